/-
  What the proof is built on (L0c to L58).
-/
import Derived.Test.YtfidjdlmmcaplaaX04
import Derived.Test.YtfidjdlmmcaplaaChecked
import Derived.KernelRfl
import Derived.Test.YtfidjdlmmcaplaaX05
/-
  The functions, compiled; written by wip/gen.
-/
namespace Go.Proofs.Ytfidjdlmmcaplaa
open Go
def lp3x0 : MC := .seq (.seq (.region [⟨none, .mv (.var 6), none⟩, ⟨some 25, .bin .lss (.tmp 0) (.cst (.int .i64 2)), none⟩]) (.cond (.var 25) .skip (.exit 0))) (.seq (.seq (.block 1 (.seq (.region [⟨none, .call (.fn 13) [.cst (.int .i64 1)], none⟩, ⟨none, .mv (.tmp 0), none⟩, ⟨none, .extract (.tmp 1) 0, none⟩, ⟨none, .extract (.tmp 1) 1, none⟩, ⟨some 7, .mv (.tmp 2), none⟩, ⟨some 8, .mv (.tmp 3), none⟩]) (.seq (.region [⟨none, .call (.fn 14) [.cst (.int .i64 1)], none⟩, ⟨none, .mv (.tmp 0), none⟩, ⟨none, .extract (.tmp 1) 0, none⟩, ⟨none, .extract (.tmp 1) 1, none⟩, ⟨some 9, .mv (.tmp 2), none⟩, ⟨some 10, .mv (.tmp 3), none⟩]) (.seq (.seq (.region [⟨none, .mv (.var 8), none⟩, ⟨none, .bin .neq (.tmp 0) (.cst (.int .i64 0)), none⟩, ⟨none, .mv (.tmp 1), none⟩, ⟨none, .mv (.var 10), some (.tmp 2, false)⟩, ⟨none, .bin .neq (.tmp 3) (.cst (.int .i64 0)), some (.tmp 2, false)⟩, ⟨some 26, .pick (.tmp 2) (.cst (.bool true)) (.tmp 4), none⟩]) (.cond (.var 26) (.seq (.region [⟨some 2, .mv (.cst (.bool false)), none⟩]) .ret) .skip)) (.seq (.region [⟨none, .mv (.var 6), none⟩, ⟨none, .mv (.var 7), none⟩, ⟨none, .indexArr 2 1 (.var 4) (.tmp 0), none⟩, ⟨none, .store 1 (.tmp 2) (.tmp 1), none⟩]) (.region [⟨none, .mv (.var 6), none⟩, ⟨none, .mv (.var 9), none⟩, ⟨none, .indexArr 2 1 (.var 5) (.tmp 0), none⟩, ⟨none, .store 1 (.tmp 2) (.tmp 1), none⟩])))))) (.kill [2, 7, 8, 9, 10, 11, 12, 13, 14, 15, 16, 17, 18, 19, 20, 21, 22, 23, 24, 25, 26, 27, 28, 29, 30, 31, 32, 33, 34, 35, 36, 37, 38, 39, 40])) (.region [⟨none, .mv (.var 6), none⟩, ⟨none, .bin .add (.tmp 0) (.cst (.int .i64 1)), none⟩, ⟨some 6, .mv (.tmp 1), none⟩]))
def lp3x1 : MC := .seq (.seq (.region [⟨none, .mv (.var 17), none⟩, ⟨none, .mv (.var 16), none⟩, ⟨none, .lenSl (.tmp 1), none⟩, ⟨some 36, .bin .lss (.tmp 0) (.tmp 2), none⟩]) (.cond (.var 36) .skip (.exit 5))) (.seq (.seq (.block 6 (.region [⟨none, .mv (.var 11), none⟩, ⟨none, .mv (.var 14), none⟩, ⟨none, .bin .sub (.cst (.int .i64 1)) (.tmp 1), none⟩, ⟨none, .mv (.var 16), none⟩, ⟨none, .mv (.var 17), none⟩, ⟨none, .indexSl 5 (.tmp 3) (.tmp 4), none⟩, ⟨none, .load true 5 (.tmp 5), none⟩, ⟨none, .build [.int .i64 0, .int .i64 0, .int .i64 0, .int .i64 0, .int .i64 0, .str []] [(0, (1, .tmp 2)), (1, (5, .tmp 6))], none⟩, ⟨none, .buildF 6 [.tmp 7], none⟩, ⟨none, .appendN 6 56 (.tmp 0) (.tmp 8), none⟩, ⟨some 11, .mv (.tmp 9), none⟩])) (.kill [2, 6, 7, 8, 9, 10, 15, 18, 19, 20, 21, 22, 23, 24, 25, 26, 27, 28, 29, 30, 31, 32, 33, 34, 35, 36, 37, 38, 39, 40])) (.region [⟨none, .mv (.var 17), none⟩, ⟨none, .bin .add (.tmp 0) (.cst (.int .i64 1)), none⟩, ⟨some 17, .mv (.tmp 1), none⟩]))
def lp3x2 : MC := .seq (.seq (.region [⟨none, .mv (.var 24), none⟩, ⟨some 39, .bin .lss (.tmp 0) (.cst (.int .i64 2)), none⟩]) (.cond (.var 39) .skip (.exit 7))) (.seq (.seq (.block 8 (.seq (.regionD [17, 15, 22, 25, 26] [⟨none, .mv (.var 24), none⟩, ⟨none, .indexArr 2 1 (.var 4) (.tmp 0), none⟩, ⟨none, .load false 1 (.tmp 1), none⟩, ⟨none, .call (.fn 25) [.tmp 2], none⟩, ⟨none, .mv (.var 24), none⟩, ⟨none, .indexArr 2 1 (.var 5) (.tmp 4), none⟩, ⟨none, .load false 1 (.tmp 5), none⟩, ⟨none, .nilCheck (.tmp 6), none⟩, ⟨none, .fieldAddr 1 (.tmp 7), none⟩, ⟨none, .load false 1 (.tmp 8), none⟩, ⟨none, .bin .neq (.tmp 3) (.tmp 9), none⟩, ⟨none, .mv (.tmp 10), none⟩, ⟨none, .mv (.var 24), some (.tmp 11, false)⟩, ⟨none, .indexArr 2 1 (.var 4) (.tmp 12), some (.tmp 11, false)⟩, ⟨none, .load false 1 (.tmp 13), some (.tmp 11, false)⟩, ⟨none, .call (.fn 26) [.tmp 14], some (.tmp 11, false)⟩, ⟨none, .mv (.var 24), some (.tmp 11, false)⟩, ⟨none, .indexArr 2 1 (.var 5) (.tmp 16), some (.tmp 11, false)⟩, ⟨none, .load false 1 (.tmp 17), some (.tmp 11, false)⟩, ⟨none, .nilCheck (.tmp 18), some (.tmp 11, false)⟩, ⟨none, .fieldAddr 0 (.tmp 19), some (.tmp 11, false)⟩, ⟨none, .load false 1 (.tmp 20), some (.tmp 11, false)⟩, ⟨none, .bin .neq (.tmp 15) (.tmp 21), some (.tmp 11, false)⟩, ⟨none, .pick (.tmp 11) (.cst (.bool true)) (.tmp 22), none⟩, ⟨none, .mv (.tmp 23), none⟩, ⟨none, .mv (.var 24), some (.tmp 24, false)⟩, ⟨none, .indexArr 2 1 (.var 4) (.tmp 25), some (.tmp 24, false)⟩, ⟨none, .load false 1 (.tmp 26), some (.tmp 24, false)⟩, ⟨none, .call (.fn 27) [.tmp 27], some (.tmp 24, false)⟩, ⟨none, .mv (.var 24), some (.tmp 24, false)⟩, ⟨none, .indexArr 2 1 (.var 5) (.tmp 29), some (.tmp 24, false)⟩, ⟨none, .load false 1 (.tmp 30), some (.tmp 24, false)⟩, ⟨none, .nilCheck (.tmp 31), some (.tmp 24, false)⟩, ⟨none, .fieldAddr 2 (.tmp 32), some (.tmp 24, false)⟩, ⟨none, .load false 1 (.tmp 33), some (.tmp 24, false)⟩, ⟨none, .lenSl (.tmp 34), some (.tmp 24, false)⟩, ⟨none, .bin .neq (.tmp 28) (.tmp 35), some (.tmp 24, false)⟩, ⟨none, .pick (.tmp 24) (.cst (.bool true)) (.tmp 36), none⟩, ⟨none, .mv (.tmp 37), none⟩, ⟨none, .indexArr 3 1 (.var 13) (.cst (.int .i64 2)), some (.tmp 38, false)⟩, ⟨none, .load false 1 (.tmp 39), some (.tmp 38, false)⟩, ⟨none, .call (.fn 15) [.tmp 40, .cst (.int .i64 3)], some (.tmp 38, false)⟩, ⟨none, .bin .eql (.tmp 41) (.cst (.int .i64 0)), some (.tmp 38, false)⟩, ⟨none, .mv (.tmp 42), some (.tmp 38, false)⟩, ⟨none, .mv (.var 24), some (.tmp 43, true)⟩, ⟨none, .indexArr 2 1 (.var 4) (.tmp 44), some (.tmp 43, true)⟩, ⟨none, .load false 1 (.tmp 45), some (.tmp 43, true)⟩, ⟨none, .call (.fn 28) [.tmp 46], some (.tmp 43, true)⟩, ⟨none, .mv (.var 24), some (.tmp 43, true)⟩, ⟨none, .indexArr 2 1 (.var 5) (.tmp 48), some (.tmp 43, true)⟩, ⟨none, .load false 1 (.tmp 49), some (.tmp 43, true)⟩, ⟨none, .call (.fn 29) [.tmp 50], some (.tmp 43, true)⟩, ⟨none, .call (.fn 22) [.tmp 47, .tmp 51], some (.tmp 43, true)⟩, ⟨none, .un .not (.tmp 52), some (.tmp 43, true)⟩, ⟨none, .pick (.tmp 43) (.tmp 53) (.cst (.bool false)), some (.tmp 38, false)⟩, ⟨some 40, .pick (.tmp 38) (.cst (.bool true)) (.tmp 54), none⟩] [(28, 30), (28, 31), (28, 33), (28, 34), (47, 49), (47, 50)]) (.cond (.var 40) (.seq (.region [⟨some 2, .mv (.cst (.bool false)), none⟩]) .ret) .skip))) (.kill [2, 6, 7, 8, 9, 10, 14, 15, 16, 17, 18, 19, 20, 21, 22, 23, 25, 26, 27, 28, 29, 30, 31, 32, 33, 34, 35, 36, 37, 38, 39, 40])) (.region [⟨none, .mv (.var 24), none⟩, ⟨none, .bin .add (.tmp 0) (.cst (.int .i64 1)), none⟩, ⟨some 24, .mv (.tmp 1), none⟩]))
def lp3x3 : MC := .seq (.seq (.region [⟨none, .mv (.var 12), none⟩, ⟨none, .mv (.var 0), none⟩, ⟨none, .lenSl (.tmp 1), none⟩, ⟨none, .bin .lss (.tmp 0) (.tmp 2), none⟩, ⟨none, .mv (.tmp 3), none⟩, ⟨none, .mv (.var 12), some (.tmp 4, true)⟩, ⟨none, .bin .lss (.tmp 5) (.cst (.int .i64 60)), some (.tmp 4, true)⟩, ⟨some 27, .pick (.tmp 4) (.tmp 6) (.cst (.bool false)), none⟩]) (.cond (.var 27) .skip (.exit 2))) (.seq (.seq (.block 3 (.seq (.region [⟨none, .mv (.var 0), none⟩, ⟨none, .mv (.var 12), none⟩, ⟨none, .indexSl 3 (.tmp 0) (.tmp 1), none⟩, ⟨none, .load true 3 (.tmp 2), none⟩, ⟨some 13, .alloc 3 (.agg [.int .i64 0, .int .i64 0, .int .i64 0]), none⟩, ⟨none, .store 3 (.var 13) (.tmp 3), none⟩]) (.seq (.region [⟨none, .indexArr 3 1 (.var 13) (.cst (.int .i64 1)), none⟩, ⟨none, .load false 1 (.tmp 0), none⟩, ⟨none, .call (.fn 15) [.tmp 1, .cst (.int .i64 2)], none⟩, ⟨some 14, .mv (.tmp 2), none⟩]) (.seq (.seq (.region [⟨none, .indexArr 3 1 (.var 13) (.cst (.int .i64 0)), none⟩, ⟨none, .load false 1 (.tmp 0), none⟩, ⟨some 28, .call (.fn 15) [.tmp 1, .cst (.int .i64 10)], none⟩]) (.seq (.block 4 (.seq (.seq (.region [⟨none, .bin .eql (.var 28) (.cst (.int .i64 0)), none⟩, ⟨some 32, .mv (.tmp 0), none⟩]) (.cond (.var 32) .skip (.seq (.region [⟨none, .bin .eql (.var 28) (.cst (.int .i64 1)), none⟩, ⟨some 32, .mv (.tmp 0), none⟩]) (.cond (.var 32) .skip (.region [⟨none, .bin .eql (.var 28) (.cst (.int .i64 2)), none⟩, ⟨some 32, .mv (.tmp 0), none⟩]))))) (.cond (.var 32) (.seq (.regionD [17, 15, 22, 25, 26] [⟨none, .mv (.var 14), none⟩, ⟨none, .indexArr 2 1 (.var 4) (.tmp 0), none⟩, ⟨none, .load false 1 (.tmp 1), none⟩, ⟨none, .mv (.var 12), none⟩, ⟨none, .call (.fn 17) [.tmp 3], none⟩, ⟨none, .call (.fn 16) [.tmp 2, .tmp 4], none⟩, ⟨none, .mv (.var 14), none⟩, ⟨none, .indexArr 2 1 (.var 5) (.tmp 6), none⟩, ⟨none, .load false 1 (.tmp 7), none⟩, ⟨none, .mv (.var 12), none⟩, ⟨none, .call (.fn 17) [.tmp 9], none⟩, ⟨none, .call (.fn 18) [.tmp 8, .tmp 10], none⟩, ⟨some 33, .bin .neq (.tmp 5) (.tmp 11), none⟩] [(5, 7), (5, 8)]) (.cond (.var 33) (.seq (.region [⟨some 2, .mv (.cst (.bool false)), none⟩]) .ret) .skip)) (.seq (.seq (.region [⟨none, .bin .eql (.var 28) (.cst (.int .i64 3)), none⟩, ⟨some 34, .mv (.tmp 0), none⟩]) (.cond (.var 34) .skip (.seq (.region [⟨none, .bin .eql (.var 28) (.cst (.int .i64 4)), none⟩, ⟨some 34, .mv (.tmp 0), none⟩]) (.cond (.var 34) .skip (.region [⟨none, .bin .eql (.var 28) (.cst (.int .i64 5)), none⟩, ⟨some 34, .mv (.tmp 0), none⟩]))))) (.cond (.var 34) (.seq (.region [⟨none, .mv (.var 14), none⟩, ⟨none, .indexArr 2 1 (.var 4) (.tmp 0), none⟩, ⟨none, .load false 1 (.tmp 1), none⟩, ⟨none, .call (.fn 19) [.tmp 2], none⟩, ⟨some 15, .mv (.tmp 3), none⟩]) (.seq (.region [⟨none, .mv (.var 14), none⟩, ⟨none, .indexArr 2 1 (.var 5) (.tmp 0), none⟩, ⟨none, .load false 1 (.tmp 1), none⟩, ⟨none, .call (.fn 20) [.tmp 2], none⟩, ⟨some 16, .mv (.tmp 3), none⟩]) (.seq (.seq (.region [⟨none, .mv (.var 15), none⟩, ⟨none, .mv (.var 16), none⟩, ⟨none, .call (.fn 21) [.tmp 0, .tmp 1], none⟩, ⟨some 35, .un .not (.tmp 2), none⟩]) (.cond (.var 35) (.seq (.region [⟨some 2, .mv (.cst (.bool false)), none⟩]) .ret) .skip)) (.seq (.region [⟨some 17, .mv (.cst (.int .i64 0)), none⟩]) (.seq (.block 5 (.loop [2, 6, 7, 8, 9, 10, 15, 18, 19, 20, 21, 22, 23, 24, 25, 26, 27, 28, 29, 30, 31, 32, 33, 34, 35, 36, 37, 38, 39, 40] lp3x1)) (.kill [2, 6, 7, 8, 9, 10, 14, 15, 16, 17, 18, 19, 20, 21, 22, 23, 24, 25, 26, 27, 28, 29, 30, 31, 32, 33, 34, 35, 36, 37, 38, 39, 40])))))) (.seq (.region [⟨none, .bin .eql (.var 28) (.cst (.int .i64 9)), none⟩, ⟨some 37, .mv (.tmp 0), none⟩]) (.cond (.var 37) (.seq (.region [⟨none, .mv (.var 14), none⟩, ⟨none, .indexArr 2 1 (.var 5) (.tmp 0), none⟩, ⟨none, .load false 1 (.tmp 1), none⟩, ⟨none, .nilCheck (.tmp 2), none⟩, ⟨none, .fieldAddr 0 (.tmp 3), none⟩, ⟨none, .load false 1 (.tmp 4), none⟩, ⟨none, .indexArr 3 1 (.var 13) (.cst (.int .i64 2)), none⟩, ⟨none, .load false 1 (.tmp 6), none⟩, ⟨none, .call (.fn 15) [.tmp 7, .cst (.int .i64 4)], none⟩, ⟨none, .bin .add (.tmp 5) (.tmp 8), none⟩, ⟨some 18, .mv (.tmp 9), none⟩]) (.seq (.region [⟨none, .mv (.var 18), none⟩, ⟨none, .call (.fn 13) [.tmp 0], none⟩, ⟨none, .mv (.tmp 1), none⟩, ⟨none, .extract (.tmp 2) 0, none⟩, ⟨none, .extract (.tmp 2) 1, none⟩, ⟨some 19, .mv (.tmp 3), none⟩, ⟨some 20, .mv (.tmp 4), none⟩]) (.seq (.region [⟨none, .mv (.var 18), none⟩, ⟨none, .call (.fn 14) [.tmp 0], none⟩, ⟨none, .mv (.tmp 1), none⟩, ⟨none, .extract (.tmp 2) 0, none⟩, ⟨none, .extract (.tmp 2) 1, none⟩, ⟨some 21, .mv (.tmp 3), none⟩, ⟨some 22, .mv (.tmp 4), none⟩]) (.seq (.seq (.region [⟨none, .mv (.var 20), none⟩, ⟨none, .mv (.var 22), none⟩, ⟨some 38, .bin .neq (.tmp 0) (.tmp 1), none⟩]) (.cond (.var 38) (.seq (.region [⟨some 2, .mv (.cst (.bool false)), none⟩]) .ret) .skip)) (.seq (.region [⟨none, .mv (.var 14), none⟩, ⟨none, .mv (.var 19), none⟩, ⟨none, .indexArr 2 1 (.var 4) (.tmp 0), none⟩, ⟨none, .store 1 (.tmp 2) (.tmp 1), none⟩]) (.region [⟨none, .mv (.var 14), none⟩, ⟨none, .mv (.var 21), none⟩, ⟨none, .indexArr 2 1 (.var 5) (.tmp 0), none⟩, ⟨none, .store 1 (.tmp 2) (.tmp 1), none⟩])))))) (.seq (.region [⟨none, .mv (.var 14), none⟩, ⟨none, .build [.int .i64 0, .int .i64 0, .int .i64 0, .int .i64 0, .int .i64 0, .str []] [(0, (1, .tmp 0))], none⟩, ⟨some 23, .alloc 6 (.agg [.int .i64 0, .int .i64 0, .int .i64 0, .int .i64 0, .int .i64 0, .str []]), none⟩, ⟨none, .store 6 (.var 23) (.tmp 1), none⟩]) (.seq (.seq (.region [⟨none, .indexArr 3 1 (.var 13) (.cst (.int .i64 0)), none⟩, ⟨none, .load false 1 (.tmp 0), none⟩, ⟨none, .call (.fn 15) [.tmp 1, .cst (.int .i64 10)], none⟩, ⟨none, .bin .eql (.tmp 2) (.cst (.int .i64 8)), none⟩, ⟨none, .mv (.tmp 3), none⟩, ⟨none, .mv (.var 1), some (.tmp 4, true)⟩, ⟨none, .lenSl (.tmp 5), some (.tmp 4, true)⟩, ⟨none, .bin .gtr (.tmp 6) (.cst (.int .i64 0)), some (.tmp 4, true)⟩, ⟨some 29, .pick (.tmp 4) (.tmp 7) (.cst (.bool false)), none⟩]) (.cond (.var 29) (.region [⟨none, .mv (.var 1), none⟩, ⟨none, .indexArr 3 1 (.var 13) (.cst (.int .i64 2)), none⟩, ⟨none, .load false 1 (.tmp 1), none⟩, ⟨none, .mv (.var 1), none⟩, ⟨none, .lenSl (.tmp 3), none⟩, ⟨none, .call (.fn 15) [.tmp 2, .tmp 4], none⟩, ⟨none, .indexSl 5 (.tmp 0) (.tmp 5), none⟩, ⟨none, .load true 5 (.tmp 6), none⟩, ⟨none, .fieldAddr 1 (.var 23), none⟩, ⟨none, .store 5 (.tmp 8) (.tmp 7), none⟩]) (.seq (.region [⟨none, .mv (.var 11), none⟩, ⟨none, .lenSl (.tmp 0), none⟩, ⟨some 30, .bin .gtr (.tmp 1) (.cst (.int .i64 0)), none⟩]) (.cond (.var 30) (.region [⟨none, .mv (.var 11), none⟩, ⟨none, .indexArr 3 1 (.var 13) (.cst (.int .i64 2)), none⟩, ⟨none, .load false 1 (.tmp 1), none⟩, ⟨none, .mv (.var 11), none⟩, ⟨none, .lenSl (.tmp 3), none⟩, ⟨none, .call (.fn 15) [.tmp 2, .tmp 4], none⟩, ⟨none, .indexSl 6 (.tmp 0) (.tmp 5), none⟩, ⟨none, .load true 6 (.tmp 6), none⟩, ⟨none, .store 6 (.var 23) (.tmp 7), none⟩]) .skip)))) (.seq (.regionD [17, 15, 22, 25, 26] [⟨none, .fieldAddr 0 (.var 23), none⟩, ⟨none, .load false 1 (.tmp 0), none⟩, ⟨none, .indexArr 2 1 (.var 4) (.tmp 1), none⟩, ⟨none, .load false 1 (.tmp 2), none⟩, ⟨none, .fieldAddr 1 (.var 23), none⟩, ⟨none, .load true 5 (.tmp 4), none⟩, ⟨none, .call (.fn 23) [.tmp 3, .tmp 5], none⟩, ⟨none, .fieldAddr 0 (.var 23), none⟩, ⟨none, .load false 1 (.tmp 7), none⟩, ⟨none, .indexArr 2 1 (.var 5) (.tmp 8), none⟩, ⟨none, .load false 1 (.tmp 9), none⟩, ⟨none, .fieldAddr 1 (.var 23), none⟩, ⟨none, .load true 5 (.tmp 11), none⟩, ⟨none, .call (.fn 24) [.tmp 10, .tmp 12], none⟩, ⟨none, .call (.fn 22) [.tmp 6, .tmp 13], none⟩, ⟨some 31, .un .not (.tmp 14), none⟩] [(6, 7), (6, 8), (6, 9), (6, 10), (6, 11), (6, 12)]) (.cond (.var 31) (.seq (.region [⟨some 2, .mv (.cst (.bool false)), none⟩]) .ret) .skip))))))))))) (.kill [2, 6, 7, 8, 9, 10, 14, 15, 16, 17, 18, 19, 20, 21, 22, 23, 24, 25, 26, 27, 28, 29, 30, 31, 32, 33, 34, 35, 36, 37, 38, 39, 40]))) (.seq (.region [⟨some 24, .mv (.cst (.int .i64 0)), none⟩]) (.seq (.block 7 (.loop [2, 6, 7, 8, 9, 10, 14, 15, 16, 17, 18, 19, 20, 21, 22, 23, 25, 26, 27, 28, 29, 30, 31, 32, 33, 34, 35, 36, 37, 38, 39, 40] lp3x2)) (.kill [2, 6, 7, 8, 9, 10, 13, 14, 15, 16, 17, 18, 19, 20, 21, 22, 23, 24, 25, 26, 27, 28, 29, 30, 31, 32, 33, 34, 35, 36, 37, 38, 39, 40]))))))) (.kill [2, 6, 7, 8, 9, 10, 13, 14, 15, 16, 17, 18, 19, 20, 21, 22, 23, 24, 25, 26, 27, 28, 29, 30, 31, 32, 33, 34, 35, 36, 37, 38, 39, 40])) (.region [⟨none, .mv (.var 12), none⟩, ⟨none, .bin .add (.tmp 0) (.cst (.int .i64 1)), none⟩, ⟨some 12, .mv (.tmp 1), none⟩]))
def mf3 : MFun := ⟨2, 41, .seq (.region [⟨some 2, .mv (.cst (.bool false)), none⟩]) (.seq (.region [⟨none, .call (.fn 12) [], none⟩, ⟨some 3, .mv (.tmp 0), none⟩]) (.seq (.region [⟨some 4, .alloc 2 (.agg [.nilP, .nilP]), none⟩]) (.seq (.region [⟨some 5, .alloc 2 (.agg [.nilP, .nilP]), none⟩]) (.seq (.seq (.region [⟨some 6, .mv (.cst (.int .i64 0)), none⟩]) (.seq (.block 0 (.loop [2, 7, 8, 9, 10, 11, 12, 13, 14, 15, 16, 17, 18, 19, 20, 21, 22, 23, 24, 25, 26, 27, 28, 29, 30, 31, 32, 33, 34, 35, 36, 37, 38, 39, 40] lp3x0)) (.kill [2, 6, 7, 8, 9, 10, 11, 12, 13, 14, 15, 16, 17, 18, 19, 20, 21, 22, 23, 24, 25, 26, 27, 28, 29, 30, 31, 32, 33, 34, 35, 36, 37, 38, 39, 40]))) (.seq (.region [⟨some 11, .mv (.cst .nilS), none⟩]) (.seq (.seq (.region [⟨some 12, .mv (.cst (.int .i64 0)), none⟩]) (.seq (.block 2 (.loop [2, 6, 7, 8, 9, 10, 13, 14, 15, 16, 17, 18, 19, 20, 21, 22, 23, 24, 25, 26, 27, 28, 29, 30, 31, 32, 33, 34, 35, 36, 37, 38, 39, 40] lp3x3)) (.kill [0, 1, 2, 4, 5, 6, 7, 8, 9, 10, 11, 12, 13, 14, 15, 16, 17, 18, 19, 20, 21, 22, 23, 24, 25, 26, 27, 28, 29, 30, 31, 32, 33, 34, 35, 36, 37, 38, 39, 40]))) (.seq (.region [⟨none, .mv (.var 3), none⟩, ⟨some 2, .mv (.tmp 0), none⟩]) .ret))))))), [.tmp 2]⟩
def mask3x1 : List Nat := [2, 6, 7, 8, 9, 10, 15, 18, 19, 20, 21, 22, 23, 24, 25, 26, 27, 28, 29, 30, 31, 32, 33, 34, 35, 36, 37, 38, 39, 40]
abbrev st3x1 (v0 v1 v3 v4 v5 v11 v12 v13 v14 v16 v17 : AV) : List AV := [v0, v1, .undef, v3, v4, v5, .undef, .undef, .undef, .undef, .undef, v11, v12, v13, v14, .undef, v16, v17, .undef, .undef, .undef, .undef, .undef, .undef, .undef, .undef, .undef, .undef, .undef, .undef, .undef, .undef, .undef, .undef, .undef, .undef, .undef, .undef, .undef, .undef, .undef]
theorem cl3x1 {v0 v1 d2 v3 v4 v5 d6 d7 d8 d9 d10 v11 v12 v13 v14 d15 v16 v17 d18 d19 d20 d21 d22 d23 d24 d25 d26 d27 d28 d29 d30 d31 d32 d33 d34 d35 d36 d37 d38 d39 d40 : AV} : clear mask3x1 [v0, v1, d2, v3, v4, v5, d6, d7, d8, d9, d10, v11, v12, v13, v14, d15, v16, v17, d18, d19, d20, d21, d22, d23, d24, d25, d26, d27, d28, d29, d30, d31, d32, d33, d34, d35, d36, d37, d38, d39, d40] = st3x1 v0 v1 v3 v4 v5 v11 v12 v13 v14 v16 v17 := by simp only [mask3x1, clear, List.foldl_cons, List.foldl_nil, List.set_cons_zero, List.set_cons_succ]
theorem go3x1 {E : Env} {fuel : Nat} {A : Arena} {o : Out} {k : List KC} {v0 v1 d2 v3 v4 v5 d6 d7 d8 d9 d10 v11 v12 v13 v14 d15 v16 v17 d18 d19 d20 d21 d22 d23 d24 d25 d26 d27 d28 d29 d30 d31 d32 d33 d34 d35 d36 d37 d38 d39 d40 : AV} (h : iter (evC E fuel lp3x1) mask3x1 fuel (st3x1 v0 v1 v3 v4 v5 v11 v12 v13 v14 v16 v17) A = some o) :
    run E fuel (.code (.loop [2, 6, 7, 8, 9, 10, 15, 18, 19, 20, 21, 22, 23, 24, 25, 26, 27, 28, 29, 30, 31, 32, 33, 34, 35, 36, 37, 38, 39, 40] lp3x1) :: k) [v0, v1, d2, v3, v4, v5, d6, d7, d8, d9, d10, v11, v12, v13, v14, d15, v16, v17, d18, d19, d20, d21, d22, d23, d24, d25, d26, d27, d28, d29, d30, d31, d32, d33, d34, d35, d36, d37, d38, d39, d40] A = after E fuel k o := run_loopC mask3x1 _ _ (by rw [cl3x1]; exact h)
def mask3x2 : List Nat := [2, 6, 7, 8, 9, 10, 14, 15, 16, 17, 18, 19, 20, 21, 22, 23, 25, 26, 27, 28, 29, 30, 31, 32, 33, 34, 35, 36, 37, 38, 39, 40]
abbrev st3x2 (v0 v1 v3 v4 v5 v11 v12 v13 v24 : AV) : List AV := [v0, v1, .undef, v3, v4, v5, .undef, .undef, .undef, .undef, .undef, v11, v12, v13, .undef, .undef, .undef, .undef, .undef, .undef, .undef, .undef, .undef, .undef, v24, .undef, .undef, .undef, .undef, .undef, .undef, .undef, .undef, .undef, .undef, .undef, .undef, .undef, .undef, .undef, .undef]
theorem cl3x2 {v0 v1 d2 v3 v4 v5 d6 d7 d8 d9 d10 v11 v12 v13 d14 d15 d16 d17 d18 d19 d20 d21 d22 d23 v24 d25 d26 d27 d28 d29 d30 d31 d32 d33 d34 d35 d36 d37 d38 d39 d40 : AV} : clear mask3x2 [v0, v1, d2, v3, v4, v5, d6, d7, d8, d9, d10, v11, v12, v13, d14, d15, d16, d17, d18, d19, d20, d21, d22, d23, v24, d25, d26, d27, d28, d29, d30, d31, d32, d33, d34, d35, d36, d37, d38, d39, d40] = st3x2 v0 v1 v3 v4 v5 v11 v12 v13 v24 := by simp only [mask3x2, clear, List.foldl_cons, List.foldl_nil, List.set_cons_zero, List.set_cons_succ]
theorem go3x2 {E : Env} {fuel : Nat} {A : Arena} {o : Out} {k : List KC} {v0 v1 d2 v3 v4 v5 d6 d7 d8 d9 d10 v11 v12 v13 d14 d15 d16 d17 d18 d19 d20 d21 d22 d23 v24 d25 d26 d27 d28 d29 d30 d31 d32 d33 d34 d35 d36 d37 d38 d39 d40 : AV} (h : iter (evC E fuel lp3x2) mask3x2 fuel (st3x2 v0 v1 v3 v4 v5 v11 v12 v13 v24) A = some o) :
    run E fuel (.code (.loop [2, 6, 7, 8, 9, 10, 14, 15, 16, 17, 18, 19, 20, 21, 22, 23, 25, 26, 27, 28, 29, 30, 31, 32, 33, 34, 35, 36, 37, 38, 39, 40] lp3x2) :: k) [v0, v1, d2, v3, v4, v5, d6, d7, d8, d9, d10, v11, v12, v13, d14, d15, d16, d17, d18, d19, d20, d21, d22, d23, v24, d25, d26, d27, d28, d29, d30, d31, d32, d33, d34, d35, d36, d37, d38, d39, d40] A = after E fuel k o := run_loopC mask3x2 _ _ (by rw [cl3x2]; exact h)
def mask3x0 : List Nat := [2, 7, 8, 9, 10, 11, 12, 13, 14, 15, 16, 17, 18, 19, 20, 21, 22, 23, 24, 25, 26, 27, 28, 29, 30, 31, 32, 33, 34, 35, 36, 37, 38, 39, 40]
abbrev st3x0 (v0 v1 v3 v4 v5 v6 : AV) : List AV := [v0, v1, .undef, v3, v4, v5, v6, .undef, .undef, .undef, .undef, .undef, .undef, .undef, .undef, .undef, .undef, .undef, .undef, .undef, .undef, .undef, .undef, .undef, .undef, .undef, .undef, .undef, .undef, .undef, .undef, .undef, .undef, .undef, .undef, .undef, .undef, .undef, .undef, .undef, .undef]
theorem cl3x0 {v0 v1 d2 v3 v4 v5 v6 d7 d8 d9 d10 d11 d12 d13 d14 d15 d16 d17 d18 d19 d20 d21 d22 d23 d24 d25 d26 d27 d28 d29 d30 d31 d32 d33 d34 d35 d36 d37 d38 d39 d40 : AV} : clear mask3x0 [v0, v1, d2, v3, v4, v5, v6, d7, d8, d9, d10, d11, d12, d13, d14, d15, d16, d17, d18, d19, d20, d21, d22, d23, d24, d25, d26, d27, d28, d29, d30, d31, d32, d33, d34, d35, d36, d37, d38, d39, d40] = st3x0 v0 v1 v3 v4 v5 v6 := by simp only [mask3x0, clear, List.foldl_cons, List.foldl_nil, List.set_cons_zero, List.set_cons_succ]
theorem go3x0 {E : Env} {fuel : Nat} {A : Arena} {o : Out} {k : List KC} {v0 v1 d2 v3 v4 v5 v6 d7 d8 d9 d10 d11 d12 d13 d14 d15 d16 d17 d18 d19 d20 d21 d22 d23 d24 d25 d26 d27 d28 d29 d30 d31 d32 d33 d34 d35 d36 d37 d38 d39 d40 : AV} (h : iter (evC E fuel lp3x0) mask3x0 fuel (st3x0 v0 v1 v3 v4 v5 v6) A = some o) :
    run E fuel (.code (.loop [2, 7, 8, 9, 10, 11, 12, 13, 14, 15, 16, 17, 18, 19, 20, 21, 22, 23, 24, 25, 26, 27, 28, 29, 30, 31, 32, 33, 34, 35, 36, 37, 38, 39, 40] lp3x0) :: k) [v0, v1, d2, v3, v4, v5, v6, d7, d8, d9, d10, d11, d12, d13, d14, d15, d16, d17, d18, d19, d20, d21, d22, d23, d24, d25, d26, d27, d28, d29, d30, d31, d32, d33, d34, d35, d36, d37, d38, d39, d40] A = after E fuel k o := run_loopC mask3x0 _ _ (by rw [cl3x0]; exact h)
def mask3x3 : List Nat := [2, 6, 7, 8, 9, 10, 13, 14, 15, 16, 17, 18, 19, 20, 21, 22, 23, 24, 25, 26, 27, 28, 29, 30, 31, 32, 33, 34, 35, 36, 37, 38, 39, 40]
abbrev st3x3 (v0 v1 v3 v4 v5 v11 v12 : AV) : List AV := [v0, v1, .undef, v3, v4, v5, .undef, .undef, .undef, .undef, .undef, v11, v12, .undef, .undef, .undef, .undef, .undef, .undef, .undef, .undef, .undef, .undef, .undef, .undef, .undef, .undef, .undef, .undef, .undef, .undef, .undef, .undef, .undef, .undef, .undef, .undef, .undef, .undef, .undef, .undef]
theorem cl3x3 {v0 v1 d2 v3 v4 v5 d6 d7 d8 d9 d10 v11 v12 d13 d14 d15 d16 d17 d18 d19 d20 d21 d22 d23 d24 d25 d26 d27 d28 d29 d30 d31 d32 d33 d34 d35 d36 d37 d38 d39 d40 : AV} : clear mask3x3 [v0, v1, d2, v3, v4, v5, d6, d7, d8, d9, d10, v11, v12, d13, d14, d15, d16, d17, d18, d19, d20, d21, d22, d23, d24, d25, d26, d27, d28, d29, d30, d31, d32, d33, d34, d35, d36, d37, d38, d39, d40] = st3x3 v0 v1 v3 v4 v5 v11 v12 := by simp only [mask3x3, clear, List.foldl_cons, List.foldl_nil, List.set_cons_zero, List.set_cons_succ]
theorem go3x3 {E : Env} {fuel : Nat} {A : Arena} {o : Out} {k : List KC} {v0 v1 d2 v3 v4 v5 d6 d7 d8 d9 d10 v11 v12 d13 d14 d15 d16 d17 d18 d19 d20 d21 d22 d23 d24 d25 d26 d27 d28 d29 d30 d31 d32 d33 d34 d35 d36 d37 d38 d39 d40 : AV} (h : iter (evC E fuel lp3x3) mask3x3 fuel (st3x3 v0 v1 v3 v4 v5 v11 v12) A = some o) :
    run E fuel (.code (.loop [2, 6, 7, 8, 9, 10, 13, 14, 15, 16, 17, 18, 19, 20, 21, 22, 23, 24, 25, 26, 27, 28, 29, 30, 31, 32, 33, 34, 35, 36, 37, 38, 39, 40] lp3x3) :: k) [v0, v1, d2, v3, v4, v5, d6, d7, d8, d9, d10, v11, v12, d13, d14, d15, d16, d17, d18, d19, d20, d21, d22, d23, d24, d25, d26, d27, d28, d29, d30, d31, d32, d33, d34, d35, d36, d37, d38, d39, d40] A = after E fuel k o := run_loopC mask3x3 _ _ (by rw [cl3x3]; exact h)
set_option maxHeartbeats 4000000 in
theorem comp3 : compFun Try.prog Try.f3 2 [0, 1, 4, 5, 6, 7, 8, 9, 10, 11, 12, 13, 14, 15, 16, 17, 18, 19, 20, 21, 22, 23, 24, 25, 26, 29, 45, 59, 71, 82, 94, 118, 119, 135, 136, 151, 155, 168, 192, 200, 258] [17, 15, 22, 25, 26] true ([[2, 7, 8, 9, 10, 11, 12, 13, 14, 15, 16, 17, 18, 19, 20, 21, 22, 23, 24, 25, 26, 27, 28, 29, 30, 31, 32, 33, 34, 35, 36, 37, 38, 39, 40], [2, 6, 7, 8, 9, 10, 13, 14, 15, 16, 17, 18, 19, 20, 21, 22, 23, 24, 25, 26, 27, 28, 29, 30, 31, 32, 33, 34, 35, 36, 37, 38, 39, 40], [2, 6, 7, 8, 9, 10, 15, 18, 19, 20, 21, 22, 23, 24, 25, 26, 27, 28, 29, 30, 31, 32, 33, 34, 35, 36, 37, 38, 39, 40], [2, 6, 7, 8, 9, 10, 14, 15, 16, 17, 18, 19, 20, 21, 22, 23, 25, 26, 27, 28, 29, 30, 31, 32, 33, 34, 35, 36, 37, 38, 39, 40]], [[2, 7, 8, 9, 10, 11, 12, 13, 14, 15, 16, 17, 18, 19, 20, 21, 22, 23, 24, 25, 26, 27, 28, 29, 30, 31, 32, 33, 34, 35, 36, 37, 38, 39, 40], [2, 6, 7, 8, 9, 10, 11, 12, 13, 14, 15, 16, 17, 18, 19, 20, 21, 22, 23, 24, 25, 26, 27, 28, 29, 30, 31, 32, 33, 34, 35, 36, 37, 38, 39, 40], [2, 6, 7, 8, 9, 10, 15, 18, 19, 20, 21, 22, 23, 24, 25, 26, 27, 28, 29, 30, 31, 32, 33, 34, 35, 36, 37, 38, 39, 40], [2, 6, 7, 8, 9, 10, 14, 15, 16, 17, 18, 19, 20, 21, 22, 23, 24, 25, 26, 27, 28, 29, 30, 31, 32, 33, 34, 35, 36, 37, 38, 39, 40], [2, 6, 7, 8, 9, 10, 14, 15, 16, 17, 18, 19, 20, 21, 22, 23, 24, 25, 26, 27, 28, 29, 30, 31, 32, 33, 34, 35, 36, 37, 38, 39, 40], [2, 6, 7, 8, 9, 10, 14, 15, 16, 17, 18, 19, 20, 21, 22, 23, 25, 26, 27, 28, 29, 30, 31, 32, 33, 34, 35, 36, 37, 38, 39, 40], [2, 6, 7, 8, 9, 10, 13, 14, 15, 16, 17, 18, 19, 20, 21, 22, 23, 24, 25, 26, 27, 28, 29, 30, 31, 32, 33, 34, 35, 36, 37, 38, 39, 40], [2, 6, 7, 8, 9, 10, 13, 14, 15, 16, 17, 18, 19, 20, 21, 22, 23, 24, 25, 26, 27, 28, 29, 30, 31, 32, 33, 34, 35, 36, 37, 38, 39, 40], [0, 1, 2, 4, 5, 6, 7, 8, 9, 10, 11, 12, 13, 14, 15, 16, 17, 18, 19, 20, 21, 22, 23, 24, 25, 26, 27, 28, 29, 30, 31, 32, 33, 34, 35, 36, 37, 38, 39, 40]]) = some mf3 := by kernel_rfl
theorem at3 : Try.prog.funcs[3]? = some Try.f3 := by kernel_rfl
def lp7x0 : MC := .seq (.seq (.region [⟨none, .mv (.var 4), none⟩, ⟨none, .mv (.var 0), none⟩, ⟨none, .lenSl (.tmp 1), none⟩, ⟨none, .bin .lss (.tmp 0) (.tmp 2), none⟩, ⟨none, .mv (.tmp 3), none⟩, ⟨none, .mv (.var 4), some (.tmp 4, true)⟩, ⟨none, .bin .lss (.tmp 5) (.cst (.int .i64 120)), some (.tmp 4, true)⟩, ⟨none, .pick (.tmp 4) (.tmp 6) (.cst (.bool false)), none⟩, ⟨none, .mv (.tmp 7), none⟩, ⟨none, .mv (.var 3), some (.tmp 8, true)⟩, ⟨none, .nilCheck (.tmp 9), some (.tmp 8, true)⟩, ⟨none, .fieldAddr 10 (.tmp 10), some (.tmp 8, true)⟩, ⟨none, .load false 1 (.tmp 11), some (.tmp 8, true)⟩, ⟨some 9, .pick (.tmp 8) (.tmp 12) (.cst (.bool false)), none⟩]) (.cond (.var 9) .skip (.exit 0))) (.seq (.seq (.block 1 (.region [⟨none, .mv (.var 3), none⟩, ⟨none, .mv (.var 0), none⟩, ⟨none, .mv (.var 4), none⟩, ⟨none, .indexSl 3 (.tmp 1) (.tmp 2), none⟩, ⟨none, .load true 3 (.tmp 3), none⟩, ⟨none, .call (.fn 37) [.tmp 0, .tmp 4], none⟩])) (.kill [1, 5, 6, 7, 8, 9, 10, 11, 12, 13, 14, 15])) (.region [⟨none, .mv (.var 4), none⟩, ⟨none, .bin .add (.tmp 0) (.cst (.int .i64 1)), none⟩, ⟨some 4, .mv (.tmp 1), none⟩]))
def lp7x1 : MC := .seq (.seq (.region [⟨none, .mv (.var 3), none⟩, ⟨none, .nilCheck (.tmp 0), none⟩, ⟨none, .fieldAddr 2 (.tmp 1), none⟩, ⟨none, .load false 1 (.tmp 2), none⟩, ⟨none, .lenSl (.tmp 3), none⟩, ⟨some 12, .bin .gtr (.tmp 4) (.cst (.int .i64 0)), none⟩]) (.cond (.var 12) .skip (.exit 4))) (.seq (.block 5 (.seq (.region [⟨none, .mv (.var 3), none⟩, ⟨none, .nilCheck (.tmp 0), none⟩, ⟨none, .fieldAddr 2 (.tmp 1), none⟩, ⟨none, .load false 1 (.tmp 2), none⟩, ⟨none, .indexSl 6 (.tmp 3) (.cst (.int .i64 0)), none⟩, ⟨none, .load true 6 (.tmp 4), none⟩, ⟨some 7, .alloc 6 (.agg [.int .i64 0, .int .i64 0, .int .i64 0, .int .i64 0, .int .i64 0, .str []]), none⟩, ⟨none, .store 6 (.var 7) (.tmp 5), none⟩]) (.seq (.region [⟨none, .mv (.var 3), none⟩, ⟨none, .call (.fn 38) [.tmp 0, .cst (.int .i64 0)], none⟩]) (.region [⟨none, .mv (.var 3), none⟩, ⟨none, .load true 6 (.var 7), none⟩, ⟨none, .call (.fn 39) [.tmp 0, .tmp 1], none⟩])))) (.kill [0, 1, 4, 7, 8, 9, 10, 11, 12, 13, 14, 15]))
def lp7x2 : MC := .seq (.seq (.region [⟨none, .mv (.var 6), none⟩, ⟨none, .mv (.var 5), none⟩, ⟨some 11, .bin .lss (.tmp 0) (.tmp 1), none⟩]) (.cond (.var 11) .skip (.exit 2))) (.seq (.seq (.block 3 (.seq (.seq (.block 4 (.loop [0, 1, 4, 7, 8, 9, 10, 11, 12, 13, 14, 15] lp7x1)) (.kill [0, 1, 4, 7, 8, 9, 10, 11, 12, 13, 14, 15])) (.seq (.region [⟨none, .mv (.var 3), none⟩, ⟨none, .call (.fn 40) [.tmp 0, .cst (.int .i64 0)], none⟩]) (.region [⟨none, .mv (.var 3), none⟩, ⟨none, .call (.fn 40) [.tmp 0, .cst (.int .i64 1)], none⟩])))) (.kill [0, 1, 4, 7, 8, 9, 10, 11, 12, 13, 14, 15])) (.region [⟨none, .mv (.var 6), none⟩, ⟨none, .bin .add (.tmp 0) (.cst (.int .i64 1)), none⟩, ⟨some 6, .mv (.tmp 1), none⟩]))
def lp7x3 : MC := .seq (.seq (.region [⟨none, .mv (.var 8), none⟩, ⟨none, .mv (.var 3), none⟩, ⟨none, .nilCheck (.tmp 1), none⟩, ⟨none, .fieldAddr 3 (.tmp 2), none⟩, ⟨none, .load false 1 (.tmp 3), none⟩, ⟨none, .lenSl (.tmp 4), none⟩, ⟨some 14, .bin .lss (.tmp 0) (.tmp 5), none⟩]) (.cond (.var 14) .skip (.exit 6))) (.seq (.seq (.block 7 (.seq (.region [⟨none, .mv (.var 3), none⟩, ⟨none, .nilCheck (.tmp 0), none⟩, ⟨none, .fieldAddr 4 (.tmp 1), none⟩, ⟨none, .load false 1 (.tmp 2), none⟩, ⟨none, .mv (.var 8), none⟩, ⟨none, .indexSl 1 (.tmp 3) (.tmp 4), none⟩, ⟨none, .load false 1 (.tmp 5), none⟩, ⟨none, .mv (.var 3), none⟩, ⟨none, .mv (.var 3), none⟩, ⟨none, .nilCheck (.tmp 8), none⟩, ⟨none, .fieldAddr 3 (.tmp 9), none⟩, ⟨none, .load false 1 (.tmp 10), none⟩, ⟨none, .mv (.var 8), none⟩, ⟨none, .indexSl 1 (.tmp 11) (.tmp 12), none⟩, ⟨none, .load false 1 (.tmp 13), none⟩, ⟨none, .nilCheck (.tmp 7), none⟩, ⟨none, .fieldAddr 0 (.tmp 15), none⟩, ⟨none, .indexArr 2 1 (.tmp 16) (.tmp 14), none⟩, ⟨none, .load false 1 (.tmp 17), none⟩, ⟨none, .call (.fn 26) [.tmp 18], none⟩, ⟨none, .bin .eql (.tmp 6) (.tmp 19), none⟩, ⟨none, .mv (.tmp 20), none⟩, ⟨none, .mv (.var 3), some (.tmp 21, true)⟩, ⟨none, .nilCheck (.tmp 22), some (.tmp 21, true)⟩, ⟨none, .fieldAddr 6 (.tmp 23), some (.tmp 21, true)⟩, ⟨none, .load false 1 (.tmp 24), some (.tmp 21, true)⟩, ⟨none, .mv (.var 8), some (.tmp 21, true)⟩, ⟨none, .indexSl 1 (.tmp 25) (.tmp 26), some (.tmp 21, true)⟩, ⟨none, .load false 1 (.tmp 27), some (.tmp 21, true)⟩, ⟨none, .bin .eql (.tmp 28) (.cst (.int .i64 0)), some (.tmp 21, true)⟩, ⟨none, .pick (.tmp 21) (.tmp 29) (.cst (.bool false)), none⟩, ⟨none, .mv (.tmp 30), none⟩, ⟨none, .mv (.var 3), some (.tmp 31, true)⟩, ⟨none, .nilCheck (.tmp 32), some (.tmp 31, true)⟩, ⟨none, .fieldAddr 7 (.tmp 33), some (.tmp 31, true)⟩, ⟨none, .load false 1 (.tmp 34), some (.tmp 31, true)⟩, ⟨none, .mv (.var 8), some (.tmp 31, true)⟩, ⟨none, .indexSl 1 (.tmp 35) (.tmp 36), some (.tmp 31, true)⟩, ⟨none, .load false 1 (.tmp 37), some (.tmp 31, true)⟩, ⟨none, .un .not (.tmp 38), some (.tmp 31, true)⟩, ⟨some 15, .pick (.tmp 31) (.tmp 39) (.cst (.bool false)), none⟩]) (.cond (.var 15) (.seq (.region [⟨some 1, .mv (.cst (.bool false)), none⟩]) .ret) .skip))) (.kill [0, 1, 4, 5, 6, 7, 9, 10, 11, 12, 13, 14, 15])) (.region [⟨none, .mv (.var 8), none⟩, ⟨none, .bin .add (.tmp 0) (.cst (.int .i64 1)), none⟩, ⟨some 8, .mv (.tmp 1), none⟩]))
def mf7 : MFun := ⟨1, 16, .seq (.region [⟨some 1, .mv (.cst (.bool false)), none⟩]) (.seq (.region [⟨none, .call (.fn 12) [], none⟩, ⟨some 2, .mv (.tmp 0), none⟩]) (.seq (.region [⟨none, .call (.fn 36) [], none⟩, ⟨some 3, .mv (.tmp 0), none⟩]) (.seq (.seq (.region [⟨some 4, .mv (.cst (.int .i64 0)), none⟩]) (.seq (.block 0 (.loop [1, 5, 6, 7, 8, 9, 10, 11, 12, 13, 14, 15] lp7x0)) (.kill [0, 1, 4, 5, 6, 7, 8, 9, 10, 11, 12, 13, 14, 15]))) (.seq (.seq (.region [⟨none, .mv (.var 3), none⟩, ⟨none, .nilCheck (.tmp 0), none⟩, ⟨none, .fieldAddr 10 (.tmp 1), none⟩, ⟨none, .load false 1 (.tmp 2), none⟩, ⟨some 10, .un .not (.tmp 3), none⟩]) (.cond (.var 10) (.seq (.region [⟨some 1, .mv (.cst (.bool false)), none⟩]) .ret) .skip)) (.seq (.regionD [26, 25] [⟨none, .mv (.var 3), none⟩, ⟨none, .nilCheck (.tmp 0), none⟩, ⟨none, .fieldAddr 0 (.tmp 1), none⟩, ⟨none, .indexArr 2 1 (.tmp 2) (.cst (.int .i64 0)), none⟩, ⟨none, .load false 1 (.tmp 3), none⟩, ⟨none, .call (.fn 27) [.tmp 4], none⟩, ⟨none, .mv (.var 3), none⟩, ⟨none, .nilCheck (.tmp 6), none⟩, ⟨none, .fieldAddr 0 (.tmp 7), none⟩, ⟨none, .indexArr 2 1 (.tmp 8) (.cst (.int .i64 1)), none⟩, ⟨none, .load false 1 (.tmp 9), none⟩, ⟨none, .call (.fn 27) [.tmp 10], none⟩, ⟨none, .minmax true (.tmp 5) [.tmp 11], none⟩, ⟨none, .bin .mul (.cst (.int .i64 3)) (.tmp 12), none⟩, ⟨none, .bin .add (.cst (.int .i64 12)) (.tmp 13), none⟩, ⟨some 5, .mv (.tmp 14), none⟩] [(5, 8), (5, 9), (5, 10)]) (.seq (.seq (.region [⟨some 6, .mv (.cst (.int .i64 0)), none⟩]) (.seq (.block 2 (.loop [0, 1, 4, 7, 8, 9, 10, 11, 12, 13, 14, 15] lp7x2)) (.kill [0, 1, 4, 5, 6, 7, 8, 9, 10, 11, 12, 13, 14, 15]))) (.seq (.seq (.region [⟨none, .mv (.var 3), none⟩, ⟨none, .nilCheck (.tmp 0), none⟩, ⟨none, .fieldAddr 10 (.tmp 1), none⟩, ⟨none, .load false 1 (.tmp 2), none⟩, ⟨none, .un .not (.tmp 3), none⟩, ⟨none, .mv (.tmp 4), none⟩, ⟨none, .mv (.var 3), some (.tmp 5, false)⟩, ⟨none, .nilCheck (.tmp 6), some (.tmp 5, false)⟩, ⟨none, .fieldAddr 0 (.tmp 7), some (.tmp 5, false)⟩, ⟨none, .indexArr 2 1 (.tmp 8) (.cst (.int .i64 0)), some (.tmp 5, false)⟩, ⟨none, .load false 1 (.tmp 9), some (.tmp 5, false)⟩, ⟨none, .call (.fn 27) [.tmp 10], some (.tmp 5, false)⟩, ⟨none, .bin .neq (.tmp 11) (.cst (.int .i64 0)), some (.tmp 5, false)⟩, ⟨none, .pick (.tmp 5) (.cst (.bool true)) (.tmp 12), none⟩, ⟨none, .mv (.tmp 13), none⟩, ⟨none, .mv (.var 3), some (.tmp 14, false)⟩, ⟨none, .nilCheck (.tmp 15), some (.tmp 14, false)⟩, ⟨none, .fieldAddr 0 (.tmp 16), some (.tmp 14, false)⟩, ⟨none, .indexArr 2 1 (.tmp 17) (.cst (.int .i64 1)), some (.tmp 14, false)⟩, ⟨none, .load false 1 (.tmp 18), some (.tmp 14, false)⟩, ⟨none, .call (.fn 27) [.tmp 19], some (.tmp 14, false)⟩, ⟨none, .bin .neq (.tmp 20) (.cst (.int .i64 0)), some (.tmp 14, false)⟩, ⟨some 13, .pick (.tmp 14) (.cst (.bool true)) (.tmp 21), none⟩]) (.cond (.var 13) (.seq (.region [⟨some 1, .mv (.cst (.bool false)), none⟩]) .ret) .skip)) (.seq (.seq (.region [⟨some 8, .mv (.cst (.int .i64 1)), none⟩]) (.seq (.block 6 (.loop [0, 1, 4, 5, 6, 7, 9, 10, 11, 12, 13, 14, 15] lp7x3)) (.kill [0, 1, 4, 5, 6, 7, 8, 9, 10, 11, 12, 13, 14, 15]))) (.seq (.region [⟨none, .mv (.var 2), none⟩, ⟨none, .mv (.tmp 0), none⟩, ⟨none, .mv (.var 3), some (.tmp 1, true)⟩, ⟨none, .nilCheck (.tmp 2), some (.tmp 1, true)⟩, ⟨none, .fieldAddr 0 (.tmp 3), some (.tmp 1, true)⟩, ⟨none, .indexArr 2 1 (.tmp 4) (.cst (.int .i64 0)), some (.tmp 1, true)⟩, ⟨none, .load false 1 (.tmp 5), some (.tmp 1, true)⟩, ⟨none, .call (.fn 25) [.tmp 6], some (.tmp 1, true)⟩, ⟨none, .mv (.var 3), some (.tmp 1, true)⟩, ⟨none, .nilCheck (.tmp 8), some (.tmp 1, true)⟩, ⟨none, .fieldAddr 0 (.tmp 9), some (.tmp 1, true)⟩, ⟨none, .indexArr 2 1 (.tmp 10) (.cst (.int .i64 1)), some (.tmp 1, true)⟩, ⟨none, .load false 1 (.tmp 11), some (.tmp 1, true)⟩, ⟨none, .call (.fn 26) [.tmp 12], some (.tmp 1, true)⟩, ⟨none, .bin .eql (.tmp 7) (.tmp 13), some (.tmp 1, true)⟩, ⟨none, .pick (.tmp 1) (.tmp 14) (.cst (.bool false)), none⟩, ⟨none, .mv (.tmp 15), none⟩, ⟨none, .mv (.var 3), some (.tmp 16, true)⟩, ⟨none, .nilCheck (.tmp 17), some (.tmp 16, true)⟩, ⟨none, .fieldAddr 0 (.tmp 18), some (.tmp 16, true)⟩, ⟨none, .indexArr 2 1 (.tmp 19) (.cst (.int .i64 1)), some (.tmp 16, true)⟩, ⟨none, .load false 1 (.tmp 20), some (.tmp 16, true)⟩, ⟨none, .call (.fn 25) [.tmp 21], some (.tmp 16, true)⟩, ⟨none, .mv (.var 3), some (.tmp 16, true)⟩, ⟨none, .nilCheck (.tmp 23), some (.tmp 16, true)⟩, ⟨none, .fieldAddr 0 (.tmp 24), some (.tmp 16, true)⟩, ⟨none, .indexArr 2 1 (.tmp 25) (.cst (.int .i64 0)), some (.tmp 16, true)⟩, ⟨none, .load false 1 (.tmp 26), some (.tmp 16, true)⟩, ⟨none, .call (.fn 26) [.tmp 27], some (.tmp 16, true)⟩, ⟨none, .bin .eql (.tmp 22) (.tmp 28), some (.tmp 16, true)⟩, ⟨none, .pick (.tmp 16) (.tmp 29) (.cst (.bool false)), none⟩, ⟨some 1, .mv (.tmp 30), none⟩]) .ret))))))))), [.tmp 1]⟩
def mask7x1 : List Nat := [0, 1, 4, 7, 8, 9, 10, 11, 12, 13, 14, 15]
abbrev st7x1 (v2 v3 v5 v6 : AV) : List AV := [.undef, .undef, v2, v3, .undef, v5, v6, .undef, .undef, .undef, .undef, .undef, .undef, .undef, .undef, .undef]
theorem cl7x1 {d0 d1 v2 v3 d4 v5 v6 d7 d8 d9 d10 d11 d12 d13 d14 d15 : AV} : clear mask7x1 [d0, d1, v2, v3, d4, v5, v6, d7, d8, d9, d10, d11, d12, d13, d14, d15] = st7x1 v2 v3 v5 v6 := by simp only [mask7x1, clear, List.foldl_cons, List.foldl_nil, List.set_cons_zero, List.set_cons_succ]
theorem go7x1 {E : Env} {fuel : Nat} {A : Arena} {o : Out} {k : List KC} {d0 d1 v2 v3 d4 v5 v6 d7 d8 d9 d10 d11 d12 d13 d14 d15 : AV} (h : iter (evC E fuel lp7x1) mask7x1 fuel (st7x1 v2 v3 v5 v6) A = some o) :
    run E fuel (.code (.loop [0, 1, 4, 7, 8, 9, 10, 11, 12, 13, 14, 15] lp7x1) :: k) [d0, d1, v2, v3, d4, v5, v6, d7, d8, d9, d10, d11, d12, d13, d14, d15] A = after E fuel k o := run_loopC mask7x1 _ _ (by rw [cl7x1]; exact h)
def mask7x0 : List Nat := [1, 5, 6, 7, 8, 9, 10, 11, 12, 13, 14, 15]
abbrev st7x0 (v0 v2 v3 v4 : AV) : List AV := [v0, .undef, v2, v3, v4, .undef, .undef, .undef, .undef, .undef, .undef, .undef, .undef, .undef, .undef, .undef]
theorem cl7x0 {v0 d1 v2 v3 v4 d5 d6 d7 d8 d9 d10 d11 d12 d13 d14 d15 : AV} : clear mask7x0 [v0, d1, v2, v3, v4, d5, d6, d7, d8, d9, d10, d11, d12, d13, d14, d15] = st7x0 v0 v2 v3 v4 := by simp only [mask7x0, clear, List.foldl_cons, List.foldl_nil, List.set_cons_zero, List.set_cons_succ]
theorem go7x0 {E : Env} {fuel : Nat} {A : Arena} {o : Out} {k : List KC} {v0 d1 v2 v3 v4 d5 d6 d7 d8 d9 d10 d11 d12 d13 d14 d15 : AV} (h : iter (evC E fuel lp7x0) mask7x0 fuel (st7x0 v0 v2 v3 v4) A = some o) :
    run E fuel (.code (.loop [1, 5, 6, 7, 8, 9, 10, 11, 12, 13, 14, 15] lp7x0) :: k) [v0, d1, v2, v3, v4, d5, d6, d7, d8, d9, d10, d11, d12, d13, d14, d15] A = after E fuel k o := run_loopC mask7x0 _ _ (by rw [cl7x0]; exact h)
def mask7x2 : List Nat := [0, 1, 4, 7, 8, 9, 10, 11, 12, 13, 14, 15]
abbrev st7x2 (v2 v3 v5 v6 : AV) : List AV := [.undef, .undef, v2, v3, .undef, v5, v6, .undef, .undef, .undef, .undef, .undef, .undef, .undef, .undef, .undef]
theorem cl7x2 {d0 d1 v2 v3 d4 v5 v6 d7 d8 d9 d10 d11 d12 d13 d14 d15 : AV} : clear mask7x2 [d0, d1, v2, v3, d4, v5, v6, d7, d8, d9, d10, d11, d12, d13, d14, d15] = st7x2 v2 v3 v5 v6 := by simp only [mask7x2, clear, List.foldl_cons, List.foldl_nil, List.set_cons_zero, List.set_cons_succ]
theorem go7x2 {E : Env} {fuel : Nat} {A : Arena} {o : Out} {k : List KC} {d0 d1 v2 v3 d4 v5 v6 d7 d8 d9 d10 d11 d12 d13 d14 d15 : AV} (h : iter (evC E fuel lp7x2) mask7x2 fuel (st7x2 v2 v3 v5 v6) A = some o) :
    run E fuel (.code (.loop [0, 1, 4, 7, 8, 9, 10, 11, 12, 13, 14, 15] lp7x2) :: k) [d0, d1, v2, v3, d4, v5, v6, d7, d8, d9, d10, d11, d12, d13, d14, d15] A = after E fuel k o := run_loopC mask7x2 _ _ (by rw [cl7x2]; exact h)
def mask7x3 : List Nat := [0, 1, 4, 5, 6, 7, 9, 10, 11, 12, 13, 14, 15]
abbrev st7x3 (v2 v3 v8 : AV) : List AV := [.undef, .undef, v2, v3, .undef, .undef, .undef, .undef, v8, .undef, .undef, .undef, .undef, .undef, .undef, .undef]
theorem cl7x3 {d0 d1 v2 v3 d4 d5 d6 d7 v8 d9 d10 d11 d12 d13 d14 d15 : AV} : clear mask7x3 [d0, d1, v2, v3, d4, d5, d6, d7, v8, d9, d10, d11, d12, d13, d14, d15] = st7x3 v2 v3 v8 := by simp only [mask7x3, clear, List.foldl_cons, List.foldl_nil, List.set_cons_zero, List.set_cons_succ]
theorem go7x3 {E : Env} {fuel : Nat} {A : Arena} {o : Out} {k : List KC} {d0 d1 v2 v3 d4 d5 d6 d7 v8 d9 d10 d11 d12 d13 d14 d15 : AV} (h : iter (evC E fuel lp7x3) mask7x3 fuel (st7x3 v2 v3 v8) A = some o) :
    run E fuel (.code (.loop [0, 1, 4, 5, 6, 7, 9, 10, 11, 12, 13, 14, 15] lp7x3) :: k) [d0, d1, v2, v3, d4, d5, d6, d7, v8, d9, d10, d11, d12, d13, d14, d15] A = after E fuel k o := run_loopC mask7x3 _ _ (by rw [cl7x3]; exact h)
set_option maxHeartbeats 4000000 in
theorem comp7 : compFun Try.prog Try.f7 1 [0, 2, 3, 4, 5, 6, 7, 8, 9, 25, 38, 56, 64, 102, 109, 152] [26, 25] true ([[1, 5, 6, 7, 8, 9, 10, 11, 12, 13, 14, 15], [0, 1, 4, 7, 8, 9, 10, 11, 12, 13, 14, 15], [0, 1, 4, 7, 8, 9, 10, 11, 12, 13, 14, 15], [0, 1, 4, 5, 6, 7, 9, 10, 11, 12, 13, 14, 15]], [[1, 5, 6, 7, 8, 9, 10, 11, 12, 13, 14, 15], [0, 1, 4, 5, 6, 7, 8, 9, 10, 11, 12, 13, 14, 15], [0, 1, 4, 7, 8, 9, 10, 11, 12, 13, 14, 15], [0, 1, 4, 7, 8, 9, 10, 11, 12, 13, 14, 15], [0, 1, 4, 7, 8, 9, 10, 11, 12, 13, 14, 15], [0, 1, 4, 5, 6, 7, 8, 9, 10, 11, 12, 13, 14, 15], [0, 1, 4, 5, 6, 7, 9, 10, 11, 12, 13, 14, 15], [0, 1, 4, 5, 6, 7, 8, 9, 10, 11, 12, 13, 14, 15]]) = some mf7 := by kernel_rfl
theorem at7 : Try.prog.funcs[7]? = some Try.f7 := by kernel_rfl
def mf37 : MFun := ⟨2, 17, .seq (.region [⟨some 2, .box (.var 1), none⟩]) (.seq (.region [⟨none, .indexArr 3 1 (.var 2) (.cst (.int .i64 1)), none⟩, ⟨none, .load false 1 (.tmp 0), none⟩, ⟨none, .call (.fn 15) [.tmp 1, .cst (.int .i64 2)], none⟩, ⟨some 3, .mv (.tmp 2), none⟩]) (.seq (.region [⟨none, .indexArr 3 1 (.var 2) (.cst (.int .i64 0)), none⟩, ⟨none, .load false 1 (.tmp 0), none⟩, ⟨some 8, .call (.fn 15) [.tmp 1, .cst (.int .i64 12)], none⟩]) (.seq (.block 0 (.seq (.seq (.region [⟨none, .bin .eql (.var 8) (.cst (.int .i64 0)), none⟩, ⟨some 12, .mv (.tmp 0), none⟩]) (.cond (.var 12) .skip (.seq (.region [⟨none, .bin .eql (.var 8) (.cst (.int .i64 1)), none⟩, ⟨some 12, .mv (.tmp 0), none⟩]) (.cond (.var 12) .skip (.region [⟨none, .bin .eql (.var 8) (.cst (.int .i64 2)), none⟩, ⟨some 12, .mv (.tmp 0), none⟩]))))) (.cond (.var 12) (.seq (.region [⟨none, .mv (.var 0), none⟩, ⟨none, .mv (.var 3), none⟩, ⟨none, .nilCheck (.tmp 0), none⟩, ⟨none, .fieldAddr 0 (.tmp 2), none⟩, ⟨none, .indexArr 2 1 (.tmp 3) (.tmp 1), none⟩, ⟨none, .load false 1 (.tmp 4), none⟩, ⟨none, .mv (.var 0), none⟩, ⟨none, .nilCheck (.tmp 6), none⟩, ⟨none, .fieldAddr 3 (.tmp 7), none⟩, ⟨none, .load false 1 (.tmp 8), none⟩, ⟨none, .lenSl (.tmp 9), none⟩, ⟨none, .call (.fn 17) [.tmp 10], none⟩, ⟨none, .call (.fn 16) [.tmp 5, .tmp 11], none⟩, ⟨some 13, .bin .eql (.tmp 12) (.cst (.int .i64 0)), none⟩]) (.cond (.var 13) (.seq (.region [⟨none, .mv (.var 0), none⟩, ⟨none, .mv (.var 0), none⟩, ⟨none, .nilCheck (.tmp 1), none⟩, ⟨none, .fieldAddr 3 (.tmp 2), none⟩, ⟨none, .load false 1 (.tmp 3), none⟩, ⟨none, .mv (.var 3), none⟩, ⟨none, .buildF 1 [.tmp 5], none⟩, ⟨none, .appendN 1 8 (.tmp 4) (.tmp 6), none⟩, ⟨none, .nilCheck (.tmp 0), none⟩, ⟨none, .fieldAddr 3 (.tmp 8), none⟩, ⟨none, .store 1 (.tmp 9) (.tmp 7), none⟩]) (.seq (.region [⟨none, .mv (.var 0), none⟩, ⟨none, .mv (.var 0), none⟩, ⟨none, .nilCheck (.tmp 1), none⟩, ⟨none, .fieldAddr 4 (.tmp 2), none⟩, ⟨none, .load false 1 (.tmp 3), none⟩, ⟨none, .mv (.var 0), none⟩, ⟨none, .mv (.var 3), none⟩, ⟨none, .nilCheck (.tmp 5), none⟩, ⟨none, .fieldAddr 0 (.tmp 7), none⟩, ⟨none, .indexArr 2 1 (.tmp 8) (.tmp 6), none⟩, ⟨none, .load false 1 (.tmp 9), none⟩, ⟨none, .call (.fn 26) [.tmp 10], none⟩, ⟨none, .buildF 1 [.tmp 11], none⟩, ⟨none, .appendN 1 8 (.tmp 4) (.tmp 12), none⟩, ⟨none, .nilCheck (.tmp 0), none⟩, ⟨none, .fieldAddr 4 (.tmp 14), none⟩, ⟨none, .store 1 (.tmp 15) (.tmp 13), none⟩]) (.seq (.region [⟨none, .mv (.var 0), none⟩, ⟨none, .mv (.var 0), none⟩, ⟨none, .nilCheck (.tmp 1), none⟩, ⟨none, .fieldAddr 5 (.tmp 2), none⟩, ⟨none, .load false 1 (.tmp 3), none⟩, ⟨none, .buildF 1 [.cst (.int .i64 0)], none⟩, ⟨none, .appendN 1 8 (.tmp 4) (.tmp 5), none⟩, ⟨none, .nilCheck (.tmp 0), none⟩, ⟨none, .fieldAddr 5 (.tmp 7), none⟩, ⟨none, .store 1 (.tmp 8) (.tmp 6), none⟩]) (.seq (.region [⟨none, .mv (.var 0), none⟩, ⟨none, .mv (.var 0), none⟩, ⟨none, .nilCheck (.tmp 1), none⟩, ⟨none, .fieldAddr 6 (.tmp 2), none⟩, ⟨none, .load false 1 (.tmp 3), none⟩, ⟨none, .buildF 1 [.cst (.int .i64 0)], none⟩, ⟨none, .appendN 1 8 (.tmp 4) (.tmp 5), none⟩, ⟨none, .nilCheck (.tmp 0), none⟩, ⟨none, .fieldAddr 6 (.tmp 7), none⟩, ⟨none, .store 1 (.tmp 8) (.tmp 6), none⟩]) (.region [⟨none, .mv (.var 0), none⟩, ⟨none, .mv (.var 0), none⟩, ⟨none, .nilCheck (.tmp 1), none⟩, ⟨none, .fieldAddr 7 (.tmp 2), none⟩, ⟨none, .load false 1 (.tmp 3), none⟩, ⟨none, .buildF 1 [.cst (.bool false)], none⟩, ⟨none, .appendN 1 1 (.tmp 4) (.tmp 5), none⟩, ⟨none, .nilCheck (.tmp 0), none⟩, ⟨none, .fieldAddr 7 (.tmp 7), none⟩, ⟨none, .store 1 (.tmp 8) (.tmp 6), none⟩]))))) .skip)) (.seq (.seq (.region [⟨none, .bin .eql (.var 8) (.cst (.int .i64 3)), none⟩, ⟨some 14, .mv (.tmp 0), none⟩]) (.cond (.var 14) .skip (.seq (.region [⟨none, .bin .eql (.var 8) (.cst (.int .i64 4)), none⟩, ⟨some 14, .mv (.tmp 0), none⟩]) (.cond (.var 14) .skip (.region [⟨none, .bin .eql (.var 8) (.cst (.int .i64 5)), none⟩, ⟨some 14, .mv (.tmp 0), none⟩]))))) (.cond (.var 14) (.region [⟨none, .mv (.var 0), none⟩, ⟨none, .mv (.var 3), none⟩, ⟨none, .call (.fn 40) [.tmp 0, .tmp 1], none⟩]) (.seq (.region [⟨none, .bin .eql (.var 8) (.cst (.int .i64 11)), none⟩, ⟨some 15, .mv (.tmp 0), none⟩]) (.cond (.var 15) (.seq (.region [⟨none, .mv (.var 0), none⟩, ⟨none, .mv (.var 3), none⟩, ⟨none, .nilCheck (.tmp 0), none⟩, ⟨none, .fieldAddr 0 (.tmp 2), none⟩, ⟨none, .indexArr 2 1 (.tmp 3) (.tmp 1), none⟩, ⟨none, .load false 1 (.tmp 4), none⟩, ⟨none, .call (.fn 26) [.tmp 5], none⟩, ⟨none, .bin .add (.tmp 6) (.cst (.int .i64 1)), none⟩, ⟨none, .indexArr 3 1 (.var 2) (.cst (.int .i64 2)), none⟩, ⟨none, .load false 1 (.tmp 8), none⟩, ⟨none, .call (.fn 15) [.tmp 9, .cst (.int .i64 3)], none⟩, ⟨none, .bin .add (.tmp 7) (.tmp 10), none⟩, ⟨none, .call (.fn 13) [.tmp 11], none⟩, ⟨none, .mv (.tmp 12), none⟩, ⟨none, .extract (.tmp 13) 0, none⟩, ⟨none, .extract (.tmp 13) 1, none⟩, ⟨some 4, .mv (.tmp 14), none⟩, ⟨some 5, .mv (.tmp 15), none⟩]) (.seq (.seq (.region [⟨none, .mv (.var 5), none⟩, ⟨none, .bin .neq (.tmp 0) (.cst (.int .i64 0)), none⟩, ⟨none, .mv (.tmp 1), none⟩, ⟨none, .mv (.var 4), some (.tmp 2, false)⟩, ⟨none, .eqNil 0 false (.tmp 3), some (.tmp 2, false)⟩, ⟨some 16, .pick (.tmp 2) (.cst (.bool true)) (.tmp 4), none⟩]) (.cond (.var 16) (.seq (.region [⟨none, .mv (.var 0), none⟩, ⟨none, .nilCheck (.tmp 0), none⟩, ⟨none, .fieldAddr 10 (.tmp 1), none⟩, ⟨none, .store 1 (.tmp 2) (.cst (.bool false)), none⟩]) .ret) .skip)) (.region [⟨none, .mv (.var 0), none⟩, ⟨none, .mv (.var 3), none⟩, ⟨none, .mv (.var 4), none⟩, ⟨none, .nilCheck (.tmp 0), none⟩, ⟨none, .fieldAddr 0 (.tmp 3), none⟩, ⟨none, .indexArr 2 1 (.tmp 4) (.tmp 1), none⟩, ⟨none, .store 1 (.tmp 5) (.tmp 2), none⟩]))) (.seq (.seq (.region [⟨none, .mv (.var 0), none⟩, ⟨none, .nilCheck (.tmp 0), none⟩, ⟨none, .fieldAddr 2 (.tmp 1), none⟩, ⟨none, .load false 1 (.tmp 2), none⟩, ⟨none, .lenSl (.tmp 3), none⟩, ⟨some 9, .bin .eql (.tmp 4) (.cst (.int .i64 0)), none⟩]) (.cond (.var 9) .ret .skip)) (.seq (.region [⟨none, .indexArr 3 1 (.var 2) (.cst (.int .i64 2)), none⟩, ⟨none, .load false 1 (.tmp 0), none⟩, ⟨none, .mv (.var 0), none⟩, ⟨none, .nilCheck (.tmp 2), none⟩, ⟨none, .fieldAddr 2 (.tmp 3), none⟩, ⟨none, .load false 1 (.tmp 4), none⟩, ⟨none, .lenSl (.tmp 5), none⟩, ⟨none, .call (.fn 15) [.tmp 1, .tmp 6], none⟩, ⟨some 6, .mv (.tmp 7), none⟩]) (.seq (.region [⟨none, .mv (.var 0), none⟩, ⟨none, .nilCheck (.tmp 0), none⟩, ⟨none, .fieldAddr 2 (.tmp 1), none⟩, ⟨none, .load false 1 (.tmp 2), none⟩, ⟨none, .mv (.var 6), none⟩, ⟨none, .indexSl 6 (.tmp 3) (.tmp 4), none⟩, ⟨none, .load true 6 (.tmp 5), none⟩, ⟨some 7, .alloc 6 (.agg [.int .i64 0, .int .i64 0, .int .i64 0, .int .i64 0, .int .i64 0, .str []]), none⟩, ⟨none, .store 6 (.var 7) (.tmp 6), none⟩]) (.seq (.seq (.region [⟨none, .indexArr 3 1 (.var 2) (.cst (.int .i64 0)), none⟩, ⟨none, .load false 1 (.tmp 0), none⟩, ⟨none, .call (.fn 15) [.tmp 1, .cst (.int .i64 12)], none⟩, ⟨some 10, .bin .neq (.tmp 2) (.cst (.int .i64 9)), none⟩]) (.cond (.var 10) (.region [⟨none, .mv (.var 0), none⟩, ⟨none, .mv (.var 6), none⟩, ⟨none, .call (.fn 38) [.tmp 0, .tmp 1], none⟩]) .skip)) (.seq (.region [⟨none, .indexArr 3 1 (.var 2) (.cst (.int .i64 0)), none⟩, ⟨none, .load false 1 (.tmp 0), none⟩, ⟨none, .call (.fn 15) [.tmp 1, .cst (.int .i64 12)], none⟩, ⟨some 11, .bin .neq (.tmp 2) (.cst (.int .i64 10)), none⟩]) (.cond (.var 11) (.region [⟨none, .mv (.var 0), none⟩, ⟨none, .load true 6 (.var 7), none⟩, ⟨none, .call (.fn 39) [.tmp 0, .tmp 1], none⟩]) .skip))))))))))))) (.kill [0, 1, 2, 3, 4, 5, 6, 7, 8, 9, 10, 11, 12, 13, 14, 15, 16])))), []⟩
set_option maxHeartbeats 4000000 in
theorem comp37 : compFun Try.prog Try.f37 2 [0, 1, 3, 4, 5, 6, 7, 8, 14, 20, 39, 46, 50, 67, 121, 128, 151] [17, 26, 15] true ([], [[0, 1, 2, 3, 4, 5, 6, 7, 8, 9, 10, 11, 12, 13, 14, 15, 16]]) = some mf37 := by kernel_rfl
theorem at37 : Try.prog.funcs[37]? = some Try.f37 := by kernel_rfl
def lp39x0 : MC := .seq (.seq (.region [⟨none, .mv (.var 4), none⟩, ⟨none, .mv (.var 3), none⟩, ⟨none, .lenSl (.tmp 1), none⟩, ⟨some 6, .bin .lss (.tmp 0) (.tmp 2), none⟩]) (.cond (.var 6) .skip (.exit 0))) (.seq (.seq (.block 1 (.seq (.region [⟨none, .mv (.var 3), none⟩, ⟨none, .mv (.var 4), none⟩, ⟨none, .indexSl 1 (.tmp 0) (.tmp 1), none⟩, ⟨none, .load false 1 (.tmp 2), none⟩, ⟨none, .call (.fn 56) [.tmp 3], none⟩, ⟨some 5, .mv (.tmp 4), none⟩]) (.seq (.seq (.region [⟨none, .mv (.var 5), none⟩, ⟨none, .bin .lss (.tmp 0) (.cst (.int .i64 1)), none⟩, ⟨none, .mv (.tmp 1), none⟩, ⟨none, .mv (.var 5), some (.tmp 2, false)⟩, ⟨none, .mv (.var 0), some (.tmp 2, false)⟩, ⟨none, .nilCheck (.tmp 4), some (.tmp 2, false)⟩, ⟨none, .fieldAddr 6 (.tmp 5), some (.tmp 2, false)⟩, ⟨none, .load false 1 (.tmp 6), some (.tmp 2, false)⟩, ⟨none, .lenSl (.tmp 7), some (.tmp 2, false)⟩, ⟨none, .bin .geq (.tmp 3) (.tmp 8), some (.tmp 2, false)⟩, ⟨none, .pick (.tmp 2) (.cst (.bool true)) (.tmp 9), none⟩, ⟨none, .mv (.tmp 10), none⟩, ⟨none, .mv (.var 0), some (.tmp 11, false)⟩, ⟨none, .nilCheck (.tmp 12), some (.tmp 11, false)⟩, ⟨none, .fieldAddr 6 (.tmp 13), some (.tmp 11, false)⟩, ⟨none, .load false 1 (.tmp 14), some (.tmp 11, false)⟩, ⟨none, .mv (.var 5), some (.tmp 11, false)⟩, ⟨none, .indexSl 1 (.tmp 15) (.tmp 16), some (.tmp 11, false)⟩, ⟨none, .load false 1 (.tmp 17), some (.tmp 11, false)⟩, ⟨none, .bin .neq (.tmp 18) (.cst (.int .i64 0)), some (.tmp 11, false)⟩, ⟨none, .pick (.tmp 11) (.cst (.bool true)) (.tmp 19), none⟩, ⟨none, .mv (.tmp 20), none⟩, ⟨none, .mv (.var 0), some (.tmp 21, false)⟩, ⟨none, .nilCheck (.tmp 22), some (.tmp 21, false)⟩, ⟨none, .fieldAddr 3 (.tmp 23), some (.tmp 21, false)⟩, ⟨none, .load false 1 (.tmp 24), some (.tmp 21, false)⟩, ⟨none, .mv (.var 5), some (.tmp 21, false)⟩, ⟨none, .indexSl 1 (.tmp 25) (.tmp 26), some (.tmp 21, false)⟩, ⟨none, .load false 1 (.tmp 27), some (.tmp 21, false)⟩, ⟨none, .fieldAddr 0 (.var 2), some (.tmp 21, false)⟩, ⟨none, .load false 1 (.tmp 29), some (.tmp 21, false)⟩, ⟨none, .bin .eql (.tmp 28) (.tmp 30), some (.tmp 21, false)⟩, ⟨none, .pick (.tmp 21) (.cst (.bool true)) (.tmp 31), none⟩, ⟨none, .mv (.tmp 32), none⟩, ⟨none, .mv (.var 5), some (.tmp 33, false)⟩, ⟨none, .mv (.var 0), some (.tmp 33, false)⟩, ⟨none, .fieldAddr 0 (.var 2), some (.tmp 33, false)⟩, ⟨none, .load false 1 (.tmp 36), some (.tmp 33, false)⟩, ⟨none, .nilCheck (.tmp 35), some (.tmp 33, false)⟩, ⟨none, .fieldAddr 8 (.tmp 38), some (.tmp 33, false)⟩, ⟨none, .indexArr 2 1 (.tmp 39) (.tmp 37), some (.tmp 33, false)⟩, ⟨none, .load false 1 (.tmp 40), some (.tmp 33, false)⟩, ⟨none, .bin .leq (.tmp 34) (.tmp 41), some (.tmp 33, false)⟩, ⟨none, .pick (.tmp 33) (.cst (.bool true)) (.tmp 42), none⟩, ⟨none, .mv (.tmp 43), none⟩, ⟨none, .mv (.var 0), some (.tmp 44, false)⟩, ⟨none, .nilCheck (.tmp 45), some (.tmp 44, false)⟩, ⟨none, .fieldAddr 5 (.tmp 46), some (.tmp 44, false)⟩, ⟨none, .load false 1 (.tmp 47), some (.tmp 44, false)⟩, ⟨none, .mv (.var 5), some (.tmp 44, false)⟩, ⟨none, .indexSl 1 (.tmp 48) (.tmp 49), some (.tmp 44, false)⟩, ⟨none, .load false 1 (.tmp 50), some (.tmp 44, false)⟩, ⟨none, .mv (.var 0), some (.tmp 44, false)⟩, ⟨none, .fieldAddr 0 (.var 2), some (.tmp 44, false)⟩, ⟨none, .load false 1 (.tmp 53), some (.tmp 44, false)⟩, ⟨none, .nilCheck (.tmp 52), some (.tmp 44, false)⟩, ⟨none, .fieldAddr 0 (.tmp 55), some (.tmp 44, false)⟩, ⟨none, .indexArr 2 1 (.tmp 56) (.tmp 54), some (.tmp 44, false)⟩, ⟨none, .load false 1 (.tmp 57), some (.tmp 44, false)⟩, ⟨none, .call (.fn 26) [.tmp 58], some (.tmp 44, false)⟩, ⟨none, .bin .neq (.tmp 51) (.tmp 59), some (.tmp 44, false)⟩, ⟨some 7, .pick (.tmp 44) (.cst (.bool true)) (.tmp 60), none⟩]) (.cond (.var 7) (.seq (.region [⟨none, .mv (.var 0), none⟩, ⟨none, .nilCheck (.tmp 0), none⟩, ⟨none, .fieldAddr 10 (.tmp 1), none⟩, ⟨none, .store 1 (.tmp 2) (.cst (.bool false)), none⟩]) .ret) .skip)) (.seq (.region [⟨none, .mv (.var 0), none⟩, ⟨none, .nilCheck (.tmp 0), none⟩, ⟨none, .fieldAddr 6 (.tmp 1), none⟩, ⟨none, .load false 1 (.tmp 2), none⟩, ⟨none, .mv (.var 5), none⟩, ⟨none, .mv (.var 0), none⟩, ⟨none, .fieldAddr 0 (.var 2), none⟩, ⟨none, .load false 1 (.tmp 6), none⟩, ⟨none, .nilCheck (.tmp 5), none⟩, ⟨none, .fieldAddr 0 (.tmp 8), none⟩, ⟨none, .indexArr 2 1 (.tmp 9) (.tmp 7), none⟩, ⟨none, .load false 1 (.tmp 10), none⟩, ⟨none, .call (.fn 26) [.tmp 11], none⟩, ⟨none, .indexSl 1 (.tmp 3) (.tmp 4), none⟩, ⟨none, .store 1 (.tmp 13) (.tmp 12), none⟩]) (.region [⟨none, .mv (.var 0), none⟩, ⟨none, .fieldAddr 0 (.var 2), none⟩, ⟨none, .load false 1 (.tmp 1), none⟩, ⟨none, .mv (.var 5), none⟩, ⟨none, .nilCheck (.tmp 0), none⟩, ⟨none, .fieldAddr 8 (.tmp 4), none⟩, ⟨none, .indexArr 2 1 (.tmp 5) (.tmp 2), none⟩, ⟨none, .store 1 (.tmp 6) (.tmp 3), none⟩]))))) (.kill [1, 5, 6, 7])) (.region [⟨none, .mv (.var 4), none⟩, ⟨none, .bin .add (.tmp 0) (.cst (.int .i64 1)), none⟩, ⟨some 4, .mv (.tmp 1), none⟩]))
def mf39 : MFun := ⟨2, 8, .seq (.region [⟨some 2, .box (.var 1), none⟩]) (.seq (.region [⟨none, .mv (.var 0), none⟩, ⟨none, .fieldAddr 0 (.var 2), none⟩, ⟨none, .load false 1 (.tmp 1), none⟩, ⟨none, .nilCheck (.tmp 0), none⟩, ⟨none, .fieldAddr 0 (.tmp 3), none⟩, ⟨none, .indexArr 2 1 (.tmp 4) (.tmp 2), none⟩, ⟨none, .load false 1 (.tmp 5), none⟩, ⟨none, .fieldAddr 1 (.var 2), none⟩, ⟨none, .load true 5 (.tmp 7), none⟩, ⟨none, .call (.fn 23) [.tmp 6, .tmp 8], none⟩, ⟨some 3, .mv (.tmp 9), none⟩]) (.seq (.seq (.region [⟨some 4, .mv (.cst (.int .i64 0)), none⟩]) (.seq (.block 0 (.loop [1, 5, 6, 7] lp39x0)) (.kill [1, 2, 3, 4, 5, 6, 7]))) (.region [⟨none, .mv (.var 0), none⟩, ⟨none, .call (.fn 57) [.tmp 0], none⟩]))), []⟩
def mask39x0 : List Nat := [1, 5, 6, 7]
abbrev st39x0 (v0 v2 v3 v4 : AV) : List AV := [v0, .undef, v2, v3, v4, .undef, .undef, .undef]
theorem cl39x0 {v0 d1 v2 v3 v4 d5 d6 d7 : AV} : clear mask39x0 [v0, d1, v2, v3, v4, d5, d6, d7] = st39x0 v0 v2 v3 v4 := by simp only [mask39x0, clear, List.foldl_cons, List.foldl_nil, List.set_cons_zero, List.set_cons_succ]
theorem go39x0 {E : Env} {fuel : Nat} {A : Arena} {o : Out} {k : List KC} {v0 d1 v2 v3 v4 d5 d6 d7 : AV} (h : iter (evC E fuel lp39x0) mask39x0 fuel (st39x0 v0 v2 v3 v4) A = some o) :
    run E fuel (.code (.loop [1, 5, 6, 7] lp39x0) :: k) [v0, d1, v2, v3, v4, d5, d6, d7] A = after E fuel k o := run_loopC mask39x0 _ _ (by rw [cl39x0]; exact h)
set_option maxHeartbeats 4000000 in
theorem comp39 : compFun Try.prog Try.f39 2 [0, 1, 3, 4, 5, 6, 20, 89] [26] true ([[1, 5, 6, 7]], [[1, 5, 6, 7], [1, 2, 3, 4, 5, 6, 7]]) = some mf39 := by kernel_rfl
theorem at39 : Try.prog.funcs[39]? = some Try.f39 := by kernel_rfl
end Go.Proofs.Ytfidjdlmmcaplaa
/-
  Link: functions changed at a place; frames on the line.
-/
namespace Go.Proofs.Ytfidjdlmmcaplaa
open Go

def upd {α : Type} (f : Nat → α) (s : Nat) (x : α) : Nat → α := fun t => if t = s then x else f t
theorem upd_same {α : Type} (f : Nat → α) (s : Nat) (x : α) : upd f s x s = x := if_pos rfl
theorem upd_ne {α : Type} (f : Nat → α) {s t : Nat} (x : α) (h : t ≠ s) : upd f s x t = f t := if_neg h
/-- a frame on the line, and to which end -/
def flA (x : Nat × FrS) : AV := .agg [.int .i64 (x.1 : Int), .int .i64 x.2.fr, .int .i64 x.2.to, .int .i64 x.2.seq, .int .i64 x.2.ack, .str x.2.body]
theorem own_nil0 (id : Nat) : own id .nilS .nilS = [id] := rfl
end Go.Proofs.Ytfidjdlmmcaplaa
/-
  Link: bounds.
-/
namespace Go.Proofs.Ytfidjdlmmcaplaa
open Go

/-- bounds after n calls -/
structure Wf (n : Nat) (S : EndS) : Prop where
  ticks : 0 ≤ S.ticks ∧ S.ticks ≤ n
  at_ : ∀ q ∈ S.queue, 0 ≤ q.at_ ∧ q.at_ ≤ n
  hello : 0 ≤ S.hello ∧ S.hello ≤ n
  queue : S.queue.length ≤ 64
  lost : S.lost.length + S.queue.length ≤ n
  received : 0 ≤ S.received ∧ S.received ≤ 4611686018427387903
  next : 1 ≤ S.next ∧ S.next ≤ n + 1
  heard : S.heard = true → S.peer > 0
  epoch : 1 ≤ S.epoch ∧ S.epoch ≤ 3 * n + 1
theorem Wf.mono {n m : Nat} {S : EndS} (h : Wf n S) (hnm : n ≤ m) : Wf m S := by
  obtain ⟨h1, h2, h3, h4, h5, h6, h7, h8, h9⟩ := h
  exact ⟨by omega, fun q hq => by have := h2 q hq; omega, by omega, h4, by omega, h6, by omega, h8, by omega⟩
theorem Wf.new (n : Nat) {e : Int} (he : 1 ≤ e ∧ e ≤ 3 * n + 1) : Wf n (newS e) :=
  ⟨by simp [newS], by simp [newS], by simp [newS], by simp [newS], by simp [newS], by simp [newS], by simp [newS]; omega, by simp [newS], he⟩
theorem Wf.bd {n : Nat} {S : EndS} (h : Wf n S) (hn : n ≤ 1000) : Bd S := by
  obtain ⟨h1, h2, h3, h4, h5, h6, h7, h8, h9⟩ := h
  exact ⟨by omega, fun q hq => by have := h2 q hq; omega, by omega⟩
theorem Wf.send {n : Nat} {S : EndS} (h : Wf n S) {b : Bytes} (hs : sendOk S b) : Wf (n + 1) (sendS S b) := by
  obtain ⟨h1, h2, h3, h4, h5, h6, h7, h8, h9⟩ := h
  refine ⟨by simp [sendS]; omega, fun q hq => ?_, by simp [sendS]; omega, by simp [sendS]; have := hs.2; omega, by simp [sendS]; omega, h6, by simp [sendS]; omega, h8, by simp [sendS]; omega⟩
  unfold sendS at hq
  rcases List.mem_append.1 hq with hq | hq
  · have := h2 q hq; omega
  · rw [List.mem_singleton] at hq
    subst hq
    simp
    omega
theorem p1_at {n : Nat} {S : EndS} (h2 : ∀ q ∈ S.queue, 0 ≤ q.at_ ∧ q.at_ ≤ n) (h1 : 0 ≤ S.ticks ∧ S.ticks ≤ n) : ∀ q ∈ (p1 S).1.queue, 0 ≤ q.at_ ∧ q.at_ ≤ n := by
  intro q hq
  unfold p1 at hq
  split at hq
  · simp only at hq
    rcases List.mem_append.1 hq with hq | hq
    · obtain ⟨r, hr, rfl⟩ := List.mem_map.1 hq
      unfold sentQ
      split
      · exact h1
      · exact h2 r (List.mem_of_mem_take hr)
    · exact h2 q (List.mem_of_mem_drop hq)
  · exact h2 q hq
theorem p1_len (S : EndS) : (p1 S).1.queue.length = S.queue.length := by
  unfold p1
  split
  · simp only [List.length_append, List.length_map, List.length_take, List.length_drop]
    omega
  · rfl
theorem p1_rest (S : EndS) : (p1 S).1.ticks = S.ticks ∧ (p1 S).1.hello = S.hello ∧ (p1 S).1.heard = S.heard ∧ (p1 S).1.epoch = S.epoch ∧ (p1 S).1.peer = S.peer ∧ (p1 S).1.received = S.received ∧ (p1 S).1.next = S.next ∧ (p1 S).1.lost = S.lost := by
  unfold p1
  split <;> exact ⟨rfl, rfl, rfl, rfl, rfl, rfl, rfl, rfl⟩
theorem Wf.tick {n : Nat} {S : EndS} (h : Wf n S) : Wf (n + 1) (tickS S).1 := by
  obtain ⟨h1, h2, h3, h4, h5, h6, h7, h8, h9⟩ := h
  obtain ⟨T, hT⟩ : ∃ T : EndS, T = { S with ticks := S.ticks + 1 } := ⟨_, rfl⟩
  have e : (tickS S).1 = if S.heard = false ∧ dueS (S.ticks + 1) S.hello = true then { (p1 T).1 with hello := S.ticks + 1 } else (p1 T).1 := by
    unfold tickS
    rw [tick1_eq, ← hT]
    split <;> rfl
  obtain ⟨r1, r2, r3, r4, r5, r6, r7, r8⟩ := p1_rest T
  have q1 := p1_len T
  have q2 := p1_at (n := n + 1) (S := T) (by rw [hT]; intro q hq; have := h2 q hq; omega) (by rw [hT]; simp only; omega)
  have hb : Wf (n + 1) (p1 T).1 := by
    refine ⟨by rw [r1, hT]; simp only; omega, q2, by rw [r2, hT]; simp only; omega, by rw [q1, hT]; exact h4, by rw [q1, r8, hT]; simp only; omega, by rw [r6, hT]; exact h6, by rw [r7, hT]; simp only; omega, by rw [r3, r5, hT]; exact h8, by rw [r4, hT]; simp only; omega⟩
  rw [e]
  split
  · exact ⟨hb.ticks, hb.at_, by simp only; omega, hb.queue, hb.lost, hb.received, hb.next, hb.heard, hb.epoch⟩
  · exact hb
theorem Wf.meet {n : Nat} {S : EndS} (h : Wf n S) (p : Int) (hp : 1 ≤ p) : Wf n (meetS S p) ∧ (meetS S p).peer = p := by
  obtain ⟨h1, h2, h3, h4, h5, h6, h7, h8, h9⟩ := h
  unfold meetS
  split
  · rename_i e
    exact ⟨⟨h1, h2, h3, h4, h5, h6, h7, h8, h9⟩, e.symm⟩
  · split
    · exact ⟨⟨h1, by simp, h3, by simp, by simp; omega, by simp, by simp only; omega, by simp, h9⟩, rfl⟩
    · exact ⟨⟨h1, h2, h3, h4, h5, by simp, h7, by simp, h9⟩, rfl⟩
theorem Wf.recv {n : Nat} {S : EndS} (h : Wf n S) (f : FrS) : Wf n (receiveS S f).1 := by
  unfold receiveS
  split
  rotate_left
  · exact h
  rename_i ht
  obtain ⟨h0, hp⟩ := h.meet f.fr ht.1.1.1
  have hfr := ht.1.1.1
  have hr0 : Wf n (recS0 S f) := ⟨h0.ticks, h0.at_, h0.hello, h0.queue, h0.lost, h0.received, h0.next, h0.heard, h0.epoch⟩
  have hr1 : Wf n (recS1 S f) := by
    have hl : ((meetS S f.fr).queue.filter (keepQ f.ack)).length ≤ (meetS S f.fr).queue.length := List.length_filter_le _ _
    refine ⟨h0.ticks, fun q hq => h0.at_ q (List.mem_filter.1 hq).1, h0.hello, Nat.le_trans hl h0.queue, ?_, h0.received, h0.next, fun _ => ?_, h0.epoch⟩
    · have := h0.lost
      show (meetS S f.fr).lost.length + ((meetS S f.fr).queue.filter (keepQ f.ack)).length ≤ n
      omega
    · show (meetS S f.fr).peer > 0
      rw [hp]; omega
  split
  · exact hr0
  · split
    · exact hr1
    · have := ht.1.2.2.1
      exact ⟨hr1.ticks, hr1.at_, hr1.hello, hr1.queue, hr1.lost, this, hr1.next, hr1.heard, hr1.epoch⟩
theorem Wf.lostE {n : Nat} {S : EndS} (h : Wf n S) : Wf n { S with lost := [] } :=
  ⟨h.ticks, h.at_, h.hello, h.queue, by have := h.lost; simp only [List.length_nil]; omega, h.received, h.next, h.heard, h.epoch⟩
def row3 (c0 c1 c2 : Int) : Ent := .row 3 false [.agg [.int .i64 c0, .int .i64 c1, .int .i64 c2]]
end Go.Proofs.Ytfidjdlmmcaplaa
/-
  Link, plain: the line between two ends, what holds of it, and that messages keep it.
-/
namespace Go.Proofs.Ytfidjdlmmcaplaa
open Go

/-- the line: its ends, the frames on it; of the messages 1 to N - 1 the sender, its epoch, the epoch to which it was sent, in which it arrived, and whether it was lost; the last one that arrived at each end -/
structure PS where
  e : Nat → EndS
  fl : List (Nat × FrS)
  N : Nat
  sd : Nat → Nat
  fm : Nat → Int
  to : Nat → Int
  ar : Nat → Int
  ls : Nat → Bool
  la : Nat → Nat
abbrev Logs := Nat → Int → Int → List Nat
/-- the messages of the end's session, in their order -/
def cur (X : PS) (G : Logs) (s : Nat) : List Nat := G s (X.e s).epoch (X.e s).peer
structure J (X : PS) (G : Logs) : Prop where
  ep : ∀ s, s < 2 → 1 ≤ (X.e s).epoch
  pe : ∀ s, s < 2 → 0 ≤ (X.e s).peer ∧ (X.e s).peer ≤ (X.e (1 - s)).epoch
  he : ∀ s, s < 2 → (X.e s).heard = true → (X.e s).peer > 0
  lo : ∀ s, s < 2 → (X.e s).lost = []
  nx : ∀ s, s < 2 → (X.e s).next = ((cur X G s).length : Int) + 1
  qu : ∀ s, s < 2 → ∀ q ∈ (X.e s).queue, ∃ (k n : Nat), (cur X G s)[k]? = some n ∧ q.seq = (k : Int) + 1 ∧ q.body = txt n ∧ X.ls n = false ∧ (X.to n = 0 ∨ X.to n = (X.e s).peer) ∧ 0 ≤ q.at_ ∧ ((X.e s).peer = 0 → q.at_ = 0)
  qd : ∀ s, s < 2 → (X.e s).queue.Pairwise fun a b => a.seq < b.seq
  gm : ∀ s, s < 2 → ∀ p q n, n ∈ G s p q → 1 ≤ n ∧ n < X.N ∧ X.sd n = s ∧ X.fm n = p
  gs : ∀ s, s < 2 → ∀ p q, (G s p q).Pairwise (· < ·)
  gp : ∀ s, s < 2 → ∀ p q, p > (X.e s).epoch → G s p q = []
  gq : ∀ s, s < 2 → ∀ q, q > (X.e s).peer → G s (X.e s).epoch q = []
  gr : ∀ s, s < 2 → ∀ p q, q > (X.e (1 - s)).epoch → G s p q = []
  n1 : 1 ≤ X.N
  mb : ∀ n m, 1 ≤ n → n < m → m < X.N → X.sd n = X.sd m → X.fm n ≤ X.fm m
  mf : ∀ n, 1 ≤ n → n < X.N → X.sd n < 2 ∧ X.fm n ≤ (X.e (X.sd n)).epoch
  la : ∀ s, s < 2 → X.la s < X.N
  fl : ∀ x ∈ X.fl, x.1 < 2 ∧ okF x.2 ∧ x.2.fr ≤ (X.e (1 - x.1)).epoch ∧ (x.2.seq > 0 → ∃ k n : Nat, (G (1 - x.1) x.2.fr x.2.to)[k]? = some n ∧ x.2.seq = (k : Int) + 1 ∧ x.2.body = txt n ∧ X.to n = x.2.to) ∧ (x.2.to > 0 → ∀ k : Nat, (k : Int) < x.2.ack → ∃ n, (G x.1 x.2.to x.2.fr)[k]? = some n ∧ X.ar n ≠ 0)
  re : ∀ s, s < 2 → 0 ≤ (X.e s).received ∧ (X.e s).received ≤ (G (1 - s) (X.e s).peer (X.e s).epoch).length
  ra : ∀ s, s < 2 → ∀ k n : Nat, (G (1 - s) (X.e s).peer (X.e s).epoch)[k]? = some n → ((k : Int) < (X.e s).received → X.ar n ≠ 0) ∧ ((X.e s).received ≤ (k : Int) → X.ar n = 0 ∧ X.la s < n)
  rb : ∀ s, s < 2 → ∀ p n, p > (X.e s).peer → n ∈ G (1 - s) p (X.e s).epoch → X.ar n = 0 ∧ X.la s < n
  pd : ∀ s, s < 2 → (X.e s).peer = 0 → ∀ n ∈ G s (X.e s).epoch 0, X.ar n = 0 ∧ X.la (1 - s) < n
  op : ∀ n, 1 ≤ n → n < X.N → X.fm n = (X.e (X.sd n)).epoch → X.ar n = 0 → X.ls n = false → ∃ q ∈ (X.e (X.sd n)).queue, q.body = txt n
def sendP (X : PS) (s : Nat) : PS := { X with e := upd X.e s (sendS (X.e s) (txt X.N)), N := X.N + 1, sd := upd X.sd X.N s, fm := upd X.fm X.N (X.e s).epoch, to := upd X.to X.N 0, ar := upd X.ar X.N 0, ls := upd X.ls X.N false }
def sendG (X : PS) (G : Logs) (s : Nat) : Logs := fun t p q => if t = s ∧ p = (X.e s).epoch ∧ q = (X.e s).peer then G t p q ++ [X.N] else G t p q
theorem flip {s : Nat} (hs : s < 2) : 1 - s < 2 ∧ 1 - (1 - s) = s ∧ 1 - s ≠ s := by omega
theorem get_app {α : Type} {l : List α} {x n : α} {k : Nat} (h : (l ++ [x])[k]? = some n) : l[k]? = some n ∨ (k = l.length ∧ n = x) := by
  rw [List.getElem?_append] at h
  split at h
  · exact .inl h
  · rename_i hk
    have : k - l.length = 0 ∨ 0 < k - l.length := by omega
    rcases this with h0 | h0
    · rw [h0] at h
      simp at h
      exact .inr ⟨by omega, h.symm⟩
    · rw [List.getElem?_eq_none (by simp; omega)] at h
      cases h
theorem app_get {α : Type} {l : List α} {x n : α} {k : Nat} (h : l[k]? = some n) : (l ++ [x])[k]? = some n := by
  rw [List.getElem?_append_left (List.getElem?_eq_some_iff.1 h).1]
  exact h
theorem J.send {X : PS} {G : Logs} (h : J X G) {s : Nat} (hs : s < 2) : J (sendP X s) (sendG X G s) := by
  obtain ⟨f1, f2, f3⟩ := flip hs
  -- the ends
  have eS : ∀ t, ((sendP X s).e t).epoch = (X.e t).epoch ∧ ((sendP X s).e t).peer = (X.e t).peer ∧ ((sendP X s).e t).heard = (X.e t).heard ∧ ((sendP X s).e t).lost = (X.e t).lost ∧ ((sendP X s).e t).received = (X.e t).received := by
    intro t
    show (upd X.e s (sendS (X.e s) (txt X.N)) t).epoch = _ ∧ (upd X.e s (sendS (X.e s) (txt X.N)) t).peer = _ ∧ (upd X.e s (sendS (X.e s) (txt X.N)) t).heard = _ ∧ (upd X.e s (sendS (X.e s) (txt X.N)) t).lost = _ ∧ (upd X.e s (sendS (X.e s) (txt X.N)) t).received = _
    by_cases e : t = s
    · subst e; rw [upd_same]; exact ⟨rfl, rfl, rfl, rfl, rfl⟩
    · rw [upd_ne _ _ e]; exact ⟨rfl, rfl, rfl, rfl, rfl⟩
  have eE := fun t => (eS t).1
  have eP := fun t => (eS t).2.1
  have eR := fun t => (eS t).2.2.2.2
  have qN : ∀ t, t ≠ s → (sendP X s).e t = X.e t := fun t ht => upd_ne _ _ ht
  have qS : (sendP X s).e s = sendS (X.e s) (txt X.N) := upd_same _ _ _
  have gS : ∀ t p q, sendG X G s t p q = if t = s ∧ p = (X.e s).epoch ∧ q = (X.e s).peer then G t p q ++ [X.N] else G t p q := fun _ _ _ => rfl
  have gmem : ∀ t p q n, n ∈ sendG X G s t p q → n ∈ G t p q ∨ (n = X.N ∧ t = s ∧ p = (X.e s).epoch ∧ q = (X.e s).peer) := by
    intro t p q n hn
    rw [gS] at hn
    split at hn
    · rename_i hc
      rcases List.mem_append.1 hn with h1 | h1
      · exact .inl h1
      · exact .inr ⟨by simpa using h1, hc⟩
    · exact .inl hn
  have gget : ∀ t p q (k n : Nat), (sendG X G s t p q)[k]? = some n → (G t p q)[k]? = some n ∨ (n = X.N ∧ k = (G t p q).length ∧ t = s ∧ p = (X.e s).epoch ∧ q = (X.e s).peer) := by
    intro t p q k n hn
    rw [gS] at hn
    split at hn
    · rename_i hc
      rcases get_app hn with h1 | h1
      · exact .inl h1
      · exact .inr ⟨h1.2, h1.1, hc⟩
    · exact .inl hn
  have gold : ∀ t p q (k n : Nat), (G t p q)[k]? = some n → (sendG X G s t p q)[k]? = some n := by
    intro t p q k n hn
    rw [gS]
    split
    · exact app_get hn
    · exact hn
  have old : ∀ n, n < X.N → (sendP X s).sd n = X.sd n ∧ (sendP X s).fm n = X.fm n ∧ (sendP X s).to n = X.to n ∧ (sendP X s).ar n = X.ar n ∧ (sendP X s).ls n = X.ls n := fun n hn => ⟨upd_ne _ _ (by omega), upd_ne _ _ (by omega), upd_ne _ _ (by omega), upd_ne _ _ (by omega), upd_ne _ _ (by omega)⟩
  have new : (sendP X s).sd X.N = s ∧ (sendP X s).fm X.N = (X.e s).epoch ∧ (sendP X s).to X.N = 0 ∧ (sendP X s).ar X.N = 0 ∧ (sendP X s).ls X.N = false := ⟨upd_same _ _ _, upd_same _ _ _, upd_same _ _ _, upd_same _ _ _, upd_same _ _ _⟩
  have hN : (sendP X s).N = X.N + 1 := rfl
  have hfl : (sendP X s).fl = X.fl := rfl
  have hla : (sendP X s).la = X.la := rfl
  have inlt : ∀ t, t < 2 → ∀ p q (k n : Nat), (G t p q)[k]? = some n → n < X.N := fun t ht p q k n hn => (h.gm t ht p q n (List.mem_of_getElem? hn)).2.1
  have curS : cur (sendP X s) (sendG X G s) s = cur X G s ++ [X.N] := by
    unfold cur
    rw [eE, eP, gS, if_pos ⟨rfl, rfl, rfl⟩]
  have curN : ∀ t, t ≠ s → cur (sendP X s) (sendG X G s) t = cur X G t := fun t ht => by
    unfold cur
    rw [eE, eP, gS, if_neg (fun hc => ht hc.1)]
  refine ⟨fun t ht => by rw [eE]; exact h.ep t ht, fun t ht => by rw [eP, eE]; exact h.pe t ht, fun t ht => by rw [(eS t).2.2.1, eP]; exact h.he t ht, fun t ht => by rw [(eS t).2.2.2.1]; exact h.lo t ht, fun t ht => ?_, fun t ht q hq => ?_, fun t ht => ?_, fun t ht p q n hn => ?_, fun t ht p q => ?_, fun t ht p q hp => ?_, fun t ht q hq => ?_, fun t ht p q hq => ?_, by rw [hN]; have := h.n1; omega, fun n m h1 h2 h3 h4 => ?_, fun n h1 h2 => ?_, fun t ht => by rw [hla, hN]; have := h.la t ht; omega, fun x hx => ?_, fun t ht => ?_, fun t ht k n hk => ?_, fun t ht p n hp hn => ?_, fun t ht hp n hn => ?_, fun n h1 h2 h3 h4 h5 => ?_⟩
  · by_cases e : t = s
    · subst e
      rw [curS, qS]
      show (X.e t).next + 1 = _
      rw [h.nx t ht]
      simp
    · rw [curN t e, qN t e]; exact h.nx t ht
  · by_cases e : t = s
    · subst e
      rw [qS] at hq
      rw [curS, eP]
      rcases List.mem_append.1 hq with hq | hq
      · obtain ⟨k, n, a1, a2, a3, a4, a5, a6, a7⟩ := h.qu t ht q hq
        have := old n (inlt t ht _ _ k n a1)
        exact ⟨k, n, app_get a1, a2, a3, by rw [this.2.2.2.2]; exact a4, by rw [this.2.2.1]; exact a5, a6, a7⟩
      · rw [List.mem_singleton] at hq
        subst hq
        refine ⟨(cur X G t).length, X.N, by simp, ?_, rfl, new.2.2.2.2, .inl new.2.2.1, by simp, fun _ => rfl⟩
        exact h.nx t ht
    · rw [qN t e] at hq
      rw [curN t e, eP]
      obtain ⟨k, n, a1, a2, a3, a4, a5, a6, a7⟩ := h.qu t ht q hq
      have := old n (inlt t ht _ _ k n a1)
      exact ⟨k, n, a1, a2, a3, by rw [this.2.2.2.2]; exact a4, by rw [this.2.2.1]; exact a5, a6, a7⟩
  · by_cases e : t = s
    · subst e
      rw [qS]
      show ((X.e t).queue ++ [_]).Pairwise _
      rw [List.pairwise_append]
      refine ⟨h.qd t ht, by simp, fun a ha b hb => ?_⟩
      rw [List.mem_singleton] at hb
      subst hb
      obtain ⟨k, n, a1, a2, _⟩ := h.qu t ht a ha
      have := (List.getElem?_eq_some_iff.1 a1).1
      show a.seq < (X.e t).next
      rw [h.nx t ht, a2]
      omega
    · rw [qN t e]; exact h.qd t ht
  · rcases gmem t p q n hn with hn | ⟨rfl, rfl, rfl, rfl⟩
    · obtain ⟨a1, a2, a3, a4⟩ := h.gm t ht p q n hn
      have := old n a2
      exact ⟨a1, by rw [hN]; omega, by rw [this.1]; exact a3, by rw [this.2.1]; exact a4⟩
    · exact ⟨h.n1, by rw [hN]; omega, new.1, new.2.1⟩
  · rw [gS]
    split
    · rename_i hc
      rw [List.pairwise_append]
      refine ⟨h.gs t ht p q, by simp, fun a ha b hb => ?_⟩
      rw [List.mem_singleton] at hb
      subst hb
      exact (h.gm t ht p q a ha).2.1
    · exact h.gs t ht p q
  · rw [eE] at hp
    rw [gS, if_neg (fun hc => by
      obtain ⟨rfl, h2, _⟩ := hc
      omega)]
    exact h.gp t ht p q hp
  · rw [eP] at hq
    rw [eE, gS, if_neg (fun hc => by
      obtain ⟨rfl, _, h2⟩ := hc
      omega)]
    exact h.gq t ht q hq
  · rw [eE] at hq
    rw [gS, if_neg (fun hc => by
      obtain ⟨rfl, _, h2⟩ := hc
      have := (h.pe t ht).2
      omega)]
    exact h.gr t ht p q hq
  · rw [hN] at h3
    rcases Nat.lt_or_ge m X.N with hm | hm
    · have a := old n (by omega)
      have b := old m hm
      rw [a.1, b.1] at h4
      rw [a.2.1, b.2.1]
      exact h.mb n m h1 h2 hm h4
    · obtain rfl : m = X.N := by omega
      have a := old n (by omega)
      rw [a.1, new.1] at h4
      rw [a.2.1, new.2.1]
      have := h.mf n h1 (by omega)
      rw [h4] at this
      exact this.2
  · rw [hN] at h2
    rcases Nat.lt_or_ge n X.N with hn | hn
    · have a := old n hn
      rw [a.1, a.2.1, eE]
      exact h.mf n h1 hn
    · obtain rfl : n = X.N := by omega
      rw [new.1, new.2.1, eE]
      exact ⟨hs, Int.le_refl _⟩
  · rw [hfl] at hx
    obtain ⟨a1, a2, a3, a4, a5⟩ := h.fl x hx
    refine ⟨a1, a2, by rw [eE]; exact a3, fun hp => ?_, fun hp k hk => ?_⟩
    · obtain ⟨k, n, b1, b2, b3, b4⟩ := a4 hp
      have := old n (inlt _ (by omega) _ _ k n b1)
      exact ⟨k, n, gold _ _ _ _ _ b1, b2, b3, by rw [this.2.2.1]; exact b4⟩
    · obtain ⟨n, b1, b2⟩ := a5 hp k hk
      have := old n (inlt _ a1 _ _ k n b1)
      exact ⟨n, gold _ _ _ _ _ b1, by rw [this.2.2.2.1]; exact b2⟩
  · rw [eR, eP, eE]
    have := h.re t ht
    refine ⟨this.1, Int.le_trans this.2 ?_⟩
    rw [gS]
    split
    · simp
      omega
    · omega
  · rw [eP, eE] at hk
    rw [eR]
    rcases gget _ _ _ k n hk with hk | ⟨rfl, k2, _⟩
    · have := old n (inlt _ (flip ht).1 _ _ k n hk)
      rw [this.2.2.2.1, hla]
      exact h.ra t ht k n hk
    · have hr := (h.re t ht).2
      exact ⟨fun hlt => by omega, fun _ => ⟨new.2.2.2.1, by rw [hla]; exact h.la t ht⟩⟩
  · rw [eP] at hp
    rw [eE] at hn
    rcases gmem _ _ _ n hn with hn | ⟨rfl, _⟩
    · have := old n (h.gm _ (flip ht).1 _ _ n hn).2.1
      rw [this.2.2.2.1, hla]
      exact h.rb t ht p n hp hn
    · exact ⟨new.2.2.2.1, by rw [hla]; exact h.la t ht⟩
  · rw [eP] at hp
    rw [eE] at hn
    rcases gmem _ _ _ n hn with hn | ⟨rfl, _⟩
    · have := old n (h.gm _ ht _ _ n hn).2.1
      rw [this.2.2.2.1, hla]
      exact h.pd t ht hp n hn
    · exact ⟨new.2.2.2.1, by rw [hla]; exact h.la _ (flip ht).1⟩
  · rw [hN] at h2
    rcases Nat.lt_or_ge n X.N with hn | hn
    · have a := old n hn
      rw [a.1, a.2.1, eE] at h3
      rw [a.2.2.2.1] at h4
      rw [a.2.2.2.2] at h5
      rw [a.1]
      obtain ⟨q, q1, q2⟩ := h.op n h1 hn h3 h4 h5
      by_cases e : X.sd n = s
      · rw [e] at q1 ⊢
        rw [qS]
        exact ⟨q, List.mem_append.2 (.inl q1), q2⟩
      · rw [qN _ e]
        exact ⟨q, q1, q2⟩
    · obtain rfl : n = X.N := by omega
      rw [new.1, qS]
      exact ⟨_, List.mem_append.2 (.inr (List.mem_singleton.2 rfl)), rfl⟩
end Go.Proofs.Ytfidjdlmmcaplaa
/-
  Link, plain: ticks and new ends keep what holds of the line.
-/
namespace Go.Proofs.Ytfidjdlmmcaplaa
open Go

/-- the number of a body -/
def numB (s : Bytes) : Nat := (s.take 9).foldl (fun a b => 10 * a + (b.toNat - 48)) 0
theorem numB_txt : ∀ n : Nat, n < 300 → numB (txt n) = n := by
  have h : ∀ n : Fin 300, numB (txt n) = n := by decide +kernel
  exact fun n hn => h ⟨n, hn⟩
theorem txt_inj {n m : Nat} (hn : n < 300) (hm : m < 300) (h : txt n = txt m) : n = m := by
  rw [← numB_txt n hn, h, numB_txt m hm]
def flOK (X : PS) (G : Logs) (x : Nat × FrS) : Prop := x.1 < 2 ∧ okF x.2 ∧ x.2.fr ≤ (X.e (1 - x.1)).epoch ∧ (x.2.seq > 0 → ∃ k n : Nat, (G (1 - x.1) x.2.fr x.2.to)[k]? = some n ∧ x.2.seq = (k : Int) + 1 ∧ x.2.body = txt n ∧ X.to n = x.2.to) ∧ (x.2.to > 0 → ∀ k : Nat, (k : Int) < x.2.ack → ∃ n, (G x.1 x.2.to x.2.fr)[k]? = some n ∧ X.ar n ≠ 0)
theorem J.less {X : PS} {G : Logs} (h : J X G) {fl' : List (Nat × FrS)} (hs : ∀ x ∈ fl', x ∈ X.fl) : J { X with fl := fl' } G :=
  ⟨h.ep, h.pe, h.he, h.lo, h.nx, h.qu, h.qd, h.gm, h.gs, h.gp, h.gq, h.gr, h.n1, h.mb, h.mf, h.la, fun x hx => h.fl x (hs x hx), h.re, h.ra, h.rb, h.pd, h.op⟩
/-- an end begins anew -/
theorem J.new {X : PS} {G : Logs} (h : J X G) {s : Nat} (hs : s < 2) {e : Int} (he : (X.e s).epoch < e) : J { X with e := upd X.e s (newS e) } G := by
  obtain ⟨f1, f2, f3⟩ := flip hs
  obtain ⟨E, hE⟩ : ∃ E, E = upd X.e s (newS e) := ⟨_, rfl⟩
  rw [← hE]
  have eS : E s = newS e := by rw [hE, upd_same]
  have eN : ∀ t, t ≠ s → E t = X.e t := fun t ht => by rw [hE, upd_ne _ _ ht]
  have mono : ∀ t, (X.e t).epoch ≤ (E t).epoch := fun t => by
    by_cases c : t = s
    · subst c; rw [eS]; show _ ≤ e; omega
    · rw [eN t c]; exact Int.le_refl _
  have G0 : ∀ p q, G s p q = [] ∨ p ≤ (X.e s).epoch := fun p q => by
    rcases Int.lt_or_le (X.e s).epoch p with h1 | h1
    · exact .inl (h.gp s hs p q h1)
    · exact .inr h1
  have Ge : ∀ q, G s e q = [] := fun q => h.gp s hs e q he
  have Go : ∀ p, G (1 - s) p e = [] := fun p => h.gr (1 - s) f1 p e (by rw [f2]; exact he)
  have two : ∀ t, t < 2 → t ≠ s → t = 1 - s := fun t ht hn => by omega
  refine ⟨fun t ht => ?_, fun t ht => ?_, fun t ht hh => ?_, fun t ht => ?_, fun t ht => ?_, fun t ht q hq => ?_, fun t ht => ?_, h.gm, h.gs, fun t ht p q hp => ?_, fun t ht q hq => ?_, fun t ht p q hq => ?_, h.n1, h.mb, fun n h1 h2 => ?_, h.la, fun x hx => ?_, fun t ht => ?_, fun t ht k n hk => ?_, fun t ht p n hp hn => ?_, fun t ht hp n hn => ?_, fun n h1 h2 h3 h4 h5 => ?_⟩
  · have := mono t; have := h.ep t ht; show 1 ≤ (E t).epoch; omega
  · show 0 ≤ (E t).peer ∧ (E t).peer ≤ (E (1 - t)).epoch
    by_cases c : t = s
    · subst c
      rw [eS]
      have := mono (1 - t)
      have := h.ep (1 - t) f1
      show 0 ≤ (0 : Int) ∧ (0 : Int) ≤ (E (1 - t)).epoch
      omega
    · rw [eN t c]
      have := h.pe t ht
      have := mono (1 - t)
      omega
  · have hh' : (E t).heard = true := hh
    show (E t).peer > 0
    by_cases c : t = s
    · subst c; rw [eS] at hh'; cases hh'
    · rw [eN t c] at hh' ⊢; exact h.he t ht hh'
  · show (E t).lost = []
    by_cases c : t = s
    · subst c; rw [eS]; rfl
    · rw [eN t c]; exact h.lo t ht
  · show (E t).next = ((G t (E t).epoch (E t).peer).length : Int) + 1
    by_cases c : t = s
    · subst c
      rw [eS]
      show (1 : Int) = ((G t e 0).length : Int) + 1
      rw [Ge]
      rfl
    · rw [eN t c]; exact h.nx t ht
  · have hq' : q ∈ (E t).queue := hq
    by_cases c : t = s
    · subst c; rw [eS] at hq'; cases hq'
    · rw [eN t c] at hq'
      obtain ⟨k, n, a1, a2⟩ := h.qu t ht q hq'
      refine ⟨k, n, ?_, ?_⟩
      · show (G t (E t).epoch (E t).peer)[k]? = some n
        rw [eN t c]; exact a1
      · show _ ∧ _ ∧ _ ∧ (_ ∨ X.to n = (E t).peer) ∧ _ ∧ ((E t).peer = 0 → _)
        rw [eN t c]; exact a2
  · show (E t).queue.Pairwise _
    by_cases c : t = s
    · subst c; rw [eS]; exact .nil
    · rw [eN t c]; exact h.qd t ht
  · have := mono t
    exact h.gp t ht p q (by have hp' : p > (E t).epoch := hp; omega)
  · show G t (E t).epoch q = []
    by_cases c : t = s
    · subst c; rw [eS]; exact Ge q
    · have hq' : q > (E t).peer := hq
      rw [eN t c] at hq' ⊢
      exact h.gq t ht q hq'
  · have := mono (1 - t)
    exact h.gr t ht p q (by have hq' : q > (E (1 - t)).epoch := hq; omega)
  · have h0 := h.mf n h1 h2
    have hm := mono (X.sd n)
    exact ⟨h0.1, Int.le_trans h0.2 hm⟩
  · have h0 := h.fl x hx
    have hm := mono (1 - x.1)
    exact ⟨h0.1, h0.2.1, Int.le_trans h0.2.2.1 hm, h0.2.2.2⟩
  · show 0 ≤ (E t).received ∧ (E t).received ≤ ((G (1 - t) (E t).peer (E t).epoch).length : Int)
    by_cases c : t = s
    · subst c
      rw [eS]
      show 0 ≤ (0 : Int) ∧ (0 : Int) ≤ _
      omega
    · rw [eN t c]; exact h.re t ht
  · have hk' : (G (1 - t) (E t).peer (E t).epoch)[k]? = some n := hk
    show ((k : Int) < (E t).received → _) ∧ ((E t).received ≤ (k : Int) → _)
    by_cases c : t = s
    · subst c
      rw [eS] at hk'
      have hk2 : (G (1 - t) 0 e)[k]? = some n := hk'
      rw [Go] at hk2
      simp at hk2
    · rw [eN t c] at hk' ⊢; exact h.ra t ht k n hk'
  · have hn' : n ∈ G (1 - t) p (E t).epoch := hn
    have hp' : p > (E t).peer := hp
    by_cases c : t = s
    · subst c
      rw [eS] at hn'
      have hn2 : n ∈ G (1 - t) p e := hn'
      rw [Go] at hn2
      cases hn2
    · rw [eN t c] at hn' hp'; exact h.rb t ht p n hp' hn'
  · have hn' : n ∈ G t (E t).epoch 0 := hn
    have hp' : (E t).peer = 0 := hp
    by_cases c : t = s
    · subst c
      rw [eS] at hn'
      have hn2 : n ∈ G t e 0 := hn'
      rw [Ge] at hn2
      cases hn2
    · rw [eN t c] at hn' hp'; exact h.pd t ht hp' n hn'
  · have h3' : X.fm n = (E (X.sd n)).epoch := h3
    show ∃ q ∈ (E (X.sd n)).queue, _
    by_cases c : X.sd n = s
    · rw [c, eS] at h3'
      have h6 : X.fm n = e := h3'
      have := (h.mf n h1 h2).2
      rw [c] at this
      omega
    · rw [eN _ c] at h3' ⊢
      exact h.op n h1 h2 h3' h4 h5
/-- what a tick sends -/
theorem tick_frames {S : EndS} {f : FrS} (hf : f ∈ (tickS S).2) : f = ⟨S.epoch, 0, 0, 0, []⟩ ∨ (S.peer > 0 ∧ (f = ⟨S.epoch, S.peer, 0, S.received, []⟩ ∨ ∃ q ∈ S.queue, f = frameS S q)) := by
  have h1 : ∀ f ∈ (tick1 S).2, S.peer > 0 ∧ (f = ⟨S.epoch, S.peer, 0, S.received, []⟩ ∨ ∃ q ∈ S.queue, f = frameS S q) := by
    intro f hf
    unfold tick1 at hf
    split at hf
    · rename_i hp
      refine ⟨hp, ?_⟩
      simp only at hf
      unfold outO at hf
      split at hf
      · exact .inl (List.mem_singleton.1 hf)
      · unfold outS at hf
        obtain ⟨q, hq, rfl⟩ := List.mem_map.1 hf
        exact .inr ⟨q, List.mem_of_mem_take (List.mem_filter.1 hq).1, rfl⟩
    · cases hf
  unfold tickS at hf
  split at hf
  · rcases List.mem_append.1 hf with hf | hf
    · exact .inr (h1 f hf)
    · exact .inl (List.mem_singleton.1 hf)
  · exact .inr (h1 f hf)
theorem tick_rest (S : EndS) : (tickS S).1.epoch = S.epoch ∧ (tickS S).1.peer = S.peer ∧ (tickS S).1.heard = S.heard ∧ (tickS S).1.lost = S.lost ∧ (tickS S).1.received = S.received ∧ (tickS S).1.next = S.next := by
  have h : ∀ T : EndS, (p1 T).1.epoch = T.epoch ∧ (p1 T).1.peer = T.peer ∧ (p1 T).1.heard = T.heard ∧ (p1 T).1.lost = T.lost ∧ (p1 T).1.received = T.received ∧ (p1 T).1.next = T.next := fun T => by
    obtain ⟨_, _, a, b, c, d, e, f⟩ := p1_rest T
    exact ⟨b, c, a, f, d, e⟩
  unfold tickS
  rw [tick1_eq]
  split <;> exact h _
theorem tick_queue (S : EndS) : (tickS S).1.queue.map (·.seq) = S.queue.map (·.seq) ∧ (tickS S).1.queue.map (·.body) = S.queue.map (·.body) ∧ ∀ q' ∈ (tickS S).1.queue, ∃ q ∈ S.queue, q'.seq = q.seq ∧ q'.body = q.body ∧ (q'.at_ = q.at_ ∨ (q'.at_ = S.ticks + 1 ∧ S.heard = true)) := by
  have sq : ∀ (t : Int) (h : Bool) (q : QE), (sentQ t h q).seq = q.seq ∧ (sentQ t h q).body = q.body ∧ ((sentQ t h q).at_ = q.at_ ∨ ((sentQ t h q).at_ = t ∧ h = true)) := by
    intro t h q
    unfold sentQ
    split
    · rename_i hc
      rw [Bool.and_eq_true] at hc
      exact ⟨rfl, rfl, .inr ⟨rfl, hc.1⟩⟩
    · exact ⟨rfl, rfl, .inl rfl⟩
  have e : (tickS S).1.queue = (tick1 S).1.queue := by
    unfold tickS
    split <;> rfl
  rw [e]
  unfold tick1
  split
  · refine ⟨?_, ?_, fun q' hq' => ?_⟩
    · simp only [List.map_append, List.map_map]
      rw [show ((fun x : QE => x.seq) ∘ sentQ (S.ticks + 1) S.heard) = fun x : QE => x.seq from funext fun q => (sq _ _ q).1, ← List.map_append, List.take_append_drop]
    · simp only [List.map_append, List.map_map]
      rw [show ((fun x : QE => x.body) ∘ sentQ (S.ticks + 1) S.heard) = fun x : QE => x.body from funext fun q => (sq _ _ q).2.1, ← List.map_append, List.take_append_drop]
    · simp only at hq'
      rcases List.mem_append.1 hq' with h1 | h1
      · obtain ⟨q, hq, rfl⟩ := List.mem_map.1 h1
        exact ⟨q, List.mem_of_mem_take hq, sq _ _ q⟩
      · exact ⟨q', List.mem_of_mem_drop h1, rfl, rfl, .inl rfl⟩
  · exact ⟨rfl, rfl, fun q' hq' => ⟨q', hq', rfl, rfl, .inl rfl⟩⟩
/-- what the frames are noted to be sent to -/
def toAll (xs : List FrS) (to : Nat → Int) : Nat → Int := xs.foldl (fun t f => if f.seq > 0 then upd t (numB f.body) f.to else t) to
theorem toAll_cons (f : FrS) (xs : List FrS) (to : Nat → Int) : toAll (f :: xs) to = toAll xs (if f.seq > 0 then upd to (numB f.body) f.to else to) := rfl
theorem toAll_cases {p : Int} : ∀ (xs : List FrS) (to : Nat → Int), (∀ f ∈ xs, f.seq > 0 → f.to = p) → ∀ n, (toAll xs to n = to n ∨ (toAll xs to n = p ∧ ∃ f ∈ xs, f.seq > 0 ∧ numB f.body = n)) ∧ ∀ f ∈ xs, f.seq > 0 → numB f.body = n → toAll xs to n = p
  | [], to, _, n => ⟨.inl rfl, fun f hf => by cases hf⟩
  | f :: xs, to, h, n => by
    rw [toAll_cons]
    obtain ⟨h1, h2⟩ := toAll_cases xs (if f.seq > 0 then upd to (numB f.body) f.to else to) (fun g hg => h g (List.mem_cons_of_mem _ hg)) n
    have hf0 : (if f.seq > 0 then upd to (numB f.body) f.to else to) n = to n ∨ ((if f.seq > 0 then upd to (numB f.body) f.to else to) n = p ∧ f.seq > 0 ∧ numB f.body = n) := by
      by_cases hs : f.seq > 0
      · rw [if_pos hs]
        by_cases c : n = numB f.body
        · subst c
          rw [upd_same]
          exact .inr ⟨h f (by simp) hs, hs, rfl⟩
        · rw [upd_ne _ _ c]; exact .inl rfl
      · rw [if_neg hs]; exact .inl rfl
    refine ⟨?_, fun g hg hs hn => ?_⟩
    · rcases h1 with h1 | ⟨h1, g, g1, g2⟩
      · rw [h1]
        rcases hf0 with h3 | ⟨h3, h4, h5⟩
        · exact .inl h3
        · exact .inr ⟨h3, f, by simp, h4, h5⟩
      · exact .inr ⟨h1, g, List.mem_cons_of_mem _ g1, g2⟩
    · rcases List.mem_cons.1 hg with rfl | hg
      · rcases h1 with h1 | ⟨h1, _⟩
        · rw [h1, if_pos hs, ← hn, upd_same]
          exact h g (by simp) hs
        · exact h1
      · exact h2 g hg hs hn
def tickP (X : PS) (s : Nat) : PS := { X with e := upd X.e s (tickS (X.e s)).1, fl := X.fl ++ (tickS (X.e s)).2.map (fun f => (1 - s, f)), to := toAll (tickS (X.e s)).2 X.to }
/-- what a tick's frames are -/
theorem J.frames {X : PS} {G : Logs} (h : J X G) {s n : Nat} (hs : s < 2) (hw : ∀ t, t < 2 → Wf n (X.e t)) (hn : n ≤ 200) {f : FrS} (hf : f ∈ (tickS (X.e s)).2) :
    okF f ∧ f.fr = (X.e s).epoch ∧ (f.seq > 0 → f.to = (X.e s).peer ∧ (X.e s).peer > 0 ∧ ∃ k m : Nat, (cur X G s)[k]? = some m ∧ f.seq = (k : Int) + 1 ∧ f.body = txt m ∧ (X.to m = 0 ∨ X.to m = (X.e s).peer)) ∧ (f.to > 0 → f.to = (X.e s).peer ∧ (f.ack = (X.e s).received ∨ f.ack = 0)) := by
  obtain ⟨f1, f2, f3⟩ := flip hs
  have hep := h.ep s hs
  have hpe := h.pe s hs
  have he1 := (hw s hs).epoch
  have he2 := (hw (1 - s) f1).epoch
  have hrc := (hw s hs).received
  rcases tick_frames hf with rfl | ⟨hp, rfl | ⟨q, hq, rfl⟩⟩
  · refine ⟨?_, rfl, fun h0 => by simp at h0, fun h0 => by simp at h0⟩
    unfold okF
    simp
    omega
  · refine ⟨?_, rfl, fun h0 => by simp at h0, fun _ => ⟨rfl, .inl rfl⟩⟩
    unfold okF
    simp
    omega
  · obtain ⟨k, m, a1, a2, a3, a4, a5, a6, a7⟩ := h.qu s hs q hq
    have hk := (List.getElem?_eq_some_iff.1 a1).1
    have hnx := h.nx s hs
    have hnw := (hw s hs).next
    have hl := txt_len m
    refine ⟨?_, rfl, fun _ => ⟨rfl, hp, k, m, a1, a2, a3, a5⟩, fun _ => ⟨rfl, .inl rfl⟩⟩
    unfold okF frameS
    simp only
    rw [a2, a3]
    refine ⟨by omega, by omega, by omega, by omega, by omega, .inl (by omega), .inl hp⟩
theorem J.tick {X : PS} {G : Logs} (h : J X G) {s n : Nat} (hs : s < 2) (hw : ∀ t, t < 2 → Wf n (X.e t)) (hn : n ≤ 200) (hN : X.N < 300) : J (tickP X s) G := by
  obtain ⟨f1, f2, f3⟩ := flip hs
  obtain ⟨r1, r2, r3, r4, r5, r6⟩ := tick_rest (X.e s)
  obtain ⟨q1, q2, q3⟩ := tick_queue (X.e s)
  have eS : (tickP X s).e s = (tickS (X.e s)).1 := upd_same _ _ _
  have eN : ∀ t, t ≠ s → (tickP X s).e t = X.e t := fun t ht => upd_ne _ _ ht
  have eA : ∀ t, ((tickP X s).e t).epoch = (X.e t).epoch ∧ ((tickP X s).e t).peer = (X.e t).peer ∧ ((tickP X s).e t).heard = (X.e t).heard ∧ ((tickP X s).e t).lost = (X.e t).lost ∧ ((tickP X s).e t).received = (X.e t).received ∧ ((tickP X s).e t).next = (X.e t).next := fun t => by
    by_cases c : t = s
    · subst c; rw [eS]; exact ⟨r1, r2, r3, r4, r5, r6⟩
    · rw [eN t c]; exact ⟨rfl, rfl, rfl, rfl, rfl, rfl⟩
  have eE := fun t => (eA t).1
  have eP := fun t => (eA t).2.1
  have eR := fun t => (eA t).2.2.2.2.1
  have hcur : ∀ t, cur (tickP X s) G t = cur X G t := fun t => by unfold cur; rw [eE, eP]
  have fr := fun f hf => h.frames hs hw hn (f := f) hf
  have tc := toAll_cases (p := (X.e s).peer) (tickS (X.e s)).2 X.to (fun f hf hq => ((fr f hf).2.2.1 hq).1)
  have hto : ∀ m, (tickP X s).to m = toAll (tickS (X.e s)).2 X.to m := fun _ => rfl
  -- whose note is changed
  have chg : ∀ m, (tickP X s).to m = X.to m ∨ ((tickP X s).to m = (X.e s).peer ∧ m ∈ cur X G s ∧ (X.to m = 0 ∨ X.to m = (X.e s).peer)) := fun m => by
    rcases (tc m).1 with h1 | ⟨h1, f, g1, g2, g3⟩
    · exact .inl h1
    · refine .inr ⟨h1, ?_⟩
      obtain ⟨_, _, k, m', a1, a2, a3, a4⟩ := (fr f g1).2.2.1 g2
      have hm := List.mem_of_getElem? a1
      have hlt := (h.gm s hs _ _ m' hm).2.1
      rw [a3, numB_txt m' (by omega)] at g3
      subst g3
      exact ⟨hm, a4⟩
  have other : ∀ t, t < 2 → t ≠ s → ∀ p q m, m ∈ G t p q → (tickP X s).to m = X.to m := fun t ht hts p q m hm => by
    rcases chg m with h1 | ⟨_, h2, _⟩
    · exact h1
    · have a := (h.gm t ht p q m hm).2.2.1
      have b := (h.gm s hs _ _ m h2).2.2.1
      omega
  refine ⟨fun t ht => by rw [eE]; exact h.ep t ht, fun t ht => by rw [eP, eE]; exact h.pe t ht, fun t ht => by rw [(eA t).2.2.1, eP]; exact h.he t ht, fun t ht => by rw [(eA t).2.2.2.1]; exact h.lo t ht, fun t ht => by rw [(eA t).2.2.2.2.2, hcur]; exact h.nx t ht, fun t ht q hq => ?_, fun t ht => ?_, h.gm, h.gs, fun t ht p q hp => h.gp t ht p q (by rw [eE] at hp; exact hp), fun t ht q hq => by rw [eE]; exact h.gq t ht q (by rw [eP] at hq; exact hq), fun t ht p q hq => h.gr t ht p q (by rw [eE] at hq; exact hq), h.n1, h.mb, fun n h1 h2 => by rw [eE]; exact h.mf n h1 h2, h.la, fun x hx => ?_, fun t ht => by rw [eR, eP, eE]; exact h.re t ht, fun t ht k m hk => ?_, fun t ht p m hp hm => ?_, fun t ht hp m hm => ?_, fun m h1 h2 h3 h4 h5 => ?_⟩
  · by_cases c : t = s
    · subst c
      rw [eS] at hq
      obtain ⟨q0, g1, g2, g3, g4⟩ := q3 q hq
      obtain ⟨k, m, a1, a2, a3, a4, a5, a6, a7⟩ := h.qu t ht q0 g1
      refine ⟨k, m, by rw [hcur]; exact a1, by rw [g2]; exact a2, by rw [g3]; exact a3, a4, ?_, ?_, fun hp => ?_⟩
      · rw [eP]
        rcases chg m with e | ⟨e, _⟩
        · rw [e]; exact a5
        · exact .inr e
      · have := (hw t ht).ticks
        rcases g4 with e | ⟨e, _⟩ <;> omega
      · rw [eP] at hp
        rcases g4 with e | ⟨e, hh⟩
        · rw [e]; exact a7 hp
        · have := h.he t ht hh
          omega
    · rw [eN t c] at hq
      obtain ⟨k, m, a1, a2, a3, a4, a5, a6⟩ := h.qu t ht q hq
      refine ⟨k, m, by rw [hcur]; exact a1, a2, a3, a4, ?_, by rw [eN t c]; exact a6⟩
      rw [other t ht c _ _ m (List.mem_of_getElem? a1), eN t c]
      exact a5
  · by_cases c : t = s
    · subst c
      rw [eS]
      have := h.qd t ht
      rw [← List.pairwise_map (f := fun q : QE => q.seq) (R := fun a b : Int => a < b)] at this ⊢
      rw [q1]
      exact this
    · rw [eN t c]; exact h.qd t ht
  · rcases List.mem_append.1 hx with hx | hx
    · obtain ⟨a1, a2, a3, a4, a5⟩ := h.fl x hx
      refine ⟨a1, a2, by rw [eE]; exact a3, fun hp => ?_, a5⟩
      obtain ⟨k, m, b1, b2, b3, b4⟩ := a4 hp
      refine ⟨k, m, b1, b2, b3, ?_⟩
      rcases chg m with e | ⟨e, _, g⟩
      · rw [e]; exact b4
      · rw [e]
        have h0 : x.2.to ≠ 0 := fun h0 => by
          have := a2.2.2.2.2.2.2
          omega
        rcases g with g | g
        · rw [b4] at g; exact absurd g h0
        · rw [← g, b4]
    · obtain ⟨f, hf, rfl⟩ := List.mem_map.1 hx
      obtain ⟨b1, b2, b3, b4⟩ := fr f hf
      simp only
      refine ⟨f1, b1, by rw [f2, eE, b2]; exact Int.le_refl _, fun hq => ?_, fun hq k hk => ?_⟩
      · obtain ⟨c1, c2, k, m, c3, c4, c5, c6⟩ := b3 hq
        refine ⟨k, m, ?_, c4, c5, ?_⟩
        · rw [f2, b2, c1]; exact c3
        · rw [hto, c1]
          have hlt := (h.gm s hs _ _ m (List.mem_of_getElem? c3)).2.1
          exact (tc m).2 f hf hq (by rw [c5, numB_txt m (by omega)])
      · obtain ⟨c1, c2⟩ := b4 hq
        rw [b2, c1]
        have hre := h.re s hs
        rcases c2 with c2 | c2
        · have hkl : k < (G (1 - s) (X.e s).peer (X.e s).epoch).length := by omega
          exact ⟨_, List.getElem?_eq_getElem hkl, (h.ra s hs k _ (List.getElem?_eq_getElem hkl)).1 (by omega)⟩
        · omega
  · rw [eP, eE] at hk
    rw [eR]
    exact h.ra t ht k m hk
  · rw [eP] at hp
    rw [eE] at hm
    exact h.rb t ht p m hp hm
  · rw [eP] at hp
    rw [eE] at hm
    exact h.pd t ht hp m hm
  · rw [eE] at h3
    obtain ⟨q, g1, g2⟩ := h.op m h1 h2 h3 h4 h5
    show ∃ q ∈ ((tickP X s).e (X.sd m)).queue, _
    by_cases c : X.sd m = s
    · rw [c] at g1 ⊢
      rw [eS]
      have : q.body ∈ ((tickS (X.e s)).1.queue.map (·.body)) := by
        rw [q2]
        exact List.mem_map.2 ⟨q, g1, rfl⟩
      obtain ⟨q', g3, g4⟩ := List.mem_map.1 this
      exact ⟨q', g3, by rw [g4]; exact g2⟩
    · rw [eN _ c]
      exact ⟨q, g1, g2⟩
end Go.Proofs.Ytfidjdlmmcaplaa
/-
  Link, plain: frames that arrive keep what holds of the line.
-/
namespace Go.Proofs.Ytfidjdlmmcaplaa
open Go

/-- what counts of an end is the same -/
structure SameE (S T : EndS) : Prop where
  epoch : S.epoch = T.epoch
  peer : S.peer = T.peer
  lost : S.lost = T.lost
  received : S.received = T.received
  next : S.next = T.next
  queue : S.queue = T.queue
theorem J.flags {X : PS} {G : Logs} (h : J X G) {E : Nat → EndS} (hE : ∀ t, SameE (E t) (X.e t)) (hh : ∀ t, t < 2 → (E t).heard = true → (X.e t).peer > 0) : J { X with e := E } G := by
  have a := fun t => (hE t).epoch
  have b := fun t => (hE t).peer
  have c := fun t => (hE t).lost
  have d := fun t => (hE t).received
  have e := fun t => (hE t).next
  have f := fun t => (hE t).queue
  have hcur : ∀ t, cur { X with e := E } G t = cur X G t := fun t => by
    show G t (E t).epoch (E t).peer = _
    rw [a, b]; rfl
  refine ⟨fun t ht => ?_, fun t ht => ?_, fun t ht h1 => ?_, fun t ht => ?_, fun t ht => ?_, fun t ht q hq => ?_, fun t ht => ?_, h.gm, h.gs, fun t ht p q hp => ?_, fun t ht q hq => ?_, fun t ht p q hq => ?_, h.n1, h.mb, fun n h1 h2 => ?_, h.la, fun x hx => ?_, fun t ht => ?_, fun t ht k n hk => ?_, fun t ht p n hp hn => ?_, fun t ht hp n hn => ?_, fun n h1 h2 h3 h4 h5 => ?_⟩
  · show 1 ≤ (E t).epoch
    rw [a]; exact h.ep t ht
  · show 0 ≤ (E t).peer ∧ (E t).peer ≤ (E (1 - t)).epoch
    rw [b, a]; exact h.pe t ht
  · show (E t).peer > 0
    rw [b]; exact hh t ht h1
  · show (E t).lost = []
    rw [c]; exact h.lo t ht
  · show (E t).next = _
    rw [e, hcur]; exact h.nx t ht
  · have hq' : q ∈ (E t).queue := hq
    rw [f] at hq'
    obtain ⟨k, n, g1, g2⟩ := h.qu t ht q hq'
    refine ⟨k, n, by rw [hcur]; exact g1, ?_⟩
    show _ ∧ _ ∧ _ ∧ (_ ∨ X.to n = (E t).peer) ∧ _ ∧ ((E t).peer = 0 → _)
    rw [b]; exact g2
  · show (E t).queue.Pairwise _
    rw [f]; exact h.qd t ht
  · have hp' : p > (E t).epoch := hp
    rw [a] at hp'
    exact h.gp t ht p q hp'
  · have hq' : q > (E t).peer := hq
    rw [b] at hq'
    show G t (E t).epoch q = []
    rw [a]; exact h.gq t ht q hq'
  · have hq' : q > (E (1 - t)).epoch := hq
    rw [a] at hq'
    exact h.gr t ht p q hq'
  · show X.sd n < 2 ∧ X.fm n ≤ (E (X.sd n)).epoch
    rw [a]; exact h.mf n h1 h2
  · have := h.fl x hx
    refine ⟨this.1, this.2.1, ?_, this.2.2.2⟩
    show x.2.fr ≤ (E (1 - x.1)).epoch
    rw [a]; exact this.2.2.1
  · show 0 ≤ (E t).received ∧ (E t).received ≤ ((G (1 - t) (E t).peer (E t).epoch).length : Int)
    rw [d, b, a]; exact h.re t ht
  · have hk' : (G (1 - t) (E t).peer (E t).epoch)[k]? = some n := hk
    rw [b, a] at hk'
    show ((k : Int) < (E t).received → _) ∧ ((E t).received ≤ (k : Int) → _)
    rw [d]; exact h.ra t ht k n hk'
  · have hp' : p > (E t).peer := hp
    have hn' : n ∈ G (1 - t) p (E t).epoch := hn
    rw [b] at hp'
    rw [a] at hn'
    exact h.rb t ht p n hp' hn'
  · have hp' : (E t).peer = 0 := hp
    have hn' : n ∈ G t (E t).epoch 0 := hn
    rw [b] at hp'
    rw [a] at hn'
    exact h.pd t ht hp' n hn'
  · have h3' : X.fm n = (E (X.sd n)).epoch := h3
    rw [a] at h3'
    show ∃ q ∈ (E (X.sd n)).queue, _
    rw [f]; exact h.op n h1 h2 h3' h4 h5
/-- messages that have arrived are acknowledged -/
theorem J.ack {X : PS} {G : Logs} (h : J X G) {t : Nat} (ht : t < 2) {k : Int} (hk : ∀ j : Nat, (j : Int) < k → ∃ n, (cur X G t)[j]? = some n ∧ X.ar n ≠ 0) (hN : X.N < 300) : J { X with e := upd X.e t (ackS (X.e t) k) } G := by
  obtain ⟨E, hE⟩ : ∃ E, E = upd X.e t (ackS (X.e t) k) := ⟨_, rfl⟩
  rw [← hE]
  have eT : E t = ackS (X.e t) k := by rw [hE, upd_same]
  have eN : ∀ s, s ≠ t → E s = X.e s := fun s hs => by rw [hE, upd_ne _ _ hs]
  have all : ∀ s, (E s).epoch = (X.e s).epoch ∧ (E s).peer = (X.e s).peer ∧ (E s).lost = (X.e s).lost ∧ (E s).received = (X.e s).received ∧ (E s).next = (X.e s).next ∧ (E s).heard = (X.e s).heard := fun s => by
    by_cases c : s = t
    · subst c; rw [eT]; exact ⟨rfl, rfl, rfl, rfl, rfl, rfl⟩
    · rw [eN s c]; exact ⟨rfl, rfl, rfl, rfl, rfl, rfl⟩
  have a := fun s => (all s).1
  have b := fun s => (all s).2.1
  have d := fun s => (all s).2.2.2.1
  have hcur : ∀ s, cur { X with e := E } G s = cur X G s := fun s => by
    show G s (E s).epoch (E s).peer = _
    rw [a, b]; rfl
  have sub : ∀ s, ∀ q ∈ (E s).queue, q ∈ (X.e s).queue := fun s q hq => by
    by_cases c : s = t
    · subst c
      rw [eT] at hq
      exact (List.mem_filter.1 hq).1
    · rw [eN s c] at hq; exact hq
  refine ⟨fun s hs => ?_, fun s hs => ?_, fun s hs h1 => ?_, fun s hs => ?_, fun s hs => ?_, fun s hs q hq => ?_, fun s hs => ?_, h.gm, h.gs, fun s hs p q hp => ?_, fun s hs q hq => ?_, fun s hs p q hq => ?_, h.n1, h.mb, fun n h1 h2 => ?_, h.la, fun x hx => ?_, fun s hs => ?_, fun s hs k n hk => ?_, fun s hs p n hp hn => ?_, fun s hs hp n hn => ?_, fun n h1 h2 h3 h4 h5 => ?_⟩
  · show 1 ≤ (E s).epoch
    rw [a]; exact h.ep s hs
  · show 0 ≤ (E s).peer ∧ (E s).peer ≤ (E (1 - s)).epoch
    rw [b, a]; exact h.pe s hs
  · have h1' : (E s).heard = true := h1
    rw [(all s).2.2.2.2.2] at h1'
    show (E s).peer > 0
    rw [b]; exact h.he s hs h1'
  · show (E s).lost = []
    rw [(all s).2.2.1]; exact h.lo s hs
  · show (E s).next = _
    rw [(all s).2.2.2.2.1, hcur]; exact h.nx s hs
  · obtain ⟨k, n, g1, g2⟩ := h.qu s hs q (sub s q hq)
    refine ⟨k, n, by rw [hcur]; exact g1, ?_⟩
    show _ ∧ _ ∧ _ ∧ (_ ∨ X.to n = (E s).peer) ∧ _ ∧ ((E s).peer = 0 → _)
    rw [b]; exact g2
  · show (E s).queue.Pairwise _
    by_cases c : s = t
    · subst c
      rw [eT]
      exact (h.qd s hs).filter _
    · rw [eN s c]; exact h.qd s hs
  · have hp' : p > (E s).epoch := hp
    rw [a] at hp'
    exact h.gp s hs p q hp'
  · have hq' : q > (E s).peer := hq
    rw [b] at hq'
    show G s (E s).epoch q = []
    rw [a]; exact h.gq s hs q hq'
  · have hq' : q > (E (1 - s)).epoch := hq
    rw [a] at hq'
    exact h.gr s hs p q hq'
  · show X.sd n < 2 ∧ X.fm n ≤ (E (X.sd n)).epoch
    rw [a]; exact h.mf n h1 h2
  · have := h.fl x hx
    refine ⟨this.1, this.2.1, ?_, this.2.2.2⟩
    show x.2.fr ≤ (E (1 - x.1)).epoch
    rw [a]; exact this.2.2.1
  · show 0 ≤ (E s).received ∧ (E s).received ≤ ((G (1 - s) (E s).peer (E s).epoch).length : Int)
    rw [d, b, a]; exact h.re s hs
  · have hk' : (G (1 - s) (E s).peer (E s).epoch)[k]? = some n := hk
    rw [b, a] at hk'
    show ((k : Int) < (E s).received → _) ∧ ((E s).received ≤ (k : Int) → _)
    rw [d]; exact h.ra s hs k n hk'
  · have hp' : p > (E s).peer := hp
    have hn' : n ∈ G (1 - s) p (E s).epoch := hn
    rw [b] at hp'
    rw [a] at hn'
    exact h.rb s hs p n hp' hn'
  · have hp' : (E s).peer = 0 := hp
    have hn' : n ∈ G s (E s).epoch 0 := hn
    rw [b] at hp'
    rw [a] at hn'
    exact h.pd s hs hp' n hn'
  · have h3' : X.fm n = (E (X.sd n)).epoch := h3
    rw [a] at h3'
    show ∃ q ∈ (E (X.sd n)).queue, _
    have h2' : n < X.N := h2
    obtain ⟨q, g1, g2⟩ := h.op n h1 h2 h3' h4 h5
    by_cases c : X.sd n = t
    · rw [c] at g1 ⊢
      rw [eT]
      refine ⟨q, List.mem_filter.2 ⟨g1, ?_⟩, g2⟩
      obtain ⟨j, m, a1, a2, a3, _⟩ := h.qu t ht q g1
      have hm := (h.gm t ht _ _ m (List.mem_of_getElem? a1)).2.1
      have e : n = m := txt_inj (by omega) (by omega) (by rw [← g2, a3])
      subst e
      unfold keepQ
      rw [Bool.not_eq_true', Bool.and_eq_false_iff]
      refine .inr (decide_eq_false fun hle => ?_)
      obtain ⟨n', b1, b2⟩ := hk j (by omega)
      rw [a1] at b1
      injection b1 with b1
      subst b1
      exact b2 h4
    · rw [eN _ c]
      exact ⟨q, g1, g2⟩
/-- the next message arrives -/
theorem J.deliver {X : PS} {G : Logs} (h : J X G) {t n : Nat} (ht : t < 2) {v : Int} (hv : v ≠ 0) {k : Nat} (hk : (X.e t).received = (k : Int)) (hn : (G (1 - t) (X.e t).peer (X.e t).epoch)[k]? = some n) : J { X with e := upd X.e t { X.e t with received := (k : Int) + 1 }, ar := upd X.ar n v, la := upd X.la t n } G := by
  obtain ⟨f1, f2, f3⟩ := flip ht
  obtain ⟨E, hE⟩ : ∃ E, E = upd X.e t { X.e t with received := (k : Int) + 1 } := ⟨_, rfl⟩
  obtain ⟨W, hW⟩ : ∃ W, W = upd X.ar n v := ⟨_, rfl⟩
  obtain ⟨Y, hY⟩ : ∃ Y, Y = upd X.la t n := ⟨_, rfl⟩
  rw [← hE, ← hW, ← hY]
  have eT : E t = { X.e t with received := (k : Int) + 1 } := by rw [hE, upd_same]
  have eN : ∀ s, s ≠ t → E s = X.e s := fun s hs => by rw [hE, upd_ne _ _ hs]
  have all : ∀ s, (E s).epoch = (X.e s).epoch ∧ (E s).peer = (X.e s).peer ∧ (E s).lost = (X.e s).lost ∧ (E s).next = (X.e s).next ∧ (E s).heard = (X.e s).heard ∧ (E s).queue = (X.e s).queue := fun s => by
    by_cases c : s = t
    · subst c; rw [eT]; exact ⟨rfl, rfl, rfl, rfl, rfl, rfl⟩
    · rw [eN s c]; exact ⟨rfl, rfl, rfl, rfl, rfl, rfl⟩
  have a := fun s => (all s).1
  have b := fun s => (all s).2.1
  have q := fun s => (all s).2.2.2.2.2
  have wN : W n = v := by rw [hW, upd_same]
  have wO : ∀ m, m ≠ n → W m = X.ar m := fun m hm => by rw [hW, upd_ne _ _ hm]
  have wM : ∀ m, X.ar m ≠ 0 → W m ≠ 0 := fun m hm => by
    by_cases c : m = n
    · subst c; rw [wN]; exact hv
    · rw [wO m c]; exact hm
  have yT : Y t = n := by rw [hY, upd_same]
  have yO : ∀ s, s ≠ t → Y s = X.la s := fun s hs => by rw [hY, upd_ne _ _ hs]
  have hnm := h.gm (1 - t) f1 _ _ n (List.mem_of_getElem? hn)
  have hcur : ∀ s, cur { X with e := E, ar := W, la := Y } G s = cur X G s := fun s => by
    show G s (E s).epoch (E s).peer = _
    rw [a, b]; rfl
  have two : ∀ s, s < 2 → s ≠ t → 1 - s = t := fun s hs hn => by omega
  refine ⟨fun s hs => ?_, fun s hs => ?_, fun s hs h1 => ?_, fun s hs => ?_, fun s hs => ?_, fun s hs q' hq => ?_, fun s hs => ?_, h.gm, h.gs, fun s hs p q hp => ?_, fun s hs q' hq => ?_, fun s hs p q hq => ?_, h.n1, h.mb, fun n h1 h2 => ?_, fun s hs => ?_, fun x hx => ?_, fun s hs => ?_, fun s hs j m hj => ?_, fun s hs p m hp hm => ?_, fun s hs hp m hm => ?_, fun m h1 h2 h3 h4 h5 => ?_⟩
  · show 1 ≤ (E s).epoch
    rw [a]; exact h.ep s hs
  · show 0 ≤ (E s).peer ∧ (E s).peer ≤ (E (1 - s)).epoch
    rw [b, a]; exact h.pe s hs
  · have h1' : (E s).heard = true := h1
    rw [(all s).2.2.2.2.1] at h1'
    show (E s).peer > 0
    rw [b]; exact h.he s hs h1'
  · show (E s).lost = []
    rw [(all s).2.2.1]; exact h.lo s hs
  · show (E s).next = _
    rw [(all s).2.2.2.1, hcur]; exact h.nx s hs
  · have hq' : q' ∈ (E s).queue := hq
    rw [q] at hq'
    obtain ⟨k, n, g1, g2⟩ := h.qu s hs q' hq'
    refine ⟨k, n, by rw [hcur]; exact g1, ?_⟩
    show _ ∧ _ ∧ _ ∧ (_ ∨ X.to n = (E s).peer) ∧ _ ∧ ((E s).peer = 0 → _)
    rw [b]; exact g2
  · show (E s).queue.Pairwise _
    rw [q]; exact h.qd s hs
  · have hp' : p > (E s).epoch := hp
    rw [a] at hp'
    exact h.gp s hs p q hp'
  · have hq' : q' > (E s).peer := hq
    rw [b] at hq'
    show G s (E s).epoch q' = []
    rw [a]; exact h.gq s hs q' hq'
  · have hq' : q > (E (1 - s)).epoch := hq
    rw [a] at hq'
    exact h.gr s hs p q hq'
  · show X.sd n < 2 ∧ X.fm n ≤ (E (X.sd n)).epoch
    rw [a]; exact h.mf n h1 h2
  · show Y s < X.N
    by_cases c : s = t
    · subst c; rw [yT]; exact hnm.2.1
    · rw [yO s c]; exact h.la s hs
  · have := h.fl x hx
    refine ⟨this.1, this.2.1, ?_, this.2.2.2.1, fun hp j hj => ?_⟩
    · show x.2.fr ≤ (E (1 - x.1)).epoch
      rw [a]; exact this.2.2.1
    · obtain ⟨m, g1, g2⟩ := this.2.2.2.2 hp j hj
      exact ⟨m, g1, wM m g2⟩
  · show 0 ≤ (E s).received ∧ (E s).received ≤ ((G (1 - s) (E s).peer (E s).epoch).length : Int)
    rw [b, a]
    by_cases c : s = t
    · subst c
      rw [eT]
      have := (List.getElem?_eq_some_iff.1 hn).1
      show 0 ≤ (k : Int) + 1 ∧ (k : Int) + 1 ≤ _
      omega
    · rw [eN s c]; exact h.re s hs
  · have hj' : (G (1 - s) (E s).peer (E s).epoch)[j]? = some m := hj
    rw [b, a] at hj'
    show ((j : Int) < (E s).received → W m ≠ 0) ∧ ((E s).received ≤ (j : Int) → W m = 0 ∧ Y s < m)
    have old := h.ra s hs j m hj'
    by_cases c : s = t
    · subst c
      rw [eT]
      show ((j : Int) < (k : Int) + 1 → W m ≠ 0) ∧ ((k : Int) + 1 ≤ (j : Int) → W m = 0 ∧ Y s < m)
      refine ⟨fun hlt => ?_, fun hge => ?_⟩
      · by_cases hjk : j < k
        · exact wM m (old.1 (by omega))
        · obtain rfl : j = k := by omega
          rw [hn] at hj'
          injection hj' with hj'
          rw [← hj', wN]; exact hv
      · have hlt : n < m := by
          have hs2 := h.gs (1 - s) f1 (X.e s).peer (X.e s).epoch
          rw [List.pairwise_iff_getElem] at hs2
          obtain ⟨l1, g1⟩ := List.getElem?_eq_some_iff.1 hn
          obtain ⟨l2, g2⟩ := List.getElem?_eq_some_iff.1 hj'
          have := hs2 k j l1 l2 (by omega)
          rw [g1, g2] at this
          exact this
        refine ⟨?_, by rw [yT]; exact hlt⟩
        rw [wO m (by omega)]
        exact (old.2 (by omega)).1
    · rw [eN s c, yO s c]
      have hm := h.gm (1 - s) (flip hs).1 _ _ m (List.mem_of_getElem? hj')
      have hne : m ≠ n := fun e => by
        have e1 := hm.2.2.1
        rw [e, hnm.2.2.1] at e1
        omega
      rw [wO m hne]
      exact old
  · have hp' : p > (E s).peer := hp
    have hm' : m ∈ G (1 - s) p (E s).epoch := hm
    rw [b] at hp'
    rw [a] at hm'
    have old := h.rb s hs p m hp' hm'
    have hmm := h.gm (1 - s) (flip hs).1 _ _ m hm'
    show W m = 0 ∧ Y s < m
    by_cases c : s = t
    · subst c
      have hne : m ≠ n := fun e => by
        have e1 := hmm.2.2.2
        rw [e, hnm.2.2.2] at e1
        omega
      refine ⟨by rw [wO m hne]; exact old.1, ?_⟩
      rw [yT]
      rcases Nat.lt_or_ge n m with h1 | h1
      · exact h1
      · have := h.mb m n hmm.1 (by omega) hnm.2.1 (by rw [hmm.2.2.1, hnm.2.2.1])
        rw [hmm.2.2.2, hnm.2.2.2] at this
        omega
    · have hne : m ≠ n := fun e => by
        have e1 := hmm.2.2.1
        rw [e, hnm.2.2.1] at e1
        omega
      rw [wO m hne, yO s c]
      exact old
  · have hp' : (E s).peer = 0 := hp
    have hm' : m ∈ G s (E s).epoch 0 := hm
    rw [b] at hp'
    rw [a] at hm'
    have old := h.pd s hs hp' m hm'
    have hmm := h.gm s hs _ _ m hm'
    show W m = 0 ∧ Y (1 - s) < m
    by_cases c : s = t
    · subst c
      have hne : m ≠ n := fun e => by
        have e1 := hmm.2.2.1
        rw [e, hnm.2.2.1] at e1
        omega
      rw [wO m hne, yO _ f3]
      exact old
    · have hst := two s hs c
      have hs1 : 1 - t = s := by omega
      rw [hs1] at hnm hn
      have hpt := (h.pe t ht).2
      rw [hs1] at hpt
      have hlt : (X.e t).peer < (X.e s).epoch := by
        rcases Int.lt_or_le (X.e t).peer (X.e s).epoch with h1 | h1
        · exact h1
        · have e1 : (X.e t).peer = (X.e s).epoch := by omega
          rw [e1] at hn
          have h0 := h.gq s hs (X.e t).epoch (by have := h.ep t ht; omega)
          rw [h0] at hn
          simp at hn
      have hne : m ≠ n := fun e => by
        have e1 := hmm.2.2.2
        rw [e, hnm.2.2.2] at e1
        omega
      refine ⟨by rw [wO m hne]; exact old.1, ?_⟩
      rw [hst, yT]
      rcases Nat.lt_or_ge n m with h1 | h1
      · exact h1
      · have := h.mb m n hmm.1 (by omega) hnm.2.1 (by rw [hmm.2.2.1, hnm.2.2.1])
        rw [hmm.2.2.2, hnm.2.2.2] at this
        omega
  · have h3' : X.fm m = (E (X.sd m)).epoch := h3
    have h4' : W m = 0 := h4
    rw [a] at h3'
    show ∃ q ∈ (E (X.sd m)).queue, _
    rw [q]
    have hne : m ≠ n := fun e => by
      rw [e, wN] at h4'
      exact hv h4'
    rw [wO m hne] at h4'
    exact h.op m h1 h2 h3' h4' h5
end Go.Proofs.Ytfidjdlmmcaplaa
/-
  Link, plain: an end that meets a new peer; a frame that arrives keeps what holds of the line.
-/
namespace Go.Proofs.Ytfidjdlmmcaplaa
open Go

def lsAll (xs : List Bytes) (ls : Nat → Bool) : Nat → Bool := xs.foldl (fun g b => upd g (numB b) true) ls
theorem lsAll_cons (b : Bytes) (xs : List Bytes) (ls : Nat → Bool) : lsAll (b :: xs) ls = lsAll xs (upd ls (numB b) true) := rfl
theorem lsAll_get : ∀ (xs : List Bytes) (ls : Nat → Bool) (n : Nat), lsAll xs ls n = true ↔ (ls n = true ∨ ∃ b ∈ xs, numB b = n)
  | [], ls, n => by
    show ls n = true ↔ _
    simp
  | b :: xs, ls, n => by
    rw [lsAll_cons, lsAll_get xs _ n]
    by_cases c : n = numB b
    · subst c
      rw [upd_same]
      simp
    · rw [upd_ne _ _ c]
      constructor
      · rintro (h | ⟨b', h1, h2⟩)
        · exact .inl h
        · exact .inr ⟨b', List.mem_cons_of_mem _ h1, h2⟩
      · rintro (h | ⟨b', h1, h2⟩)
        · exact .inl h
        · rcases List.mem_cons.1 h1 with rfl | h1
          · exact absurd h2.symm c
          · exact .inr ⟨b', h1, h2⟩
theorem lsAll_not {xs : List Bytes} {ls : Nat → Bool} {n : Nat} (h : ls n = false) (h2 : ∀ b ∈ xs, numB b ≠ n) : lsAll xs ls n = false := by
  rw [Bool.eq_false_iff]
  intro h3
  rcases (lsAll_get xs ls n).1 h3 with h4 | ⟨b, h4, h5⟩
  · rw [h] at h4; cases h4
  · exact h2 b h4 h5
theorem upd_id {α : Type} (f : Nat → α) (s : Nat) : upd f s (f s) = f := by
  funext t
  by_cases c : t = s
  · subst c; exact upd_same _ _ _
  · exact upd_ne _ _ c
theorem lostE_eq {S : EndS} (h : S.lost = []) : { S with lost := [] } = S := by
  obtain ⟨a, b, c, d, e, f, g, h1, i, j⟩ := S
  simp only at h
  subst h
  rfl
def meetP (X : PS) (t : Nat) (p : Int) : PS := { X with e := upd X.e t { meetS (X.e t) p with lost := [] }, ls := lsAll (meetS (X.e t) p).lost X.ls }
/-- what the queue's entries are -/
theorem J.inqueue {X : PS} {G : Logs} (h : J X G) {t : Nat} (ht : t < 2) (hN : X.N < 300) {q : QE} (hq : q ∈ (X.e t).queue) : 1 ≤ numB q.body ∧ numB q.body < X.N ∧ X.sd (numB q.body) = t ∧ X.ls (numB q.body) = false ∧ q.body = txt (numB q.body) := by
  obtain ⟨k, n, a1, a2, a3, a4, a5⟩ := h.qu t ht q hq
  have hm := h.gm t ht _ _ n (List.mem_of_getElem? a1)
  rw [a3, numB_txt n (by omega)]
  exact ⟨hm.1, hm.2.1, hm.2.2.1, a4, rfl⟩
theorem J.meetB {X : PS} {G : Logs} (h : J X G) {t : Nat} (ht : t < 2) {p : Int} (hp : 0 < (X.e t).peer) (hp2 : (X.e t).peer < p) (hp3 : p ≤ (X.e (1 - t)).epoch) (hN : X.N < 300) : J (meetP X t p) G := by
  obtain ⟨f1, f2, f3⟩ := flip ht
  have hlo := h.lo t ht
  obtain ⟨E, hE⟩ : ∃ E, E = upd X.e t { meetS (X.e t) p with lost := [] } := ⟨_, rfl⟩
  obtain ⟨L, hL⟩ : ∃ L, L = lsAll (meetS (X.e t) p).lost X.ls := ⟨_, rfl⟩
  have hX : meetP X t p = { X with e := E, ls := L } := by rw [hE, hL]; rfl
  rw [hX]
  have hms : meetS (X.e t) p = { (X.e t) with lost := (X.e t).lost ++ (X.e t).queue.map (·.body), queue := [], next := 1, peer := p, received := 0, heard := false } := by
    unfold meetS
    rw [if_neg (by omega), if_pos hp]
  rw [hms] at hE hL
  rw [hlo, List.nil_append] at hL
  have eT : E t = { (X.e t) with lost := [], queue := [], next := 1, peer := p, received := 0, heard := false } := by rw [hE, upd_same]
  have eN : ∀ s, s ≠ t → E s = X.e s := fun s hs => by rw [hE, upd_ne _ _ hs]
  have a : ∀ s, (E s).epoch = (X.e s).epoch := fun s => by
    by_cases c : s = t
    · subst c; rw [eT]
    · rw [eN s c]
  have lO : ∀ n, X.sd n ≠ t → X.ls n = false → L n = false := fun n hn h0 => by
    rw [hL]
    refine lsAll_not h0 fun b hb => ?_
    obtain ⟨q, hq, rfl⟩ := List.mem_map.1 hb
    intro e
    have := (h.inqueue ht hN hq).2.2.1
    rw [e] at this
    exact hn this
  have lF : ∀ n, L n = false → X.ls n = false ∧ ∀ q ∈ (X.e t).queue, numB q.body ≠ n := fun n h0 => by
    constructor
    · rw [Bool.eq_false_iff]
      intro h1
      have := (lsAll_get ((X.e t).queue.map (·.body)) X.ls n).2 (.inl h1)
      rw [← hL, h0] at this
      cases this
    · intro q hq e
      have := (lsAll_get ((X.e t).queue.map (·.body)) X.ls n).2 (.inr ⟨q.body, List.mem_map.2 ⟨q, hq, rfl⟩, e⟩)
      rw [← hL, h0] at this
      cases this
  refine ⟨fun s hs => ?_, fun s hs => ?_, fun s hs h1 => ?_, fun s hs => ?_, fun s hs => ?_, fun s hs q hq => ?_, fun s hs => ?_, h.gm, h.gs, fun s hs p' q hp' => ?_, fun s hs q hq => ?_, fun s hs p' q hq => ?_, h.n1, h.mb, fun n h1 h2 => ?_, h.la, fun x hx => ?_, fun s hs => ?_, fun s hs j m hj => ?_, fun s hs p' m hp' hm => ?_, fun s hs hp' m hm => ?_, fun m h1 h2 h3 h4 h5 => ?_⟩
  · show 1 ≤ (E s).epoch
    rw [a]; exact h.ep s hs
  · show 0 ≤ (E s).peer ∧ (E s).peer ≤ (E (1 - s)).epoch
    rw [a]
    by_cases c : s = t
    · subst c; rw [eT]; simp only; omega
    · rw [eN s c]; exact h.pe s hs
  · have h1' : (E s).heard = true := h1
    show (E s).peer > 0
    by_cases c : s = t
    · subst c; rw [eT] at h1'; cases h1'
    · rw [eN s c] at h1' ⊢; exact h.he s hs h1'
  · show (E s).lost = []
    by_cases c : s = t
    · subst c; rw [eT]
    · rw [eN s c]; exact h.lo s hs
  · show (E s).next = ((G s (E s).epoch (E s).peer).length : Int) + 1
    by_cases c : s = t
    · subst c; rw [eT]
      simp only
      rw [h.gq s hs p (by omega)]
      rfl
    · rw [eN s c]; exact h.nx s hs
  · have hq' : q ∈ (E s).queue := hq
    by_cases c : s = t
    · subst c; rw [eT] at hq'; cases hq'
    · rw [eN s c] at hq'
      obtain ⟨k, n, g1, g2, g3, g4, g5, g6⟩ := h.qu s hs q hq'
      have hm := h.gm s hs _ _ n (List.mem_of_getElem? g1)
      refine ⟨k, n, ?_, g2, g3, lO n (by rw [hm.2.2.1]; exact c) g4, ?_⟩
      · show (G s (E s).epoch (E s).peer)[k]? = some n
        rw [eN s c]; exact g1
      · show (_ ∨ X.to n = (E s).peer) ∧ _ ∧ ((E s).peer = 0 → _)
        rw [eN s c]; exact ⟨g5, g6⟩
  · show (E s).queue.Pairwise _
    by_cases c : s = t
    · subst c; rw [eT]; exact .nil
    · rw [eN s c]; exact h.qd s hs
  · have hp2 : p' > (E s).epoch := hp'
    rw [a] at hp2
    exact h.gp s hs p' q hp2
  · have hq' : q > (E s).peer := hq
    show G s (E s).epoch q = []
    rw [a]
    by_cases c : s = t
    · subst c; rw [eT] at hq'
      simp only at hq'
      exact h.gq s hs q (by omega)
    · rw [eN s c] at hq'; exact h.gq s hs q hq'
  · have hq' : q > (E (1 - s)).epoch := hq
    rw [a] at hq'
    exact h.gr s hs p' q hq'
  · show X.sd n < 2 ∧ X.fm n ≤ (E (X.sd n)).epoch
    rw [a]; exact h.mf n h1 h2
  · have := h.fl x hx
    refine ⟨this.1, this.2.1, ?_, this.2.2.2⟩
    show x.2.fr ≤ (E (1 - x.1)).epoch
    rw [a]; exact this.2.2.1
  · show 0 ≤ (E s).received ∧ (E s).received ≤ ((G (1 - s) (E s).peer (E s).epoch).length : Int)
    by_cases c : s = t
    · subst c; rw [eT]; simp only; omega
    · rw [eN s c]; exact h.re s hs
  · have hj' : (G (1 - s) (E s).peer (E s).epoch)[j]? = some m := hj
    show ((j : Int) < (E s).received → X.ar m ≠ 0) ∧ ((E s).received ≤ (j : Int) → X.ar m = 0 ∧ X.la s < m)
    by_cases c : s = t
    · subst c
      rw [eT] at hj' ⊢
      simp only at hj' ⊢
      exact ⟨fun h0 => by omega, fun _ => h.rb s hs p m hp2 (List.mem_of_getElem? hj')⟩
    · rw [eN s c] at hj' ⊢; exact h.ra s hs j m hj'
  · have hp2' : p' > (E s).peer := hp'
    have hm' : m ∈ G (1 - s) p' (E s).epoch := hm
    rw [a] at hm'
    by_cases c : s = t
    · subst c
      rw [eT] at hp2'
      simp only at hp2'
      exact h.rb s hs p' m (by omega) hm'
    · rw [eN s c] at hp2'; exact h.rb s hs p' m hp2' hm'
  · have hp2' : (E s).peer = 0 := hp'
    have hm' : m ∈ G s (E s).epoch 0 := hm
    rw [a] at hm'
    by_cases c : s = t
    · subst c
      rw [eT] at hp2'
      simp only at hp2'
      omega
    · rw [eN s c] at hp2'; exact h.pd s hs hp2' m hm'
  · have h3' : X.fm m = (E (X.sd m)).epoch := h3
    have h5' : L m = false := h5
    rw [a] at h3'
    show ∃ q ∈ (E (X.sd m)).queue, _
    obtain ⟨l1, l2⟩ := lF m h5'
    obtain ⟨q, g1, g2⟩ := h.op m h1 h2 h3' h4 l1
    by_cases c : X.sd m = t
    · rw [c] at g1
      have h2' : m < X.N := h2
      exact absurd (by rw [g2, numB_txt m (by omega)]) (l2 q g1)
    · rw [eN _ c]; exact ⟨q, g1, g2⟩
def meetG (X : PS) (G : Logs) (t : Nat) (p : Int) : Logs := fun s a b => if s = t ∧ a = (X.e t).epoch then (if b = p then G t a 0 else if b = 0 then [] else G s a b) else G s a b
theorem J.meetC {X : PS} {G : Logs} (h : J X G) {t : Nat} (ht : t < 2) {p : Int} (hp : (X.e t).peer = 0) (hp2 : 0 < p) (hp3 : p ≤ (X.e (1 - t)).epoch) : J (meetP X t p) (meetG X G t p) := by
  obtain ⟨f1, f2, f3⟩ := flip ht
  have hlo := h.lo t ht
  obtain ⟨E, hE⟩ : ∃ E, E = upd X.e t { meetS (X.e t) p with lost := [] } := ⟨_, rfl⟩
  obtain ⟨F, hF⟩ : ∃ F, F = meetG X G t p := ⟨_, rfl⟩
  have hms : meetS (X.e t) p = { (X.e t) with peer := p, received := 0, heard := false } := by
    unfold meetS
    rw [if_neg (by omega), if_neg (by omega)]
  have hX : meetP X t p = { X with e := E } := by
    rw [hE]
    unfold meetP
    rw [hms, show ({ (X.e t) with peer := p, received := 0, heard := false } : EndS).lost = [] from hlo]
    rfl
  rw [hX, ← hF]
  rw [hms] at hE
  have eT : E t = { (X.e t) with lost := [], peer := p, received := 0, heard := false } := by rw [hE, upd_same]
  have eN : ∀ s, s ≠ t → E s = X.e s := fun s hs => by rw [hE, upd_ne _ _ hs]
  have a : ∀ s, (E s).epoch = (X.e s).epoch := fun s => by
    by_cases c : s = t
    · subst c; rw [eT]
    · rw [eN s c]
  have b : ∀ s, (E s).queue = (X.e s).queue := fun s => by
    by_cases c : s = t
    · subst c; rw [eT]
    · rw [eN s c]
  have hF1 : F t (X.e t).epoch p = G t (X.e t).epoch 0 := by rw [hF]; unfold meetG; rw [if_pos ⟨rfl, rfl⟩, if_pos rfl]
  have hF2 : F t (X.e t).epoch 0 = [] := by rw [hF]; unfold meetG; rw [if_pos ⟨rfl, rfl⟩, if_neg (by omega), if_pos rfl]
  have hF3 : ∀ s c d, (s = t → c = (X.e t).epoch → d ≠ p ∧ d ≠ 0) → F s c d = G s c d := fun s c d hc => by
    rw [hF]; unfold meetG
    split
    · rename_i h0
      have := hc h0.1 h0.2
      rw [if_neg this.1, if_neg this.2]
    · rfl
  have hFs : ∀ s c d, s ≠ t → F s c d = G s c d := fun s c d hs => hF3 s c d fun h0 => absurd h0 hs
  have hG0 : G t (X.e t).epoch p = [] := h.gq t ht p (by omega)
  have hF4 : ∀ s c d, ∃ d', ∀ n, n ∈ F s c d → n ∈ G s c d' := fun s c d => by
    by_cases h0 : s = t ∧ c = (X.e t).epoch
    · obtain ⟨rfl, rfl⟩ := h0
      by_cases h1 : d = p
      · subst h1; exact ⟨0, fun n hn => by rw [hF1] at hn; exact hn⟩
      · by_cases h2 : d = 0
        · subst h2; exact ⟨0, fun n hn => by rw [hF2] at hn; cases hn⟩
        · exact ⟨d, fun n hn => by rw [hF3 _ _ _ (fun _ _ => ⟨h1, h2⟩)] at hn; exact hn⟩
    · exact ⟨d, fun n hn => by rw [hF3 _ _ _ (fun h1 h2 => absurd ⟨h1, h2⟩ h0)] at hn; exact hn⟩
  have hFk : ∀ s c d (k n : Nat), (G s c d)[k]? = some n → d ≠ 0 → (F s c d)[k]? = some n := fun s c d k n hk hd => by
    rw [hF3 s c d]
    · exact hk
    · rintro rfl rfl
      refine ⟨fun h0 => ?_, hd⟩
      subst h0
      rw [hG0] at hk
      simp at hk
  -- the lists of the end in the other end's eyes
  have hFo : ∀ c d, d ≠ 0 → (F t c d = G t c d ∨ (c = (X.e t).epoch ∧ d = p ∧ F t c d = G t (X.e t).epoch 0 ∧ G t c d = [])) := fun c d hd => by
    by_cases h0 : c = (X.e t).epoch
    · subst h0
      by_cases h1 : d = p
      · subst h1; exact .inr ⟨rfl, rfl, hF1, hG0⟩
      · exact .inl (hF3 _ _ _ fun _ _ => ⟨h1, hd⟩)
    · exact .inl (hF3 _ _ _ fun _ h1 => absurd h1 h0)
  have one : ∀ s, s < 2 → s ≠ t → s = 1 - t ∧ 1 - s = t := fun s hs hn => by omega
  refine ⟨fun s hs => ?_, fun s hs => ?_, fun s hs h1 => ?_, fun s hs => ?_, fun s hs => ?_, fun s hs q hq => ?_, fun s hs => ?_, fun s hs c d n hn => ?_, fun s hs c d => ?_, fun s hs p' q hp' => ?_, fun s hs q hq => ?_, fun s hs p' q hq => ?_, h.n1, h.mb, fun n h1 h2 => ?_, h.la, fun x hx => ?_, fun s hs => ?_, fun s hs j m hj => ?_, fun s hs p' m hp' hm => ?_, fun s hs hp' m hm => ?_, fun m h1 h2 h3 h4 h5 => ?_⟩
  · show 1 ≤ (E s).epoch
    rw [a]; exact h.ep s hs
  · show 0 ≤ (E s).peer ∧ (E s).peer ≤ (E (1 - s)).epoch
    rw [a]
    by_cases c : s = t
    · subst c; rw [eT]; simp only; omega
    · rw [eN s c]; exact h.pe s hs
  · have h1' : (E s).heard = true := h1
    show (E s).peer > 0
    by_cases c : s = t
    · subst c; rw [eT] at h1'; cases h1'
    · rw [eN s c] at h1' ⊢; exact h.he s hs h1'
  · show (E s).lost = []
    by_cases c : s = t
    · subst c; rw [eT]
    · rw [eN s c]; exact h.lo s hs
  · show (E s).next = ((F s (E s).epoch (E s).peer).length : Int) + 1
    by_cases c : s = t
    · subst c; rw [eT]
      simp only
      rw [hF1]
      have := h.nx s hs
      unfold cur at this
      rw [hp] at this
      exact this
    · rw [eN s c, hFs _ _ _ c]; exact h.nx s hs
  · have hq' : q ∈ (E s).queue := hq
    rw [b] at hq'
    obtain ⟨k, n, g1, g2, g3, g4, g5, g6, g7⟩ := h.qu s hs q hq'
    refine ⟨k, n, ?_, g2, g3, g4, ?_⟩
    · show (F s (E s).epoch (E s).peer)[k]? = some n
      by_cases c : s = t
      · subst c; rw [eT]
        simp only
        rw [hF1]
        unfold cur at g1
        rw [hp] at g1
        exact g1
      · rw [eN s c, hFs _ _ _ c]; exact g1
    · show (_ ∨ X.to n = (E s).peer) ∧ _ ∧ ((E s).peer = 0 → _)
      by_cases c : s = t
      · subst c; rw [eT]
        rw [hp] at g5
        refine ⟨.inl (by rcases g5 with h | h <;> exact h), g6, fun h0 => ?_⟩
        simp only at h0
        omega
      · rw [eN s c]; exact ⟨g5, g6, g7⟩
  · show (E s).queue.Pairwise _
    rw [b]; exact h.qd s hs
  · obtain ⟨d', hd⟩ := hF4 s c d
    exact h.gm s hs c d' n (hd n hn)
  · show (F s c d).Pairwise _
    by_cases h0 : s = t ∧ c = (X.e t).epoch
    · obtain ⟨rfl, rfl⟩ := h0
      by_cases h1 : d = p
      · subst h1; rw [hF1]; exact h.gs s hs _ _
      · by_cases h2 : d = 0
        · subst h2; rw [hF2]; exact .nil
        · rw [hF3 _ _ _ (fun _ _ => ⟨h1, h2⟩)]; exact h.gs s hs _ _
    · rw [hF3 _ _ _ (fun h1 h2 => absurd ⟨h1, h2⟩ h0)]; exact h.gs s hs _ _
  · have hp2 : p' > (E s).epoch := hp'
    rw [a] at hp2
    rw [hF3 s p' q (fun h0 h1 => by subst h0; omega)]
    exact h.gp s hs p' q hp2
  · have hq' : q > (E s).peer := hq
    show F s (E s).epoch q = []
    rw [a]
    by_cases c : s = t
    · subst c; rw [eT] at hq'
      simp only at hq'
      rw [hF3 _ _ _ (fun _ _ => ⟨by omega, by omega⟩)]
      exact h.gq s hs q (by omega)
    · rw [eN s c] at hq'
      rw [hFs _ _ _ c]; exact h.gq s hs q hq'
  · have hq' : q > (E (1 - s)).epoch := hq
    rw [a] at hq'
    have := h.ep (1 - s) (flip hs).1
    rw [hF3 s p' q (fun h0 h1 => by subst h0; exact ⟨by omega, by omega⟩)]
    exact h.gr s hs p' q hq'
  · show X.sd n < 2 ∧ X.fm n ≤ (E (X.sd n)).epoch
    rw [a]; exact h.mf n h1 h2
  · obtain ⟨x1, x2, x3, x4, x5⟩ := h.fl x hx
    refine ⟨x1, x2, ?_, fun hs => ?_, fun hto k hk => ?_⟩
    · show x.2.fr ≤ (E (1 - x.1)).epoch
      rw [a]; exact x3
    · obtain ⟨k, n, y1, y2⟩ := x4 hs
      have : x.2.to ≠ 0 := fun h0 => by
        have := x2.2.2.2.2.2.2
        omega
      exact ⟨k, n, hFk _ _ _ _ _ y1 this, y2⟩
    · obtain ⟨n, y1, y2⟩ := x5 hto k hk
      have : x.2.fr ≠ 0 := fun h0 => by
        have := x2.1.1
        omega
      exact ⟨n, hFk _ _ _ _ _ y1 this, y2⟩
  · show 0 ≤ (E s).received ∧ (E s).received ≤ ((F (1 - s) (E s).peer (E s).epoch).length : Int)
    by_cases c : s = t
    · subst c; rw [eT]; simp only; omega
    · rw [eN s c]
      have hr := h.re s hs
      rw [(one s hs c).2] at hr ⊢
      have := h.ep s hs
      rcases hFo (X.e s).peer (X.e s).epoch (by omega) with h0 | ⟨_, _, h0, h1⟩
      · rw [h0]; exact hr
      · rw [h1] at hr
        simp only [List.length_nil] at hr
        omega
  · have hj' : (F (1 - s) (E s).peer (E s).epoch)[j]? = some m := hj
    show ((j : Int) < (E s).received → X.ar m ≠ 0) ∧ ((E s).received ≤ (j : Int) → X.ar m = 0 ∧ X.la s < m)
    by_cases c : s = t
    · subst c
      rw [eT] at hj' ⊢
      simp only at hj' ⊢
      rw [hFs _ _ _ f3] at hj'
      exact ⟨fun h0 => by omega, fun _ => h.rb s hs p m (by omega) (List.mem_of_getElem? hj')⟩
    · rw [eN s c] at hj' ⊢
      have o := one s hs c
      rw [o.2] at hj'
      have := h.ep s hs
      rcases hFo (X.e s).peer (X.e s).epoch (by omega) with h0 | ⟨_, _, h0, h1⟩
      · rw [h0, ← o.2] at hj'
        exact h.ra s hs j m hj'
      · have hr := h.re s hs
        rw [o.2, h1] at hr
        simp only [List.length_nil] at hr
        rw [h0] at hj'
        have hpd := h.pd t ht hp m (List.mem_of_getElem? hj')
        rw [← o.1] at hpd
        exact ⟨fun h2 => by omega, fun _ => hpd⟩
  · have hp2' : p' > (E s).peer := hp'
    have hm' : m ∈ F (1 - s) p' (E s).epoch := hm
    rw [a] at hm'
    by_cases c : s = t
    · subst c
      rw [eT] at hp2'
      simp only at hp2'
      rw [hFs _ _ _ f3] at hm'
      exact h.rb s hs p' m (by omega) hm'
    · rw [eN s c] at hp2'
      have o := one s hs c
      rw [o.2] at hm'
      have := h.ep s hs
      rcases hFo p' (X.e s).epoch (by omega) with h0 | ⟨_, _, h0, h1⟩
      · rw [h0, ← o.2] at hm'
        exact h.rb s hs p' m hp2' hm'
      · rw [h0] at hm'
        have hpd := h.pd t ht hp m hm'
        rw [← o.1] at hpd
        exact hpd
  · have hp2' : (E s).peer = 0 := hp'
    have hm' : m ∈ F s (E s).epoch 0 := hm
    by_cases c : s = t
    · subst c
      rw [eT] at hp2'
      simp only at hp2'
      omega
    · rw [eN s c] at hp2'
      rw [a, hFs _ _ _ c] at hm'
      exact h.pd s hs hp2' m hm'
  · have h3' : X.fm m = (E (X.sd m)).epoch := h3
    rw [a] at h3'
    show ∃ q ∈ (E (X.sd m)).queue, _
    rw [b]
    exact h.op m h1 h2 h3' h4 h5
theorem J.meet {X : PS} {G : Logs} (h : J X G) {t : Nat} (ht : t < 2) {p : Int} (hp : (X.e t).peer ≤ p) (hp1 : 1 ≤ p) (hp3 : p ≤ (X.e (1 - t)).epoch) (hN : X.N < 300) : ∃ G', J (meetP X t p) G' := by
  rcases Int.lt_or_le (X.e t).peer p with h1 | h1
  · have := (h.pe t ht).1
    rcases Int.lt_or_le 0 (X.e t).peer with h2 | h2
    · exact ⟨G, h.meetB ht h2 h1 hp3 hN⟩
    · exact ⟨_, h.meetC ht (by omega) (by omega) hp3⟩
  · have e : (X.e t).peer = p := by omega
    subst e
    refine ⟨G, ?_⟩
    have : meetP X t (X.e t).peer = X := by
      unfold meetP
      have e1 : meetS (X.e t) (X.e t).peer = X.e t := by unfold meetS; rw [if_pos rfl]
      rw [e1, lostE_eq (h.lo t ht), upd_id, h.lo t ht]
      rfl
    rw [this]
    exact h
def recvP (X : PS) (t : Nat) (f : FrS) : PS :=
  { X with e := upd X.e t { (receiveS (X.e t) f).1 with lost := [] }, ar := (receiveS (X.e t) f).2.foldl (fun g b => upd g (numB b) (X.e t).epoch) X.ar, la := (receiveS (X.e t) f).2.foldl (fun g b => upd g t (numB b)) X.la, ls := lsAll (receiveS (X.e t) f).1.lost X.ls }
theorem meet_lost (S : EndS) (p : Int) (h : S.lost = []) : (meetS S p).lost = [] ∨ (meetS S p).lost = S.queue.map (·.body) := by
  unfold meetS
  split
  · exact .inl h
  · split
    · refine .inr ?_
      show S.lost ++ _ = _
      rw [h]; rfl
    · exact .inl h
theorem meet_epoch (S : EndS) (p : Int) : (meetS S p).epoch = S.epoch ∧ ((meetS S p).heard = true → S.heard = true) ∧ (meetS S p).peer = p := by
  unfold meetS
  split
  · rename_i h
    exact ⟨rfl, id, h.symm⟩
  · split <;> exact ⟨rfl, (fun h => by cases h), rfl⟩
theorem J.queue_nodup {X : PS} {G : Logs} (h : J X G) {t : Nat} (ht : t < 2) (hN : X.N < 300) : (((X.e t).queue.map (·.body)).map numB).Nodup := by
  rw [List.map_map, List.Nodup, List.pairwise_map]
  refine (h.qd t ht).imp_of_mem ?_
  intro a b ha hb hab
  obtain ⟨k, n, a1, a2, a3, _⟩ := h.qu t ht a ha
  obtain ⟨k', n', b1, b2, b3, _⟩ := h.qu t ht b hb
  have h1 := (h.gm t ht _ _ n (List.mem_of_getElem? a1)).2.1
  have h2 := (h.gm t ht _ _ n' (List.mem_of_getElem? b1)).2.1
  show numB a.body ≠ numB b.body
  rw [a3, b3, numB_txt n (by omega), numB_txt n' (by omega)]
  have hs := h.gs t ht (X.e t).epoch (X.e t).peer
  rw [List.pairwise_iff_getElem] at hs
  obtain ⟨l1, g1⟩ := List.getElem?_eq_some_iff.1 a1
  obtain ⟨l2, g2⟩ := List.getElem?_eq_some_iff.1 b1
  have := hs k k' l1 l2 (by omega)
  have e1 : (G t (X.e t).epoch (X.e t).peer)[k] = n := g1
  have e2 : (G t (X.e t).epoch (X.e t).peer)[k'] = n' := g2
  rw [e1, e2] at this
  omega
/-- a frame of the line arrives -/
theorem J.recv {X : PS} {G : Logs} (h : J X G) {t : Nat} {f : FrS} (hf : (t, f) ∈ X.fl) (hN : X.N < 300) :
    (∃ G', J (recvP X t f) G') ∧
    (∀ b ∈ (receiveS (X.e t) f).2, 1 ≤ numB b ∧ numB b < X.N ∧ X.ar (numB b) = 0 ∧ X.sd (numB b) ≠ t ∧ X.la t < numB b ∧ X.to (numB b) = (X.e t).epoch ∧ b = txt (numB b)) ∧
    (∀ b ∈ (receiveS (X.e t) f).1.lost, 1 ≤ numB b ∧ numB b < X.N ∧ X.sd (numB b) = t ∧ X.ls (numB b) = false ∧ b = txt (numB b)) ∧
    ((receiveS (X.e t) f).1.lost.map numB).Nodup ∧ (receiveS (X.e t) f).1.epoch = (X.e t).epoch ∧ (receiveS (X.e t) f).2.length ≤ 1 := by
  have hx := h.fl _ hf
  have ht : t < 2 := hx.1
  obtain ⟨f1, f2, f3⟩ := flip ht
  have hlo := h.lo t ht
  obtain ⟨R, hR⟩ : ∃ R, R = receiveS (X.e t) f := ⟨_, rfl⟩
  have hP : recvP X t f = { X with e := upd X.e t { R.1 with lost := [] }, ar := R.2.foldl (fun g b => upd g (numB b) (X.e t).epoch) X.ar, la := R.2.foldl (fun g b => upd g t (numB b)) X.la, ls := lsAll R.1.lost X.ls } := by rw [hR]; rfl
  rw [hP, ← hR]
  unfold receiveS at hR
  split at hR
  rotate_left
  · subst hR
    have e : ({ X with e := upd X.e t { (X.e t) with lost := [] }, ar := ([] : List Bytes).foldl (fun g b => upd g (numB b) (X.e t).epoch) X.ar, la := ([] : List Bytes).foldl (fun g b => upd g t (numB b)) X.la, ls := lsAll (X.e t).lost X.ls } : PS) = X := by
      rw [lostE_eq hlo, upd_id, hlo]
      rfl
    refine ⟨⟨G, ?_⟩, (fun b hb => by cases hb), (fun b hb => ?_), ?_, rfl, by simp⟩
    · show J ({ X with e := upd X.e t { (X.e t) with lost := [] }, ar := ([] : List Bytes).foldl (fun g b => upd g (numB b) (X.e t).epoch) X.ar, la := ([] : List Bytes).foldl (fun g b => upd g t (numB b)) X.la, ls := lsAll (X.e t).lost X.ls } : PS) G
      rw [e]; exact h
    · simp only at hb
      rw [hlo] at hb; cases hb
    · show ((X.e t).lost.map numB).Nodup
      rw [hlo]; exact List.nodup_nil
  rename_i hta
  obtain ⟨tk1, tk2, tk3⟩ := hta
  obtain ⟨Gm, hm⟩ := h.meet ht tk3 tk1.1.1 hx.2.2.1 hN
  obtain ⟨m1, m2, m3⟩ := meet_epoch (X.e t) f.fr
  -- what is lost
  have hlost : (∀ b ∈ (meetS (X.e t) f.fr).lost, 1 ≤ numB b ∧ numB b < X.N ∧ X.sd (numB b) = t ∧ X.ls (numB b) = false ∧ b = txt (numB b)) ∧ ((meetS (X.e t) f.fr).lost.map numB).Nodup := by
    rcases meet_lost (X.e t) f.fr hlo with e | e
    · rw [e]; exact ⟨(fun b hb => by cases hb), List.nodup_nil⟩
    · rw [e]
      refine ⟨fun b hb => ?_, h.queue_nodup ht hN⟩
      obtain ⟨q, hq, rfl⟩ := List.mem_map.1 hb
      have := h.inqueue ht hN hq
      exact ⟨this.1, this.2.1, this.2.2.1, this.2.2.2.1, this.2.2.2.2⟩
  -- the flags
  have fl : ∀ (T : EndS), SameE T { meetS (X.e t) f.fr with lost := [] } → (T.heard = true → 0 < f.fr) → J { meetP X t f.fr with e := upd X.e t T } Gm := by
    intro T hT hh
    have hpe := m3
    refine hm.flags (fun s => ?_) (fun s hs h1 => ?_)
    · show SameE (upd X.e t T s) (upd X.e t _ s)
      by_cases c : s = t
      · subst c; rw [upd_same, upd_same]; exact hT
      · rw [upd_ne _ _ c, upd_ne _ _ c]; exact ⟨rfl, rfl, rfl, rfl, rfl, rfl⟩
    · show (upd X.e t _ s).peer > 0
      by_cases c : s = t
      · subst c
        rw [upd_same] at h1 ⊢
        show (meetS (X.e s) f.fr).peer > 0
        rw [m3]
        exact hh h1
      · rw [upd_ne _ _ c] at h1 ⊢
        exact h.he s hs h1
  have hfr : 0 < f.fr := by have := tk1.1.1; omega
  split at hR
  · -- to whom it may concern
    subst hR
    refine ⟨⟨Gm, ?_⟩, (fun b hb => by cases hb), hlost.1, hlost.2, m1, by simp⟩
    exact fl { recS0 (X.e t) f with lost := [] } ⟨rfl, rfl, rfl, rfl, rfl, rfl⟩ (fun _ => hfr)
  rename_i hto
  have hto2 : f.to = (X.e t).epoch := by
    rcases tk2 with h0 | h0
    · exact absurd h0 hto
    · exact h0
  have hj0 := fl { recS0 (X.e t) f with lost := [], heard := true } ⟨rfl, rfl, rfl, rfl, rfl, rfl⟩ (fun _ => hfr)
  have hxm := hj0.fl (t, f) hf
  have htop : f.to > 0 := by have := h.ep t ht; omega
  have hj1 := hj0.ack ht (k := f.ack) (fun j hj => by
    obtain ⟨n, y1, y2⟩ := hxm.2.2.2.2 htop j hj
    refine ⟨n, ?_, y2⟩
    show (Gm t (upd X.e t _ t).epoch (upd X.e t _ t).peer)[j]? = some n
    rw [upd_same]
    show (Gm t (meetS (X.e t) f.fr).epoch (meetS (X.e t) f.fr).peer)[j]? = some n
    rw [m1, m3, ← hto2]
    exact y1) hN
  have hj2 : J { X with e := upd X.e t { recS1 (X.e t) f with lost := [] }, ls := lsAll (meetS (X.e t) f.fr).lost X.ls } Gm := by
    have e : upd (upd X.e t { recS0 (X.e t) f with lost := [], heard := true }) t (ackS { recS0 (X.e t) f with lost := [], heard := true } f.ack) = upd X.e t { recS1 (X.e t) f with lost := [] } := by
      funext s
      by_cases c : s = t
      · subst c; rw [upd_same, upd_same]; rfl
      · rw [upd_ne _ _ c, upd_ne _ _ c, upd_ne _ _ c]
    have hj1' : J { X with e := upd (upd X.e t { recS0 (X.e t) f with lost := [], heard := true }) t (ackS (upd X.e t { recS0 (X.e t) f with lost := [], heard := true } t) f.ack), ls := lsAll (meetS (X.e t) f.fr).lost X.ls } Gm := hj1
    rw [upd_same, e] at hj1'
    exact hj1'
  split at hR
  · subst hR
    exact ⟨⟨Gm, hj2⟩, (fun b hb => by cases hb), hlost.1, hlost.2, m1, by simp⟩
  · rename_i hsq
    have hs0 : f.seq ≠ 0 := fun h0 => hsq (.inl h0)
    have hs1 : f.seq = (recS1 (X.e t) f).received + 1 := by
      apply Classical.byContradiction
      intro h0
      exact hsq (.inr h0)
    have hsp : f.seq > 0 := by have := tk1.2.2.1.1; omega
    obtain ⟨k, n, y1, y2, y3, y4⟩ := hxm.2.2.2.1 hsp
    simp only at y1 y2 y3 y4
    rw [hto2] at y1
    have hpr := hj2.deliver (n := n) (v := (X.e t).epoch) (k := k) ht (by have := h.ep t ht; omega) (by
      show (upd X.e t _ t).received = _
      rw [upd_same]
      show (recS1 (X.e t) f).received = _
      omega) (by
      show (Gm (1 - t) (upd X.e t _ t).peer (upd X.e t _ t).epoch)[k]? = some n
      rw [upd_same]
      show (Gm (1 - t) (meetS (X.e t) f.fr).peer (meetS (X.e t) f.fr).epoch)[k]? = some n
      rw [m1, m3]
      exact y1)
    have hmem := hj2.gm (1 - t) f1 _ _ n (List.mem_of_getElem? y1)
    have hmN : n < X.N := hmem.2.1
    have hra := hj2.ra t ht k n (by
      show (Gm (1 - t) (upd X.e t _ t).peer (upd X.e t _ t).epoch)[k]? = some n
      rw [upd_same]
      show (Gm (1 - t) (meetS (X.e t) f.fr).peer (meetS (X.e t) f.fr).epoch)[k]? = some n
      rw [m1, m3]
      exact y1)
    have hra2 := hra.2 (by
      show (upd X.e t _ t).received ≤ _
      rw [upd_same]
      show (recS1 (X.e t) f).received ≤ _
      omega)
    have hnb : numB f.body = n := by rw [y3, numB_txt n (by omega)]
    subst hR
    refine ⟨⟨Gm, ?_⟩, fun b hb => ?_, hlost.1, hlost.2, m1, by simp⟩
    · have e : upd (upd X.e t { recS1 (X.e t) f with lost := [] }) t { (upd X.e t { recS1 (X.e t) f with lost := [] } t) with received := (k : Int) + 1 } = upd X.e t { recS1 (X.e t) f with received := f.seq, lost := [] } := by
        funext s
        by_cases c : s = t
        · subst c; rw [upd_same, upd_same, upd_same, y2]
        · rw [upd_ne _ _ c, upd_ne _ _ c, upd_ne _ _ c]
      have hpr' : J { X with e := upd (upd X.e t { recS1 (X.e t) f with lost := [] }) t { (upd X.e t { recS1 (X.e t) f with lost := [] } t) with received := (k : Int) + 1 }, ar := upd X.ar n (X.e t).epoch, la := upd X.la t n, ls := lsAll (meetS (X.e t) f.fr).lost X.ls } Gm := hpr
      rw [e, ← hnb] at hpr'
      exact hpr'
    · rw [List.mem_singleton] at hb
      subst hb
      rw [hnb]
      refine ⟨hmem.1, hmN, hra2.1, ?_, hra2.2, by rw [← hto2]; exact y4, y3⟩
      have e1 : X.sd n = 1 - t := hmem.2.2.1
      rw [e1]
      exact f3
theorem nodup_length {α : Type} [BEq α] [LawfulBEq α] : ∀ (xs ys : List α), xs.Nodup → (∀ x ∈ xs, x ∈ ys) → xs.length ≤ ys.length
  | [], ys, _, _ => by simp
  | x :: xs, ys, hn, hs => by
    rw [List.nodup_cons] at hn
    have h1 := nodup_length xs (ys.erase x) hn.2 fun y hy => by
      have hne : y ≠ x := fun e => hn.1 (e ▸ hy)
      exact (List.mem_erase_of_ne hne).2 (hs y (List.mem_cons_of_mem _ hy))
    have hx := hs x (by simp)
    rw [List.length_erase_of_mem hx] at h1
    have := List.length_pos_of_mem hx
    simp only [List.length_cons]
    omega
/-- at most as many are open as wait -/
theorem J.open_le {X : PS} {G : Logs} (h : J X G) {s : Nat} (hs : s < 2) (hN : X.N < 300) (xs : List Nat) (hn : xs.Nodup) (hx : ∀ n ∈ xs, 1 ≤ n ∧ n < X.N ∧ X.sd n = s ∧ X.fm n = (X.e s).epoch ∧ X.ar n = 0 ∧ X.ls n = false) : xs.length ≤ (X.e s).queue.length := by
  have hsub : ∀ n ∈ xs, n ∈ (X.e s).queue.map fun q => numB q.body := fun n hn => by
    obtain ⟨h1, h2, h3, h4, h5, h6⟩ := hx n hn
    obtain ⟨q, g1, g2⟩ := h.op n h1 h2 (by rw [h3]; exact h4) h5 h6
    rw [h3] at g1
    exact List.mem_map.2 ⟨q, g1, by rw [g2, numB_txt n (by omega)]⟩
  have := nodup_length xs _ hn hsub
  rw [List.length_map] at this
  exact this
end Go.Proofs.Ytfidjdlmmcaplaa
/-
  Link: the line in an arena.
-/
namespace Go.Proofs.Ytfidjdlmmcaplaa
open Go

def lnRow (i : Nat → Nat) (w : Nat → AV) (la : Nat → Nat) : Ent := .row 11 false [.agg [.ptr (i 0) 0 0, .ptr (i 1) 0 0, w 0, w 1, w 2, w 3, w 4, w 5, .int .i64 (la 0 : Int), .int .i64 (la 1 : Int), .bool true]]
def eszL (k : Nat) : Nat := if k = 0 then 6 else 1
/-- the line's row, its ends, its six lists; rows that nobody else touches -/
structure Ln0 (A : Arena) (x : Nat) (e : Nat → EndS) (c : Nat → List AV) (la : Nat → Nat) (P : List Nat) (i : Nat → Nat) (q l : Nat → AV) (w : Nat → AV) (T : Nat → Nat) : Prop where
  a : ∀ s, s < 2 → EndAt A (i s) (e s) (q s) (l s)
  ta : ∀ s, s < 2 → ∀ j, j ∈ own (i s) (q s) (l s) → T j = s + 1
  r : A[x]? = some (lnRow i w la)
  tx : T x = 3
  hw : ∀ k, k < 6 → SlP (eszL k) A (w k) (c k)
  tw : ∀ k, k < 6 → ∀ j, j ∈ idsOf (w k) → T j = k + 4
  p : ∀ j, j ∈ P → T j = 0 ∧ j < A.length
def Ln (A : Arena) (x : Nat) (e : Nat → EndS) (c : Nat → List AV) (la : Nat → Nat) (P : List Nat) (i : Nat → Nat) (q l : Nat → AV) (w : Nat → AV) : Prop := ∃ T, Ln0 A x e c la P i q l w T
theorem evStore_of {A : Arena} {id i o esz size : Nat} {es : List AV} {e e' a : AV} (hr : A[id]? = some (.row esz false es)) (he : es[i]? = some e) (h1 : a.solid = true) (h2 : (cellsOf a).length = size) (h3 : 0 < size) (hs : storeElem e esz o a = some e') : evStore size A (.ptr id i o) a = some (A.set id (.row esz false (es.set i e'))) := by
  unfold evStore
  simp only [hr, he]
  rw [if_pos ⟨trivial, h1, h2, h3⟩, hs]
theorem tags (A : Arena) (T : Nat → Nat) (t : Nat) (o out : List Nat) (ho : ∀ j, j ∈ o → T j = t ∨ A.length ≤ j) (hout : ∀ j, j ∈ out → (T j = t ∨ A.length ≤ j) ∧ j ∉ o) :
    ∃ T' : Nat → Nat, (∀ j, j < A.length → T j ≠ t → T' j = T j) ∧ (∀ j, j ∈ o → T' j = t) ∧ ∀ j, j ∈ out → T' j = 0 := by
  refine ⟨fun j => if j ∈ out then 0 else if j ∈ o then t else T j, fun j hj hn => ?_, fun j hj => ?_, fun j hj => if_pos hj⟩
  · simp only
    rw [if_neg (fun h => by
      rcases (hout j h).1 with h1 | h1
      · exact hn h1
      · omega), if_neg (fun h => by
      rcases ho j h with h1 | h1
      · exact hn h1
      · omega)]
  · simp only
    rw [if_neg (fun h => (hout j h).2 hj), if_pos hj]
section
variable {A : Arena} {x : Nat} {e : Nat → EndS} {c : Nat → List AV} {la : Nat → Nat} {P : List Nat} {i : Nat → Nat} {q l : Nat → AV} {w : Nat → AV}
theorem Ln0.xlt {T} (h : Ln0 A x e c la P i q l w T) : x < A.length := (List.getElem?_eq_some_iff.1 h.r).1
theorem Ln.xlt (h : Ln A x e c la P i q l w) : x < A.length := by
  obtain ⟨T, h⟩ := h
  exact h.xlt
theorem Ln.row (h : Ln A x e c la P i q l w) : A[x]? = some (.row 11 false [.agg [.ptr (i 0) 0 0, .ptr (i 1) 0 0, w 0, w 1, w 2, w 3, w 4, w 5, .int .i64 (la 0 : Int), .int .i64 (la 1 : Int), .bool true]]) := by
  obtain ⟨T, h⟩ := h
  exact h.r
theorem Ln.plow (h : Ln A x e c la P i q l w) : ∀ j, j ∈ P → j < A.length := by
  obtain ⟨T, h⟩ := h
  exact fun j hj => (h.p j hj).2
theorem Ln.end_ (h : Ln A x e c la P i q l w) {s : Nat} (hs : s < 2) : EndAt A (i s) (e s) (q s) (l s) := by
  obtain ⟨T, h⟩ := h
  exact h.a s hs
theorem Ln.slot (h : Ln A x e c la P i q l w) {k : Nat} (hk : k < 6) : SlP (eszL k) A (w k) (c k) := by
  obtain ⟨T, h⟩ := h
  exact h.hw k hk
theorem Ln.pnot (h : Ln A x e c la P i q l w) : x ∉ P := by
  obtain ⟨T, h⟩ := h
  intro hx
  have := (h.p x hx).1
  rw [h.tx] at this
  cases this
/-- the address of an end's pointer -/
theorem Ln.idx (h : Ln A x e c la P i q l w) {s : Nat} (hs : s < 2) : evIndexArr 2 1 A (.ptr x 0 0) (.int .i64 (s : Int)) = some (.ptr x 0 s) ∧ evLoad false 1 A (.ptr x 0 s) = some (.ptr (i s) 0 0) := by
  have hr := h.row
  rcases (show s = 0 ∨ s = 1 by omega) with rfl | rfl
  · constructor
    · simp [evIndexArr, hr]
    · simp only [evLoad, hr]; rfl
  · constructor
    · simp [evIndexArr, hr]
    · simp only [evLoad, hr]; rfl
theorem Ln.lidx (h : Ln A x e c la P i q l w) {s : Nat} (hs : s < 2) : evIndexArr 2 1 A (.ptr x 0 8) (.int .i64 (s : Int)) = some (.ptr x 0 (8 + s)) ∧ evLoad false 1 A (.ptr x 0 (8 + s)) = some (.int .i64 (la s : Int)) := by
  have hr := h.row
  rcases (show s = 0 ∨ s = 1 by omega) with rfl | rfl
  · constructor
    · simp [evIndexArr, hr]
    · simp only [evLoad, hr]; rfl
  · constructor
    · simp [evIndexArr, hr]
    · simp only [evLoad, hr]; rfl
/-- an end takes a step -/
theorem Ln.step (h : Ln A x e c la P i q l w) {s : Nat} (hs : s < 2) {B : Arena} {S' : EndS} {qv lv : AV} {out : List Nat} (hE : EndAt B (i s) S' qv lv) (ho : ∀ j, j ∈ own (i s) qv lv → j ∈ own (i s) (q s) (l s) ∨ A.length ≤ j) (hF : Fr A B (own (i s) (q s) (l s))) (hout : ∀ j, j ∈ out → (j ∈ own (i s) (q s) (l s) ∨ A.length ≤ j) ∧ j < B.length ∧ j ∉ own (i s) qv lv) :
    Ln B x (upd e s S') c la (out ++ P) i (upd q s qv) (upd l s lv) w ∧ (∀ j, j ∈ P → B[j]? = A[j]?) := by
  obtain ⟨T, h⟩ := h
  obtain ⟨T', t1, t2, t3⟩ := tags A T (s + 1) (own (i s) qv lv) out (fun j hj => (ho j hj).imp (h.ta s hs j) id) (fun j hj => ⟨(hout j hj).1.imp (h.ta s hs j) id, (hout j hj).2.2⟩)
  have same : ∀ j, j < A.length → T j ≠ s + 1 → B[j]? = A[j]? := fun j hj hn => hF.2 j hj fun h2 => hn (h.ta s hs j h2)
  have hxl := h.xlt
  refine ⟨⟨T', fun t ht => ?_, fun t ht j hj => ?_, ?_, ?_, fun k hk => (h.hw k hk).keep fun j hj => same j ((h.hw k hk).low j hj) (by rw [h.tw k hk j hj]; omega), fun k hk j hj => by rw [t1 j ((h.hw k hk).low j hj) (by rw [h.tw k hk j hj]; omega)]; exact h.tw k hk j hj, fun j hj => ?_⟩, fun j hj => same j (h.p j hj).2 (by rw [(h.p j hj).1]; omega)⟩
  · by_cases d : t = s
    · subst d; rw [upd_same, upd_same, upd_same]; exact hE
    · rw [upd_ne _ _ d, upd_ne _ _ d, upd_ne _ _ d]
      exact (h.a t ht).keep fun j hj => same j ((h.a t ht).low j hj) (by rw [h.ta t ht j hj]; omega)
  · by_cases d : t = s
    · subst d
      rw [upd_same, upd_same] at hj
      exact t2 j hj
    · rw [upd_ne _ _ d, upd_ne _ _ d] at hj
      rw [t1 j ((h.a t ht).low j hj) (by rw [h.ta t ht j hj]; omega)]
      exact h.ta t ht j hj
  · rw [same x hxl (by rw [h.tx]; omega)]; exact h.r
  · rw [t1 x hxl (by rw [h.tx]; omega)]; exact h.tx
  · rcases List.mem_append.1 hj with hj | hj
    · exact ⟨t3 j hj, (hout j hj).2.1⟩
    · have := h.p j hj
      exact ⟨by rw [t1 j this.2 (by rw [this.1]; omega)]; exact this.1, Nat.lt_of_lt_of_le this.2 hF.1⟩
/-- a list is replaced -/
theorem Ln.fresh (h : Ln A x e c la P i q l w) {k : Nat} (hk : k < 6) {B : Arena} {v : AV} {ys : List AV} (hS : SlP (eszL k) B v ys) (hn : ∀ j, j ∈ idsOf v → A.length ≤ j) (hF : Fr A B (idsOf (w k))) :
    ∃ C, evStore 1 B (.ptr x 0 (k + 2)) v = some C ∧ Ln C x e (upd c k ys) la P i q l (upd w k v) ∧ (∀ j, j ∈ P → C[j]? = A[j]?) ∧ C = B.set x (lnRow i (upd w k v) la) := by
  obtain ⟨T, h⟩ := h
  obtain ⟨T', t1, t2, _⟩ := tags A T (k + 4) (idsOf v) [] (fun j hj => .inr (hn j hj)) (fun j hj => by simp at hj)
  have hxl := h.xlt
  have hrB : B[x]? = some (lnRow i w la) := by
    rw [hF.2 x hxl (fun h2 => by
      have := h.tw k hk x h2
      rw [h.tx] at this
      omega)]
    exact h.r
  have hvs : v.solid = true ∧ (cellsOf v).length = 1 ∧ storeElem (.agg [.ptr (i 0) 0 0, .ptr (i 1) 0 0, w 0, w 1, w 2, w 3, w 4, w 5, .int .i64 (la 0 : Int), .int .i64 (la 1 : Int), .bool true]) 11 (k + 2) v = some (.agg [.ptr (i 0) 0 0, .ptr (i 1) 0 0, upd w k v 0, upd w k v 1, upd w k v 2, upd w k v 3, upd w k v 4, upd w k v 5, .int .i64 (la 0 : Int), .int .i64 (la 1 : Int), .bool true]) := by
    rcases hS with ⟨rfl, _⟩ | ⟨r, es, rfl, _⟩
    · refine ⟨rfl, rfl, ?_⟩
      rcases (show k = 0 ∨ k = 1 ∨ k = 2 ∨ k = 3 ∨ k = 4 ∨ k = 5 by omega) with rfl | rfl | rfl | rfl | rfl | rfl <;> rfl
    · refine ⟨rfl, rfl, ?_⟩
      rcases (show k = 0 ∨ k = 1 ∨ k = 2 ∨ k = 3 ∨ k = 4 ∨ k = 5 by omega) with rfl | rfl | rfl | rfl | rfl | rfl <;> rfl
  obtain ⟨v1, v2, v3⟩ := hvs
  obtain ⟨C, hC⟩ : ∃ C, C = B.set x (lnRow i (upd w k v) la) := ⟨_, rfl⟩
  have hxB : x < B.length := Nat.lt_of_lt_of_le hxl hF.1
  have same : ∀ j, j < A.length → T j ≠ k + 4 → T j ≠ 3 → C[j]? = A[j]? := fun j hj hn1 hn2 => by
    rw [hC, List.getElem?_set_ne (fun e => hn2 (by rw [← e]; exact h.tx))]
    exact hF.2 j hj fun h2 => hn1 (h.tw k hk j h2)
  refine ⟨C, ?_, ⟨T', fun t ht => (h.a t ht).keep fun j hj => same j ((h.a t ht).low j hj) (by rw [h.ta t ht j hj]; omega) (by rw [h.ta t ht j hj]; omega), fun t ht j hj => by rw [t1 j ((h.a t ht).low j hj) (by rw [h.ta t ht j hj]; omega)]; exact h.ta t ht j hj, ?_, by rw [t1 x hxl (by rw [h.tx]; omega)]; exact h.tx, fun m hm => ?_, fun m hm j hj => ?_, fun j hj => ?_⟩, fun j hj => same j (h.p j hj).2 (by rw [(h.p j hj).1]; omega) (by rw [(h.p j hj).1]; omega), hC⟩
  · rw [hC]
    exact evStore_of hrB rfl v1 v2 (by omega) v3
  · rw [hC, List.getElem?_set_self hxB]
  · by_cases d : m = k
    · subst d
      rw [upd_same, upd_same]
      exact hS.keep fun j hj => by
        rw [hC, List.getElem?_set_ne (fun e => by
          have := hn j hj
          omega)]
    · rw [upd_ne _ _ d, upd_ne _ _ d]
      exact (h.hw m hm).keep fun j hj => same j ((h.hw m hm).low j hj) (by rw [h.tw m hm j hj]; omega) (by rw [h.tw m hm j hj]; omega)
  · by_cases d : m = k
    · subst d
      rw [upd_same] at hj
      exact t2 j hj
    · rw [upd_ne _ _ d] at hj
      rw [t1 j ((h.hw m hm).low j hj) (by rw [h.tw m hm j hj]; omega)]
      exact h.tw m hm j hj
  · have := h.p j hj
    exact ⟨by rw [t1 j this.2 (by rw [this.1]; omega)]; exact this.1, by
      rw [hC, List.length_set]
      exact Nat.lt_of_lt_of_le this.2 hF.1⟩
/-- something is appended to a list -/
theorem Ln.push (h : Ln A x e c la P i q l w) {k bytes : Nat} (hk : k < 6) {v : AV} (hb : 0 < bytes) (hs : ((c k).length + 1) * bytes ≤ 140737488355328) :
    ∃ B C, evAppendN (eszL k) bytes A (w k) (.fs (eszL k) [v]) = some (.sl A.length 0 (c k ++ [v]).length, B) ∧ evStore 1 B (.ptr x 0 (k + 2)) (.sl A.length 0 (c k ++ [v]).length) = some C ∧ Ln C x e (upd c k (c k ++ [v])) la P i q l (upd w k (.sl A.length 0 (c k ++ [v]).length)) ∧ (∀ j, j ∈ P → C[j]? = A[j]?) ∧ B[x]? = A[x]? := by
  have hS := h.slot hk
  have he : 0 < eszL k := by unfold eszL; split <;> omega
  obtain ⟨B, k1, k2, k3, k4, _⟩ := hS.appendN (bytes := bytes) (x := .fs (eszL k) [v]) (ys := [v]) (by simp [srcElems]) (by simp) he hb (by simpa using hs)
  obtain ⟨C, c1, c2, c3, _⟩ := h.fresh hk k2 (fun j hj => by simp [idsOf] at hj; omega) k3
  refine ⟨B, C, k1, c1, c2, c3, k3.2 x h.xlt fun h2 => ?_⟩
  obtain ⟨T, h⟩ := h
  have := h.tw k hk x h2
  rw [h.tx] at this
  omega
/-- an element of a list is written over -/
theorem Ln.put (h : Ln A x e c la P i q l w) {k n : Nat} (hk : k < 6) (h0 : k ≠ 0) (hn : n < (c k).length) {v : AV} (hv : v.solid = true ∧ (cellsOf v) = [v]) :
    ∃ r B, evIndexSl 1 A (w k) (.int .i64 (n : Int)) = some (.ptr r n 0) ∧ evStore 1 A (.ptr r n 0) v = some B ∧ Ln B x e (upd c k ((c k).set n v)) la P i q l w ∧ ∀ j, j ∈ P → B[j]? = A[j]? := by
  obtain ⟨T, h⟩ := h
  have hS := h.hw k hk
  have he : eszL k = 1 := if_neg h0
  rw [he] at hS
  obtain ⟨r, es, g1, g2, g3, g4⟩ := hS.index hn (by omega) .i64
  have hr : r ∈ idsOf (w k) := by rw [g1]; simp [idsOf]
  have hT := h.tw k hk r hr
  have hrl := (List.getElem?_eq_some_iff.1 g2).1
  obtain ⟨B, hB⟩ : ∃ B, B = A.set r (.row 1 false (es.set n v)) := ⟨_, rfl⟩
  have same : ∀ j, T j ≠ k + 4 → B[j]? = A[j]? := fun j hj => by
    rw [hB, List.getElem?_set_ne (fun e => hj (by rw [← e]; exact hT))]
  refine ⟨r, B, g4, ?_, ⟨T, fun t ht => (h.a t ht).keep fun j hj => same j (by rw [h.ta t ht j hj]; omega), h.ta, by rw [same x (by rw [h.tx]; omega)]; exact h.r, h.tx, fun m hm => ?_, h.tw, fun j hj => by rw [hB, List.length_set]; exact h.p j hj⟩, fun j hj => same j (by rw [(h.p j hj).1]; omega)⟩
  · have hst : storeElem (c k)[n] 1 0 v = some v := by unfold storeElem; rw [if_pos ⟨rfl, by rw [hv.2]; rfl⟩]
    rw [hB]
    exact evStore_of g2 (by rw [g3]) hv.1 (by rw [hv.2]; rfl) (by omega) hst
  · by_cases d : m = k
    · subst d
      rw [upd_same, he]
      refine .inr ⟨r, es.set n v, by rw [g1, List.length_set], by rw [hB, List.getElem?_set_self hrl], ?_⟩
      rcases hS with ⟨_, h2⟩ | ⟨r', es', f1, f2, f3⟩
      · rw [h2] at hn; simp at hn
      · rw [g1] at f1
        injection f1 with f1
        subst f1
        rw [g2] at f2
        injection f2 with f2
        injection f2 with _ _ f2
        subst f2
        rw [List.length_set, List.take_set, f3]
    · rw [upd_ne _ _ d]
      exact (h.hw m hm).keep fun j hj => same j (by rw [h.tw m hm j hj]; omega)
/-- what a list holds -/
theorem Ln.get (h : Ln A x e c la P i q l w) {k n : Nat} (hk : k < 6) (h0 : k ≠ 0) (hn : n < (c k).length) {y : AV} (hy : (c k)[n]? = some y) (hf : loadElem y 1 0 false 1 = some y) : ∃ r, evIndexSl 1 A (w k) (.int .i64 (n : Int)) = some (.ptr r n 0) ∧ evLoad false 1 A (.ptr r n 0) = some y := by
  have hS := h.slot hk
  have he : eszL k = 1 := if_neg h0
  rw [he] at hS
  obtain ⟨r, es, g1, g2, g3, g4⟩ := hS.index hn (by omega) .i64
  rw [List.getElem?_eq_getElem hn] at hy
  injection hy with hy
  refine ⟨r, g4, ?_⟩
  simp only [evLoad, g2, Bool.false_and, Bool.false_eq_true, if_false, g3, hy]
  exact hf
theorem Ln.len (h : Ln A x e c la P i q l w) {k : Nat} (hk : k < 6) : evLenSl (w k) = some (.int .i64 ((c k).length : Int)) := (h.slot hk).len
/-- the last number at an end -/
theorem Ln.last (h : Ln A x e c la P i q l w) {s : Nat} (hs : s < 2) (n : Nat) : ∃ B, evStore 1 A (.ptr x 0 (8 + s)) (.int .i64 (n : Int)) = some B ∧ Ln B x e c (upd la s n) P i q l w ∧ ∀ j, j ∈ P → B[j]? = A[j]? := by
  have hr := h.row
  obtain ⟨T, h⟩ := h
  have hxl := h.xlt
  refine ⟨A.set x (lnRow i w (upd la s n)), ?_, ?_⟩
  · rcases (show s = 0 ∨ s = 1 by omega) with rfl | rfl <;> simp [evStore, hr, storeElem, cellsOf, lnRow, upd, AV.solid]
  · have same : ∀ j, T j ≠ 3 → (A.set x (lnRow i w (upd la s n)))[j]? = A[j]? := fun j hj => List.getElem?_set_ne (fun e => hj (by rw [← e]; exact h.tx))
    exact ⟨⟨T, fun t ht => (h.a t ht).keep fun j hj => same j (by rw [h.ta t ht j hj]; omega), h.ta, List.getElem?_set_self hxl, h.tx, fun m hm => (h.hw m hm).keep fun j hj => same j (by rw [h.tw m hm j hj]; omega), h.tw, fun j hj => by rw [List.length_set]; exact h.p j hj⟩, fun j hj => same j (by rw [(h.p j hj).1]; omega)⟩
/-- a new end -/
theorem Ln.newE (h : Ln A x e c la P i q l w) {s : Nat} (hs : s < 2) {B : Arena} {id : Nat} {S' : EndS} (hE : EndAt B id S' .nilS .nilS) (hid : A.length ≤ id) (hF : Fr A B []) :
    ∃ C, evStore 1 B (.ptr x 0 s) (.ptr id 0 0) = some C ∧ Ln C x (upd e s S') c la P (upd i s id) (upd q s .nilS) (upd l s .nilS) w ∧ ∀ j, j ∈ P → C[j]? = A[j]? := by
  obtain ⟨T, h⟩ := h
  obtain ⟨T', t1, t2, _⟩ := tags A T (s + 1) [id] [] (fun j hj => .inr (by rw [List.mem_singleton] at hj; omega)) (fun j hj => by simp at hj)
  have hxl := h.xlt
  have hxB : x < B.length := Nat.lt_of_lt_of_le hxl hF.1
  have hrB : B[x]? = some (lnRow i w la) := by rw [hF.2 x hxl (by simp)]; exact h.r
  obtain ⟨C, hC⟩ : ∃ C, C = B.set x (lnRow (upd i s id) w la) := ⟨_, rfl⟩
  have same : ∀ j, j < A.length → T j ≠ 3 → C[j]? = A[j]? := fun j hj hn => by
    rw [hC, List.getElem?_set_ne (fun e => hn (by rw [← e]; exact h.tx))]
    exact hF.2 j hj (by simp)
  refine ⟨C, ?_, ⟨T', fun t ht => ?_, fun t ht j hj => ?_, by rw [hC, List.getElem?_set_self hxB], by rw [t1 x hxl (by rw [h.tx]; omega)]; exact h.tx, fun m hm => (h.hw m hm).keep fun j hj => same j ((h.hw m hm).low j hj) (by rw [h.tw m hm j hj]; omega), fun m hm j hj => by rw [t1 j ((h.hw m hm).low j hj) (by rw [h.tw m hm j hj]; omega)]; exact h.tw m hm j hj, fun j hj => ?_⟩, fun j hj => same j (h.p j hj).2 (by rw [(h.p j hj).1]; omega)⟩
  · unfold lnRow at hrB
    rw [hC]
    rcases (show s = 0 ∨ s = 1 by omega) with rfl | rfl <;> simp [evStore, hrB, storeElem, cellsOf, lnRow, upd, AV.solid]
  · by_cases d : t = s
    · subst d
      rw [upd_same, upd_same, upd_same, upd_same]
      exact hE.keep fun j hj => by
        rw [own_nil0, List.mem_singleton] at hj
        subst hj
        rw [hC, List.getElem?_set_ne (by omega)]
    · rw [upd_ne _ _ d, upd_ne _ _ d, upd_ne _ _ d, upd_ne _ _ d]
      exact (h.a t ht).keep fun j hj => same j ((h.a t ht).low j hj) (by rw [h.ta t ht j hj]; omega)
  · by_cases d : t = s
    · subst d
      rw [upd_same, upd_same, upd_same, own_nil0] at hj
      exact t2 j hj
    · rw [upd_ne _ _ d, upd_ne _ _ d, upd_ne _ _ d] at hj
      rw [t1 j ((h.a t ht).low j hj) (by rw [h.ta t ht j hj]; omega)]
      exact h.ta t ht j hj
  · have := h.p j hj
    exact ⟨by rw [t1 j this.2 (by rw [this.1]; omega)]; exact this.1, by
      rw [hC, List.length_set]
      exact Nat.lt_of_lt_of_le this.2 hF.1⟩
/-- rows beside -/
theorem Ln.more (h : Ln A x e c la P i q l w) {B : Arena} (hF : Fr A B []) (out : List Nat) (hout : ∀ j, j ∈ out → A.length ≤ j ∧ j < B.length) : Ln B x e c la (out ++ P) i q l w ∧ (∀ j, j ∈ P → B[j]? = A[j]?) := by
  obtain ⟨T, h⟩ := h
  obtain ⟨T', t1, _, t3⟩ := tags A T 100 [] out (fun j hj => by simp at hj) (fun j hj => ⟨.inr (hout j hj).1, by simp⟩)
  have same : ∀ j, j < A.length → B[j]? = A[j]? := fun j hj => hF.2 j hj (by simp)
  have hxl := h.xlt
  refine ⟨⟨T', fun t ht => (h.a t ht).keep fun j hj => same j ((h.a t ht).low j hj), fun t ht j hj => by rw [t1 j ((h.a t ht).low j hj) (by rw [h.ta t ht j hj]; omega)]; exact h.ta t ht j hj, by rw [same x hxl]; exact h.r, by rw [t1 x hxl (by rw [h.tx]; omega)]; exact h.tx, fun m hm => (h.hw m hm).keep fun j hj => same j ((h.hw m hm).low j hj), fun m hm j hj => by rw [t1 j ((h.hw m hm).low j hj) (by rw [h.tw m hm j hj]; omega)]; exact h.tw m hm j hj, fun j hj => ?_⟩, fun j hj => same j (h.p j hj).2⟩
  rcases List.mem_append.1 hj with hj | hj
  · exact ⟨t3 j hj, (hout j hj).2⟩
  · have := h.p j hj
    exact ⟨by rw [t1 j this.2 (by rw [this.1]; omega)]; exact this.1, Nat.lt_of_lt_of_le this.2 hF.1⟩
theorem Ln.less (h : Ln A x e c la P i q l w) {P' : List Nat} (hP : ∀ j, j ∈ P' → j ∈ P) : Ln A x e c la P' i q l w := by
  obtain ⟨T, h⟩ := h
  exact ⟨T, h.a, h.ta, h.r, h.tx, h.hw, h.tw, fun j hj => h.p j (hP j hj)⟩
/-- a row of one's own is written -/
theorem Ln.set (h : Ln A x e c la P i q l w) {y : Nat} (hy : y ∈ P) (v : Ent) : Ln (A.set y v) x e c la P i q l w := by
  obtain ⟨T, h⟩ := h
  have hy0 := (h.p y hy).1
  have same : ∀ j, T j ≠ 0 → (A.set y v)[j]? = A[j]? := fun j hj => List.getElem?_set_ne (fun e2 => hj (by rw [← e2]; exact hy0))
  exact ⟨T, fun t ht => (h.a t ht).keep fun j hj => same j (by rw [h.ta t ht j hj]; omega), h.ta, by rw [same x (by rw [h.tx]; omega)]; exact h.r, h.tx, fun m hm => (h.hw m hm).keep fun j hj => same j (by rw [h.tw m hm j hj]; omega), h.tw, fun j hj => by rw [List.length_set]; exact h.p j hj⟩
end
/-- the line's lists -/
def cont (X : PS) : Nat → List AV
  | 0 => X.fl.map flA
  | 1 => (List.range X.N).map fun n => .int .i64 (X.sd n : Int)
  | 2 => (List.range X.N).map fun n => .int .i64 (X.fm n)
  | 3 => (List.range X.N).map fun n => .int .i64 (X.to n)
  | 4 => (List.range X.N).map fun n => .int .i64 (X.ar n)
  | 5 => (List.range X.N).map fun n => .bool (X.ls n)
  | _ => []
/-- the line in an arena -/
def LnP (A : Arena) (x : Nat) (X : PS) (P : List Nat) : Prop := ∃ i q l w, Ln A x X.e (cont X) X.la P i q l w
theorem cont_len (X : PS) {k : Nat} (h0 : k ≠ 0) (h6 : k < 6) : (cont X k).length = X.N := by
  rcases (show k = 1 ∨ k = 2 ∨ k = 3 ∨ k = 4 ∨ k = 5 by omega) with rfl | rfl | rfl | rfl | rfl <;> simp [cont]
theorem range_set {α : Type} (N n : Nat) (f g : Nat → α) (v : α) (hn : n < N) (h1 : g n = v) (h2 : ∀ m, m ≠ n → g m = f m) : ((List.range N).map f).set n v = (List.range N).map g := by
  apply List.ext_getElem?
  intro j
  by_cases hj : j < N
  · rw [List.getElem?_set]
    by_cases e : n = j
    · subst e
      simp [hn, h1]
    · rw [if_neg e]
      simp [hj, h2 j (fun h => e h.symm)]
  · rw [List.getElem?_eq_none (by simp; omega), List.getElem?_eq_none (by simp; omega)]
theorem range_push {α : Type} (N : Nat) (f g : Nat → α) (v : α) (h1 : g N = v) (h2 : ∀ m, m < N → g m = f m) : (List.range N).map f ++ [v] = (List.range (N + 1)).map g := by
  rw [List.range_succ, List.map_append, List.map_singleton, h1]
  congr 1
  exact List.map_congr_left fun m hm => (h2 m (List.mem_range.1 hm)).symm
theorem cont_fl (X : PS) (fl : List (Nat × FrS)) : upd (cont X) 0 (fl.map flA) = cont { X with fl := fl } := by
  funext k
  match k with
  | 0 => rfl
  | 1 => rfl
  | 2 => rfl
  | 3 => rfl
  | 4 => rfl
  | 5 => rfl
  | k + 6 => rfl
theorem cont_ls (X : PS) {n : Nat} (hn : n < X.N) : upd (cont X) 5 ((cont X 5).set n (.bool true)) = cont { X with ls := upd X.ls n true } := by
  funext k
  match k with
  | 0 => rfl
  | 1 => rfl
  | 2 => rfl
  | 3 => rfl
  | 4 => rfl
  | 5 =>
    rw [upd_same]
    exact range_set X.N n _ _ _ hn (by simp only [upd_same]) (fun m hm => by simp only [upd_ne _ _ hm])
  | k + 6 => rfl
theorem cont_ar (X : PS) {n : Nat} (hn : n < X.N) (v : Int) : upd (cont X) 4 ((cont X 4).set n (.int .i64 v)) = cont { X with ar := upd X.ar n v } := by
  funext k
  match k with
  | 0 => rfl
  | 1 => rfl
  | 2 => rfl
  | 3 => rfl
  | 4 =>
    rw [upd_same]
    exact range_set X.N n _ _ _ hn (by simp only [upd_same]) (fun m hm => by simp only [upd_ne _ _ hm])
  | 5 => rfl
  | k + 6 => rfl
theorem cont_to (X : PS) {n : Nat} (hn : n < X.N) (v : Int) : upd (cont X) 3 ((cont X 3).set n (.int .i64 v)) = cont { X with to := upd X.to n v } := by
  funext k
  match k with
  | 0 => rfl
  | 1 => rfl
  | 2 => rfl
  | 3 =>
    rw [upd_same]
    exact range_set X.N n _ _ _ hn (by simp only [upd_same]) (fun m hm => by simp only [upd_ne _ _ hm])
  | 4 => rfl
  | 5 => rfl
  | k + 6 => rfl
section
variable {A : Arena} {x : Nat} {e : Nat → EndS} {la : Nat → Nat} {P : List Nat} {i : Nat → Nat} {q l : Nat → AV} {w : Nat → AV}
theorem Ln.ldw {c : Nat → List AV} (h : Ln A x e c la P i q l w) {k : Nat} (hk : k < 6) : evLoad false 1 A (.ptr x 0 (k + 2)) = some (w k) := by
  have hr := h.row
  simp only [evLoad, hr]
  rcases (show k = 0 ∨ k = 1 ∨ k = 2 ∨ k = 3 ∨ k = 4 ∨ k = 5 by omega) with rfl | rfl | rfl | rfl | rfl | rfl <;> rfl
theorem Ln.ldok {c : Nat → List AV} (h : Ln A x e c la P i q l w) : evLoad false 1 A (.ptr x 0 10) = some (.bool true) := by
  have hr := h.row
  simp only [evLoad, hr]
  rfl
variable {X : PS} (h : Ln A x e (cont X) la P i q l w) {n : Nat} (hn : n < X.N)
include h hn
theorem Ln.gsd : ∃ r, evIndexSl 1 A (w 1) (.int .i64 (n : Int)) = some (.ptr r n 0) ∧ evLoad false 1 A (.ptr r n 0) = some (.int .i64 (X.sd n : Int)) := h.get (k := 1) (by omega) (by omega) (by rw [cont_len X (by omega) (by omega)]; exact hn) (by simp [cont, hn]) rfl
theorem Ln.gfm : ∃ r, evIndexSl 1 A (w 2) (.int .i64 (n : Int)) = some (.ptr r n 0) ∧ evLoad false 1 A (.ptr r n 0) = some (.int .i64 (X.fm n)) := h.get (k := 2) (by omega) (by omega) (by rw [cont_len X (by omega) (by omega)]; exact hn) (by simp [cont, hn]) rfl
theorem Ln.gto : ∃ r, evIndexSl 1 A (w 3) (.int .i64 (n : Int)) = some (.ptr r n 0) ∧ evLoad false 1 A (.ptr r n 0) = some (.int .i64 (X.to n)) := h.get (k := 3) (by omega) (by omega) (by rw [cont_len X (by omega) (by omega)]; exact hn) (by simp [cont, hn]) rfl
theorem Ln.gar : ∃ r, evIndexSl 1 A (w 4) (.int .i64 (n : Int)) = some (.ptr r n 0) ∧ evLoad false 1 A (.ptr r n 0) = some (.int .i64 (X.ar n)) := h.get (k := 4) (by omega) (by omega) (by rw [cont_len X (by omega) (by omega)]; exact hn) (by simp [cont, hn]) rfl
theorem Ln.gls : ∃ r, evIndexSl 1 A (w 5) (.int .i64 (n : Int)) = some (.ptr r n 0) ∧ evLoad false 1 A (.ptr r n 0) = some (.bool (X.ls n)) := h.get (k := 5) (by omega) (by omega) (by rw [cont_len X (by omega) (by omega)]; exact hn) (by simp [cont, hn]) rfl
end
end Go.Proofs.Ytfidjdlmmcaplaa
/-
  Link: the number of a body; forget.
-/
namespace Go.Proofs.Ytfidjdlmmcaplaa
open Go

noncomputable def fs56 : List (FuncId × HModel) := []
theorem sound56 : ∀ f M, lookM fs56 f = some M → FnSpecY Try.prog GW f M := lookM_nil
noncomputable def M56 : PModel := fun args => evP (envOf GW fs56) 300 mf56 5 args
theorem spec56 : PureSpec Try.prog GW 56 M56 := PureSpec.of_ev (E := envOf GW fs56) (envOf_sound sound56) rfl at56 comp56 5 fun _ _ h => ⟨300, h⟩
def digF (a : Nat) (b : UInt8) : Nat := 10 * a + (b.toNat - 48)
theorem loop56 {s : Bytes} (hl : s.length ≤ 9) (hd : ∀ b ∈ s, 48 ≤ b.toNat ∧ b.toNat ≤ 57) (A : Arena) : ∀ (k j a n : Nat), j + k = s.length → a < 10 ^ j → k < n →
    iter (evC (envOf GW fs56) 300 lp56x0) mask56x0 n (st56x0 (.str s) (.int .i64 (a : Int)) (.int .i64 (j : Int))) A = some (.exit 0 ((st56x0 (.str s) (.int .i64 ((s.drop j).foldl digF a : Nat)) (.int .i64 (s.length : Int))).set 4 (.bool false)) A)
  | _, _, _, 0, _, _, h => by omega
  | 0, j, a, n + 1, hj, ha, hn => by
    obtain rfl : j = s.length := by omega
    rw [iter_succ, cl56x0, List.drop_length]
    have b1 := evLss (s.length : Int) (s.length : Int)
    rw [decide_eq_false (by omega)] at b1
    simp [lp56x0, b1, -evBin]
  | k + 1, j, a, n + 1, hj, ha, hn => by
    have hjl : j < s.length := by omega
    have ha9 : a < 1000000000 := Nat.lt_of_lt_of_le ha (show 10 ^ j ≤ 10 ^ 9 from Nat.pow_le_pow_right (by omega) (by omega))
    obtain ⟨b, hb⟩ : ∃ b, b = s[j] := ⟨_, rfl⟩
    have hbd := hd b (by rw [hb]; exact List.getElem_mem hjl)
    have b1 := evLss (j : Int) (s.length : Int)
    rw [decide_eq_true (by omega)] at b1
    have b2 := evLss (j : Int) 9
    rw [decide_eq_true (by omega)] at b2
    have b3 : evBin .mul (.int .i64 10) (.int .i64 (a : Int)) = some (.int .i64 ((10 * a : Nat) : Int)) := by
      simp only [evBin]
      rw [if_pos trivial, wrapI (by unfold inI; omega), Int.natCast_mul]
      rfl
    have x1 : evIndexStr (.str s) (.int .i64 (j : Int)) = some (.int .u8 (b.toNat : Int)) := by
      simp only [evIndexStr]
      rw [if_pos (by omega), Int.toNat_natCast, List.getElem?_eq_getElem hjl, ← hb]
      rfl
    have b4 : evBin .sub (.int .u8 (b.toNat : Int)) (.int .u8 48) = some (.int .u8 ((b.toNat - 48 : Nat) : Int)) := by
      simp only [evBin]
      rw [if_pos trivial, wrapU8 (by omega)]
      congr 2
      omega
    have b5 : evConvInt .i64 (.int .u8 ((b.toNat - 48 : Nat) : Int)) = some (.int .i64 ((b.toNat - 48 : Nat) : Int)) := by
      simp only [evConvInt]
      rw [wrapI (by unfold inI; omega)]
    have b6 := evAdd (a := ((10 * a : Nat) : Int)) (b := ((b.toNat - 48 : Nat) : Int)) (by omega)
    rw [← Int.natCast_add] at b6
    have b7 := evAdd (a := (j : Int)) (b := 1) (by omega)
    rw [show (j : Int) + 1 = ((j + 1 : Nat) : Int) by omega] at b7
    have e : (s.drop j).foldl digF a = (s.drop (j + 1)).foldl digF (10 * a + (b.toNat - 48)) := by
      rw [List.drop_eq_getElem_cons hjl, ← hb]
      rfl
    have ih := loop56 hl hd A k (j + 1) (10 * a + (b.toNat - 48)) n (by omega) (by rw [Nat.pow_succ]; omega) (by omega)
    rw [iter_succ, cl56x0, e]
    obtain ⟨u, hu⟩ : ∃ u, u = 10 * a := ⟨_, rfl⟩
    obtain ⟨v, hv⟩ : ∃ v, v = b.toNat - 48 := ⟨_, rfl⟩
    obtain ⟨z, hz⟩ : ∃ z, z = u + v := ⟨_, rfl⟩
    obtain ⟨t, ht⟩ : ∃ t, t = j + 1 := ⟨_, rfl⟩
    rw [← hu] at b3 b6 ih ⊢
    rw [← hv] at b4 b5 b6 ih ⊢
    rw [← hz] at b6 ih ⊢
    rw [← ht] at b7 ih ⊢
    have r : run (envOf GW fs56) 300 [.code lp56x0] (st56x0 (.str s) (.int .i64 (a : Int)) (.int .i64 (j : Int))) A = some (.normal (st56x0 (.str s) (.int .i64 (z : Int)) (.int .i64 (t : Int))) A) := by
      simp [lp56x0, b1, b2, b3, x1, b4, b5, b6, b7, -evBin, -evConvInt, -evIndexStr]
    rw [r]
    exact ih
theorem M56_dig {s : Bytes} (hl : s.length ≤ 9) (hd : ∀ b ∈ s, 48 ≤ b.toNat ∧ b.toNat ≤ 57) : M56 [.str s] = some (.int .i64 (numB s : Int)) := by
  have lp := loop56 hl hd [] s.length 0 0 300 (by omega) (by omega) (by omega)
  have e : s.foldl digF 0 = numB s := by
    unfold numB
    rw [List.take_of_length_le hl]
    rfl
  rw [List.drop_zero, e] at lp
  have lp' : iter (evC (envOf GW fs56) 300 lp56x0) mask56x0 300 (st56x0 (.str s) (.int .i64 0) (.int .i64 0)) [] = some (.exit 0 ((st56x0 (.str s) (.int .i64 (numB s : Int)) (.int .i64 (s.length : Int))).set 4 (.bool false)) []) := lp
  unfold M56
  rw [evP_run _ _ rfl]
  simp [mf56, go56x0 lp']
theorem M56_eq {n : Nat} (hn : n < 300) : M56 [.str (txt n)] = some (.int .i64 (n : Int)) := by
  have h : ∀ n : Fin 300, (txt n).length ≤ 9 ∧ ∀ b ∈ txt n, 48 ≤ b.toNat ∧ b.toNat ≤ 57 := by decide +kernel
  have := h ⟨n, hn⟩
  rw [M56_dig this.1 this.2, numB_txt n hn]
noncomputable def fs57 : List (FuncId × HModel) := [(28, H28), (56, pureH 4 M56)]
@[simp] theorem fs57_28 : lookM fs57 28 = some (H28) := rfl
@[simp] theorem fs57_56 : lookM fs57 56 = some (pureH 4 M56) := rfl
theorem sound57 : ∀ f M, lookM fs57 f = some M → FnSpecY Try.prog GW f M := lookM_cons spec28 (lookM_cons (FnSpecY.of_pure spec56 4) lookM_nil)
noncomputable def H57 : HModel := fun _ => evFun (envOf GW fs57) 300 mf57
theorem spec57 : FnSpecY Try.prog GW 57 H57 := (evFun_sound (envOf_sound sound57) rfl at57 comp57 (by first | exact PureIn.nil | (repeat (first | exact PureIn.nil | refine PureIn.cons (M := _) rfl ?_)))).y
/-- a string of a list -/
theorem strAt {A : Arena} {v : AV} {xs : List Bytes} (h : SlP 1 A v (xs.map .str)) {i : Nat} (hi : i < xs.length) : ∃ r, evIndexSl 1 A v (.int .i64 (i : Int)) = some (.ptr r i 0) ∧ evLoad false 1 A (.ptr r i 0) = some (.str xs[i]) := by
  obtain ⟨r, es, h1, h2, h3, h4⟩ := h.index (i := i) (by simpa using hi) (by decide) .i64
  refine ⟨r, h4, ?_⟩
  simp only [evLoad, h2, Bool.false_and, Bool.false_eq_true, if_false, h3, List.getElem_map]
  rfl
theorem strLen {A : Arena} {v : AV} {xs : List Bytes} (h : SlP 1 A v (xs.map .str)) : evLenSl v = some (.int .i64 (xs.length : Int)) := by
  have := h.len
  rwa [List.length_map] at this
/-- what is noted as lost: numbers of the end's messages -/
def LostOk (X : PS) (s : Nat) (xs : List Bytes) : Prop := (∀ b ∈ xs, 1 ≤ numB b ∧ numB b < X.N ∧ X.sd (numB b) = s ∧ X.ls (numB b) = false ∧ b = txt (numB b)) ∧ (xs.map numB).Nodup
set_option maxRecDepth 100000 in
set_option maxHeartbeats 4000000 in
theorem round57 {A : Arena} {x : Nat} {X : PS} {P : List Nat} {i : Nat → Nat} {q l w : Nat → AV} (h : Ln A x X.e (cont X) X.la P i q l w) {s : Nat} {lv : AV} {xs : List Bytes} (hl : SlP 1 A lv (xs.map .str)) {j : Nat} (hj : j < xs.length) (hx : xs.length ≤ 1000) {n : Nat} (hb : xs[j] = txt n) (h1 : 1 ≤ n) (h2 : n < X.N) (h3 : X.sd n = s) (h4 : X.ls n = false) (hN : X.N < 300) :
    ∃ B, run (envOf GW fs57) 300 [.code lp57x0] (st57x0 (.ptr x 0 0) (.int .i64 (s : Int)) lv (.int .i64 (j : Int))) A = some (.normal (st57x0 (.ptr x 0 0) (.int .i64 (s : Int)) lv (.int .i64 ((j + 1 : Nat) : Int))) B) ∧
      Ln B x X.e (cont { X with ls := upd X.ls n true }) X.la P i q l w ∧ ∀ j, j ∈ P → B[j]? = A[j]? := by
  obtain ⟨r, x1, l1⟩ := strAt hl hj
  rw [hb] at l1
  have hlen := strLen hl
  have m56 := M56_eq (n := n) (by omega)
  have f7 : evLoad false 1 A (.ptr x 0 7) = some (w 5) := h.ldw (k := 5) (by omega)
  have f3 : evLoad false 1 A (.ptr x 0 3) = some (w 1) := h.ldw (k := 1) (by omega)
  have hl5 := h.len (k := 5) (by omega)
  rw [cont_len X (by omega) (by omega)] at hl5
  obtain ⟨r2, x2, l2⟩ := h.gsd h2
  rw [h3] at l2
  obtain ⟨r3, x3, l3⟩ := h.gls h2
  rw [h4] at l3
  obtain ⟨r4, B, x4, st, hB, pB⟩ := h.put (k := 5) (n := n) (v := .bool true) (by omega) (by omega) (by rw [cont_len X (by omega) (by omega)]; exact h2) ⟨rfl, rfl⟩
  rw [cont_ls X h2] at hB
  rw [x3] at x4
  injection x4 with x4
  injection x4 with x4
  subst x4
  have b1 := evLss (j : Int) (xs.length : Int)
  rw [decide_eq_true (by omega)] at b1
  have b2 := evLss (n : Int) 1
  rw [decide_eq_false (by omega)] at b2
  have b3 := evGeq (n : Int) (X.N : Int)
  rw [decide_eq_false (by omega)] at b3
  have b4 := evNeq (s : Int) (s : Int)
  rw [decide_eq_false (by simp)] at b4
  have b5 := evAdd (a := (j : Int)) (b := 1) (by omega)
  rw [show (j : Int) + 1 = ((j + 1 : Nat) : Int) by omega] at b5
  obtain ⟨t, ht⟩ : ∃ t, t = j + 1 := ⟨_, rfl⟩
  rw [← ht] at b5 ⊢
  refine ⟨B, ?_, hB, pB⟩
  have hr := h.row
  simp [lp57x0, b1, b2, b3, b4, b5, hr, x1, l1, hlen, m56, f7, f3, hl5, x2, l2, x3, l3, st, -evBin, -evLenSl, -evIndexSl, -evLoad, -evStore]
theorem loop57 {x : Nat} {P : List Nat} {i : Nat → Nat} {q l w : Nat → AV} {s : Nat} {lv : AV} {xs : List Bytes} (hlP : ∀ j, j ∈ idsOf lv → j ∈ P) (hx : xs.length ≤ 1000) : ∀ (k j m : Nat) (A : Arena) (X : PS), X.N < 300 → Ln A x X.e (cont X) X.la P i q l w → SlP 1 A lv (xs.map .str) → j + k = xs.length → k < m → LostOk X s (xs.drop j) →
    ∃ B, iter (evC (envOf GW fs57) 300 lp57x0) mask57x0 m (st57x0 (.ptr x 0 0) (.int .i64 (s : Int)) lv (.int .i64 (j : Int))) A = some (.exit 2 ((st57x0 (.ptr x 0 0) (.int .i64 (s : Int)) lv (.int .i64 (xs.length : Int))).set 6 (.bool false)) B) ∧
      Ln B x X.e (cont { X with ls := lsAll (xs.drop j) X.ls }) X.la P i q l w ∧ ∀ j, j ∈ P → B[j]? = A[j]?
  | _, _, 0, _, _, _, _, _, _, h, _ => by omega
  | 0, j, m + 1, A, X, hN, h, hl, hj, hn, hok => by
    obtain rfl : j = xs.length := by omega
    have b1 := evLss (xs.length : Int) (xs.length : Int)
    rw [decide_eq_false (by omega)] at b1
    have hlen := strLen hl
    refine ⟨A, ?_, ?_, fun _ _ => rfl⟩
    · rw [iter_succ, cl57x0]
      simp [lp57x0, b1, hlen, -evBin, -evLenSl]
    · rw [List.drop_length]
      exact h
  | k + 1, j, m + 1, A, X, hN, h, hl, hj, hn, hok => by
    have hjl : j < xs.length := by omega
    rw [List.drop_eq_getElem_cons hjl] at hok ⊢
    obtain ⟨h1, h2, h3, h4, h5⟩ := hok.1 _ (List.mem_cons_self)
    have hnd := hok.2
    rw [List.map_cons, List.nodup_cons] at hnd
    obtain ⟨B, r, hB, pB⟩ := round57 h hl hjl hx h5 h1 h2 h3 h4 hN
    obtain ⟨C, lp, hC, pC⟩ := loop57 hlP hx k (j + 1) m B { X with ls := upd X.ls (numB xs[j]) true } hN hB (hl.keep fun j hj => pB j (hlP j hj)) (by omega) (by omega) ⟨fun b hb => by
      obtain ⟨g1, g2, g3, g4, g5⟩ := hok.1 b (List.mem_cons_of_mem _ hb)
      refine ⟨g1, g2, g3, ?_, g5⟩
      show upd X.ls (numB xs[j]) true (numB b) = false
      rw [upd_ne _ _ (fun e => hnd.1 (List.mem_map.2 ⟨b, hb, e⟩))]
      exact g4, hnd.2⟩
    refine ⟨C, ?_, hC, fun j hj => (pC j hj).trans (pB j hj)⟩
    rw [iter_succ, cl57x0, r]
    exact lp
end Go.Proofs.Ytfidjdlmmcaplaa
/-
  Link: forget; a frame is removed; a new line.
-/
namespace Go.Proofs.Ytfidjdlmmcaplaa
open Go

def lostP (X : PS) (s : Nat) : PS := { X with e := upd X.e s { X.e s with lost := [] }, ls := lsAll (X.e s).lost X.ls }
set_option maxRecDepth 100000 in
set_option maxHeartbeats 4000000 in
theorem round57o {A : Arena} {x : Nat} {X : PS} {P : List Nat} (h : LnP A x X P) {s : Nat} (hs : s < 2) (hok : LostOk X s (X.e s).lost) (hl : (X.e s).lost.length ≤ 250) (hN : X.N < 300) :
    ∃ B, run (envOf GW fs57) 300 [.code lp57x1] (st57x1 (.ptr x 0 0) (.int .i64 (s : Int))) A = some (.normal (st57x1 (.ptr x 0 0) (.int .i64 ((s + 1 : Nat) : Int))) B) ∧ LnP B x (lostP X s) P ∧ ∀ j, j ∈ P → B[j]? = A[j]? := by
  obtain ⟨i, q, l, w, h⟩ := h
  have hr := h.row
  have hE := h.end_ hs
  obtain ⟨B, v28, gB, FB⟩ := ev28 hE (fun _ _ _ => none)
  have hla : ∀ j, j ∈ idsOf (l s) → j ∈ own (i s) (q s) (l s) := fun j hj => mem_own.2 (.inr (.inr hj))
  obtain ⟨iB, pB⟩ := h.step hs (out := idsOf (l s)) gB (fun j hj => by
    rcases mem_own.1 hj with h | h | h
    · exact .inl (mem_own.2 (.inl h))
    · exact .inl (mem_own.2 (.inr (.inl h)))
    · simp [idsOf] at h) (FB.mono fun j _ hj => by rw [List.mem_singleton] at hj; exact mem_own.2 (.inl hj)) (fun j hj => ⟨.inl (hla j hj), Nat.lt_of_lt_of_le (hE.low j (hla j hj)) FB.1, fun hj2 => by
    rcases mem_own.1 hj2 with h | h | h
    · exact hE.2.2.2.2.1 (h ▸ hj)
    · exact hE.2.2.2.2.2 j h hj
    · simp [idsOf] at h⟩)
  have sl : SlP 1 B (l s) ((X.e s).lost.map .str) := hE.2.2.1.keep fun j hj => FB.2 j (hE.low j (hla j hj)) (fun h => by
    rw [List.mem_singleton] at h
    exact hE.2.2.2.2.1 (h ▸ hj))
  obtain ⟨xi, xl⟩ := h.idx hs
  obtain ⟨C, lp, iC, pC⟩ := loop57 (s := s) (lv := l s) (P := idsOf (l s) ++ P) (fun j hj => List.mem_append.2 (.inl hj)) (by omega) (X.e s).lost.length 0 300 B { X with e := upd X.e s { X.e s with lost := [] } } hN iB sl (by omega) (by omega) hok
  rw [List.drop_zero] at iC
  have b1 := evLss (s : Int) 2
  rw [decide_eq_true (by omega)] at b1
  have b2 := evAdd (a := (s : Int)) (b := 1) (by omega)
  rw [show (s : Int) + 1 = ((s + 1 : Nat) : Int) by omega] at b2
  obtain ⟨t, ht⟩ : ∃ t, t = s + 1 := ⟨_, rfl⟩
  rw [← ht] at b2 ⊢
  have lp' : iter (evC (envOf GW fs57) 300 lp57x0) mask57x0 300 (st57x0 (.ptr x 0 0) (.int .i64 (s : Int)) (l s) (.int .i64 0)) B = some (.exit 2 ((st57x0 (.ptr x 0 0) (.int .i64 (s : Int)) (l s) (.int .i64 ((X.e s).lost.length : Int))).set 6 (.bool false)) C) := lp
  refine ⟨C, ?_, ⟨i, _, _, w, iC.less fun j hj => List.mem_append.2 (.inr hj)⟩, fun j hj => (pC j (List.mem_append.2 (.inr hj))).trans (pB j hj)⟩
  simp [lp57x1, b1, b2, hr, xi, xl, v28, go57x0 lp', -evBin, -evLoad]
/-- forget -/
theorem ev57 (hd : Handler) {A : Arena} {x : Nat} {X : PS} {P : List Nat} (h : LnP A x X P) (h0 : LostOk X 0 (X.e 0).lost) (h1 : LostOk (lostP X 0) 1 (X.e 1).lost) (hl : (X.e 0).lost.length ≤ 250 ∧ (X.e 1).lost.length ≤ 250) (hN : X.N < 300) :
    ∃ B, H57 hd [.ptr x 0 0] A = some (pack [], B) ∧ LnP B x (lostP (lostP X 0) 1) P ∧ ∀ j, j ∈ P → B[j]? = A[j]? := by
  obtain ⟨B, r1, hB, pB⟩ := round57o h (s := 0) (by omega) h0 hl.1 hN
  have e1 : (lostP X 0).e 1 = X.e 1 := by
    show upd X.e 0 { X.e 0 with lost := [] } 1 = X.e 1
    exact upd_ne _ _ (by omega)
  obtain ⟨C, r2, hC, pC⟩ := round57o hB (s := 1) (by omega) (by rw [e1]; exact h1) (by rw [e1]; exact hl.2) hN
  refine ⟨C, ?_, hC, fun j hj => (pC j hj).trans (pB j hj)⟩
  have r1' : run (envOf GW fs57) 300 [.code lp57x1] (st57x1 (.ptr x 0 0) (.int .i64 0)) A = some (.normal (st57x1 (.ptr x 0 0) (.int .i64 1)) B) := r1
  have r2' : run (envOf GW fs57) 300 [.code lp57x1] (st57x1 (.ptr x 0 0) (.int .i64 1)) B = some (.normal (st57x1 (.ptr x 0 0) (.int .i64 2)) C) := r2
  have lp : iter (evC (envOf GW fs57) 300 lp57x1) mask57x1 300 (st57x1 (.ptr x 0 0) (.int .i64 0)) A = some (.exit 0 ((st57x1 (.ptr x 0 0) (.int .i64 2)).set 5 (.bool false)) C) := by
    rw [iter_succ, cl57x1, r1']
    simp only
    rw [iter_succ, cl57x1, r2']
    simp only
    rw [iter_succ, cl57x1]
    simp [lp57x1]
  unfold H57
  rw [evFun_run _ _ rfl]
  simp [mf57, go57x1 lp]
/-- append, of any number of elements -/
theorem SlP.appendAny {esz bytes : Nat} {A : Arena} {v x : AV} {xs ys : List AV} (h : SlP esz A v xs) (hx : srcElems esz A x = some ys) (he : 0 < esz) (hb : 0 < bytes) (hs : (xs.length + ys.length) * bytes ≤ 140737488355328) :
    ∃ v' B, evAppendN esz bytes A v x = some (v', B) ∧ SlP esz B v' (xs ++ ys) ∧ Fr A B (idsOf v) ∧ ∀ j, j ∈ idsOf v' → A.length ≤ j := by
  rcases h with ⟨h, h2⟩ | ⟨r, es, h1, h2, h3⟩
  · subst h2; subst h
    by_cases hy : ys = []
    · subst hy
      refine ⟨.nilS, A, ?_, .inl ⟨rfl, rfl⟩, Fr.refl _ _, fun j hj => by simp [idsOf] at hj⟩
      simp [evAppendN, hx]
    · obtain ⟨B, k1, k2, k3, _⟩ := (SlP.nil (esz := esz) (A := A)).appendN (bytes := bytes) hx hy he hb (by simpa using hs)
      exact ⟨_, B, k1, k2, k3, fun j hj => by simp [idsOf] at hj; omega⟩
  · have hr := (List.getElem?_eq_some_iff.1 h2).1
    refine ⟨.sl A.length 0 (xs ++ ys).length, A.set r .dead ++ [.row esz false (xs ++ ys)], ?_, .inr ⟨A.length, xs ++ ys, rfl, by rw [List.getElem?_append_right (by simp)]; simp, List.take_length⟩, ?_, fun j hj => by simp [idsOf] at hj; omega⟩
    · simp only [evAppendN, hx, h1, h2]
      rw [if_pos ⟨trivial, he, hb, hs⟩]
      simp [h3]
    · refine ⟨by simp, fun j hj hn => ?_⟩
      rw [List.getElem?_append_left (by simpa using hj), List.getElem?_set_ne]
      rintro rfl
      exact hn (by rw [h1]; simp [idsOf])
theorem SlP.part {esz : Nat} {A : Arena} {v : AV} {xs : List AV} (h : SlP esz A v xs) (hne : 0 < xs.length) : ∃ r es, v = .sl r 0 xs.length ∧ A[r]? = some (.row esz false es) ∧ ∀ i k, i + k ≤ xs.length → srcElems esz A (.sl r i k) = some ((xs.drop i).take k) := by
  rcases h with ⟨_, h2⟩ | ⟨r, es, h1, h2, h3⟩
  · rw [h2] at hne; simp at hne
  · refine ⟨r, es, h1, h2, fun i k hik => ?_⟩
    have hle : xs.length ≤ es.length := by
      have := congrArg List.length h3
      simp at this; omega
    simp only [srcElems, h2]
    rw [if_pos trivial]
    congr 1
    conv => rhs; rw [← h3]
    rw [List.drop_take, List.take_take, Nat.min_eq_left (by omega)]
noncomputable def fs38 : List (FuncId × HModel) := []
theorem sound38 : ∀ f M, lookM fs38 f = some M → FnSpecY Try.prog GW f M := lookM_nil
noncomputable def H38 : HModel := fun _ => evFun (envOf GW fs38) 300 mf38
theorem spec38 : FnSpecY Try.prog GW 38 H38 := (evFun_sound (envOf_sound sound38) rfl at38 comp38 (by first | exact PureIn.nil | (repeat (first | exact PureIn.nil | refine PureIn.cons (M := _) rfl ?_)))).y
set_option maxRecDepth 100000 in
set_option maxHeartbeats 4000000 in
/-- a frame is removed -/
theorem ev38 (hd : Handler) {A : Arena} {x : Nat} {X : PS} {P : List Nat} (h : LnP A x X P) {n : Nat} (hn : n < X.fl.length) (hb : X.fl.length ≤ 1000000) :
    ∃ B, H38 hd [.ptr x 0 0, .int .i64 (n : Int)] A = some (pack [], B) ∧ LnP B x { X with fl := X.fl.take n ++ X.fl.drop (n + 1) } P ∧ ∀ j, j ∈ P → B[j]? = A[j]? := by
  obtain ⟨i, q, l, w, h⟩ := h
  have hr := h.row
  have hS : SlP 6 A (w 0) (X.fl.map flA) := h.slot (k := 0) (by omega)
  have hlen : (X.fl.map flA).length = X.fl.length := by simp
  obtain ⟨r, es, g1, g2, g3⟩ := hS.part (by omega)
  have hrl := (List.getElem?_eq_some_iff.1 g2).1
  rw [hlen] at g1 g3
  have s1 := g3 0 n (by omega)
  have s2 := g3 (n + 1) (X.fl.length - (n + 1)) (by omega)
  obtain ⟨v1, B, k1, k2, k3, k4⟩ := (SlP.nil (esz := 6) (A := A)).appendAny (bytes := 56) s1 (by omega) (by omega) (by simp; omega)
  have hrB : B[r]? = A[r]? := k3.2 r hrl (by simp [idsOf])
  have s2B : srcElems 6 B (.sl r (n + 1) (X.fl.length - (n + 1))) = some (((X.fl.map flA).drop (n + 1)).take (X.fl.length - (n + 1))) := by
    rw [← s2]
    simp only [srcElems, hrB]
  obtain ⟨v2, C, c1, c2, c3, c4⟩ := k2.appendAny (bytes := 56) s2B (by omega) (by omega) (by simp; omega)
  have eC : ([] ++ ((X.fl.map flA).drop 0).take n) ++ ((X.fl.map flA).drop (n + 1)).take (X.fl.length - (n + 1)) = (X.fl.take n ++ X.fl.drop (n + 1)).map flA := by
    rw [List.nil_append, List.drop_zero, ← List.map_take, ← List.map_drop, ← List.map_take, ← List.map_append]
    congr 2
    exact List.take_of_length_le (by simp)
  rw [eC] at c2
  have FC : Fr A C [] := k3.trans c3 fun j hj => .inr (k4 j hj)
  have hxB : B[x]? = A[x]? := k3.2 x h.xlt (by simp [idsOf])
  have hxC : C[x]? = A[x]? := FC.2 x h.xlt (by simp)
  obtain ⟨D, d1, d2, d3, _⟩ := h.fresh (k := 0) (by omega) c2 (fun j hj => Nat.le_trans k3.1 (c4 j hj)) (FC.mono fun j _ hj => by simp at hj)
  rw [cont_fl] at d2
  refine ⟨D, ?_, ⟨i, q, l, _, d2⟩, d3⟩
  have d1' : evStore 1 C (.ptr x 0 2) v2 = some D := d1
  have z1 : evSliceSl 6 A none (some (.int .i64 (n : Int))) (w 0) = some (.sl r 0 n) := by
    rw [g1]
    simp only [evSliceSl, g2, evBounds, loB, hiB]
    rw [if_pos trivial, if_pos (by omega)]
    simp
  have z2 : evSliceSl 6 B (some (.int .i64 ((n + 1 : Nat) : Int))) none (w 0) = some (.sl r (n + 1) (X.fl.length - (n + 1))) := by
    rw [g1]
    have h2 : n + 1 ≤ X.fl.length := by omega
    simp only [evSliceSl, hrB, g2, evBounds, loB, hiB]
    rw [if_pos trivial, if_pos (by omega)]
    simp only [Int.toNat_natCast]
    rw [if_pos h2]
    simp
  have b1 := evAdd (a := (n : Int)) (b := 1) (by omega)
  rw [show (n : Int) + 1 = ((n + 1 : Nat) : Int) by omega] at b1
  have f2 : evLoad false 1 A (.ptr x 0 2) = some (w 0) := h.ldw (k := 0) (by omega)
  have f2B : evLoad false 1 B (.ptr x 0 2) = some (w 0) := by
    rw [← f2]
    simp only [evLoad, hxB]
  rw [hr] at hxB hxC
  obtain ⟨t, ht⟩ : ∃ t, t = n + 1 := ⟨_, rfl⟩
  rw [← ht] at b1 z2 c1
  unfold H38
  rw [evFun_run _ _ rfl]
  simp [mf38, hr, hxB, hxC, f2, f2B, z1, k1, z2, b1, c1, d1', -evBin, -evLoad, -evSliceSl, -evStore]
noncomputable def fs36 : List (FuncId × HModel) := [(13, H13)]
@[simp] theorem fs36_13 : lookM fs36 13 = some (H13) := rfl
theorem sound36 : ∀ f M, lookM fs36 f = some M → FnSpecY Try.prog GW f M := lookM_cons spec13 lookM_nil
noncomputable def H36 : HModel := fun _ => evFun (envOf GW fs36) 300 mf36
theorem spec36 : FnSpecY Try.prog GW 36 H36 := (evFun_sound (envOf_sound sound36) rfl at36 comp36 (by first | exact PureIn.nil | (repeat (first | exact PureIn.nil | refine PureIn.cons (M := _) rfl ?_)))).y
def X0 : PS := ⟨fun _ => newS 1, [], 1, fun _ => 0, fun _ => 0, fun _ => 0, fun _ => 0, fun _ => false, fun _ => 0⟩
theorem buildOne (A : Arena) (v : AV) (hv : v.solid = true ∧ cellsOf v = [v]) : evBuildSlice 1 [v] A = some (.sl A.length 0 1, A ++ [.row 1 false [v]]) ∧ SlP 1 (A ++ [.row 1 false [v]]) (.sl A.length 0 1) [v] := by
  refine ⟨?_, .inr ⟨A.length, [v], rfl, by simp, rfl⟩⟩
  unfold evBuildSlice
  rw [if_pos ⟨by omega, by simp, by rw [List.all_cons, hv.1, hv.2]; rfl⟩]
  rfl
set_option maxRecDepth 100000 in
set_option maxHeartbeats 4000000 in
theorem ev36 (hd : Handler) (A : Arena) : ∃ B x, H36 hd [] A = some (.ptr x 0 0, B) ∧ LnP B x X0 [] := by
  obtain ⟨A1, v1, g1, F1⟩ := (ev13 (fun _ _ _ => none) A 1).1 (by omega)
  obtain ⟨A2, v2, g2, F2⟩ := (ev13 (fun _ _ _ => none) A1 1).1 (by omega)
  have l1 : A.length < A1.length := g1.low A.length (mem_own.2 (.inl rfl))
  have l2 : A1.length < A2.length := g2.low A1.length (mem_own.2 (.inl rfl))
  have g1' := g1.beside F2 (fun j _ => by simp)
  obtain ⟨x, hx⟩ : ∃ x, x = A2.length := ⟨_, rfl⟩
  obtain ⟨id, hid⟩ : ∃ id : Nat → Nat, id = fun s => if s = 0 then A.length else A1.length := ⟨_, rfl⟩
  have i0 : id 0 = A.length := by rw [hid]; rfl
  have i1 : id 1 = A1.length := by rw [hid]; rfl
  obtain ⟨C, hC⟩ : ∃ C, C = A2 ++ [lnRow id (fun _ => .nilS) (fun _ => 0)] := ⟨_, rfl⟩
  have h0 : Ln C x X0.e (fun _ => []) (fun _ => 0) [] id (fun _ => .nilS) (fun _ => .nilS) (fun _ => .nilS) := by
    have ends : ∀ s, s < 2 → EndAt C (id s) (newS 1) .nilS .nilS ∧ id s < A2.length := fun s hs => by
      rcases (show s = 0 ∨ s = 1 by omega) with rfl | rfl
      · rw [i0, hC]
        exact ⟨g1'.keep fun j hj => List.getElem?_append_left (g1'.low j hj), by omega⟩
      · rw [i1, hC]
        exact ⟨g2.keep fun j hj => List.getElem?_append_left (g2.low j hj), l2⟩
    refine ⟨fun j => if j = A.length then 1 else if j = A1.length then 2 else 3, fun s hs => (ends s hs).1, fun s hs j hj => ?_, by rw [hC, hx]; simp, ?_, fun k _ => .nil, fun k _ j hj => by simp [idsOf] at hj, fun j hj => by simp at hj⟩
    · rw [own_nil0, List.mem_singleton] at hj
      subst hj
      rcases (show s = 0 ∨ s = 1 by omega) with rfl | rfl
      · rw [i0]; simp
      · rw [i1]; simp; omega
    · show (if x = A.length then 1 else if x = A1.length then 2 else 3) = 3
      rw [if_neg (by omega), if_neg (by omega)]
  have st : ∀ {C : Arena} {c : Nat → List AV} {w : Nat → AV} (v : AV) (k : Nat), k ≠ 0 → k < 6 → (v.solid = true ∧ cellsOf v = [v]) → Ln C x X0.e c (fun _ => 0) [] id (fun _ => .nilS) (fun _ => .nilS) w → ∃ D, evBuildSlice 1 [v] C = some (.sl C.length 0 1, C ++ [.row 1 false [v]]) ∧ evStore 1 (C ++ [.row 1 false [v]]) (.ptr x 0 (k + 2)) (.sl C.length 0 1) = some D ∧ Ln D x X0.e (upd c k [v]) (fun _ => 0) [] id (fun _ => .nilS) (fun _ => .nilS) (upd w k (.sl C.length 0 1)) ∧ (C ++ [Ent.row 1 false [v]])[x]? = C[x]? := by
    intro C c w v k hk0 hk hv h
    obtain ⟨b1, b2⟩ := buildOne C v hv
    have e : eszL k = 1 := if_neg hk0
    obtain ⟨D, d1, d2, _, _⟩ := h.fresh hk (B := C ++ [.row 1 false [v]]) (v := .sl C.length 0 1) (ys := [v]) (by rw [e]; exact b2) (fun j hj => by simp [idsOf] at hj; omega) (Fr.app _ _ _)
    exact ⟨D, b1, d1, d2, List.getElem?_append_left h.xlt⟩
  obtain ⟨D1, p1, s1, h1, x1⟩ := st (.int .i64 0) 1 (by omega) (by omega) ⟨rfl, rfl⟩ h0
  obtain ⟨D2, p2, s2, h2, x2⟩ := st (.int .i64 0) 2 (by omega) (by omega) ⟨rfl, rfl⟩ h1
  obtain ⟨D3, p3, s3, h3, x3⟩ := st (.int .i64 0) 3 (by omega) (by omega) ⟨rfl, rfl⟩ h2
  obtain ⟨D4, p4, s4, h4, x4⟩ := st (.int .i64 0) 4 (by omega) (by omega) ⟨rfl, rfl⟩ h3
  obtain ⟨D5, p5, s5, h5, x5⟩ := st (.bool false) 5 (by omega) (by omega) ⟨rfl, rfl⟩ h4
  refine ⟨D5, x, ?_, ?_⟩
  · rw [h0.row] at x1
    rw [h1.row] at x2
    rw [h2.row] at x3
    rw [h3.row] at x4
    rw [h4.row] at x5
    have n0 : evBin .eql (.int .i64 0) (.int .i64 0) = some (.bool true) := rfl
    have bx : A2 ++ [Ent.row 11 false [.agg [.ptr A.length 0 0, .ptr A1.length 0 0, .nilS, .nilS, .nilS, .nilS, .nilS, .nilS, .int .i64 0, .int .i64 0, .bool true]]] = C := by
      rw [hC]
      unfold lnRow
      rw [i0, i1]
      rfl
    unfold H36
    rw [evFun_run _ _ rfl]
    simp [mf36, v1, v2, n0, evBox, bx, ← hx, p1, p2, p3, p4, p5, s1, s2, s3, s4, s5, x1, x2, x3, x4, x5, -evBin, -evBuildSlice, -evStore]
  · have e : upd (upd (upd (upd (upd (fun _ => []) 1 [.int .i64 0]) 2 [.int .i64 0]) 3 [.int .i64 0]) 4 [.int .i64 0]) 5 [.bool false] = cont X0 := by
      funext k
      match k with
      | 0 => rfl
      | 1 => rfl
      | 2 => rfl
      | 3 => rfl
      | 4 => rfl
      | 5 => rfl
      | k + 6 => rfl
    rw [e] at h5
    exact ⟨id, _, _, _, h5⟩
end Go.Proofs.Ytfidjdlmmcaplaa
/-
  Link: a frame is delivered.
-/
namespace Go.Proofs.Ytfidjdlmmcaplaa
open Go

theorem pHs (M : PModel) (h : Handler) (A : Arena) (s : Bytes) : pureH 4 M h [.str s] A = (M [.str s]).map (·, A) := by
  simp
  split <;> simp [*]
noncomputable def fs39 : List (FuncId × HModel) := [(23, H23), (26, pureH 4 M26), (56, pureH 4 M56), (57, H57)]
@[simp] theorem fs39_23 : lookM fs39 23 = some (H23) := rfl
@[simp] theorem fs39_26 : lookM fs39 26 = some (pureH 4 M26) := rfl
@[simp] theorem fs39_56 : lookM fs39 56 = some (pureH 4 M56) := rfl
@[simp] theorem fs39_57 : lookM fs39 57 = some (H57) := rfl
theorem sound39 : ∀ f M, lookM fs39 f = some M → FnSpecY Try.prog GW f M := lookM_cons spec23 (lookM_cons (FnSpecY.of_pure spec26 4) (lookM_cons (FnSpecY.of_pure spec56 4) (lookM_cons spec57 lookM_nil)))
noncomputable def H39 : HModel := fun _ => evFun (envOf GW fs39) 300 mf39
theorem spec39 : FnSpecY Try.prog GW 39 H39 := (evFun_sound (envOf_sound sound39) rfl at39 comp39 (by first | exact PureIn.nil | (repeat (first | exact PureIn.nil | refine PureIn.cons (M := _) rfl ?_)))).y
set_option maxRecDepth 100000 in
set_option maxHeartbeats 4000000 in
theorem round39 {A : Arena} {x y : Nat} {X : PS} {P : List Nat} {i : Nat → Nat} {q l w : Nat → AV} (h : Ln A x X.e (cont X) X.la P i q l w) (hy : y ∈ P) {t : Nat} (ht : t < 2) {f : FrS} (hr : A[y]? = some (.row 6 false [flA (t, f)])) {lv : AV} {n : Nat} (hl : SlP 1 A lv ([txt n].map .str)) (h1 : 1 ≤ n) (h2 : n < X.N) (h3 : X.ar n = 0) (h4 : X.sd n ≠ t) (h5 : X.la t < n) (h6 : X.to n = (X.e t).epoch) (hN : X.N < 300) :
    ∃ B, run (envOf GW fs39) 300 [.code lp39x0] (st39x0 (.ptr x 0 0) (.ptr y 0 0) lv (.int .i64 0)) A = some (.normal (st39x0 (.ptr x 0 0) (.ptr y 0 0) lv (.int .i64 1)) B) ∧
      Ln B x X.e (cont { X with ar := upd X.ar n (X.e t).epoch }) (upd X.la t n) P i q l w ∧ ∀ j, j ∈ P → B[j]? = A[j]? := by
  obtain ⟨r, x1, l1⟩ := strAt hl (i := 0) (by simp)
  have hlen := strLen hl
  have m56 := M56_eq (n := n) (by omega)
  have hE := h.end_ ht
  have a26 := ev26 hE (fun _ _ _ => none)
  have hrow := h.row
  have f6 : evLoad false 1 A (.ptr x 0 6) = some (w 4) := h.ldw (k := 4) (by omega)
  have f3 : evLoad false 1 A (.ptr x 0 3) = some (w 1) := h.ldw (k := 1) (by omega)
  have f5 : evLoad false 1 A (.ptr x 0 5) = some (w 3) := h.ldw (k := 3) (by omega)
  have ly : evLoad false 1 A (.ptr y 0 0) = some (.int .i64 (t : Int)) := by
    simp only [evLoad, hr]; rfl
  obtain ⟨xi, li⟩ := h.idx ht
  obtain ⟨xj, lj⟩ := h.lidx ht
  have hl4 := h.len (k := 4) (by omega)
  rw [cont_len X (by omega) (by omega)] at hl4
  obtain ⟨r2, x2, l2⟩ := h.gsd h2
  obtain ⟨r3, x3, l3⟩ := h.gar h2
  rw [h3] at l3
  obtain ⟨r5, x5, l5⟩ := h.gto h2
  rw [h6] at l5
  obtain ⟨r4, B, x4, st, hB, pB⟩ := h.put (k := 4) (n := n) (v := .int .i64 (X.e t).epoch) (by omega) (by omega) (by rw [cont_len X (by omega) (by omega)]; exact h2) ⟨rfl, rfl⟩
  rw [cont_ar X h2] at hB
  rw [x3] at x4
  injection x4 with x4
  injection x4 with x4
  subst x4
  obtain ⟨C, st2, hC, pC⟩ := hB.last ht n
  have hrB : B[y]? = some (.row 6 false [flA (t, f)]) := (pB y hy).trans hr
  have lyB : evLoad false 1 B (.ptr y 0 0) = some (.int .i64 (t : Int)) := by
    simp only [evLoad, hrB]; rfl
  obtain ⟨xjB, _⟩ := hB.lidx ht
  have hrowB := hB.row
  have b1 : evBin .lss (.int .i64 0) (.int .i64 (([txt n].length : Nat) : Int)) = some (.bool true) := rfl
  have b2 := evLss (n : Int) 1
  rw [decide_eq_false (by omega)] at b2
  have b3 := evGeq (n : Int) (X.N : Int)
  rw [decide_eq_false (by omega)] at b3
  have b4 : evBin .neq (.int .i64 0) (.int .i64 0) = some (.bool false) := rfl
  have b5 := evEql (X.sd n : Int) (t : Int)
  rw [decide_eq_false (by omega)] at b5
  have b6 := evLeq (n : Int) (X.la t : Int)
  rw [decide_eq_false (by omega)] at b6
  have b7 := evNeq (X.e t).epoch (X.e t).epoch
  rw [decide_eq_false (by simp)] at b7
  have b8 : evBin .add (.int .i64 0) (.int .i64 1) = some (.int .i64 1) := rfl
  have l1' : evLoad false 1 A (.ptr r 0 0) = some (.str (txt n)) := l1
  have x1' : evIndexSl 1 A lv (.int .i64 0) = some (.ptr r 0 0) := x1
  have hr' : A[y]? = some (.row 6 false [.agg [.int .i64 (t : Int), .int .i64 f.fr, .int .i64 f.to, .int .i64 f.seq, .int .i64 f.ack, .str f.body]]) := hr
  have hrB' : B[y]? = some (.row 6 false [.agg [.int .i64 (t : Int), .int .i64 f.fr, .int .i64 f.to, .int .i64 f.seq, .int .i64 f.ack, .str f.body]]) := hrB
  have m := pHs M56 (fun _ _ _ => none) A (txt n)
  rw [m56] at m
  obtain ⟨N1, hN1⟩ : ∃ N1, N1 = (([txt n].length : Nat) : Int) := ⟨_, rfl⟩
  rw [← hN1] at b1 hlen
  refine ⟨C, ?_, hC, fun j hj => (pC j hj).trans (pB j hj)⟩
  simp [lp39x0, b1, b2, b3, b4, b5, b6, b7, b8, x1', l1', hlen, m, a26, hrow, hrowB, hr', hrB', f6, f3, f5, ly, lyB, xi, li, xj, lj, xjB, hl4, x2, l2, x3, l3, x5, l5, st, st2, -evBin, -pureH, -evLenSl, -evIndexSl, -evLoad, -evStore]
theorem lostP_none {X : PS} {s : Nat} (h : (X.e s).lost = []) : lostP X s = X := by
  unfold lostP
  rw [lostE_eq h, upd_id, h]
  rfl
/-- what an arriving frame makes of the line, step by step -/
def recv2 (X : PS) (t : Nat) (f : FrS) : PS := { X with e := upd X.e t (receiveS (X.e t) f).1, ar := (receiveS (X.e t) f).2.foldl (fun g b => upd g (numB b) (X.e t).epoch) X.ar, la := (receiveS (X.e t) f).2.foldl (fun g b => upd g t (numB b)) X.la }
theorem recvP_eq {X : PS} {t : Nat} (ht : t < 2) (f : FrS) (ho : (X.e (1 - t)).lost = []) : lostP (lostP (recv2 X t f) 0) 1 = recvP X t f := by
  have e1 : (recv2 X t f).e (1 - t) = X.e (1 - t) := by
    show upd X.e t (receiveS (X.e t) f).1 (1 - t) = X.e (1 - t)
    exact upd_ne _ _ (by omega)
  have e2 : (recv2 X t f).e t = (receiveS (X.e t) f).1 := upd_same _ _ _
  have e3 : lostP (recv2 X t f) t = recvP X t f := by
    unfold lostP
    rw [e2]
    unfold recv2 recvP
    simp only
    congr 1
    funext s
    by_cases c : s = t
    · subst c; rw [upd_same, upd_same]
    · rw [upd_ne _ _ c, upd_ne _ _ c, upd_ne _ _ c]
  rcases (show t = 0 ∨ t = 1 by omega) with rfl | rfl
  · rw [e3]
    refine lostP_none ?_
    show (upd X.e 0 { (receiveS (X.e 0) f).1 with lost := [] } 1).lost = []
    rw [upd_ne _ _ (by omega)]
    exact ho
  · rw [lostP_none (s := 0) (by
      have e4 : (recv2 X 1 f).e 0 = X.e 0 := e1
      rw [e4]; exact ho), e3]
/-- what a delivery meets -/
structure DelOk (X : PS) (t : Nat) (f : FrS) : Prop where
  d : ∀ b ∈ (receiveS (X.e t) f).2, 1 ≤ numB b ∧ numB b < X.N ∧ X.ar (numB b) = 0 ∧ X.sd (numB b) ≠ t ∧ X.la t < numB b ∧ X.to (numB b) = (X.e t).epoch ∧ b = txt (numB b)
  l : LostOk X t (receiveS (X.e t) f).1.lost
  ep : (receiveS (X.e t) f).1.epoch = (X.e t).epoch
  len : (receiveS (X.e t) f).2.length ≤ 1
  o : (X.e (1 - t)).lost = []
  n : (receiveS (X.e t) f).1.lost.length ≤ 250
  a : (X.e t).lost.length ≤ 1000000
  b : (X.e t).queue.length ≤ 100
  c : 0 ≤ (X.e t).received ∧ (X.e t).received ≤ 4611686018427387903
  N : X.N < 300
set_option maxRecDepth 100000 in
set_option maxHeartbeats 4000000 in
theorem loop39 {A : Arena} {x y : Nat} {X : PS} {P : List Nat} {t : Nat} {f : FrS} {E : Nat → EndS} (hE : E = upd X.e t (receiveS (X.e t) f).1) (h : LnP A x { X with e := E } P) (hd : DelOk X t f) (ht : t < 2) (hy : y ∈ P) (hr : A[y]? = some (.row 6 false [flA (t, f)])) {lv : AV} (hl : SlP 1 A lv ((receiveS (X.e t) f).2.map .str)) :
    ∃ B, iter (evC (envOf GW fs39) 300 lp39x0) mask39x0 300 (st39x0 (.ptr x 0 0) (.ptr y 0 0) lv (.int .i64 0)) A = some (.exit 0 ((st39x0 (.ptr x 0 0) (.ptr y 0 0) lv (.int .i64 ((receiveS (X.e t) f).2.length : Int))).set 6 (.bool false)) B) ∧
      LnP B x (recv2 X t f) P ∧ ∀ j, j ∈ P → B[j]? = A[j]? := by
  have eT : E t = (receiveS (X.e t) f).1 := by rw [hE, upd_same]
  obtain ⟨R, hR⟩ : ∃ R, R = receiveS (X.e t) f := ⟨_, rfl⟩
  have h2 : recv2 X t f = { X with e := E, ar := R.2.foldl (fun g b => upd g (numB b) (X.e t).epoch) X.ar, la := R.2.foldl (fun g b => upd g t (numB b)) X.la } := by rw [hE, hR]; rfl
  rw [h2]
  have hd1 := hd.d
  have hd2 := hd.len
  have hd3 := hd.ep
  have hN := hd.N
  rw [← hR] at hl hd1 hd2 hd3 eT ⊢
  obtain ⟨xs, hxs⟩ : ∃ xs, xs = R.2 := ⟨_, rfl⟩
  rw [← hxs] at hl hd1 hd2 ⊢
  match xs, hd2 with
  | [], _ =>
    have hlen : evLenSl lv = some (.int .i64 0) := strLen hl
    have b1 : evBin .lss (.int .i64 0) (.int .i64 0) = some (.bool false) := rfl
    refine ⟨A, ?_, h, fun _ _ => rfl⟩
    rw [iter_succ, cl39x0]
    simp [lp39x0, b1, hlen, -evBin, -evLenSl]
  | [b], _ =>
    obtain ⟨g1, g2, g3, g4, g5, g6, g7⟩ := hd1 b (by simp)
    obtain ⟨i, q, l, w, h⟩ := h
    rw [g7] at hl
    obtain ⟨B, r, hB, pB⟩ := round39 h hy ht hr hl g1 g2 g3 g4 g5 (by
      show X.to (numB b) = (E t).epoch
      rw [eT, hd3]; exact g6) hN
    have hep : ((({ X with e := E } : PS).e t).epoch) = (X.e t).epoch := by
      show (E t).epoch = _
      rw [eT, hd3]
    rw [hep] at hB
    have hlB : SlP 1 A lv ([b].map .str) := by rw [g7]; exact hl
    refine ⟨B, ?_, ⟨i, q, l, w, hB⟩, pB⟩
    rw [iter_succ, cl39x0, r]
    simp only
    rw [iter_succ, cl39x0]
    have hlen := strLen hl
    have ev : evLenSl lv = some (.int .i64 1) := hlen
    have b1 : evBin .lss (.int .i64 1) (.int .i64 1) = some (.bool false) := rfl
    simp [lp39x0, b1, ev, -evBin, -evLenSl]
set_option maxRecDepth 100000 in
set_option maxHeartbeats 4000000 in
theorem ev39 (hd : Handler) {A : Arena} {x : Nat} {X : PS} {P : List Nat} (h : LnP A x X P) {t : Nat} (ht : t < 2) {f : FrS} (hok : DelOk X t f) :
    ∃ B, H39 hd [.ptr x 0 0, flA (t, f)] A = some (pack [], B) ∧ LnP B x (recvP X t f) P ∧ ∀ j, j ∈ P → B[j]? = A[j]? := by
  obtain ⟨i, q, l, w, h⟩ := h
  obtain ⟨A1, hA1⟩ : ∃ A1, A1 = A ++ [Ent.row 6 false [flA (t, f)]] := ⟨_, rfl⟩
  obtain ⟨y, hy⟩ : ∃ y, y = A.length := ⟨_, rfl⟩
  have hF : Fr A A1 [] := by rw [hA1]; exact Fr.app _ _ _
  have hl1 : A1.length = A.length + 1 := by rw [hA1]; simp
  obtain ⟨h1, p1⟩ := h.more hF [y] (fun j hj => by rw [List.mem_singleton] at hj; omega)
  have hry : A1[y]? = some (.row 6 false [flA (t, f)]) := by rw [hA1, hy]; simp
  have hE := h1.end_ ht
  obtain ⟨B, out, v23, qv, lv, gB, slo, no, oo, FB⟩ := ev23 (fun _ _ _ => none) hE hok.a hok.b hok.c f
  obtain ⟨h2, p2⟩ := h1.step ht (out := idsOf out) gB oo FB (fun j hj => ⟨.inr (no j hj).1, slo.low j hj, (no j hj).2⟩)
  have hryB : B[y]? = some (.row 6 false [flA (t, f)]) := (p2 y (by simp)).trans hry
  obtain ⟨C, lp, hC, pC⟩ := loop39 (X := X) (t := t) (f := f) rfl ⟨_, _, _, _, h2⟩ hok ht (y := y) (by simp) hryB slo
  obtain ⟨D, v57, hD, pD⟩ := ev57 (fun _ _ _ => none) hC (by
    rcases (show t = 0 ∨ t = 1 by omega) with rfl | rfl
    · have e : (recv2 X 0 f).e 0 = (receiveS (X.e 0) f).1 := by
        show upd X.e 0 (receiveS (X.e 0) f).1 0 = _
        exact upd_same _ _ _
      rw [e]; exact hok.l
    · have e : (recv2 X 1 f).e 0 = X.e 0 := by
        show upd X.e 1 (receiveS (X.e 1) f).1 0 = X.e 0
        exact upd_ne _ _ (by omega)
      rw [e, show (X.e 0).lost = [] from hok.o]
      exact ⟨fun b hb => by simp at hb, List.nodup_nil⟩) (by
    rcases (show t = 0 ∨ t = 1 by omega) with rfl | rfl
    · have e : (recv2 X 0 f).e 1 = X.e 1 := by
        show upd X.e 0 (receiveS (X.e 0) f).1 1 = X.e 1
        exact upd_ne _ _ (by omega)
      rw [e, show (X.e 1).lost = [] from hok.o]
      exact ⟨fun b hb => by simp at hb, List.nodup_nil⟩
    · have e : (recv2 X 1 f).e 1 = (receiveS (X.e 1) f).1 := by
        show upd X.e 1 (receiveS (X.e 1) f).1 1 = _
        exact upd_same _ _ _
      have e0 : (recv2 X 1 f).e 0 = X.e 0 := by
        show upd X.e 1 (receiveS (X.e 1) f).1 0 = X.e 0
        exact upd_ne _ _ (by omega)
      rw [e, lostP_none (by rw [e0]; exact hok.o)]
      exact hok.l) (by
    rcases (show t = 0 ∨ t = 1 by omega) with rfl | rfl
    · have e : (recv2 X 0 f).e 1 = X.e 1 := by
        show upd X.e 0 (receiveS (X.e 0) f).1 1 = X.e 1
        exact upd_ne _ _ (by omega)
      have e2 : (recv2 X 0 f).e 0 = (receiveS (X.e 0) f).1 := by
        show upd X.e 0 (receiveS (X.e 0) f).1 0 = _
        exact upd_same _ _ _
      rw [e, e2, show (X.e 1).lost = [] from hok.o]
      exact ⟨hok.n, by simp⟩
    · have e : (recv2 X 1 f).e 1 = (receiveS (X.e 1) f).1 := by
        show upd X.e 1 (receiveS (X.e 1) f).1 1 = _
        exact upd_same _ _ _
      have e0 : (recv2 X 1 f).e 0 = X.e 0 := by
        show upd X.e 1 (receiveS (X.e 1) f).1 0 = X.e 0
        exact upd_ne _ _ (by omega)
      rw [e, e0, show (X.e 0).lost = [] from hok.o]
      exact ⟨by simp, hok.n⟩) hok.N
  rw [recvP_eq ht f hok.o] at hD
  have mP : ∀ j, j ∈ P → j ∈ idsOf out ++ ([y] ++ P) := fun j hj => by simp [hj]
  obtain ⟨i', q', l', w', hD⟩ := hD
  refine ⟨D, ?_, ⟨i', q', l', w', hD.less mP⟩, fun j hj => (pD j (mP j hj)).trans ((pC j (mP j hj)).trans ((p2 j (by simp [hj])).trans (p1 j hj)))⟩
  have hrow := h1.row
  obtain ⟨xi, li⟩ := h1.idx ht
  have ly0 : evLoad false 1 A1 (.ptr y 0 0) = some (.int .i64 (t : Int)) := by
    simp only [evLoad, hry]; rfl
  have ly1 : evLoad true 5 A1 (.ptr y 0 1) = some (frA f) := by
    simp only [evLoad, hry]; rfl
  have hry' : A1[y]? = some (.row 6 false [.agg [.int .i64 (t : Int), .int .i64 f.fr, .int .i64 f.to, .int .i64 f.seq, .int .i64 f.ack, .str f.body]]) := hry
  have bx : A ++ [Ent.row 6 false [.agg [.int .i64 (t : Int), .int .i64 f.fr, .int .i64 f.to, .int .i64 f.seq, .int .i64 f.ack, .str f.body]]] = A1 := hA1.symm
  unfold H39
  rw [evFun_run _ _ rfl]
  simp [mf39, flA, evBox, bx, ← hy, hrow, hry', xi, li, ly0, ly1, v23, go39x0 lp, v57, -evBin, -pureH, -evLoad]
end Go.Proofs.Ytfidjdlmmcaplaa
/-
  Link: an end of the line ticks.
-/
namespace Go.Proofs.Ytfidjdlmmcaplaa
open Go

noncomputable def fs40 : List (FuncId × HModel) := [(19, H19), (26, pureH 4 M26), (34, pureH 4 M34), (56, pureH 4 M56)]
@[simp] theorem fs40_19 : lookM fs40 19 = some (H19) := rfl
@[simp] theorem fs40_26 : lookM fs40 26 = some (pureH 4 M26) := rfl
@[simp] theorem fs40_34 : lookM fs40 34 = some (pureH 4 M34) := rfl
@[simp] theorem fs40_56 : lookM fs40 56 = some (pureH 4 M56) := rfl
theorem sound40 : ∀ f M, lookM fs40 f = some M → FnSpecY Try.prog GW f M := lookM_cons spec19 (lookM_cons (FnSpecY.of_pure spec26 4) (lookM_cons (FnSpecY.of_pure spec34 4) (lookM_cons (FnSpecY.of_pure spec56 4) lookM_nil)))
noncomputable def H40 : HModel := fun _ => evFun (envOf GW fs40) 300 mf40
theorem spec40 : FnSpecY Try.prog GW 40 H40 := (evFun_sound (envOf_sound sound40) rfl at40 comp40 (by first | exact PureIn.nil | (repeat (first | exact PureIn.nil | refine PureIn.cons (M := _) rfl ?_)))).y
theorem frCell {A : Arena} {v : AV} {xs : List FrS} (h : SlP 5 A v (xs.map frA)) {i : Nat} (hi : i < xs.length) : ∃ r es, r ∈ idsOf v ∧ A[r]? = some (.row 5 false es) ∧ ∀ B : Arena, B[r]? = A[r]? → evIndexSl 5 B v (.int .i64 (i : Int)) = some (.ptr r i 0) ∧ evLoad true 5 B (.ptr r i 0) = some (frA xs[i]) ∧ evLoad false 1 B (.ptr r i 0) = some (.int .i64 xs[i].fr) ∧ evLoad false 1 B (.ptr r i 1) = some (.int .i64 xs[i].to) ∧ evLoad false 1 B (.ptr r i 2) = some (.int .i64 xs[i].seq) ∧ evLoad false 1 B (.ptr r i 4) = some (.str xs[i].body) := by
  obtain ⟨r, es, h1, h2, h3, h4⟩ := h.index (i := i) (by simpa using hi) (by decide) .i64
  rw [List.getElem_map] at h3
  refine ⟨r, es, by rw [h1]; simp [idsOf], h2, fun B hB => ⟨?_, ?_, ?_, ?_, ?_, ?_⟩⟩
  · rw [← h4, h1]
    simp only [evIndexSl, hB]
  all_goals
    simp only [evLoad, hB, h2, h3]
    rfl
def oneP (X : PS) (s : Nat) (f : FrS) : PS := { X with fl := X.fl ++ [(1 - s, f)], to := if f.seq > 0 then upd X.to (numB f.body) f.to else X.to }
/-- a tick's frame, as the line expects it -/
def TickF (X : PS) (p : Int) (s : Nat) (f : FrS) : Prop := okF f ∧ f.fr = (X.e s).epoch ∧ (f.seq > 0 → f.to = p ∧ ∃ n, f.body = txt n ∧ 1 ≤ n ∧ n < X.N ∧ (X.to n = 0 ∨ X.to n = p))
set_option maxRecDepth 100000 in
set_option maxHeartbeats 8000000 in
theorem round40 {A : Arena} {x : Nat} {X : PS} {P : List Nat} (h : LnP A x X P) {s : Nat} (hs : s < 2) {lv : AV} {xs : List FrS} (hl : SlP 5 A lv (xs.map frA)) (hlP : ∀ j, j ∈ idsOf lv → j ∈ P) {j : Nat} (hj : j < xs.length) (hx : xs.length ≤ 1000) {f : FrS} (hf : xs[j] = f) {p : Int} (ht : TickF X p s f) (hN : X.N < 300) (hfl : X.fl.length ≤ 1000000) :
    ∃ B, run (envOf GW fs40) 300 [.code lp40x0] (st40x0 (.ptr x 0 0) (.int .i64 (s : Int)) lv (.int .i64 (j : Int))) A = some (.normal (st40x0 (.ptr x 0 0) (.int .i64 (s : Int)) lv (.int .i64 ((j + 1 : Nat) : Int))) B) ∧ LnP B x (oneP X s f) P ∧ ∀ j, j ∈ P → B[j]? = A[j]? := by
  obtain ⟨i, q, l, w, h⟩ := h
  obtain ⟨t1, t2, t3⟩ := ht
  obtain ⟨r, es, rP, hr, hc⟩ := frCell hl hj
  obtain ⟨c1, c2, c3, c4, c5, c6⟩ := hc A rfl
  rw [hf] at c2 c3 c4 c5 c6
  have c2' : evLoad true 5 A (.ptr r j 0) = some (.agg [.int .i64 f.fr, .int .i64 f.to, .int .i64 f.seq, .int .i64 f.ack, .str f.body]) := c2
  have hlen := frLen hl
  have hE := h.end_ hs
  have a26 := ev26 hE (fun _ _ _ => none)
  have hrow := h.row
  obtain ⟨xi, li⟩ := h.idx hs
  have m34 : pureH 4 M34 (fun _ _ _ => none) [.agg [.int .i64 f.fr, .int .i64 f.to, .int .i64 f.seq, .int .i64 f.ack, .str f.body]] A = some (.bool true, A) := by
    have := M34_eq f
    unfold frA at this
    rw [pHf, this, decide_eq_true t1]
    rfl
  have b1 := evLss (j : Int) (xs.length : Int)
  rw [decide_eq_true (by omega)] at b1
  have b2 := evNeq f.fr (X.e s).epoch
  rw [decide_eq_false (by simp [t2])] at b2
  have b3 := evGtr f.seq 0
  have b4 := evSub (a := 1) (b := (s : Int)) (by omega)
  rw [show (1 : Int) - (s : Int) = ((1 - s : Nat) : Int) by omega] at b4
  have b5 := evAdd (a := (j : Int)) (b := 1) (by omega)
  rw [show (j : Int) + 1 = ((j + 1 : Nat) : Int) by omega] at b5
  obtain ⟨u, hu⟩ : ∃ u, u = j + 1 := ⟨_, rfl⟩
  rw [← hu] at b5 ⊢
  obtain ⟨t, ht⟩ : ∃ t, t = 1 - s := ⟨_, rfl⟩
  rw [← ht] at b4
  by_cases hq : f.seq > 0
  · rw [decide_eq_true hq] at b3
    obtain ⟨g1, n, g2, g3, g4, g5⟩ := t3 hq
    have m56 := M56_eq (n := n) (by omega)
    have m := pHs M56 (fun _ _ _ => none) A (txt n)
    rw [m56] at m
    rw [g2] at c6
    have f5 : evLoad false 1 A (.ptr x 0 5) = some (w 3) := h.ldw (k := 3) (by omega)
    have hl3 := h.len (k := 3) (by omega)
    rw [cont_len X (by omega) (by omega)] at hl3
    obtain ⟨r2, x2, l2⟩ := h.gto g4
    obtain ⟨r4, B, x4, st, hB, pB⟩ := h.put (k := 3) (n := n) (v := .int .i64 f.to) (by omega) (by omega) (by rw [cont_len X (by omega) (by omega)]; exact g4) ⟨rfl, rfl⟩
    rw [cont_to X g4] at hB
    rw [x2] at x4
    injection x4 with x4
    injection x4 with x4
    subst x4
    obtain ⟨X1, hX1⟩ : ∃ X1 : PS, X1 = { X with to := upd X.to n f.to } := ⟨_, rfl⟩
    rw [← hX1] at hB
    have hX1e : X1.e = X.e := by rw [hX1]
    have hX1f : X1.fl = X.fl := by rw [hX1]
    have hX1l : X1.la = X.la := by rw [hX1]
    rw [← hX1e, ← hX1l] at hB
    obtain ⟨C, D, k1, k2, hD, pD, rC⟩ := hB.push (k := 0) (bytes := 56) (v := flA (t, f)) (by omega) (by omega) (by
      show ((X1.fl.map flA).length + 1) * 56 ≤ _
      rw [hX1f]; simp; omega)
    have hcf : cont X1 0 ++ [flA (t, f)] = (X1.fl ++ [(t, f)]).map flA := by simp [cont]
    rw [hcf] at k1 k2 hD
    rw [cont_fl] at hD
    have hrowB := hB.row
    rw [hrowB] at rC
    have frB : evLoad false 1 B (.ptr x 0 2) = some (w 0) := hB.ldw (k := 0) (by omega)
    obtain ⟨d1, d2, d3, d4, d5, d6⟩ := hc B (pB r (hlP r rP))
    rw [hf] at d2
    have d2' : evLoad true 5 B (.ptr r j 0) = some (.agg [.int .i64 f.fr, .int .i64 f.to, .int .i64 f.seq, .int .i64 f.ack, .str f.body]) := d2
    have hrB : B[r]? = some (.row 5 false es) := (pB r (hlP r rP)).trans hr
    have b6 := evLss (n : Int) 1
    rw [decide_eq_false (by omega)] at b6
    have b7 := evGeq (n : Int) (X.N : Int)
    rw [decide_eq_false (by omega)] at b7
    have k1' : evAppendN 6 56 B (w 0) (.fs 6 [.agg [.int .i64 (t : Int), .int .i64 f.fr, .int .i64 f.to, .int .i64 f.seq, .int .i64 f.ack, .str f.body]]) = some (.sl B.length 0 ((X1.fl ++ [(t, f)]).map flA).length, C) := k1
    have k2' : evStore 1 C (.ptr x 0 2) (.sl B.length 0 ((X1.fl ++ [(t, f)]).map flA).length) = some D := k2
    obtain ⟨L, hL⟩ : ∃ L, L = ((X1.fl ++ [(t, f)]).map flA).length := ⟨_, rfl⟩
    rw [← hL] at k1' k2'
    have hfin : ({ X1 with fl := X1.fl ++ [(t, f)] } : PS) = oneP X s f := by
      rw [hX1, ht]
      unfold oneP
      rw [if_pos hq, g2, numB_txt n (by omega)]
    rw [hfin] at hD
    have e1 : X1.e = (oneP X s f).e := by rw [hX1]; rfl
    have e2 : X1.la = (oneP X s f).la := by rw [hX1]; rfl
    rw [e1, e2] at hD
    refine ⟨D, ?_, ⟨i, q, l, _, hD⟩, fun j hj => (pD j hj).trans (pB j hj)⟩
    rcases g5 with g5 | g5
    · rw [g5] at l2
      have b8 : evBin .neq (.int .i64 0) (.int .i64 0) = some (.bool false) := rfl
      simp [lp40x0, b1, b2, b3, b4, b5, b6, b7, b8, c1, c2', c3, c4, c5, c6, d1, d2', d3, d4, hlen, a26, hrow, xi, li, hr, m34, m, f5, hl3, x2, l2, st, hrowB, frB, hrB, k1', k2', rC, -evBin, -pureH, -evLenSl, -evIndexSl, -evLoad, -evStore]
    · have b8 := evNeq (X.to n) 0
      have b9 := evNeq (X.to n) f.to
      rw [decide_eq_false (by rw [g5, g1]; simp)] at b9
      by_cases h0 : X.to n = 0
      · rw [decide_eq_false (by simp [h0])] at b8
        simp [lp40x0, b1, b2, b3, b4, b5, b6, b7, b8, c1, c2', c3, c4, c5, c6, d1, d2', d3, d4, hlen, a26, hrow, xi, li, hr, m34, m, f5, hl3, x2, l2, st, hrowB, frB, hrB, k1', k2', rC, -evBin, -pureH, -evLenSl, -evIndexSl, -evLoad, -evStore]
      · rw [decide_eq_true h0] at b8
        simp [lp40x0, b1, b2, b3, b4, b5, b6, b7, b8, b9, c1, c2', c3, c4, c5, c6, d1, d2', d3, d4, hlen, a26, hrow, xi, li, hr, m34, m, f5, hl3, x2, l2, st, hrowB, frB, hrB, k1', k2', rC, -evBin, -pureH, -evLenSl, -evIndexSl, -evLoad, -evStore]
  · rw [decide_eq_false hq] at b3
    obtain ⟨C, D, k1, k2, hD, pD, rC⟩ := h.push (k := 0) (bytes := 56) (v := flA (t, f)) (by omega) (by omega) (by
      show ((X.fl.map flA).length + 1) * 56 ≤ _
      simp; omega)
    have hcf : cont X 0 ++ [flA (t, f)] = (X.fl ++ [(t, f)]).map flA := by simp [cont]
    rw [hcf] at k1 k2 hD
    rw [cont_fl] at hD
    rw [hrow] at rC
    have frB : evLoad false 1 A (.ptr x 0 2) = some (w 0) := h.ldw (k := 0) (by omega)
    have k1' : evAppendN 6 56 A (w 0) (.fs 6 [.agg [.int .i64 (t : Int), .int .i64 f.fr, .int .i64 f.to, .int .i64 f.seq, .int .i64 f.ack, .str f.body]]) = some (.sl A.length 0 ((X.fl ++ [(t, f)]).map flA).length, C) := k1
    have k2' : evStore 1 C (.ptr x 0 2) (.sl A.length 0 ((X.fl ++ [(t, f)]).map flA).length) = some D := k2
    obtain ⟨L, hL⟩ : ∃ L, L = ((X.fl ++ [(t, f)]).map flA).length := ⟨_, rfl⟩
    rw [← hL] at k1' k2'
    have hfin : ({ X with fl := X.fl ++ [(t, f)] } : PS) = oneP X s f := by
      rw [ht]
      unfold oneP
      rw [if_neg hq]
    rw [hfin] at hD
    refine ⟨D, ?_, ⟨i, q, l, _, hD⟩, pD⟩
    simp [lp40x0, b1, b2, b3, b4, b5, c1, c2', c3, c4, c5, hlen, a26, hrow, xi, li, hr, m34, frB, k1', k2', rC, -evBin, -pureH, -evLenSl, -evIndexSl, -evLoad, -evStore]
theorem TickF.one {X : PS} {p : Int} {s : Nat} {f g : FrS} (hf : TickF X p s f) (hg : TickF X p s g) : TickF (oneP X s f) p s g := by
  obtain ⟨a1, a2, a3⟩ := hg
  refine ⟨a1, a2, fun hq => ?_⟩
  obtain ⟨b1, n, b2, b3, b4, b5⟩ := a3 hq
  refine ⟨b1, n, b2, b3, b4, ?_⟩
  show (if f.seq > 0 then upd X.to (numB f.body) f.to else X.to) n = 0 ∨ (if f.seq > 0 then upd X.to (numB f.body) f.to else X.to) n = p
  split
  · rename_i h
    by_cases c : n = numB f.body
    · subst c
      rw [upd_same]
      exact .inr (hf.2.2 h).1
    · rw [upd_ne _ _ c]; exact b5
  · exact b5
def allP (X : PS) (s : Nat) (xs : List FrS) : PS := { X with fl := X.fl ++ xs.map (fun f => (1 - s, f)), to := toAll xs X.to }
theorem allP_cons (X : PS) (s : Nat) (f : FrS) (xs : List FrS) : allP (oneP X s f) s xs = allP X s (f :: xs) := by
  unfold allP oneP
  simp only [List.map_cons, List.append_assoc, List.singleton_append, toAll_cons]
theorem loop40 {x : Nat} {P : List Nat} {s : Nat} (hs : s < 2) {lv : AV} {xs : List FrS} (hlP : ∀ j, j ∈ idsOf lv → j ∈ P) (hx : xs.length ≤ 1000) {p : Int} : ∀ (k j m : Nat) (A : Arena) (X : PS), LnP A x X P → SlP 5 A lv (xs.map frA) → j + k = xs.length → k < m → X.N < 300 → X.fl.length + k ≤ 1000000 → (∀ f ∈ xs.drop j, TickF X p s f) →
    ∃ B, iter (evC (envOf GW fs40) 300 lp40x0) mask40x0 m (st40x0 (.ptr x 0 0) (.int .i64 (s : Int)) lv (.int .i64 (j : Int))) A = some (.exit 0 ((st40x0 (.ptr x 0 0) (.int .i64 (s : Int)) lv (.int .i64 (xs.length : Int))).set 5 (.bool false)) B) ∧
      LnP B x (allP X s (xs.drop j)) P ∧ ∀ j, j ∈ P → B[j]? = A[j]?
  | _, _, 0, _, _, _, _, _, h, _, _, _ => by omega
  | 0, j, m + 1, A, X, h, hl, hj, hn, hN, hfl, ht => by
    obtain rfl : j = xs.length := by omega
    have b1 := evLss (xs.length : Int) (xs.length : Int)
    rw [decide_eq_false (by omega)] at b1
    have hlen := frLen hl
    refine ⟨A, ?_, ?_, fun _ _ => rfl⟩
    · rw [iter_succ, cl40x0]
      simp [lp40x0, b1, hlen, -evBin, -evLenSl]
    · rw [List.drop_length]
      have e : allP X s [] = X := by
        unfold allP
        rw [List.map_nil, List.append_nil]
        rfl
      rw [e]; exact h
  | k + 1, j, m + 1, A, X, h, hl, hj, hn, hN, hfl, ht => by
    have hjl : j < xs.length := by omega
    rw [List.drop_eq_getElem_cons hjl] at ht ⊢
    have hf := ht _ (List.mem_cons_self)
    obtain ⟨B, r, hB, pB⟩ := round40 h hs hl hlP hjl hx rfl hf hN (by omega)
    obtain ⟨C, lp, hC, pC⟩ := loop40 hs hlP hx (p := p) k (j + 1) m B (oneP X s xs[j]) hB (hl.keep fun j hj => pB j (hlP j hj)) (by omega) (by omega) hN (by
      show (X.fl ++ [(1 - s, xs[j])]).length + k ≤ _
      simp; omega) (fun g hg => hf.one (ht g (List.mem_cons_of_mem _ hg)))
    rw [allP_cons] at hC
    refine ⟨C, ?_, hC, fun j hj => (pC j hj).trans (pB j hj)⟩
    rw [iter_succ, cl40x0, r]
    exact lp
theorem tick_len (S : EndS) : (tickS S).2.length ≤ 9 := by
  unfold tickS
  have h1 : (tick1 S).2.length ≤ 8 := by
    rw [tick1_eq]
    unfold p1
    split
    · exact outO_len _
    · simp
  split
  · simp; omega
  · omega
set_option maxRecDepth 100000 in
set_option maxHeartbeats 4000000 in
theorem ev40 (hd : Handler) {A : Arena} {x : Nat} {X : PS} {P : List Nat} (h : LnP A x X P) {s : Nat} (hs : s < 2) (hb : Bd (X.e s)) (ht : ∀ f ∈ (tickS (X.e s)).2, TickF X (X.e s).peer s f) (hN : X.N < 300) (hfl : X.fl.length ≤ 100000) :
    ∃ B, H40 hd [.ptr x 0 0, .int .i64 (s : Int)] A = some (pack [], B) ∧ LnP B x (tickP X s) P ∧ ∀ j, j ∈ P → B[j]? = A[j]? := by
  obtain ⟨i, q, l, w, h⟩ := h
  have hE := h.end_ hs
  obtain ⟨B, out, v19, gB, slo, no, FB⟩ := ev19 hE (fun _ _ _ => none) hb
  obtain ⟨h2, p2⟩ := h.step hs (out := idsOf out) gB (fun j hj => .inl hj) FB (fun j hj => ⟨.inr (no j hj), slo.low j hj, fun h2 => by
    have := hE.low j h2
    have := no j hj
    omega⟩)
  have hlen := tick_len (X.e s)
  obtain ⟨C, lp, hC, pC⟩ := loop40 hs (P := idsOf out ++ P) (lv := out) (fun j hj => List.mem_append.2 (.inl hj)) (by omega) (p := (X.e s).peer) (tickS (X.e s)).2.length 0 300 B { X with e := upd X.e s (tickS (X.e s)).1 } ⟨i, _, _, w, h2⟩ slo (by omega) (by omega) hN (by
    show X.fl.length + _ ≤ _
    omega) (fun f hf => by
    obtain ⟨a1, a2, a3⟩ := ht f (by rw [List.drop_zero] at hf; exact hf)
    refine ⟨a1, ?_, a3⟩
    show f.fr = (upd X.e s (tickS (X.e s)).1 s).epoch
    rw [upd_same, (tick_rest (X.e s)).1]
    exact a2)
  rw [List.drop_zero] at hC
  obtain ⟨i', q', l', w', hC⟩ := hC
  have inP : ∀ j, j ∈ P → j ∈ idsOf out ++ P := fun j hj => List.mem_append.2 (.inr hj)
  refine ⟨C, ?_, ⟨i', q', l', w', hC.less inP⟩, fun j hj => (pC j (inP j hj)).trans (p2 j hj)⟩
  have hrow := h.row
  obtain ⟨xi, li⟩ := h.idx hs
  have lp' : iter (evC (envOf GW fs40) 300 lp40x0) mask40x0 300 (st40x0 (.ptr x 0 0) (.int .i64 (s : Int)) out (.int .i64 0)) B = some (.exit 0 ((st40x0 (.ptr x 0 0) (.int .i64 (s : Int)) out (.int .i64 ((tickS (X.e s)).2.length : Int))).set 5 (.bool false)) C) := lp
  unfold H40
  rw [evFun_run _ _ rfl]
  simp [mf40, hrow, xi, li, v19, go40x0 lp', -evBin, -evLoad]
theorem J.tickF {X : PS} {G : Logs} (h : J X G) {s n : Nat} (hs : s < 2) (hw : ∀ t, t < 2 → Wf n (X.e t)) (hn : n ≤ 200) : ∀ f ∈ (tickS (X.e s)).2, TickF X (X.e s).peer s f := by
  intro f hf
  obtain ⟨a1, a2, a3, _⟩ := h.frames hs hw hn hf
  refine ⟨a1, a2, fun hq => ?_⟩
  obtain ⟨b1, _, k, m, b2, b3, b4, b5⟩ := a3 hq
  have := h.gm s hs _ _ m (List.mem_of_getElem? b2)
  exact ⟨b1, m, b4, this.1, this.2.1, b5⟩
end Go.Proofs.Ytfidjdlmmcaplaa
