import Derived.Test.YtfkcoekicjjndaaGreatUB06
import Derived.Test.YtfkcoekicjjndaaGreatChecked
import Derived.KernelRfl
import Derived.Test.YtfkcoekicjjndaaGreatUB03
import Derived.Shelf.Spec.SlicesInsertGrow
import Derived.Lib.AppendZerosOnto
import Derived.Shelf.RegionOpenPlain
set_option maxRecDepth 100000
set_option maxHeartbeats 4000000
noncomputable section
namespace Go.Proofs.YtfkcoekicjjndaaGreat
open Go
def ml:MC:=.seq (.seq (.region [⟨none,.mv (.var 11),none⟩,⟨none,.mv (.var 10),none⟩,⟨none,.lenSl (.tmp 1),none⟩,⟨none,.bin .lss (.tmp 0) (.tmp 2),none⟩,⟨none,.mv (.tmp 3),none⟩,⟨none,.mv (.var 9),some (.tmp 4,true)⟩,⟨none,.bin .eql (.tmp 5) (.cst (.int .i64 0)),some (.tmp 4,true)⟩,⟨none,.pick (.tmp 4) (.tmp 6) (.cst (.bool false)),none⟩,⟨none,.mv (.tmp 7),none⟩,⟨none,.fieldAddr 0 (.var 8),some (.tmp 8,true)⟩,⟨none,.load false 1 (.tmp 9),some (.tmp 8,true)⟩,⟨none,.bin .gtr (.tmp 10) (.cst (.int .i64 1)),some (.tmp 8,true)⟩,⟨some 30,.pick (.tmp 8) (.tmp 11) (.cst (.bool false)),none⟩]) (.cond (.var 30) .skip (.exit 0))) (.seq (.seq (.block 1 (.seq (.region [⟨none,.load true 5 (.var 6),none⟩,⟨none,.mv (.var 10),none⟩,⟨none,.mv (.var 11),none⟩,⟨none,.indexSl 1 (.tmp 1) (.tmp 2),none⟩,⟨none,.load false 1 (.tmp 3),none⟩,⟨none,.call (.fn 16) [.tmp 0,.tmp 4],none⟩,⟨none,.mv (.tmp 5),none⟩,⟨none,.extract (.tmp 6) 0,none⟩,⟨none,.extract (.tmp 6) 1,none⟩,⟨some 12,.mv (.tmp 7),none⟩,⟨some 13,.mv (.tmp 8),none⟩]) (.seq (.region [⟨none,.mv (.var 7),none⟩,⟨none,.bin .add (.tmp 0) (.cst (.int .i64 1)),none⟩,⟨none,.mv (.var 12),none⟩,⟨none,.fieldAddr 0 (.var 8),none⟩,⟨none,.load false 1 (.tmp 3),none⟩,⟨none,.bin .sub (.tmp 4) (.cst (.int .i64 1)),none⟩,⟨none,.call (.fn 17) [.tmp 1,.tmp 2,.tmp 5],none⟩,⟨none,.mv (.tmp 6),none⟩,⟨none,.extract (.tmp 7) 0,none⟩,⟨none,.extract (.tmp 7) 1,none⟩,⟨none,.extract (.tmp 7) 2,none⟩,⟨none,.mv (.tmp 8),none⟩,⟨some 14,.mv (.tmp 9),none⟩,⟨some 15,.mv (.tmp 10),none⟩]) (.seq (.region [⟨none,.mv (.var 13),none⟩,⟨none,.bin .neq (.tmp 0) (.cst (.int .i64 0)),none⟩,⟨none,.mv (.tmp 1),none⟩,⟨none,.mv (.var 15),some (.tmp 2,false)⟩,⟨none,.pick (.tmp 2) (.cst (.bool true)) (.tmp 3),none⟩,⟨none,.mv (.tmp 4),none⟩,⟨none,.mv (.var 7),some (.tmp 5,false)⟩,⟨none,.bin .add (.tmp 6) (.cst (.int .i64 1)),some (.tmp 5,false)⟩,⟨none,.mv (.var 12),some (.tmp 5,false)⟩,⟨none,.fieldAddr 0 (.var 8),some (.tmp 5,false)⟩,⟨none,.load false 1 (.tmp 9),some (.tmp 5,false)⟩,⟨none,.bin .sub (.tmp 10) (.cst (.int .i64 1)),some (.tmp 5,false)⟩,⟨none,.mv (.var 14),some (.tmp 5,false)⟩,⟨none,.call (.fn 18) [.tmp 7,.tmp 8,.tmp 11,.tmp 12],some (.tmp 5,false)⟩,⟨none,.un .not (.tmp 13),some (.tmp 5,false)⟩,⟨some 31,.pick (.tmp 5) (.cst (.bool true)) (.tmp 14),none⟩]) (.cond (.var 31) (.seq (.region [⟨some 4,.mv (.cst (.bool false)),none⟩]) .ret) .skip))))) (.kill [0,1,3,4,12,13,14,15,16,17,18,19,20,21,22,23,24,25,26,27,28,29,30,31,32,33,34,35,36,37,38,39])) (.region [⟨none,.mv (.var 11),none⟩,⟨none,.bin .add (.tmp 0) (.cst (.int .i64 1)),none⟩,⟨some 11,.mv (.tmp 1),none⟩]))
def oG:MC:=.seq (.seq (.region [⟨none,.mv (.var 22),none⟩,⟨none,.mv (.var 7),none⟩,⟨some 34,.bin .lss (.tmp 0) (.tmp 1),none⟩]) (.cond (.var 34) .skip (.exit 2))) (.seq (.seq (.block 3 (.region [⟨none,.mv (.var 21),none⟩,⟨none,.mv (.var 22),none⟩,⟨none,.indexSl 1 (.tmp 0) (.tmp 1),none⟩,⟨none,.store 1 (.tmp 2) (.cst (.int .i64 (-1))),none⟩])) (.kill [0,1,3,4,9,10,11,12,13,14,15,16,17,19,23,24,25,26,27,28,29,30,31,32,33,34,35,36,37,38,39])) (.region [⟨none,.mv (.var 22),none⟩,⟨none,.bin .add (.tmp 0) (.cst (.int .i64 1)),none⟩,⟨some 22,.mv (.tmp 1),none⟩]))
def q5:MC:=.seq (.seq (.region [⟨none,.mv (.var 24),none⟩,⟨none,.mv (.var 7),none⟩,⟨some 36,.bin .leq (.tmp 0) (.tmp 1),none⟩]) (.cond (.var 36) .skip (.exit 6))) (.seq (.seq (.block 7 (.region [⟨none,.mv (.var 18),none⟩,⟨none,.mv (.var 20),none⟩,⟨none,.mv (.var 24),none⟩,⟨none,.indexSl 2 (.tmp 1) (.tmp 2),none⟩,⟨none,.fieldAddr 0 (.tmp 3),none⟩,⟨none,.load false 1 (.tmp 4),none⟩,⟨none,.mv (.var 20),none⟩,⟨none,.mv (.var 24),none⟩,⟨none,.indexSl 2 (.tmp 6) (.tmp 7),none⟩,⟨none,.fieldAddr 1 (.tmp 8),none⟩,⟨none,.load false 1 (.tmp 9),none⟩,⟨none,.mv (.var 23),none⟩,⟨none,.fieldAddr 0 (.var 8),none⟩,⟨none,.load false 1 (.tmp 12),none⟩,⟨none,.bin .mul (.tmp 11) (.tmp 13),none⟩,⟨none,.bin .add (.tmp 10) (.tmp 14),none⟩,⟨none,.build [.int .i64 0,.int .i64 0] [(0,(1,.tmp 5)),(1,(1,.tmp 15))],none⟩,⟨none,.buildF 2 [.tmp 16],none⟩,⟨none,.append 2 16 (.tmp 0) (.tmp 17),none⟩,⟨some 18,.mv (.tmp 18),none⟩])) (.kill [0,1,3,4,9,10,11,12,13,14,15,16,17,19,22,25,26,27,28,29,30,31,32,33,34,35,36,37,38,39])) (.region [⟨none,.mv (.var 24),none⟩,⟨none,.bin .add (.tmp 0) (.cst (.int .i64 1)),none⟩,⟨some 24,.mv (.tmp 1),none⟩]))
def oD:MC:=.seq (.seq (.region [⟨none,.mv (.var 23),none⟩,⟨none,.mv (.var 2),none⟩,⟨none,.call (.fn 21) [.tmp 1,.cst (.int .i64 5)],none⟩,⟨some 35,.bin .leq (.tmp 0) (.tmp 2),none⟩]) (.cond (.var 35) .skip (.exit 4))) (.seq (.seq (.block 5 (.seq (.region [⟨some 24,.mv (.cst (.int .i64 0)),none⟩]) (.seq (.block 6 (.loop [0,1,3,4,9,10,11,12,13,14,15,16,17,19,22,25,26,27,28,29,30,31,32,33,34,35,36,37,38,39] q5)) (.kill [0,1,3,4,9,10,11,12,13,14,15,16,17,19,22,24,25,26,27,28,29,30,31,32,33,34,35,36,37,38,39])))) (.kill [0,1,3,4,9,10,11,12,13,14,15,16,17,19,22,24,25,26,27,28,29,30,31,32,33,34,35,36,37,38,39])) (.region [⟨none,.mv (.var 23),none⟩,⟨none,.bin .add (.tmp 0) (.cst (.int .i64 1)),none⟩,⟨some 23,.mv (.tmp 1),none⟩]))
def mj:MC:=.seq (.seq (.region [⟨none,.mv (.var 28),none⟩,⟨none,.mv (.var 18),none⟩,⟨none,.lenSl (.tmp 1),none⟩,⟨some 37,.bin .lss (.tmp 0) (.tmp 2),none⟩]) (.cond (.var 37) .skip (.exit 8))) (.seq (.seq (.block 9 (.seq (.seq (.region [⟨none,.mv (.var 18),none⟩,⟨none,.mv (.var 28),none⟩,⟨none,.indexSl 2 (.tmp 0) (.tmp 1),none⟩,⟨none,.fieldAddr 0 (.tmp 2),none⟩,⟨none,.load false 1 (.tmp 3),none⟩,⟨none,.mv (.var 7),none⟩,⟨some 38,.bin .neq (.tmp 4) (.tmp 5),none⟩]) (.cond (.var 38) (.exit 9) .skip)) (.seq (.seq (.region [⟨none,.mv (.var 26),none⟩,⟨none,.bin .geq (.tmp 0) (.cst (.int .i64 0)),none⟩,⟨none,.mv (.tmp 1),none⟩,⟨none,.mv (.var 18),some (.tmp 2,true)⟩,⟨none,.mv (.var 28),some (.tmp 2,true)⟩,⟨none,.indexSl 2 (.tmp 3) (.tmp 4),some (.tmp 2,true)⟩,⟨none,.fieldAddr 1 (.tmp 5),some (.tmp 2,true)⟩,⟨none,.load false 1 (.tmp 6),some (.tmp 2,true)⟩,⟨none,.mv (.var 26),some (.tmp 2,true)⟩,⟨none,.bin .sub (.tmp 7) (.tmp 8),some (.tmp 2,true)⟩,⟨none,.fieldAddr 0 (.var 8),some (.tmp 2,true)⟩,⟨none,.load false 1 (.tmp 10),some (.tmp 2,true)⟩,⟨none,.bin .neq (.tmp 9) (.tmp 11),some (.tmp 2,true)⟩,⟨some 39,.pick (.tmp 2) (.tmp 12) (.cst (.bool false)),none⟩]) (.cond (.var 39) (.seq (.region [⟨some 4,.mv (.cst (.bool false)),none⟩]) .ret) .skip)) (.seq (.region [⟨none,.mv (.var 18),none⟩,⟨none,.mv (.var 28),none⟩,⟨none,.indexSl 2 (.tmp 0) (.tmp 1),none⟩,⟨none,.fieldAddr 1 (.tmp 2),none⟩,⟨none,.load false 1 (.tmp 3),none⟩,⟨some 26,.mv (.tmp 4),none⟩]) (.region [⟨none,.mv (.var 27),none⟩,⟨none,.bin .add (.tmp 0) (.cst (.int .i64 1)),none⟩,⟨some 27,.mv (.tmp 1),none⟩]))))) (.kill [0,1,3,4,6,9,10,11,12,13,14,15,16,17,19,20,21,22,23,24,29,30,31,32,33,34,35,36,37,38,39])) (.region [⟨none,.mv (.var 28),none⟩,⟨none,.bin .add (.tmp 0) (.cst (.int .i64 1)),none⟩,⟨some 28,.mv (.tmp 1),none⟩]))
def mf4:bC:=⟨3,40,.seq (.region [⟨some 3,.box (.var 1),none⟩,⟨some 4,.mv (.cst (.bool false)),none⟩]) (.seq (.region [⟨none,.call (.fn 6) [],none⟩,⟨some 5,.mv (.tmp 0),none⟩]) (.seq (.region [⟨none,.mv (.var 0),none⟩,⟨none,.load true 3 (.var 3),none⟩,⟨none,.call (.fn 13) [.tmp 0,.tmp 1],none⟩,⟨some 6,.alloc 5 (.agg [.nilS,.int .i64 0,.int .i64 0,.int .i64 0,.int .i64 0]),none⟩,⟨none,.store 5 (.var 6) (.tmp 2),none⟩]) (.seq (.region [⟨none,.fieldAddr 0 (.var 6),none⟩,⟨none,.load false 1 (.tmp 0),none⟩,⟨none,.lenSl (.tmp 1),none⟩,⟨some 7,.mv (.tmp 2),none⟩]) (.seq (.region [⟨none,.load true 5 (.var 6),none⟩,⟨none,.call (.fn 14) [.tmp 0],none⟩,⟨none,.mv (.tmp 1),none⟩,⟨none,.extract (.tmp 2) 0,none⟩,⟨none,.extract (.tmp 2) 1,none⟩,⟨some 8,.alloc 4 (.agg [.int .i64 0,.nilS,.nilS,.nilS]),none⟩,⟨none,.store 4 (.var 8) (.tmp 3),none⟩,⟨some 9,.mv (.tmp 4),none⟩]) (.seq (.region [⟨none,.load true 5 (.var 6),none⟩,⟨none,.call (.fn 15) [.tmp 0],none⟩,⟨some 10,.mv (.tmp 1),none⟩]) (.seq (.seq (.region [⟨none,.mv (.var 10),none⟩,⟨none,.lenSl (.tmp 0),none⟩,⟨some 29,.bin .eql (.tmp 1) (.cst (.int .i64 0)),none⟩]) (.cond (.var 29) (.seq (.region [⟨some 4,.mv (.cst (.bool false)),none⟩]) .ret) .skip)) (.seq (.seq (.region [⟨some 11,.mv (.cst (.int .i64 0)),none⟩]) (.seq (.block 0 (.loop [0,1,3,4,12,13,14,15,16,17,18,19,20,21,22,23,24,25,26,27,28,29,30,31,32,33,34,35,36,37,38,39] ml)) (.kill [0,1,3,4,10,11,12,13,14,15,16,17,18,19,20,21,22,23,24,25,26,27,28,29,30,31,32,33,34,35,36,37,38,39]))) (.seq (.seq (.region [⟨none,.mv (.var 9),none⟩,⟨some 32,.bin .neq (.tmp 0) (.cst (.int .i64 0)),none⟩]) (.cond (.var 32) (.seq (.region [⟨none,.mv (.var 5),none⟩,⟨none,.mv (.tmp 0),none⟩,⟨none,.mv (.var 9),some (.tmp 1,true)⟩,⟨none,.bin .eql (.tmp 2) (.cst (.int .i64 130)),some (.tmp 1,true)⟩,⟨none,.pick (.tmp 1) (.tmp 3) (.cst (.bool false)),none⟩,⟨some 4,.mv (.tmp 4),none⟩]) .ret) .skip)) (.seq (.region [⟨none,.load true 5 (.var 6),none⟩,⟨none,.fieldAddr 1 (.var 8),none⟩,⟨none,.load false 1 (.tmp 1),none⟩,⟨none,.call (.fn 16) [.tmp 0,.tmp 2],none⟩,⟨none,.mv (.tmp 3),none⟩,⟨none,.extract (.tmp 4) 0,none⟩,⟨none,.extract (.tmp 4) 1,none⟩,⟨some 16,.mv (.tmp 5),none⟩,⟨some 17,.mv (.tmp 6),none⟩]) (.seq (.region [⟨none,.load true 5 (.var 6),none⟩,⟨none,.load true 4 (.var 8),none⟩,⟨none,.call (.fn 19) [.tmp 0,.tmp 1,.cst (.int .i64 0)],none⟩,⟨none,.mv (.tmp 2),none⟩,⟨none,.extract (.tmp 3) 0,none⟩,⟨none,.extract (.tmp 3) 1,none⟩,⟨some 18,.mv (.tmp 4),none⟩,⟨some 19,.mv (.tmp 5),none⟩]) (.seq (.seq (.region [⟨none,.mv (.var 17),none⟩,⟨none,.bin .neq (.tmp 0) (.cst (.int .i64 0)),none⟩,⟨none,.mv (.tmp 1),none⟩,⟨none,.mv (.var 19),some (.tmp 2,false)⟩,⟨none,.bin .neq (.tmp 3) (.cst (.int .i64 0)),some (.tmp 2,false)⟩,⟨none,.pick (.tmp 2) (.cst (.bool true)) (.tmp 4),none⟩,⟨none,.mv (.tmp 5),none⟩,⟨none,.mv (.var 7),some (.tmp 6,false)⟩,⟨none,.bin .add (.tmp 7) (.cst (.int .i64 1)),some (.tmp 6,false)⟩,⟨none,.mv (.var 16),some (.tmp 6,false)⟩,⟨none,.fieldAddr 0 (.var 8),some (.tmp 6,false)⟩,⟨none,.load false 1 (.tmp 10),some (.tmp 6,false)⟩,⟨none,.fieldAddr 2 (.var 8),some (.tmp 6,false)⟩,⟨none,.load false 1 (.tmp 12),some (.tmp 6,false)⟩,⟨none,.call (.fn 20) [.tmp 8,.tmp 9,.tmp 11,.tmp 13],some (.tmp 6,false)⟩,⟨none,.un .not (.tmp 14),some (.tmp 6,false)⟩,⟨none,.pick (.tmp 6) (.cst (.bool true)) (.tmp 15),none⟩,⟨none,.mv (.tmp 16),none⟩,⟨none,.mv (.var 18),some (.tmp 17,false)⟩,⟨none,.lenSl (.tmp 18),some (.tmp 17,false)⟩,⟨none,.mv (.var 7),some (.tmp 17,false)⟩,⟨none,.bin .leq (.tmp 19) (.tmp 20),some (.tmp 17,false)⟩,⟨some 33,.pick (.tmp 17) (.cst (.bool true)) (.tmp 21),none⟩]) (.cond (.var 33) (.seq (.region [⟨some 4,.mv (.cst (.bool false)),none⟩]) .ret) .skip)) (.seq (.region [⟨none,.buildSlice 2 [],none⟩,⟨none,.mv (.var 18),none⟩,⟨none,.mv (.var 18),none⟩,⟨none,.lenSl (.tmp 2),none⟩,⟨none,.mv (.var 7),none⟩,⟨none,.bin .sub (.tmp 3) (.tmp 4),none⟩,⟨none,.bin .sub (.tmp 5) (.cst (.int .i64 1)),none⟩,⟨none,.sliceSl 2 (.tmp 1) (some (.tmp 6)) none,none⟩,⟨none,.append 2 16 (.tmp 0) (.tmp 7),none⟩,⟨some 20,.mv (.tmp 8),none⟩]) (.seq (.region [⟨none,.mv (.var 7),none⟩,⟨none,.makeSlice 1 8 (.int .i64 0) (.tmp 0) (.tmp 0),none⟩,⟨some 21,.mv (.tmp 1),none⟩]) (.seq (.seq (.region [⟨some 22,.mv (.cst (.int .i64 0)),none⟩]) (.seq (.block 2 (.loop [0,1,3,4,9,10,11,12,13,14,15,16,17,19,23,24,25,26,27,28,29,30,31,32,33,34,35,36,37,38,39] oG)) (.kill [0,1,3,4,9,10,11,12,13,14,15,16,17,19,22,23,24,25,26,27,28,29,30,31,32,33,34,35,36,37,38,39]))) (.seq (.seq (.region [⟨some 23,.mv (.cst (.int .i64 1)),none⟩]) (.seq (.block 4 (.loop [0,1,3,4,9,10,11,12,13,14,15,16,17,19,22,24,25,26,27,28,29,30,31,32,33,34,35,36,37,38,39] oD)) (.kill [0,1,3,4,9,10,11,12,13,14,15,16,17,19,20,22,23,24,25,26,27,28,29,30,31,32,33,34,35,36,37,38,39]))) (.seq (.region [⟨none,.load true 5 (.var 6),none⟩,⟨none,.mv (.var 21),none⟩,⟨none,.mv (.var 18),none⟩,⟨none,.call (.fn 22) [.tmp 0,.tmp 1,.cst (.int .i64 0),.tmp 2],none⟩,⟨none,.mv (.tmp 3),none⟩,⟨none,.extract (.tmp 4) 0,none⟩,⟨none,.extract (.tmp 4) 1,none⟩,⟨none,.mv (.tmp 5),none⟩,⟨some 25,.mv (.tmp 6),none⟩]) (.seq (.region [⟨some 26,.mv (.cst (.int .i64 (-1))),none⟩]) (.seq (.region [⟨some 27,.mv (.cst (.int .i64 0)),none⟩]) (.seq (.seq (.region [⟨some 28,.mv (.cst (.int .i64 0)),none⟩]) (.seq (.block 8 (.loop [0,1,3,4,6,9,10,11,12,13,14,15,16,17,19,20,21,22,23,24,29,30,31,32,33,34,35,36,37,38,39] mj)) (.kill [0,1,3,4,6,7,8,9,10,11,12,13,14,15,16,17,18,19,20,21,22,23,24,26,28,29,30,31,32,33,34,35,36,37,38,39]))) (.seq (.region [⟨none,.mv (.var 5),none⟩,⟨none,.mv (.tmp 0),none⟩,⟨none,.mv (.var 25),some (.tmp 1,true)⟩,⟨none,.pick (.tmp 1) (.tmp 2) (.cst (.bool false)),none⟩,⟨none,.mv (.tmp 3),none⟩,⟨none,.mv (.var 27),some (.tmp 4,true)⟩,⟨none,.mv (.var 2),some (.tmp 4,true)⟩,⟨none,.call (.fn 21) [.tmp 6,.cst (.int .i64 5)],some (.tmp 4,true)⟩,⟨none,.bin .add (.cst (.int .i64 1)) (.tmp 7),some (.tmp 4,true)⟩,⟨none,.bin .eql (.tmp 5) (.tmp 8),some (.tmp 4,true)⟩,⟨none,.pick (.tmp 4) (.tmp 9) (.cst (.bool false)),none⟩,⟨some 4,.mv (.tmp 10),none⟩]) .ret)))))))))))))))))))),[.tmp 4]⟩
def mi:List Nat:=[0,1,3,4,9,10,11,12,13,14,15,16,17,19,22,25,26,27,28,29,30,31,32,33,34,35,36,37,38,39]
abbrev zU (v2 v5 v6 v7 v8 v18 v20 v21 v23 v24:AV):List AV:=[.undef,.undef,v2,.undef,.undef,v5,v6,v7,v8,.undef,.undef,.undef,.undef,.undef,.undef,.undef,.undef,.undef,v18,.undef,v20,v21,.undef,v23,v24,.undef,.undef,.undef,.undef,.undef,.undef,.undef,.undef,.undef,.undef,.undef,.undef,.undef,.undef,.undef]
theorem Dh {d0 d1 v2 d3 d4 v5 v6 v7 v8 d9 d10 d11 d12 d13 d14 d15 d16 d17 v18 d19 v20 v21 d22 v23 v24 d25 d26 d27 d28 d29 d30 d31 d32 d33 d34 d35 d36 d37 d38 d39:AV}:clear mi [d0,d1,v2,d3,d4,v5,v6,v7,v8,d9,d10,d11,d12,d13,d14,d15,d16,d17,v18,d19,v20,v21,d22,v23,v24,d25,d26,d27,d28,d29,d30,d31,d32,d33,d34,d35,d36,d37,d38,d39]=zU v2 v5 v6 v7 v8 v18 v20 v21 v23 v24:=by simp only [mi,clear,List.foldl_cons,List.foldl_nil,List.set_cons_zero,List.set_cons_succ]
theorem IT {E:Env} {fuel:Nat} {A:ac} {o:Out} {k:List KC} {d0 d1 v2 d3 d4 v5 v6 v7 v8 d9 d10 d11 d12 d13 d14 d15 d16 d17 v18 d19 v20 v21 d22 v23 v24 d25 d26 d27 d28 d29 d30 d31 d32 d33 d34 d35 d36 d37 d38 d39:AV} (h:bM (evC E fuel q5) mi fuel (zU v2 v5 v6 v7 v8 v18 v20 v21 v23 v24) A=some o) :
  run E fuel (.code (.loop [0,1,3,4,9,10,11,12,13,14,15,16,17,19,22,25,26,27,28,29,30,31,32,33,34,35,36,37,38,39] q5) :: k) [d0,d1,v2,d3,d4,v5,v6,v7,v8,d9,d10,d11,d12,d13,d14,d15,d16,d17,v18,d19,v20,v21,d22,v23,v24,d25,d26,d27,d28,d29,d30,d31,d32,d33,d34,d35,d36,d37,d38,d39] A=after E fuel k o:=aU mi _ _ (by rw [Dh]; exact h)
def jO:List Nat:=[0,1,3,4,12,13,14,15,16,17,18,19,20,21,22,23,24,25,26,27,28,29,30,31,32,33,34,35,36,37,38,39]
abbrev oo (v2 v5 v6 v7 v8 v9 v10 v11:AV):List AV:=[.undef,.undef,v2,.undef,.undef,v5,v6,v7,v8,v9,v10,v11,.undef,.undef,.undef,.undef,.undef,.undef,.undef,.undef,.undef,.undef,.undef,.undef,.undef,.undef,.undef,.undef,.undef,.undef,.undef,.undef,.undef,.undef,.undef,.undef,.undef,.undef,.undef,.undef]
theorem Dj {d0 d1 v2 d3 d4 v5 v6 v7 v8 v9 v10 v11 d12 d13 d14 d15 d16 d17 d18 d19 d20 d21 d22 d23 d24 d25 d26 d27 d28 d29 d30 d31 d32 d33 d34 d35 d36 d37 d38 d39:AV}:clear jO [d0,d1,v2,d3,d4,v5,v6,v7,v8,v9,v10,v11,d12,d13,d14,d15,d16,d17,d18,d19,d20,d21,d22,d23,d24,d25,d26,d27,d28,d29,d30,d31,d32,d33,d34,d35,d36,d37,d38,d39]=oo v2 v5 v6 v7 v8 v9 v10 v11:=by simp only [jO,clear,List.foldl_cons,List.foldl_nil,List.set_cons_zero,List.set_cons_succ]
theorem IV {E:Env} {fuel:Nat} {A:ac} {o:Out} {k:List KC} {d0 d1 v2 d3 d4 v5 v6 v7 v8 v9 v10 v11 d12 d13 d14 d15 d16 d17 d18 d19 d20 d21 d22 d23 d24 d25 d26 d27 d28 d29 d30 d31 d32 d33 d34 d35 d36 d37 d38 d39:AV} (h:bM (evC E fuel ml) jO fuel (oo v2 v5 v6 v7 v8 v9 v10 v11) A=some o) :
  run E fuel (.code (.loop [0,1,3,4,12,13,14,15,16,17,18,19,20,21,22,23,24,25,26,27,28,29,30,31,32,33,34,35,36,37,38,39] ml) :: k) [d0,d1,v2,d3,d4,v5,v6,v7,v8,v9,v10,v11,d12,d13,d14,d15,d16,d17,d18,d19,d20,d21,d22,d23,d24,d25,d26,d27,d28,d29,d30,d31,d32,d33,d34,d35,d36,d37,d38,d39] A=after E fuel k o:=aU jO _ _ (by rw [Dj]; exact h)
def jN:List Nat:=[0,1,3,4,9,10,11,12,13,14,15,16,17,19,23,24,25,26,27,28,29,30,31,32,33,34,35,36,37,38,39]
abbrev ph (v2 v5 v6 v7 v8 v18 v20 v21 v22:AV):List AV:=[.undef,.undef,v2,.undef,.undef,v5,v6,v7,v8,.undef,.undef,.undef,.undef,.undef,.undef,.undef,.undef,.undef,v18,.undef,v20,v21,v22,.undef,.undef,.undef,.undef,.undef,.undef,.undef,.undef,.undef,.undef,.undef,.undef,.undef,.undef,.undef,.undef,.undef]
theorem Di {d0 d1 v2 d3 d4 v5 v6 v7 v8 d9 d10 d11 d12 d13 d14 d15 d16 d17 v18 d19 v20 v21 v22 d23 d24 d25 d26 d27 d28 d29 d30 d31 d32 d33 d34 d35 d36 d37 d38 d39:AV}:clear jN [d0,d1,v2,d3,d4,v5,v6,v7,v8,d9,d10,d11,d12,d13,d14,d15,d16,d17,v18,d19,v20,v21,v22,d23,d24,d25,d26,d27,d28,d29,d30,d31,d32,d33,d34,d35,d36,d37,d38,d39]=ph v2 v5 v6 v7 v8 v18 v20 v21 v22:=by simp only [jN,clear,List.foldl_cons,List.foldl_nil,List.set_cons_zero,List.set_cons_succ]
theorem IU {E:Env} {fuel:Nat} {A:ac} {o:Out} {k:List KC} {d0 d1 v2 d3 d4 v5 v6 v7 v8 d9 d10 d11 d12 d13 d14 d15 d16 d17 v18 d19 v20 v21 v22 d23 d24 d25 d26 d27 d28 d29 d30 d31 d32 d33 d34 d35 d36 d37 d38 d39:AV} (h:bM (evC E fuel oG) jN fuel (ph v2 v5 v6 v7 v8 v18 v20 v21 v22) A=some o) :
  run E fuel (.code (.loop [0,1,3,4,9,10,11,12,13,14,15,16,17,19,23,24,25,26,27,28,29,30,31,32,33,34,35,36,37,38,39] oG) :: k) [d0,d1,v2,d3,d4,v5,v6,v7,v8,d9,d10,d11,d12,d13,d14,d15,d16,d17,v18,d19,v20,v21,v22,d23,d24,d25,d26,d27,d28,d29,d30,d31,d32,d33,d34,d35,d36,d37,d38,d39] A=after E fuel k o:=aU jN _ _ (by rw [Di]; exact h)
def jM:List Nat:=[0,1,3,4,9,10,11,12,13,14,15,16,17,19,22,24,25,26,27,28,29,30,31,32,33,34,35,36,37,38,39]
abbrev qF (v2 v5 v6 v7 v8 v18 v20 v21 v23:AV):List AV:=[.undef,.undef,v2,.undef,.undef,v5,v6,v7,v8,.undef,.undef,.undef,.undef,.undef,.undef,.undef,.undef,.undef,v18,.undef,v20,v21,.undef,v23,.undef,.undef,.undef,.undef,.undef,.undef,.undef,.undef,.undef,.undef,.undef,.undef,.undef,.undef,.undef,.undef]
theorem Dg {d0 d1 v2 d3 d4 v5 v6 v7 v8 d9 d10 d11 d12 d13 d14 d15 d16 d17 v18 d19 v20 v21 d22 v23 d24 d25 d26 d27 d28 d29 d30 d31 d32 d33 d34 d35 d36 d37 d38 d39:AV}:clear jM [d0,d1,v2,d3,d4,v5,v6,v7,v8,d9,d10,d11,d12,d13,d14,d15,d16,d17,v18,d19,v20,v21,d22,v23,d24,d25,d26,d27,d28,d29,d30,d31,d32,d33,d34,d35,d36,d37,d38,d39]=qF v2 v5 v6 v7 v8 v18 v20 v21 v23:=by simp only [jM,clear,List.foldl_cons,List.foldl_nil,List.set_cons_zero,List.set_cons_succ]
theorem IS {E:Env} {fuel:Nat} {A:ac} {o:Out} {k:List KC} {d0 d1 v2 d3 d4 v5 v6 v7 v8 d9 d10 d11 d12 d13 d14 d15 d16 d17 v18 d19 v20 v21 d22 v23 d24 d25 d26 d27 d28 d29 d30 d31 d32 d33 d34 d35 d36 d37 d38 d39:AV} (h:bM (evC E fuel oD) jM fuel (qF v2 v5 v6 v7 v8 v18 v20 v21 v23) A=some o) :
  run E fuel (.code (.loop [0,1,3,4,9,10,11,12,13,14,15,16,17,19,22,24,25,26,27,28,29,30,31,32,33,34,35,36,37,38,39] oD) :: k) [d0,d1,v2,d3,d4,v5,v6,v7,v8,d9,d10,d11,d12,d13,d14,d15,d16,d17,v18,d19,v20,v21,d22,v23,d24,d25,d26,d27,d28,d29,d30,d31,d32,d33,d34,d35,d36,d37,d38,d39] A=after E fuel k o:=aU jM _ _ (by rw [Dg]; exact h)
def jL:List Nat:=[0,1,3,4,6,9,10,11,12,13,14,15,16,17,19,20,21,22,23,24,29,30,31,32,33,34,35,36,37,38,39]
abbrev pg (v2 v5 v7 v8 v18 v25 v26 v27 v28:AV):List AV:=[.undef,.undef,v2,.undef,.undef,v5,.undef,v7,v8,.undef,.undef,.undef,.undef,.undef,.undef,.undef,.undef,.undef,v18,.undef,.undef,.undef,.undef,.undef,.undef,v25,v26,v27,v28,.undef,.undef,.undef,.undef,.undef,.undef,.undef,.undef,.undef,.undef,.undef]
theorem Df {d0 d1 v2 d3 d4 v5 d6 v7 v8 d9 d10 d11 d12 d13 d14 d15 d16 d17 v18 d19 d20 d21 d22 d23 d24 v25 v26 v27 v28 d29 d30 d31 d32 d33 d34 d35 d36 d37 d38 d39:AV}:clear jL [d0,d1,v2,d3,d4,v5,d6,v7,v8,d9,d10,d11,d12,d13,d14,d15,d16,d17,v18,d19,d20,d21,d22,d23,d24,v25,v26,v27,v28,d29,d30,d31,d32,d33,d34,d35,d36,d37,d38,d39]=pg v2 v5 v7 v8 v18 v25 v26 v27 v28:=by simp only [jL,clear,List.foldl_cons,List.foldl_nil,List.set_cons_zero,List.set_cons_succ]
theorem IR {E:Env} {fuel:Nat} {A:ac} {o:Out} {k:List KC} {d0 d1 v2 d3 d4 v5 d6 v7 v8 d9 d10 d11 d12 d13 d14 d15 d16 d17 v18 d19 d20 d21 d22 d23 d24 v25 v26 v27 v28 d29 d30 d31 d32 d33 d34 d35 d36 d37 d38 d39:AV} (h:bM (evC E fuel mj) jL fuel (pg v2 v5 v7 v8 v18 v25 v26 v27 v28) A=some o) :
  run E fuel (.code (.loop [0,1,3,4,6,9,10,11,12,13,14,15,16,17,19,20,21,22,23,24,29,30,31,32,33,34,35,36,37,38,39] mj) :: k) [d0,d1,v2,d3,d4,v5,d6,v7,v8,d9,d10,d11,d12,d13,d14,d15,d16,d17,v18,d19,d20,d21,d22,d23,d24,v25,v26,v27,v28,d29,d30,d31,d32,d33,d34,d35,d36,d37,d38,d39] A=after E fuel k o:=aU jL _ _ (by rw [Df]; exact h)
theorem Kl:aB Tryz.prog Tryz.f4 3 [0,1,2,4,6,7,8,9,10,11,12,13,14,15,17,18,19,20,21,22,23,24,25,26,27,29,30,31,32,49,62,100,102,143,157,166,171,203,212,226] [] true ([[0,1,3,4,12,13,14,15,16,17,18,19,20,21,22,23,24,25,26,27,28,29,30,31,32,33,34,35,36,37,38,39],[0,1,3,4,9,10,11,12,13,14,15,16,17,19,23,24,25,26,27,28,29,30,31,32,33,34,35,36,37,38,39],[0,1,3,4,9,10,11,12,13,14,15,16,17,19,22,24,25,26,27,28,29,30,31,32,33,34,35,36,37,38,39],[0,1,3,4,9,10,11,12,13,14,15,16,17,19,22,25,26,27,28,29,30,31,32,33,34,35,36,37,38,39],[0,1,3,4,6,9,10,11,12,13,14,15,16,17,19,20,21,22,23,24,29,30,31,32,33,34,35,36,37,38,39]],[[0,1,3,4,12,13,14,15,16,17,18,19,20,21,22,23,24,25,26,27,28,29,30,31,32,33,34,35,36,37,38,39],[0,1,3,4,10,11,12,13,14,15,16,17,18,19,20,21,22,23,24,25,26,27,28,29,30,31,32,33,34,35,36,37,38,39],[0,1,3,4,9,10,11,12,13,14,15,16,17,19,23,24,25,26,27,28,29,30,31,32,33,34,35,36,37,38,39],[0,1,3,4,9,10,11,12,13,14,15,16,17,19,22,23,24,25,26,27,28,29,30,31,32,33,34,35,36,37,38,39],[0,1,3,4,9,10,11,12,13,14,15,16,17,19,22,25,26,27,28,29,30,31,32,33,34,35,36,37,38,39],[0,1,3,4,9,10,11,12,13,14,15,16,17,19,22,24,25,26,27,28,29,30,31,32,33,34,35,36,37,38,39],[0,1,3,4,9,10,11,12,13,14,15,16,17,19,22,24,25,26,27,28,29,30,31,32,33,34,35,36,37,38,39],[0,1,3,4,9,10,11,12,13,14,15,16,17,19,20,22,23,24,25,26,27,28,29,30,31,32,33,34,35,36,37,38,39],[0,1,3,4,6,9,10,11,12,13,14,15,16,17,19,20,21,22,23,24,29,30,31,32,33,34,35,36,37,38,39],[0,1,3,4,6,7,8,9,10,11,12,13,14,15,16,17,18,19,20,21,22,23,24,26,28,29,30,31,32,33,34,35,36,37,38,39]])=some mf4:=by kernel_rfl
theorem at4:Tryz.prog.funcs[4]?=some Tryz.f4:=by kernel_rfl
namespace Tr
open Cy (GC iR aT bi aH cH db)
open Clu (bb aX aA chA be Chk iO a7 bh cd cJ bI cC cQ cj gR)
namespace Rt
section
variable {E:Env}
theorem Ci {B:ac} (hB:B.length=9) {n:Nat} (hn:n<=1000) (v2 v5 v6 v8 v18 v20:AV):∀(c i m:Nat),i+c=n->c<m ->
  bM (evC E 300 oG) jN m (ph v2 v5 v6 (.int .i64 (n:Int)) v8 v18 v20 (.sl 9 0 n) (.int .i64 (i:Int))) (B++[.row 1 false (ax (ngF n i))]) =
   some (.exit 2 ((ph v2 v5 v6 (.int .i64 (n:Int)) v8 v18 v20 (.sl 9 0 n) (.int .i64 (n:Int))).set 34 (.bool false)) (B++[.row 1 false (ax (ngF n n))])):=by
 intro c
 induction c with
 | zero=>
  intro i m hi hm
  obtain ⟨m,rfl⟩:∃j,m=j+1:=⟨m-1,by omega⟩
  obtain rfl:i=n:=by omega
  have b2:=bw i i .i64
  rw [decide_eq_false (by omega)] at b2
  rw [aK,Di]
  generalize B++[Ent.row 1 false (ax (ngF i i))]=B1 at *
  simp [oG,b2,-aq]
 | succ c ih=>
  intro i m hi hm
  obtain ⟨m,rfl⟩:∃j,m=j+1:=⟨m-1,by omega⟩
  have ih:=ih (i+1) m (by omega) (by omega)
  have b0:=bw i n .i64
  rw [decide_eq_true (by omega)] at b0
  have b1:=aY i (by omega)
  have hrow:(B++[Ent.row 1 false (ax (ngF n i))])[9]?=some (.row 1 false (ax (ngF n i))):=by rw [List.getElem?_append_right (by omega),hB]; rfl
  have i0:=fJ (n:=n) hrow (show i<n by omega) .i64
  have s0:=lK hrow (show i<(ngF n i).length by rw [jK]; omega) (-1)
  rw [List.set_append_right _ _ (by omega),hB,show (ngF n i).set i (-1)=ngF n (i+1) from EC _ _ (by omega)] at s0
  have s0:aE 1 (B++[.row 1 false (ax (ngF n i))]) (.ptr 9 i 0) (.int .i64 (-1))=some (B++[.row 1 false (ax (ngF n (i+1)))]):=s0
  rw [aK,Di]
  obtain ⟨j,hj⟩:∃j,j=i+1:=⟨_,rfl⟩
  rw [<-hj] at ih b1 s0
  have e:run E 300 [.code oG] (ph v2 v5 v6 (.int .i64 (n:Int)) v8 v18 v20 (.sl 9 0 n) (.int .i64 (i:Int))) (B++[.row 1 false (ax (ngF n i))])=some (.normal (ph v2 v5 v6 (.int .i64 (n:Int)) v8 v18 v20 (.sl 9 0 n) (.int .i64 (j:Int))) (B++[.row 1 false (ax (ngF n j))])):=by
   clear hrow
   generalize B++[Ent.row 1 false (ax (ngF n i))]=B1 at *
   generalize B++[Ent.row 1 false (ax (ngF n j))]=B2 at *
   simp [oG,b0,b1,i0,s0,-aq,-aE,-au]
  rw [e]
  exact ih
end
def X7 (X:ac) (g:Bool) (l:List da):ac:=X.set 6 (.row 2 g (l.map bY))
structure F7 (X:ac) (s:be) (last:List da):Prop where
 s:X[2]?=some (.row 4 false [gR s])
 l:X[8]?=some (.row 2 false (last.map bY))
 n:9<=X.length
theorem wy {X:ac} {g:Bool} {l:List da} {j:Nat} (h:j≠6):(X7 X g l)[j]?=X[j]?:=List.getElem?_set_ne (fun e=>h e.symm)
theorem zv {X:ac} (hX:9<=X.length) (g:Bool) (l:List da):(X7 X g l)[6]?=some (.row 2 g (l.map bY)):=List.getElem?_set_self (by omega)
theorem wz {X:ac} (hX:9<=X.length) (g:Bool) {l:List da} (hne:l≠[]) (hl:l.length<=1000) (t:da) :
  aO 2 16 (X7 X g l) (.sl 6 0 l.length) (.fs 2 [bY t])=some (.sl 6 0 (l++[t]).length,X7 X true (l++[t])):=by
 have hz:l.length≠0:=fun e=>hne (List.length_eq_zero_iff.1 e)
 simp only [aO,du,zv hX,List.length_map,List.length_singleton]
 rw [if_pos ⟨trivial,by omega,by omega,by omega⟩,if_pos ⟨trivial,trivial,hz⟩]
 unfold X7
 rw [List.set_set]
 simp
section
variable {E:Env} {X:ac} {s:be} {last:List da}
abbrev s7c (v2 v5 v6:AV) (n:Nat) (v21:AV) (l:List da) (r i:Nat):List AV:=zU v2 v5 v6 (.int .i64 (n:Int)) (.ptr 2 0 0) (.sl 6 0 l.length) (.sl 8 0 (n+1)) v21 (.int .i64 (r:Int)) (.int .i64 (i:Int))
theorem Bl (hF:F7 X s last) {n:Nat} (hn:n<=100) (hp:0<=s.period/\s.period<=1000000) (hlt:∀t∈last,-10000000000<=t.2/\t.2<=10000000000) (v2 v5 v6 v21:AV) {r:Nat} (hr:r<=100) (g:Bool) {l:List da} (hne:l≠[]) (hll:l.length<=900) {i:Nat} (hi:i<=n) {t:da} (ht:last[i]?=some t) :
  run E 300 [.code q5] (s7c v2 v5 v6 n v21 l r i) (X7 X g l)=some (.normal (s7c v2 v5 v6 n v21 (l++[shT s.period r t]) r (i+1)) (X7 X true (l++[shT s.period r t]))):=by
 have hb:=hlt t (List.mem_of_getElem? ht)
 have b0:=cj (i:Int) (n:Int)
 rw [decide_eq_true (by omega)] at b0
 have b1:=aY i (by omega)
 have hL:(X7 X g l)[8]?=some (.row 2 false (last.map bY)):=by rw [wy (by omega)]; exact hF.l
 have hS:(X7 X g l)[2]?=some (.row 4 false [gR s]):=by rw [wy (by omega)]; exact hF.s
 obtain ⟨f0,f1,l0,l1⟩:=L2 hL ht
 have x0:=FE (n:=n+1) hL (show i<n+1 by omega)
 obtain ⟨g0,_,g2,_⟩:=DD hS
 have hm:0<=(r:Int)*s.period/\(r:Int)*s.period<=100*1000000:=⟨Int.mul_nonneg (by omega) (by omega),Int.mul_le_mul (by omega) (by omega) (by omega) (by omega)⟩
 have b2:=Dp (r:Int) s.period (by unfold inI; omega)
 have b3:aq .add (.int .i64 t.2) (.int .i64 ((r:Int)*s.period))=some (.int .i64 (t.2+(r:Int)*s.period)):=bh (by omega)
 have ap0:=wz hF.n g hne (by omega) (shT s.period r t)
 have ap:aO 2 16 (X7 X g l) (.sl 6 0 l.length) (.fs 2 [.agg [.int .i64 t.1,.int .i64 (t.2+(r:Int)*s.period)]])=_:=ap0
 unfold s7c
 obtain ⟨w,hw⟩:∃w,w=((i+1:Nat):Int):=⟨_,rfl⟩
 rw [<-hw] at b1 ⊢
 clear hL hS ap0
 generalize X7 X true (l++[shT s.period r t])=B1 at *
 generalize X7 X g l=B0 at *
 generalize (l++[shT s.period r t]).length=L1 at *
 generalize l.length=L0 at *
 generalize t.2+(r:Int)*s.period=z2 at *
 generalize (r:Int)*s.period=z1 at *
 generalize s.period=pp at *
 simp [q5,b0,b1,b2,b3,x0,f0,f1,l0,l1,g0,g2,ap,-aq,-af,-au,-aa]
theorem Fr (hF:F7 X s last) {n:Nat} (hl:last.length=n+1) (hn:n<=100) (hp:0<=s.period/\s.period<=1000000) (hlt:∀t∈last,-10000000000<=t.2/\t.2<=10000000000) (v2 v5 v6 v21:AV) {r:Nat} (hr:r<=100):∀(c i m:Nat) (g:Bool) (l:List da),i+c=n+1->c<m->l≠[]->l.length+c<=900 ->
  ∃g',bM (evC E 300 q5) mi m (s7c v2 v5 v6 n v21 l r i) (X7 X g l)=some (.exit 6 ((s7c v2 v5 v6 n v21 (l++(last.drop i).map (shT s.period r)) r (n+1)).set 36 (.bool false)) (X7 X g' (l++(last.drop i).map (shT s.period r)))):=by
 intro c
 induction c with
 | zero=>
  intro i m g l hi hm hne hll
  obtain ⟨m,rfl⟩:∃j,m=j+1:=⟨m-1,by omega⟩
  obtain rfl:i=n+1:=by omega
  refine ⟨g,?_⟩
  rw [<-hl,List.drop_length,List.map_nil,List.append_nil,hl]
  have b2:=cj ((n+1:Nat):Int) (n:Int)
  rw [decide_eq_false (by omega)] at b2
  unfold s7c
  rw [aK,Dh]
  generalize ((n+1:Nat):Int)=n1 at *
  generalize X7 X g l=B at *
  simp [q5,b2,-aq]
 | succ c ih=>
  intro i m g l hi hm hne hll
  obtain ⟨m,rfl⟩:∃j,m=j+1:=⟨m-1,by omega⟩
  have hil:i<last.length:=by omega
  have hr1:=Bl (E:=E) hF hn hp hlt v2 v5 v6 v21 hr g hne (by omega) (show i<=n by omega) (List.getElem?_eq_getElem hil)
  obtain ⟨g',h⟩:=ih (i+1) m true (l++[shT s.period r last[i]]) (by omega) (by omega) (by simp) (by simp; omega)
  refine ⟨g',?_⟩
  rw [List.drop_eq_getElem_cons hil,List.map_cons]
  rw [List.append_assoc] at h
  unfold s7c at hr1 h ⊢
  rw [aK,Dh,hr1]
  exact h
abbrev s7d (cy:Int) (v5 v6:AV) (n:Nat) (v21:AV) (l:List da) (r:Nat):List AV:=qF (.int .i64 cy) v5 v6 (.int .i64 (n:Int)) (.ptr 2 0 0) (.sl 6 0 l.length) (.sl 8 0 (n+1)) v21 (.int .i64 (r:Int))
end
end Rt
end Tr
namespace Tr
open Cy (GC iR aT bi aH cH db dp bJ dx cf Pos lvM lvT kL gJ eE a6)
open Clu (bb aX aA chA be Chk iO a7 cn bh cd cJ bI cC cQ cj gR aC fG yj tE ba i5)
namespace Rt
def fsR (M6:aG):List (FuncId × aD):=[(6,aF 4 M6),(13,aF 4 M27),(14,aF 4 Clu.M22),(15,bS 4 Clu.M14),(16,bS 4 Clu.M19),(17,Cy.H14),(18,aF 4 Cy.M21),(19,H24),(20,aF 4 Cy.M19),(21,aF 4 Cy.M12),(22,aF 4 M17)]
section
variable (M6:aG)
@[simp] theorem fsR_6:aI (fsR M6) 6=some (aF 4 M6):=rfl
@[simp] theorem Mg:aI (fsR M6) 13=some (aF 4 M27):=rfl
@[simp] theorem Me:aI (fsR M6) 14=some (aF 4 Clu.M22):=rfl
@[simp] theorem Md:aI (fsR M6) 15=some (bS 4 Clu.M14):=rfl
@[simp] theorem Mc:aI (fsR M6) 16=some (bS 4 Clu.M19):=rfl
@[simp] theorem Mb:aI (fsR M6) 17=some Cy.H14:=rfl
@[simp] theorem Ma:aI (fsR M6) 18=some (aF 4 Cy.M21):=rfl
@[simp] theorem L9:aI (fsR M6) 19=some H24:=rfl
@[simp] theorem L8:aI (fsR M6) 20=some (aF 4 Cy.M19):=rfl
@[simp] theorem L7:aI (fsR M6) 21=some (aF 4 Cy.M12):=rfl
@[simp] theorem L6:aI (fsR M6) 22=some (aF 4 M17):=rfl
theorem Ef {M6:aG} (h6:ak Tryz.prog GC 6 M6):∀f M,aI (fsR M6) f=some M->an Tryz.prog GC f M:=
 ae (an.of_pure h6 4) (ae (an.of_pure rP 4) (ae (an.of_pure Clu.Ec 4) (ae (an.of_pureF Clu.nL 4) (ae (an.of_pureF Clu.nK 4) (ae Cy.nL (ae (an.of_pure Cy.yC 4) (ae z6 (ae (an.of_pure Cy.nK 4) (ae (an.of_pure Cy.Ee 4) (ae (an.of_pure Ed 4) aw))))))))))
end
section
variable {M6:aG} {X:ac} {s:be} {last:List da}
theorem Fq (hF:F7 X s last) {n:Nat} (hl:last.length=n+1) (hn:n<=10) (hp:0<=s.period/\s.period<=1000000) (hlt:∀t∈last,-10000000000<=t.2/\t.2<=10000000000) (v5 v6 v21:AV) {cy:Int} (hcy:inI cy) {C:Nat} (hC:pick cy 5=(C:Int)) {f:Nat->List da} (hf:∀r,f (r+1)=f r++last.map (shT s.period r)) (hne:∀r,1<=r->f r≠[]) (hfl:∀r,r<=10->(f r).length<=800):∀(c r m:Nat) (g:Bool),r+c=C+1->1<=r->c<m ->
  ∃g',bM (evC (ai GC (fsR M6)) 300 oD) jM m (s7d cy v5 v6 n v21 (f r) r) (X7 X g (f r))=some (.exit 4 ((s7d cy v5 v6 n v21 (f (C+1)) (C+1)).set 35 (.bool false)) (X7 X g' (f (C+1)))):=by
 have hC5:=c9 cy 5 (by omega)
 intro c
 have m12:=db hcy (n:=5) (by omega)
 rw [hC] at m12
 induction c with
 | zero=>
  intro r m g hr h1 hm
  obtain ⟨m,rfl⟩:∃j,m=j+1:=⟨m-1,by omega⟩
  obtain rfl:r=C+1:=by omega
  refine ⟨g,?_⟩
  have b2:=cj ((C+1:Nat):Int) (C:Int)
  rw [decide_eq_false (by omega)] at b2
  unfold s7d
  rw [aK,Dg]
  generalize ((C+1:Nat):Int)=C1 at *
  generalize X7 X g (f (C+1))=B at *
  simp [oD,m12,b2,aT,-aq,-frz]
 | succ c ih=>
  intro r m g hr h1 hm
  obtain ⟨m,rfl⟩:∃j,m=j+1:=⟨m-1,by omega⟩
  have hfr:=hfl r (by omega)
  obtain ⟨g1,lp⟩:=Fr (E:=ai GC (fsR M6)) hF hl (by omega) hp hlt (.int .i64 cy) v5 v6 v21 (r:=r) (by omega) (n+1) 0 300 g (f r) (by omega) (by omega) (hne r h1) (by omega)
  rw [List.drop_zero,<-hf] at lp
  unfold s7c at lp
  rw [show ((0:Nat):Int)=0 from rfl] at lp
  obtain ⟨g',h⟩:=ih (r+1) m g1 (by omega) (by omega) (by omega)
  refine ⟨g',?_⟩
  have b2:=cj (r:Int) (C:Int)
  rw [decide_eq_true (by omega)] at b2
  have b1:=aY r (by omega)
  unfold s7d at h ⊢
  rw [aK,Dg]
  obtain ⟨w,hw⟩:∃w,w=((r+1:Nat):Int):=⟨_,rfl⟩
  rw [<-hw] at b1 h
  have e:run (ai GC (fsR M6)) 300 [.code oD] (qF (.int .i64 cy) v5 v6 (.int .i64 (n:Int)) (.ptr 2 0 0) (.sl 6 0 (f r).length) (.sl 8 0 (n+1)) v21 (.int .i64 (r:Int))) (X7 X g (f r))=some (.normal (qF (.int .i64 cy) v5 v6 (.int .i64 (n:Int)) (.ptr 2 0 0) (.sl 6 0 (f (r+1)).length) (.sl 8 0 (n+1)) v21 (.int .i64 w)) (X7 X g1 (f (r+1)))):=by
   clear h ih
   generalize X7 X g1 (f (r+1))=B1 at *
   generalize X7 X g (f r)=B at *
   generalize (f (r+1)).length=L1 at *
   generalize (f r).length=L0 at *
   simp [oD,m12,b1,b2,IT lp,aT,-aq,-frz]
  rw [e]
  exact h
end
def eZ (n:Int) (x:Int × Int) (t:da):Int × Int:=if t.1=n then (t.2,x.2+1) else x
def okC (n p:Int):Int × Int->List da->Prop
 | _,[]=>True
 | x,t :: r=>(t.1=n->0<=x.1->t.2-x.1=p)/\okC n p (eZ n x t) r
theorem oC {n p:Int}:∀ {l r:List da} {x:Int × Int},okC n p x (l++r)↔okC n p x l/\okC n p (l.foldl (eZ n) x) r
 | [],r,x=>by simp [okC]
 | t :: l,r,x=>by
  simp only [List.cons_append,okC,List.foldl_cons]
  rw [oC]
  exact and_assoc.symm
section
variable {E:Env} {X:ac} {s:be}
theorem uR (hS:X[2]?=some (.row 4 false [gR s])) {g:Bool} {L:List da} (hL:X[6]?=some (.row 2 g (L.map bY))) (hll:L.length<=250) {n:Nat} (hb:∀t∈L,-100000000000<=t.2/\t.2<=100000000000) (v2 v5 v25:AV):∀(r pre:List da) (b k:Int) (m:Nat),L=pre++r->r.length<m->(-100000000000<=b/\b<=100000000000)->(0<=k/\k<=pre.length)->okC (n:Int) s.period (b,k) r ->
  bM (evC E 300 mj) jL m (pg v2 v5 (.int .i64 (n:Int)) (.ptr 2 0 0) (.sl 6 0 L.length) v25 (.int .i64 b) (.int .i64 k) (.int .i64 (pre.length:Int))) X =
   some (.exit 8 ((pg v2 v5 (.int .i64 (n:Int)) (.ptr 2 0 0) (.sl 6 0 L.length) v25 (.int .i64 (r.foldl (eZ n) (b,k)).1) (.int .i64 (r.foldl (eZ n) (b,k)).2) (.int .i64 (L.length:Int))).set 37 (.bool false)) X)
 | [],pre,b,k,m,e,hm,_,_,_=>by
  obtain ⟨m,rfl⟩:∃j,m=j+1:=⟨m-1,by omega⟩
  rw [List.append_nil] at e
  have b2:=bw L.length L.length .i64
  rw [decide_eq_false (by omega)] at b2
  have ll:ay (.sl 6 0 L.length)=some (.int .i64 (L.length:Int)):=rfl
  rw [<-e]
  rw [aK,Df]
  generalize (L.length:Int)=N at *
  simp [mj,b2,ll,-aq,-ay]
 | t :: r,pre,b,k,m,e,hm,hbb,hk,hok=>by
  obtain ⟨m,rfl⟩:∃j,m=j+1:=⟨m-1,by omega⟩
  have hpl:pre.length+(r.length+1)=L.length:=by rw [e]; simp
  have ht:L[pre.length]?=some t:=by rw [e,List.getElem?_append_right (Nat.le_refl _),Nat.sub_self]; rfl
  obtain ⟨ok1,ok2⟩:=hok
  have htb:=hb t (List.mem_of_getElem? ht)
  have ih:=uR hS hL hll hb v2 v5 v25 r (pre++[t]) (eZ n (b,k) t).1 (eZ n (b,k) t).2 m (by rw [e]; simp) (by simp at hm; omega) (by unfold eZ; split <;> simp only <;> omega) (by unfold eZ; split <;> simp <;> omega) ok2
  obtain ⟨f0,f1,l0,l1⟩:=L2 hL ht
  have x0:=FE (n:=L.length) hL (show pre.length<L.length by omega)
  obtain ⟨g0,_,g2,_⟩:=DD hS
  have b0:=bw pre.length L.length .i64
  rw [decide_eq_true (by omega)] at b0
  have b1:=aY pre.length (by omega)
  have c1:=cJ t.1 (n:Int)
  have ll:ay (.sl 6 0 L.length)=some (.int .i64 (L.length:Int)):=rfl
  have c2:aq .geq (.int .i64 b) (.int .i64 0)=some (.bool (decide (0<=b))):=by simp [aq]
  have c3:aq .sub (.int .i64 t.2) (.int .i64 b)=some (.int .i64 (t.2-b)):=cd (by omega)
  have c4:=cJ (t.2-b) s.period
  have c5:aq .add (.int .i64 k) (.int .i64 1)=some (.int .i64 (k+1)):=bh (by omega)
  have eL:(pre++[t]).length=pre.length+1:=by simp
  rw [eL] at ih
  rw [List.foldl_cons,show eZ (n:Int) (b,k) t=((eZ (n:Int) (b,k) t).1,(eZ (n:Int) (b,k) t).2) from rfl]
  have e1:run E 300 [.code mj] (pg v2 v5 (.int .i64 (n:Int)) (.ptr 2 0 0) (.sl 6 0 L.length) v25 (.int .i64 b) (.int .i64 k) (.int .i64 (pre.length:Int))) X=some (.normal (pg v2 v5 (.int .i64 (n:Int)) (.ptr 2 0 0) (.sl 6 0 L.length) v25 (.int .i64 (eZ n (b,k) t).1) (.int .i64 (eZ n (b,k) t).2) (.int .i64 ((pre.length+1:Nat):Int))) X):=by
   clear ih hS hL hb ok2 e hm
   unfold eZ
   generalize ((pre.length+1:Nat):Int)=J at *
   generalize (pre.length:Int)=I at *
   generalize L.length=N at *
   by_cases hn:t.1=n
   ·rw [if_pos hn]
    rw [decide_eq_false (by simpa using hn)] at c1
    by_cases hb0:0<=b
    ·rw [decide_eq_true hb0] at c2
     rw [decide_eq_false (by simpa using ok1 hn hb0)] at c4
     simp [mj,b0,b1,ll,x0,f0,f1,l0,l1,g0,g2,c1,c2,c3,c4,c5,-aq,-af,-au,-aa,-ay]
    ·rw [decide_eq_false hb0] at c2
     simp [mj,b0,b1,ll,x0,f0,f1,l0,l1,c1,c2,c5,-aq,-af,-au,-aa,-ay]
   ·rw [if_neg hn]
    rw [decide_eq_true (by simpa using hn)] at c1
    simp [mj,b0,b1,ll,x0,f0,l0,c1,-aq,-af,-au,-aa,-ay]
  rw [aK,Df,e1]
  exact ih
end
end Rt
end Tr
namespace Tr
open Cy (GC iR aT bi aH cH db dp bJ dx jk cf Pos lvM lvT kL gJ eE a6 m19 ea)
open Clu (bb aX aA chA be Chk iO a7 cn bh cd cJ bI cC cQ cj gR aC fG yj tE ba i5 jW o6 dZ qk dR dT)
namespace Rt
open Classical in
theorem m21r {n:Int} {a b:AV} {l:List a6} {p:Int} {s:List Int} (ha:bJ a=some l) (hb:ev b=some s):Cy.M21 [.int .i64 n,a,.int .i64 p,b]=some (.bool (decide (eE n l p s))):=by simp only [Cy.M21,ha,hb]
open Classical in
theorem m21t {n:Int} {a b:AV} {l:List a6} {p:Int} {s:List Int} (ha:bJ a=some l) (hb:ev b=some s) (h:eE n l p s):Cy.M21 [.int .i64 n,a,.int .i64 p,b]=some (.bool true):=by rw [m21r ha hb,decide_eq_true h]
theorem Bh {T:bb} {s:be} (hb:dZ T=some s) (hp:1<s.period) {o:List Int} (hO:o∈aC T) :
  ∃pr,lvT (lvM (o.length:Int) (ba T o) (s.period-1))=.tup [.nilS,slA 1 (ax pr),.bool false]/\ev (slA 1 (ax pr))=some pr/\eE (o.length:Int) (ba T o) (s.period-1) pr:=by
 obtain ⟨⟨p,o0⟩,h,rfl⟩:=Option.map_eq_some_iff.1 hb
 have hB:=o6 T
 rw [h] at hB
 have hok:=hB.ok _ rfl
 have hP:Pos (ba T o) (p-1):=hB.pos o hO (p-1) (by show 1<=p-1; have:(1:Int)<p:=hp; omega) (Int.le_refl _)
 have hR:cf (o.length:Int) (ba T o) (p-1):=i5 hO (by have:=hok.1; simp only at this; omega) (by have:=hok.2.1; simp only at this; omega)
 have hf:(lvM (o.length:Int) (ba T o) (p-1)).2.2=false:=by
  cases hc:(lvM (o.length:Int) (ba T o) (p-1)).2.2 with
  | false=>rfl
  | true=>exact absurd hP ((kL hR).1 hc)
 obtain ⟨k1,k2,k3,k4⟩:=gJ hR hf
 refine ⟨_,?_,jk (by omega) k4,k2⟩
 show lvT (lvM (o.length:Int) (ba T o) (p-1))=_
 unfold lvT
 rw [k1,hf]
 rfl
section
variable {M6:aG} {S:ac} {T:bb} {chv:AV} {sc:be}
theorem xl (hcv:SlA 2 (T.ch.map chA) chv) (hl:T.ch.length<=200) (h1:S[1]?=some (.row 5 false [aA T chv])) (h2:S[2]?=some (.row 4 false [gR sc])) (hb:dZ T=some sc) (hp:1<sc.period) (hp2:sc.period<=1000000) {n:Nat} (hn:n=T.ch.length) (v2 v5:AV) {i:Nat} (hi:i<(aC T).length) (hll:(aC T).length<=280) :
  run (ai GC (fsR M6)) 300 [.code ml] (oo v2 v5 (.ptr 1 0 0) (.int .i64 (n:Int)) (.ptr 2 0 0) (.int .i64 0) (fG (aC T)) (.int .i64 (i:Int))) S =
   some (.normal (oo v2 v5 (.ptr 1 0 0) (.int .i64 (n:Int)) (.ptr 2 0 0) (.int .i64 0) (fG (aC T)) (.int .i64 ((i+1:Nat):Int))) S):=by
 obtain ⟨o,ho⟩:∃o,o=(aC T)[i]:=⟨_,rfl⟩
 have hO:o∈aC T:=by rw [ho]; exact List.getElem_mem hi
 have hol:o.length=T.ch.length+1:=(Clu.bQ hO).2.1
 obtain ⟨pr,e1,e2,e3⟩:=Bh hb hp hO
 have hh:=aR 1 ((aC T).map fun l=>slA 1 (ax l))
 have hlen:=hh.len
 rw [List.length_map] at hlen
 have x0:=hh.index1 (A:=S) (i:=i) (x:=slA 1 (ax o)) (by rw [List.getElem?_map,List.getElem?_eq_getElem hi,<-ho]; rfl) (by rcases aR 1 (ax o) with ⟨e,_⟩ | e <;> rw [e] <;> rfl) (by rcases aR 1 (ax o) with ⟨e,_⟩ | e <;> rw [e] <;> rfl) .i64
 have lf:∀A x,af false 1 A (.fp [x])=some x:=fun _ _=>rfl
 have m16:=Clu.sQ hcv hl (aR 1 (ax o))
 rw [dT hO] at m16
 have m16:Clu.M19 [aA T chv,slA 1 (ax o)]=some (.tup [slA 4 ((ba T o).map dp),.int .i64 0]):=m16
 have ft:=fun A=>a7 (T:=T) (fun A n=>hcv.frz (A:=A) n) A 3
 have fo:=fun A=>(aR 1 (ax o)).frz (A:=A) 4
 have fa:=fun A=>(aR 4 ((ba T o).map dp)).frz (A:=A) 4
 have fp:=fun A=>(aR 1 (ax pr)).frz (A:=A) 4
 obtain ⟨v1,v3⟩:=jW hO
 have hv:bJ (slA 4 ((ba T o).map dp))=some (ba T o):=dx (by have:=v1.2.1; omega) v3
 have m17:=fun h=>Cy.zH h (A:=S) (fa S) hv (o.length:Int) (sc.period-1)
 rw [e1] at m17
 have m18:=m21t hv e2 e3
 have b0:=bw i (aC T).length .i64
 rw [decide_eq_true hi] at b0
 have b1:=aY i (by omega)
 have b2:=bI 0 0
 rw [decide_eq_true rfl] at b2
 have b3:=cQ sc.period 1
 rw [decide_eq_true (by omega)] at b3
 have b4:=cJ 0 0
 rw [decide_eq_false (by simp)] at b4
 have b5:aq .add (.int .i64 (n:Int)) (.int .i64 1)=some (.int .i64 (o.length:Int)):=by rw [bh (by omega),hol,<-hn]; rfl
 have b6:aq .sub (.int .i64 sc.period) (.int .i64 1)=some (.int .i64 (sc.period-1)):=cd (by omega)
 have lt:af true 5 S (.ptr 1 0 0)=some (aA T chv):=by simp only [af,h1]; rfl
 obtain ⟨g0,_,g2,_⟩:=DD h2
 unfold fG
 clear e1 e2 e3 hv hO ho hh h1 h2 hb v1 v3
 generalize ((i+1:Nat):Int)=I1 at *
 generalize (i:Int)=I at *
 generalize ((aC T).length:Int)=L at *
 generalize (o.length:Int)=OL at *
 generalize sc.period-1=P1 at *
 generalize sc.period=P0 at *
 generalize aA T chv=TV at *
 generalize slA 4 ((ba T o).map dp)=AR at *
 generalize slA 1 (ax pr)=PR at *
 generalize slA 1 (ax o)=OV at *
 generalize slA 1 ((aC T).map fun l=>slA 1 (ax l))=OR at *
 simp [ml,hlen,x0,lf,m16,ft,fo,fa,fp,m17,m18,b0,b1,b2,b3,b4,b5,b6,lt,g0,g2,aT,-aq,-af,-au,-aa,-ay,-frz]
theorem Cj (hcv:SlA 2 (T.ch.map chA) chv) (hl:T.ch.length<=200) (h1:S[1]?=some (.row 5 false [aA T chv])) (h2:S[2]?=some (.row 4 false [gR sc])) {e:Int} (hb:e=0->dZ T=some sc) (hp2:sc.period<=1000000) {n:Nat} (hn:n=T.ch.length) (v2 v5:AV) (hll:1<=(aC T).length/\(aC T).length<=280) :
  ∃i:Int,bM (evC (ai GC (fsR M6)) 300 ml) jO 300 (oo v2 v5 (.ptr 1 0 0) (.int .i64 (n:Int)) (.ptr 2 0 0) (.int .i64 e) (fG (aC T)) (.int .i64 0)) S =
   some (.exit 0 ((oo v2 v5 (.ptr 1 0 0) (.int .i64 (n:Int)) (.ptr 2 0 0) (.int .i64 e) (fG (aC T)) (.int .i64 i)).set 30 (.bool false)) S):=by
 have hlen:=(aR 1 ((aC T).map fun l=>slA 1 (ax l))).len
 rw [List.length_map] at hlen
 obtain ⟨g0,_,g2,_⟩:=DD h2
 by_cases hgo:e=0/\1<sc.period
 ·obtain ⟨rfl,hp⟩:=hgo
  refine ⟨((aC T).length:Int),my (fun k=>oo v2 v5 (.ptr 1 0 0) (.int .i64 (n:Int)) (.ptr 2 0 0) (.int .i64 0) (fG (aC T)) (.int .i64 (k:Int))) (fun _=>S) (aC T).length (fun _=>Dj) (fun _ _ h=>by cases h) (fun k hk=>xl hcv hl h1 h2 (hb rfl) hp hp2 hn v2 v5 hk hll.2) ?_ (by omega)⟩
  have b0:=bw (aC T).length (aC T).length .i64
  rw [decide_eq_false (by omega)] at b0
  unfold fG
  generalize slA 1 ((aC T).map fun l=>slA 1 (ax l))=OR at *
  generalize ((aC T).length:Int)=L at *
  simp [ml,hlen,b0,-aq,-ay]
 ·refine ⟨0,?_⟩
  have b0:=bw 0 (aC T).length .i64
  rw [decide_eq_true (by omega),show ((0:Nat):Int)=0 from rfl] at b0
  rw [aK,Dj]
  have b2:=bI e 0
  have b3:=cQ sc.period 1
  unfold fG
  generalize slA 1 ((aC T).map fun l=>slA 1 (ax l))=OR at *
  generalize ((aC T).length:Int)=L at *
  by_cases he:e=0
  ·rw [decide_eq_true he] at b2
   rw [decide_eq_false (fun h=>hgo ⟨he,h⟩)] at b3
   simp [ml,hlen,b0,b2,b3,g0,g2,-aq,-af,-aa,-ay]
  ·rw [decide_eq_false he] at b2
   simp [ml,hlen,b0,b2,-aq,-af,-aa,-ay]
end
theorem gM {n:Int}:∀ {l:List da} {x:Int × Int},(∀t∈l,t.1≠n)->l.foldl (eZ n) x=x
 | [],_,_=>rfl
 | t :: l,x,h=>by
  rw [List.foldl_cons,show eZ n x t=x from if_neg (h t (by simp))]
  exact gM fun u hu=>h u (by simp [hu])
theorem rZ {n p:Int}:∀ {l:List da} {x:Int × Int},(∀t∈l,t.1≠n)->okC n p x l
 | [],_,_=>trivial
 | t :: l,x,h=>⟨fun e=>absurd e (h t (by simp)),rZ fun u hu=>h u (by simp [hu])⟩
theorem vH {T:bb} {s:be} (hc:Chk T s) (free:Int) {r:Nat} (hr:kF s.order T.ch.length<=r) (x:Int × Int) (hx:0<=x.1->(tk T s free r (T.ch.length:Int)).2-x.1=s.period) :
  (cyc T s free r).foldl (eZ (T.ch.length:Int)) x=((tk T s free r (T.ch.length:Int)).2,x.2+1)/\okC (T.ch.length:Int) s.period x (cyc T s free r):=by
 rw [oW hc free hr]
 have hO:=fY hc.1
 obtain ⟨_,h2,⟨r0,h3,h3'⟩,h4⟩:=Clu.bQ hc.1
 have hm:(T.ch.length:Int)∈s.order:=by
  obtain ⟨p,hp,e⟩:=hO.has (Nat.le_refl T.ch.length)
  rw [List.getD_eq_getElem?_getD,List.getElem?_eq_getElem hp,Option.getD_some] at e
  rw [<-e]; exact List.getElem_mem hp
 obtain ⟨a,b,e⟩:=List.append_of_mem hm
 rw [e] at h4
 have hna:∀t∈a.map (tk T s free r),t.1≠(T.ch.length:Int):=fun t ht=>by
  obtain ⟨u,hu,rfl⟩:=List.mem_map.1 ht
  intro e2
  exact (List.nodup_append.1 h4).2.2 u hu _ (List.mem_cons_self ..) e2
 have hnb:∀t∈b.map (tk T s free r),t.1≠(T.ch.length:Int):=fun t ht=>by
  obtain ⟨u,hu,rfl⟩:=List.mem_map.1 ht
  intro e2
  have:=(List.nodup_cons.1 (List.nodup_append.1 h4).2.1).1
  exact this (by rw [<-show u=(T.ch.length:Int) from e2]; exact hu)
 rw [e,List.map_append,List.map_cons,List.foldl_append,List.foldl_cons,gM hna]
 have hs:eZ (T.ch.length:Int) x (tk T s free r (T.ch.length:Int))=((tk T s free r (T.ch.length:Int)).2,x.2+1):=if_pos rfl
 refine ⟨by rw [hs]; exact gM hnb,oC.2 ⟨rZ hna,?_⟩⟩
 rw [gM hna]
 exact ⟨fun _ h0=>hx h0,rZ hnb⟩
theorem vy {T:bb} {s:be} (free:Int) {k:Nat} (hk:kF s.order T.ch.length=k):∀R:Nat,R<=k->∀t∈b7 T s free R,t.1≠(T.ch.length:Int)
 | 0,_,t,ht=>by simp [b7] at ht
 | R+1,hR,t,ht=>by
  rw [dv] at ht
  rcases List.mem_append.1 ht with ht | ht
  ·exact vy free hk R (by omega) t ht
  ·unfold cyc at ht
   obtain ⟨u,hu,rfl⟩:=List.mem_map.1 ht
   have h1:=of_decide_eq_true (List.mem_filter.1 hu).2
   intro e
   have e:u=(T.ch.length:Int):=e
   rw [e,Int.toNat_natCast,hk] at h1
   omega
theorem zR (T:bb) (s:be) (free:Int) (r:Nat) (t:Int):(tk T s free (r+1) t).2-(tk T s free r t).2=s.period:=by
 show bsF T s free+((r+1:Nat):Int)*s.period+stD s t.toNat-(bsF T s free+(r:Int)*s.period+stD s t.toNat)=s.period
 rw [show ((r+1:Nat):Int)=(r:Int)+1 by omega,Int.add_mul,Int.one_mul]
 omega
theorem n7 {T:bb} {s:be} (hc:Chk T s) (free:Int) {k:Nat} (hk:kF s.order T.ch.length=k):∀m:Nat,
  (b7 T s free (k+(m+1))).foldl (eZ (T.ch.length:Int)) (-1,0)=((tk T s free (k+m) (T.ch.length:Int)).2,((m+1:Nat):Int))/\okC (T.ch.length:Int) s.period (-1,0) (b7 T s free (k+(m+1)))
 | 0=>by
  have h0:=vy free hk k (Nat.le_refl _)
  obtain ⟨c1,c2⟩:=vH hc free (r:=k) (by omega) (-1,0) (fun h=>by simp at h)
  rw [show k+(0+1)=k+1 from rfl,dv,List.foldl_append,gM h0]
  exact ⟨by rw [c1]; rfl,oC.2 ⟨rZ h0,by rw [gM h0]; exact c2⟩⟩
 | m+1=>by
  obtain ⟨i1,i2⟩:=n7 hc free hk m
  obtain ⟨c1,c2⟩:=vH hc free (r:=k+(m+1)) (by omega) ((tk T s free (k+m) (T.ch.length:Int)).2,((m+1:Nat):Int)) (fun _=>zR T s free (k+m) _)
  rw [show k+(m+1+1)=(k+(m+1))+1 from rfl,dv,List.foldl_append,i1]
  refine ⟨by rw [c1]; rfl,oC.2 ⟨i2,by rw [i1]; exact c2⟩⟩
end Rt
end Tr
namespace Tr
open Cy (GC aT bi)
open Clu (bh cd cJ bI cC cQ cj)
namespace Rt
section
def rg1:MC:=.region [⟨some 3,.box (.var 1),none⟩,⟨some 4,.mv (.cst (.bool false)),none⟩]
def rg2:MC:=.region [⟨none,.call (.fn 6) [],none⟩,⟨some 5,.mv (.tmp 0),none⟩]
def rg3:MC:=.region [⟨none,.mv (.var 0),none⟩,⟨none,.load true 3 (.var 3),none⟩,⟨none,.call (.fn 13) [.tmp 0,.tmp 1],none⟩,⟨some 6,.alloc 5 (.agg [.nilS,.int .i64 0,.int .i64 0,.int .i64 0,.int .i64 0]),none⟩,⟨none,.store 5 (.var 6) (.tmp 2),none⟩]
def rg4:MC:=.region [⟨none,.fieldAddr 0 (.var 6),none⟩,⟨none,.load false 1 (.tmp 0),none⟩,⟨none,.lenSl (.tmp 1),none⟩,⟨some 7,.mv (.tmp 2),none⟩]
def rg5:MC:=.region [⟨none,.load true 5 (.var 6),none⟩,⟨none,.call (.fn 14) [.tmp 0],none⟩,⟨none,.mv (.tmp 1),none⟩,⟨none,.extract (.tmp 2) 0,none⟩,⟨none,.extract (.tmp 2) 1,none⟩,⟨some 8,.alloc 4 (.agg [.int .i64 0,.nilS,.nilS,.nilS]),none⟩,⟨none,.store 4 (.var 8) (.tmp 3),none⟩,⟨some 9,.mv (.tmp 4),none⟩]
def rg6:MC:=.region [⟨none,.load true 5 (.var 6),none⟩,⟨none,.call (.fn 15) [.tmp 0],none⟩,⟨some 10,.mv (.tmp 1),none⟩]
def rg7:MC:=.seq (.region [⟨none,.mv (.var 10),none⟩,⟨none,.lenSl (.tmp 0),none⟩,⟨some 29,.bin .eql (.tmp 1) (.cst (.int .i64 0)),none⟩]) (.cond (.var 29) (.seq (.region [⟨some 4,.mv (.cst (.bool false)),none⟩]) .ret) .skip)
def rg8:MC:=.seq (.region [⟨some 11,.mv (.cst (.int .i64 0)),none⟩]) (.seq (.block 0 (.loop [0,1,3,4,12,13,14,15,16,17,18,19,20,21,22,23,24,25,26,27,28,29,30,31,32,33,34,35,36,37,38,39] ml)) (.kill [0,1,3,4,10,11,12,13,14,15,16,17,18,19,20,21,22,23,24,25,26,27,28,29,30,31,32,33,34,35,36,37,38,39]))
def rg9:MC:=.seq (.region [⟨none,.mv (.var 9),none⟩,⟨some 32,.bin .neq (.tmp 0) (.cst (.int .i64 0)),none⟩]) (.cond (.var 32) (.seq (.region [⟨none,.mv (.var 5),none⟩,⟨none,.mv (.tmp 0),none⟩,⟨none,.mv (.var 9),some (.tmp 1,true)⟩,⟨none,.bin .eql (.tmp 2) (.cst (.int .i64 130)),some (.tmp 1,true)⟩,⟨none,.pick (.tmp 1) (.tmp 3) (.cst (.bool false)),none⟩,⟨some 4,.mv (.tmp 4),none⟩]) .ret) .skip)
def Ey:MC:=.region [⟨none,.load true 5 (.var 6),none⟩,⟨none,.fieldAddr 1 (.var 8),none⟩,⟨none,.load false 1 (.tmp 1),none⟩,⟨none,.call (.fn 16) [.tmp 0,.tmp 2],none⟩,⟨none,.mv (.tmp 3),none⟩,⟨none,.extract (.tmp 4) 0,none⟩,⟨none,.extract (.tmp 4) 1,none⟩,⟨some 16,.mv (.tmp 5),none⟩,⟨some 17,.mv (.tmp 6),none⟩]
def Ex:MC:=.region [⟨none,.load true 5 (.var 6),none⟩,⟨none,.load true 4 (.var 8),none⟩,⟨none,.call (.fn 19) [.tmp 0,.tmp 1,.cst (.int .i64 0)],none⟩,⟨none,.mv (.tmp 2),none⟩,⟨none,.extract (.tmp 3) 0,none⟩,⟨none,.extract (.tmp 3) 1,none⟩,⟨some 18,.mv (.tmp 4),none⟩,⟨some 19,.mv (.tmp 5),none⟩]
def Ew:MC:=.seq (.region [⟨none,.mv (.var 17),none⟩,⟨none,.bin .neq (.tmp 0) (.cst (.int .i64 0)),none⟩,⟨none,.mv (.tmp 1),none⟩,⟨none,.mv (.var 19),some (.tmp 2,false)⟩,⟨none,.bin .neq (.tmp 3) (.cst (.int .i64 0)),some (.tmp 2,false)⟩,⟨none,.pick (.tmp 2) (.cst (.bool true)) (.tmp 4),none⟩,⟨none,.mv (.tmp 5),none⟩,⟨none,.mv (.var 7),some (.tmp 6,false)⟩,⟨none,.bin .add (.tmp 7) (.cst (.int .i64 1)),some (.tmp 6,false)⟩,⟨none,.mv (.var 16),some (.tmp 6,false)⟩,⟨none,.fieldAddr 0 (.var 8),some (.tmp 6,false)⟩,⟨none,.load false 1 (.tmp 10),some (.tmp 6,false)⟩,⟨none,.fieldAddr 2 (.var 8),some (.tmp 6,false)⟩,⟨none,.load false 1 (.tmp 12),some (.tmp 6,false)⟩,⟨none,.call (.fn 20) [.tmp 8,.tmp 9,.tmp 11,.tmp 13],some (.tmp 6,false)⟩,⟨none,.un .not (.tmp 14),some (.tmp 6,false)⟩,⟨none,.pick (.tmp 6) (.cst (.bool true)) (.tmp 15),none⟩,⟨none,.mv (.tmp 16),none⟩,⟨none,.mv (.var 18),some (.tmp 17,false)⟩,⟨none,.lenSl (.tmp 18),some (.tmp 17,false)⟩,⟨none,.mv (.var 7),some (.tmp 17,false)⟩,⟨none,.bin .leq (.tmp 19) (.tmp 20),some (.tmp 17,false)⟩,⟨some 33,.pick (.tmp 17) (.cst (.bool true)) (.tmp 21),none⟩]) (.cond (.var 33) (.seq (.region [⟨some 4,.mv (.cst (.bool false)),none⟩]) .ret) .skip)
def Ev:MC:=.region [⟨none,.buildSlice 2 [],none⟩,⟨none,.mv (.var 18),none⟩,⟨none,.mv (.var 18),none⟩,⟨none,.lenSl (.tmp 2),none⟩,⟨none,.mv (.var 7),none⟩,⟨none,.bin .sub (.tmp 3) (.tmp 4),none⟩,⟨none,.bin .sub (.tmp 5) (.cst (.int .i64 1)),none⟩,⟨none,.sliceSl 2 (.tmp 1) (some (.tmp 6)) none,none⟩,⟨none,.append 2 16 (.tmp 0) (.tmp 7),none⟩,⟨some 20,.mv (.tmp 8),none⟩]
def Eu:MC:=.region [⟨none,.mv (.var 7),none⟩,⟨none,.makeSlice 1 8 (.int .i64 0) (.tmp 0) (.tmp 0),none⟩,⟨some 21,.mv (.tmp 1),none⟩]
def Et:MC:=.seq (.region [⟨some 22,.mv (.cst (.int .i64 0)),none⟩]) (.seq (.block 2 (.loop [0,1,3,4,9,10,11,12,13,14,15,16,17,19,23,24,25,26,27,28,29,30,31,32,33,34,35,36,37,38,39] oG)) (.kill [0,1,3,4,9,10,11,12,13,14,15,16,17,19,22,23,24,25,26,27,28,29,30,31,32,33,34,35,36,37,38,39]))
def Es:MC:=.seq (.region [⟨some 23,.mv (.cst (.int .i64 1)),none⟩]) (.seq (.block 4 (.loop [0,1,3,4,9,10,11,12,13,14,15,16,17,19,22,24,25,26,27,28,29,30,31,32,33,34,35,36,37,38,39] oD)) (.kill [0,1,3,4,9,10,11,12,13,14,15,16,17,19,20,22,23,24,25,26,27,28,29,30,31,32,33,34,35,36,37,38,39]))
def Er:MC:=.region [⟨none,.load true 5 (.var 6),none⟩,⟨none,.mv (.var 21),none⟩,⟨none,.mv (.var 18),none⟩,⟨none,.call (.fn 22) [.tmp 0,.tmp 1,.cst (.int .i64 0),.tmp 2],none⟩,⟨none,.mv (.tmp 3),none⟩,⟨none,.extract (.tmp 4) 0,none⟩,⟨none,.extract (.tmp 4) 1,none⟩,⟨none,.mv (.tmp 5),none⟩,⟨some 25,.mv (.tmp 6),none⟩]
def Eq:MC:=.region [⟨some 26,.mv (.cst (.int .i64 (-1))),none⟩]
def Ep:MC:=.region [⟨some 27,.mv (.cst (.int .i64 0)),none⟩]
def Eo:MC:=.seq (.region [⟨some 28,.mv (.cst (.int .i64 0)),none⟩]) (.seq (.block 8 (.loop [0,1,3,4,6,9,10,11,12,13,14,15,16,17,19,20,21,22,23,24,29,30,31,32,33,34,35,36,37,38,39] mj)) (.kill [0,1,3,4,6,7,8,9,10,11,12,13,14,15,16,17,18,19,20,21,22,23,24,26,28,29,30,31,32,33,34,35,36,37,38,39]))
def En:MC:=.region [⟨none,.mv (.var 5),none⟩,⟨none,.mv (.tmp 0),none⟩,⟨none,.mv (.var 25),some (.tmp 1,true)⟩,⟨none,.pick (.tmp 1) (.tmp 2) (.cst (.bool false)),none⟩,⟨none,.mv (.tmp 3),none⟩,⟨none,.mv (.var 27),some (.tmp 4,true)⟩,⟨none,.mv (.var 2),some (.tmp 4,true)⟩,⟨none,.call (.fn 21) [.tmp 6,.cst (.int .i64 5)],some (.tmp 4,true)⟩,⟨none,.bin .add (.cst (.int .i64 1)) (.tmp 7),some (.tmp 4,true)⟩,⟨none,.bin .eql (.tmp 5) (.tmp 8),some (.tmp 4,true)⟩,⟨none,.pick (.tmp 4) (.tmp 9) (.cst (.bool false)),none⟩,⟨some 4,.mv (.tmp 10),none⟩]
def Em:MC:=.ret
theorem yD:mf4=⟨3,40,.seq rg1 (.seq rg2 (.seq rg3 (.seq rg4 (.seq rg5 (.seq rg6 (.seq rg7 (.seq rg8 (.seq rg9 (.seq Ey (.seq Ex (.seq Ew (.seq Ev (.seq Eu (.seq Et (.seq Es (.seq Er (.seq Eq (.seq Ep (.seq Eo (.seq En (Em))))))))))))))))))))),[.tmp 4]⟩:=rfl
def wj:MC:=.seq rg1 (.seq rg2 (.seq rg3 (.seq rg4 (.seq rg5 (.seq rg6 (.seq rg7 (.seq rg8 (.seq rg9 (.seq Ey (.seq Ex (.seq Ew (.seq Ev (.seq Eu (.seq Et (.seq Es (.seq Er (.seq Eq (.seq Ep (.seq Eo (.seq En (Em)))))))))))))))))))))
variable {M6:aG} {K:List KC} {A B:ac} {a0 a1 a2 tv sv ov cv arcs lv av:AV} {n L:Nat} {e:Int}
abbrev zTl:AV:=.agg [.nilS,.int .i64 0,.int .i64 0,.int .i64 0,.int .i64 0]
abbrev zSd:AV:=.agg [.int .i64 0,.nilS,.nilS,.nilS]
theorem BB (h1:a1.solid=true/\(cellsOf a1).length=3) :
  run (ai GC (fsR M6)) 300 (.code rg1 :: K) [a0,a1,a2,.undef,.undef,.undef,.undef,.undef,.undef,.undef,.undef,.undef,.undef,.undef,.undef,.undef,.undef,.undef,.undef,.undef,.undef,.undef,.undef,.undef,.undef,.undef,.undef,.undef,.undef,.undef,.undef,.undef,.undef,.undef,.undef,.undef,.undef,.undef,.undef,.undef] []=run (ai GC (fsR M6)) 300 K [a0,a1,a2,.ptr 0 0 0,.bool false,.undef,.undef,.undef,.undef,.undef,.undef,.undef,.undef,.undef,.undef,.undef,.undef,.undef,.undef,.undef,.undef,.undef,.undef,.undef,.undef,.undef,.undef,.undef,.undef,.undef,.undef,.undef,.undef,.undef,.undef,.undef,.undef,.undef,.undef,.undef] [.row 3 false [a1]]:=by
 simp [rg1,h1,-cellsOf,-AV.solid]
theorem BA (h6:M6 []=some (.bool true)) :
  run (ai GC (fsR M6)) 300 (.code rg2 :: K) [a0,a1,a2,.ptr 0 0 0,.bool false,.undef,.undef,.undef,.undef,.undef,.undef,.undef,.undef,.undef,.undef,.undef,.undef,.undef,.undef,.undef,.undef,.undef,.undef,.undef,.undef,.undef,.undef,.undef,.undef,.undef,.undef,.undef,.undef,.undef,.undef,.undef,.undef,.undef,.undef,.undef] A=run (ai GC (fsR M6)) 300 K [a0,a1,a2,.ptr 0 0 0,.bool false,.bool true,.undef,.undef,.undef,.undef,.undef,.undef,.undef,.undef,.undef,.undef,.undef,.undef,.undef,.undef,.undef,.undef,.undef,.undef,.undef,.undef,.undef,.undef,.undef,.undef,.undef,.undef,.undef,.undef,.undef,.undef,.undef,.undef,.undef,.undef] A:=by
 simp [rg2,h6]
theorem Bz (hb:af true 3 A (.ptr 0 0 0)=some a1) (f0:frz A 4 a0=a0) (f1:frz A 4 a1=a1) (n0:bq 4 a0=true) (n1:bq 4 a1=true) (h13:M27 [a0,a1]=some tv) (hs:aE 5 (A++[.row 5 false [zTl]]) (.ptr A.length 0 0) tv=some B) :
  run (ai GC (fsR M6)) 300 (.code rg3 :: K) [a0,a1,a2,.ptr 0 0 0,.bool false,.bool true,.undef,.undef,.undef,.undef,.undef,.undef,.undef,.undef,.undef,.undef,.undef,.undef,.undef,.undef,.undef,.undef,.undef,.undef,.undef,.undef,.undef,.undef,.undef,.undef,.undef,.undef,.undef,.undef,.undef,.undef,.undef,.undef,.undef,.undef] A=run (ai GC (fsR M6)) 300 K [a0,a1,a2,.ptr 0 0 0,.bool false,.bool true,(.ptr A.length 0 0),.undef,.undef,.undef,.undef,.undef,.undef,.undef,.undef,.undef,.undef,.undef,.undef,.undef,.undef,.undef,.undef,.undef,.undef,.undef,.undef,.undef,.undef,.undef,.undef,.undef,.undef,.undef,.undef,.undef,.undef,.undef,.undef,.undef] B:=by
 simp [rg3,hb,f0,f1,n0,n1,h13,hs,-af,-aE,-frz]
theorem By (hf:aa 0 A (.ptr 1 0 0)=some (.ptr 1 0 0)) (hl:af false 1 A (.ptr 1 0 0)=some cv) (hn:ay cv=some (.int .i64 (n:Int))) :
  run (ai GC (fsR M6)) 300 (.code rg4 :: K) [a0,a1,a2,.ptr 0 0 0,.bool false,.bool true,.ptr 1 0 0,.undef,.undef,.undef,.undef,.undef,.undef,.undef,.undef,.undef,.undef,.undef,.undef,.undef,.undef,.undef,.undef,.undef,.undef,.undef,.undef,.undef,.undef,.undef,.undef,.undef,.undef,.undef,.undef,.undef,.undef,.undef,.undef,.undef] A=run (ai GC (fsR M6)) 300 K [a0,a1,a2,.ptr 0 0 0,.bool false,.bool true,.ptr 1 0 0,.int .i64 (n:Int),.undef,.undef,.undef,.undef,.undef,.undef,.undef,.undef,.undef,.undef,.undef,.undef,.undef,.undef,.undef,.undef,.undef,.undef,.undef,.undef,.undef,.undef,.undef,.undef,.undef,.undef,.undef,.undef,.undef,.undef,.undef,.undef] A:=by
 simp [rg4,hf,hl,hn,-af,-aa,-ay]
theorem Bx (hl:af true 5 A (.ptr 1 0 0)=some tv) (f:frz A 4 tv=tv) (nr:bq 4 tv=true) (h14:Clu.M22 [tv]=some (.tup [sv,.int .i64 e])) (hs:aE 4 (A++[.row 4 false [zSd]]) (.ptr A.length 0 0) sv=some B) :
  run (ai GC (fsR M6)) 300 (.code rg5 :: K) [a0,a1,a2,.ptr 0 0 0,.bool false,.bool true,.ptr 1 0 0,.int .i64 (n:Int),.undef,.undef,.undef,.undef,.undef,.undef,.undef,.undef,.undef,.undef,.undef,.undef,.undef,.undef,.undef,.undef,.undef,.undef,.undef,.undef,.undef,.undef,.undef,.undef,.undef,.undef,.undef,.undef,.undef,.undef,.undef,.undef] A=run (ai GC (fsR M6)) 300 K [a0,a1,a2,.ptr 0 0 0,.bool false,.bool true,.ptr 1 0 0,.int .i64 (n:Int),(.ptr A.length 0 0),.int .i64 e,.undef,.undef,.undef,.undef,.undef,.undef,.undef,.undef,.undef,.undef,.undef,.undef,.undef,.undef,.undef,.undef,.undef,.undef,.undef,.undef,.undef,.undef,.undef,.undef,.undef,.undef,.undef,.undef,.undef,.undef] B:=by
 simp [rg5,hl,f,nr,h14,hs,-af,-aE,-frz]
theorem Bw (hl:af true 5 A (.ptr 1 0 0)=some tv) (f:frz A 4 tv=tv) (h15:Clu.M14 [tv]=some ov) :
  run (ai GC (fsR M6)) 300 (.code rg6 :: K) [a0,a1,a2,.ptr 0 0 0,.bool false,.bool true,.ptr 1 0 0,.int .i64 (n:Int),.ptr 2 0 0,.int .i64 e,.undef,.undef,.undef,.undef,.undef,.undef,.undef,.undef,.undef,.undef,.undef,.undef,.undef,.undef,.undef,.undef,.undef,.undef,.undef,.undef,.undef,.undef,.undef,.undef,.undef,.undef,.undef,.undef,.undef,.undef] A=run (ai GC (fsR M6)) 300 K [a0,a1,a2,.ptr 0 0 0,.bool false,.bool true,.ptr 1 0 0,.int .i64 (n:Int),.ptr 2 0 0,.int .i64 e,ov,.undef,.undef,.undef,.undef,.undef,.undef,.undef,.undef,.undef,.undef,.undef,.undef,.undef,.undef,.undef,.undef,.undef,.undef,.undef,.undef,.undef,.undef,.undef,.undef,.undef,.undef,.undef,.undef,.undef] A:=by
 simp [rg6,hl,f,h15,-af,-frz]
theorem Bv (hl:ay ov=some (.int .i64 (L:Int))) (hb:aq .eql (.int .i64 (L:Int)) (.int .i64 0)=some (.bool false)) :
  run (ai GC (fsR M6)) 300 (.code rg7 :: K) [a0,a1,a2,.ptr 0 0 0,.bool false,.bool true,.ptr 1 0 0,.int .i64 (n:Int),.ptr 2 0 0,.int .i64 e,ov,.undef,.undef,.undef,.undef,.undef,.undef,.undef,.undef,.undef,.undef,.undef,.undef,.undef,.undef,.undef,.undef,.undef,.undef,.undef,.undef,.undef,.undef,.undef,.undef,.undef,.undef,.undef,.undef,.undef] A=run (ai GC (fsR M6)) 300 K [a0,a1,a2,.ptr 0 0 0,.bool false,.bool true,.ptr 1 0 0,.int .i64 (n:Int),.ptr 2 0 0,.int .i64 e,ov,.undef,.undef,.undef,.undef,.undef,.undef,.undef,.undef,.undef,.undef,.undef,.undef,.undef,.undef,.undef,.undef,.undef,.undef,.bool false,.undef,.undef,.undef,.undef,.undef,.undef,.undef,.undef,.undef,.undef] A:=by
 simp [rg7,hl,hb,-ay,-aq]
theorem Bu {i:Int} (lp:bM (evC (ai GC (fsR M6)) 300 ml) jO 300 (oo a2 (.bool true) (.ptr 1 0 0) (.int .i64 (n:Int)) (.ptr 2 0 0) (.int .i64 e) ov (.int .i64 0)) A=some (.exit 0 ((oo a2 (.bool true) (.ptr 1 0 0) (.int .i64 (n:Int)) (.ptr 2 0 0) (.int .i64 e) ov (.int .i64 i)).set 30 (.bool false)) A)) :
  run (ai GC (fsR M6)) 300 (.code rg8 :: K) [a0,a1,a2,.ptr 0 0 0,.bool false,.bool true,.ptr 1 0 0,.int .i64 (n:Int),.ptr 2 0 0,.int .i64 e,ov,.undef,.undef,.undef,.undef,.undef,.undef,.undef,.undef,.undef,.undef,.undef,.undef,.undef,.undef,.undef,.undef,.undef,.undef,.bool false,.undef,.undef,.undef,.undef,.undef,.undef,.undef,.undef,.undef,.undef] A=run (ai GC (fsR M6)) 300 K [.undef,.undef,a2,.undef,.undef,.bool true,.ptr 1 0 0,.int .i64 (n:Int),.ptr 2 0 0,.int .i64 e,.undef,.undef,.undef,.undef,.undef,.undef,.undef,.undef,.undef,.undef,.undef,.undef,.undef,.undef,.undef,.undef,.undef,.undef,.undef,.undef,.undef,.undef,.undef,.undef,.undef,.undef,.undef,.undef,.undef,.undef] A:=by
 simp [rg8,IV lp]
theorem El :
  run (ai GC (fsR M6)) 300 (.code rg9 :: K) [.undef,.undef,a2,.undef,.undef,.bool true,.ptr 1 0 0,.int .i64 (n:Int),.ptr 2 0 0,.int .i64 130,.undef,.undef,.undef,.undef,.undef,.undef,.undef,.undef,.undef,.undef,.undef,.undef,.undef,.undef,.undef,.undef,.undef,.undef,.undef,.undef,.undef,.undef,.undef,.undef,.undef,.undef,.undef,.undef,.undef,.undef] A=some (.ret [.undef,.undef,a2,.undef,.bool true,.bool true,.ptr 1 0 0,.int .i64 (n:Int),.ptr 2 0 0,.int .i64 130,.undef,.undef,.undef,.undef,.undef,.undef,.undef,.undef,.undef,.undef,.undef,.undef,.undef,.undef,.undef,.undef,.undef,.undef,.undef,.undef,.undef,.undef,.bool true,.undef,.undef,.undef,.undef,.undef,.undef,.undef] A):=by
 simp [rg9,aq]
theorem Bt  :
  run (ai GC (fsR M6)) 300 (.code rg9 :: K) [.undef,.undef,a2,.undef,.undef,.bool true,.ptr 1 0 0,.int .i64 (n:Int),.ptr 2 0 0,.int .i64 0,.undef,.undef,.undef,.undef,.undef,.undef,.undef,.undef,.undef,.undef,.undef,.undef,.undef,.undef,.undef,.undef,.undef,.undef,.undef,.undef,.undef,.undef,.undef,.undef,.undef,.undef,.undef,.undef,.undef,.undef] A=run (ai GC (fsR M6)) 300 K [.undef,.undef,a2,.undef,.undef,.bool true,.ptr 1 0 0,.int .i64 (n:Int),.ptr 2 0 0,.int .i64 0,.undef,.undef,.undef,.undef,.undef,.undef,.undef,.undef,.undef,.undef,.undef,.undef,.undef,.undef,.undef,.undef,.undef,.undef,.undef,.undef,.undef,.undef,.bool false,.undef,.undef,.undef,.undef,.undef,.undef,.undef] A:=by
 simp [rg9,aq]
theorem xE (hl:af true 5 A (.ptr 1 0 0)=some tv) (hf:aa 1 A (.ptr 2 0 0)=some (.ptr 2 0 1)) (ho:af false 1 A (.ptr 2 0 1)=some ov) (f:frz A 4 tv=tv) (fo:frz A 4 ov=ov) (h16:Clu.M19 [tv,ov]=some (.tup [arcs,.int .i64 0])) :
  run (ai GC (fsR M6)) 300 (.code Ey :: K) [.undef,.undef,a2,.undef,.undef,.bool true,.ptr 1 0 0,.int .i64 (n:Int),.ptr 2 0 0,.int .i64 0,.undef,.undef,.undef,.undef,.undef,.undef,.undef,.undef,.undef,.undef,.undef,.undef,.undef,.undef,.undef,.undef,.undef,.undef,.undef,.undef,.undef,.undef,.bool false,.undef,.undef,.undef,.undef,.undef,.undef,.undef] A=run (ai GC (fsR M6)) 300 K [.undef,.undef,a2,.undef,.undef,.bool true,.ptr 1 0 0,.int .i64 (n:Int),.ptr 2 0 0,.int .i64 0,.undef,.undef,.undef,.undef,.undef,.undef,arcs,.int .i64 0,.undef,.undef,.undef,.undef,.undef,.undef,.undef,.undef,.undef,.undef,.undef,.undef,.undef,.undef,.bool false,.undef,.undef,.undef,.undef,.undef,.undef,.undef] A:=by
 simp [Ey,hl,hf,ho,f,fo,h16,-af,-aa,-frz]
theorem xD (hl:af true 5 A (.ptr 1 0 0)=some tv) (hs:af true 4 A (.ptr 2 0 0)=some sv) (h19:H24 (fun _ _ _=>none) [tv,sv,.int .i64 0] A=some (.tup [lv,.int .i64 0],B)) :
  run (ai GC (fsR M6)) 300 (.code Ex :: K) [.undef,.undef,a2,.undef,.undef,.bool true,.ptr 1 0 0,.int .i64 (n:Int),.ptr 2 0 0,.int .i64 0,.undef,.undef,.undef,.undef,.undef,.undef,arcs,.int .i64 0,.undef,.undef,.undef,.undef,.undef,.undef,.undef,.undef,.undef,.undef,.undef,.undef,.undef,.undef,.bool false,.undef,.undef,.undef,.undef,.undef,.undef,.undef] A=run (ai GC (fsR M6)) 300 K [.undef,.undef,a2,.undef,.undef,.bool true,.ptr 1 0 0,.int .i64 (n:Int),.ptr 2 0 0,.int .i64 0,.undef,.undef,.undef,.undef,.undef,.undef,arcs,.int .i64 0,lv,.int .i64 0,.undef,.undef,.undef,.undef,.undef,.undef,.undef,.undef,.undef,.undef,.undef,.undef,.bool false,.undef,.undef,.undef,.undef,.undef,.undef,.undef] B:=by
 simp [Ex,hl,hs,h19,-af]
theorem xC {p n1:Int} {stv:AV} (hf0:aa 0 A (.ptr 2 0 0)=some (.ptr 2 0 0)) (hp:af false 1 A (.ptr 2 0 0)=some (.int .i64 p)) (hf2:aa 2 A (.ptr 2 0 0)=some (.ptr 2 0 2)) (hst:af false 1 A (.ptr 2 0 2)=some stv) (b1:aq .add (.int .i64 (n:Int)) (.int .i64 1)=some (.int .i64 n1)) (fa:frz A 4 arcs=arcs) (fs:frz A 4 stv=stv) (h20:Cy.M19 [.int .i64 n1,arcs,.int .i64 p,stv]=some (.bool true)) (hl:ay lv=some (.int .i64 (L:Int))) (b2:aq .leq (.int .i64 (L:Int)) (.int .i64 (n:Int))=some (.bool false)) :
  run (ai GC (fsR M6)) 300 (.code Ew :: K) [.undef,.undef,a2,.undef,.undef,.bool true,.ptr 1 0 0,.int .i64 (n:Int),.ptr 2 0 0,.int .i64 0,.undef,.undef,.undef,.undef,.undef,.undef,arcs,.int .i64 0,lv,.int .i64 0,.undef,.undef,.undef,.undef,.undef,.undef,.undef,.undef,.undef,.undef,.undef,.undef,.bool false,.undef,.undef,.undef,.undef,.undef,.undef,.undef] A=run (ai GC (fsR M6)) 300 K [.undef,.undef,a2,.undef,.undef,.bool true,.ptr 1 0 0,.int .i64 (n:Int),.ptr 2 0 0,.int .i64 0,.undef,.undef,.undef,.undef,.undef,.undef,arcs,.int .i64 0,lv,.int .i64 0,.undef,.undef,.undef,.undef,.undef,.undef,.undef,.undef,.undef,.undef,.undef,.undef,.bool false,.bool false,.undef,.undef,.undef,.undef,.undef,.undef] A:=by
 have b00:=cJ 0 0
 rw [decide_eq_false (by simp)] at b00
 simp [Ew,hf0,hp,hf2,hst,b1,fa,fs,h20,hl,b2,b00,aT,-af,-aa,-aq,-ay,-frz]
theorem xB {k off:Int} {x sl:AV} {B1:ac} (hb:a8 2 [] A=some (x,B1)) (hl:ay lv=some (.int .i64 (L:Int))) (b1:aq .sub (.int .i64 (L:Int)) (.int .i64 (n:Int))=some (.int .i64 k)) (b2:aq .sub (.int .i64 k) (.int .i64 1)=some (.int .i64 off)) (hs:bV 2 B1 (some (.int .i64 off)) none lv=some sl) (ha:aO 2 16 B1 x sl=some (av,B)) :
  run (ai GC (fsR M6)) 300 (.code Ev :: K) [.undef,.undef,a2,.undef,.undef,.bool true,.ptr 1 0 0,.int .i64 (n:Int),.ptr 2 0 0,.int .i64 0,.undef,.undef,.undef,.undef,.undef,.undef,arcs,.int .i64 0,lv,.int .i64 0,.undef,.undef,.undef,.undef,.undef,.undef,.undef,.undef,.undef,.undef,.undef,.undef,.bool false,.bool false,.undef,.undef,.undef,.undef,.undef,.undef] A=run (ai GC (fsR M6)) 300 K [.undef,.undef,a2,.undef,.undef,.bool true,.ptr 1 0 0,.int .i64 (n:Int),.ptr 2 0 0,.int .i64 0,.undef,.undef,.undef,.undef,.undef,.undef,arcs,.int .i64 0,lv,.int .i64 0,av,.undef,.undef,.undef,.undef,.undef,.undef,.undef,.undef,.undef,.undef,.undef,.bool false,.bool false,.undef,.undef,.undef,.undef,.undef,.undef] B:=by
 simp [Ev,hb,hl,b1,b2,hs,ha,-a8,-ay,-aq,-bV]
theorem xA (hm:cg 1 8 (.int .i64 0) A (.int .i64 (n:Int)) (.int .i64 (n:Int))=some (cv,B)) :
  run (ai GC (fsR M6)) 300 (.code Eu :: K) [.undef,.undef,a2,.undef,.undef,.bool true,.ptr 1 0 0,.int .i64 (n:Int),.ptr 2 0 0,.int .i64 0,.undef,.undef,.undef,.undef,.undef,.undef,arcs,.int .i64 0,lv,.int .i64 0,av,.undef,.undef,.undef,.undef,.undef,.undef,.undef,.undef,.undef,.undef,.undef,.bool false,.bool false,.undef,.undef,.undef,.undef,.undef,.undef] A=run (ai GC (fsR M6)) 300 K [.undef,.undef,a2,.undef,.undef,.bool true,.ptr 1 0 0,.int .i64 (n:Int),.ptr 2 0 0,.int .i64 0,.undef,.undef,.undef,.undef,.undef,.undef,arcs,.int .i64 0,lv,.int .i64 0,av,cv,.undef,.undef,.undef,.undef,.undef,.undef,.undef,.undef,.undef,.undef,.bool false,.bool false,.undef,.undef,.undef,.undef,.undef,.undef] B:=by
 simp [Eu,hm,-cg]
theorem xz (lp:bM (evC (ai GC (fsR M6)) 300 oG) jN 300 (ph a2 (.bool true) (.ptr 1 0 0) (.int .i64 (n:Int)) (.ptr 2 0 0) lv av cv (.int .i64 0)) A=some (.exit 2 ((ph a2 (.bool true) (.ptr 1 0 0) (.int .i64 (n:Int)) (.ptr 2 0 0) lv av cv (.int .i64 (n:Int))).set 34 (.bool false)) B)) :
  run (ai GC (fsR M6)) 300 (.code Et :: K) [.undef,.undef,a2,.undef,.undef,.bool true,.ptr 1 0 0,.int .i64 (n:Int),.ptr 2 0 0,.int .i64 0,.undef,.undef,.undef,.undef,.undef,.undef,arcs,.int .i64 0,lv,.int .i64 0,av,cv,.undef,.undef,.undef,.undef,.undef,.undef,.undef,.undef,.undef,.undef,.bool false,.bool false,.undef,.undef,.undef,.undef,.undef,.undef] A=run (ai GC (fsR M6)) 300 K [.undef,.undef,a2,.undef,.undef,.bool true,.ptr 1 0 0,.int .i64 (n:Int),.ptr 2 0 0,.undef,.undef,.undef,.undef,.undef,.undef,.undef,.undef,.undef,lv,.undef,av,cv,.undef,.undef,.undef,.undef,.undef,.undef,.undef,.undef,.undef,.undef,.undef,.undef,.undef,.undef,.undef,.undef,.undef,.undef] B:=by
 simp [Et,IU lp]
theorem xy {k:Int} (lp:bM (evC (ai GC (fsR M6)) 300 oD) jM 300 (qF a2 (.bool true) (.ptr 1 0 0) (.int .i64 (n:Int)) (.ptr 2 0 0) lv av cv (.int .i64 1)) A=some (.exit 4 ((qF a2 (.bool true) (.ptr 1 0 0) (.int .i64 (n:Int)) (.ptr 2 0 0) ov av cv (.int .i64 k)).set 35 (.bool false)) B)) :
  run (ai GC (fsR M6)) 300 (.code Es :: K) [.undef,.undef,a2,.undef,.undef,.bool true,.ptr 1 0 0,.int .i64 (n:Int),.ptr 2 0 0,.undef,.undef,.undef,.undef,.undef,.undef,.undef,.undef,.undef,lv,.undef,av,cv,.undef,.undef,.undef,.undef,.undef,.undef,.undef,.undef,.undef,.undef,.undef,.undef,.undef,.undef,.undef,.undef,.undef,.undef] A=run (ai GC (fsR M6)) 300 K [.undef,.undef,a2,.undef,.undef,.bool true,.ptr 1 0 0,.int .i64 (n:Int),.ptr 2 0 0,.undef,.undef,.undef,.undef,.undef,.undef,.undef,.undef,.undef,ov,.undef,.undef,cv,.undef,.undef,.undef,.undef,.undef,.undef,.undef,.undef,.undef,.undef,.undef,.undef,.undef,.undef,.undef,.undef,.undef,.undef] B:=by
 simp [Es,IS lp]
theorem xx {x:Int} {c2 l2:AV} (hl:af true 5 A (.ptr 1 0 0)=some tv) (f:frz A 4 tv=tv) (fc:frz A 4 cv=c2) (fl:frz A 4 lv=l2) (h22:M17 [tv,c2,.int .i64 0,l2]=some (.tup [.int .i64 x,.bool true])) :
  run (ai GC (fsR M6)) 300 (.code Er :: K) [.undef,.undef,a2,.undef,.undef,.bool true,.ptr 1 0 0,.int .i64 (n:Int),.ptr 2 0 0,.undef,.undef,.undef,.undef,.undef,.undef,.undef,.undef,.undef,lv,.undef,.undef,cv,.undef,.undef,.undef,.undef,.undef,.undef,.undef,.undef,.undef,.undef,.undef,.undef,.undef,.undef,.undef,.undef,.undef,.undef] A=run (ai GC (fsR M6)) 300 K [.undef,.undef,a2,.undef,.undef,.bool true,.ptr 1 0 0,.int .i64 (n:Int),.ptr 2 0 0,.undef,.undef,.undef,.undef,.undef,.undef,.undef,.undef,.undef,lv,.undef,.undef,cv,.undef,.undef,.undef,.bool true,.undef,.undef,.undef,.undef,.undef,.undef,.undef,.undef,.undef,.undef,.undef,.undef,.undef,.undef] A:=by
 simp [Er,hl,f,fc,fl,h22,aT,-af,-frz]
theorem xw  :
  run (ai GC (fsR M6)) 300 (.code Eq :: K) [.undef,.undef,a2,.undef,.undef,.bool true,.ptr 1 0 0,.int .i64 (n:Int),.ptr 2 0 0,.undef,.undef,.undef,.undef,.undef,.undef,.undef,.undef,.undef,lv,.undef,.undef,cv,.undef,.undef,.undef,.bool true,.undef,.undef,.undef,.undef,.undef,.undef,.undef,.undef,.undef,.undef,.undef,.undef,.undef,.undef] A=run (ai GC (fsR M6)) 300 K [.undef,.undef,a2,.undef,.undef,.bool true,.ptr 1 0 0,.int .i64 (n:Int),.ptr 2 0 0,.undef,.undef,.undef,.undef,.undef,.undef,.undef,.undef,.undef,lv,.undef,.undef,cv,.undef,.undef,.undef,.bool true,.int .i64 (-1),.undef,.undef,.undef,.undef,.undef,.undef,.undef,.undef,.undef,.undef,.undef,.undef,.undef] A:=by
 simp [Eq,jH]
theorem xu  :
  run (ai GC (fsR M6)) 300 (.code Ep :: K) [.undef,.undef,a2,.undef,.undef,.bool true,.ptr 1 0 0,.int .i64 (n:Int),.ptr 2 0 0,.undef,.undef,.undef,.undef,.undef,.undef,.undef,.undef,.undef,lv,.undef,.undef,cv,.undef,.undef,.undef,.bool true,.int .i64 (-1),.undef,.undef,.undef,.undef,.undef,.undef,.undef,.undef,.undef,.undef,.undef,.undef,.undef] A=run (ai GC (fsR M6)) 300 K [.undef,.undef,a2,.undef,.undef,.bool true,.ptr 1 0 0,.int .i64 (n:Int),.ptr 2 0 0,.undef,.undef,.undef,.undef,.undef,.undef,.undef,.undef,.undef,lv,.undef,.undef,cv,.undef,.undef,.undef,.bool true,.int .i64 (-1),.int .i64 0,.undef,.undef,.undef,.undef,.undef,.undef,.undef,.undef,.undef,.undef,.undef,.undef] A:=by
 simp [Ep,jH]
theorem xr {b k j:Int} (lp:bM (evC (ai GC (fsR M6)) 300 mj) jL 300 (pg a2 (.bool true) (.int .i64 (n:Int)) (.ptr 2 0 0) lv (.bool true) (.int .i64 (-1)) (.int .i64 0) (.int .i64 0)) A=some (.exit 8 ((pg a2 (.bool true) (.int .i64 (n:Int)) (.ptr 2 0 0) lv (.bool true) (.int .i64 b) (.int .i64 k) (.int .i64 j)).set 37 (.bool false)) A)) :
  run (ai GC (fsR M6)) 300 (.code Eo :: K) [.undef,.undef,a2,.undef,.undef,.bool true,.ptr 1 0 0,.int .i64 (n:Int),.ptr 2 0 0,.undef,.undef,.undef,.undef,.undef,.undef,.undef,.undef,.undef,lv,.undef,.undef,cv,.undef,.undef,.undef,.bool true,.int .i64 (-1),.int .i64 0,.undef,.undef,.undef,.undef,.undef,.undef,.undef,.undef,.undef,.undef,.undef,.undef] A=run (ai GC (fsR M6)) 300 K [.undef,.undef,a2,.undef,.undef,.bool true,.undef,.undef,.undef,.undef,.undef,.undef,.undef,.undef,.undef,.undef,.undef,.undef,.undef,.undef,.undef,.undef,.undef,.undef,.undef,.bool true,.undef,.int .i64 k,.undef,.undef,.undef,.undef,.undef,.undef,.undef,.undef,.undef,.undef,.undef,.undef] A:=by
 simp [Eo,IR lp]
theorem xq {cy c k:Int} (h21:Cy.M12 [.int .i64 cy,.int .i64 5]=some (.int .i64 c)) (b1:aq .add (.int .i64 1) (.int .i64 c)=some (.int .i64 k)) :
  run (ai GC (fsR M6)) 300 (.code En :: K) [.undef,.undef,.int .i64 cy,.undef,.undef,.bool true,.undef,.undef,.undef,.undef,.undef,.undef,.undef,.undef,.undef,.undef,.undef,.undef,.undef,.undef,.undef,.undef,.undef,.undef,.undef,.bool true,.undef,.int .i64 k,.undef,.undef,.undef,.undef,.undef,.undef,.undef,.undef,.undef,.undef,.undef,.undef] A=run (ai GC (fsR M6)) 300 K [.undef,.undef,.int .i64 cy,.undef,.bool true,.bool true,.undef,.undef,.undef,.undef,.undef,.undef,.undef,.undef,.undef,.undef,.undef,.undef,.undef,.undef,.undef,.undef,.undef,.undef,.undef,.bool true,.undef,.int .i64 k,.undef,.undef,.undef,.undef,.undef,.undef,.undef,.undef,.undef,.undef,.undef,.undef] A:=by
 have b2:=bI k k
 rw [decide_eq_true rfl] at b2
 simp [En,h21,b1,b2,aT,-aq,-frz]
theorem xp {σ:List AV}:run (ai GC (fsR M6)) 300 (.code Em :: K) σ A=some (.ret σ A):=by
 simp [Em]
end
end Rt
end Tr
namespace Tr
open Cy (GC aT bi aH db dp bJ jk ea t7 m19)
open Clu (bb aX aA chA be Chk iO a7 cn bh cd cJ bI cC cQ cj dZ dQ gR fQ aC fG ba dT jW dR gP mZ)
namespace Rt
theorem fin4 {M6:aG} {a0 a1 a2:AV} (h:(match run (ai GC (fsR M6)) 300 [.code wj] [a0,a1,a2,.undef,.undef,.undef,.undef,.undef,.undef,.undef,.undef,.undef,.undef,.undef,.undef,.undef,.undef,.undef,.undef,.undef,.undef,.undef,.undef,.undef,.undef,.undef,.undef,.undef,.undef,.undef,.undef,.undef,.undef,.undef,.undef,.undef,.undef,.undef,.undef,.undef] [] with | some (.ret σ _)=>σ[4]? | _=>none)=some (.bool true)) :
  evP (ai GC (fsR M6)) 300 mf4 3 [a0,a1,a2]=some (.bool true):=by
 rw [aS _ _ (by rw [yD]; rfl),yD]
 show (match run (ai GC (fsR M6)) 300 [.code wj] [a0,a1,a2,.undef,.undef,.undef,.undef,.undef,.undef,.undef,.undef,.undef,.undef,.undef,.undef,.undef,.undef,.undef,.undef,.undef,.undef,.undef,.undef,.undef,.undef,.undef,.undef,.undef,.undef,.undef,.undef,.undef,.undef,.undef,.undef,.undef,.undef,.undef,.undef,.undef] [] with
  | some (.normal σ A')=>(dt A' σ [.tmp 4]).map fun l=>frz A' 3 (eH l)
  | some (.ret σ A')=>(dt A' σ [.tmp 4]).map fun l=>frz A' 3 (eH l)
  | _=>none)=_
 generalize run (ai GC (fsR M6)) 300 [.code wj] _ []=r at *
 match r,h with
 | some (.ret σ A'),h12=>
  replace h12:σ[4]?=some (.bool true):=h12
  simp [dt,h12]
def zS:MC:=.seq rg9 (.seq Ey (.seq Ex (.seq Ew (.seq Ev (.seq Eu (.seq Et (.seq Es (.seq Er (.seq Eq (.seq Ep (.seq Eo (.seq En (Em)))))))))))))
theorem BK {T:bb} (hv:aX T) (hb:T.blades=1) (hn:1<=T.ch.length/\T.ch.length<=4):1<=(aC T).length/\(aC T).length<=280:=by
 unfold aC
 rw [if_pos hv,hb,decide_eq_true rfl]
 obtain ⟨n,hn'⟩:∃n,n=T.ch.length:=⟨_,rfl⟩
 rw [<-hn'] at hn ⊢
 have:n=1\/n=2\/n=3\/n=4:=by omega
 rcases this with rfl | rfl | rfl | rfl <;> decide +kernel
theorem ld1 {A:ac} {tv:AV} {a b c d e:AV} (h:A[1]?=some (.row 5 false [tv])) (ht:tv=.agg [a,b,c,d,e]):af true 5 A (.ptr 1 0 0)=some tv:=by
 subst ht
 simp only [af,h]; rfl
open Classical in
theorem m19t {n:Int} {a b:AV} {l:List Cy.a6} {p:Int} {s:List Int} (ha:bJ a=some l) (hb:ev b=some s) (h:ea n l p s):Cy.M19 [.int .i64 n,a,.int .i64 p,b]=some (.bool true):=by rw [m19 ha hb,decide_eq_true h]
theorem ev4 {M6:aG} (h6:M6 []=some (.bool true)) {yv:AV} {ys:List (Int × Int)} (hy:SlA 2 (ys.map chA) yv) (hys:∀y∈ys,inI y.1/\inI y.2) {a b c:Int} (ha:inI a) (hb:inI b) (hc:inI c) {cy:Int} (hcy:inI cy) :
  evP (ai GC (fsR M6)) 300 mf4 3 [yv,.agg [.int .i64 a,.int .i64 b,.int .i64 c],.int .i64 cy]=some (.bool true):=by
 refine fin4 ?_
 obtain ⟨T,hT⟩:∃T,T=mkT ys a b c:=⟨_,rfl⟩
 obtain ⟨chv,hchv⟩:∃v,v=slA 2 (T.ch.map chA):=⟨_,rfl⟩
 have m13:=sO hys hy ha hb hc
 rw [show mkA ys a b c=aA T chv by rw [hchv,hT]; rfl] at m13
 obtain ⟨hv,hb1⟩:aX T/\T.blades=1:=by rw [hT]; exact uL ys a b c
 have hn4:1<=T.ch.length/\T.ch.length<=4:=by rw [hT,uM]; exact pE ys
 have hcv:SlA 2 (T.ch.map chA) chv:=by rw [hchv]; exact aR _ _
 have hl:T.ch.length<=200:=by omega
 have ft:∀A,frz A 4 (aA T chv)=aA T chv:=fun A=>a7 (T:=T) (fun A n=>hcv.frz (A:=A) n) A 3
 have nt:bq 4 (aA T chv)=true:=cn (T:=T) (fun n=>hcv.noRef n) 3
 have lc:=hcv.len
 rw [List.length_map] at lc
 obtain ⟨n,hn⟩:∃n,n=T.ch.length:=⟨_,rfl⟩
 rw [<-hn] at lc hn4
 have s3:aE 5 ([.row 3 false [.agg [.int .i64 a,.int .i64 b,.int .i64 c]]]++[.row 5 false [zTl]]) (.ptr 1 0 0) (aA T chv)=some [.row 3 false [.agg [.int .i64 a,.int .i64 b,.int .i64 c]],.row 5 false [aA T chv]]:=rfl
 have m14:=Clu.Hs hcv hl
 have m15:=Clu.wN hcv hl
 obtain ⟨ol1,ol2⟩:=BK hv hb1 (by rw [<-hn]; exact hn4)
 have lo:=(aR 1 ((aC T).map fun l=>slA 1 (ax l))).len
 rw [List.length_map] at lo
 replace lo:ay (fG (aC T))=some (.int .i64 ((aC T).length:Int)):=lo
 have bL:=bI ((aC T).length:Int) 0
 rw [decide_eq_false (by omega)] at bL
 have go1:∀(sc:be) (e:Int),Clu.M22 [aA T chv]=some (.tup [gR sc,.int .i64 e])->(e=0->dZ T=some sc)->sc.period<=1000000 ->
   run (ai GC (fsR M6)) 300 [.code wj] [yv,.agg [.int .i64 a,.int .i64 b,.int .i64 c],.int .i64 cy,.undef,.undef,.undef,.undef,.undef,.undef,.undef,.undef,.undef,.undef,.undef,.undef,.undef,.undef,.undef,.undef,.undef,.undef,.undef,.undef,.undef,.undef,.undef,.undef,.undef,.undef,.undef,.undef,.undef,.undef,.undef,.undef,.undef,.undef,.undef,.undef,.undef] [] =
   run (ai GC (fsR M6)) 300 [.code zS] [.undef,.undef,.int .i64 cy,.undef,.undef,.bool true,.ptr 1 0 0,.int .i64 (n:Int),.ptr 2 0 0,.int .i64 e,.undef,.undef,.undef,.undef,.undef,.undef,.undef,.undef,.undef,.undef,.undef,.undef,.undef,.undef,.undef,.undef,.undef,.undef,.undef,.undef,.undef,.undef,.undef,.undef,.undef,.undef,.undef,.undef,.undef,.undef]
    [.row 3 false [.agg [.int .i64 a,.int .i64 b,.int .i64 c]],.row 5 false [aA T chv],.row 4 false [gR sc]]:=fun sc e m14 hbs hp2=>by
  obtain ⟨i,lp⟩:=Cj (M6:=M6) (S:=[.row 3 false [.agg [.int .i64 a,.int .i64 b,.int .i64 c]],.row 5 false [aA T chv],.row 4 false [gR sc]]) (sc:=sc) (e:=e) hcv hl rfl rfl hbs hp2 hn (.int .i64 cy) (.bool true) ⟨ol1,ol2⟩
  unfold wj
  rw [aW,BB ⟨rfl,rfl⟩,aW,BA h6,aW,Bz (A:=[.row 3 false [.agg [.int .i64 a,.int .i64 b,.int .i64 c]]]) (a1:=.agg [.int .i64 a,.int .i64 b,.int .i64 c]) rfl (hy.frz 4) rfl (hy.noRef 4) rfl m13 s3]
  show run _ _ _ [yv,_,_,_,_,_,.ptr 1 0 0,_,_,_,_,_,_,_,_,_,_,_,_,_,_,_,_,_,_,_,_,_,_,_,_,_,_,_,_,_,_,_,_,_] _=_
  rw [aW,By (cv:=chv) (n:=n) rfl rfl lc,aW,Bx (tv:=aA T chv) (sv:=gR sc) (e:=e) (B:=[.row 3 false [.agg [.int .i64 a,.int .i64 b,.int .i64 c]],.row 5 false [aA T chv],.row 4 false [gR sc]]) rfl (ft _) nt m14 rfl]
  show run _ _ _ [_,_,_,_,_,_,_,_,.ptr 2 0 0,_,_,_,_,_,_,_,_,_,_,_,_,_,_,_,_,_,_,_,_,_,_,_,_,_,_,_,_,_,_,_] _=_
  rw [aW,Bw (tv:=aA T chv) rfl (ft _) m15,aW,Bv lo bL,aW,Bu lp]
  rfl
 cases hbest:dZ T with
 | none=>
  rw [hbest] at m14
  rw [go1 Clu.DL 130 m14 (fun h=>by simp at h) (by decide)]
  unfold zS
  rw [aW,El]
  rfl
 | some s=>
  rw [hbest] at m14
  have hch:=dQ hbest
  obtain ⟨c1,c2,c3,c4,c5⟩:=eC hch
  rw [go1 s 0 m14 (fun _=>hbest) c4.2]
  unfold zS
  have hs:=fQ hch
  rw [<-hn] at c1 c2
  have m16:=Clu.sQ hcv hl (aR 1 (ax s.order))
  rw [dT hch.1] at m16
  have m16:Clu.M19 [aA T chv,slA 1 (ax s.order)]=some (.tup [dR (ba T s.order),.int .i64 0]):=m16
  have fo:=fun A=>(aR 1 (ax s.order)).frz (A:=A) 4
  have fst:=fun A=>(aR 1 (ax s.starts)).frz (A:=A) 4
  have fa:∀A,frz A 4 (dR (ba T s.order))=dR (ba T s.order):=fun A=>(aR 4 ((ba T s.order).map dp)).frz (A:=A) 4
  have hver:=hch.2.2.1
  obtain ⟨v1,v2⟩:=t7 hver
  have m20:=m19t (gP hch.1) (jk (by omega) v2) hver
  obtain ⟨S,hS⟩:∃S:ac,S=[.row 3 false [.agg [.int .i64 a,.int .i64 b,.int .i64 c]],.row 5 false [aA T chv],.row 4 false [gR s]]:=⟨_,rfl⟩
  rw [<-hS]
  have hSl:S.length=3:=by rw [hS]; rfl
  have hS1:S[1]?=some (.row 5 false [aA T chv]):=by rw [hS]; rfl
  have hS2:S[2]?=some (.row 4 false [gR s]):=by rw [hS]; rfl
  have lt5:∀ {A:ac},A[1]?=some (.row 5 false [aA T chv])->af true 5 A (.ptr 1 0 0)=some (aA T chv):=fun h=>ld1 h rfl
  have ls4:∀ {A:ac},A[2]?=some (.row 4 false [gR s])->af true 4 A (.ptr 2 0 0)=some (gR s):=fun h=>by simp only [af,h]; rfl
  obtain ⟨g0,g1,g2,g3⟩:=DD hS2
  have hk:=te s.order n
  obtain ⟨k,hkk⟩:∃k:Nat,kF s.order n=k:=⟨(kF s.order n).toNat,by omega⟩
  have hok:zf T s 0:=⟨⟨hv,hb1⟩,hch,by omega,by omega⟩
  have h24:=HA (free:=0) S hcv hl hs hok (R:=k+1) (by rw [<-hn,hkk]; rfl)
  obtain ⟨l,hll⟩:∃l,l=b7 T s 0 (k+1):=⟨_,rfl⟩
  rw [<-hll] at h24
  obtain ⟨last,hlast⟩:∃last,last=s.order.map (tk T s 0 k):=⟨_,rfl⟩
  have hlal:last.length=n+1:=by rw [hlast,List.length_map,c1]
  have hsplit:l=b7 T s 0 k++last:=by rw [hll,dv,oW hch 0 (by rw [<-hn]; omega),hlast]
  have hlen:=js hch 0 k
  rw [<-hn] at hlen
  have hk4:k<=4:=by omega
  have hmul:(n+1)*k<=5*4:=Nat.mul_le_mul (by omega) hk4
  have hln:l.length=(b7 T s 0 k).length+(n+1):=by rw [hsplit,List.length_append,hlal]
  have hlne:l≠[]:=fun e=>by rw [e] at hln; simp at hln
  obtain ⟨B,hB⟩:∃B,B=Fa.A24 S (aA T chv) (aP s (slA 1 (ax s.order)) (slA 1 (ax s.starts)) (slA 1 (ax s.proof))) (inF s.order T.ch.length (T.ch.length+1))++Fa.oR l:=⟨_,rfl⟩
  rw [<-hB] at h24
  have eR:Fa.oR l=[.row 2 (decide (1<l.length)) (l.map bY)]:=if_neg hlne
  have eV:Fa.outV S l=.sl 6 0 l.length:=by
   show (if l=[] then AV.nilS else .sl (S.length+3) 0 l.length)=_
   rw [if_neg hlne,hSl]
  rw [eV] at h24
  have h24':H24 (fun _ _ _=>none) [aA T chv,gR s,.int .i64 0] S=some (.tup [.sl 6 0 l.length,.int .i64 0],B):=h24
  have hAl:=Fa.A24_len S (aA T chv) (aP s (slA 1 (ax s.order)) (slA 1 (ax s.starts)) (slA 1 (ax s.proof))) (inF s.order T.ch.length (T.ch.length+1))
  have hBl:B.length=7:=by rw [hB,eR,List.length_append,hAl,hSl]; rfl
  have hBj:∀j,j<3->B[j]?=S[j]?:=fun j hj=>by
   rw [hB,List.getElem?_append_left (by omega)]
   unfold Fa.A24
   rw [List.getElem?_append_left (by omega)]
  have hB6:B[6]?=some (.row 2 (decide (1<l.length)) (l.map bY)):=by
   rw [hB,eR,List.getElem?_append_right (by omega),hAl,hSl]; rfl
  have hB1:B[1]?=some (.row 5 false [aA T chv]):=by rw [hBj 1 (by omega)]; exact hS1
  have hB2:B[2]?=some (.row 4 false [gR s]):=by rw [hBj 2 (by omega)]; exact hS2
  obtain ⟨j0,_,j2,_⟩:=DD hB2
  have j3:aa 2 B (.ptr 2 0 0)=some (.ptr 2 0 2):=by simp [aa,hB2]
  have j4:af false 1 B (.ptr 2 0 2)=some (slA 1 (ax s.starts)):=eP (k:=4) (es:=[.int .i64 s.period,slA 1 (ax s.order),slA 1 (ax s.starts),slA 1 (ax s.proof)]) hB2 rfl
  have b1:aq .add (.int .i64 (n:Int)) (.int .i64 1)=some (.int .i64 (s.order.length:Int)):=by rw [bh (by omega),c1]; rfl
  have b2:=cj (l.length:Int) (n:Int)
  rw [decide_eq_false (by omega)] at b2
  have lnl:ay (.sl 6 0 l.length)=some (.int .i64 (l.length:Int)):=rfl
  have bs2:a8 2 [] B=some (.sl 7 0 0,B++[.row 2 false []]):=by simp [a8,hBl]
  have b3:aq .sub (.int .i64 (l.length:Int)) (.int .i64 (n:Int))=some (.int .i64 ((l.length:Int)-n)):=cd (by omega)
  obtain ⟨off,hoff⟩:∃off,off=(b7 T s 0 k).length:=⟨_,rfl⟩
  rw [<-hoff] at hln hlen
  have hoff2:off<=1000:=by omega
  have b4:aq .sub (.int .i64 ((l.length:Int)-n)) (.int .i64 1)=some (.int .i64 (off:Int)):=by rw [cd (DO hln hoff2),zT hln]
  have hBr7:(B++[Ent.row 2 false []])[6]?=some (.row 2 (decide (1<l.length)) (l.map bY)):=by rw [List.getElem?_append_left (by omega)]; exact hB6
  have sl:bV 2 (B++[.row 2 false []]) (some (.int .i64 (off:Int))) none (.sl 6 0 l.length)=some (.sl 6 off (n+1)):=by
   simp only [bV,hBr7]
   rw [if_pos trivial]
   have e:l.length-off=n+1:=xc hln
   have e2:off<=l.length:=xb hln
   simp [cK,e,e2]
  have src:aQ 2 (B++[.row 2 false []]) (.sl 6 off (n+1))=some (last.map bY):=by
   simp only [aQ,hBr7]
   rw [if_pos trivial,hsplit,List.map_append,List.drop_left' (by rw [List.length_map,hoff]),List.take_of_length_le (by rw [List.length_map,hlal]; omega)]
  have ap:=tB (esz:=2) (bytes:=16) (by omega) (by omega) hBl.symm src (by rw [List.length_map]; omega)
  rw [List.length_map,hlal] at ap
  obtain ⟨X,hX⟩:∃X,X=B++[Ent.dead,.row 2 false (last.map bY)]:=⟨_,rfl⟩
  rw [<-hX] at ap
  have hXl:X.length=9:=by rw [hX,List.length_append,hBl]; rfl
  have hXj:∀j,j<7->X[j]?=B[j]?:=fun j hj=>by rw [hX,List.getElem?_append_left (by omega)]
  have hX8:X[8]?=some (.row 2 false (last.map bY)):=by rw [hX,List.getElem?_append_right (by omega),hBl]; rfl
  have mk:cg 1 8 (.int .i64 0) X (.int .i64 (n:Int)) (.int .i64 (n:Int))=some (.sl 9 0 n,X++[.row 1 false (ax (ngF n 0))]):=by
   simp only [cg]
   rw [if_pos ⟨by omega,by omega,by omega,by omega,rfl,rfl,by omega⟩,Int.toNat_natCast,hXl,xI]
   unfold ax
   rw [List.map_replicate]
  have lp1:=Ci (E:=ai GC (fsR M6)) hXl (n:=n) (by omega) (.int .i64 cy) (.bool true) (.ptr 1 0 0) (.ptr 2 0 0) (.sl 6 0 l.length) (.sl 8 0 (n+1)) n 0 300 (by omega) (by omega)
  rw [show ((0:Nat):Int)=0 from rfl] at lp1
  obtain ⟨Q,hQ⟩:∃Q,Q=X++[Ent.row 1 false (ax (ngF n n))]:=⟨_,rfl⟩
  rw [<-hQ] at lp1
  have hQj:∀j,j<9->Q[j]?=X[j]?:=fun j hj=>by rw [hQ,List.getElem?_append_left (by omega)]
  have hQl:Q.length=10:=by rw [hQ,List.length_append,hXl]; rfl
  have hQ9:Q[9]?=some (.row 1 false (ax (ngF n n))):=by rw [hQ,List.getElem?_append_right (by omega),hXl]; rfl
  have hQ6:Q[6]?=some (.row 2 (decide (1<l.length)) (l.map bY)):=by rw [hQj 6 (by omega),hXj 6 (by omega)]; exact hB6
  have hF7:F7 Q s last:=⟨by rw [hQj 2 (by omega),hXj 2 (by omega)]; exact hB2,by rw [hQj 8 (by omega)]; exact hX8,by omega⟩
  have hXX:X7 Q (decide (1<l.length)) l=Q:=by
   unfold X7
   obtain ⟨h7,e7⟩:=List.getElem?_eq_some_iff.1 hQ6
   rw [<-e7,List.set_getElem_self]
  have hC6:=c9 cy 5 (by omega)
  obtain ⟨C,hC⟩:∃C:Nat,pick cy 5=C:=⟨(pick cy 5).toNat,by omega⟩
  have hw:=eY hv
  have hsm:∀r,r<=100->∀t∈s.order,(tk T s 0 r t).2<=1000000000:=fun r hr t ht=>xa hv hbest (by omega) hr ht
  have hlo:∀(r:Nat) (t:Int),-10000000000<=(tk T s 0 r t).2:=fun r t=>by
   have h2:=sW hch t.toNat
   have h3:=sW hch 0
   have h5:0<=(r:Int)*s.period:=Int.mul_nonneg (by omega) (by omega)
   show _<=bsF T s 0+(r:Int)*s.period+stD s t.toNat
   unfold bsF
   omega
  have hlt:∀t∈last,-10000000000<=t.2/\t.2<=10000000000:=fun t ht=>by
   rw [hlast] at ht
   obtain ⟨u,hu,rfl⟩:=List.mem_map.1 ht
   have h1:=hsm k (by omega) u hu
   exact ⟨hlo k u,by omega⟩
  obtain ⟨f,hfe⟩:∃f:Nat->List da,∀r,f r=b7 T s 0 (k+r):=⟨fun r=>b7 T s 0 (k+r),fun _=>rfl⟩
  have hkr:∀r:Nat,kF s.order T.ch.length<=((k+r:Nat):Int):=fun r=>by rw [<-hn,hkk]; omega
  have hf:∀r,f (r+1)=f r++last.map (shT s.period r):=fun r=>by
   rw [hfe,hfe,show k+(r+1)=(k+r)+1 from rfl,dv,oW hch 0 (hkr r),hlast,List.map_map,List.map_congr_left fun t _=>Ei T s 0 k r t]
  have hfne:∀r,1<=r->f r≠[]:=fun r hr=>by
   obtain ⟨r',rfl⟩:∃r',r=r'+1:=⟨r-1,by omega⟩
   obtain ⟨rest,e⟩:=pT hch 0 (k+r')
   rw [hfe,show k+(r'+1)=k+r'+1 from rfl,e]
   simp
  have hfl:∀r,r<=10->(f r).length<=800:=fun r hr=>by
   have h1:=js hch 0 (k+r)
   rw [<-hn,<-hfe] at h1
   have h2:(n+1)*(k+r)<=5*14:=Nat.mul_le_mul (by omega) (by omega)
   exact Nat.le_trans h1 (Nat.le_trans h2 (by decide))
  have hf1:f 1=l:=by rw [hfe,hll]
  obtain ⟨g',lp3⟩:=Fq (M6:=M6) hF7 hlal (by omega) ⟨by omega,c4.2⟩ hlt (.bool true) (.ptr 1 0 0) (.sl 9 0 n) hcy hC (f:=f) hf hfne hfl C 1 300 (decide (1<l.length)) (by omega) (by omega) (by omega)
  unfold s7d at lp3
  rw [hf1,hXX,show ((1:Nat):Int)=1 from rfl,hfe] at lp3
  obtain ⟨lf,hlf⟩:∃lf,lf=b7 T s 0 (k+(C+1)):=⟨_,rfl⟩
  rw [<-hlf] at lp3
  have hlfl:lf.length<=200:=by
   have h1:=js hch 0 (k+(C+1))
   rw [<-hn,<-hlf] at h1
   have:(n+1)*(k+(C+1))<=5*10:=Nat.mul_le_mul (by omega) (by omega)
   omega
  obtain ⟨Y,hY⟩:∃Y,Y=X7 Q g' lf:=⟨_,rfl⟩
  rw [<-hY] at lp3
  have hYj:∀j,j≠6->Y[j]?=Q[j]?:=fun j hj=>by rw [hY]; exact wy hj
  have hY6:Y[6]?=some (.row 2 g' (lf.map bY)):=by rw [hY]; exact zv (by omega) _ _
  have hY9:Y[9]?=some (.row 1 false (ax (ngF n n))):=by rw [hYj 9 (by omega)]; exact hQ9
  have hY1:Y[1]?=some (.row 5 false [aA T chv]):=by rw [hYj 1 (by omega),hQj 1 (by omega),hXj 1 (by omega)]; exact hB1
  have hY2:Y[2]?=some (.row 4 false [gR s]):=by rw [hYj 2 (by omega),hQj 2 (by omega),hXj 2 (by omega)]; exact hB2
  have fl:frz Y 4 (.sl 6 0 lf.length)=.fs 2 (lf.map bY):=vp hY6
  have fi:frz Y 4 (.sl 9 0 n)=.fs 1 (ax (ngF n n)):=lz hY9 (jK n n).symm 2
  have m17:M17 [aA T chv,.fs 1 (ax (ngF n n)),.int .i64 0,.fs 2 (lf.map bY)]=some (.tup [.int .i64 ((DJ T (ngF n n) 0 lf).getD 0),.bool (DJ T (ngF n n) 0 lf).isSome]):=Ht (T:=T) hcv hl (.inr rfl) (by rw [jK]; omega) 0 (.inr rfl) hlfl
  have hchk:(DJ T (ngF n n) 0 lf).isSome=true:=by
   have hng:∀t∈ngF n n,t = -1:=fun t ht=>by rw [xJ] at ht; exact List.eq_of_mem_replicate ht
   have hsit:Sit T (ngF n n) 0:=⟨⟨hv,hb1⟩,by rw [jK,hn],by omega,fun t ht=>by rw [hng t ht]; omega⟩
   obtain ⟨y,y1,_⟩:=vx (free:=0) hch hb1 hv (k+(C+1)) (fun r hr t ht=>hsm r (by omega) t ht) (st0 (ngF n n) 0) (by show (ngF n n).length=_; rw [jK,hn]) (fun j hj=>by
    show (ngF n n).getD j 0 = -1
    have hjl:j<(ngF n n).length:=by rw [jK,hn]; exact hj
    rw [List.getD_eq_getElem?_getD,List.getElem?_eq_getElem hjl]
    exact hng _ (List.getElem_mem hjl)) rfl (by omega)
   unfold DJ
   rw [if_pos hsit,hlf,y1]; rfl
  rw [hchk] at m17
  obtain ⟨q1,q2⟩:=n7 hch 0 (k:=k) (by rw [<-hn]; exact hkk) C
  rw [<-hlf,<-hn] at q1 q2
  have hlfb:∀t∈lf,-100000000000<=t.2/\t.2<=100000000000:=fun t ht=>by
   rw [hlf] at ht
   unfold b7 at ht
   obtain ⟨r,hr,ht⟩:=List.mem_flatMap.1 ht
   unfold cyc at ht
   obtain ⟨u,hu,rfl⟩:=List.mem_map.1 ht
   have hr:=List.mem_range.1 hr
   have h1:=hsm r (by omega) u (List.mem_filter.1 hu).1
   have h2:=hlo r u
   omega
  have lp4:=uR (E:=ai GC (fsR M6)) hY2 hY6 (by omega) (n:=n) hlfb (.int .i64 cy) (.bool true) (.bool true) lf [] (-1) 0 300 rfl (by omega) (by omega) ⟨by omega,by simp⟩ q2
  rw [q1] at lp4
  have m12:=db hcy (n:=5) (by omega)
  rw [hC] at m12
  have b5:aq .add (.int .i64 1) (.int .i64 (C:Int))=some (.int .i64 ((C+1:Nat):Int)):=by rw [bh (by omega),show (1:Int)+(C:Int)=((C+1:Nat):Int) by omega]
  rw [aW,Bt,aW,xE (lt5 hS1) g1 g3 (ft _) (fo _) m16,aW,xD (lt5 hS1) (ls4 hS2) h24',aW,xC j0 j2 j3 j4 b1 (fa _) (fst _) m20 lnl b2,aW,xB bs2 lnl b3 b4 sl ap,aW,xA mk,aW,xz lp1,aW,xy lp3,
   aW,xx (lt5 hY1) (ft _) fi fl m17,aW,xw,aW,xu,aW,xr lp4,aW,xq m12 b5,xp]
  rfl
end Rt
end Tr
def Fo:MC:=.seq (.seq (.region [⟨none,.mv (.var 2),none⟩,⟨some 7,.bin .lss (.tmp 0) (.cst (.int .i64 3)),none⟩]) (.cond (.var 7) .skip (.exit 0))) (.seq (.seq (.block 1 (.seq (.region [⟨none,.mv (.var 2),none⟩,⟨none,.buildSlice 1 [.tmp 0],none⟩,⟨none,.build [.int .i64 0,.nilS,.int .i64 0,.int .i64 0,.nilS,.int .i64 0,.int .i64 0] [(0,(1,.cst (.int .i64 1))),(1,(1,.tmp 1)),(2,(1,.cst (.int .i64 10))),(3,(1,.cst (.int .i64 20))),(5,(1,.cst (.int .i64 (-1))))],none⟩,⟨some 3,.alloc 7 (.agg [.int .i64 0,.nilS,.int .i64 0,.int .i64 0,.nilS,.int .i64 0,.int .i64 0]),none⟩,⟨none,.store 7 (.var 3) (.tmp 2),none⟩]) (.seq (.seq (.region [⟨none,.mv (.var 2),none⟩,⟨some 8,.bin .lss (.tmp 0) (.cst (.int .i64 2)),none⟩]) (.cond (.var 8) (.region [⟨none,.mv (.var 2),none⟩,⟨none,.bin .add (.tmp 0) (.cst (.int .i64 1)),none⟩,⟨none,.buildSlice 1 [.tmp 1],none⟩,⟨none,.fieldAddr 4 (.var 3),none⟩,⟨none,.store 1 (.tmp 3) (.tmp 2),none⟩]) .skip)) (.region [⟨none,.fieldAddr 2 (.var 1),none⟩,⟨none,.load false 1 (.tmp 0),none⟩,⟨none,.load true 7 (.var 3),none⟩,⟨none,.buildSlice 7 [.tmp 2],none⟩,⟨none,.append 7 88 (.tmp 1) (.tmp 3),none⟩,⟨none,.fieldAddr 2 (.var 1),none⟩,⟨none,.store 1 (.tmp 5) (.tmp 4),none⟩])))) (.kill [0,3,4,5,6,7,8])) (.region [⟨none,.mv (.var 2),none⟩,⟨none,.bin .add (.tmp 0) (.cst (.int .i64 1)),none⟩,⟨some 2,.mv (.tmp 1),none⟩]))
def mf6:bC:=⟨0,9,.seq (.region [⟨some 0,.mv (.cst (.bool false)),none⟩]) (.seq (.region [⟨none,.build [.int .i64 0,.int .i64 0,.int .i64 0] [(0,(1,.cst (.int .i64 0))),(1,(1,.cst (.int .i64 2))),(2,(1,.cst (.int .i64 13)))],none⟩,⟨none,.buildSlice 3 [.tmp 0],none⟩,⟨none,.build [.int .i64 0,.int .i64 0,.nilS,.nilS] [(0,(1,.cst (.int .i64 2))),(1,(1,.cst (.int .i64 5))),(3,(1,.tmp 1))],none⟩,⟨some 1,.alloc 4 (.agg [.int .i64 0,.int .i64 0,.nilS,.nilS]),none⟩,⟨none,.store 4 (.var 1) (.tmp 2),none⟩]) (.seq (.seq (.region [⟨some 2,.mv (.cst (.int .i64 0)),none⟩]) (.seq (.block 0 (.loop [0,3,4,5,6,7,8] Fo)) (.kill [0,2,3,4,5,6,7,8]))) (.seq (.region [⟨none,.load true 4 (.var 1),none⟩,⟨none,.call (.fn 26) [.tmp 0],none⟩,⟨some 4,.alloc 2 (.agg [.int .i64 0,.nilS]),none⟩,⟨none,.store 2 (.var 4) (.tmp 1),none⟩]) (.seq (.region [⟨none,.build [.int .i64 0,.int .i64 0] [(0,(1,.cst (.int .i64 1))),(1,(1,.cst (.int .i64 5)))],none⟩,⟨none,.build [.int .i64 0,.int .i64 0] [(0,(1,.cst (.int .i64 2))),(1,(1,.cst (.int .i64 29)))],none⟩,⟨none,.build [.int .i64 0,.int .i64 0,.int .i64 0,.int .i64 0,.int .i64 0,.int .i64 0] [(0,(1,.cst (.int .i64 10))),(1,(1,.cst (.int .i64 20))),(2,(2,.tmp 0)),(4,(2,.tmp 1))],none⟩,⟨some 5,.alloc 6 (.agg [.int .i64 0,.int .i64 0,.int .i64 0,.int .i64 0,.int .i64 0,.int .i64 0]),none⟩,⟨none,.store 6 (.var 5) (.tmp 2),none⟩]) (.seq (.region [⟨none,.load true 6 (.var 5),none⟩,⟨none,.buildSlice 6 [.tmp 0],none⟩,⟨none,.build [.int .i64 0,.int .i64 0,.int .i64 0,.nilS,.nilS] [(1,(1,.cst (.int .i64 1))),(2,(1,.cst (.int .i64 5))),(3,(1,.tmp 1))],none⟩,⟨none,.call (.fn 27) [.tmp 2],none⟩,⟨none,.mv (.tmp 3),none⟩,⟨none,.extract (.tmp 4) 0,none⟩,⟨none,.extract (.tmp 4) 1,none⟩,⟨none,.alloc 5 (.agg [.nilS,.nilS,.int .i64 0,.int .i64 0,.int .i64 0]),none⟩,⟨none,.store 5 (.tmp 7) (.tmp 5),none⟩,⟨some 6,.mv (.tmp 6),none⟩]) (.seq (.region [⟨none,.fieldAddr 0 (.var 4),none⟩,⟨none,.load false 1 (.tmp 0),none⟩,⟨none,.bin .eql (.tmp 1) (.cst (.int .i64 3)),none⟩,⟨none,.mv (.tmp 2),none⟩,⟨none,.fieldAddr 1 (.var 4),some (.tmp 3,true)⟩,⟨none,.load false 1 (.tmp 4),some (.tmp 3,true)⟩,⟨none,.buildSlice 1 [.cst (.int .i64 0),.cst (.int .i64 1),.cst (.int .i64 2)],some (.tmp 3,true)⟩,⟨none,.call (.fn 28) [.tmp 5,.tmp 6],some (.tmp 3,true)⟩,⟨none,.pick (.tmp 3) (.tmp 7) (.cst (.bool false)),none⟩,⟨none,.mv (.tmp 8),none⟩,⟨none,.mv (.var 6),some (.tmp 9,true)⟩,⟨none,.pick (.tmp 9) (.tmp 10) (.cst (.bool false)),none⟩,⟨some 0,.mv (.tmp 11),none⟩]) .ret)))))),[.tmp 0]⟩
theorem Kk:aB Tryz.prog Tryz.f6 0 [0,1,2,3,4,5,7,12,19] [] false ([[0,3,4,5,6,7,8]],[[0,3,4,5,6,7,8],[0,2,3,4,5,6,7,8]])=some mf6:=by kernel_rfl
theorem at6:Tryz.prog.funcs[6]?=some Tryz.f6:=by kernel_rfl
def eK:MC:=.seq (.region [⟨some 10,.bin .lss (.var 9) (.var 8),none⟩]) (.seq (.cond (.var 10) .skip (.exit 0)) (.seq (.seq (.block 1 (.seq (.region [⟨none,.indexSl 3 (.var 7) (.var 9),none⟩,⟨none,.load true 3 (.tmp 0),none⟩,⟨some 3,.alloc 3 (.agg [.int .i64 0,.int .i64 0,.int .i64 0]),none⟩,⟨none,.store 3 (.var 3) (.tmp 1),none⟩]) (.seq (.region [⟨none,.load true 4 (.var 1),none⟩,⟨none,.load true 3 (.var 3),none⟩,⟨none,.call (.fn 72) [.tmp 0,.tmp 1],none⟩,⟨none,.mv (.tmp 2),none⟩,⟨none,.extract (.tmp 3) 0,none⟩,⟨none,.extract (.tmp 3) 1,none⟩,⟨some 4,.alloc 2 (.agg [.int .i64 0,.nilS]),none⟩,⟨none,.store 2 (.var 4) (.tmp 4),none⟩,⟨some 5,.mv (.tmp 5),none⟩]) (.seq (.region [⟨some 11,.mv (.var 5),none⟩]) (.cond (.var 11) (.seq (.region [⟨none,.load true 2 (.var 4),none⟩,⟨none,.store 2 (.var 2) (.tmp 0),none⟩]) .ret) .skip))))) (.kill [0,3,4,5,6,10,11])) (.region [⟨none,.bin .add (.var 9) (.cst (.int .i64 1)),none⟩,⟨some 9,.mv (.tmp 0),none⟩])))
def pF:bC:=⟨1,12,.seq (.region [⟨some 1,.box (.var 0),none⟩,⟨some 2,.alloc 2 (.agg [.int .i64 0,.nilS]),none⟩]) (.seq (.seq (.region [⟨none,.load true 4 (.var 1),none⟩,⟨none,.call (.fn 71) [.tmp 0],none⟩,⟨some 6,.un .not (.tmp 1),none⟩]) (.cond (.var 6) (.seq (.region [⟨none,.build [.int .i64 0,.nilS] [],none⟩,⟨none,.store 2 (.var 2) (.tmp 0),none⟩]) .ret) .skip)) (.seq (.seq (.region [⟨none,.fieldAddr 3 (.var 1),none⟩,⟨some 7,.load false 1 (.tmp 0),none⟩,⟨some 8,.lenSl (.var 7),none⟩,⟨some 9,.mv (.cst (.int .i64 0)),none⟩]) (.seq (.block 0 (.loop [0,3,4,5,6,10,11] eK)) (.kill [0,1,3,4,5,6,7,8,9,10,11]))) (.seq (.region [⟨none,.build [.int .i64 0,.nilS] [],none⟩,⟨none,.store 2 (.var 2) (.tmp 0),none⟩]) .ret))),[.cell 2 true 2]⟩
def dO:List Nat:=[0,3,4,5,6,10,11]
abbrev gX (v1 v2 v7 v8 v9:AV):List AV:=[.undef,v1,v2,.undef,.undef,.undef,.undef,v7,v8,v9,.undef,.undef]
theorem qe {d0 v1 v2 d3 d4 d5 d6 v7 v8 v9 d10 d11:AV}:clear dO [d0,v1,v2,d3,d4,d5,d6,v7,v8,v9,d10,d11]=gX v1 v2 v7 v8 v9:=rfl
theorem sj {E:Env} {fuel:Nat} {A:ac} {o:Out} {k:List KC} {d0 v1 v2 d3 d4 d5 d6 v7 v8 v9 d10 d11:AV} (h:bM (evC E fuel eK) dO fuel (gX v1 v2 v7 v8 v9) A=some o) :
  run E fuel (.code (.loop [0,3,4,5,6,10,11] eK) :: k) [d0,v1,v2,d3,d4,d5,d6,v7,v8,v9,d10,d11] A=after E fuel k o:=aU dO _ _ (by rw [qe]; exact h)
theorem qd:aB Tryz.prog Tryz.f26 1 [0,1,2,4,5,6,9,12,13,14,15,24] [] true ([[0,3,4,5,6,10,11]],[[0,3,4,5,6,10,11],[0,1,3,4,5,6,7,8,9,10,11]])=some pF:=by kernel_rfl
theorem G4:Tryz.prog.funcs[26]?=some Tryz.f26:=by kernel_rfl
def di:MC:=.region [⟨some 4,.alloc 5 (.agg [.nilS,.nilS,.int .i64 0,.int .i64 0,.int .i64 0]),none⟩,⟨none,.store 5 (.var 4) (.var 9),none⟩]
def fH:MC:=.seq (.block 1 (.seq (.region [⟨none,.load true 5 (.var 1),none⟩,⟨none,.load true 5 (.var 4),none⟩,⟨none,.call (.fn 12) [.tmp 0,.tmp 1],none⟩,⟨none,.mv (.tmp 2),none⟩,⟨none,.extract (.tmp 3) 0,none⟩,⟨none,.extract (.tmp 3) 1,none⟩,⟨none,.extract (.tmp 3) 2,none⟩,⟨some 5,.alloc 2 (.agg [.int .i64 0,.int .i64 0]),none⟩,⟨none,.mv (.tmp 4),none⟩,⟨none,.store 2 (.var 5) (.tmp 5),none⟩,⟨none,.mv (.tmp 6),none⟩]) (.seq (.region [⟨none,.fieldAddr 0 (.var 5),none⟩,⟨none,.load false 1 (.tmp 0),none⟩,⟨some 10,.bin .neq (.tmp 1) (.cst (.int .i64 0)),none⟩]) (.cond (.var 10) (.seq (.region [⟨none,.load true 5 (.var 4),none⟩,⟨none,.store 5 (.var 2) (.tmp 0),none⟩,⟨none,.store 1 (.var 3) (.cst (.bool false)),none⟩]) .ret) .skip)))) (.kill [0,1,2,3,4,5,6,7,8,9,10])
def tI:bC:=⟨1,11,.seq (.region [⟨some 1,.box (.var 0),none⟩,⟨some 2,.alloc 5 (.agg [.nilS,.nilS,.int .i64 0,.int .i64 0,.int .i64 0]),none⟩,⟨some 3,.alloc 1 (.bool false),none⟩]) (.seq (.seq (.region [⟨none,.load true 5 (.var 1),none⟩,⟨some 6,.call (.fn 73) [.tmp 0],none⟩]) (.cond (.var 6) (.seq (.region [⟨none,.build [.nilS,.nilS,.int .i64 0,.int .i64 0,.int .i64 0] [],none⟩,⟨none,.store 5 (.var 2) (.tmp 0),none⟩,⟨none,.store 1 (.var 3) (.cst (.bool true)),none⟩]) .ret) .skip)) (.seq (.seq (.region [⟨none,.load true 5 (.var 1),none⟩,⟨some 7,.call (.fn 74) [.tmp 0],none⟩]) (.cond (.var 7) (.seq (.region [⟨none,.load true 5 (.var 1),none⟩,⟨some 8,.call (.fn 75) [.tmp 0],none⟩]) (.seq (.block 0 (.rangeFunc (.var 8) [9] di fH)) (.kill [0,1,4,5,6,7,8,9,10]))) .skip)) (.seq (.region [⟨none,.build [.nilS,.nilS,.int .i64 0,.int .i64 0,.int .i64 0] [],none⟩,⟨none,.store 5 (.var 2) (.tmp 0),none⟩,⟨none,.store 1 (.var 3) (.cst (.bool false)),none⟩]) .ret))),[.cell 2 true 5,.cell 3 false 1]⟩
theorem qc:aB Tryz.prog Tryz.f27 1 [0,1,2,3,4,6,9,12,14,15,25] [] true ([],[[0,1,2,3,4,5,6,7,8,9,10],[0,1,4,5,6,7,8,9,10]])=some tI:=by kernel_rfl
theorem G3:Tryz.prog.funcs[27]?=some Tryz.f27:=by kernel_rfl
def Fp:MC:=.seq (.seq (.region [⟨none,.mv (.var 3),none⟩,⟨none,.mv (.var 0),none⟩,⟨none,.lenSl (.tmp 1),none⟩,⟨some 5,.bin .lss (.tmp 0) (.tmp 2),none⟩]) (.cond (.var 5) .skip (.exit 0))) (.seq (.seq (.block 1 (.seq (.region [⟨none,.mv (.var 0),none⟩,⟨none,.mv (.var 3),none⟩,⟨none,.indexSl 1 (.tmp 0) (.tmp 1),none⟩,⟨none,.load false 1 (.tmp 2),none⟩,⟨none,.mv (.var 1),none⟩,⟨none,.mv (.var 3),none⟩,⟨none,.indexSl 1 (.tmp 4) (.tmp 5),none⟩,⟨none,.load false 1 (.tmp 6),none⟩,⟨some 6,.bin .neq (.tmp 3) (.tmp 7),none⟩]) (.cond (.var 6) (.seq (.region [⟨some 2,.mv (.cst (.bool false)),none⟩]) .ret) .skip))) (.kill [2,4,5,6])) (.region [⟨none,.mv (.var 3),none⟩,⟨none,.bin .add (.tmp 0) (.cst (.int .i64 1)),none⟩,⟨some 3,.mv (.tmp 1),none⟩]))
def LZ:bC:=⟨2,7,.seq (.region [⟨some 2,.mv (.cst (.bool false)),none⟩]) (.seq (.seq (.region [⟨none,.mv (.var 0),none⟩,⟨none,.lenSl (.tmp 0),none⟩,⟨none,.mv (.var 1),none⟩,⟨none,.lenSl (.tmp 2),none⟩,⟨some 4,.bin .neq (.tmp 1) (.tmp 3),none⟩]) (.cond (.var 4) (.seq (.region [⟨some 2,.mv (.cst (.bool false)),none⟩]) .ret) .skip)) (.seq (.seq (.region [⟨some 3,.mv (.cst (.int .i64 0)),none⟩]) (.seq (.block 0 (.loop [2,4,5,6] Fp)) (.kill [0,1,2,3,4,5,6]))) (.seq (.region [⟨some 2,.mv (.cst (.bool true)),none⟩]) .ret))),[.tmp 2]⟩
theorem GQ:aB Tryz.prog Tryz.f28 2 [0,1,4,5,10,14,25] [] true ([[2,4,5,6]],[[2,4,5,6],[0,1,2,3,4,5,6]])=some LZ:=by kernel_rfl
theorem at28:Tryz.prog.funcs[28]?=some Tryz.f28:=by kernel_rfl
def LV:bC:=⟨2,3,.seq (.region [⟨some 2,.mv (.cst (.bool false)),none⟩]) (.seq (.region [⟨none,.mv (.var 0),none⟩,⟨none,.mv (.var 1),none⟩,⟨none,.call (.fn 101) [.tmp 0,.tmp 1],none⟩,⟨none,.bin .geq (.tmp 2) (.cst (.int .i64 0)),none⟩,⟨some 2,.mv (.tmp 3),none⟩]) .ret),[.tmp 2]⟩
theorem GF:aB Tryz.prog Tryz.f61 2 [0,1,4] [] true ([],[])=some LV:=by kernel_rfl
theorem at61:Tryz.prog.funcs[61]?=some Tryz.f61:=by kernel_rfl
def HK:bC:=⟨1,3,.seq (.region [⟨some 1,.mv (.cst .nilS),none⟩]) (.seq (.seq (.region [⟨none,.mv (.var 0),none⟩,⟨some 2,.eqNil 1 false (.tmp 0),none⟩]) (.cond (.var 2) (.seq (.region [⟨some 1,.mv (.cst .nilS),none⟩]) .ret) .skip)) (.seq (.region [⟨none,.buildSlice 1 [],none⟩,⟨none,.mv (.var 0),none⟩,⟨none,.append 1 8 (.tmp 0) (.tmp 1),none⟩,⟨some 1,.mv (.tmp 2),none⟩]) .ret)),[.tmp 1]⟩
theorem zh:aB Tryz.prog Tryz.f63 1 [0,2,4] [] true ([],[])=some HK:=by kernel_rfl
theorem Mr:Tryz.prog.funcs[63]?=some Tryz.f63:=by kernel_rfl
def Fl:MC:=.seq (.region [⟨some 11,.bin .lss (.var 10) (.var 9),none⟩]) (.seq (.cond (.var 11) .skip (.exit 0)) (.seq (.seq (.block 1 (.seq (.region [⟨none,.mv (.var 10),none⟩,⟨none,.indexSl 3 (.var 8) (.var 10),none⟩,⟨none,.load true 3 (.tmp 1),none⟩,⟨some 5,.alloc 3 (.agg [.int .i64 0,.int .i64 0,.int .i64 0]),none⟩,⟨some 4,.mv (.tmp 0),none⟩,⟨none,.store 3 (.var 5) (.tmp 2),none⟩]) (.seq (.region [⟨none,.load true 3 (.var 5),none⟩,⟨none,.load false 1 (.var 3),none⟩,⟨none,.call (.fn 116) [.tmp 0,.tmp 1],none⟩,⟨none,.un .not (.tmp 2),none⟩,⟨none,.mv (.tmp 3),none⟩,⟨none,.fieldAddr 3 (.var 1),some (.tmp 4,false)⟩,⟨none,.load false 1 (.tmp 5),some (.tmp 4,false)⟩,⟨none,.mv (.var 4),some (.tmp 4,false)⟩,⟨none,.sliceSl 3 (.tmp 6) none (some (.tmp 7)),some (.tmp 4,false)⟩,⟨none,.load true 3 (.var 5),some (.tmp 4,false)⟩,⟨none,.call (.fn 117) [.tmp 8,.tmp 9],some (.tmp 4,false)⟩,⟨none,.un .not (.tmp 10),some (.tmp 4,false)⟩,⟨some 12,.pick (.tmp 4) (.cst (.bool true)) (.tmp 11),none⟩]) (.cond (.var 12) (.seq (.region [⟨some 2,.mv (.cst (.bool false)),none⟩]) .ret) .skip)))) (.kill [0,2,4,5,6,7,11,12])) (.region [⟨none,.bin .add (.var 10) (.cst (.int .i64 1)),none⟩,⟨some 10,.mv (.tmp 0),none⟩])))
def LU:bC:=⟨1,13,.seq (.region [⟨some 1,.box (.var 0),none⟩,⟨some 2,.mv (.cst (.bool false)),none⟩]) (.seq (.region [⟨none,.fieldAddr 2 (.var 1),none⟩,⟨none,.load false 1 (.tmp 0),none⟩,⟨none,.lenSl (.tmp 1),none⟩,⟨some 3,.alloc 1 (.int .i64 0),none⟩,⟨none,.store 1 (.var 3) (.tmp 2),none⟩]) (.seq (.seq (.region [⟨none,.load true 4 (.var 1),none⟩,⟨none,.call (.fn 111) [.tmp 0],none⟩,⟨none,.un .not (.tmp 1),none⟩,⟨none,.mv (.tmp 2),none⟩,⟨none,.load false 1 (.var 3),some (.tmp 3,false)⟩,⟨none,.call (.fn 112) [.tmp 4,.cst (.int .i64 1),.cst (.int .i64 40)],some (.tmp 3,false)⟩,⟨none,.un .not (.tmp 5),some (.tmp 3,false)⟩,⟨none,.pick (.tmp 3) (.cst (.bool true)) (.tmp 6),none⟩,⟨none,.mv (.tmp 7),none⟩,⟨none,.fieldAddr 3 (.var 1),some (.tmp 8,false)⟩,⟨none,.load false 1 (.tmp 9),some (.tmp 8,false)⟩,⟨none,.lenSl (.tmp 10),some (.tmp 8,false)⟩,⟨none,.bin .gtr (.tmp 11) (.cst (.int .i64 20)),some (.tmp 8,false)⟩,⟨some 6,.pick (.tmp 8) (.cst (.bool true)) (.tmp 12),none⟩]) (.cond (.var 6) (.seq (.region [⟨some 2,.mv (.cst (.bool false)),none⟩]) .ret) .skip)) (.seq (.seq (.region [⟨none,.fieldAddr 2 (.var 1),none⟩,⟨none,.load false 1 (.tmp 0),none⟩,⟨none,.makeFunc (.func 114) [] [.var 3],none⟩,⟨some 7,.call (.fn 113) [.tmp 1,.tmp 2],none⟩]) (.cond (.var 7) (.seq (.region [⟨some 2,.mv (.cst (.bool false)),none⟩]) .ret) .skip)) (.seq (.seq (.region [⟨none,.fieldAddr 3 (.var 1),none⟩,⟨some 8,.load false 1 (.tmp 0),none⟩,⟨some 9,.lenSl (.var 8),none⟩,⟨some 10,.mv (.cst (.int .i64 0)),none⟩]) (.seq (.block 0 (.loop [0,2,4,5,6,7,11,12] Fl)) (.kill [0,1,2,3,4,5,6,7,8,9,10,11,12]))) (.seq (.region [⟨some 2,.mv (.cst (.bool true)),none⟩]) .ret))))),[.tmp 2]⟩
theorem Gy:aB Tryz.prog Tryz.f71 1 [0,1,2,3,4,5,22,26,28,29,30,31,47] [116,117] true ([[0,2,4,5,6,7,11,12]],[[0,2,4,5,6,7,11,12],[0,1,2,3,4,5,6,7,8,9,10,11,12]])=some LU:=by kernel_rfl
theorem at71:Tryz.prog.funcs[71]?=some Tryz.f71:=by kernel_rfl
def IE:bC:=⟨2,11,.seq (.region [⟨some 2,.box (.var 0),none⟩,⟨some 3,.box (.var 1),none⟩,⟨some 4,.alloc 2 (.agg [.int .i64 0,.nilS]),none⟩,⟨some 5,.mv (.cst (.bool false)),none⟩]) (.seq (.region [⟨none,.load true 4 (.var 2),none⟩,⟨none,.fieldAddr 0 (.var 3),none⟩,⟨none,.load false 1 (.tmp 1),none⟩,⟨none,.fieldAddr 1 (.var 3),none⟩,⟨none,.load false 1 (.tmp 3),none⟩,⟨none,.call (.fn 118) [.tmp 0,.tmp 2,.tmp 4],none⟩,⟨none,.mv (.tmp 5),none⟩,⟨none,.extract (.tmp 6) 0,none⟩,⟨none,.extract (.tmp 6) 1,none⟩,⟨some 6,.mv (.tmp 7),none⟩,⟨some 7,.mv (.tmp 8),none⟩]) (.seq (.seq (.region [⟨none,.mv (.var 7),none⟩,⟨some 9,.un .not (.tmp 0),none⟩]) (.cond (.var 9) (.seq (.region [⟨none,.fieldAddr 0 (.var 3),none⟩,⟨none,.load false 1 (.tmp 0),none⟩,⟨none,.fieldAddr 1 (.var 3),none⟩,⟨none,.load false 1 (.tmp 2),none⟩,⟨none,.buildSlice 1 [.tmp 1,.tmp 3],none⟩,⟨none,.build [.int .i64 0,.nilS] [(0,(1,.cst (.int .i64 4))),(1,(1,.tmp 4))],none⟩,⟨none,.store 2 (.var 4) (.tmp 5),none⟩,⟨some 5,.mv (.cst (.bool true)),none⟩]) .ret) .skip)) (.seq (.seq (.region [⟨none,.load true 4 (.var 2),none⟩,⟨none,.fieldAddr 0 (.var 3),none⟩,⟨none,.load false 1 (.tmp 1),none⟩,⟨none,.fieldAddr 1 (.var 3),none⟩,⟨none,.load false 1 (.tmp 3),none⟩,⟨none,.call (.fn 119) [.tmp 0,.tmp 2,.tmp 4],none⟩,⟨none,.mv (.tmp 5),none⟩,⟨none,.extract (.tmp 6) 0,none⟩,⟨none,.extract (.tmp 6) 1,none⟩,⟨some 8,.mv (.tmp 7),none⟩,⟨none,.mv (.tmp 8),none⟩]) (.seq (.region [⟨none,.fieldAddr 2 (.var 3),none⟩,⟨none,.load false 1 (.tmp 0),none⟩,⟨none,.mv (.var 8),none⟩,⟨some 10,.bin .lss (.tmp 1) (.tmp 2),none⟩]) (.cond (.var 10) (.seq (.region [⟨none,.fieldAddr 0 (.var 3),none⟩,⟨none,.load false 1 (.tmp 0),none⟩,⟨none,.buildSlice 1 [.tmp 1],none⟩,⟨none,.mv (.var 6),none⟩,⟨none,.fieldAddr 1 (.var 3),none⟩,⟨none,.load false 1 (.tmp 4),none⟩,⟨none,.buildSlice 1 [.tmp 5],none⟩,⟨none,.buildSlice 1 [.tmp 2,.tmp 3,.tmp 6],none⟩,⟨none,.call (.fn 120) [.tmp 7],none⟩,⟨none,.build [.int .i64 0,.nilS] [(0,(1,.cst (.int .i64 3))),(1,(1,.tmp 8))],none⟩,⟨none,.store 2 (.var 4) (.tmp 9),none⟩,⟨some 5,.mv (.cst (.bool true)),none⟩]) .ret) .skip))) (.seq (.region [⟨none,.load true 2 (.var 4),none⟩,⟨none,.store 2 (.var 4) (.tmp 0),none⟩,⟨some 5,.mv (.cst (.bool false)),none⟩]) .ret)))),[.cell 4 true 2,.tmp 5]⟩
theorem Gx:aB Tryz.prog Tryz.f72 2 [0,1,2,3,4,5,6,7,8,20,39] [] false ([],[])=some IE:=by kernel_rfl
theorem at72:Tryz.prog.funcs[72]?=some Tryz.f72:=by kernel_rfl
def LT:bC:=⟨1,3,.seq (.region [⟨some 1,.box (.var 0),none⟩,⟨some 2,.mv (.cst (.bool false)),none⟩]) (.seq (.region [⟨none,.load true 5 (.var 1),none⟩,⟨none,.call (.fn 74) [.tmp 0],none⟩,⟨none,.mv (.tmp 1),none⟩,⟨none,.load true 5 (.var 1),some (.tmp 2,true)⟩,⟨none,.call (.fn 121) [.tmp 3],some (.tmp 2,true)⟩,⟨none,.call (.fn 122) [.tmp 4],some (.tmp 2,true)⟩,⟨none,.un .not (.tmp 5),some (.tmp 2,true)⟩,⟨none,.pick (.tmp 2) (.tmp 6) (.cst (.bool false)),none⟩,⟨none,.mv (.tmp 7),none⟩,⟨none,.load true 5 (.var 1),some (.tmp 8,true)⟩,⟨none,.call (.fn 123) [.tmp 9],some (.tmp 8,true)⟩,⟨none,.call (.fn 122) [.tmp 10],some (.tmp 8,true)⟩,⟨none,.un .not (.tmp 11),some (.tmp 8,true)⟩,⟨none,.pick (.tmp 8) (.tmp 12) (.cst (.bool false)),none⟩,⟨some 2,.mv (.tmp 13),none⟩]) .ret),[.tmp 2]⟩
theorem Gw:aB Tryz.prog Tryz.f73 1 [0,1,2] [] true ([],[])=some LT:=by kernel_rfl
theorem at73:Tryz.prog.funcs[73]?=some Tryz.f73:=by kernel_rfl
def LS:bC:=⟨1,7,.seq (.region [⟨some 1,.box (.var 0),none⟩,⟨some 2,.mv (.cst (.bool false)),none⟩]) (.seq (.region [⟨none,.build [.int .i64 0,.int .i64 0,.int .i64 0] [(0,(1,.cst (.int .i64 (-1))))],none⟩,⟨some 3,.alloc 3 (.agg [.int .i64 0,.int .i64 0,.int .i64 0]),none⟩,⟨none,.store 3 (.var 3) (.tmp 0),none⟩]) (.seq (.region [⟨none,.makeFunc (.func 124) [] [.var 3,.var 1],none⟩,⟨some 4,.alloc 1 .nilF,none⟩,⟨none,.store 1 (.var 4) (.tmp 0),none⟩]) (.seq (.seq (.block 0 (.seq (.region [⟨none,.fieldAddr 0 (.var 1),none⟩,⟨none,.load false 1 (.tmp 0),none⟩,⟨none,.call (.fn 88) [.tmp 1,.cst (.int .i64 0),.cst (.int .i64 1000000)],none⟩,⟨none,.un .not (.tmp 2),none⟩,⟨none,.mv (.tmp 3),none⟩,⟨none,.fieldAddr 1 (.var 1),some (.tmp 4,false)⟩,⟨none,.load false 1 (.tmp 5),some (.tmp 4,false)⟩,⟨none,.fieldAddr 2 (.var 1),some (.tmp 4,false)⟩,⟨none,.load false 1 (.tmp 7),some (.tmp 4,false)⟩,⟨none,.call (.fn 88) [.tmp 6,.cst (.int .i64 0),.tmp 8],some (.tmp 4,false)⟩,⟨none,.un .not (.tmp 9),some (.tmp 4,false)⟩,⟨none,.pick (.tmp 4) (.cst (.bool true)) (.tmp 10),none⟩,⟨none,.mv (.tmp 11),none⟩,⟨none,.fieldAddr 2 (.var 1),some (.tmp 12,false)⟩,⟨none,.load false 1 (.tmp 13),some (.tmp 12,false)⟩,⟨none,.bin .gtr (.tmp 14) (.cst (.int .i64 10000)),some (.tmp 12,false)⟩,⟨none,.pick (.tmp 12) (.cst (.bool true)) (.tmp 15),none⟩,⟨some 5,.mv (.tmp 16),none⟩]) (.cond (.var 5) (.seq (.region [⟨some 2,.mv (.cst (.bool false)),none⟩]) .ret) (.seq (.region [⟨none,.fieldAddr 3 (.var 1),none⟩,⟨none,.load false 1 (.tmp 0),none⟩,⟨none,.lenSl (.tmp 1),none⟩,⟨none,.call (.fn 88) [.tmp 2,.cst (.int .i64 1),.cst (.int .i64 8)],none⟩,⟨none,.un .not (.tmp 3),none⟩,⟨none,.mv (.tmp 4),none⟩,⟨none,.fieldAddr 4 (.var 1),some (.tmp 5,false)⟩,⟨none,.load false 1 (.tmp 6),some (.tmp 5,false)⟩,⟨none,.lenSl (.tmp 7),some (.tmp 5,false)⟩,⟨none,.bin .gtr (.tmp 8) (.cst (.int .i64 20)),some (.tmp 5,false)⟩,⟨none,.pick (.tmp 5) (.cst (.bool true)) (.tmp 9),none⟩,⟨some 6,.mv (.tmp 10),none⟩]) (.cond (.var 6) (.seq (.region [⟨some 2,.mv (.cst (.bool false)),none⟩]) .ret) .skip))))) (.kill [0,2,3,5,6])) (.seq (.region [⟨none,.fieldAddr 3 (.var 1),none⟩,⟨none,.load false 1 (.tmp 0),none⟩,⟨none,.call (.fn 125) [.tmp 1,.fn 126],none⟩,⟨none,.un .not (.tmp 2),none⟩,⟨none,.mv (.tmp 3),none⟩,⟨none,.fieldAddr 4 (.var 1),some (.tmp 4,true)⟩,⟨none,.load false 1 (.tmp 5),some (.tmp 4,true)⟩,⟨none,.makeFunc (.func 129) [] [.var 4],some (.tmp 4,true)⟩,⟨none,.call (.fn 128) [.tmp 6,.tmp 7],some (.tmp 4,true)⟩,⟨none,.un .not (.tmp 8),some (.tmp 4,true)⟩,⟨none,.pick (.tmp 4) (.tmp 9) (.cst (.bool false)),none⟩,⟨some 2,.mv (.tmp 10),none⟩]) .ret)))),[.tmp 2]⟩
theorem Gv:aB Tryz.prog Tryz.f74 1 [0,1,2,3,4,7,25] [] true ([],[[0,2,3,5,6]])=some LS:=by kernel_rfl
theorem at74:Tryz.prog.funcs[74]?=some Tryz.f74:=by kernel_rfl
def LR:bC:=⟨3,4,.seq (.region [⟨some 3,.mv (.cst (.bool false)),none⟩]) (.seq (.region [⟨none,.mv (.var 0),none⟩,⟨none,.mv (.var 1),none⟩,⟨none,.bin .geq (.tmp 0) (.tmp 1),none⟩,⟨none,.mv (.tmp 2),none⟩,⟨none,.mv (.var 0),some (.tmp 3,true)⟩,⟨none,.mv (.var 2),some (.tmp 3,true)⟩,⟨none,.bin .leq (.tmp 4) (.tmp 5),some (.tmp 3,true)⟩,⟨none,.pick (.tmp 3) (.tmp 6) (.cst (.bool false)),none⟩,⟨some 3,.mv (.tmp 7),none⟩]) .ret),[.tmp 3]⟩
theorem Gu:aB Tryz.prog Tryz.f88 3 [0,1,2,6] [] true ([],[])=some LR:=by kernel_rfl
theorem at88:Tryz.prog.funcs[88]?=some Tryz.f88:=by kernel_rfl
def Cg:MC:=.seq (.region [⟨some 6,.bin .lss (.var 5) (.var 4),none⟩]) (.seq (.cond (.var 6) .skip (.exit 0)) (.seq (.seq (.block 1 (.seq (.region [⟨none,.mv (.var 5),none⟩,⟨some 3,.mv (.tmp 0),none⟩]) (.seq (.region [⟨none,.mv (.var 1),none⟩,⟨none,.mv (.var 0),none⟩,⟨none,.mv (.var 3),none⟩,⟨none,.indexSl 1 (.tmp 1) (.tmp 2),none⟩,⟨none,.load false 1 (.tmp 3),none⟩,⟨some 7,.call (.tmp 0) [.tmp 4],none⟩]) (.cond (.var 7) (.seq (.region [⟨none,.mv (.var 3),none⟩,⟨some 2,.mv (.tmp 0),none⟩]) .ret) .skip)))) (.kill [2,3,6,7])) (.region [⟨none,.bin .add (.var 5) (.cst (.int .i64 1)),none⟩,⟨some 5,.mv (.tmp 0),none⟩])))
def Fk:bC:=⟨2,8,.seq (.region [⟨some 2,.mv (.cst (.int .i64 0)),none⟩]) (.seq (.seq (.region [⟨none,.mv (.var 0),none⟩,⟨some 4,.lenSl (.tmp 0),none⟩,⟨some 5,.mv (.cst (.int .i64 0)),none⟩]) (.seq (.block 0 (.loop [2,3,6,7] Cg)) (.kill [0,1,2,3,4,5,6,7]))) (.seq (.region [⟨some 2,.mv (.cst (.int .i64 (-1))),none⟩]) .ret)),[.tmp 2]⟩
theorem De:aB Tryz.prog Tryz.f101 2 [0,1,4,5,7,8,9,16] [] true ([[2,3,6,7]],[[2,3,6,7],[0,1,2,3,4,5,6,7]])=some Fk:=by kernel_rfl
theorem Lg:Tryz.prog.funcs[101]?=some Tryz.f101:=by kernel_rfl
def Fj:bC:=⟨1,3,.seq (.region [⟨some 1,.box (.var 0),none⟩,⟨some 2,.mv (.cst (.bool false)),none⟩]) (.seq (.region [⟨none,.fieldAddr 0 (.var 1),none⟩,⟨none,.load false 1 (.tmp 0),none⟩,⟨none,.bin .leq (.cst (.int .i64 0)) (.tmp 1),none⟩,⟨none,.mv (.tmp 2),none⟩,⟨none,.fieldAddr 0 (.var 1),some (.tmp 3,true)⟩,⟨none,.load false 1 (.tmp 4),some (.tmp 3,true)⟩,⟨none,.fieldAddr 1 (.var 1),some (.tmp 3,true)⟩,⟨none,.load false 1 (.tmp 6),some (.tmp 3,true)⟩,⟨none,.bin .leq (.tmp 5) (.tmp 7),some (.tmp 3,true)⟩,⟨none,.pick (.tmp 3) (.tmp 8) (.cst (.bool false)),none⟩,⟨none,.mv (.tmp 9),none⟩,⟨none,.fieldAddr 1 (.var 1),some (.tmp 10,true)⟩,⟨none,.load false 1 (.tmp 11),some (.tmp 10,true)⟩,⟨none,.bin .leq (.tmp 12) (.cst (.int .i64 10000)),some (.tmp 10,true)⟩,⟨none,.pick (.tmp 10) (.tmp 13) (.cst (.bool false)),none⟩,⟨some 2,.mv (.tmp 14),none⟩]) .ret),[.tmp 2]⟩
theorem Dd:aB Tryz.prog Tryz.f111 1 [0,1,2] [] true ([],[])=some Fj:=by kernel_rfl
theorem Lf:Tryz.prog.funcs[111]?=some Tryz.f111:=by kernel_rfl
def Fi:bC:=⟨3,4,.seq (.region [⟨some 3,.mv (.cst (.bool false)),none⟩]) (.seq (.region [⟨none,.mv (.var 0),none⟩,⟨none,.mv (.var 1),none⟩,⟨none,.bin .geq (.tmp 0) (.tmp 1),none⟩,⟨none,.mv (.tmp 2),none⟩,⟨none,.mv (.var 0),some (.tmp 3,true)⟩,⟨none,.mv (.var 2),some (.tmp 3,true)⟩,⟨none,.bin .leq (.tmp 4) (.tmp 5),some (.tmp 3,true)⟩,⟨none,.pick (.tmp 3) (.tmp 6) (.cst (.bool false)),none⟩,⟨some 3,.mv (.tmp 7),none⟩]) .ret),[.tmp 3]⟩
theorem Dc:aB Tryz.prog Tryz.f112 3 [0,1,2,6] [] true ([],[])=some Fi:=by kernel_rfl
theorem Le:Tryz.prog.funcs[112]?=some Tryz.f112:=by kernel_rfl
def Fh:bC:=⟨2,3,.seq (.region [⟨some 2,.mv (.cst (.bool false)),none⟩]) (.seq (.region [⟨none,.mv (.var 0),none⟩,⟨none,.mv (.var 1),none⟩,⟨none,.call (.fn 154) [.tmp 0,.tmp 1],none⟩,⟨none,.bin .geq (.tmp 2) (.cst (.int .i64 0)),none⟩,⟨some 2,.mv (.tmp 3),none⟩]) .ret),[.tmp 2]⟩
theorem Db:aB Tryz.prog Tryz.f113 2 [0,1,4] [] true ([],[])=some Fh:=by kernel_rfl
theorem Ld:Tryz.prog.funcs[113]?=some Tryz.f113:=by kernel_rfl
def Fg:bC:=⟨2,4,.seq (.region [⟨some 2,.box (.var 0),none⟩,⟨some 3,.mv (.cst (.bool false)),none⟩]) (.seq (.region [⟨none,.load true 7 (.var 2),none⟩,⟨none,.load false 1 (.var 1),none⟩,⟨none,.call (.fn 115) [.tmp 0,.tmp 1],none⟩,⟨none,.un .not (.tmp 2),none⟩,⟨some 3,.mv (.tmp 3),none⟩]) .ret),[.tmp 3]⟩
theorem Da:aB Tryz.prog Tryz.f114 2 [0,1,2,3] [] true ([],[])=some Fg:=by kernel_rfl
theorem Lc:Tryz.prog.funcs[114]?=some Tryz.f114:=by kernel_rfl
def Ff:bC:=⟨2,6,.seq (.region [⟨some 2,.box (.var 0),none⟩,⟨some 3,.mv (.cst (.bool false)),none⟩]) (.seq (.region [⟨none,.fieldAddr 5 (.var 2),none⟩,⟨none,.load false 1 (.tmp 0),none⟩,⟨none,.bin .eql (.tmp 1) (.cst (.int .i64 (-1))),none⟩,⟨none,.mv (.tmp 2),none⟩,⟨none,.fieldAddr 6 (.var 2),some (.tmp 3,true)⟩,⟨none,.load false 1 (.tmp 4),some (.tmp 3,true)⟩,⟨none,.bin .eql (.tmp 5) (.cst (.int .i64 0)),some (.tmp 3,true)⟩,⟨none,.pick (.tmp 3) (.tmp 6) (.cst (.bool false)),none⟩,⟨none,.mv (.tmp 7),none⟩,⟨none,.fieldAddr 5 (.var 2),some (.tmp 8,false)⟩,⟨none,.load false 1 (.tmp 9),some (.tmp 8,false)⟩,⟨none,.mv (.var 1),some (.tmp 8,false)⟩,⟨none,.bin .sub (.tmp 11) (.cst (.int .i64 1)),some (.tmp 8,false)⟩,⟨none,.call (.fn 112) [.tmp 10,.cst (.int .i64 0),.tmp 12],some (.tmp 8,false)⟩,⟨none,.mv (.tmp 13),some (.tmp 8,false)⟩,⟨none,.fieldAddr 6 (.var 2),some (.tmp 14,true)⟩,⟨none,.load false 1 (.tmp 15),some (.tmp 14,true)⟩,⟨none,.call (.fn 112) [.tmp 16,.cst (.int .i64 1),.cst (.int .i64 9)],some (.tmp 14,true)⟩,⟨none,.pick (.tmp 14) (.tmp 17) (.cst (.bool false)),some (.tmp 8,false)⟩,⟨none,.pick (.tmp 8) (.cst (.bool true)) (.tmp 18),none⟩,⟨some 4,.mv (.tmp 19),none⟩]) (.seq (.region [⟨none,.fieldAddr 1 (.var 2),none⟩,⟨none,.load false 1 (.tmp 0),none⟩,⟨none,.lenSl (.tmp 1),none⟩,⟨none,.call (.fn 112) [.tmp 2,.cst (.int .i64 1),.cst (.int .i64 8)],none⟩,⟨none,.mv (.tmp 3),none⟩,⟨none,.fieldAddr 4 (.var 2),some (.tmp 4,true)⟩,⟨none,.load false 1 (.tmp 5),some (.tmp 4,true)⟩,⟨none,.lenSl (.tmp 6),some (.tmp 4,true)⟩,⟨none,.bin .leq (.tmp 7) (.cst (.int .i64 4)),some (.tmp 4,true)⟩,⟨none,.pick (.tmp 4) (.tmp 8) (.cst (.bool false)),none⟩,⟨some 5,.mv (.tmp 9),none⟩]) (.seq (.region [⟨none,.mv (.var 4),none⟩,⟨none,.mv (.tmp 0),none⟩,⟨none,.mv (.var 5),some (.tmp 1,true)⟩,⟨none,.pick (.tmp 1) (.tmp 2) (.cst (.bool false)),none⟩,⟨none,.mv (.tmp 3),none⟩,⟨none,.fieldAddr 0 (.var 2),some (.tmp 4,true)⟩,⟨none,.load false 1 (.tmp 5),some (.tmp 4,true)⟩,⟨none,.call (.fn 112) [.tmp 6,.cst (.int .i64 1),.cst (.int .i64 1000000)],some (.tmp 4,true)⟩,⟨none,.pick (.tmp 4) (.tmp 7) (.cst (.bool false)),none⟩,⟨none,.mv (.tmp 8),none⟩,⟨none,.fieldAddr 1 (.var 2),some (.tmp 9,true)⟩,⟨none,.load false 1 (.tmp 10),some (.tmp 9,true)⟩,⟨none,.call (.fn 155) [.tmp 11,.cst (.int .i64 0),.cst (.int .i64 59)],some (.tmp 9,true)⟩,⟨none,.pick (.tmp 9) (.tmp 12) (.cst (.bool false)),none⟩,⟨none,.mv (.tmp 13),none⟩,⟨none,.fieldAddr 4 (.var 2),some (.tmp 14,true)⟩,⟨none,.load false 1 (.tmp 15),some (.tmp 14,true)⟩,⟨none,.mv (.var 1),some (.tmp 14,true)⟩,⟨none,.bin .sub (.tmp 17) (.cst (.int .i64 1)),some (.tmp 14,true)⟩,⟨none,.call (.fn 155) [.tmp 16,.cst (.int .i64 0),.tmp 18],some (.tmp 14,true)⟩,⟨none,.pick (.tmp 14) (.tmp 19) (.cst (.bool false)),none⟩,⟨none,.mv (.tmp 20),none⟩,⟨none,.fieldAddr 2 (.var 2),some (.tmp 21,true)⟩,⟨none,.load false 1 (.tmp 22),some (.tmp 21,true)⟩,⟨none,.bin .leq (.cst (.int .i64 1)) (.tmp 23),some (.tmp 21,true)⟩,⟨none,.pick (.tmp 21) (.tmp 24) (.cst (.bool false)),none⟩,⟨none,.mv (.tmp 25),none⟩,⟨none,.fieldAddr 2 (.var 2),some (.tmp 26,true)⟩,⟨none,.load false 1 (.tmp 27),some (.tmp 26,true)⟩,⟨none,.fieldAddr 3 (.var 2),some (.tmp 26,true)⟩,⟨none,.load false 1 (.tmp 29),some (.tmp 26,true)⟩,⟨none,.bin .leq (.tmp 28) (.tmp 30),some (.tmp 26,true)⟩,⟨none,.pick (.tmp 26) (.tmp 31) (.cst (.bool false)),none⟩,⟨none,.mv (.tmp 32),none⟩,⟨none,.fieldAddr 3 (.var 2),some (.tmp 33,true)⟩,⟨none,.load false 1 (.tmp 34),some (.tmp 33,true)⟩,⟨none,.bin .leq (.tmp 35) (.cst (.int .i64 10000)),some (.tmp 33,true)⟩,⟨none,.pick (.tmp 33) (.tmp 36) (.cst (.bool false)),none⟩,⟨some 3,.mv (.tmp 37),none⟩]) .ret))),[.tmp 3]⟩
theorem C9:aB Tryz.prog Tryz.f115 2 [0,1,2,4,5,6] [] true ([],[])=some Ff:=by kernel_rfl
theorem Lb:Tryz.prog.funcs[115]?=some Tryz.f115:=by kernel_rfl
def Fe:bC:=⟨2,4,.seq (.region [⟨some 2,.box (.var 0),none⟩,⟨some 3,.mv (.cst (.bool false)),none⟩]) (.seq (.region [⟨none,.fieldAddr 0 (.var 2),none⟩,⟨none,.load false 1 (.tmp 0),none⟩,⟨none,.mv (.var 1),none⟩,⟨none,.bin .sub (.tmp 2) (.cst (.int .i64 1)),none⟩,⟨none,.call (.fn 112) [.tmp 1,.cst (.int .i64 0),.tmp 3],none⟩,⟨none,.mv (.tmp 4),none⟩,⟨none,.fieldAddr 1 (.var 2),some (.tmp 5,true)⟩,⟨none,.load false 1 (.tmp 6),some (.tmp 5,true)⟩,⟨none,.mv (.var 1),some (.tmp 5,true)⟩,⟨none,.bin .sub (.tmp 8) (.cst (.int .i64 1)),some (.tmp 5,true)⟩,⟨none,.call (.fn 112) [.tmp 7,.cst (.int .i64 0),.tmp 9],some (.tmp 5,true)⟩,⟨none,.pick (.tmp 5) (.tmp 10) (.cst (.bool false)),none⟩,⟨none,.mv (.tmp 11),none⟩,⟨none,.fieldAddr 0 (.var 2),some (.tmp 12,true)⟩,⟨none,.load false 1 (.tmp 13),some (.tmp 12,true)⟩,⟨none,.fieldAddr 1 (.var 2),some (.tmp 12,true)⟩,⟨none,.load false 1 (.tmp 15),some (.tmp 12,true)⟩,⟨none,.bin .neq (.tmp 14) (.tmp 16),some (.tmp 12,true)⟩,⟨none,.pick (.tmp 12) (.tmp 17) (.cst (.bool false)),none⟩,⟨none,.mv (.tmp 18),none⟩,⟨none,.fieldAddr 2 (.var 2),some (.tmp 19,true)⟩,⟨none,.load false 1 (.tmp 20),some (.tmp 19,true)⟩,⟨none,.call (.fn 112) [.tmp 21,.cst (.int .i64 0),.cst (.int .i64 1000000)],some (.tmp 19,true)⟩,⟨none,.pick (.tmp 19) (.tmp 22) (.cst (.bool false)),none⟩,⟨some 3,.mv (.tmp 23),none⟩]) .ret),[.tmp 3]⟩
theorem C8:aB Tryz.prog Tryz.f116 2 [0,1,2,4] [] true ([],[])=some Fe:=by kernel_rfl
theorem La:Tryz.prog.funcs[116]?=some Tryz.f116:=by kernel_rfl
def Fd:bC:=⟨2,6,.seq (.region [⟨some 2,.box (.var 1),none⟩,⟨some 3,.mv (.cst (.bool false)),none⟩]) (.seq (.seq (.region [⟨none,.mv (.var 0),none⟩,⟨none,.lenSl (.tmp 0),none⟩,⟨some 5,.bin .eql (.tmp 1) (.cst (.int .i64 0)),none⟩]) (.cond (.var 5) (.seq (.region [⟨some 3,.mv (.cst (.bool true)),none⟩]) .ret) .skip)) (.seq (.region [⟨none,.mv (.var 0),none⟩,⟨none,.mv (.var 0),none⟩,⟨none,.lenSl (.tmp 1),none⟩,⟨none,.bin .sub (.tmp 2) (.cst (.int .i64 1)),none⟩,⟨none,.indexSl 3 (.tmp 0) (.tmp 3),none⟩,⟨none,.load true 3 (.tmp 4),none⟩,⟨some 4,.alloc 3 (.agg [.int .i64 0,.int .i64 0,.int .i64 0]),none⟩,⟨none,.store 3 (.var 4) (.tmp 5),none⟩]) (.seq (.region [⟨none,.fieldAddr 0 (.var 4),none⟩,⟨none,.load false 1 (.tmp 0),none⟩,⟨none,.fieldAddr 0 (.var 2),none⟩,⟨none,.load false 1 (.tmp 2),none⟩,⟨none,.bin .lss (.tmp 1) (.tmp 3),none⟩,⟨none,.mv (.tmp 4),none⟩,⟨none,.fieldAddr 0 (.var 4),some (.tmp 5,false)⟩,⟨none,.load false 1 (.tmp 6),some (.tmp 5,false)⟩,⟨none,.fieldAddr 0 (.var 2),some (.tmp 5,false)⟩,⟨none,.load false 1 (.tmp 8),some (.tmp 5,false)⟩,⟨none,.bin .eql (.tmp 7) (.tmp 9),some (.tmp 5,false)⟩,⟨none,.mv (.tmp 10),some (.tmp 5,false)⟩,⟨none,.fieldAddr 1 (.var 4),some (.tmp 11,true)⟩,⟨none,.load false 1 (.tmp 12),some (.tmp 11,true)⟩,⟨none,.fieldAddr 1 (.var 2),some (.tmp 11,true)⟩,⟨none,.load false 1 (.tmp 14),some (.tmp 11,true)⟩,⟨none,.bin .lss (.tmp 13) (.tmp 15),some (.tmp 11,true)⟩,⟨none,.pick (.tmp 11) (.tmp 16) (.cst (.bool false)),some (.tmp 5,false)⟩,⟨none,.pick (.tmp 5) (.cst (.bool true)) (.tmp 17),none⟩,⟨some 3,.mv (.tmp 18),none⟩]) .ret))),[.tmp 3]⟩
theorem C7:aB Tryz.prog Tryz.f117 2 [0,1,3,4,5,8] [] true ([],[])=some Fd:=by kernel_rfl
theorem K9:Tryz.prog.funcs[117]?=some Tryz.f117:=by kernel_rfl
def BY:bC:=⟨3,9,.seq (.region [⟨some 3,.box (.var 0),none⟩,⟨some 4,.mv (.cst .nilS),none⟩,⟨some 5,.mv (.cst (.bool false)),none⟩]) (.seq (.seq (.region [⟨none,.load true 4 (.var 3),none⟩,⟨none,.mv (.var 1),none⟩,⟨none,.mv (.var 2),none⟩,⟨none,.buildF 1 [.tmp 1,.tmp 2],none⟩,⟨none,.call (.fn 156) [.tmp 0,.tmp 3],none⟩,⟨some 7,.un .not (.tmp 4),none⟩]) (.cond (.var 7) (.seq (.region [⟨some 4,.mv (.cst .nilS),none⟩,⟨some 5,.mv (.cst (.bool false)),none⟩]) .ret) .skip)) (.seq (.region [⟨none,.load true 4 (.var 3),none⟩,⟨none,.mv (.var 1),none⟩,⟨none,.call (.fn 157) [.tmp 0,.tmp 1],none⟩,⟨none,.mv (.var 2),none⟩,⟨none,.indexSl 1 (.tmp 2) (.tmp 3),none⟩,⟨none,.load false 1 (.tmp 4),none⟩,⟨some 6,.mv (.tmp 5),none⟩]) (.seq (.seq (.region [⟨none,.mv (.var 6),none⟩,⟨some 8,.eqNil 0 false (.tmp 0),none⟩]) (.cond (.var 8) (.seq (.region [⟨some 4,.mv (.cst .nilS),none⟩,⟨some 5,.mv (.cst (.bool false)),none⟩]) .ret) .skip)) (.seq (.region [⟨none,.mv (.var 6),none⟩,⟨none,.nilCheck (.tmp 0),none⟩,⟨none,.fieldAddr 1 (.tmp 1),none⟩,⟨none,.load false 1 (.tmp 2),none⟩,⟨none,.call (.fn 63) [.tmp 3],none⟩,⟨some 4,.mv (.tmp 4),none⟩,⟨some 5,.mv (.cst (.bool true)),none⟩]) .ret)))),[.tmp 4,.tmp 5]⟩
theorem C6:aB Tryz.prog Tryz.f118 3 [0,1,2,3,6,7,8,14,22] [] true ([],[])=some BY:=by kernel_rfl
theorem K8:Tryz.prog.funcs[118]?=some Tryz.f118:=by kernel_rfl
def BX:bC:=⟨3,9,.seq (.region [⟨some 3,.box (.var 0),none⟩,⟨some 4,.mv (.cst (.int .i64 0)),none⟩,⟨some 5,.mv (.cst (.bool false)),none⟩]) (.seq (.seq (.region [⟨none,.load true 4 (.var 3),none⟩,⟨none,.mv (.var 1),none⟩,⟨none,.mv (.var 2),none⟩,⟨none,.buildF 1 [.tmp 1,.tmp 2],none⟩,⟨none,.call (.fn 156) [.tmp 0,.tmp 3],none⟩,⟨some 7,.un .not (.tmp 4),none⟩]) (.cond (.var 7) (.seq (.region [⟨some 4,.mv (.cst (.int .i64 0)),none⟩,⟨some 5,.mv (.cst (.bool false)),none⟩]) .ret) .skip)) (.seq (.region [⟨none,.load true 4 (.var 3),none⟩,⟨none,.mv (.var 1),none⟩,⟨none,.call (.fn 157) [.tmp 0,.tmp 1],none⟩,⟨none,.mv (.var 2),none⟩,⟨none,.indexSl 1 (.tmp 2) (.tmp 3),none⟩,⟨none,.load false 1 (.tmp 4),none⟩,⟨some 6,.mv (.tmp 5),none⟩]) (.seq (.seq (.region [⟨none,.mv (.var 6),none⟩,⟨some 8,.eqNil 0 false (.tmp 0),none⟩]) (.cond (.var 8) (.seq (.region [⟨some 4,.mv (.cst (.int .i64 0)),none⟩,⟨some 5,.mv (.cst (.bool false)),none⟩]) .ret) .skip)) (.seq (.region [⟨none,.mv (.var 6),none⟩,⟨none,.nilCheck (.tmp 0),none⟩,⟨none,.fieldAddr 0 (.tmp 1),none⟩,⟨none,.load false 1 (.tmp 2),none⟩,⟨some 4,.mv (.tmp 3),none⟩,⟨some 5,.mv (.cst (.bool true)),none⟩]) .ret)))),[.tmp 4,.tmp 5]⟩
theorem C5:aB Tryz.prog Tryz.f119 3 [0,1,2,3,6,7,8,14,22] [] true ([],[])=some BX:=by kernel_rfl
theorem K7:Tryz.prog.funcs[119]?=some Tryz.f119:=by kernel_rfl
def Cf:MC:=.seq (.region [⟨some 9,.bin .lss (.var 8) (.var 7),none⟩]) (.seq (.cond (.var 9) .skip (.exit 0)) (.seq (.seq (.block 1 (.seq (.region [⟨none,.indexSl 1 (.var 6) (.var 8),none⟩,⟨none,.load false 1 (.tmp 0),none⟩,⟨some 3,.mv (.tmp 1),none⟩]) (.seq (.region [⟨none,.mv (.var 2),none⟩,⟨none,.mv (.var 3),none⟩,⟨none,.lenSl (.tmp 1),none⟩,⟨none,.bin .add (.tmp 0) (.tmp 2),none⟩,⟨some 2,.mv (.tmp 3),none⟩]) (.seq (.region [⟨none,.mv (.var 2),none⟩,⟨some 10,.bin .lss (.tmp 0) (.cst (.int .i64 0)),none⟩]) (.cond (.var 10) (.region [⟨none,.mkI 9 (.cst (.str [108,101,110,32,111,117,116,32,111,102,32,114,97,110,103,101])),none⟩,⟨none,.un .neg (.cst .undef),none⟩]) .skip))))) (.kill [1,3,4,5,9,10,11,12,13,14])) (.region [⟨none,.bin .add (.var 8) (.cst (.int .i64 1)),none⟩,⟨some 8,.mv (.tmp 0),none⟩])))
def Ce:MC:=.seq (.region [⟨some 14,.bin .lss (.var 13) (.var 12),none⟩]) (.seq (.cond (.var 14) .skip (.exit 2)) (.seq (.seq (.block 3 (.seq (.region [⟨none,.indexSl 1 (.var 11) (.var 13),none⟩,⟨none,.load false 1 (.tmp 0),none⟩,⟨some 5,.mv (.tmp 1),none⟩]) (.region [⟨none,.mv (.var 4),none⟩,⟨none,.mv (.var 5),none⟩,⟨none,.append 1 8 (.tmp 0) (.tmp 1),none⟩,⟨some 4,.mv (.tmp 2),none⟩]))) (.kill [0,1,2,3,5,6,7,8,9,10,14])) (.region [⟨none,.bin .add (.var 13) (.cst (.int .i64 1)),none⟩,⟨some 13,.mv (.tmp 0),none⟩])))
def Fb:bC:=⟨1,15,.seq (.region [⟨some 1,.mv (.cst .nilS),none⟩]) (.seq (.region [⟨some 2,.mv (.cst (.int .i64 0)),none⟩]) (.seq (.seq (.region [⟨some 6,.mv (.var 0),none⟩,⟨some 7,.lenSl (.var 6),none⟩,⟨some 8,.mv (.cst (.int .i64 0)),none⟩]) (.seq (.block 0 (.loop [1,3,4,5,9,10,11,12,13,14] Cf)) (.kill [1,3,4,5,6,7,8,9,10,11,12,13,14]))) (.seq (.region [⟨none,.mv (.var 2),none⟩,⟨none,.call (.fn 158) [.cst .nilS,.tmp 0],none⟩,⟨some 4,.mv (.tmp 1),none⟩]) (.seq (.seq (.region [⟨some 11,.mv (.var 0),none⟩,⟨some 12,.lenSl (.var 11),none⟩,⟨some 13,.mv (.cst (.int .i64 0)),none⟩]) (.seq (.block 2 (.loop [0,1,2,3,5,6,7,8,9,10,14] Ce)) (.kill [0,1,2,3,5,6,7,8,9,10,11,12,13,14]))) (.seq (.region [⟨none,.mv (.var 4),none⟩,⟨some 1,.mv (.tmp 0),none⟩]) .ret))))),[.tmp 1]⟩
theorem C4:aB Tryz.prog Tryz.f120 1 [0,2,3,5,6,8,9,10,11,12,20,25,26,27,28] [] false ([[1,3,4,5,9,10,11,12,13,14],[0,1,2,3,5,6,7,8,9,10,14]],[[1,3,4,5,9,10,11,12,13,14],[1,3,4,5,6,7,8,9,10,11,12,13,14],[0,1,2,3,5,6,7,8,9,10,14],[0,1,2,3,5,6,7,8,9,10,11,12,13,14]])=some Fb:=by kernel_rfl
theorem K6:Tryz.prog.funcs[120]?=some Tryz.f120:=by kernel_rfl
def Cd:MC:=.seq (.region [⟨some 10,.bin .lss (.var 9) (.var 8),none⟩]) (.seq (.cond (.var 10) .skip (.exit 0)) (.seq (.seq (.block 1 (.seq (.region [⟨none,.mv (.var 9),none⟩,⟨none,.indexSl 6 (.var 7) (.var 9),none⟩,⟨none,.load true 6 (.tmp 1),none⟩,⟨some 4,.alloc 6 (.agg [.int .i64 0,.int .i64 0,.int .i64 0,.int .i64 0,.int .i64 0,.int .i64 0]),none⟩,⟨some 3,.mv (.tmp 0),none⟩,⟨none,.store 6 (.var 4) (.tmp 2),none⟩]) (.seq (.region [⟨none,.fieldAddr 2 (.var 4),none⟩,⟨none,.fieldAddr 1 (.tmp 0),none⟩,⟨none,.load false 1 (.tmp 1),none⟩,⟨none,.fieldAddr 1 (.var 4),none⟩,⟨none,.load false 1 (.tmp 3),none⟩,⟨none,.bin .add (.tmp 2) (.tmp 4),none⟩,⟨none,.bin .sub (.tmp 5) (.cst (.int .i64 1)),none⟩,⟨none,.fieldAddr 2 (.var 1),none⟩,⟨none,.load false 1 (.tmp 7),none⟩,⟨none,.bin .add (.tmp 6) (.tmp 8),none⟩,⟨none,.fieldAddr 4 (.var 4),none⟩,⟨none,.fieldAddr 1 (.tmp 10),none⟩,⟨none,.load false 1 (.tmp 11),none⟩,⟨none,.call (.fn 159) [.var 2,.tmp 9,.tmp 12],none⟩]) (.seq (.seq (.region [⟨none,.mv (.var 3),none⟩,⟨none,.bin .add (.tmp 0) (.cst (.int .i64 1)),none⟩,⟨none,.fieldAddr 3 (.var 1),none⟩,⟨none,.load false 1 (.tmp 2),none⟩,⟨none,.lenSl (.tmp 3),none⟩,⟨some 11,.bin .eql (.tmp 1) (.tmp 4),none⟩]) (.cond (.var 11) (.exit 0) .skip)) (.seq (.region [⟨none,.fieldAddr 3 (.var 1),none⟩,⟨none,.load false 1 (.tmp 0),none⟩,⟨none,.mv (.var 3),none⟩,⟨none,.bin .add (.tmp 2) (.cst (.int .i64 1)),none⟩,⟨none,.indexSl 6 (.tmp 1) (.tmp 3),none⟩,⟨none,.load true 6 (.tmp 4),none⟩,⟨some 5,.alloc 6 (.agg [.int .i64 0,.int .i64 0,.int .i64 0,.int .i64 0,.int .i64 0,.int .i64 0]),none⟩,⟨none,.store 6 (.var 5) (.tmp 5),none⟩]) (.seq (.region [⟨none,.fieldAddr 2 (.var 4),none⟩,⟨none,.fieldAddr 1 (.tmp 0),none⟩,⟨none,.load false 1 (.tmp 1),none⟩,⟨none,.fieldAddr 1 (.var 4),none⟩,⟨none,.load false 1 (.tmp 3),none⟩,⟨none,.bin .add (.tmp 2) (.tmp 4),none⟩,⟨none,.fieldAddr 2 (.var 1),none⟩,⟨none,.load false 1 (.tmp 6),none⟩,⟨none,.bin .add (.tmp 5) (.tmp 7),none⟩,⟨none,.fieldAddr 2 (.var 5),none⟩,⟨none,.fieldAddr 1 (.tmp 9),none⟩,⟨none,.load false 1 (.tmp 10),none⟩,⟨none,.call (.fn 159) [.var 2,.tmp 8,.tmp 11],none⟩]) (.seq (.region [⟨none,.fieldAddr 2 (.var 5),none⟩,⟨none,.load true 2 (.tmp 0),none⟩,⟨some 6,.alloc 2 (.agg [.int .i64 0,.int .i64 0]),none⟩,⟨none,.store 2 (.var 6) (.tmp 1),none⟩]) (.seq (.seq (.region [⟨none,.fieldAddr 2 (.var 5),none⟩,⟨none,.fieldAddr 0 (.tmp 0),none⟩,⟨none,.load false 1 (.tmp 1),none⟩,⟨none,.fieldAddr 2 (.var 4),none⟩,⟨none,.fieldAddr 0 (.tmp 3),none⟩,⟨none,.load false 1 (.tmp 4),none⟩,⟨some 12,.bin .eql (.tmp 2) (.tmp 5),none⟩]) (.cond (.var 12) (.region [⟨none,.fieldAddr 4 (.var 5),none⟩,⟨none,.load true 2 (.tmp 0),none⟩,⟨none,.store 2 (.var 6) (.tmp 1),none⟩]) .skip)) (.region [⟨none,.fieldAddr 4 (.var 4),none⟩,⟨none,.fieldAddr 1 (.tmp 0),none⟩,⟨none,.load false 1 (.tmp 1),none⟩,⟨none,.fieldAddr 1 (.var 4),none⟩,⟨none,.load false 1 (.tmp 3),none⟩,⟨none,.bin .add (.tmp 2) (.tmp 4),none⟩,⟨none,.fieldAddr 2 (.var 1),none⟩,⟨none,.load false 1 (.tmp 6),none⟩,⟨none,.bin .add (.tmp 5) (.tmp 7),none⟩,⟨none,.fieldAddr 1 (.var 6),none⟩,⟨none,.load false 1 (.tmp 9),none⟩,⟨none,.call (.fn 159) [.var 2,.tmp 8,.tmp 10],none⟩]))))))))) (.kill [0,3,4,5,6,10,11,12])) (.region [⟨none,.bin .add (.var 9) (.cst (.int .i64 1)),none⟩,⟨some 9,.mv (.tmp 0),none⟩])))
def E9:bC:=⟨1,13,.seq (.region [⟨some 1,.box (.var 0),none⟩,⟨some 2,.alloc 1 .nilS,none⟩]) (.seq (.region [⟨none,.fieldAddr 0 (.var 1),none⟩,⟨none,.load false 1 (.tmp 0),none⟩,⟨none,.fieldAddr 2 (.var 1),none⟩,⟨none,.load false 1 (.tmp 2),none⟩,⟨none,.bin .add (.tmp 1) (.tmp 3),none⟩,⟨none,.fieldAddr 3 (.var 1),none⟩,⟨none,.load false 1 (.tmp 5),none⟩,⟨none,.indexSl 6 (.tmp 6) (.cst (.int .i64 0)),none⟩,⟨none,.fieldAddr 2 (.tmp 7),none⟩,⟨none,.fieldAddr 1 (.tmp 8),none⟩,⟨none,.load false 1 (.tmp 9),none⟩,⟨none,.call (.fn 159) [.var 2,.tmp 4,.tmp 10],none⟩]) (.seq (.seq (.region [⟨none,.fieldAddr 3 (.var 1),none⟩,⟨some 7,.load false 1 (.tmp 0),none⟩,⟨some 8,.lenSl (.var 7),none⟩,⟨some 9,.mv (.cst (.int .i64 0)),none⟩]) (.seq (.block 0 (.loop [0,3,4,5,6,10,11,12] Cd)) (.kill [0,1,3,4,5,6,7,8,9,10,11,12]))) (.seq (.region [⟨none,.load false 1 (.var 2),none⟩,⟨none,.store 1 (.var 2) (.tmp 0),none⟩]) .ret))),[.cell 2 false 1]⟩
theorem C3:aB Tryz.prog Tryz.f121 1 [0,1,2,3,4,5,6,20,21,22,23,46,74] [] true ([[0,3,4,5,6,10,11,12]],[[0,3,4,5,6,10,11,12],[0,1,3,4,5,6,7,8,9,10,11,12]])=some E9:=by kernel_rfl
theorem K5:Tryz.prog.funcs[121]?=some Tryz.f121:=by kernel_rfl
def E8:bC:=⟨1,2,.seq (.region [⟨some 1,.mv (.cst (.bool false)),none⟩]) (.seq (.region [⟨none,.mv (.var 0),none⟩,⟨none,.call (.fn 160) [.tmp 0,.fn 161],none⟩,⟨some 1,.mv (.tmp 1),none⟩]) .ret),[.tmp 1]⟩
theorem C2:aB Tryz.prog Tryz.f122 1 [0,2] [] true ([],[])=some E8:=by kernel_rfl
theorem K4:Tryz.prog.funcs[122]?=some Tryz.f122:=by kernel_rfl
def Cc:MC:=.seq (.region [⟨some 8,.bin .lss (.var 7) (.var 6),none⟩]) (.seq (.cond (.var 8) .skip (.exit 0)) (.seq (.seq (.block 1 (.seq (.region [⟨none,.indexSl 3 (.var 5) (.var 7),none⟩,⟨none,.load true 3 (.tmp 0),none⟩,⟨some 3,.alloc 3 (.agg [.int .i64 0,.int .i64 0,.int .i64 0]),none⟩,⟨none,.store 3 (.var 3) (.tmp 1),none⟩]) (.seq (.region [⟨none,.fieldAddr 3 (.var 1),none⟩,⟨none,.load false 1 (.tmp 0),none⟩,⟨none,.fieldAddr 0 (.var 3),none⟩,⟨none,.load false 1 (.tmp 2),none⟩,⟨none,.indexSl 6 (.tmp 1) (.tmp 3),none⟩,⟨none,.load true 6 (.tmp 4),none⟩,⟨some 4,.alloc 6 (.agg [.int .i64 0,.int .i64 0,.int .i64 0,.int .i64 0,.int .i64 0,.int .i64 0]),none⟩,⟨none,.store 6 (.var 4) (.tmp 5),none⟩]) (.region [⟨none,.fieldAddr 3 (.var 1),none⟩,⟨none,.load false 1 (.tmp 0),none⟩,⟨none,.fieldAddr 1 (.var 3),none⟩,⟨none,.load false 1 (.tmp 2),none⟩,⟨none,.indexSl 6 (.tmp 1) (.tmp 3),none⟩,⟨none,.fieldAddr 4 (.tmp 4),none⟩,⟨none,.fieldAddr 1 (.tmp 5),none⟩,⟨none,.load false 1 (.tmp 6),none⟩,⟨none,.fieldAddr 2 (.var 4),none⟩,⟨none,.fieldAddr 1 (.tmp 8),none⟩,⟨none,.load false 1 (.tmp 9),none⟩,⟨none,.fieldAddr 0 (.var 4),none⟩,⟨none,.load false 1 (.tmp 11),none⟩,⟨none,.bin .add (.tmp 10) (.tmp 12),none⟩,⟨none,.fieldAddr 2 (.var 3),none⟩,⟨none,.load false 1 (.tmp 14),none⟩,⟨none,.bin .add (.tmp 13) (.tmp 15),none⟩,⟨none,.call (.fn 159) [.var 2,.tmp 7,.tmp 16],none⟩])))) (.kill [0,3,4,8])) (.region [⟨none,.bin .add (.var 7) (.cst (.int .i64 1)),none⟩,⟨some 7,.mv (.tmp 0),none⟩])))
def E7:bC:=⟨1,9,.seq (.region [⟨some 1,.box (.var 0),none⟩,⟨some 2,.alloc 1 .nilS,none⟩]) (.seq (.seq (.region [⟨none,.fieldAddr 4 (.var 1),none⟩,⟨some 5,.load false 1 (.tmp 0),none⟩,⟨some 6,.lenSl (.var 5),none⟩,⟨some 7,.mv (.cst (.int .i64 0)),none⟩]) (.seq (.block 0 (.loop [0,3,4,8] Cc)) (.kill [0,1,3,4,5,6,7,8]))) (.seq (.region [⟨none,.load false 1 (.var 2),none⟩,⟨none,.store 1 (.var 2) (.tmp 0),none⟩]) .ret)),[.cell 2 false 1]⟩
theorem CZ:aB Tryz.prog Tryz.f123 1 [0,1,2,4,5,7,8,9,10] [] true ([[0,3,4,8]],[[0,3,4,8],[0,1,3,4,5,6,7,8]])=some E7:=by kernel_rfl
theorem K3:Tryz.prog.funcs[123]?=some Tryz.f123:=by kernel_rfl
def E6:bC:=⟨3,6,.seq (.region [⟨some 3,.box (.var 0),none⟩,⟨some 4,.mv (.cst (.bool false)),none⟩]) (.seq (.region [⟨none,.fieldAddr 0 (.var 1),none⟩,⟨none,.load false 1 (.tmp 0),none⟩,⟨none,.fieldAddr 0 (.var 3),none⟩,⟨none,.load false 1 (.tmp 2),none⟩,⟨none,.bin .lss (.tmp 1) (.tmp 3),none⟩,⟨none,.mv (.tmp 4),none⟩,⟨none,.fieldAddr 0 (.var 1),some (.tmp 5,false)⟩,⟨none,.load false 1 (.tmp 6),some (.tmp 5,false)⟩,⟨none,.fieldAddr 0 (.var 3),some (.tmp 5,false)⟩,⟨none,.load false 1 (.tmp 8),some (.tmp 5,false)⟩,⟨none,.bin .eql (.tmp 7) (.tmp 9),some (.tmp 5,false)⟩,⟨none,.mv (.tmp 10),some (.tmp 5,false)⟩,⟨none,.fieldAddr 1 (.var 1),some (.tmp 11,true)⟩,⟨none,.load false 1 (.tmp 12),some (.tmp 11,true)⟩,⟨none,.fieldAddr 1 (.var 3),some (.tmp 11,true)⟩,⟨none,.load false 1 (.tmp 14),some (.tmp 11,true)⟩,⟨none,.bin .lss (.tmp 13) (.tmp 15),some (.tmp 11,true)⟩,⟨none,.pick (.tmp 11) (.tmp 16) (.cst (.bool false)),some (.tmp 5,false)⟩,⟨none,.pick (.tmp 5) (.cst (.bool true)) (.tmp 17),none⟩,⟨some 5,.mv (.tmp 18),none⟩]) (.seq (.region [⟨none,.load true 3 (.var 3),none⟩,⟨none,.store 3 (.var 1) (.tmp 0),none⟩]) (.seq (.region [⟨none,.mv (.var 5),none⟩,⟨none,.mv (.tmp 0),none⟩,⟨none,.fieldAddr 0 (.var 3),some (.tmp 1,true)⟩,⟨none,.load false 1 (.tmp 2),some (.tmp 1,true)⟩,⟨none,.bin .geq (.tmp 3) (.cst (.int .i64 0)),some (.tmp 1,true)⟩,⟨none,.pick (.tmp 1) (.tmp 4) (.cst (.bool false)),none⟩,⟨none,.mv (.tmp 5),none⟩,⟨none,.fieldAddr 0 (.var 3),some (.tmp 6,true)⟩,⟨none,.load false 1 (.tmp 7),some (.tmp 6,true)⟩,⟨none,.fieldAddr 1 (.var 3),some (.tmp 6,true)⟩,⟨none,.load false 1 (.tmp 9),some (.tmp 6,true)⟩,⟨none,.bin .lss (.tmp 8) (.tmp 10),some (.tmp 6,true)⟩,⟨none,.pick (.tmp 6) (.tmp 11) (.cst (.bool false)),none⟩,⟨none,.mv (.tmp 12),none⟩,⟨none,.fieldAddr 1 (.var 3),some (.tmp 13,true)⟩,⟨none,.load false 1 (.tmp 14),some (.tmp 13,true)⟩,⟨none,.fieldAddr 3 (.var 2),some (.tmp 13,true)⟩,⟨none,.load false 1 (.tmp 16),some (.tmp 13,true)⟩,⟨none,.lenSl (.tmp 17),some (.tmp 13,true)⟩,⟨none,.bin .lss (.tmp 15) (.tmp 18),some (.tmp 13,true)⟩,⟨none,.pick (.tmp 13) (.tmp 19) (.cst (.bool false)),none⟩,⟨none,.mv (.tmp 20),none⟩,⟨none,.fieldAddr 2 (.var 3),some (.tmp 21,true)⟩,⟨none,.load false 1 (.tmp 22),some (.tmp 21,true)⟩,⟨none,.call (.fn 88) [.tmp 23,.cst (.int .i64 0),.cst (.int .i64 1000000)],some (.tmp 21,true)⟩,⟨none,.pick (.tmp 21) (.tmp 24) (.cst (.bool false)),none⟩,⟨some 4,.mv (.tmp 25),none⟩]) .ret))),[.tmp 4]⟩
theorem CY:aB Tryz.prog Tryz.f124 3 [0,1,2,3,4,5] [] true ([],[])=some E6:=by kernel_rfl
theorem KZ:Tryz.prog.funcs[124]?=some Tryz.f124:=by kernel_rfl
def E5:bC:=⟨2,3,.seq (.region [⟨some 2,.mv (.cst (.bool false)),none⟩]) (.seq (.region [⟨none,.mv (.var 0),none⟩,⟨none,.mv (.var 1),none⟩,⟨none,.call (.fn 162) [.tmp 0,.tmp 1],none⟩,⟨none,.bin .geq (.tmp 2) (.cst (.int .i64 0)),none⟩,⟨some 2,.mv (.tmp 3),none⟩]) .ret),[.tmp 2]⟩
theorem CX:aB Tryz.prog Tryz.f125 2 [0,1,4] [] true ([],[])=some E5:=by kernel_rfl
theorem KY:Tryz.prog.funcs[125]?=some Tryz.f125:=by kernel_rfl
def E4:bC:=⟨1,3,.seq (.region [⟨some 1,.box (.var 0),none⟩,⟨some 2,.mv (.cst (.bool false)),none⟩]) (.seq (.region [⟨none,.load true 6 (.var 1),none⟩,⟨none,.call (.fn 127) [.tmp 0],none⟩,⟨none,.un .not (.tmp 1),none⟩,⟨some 2,.mv (.tmp 2),none⟩]) .ret),[.tmp 2]⟩
theorem CW:aB Tryz.prog Tryz.f126 1 [0,1,2] [] true ([],[])=some E4:=by kernel_rfl
theorem KX:Tryz.prog.funcs[126]?=some Tryz.f126:=by kernel_rfl
def E3:bC:=⟨1,4,.seq (.region [⟨some 1,.box (.var 0),none⟩,⟨some 2,.mv (.cst (.bool false)),none⟩]) (.seq (.seq (.region [⟨none,.fieldAddr 0 (.var 1),none⟩,⟨none,.load false 1 (.tmp 0),none⟩,⟨none,.fieldAddr 1 (.var 1),none⟩,⟨none,.load false 1 (.tmp 2),none⟩,⟨none,.call (.fn 88) [.tmp 1,.cst (.int .i64 1),.tmp 3],none⟩,⟨none,.un .not (.tmp 4),none⟩,⟨none,.mv (.tmp 5),none⟩,⟨none,.fieldAddr 1 (.var 1),some (.tmp 6,false)⟩,⟨none,.load false 1 (.tmp 7),some (.tmp 6,false)⟩,⟨none,.bin .gtr (.tmp 8) (.cst (.int .i64 10000)),some (.tmp 6,false)⟩,⟨some 3,.pick (.tmp 6) (.cst (.bool true)) (.tmp 9),none⟩]) (.cond (.var 3) (.seq (.region [⟨some 2,.mv (.cst (.bool false)),none⟩]) .ret) .skip)) (.seq (.region [⟨none,.fieldAddr 2 (.var 1),none⟩,⟨none,.load true 2 (.tmp 0),none⟩,⟨none,.fieldAddr 1 (.var 1),none⟩,⟨none,.load false 1 (.tmp 2),none⟩,⟨none,.call (.fn 163) [.tmp 1,.tmp 3],none⟩,⟨none,.mv (.tmp 4),none⟩,⟨none,.fieldAddr 4 (.var 1),some (.tmp 5,true)⟩,⟨none,.load true 2 (.tmp 6),some (.tmp 5,true)⟩,⟨none,.fieldAddr 1 (.var 1),some (.tmp 5,true)⟩,⟨none,.load false 1 (.tmp 8),some (.tmp 5,true)⟩,⟨none,.call (.fn 163) [.tmp 7,.tmp 9],some (.tmp 5,true)⟩,⟨none,.pick (.tmp 5) (.tmp 10) (.cst (.bool false)),none⟩,⟨none,.mv (.tmp 11),none⟩,⟨none,.fieldAddr 2 (.var 1),some (.tmp 12,true)⟩,⟨none,.fieldAddr 0 (.tmp 13),some (.tmp 12,true)⟩,⟨none,.load false 1 (.tmp 14),some (.tmp 12,true)⟩,⟨none,.fieldAddr 4 (.var 1),some (.tmp 12,true)⟩,⟨none,.fieldAddr 0 (.tmp 16),some (.tmp 12,true)⟩,⟨none,.load false 1 (.tmp 17),some (.tmp 12,true)⟩,⟨none,.bin .neq (.tmp 15) (.tmp 18),some (.tmp 12,true)⟩,⟨none,.pick (.tmp 12) (.tmp 19) (.cst (.bool false)),none⟩,⟨some 2,.mv (.tmp 20),none⟩]) .ret)),[.tmp 2]⟩
theorem CV:aB Tryz.prog Tryz.f127 1 [0,1,2,13] [] true ([],[])=some E3:=by kernel_rfl
theorem KW:Tryz.prog.funcs[127]?=some Tryz.f127:=by kernel_rfl
def E2:bC:=⟨2,3,.seq (.region [⟨some 2,.mv (.cst (.bool false)),none⟩]) (.seq (.region [⟨none,.mv (.var 0),none⟩,⟨none,.mv (.var 1),none⟩,⟨none,.call (.fn 164) [.tmp 0,.tmp 1],none⟩,⟨none,.bin .geq (.tmp 2) (.cst (.int .i64 0)),none⟩,⟨some 2,.mv (.tmp 3),none⟩]) .ret),[.tmp 2]⟩
theorem CU:aB Tryz.prog Tryz.f128 2 [0,1,4] [] true ([],[])=some E2:=by kernel_rfl
theorem KV:Tryz.prog.funcs[128]?=some Tryz.f128:=by kernel_rfl
def E1:bC:=⟨2,4,.seq (.region [⟨some 2,.box (.var 0),none⟩,⟨some 3,.mv (.cst (.bool false)),none⟩]) (.seq (.region [⟨none,.load false 1 (.var 1),none⟩,⟨none,.load true 3 (.var 2),none⟩,⟨none,.call (.tmp 0) [.tmp 1],none⟩,⟨none,.un .not (.tmp 2),none⟩,⟨some 3,.mv (.tmp 3),none⟩]) .ret),[.tmp 3]⟩
theorem CT:aB Tryz.prog Tryz.f129 2 [0,1,2,3] [] true ([],[])=some E1:=by kernel_rfl
theorem KU:Tryz.prog.funcs[129]?=some Tryz.f129:=by kernel_rfl
def E0:bC:=⟨2,10,.seq (.region [⟨some 2,.mv (.cst (.int .i64 0)),none⟩]) (.seq (.region [⟨none,.mv (.var 0),none⟩,⟨none,.call (.fn 169) [.tmp 0],none⟩,⟨some 3,.mv (.tmp 1),none⟩]) (.seq (.region [⟨none,.mv (.var 1),none⟩,⟨none,.call (.fn 169) [.tmp 0],none⟩,⟨some 4,.mv (.tmp 1),none⟩]) (.seq (.seq (.region [⟨some 5,.mv (.var 3),none⟩]) (.cond (.var 5) (.seq (.seq (.region [⟨some 6,.mv (.var 4),none⟩]) (.cond (.var 6) (.seq (.region [⟨some 2,.mv (.cst (.int .i64 0)),none⟩]) .ret) .skip)) (.seq (.region [⟨some 2,.mv (.cst (.int .i64 (-1))),none⟩]) .ret)) .skip)) (.seq (.seq (.region [⟨some 7,.mv (.var 4),none⟩]) (.cond (.var 7) (.seq (.region [⟨some 2,.mv (.cst (.int .i64 1)),none⟩]) .ret) .skip)) (.seq (.seq (.region [⟨none,.mv (.var 0),none⟩,⟨none,.mv (.var 1),none⟩,⟨some 8,.bin .lss (.tmp 0) (.tmp 1),none⟩]) (.cond (.var 8) (.seq (.region [⟨some 2,.mv (.cst (.int .i64 (-1))),none⟩]) .ret) .skip)) (.seq (.seq (.region [⟨none,.mv (.var 0),none⟩,⟨none,.mv (.var 1),none⟩,⟨some 9,.bin .gtr (.tmp 0) (.tmp 1),none⟩]) (.cond (.var 9) (.seq (.region [⟨some 2,.mv (.cst (.int .i64 1)),none⟩]) .ret) .skip)) (.seq (.region [⟨some 2,.mv (.cst (.int .i64 0)),none⟩]) .ret))))))),[.tmp 2]⟩
theorem CS:aB Tryz.prog Tryz.f138 2 [0,1,4,5,6,11,12,13,16,19] [] true ([],[])=some E0:=by kernel_rfl
theorem KT:Tryz.prog.funcs[138]?=some Tryz.f138:=by kernel_rfl
def Cb:MC:=.seq (.region [⟨some 6,.bin .lss (.var 5) (.var 4),none⟩]) (.seq (.cond (.var 6) .skip (.exit 0)) (.seq (.seq (.block 1 (.seq (.region [⟨none,.mv (.var 5),none⟩,⟨some 3,.mv (.tmp 0),none⟩]) (.seq (.region [⟨none,.mv (.var 1),none⟩,⟨none,.mv (.var 0),none⟩,⟨none,.mv (.var 3),none⟩,⟨none,.indexSl 7 (.tmp 1) (.tmp 2),none⟩,⟨none,.load true 7 (.tmp 3),none⟩,⟨some 7,.call (.tmp 0) [.tmp 4],none⟩]) (.cond (.var 7) (.seq (.region [⟨none,.mv (.var 3),none⟩,⟨some 2,.mv (.tmp 0),none⟩]) .ret) .skip)))) (.kill [2,3,6,7])) (.region [⟨none,.bin .add (.var 5) (.cst (.int .i64 1)),none⟩,⟨some 5,.mv (.tmp 0),none⟩])))
def EZ:bC:=⟨2,8,.seq (.region [⟨some 2,.mv (.cst (.int .i64 0)),none⟩]) (.seq (.seq (.region [⟨none,.mv (.var 0),none⟩,⟨some 4,.lenSl (.tmp 0),none⟩,⟨some 5,.mv (.cst (.int .i64 0)),none⟩]) (.seq (.block 0 (.loop [2,3,6,7] Cb)) (.kill [0,1,2,3,4,5,6,7]))) (.seq (.region [⟨some 2,.mv (.cst (.int .i64 (-1))),none⟩]) .ret)),[.tmp 2]⟩
theorem CR:aB Tryz.prog Tryz.f154 2 [0,1,4,5,7,8,9,16] [] true ([[2,3,6,7]],[[2,3,6,7],[0,1,2,3,4,5,6,7]])=some EZ:=by kernel_rfl
theorem KR:Tryz.prog.funcs[154]?=some Tryz.f154:=by kernel_rfl
def Ca:MC:=.seq (.region [⟨some 9,.bin .lss (.var 8) (.var 7),none⟩]) (.seq (.cond (.var 9) .skip (.exit 0)) (.seq (.seq (.block 1 (.seq (.region [⟨none,.mv (.var 8),none⟩,⟨none,.indexSl 1 (.var 6) (.var 8),none⟩,⟨none,.load false 1 (.tmp 1),none⟩,⟨some 4,.mv (.tmp 0),none⟩,⟨some 5,.mv (.tmp 2),none⟩]) (.seq (.region [⟨none,.mv (.var 5),none⟩,⟨none,.mv (.var 1),none⟩,⟨none,.mv (.var 2),none⟩,⟨none,.call (.fn 112) [.tmp 0,.tmp 1,.tmp 2],none⟩,⟨none,.un .not (.tmp 3),none⟩,⟨none,.mv (.tmp 4),none⟩,⟨none,.mv (.var 4),some (.tmp 5,false)⟩,⟨none,.bin .gtr (.tmp 6) (.cst (.int .i64 0)),some (.tmp 5,false)⟩,⟨none,.mv (.tmp 7),some (.tmp 5,false)⟩,⟨none,.mv (.var 5),some (.tmp 8,true)⟩,⟨none,.mv (.var 0),some (.tmp 8,true)⟩,⟨none,.mv (.var 4),some (.tmp 8,true)⟩,⟨none,.bin .sub (.tmp 11) (.cst (.int .i64 1)),some (.tmp 8,true)⟩,⟨none,.indexSl 1 (.tmp 10) (.tmp 12),some (.tmp 8,true)⟩,⟨none,.load false 1 (.tmp 13),some (.tmp 8,true)⟩,⟨none,.bin .leq (.tmp 9) (.tmp 14),some (.tmp 8,true)⟩,⟨none,.pick (.tmp 8) (.tmp 15) (.cst (.bool false)),some (.tmp 5,false)⟩,⟨some 10,.pick (.tmp 5) (.cst (.bool true)) (.tmp 16),none⟩]) (.cond (.var 10) (.seq (.region [⟨some 3,.mv (.cst (.bool false)),none⟩]) .ret) .skip)))) (.kill [3,4,5,9,10])) (.region [⟨none,.bin .add (.var 8) (.cst (.int .i64 1)),none⟩,⟨some 8,.mv (.tmp 0),none⟩])))
def EY:bC:=⟨3,11,.seq (.region [⟨some 3,.mv (.cst (.bool false)),none⟩]) (.seq (.seq (.region [⟨some 6,.mv (.var 0),none⟩,⟨some 7,.lenSl (.var 6),none⟩,⟨some 8,.mv (.cst (.int .i64 0)),none⟩]) (.seq (.block 0 (.loop [3,4,5,9,10] Ca)) (.kill [0,1,2,3,4,5,6,7,8,9,10]))) (.seq (.region [⟨some 3,.mv (.cst (.bool true)),none⟩]) .ret)),[.tmp 3]⟩
theorem CQ:aB Tryz.prog Tryz.f155 3 [0,1,2,6,7,8,9,10,11,12,33] [] true ([[3,4,5,9,10]],[[3,4,5,9,10],[0,1,2,3,4,5,6,7,8,9,10]])=some EY:=by kernel_rfl
theorem KQ:Tryz.prog.funcs[155]?=some Tryz.f155:=by kernel_rfl
def EX:bC:=⟨2,4,.seq (.region [⟨some 2,.box (.var 0),none⟩,⟨some 3,.mv (.cst (.bool false)),none⟩]) (.seq (.region [⟨none,.load true 4 (.var 2),none⟩,⟨none,.call (.fn 71) [.tmp 0],none⟩,⟨none,.mv (.tmp 1),none⟩,⟨none,.mv (.var 1),some (.tmp 2,true)⟩,⟨none,.makeFunc (.func 173) [] [.var 2],some (.tmp 2,true)⟩,⟨none,.call (.fn 61) [.tmp 3,.tmp 4],some (.tmp 2,true)⟩,⟨none,.un .not (.tmp 5),some (.tmp 2,true)⟩,⟨none,.pick (.tmp 2) (.tmp 6) (.cst (.bool false)),none⟩,⟨some 3,.mv (.tmp 7),none⟩]) .ret),[.tmp 3]⟩
theorem CP:aB Tryz.prog Tryz.f156 2 [0,1,2,4] [] true ([],[])=some EX:=by kernel_rfl
theorem KP:Tryz.prog.funcs[156]?=some Tryz.f156:=by kernel_rfl
def uQ:MC:=.seq (.region [⟨some 14,.bin .lss (.var 13) (.var 12),none⟩]) (.seq (.cond (.var 14) .skip (.exit 2)) (.seq (.seq (.block 3 (.seq (.region [⟨none,.mv (.var 13),none⟩,⟨none,.indexSl 1 (.var 11) (.var 13),none⟩,⟨none,.load false 1 (.tmp 1),none⟩,⟨some 9,.mv (.tmp 0),none⟩,⟨some 10,.mv (.tmp 2),none⟩]) (.seq (.region [⟨none,.mv (.var 10),none⟩,⟨none,.eqNil 0 true (.tmp 0),none⟩,⟨none,.mv (.tmp 1),none⟩,⟨none,.mv (.var 5),some (.tmp 2,true)⟩,⟨none,.mv (.var 9),some (.tmp 2,true)⟩,⟨none,.indexSl 1 (.tmp 3) (.tmp 4),some (.tmp 2,true)⟩,⟨none,.load false 1 (.tmp 5),some (.tmp 2,true)⟩,⟨none,.un .not (.tmp 6),some (.tmp 2,true)⟩,⟨none,.pick (.tmp 2) (.tmp 7) (.cst (.bool false)),none⟩,⟨none,.mv (.tmp 8),none⟩,⟨none,.mv (.var 8),some (.tmp 9,true)⟩,⟨none,.bin .lss (.tmp 10) (.cst (.int .i64 0)),some (.tmp 9,true)⟩,⟨none,.mv (.tmp 11),some (.tmp 9,true)⟩,⟨none,.load false 1 (.var 6),some (.tmp 12,false)⟩,⟨none,.mv (.var 10),some (.tmp 12,false)⟩,⟨none,.nilCheck (.tmp 14),some (.tmp 12,false)⟩,⟨none,.load true 2 (.tmp 15),some (.tmp 12,false)⟩,⟨none,.load false 1 (.var 4),some (.tmp 12,false)⟩,⟨none,.mv (.var 8),some (.tmp 12,false)⟩,⟨none,.indexSl 1 (.tmp 17) (.tmp 18),some (.tmp 12,false)⟩,⟨none,.load false 1 (.tmp 19),some (.tmp 12,false)⟩,⟨none,.nilCheck (.tmp 20),some (.tmp 12,false)⟩,⟨none,.load true 2 (.tmp 21),some (.tmp 12,false)⟩,⟨none,.call (.tmp 13) [.tmp 16,.tmp 22],some (.tmp 12,false)⟩,⟨none,.bin .lss (.tmp 23) (.cst (.int .i64 0)),some (.tmp 12,false)⟩,⟨none,.pick (.tmp 12) (.cst (.bool true)) (.tmp 24),some (.tmp 9,true)⟩,⟨some 15,.pick (.tmp 9) (.tmp 25) (.cst (.bool false)),none⟩]) (.cond (.var 15) (.region [⟨none,.mv (.var 9),none⟩,⟨some 8,.mv (.tmp 0),none⟩]) .skip)))) (.kill [0,1,3,9,10,14,15,16])) (.region [⟨none,.bin .add (.var 13) (.cst (.int .i64 1)),none⟩,⟨some 13,.mv (.tmp 0),none⟩])))
def fk:MC:=.seq (.block 1 (.seq (.region [⟨some 8,.mv (.cst (.int .i64 (-1))),none⟩]) (.seq (.seq (.region [⟨some 11,.load false 1 (.var 4),none⟩,⟨some 12,.lenSl (.var 11),none⟩,⟨some 13,.mv (.cst (.int .i64 0)),none⟩]) (.seq (.block 2 (.loop [0,1,3,9,10,14,15,16] uQ)) (.kill [0,1,3,9,10,11,12,13,14,15,16]))) (.seq (.seq (.region [⟨none,.mv (.var 8),none⟩,⟨some 16,.bin .lss (.tmp 0) (.cst (.int .i64 0)),none⟩]) (.cond (.var 16) (.seq (.region [⟨none,.load false 1 (.var 4),none⟩,⟨some 3,.mv (.tmp 0),none⟩]) .ret) .skip)) (.seq (.region [⟨none,.mv (.var 5),none⟩,⟨none,.mv (.var 8),none⟩,⟨none,.indexSl 1 (.tmp 0) (.tmp 1),none⟩,⟨none,.store 1 (.tmp 2) (.cst (.bool true)),none⟩]) (.regionD [] [⟨none,.mv (.var 7),none⟩,⟨none,.load false 1 (.var 4),none⟩,⟨none,.mv (.var 8),none⟩,⟨none,.indexSl 1 (.tmp 1) (.tmp 2),none⟩,⟨none,.load false 1 (.tmp 3),none⟩,⟨none,.nilCheck (.tmp 4),none⟩,⟨none,.fieldAddr 0 (.tmp 5),none⟩,⟨none,.load false 1 (.tmp 6),none⟩,⟨none,.fieldAddr 2 (.var 2),none⟩,⟨none,.load false 1 (.tmp 8),none⟩,⟨none,.mv (.var 8),none⟩,⟨none,.indexSl 7 (.tmp 9) (.tmp 10),none⟩,⟨none,.fieldAddr 2 (.tmp 11),none⟩,⟨none,.load false 1 (.tmp 12),none⟩,⟨none,.bin .add (.tmp 7) (.tmp 13),none⟩,⟨none,.fieldAddr 0 (.var 2),none⟩,⟨none,.load false 1 (.tmp 15),none⟩,⟨none,.bin .add (.tmp 14) (.tmp 16),none⟩,⟨none,.load false 1 (.var 4),none⟩,⟨none,.mv (.var 8),none⟩,⟨none,.indexSl 1 (.tmp 18) (.tmp 19),none⟩,⟨none,.load false 1 (.tmp 20),none⟩,⟨none,.nilCheck (.tmp 21),none⟩,⟨none,.fieldAddr 1 (.tmp 22),none⟩,⟨none,.load false 1 (.tmp 23),none⟩,⟨none,.call (.fn 63) [.tmp 24],none⟩,⟨none,.mv (.var 8),none⟩,⟨none,.buildF 1 [.tmp 26],none⟩,⟨none,.appendN 1 8 (.tmp 25) (.tmp 27),none⟩,⟨none,.build [.int .i64 0,.nilS] [(0,(1,.tmp 17)),(1,(1,.tmp 28))],none⟩,⟨none,.fieldAddr 2 (.var 2),none⟩,⟨none,.load false 1 (.tmp 30),none⟩,⟨none,.mv (.var 8),none⟩,⟨none,.indexSl 7 (.tmp 31) (.tmp 32),none⟩,⟨none,.load true 7 (.tmp 33),none⟩,⟨none,.call (.tmp 0) [.tmp 29,.tmp 34],none⟩] [(1,25),(3,25),(4,25),(6,25),(7,25),(8,25),(9,25),(11,25),(12,25),(13,25),(15,25),(16,25),(1,28),(3,28),(4,28),(6,28),(7,28),(8,28),(9,28),(11,28),(12,28),(13,28),(15,28),(16,28),(25,30),(28,30),(25,31),(28,31),(25,33),(28,33),(25,34),(28,34)])))))) (.kill [0,1,3,8,9,10,11,12,13,14,15,16])
def BW:bC:=⟨2,17,.seq (.region [⟨some 2,.box (.var 0),none⟩,⟨some 3,.mv (.cst .nilS),none⟩]) (.seq (.region [⟨none,.fieldAddr 2 (.var 2),none⟩,⟨none,.load false 1 (.tmp 0),none⟩,⟨none,.lenSl (.tmp 1),none⟩,⟨none,.makeSlice 1 8 .nilP (.tmp 2) (.tmp 2),none⟩,⟨some 4,.alloc 1 .nilS,none⟩,⟨none,.store 1 (.var 4) (.tmp 3),none⟩]) (.seq (.region [⟨none,.fieldAddr 2 (.var 2),none⟩,⟨none,.load false 1 (.tmp 0),none⟩,⟨none,.lenSl (.tmp 1),none⟩,⟨none,.makeSlice 1 1 (.bool false) (.tmp 2) (.tmp 2),none⟩,⟨some 5,.mv (.tmp 3),none⟩]) (.seq (.region [⟨some 6,.alloc 1 .nilF,none⟩,⟨none,.store 1 (.var 6) (.fn 174),none⟩]) (.seq (.region [⟨none,.makeFunc (.func 175) [] [.var 4,.var 6],none⟩,⟨some 7,.mv (.tmp 0),none⟩]) (.seq (.region [⟨none,.mv (.var 7),none⟩,⟨none,.fieldAddr 0 (.var 2),none⟩,⟨none,.load false 1 (.tmp 1),none⟩,⟨none,.build [.int .i64 0,.nilS] [(0,(1,.tmp 2))],none⟩,⟨none,.fieldAddr 2 (.var 2),none⟩,⟨none,.load false 1 (.tmp 4),none⟩,⟨none,.mv (.var 1),none⟩,⟨none,.indexSl 7 (.tmp 5) (.tmp 6),none⟩,⟨none,.load true 7 (.tmp 7),none⟩,⟨none,.call (.tmp 0) [.tmp 3,.tmp 8],none⟩]) (.seq (.block 0 (.loop [0,1,3,8,9,10,11,12,13,14,15,16] fk)) (.kill [0,1,2,3,4,5,6,7,8,9,10,11,12,13,14,15,16]))))))),[.tmp 3]⟩
def gc:List Nat:=[0,1,3,8,9,10,11,12,13,14,15,16]
abbrev ue (v2 v4 v5 v6 v7:AV):List AV:=[.undef,.undef,v2,.undef,v4,v5,v6,v7,.undef,.undef,.undef,.undef,.undef,.undef,.undef,.undef,.undef]
theorem Dk {d0 d1 v2 d3 v4 v5 v6 v7 d8 d9 d10 d11 d12 d13 d14 d15 d16:AV}:clear gc [d0,d1,v2,d3,v4,v5,v6,v7,d8,d9,d10,d11,d12,d13,d14,d15,d16]=ue v2 v4 v5 v6 v7:=rfl
theorem Cv {E:Env} {fuel:Nat} {A:ac} {o:Out} {k:List KC} {d0 d1 v2 d3 v4 v5 v6 v7 d8 d9 d10 d11 d12 d13 d14 d15 d16:AV} (h:bM (evC E fuel fk) gc fuel (ue v2 v4 v5 v6 v7) A=some o) :
  run E fuel (.code (.loop [0,1,3,8,9,10,11,12,13,14,15,16] fk) :: k) [d0,d1,v2,d3,v4,v5,v6,v7,d8,d9,d10,d11,d12,d13,d14,d15,d16] A=after E fuel k o:=aU gc _ _ (by rw [Dk]; exact h)
theorem CO:aB Tryz.prog Tryz.f157 2 [0,1,2,4,5,6,7,8,9,10,11,31,32,33,34,64,68] [] true ([[0,1,3,8,9,10,11,12,13,14,15,16],[0,1,3,9,10,14,15,16]],[[0,1,3,9,10,14,15,16],[0,1,3,9,10,11,12,13,14,15,16],[0,1,3,8,9,10,11,12,13,14,15,16],[0,1,2,3,4,5,6,7,8,9,10,11,12,13,14,15,16]])=some BW:=by kernel_rfl
theorem KO:Tryz.prog.funcs[157]?=some Tryz.f157:=by kernel_rfl
def EW:bC:=⟨3,3,.region [⟨none,.mv (.var 0),none⟩,⟨none,.mv (.var 0),none⟩,⟨none,.nilCheck (.tmp 1),none⟩,⟨none,.load false 1 (.tmp 2),none⟩,⟨none,.mv (.var 2),none⟩,⟨none,.mv (.var 1),none⟩,⟨none,.bin .sub (.tmp 4) (.tmp 5),none⟩,⟨none,.buildF 1 [.tmp 6],none⟩,⟨none,.append 1 8 (.tmp 3) (.tmp 7),none⟩,⟨none,.nilCheck (.tmp 0),none⟩,⟨none,.store 1 (.tmp 9) (.tmp 8),none⟩],[]⟩
theorem CN:aB Tryz.prog Tryz.f159 3 [0,1,2] [] true ([],[])=some EW:=by kernel_rfl
theorem KN:Tryz.prog.funcs[159]?=some Tryz.f159:=by kernel_rfl
def EV:bC:=⟨2,3,.seq (.region [⟨some 2,.mv (.cst (.bool false)),none⟩]) (.seq (.region [⟨none,.mv (.var 0),none⟩,⟨none,.mv (.var 1),none⟩,⟨none,.call (.fn 177) [.tmp 0,.tmp 1],none⟩,⟨none,.bin .geq (.tmp 2) (.cst (.int .i64 0)),none⟩,⟨some 2,.mv (.tmp 3),none⟩]) .ret),[.tmp 2]⟩
theorem CM:aB Tryz.prog Tryz.f160 2 [0,1,4] [] true ([],[])=some EV:=by kernel_rfl
theorem KL:Tryz.prog.funcs[160]?=some Tryz.f160:=by kernel_rfl
def EU:bC:=⟨1,2,.seq (.region [⟨some 1,.mv (.cst (.bool false)),none⟩]) (.seq (.region [⟨none,.mv (.var 0),none⟩,⟨none,.bin .lss (.tmp 0) (.cst (.int .i64 0)),none⟩,⟨some 1,.mv (.tmp 1),none⟩]) .ret),[.tmp 1]⟩
theorem CL:aB Tryz.prog Tryz.f161 1 [0,2] [] true ([],[])=some EU:=by kernel_rfl
theorem KJ:Tryz.prog.funcs[161]?=some Tryz.f161:=by kernel_rfl
def B9:MC:=.seq (.region [⟨some 6,.bin .lss (.var 5) (.var 4),none⟩]) (.seq (.cond (.var 6) .skip (.exit 0)) (.seq (.seq (.block 1 (.seq (.region [⟨none,.mv (.var 5),none⟩,⟨some 3,.mv (.tmp 0),none⟩]) (.seq (.region [⟨none,.mv (.var 1),none⟩,⟨none,.mv (.var 0),none⟩,⟨none,.mv (.var 3),none⟩,⟨none,.indexSl 6 (.tmp 1) (.tmp 2),none⟩,⟨none,.load true 6 (.tmp 3),none⟩,⟨some 7,.call (.tmp 0) [.tmp 4],none⟩]) (.cond (.var 7) (.seq (.region [⟨none,.mv (.var 3),none⟩,⟨some 2,.mv (.tmp 0),none⟩]) .ret) .skip)))) (.kill [2,3,6,7])) (.region [⟨none,.bin .add (.var 5) (.cst (.int .i64 1)),none⟩,⟨some 5,.mv (.tmp 0),none⟩])))
def ET:bC:=⟨2,8,.seq (.region [⟨some 2,.mv (.cst (.int .i64 0)),none⟩]) (.seq (.seq (.region [⟨none,.mv (.var 0),none⟩,⟨some 4,.lenSl (.tmp 0),none⟩,⟨some 5,.mv (.cst (.int .i64 0)),none⟩]) (.seq (.block 0 (.loop [2,3,6,7] B9)) (.kill [0,1,2,3,4,5,6,7]))) (.seq (.region [⟨some 2,.mv (.cst (.int .i64 (-1))),none⟩]) .ret)),[.tmp 2]⟩
theorem CK:aB Tryz.prog Tryz.f162 2 [0,1,4,5,7,8,9,16] [] true ([[2,3,6,7]],[[2,3,6,7],[0,1,2,3,4,5,6,7]])=some ET:=by kernel_rfl
theorem KI:Tryz.prog.funcs[162]?=some Tryz.f162:=by kernel_rfl
def ES:bC:=⟨2,4,.seq (.region [⟨some 2,.box (.var 0),none⟩,⟨some 3,.mv (.cst (.bool false)),none⟩]) (.seq (.region [⟨none,.fieldAddr 0 (.var 2),none⟩,⟨none,.load false 1 (.tmp 0),none⟩,⟨none,.call (.fn 88) [.tmp 1,.cst (.int .i64 0),.cst (.int .i64 59)],none⟩,⟨none,.mv (.tmp 2),none⟩,⟨none,.fieldAddr 1 (.var 2),some (.tmp 3,true)⟩,⟨none,.load false 1 (.tmp 4),some (.tmp 3,true)⟩,⟨none,.mv (.var 1),some (.tmp 3,true)⟩,⟨none,.bin .sub (.cst (.int .i64 1000000)) (.tmp 6),some (.tmp 3,true)⟩,⟨none,.call (.fn 88) [.tmp 5,.cst (.int .i64 0),.tmp 7],some (.tmp 3,true)⟩,⟨none,.pick (.tmp 3) (.tmp 8) (.cst (.bool false)),none⟩,⟨some 3,.mv (.tmp 9),none⟩]) .ret),[.tmp 3]⟩
theorem CJ:aB Tryz.prog Tryz.f163 2 [0,1,2,4] [] true ([],[])=some ES:=by kernel_rfl
theorem KH:Tryz.prog.funcs[163]?=some Tryz.f163:=by kernel_rfl
def B8:MC:=.seq (.region [⟨some 6,.bin .lss (.var 5) (.var 4),none⟩]) (.seq (.cond (.var 6) .skip (.exit 0)) (.seq (.seq (.block 1 (.seq (.region [⟨none,.mv (.var 5),none⟩,⟨some 3,.mv (.tmp 0),none⟩]) (.seq (.region [⟨none,.mv (.var 1),none⟩,⟨none,.mv (.var 0),none⟩,⟨none,.mv (.var 3),none⟩,⟨none,.indexSl 3 (.tmp 1) (.tmp 2),none⟩,⟨none,.load true 3 (.tmp 3),none⟩,⟨some 7,.call (.tmp 0) [.tmp 4],none⟩]) (.cond (.var 7) (.seq (.region [⟨none,.mv (.var 3),none⟩,⟨some 2,.mv (.tmp 0),none⟩]) .ret) .skip)))) (.kill [2,3,6,7])) (.region [⟨none,.bin .add (.var 5) (.cst (.int .i64 1)),none⟩,⟨some 5,.mv (.tmp 0),none⟩])))
def ER:bC:=⟨2,8,.seq (.region [⟨some 2,.mv (.cst (.int .i64 0)),none⟩]) (.seq (.seq (.region [⟨none,.mv (.var 0),none⟩,⟨some 4,.lenSl (.tmp 0),none⟩,⟨some 5,.mv (.cst (.int .i64 0)),none⟩]) (.seq (.block 0 (.loop [2,3,6,7] B8)) (.kill [0,1,2,3,4,5,6,7]))) (.seq (.region [⟨some 2,.mv (.cst (.int .i64 (-1))),none⟩]) .ret)),[.tmp 2]⟩
theorem CI:aB Tryz.prog Tryz.f164 2 [0,1,4,5,7,8,9,16] [] true ([[2,3,6,7]],[[2,3,6,7],[0,1,2,3,4,5,6,7]])=some ER:=by kernel_rfl
theorem KG:Tryz.prog.funcs[164]?=some Tryz.f164:=by kernel_rfl
def EP:bC:=⟨2,3,.seq (.region [⟨some 2,.mv (.cst (.bool false)),none⟩]) (.seq (.region [⟨none,.mv (.var 0),none⟩,⟨none,.bin .lss (.tmp 0) (.cst (.int .i64 0)),none⟩,⟨none,.mv (.tmp 1),none⟩,⟨none,.mv (.var 0),some (.tmp 2,false)⟩,⟨none,.fieldAddr 2 (.var 1),some (.tmp 2,false)⟩,⟨none,.load false 1 (.tmp 4),some (.tmp 2,false)⟩,⟨none,.lenSl (.tmp 5),some (.tmp 2,false)⟩,⟨none,.bin .geq (.tmp 3) (.tmp 6),some (.tmp 2,false)⟩,⟨none,.pick (.tmp 2) (.cst (.bool true)) (.tmp 7),none⟩,⟨some 2,.mv (.tmp 8),none⟩]) .ret),[.tmp 2]⟩
theorem CH:aB Tryz.prog Tryz.f173 2 [0,1,3] [] true ([],[])=some EP:=by kernel_rfl
theorem KF:Tryz.prog.funcs[173]?=some Tryz.f173:=by kernel_rfl
def EO:bC:=⟨2,5,.seq (.region [⟨some 2,.box (.var 0),none⟩,⟨some 3,.box (.var 1),none⟩,⟨some 4,.mv (.cst (.int .i64 0)),none⟩]) (.seq (.region [⟨none,.fieldAddr 0 (.var 2),none⟩,⟨none,.load false 1 (.tmp 0),none⟩,⟨none,.fieldAddr 0 (.var 3),none⟩,⟨none,.load false 1 (.tmp 2),none⟩,⟨none,.call (.fn 138) [.tmp 1,.tmp 3],none⟩,⟨none,.fieldAddr 1 (.var 2),none⟩,⟨none,.load false 1 (.tmp 5),none⟩,⟨none,.lenSl (.tmp 6),none⟩,⟨none,.fieldAddr 1 (.var 3),none⟩,⟨none,.load false 1 (.tmp 8),none⟩,⟨none,.lenSl (.tmp 9),none⟩,⟨none,.call (.fn 138) [.tmp 7,.tmp 10],none⟩,⟨none,.fieldAddr 1 (.var 2),none⟩,⟨none,.load false 1 (.tmp 12),none⟩,⟨none,.fieldAddr 1 (.var 3),none⟩,⟨none,.load false 1 (.tmp 14),none⟩,⟨none,.call (.fn 182) [.tmp 13,.tmp 15],none⟩,⟨none,.buildF 1 [.tmp 4,.tmp 11,.tmp 16],none⟩,⟨none,.call (.fn 181) [.tmp 17],none⟩,⟨some 4,.mv (.tmp 18),none⟩]) .ret),[.tmp 4]⟩
theorem CG:aB Tryz.prog Tryz.f174 2 [0,1,2,3,4] [138,182,181] true ([],[])=some EO:=by kernel_rfl
theorem KE:Tryz.prog.funcs[174]?=some Tryz.f174:=by kernel_rfl
def iA:MC:=.region [⟨some 6,.mv (.var 8),none⟩]
def iz:MC:=.seq (.block 1 (.seq (.region [⟨none,.load false 1 (.var 2),none⟩,⟨none,.mv (.var 6),none⟩,⟨none,.indexSl 1 (.tmp 0) (.tmp 1),none⟩,⟨none,.load false 1 (.tmp 2),none⟩,⟨none,.eqNil 0 false (.tmp 3),none⟩,⟨none,.mv (.tmp 4),none⟩,⟨none,.load false 1 (.var 3),some (.tmp 5,false)⟩,⟨none,.load true 2 (.var 4),some (.tmp 5,false)⟩,⟨none,.load false 1 (.var 2),some (.tmp 5,false)⟩,⟨none,.mv (.var 6),some (.tmp 5,false)⟩,⟨none,.indexSl 1 (.tmp 8) (.tmp 9),some (.tmp 5,false)⟩,⟨none,.load false 1 (.tmp 10),some (.tmp 5,false)⟩,⟨none,.nilCheck (.tmp 11),some (.tmp 5,false)⟩,⟨none,.load true 2 (.tmp 12),some (.tmp 5,false)⟩,⟨none,.call (.tmp 6) [.tmp 7,.tmp 13],some (.tmp 5,false)⟩,⟨none,.bin .lss (.tmp 14) (.cst (.int .i64 0)),some (.tmp 5,false)⟩,⟨some 9,.pick (.tmp 5) (.cst (.bool true)) (.tmp 15),none⟩]) (.cond (.var 9) (.region [⟨none,.load false 1 (.var 2),none⟩,⟨none,.mv (.var 6),none⟩,⟨none,.fieldAddr 0 (.var 4),none⟩,⟨none,.load false 1 (.tmp 2),none⟩,⟨none,.fieldAddr 1 (.var 4),none⟩,⟨none,.load false 1 (.tmp 4),none⟩,⟨none,.build [.int .i64 0,.nilS] [(0,(1,.tmp 3)),(1,(1,.tmp 5))],none⟩,⟨none,.box (.tmp 6),none⟩,⟨none,.indexSl 1 (.tmp 0) (.tmp 1),none⟩,⟨none,.store 1 (.tmp 8) (.tmp 7),none⟩]) .skip))) (.kill [0,1,2,3,4,5,6,7,8,9])
def BU:bC:=⟨4,10,.seq (.region [⟨some 4,.box (.var 0),none⟩,⟨some 5,.box (.var 1),none⟩]) (.seq (.region [⟨none,.load true 7 (.var 5),none⟩,⟨some 7,.call (.fn 176) [.tmp 0],none⟩]) (.seq (.block 0 (.rangeFunc (.var 7) [8] iA iz)) (.kill [0,1,2,3,4,5,6,7,8,9]))),[]⟩
theorem CF:aB Tryz.prog Tryz.f175 4 [0,1,2,3,4,5,6,8,9,26] [] true ([],[[0,1,2,3,4,5,6,7,8,9],[0,1,2,3,4,5,6,7,8,9]])=some BU:=by kernel_rfl
theorem KD:Tryz.prog.funcs[175]?=some Tryz.f175:=by kernel_rfl
def EN:bC:=⟨1,3,.seq (.region [⟨some 1,.box (.var 0),none⟩,⟨some 2,.mv (.cst .nilF),none⟩]) (.seq (.region [⟨none,.makeFunc (.func 183) [] [.var 1],none⟩,⟨some 2,.mv (.tmp 0),none⟩]) .ret),[.tmp 2]⟩
theorem CE:aB Tryz.prog Tryz.f176 1 [0,1,2] [] true ([],[])=some EN:=by kernel_rfl
theorem KB:Tryz.prog.funcs[176]?=some Tryz.f176:=by kernel_rfl
def B7:MC:=.seq (.region [⟨some 6,.bin .lss (.var 5) (.var 4),none⟩]) (.seq (.cond (.var 6) .skip (.exit 0)) (.seq (.seq (.block 1 (.seq (.region [⟨none,.mv (.var 5),none⟩,⟨some 3,.mv (.tmp 0),none⟩]) (.seq (.region [⟨none,.mv (.var 1),none⟩,⟨none,.mv (.var 0),none⟩,⟨none,.mv (.var 3),none⟩,⟨none,.indexSl 1 (.tmp 1) (.tmp 2),none⟩,⟨none,.load false 1 (.tmp 3),none⟩,⟨some 7,.call (.tmp 0) [.tmp 4],none⟩]) (.cond (.var 7) (.seq (.region [⟨none,.mv (.var 3),none⟩,⟨some 2,.mv (.tmp 0),none⟩]) .ret) .skip)))) (.kill [2,3,6,7])) (.region [⟨none,.bin .add (.var 5) (.cst (.int .i64 1)),none⟩,⟨some 5,.mv (.tmp 0),none⟩])))
def EM:bC:=⟨2,8,.seq (.region [⟨some 2,.mv (.cst (.int .i64 0)),none⟩]) (.seq (.seq (.region [⟨none,.mv (.var 0),none⟩,⟨some 4,.lenSl (.tmp 0),none⟩,⟨some 5,.mv (.cst (.int .i64 0)),none⟩]) (.seq (.block 0 (.loop [2,3,6,7] B7)) (.kill [0,1,2,3,4,5,6,7]))) (.seq (.region [⟨some 2,.mv (.cst (.int .i64 (-1))),none⟩]) .ret)),[.tmp 2]⟩
theorem CD:aB Tryz.prog Tryz.f177 2 [0,1,4,5,7,8,9,16] [] true ([[2,3,6,7]],[[2,3,6,7],[0,1,2,3,4,5,6,7]])=some EM:=by kernel_rfl
theorem KA:Tryz.prog.funcs[177]?=some Tryz.f177:=by kernel_rfl
def B6:MC:=.seq (.region [⟨some 7,.bin .lss (.var 6) (.var 5),none⟩]) (.seq (.cond (.var 7) .skip (.exit 0)) (.seq (.seq (.block 1 (.seq (.region [⟨none,.indexSl 1 (.var 4) (.var 6),none⟩,⟨none,.load false 1 (.tmp 0),none⟩,⟨some 3,.mv (.tmp 1),none⟩]) (.seq (.region [⟨none,.mv (.var 3),none⟩,⟨none,.mv (.var 2),none⟩,⟨some 8,.bin .neq (.tmp 0) (.tmp 1),none⟩]) (.cond (.var 8) (.seq (.region [⟨none,.mv (.var 3),none⟩,⟨some 1,.mv (.tmp 0),none⟩]) .ret) .skip)))) (.kill [0,1,3,7,8])) (.region [⟨none,.bin .add (.var 6) (.cst (.int .i64 1)),none⟩,⟨some 6,.mv (.tmp 0),none⟩])))
def EL:bC:=⟨1,9,.seq (.region [⟨some 1,.mv (.cst (.int .i64 0)),none⟩]) (.seq (.region [⟨some 2,.mv (.cst (.int .i64 0)),none⟩]) (.seq (.seq (.region [⟨some 4,.mv (.var 0),none⟩,⟨some 5,.lenSl (.var 4),none⟩,⟨some 6,.mv (.cst (.int .i64 0)),none⟩]) (.seq (.block 0 (.loop [0,1,3,7,8] B6)) (.kill [0,1,3,4,5,6,7,8]))) (.seq (.region [⟨none,.mv (.var 2),none⟩,⟨some 1,.mv (.tmp 0),none⟩]) .ret))),[.tmp 1]⟩
theorem CC:aB Tryz.prog Tryz.f181 1 [0,2,3,5,6,7,8,9,14] [] true ([[0,1,3,7,8]],[[0,1,3,7,8],[0,1,3,4,5,6,7,8]])=some EL:=by kernel_rfl
theorem Kz:Tryz.prog.funcs[181]?=some Tryz.f181:=by kernel_rfl
def BZ:MC:=.seq (.region [⟨some 10,.bin .lss (.var 9) (.var 8),none⟩]) (.seq (.cond (.var 10) .skip (.exit 0)) (.seq (.seq (.block 1 (.seq (.region [⟨none,.mv (.var 9),none⟩,⟨none,.indexSl 1 (.var 7) (.var 9),none⟩,⟨none,.load false 1 (.tmp 1),none⟩,⟨some 3,.mv (.tmp 0),none⟩,⟨some 4,.mv (.tmp 2),none⟩]) (.seq (.seq (.region [⟨none,.mv (.var 3),none⟩,⟨none,.mv (.var 1),none⟩,⟨none,.lenSl (.tmp 1),none⟩,⟨some 11,.bin .geq (.tmp 0) (.tmp 2),none⟩]) (.cond (.var 11) (.seq (.region [⟨some 2,.mv (.cst (.int .i64 1)),none⟩]) .ret) .skip)) (.seq (.region [⟨none,.mv (.var 1),none⟩,⟨none,.mv (.var 3),none⟩,⟨none,.indexSl 1 (.tmp 0) (.tmp 1),none⟩,⟨none,.load false 1 (.tmp 2),none⟩,⟨some 5,.mv (.tmp 3),none⟩]) (.seq (.region [⟨none,.mv (.var 4),none⟩,⟨none,.mv (.var 5),none⟩,⟨none,.call (.fn 138) [.tmp 0,.tmp 1],none⟩,⟨some 6,.mv (.tmp 2),none⟩]) (.seq (.region [⟨none,.mv (.var 6),none⟩,⟨some 12,.bin .neq (.tmp 0) (.cst (.int .i64 0)),none⟩]) (.cond (.var 12) (.seq (.region [⟨none,.mv (.var 6),none⟩,⟨some 2,.mv (.tmp 0),none⟩]) .ret) .skip))))))) (.kill [2,3,4,5,6,10,11,12,13])) (.region [⟨none,.bin .add (.var 9) (.cst (.int .i64 1)),none⟩,⟨some 9,.mv (.tmp 0),none⟩])))
def EK:bC:=⟨2,14,.seq (.region [⟨some 2,.mv (.cst (.int .i64 0)),none⟩]) (.seq (.seq (.region [⟨some 7,.mv (.var 0),none⟩,⟨some 8,.lenSl (.var 7),none⟩,⟨some 9,.mv (.cst (.int .i64 0)),none⟩]) (.seq (.block 0 (.loop [2,3,4,5,6,10,11,12,13] BZ)) (.kill [2,3,4,5,6,7,8,9,10,11,12,13]))) (.seq (.seq (.region [⟨none,.mv (.var 0),none⟩,⟨none,.lenSl (.tmp 0),none⟩,⟨none,.mv (.var 1),none⟩,⟨none,.lenSl (.tmp 2),none⟩,⟨some 13,.bin .lss (.tmp 1) (.tmp 3),none⟩]) (.cond (.var 13) (.seq (.region [⟨some 2,.mv (.cst (.int .i64 (-1))),none⟩]) .ret) .skip)) (.seq (.region [⟨some 2,.mv (.cst (.int .i64 0)),none⟩]) .ret))),[.tmp 2]⟩
theorem CB:aB Tryz.prog Tryz.f182 2 [0,1,4,5,6,7,8,9,10,11,12,19,28,35] [] true ([[2,3,4,5,6,10,11,12,13]],[[2,3,4,5,6,10,11,12,13],[2,3,4,5,6,7,8,9,10,11,12,13]])=some EK:=by kernel_rfl
theorem Ky:Tryz.prog.funcs[182]?=some Tryz.f182:=by kernel_rfl
def fj:MC:=.seq (.region [⟨some 7,.bin .lss (.var 6) (.var 5),none⟩]) (.seq (.cond (.var 7) .skip (.exit 0)) (.seq (.seq (.block 1 (.seq (.region [⟨none,.indexSl 1 (.var 4) (.var 6),none⟩,⟨none,.load false 1 (.tmp 0),none⟩,⟨some 3,.mv (.tmp 1),none⟩]) (.seq (.seq (.region [⟨none,.mv (.var 2),none⟩,⟨none,.bin .geq (.tmp 0) (.cst (.int .i64 0)),none⟩,⟨none,.mv (.tmp 1),none⟩,⟨none,.mv (.var 2),some (.tmp 2,true)⟩,⟨none,.mv (.var 3),some (.tmp 2,true)⟩,⟨none,.bin .lss (.tmp 3) (.tmp 4),some (.tmp 2,true)⟩,⟨none,.pick (.tmp 2) (.tmp 5) (.cst (.bool false)),none⟩,⟨none,.mv (.tmp 6),none⟩,⟨none,.mv (.var 0),some (.tmp 7,true)⟩,⟨none,.mv (.var 2),some (.tmp 7,true)⟩,⟨none,.call (.tmp 8) [.tmp 9],some (.tmp 7,true)⟩,⟨none,.un .not (.tmp 10),some (.tmp 7,true)⟩,⟨some 8,.pick (.tmp 7) (.tmp 11) (.cst (.bool false)),none⟩]) (.cond (.var 8) .ret .skip)) (.seq (.seq (.region [⟨none,.mv (.var 2),none⟩,⟨none,.mv (.var 3),none⟩,⟨some 9,.bin .leq (.tmp 0) (.tmp 1),none⟩]) (.cond (.var 9) (.region [⟨some 2,.mv (.cst (.int .i64 (-1))),none⟩]) .skip)) (.seq (.region [⟨none,.mv (.var 0),none⟩,⟨none,.mv (.var 3),none⟩,⟨none,.call (.tmp 0) [.tmp 1],none⟩,⟨some 10,.un .not (.tmp 2),none⟩]) (.cond (.var 10) .ret .skip)))))) (.kill [1,3,7,8,9,10,11])) (.region [⟨none,.bin .add (.var 6) (.cst (.int .i64 1)),none⟩,⟨some 6,.mv (.tmp 0),none⟩])))
def xO:bC:=⟨2,12,.seq (.region [⟨none,.fieldAddr 5 (.var 1),none⟩,⟨none,.load false 1 (.tmp 0),none⟩,⟨some 2,.mv (.tmp 1),none⟩]) (.seq (.seq (.region [⟨none,.fieldAddr 4 (.var 1),none⟩,⟨some 4,.load false 1 (.tmp 0),none⟩,⟨some 5,.lenSl (.var 4),none⟩,⟨some 6,.mv (.cst (.int .i64 0)),none⟩]) (.seq (.block 0 (.loop [1,3,7,8,9,10,11] fj)) (.kill [1,3,4,5,6,7,8,9,10,11]))) (.seq (.region [⟨none,.mv (.var 2),none⟩,⟨some 11,.bin .geq (.tmp 0) (.cst (.int .i64 0)),none⟩]) (.cond (.var 11) (.region [⟨none,.mv (.var 0),none⟩,⟨none,.mv (.var 2),none⟩,⟨none,.call (.tmp 0) [.tmp 1],none⟩]) .skip))),[]⟩
def gb:List Nat:=[1,3,7,8,9,10,11]
abbrev it (v0 v2 v4 v5 v6:AV):List AV:=[v0,.undef,v2,.undef,v4,v5,v6,.undef,.undef,.undef,.undef,.undef]
theorem oY {v0 d1 v2 d3 v4 v5 v6 d7 d8 d9 d10 d11:AV}:clear gb [v0,d1,v2,d3,v4,v5,v6,d7,d8,d9,d10,d11]=it v0 v2 v4 v5 v6:=rfl
theorem vk {E:Env} {fuel:Nat} {A:ac} {o:Out} {k:List KC} {v0 d1 v2 d3 v4 v5 v6 d7 d8 d9 d10 d11:AV} (h:bM (evC E fuel fj) gb fuel (it v0 v2 v4 v5 v6) A=some o) :
  run E fuel (.code (.loop [1,3,7,8,9,10,11] fj) :: k) [v0,d1,v2,d3,v4,v5,v6,d7,d8,d9,d10,d11] A=after E fuel k o:=aU gb _ _ (by rw [oY]; exact h)
theorem CA:aB Tryz.prog Tryz.f183 2 [0,1,3,5,9,10,11,12,27,30,34,37] [] true ([[1,3,7,8,9,10,11]],[[1,3,7,8,9,10,11],[1,3,4,5,6,7,8,9,10,11]])=some xO:=by kernel_rfl
theorem Kx:Tryz.prog.funcs[183]?=some Tryz.f183:=by kernel_rfl
namespace Sh
abbrev GS:Nat->Option (List AV):=fun _=>none
def M88:aG:=fun args=>evP (ai GS []) 50 LR 4 args
theorem rI:ak Tryz.prog GS 88 M88:=ak.of_ev (E:=ai GS []) (aj aw) rfl at88 Gu 4 fun _ _ h=>⟨50,h⟩
def LL:aD:=fun _=>bA (ai GS []) 50 EW
theorem uq:an Tryz.prog GS 159 LL:=(aN (E:=ai GS []) (aj aw) rfl KN CN a5.nil).y
def ME:aG:=fun args=>evP (ai GS []) 50 EU 4 args
theorem Ah:ak Tryz.prog GS 161 ME:=ak.of_ev (E:=ai GS []) (aj aw) rfl KJ CL 4 fun _ _ h=>⟨50,h⟩
def FX:List (FuncId × aD):=[(161,aF 4 ME)]
def MA:aG:=fun args=>evP (ai GS FX) 50 EM 4 args
theorem Aa:ak Tryz.prog GS 177 MA:=ak.of_ev (E:=ai GS FX) (aj (ae (an.of_pure Ah 4) aw)) rfl KA CD 4 fun _ _ h=>⟨50,h⟩
def F3:List (FuncId × aD):=[(177,aF 4 MA)]
def MF:aG:=fun args=>evP (ai GS F3) 50 EV 4 args
theorem Ai:ak Tryz.prog GS 160 MF:=ak.of_ev (E:=ai GS F3) (aj (ae (an.of_pure Aa 4) aw)) rfl KL CM 4 fun _ _ h=>⟨50,h⟩
def Gf:List (FuncId × aD):=[(160,aF 4 MF)]
def MK:aG:=fun args=>evP (ai GS Gf) 50 E8 4 args
theorem Av:ak Tryz.prog GS 122 MK:=ak.of_ev (E:=ai GS Gf) (aj (ae (an.of_pure Ai 4) aw)) rfl K4 C2 4 fun _ _ h=>⟨50,h⟩
def Gg:List (FuncId × aD):=[(159,LL)]
def MW:aD:=fun _=>bA (ai GS Gg) 50 E9
theorem Aw:an Tryz.prog GS 121 MW:=(aN (E:=ai GS Gg) (aj (ae uq aw)) rfl K5 C3 a5.nil).y
def Ge:List (FuncId × aD):=[(159,LL)]
def MV:aD:=fun _=>bA (ai GS Ge) 50 E7
theorem Au:an Tryz.prog GS 123 MV:=(aN (E:=ai GS Ge) (aj (ae uq aw)) rfl K3 CZ a5.nil).y
def F0:List (FuncId × aD):=[(88,aF 4 M88)]
def MB:aG:=fun args=>evP (ai GS F0) 50 ES 4 args
theorem Af:ak Tryz.prog GS 163 MB:=ak.of_ev (E:=ai GS F0) (aj (ae (an.of_pure rI 4) aw)) rfl KH CJ 4 fun _ _ h=>⟨50,h⟩
def Ga:List (FuncId × aD):=[(88,aF 4 M88),(163,aF 4 MB)]
def MH:aG:=fun args=>evP (ai GS Ga) 50 E3 4 args
theorem Aq:ak Tryz.prog GS 127 MH:=ak.of_ev (E:=ai GS Ga) (aj (ae (an.of_pure rI 4) (ae (an.of_pure Af 4) aw))) rfl KW CV 4 fun _ _ h=>⟨50,h⟩
def Gb:List (FuncId × aD):=[(127,aF 4 MH)]
def MI:aG:=fun args=>evP (ai GS Gb) 50 E4 4 args
theorem Ar:ak Tryz.prog GS 126 MI:=ak.of_ev (E:=ai GS Gb) (aj (ae (an.of_pure Aq 4) aw)) rfl KX CW 4 fun _ _ h=>⟨50,h⟩
def F2:List (FuncId × aD):=[(126,aF 4 MI)]
def MD:aG:=fun args=>evP (ai GS F2) 50 ET 4 args
theorem Ag:ak Tryz.prog GS 162 MD:=ak.of_ev (E:=ai GS F2) (aj (ae (an.of_pure Ar 4) aw)) rfl KI CK 4 fun _ _ h=>⟨50,h⟩
def Gc:List (FuncId × aD):=[(162,aF 4 MD)]
def MJ:aG:=fun args=>evP (ai GS Gc) 50 E5 4 args
theorem As:ak Tryz.prog GS 125 MJ:=ak.of_ev (E:=ai GS Gc) (aj (ae (an.of_pure Ag 4) aw)) rfl KY CX 4 fun _ _ h=>⟨50,h⟩
def Gd:List (FuncId × aD):=[(88,aF 4 M88)]
def MU:aD:=fun _=>bA (ai GS Gd) 50 E6
theorem At:an Tryz.prog GS 124 MU:=(aN (E:=ai GS Gd) (aj (ae (an.of_pure rI 4) aw)) rfl KZ CY a5.nil).y
def F8:List (FuncId × aD):=[(124,MU)]
def MS:aD:=fun _=>bA (ai GS F8) 50 E1
theorem Ao:an Tryz.prog GS 129 MS:=(aN (E:=ai GS F8) (aj (ae At aw)) rfl KU CT a5.nil).y
def FZ:List (FuncId × aD):=[(129,MS)]
def MR:aD:=fun _=>bA (ai GS FZ) 50 ER
theorem Ae:an Tryz.prog GS 164 MR:=(aN (E:=ai GS FZ) (aj (ae Ao aw)) rfl KG CI a5.nil).y
def F9:List (FuncId × aD):=[(164,MR)]
def MT:aD:=fun _=>bA (ai GS F9) 50 E2
theorem Ap:an Tryz.prog GS 128 MT:=(aN (E:=ai GS F9) (aj (ae Ae aw)) rfl KV CU a5.nil).y
def Mh:List (FuncId × aD):=[(88,aF 4 M88),(125,aF 4 MJ),(128,MT)]
def M74:aG:=fun args=>evP (ai GS Mh) 50 LS 4 args
theorem DR:ak Tryz.prog GS 74 M74:=ak.of_ev (E:=ai GS Mh) (aj (ae (an.of_pure rI 4) (ae (an.of_pure As 4) (ae Ap aw)))) rfl at74 Gv 4 fun _ _ h=>⟨50,h⟩
def Mi:List (FuncId × aD):=[(74,aF 4 M74),(121,MW),(122,aF 4 MK),(123,MV)]
def M73:aG:=fun args=>evP (ai GS Mi) 50 LT 4 args
theorem DS:ak Tryz.prog GS 73 M73:=ak.of_ev (E:=ai GS Mi) (aj (ae (an.of_pure DR 4) (ae Aw (ae (an.of_pure Av 4) (ae Au aw))))) rfl at73 Gw 4 fun _ _ h=>⟨50,h⟩
def gL:List (FuncId × aD):=[(73,aF 4 M73)]
def M27:aG:=fun args=>evF (ai GS gL) 50 tI 4 args
theorem zZ:br Tryz.prog GS 27 M27:=br.of_ev (E:=ai GS gL) (aj (ae (an.of_pure DS 4) aw)) rfl G3 qc 4 (fun _ _ h=>⟨50,h⟩)
def DP:AV:=.agg [.int .i64 10,.int .i64 20,.int .i64 1,.int .i64 5,.int .i64 2,.int .i64 29]
def pl6:AV:=.agg [.int .i64 0,.int .i64 1,.int .i64 5,.fs 6 [DP],.nilS]
def zSc:AV:=.agg [.nilS,.nilS,.int .i64 0,.int .i64 0,.int .i64 0]
theorem LG:M27 [pl6]=some (.tup [zSc,.bool true]):=by kernel_rfl
end Sh
namespace Sh
def Dw:aG:=fun args=>evP (ai GS []) 0 Fi 1 args
theorem ou:ak Tryz.prog GS 112 Dw:=ak.of_ev (E:=ai GS []) (aj aw) rfl Le Dc 1 fun _ _ h=>⟨0,h⟩
def MN:aG:=fun args=>evP (ai GS []) 0 Fj 1 args
theorem AH:ak Tryz.prog GS 111 MN:=ak.of_ev (E:=ai GS []) (aj aw) rfl Lf Dd 1 fun _ _ h=>⟨0,h⟩
def MG:aG:=fun args=>evP (ai GS [(112,aF 4 Dw)]) 50 EY 1 args
theorem Am:ak Tryz.prog GS 155 MG:=ak.of_ev (E:=ai GS [(112,aF 4 Dw)]) (aj (ae (an.of_pure ou 4) aw)) rfl KQ CQ 1 fun _ _ h=>⟨50,h⟩
def MM:aG:=fun args=>evP (ai GS [(112,aF 4 Dw)]) 50 Fe 1 args
theorem AD:ak Tryz.prog GS 116 MM:=ak.of_ev (E:=ai GS [(112,aF 4 Dw)]) (aj (ae (an.of_pure ou 4) aw)) rfl La C8 1 fun _ _ h=>⟨50,h⟩
def ML:aG:=fun args=>evP (ai GS []) 50 Fd 1 args
theorem AC:ak Tryz.prog GS 117 ML:=ak.of_ev (E:=ai GS []) (aj aw) rfl K9 C7 1 fun _ _ h=>⟨50,h⟩
def bg (i:Int) (next:AV):AV:=.agg [.int .i64 1,.fs 1 [.int .i64 i],.int .i64 10,.int .i64 20,next,.int .i64 (-1),.int .i64 0]
def bz:AV:=.agg [.int .i64 2,.int .i64 5,.fs 7 [bg 0 (.fs 1 [.int .i64 1]),bg 1 (.fs 1 [.int .i64 2]),bg 2 .nilS],.fs 3 [.agg [.int .i64 0,.int .i64 2,.int .i64 13]]]
def Gj:List (FuncId × aD):=[(112,aF 4 Dw),(155,aF 4 MG)]
def LI:aG:=fun args=>evP (ai GS Gj) 50 Ff 1 args
theorem AE:ak Tryz.prog GS 115 LI:=ak.of_ev (E:=ai GS Gj) (aj (ae (an.of_pure ou 4) (ae (an.of_pure Am 4) aw))) rfl Lb C9 1 fun _ _ h=>⟨50,h⟩
def LN:aD:=fun _=>bA (ai GS [(115,aF 4 LI)]) 0 Fg
theorem AF:an Tryz.prog GS 114 LN:=(aN (E:=ai GS [(115,aF 4 LI)]) (aj (ae (an.of_pure AE 4) aw)) rfl Lc Da a5.nil).y
def LM:aD:=fun _=>bA (ai GS [(114,LN)]) 50 EZ
theorem An:an Tryz.prog GS 154 LM:=(aN (E:=ai GS [(114,LN)]) (aj (ae AF aw)) rfl KR CR a5.nil).y
def MY:aD:=fun _=>bA (ai GS [(154,LM)]) 50 Fh
theorem AG:an Tryz.prog GS 113 MY:=(aN (E:=ai GS [(154,LM)]) (aj (ae An aw)) rfl Ld Db a5.nil).y
def Mj:List (FuncId × aD):=[(111,aF 4 MN),(112,aF 4 Dw),(113,MY),(116,aF 4 MM),(117,aF 4 ML)]
def M71:aG:=fun args=>evP (ai GS Mj) 50 LU 1 args
theorem yy:ak Tryz.prog GS 71 M71:=ak.of_ev (E:=ai GS Mj) (aj (ae (an.of_pure AH 4) (ae (an.of_pure ou 4) (ae AG (ae (an.of_pure AD 4) (ae (an.of_pure AC 4) aw)))))) rfl at71 Gy 1 fun _ _ h=>⟨50,h⟩
theorem LF:M71 [bz]=some (.bool true):=by kernel_rfl
def M63:aG:=fun args=>evF (ai GS []) 0 HK 4 args
theorem zW:br Tryz.prog GS 63 M63:=br.of_ev (E:=ai GS []) (aj aw) rfl Mr zh 4 (fun _ _ h=>⟨0,h⟩)
def LK:aD:=fun _=>bA (ai GS []) 0 EP
theorem Ad:an Tryz.prog GS 173 LK:=(aN (E:=ai GS []) (aj aw) rfl KF CH a5.nil).y
def LO:aD:=fun _=>bA (ai GS [(173,LK)]) 50 Fk
theorem AI:an Tryz.prog GS 101 LO:=(aN (E:=ai GS [(173,LK)]) (aj (ae Ad aw)) rfl Lg De a5.nil).y
def H61:aD:=fun _=>bA (ai GS [(101,LO)]) 50 LV
theorem DY:an Tryz.prog GS 61 H61:=(aN (E:=ai GS [(101,LO)]) (aj (ae AI aw)) rfl at61 GF a5.nil).y
def F6:List (FuncId × aD):=[(61,H61),(71,aF 4 M71)]
def Ig:aG:=fun args=>evP (ai GS F6) 50 EX 1 args
theorem Al:ak Tryz.prog GS 156 Ig:=ak.of_ev (E:=ai GS F6) (aj (ae DY (ae (an.of_pure yy 4) aw))) rfl KP CP 1 fun _ _ h=>⟨50,h⟩
theorem zD:Ig [bz,.fs 1 [.int .i64 0,.int .i64 2]]=some (.bool true):=by kernel_rfl
def Ih:aG:=fun args=>evP (ai GS []) 50 E0 1 args
theorem ut:ak Tryz.prog GS 138 Ih:=ak.of_ev (E:=ai GS []) (aj aw) rfl KT CS 1 fun _ _ h=>⟨50,h⟩
def Mz:aG:=fun args=>evP (ai GS []) 50 EL 1 args
theorem z9:ak Tryz.prog GS 181 Mz:=ak.of_ev (E:=ai GS []) (aj aw) rfl Kz CC 1 fun _ _ h=>⟨50,h⟩
def My:aG:=fun args=>evP (ai GS [(138,aF 4 Ih)]) 50 EK 1 args
theorem z8:ak Tryz.prog GS 182 My:=ak.of_ev (E:=ai GS [(138,aF 4 Ih)]) (aj (ae (an.of_pure ut 4) aw)) rfl Ky CB 1 fun _ _ h=>⟨50,h⟩
def FY:List (FuncId × aD):=[(138,aF 4 Ih),(181,aF 4 Mz),(182,aF 4 My)]
def If:aG:=fun args=>evP (ai GS FY) 50 EO 1 args
theorem um:ak Tryz.prog GS 174 If:=ak.of_ev (E:=ai GS FY) (aj (ae (an.of_pure ut 4) (ae (an.of_pure z9 4) (ae (an.of_pure z8 4) aw)))) rfl KE CG 1 fun _ _ h=>⟨50,h⟩
def MQ:aD:=fun _=>bA (ai GS []) 0 EN
theorem Ab:an Tryz.prog GS 176 MQ:=(aN (E:=ai GS []) (aj aw) rfl KB CE a5.nil).y
def zF:aD:=fun hd=>bA (ee GS [] hd) 50 xO
theorem z7:an Tryz.prog GS 183 zF:=dE aw Kx CA
end Sh
namespace Sh
open Go Go.RowKit Go.Lib
theorem zK (w:World):Calls Tryz.prog 63 #[.slice none 0 0] w fun e w'=>e=.returned (.slice none 0 0)/\w'=w:=by
 have q:∀(w:World) (a:Option Addr) (n c n' c':Nat),(binOp .eql 40 (.slice a n c) (.slice none n' c')).run Tryz.prog w=.ok (.bool a.isNone) w:=fun w a n c n' c'=>Lib.run_eql_slice_nil w _ _ a n c n' c' Tryz.underlying40
 go_enter Tryz.func63,Tryz.ntmps63
 go_wp2
 go_ret
 exact ⟨rfl,rfl⟩
theorem zJ (a:Addr) (w:World):Calls Tryz.prog 63 #[.slice (some a) 0 0] w fun e w'=>∃p o,e=.returned (.slice p 0 0)/\w'=w.alloc o:=by
 have q:∀(w:World) (a:Option Addr) (n c n' c':Nat),(binOp .eql 40 (.slice a n c) (.slice none n' c')).run Tryz.prog w=.ok (.bool a.isNone) w:=fun w a n c n' c'=>Lib.run_eql_slice_nil w _ _ a n c n' c' Tryz.underlying40
 go_enter Tryz.func63,Tryz.ntmps63
 go_wp2
 go_ret
 exact ⟨_,_,rfl,rfl⟩
theorem Il:(Tryz.prog.info? 3).map (·.zero)=some (some (.int .i64 0)):=by kernel_rfl
theorem zL (base:Option Addr) (n:Nat) (w:World) (h0:0<n) (hn:n<=1000):Calls Tryz.prog 158 #[.slice base 0 0,.int .i64 n] w fun e w'=>
   e=.returned (.slice (some ⟨w.heap.size,0,none⟩) 0 (grownCap w n 0 3))/\w'=w.drew.alloc (.cells (Builtin.zeroCells #[.int .i64 0] n++Builtin.zeroCells #[.int .i64 0] (grownCap w n 0 3-n)) 3):=by
 have u3:=Go.run_underlying Tryz.underlying3
 have u40:=Go.run_underlying Tryz.underlying40
 have mixed:Tryz.prog.follows .mixedOrders=true:=by kernel_rfl
 obtain ⟨i0,hi0⟩:∃i,Tryz.prog.info? 3=some i:=⟨_,rfl⟩
 have hz0:i0.zero=some (.int .i64 0):=by have:=Il; rw [hi0] at this; simpa using this
 have hs0:i0.size=1:=by
  have:(Tryz.prog.info? 3).map (·.size)=some 1:=by kernel_rfl
  rw [hi0] at this; simpa using this
 have hb0:i0.bytes=8:=by
  have:(Tryz.prog.info? 3).map (·.bytes)=some 8:=by kernel_rfl
  rw [hi0] at this; simpa using this
 have h1:¬ ((n:Int)<0):=by omega
 have h2:wrap64 (((0:Nat):Int)-((0:Nat):Int))=0:=by unfold wrap64; omega
 have h3:wrap64 ((n:Int)-0)=(n:Int):=by unfold wrap64; omega
 have h4:(n:Int) > 0:=by omega
 have hold:(Builtin.firstCells i0.size 0 (.slice base 0 0)).run Tryz.prog w.drew=.ok #[] w.drew:=by
  cases base with
  | none=>exact run_firstCells_none w.drew i0.size 0 0 0
  | some a=>exact run_firstCells_some w.drew i0.size 0 a 0 0 [] (by simp) (fun j v hj=>by simp at hj)
 have hrz:∀ty,(Builtin.append_ #[40,3] ty #[.slice base 0 0,.int .i64 (n:Int)]).run Tryz.prog w =
   .ok (.slice (some ⟨w.heap.size,0,none⟩) n (grownCap w n 0 3)) (w.drew.alloc (.cells (Builtin.zeroCells #[.int .i64 0] n++Builtin.zeroCells #[.int .i64 0] (grownCap w n 0 3-n)) 3)):=fun ty=>by
  have h:=Lib.run_append_grow_zeros w 40 3 ty 3 i0 (.int .i64 0) .i64 .i64 Tryz.underlying40 Tryz.underlying3 hi0 hz0 base 0 0 [] hold n (by omega) (by rw [hs0]; omega) (by omega) (by omega)
   (by rw [hb0]; omega) (by rw [Nat.zero_add]; exact growslice_fits (by omega) (by rw [hb0]; omega))
  rw [Nat.zero_add,show (Value.int .i64 0).cells=#[.int .i64 0] from rfl] at h
  simpa using h
 have hGn:n<=grownCap w n 0 3:=grownCap_ge w _ _ _
 obtain ⟨G,hG⟩:∃G,G=grownCap w n 0 3:=⟨_,rfl⟩
 have hG63:G<=9223372036854775807:=by
  have:=grownCap_le_maxLen w n 0 3 (by unfold maxLen; omega)
  rw [<-hG] at this
  unfold maxLen at this
  omega
 rw [<-hG] at hrz hGn ⊢
 clear hold hG
 go_enter Tryz.func158,Tryz.ntmps158
 cases base with
 | none=>
  go_wp2_with (at_builtin; refine Lib.wpList_append_run _ rfl _ _ _ _ rfl _ _ rfl rfl _ _ (hrz _) ?_)
  all_goals (go_ret; exact ⟨rfl,rfl⟩)
 | some a=>
  obtain ⟨ab,ao,asp⟩:=a
  go_wp2_with (at_builtin; refine Lib.wpList_append_run _ rfl _ _ _ _ rfl _ _ rfl rfl _ _ (hrz _) ?_)
  all_goals (go_ret; exact ⟨rfl,rfl⟩)
end Sh
end Go.Proofs.YtfkcoekicjjndaaGreat
