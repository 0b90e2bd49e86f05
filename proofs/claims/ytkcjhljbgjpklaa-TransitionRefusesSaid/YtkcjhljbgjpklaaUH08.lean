import Derived.Test.YtkcjhljbgjpklaaUH07
import Derived.Test.YtkcjhljbgjpklaaChecked
import Derived.KernelRfl
import Derived.Test.YtkcjhljbgjpklaaUH06
import Derived.Test.YtkcjhljbgjpklaaUH03
set_option maxRecDepth 100000
set_option maxHeartbeats 4000000
noncomputable section
namespace Go.Proofs.Ytkcjhljbgjpklaa
namespace Tr
open Go
def LZ:cy:=⟨0,20,.seq (.region [⟨some 0,.mv (.cst (.bool false)),none⟩]) (.seq (.region [⟨none,.call (.fn 26) [],none⟩,⟨some 1,.alloc 5 (.agg [.nilS,.int .i64 0,.int .i64 0,.int .i64 0,.int .i64 0]),none⟩,⟨none,.store 5 (.var 1) (.tmp 0),none⟩]) (.seq (.region [⟨none,.load true 5 (.var 1),none⟩,⟨none,.buildF 1 [.cst (.int .i64 10),.cst (.int .i64 (-1))],none⟩,⟨none,.call (.fn 14) [.tmp 0,.tmp 1,.cst (.int .i64 0),.cst (.int .i64 0)],none⟩,⟨none,.mv (.tmp 2),none⟩,⟨none,.extract (.tmp 3) 0,none⟩,⟨none,.extract (.tmp 3) 1,none⟩,⟨some 2,.mv (.tmp 4),none⟩,⟨some 3,.mv (.tmp 5),none⟩]) (.seq (.region [⟨none,.load true 5 (.var 1),none⟩,⟨none,.buildF 1 [.cst (.int .i64 10),.cst (.int .i64 40)],none⟩,⟨none,.call (.fn 14) [.tmp 0,.tmp 1,.cst (.int .i64 0),.cst (.int .i64 0)],none⟩,⟨none,.mv (.tmp 2),none⟩,⟨none,.extract (.tmp 3) 0,none⟩,⟨none,.extract (.tmp 3) 1,none⟩,⟨none,.mv (.tmp 4),none⟩,⟨some 4,.mv (.tmp 5),none⟩]) (.seq (.region [⟨none,.load true 5 (.var 1),none⟩,⟨none,.buildF 1 [.cst (.int .i64 40),.cst (.int .i64 30)],none⟩,⟨none,.call (.fn 14) [.tmp 0,.tmp 1,.cst (.int .i64 0),.cst (.int .i64 0)],none⟩,⟨none,.mv (.tmp 2),none⟩,⟨none,.extract (.tmp 3) 0,none⟩,⟨none,.extract (.tmp 3) 1,none⟩,⟨some 5,.mv (.tmp 4),none⟩,⟨some 6,.mv (.tmp 5),none⟩]) (.seq (.region [⟨none,.load true 5 (.var 1),none⟩,⟨none,.buildF 1 [.cst (.int .i64 10),.cst (.int .i64 40)],none⟩,⟨none,.call (.fn 14) [.tmp 0,.tmp 1,.cst (.int .i64 0),.cst (.int .i64 2)],none⟩,⟨none,.mv (.tmp 2),none⟩,⟨none,.extract (.tmp 3) 0,none⟩,⟨none,.extract (.tmp 3) 1,none⟩,⟨some 7,.mv (.tmp 4),none⟩,⟨some 8,.mv (.tmp 5),none⟩]) (.seq (.region [⟨none,.load true 5 (.var 1),none⟩,⟨none,.buildF 1 [.cst (.int .i64 40),.cst (.int .i64 30)],none⟩,⟨none,.mv (.var 5),none⟩,⟨none,.call (.fn 17) [.tmp 0,.tmp 1,.cst (.int .i64 0),.tmp 2],none⟩,⟨none,.mv (.tmp 3),none⟩,⟨none,.extract (.tmp 4) 0,none⟩,⟨none,.extract (.tmp 4) 1,none⟩,⟨some 9,.mv (.tmp 5),none⟩,⟨some 10,.mv (.tmp 6),none⟩]) (.seq (.region [⟨none,.load true 5 (.var 1),none⟩,⟨none,.buildF 1 [.cst (.int .i64 40),.cst (.int .i64 30)],none⟩,⟨none,.build [.int .i64 0,.int .i64 0] [(0,(1,.cst (.int .i64 2))),(1,(1,.cst (.int .i64 30)))],none⟩,⟨none,.build [.int .i64 0,.int .i64 0] [(0,(1,.cst (.int .i64 1))),(1,(1,.cst (.int .i64 35)))],none⟩,⟨none,.buildF 2 [.tmp 2,.tmp 3],none⟩,⟨none,.call (.fn 17) [.tmp 0,.tmp 1,.cst (.int .i64 0),.tmp 4],none⟩,⟨none,.mv (.tmp 5),none⟩,⟨none,.extract (.tmp 6) 0,none⟩,⟨none,.extract (.tmp 6) 1,none⟩,⟨none,.mv (.tmp 7),none⟩,⟨some 11,.mv (.tmp 8),none⟩]) (.seq (.region [⟨none,.load true 5 (.var 1),none⟩,⟨none,.call (.fn 23) [.tmp 0],none⟩,⟨none,.mv (.tmp 1),none⟩,⟨none,.extract (.tmp 2) 0,none⟩,⟨none,.extract (.tmp 2) 1,none⟩,⟨some 12,.alloc 4 (.agg [.int .i64 0,.nilS,.nilS,.nilS]),none⟩,⟨none,.store 4 (.var 12) (.tmp 3),none⟩,⟨some 13,.mv (.tmp 4),none⟩]) (.seq (.region [⟨none,.load true 5 (.var 1),none⟩,⟨none,.load true 4 (.var 12),none⟩,⟨none,.call (.fn 24) [.tmp 0,.tmp 1,.cst (.int .i64 0)],none⟩,⟨none,.mv (.tmp 2),none⟩,⟨none,.extract (.tmp 3) 0,none⟩,⟨none,.extract (.tmp 3) 1,none⟩,⟨some 14,.mv (.tmp 4),none⟩,⟨some 15,.mv (.tmp 5),none⟩]) (.seq (.region [⟨none,.load true 5 (.var 1),none⟩,⟨none,.buildF 1 [.cst (.int .i64 40),.cst (.int .i64 30)],none⟩,⟨none,.load true 4 (.var 12),none⟩,⟨none,.call (.fn 25) [.tmp 0,.tmp 1,.cst (.int .i64 0),.tmp 2],none⟩,⟨none,.mv (.tmp 3),none⟩,⟨none,.extract (.tmp 4) 0,none⟩,⟨none,.extract (.tmp 4) 1,none⟩,⟨some 16,.mv (.tmp 5),none⟩,⟨some 17,.mv (.tmp 6),none⟩]) (.seq (.region [⟨none,.load true 5 (.var 1),none⟩,⟨none,.buildF 1 [.cst (.int .i64 10),.cst (.int .i64 40)],none⟩,⟨none,.load true 4 (.var 12),none⟩,⟨none,.call (.fn 25) [.tmp 0,.tmp 1,.cst (.int .i64 0),.tmp 2],none⟩,⟨none,.mv (.tmp 3),none⟩,⟨none,.extract (.tmp 4) 0,none⟩,⟨none,.extract (.tmp 4) 1,none⟩,⟨none,.mv (.tmp 5),none⟩,⟨some 18,.mv (.tmp 6),none⟩]) (.seq (.region [⟨none,.mv (.var 3),none⟩,⟨none,.mv (.tmp 0),none⟩,⟨none,.mv (.var 4),some (.tmp 1,true)⟩,⟨none,.un .not (.tmp 2),some (.tmp 1,true)⟩,⟨none,.pick (.tmp 1) (.tmp 3) (.cst (.bool false)),none⟩,⟨none,.mv (.tmp 4),none⟩,⟨none,.mv (.var 6),some (.tmp 5,true)⟩,⟨none,.pick (.tmp 5) (.tmp 6) (.cst (.bool false)),none⟩,⟨none,.mv (.tmp 7),none⟩,⟨none,.mv (.var 8),some (.tmp 8,true)⟩,⟨none,.pick (.tmp 8) (.tmp 9) (.cst (.bool false)),none⟩,⟨none,.mv (.tmp 10),none⟩,⟨none,.mv (.var 10),some (.tmp 11,true)⟩,⟨none,.pick (.tmp 11) (.tmp 12) (.cst (.bool false)),none⟩,⟨none,.mv (.tmp 13),none⟩,⟨none,.mv (.var 11),some (.tmp 14,true)⟩,⟨none,.un .not (.tmp 15),some (.tmp 14,true)⟩,⟨none,.pick (.tmp 14) (.tmp 16) (.cst (.bool false)),none⟩,⟨none,.mv (.tmp 17),none⟩,⟨none,.mv (.var 9),some (.tmp 18,true)⟩,⟨none,.bin .eql (.tmp 19) (.cst (.int .i64 78)),some (.tmp 18,true)⟩,⟨none,.pick (.tmp 18) (.tmp 20) (.cst (.bool false)),none⟩,⟨none,.mv (.tmp 21),none⟩,⟨none,.mv (.var 2),some (.tmp 22,true)⟩,⟨none,.build [.int .i64 0,.int .i64 0] [(0,(1,.cst (.int .i64 1))),(1,(1,.cst (.int .i64 10)))],some (.tmp 22,true)⟩,⟨none,.build [.int .i64 0,.int .i64 0] [(0,(1,.cst (.int .i64 2))),(1,(1,.cst (.int .i64 44)))],some (.tmp 22,true)⟩,⟨none,.buildF 2 [.tmp 24,.tmp 25],some (.tmp 22,true)⟩,⟨none,.call (.fn 16) [.tmp 23,.tmp 26],some (.tmp 22,true)⟩,⟨none,.pick (.tmp 22) (.tmp 27) (.cst (.bool false)),none⟩,⟨none,.mv (.tmp 28),none⟩,⟨none,.mv (.var 5),some (.tmp 29,true)⟩,⟨none,.lenSl (.tmp 30),some (.tmp 29,true)⟩,⟨none,.bin .eql (.tmp 31) (.cst (.int .i64 3)),some (.tmp 29,true)⟩,⟨none,.pick (.tmp 29) (.tmp 32) (.cst (.bool false)),none⟩,⟨none,.mv (.tmp 33),none⟩,⟨none,.mv (.var 7),some (.tmp 34,true)⟩,⟨none,.build [.int .i64 0,.int .i64 0] [(0,(1,.cst (.int .i64 1))),(1,(1,.cst (.int .i64 10)))],some (.tmp 34,true)⟩,⟨none,.buildF 2 [.tmp 36],some (.tmp 34,true)⟩,⟨none,.call (.fn 16) [.tmp 35,.tmp 37],some (.tmp 34,true)⟩,⟨none,.pick (.tmp 34) (.tmp 38) (.cst (.bool false)),none⟩,⟨some 19,.mv (.tmp 39),none⟩]) (.seq (.region [⟨none,.mv (.var 19),none⟩,⟨none,.mv (.tmp 0),none⟩,⟨none,.mv (.var 13),some (.tmp 1,true)⟩,⟨none,.bin .eql (.tmp 2) (.cst (.int .i64 0)),some (.tmp 1,true)⟩,⟨none,.pick (.tmp 1) (.tmp 3) (.cst (.bool false)),none⟩,⟨none,.mv (.tmp 4),none⟩,⟨none,.mv (.var 15),some (.tmp 5,true)⟩,⟨none,.bin .eql (.tmp 6) (.cst (.int .i64 0)),some (.tmp 5,true)⟩,⟨none,.pick (.tmp 5) (.tmp 7) (.cst (.bool false)),none⟩,⟨none,.mv (.tmp 8),none⟩,⟨none,.mv (.var 14),some (.tmp 9,true)⟩,⟨none,.lenSl (.tmp 10),some (.tmp 9,true)⟩,⟨none,.bin .eql (.tmp 11) (.cst (.int .i64 5)),some (.tmp 9,true)⟩,⟨none,.pick (.tmp 9) (.tmp 12) (.cst (.bool false)),none⟩,⟨none,.mv (.tmp 13),none⟩,⟨none,.mv (.var 14),some (.tmp 14,true)⟩,⟨none,.indexSl 2 (.tmp 15) (.cst (.int .i64 0)),some (.tmp 14,true)⟩,⟨none,.load true 2 (.tmp 16),some (.tmp 14,true)⟩,⟨none,.build [.int .i64 0,.int .i64 0] [(1,(1,.cst (.int .i64 2)))],some (.tmp 14,true)⟩,⟨none,.eqAgg false [(0,1),(1,1)] (.tmp 17) (.tmp 18),some (.tmp 14,true)⟩,⟨none,.pick (.tmp 14) (.tmp 19) (.cst (.bool false)),none⟩,⟨none,.mv (.tmp 20),none⟩,⟨none,.mv (.var 17),some (.tmp 21,true)⟩,⟨none,.bin .eql (.tmp 22) (.cst (.int .i64 0)),some (.tmp 21,true)⟩,⟨none,.pick (.tmp 21) (.tmp 23) (.cst (.bool false)),none⟩,⟨none,.mv (.tmp 24),none⟩,⟨none,.mv (.var 16),some (.tmp 25,true)⟩,⟨none,.lenSl (.tmp 26),some (.tmp 25,true)⟩,⟨none,.bin .eql (.tmp 27) (.cst (.int .i64 8)),some (.tmp 25,true)⟩,⟨none,.pick (.tmp 25) (.tmp 28) (.cst (.bool false)),none⟩,⟨none,.mv (.tmp 29),none⟩,⟨none,.mv (.var 18),some (.tmp 30,true)⟩,⟨none,.bin .eql (.tmp 31) (.cst (.int .i64 140)),some (.tmp 30,true)⟩,⟨none,.pick (.tmp 30) (.tmp 32) (.cst (.bool false)),none⟩,⟨some 0,.mv (.tmp 33),none⟩]) .ret))))))))))))),[.tmp 0]⟩
theorem G9:aE Try.prog Try.f11 0 [0,1,2,3,5,6,7,8,9,10,11,13,14,15,16,17,18,19,21,22] [] true ([],[])=some LZ:=by kernel_rfl
theorem at11:Try.prog.funcs[11]?=some Try.f11:=by kernel_rfl
def mf13:cy:=⟨1,6,.seq (.region [⟨some 1,.box (.var 0),none⟩,⟨some 2,.alloc 5 (.agg [.nilS,.int .i64 0,.int .i64 0,.int .i64 0,.int .i64 0]),none⟩,⟨some 3,.mv (.cst .nilS),none⟩,⟨some 4,.mv (.cst (.int .i64 0)),none⟩]) (.seq (.region [⟨none,.fieldAddr 0 (.var 1),none⟩,⟨none,.load false 1 (.tmp 0),none⟩,⟨none,.fieldAddr 1 (.var 1),none⟩,⟨none,.load true 3 (.tmp 2),none⟩,⟨none,.call (.fn 27) [.tmp 1,.tmp 3],none⟩,⟨some 5,.alloc 5 (.agg [.nilS,.int .i64 0,.int .i64 0,.int .i64 0,.int .i64 0]),none⟩,⟨none,.store 5 (.var 5) (.tmp 4),none⟩]) (.seq (.region [⟨none,.load true 5 (.var 5),none⟩,⟨none,.load true 5 (.var 5),none⟩,⟨none,.fieldAddr 4 (.var 1),none⟩,⟨none,.load false 1 (.tmp 2),none⟩,⟨none,.call (.fn 28) [.tmp 1,.tmp 3],none⟩,⟨none,.fieldAddr 5 (.var 1),none⟩,⟨none,.load false 1 (.tmp 5),none⟩,⟨none,.call (.fn 21) [.tmp 6,.cst (.int .i64 60)],none⟩,⟨none,.store 5 (.var 2) (.tmp 0),none⟩,⟨some 3,.mv (.tmp 4),none⟩,⟨some 4,.mv (.tmp 7),none⟩]) .ret)),[.cell 2 true 5,.tmp 3,.tmp 4]⟩
theorem comp13:aE Try.prog Try.f13 1 [0,1,2,3,4,5] [28,21] true ([],[])=some mf13:=by kernel_rfl
theorem at13:Try.prog.funcs[13]?=some Try.f13:=by kernel_rfl
def iX:MC:=.seq (.seq (.region [⟨none,.mv (.var 3),none⟩,⟨none,.mv (.var 0),none⟩,⟨none,.lenSl (.tmp 1),none⟩,⟨some 5,.bin .lss (.tmp 0) (.tmp 2),none⟩]) (.cond (.var 5) .skip (.exit 0))) (.seq (.seq (.block 1 (.seq (.region [⟨none,.mv (.var 0),none⟩,⟨none,.mv (.var 3),none⟩,⟨none,.indexSl 2 (.tmp 0) (.tmp 1),none⟩,⟨none,.load true 2 (.tmp 2),none⟩,⟨none,.mv (.var 1),none⟩,⟨none,.mv (.var 3),none⟩,⟨none,.indexSl 2 (.tmp 4) (.tmp 5),none⟩,⟨none,.load true 2 (.tmp 6),none⟩,⟨some 6,.eqAgg true [(0,1),(1,1)] (.tmp 3) (.tmp 7),none⟩]) (.cond (.var 6) (.seq (.region [⟨some 2,.mv (.cst (.bool false)),none⟩]) .ret) .skip))) (.kill [2,4,5,6])) (.region [⟨none,.mv (.var 3),none⟩,⟨none,.bin .add (.tmp 0) (.cst (.int .i64 1)),none⟩,⟨some 3,.mv (.tmp 1),none⟩]))
def pL:cy:=⟨2,7,.seq (.region [⟨some 2,.mv (.cst (.bool false)),none⟩]) (.seq (.seq (.region [⟨none,.mv (.var 0),none⟩,⟨none,.lenSl (.tmp 0),none⟩,⟨none,.mv (.var 1),none⟩,⟨none,.lenSl (.tmp 2),none⟩,⟨some 4,.bin .neq (.tmp 1) (.tmp 3),none⟩]) (.cond (.var 4) (.seq (.region [⟨some 2,.mv (.cst (.bool false)),none⟩]) .ret) .skip)) (.seq (.seq (.region [⟨some 3,.mv (.cst (.int .i64 0)),none⟩]) (.seq (.block 0 (.loop [2,4,5,6] iX)) (.kill [0,1,2,3,4,5,6]))) (.seq (.region [⟨some 2,.mv (.cst (.bool true)),none⟩]) .ret))),[.tmp 2]⟩
def ir:List Nat:=[2,4,5,6]
abbrev lC (v0 v1 v3:AV):List AV:=[v0,v1,.undef,v3,.undef,.undef,.undef]
theorem Cn {v0 v1 d2 v3 d4 d5 d6:AV}:clear ir [v0,v1,d2,v3,d4,d5,d6]=lC v0 v1 v3:=rfl
theorem BR {E:Env} {fuel:Nat} {A:aa} {o:Out} {k:List KC} {v0 v1 d2 v3 d4 d5 d6:AV} (h:cc (evC E fuel iX) ir fuel (lC v0 v1 v3) A=some o) :
  run E fuel (.code (.loop [2,4,5,6] iX) :: k) [v0,v1,d2,v3,d4,d5,d6] A=after E fuel k o:=aY ir _ _ (by rw [Cn]; exact h)
theorem sk:aE Try.prog Try.f16 2 [0,1,4,5,10,14,25] [] true ([[2,4,5,6]],[[2,4,5,6],[0,1,2,3,4,5,6]])=some pL:=by kernel_rfl
theorem Hl:Try.prog.funcs[16]?=some Try.f16:=by kernel_rfl
def EM:cy:=⟨2,4,.seq (.region [⟨some 2,.mv (.cst (.int .i64 0)),none⟩]) (.seq (.seq (.region [⟨none,.mv (.var 0),none⟩,⟨some 3,.bin .lss (.tmp 0) (.cst (.int .i64 0)),none⟩]) (.cond (.var 3) (.region [⟨none,.mv (.var 0),none⟩,⟨none,.bin .add (.tmp 0) (.cst (.int .i64 1)),none⟩,⟨none,.un .neg (.tmp 1),none⟩,⟨some 0,.mv (.tmp 2),none⟩]) .skip)) (.seq (.region [⟨none,.mv (.var 0),none⟩,⟨none,.mv (.var 1),none⟩,⟨none,.bin .rem (.tmp 0) (.tmp 1),none⟩,⟨some 2,.mv (.tmp 2),none⟩]) .ret)),[.tmp 2]⟩
theorem Ca:aE Try.prog Try.f21 2 [0,1,4,6] [] true ([],[])=some EM:=by kernel_rfl
theorem Mu:Try.prog.funcs[21]?=some Try.f21:=by kernel_rfl
def zM:cy:=⟨1,3,.seq (.region [⟨some 1,.box (.var 0),none⟩,⟨some 2,.mv (.cst (.int .i64 0)),none⟩]) (.seq (.region [⟨none,.fieldAddr 1 (.var 1),none⟩,⟨none,.load false 1 (.tmp 0),none⟩,⟨none,.fieldAddr 3 (.var 1),none⟩,⟨none,.load false 1 (.tmp 2),none⟩,⟨none,.bin .add (.tmp 1) (.tmp 3),none⟩,⟨none,.fieldAddr 2 (.var 1),none⟩,⟨none,.load false 1 (.tmp 5),none⟩,⟨none,.bin .add (.tmp 4) (.tmp 6),none⟩,⟨some 2,.mv (.tmp 7),none⟩]) .ret),[.tmp 2]⟩
theorem yC:aE Try.prog Try.f22 1 [0,1,2] [] true ([],[])=some zM:=by kernel_rfl
theorem Ln:Try.prog.funcs[22]?=some Try.f22:=by kernel_rfl
def rF:cy:=⟨0,1,.seq (.region [⟨some 0,.alloc 5 (.agg [.nilS,.int .i64 0,.int .i64 0,.int .i64 0,.int .i64 0]),none⟩]) (.seq (.region [⟨none,.build [.int .i64 0,.int .i64 0] [(0,(1,.cst (.int .i64 20))),(1,(1,.cst (.int .i64 12)))],none⟩,⟨none,.build [.int .i64 0,.int .i64 0] [(0,(1,.cst (.int .i64 30))),(1,(1,.cst (.int .i64 12)))],none⟩,⟨none,.buildSlice 2 [.tmp 0,.tmp 1],none⟩,⟨none,.build [.nilS,.int .i64 0,.int .i64 0,.int .i64 0,.int .i64 0] [(0,(1,.tmp 2)),(1,(1,.cst (.int .i64 1))),(2,(1,.cst (.int .i64 1))),(3,(1,.cst (.int .i64 2))),(4,(1,.cst (.int .i64 1)))],none⟩,⟨none,.store 5 (.var 0) (.tmp 3),none⟩]) .ret),[.cell 0 true 5]⟩
theorem si:aE Try.prog Try.f26 0 [0] [] true ([],[])=some rF:=by kernel_rfl
theorem Hk:Try.prog.funcs[26]?=some Try.f26:=by kernel_rfl
def dZ:MC:=.seq (.seq (.region [⟨none,.mv (.var 5),none⟩,⟨none,.mv (.var 0),none⟩,⟨none,.lenSl (.tmp 1),none⟩,⟨none,.minmax false (.tmp 2) [.cst (.int .i64 4)],none⟩,⟨none,.minmax true (.cst (.int .i64 1)) [.tmp 3],none⟩,⟨some 7,.bin .lss (.tmp 0) (.tmp 4),none⟩]) (.cond (.var 7) .skip (.exit 0))) (.seq (.seq (.block 1 (.seq (.region [⟨none,.build [.int .i64 0,.int .i64 0] [(0,(1,.cst (.int .i64 20))),(1,(1,.cst (.int .i64 30)))],none⟩,⟨some 6,.alloc 2 (.agg [.int .i64 0,.int .i64 0]),none⟩,⟨none,.store 2 (.var 6) (.tmp 0),none⟩]) (.seq (.seq (.region [⟨none,.mv (.var 5),none⟩,⟨none,.mv (.var 0),none⟩,⟨none,.lenSl (.tmp 1),none⟩,⟨some 8,.bin .lss (.tmp 0) (.tmp 2),none⟩]) (.cond (.var 8) (.seq (.region [⟨none,.mv (.var 0),none⟩,⟨none,.mv (.var 5),none⟩,⟨none,.indexSl 2 (.tmp 0) (.tmp 1),none⟩,⟨none,.indexArr 2 1 (.tmp 2) (.cst (.int .i64 0)),none⟩,⟨none,.load false 1 (.tmp 3),none⟩,⟨none,.call (.fn 50) [.tmp 4,.cst (.int .i64 60)],none⟩,⟨none,.fieldAddr 0 (.var 6),none⟩,⟨none,.store 1 (.tmp 6) (.tmp 5),none⟩]) (.seq (.region [⟨none,.mv (.var 0),none⟩,⟨none,.mv (.var 5),none⟩,⟨none,.indexSl 2 (.tmp 0) (.tmp 1),none⟩,⟨none,.indexArr 2 1 (.tmp 2) (.cst (.int .i64 1)),none⟩,⟨none,.load false 1 (.tmp 3),none⟩,⟨none,.call (.fn 50) [.tmp 4,.cst (.int .i64 50)],none⟩,⟨none,.fieldAddr 1 (.var 6),none⟩,⟨none,.store 1 (.tmp 6) (.tmp 5),none⟩]) (.seq (.region [⟨none,.mv (.var 0),none⟩,⟨none,.mv (.var 5),none⟩,⟨none,.indexSl 2 (.tmp 0) (.tmp 1),none⟩,⟨none,.indexArr 2 1 (.tmp 2) (.cst (.int .i64 1)),none⟩,⟨none,.load false 1 (.tmp 3),none⟩,⟨none,.bin .quo (.tmp 4) (.cst (.int .i64 50)),none⟩,⟨none,.call (.fn 50) [.tmp 5,.cst (.int .i64 3)],none⟩,⟨some 9,.bin .eql (.tmp 6) (.cst (.int .i64 0)),none⟩]) (.cond (.var 9) (.region [⟨none,.fieldAddr 1 (.var 6),none⟩,⟨none,.load false 1 (.tmp 0),none⟩,⟨none,.bin .add (.tmp 1) (.cst (.int .i64 200)),none⟩,⟨none,.fieldAddr 1 (.var 6),none⟩,⟨none,.store 1 (.tmp 3) (.tmp 2),none⟩]) .skip)))) .skip)) (.region [⟨none,.fieldAddr 0 (.var 4),none⟩,⟨none,.load false 1 (.tmp 0),none⟩,⟨none,.load true 2 (.var 6),none⟩,⟨none,.buildF 2 [.tmp 2],none⟩,⟨none,.append 2 16 (.tmp 1) (.tmp 3),none⟩,⟨none,.fieldAddr 0 (.var 4),none⟩,⟨none,.store 1 (.tmp 5) (.tmp 4),none⟩])))) (.kill [1,2,6,7,8,9])) (.region [⟨none,.mv (.var 5),none⟩,⟨none,.bin .add (.tmp 0) (.cst (.int .i64 1)),none⟩,⟨some 5,.mv (.tmp 1),none⟩]))
def As:cy:=⟨2,10,.seq (.region [⟨some 2,.box (.var 1),none⟩,⟨some 3,.alloc 5 (.agg [.nilS,.int .i64 0,.int .i64 0,.int .i64 0,.int .i64 0]),none⟩]) (.seq (.regionD [50] [⟨none,.indexArr 3 1 (.var 2) (.cst (.int .i64 0)),none⟩,⟨none,.load false 1 (.tmp 0),none⟩,⟨none,.call (.fn 50) [.tmp 1,.cst (.int .i64 4)],none⟩,⟨none,.indexArr 3 1 (.var 2) (.cst (.int .i64 1)),none⟩,⟨none,.load false 1 (.tmp 3),none⟩,⟨none,.call (.fn 50) [.tmp 4,.cst (.int .i64 4)],none⟩,⟨none,.indexArr 3 1 (.var 2) (.cst (.int .i64 2)),none⟩,⟨none,.load false 1 (.tmp 6),none⟩,⟨none,.call (.fn 50) [.tmp 7,.cst (.int .i64 5)],none⟩,⟨none,.build [.nilS,.int .i64 0,.int .i64 0,.int .i64 0,.int .i64 0] [(4,(1,.cst (.int .i64 1))),(1,(1,.tmp 2)),(2,(1,.tmp 5)),(3,(1,.tmp 8))],none⟩,⟨some 4,.alloc 5 (.agg [.nilS,.int .i64 0,.int .i64 0,.int .i64 0,.int .i64 0]),none⟩,⟨none,.store 5 (.var 4) (.tmp 9),none⟩] [(0,10),(1,10),(2,10),(3,10),(4,10),(5,10),(6,10),(7,10),(8,10)]) (.seq (.seq (.region [⟨some 5,.mv (.cst (.int .i64 0)),none⟩]) (.seq (.block 0 (.loop [1,2,6,7,8,9] dZ)) (.kill [0,1,2,5,6,7,8,9]))) (.seq (.region [⟨none,.load true 5 (.var 4),none⟩,⟨none,.store 5 (.var 3) (.tmp 0),none⟩]) .ret))),[.cell 3 true 5]⟩
def mR:List Nat:=[1,2,6,7,8,9]
abbrev pq (v0 v3 v4 v5:AV):List AV:=[v0,.undef,.undef,v3,v4,v5,.undef,.undef,.undef,.undef]
theorem yL {v0 d1 d2 v3 v4 v5 d6 d7 d8 d9:AV}:clear mR [v0,d1,d2,v3,v4,v5,d6,d7,d8,d9]=pq v0 v3 v4 v5:=rfl
theorem Gj {E:Env} {fuel:Nat} {A:aa} {o:Out} {k:List KC} {v0 d1 d2 v3 v4 v5 d6 d7 d8 d9:AV} (h:cc (evC E fuel dZ) mR fuel (pq v0 v3 v4 v5) A=some o) :
  run E fuel (.code (.loop [1,2,6,7,8,9] dZ) :: k) [v0,d1,d2,v3,v4,v5,d6,d7,d8,d9] A=after E fuel k o:=aY mR _ _ (by rw [yL]; exact h)
theorem yB:aE Try.prog Try.f27 2 [0,1,3,4,5,6,7,23,30,52] [50] true ([[1,2,6,7,8,9]],[[1,2,6,7,8,9],[0,1,2,5,6,7,8,9]])=some As:=by kernel_rfl
theorem Lm:Try.prog.funcs[27]?=some Try.f27:=by kernel_rfl
def eC:MC:=.seq (.seq (.region [⟨none,.mv (.var 5),none⟩,⟨none,.mv (.var 4),none⟩,⟨none,.lenSl (.tmp 1),none⟩,⟨some 6,.bin .lss (.tmp 0) (.tmp 2),none⟩]) (.cond (.var 6) .skip (.exit 0))) (.seq (.seq (.block 1 (.seq (.region [⟨none,.mv (.var 4),none⟩,⟨none,.mv (.var 5),none⟩,⟨none,.indexSl 1 (.tmp 0) (.tmp 1),none⟩,⟨none,.store 1 (.tmp 2) (.cst (.int .i64 (-1))),none⟩]) (.seq (.region [⟨none,.mv (.var 5),none⟩,⟨none,.mv (.var 1),none⟩,⟨none,.lenSl (.tmp 1),none⟩,⟨none,.bin .lss (.tmp 0) (.tmp 2),none⟩,⟨none,.mv (.tmp 3),none⟩,⟨none,.mv (.var 1),some (.tmp 4,true)⟩,⟨none,.mv (.var 5),some (.tmp 4,true)⟩,⟨none,.indexSl 1 (.tmp 5) (.tmp 6),some (.tmp 4,true)⟩,⟨none,.load false 1 (.tmp 7),some (.tmp 4,true)⟩,⟨none,.call (.fn 50) [.tmp 8,.cst (.int .i64 4)],some (.tmp 4,true)⟩,⟨none,.bin .gtr (.tmp 9) (.cst (.int .i64 0)),some (.tmp 4,true)⟩,⟨some 7,.pick (.tmp 4) (.tmp 10) (.cst (.bool false)),none⟩]) (.cond (.var 7) (.region [⟨none,.mv (.var 4),none⟩,⟨none,.mv (.var 5),none⟩,⟨none,.mv (.var 1),none⟩,⟨none,.mv (.var 5),none⟩,⟨none,.indexSl 1 (.tmp 2) (.tmp 3),none⟩,⟨none,.load false 1 (.tmp 4),none⟩,⟨none,.bin .quo (.tmp 5) (.cst (.int .i64 4)),none⟩,⟨none,.call (.fn 50) [.tmp 6,.cst (.int .i64 120)],none⟩,⟨none,.indexSl 1 (.tmp 0) (.tmp 1),none⟩,⟨none,.store 1 (.tmp 8) (.tmp 7),none⟩]) .skip)))) (.kill [0,2,3,6,7])) (.region [⟨none,.mv (.var 5),none⟩,⟨none,.bin .add (.tmp 0) (.cst (.int .i64 1)),none⟩,⟨some 5,.mv (.tmp 1),none⟩]))
def FO:cy:=⟨2,8,.seq (.region [⟨some 2,.box (.var 0),none⟩,⟨some 3,.mv (.cst .nilS),none⟩]) (.seq (.region [⟨none,.fieldAddr 0 (.var 2),none⟩,⟨none,.load false 1 (.tmp 0),none⟩,⟨none,.lenSl (.tmp 1),none⟩,⟨none,.makeSlice 1 8 (.int .i64 0) (.tmp 2) (.tmp 2),none⟩,⟨some 4,.mv (.tmp 3),none⟩]) (.seq (.seq (.region [⟨some 5,.mv (.cst (.int .i64 0)),none⟩]) (.seq (.block 0 (.loop [0,2,3,6,7] eC)) (.kill [0,1,2,3,5,6,7]))) (.seq (.region [⟨none,.mv (.var 4),none⟩,⟨some 3,.mv (.tmp 0),none⟩]) .ret))),[.tmp 3]⟩
def jS:List Nat:=[0,2,3,6,7]
abbrev iJ (v1 v4 v5:AV):List AV:=[.undef,v1,.undef,.undef,v4,v5,.undef,.undef]
theorem sq {d0 v1 d2 d3 v4 v5 d6 d7:AV}:clear jS [d0,v1,d2,d3,v4,v5,d6,d7]=iJ v1 v4 v5:=rfl
theorem Gi {E:Env} {fuel:Nat} {A:aa} {o:Out} {k:List KC} {d0 v1 d2 d3 v4 v5 d6 d7:AV} (h:cc (evC E fuel eC) jS fuel (iJ v1 v4 v5) A=some o) :
  run E fuel (.code (.loop [0,2,3,6,7] eC) :: k) [d0,v1,d2,d3,v4,v5,d6,d7] A=after E fuel k o:=aY jS _ _ (by rw [sq]; exact h)
theorem B9:aE Try.prog Try.f28 2 [0,1,2,4,5,6,14,31] [] true ([[0,2,3,6,7]],[[0,2,3,6,7],[0,1,2,3,5,6,7]])=some FO:=by kernel_rfl
theorem Mt:Try.prog.funcs[28]?=some Try.f28:=by kernel_rfl
def DP:cy:=⟨2,4,.seq (.region [⟨some 2,.mv (.cst (.int .i64 0)),none⟩]) (.seq (.seq (.region [⟨none,.mv (.var 0),none⟩,⟨some 3,.bin .lss (.tmp 0) (.cst (.int .i64 0)),none⟩]) (.cond (.var 3) (.region [⟨none,.mv (.var 0),none⟩,⟨none,.bin .add (.tmp 0) (.cst (.int .i64 1)),none⟩,⟨none,.un .neg (.tmp 1),none⟩,⟨some 0,.mv (.tmp 2),none⟩]) .skip)) (.seq (.region [⟨none,.mv (.var 0),none⟩,⟨none,.mv (.var 1),none⟩,⟨none,.bin .rem (.tmp 0) (.tmp 1),none⟩,⟨some 2,.mv (.tmp 2),none⟩]) .ret)),[.tmp 2]⟩
theorem yl:aE Try.prog Try.f50 2 [0,1,4,6] [] true ([],[])=some DP:=by kernel_rfl
theorem Lb:Try.prog.funcs[50]?=some Try.f50:=by kernel_rfl
end Tr
namespace Tr
open Go
open Cy (GC aI bb aB)
open Clu (aR a0 an chA ba dH cC cT)
def M16:aO:=fun args=>evP (ax GC []) 300 pL 1 args
theorem lG:aw Try.prog GC 16 M16:=aw.of_ev (E:=ax GC []) (au aA) rfl Hl sk 1 fun _ _ h=>⟨300,h⟩
theorem qj {xs ys:List c9} {a b:AV} (ha:SlA 2 (xs.map aP) a) (hb:SlA 2 (ys.map aP) b) (hl:xs.length<=200) (hl2:ys.length<=200):M16 [a,b]=some (.bool (decide (xs=ys))):=by
 have hla:=ha.len
 have hlb:=hb.len
 rw [List.length_map] at hla hlb
 have b0:ag .neq (.int .i64 (xs.length:Int)) (.int .i64 (ys.length:Int))=some (.bool (decide (xs.length≠ys.length))):=by
  rw [cT]
  congr 2
  exact decide_eq_decide.2 (by omega)
 by_cases h0:xs.length≠ys.length
 ·rw [decide_eq_true h0] at b0
  rw [decide_eq_false (fun h=>h0 (by rw [h]))]
  unfold M16
  rw [aJ _ _ rfl]
  simp [pL,hla,hlb,b0,-ag,-aq]
 have h0:xs.length=ys.length:=Classical.not_not.1 h0
 rw [decide_eq_false (by omega)] at b0
 have round:∀(A:aa) (i:Nat) (hi:i<xs.length),run (ax GC []) 300 [.code iX] (lC a b (.int .i64 (i:Int))) A =
   if xs[i]=ys[i]'(by omega) then some (.normal (lC a b (.int .i64 ((i+1:Nat):Int))) A) else some (.ret [a,b,.bool false,.int .i64 (i:Int),.undef,.bool true,.bool true] A):=fun A i hi=>by
  have x1:=ha.index (A:=A) (x:=aP xs[i]) (i:=i) (by simp [hi]) rfl (by omega) .i64
  have x2:=hb.index (A:=A) (x:=aP (ys[i]'(by omega))) (i:=i) (by simp [show i<ys.length by omega]) rfl (by omega) .i64
  obtain ⟨p,hp⟩:∃p,p=xs[i]:=⟨_,rfl⟩
  obtain ⟨q,hq⟩:∃q,q=ys[i]'(by omega):=⟨_,rfl⟩
  rw [<-hp] at x1 ⊢
  rw [<-hq] at x2 ⊢
  have ea:gg true [(0,1),(1,1)] (aP p) (aP q)=some (.bool (decide (p≠q))):=by
   obtain ⟨a1,a2⟩:=p
   obtain ⟨c1,c2⟩:=q
   simp only [aP,gg,ou,eqK]
   by_cases e1:a1=c1 <;> by_cases e2:a2=c2 <;> simp [e1,e2]
  have b1:=bu i xs.length .i64
  rw [decide_eq_true hi] at b1
  have b3:=bc i (by omega)
  have l1:∀z:c9,ac true 2 A (.fp (cellsOf (aP z)))=some (aP z):=fun z=>rfl
  obtain ⟨P,hP⟩:∃P,P=cellsOf (aP p):=⟨_,rfl⟩
  obtain ⟨Q,hQ⟩:∃P,P=cellsOf (aP q):=⟨_,rfl⟩
  have l2:=l1 p
  have l3:=l1 q
  rw [<-hP] at x1 l2
  rw [<-hQ] at x2 l3
  obtain ⟨i1,hi1⟩:∃i1:Nat,i1=i+1:=⟨_,rfl⟩
  rw [<-hi1] at b3 ⊢
  by_cases hd:p=q
  ·rw [decide_eq_false (by simpa using hd)] at ea
   rw [if_pos hd]
   simp [iX,hla,x1,x2,l2,l3,ea,b1,b3,-ag,-ai,-aq,-ac,-gg]
  ·rw [decide_eq_true (by simpa using hd)] at ea
   rw [if_neg hd]
   simp [iX,hla,x1,x2,l2,l3,ea,b1,-ag,-ai,-aq,-ac,-gg]
 have bE:=bu xs.length xs.length .i64
 rw [decide_eq_false (by omega)] at bE
 unfold M16
 rw [aJ _ _ rfl]
 rcases cI (E:=ax GC []) (fuel:=300) (a:=iX) (mask:=ir) (fun i=>lC a b (.int .i64 (i:Int))) (fun _=>[]) xs.length (fun i=>¬ ∀(hi:i<xs.length),xs[i]=ys[i]'(by omega))
  (oF:=fun i=>.ret [a,b,.bool false,.int .i64 (i:Int),.undef,.bool true,.bool true] []) (oE:=.exit 0 ((lC a b (.int .i64 (xs.length:Int))).set 5 (.bool false)) [])
  (fun _=>Cn) (fun _ _ _ h=>by cases h) (fun _ _ h=>by cases h)
  (fun i hi hp=>by
   rw [round [] i hi]
   exact if_pos (Classical.not_not.1 hp hi))
  (fun i hi hp=>by
   rw [round [] i hi]
   exact if_neg fun h=>hp fun _=>h)
  (by simp [iX,hla,bE,-ag,-aq]) (show xs.length<300 by omega) with ⟨i,hi,hp,hj,lp⟩ | ⟨hp,lp⟩
 ·have lp:cc (evC (ax GC []) 300 iX) ir 300 (lC a b (.int .i64 0)) []=_:=lp
  rw [decide_eq_false (fun h=>hp (fun _=>by subst h; rfl))]
  simp [pL,hla,hlb,b0,BR lp,-ag,-aq]
 ·have lp:cc (evC (ax GC []) 300 iX) ir 300 (lC a b (.int .i64 0)) []=_:=lp
  rw [decide_eq_true (List.ext_getElem h0 fun i h1 h2=>Classical.not_not.1 (hp i h1) h1)]
  simp [pL,hla,hlb,b0,BR lp,-ag,-aq]
theorem FC:DP=Cy.Z7:=rfl
theorem wR:aw Try.prog GC 50 Cy.M12:=by
 refine aw.of_ev (E:=ax GC []) (au aA) rfl Lb yl 1 ?_
 intro args r h
 unfold Cy.M12 at h
 split at h
 ·simp only [Option.ite_none_right_eq_some,Option.some.injEq] at h
  obtain ⟨⟨h1,h2⟩,rfl⟩:=h
  exact ⟨0,by rw [FC]; exact Cy.Mn _ _ _ h1 h2⟩
 ·cases h
end Tr
namespace Tr
open Go
open Cy (GC aI bb aB)
open Clu (aR a0 cn Chk an chA pC gv pd t1 jc ba bn cT aV b7)
def M22:aO:=fun args=>evP (ax GC []) 300 zM 1 args
theorem uw:aw Try.prog GC 22 M22:=aw.of_ev (E:=ax GC []) (au aA) rfl Ln yC 1 fun _ _ h=>⟨300,h⟩
theorem zC {T:aR} (chv:AV) (hv:a0 T):M22 [an T chv]=some (.int .i64 (wT T)):=by
 obtain ⟨_,⟨h1,h2,h3⟩,_⟩:=hv
 have b1:ag .add (.int .i64 T.pick) (.int .i64 T.travel)=some (.int .i64 (T.pick+T.travel)):=ba (by omega)
 have b2:ag .add (.int .i64 (T.pick+T.travel)) (.int .i64 T.place)=some (.int .i64 (wT T)):=ba (by omega)
 unfold M22
 rw [aJ _ _ rfl]
 simp [zM,an,b1,b2,-ag]
def M26:aO:=fun args=>evP (ax GC []) 300 rF 4 args
theorem w4:aw Try.prog GC 26 M26:=aw.of_ev (E:=ax GC []) (au aA) rfl Hk si 4 fun _ _ h=>⟨300,h⟩
abbrev Mr:AV:=.fs 2 [.agg [.int .i64 20,.int .i64 12],.agg [.int .i64 30,.int .i64 12]]
abbrev tA1:AV:=.agg [Mr,.int .i64 1,.int .i64 1,.int .i64 2,.int .i64 1]
theorem qh:M26 []=some tA1:=by
 unfold M26
 rw [aJ _ _ rfl]
 simp [rF]
def AL:List (FuncId × aG):=[(26,aD 4 M26),(14,aD 4 M14),(17,aD 4 M17),(23,aD 4 Clu.M22),(24,aD 4 M24),(25,aD 4 M25),(16,aD 4 M16)]
@[simp] theorem KM:aC AL 26=some (aD 4 M26):=rfl
@[simp] theorem KS:aC AL 14=some (aD 4 M14):=rfl
@[simp] theorem KQ:aC AL 17=some (aD 4 M17):=rfl
@[simp] theorem KP:aC AL 23=some (aD 4 Clu.M22):=rfl
@[simp] theorem KO:aC AL 24=some (aD 4 M24):=rfl
@[simp] theorem KN:aC AL 25=some (aD 4 M25):=rfl
@[simp] theorem KR:aC AL 16=some (aD 4 M16):=rfl
theorem Do:∀f M,aC AL f=some M->aj Try.prog GC f M:=ae (aj.of_pure w4 4) (ae (aj.of_pure CT 4) (ae (aj.of_pure rp 4) (ae (aj.of_pure Clu.uw 4) (ae (aj.of_pure uv 4) (ae (aj.of_pure Bn 4) (ae (aj.of_pure lG 4) aA))))))
def M11:aO:=fun args=>match args with
 | []=>some (.bool true)
 | _=>none
abbrev i3 (a b c:Int):AV:=.fs 1 [.int .i64 a,.int .i64 b,.int .i64 c]
abbrev i2 (a b:Int):AV:=.fs 1 [.int .i64 a,.int .i64 b]
theorem uC {e:Nat} {x:AV} {xs:List AV} {v:AV} (h:SlA e (x :: xs) v):v=.fs e (x :: xs):=by
 rcases h with ⟨_,h⟩ | h
 ·cases h
 ·exact h
theorem dm0 {T:aR} {rd:List Int} {free:Int}:cM T rd free 0=bY T rd free:=jt T rd free
theorem xb (s:cn) (A:aa) (n:Nat):frz A (n+1) (pC s)=pC s:=by
 have k:=fun o=>(a9 1 (ak o)).frz (A:=A) n
 simp [pC,frz,k,aI]
theorem xa (s:cn) (n:Nat):bo (n+1) (pC s)=true:=by
 have k:=fun o=>(a9 1 (ak o)).noRef n
 have ki:∀z,bo n (.int .i64 z)=true:=fun z=>by cases n <;> rfl
 simp [pC,bo,k,ki]
open Classical in
theorem Fv:aw Try.prog GC 11 M11:=by
 refine aw.of_ev (E:=ax GC AL) (au Do) rfl at11 G9 1 ?_
 intro args r h
 unfold M11 at h
 split at h
 rotate_left
 ·cases h
 injection h with h; subst h
 refine ⟨0,?_⟩
 have h12:SlA 2 (t1.ch.map chA) Mr:=.inr rfl
 have hi:∀a b:Int,SlA 1 (ak [a,b]) (i2 a b):=fun a b=>.inr rfl
 obtain ⟨s,hs,hc,h1,h2,h3⟩:=Hg
 have sV:=jc hc
 obtain ⟨va,ma,ra⟩:=mp (free:=0) (lost:=0) h12 (hi 10 (-1)) (by decide) (by decide)
 rw [dm0,dr_a] at ma ra
 obtain ⟨vb,mb,rb⟩:=mp (free:=0) (lost:=0) h12 (hi 10 40) (by decide) (by decide)
 rw [dm0,Mp] at mb rb
 obtain ⟨vc,mc,rc⟩:=mp (free:=0) (lost:=0) h12 (hi 40 30) (by decide) (by decide)
 rw [dm0,Mo] at mc rc
 obtain ⟨vd,md,rd⟩:=mp (free:=0) (lost:=2) h12 (hi 10 40) (by decide) (by decide)
 rw [dr_d] at md rd
 have ea:=uC ra
 have ec:=uC rc
 have ed:=uC rd
 have ma:M14 [tA1,i2 10 (-1),.int .i64 0,.int .i64 0]=some (.tup [va,.bool true]):=ma
 have mb:M14 [tA1,i2 10 40,.int .i64 0,.int .i64 0]=some (.tup [vb,.bool false]):=mb
 have mc:M14 [tA1,i2 40 30,.int .i64 0,.int .i64 0]=some (.tup [vc,.bool true]):=mc
 have md:M14 [tA1,i2 10 40,.int .i64 0,.int .i64 2]=some (.tup [vd,.bool true]):=md
 have k1:=qi h12 (by decide) (hi 40 30) (by decide) 0 rc (by decide)
 rw [show (some [((2:Int),(30:Int)),(1,40),(2,74)]).getD []=[(2,30),(1,40),(2,74)] from rfl,Mq] at k1
 have k1:M17 [tA1,i2 40 30,.int .i64 0,vc]=some (.tup [.int .i64 78,.bool true]):=k1
 have k2:=qi h12 (by decide) (hi 40 30) (by decide) 0 (l:=[(2,30),(1,35)]) (.inr rfl) (by decide)
 rw [ck_d] at k2
 have k2:M17 [tA1,i2 40 30,.int .i64 0,.fs 2 [.agg [.int .i64 2,.int .i64 30],.agg [.int .i64 1,.int .i64 35]]]=some (.tup [.int .i64 0,.bool false]):=k2
 have e1:=qj ra (ys:=[(1,10),(2,44)]) (.inr rfl) (by decide) (by decide)
 have e1:M16 [va,.fs 2 [.agg [.int .i64 1,.int .i64 10],.agg [.int .i64 2,.int .i64 44]]]=some (.bool true):=e1
 have e2:=qj rd (ys:=[(1,10)]) (.inr rfl) (by decide) (by decide)
 have e2:M16 [vd,.fs 2 [.agg [.int .i64 1,.int .i64 10]]]=some (.bool true):=e2
 have b1:=Clu.zC h12 (by decide)
 rw [hs] at b1
 obtain ⟨P1,hP1⟩:∃P,P=slA 1 (ak s.proof):=⟨_,rfl⟩
 obtain ⟨z1,z2⟩:=Clu.gW s.proof
 rw [<-hP1] at z1 z2
 obtain ⟨S,hS⟩:∃S,S=AV.agg [.int .i64 40,i3 0 2 1,i3 0 24 18,P1]:=⟨_,rfl⟩
 have hSs:S=pC s:=by rw [hS,hP1]; unfold pC; rw [h1,h2,h3]; rfl
 have b1:Clu.M22 [tA1]=some (.tup [S,.int .i64 0]):=by rw [hSs]; exact b1
 have fS:∀A n,frz A (n+1) S=S:=fun A n=>by rw [hSs]; exact xb s A n
 obtain ⟨r,hr,hrl⟩:=B6 hc h1 h2 h3 0 (by omega)
 obtain ⟨vl,ml,rl⟩:=zB (free:=0) h12 (by decide) sV
 rw [hr] at ml rl
 have el:=uC rl
 have ml:M24 [tA1,S,.int .i64 0]=some (.tup [vl,.int .i64 0]):=by rw [hSs]; exact ml
 have lenl:vl=.fs 2 (.agg [.int .i64 0,.int .i64 2] :: r.map aP):=el
 obtain ⟨r2,hr2,hrl2⟩:=B6 hc h1 h2 h3 78 (by omega)
 have w1:cB t1 [40,30] 0 s=some ([(2,30),(1,40),(2,74)]++(0,78+2) :: r2):=by
  unfold cB
  rw [Mo,Option.bind_some,Mq,Option.getD_some,hr2]; rfl
 have w2:cB t1 [10,40] 0 s=none:=by
  unfold cB
  rw [Mp]; rfl
 obtain ⟨vm,mm,rm⟩:=Cx (free:=0) h12 (by decide) (hi 40 30) (by decide) sV
 rw [w1] at mm rm
 have lm:=rm.len
 rw [List.length_map] at lm
 have mm:M25 [tA1,i2 40 30,.int .i64 0,S]=some (.tup [vm,.int .i64 0]):=by rw [hSs]; exact mm
 have lm:aq vm=some (.int .i64 8):=by
  rw [lm]
  simp [hrl2]
 obtain ⟨vn,mn,_⟩:=Cx (free:=0) h12 (by decide) (hi 10 40) (by decide) sV
 rw [w2] at mn
 have mn:M25 [tA1,i2 10 40,.int .i64 0,S]=some (.tup [vn,.int .i64 140]):=by rw [hSs]; exact mn
 have lc:aq vc=some (.int .i64 3):=rc.len
 have ll:aq vl=some (.int .i64 5):=by
  rw [rl.len]; simp [hrl]
 have xl:∀A,ai 2 A vl (.int .i64 0)=some (.fp [.int .i64 0,.int .i64 2]):=fun A=>rl.index (A:=A) (i:=0) (x:=aP (0,0+2)) rfl rfl (by omega) .i64
 have fa:∀A n,frz A n va=va:=fun A n=>ra.frz n
 have fb:∀A n,frz A n vb=vb:=fun A n=>rb.frz n
 have fc:∀A n,frz A n vc=vc:=fun A n=>rc.frz n
 have fd:∀A n,frz A n vd=vd:=fun A n=>rd.frz n
 clear ea ec ed el lenl
 clear rl rm ra rb rc rd
 have ft:∀A,frz A 4 tA1=tA1:=fun A=>aV (T:=t1) (fun A n=>h12.frz (A:=A) n) A 3
 have fi:∀A a b,frz A 4 (i2 a b)=i2 a b:=fun A a b=>(hi a b).frz 4
 have fk:∀A,frz A 4 (.fs 2 [.agg [.int .i64 2,.int .i64 30],.agg [.int .i64 1,.int .i64 35]])=.fs 2 [.agg [.int .i64 2,.int .i64 30],.agg [.int .i64 1,.int .i64 35]]:=fun A=>rfl
 have fk2:∀A,frz A 4 (.fs 2 [.agg [.int .i64 1,.int .i64 10],.agg [.int .i64 2,.int .i64 44]])=.fs 2 [.agg [.int .i64 1,.int .i64 10],.agg [.int .i64 2,.int .i64 44]]:=fun A=>rfl
 have fk3:∀A,frz A 4 (.fs 2 [.agg [.int .i64 1,.int .i64 10]])=.fs 2 [.agg [.int .i64 1,.int .i64 10]]:=fun A=>rfl
 have fP1:∀A n,frz A n P1=P1:=fun A n=>by rw [hP1]; exact (a9 1 _).frz n
 have nP1:∀n,bo n P1=true:=fun n=>by rw [hP1]; exact (a9 1 _).noRef n
 have fS4:=fun A=>fS A 3
 clear hSs fS
 subst hS
 rw [aJ _ _ rfl]
 simp [LZ,qh,ma,mb,mc,md,k1,k2,e1,e2,b1,fS4,ft,fi,fk,fk2,fk3,nP1,aI,ml,mm,mn,lm,lc,ll,xl,fa,fc,fd,-frz,-ai,-aq]
 rfl
end Tr
namespace Tr
open Go
open Cy (GC aI bb aB cO)
open Clu (aR a0 tC an chA ba dH cC cT bn aV b7)
def nOf (ys:List (Int × Int)):Nat:=max 1 (min ys.length 4)
def yOf (ys:List (Int × Int)) (i:Nat):Int × Int:=ys.getD i (0,0)
def IF (z:Int):Int:=if pick (z.tdiv 50) 3=0 then pick z 50+200 else pick z 50
def chO (ys:List (Int × Int)) (i:Nat):Int × Int:=if i<ys.length then (pick (yOf ys i).1 60,IF (yOf ys i).2) else (20,30)
def mkT (ys:List (Int × Int)) (a b c:Int):aR:=⟨(List.range (nOf ys)).map (chO ys),pick a 4,pick b 4,pick c 5,1⟩
theorem yV (ys:List (Int × Int)) (i:Nat):(0<=(chO ys i).1/\(chO ys i).1<=59)/\0<=(chO ys i).2/\(chO ys i).2<=249:=by
 unfold chO IF
 have k1:=de (yOf ys i).1 60 (by omega)
 have k2:=de (yOf ys i).2 50 (by omega)
 split
 ·split <;> simp only <;> omega
 ·simp only; omega
theorem xw (ys:List (Int × Int)) (a b c:Int):(mkT ys a b c).ch.length=nOf ys:=by simp [mkT]
theorem rD (ys:List (Int × Int)):1<=nOf ys/\nOf ys<=4:=by unfold nOf; omega
theorem rE (ys:List (Int × Int)) (a b c:Int):a0 (mkT ys a b c)/\(mkT ys a b c).blades=1:=by
 have h1:=de a 4 (by omega)
 have h2:=de b 4 (by omega)
 have h3:=de c 5 (by omega)
 have hn:=xw ys a b c
 have hb:=rD ys
 refine ⟨⟨fun c hc=>?_,⟨⟨?_,?_⟩,⟨?_,?_⟩,?_,?_⟩,?_,?_,.inl rfl⟩,rfl⟩
 ·obtain ⟨i,_,rfl⟩:=List.mem_map.1 hc
  have:=yV ys i
  unfold tC
  omega
 all_goals first | (rw [hn]; omega) | (simp only [mkT]; omega)
def Io (A:aa) (v:AV) (xs:List (Int × Int)):Prop:=(v=.nilS/\xs=[])\/∃id gr,v=.sl id 0 xs.length/\xs≠[]/\2<id/\A[id]?=some (.row 2 gr (xs.map chA))
structure I27 (A:aa) (xs:List (Int × Int)) (p q r:Int):Prop where
 o:A[1]?=some (.row 5 false [.agg [.nilS,.int .i64 0,.int .i64 0,.int .i64 0,.int .i64 0]])
 c:∃v,A[2]?=some (.row 5 false [.agg [v,.int .i64 p,.int .i64 q,.int .i64 r,.int .i64 1]])/\Io A v xs
def f9:List (FuncId × aG):=[(50,aD 4 Cy.M12)]
@[simp] theorem JO:aC f9 50=some (aD 4 Cy.M12):=rfl
theorem nC:∀f M,aC f9 f=some M->aj Try.prog GC f M:=ae (aj.of_pure wR 4) aA
theorem pO {A:aa} {id i:Nat} {k:Nat} {es:List AV} {x:AV} (h:A[id]?=some (.row k false [.agg es])) (hx:es[i]?=some x):ac false 1 A (.ptr id 0 i)=some x:=by
 simp [ac,h,bP,hx]
theorem b27 (ys:List (Int × Int)):fh false (.int .i64 (ys.length:Int)) [.int .i64 4]=some (.int .i64 ((min ys.length 4:Nat):Int))/\fh true (.int .i64 1) [.int .i64 ((min ys.length 4:Nat):Int)]=some (.int .i64 (nOf ys:Int)):=by
 constructor
 ·have:=An ys.length 4 .i64 .i64
  simp only [fh]
  rw [show (.int .i64 4:AV)=.int .i64 ((4:Nat):Int) from rfl,this]
 ·have:=At 1 (min ys.length 4) .i64 .i64
  simp only [fh]
  rw [show (.int .i64 1:AV)=.int .i64 ((1:Nat):Int) from rfl,this]
  rfl
theorem tz {a b:Int} (ha:inI a) (hb:2<=b/\b<=9223372036854775807):ag .quo (.int .i64 a) (.int .i64 b)=some (.int .i64 (a.tdiv b))/\inI (a.tdiv b):=by
 have h1:(a.tdiv b).natAbs<=a.natAbs:=by rw [Int.natAbs_tdiv]; exact Nat.div_le_self _ _
 have hr:inI (a.tdiv b):=by
  unfold inI at *
  have h2:(a.tdiv b).natAbs<=a.natAbs / 2:=by
   rw [Int.natAbs_tdiv]
   exact Nat.div_le_div_left (by omega) (by omega)
  omega
 refine ⟨?_,hr⟩
 have hw:=dV hr
 simp only [ag]
 rw [if_pos trivial,if_neg (by omega),hw]
theorem tw {A:aa} {ys:List (Int × Int)} (hys:∀y∈ys,inI y.1/\inI y.2) {yv:AV} (hy:SlA 2 (ys.map chA) yv) {xs:List (Int × Int)} {p q r:Int} (hI:I27 A xs p q r) {i:Nat} (hi:i<nOf ys) (hxl:xs.length<=100) :
  ∃B,run (ax GC f9) 300 [.code dZ] (pq yv (.ptr 1 0 0) (.ptr 2 0 0) (.int .i64 (i:Int))) A=some (.normal (pq yv (.ptr 1 0 0) (.ptr 2 0 0) (.int .i64 ((i+1:Nat):Int))) B)/\I27 B (xs++[chO ys i]) p q r:=by
 obtain ⟨h1,v,h2,hv⟩:=hI
 have n1:=(List.getElem?_eq_some_iff.1 h1).1
 have n2:=(List.getElem?_eq_some_iff.1 h2).1
 have hlen:=hy.len
 rw [List.length_map] at hlen
 obtain ⟨b0,b1⟩:=b27 ys
 have b2:=bu i (nOf ys) .i64
 rw [decide_eq_true hi] at b2
 have b3:=bu i ys.length .i64
 have b4:=bc i (by have:=rD ys; omega)
 obtain ⟨N,hN⟩:∃n,n=A.length:=⟨_,rfl⟩
 have bx:aT 2 (.agg [.int .i64 0,.int .i64 0]) A=some (.ptr N 0 0,A++[.row 2 false [.agg [.int .i64 0,.int .i64 0]]]):=by rw [hN]; rfl
 have s0:∀a b c d,az 2 (A++[.row 2 false [.agg [.int .i64 a,.int .i64 b]]]) (.ptr N 0 0) (.agg [.int .i64 c,.int .i64 d])=some (A++[.row 2 false [.agg [.int .i64 c,.int .i64 d]]]):=fun a b c d=>by rw [hN]; simp [az,bp]
 have f0:∀a b:Int,ab 0 (A++[.row 2 false [.agg [.int .i64 a,.int .i64 b]]]) (.ptr N 0 0)=some (.ptr N 0 0):=fun a b=>by rw [hN]; simp [ab]
 have f1:∀a b:Int,ab 1 (A++[.row 2 false [.agg [.int .i64 a,.int .i64 b]]]) (.ptr N 0 0)=some (.ptr N 0 1):=fun a b=>by rw [hN]; simp [ab]
 have t0:∀a b c,az 1 (A++[.row 2 false [.agg [.int .i64 a,.int .i64 b]]]) (.ptr N 0 0) (.int .i64 c)=some (A++[.row 2 false [.agg [.int .i64 c,.int .i64 b]]]):=fun a b c=>by rw [hN]; simp [az,bp]
 have t1:∀a b c,az 1 (A++[.row 2 false [.agg [.int .i64 a,.int .i64 b]]]) (.ptr N 0 1) (.int .i64 c)=some (A++[.row 2 false [.agg [.int .i64 a,.int .i64 c]]]):=fun a b c=>by rw [hN]; simp [az,bp]
 have l1:∀a b:Int,ac false 1 (A++[.row 2 false [.agg [.int .i64 a,.int .i64 b]]]) (.ptr N 0 1)=some (.int .i64 b):=fun a b=>by rw [hN]; exact pO (es:=[.int .i64 a,.int .i64 b]) (k:=2) (by simp) rfl
 have l2:∀a b:Int,ac true 2 (A++[.row 2 false [.agg [.int .i64 a,.int .i64 b]]]) (.ptr N 0 0)=some (.agg [.int .i64 a,.int .i64 b]):=fun a b=>by rw [hN]; simp [ac]
 have c0:∀X,ab 0 (A++X) (.ptr 2 0 0)=some (.ptr 2 0 0):=fun X=>by
  have:(A++X)[2]?=some (.row 5 false [.agg [v,.int .i64 p,.int .i64 q,.int .i64 r,.int .i64 1]]):=by rw [List.getElem?_append_left n2]; exact h2
  simp [ab,this]
 have cl:∀X,ac false 1 (A++X) (.ptr 2 0 0)=some v:=fun X=>pO (es:=[v,.int .i64 p,.int .i64 q,.int .i64 r,.int .i64 1]) (k:=5) (by rw [List.getElem?_append_left n2]; exact h2) rfl
 obtain ⟨P1,P2,hch⟩:∃P1 P2,chO ys i=(P1,P2):=⟨_,_,rfl⟩
 rw [hch]
 obtain ⟨A1,hA1⟩:∃X,X=A++[Ent.row 2 false [.agg [.int .i64 P1,.int .i64 P2]]]:=⟨_,rfl⟩
 have hl1:A1.length=A.length+1:=by rw [hA1]; simp
 have hA1o:∀j,j<A.length->A1[j]?=A[j]?:=fun j hj=>by rw [hA1,List.getElem?_append_left hj]
 obtain ⟨v',A2,e1,e2,e3,e4,e5⟩:∃v' A2,aM 2 16 A1 v (.fs 2 [.agg [.int .i64 P1,.int .i64 P2]])=some (v',A2)/\Io A2 v' (xs++[(P1,P2)])/\(∀j,j<=2->A2[j]?=A[j]?)/\(∃a b,v'=.sl a 0 b/\2<a)/\2<A2.length:=by
  rcases hv with ⟨rfl,rfl⟩ | ⟨id,gr,rfl,hne,hid,hrow⟩
  ·refine ⟨.sl A1.length 0 1,A1++[.row 2 false [chA (P1,P2)]],by simp [aM,chA],.inr ⟨A1.length,false,rfl,by simp,by omega,by simp⟩,fun j hj=>?_,⟨_,_,rfl,by omega⟩,by simp; omega⟩
   rw [List.getElem?_append_left (by omega),hA1o j (by omega)]
  ·have hidl:=(List.getElem?_eq_some_iff.1 hrow).1
   have hz:xs.length≠0:=fun e=>hne (List.length_eq_zero_iff.1 e)
   have hb:(xs.length+1)*16<=140737488355328:=by omega
   have hrow1:A1[id]?=some (.row 2 gr (xs.map chA)):=by rw [hA1o id hidl]; exact hrow
   refine ⟨.sl id 0 (xs.length+1),A1.set id (.row 2 true (xs.map chA++[chA (P1,P2)])),by simp [aM,hrow1,hz,hb,chA],.inr ⟨id,true,by simp,by simp,hid,?_⟩,fun j hj=>?_,⟨_,_,rfl,hid⟩,by simp; omega⟩
   ·rw [List.getElem?_set_self (by omega),List.map_append]; rfl
   ·rw [List.getElem?_set_ne (by omega),hA1o j (by omega)]
 obtain ⟨ia,ib,rfl,hia⟩:=e4
 have c2:ab 0 A2 (.ptr 2 0 0)=some (.ptr 2 0 0):=by
  have:=e3 2 (by omega)
  rw [h2] at this
  simp [ab,this]
 have st:az 1 A2 (.ptr 2 0 0) (.sl ia 0 ib)=some (A2.set 2 (.row 5 false [.agg [.sl ia 0 ib,.int .i64 p,.int .i64 q,.int .i64 r,.int .i64 1]])):=by
  have:=e3 2 (by omega)
  rw [h2] at this
  simp [az,this,bp]
 refine ⟨A2.set 2 (.row 5 false [.agg [.sl ia 0 ib,.int .i64 p,.int .i64 q,.int .i64 r,.int .i64 1]]),?_,⟨by rw [List.getElem?_set_ne (by omega),e3 1 (by omega)]; exact h1,.sl ia 0 ib,by rw [List.getElem?_set_self e5],?_⟩⟩
 rotate_left
 ·rcases e2 with ⟨h,_⟩ | ⟨id,gr,e2,e6,e7,e8⟩
  ·cases h
  ·exact .inr ⟨id,gr,e2,e6,e7,by rw [List.getElem?_set_ne (by omega)]; exact e8⟩
 obtain ⟨B,hB⟩:∃X,X=A2.set 2 (.row 5 false [.agg [.sl ia 0 ib,.int .i64 p,.int .i64 q,.int .i64 r,.int .i64 1]]):=⟨_,rfl⟩
 rw [<-hB] at st ⊢
 have c1:=c0 [Ent.row 2 false [.agg [.int .i64 P1,.int .i64 P2]]]
 have cl1:=cl [Ent.row 2 false [.agg [.int .i64 P1,.int .i64 P2]]]
 have l2':=l2 P1 P2
 rw [<-hA1] at c1 cl1 l2'
 have hsl:bg 2 [.agg [.int .i64 P1,.int .i64 P2]]=some (.fs 2 [.agg [.int .i64 P1,.int .i64 P2]]):=rfl
 obtain ⟨ii,hii⟩:∃n,n=i+1:=⟨_,rfl⟩
 rw [<-hii] at b4 ⊢
 obtain ⟨nn,hnn⟩:∃n,n=nOf ys:=⟨_,rfl⟩
 rw [<-hnn] at b1 b2
 obtain ⟨mm,hmm⟩:∃n,n=min ys.length 4:=⟨_,rfl⟩
 rw [<-hmm] at b0 b1
 have A0d:∀a b,∃X,X=A++[Ent.row 2 false [.agg [.int .i64 a,.int .i64 b]]]:=fun a b=>⟨_,rfl⟩
 have u0:=s0 0 0 20 30
 obtain ⟨D0,hD0⟩:=A0d 0 0
 rw [<-hD0] at bx u0
 by_cases hc:i<ys.length
 ·rw [decide_eq_true hc] at b3
  obtain ⟨y,hye⟩:∃y,y=ys[i]:=⟨_,rfl⟩
  have hyy:yOf ys i=y:=by unfold yOf; rw [List.getD_eq_getElem?_getD,List.getElem?_eq_getElem hc,hye]; rfl
  have hyr:inI y.1/\inI y.2:=by rw [hye]; exact hys _ (List.getElem_mem hc)
  have yx:∀A,ai 2 A yv (.int .i64 (i:Int))=some (.fp [.int .i64 y.1,.int .i64 y.2]):=fun A=>by
   rw [hye]
   exact hy.index (A:=A) (x:=chA ys[i]) (by simp [hc]) rfl (by omega) .i64
  have y0:∀A,cZ 2 1 A (.fp [.int .i64 y.1,.int .i64 y.2]) (.int .i64 0)=some (.fp [.int .i64 y.1,.int .i64 y.2]):=fun A=>rfl
  have y1:∀A,cZ 2 1 A (.fp [.int .i64 y.1,.int .i64 y.2]) (.int .i64 1)=some (.fp [.int .i64 y.2]):=fun A=>rfl
  have z0:∀A,ac false 1 A (.fp [.int .i64 y.1,.int .i64 y.2])=some (.int .i64 y.1):=fun A=>rfl
  have z1:∀A,ac false 1 A (.fp [.int .i64 y.2])=some (.int .i64 y.2):=fun A=>rfl
  have m1:=cO hyr.1 (n:=60) (by omega)
  have m2:=cO hyr.2 (n:=50) (by omega)
  obtain ⟨q0,q1⟩:=tz hyr.2 (b:=50) (by omega)
  have m3:=cO q1 (n:=3) (by omega)
  have hcc:=hch
  unfold chO IF at hcc
  rw [if_pos hc,hyy] at hcc
  injection hcc with e1' e2'
  have r1:=de y.2 50 (by omega)
  have b5:ag .add (.int .i64 (pick y.2 50)) (.int .i64 200)=some (.int .i64 (pick y.2 50+200)):=ba (by omega)
  have b6:=bn (pick (y.2.tdiv 50) 3) 0
  rw [e1'] at m1
  obtain ⟨S,hS⟩:∃S,S=pick y.2 50:=⟨_,rfl⟩
  rw [<-hS] at m2 e2' b5
  have u1:=f0 20 30
  have u2:=t0 20 30 P1
  have u3:=f1 P1 30
  have u4:=t1 P1 30 S
  obtain ⟨D1,hD1⟩:=A0d 20 30
  rw [<-hD1] at u0 u1 u2
  obtain ⟨D2,hD2⟩:=A0d P1 30
  rw [<-hD2] at u2 u3 u4
  generalize y.2.tdiv 50=Q at *
  generalize pick Q 3=R at *
  by_cases hR:R=0
  ·rw [if_pos hR] at e2'
   rw [decide_eq_true hR] at b6
   rw [e2'] at b5
   have u5:=f1 P1 S
   have u6:=l1 P1 S
   have u7:=t1 P1 S P2
   rw [<-hA1] at u7
   obtain ⟨D3,hD3⟩:=A0d P1 S
   rw [<-hD3] at u4 u5 u6 u7
   simp [dZ,hlen,b0,b1,b2,b3,b4,b5,b6,bx,yx,y0,y1,z0,z1,u0,u1,u2,u3,u4,u5,u6,u7,q0,m1,m2,m3,hsl,c1,cl1,l2',e1,c2,st,aI,-fh,-gQ,-ag,-ac,-az,-ab,-ai,-aq,-bg,-aT,-frz]
  ·rw [if_neg hR] at e2'
   rw [decide_eq_false hR] at b6
   subst e2'
   rw [<-hA1] at u4
   simp [dZ,hlen,b0,b1,b2,b3,b4,b6,bx,yx,y0,y1,z0,z1,u0,u1,u2,u3,u4,q0,m1,m2,m3,hsl,c1,cl1,l2',e1,c2,st,aI,-fh,-gQ,-ag,-ac,-az,-ab,-ai,-aq,-bg,-aT,-frz]
 ·rw [decide_eq_false hc] at b3
  have hcc:=hch
  unfold chO at hcc
  rw [if_neg hc] at hcc
  injection hcc with e1' e2'
  subst e1'; subst e2'
  rw [<-hA1] at u0
  simp [dZ,hlen,b0,b1,b2,b3,b4,bx,u0,hsl,c1,cl1,l2',e1,c2,st,-fh,-gQ,-ag,-ac,-az,-ab,-ai,-aq,-bg,-aT,-frz]
theorem FZ {ys:List (Int × Int)} (hys:∀y∈ys,inI y.1/\inI y.2) {yv:AV} (hy:SlA 2 (ys.map chA) yv) {p q r:Int}:∀(c i:Nat) (A:aa) (m:Nat),i+c=nOf ys->I27 A ((List.range i).map (chO ys)) p q r->c<m ->
  ∃B,cc (evC (ax GC f9) 300 dZ) mR m (pq yv (.ptr 1 0 0) (.ptr 2 0 0) (.int .i64 (i:Int))) A=some (.exit 0 ((pq yv (.ptr 1 0 0) (.ptr 2 0 0) (.int .i64 (nOf ys:Int))).set 7 (.bool false)) B)/\I27 B ((List.range (nOf ys)).map (chO ys)) p q r:=by
 have hn4:=rD ys
 intro c
 induction c with
 | zero=>
  intro i A m hi hI hm
  obtain ⟨m,rfl⟩:∃j,m=j+1:=⟨m-1,by omega⟩
  obtain rfl:i=nOf ys:=by omega
  refine ⟨A,?_,hI⟩
  have hlen:=hy.len
  rw [List.length_map] at hlen
  obtain ⟨b0,b1⟩:=b27 ys
  have b2:=bu (nOf ys) (nOf ys) .i64
  rw [decide_eq_false (by omega)] at b2
  obtain ⟨mm,hmm⟩:∃n,n=min ys.length 4:=⟨_,rfl⟩
  rw [<-hmm] at b0 b1
  rw [aQ,yL]
  simp [dZ,hlen,b0,b1,b2,-ag,-fh,-gQ,-aq]
 | succ c ih=>
  intro i A m hi hI hm
  obtain ⟨m,rfl⟩:∃j,m=j+1:=⟨m-1,by omega⟩
  obtain ⟨B,h1,h2⟩:=tw hys hy hI (i:=i) (by omega) (by simp; omega)
  have e:(List.range i).map (chO ys)++[chO ys i]=(List.range (i+1)).map (chO ys):=by rw [List.range_succ,List.map_append]; rfl
  rw [e] at h2
  obtain ⟨C,h3,h4⟩:=ih (i+1) B m (by omega) h2 (by omega)
  refine ⟨C,?_,h4⟩
  rw [aQ,yL,h1]
  exact h3
def M27:aO:=fun args=>evP (ax GC f9) 300 As 4 args
theorem ro:aw Try.prog GC 27 M27:=aw.of_ev (E:=ax GC f9) (au nC) rfl Lm yB 4 fun _ _ h=>⟨300,h⟩
theorem AX {A:aa} {v:AV} {xs:List (Int × Int)} (h:Io A v xs) (k:Nat):frz A (k+3) v=slA 2 (xs.map chA):=by
 rcases h with ⟨rfl,rfl⟩ | ⟨id,gr,rfl,hne,_,hr⟩
 ·rfl
 ·have e:((xs.map chA).drop 0).take xs.length=xs.map chA:=by
   rw [List.drop_zero]
   conv=>lhs; rw [show xs.length=(xs.map chA).length by simp]
   rw [List.take_length]
  have hm:(xs.map chA).map (frz A (k+2))=xs.map chA:=by
   rw [List.map_map]
   exact List.map_congr_left fun x _=>by simp [chA,frz]
  rw [show k+3=(k+2)+1 from rfl]
  simp only [frz,hr]
  rw [e,hm]
  cases xs with
  | nil=>exact absurd rfl hne
  | cons x r=>rfl
def mkA (ys:List (Int × Int)) (a b c:Int):AV:=an (mkT ys a b c) (slA 2 ((mkT ys a b c).ch.map chA))
theorem vF {ys:List (Int × Int)} (hys:∀y∈ys,inI y.1/\inI y.2) {yv:AV} (hy:SlA 2 (ys.map chA) yv) {a b c:Int} (ha:inI a) (hb:inI b) (hc:inI c):M27 [yv,.agg [.int .i64 a,.int .i64 b,.int .i64 c]]=some (mkA ys a b c):=by
 have m1:=cO ha (n:=4) (by omega)
 have m2:=cO hb (n:=4) (by omega)
 have m3:=cO hc (n:=5) (by omega)
 have hmk:mkA ys a b c=.agg [slA 2 (((List.range (nOf ys)).map (chO ys)).map chA),.int .i64 (pick a 4),.int .i64 (pick b 4),.int .i64 (pick c 5),.int .i64 1]:=rfl
 rw [hmk]
 obtain ⟨q1,h1⟩:∃z,z=pick a 4:=⟨_,rfl⟩
 obtain ⟨q2,h2⟩:∃z,z=pick b 4:=⟨_,rfl⟩
 obtain ⟨q3,h3⟩:∃z,z=pick c 5:=⟨_,rfl⟩
 rw [<-h1] at m1 ⊢
 rw [<-h2] at m2 ⊢
 rw [<-h3] at m3 ⊢
 obtain ⟨B,lp,⟨k1,v,k2,k3⟩⟩:=FZ hys hy (p:=q1) (q:=q2) (r:=q3) (nOf ys) 0 [.row 3 false [.agg [.int .i64 a,.int .i64 b,.int .i64 c]],.row 5 false [.agg [.nilS,.int .i64 0,.int .i64 0,.int .i64 0,.int .i64 0]],.row 5 false [.agg [.nilS,.int .i64 q1,.int .i64 q2,.int .i64 q3,.int .i64 1]]] 300 (by omega) ⟨rfl,.nilS,rfl,.inl ⟨rfl,rfl⟩⟩ (by have:=rD ys; omega)
 rw [show ((0:Nat):Int)=0 from rfl] at lp
 have e1:ac true 5 B (.ptr 2 0 0)=some (.agg [v,.int .i64 q1,.int .i64 q2,.int .i64 q3,.int .i64 1]):=by simp [ac,k2]
 have kl:=(List.getElem?_eq_some_iff.1 k1).1
 have st:az 5 B (.ptr 1 0 0) (.agg [v,.int .i64 q1,.int .i64 q2,.int .i64 q3,.int .i64 1])=some (B.set 1 (.row 5 false [.agg [v,.int .i64 q1,.int .i64 q2,.int .i64 q3,.int .i64 1]])):=by simp [az,k1,bp]
 have k3':Io (B.set 1 (.row 5 false [.agg [v,.int .i64 q1,.int .i64 q2,.int .i64 q3,.int .i64 1]])) v ((List.range (nOf ys)).map (chO ys)):=by
  rcases k3 with k3 | ⟨id,gr,a,b,c,d⟩
  ·exact .inl k3
  ·exact .inr ⟨id,gr,a,b,c,by rw [List.getElem?_set_ne (by omega)]; exact d⟩
 have f1:=AX k3' 0
 have e2:ac true 5 (B.set 1 (.row 5 false [.agg [v,.int .i64 q1,.int .i64 q2,.int .i64 q3,.int .i64 1]])) (.ptr 1 0 0)=some (.agg [v,.int .i64 q1,.int .i64 q2,.int .i64 q3,.int .i64 1]):=by simp [ac,kl]
 obtain ⟨C,hC⟩:∃X,X=B.set 1 (.row 5 false [.agg [v,.int .i64 q1,.int .i64 q2,.int .i64 q3,.int .i64 1]]):=⟨_,rfl⟩
 rw [<-hC] at st e2 f1
 have F1:frz C 4 (.agg [v,.int .i64 q1,.int .i64 q2,.int .i64 q3,.int .i64 1])=.agg [slA 2 (((List.range (nOf ys)).map (chO ys)).map chA),.int .i64 q1,.int .i64 q2,.int .i64 q3,.int .i64 1]:=by
  rw [<-f1]; rfl
 rw [hC] at F1
 have k1g:B[1]=.row 5 false [.agg [.nilS,.int .i64 0,.int .i64 0,.int .i64 0,.int .i64 0]]:=by
  rw [List.getElem?_eq_getElem kl] at k1; injection k1
 unfold M27
 rw [aJ _ _ rfl]
 simp [As,cZ,m1,m2,m3,aI,Gj lp,k1g,k2,kl,F1,-frz,-ag]
end Tr
namespace Tr
open Go
open Cy (GC aI bb aB cO)
open Clu (aR a0 an chA ba dH cC cT bn cF aV b7)
def rdO (xs:List Int) (i:Nat):Int:=if i<xs.length/\0<pick (xs.getD i 0) 4 then pick ((xs.getD i 0).tdiv 4) 120 else -1
def rdM (n:Nat) (xs:List Int):List Int:=(List.range n).map (rdO xs)
theorem je (n:Nat) (xs:List Int):(rdM n xs).length=n:=by simp [rdM]
def rI (f:Nat->Int) (n i:Nat):List Int:=(List.range i).map f++List.replicate (n-i) 0
theorem Bq (f:Nat->Int) {n i:Nat} (h:i<=n):(rI f n i).length=n:=by simp [rI]; omega
theorem Bp (f:Nat->Int) {n i:Nat} (h:i<n):(rI f n i).set i (f i)=rI f n (i+1):=by
 unfold rI
 rw [List.set_append_right _ _ (by simp)]
 obtain ⟨m,hm⟩:∃m,n-i=m+1:=⟨n-i-1,by omega⟩
 rw [hm,show n-(i+1)=m by omega,List.range_succ]
 simp [List.replicate_succ]
theorem DI (f:Nat->Int) (n:Nat):rI f n n=(List.range n).map f:=by simp [rI]
theorem DH (f:Nat->Int) (n:Nat):rI f n 0=List.replicate n 0:=by simp [rI]
def M28:aO:=fun args=>evP (ax GC f9) 300 FO 4 args
theorem Fr:aw Try.prog GC 28 M28:=aw.of_ev (E:=ax GC f9) (au nC) rfl Mt B9 4 fun _ _ h=>⟨300,h⟩
def A28 (tv:AV) (l:List Int):aa:=[.row 5 false [tv],.row 1 false (ak l)]
theorem tt {tv:AV} {xs:List Int} {xv:AV} (hx:SlA 1 (ak xs) xv) (hxi:∀z∈xs,inI z) {n i:Nat} (hn:n<=100) (hi:i<n) :
  run (ax GC f9) 300 [.code eC] (iJ xv (.sl 1 0 n) (.int .i64 (i:Int))) (A28 tv (rI (rdO xs) n i))=some (.normal (iJ xv (.sl 1 0 n) (.int .i64 ((i+1:Nat):Int))) (A28 tv (rI (rdO xs) n (i+1)))):=by
 have hr:∀l,(A28 tv l)[1]?=some (.row 1 false (ak l)):=fun l=>rfl
 have hset:∀l l',(A28 tv l).set 1 (.row 1 false (ak l'))=A28 tv l':=fun l l'=>rfl
 have hl:=Bq (rdO xs) (n:=n) (i:=i) (by omega)
 have hll:=hx.len
 rw [aB] at hll
 have b0:=bu i n .i64
 rw [decide_eq_true hi] at b0
 have b1:=bu i xs.length .i64
 have b2:=bc i (by omega)
 have hS:aq (.sl 1 0 n)=some (.int .i64 (n:Int)):=rfl
 have i0:=dD (n:=n) (hr (rI (rdO xs) n i)) hi .i64
 have s0:=iI (hr (rI (rdO xs) n i)) (show i<(rI (rdO xs) n i).length by omega) (-1)
 rw [hset] at s0
 obtain ⟨L1,hL1⟩:∃L,L=(rI (rdO xs) n i).set i (-1):=⟨_,rfl⟩
 rw [<-hL1] at s0
 have hl1:L1.length=n:=by rw [hL1,List.length_set,hl]
 have i1:=dD (n:=n) (hr L1) hi .i64
 have ii:∃j,j=i+1:=⟨_,rfl⟩
 obtain ⟨j,hj⟩:=ii
 have e0:=Bp (rdO xs) hi
 rw [<-hj] at b2 e0 ⊢
 by_cases hc:i<xs.length
 ·rw [decide_eq_true hc] at b1
  obtain ⟨y,hy⟩:∃y,y=xs[i]:=⟨_,rfl⟩
  have hyg:xs.getD i 0=y:=by rw [List.getD_eq_getElem?_getD,List.getElem?_eq_getElem hc,hy]; rfl
  have hyi:inI y:=by rw [hy]; exact hxi _ (List.getElem_mem hc)
  have x1:∀A,ai 1 A xv (.int .i64 (i:Int))=some (.fp [.int .i64 y]):=fun A=>by
   rw [hy]
   exact hx.index1 (A:=A) (x:=.int .i64 xs[i]) (i:=i) (by simp [ak,hc]) rfl rfl .i64
  have l1:∀A,ac false 1 A (.fp [.int .i64 y])=some (.int .i64 y):=fun A=>rfl
  have m1:=cO hyi (n:=4) (by omega)
  obtain ⟨q0,q1⟩:=tz hyi (b:=4) (by omega)
  have m2:=cO q1 (n:=120) (by omega)
  have b3:=cF (pick y 4) 0
  have ef:rdO xs i=if 0<pick y 4 then pick (y.tdiv 4) 120 else -1:=by
   unfold rdO
   rw [hyg]
   by_cases h:0<pick y 4
   ·rw [if_pos ⟨hc,h⟩,if_pos h]
   ·rw [if_neg (fun hh=>h hh.2),if_neg h]
  generalize y.tdiv 4=Q at *
  generalize pick y 4=R at *
  generalize pick Q 120=V at *
  by_cases hR:0<R
  ·rw [if_pos hR] at ef
   rw [decide_eq_true hR] at b3
   have s1:=iI (hr L1) (show i<L1.length by omega) V
   rw [hset,hL1,List.set_set,<-hL1,<-ef,e0] at s1
   rw [ef] at s1
   generalize A28 tv (rI (rdO xs) n i)=B0 at *
   generalize A28 tv L1=B1 at *
   generalize A28 tv (rI (rdO xs) n j)=B2 at *
   simp [eC,hll,hS,b0,b1,b2,b3,i0,s0,i1,s1,x1,l1,q0,m1,m2,aI,-ag,-ac,-az,-ai,-aq,-frz]
  ·rw [if_neg hR] at ef
   rw [decide_eq_false hR] at b3
   rw [hL1,<-ef,e0] at s0
   rw [ef] at s0
   generalize A28 tv (rI (rdO xs) n i)=B0 at *
   generalize A28 tv (rI (rdO xs) n j)=B2 at *
   simp [eC,hll,hS,b0,b1,b2,b3,i0,s0,x1,l1,m1,aI,-ag,-ac,-az,-ai,-aq,-frz]
 ·rw [decide_eq_false hc] at b1
  have ef:rdO xs i = -1:=by unfold rdO; rw [if_neg (fun h=>hc h.1)]
  rw [hL1,<-ef,e0] at s0
  rw [ef] at s0
  generalize A28 tv (rI (rdO xs) n i)=B0 at *
  generalize A28 tv (rI (rdO xs) n j)=B2 at *
  simp [eC,hll,hS,b0,b1,b2,i0,s0,-ag,-ac,-az,-ai,-aq,-frz]
theorem loop28 {tv:AV} {xs:List Int} {xv:AV} (hx:SlA 1 (ak xs) xv) (hxi:∀z∈xs,inI z) {n:Nat} (hn:n<=100):∀(c i m:Nat),i+c=n->c<m ->
  cc (evC (ax GC f9) 300 eC) jS m (iJ xv (.sl 1 0 n) (.int .i64 (i:Int))) (A28 tv (rI (rdO xs) n i))=some (.exit 0 ((iJ xv (.sl 1 0 n) (.int .i64 (n:Int))).set 6 (.bool false)) (A28 tv (rI (rdO xs) n n))):=by
 intro c
 induction c with
 | zero=>
  intro i m hi hm
  obtain ⟨m,rfl⟩:∃j,m=j+1:=⟨m-1,by omega⟩
  obtain rfl:i=n:=by omega
  have b2:=bu i i .i64
  rw [decide_eq_false (by omega)] at b2
  rw [aQ,sq]
  simp [eC,b2,-ag]
 | succ c ih=>
  intro i m hi hm
  obtain ⟨m,rfl⟩:∃j,m=j+1:=⟨m-1,by omega⟩
  rw [aQ,sq,tt hx hxi hn (by omega)]
  exact ih (i+1) m (by omega) (by omega)
def EN:List (FuncId × aG):=[(27,aD 4 M27),(28,aD 4 M28),(21,aD 4 Cy.M12)]
@[simp] theorem KJ:aC EN 27=some (aD 4 M27):=rfl
@[simp] theorem KI:aC EN 28=some (aD 4 M28):=rfl
@[simp] theorem KL:aC EN 21=some (aD 4 Cy.M12):=rfl
theorem Dn:∀f M,aC EN f=some M->aj Try.prog GC f M:=ae (aj.of_pure ro 4) (ae (aj.of_pure Fr 4) (ae (aj.of_pure Cy.w6 4) aA))
def M13:aO:=fun args=>evP (ax GC EN) 300 mf13 4 args
theorem Fu:aw Try.prog GC 13 M13:=aw.of_ev (E:=ax GC EN) (au Dn) rfl at13 comp13 4 fun _ _ h=>⟨300,h⟩
structure XC where
 ys:List (Int × Int)
 a:Int
 b:Int
 c:Int
 rd:List Int
 free:Int
structure XV (x:XC) (yv rv:AV):Prop where
 y:SlA 2 (x.ys.map chA) yv
 yi:∀y∈x.ys,inI y.1/\inI y.2
 a:inI x.a
 b:inI x.b
 c:inI x.c
 r:SlA 1 (ak x.rd) rv
 ri:∀z∈x.rd,inI z
 f:inI x.free
def XC.A (x:XC) (yv rv:AV):AV:=.agg [yv,.int .i64 x.a,.int .i64 x.b,.int .i64 x.c,rv,.int .i64 x.free]
def XC.T (x:XC):aR:=mkT x.ys x.a x.b x.c
def XC.n (x:XC):Nat:=x.T.ch.length
def XC.R (x:XC):List Int:=rdM x.n x.rd
def XC.F (x:XC):Int:=pick x.free 60
def XC.ch (x:XC):AV:=slA 2 (x.T.ch.map chA)
def XC.tv (x:XC):AV:=an x.T x.ch
theorem XC.nb (x:XC):1<=x.n/\x.n<=4:=by
 have:=rD x.ys
 unfold XC.n XC.T
 rw [xw]
 exact this
theorem XC.chS (x:XC):SlA 2 (x.T.ch.map chA) x.ch:=a9 _ _
theorem XC.chl (x:XC):x.T.ch.length<=200:=by have:=x.nb; unfold XC.n at this; omega
theorem XC.Rl (x:XC):x.R.length<=200:=by have:=x.nb; rw [XC.R,je]; omega
theorem XC.tfrz (x:XC) (A:aa):frz A 4 x.tv=x.tv:=aV (fun A n=>x.chS.frz (A:=A) n) A 3
theorem XC.tref (x:XC):bo 4 x.tv=true:=b7 (fun n=>x.chS.noRef n) 3
end Tr
namespace Tr
open Go
open Cy (GC aI bb aB cO lvM dX rH sT)
open Clu (aR a0 cn Chk oN an chA pC gv pd gj y9 nF jc)
def EC:aO:=fun args=>evF (ax GC ((14,H14 0) :: ga)) 300 kM 4 args
theorem CU:bT Try.prog GC 14 EC:=bT.of_ev (E:=ax GC ((14,H14 0) :: ga)) (au qo) rfl A6 kA 4 fun _ _ h=>⟨300,h⟩
theorem pX (B:aa) (n:Nat) (t:c9):aW B (n+1) (aP t)=true:=by simp [aP,aW]
theorem EB {T:aR} {chv rdv:AV} {rd:List Int} {free lost:Int} (hb:SlA 2 (T.ch.map chA) chv) (hr:SlA 1 (ak rd) rdv) (hTl:T.ch.length<=200) (hrl:rd.length<=200) :
  ∃v,EC [an T chv,rdv,.int .i64 free,.int .i64 lost]=some (.tup [v,.bool (cM T rd free lost).isSome])/\SlA 2 (((cM T rd free lost).getD []).map aP) v:=by
 have hT:Tl [] T chv chv:=⟨.inl hb,fun X=>Clu.aV (fun A n=>hb.frz (A:=A) n) _ 3,hb⟩
 have hR:Rl [] rd rdv rdv:=⟨.inl hr,fun X=>hr.frz 4,hr⟩
 obtain ⟨v,B,h1,_,h2⟩:=ky (free:=free) (lost:=lost) hT hR hTl hrl
 obtain ⟨v',k1,k2⟩:=mp (free:=free) (lost:=lost) hb hr hTl hrl
 refine ⟨v',?_,k2⟩
 unfold M14 evP at k1
 rw [h1] at k1
 simp only [Option.map_some] at k1
 unfold EC evF
 rw [h1]
 simp only [Option.bind_some]
 rw [if_pos]
 ·exact k1
 ·rcases h2 with ⟨rfl,_⟩ | ⟨i,_,rfl,hrow⟩
  ·rfl
  ·have:aW B 3 (.sl i 0 ((cM T rd free lost).getD []).length)=true:=by
    simp only [aW,hrow]
    rw [List.all_eq_true]
    intro y hy
    obtain ⟨t,_,rfl⟩:=List.mem_map.1 (List.mem_of_mem_drop (List.mem_of_mem_take hy))
    exact pX B 1 t
   show (aW B 3 _ && (aW B 3 (.bool _) && true))=true
   rw [this]; rfl
def fsL:List (FuncId × aG):=[(11,aD 4 M11),(13,aD 4 M13),(14,cq 4 EC),(16,aD 4 M16),(17,aD 4 M17),(21,aD 4 Cy.M12),(22,aD 4 M22),(23,aD 4 Clu.M22),(24,aD 4 M24),(25,aD 4 M25)]
@[simp] theorem Mh:aC fsL 11=some (aD 4 M11):=rfl
@[simp] theorem Mg:aC fsL 13=some (aD 4 M13):=rfl
@[simp] theorem Me:aC fsL 14=some (cq 4 EC):=rfl
@[simp] theorem Md:aC fsL 16=some (aD 4 M16):=rfl
@[simp] theorem Mc:aC fsL 17=some (aD 4 M17):=rfl
@[simp] theorem Mb:aC fsL 21=some (aD 4 Cy.M12):=rfl
@[simp] theorem Ma:aC fsL 22=some (aD 4 M22):=rfl
@[simp] theorem L9:aC fsL 23=some (aD 4 Clu.M22):=rfl
@[simp] theorem L8:aC fsL 24=some (aD 4 M24):=rfl
@[simp] theorem L7:aC fsL 25=some (aD 4 M25):=rfl
theorem Fw:∀f M,aC fsL f=some M->aj Try.prog GC f M:=ae (aj.of_pure Fv 4) (ae (aj.of_pure Fu 4) (ae (aj.of_pureF CU 4) (ae (aj.of_pure lG 4) (ae (aj.of_pure rp 4) (ae (aj.of_pure Cy.w6 4) (ae (aj.of_pure uw 4) (ae (aj.of_pure Clu.uw 4) (ae (aj.of_pure uv 4) (ae (aj.of_pure Bn 4) aA)))))))))
@[simp] theorem LR:M11 []=some (.bool true):=rfl
theorem CL {x:AV} {n:Nat} (h:TA Try.prog (n+2) 46 x):∃y:Int × Int,x=chA y/\inI y.1/\inI y.2:=by
 obtain ⟨ls,rfl,hc,hl⟩:=TA.agg (show q7 Try.prog 46=true by kernel_rfl) h
 simp only [TC,Try.underlying46] at hc
 rw [show Try.prog.cellsOf 3=1 by kernel_rfl] at hc
 simp only [TCa,Try.underlying3] at hc
 obtain ⟨_,_,rfl,⟨a,rfl,ha⟩,_,_,_,rfl,⟨b,rfl,hb⟩,_,rfl⟩:=hc
 exact ⟨(a,b),rfl,ha,hb⟩
theorem zY {raw:AV} {n:Nat} (h:TA Try.prog (n+3) 27 raw):∃ys:List (Int × Int),SlA 2 (ys.map chA) raw/\(∀y∈ys,inI y.1/\inI y.2)/\ys.length<=9223372036854775807:=by
 obtain ⟨es,h1,h2,h3⟩:=TA.sl Try.underlying27 h
 rw [show Try.prog.cellsOf 46=2 by kernel_rfl] at h1
 obtain ⟨ys,rfl,hy⟩:=f6 (f:=chA) (p:=fun y=>inI y.1/\inI y.2) fun x hx=>CL (n:=n) (h3 x hx)
 exact ⟨ys,h1,hy,by simpa using h2⟩
theorem AF {x:AV} {n:Nat} (h:TA Try.prog (n+1) 25 x):∃zs:List Int,SlA 1 (ak zs) x/\zs.length<=9223372036854775807/\∀z∈zs,inI z:=
 TA.ints Try.underlying25 Try.underlying3 (by kernel_rfl) h
theorem xJ {ls:List AV} {n:Nat} (h:TC Try.prog (n+1) 25 ls) (hl:ls.length=Try.prog.cellsOf 25):∃(x:AV) (zs:List Int),ls=[x]/\SlA 1 (ak zs) x/\zs.length<=9223372036854775807/\∀z∈zs,inI z:=by
 rw [show Try.prog.cellsOf 25=1 by kernel_rfl] at hl
 obtain ⟨x,rfl⟩:=List.length_eq_one_iff.1 hl
 obtain ⟨zs,h1,h2,h3⟩:=AF (n:=n) (x:=x) ⟨[x],h,by rw [show Try.prog.cellsOf 25=1 by kernel_rfl]; rfl,by
  unfold fD
  rw [if_neg (by rw [show q7 Try.prog 25=false by kernel_rfl]; simp)]; rfl⟩
 exact ⟨x,zs,rfl,h1,h2,h3⟩
theorem wL {ls:List AV} {n:Nat} (h:TC Try.prog (n+3) 27 ls) (hl:ls.length=Try.prog.cellsOf 27):∃(x:AV) (ys:List (Int × Int)),ls=[x]/\SlA 2 (ys.map chA) x/\∀y∈ys,inI y.1/\inI y.2:=by
 rw [show Try.prog.cellsOf 27=1 by kernel_rfl] at hl
 obtain ⟨x,rfl⟩:=List.length_eq_one_iff.1 hl
 obtain ⟨zs,h1,h2,h3⟩:=zY (n:=n) (raw:=x) ⟨[x],h,by rw [show Try.prog.cellsOf 27=1 by kernel_rfl]; rfl,by
  unfold fD
  rw [if_neg (by rw [show q7 Try.prog 27=false by kernel_rfl]; simp)]; rfl⟩
 exact ⟨x,zs,rfl,h1,h2⟩
theorem vJ {ls:List AV} {n:Nat} (h:TC Try.prog (n+2) 28 ls):∃a b c:Int,ls=[.int .i64 a,.int .i64 b,.int .i64 c]/\inI a/\inI b/\inI c:=by
 simp only [TC,Try.underlying28] at h
 rw [show Try.prog.cellsOf 3=1 by kernel_rfl] at h
 simp only [TCa,Try.underlying3] at h
 obtain ⟨_,_,rfl,⟨a,rfl,ha⟩,_,_,_,rfl,⟨b,rfl,hb⟩,_,_,_,rfl,⟨c,rfl,hc⟩,_,rfl⟩:=h
 exact ⟨a,b,c,rfl,ha,hb,hc⟩
theorem A4 {x:AV} {n:Nat} (h:TA Try.prog (n+5) 30 x):∃X yv rv,x=XC.A X yv rv/\XV X yv rv:=by
 obtain ⟨ls,rfl,hc,hl⟩:=TA.agg (show q7 Try.prog 30=true by kernel_rfl) h
 rw [show n+5=(n+4)+1 from rfl] at hc
 unfold TC at hc
 rw [Try.underlying30] at hc
 simp only [TCs] at hc
 obtain ⟨a,_,rfl,ha,la,b,_,rfl,hb,lb,c,_,rfl,hc,lc,d,_,rfl,hd,ld,rfl⟩:=hc
 obtain ⟨yv,ys,rfl,y1,y2⟩:=wL (n:=n+1) ha la
 obtain ⟨p,q,r,rfl,p1,q1,r1⟩:=vJ (n:=n+2) hb
 obtain ⟨rv,zr,rfl,s1,s2,s3⟩:=xJ (n:=n+3) hc lc
 simp only [TC,Try.underlying3] at hd
 obtain ⟨z,rfl,hz⟩:=hd
 exact ⟨⟨ys,p,q,r,zr,z⟩,yv,rv,rfl,y1,y2,p1,q1,r1,s1,s3,hz⟩
theorem ownK:ownKnob Try.prog.godebug=none:=by kernel_rfl
theorem I6 {W:World} {OK:Nat->Prop}:CG GC W OK:=fun gl cs h=>by simp [GC] at h
def nY (os:Os):World:=World.holding Try.prog os ⟨#[],#[],[]⟩
end Tr
namespace Tr
open Go
end Tr
namespace Tr
open Go
open Cy (GC aI bb aB cO)
open Clu (aR a0 cn Chk oN an chA pC gv pd gj jc ba cf dH cC cT bn cF)
abbrev zT:AV:=.agg [.nilS,.int .i64 0,.int .i64 0,.int .i64 0,.int .i64 0]
abbrev zSA:AV:=.agg [.int .i64 0,.nilS,.nilS,.nilS]
theorem Ew {x:XC} {yv rv:AV} (X:aa):ac true 6 (.row 6 false [x.A yv rv] :: X) (.ptr 0 0 0)=some (x.A yv rv):=rfl
theorem Hp {x:XC} {yv rv:AV}:aT 6 (x.A yv rv) []=some (.ptr 0 0 0,[.row 6 false [x.A yv rv]]):=rfl
def B0 (x:XC) (yv rv:AV):aa:=[.row 6 false [x.A yv rv],.row 5 false [x.tv]]
end Tr
namespace Tr
open Go
end Tr
namespace Tr
open Go
open Cy (GC aI bb aB cO)
open Clu (aR a0 tC cn Chk oN an chA pC gv pd gj jc ba cf dH cC cT bn cF dO aV b7)
section
variable {A:aa} {id:Nat} {cs:List (Int × Int)}
theorem IZ {n:Nat} {g:Bool} {es:List AV} (h:A[id]?=some (.row 2 g es)) {k:Nat} (hk:k<n):ai 2 A (.sl id 0 n) (.int .i64 (k:Int))=some (.ptr id k 0):=by
 simp only [ai,h]
 rw [if_pos ⟨trivial,by omega,by omega,by omega⟩]
 simp
end
end Tr
namespace Tr
open Go
open Cy (GC aI bb aB cO)
open Clu (aR a0 tC cn Chk oN an chA ba cf dH cC cT bn cF dO aV b7)
theorem mX {A:aa} {id:Nat} {g:Bool} {l:List Int} {n:Nat} (h:A[id]?=some (.row 1 g (ak l))) (hn:n=l.length) (k:Nat):frz A (k+2) (.sl id 0 n)=.fs 1 (ak l):=by
 have:=dT (off:=0) (xs:=ak l) h (by rw [List.drop_zero]; exact List.take_of_length_le (Nat.le_refl _)) (fun k x hx=>by
  obtain ⟨c,_,rfl⟩:=List.mem_map.1 hx
  exact aI _ _ _ _) k
 rw [hn,<-aB l]; exact this
end Tr
namespace Tr
namespace Fa
open Go
def mf13:cy:=⟨1,6,.seq (.region [⟨some 1,.box (.var 0),none⟩,⟨some 2,.alloc 5 (.agg [.nilS,.int .i64 0,.int .i64 0,.int .i64 0,.int .i64 0]),none⟩,⟨some 3,.mv (.cst .nilS),none⟩,⟨some 4,.mv (.cst (.int .i64 0)),none⟩]) (.seq (.region [⟨none,.fieldAddr 0 (.var 1),none⟩,⟨none,.load false 1 (.tmp 0),none⟩,⟨none,.fieldAddr 1 (.var 1),none⟩,⟨none,.load true 3 (.tmp 2),none⟩,⟨none,.call (.fn 27) [.tmp 1,.tmp 3],none⟩,⟨some 5,.alloc 5 (.agg [.nilS,.int .i64 0,.int .i64 0,.int .i64 0,.int .i64 0]),none⟩,⟨none,.store 5 (.var 5) (.tmp 4),none⟩]) (.seq (.regionD [21] [⟨none,.load true 5 (.var 5),none⟩,⟨none,.load true 5 (.var 5),none⟩,⟨none,.fieldAddr 4 (.var 1),none⟩,⟨none,.load false 1 (.tmp 2),none⟩,⟨none,.call (.fn 28) [.tmp 1,.tmp 3],none⟩,⟨none,.fieldAddr 5 (.var 1),none⟩,⟨none,.load false 1 (.tmp 5),none⟩,⟨none,.call (.fn 21) [.tmp 6,.cst (.int .i64 60)],none⟩,⟨none,.store 5 (.var 2) (.tmp 0),none⟩,⟨some 3,.mv (.tmp 4),none⟩,⟨some 4,.mv (.tmp 7),none⟩] [(0,4),(4,5),(4,6)]) .ret)),[.cell 2 true 5,.tmp 3,.tmp 4]⟩
theorem comp13:aE Try.prog Try.f13 1 [0,1,2,3,4,5] [21] true ([],[])=some mf13:=by kernel_rfl
theorem at13:Try.prog.funcs[13]?=some Try.f13:=by kernel_rfl
end Fa
end Tr
namespace Tr
namespace Fa
open Go
open Cy (GC aI bb aB cO)
open Clu (aR a0 an chA ba dH cC cT bn cF aV b7)
def A28 (P:aa) (tv:AV) (l:List Int):aa:=P++[.row 5 false [tv],.row 1 false (ak l)]
theorem r28 (P:aa) (tv:AV) (l:List Int):(A28 P tv l)[P.length+1]?=some (.row 1 false (ak l)):=by
 unfold A28
 rw [List.getElem?_append_right (by omega)]
 simp
theorem s28 (P:aa) (tv:AV) (l l':List Int):(A28 P tv l).set (P.length+1) (.row 1 false (ak l'))=A28 P tv l':=by
 unfold A28
 rw [List.set_append_right _ _ (by omega)]
 simp
theorem tt {P:aa} {tv:AV} {xs:List Int} {xv:AV} (hx:SlA 1 (ak xs) xv) (hxi:∀z∈xs,inI z) {n i:Nat} (hn:n<=100) (hi:i<n) :
  run (ax GC f9) 300 [.code eC] (iJ xv (.sl (P.length+1) 0 n) (.int .i64 (i:Int))) (A28 P tv (rI (rdO xs) n i))=some (.normal (iJ xv (.sl (P.length+1) 0 n) (.int .i64 ((i+1:Nat):Int))) (A28 P tv (rI (rdO xs) n (i+1)))):=by
 have hr:∀l,(A28 P tv l)[P.length+1]?=some (.row 1 false (ak l)):=fun l=>r28 _ _ _
 have hset:∀l l',(A28 P tv l).set (P.length+1) (.row 1 false (ak l'))=A28 P tv l':=fun l l'=>s28 _ _ _ _
 have hl:=Bq (rdO xs) (n:=n) (i:=i) (by omega)
 have hll:=hx.len
 rw [aB] at hll
 have b0:=bu i n .i64
 rw [decide_eq_true hi] at b0
 have b1:=bu i xs.length .i64
 have b2:=bc i (by omega)
 have hS:aq (.sl (P.length+1) 0 n)=some (.int .i64 (n:Int)):=rfl
 have i0:=dD (n:=n) (hr (rI (rdO xs) n i)) hi .i64
 have s0:=iI (hr (rI (rdO xs) n i)) (show i<(rI (rdO xs) n i).length by omega) (-1)
 rw [hset] at s0
 obtain ⟨L1,hL1⟩:∃L,L=(rI (rdO xs) n i).set i (-1):=⟨_,rfl⟩
 rw [<-hL1] at s0
 have hl1:L1.length=n:=by rw [hL1,List.length_set,hl]
 have i1:=dD (n:=n) (hr L1) hi .i64
 have ii:∃j,j=i+1:=⟨_,rfl⟩
 obtain ⟨j,hj⟩:=ii
 have e0:=Bp (rdO xs) hi
 rw [<-hj] at b2 e0 ⊢
 by_cases hc:i<xs.length
 ·rw [decide_eq_true hc] at b1
  obtain ⟨y,hy⟩:∃y,y=xs[i]:=⟨_,rfl⟩
  have hyg:xs.getD i 0=y:=by rw [List.getD_eq_getElem?_getD,List.getElem?_eq_getElem hc,hy]; rfl
  have hyi:inI y:=by rw [hy]; exact hxi _ (List.getElem_mem hc)
  have x1:∀A,ai 1 A xv (.int .i64 (i:Int))=some (.fp [.int .i64 y]):=fun A=>by
   rw [hy]
   exact hx.index1 (A:=A) (x:=.int .i64 xs[i]) (i:=i) (by simp [ak,hc]) rfl rfl .i64
  have l1:∀A,ac false 1 A (.fp [.int .i64 y])=some (.int .i64 y):=fun A=>rfl
  have m1:=cO hyi (n:=4) (by omega)
  obtain ⟨q0,q1⟩:=tz hyi (b:=4) (by omega)
  have m2:=cO q1 (n:=120) (by omega)
  have b3:=cF (pick y 4) 0
  have ef:rdO xs i=if 0<pick y 4 then pick (y.tdiv 4) 120 else -1:=by
   unfold rdO
   rw [hyg]
   by_cases h:0<pick y 4
   ·rw [if_pos ⟨hc,h⟩,if_pos h]
   ·rw [if_neg (fun hh=>h hh.2),if_neg h]
  generalize y.tdiv 4=Q at *
  generalize pick y 4=R at *
  generalize pick Q 120=V at *
  by_cases hR:0<R
  ·rw [if_pos hR] at ef
   rw [decide_eq_true hR] at b3
   have s1:=iI (hr L1) (show i<L1.length by omega) V
   rw [hset,hL1,List.set_set,<-hL1,<-ef,e0] at s1
   rw [ef] at s1
   generalize A28 P tv (rI (rdO xs) n i)=B0 at *
   generalize A28 P tv L1=B1 at *
   generalize A28 P tv (rI (rdO xs) n j)=B2 at *
   simp [eC,hll,hS,b0,b1,b2,b3,i0,s0,i1,s1,x1,l1,q0,m1,m2,aI,-ag,-ac,-az,-ai,-aq,-frz]
  ·rw [if_neg hR] at ef
   rw [decide_eq_false hR] at b3
   rw [hL1,<-ef,e0] at s0
   rw [ef] at s0
   generalize A28 P tv (rI (rdO xs) n i)=B0 at *
   generalize A28 P tv (rI (rdO xs) n j)=B2 at *
   simp [eC,hll,hS,b0,b1,b2,b3,i0,s0,x1,l1,m1,aI,-ag,-ac,-az,-ai,-aq,-frz]
 ·rw [decide_eq_false hc] at b1
  have ef:rdO xs i = -1:=by unfold rdO; rw [if_neg (fun h=>hc h.1)]
  rw [hL1,<-ef,e0] at s0
  rw [ef] at s0
  generalize A28 P tv (rI (rdO xs) n i)=B0 at *
  generalize A28 P tv (rI (rdO xs) n j)=B2 at *
  simp [eC,hll,hS,b0,b1,b2,i0,s0,-ag,-ac,-az,-ai,-aq,-frz]
theorem loop28 {P:aa} {tv:AV} {xs:List Int} {xv:AV} (hx:SlA 1 (ak xs) xv) (hxi:∀z∈xs,inI z) {n:Nat} (hn:n<=100):∀(c i m:Nat),i+c=n->c<m ->
  cc (evC (ax GC f9) 300 eC) jS m (iJ xv (.sl (P.length+1) 0 n) (.int .i64 (i:Int))) (A28 P tv (rI (rdO xs) n i))=some (.exit 0 ((iJ xv (.sl (P.length+1) 0 n) (.int .i64 (n:Int))).set 6 (.bool false)) (A28 P tv (rI (rdO xs) n n))):=by
 intro c
 induction c with
 | zero=>
  intro i m hi hm
  obtain ⟨m,rfl⟩:∃j,m=j+1:=⟨m-1,by omega⟩
  obtain rfl:i=n:=by omega
  have b2:=bu i i .i64
  rw [decide_eq_false (by omega)] at b2
  rw [aQ,sq]
  simp [eC,b2,-ag]
 | succ c ih=>
  intro i m hi hm
  obtain ⟨m,rfl⟩:∃j,m=j+1:=⟨m-1,by omega⟩
  rw [aQ,sq,tt hx hxi hn (by omega)]
  exact ih (i+1) m (by omega) (by omega)
end Fa
open Go
open Cy (GC aI bb aB cO)
open Clu (aR a0 an chA ba dH cC cT bn cF aV b7)
def H28:aG:=fun _=>bM (ax GC f9) 300 FO
theorem CS:aj Try.prog GC 28 H28:=(bJ (au nC) rfl Mt B9 bj.nil).y
theorem HW (P:aa) {T:aR} {chv:AV} (hb:SlA 2 (T.ch.map chA) chv) (hl:T.ch.length<=100) (hl1:1<=T.ch.length) {xs:List Int} {xv:AV} (hx:SlA 1 (ak xs) xv) (hxi:∀z∈xs,inI z) :
  bM (ax GC f9) 300 FO [an T chv,xv] P=some (.sl (P.length+1) 0 T.ch.length,Fa.A28 P (an T chv) (rdM T.ch.length xs)):=by
 have lp:=Fa.loop28 (P:=P) (tv:=an T chv) hx hxi hl T.ch.length 0 300 (by omega) (by omega)
 rw [DH,DI,show ((0:Nat):Int)=0 from rfl] at lp
 have lnc:=hb.len
 rw [List.length_map] at lnc
 obtain ⟨L,hL⟩:∃L,L=P.length:=⟨_,rfl⟩
 have bx0:aT 5 (an T chv) P=some (.ptr L 0 0,P++[.row 5 false [an T chv]]):=by rw [hL]; rfl
 have ct:(cellsOf (an T chv)).length=5:=rfl
 obtain ⟨n,hn⟩:∃n,n=T.ch.length:=⟨_,rfl⟩
 rw [<-hn] at lp lnc hl hl1 ⊢
 have hrow:(P++[Ent.row 5 false [an T chv]])[L]?=some (.row 5 false [an T chv]):=by rw [hL]; simp
 have mk:ck 1 8 (.int .i64 0) (P++[.row 5 false [an T chv]]) (.int .i64 (n:Int)) (.int .i64 (n:Int))=some (.sl (L+1) 0 n,Fa.A28 P (an T chv) (List.replicate n 0)):=by
  simp only [ck]
  rw [if_pos ⟨by omega,by omega,by omega,by omega,rfl,rfl,by omega⟩,Int.toNat_natCast]
  unfold Fa.A28 ak
  rw [List.map_replicate,List.append_assoc,hL]
  simp
 have fa0:ab 0 (P++[.row 5 false [an T chv]]) (.ptr L 0 0)=some (.ptr L 0 0):=by
  generalize P++[Ent.row 5 false [an T chv]]=Q at *
  simp [ab,hrow]
 have lch:ac false 1 (P++[.row 5 false [an T chv]]) (.ptr L 0 0)=some chv:=pO (k:=5) (es:=[chv,.int .i64 T.pick,.int .i64 T.place,.int .i64 T.travel,.int .i64 T.blades]) hrow rfl
 rw [show (List.range n).map (rdO xs)=rdM n xs from rfl,<-hL] at lp
 rw [<-hL]
 clear hrow
 generalize P++[Ent.row 5 false [an T chv]]=Q at *
 generalize Fa.A28 P (an T chv) (rdM n xs)=B1 at *
 generalize Fa.A28 P (an T chv) (List.replicate n 0)=B0 at *
 generalize an T chv=tv at *
 rw [aZ _ _ rfl]
 simp [FO,bx0,ct,fa0,lch,lnc,mk,Gi lp,-aT,-ab,-ac,-ck,-frz,-ag,-cellsOf,-aq]
def wc:List (FuncId × aG):=[(27,aD 4 M27),(28,H28),(21,aD 4 Cy.M12)]
@[simp] theorem Il:aC wc 27=some (aD 4 M27):=rfl
@[simp] theorem Ik:aC wc 28=some H28:=rfl
@[simp] theorem Im:aC wc 21=some (aD 4 Cy.M12):=rfl
theorem z6:∀f M,aC wc f=some M->aj Try.prog GC f M:=ae (aj.of_pure ro 4) (ae CS (ae (aj.of_pure Cy.w6 4) aA))
def H13:aG:=fun _=>bM (ax GC wc) 300 Fa.mf13
theorem CV:aj Try.prog GC 13 H13:=(bJ (au z6) rfl Fa.at13 Fa.comp13 (bj.cons (M:=_) rfl bj.nil)).y
def Q13 (x:XC) (yv rv:AV):aa:=[.row 6 false [x.A yv rv],.row 6 false [x.A yv rv],.row 5 false [x.tv],.row 5 false [x.tv],.row 5 false [x.tv],.row 1 false (ak x.R)]
theorem HY {x:XC} {yv rv:AV} (h:XV x yv rv):bM (ax GC wc) 300 Fa.mf13 [x.A yv rv] [.row 6 false [x.A yv rv]]=some (.tup [x.tv,.sl 5 0 x.n,.int .i64 x.F],Q13 x yv rv):=by
 have m1:M27 [yv,.agg [.int .i64 x.a,.int .i64 x.b,.int .i64 x.c]]=some x.tv:=vF h.yi h.y h.a h.b h.c
 have m3:Cy.M12 [.int .i64 x.free,.int .i64 60]=some (.int .i64 x.F):=cO h.f (n:=60) (by omega)
 have hT:∀T:AV,∃C:Ent,C=.row 5 false [T]:=fun _=>⟨_,rfl⟩
 obtain ⟨C6,hC6⟩:∃C:Ent,C=.row 6 false [x.A yv rv]:=⟨_,rfl⟩
 have bx:aT 6 (x.A yv rv) [C6]=some (.ptr 1 0 0,[C6,C6]):=by rw [hC6]; rfl
 have bz:aT 5 zT [C6,C6]=some (.ptr 2 0 0,[C6,C6,.row 5 false [zT]]):=rfl
 have bz2:aT 5 zT [C6,C6,.row 5 false [zT]]=some (.ptr 3 0 0,[C6,C6,.row 5 false [zT],.row 5 false [zT]]):=rfl
 have hn4:=x.nb
 unfold XC.n at hn4
 have m2:=HW [C6,C6,.row 5 false [zT],.row 5 false [x.tv]] (T:=x.T) x.chS (by omega) (by omega) h.r h.ri
 have m2':∀hh,H28 hh [x.tv,rv] [C6,C6,.row 5 false [zT],.row 5 false [x.tv]]=some (.sl 5 0 x.n,[C6,C6,.row 5 false [zT],.row 5 false [x.tv],.row 5 false [x.tv],.row 1 false (ak x.R)]):=fun _=>m2
 have et:x.tv=.agg [x.ch,.int .i64 x.T.pick,.int .i64 x.T.place,.int .i64 x.T.travel,.int .i64 1]:=by
  have:=(rE x.ys x.a x.b x.c).2
  show AV.agg [x.ch,_,_,_,.int .i64 x.T.blades]=_
  rw [show x.T.blades=1 from this]
 have st3:az 5 [C6,C6,.row 5 false [zT],.row 5 false [zT]] (.ptr 3 0 0) x.tv=some [C6,C6,.row 5 false [zT],.row 5 false [x.tv]]:=by rw [et]; rfl
 have st2:az 5 [C6,C6,.row 5 false [zT],.row 5 false [x.tv],.row 5 false [x.tv],.row 1 false (ak x.R)] (.ptr 2 0 0) x.tv=some (Q13 x yv rv):=by
  unfold Q13
  rw [<-hC6,et]; rfl
 have l3:ac true 5 [C6,C6,.row 5 false [zT],.row 5 false [x.tv]] (.ptr 3 0 0)=some x.tv:=rfl
 have l2:ac true 5 (Q13 x yv rv) (.ptr 2 0 0)=some x.tv:=rfl
 have fld:∀X:aa,X[1]?=some (.row 6 false [x.A yv rv])->(∀k,k<6->ab k X (.ptr 1 0 0)=some (.ptr 1 0 k))/\ac false 1 X (.ptr 1 0 0)=some yv/\ac false 1 X (.ptr 1 0 4)=some rv/\ac false 1 X (.ptr 1 0 5)=some (.int .i64 x.free)/\ac true 3 X (.ptr 1 0 1)=some (.agg [.int .i64 x.a,.int .i64 x.b,.int .i64 x.c]):=fun X hX=>by
  refine ⟨fun k hk=>by simp [ab,hX]; exact hk,pO (k:=6) (es:=[yv,.int .i64 x.a,.int .i64 x.b,.int .i64 x.c,rv,.int .i64 x.free]) hX rfl,pO (k:=6) (es:=[yv,.int .i64 x.a,.int .i64 x.b,.int .i64 x.c,rv,.int .i64 x.free]) hX rfl,pO (k:=6) (es:=[yv,.int .i64 x.a,.int .i64 x.b,.int .i64 x.c,rv,.int .i64 x.free]) hX rfl,?_⟩
  have le:bW (.agg [yv,.int .i64 x.a,.int .i64 x.b,.int .i64 x.c,rv,.int .i64 x.free]) 6 1 true 3=some (.agg [.int .i64 x.a,.int .i64 x.b,.int .i64 x.c]):=by
   rcases h.y with ⟨rfl,_⟩ | rfl <;> rcases h.r with ⟨rfl,_⟩ | rfl <;> rfl
  simp only [ac,hX,XC.A]
  exact le
 have h6:∀X:aa,(C6 :: C6 :: X)[1]?=some (.row 6 false [x.A yv rv]):=fun X=>by rw [<-hC6]; rfl
 obtain ⟨a1,a2,_,_,a5⟩:=fld [C6,C6,.row 5 false [zT]] (h6 _)
 obtain ⟨b1,_,b3,_,_⟩:=fld [C6,C6,.row 5 false [zT],.row 5 false [x.tv]] (h6 _)
 obtain ⟨c1,_,_,c4,_⟩:=fld [C6,C6,.row 5 false [zT],.row 5 false [x.tv],.row 5 false [x.tv],.row 1 false (ak x.R)] (h6 _)
 have a10:=a1 0 (by omega)
 have a11:=a1 1 (by omega)
 have b14:=b1 4 (by omega)
 have c15:=c1 5 (by omega)
 have f1:∀A,frz A 4 x.tv=x.tv:=x.tfrz
 have f3:∀A n,frz A n yv=yv:=fun A n=>h.y.frz n
 have f5:∀A n,frz A (n+1) (.agg [.int .i64 x.a,.int .i64 x.b,.int .i64 x.c])=.agg [.int .i64 x.a,.int .i64 x.b,.int .i64 x.c]:=fun A n=>by simp [frz]
 have n1:=x.tref
 have n3:∀n,bo n yv=true:=fun n=>h.y.noRef n
 have cs:(cellsOf (x.A yv rv)).length=6:=rfl
 have k1:([C6,C6,.row 5 false [zT],.row 5 false [x.tv],.row 5 false [x.tv],.row 1 false (ak x.R)]:aa)[1]?=([C6,C6,.row 5 false [zT],.row 5 false [x.tv]]:aa)[1]?:=rfl
 have k3:([C6,C6,.row 5 false [zT],.row 5 false [x.tv],.row 5 false [x.tv],.row 1 false (ak x.R)]:aa)[3]?=([C6,C6,.row 5 false [zT],.row 5 false [x.tv]]:aa)[3]?:=rfl
 rw [<-hC6]
 clear fld h6 hT a1 b1 c1 m2 et hn4
 generalize Q13 x yv rv=Q at *
 generalize [C6,C6,.row 5 false [zT],.row 5 false [x.tv],.row 5 false [x.tv],.row 1 false (ak x.R)]=Q4 at *
 generalize [C6,C6,.row 5 false [zT],.row 5 false [x.tv]]=Q3 at *
 generalize [C6,C6,.row 5 false [zT],.row 5 false [zT]]=Q2' at *
 generalize [C6,C6,.row 5 false [zT]]=Q2 at *
 generalize x.tv=TV at *
 generalize x.F=FV at *
 generalize x.n=nn at *
 generalize x.A yv rv=XA at *
 rw [aZ _ _ rfl]
 simp [Fa.mf13,bx,bz,bz2,cs,m1,m2',m3,st3,st2,l3,l2,a10,a11,a2,a5,b14,b3,c15,c4,f3,f5,n3,k1,k3,aI,dB,bH,-aT,-az,-ac,-ab,-frz,-cellsOf]
end Tr
namespace Tr
open Go
open Cy (GC gM aI bb aB cW)
open Clu (aR a0 an chA cn Chk oN aV cT)
theorem n5 {B:aa} {i:Nat} {g:Bool} {l:List c9} (h:B[i]?=some (.row 2 g (l.map aP))) (a k:Nat):aW B 3 (.sl i a k)=true:=by
 simp only [aW,h]
 rw [List.all_eq_true]
 intro y hy
 obtain ⟨t,_,rfl⟩:=List.mem_map.1 (List.mem_of_mem_drop (List.mem_of_mem_take hy))
 exact pX B 1 t
theorem Hn {lo:Nat} {B:aa} {v mv:AV} {l more:List c9} (h:RV lo B v l) (hm:SlA 2 (more.map aP) mv) (hl:l.length+more.length<=1000):∃w B',aM 2 16 B v mv=some (w,B')/\SlA 2 ((l++more).map aP) (frz B' 3 w)/\aW B' 3 w=true:=by
 have hs:=E7 hm B
 rcases h with ⟨rfl,rfl⟩ | ⟨i,_,rfl,hrow⟩
 ·by_cases h0:more=[]
  ·subst h0
   exact ⟨.nilS,B,by simp [aM,hs],.inl ⟨rfl,rfl⟩,rfl⟩
  ·have hp:0<more.length:=List.length_pos_iff.2 h0
   refine ⟨.sl B.length 0 more.length,B++[.row 2 false (more.map aP)],?_,?_,n5 (g:=false) (l:=more) (by simp) _ _⟩
   ·simp only [aM,hs,List.length_map]
    rw [if_neg (by omega),if_pos ⟨by omega,by omega,by omega⟩]
   ·rw [iy (g:=false) (by simp),List.nil_append]
    exact .inr rfl
 ·have hil:=(List.getElem?_eq_some_iff.1 hrow).1
  by_cases h0:l=[]
  ·subst h0
   refine ⟨.sl B.length 0 more.length,B.set i .dead++[.row 2 false (more.map aP)],?_,?_,n5 (g:=false) (l:=more) (by simp) _ _⟩
   ·simp only [aM,hs,hrow,List.length_map,List.length_nil,List.map_nil,Nat.zero_add]
    rw [if_pos ⟨trivial,by omega,by omega,by simp at hl; omega⟩,if_neg (by simp)]
    simp
   ·have:(B.set i .dead++[Ent.row 2 false (more.map aP)])[B.length]?=some (.row 2 false (more.map aP)):=by simp
    rw [iy this,List.nil_append]
    exact .inr rfl
  ·have hp:l.length≠0:=fun e=>h0 (List.length_eq_zero_iff.1 e)
   refine ⟨.sl i 0 (l.length+more.length),B.set i (.row 2 true (l.map aP++more.map aP)),?_,?_,n5 (g:=true) (l:=l++more) (by rw [List.getElem?_set_self hil,List.map_append]) _ _⟩
   ·simp only [aM,hs,hrow,List.length_map]
    rw [if_pos ⟨trivial,by omega,by omega,by omega⟩,if_pos ⟨trivial,trivial,hp⟩]
   ·have hr:(B.set i (.row 2 true (l.map aP++more.map aP)))[i]?=some (.row 2 true ((l++more).map aP)):=by rw [List.getElem?_set_self hil,List.map_append]
    have:=iy hr
    rw [List.length_append] at this
    rw [this]
    exact .inr rfl
def EU:aO:=fun args=>evF (ax GC wa) 0 uK 4 args
theorem kI:bT Try.prog GC 25 EU:=bT.of_ev (E:=ax GC wa) (au (ae w5 (ae (aj.of_pure rp 4) (ae (aj.of_pure uv 4) aA)))) rfl Iw vo 4 fun _ _ h=>⟨0,h⟩
section
variable {T:aR} {chv rdv:AV} {rd:List Int} {s:cn} {ov sv pv:AV} {free:Int}
theorem EA (hb:SlA 2 (T.ch.map chA) chv) (hl:T.ch.length<=200) (hr:SlA 1 (ak rd) rdv) (hrl:rd.length<=200) (hs:oN s ov sv pv):∃v,EU [an T chv,rdv,.int .i64 free,bh s ov sv pv]=some (.tup [v,.int .i64 (Eh (cB T rd free s))])/\SlA 2 (((cB T rd free s).getD []).map aP) v:=by
 have ft:=fun A=>aV (T:=T) (fun A n=>hb.frz (A:=A) n) A 3
 have fr:∀A n,frz A n rdv=rdv:=fun A n=>hr.frz n
 have fs:∀A,frz A 4 (bh s ov sv pv)=bh s ov sv pv:=fun A=>by
  show AV.agg [_,frz A 3 ov,frz A 3 sv,frz A 3 pv]=_
  rw [hs.o.frz,hs.st.frz,hs.pr.frz]; rfl
 have bx0:aT 5 (an T chv) []=some (.ptr 0 0 0,[.row 5 false [an T chv]]):=rfl
 have bx1:aT 4 (bh s ov sv pv) [.row 5 false [an T chv]]=some (.ptr 1 0 0,[.row 5 false [an T chv],.row 4 false [bh s ov sv pv]]):=rfl
 have ct:(cellsOf (an T chv)).length=5:=rfl
 have cs:(cellsOf (bh s ov sv pv)).length=4:=rfl
 obtain ⟨A0,hA0⟩:∃A:aa,A=[.row 5 false [an T chv],.row 4 false [bh s ov sv pv]]:=⟨_,rfl⟩
 have lt:∀W,ac true 5 (A0++W) (.ptr 0 0 0)=some (an T chv):=fun W=>by rw [hA0]; rfl
 have lsA:∀W,ac true 4 (A0++W) (.ptr 1 0 0)=some (bh s ov sv pv):=fun W=>by rw [hA0]; rfl
 rw [<-hA0] at bx1
 have hT:Tl A0 T chv chv:=⟨.inl hb,fun X=>ft _,hb⟩
 have hR:Rl A0 rd rdv rdv:=⟨.inl hr,fun X=>fr _ 4,hr⟩
 obtain ⟨v,B,h1,⟨W,hW⟩,hRV⟩:=ky (free:=free) (lost:=0) hT hR hl hrl
 rw [jt] at h1 hRV
 have h1:∀hh,Bf hh [an T chv,rdv,.int .i64 free,.int .i64 0] A0=some (.tup [v,.bool (bY T rd free).isSome],B):=fun _=>h1
 have lt0:=lt []
 rw [List.append_nil] at lt0
 have lt1:=lt W
 have ls1:=lsA W
 rw [<-hW] at lt1 ls1
 unfold EU cB
 cases hd:bY T rd free with
 | none=>
  rw [hd] at h1
  refine ⟨.nilS,?_,.inl ⟨rfl,rfl⟩⟩
  show evF _ _ _ _ _=some (.tup [.nilS,.int .i64 140])
  have ff:∀A:aa,frz A 4 (.tup [.nilS,.int .i64 140])=.tup [.nilS,.int .i64 140]:=fun _=>rfl
  have fb:∀A:aa,aW A 4 (.tup [.nilS,.int .i64 140])=true:=fun _=>rfl
  have h1:∀hh,Bf hh [an T chv,rdv,.int .i64 free,.int .i64 0] A0=some (.tup [v,.bool false],B):=h1
  generalize an T chv=tv at *
  generalize bh s ov sv pv=sA at *
  rw [fA _ _ rfl]
  simp [uK,bx0,bx1,ct,cs,lt0,h1,ff,fb,dB,-aT,-ac,-frz,-cellsOf]
 | some l=>
  rw [hd] at h1 hRV
  have hRV:RV A0.length B v l:=hRV
  have h1:∀hh,Bf hh [an T chv,rdv,.int .i64 free,.int .i64 0] A0=some (.tup [v,.bool true],B):=h1
  obtain ⟨hln,_⟩:=ow hd
  obtain ⟨lv,hlv,hfl⟩:∃lv,SlA 2 (l.map aP) lv/\frz B 4 v=lv:=by
   rcases hRV with ⟨rfl,rfl⟩ | ⟨i,_,rfl,hrow⟩
   ·exact ⟨.nilS,.inl ⟨rfl,rfl⟩,rfl⟩
   ·exact ⟨.fs 2 (l.map aP),.inr rfl,kg hrow⟩
  have m17:=qi hb hl hr hrl free hlv (by omega)
  unfold Em at m17
  obtain ⟨mv,m24,hmv⟩:=zB (free:=(ei T rd free l).getD 0) hb hl hs
  have hsc:bH 4 (.tup [.int .i64 ((ei T rd free l).getD 0),.bool (ei T rd free l).isSome])=true:=rfl
  have nr1:bo 4 (an T chv)=true:=Clu.b7 (fun n=>hb.noRef n) 3
  have nr2:bo 4 (bh s ov sv pv)=true:=by
   show ([_,ov,sv,pv]:List AV).all (bo 3)=true
   simp [hs.o.noRef,hs.st.noRef,hs.pr.noRef,bo]
  have nr3:∀z,bo 4 (.int .i64 z)=true:=fun _=>rfl
  simp only [Option.bind_some]
  obtain ⟨r,hf⟩:∃r,r=kP T s ((ei T rd free l).getD 0):=⟨_,rfl⟩
  rw [<-hf] at m24 hmv ⊢
  cases r with
  | none=>
   have m24:M24 [an T chv,bh s ov sv pv,.int .i64 ((ei T rd free l).getD 0)]=some (.tup [mv,.int .i64 140]):=m24
   refine ⟨.nilS,?_,.inl ⟨rfl,rfl⟩⟩
   show evF _ _ _ _ _=some (.tup [.nilS,.int .i64 140])
   have ff:∀A:aa,frz A 4 (.tup [.nilS,.int .i64 140])=.tup [.nilS,.int .i64 140]:=fun _=>rfl
   have fb:∀A:aa,aW A 4 (.tup [.nilS,.int .i64 140])=true:=fun _=>rfl
   have b1:=cT 140 0
   rw [decide_eq_true (by omega)] at b1
   generalize (ei T rd free l).getD 0=e at *
   generalize (ei T rd free l).isSome=eb at *
   generalize an T chv=tv at *
   generalize bh s ov sv pv=sA at *
   rw [fA _ _ rfl]
   simp [uK,bx0,bx1,ct,cs,lt0,lt1,ls1,h1,ft,fr,fs,hfl,aI,m17,m24,nr1,nr2,b1,ff,fb,dB,-aT,-ac,-frz,-cellsOf,-ag]
  | some m=>
   have m24:M24 [an T chv,bh s ov sv pv,.int .i64 ((ei T rd free l).getD 0)]=some (.tup [mv,.int .i64 0]):=m24
   have hml:=uY hf.symm
   obtain ⟨w,B',hap,hw,hwf⟩:=Hn hRV (show SlA 2 (m.map aP) mv from hmv) (by omega)
   refine ⟨frz B' 3 w,?_,hw⟩
   show evF _ _ _ _ _=some (.tup [frz B' 3 w,.int .i64 0])
   have ff:frz B' 4 (.tup [w,.int .i64 0])=.tup [frz B' 3 w,.int .i64 0]:=rfl
   have fb:aW B' 4 (.tup [w,.int .i64 0])=true:=by
    show (aW B' 3 w && (aW B' 3 (.int .i64 0) && true))=true
    rw [hwf]; rfl
   have b1:=cT 0 0
   rw [decide_eq_false (by omega)] at b1
   generalize (ei T rd free l).getD 0=e at *
   generalize (ei T rd free l).isSome=eb at *
   generalize an T chv=tv at *
   generalize bh s ov sv pv=sA at *
   rw [fA _ _ rfl]
   simp [uK,bx0,bx1,ct,cs,lt0,lt1,ls1,h1,ft,fr,fs,hfl,aI,m17,m24,nr1,nr2,b1,hap,ff,fb,dB,-aT,-ac,-frz,-cellsOf,-ag]
end
end Tr
namespace Tr
open Go
def Ia:cy:=⟨3,26,.seq (.region [⟨some 3,.box (.var 0),none⟩,⟨some 4,.mv (.cst (.bool false)),none⟩]) (.seq (.region [⟨none,.call (.fn 11) [],none⟩,⟨some 5,.mv (.tmp 0),none⟩]) (.seq (.region [⟨none,.load true 6 (.var 3),none⟩,⟨none,.call (.fn 13) [.tmp 0],none⟩,⟨none,.mv (.tmp 1),none⟩,⟨none,.extract (.tmp 2) 0,none⟩,⟨none,.extract (.tmp 2) 1,none⟩,⟨none,.extract (.tmp 2) 2,none⟩,⟨some 6,.alloc 5 (.agg [.nilS,.int .i64 0,.int .i64 0,.int .i64 0,.int .i64 0]),none⟩,⟨none,.store 5 (.var 6) (.tmp 3),none⟩,⟨some 7,.mv (.tmp 4),none⟩,⟨some 8,.mv (.tmp 5),none⟩]) (.seq (.region [⟨none,.mv (.var 8),none⟩,⟨none,.bin .add (.tmp 0) (.cst (.int .i64 100)),none⟩,⟨none,.build [.int .i64 0,.int .i64 0] [(0,(1,.cst (.int .i64 0))),(1,(1,.tmp 1))],none⟩,⟨none,.buildSlice 2 [.tmp 2],none⟩,⟨some 9,.mv (.tmp 3),none⟩]) (.seq (.region [⟨some 10,.mv (.cst (.int .i64 0)),none⟩]) (.seq (.seq (.region [⟨none,.mv (.var 1),none⟩,⟨some 19,.call (.fn 21) [.tmp 0,.cst (.int .i64 6)],none⟩]) (.seq (.block 0 (.seq (.region [⟨none,.bin .eql (.var 19) (.cst (.int .i64 0)),none⟩,⟨some 21,.mv (.tmp 0),none⟩]) (.cond (.var 21) (.region [⟨none,.fieldAddr 4 (.var 6),none⟩,⟨none,.store 1 (.tmp 0) (.cst (.int .i64 2)),none⟩]) (.seq (.region [⟨none,.bin .eql (.var 19) (.cst (.int .i64 1)),none⟩,⟨some 22,.mv (.tmp 0),none⟩]) (.cond (.var 22) (.region [⟨none,.mv (.var 7),none⟩,⟨none,.buildF 1 [.cst (.int .i64 (-1))],none⟩,⟨none,.append 1 8 (.tmp 0) (.tmp 1),none⟩,⟨some 7,.mv (.tmp 2),none⟩]) (.seq (.region [⟨none,.bin .eql (.var 19) (.cst (.int .i64 2)),none⟩,⟨some 23,.mv (.tmp 0),none⟩]) (.cond (.var 23) (.region [⟨none,.mv (.var 7),none⟩,⟨none,.indexSl 1 (.tmp 0) (.cst (.int .i64 0)),none⟩,⟨none,.store 1 (.tmp 1) (.cst (.int .i64 (-2))),none⟩]) (.seq (.region [⟨none,.bin .eql (.var 19) (.cst (.int .i64 3)),none⟩,⟨some 24,.mv (.tmp 0),none⟩]) (.cond (.var 24) (.region [⟨none,.mv (.var 7),none⟩,⟨none,.indexSl 1 (.tmp 0) (.cst (.int .i64 0)),none⟩,⟨none,.store 1 (.tmp 1) (.cst (.int .i64 500001)),none⟩]) (.seq (.region [⟨none,.bin .eql (.var 19) (.cst (.int .i64 4)),none⟩,⟨some 25,.mv (.tmp 0),none⟩]) (.cond (.var 25) (.region [⟨none,.mv (.var 2),none⟩,⟨none,.call (.fn 21) [.tmp 0,.cst (.int .i64 100)],none⟩,⟨none,.bin .sub (.cst (.int .i64 (-1))) (.tmp 1),none⟩,⟨some 8,.mv (.tmp 2),none⟩]) (.seq (.seq (.region [⟨none,.mv (.var 2),none⟩,⟨none,.bin .geq (.tmp 0) (.cst (.int .i64 0)),none⟩,⟨none,.mv (.tmp 1),none⟩,⟨none,.mv (.var 2),some (.tmp 2,true)⟩,⟨none,.mv (.var 7),some (.tmp 2,true)⟩,⟨none,.lenSl (.tmp 4),some (.tmp 2,true)⟩,⟨none,.bin .leq (.tmp 3) (.tmp 5),some (.tmp 2,true)⟩,⟨some 20,.pick (.tmp 2) (.tmp 6) (.cst (.bool false)),none⟩]) (.cond (.var 20) (.region [⟨none,.mv (.var 7),none⟩,⟨none,.lenSl (.tmp 0),none⟩,⟨none,.bin .add (.tmp 1) (.cst (.int .i64 1)),none⟩,⟨some 2,.mv (.tmp 2),none⟩]) .skip)) (.seq (.region [⟨none,.mv (.var 2),none⟩,⟨some 10,.mv (.tmp 0),none⟩]) (.region [⟨none,.mv (.var 9),none⟩,⟨none,.mv (.var 2),none⟩,⟨none,.indexSl 2 (.tmp 0) (.cst (.int .i64 0)),none⟩,⟨none,.fieldAddr 0 (.tmp 2),none⟩,⟨none,.store 1 (.tmp 3) (.tmp 1),none⟩])))))))))))))) (.kill [0,2,3,4,11,12,13,14,15,16,17,18,19,20,21,22,23,24,25]))) (.seq (.region [⟨none,.load true 5 (.var 6),none⟩,⟨none,.call (.fn 23) [.tmp 0],none⟩,⟨none,.mv (.tmp 1),none⟩,⟨none,.extract (.tmp 2) 0,none⟩,⟨none,.extract (.tmp 2) 1,none⟩,⟨some 11,.alloc 4 (.agg [.int .i64 0,.nilS,.nilS,.nilS]),none⟩,⟨none,.store 4 (.var 11) (.tmp 3),none⟩,⟨some 12,.mv (.tmp 4),none⟩]) (.seq (.region [⟨none,.load true 5 (.var 6),none⟩,⟨none,.mv (.var 7),none⟩,⟨none,.mv (.var 8),none⟩,⟨none,.mv (.var 9),none⟩,⟨none,.call (.fn 17) [.tmp 0,.tmp 1,.tmp 2,.tmp 3],none⟩,⟨none,.mv (.tmp 4),none⟩,⟨none,.extract (.tmp 5) 0,none⟩,⟨none,.extract (.tmp 5) 1,none⟩,⟨none,.mv (.tmp 6),none⟩,⟨some 13,.mv (.tmp 7),none⟩]) (.seq (.region [⟨none,.load true 5 (.var 6),none⟩,⟨none,.mv (.var 7),none⟩,⟨none,.mv (.var 8),none⟩,⟨none,.mv (.var 10),none⟩,⟨none,.call (.fn 14) [.tmp 0,.tmp 1,.tmp 2,.tmp 3],none⟩,⟨none,.mv (.tmp 4),none⟩,⟨none,.extract (.tmp 5) 0,none⟩,⟨none,.extract (.tmp 5) 1,none⟩,⟨some 14,.mv (.tmp 6),none⟩,⟨some 15,.mv (.tmp 7),none⟩]) (.seq (.region [⟨none,.load true 5 (.var 6),none⟩,⟨none,.mv (.var 7),none⟩,⟨none,.mv (.var 8),none⟩,⟨none,.load true 4 (.var 11),none⟩,⟨none,.call (.fn 25) [.tmp 0,.tmp 1,.tmp 2,.tmp 3],none⟩,⟨none,.mv (.tmp 4),none⟩,⟨none,.extract (.tmp 5) 0,none⟩,⟨none,.extract (.tmp 5) 1,none⟩,⟨some 16,.mv (.tmp 6),none⟩,⟨some 17,.mv (.tmp 7),none⟩]) (.seq (.region [⟨none,.mv (.var 1),none⟩,⟨none,.call (.fn 21) [.tmp 0,.cst (.int .i64 6)],none⟩,⟨none,.bin .lss (.tmp 1) (.cst (.int .i64 5)),none⟩,⟨some 18,.mv (.tmp 2),none⟩]) (.seq (.region [⟨none,.mv (.var 5),none⟩,⟨none,.mv (.tmp 0),none⟩,⟨none,.mv (.var 13),some (.tmp 1,true)⟩,⟨none,.un .not (.tmp 2),some (.tmp 1,true)⟩,⟨none,.pick (.tmp 1) (.tmp 3) (.cst (.bool false)),none⟩,⟨none,.mv (.tmp 4),none⟩,⟨none,.mv (.var 15),some (.tmp 5,true)⟩,⟨none,.un .not (.tmp 6),some (.tmp 5,true)⟩,⟨none,.pick (.tmp 5) (.tmp 7) (.cst (.bool false)),none⟩,⟨none,.mv (.tmp 8),none⟩,⟨none,.mv (.var 14),some (.tmp 9,true)⟩,⟨none,.lenSl (.tmp 10),some (.tmp 9,true)⟩,⟨none,.bin .eql (.tmp 11) (.cst (.int .i64 0)),some (.tmp 9,true)⟩,⟨none,.pick (.tmp 9) (.tmp 12) (.cst (.bool false)),none⟩,⟨none,.mv (.tmp 13),none⟩,⟨none,.mv (.var 18),some (.tmp 14,true)⟩,⟨none,.un .not (.tmp 15),some (.tmp 14,true)⟩,⟨none,.mv (.tmp 16),some (.tmp 14,true)⟩,⟨none,.mv (.var 17),some (.tmp 17,false)⟩,⟨none,.bin .eql (.tmp 18) (.cst (.int .i64 140)),some (.tmp 17,false)⟩,⟨none,.mv (.tmp 19),some (.tmp 17,false)⟩,⟨none,.mv (.var 16),some (.tmp 20,true)⟩,⟨none,.lenSl (.tmp 21),some (.tmp 20,true)⟩,⟨none,.bin .eql (.tmp 22) (.cst (.int .i64 0)),some (.tmp 20,true)⟩,⟨none,.pick (.tmp 20) (.tmp 23) (.cst (.bool false)),some (.tmp 17,false)⟩,⟨none,.pick (.tmp 17) (.cst (.bool true)) (.tmp 24),some (.tmp 14,true)⟩,⟨none,.pick (.tmp 14) (.tmp 25) (.cst (.bool false)),none⟩,⟨none,.mv (.tmp 26),none⟩,⟨none,.mv (.var 12),some (.tmp 27,true)⟩,⟨none,.bin .eql (.tmp 28) (.cst (.int .i64 0)),some (.tmp 27,true)⟩,⟨none,.mv (.tmp 29),some (.tmp 27,true)⟩,⟨none,.mv (.var 17),some (.tmp 30,false)⟩,⟨none,.bin .eql (.tmp 31) (.cst (.int .i64 140)),some (.tmp 30,false)⟩,⟨none,.pick (.tmp 30) (.cst (.bool true)) (.tmp 32),some (.tmp 27,true)⟩,⟨none,.pick (.tmp 27) (.tmp 33) (.cst (.bool false)),none⟩,⟨some 4,.mv (.tmp 34),none⟩]) .ret))))))))))),[.tmp 4]⟩
theorem Ha:aE Try.prog Try.f10 3 [0,1,2,3,6,7,8,9,10,11,12,13,14,16,17,18,19,20,21,34,42,51,54,59,63,67] [] true ([],[[0,2,3,4,11,12,13,14,15,16,17,18,19,20,21,22,23,24,25]])=some Ia:=by kernel_rfl
theorem at10:Try.prog.funcs[10]?=some Try.f10:=by kernel_rfl
end Tr
end Go.Proofs.Ytkcjhljbgjpklaa
