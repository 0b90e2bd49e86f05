import Derived.Test.YtkcjhljbgjpklaaUB07
import Derived.Test.YtkcjhljbgjpklaaChecked
import Derived.KernelRfl
import Derived.Test.YtkcjhljbgjpklaaUB06
import Derived.Test.YtkcjhljbgjpklaaUB03
set_option maxRecDepth 100000
set_option maxHeartbeats 4000000
noncomputable section
namespace Go.Proofs.Ytkcjhljbgjpklaa
namespace Tr
open Go
def MA:cu:=⟨0,20,.seq (.region [⟨some 0,.mv (.cst (.bool false)),none⟩]) (.seq (.region [⟨none,.call (.fn 26) [],none⟩,⟨some 1,.alloc 5 (.agg [.nilS,.int .i64 0,.int .i64 0,.int .i64 0,.int .i64 0]),none⟩,⟨none,.store 5 (.var 1) (.tmp 0),none⟩]) (.seq (.region [⟨none,.load true 5 (.var 1),none⟩,⟨none,.buildF 1 [.cst (.int .i64 10),.cst (.int .i64 (-1))],none⟩,⟨none,.call (.fn 14) [.tmp 0,.tmp 1,.cst (.int .i64 0),.cst (.int .i64 0)],none⟩,⟨none,.mv (.tmp 2),none⟩,⟨none,.extract (.tmp 3) 0,none⟩,⟨none,.extract (.tmp 3) 1,none⟩,⟨some 2,.mv (.tmp 4),none⟩,⟨some 3,.mv (.tmp 5),none⟩]) (.seq (.region [⟨none,.load true 5 (.var 1),none⟩,⟨none,.buildF 1 [.cst (.int .i64 10),.cst (.int .i64 40)],none⟩,⟨none,.call (.fn 14) [.tmp 0,.tmp 1,.cst (.int .i64 0),.cst (.int .i64 0)],none⟩,⟨none,.mv (.tmp 2),none⟩,⟨none,.extract (.tmp 3) 0,none⟩,⟨none,.extract (.tmp 3) 1,none⟩,⟨none,.mv (.tmp 4),none⟩,⟨some 4,.mv (.tmp 5),none⟩]) (.seq (.region [⟨none,.load true 5 (.var 1),none⟩,⟨none,.buildF 1 [.cst (.int .i64 40),.cst (.int .i64 30)],none⟩,⟨none,.call (.fn 14) [.tmp 0,.tmp 1,.cst (.int .i64 0),.cst (.int .i64 0)],none⟩,⟨none,.mv (.tmp 2),none⟩,⟨none,.extract (.tmp 3) 0,none⟩,⟨none,.extract (.tmp 3) 1,none⟩,⟨some 5,.mv (.tmp 4),none⟩,⟨some 6,.mv (.tmp 5),none⟩]) (.seq (.region [⟨none,.load true 5 (.var 1),none⟩,⟨none,.buildF 1 [.cst (.int .i64 10),.cst (.int .i64 40)],none⟩,⟨none,.call (.fn 14) [.tmp 0,.tmp 1,.cst (.int .i64 0),.cst (.int .i64 2)],none⟩,⟨none,.mv (.tmp 2),none⟩,⟨none,.extract (.tmp 3) 0,none⟩,⟨none,.extract (.tmp 3) 1,none⟩,⟨some 7,.mv (.tmp 4),none⟩,⟨some 8,.mv (.tmp 5),none⟩]) (.seq (.region [⟨none,.load true 5 (.var 1),none⟩,⟨none,.buildF 1 [.cst (.int .i64 40),.cst (.int .i64 30)],none⟩,⟨none,.mv (.var 5),none⟩,⟨none,.call (.fn 17) [.tmp 0,.tmp 1,.cst (.int .i64 0),.tmp 2],none⟩,⟨none,.mv (.tmp 3),none⟩,⟨none,.extract (.tmp 4) 0,none⟩,⟨none,.extract (.tmp 4) 1,none⟩,⟨some 9,.mv (.tmp 5),none⟩,⟨some 10,.mv (.tmp 6),none⟩]) (.seq (.region [⟨none,.load true 5 (.var 1),none⟩,⟨none,.buildF 1 [.cst (.int .i64 40),.cst (.int .i64 30)],none⟩,⟨none,.build [.int .i64 0,.int .i64 0] [(0,(1,.cst (.int .i64 2))),(1,(1,.cst (.int .i64 30)))],none⟩,⟨none,.build [.int .i64 0,.int .i64 0] [(0,(1,.cst (.int .i64 1))),(1,(1,.cst (.int .i64 35)))],none⟩,⟨none,.buildF 2 [.tmp 2,.tmp 3],none⟩,⟨none,.call (.fn 17) [.tmp 0,.tmp 1,.cst (.int .i64 0),.tmp 4],none⟩,⟨none,.mv (.tmp 5),none⟩,⟨none,.extract (.tmp 6) 0,none⟩,⟨none,.extract (.tmp 6) 1,none⟩,⟨none,.mv (.tmp 7),none⟩,⟨some 11,.mv (.tmp 8),none⟩]) (.seq (.region [⟨none,.load true 5 (.var 1),none⟩,⟨none,.call (.fn 23) [.tmp 0],none⟩,⟨none,.mv (.tmp 1),none⟩,⟨none,.extract (.tmp 2) 0,none⟩,⟨none,.extract (.tmp 2) 1,none⟩,⟨some 12,.alloc 4 (.agg [.int .i64 0,.nilS,.nilS,.nilS]),none⟩,⟨none,.store 4 (.var 12) (.tmp 3),none⟩,⟨some 13,.mv (.tmp 4),none⟩]) (.seq (.region [⟨none,.load true 5 (.var 1),none⟩,⟨none,.load true 4 (.var 12),none⟩,⟨none,.call (.fn 24) [.tmp 0,.tmp 1,.cst (.int .i64 0)],none⟩,⟨none,.mv (.tmp 2),none⟩,⟨none,.extract (.tmp 3) 0,none⟩,⟨none,.extract (.tmp 3) 1,none⟩,⟨some 14,.mv (.tmp 4),none⟩,⟨some 15,.mv (.tmp 5),none⟩]) (.seq (.region [⟨none,.load true 5 (.var 1),none⟩,⟨none,.buildF 1 [.cst (.int .i64 40),.cst (.int .i64 30)],none⟩,⟨none,.load true 4 (.var 12),none⟩,⟨none,.call (.fn 25) [.tmp 0,.tmp 1,.cst (.int .i64 0),.tmp 2],none⟩,⟨none,.mv (.tmp 3),none⟩,⟨none,.extract (.tmp 4) 0,none⟩,⟨none,.extract (.tmp 4) 1,none⟩,⟨some 16,.mv (.tmp 5),none⟩,⟨some 17,.mv (.tmp 6),none⟩]) (.seq (.region [⟨none,.load true 5 (.var 1),none⟩,⟨none,.buildF 1 [.cst (.int .i64 10),.cst (.int .i64 40)],none⟩,⟨none,.load true 4 (.var 12),none⟩,⟨none,.call (.fn 25) [.tmp 0,.tmp 1,.cst (.int .i64 0),.tmp 2],none⟩,⟨none,.mv (.tmp 3),none⟩,⟨none,.extract (.tmp 4) 0,none⟩,⟨none,.extract (.tmp 4) 1,none⟩,⟨none,.mv (.tmp 5),none⟩,⟨some 18,.mv (.tmp 6),none⟩]) (.seq (.region [⟨none,.mv (.var 3),none⟩,⟨none,.mv (.tmp 0),none⟩,⟨none,.mv (.var 4),some (.tmp 1,true)⟩,⟨none,.un .not (.tmp 2),some (.tmp 1,true)⟩,⟨none,.pick (.tmp 1) (.tmp 3) (.cst (.bool false)),none⟩,⟨none,.mv (.tmp 4),none⟩,⟨none,.mv (.var 6),some (.tmp 5,true)⟩,⟨none,.pick (.tmp 5) (.tmp 6) (.cst (.bool false)),none⟩,⟨none,.mv (.tmp 7),none⟩,⟨none,.mv (.var 8),some (.tmp 8,true)⟩,⟨none,.pick (.tmp 8) (.tmp 9) (.cst (.bool false)),none⟩,⟨none,.mv (.tmp 10),none⟩,⟨none,.mv (.var 10),some (.tmp 11,true)⟩,⟨none,.pick (.tmp 11) (.tmp 12) (.cst (.bool false)),none⟩,⟨none,.mv (.tmp 13),none⟩,⟨none,.mv (.var 11),some (.tmp 14,true)⟩,⟨none,.un .not (.tmp 15),some (.tmp 14,true)⟩,⟨none,.pick (.tmp 14) (.tmp 16) (.cst (.bool false)),none⟩,⟨none,.mv (.tmp 17),none⟩,⟨none,.mv (.var 9),some (.tmp 18,true)⟩,⟨none,.bin .eql (.tmp 19) (.cst (.int .i64 78)),some (.tmp 18,true)⟩,⟨none,.pick (.tmp 18) (.tmp 20) (.cst (.bool false)),none⟩,⟨none,.mv (.tmp 21),none⟩,⟨none,.mv (.var 2),some (.tmp 22,true)⟩,⟨none,.build [.int .i64 0,.int .i64 0] [(0,(1,.cst (.int .i64 1))),(1,(1,.cst (.int .i64 10)))],some (.tmp 22,true)⟩,⟨none,.build [.int .i64 0,.int .i64 0] [(0,(1,.cst (.int .i64 2))),(1,(1,.cst (.int .i64 44)))],some (.tmp 22,true)⟩,⟨none,.buildF 2 [.tmp 24,.tmp 25],some (.tmp 22,true)⟩,⟨none,.call (.fn 16) [.tmp 23,.tmp 26],some (.tmp 22,true)⟩,⟨none,.pick (.tmp 22) (.tmp 27) (.cst (.bool false)),none⟩,⟨none,.mv (.tmp 28),none⟩,⟨none,.mv (.var 5),some (.tmp 29,true)⟩,⟨none,.lenSl (.tmp 30),some (.tmp 29,true)⟩,⟨none,.bin .eql (.tmp 31) (.cst (.int .i64 3)),some (.tmp 29,true)⟩,⟨none,.pick (.tmp 29) (.tmp 32) (.cst (.bool false)),none⟩,⟨none,.mv (.tmp 33),none⟩,⟨none,.mv (.var 7),some (.tmp 34,true)⟩,⟨none,.build [.int .i64 0,.int .i64 0] [(0,(1,.cst (.int .i64 1))),(1,(1,.cst (.int .i64 10)))],some (.tmp 34,true)⟩,⟨none,.buildF 2 [.tmp 36],some (.tmp 34,true)⟩,⟨none,.call (.fn 16) [.tmp 35,.tmp 37],some (.tmp 34,true)⟩,⟨none,.pick (.tmp 34) (.tmp 38) (.cst (.bool false)),none⟩,⟨some 19,.mv (.tmp 39),none⟩]) (.seq (.region [⟨none,.mv (.var 19),none⟩,⟨none,.mv (.tmp 0),none⟩,⟨none,.mv (.var 13),some (.tmp 1,true)⟩,⟨none,.bin .eql (.tmp 2) (.cst (.int .i64 0)),some (.tmp 1,true)⟩,⟨none,.pick (.tmp 1) (.tmp 3) (.cst (.bool false)),none⟩,⟨none,.mv (.tmp 4),none⟩,⟨none,.mv (.var 15),some (.tmp 5,true)⟩,⟨none,.bin .eql (.tmp 6) (.cst (.int .i64 0)),some (.tmp 5,true)⟩,⟨none,.pick (.tmp 5) (.tmp 7) (.cst (.bool false)),none⟩,⟨none,.mv (.tmp 8),none⟩,⟨none,.mv (.var 14),some (.tmp 9,true)⟩,⟨none,.lenSl (.tmp 10),some (.tmp 9,true)⟩,⟨none,.bin .eql (.tmp 11) (.cst (.int .i64 5)),some (.tmp 9,true)⟩,⟨none,.pick (.tmp 9) (.tmp 12) (.cst (.bool false)),none⟩,⟨none,.mv (.tmp 13),none⟩,⟨none,.mv (.var 14),some (.tmp 14,true)⟩,⟨none,.indexSl 2 (.tmp 15) (.cst (.int .i64 0)),some (.tmp 14,true)⟩,⟨none,.load true 2 (.tmp 16),some (.tmp 14,true)⟩,⟨none,.build [.int .i64 0,.int .i64 0] [(1,(1,.cst (.int .i64 2)))],some (.tmp 14,true)⟩,⟨none,.eqAgg false [(0,1),(1,1)] (.tmp 17) (.tmp 18),some (.tmp 14,true)⟩,⟨none,.pick (.tmp 14) (.tmp 19) (.cst (.bool false)),none⟩,⟨none,.mv (.tmp 20),none⟩,⟨none,.mv (.var 17),some (.tmp 21,true)⟩,⟨none,.bin .eql (.tmp 22) (.cst (.int .i64 0)),some (.tmp 21,true)⟩,⟨none,.pick (.tmp 21) (.tmp 23) (.cst (.bool false)),none⟩,⟨none,.mv (.tmp 24),none⟩,⟨none,.mv (.var 16),some (.tmp 25,true)⟩,⟨none,.lenSl (.tmp 26),some (.tmp 25,true)⟩,⟨none,.bin .eql (.tmp 27) (.cst (.int .i64 8)),some (.tmp 25,true)⟩,⟨none,.pick (.tmp 25) (.tmp 28) (.cst (.bool false)),none⟩,⟨none,.mv (.tmp 29),none⟩,⟨none,.mv (.var 18),some (.tmp 30,true)⟩,⟨none,.bin .eql (.tmp 31) (.cst (.int .i64 140)),some (.tmp 30,true)⟩,⟨none,.pick (.tmp 30) (.tmp 32) (.cst (.bool false)),none⟩,⟨some 0,.mv (.tmp 33),none⟩]) .ret))))))))))))),[.tmp 0]⟩
theorem HH:aE Try.prog Try.f11 0 [0,1,2,3,5,6,7,8,9,10,11,13,14,15,16,17,18,19,21,22] [] true ([],[])=some MA:=by kernel_rfl
theorem at11:Try.prog.funcs[11]?=some Try.f11:=by kernel_rfl
def Jv:cu:=⟨1,6,.seq (.region [⟨some 1,.box (.var 0),none⟩,⟨some 2,.alloc 5 (.agg [.nilS,.int .i64 0,.int .i64 0,.int .i64 0,.int .i64 0]),none⟩,⟨some 3,.mv (.cst .nilS),none⟩,⟨some 4,.mv (.cst (.int .i64 0)),none⟩]) (.seq (.region [⟨none,.fieldAddr 0 (.var 1),none⟩,⟨none,.load false 1 (.tmp 0),none⟩,⟨none,.fieldAddr 1 (.var 1),none⟩,⟨none,.load true 3 (.tmp 2),none⟩,⟨none,.call (.fn 27) [.tmp 1,.tmp 3],none⟩,⟨some 5,.alloc 5 (.agg [.nilS,.int .i64 0,.int .i64 0,.int .i64 0,.int .i64 0]),none⟩,⟨none,.store 5 (.var 5) (.tmp 4),none⟩]) (.seq (.region [⟨none,.load true 5 (.var 5),none⟩,⟨none,.load true 5 (.var 5),none⟩,⟨none,.fieldAddr 4 (.var 1),none⟩,⟨none,.load false 1 (.tmp 2),none⟩,⟨none,.call (.fn 28) [.tmp 1,.tmp 3],none⟩,⟨none,.fieldAddr 5 (.var 1),none⟩,⟨none,.load false 1 (.tmp 5),none⟩,⟨none,.call (.fn 21) [.tmp 6,.cst (.int .i64 60)],none⟩,⟨none,.store 5 (.var 2) (.tmp 0),none⟩,⟨some 3,.mv (.tmp 4),none⟩,⟨some 4,.mv (.tmp 7),none⟩]) .ret)),[.cell 2 true 5,.tmp 3,.tmp 4]⟩
theorem HF:aE Try.prog Try.f13 1 [0,1,2,3,4,5] [28,21] true ([],[])=some Jv:=by kernel_rfl
theorem at13:Try.prog.funcs[13]?=some Try.f13:=by kernel_rfl
def iV:MC:=.seq (.seq (.region [⟨none,.mv (.var 3),none⟩,⟨none,.mv (.var 0),none⟩,⟨none,.lenSl (.tmp 1),none⟩,⟨some 5,.bin .lss (.tmp 0) (.tmp 2),none⟩]) (.cond (.var 5) .skip (.exit 0))) (.seq (.seq (.block 1 (.seq (.region [⟨none,.mv (.var 0),none⟩,⟨none,.mv (.var 3),none⟩,⟨none,.indexSl 2 (.tmp 0) (.tmp 1),none⟩,⟨none,.load true 2 (.tmp 2),none⟩,⟨none,.mv (.var 1),none⟩,⟨none,.mv (.var 3),none⟩,⟨none,.indexSl 2 (.tmp 4) (.tmp 5),none⟩,⟨none,.load true 2 (.tmp 6),none⟩,⟨some 6,.eqAgg true [(0,1),(1,1)] (.tmp 3) (.tmp 7),none⟩]) (.cond (.var 6) (.seq (.region [⟨some 2,.mv (.cst (.bool false)),none⟩]) .ret) .skip))) (.kill [2,4,5,6])) (.region [⟨none,.mv (.var 3),none⟩,⟨none,.bin .add (.tmp 0) (.cst (.int .i64 1)),none⟩,⟨some 3,.mv (.tmp 1),none⟩]))
def pS:cu:=⟨2,7,.seq (.region [⟨some 2,.mv (.cst (.bool false)),none⟩]) (.seq (.seq (.region [⟨none,.mv (.var 0),none⟩,⟨none,.lenSl (.tmp 0),none⟩,⟨none,.mv (.var 1),none⟩,⟨none,.lenSl (.tmp 2),none⟩,⟨some 4,.bin .neq (.tmp 1) (.tmp 3),none⟩]) (.cond (.var 4) (.seq (.region [⟨some 2,.mv (.cst (.bool false)),none⟩]) .ret) .skip)) (.seq (.seq (.region [⟨some 3,.mv (.cst (.int .i64 0)),none⟩]) (.seq (.block 0 (.loop [2,4,5,6] iV)) (.kill [0,1,2,3,4,5,6]))) (.seq (.region [⟨some 2,.mv (.cst (.bool true)),none⟩]) .ret))),[.tmp 2]⟩
def ir:List Nat:=[2,4,5,6]
abbrev lr (v0 v1 v3:AV):List AV:=[v0,v1,.undef,v3,.undef,.undef,.undef]
theorem CI {v0 v1 d2 v3 d4 d5 d6:AV}:clear ir [v0,v1,d2,v3,d4,d5,d6]=lr v0 v1 v3:=rfl
theorem Ch {E:Env} {fuel:Nat} {A:aa} {o:Out} {k:List KC} {v0 v1 d2 v3 d4 d5 d6:AV} (h:bX (evC E fuel iV) ir fuel (lr v0 v1 v3) A=some o) :
  run E fuel (.code (.loop [2,4,5,6] iV) :: k) [v0,v1,d2,v3,d4,d5,d6] A=after E fuel k o:=aS ir _ _ (by rw [CI]; exact h)
theorem sI:aE Try.prog Try.f16 2 [0,1,4,5,10,14,25] [] true ([[2,4,5,6]],[[2,4,5,6],[0,1,2,3,4,5,6]])=some pS:=by kernel_rfl
theorem HR:Try.prog.funcs[16]?=some Try.f16:=by kernel_rfl
def Fd:cu:=⟨2,4,.seq (.region [⟨some 2,.mv (.cst (.int .i64 0)),none⟩]) (.seq (.seq (.region [⟨none,.mv (.var 0),none⟩,⟨some 3,.bin .lss (.tmp 0) (.cst (.int .i64 0)),none⟩]) (.cond (.var 3) (.region [⟨none,.mv (.var 0),none⟩,⟨none,.bin .add (.tmp 0) (.cst (.int .i64 1)),none⟩,⟨none,.un .neg (.tmp 1),none⟩,⟨some 0,.mv (.tmp 2),none⟩]) .skip)) (.seq (.region [⟨none,.mv (.var 0),none⟩,⟨none,.mv (.var 1),none⟩,⟨none,.bin .rem (.tmp 0) (.tmp 1),none⟩,⟨some 2,.mv (.tmp 2),none⟩]) .ret)),[.tmp 2]⟩
theorem Ct:aE Try.prog Try.f21 2 [0,1,4,6] [] true ([],[])=some Fd:=by kernel_rfl
theorem M4:Try.prog.funcs[21]?=some Try.f21:=by kernel_rfl
def Ac:cu:=⟨1,3,.seq (.region [⟨some 1,.box (.var 0),none⟩,⟨some 2,.mv (.cst (.int .i64 0)),none⟩]) (.seq (.region [⟨none,.fieldAddr 1 (.var 1),none⟩,⟨none,.load false 1 (.tmp 0),none⟩,⟨none,.fieldAddr 3 (.var 1),none⟩,⟨none,.load false 1 (.tmp 2),none⟩,⟨none,.bin .add (.tmp 1) (.tmp 3),none⟩,⟨none,.fieldAddr 2 (.var 1),none⟩,⟨none,.load false 1 (.tmp 5),none⟩,⟨none,.bin .add (.tmp 4) (.tmp 6),none⟩,⟨some 2,.mv (.tmp 7),none⟩]) .ret),[.tmp 2]⟩
theorem yT:aE Try.prog Try.f22 1 [0,1,2] [] true ([],[])=some Ac:=by kernel_rfl
theorem LW:Try.prog.funcs[22]?=some Try.f22:=by kernel_rfl
def rO:cu:=⟨0,1,.seq (.region [⟨some 0,.alloc 5 (.agg [.nilS,.int .i64 0,.int .i64 0,.int .i64 0,.int .i64 0]),none⟩]) (.seq (.region [⟨none,.build [.int .i64 0,.int .i64 0] [(0,(1,.cst (.int .i64 20))),(1,(1,.cst (.int .i64 12)))],none⟩,⟨none,.build [.int .i64 0,.int .i64 0] [(0,(1,.cst (.int .i64 30))),(1,(1,.cst (.int .i64 12)))],none⟩,⟨none,.buildSlice 2 [.tmp 0,.tmp 1],none⟩,⟨none,.build [.nilS,.int .i64 0,.int .i64 0,.int .i64 0,.int .i64 0] [(0,(1,.tmp 2)),(1,(1,.cst (.int .i64 1))),(2,(1,.cst (.int .i64 1))),(3,(1,.cst (.int .i64 2))),(4,(1,.cst (.int .i64 1)))],none⟩,⟨none,.store 5 (.var 0) (.tmp 3),none⟩]) .ret),[.cell 0 true 5]⟩
theorem sH:aE Try.prog Try.f26 0 [0] [] true ([],[])=some rO:=by kernel_rfl
theorem HQ:Try.prog.funcs[26]?=some Try.f26:=by kernel_rfl
def dZ:MC:=.seq (.seq (.region [⟨none,.mv (.var 5),none⟩,⟨none,.mv (.var 0),none⟩,⟨none,.lenSl (.tmp 1),none⟩,⟨none,.minmax false (.tmp 2) [.cst (.int .i64 4)],none⟩,⟨none,.minmax true (.cst (.int .i64 1)) [.tmp 3],none⟩,⟨some 7,.bin .lss (.tmp 0) (.tmp 4),none⟩]) (.cond (.var 7) .skip (.exit 0))) (.seq (.seq (.block 1 (.seq (.region [⟨none,.build [.int .i64 0,.int .i64 0] [(0,(1,.cst (.int .i64 20))),(1,(1,.cst (.int .i64 30)))],none⟩,⟨some 6,.alloc 2 (.agg [.int .i64 0,.int .i64 0]),none⟩,⟨none,.store 2 (.var 6) (.tmp 0),none⟩]) (.seq (.seq (.region [⟨none,.mv (.var 5),none⟩,⟨none,.mv (.var 0),none⟩,⟨none,.lenSl (.tmp 1),none⟩,⟨some 8,.bin .lss (.tmp 0) (.tmp 2),none⟩]) (.cond (.var 8) (.seq (.region [⟨none,.mv (.var 0),none⟩,⟨none,.mv (.var 5),none⟩,⟨none,.indexSl 2 (.tmp 0) (.tmp 1),none⟩,⟨none,.indexArr 2 1 (.tmp 2) (.cst (.int .i64 0)),none⟩,⟨none,.load false 1 (.tmp 3),none⟩,⟨none,.call (.fn 50) [.tmp 4,.cst (.int .i64 60)],none⟩,⟨none,.fieldAddr 0 (.var 6),none⟩,⟨none,.store 1 (.tmp 6) (.tmp 5),none⟩]) (.seq (.region [⟨none,.mv (.var 0),none⟩,⟨none,.mv (.var 5),none⟩,⟨none,.indexSl 2 (.tmp 0) (.tmp 1),none⟩,⟨none,.indexArr 2 1 (.tmp 2) (.cst (.int .i64 1)),none⟩,⟨none,.load false 1 (.tmp 3),none⟩,⟨none,.call (.fn 50) [.tmp 4,.cst (.int .i64 50)],none⟩,⟨none,.fieldAddr 1 (.var 6),none⟩,⟨none,.store 1 (.tmp 6) (.tmp 5),none⟩]) (.seq (.region [⟨none,.mv (.var 0),none⟩,⟨none,.mv (.var 5),none⟩,⟨none,.indexSl 2 (.tmp 0) (.tmp 1),none⟩,⟨none,.indexArr 2 1 (.tmp 2) (.cst (.int .i64 1)),none⟩,⟨none,.load false 1 (.tmp 3),none⟩,⟨none,.bin .quo (.tmp 4) (.cst (.int .i64 50)),none⟩,⟨none,.call (.fn 50) [.tmp 5,.cst (.int .i64 3)],none⟩,⟨some 9,.bin .eql (.tmp 6) (.cst (.int .i64 0)),none⟩]) (.cond (.var 9) (.region [⟨none,.fieldAddr 1 (.var 6),none⟩,⟨none,.load false 1 (.tmp 0),none⟩,⟨none,.bin .add (.tmp 1) (.cst (.int .i64 200)),none⟩,⟨none,.fieldAddr 1 (.var 6),none⟩,⟨none,.store 1 (.tmp 3) (.tmp 2),none⟩]) .skip)))) .skip)) (.region [⟨none,.fieldAddr 0 (.var 4),none⟩,⟨none,.load false 1 (.tmp 0),none⟩,⟨none,.load true 2 (.var 6),none⟩,⟨none,.buildF 2 [.tmp 2],none⟩,⟨none,.append 2 16 (.tmp 1) (.tmp 3),none⟩,⟨none,.fieldAddr 0 (.var 4),none⟩,⟨none,.store 1 (.tmp 5) (.tmp 4),none⟩])))) (.kill [1,2,6,7,8,9])) (.region [⟨none,.mv (.var 5),none⟩,⟨none,.bin .add (.tmp 0) (.cst (.int .i64 1)),none⟩,⟨some 5,.mv (.tmp 1),none⟩]))
def AN:cu:=⟨2,10,.seq (.region [⟨some 2,.box (.var 1),none⟩,⟨some 3,.alloc 5 (.agg [.nilS,.int .i64 0,.int .i64 0,.int .i64 0,.int .i64 0]),none⟩]) (.seq (.regionD [50] [⟨none,.indexArr 3 1 (.var 2) (.cst (.int .i64 0)),none⟩,⟨none,.load false 1 (.tmp 0),none⟩,⟨none,.call (.fn 50) [.tmp 1,.cst (.int .i64 4)],none⟩,⟨none,.indexArr 3 1 (.var 2) (.cst (.int .i64 1)),none⟩,⟨none,.load false 1 (.tmp 3),none⟩,⟨none,.call (.fn 50) [.tmp 4,.cst (.int .i64 4)],none⟩,⟨none,.indexArr 3 1 (.var 2) (.cst (.int .i64 2)),none⟩,⟨none,.load false 1 (.tmp 6),none⟩,⟨none,.call (.fn 50) [.tmp 7,.cst (.int .i64 5)],none⟩,⟨none,.build [.nilS,.int .i64 0,.int .i64 0,.int .i64 0,.int .i64 0] [(4,(1,.cst (.int .i64 1))),(1,(1,.tmp 2)),(2,(1,.tmp 5)),(3,(1,.tmp 8))],none⟩,⟨some 4,.alloc 5 (.agg [.nilS,.int .i64 0,.int .i64 0,.int .i64 0,.int .i64 0]),none⟩,⟨none,.store 5 (.var 4) (.tmp 9),none⟩] [(0,10),(1,10),(2,10),(3,10),(4,10),(5,10),(6,10),(7,10),(8,10)]) (.seq (.seq (.region [⟨some 5,.mv (.cst (.int .i64 0)),none⟩]) (.seq (.block 0 (.loop [1,2,6,7,8,9] dZ)) (.kill [0,1,2,5,6,7,8,9]))) (.seq (.region [⟨none,.load true 5 (.var 4),none⟩,⟨none,.store 5 (.var 3) (.tmp 0),none⟩]) .ret))),[.cell 3 true 5]⟩
def mL:List Nat:=[1,2,6,7,8,9]
abbrev pG (v0 v3 v4 v5:AV):List AV:=[v0,.undef,.undef,v3,v4,v5,.undef,.undef,.undef,.undef]
theorem zd {v0 d1 d2 v3 v4 v5 d6 d7 d8 d9:AV}:clear mL [v0,d1,d2,v3,v4,v5,d6,d7,d8,d9]=pG v0 v3 v4 v5:=rfl
theorem GV {E:Env} {fuel:Nat} {A:aa} {o:Out} {k:List KC} {v0 d1 d2 v3 v4 v5 d6 d7 d8 d9:AV} (h:bX (evC E fuel dZ) mL fuel (pG v0 v3 v4 v5) A=some o) :
  run E fuel (.code (.loop [1,2,6,7,8,9] dZ) :: k) [v0,d1,d2,v3,v4,v5,d6,d7,d8,d9] A=after E fuel k o:=aS mL _ _ (by rw [zd]; exact h)
theorem yR:aE Try.prog Try.f27 2 [0,1,3,4,5,6,7,23,30,52] [50] true ([[1,2,6,7,8,9]],[[1,2,6,7,8,9],[0,1,2,5,6,7,8,9]])=some AN:=by kernel_rfl
theorem LU:Try.prog.funcs[27]?=some Try.f27:=by kernel_rfl
def jV:MC:=.seq (.seq (.region [⟨none,.mv (.var 5),none⟩,⟨none,.mv (.var 4),none⟩,⟨none,.lenSl (.tmp 1),none⟩,⟨some 6,.bin .lss (.tmp 0) (.tmp 2),none⟩]) (.cond (.var 6) .skip (.exit 0))) (.seq (.seq (.block 1 (.seq (.region [⟨none,.mv (.var 4),none⟩,⟨none,.mv (.var 5),none⟩,⟨none,.indexSl 1 (.tmp 0) (.tmp 1),none⟩,⟨none,.store 1 (.tmp 2) (.cst (.int .i64 (-1))),none⟩]) (.seq (.region [⟨none,.mv (.var 5),none⟩,⟨none,.mv (.var 1),none⟩,⟨none,.lenSl (.tmp 1),none⟩,⟨none,.bin .lss (.tmp 0) (.tmp 2),none⟩,⟨none,.mv (.tmp 3),none⟩,⟨none,.mv (.var 1),some (.tmp 4,true)⟩,⟨none,.mv (.var 5),some (.tmp 4,true)⟩,⟨none,.indexSl 1 (.tmp 5) (.tmp 6),some (.tmp 4,true)⟩,⟨none,.load false 1 (.tmp 7),some (.tmp 4,true)⟩,⟨none,.call (.fn 50) [.tmp 8,.cst (.int .i64 4)],some (.tmp 4,true)⟩,⟨none,.bin .gtr (.tmp 9) (.cst (.int .i64 0)),some (.tmp 4,true)⟩,⟨some 7,.pick (.tmp 4) (.tmp 10) (.cst (.bool false)),none⟩]) (.cond (.var 7) (.region [⟨none,.mv (.var 4),none⟩,⟨none,.mv (.var 5),none⟩,⟨none,.mv (.var 1),none⟩,⟨none,.mv (.var 5),none⟩,⟨none,.indexSl 1 (.tmp 2) (.tmp 3),none⟩,⟨none,.load false 1 (.tmp 4),none⟩,⟨none,.bin .quo (.tmp 5) (.cst (.int .i64 4)),none⟩,⟨none,.call (.fn 50) [.tmp 6,.cst (.int .i64 120)],none⟩,⟨none,.indexSl 1 (.tmp 0) (.tmp 1),none⟩,⟨none,.store 1 (.tmp 8) (.tmp 7),none⟩]) .skip)))) (.kill [0,2,3,6,7])) (.region [⟨none,.mv (.var 5),none⟩,⟨none,.bin .add (.tmp 0) (.cst (.int .i64 1)),none⟩,⟨some 5,.mv (.tmp 1),none⟩]))
def Ju:cu:=⟨2,8,.seq (.region [⟨some 2,.box (.var 0),none⟩,⟨some 3,.mv (.cst .nilS),none⟩]) (.seq (.region [⟨none,.fieldAddr 0 (.var 2),none⟩,⟨none,.load false 1 (.tmp 0),none⟩,⟨none,.lenSl (.tmp 1),none⟩,⟨none,.makeSlice 1 8 (.int .i64 0) (.tmp 2) (.tmp 2),none⟩,⟨some 4,.mv (.tmp 3),none⟩]) (.seq (.seq (.region [⟨some 5,.mv (.cst (.int .i64 0)),none⟩]) (.seq (.block 0 (.loop [0,2,3,6,7] jV)) (.kill [0,1,2,3,5,6,7]))) (.seq (.region [⟨none,.mv (.var 4),none⟩,⟨some 3,.mv (.tmp 0),none⟩]) .ret))),[.tmp 3]⟩
def mK:List Nat:=[0,2,3,6,7]
abbrev pF (v1 v4 v5:AV):List AV:=[.undef,v1,.undef,.undef,v4,v5,.undef,.undef]
theorem y9 {d0 v1 d2 d3 v4 v5 d6 d7:AV}:clear mK [d0,v1,d2,d3,v4,v5,d6,d7]=pF v1 v4 v5:=rfl
theorem GU {E:Env} {fuel:Nat} {A:aa} {o:Out} {k:List KC} {d0 v1 d2 d3 v4 v5 d6 d7:AV} (h:bX (evC E fuel jV) mK fuel (pF v1 v4 v5) A=some o) :
  run E fuel (.code (.loop [0,2,3,6,7] jV) :: k) [d0,v1,d2,d3,v4,v5,d6,d7] A=after E fuel k o:=aS mK _ _ (by rw [y9]; exact h)
theorem HB:aE Try.prog Try.f28 2 [0,1,2,4,5,6,14,31] [] true ([[0,2,3,6,7]],[[0,2,3,6,7],[0,1,2,3,5,6,7]])=some Ju:=by kernel_rfl
theorem at28:Try.prog.funcs[28]?=some Try.f28:=by kernel_rfl
def Ei:cu:=⟨2,4,.seq (.region [⟨some 2,.mv (.cst (.int .i64 0)),none⟩]) (.seq (.seq (.region [⟨none,.mv (.var 0),none⟩,⟨some 3,.bin .lss (.tmp 0) (.cst (.int .i64 0)),none⟩]) (.cond (.var 3) (.region [⟨none,.mv (.var 0),none⟩,⟨none,.bin .add (.tmp 0) (.cst (.int .i64 1)),none⟩,⟨none,.un .neg (.tmp 1),none⟩,⟨some 0,.mv (.tmp 2),none⟩]) .skip)) (.seq (.region [⟨none,.mv (.var 0),none⟩,⟨none,.mv (.var 1),none⟩,⟨none,.bin .rem (.tmp 0) (.tmp 1),none⟩,⟨some 2,.mv (.tmp 2),none⟩]) .ret)),[.tmp 2]⟩
theorem yG:aE Try.prog Try.f50 2 [0,1,4,6] [] true ([],[])=some Ei:=by kernel_rfl
theorem LH:Try.prog.funcs[50]?=some Try.f50:=by kernel_rfl
end Tr
namespace Tr
open Go
open Cy (GC aN bj aB)
open Clu (aQ aX aw chA a8 ee cO cW)
def M16:aO:=fun args=>evP (ax GC []) 300 pS 1 args
theorem lx:an Try.prog GC 16 M16:=an.of_ev (E:=ax GC []) (au az) rfl HR sI 1 fun _ _ h=>⟨300,h⟩
theorem qm {xs ys:List cP} {a b:AV} (ha:SlA 2 (xs.map a0) a) (hb:SlA 2 (ys.map a0) b) (hl:xs.length<=200) (hl2:ys.length<=200):M16 [a,b]=some (.bool (decide (xs=ys))):=by
 have hla:=ha.len
 have hlb:=hb.len
 rw [List.length_map] at hla hlb
 have b0:ag .neq (.int .i64 (xs.length:Int)) (.int .i64 (ys.length:Int))=some (.bool (decide (xs.length≠ys.length))):=by
  rw [cW]
  congr 2
  exact decide_eq_decide.2 (by omega)
 by_cases h0:xs.length≠ys.length
 ·rw [decide_eq_true h0] at b0
  rw [decide_eq_false (fun h=>h0 (by rw [h]))]
  unfold M16
  rw [aL _ _ rfl]
  simp [pS,hla,hlb,b0,-ag,-aq]
 have h0:xs.length=ys.length:=Classical.not_not.1 h0
 rw [decide_eq_false (by omega)] at b0
 have round:∀(A:aa) (i:Nat) (hi:i<xs.length),run (ax GC []) 300 [.code iV] (lr a b (.int .i64 (i:Int))) A =
   if xs[i]=ys[i]'(by omega) then some (.normal (lr a b (.int .i64 ((i+1:Nat):Int))) A) else some (.ret [a,b,.bool false,.int .i64 (i:Int),.undef,.bool true,.bool true] A):=fun A i hi=>by
  have x1:=ha.index (A:=A) (x:=a0 xs[i]) (i:=i) (by simp [hi]) rfl (by omega) .i64
  have x2:=hb.index (A:=A) (x:=a0 (ys[i]'(by omega))) (i:=i) (by simp [show i<ys.length by omega]) rfl (by omega) .i64
  obtain ⟨p,hp⟩:∃p,p=xs[i]:=⟨_,rfl⟩
  obtain ⟨q,hq⟩:∃q,q=ys[i]'(by omega):=⟨_,rfl⟩
  rw [<-hp] at x1 ⊢
  rw [<-hq] at x2 ⊢
  have ea:gk true [(0,1),(1,1)] (a0 p) (a0 q)=some (.bool (decide (p≠q))):=by
   obtain ⟨a1,a2⟩:=p
   obtain ⟨c1,c2⟩:=q
   simp only [a0,gk,oz,eqK]
   by_cases e1:a1=c1 <;> by_cases e2:a2=c2 <;> simp [e1,e2]
  have b1:=bh i xs.length .i64
  rw [decide_eq_true hi] at b1
  have b3:=a5 i (by omega)
  have l1:∀z:cP,ac true 2 A (.fp (cellsOf (a0 z)))=some (a0 z):=fun z=>rfl
  obtain ⟨P,hP⟩:∃P,P=cellsOf (a0 p):=⟨_,rfl⟩
  obtain ⟨Q,hQ⟩:∃P,P=cellsOf (a0 q):=⟨_,rfl⟩
  have l2:=l1 p
  have l3:=l1 q
  rw [<-hP] at x1 l2
  rw [<-hQ] at x2 l3
  obtain ⟨i1,hi1⟩:∃i1:Nat,i1=i+1:=⟨_,rfl⟩
  rw [<-hi1] at b3 ⊢
  by_cases hd:p=q
  ·rw [decide_eq_false (by simpa using hd)] at ea
   rw [if_pos hd]
   simp [iV,hla,x1,x2,l2,l3,ea,b1,b3,-ag,-ai,-aq,-ac,-gk]
  ·rw [decide_eq_true (by simpa using hd)] at ea
   rw [if_neg hd]
   simp [iV,hla,x1,x2,l2,l3,ea,b1,-ag,-ai,-aq,-ac,-gk]
 have bE:=bh xs.length xs.length .i64
 rw [decide_eq_false (by omega)] at bE
 unfold M16
 rw [aL _ _ rfl]
 rcases cE (E:=ax GC []) (fuel:=300) (a:=iV) (mask:=ir) (fun i=>lr a b (.int .i64 (i:Int))) (fun _=>[]) xs.length (fun i=>¬ ∀(hi:i<xs.length),xs[i]=ys[i]'(by omega))
  (oF:=fun i=>.ret [a,b,.bool false,.int .i64 (i:Int),.undef,.bool true,.bool true] []) (oE:=.exit 0 ((lr a b (.int .i64 (xs.length:Int))).set 5 (.bool false)) [])
  (fun _=>CI) (fun _ _ _ h=>by cases h) (fun _ _ h=>by cases h)
  (fun i hi hp=>by
   rw [round [] i hi]
   exact if_pos (Classical.not_not.1 hp hi))
  (fun i hi hp=>by
   rw [round [] i hi]
   exact if_neg fun h=>hp fun _=>h)
  (by simp [iV,hla,bE,-ag,-aq]) (show xs.length<300 by omega) with ⟨i,hi,hp,hj,lp⟩ | ⟨hp,lp⟩
 ·have lp:bX (evC (ax GC []) 300 iV) ir 300 (lr a b (.int .i64 0)) []=_:=lp
  rw [decide_eq_false (fun h=>hp (fun _=>by subst h; rfl))]
  simp [pS,hla,hlb,b0,Ch lp,-ag,-aq]
 ·have lp:bX (evC (ax GC []) 300 iV) ir 300 (lr a b (.int .i64 0)) []=_:=lp
  rw [decide_eq_true (List.ext_getElem h0 fun i h1 h2=>Classical.not_not.1 (hp i h1) h1)]
  simp [pS,hla,hlb,b0,Ch lp,-ag,-aq]
theorem F8:Ei=Cy.Gq:=rfl
theorem w9:an Try.prog GC 50 Cy.M12:=by
 refine an.of_ev (E:=ax GC []) (au az) rfl LH yG 1 ?_
 intro args r h
 unfold Cy.M12 at h
 split at h
 ·simp only [Option.ite_none_right_eq_some,Option.some.injEq] at h
  obtain ⟨⟨h1,h2⟩,rfl⟩:=h
  exact ⟨0,by rw [F8]; exact Cy.MW _ _ _ h1 h2⟩
 ·cases h
end Tr
namespace Tr
open Go
open Cy (GC aN bj aB)
open Clu (aQ aX cA Chk aw chA uN iG pw t1 nA a8 bL cW a6 cZ)
def M22:aO:=fun args=>evP (ax GC []) 300 Ac 1 args
theorem uH:an Try.prog GC 22 M22:=an.of_ev (E:=ax GC []) (au az) rfl LW yT 1 fun _ _ h=>⟨300,h⟩
theorem CT {T:aQ} (chv:AV) (hv:aX T):M22 [aw T chv]=some (.int .i64 (wT T)):=by
 obtain ⟨_,⟨h1,h2,h3⟩,_⟩:=hv
 have b1:ag .add (.int .i64 T.pick) (.int .i64 T.travel)=some (.int .i64 (T.pick+T.travel)):=a8 (by omega)
 have b2:ag .add (.int .i64 (T.pick+T.travel)) (.int .i64 T.place)=some (.int .i64 (wT T)):=a8 (by omega)
 unfold M22
 rw [aL _ _ rfl]
 simp [Ac,aw,b1,b2,-ag]
def M26:aO:=fun args=>evP (ax GC []) 300 rO 4 args
theorem xh:an Try.prog GC 26 M26:=an.of_ev (E:=ax GC []) (au az) rfl HQ sH 4 fun _ _ h=>⟨300,h⟩
abbrev M2:AV:=.fs 2 [.agg [.int .i64 20,.int .i64 12],.agg [.int .i64 30,.int .i64 12]]
abbrev tA1:AV:=.agg [M2,.int .i64 1,.int .i64 1,.int .i64 2,.int .i64 1]
theorem qk:M26 []=some tA1:=by
 unfold M26
 rw [aL _ _ rfl]
 simp [rO]
def A8:List (FuncId × aG):=[(26,aD 4 M26),(14,aD 4 M14),(17,aD 4 M17),(23,aD 4 Clu.M22),(24,aD 4 M24),(25,aD 4 M25),(16,aD 4 M16)]
@[simp] theorem Lr:aC A8 26=some (aD 4 M26):=rfl
@[simp] theorem Lx:aC A8 14=some (aD 4 M14):=rfl
@[simp] theorem Lv:aC A8 17=some (aD 4 M17):=rfl
@[simp] theorem Lu:aC A8 23=some (aD 4 Clu.M22):=rfl
@[simp] theorem Lt:aC A8 24=some (aD 4 M24):=rfl
@[simp] theorem Ls:aC A8 25=some (aD 4 M25):=rfl
@[simp] theorem Lw:aC A8 16=some (aD 4 M16):=rfl
theorem DI:∀f M,aC A8 f=some M->aj Try.prog GC f M:=af (aj.of_pure xh 4) (af (aj.of_pure Df 4) (af (aj.of_pure uJ 4) (af (aj.of_pure Clu.uH 4) (af (aj.of_pure xi 4) (af (aj.of_pure BE 4) (af (aj.of_pure lx 4) az))))))
def M11:aO:=fun args=>match args with
 | []=>some (.bool true)
 | _=>none
abbrev i3 (a b c:Int):AV:=.fs 1 [.int .i64 a,.int .i64 b,.int .i64 c]
abbrev i2 (a b:Int):AV:=.fs 1 [.int .i64 a,.int .i64 b]
theorem uM {e:Nat} {x:AV} {xs:List AV} {v:AV} (h:SlA e (x :: xs) v):v=.fs e (x :: xs):=by
 rcases h with ⟨_,h⟩ | h
 ·cases h
 ·exact h
theorem dm0 {T:aQ} {rd:List Int} {free:Int}:db T rd free 0=ba T rd free:=oG T rd free
theorem DL (s:cA) (A:aa) (n:Nat):frz A (n+1) (uN s)=uN s:=by
 have k:=fun o=>(be 1 (ak o)).frz (A:=A) n
 simp [uN,frz,k,aN]
open Classical in
theorem F0:an Try.prog GC 11 M11:=by
 refine an.of_ev (E:=ax GC A8) (au DI) rfl at11 HH 1 ?_
 intro args r h
 unfold M11 at h
 split at h
 rotate_left
 ·cases h
 injection h with h; subst h
 refine ⟨0,?_⟩
 have h12:SlA 2 (t1.ch.map chA) M2:=.inr rfl
 have hi:∀a b:Int,SlA 1 (ak [a,b]) (i2 a b):=fun a b=>.inr rfl
 obtain ⟨s,hs,hc,h1,h2,h3⟩:=HM
 have sV:=nA hc
 obtain ⟨va,ma,ra⟩:=l7 (free:=0) (lost:=0) h12 (hi 10 (-1)) (by decide) (by decide)
 rw [dm0,dr_a] at ma ra
 obtain ⟨vb,mb,rb⟩:=l7 (free:=0) (lost:=0) h12 (hi 10 40) (by decide) (by decide)
 rw [dm0,MZ] at mb rb
 obtain ⟨vc,mc,rc⟩:=l7 (free:=0) (lost:=0) h12 (hi 40 30) (by decide) (by decide)
 rw [dm0,MY] at mc rc
 obtain ⟨vd,md,rd⟩:=l7 (free:=0) (lost:=2) h12 (hi 10 40) (by decide) (by decide)
 rw [dr_d] at md rd
 have ea:=uM ra
 have ec:=uM rc
 have ed:=uM rd
 have ma:M14 [tA1,i2 10 (-1),.int .i64 0,.int .i64 0]=some (.tup [va,.bool true]):=ma
 have mb:M14 [tA1,i2 10 40,.int .i64 0,.int .i64 0]=some (.tup [vb,.bool false]):=mb
 have mc:M14 [tA1,i2 40 30,.int .i64 0,.int .i64 0]=some (.tup [vc,.bool true]):=mc
 have md:M14 [tA1,i2 10 40,.int .i64 0,.int .i64 2]=some (.tup [vd,.bool true]):=md
 have k1:=ql h12 (by decide) (hi 40 30) (by decide) 0 rc (by decide)
 rw [show (some [((2:Int),(30:Int)),(1,40),(2,74)]).getD []=[(2,30),(1,40),(2,74)] from rfl,M0] at k1
 have k1:M17 [tA1,i2 40 30,.int .i64 0,vc]=some (.tup [.int .i64 78,.bool true]):=k1
 have k2:=ql h12 (by decide) (hi 40 30) (by decide) 0 (l:=[(2,30),(1,35)]) (.inr rfl) (by decide)
 rw [ck_d] at k2
 have k2:M17 [tA1,i2 40 30,.int .i64 0,.fs 2 [.agg [.int .i64 2,.int .i64 30],.agg [.int .i64 1,.int .i64 35]]]=some (.tup [.int .i64 0,.bool false]):=k2
 have e1:=qm ra (ys:=[(1,10),(2,44)]) (.inr rfl) (by decide) (by decide)
 have e1:M16 [va,.fs 2 [.agg [.int .i64 1,.int .i64 10],.agg [.int .i64 2,.int .i64 44]]]=some (.bool true):=e1
 have e2:=qm rd (ys:=[(1,10)]) (.inr rfl) (by decide) (by decide)
 have e2:M16 [vd,.fs 2 [.agg [.int .i64 1,.int .i64 10]]]=some (.bool true):=e2
 have b1:=Clu.CT h12 (by decide)
 rw [hs] at b1
 obtain ⟨P1,hP1⟩:∃P,P=slA 1 (ak s.proof):=⟨_,rfl⟩
 obtain ⟨z1,z2⟩:=Clu.gW s.proof
 rw [<-hP1] at z1 z2
 obtain ⟨S,hS⟩:∃S,S=AV.agg [.int .i64 40,i3 0 2 1,i3 0 24 18,P1]:=⟨_,rfl⟩
 have hSs:S=uN s:=by rw [hS,hP1]; unfold uN; rw [h1,h2,h3]; rfl
 have b1:Clu.M22 [tA1]=some (.tup [S,.int .i64 0]):=by rw [hSs]; exact b1
 have fS:∀A n,frz A (n+1) S=S:=fun A n=>by rw [hSs]; exact DL s A n
 obtain ⟨r,hr,hrl⟩:=Cp hc h1 h2 h3 0 (by omega)
 obtain ⟨vl,ml,rl⟩:=CS (free:=0) h12 (by decide) sV
 rw [hr] at ml rl
 have el:=uM rl
 have ml:M24 [tA1,S,.int .i64 0]=some (.tup [vl,.int .i64 0]):=by rw [hSs]; exact ml
 have lenl:vl=.fs 2 (.agg [.int .i64 0,.int .i64 2] :: r.map a0):=el
 obtain ⟨r2,hr2,hrl2⟩:=Cp hc h1 h2 h3 78 (by omega)
 have w1:i9 t1 [40,30] 0 s=some ([(2,30),(1,40),(2,74)]++(0,78+2) :: r2):=by
  unfold i9
  rw [MY,Option.bind_some,M0,Option.getD_some,hr2]; rfl
 have w2:i9 t1 [10,40] 0 s=none:=by
  unfold i9
  rw [MZ]; rfl
 obtain ⟨vm,mm,rm⟩:=CR (free:=0) h12 (by decide) (hi 40 30) (by decide) sV
 rw [w1] at mm rm
 have lm:=rm.len
 rw [List.length_map] at lm
 have mm:M25 [tA1,i2 40 30,.int .i64 0,S]=some (.tup [vm,.int .i64 0]):=by rw [hSs]; exact mm
 have lm:aq vm=some (.int .i64 8):=by
  rw [lm]
  simp [hrl2]
 obtain ⟨vn,mn,_⟩:=CR (free:=0) h12 (by decide) (hi 10 40) (by decide) sV
 rw [w2] at mn
 have mn:M25 [tA1,i2 10 40,.int .i64 0,S]=some (.tup [vn,.int .i64 140]):=by rw [hSs]; exact mn
 have lc:aq vc=some (.int .i64 3):=rc.len
 have ll:aq vl=some (.int .i64 5):=by
  rw [rl.len]; simp [hrl]
 have xl:∀A,ai 2 A vl (.int .i64 0)=some (.fp [.int .i64 0,.int .i64 2]):=fun A=>rl.index (A:=A) (i:=0) (x:=a0 (0,0+2)) rfl rfl (by omega) .i64
 have fa:∀A n,frz A n va=va:=fun A n=>ra.frz n
 have fb:∀A n,frz A n vb=vb:=fun A n=>rb.frz n
 have fc:∀A n,frz A n vc=vc:=fun A n=>rc.frz n
 have fd:∀A n,frz A n vd=vd:=fun A n=>rd.frz n
 clear ea ec ed el lenl
 clear rl rm ra rb rc rd
 have ft:∀A,frz A 4 tA1=tA1:=fun A=>a6 (T:=t1) (fun A n=>h12.frz (A:=A) n) A 3
 have fi:∀A a b,frz A 4 (i2 a b)=i2 a b:=fun A a b=>(hi a b).frz 4
 have fk:∀A,frz A 4 (.fs 2 [.agg [.int .i64 2,.int .i64 30],.agg [.int .i64 1,.int .i64 35]])=.fs 2 [.agg [.int .i64 2,.int .i64 30],.agg [.int .i64 1,.int .i64 35]]:=fun A=>rfl
 have fk2:∀A,frz A 4 (.fs 2 [.agg [.int .i64 1,.int .i64 10],.agg [.int .i64 2,.int .i64 44]])=.fs 2 [.agg [.int .i64 1,.int .i64 10],.agg [.int .i64 2,.int .i64 44]]:=fun A=>rfl
 have fk3:∀A,frz A 4 (.fs 2 [.agg [.int .i64 1,.int .i64 10]])=.fs 2 [.agg [.int .i64 1,.int .i64 10]]:=fun A=>rfl
 have fP1:∀A n,frz A n P1=P1:=fun A n=>by rw [hP1]; exact (be 1 _).frz n
 have nP1:∀n,bo n P1=true:=fun n=>by rw [hP1]; exact (be 1 _).noRef n
 have fS4:=fun A=>fS A 3
 clear hSs fS
 subst hS
 rw [aL _ _ rfl]
 simp [MA,qk,ma,mb,mc,md,k1,k2,e1,e2,b1,fS4,ft,fi,fk,fk2,fk3,nP1,aN,ml,mm,mn,lm,lc,ll,xl,fa,fc,fd,-frz,-ai,-aq]
 rfl
end Tr
namespace Tr
open Go
open Cy (GC aN bj aB eu)
open Clu (aQ aX rH aw chA a8 ee cO cW bL a6 cZ)
def nOf (ys:List (Int × Int)):Nat:=max 1 (min ys.length 4)
def yOf (ys:List (Int × Int)) (i:Nat):Int × Int:=ys.getD i (0,0)
def Jc (z:Int):Int:=if pick (z.tdiv 50) 3=0 then pick z 50+200 else pick z 50
def chO (ys:List (Int × Int)) (i:Nat):Int × Int:=if i<ys.length then (pick (yOf ys i).1 60,Jc (yOf ys i).2) else (20,30)
def mkT (ys:List (Int × Int)) (a b c:Int):aQ:=⟨(List.range (nOf ys)).map (chO ys),pick a 4,pick b 4,pick c 5,1⟩
theorem sK (ys:List (Int × Int)) (i:Nat):(0<=(chO ys i).1/\(chO ys i).1<=59)/\0<=(chO ys i).2/\(chO ys i).2<=249:=by
 unfold chO Jc
 have k1:=bS (yOf ys i).1 60 (by omega)
 have k2:=bS (yOf ys i).2 50 (by omega)
 split
 ·split <;> simp only <;> omega
 ·simp only; omega
theorem xL (ys:List (Int × Int)) (a b c:Int):(mkT ys a b c).ch.length=nOf ys:=by simp [mkT]
theorem rM (ys:List (Int × Int)):1<=nOf ys/\nOf ys<=4:=by unfold nOf; omega
theorem fM (ys:List (Int × Int)) (a b c:Int):aX (mkT ys a b c)/\(mkT ys a b c).blades=1:=by
 have h1:=bS a 4 (by omega)
 have h2:=bS b 4 (by omega)
 have h3:=bS c 5 (by omega)
 have hn:=xL ys a b c
 have hb:=rM ys
 refine ⟨⟨fun c hc=>?_,⟨⟨?_,?_⟩,⟨?_,?_⟩,?_,?_⟩,?_,?_,.inl rfl⟩,rfl⟩
 ·obtain ⟨i,_,rfl⟩:=List.mem_map.1 hc
  have:=sK ys i
  unfold rH
  omega
 all_goals first | (rw [hn]; omega) | (simp only [mkT]; omega)
theorem rN (ys:List (Int × Int)) (a b c:Int):(0<=(mkT ys a b c).pick/\(mkT ys a b c).pick<=3)/\(0<=(mkT ys a b c).place/\(mkT ys a b c).place<=3)/\(0<=(mkT ys a b c).travel/\(mkT ys a b c).travel<=4)/\∀d∈(mkT ys a b c).ch,(0<=d.1/\d.1<=59)/\0<=d.2/\d.2<=249:=by
 have h1:=bS a 4 (by omega)
 have h2:=bS b 4 (by omega)
 have h3:=bS c 5 (by omega)
 refine ⟨by simp only [mkT]; omega,by simp only [mkT]; omega,by simp only [mkT]; omega,fun d hd=>?_⟩
 obtain ⟨i,_,rfl⟩:=List.mem_map.1 hd
 exact sK ys i
def IT (A:aa) (v:AV) (xs:List (Int × Int)):Prop:=(v=.nilS/\xs=[])\/∃id gr,v=.sl id 0 xs.length/\xs≠[]/\2<id/\A[id]?=some (.row 2 gr (xs.map chA))
structure I27 (A:aa) (xs:List (Int × Int)) (p q r:Int):Prop where
 o:A[1]?=some (.row 5 false [.agg [.nilS,.int .i64 0,.int .i64 0,.int .i64 0,.int .i64 0]])
 c:∃v,A[2]?=some (.row 5 false [.agg [v,.int .i64 p,.int .i64 q,.int .i64 r,.int .i64 1]])/\IT A v xs
def gM:List (FuncId × aG):=[(50,aD 4 Cy.M12)]
@[simp] theorem Kp:aC gM 50=some (aD 4 Cy.M12):=rfl
theorem qs:∀f M,aC gM f=some M->aj Try.prog GC f M:=af (aj.of_pure w9 4) az
theorem rX {A:aa} {id i:Nat} {k:Nat} {es:List AV} {x:AV} (h:A[id]?=some (.row k false [.agg es])) (hx:es[i]?=some x):ac false 1 A (.ptr id 0 i)=some x:=by
 simp [ac,h,bM,hx]
theorem b27 (ys:List (Int × Int)):fu false (.int .i64 (ys.length:Int)) [.int .i64 4]=some (.int .i64 ((min ys.length 4:Nat):Int))/\fu true (.int .i64 1) [.int .i64 ((min ys.length 4:Nat):Int)]=some (.int .i64 (nOf ys:Int)):=by
 constructor
 ·have:=AI ys.length 4 .i64 .i64
  simp only [fu]
  rw [show (.int .i64 4:AV)=.int .i64 ((4:Nat):Int) from rfl,this]
 ·have:=AO 1 (min ys.length 4) .i64 .i64
  simp only [fu]
  rw [show (.int .i64 1:AV)=.int .i64 ((1:Nat):Int) from rfl,this]
  rfl
theorem xB {a b:Int} (ha:inI a) (hb:2<=b/\b<=9223372036854775807):ag .quo (.int .i64 a) (.int .i64 b)=some (.int .i64 (a.tdiv b))/\inI (a.tdiv b):=by
 have h1:(a.tdiv b).natAbs<=a.natAbs:=by rw [Int.natAbs_tdiv]; exact Nat.div_le_self _ _
 have hr:inI (a.tdiv b):=by
  unfold inI at *
  have h2:(a.tdiv b).natAbs<=a.natAbs / 2:=by
   rw [Int.natAbs_tdiv]
   exact Nat.div_le_div_left (by omega) (by omega)
  omega
 refine ⟨?_,hr⟩
 have hw:=dX hr
 simp only [ag]
 rw [if_pos trivial,if_neg (by omega),hw]
theorem tH {A:aa} {ys:List (Int × Int)} (hys:∀y∈ys,inI y.1/\inI y.2) {yv:AV} (hy:SlA 2 (ys.map chA) yv) {xs:List (Int × Int)} {p q r:Int} (hI:I27 A xs p q r) {i:Nat} (hi:i<nOf ys) (hxl:xs.length<=100) :
  ∃B,run (ax GC gM) 300 [.code dZ] (pG yv (.ptr 1 0 0) (.ptr 2 0 0) (.int .i64 (i:Int))) A=some (.normal (pG yv (.ptr 1 0 0) (.ptr 2 0 0) (.int .i64 ((i+1:Nat):Int))) B)/\I27 B (xs++[chO ys i]) p q r:=by
 obtain ⟨h1,v,h2,hv⟩:=hI
 have n1:=(List.getElem?_eq_some_iff.1 h1).1
 have n2:=(List.getElem?_eq_some_iff.1 h2).1
 have hlen:=hy.len
 rw [List.length_map] at hlen
 obtain ⟨b0,b1⟩:=b27 ys
 have b2:=bh i (nOf ys) .i64
 rw [decide_eq_true hi] at b2
 have b3:=bh i ys.length .i64
 have b4:=a5 i (by have:=rM ys; omega)
 obtain ⟨N,hN⟩:∃n,n=A.length:=⟨_,rfl⟩
 have bx:aY 2 (.agg [.int .i64 0,.int .i64 0]) A=some (.ptr N 0 0,A++[.row 2 false [.agg [.int .i64 0,.int .i64 0]]]):=by rw [hN]; rfl
 have s0:∀a b c d,aA 2 (A++[.row 2 false [.agg [.int .i64 a,.int .i64 b]]]) (.ptr N 0 0) (.agg [.int .i64 c,.int .i64 d])=some (A++[.row 2 false [.agg [.int .i64 c,.int .i64 d]]]):=fun a b c d=>by rw [hN]; simp [aA,bk]
 have f0:∀a b:Int,ab 0 (A++[.row 2 false [.agg [.int .i64 a,.int .i64 b]]]) (.ptr N 0 0)=some (.ptr N 0 0):=fun a b=>by rw [hN]; simp [ab]
 have f1:∀a b:Int,ab 1 (A++[.row 2 false [.agg [.int .i64 a,.int .i64 b]]]) (.ptr N 0 0)=some (.ptr N 0 1):=fun a b=>by rw [hN]; simp [ab]
 have t0:∀a b c,aA 1 (A++[.row 2 false [.agg [.int .i64 a,.int .i64 b]]]) (.ptr N 0 0) (.int .i64 c)=some (A++[.row 2 false [.agg [.int .i64 c,.int .i64 b]]]):=fun a b c=>by rw [hN]; simp [aA,bk]
 have t1:∀a b c,aA 1 (A++[.row 2 false [.agg [.int .i64 a,.int .i64 b]]]) (.ptr N 0 1) (.int .i64 c)=some (A++[.row 2 false [.agg [.int .i64 a,.int .i64 c]]]):=fun a b c=>by rw [hN]; simp [aA,bk]
 have l1:∀a b:Int,ac false 1 (A++[.row 2 false [.agg [.int .i64 a,.int .i64 b]]]) (.ptr N 0 1)=some (.int .i64 b):=fun a b=>by rw [hN]; exact rX (es:=[.int .i64 a,.int .i64 b]) (k:=2) (by simp) rfl
 have l2:∀a b:Int,ac true 2 (A++[.row 2 false [.agg [.int .i64 a,.int .i64 b]]]) (.ptr N 0 0)=some (.agg [.int .i64 a,.int .i64 b]):=fun a b=>by rw [hN]; simp [ac]
 have c0:∀X,ab 0 (A++X) (.ptr 2 0 0)=some (.ptr 2 0 0):=fun X=>by
  have:(A++X)[2]?=some (.row 5 false [.agg [v,.int .i64 p,.int .i64 q,.int .i64 r,.int .i64 1]]):=by rw [List.getElem?_append_left n2]; exact h2
  simp [ab,this]
 have cl:∀X,ac false 1 (A++X) (.ptr 2 0 0)=some v:=fun X=>rX (es:=[v,.int .i64 p,.int .i64 q,.int .i64 r,.int .i64 1]) (k:=5) (by rw [List.getElem?_append_left n2]; exact h2) rfl
 obtain ⟨P1,P2,hch⟩:∃P1 P2,chO ys i=(P1,P2):=⟨_,_,rfl⟩
 rw [hch]
 obtain ⟨A1,hA1⟩:∃X,X=A++[Ent.row 2 false [.agg [.int .i64 P1,.int .i64 P2]]]:=⟨_,rfl⟩
 have hl1:A1.length=A.length+1:=by rw [hA1]; simp
 have hA1o:∀j,j<A.length->A1[j]?=A[j]?:=fun j hj=>by rw [hA1,List.getElem?_append_left hj]
 obtain ⟨v',A2,e1,e2,e3,e4,e5⟩:∃v' A2,aP 2 16 A1 v (.fs 2 [.agg [.int .i64 P1,.int .i64 P2]])=some (v',A2)/\IT A2 v' (xs++[(P1,P2)])/\(∀j,j<=2->A2[j]?=A[j]?)/\(∃a b,v'=.sl a 0 b/\2<a)/\2<A2.length:=by
  rcases hv with ⟨rfl,rfl⟩ | ⟨id,gr,rfl,hne,hid,hrow⟩
  ·refine ⟨.sl A1.length 0 1,A1++[.row 2 false [chA (P1,P2)]],by simp [aP,chA],.inr ⟨A1.length,false,rfl,by simp,by omega,by simp⟩,fun j hj=>?_,⟨_,_,rfl,by omega⟩,by simp; omega⟩
   rw [List.getElem?_append_left (by omega),hA1o j (by omega)]
  ·have hidl:=(List.getElem?_eq_some_iff.1 hrow).1
   have hz:xs.length≠0:=fun e=>hne (List.length_eq_zero_iff.1 e)
   have hb:(xs.length+1)*16<=140737488355328:=by omega
   have hrow1:A1[id]?=some (.row 2 gr (xs.map chA)):=by rw [hA1o id hidl]; exact hrow
   refine ⟨.sl id 0 (xs.length+1),A1.set id (.row 2 true (xs.map chA++[chA (P1,P2)])),by simp [aP,hrow1,hz,hb,chA],.inr ⟨id,true,by simp,by simp,hid,?_⟩,fun j hj=>?_,⟨_,_,rfl,hid⟩,by simp; omega⟩
   ·rw [List.getElem?_set_self (by omega),List.map_append]; rfl
   ·rw [List.getElem?_set_ne (by omega),hA1o j (by omega)]
 obtain ⟨ia,ib,rfl,hia⟩:=e4
 have c2:ab 0 A2 (.ptr 2 0 0)=some (.ptr 2 0 0):=by
  have:=e3 2 (by omega)
  rw [h2] at this
  simp [ab,this]
 have st:aA 1 A2 (.ptr 2 0 0) (.sl ia 0 ib)=some (A2.set 2 (.row 5 false [.agg [.sl ia 0 ib,.int .i64 p,.int .i64 q,.int .i64 r,.int .i64 1]])):=by
  have:=e3 2 (by omega)
  rw [h2] at this
  simp [aA,this,bk]
 refine ⟨A2.set 2 (.row 5 false [.agg [.sl ia 0 ib,.int .i64 p,.int .i64 q,.int .i64 r,.int .i64 1]]),?_,⟨by rw [List.getElem?_set_ne (by omega),e3 1 (by omega)]; exact h1,.sl ia 0 ib,by rw [List.getElem?_set_self e5],?_⟩⟩
 rotate_left
 ·rcases e2 with ⟨h,_⟩ | ⟨id,gr,e2,e6,e7,e8⟩
  ·cases h
  ·exact .inr ⟨id,gr,e2,e6,e7,by rw [List.getElem?_set_ne (by omega)]; exact e8⟩
 obtain ⟨B,hB⟩:∃X,X=A2.set 2 (.row 5 false [.agg [.sl ia 0 ib,.int .i64 p,.int .i64 q,.int .i64 r,.int .i64 1]]):=⟨_,rfl⟩
 rw [<-hB] at st ⊢
 have c1:=c0 [Ent.row 2 false [.agg [.int .i64 P1,.int .i64 P2]]]
 have cl1:=cl [Ent.row 2 false [.agg [.int .i64 P1,.int .i64 P2]]]
 have l2':=l2 P1 P2
 rw [<-hA1] at c1 cl1 l2'
 have hsl:bc 2 [.agg [.int .i64 P1,.int .i64 P2]]=some (.fs 2 [.agg [.int .i64 P1,.int .i64 P2]]):=rfl
 obtain ⟨ii,hii⟩:∃n,n=i+1:=⟨_,rfl⟩
 rw [<-hii] at b4 ⊢
 obtain ⟨nn,hnn⟩:∃n,n=nOf ys:=⟨_,rfl⟩
 rw [<-hnn] at b1 b2
 obtain ⟨mm,hmm⟩:∃n,n=min ys.length 4:=⟨_,rfl⟩
 rw [<-hmm] at b0 b1
 have A0d:∀a b,∃X,X=A++[Ent.row 2 false [.agg [.int .i64 a,.int .i64 b]]]:=fun a b=>⟨_,rfl⟩
 have u0:=s0 0 0 20 30
 obtain ⟨D0,hD0⟩:=A0d 0 0
 rw [<-hD0] at bx u0
 by_cases hc:i<ys.length
 ·rw [decide_eq_true hc] at b3
  obtain ⟨y,hye⟩:∃y,y=ys[i]:=⟨_,rfl⟩
  have hyy:yOf ys i=y:=by unfold yOf; rw [List.getD_eq_getElem?_getD,List.getElem?_eq_getElem hc,hye]; rfl
  have hyr:inI y.1/\inI y.2:=by rw [hye]; exact hys _ (List.getElem_mem hc)
  have yx:∀A,ai 2 A yv (.int .i64 (i:Int))=some (.fp [.int .i64 y.1,.int .i64 y.2]):=fun A=>by
   rw [hye]
   exact hy.index (A:=A) (x:=chA ys[i]) (by simp [hc]) rfl (by omega) .i64
  have y0:∀A,cV 2 1 A (.fp [.int .i64 y.1,.int .i64 y.2]) (.int .i64 0)=some (.fp [.int .i64 y.1,.int .i64 y.2]):=fun A=>rfl
  have y1:∀A,cV 2 1 A (.fp [.int .i64 y.1,.int .i64 y.2]) (.int .i64 1)=some (.fp [.int .i64 y.2]):=fun A=>rfl
  have z0:∀A,ac false 1 A (.fp [.int .i64 y.1,.int .i64 y.2])=some (.int .i64 y.1):=fun A=>rfl
  have z1:∀A,ac false 1 A (.fp [.int .i64 y.2])=some (.int .i64 y.2):=fun A=>rfl
  have m1:=eu hyr.1 (n:=60) (by omega)
  have m2:=eu hyr.2 (n:=50) (by omega)
  obtain ⟨q0,q1⟩:=xB hyr.2 (b:=50) (by omega)
  have m3:=eu q1 (n:=3) (by omega)
  have hcc:=hch
  unfold chO Jc at hcc
  rw [if_pos hc,hyy] at hcc
  injection hcc with e1' e2'
  have r1:=bS y.2 50 (by omega)
  have b5:ag .add (.int .i64 (pick y.2 50)) (.int .i64 200)=some (.int .i64 (pick y.2 50+200)):=a8 (by omega)
  have b6:=bL (pick (y.2.tdiv 50) 3) 0
  rw [e1'] at m1
  obtain ⟨S,hS⟩:∃S,S=pick y.2 50:=⟨_,rfl⟩
  rw [<-hS] at m2 e2' b5
  have u1:=f0 20 30
  have u2:=t0 20 30 P1
  have u3:=f1 P1 30
  have u4:=t1 P1 30 S
  obtain ⟨D1,hD1⟩:=A0d 20 30
  rw [<-hD1] at u0 u1 u2
  obtain ⟨D2,hD2⟩:=A0d P1 30
  rw [<-hD2] at u2 u3 u4
  generalize y.2.tdiv 50=Q at *
  generalize pick Q 3=R at *
  by_cases hR:R=0
  ·rw [if_pos hR] at e2'
   rw [decide_eq_true hR] at b6
   rw [e2'] at b5
   have u5:=f1 P1 S
   have u6:=l1 P1 S
   have u7:=t1 P1 S P2
   rw [<-hA1] at u7
   obtain ⟨D3,hD3⟩:=A0d P1 S
   rw [<-hD3] at u4 u5 u6 u7
   simp [dZ,hlen,b0,b1,b2,b3,b4,b5,b6,bx,yx,y0,y1,z0,z1,u0,u1,u2,u3,u4,u5,u6,u7,q0,m1,m2,m3,hsl,c1,cl1,l2',e1,c2,st,aN,-fu,-gQ,-ag,-ac,-aA,-ab,-ai,-aq,-bc,-aY,-frz]
  ·rw [if_neg hR] at e2'
   rw [decide_eq_false hR] at b6
   subst e2'
   rw [<-hA1] at u4
   simp [dZ,hlen,b0,b1,b2,b3,b4,b6,bx,yx,y0,y1,z0,z1,u0,u1,u2,u3,u4,q0,m1,m2,m3,hsl,c1,cl1,l2',e1,c2,st,aN,-fu,-gQ,-ag,-ac,-aA,-ab,-ai,-aq,-bc,-aY,-frz]
 ·rw [decide_eq_false hc] at b3
  have hcc:=hch
  unfold chO at hcc
  rw [if_neg hc] at hcc
  injection hcc with e1' e2'
  subst e1'; subst e2'
  rw [<-hA1] at u0
  simp [dZ,hlen,b0,b1,b2,b3,b4,bx,u0,hsl,c1,cl1,l2',e1,c2,st,-fu,-gQ,-ag,-ac,-aA,-ab,-ai,-aq,-bc,-aY,-frz]
theorem Gy {ys:List (Int × Int)} (hys:∀y∈ys,inI y.1/\inI y.2) {yv:AV} (hy:SlA 2 (ys.map chA) yv) {p q r:Int}:∀(c i:Nat) (A:aa) (m:Nat),i+c=nOf ys->I27 A ((List.range i).map (chO ys)) p q r->c<m ->
  ∃B,bX (evC (ax GC gM) 300 dZ) mL m (pG yv (.ptr 1 0 0) (.ptr 2 0 0) (.int .i64 (i:Int))) A=some (.exit 0 ((pG yv (.ptr 1 0 0) (.ptr 2 0 0) (.int .i64 (nOf ys:Int))).set 7 (.bool false)) B)/\I27 B ((List.range (nOf ys)).map (chO ys)) p q r:=by
 have hn4:=rM ys
 intro c
 induction c with
 | zero=>
  intro i A m hi hI hm
  obtain ⟨m,rfl⟩:∃j,m=j+1:=⟨m-1,by omega⟩
  obtain rfl:i=nOf ys:=by omega
  refine ⟨A,?_,hI⟩
  have hlen:=hy.len
  rw [List.length_map] at hlen
  obtain ⟨b0,b1⟩:=b27 ys
  have b2:=bh (nOf ys) (nOf ys) .i64
  rw [decide_eq_false (by omega)] at b2
  obtain ⟨mm,hmm⟩:∃n,n=min ys.length 4:=⟨_,rfl⟩
  rw [<-hmm] at b0 b1
  rw [aM,zd]
  simp [dZ,hlen,b0,b1,b2,-ag,-fu,-gQ,-aq]
 | succ c ih=>
  intro i A m hi hI hm
  obtain ⟨m,rfl⟩:∃j,m=j+1:=⟨m-1,by omega⟩
  obtain ⟨B,h1,h2⟩:=tH hys hy hI (i:=i) (by omega) (by simp; omega)
  have e:(List.range i).map (chO ys)++[chO ys i]=(List.range (i+1)).map (chO ys):=by rw [List.range_succ,List.map_append]; rfl
  rw [e] at h2
  obtain ⟨C,h3,h4⟩:=ih (i+1) B m (by omega) h2 (by omega)
  refine ⟨C,?_,h4⟩
  rw [aM,zd,h1]
  exact h3
def M27:aO:=fun args=>evP (ax GC gM) 300 AN 4 args
theorem uG:an Try.prog GC 27 M27:=an.of_ev (E:=ax GC gM) (au qs) rfl LU yR 4 fun _ _ h=>⟨300,h⟩
theorem Bm {A:aa} {v:AV} {xs:List (Int × Int)} (h:IT A v xs) (k:Nat):frz A (k+3) v=slA 2 (xs.map chA):=by
 rcases h with ⟨rfl,rfl⟩ | ⟨id,gr,rfl,hne,_,hr⟩
 ·rfl
 ·have e:((xs.map chA).drop 0).take xs.length=xs.map chA:=by
   rw [List.drop_zero]
   conv=>lhs; rw [show xs.length=(xs.map chA).length by simp]
   rw [List.take_length]
  have hm:(xs.map chA).map (frz A (k+2))=xs.map chA:=by
   rw [List.map_map]
   exact List.map_congr_left fun x _=>by simp [chA,frz]
  rw [show k+3=(k+2)+1 from rfl]
  simp only [frz,hr]
  rw [e,hm]
  cases xs with
  | nil=>exact absurd rfl hne
  | cons x r=>rfl
def mkA (ys:List (Int × Int)) (a b c:Int):AV:=aw (mkT ys a b c) (slA 2 ((mkT ys a b c).ch.map chA))
theorem vN {ys:List (Int × Int)} (hys:∀y∈ys,inI y.1/\inI y.2) {yv:AV} (hy:SlA 2 (ys.map chA) yv) {a b c:Int} (ha:inI a) (hb:inI b) (hc:inI c):M27 [yv,.agg [.int .i64 a,.int .i64 b,.int .i64 c]]=some (mkA ys a b c):=by
 have m1:=eu ha (n:=4) (by omega)
 have m2:=eu hb (n:=4) (by omega)
 have m3:=eu hc (n:=5) (by omega)
 have hmk:mkA ys a b c=.agg [slA 2 (((List.range (nOf ys)).map (chO ys)).map chA),.int .i64 (pick a 4),.int .i64 (pick b 4),.int .i64 (pick c 5),.int .i64 1]:=rfl
 rw [hmk]
 obtain ⟨q1,h1⟩:∃z,z=pick a 4:=⟨_,rfl⟩
 obtain ⟨q2,h2⟩:∃z,z=pick b 4:=⟨_,rfl⟩
 obtain ⟨q3,h3⟩:∃z,z=pick c 5:=⟨_,rfl⟩
 rw [<-h1] at m1 ⊢
 rw [<-h2] at m2 ⊢
 rw [<-h3] at m3 ⊢
 obtain ⟨B,lp,⟨k1,v,k2,k3⟩⟩:=Gy hys hy (p:=q1) (q:=q2) (r:=q3) (nOf ys) 0 [.row 3 false [.agg [.int .i64 a,.int .i64 b,.int .i64 c]],.row 5 false [.agg [.nilS,.int .i64 0,.int .i64 0,.int .i64 0,.int .i64 0]],.row 5 false [.agg [.nilS,.int .i64 q1,.int .i64 q2,.int .i64 q3,.int .i64 1]]] 300 (by omega) ⟨rfl,.nilS,rfl,.inl ⟨rfl,rfl⟩⟩ (by have:=rM ys; omega)
 rw [show ((0:Nat):Int)=0 from rfl] at lp
 have e1:ac true 5 B (.ptr 2 0 0)=some (.agg [v,.int .i64 q1,.int .i64 q2,.int .i64 q3,.int .i64 1]):=by simp [ac,k2]
 have kl:=(List.getElem?_eq_some_iff.1 k1).1
 have st:aA 5 B (.ptr 1 0 0) (.agg [v,.int .i64 q1,.int .i64 q2,.int .i64 q3,.int .i64 1])=some (B.set 1 (.row 5 false [.agg [v,.int .i64 q1,.int .i64 q2,.int .i64 q3,.int .i64 1]])):=by simp [aA,k1,bk]
 have k3':IT (B.set 1 (.row 5 false [.agg [v,.int .i64 q1,.int .i64 q2,.int .i64 q3,.int .i64 1]])) v ((List.range (nOf ys)).map (chO ys)):=by
  rcases k3 with k3 | ⟨id,gr,a,b,c,d⟩
  ·exact .inl k3
  ·exact .inr ⟨id,gr,a,b,c,by rw [List.getElem?_set_ne (by omega)]; exact d⟩
 have f1:=Bm k3' 0
 have e2:ac true 5 (B.set 1 (.row 5 false [.agg [v,.int .i64 q1,.int .i64 q2,.int .i64 q3,.int .i64 1]])) (.ptr 1 0 0)=some (.agg [v,.int .i64 q1,.int .i64 q2,.int .i64 q3,.int .i64 1]):=by simp [ac,kl]
 obtain ⟨C,hC⟩:∃X,X=B.set 1 (.row 5 false [.agg [v,.int .i64 q1,.int .i64 q2,.int .i64 q3,.int .i64 1]]):=⟨_,rfl⟩
 rw [<-hC] at st e2 f1
 have F1:frz C 4 (.agg [v,.int .i64 q1,.int .i64 q2,.int .i64 q3,.int .i64 1])=.agg [slA 2 (((List.range (nOf ys)).map (chO ys)).map chA),.int .i64 q1,.int .i64 q2,.int .i64 q3,.int .i64 1]:=by
  rw [<-f1]; rfl
 rw [hC] at F1
 have k1g:B[1]=.row 5 false [.agg [.nilS,.int .i64 0,.int .i64 0,.int .i64 0,.int .i64 0]]:=by
  rw [List.getElem?_eq_getElem kl] at k1; injection k1
 unfold M27
 rw [aL _ _ rfl]
 simp [AN,cV,m1,m2,m3,aN,GV lp,k1g,k2,kl,F1,-frz,-ag]
end Tr
namespace Tr
open Go
open Cy (GC aN bj aB eu)
open Clu (aQ aX aw chA a8 ee cO cW bL cT a6 cZ)
def rdO (xs:List Int) (i:Nat):Int:=if i<xs.length/\0<pick (xs.getD i 0) 4 then pick ((xs.getD i 0).tdiv 4) 120 else -1
def rdM (n:Nat) (xs:List Int):List Int:=(List.range n).map (rdO xs)
theorem qA (n:Nat) (xs:List Int):(rdM n xs).length=n:=by simp [rdM]
theorem Gb (xs:List Int) (i:Nat) : -1<=rdO xs i/\rdO xs i<=119:=by
 unfold rdO
 have:=bS ((xs.getD i 0).tdiv 4) 120 (by omega)
 split <;> omega
theorem xz {n:Nat} {xs:List Int}:∀t∈rdM n xs,-1<=t/\t<=119:=fun t ht=>by
 obtain ⟨i,_,rfl⟩:=List.mem_map.1 ht
 exact Gb xs i
def rI (f:Nat->Int) (n i:Nat):List Int:=(List.range i).map f++List.replicate (n-i) 0
theorem Ge (f:Nat->Int) {n i:Nat} (h:i<=n):(rI f n i).length=n:=by simp [rI]; omega
theorem Gd (f:Nat->Int) {n i:Nat} (h:i<n):(rI f n i).set i (f i)=rI f n (i+1):=by
 unfold rI
 rw [List.set_append_right _ _ (by simp)]
 obtain ⟨m,hm⟩:∃m,n-i=m+1:=⟨n-i-1,by omega⟩
 rw [hm,show n-(i+1)=m by omega,List.range_succ]
 simp [List.replicate_succ]
theorem Eb (f:Nat->Int) (n:Nat):rI f n n=(List.range n).map f:=by simp [rI]
theorem Ea (f:Nat->Int) (n:Nat):rI f n 0=List.replicate n 0:=by simp [rI]
def M28:aO:=fun args=>evP (ax GC gM) 300 Ju 4 args
theorem FU:an Try.prog GC 28 M28:=an.of_ev (E:=ax GC gM) (au qs) rfl at28 HB 4 fun _ _ h=>⟨300,h⟩
def A28 (tv:AV) (l:List Int):aa:=[.row 5 false [tv],.row 1 false (ak l)]
theorem DX {tv:AV} {xs:List Int} {xv:AV} (hx:SlA 1 (ak xs) xv) (hxi:∀z∈xs,inI z) {n i:Nat} (hn:n<=100) (hi:i<n) :
  run (ax GC gM) 300 [.code jV] (pF xv (.sl 1 0 n) (.int .i64 (i:Int))) (A28 tv (rI (rdO xs) n i))=some (.normal (pF xv (.sl 1 0 n) (.int .i64 ((i+1:Nat):Int))) (A28 tv (rI (rdO xs) n (i+1)))):=by
 have hr:∀l,(A28 tv l)[1]?=some (.row 1 false (ak l)):=fun l=>rfl
 have hset:∀l l',(A28 tv l).set 1 (.row 1 false (ak l'))=A28 tv l':=fun l l'=>rfl
 have hl:=Ge (rdO xs) (n:=n) (i:=i) (by omega)
 have hll:=hx.len
 rw [aB] at hll
 have b0:=bh i n .i64
 rw [decide_eq_true hi] at b0
 have b1:=bh i xs.length .i64
 have b2:=a5 i (by omega)
 have hS:aq (.sl 1 0 n)=some (.int .i64 (n:Int)):=rfl
 have i0:=eA (n:=n) (hr (rI (rdO xs) n i)) hi .i64
 have s0:=ne (hr (rI (rdO xs) n i)) (show i<(rI (rdO xs) n i).length by omega) (-1)
 rw [hset] at s0
 obtain ⟨L1,hL1⟩:∃L,L=(rI (rdO xs) n i).set i (-1):=⟨_,rfl⟩
 rw [<-hL1] at s0
 have hl1:L1.length=n:=by rw [hL1,List.length_set,hl]
 have i1:=eA (n:=n) (hr L1) hi .i64
 have ii:∃j,j=i+1:=⟨_,rfl⟩
 obtain ⟨j,hj⟩:=ii
 have e0:=Gd (rdO xs) hi
 rw [<-hj] at b2 e0 ⊢
 by_cases hc:i<xs.length
 ·rw [decide_eq_true hc] at b1
  obtain ⟨y,hy⟩:∃y,y=xs[i]:=⟨_,rfl⟩
  have hyg:xs.getD i 0=y:=by rw [List.getD_eq_getElem?_getD,List.getElem?_eq_getElem hc,hy]; rfl
  have hyi:inI y:=by rw [hy]; exact hxi _ (List.getElem_mem hc)
  have x1:∀A,ai 1 A xv (.int .i64 (i:Int))=some (.fp [.int .i64 y]):=fun A=>by
   rw [hy]
   exact hx.index1 (A:=A) (x:=.int .i64 xs[i]) (i:=i) (by simp [ak,hc]) rfl rfl .i64
  have l1:∀A,ac false 1 A (.fp [.int .i64 y])=some (.int .i64 y):=fun A=>rfl
  have m1:=eu hyi (n:=4) (by omega)
  obtain ⟨q0,q1⟩:=xB hyi (b:=4) (by omega)
  have m2:=eu q1 (n:=120) (by omega)
  have b3:=cT (pick y 4) 0
  have ef:rdO xs i=if 0<pick y 4 then pick (y.tdiv 4) 120 else -1:=by
   unfold rdO
   rw [hyg]
   by_cases h:0<pick y 4
   ·rw [if_pos ⟨hc,h⟩,if_pos h]
   ·rw [if_neg (fun hh=>h hh.2),if_neg h]
  generalize y.tdiv 4=Q at *
  generalize pick y 4=R at *
  generalize pick Q 120=V at *
  by_cases hR:0<R
  ·rw [if_pos hR] at ef
   rw [decide_eq_true hR] at b3
   have s1:=ne (hr L1) (show i<L1.length by omega) V
   rw [hset,hL1,List.set_set,<-hL1,<-ef,e0] at s1
   rw [ef] at s1
   generalize A28 tv (rI (rdO xs) n i)=B0 at *
   generalize A28 tv L1=B1 at *
   generalize A28 tv (rI (rdO xs) n j)=B2 at *
   simp [jV,hll,hS,b0,b1,b2,b3,i0,s0,i1,s1,x1,l1,q0,m1,m2,aN,-ag,-ac,-aA,-ai,-aq,-frz]
  ·rw [if_neg hR] at ef
   rw [decide_eq_false hR] at b3
   rw [hL1,<-ef,e0] at s0
   rw [ef] at s0
   generalize A28 tv (rI (rdO xs) n i)=B0 at *
   generalize A28 tv (rI (rdO xs) n j)=B2 at *
   simp [jV,hll,hS,b0,b1,b2,b3,i0,s0,x1,l1,m1,aN,-ag,-ac,-aA,-ai,-aq,-frz]
 ·rw [decide_eq_false hc] at b1
  have ef:rdO xs i = -1:=by unfold rdO; rw [if_neg (fun h=>hc h.1)]
  rw [hL1,<-ef,e0] at s0
  rw [ef] at s0
  generalize A28 tv (rI (rdO xs) n i)=B0 at *
  generalize A28 tv (rI (rdO xs) n j)=B2 at *
  simp [jV,hll,hS,b0,b1,b2,i0,s0,-ag,-ac,-aA,-ai,-aq,-frz]
theorem Gx {tv:AV} {xs:List Int} {xv:AV} (hx:SlA 1 (ak xs) xv) (hxi:∀z∈xs,inI z) {n:Nat} (hn:n<=100):∀(c i m:Nat),i+c=n->c<m ->
  bX (evC (ax GC gM) 300 jV) mK m (pF xv (.sl 1 0 n) (.int .i64 (i:Int))) (A28 tv (rI (rdO xs) n i))=some (.exit 0 ((pF xv (.sl 1 0 n) (.int .i64 (n:Int))).set 6 (.bool false)) (A28 tv (rI (rdO xs) n n))):=by
 intro c
 induction c with
 | zero=>
  intro i m hi hm
  obtain ⟨m,rfl⟩:∃j,m=j+1:=⟨m-1,by omega⟩
  obtain rfl:i=n:=by omega
  have b2:=bh i i .i64
  rw [decide_eq_false (by omega)] at b2
  rw [aM,y9]
  simp [jV,b2,-ag]
 | succ c ih=>
  intro i m hi hm
  obtain ⟨m,rfl⟩:∃j,m=j+1:=⟨m-1,by omega⟩
  rw [aM,y9,DX hx hxi hn (by omega)]
  exact ih (i+1) m (by omega) (by omega)
theorem Il {T:aQ} {chv:AV} (hb:SlA 2 (T.ch.map chA) chv) (hl:T.ch.length<=100) (hl1:1<=T.ch.length) {xs:List Int} {xv:AV} (hx:SlA 1 (ak xs) xv) (hxi:∀z∈xs,inI z):M28 [aw T chv,xv]=some (.fs 1 (ak (rdM T.ch.length xs))):=by
 have lp:=Gx (tv:=aw T chv) hx hxi hl T.ch.length 0 300 (by omega) (by omega)
 rw [Ea,Eb,show ((0:Nat):Int)=0 from rfl] at lp
 have lnc:=hb.len
 rw [List.length_map] at lnc
 have bx0:aY 5 (aw T chv) []=some (.ptr 0 0 0,[.row 5 false [aw T chv]]):=rfl
 have ct:(cellsOf (aw T chv)).length=5:=rfl
 obtain ⟨n,hn⟩:∃n,n=T.ch.length:=⟨_,rfl⟩
 rw [<-hn] at lp lnc hl hl1 ⊢
 have mk:cf 1 8 (.int .i64 0) [.row 5 false [aw T chv]] (.int .i64 (n:Int)) (.int .i64 (n:Int))=some (.sl 1 0 n,A28 (aw T chv) (List.replicate n 0)):=by
  simp [cf,A28,ak]
  omega
 have fa0:ab 0 [.row 5 false [aw T chv]] (.ptr 0 0 0)=some (.ptr 0 0 0):=rfl
 have lch:ac false 1 [.row 5 false [aw T chv]] (.ptr 0 0 0)=some chv:=by
  rcases hb with ⟨rfl,_⟩ | rfl <;> rfl
 have ff:frz (A28 (aw T chv) (rdM n xs)) 4 (.sl 1 0 n)=.fs 1 (ak (rdM n xs)):=by
  have hrow:(A28 (aw T chv) (rdM n xs))[1]?=some (.row 1 false (ak (rdM n xs))):=rfl
  have:=dE (off:=0) (xs:=ak (rdM n xs)) hrow (by rw [List.drop_zero]; exact List.take_of_length_le (by simp [ak,rdM])) (fun k x hx=>by
   obtain ⟨c,_,rfl⟩:=List.mem_map.1 hx
   exact aN _ _ _ _) 2
  have e:(ak (rdM n xs)).length=n:=by simp [ak,rdM]
  rw [e] at this
  exact this
 rw [show (List.range n).map (rdO xs)=rdM n xs from rfl] at lp
 generalize aw T chv=tv at *
 generalize A28 tv (rdM n xs)=B1 at *
 generalize A28 tv (List.replicate n 0)=B0 at *
 unfold M28
 rw [aL _ _ rfl]
 simp [Ju,bx0,ct,fa0,lch,lnc,mk,GU lp,ff,-aY,-ab,-ac,-cf,-frz,-ag,-cellsOf,-aq]
def Fe:List (FuncId × aG):=[(27,aD 4 M27),(28,aD 4 M28),(21,aD 4 Cy.M12)]
@[simp] theorem Lp:aC Fe 27=some (aD 4 M27):=rfl
@[simp] theorem Lo:aC Fe 28=some (aD 4 M28):=rfl
@[simp] theorem Lq:aC Fe 21=some (aD 4 Cy.M12):=rfl
theorem DH:∀f M,aC Fe f=some M->aj Try.prog GC f M:=af (aj.of_pure uG 4) (af (aj.of_pure FU 4) (af (aj.of_pure Cy.BF 4) az))
def M13:aO:=fun args=>evP (ax GC Fe) 300 Jv 4 args
theorem FZ:an Try.prog GC 13 M13:=an.of_ev (E:=ax GC Fe) (au DH) rfl at13 HF 4 fun _ _ h=>⟨300,h⟩
structure XC where
 ys:List (Int × Int)
 a:Int
 b:Int
 c:Int
 rd:List Int
 free:Int
structure XV (x:XC) (yv rv:AV):Prop where
 y:SlA 2 (x.ys.map chA) yv
 yi:∀y∈x.ys,inI y.1/\inI y.2
 a:inI x.a
 b:inI x.b
 c:inI x.c
 r:SlA 1 (ak x.rd) rv
 ri:∀z∈x.rd,inI z
 f:inI x.free
def XC.A (x:XC) (yv rv:AV):AV:=.agg [yv,.int .i64 x.a,.int .i64 x.b,.int .i64 x.c,rv,.int .i64 x.free]
def XC.T (x:XC):aQ:=mkT x.ys x.a x.b x.c
def XC.n (x:XC):Nat:=x.T.ch.length
def XC.R (x:XC):List Int:=rdM x.n x.rd
def XC.F (x:XC):Int:=pick x.free 60
def XC.ch (x:XC):AV:=slA 2 (x.T.ch.map chA)
def XC.tv (x:XC):AV:=aw x.T x.ch
def XC.rv (x:XC):AV:=.fs 1 (ak x.R)
theorem XC.sit (x:XC):Sit x.T x.R x.F:=by
 have h:=fM x.ys x.a x.b x.c
 have k:=bS x.free 60 (by omega)
 refine ⟨h,qA _ _,by unfold XC.F; omega,fun t ht=>?_⟩
 have:=xz t ht
 omega
theorem XC.nb (x:XC):1<=x.n/\x.n<=4:=by
 have:=rM x.ys
 unfold XC.n XC.T
 rw [xL]
 exact this
theorem XC.chS (x:XC):SlA 2 (x.T.ch.map chA) x.ch:=be _ _
theorem XC.chl (x:XC):x.T.ch.length<=200:=by have:=x.nb; unfold XC.n at this; omega
theorem XC.rvS (x:XC):SlA 1 (ak x.R) x.rv:=.inr rfl
theorem XC.Rl (x:XC):x.R.length<=200:=by have:=x.nb; rw [XC.R,qA]; omega
theorem XC.tfrz (x:XC) (A:aa):frz A 4 x.tv=x.tv:=a6 (fun A n=>x.chS.frz (A:=A) n) A 3
theorem XC.tref (x:XC):bo 4 x.tv=true:=cZ (fun n=>x.chS.noRef n) 3
theorem XC.rfrz (x:XC) (A:aa) (n:Nat):frz A n x.rv=x.rv:=x.rvS.frz n
theorem XC.rref (x:XC) (n:Nat):bo n x.rv=true:=x.rvS.noRef n
def tM (x:XC):AV:=.tup [x.tv,x.rv,.int .i64 x.F]
theorem Im {x:XC} {yv rv:AV} (h:XV x yv rv):M13 [x.A yv rv]=some (tM x):=by
 have m1:=vN h.yi h.y h.a h.b h.c
 have m2:=Il (T:=x.T) x.chS (by have:=x.nb; unfold XC.n at this; omega) (by have:=x.nb; unfold XC.n at this; omega) h.r h.ri
 have m3:=eu h.f (n:=60) (by omega)
 have m1:M27 [yv,.agg [.int .i64 x.a,.int .i64 x.b,.int .i64 x.c]]=some x.tv:=m1
 have m2:M28 [x.tv,rv]=some x.rv:=m2
 have m3:Cy.M12 [.int .i64 x.free,.int .i64 60]=some (.int .i64 x.F):=m3
 obtain ⟨A0,hA0⟩:∃A:aa,A=[.row 6 false [x.A yv rv]]:=⟨_,rfl⟩
 have hy:=pJ h.y
 have hr:=pJ h.r
 have f1:∀A,frz A 4 x.tv=x.tv:=x.tfrz
 have f2:∀A n,frz A n x.rv=x.rv:=x.rfrz
 have f3:∀A n,frz A n yv=yv:=fun A n=>h.y.frz n
 have f4:∀A n,frz A n rv=rv:=fun A n=>h.r.frz n
 have n1:=x.tref
 have n2:=x.rref
 have n3:∀n,bo n yv=true:=fun n=>h.y.noRef n
 have n4:∀n,bo n rv=true:=fun n=>h.r.noRef n
 have ff:∀A,frz A 4 (tM x)=tM x:=fun A=>by
  have q1:frz A 3 x.tv=x.tv:=a6 (fun A n=>x.chS.frz (A:=A) n) A 2
  simp [tM,frz,q1,f2]
 have q1:∀A,frz A 3 x.tv=x.tv:=fun A=>a6 (fun A n=>x.chS.frz (A:=A) n) A 2
 have ct:cellsOf x.tv=[x.ch,.int .i64 x.T.pick,.int .i64 x.T.place,.int .i64 x.T.travel,.int .i64 1]:=by
  have:=(fM x.ys x.a x.b x.c).2
  show [x.ch,_,_,_,.int .i64 x.T.blades]=_
  rw [show x.T.blades=1 from this]
 have et:x.tv=.agg [x.ch,.int .i64 x.T.pick,.int .i64 x.T.place,.int .i64 x.T.travel,.int .i64 1]:=by
  have:=(fM x.ys x.a x.b x.c).2
  show AV.agg [x.ch,_,_,_,.int .i64 x.T.blades]=_
  rw [show x.T.blades=1 from this]
 obtain ⟨c1,c2⟩:=pJ x.chS
 have n5:∀n,bo n x.ch=true:=fun n=>x.chS.noRef n
 have le:bW (.agg [yv,.int .i64 x.a,.int .i64 x.b,.int .i64 x.c,rv,.int .i64 x.free]) 6 1 true 3=some (.agg [.int .i64 x.a,.int .i64 x.b,.int .i64 x.c]):=by
  rcases h.y with ⟨rfl,_⟩ | rfl <;> rcases h.r with ⟨rfl,_⟩ | rfl <;> rfl
 unfold tM at ff ⊢
 generalize x.rv=RV at *
 generalize x.F=FV at *
 generalize x.tv=TV at *
 subst et
 generalize x.ch=CH at *
 generalize x.T.pick=p1 at *
 generalize x.T.place=p2 at *
 generalize x.T.travel=p3 at *
 have f5:∀A,frz A 4 (.agg [.int .i64 x.a,.int .i64 x.b,.int .i64 x.c])=.agg [.int .i64 x.a,.int .i64 x.b,.int .i64 x.c]:=fun A=>rfl
 unfold M13
 rw [aL _ _ rfl]
 unfold XC.A
 simp [Jv,le,ff,f5,f1,f3,f4,n3,n4,n5,m1,m2,m3,aN,-frz]
end Tr
namespace Tr
open Go
open Cy (GC aN bj aB eu lvM dC qG te)
open Clu (aQ aX cA Chk ro aw chA uN iG pw kx zy nB nA)
def E3:aO:=fun args=>evF (ax GC ((14,H14 0) :: gf)) 300 kH 4 args
theorem Dh:bZ Try.prog GC 14 E3:=bZ.of_ev (E:=ax GC ((14,H14 0) :: gf)) (au qt) rfl Bp kw 4 fun _ _ h=>⟨300,h⟩
theorem wt (B:aa) (n:Nat) (t:cP):a9 B (n+1) (a0 t)=true:=by simp [a0,a9]
theorem uk {T:aQ} {chv rdv:AV} {rd:List Int} {free lost:Int} (hb:SlA 2 (T.ch.map chA) chv) (hr:SlA 1 (ak rd) rdv) (hTl:T.ch.length<=200) (hrl:rd.length<=200) :
  ∃v,E3 [aw T chv,rdv,.int .i64 free,.int .i64 lost]=some (.tup [v,.bool (db T rd free lost).isSome])/\SlA 2 (((db T rd free lost).getD []).map a0) v:=by
 have hT:Tl [] T chv chv:=⟨.inl hb,fun X=>Clu.a6 (fun A n=>hb.frz (A:=A) n) _ 3,hb⟩
 have hR:Rl [] rd rdv rdv:=⟨.inl hr,fun X=>hr.frz 4,hr⟩
 obtain ⟨v,B,h1,_,h2⟩:=oD (free:=free) (lost:=lost) hT hR hTl hrl
 obtain ⟨v',k1,k2⟩:=l7 (free:=free) (lost:=lost) hb hr hTl hrl
 refine ⟨v',?_,k2⟩
 unfold M14 evP at k1
 rw [h1] at k1
 simp only [Option.map_some] at k1
 unfold E3 evF
 rw [h1]
 simp only [Option.bind_some]
 rw [if_pos]
 ·exact k1
 ·rcases h2 with ⟨rfl,_⟩ | ⟨i,_,rfl,hrow⟩
  ·rfl
  ·have:a9 B 3 (.sl i 0 ((db T rd free lost).getD []).length)=true:=by
    simp only [a9,hrow]
    rw [List.all_eq_true]
    intro y hy
    obtain ⟨t,_,rfl⟩:=List.mem_map.1 (List.mem_of_mem_drop (List.mem_of_mem_take hy))
    exact wt B 1 t
   show (a9 B 3 _ && (a9 B 3 (.bool _) && true))=true
   rw [this]; rfl
def fsL:List (FuncId × aG):=[(11,aD 4 M11),(13,aD 4 M13),(14,cz 4 E3),(16,aD 4 M16),(17,aD 4 M17),(21,aD 4 Cy.M12),(22,aD 4 M22),(23,aD 4 Clu.M22),(24,aD 4 M24),(25,aD 4 M25)]
@[simp] theorem MQ:aC fsL 11=some (aD 4 M11):=rfl
@[simp] theorem MP:aC fsL 13=some (aD 4 M13):=rfl
@[simp] theorem MN:aC fsL 14=some (cz 4 E3):=rfl
@[simp] theorem MM:aC fsL 16=some (aD 4 M16):=rfl
@[simp] theorem ML:aC fsL 17=some (aD 4 M17):=rfl
@[simp] theorem MK:aC fsL 21=some (aD 4 Cy.M12):=rfl
@[simp] theorem MJ:aC fsL 22=some (aD 4 M22):=rfl
@[simp] theorem MI:aC fsL 23=some (aD 4 Clu.M22):=rfl
@[simp] theorem MH:aC fsL 24=some (aD 4 M24):=rfl
@[simp] theorem MG:aC fsL 25=some (aD 4 M25):=rfl
theorem F2:∀f M,aC fsL f=some M->aj Try.prog GC f M:=af (aj.of_pure F0 4) (af (aj.of_pure FZ 4) (af (aj.of_pureF Dh 4) (af (aj.of_pure lx 4) (af (aj.of_pure uJ 4) (af (aj.of_pure Cy.BF 4) (af (aj.of_pure uH 4) (af (aj.of_pure Clu.uH 4) (af (aj.of_pure xi 4) (af (aj.of_pure BE 4) az)))))))))
@[simp] theorem Ms:M11 []=some (.bool true):=rfl
theorem C7 {x:AV} {n:Nat} (h:TA Try.prog (n+2) 46 x):∃y:Int × Int,x=chA y/\inI y.1/\inI y.2:=by
 obtain ⟨ls,rfl,hc,hl⟩:=TA.agg (show rn Try.prog 46=true by kernel_rfl) h
 simp only [TC,Try.underlying46] at hc
 rw [show Try.prog.cellsOf 3=1 by kernel_rfl] at hc
 simp only [TCa,Try.underlying3] at hc
 obtain ⟨_,_,rfl,⟨a,rfl,ha⟩,_,_,_,rfl,⟨b,rfl,hb⟩,_,rfl⟩:=hc
 exact ⟨(a,b),rfl,ha,hb⟩
theorem An {raw:AV} {n:Nat} (h:TA Try.prog (n+3) 27 raw):∃ys:List (Int × Int),SlA 2 (ys.map chA) raw/\(∀y∈ys,inI y.1/\inI y.2)/\ys.length<=9223372036854775807:=by
 obtain ⟨es,h1,h2,h3⟩:=TA.sl Try.underlying27 h
 rw [show Try.prog.cellsOf 46=2 by kernel_rfl] at h1
 obtain ⟨ys,rfl,hy⟩:=gb (f:=chA) (p:=fun y=>inI y.1/\inI y.2) fun x hx=>C7 (n:=n) (h3 x hx)
 exact ⟨ys,h1,hy,by simpa using h2⟩
theorem u9 {x:AV} {n:Nat} (h:TA Try.prog (n+1) 25 x):∃zs:List Int,SlA 1 (ak zs) x/\zs.length<=9223372036854775807/\∀z∈zs,inI z:=
 TA.ints Try.underlying25 Try.underlying3 (by kernel_rfl) h
theorem xZ {ls:List AV} {n:Nat} (h:TC Try.prog (n+1) 25 ls) (hl:ls.length=Try.prog.cellsOf 25):∃(x:AV) (zs:List Int),ls=[x]/\SlA 1 (ak zs) x/\zs.length<=9223372036854775807/\∀z∈zs,inI z:=by
 rw [show Try.prog.cellsOf 25=1 by kernel_rfl] at hl
 obtain ⟨x,rfl⟩:=List.length_eq_one_iff.1 hl
 obtain ⟨zs,h1,h2,h3⟩:=u9 (n:=n) (x:=x) ⟨[x],h,by rw [show Try.prog.cellsOf 25=1 by kernel_rfl]; rfl,by
  unfold fJ
  rw [if_neg (by rw [show rn Try.prog 25=false by kernel_rfl]; simp)]; rfl⟩
 exact ⟨x,zs,rfl,h1,h2,h3⟩
theorem wZ {ls:List AV} {n:Nat} (h:TC Try.prog (n+3) 27 ls) (hl:ls.length=Try.prog.cellsOf 27):∃(x:AV) (ys:List (Int × Int)),ls=[x]/\SlA 2 (ys.map chA) x/\∀y∈ys,inI y.1/\inI y.2:=by
 rw [show Try.prog.cellsOf 27=1 by kernel_rfl] at hl
 obtain ⟨x,rfl⟩:=List.length_eq_one_iff.1 hl
 obtain ⟨zs,h1,h2,h3⟩:=An (n:=n) (raw:=x) ⟨[x],h,by rw [show Try.prog.cellsOf 27=1 by kernel_rfl]; rfl,by
  unfold fJ
  rw [if_neg (by rw [show rn Try.prog 27=false by kernel_rfl]; simp)]; rfl⟩
 exact ⟨x,zs,rfl,h1,h2⟩
theorem vR {ls:List AV} {n:Nat} (h:TC Try.prog (n+2) 28 ls):∃a b c:Int,ls=[.int .i64 a,.int .i64 b,.int .i64 c]/\inI a/\inI b/\inI c:=by
 simp only [TC,Try.underlying28] at h
 rw [show Try.prog.cellsOf 3=1 by kernel_rfl] at h
 simp only [TCa,Try.underlying3] at h
 obtain ⟨_,_,rfl,⟨a,rfl,ha⟩,_,_,_,rfl,⟨b,rfl,hb⟩,_,_,_,rfl,⟨c,rfl,hc⟩,_,rfl⟩:=h
 exact ⟨a,b,c,rfl,ha,hb,hc⟩
theorem Bn {x:AV} {n:Nat} (h:TA Try.prog (n+5) 30 x):∃X yv rv,x=XC.A X yv rv/\XV X yv rv:=by
 obtain ⟨ls,rfl,hc,hl⟩:=TA.agg (show rn Try.prog 30=true by kernel_rfl) h
 rw [show n+5=(n+4)+1 from rfl] at hc
 unfold TC at hc
 rw [Try.underlying30] at hc
 simp only [TCs] at hc
 obtain ⟨a,_,rfl,ha,la,b,_,rfl,hb,lb,c,_,rfl,hc,lc,d,_,rfl,hd,ld,rfl⟩:=hc
 obtain ⟨yv,ys,rfl,y1,y2⟩:=wZ (n:=n+1) ha la
 obtain ⟨p,q,r,rfl,p1,q1,r1⟩:=vR (n:=n+2) hb
 obtain ⟨rv,zr,rfl,s1,s2,s3⟩:=xZ (n:=n+3) hc lc
 simp only [TC,Try.underlying3] at hd
 obtain ⟨z,rfl,hz⟩:=hd
 exact ⟨⟨ys,p,q,r,zr,z⟩,yv,rv,rfl,y1,y2,p1,q1,r1,s1,s3,hz⟩
theorem ownK:ownKnob Try.prog.godebug=none:=by kernel_rfl
theorem JH {W:World} {OK:Nat->Prop}:C2 GC W OK:=fun gl cs h=>by simp [GC] at h
def nZ (os:Os):World:=World.holding Try.prog os ⟨#[],#[],[]⟩
theorem ss {T:aQ} {rd:List Int} {free:Int} {d:List cP} (h:ba T rd free=some d):∃x,mV T (st0 rd free) d=some x/\dt T rd free d=some x.fin/\x.inn.length=T.ch.length/\(∀j,j<T.ch.length->x.inn.getD j 0 = -1)/\free<=x.fin:=by
 obtain ⟨hS,o,e,k1,k2,k3,_⟩:=eF h
 obtain ⟨X,x0,rfl,⟨s,hs⟩,hX⟩:=cJ hS k1 k2
 obtain ⟨f1,f2,f3⟩:=(cX hS x0 k1).2 s hs
 have hk:=((cX hS x0 k1).1.1 ⟨s,hs⟩).1
 refine ⟨s,hs,by unfold dt; rw [if_pos hS,hs]; rfl,f2,f3,?_⟩
 rw [f1]
 split
 ·exact Int.le_refl _
 ·rename_i hne
  have:∀(l:List cP) (a b:St),mV T a l=some b->a.fin<=b.fin:=by
   intro l
   induction l with
   | nil=>intro a b h; injection h with h; rw [h]; exact Int.le_refl _
   | cons t r ih=>
    intro a b h
    simp only [mV] at h
    rw [Option.bind_eq_some_iff] at h
    obtain ⟨c,hc,h⟩:=h
    have h2:=ih c b h
    unfold fG at hc
    split at hc
    ·rename_i hh
     rw [Option.bind_eq_some_iff] at hc
     obtain ⟨u,_,hc⟩:=hc
     rw [Option.map_eq_some_iff] at hc
     obtain ⟨v,_,rfl⟩:=hc
     have:=dq hS.1.1
     have:0<=btw T a.last t.1:=by
      unfold btw
      have:=hS.1.1.2.1.2.2.1
      split <;> omega
     simp only at h2
     omega
    ·cases hc
  have:=this _ _ _ hs
  rw [f1,if_neg hne] at this
  exact this
end Tr
namespace Tr
open Go
end Tr
namespace Tr
open Go
open Cy (GC aN bj aB eu)
open Clu (aQ aX cA Chk ro aw chA uN iG pw kx nA a8 ck ee cO cW bL cT)
abbrev zT:AV:=.agg [.nilS,.int .i64 0,.int .i64 0,.int .i64 0,.int .i64 0]
theorem HW {x:XC} {yv rv:AV} (h:XV x yv rv) (A:aa):frz A 4 (x.A yv rv)=x.A yv rv:=by
 have f1:=h.y.frz (A:=A) 3
 have f2:=h.r.frz (A:=A) 3
 simp [XC.A,frz,f1,f2]
theorem HV {x:XC} {yv rv:AV} (h:XV x yv rv):bo 4 (x.A yv rv)=true:=by
 have f1:=h.y.noRef 3
 have f2:=h.r.noRef 3
 simp [XC.A,bo,f1,f2]
theorem EY {x:XC} {yv rv:AV} (X:aa):ac true 6 (.row 6 false [x.A yv rv] :: X) (.ptr 0 0 0)=some (x.A yv rv):=rfl
theorem HX {x:XC} {yv rv:AV}:aY 6 (x.A yv rv) []=some (.ptr 0 0 0,[.row 6 false [x.A yv rv]]):=rfl
def B0 (x:XC) (yv rv:AV):aa:=[.row 6 false [x.A yv rv],.row 5 false [x.tv]]
theorem Jh {x:XC} {yv rv:AV} (h:XV x yv rv):∃A0 Az,aY 6 (x.A yv rv) []=some (.ptr 0 0 0,A0)/\ac true 6 A0 (.ptr 0 0 0)=some (x.A yv rv)/\M13 [x.A yv rv]=some (tM x)/\(∀A,frz A 4 (x.A yv rv)=x.A yv rv)/\bo 4 (x.A yv rv)=true/\(cellsOf (x.A yv rv)).length=6/\aY 5 zT A0=some (.ptr 1 0 0,Az)/\aA 5 Az (.ptr 1 0 0) x.tv=some (B0 x yv rv):=
 ⟨_,_,HX,EY _,Im h,HW h,HV h,rfl,rfl,rfl⟩
end Tr
namespace Tr
open Go
def rR:MC:=.seq (.seq (.region [⟨none,.mv (.var 10),none⟩,⟨none,.mv (.var 9),none⟩,⟨none,.lenSl (.tmp 1),none⟩,⟨some 22,.bin .lss (.tmp 0) (.tmp 2),none⟩]) (.cond (.var 22) .skip (.exit 0))) (.seq (.seq (.block 1 (.seq (.region [⟨none,.mv (.var 9),none⟩,⟨none,.mv (.var 10),none⟩,⟨none,.indexSl 1 (.tmp 0) (.tmp 1),none⟩,⟨none,.load false 1 (.tmp 2),none⟩,⟨some 23,.bin .geq (.tmp 3) (.cst (.int .i64 0)),none⟩]) (.cond (.var 23) (.region [⟨none,.mv (.var 9),none⟩,⟨none,.mv (.var 10),none⟩,⟨none,.mv (.var 9),none⟩,⟨none,.mv (.var 10),none⟩,⟨none,.indexSl 1 (.tmp 2) (.tmp 3),none⟩,⟨none,.load false 1 (.tmp 4),none⟩,⟨none,.mv (.var 1),none⟩,⟨none,.bin .add (.tmp 5) (.tmp 6),none⟩,⟨none,.indexSl 1 (.tmp 0) (.tmp 1),none⟩,⟨none,.store 1 (.tmp 8) (.tmp 7),none⟩]) .skip))) (.kill [0,3,4,11,12,13,14,15,16,17,18,19,20,21,22,23,24,25,26,27])) (.region [⟨none,.mv (.var 10),none⟩,⟨none,.bin .add (.tmp 0) (.cst (.int .i64 1)),none⟩,⟨some 10,.mv (.tmp 1),none⟩]))
def tN:MC:=.seq (.seq (.region [⟨none,.mv (.var 15),none⟩,⟨none,.mv (.var 11),none⟩,⟨none,.lenSl (.tmp 1),none⟩,⟨some 25,.bin .lss (.tmp 0) (.tmp 2),none⟩]) (.cond (.var 25) .skip (.exit 2))) (.seq (.seq (.block 3 (.seq (.region [⟨none,.mv (.var 11),none⟩,⟨none,.mv (.var 15),none⟩,⟨none,.indexSl 2 (.tmp 0) (.tmp 1),none⟩,⟨none,.fieldAddr 0 (.tmp 2),none⟩,⟨none,.load false 1 (.tmp 3),none⟩,⟨none,.mv (.var 13),none⟩,⟨none,.mv (.var 15),none⟩,⟨none,.indexSl 2 (.tmp 5) (.tmp 6),none⟩,⟨none,.fieldAddr 0 (.tmp 7),none⟩,⟨none,.load false 1 (.tmp 8),none⟩,⟨none,.bin .neq (.tmp 4) (.tmp 9),none⟩,⟨none,.mv (.tmp 10),none⟩,⟨none,.mv (.var 11),some (.tmp 11,false)⟩,⟨none,.mv (.var 15),some (.tmp 11,false)⟩,⟨none,.indexSl 2 (.tmp 12) (.tmp 13),some (.tmp 11,false)⟩,⟨none,.fieldAddr 1 (.tmp 14),some (.tmp 11,false)⟩,⟨none,.load false 1 (.tmp 15),some (.tmp 11,false)⟩,⟨none,.mv (.var 1),some (.tmp 11,false)⟩,⟨none,.bin .add (.tmp 16) (.tmp 17),some (.tmp 11,false)⟩,⟨none,.mv (.var 13),some (.tmp 11,false)⟩,⟨none,.mv (.var 15),some (.tmp 11,false)⟩,⟨none,.indexSl 2 (.tmp 19) (.tmp 20),some (.tmp 11,false)⟩,⟨none,.fieldAddr 1 (.tmp 21),some (.tmp 11,false)⟩,⟨none,.load false 1 (.tmp 22),some (.tmp 11,false)⟩,⟨none,.bin .neq (.tmp 18) (.tmp 23),some (.tmp 11,false)⟩,⟨some 26,.pick (.tmp 11) (.cst (.bool true)) (.tmp 24),none⟩]) (.cond (.var 26) (.seq (.region [⟨some 4,.mv (.cst (.bool false)),none⟩]) .ret) .skip))) (.kill [0,3,4,9,10,14,16,17,18,19,20,21,22,23,24,25,26,27])) (.region [⟨none,.mv (.var 15),none⟩,⟨none,.bin .add (.tmp 0) (.cst (.int .i64 1)),none⟩,⟨some 15,.mv (.tmp 1),none⟩]))
def rQ:MC:=.seq (.seq (.region [⟨none,.mv (.var 17),none⟩,⟨none,.fieldAddr 0 (.var 16),none⟩,⟨none,.load false 1 (.tmp 1),none⟩,⟨none,.lenSl (.tmp 2),none⟩,⟨none,.bin .lss (.tmp 0) (.tmp 3),none⟩,⟨none,.mv (.tmp 4),none⟩,⟨none,.mv (.var 17),some (.tmp 5,true)⟩,⟨none,.mv (.var 2),some (.tmp 5,true)⟩,⟨none,.lenSl (.tmp 7),some (.tmp 5,true)⟩,⟨none,.bin .lss (.tmp 6) (.tmp 8),some (.tmp 5,true)⟩,⟨some 27,.pick (.tmp 5) (.tmp 9) (.cst (.bool false)),none⟩]) (.cond (.var 27) .skip (.exit 4))) (.seq (.seq (.block 5 (.region [⟨none,.fieldAddr 0 (.var 16),none⟩,⟨none,.load false 1 (.tmp 0),none⟩,⟨none,.mv (.var 17),none⟩,⟨none,.fieldAddr 0 (.var 16),none⟩,⟨none,.load false 1 (.tmp 3),none⟩,⟨none,.mv (.var 17),none⟩,⟨none,.indexSl 2 (.tmp 4) (.tmp 5),none⟩,⟨none,.fieldAddr 1 (.tmp 6),none⟩,⟨none,.load false 1 (.tmp 7),none⟩,⟨none,.mv (.var 2),none⟩,⟨none,.mv (.var 17),none⟩,⟨none,.indexSl 1 (.tmp 9) (.tmp 10),none⟩,⟨none,.load false 1 (.tmp 11),none⟩,⟨none,.call (.fn 21) [.tmp 12,.cst (.int .i64 100)],none⟩,⟨none,.bin .add (.tmp 8) (.tmp 13),none⟩,⟨none,.indexSl 2 (.tmp 1) (.tmp 2),none⟩,⟨none,.fieldAddr 1 (.tmp 15),none⟩,⟨none,.store 1 (.tmp 16) (.tmp 14),none⟩])) (.kill [0,1,3,4,9,10,13,14,15,18,19,20,21,22,23,24,25,26,27])) (.region [⟨none,.mv (.var 17),none⟩,⟨none,.bin .add (.tmp 0) (.cst (.int .i64 1)),none⟩,⟨some 17,.mv (.tmp 1),none⟩]))
def mf9:cu:=⟨3,28,.seq (.region [⟨some 3,.box (.var 0),none⟩,⟨some 4,.mv (.cst (.bool false)),none⟩]) (.seq (.region [⟨none,.call (.fn 11) [],none⟩,⟨some 5,.mv (.tmp 0),none⟩]) (.seq (.region [⟨none,.load true 6 (.var 3),none⟩,⟨none,.call (.fn 13) [.tmp 0],none⟩,⟨none,.mv (.tmp 1),none⟩,⟨none,.extract (.tmp 2) 0,none⟩,⟨none,.extract (.tmp 2) 1,none⟩,⟨none,.extract (.tmp 2) 2,none⟩,⟨some 6,.alloc 5 (.agg [.nilS,.int .i64 0,.int .i64 0,.int .i64 0,.int .i64 0]),none⟩,⟨none,.store 5 (.var 6) (.tmp 3),none⟩,⟨some 7,.mv (.tmp 4),none⟩,⟨some 8,.mv (.tmp 5),none⟩]) (.seq (.region [⟨none,.mv (.var 1),none⟩,⟨none,.call (.fn 21) [.tmp 0,.cst (.int .i64 10000)],none⟩,⟨some 1,.mv (.tmp 1),none⟩]) (.seq (.region [⟨none,.buildSlice 1 [],none⟩,⟨none,.mv (.var 7),none⟩,⟨none,.append 1 8 (.tmp 0) (.tmp 1),none⟩,⟨some 9,.mv (.tmp 2),none⟩]) (.seq (.seq (.region [⟨some 10,.mv (.cst (.int .i64 0)),none⟩]) (.seq (.block 0 (.loop [0,3,4,11,12,13,14,15,16,17,18,19,20,21,22,23,24,25,26,27] rR)) (.kill [0,3,4,10,11,12,13,14,15,16,17,18,19,20,21,22,23,24,25,26,27]))) (.seq (.region [⟨none,.load true 5 (.var 6),none⟩,⟨none,.mv (.var 7),none⟩,⟨none,.mv (.var 8),none⟩,⟨none,.call (.fn 14) [.tmp 0,.tmp 1,.tmp 2,.cst (.int .i64 0)],none⟩,⟨none,.mv (.tmp 3),none⟩,⟨none,.extract (.tmp 4) 0,none⟩,⟨none,.extract (.tmp 4) 1,none⟩,⟨some 11,.mv (.tmp 5),none⟩,⟨some 12,.mv (.tmp 6),none⟩]) (.seq (.region [⟨none,.load true 5 (.var 6),none⟩,⟨none,.mv (.var 9),none⟩,⟨none,.mv (.var 8),none⟩,⟨none,.mv (.var 1),none⟩,⟨none,.bin .add (.tmp 2) (.tmp 3),none⟩,⟨none,.call (.fn 14) [.tmp 0,.tmp 1,.tmp 4,.cst (.int .i64 0)],none⟩,⟨none,.mv (.tmp 5),none⟩,⟨none,.extract (.tmp 6) 0,none⟩,⟨none,.extract (.tmp 6) 1,none⟩,⟨some 13,.mv (.tmp 7),none⟩,⟨some 14,.mv (.tmp 8),none⟩]) (.seq (.seq (.region [⟨none,.mv (.var 12),none⟩,⟨none,.mv (.var 14),none⟩,⟨none,.eqBool true (.tmp 0) (.tmp 1),none⟩,⟨none,.mv (.tmp 2),none⟩,⟨none,.mv (.var 11),some (.tmp 3,false)⟩,⟨none,.lenSl (.tmp 4),some (.tmp 3,false)⟩,⟨none,.mv (.var 13),some (.tmp 3,false)⟩,⟨none,.lenSl (.tmp 6),some (.tmp 3,false)⟩,⟨none,.bin .neq (.tmp 5) (.tmp 7),some (.tmp 3,false)⟩,⟨some 24,.pick (.tmp 3) (.cst (.bool true)) (.tmp 8),none⟩]) (.cond (.var 24) (.seq (.region [⟨some 4,.mv (.cst (.bool false)),none⟩]) .ret) .skip)) (.seq (.seq (.region [⟨some 15,.mv (.cst (.int .i64 0)),none⟩]) (.seq (.block 2 (.loop [0,3,4,9,10,14,16,17,18,19,20,21,22,23,24,25,26,27] tN)) (.kill [0,1,3,4,9,10,13,14,15,16,17,18,19,20,21,22,23,24,25,26,27]))) (.seq (.region [⟨none,.load true 5 (.var 6),none⟩,⟨some 16,.alloc 5 (.agg [.nilS,.int .i64 0,.int .i64 0,.int .i64 0,.int .i64 0]),none⟩,⟨none,.store 5 (.var 16) (.tmp 0),none⟩]) (.seq (.region [⟨none,.buildSlice 2 [],none⟩,⟨none,.fieldAddr 0 (.var 6),none⟩,⟨none,.load false 1 (.tmp 1),none⟩,⟨none,.append 2 16 (.tmp 0) (.tmp 2),none⟩,⟨none,.fieldAddr 0 (.var 16),none⟩,⟨none,.store 1 (.tmp 4) (.tmp 3),none⟩]) (.seq (.seq (.region [⟨some 17,.mv (.cst (.int .i64 0)),none⟩]) (.seq (.block 4 (.loop [0,1,3,4,9,10,13,14,15,18,19,20,21,22,23,24,25,26,27] rQ)) (.kill [0,1,2,3,4,9,10,13,14,15,17,18,19,20,21,22,23,24,25,26,27]))) (.seq (.region [⟨none,.load true 5 (.var 16),none⟩,⟨none,.mv (.var 7),none⟩,⟨none,.mv (.var 8),none⟩,⟨none,.call (.fn 14) [.tmp 0,.tmp 1,.tmp 2,.cst (.int .i64 0)],none⟩,⟨none,.mv (.tmp 3),none⟩,⟨none,.extract (.tmp 4) 0,none⟩,⟨none,.extract (.tmp 4) 1,none⟩,⟨some 18,.mv (.tmp 5),none⟩,⟨some 19,.mv (.tmp 6),none⟩]) (.seq (.region [⟨none,.load true 5 (.var 6),none⟩,⟨none,.mv (.var 7),none⟩,⟨none,.mv (.var 8),none⟩,⟨none,.mv (.var 11),none⟩,⟨none,.call (.fn 17) [.tmp 0,.tmp 1,.tmp 2,.tmp 3],none⟩,⟨none,.mv (.tmp 4),none⟩,⟨none,.extract (.tmp 5) 0,none⟩,⟨none,.extract (.tmp 5) 1,none⟩,⟨some 20,.mv (.tmp 6),none⟩,⟨none,.mv (.tmp 7),none⟩]) (.seq (.region [⟨none,.load true 5 (.var 16),none⟩,⟨none,.mv (.var 7),none⟩,⟨none,.mv (.var 8),none⟩,⟨none,.mv (.var 18),none⟩,⟨none,.call (.fn 17) [.tmp 0,.tmp 1,.tmp 2,.tmp 3],none⟩,⟨none,.mv (.tmp 4),none⟩,⟨none,.extract (.tmp 5) 0,none⟩,⟨none,.extract (.tmp 5) 1,none⟩,⟨some 21,.mv (.tmp 6),none⟩,⟨none,.mv (.tmp 7),none⟩]) (.seq (.region [⟨none,.mv (.var 5),none⟩,⟨none,.mv (.tmp 0),none⟩,⟨none,.mv (.var 12),some (.tmp 1,true)⟩,⟨none,.un .not (.tmp 2),some (.tmp 1,true)⟩,⟨none,.mv (.tmp 3),some (.tmp 1,true)⟩,⟨none,.mv (.var 19),some (.tmp 4,false)⟩,⟨none,.mv (.tmp 5),some (.tmp 4,false)⟩,⟨none,.mv (.var 21),some (.tmp 6,true)⟩,⟨none,.mv (.var 20),some (.tmp 6,true)⟩,⟨none,.bin .leq (.tmp 7) (.tmp 8),some (.tmp 6,true)⟩,⟨none,.pick (.tmp 6) (.tmp 9) (.cst (.bool false)),some (.tmp 4,false)⟩,⟨none,.pick (.tmp 4) (.cst (.bool true)) (.tmp 10),some (.tmp 1,true)⟩,⟨none,.pick (.tmp 1) (.tmp 11) (.cst (.bool false)),none⟩,⟨some 4,.mv (.tmp 12),none⟩]) .ret)))))))))))))))),[.tmp 4]⟩
def nS:List Nat:=[0,3,4,11,12,13,14,15,16,17,18,19,20,21,22,23,24,25,26,27]
abbrev vV (v1 v2 v5 v6 v7 v8 v9 v10:AV):List AV:=[.undef,v1,v2,.undef,.undef,v5,v6,v7,v8,v9,v10,.undef,.undef,.undef,.undef,.undef,.undef,.undef,.undef,.undef,.undef,.undef,.undef,.undef,.undef,.undef,.undef,.undef]
theorem EM {d0 v1 v2 d3 d4 v5 v6 v7 v8 v9 v10 d11 d12 d13 d14 d15 d16 d17 d18 d19 d20 d21 d22 d23 d24 d25 d26 d27:AV}:clear nS [d0,v1,v2,d3,d4,v5,v6,v7,v8,v9,v10,d11,d12,d13,d14,d15,d16,d17,d18,d19,d20,d21,d22,d23,d24,d25,d26,d27]=vV v1 v2 v5 v6 v7 v8 v9 v10:=by simp only [nS,clear,List.foldl_cons,List.foldl_nil,List.set_cons_zero,List.set_cons_succ]
theorem GO {E:Env} {fuel:Nat} {A:aa} {o:Out} {k:List KC} {d0 v1 v2 d3 d4 v5 v6 v7 v8 v9 v10 d11 d12 d13 d14 d15 d16 d17 d18 d19 d20 d21 d22 d23 d24 d25 d26 d27:AV} (h:bX (evC E fuel rR) nS fuel (vV v1 v2 v5 v6 v7 v8 v9 v10) A=some o) :
  run E fuel (.code (.loop [0,3,4,11,12,13,14,15,16,17,18,19,20,21,22,23,24,25,26,27] rR) :: k) [d0,v1,v2,d3,d4,v5,v6,v7,v8,v9,v10,d11,d12,d13,d14,d15,d16,d17,d18,d19,d20,d21,d22,d23,d24,d25,d26,d27] A=after E fuel k o:=aS nS _ _ (by rw [EM]; exact h)
def nR:List Nat:=[0,3,4,9,10,14,16,17,18,19,20,21,22,23,24,25,26,27]
abbrev vU (v1 v2 v5 v6 v7 v8 v11 v12 v13 v15:AV):List AV:=[.undef,v1,v2,.undef,.undef,v5,v6,v7,v8,.undef,.undef,v11,v12,v13,.undef,v15,.undef,.undef,.undef,.undef,.undef,.undef,.undef,.undef,.undef,.undef,.undef,.undef]
theorem EL {d0 v1 v2 d3 d4 v5 v6 v7 v8 d9 d10 v11 v12 v13 d14 v15 d16 d17 d18 d19 d20 d21 d22 d23 d24 d25 d26 d27:AV}:clear nR [d0,v1,v2,d3,d4,v5,v6,v7,v8,d9,d10,v11,v12,v13,d14,v15,d16,d17,d18,d19,d20,d21,d22,d23,d24,d25,d26,d27]=vU v1 v2 v5 v6 v7 v8 v11 v12 v13 v15:=by simp only [nR,clear,List.foldl_cons,List.foldl_nil,List.set_cons_zero,List.set_cons_succ]
theorem GN {E:Env} {fuel:Nat} {A:aa} {o:Out} {k:List KC} {d0 v1 v2 d3 d4 v5 v6 v7 v8 d9 d10 v11 v12 v13 d14 v15 d16 d17 d18 d19 d20 d21 d22 d23 d24 d25 d26 d27:AV} (h:bX (evC E fuel tN) nR fuel (vU v1 v2 v5 v6 v7 v8 v11 v12 v13 v15) A=some o) :
  run E fuel (.code (.loop [0,3,4,9,10,14,16,17,18,19,20,21,22,23,24,25,26,27] tN) :: k) [d0,v1,v2,d3,d4,v5,v6,v7,v8,d9,d10,v11,v12,v13,d14,v15,d16,d17,d18,d19,d20,d21,d22,d23,d24,d25,d26,d27] A=after E fuel k o:=aS nR _ _ (by rw [EL]; exact h)
def nQ:List Nat:=[0,1,3,4,9,10,13,14,15,18,19,20,21,22,23,24,25,26,27]
abbrev vT (v2 v5 v6 v7 v8 v11 v12 v16 v17:AV):List AV:=[.undef,.undef,v2,.undef,.undef,v5,v6,v7,v8,.undef,.undef,v11,v12,.undef,.undef,.undef,v16,v17,.undef,.undef,.undef,.undef,.undef,.undef,.undef,.undef,.undef,.undef]
theorem EK {d0 d1 v2 d3 d4 v5 v6 v7 v8 d9 d10 v11 v12 d13 d14 d15 v16 v17 d18 d19 d20 d21 d22 d23 d24 d25 d26 d27:AV}:clear nQ [d0,d1,v2,d3,d4,v5,v6,v7,v8,d9,d10,v11,v12,d13,d14,d15,v16,v17,d18,d19,d20,d21,d22,d23,d24,d25,d26,d27]=vT v2 v5 v6 v7 v8 v11 v12 v16 v17:=by simp only [nQ,clear,List.foldl_cons,List.foldl_nil,List.set_cons_zero,List.set_cons_succ]
theorem GM {E:Env} {fuel:Nat} {A:aa} {o:Out} {k:List KC} {d0 d1 v2 d3 d4 v5 v6 v7 v8 d9 d10 v11 v12 d13 d14 d15 v16 v17 d18 d19 d20 d21 d22 d23 d24 d25 d26 d27:AV} (h:bX (evC E fuel rQ) nQ fuel (vT v2 v5 v6 v7 v8 v11 v12 v16 v17) A=some o) :
  run E fuel (.code (.loop [0,1,3,4,9,10,13,14,15,18,19,20,21,22,23,24,25,26,27] rQ) :: k) [d0,d1,v2,d3,d4,v5,v6,v7,v8,d9,d10,v11,v12,d13,d14,d15,v16,v17,d18,d19,d20,d21,d22,d23,d24,d25,d26,d27] A=after E fuel k o:=aS nQ _ _ (by rw [EK]; exact h)
theorem LB:aE Try.prog Try.f9 3 [0,1,2,3,6,7,8,9,10,11,12,13,14,15,16,17,18,19,20,21,22,24,41,48,83,87,115,132] [21] true ([[0,3,4,11,12,13,14,15,16,17,18,19,20,21,22,23,24,25,26,27],[0,3,4,9,10,14,16,17,18,19,20,21,22,23,24,25,26,27],[0,1,3,4,9,10,13,14,15,18,19,20,21,22,23,24,25,26,27]],[[0,3,4,11,12,13,14,15,16,17,18,19,20,21,22,23,24,25,26,27],[0,3,4,10,11,12,13,14,15,16,17,18,19,20,21,22,23,24,25,26,27],[0,3,4,9,10,14,16,17,18,19,20,21,22,23,24,25,26,27],[0,1,3,4,9,10,13,14,15,16,17,18,19,20,21,22,23,24,25,26,27],[0,1,3,4,9,10,13,14,15,18,19,20,21,22,23,24,25,26,27],[0,1,2,3,4,9,10,13,14,15,17,18,19,20,21,22,23,24,25,26,27]])=some mf9:=by kernel_rfl
theorem at9:Try.prog.funcs[9]?=some Try.f9:=by kernel_rfl
end Tr
namespace Tr
open Go
open Cy (GC aN bj aB eu)
open Clu (aQ aX rH cA Chk ro aw chA uN iG pw kx nA a8 ck ee cO cW bL cT ei a6 cZ)
def rJ {α:Type} (new old:Nat->α) (n i:Nat):List α:=(List.range n).map fun j=>if j<i then new j else old j
theorem BI {α:Type} (new old:Nat->α) (n i:Nat):(rJ new old n i).length=n:=by simp [rJ]
theorem BJ {α:Type} (new old:Nat->α) {n i:Nat} (h:i<n):(rJ new old n i)[i]?=some (old i):=by simp [rJ,h]
theorem BH {α:Type} (new old:Nat->α) {n i:Nat} (_h:i<n):(rJ new old n i).set i (new i)=rJ new old n (i+1):=by
 apply List.ext_getElem
 ·simp [rJ]
 intro j h1 h2
 simp only [rJ,List.getElem_set,List.getElem_map,List.getElem_range]
 by_cases e:i=j
 ·subst e; rw [if_pos rfl,if_pos (by omega)]
 ·rw [if_neg e]
  by_cases hj:j<i
  ·rw [if_pos hj,if_pos (by omega)]
  ·rw [if_neg hj,if_neg (by omega)]
theorem D9 {α:Type} (new old:Nat->α) {n i:Nat} (h:new i=old i):rJ new old n i=rJ new old n (i+1):=by
 unfold rJ
 refine List.map_congr_left fun j _=>?_
 by_cases e:j=i
 ·subst e; rw [if_neg (by omega),if_pos (by omega),h]
 ·by_cases hj:j<i
  ·rw [if_pos hj,if_pos (by omega)]
  ·rw [if_neg hj,if_neg (by omega)]
theorem Gc {α:Type} (new old:Nat->α) (n:Nat):rJ new old n n=(List.range n).map new:=List.map_congr_left fun _j hj=>if_pos (List.mem_range.1 hj)
theorem we {α:Type} (l:List α) (d:α):(List.range l.length).map (fun j=>l.getD j d)=l:=by
 apply List.ext_getElem
 ·simp
 ·intro i h1 h2; simp [h2]
theorem xA {α:Type} (new:Nat->α) (l:List α) (d:α):rJ new (fun j=>l.getD j d) l.length 0=l:=by
 have:=we l d
 unfold rJ
 simpa using this
theorem sD {esz bytes:Nat} (he:0<esz) (hb:0<bytes) {A:aa} {N:Nat} (hN:N=A.length) {xs:List AV} {xv:AV} (h:SlA esz xs xv) (hl:xs.length*bytes<=140737488355328):aP esz bytes (A++[.row esz false []]) (.sl N 0 0) xv=some (.sl (N+1) 0 xs.length,A++[.dead,.row esz false xs]):=by
 subst hN
 have hs:aR esz (A++[.row esz false []]) xv=some xs:=by
  rcases h with ⟨rfl,rfl⟩ | rfl
  ·rfl
  ·simp [aR]
 have hr:(A++[Ent.row esz false []])[A.length]?=some (.row esz false []):=by simp
 simp only [aP,hs,hr]
 rw [if_pos ⟨trivial,he,hb,by rw [Nat.zero_add]; exact hl⟩,if_neg (by simp)]
 simp
section
variable {A:aa} {id:Nat} {cs:List (Int × Int)}
theorem JC {n:Nat} {g:Bool} {es:List AV} (h:A[id]?=some (.row 2 g es)) {k:Nat} (hk:k<n):ai 2 A (.sl id 0 n) (.int .i64 (k:Int))=some (.ptr id k 0):=by
 simp only [ai,h]
 rw [if_pos ⟨trivial,by omega,by omega,by omega⟩]
 simp
theorem Lz {g:Bool} {es:List AV} (h:A[id]?=some (.row 2 g es)) (k:Nat):ab 1 A (.ptr id k 0)=some (.ptr id k 1):=by
 simp [ab,h]
theorem Jx (h:A[id]?=some (.row 2 false (cs.map chA))) {k:Nat} {c:Int × Int} (hk:cs[k]?=some c):ac false 1 A (.ptr id k 1)=some (.int .i64 c.2):=by
 have e:(cs.map chA)[k]?=some (chA c):=by rw [List.getElem?_map,hk]; rfl
 simp only [ac,h,e]
 rfl
theorem Jb (h:A[id]?=some (.row 2 false (cs.map chA))) {k:Nat} {c:Int × Int} (hk:cs[k]?=some c) (v:Int):aA 1 A (.ptr id k 1) (.int .i64 v)=some (A.set id (.row 2 false ((cs.set k (c.1,v)).map chA))):=by
 have e:(cs.map chA)[k]?=some (chA c):=by rw [List.getElem?_map,hk]; rfl
 have e2:(cs.map chA).set k (chA (c.1,v))=(cs.set k (c.1,v)).map chA:=by rw [List.map_set]
 simp only [aA,h,e]
 rw [if_pos ⟨trivial,rfl,rfl,by omega⟩]
 rw [<-e2]
 rfl
end
def laR (by':Int) (t:Int):Int:=if 0<=t then t+by' else t
theorem GG (by':Int) (rd:List Int):(List.range rd.length).map (fun j=>laR by' (rd.getD j 0))=shR by' rd:=by
 apply List.ext_getElem
 ·simp [shR]
 ·intro i h1 h2
  have:i<rd.length:=by simpa using h1
  simp [shR,laR,this]
def C9 (B:aa) (l:List Int):aa:=B++[.dead,.row 1 false (ak l)]
theorem Ga {B:aa} (hB:B.length=2) {rd:List Int} (hrd:∀t∈rd,-1<=t/\t<=119) {by':Int} (hb:0<=by'/\by'<=10000) {i:Nat} (hi:i<rd.length) (hl:rd.length<=100) (v2 v5 v6 v7 v8:AV) :
  run (ax GC fsL) 300 [.code rR] (vV (.int .i64 by') v2 v5 v6 v7 v8 (.sl 3 0 rd.length) (.int .i64 (i:Int))) (C9 B (rJ (fun j=>laR by' (rd.getD j 0)) (fun j=>rd.getD j 0) rd.length i)) =
   some (.normal (vV (.int .i64 by') v2 v5 v6 v7 v8 (.sl 3 0 rd.length) (.int .i64 ((i+1:Nat):Int))) (C9 B (rJ (fun j=>laR by' (rd.getD j 0)) (fun j=>rd.getD j 0) rd.length (i+1)))):=by
 obtain ⟨new,hnew⟩:∃f:Nat->Int,f=fun j=>laR by' (rd.getD j 0):=⟨_,rfl⟩
 obtain ⟨old,hold⟩:∃f:Nat->Int,f=fun j=>rd.getD j 0:=⟨_,rfl⟩
 rw [<-hnew,<-hold]
 have hr:∀l,(C9 B l)[3]?=some (.row 1 false (ak l)):=fun l=>by
  unfold C9; rw [List.getElem?_append_right (by omega),hB]; rfl
 have hset:∀l l',(C9 B l).set 3 (.row 1 false (ak l'))=C9 B l':=fun l l'=>by
  unfold C9; rw [List.set_append_right _ _ (by omega),hB]; rfl
 obtain ⟨t,ht⟩:∃t,t=rd.getD i 0:=⟨_,rfl⟩
 have htb : -1<=t/\t<=119:=by
  rw [ht,List.getD_eq_getElem?_getD,List.getElem?_eq_getElem hi]
  exact hrd _ (List.getElem_mem hi)
 have ho:old i=t:=by rw [hold,ht]
 have hn:new i=laR by' t:=by rw [hnew,ht]
 have hl0:=BI new old rd.length i
 obtain ⟨n,hn'⟩:∃n,n=rd.length:=⟨_,rfl⟩
 rw [<-hn'] at hl0 hi hl ⊢
 have b0:=bh i n .i64
 rw [decide_eq_true hi] at b0
 have b1:=a5 i (by omega)
 have hS:aq (.sl 3 0 n)=some (.int .i64 (n:Int)):=rfl
 have i0:=eA (n:=n) (hr (rJ new old n i)) hi .i64
 have d0:=nY (hr (rJ new old n i)) (show i<(rJ new old n i).length by omega)
 rw [show (rJ new old n i).getD i 0=t by rw [List.getD_eq_getElem?_getD,BJ new old hi,ho]; rfl] at d0
 have b2:ag .geq (.int .i64 t) (.int .i64 0)=some (.bool (decide (0<=t))):=by simp [ag]
 have b3:ag .add (.int .i64 t) (.int .i64 by')=some (.int .i64 (t+by')):=a8 (by omega)
 obtain ⟨i1,hi1⟩:∃j,j=i+1:=⟨_,rfl⟩
 rw [<-hi1] at b1 ⊢
 by_cases h0:0<=t
 ·have s0:=ne (hr (rJ new old n i)) (show i<(rJ new old n i).length by omega) (t+by')
  have en:new i=t+by':=by rw [hn]; exact if_pos h0
  rw [hset,<-en,BH new old hi,en,<-hi1] at s0
  rw [decide_eq_true h0] at b2
  generalize C9 B (rJ new old n i)=Q0 at *
  generalize C9 B (rJ new old n i1)=Q1 at *
  simp [rR,hS,b0,b1,b2,b3,i0,d0,s0,-ag,-ac,-aA,-ai,-aq]
 ·have en:new i=old i:=by rw [hn,ho]; exact if_neg h0
  have e2:=D9 new old (n:=n) en
  rw [e2,<-hi1] at d0 i0 ⊢
  rw [decide_eq_false h0] at b2
  generalize C9 B (rJ new old n i1)=Q1 at *
  simp [rR,hS,b0,b1,b2,i0,d0,-ag,-ac,-aA,-ai,-aq]
theorem Jw {B:aa} (hB:B.length=2) {rd:List Int} (hrd:∀t∈rd,-1<=t/\t<=119) {by':Int} (hb:0<=by'/\by'<=10000) (hl:rd.length<=100) (v2 v5 v6 v7 v8:AV):∀(c i m:Nat),i+c=rd.length->c<m ->
  bX (evC (ax GC fsL) 300 rR) nS m (vV (.int .i64 by') v2 v5 v6 v7 v8 (.sl 3 0 rd.length) (.int .i64 (i:Int))) (C9 B (rJ (fun j=>laR by' (rd.getD j 0)) (fun j=>rd.getD j 0) rd.length i)) =
   some (.exit 0 ((vV (.int .i64 by') v2 v5 v6 v7 v8 (.sl 3 0 rd.length) (.int .i64 (rd.length:Int))).set 22 (.bool false)) (C9 B (shR by' rd))):=by
 intro c
 induction c with
 | zero=>
  intro i m hi hm
  obtain ⟨m,rfl⟩:∃j,m=j+1:=⟨m-1,by omega⟩
  obtain rfl:i=rd.length:=by omega
  have b2:=bh rd.length rd.length .i64
  rw [decide_eq_false (by omega)] at b2
  rw [aM,EM,Gc,GG]
  simp [rR,b2,-ag]
 | succ c ih=>
  intro i m hi hm
  obtain ⟨m,rfl⟩:∃j,m=j+1:=⟨m-1,by omega⟩
  rw [aM,EM,Ga hB hrd hb (by omega) hl]
  exact ih (i+1) m (by omega) (by omega)
theorem DS {B:aa} {l:List cP} {by':Int} (hb:0<=by'/\by'<=10000) {lv mv:AV} (hlv:SlA 2 (l.map a0) lv) (hmv:SlA 2 ((shL by' l).map a0) mv) (hl:l.length<=100) (hst:∀t∈l,0<=t.2/\t.2<=1000000000) {i:Nat} (hi:i<l.length) (v2 v5 v6 v7 v8 v12:AV) :
  run (ax GC fsL) 300 [.code tN] (vU (.int .i64 by') v2 v5 v6 v7 v8 lv v12 mv (.int .i64 (i:Int))) B=some (.normal (vU (.int .i64 by') v2 v5 v6 v7 v8 lv v12 mv (.int .i64 ((i+1:Nat):Int))) B):=by
 have h1:=hlv.len
 rw [List.length_map] at h1
 obtain ⟨t,ht⟩:∃t,t=l[i]:=⟨_,rfl⟩
 have hts:0<=t.2/\t.2<=1000000000:=by rw [ht]; exact hst _ (List.getElem_mem hi)
 have x1:ai 2 B lv (.int .i64 (i:Int))=some (.fp [.int .i64 t.1,.int .i64 t.2]):=hlv.index (A:=B) (x:=a0 t) (by simp [hi,ht]) rfl (by omega) .i64
 have x2:ai 2 B mv (.int .i64 (i:Int))=some (.fp [.int .i64 t.1,.int .i64 (t.2+by')]):=hmv.index (A:=B) (x:=a0 (t.1,t.2+by')) (by simp [shL,hi,ht]) rfl (by omega) .i64
 have b0:=bh i l.length .i64
 rw [decide_eq_true hi] at b0
 have b1:=a5 i (by omega)
 have b2:=cW t.1 t.1
 have b3:=cW (t.2+by') (t.2+by')
 rw [decide_eq_false (by simp)] at b2 b3
 have b4:ag .add (.int .i64 t.2) (.int .i64 by')=some (.int .i64 (t.2+by')):=a8 (by omega)
 have f0:∀a b,ab 0 B (.fp [a,b])=some (.fp [a,b]):=fun a b=>rfl
 have f1:∀a b,ab 1 B (.fp [a,b])=some (.fp [b]):=fun a b=>rfl
 have g0:∀a b,ac false 1 B (.fp [.int .i64 a,b])=some (.int .i64 a):=fun a b=>rfl
 have g1:∀a,ac false 1 B (.fp [.int .i64 a])=some (.int .i64 a):=fun a=>rfl
 obtain ⟨i1,hi1⟩:∃j,j=i+1:=⟨_,rfl⟩
 rw [<-hi1] at b1 ⊢
 generalize t.2+by'=w at *
 simp [tN,h1,x1,x2,b0,b1,b2,b3,b4,f0,f1,g0,g1,-ag,-ac,-ab,-ai,-aq]
theorem Gu {B:aa} {l:List cP} {by':Int} (hb:0<=by'/\by'<=10000) {lv mv:AV} (hlv:SlA 2 (l.map a0) lv) (hmv:SlA 2 ((shL by' l).map a0) mv) (hl:l.length<=100) (hst:∀t∈l,0<=t.2/\t.2<=1000000000) (v2 v5 v6 v7 v8 v12:AV):∀(c i m:Nat),i+c=l.length->c<m ->
  bX (evC (ax GC fsL) 300 tN) nR m (vU (.int .i64 by') v2 v5 v6 v7 v8 lv v12 mv (.int .i64 (i:Int))) B=some (.exit 2 ((vU (.int .i64 by') v2 v5 v6 v7 v8 lv v12 mv (.int .i64 (l.length:Int))).set 25 (.bool false)) B):=by
 intro c
 induction c with
 | zero=>
  intro i m hi hm
  obtain ⟨m,rfl⟩:∃j,m=j+1:=⟨m-1,by omega⟩
  obtain rfl:i=l.length:=by omega
  have h1:=hlv.len
  rw [List.length_map] at h1
  have b2:=bh l.length l.length .i64
  rw [decide_eq_false (by omega)] at b2
  rw [aM,EL]
  simp [tN,h1,b2,-ag,-aq]
 | succ c ih=>
  intro i m hi hm
  obtain ⟨m,rfl⟩:∃j,m=j+1:=⟨m-1,by omega⟩
  rw [aM,EL,DS hb hlv hmv hl hst (by omega)]
  exact ih (i+1) m (by omega) (by omega)
def moC (more:List Int) (cs:List (Int × Int)) (j:Nat):Int × Int:=((cs.getD j (0,0)).1,(cs.getD j (0,0)).2+pick (more.getD j 0) 100)
def moT (T:aQ) (more:List Int):aQ:={T with ch:=rJ (moC more T.ch) (fun j=>T.ch.getD j (0,0)) T.ch.length (min T.ch.length more.length)}
def E9 (B:aa) (id:Nat) (p q r:Int) (n:Nat) (cs:List (Int × Int)):aa:=B++[.row 5 false [.agg [.sl (id+2) 0 n,.int .i64 p,.int .i64 q,.int .i64 r,.int .i64 1]],.dead,.row 2 false (cs.map chA)]
theorem DR {B:aa} {id:Nat} (hB:B.length=id) {cs:List (Int × Int)} (hcs:∀c∈cs,0<=c.2/\c.2<=1000) {more:List Int} {wv:AV} (hw:SlA 1 (ak more) wv) (hwi:∀z∈more,inI z) {i:Nat} (hi:i<cs.length) (hi2:i<more.length) (hl:cs.length<=100) (p q r:Int) (v5 v6 v7 v8 v11 v12:AV) :
  run (ax GC fsL) 300 [.code rQ] (vT wv v5 v6 v7 v8 v11 v12 (.ptr id 0 0) (.int .i64 (i:Int))) (E9 B id p q r cs.length (rJ (moC more cs) (fun j=>cs.getD j (0,0)) cs.length i)) =
   some (.normal (vT wv v5 v6 v7 v8 v11 v12 (.ptr id 0 0) (.int .i64 ((i+1:Nat):Int))) (E9 B id p q r cs.length (rJ (moC more cs) (fun j=>cs.getD j (0,0)) cs.length (i+1)))):=by
 obtain ⟨new,hnew⟩:∃f,f=moC more cs:=⟨_,rfl⟩
 obtain ⟨old,hold⟩:∃f:Nat->Int × Int,f=fun j=>cs.getD j (0,0):=⟨_,rfl⟩
 rw [<-hnew,<-hold]
 have hr:∀n l,(E9 B id p q r n l)[id+2]?=some (.row 2 false (l.map chA)):=fun n l=>by
  unfold E9; rw [List.getElem?_append_right (by omega),hB,Nat.add_sub_cancel_left]; rfl
 have hr0:∀n l,(E9 B id p q r n l)[id]?=some (.row 5 false [.agg [.sl (id+2) 0 n,.int .i64 p,.int .i64 q,.int .i64 r,.int .i64 1]]):=fun n l=>by
  unfold E9; rw [List.getElem?_append_right (by omega),hB,Nat.sub_self]; rfl
 have hset:∀n l l',(E9 B id p q r n l).set (id+2) (.row 2 false (l'.map chA))=E9 B id p q r n l':=fun n l l'=>by
  unfold E9; rw [List.set_append_right _ _ (by omega),hB,Nat.add_sub_cancel_left]; rfl
 obtain ⟨c,hc⟩:∃c,c=cs.getD i (0,0):=⟨_,rfl⟩
 have hcb:0<=c.2/\c.2<=1000:=by
  rw [hc,List.getD_eq_getElem?_getD,List.getElem?_eq_getElem hi]
  exact hcs _ (List.getElem_mem hi)
 obtain ⟨y,hy⟩:∃y,y=more[i]:=⟨_,rfl⟩
 have hyg:more.getD i 0=y:=by rw [List.getD_eq_getElem?_getD,List.getElem?_eq_getElem hi2,hy]; rfl
 have hyi:inI y:=by rw [hy]; exact hwi _ (List.getElem_mem hi2)
 have ho:old i=c:=by rw [hold,hc]
 have hn:new i=(c.1,c.2+pick y 100):=by rw [hnew]; unfold moC; rw [hyg,<-hc]
 obtain ⟨n,hn'⟩:∃n,n=cs.length:=⟨_,rfl⟩
 rw [<-hn'] at hi hl ⊢
 have hlw:=hw.len
 rw [aB] at hlw
 have b0:=bh i n .i64
 rw [decide_eq_true hi] at b0
 have b00:=bh i more.length .i64
 rw [decide_eq_true hi2] at b00
 have b1:=a5 i (by omega)
 have hS:aq (.sl (id+2) 0 n)=some (.int .i64 (n:Int)):=rfl
 have hg:=BJ new old (n:=n) hi
 rw [ho] at hg
 have hR:=hr n (rJ new old n i)
 have i0:=JC (n:=n) hR hi
 have i1:=Lz hR i
 have d0:=Jx hR hg
 have pr:=bS y 100 (by omega)
 have b2:ag .add (.int .i64 c.2) (.int .i64 (pick y 100))=some (.int .i64 (c.2+pick y 100)):=a8 (by omega)
 have s0:=Jb hR hg (c.2+pick y 100)
 rw [hset,<-hn,BH new old hi] at s0
 have m1:=eu hyi (n:=100) (by omega)
 have x1:∀A,ai 1 A wv (.int .i64 (i:Int))=some (.fp [.int .i64 y]):=fun A=>hw.index1 (A:=A) (x:=.int .i64 y) (i:=i) (by simp [ak,hi2,hy]) rfl rfl .i64
 have l1:∀A,ac false 1 A (.fp [.int .i64 y])=some (.int .i64 y):=fun A=>rfl
 have fa:ab 0 (E9 B id p q r n (rJ new old n i)) (.ptr id 0 0)=some (.ptr id 0 0):=by simp [ab,hr0]
 have la:ac false 1 (E9 B id p q r n (rJ new old n i)) (.ptr id 0 0)=some (.sl (id+2) 0 n):=rX (k:=5) (hr0 _ _) rfl
 obtain ⟨i2,hi1⟩:∃j,j=i+1:=⟨_,rfl⟩
 rw [<-hi1] at b1 s0 ⊢
 generalize E9 B id p q r n (rJ new old n i)=Q0 at *
 generalize E9 B id p q r n (rJ new old n i2)=Q1 at *
 generalize c.2+pick y 100=w at *
 generalize pick y 100=w2 at *
 simp [rQ,hS,hlw,b0,b00,b1,b2,i0,i1,d0,s0,x1,l1,m1,fa,la,aN,-ag,-ac,-aA,-ai,-aq,-ab,-frz]
theorem Gt {B:aa} {id:Nat} (hB:B.length=id) {cs:List (Int × Int)} (hcs:∀c∈cs,0<=c.2/\c.2<=1000) {more:List Int} {wv:AV} (hw:SlA 1 (ak more) wv) (hwi:∀z∈more,inI z) (hl:cs.length<=100) (p q r:Int) (v5 v6 v7 v8 v11 v12:AV):∀(c i m:Nat),i+c=min cs.length more.length->c<m ->
  ∃b,bX (evC (ax GC fsL) 300 rQ) nQ m (vT wv v5 v6 v7 v8 v11 v12 (.ptr id 0 0) (.int .i64 (i:Int))) (E9 B id p q r cs.length (rJ (moC more cs) (fun j=>cs.getD j (0,0)) cs.length i)) =
   some (.exit 4 ((vT wv v5 v6 v7 v8 v11 v12 (.ptr id 0 0) (.int .i64 ((min cs.length more.length:Nat):Int))).set 27 b) (E9 B id p q r cs.length (rJ (moC more cs) (fun j=>cs.getD j (0,0)) cs.length (min cs.length more.length)))):=by
 intro c
 induction c with
 | zero=>
  intro i m hi hm
  obtain ⟨m,rfl⟩:∃j,m=j+1:=⟨m-1,by omega⟩
  rw [<-show i=min cs.length more.length by omega]
  have hlw:=hw.len
  rw [aB] at hlw
  have hS:aq (.sl (id+2) 0 cs.length)=some (.int .i64 (cs.length:Int)):=rfl
  have b0:=bh i cs.length .i64
  have b1:=bh i more.length .i64
  have hr0:∀n l,(E9 B id p q r n l)[id]?=some (.row 5 false [.agg [.sl (id+2) 0 n,.int .i64 p,.int .i64 q,.int .i64 r,.int .i64 1]]):=fun n l=>by
   unfold E9; rw [List.getElem?_append_right (by omega),hB,Nat.sub_self]; rfl
  have fa:∀l,ab 0 (E9 B id p q r cs.length l) (.ptr id 0 0)=some (.ptr id 0 0):=fun l=>by simp [ab,hr0]
  have la:∀l,ac false 1 (E9 B id p q r cs.length l) (.ptr id 0 0)=some (.sl (id+2) 0 cs.length):=fun l=>rX (k:=5) (hr0 _ _) rfl
  have fa:=fa (rJ (moC more cs) (fun j=>cs.getD j (0,0)) cs.length i)
  have la:=la (rJ (moC more cs) (fun j=>cs.getD j (0,0)) cs.length i)
  rw [aM,EK]
  generalize E9 B id p q r cs.length (rJ (moC more cs) (fun j=>cs.getD j (0,0)) cs.length i)=Q at *
  by_cases h:i<cs.length
  ·rw [decide_eq_true h] at b0
   rw [decide_eq_false (by omega)] at b1
   exact ⟨.bool false,by simp [rQ,hS,hlw,b0,b1,fa,la,-ag,-aq,-ac,-ab]⟩
  ·rw [decide_eq_false h] at b0
   exact ⟨.bool false,by simp [rQ,hS,b0,fa,la,-ag,-aq,-ac,-ab]⟩
 | succ c ih=>
  intro i m hi hm
  obtain ⟨m,rfl⟩:∃j,m=j+1:=⟨m-1,by omega⟩
  obtain ⟨b,hb⟩:=ih (i+1) m (by omega) (by omega)
  refine ⟨b,?_⟩
  rw [aM,EK,DR hB hcs hw hwi (by omega) (by omega) hl]
  exact hb
theorem f7 (T:aQ) (more:List Int):(moT T more).ch.length=T.ch.length:=BI _ _ _ _
theorem tK (T:aQ) (more:List Int) {k:Nat} (hk:k<T.ch.length):(moT T more).ch.getD k (0,0)=if k<more.length then moC more T.ch k else T.ch.getD k (0,0):=by
 show (rJ _ _ _ _).getD k (0,0)=_
 rw [List.getD_eq_getElem?_getD]
 simp only [rJ,List.getElem?_map,List.getElem?_range hk,Option.map_some,Option.getD_some]
 by_cases h:k<more.length
 ·rw [if_pos (by omega),if_pos h]
 ·rw [if_neg (by omega),if_neg h]
theorem wj (T:aQ) (more:List Int):zV T (moT T more):=by
 refine ⟨rfl,rfl,rfl,f7 T more,fun k=>?_,fun k=>?_⟩
 ·unfold tmT
  by_cases hk:k<T.ch.length
  ·rw [tK T more hk]; split <;> rfl
  ·rw [List.getD_eq_getElem?_getD,List.getElem?_eq_none (by rw [f7]; omega),List.getD_eq_getElem?_getD,List.getElem?_eq_none (by omega)]
 ·unfold syT
  by_cases hk:k<T.ch.length
  ·rw [tK T more hk]
   have:=bS (more.getD k 0) 100 (by omega)
   split
   ·simp only [moC]; omega
   ·exact Int.le_refl _
  ·rw [List.getD_eq_getElem?_getD,List.getElem?_eq_none (by omega),List.getD_eq_getElem?_getD,List.getElem?_eq_none (by rw [f7]; omega)]
   exact Int.le_refl _
theorem xI (x:XC) (more:List Int):aX (moT x.T more)/\(moT x.T more).blades=1:=by
 obtain ⟨⟨v1,v2,v3,v4,v5⟩,v6⟩:=fM x.ys x.a x.b x.c
 obtain ⟨_,_,_,k⟩:=rN x.ys x.a x.b x.c
 refine ⟨⟨fun c hc=>?_,v2,by rw [f7]; exact v3,by rw [f7]; exact v4,v5⟩,v6⟩
 obtain ⟨i,hi,rfl⟩:=List.mem_iff_getElem.1 hc
 have hi':i<x.T.ch.length:=by rw [f7] at hi; exact hi
 have e:(moT x.T more).ch[i]=(moT x.T more).ch.getD i (0,0):=by rw [List.getD_eq_getElem?_getD,List.getElem?_eq_getElem hi]; rfl
 rw [e,tK _ _ hi']
 have hg:x.T.ch.getD i (0,0)=x.T.ch[i]:=by rw [List.getD_eq_getElem?_getD,List.getElem?_eq_getElem hi']; rfl
 have k1:=k _ (List.getElem_mem hi')
 have:=bS (more.getD i 0) 100 (by omega)
 split
 ·unfold moC rH
  rw [hg]
  simp only
  omega
 ·rw [hg]; unfold rH; omega
end Tr
namespace Tr
open Go
open Cy (GC aN bj aB eu)
open Clu (aQ aX rH cA Chk ro aw chA a8 ck ee cO cW bL cT ei a6 cZ)
theorem EP {T:aQ} (hv:aX T) (a b:Int):0<=btw T a b:=by
 unfold btw
 have:=hv.2.1.2.2.1
 split <;> omega
theorem sJ {T:aQ} (hv:aX T):∀(l:List cP) (a b:St),mV T a l=some b->0<=a.fin->∀t∈l,0<=t.2/\t.2<=1000000000
 | [],_,_,_,_=>fun t ht=>by cases ht
 | t :: r,a,b,h,ha=>by
  simp only [mV] at h
  rw [Option.bind_eq_some_iff] at h
  obtain ⟨c,hc,h⟩:=h
  unfold fG at hc
  split at hc
  ·rename_i hh
   rw [Option.bind_eq_some_iff] at hc
   obtain ⟨u,_,hc⟩:=hc
   rw [Option.map_eq_some_iff] at hc
   obtain ⟨v,_,rfl⟩:=hc
   have:=dq hv
   have:=EP hv a.last t.1
   have h2:=sJ hv r _ b h (by simp only; omega)
   intro s hs
   rcases List.mem_cons.1 hs with rfl | hs
   ·omega
   ·exact h2 s hs
  ·cases hc
theorem ua {T:aQ} {rd:List Int} {free:Int}:∀t∈(ba T rd free).getD [],0<=t.2/\t.2<=1000000000:=by
 cases h:ba T rd free with
 | none=>intro t ht; cases ht
 | some d=>
  obtain ⟨x,h1,_⟩:=ss h
  have hS:=(eF h).1
  exact sJ hS.1.1 d _ _ h1 hS.2.2.1.1
theorem oC {T:aQ} {rd:List Int} {free:Int}:((ba T rd free).getD []).length<=10:=by
 cases h:ba T rd free with
 | none=>simp
 | some d=>exact (oB h).1
theorem mR {A:aa} {id:Nat} {g:Bool} {l:List Int} {n:Nat} (h:A[id]?=some (.row 1 g (ak l))) (hn:n=l.length) (k:Nat):frz A (k+2) (.sl id 0 n)=.fs 1 (ak l):=by
 have:=dE (off:=0) (xs:=ak l) h (by rw [List.drop_zero]; exact List.take_of_length_le (Nat.le_refl _)) (fun k x hx=>by
  obtain ⟨c,_,rfl⟩:=List.mem_map.1 hx
  exact aN _ _ _ _) k
 rw [hn,<-aB l]; exact this
theorem EH {A:aa} {id:Nat} {g:Bool} {l:List (Int × Int)} {n:Nat} (h:A[id]?=some (.row 2 g (l.map chA))) (hn:n=l.length) (k:Nat):frz A (k+3) (.sl id 0 n)=.fs 2 (l.map chA):=by
 have e:((l.map chA).drop 0).take n=l.map chA:=by
  rw [List.drop_zero]
  exact List.take_of_length_le (by simp [hn])
 have hm:(l.map chA).map (frz A (k+2))=l.map chA:=by
  rw [List.map_map]
  exact List.map_congr_left fun x _=>by simp [chA,frz]
 rw [show k+3=(k+2)+1 from rfl]
 simp only [frz,h]
 rw [e,hm]
theorem F6 (x:XC) {by':Int} (hb:0<=by'/\by'<=10000):Sit x.T (shR by' x.R) (x.F+by'):=by
 have h:=fM x.ys x.a x.b x.c
 have k:=bS x.free 60 (by omega)
 refine ⟨h,by rw [shR,List.length_map]; exact qA _ _,by unfold XC.F; omega,fun t ht=>?_⟩
 obtain ⟨s,hs,rfl⟩:=List.mem_map.1 ht
 have:=xz s hs
 split <;> omega
theorem ev9 {x:XC} {yv rv:AV} (h:XV x yv rv) {b0':Int} (hb0:inI b0') {more:List Int} {wv:AV} (hw:SlA 1 (ak more) wv) (hwi:∀z∈more,inI z):evP (ax GC fsL) 300 mf9 1 [x.A yv rv,.int .i64 b0',wv]=some (.bool true):=by
 obtain ⟨A0,Az,s0,s1,s2,s3,s4,s5,s6,s7⟩:=Jh h
 have f1:∀A,frz A 4 x.tv=x.tv:=x.tfrz
 have f2:∀A n,frz A n x.rv=x.rv:=x.rfrz
 have n1:=x.tref
 have n2:=x.rref
 have hn4:=x.nb
 have hRl:x.R.length=x.T.ch.length:=qA _ _
 unfold XC.n at hn4
 obtain ⟨B1,hB1⟩:∃B,B=B0 x yv rv:=⟨_,rfl⟩
 have hBl:B1.length=2:=by rw [hB1]; rfl
 rw [<-hB1] at s7
 have m1:=eu hb0 (n:=10000) (by omega)
 have hby:=bS b0' 10000 (by omega)
 obtain ⟨d,hd⟩:∃d,d=pick b0' 10000:=⟨_,rfl⟩
 rw [<-hd] at m1 hby
 have bs1:bD 1 [] B1=some (.sl 2 0 0,B1++[.row 1 false []]):=by
  simp [bD,hBl]
 have ap1:=sD (esz:=1) (bytes:=8) (by omega) (by omega) hBl.symm x.rvS (by rw [aB]; omega)
 rw [aB] at ap1
 have lp1:=Jw hBl (rd:=x.R) (fun t ht=>xz t ht) (by':=d) ⟨hby.1,by omega⟩ (by omega) wv (.bool true) (.ptr 1 0 0) x.rv (.int .i64 x.F) x.R.length 0 300 (by omega) (by omega)
 rw [xA,show ((0:Nat):Int)=0 from rfl] at lp1
 rw [show B1++[.dead,.row 1 false (ak x.R)]=C9 B1 x.R from rfl] at ap1
 have hFb:=x.sit.2.2.1
 have hF60:=bS x.free 60 (by omega)
 obtain ⟨dv,m14,rd⟩:=uk (free:=x.F) (lost:=0) x.chS x.rvS x.chl x.Rl
 rw [dm0] at m14 rd
 have m14:E3 [x.tv,x.rv,.int .i64 x.F,.int .i64 0]=_:=m14
 have hr3:(C9 B1 (shR d x.R))[3]?=some (.row 1 false (ak (shR d x.R))):=by
  unfold C9; rw [List.getElem?_append_right (by omega),hBl]; rfl
 have hsl:(shR d x.R).length=x.R.length:=by simp [shR]
 obtain ⟨ev,m14b,re⟩:=uk (free:=x.F+d) (lost:=0) x.chS (rdv:=.fs 1 (ak (shR d x.R))) (.inr rfl) x.chl (by have:=x.Rl; omega)
 rw [dm0,Bi ⟨hby.1,by omega⟩ x.sit (F6 x ⟨hby.1,by omega⟩)] at m14b re
 rw [Option.isSome_map] at m14b
 have m14b:E3 [x.tv,.fs 1 (ak (shR d x.R)),.int .i64 (x.F+d),.int .i64 0]=_:=m14b
 have eg:((ba x.T x.R x.F).map (shL d)).getD []=shL d ((ba x.T x.R x.F).getD []):=by cases ba x.T x.R x.F <;> rfl
 rw [eg] at re
 have fz:frz (C9 B1 (shR d x.R)) 4 (.sl 3 0 x.R.length)=.fs 1 (ak (shR d x.R)):=mR hr3 hsl.symm 2
 have bFd:ag .add (.int .i64 x.F) (.int .i64 d)=some (.int .i64 (x.F+d)):=a8 (by unfold XC.F; omega)
 obtain ⟨C,hC⟩:∃C,C=C9 B1 (shR d x.R):=⟨_,rfl⟩
 have hCl:C.length=4:=by rw [hC]; unfold C9; rw [List.length_append,hBl]; rfl
 have lt:ac true 5 C (.ptr 1 0 0)=some x.tv:=by rw [hC,hB1]; rfl
 rw [<-hC] at fz lp1
 have hl10:=oC (T:=x.T) (rd:=x.R) (free:=x.F)
 have hts:=ua (T:=x.T) (rd:=x.R) (free:=x.F)
 obtain ⟨l,hl⟩:∃l,l=(ba x.T x.R x.F).getD []:=⟨_,rfl⟩
 rw [<-hl] at rd re hl10 hts
 have lp2:=Gu (B:=C) (by':=d) ⟨hby.1,by omega⟩ rd re (by omega) hts wv (.bool true) (.ptr 1 0 0) x.rv (.int .i64 x.F) (.bool (ba x.T x.R x.F).isSome) l.length 0 300 (by omega) (by omega)
 rw [show ((0:Nat):Int)=0 from rfl] at lp2
 have ll:=rd.len
 have le:=re.len
 have hsl2:(shL d l).length=l.length:=by simp [shL]
 rw [List.length_map] at ll le
 rw [hsl2] at le
 have hv1:=(fM x.ys x.a x.b x.c).2
 have etv:x.tv=.agg [x.ch,.int .i64 x.T.pick,.int .i64 x.T.place,.int .i64 x.T.travel,.int .i64 1]:=by
  show AV.agg [x.ch,_,_,_,.int .i64 x.T.blades]=_
  rw [show x.T.blades=1 from hv1]
 have bz:aY 5 zT C=some (.ptr 4 0 0,C++[.row 5 false [zT]]):=by rw [<-hCl]; rfl
 have bt:aA 5 (C++[.row 5 false [zT]]) (.ptr 4 0 0) x.tv=some (C++[.row 5 false [x.tv]]):=by
  rw [hC,hB1,etv]; rfl
 obtain ⟨D,hD⟩:∃D,D=C++[Ent.row 5 false [x.tv]]:=⟨_,rfl⟩
 have hDl:D.length=5:=by rw [hD]; simp [hCl]
 rw [<-hD] at bt
 have bs2:bD 2 [] D=some (.sl 5 0 0,D++[.row 2 false []]):=by
  simp [bD,hDl]
 have ap2:=sD (esz:=2) (bytes:=16) (by omega) (by omega) hDl.symm x.chS (by rw [List.length_map]; omega)
 rw [List.length_map] at ap2
 have fa6:ab 0 (D++[.row 2 false []]) (.ptr 1 0 0)=some (.ptr 1 0 0):=by rw [hD,hC,hB1]; rfl
 have la6:ac false 1 (D++[.row 2 false []]) (.ptr 1 0 0)=some x.ch:=by
  refine rX (k:=5) (es:=[x.ch,.int .i64 x.T.pick,.int .i64 x.T.place,.int .i64 x.T.travel,.int .i64 1]) ?_ rfl
  rw [hD,hC,hB1,<-etv]; rfl
 obtain ⟨E,hE⟩:∃E,E=D++[Ent.dead,.row 2 false (x.T.ch.map chA)]:=⟨_,rfl⟩
 rw [<-hE] at ap2
 have fa7:ab 0 E (.ptr 4 0 0)=some (.ptr 4 0 0):=by rw [hE,hD,hC,hB1]; rfl
 have st7:aA 1 E (.ptr 4 0 0) (.sl 6 0 x.T.ch.length)=some (E9 C 4 x.T.pick x.T.place x.T.travel x.T.ch.length x.T.ch):=by
  rw [hE,hD,hC,hB1,etv]; rfl
 obtain ⟨q1,q2,q3,q4⟩:=rN x.ys x.a x.b x.c
 obtain ⟨bb,lp3⟩:=Gt hCl (cs:=x.T.ch) (fun c hc=>by have:=q4 c hc; omega) hw hwi (by omega) x.T.pick x.T.place x.T.travel (.bool true) (.ptr 1 0 0) x.rv (.int .i64 x.F) dv (.bool (ba x.T x.R x.F).isSome) (min x.T.ch.length more.length) 0 300 (by omega) (by omega)
 rw [xA,show ((0:Nat):Int)=0 from rfl,show rJ (moC more x.T.ch) (fun j=>x.T.ch.getD j (0,0)) x.T.ch.length (min x.T.ch.length more.length)=(moT x.T more).ch from rfl] at lp3
 have hmv:=xI x more
 obtain ⟨G,hG⟩:∃G,G=E9 C 4 x.T.pick x.T.place x.T.travel x.T.ch.length (moT x.T more).ch:=⟨_,rfl⟩
 rw [<-hG] at lp3
 have hG6:G[6]?=some (.row 2 false ((moT x.T more).ch.map chA)):=by rw [hG,hC,hB1]; rfl
 have lg:ac true 5 G (.ptr 4 0 0)=some (.agg [.sl 6 0 x.T.ch.length,.int .i64 x.T.pick,.int .i64 x.T.place,.int .i64 x.T.travel,.int .i64 1]):=by rw [hG,hC,hB1]; rfl
 have lg1:ac true 5 G (.ptr 1 0 0)=some x.tv:=by rw [hG,hC,hB1]; rfl
 have fg:frz G 4 (.agg [.sl 6 0 x.T.ch.length,.int .i64 x.T.pick,.int .i64 x.T.place,.int .i64 x.T.travel,.int .i64 1])=aw (moT x.T more) (.fs 2 ((moT x.T more).ch.map chA)):=by
  have:=EH hG6 (n:=x.T.ch.length) (f7 _ _).symm 0
  show AV.agg [frz G 3 _,_,_,_,_]=_
  rw [this]
  have e1:=hmv.2
  unfold aw
  rw [e1]
  rfl
 have hmS:SlA 2 ((moT x.T more).ch.map chA) (.fs 2 ((moT x.T more).ch.map chA)):=.inr rfl
 have hml:(moT x.T more).ch.length<=200:=by rw [f7]; omega
 have hsit:Sit (moT x.T more) x.R x.F:=⟨hmv,by rw [f7]; exact x.sit.2.1,x.sit.2.2⟩
 obtain ⟨kv,m14c,rk⟩:=uk (free:=x.F) (lost:=0) hmS x.rvS hml x.Rl
 rw [dm0] at m14c rk
 have hk10:=oC (T:=moT x.T more) (rd:=x.R) (free:=x.F)
 obtain ⟨kl,hkl⟩:∃k,k=(ba (moT x.T more) x.R x.F).getD []:=⟨_,rfl⟩
 rw [<-hkl] at rk hk10
 have m17a:=ql (T:=x.T) x.chS x.chl x.rvS x.Rl x.F rd (by omega)
 have m17b:=ql hmS hml x.rvS x.Rl x.F rk (by omega)
 have m17c:M17 [x.tv,x.rv,.int .i64 x.F,dv]=some (.tup [.int .i64 ((dt x.T x.R x.F l).getD 0),.bool (dt x.T x.R x.F l).isSome]):=m17a
 have m17d:M17 [aw (moT x.T more) (.fs 2 ((moT x.T more).ch.map chA)),x.rv,.int .i64 x.F,kv]=some (.tup [.int .i64 ((dt (moT x.T more) x.R x.F kl).getD 0),.bool (dt (moT x.T more) x.R x.F kl).isSome]):=m17b
 have fdv:∀A,frz A 4 dv=dv:=fun A=>rd.frz 4
 have fev:∀A,frz A 4 ev=ev:=fun A=>re.frz 4
 have fkv:∀A,frz A 4 kv=kv:=fun A=>rk.frz 4
 have bne:=cW (l.length:Int) (l.length:Int)
 rw [decide_eq_false (by simp)] at bne
 have key:(ba x.T x.R x.F).isSome=true->(ba (moT x.T more) x.R x.F).isSome=true/\((dt (moT x.T more) x.R x.F kl).getD 0<=(dt x.T x.R x.F l).getD 0):=fun hs=>by
  obtain ⟨d',hd'⟩:=Option.isSome_iff_exists.1 hs
  obtain ⟨xx,_,x2,_⟩:=ss hd'
  obtain ⟨k,nn,k1,k2,k3⟩:=sr (wj x.T more) x.sit hsit hd' x2
  rw [hl,hkl,hd',k1]
  simp only [Option.getD_some,x2,k2]
  exact ⟨rfl,k3⟩
 have bl:=ei ((dt (moT x.T more) x.R x.F kl).getD 0) ((dt x.T x.R x.F l).getD 0)
 obtain ⟨o1,ho1⟩:∃o,o=(ba x.T x.R x.F).isSome:=⟨_,rfl⟩
 obtain ⟨o2,ho2⟩:∃o,o=(ba (moT x.T more) x.R x.F).isSome:=⟨_,rfl⟩
 rw [<-ho1] at m14 m14b lp2 lp3 key
 rw [<-ho2] at m14c key
 clear hl hkl rd re rk hts hmS hG6 fa6
 have fa6:ab 0 (D++[.row 2 false []]) (.ptr 1 0 0)=some (.ptr 1 0 0):=by rw [hD,hC,hB1]; rfl
 clear hr3 hG hE hD hC hB1 hmv hsit etv ho1 ho2 eg hml hw
 unfold tM at s2
 generalize aw (moT x.T more) (.fs 2 ((moT x.T more).ch.map chA))=TD at *
 generalize (dt (moT x.T more) x.R x.F kl).getD 0=c2 at *
 generalize (dt (moT x.T more) x.R x.F kl).isSome=c2b at *
 generalize (dt x.T x.R x.F l).getD 0=c1 at *
 generalize (dt x.T x.R x.F l).isSome=c1b at *
 generalize E9 C 4 x.T.pick x.T.place x.T.travel x.T.ch.length x.T.ch=E1 at *
 generalize C9 B1 x.R=C0 at *
 generalize B1++[Ent.row 1 false []]=C00 at *
 generalize D++[Ent.row 2 false []]=D00 at *
 generalize C++[Ent.row 5 false [zT]]=D01 at *
 generalize ak (shR d x.R)=IR at *
 generalize x.R.length=n0 at *
 generalize x.T.pick=p1 at *
 generalize x.T.place=p2 at *
 generalize x.T.travel=p3 at *
 generalize min x.T.ch.length more.length=n1' at *
 generalize x.T.ch.length=n2' at *
 generalize x.F+d=FD at *
 generalize x.F=FV at *
 generalize x.tv=TV at *
 generalize x.rv=RV at *
 generalize x.ch=CH at *
 generalize x.A yv rv=XA at *
 generalize l.length=LN at *
 rw [aL _ _ rfl]
 cases o1
 ·simp [mf9,s0,s1,s2,s3,s4,s5,s6,s7,m1,bs1,ap1,GO lp1,f1,f2,n1,n2,m14,m14b,fz,bFd,lt,GN lp2,ll,le,bne,bz,bt,bs2,ap2,fa6,la6,fa7,st7,GM lp3,lg,lg1,fg,m14c,m17c,m17d,fdv,fkv,aN,bj,-aY,-aA,-ac,-ab,-frz,-cellsOf,-aq,-ag,-bD]
 ·obtain ⟨k1,k2⟩:=key rfl
  subst k1
  rw [decide_eq_true k2] at bl
  simp [mf9,s0,s1,s2,s3,s4,s5,s6,s7,m1,bs1,ap1,GO lp1,f1,f2,n1,n2,m14,m14b,fz,bFd,lt,GN lp2,ll,le,bne,bz,bt,bs2,ap2,fa6,la6,fa7,st7,GM lp3,lg,lg1,fg,m14c,m17c,m17d,fdv,fkv,bl,aN,bj,-aY,-aA,-ac,-ab,-frz,-cellsOf,-aq,-ag,-bD]
theorem ev9L (args:List AV) (h:fI Try.prog 8 Try.f9.params.toList args):∃fuel,evP (ax GC fsL) fuel mf9 1 args=some (.bool true):=by
 rw [Try.params9] at h
 obtain ⟨a,r,rfl,h0,h⟩:=h.cons
 obtain ⟨b,r,rfl,h1,h⟩:=h.cons
 obtain ⟨c,r,rfl,h2,h⟩:=h.cons
 obtain rfl:=h.nil
 obtain ⟨x,yv,rv,rfl,hx⟩:=Bn (n:=3) h0
 obtain ⟨z,rfl,hz⟩:=TA.int Try.underlying3 h1
 obtain ⟨zs,h3,_,h4⟩:=u9 (n:=7) h2
 exact ⟨300,ev9 hx hz h3 h4⟩
end Tr
end Go.Proofs.Ytkcjhljbgjpklaa
