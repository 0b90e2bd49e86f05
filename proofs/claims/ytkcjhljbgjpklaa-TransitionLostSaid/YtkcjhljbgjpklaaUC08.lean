import Derived.Test.YtkcjhljbgjpklaaUC07
import Derived.Test.YtkcjhljbgjpklaaChecked
import Derived.KernelRfl
import Derived.Test.YtkcjhljbgjpklaaUC06
import Derived.Test.YtkcjhljbgjpklaaUC03
set_option maxRecDepth 100000
set_option maxHeartbeats 4000000
noncomputable section
namespace Go.Proofs.Ytkcjhljbgjpklaa
namespace Tr
open Go
def LE:cr:=⟨0,20,.seq (.region [⟨some 0,.mv (.cst (.bool false)),none⟩]) (.seq (.region [⟨none,.call (.fn 26) [],none⟩,⟨some 1,.alloc 5 (.agg [.nilS,.int .i64 0,.int .i64 0,.int .i64 0,.int .i64 0]),none⟩,⟨none,.store 5 (.var 1) (.tmp 0),none⟩]) (.seq (.region [⟨none,.load true 5 (.var 1),none⟩,⟨none,.buildF 1 [.cst (.int .i64 10),.cst (.int .i64 (-1))],none⟩,⟨none,.call (.fn 14) [.tmp 0,.tmp 1,.cst (.int .i64 0),.cst (.int .i64 0)],none⟩,⟨none,.mv (.tmp 2),none⟩,⟨none,.extract (.tmp 3) 0,none⟩,⟨none,.extract (.tmp 3) 1,none⟩,⟨some 2,.mv (.tmp 4),none⟩,⟨some 3,.mv (.tmp 5),none⟩]) (.seq (.region [⟨none,.load true 5 (.var 1),none⟩,⟨none,.buildF 1 [.cst (.int .i64 10),.cst (.int .i64 40)],none⟩,⟨none,.call (.fn 14) [.tmp 0,.tmp 1,.cst (.int .i64 0),.cst (.int .i64 0)],none⟩,⟨none,.mv (.tmp 2),none⟩,⟨none,.extract (.tmp 3) 0,none⟩,⟨none,.extract (.tmp 3) 1,none⟩,⟨none,.mv (.tmp 4),none⟩,⟨some 4,.mv (.tmp 5),none⟩]) (.seq (.region [⟨none,.load true 5 (.var 1),none⟩,⟨none,.buildF 1 [.cst (.int .i64 40),.cst (.int .i64 30)],none⟩,⟨none,.call (.fn 14) [.tmp 0,.tmp 1,.cst (.int .i64 0),.cst (.int .i64 0)],none⟩,⟨none,.mv (.tmp 2),none⟩,⟨none,.extract (.tmp 3) 0,none⟩,⟨none,.extract (.tmp 3) 1,none⟩,⟨some 5,.mv (.tmp 4),none⟩,⟨some 6,.mv (.tmp 5),none⟩]) (.seq (.region [⟨none,.load true 5 (.var 1),none⟩,⟨none,.buildF 1 [.cst (.int .i64 10),.cst (.int .i64 40)],none⟩,⟨none,.call (.fn 14) [.tmp 0,.tmp 1,.cst (.int .i64 0),.cst (.int .i64 2)],none⟩,⟨none,.mv (.tmp 2),none⟩,⟨none,.extract (.tmp 3) 0,none⟩,⟨none,.extract (.tmp 3) 1,none⟩,⟨some 7,.mv (.tmp 4),none⟩,⟨some 8,.mv (.tmp 5),none⟩]) (.seq (.region [⟨none,.load true 5 (.var 1),none⟩,⟨none,.buildF 1 [.cst (.int .i64 40),.cst (.int .i64 30)],none⟩,⟨none,.mv (.var 5),none⟩,⟨none,.call (.fn 17) [.tmp 0,.tmp 1,.cst (.int .i64 0),.tmp 2],none⟩,⟨none,.mv (.tmp 3),none⟩,⟨none,.extract (.tmp 4) 0,none⟩,⟨none,.extract (.tmp 4) 1,none⟩,⟨some 9,.mv (.tmp 5),none⟩,⟨some 10,.mv (.tmp 6),none⟩]) (.seq (.region [⟨none,.load true 5 (.var 1),none⟩,⟨none,.buildF 1 [.cst (.int .i64 40),.cst (.int .i64 30)],none⟩,⟨none,.build [.int .i64 0,.int .i64 0] [(0,(1,.cst (.int .i64 2))),(1,(1,.cst (.int .i64 30)))],none⟩,⟨none,.build [.int .i64 0,.int .i64 0] [(0,(1,.cst (.int .i64 1))),(1,(1,.cst (.int .i64 35)))],none⟩,⟨none,.buildF 2 [.tmp 2,.tmp 3],none⟩,⟨none,.call (.fn 17) [.tmp 0,.tmp 1,.cst (.int .i64 0),.tmp 4],none⟩,⟨none,.mv (.tmp 5),none⟩,⟨none,.extract (.tmp 6) 0,none⟩,⟨none,.extract (.tmp 6) 1,none⟩,⟨none,.mv (.tmp 7),none⟩,⟨some 11,.mv (.tmp 8),none⟩]) (.seq (.region [⟨none,.load true 5 (.var 1),none⟩,⟨none,.call (.fn 23) [.tmp 0],none⟩,⟨none,.mv (.tmp 1),none⟩,⟨none,.extract (.tmp 2) 0,none⟩,⟨none,.extract (.tmp 2) 1,none⟩,⟨some 12,.alloc 4 (.agg [.int .i64 0,.nilS,.nilS,.nilS]),none⟩,⟨none,.store 4 (.var 12) (.tmp 3),none⟩,⟨some 13,.mv (.tmp 4),none⟩]) (.seq (.region [⟨none,.load true 5 (.var 1),none⟩,⟨none,.load true 4 (.var 12),none⟩,⟨none,.call (.fn 24) [.tmp 0,.tmp 1,.cst (.int .i64 0)],none⟩,⟨none,.mv (.tmp 2),none⟩,⟨none,.extract (.tmp 3) 0,none⟩,⟨none,.extract (.tmp 3) 1,none⟩,⟨some 14,.mv (.tmp 4),none⟩,⟨some 15,.mv (.tmp 5),none⟩]) (.seq (.region [⟨none,.load true 5 (.var 1),none⟩,⟨none,.buildF 1 [.cst (.int .i64 40),.cst (.int .i64 30)],none⟩,⟨none,.load true 4 (.var 12),none⟩,⟨none,.call (.fn 25) [.tmp 0,.tmp 1,.cst (.int .i64 0),.tmp 2],none⟩,⟨none,.mv (.tmp 3),none⟩,⟨none,.extract (.tmp 4) 0,none⟩,⟨none,.extract (.tmp 4) 1,none⟩,⟨some 16,.mv (.tmp 5),none⟩,⟨some 17,.mv (.tmp 6),none⟩]) (.seq (.region [⟨none,.load true 5 (.var 1),none⟩,⟨none,.buildF 1 [.cst (.int .i64 10),.cst (.int .i64 40)],none⟩,⟨none,.load true 4 (.var 12),none⟩,⟨none,.call (.fn 25) [.tmp 0,.tmp 1,.cst (.int .i64 0),.tmp 2],none⟩,⟨none,.mv (.tmp 3),none⟩,⟨none,.extract (.tmp 4) 0,none⟩,⟨none,.extract (.tmp 4) 1,none⟩,⟨none,.mv (.tmp 5),none⟩,⟨some 18,.mv (.tmp 6),none⟩]) (.seq (.region [⟨none,.mv (.var 3),none⟩,⟨none,.mv (.tmp 0),none⟩,⟨none,.mv (.var 4),some (.tmp 1,true)⟩,⟨none,.un .not (.tmp 2),some (.tmp 1,true)⟩,⟨none,.pick (.tmp 1) (.tmp 3) (.cst (.bool false)),none⟩,⟨none,.mv (.tmp 4),none⟩,⟨none,.mv (.var 6),some (.tmp 5,true)⟩,⟨none,.pick (.tmp 5) (.tmp 6) (.cst (.bool false)),none⟩,⟨none,.mv (.tmp 7),none⟩,⟨none,.mv (.var 8),some (.tmp 8,true)⟩,⟨none,.pick (.tmp 8) (.tmp 9) (.cst (.bool false)),none⟩,⟨none,.mv (.tmp 10),none⟩,⟨none,.mv (.var 10),some (.tmp 11,true)⟩,⟨none,.pick (.tmp 11) (.tmp 12) (.cst (.bool false)),none⟩,⟨none,.mv (.tmp 13),none⟩,⟨none,.mv (.var 11),some (.tmp 14,true)⟩,⟨none,.un .not (.tmp 15),some (.tmp 14,true)⟩,⟨none,.pick (.tmp 14) (.tmp 16) (.cst (.bool false)),none⟩,⟨none,.mv (.tmp 17),none⟩,⟨none,.mv (.var 9),some (.tmp 18,true)⟩,⟨none,.bin .eql (.tmp 19) (.cst (.int .i64 78)),some (.tmp 18,true)⟩,⟨none,.pick (.tmp 18) (.tmp 20) (.cst (.bool false)),none⟩,⟨none,.mv (.tmp 21),none⟩,⟨none,.mv (.var 2),some (.tmp 22,true)⟩,⟨none,.build [.int .i64 0,.int .i64 0] [(0,(1,.cst (.int .i64 1))),(1,(1,.cst (.int .i64 10)))],some (.tmp 22,true)⟩,⟨none,.build [.int .i64 0,.int .i64 0] [(0,(1,.cst (.int .i64 2))),(1,(1,.cst (.int .i64 44)))],some (.tmp 22,true)⟩,⟨none,.buildF 2 [.tmp 24,.tmp 25],some (.tmp 22,true)⟩,⟨none,.call (.fn 16) [.tmp 23,.tmp 26],some (.tmp 22,true)⟩,⟨none,.pick (.tmp 22) (.tmp 27) (.cst (.bool false)),none⟩,⟨none,.mv (.tmp 28),none⟩,⟨none,.mv (.var 5),some (.tmp 29,true)⟩,⟨none,.lenSl (.tmp 30),some (.tmp 29,true)⟩,⟨none,.bin .eql (.tmp 31) (.cst (.int .i64 3)),some (.tmp 29,true)⟩,⟨none,.pick (.tmp 29) (.tmp 32) (.cst (.bool false)),none⟩,⟨none,.mv (.tmp 33),none⟩,⟨none,.mv (.var 7),some (.tmp 34,true)⟩,⟨none,.build [.int .i64 0,.int .i64 0] [(0,(1,.cst (.int .i64 1))),(1,(1,.cst (.int .i64 10)))],some (.tmp 34,true)⟩,⟨none,.buildF 2 [.tmp 36],some (.tmp 34,true)⟩,⟨none,.call (.fn 16) [.tmp 35,.tmp 37],some (.tmp 34,true)⟩,⟨none,.pick (.tmp 34) (.tmp 38) (.cst (.bool false)),none⟩,⟨some 19,.mv (.tmp 39),none⟩]) (.seq (.region [⟨none,.mv (.var 19),none⟩,⟨none,.mv (.tmp 0),none⟩,⟨none,.mv (.var 13),some (.tmp 1,true)⟩,⟨none,.bin .eql (.tmp 2) (.cst (.int .i64 0)),some (.tmp 1,true)⟩,⟨none,.pick (.tmp 1) (.tmp 3) (.cst (.bool false)),none⟩,⟨none,.mv (.tmp 4),none⟩,⟨none,.mv (.var 15),some (.tmp 5,true)⟩,⟨none,.bin .eql (.tmp 6) (.cst (.int .i64 0)),some (.tmp 5,true)⟩,⟨none,.pick (.tmp 5) (.tmp 7) (.cst (.bool false)),none⟩,⟨none,.mv (.tmp 8),none⟩,⟨none,.mv (.var 14),some (.tmp 9,true)⟩,⟨none,.lenSl (.tmp 10),some (.tmp 9,true)⟩,⟨none,.bin .eql (.tmp 11) (.cst (.int .i64 5)),some (.tmp 9,true)⟩,⟨none,.pick (.tmp 9) (.tmp 12) (.cst (.bool false)),none⟩,⟨none,.mv (.tmp 13),none⟩,⟨none,.mv (.var 14),some (.tmp 14,true)⟩,⟨none,.indexSl 2 (.tmp 15) (.cst (.int .i64 0)),some (.tmp 14,true)⟩,⟨none,.load true 2 (.tmp 16),some (.tmp 14,true)⟩,⟨none,.build [.int .i64 0,.int .i64 0] [(1,(1,.cst (.int .i64 2)))],some (.tmp 14,true)⟩,⟨none,.eqAgg false [(0,1),(1,1)] (.tmp 17) (.tmp 18),some (.tmp 14,true)⟩,⟨none,.pick (.tmp 14) (.tmp 19) (.cst (.bool false)),none⟩,⟨none,.mv (.tmp 20),none⟩,⟨none,.mv (.var 17),some (.tmp 21,true)⟩,⟨none,.bin .eql (.tmp 22) (.cst (.int .i64 0)),some (.tmp 21,true)⟩,⟨none,.pick (.tmp 21) (.tmp 23) (.cst (.bool false)),none⟩,⟨none,.mv (.tmp 24),none⟩,⟨none,.mv (.var 16),some (.tmp 25,true)⟩,⟨none,.lenSl (.tmp 26),some (.tmp 25,true)⟩,⟨none,.bin .eql (.tmp 27) (.cst (.int .i64 8)),some (.tmp 25,true)⟩,⟨none,.pick (.tmp 25) (.tmp 28) (.cst (.bool false)),none⟩,⟨none,.mv (.tmp 29),none⟩,⟨none,.mv (.var 18),some (.tmp 30,true)⟩,⟨none,.bin .eql (.tmp 31) (.cst (.int .i64 140)),some (.tmp 30,true)⟩,⟨none,.pick (.tmp 30) (.tmp 32) (.cst (.bool false)),none⟩,⟨some 0,.mv (.tmp 33),none⟩]) .ret))))))))))))),[.tmp 0]⟩
theorem GS:aE Try.prog Try.f11 0 [0,1,2,3,5,6,7,8,9,10,11,13,14,15,16,17,18,19,21,22] [] true ([],[])=some LE:=by kernel_rfl
theorem at11:Try.prog.funcs[11]?=some Try.f11:=by kernel_rfl
def ID:cr:=⟨1,6,.seq (.region [⟨some 1,.box (.var 0),none⟩,⟨some 2,.alloc 5 (.agg [.nilS,.int .i64 0,.int .i64 0,.int .i64 0,.int .i64 0]),none⟩,⟨some 3,.mv (.cst .nilS),none⟩,⟨some 4,.mv (.cst (.int .i64 0)),none⟩]) (.seq (.region [⟨none,.fieldAddr 0 (.var 1),none⟩,⟨none,.load false 1 (.tmp 0),none⟩,⟨none,.fieldAddr 1 (.var 1),none⟩,⟨none,.load true 3 (.tmp 2),none⟩,⟨none,.call (.fn 27) [.tmp 1,.tmp 3],none⟩,⟨some 5,.alloc 5 (.agg [.nilS,.int .i64 0,.int .i64 0,.int .i64 0,.int .i64 0]),none⟩,⟨none,.store 5 (.var 5) (.tmp 4),none⟩]) (.seq (.region [⟨none,.load true 5 (.var 5),none⟩,⟨none,.load true 5 (.var 5),none⟩,⟨none,.fieldAddr 4 (.var 1),none⟩,⟨none,.load false 1 (.tmp 2),none⟩,⟨none,.call (.fn 28) [.tmp 1,.tmp 3],none⟩,⟨none,.fieldAddr 5 (.var 1),none⟩,⟨none,.load false 1 (.tmp 5),none⟩,⟨none,.call (.fn 21) [.tmp 6,.cst (.int .i64 60)],none⟩,⟨none,.store 5 (.var 2) (.tmp 0),none⟩,⟨some 3,.mv (.tmp 4),none⟩,⟨some 4,.mv (.tmp 7),none⟩]) .ret)),[.cell 2 true 5,.tmp 3,.tmp 4]⟩
theorem GQ:aE Try.prog Try.f13 1 [0,1,2,3,4,5] [28,21] true ([],[])=some ID:=by kernel_rfl
theorem at13:Try.prog.funcs[13]?=some Try.f13:=by kernel_rfl
def iQ:MC:=.seq (.seq (.region [⟨none,.mv (.var 3),none⟩,⟨none,.mv (.var 0),none⟩,⟨none,.lenSl (.tmp 1),none⟩,⟨some 5,.bin .lss (.tmp 0) (.tmp 2),none⟩]) (.cond (.var 5) .skip (.exit 0))) (.seq (.seq (.block 1 (.seq (.region [⟨none,.mv (.var 0),none⟩,⟨none,.mv (.var 3),none⟩,⟨none,.indexSl 2 (.tmp 0) (.tmp 1),none⟩,⟨none,.load true 2 (.tmp 2),none⟩,⟨none,.mv (.var 1),none⟩,⟨none,.mv (.var 3),none⟩,⟨none,.indexSl 2 (.tmp 4) (.tmp 5),none⟩,⟨none,.load true 2 (.tmp 6),none⟩,⟨some 6,.eqAgg true [(0,1),(1,1)] (.tmp 3) (.tmp 7),none⟩]) (.cond (.var 6) (.seq (.region [⟨some 2,.mv (.cst (.bool false)),none⟩]) .ret) .skip))) (.kill [2,4,5,6])) (.region [⟨none,.mv (.var 3),none⟩,⟨none,.bin .add (.tmp 0) (.cst (.int .i64 1)),none⟩,⟨some 3,.mv (.tmp 1),none⟩]))
def pF:cr:=⟨2,7,.seq (.region [⟨some 2,.mv (.cst (.bool false)),none⟩]) (.seq (.seq (.region [⟨none,.mv (.var 0),none⟩,⟨none,.lenSl (.tmp 0),none⟩,⟨none,.mv (.var 1),none⟩,⟨none,.lenSl (.tmp 2),none⟩,⟨some 4,.bin .neq (.tmp 1) (.tmp 3),none⟩]) (.cond (.var 4) (.seq (.region [⟨some 2,.mv (.cst (.bool false)),none⟩]) .ret) .skip)) (.seq (.seq (.region [⟨some 3,.mv (.cst (.int .i64 0)),none⟩]) (.seq (.block 0 (.loop [2,4,5,6] iQ)) (.kill [0,1,2,3,4,5,6]))) (.seq (.region [⟨some 2,.mv (.cst (.bool true)),none⟩]) .ret))),[.tmp 2]⟩
def ij:List Nat:=[2,4,5,6]
abbrev lg (v0 v1 v3:AV):List AV:=[v0,v1,.undef,v3,.undef,.undef,.undef]
theorem B8 {v0 v1 d2 v3 d4 d5 d6:AV}:clear ij [v0,v1,d2,v3,d4,d5,d6]=lg v0 v1 v3:=rfl
theorem BD {E:Env} {fuel:Nat} {A:aa} {o:Out} {k:List KC} {v0 v1 d2 v3 d4 d5 d6:AV} (h:bZ (evC E fuel iQ) ij fuel (lg v0 v1 v3) A=some o) :
  run E fuel (.code (.loop [2,4,5,6] iQ) :: k) [v0,v1,d2,v3,d4,d5,d6] A=after E fuel k o:=aU ij _ _ (by rw [B8]; exact h)
theorem sb:aE Try.prog Try.f16 2 [0,1,4,5,10,14,25] [] true ([[2,4,5,6]],[[2,4,5,6],[0,1,2,3,4,5,6]])=some pF:=by kernel_rfl
theorem G2:Try.prog.funcs[16]?=some Try.f16:=by kernel_rfl
def Ew:cr:=⟨2,4,.seq (.region [⟨some 2,.mv (.cst (.int .i64 0)),none⟩]) (.seq (.seq (.region [⟨none,.mv (.var 0),none⟩,⟨some 3,.bin .lss (.tmp 0) (.cst (.int .i64 0)),none⟩]) (.cond (.var 3) (.region [⟨none,.mv (.var 0),none⟩,⟨none,.bin .add (.tmp 0) (.cst (.int .i64 1)),none⟩,⟨none,.un .neg (.tmp 1),none⟩,⟨some 0,.mv (.tmp 2),none⟩]) .skip)) (.seq (.region [⟨none,.mv (.var 0),none⟩,⟨none,.mv (.var 1),none⟩,⟨none,.bin .rem (.tmp 0) (.tmp 1),none⟩,⟨some 2,.mv (.tmp 2),none⟩]) .ret)),[.tmp 2]⟩
theorem BO:aE Try.prog Try.f21 2 [0,1,4,6] [] true ([],[])=some Ew:=by kernel_rfl
theorem Ma:Try.prog.funcs[21]?=some Try.f21:=by kernel_rfl
def zq:cr:=⟨1,3,.seq (.region [⟨some 1,.box (.var 0),none⟩,⟨some 2,.mv (.cst (.int .i64 0)),none⟩]) (.seq (.region [⟨none,.fieldAddr 1 (.var 1),none⟩,⟨none,.load false 1 (.tmp 0),none⟩,⟨none,.fieldAddr 3 (.var 1),none⟩,⟨none,.load false 1 (.tmp 2),none⟩,⟨none,.bin .add (.tmp 1) (.tmp 3),none⟩,⟨none,.fieldAddr 2 (.var 1),none⟩,⟨none,.load false 1 (.tmp 5),none⟩,⟨none,.bin .add (.tmp 4) (.tmp 6),none⟩,⟨some 2,.mv (.tmp 7),none⟩]) .ret),[.tmp 2]⟩
theorem yg:aE Try.prog Try.f22 1 [0,1,2] [] true ([],[])=some zq:=by kernel_rfl
theorem K4:Try.prog.funcs[22]?=some Try.f22:=by kernel_rfl
def rq:cr:=⟨0,1,.seq (.region [⟨some 0,.alloc 5 (.agg [.nilS,.int .i64 0,.int .i64 0,.int .i64 0,.int .i64 0]),none⟩]) (.seq (.region [⟨none,.build [.int .i64 0,.int .i64 0] [(0,(1,.cst (.int .i64 20))),(1,(1,.cst (.int .i64 12)))],none⟩,⟨none,.build [.int .i64 0,.int .i64 0] [(0,(1,.cst (.int .i64 30))),(1,(1,.cst (.int .i64 12)))],none⟩,⟨none,.buildSlice 2 [.tmp 0,.tmp 1],none⟩,⟨none,.build [.nilS,.int .i64 0,.int .i64 0,.int .i64 0,.int .i64 0] [(0,(1,.tmp 2)),(1,(1,.cst (.int .i64 1))),(2,(1,.cst (.int .i64 1))),(3,(1,.cst (.int .i64 2))),(4,(1,.cst (.int .i64 1)))],none⟩,⟨none,.store 5 (.var 0) (.tmp 3),none⟩]) .ret),[.cell 0 true 5]⟩
theorem sa:aE Try.prog Try.f26 0 [0] [] true ([],[])=some rq:=by kernel_rfl
theorem G1:Try.prog.funcs[26]?=some Try.f26:=by kernel_rfl
def dT:MC:=.seq (.seq (.region [⟨none,.mv (.var 5),none⟩,⟨none,.mv (.var 0),none⟩,⟨none,.lenSl (.tmp 1),none⟩,⟨none,.minmax false (.tmp 2) [.cst (.int .i64 4)],none⟩,⟨none,.minmax true (.cst (.int .i64 1)) [.tmp 3],none⟩,⟨some 7,.bin .lss (.tmp 0) (.tmp 4),none⟩]) (.cond (.var 7) .skip (.exit 0))) (.seq (.seq (.block 1 (.seq (.region [⟨none,.build [.int .i64 0,.int .i64 0] [(0,(1,.cst (.int .i64 20))),(1,(1,.cst (.int .i64 30)))],none⟩,⟨some 6,.alloc 2 (.agg [.int .i64 0,.int .i64 0]),none⟩,⟨none,.store 2 (.var 6) (.tmp 0),none⟩]) (.seq (.seq (.region [⟨none,.mv (.var 5),none⟩,⟨none,.mv (.var 0),none⟩,⟨none,.lenSl (.tmp 1),none⟩,⟨some 8,.bin .lss (.tmp 0) (.tmp 2),none⟩]) (.cond (.var 8) (.seq (.region [⟨none,.mv (.var 0),none⟩,⟨none,.mv (.var 5),none⟩,⟨none,.indexSl 2 (.tmp 0) (.tmp 1),none⟩,⟨none,.indexArr 2 1 (.tmp 2) (.cst (.int .i64 0)),none⟩,⟨none,.load false 1 (.tmp 3),none⟩,⟨none,.call (.fn 50) [.tmp 4,.cst (.int .i64 60)],none⟩,⟨none,.fieldAddr 0 (.var 6),none⟩,⟨none,.store 1 (.tmp 6) (.tmp 5),none⟩]) (.seq (.region [⟨none,.mv (.var 0),none⟩,⟨none,.mv (.var 5),none⟩,⟨none,.indexSl 2 (.tmp 0) (.tmp 1),none⟩,⟨none,.indexArr 2 1 (.tmp 2) (.cst (.int .i64 1)),none⟩,⟨none,.load false 1 (.tmp 3),none⟩,⟨none,.call (.fn 50) [.tmp 4,.cst (.int .i64 50)],none⟩,⟨none,.fieldAddr 1 (.var 6),none⟩,⟨none,.store 1 (.tmp 6) (.tmp 5),none⟩]) (.seq (.region [⟨none,.mv (.var 0),none⟩,⟨none,.mv (.var 5),none⟩,⟨none,.indexSl 2 (.tmp 0) (.tmp 1),none⟩,⟨none,.indexArr 2 1 (.tmp 2) (.cst (.int .i64 1)),none⟩,⟨none,.load false 1 (.tmp 3),none⟩,⟨none,.bin .quo (.tmp 4) (.cst (.int .i64 50)),none⟩,⟨none,.call (.fn 50) [.tmp 5,.cst (.int .i64 3)],none⟩,⟨some 9,.bin .eql (.tmp 6) (.cst (.int .i64 0)),none⟩]) (.cond (.var 9) (.region [⟨none,.fieldAddr 1 (.var 6),none⟩,⟨none,.load false 1 (.tmp 0),none⟩,⟨none,.bin .add (.tmp 1) (.cst (.int .i64 200)),none⟩,⟨none,.fieldAddr 1 (.var 6),none⟩,⟨none,.store 1 (.tmp 3) (.tmp 2),none⟩]) .skip)))) .skip)) (.region [⟨none,.fieldAddr 0 (.var 4),none⟩,⟨none,.load false 1 (.tmp 0),none⟩,⟨none,.load true 2 (.var 6),none⟩,⟨none,.buildF 2 [.tmp 2],none⟩,⟨none,.append 2 16 (.tmp 1) (.tmp 3),none⟩,⟨none,.fieldAddr 0 (.var 4),none⟩,⟨none,.store 1 (.tmp 5) (.tmp 4),none⟩])))) (.kill [1,2,6,7,8,9])) (.region [⟨none,.mv (.var 5),none⟩,⟨none,.bin .add (.tmp 0) (.cst (.int .i64 1)),none⟩,⟨some 5,.mv (.tmp 1),none⟩]))
def Ac:cr:=⟨2,10,.seq (.region [⟨some 2,.box (.var 1),none⟩,⟨some 3,.alloc 5 (.agg [.nilS,.int .i64 0,.int .i64 0,.int .i64 0,.int .i64 0]),none⟩]) (.seq (.regionD [50] [⟨none,.indexArr 3 1 (.var 2) (.cst (.int .i64 0)),none⟩,⟨none,.load false 1 (.tmp 0),none⟩,⟨none,.call (.fn 50) [.tmp 1,.cst (.int .i64 4)],none⟩,⟨none,.indexArr 3 1 (.var 2) (.cst (.int .i64 1)),none⟩,⟨none,.load false 1 (.tmp 3),none⟩,⟨none,.call (.fn 50) [.tmp 4,.cst (.int .i64 4)],none⟩,⟨none,.indexArr 3 1 (.var 2) (.cst (.int .i64 2)),none⟩,⟨none,.load false 1 (.tmp 6),none⟩,⟨none,.call (.fn 50) [.tmp 7,.cst (.int .i64 5)],none⟩,⟨none,.build [.nilS,.int .i64 0,.int .i64 0,.int .i64 0,.int .i64 0] [(4,(1,.cst (.int .i64 1))),(1,(1,.tmp 2)),(2,(1,.tmp 5)),(3,(1,.tmp 8))],none⟩,⟨some 4,.alloc 5 (.agg [.nilS,.int .i64 0,.int .i64 0,.int .i64 0,.int .i64 0]),none⟩,⟨none,.store 5 (.var 4) (.tmp 9),none⟩] [(0,10),(1,10),(2,10),(3,10),(4,10),(5,10),(6,10),(7,10),(8,10)]) (.seq (.seq (.region [⟨some 5,.mv (.cst (.int .i64 0)),none⟩]) (.seq (.block 0 (.loop [1,2,6,7,8,9] dT)) (.kill [0,1,2,5,6,7,8,9]))) (.seq (.region [⟨none,.load true 5 (.var 4),none⟩,⟨none,.store 5 (.var 3) (.tmp 0),none⟩]) .ret))),[.cell 3 true 5]⟩
def mG:List Nat:=[1,2,6,7,8,9]
abbrev pj (v0 v3 v4 v5:AV):List AV:=[v0,.undef,.undef,v3,v4,v5,.undef,.undef,.undef,.undef]
theorem yu {v0 d1 d2 v3 v4 v5 d6 d7 d8 d9:AV}:clear mG [v0,d1,d2,v3,v4,v5,d6,d7,d8,d9]=pj v0 v3 v4 v5:=rfl
theorem F5 {E:Env} {fuel:Nat} {A:aa} {o:Out} {k:List KC} {v0 d1 d2 v3 v4 v5 d6 d7 d8 d9:AV} (h:bZ (evC E fuel dT) mG fuel (pj v0 v3 v4 v5) A=some o) :
  run E fuel (.code (.loop [1,2,6,7,8,9] dT) :: k) [v0,d1,d2,v3,v4,v5,d6,d7,d8,d9] A=after E fuel k o:=aU mG _ _ (by rw [yu]; exact h)
theorem ye:aE Try.prog Try.f27 2 [0,1,3,4,5,6,7,23,30,52] [50] true ([[1,2,6,7,8,9]],[[1,2,6,7,8,9],[0,1,2,5,6,7,8,9]])=some Ac:=by kernel_rfl
theorem KZ:Try.prog.funcs[27]?=some Try.f27:=by kernel_rfl
def jQ:MC:=.seq (.seq (.region [⟨none,.mv (.var 5),none⟩,⟨none,.mv (.var 4),none⟩,⟨none,.lenSl (.tmp 1),none⟩,⟨some 6,.bin .lss (.tmp 0) (.tmp 2),none⟩]) (.cond (.var 6) .skip (.exit 0))) (.seq (.seq (.block 1 (.seq (.region [⟨none,.mv (.var 4),none⟩,⟨none,.mv (.var 5),none⟩,⟨none,.indexSl 1 (.tmp 0) (.tmp 1),none⟩,⟨none,.store 1 (.tmp 2) (.cst (.int .i64 (-1))),none⟩]) (.seq (.region [⟨none,.mv (.var 5),none⟩,⟨none,.mv (.var 1),none⟩,⟨none,.lenSl (.tmp 1),none⟩,⟨none,.bin .lss (.tmp 0) (.tmp 2),none⟩,⟨none,.mv (.tmp 3),none⟩,⟨none,.mv (.var 1),some (.tmp 4,true)⟩,⟨none,.mv (.var 5),some (.tmp 4,true)⟩,⟨none,.indexSl 1 (.tmp 5) (.tmp 6),some (.tmp 4,true)⟩,⟨none,.load false 1 (.tmp 7),some (.tmp 4,true)⟩,⟨none,.call (.fn 50) [.tmp 8,.cst (.int .i64 4)],some (.tmp 4,true)⟩,⟨none,.bin .gtr (.tmp 9) (.cst (.int .i64 0)),some (.tmp 4,true)⟩,⟨some 7,.pick (.tmp 4) (.tmp 10) (.cst (.bool false)),none⟩]) (.cond (.var 7) (.region [⟨none,.mv (.var 4),none⟩,⟨none,.mv (.var 5),none⟩,⟨none,.mv (.var 1),none⟩,⟨none,.mv (.var 5),none⟩,⟨none,.indexSl 1 (.tmp 2) (.tmp 3),none⟩,⟨none,.load false 1 (.tmp 4),none⟩,⟨none,.bin .quo (.tmp 5) (.cst (.int .i64 4)),none⟩,⟨none,.call (.fn 50) [.tmp 6,.cst (.int .i64 120)],none⟩,⟨none,.indexSl 1 (.tmp 0) (.tmp 1),none⟩,⟨none,.store 1 (.tmp 8) (.tmp 7),none⟩]) .skip)))) (.kill [0,2,3,6,7])) (.region [⟨none,.mv (.var 5),none⟩,⟨none,.bin .add (.tmp 0) (.cst (.int .i64 1)),none⟩,⟨some 5,.mv (.tmp 1),none⟩]))
def IB:cr:=⟨2,8,.seq (.region [⟨some 2,.box (.var 0),none⟩,⟨some 3,.mv (.cst .nilS),none⟩]) (.seq (.region [⟨none,.fieldAddr 0 (.var 2),none⟩,⟨none,.load false 1 (.tmp 0),none⟩,⟨none,.lenSl (.tmp 1),none⟩,⟨none,.makeSlice 1 8 (.int .i64 0) (.tmp 2) (.tmp 2),none⟩,⟨some 4,.mv (.tmp 3),none⟩]) (.seq (.seq (.region [⟨some 5,.mv (.cst (.int .i64 0)),none⟩]) (.seq (.block 0 (.loop [0,2,3,6,7] jQ)) (.kill [0,1,2,3,5,6,7]))) (.seq (.region [⟨none,.mv (.var 4),none⟩,⟨some 3,.mv (.tmp 0),none⟩]) .ret))),[.tmp 3]⟩
def mF:List Nat:=[0,2,3,6,7]
abbrev pi (v1 v4 v5:AV):List AV:=[.undef,v1,.undef,.undef,v4,v5,.undef,.undef]
theorem yq {d0 v1 d2 d3 v4 v5 d6 d7:AV}:clear mF [d0,v1,d2,d3,v4,v5,d6,d7]=pi v1 v4 v5:=rfl
theorem F4 {E:Env} {fuel:Nat} {A:aa} {o:Out} {k:List KC} {d0 v1 d2 d3 v4 v5 d6 d7:AV} (h:bZ (evC E fuel jQ) mF fuel (pi v1 v4 v5) A=some o) :
  run E fuel (.code (.loop [0,2,3,6,7] jQ) :: k) [d0,v1,d2,d3,v4,v5,d6,d7] A=after E fuel k o:=aU mF _ _ (by rw [yq]; exact h)
theorem GM:aE Try.prog Try.f28 2 [0,1,2,4,5,6,14,31] [] true ([[0,2,3,6,7]],[[0,2,3,6,7],[0,1,2,3,5,6,7]])=some IB:=by kernel_rfl
theorem at28:Try.prog.funcs[28]?=some Try.f28:=by kernel_rfl
def DE:cr:=⟨2,4,.seq (.region [⟨some 2,.mv (.cst (.int .i64 0)),none⟩]) (.seq (.seq (.region [⟨none,.mv (.var 0),none⟩,⟨some 3,.bin .lss (.tmp 0) (.cst (.int .i64 0)),none⟩]) (.cond (.var 3) (.region [⟨none,.mv (.var 0),none⟩,⟨none,.bin .add (.tmp 0) (.cst (.int .i64 1)),none⟩,⟨none,.un .neg (.tmp 1),none⟩,⟨some 0,.mv (.tmp 2),none⟩]) .skip)) (.seq (.region [⟨none,.mv (.var 0),none⟩,⟨none,.mv (.var 1),none⟩,⟨none,.bin .rem (.tmp 0) (.tmp 1),none⟩,⟨some 2,.mv (.tmp 2),none⟩]) .ret)),[.tmp 2]⟩
theorem xY:aE Try.prog Try.f50 2 [0,1,4,6] [] true ([],[])=some DE:=by kernel_rfl
theorem KM:Try.prog.funcs[50]?=some Try.f50:=by kernel_rfl
end Tr
namespace Tr
open Go
open Cy (GC aM be aA)
open Clu (aR a0 au chA a7 dI cH cT)
def M16:aP:=fun args=>evP (ax GC []) 300 pF 1 args
theorem lq:an Try.prog GC 16 M16:=an.of_ev (E:=ax GC []) (aq az) rfl G2 sb 1 fun _ _ h=>⟨300,h⟩
theorem oC {xs ys:List c9} {a b:AV} (ha:SlA 2 (xs.map a5) a) (hb:SlA 2 (ys.map a5) b) (hl:xs.length<=200) (hl2:ys.length<=200):M16 [a,b]=some (.bool (decide (xs=ys))):=by
 have hla:=ha.len
 have hlb:=hb.len
 rw [List.length_map] at hla hlb
 have b0:ag .neq (.int .i64 (xs.length:Int)) (.int .i64 (ys.length:Int))=some (.bool (decide (xs.length≠ys.length))):=by
  rw [cT]
  congr 2
  exact decide_eq_decide.2 (by omega)
 by_cases h0:xs.length≠ys.length
 ·rw [decide_eq_true h0] at b0
  rw [decide_eq_false (fun h=>h0 (by rw [h]))]
  unfold M16
  rw [aK _ _ rfl]
  simp [pF,hla,hlb,b0,-ag,-aw]
 have h0:xs.length=ys.length:=Classical.not_not.1 h0
 rw [decide_eq_false (by omega)] at b0
 have round:∀(A:aa) (i:Nat) (hi:i<xs.length),run (ax GC []) 300 [.code iQ] (lg a b (.int .i64 (i:Int))) A =
   if xs[i]=ys[i]'(by omega) then some (.normal (lg a b (.int .i64 ((i+1:Nat):Int))) A) else some (.ret [a,b,.bool false,.int .i64 (i:Int),.undef,.bool true,.bool true] A):=fun A i hi=>by
  have x1:=ha.index (A:=A) (x:=a5 xs[i]) (i:=i) (by simp [hi]) rfl (by omega) .i64
  have x2:=hb.index (A:=A) (x:=a5 (ys[i]'(by omega))) (i:=i) (by simp [show i<ys.length by omega]) rfl (by omega) .i64
  obtain ⟨p,hp⟩:∃p,p=xs[i]:=⟨_,rfl⟩
  obtain ⟨q,hq⟩:∃q,q=ys[i]'(by omega):=⟨_,rfl⟩
  rw [<-hp] at x1 ⊢
  rw [<-hq] at x2 ⊢
  have ea:f6 true [(0,1),(1,1)] (a5 p) (a5 q)=some (.bool (decide (p≠q))):=by
   obtain ⟨a1,a2⟩:=p
   obtain ⟨c1,c2⟩:=q
   simp only [a5,f6,oe,eqK]
   by_cases e1:a1=c1 <;> by_cases e2:a2=c2 <;> simp [e1,e2]
  have b1:=bp i xs.length .i64
  rw [decide_eq_true hi] at b1
  have b3:=a9 i (by omega)
  have l1:∀z:c9,ac true 2 A (.fp (cellsOf (a5 z)))=some (a5 z):=fun z=>rfl
  obtain ⟨P,hP⟩:∃P,P=cellsOf (a5 p):=⟨_,rfl⟩
  obtain ⟨Q,hQ⟩:∃P,P=cellsOf (a5 q):=⟨_,rfl⟩
  have l2:=l1 p
  have l3:=l1 q
  rw [<-hP] at x1 l2
  rw [<-hQ] at x2 l3
  obtain ⟨i1,hi1⟩:∃i1:Nat,i1=i+1:=⟨_,rfl⟩
  rw [<-hi1] at b3 ⊢
  by_cases hd:p=q
  ·rw [decide_eq_false (by simpa using hd)] at ea
   rw [if_pos hd]
   simp [iQ,hla,x1,x2,l2,l3,ea,b1,b3,-ag,-ai,-aw,-ac,-f6]
  ·rw [decide_eq_true (by simpa using hd)] at ea
   rw [if_neg hd]
   simp [iQ,hla,x1,x2,l2,l3,ea,b1,-ag,-ai,-aw,-ac,-f6]
 have bE:=bp xs.length xs.length .i64
 rw [decide_eq_false (by omega)] at bE
 unfold M16
 rw [aK _ _ rfl]
 rcases cE (E:=ax GC []) (fuel:=300) (a:=iQ) (mask:=ij) (fun i=>lg a b (.int .i64 (i:Int))) (fun _=>[]) xs.length (fun i=>¬ ∀(hi:i<xs.length),xs[i]=ys[i]'(by omega))
  (oF:=fun i=>.ret [a,b,.bool false,.int .i64 (i:Int),.undef,.bool true,.bool true] []) (oE:=.exit 0 ((lg a b (.int .i64 (xs.length:Int))).set 5 (.bool false)) [])
  (fun _=>B8) (fun _ _ _ h=>by cases h) (fun _ _ h=>by cases h)
  (fun i hi hp=>by
   rw [round [] i hi]
   exact if_pos (Classical.not_not.1 hp hi))
  (fun i hi hp=>by
   rw [round [] i hi]
   exact if_neg fun h=>hp fun _=>h)
  (by simp [iQ,hla,bE,-ag,-aw]) (show xs.length<300 by omega) with ⟨i,hi,hp,hj,lp⟩ | ⟨hp,lp⟩
 ·have lp:bZ (evC (ax GC []) 300 iQ) ij 300 (lg a b (.int .i64 0)) []=_:=lp
  rw [decide_eq_false (fun h=>hp (fun _=>by subst h; rfl))]
  simp [pF,hla,hlb,b0,BD lp,-ag,-aw]
 ·have lp:bZ (evC (ax GC []) 300 iQ) ij 300 (lg a b (.int .i64 0)) []=_:=lp
  rw [decide_eq_true (List.ext_getElem h0 fun i h1 h2=>Classical.not_not.1 (hp i h1) h1)]
  simp [pF,hla,hlb,b0,BD lp,-ag,-aw]
theorem Fi:DE=Cy.FD:=rfl
theorem wB:an Try.prog GC 50 Cy.M12:=by
 refine an.of_ev (E:=ax GC []) (aq az) rfl KM xY 1 ?_
 intro args r h
 unfold Cy.M12 at h
 split at h
 ·simp only [Option.ite_none_right_eq_some,Option.some.injEq] at h
  obtain ⟨⟨h1,h2⟩,rfl⟩:=h
  exact ⟨0,by rw [Fi]; exact Cy.L4 _ _ _ h1 h2⟩
 ·cases h
end Tr
namespace Tr
open Go
open Cy (GC aM be aA)
open Clu (aR a0 cy Chk au chA ui iB o7 t1 nq a7 bD cT aX cP)
def M22:aP:=fun args=>evP (ax GC []) 300 zq 1 args
theorem uc:an Try.prog GC 22 M22:=an.of_ev (E:=ax GC []) (aq az) rfl K4 yg 1 fun _ _ h=>⟨300,h⟩
theorem Ck {T:aR} (chv:AV) (hv:a0 T):M22 [au T chv]=some (.int .i64 (wT T)):=by
 obtain ⟨_,⟨h1,h2,h3⟩,_⟩:=hv
 have b1:ag .add (.int .i64 T.pick) (.int .i64 T.travel)=some (.int .i64 (T.pick+T.travel)):=a7 (by omega)
 have b2:ag .add (.int .i64 (T.pick+T.travel)) (.int .i64 T.place)=some (.int .i64 (wT T)):=a7 (by omega)
 unfold M22
 rw [aK _ _ rfl]
 simp [zq,au,b1,b2,-ag]
def M26:aP:=fun args=>evP (ax GC []) 300 rq 4 args
theorem wJ:an Try.prog GC 26 M26:=an.of_ev (E:=ax GC []) (aq az) rfl G1 sa 4 fun _ _ h=>⟨300,h⟩
abbrev L8:AV:=.fs 2 [.agg [.int .i64 20,.int .i64 12],.agg [.int .i64 30,.int .i64 12]]
abbrev tA1:AV:=.agg [L8,.int .i64 1,.int .i64 1,.int .i64 2,.int .i64 1]
theorem p8:M26 []=some tA1:=by
 unfold M26
 rw [aK _ _ rfl]
 simp [rq]
def Au:List (FuncId × aG):=[(26,aD 4 M26),(14,aD 4 M14),(17,aD 4 M17),(23,aD 4 Clu.M22),(24,aD 4 M24),(25,aD 4 M25),(16,aD 4 M16)]
@[simp] theorem Kv:aC Au 26=some (aD 4 M26):=rfl
@[simp] theorem KB:aC Au 14=some (aD 4 M14):=rfl
@[simp] theorem Kz:aC Au 17=some (aD 4 M17):=rfl
@[simp] theorem Ky:aC Au 23=some (aD 4 Clu.M22):=rfl
@[simp] theorem Kx:aC Au 24=some (aD 4 M24):=rfl
@[simp] theorem Kw:aC Au 25=some (aD 4 M25):=rfl
@[simp] theorem KA:aC Au 16=some (aD 4 M16):=rfl
theorem Db:∀f M,aC Au f=some M->ak Try.prog GC f M:=af (ak.of_pure wJ 4) (af (ak.of_pure CF 4) (af (ak.of_pure ue 4) (af (ak.of_pure Clu.uc 4) (af (ak.of_pure wK 4) (af (ak.of_pure A7 4) (af (ak.of_pure lq 4) az))))))
def M11:aP:=fun args=>match args with
 | []=>some (.bool true)
 | _=>none
abbrev i3 (a b c:Int):AV:=.fs 1 [.int .i64 a,.int .i64 b,.int .i64 c]
abbrev i2 (a b:Int):AV:=.fs 1 [.int .i64 a,.int .i64 b]
theorem uh {e:Nat} {x:AV} {xs:List AV} {v:AV} (h:SlA e (x :: xs) v):v=.fs e (x :: xs):=by
 rcases h with ⟨_,h⟩ | h
 ·cases h
 ·exact h
theorem dm0 {T:aR} {rd:List Int} {free:Int}:cB T rd free 0=bN T rd free:=oh T rd free
theorem De (s:cy) (A:aa) (n:Nat):frz A (n+1) (ui s)=ui s:=by
 have k:=fun o=>(bb 1 (aj o)).frz (A:=A) n
 simp [ui,frz,k,aM]
open Classical in
theorem Fd:an Try.prog GC 11 M11:=by
 refine an.of_ev (E:=ax GC Au) (aq Db) rfl at11 GS 1 ?_
 intro args r h
 unfold M11 at h
 split at h
 rotate_left
 ·cases h
 injection h with h; subst h
 refine ⟨0,?_⟩
 have h12:SlA 2 (t1.ch.map chA) L8:=.inr rfl
 have hi:∀a b:Int,SlA 1 (aj [a,b]) (i2 a b):=fun a b=>.inr rfl
 obtain ⟨s,hs,hc,h1,h2,h3⟩:=GX
 have sV:=nq hc
 obtain ⟨va,ma,ra⟩:=lV (free:=0) (lost:=0) h12 (hi 10 (-1)) (by decide) (by decide)
 rw [dm0,dr_a] at ma ra
 obtain ⟨vb,mb,rb⟩:=lV (free:=0) (lost:=0) h12 (hi 10 40) (by decide) (by decide)
 rw [dm0,L6] at mb rb
 obtain ⟨vc,mc,rc⟩:=lV (free:=0) (lost:=0) h12 (hi 40 30) (by decide) (by decide)
 rw [dm0,L5] at mc rc
 obtain ⟨vd,md,rd⟩:=lV (free:=0) (lost:=2) h12 (hi 10 40) (by decide) (by decide)
 rw [dr_d] at md rd
 have ea:=uh ra
 have ec:=uh rc
 have ed:=uh rd
 have ma:M14 [tA1,i2 10 (-1),.int .i64 0,.int .i64 0]=some (.tup [va,.bool true]):=ma
 have mb:M14 [tA1,i2 10 40,.int .i64 0,.int .i64 0]=some (.tup [vb,.bool false]):=mb
 have mc:M14 [tA1,i2 40 30,.int .i64 0,.int .i64 0]=some (.tup [vc,.bool true]):=mc
 have md:M14 [tA1,i2 10 40,.int .i64 0,.int .i64 2]=some (.tup [vd,.bool true]):=md
 have k1:=vq h12 (by decide) (hi 40 30) (by decide) 0 rc (by decide)
 rw [show (some [((2:Int),(30:Int)),(1,40),(2,74)]).getD []=[(2,30),(1,40),(2,74)] from rfl,L7] at k1
 have k1:M17 [tA1,i2 40 30,.int .i64 0,vc]=some (.tup [.int .i64 78,.bool true]):=k1
 have k2:=vq h12 (by decide) (hi 40 30) (by decide) 0 (l:=[(2,30),(1,35)]) (.inr rfl) (by decide)
 rw [ck_d] at k2
 have k2:M17 [tA1,i2 40 30,.int .i64 0,.fs 2 [.agg [.int .i64 2,.int .i64 30],.agg [.int .i64 1,.int .i64 35]]]=some (.tup [.int .i64 0,.bool false]):=k2
 have e1:=oC ra (ys:=[(1,10),(2,44)]) (.inr rfl) (by decide) (by decide)
 have e1:M16 [va,.fs 2 [.agg [.int .i64 1,.int .i64 10],.agg [.int .i64 2,.int .i64 44]]]=some (.bool true):=e1
 have e2:=oC rd (ys:=[(1,10)]) (.inr rfl) (by decide) (by decide)
 have e2:M16 [vd,.fs 2 [.agg [.int .i64 1,.int .i64 10]]]=some (.bool true):=e2
 have b1:=Clu.Ck h12 (by decide)
 rw [hs] at b1
 obtain ⟨P1,hP1⟩:∃P,P=slA 1 (aj s.proof):=⟨_,rfl⟩
 obtain ⟨z1,z2⟩:=Clu.gQ s.proof
 rw [<-hP1] at z1 z2
 obtain ⟨S,hS⟩:∃S,S=AV.agg [.int .i64 40,i3 0 2 1,i3 0 24 18,P1]:=⟨_,rfl⟩
 have hSs:S=ui s:=by rw [hS,hP1]; unfold ui; rw [h1,h2,h3]; rfl
 have b1:Clu.M22 [tA1]=some (.tup [S,.int .i64 0]):=by rw [hSs]; exact b1
 have fS:∀A n,frz A (n+1) S=S:=fun A n=>by rw [hSs]; exact De s A n
 obtain ⟨r,hr,hrl⟩:=BL hc h1 h2 h3 0 (by omega)
 obtain ⟨vl,ml,rl⟩:=Cj (free:=0) h12 (by decide) sV
 rw [hr] at ml rl
 have el:=uh rl
 have ml:M24 [tA1,S,.int .i64 0]=some (.tup [vl,.int .i64 0]):=by rw [hSs]; exact ml
 have lenl:vl=.fs 2 (.agg [.int .i64 0,.int .i64 2] :: r.map a5):=el
 obtain ⟨r2,hr2,hrl2⟩:=BL hc h1 h2 h3 78 (by omega)
 have w1:iX t1 [40,30] 0 s=some ([(2,30),(1,40),(2,74)]++(0,78+2) :: r2):=by
  unfold iX
  rw [L5,Option.bind_some,L7,Option.getD_some,hr2]; rfl
 have w2:iX t1 [10,40] 0 s=none:=by
  unfold iX
  rw [L6]; rfl
 obtain ⟨vm,mm,rm⟩:=Ci (free:=0) h12 (by decide) (hi 40 30) (by decide) sV
 rw [w1] at mm rm
 have lm:=rm.len
 rw [List.length_map] at lm
 have mm:M25 [tA1,i2 40 30,.int .i64 0,S]=some (.tup [vm,.int .i64 0]):=by rw [hSs]; exact mm
 have lm:aw vm=some (.int .i64 8):=by
  rw [lm]
  simp [hrl2]
 obtain ⟨vn,mn,_⟩:=Ci (free:=0) h12 (by decide) (hi 10 40) (by decide) sV
 rw [w2] at mn
 have mn:M25 [tA1,i2 10 40,.int .i64 0,S]=some (.tup [vn,.int .i64 140]):=by rw [hSs]; exact mn
 have lc:aw vc=some (.int .i64 3):=rc.len
 have ll:aw vl=some (.int .i64 5):=by
  rw [rl.len]; simp [hrl]
 have xl:∀A,ai 2 A vl (.int .i64 0)=some (.fp [.int .i64 0,.int .i64 2]):=fun A=>rl.index (A:=A) (i:=0) (x:=a5 (0,0+2)) rfl rfl (by omega) .i64
 have fa:∀A n,frz A n va=va:=fun A n=>ra.frz n
 have fb:∀A n,frz A n vb=vb:=fun A n=>rb.frz n
 have fc:∀A n,frz A n vc=vc:=fun A n=>rc.frz n
 have fd:∀A n,frz A n vd=vd:=fun A n=>rd.frz n
 clear ea ec ed el lenl
 clear rl rm ra rb rc rd
 have ft:∀A,frz A 4 tA1=tA1:=fun A=>aX (T:=t1) (fun A n=>h12.frz (A:=A) n) A 3
 have fi:∀A a b,frz A 4 (i2 a b)=i2 a b:=fun A a b=>(hi a b).frz 4
 have fk:∀A,frz A 4 (.fs 2 [.agg [.int .i64 2,.int .i64 30],.agg [.int .i64 1,.int .i64 35]])=.fs 2 [.agg [.int .i64 2,.int .i64 30],.agg [.int .i64 1,.int .i64 35]]:=fun A=>rfl
 have fk2:∀A,frz A 4 (.fs 2 [.agg [.int .i64 1,.int .i64 10],.agg [.int .i64 2,.int .i64 44]])=.fs 2 [.agg [.int .i64 1,.int .i64 10],.agg [.int .i64 2,.int .i64 44]]:=fun A=>rfl
 have fk3:∀A,frz A 4 (.fs 2 [.agg [.int .i64 1,.int .i64 10]])=.fs 2 [.agg [.int .i64 1,.int .i64 10]]:=fun A=>rfl
 have fP1:∀A n,frz A n P1=P1:=fun A n=>by rw [hP1]; exact (bb 1 _).frz n
 have nP1:∀n,bk n P1=true:=fun n=>by rw [hP1]; exact (bb 1 _).noRef n
 have fS4:=fun A=>fS A 3
 clear hSs fS
 subst hS
 rw [aK _ _ rfl]
 simp [LE,p8,ma,mb,mc,md,k1,k2,e1,e2,b1,fS4,ft,fi,fk,fk2,fk3,nP1,aM,ml,mm,mn,lm,lc,ll,xl,fa,fc,fd,-frz,-ai,-aw]
 rfl
end Tr
namespace Tr
open Go
open Cy (GC aM be aA dJ)
open Clu (aR a0 sw au chA a7 dI cH cT bD aX cP)
def nOf (ys:List (Int × Int)):Nat:=max 1 (min ys.length 4)
def yOf (ys:List (Int × Int)) (i:Nat):Int × Int:=ys.getD i (0,0)
def Ij (z:Int):Int:=if pick (z.tdiv 50) 3=0 then pick z 50+200 else pick z 50
def chO (ys:List (Int × Int)) (i:Nat):Int × Int:=if i<ys.length then (pick (yOf ys i).1 60,Ij (yOf ys i).2) else (20,30)
def mkT (ys:List (Int × Int)) (a b c:Int):aR:=⟨(List.range (nOf ys)).map (chO ys),pick a 4,pick b 4,pick c 5,1⟩
theorem yG (ys:List (Int × Int)) (i:Nat):(0<=(chO ys i).1/\(chO ys i).1<=59)/\0<=(chO ys i).2/\(chO ys i).2<=249:=by
 unfold chO Ij
 have k1:=cU (yOf ys i).1 60 (by omega)
 have k2:=cU (yOf ys i).2 50 (by omega)
 split
 ·split <;> simp only <;> omega
 ·simp only; omega
theorem w9 (ys:List (Int × Int)) (a b c:Int):(mkT ys a b c).ch.length=nOf ys:=by simp [mkT]
theorem rp (ys:List (Int × Int)):1<=nOf ys/\nOf ys<=4:=by unfold nOf; omega
theorem jI (ys:List (Int × Int)) (a b c:Int):a0 (mkT ys a b c)/\(mkT ys a b c).blades=1:=by
 have h1:=cU a 4 (by omega)
 have h2:=cU b 4 (by omega)
 have h3:=cU c 5 (by omega)
 have hn:=w9 ys a b c
 have hb:=rp ys
 refine ⟨⟨fun c hc=>?_,⟨⟨?_,?_⟩,⟨?_,?_⟩,?_,?_⟩,?_,?_,.inl rfl⟩,rfl⟩
 ·obtain ⟨i,_,rfl⟩:=List.mem_map.1 hc
  have:=yG ys i
  unfold sw
  omega
 all_goals first | (rw [hn]; omega) | (simp only [mkT]; omega)
def H3 (A:aa) (v:AV) (xs:List (Int × Int)):Prop:=(v=.nilS/\xs=[])\/∃id gr,v=.sl id 0 xs.length/\xs≠[]/\2<id/\A[id]?=some (.row 2 gr (xs.map chA))
structure I27 (A:aa) (xs:List (Int × Int)) (p q r:Int):Prop where
 o:A[1]?=some (.row 5 false [.agg [.nilS,.int .i64 0,.int .i64 0,.int .i64 0,.int .i64 0]])
 c:∃v,A[2]?=some (.row 5 false [.agg [v,.int .i64 p,.int .i64 q,.int .i64 r,.int .i64 1]])/\H3 A v xs
def gG:List (FuncId × aG):=[(50,aD 4 Cy.M12)]
@[simp] theorem Jz:aC gG 50=some (aD 4 Cy.M12):=rfl
theorem qe:∀f M,aC gG f=some M->ak Try.prog GC f M:=af (ak.of_pure wB 4) az
theorem uz {A:aa} {id i:Nat} {k:Nat} {es:List AV} {x:AV} (h:A[id]?=some (.row k false [.agg es])) (hx:es[i]?=some x):ac false 1 A (.ptr id 0 i)=some x:=by
 simp [ac,h,bL,hx]
theorem b27 (ys:List (Int × Int)):eU false (.int .i64 (ys.length:Int)) [.int .i64 4]=some (.int .i64 ((min ys.length 4:Nat):Int))/\eU true (.int .i64 1) [.int .i64 ((min ys.length 4:Nat):Int)]=some (.int .i64 (nOf ys:Int)):=by
 constructor
 ·have:=z7 ys.length 4 .i64 .i64
  simp only [eU]
  rw [show (.int .i64 4:AV)=.int .i64 ((4:Nat):Int) from rfl,this]
 ·have:=Ad 1 (min ys.length 4) .i64 .i64
  simp only [eU]
  rw [show (.int .i64 1:AV)=.int .i64 ((1:Nat):Int) from rfl,this]
  rfl
theorem wY {a b:Int} (ha:inI a) (hb:2<=b/\b<=9223372036854775807):ag .quo (.int .i64 a) (.int .i64 b)=some (.int .i64 (a.tdiv b))/\inI (a.tdiv b):=by
 have h1:(a.tdiv b).natAbs<=a.natAbs:=by rw [Int.natAbs_tdiv]; exact Nat.div_le_self _ _
 have hr:inI (a.tdiv b):=by
  unfold inI at *
  have h2:(a.tdiv b).natAbs<=a.natAbs / 2:=by
   rw [Int.natAbs_tdiv]
   exact Nat.div_le_div_left (by omega) (by omega)
  omega
 refine ⟨?_,hr⟩
 have hw:=dQ hr
 simp only [ag]
 rw [if_pos trivial,if_neg (by omega),hw]
theorem s8 {A:aa} {ys:List (Int × Int)} (hys:∀y∈ys,inI y.1/\inI y.2) {yv:AV} (hy:SlA 2 (ys.map chA) yv) {xs:List (Int × Int)} {p q r:Int} (hI:I27 A xs p q r) {i:Nat} (hi:i<nOf ys) (hxl:xs.length<=100) :
  ∃B,run (ax GC gG) 300 [.code dT] (pj yv (.ptr 1 0 0) (.ptr 2 0 0) (.int .i64 (i:Int))) A=some (.normal (pj yv (.ptr 1 0 0) (.ptr 2 0 0) (.int .i64 ((i+1:Nat):Int))) B)/\I27 B (xs++[chO ys i]) p q r:=by
 obtain ⟨h1,v,h2,hv⟩:=hI
 have n1:=(List.getElem?_eq_some_iff.1 h1).1
 have n2:=(List.getElem?_eq_some_iff.1 h2).1
 have hlen:=hy.len
 rw [List.length_map] at hlen
 obtain ⟨b0,b1⟩:=b27 ys
 have b2:=bp i (nOf ys) .i64
 rw [decide_eq_true hi] at b2
 have b3:=bp i ys.length .i64
 have b4:=a9 i (by have:=rp ys; omega)
 obtain ⟨N,hN⟩:∃n,n=A.length:=⟨_,rfl⟩
 have bx:aY 2 (.agg [.int .i64 0,.int .i64 0]) A=some (.ptr N 0 0,A++[.row 2 false [.agg [.int .i64 0,.int .i64 0]]]):=by rw [hN]; rfl
 have s0:∀a b c d,aB 2 (A++[.row 2 false [.agg [.int .i64 a,.int .i64 b]]]) (.ptr N 0 0) (.agg [.int .i64 c,.int .i64 d])=some (A++[.row 2 false [.agg [.int .i64 c,.int .i64 d]]]):=fun a b c d=>by rw [hN]; simp [aB,bg]
 have f0:∀a b:Int,ab 0 (A++[.row 2 false [.agg [.int .i64 a,.int .i64 b]]]) (.ptr N 0 0)=some (.ptr N 0 0):=fun a b=>by rw [hN]; simp [ab]
 have f1:∀a b:Int,ab 1 (A++[.row 2 false [.agg [.int .i64 a,.int .i64 b]]]) (.ptr N 0 0)=some (.ptr N 0 1):=fun a b=>by rw [hN]; simp [ab]
 have t0:∀a b c,aB 1 (A++[.row 2 false [.agg [.int .i64 a,.int .i64 b]]]) (.ptr N 0 0) (.int .i64 c)=some (A++[.row 2 false [.agg [.int .i64 c,.int .i64 b]]]):=fun a b c=>by rw [hN]; simp [aB,bg]
 have t1:∀a b c,aB 1 (A++[.row 2 false [.agg [.int .i64 a,.int .i64 b]]]) (.ptr N 0 1) (.int .i64 c)=some (A++[.row 2 false [.agg [.int .i64 a,.int .i64 c]]]):=fun a b c=>by rw [hN]; simp [aB,bg]
 have l1:∀a b:Int,ac false 1 (A++[.row 2 false [.agg [.int .i64 a,.int .i64 b]]]) (.ptr N 0 1)=some (.int .i64 b):=fun a b=>by rw [hN]; exact uz (es:=[.int .i64 a,.int .i64 b]) (k:=2) (by simp) rfl
 have l2:∀a b:Int,ac true 2 (A++[.row 2 false [.agg [.int .i64 a,.int .i64 b]]]) (.ptr N 0 0)=some (.agg [.int .i64 a,.int .i64 b]):=fun a b=>by rw [hN]; simp [ac]
 have c0:∀X,ab 0 (A++X) (.ptr 2 0 0)=some (.ptr 2 0 0):=fun X=>by
  have:(A++X)[2]?=some (.row 5 false [.agg [v,.int .i64 p,.int .i64 q,.int .i64 r,.int .i64 1]]):=by rw [List.getElem?_append_left n2]; exact h2
  simp [ab,this]
 have cl:∀X,ac false 1 (A++X) (.ptr 2 0 0)=some v:=fun X=>uz (es:=[v,.int .i64 p,.int .i64 q,.int .i64 r,.int .i64 1]) (k:=5) (by rw [List.getElem?_append_left n2]; exact h2) rfl
 obtain ⟨P1,P2,hch⟩:∃P1 P2,chO ys i=(P1,P2):=⟨_,_,rfl⟩
 rw [hch]
 obtain ⟨A1,hA1⟩:∃X,X=A++[Ent.row 2 false [.agg [.int .i64 P1,.int .i64 P2]]]:=⟨_,rfl⟩
 have hl1:A1.length=A.length+1:=by rw [hA1]; simp
 have hA1o:∀j,j<A.length->A1[j]?=A[j]?:=fun j hj=>by rw [hA1,List.getElem?_append_left hj]
 obtain ⟨v',A2,e1,e2,e3,e4,e5⟩:∃v' A2,aN 2 16 A1 v (.fs 2 [.agg [.int .i64 P1,.int .i64 P2]])=some (v',A2)/\H3 A2 v' (xs++[(P1,P2)])/\(∀j,j<=2->A2[j]?=A[j]?)/\(∃a b,v'=.sl a 0 b/\2<a)/\2<A2.length:=by
  rcases hv with ⟨rfl,rfl⟩ | ⟨id,gr,rfl,hne,hid,hrow⟩
  ·refine ⟨.sl A1.length 0 1,A1++[.row 2 false [chA (P1,P2)]],by simp [aN,chA],.inr ⟨A1.length,false,rfl,by simp,by omega,by simp⟩,fun j hj=>?_,⟨_,_,rfl,by omega⟩,by simp; omega⟩
   rw [List.getElem?_append_left (by omega),hA1o j (by omega)]
  ·have hidl:=(List.getElem?_eq_some_iff.1 hrow).1
   have hz:xs.length≠0:=fun e=>hne (List.length_eq_zero_iff.1 e)
   have hb:(xs.length+1)*16<=140737488355328:=by omega
   have hrow1:A1[id]?=some (.row 2 gr (xs.map chA)):=by rw [hA1o id hidl]; exact hrow
   refine ⟨.sl id 0 (xs.length+1),A1.set id (.row 2 true (xs.map chA++[chA (P1,P2)])),by simp [aN,hrow1,hz,hb,chA],.inr ⟨id,true,by simp,by simp,hid,?_⟩,fun j hj=>?_,⟨_,_,rfl,hid⟩,by simp; omega⟩
   ·rw [List.getElem?_set_self (by omega),List.map_append]; rfl
   ·rw [List.getElem?_set_ne (by omega),hA1o j (by omega)]
 obtain ⟨ia,ib,rfl,hia⟩:=e4
 have c2:ab 0 A2 (.ptr 2 0 0)=some (.ptr 2 0 0):=by
  have:=e3 2 (by omega)
  rw [h2] at this
  simp [ab,this]
 have st:aB 1 A2 (.ptr 2 0 0) (.sl ia 0 ib)=some (A2.set 2 (.row 5 false [.agg [.sl ia 0 ib,.int .i64 p,.int .i64 q,.int .i64 r,.int .i64 1]])):=by
  have:=e3 2 (by omega)
  rw [h2] at this
  simp [aB,this,bg]
 refine ⟨A2.set 2 (.row 5 false [.agg [.sl ia 0 ib,.int .i64 p,.int .i64 q,.int .i64 r,.int .i64 1]]),?_,⟨by rw [List.getElem?_set_ne (by omega),e3 1 (by omega)]; exact h1,.sl ia 0 ib,by rw [List.getElem?_set_self e5],?_⟩⟩
 rotate_left
 ·rcases e2 with ⟨h,_⟩ | ⟨id,gr,e2,e6,e7,e8⟩
  ·cases h
  ·exact .inr ⟨id,gr,e2,e6,e7,by rw [List.getElem?_set_ne (by omega)]; exact e8⟩
 obtain ⟨B,hB⟩:∃X,X=A2.set 2 (.row 5 false [.agg [.sl ia 0 ib,.int .i64 p,.int .i64 q,.int .i64 r,.int .i64 1]]):=⟨_,rfl⟩
 rw [<-hB] at st ⊢
 have c1:=c0 [Ent.row 2 false [.agg [.int .i64 P1,.int .i64 P2]]]
 have cl1:=cl [Ent.row 2 false [.agg [.int .i64 P1,.int .i64 P2]]]
 have l2':=l2 P1 P2
 rw [<-hA1] at c1 cl1 l2'
 have hsl:ba 2 [.agg [.int .i64 P1,.int .i64 P2]]=some (.fs 2 [.agg [.int .i64 P1,.int .i64 P2]]):=rfl
 obtain ⟨ii,hii⟩:∃n,n=i+1:=⟨_,rfl⟩
 rw [<-hii] at b4 ⊢
 obtain ⟨nn,hnn⟩:∃n,n=nOf ys:=⟨_,rfl⟩
 rw [<-hnn] at b1 b2
 obtain ⟨mm,hmm⟩:∃n,n=min ys.length 4:=⟨_,rfl⟩
 rw [<-hmm] at b0 b1
 have A0d:∀a b,∃X,X=A++[Ent.row 2 false [.agg [.int .i64 a,.int .i64 b]]]:=fun a b=>⟨_,rfl⟩
 have u0:=s0 0 0 20 30
 obtain ⟨D0,hD0⟩:=A0d 0 0
 rw [<-hD0] at bx u0
 by_cases hc:i<ys.length
 ·rw [decide_eq_true hc] at b3
  obtain ⟨y,hye⟩:∃y,y=ys[i]:=⟨_,rfl⟩
  have hyy:yOf ys i=y:=by unfold yOf; rw [List.getD_eq_getElem?_getD,List.getElem?_eq_getElem hc,hye]; rfl
  have hyr:inI y.1/\inI y.2:=by rw [hye]; exact hys _ (List.getElem_mem hc)
  have yx:∀A,ai 2 A yv (.int .i64 (i:Int))=some (.fp [.int .i64 y.1,.int .i64 y.2]):=fun A=>by
   rw [hye]
   exact hy.index (A:=A) (x:=chA ys[i]) (by simp [hc]) rfl (by omega) .i64
  have y0:∀A,cW 2 1 A (.fp [.int .i64 y.1,.int .i64 y.2]) (.int .i64 0)=some (.fp [.int .i64 y.1,.int .i64 y.2]):=fun A=>rfl
  have y1:∀A,cW 2 1 A (.fp [.int .i64 y.1,.int .i64 y.2]) (.int .i64 1)=some (.fp [.int .i64 y.2]):=fun A=>rfl
  have z0:∀A,ac false 1 A (.fp [.int .i64 y.1,.int .i64 y.2])=some (.int .i64 y.1):=fun A=>rfl
  have z1:∀A,ac false 1 A (.fp [.int .i64 y.2])=some (.int .i64 y.2):=fun A=>rfl
  have m1:=dJ hyr.1 (n:=60) (by omega)
  have m2:=dJ hyr.2 (n:=50) (by omega)
  obtain ⟨q0,q1⟩:=wY hyr.2 (b:=50) (by omega)
  have m3:=dJ q1 (n:=3) (by omega)
  have hcc:=hch
  unfold chO Ij at hcc
  rw [if_pos hc,hyy] at hcc
  injection hcc with e1' e2'
  have r1:=cU y.2 50 (by omega)
  have b5:ag .add (.int .i64 (pick y.2 50)) (.int .i64 200)=some (.int .i64 (pick y.2 50+200)):=a7 (by omega)
  have b6:=bD (pick (y.2.tdiv 50) 3) 0
  rw [e1'] at m1
  obtain ⟨S,hS⟩:∃S,S=pick y.2 50:=⟨_,rfl⟩
  rw [<-hS] at m2 e2' b5
  have u1:=f0 20 30
  have u2:=t0 20 30 P1
  have u3:=f1 P1 30
  have u4:=t1 P1 30 S
  obtain ⟨D1,hD1⟩:=A0d 20 30
  rw [<-hD1] at u0 u1 u2
  obtain ⟨D2,hD2⟩:=A0d P1 30
  rw [<-hD2] at u2 u3 u4
  generalize y.2.tdiv 50=Q at *
  generalize pick Q 3=R at *
  by_cases hR:R=0
  ·rw [if_pos hR] at e2'
   rw [decide_eq_true hR] at b6
   rw [e2'] at b5
   have u5:=f1 P1 S
   have u6:=l1 P1 S
   have u7:=t1 P1 S P2
   rw [<-hA1] at u7
   obtain ⟨D3,hD3⟩:=A0d P1 S
   rw [<-hD3] at u4 u5 u6 u7
   simp [dT,hlen,b0,b1,b2,b3,b4,b5,b6,bx,yx,y0,y1,z0,z1,u0,u1,u2,u3,u4,u5,u6,u7,q0,m1,m2,m3,hsl,c1,cl1,l2',e1,c2,st,aM,-eU,-gK,-ag,-ac,-aB,-ab,-ai,-aw,-ba,-aY,-frz]
  ·rw [if_neg hR] at e2'
   rw [decide_eq_false hR] at b6
   subst e2'
   rw [<-hA1] at u4
   simp [dT,hlen,b0,b1,b2,b3,b4,b6,bx,yx,y0,y1,z0,z1,u0,u1,u2,u3,u4,q0,m1,m2,m3,hsl,c1,cl1,l2',e1,c2,st,aM,-eU,-gK,-ag,-ac,-aB,-ab,-ai,-aw,-ba,-aY,-frz]
 ·rw [decide_eq_false hc] at b3
  have hcc:=hch
  unfold chO at hcc
  rw [if_neg hc] at hcc
  injection hcc with e1' e2'
  subst e1'; subst e2'
  rw [<-hA1] at u0
  simp [dT,hlen,b0,b1,b2,b3,b4,bx,u0,hsl,c1,cl1,l2',e1,c2,st,-eU,-gK,-ag,-ac,-aB,-ab,-ai,-aw,-ba,-aY,-frz]
theorem FK {ys:List (Int × Int)} (hys:∀y∈ys,inI y.1/\inI y.2) {yv:AV} (hy:SlA 2 (ys.map chA) yv) {p q r:Int}:∀(c i:Nat) (A:aa) (m:Nat),i+c=nOf ys->I27 A ((List.range i).map (chO ys)) p q r->c<m ->
  ∃B,bZ (evC (ax GC gG) 300 dT) mG m (pj yv (.ptr 1 0 0) (.ptr 2 0 0) (.int .i64 (i:Int))) A=some (.exit 0 ((pj yv (.ptr 1 0 0) (.ptr 2 0 0) (.int .i64 (nOf ys:Int))).set 7 (.bool false)) B)/\I27 B ((List.range (nOf ys)).map (chO ys)) p q r:=by
 have hn4:=rp ys
 intro c
 induction c with
 | zero=>
  intro i A m hi hI hm
  obtain ⟨m,rfl⟩:∃j,m=j+1:=⟨m-1,by omega⟩
  obtain rfl:i=nOf ys:=by omega
  refine ⟨A,?_,hI⟩
  have hlen:=hy.len
  rw [List.length_map] at hlen
  obtain ⟨b0,b1⟩:=b27 ys
  have b2:=bp (nOf ys) (nOf ys) .i64
  rw [decide_eq_false (by omega)] at b2
  obtain ⟨mm,hmm⟩:∃n,n=min ys.length 4:=⟨_,rfl⟩
  rw [<-hmm] at b0 b1
  rw [aQ,yu]
  simp [dT,hlen,b0,b1,b2,-ag,-eU,-gK,-aw]
 | succ c ih=>
  intro i A m hi hI hm
  obtain ⟨m,rfl⟩:∃j,m=j+1:=⟨m-1,by omega⟩
  obtain ⟨B,h1,h2⟩:=s8 hys hy hI (i:=i) (by omega) (by simp; omega)
  have e:(List.range i).map (chO ys)++[chO ys i]=(List.range (i+1)).map (chO ys):=by rw [List.range_succ,List.map_append]; rfl
  rw [e] at h2
  obtain ⟨C,h3,h4⟩:=ih (i+1) B m (by omega) h2 (by omega)
  refine ⟨C,?_,h4⟩
  rw [aQ,yu,h1]
  exact h3
def M27:aP:=fun args=>evP (ax GC gG) 300 Ac 4 args
theorem ub:an Try.prog GC 27 M27:=an.of_ev (E:=ax GC gG) (aq qe) rfl KZ ye 4 fun _ _ h=>⟨300,h⟩
theorem AK {A:aa} {v:AV} {xs:List (Int × Int)} (h:H3 A v xs) (k:Nat):frz A (k+3) v=slA 2 (xs.map chA):=by
 rcases h with ⟨rfl,rfl⟩ | ⟨id,gr,rfl,hne,_,hr⟩
 ·rfl
 ·have e:((xs.map chA).drop 0).take xs.length=xs.map chA:=by
   rw [List.drop_zero]
   conv=>lhs; rw [show xs.length=(xs.map chA).length by simp]
   rw [List.take_length]
  have hm:(xs.map chA).map (frz A (k+2))=xs.map chA:=by
   rw [List.map_map]
   exact List.map_congr_left fun x _=>by simp [chA,frz]
  rw [show k+3=(k+2)+1 from rfl]
  simp only [frz,hr]
  rw [e,hm]
  cases xs with
  | nil=>exact absurd rfl hne
  | cons x r=>rfl
def mkA (ys:List (Int × Int)) (a b c:Int):AV:=au (mkT ys a b c) (slA 2 ((mkT ys a b c).ch.map chA))
theorem vp {ys:List (Int × Int)} (hys:∀y∈ys,inI y.1/\inI y.2) {yv:AV} (hy:SlA 2 (ys.map chA) yv) {a b c:Int} (ha:inI a) (hb:inI b) (hc:inI c):M27 [yv,.agg [.int .i64 a,.int .i64 b,.int .i64 c]]=some (mkA ys a b c):=by
 have m1:=dJ ha (n:=4) (by omega)
 have m2:=dJ hb (n:=4) (by omega)
 have m3:=dJ hc (n:=5) (by omega)
 have hmk:mkA ys a b c=.agg [slA 2 (((List.range (nOf ys)).map (chO ys)).map chA),.int .i64 (pick a 4),.int .i64 (pick b 4),.int .i64 (pick c 5),.int .i64 1]:=rfl
 rw [hmk]
 obtain ⟨q1,h1⟩:∃z,z=pick a 4:=⟨_,rfl⟩
 obtain ⟨q2,h2⟩:∃z,z=pick b 4:=⟨_,rfl⟩
 obtain ⟨q3,h3⟩:∃z,z=pick c 5:=⟨_,rfl⟩
 rw [<-h1] at m1 ⊢
 rw [<-h2] at m2 ⊢
 rw [<-h3] at m3 ⊢
 obtain ⟨B,lp,⟨k1,v,k2,k3⟩⟩:=FK hys hy (p:=q1) (q:=q2) (r:=q3) (nOf ys) 0 [.row 3 false [.agg [.int .i64 a,.int .i64 b,.int .i64 c]],.row 5 false [.agg [.nilS,.int .i64 0,.int .i64 0,.int .i64 0,.int .i64 0]],.row 5 false [.agg [.nilS,.int .i64 q1,.int .i64 q2,.int .i64 q3,.int .i64 1]]] 300 (by omega) ⟨rfl,.nilS,rfl,.inl ⟨rfl,rfl⟩⟩ (by have:=rp ys; omega)
 rw [show ((0:Nat):Int)=0 from rfl] at lp
 have e1:ac true 5 B (.ptr 2 0 0)=some (.agg [v,.int .i64 q1,.int .i64 q2,.int .i64 q3,.int .i64 1]):=by simp [ac,k2]
 have kl:=(List.getElem?_eq_some_iff.1 k1).1
 have st:aB 5 B (.ptr 1 0 0) (.agg [v,.int .i64 q1,.int .i64 q2,.int .i64 q3,.int .i64 1])=some (B.set 1 (.row 5 false [.agg [v,.int .i64 q1,.int .i64 q2,.int .i64 q3,.int .i64 1]])):=by simp [aB,k1,bg]
 have k3':H3 (B.set 1 (.row 5 false [.agg [v,.int .i64 q1,.int .i64 q2,.int .i64 q3,.int .i64 1]])) v ((List.range (nOf ys)).map (chO ys)):=by
  rcases k3 with k3 | ⟨id,gr,a,b,c,d⟩
  ·exact .inl k3
  ·exact .inr ⟨id,gr,a,b,c,by rw [List.getElem?_set_ne (by omega)]; exact d⟩
 have f1:=AK k3' 0
 have e2:ac true 5 (B.set 1 (.row 5 false [.agg [v,.int .i64 q1,.int .i64 q2,.int .i64 q3,.int .i64 1]])) (.ptr 1 0 0)=some (.agg [v,.int .i64 q1,.int .i64 q2,.int .i64 q3,.int .i64 1]):=by simp [ac,kl]
 obtain ⟨C,hC⟩:∃X,X=B.set 1 (.row 5 false [.agg [v,.int .i64 q1,.int .i64 q2,.int .i64 q3,.int .i64 1]]):=⟨_,rfl⟩
 rw [<-hC] at st e2 f1
 have F1:frz C 4 (.agg [v,.int .i64 q1,.int .i64 q2,.int .i64 q3,.int .i64 1])=.agg [slA 2 (((List.range (nOf ys)).map (chO ys)).map chA),.int .i64 q1,.int .i64 q2,.int .i64 q3,.int .i64 1]:=by
  rw [<-f1]; rfl
 rw [hC] at F1
 have k1g:B[1]=.row 5 false [.agg [.nilS,.int .i64 0,.int .i64 0,.int .i64 0,.int .i64 0]]:=by
  rw [List.getElem?_eq_getElem kl] at k1; injection k1
 unfold M27
 rw [aK _ _ rfl]
 simp [Ac,cW,m1,m2,m3,aM,F5 lp,k1g,k2,kl,F1,-frz,-ag]
end Tr
namespace Tr
open Go
open Cy (GC aM be aA dJ)
open Clu (aR a0 au chA a7 dI cH cT bD cO aX cP)
def rdO (xs:List Int) (i:Nat):Int:=if i<xs.length/\0<pick (xs.getD i 0) 4 then pick ((xs.getD i 0).tdiv 4) 120 else -1
def rdM (n:Nat) (xs:List Int):List Int:=(List.range n).map (rdO xs)
theorem ta (n:Nat) (xs:List Int):(rdM n xs).length=n:=by simp [rdM]
theorem Fl (xs:List Int) (i:Nat) : -1<=rdO xs i/\rdO xs i<=119:=by
 unfold rdO
 have:=cU ((xs.getD i 0).tdiv 4) 120 (by omega)
 split <;> omega
theorem Fo {n:Nat} {xs:List Int}:∀t∈rdM n xs,-1<=t/\t<=119:=fun t ht=>by
 obtain ⟨i,_,rfl⟩:=List.mem_map.1 ht
 exact Fl xs i
def rI (f:Nat->Int) (n i:Nat):List Int:=(List.range i).map f++List.replicate (n-i) 0
theorem Fq (f:Nat->Int) {n i:Nat} (h:i<=n):(rI f n i).length=n:=by simp [rI]; omega
theorem Fp (f:Nat->Int) {n i:Nat} (h:i<n):(rI f n i).set i (f i)=rI f n (i+1):=by
 unfold rI
 rw [List.set_append_right _ _ (by simp)]
 obtain ⟨m,hm⟩:∃m,n-i=m+1:=⟨n-i-1,by omega⟩
 rw [hm,show n-(i+1)=m by omega,List.range_succ]
 simp [List.replicate_succ]
theorem Dx (f:Nat->Int) (n:Nat):rI f n n=(List.range n).map f:=by simp [rI]
theorem Dw (f:Nat->Int) (n:Nat):rI f n 0=List.replicate n 0:=by simp [rI]
def M28:aP:=fun args=>evP (ax GC gG) 300 IB 4 args
theorem E9:an Try.prog GC 28 M28:=an.of_ev (E:=ax GC gG) (aq qe) rfl at28 GM 4 fun _ _ h=>⟨300,h⟩
def A28 (tv:AV) (l:List Int):aa:=[.row 5 false [tv],.row 1 false (aj l)]
theorem Do {tv:AV} {xs:List Int} {xv:AV} (hx:SlA 1 (aj xs) xv) (hxi:∀z∈xs,inI z) {n i:Nat} (hn:n<=100) (hi:i<n) :
  run (ax GC gG) 300 [.code jQ] (pi xv (.sl 1 0 n) (.int .i64 (i:Int))) (A28 tv (rI (rdO xs) n i))=some (.normal (pi xv (.sl 1 0 n) (.int .i64 ((i+1:Nat):Int))) (A28 tv (rI (rdO xs) n (i+1)))):=by
 have hr:∀l,(A28 tv l)[1]?=some (.row 1 false (aj l)):=fun l=>rfl
 have hset:∀l l',(A28 tv l).set 1 (.row 1 false (aj l'))=A28 tv l':=fun l l'=>rfl
 have hl:=Fq (rdO xs) (n:=n) (i:=i) (by omega)
 have hll:=hx.len
 rw [aA] at hll
 have b0:=bp i n .i64
 rw [decide_eq_true hi] at b0
 have b1:=bp i xs.length .i64
 have b2:=a9 i (by omega)
 have hS:aw (.sl 1 0 n)=some (.int .i64 (n:Int)):=rfl
 have i0:=eg (n:=n) (hr (rI (rdO xs) n i)) hi .i64
 have s0:=mZ (hr (rI (rdO xs) n i)) (show i<(rI (rdO xs) n i).length by omega) (-1)
 rw [hset] at s0
 obtain ⟨L1,hL1⟩:∃L,L=(rI (rdO xs) n i).set i (-1):=⟨_,rfl⟩
 rw [<-hL1] at s0
 have hl1:L1.length=n:=by rw [hL1,List.length_set,hl]
 have i1:=eg (n:=n) (hr L1) hi .i64
 have ii:∃j,j=i+1:=⟨_,rfl⟩
 obtain ⟨j,hj⟩:=ii
 have e0:=Fp (rdO xs) hi
 rw [<-hj] at b2 e0 ⊢
 by_cases hc:i<xs.length
 ·rw [decide_eq_true hc] at b1
  obtain ⟨y,hy⟩:∃y,y=xs[i]:=⟨_,rfl⟩
  have hyg:xs.getD i 0=y:=by rw [List.getD_eq_getElem?_getD,List.getElem?_eq_getElem hc,hy]; rfl
  have hyi:inI y:=by rw [hy]; exact hxi _ (List.getElem_mem hc)
  have x1:∀A,ai 1 A xv (.int .i64 (i:Int))=some (.fp [.int .i64 y]):=fun A=>by
   rw [hy]
   exact hx.index1 (A:=A) (x:=.int .i64 xs[i]) (i:=i) (by simp [aj,hc]) rfl rfl .i64
  have l1:∀A,ac false 1 A (.fp [.int .i64 y])=some (.int .i64 y):=fun A=>rfl
  have m1:=dJ hyi (n:=4) (by omega)
  obtain ⟨q0,q1⟩:=wY hyi (b:=4) (by omega)
  have m2:=dJ q1 (n:=120) (by omega)
  have b3:=cO (pick y 4) 0
  have ef:rdO xs i=if 0<pick y 4 then pick (y.tdiv 4) 120 else -1:=by
   unfold rdO
   rw [hyg]
   by_cases h:0<pick y 4
   ·rw [if_pos ⟨hc,h⟩,if_pos h]
   ·rw [if_neg (fun hh=>h hh.2),if_neg h]
  generalize y.tdiv 4=Q at *
  generalize pick y 4=R at *
  generalize pick Q 120=V at *
  by_cases hR:0<R
  ·rw [if_pos hR] at ef
   rw [decide_eq_true hR] at b3
   have s1:=mZ (hr L1) (show i<L1.length by omega) V
   rw [hset,hL1,List.set_set,<-hL1,<-ef,e0] at s1
   rw [ef] at s1
   generalize A28 tv (rI (rdO xs) n i)=B0 at *
   generalize A28 tv L1=B1 at *
   generalize A28 tv (rI (rdO xs) n j)=B2 at *
   simp [jQ,hll,hS,b0,b1,b2,b3,i0,s0,i1,s1,x1,l1,q0,m1,m2,aM,-ag,-ac,-aB,-ai,-aw,-frz]
  ·rw [if_neg hR] at ef
   rw [decide_eq_false hR] at b3
   rw [hL1,<-ef,e0] at s0
   rw [ef] at s0
   generalize A28 tv (rI (rdO xs) n i)=B0 at *
   generalize A28 tv (rI (rdO xs) n j)=B2 at *
   simp [jQ,hll,hS,b0,b1,b2,b3,i0,s0,x1,l1,m1,aM,-ag,-ac,-aB,-ai,-aw,-frz]
 ·rw [decide_eq_false hc] at b1
  have ef:rdO xs i = -1:=by unfold rdO; rw [if_neg (fun h=>hc h.1)]
  rw [hL1,<-ef,e0] at s0
  rw [ef] at s0
  generalize A28 tv (rI (rdO xs) n i)=B0 at *
  generalize A28 tv (rI (rdO xs) n j)=B2 at *
  simp [jQ,hll,hS,b0,b1,b2,i0,s0,-ag,-ac,-aB,-ai,-aw,-frz]
theorem FJ {tv:AV} {xs:List Int} {xv:AV} (hx:SlA 1 (aj xs) xv) (hxi:∀z∈xs,inI z) {n:Nat} (hn:n<=100):∀(c i m:Nat),i+c=n->c<m ->
  bZ (evC (ax GC gG) 300 jQ) mF m (pi xv (.sl 1 0 n) (.int .i64 (i:Int))) (A28 tv (rI (rdO xs) n i))=some (.exit 0 ((pi xv (.sl 1 0 n) (.int .i64 (n:Int))).set 6 (.bool false)) (A28 tv (rI (rdO xs) n n))):=by
 intro c
 induction c with
 | zero=>
  intro i m hi hm
  obtain ⟨m,rfl⟩:∃j,m=j+1:=⟨m-1,by omega⟩
  obtain rfl:i=n:=by omega
  have b2:=bp i i .i64
  rw [decide_eq_false (by omega)] at b2
  rw [aQ,yq]
  simp [jQ,b2,-ag]
 | succ c ih=>
  intro i m hi hm
  obtain ⟨m,rfl⟩:∃j,m=j+1:=⟨m-1,by omega⟩
  rw [aQ,yq,Do hx hxi hn (by omega)]
  exact ih (i+1) m (by omega) (by omega)
theorem Hv {T:aR} {chv:AV} (hb:SlA 2 (T.ch.map chA) chv) (hl:T.ch.length<=100) (hl1:1<=T.ch.length) {xs:List Int} {xv:AV} (hx:SlA 1 (aj xs) xv) (hxi:∀z∈xs,inI z):M28 [au T chv,xv]=some (.fs 1 (aj (rdM T.ch.length xs))):=by
 have lp:=FJ (tv:=au T chv) hx hxi hl T.ch.length 0 300 (by omega) (by omega)
 rw [Dw,Dx,show ((0:Nat):Int)=0 from rfl] at lp
 have lnc:=hb.len
 rw [List.length_map] at lnc
 have bx0:aY 5 (au T chv) []=some (.ptr 0 0 0,[.row 5 false [au T chv]]):=rfl
 have ct:(cellsOf (au T chv)).length=5:=rfl
 obtain ⟨n,hn⟩:∃n,n=T.ch.length:=⟨_,rfl⟩
 rw [<-hn] at lp lnc hl hl1 ⊢
 have mk:cg 1 8 (.int .i64 0) [.row 5 false [au T chv]] (.int .i64 (n:Int)) (.int .i64 (n:Int))=some (.sl 1 0 n,A28 (au T chv) (List.replicate n 0)):=by
  simp [cg,A28,aj]
  omega
 have fa0:ab 0 [.row 5 false [au T chv]] (.ptr 0 0 0)=some (.ptr 0 0 0):=rfl
 have lch:ac false 1 [.row 5 false [au T chv]] (.ptr 0 0 0)=some chv:=by
  rcases hb with ⟨rfl,_⟩ | rfl <;> rfl
 have ff:frz (A28 (au T chv) (rdM n xs)) 4 (.sl 1 0 n)=.fs 1 (aj (rdM n xs)):=by
  have hrow:(A28 (au T chv) (rdM n xs))[1]?=some (.row 1 false (aj (rdM n xs))):=rfl
  have:=dz (off:=0) (xs:=aj (rdM n xs)) hrow (by rw [List.drop_zero]; exact List.take_of_length_le (by simp [aj,rdM])) (fun k x hx=>by
   obtain ⟨c,_,rfl⟩:=List.mem_map.1 hx
   exact aM _ _ _ _) 2
  have e:(aj (rdM n xs)).length=n:=by simp [aj,rdM]
  rw [e] at this
  exact this
 rw [show (List.range n).map (rdO xs)=rdM n xs from rfl] at lp
 generalize au T chv=tv at *
 generalize A28 tv (rdM n xs)=B1 at *
 generalize A28 tv (List.replicate n 0)=B0 at *
 unfold M28
 rw [aK _ _ rfl]
 simp [IB,bx0,ct,fa0,lch,lnc,mk,F4 lp,ff,-aY,-ab,-ac,-cg,-frz,-ag,-cellsOf,-aw]
def Ex:List (FuncId × aG):=[(27,aD 4 M27),(28,aD 4 M28),(21,aD 4 Cy.M12)]
@[simp] theorem Kt:aC Ex 27=some (aD 4 M27):=rfl
@[simp] theorem Ks:aC Ex 28=some (aD 4 M28):=rfl
@[simp] theorem Ku:aC Ex 21=some (aD 4 Cy.M12):=rfl
theorem Da:∀f M,aC Ex f=some M->ak Try.prog GC f M:=af (ak.of_pure ub 4) (af (ak.of_pure E9 4) (af (ak.of_pure Cy.A8 4) az))
def M13:aP:=fun args=>evP (ax GC Ex) 300 ID 4 args
theorem Fc:an Try.prog GC 13 M13:=an.of_ev (E:=ax GC Ex) (aq Da) rfl at13 GQ 4 fun _ _ h=>⟨300,h⟩
structure XC where
 ys:List (Int × Int)
 a:Int
 b:Int
 c:Int
 rd:List Int
 free:Int
structure XV (x:XC) (yv rv:AV):Prop where
 y:SlA 2 (x.ys.map chA) yv
 yi:∀y∈x.ys,inI y.1/\inI y.2
 a:inI x.a
 b:inI x.b
 c:inI x.c
 r:SlA 1 (aj x.rd) rv
 ri:∀z∈x.rd,inI z
 f:inI x.free
def XC.A (x:XC) (yv rv:AV):AV:=.agg [yv,.int .i64 x.a,.int .i64 x.b,.int .i64 x.c,rv,.int .i64 x.free]
def XC.T (x:XC):aR:=mkT x.ys x.a x.b x.c
def XC.n (x:XC):Nat:=x.T.ch.length
def XC.R (x:XC):List Int:=rdM x.n x.rd
def XC.F (x:XC):Int:=pick x.free 60
def XC.ch (x:XC):AV:=slA 2 (x.T.ch.map chA)
def XC.tv (x:XC):AV:=au x.T x.ch
def XC.rv (x:XC):AV:=.fs 1 (aj x.R)
theorem XC.sit (x:XC):Sit x.T x.R x.F:=by
 have h:=jI x.ys x.a x.b x.c
 have k:=cU x.free 60 (by omega)
 refine ⟨h,ta _ _,by unfold XC.F; omega,fun t ht=>?_⟩
 have:=Fo t ht
 omega
theorem XC.nb (x:XC):1<=x.n/\x.n<=4:=by
 have:=rp x.ys
 unfold XC.n XC.T
 rw [w9]
 exact this
theorem XC.chS (x:XC):SlA 2 (x.T.ch.map chA) x.ch:=bb _ _
theorem XC.chl (x:XC):x.T.ch.length<=200:=by have:=x.nb; unfold XC.n at this; omega
theorem XC.rvS (x:XC):SlA 1 (aj x.R) x.rv:=.inr rfl
theorem XC.Rl (x:XC):x.R.length<=200:=by have:=x.nb; rw [XC.R,ta]; omega
theorem XC.tfrz (x:XC) (A:aa):frz A 4 x.tv=x.tv:=aX (fun A n=>x.chS.frz (A:=A) n) A 3
theorem XC.tref (x:XC):bk 4 x.tv=true:=cP (fun n=>x.chS.noRef n) 3
theorem XC.rfrz (x:XC) (A:aa) (n:Nat):frz A n x.rv=x.rv:=x.rvS.frz n
theorem XC.rref (x:XC) (n:Nat):bk n x.rv=true:=x.rvS.noRef n
def rt (x:XC):AV:=.tup [x.tv,x.rv,.int .i64 x.F]
theorem Hw {x:XC} {yv rv:AV} (h:XV x yv rv):M13 [x.A yv rv]=some (rt x):=by
 have m1:=vp h.yi h.y h.a h.b h.c
 have m2:=Hv (T:=x.T) x.chS (by have:=x.nb; unfold XC.n at this; omega) (by have:=x.nb; unfold XC.n at this; omega) h.r h.ri
 have m3:=dJ h.f (n:=60) (by omega)
 have m1:M27 [yv,.agg [.int .i64 x.a,.int .i64 x.b,.int .i64 x.c]]=some x.tv:=m1
 have m2:M28 [x.tv,rv]=some x.rv:=m2
 have m3:Cy.M12 [.int .i64 x.free,.int .i64 60]=some (.int .i64 x.F):=m3
 obtain ⟨A0,hA0⟩:∃A:aa,A=[.row 6 false [x.A yv rv]]:=⟨_,rfl⟩
 have hy:=pq h.y
 have hr:=pq h.r
 have f1:∀A,frz A 4 x.tv=x.tv:=x.tfrz
 have f2:∀A n,frz A n x.rv=x.rv:=x.rfrz
 have f3:∀A n,frz A n yv=yv:=fun A n=>h.y.frz n
 have f4:∀A n,frz A n rv=rv:=fun A n=>h.r.frz n
 have n1:=x.tref
 have n2:=x.rref
 have n3:∀n,bk n yv=true:=fun n=>h.y.noRef n
 have n4:∀n,bk n rv=true:=fun n=>h.r.noRef n
 have ff:∀A,frz A 4 (rt x)=rt x:=fun A=>by
  have q1:frz A 3 x.tv=x.tv:=aX (fun A n=>x.chS.frz (A:=A) n) A 2
  simp [rt,frz,q1,f2]
 have q1:∀A,frz A 3 x.tv=x.tv:=fun A=>aX (fun A n=>x.chS.frz (A:=A) n) A 2
 have ct:cellsOf x.tv=[x.ch,.int .i64 x.T.pick,.int .i64 x.T.place,.int .i64 x.T.travel,.int .i64 1]:=by
  have:=(jI x.ys x.a x.b x.c).2
  show [x.ch,_,_,_,.int .i64 x.T.blades]=_
  rw [show x.T.blades=1 from this]
 have et:x.tv=.agg [x.ch,.int .i64 x.T.pick,.int .i64 x.T.place,.int .i64 x.T.travel,.int .i64 1]:=by
  have:=(jI x.ys x.a x.b x.c).2
  show AV.agg [x.ch,_,_,_,.int .i64 x.T.blades]=_
  rw [show x.T.blades=1 from this]
 obtain ⟨c1,c2⟩:=pq x.chS
 have n5:∀n,bk n x.ch=true:=fun n=>x.chS.noRef n
 have le:bU (.agg [yv,.int .i64 x.a,.int .i64 x.b,.int .i64 x.c,rv,.int .i64 x.free]) 6 1 true 3=some (.agg [.int .i64 x.a,.int .i64 x.b,.int .i64 x.c]):=by
  rcases h.y with ⟨rfl,_⟩ | rfl <;> rcases h.r with ⟨rfl,_⟩ | rfl <;> rfl
 unfold rt at ff ⊢
 generalize x.rv=RV at *
 generalize x.F=FV at *
 generalize x.tv=TV at *
 subst et
 generalize x.ch=CH at *
 generalize x.T.pick=p1 at *
 generalize x.T.place=p2 at *
 generalize x.T.travel=p3 at *
 have f5:∀A,frz A 4 (.agg [.int .i64 x.a,.int .i64 x.b,.int .i64 x.c])=.agg [.int .i64 x.a,.int .i64 x.b,.int .i64 x.c]:=fun A=>rfl
 unfold M13
 rw [aK _ _ rfl]
 unfold XC.A
 simp [ID,le,ff,f5,f1,f3,f4,n3,n4,n5,m1,m2,m3,aM,-frz]
end Tr
namespace Tr
open Go
open Cy (GC aM be aA dJ lvM dR ru sI)
open Clu (aR a0 cy Chk qQ au chA ui iB o7 kr yM nt nq)
def zD:aP:=fun args=>evF (ax GC ((14,H14 0) :: fV)) 300 kE 4 args
theorem CI:bY Try.prog GC 14 zD:=bY.of_ev (E:=ax GC ((14,H14 0) :: fV)) (aq qf) rfl AN kq 4 fun _ _ h=>⟨300,h⟩
theorem vO (B:aa) (n:Nat) (t:c9):a8 B (n+1) (a5 t)=true:=by simp [a5,a8]
theorem tR {T:aR} {chv rdv:AV} {rd:List Int} {free lost:Int} (hb:SlA 2 (T.ch.map chA) chv) (hr:SlA 1 (aj rd) rdv) (hTl:T.ch.length<=200) (hrl:rd.length<=200) :
  ∃v,zD [au T chv,rdv,.int .i64 free,.int .i64 lost]=some (.tup [v,.bool (cB T rd free lost).isSome])/\SlA 2 (((cB T rd free lost).getD []).map a5) v:=by
 have hT:Tl [] T chv chv:=⟨.inl hb,fun X=>Clu.aX (fun A n=>hb.frz (A:=A) n) _ 3,hb⟩
 have hR:Rl [] rd rdv rdv:=⟨.inl hr,fun X=>hr.frz 4,hr⟩
 obtain ⟨v,B,h1,_,h2⟩:=og (free:=free) (lost:=lost) hT hR hTl hrl
 obtain ⟨v',k1,k2⟩:=lV (free:=free) (lost:=lost) hb hr hTl hrl
 refine ⟨v',?_,k2⟩
 unfold M14 evP at k1
 rw [h1] at k1
 simp only [Option.map_some] at k1
 unfold zD evF
 rw [h1]
 simp only [Option.bind_some]
 rw [if_pos]
 ·exact k1
 ·rcases h2 with ⟨rfl,_⟩ | ⟨i,_,rfl,hrow⟩
  ·rfl
  ·have:a8 B 3 (.sl i 0 ((cB T rd free lost).getD []).length)=true:=by
    simp only [a8,hrow]
    rw [List.all_eq_true]
    intro y hy
    obtain ⟨t,_,rfl⟩:=List.mem_map.1 (List.mem_of_mem_drop (List.mem_of_mem_take hy))
    exact vO B 1 t
   show (a8 B 3 _ && (a8 B 3 (.bool _) && true))=true
   rw [this]; rfl
def fsL:List (FuncId × aG):=[(11,aD 4 M11),(13,aD 4 M13),(14,cz 4 zD),(16,aD 4 M16),(17,aD 4 M17),(21,aD 4 Cy.M12),(22,aD 4 M22),(23,aD 4 Clu.M22),(24,aD 4 M24),(25,aD 4 M25)]
@[simp] theorem LV:aC fsL 11=some (aD 4 M11):=rfl
@[simp] theorem LU:aC fsL 13=some (aD 4 M13):=rfl
@[simp] theorem LT:aC fsL 14=some (cz 4 zD):=rfl
@[simp] theorem LS:aC fsL 16=some (aD 4 M16):=rfl
@[simp] theorem LR:aC fsL 17=some (aD 4 M17):=rfl
@[simp] theorem LQ:aC fsL 21=some (aD 4 Cy.M12):=rfl
@[simp] theorem LM:aC fsL 22=some (aD 4 M22):=rfl
@[simp] theorem LL:aC fsL 23=some (aD 4 Clu.M22):=rfl
@[simp] theorem LK:aC fsL 24=some (aD 4 M24):=rfl
@[simp] theorem LJ:aC fsL 25=some (aD 4 M25):=rfl
theorem Fe:∀f M,aC fsL f=some M->ak Try.prog GC f M:=af (ak.of_pure Fd 4) (af (ak.of_pure Fc 4) (af (ak.of_pureF CI 4) (af (ak.of_pure lq 4) (af (ak.of_pure ue 4) (af (ak.of_pure Cy.A8 4) (af (ak.of_pure uc 4) (af (ak.of_pure Clu.uc 4) (af (ak.of_pure wK 4) (af (ak.of_pure A7 4) az)))))))))
@[simp] theorem Lw:M11 []=some (.bool true):=rfl
theorem Cx {x:AV} {n:Nat} (h:TA Try.prog (n+2) 46 x):∃y:Int × Int,x=chA y/\inI y.1/\inI y.2:=by
 obtain ⟨ls,rfl,hc,hl⟩:=TA.agg (show qU Try.prog 46=true by kernel_rfl) h
 simp only [TC,Try.underlying46] at hc
 rw [show Try.prog.cellsOf 3=1 by kernel_rfl] at hc
 simp only [TCa,Try.underlying3] at hc
 obtain ⟨_,_,rfl,⟨a,rfl,ha⟩,_,_,_,rfl,⟨b,rfl,hb⟩,_,rfl⟩:=hc
 exact ⟨(a,b),rfl,ha,hb⟩
theorem zI {raw:AV} {n:Nat} (h:TA Try.prog (n+3) 27 raw):∃ys:List (Int × Int),SlA 2 (ys.map chA) raw/\(∀y∈ys,inI y.1/\inI y.2)/\ys.length<=9223372036854775807:=by
 obtain ⟨es,h1,h2,h3⟩:=TA.sl Try.underlying27 h
 rw [show Try.prog.cellsOf 46=2 by kernel_rfl] at h1
 obtain ⟨ys,rfl,hy⟩:=fQ (f:=chA) (p:=fun y=>inI y.1/\inI y.2) fun x hx=>Cx (n:=n) (h3 x hx)
 exact ⟨ys,h1,hy,by simpa using h2⟩
theorem Ao {x:AV} {n:Nat} (h:TA Try.prog (n+1) 25 x):∃zs:List Int,SlA 1 (aj zs) x/\zs.length<=9223372036854775807/\∀z∈zs,inI z:=
 TA.ints Try.underlying25 Try.underlying3 (by kernel_rfl) h
theorem xn {ls:List AV} {n:Nat} (h:TC Try.prog (n+1) 25 ls) (hl:ls.length=Try.prog.cellsOf 25):∃(x:AV) (zs:List Int),ls=[x]/\SlA 1 (aj zs) x/\zs.length<=9223372036854775807/\∀z∈zs,inI z:=by
 rw [show Try.prog.cellsOf 25=1 by kernel_rfl] at hl
 obtain ⟨x,rfl⟩:=List.length_eq_one_iff.1 hl
 obtain ⟨zs,h1,h2,h3⟩:=Ao (n:=n) (x:=x) ⟨[x],h,by rw [show Try.prog.cellsOf 25=1 by kernel_rfl]; rfl,by
  unfold fj
  rw [if_neg (by rw [show qU Try.prog 25=false by kernel_rfl]; simp)]; rfl⟩
 exact ⟨x,zs,rfl,h1,h2,h3⟩
theorem wu {ls:List AV} {n:Nat} (h:TC Try.prog (n+3) 27 ls) (hl:ls.length=Try.prog.cellsOf 27):∃(x:AV) (ys:List (Int × Int)),ls=[x]/\SlA 2 (ys.map chA) x/\∀y∈ys,inI y.1/\inI y.2:=by
 rw [show Try.prog.cellsOf 27=1 by kernel_rfl] at hl
 obtain ⟨x,rfl⟩:=List.length_eq_one_iff.1 hl
 obtain ⟨zs,h1,h2,h3⟩:=zI (n:=n) (raw:=x) ⟨[x],h,by rw [show Try.prog.cellsOf 27=1 by kernel_rfl]; rfl,by
  unfold fj
  rw [if_neg (by rw [show qU Try.prog 27=false by kernel_rfl]; simp)]; rfl⟩
 exact ⟨x,zs,rfl,h1,h2⟩
theorem vw {ls:List AV} {n:Nat} (h:TC Try.prog (n+2) 28 ls):∃a b c:Int,ls=[.int .i64 a,.int .i64 b,.int .i64 c]/\inI a/\inI b/\inI c:=by
 simp only [TC,Try.underlying28] at h
 rw [show Try.prog.cellsOf 3=1 by kernel_rfl] at h
 simp only [TCa,Try.underlying3] at h
 obtain ⟨_,_,rfl,⟨a,rfl,ha⟩,_,_,_,rfl,⟨b,rfl,hb⟩,_,_,_,rfl,⟨c,rfl,hc⟩,_,rfl⟩:=h
 exact ⟨a,b,c,rfl,ha,hb,hc⟩
theorem AL {x:AV} {n:Nat} (h:TA Try.prog (n+5) 30 x):∃X yv rv,x=XC.A X yv rv/\XV X yv rv:=by
 obtain ⟨ls,rfl,hc,hl⟩:=TA.agg (show qU Try.prog 30=true by kernel_rfl) h
 rw [show n+5=(n+4)+1 from rfl] at hc
 unfold TC at hc
 rw [Try.underlying30] at hc
 simp only [TCs] at hc
 obtain ⟨a,_,rfl,ha,la,b,_,rfl,hb,lb,c,_,rfl,hc,lc,d,_,rfl,hd,ld,rfl⟩:=hc
 obtain ⟨yv,ys,rfl,y1,y2⟩:=wu (n:=n+1) ha la
 obtain ⟨p,q,r,rfl,p1,q1,r1⟩:=vw (n:=n+2) hb
 obtain ⟨rv,zr,rfl,s1,s2,s3⟩:=xn (n:=n+3) hc lc
 simp only [TC,Try.underlying3] at hd
 obtain ⟨z,rfl,hz⟩:=hd
 exact ⟨⟨ys,p,q,r,zr,z⟩,yv,rv,rfl,y1,y2,p1,q1,r1,s1,s3,hz⟩
theorem ownK:ownKnob Try.prog.godebug=none:=by kernel_rfl
theorem IN {W:World} {OK:Nat->Prop}:Cs GC W OK:=fun gl cs h=>by simp [GC] at h
def nN (os:Os):World:=World.holding Try.prog os ⟨#[],#[],[]⟩
end Tr
namespace Tr
open Go
end Tr
namespace Tr
open Go
open Cy (GC aM be aA dJ)
open Clu (aR a0 cy Chk qQ au chA ui iB o7 kr nq a7 b8 dI cH cT bD cO)
abbrev zT:AV:=.agg [.nilS,.int .i64 0,.int .i64 0,.int .i64 0,.int .i64 0]
theorem G6 {x:XC} {yv rv:AV} (h:XV x yv rv) (A:aa):frz A 4 (x.A yv rv)=x.A yv rv:=by
 have f1:=h.y.frz (A:=A) 3
 have f2:=h.r.frz (A:=A) 3
 simp [XC.A,frz,f1,f2]
theorem G5 {x:XC} {yv rv:AV} (h:XV x yv rv):bk 4 (x.A yv rv)=true:=by
 have f1:=h.y.noRef 3
 have f2:=h.r.noRef 3
 simp [XC.A,bk,f1,f2]
theorem Ek {x:XC} {yv rv:AV} (X:aa):ac true 6 (.row 6 false [x.A yv rv] :: X) (.ptr 0 0 0)=some (x.A yv rv):=rfl
theorem G7 {x:XC} {yv rv:AV}:aY 6 (x.A yv rv) []=some (.ptr 0 0 0,[.row 6 false [x.A yv rv]]):=rfl
def B0 (x:XC) (yv rv:AV):aa:=[.row 6 false [x.A yv rv],.row 5 false [x.tv]]
theorem Io {x:XC} {yv rv:AV} (h:XV x yv rv):∃A0 Az,aY 6 (x.A yv rv) []=some (.ptr 0 0 0,A0)/\ac true 6 A0 (.ptr 0 0 0)=some (x.A yv rv)/\M13 [x.A yv rv]=some (rt x)/\(∀A,frz A 4 (x.A yv rv)=x.A yv rv)/\bk 4 (x.A yv rv)=true/\(cellsOf (x.A yv rv)).length=6/\aY 5 zT A0=some (.ptr 1 0 0,Az)/\aB 5 Az (.ptr 1 0 0) x.tv=some (B0 x yv rv):=
 ⟨_,_,G7,Ek _,Hw h,G6 h,G5 h,rfl,rfl,rfl⟩
theorem Gq {esz:Nat} {xs:List AV} {a:AV} (h:SlA esz xs a) (hi:Nat) (h2:hi<=xs.length):∃b,(∀A,bW esz A none (some (.int .i64 (hi:Int))) a=some b)/\SlA esz (xs.take hi) b:=by
 obtain ⟨b,hb,hs⟩:=h.cutHi (A:=[]) hi h2 .i64
 refine ⟨b,fun A=>?_,hs⟩
 rw [<-hb]
 rcases h with ⟨rfl,_⟩ | rfl <;> rfl
end Tr
namespace Tr
open Go
end Tr
namespace Tr
open Go
open Cy (GC aM be aA dJ)
open Clu (aR a0 sw cy Chk qQ au chA ui iB o7 kr nq a7 b8 dI cH cT bD cO dU aX cP)
theorem om {esz bytes:Nat} (he:0<esz) (hb:0<bytes) {A:aa} {N:Nat} (hN:N=A.length) {xs:List AV} {xv:AV} (h:SlA esz xs xv) (hl:xs.length*bytes<=140737488355328):aN esz bytes (A++[.row esz false []]) (.sl N 0 0) xv=some (.sl (N+1) 0 xs.length,A++[.dead,.row esz false xs]):=by
 subst hN
 have hs:aO esz (A++[.row esz false []]) xv=some xs:=by
  rcases h with ⟨rfl,rfl⟩ | rfl
  ·rfl
  ·simp [aO]
 have hr:(A++[Ent.row esz false []])[A.length]?=some (.row esz false []):=by simp
 simp only [aN,hs,hr]
 rw [if_pos ⟨trivial,he,hb,by rw [Nat.zero_add]; exact hl⟩,if_neg (by simp)]
 simp
section
variable {A:aa} {id:Nat} {cs:List (Int × Int)}
end
def C9 (B:aa) (l:List Int):aa:=B++[.dead,.row 1 false (aj l)]
end Tr
namespace Tr
open Go
open Cy (GC aM be aA dJ)
open Clu (aR a0 sw cy Chk qQ au chA a7 b8 dI cH cT bD cO dU aX cP)
theorem j7 {A:aa} {id:Nat} {g:Bool} {l:List Int} {n:Nat} (h:A[id]?=some (.row 1 g (aj l))) (hn:n=l.length) (k:Nat):frz A (k+2) (.sl id 0 n)=.fs 1 (aj l):=by
 have:=dz (off:=0) (xs:=aj l) h (by rw [List.drop_zero]; exact List.take_of_length_le (Nat.le_refl _)) (fun k x hx=>by
  obtain ⟨c,_,rfl⟩:=List.mem_map.1 hx
  exact aM _ _ _ _) k
 rw [hn,<-aA l]; exact this
theorem D6 {A:aa} {id:Nat} {g:Bool} {l:List (Int × Int)} {n:Nat} (h:A[id]?=some (.row 2 g (l.map chA))) (hn:n=l.length) (k:Nat):frz A (k+3) (.sl id 0 n)=.fs 2 (l.map chA):=by
 have e:((l.map chA).drop 0).take n=l.map chA:=by
  rw [List.drop_zero]
  exact List.take_of_length_le (by simp [hn])
 have hm:(l.map chA).map (frz A (k+2))=l.map chA:=by
  rw [List.map_map]
  exact List.map_congr_left fun x _=>by simp [chA,frz]
 rw [show k+3=(k+2)+1 from rfl]
 simp only [frz,h]
 rw [e,hm]
end Tr
namespace Tr
open Go
def rz:MC:=.seq (.seq (.region [⟨none,.mv (.var 19),none⟩,⟨none,.mv (.var 10),none⟩,⟨none,.lenSl (.tmp 1),none⟩,⟨some 24,.bin .lss (.tmp 0) (.tmp 2),none⟩]) (.cond (.var 24) .skip (.exit 0))) (.seq (.seq (.block 1 (.seq (.region [⟨none,.mv (.var 17),none⟩,⟨none,.mv (.var 19),none⟩,⟨none,.indexSl 2 (.tmp 0) (.tmp 1),none⟩,⟨none,.fieldAddr 0 (.tmp 2),none⟩,⟨none,.load false 1 (.tmp 3),none⟩,⟨some 20,.mv (.tmp 4),none⟩]) (.seq (.seq (.region [⟨none,.mv (.var 20),none⟩,⟨none,.mv (.var 1),none⟩,⟨some 25,.bin .geq (.tmp 0) (.tmp 1),none⟩]) (.cond (.var 25) (.region [⟨none,.mv (.var 20),none⟩,⟨none,.bin .add (.tmp 0) (.cst (.int .i64 1)),none⟩,⟨some 20,.mv (.tmp 1),none⟩]) .skip)) (.seq (.region [⟨none,.mv (.var 10),none⟩,⟨none,.mv (.var 19),none⟩,⟨none,.indexSl 2 (.tmp 0) (.tmp 1),none⟩,⟨none,.fieldAddr 0 (.tmp 2),none⟩,⟨none,.load false 1 (.tmp 3),none⟩,⟨none,.mv (.var 20),none⟩,⟨none,.bin .neq (.tmp 4) (.tmp 5),none⟩,⟨none,.mv (.tmp 6),none⟩,⟨none,.mv (.var 10),some (.tmp 7,false)⟩,⟨none,.mv (.var 19),some (.tmp 7,false)⟩,⟨none,.indexSl 2 (.tmp 8) (.tmp 9),some (.tmp 7,false)⟩,⟨none,.fieldAddr 1 (.tmp 10),some (.tmp 7,false)⟩,⟨none,.load false 1 (.tmp 11),some (.tmp 7,false)⟩,⟨none,.mv (.var 17),some (.tmp 7,false)⟩,⟨none,.mv (.var 19),some (.tmp 7,false)⟩,⟨none,.indexSl 2 (.tmp 13) (.tmp 14),some (.tmp 7,false)⟩,⟨none,.fieldAddr 1 (.tmp 15),some (.tmp 7,false)⟩,⟨none,.load false 1 (.tmp 16),some (.tmp 7,false)⟩,⟨none,.bin .neq (.tmp 12) (.tmp 17),some (.tmp 7,false)⟩,⟨some 26,.pick (.tmp 7) (.cst (.bool true)) (.tmp 18),none⟩]) (.cond (.var 26) (.seq (.region [⟨some 4,.mv (.cst (.bool false)),none⟩]) .ret) .skip))))) (.kill [0,2,3,4,6,7,8,9,11,12,13,14,15,16,18,20,21,22,23,24,25,26])) (.region [⟨none,.mv (.var 19),none⟩,⟨none,.bin .add (.tmp 0) (.cst (.int .i64 1)),none⟩,⟨some 19,.mv (.tmp 1),none⟩]))
def mf8:cr:=⟨3,27,.seq (.region [⟨some 3,.box (.var 0),none⟩,⟨some 4,.mv (.cst (.bool false)),none⟩]) (.seq (.region [⟨none,.call (.fn 11) [],none⟩,⟨some 5,.mv (.tmp 0),none⟩]) (.seq (.region [⟨none,.load true 6 (.var 3),none⟩,⟨none,.call (.fn 13) [.tmp 0],none⟩,⟨none,.mv (.tmp 1),none⟩,⟨none,.extract (.tmp 2) 0,none⟩,⟨none,.extract (.tmp 2) 1,none⟩,⟨none,.extract (.tmp 2) 2,none⟩,⟨some 6,.alloc 5 (.agg [.nilS,.int .i64 0,.int .i64 0,.int .i64 0,.int .i64 0]),none⟩,⟨none,.store 5 (.var 6) (.tmp 3),none⟩,⟨some 7,.mv (.tmp 4),none⟩,⟨some 8,.mv (.tmp 5),none⟩]) (.seq (.region [⟨none,.fieldAddr 0 (.var 6),none⟩,⟨none,.load false 1 (.tmp 0),none⟩,⟨none,.lenSl (.tmp 1),none⟩,⟨some 9,.mv (.tmp 2),none⟩]) (.seq (.region [⟨none,.mv (.var 1),none⟩,⟨none,.mv (.var 9),none⟩,⟨none,.call (.fn 21) [.tmp 0,.tmp 1],none⟩,⟨none,.bin .add (.cst (.int .i64 1)) (.tmp 2),none⟩,⟨some 1,.mv (.tmp 3),none⟩]) (.seq (.region [⟨none,.load true 5 (.var 6),none⟩,⟨none,.mv (.var 7),none⟩,⟨none,.mv (.var 8),none⟩,⟨none,.mv (.var 1),none⟩,⟨none,.call (.fn 14) [.tmp 0,.tmp 1,.tmp 2,.tmp 3],none⟩,⟨none,.mv (.tmp 4),none⟩,⟨none,.extract (.tmp 5) 0,none⟩,⟨none,.extract (.tmp 5) 1,none⟩,⟨some 10,.mv (.tmp 6),none⟩,⟨some 11,.mv (.tmp 7),none⟩]) (.seq (.region [⟨none,.buildSlice 1 [],none⟩,⟨none,.mv (.var 7),none⟩,⟨none,.append 1 8 (.tmp 0) (.tmp 1),none⟩,⟨some 12,.mv (.tmp 2),none⟩]) (.seq (.region [⟨none,.mv (.var 12),none⟩,⟨none,.mv (.var 1),none⟩,⟨none,.bin .sub (.tmp 1) (.cst (.int .i64 1)),none⟩,⟨none,.mv (.var 2),none⟩,⟨none,.call (.fn 21) [.tmp 3,.cst (.int .i64 100)],none⟩,⟨none,.bin .sub (.tmp 4) (.cst (.int .i64 1)),none⟩,⟨none,.indexSl 1 (.tmp 0) (.tmp 2),none⟩,⟨none,.store 1 (.tmp 6) (.tmp 5),none⟩]) (.seq (.region [⟨none,.load true 5 (.var 6),none⟩,⟨none,.mv (.var 12),none⟩,⟨none,.mv (.var 8),none⟩,⟨none,.mv (.var 1),none⟩,⟨none,.call (.fn 14) [.tmp 0,.tmp 1,.tmp 2,.tmp 3],none⟩,⟨none,.mv (.tmp 4),none⟩,⟨none,.extract (.tmp 5) 0,none⟩,⟨none,.extract (.tmp 5) 1,none⟩,⟨some 13,.mv (.tmp 6),none⟩,⟨some 14,.mv (.tmp 7),none⟩]) (.seq (.seq (.region [⟨none,.mv (.var 11),none⟩,⟨none,.mv (.var 14),none⟩,⟨none,.eqBool true (.tmp 0) (.tmp 1),none⟩,⟨none,.mv (.tmp 2),none⟩,⟨none,.mv (.var 10),some (.tmp 3,false)⟩,⟨none,.mv (.var 13),some (.tmp 3,false)⟩,⟨none,.call (.fn 16) [.tmp 4,.tmp 5],some (.tmp 3,false)⟩,⟨none,.un .not (.tmp 6),some (.tmp 3,false)⟩,⟨some 21,.pick (.tmp 3) (.cst (.bool true)) (.tmp 7),none⟩]) (.cond (.var 21) (.seq (.region [⟨some 4,.mv (.cst (.bool false)),none⟩]) .ret) .skip)) (.seq (.seq (.region [⟨none,.mv (.var 9),none⟩,⟨some 22,.bin .eql (.tmp 0) (.cst (.int .i64 1)),none⟩]) (.cond (.var 22) (.seq (.region [⟨none,.mv (.var 5),none⟩,⟨none,.mv (.tmp 0),none⟩,⟨none,.mv (.var 11),some (.tmp 1,true)⟩,⟨none,.pick (.tmp 1) (.tmp 2) (.cst (.bool false)),none⟩,⟨none,.mv (.tmp 3),none⟩,⟨none,.mv (.var 10),some (.tmp 4,true)⟩,⟨none,.lenSl (.tmp 5),some (.tmp 4,true)⟩,⟨none,.bin .eql (.tmp 6) (.cst (.int .i64 0)),some (.tmp 4,true)⟩,⟨none,.pick (.tmp 4) (.tmp 7) (.cst (.bool false)),none⟩,⟨some 4,.mv (.tmp 8),none⟩]) .ret) .skip)) (.seq (.region [⟨none,.load true 5 (.var 6),none⟩,⟨some 15,.alloc 5 (.agg [.nilS,.int .i64 0,.int .i64 0,.int .i64 0,.int .i64 0]),none⟩,⟨none,.store 5 (.var 15) (.tmp 0),none⟩]) (.seq (.regionD [] [⟨none,.buildSlice 2 [],none⟩,⟨none,.fieldAddr 0 (.var 6),none⟩,⟨none,.load false 1 (.tmp 1),none⟩,⟨none,.mv (.var 1),none⟩,⟨none,.bin .sub (.tmp 3) (.cst (.int .i64 1)),none⟩,⟨none,.sliceSl 2 (.tmp 2) none (some (.tmp 4)),none⟩,⟨none,.append 2 16 (.tmp 0) (.tmp 5),none⟩,⟨none,.fieldAddr 0 (.var 6),none⟩,⟨none,.load false 1 (.tmp 7),none⟩,⟨none,.mv (.var 1),none⟩,⟨none,.sliceSl 2 (.tmp 8) (some (.tmp 9)) none,none⟩,⟨none,.append 2 16 (.tmp 6) (.tmp 10),none⟩,⟨none,.fieldAddr 0 (.var 15),none⟩,⟨none,.store 1 (.tmp 12) (.tmp 11),none⟩] [(0,1),(0,2),(0,5),(0,7),(6,7),(0,8),(6,8),(0,10),(6,10)]) (.seq (.regionD [] [⟨none,.buildSlice 1 [],none⟩,⟨none,.mv (.var 7),none⟩,⟨none,.mv (.var 1),none⟩,⟨none,.bin .sub (.tmp 2) (.cst (.int .i64 1)),none⟩,⟨none,.sliceSl 1 (.tmp 1) none (some (.tmp 3)),none⟩,⟨none,.append 1 8 (.tmp 0) (.tmp 4),none⟩,⟨none,.mv (.var 7),none⟩,⟨none,.mv (.var 1),none⟩,⟨none,.sliceSl 1 (.tmp 6) (some (.tmp 7)) none,none⟩,⟨none,.append 1 8 (.tmp 5) (.tmp 8),none⟩,⟨some 16,.mv (.tmp 9),none⟩] [(0,4),(0,8),(5,8)]) (.seq (.region [⟨none,.load true 5 (.var 15),none⟩,⟨none,.mv (.var 16),none⟩,⟨none,.mv (.var 8),none⟩,⟨none,.call (.fn 14) [.tmp 0,.tmp 1,.tmp 2,.cst (.int .i64 0)],none⟩,⟨none,.mv (.tmp 3),none⟩,⟨none,.extract (.tmp 4) 0,none⟩,⟨none,.extract (.tmp 4) 1,none⟩,⟨some 17,.mv (.tmp 5),none⟩,⟨some 18,.mv (.tmp 6),none⟩]) (.seq (.seq (.region [⟨none,.mv (.var 18),none⟩,⟨none,.mv (.var 11),none⟩,⟨none,.eqBool true (.tmp 0) (.tmp 1),none⟩,⟨none,.mv (.tmp 2),none⟩,⟨none,.mv (.var 17),some (.tmp 3,false)⟩,⟨none,.lenSl (.tmp 4),some (.tmp 3,false)⟩,⟨none,.mv (.var 10),some (.tmp 3,false)⟩,⟨none,.lenSl (.tmp 6),some (.tmp 3,false)⟩,⟨none,.bin .neq (.tmp 5) (.tmp 7),some (.tmp 3,false)⟩,⟨some 23,.pick (.tmp 3) (.cst (.bool true)) (.tmp 8),none⟩]) (.cond (.var 23) (.seq (.region [⟨some 4,.mv (.cst (.bool false)),none⟩]) .ret) .skip)) (.seq (.seq (.region [⟨some 19,.mv (.cst (.int .i64 0)),none⟩]) (.seq (.block 0 (.loop [0,2,3,4,6,7,8,9,11,12,13,14,15,16,18,20,21,22,23,24,25,26] rz)) (.kill [0,1,2,3,4,6,7,8,9,10,11,12,13,14,15,16,17,18,19,20,21,22,23,24,25,26]))) (.seq (.region [⟨none,.mv (.var 5),none⟩,⟨some 4,.mv (.tmp 0),none⟩]) .ret))))))))))))))))),[.tmp 4]⟩
def nH:List Nat:=[0,2,3,4,6,7,8,9,11,12,13,14,15,16,18,20,21,22,23,24,25,26]
abbrev vy (v1 v5 v10 v17 v19:AV):List AV:=[.undef,v1,.undef,.undef,.undef,v5,.undef,.undef,.undef,.undef,v10,.undef,.undef,.undef,.undef,.undef,.undef,v17,.undef,v19,.undef,.undef,.undef,.undef,.undef,.undef,.undef]
theorem D9 {d0 v1 d2 d3 d4 v5 d6 d7 d8 d9 v10 d11 d12 d13 d14 d15 d16 v17 d18 v19 d20 d21 d22 d23 d24 d25 d26:AV}:clear nH [d0,v1,d2,d3,d4,v5,d6,d7,d8,d9,v10,d11,d12,d13,d14,d15,d16,v17,d18,v19,d20,d21,d22,d23,d24,d25,d26]=vy v1 v5 v10 v17 v19:=by simp only [nH,clear,List.foldl_cons,List.foldl_nil,List.set_cons_zero,List.set_cons_succ]
theorem Z5 {E:Env} {fuel:Nat} {A:aa} {o:Out} {k:List KC} {d0 v1 d2 d3 d4 v5 d6 d7 d8 d9 v10 d11 d12 d13 d14 d15 d16 v17 d18 v19 d20 d21 d22 d23 d24 d25 d26:AV} (h:bZ (evC E fuel rz) nH fuel (vy v1 v5 v10 v17 v19) A=some o) :
  run E fuel (.code (.loop [0,2,3,4,6,7,8,9,11,12,13,14,15,16,18,20,21,22,23,24,25,26] rz) :: k) [d0,v1,d2,d3,d4,v5,d6,d7,d8,d9,v10,d11,d12,d13,d14,d15,d16,v17,d18,v19,d20,d21,d22,d23,d24,d25,d26] A=after E fuel k o:=aU nH _ _ (by rw [D9]; exact h)
theorem KF:aE Try.prog Try.f8 3 [0,1,2,3,6,7,8,9,10,11,12,13,14,15,16,17,18,19,20,21,22,71,73,123,127,137,159] [] true ([[0,2,3,4,6,7,8,9,11,12,13,14,15,16,18,20,21,22,23,24,25,26]],[[0,2,3,4,6,7,8,9,11,12,13,14,15,16,18,20,21,22,23,24,25,26],[0,1,2,3,4,6,7,8,9,10,11,12,13,14,15,16,17,18,19,20,21,22,23,24,25,26]])=some mf8:=by kernel_rfl
theorem at8:Try.prog.funcs[8]?=some Try.f8:=by kernel_rfl
end Tr
namespace Tr
open Go
open Cy (GC aM be aA dJ)
open Clu (aR a0 sw cy Chk qQ au chA a7 b8 dI cH cT bD cO dU aX cP)
theorem AI {α:Type} (l:List α) (k:Nat) (v:α):gj (l.set k v) k=gj l k:=by
 unfold gj
 rw [List.take_set_of_le (Nat.le_refl _),List.drop_set_of_lt (by omega)]
theorem Dd {T:aR} {rd:List Int} {free:Int} (h:Sit T rd free) (k:Nat) {v:Int} (hv : -1<=v/\v<=500000):Sit T (rd.set k v) free:=by
 refine ⟨h.1,by rw [List.length_set]; exact h.2.1,h.2.2.1,fun t ht=>?_⟩
 rcases List.mem_or_eq_of_mem_set ht with ht | rfl
 ·exact h.2.2.2 t ht
 ·exact hv
theorem Ae {T:aR} {rd:List Int} {free:Int} (h:Sit T rd free) {lost:Int} (hl:1<=lost) {v:Int} (hv : -1<=v/\v<=500000):cB T (rd.set (lost-1).toNat v) free lost=cB T rd free lost:=by
 unfold cB
 rw [List.length_set,AI]
 by_cases hc:0<=lost/\lost<=rd.length
 ·rw [if_pos (show Sit T (rd.set (lost-1).toNat v) free/\0<=lost/\lost<=(rd.length:Int) from ⟨Dd h _ hv,hc⟩),if_pos (show Sit T rd free/\0<=lost/\lost<=(rd.length:Int) from ⟨h,hc⟩)]
  simp only [if_neg (show ¬ lost=0 by omega)]
 ·rw [if_neg (fun hh=>hc hh.2),if_neg (fun hh=>hc hh.2)]
theorem pg {esz bytes:Nat} (he:0<esz) (hb:0<bytes) {A:aa} {N:Nat} (hN:N=A.length) {xs ys:List AV} {yv:AV} (h:SlA esz ys yv) (hl:(xs.length+ys.length)*bytes<=140737488355328) :
  ∃id g B,aN esz bytes (A++[.dead,.row esz false xs]) (.sl (N+1) 0 xs.length) yv=some (.sl id 0 (xs.length+ys.length),B)/\B[id]?=some (.row esz g (xs++ys))/\(∀j,j<N->B[j]?=A[j]?)/\N<id/\B.length=(if xs.length=0 then N+3 else N+2):=by
 subst hN
 have hs:aO esz (A++[.dead,.row esz false xs]) yv=some ys:=by
  rcases h with ⟨rfl,rfl⟩ | rfl
  ·rfl
  ·simp [aO]
 have hr:(A++[Ent.dead,Ent.row esz false xs])[A.length+1]?=some (.row esz false xs):=by
  rw [List.getElem?_append_right (by omega)]; simp
 simp only [aN,hs,hr]
 rw [if_pos ⟨trivial,he,hb,hl⟩]
 by_cases h0:xs.length=0
 ·rw [if_neg (by simp [h0]),if_pos h0]
  have hx:xs=[]:=List.length_eq_zero_iff.1 h0
  subst hx
  refine ⟨_,false,_,rfl,?_,fun j hj=>?_,?_,?_⟩
  ·rw [List.getElem?_append_right (by simp)]; simp
  ·rw [List.getElem?_append_left (by simp; omega),List.getElem?_set_ne (by omega),List.getElem?_append_left hj]
  ·simp
  ·simp
 ·rw [if_pos ⟨trivial,trivial,h0⟩,if_neg h0]
  refine ⟨_,true,_,rfl,?_,fun j hj=>?_,by omega,by simp⟩
  ·rw [List.getElem?_set_self (by simp)]
  ·rw [List.getElem?_set_ne (by omega),List.getElem?_append_left hj]
theorem xW {esz:Nat} {xs:List AV} {a:AV} (h:SlA esz xs a) (lo:Nat) (h2:lo<=xs.length):∃b,(∀A,bW esz A (some (.int .i64 (lo:Int))) none a=some b)/\SlA esz (xs.drop lo) b:=by
 rcases h with ⟨rfl,rfl⟩ | rfl
 ·refine ⟨.nilS,fun A=>?_,.inl ⟨rfl,by simp⟩⟩
  have:lo=0:=by simpa using h2
  subst this
  rfl
 ·refine ⟨.fs esz (xs.drop lo),fun A=>?_,.inr rfl⟩
  have e:cR xs.length (some (.int .i64 (lo:Int))) none=some (lo,xs.length):=by simp [cR,hiB,loB,h2]
  simp only [bW,if_true,e,Option.map_some]
  rw [List.take_of_length_le (by simp)]
theorem Fk {B:aa} {k:List c9} {lost:Int} (_hlo:1<=lost/\lost<=100) {lv kv:AV} (hlv:SlA 2 ((k.map (dY lost)).map a5) lv) (hkv:SlA 2 (k.map a5) kv) (hl:k.length<=100) (hst:∀t∈k,0<=t.1/\t.1<=1000) {i:Nat} (hi:i<k.length) (v5:AV) :
  run (ax GC fsL) 300 [.code rz] (vy (.int .i64 lost) v5 lv kv (.int .i64 (i:Int))) B=some (.normal (vy (.int .i64 lost) v5 lv kv (.int .i64 ((i+1:Nat):Int))) B):=by
 have h1:=hlv.len
 rw [List.length_map,List.length_map] at h1
 obtain ⟨t,ht⟩:∃t,t=k[i]:=⟨_,rfl⟩
 have hts:0<=t.1/\t.1<=1000:=by rw [ht]; exact hst _ (List.getElem_mem hi)
 obtain ⟨w,hw⟩:∃w,w=(dY lost t).1:=⟨_,rfl⟩
 have x2:ai 2 B kv (.int .i64 (i:Int))=some (.fp [.int .i64 t.1,.int .i64 t.2]):=hkv.index (A:=B) (x:=a5 t) (by simp [hi,ht]) rfl (by omega) .i64
 have x1:ai 2 B lv (.int .i64 (i:Int))=some (.fp [.int .i64 (dY lost t).1,.int .i64 (dY lost t).2]):=hlv.index (A:=B) (x:=a5 (dY lost t)) (by simp [hi,ht]) rfl (by omega) .i64
 have e2:(dY lost t).2=t.2:=by unfold dY; split <;> rfl
 have e1:(dY lost t).1=if lost<=t.1 then t.1+1 else t.1:=by unfold dY; split <;> rfl
 rw [e2,<-hw] at x1
 rw [<-hw] at e1
 have b0:=bp i k.length .i64
 rw [decide_eq_true hi] at b0
 have b1:=a9 i (by omega)
 have b2:=cT w w
 have b3:=cT t.2 t.2
 rw [decide_eq_false (by simp)] at b2 b3
 have b4:ag .geq (.int .i64 t.1) (.int .i64 lost)=some (.bool (decide (lost<=t.1))):=by simp [ag]
 have b5:ag .add (.int .i64 t.1) (.int .i64 1)=some (.int .i64 (t.1+1)):=a7 (by omega)
 have f0:∀a b,ab 0 B (.fp [a,b])=some (.fp [a,b]):=fun a b=>rfl
 have f1:∀a b,ab 1 B (.fp [a,b])=some (.fp [b]):=fun a b=>rfl
 have g0:∀a b,ac false 1 B (.fp [.int .i64 a,b])=some (.int .i64 a):=fun a b=>rfl
 have g1:∀a,ac false 1 B (.fp [.int .i64 a])=some (.int .i64 a):=fun a=>rfl
 obtain ⟨i1,hi1⟩:∃j,j=i+1:=⟨_,rfl⟩
 rw [<-hi1] at b1 ⊢
 by_cases hc:lost<=t.1
 ·rw [if_pos hc] at e1
  rw [decide_eq_true hc] at b4
  rw [<-e1] at b5
  simp [rz,h1,x1,x2,b0,b1,b2,b3,b4,b5,f0,f1,g0,g1,-ag,-ac,-ab,-ai,-aw]
 ·rw [if_neg hc] at e1
  rw [decide_eq_false hc] at b4
  rw [<-e1] at b4 x2
  simp [rz,h1,x1,x2,b0,b1,b2,b3,b4,f0,f1,g0,g1,-ag,-ac,-ab,-ai,-aw]
theorem IE {B:aa} {k:List c9} {lost:Int} (hlo:1<=lost/\lost<=100) {lv kv:AV} (hlv:SlA 2 ((k.map (dY lost)).map a5) lv) (hkv:SlA 2 (k.map a5) kv) (hl:k.length<=100) (hst:∀t∈k,0<=t.1/\t.1<=1000) (v5:AV):∀(c i m:Nat),i+c=k.length->c<m ->
  bZ (evC (ax GC fsL) 300 rz) nH m (vy (.int .i64 lost) v5 lv kv (.int .i64 (i:Int))) B=some (.exit 0 ((vy (.int .i64 lost) v5 lv kv (.int .i64 (k.length:Int))).set 24 (.bool false)) B):=by
 intro c
 induction c with
 | zero=>
  intro i m hi hm
  obtain ⟨m,rfl⟩:∃j,m=j+1:=⟨m-1,by omega⟩
  obtain rfl:i=k.length:=by omega
  have h1:=hlv.len
  rw [List.length_map,List.length_map] at h1
  have b2:=bp k.length k.length .i64
  rw [decide_eq_false (by omega)] at b2
  rw [aQ,D9]
  simp [rz,h1,b2,-ag,-aw]
 | succ c ih=>
  intro i m hi hm
  obtain ⟨m,rfl⟩:∃j,m=j+1:=⟨m-1,by omega⟩
  rw [aQ,D9,Fk hlo hlv hkv hl hst (by omega)]
  exact ih (i+1) m (by omega) (by omega)
theorem ev8 {x:XC} {yv rv:AV} (h:XV x yv rv) {b0':Int} (hb0:inI b0') {c0':Int} (hc0:inI c0'):evP (ax GC fsL) 300 mf8 1 [x.A yv rv,.int .i64 b0',.int .i64 c0']=some (.bool true):=by
 obtain ⟨A0,Az,s0,s1,s2,s3,s4,s5,s6,s7⟩:=Io h
 have f1:∀A,frz A 4 x.tv=x.tv:=x.tfrz
 have f2:∀A n,frz A n x.rv=x.rv:=x.rfrz
 have n1:=x.tref
 have n2:=x.rref
 have hn4:=x.nb
 have hRl:x.R.length=x.T.ch.length:=ta _ _
 unfold XC.n at hn4
 obtain ⟨B1,hB1⟩:∃B,B=B0 x yv rv:=⟨_,rfl⟩
 have hBl:B1.length=2:=by rw [hB1]; rfl
 rw [<-hB1] at s7
 have hv1:=(jI x.ys x.a x.b x.c).2
 have etv:x.tv=.agg [x.ch,.int .i64 x.T.pick,.int .i64 x.T.place,.int .i64 x.T.travel,.int .i64 1]:=by
  show AV.agg [x.ch,_,_,_,.int .i64 x.T.blades]=_
  rw [show x.T.blades=1 from hv1]
 have fa1:ab 0 B1 (.ptr 1 0 0)=some (.ptr 1 0 0):=by rw [hB1]; rfl
 have la1:ac false 1 B1 (.ptr 1 0 0)=some x.ch:=uz (k:=5) (es:=[x.ch,.int .i64 x.T.pick,.int .i64 x.T.place,.int .i64 x.T.travel,.int .i64 1]) (by rw [hB1,<-etv]; rfl) rfl
 have lc:=x.chS.len
 rw [List.length_map] at lc
 have lt1:ac true 5 B1 (.ptr 1 0 0)=some x.tv:=by rw [hB1]; rfl
 have m1:=dJ hb0 (n:=(x.T.ch.length:Int)) (by omega)
 have hpk:=cU b0' (x.T.ch.length:Int) (by omega)
 obtain ⟨k0,hk0⟩:∃k:Nat,pick b0' (x.T.ch.length:Int)=k:=⟨(pick b0' (x.T.ch.length:Int)).toNat,by omega⟩
 rw [hk0] at m1 hpk
 have hkn:k0<x.T.ch.length:=by omega
 have bl1:ag .add (.int .i64 1) (.int .i64 (k0:Int))=some (.int .i64 ((k0:Int)+1)):=by rw [a7 (by omega)]; congr 2; omega
 have bl2:ag .sub (.int .i64 ((k0:Int)+1)) (.int .i64 1)=some (.int .i64 (k0:Int)):=by rw [b8 (by omega)]; congr 2; omega
 have etn:((k0:Int)+1-1).toNat=k0:=by omega
 obtain ⟨dv,m14,rd⟩:=tR (free:=x.F) (lost:=(k0:Int)+1) x.chS x.rvS x.chl x.Rl
 have m2:=dJ hc0 (n:=100) (by omega)
 have hpk2:=cU c0' 100 (by omega)
 obtain ⟨w,hw⟩:∃w,w=pick c0' 100:=⟨_,rfl⟩
 rw [<-hw] at m2 hpk2
 have bw:ag .sub (.int .i64 w) (.int .i64 1)=some (.int .i64 (w-1)):=b8 (by omega)
 have bs1:bj 1 [] B1=some (.sl 2 0 0,B1++[.row 1 false []]):=by simp [bj,hBl]
 have ap1:=om (esz:=1) (bytes:=8) (by omega) (by omega) hBl.symm x.rvS (by rw [aA]; omega)
 rw [aA,show B1++[.dead,.row 1 false (aj x.R)]=C9 B1 x.R from rfl] at ap1
 have hr3:∀l,(C9 B1 l)[3]?=some (.row 1 false (aj l)):=fun l=>by
  unfold C9; rw [List.getElem?_append_right (by omega),hBl]; rfl
 have hset:∀l l',(C9 B1 l).set 3 (.row 1 false (aj l'))=C9 B1 l':=fun l l'=>by
  unfold C9; rw [List.set_append_right _ _ (by omega),hBl]; rfl
 have i3:=eg (n:=x.R.length) (hr3 x.R) (show k0<x.R.length by omega) .i64
 have st3:=mZ (hr3 x.R) (show k0<x.R.length by omega) (w-1)
 rw [hset] at st3
 obtain ⟨R2,hR2⟩:∃R2,R2=x.R.set k0 (w-1):=⟨_,rfl⟩
 rw [<-hR2] at st3
 have hR2l:R2.length=x.R.length:=by rw [hR2,List.length_set]
 obtain ⟨ev,m14b,re⟩:=tR (free:=x.F) (lost:=(k0:Int)+1) x.chS (rdv:=.fs 1 (aj R2)) (.inr rfl) x.chl (by have:=x.Rl; omega)
 have hls:=Ae x.sit (lost:=(k0:Int)+1) (by omega) (v:=w-1) (by omega)
 rw [etn,<-hR2] at hls
 rw [hls] at m14b re
 have fz:frz (C9 B1 R2) 4 (.sl 3 0 x.R.length)=.fs 1 (aj R2):=j7 (hr3 R2) hR2l.symm 2
 obtain ⟨C,hC⟩:∃C,C=C9 B1 R2:=⟨_,rfl⟩
 have hCl:C.length=4:=by rw [hC]; unfold C9; rw [List.length_append,hBl]; rfl
 have lt2:ac true 5 C (.ptr 1 0 0)=some x.tv:=by rw [hC,hB1]; rfl
 rw [<-hC] at fz st3
 have eD:cB x.T x.R x.F ((k0:Int)+1)=if x.T.ch.length=1 then some [] else (bN (gm x.T k0) (gj x.R k0) x.F).map fun l=>l.map (dY ((k0:Int)+1)):=by
  unfold cB
  rw [if_pos ⟨x.sit,by omega,by omega⟩,if_neg (by omega),etn]
 have ll:=rd.len
 have hl10:((cB x.T x.R x.F ((k0:Int)+1)).getD []).length<=10:=by
  rw [eD]
  split
  ·simp
  ·cases hd:bN (gm x.T k0) (gj x.R k0) x.F with
   | none=>simp
   | some d=>simpa using (km hd).1
 have m16:=oC rd re (by omega) (by omega)
 rw [decide_eq_true rfl] at m16
 have fdv:∀A,frz A 4 dv=dv:=fun A=>rd.frz 4
 have fev:∀A,frz A 4 ev=ev:=fun A=>re.frz 4
 rw [List.length_map] at ll
 by_cases h1:x.T.ch.length=1
 ·rw [if_pos h1] at eD
  rw [eD] at m14 m14b ll
  have b1:=bD (x.T.ch.length:Int) 1
  rw [decide_eq_true (by omega)] at b1
  have m14c:zD [x.tv,x.rv,.int .i64 x.F,.int .i64 ((k0:Int)+1)]=some (.tup [dv,.bool true]):=m14
  have m14d:zD [x.tv,.fs 1 (aj R2),.int .i64 x.F,.int .i64 ((k0:Int)+1)]=some (.tup [ev,.bool true]):=m14b
  have b00:=bD 0 0
  rw [decide_eq_true rfl] at b00
  have lld:aw dv=some (.int .i64 0):=ll
  clear hC hB1 rd re hR2 hr3 hset hls etn eD hl10 etv
  unfold rt at s2
  generalize B1++[Ent.row 1 false []]=C00 at *
  generalize C9 B1 x.R=C0 at *
  generalize aj R2=IR at *
  generalize x.R.length=n0 at *
  generalize (k0:Int)+1=LO at *
  generalize (k0:Int)=KO at *
  generalize (x.T.ch.length:Int)=n2' at *
  generalize x.F=FV at *
  generalize x.tv=TV at *
  generalize x.rv=RV at *
  generalize x.ch=CH at *
  generalize x.A yv rv=XA at *
  generalize w-1=w1 at *
  rw [aK _ _ rfl]
  simp [mf8,s0,s1,s2,s3,s4,s5,s6,s7,fa1,la1,lc,lt1,m1,bl1,bl2,m14c,m2,bw,bs1,ap1,i3,st3,fz,m14d,lt2,m16,f1,f2,fdv,fev,b1,b00,lld,aM,be,-aY,-aB,-ac,-ab,-ai,-frz,-cellsOf,-aw,-ag,-bj]
 rw [if_neg h1] at eD
 have b1:=bD (x.T.ch.length:Int) 1
 rw [decide_eq_false (by omega)] at b1
 have egl:((bN (gm x.T k0) (gj x.R k0) x.F).map fun l=>l.map (dY ((k0:Int)+1))).getD []=((bN (gm x.T k0) (gj x.R k0) x.F).getD []).map (dY ((k0:Int)+1)):=by cases bN (gm x.T k0) (gj x.R k0) x.F <;> rfl
 rw [eD,Option.isSome_map] at m14 m14b
 rw [eD,egl] at rd re ll hl10
 obtain ⟨k,hk⟩:∃k,k=(bN (gm x.T k0) (gj x.R k0) x.F).getD []:=⟨_,rfl⟩
 rw [<-hk] at rd re ll hl10
 rw [List.length_map] at ll hl10
 have bz:aY 5 zT C=some (.ptr 4 0 0,C++[.row 5 false [zT]]):=by rw [<-hCl]; rfl
 have bt:aB 5 (C++[.row 5 false [zT]]) (.ptr 4 0 0) x.tv=some (C++[.row 5 false [x.tv]]):=by
  rw [hC,hB1,etv]; rfl
 obtain ⟨D,hD⟩:∃D,D=C++[Ent.row 5 false [x.tv]]:=⟨_,rfl⟩
 have hDl:D.length=5:=by rw [hD]; simp [hCl]
 rw [<-hD] at bt
 have hD1:D[1]?=some (.row 5 false [x.tv]):=by rw [hD,hC,hB1]; rfl
 have hD4:D[4]?=some (.row 5 false [x.tv]):=by rw [hD,hC,hB1]; rfl
 have bs2:bj 2 [] D=some (.sl 5 0 0,D++[.row 2 false []]):=by simp [bj,hDl]
 obtain ⟨xs,hxs⟩:∃xs:List (Int × Int),xs=x.T.ch.take k0:=⟨_,rfl⟩
 obtain ⟨ys,hys⟩:∃ys:List (Int × Int),ys=x.T.ch.drop (k0+1):=⟨_,rfl⟩
 have hxl:xs.length=k0:=by rw [hxs,List.length_take]; omega
 have hyl:ys.length=x.T.ch.length-(k0+1):=by rw [hys,List.length_drop]
 obtain ⟨c1,hc1,hc1s⟩:=Gq x.chS k0 (by rw [List.length_map]; omega)
 obtain ⟨c2,hc2,hc2s⟩:=xW x.chS (k0+1) (by rw [List.length_map]; omega)
 rw [<-List.map_take,<-hxs] at hc1s
 rw [<-List.map_drop,<-hys] at hc2s
 rw [show (((k0+1:Nat):Nat):Int)=(k0:Int)+1 by omega] at hc2
 have ap2:=om (esz:=2) (bytes:=16) (by omega) (by omega) hDl.symm hc1s (by rw [List.length_map]; omega)
 obtain ⟨ida,ga,Ba,ap3,hBa,hBo,hida,hBal⟩:=pg (esz:=2) (bytes:=16) (A:=D) (xs:=xs.map chA) (by omega) (by omega) hDl.symm hc2s (by rw [List.length_map,List.length_map]; omega)
 have fr1:∀X,ab 0 (D++X) (.ptr 1 0 0)=some (.ptr 1 0 0):=fun X=>by
  have:(D++X)[1]?=some (.row 5 false [x.tv]):=by rw [List.getElem?_append_left (by omega)]; exact hD1
  simp [ab,this]
 have lr1:∀X,ac false 1 (D++X) (.ptr 1 0 0)=some x.ch:=fun X=>by
  refine uz (k:=5) (es:=[x.ch,.int .i64 x.T.pick,.int .i64 x.T.place,.int .i64 x.T.travel,.int .i64 1]) ?_ rfl
  rw [List.getElem?_append_left (by omega),<-etv]; exact hD1
 have fr1a:=fr1 [.row 2 false []]
 have lr1a:=lr1 [.row 2 false []]
 have fr1b:=fr1 [.dead,.row 2 false (xs.map chA)]
 have lr1b:=lr1 [.dead,.row 2 false (xs.map chA)]
 have hBa4:Ba[4]?=some (.row 5 false [x.tv]):=by rw [hBo 4 (by omega)]; exact hD4
 have fa4:ab 0 Ba (.ptr 4 0 0)=some (.ptr 4 0 0):=by simp [ab,hBa4]
 obtain ⟨n3,hn3⟩:∃n,n=(xs.map chA).length+(ys.map chA).length:=⟨_,rfl⟩
 rw [<-hn3] at ap3
 have hn3':n3=(xs++ys).length:=by rw [hn3]; simp
 obtain ⟨E,hE⟩:∃E,E=Ba.set 4 (.row 5 false [.agg [.sl ida 0 n3,.int .i64 x.T.pick,.int .i64 x.T.place,.int .i64 x.T.travel,.int .i64 1]]):=⟨_,rfl⟩
 have st4:aB 1 Ba (.ptr 4 0 0) (.sl ida 0 n3)=some E:=by
  rw [hE]
  rw [etv] at hBa4
  simp [aB,hBa4,bg]
 have hBl4:4<Ba.length:=by rw [hBal]; split <;> omega
 have hidl:ida<Ba.length:=(List.getElem?_eq_some_iff.1 hBa).1
 have hE4:E[4]?=some (.row 5 false [.agg [.sl ida 0 n3,.int .i64 x.T.pick,.int .i64 x.T.place,.int .i64 x.T.travel,.int .i64 1]]):=by rw [hE,List.getElem?_set_self hBl4]
 have hEi:E[ida]?=some (.row 2 ga ((xs++ys).map chA)):=by rw [hE,List.getElem?_set_ne (by omega),hBa,List.map_append]
 obtain ⟨L,hL⟩:∃L,L=E.length:=⟨_,rfl⟩
 have hEl:E.length=Ba.length:=by rw [hE,List.length_set]
 have hL4:4<L:=by omega
 have hLi:ida<L:=by omega
 have bs3:bj 1 [] E=some (.sl L 0 0,E++[.row 1 false []]):=by simp [bj,hL]
 obtain ⟨us,hus⟩:∃us:List Int,us=x.R.take k0:=⟨_,rfl⟩
 obtain ⟨vs,hvs⟩:∃vs:List Int,vs=x.R.drop (k0+1):=⟨_,rfl⟩
 have hul:us.length=k0:=by rw [hus,List.length_take]; omega
 have hvl:vs.length=x.R.length-(k0+1):=by rw [hvs,List.length_drop]
 obtain ⟨d1,hd1,hd1s⟩:=Gq x.rvS k0 (by rw [aA]; omega)
 obtain ⟨d2,hd2,hd2s⟩:=xW x.rvS (k0+1) (by rw [aA]; omega)
 have hd1s:SlA 1 (aj us) d1:=by rw [hus]; unfold aj at hd1s ⊢; rw [List.map_take]; exact hd1s
 have hd2s:SlA 1 (aj vs) d2:=by rw [hvs]; unfold aj at hd2s ⊢; rw [List.map_drop]; exact hd2s
 rw [show (((k0+1:Nat):Nat):Int)=(k0:Int)+1 by omega] at hd2
 have ap4:=om (esz:=1) (bytes:=8) (by omega) (by omega) hL hd1s (by rw [aA]; omega)
 obtain ⟨idb,gb,Bb,ap5,hBb,hBbo,hidb,_⟩:=pg (esz:=1) (bytes:=8) (A:=E) (xs:=aj us) (by omega) (by omega) hL hd2s (by rw [aA,aA]; omega)
 obtain ⟨n4,hn4'⟩:∃n,n=(aj us).length+(aj vs).length:=⟨_,rfl⟩
 rw [<-hn4'] at ap5
 have hcutR:us++vs=gj x.R k0:=by rw [hus,hvs]; rfl
 have hcutT:xs++ys=(gm x.T k0).ch:=by rw [hxs,hys]; rfl
 have hBbi:Bb[idb]?=some (.row 1 gb (aj (gj x.R k0))):=by rw [hBb,<-hcutR]; unfold aj; rw [List.map_append]
 have fzR:frz Bb 4 (.sl idb 0 n4)=.fs 1 (aj (gj x.R k0)):=j7 hBbi (by rw [hn4',<-hcutR,aA,aA,List.length_append]) 2
 have hBb4:Bb[4]?=some (.row 5 false [.agg [.sl ida 0 n3,.int .i64 x.T.pick,.int .i64 x.T.place,.int .i64 x.T.travel,.int .i64 1]]):=by rw [hBbo 4 (by omega)]; exact hE4
 have lt4:ac true 5 Bb (.ptr 4 0 0)=some (.agg [.sl ida 0 n3,.int .i64 x.T.pick,.int .i64 x.T.place,.int .i64 x.T.travel,.int .i64 1]):=by simp [ac,hBb4]
 have hBbI:Bb[ida]?=some (.row 2 ga ((gm x.T k0).ch.map chA)):=by rw [hBbo ida hLi,<-hcutT]; exact hEi
 have fzT:frz Bb 4 (.agg [.sl ida 0 n3,.int .i64 x.T.pick,.int .i64 x.T.place,.int .i64 x.T.travel,.int .i64 1])=au (gm x.T k0) (.fs 2 ((gm x.T k0).ch.map chA)):=by
  have:=D6 hBbI (n:=n3) (by rw [hn3',hcutT]) 0
  show AV.agg [frz Bb 3 _,_,_,_,_]=_
  rw [this]
  unfold au
  rw [show (gm x.T k0).blades=1 from hv1]
  rfl
 obtain ⟨kv,m14c,rk⟩:=tR (T:=gm x.T k0) (rd:=gj x.R k0) (free:=x.F) (lost:=0) (.inr rfl) (.inr rfl) (by rw [<-hcutT,List.length_append]; omega) (by rw [<-hcutR,List.length_append]; omega)
 rw [dm0,<-hk] at rk
 rw [dm0] at m14c
 have lk:=rk.len
 rw [List.length_map] at lk
 have hnum:∀t∈k,0<=t.1/\t.1<=1000:=fun t ht=>by
  rw [hk] at ht
  cases hd:bN (gm x.T k0) (gj x.R k0) x.F with
  | none=>rw [hd] at ht; cases ht
  | some d=>
   rw [hd] at ht
   have:=(km hd).2 t ht
   rw [<-hcutT,List.length_append] at this
   omega
 have lp:=IE (B:=Bb) (k:=k) (lost:=(k0:Int)+1) (by omega) rd rk (by omega) hnum (.bool true) k.length 0 300 (by omega) (by omega)
 rw [show ((0:Nat):Int)=0 from rfl] at lp
 have bne:=cT (k.length:Int) (k.length:Int)
 rw [decide_eq_false (by simp)] at bne
 obtain ⟨o1,ho1⟩:∃o,o=(bN (gm x.T k0) (gj x.R k0) x.F).isSome:=⟨_,rfl⟩
 rw [<-ho1] at m14 m14b m14c
 have m14a':zD [x.tv,x.rv,.int .i64 x.F,.int .i64 ((k0:Int)+1)]=some (.tup [dv,.bool o1]):=m14
 have m14b':zD [x.tv,.fs 1 (aj R2),.int .i64 x.F,.int .i64 ((k0:Int)+1)]=some (.tup [ev,.bool o1]):=m14b
 have m14c':zD [au (gm x.T k0) (.fs 2 ((gm x.T k0).ch.map chA)),.fs 1 (aj (gj x.R k0)),.int .i64 x.F,.int .i64 0]=some (.tup [kv,.bool o1]):=m14c
 have ids0:∀ {e:Nat} {l:List AV} {v:AV},SlA e l v->aT v=[]:=fun h=>by rcases h with ⟨rfl,_⟩ | rfl <;> rfl
 have ids1:=ids0 x.chS
 have ids2:=ids0 x.rvS
 have ids3:=ids0 hc1s
 have ids4:=ids0 hc2s
 have ids5:=ids0 hd1s
 have ids6:=ids0 hd2s
 have ids7:∀a b c,aT (.sl a b c)=[a]:=fun _ _ _=>rfl
 have ids8:∀a b c,aT (.ptr a b c)=[a]:=fun _ _ _=>rfl
 have ids9:∀k z,aT (.int k z)=[]:=fun _ _=>rfl
 have hEL:E.length=L:=hL.symm
 have hL1:¬ L=1:=by omega
 have hD2l:¬ (D++[Ent.row 2 false []]).length=1:=by simp [hDl]
 clear ids0 m14 m14b m14c hBb4 hBbI hBbi hBb hBbo hidb hcutR hcutT hul hvl hEi hE4 hEl hE hBa hBo hBal hBa4 hD1 hD4 hD hxs hys hus hvs hR2 hr3 hset rd re rk hnum hls etn eD egl hk ho1 hd1s hd2s hc1s hc2s fr1 lr1 etv hn3 hn3' hn4' hxl hyl hC hB1 hBl4 hidl
 unfold rt at s2
 generalize aj (gj x.R k0)=IC at *
 generalize au (gm x.T k0) (.fs 2 ((gm x.T k0).ch.map chA))=TC' at *
 generalize D++[.dead,.row 2 false (xs.map chA)]=D1 at *
 generalize D++[.row 2 false []]=D2 at *
 generalize E++[.dead,.row 1 false (aj us)]=E1 at *
 generalize E++[.row 1 false []]=E2 at *
 generalize (xs.map chA).length=nx at *
 generalize (aj us).length=nu at *
 generalize B1++[Ent.row 1 false []]=C00 at *
 generalize C++[Ent.row 5 false [zT]]=C01 at *
 generalize C9 B1 x.R=C0 at *
 generalize aj R2=IR at *
 generalize x.R.length=n0 at *
 generalize (k0:Int)+1=LO at *
 generalize (k0:Int)=KO at *
 generalize (x.T.ch.length:Int)=n2' at *
 generalize x.F=FV at *
 generalize x.tv=TV at *
 generalize x.rv=RV at *
 generalize x.ch=CH at *
 generalize x.T.pick=p1 at *
 generalize x.T.place=p2 at *
 generalize x.T.travel=p3 at *
 generalize x.A yv rv=XA at *
 generalize w-1=w1 at *
 generalize k.length=LN at *
 rw [aK _ _ rfl]
 simp [mf8,s0,s1,s2,s3,s4,s5,s6,s7,fa1,la1,lc,lt1,m1,bl1,bl2,m14a',m2,bw,bs1,ap1,i3,st3,fz,m14b',lt2,m16,f1,f2,fdv,fev,b1,bz,bt,bs2,fr1a,lr1a,hc1,ap2,fr1b,lr1b,hc2,ap3,fa4,st4,bs3,hd1,ap4,hd2,ap5,fzR,lt4,fzT,m14c',lk,ll,bne,hDl,hD2l,hEL,ids1,ids2,ids3,ids4,ids5,ids6,ids7,ids8,Z5 lp,aM,be,-aT,-aY,-aB,-ac,-ab,-ai,-bW,-frz,-cellsOf,-aw,-ag,-bj]
theorem ev8L (args:List AV) (h:fh Try.prog 8 Try.f8.params.toList args):∃fuel,evP (ax GC fsL) fuel mf8 1 args=some (.bool true):=by
 rw [Try.params8] at h
 obtain ⟨a,r,rfl,h0,h⟩:=h.cons
 obtain ⟨b,r,rfl,h1,h⟩:=h.cons
 obtain ⟨c,r,rfl,h2,h⟩:=h.cons
 obtain rfl:=h.nil
 obtain ⟨x,yv,rv,rfl,hx⟩:=AL (n:=3) h0
 obtain ⟨z,rfl,hz⟩:=TA.int Try.underlying3 h1
 obtain ⟨z2,rfl,hz2⟩:=TA.int Try.underlying3 h2
 exact ⟨300,ev8 hx hz hz2⟩
end Tr
end Go.Proofs.Ytkcjhljbgjpklaa
