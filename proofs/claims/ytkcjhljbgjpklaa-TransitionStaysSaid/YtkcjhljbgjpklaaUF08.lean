import Derived.Test.YtkcjhljbgjpklaaUF07
import Derived.Test.YtkcjhljbgjpklaaChecked
import Derived.KernelRfl
import Derived.Test.YtkcjhljbgjpklaaUF06
import Derived.Test.YtkcjhljbgjpklaaUF03
set_option maxRecDepth 100000
set_option maxHeartbeats 4000000
noncomputable section
namespace Go.Proofs.Ytkcjhljbgjpklaa
namespace Tr
open Go
def LV:cB:=⟨0,20,.seq (.region [⟨some 0,.mv (.cst (.bool false)),none⟩]) (.seq (.region [⟨none,.call (.fn 26) [],none⟩,⟨some 1,.alloc 5 (.agg [.nilS,.int .i64 0,.int .i64 0,.int .i64 0,.int .i64 0]),none⟩,⟨none,.store 5 (.var 1) (.tmp 0),none⟩]) (.seq (.region [⟨none,.load true 5 (.var 1),none⟩,⟨none,.buildF 1 [.cst (.int .i64 10),.cst (.int .i64 (-1))],none⟩,⟨none,.call (.fn 14) [.tmp 0,.tmp 1,.cst (.int .i64 0),.cst (.int .i64 0)],none⟩,⟨none,.mv (.tmp 2),none⟩,⟨none,.extract (.tmp 3) 0,none⟩,⟨none,.extract (.tmp 3) 1,none⟩,⟨some 2,.mv (.tmp 4),none⟩,⟨some 3,.mv (.tmp 5),none⟩]) (.seq (.region [⟨none,.load true 5 (.var 1),none⟩,⟨none,.buildF 1 [.cst (.int .i64 10),.cst (.int .i64 40)],none⟩,⟨none,.call (.fn 14) [.tmp 0,.tmp 1,.cst (.int .i64 0),.cst (.int .i64 0)],none⟩,⟨none,.mv (.tmp 2),none⟩,⟨none,.extract (.tmp 3) 0,none⟩,⟨none,.extract (.tmp 3) 1,none⟩,⟨none,.mv (.tmp 4),none⟩,⟨some 4,.mv (.tmp 5),none⟩]) (.seq (.region [⟨none,.load true 5 (.var 1),none⟩,⟨none,.buildF 1 [.cst (.int .i64 40),.cst (.int .i64 30)],none⟩,⟨none,.call (.fn 14) [.tmp 0,.tmp 1,.cst (.int .i64 0),.cst (.int .i64 0)],none⟩,⟨none,.mv (.tmp 2),none⟩,⟨none,.extract (.tmp 3) 0,none⟩,⟨none,.extract (.tmp 3) 1,none⟩,⟨some 5,.mv (.tmp 4),none⟩,⟨some 6,.mv (.tmp 5),none⟩]) (.seq (.region [⟨none,.load true 5 (.var 1),none⟩,⟨none,.buildF 1 [.cst (.int .i64 10),.cst (.int .i64 40)],none⟩,⟨none,.call (.fn 14) [.tmp 0,.tmp 1,.cst (.int .i64 0),.cst (.int .i64 2)],none⟩,⟨none,.mv (.tmp 2),none⟩,⟨none,.extract (.tmp 3) 0,none⟩,⟨none,.extract (.tmp 3) 1,none⟩,⟨some 7,.mv (.tmp 4),none⟩,⟨some 8,.mv (.tmp 5),none⟩]) (.seq (.region [⟨none,.load true 5 (.var 1),none⟩,⟨none,.buildF 1 [.cst (.int .i64 40),.cst (.int .i64 30)],none⟩,⟨none,.mv (.var 5),none⟩,⟨none,.call (.fn 17) [.tmp 0,.tmp 1,.cst (.int .i64 0),.tmp 2],none⟩,⟨none,.mv (.tmp 3),none⟩,⟨none,.extract (.tmp 4) 0,none⟩,⟨none,.extract (.tmp 4) 1,none⟩,⟨some 9,.mv (.tmp 5),none⟩,⟨some 10,.mv (.tmp 6),none⟩]) (.seq (.region [⟨none,.load true 5 (.var 1),none⟩,⟨none,.buildF 1 [.cst (.int .i64 40),.cst (.int .i64 30)],none⟩,⟨none,.build [.int .i64 0,.int .i64 0] [(0,(1,.cst (.int .i64 2))),(1,(1,.cst (.int .i64 30)))],none⟩,⟨none,.build [.int .i64 0,.int .i64 0] [(0,(1,.cst (.int .i64 1))),(1,(1,.cst (.int .i64 35)))],none⟩,⟨none,.buildF 2 [.tmp 2,.tmp 3],none⟩,⟨none,.call (.fn 17) [.tmp 0,.tmp 1,.cst (.int .i64 0),.tmp 4],none⟩,⟨none,.mv (.tmp 5),none⟩,⟨none,.extract (.tmp 6) 0,none⟩,⟨none,.extract (.tmp 6) 1,none⟩,⟨none,.mv (.tmp 7),none⟩,⟨some 11,.mv (.tmp 8),none⟩]) (.seq (.region [⟨none,.load true 5 (.var 1),none⟩,⟨none,.call (.fn 23) [.tmp 0],none⟩,⟨none,.mv (.tmp 1),none⟩,⟨none,.extract (.tmp 2) 0,none⟩,⟨none,.extract (.tmp 2) 1,none⟩,⟨some 12,.alloc 4 (.agg [.int .i64 0,.nilS,.nilS,.nilS]),none⟩,⟨none,.store 4 (.var 12) (.tmp 3),none⟩,⟨some 13,.mv (.tmp 4),none⟩]) (.seq (.region [⟨none,.load true 5 (.var 1),none⟩,⟨none,.load true 4 (.var 12),none⟩,⟨none,.call (.fn 24) [.tmp 0,.tmp 1,.cst (.int .i64 0)],none⟩,⟨none,.mv (.tmp 2),none⟩,⟨none,.extract (.tmp 3) 0,none⟩,⟨none,.extract (.tmp 3) 1,none⟩,⟨some 14,.mv (.tmp 4),none⟩,⟨some 15,.mv (.tmp 5),none⟩]) (.seq (.region [⟨none,.load true 5 (.var 1),none⟩,⟨none,.buildF 1 [.cst (.int .i64 40),.cst (.int .i64 30)],none⟩,⟨none,.load true 4 (.var 12),none⟩,⟨none,.call (.fn 25) [.tmp 0,.tmp 1,.cst (.int .i64 0),.tmp 2],none⟩,⟨none,.mv (.tmp 3),none⟩,⟨none,.extract (.tmp 4) 0,none⟩,⟨none,.extract (.tmp 4) 1,none⟩,⟨some 16,.mv (.tmp 5),none⟩,⟨some 17,.mv (.tmp 6),none⟩]) (.seq (.region [⟨none,.load true 5 (.var 1),none⟩,⟨none,.buildF 1 [.cst (.int .i64 10),.cst (.int .i64 40)],none⟩,⟨none,.load true 4 (.var 12),none⟩,⟨none,.call (.fn 25) [.tmp 0,.tmp 1,.cst (.int .i64 0),.tmp 2],none⟩,⟨none,.mv (.tmp 3),none⟩,⟨none,.extract (.tmp 4) 0,none⟩,⟨none,.extract (.tmp 4) 1,none⟩,⟨none,.mv (.tmp 5),none⟩,⟨some 18,.mv (.tmp 6),none⟩]) (.seq (.region [⟨none,.mv (.var 3),none⟩,⟨none,.mv (.tmp 0),none⟩,⟨none,.mv (.var 4),some (.tmp 1,true)⟩,⟨none,.un .not (.tmp 2),some (.tmp 1,true)⟩,⟨none,.pick (.tmp 1) (.tmp 3) (.cst (.bool false)),none⟩,⟨none,.mv (.tmp 4),none⟩,⟨none,.mv (.var 6),some (.tmp 5,true)⟩,⟨none,.pick (.tmp 5) (.tmp 6) (.cst (.bool false)),none⟩,⟨none,.mv (.tmp 7),none⟩,⟨none,.mv (.var 8),some (.tmp 8,true)⟩,⟨none,.pick (.tmp 8) (.tmp 9) (.cst (.bool false)),none⟩,⟨none,.mv (.tmp 10),none⟩,⟨none,.mv (.var 10),some (.tmp 11,true)⟩,⟨none,.pick (.tmp 11) (.tmp 12) (.cst (.bool false)),none⟩,⟨none,.mv (.tmp 13),none⟩,⟨none,.mv (.var 11),some (.tmp 14,true)⟩,⟨none,.un .not (.tmp 15),some (.tmp 14,true)⟩,⟨none,.pick (.tmp 14) (.tmp 16) (.cst (.bool false)),none⟩,⟨none,.mv (.tmp 17),none⟩,⟨none,.mv (.var 9),some (.tmp 18,true)⟩,⟨none,.bin .eql (.tmp 19) (.cst (.int .i64 78)),some (.tmp 18,true)⟩,⟨none,.pick (.tmp 18) (.tmp 20) (.cst (.bool false)),none⟩,⟨none,.mv (.tmp 21),none⟩,⟨none,.mv (.var 2),some (.tmp 22,true)⟩,⟨none,.build [.int .i64 0,.int .i64 0] [(0,(1,.cst (.int .i64 1))),(1,(1,.cst (.int .i64 10)))],some (.tmp 22,true)⟩,⟨none,.build [.int .i64 0,.int .i64 0] [(0,(1,.cst (.int .i64 2))),(1,(1,.cst (.int .i64 44)))],some (.tmp 22,true)⟩,⟨none,.buildF 2 [.tmp 24,.tmp 25],some (.tmp 22,true)⟩,⟨none,.call (.fn 16) [.tmp 23,.tmp 26],some (.tmp 22,true)⟩,⟨none,.pick (.tmp 22) (.tmp 27) (.cst (.bool false)),none⟩,⟨none,.mv (.tmp 28),none⟩,⟨none,.mv (.var 5),some (.tmp 29,true)⟩,⟨none,.lenSl (.tmp 30),some (.tmp 29,true)⟩,⟨none,.bin .eql (.tmp 31) (.cst (.int .i64 3)),some (.tmp 29,true)⟩,⟨none,.pick (.tmp 29) (.tmp 32) (.cst (.bool false)),none⟩,⟨none,.mv (.tmp 33),none⟩,⟨none,.mv (.var 7),some (.tmp 34,true)⟩,⟨none,.build [.int .i64 0,.int .i64 0] [(0,(1,.cst (.int .i64 1))),(1,(1,.cst (.int .i64 10)))],some (.tmp 34,true)⟩,⟨none,.buildF 2 [.tmp 36],some (.tmp 34,true)⟩,⟨none,.call (.fn 16) [.tmp 35,.tmp 37],some (.tmp 34,true)⟩,⟨none,.pick (.tmp 34) (.tmp 38) (.cst (.bool false)),none⟩,⟨some 19,.mv (.tmp 39),none⟩]) (.seq (.region [⟨none,.mv (.var 19),none⟩,⟨none,.mv (.tmp 0),none⟩,⟨none,.mv (.var 13),some (.tmp 1,true)⟩,⟨none,.bin .eql (.tmp 2) (.cst (.int .i64 0)),some (.tmp 1,true)⟩,⟨none,.pick (.tmp 1) (.tmp 3) (.cst (.bool false)),none⟩,⟨none,.mv (.tmp 4),none⟩,⟨none,.mv (.var 15),some (.tmp 5,true)⟩,⟨none,.bin .eql (.tmp 6) (.cst (.int .i64 0)),some (.tmp 5,true)⟩,⟨none,.pick (.tmp 5) (.tmp 7) (.cst (.bool false)),none⟩,⟨none,.mv (.tmp 8),none⟩,⟨none,.mv (.var 14),some (.tmp 9,true)⟩,⟨none,.lenSl (.tmp 10),some (.tmp 9,true)⟩,⟨none,.bin .eql (.tmp 11) (.cst (.int .i64 5)),some (.tmp 9,true)⟩,⟨none,.pick (.tmp 9) (.tmp 12) (.cst (.bool false)),none⟩,⟨none,.mv (.tmp 13),none⟩,⟨none,.mv (.var 14),some (.tmp 14,true)⟩,⟨none,.indexSl 2 (.tmp 15) (.cst (.int .i64 0)),some (.tmp 14,true)⟩,⟨none,.load true 2 (.tmp 16),some (.tmp 14,true)⟩,⟨none,.build [.int .i64 0,.int .i64 0] [(1,(1,.cst (.int .i64 2)))],some (.tmp 14,true)⟩,⟨none,.eqAgg false [(0,1),(1,1)] (.tmp 17) (.tmp 18),some (.tmp 14,true)⟩,⟨none,.pick (.tmp 14) (.tmp 19) (.cst (.bool false)),none⟩,⟨none,.mv (.tmp 20),none⟩,⟨none,.mv (.var 17),some (.tmp 21,true)⟩,⟨none,.bin .eql (.tmp 22) (.cst (.int .i64 0)),some (.tmp 21,true)⟩,⟨none,.pick (.tmp 21) (.tmp 23) (.cst (.bool false)),none⟩,⟨none,.mv (.tmp 24),none⟩,⟨none,.mv (.var 16),some (.tmp 25,true)⟩,⟨none,.lenSl (.tmp 26),some (.tmp 25,true)⟩,⟨none,.bin .eql (.tmp 27) (.cst (.int .i64 8)),some (.tmp 25,true)⟩,⟨none,.pick (.tmp 25) (.tmp 28) (.cst (.bool false)),none⟩,⟨none,.mv (.tmp 29),none⟩,⟨none,.mv (.var 18),some (.tmp 30,true)⟩,⟨none,.bin .eql (.tmp 31) (.cst (.int .i64 140)),some (.tmp 30,true)⟩,⟨none,.pick (.tmp 30) (.tmp 32) (.cst (.bool false)),none⟩,⟨some 0,.mv (.tmp 33),none⟩]) .ret))))))))))))),[.tmp 0]⟩
theorem Hc:aE Try.prog Try.f11 0 [0,1,2,3,5,6,7,8,9,10,11,13,14,15,16,17,18,19,21,22] [] true ([],[])=some LV:=by kernel_rfl
theorem at11:Try.prog.funcs[11]?=some Try.f11:=by kernel_rfl
def IW:cB:=⟨1,6,.seq (.region [⟨some 1,.box (.var 0),none⟩,⟨some 2,.alloc 5 (.agg [.nilS,.int .i64 0,.int .i64 0,.int .i64 0,.int .i64 0]),none⟩,⟨some 3,.mv (.cst .nilS),none⟩,⟨some 4,.mv (.cst (.int .i64 0)),none⟩]) (.seq (.region [⟨none,.fieldAddr 0 (.var 1),none⟩,⟨none,.load false 1 (.tmp 0),none⟩,⟨none,.fieldAddr 1 (.var 1),none⟩,⟨none,.load true 3 (.tmp 2),none⟩,⟨none,.call (.fn 27) [.tmp 1,.tmp 3],none⟩,⟨some 5,.alloc 5 (.agg [.nilS,.int .i64 0,.int .i64 0,.int .i64 0,.int .i64 0]),none⟩,⟨none,.store 5 (.var 5) (.tmp 4),none⟩]) (.seq (.region [⟨none,.load true 5 (.var 5),none⟩,⟨none,.load true 5 (.var 5),none⟩,⟨none,.fieldAddr 4 (.var 1),none⟩,⟨none,.load false 1 (.tmp 2),none⟩,⟨none,.call (.fn 28) [.tmp 1,.tmp 3],none⟩,⟨none,.fieldAddr 5 (.var 1),none⟩,⟨none,.load false 1 (.tmp 5),none⟩,⟨none,.call (.fn 21) [.tmp 6,.cst (.int .i64 60)],none⟩,⟨none,.store 5 (.var 2) (.tmp 0),none⟩,⟨some 3,.mv (.tmp 4),none⟩,⟨some 4,.mv (.tmp 7),none⟩]) .ret)),[.cell 2 true 5,.tmp 3,.tmp 4]⟩
theorem Ha:aE Try.prog Try.f13 1 [0,1,2,3,4,5] [28,21] true ([],[])=some IW:=by kernel_rfl
theorem at13:Try.prog.funcs[13]?=some Try.f13:=by kernel_rfl
def iR:MC:=.seq (.seq (.region [⟨none,.mv (.var 3),none⟩,⟨none,.mv (.var 0),none⟩,⟨none,.lenSl (.tmp 1),none⟩,⟨some 5,.bin .lss (.tmp 0) (.tmp 2),none⟩]) (.cond (.var 5) .skip (.exit 0))) (.seq (.seq (.block 1 (.seq (.region [⟨none,.mv (.var 0),none⟩,⟨none,.mv (.var 3),none⟩,⟨none,.indexSl 2 (.tmp 0) (.tmp 1),none⟩,⟨none,.load true 2 (.tmp 2),none⟩,⟨none,.mv (.var 1),none⟩,⟨none,.mv (.var 3),none⟩,⟨none,.indexSl 2 (.tmp 4) (.tmp 5),none⟩,⟨none,.load true 2 (.tmp 6),none⟩,⟨some 6,.eqAgg true [(0,1),(1,1)] (.tmp 3) (.tmp 7),none⟩]) (.cond (.var 6) (.seq (.region [⟨some 2,.mv (.cst (.bool false)),none⟩]) .ret) .skip))) (.kill [2,4,5,6])) (.region [⟨none,.mv (.var 3),none⟩,⟨none,.bin .add (.tmp 0) (.cst (.int .i64 1)),none⟩,⟨some 3,.mv (.tmp 1),none⟩]))
def pQ:cB:=⟨2,7,.seq (.region [⟨some 2,.mv (.cst (.bool false)),none⟩]) (.seq (.seq (.region [⟨none,.mv (.var 0),none⟩,⟨none,.lenSl (.tmp 0),none⟩,⟨none,.mv (.var 1),none⟩,⟨none,.lenSl (.tmp 2),none⟩,⟨some 4,.bin .neq (.tmp 1) (.tmp 3),none⟩]) (.cond (.var 4) (.seq (.region [⟨some 2,.mv (.cst (.bool false)),none⟩]) .ret) .skip)) (.seq (.seq (.region [⟨some 3,.mv (.cst (.int .i64 0)),none⟩]) (.seq (.block 0 (.loop [2,4,5,6] iR)) (.kill [0,1,2,3,4,5,6]))) (.seq (.region [⟨some 2,.mv (.cst (.bool true)),none⟩]) .ret))),[.tmp 2]⟩
def ik:List Nat:=[2,4,5,6]
abbrev lh (v0 v1 v3:AV):List AV:=[v0,v1,.undef,v3,.undef,.undef,.undef]
theorem Cn {v0 v1 d2 v3 d4 d5 d6:AV}:clear ik [v0,v1,d2,v3,d4,d5,d6]=lh v0 v1 v3:=rfl
theorem BR {E:Env} {fuel:Nat} {A:aa} {o:Out} {k:List KC} {v0 v1 d2 v3 d4 d5 d6:AV} (h:b8 (evC E fuel iR) ik fuel (lh v0 v1 v3) A=some o) :
  run E fuel (.code (.loop [2,4,5,6] iR) :: k) [v0,v1,d2,v3,d4,d5,d6] A=after E fuel k o:=aU ik _ _ (by rw [Cn]; exact h)
theorem su:aE Try.prog Try.f16 2 [0,1,4,5,10,14,25] [] true ([[2,4,5,6]],[[2,4,5,6],[0,1,2,3,4,5,6]])=some pQ:=by kernel_rfl
theorem Hn:Try.prog.funcs[16]?=some Try.f16:=by kernel_rfl
def ER:cB:=⟨2,4,.seq (.region [⟨some 2,.mv (.cst (.int .i64 0)),none⟩]) (.seq (.seq (.region [⟨none,.mv (.var 0),none⟩,⟨some 3,.bin .lss (.tmp 0) (.cst (.int .i64 0)),none⟩]) (.cond (.var 3) (.region [⟨none,.mv (.var 0),none⟩,⟨none,.bin .add (.tmp 0) (.cst (.int .i64 1)),none⟩,⟨none,.un .neg (.tmp 1),none⟩,⟨some 0,.mv (.tmp 2),none⟩]) .skip)) (.seq (.region [⟨none,.mv (.var 0),none⟩,⟨none,.mv (.var 1),none⟩,⟨none,.bin .rem (.tmp 0) (.tmp 1),none⟩,⟨some 2,.mv (.tmp 2),none⟩]) .ret)),[.tmp 2]⟩
theorem B9:aE Try.prog Try.f21 2 [0,1,4,6] [] true ([],[])=some ER:=by kernel_rfl
theorem Mp:Try.prog.funcs[21]?=some Try.f21:=by kernel_rfl
def zP:cB:=⟨1,3,.seq (.region [⟨some 1,.box (.var 0),none⟩,⟨some 2,.mv (.cst (.int .i64 0)),none⟩]) (.seq (.region [⟨none,.fieldAddr 1 (.var 1),none⟩,⟨none,.load false 1 (.tmp 0),none⟩,⟨none,.fieldAddr 3 (.var 1),none⟩,⟨none,.load false 1 (.tmp 2),none⟩,⟨none,.bin .add (.tmp 1) (.tmp 3),none⟩,⟨none,.fieldAddr 2 (.var 1),none⟩,⟨none,.load false 1 (.tmp 5),none⟩,⟨none,.bin .add (.tmp 4) (.tmp 6),none⟩,⟨some 2,.mv (.tmp 7),none⟩]) .ret),[.tmp 2]⟩
theorem yE:aE Try.prog Try.f22 1 [0,1,2] [] true ([],[])=some zP:=by kernel_rfl
theorem Lk:Try.prog.funcs[22]?=some Try.f22:=by kernel_rfl
def rJ:cB:=⟨0,1,.seq (.region [⟨some 0,.alloc 5 (.agg [.nilS,.int .i64 0,.int .i64 0,.int .i64 0,.int .i64 0]),none⟩]) (.seq (.region [⟨none,.build [.int .i64 0,.int .i64 0] [(0,(1,.cst (.int .i64 20))),(1,(1,.cst (.int .i64 12)))],none⟩,⟨none,.build [.int .i64 0,.int .i64 0] [(0,(1,.cst (.int .i64 30))),(1,(1,.cst (.int .i64 12)))],none⟩,⟨none,.buildSlice 2 [.tmp 0,.tmp 1],none⟩,⟨none,.build [.nilS,.int .i64 0,.int .i64 0,.int .i64 0,.int .i64 0] [(0,(1,.tmp 2)),(1,(1,.cst (.int .i64 1))),(2,(1,.cst (.int .i64 1))),(3,(1,.cst (.int .i64 2))),(4,(1,.cst (.int .i64 1)))],none⟩,⟨none,.store 5 (.var 0) (.tmp 3),none⟩]) .ret),[.cell 0 true 5]⟩
theorem ss:aE Try.prog Try.f26 0 [0] [] true ([],[])=some rJ:=by kernel_rfl
theorem Hm:Try.prog.funcs[26]?=some Try.f26:=by kernel_rfl
def eg:MC:=.seq (.seq (.region [⟨none,.mv (.var 5),none⟩,⟨none,.mv (.var 0),none⟩,⟨none,.lenSl (.tmp 1),none⟩,⟨none,.minmax false (.tmp 2) [.cst (.int .i64 4)],none⟩,⟨none,.minmax true (.cst (.int .i64 1)) [.tmp 3],none⟩,⟨some 7,.bin .lss (.tmp 0) (.tmp 4),none⟩]) (.cond (.var 7) .skip (.exit 0))) (.seq (.seq (.block 1 (.seq (.region [⟨none,.build [.int .i64 0,.int .i64 0] [(0,(1,.cst (.int .i64 20))),(1,(1,.cst (.int .i64 30)))],none⟩,⟨some 6,.alloc 2 (.agg [.int .i64 0,.int .i64 0]),none⟩,⟨none,.store 2 (.var 6) (.tmp 0),none⟩]) (.seq (.seq (.region [⟨none,.mv (.var 5),none⟩,⟨none,.mv (.var 0),none⟩,⟨none,.lenSl (.tmp 1),none⟩,⟨some 8,.bin .lss (.tmp 0) (.tmp 2),none⟩]) (.cond (.var 8) (.seq (.region [⟨none,.mv (.var 0),none⟩,⟨none,.mv (.var 5),none⟩,⟨none,.indexSl 2 (.tmp 0) (.tmp 1),none⟩,⟨none,.indexArr 2 1 (.tmp 2) (.cst (.int .i64 0)),none⟩,⟨none,.load false 1 (.tmp 3),none⟩,⟨none,.call (.fn 50) [.tmp 4,.cst (.int .i64 60)],none⟩,⟨none,.fieldAddr 0 (.var 6),none⟩,⟨none,.store 1 (.tmp 6) (.tmp 5),none⟩]) (.seq (.region [⟨none,.mv (.var 0),none⟩,⟨none,.mv (.var 5),none⟩,⟨none,.indexSl 2 (.tmp 0) (.tmp 1),none⟩,⟨none,.indexArr 2 1 (.tmp 2) (.cst (.int .i64 1)),none⟩,⟨none,.load false 1 (.tmp 3),none⟩,⟨none,.call (.fn 50) [.tmp 4,.cst (.int .i64 50)],none⟩,⟨none,.fieldAddr 1 (.var 6),none⟩,⟨none,.store 1 (.tmp 6) (.tmp 5),none⟩]) (.seq (.region [⟨none,.mv (.var 0),none⟩,⟨none,.mv (.var 5),none⟩,⟨none,.indexSl 2 (.tmp 0) (.tmp 1),none⟩,⟨none,.indexArr 2 1 (.tmp 2) (.cst (.int .i64 1)),none⟩,⟨none,.load false 1 (.tmp 3),none⟩,⟨none,.bin .quo (.tmp 4) (.cst (.int .i64 50)),none⟩,⟨none,.call (.fn 50) [.tmp 5,.cst (.int .i64 3)],none⟩,⟨some 9,.bin .eql (.tmp 6) (.cst (.int .i64 0)),none⟩]) (.cond (.var 9) (.region [⟨none,.fieldAddr 1 (.var 6),none⟩,⟨none,.load false 1 (.tmp 0),none⟩,⟨none,.bin .add (.tmp 1) (.cst (.int .i64 200)),none⟩,⟨none,.fieldAddr 1 (.var 6),none⟩,⟨none,.store 1 (.tmp 3) (.tmp 2),none⟩]) .skip)))) .skip)) (.region [⟨none,.fieldAddr 0 (.var 4),none⟩,⟨none,.load false 1 (.tmp 0),none⟩,⟨none,.load true 2 (.var 6),none⟩,⟨none,.buildF 2 [.tmp 2],none⟩,⟨none,.append 2 16 (.tmp 1) (.tmp 3),none⟩,⟨none,.fieldAddr 0 (.var 4),none⟩,⟨none,.store 1 (.tmp 5) (.tmp 4),none⟩])))) (.kill [1,2,6,7,8,9])) (.region [⟨none,.mv (.var 5),none⟩,⟨none,.bin .add (.tmp 0) (.cst (.int .i64 1)),none⟩,⟨some 5,.mv (.tmp 1),none⟩]))
def Au:cB:=⟨2,10,.seq (.region [⟨some 2,.box (.var 1),none⟩,⟨some 3,.alloc 5 (.agg [.nilS,.int .i64 0,.int .i64 0,.int .i64 0,.int .i64 0]),none⟩]) (.seq (.regionD [50] [⟨none,.indexArr 3 1 (.var 2) (.cst (.int .i64 0)),none⟩,⟨none,.load false 1 (.tmp 0),none⟩,⟨none,.call (.fn 50) [.tmp 1,.cst (.int .i64 4)],none⟩,⟨none,.indexArr 3 1 (.var 2) (.cst (.int .i64 1)),none⟩,⟨none,.load false 1 (.tmp 3),none⟩,⟨none,.call (.fn 50) [.tmp 4,.cst (.int .i64 4)],none⟩,⟨none,.indexArr 3 1 (.var 2) (.cst (.int .i64 2)),none⟩,⟨none,.load false 1 (.tmp 6),none⟩,⟨none,.call (.fn 50) [.tmp 7,.cst (.int .i64 5)],none⟩,⟨none,.build [.nilS,.int .i64 0,.int .i64 0,.int .i64 0,.int .i64 0] [(4,(1,.cst (.int .i64 1))),(1,(1,.tmp 2)),(2,(1,.tmp 5)),(3,(1,.tmp 8))],none⟩,⟨some 4,.alloc 5 (.agg [.nilS,.int .i64 0,.int .i64 0,.int .i64 0,.int .i64 0]),none⟩,⟨none,.store 5 (.var 4) (.tmp 9),none⟩] [(0,10),(1,10),(2,10),(3,10),(4,10),(5,10),(6,10),(7,10),(8,10)]) (.seq (.seq (.region [⟨some 5,.mv (.cst (.int .i64 0)),none⟩]) (.seq (.block 0 (.loop [1,2,6,7,8,9] eg)) (.kill [0,1,2,5,6,7,8,9]))) (.seq (.region [⟨none,.load true 5 (.var 4),none⟩,⟨none,.store 5 (.var 3) (.tmp 0),none⟩]) .ret))),[.cell 3 true 5]⟩
def mK:List Nat:=[1,2,6,7,8,9]
abbrev pE (v0 v3 v4 v5:AV):List AV:=[v0,.undef,.undef,v3,v4,v5,.undef,.undef,.undef,.undef]
theorem yO {v0 d1 d2 v3 v4 v5 d6 d7 d8 d9:AV}:clear mK [v0,d1,d2,v3,v4,v5,d6,d7,d8,d9]=pE v0 v3 v4 v5:=rfl
theorem Gr {E:Env} {fuel:Nat} {A:aa} {o:Out} {k:List KC} {v0 d1 d2 v3 v4 v5 d6 d7 d8 d9:AV} (h:b8 (evC E fuel eg) mK fuel (pE v0 v3 v4 v5) A=some o) :
  run E fuel (.code (.loop [1,2,6,7,8,9] eg) :: k) [v0,d1,d2,v3,v4,v5,d6,d7,d8,d9] A=after E fuel k o:=aU mK _ _ (by rw [yO]; exact h)
theorem yC:aE Try.prog Try.f27 2 [0,1,3,4,5,6,7,23,30,52] [50] true ([[1,2,6,7,8,9]],[[1,2,6,7,8,9],[0,1,2,5,6,7,8,9]])=some Au:=by kernel_rfl
theorem Li:Try.prog.funcs[27]?=some Try.f27:=by kernel_rfl
def jR:MC:=.seq (.seq (.region [⟨none,.mv (.var 5),none⟩,⟨none,.mv (.var 4),none⟩,⟨none,.lenSl (.tmp 1),none⟩,⟨some 6,.bin .lss (.tmp 0) (.tmp 2),none⟩]) (.cond (.var 6) .skip (.exit 0))) (.seq (.seq (.block 1 (.seq (.region [⟨none,.mv (.var 4),none⟩,⟨none,.mv (.var 5),none⟩,⟨none,.indexSl 1 (.tmp 0) (.tmp 1),none⟩,⟨none,.store 1 (.tmp 2) (.cst (.int .i64 (-1))),none⟩]) (.seq (.region [⟨none,.mv (.var 5),none⟩,⟨none,.mv (.var 1),none⟩,⟨none,.lenSl (.tmp 1),none⟩,⟨none,.bin .lss (.tmp 0) (.tmp 2),none⟩,⟨none,.mv (.tmp 3),none⟩,⟨none,.mv (.var 1),some (.tmp 4,true)⟩,⟨none,.mv (.var 5),some (.tmp 4,true)⟩,⟨none,.indexSl 1 (.tmp 5) (.tmp 6),some (.tmp 4,true)⟩,⟨none,.load false 1 (.tmp 7),some (.tmp 4,true)⟩,⟨none,.call (.fn 50) [.tmp 8,.cst (.int .i64 4)],some (.tmp 4,true)⟩,⟨none,.bin .gtr (.tmp 9) (.cst (.int .i64 0)),some (.tmp 4,true)⟩,⟨some 7,.pick (.tmp 4) (.tmp 10) (.cst (.bool false)),none⟩]) (.cond (.var 7) (.region [⟨none,.mv (.var 4),none⟩,⟨none,.mv (.var 5),none⟩,⟨none,.mv (.var 1),none⟩,⟨none,.mv (.var 5),none⟩,⟨none,.indexSl 1 (.tmp 2) (.tmp 3),none⟩,⟨none,.load false 1 (.tmp 4),none⟩,⟨none,.bin .quo (.tmp 5) (.cst (.int .i64 4)),none⟩,⟨none,.call (.fn 50) [.tmp 6,.cst (.int .i64 120)],none⟩,⟨none,.indexSl 1 (.tmp 0) (.tmp 1),none⟩,⟨none,.store 1 (.tmp 8) (.tmp 7),none⟩]) .skip)))) (.kill [0,2,3,6,7])) (.region [⟨none,.mv (.var 5),none⟩,⟨none,.bin .add (.tmp 0) (.cst (.int .i64 1)),none⟩,⟨some 5,.mv (.tmp 1),none⟩]))
def IV:cB:=⟨2,8,.seq (.region [⟨some 2,.box (.var 0),none⟩,⟨some 3,.mv (.cst .nilS),none⟩]) (.seq (.region [⟨none,.fieldAddr 0 (.var 2),none⟩,⟨none,.load false 1 (.tmp 0),none⟩,⟨none,.lenSl (.tmp 1),none⟩,⟨none,.makeSlice 1 8 (.int .i64 0) (.tmp 2) (.tmp 2),none⟩,⟨some 4,.mv (.tmp 3),none⟩]) (.seq (.seq (.region [⟨some 5,.mv (.cst (.int .i64 0)),none⟩]) (.seq (.block 0 (.loop [0,2,3,6,7] jR)) (.kill [0,1,2,3,5,6,7]))) (.seq (.region [⟨none,.mv (.var 4),none⟩,⟨some 3,.mv (.tmp 0),none⟩]) .ret))),[.tmp 3]⟩
def mJ:List Nat:=[0,2,3,6,7]
abbrev pD (v1 v4 v5:AV):List AV:=[.undef,v1,.undef,.undef,v4,v5,.undef,.undef]
theorem yM {d0 v1 d2 d3 v4 v5 d6 d7:AV}:clear mJ [d0,v1,d2,d3,v4,v5,d6,d7]=pD v1 v4 v5:=rfl
theorem Gq {E:Env} {fuel:Nat} {A:aa} {o:Out} {k:List KC} {d0 v1 d2 d3 v4 v5 d6 d7:AV} (h:b8 (evC E fuel jR) mJ fuel (pD v1 v4 v5) A=some o) :
  run E fuel (.code (.loop [0,2,3,6,7] jR) :: k) [d0,v1,d2,d3,v4,v5,d6,d7] A=after E fuel k o:=aU mJ _ _ (by rw [yM]; exact h)
theorem G6:aE Try.prog Try.f28 2 [0,1,2,4,5,6,14,31] [] true ([[0,2,3,6,7]],[[0,2,3,6,7],[0,1,2,3,5,6,7]])=some IV:=by kernel_rfl
theorem at28:Try.prog.funcs[28]?=some Try.f28:=by kernel_rfl
def DW:cB:=⟨2,4,.seq (.region [⟨some 2,.mv (.cst (.int .i64 0)),none⟩]) (.seq (.seq (.region [⟨none,.mv (.var 0),none⟩,⟨some 3,.bin .lss (.tmp 0) (.cst (.int .i64 0)),none⟩]) (.cond (.var 3) (.region [⟨none,.mv (.var 0),none⟩,⟨none,.bin .add (.tmp 0) (.cst (.int .i64 1)),none⟩,⟨none,.un .neg (.tmp 1),none⟩,⟨some 0,.mv (.tmp 2),none⟩]) .skip)) (.seq (.region [⟨none,.mv (.var 0),none⟩,⟨none,.mv (.var 1),none⟩,⟨none,.bin .rem (.tmp 0) (.tmp 1),none⟩,⟨some 2,.mv (.tmp 2),none⟩]) .ret)),[.tmp 2]⟩
theorem ym:aE Try.prog Try.f50 2 [0,1,4,6] [] true ([],[])=some DW:=by kernel_rfl
theorem K7:Try.prog.funcs[50]?=some Try.f50:=by kernel_rfl
end Tr
namespace Tr
open Go
open Cy (GC aL bc aB)
open Clu (aR a6 au chA aS dA ce da)
def M16:aP:=fun args=>evP (ax GC []) 300 pQ 1 args
theorem lr:aq Try.prog GC 16 M16:=aq.of_ev (E:=ax GC []) (aw az) rfl Hn su 1 fun _ _ h=>⟨300,h⟩
theorem qk {xs ys:List cS} {a b:AV} (ha:SlA 2 (xs.map aX) a) (hb:SlA 2 (ys.map aX) b) (hl:xs.length<=200) (hl2:ys.length<=200):M16 [a,b]=some (.bool (decide (xs=ys))):=by
 have hla:=ha.len
 have hlb:=hb.len
 rw [List.length_map] at hla hlb
 have b0:ag .neq (.int .i64 (xs.length:Int)) (.int .i64 (ys.length:Int))=some (.bool (decide (xs.length≠ys.length))):=by
  rw [da]
  congr 2
  exact decide_eq_decide.2 (by omega)
 by_cases h0:xs.length≠ys.length
 ·rw [decide_eq_true h0] at b0
  rw [decide_eq_false (fun h=>h0 (by rw [h]))]
  unfold M16
  rw [aI _ _ rfl]
  simp [pQ,hla,hlb,b0,-ag,-an]
 have h0:xs.length=ys.length:=Classical.not_not.1 h0
 rw [decide_eq_false (by omega)] at b0
 have round:∀(A:aa) (i:Nat) (hi:i<xs.length),run (ax GC []) 300 [.code iR] (lh a b (.int .i64 (i:Int))) A =
   if xs[i]=ys[i]'(by omega) then some (.normal (lh a b (.int .i64 ((i+1:Nat):Int))) A) else some (.ret [a,b,.bool false,.int .i64 (i:Int),.undef,.bool true,.bool true] A):=fun A i hi=>by
  have x1:=ha.index (A:=A) (x:=aX xs[i]) (i:=i) (by simp [hi]) rfl (by omega) .i64
  have x2:=hb.index (A:=A) (x:=aX (ys[i]'(by omega))) (i:=i) (by simp [show i<ys.length by omega]) rfl (by omega) .i64
  obtain ⟨p,hp⟩:∃p,p=xs[i]:=⟨_,rfl⟩
  obtain ⟨q,hq⟩:∃q,q=ys[i]'(by omega):=⟨_,rfl⟩
  rw [<-hp] at x1 ⊢
  rw [<-hq] at x2 ⊢
  have ea:gf true [(0,1),(1,1)] (aX p) (aX q)=some (.bool (decide (p≠q))):=by
   obtain ⟨a1,a2⟩:=p
   obtain ⟨c1,c2⟩:=q
   simp only [aX,gf,oy,eqK]
   by_cases e1:a1=c1 <;> by_cases e2:a2=c2 <;> simp [e1,e2]
  have b1:=br i xs.length .i64
  rw [decide_eq_true hi] at b1
  have b3:=a9 i (by omega)
  have l1:∀z:cS,ac true 2 A (.fp (cellsOf (aX z)))=some (aX z):=fun z=>rfl
  obtain ⟨P,hP⟩:∃P,P=cellsOf (aX p):=⟨_,rfl⟩
  obtain ⟨Q,hQ⟩:∃P,P=cellsOf (aX q):=⟨_,rfl⟩
  have l2:=l1 p
  have l3:=l1 q
  rw [<-hP] at x1 l2
  rw [<-hQ] at x2 l3
  obtain ⟨i1,hi1⟩:∃i1:Nat,i1=i+1:=⟨_,rfl⟩
  rw [<-hi1] at b3 ⊢
  by_cases hd:p=q
  ·rw [decide_eq_false (by simpa using hd)] at ea
   rw [if_pos hd]
   simp [iR,hla,x1,x2,l2,l3,ea,b1,b3,-ag,-ai,-an,-ac,-gf]
  ·rw [decide_eq_true (by simpa using hd)] at ea
   rw [if_neg hd]
   simp [iR,hla,x1,x2,l2,l3,ea,b1,-ag,-ai,-an,-ac,-gf]
 have bE:=br xs.length xs.length .i64
 rw [decide_eq_false (by omega)] at bE
 unfold M16
 rw [aI _ _ rfl]
 rcases cP (E:=ax GC []) (fuel:=300) (a:=iR) (mask:=ik) (fun i=>lh a b (.int .i64 (i:Int))) (fun _=>[]) xs.length (fun i=>¬ ∀(hi:i<xs.length),xs[i]=ys[i]'(by omega))
  (oF:=fun i=>.ret [a,b,.bool false,.int .i64 (i:Int),.undef,.bool true,.bool true] []) (oE:=.exit 0 ((lh a b (.int .i64 (xs.length:Int))).set 5 (.bool false)) [])
  (fun _=>Cn) (fun _ _ _ h=>by cases h) (fun _ _ h=>by cases h)
  (fun i hi hp=>by
   rw [round [] i hi]
   exact if_pos (Classical.not_not.1 hp hi))
  (fun i hi hp=>by
   rw [round [] i hi]
   exact if_neg fun h=>hp fun _=>h)
  (by simp [iR,hla,bE,-ag,-an]) (show xs.length<300 by omega) with ⟨i,hi,hp,hj,lp⟩ | ⟨hp,lp⟩
 ·have lp:b8 (evC (ax GC []) 300 iR) ik 300 (lh a b (.int .i64 0)) []=_:=lp
  rw [decide_eq_false (fun h=>hp (fun _=>by subst h; rfl))]
  simp [pQ,hla,hlb,b0,BR lp,-ag,-an]
 ·have lp:b8 (evC (ax GC []) 300 iR) ik 300 (lh a b (.int .i64 0)) []=_:=lp
  rw [decide_eq_true (List.ext_getElem h0 fun i h1 h2=>Classical.not_not.1 (hp i h1) h1)]
  simp [pQ,hla,hlb,b0,BR lp,-ag,-an]
theorem FF:DW=Cy.FZ:=rfl
theorem wU:aq Try.prog GC 50 Cy.M12:=by
 refine aq.of_ev (E:=ax GC []) (aw az) rfl K7 ym 1 ?_
 intro args r h
 unfold Cy.M12 at h
 split at h
 ·simp only [Option.ite_none_right_eq_some,Option.some.injEq] at h
  obtain ⟨⟨h1,h2⟩,rfl⟩:=h
  exact ⟨0,by rw [FF]; exact Cy.Mj _ _ _ h1 h2⟩
 ·cases h
end Tr
namespace Tr
open Go
open Cy (GC aL bc aB)
open Clu (aR a6 cH Chk au chA uH iC pn t1 nB aS bz da aV cE)
def M22:aP:=fun args=>evP (ax GC []) 300 zP 1 args
theorem uB:aq Try.prog GC 22 M22:=aq.of_ev (E:=ax GC []) (aw az) rfl Lk yE 1 fun _ _ h=>⟨300,h⟩
theorem zE {T:aR} (chv:AV) (hv:a6 T):M22 [au T chv]=some (.int .i64 (wT T)):=by
 obtain ⟨_,⟨h1,h2,h3⟩,_⟩:=hv
 have b1:ag .add (.int .i64 T.pick) (.int .i64 T.travel)=some (.int .i64 (T.pick+T.travel)):=aS (by omega)
 have b2:ag .add (.int .i64 (T.pick+T.travel)) (.int .i64 T.place)=some (.int .i64 (wT T)):=aS (by omega)
 unfold M22
 rw [aI _ _ rfl]
 simp [zP,au,b1,b2,-ag]
def M26:aP:=fun args=>evP (ax GC []) 300 rJ 4 args
theorem w6:aq Try.prog GC 26 M26:=aq.of_ev (E:=ax GC []) (aw az) rfl Hm ss 4 fun _ _ h=>⟨300,h⟩
abbrev Mn:AV:=.fs 2 [.agg [.int .i64 20,.int .i64 12],.agg [.int .i64 30,.int .i64 12]]
abbrev tA1:AV:=.agg [Mn,.int .i64 1,.int .i64 1,.int .i64 2,.int .i64 1]
theorem qj:M26 []=some tA1:=by
 unfold M26
 rw [aI _ _ rfl]
 simp [rJ]
def AO:List (FuncId × aG):=[(26,aD 4 M26),(14,aD 4 M14),(17,aD 4 M17),(23,aD 4 Clu.M22),(24,aD 4 M24),(25,aD 4 M25),(16,aD 4 M16)]
@[simp] theorem KO:aC AO 26=some (aD 4 M26):=rfl
@[simp] theorem KU:aC AO 14=some (aD 4 M14):=rfl
@[simp] theorem KS:aC AO 17=some (aD 4 M17):=rfl
@[simp] theorem KR:aC AO 23=some (aD 4 Clu.M22):=rfl
@[simp] theorem KQ:aC AO 24=some (aD 4 M24):=rfl
@[simp] theorem KP:aC AO 25=some (aD 4 M25):=rfl
@[simp] theorem KT:aC AO 16=some (aD 4 M16):=rfl
theorem Ds:∀f M,aC AO f=some M->aj Try.prog GC f M:=af (aj.of_pure w6 4) (af (aj.of_pure CX 4) (af (aj.of_pure uD 4) (af (aj.of_pure Clu.uB 4) (af (aj.of_pure w7 4) (af (aj.of_pure Bo 4) (af (aj.of_pure lr 4) az))))))
def M11:aP:=fun args=>match args with
 | []=>some (.bool true)
 | _=>none
abbrev i3 (a b c:Int):AV:=.fs 1 [.int .i64 a,.int .i64 b,.int .i64 c]
abbrev i2 (a b:Int):AV:=.fs 1 [.int .i64 a,.int .i64 b]
theorem uG {e:Nat} {x:AV} {xs:List AV} {v:AV} (h:SlA e (x :: xs) v):v=.fs e (x :: xs):=by
 rcases h with ⟨_,h⟩ | h
 ·cases h
 ·exact h
theorem dm0 {T:aR} {rd:List Int} {free:Int}:df T rd free 0=b7 T rd free:=oB T rd free
theorem Du (s:cH) (A:aa) (n:Nat):frz A (n+1) (uH s)=uH s:=by
 have k:=fun o=>(bg 1 (ak o)).frz (A:=A) n
 simp [uH,frz,k,aL]
open Classical in
theorem FA:aq Try.prog GC 11 M11:=by
 refine aq.of_ev (E:=ax GC AO) (aw Ds) rfl at11 Hc 1 ?_
 intro args r h
 unfold M11 at h
 split at h
 rotate_left
 ·cases h
 injection h with h; subst h
 refine ⟨0,?_⟩
 have h12:SlA 2 (t1.ch.map chA) Mn:=.inr rfl
 have hi:∀a b:Int,SlA 1 (ak [a,b]) (i2 a b):=fun a b=>.inr rfl
 obtain ⟨s,hs,hc,h1,h2,h3⟩:=Hi
 have sV:=nB hc
 obtain ⟨va,ma,ra⟩:=lY (free:=0) (lost:=0) h12 (hi 10 (-1)) (by decide) (by decide)
 rw [dm0,dr_a] at ma ra
 obtain ⟨vb,mb,rb⟩:=lY (free:=0) (lost:=0) h12 (hi 10 40) (by decide) (by decide)
 rw [dm0,Ml] at mb rb
 obtain ⟨vc,mc,rc⟩:=lY (free:=0) (lost:=0) h12 (hi 40 30) (by decide) (by decide)
 rw [dm0,Mk] at mc rc
 obtain ⟨vd,md,rd⟩:=lY (free:=0) (lost:=2) h12 (hi 10 40) (by decide) (by decide)
 rw [dr_d] at md rd
 have ea:=uG ra
 have ec:=uG rc
 have ed:=uG rd
 have ma:M14 [tA1,i2 10 (-1),.int .i64 0,.int .i64 0]=some (.tup [va,.bool true]):=ma
 have mb:M14 [tA1,i2 10 40,.int .i64 0,.int .i64 0]=some (.tup [vb,.bool false]):=mb
 have mc:M14 [tA1,i2 40 30,.int .i64 0,.int .i64 0]=some (.tup [vc,.bool true]):=mc
 have md:M14 [tA1,i2 10 40,.int .i64 0,.int .i64 2]=some (.tup [vd,.bool true]):=md
 have k1:=sO h12 (by decide) (hi 40 30) (by decide) 0 rc (by decide)
 rw [show (some [((2:Int),(30:Int)),(1,40),(2,74)]).getD []=[(2,30),(1,40),(2,74)] from rfl,Mm] at k1
 have k1:M17 [tA1,i2 40 30,.int .i64 0,vc]=some (.tup [.int .i64 78,.bool true]):=k1
 have k2:=sO h12 (by decide) (hi 40 30) (by decide) 0 (l:=[(2,30),(1,35)]) (.inr rfl) (by decide)
 rw [ck_d] at k2
 have k2:M17 [tA1,i2 40 30,.int .i64 0,.fs 2 [.agg [.int .i64 2,.int .i64 30],.agg [.int .i64 1,.int .i64 35]]]=some (.tup [.int .i64 0,.bool false]):=k2
 have e1:=qk ra (ys:=[(1,10),(2,44)]) (.inr rfl) (by decide) (by decide)
 have e1:M16 [va,.fs 2 [.agg [.int .i64 1,.int .i64 10],.agg [.int .i64 2,.int .i64 44]]]=some (.bool true):=e1
 have e2:=qk rd (ys:=[(1,10)]) (.inr rfl) (by decide) (by decide)
 have e2:M16 [vd,.fs 2 [.agg [.int .i64 1,.int .i64 10]]]=some (.bool true):=e2
 have b1:=Clu.zE h12 (by decide)
 rw [hs] at b1
 obtain ⟨P1,hP1⟩:∃P,P=slA 1 (ak s.proof):=⟨_,rfl⟩
 obtain ⟨z1,z2⟩:=Clu.gR s.proof
 rw [<-hP1] at z1 z2
 obtain ⟨S,hS⟩:∃S,S=AV.agg [.int .i64 40,i3 0 2 1,i3 0 24 18,P1]:=⟨_,rfl⟩
 have hSs:S=uH s:=by rw [hS,hP1]; unfold uH; rw [h1,h2,h3]; rfl
 have b1:Clu.M22 [tA1]=some (.tup [S,.int .i64 0]):=by rw [hSs]; exact b1
 have fS:∀A n,frz A (n+1) S=S:=fun A n=>by rw [hSs]; exact Du s A n
 obtain ⟨r,hr,hrl⟩:=B6 hc h1 h2 h3 0 (by omega)
 obtain ⟨vl,ml,rl⟩:=CB (free:=0) h12 (by decide) sV
 rw [hr] at ml rl
 have el:=uG rl
 have ml:M24 [tA1,S,.int .i64 0]=some (.tup [vl,.int .i64 0]):=by rw [hSs]; exact ml
 have lenl:vl=.fs 2 (.agg [.int .i64 0,.int .i64 2] :: r.map aX):=el
 obtain ⟨r2,hr2,hrl2⟩:=B6 hc h1 h2 h3 78 (by omega)
 have w1:iY t1 [40,30] 0 s=some ([(2,30),(1,40),(2,74)]++(0,78+2) :: r2):=by
  unfold iY
  rw [Mk,Option.bind_some,Mm,Option.getD_some,hr2]; rfl
 have w2:iY t1 [10,40] 0 s=none:=by
  unfold iY
  rw [Ml]; rfl
 obtain ⟨vm,mm,rm⟩:=Cz (free:=0) h12 (by decide) (hi 40 30) (by decide) sV
 rw [w1] at mm rm
 have lm:=rm.len
 rw [List.length_map] at lm
 have mm:M25 [tA1,i2 40 30,.int .i64 0,S]=some (.tup [vm,.int .i64 0]):=by rw [hSs]; exact mm
 have lm:an vm=some (.int .i64 8):=by
  rw [lm]
  simp [hrl2]
 obtain ⟨vn,mn,_⟩:=Cz (free:=0) h12 (by decide) (hi 10 40) (by decide) sV
 rw [w2] at mn
 have mn:M25 [tA1,i2 10 40,.int .i64 0,S]=some (.tup [vn,.int .i64 140]):=by rw [hSs]; exact mn
 have lc:an vc=some (.int .i64 3):=rc.len
 have ll:an vl=some (.int .i64 5):=by
  rw [rl.len]; simp [hrl]
 have xl:∀A,ai 2 A vl (.int .i64 0)=some (.fp [.int .i64 0,.int .i64 2]):=fun A=>rl.index (A:=A) (i:=0) (x:=aX (0,0+2)) rfl rfl (by omega) .i64
 have fa:∀A n,frz A n va=va:=fun A n=>ra.frz n
 have fb:∀A n,frz A n vb=vb:=fun A n=>rb.frz n
 have fc:∀A n,frz A n vc=vc:=fun A n=>rc.frz n
 have fd:∀A n,frz A n vd=vd:=fun A n=>rd.frz n
 clear ea ec ed el lenl
 clear rl rm ra rb rc rd
 have ft:∀A,frz A 4 tA1=tA1:=fun A=>aV (T:=t1) (fun A n=>h12.frz (A:=A) n) A 3
 have fi:∀A a b,frz A 4 (i2 a b)=i2 a b:=fun A a b=>(hi a b).frz 4
 have fk:∀A,frz A 4 (.fs 2 [.agg [.int .i64 2,.int .i64 30],.agg [.int .i64 1,.int .i64 35]])=.fs 2 [.agg [.int .i64 2,.int .i64 30],.agg [.int .i64 1,.int .i64 35]]:=fun A=>rfl
 have fk2:∀A,frz A 4 (.fs 2 [.agg [.int .i64 1,.int .i64 10],.agg [.int .i64 2,.int .i64 44]])=.fs 2 [.agg [.int .i64 1,.int .i64 10],.agg [.int .i64 2,.int .i64 44]]:=fun A=>rfl
 have fk3:∀A,frz A 4 (.fs 2 [.agg [.int .i64 1,.int .i64 10]])=.fs 2 [.agg [.int .i64 1,.int .i64 10]]:=fun A=>rfl
 have fP1:∀A n,frz A n P1=P1:=fun A n=>by rw [hP1]; exact (bg 1 _).frz n
 have nP1:∀n,bq n P1=true:=fun n=>by rw [hP1]; exact (bg 1 _).noRef n
 have fS4:=fun A=>fS A 3
 clear hSs fS
 subst hS
 rw [aI _ _ rfl]
 simp [LV,qj,ma,mb,mc,md,k1,k2,e1,e2,b1,fS4,ft,fi,fk,fk2,fk3,nP1,aL,ml,mm,mn,lm,lc,ll,xl,fa,fc,fd,-frz,-ai,-an]
 rfl
end Tr
namespace Tr
open Go
open Cy (GC aL bc aB dt)
open Clu (aR a6 rf au chA aS dA ce da bz aV cE)
def nOf (ys:List (Int × Int)):Nat:=max 1 (min ys.length 4)
def yOf (ys:List (Int × Int)) (i:Nat):Int × Int:=ys.getD i (0,0)
def ID (z:Int):Int:=if pick (z.tdiv 50) 3=0 then pick z 50+200 else pick z 50
def chO (ys:List (Int × Int)) (i:Nat):Int × Int:=if i<ys.length then (pick (yOf ys i).1 60,ID (yOf ys i).2) else (20,30)
def mkT (ys:List (Int × Int)) (a b c:Int):aR:=⟨(List.range (nOf ys)).map (chO ys),pick a 4,pick b 4,pick c 5,1⟩
theorem sB (ys:List (Int × Int)) (i:Nat):(0<=(chO ys i).1/\(chO ys i).1<=59)/\0<=(chO ys i).2/\(chO ys i).2<=249:=by
 unfold chO ID
 have k1:=cC (yOf ys i).1 60 (by omega)
 have k2:=cC (yOf ys i).2 50 (by omega)
 split
 ·split <;> simp only <;> omega
 ·simp only; omega
theorem xu (ys:List (Int × Int)) (a b c:Int):(mkT ys a b c).ch.length=nOf ys:=by simp [mkT]
theorem rH (ys:List (Int × Int)):1<=nOf ys/\nOf ys<=4:=by unfold nOf; omega
theorem nP (ys:List (Int × Int)) (a b c:Int):a6 (mkT ys a b c)/\(mkT ys a b c).blades=1:=by
 have h1:=cC a 4 (by omega)
 have h2:=cC b 4 (by omega)
 have h3:=cC c 5 (by omega)
 have hn:=xu ys a b c
 have hb:=rH ys
 refine ⟨⟨fun c hc=>?_,⟨⟨?_,?_⟩,⟨?_,?_⟩,?_,?_⟩,?_,?_,.inl rfl⟩,rfl⟩
 ·obtain ⟨i,_,rfl⟩:=List.mem_map.1 hc
  have:=sB ys i
  unfold rf
  omega
 all_goals first | (rw [hn]; omega) | (simp only [mkT]; omega)
theorem jJ (ys:List (Int × Int)) (a b c:Int):(0<=(mkT ys a b c).pick/\(mkT ys a b c).pick<=3)/\(0<=(mkT ys a b c).place/\(mkT ys a b c).place<=3)/\(0<=(mkT ys a b c).travel/\(mkT ys a b c).travel<=4)/\∀d∈(mkT ys a b c).ch,(0<=d.1/\d.1<=59)/\0<=d.2/\d.2<=249:=by
 have h1:=cC a 4 (by omega)
 have h2:=cC b 4 (by omega)
 have h3:=cC c 5 (by omega)
 refine ⟨by simp only [mkT]; omega,by simp only [mkT]; omega,by simp only [mkT]; omega,fun d hd=>?_⟩
 obtain ⟨i,_,rfl⟩:=List.mem_map.1 hd
 exact sB ys i
def In (A:aa) (v:AV) (xs:List (Int × Int)):Prop:=(v=.nilS/\xs=[])\/∃id gr,v=.sl id 0 xs.length/\xs≠[]/\2<id/\A[id]?=some (.row 2 gr (xs.map chA))
structure I27 (A:aa) (xs:List (Int × Int)) (p q r:Int):Prop where
 o:A[1]?=some (.row 5 false [.agg [.nilS,.int .i64 0,.int .i64 0,.int .i64 0,.int .i64 0]])
 c:∃v,A[2]?=some (.row 5 false [.agg [v,.int .i64 p,.int .i64 q,.int .i64 r,.int .i64 1]])/\In A v xs
def gI:List (FuncId × aG):=[(50,aD 4 Cy.M12)]
@[simp] theorem JQ:aC gI 50=some (aD 4 Cy.M12):=rfl
theorem qq:∀f M,aC gI f=some M->aj Try.prog GC f M:=af (aj.of_pure wU 4) az
theorem nX {A:aa} {id i:Nat} {k:Nat} {es:List AV} {x:AV} (h:A[id]?=some (.row k false [.agg es])) (hx:es[i]?=some x):ac false 1 A (.ptr id 0 i)=some x:=by
 simp [ac,h,bP,hx]
theorem b27 (ys:List (Int × Int)):fj false (.int .i64 (ys.length:Int)) [.int .i64 4]=some (.int .i64 ((min ys.length 4:Nat):Int))/\fj true (.int .i64 1) [.int .i64 ((min ys.length 4:Nat):Int)]=some (.int .i64 (nOf ys:Int)):=by
 constructor
 ·have:=Ap ys.length 4 .i64 .i64
  simp only [fj]
  rw [show (.int .i64 4:AV)=.int .i64 ((4:Nat):Int) from rfl,this]
 ·have:=Av 1 (min ys.length 4) .i64 .i64
  simp only [fj]
  rw [show (.int .i64 1:AV)=.int .i64 ((1:Nat):Int) from rfl,this]
  rfl
theorem xk {a b:Int} (ha:inI a) (hb:2<=b/\b<=9223372036854775807):ag .quo (.int .i64 a) (.int .i64 b)=some (.int .i64 (a.tdiv b))/\inI (a.tdiv b):=by
 have h1:(a.tdiv b).natAbs<=a.natAbs:=by rw [Int.natAbs_tdiv]; exact Nat.div_le_self _ _
 have hr:inI (a.tdiv b):=by
  unfold inI at *
  have h2:(a.tdiv b).natAbs<=a.natAbs / 2:=by
   rw [Int.natAbs_tdiv]
   exact Nat.div_le_div_left (by omega) (by omega)
  omega
 refine ⟨?_,hr⟩
 have hw:=dY hr
 simp only [ag]
 rw [if_pos trivial,if_neg (by omega),hw]
theorem tA {A:aa} {ys:List (Int × Int)} (hys:∀y∈ys,inI y.1/\inI y.2) {yv:AV} (hy:SlA 2 (ys.map chA) yv) {xs:List (Int × Int)} {p q r:Int} (hI:I27 A xs p q r) {i:Nat} (hi:i<nOf ys) (hxl:xs.length<=100) :
  ∃B,run (ax GC gI) 300 [.code eg] (pE yv (.ptr 1 0 0) (.ptr 2 0 0) (.int .i64 (i:Int))) A=some (.normal (pE yv (.ptr 1 0 0) (.ptr 2 0 0) (.int .i64 ((i+1:Nat):Int))) B)/\I27 B (xs++[chO ys i]) p q r:=by
 obtain ⟨h1,v,h2,hv⟩:=hI
 have n1:=(List.getElem?_eq_some_iff.1 h1).1
 have n2:=(List.getElem?_eq_some_iff.1 h2).1
 have hlen:=hy.len
 rw [List.length_map] at hlen
 obtain ⟨b0,b1⟩:=b27 ys
 have b2:=br i (nOf ys) .i64
 rw [decide_eq_true hi] at b2
 have b3:=br i ys.length .i64
 have b4:=a9 i (by have:=rH ys; omega)
 obtain ⟨N,hN⟩:∃n,n=A.length:=⟨_,rfl⟩
 have bx:aZ 2 (.agg [.int .i64 0,.int .i64 0]) A=some (.ptr N 0 0,A++[.row 2 false [.agg [.int .i64 0,.int .i64 0]]]):=by rw [hN]; rfl
 have s0:∀a b c d,aA 2 (A++[.row 2 false [.agg [.int .i64 a,.int .i64 b]]]) (.ptr N 0 0) (.agg [.int .i64 c,.int .i64 d])=some (A++[.row 2 false [.agg [.int .i64 c,.int .i64 d]]]):=fun a b c d=>by rw [hN]; simp [aA,bj]
 have f0:∀a b:Int,ab 0 (A++[.row 2 false [.agg [.int .i64 a,.int .i64 b]]]) (.ptr N 0 0)=some (.ptr N 0 0):=fun a b=>by rw [hN]; simp [ab]
 have f1:∀a b:Int,ab 1 (A++[.row 2 false [.agg [.int .i64 a,.int .i64 b]]]) (.ptr N 0 0)=some (.ptr N 0 1):=fun a b=>by rw [hN]; simp [ab]
 have t0:∀a b c,aA 1 (A++[.row 2 false [.agg [.int .i64 a,.int .i64 b]]]) (.ptr N 0 0) (.int .i64 c)=some (A++[.row 2 false [.agg [.int .i64 c,.int .i64 b]]]):=fun a b c=>by rw [hN]; simp [aA,bj]
 have t1:∀a b c,aA 1 (A++[.row 2 false [.agg [.int .i64 a,.int .i64 b]]]) (.ptr N 0 1) (.int .i64 c)=some (A++[.row 2 false [.agg [.int .i64 a,.int .i64 c]]]):=fun a b c=>by rw [hN]; simp [aA,bj]
 have l1:∀a b:Int,ac false 1 (A++[.row 2 false [.agg [.int .i64 a,.int .i64 b]]]) (.ptr N 0 1)=some (.int .i64 b):=fun a b=>by rw [hN]; exact nX (es:=[.int .i64 a,.int .i64 b]) (k:=2) (by simp) rfl
 have l2:∀a b:Int,ac true 2 (A++[.row 2 false [.agg [.int .i64 a,.int .i64 b]]]) (.ptr N 0 0)=some (.agg [.int .i64 a,.int .i64 b]):=fun a b=>by rw [hN]; simp [ac]
 have c0:∀X,ab 0 (A++X) (.ptr 2 0 0)=some (.ptr 2 0 0):=fun X=>by
  have:(A++X)[2]?=some (.row 5 false [.agg [v,.int .i64 p,.int .i64 q,.int .i64 r,.int .i64 1]]):=by rw [List.getElem?_append_left n2]; exact h2
  simp [ab,this]
 have cl:∀X,ac false 1 (A++X) (.ptr 2 0 0)=some v:=fun X=>nX (es:=[v,.int .i64 p,.int .i64 q,.int .i64 r,.int .i64 1]) (k:=5) (by rw [List.getElem?_append_left n2]; exact h2) rfl
 obtain ⟨P1,P2,hch⟩:∃P1 P2,chO ys i=(P1,P2):=⟨_,_,rfl⟩
 rw [hch]
 obtain ⟨A1,hA1⟩:∃X,X=A++[Ent.row 2 false [.agg [.int .i64 P1,.int .i64 P2]]]:=⟨_,rfl⟩
 have hl1:A1.length=A.length+1:=by rw [hA1]; simp
 have hA1o:∀j,j<A.length->A1[j]?=A[j]?:=fun j hj=>by rw [hA1,List.getElem?_append_left hj]
 obtain ⟨v',A2,e1,e2,e3,e4,e5⟩:∃v' A2,aM 2 16 A1 v (.fs 2 [.agg [.int .i64 P1,.int .i64 P2]])=some (v',A2)/\In A2 v' (xs++[(P1,P2)])/\(∀j,j<=2->A2[j]?=A[j]?)/\(∃a b,v'=.sl a 0 b/\2<a)/\2<A2.length:=by
  rcases hv with ⟨rfl,rfl⟩ | ⟨id,gr,rfl,hne,hid,hrow⟩
  ·refine ⟨.sl A1.length 0 1,A1++[.row 2 false [chA (P1,P2)]],by simp [aM,chA],.inr ⟨A1.length,false,rfl,by simp,by omega,by simp⟩,fun j hj=>?_,⟨_,_,rfl,by omega⟩,by simp; omega⟩
   rw [List.getElem?_append_left (by omega),hA1o j (by omega)]
  ·have hidl:=(List.getElem?_eq_some_iff.1 hrow).1
   have hz:xs.length≠0:=fun e=>hne (List.length_eq_zero_iff.1 e)
   have hb:(xs.length+1)*16<=140737488355328:=by omega
   have hrow1:A1[id]?=some (.row 2 gr (xs.map chA)):=by rw [hA1o id hidl]; exact hrow
   refine ⟨.sl id 0 (xs.length+1),A1.set id (.row 2 true (xs.map chA++[chA (P1,P2)])),by simp [aM,hrow1,hz,hb,chA],.inr ⟨id,true,by simp,by simp,hid,?_⟩,fun j hj=>?_,⟨_,_,rfl,hid⟩,by simp; omega⟩
   ·rw [List.getElem?_set_self (by omega),List.map_append]; rfl
   ·rw [List.getElem?_set_ne (by omega),hA1o j (by omega)]
 obtain ⟨ia,ib,rfl,hia⟩:=e4
 have c2:ab 0 A2 (.ptr 2 0 0)=some (.ptr 2 0 0):=by
  have:=e3 2 (by omega)
  rw [h2] at this
  simp [ab,this]
 have st:aA 1 A2 (.ptr 2 0 0) (.sl ia 0 ib)=some (A2.set 2 (.row 5 false [.agg [.sl ia 0 ib,.int .i64 p,.int .i64 q,.int .i64 r,.int .i64 1]])):=by
  have:=e3 2 (by omega)
  rw [h2] at this
  simp [aA,this,bj]
 refine ⟨A2.set 2 (.row 5 false [.agg [.sl ia 0 ib,.int .i64 p,.int .i64 q,.int .i64 r,.int .i64 1]]),?_,⟨by rw [List.getElem?_set_ne (by omega),e3 1 (by omega)]; exact h1,.sl ia 0 ib,by rw [List.getElem?_set_self e5],?_⟩⟩
 rotate_left
 ·rcases e2 with ⟨h,_⟩ | ⟨id,gr,e2,e6,e7,e8⟩
  ·cases h
  ·exact .inr ⟨id,gr,e2,e6,e7,by rw [List.getElem?_set_ne (by omega)]; exact e8⟩
 obtain ⟨B,hB⟩:∃X,X=A2.set 2 (.row 5 false [.agg [.sl ia 0 ib,.int .i64 p,.int .i64 q,.int .i64 r,.int .i64 1]]):=⟨_,rfl⟩
 rw [<-hB] at st ⊢
 have c1:=c0 [Ent.row 2 false [.agg [.int .i64 P1,.int .i64 P2]]]
 have cl1:=cl [Ent.row 2 false [.agg [.int .i64 P1,.int .i64 P2]]]
 have l2':=l2 P1 P2
 rw [<-hA1] at c1 cl1 l2'
 have hsl:be 2 [.agg [.int .i64 P1,.int .i64 P2]]=some (.fs 2 [.agg [.int .i64 P1,.int .i64 P2]]):=rfl
 obtain ⟨ii,hii⟩:∃n,n=i+1:=⟨_,rfl⟩
 rw [<-hii] at b4 ⊢
 obtain ⟨nn,hnn⟩:∃n,n=nOf ys:=⟨_,rfl⟩
 rw [<-hnn] at b1 b2
 obtain ⟨mm,hmm⟩:∃n,n=min ys.length 4:=⟨_,rfl⟩
 rw [<-hmm] at b0 b1
 have A0d:∀a b,∃X,X=A++[Ent.row 2 false [.agg [.int .i64 a,.int .i64 b]]]:=fun a b=>⟨_,rfl⟩
 have u0:=s0 0 0 20 30
 obtain ⟨D0,hD0⟩:=A0d 0 0
 rw [<-hD0] at bx u0
 by_cases hc:i<ys.length
 ·rw [decide_eq_true hc] at b3
  obtain ⟨y,hye⟩:∃y,y=ys[i]:=⟨_,rfl⟩
  have hyy:yOf ys i=y:=by unfold yOf; rw [List.getD_eq_getElem?_getD,List.getElem?_eq_getElem hc,hye]; rfl
  have hyr:inI y.1/\inI y.2:=by rw [hye]; exact hys _ (List.getElem_mem hc)
  have yx:∀A,ai 2 A yv (.int .i64 (i:Int))=some (.fp [.int .i64 y.1,.int .i64 y.2]):=fun A=>by
   rw [hye]
   exact hy.index (A:=A) (x:=chA ys[i]) (by simp [hc]) rfl (by omega) .i64
  have y0:∀A,cJ 2 1 A (.fp [.int .i64 y.1,.int .i64 y.2]) (.int .i64 0)=some (.fp [.int .i64 y.1,.int .i64 y.2]):=fun A=>rfl
  have y1:∀A,cJ 2 1 A (.fp [.int .i64 y.1,.int .i64 y.2]) (.int .i64 1)=some (.fp [.int .i64 y.2]):=fun A=>rfl
  have z0:∀A,ac false 1 A (.fp [.int .i64 y.1,.int .i64 y.2])=some (.int .i64 y.1):=fun A=>rfl
  have z1:∀A,ac false 1 A (.fp [.int .i64 y.2])=some (.int .i64 y.2):=fun A=>rfl
  have m1:=dt hyr.1 (n:=60) (by omega)
  have m2:=dt hyr.2 (n:=50) (by omega)
  obtain ⟨q0,q1⟩:=xk hyr.2 (b:=50) (by omega)
  have m3:=dt q1 (n:=3) (by omega)
  have hcc:=hch
  unfold chO ID at hcc
  rw [if_pos hc,hyy] at hcc
  injection hcc with e1' e2'
  have r1:=cC y.2 50 (by omega)
  have b5:ag .add (.int .i64 (pick y.2 50)) (.int .i64 200)=some (.int .i64 (pick y.2 50+200)):=aS (by omega)
  have b6:=bz (pick (y.2.tdiv 50) 3) 0
  rw [e1'] at m1
  obtain ⟨S,hS⟩:∃S,S=pick y.2 50:=⟨_,rfl⟩
  rw [<-hS] at m2 e2' b5
  have u1:=f0 20 30
  have u2:=t0 20 30 P1
  have u3:=f1 P1 30
  have u4:=t1 P1 30 S
  obtain ⟨D1,hD1⟩:=A0d 20 30
  rw [<-hD1] at u0 u1 u2
  obtain ⟨D2,hD2⟩:=A0d P1 30
  rw [<-hD2] at u2 u3 u4
  generalize y.2.tdiv 50=Q at *
  generalize pick Q 3=R at *
  by_cases hR:R=0
  ·rw [if_pos hR] at e2'
   rw [decide_eq_true hR] at b6
   rw [e2'] at b5
   have u5:=f1 P1 S
   have u6:=l1 P1 S
   have u7:=t1 P1 S P2
   rw [<-hA1] at u7
   obtain ⟨D3,hD3⟩:=A0d P1 S
   rw [<-hD3] at u4 u5 u6 u7
   simp [eg,hlen,b0,b1,b2,b3,b4,b5,b6,bx,yx,y0,y1,z0,z1,u0,u1,u2,u3,u4,u5,u6,u7,q0,m1,m2,m3,hsl,c1,cl1,l2',e1,c2,st,aL,-fj,-gM,-ag,-ac,-aA,-ab,-ai,-an,-be,-aZ,-frz]
  ·rw [if_neg hR] at e2'
   rw [decide_eq_false hR] at b6
   subst e2'
   rw [<-hA1] at u4
   simp [eg,hlen,b0,b1,b2,b3,b4,b6,bx,yx,y0,y1,z0,z1,u0,u1,u2,u3,u4,q0,m1,m2,m3,hsl,c1,cl1,l2',e1,c2,st,aL,-fj,-gM,-ag,-ac,-aA,-ab,-ai,-an,-be,-aZ,-frz]
 ·rw [decide_eq_false hc] at b3
  have hcc:=hch
  unfold chO at hcc
  rw [if_neg hc] at hcc
  injection hcc with e1' e2'
  subst e1'; subst e2'
  rw [<-hA1] at u0
  simp [eg,hlen,b0,b1,b2,b3,b4,bx,u0,hsl,c1,cl1,l2',e1,c2,st,-fj,-gM,-ag,-ac,-aA,-ab,-ai,-an,-be,-aZ,-frz]
theorem F8 {ys:List (Int × Int)} (hys:∀y∈ys,inI y.1/\inI y.2) {yv:AV} (hy:SlA 2 (ys.map chA) yv) {p q r:Int}:∀(c i:Nat) (A:aa) (m:Nat),i+c=nOf ys->I27 A ((List.range i).map (chO ys)) p q r->c<m ->
  ∃B,b8 (evC (ax GC gI) 300 eg) mK m (pE yv (.ptr 1 0 0) (.ptr 2 0 0) (.int .i64 (i:Int))) A=some (.exit 0 ((pE yv (.ptr 1 0 0) (.ptr 2 0 0) (.int .i64 (nOf ys:Int))).set 7 (.bool false)) B)/\I27 B ((List.range (nOf ys)).map (chO ys)) p q r:=by
 have hn4:=rH ys
 intro c
 induction c with
 | zero=>
  intro i A m hi hI hm
  obtain ⟨m,rfl⟩:∃j,m=j+1:=⟨m-1,by omega⟩
  obtain rfl:i=nOf ys:=by omega
  refine ⟨A,?_,hI⟩
  have hlen:=hy.len
  rw [List.length_map] at hlen
  obtain ⟨b0,b1⟩:=b27 ys
  have b2:=br (nOf ys) (nOf ys) .i64
  rw [decide_eq_false (by omega)] at b2
  obtain ⟨mm,hmm⟩:∃n,n=min ys.length 4:=⟨_,rfl⟩
  rw [<-hmm] at b0 b1
  rw [aO,yO]
  simp [eg,hlen,b0,b1,b2,-ag,-fj,-gM,-an]
 | succ c ih=>
  intro i A m hi hI hm
  obtain ⟨m,rfl⟩:∃j,m=j+1:=⟨m-1,by omega⟩
  obtain ⟨B,h1,h2⟩:=tA hys hy hI (i:=i) (by omega) (by simp; omega)
  have e:(List.range i).map (chO ys)++[chO ys i]=(List.range (i+1)).map (chO ys):=by rw [List.range_succ,List.map_append]; rfl
  rw [e] at h2
  obtain ⟨C,h3,h4⟩:=ih (i+1) B m (by omega) h2 (by omega)
  refine ⟨C,?_,h4⟩
  rw [aO,yO,h1]
  exact h3
def M27:aP:=fun args=>evP (ax GC gI) 300 Au 4 args
theorem uA:aq Try.prog GC 27 M27:=aq.of_ev (E:=ax GC gI) (aw qq) rfl Li yC 4 fun _ _ h=>⟨300,h⟩
theorem A5 {A:aa} {v:AV} {xs:List (Int × Int)} (h:In A v xs) (k:Nat):frz A (k+3) v=slA 2 (xs.map chA):=by
 rcases h with ⟨rfl,rfl⟩ | ⟨id,gr,rfl,hne,_,hr⟩
 ·rfl
 ·have e:((xs.map chA).drop 0).take xs.length=xs.map chA:=by
   rw [List.drop_zero]
   conv=>lhs; rw [show xs.length=(xs.map chA).length by simp]
   rw [List.take_length]
  have hm:(xs.map chA).map (frz A (k+2))=xs.map chA:=by
   rw [List.map_map]
   exact List.map_congr_left fun x _=>by simp [chA,frz]
  rw [show k+3=(k+2)+1 from rfl]
  simp only [frz,hr]
  rw [e,hm]
  cases xs with
  | nil=>exact absurd rfl hne
  | cons x r=>rfl
def mkA (ys:List (Int × Int)) (a b c:Int):AV:=au (mkT ys a b c) (slA 2 ((mkT ys a b c).ch.map chA))
theorem vI {ys:List (Int × Int)} (hys:∀y∈ys,inI y.1/\inI y.2) {yv:AV} (hy:SlA 2 (ys.map chA) yv) {a b c:Int} (ha:inI a) (hb:inI b) (hc:inI c):M27 [yv,.agg [.int .i64 a,.int .i64 b,.int .i64 c]]=some (mkA ys a b c):=by
 have m1:=dt ha (n:=4) (by omega)
 have m2:=dt hb (n:=4) (by omega)
 have m3:=dt hc (n:=5) (by omega)
 have hmk:mkA ys a b c=.agg [slA 2 (((List.range (nOf ys)).map (chO ys)).map chA),.int .i64 (pick a 4),.int .i64 (pick b 4),.int .i64 (pick c 5),.int .i64 1]:=rfl
 rw [hmk]
 obtain ⟨q1,h1⟩:∃z,z=pick a 4:=⟨_,rfl⟩
 obtain ⟨q2,h2⟩:∃z,z=pick b 4:=⟨_,rfl⟩
 obtain ⟨q3,h3⟩:∃z,z=pick c 5:=⟨_,rfl⟩
 rw [<-h1] at m1 ⊢
 rw [<-h2] at m2 ⊢
 rw [<-h3] at m3 ⊢
 obtain ⟨B,lp,⟨k1,v,k2,k3⟩⟩:=F8 hys hy (p:=q1) (q:=q2) (r:=q3) (nOf ys) 0 [.row 3 false [.agg [.int .i64 a,.int .i64 b,.int .i64 c]],.row 5 false [.agg [.nilS,.int .i64 0,.int .i64 0,.int .i64 0,.int .i64 0]],.row 5 false [.agg [.nilS,.int .i64 q1,.int .i64 q2,.int .i64 q3,.int .i64 1]]] 300 (by omega) ⟨rfl,.nilS,rfl,.inl ⟨rfl,rfl⟩⟩ (by have:=rH ys; omega)
 rw [show ((0:Nat):Int)=0 from rfl] at lp
 have e1:ac true 5 B (.ptr 2 0 0)=some (.agg [v,.int .i64 q1,.int .i64 q2,.int .i64 q3,.int .i64 1]):=by simp [ac,k2]
 have kl:=(List.getElem?_eq_some_iff.1 k1).1
 have st:aA 5 B (.ptr 1 0 0) (.agg [v,.int .i64 q1,.int .i64 q2,.int .i64 q3,.int .i64 1])=some (B.set 1 (.row 5 false [.agg [v,.int .i64 q1,.int .i64 q2,.int .i64 q3,.int .i64 1]])):=by simp [aA,k1,bj]
 have k3':In (B.set 1 (.row 5 false [.agg [v,.int .i64 q1,.int .i64 q2,.int .i64 q3,.int .i64 1]])) v ((List.range (nOf ys)).map (chO ys)):=by
  rcases k3 with k3 | ⟨id,gr,a,b,c,d⟩
  ·exact .inl k3
  ·exact .inr ⟨id,gr,a,b,c,by rw [List.getElem?_set_ne (by omega)]; exact d⟩
 have f1:=A5 k3' 0
 have e2:ac true 5 (B.set 1 (.row 5 false [.agg [v,.int .i64 q1,.int .i64 q2,.int .i64 q3,.int .i64 1]])) (.ptr 1 0 0)=some (.agg [v,.int .i64 q1,.int .i64 q2,.int .i64 q3,.int .i64 1]):=by simp [ac,kl]
 obtain ⟨C,hC⟩:∃X,X=B.set 1 (.row 5 false [.agg [v,.int .i64 q1,.int .i64 q2,.int .i64 q3,.int .i64 1]]):=⟨_,rfl⟩
 rw [<-hC] at st e2 f1
 have F1:frz C 4 (.agg [v,.int .i64 q1,.int .i64 q2,.int .i64 q3,.int .i64 1])=.agg [slA 2 (((List.range (nOf ys)).map (chO ys)).map chA),.int .i64 q1,.int .i64 q2,.int .i64 q3,.int .i64 1]:=by
  rw [<-f1]; rfl
 rw [hC] at F1
 have k1g:B[1]=.row 5 false [.agg [.nilS,.int .i64 0,.int .i64 0,.int .i64 0,.int .i64 0]]:=by
  rw [List.getElem?_eq_getElem kl] at k1; injection k1
 unfold M27
 rw [aI _ _ rfl]
 simp [Au,cJ,m1,m2,m3,aL,Gr lp,k1g,k2,kl,F1,-frz,-ag]
end Tr
namespace Tr
open Go
open Cy (GC aL bc aB dt)
open Clu (aR a6 au chA aS dA ce da bz cF aV cE)
def rdO (xs:List Int) (i:Nat):Int:=if i<xs.length/\0<pick (xs.getD i 0) 4 then pick ((xs.getD i 0).tdiv 4) 120 else -1
def rdM (n:Nat) (xs:List Int):List Int:=(List.range n).map (rdO xs)
theorem tC (n:Nat) (xs:List Int):(rdM n xs).length=n:=by simp [rdM]
theorem FH (xs:List Int) (i:Nat) : -1<=rdO xs i/\rdO xs i<=119:=by
 unfold rdO
 have:=cC ((xs.getD i 0).tdiv 4) 120 (by omega)
 split <;> omega
theorem FJ {n:Nat} {xs:List Int}:∀t∈rdM n xs,-1<=t/\t<=119:=fun t ht=>by
 obtain ⟨i,_,rfl⟩:=List.mem_map.1 ht
 exact FH xs i
def rI (f:Nat->Int) (n i:Nat):List Int:=(List.range i).map f++List.replicate (n-i) 0
theorem FL (f:Nat->Int) {n i:Nat} (h:i<=n):(rI f n i).length=n:=by simp [rI]; omega
theorem FK (f:Nat->Int) {n i:Nat} (h:i<n):(rI f n i).set i (f i)=rI f n (i+1):=by
 unfold rI
 rw [List.set_append_right _ _ (by simp)]
 obtain ⟨m,hm⟩:∃m,n-i=m+1:=⟨n-i-1,by omega⟩
 rw [hm,show n-(i+1)=m by omega,List.range_succ]
 simp [List.replicate_succ]
theorem DP (f:Nat->Int) (n:Nat):rI f n n=(List.range n).map f:=by simp [rI]
theorem DO (f:Nat->Int) (n:Nat):rI f n 0=List.replicate n 0:=by simp [rI]
def M28:aP:=fun args=>evP (ax GC gI) 300 IV 4 args
theorem Fu:aq Try.prog GC 28 M28:=aq.of_ev (E:=ax GC gI) (aw qq) rfl at28 G6 4 fun _ _ h=>⟨300,h⟩
def A28 (tv:AV) (l:List Int):aa:=[.row 5 false [tv],.row 1 false (ak l)]
theorem DG {tv:AV} {xs:List Int} {xv:AV} (hx:SlA 1 (ak xs) xv) (hxi:∀z∈xs,inI z) {n i:Nat} (hn:n<=100) (hi:i<n) :
  run (ax GC gI) 300 [.code jR] (pD xv (.sl 1 0 n) (.int .i64 (i:Int))) (A28 tv (rI (rdO xs) n i))=some (.normal (pD xv (.sl 1 0 n) (.int .i64 ((i+1:Nat):Int))) (A28 tv (rI (rdO xs) n (i+1)))):=by
 have hr:∀l,(A28 tv l)[1]?=some (.row 1 false (ak l)):=fun l=>rfl
 have hset:∀l l',(A28 tv l).set 1 (.row 1 false (ak l'))=A28 tv l':=fun l l'=>rfl
 have hl:=FL (rdO xs) (n:=n) (i:=i) (by omega)
 have hll:=hx.len
 rw [aB] at hll
 have b0:=br i n .i64
 rw [decide_eq_true hi] at b0
 have b1:=br i xs.length .i64
 have b2:=a9 i (by omega)
 have hS:an (.sl 1 0 n)=some (.int .i64 (n:Int)):=rfl
 have i0:=eh (n:=n) (hr (rI (rdO xs) n i)) hi .i64
 have s0:=kS (hr (rI (rdO xs) n i)) (show i<(rI (rdO xs) n i).length by omega) (-1)
 rw [hset] at s0
 obtain ⟨L1,hL1⟩:∃L,L=(rI (rdO xs) n i).set i (-1):=⟨_,rfl⟩
 rw [<-hL1] at s0
 have hl1:L1.length=n:=by rw [hL1,List.length_set,hl]
 have i1:=eh (n:=n) (hr L1) hi .i64
 have ii:∃j,j=i+1:=⟨_,rfl⟩
 obtain ⟨j,hj⟩:=ii
 have e0:=FK (rdO xs) hi
 rw [<-hj] at b2 e0 ⊢
 by_cases hc:i<xs.length
 ·rw [decide_eq_true hc] at b1
  obtain ⟨y,hy⟩:∃y,y=xs[i]:=⟨_,rfl⟩
  have hyg:xs.getD i 0=y:=by rw [List.getD_eq_getElem?_getD,List.getElem?_eq_getElem hc,hy]; rfl
  have hyi:inI y:=by rw [hy]; exact hxi _ (List.getElem_mem hc)
  have x1:∀A,ai 1 A xv (.int .i64 (i:Int))=some (.fp [.int .i64 y]):=fun A=>by
   rw [hy]
   exact hx.index1 (A:=A) (x:=.int .i64 xs[i]) (i:=i) (by simp [ak,hc]) rfl rfl .i64
  have l1:∀A,ac false 1 A (.fp [.int .i64 y])=some (.int .i64 y):=fun A=>rfl
  have m1:=dt hyi (n:=4) (by omega)
  obtain ⟨q0,q1⟩:=xk hyi (b:=4) (by omega)
  have m2:=dt q1 (n:=120) (by omega)
  have b3:=cF (pick y 4) 0
  have ef:rdO xs i=if 0<pick y 4 then pick (y.tdiv 4) 120 else -1:=by
   unfold rdO
   rw [hyg]
   by_cases h:0<pick y 4
   ·rw [if_pos ⟨hc,h⟩,if_pos h]
   ·rw [if_neg (fun hh=>h hh.2),if_neg h]
  generalize y.tdiv 4=Q at *
  generalize pick y 4=R at *
  generalize pick Q 120=V at *
  by_cases hR:0<R
  ·rw [if_pos hR] at ef
   rw [decide_eq_true hR] at b3
   have s1:=kS (hr L1) (show i<L1.length by omega) V
   rw [hset,hL1,List.set_set,<-hL1,<-ef,e0] at s1
   rw [ef] at s1
   generalize A28 tv (rI (rdO xs) n i)=B0 at *
   generalize A28 tv L1=B1 at *
   generalize A28 tv (rI (rdO xs) n j)=B2 at *
   simp [jR,hll,hS,b0,b1,b2,b3,i0,s0,i1,s1,x1,l1,q0,m1,m2,aL,-ag,-ac,-aA,-ai,-an,-frz]
  ·rw [if_neg hR] at ef
   rw [decide_eq_false hR] at b3
   rw [hL1,<-ef,e0] at s0
   rw [ef] at s0
   generalize A28 tv (rI (rdO xs) n i)=B0 at *
   generalize A28 tv (rI (rdO xs) n j)=B2 at *
   simp [jR,hll,hS,b0,b1,b2,b3,i0,s0,x1,l1,m1,aL,-ag,-ac,-aA,-ai,-an,-frz]
 ·rw [decide_eq_false hc] at b1
  have ef:rdO xs i = -1:=by unfold rdO; rw [if_neg (fun h=>hc h.1)]
  rw [hL1,<-ef,e0] at s0
  rw [ef] at s0
  generalize A28 tv (rI (rdO xs) n i)=B0 at *
  generalize A28 tv (rI (rdO xs) n j)=B2 at *
  simp [jR,hll,hS,b0,b1,b2,i0,s0,-ag,-ac,-aA,-ai,-an,-frz]
theorem F7 {tv:AV} {xs:List Int} {xv:AV} (hx:SlA 1 (ak xs) xv) (hxi:∀z∈xs,inI z) {n:Nat} (hn:n<=100):∀(c i m:Nat),i+c=n->c<m ->
  b8 (evC (ax GC gI) 300 jR) mJ m (pD xv (.sl 1 0 n) (.int .i64 (i:Int))) (A28 tv (rI (rdO xs) n i))=some (.exit 0 ((pD xv (.sl 1 0 n) (.int .i64 (n:Int))).set 6 (.bool false)) (A28 tv (rI (rdO xs) n n))):=by
 intro c
 induction c with
 | zero=>
  intro i m hi hm
  obtain ⟨m,rfl⟩:∃j,m=j+1:=⟨m-1,by omega⟩
  obtain rfl:i=n:=by omega
  have b2:=br i i .i64
  rw [decide_eq_false (by omega)] at b2
  rw [aO,yM]
  simp [jR,b2,-ag]
 | succ c ih=>
  intro i m hi hm
  obtain ⟨m,rfl⟩:∃j,m=j+1:=⟨m-1,by omega⟩
  rw [aO,yM,DG hx hxi hn (by omega)]
  exact ih (i+1) m (by omega) (by omega)
theorem HP {T:aR} {chv:AV} (hb:SlA 2 (T.ch.map chA) chv) (hl:T.ch.length<=100) (hl1:1<=T.ch.length) {xs:List Int} {xv:AV} (hx:SlA 1 (ak xs) xv) (hxi:∀z∈xs,inI z):M28 [au T chv,xv]=some (.fs 1 (ak (rdM T.ch.length xs))):=by
 have lp:=F7 (tv:=au T chv) hx hxi hl T.ch.length 0 300 (by omega) (by omega)
 rw [DO,DP,show ((0:Nat):Int)=0 from rfl] at lp
 have lnc:=hb.len
 rw [List.length_map] at lnc
 have bx0:aZ 5 (au T chv) []=some (.ptr 0 0 0,[.row 5 false [au T chv]]):=rfl
 have ct:(cellsOf (au T chv)).length=5:=rfl
 obtain ⟨n,hn⟩:∃n,n=T.ch.length:=⟨_,rfl⟩
 rw [<-hn] at lp lnc hl hl1 ⊢
 have mk:cr 1 8 (.int .i64 0) [.row 5 false [au T chv]] (.int .i64 (n:Int)) (.int .i64 (n:Int))=some (.sl 1 0 n,A28 (au T chv) (List.replicate n 0)):=by
  simp [cr,A28,ak]
  omega
 have fa0:ab 0 [.row 5 false [au T chv]] (.ptr 0 0 0)=some (.ptr 0 0 0):=rfl
 have lch:ac false 1 [.row 5 false [au T chv]] (.ptr 0 0 0)=some chv:=by
  rcases hb with ⟨rfl,_⟩ | rfl <;> rfl
 have ff:frz (A28 (au T chv) (rdM n xs)) 4 (.sl 1 0 n)=.fs 1 (ak (rdM n xs)):=by
  have hrow:(A28 (au T chv) (rdM n xs))[1]?=some (.row 1 false (ak (rdM n xs))):=rfl
  have:=dI (off:=0) (xs:=ak (rdM n xs)) hrow (by rw [List.drop_zero]; exact List.take_of_length_le (by simp [ak,rdM])) (fun k x hx=>by
   obtain ⟨c,_,rfl⟩:=List.mem_map.1 hx
   exact aL _ _ _ _) 2
  have e:(ak (rdM n xs)).length=n:=by simp [ak,rdM]
  rw [e] at this
  exact this
 rw [show (List.range n).map (rdO xs)=rdM n xs from rfl] at lp
 generalize au T chv=tv at *
 generalize A28 tv (rdM n xs)=B1 at *
 generalize A28 tv (List.replicate n 0)=B0 at *
 unfold M28
 rw [aI _ _ rfl]
 simp [IV,bx0,ct,fa0,lch,lnc,mk,Gq lp,ff,-aZ,-ab,-ac,-cr,-frz,-ag,-cellsOf,-an]
def ES:List (FuncId × aG):=[(27,aD 4 M27),(28,aD 4 M28),(21,aD 4 Cy.M12)]
@[simp] theorem KM:aC ES 27=some (aD 4 M27):=rfl
@[simp] theorem KL:aC ES 28=some (aD 4 M28):=rfl
@[simp] theorem KN:aC ES 21=some (aD 4 Cy.M12):=rfl
theorem Dr:∀f M,aC ES f=some M->aj Try.prog GC f M:=af (aj.of_pure uA 4) (af (aj.of_pure Fu 4) (af (aj.of_pure Cy.Bp 4) az))
def M13:aP:=fun args=>evP (ax GC ES) 300 IW 4 args
theorem Fz:aq Try.prog GC 13 M13:=aq.of_ev (E:=ax GC ES) (aw Dr) rfl at13 Ha 4 fun _ _ h=>⟨300,h⟩
structure XC where
 ys:List (Int × Int)
 a:Int
 b:Int
 c:Int
 rd:List Int
 free:Int
structure XV (x:XC) (yv rv:AV):Prop where
 y:SlA 2 (x.ys.map chA) yv
 yi:∀y∈x.ys,inI y.1/\inI y.2
 a:inI x.a
 b:inI x.b
 c:inI x.c
 r:SlA 1 (ak x.rd) rv
 ri:∀z∈x.rd,inI z
 f:inI x.free
def XC.A (x:XC) (yv rv:AV):AV:=.agg [yv,.int .i64 x.a,.int .i64 x.b,.int .i64 x.c,rv,.int .i64 x.free]
def XC.T (x:XC):aR:=mkT x.ys x.a x.b x.c
def XC.n (x:XC):Nat:=x.T.ch.length
def XC.R (x:XC):List Int:=rdM x.n x.rd
def XC.F (x:XC):Int:=pick x.free 60
def XC.ch (x:XC):AV:=slA 2 (x.T.ch.map chA)
def XC.tv (x:XC):AV:=au x.T x.ch
def XC.rv (x:XC):AV:=.fs 1 (ak x.R)
theorem XC.sit (x:XC):Sit x.T x.R x.F:=by
 have h:=nP x.ys x.a x.b x.c
 have k:=cC x.free 60 (by omega)
 refine ⟨h,tC _ _,by unfold XC.F; omega,fun t ht=>?_⟩
 have:=FJ t ht
 omega
theorem XC.nb (x:XC):1<=x.n/\x.n<=4:=by
 have:=rH x.ys
 unfold XC.n XC.T
 rw [xu]
 exact this
theorem XC.chS (x:XC):SlA 2 (x.T.ch.map chA) x.ch:=bg _ _
theorem XC.chl (x:XC):x.T.ch.length<=200:=by have:=x.nb; unfold XC.n at this; omega
theorem XC.rvS (x:XC):SlA 1 (ak x.R) x.rv:=.inr rfl
theorem XC.Rl (x:XC):x.R.length<=200:=by have:=x.nb; rw [XC.R,tC]; omega
theorem XC.tfrz (x:XC) (A:aa):frz A 4 x.tv=x.tv:=aV (fun A n=>x.chS.frz (A:=A) n) A 3
theorem XC.tref (x:XC):bq 4 x.tv=true:=cE (fun n=>x.chS.noRef n) 3
theorem XC.rfrz (x:XC) (A:aa) (n:Nat):frz A n x.rv=x.rv:=x.rvS.frz n
theorem XC.rref (x:XC) (n:Nat):bq n x.rv=true:=x.rvS.noRef n
def tI (x:XC):AV:=.tup [x.tv,x.rv,.int .i64 x.F]
theorem HQ {x:XC} {yv rv:AV} (h:XV x yv rv):M13 [x.A yv rv]=some (tI x):=by
 have m1:=vI h.yi h.y h.a h.b h.c
 have m2:=HP (T:=x.T) x.chS (by have:=x.nb; unfold XC.n at this; omega) (by have:=x.nb; unfold XC.n at this; omega) h.r h.ri
 have m3:=dt h.f (n:=60) (by omega)
 have m1:M27 [yv,.agg [.int .i64 x.a,.int .i64 x.b,.int .i64 x.c]]=some x.tv:=m1
 have m2:M28 [x.tv,rv]=some x.rv:=m2
 have m3:Cy.M12 [.int .i64 x.free,.int .i64 60]=some (.int .i64 x.F):=m3
 obtain ⟨A0,hA0⟩:∃A:aa,A=[.row 6 false [x.A yv rv]]:=⟨_,rfl⟩
 have hy:=pH h.y
 have hr:=pH h.r
 have f1:∀A,frz A 4 x.tv=x.tv:=x.tfrz
 have f2:∀A n,frz A n x.rv=x.rv:=x.rfrz
 have f3:∀A n,frz A n yv=yv:=fun A n=>h.y.frz n
 have f4:∀A n,frz A n rv=rv:=fun A n=>h.r.frz n
 have n1:=x.tref
 have n2:=x.rref
 have n3:∀n,bq n yv=true:=fun n=>h.y.noRef n
 have n4:∀n,bq n rv=true:=fun n=>h.r.noRef n
 have ff:∀A,frz A 4 (tI x)=tI x:=fun A=>by
  have q1:frz A 3 x.tv=x.tv:=aV (fun A n=>x.chS.frz (A:=A) n) A 2
  simp [tI,frz,q1,f2]
 have q1:∀A,frz A 3 x.tv=x.tv:=fun A=>aV (fun A n=>x.chS.frz (A:=A) n) A 2
 have ct:cellsOf x.tv=[x.ch,.int .i64 x.T.pick,.int .i64 x.T.place,.int .i64 x.T.travel,.int .i64 1]:=by
  have:=(nP x.ys x.a x.b x.c).2
  show [x.ch,_,_,_,.int .i64 x.T.blades]=_
  rw [show x.T.blades=1 from this]
 have et:x.tv=.agg [x.ch,.int .i64 x.T.pick,.int .i64 x.T.place,.int .i64 x.T.travel,.int .i64 1]:=by
  have:=(nP x.ys x.a x.b x.c).2
  show AV.agg [x.ch,_,_,_,.int .i64 x.T.blades]=_
  rw [show x.T.blades=1 from this]
 obtain ⟨c1,c2⟩:=pH x.chS
 have n5:∀n,bq n x.ch=true:=fun n=>x.chS.noRef n
 have le:bY (.agg [yv,.int .i64 x.a,.int .i64 x.b,.int .i64 x.c,rv,.int .i64 x.free]) 6 1 true 3=some (.agg [.int .i64 x.a,.int .i64 x.b,.int .i64 x.c]):=by
  rcases h.y with ⟨rfl,_⟩ | rfl <;> rcases h.r with ⟨rfl,_⟩ | rfl <;> rfl
 unfold tI at ff ⊢
 generalize x.rv=RV at *
 generalize x.F=FV at *
 generalize x.tv=TV at *
 subst et
 generalize x.ch=CH at *
 generalize x.T.pick=p1 at *
 generalize x.T.place=p2 at *
 generalize x.T.travel=p3 at *
 have f5:∀A,frz A 4 (.agg [.int .i64 x.a,.int .i64 x.b,.int .i64 x.c])=.agg [.int .i64 x.a,.int .i64 x.b,.int .i64 x.c]:=fun A=>rfl
 unfold M13
 rw [aI _ _ rfl]
 unfold XC.A
 simp [IW,le,ff,f5,f1,f3,f4,n3,n4,n5,m1,m2,m3,aL,-frz]
end Tr
namespace Tr
open Go
open Cy (GC aL bc aB dt lvM dZ rL sY)
open Clu (aR a6 cH Chk q8 au chA uH iC pn kq zd nC nB)
def E0:aP:=fun args=>evF (ax GC ((14,H14 0) :: f9)) 300 kC 4 args
theorem CZ:cg Try.prog GC 14 E0:=cg.of_ev (E:=ax GC ((14,H14 0) :: f9)) (aw qr) rfl A8 kn 4 fun _ _ h=>⟨300,h⟩
theorem wh (B:aa) (n:Nat) (t:cS):bb B (n+1) (aX t)=true:=by simp [aX,bb]
theorem EI {T:aR} {chv rdv:AV} {rd:List Int} {free lost:Int} (hb:SlA 2 (T.ch.map chA) chv) (hr:SlA 1 (ak rd) rdv) (hTl:T.ch.length<=200) (hrl:rd.length<=200) :
  ∃v,E0 [au T chv,rdv,.int .i64 free,.int .i64 lost]=some (.tup [v,.bool (df T rd free lost).isSome])/\SlA 2 (((df T rd free lost).getD []).map aX) v:=by
 have hT:Tl [] T chv chv:=⟨.inl hb,fun X=>Clu.aV (fun A n=>hb.frz (A:=A) n) _ 3,hb⟩
 have hR:Rl [] rd rdv rdv:=⟨.inl hr,fun X=>hr.frz 4,hr⟩
 obtain ⟨v,B,h1,_,h2⟩:=oA (free:=free) (lost:=lost) hT hR hTl hrl
 obtain ⟨v',k1,k2⟩:=lY (free:=free) (lost:=lost) hb hr hTl hrl
 refine ⟨v',?_,k2⟩
 unfold M14 evP at k1
 rw [h1] at k1
 simp only [Option.map_some] at k1
 unfold E0 evF
 rw [h1]
 simp only [Option.bind_some]
 rw [if_pos]
 ·exact k1
 ·rcases h2 with ⟨rfl,_⟩ | ⟨i,_,rfl,hrow⟩
  ·rfl
  ·have:bb B 3 (.sl i 0 ((df T rd free lost).getD []).length)=true:=by
    simp only [bb,hrow]
    rw [List.all_eq_true]
    intro y hy
    obtain ⟨t,_,rfl⟩:=List.mem_map.1 (List.mem_of_mem_drop (List.mem_of_mem_take hy))
    exact wh B 1 t
   show (bb B 3 _ && (bb B 3 (.bool _) && true))=true
   rw [this]; rfl
def fsL:List (FuncId × aG):=[(11,aD 4 M11),(13,aD 4 M13),(14,cI 4 E0),(16,aD 4 M16),(17,aD 4 M17),(21,aD 4 Cy.M12),(22,aD 4 M22),(23,aD 4 Clu.M22),(24,aD 4 M24),(25,aD 4 M25)]
@[simp] theorem Mc:aC fsL 11=some (aD 4 M11):=rfl
@[simp] theorem Mb:aC fsL 13=some (aD 4 M13):=rfl
@[simp] theorem Ma:aC fsL 14=some (cI 4 E0):=rfl
@[simp] theorem L9:aC fsL 16=some (aD 4 M16):=rfl
@[simp] theorem L8:aC fsL 17=some (aD 4 M17):=rfl
@[simp] theorem L7:aC fsL 21=some (aD 4 Cy.M12):=rfl
@[simp] theorem L6:aC fsL 22=some (aD 4 M22):=rfl
@[simp] theorem L5:aC fsL 23=some (aD 4 Clu.M22):=rfl
@[simp] theorem L4:aC fsL 24=some (aD 4 M24):=rfl
@[simp] theorem L3:aC fsL 25=some (aD 4 M25):=rfl
theorem FB:∀f M,aC fsL f=some M->aj Try.prog GC f M:=af (aj.of_pure FA 4) (af (aj.of_pure Fz 4) (af (aj.of_pureF CZ 4) (af (aj.of_pure lr 4) (af (aj.of_pure uD 4) (af (aj.of_pure Cy.Bp 4) (af (aj.of_pure uB 4) (af (aj.of_pure Clu.uB 4) (af (aj.of_pure w7 4) (af (aj.of_pure Bo 4) az)))))))))
@[simp] theorem LM:M11 []=some (.bool true):=rfl
theorem CP {x:AV} {n:Nat} (h:TA Try.prog (n+2) 46 x):∃y:Int × Int,x=chA y/\inI y.1/\inI y.2:=by
 obtain ⟨ls,rfl,hc,hl⟩:=TA.agg (show rk Try.prog 46=true by kernel_rfl) h
 simp only [TC,Try.underlying46] at hc
 rw [show Try.prog.cellsOf 3=1 by kernel_rfl] at hc
 simp only [TCa,Try.underlying3] at hc
 obtain ⟨_,_,rfl,⟨a,rfl,ha⟩,_,_,_,rfl,⟨b,rfl,hb⟩,_,rfl⟩:=hc
 exact ⟨(a,b),rfl,ha,hb⟩
theorem ul {raw:AV} {n:Nat} (h:TA Try.prog (n+3) 27 raw):∃ys:List (Int × Int),SlA 2 (ys.map chA) raw/\(∀y∈ys,inI y.1/\inI y.2)/\ys.length<=9223372036854775807:=by
 obtain ⟨es,h1,h2,h3⟩:=TA.sl Try.underlying27 h
 rw [show Try.prog.cellsOf 46=2 by kernel_rfl] at h1
 obtain ⟨ys,rfl,hy⟩:=f6 (f:=chA) (p:=fun y=>inI y.1/\inI y.2) fun x hx=>CP (n:=n) (h3 x hx)
 exact ⟨ys,h1,hy,by simpa using h2⟩
theorem AI {x:AV} {n:Nat} (h:TA Try.prog (n+1) 25 x):∃zs:List Int,SlA 1 (ak zs) x/\zs.length<=9223372036854775807/\∀z∈zs,inI z:=
 TA.ints Try.underlying25 Try.underlying3 (by kernel_rfl) h
theorem xI {ls:List AV} {n:Nat} (h:TC Try.prog (n+1) 25 ls) (hl:ls.length=Try.prog.cellsOf 25):∃(x:AV) (zs:List Int),ls=[x]/\SlA 1 (ak zs) x/\zs.length<=9223372036854775807/\∀z∈zs,inI z:=by
 rw [show Try.prog.cellsOf 25=1 by kernel_rfl] at hl
 obtain ⟨x,rfl⟩:=List.length_eq_one_iff.1 hl
 obtain ⟨zs,h1,h2,h3⟩:=AI (n:=n) (x:=x) ⟨[x],h,by rw [show Try.prog.cellsOf 25=1 by kernel_rfl]; rfl,by
  unfold fD
  rw [if_neg (by rw [show rk Try.prog 25=false by kernel_rfl]; simp)]; rfl⟩
 exact ⟨x,zs,rfl,h1,h2,h3⟩
theorem wN {ls:List AV} {n:Nat} (h:TC Try.prog (n+3) 27 ls) (hl:ls.length=Try.prog.cellsOf 27):∃(x:AV) (ys:List (Int × Int)),ls=[x]/\SlA 2 (ys.map chA) x/\∀y∈ys,inI y.1/\inI y.2:=by
 rw [show Try.prog.cellsOf 27=1 by kernel_rfl] at hl
 obtain ⟨x,rfl⟩:=List.length_eq_one_iff.1 hl
 obtain ⟨zs,h1,h2,h3⟩:=ul (n:=n) (raw:=x) ⟨[x],h,by rw [show Try.prog.cellsOf 27=1 by kernel_rfl]; rfl,by
  unfold fD
  rw [if_neg (by rw [show rk Try.prog 27=false by kernel_rfl]; simp)]; rfl⟩
 exact ⟨x,zs,rfl,h1,h2⟩
theorem vM {ls:List AV} {n:Nat} (h:TC Try.prog (n+2) 28 ls):∃a b c:Int,ls=[.int .i64 a,.int .i64 b,.int .i64 c]/\inI a/\inI b/\inI c:=by
 simp only [TC,Try.underlying28] at h
 rw [show Try.prog.cellsOf 3=1 by kernel_rfl] at h
 simp only [TCa,Try.underlying3] at h
 obtain ⟨_,_,rfl,⟨a,rfl,ha⟩,_,_,_,rfl,⟨b,rfl,hb⟩,_,_,_,rfl,⟨c,rfl,hc⟩,_,rfl⟩:=h
 exact ⟨a,b,c,rfl,ha,hb,hc⟩
theorem A6 {x:AV} {n:Nat} (h:TA Try.prog (n+5) 30 x):∃X yv rv,x=XC.A X yv rv/\XV X yv rv:=by
 obtain ⟨ls,rfl,hc,hl⟩:=TA.agg (show rk Try.prog 30=true by kernel_rfl) h
 rw [show n+5=(n+4)+1 from rfl] at hc
 unfold TC at hc
 rw [Try.underlying30] at hc
 simp only [TCs] at hc
 obtain ⟨a,_,rfl,ha,la,b,_,rfl,hb,lb,c,_,rfl,hc,lc,d,_,rfl,hd,ld,rfl⟩:=hc
 obtain ⟨yv,ys,rfl,y1,y2⟩:=wN (n:=n+1) ha la
 obtain ⟨p,q,r,rfl,p1,q1,r1⟩:=vM (n:=n+2) hb
 obtain ⟨rv,zr,rfl,s1,s2,s3⟩:=xI (n:=n+3) hc lc
 simp only [TC,Try.underlying3] at hd
 obtain ⟨z,rfl,hz⟩:=hd
 exact ⟨⟨ys,p,q,r,zr,z⟩,yv,rv,rfl,y1,y2,p1,q1,r1,s1,s3,hz⟩
theorem ownK:ownKnob Try.prog.godebug=none:=by kernel_rfl
theorem I8 {W:World} {OK:Nat->Prop}:CK GC W OK:=fun gl cs h=>by simp [GC] at h
def nY (os:Os):World:=World.holding Try.prog os ⟨#[],#[],[]⟩
end Tr
namespace Tr
open Go
end Tr
namespace Tr
open Go
open Cy (GC aL bc aB dt)
open Clu (aR a6 cH Chk q8 au chA uH iC pn kq nB aS cc dA ce da bz cF)
abbrev zT:AV:=.agg [.nilS,.int .i64 0,.int .i64 0,.int .i64 0,.int .i64 0]
theorem Hr {x:XC} {yv rv:AV} (h:XV x yv rv) (A:aa):frz A 4 (x.A yv rv)=x.A yv rv:=by
 have f1:=h.y.frz (A:=A) 3
 have f2:=h.r.frz (A:=A) 3
 simp [XC.A,frz,f1,f2]
theorem Hq {x:XC} {yv rv:AV} (h:XV x yv rv):bq 4 (x.A yv rv)=true:=by
 have f1:=h.y.noRef 3
 have f2:=h.r.noRef 3
 simp [XC.A,bq,f1,f2]
theorem ED {x:XC} {yv rv:AV} (X:aa):ac true 6 (.row 6 false [x.A yv rv] :: X) (.ptr 0 0 0)=some (x.A yv rv):=rfl
theorem Hs {x:XC} {yv rv:AV}:aZ 6 (x.A yv rv) []=some (.ptr 0 0 0,[.row 6 false [x.A yv rv]]):=rfl
def B0 (x:XC) (yv rv:AV):aa:=[.row 6 false [x.A yv rv],.row 5 false [x.tv]]
theorem II {x:XC} {yv rv:AV} (h:XV x yv rv):∃A0 Az,aZ 6 (x.A yv rv) []=some (.ptr 0 0 0,A0)/\ac true 6 A0 (.ptr 0 0 0)=some (x.A yv rv)/\M13 [x.A yv rv]=some (tI x)/\(∀A,frz A 4 (x.A yv rv)=x.A yv rv)/\bq 4 (x.A yv rv)=true/\(cellsOf (x.A yv rv)).length=6/\aZ 5 zT A0=some (.ptr 1 0 0,Az)/\aA 5 Az (.ptr 1 0 0) x.tv=some (B0 x yv rv):=
 ⟨_,_,Hs,ED _,HQ h,Hr h,Hq h,rfl,rfl,rfl⟩
end Tr
namespace Tr
open Go
end Tr
namespace Tr
open Go
open Cy (GC aL bc aB dt)
open Clu (aR a6 rf cH Chk q8 au chA uH iC pn kq nB aS cc dA ce da bz cF dM aV cE)
theorem yk {esz bytes:Nat} (he:0<esz) (hb:0<bytes) {A:aa} {N:Nat} (hN:N=A.length) {xs:List AV} {xv:AV} (h:SlA esz xs xv) (hl:xs.length*bytes<=140737488355328):aM esz bytes (A++[.row esz false []]) (.sl N 0 0) xv=some (.sl (N+1) 0 xs.length,A++[.dead,.row esz false xs]):=by
 subst hN
 have hs:aQ esz (A++[.row esz false []]) xv=some xs:=by
  rcases h with ⟨rfl,rfl⟩ | rfl
  ·rfl
  ·simp [aQ]
 have hr:(A++[Ent.row esz false []])[A.length]?=some (.row esz false []):=by simp
 simp only [aM,hs,hr]
 rw [if_pos ⟨trivial,he,hb,by rw [Nat.zero_add]; exact hl⟩,if_neg (by simp)]
 simp
section
variable {A:aa} {id:Nat} {cs:List (Int × Int)}
theorem I3 {n:Nat} {g:Bool} {es:List AV} (h:A[id]?=some (.row 2 g es)) {k:Nat} (hk:k<n):ai 2 A (.sl id 0 n) (.int .i64 (k:Int))=some (.ptr id k 0):=by
 simp only [ai,h]
 rw [if_pos ⟨trivial,by omega,by omega,by omega⟩]
 simp
end
def C9 (B:aa) (l:List Int):aa:=B++[.dead,.row 1 false (ak l)]
end Tr
namespace Tr
open Go
open Cy (GC aL bc aB dt)
open Clu (aR a6 rf cH Chk q8 au chA aS cc dA ce da bz cF dM aV cE)
theorem tZ {T:aR} {rd:List Int} {free:Int}:((b7 T rd free).getD []).length<=10:=by
 cases h:b7 T rd free with
 | none=>simp
 | some d=>exact (oz h).1
theorem qJ {A:aa} {id:Nat} {g:Bool} {l:List Int} {n:Nat} (h:A[id]?=some (.row 1 g (ak l))) (hn:n=l.length) (k:Nat):frz A (k+2) (.sl id 0 n)=.fs 1 (ak l):=by
 have:=dI (off:=0) (xs:=ak l) h (by rw [List.drop_zero]; exact List.take_of_length_le (Nat.le_refl _)) (fun k x hx=>by
  obtain ⟨c,_,rfl⟩:=List.mem_map.1 hx
  exact aL _ _ _ _) k
 rw [hn,<-aB l]; exact this
end Tr
namespace Tr
open Go
open Cy (GC aL bc aB dt)
open Clu (aR a6 rf au chA aS cc dA ce da bz cF dM aV cE)
def OV (e lo:Nat) (A:aa) (v:AV) (xs:List AV):Prop:=(v=.nilS/\xs=[])\/∃id g,v=.sl id 0 xs.length/\xs≠[]/\lo<=id/\A[id]?=some (.row e g xs)
theorem zy {e bytes lo:Nat} (he:0<e) (hb:0<bytes) {A:aa} {v:AV} {xs:List AV} (h:OV e lo A v xs) (hlo:lo<=A.length) (x:AV) (hl:(xs.length+1)*bytes<=140737488355328) :
  ∃v' A',aM e bytes A v (.fs e [x])=some (v',A')/\OV e lo A' v' (xs++[x])/\(∀j,j<lo->A'[j]?=A[j]?)/\A.length<=A'.length:=by
 rcases h with ⟨rfl,rfl⟩ | ⟨id,g,rfl,hne,hid,hrow⟩
 ·refine ⟨.sl A.length 0 1,A++[.row e false [x]],?_,.inr ⟨A.length,false,rfl,by simp,hlo,by simp⟩,fun j hj=>by rw [List.getElem?_append_left (by omega)],by simp⟩
  have hb1:0<e/\0<bytes/\bytes<=140737488355328:=⟨he,hb,by simpa using hl⟩
  simp [aM,hb1]
 ·have hil:=(List.getElem?_eq_some_iff.1 hrow).1
  have hz:xs.length≠0:=fun h=>hne (List.length_eq_zero_iff.1 h)
  refine ⟨.sl id 0 (xs.length+1),A.set id (.row e true (xs++[x])),?_,.inr ⟨id,true,by simp,by simp,hid,by rw [List.getElem?_set_self hil]⟩,fun j hj=>by rw [List.getElem?_set_ne (by omega)],by simp⟩
  simp only [aM,cX,hrow,List.length_singleton]
  rw [if_pos ⟨trivial,he,hb,hl⟩,if_pos ⟨trivial,trivial,hz⟩]
structure MI (A:aa) (T:aR) (chv:AV) (inn:List Int) (ov:AV) (out:List cS):Prop where
 t:A[0]?=some (.row 5 false [au T chv])
 i:A[2]?=some (.row 1 false (ak inn))
 l:inn.length=T.ch.length
 o:OV 2 3 A ov (out.map aX)
 n:3<=A.length
end Tr
namespace Tr
open Go
def rM:MC:=.seq (.seq (.region [⟨none,.mv (.var 11),none⟩,⟨none,.mv (.var 1),none⟩,⟨none,.lenSl (.tmp 1),none⟩,⟨none,.bin .lss (.tmp 0) (.tmp 2),none⟩,⟨none,.mv (.tmp 3),none⟩,⟨none,.mv (.var 11),some (.tmp 4,true)⟩,⟨none,.bin .lss (.tmp 5) (.cst (.int .i64 12)),some (.tmp 4,true)⟩,⟨some 21,.pick (.tmp 4) (.tmp 6) (.cst (.bool false)),none⟩]) (.cond (.var 21) .skip (.exit 0))) (.seq (.seq (.block 1 (.seq (.region [⟨none,.mv (.var 10),none⟩,⟨none,.mv (.var 1),none⟩,⟨none,.mv (.var 11),none⟩,⟨none,.indexSl 2 (.tmp 1) (.tmp 2),none⟩,⟨none,.indexArr 2 1 (.tmp 3) (.cst (.int .i64 1)),none⟩,⟨none,.load false 1 (.tmp 4),none⟩,⟨none,.call (.fn 21) [.tmp 5,.cst (.int .i64 40)],none⟩,⟨none,.bin .add (.tmp 0) (.tmp 6),none⟩,⟨some 10,.mv (.tmp 7),none⟩]) (.seq (.region [⟨none,.mv (.var 9),none⟩,⟨none,.mv (.var 1),none⟩,⟨none,.mv (.var 11),none⟩,⟨none,.indexSl 2 (.tmp 1) (.tmp 2),none⟩,⟨none,.indexArr 2 1 (.tmp 3) (.cst (.int .i64 0)),none⟩,⟨none,.load false 1 (.tmp 4),none⟩,⟨none,.mv (.var 8),none⟩,⟨none,.bin .add (.tmp 6) (.cst (.int .i64 1)),none⟩,⟨none,.call (.fn 21) [.tmp 5,.tmp 7],none⟩,⟨none,.mv (.var 10),none⟩,⟨none,.build [.int .i64 0,.int .i64 0] [(0,(1,.tmp 8)),(1,(1,.tmp 9))],none⟩,⟨none,.buildF 2 [.tmp 10],none⟩,⟨none,.append 2 16 (.tmp 0) (.tmp 11),none⟩,⟨some 9,.mv (.tmp 12),none⟩]) (.region [⟨none,.mv (.var 10),none⟩,⟨none,.load true 5 (.var 5),none⟩,⟨none,.call (.fn 22) [.tmp 1],none⟩,⟨none,.bin .add (.tmp 0) (.tmp 2),none⟩,⟨some 10,.mv (.tmp 3),none⟩])))) (.kill [0,3,12,13,14,15,16,17,18,19,20,21,22,23,24,25,26,27,28,29,30,31])) (.region [⟨none,.mv (.var 11),none⟩,⟨none,.bin .add (.tmp 0) (.cst (.int .i64 1)),none⟩,⟨some 11,.mv (.tmp 1),none⟩]))
def kE:MC:=.seq (.seq (.region [⟨none,.mv (.var 19),none⟩,⟨none,.mv (.var 9),none⟩,⟨none,.lenSl (.tmp 1),none⟩,⟨some 24,.bin .lss (.tmp 0) (.tmp 2),none⟩]) (.cond (.var 24) .skip (.exit 2))) (.seq (.seq (.block 3 (.seq (.region [⟨none,.mv (.var 9),none⟩,⟨none,.mv (.var 19),none⟩,⟨none,.indexSl 2 (.tmp 0) (.tmp 1),none⟩,⟨none,.fieldAddr 0 (.tmp 2),none⟩,⟨none,.load false 1 (.tmp 3),none⟩,⟨some 20,.mv (.tmp 4),none⟩]) (.seq (.seq (.region [⟨none,.mv (.var 20),none⟩,⟨none,.bin .lss (.tmp 0) (.cst (.int .i64 0)),none⟩,⟨none,.mv (.tmp 1),none⟩,⟨none,.mv (.var 20),some (.tmp 2,false)⟩,⟨none,.mv (.var 8),some (.tmp 2,false)⟩,⟨none,.bin .gtr (.tmp 3) (.tmp 4),some (.tmp 2,false)⟩,⟨some 25,.pick (.tmp 2) (.cst (.bool true)) (.tmp 5),none⟩]) (.cond (.var 25) (.seq (.region [⟨some 3,.mv (.cst (.bool false)),none⟩]) .ret) .skip)) (.seq (.seq (.region [⟨none,.mv (.var 18),none⟩,⟨none,.mv (.var 20),none⟩,⟨some 26,.bin .neq (.tmp 0) (.tmp 1),none⟩]) (.cond (.var 26) (.region [⟨none,.mv (.var 17),none⟩,⟨none,.fieldAddr 3 (.var 5),none⟩,⟨none,.load false 1 (.tmp 1),none⟩,⟨none,.bin .add (.tmp 0) (.tmp 2),none⟩,⟨some 17,.mv (.tmp 3),none⟩]) .skip)) (.seq (.seq (.region [⟨none,.mv (.var 9),none⟩,⟨none,.mv (.var 19),none⟩,⟨none,.indexSl 2 (.tmp 0) (.tmp 1),none⟩,⟨none,.fieldAddr 1 (.tmp 2),none⟩,⟨none,.load false 1 (.tmp 3),none⟩,⟨none,.mv (.var 17),none⟩,⟨some 27,.bin .lss (.tmp 4) (.tmp 5),none⟩]) (.cond (.var 27) (.seq (.region [⟨some 3,.mv (.cst (.bool false)),none⟩]) .ret) .skip)) (.seq (.seq (.region [⟨none,.mv (.var 20),none⟩,⟨none,.bin .gtr (.tmp 0) (.cst (.int .i64 0)),none⟩,⟨none,.mv (.tmp 1),none⟩,⟨none,.mv (.var 16),some (.tmp 2,true)⟩,⟨none,.mv (.var 20),some (.tmp 2,true)⟩,⟨none,.bin .sub (.tmp 4) (.cst (.int .i64 1)),some (.tmp 2,true)⟩,⟨none,.indexSl 1 (.tmp 3) (.tmp 5),some (.tmp 2,true)⟩,⟨none,.load false 1 (.tmp 6),some (.tmp 2,true)⟩,⟨none,.bin .lss (.tmp 7) (.cst (.int .i64 0)),some (.tmp 2,true)⟩,⟨none,.mv (.tmp 8),some (.tmp 2,true)⟩,⟨none,.mv (.var 9),some (.tmp 9,false)⟩,⟨none,.mv (.var 19),some (.tmp 9,false)⟩,⟨none,.indexSl 2 (.tmp 10) (.tmp 11),some (.tmp 9,false)⟩,⟨none,.fieldAddr 1 (.tmp 12),some (.tmp 9,false)⟩,⟨none,.load false 1 (.tmp 13),some (.tmp 9,false)⟩,⟨none,.mv (.var 16),some (.tmp 9,false)⟩,⟨none,.mv (.var 20),some (.tmp 9,false)⟩,⟨none,.bin .sub (.tmp 16) (.cst (.int .i64 1)),some (.tmp 9,false)⟩,⟨none,.indexSl 1 (.tmp 15) (.tmp 17),some (.tmp 9,false)⟩,⟨none,.load false 1 (.tmp 18),some (.tmp 9,false)⟩,⟨none,.bin .lss (.tmp 14) (.tmp 19),some (.tmp 9,false)⟩,⟨none,.pick (.tmp 9) (.cst (.bool true)) (.tmp 20),some (.tmp 2,true)⟩,⟨none,.mv (.tmp 21),some (.tmp 2,true)⟩,⟨none,.mv (.var 9),some (.tmp 22,false)⟩,⟨none,.mv (.var 19),some (.tmp 22,false)⟩,⟨none,.indexSl 2 (.tmp 23) (.tmp 24),some (.tmp 22,false)⟩,⟨none,.fieldAddr 1 (.tmp 25),some (.tmp 22,false)⟩,⟨none,.load false 1 (.tmp 26),some (.tmp 22,false)⟩,⟨none,.mv (.var 16),some (.tmp 22,false)⟩,⟨none,.mv (.var 20),some (.tmp 22,false)⟩,⟨none,.bin .sub (.tmp 29) (.cst (.int .i64 1)),some (.tmp 22,false)⟩,⟨none,.indexSl 1 (.tmp 28) (.tmp 30),some (.tmp 22,false)⟩,⟨none,.load false 1 (.tmp 31),some (.tmp 22,false)⟩,⟨none,.fieldAddr 0 (.var 5),some (.tmp 22,false)⟩,⟨none,.load false 1 (.tmp 33),some (.tmp 22,false)⟩,⟨none,.mv (.var 20),some (.tmp 22,false)⟩,⟨none,.bin .sub (.tmp 35) (.cst (.int .i64 1)),some (.tmp 22,false)⟩,⟨none,.indexSl 2 (.tmp 34) (.tmp 36),some (.tmp 22,false)⟩,⟨none,.fieldAddr 1 (.tmp 37),some (.tmp 22,false)⟩,⟨none,.load false 1 (.tmp 38),some (.tmp 22,false)⟩,⟨none,.bin .add (.tmp 32) (.tmp 39),some (.tmp 22,false)⟩,⟨none,.bin .gtr (.tmp 27) (.tmp 40),some (.tmp 22,false)⟩,⟨none,.pick (.tmp 22) (.cst (.bool true)) (.tmp 41),some (.tmp 2,true)⟩,⟨some 28,.pick (.tmp 2) (.tmp 42) (.cst (.bool false)),none⟩]) (.cond (.var 28) (.seq (.region [⟨some 3,.mv (.cst (.bool false)),none⟩]) .ret) .skip)) (.seq (.seq (.region [⟨none,.mv (.var 20),none⟩,⟨some 29,.bin .gtr (.tmp 0) (.cst (.int .i64 0)),none⟩]) (.cond (.var 29) (.region [⟨none,.mv (.var 16),none⟩,⟨none,.mv (.var 20),none⟩,⟨none,.bin .sub (.tmp 1) (.cst (.int .i64 1)),none⟩,⟨none,.indexSl 1 (.tmp 0) (.tmp 2),none⟩,⟨none,.store 1 (.tmp 3) (.cst (.int .i64 (-1))),none⟩]) .skip)) (.seq (.region [⟨none,.mv (.var 9),none⟩,⟨none,.mv (.var 19),none⟩,⟨none,.indexSl 2 (.tmp 0) (.tmp 1),none⟩,⟨none,.fieldAddr 1 (.tmp 2),none⟩,⟨none,.load false 1 (.tmp 3),none⟩,⟨none,.fieldAddr 1 (.var 5),none⟩,⟨none,.load false 1 (.tmp 5),none⟩,⟨none,.bin .add (.tmp 4) (.tmp 6),none⟩,⟨none,.fieldAddr 3 (.var 5),none⟩,⟨none,.load false 1 (.tmp 8),none⟩,⟨none,.bin .add (.tmp 7) (.tmp 9),none⟩,⟨none,.fieldAddr 2 (.var 5),none⟩,⟨none,.load false 1 (.tmp 11),none⟩,⟨none,.bin .add (.tmp 10) (.tmp 12),none⟩,⟨some 17,.mv (.tmp 13),none⟩]) (.seq (.region [⟨none,.mv (.var 20),none⟩,⟨none,.bin .add (.tmp 0) (.cst (.int .i64 1)),none⟩,⟨some 18,.mv (.tmp 1),none⟩]) (.seq (.region [⟨none,.mv (.var 20),none⟩,⟨none,.mv (.var 8),none⟩,⟨some 30,.bin .lss (.tmp 0) (.tmp 1),none⟩]) (.cond (.var 30) (.seq (.seq (.region [⟨none,.mv (.var 16),none⟩,⟨none,.mv (.var 20),none⟩,⟨none,.indexSl 1 (.tmp 0) (.tmp 1),none⟩,⟨none,.load false 1 (.tmp 2),none⟩,⟨some 31,.bin .geq (.tmp 3) (.cst (.int .i64 0)),none⟩]) (.cond (.var 31) (.seq (.region [⟨some 3,.mv (.cst (.bool false)),none⟩]) .ret) .skip)) (.region [⟨none,.mv (.var 16),none⟩,⟨none,.mv (.var 20),none⟩,⟨none,.mv (.var 17),none⟩,⟨none,.fieldAddr 0 (.var 5),none⟩,⟨none,.load false 1 (.tmp 3),none⟩,⟨none,.mv (.var 20),none⟩,⟨none,.indexSl 2 (.tmp 4) (.tmp 5),none⟩,⟨none,.fieldAddr 0 (.tmp 6),none⟩,⟨none,.load false 1 (.tmp 7),none⟩,⟨none,.bin .add (.tmp 2) (.tmp 8),none⟩,⟨none,.indexSl 1 (.tmp 0) (.tmp 1),none⟩,⟨none,.store 1 (.tmp 10) (.tmp 9),none⟩])) .skip))))))))))) (.kill [0,1,2,3,6,7,10,11,12,13,15,20,21,22,23,24,25,26,27,28,29,30,31])) (.region [⟨none,.mv (.var 19),none⟩,⟨none,.bin .add (.tmp 0) (.cst (.int .i64 1)),none⟩,⟨some 19,.mv (.tmp 1),none⟩]))
def mf5:cB:=⟨2,32,.seq (.region [⟨some 2,.box (.var 0),none⟩,⟨some 3,.mv (.cst (.bool false)),none⟩]) (.seq (.region [⟨none,.call (.fn 11) [],none⟩,⟨some 4,.mv (.tmp 0),none⟩]) (.seq (.region [⟨none,.load true 6 (.var 2),none⟩,⟨none,.call (.fn 13) [.tmp 0],none⟩,⟨none,.mv (.tmp 1),none⟩,⟨none,.extract (.tmp 2) 0,none⟩,⟨none,.extract (.tmp 2) 1,none⟩,⟨none,.extract (.tmp 2) 2,none⟩,⟨some 5,.alloc 5 (.agg [.nilS,.int .i64 0,.int .i64 0,.int .i64 0,.int .i64 0]),none⟩,⟨none,.store 5 (.var 5) (.tmp 3),none⟩,⟨some 6,.mv (.tmp 4),none⟩,⟨some 7,.mv (.tmp 5),none⟩]) (.seq (.region [⟨none,.fieldAddr 0 (.var 5),none⟩,⟨none,.load false 1 (.tmp 0),none⟩,⟨none,.lenSl (.tmp 1),none⟩,⟨some 8,.mv (.tmp 2),none⟩]) (.seq (.region [⟨some 9,.mv (.cst .nilS),none⟩]) (.seq (.region [⟨none,.mv (.var 7),none⟩,⟨none,.fieldAddr 3 (.var 5),none⟩,⟨none,.load false 1 (.tmp 1),none⟩,⟨none,.bin .add (.tmp 0) (.tmp 2),none⟩,⟨some 10,.mv (.tmp 3),none⟩]) (.seq (.seq (.region [⟨some 11,.mv (.cst (.int .i64 0)),none⟩]) (.seq (.block 0 (.loop [0,3,12,13,14,15,16,17,18,19,20,21,22,23,24,25,26,27,28,29,30,31] rM)) (.kill [0,1,3,10,11,12,13,14,15,16,17,18,19,20,21,22,23,24,25,26,27,28,29,30,31]))) (.seq (.seq (.region [⟨none,.load true 5 (.var 5),none⟩,⟨none,.mv (.var 6),none⟩,⟨none,.mv (.var 7),none⟩,⟨none,.call (.fn 14) [.tmp 0,.tmp 1,.tmp 2,.cst (.int .i64 0)],none⟩,⟨none,.mv (.tmp 3),none⟩,⟨none,.extract (.tmp 4) 0,none⟩,⟨none,.extract (.tmp 4) 1,none⟩,⟨some 12,.mv (.tmp 5),none⟩,⟨some 13,.mv (.tmp 6),none⟩]) (.seq (.region [⟨none,.mv (.var 13),none⟩,⟨none,.mv (.tmp 0),none⟩,⟨none,.fieldAddr 5 (.var 2),some (.tmp 1,true)⟩,⟨none,.load false 1 (.tmp 2),some (.tmp 1,true)⟩,⟨none,.call (.fn 21) [.tmp 3,.cst (.int .i64 2)],some (.tmp 1,true)⟩,⟨none,.bin .eql (.tmp 4) (.cst (.int .i64 0)),some (.tmp 1,true)⟩,⟨some 22,.pick (.tmp 1) (.tmp 5) (.cst (.bool false)),none⟩]) (.cond (.var 22) (.region [⟨none,.mv (.var 12),none⟩,⟨some 9,.mv (.tmp 0),none⟩]) .skip))) (.seq (.region [⟨none,.load true 5 (.var 5),none⟩,⟨none,.mv (.var 6),none⟩,⟨none,.mv (.var 7),none⟩,⟨none,.mv (.var 9),none⟩,⟨none,.call (.fn 17) [.tmp 0,.tmp 1,.tmp 2,.tmp 3],none⟩,⟨none,.mv (.tmp 4),none⟩,⟨none,.extract (.tmp 5) 0,none⟩,⟨none,.extract (.tmp 5) 1,none⟩,⟨some 14,.mv (.tmp 6),none⟩,⟨some 15,.mv (.tmp 7),none⟩]) (.seq (.seq (.region [⟨none,.mv (.var 15),none⟩,⟨some 23,.un .not (.tmp 0),none⟩]) (.cond (.var 23) (.seq (.region [⟨none,.mv (.var 4),none⟩,⟨none,.mv (.tmp 0),none⟩,⟨none,.mv (.var 14),some (.tmp 1,true)⟩,⟨none,.bin .eql (.tmp 2) (.cst (.int .i64 0)),some (.tmp 1,true)⟩,⟨none,.pick (.tmp 1) (.tmp 3) (.cst (.bool false)),none⟩,⟨some 3,.mv (.tmp 4),none⟩]) .ret) .skip)) (.seq (.region [⟨none,.buildSlice 1 [],none⟩,⟨none,.mv (.var 6),none⟩,⟨none,.append 1 8 (.tmp 0) (.tmp 1),none⟩,⟨some 16,.mv (.tmp 2),none⟩]) (.seq (.region [⟨none,.mv (.var 7),none⟩,⟨some 17,.mv (.tmp 0),none⟩]) (.seq (.region [⟨some 18,.mv (.cst (.int .i64 (-1))),none⟩]) (.seq (.seq (.region [⟨some 19,.mv (.cst (.int .i64 0)),none⟩]) (.seq (.block 2 (.loop [0,1,2,3,6,7,10,11,12,13,15,20,21,22,23,24,25,26,27,28,29,30,31] kE)) (.kill [0,1,2,3,5,6,7,8,9,10,11,12,13,15,16,18,19,20,21,22,23,24,25,26,27,28,29,30,31]))) (.seq (.region [⟨none,.mv (.var 4),none⟩,⟨none,.mv (.tmp 0),none⟩,⟨none,.mv (.var 14),some (.tmp 1,true)⟩,⟨none,.mv (.var 17),some (.tmp 1,true)⟩,⟨none,.bin .eql (.tmp 2) (.tmp 3),some (.tmp 1,true)⟩,⟨none,.pick (.tmp 1) (.tmp 4) (.cst (.bool false)),none⟩,⟨some 3,.mv (.tmp 5),none⟩]) .ret)))))))))))))),[.tmp 3]⟩
def nR:List Nat:=[0,3,12,13,14,15,16,17,18,19,20,21,22,23,24,25,26,27,28,29,30,31]
abbrev CU (v1 v2 v4 v5 v6 v7 v8 v9 v10 v11:AV):List AV:=[.undef,v1,v2,.undef,v4,v5,v6,v7,v8,v9,v10,v11,.undef,.undef,.undef,.undef,.undef,.undef,.undef,.undef,.undef,.undef,.undef,.undef,.undef,.undef,.undef,.undef,.undef,.undef,.undef,.undef]
theorem Es {d0 v1 v2 d3 v4 v5 v6 v7 v8 v9 v10 v11 d12 d13 d14 d15 d16 d17 d18 d19 d20 d21 d22 d23 d24 d25 d26 d27 d28 d29 d30 d31:AV}:clear nR [d0,v1,v2,d3,v4,v5,v6,v7,v8,v9,v10,v11,d12,d13,d14,d15,d16,d17,d18,d19,d20,d21,d22,d23,d24,d25,d26,d27,d28,d29,d30,d31]=CU v1 v2 v4 v5 v6 v7 v8 v9 v10 v11:=by simp only [nR,clear,List.foldl_cons,List.foldl_nil,List.set_cons_zero,List.set_cons_succ]
theorem wd {E:Env} {fuel:Nat} {A:aa} {o:Out} {k:List KC} {d0 v1 v2 d3 v4 v5 v6 v7 v8 v9 v10 v11 d12 d13 d14 d15 d16 d17 d18 d19 d20 d21 d22 d23 d24 d25 d26 d27 d28 d29 d30 d31:AV} (h:b8 (evC E fuel rM) nR fuel (CU v1 v2 v4 v5 v6 v7 v8 v9 v10 v11) A=some o) :
  run E fuel (.code (.loop [0,3,12,13,14,15,16,17,18,19,20,21,22,23,24,25,26,27,28,29,30,31] rM) :: k) [d0,v1,v2,d3,v4,v5,v6,v7,v8,v9,v10,v11,d12,d13,d14,d15,d16,d17,d18,d19,d20,d21,d22,d23,d24,d25,d26,d27,d28,d29,d30,d31] A=after E fuel k o:=aU nR _ _ (by rw [Es]; exact h)
def kD:List Nat:=[0,1,2,3,6,7,10,11,12,13,15,20,21,22,23,24,25,26,27,28,29,30,31]
abbrev z8 (v4 v5 v8 v9 v14 v16 v17 v18 v19:AV):List AV:=[.undef,.undef,.undef,.undef,v4,v5,.undef,.undef,v8,v9,.undef,.undef,.undef,.undef,v14,.undef,v16,v17,v18,v19,.undef,.undef,.undef,.undef,.undef,.undef,.undef,.undef,.undef,.undef,.undef,.undef]
theorem Er {d0 d1 d2 d3 v4 v5 d6 d7 v8 v9 d10 d11 d12 d13 v14 d15 v16 v17 v18 v19 d20 d21 d22 d23 d24 d25 d26 d27 d28 d29 d30 d31:AV}:clear kD [d0,d1,d2,d3,v4,v5,d6,d7,v8,v9,d10,d11,d12,d13,v14,d15,v16,v17,v18,v19,d20,d21,d22,d23,d24,d25,d26,d27,d28,d29,d30,d31]=z8 v4 v5 v8 v9 v14 v16 v17 v18 v19:=by simp only [kD,clear,List.foldl_cons,List.foldl_nil,List.set_cons_zero,List.set_cons_succ]
theorem En {E:Env} {fuel:Nat} {A:aa} {o:Out} {k:List KC} {d0 d1 d2 d3 v4 v5 d6 d7 v8 v9 d10 d11 d12 d13 v14 d15 v16 v17 v18 v19 d20 d21 d22 d23 d24 d25 d26 d27 d28 d29 d30 d31:AV} (h:b8 (evC E fuel kE) kD fuel (z8 v4 v5 v8 v9 v14 v16 v17 v18 v19) A=some o) :
  run E fuel (.code (.loop [0,1,2,3,6,7,10,11,12,13,15,20,21,22,23,24,25,26,27,28,29,30,31] kE) :: k) [d0,d1,d2,d3,v4,v5,d6,d7,v8,v9,d10,d11,d12,d13,v14,d15,v16,v17,v18,v19,d20,d21,d22,d23,d24,d25,d26,d27,d28,d29,d30,d31] A=after E fuel k o:=aU kD _ _ (by rw [Er]; exact h)
theorem KY:aE Try.prog Try.f5 2 [0,1,2,4,5,6,7,8,9,10,11,12,13,14,15,16,17,18,19,20,21,43,84,95,108,122,125,136,180,182,205,210] [] true ([[0,3,12,13,14,15,16,17,18,19,20,21,22,23,24,25,26,27,28,29,30,31],[0,1,2,3,6,7,10,11,12,13,15,20,21,22,23,24,25,26,27,28,29,30,31]],[[0,3,12,13,14,15,16,17,18,19,20,21,22,23,24,25,26,27,28,29,30,31],[0,1,3,10,11,12,13,14,15,16,17,18,19,20,21,22,23,24,25,26,27,28,29,30,31],[0,1,2,3,6,7,10,11,12,13,15,20,21,22,23,24,25,26,27,28,29,30,31],[0,1,2,3,5,6,7,8,9,10,11,12,13,15,16,18,19,20,21,22,23,24,25,26,27,28,29,30,31]])=some mf5:=by kernel_rfl
theorem at5:Try.prog.funcs[5]?=some Try.f5:=by kernel_rfl
end Tr
namespace Tr
open Go
open Cy (GC aL bc aB dt)
open Clu (aR a6 rf au chA aS cc dA ce da bz cF dM aV cE)
def RdV (D:Nat) (A:aa) (v:AV) (l:List cS):Prop:=SlA 2 (l.map aX) v\/∃id g,v=.sl id 0 l.length/\id<D/\A[id]?=some (.row 2 g (l.map aX))
theorem RdV.keep {D:Nat} {A B:aa} {v:AV} {l:List cS} (h:RdV D A v l) (hk:∀j,j<D->B[j]?=A[j]?):RdV D B v l:=by
 rcases h with h | ⟨id,g,h1,h2,h3⟩
 ·exact .inl h
 ·exact .inr ⟨id,g,h1,h2,by rw [hk id h2]; exact h3⟩
theorem RdV.len {D:Nat} {A:aa} {v:AV} {l:List cS} (h:RdV D A v l):an v=some (.int .i64 (l.length:Int)):=by
 rcases h with h | ⟨id,g,rfl,_⟩
 ·have:=h.len
  rw [List.length_map] at this
  exact this
 ·rfl
theorem RdV.get {D:Nat} {A:aa} {v:AV} {l:List cS} (h:RdV D A v l) {i:Nat} {t:cS} (ht:l[i]?=some t) (_hl:l.length<=100000):∃p q0 q1,ai 2 A v (.int .i64 (i:Int))=some p/\ab 0 A p=some q0/\ac false 1 A q0=some (.int .i64 t.1)/\ab 1 A p=some q1/\ac false 1 A q1=some (.int .i64 t.2):=by
 have hil:=(List.getElem?_eq_some_iff.1 ht).1
 rcases h with h | ⟨id,g,rfl,_,hr⟩
 ·refine ⟨_,.fp [.int .i64 t.1,.int .i64 t.2],.fp [.int .i64 t.2],h.index (A:=A) (x:=aX t) (i:=i) (by rw [List.getElem?_map,ht]; rfl) rfl (by omega) .i64,rfl,rfl,rfl,rfl⟩
 ·have e:(l.map aX)[i]?=some (aX t):=by rw [List.getElem?_map,ht]; rfl
  refine ⟨.ptr id i 0,.ptr id i 0,.ptr id i 1,I3 hr hil,by simp [ab,hr],?_,by simp [ab,hr],?_⟩
  ·simp only [ac,hr,e]; rfl
  ·simp only [ac,hr,e]; rfl
theorem RdV.frz {D:Nat} {A:aa} {v:AV} {l:List cS} (h:RdV D A v l) (k:Nat):SlA 2 (l.map aX) (Go.Proofs.Ytkcjhljbgjpklaa.frz A (k+3) v):=by
 rcases h with h | ⟨id,g,rfl,_,hr⟩
 ·rw [h.frz]; exact h
 ·right
  simp only [Go.Proofs.Ytkcjhljbgjpklaa.frz,hr]
  rw [List.drop_zero,List.take_of_length_le (by simp),List.map_map]
  congr 1
theorem pC {T:aR} {s s':St} {t:cS} (h:eK T s t=some s') (hn:s.inn.length=T.ch.length) :
  (0<=t.1/\t.1<=T.ch.length)/\s.fin+btw T s.last t.1<=t.2/\t.2<=1000000000 /\
  ∃a,(1<=t.1->(0<=s.inn.getD (t.1-1).toNat 0/\s.inn.getD (t.1-1).toNat 0<=t.2/\t.2<=s.inn.getD (t.1-1).toNat 0+syT T (t.1-1).toNat)/\a=s.inn.set (t.1-1).toNat (-1))/\(¬ 1<=t.1->a=s.inn) /\
  (t.1<T.ch.length->a.getD t.1.toNat 0<0/\s'.inn=a.set t.1.toNat (t.2+wT T+tmT T t.1.toNat))/\(¬ t.1<T.ch.length->s'.inn=a)/\a.length=T.ch.length/\s'.inn.length=T.ch.length/\s'.last=t.1/\s'.fin=t.2+wT T:=by
 unfold eK at h
 split at h
 ·rename_i hc
  rw [hn] at hc
  rw [Option.bind_eq_some_iff] at h
  obtain ⟨a,ha,h⟩:=h
  rw [Option.map_eq_some_iff] at h
  obtain ⟨b,hb,rfl⟩:=h
  refine ⟨hc.1,hc.2.1,hc.2.2,a,?_⟩
  unfold lZ at ha
  unfold vU at hb
  have hal:a.length=T.ch.length:=by
   split at ha
   ·split at ha
    ·injection ha with ha; rw [<-ha,List.length_set,hn]
    ·cases ha
   ·injection ha with ha; rw [<-ha,hn]
  rw [hal] at hb
  have hbl:b.length=T.ch.length:=by
   split at hb
   ·split at hb
    ·cases hb
    ·injection hb with hb; rw [<-hb,List.length_set,hal]
   ·injection hb with hb; rw [<-hb,hal]
  refine ⟨fun h1=>?_,fun h1=>?_,fun h2=>?_,fun h2=>?_,hal,hbl,rfl,rfl⟩
  ·rw [if_pos h1] at ha
   split at ha
   ·rename_i hh; injection ha with ha; exact ⟨hh,ha.symm⟩
   ·cases ha
  ·rw [if_neg h1] at ha; injection ha with ha; exact ha.symm
  ·rw [if_pos h2] at hb
   split at hb
   ·cases hb
   ·rename_i hh; injection hb with hb; exact ⟨by omega,hb.symm⟩
  ·rw [if_neg h2] at hb; injection hb with hb; exact hb.symm
 ·cases h
section
variable {x:XC} {B:aa} {lv:AV} {l:List cS}
abbrev s5 (v4:AV) (N n:Nat) (lv:AV) (v14:AV) (s:St) (i:Nat):List AV:=z8 v4 (.ptr 1 0 0) (.int .i64 (n:Int)) lv v14 (.sl (N+1) 0 n) (.int .i64 s.fin) (.int .i64 (s.last+1)) (.int .i64 (i:Int))
theorem sZ {T:aR} {chv:AV} {A:aa} {id:Nat} (h:A[id]?=some (.row 5 false [au T chv])):(∀k,k<5->ab k A (.ptr id 0 0)=some (.ptr id 0 k))/\ac false 1 A (.ptr id 0 0)=some chv/\ac false 1 A (.ptr id 0 1)=some (.int .i64 T.pick)/\ac false 1 A (.ptr id 0 2)=some (.int .i64 T.place)/\ac false 1 A (.ptr id 0 3)=some (.int .i64 T.travel):=
 ⟨fun k hk=>by simp [ab,h]; exact hk,nX (k:=5) (es:=[chv,.int .i64 T.pick,.int .i64 T.place,.int .i64 T.travel,.int .i64 T.blades]) h rfl,nX (k:=5) (es:=[chv,.int .i64 T.pick,.int .i64 T.place,.int .i64 T.travel,.int .i64 T.blades]) h rfl,nX (k:=5) (es:=[chv,.int .i64 T.pick,.int .i64 T.place,.int .i64 T.travel,.int .i64 T.blades]) h rfl,nX (k:=5) (es:=[chv,.int .i64 T.pick,.int .i64 T.place,.int .i64 T.travel,.int .i64 T.blades]) h rfl⟩
theorem DA (hB:B[1]?=some (.row 5 false [x.tv])) {N:Nat} (hN:B.length=N) (hN2:2<=N) (hll:l.length<=1000) {s s':St} (hr:RdV N (C9 B s.inn) lv l) (hn:s.inn.length=x.T.ch.length) {i:Nat} {t:cS} (ht:l[i]?=some t) (hs:eK x.T s t=some s') (hf : -1000<=s.fin/\s.fin<=2000000000) (hT4:x.T.ch.length<=4) (v4 v14:AV) :
  run (ax GC fsL) 300 [.code kE] (s5 v4 N x.T.ch.length lv v14 s i) (C9 B s.inn)=some (.normal (s5 v4 N x.T.ch.length lv v14 s' (i+1)) (C9 B s'.inn)):=by
 obtain ⟨hk,h2,h3,a,h4,h5,h6,h7,hal,hbl,h8,h9⟩:=pC hs hn
 unfold s5
 rw [h8,h9]
 have hil:=(List.getElem?_eq_some_iff.1 ht).1
 obtain ⟨q1,q2,q3,q4⟩:=jJ x.ys x.a x.b x.c
 have q1:0<=x.T.pick/\x.T.pick<=3:=q1
 have q2:0<=x.T.place/\x.T.place<=3:=q2
 have q3:0<=x.T.travel/\x.T.travel<=4:=q3
 have q4:∀d∈x.T.ch,(0<=d.1/\d.1<=59)/\0<=d.2/\d.2<=249:=q4
 obtain ⟨p,p0,p1,x0,x1,x2,x3,x4⟩:=hr.get ht (by omega)
 have hx:∀L,RdV N (C9 B L) lv l:=fun L=>hr.keep fun j hj=>by
  unfold C9; rw [List.getElem?_append_left (by omega),List.getElem?_append_left (by omega)]
 have hlv:=hr.len
 have b0:=br i l.length .i64
 rw [decide_eq_true hil] at b0
 have b1:=ce t.1 0
 rw [decide_eq_false (by omega)] at b1
 have b2:=cF t.1 (x.T.ch.length:Int)
 rw [decide_eq_false (by omega)] at b2
 have b3:=da (s.last+1) t.1
 have hrow:∀L,(C9 B L)[N+1]?=some (.row 1 false (ak L)):=fun L=>by
  unfold C9; rw [List.getElem?_append_right (by omega),hN,show N+1-N=1 by omega]; rfl
 have hset:∀L L',(C9 B L).set (N+1) (.row 1 false (ak L'))=C9 B L':=fun L L'=>by
  unfold C9; rw [List.set_append_right _ _ (by omega),hN,show N+1-N=1 by omega]; rfl
 have htool:∀L,(C9 B L)[1]?=some (.row 5 false [au x.T x.ch]):=fun L=>by
  unfold C9; rw [List.getElem?_append_left (by omega)]; exact hB
 obtain ⟨f0,c0,c1,c2,c3⟩:=sZ (htool s.inn)
 have f3:=f0 3 (by omega)
 have f1:=f0 1 (by omega)
 have f2:=f0 2 (by omega)
 have f00:=f0 0 (by omega)
 have hbt:btw x.T s.last t.1=if t.1=s.last+1 then 0 else x.T.travel:=rfl
 obtain ⟨fr,hfr⟩:∃fr,fr=s.fin+btw x.T s.last t.1:=⟨_,rfl⟩
 have bT:ag .add (.int .i64 s.fin) (.int .i64 x.T.travel)=some (.int .i64 (s.fin+x.T.travel)):=aS (by omega)
 have b4:=ce t.2 fr
 rw [decide_eq_false (by omega)] at b4
 have ht0 : -1000<=t.2:=by rw [hbt] at h2; split at h2 <;> omega
 have a1:ag .add (.int .i64 t.2) (.int .i64 x.T.pick)=some (.int .i64 (t.2+x.T.pick)):=aS (by omega)
 have a2:ag .add (.int .i64 (t.2+x.T.pick)) (.int .i64 x.T.travel)=some (.int .i64 (t.2+x.T.pick+x.T.travel)):=aS (by omega)
 have a3:ag .add (.int .i64 (t.2+x.T.pick+x.T.travel)) (.int .i64 x.T.place)=some (.int .i64 (t.2+wT x.T)):=by rw [aS (by omega)]; congr 2; unfold wT; omega
 have a4:ag .add (.int .i64 t.1) (.int .i64 1)=some (.int .i64 (t.1+1)):=aS (by omega)
 have a5:=a9 i (by omega)
 have b5:=cF t.1 0
 have b6:=ce t.1 (x.T.ch.length:Int)
 obtain ⟨f0a,c0a,c1a,c2a,c3a⟩:=sZ (htool a)
 have f3a:=f0a 3 (by omega)
 have f1a:=f0a 1 (by omega)
 have f2a:=f0a 2 (by omega)
 have f00a:=f0a 0 (by omega)
 obtain ⟨p',p0',p1',x0',x1',x2',x3',x4'⟩:=(hx a).get ht (by omega)
 obtain ⟨w,hw⟩:∃w,w=t.2+wT x.T:=⟨_,rfl⟩
 have hwb : -1000<=w/\w<=1000001000:=by rw [hw]; unfold wT; omega
 rw [<-hw] at a3 h6 ⊢
 have last:∃D,D=C9 B s'.inn/\(t.1<x.T.ch.length->∃c tm st dn,ai 2 (C9 B a) x.ch (.int .i64 t.1)=some (.fp [.int .i64 tm,.int .i64 c])/\ag .add (.int .i64 w) (.int .i64 tm)=some (.int .i64 st)/\ai 1 (C9 B a) (.sl (N+1) 0 x.T.ch.length) (.int .i64 t.1)=some (.ptr (N+1) t.1.toNat 0)/\ac false 1 (C9 B a) (.ptr (N+1) t.1.toNat 0)=some (.int .i64 dn)/\ag .geq (.int .i64 dn) (.int .i64 0)=some (.bool false)/\aA 1 (C9 B a) (.ptr (N+1) t.1.toNat 0) (.int .i64 st)=some D)/\(¬ t.1<x.T.ch.length->D=C9 B a):=by
  refine ⟨_,rfl,fun hlt=>?_,fun hlt=>by rw [h7 hlt]⟩
  obtain ⟨k,hkk⟩:∃k:Nat,t.1=k:=⟨t.1.toNat,by omega⟩
  have hkn:k<x.T.ch.length:=by omega
  obtain ⟨g1,g2⟩:=h6 hlt
  rw [hkk,Int.toNat_natCast] at g1 g2 ⊢
  have hch:=q4 x.T.ch[k] (List.getElem_mem hkn)
  have etm:tmT x.T k=(x.T.ch[k]).1:=by unfold tmT; rw [List.getD_eq_getElem?_getD,List.getElem?_eq_getElem hkn]; rfl
  refine ⟨(x.T.ch[k]).2,(x.T.ch[k]).1,w+tmT x.T k,a.getD k 0,?_,?_,eh (n:=x.T.ch.length) (hrow a) hkn .i64,lM (hrow a) (by omega),?_,?_⟩
  ·exact x.chS.index (A:=C9 B a) (x:=chA x.T.ch[k]) (i:=k) (by simp [hkn]) rfl (by omega) .i64
  ·rw [etm]; exact aS (by omega)
  ·rw [show ag .geq (.int .i64 (a.getD k 0)) (.int .i64 0)=some (.bool (decide (0<=a.getD k 0))) by simp [ag],decide_eq_false (by omega)]
  ·rw [kS (hrow a) (by omega),hset,g2]
 obtain ⟨D,hD,l1,l2⟩:=last
 have fl0:∀A u v,ab 0 A (.fp [u,v])=some (.fp [u,v]):=fun _ _ _=>rfl
 have fl1:∀A u v,ab 1 A (.fp [u,v])=some (.fp [v]):=fun _ _ _=>rfl
 have ll0:∀A z v,ac false 1 A (.fp [.int .i64 z,v])=some (.int .i64 z):=fun _ _ _=>rfl
 have ll1:∀A z,ac false 1 A (.fp [.int .i64 z])=some (.int .i64 z):=fun _ _=>rfl
 obtain ⟨K,hK⟩:∃K,K=(t.1).toNat:=⟨_,rfl⟩
 rw [<-hK] at l1
 rw [<-hD]
 have mid:1<=t.1->∃j w0 sy fs tm,ag .sub (.int .i64 t.1) (.int .i64 1)=some (.int .i64 ((j:Nat):Int))/\ai 1 (C9 B s.inn) (.sl (N+1) 0 x.T.ch.length) (.int .i64 (j:Int))=some (.ptr (N+1) j 0)/\ac false 1 (C9 B s.inn) (.ptr (N+1) j 0)=some (.int .i64 w0)/\ag .lss (.int .i64 w0) (.int .i64 0)=some (.bool false)/\ag .lss (.int .i64 t.2) (.int .i64 w0)=some (.bool false)/\ai 2 (C9 B s.inn) x.ch (.int .i64 (j:Int))=some (.fp [.int .i64 tm,.int .i64 sy])/\ag .add (.int .i64 w0) (.int .i64 sy)=some (.int .i64 fs)/\ag .gtr (.int .i64 t.2) (.int .i64 fs)=some (.bool false)/\aA 1 (C9 B s.inn) (.ptr (N+1) j 0) (.int .i64 (-1))=some (C9 B a):=by
  intro h1
  obtain ⟨j,hj⟩:∃j:Nat,t.1=(j:Int)+1:=⟨(t.1-1).toNat,by omega⟩
  have hjn:j<x.T.ch.length:=by omega
  obtain ⟨⟨g1,g2,g3⟩,g4⟩:=h4 h1
  have ej:(t.1-1).toNat=j:=by omega
  rw [ej] at g1 g2 g3 g4
  have hch:=q4 x.T.ch[j] (List.getElem_mem hjn)
  have esy:syT x.T j=(x.T.ch[j]).2:=by unfold syT; rw [List.getD_eq_getElem?_getD,List.getElem?_eq_getElem hjn]; rfl
  refine ⟨j,s.inn.getD j 0,(x.T.ch[j]).2,s.inn.getD j 0+syT x.T j,(x.T.ch[j]).1,?_,eh (n:=x.T.ch.length) (hrow s.inn) hjn .i64,lM (hrow s.inn) (by omega),?_,?_,?_,?_,?_,?_⟩
  ·rw [cc (by omega)]; congr 2; omega
  ·rw [ce,decide_eq_false (by omega)]
  ·rw [ce,decide_eq_false (by omega)]
  ·exact x.chS.index (A:=C9 B s.inn) (x:=chA x.T.ch[j]) (i:=j) (by simp [hjn]) rfl (by omega) .i64
  ·rw [esy]; exact aS (by omega)
  ·rw [cF,decide_eq_false (by omega)]
  ·rw [kS (hrow s.inn) (by omega),hset,g4]
 have hC:¬ 1<=t.1->C9 B a=C9 B s.inn:=fun h=>by rw [h5 h]
 obtain ⟨n,hnn⟩:∃n,n=x.T.ch.length:=⟨_,rfl⟩
 have hn1:=x.nb
 unfold XC.n at hn1
 rw [<-hnn] at b2 b6 l1 l2 mid hk hn1 ⊢
 obtain ⟨i1,hi1⟩:∃j,j=i+1:=⟨_,rfl⟩
 rw [<-hi1] at a5 ⊢
 obtain ⟨k,hkt⟩:∃k,k=t.1:=⟨_,rfl⟩
 rw [<-hkt] at b1 b2 b3 b5 b6 a4 l1 l2 mid hC hk hfr hbt x2 x2' ⊢
 have hfr2:fr=if k=s.last+1 then s.fin else s.fin+x.T.travel:=by rw [hfr,hbt]; split <;> omega
 obtain ⟨la,hla⟩:∃la,la=s.last+1:=⟨_,rfl⟩
 rw [<-hla] at b3 hfr2 ⊢
 clear hfr h2 hw hbl hal h4 h5 h6 h7 h8 h9 hr hx hrow hset htool hs ht hil hnn hi1 hkt hbt q4 q1 q2 q3 hB f0 f0a hD
 generalize hCa:C9 B a=Ca at *
 generalize hCs:C9 B s.inn=Cs at *
 generalize x.T.travel=tv at *
 generalize x.T.pick=pk at *
 generalize x.T.place=pc at *
 generalize x.ch=CH at *
 generalize s.fin=fi at *
 generalize t.2=t2 at *
 by_cases h1:1<=k
 ·obtain ⟨j,w0,sy,fs,tm,m1,m2,m3,m4,m5,m6,m7,m8,m9⟩:=mid h1
  rw [decide_eq_true (by omega)] at b5
  by_cases e1:k=la
  ·rw [if_pos e1] at hfr2
   rw [decide_eq_false (by omega)] at b3
   subst hfr2
   by_cases e2:k<(n:Int)
   ·rw [decide_eq_true e2] at b6
    obtain ⟨c,tm2,st,dn,n1,n2,n3,n4,n5,n6⟩:=l1 e2
    simp [kE,hlv,b0,x0,x1,x2,x3,x4,b1,b2,b3,b4,b5,m1,m2,m3,m4,m5,m6,m7,m8,m9,x0',x3',x4',a1,a2,a3,a4,a5,b6,f00,f1a,f2a,f3a,f00a,c0,c0a,c1a,c2a,c3a,n1,n2,n3,n4,n5,n6,fl0,fl1,ll0,ll1,-ag,-ac,-aA,-ai,-ab,-an]
   ·rw [decide_eq_false e2] at b6
    rw [l2 e2]
    simp [kE,hlv,b0,x0,x1,x2,x3,x4,b1,b2,b3,b4,b5,m1,m2,m3,m4,m5,m6,m7,m8,m9,x0',x3',x4',a1,a2,a3,a4,a5,b6,f00,f1a,f2a,f3a,c0,c1a,c2a,c3a,fl1,ll1,-ag,-ac,-aA,-ai,-ab,-an]
  ·rw [if_neg e1] at hfr2
   rw [decide_eq_true (by omega)] at b3
   subst hfr2
   by_cases e2:k<(n:Int)
   ·rw [decide_eq_true e2] at b6
    obtain ⟨c,tm2,st,dn,n1,n2,n3,n4,n5,n6⟩:=l1 e2
    simp [kE,hlv,b0,x0,x1,x2,x3,x4,b1,b2,b3,bT,b4,b5,m1,m2,m3,m4,m5,m6,m7,m8,m9,x0',x3',x4',a1,a2,a3,a4,a5,b6,f3,f00,f1a,f2a,f3a,f00a,c0,c3,c0a,c1a,c2a,c3a,n1,n2,n3,n4,n5,n6,fl0,fl1,ll0,ll1,-ag,-ac,-aA,-ai,-ab,-an]
   ·rw [decide_eq_false e2] at b6
    rw [l2 e2]
    simp [kE,hlv,b0,x0,x1,x2,x3,x4,b1,b2,b3,bT,b4,b5,m1,m2,m3,m4,m5,m6,m7,m8,m9,x0',x3',x4',a1,a2,a3,a4,a5,b6,f3,f00,f1a,f2a,f3a,c0,c3,c1a,c2a,c3a,fl1,ll1,-ag,-ac,-aA,-ai,-ab,-an]
 ·rw [decide_eq_false (by omega)] at b5
  have e2:k<(n:Int):=by omega
  rw [decide_eq_true e2] at b6
  obtain ⟨c,tm2,st,dn,n1,n2,n3,n4,n5,n6⟩:=l1 e2
  rw [hC h1] at n1 n3 n4 n6
  by_cases e1:k=la
  ·rw [if_pos e1] at hfr2
   rw [decide_eq_false (by omega)] at b3
   subst hfr2
   simp [kE,hlv,b0,x0,x1,x2,x3,x4,b1,b2,b3,b4,b5,a1,a2,a3,a4,a5,b6,f1,f2,f3,f00,c0,c1,c2,c3,n1,n2,n3,n4,n5,n6,fl0,ll0,-ag,-ac,-aA,-ai,-ab,-an]
  ·rw [if_neg e1] at hfr2
   rw [decide_eq_true (by omega)] at b3
   subst hfr2
   simp [kE,hlv,b0,x0,x1,x2,x3,x4,b1,b2,b3,bT,b4,b5,a1,a2,a3,a4,a5,b6,f1,f2,f3,f00,c0,c1,c2,c3,n1,n2,n3,n4,n5,n6,fl0,ll0,-ag,-ac,-aA,-ai,-ab,-an]
end
end Tr
namespace Tr
open Go
open Cy (GC aL bc aB dt)
open Clu (aR a6 rf cH Chk q8 au chA aS cc dA ce da bz cF dM aV cE)
section
variable {x:XC} {B:aa} {lv:AV} {l:List cS}
theorem F3 (hB:B[1]?=some (.row 5 false [x.tv])) {N:Nat} (hN:B.length=N) (hN2:2<=N) (hll:l.length<=200) {sf:St} (v4 v14:AV):∀(c i m:Nat) (s:St),i+c=l.length->c<m->s.inn.length=x.T.ch.length->RdV N (C9 B s.inn) lv l->0<=s.fin/\s.fin<=1000000100->sw x.T s (l.drop i)=some sf ->
  b8 (evC (ax GC fsL) 300 kE) kD m (s5 v4 N x.T.ch.length lv v14 s i) (C9 B s.inn)=some (.exit 2 ((s5 v4 N x.T.ch.length lv v14 sf l.length).set 24 (.bool false)) (C9 B sf.inn)):=by
 intro c
 induction c with
 | zero=>
  intro i m s hi hm hn hr hf hs
  obtain ⟨m,rfl⟩:∃j,m=j+1:=⟨m-1,by omega⟩
  obtain rfl:i=l.length:=by omega
  rw [List.drop_length] at hs
  simp only [sw,Option.some.injEq] at hs
  subst hs
  have hlv:=hr.len
  have b2:=br l.length l.length .i64
  rw [decide_eq_false (by omega)] at b2
  unfold s5
  rw [aO,Er]
  generalize C9 B s.inn=B1 at *
  simp [kE,b2,hlv,-ag,-an]
 | succ c ih=>
  intro i m s hi hm hn hr hf hs
  obtain ⟨m,rfl⟩:∃j,m=j+1:=⟨m-1,by omega⟩
  have hil:i<l.length:=by omega
  obtain ⟨t,ht⟩:∃t,t=l[i]:=⟨_,rfl⟩
  have ht':l[i]?=some t:=by rw [ht]; exact List.getElem?_eq_getElem hil
  rw [List.drop_eq_getElem_cons hil,<-ht] at hs
  simp only [sw] at hs
  rw [Option.bind_eq_some_iff] at hs
  obtain ⟨s',h1,h2⟩:=hs
  have hn4:=x.nb
  unfold XC.n at hn4
  have hr1:=DA hB hN hN2 (by omega) hr hn ht' h1 (by omega) (by omega) v4 v14
  obtain ⟨q1,q2,q3,q4⟩:=jJ x.ys x.a x.b x.c
  have q1:0<=x.T.pick/\x.T.pick<=3:=q1
  have q2:0<=x.T.place/\x.T.place<=3:=q2
  have q3:0<=x.T.travel/\x.T.travel<=4:=q3
  obtain ⟨hk,k2,k3,a,_,_,_,_,_,k5,_,k6⟩:=pC h1 hn
  have hbt:btw x.T s.last t.1=if t.1=s.last+1 then 0 else x.T.travel:=rfl
  have hfin:0<=s'.fin/\s'.fin<=1000000100:=by
   rw [k6]; unfold wT
   rw [hbt] at k2
   split at k2 <;> omega
  have:=ih (i+1) m s' (by omega) (by omega) k5 (hr.keep fun j hj=>by unfold C9; rw [List.getElem?_append_left (by omega),List.getElem?_append_left (by omega)]) hfin h2
  unfold s5 at hr1 this ⊢
  rw [aO,Er,hr1]
  exact this
abbrev s5a (yv rv:AV) (x:XC) (n:Nat) (ov:AV) (at':Int) (i:Nat):List AV:=CU yv (.ptr 0 0 0) (.bool true) (.ptr 1 0 0) rv (.int .i64 x.F) (.int .i64 (n:Int)) ov (.int .i64 at') (.int .i64 (i:Int))
theorem DB {ys:List (Int × Int)} (hys:∀y∈ys,inI y.1/\inI y.2) {yv rv:AV} (hy:SlA 2 (ys.map chA) yv) {n:Nat} (hn:n<=4) {A:aa} (hA:A[1]?=some (.row 5 false [x.tv])) (hl:2<=A.length) {ov:AV} {out:List cS} (ho:OV 2 2 A ov (out.map aX)) {at':Int} (ha:0<=at'/\at'<=1000) {i:Nat} (hi:i<ys.length) (hi2:i<12) (hol:out.length<=100) :
  ∃(ov':AV) (A':aa) (t:cS) (at2:Int),run (ax GC fsL) 300 [.code rM] (s5a yv rv x n ov at' i) A=some (.normal (s5a yv rv x n ov' at2 (i+1)) A')/\OV 2 2 A' ov' ((out++[t]).map aX)/\(∀j,j<2->A'[j]?=A[j]?)/\2<=A'.length/\at'<=at2/\at2<=at'+60:=by
 obtain ⟨y,hye⟩:∃y,y=ys[i]:=⟨_,rfl⟩
 have hyr:inI y.1/\inI y.2:=by rw [hye]; exact hys _ (List.getElem_mem hi)
 have yx:∀A,ai 2 A yv (.int .i64 (i:Int))=some (.fp [.int .i64 y.1,.int .i64 y.2]):=fun A=>by
  rw [hye]
  exact hy.index (A:=A) (x:=chA ys[i]) (by simp [hi]) rfl (by omega) .i64
 have y0:∀A,cJ 2 1 A (.fp [.int .i64 y.1,.int .i64 y.2]) (.int .i64 0)=some (.fp [.int .i64 y.1,.int .i64 y.2]):=fun A=>rfl
 have y1:∀A,cJ 2 1 A (.fp [.int .i64 y.1,.int .i64 y.2]) (.int .i64 1)=some (.fp [.int .i64 y.2]):=fun A=>rfl
 have z0:∀A,ac false 1 A (.fp [.int .i64 y.1,.int .i64 y.2])=some (.int .i64 y.1):=fun A=>rfl
 have z1:∀A,ac false 1 A (.fp [.int .i64 y.2])=some (.int .i64 y.2):=fun A=>rfl
 have hly:=hy.len
 rw [List.length_map] at hly
 have b0:=br i ys.length .i64
 rw [decide_eq_true hi] at b0
 have b1:=ce (i:Int) 12
 rw [decide_eq_true (by omega)] at b1
 have b2:=a9 i (by omega)
 have m1:=dt hyr.2 (n:=40) (by omega)
 have hp1:=cC y.2 40 (by omega)
 have bn:=aS (a:=(n:Int)) (b:=1) (by omega)
 have m2:=dt hyr.1 (n:=(n:Int)+1) (by omega)
 have ba:ag .add (.int .i64 at') (.int .i64 (pick y.2 40))=some (.int .i64 (at'+pick y.2 40)):=aS (by omega)
 obtain ⟨ov',A',ap,h1,h2,h3⟩:=zy (e:=2) (bytes:=16) (by omega) (by omega) ho hl (aX (pick y.1 ((n:Int)+1),at'+pick y.2 40)) (by rw [List.length_map]; omega)
 have ap:aM 2 16 A ov (.fs 2 [.agg [.int .i64 (pick y.1 ((n:Int)+1)),.int .i64 (at'+pick y.2 40)]])=some (ov',A'):=ap
 have etv:x.tv=.agg [x.ch,.int .i64 x.T.pick,.int .i64 x.T.place,.int .i64 x.T.travel,.int .i64 x.T.blades]:=rfl
 have hA1:A'[1]?=some (.row 5 false [x.tv]):=by rw [h2 1 (by omega)]; exact hA
 have lt:ac true 5 A' (.ptr 1 0 0)=some x.tv:=by rw [etv] at hA1 ⊢; simp [ac,hA1]
 have m22:M22 [x.tv]=some (.int .i64 (wT x.T)):=zE x.ch x.sit.1.1
 obtain ⟨q1,q2,q3,q4⟩:=jJ x.ys x.a x.b x.c
 have q1:0<=x.T.pick/\x.T.pick<=3:=q1
 have q2:0<=x.T.place/\x.T.place<=3:=q2
 have q3:0<=x.T.travel/\x.T.travel<=4:=q3
 have hw:0<=wT x.T/\wT x.T<=10:=by unfold wT; omega
 have bw:ag .add (.int .i64 (at'+pick y.2 40)) (.int .i64 (wT x.T))=some (.int .i64 (at'+pick y.2 40+wT x.T)):=aS (by omega)
 have f1:=x.tfrz
 have n1:=x.tref
 refine ⟨ov',A',(pick y.1 ((n:Int)+1),at'+pick y.2 40),at'+pick y.2 40+wT x.T,?_,by rw [List.map_append]; exact h1,h2,by omega,by omega,by omega⟩
 clear h1 h2 h3 hA hA1 ho etv q4
 unfold s5a
 obtain ⟨w,hw⟩:∃w,w=((i+1:Nat):Int):=⟨_,rfl⟩
 rw [<-hw] at b2 ⊢
 generalize at'+pick y.2 40+wT x.T=a2 at *
 generalize at'+pick y.2 40=a1 at *
 generalize pick y.1 ((n:Int)+1)=nu at *
 generalize (n:Int)+1=n1' at *
 generalize pick y.2 40=p40 at *
 generalize wT x.T=wt at *
 generalize x.tv=TV at *
 simp [rM,hly,b0,b1,b2,yx,y0,y1,z0,z1,m1,bn,m2,ba,ap,lt,m22,bw,f1,n1,aL,-ag,-an,-ac,-aA,-ai,-frz]
theorem F4 {ys:List (Int × Int)} (hys:∀y∈ys,inI y.1/\inI y.2) {yv rv:AV} (hy:SlA 2 (ys.map chA) yv) {n:Nat} (hn:n<=4):∀(c i m:Nat) (A:aa) (ov:AV) (out:List cS) (at':Int),i+c=min ys.length 12->c<m->A[1]?=some (.row 5 false [x.tv])->2<=A.length->OV 2 2 A ov (out.map aX)->out.length=i->0<=at'/\at'<=100+60*(i:Int) ->
  ∃(ov':AV) (A':aa) (out':List cS) (at2:Int) (i':Nat) (v21:AV),b8 (evC (ax GC fsL) 300 rM) nR m (s5a yv rv x n ov at' i) A=some (.exit 0 ((s5a yv rv x n ov' at2 i').set 21 v21) A')/\OV 2 2 A' ov' (out'.map aX)/\(∀j,j<2->A'[j]?=A[j]?)/\2<=A'.length/\out'.length<=12:=by
 intro c
 induction c with
 | zero=>
  intro i m A ov out at' hi hm hA hl ho hol ha
  obtain ⟨m,rfl⟩:∃j,m=j+1:=⟨m-1,by omega⟩
  refine ⟨ov,A,out,at',i,.bool false,?_,ho,fun _ _=>rfl,hl,by omega⟩
  have hly:=hy.len
  rw [List.length_map] at hly
  have b0:=br i ys.length .i64
  have b1:=ce (i:Int) 12
  unfold s5a
  rw [aO,Es]
  by_cases h:i<ys.length
  ·rw [decide_eq_true h] at b0
   rw [decide_eq_false (by omega)] at b1
   simp [rM,hly,b0,b1,-ag,-an]
  ·rw [decide_eq_false h] at b0
   simp [rM,hly,b0,-ag,-an]
 | succ c ih=>
  intro i m A ov out at' hi hm hA hl ho hol ha
  obtain ⟨m,rfl⟩:∃j,m=j+1:=⟨m-1,by omega⟩
  obtain ⟨ov1,A1,t,at2,h1,h2,h3,h4,h5,h6⟩:=DB (rv:=rv) hys hy hn hA hl ho (at':=at') (by omega) (i:=i) (by omega) (by omega) (by omega)
  obtain ⟨ov2,A2,out2,at3,i3,v21,g1,g2,g3,g4,g5⟩:=ih (i+1) m A1 ov1 (out++[t]) at2 (by omega) (by omega) (by rw [h3 1 (by omega)]; exact hA) h4 h2 (by rw [List.length_append,hol]; rfl) (by omega)
  refine ⟨ov2,A2,out2,at3,i3,v21,?_,g2,fun j hj=>by rw [g3 j hj,h3 j hj],g4,g5⟩
  unfold s5a at h1 g1 ⊢
  rw [aO,Es,h1]
  exact g1
end
theorem ev5 {x:XC} {yv rv:AV} (h:XV x yv rv) {ys:List (Int × Int)} (hys:∀y∈ys,inI y.1/\inI y.2) {wv:AV} (hw:SlA 2 (ys.map chA) wv):evP (ax GC fsL) 300 mf5 1 [x.A yv rv,wv]=some (.bool true):=by
 obtain ⟨A0,Az,s0,s1,s2,s3,s4,s5',s6,s7⟩:=II h
 have f1:∀A,frz A 4 x.tv=x.tv:=x.tfrz
 have f2:∀A n,frz A n x.rv=x.rv:=x.rfrz
 have n1:=x.tref
 have n2:=x.rref
 have hn4:=x.nb
 have hRl:x.R.length=x.T.ch.length:=tC _ _
 unfold XC.n at hn4
 have etv:x.tv=.agg [x.ch,.int .i64 x.T.pick,.int .i64 x.T.place,.int .i64 x.T.travel,.int .i64 x.T.blades]:=rfl
 obtain ⟨B1,hB1⟩:∃B,B=B0 x yv rv:=⟨_,rfl⟩
 have hB10:B1[0]?=some (.row 6 false [x.A yv rv]):=by rw [hB1]; rfl
 have hB11:B1[1]?=some (.row 5 false [x.tv]):=by rw [hB1]; rfl
 have hB1l:B1.length=2:=by rw [hB1]; rfl
 rw [<-hB1] at s7
 have hFb:=x.sit.2.2.1
 have hF60:=cC x.free 60 (by omega)
 have hF:x.F=pick x.free 60:=rfl
 obtain ⟨q1,q2,q3,q4⟩:=jJ x.ys x.a x.b x.c
 have q3:0<=x.T.travel/\x.T.travel<=4:=q3
 obtain ⟨t0,t1,_,_,t4⟩:=sZ (T:=x.T) (chv:=x.ch) hB11
 have t00:=t0 0 (by omega)
 have t03:=t0 3 (by omega)
 have lc:=x.chS.len
 rw [List.length_map] at lc
 have ba:ag .add (.int .i64 x.F) (.int .i64 x.T.travel)=some (.int .i64 (x.F+x.T.travel)):=aS (by omega)
 obtain ⟨ov,A,out,at2,i',v21,lp,ho,hk,hAl,hol⟩:=F4 (x:=x) (rv:=x.rv) hys hw (n:=x.T.ch.length) hn4.2 (min ys.length 12) 0 300 B1 .nilS [] (x.F+x.T.travel) (by omega) (by omega) hB11 (by omega) (.inl ⟨rfl,rfl⟩) rfl (by omega)
 unfold s5a at lp
 rw [show ((0:Nat):Int)=0 from rfl] at lp
 have hA0:A[0]?=some (.row 6 false [x.A yv rv]):=by rw [hk 0 (by omega)]; exact hB10
 have hA1:A[1]?=some (.row 5 false [x.tv]):=by rw [hk 1 (by omega)]; exact hB11
 have lt:ac true 5 A (.ptr 1 0 0)=some x.tv:=by rw [etv] at hA1 ⊢; simp [ac,hA1]
 obtain ⟨dv,m14,rd⟩:=EI (free:=x.F) (lost:=0) x.chS x.rvS x.chl x.Rl
 rw [dm0] at m14 rd
 have m14:E0 [x.tv,x.rv,.int .i64 x.F,.int .i64 0]=_:=m14
 have hl10:=tZ (T:=x.T) (rd:=x.R) (free:=x.F)
 obtain ⟨d,hd⟩:∃l,l=(b7 x.T x.R x.F).getD []:=⟨_,rfl⟩
 rw [<-hd] at rd hl10
 have fa5:ab 5 A (.ptr 0 0 0)=some (.ptr 0 0 5):=by simp [ab,hA0,XC.A]
 have la5:ac false 1 A (.ptr 0 0 5)=some (.int .i64 x.free):=nX (k:=6) (es:=[yv,.int .i64 x.a,.int .i64 x.b,.int .i64 x.c,rv,.int .i64 x.free]) hA0 rfl
 have m12:=dt h.f (n:=2) (by omega)
 have bp:=bz (pick x.free 2) 0
 obtain ⟨o1,ho1⟩:∃o,o=(b7 x.T x.R x.F).isSome:=⟨_,rfl⟩
 rw [<-ho1] at m14
 obtain ⟨N,hN⟩:∃N,N=A.length:=⟨_,rfl⟩
 have vo:RdV N A ov out:=by
  rcases ho with ⟨rfl,e⟩ | ⟨id,g,rfl,_,_,hr⟩
  ·exact .inl (.inl ⟨rfl,e⟩)
  ·exact .inr ⟨id,g,by rw [List.length_map],by rw [hN]; exact (List.getElem?_eq_some_iff.1 hr).1,hr⟩
 have vd:RdV N A dv d:=.inl rd
 have bs:=(show bo 1 [] A=some (.sl N 0 0,A++[.row 1 false []]) by simp [bo,hN])
 have ap:=yk (esz:=1) (bytes:=8) (by omega) (by omega) hN x.rvS (by rw [aB]; omega)
 rw [aB,hRl] at ap
 have ap:aM 1 8 (A++[.row 1 false []]) (.sl N 0 0) x.rv=some (.sl (N+1) 0 x.T.ch.length,C9 A x.R):=ap
 have main:∀(lv:AV) (l:List cS),RdV N A lv l->l.length<=12->∃fv c cb,frz A 4 lv=fv/\M17 [x.tv,x.rv,.int .i64 x.F,fv]=some (.tup [.int .i64 c,.bool cb])/\(cb=false->c=0)/\(cb=true->∃sf:St,sf.fin=c/\b8 (evC (ax GC fsL) 300 kE) kD 300 (z8 (.bool true) (.ptr 1 0 0) (.int .i64 (x.T.ch.length:Int)) lv (.int .i64 c) (.sl (N+1) 0 x.T.ch.length) (.int .i64 x.F) (.int .i64 (-1)) (.int .i64 0)) (C9 A x.R)=some (.exit 2 ((s5 (.bool true) N x.T.ch.length lv (.int .i64 c) sf l.length).set 24 (.bool false)) (C9 A sf.inn))):=by
  intro lv l hr hl
  refine ⟨_,(fQ x.T x.R x.F l).getD 0,(fQ x.T x.R x.F l).isSome,rfl,sO (T:=x.T) x.chS x.chl x.rvS x.Rl x.F (hr.frz 1) (by omega),fun hc=>?_,fun hc=>?_⟩
  ·cases hcc:fQ x.T x.R x.F l with
   | none=>rfl
   | some e=>rw [hcc] at hc; cases hc
  ·obtain ⟨e,he⟩:=Option.isSome_iff_exists.1 hc
   have he':=he
   unfold fQ at he'
   rw [if_pos x.sit,Option.map_eq_some_iff] at he'
   obtain ⟨sf,h1,h2⟩:=he'
   refine ⟨sf,by rw [he,h2]; rfl,?_⟩
   have:=F3 (l:=l) (lv:=lv) hA1 hN.symm (by omega) (by omega) (sf:=sf) (.bool true) (.int .i64 ((fQ x.T x.R x.F l).getD 0)) l.length 0 300 (st0 x.R x.F) (by omega) (by omega) hRl (hr.keep fun j hj=>by unfold C9; rw [List.getElem?_append_left (by omega)]) (by show 0<=x.F/\x.F<=_; omega) h1
   unfold s5 at this
   exact this
 obtain ⟨fo,co,cbo,mo1,mo2,mo3,mo4⟩:=main ov out vo (by omega)
 obtain ⟨fd,cd,cbd,md1,md2,md3,md4⟩:=main dv d vd (by omega)
 have ez:=bz 0 0
 rw [decide_eq_true rfl] at ez
 have ids0:∀ {e:Nat} {l:List AV} {v:AV},SlA e l v->aW v=[]:=fun h=>by rcases h with ⟨rfl,_⟩ | rfl <;> rfl
 have ids1:=ids0 x.rvS
 clear main vo vd ho hk hd ho1 hB10 hB11 hB1 hA0 hA1 etv rd t0 q1 q2 q3 q4 hF60 hFb hF hw ids0 hn4 hRl
 unfold tI at s2
 unfold s5 at mo4 md4
 generalize C9 A x.R=C0 at *
 generalize A++[Ent.row 1 false []]=C00 at *
 generalize hee:C9 A=CA at *
 generalize x.T.ch.length=n0 at *
 generalize (n0:Int)=nI at *
 generalize x.F+x.T.travel=FT at *
 generalize x.T.travel=tr at *
 generalize x.F=FV at *
 generalize x.tv=TV at *
 generalize x.rv=RV at *
 generalize x.ch=CH at *
 generalize x.A yv rv=XA at *
 cases o1
 ·cases cbo
  ·obtain rfl:=mo3 rfl
   rw [aI _ _ rfl]
   simp [mf5,s0,s1,s2,s3,s4,s5',s6,s7,t00,t03,t1,t4,lc,ba,wd lp,lt,m14,f1,f2,n1,n2,mo1,mo2,ez,aL,bc,-aZ,-aA,-ac,-ab,-frz,-cellsOf,-an,-ag,-bo]
  ·obtain ⟨sf,e1,e2⟩:=mo4 rfl
   have eq:=bz co sf.fin
   rw [decide_eq_true e1.symm] at eq
   clear e1
   generalize sf.fin=fi at *
   rw [aI _ _ rfl]
   simp [mf5,s0,s1,s2,s3,s4,s5',s6,s7,t00,t03,t1,t4,lc,ba,wd lp,lt,m14,f1,f2,n1,n2,mo1,mo2,bs,ap,En e2,eq,aL,bc,-aZ,-aA,-ac,-ab,-frz,-cellsOf,-an,-ag,-bo]
 ·by_cases hp:pick x.free 2=0
  ·rw [decide_eq_true hp] at bp
   generalize pick x.free 2=pf at *
   cases cbd
   ·obtain rfl:=md3 rfl
    rw [aI _ _ rfl]
    simp [mf5,s0,s1,s2,s3,s4,s5',s6,s7,t00,t03,t1,t4,lc,ba,wd lp,lt,m14,fa5,la5,m12,bp,f1,f2,n1,n2,md1,md2,ez,aL,bc,-aZ,-aA,-ac,-ab,-frz,-cellsOf,-an,-ag,-bo]
   ·obtain ⟨sf,e1,e2⟩:=md4 rfl
    have eq:=bz cd sf.fin
    rw [decide_eq_true e1.symm] at eq
    clear e1
    generalize sf.fin=fi at *
    rw [aI _ _ rfl]
    simp [mf5,s0,s1,s2,s3,s4,s5',s6,s7,t00,t03,t1,t4,lc,ba,wd lp,lt,m14,fa5,la5,m12,bp,f1,f2,n1,n2,md1,md2,bs,ap,En e2,eq,aL,bc,-aZ,-aA,-ac,-ab,-frz,-cellsOf,-an,-ag,-bo]
  ·rw [decide_eq_false hp] at bp
   generalize pick x.free 2=pf at *
   cases cbo
   ·obtain rfl:=mo3 rfl
    rw [aI _ _ rfl]
    simp [mf5,s0,s1,s2,s3,s4,s5',s6,s7,t00,t03,t1,t4,lc,ba,wd lp,lt,m14,fa5,la5,m12,bp,f1,f2,n1,n2,mo1,mo2,ez,aL,bc,-aZ,-aA,-ac,-ab,-frz,-cellsOf,-an,-ag,-bo]
   ·obtain ⟨sf,e1,e2⟩:=mo4 rfl
    have eq:=bz co sf.fin
    rw [decide_eq_true e1.symm] at eq
    clear e1
    generalize sf.fin=fi at *
    rw [aI _ _ rfl]
    simp [mf5,s0,s1,s2,s3,s4,s5',s6,s7,t00,t03,t1,t4,lc,ba,wd lp,lt,m14,fa5,la5,m12,bp,f1,f2,n1,n2,mo1,mo2,bs,ap,En e2,eq,aL,bc,-aZ,-aA,-ac,-ab,-frz,-cellsOf,-an,-ag,-bo]
theorem ev5L (args:List AV) (h:fC Try.prog 8 Try.f5.params.toList args):∃fuel,evP (ax GC fsL) fuel mf5 1 args=some (.bool true):=by
 rw [Try.params5] at h
 obtain ⟨a,r,rfl,h0,h⟩:=h.cons
 obtain ⟨b,r,rfl,h1,h⟩:=h.cons
 obtain rfl:=h.nil
 obtain ⟨x,yv,rv,rfl,hx⟩:=A6 (n:=3) h0
 obtain ⟨ys,h2,h3,_⟩:=ul (n:=5) h1
 exact ⟨300,ev5 hx h3 h2⟩
end Tr
end Go.Proofs.Ytkcjhljbgjpklaa
