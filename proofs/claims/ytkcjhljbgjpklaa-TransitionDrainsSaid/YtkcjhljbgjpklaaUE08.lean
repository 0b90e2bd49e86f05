import Derived.Test.YtkcjhljbgjpklaaUE07
import Derived.Test.YtkcjhljbgjpklaaChecked
import Derived.KernelRfl
import Derived.Test.YtkcjhljbgjpklaaUE06
import Derived.Test.YtkcjhljbgjpklaaUE03
set_option maxRecDepth 100000
set_option maxHeartbeats 4000000
noncomputable section
namespace Go.Proofs.Ytkcjhljbgjpklaa
namespace Tr
open Go
def Mq:cu:=⟨0,20,.seq (.region [⟨some 0,.mv (.cst (.bool false)),none⟩]) (.seq (.region [⟨none,.call (.fn 26) [],none⟩,⟨some 1,.alloc 5 (.agg [.nilS,.int .i64 0,.int .i64 0,.int .i64 0,.int .i64 0]),none⟩,⟨none,.store 5 (.var 1) (.tmp 0),none⟩]) (.seq (.region [⟨none,.load true 5 (.var 1),none⟩,⟨none,.buildF 1 [.cst (.int .i64 10),.cst (.int .i64 (-1))],none⟩,⟨none,.call (.fn 14) [.tmp 0,.tmp 1,.cst (.int .i64 0),.cst (.int .i64 0)],none⟩,⟨none,.mv (.tmp 2),none⟩,⟨none,.extract (.tmp 3) 0,none⟩,⟨none,.extract (.tmp 3) 1,none⟩,⟨some 2,.mv (.tmp 4),none⟩,⟨some 3,.mv (.tmp 5),none⟩]) (.seq (.region [⟨none,.load true 5 (.var 1),none⟩,⟨none,.buildF 1 [.cst (.int .i64 10),.cst (.int .i64 40)],none⟩,⟨none,.call (.fn 14) [.tmp 0,.tmp 1,.cst (.int .i64 0),.cst (.int .i64 0)],none⟩,⟨none,.mv (.tmp 2),none⟩,⟨none,.extract (.tmp 3) 0,none⟩,⟨none,.extract (.tmp 3) 1,none⟩,⟨none,.mv (.tmp 4),none⟩,⟨some 4,.mv (.tmp 5),none⟩]) (.seq (.region [⟨none,.load true 5 (.var 1),none⟩,⟨none,.buildF 1 [.cst (.int .i64 40),.cst (.int .i64 30)],none⟩,⟨none,.call (.fn 14) [.tmp 0,.tmp 1,.cst (.int .i64 0),.cst (.int .i64 0)],none⟩,⟨none,.mv (.tmp 2),none⟩,⟨none,.extract (.tmp 3) 0,none⟩,⟨none,.extract (.tmp 3) 1,none⟩,⟨some 5,.mv (.tmp 4),none⟩,⟨some 6,.mv (.tmp 5),none⟩]) (.seq (.region [⟨none,.load true 5 (.var 1),none⟩,⟨none,.buildF 1 [.cst (.int .i64 10),.cst (.int .i64 40)],none⟩,⟨none,.call (.fn 14) [.tmp 0,.tmp 1,.cst (.int .i64 0),.cst (.int .i64 2)],none⟩,⟨none,.mv (.tmp 2),none⟩,⟨none,.extract (.tmp 3) 0,none⟩,⟨none,.extract (.tmp 3) 1,none⟩,⟨some 7,.mv (.tmp 4),none⟩,⟨some 8,.mv (.tmp 5),none⟩]) (.seq (.region [⟨none,.load true 5 (.var 1),none⟩,⟨none,.buildF 1 [.cst (.int .i64 40),.cst (.int .i64 30)],none⟩,⟨none,.mv (.var 5),none⟩,⟨none,.call (.fn 17) [.tmp 0,.tmp 1,.cst (.int .i64 0),.tmp 2],none⟩,⟨none,.mv (.tmp 3),none⟩,⟨none,.extract (.tmp 4) 0,none⟩,⟨none,.extract (.tmp 4) 1,none⟩,⟨some 9,.mv (.tmp 5),none⟩,⟨some 10,.mv (.tmp 6),none⟩]) (.seq (.region [⟨none,.load true 5 (.var 1),none⟩,⟨none,.buildF 1 [.cst (.int .i64 40),.cst (.int .i64 30)],none⟩,⟨none,.build [.int .i64 0,.int .i64 0] [(0,(1,.cst (.int .i64 2))),(1,(1,.cst (.int .i64 30)))],none⟩,⟨none,.build [.int .i64 0,.int .i64 0] [(0,(1,.cst (.int .i64 1))),(1,(1,.cst (.int .i64 35)))],none⟩,⟨none,.buildF 2 [.tmp 2,.tmp 3],none⟩,⟨none,.call (.fn 17) [.tmp 0,.tmp 1,.cst (.int .i64 0),.tmp 4],none⟩,⟨none,.mv (.tmp 5),none⟩,⟨none,.extract (.tmp 6) 0,none⟩,⟨none,.extract (.tmp 6) 1,none⟩,⟨none,.mv (.tmp 7),none⟩,⟨some 11,.mv (.tmp 8),none⟩]) (.seq (.region [⟨none,.load true 5 (.var 1),none⟩,⟨none,.call (.fn 23) [.tmp 0],none⟩,⟨none,.mv (.tmp 1),none⟩,⟨none,.extract (.tmp 2) 0,none⟩,⟨none,.extract (.tmp 2) 1,none⟩,⟨some 12,.alloc 4 (.agg [.int .i64 0,.nilS,.nilS,.nilS]),none⟩,⟨none,.store 4 (.var 12) (.tmp 3),none⟩,⟨some 13,.mv (.tmp 4),none⟩]) (.seq (.region [⟨none,.load true 5 (.var 1),none⟩,⟨none,.load true 4 (.var 12),none⟩,⟨none,.call (.fn 24) [.tmp 0,.tmp 1,.cst (.int .i64 0)],none⟩,⟨none,.mv (.tmp 2),none⟩,⟨none,.extract (.tmp 3) 0,none⟩,⟨none,.extract (.tmp 3) 1,none⟩,⟨some 14,.mv (.tmp 4),none⟩,⟨some 15,.mv (.tmp 5),none⟩]) (.seq (.region [⟨none,.load true 5 (.var 1),none⟩,⟨none,.buildF 1 [.cst (.int .i64 40),.cst (.int .i64 30)],none⟩,⟨none,.load true 4 (.var 12),none⟩,⟨none,.call (.fn 25) [.tmp 0,.tmp 1,.cst (.int .i64 0),.tmp 2],none⟩,⟨none,.mv (.tmp 3),none⟩,⟨none,.extract (.tmp 4) 0,none⟩,⟨none,.extract (.tmp 4) 1,none⟩,⟨some 16,.mv (.tmp 5),none⟩,⟨some 17,.mv (.tmp 6),none⟩]) (.seq (.region [⟨none,.load true 5 (.var 1),none⟩,⟨none,.buildF 1 [.cst (.int .i64 10),.cst (.int .i64 40)],none⟩,⟨none,.load true 4 (.var 12),none⟩,⟨none,.call (.fn 25) [.tmp 0,.tmp 1,.cst (.int .i64 0),.tmp 2],none⟩,⟨none,.mv (.tmp 3),none⟩,⟨none,.extract (.tmp 4) 0,none⟩,⟨none,.extract (.tmp 4) 1,none⟩,⟨none,.mv (.tmp 5),none⟩,⟨some 18,.mv (.tmp 6),none⟩]) (.seq (.region [⟨none,.mv (.var 3),none⟩,⟨none,.mv (.tmp 0),none⟩,⟨none,.mv (.var 4),some (.tmp 1,true)⟩,⟨none,.un .not (.tmp 2),some (.tmp 1,true)⟩,⟨none,.pick (.tmp 1) (.tmp 3) (.cst (.bool false)),none⟩,⟨none,.mv (.tmp 4),none⟩,⟨none,.mv (.var 6),some (.tmp 5,true)⟩,⟨none,.pick (.tmp 5) (.tmp 6) (.cst (.bool false)),none⟩,⟨none,.mv (.tmp 7),none⟩,⟨none,.mv (.var 8),some (.tmp 8,true)⟩,⟨none,.pick (.tmp 8) (.tmp 9) (.cst (.bool false)),none⟩,⟨none,.mv (.tmp 10),none⟩,⟨none,.mv (.var 10),some (.tmp 11,true)⟩,⟨none,.pick (.tmp 11) (.tmp 12) (.cst (.bool false)),none⟩,⟨none,.mv (.tmp 13),none⟩,⟨none,.mv (.var 11),some (.tmp 14,true)⟩,⟨none,.un .not (.tmp 15),some (.tmp 14,true)⟩,⟨none,.pick (.tmp 14) (.tmp 16) (.cst (.bool false)),none⟩,⟨none,.mv (.tmp 17),none⟩,⟨none,.mv (.var 9),some (.tmp 18,true)⟩,⟨none,.bin .eql (.tmp 19) (.cst (.int .i64 78)),some (.tmp 18,true)⟩,⟨none,.pick (.tmp 18) (.tmp 20) (.cst (.bool false)),none⟩,⟨none,.mv (.tmp 21),none⟩,⟨none,.mv (.var 2),some (.tmp 22,true)⟩,⟨none,.build [.int .i64 0,.int .i64 0] [(0,(1,.cst (.int .i64 1))),(1,(1,.cst (.int .i64 10)))],some (.tmp 22,true)⟩,⟨none,.build [.int .i64 0,.int .i64 0] [(0,(1,.cst (.int .i64 2))),(1,(1,.cst (.int .i64 44)))],some (.tmp 22,true)⟩,⟨none,.buildF 2 [.tmp 24,.tmp 25],some (.tmp 22,true)⟩,⟨none,.call (.fn 16) [.tmp 23,.tmp 26],some (.tmp 22,true)⟩,⟨none,.pick (.tmp 22) (.tmp 27) (.cst (.bool false)),none⟩,⟨none,.mv (.tmp 28),none⟩,⟨none,.mv (.var 5),some (.tmp 29,true)⟩,⟨none,.lenSl (.tmp 30),some (.tmp 29,true)⟩,⟨none,.bin .eql (.tmp 31) (.cst (.int .i64 3)),some (.tmp 29,true)⟩,⟨none,.pick (.tmp 29) (.tmp 32) (.cst (.bool false)),none⟩,⟨none,.mv (.tmp 33),none⟩,⟨none,.mv (.var 7),some (.tmp 34,true)⟩,⟨none,.build [.int .i64 0,.int .i64 0] [(0,(1,.cst (.int .i64 1))),(1,(1,.cst (.int .i64 10)))],some (.tmp 34,true)⟩,⟨none,.buildF 2 [.tmp 36],some (.tmp 34,true)⟩,⟨none,.call (.fn 16) [.tmp 35,.tmp 37],some (.tmp 34,true)⟩,⟨none,.pick (.tmp 34) (.tmp 38) (.cst (.bool false)),none⟩,⟨some 19,.mv (.tmp 39),none⟩]) (.seq (.region [⟨none,.mv (.var 19),none⟩,⟨none,.mv (.tmp 0),none⟩,⟨none,.mv (.var 13),some (.tmp 1,true)⟩,⟨none,.bin .eql (.tmp 2) (.cst (.int .i64 0)),some (.tmp 1,true)⟩,⟨none,.pick (.tmp 1) (.tmp 3) (.cst (.bool false)),none⟩,⟨none,.mv (.tmp 4),none⟩,⟨none,.mv (.var 15),some (.tmp 5,true)⟩,⟨none,.bin .eql (.tmp 6) (.cst (.int .i64 0)),some (.tmp 5,true)⟩,⟨none,.pick (.tmp 5) (.tmp 7) (.cst (.bool false)),none⟩,⟨none,.mv (.tmp 8),none⟩,⟨none,.mv (.var 14),some (.tmp 9,true)⟩,⟨none,.lenSl (.tmp 10),some (.tmp 9,true)⟩,⟨none,.bin .eql (.tmp 11) (.cst (.int .i64 5)),some (.tmp 9,true)⟩,⟨none,.pick (.tmp 9) (.tmp 12) (.cst (.bool false)),none⟩,⟨none,.mv (.tmp 13),none⟩,⟨none,.mv (.var 14),some (.tmp 14,true)⟩,⟨none,.indexSl 2 (.tmp 15) (.cst (.int .i64 0)),some (.tmp 14,true)⟩,⟨none,.load true 2 (.tmp 16),some (.tmp 14,true)⟩,⟨none,.build [.int .i64 0,.int .i64 0] [(1,(1,.cst (.int .i64 2)))],some (.tmp 14,true)⟩,⟨none,.eqAgg false [(0,1),(1,1)] (.tmp 17) (.tmp 18),some (.tmp 14,true)⟩,⟨none,.pick (.tmp 14) (.tmp 19) (.cst (.bool false)),none⟩,⟨none,.mv (.tmp 20),none⟩,⟨none,.mv (.var 17),some (.tmp 21,true)⟩,⟨none,.bin .eql (.tmp 22) (.cst (.int .i64 0)),some (.tmp 21,true)⟩,⟨none,.pick (.tmp 21) (.tmp 23) (.cst (.bool false)),none⟩,⟨none,.mv (.tmp 24),none⟩,⟨none,.mv (.var 16),some (.tmp 25,true)⟩,⟨none,.lenSl (.tmp 26),some (.tmp 25,true)⟩,⟨none,.bin .eql (.tmp 27) (.cst (.int .i64 8)),some (.tmp 25,true)⟩,⟨none,.pick (.tmp 25) (.tmp 28) (.cst (.bool false)),none⟩,⟨none,.mv (.tmp 29),none⟩,⟨none,.mv (.var 18),some (.tmp 30,true)⟩,⟨none,.bin .eql (.tmp 31) (.cst (.int .i64 140)),some (.tmp 30,true)⟩,⟨none,.pick (.tmp 30) (.tmp 32) (.cst (.bool false)),none⟩,⟨some 0,.mv (.tmp 33),none⟩]) .ret))))))))))))),[.tmp 0]⟩
theorem HA:aE Try.prog Try.f11 0 [0,1,2,3,5,6,7,8,9,10,11,13,14,15,16,17,18,19,21,22] [] true ([],[])=some Mq:=by kernel_rfl
theorem at11:Try.prog.funcs[11]?=some Try.f11:=by kernel_rfl
def Jo:cu:=⟨1,6,.seq (.region [⟨some 1,.box (.var 0),none⟩,⟨some 2,.alloc 5 (.agg [.nilS,.int .i64 0,.int .i64 0,.int .i64 0,.int .i64 0]),none⟩,⟨some 3,.mv (.cst .nilS),none⟩,⟨some 4,.mv (.cst (.int .i64 0)),none⟩]) (.seq (.region [⟨none,.fieldAddr 0 (.var 1),none⟩,⟨none,.load false 1 (.tmp 0),none⟩,⟨none,.fieldAddr 1 (.var 1),none⟩,⟨none,.load true 3 (.tmp 2),none⟩,⟨none,.call (.fn 27) [.tmp 1,.tmp 3],none⟩,⟨some 5,.alloc 5 (.agg [.nilS,.int .i64 0,.int .i64 0,.int .i64 0,.int .i64 0]),none⟩,⟨none,.store 5 (.var 5) (.tmp 4),none⟩]) (.seq (.region [⟨none,.load true 5 (.var 5),none⟩,⟨none,.load true 5 (.var 5),none⟩,⟨none,.fieldAddr 4 (.var 1),none⟩,⟨none,.load false 1 (.tmp 2),none⟩,⟨none,.call (.fn 28) [.tmp 1,.tmp 3],none⟩,⟨none,.fieldAddr 5 (.var 1),none⟩,⟨none,.load false 1 (.tmp 5),none⟩,⟨none,.call (.fn 21) [.tmp 6,.cst (.int .i64 60)],none⟩,⟨none,.store 5 (.var 2) (.tmp 0),none⟩,⟨some 3,.mv (.tmp 4),none⟩,⟨some 4,.mv (.tmp 7),none⟩]) .ret)),[.cell 2 true 5,.tmp 3,.tmp 4]⟩
theorem Hy:aE Try.prog Try.f13 1 [0,1,2,3,4,5] [28,21] true ([],[])=some Jo:=by kernel_rfl
theorem at13:Try.prog.funcs[13]?=some Try.f13:=by kernel_rfl
def iZ:MC:=.seq (.seq (.region [⟨none,.mv (.var 3),none⟩,⟨none,.mv (.var 0),none⟩,⟨none,.lenSl (.tmp 1),none⟩,⟨some 5,.bin .lss (.tmp 0) (.tmp 2),none⟩]) (.cond (.var 5) .skip (.exit 0))) (.seq (.seq (.block 1 (.seq (.region [⟨none,.mv (.var 0),none⟩,⟨none,.mv (.var 3),none⟩,⟨none,.indexSl 2 (.tmp 0) (.tmp 1),none⟩,⟨none,.load true 2 (.tmp 2),none⟩,⟨none,.mv (.var 1),none⟩,⟨none,.mv (.var 3),none⟩,⟨none,.indexSl 2 (.tmp 4) (.tmp 5),none⟩,⟨none,.load true 2 (.tmp 6),none⟩,⟨some 6,.eqAgg true [(0,1),(1,1)] (.tmp 3) (.tmp 7),none⟩]) (.cond (.var 6) (.seq (.region [⟨some 2,.mv (.cst (.bool false)),none⟩]) .ret) .skip))) (.kill [2,4,5,6])) (.region [⟨none,.mv (.var 3),none⟩,⟨none,.bin .add (.tmp 0) (.cst (.int .i64 1)),none⟩,⟨some 3,.mv (.tmp 1),none⟩]))
def p5:cu:=⟨2,7,.seq (.region [⟨some 2,.mv (.cst (.bool false)),none⟩]) (.seq (.seq (.region [⟨none,.mv (.var 0),none⟩,⟨none,.lenSl (.tmp 0),none⟩,⟨none,.mv (.var 1),none⟩,⟨none,.lenSl (.tmp 2),none⟩,⟨some 4,.bin .neq (.tmp 1) (.tmp 3),none⟩]) (.cond (.var 4) (.seq (.region [⟨some 2,.mv (.cst (.bool false)),none⟩]) .ret) .skip)) (.seq (.seq (.region [⟨some 3,.mv (.cst (.int .i64 0)),none⟩]) (.seq (.block 0 (.loop [2,4,5,6] iZ)) (.kill [0,1,2,3,4,5,6]))) (.seq (.region [⟨some 2,.mv (.cst (.bool true)),none⟩]) .ret))),[.tmp 2]⟩
def iu:List Nat:=[2,4,5,6]
abbrev lK (v0 v1 v3:AV):List AV:=[v0,v1,.undef,v3,.undef,.undef,.undef]
theorem CM {v0 v1 d2 v3 d4 d5 d6:AV}:clear iu [v0,v1,d2,v3,d4,d5,d6]=lK v0 v1 v3:=rfl
theorem Cl {E:Env} {fuel:Nat} {A:ab} {o:Out} {k:List KC} {v0 v1 d2 v3 d4 d5 d6:AV} (h:bU (evC E fuel iZ) iu fuel (lK v0 v1 v3) A=some o) :
  run E fuel (.code (.loop [2,4,5,6] iZ) :: k) [v0,v1,d2,v3,d4,d5,d6] A=after E fuel k o:=aS iu _ _ (by rw [CM]; exact h)
theorem sQ:aE Try.prog Try.f16 2 [0,1,4,5,10,14,25] [] true ([[2,4,5,6]],[[2,4,5,6],[0,1,2,3,4,5,6]])=some p5:=by kernel_rfl
theorem HL:Try.prog.funcs[16]?=some Try.f16:=by kernel_rfl
def fB:MC:=.seq (.seq (.region [⟨none,.mv (.var 14),none⟩,⟨none,.mv (.var 6),none⟩,⟨some 19,.bin .leq (.tmp 0) (.tmp 1),none⟩]) (.cond (.var 19) .skip (.exit 2))) (.seq (.seq (.block 3 (.seq (.region [⟨none,.mv (.var 7),none⟩,⟨none,.mv (.var 14),none⟩,⟨none,.bin .sub (.tmp 1) (.cst (.int .i64 1)),none⟩,⟨none,.indexSl 1 (.tmp 0) (.tmp 2),none⟩,⟨none,.load false 1 (.tmp 3),none⟩,⟨none,.bin .geq (.tmp 4) (.cst (.int .i64 0)),none⟩,⟨none,.mv (.tmp 5),none⟩,⟨none,.mv (.var 14),some (.tmp 6,true)⟩,⟨none,.mv (.var 6),some (.tmp 6,true)⟩,⟨none,.bin .eql (.tmp 7) (.tmp 8),some (.tmp 6,true)⟩,⟨none,.mv (.tmp 9),some (.tmp 6,true)⟩,⟨none,.mv (.var 7),some (.tmp 10,false)⟩,⟨none,.mv (.var 14),some (.tmp 10,false)⟩,⟨none,.indexSl 1 (.tmp 11) (.tmp 12),some (.tmp 10,false)⟩,⟨none,.load false 1 (.tmp 13),some (.tmp 10,false)⟩,⟨none,.bin .lss (.tmp 14) (.cst (.int .i64 0)),some (.tmp 10,false)⟩,⟨none,.pick (.tmp 10) (.cst (.bool true)) (.tmp 15),some (.tmp 6,true)⟩,⟨some 20,.pick (.tmp 6) (.tmp 16) (.cst (.bool false)),none⟩]) (.cond (.var 20) (.region [⟨none,.mv (.var 13),none⟩,⟨none,.mv (.var 14),none⟩,⟨none,.buildF 1 [.tmp 1],none⟩,⟨none,.append 1 8 (.tmp 0) (.tmp 2),none⟩,⟨some 13,.mv (.tmp 3),none⟩]) .skip))) (.kill [0,1,2,5,15,16,17,18,19,20,21,22,23,24])) (.region [⟨none,.mv (.var 14),none⟩,⟨none,.bin .add (.tmp 0) (.cst (.int .i64 1)),none⟩,⟨some 14,.mv (.tmp 1),none⟩]))
def dW:MC:=.seq (.seq (.region [⟨none,.mv (.var 12),none⟩,⟨none,.mv (.var 3),none⟩,⟨none,.lenSl (.tmp 1),none⟩,⟨none,.bin .lss (.tmp 0) (.tmp 2),none⟩,⟨none,.mv (.tmp 3),none⟩,⟨none,.mv (.var 12),some (.tmp 4,true)⟩,⟨none,.bin .lss (.tmp 5) (.cst (.int .i64 10)),some (.tmp 4,true)⟩,⟨some 18,.pick (.tmp 4) (.tmp 6) (.cst (.bool false)),none⟩]) (.cond (.var 18) .skip (.exit 0))) (.seq (.seq (.block 1 (.seq (.region [⟨some 13,.mv (.cst .nilS),none⟩]) (.seq (.seq (.region [⟨some 14,.mv (.cst (.int .i64 1)),none⟩]) (.seq (.block 2 (.loop [0,1,2,5,15,16,17,18,19,20,21,22,23,24] fB)) (.kill [0,1,2,5,14,15,16,17,18,19,20,21,22,23,24]))) (.seq (.seq (.region [⟨none,.mv (.var 13),none⟩,⟨none,.lenSl (.tmp 0),none⟩,⟨some 21,.bin .eql (.tmp 1) (.cst (.int .i64 0)),none⟩]) (.cond (.var 21) (.exit 0) .skip)) (.seq (.region [⟨none,.mv (.var 13),none⟩,⟨none,.mv (.var 3),none⟩,⟨none,.mv (.var 12),none⟩,⟨none,.indexSl 2 (.tmp 1) (.tmp 2),none⟩,⟨none,.indexArr 2 1 (.tmp 3) (.cst (.int .i64 0)),none⟩,⟨none,.load false 1 (.tmp 4),none⟩,⟨none,.mv (.var 13),none⟩,⟨none,.lenSl (.tmp 6),none⟩,⟨none,.call (.fn 21) [.tmp 5,.tmp 7],none⟩,⟨none,.indexSl 1 (.tmp 0) (.tmp 8),none⟩,⟨none,.load false 1 (.tmp 9),none⟩,⟨some 15,.mv (.tmp 10),none⟩]) (.seq (.region [⟨none,.mv (.var 9),none⟩,⟨some 16,.mv (.tmp 0),none⟩]) (.seq (.seq (.region [⟨none,.mv (.var 15),none⟩,⟨none,.mv (.var 10),none⟩,⟨none,.bin .add (.tmp 1) (.cst (.int .i64 1)),none⟩,⟨some 22,.bin .neq (.tmp 0) (.tmp 2),none⟩]) (.cond (.var 22) (.region [⟨none,.mv (.var 9),none⟩,⟨none,.fieldAddr 3 (.var 4),none⟩,⟨none,.load false 1 (.tmp 1),none⟩,⟨none,.bin .add (.tmp 0) (.tmp 2),none⟩,⟨some 16,.mv (.tmp 3),none⟩]) .skip)) (.seq (.region [⟨none,.mv (.var 16),none⟩,⟨none,.mv (.var 7),none⟩,⟨none,.mv (.var 15),none⟩,⟨none,.bin .sub (.tmp 2) (.cst (.int .i64 1)),none⟩,⟨none,.indexSl 1 (.tmp 1) (.tmp 3),none⟩,⟨none,.load false 1 (.tmp 4),none⟩,⟨none,.minmax true (.tmp 0) [.tmp 5],none⟩,⟨some 17,.mv (.tmp 6),none⟩]) (.seq (.seq (.region [⟨none,.mv (.var 3),none⟩,⟨none,.mv (.var 12),none⟩,⟨none,.indexSl 2 (.tmp 0) (.tmp 1),none⟩,⟨none,.indexArr 2 1 (.tmp 2) (.cst (.int .i64 1)),none⟩,⟨none,.load false 1 (.tmp 3),none⟩,⟨none,.call (.fn 21) [.tmp 4,.cst (.int .i64 3)],none⟩,⟨some 23,.bin .eql (.tmp 5) (.cst (.int .i64 0)),none⟩]) (.cond (.var 23) (.region [⟨none,.mv (.var 17),none⟩,⟨none,.mv (.var 3),none⟩,⟨none,.mv (.var 12),none⟩,⟨none,.indexSl 2 (.tmp 1) (.tmp 2),none⟩,⟨none,.indexArr 2 1 (.tmp 3) (.cst (.int .i64 1)),none⟩,⟨none,.load false 1 (.tmp 4),none⟩,⟨none,.bin .quo (.tmp 5) (.cst (.int .i64 3)),none⟩,⟨none,.call (.fn 21) [.tmp 6,.cst (.int .i64 20)],none⟩,⟨none,.bin .add (.tmp 0) (.tmp 7),none⟩,⟨some 17,.mv (.tmp 8),none⟩]) .skip)) (.seq (.region [⟨none,.mv (.var 7),none⟩,⟨none,.mv (.var 15),none⟩,⟨none,.bin .sub (.tmp 1) (.cst (.int .i64 1)),none⟩,⟨none,.indexSl 1 (.tmp 0) (.tmp 2),none⟩,⟨none,.store 1 (.tmp 3) (.cst (.int .i64 (-1))),none⟩]) (.seq (.region [⟨none,.mv (.var 17),none⟩,⟨none,.mv (.var 8),none⟩,⟨none,.bin .add (.tmp 0) (.tmp 1),none⟩,⟨some 9,.mv (.tmp 2),none⟩]) (.seq (.region [⟨none,.mv (.var 15),none⟩,⟨some 10,.mv (.tmp 0),none⟩]) (.seq (.seq (.region [⟨none,.mv (.var 15),none⟩,⟨none,.mv (.var 6),none⟩,⟨some 24,.bin .lss (.tmp 0) (.tmp 1),none⟩]) (.cond (.var 24) (.region [⟨none,.mv (.var 7),none⟩,⟨none,.mv (.var 15),none⟩,⟨none,.mv (.var 9),none⟩,⟨none,.fieldAddr 0 (.var 4),none⟩,⟨none,.load false 1 (.tmp 3),none⟩,⟨none,.mv (.var 15),none⟩,⟨none,.indexSl 2 (.tmp 4) (.tmp 5),none⟩,⟨none,.fieldAddr 0 (.tmp 6),none⟩,⟨none,.load false 1 (.tmp 7),none⟩,⟨none,.bin .add (.tmp 2) (.tmp 8),none⟩,⟨none,.indexSl 1 (.tmp 0) (.tmp 1),none⟩,⟨none,.store 1 (.tmp 10) (.tmp 9),none⟩]) .skip)) (.region [⟨none,.mv (.var 11),none⟩,⟨none,.mv (.var 15),none⟩,⟨none,.mv (.var 17),none⟩,⟨none,.build [.int .i64 0,.int .i64 0] [(0,(1,.tmp 1)),(1,(1,.tmp 2))],none⟩,⟨none,.buildF 2 [.tmp 3],none⟩,⟨none,.append 2 16 (.tmp 0) (.tmp 4),none⟩,⟨some 11,.mv (.tmp 5),none⟩])))))))))))))) (.kill [0,1,2,5,13,14,15,16,17,18,19,20,21,22,23,24])) (.region [⟨none,.mv (.var 12),none⟩,⟨none,.bin .add (.tmp 0) (.cst (.int .i64 1)),none⟩,⟨some 12,.mv (.tmp 1),none⟩]))
def Jn:cu:=⟨4,25,.seq (.region [⟨some 4,.box (.var 0),none⟩,⟨some 5,.mv (.cst .nilS),none⟩]) (.seq (.region [⟨none,.fieldAddr 0 (.var 4),none⟩,⟨none,.load false 1 (.tmp 0),none⟩,⟨none,.lenSl (.tmp 1),none⟩,⟨some 6,.mv (.tmp 2),none⟩]) (.seq (.region [⟨none,.buildSlice 1 [],none⟩,⟨none,.mv (.var 1),none⟩,⟨none,.append 1 8 (.tmp 0) (.tmp 1),none⟩,⟨some 7,.mv (.tmp 2),none⟩]) (.seq (.region [⟨none,.load true 5 (.var 4),none⟩,⟨none,.call (.fn 22) [.tmp 0],none⟩,⟨some 8,.mv (.tmp 1),none⟩]) (.seq (.region [⟨none,.mv (.var 2),none⟩,⟨some 9,.mv (.tmp 0),none⟩]) (.seq (.region [⟨some 10,.mv (.cst (.int .i64 (-2))),none⟩]) (.seq (.region [⟨some 11,.mv (.cst .nilS),none⟩]) (.seq (.seq (.region [⟨some 12,.mv (.cst (.int .i64 0)),none⟩]) (.seq (.block 0 (.loop [0,1,2,5,13,14,15,16,17,18,19,20,21,22,23,24] dW)) (.kill [0,1,2,3,4,5,6,7,8,9,10,12,13,14,15,16,17,18,19,20,21,22,23,24]))) (.seq (.region [⟨none,.mv (.var 11),none⟩,⟨some 5,.mv (.tmp 0),none⟩]) .ret)))))))),[.tmp 5]⟩
def m5:List Nat:=[0,1,2,5,15,16,17,18,19,20,21,22,23,24]
abbrev dV (v3 v4 v6 v7 v8 v9 v10 v11 v12 v13 v14:AV):List AV:=[.undef,.undef,.undef,v3,v4,.undef,v6,v7,v8,v9,v10,v11,v12,v13,v14,.undef,.undef,.undef,.undef,.undef,.undef,.undef,.undef,.undef,.undef]
theorem zu {d0 d1 d2 v3 v4 d5 v6 v7 v8 v9 v10 v11 v12 v13 v14 d15 d16 d17 d18 d19 d20 d21 d22 d23 d24:AV}:clear m5 [d0,d1,d2,v3,v4,d5,v6,v7,v8,v9,v10,v11,v12,v13,v14,d15,d16,d17,d18,d19,d20,d21,d22,d23,d24]=dV v3 v4 v6 v7 v8 v9 v10 v11 v12 v13 v14:=rfl
theorem km {E:Env} {fuel:Nat} {A:ab} {o:Out} {k:List KC} {d0 d1 d2 v3 v4 d5 v6 v7 v8 v9 v10 v11 v12 v13 v14 d15 d16 d17 d18 d19 d20 d21 d22 d23 d24:AV} (h:bU (evC E fuel fB) m5 fuel (dV v3 v4 v6 v7 v8 v9 v10 v11 v12 v13 v14) A=some o) :
  run E fuel (.code (.loop [0,1,2,5,15,16,17,18,19,20,21,22,23,24] fB) :: k) [d0,d1,d2,v3,v4,d5,v6,v7,v8,v9,v10,v11,v12,v13,v14,d15,d16,d17,d18,d19,d20,d21,d22,d23,d24] A=after E fuel k o:=aS m5 _ _ (by rw [zu]; exact h)
def mZ:List Nat:=[0,1,2,5,13,14,15,16,17,18,19,20,21,22,23,24]
abbrev xg (v3 v4 v6 v7 v8 v9 v10 v11 v12:AV):List AV:=[.undef,.undef,.undef,v3,v4,.undef,v6,v7,v8,v9,v10,v11,v12,.undef,.undef,.undef,.undef,.undef,.undef,.undef,.undef,.undef,.undef,.undef,.undef]
theorem vM {d0 d1 d2 v3 v4 d5 v6 v7 v8 v9 v10 v11 v12 d13 d14 d15 d16 d17 d18 d19 d20 d21 d22 d23 d24:AV}:clear mZ [d0,d1,d2,v3,v4,d5,v6,v7,v8,v9,v10,v11,v12,d13,d14,d15,d16,d17,d18,d19,d20,d21,d22,d23,d24]=xg v3 v4 v6 v7 v8 v9 v10 v11 v12:=rfl
theorem GR {E:Env} {fuel:Nat} {A:ab} {o:Out} {k:List KC} {d0 d1 d2 v3 v4 d5 v6 v7 v8 v9 v10 v11 v12 d13 d14 d15 d16 d17 d18 d19 d20 d21 d22 d23 d24:AV} (h:bU (evC E fuel dW) mZ fuel (xg v3 v4 v6 v7 v8 v9 v10 v11 v12) A=some o) :
  run E fuel (.code (.loop [0,1,2,5,13,14,15,16,17,18,19,20,21,22,23,24] dW) :: k) [d0,d1,d2,v3,v4,d5,v6,v7,v8,v9,v10,v11,v12,d13,d14,d15,d16,d17,d18,d19,d20,d21,d22,d23,d24] A=after E fuel k o:=aS mZ _ _ (by rw [vM]; exact h)
theorem Hw:aE Try.prog Try.f20 4 [0,1,2,3,4,8,9,10,11,12,13,14,15,16,17,18,19,20,37,42,62,69,85,103,123] [] true ([[0,1,2,5,13,14,15,16,17,18,19,20,21,22,23,24],[0,1,2,5,15,16,17,18,19,20,21,22,23,24]],[[0,1,2,5,15,16,17,18,19,20,21,22,23,24],[0,1,2,5,14,15,16,17,18,19,20,21,22,23,24],[0,1,2,5,13,14,15,16,17,18,19,20,21,22,23,24],[0,1,2,3,4,5,6,7,8,9,10,12,13,14,15,16,17,18,19,20,21,22,23,24]])=some Jn:=by kernel_rfl
theorem at20:Try.prog.funcs[20]?=some Try.f20:=by kernel_rfl
def Fa:cu:=⟨2,4,.seq (.region [⟨some 2,.mv (.cst (.int .i64 0)),none⟩]) (.seq (.seq (.region [⟨none,.mv (.var 0),none⟩,⟨some 3,.bin .lss (.tmp 0) (.cst (.int .i64 0)),none⟩]) (.cond (.var 3) (.region [⟨none,.mv (.var 0),none⟩,⟨none,.bin .add (.tmp 0) (.cst (.int .i64 1)),none⟩,⟨none,.un .neg (.tmp 1),none⟩,⟨some 0,.mv (.tmp 2),none⟩]) .skip)) (.seq (.region [⟨none,.mv (.var 0),none⟩,⟨none,.mv (.var 1),none⟩,⟨none,.bin .rem (.tmp 0) (.tmp 1),none⟩,⟨some 2,.mv (.tmp 2),none⟩]) .ret)),[.tmp 2]⟩
theorem Cw:aE Try.prog Try.f21 2 [0,1,4,6] [] true ([],[])=some Fa:=by kernel_rfl
theorem M0:Try.prog.funcs[21]?=some Try.f21:=by kernel_rfl
def Ak:cu:=⟨1,3,.seq (.region [⟨some 1,.box (.var 0),none⟩,⟨some 2,.mv (.cst (.int .i64 0)),none⟩]) (.seq (.region [⟨none,.fieldAddr 1 (.var 1),none⟩,⟨none,.load false 1 (.tmp 0),none⟩,⟨none,.fieldAddr 3 (.var 1),none⟩,⟨none,.load false 1 (.tmp 2),none⟩,⟨none,.bin .add (.tmp 1) (.tmp 3),none⟩,⟨none,.fieldAddr 2 (.var 1),none⟩,⟨none,.load false 1 (.tmp 5),none⟩,⟨none,.bin .add (.tmp 4) (.tmp 6),none⟩,⟨some 2,.mv (.tmp 7),none⟩]) .ret),[.tmp 2]⟩
theorem zd:aE Try.prog Try.f22 1 [0,1,2] [] true ([],[])=some Ak:=by kernel_rfl
theorem LM:Try.prog.funcs[22]?=some Try.f22:=by kernel_rfl
def r6:cu:=⟨0,1,.seq (.region [⟨some 0,.alloc 5 (.agg [.nilS,.int .i64 0,.int .i64 0,.int .i64 0,.int .i64 0]),none⟩]) (.seq (.region [⟨none,.build [.int .i64 0,.int .i64 0] [(0,(1,.cst (.int .i64 20))),(1,(1,.cst (.int .i64 12)))],none⟩,⟨none,.build [.int .i64 0,.int .i64 0] [(0,(1,.cst (.int .i64 30))),(1,(1,.cst (.int .i64 12)))],none⟩,⟨none,.buildSlice 2 [.tmp 0,.tmp 1],none⟩,⟨none,.build [.nilS,.int .i64 0,.int .i64 0,.int .i64 0,.int .i64 0] [(0,(1,.tmp 2)),(1,(1,.cst (.int .i64 1))),(2,(1,.cst (.int .i64 1))),(3,(1,.cst (.int .i64 2))),(4,(1,.cst (.int .i64 1)))],none⟩,⟨none,.store 5 (.var 0) (.tmp 3),none⟩]) .ret),[.cell 0 true 5]⟩
theorem sO:aE Try.prog Try.f26 0 [0] [] true ([],[])=some r6:=by kernel_rfl
theorem HJ:Try.prog.funcs[26]?=some Try.f26:=by kernel_rfl
def ew:MC:=.seq (.seq (.region [⟨none,.mv (.var 5),none⟩,⟨none,.mv (.var 0),none⟩,⟨none,.lenSl (.tmp 1),none⟩,⟨none,.minmax false (.tmp 2) [.cst (.int .i64 4)],none⟩,⟨none,.minmax true (.cst (.int .i64 1)) [.tmp 3],none⟩,⟨some 7,.bin .lss (.tmp 0) (.tmp 4),none⟩]) (.cond (.var 7) .skip (.exit 0))) (.seq (.seq (.block 1 (.seq (.region [⟨none,.build [.int .i64 0,.int .i64 0] [(0,(1,.cst (.int .i64 20))),(1,(1,.cst (.int .i64 30)))],none⟩,⟨some 6,.alloc 2 (.agg [.int .i64 0,.int .i64 0]),none⟩,⟨none,.store 2 (.var 6) (.tmp 0),none⟩]) (.seq (.seq (.region [⟨none,.mv (.var 5),none⟩,⟨none,.mv (.var 0),none⟩,⟨none,.lenSl (.tmp 1),none⟩,⟨some 8,.bin .lss (.tmp 0) (.tmp 2),none⟩]) (.cond (.var 8) (.seq (.region [⟨none,.mv (.var 0),none⟩,⟨none,.mv (.var 5),none⟩,⟨none,.indexSl 2 (.tmp 0) (.tmp 1),none⟩,⟨none,.indexArr 2 1 (.tmp 2) (.cst (.int .i64 0)),none⟩,⟨none,.load false 1 (.tmp 3),none⟩,⟨none,.call (.fn 50) [.tmp 4,.cst (.int .i64 60)],none⟩,⟨none,.fieldAddr 0 (.var 6),none⟩,⟨none,.store 1 (.tmp 6) (.tmp 5),none⟩]) (.seq (.region [⟨none,.mv (.var 0),none⟩,⟨none,.mv (.var 5),none⟩,⟨none,.indexSl 2 (.tmp 0) (.tmp 1),none⟩,⟨none,.indexArr 2 1 (.tmp 2) (.cst (.int .i64 1)),none⟩,⟨none,.load false 1 (.tmp 3),none⟩,⟨none,.call (.fn 50) [.tmp 4,.cst (.int .i64 50)],none⟩,⟨none,.fieldAddr 1 (.var 6),none⟩,⟨none,.store 1 (.tmp 6) (.tmp 5),none⟩]) (.seq (.region [⟨none,.mv (.var 0),none⟩,⟨none,.mv (.var 5),none⟩,⟨none,.indexSl 2 (.tmp 0) (.tmp 1),none⟩,⟨none,.indexArr 2 1 (.tmp 2) (.cst (.int .i64 1)),none⟩,⟨none,.load false 1 (.tmp 3),none⟩,⟨none,.bin .quo (.tmp 4) (.cst (.int .i64 50)),none⟩,⟨none,.call (.fn 50) [.tmp 5,.cst (.int .i64 3)],none⟩,⟨some 9,.bin .eql (.tmp 6) (.cst (.int .i64 0)),none⟩]) (.cond (.var 9) (.region [⟨none,.fieldAddr 1 (.var 6),none⟩,⟨none,.load false 1 (.tmp 0),none⟩,⟨none,.bin .add (.tmp 1) (.cst (.int .i64 200)),none⟩,⟨none,.fieldAddr 1 (.var 6),none⟩,⟨none,.store 1 (.tmp 3) (.tmp 2),none⟩]) .skip)))) .skip)) (.region [⟨none,.fieldAddr 0 (.var 4),none⟩,⟨none,.load false 1 (.tmp 0),none⟩,⟨none,.load true 2 (.var 6),none⟩,⟨none,.buildF 2 [.tmp 2],none⟩,⟨none,.append 2 16 (.tmp 1) (.tmp 3),none⟩,⟨none,.fieldAddr 0 (.var 4),none⟩,⟨none,.store 1 (.tmp 5) (.tmp 4),none⟩])))) (.kill [1,2,6,7,8,9])) (.region [⟨none,.mv (.var 5),none⟩,⟨none,.bin .add (.tmp 0) (.cst (.int .i64 1)),none⟩,⟨some 5,.mv (.tmp 1),none⟩]))
def AT:cu:=⟨2,10,.seq (.region [⟨some 2,.box (.var 1),none⟩,⟨some 3,.alloc 5 (.agg [.nilS,.int .i64 0,.int .i64 0,.int .i64 0,.int .i64 0]),none⟩]) (.seq (.regionD [50] [⟨none,.indexArr 3 1 (.var 2) (.cst (.int .i64 0)),none⟩,⟨none,.load false 1 (.tmp 0),none⟩,⟨none,.call (.fn 50) [.tmp 1,.cst (.int .i64 4)],none⟩,⟨none,.indexArr 3 1 (.var 2) (.cst (.int .i64 1)),none⟩,⟨none,.load false 1 (.tmp 3),none⟩,⟨none,.call (.fn 50) [.tmp 4,.cst (.int .i64 4)],none⟩,⟨none,.indexArr 3 1 (.var 2) (.cst (.int .i64 2)),none⟩,⟨none,.load false 1 (.tmp 6),none⟩,⟨none,.call (.fn 50) [.tmp 7,.cst (.int .i64 5)],none⟩,⟨none,.build [.nilS,.int .i64 0,.int .i64 0,.int .i64 0,.int .i64 0] [(4,(1,.cst (.int .i64 1))),(1,(1,.tmp 2)),(2,(1,.tmp 5)),(3,(1,.tmp 8))],none⟩,⟨some 4,.alloc 5 (.agg [.nilS,.int .i64 0,.int .i64 0,.int .i64 0,.int .i64 0]),none⟩,⟨none,.store 5 (.var 4) (.tmp 9),none⟩] [(0,10),(1,10),(2,10),(3,10),(4,10),(5,10),(6,10),(7,10),(8,10)]) (.seq (.seq (.region [⟨some 5,.mv (.cst (.int .i64 0)),none⟩]) (.seq (.block 0 (.loop [1,2,6,7,8,9] ew)) (.kill [0,1,2,5,6,7,8,9]))) (.seq (.region [⟨none,.load true 5 (.var 4),none⟩,⟨none,.store 5 (.var 3) (.tmp 0),none⟩]) .ret))),[.cell 3 true 5]⟩
def mX:List Nat:=[1,2,6,7,8,9]
abbrev pL (v0 v3 v4 v5:AV):List AV:=[v0,.undef,.undef,v3,v4,v5,.undef,.undef,.undef,.undef]
theorem zm {v0 d1 d2 v3 v4 v5 d6 d7 d8 d9:AV}:clear mX [v0,d1,d2,v3,v4,v5,d6,d7,d8,d9]=pL v0 v3 v4 v5:=rfl
theorem GM {E:Env} {fuel:Nat} {A:ab} {o:Out} {k:List KC} {v0 d1 d2 v3 v4 v5 d6 d7 d8 d9:AV} (h:bU (evC E fuel ew) mX fuel (pL v0 v3 v4 v5) A=some o) :
  run E fuel (.code (.loop [1,2,6,7,8,9] ew) :: k) [v0,d1,d2,v3,v4,v5,d6,d7,d8,d9] A=after E fuel k o:=aS mX _ _ (by rw [zm]; exact h)
theorem y9:aE Try.prog Try.f27 2 [0,1,3,4,5,6,7,23,30,52] [50] true ([[1,2,6,7,8,9]],[[1,2,6,7,8,9],[0,1,2,5,6,7,8,9]])=some AT:=by kernel_rfl
theorem LK:Try.prog.funcs[27]?=some Try.f27:=by kernel_rfl
def j8:MC:=.seq (.seq (.region [⟨none,.mv (.var 5),none⟩,⟨none,.mv (.var 4),none⟩,⟨none,.lenSl (.tmp 1),none⟩,⟨some 6,.bin .lss (.tmp 0) (.tmp 2),none⟩]) (.cond (.var 6) .skip (.exit 0))) (.seq (.seq (.block 1 (.seq (.region [⟨none,.mv (.var 4),none⟩,⟨none,.mv (.var 5),none⟩,⟨none,.indexSl 1 (.tmp 0) (.tmp 1),none⟩,⟨none,.store 1 (.tmp 2) (.cst (.int .i64 (-1))),none⟩]) (.seq (.region [⟨none,.mv (.var 5),none⟩,⟨none,.mv (.var 1),none⟩,⟨none,.lenSl (.tmp 1),none⟩,⟨none,.bin .lss (.tmp 0) (.tmp 2),none⟩,⟨none,.mv (.tmp 3),none⟩,⟨none,.mv (.var 1),some (.tmp 4,true)⟩,⟨none,.mv (.var 5),some (.tmp 4,true)⟩,⟨none,.indexSl 1 (.tmp 5) (.tmp 6),some (.tmp 4,true)⟩,⟨none,.load false 1 (.tmp 7),some (.tmp 4,true)⟩,⟨none,.call (.fn 50) [.tmp 8,.cst (.int .i64 4)],some (.tmp 4,true)⟩,⟨none,.bin .gtr (.tmp 9) (.cst (.int .i64 0)),some (.tmp 4,true)⟩,⟨some 7,.pick (.tmp 4) (.tmp 10) (.cst (.bool false)),none⟩]) (.cond (.var 7) (.region [⟨none,.mv (.var 4),none⟩,⟨none,.mv (.var 5),none⟩,⟨none,.mv (.var 1),none⟩,⟨none,.mv (.var 5),none⟩,⟨none,.indexSl 1 (.tmp 2) (.tmp 3),none⟩,⟨none,.load false 1 (.tmp 4),none⟩,⟨none,.bin .quo (.tmp 5) (.cst (.int .i64 4)),none⟩,⟨none,.call (.fn 50) [.tmp 6,.cst (.int .i64 120)],none⟩,⟨none,.indexSl 1 (.tmp 0) (.tmp 1),none⟩,⟨none,.store 1 (.tmp 8) (.tmp 7),none⟩]) .skip)))) (.kill [0,2,3,6,7])) (.region [⟨none,.mv (.var 5),none⟩,⟨none,.bin .add (.tmp 0) (.cst (.int .i64 1)),none⟩,⟨some 5,.mv (.tmp 1),none⟩]))
def Jm:cu:=⟨2,8,.seq (.region [⟨some 2,.box (.var 0),none⟩,⟨some 3,.mv (.cst .nilS),none⟩]) (.seq (.region [⟨none,.fieldAddr 0 (.var 2),none⟩,⟨none,.load false 1 (.tmp 0),none⟩,⟨none,.lenSl (.tmp 1),none⟩,⟨none,.makeSlice 1 8 (.int .i64 0) (.tmp 2) (.tmp 2),none⟩,⟨some 4,.mv (.tmp 3),none⟩]) (.seq (.seq (.region [⟨some 5,.mv (.cst (.int .i64 0)),none⟩]) (.seq (.block 0 (.loop [0,2,3,6,7] j8)) (.kill [0,1,2,3,5,6,7]))) (.seq (.region [⟨none,.mv (.var 4),none⟩,⟨some 3,.mv (.tmp 0),none⟩]) .ret))),[.tmp 3]⟩
def mW:List Nat:=[0,2,3,6,7]
abbrev pK (v1 v4 v5:AV):List AV:=[.undef,v1,.undef,.undef,v4,v5,.undef,.undef]
theorem zk {d0 v1 d2 d3 v4 v5 d6 d7:AV}:clear mW [d0,v1,d2,d3,v4,v5,d6,d7]=pK v1 v4 v5:=rfl
theorem GL {E:Env} {fuel:Nat} {A:ab} {o:Out} {k:List KC} {d0 v1 d2 d3 v4 v5 d6 d7:AV} (h:bU (evC E fuel j8) mW fuel (pK v1 v4 v5) A=some o) :
  run E fuel (.code (.loop [0,2,3,6,7] j8) :: k) [d0,v1,d2,d3,v4,v5,d6,d7] A=after E fuel k o:=aS mW _ _ (by rw [zk]; exact h)
theorem Ht:aE Try.prog Try.f28 2 [0,1,2,4,5,6,14,31] [] true ([[0,2,3,6,7]],[[0,2,3,6,7],[0,1,2,3,5,6,7]])=some Jm:=by kernel_rfl
theorem at28:Try.prog.funcs[28]?=some Try.f28:=by kernel_rfl
def Ej:cu:=⟨2,4,.seq (.region [⟨some 2,.mv (.cst (.int .i64 0)),none⟩]) (.seq (.seq (.region [⟨none,.mv (.var 0),none⟩,⟨some 3,.bin .lss (.tmp 0) (.cst (.int .i64 0)),none⟩]) (.cond (.var 3) (.region [⟨none,.mv (.var 0),none⟩,⟨none,.bin .add (.tmp 0) (.cst (.int .i64 1)),none⟩,⟨none,.un .neg (.tmp 1),none⟩,⟨some 0,.mv (.tmp 2),none⟩]) .skip)) (.seq (.region [⟨none,.mv (.var 0),none⟩,⟨none,.mv (.var 1),none⟩,⟨none,.bin .rem (.tmp 0) (.tmp 1),none⟩,⟨some 2,.mv (.tmp 2),none⟩]) .ret)),[.tmp 2]⟩
theorem yQ:aE Try.prog Try.f50 2 [0,1,4,6] [] true ([],[])=some Ej:=by kernel_rfl
theorem Lz:Try.prog.funcs[50]?=some Try.f50:=by kernel_rfl
end Tr
namespace Tr
open Go
open Cy (GC aJ bb aB)
open Clu (aR aZ an chA a7 dm ce cM)
def M16:aP:=fun args=>evP (ax GC []) 300 p5 1 args
theorem lN:au Try.prog GC 16 M16:=au.of_ev (E:=ax GC []) (aw aA) rfl HL sQ 1 fun _ _ h=>⟨300,h⟩
theorem qy {xs ys:List cS} {a b:AV} (ha:SlA 2 (xs.map a0) a) (hb:SlA 2 (ys.map a0) b) (hl:xs.length<=200) (hl2:ys.length<=200):M16 [a,b]=some (.bool (decide (xs=ys))):=by
 have hla:=ha.len
 have hlb:=hb.len
 rw [List.length_map] at hla hlb
 have b0:ai .neq (.int .i64 (xs.length:Int)) (.int .i64 (ys.length:Int))=some (.bool (decide (xs.length≠ys.length))):=by
  rw [cM]
  congr 2
  exact decide_eq_decide.2 (by omega)
 by_cases h0:xs.length≠ys.length
 ·rw [decide_eq_true h0] at b0
  rw [decide_eq_false (fun h=>h0 (by rw [h]))]
  unfold M16
  rw [aK _ _ rfl]
  simp [p5,hla,hlb,b0,-ai,-aq]
 have h0:xs.length=ys.length:=Classical.not_not.1 h0
 rw [decide_eq_false (by omega)] at b0
 have round:∀(A:ab) (i:Nat) (hi:i<xs.length),run (ax GC []) 300 [.code iZ] (lK a b (.int .i64 (i:Int))) A =
   if xs[i]=ys[i]'(by omega) then some (.normal (lK a b (.int .i64 ((i+1:Nat):Int))) A) else some (.ret [a,b,.bool false,.int .i64 (i:Int),.undef,.bool true,.bool true] A):=fun A i hi=>by
  have x1:=ha.index (A:=A) (x:=a0 xs[i]) (i:=i) (by simp [hi]) rfl (by omega) .i64
  have x2:=hb.index (A:=A) (x:=a0 (ys[i]'(by omega))) (i:=i) (by simp [show i<ys.length by omega]) rfl (by omega) .i64
  obtain ⟨p,hp⟩:∃p,p=xs[i]:=⟨_,rfl⟩
  obtain ⟨q,hq⟩:∃q,q=ys[i]'(by omega):=⟨_,rfl⟩
  rw [<-hp] at x1 ⊢
  rw [<-hq] at x2 ⊢
  have ea:gm true [(0,1),(1,1)] (a0 p) (a0 q)=some (.bool (decide (p≠q))):=by
   obtain ⟨a1,a2⟩:=p
   obtain ⟨c1,c2⟩:=q
   simp only [a0,gm,oG,eqK]
   by_cases e1:a1=c1 <;> by_cases e2:a2=c2 <;> simp [e1,e2]
  have b1:=bj i xs.length .i64
  rw [decide_eq_true hi] at b1
  have b3:=aY i (by omega)
  have l1:∀z:cS,ac true 2 A (.fp (cellsOf (a0 z)))=some (a0 z):=fun z=>rfl
  obtain ⟨P,hP⟩:∃P,P=cellsOf (a0 p):=⟨_,rfl⟩
  obtain ⟨Q,hQ⟩:∃P,P=cellsOf (a0 q):=⟨_,rfl⟩
  have l2:=l1 p
  have l3:=l1 q
  rw [<-hP] at x1 l2
  rw [<-hQ] at x2 l3
  obtain ⟨i1,hi1⟩:∃i1:Nat,i1=i+1:=⟨_,rfl⟩
  rw [<-hi1] at b3 ⊢
  by_cases hd:p=q
  ·rw [decide_eq_false (by simpa using hd)] at ea
   rw [if_pos hd]
   simp [iZ,hla,x1,x2,l2,l3,ea,b1,b3,-ai,-ag,-aq,-ac,-gm]
  ·rw [decide_eq_true (by simpa using hd)] at ea
   rw [if_neg hd]
   simp [iZ,hla,x1,x2,l2,l3,ea,b1,-ai,-ag,-aq,-ac,-gm]
 have bE:=bj xs.length xs.length .i64
 rw [decide_eq_false (by omega)] at bE
 unfold M16
 rw [aK _ _ rfl]
 rcases cI (E:=ax GC []) (fuel:=300) (a:=iZ) (mask:=iu) (fun i=>lK a b (.int .i64 (i:Int))) (fun _=>[]) xs.length (fun i=>¬ ∀(hi:i<xs.length),xs[i]=ys[i]'(by omega))
  (oF:=fun i=>.ret [a,b,.bool false,.int .i64 (i:Int),.undef,.bool true,.bool true] []) (oE:=.exit 0 ((lK a b (.int .i64 (xs.length:Int))).set 5 (.bool false)) [])
  (fun _=>CM) (fun _ _ _ h=>by cases h) (fun _ _ h=>by cases h)
  (fun i hi hp=>by
   rw [round [] i hi]
   exact if_pos (Classical.not_not.1 hp hi))
  (fun i hi hp=>by
   rw [round [] i hi]
   exact if_neg fun h=>hp fun _=>h)
  (by simp [iZ,hla,bE,-ai,-aq]) (show xs.length<300 by omega) with ⟨i,hi,hp,hj,lp⟩ | ⟨hp,lp⟩
 ·have lp:bU (evC (ax GC []) 300 iZ) iu 300 (lK a b (.int .i64 0)) []=_:=lp
  rw [decide_eq_false (fun h=>hp (fun _=>by subst h; rfl))]
  simp [p5,hla,hlb,b0,Cl lp,-ai,-aq]
 ·have lp:bU (evC (ax GC []) 300 iZ) iu 300 (lK a b (.int .i64 0)) []=_:=lp
  rw [decide_eq_true (List.ext_getElem h0 fun i h1 h2=>Classical.not_not.1 (hp i h1) h1)]
  simp [p5,hla,hlb,b0,Cl lp,-ai,-aq]
theorem F3:Ej=Cy.Gk:=rfl
theorem xj:au Try.prog GC 50 Cy.M12:=by
 refine au.of_ev (E:=ax GC []) (aw aA) rfl Lz yQ 1 ?_
 intro args r h
 unfold Cy.M12 at h
 split at h
 ·simp only [Option.ite_none_right_eq_some,Option.some.injEq] at h
  obtain ⟨⟨h1,h2⟩,rfl⟩:=h
  exact ⟨0,by rw [F3]; exact Cy.MT _ _ _ h1 h2⟩
 ·cases h
end Tr
namespace Tr
open Go
open Cy (GC aJ bb aB)
open Clu (aR aZ cD Chk an chA uZ iK pB t1 nK a7 br cM aT bX)
def M22:aP:=fun args=>evP (ax GC []) 300 Ak 1 args
theorem rP:au Try.prog GC 22 M22:=au.of_ev (E:=ax GC []) (aw aA) rfl LM zd 1 fun _ _ h=>⟨300,h⟩
theorem z9 {T:aR} (chv:AV) (hv:aZ T):M22 [an T chv]=some (.int .i64 (wT T)):=by
 obtain ⟨_,⟨h1,h2,h3⟩,_⟩:=hv
 have b1:ai .add (.int .i64 T.pick) (.int .i64 T.travel)=some (.int .i64 (T.pick+T.travel)):=a7 (by omega)
 have b2:ai .add (.int .i64 (T.pick+T.travel)) (.int .i64 T.place)=some (.int .i64 (wT T)):=a7 (by omega)
 unfold M22
 rw [aK _ _ rfl]
 simp [Ak,an,b1,b2,-ai]
def M26:aP:=fun args=>evP (ax GC []) 300 r6 4 args
theorem xu:au Try.prog GC 26 M26:=au.of_ev (E:=ax GC []) (aw aA) rfl HJ sO 4 fun _ _ h=>⟨300,h⟩
abbrev MY:AV:=.fs 2 [.agg [.int .i64 20,.int .i64 12],.agg [.int .i64 30,.int .i64 12]]
abbrev tA1:AV:=.agg [MY,.int .i64 1,.int .i64 1,.int .i64 2,.int .i64 1]
theorem qw:M26 []=some tA1:=by
 unfold M26
 rw [aK _ _ rfl]
 simp [r6]
def Bg:List (FuncId × aG):=[(26,aD 4 M26),(14,aD 4 M14),(17,aD 4 M17),(23,aD 4 Clu.M22),(24,aD 4 M24),(25,aD 4 M25),(16,aD 4 M16)]
@[simp] theorem Lj:aC Bg 26=some (aD 4 M26):=rfl
@[simp] theorem Lp:aC Bg 14=some (aD 4 M14):=rfl
@[simp] theorem Ln:aC Bg 17=some (aD 4 M17):=rfl
@[simp] theorem Lm:aC Bg 23=some (aD 4 Clu.M22):=rfl
@[simp] theorem Ll:aC Bg 24=some (aD 4 M24):=rfl
@[simp] theorem Lk:aC Bg 25=some (aD 4 M25):=rfl
@[simp] theorem Lo:aC Bg 16=some (aD 4 M16):=rfl
theorem DL:∀f M,aC Bg f=some M->aj Try.prog GC f M:=af (aj.of_pure xu 4) (af (aj.of_pure Dh 4) (af (aj.of_pure uV 4) (af (aj.of_pure Clu.rP 4) (af (aj.of_pure xw 4) (af (aj.of_pure BL 4) (af (aj.of_pure lN 4) aA))))))
def M11:aP:=fun args=>match args with
 | []=>some (.bool true)
 | _=>none
abbrev i3 (a b c:Int):AV:=.fs 1 [.int .i64 a,.int .i64 b,.int .i64 c]
abbrev i2 (a b:Int):AV:=.fs 1 [.int .i64 a,.int .i64 b]
theorem uY {e:Nat} {x:AV} {xs:List AV} {v:AV} (h:SlA e (x :: xs) v):v=.fs e (x :: xs):=by
 rcases h with ⟨_,h⟩ | h
 ·cases h
 ·exact h
theorem dm0 {T:aR} {rd:List Int} {free:Int}:df T rd free 0=bH T rd free:=oJ T rd free
theorem DN (s:cD) (A:ab) (n:Nat):frz A (n+1) (uZ s)=uZ s:=by
 have k:=fun o=>(be 1 (ak o)).frz (A:=A) n
 simp [uZ,frz,k,aJ]
open Classical in
theorem FU:au Try.prog GC 11 M11:=by
 refine au.of_ev (E:=ax GC Bg) (aw DL) rfl at11 HA 1 ?_
 intro args r h
 unfold M11 at h
 split at h
 rotate_left
 ·cases h
 injection h with h; subst h
 refine ⟨0,?_⟩
 have h12:SlA 2 (t1.ch.map chA) MY:=.inr rfl
 have hi:∀a b:Int,SlA 1 (ak [a,b]) (i2 a b):=fun a b=>.inr rfl
 obtain ⟨s,hs,hc,h1,h2,h3⟩:=HF
 have sV:=nK hc
 obtain ⟨va,ma,ra⟩:=my (free:=0) (lost:=0) h12 (hi 10 (-1)) (by decide) (by decide)
 rw [dm0,dr_a] at ma ra
 obtain ⟨vb,mb,rb⟩:=my (free:=0) (lost:=0) h12 (hi 10 40) (by decide) (by decide)
 rw [dm0,MV] at mb rb
 obtain ⟨vc,mc,rc⟩:=my (free:=0) (lost:=0) h12 (hi 40 30) (by decide) (by decide)
 rw [dm0,MU] at mc rc
 obtain ⟨vd,md,rd⟩:=my (free:=0) (lost:=2) h12 (hi 10 40) (by decide) (by decide)
 rw [dr_d] at md rd
 have ea:=uY ra
 have ec:=uY rc
 have ed:=uY rd
 have ma:M14 [tA1,i2 10 (-1),.int .i64 0,.int .i64 0]=some (.tup [va,.bool true]):=ma
 have mb:M14 [tA1,i2 10 40,.int .i64 0,.int .i64 0]=some (.tup [vb,.bool false]):=mb
 have mc:M14 [tA1,i2 40 30,.int .i64 0,.int .i64 0]=some (.tup [vc,.bool true]):=mc
 have md:M14 [tA1,i2 10 40,.int .i64 0,.int .i64 2]=some (.tup [vd,.bool true]):=md
 have k1:=qx h12 (by decide) (hi 40 30) (by decide) 0 rc (by decide)
 rw [show (some [((2:Int),(30:Int)),(1,40),(2,74)]).getD []=[(2,30),(1,40),(2,74)] from rfl,MW] at k1
 have k1:M17 [tA1,i2 40 30,.int .i64 0,vc]=some (.tup [.int .i64 78,.bool true]):=k1
 have k2:=qx h12 (by decide) (hi 40 30) (by decide) 0 (l:=[(2,30),(1,35)]) (.inr rfl) (by decide)
 rw [ck_d] at k2
 have k2:M17 [tA1,i2 40 30,.int .i64 0,.fs 2 [.agg [.int .i64 2,.int .i64 30],.agg [.int .i64 1,.int .i64 35]]]=some (.tup [.int .i64 0,.bool false]):=k2
 have e1:=qy ra (ys:=[(1,10),(2,44)]) (.inr rfl) (by decide) (by decide)
 have e1:M16 [va,.fs 2 [.agg [.int .i64 1,.int .i64 10],.agg [.int .i64 2,.int .i64 44]]]=some (.bool true):=e1
 have e2:=qy rd (ys:=[(1,10)]) (.inr rfl) (by decide) (by decide)
 have e2:M16 [vd,.fs 2 [.agg [.int .i64 1,.int .i64 10]]]=some (.bool true):=e2
 have b1:=Clu.z9 h12 (by decide)
 rw [hs] at b1
 obtain ⟨P1,hP1⟩:∃P,P=slA 1 (ak s.proof):=⟨_,rfl⟩
 obtain ⟨z1,z2⟩:=Clu.gY s.proof
 rw [<-hP1] at z1 z2
 obtain ⟨S,hS⟩:∃S,S=AV.agg [.int .i64 40,i3 0 2 1,i3 0 24 18,P1]:=⟨_,rfl⟩
 have hSs:S=uZ s:=by rw [hS,hP1]; unfold uZ; rw [h1,h2,h3]; rfl
 have b1:Clu.M22 [tA1]=some (.tup [S,.int .i64 0]):=by rw [hSs]; exact b1
 have fS:∀A n,frz A (n+1) S=S:=fun A n=>by rw [hSs]; exact DN s A n
 obtain ⟨r,hr,hrl⟩:=Ct hc h1 h2 h3 0 (by omega)
 obtain ⟨vl,ml,rl⟩:=CX (free:=0) h12 (by decide) sV
 rw [hr] at ml rl
 have el:=uY rl
 have ml:M24 [tA1,S,.int .i64 0]=some (.tup [vl,.int .i64 0]):=by rw [hSs]; exact ml
 have lenl:vl=.fs 2 (.agg [.int .i64 0,.int .i64 2] :: r.map a0):=el
 obtain ⟨r2,hr2,hrl2⟩:=Ct hc h1 h2 h3 78 (by omega)
 have w1:jf t1 [40,30] 0 s=some ([(2,30),(1,40),(2,74)]++(0,78+2) :: r2):=by
  unfold jf
  rw [MU,Option.bind_some,MW,Option.getD_some,hr2]; rfl
 have w2:jf t1 [10,40] 0 s=none:=by
  unfold jf
  rw [MV]; rfl
 obtain ⟨vm,mm,rm⟩:=CW (free:=0) h12 (by decide) (hi 40 30) (by decide) sV
 rw [w1] at mm rm
 have lm:=rm.len
 rw [List.length_map] at lm
 have mm:M25 [tA1,i2 40 30,.int .i64 0,S]=some (.tup [vm,.int .i64 0]):=by rw [hSs]; exact mm
 have lm:aq vm=some (.int .i64 8):=by
  rw [lm]
  simp [hrl2]
 obtain ⟨vn,mn,_⟩:=CW (free:=0) h12 (by decide) (hi 10 40) (by decide) sV
 rw [w2] at mn
 have mn:M25 [tA1,i2 10 40,.int .i64 0,S]=some (.tup [vn,.int .i64 140]):=by rw [hSs]; exact mn
 have lc:aq vc=some (.int .i64 3):=rc.len
 have ll:aq vl=some (.int .i64 5):=by
  rw [rl.len]; simp [hrl]
 have xl:∀A,ag 2 A vl (.int .i64 0)=some (.fp [.int .i64 0,.int .i64 2]):=fun A=>rl.index (A:=A) (i:=0) (x:=a0 (0,0+2)) rfl rfl (by omega) .i64
 have fa:∀A n,frz A n va=va:=fun A n=>ra.frz n
 have fb:∀A n,frz A n vb=vb:=fun A n=>rb.frz n
 have fc:∀A n,frz A n vc=vc:=fun A n=>rc.frz n
 have fd:∀A n,frz A n vd=vd:=fun A n=>rd.frz n
 clear ea ec ed el lenl
 clear rl rm ra rb rc rd
 have ft:∀A,frz A 4 tA1=tA1:=fun A=>aT (T:=t1) (fun A n=>h12.frz (A:=A) n) A 3
 have fi:∀A a b,frz A 4 (i2 a b)=i2 a b:=fun A a b=>(hi a b).frz 4
 have fk:∀A,frz A 4 (.fs 2 [.agg [.int .i64 2,.int .i64 30],.agg [.int .i64 1,.int .i64 35]])=.fs 2 [.agg [.int .i64 2,.int .i64 30],.agg [.int .i64 1,.int .i64 35]]:=fun A=>rfl
 have fk2:∀A,frz A 4 (.fs 2 [.agg [.int .i64 1,.int .i64 10],.agg [.int .i64 2,.int .i64 44]])=.fs 2 [.agg [.int .i64 1,.int .i64 10],.agg [.int .i64 2,.int .i64 44]]:=fun A=>rfl
 have fk3:∀A,frz A 4 (.fs 2 [.agg [.int .i64 1,.int .i64 10]])=.fs 2 [.agg [.int .i64 1,.int .i64 10]]:=fun A=>rfl
 have fP1:∀A n,frz A n P1=P1:=fun A n=>by rw [hP1]; exact (be 1 _).frz n
 have nP1:∀n,bh n P1=true:=fun n=>by rw [hP1]; exact (be 1 _).noRef n
 have fS4:=fun A=>fS A 3
 clear hSs fS
 subst hS
 rw [aK _ _ rfl]
 simp [Mq,qw,ma,mb,mc,md,k1,k2,e1,e2,b1,fS4,ft,fi,fk,fk2,fk3,nP1,aJ,ml,mm,mn,lm,lc,ll,xl,fa,fc,fd,-frz,-ag,-aq]
 rfl
end Tr
namespace Tr
open Go
open Cy (GC aJ bb aB dg)
open Clu (aR aZ pV an chA a7 dm ce cM br aT bX)
def nOf (ys:List (Int × Int)):Nat:=max 1 (min ys.length 4)
def yOf (ys:List (Int × Int)) (i:Nat):Int × Int:=ys.getD i (0,0)
def I4 (z:Int):Int:=if pick (z.tdiv 50) 3=0 then pick z 50+200 else pick z 50
def chO (ys:List (Int × Int)) (i:Nat):Int × Int:=if i<ys.length then (pick (yOf ys i).1 60,I4 (yOf ys i).2) else (20,30)
def mkT (ys:List (Int × Int)) (a b c:Int):aR:=⟨(List.range (nOf ys)).map (chO ys),pick a 4,pick b 4,pick c 5,1⟩
theorem zC (ys:List (Int × Int)) (i:Nat):(0<=(chO ys i).1/\(chO ys i).1<=59)/\0<=(chO ys i).2/\(chO ys i).2<=249:=by
 unfold chO I4
 have k1:=di (yOf ys i).1 60 (by omega)
 have k2:=di (yOf ys i).2 50 (by omega)
 split
 ·split <;> simp only <;> omega
 ·simp only; omega
theorem xR (ys:List (Int × Int)) (a b c:Int):(mkT ys a b c).ch.length=nOf ys:=by simp [mkT]
theorem rZ (ys:List (Int × Int)):1<=nOf ys/\nOf ys<=4:=by unfold nOf; omega
theorem nX (ys:List (Int × Int)) (a b c:Int):aZ (mkT ys a b c)/\(mkT ys a b c).blades=1:=by
 have h1:=di a 4 (by omega)
 have h2:=di b 4 (by omega)
 have h3:=di c 5 (by omega)
 have hn:=xR ys a b c
 have hb:=rZ ys
 refine ⟨⟨fun c hc=>?_,⟨⟨?_,?_⟩,⟨?_,?_⟩,?_,?_⟩,?_,?_,.inl rfl⟩,rfl⟩
 ·obtain ⟨i,_,rfl⟩:=List.mem_map.1 hc
  have:=zC ys i
  unfold pV
  omega
 all_goals first | (rw [hn]; omega) | (simp only [mkT]; omega)
def IM (A:ab) (v:AV) (xs:List (Int × Int)):Prop:=(v=.nilS/\xs=[])\/∃id gr,v=.sl id 0 xs.length/\xs≠[]/\2<id/\A[id]?=some (.row 2 gr (xs.map chA))
structure I27 (A:ab) (xs:List (Int × Int)) (p q r:Int):Prop where
 o:A[1]?=some (.row 5 false [.agg [.nilS,.int .i64 0,.int .i64 0,.int .i64 0,.int .i64 0]])
 c:∃v,A[2]?=some (.row 5 false [.agg [v,.int .i64 p,.int .i64 q,.int .i64 r,.int .i64 1]])/\IM A v xs
def gQ:List (FuncId × aG):=[(50,aD 4 Cy.M12)]
@[simp] theorem Kf:aC gQ 50=some (aD 4 Cy.M12):=rfl
theorem qE:∀f M,aC gQ f=some M->aj Try.prog GC f M:=af (aj.of_pure xj 4) aA
theorem p8 {A:ab} {id i:Nat} {k:Nat} {es:List AV} {x:AV} (h:A[id]?=some (.row k false [.agg es])) (hx:es[i]?=some x):ac false 1 A (.ptr id 0 i)=some x:=by
 simp [ac,h,bN,hx]
theorem b27 (ys:List (Int × Int)):da false (.int .i64 (ys.length:Int)) [.int .i64 4]=some (.int .i64 ((min ys.length 4:Nat):Int))/\da true (.int .i64 1) [.int .i64 ((min ys.length 4:Nat):Int)]=some (.int .i64 (nOf ys:Int)):=by
 constructor
 ·have:=AO ys.length 4 .i64 .i64
  simp only [da]
  rw [show (.int .i64 4:AV)=.int .i64 ((4:Nat):Int) from rfl,this]
 ·have:=AU 1 (min ys.length 4) .i64 .i64
  simp only [da]
  rw [show (.int .i64 1:AV)=.int .i64 ((1:Nat):Int) from rfl,this]
  rfl
theorem tU {a b:Int} (ha:inI a) (hb:2<=b/\b<=9223372036854775807):ai .quo (.int .i64 a) (.int .i64 b)=some (.int .i64 (a.tdiv b))/\inI (a.tdiv b):=by
 have h1:(a.tdiv b).natAbs<=a.natAbs:=by rw [Int.natAbs_tdiv]; exact Nat.div_le_self _ _
 have hr:inI (a.tdiv b):=by
  unfold inI at *
  have h2:(a.tdiv b).natAbs<=a.natAbs / 2:=by
   rw [Int.natAbs_tdiv]
   exact Nat.div_le_div_left (by omega) (by omega)
  omega
 refine ⟨?_,hr⟩
 have hw:=eu hr
 simp only [ai]
 rw [if_pos trivial,if_neg (by omega),hw]
theorem tR {A:ab} {ys:List (Int × Int)} (hys:∀y∈ys,inI y.1/\inI y.2) {yv:AV} (hy:SlA 2 (ys.map chA) yv) {xs:List (Int × Int)} {p q r:Int} (hI:I27 A xs p q r) {i:Nat} (hi:i<nOf ys) (hxl:xs.length<=100) :
  ∃B,run (ax GC gQ) 300 [.code ew] (pL yv (.ptr 1 0 0) (.ptr 2 0 0) (.int .i64 (i:Int))) A=some (.normal (pL yv (.ptr 1 0 0) (.ptr 2 0 0) (.int .i64 ((i+1:Nat):Int))) B)/\I27 B (xs++[chO ys i]) p q r:=by
 obtain ⟨h1,v,h2,hv⟩:=hI
 have n1:=(List.getElem?_eq_some_iff.1 h1).1
 have n2:=(List.getElem?_eq_some_iff.1 h2).1
 have hlen:=hy.len
 rw [List.length_map] at hlen
 obtain ⟨b0,b1⟩:=b27 ys
 have b2:=bj i (nOf ys) .i64
 rw [decide_eq_true hi] at b2
 have b3:=bj i ys.length .i64
 have b4:=aY i (by have:=rZ ys; omega)
 obtain ⟨N,hN⟩:∃n,n=A.length:=⟨_,rfl⟩
 have bx:aX 2 (.agg [.int .i64 0,.int .i64 0]) A=some (.ptr N 0 0,A++[.row 2 false [.agg [.int .i64 0,.int .i64 0]]]):=by rw [hN]; rfl
 have s0:∀a b c d,az 2 (A++[.row 2 false [.agg [.int .i64 a,.int .i64 b]]]) (.ptr N 0 0) (.agg [.int .i64 c,.int .i64 d])=some (A++[.row 2 false [.agg [.int .i64 c,.int .i64 d]]]):=fun a b c d=>by rw [hN]; simp [az,bn]
 have f0:∀a b:Int,aa 0 (A++[.row 2 false [.agg [.int .i64 a,.int .i64 b]]]) (.ptr N 0 0)=some (.ptr N 0 0):=fun a b=>by rw [hN]; simp [aa]
 have f1:∀a b:Int,aa 1 (A++[.row 2 false [.agg [.int .i64 a,.int .i64 b]]]) (.ptr N 0 0)=some (.ptr N 0 1):=fun a b=>by rw [hN]; simp [aa]
 have t0:∀a b c,az 1 (A++[.row 2 false [.agg [.int .i64 a,.int .i64 b]]]) (.ptr N 0 0) (.int .i64 c)=some (A++[.row 2 false [.agg [.int .i64 c,.int .i64 b]]]):=fun a b c=>by rw [hN]; simp [az,bn]
 have t1:∀a b c,az 1 (A++[.row 2 false [.agg [.int .i64 a,.int .i64 b]]]) (.ptr N 0 1) (.int .i64 c)=some (A++[.row 2 false [.agg [.int .i64 a,.int .i64 c]]]):=fun a b c=>by rw [hN]; simp [az,bn]
 have l1:∀a b:Int,ac false 1 (A++[.row 2 false [.agg [.int .i64 a,.int .i64 b]]]) (.ptr N 0 1)=some (.int .i64 b):=fun a b=>by rw [hN]; exact p8 (es:=[.int .i64 a,.int .i64 b]) (k:=2) (by simp) rfl
 have l2:∀a b:Int,ac true 2 (A++[.row 2 false [.agg [.int .i64 a,.int .i64 b]]]) (.ptr N 0 0)=some (.agg [.int .i64 a,.int .i64 b]):=fun a b=>by rw [hN]; simp [ac]
 have c0:∀X,aa 0 (A++X) (.ptr 2 0 0)=some (.ptr 2 0 0):=fun X=>by
  have:(A++X)[2]?=some (.row 5 false [.agg [v,.int .i64 p,.int .i64 q,.int .i64 r,.int .i64 1]]):=by rw [List.getElem?_append_left n2]; exact h2
  simp [aa,this]
 have cl:∀X,ac false 1 (A++X) (.ptr 2 0 0)=some v:=fun X=>p8 (es:=[v,.int .i64 p,.int .i64 q,.int .i64 r,.int .i64 1]) (k:=5) (by rw [List.getElem?_append_left n2]; exact h2) rfl
 obtain ⟨P1,P2,hch⟩:∃P1 P2,chO ys i=(P1,P2):=⟨_,_,rfl⟩
 rw [hch]
 obtain ⟨A1,hA1⟩:∃X,X=A++[Ent.row 2 false [.agg [.int .i64 P1,.int .i64 P2]]]:=⟨_,rfl⟩
 have hl1:A1.length=A.length+1:=by rw [hA1]; simp
 have hA1o:∀j,j<A.length->A1[j]?=A[j]?:=fun j hj=>by rw [hA1,List.getElem?_append_left hj]
 obtain ⟨v',A2,e1,e2,e3,e4,e5⟩:∃v' A2,aN 2 16 A1 v (.fs 2 [.agg [.int .i64 P1,.int .i64 P2]])=some (v',A2)/\IM A2 v' (xs++[(P1,P2)])/\(∀j,j<=2->A2[j]?=A[j]?)/\(∃a b,v'=.sl a 0 b/\2<a)/\2<A2.length:=by
  rcases hv with ⟨rfl,rfl⟩ | ⟨id,gr,rfl,hne,hid,hrow⟩
  ·refine ⟨.sl A1.length 0 1,A1++[.row 2 false [chA (P1,P2)]],by simp [aN,chA],.inr ⟨A1.length,false,rfl,by simp,by omega,by simp⟩,fun j hj=>?_,⟨_,_,rfl,by omega⟩,by simp; omega⟩
   rw [List.getElem?_append_left (by omega),hA1o j (by omega)]
  ·have hidl:=(List.getElem?_eq_some_iff.1 hrow).1
   have hz:xs.length≠0:=fun e=>hne (List.length_eq_zero_iff.1 e)
   have hb:(xs.length+1)*16<=140737488355328:=by omega
   have hrow1:A1[id]?=some (.row 2 gr (xs.map chA)):=by rw [hA1o id hidl]; exact hrow
   refine ⟨.sl id 0 (xs.length+1),A1.set id (.row 2 true (xs.map chA++[chA (P1,P2)])),by simp [aN,hrow1,hz,hb,chA],.inr ⟨id,true,by simp,by simp,hid,?_⟩,fun j hj=>?_,⟨_,_,rfl,hid⟩,by simp; omega⟩
   ·rw [List.getElem?_set_self (by omega),List.map_append]; rfl
   ·rw [List.getElem?_set_ne (by omega),hA1o j (by omega)]
 obtain ⟨ia,ib,rfl,hia⟩:=e4
 have c2:aa 0 A2 (.ptr 2 0 0)=some (.ptr 2 0 0):=by
  have:=e3 2 (by omega)
  rw [h2] at this
  simp [aa,this]
 have st:az 1 A2 (.ptr 2 0 0) (.sl ia 0 ib)=some (A2.set 2 (.row 5 false [.agg [.sl ia 0 ib,.int .i64 p,.int .i64 q,.int .i64 r,.int .i64 1]])):=by
  have:=e3 2 (by omega)
  rw [h2] at this
  simp [az,this,bn]
 refine ⟨A2.set 2 (.row 5 false [.agg [.sl ia 0 ib,.int .i64 p,.int .i64 q,.int .i64 r,.int .i64 1]]),?_,⟨by rw [List.getElem?_set_ne (by omega),e3 1 (by omega)]; exact h1,.sl ia 0 ib,by rw [List.getElem?_set_self e5],?_⟩⟩
 rotate_left
 ·rcases e2 with ⟨h,_⟩ | ⟨id,gr,e2,e6,e7,e8⟩
  ·cases h
  ·exact .inr ⟨id,gr,e2,e6,e7,by rw [List.getElem?_set_ne (by omega)]; exact e8⟩
 obtain ⟨B,hB⟩:∃X,X=A2.set 2 (.row 5 false [.agg [.sl ia 0 ib,.int .i64 p,.int .i64 q,.int .i64 r,.int .i64 1]]):=⟨_,rfl⟩
 rw [<-hB] at st ⊢
 have c1:=c0 [Ent.row 2 false [.agg [.int .i64 P1,.int .i64 P2]]]
 have cl1:=cl [Ent.row 2 false [.agg [.int .i64 P1,.int .i64 P2]]]
 have l2':=l2 P1 P2
 rw [<-hA1] at c1 cl1 l2'
 have hsl:a6 2 [.agg [.int .i64 P1,.int .i64 P2]]=some (.fs 2 [.agg [.int .i64 P1,.int .i64 P2]]):=rfl
 obtain ⟨ii,hii⟩:∃n,n=i+1:=⟨_,rfl⟩
 rw [<-hii] at b4 ⊢
 obtain ⟨nn,hnn⟩:∃n,n=nOf ys:=⟨_,rfl⟩
 rw [<-hnn] at b1 b2
 obtain ⟨mm,hmm⟩:∃n,n=min ys.length 4:=⟨_,rfl⟩
 rw [<-hmm] at b0 b1
 have A0d:∀a b,∃X,X=A++[Ent.row 2 false [.agg [.int .i64 a,.int .i64 b]]]:=fun a b=>⟨_,rfl⟩
 have u0:=s0 0 0 20 30
 obtain ⟨D0,hD0⟩:=A0d 0 0
 rw [<-hD0] at bx u0
 by_cases hc:i<ys.length
 ·rw [decide_eq_true hc] at b3
  obtain ⟨y,hye⟩:∃y,y=ys[i]:=⟨_,rfl⟩
  have hyy:yOf ys i=y:=by unfold yOf; rw [List.getD_eq_getElem?_getD,List.getElem?_eq_getElem hc,hye]; rfl
  have hyr:inI y.1/\inI y.2:=by rw [hye]; exact hys _ (List.getElem_mem hc)
  have yx:∀A,ag 2 A yv (.int .i64 (i:Int))=some (.fp [.int .i64 y.1,.int .i64 y.2]):=fun A=>by
   rw [hye]
   exact hy.index (A:=A) (x:=chA ys[i]) (by simp [hc]) rfl (by omega) .i64
  have y0:∀A,cE 2 1 A (.fp [.int .i64 y.1,.int .i64 y.2]) (.int .i64 0)=some (.fp [.int .i64 y.1,.int .i64 y.2]):=fun A=>rfl
  have y1:∀A,cE 2 1 A (.fp [.int .i64 y.1,.int .i64 y.2]) (.int .i64 1)=some (.fp [.int .i64 y.2]):=fun A=>rfl
  have z0:∀A,ac false 1 A (.fp [.int .i64 y.1,.int .i64 y.2])=some (.int .i64 y.1):=fun A=>rfl
  have z1:∀A,ac false 1 A (.fp [.int .i64 y.2])=some (.int .i64 y.2):=fun A=>rfl
  have m1:=dg hyr.1 (n:=60) (by omega)
  have m2:=dg hyr.2 (n:=50) (by omega)
  obtain ⟨q0,q1⟩:=tU hyr.2 (b:=50) (by omega)
  have m3:=dg q1 (n:=3) (by omega)
  have hcc:=hch
  unfold chO I4 at hcc
  rw [if_pos hc,hyy] at hcc
  injection hcc with e1' e2'
  have r1:=di y.2 50 (by omega)
  have b5:ai .add (.int .i64 (pick y.2 50)) (.int .i64 200)=some (.int .i64 (pick y.2 50+200)):=a7 (by omega)
  have b6:=br (pick (y.2.tdiv 50) 3) 0
  rw [e1'] at m1
  obtain ⟨S,hS⟩:∃S,S=pick y.2 50:=⟨_,rfl⟩
  rw [<-hS] at m2 e2' b5
  have u1:=f0 20 30
  have u2:=t0 20 30 P1
  have u3:=f1 P1 30
  have u4:=t1 P1 30 S
  obtain ⟨D1,hD1⟩:=A0d 20 30
  rw [<-hD1] at u0 u1 u2
  obtain ⟨D2,hD2⟩:=A0d P1 30
  rw [<-hD2] at u2 u3 u4
  generalize y.2.tdiv 50=Q at *
  generalize pick Q 3=R at *
  by_cases hR:R=0
  ·rw [if_pos hR] at e2'
   rw [decide_eq_true hR] at b6
   rw [e2'] at b5
   have u5:=f1 P1 S
   have u6:=l1 P1 S
   have u7:=t1 P1 S P2
   rw [<-hA1] at u7
   obtain ⟨D3,hD3⟩:=A0d P1 S
   rw [<-hD3] at u4 u5 u6 u7
   simp [ew,hlen,b0,b1,b2,b3,b4,b5,b6,bx,yx,y0,y1,z0,z1,u0,u1,u2,u3,u4,u5,u6,u7,q0,m1,m2,m3,hsl,c1,cl1,l2',e1,c2,st,aJ,-da,-dC,-ai,-ac,-az,-aa,-ag,-aq,-a6,-aX,-frz]
  ·rw [if_neg hR] at e2'
   rw [decide_eq_false hR] at b6
   subst e2'
   rw [<-hA1] at u4
   simp [ew,hlen,b0,b1,b2,b3,b4,b6,bx,yx,y0,y1,z0,z1,u0,u1,u2,u3,u4,q0,m1,m2,m3,hsl,c1,cl1,l2',e1,c2,st,aJ,-da,-dC,-ai,-ac,-az,-aa,-ag,-aq,-a6,-aX,-frz]
 ·rw [decide_eq_false hc] at b3
  have hcc:=hch
  unfold chO at hcc
  rw [if_neg hc] at hcc
  injection hcc with e1' e2'
  subst e1'; subst e2'
  rw [<-hA1] at u0
  simp [ew,hlen,b0,b1,b2,b3,b4,bx,u0,hsl,c1,cl1,l2',e1,c2,st,-da,-dC,-ai,-ac,-az,-aa,-ag,-aq,-a6,-aX,-frz]
theorem Gr {ys:List (Int × Int)} (hys:∀y∈ys,inI y.1/\inI y.2) {yv:AV} (hy:SlA 2 (ys.map chA) yv) {p q r:Int}:∀(c i:Nat) (A:ab) (m:Nat),i+c=nOf ys->I27 A ((List.range i).map (chO ys)) p q r->c<m ->
  ∃B,bU (evC (ax GC gQ) 300 ew) mX m (pL yv (.ptr 1 0 0) (.ptr 2 0 0) (.int .i64 (i:Int))) A=some (.exit 0 ((pL yv (.ptr 1 0 0) (.ptr 2 0 0) (.int .i64 (nOf ys:Int))).set 7 (.bool false)) B)/\I27 B ((List.range (nOf ys)).map (chO ys)) p q r:=by
 have hn4:=rZ ys
 intro c
 induction c with
 | zero=>
  intro i A m hi hI hm
  obtain ⟨m,rfl⟩:∃j,m=j+1:=⟨m-1,by omega⟩
  obtain rfl:i=nOf ys:=by omega
  refine ⟨A,?_,hI⟩
  have hlen:=hy.len
  rw [List.length_map] at hlen
  obtain ⟨b0,b1⟩:=b27 ys
  have b2:=bj (nOf ys) (nOf ys) .i64
  rw [decide_eq_false (by omega)] at b2
  obtain ⟨mm,hmm⟩:∃n,n=min ys.length 4:=⟨_,rfl⟩
  rw [<-hmm] at b0 b1
  rw [aI,zm]
  simp [ew,hlen,b0,b1,b2,-ai,-da,-dC,-aq]
 | succ c ih=>
  intro i A m hi hI hm
  obtain ⟨m,rfl⟩:∃j,m=j+1:=⟨m-1,by omega⟩
  obtain ⟨B,h1,h2⟩:=tR hys hy hI (i:=i) (by omega) (by simp; omega)
  have e:(List.range i).map (chO ys)++[chO ys i]=(List.range (i+1)).map (chO ys):=by rw [List.range_succ,List.map_append]; rfl
  rw [e] at h2
  obtain ⟨C,h3,h4⟩:=ih (i+1) B m (by omega) h2 (by omega)
  refine ⟨C,?_,h4⟩
  rw [aI,zm,h1]
  exact h3
def M27:aP:=fun args=>evP (ax GC gQ) 300 AT 4 args
theorem uU:au Try.prog GC 27 M27:=au.of_ev (E:=ax GC gQ) (aw qE) rfl LK y9 4 fun _ _ h=>⟨300,h⟩
theorem Bt {A:ab} {v:AV} {xs:List (Int × Int)} (h:IM A v xs) (k:Nat):frz A (k+3) v=slA 2 (xs.map chA):=by
 rcases h with ⟨rfl,rfl⟩ | ⟨id,gr,rfl,hne,_,hr⟩
 ·rfl
 ·have e:((xs.map chA).drop 0).take xs.length=xs.map chA:=by
   rw [List.drop_zero]
   conv=>lhs; rw [show xs.length=(xs.map chA).length by simp]
   rw [List.take_length]
  have hm:(xs.map chA).map (frz A (k+2))=xs.map chA:=by
   rw [List.map_map]
   exact List.map_congr_left fun x _=>by simp [chA,frz]
  rw [show k+3=(k+2)+1 from rfl]
  simp only [frz,hr]
  rw [e,hm]
  cases xs with
  | nil=>exact absurd rfl hne
  | cons x r=>rfl
def mkA (ys:List (Int × Int)) (a b c:Int):AV:=an (mkT ys a b c) (slA 2 ((mkT ys a b c).ch.map chA))
theorem vZ {ys:List (Int × Int)} (hys:∀y∈ys,inI y.1/\inI y.2) {yv:AV} (hy:SlA 2 (ys.map chA) yv) {a b c:Int} (ha:inI a) (hb:inI b) (hc:inI c):M27 [yv,.agg [.int .i64 a,.int .i64 b,.int .i64 c]]=some (mkA ys a b c):=by
 have m1:=dg ha (n:=4) (by omega)
 have m2:=dg hb (n:=4) (by omega)
 have m3:=dg hc (n:=5) (by omega)
 have hmk:mkA ys a b c=.agg [slA 2 (((List.range (nOf ys)).map (chO ys)).map chA),.int .i64 (pick a 4),.int .i64 (pick b 4),.int .i64 (pick c 5),.int .i64 1]:=rfl
 rw [hmk]
 obtain ⟨q1,h1⟩:∃z,z=pick a 4:=⟨_,rfl⟩
 obtain ⟨q2,h2⟩:∃z,z=pick b 4:=⟨_,rfl⟩
 obtain ⟨q3,h3⟩:∃z,z=pick c 5:=⟨_,rfl⟩
 rw [<-h1] at m1 ⊢
 rw [<-h2] at m2 ⊢
 rw [<-h3] at m3 ⊢
 obtain ⟨B,lp,⟨k1,v,k2,k3⟩⟩:=Gr hys hy (p:=q1) (q:=q2) (r:=q3) (nOf ys) 0 [.row 3 false [.agg [.int .i64 a,.int .i64 b,.int .i64 c]],.row 5 false [.agg [.nilS,.int .i64 0,.int .i64 0,.int .i64 0,.int .i64 0]],.row 5 false [.agg [.nilS,.int .i64 q1,.int .i64 q2,.int .i64 q3,.int .i64 1]]] 300 (by omega) ⟨rfl,.nilS,rfl,.inl ⟨rfl,rfl⟩⟩ (by have:=rZ ys; omega)
 rw [show ((0:Nat):Int)=0 from rfl] at lp
 have e1:ac true 5 B (.ptr 2 0 0)=some (.agg [v,.int .i64 q1,.int .i64 q2,.int .i64 q3,.int .i64 1]):=by simp [ac,k2]
 have kl:=(List.getElem?_eq_some_iff.1 k1).1
 have st:az 5 B (.ptr 1 0 0) (.agg [v,.int .i64 q1,.int .i64 q2,.int .i64 q3,.int .i64 1])=some (B.set 1 (.row 5 false [.agg [v,.int .i64 q1,.int .i64 q2,.int .i64 q3,.int .i64 1]])):=by simp [az,k1,bn]
 have k3':IM (B.set 1 (.row 5 false [.agg [v,.int .i64 q1,.int .i64 q2,.int .i64 q3,.int .i64 1]])) v ((List.range (nOf ys)).map (chO ys)):=by
  rcases k3 with k3 | ⟨id,gr,a,b,c,d⟩
  ·exact .inl k3
  ·exact .inr ⟨id,gr,a,b,c,by rw [List.getElem?_set_ne (by omega)]; exact d⟩
 have f1:=Bt k3' 0
 have e2:ac true 5 (B.set 1 (.row 5 false [.agg [v,.int .i64 q1,.int .i64 q2,.int .i64 q3,.int .i64 1]])) (.ptr 1 0 0)=some (.agg [v,.int .i64 q1,.int .i64 q2,.int .i64 q3,.int .i64 1]):=by simp [ac,kl]
 obtain ⟨C,hC⟩:∃X,X=B.set 1 (.row 5 false [.agg [v,.int .i64 q1,.int .i64 q2,.int .i64 q3,.int .i64 1]]):=⟨_,rfl⟩
 rw [<-hC] at st e2 f1
 have F1:frz C 4 (.agg [v,.int .i64 q1,.int .i64 q2,.int .i64 q3,.int .i64 1])=.agg [slA 2 (((List.range (nOf ys)).map (chO ys)).map chA),.int .i64 q1,.int .i64 q2,.int .i64 q3,.int .i64 1]:=by
  rw [<-f1]; rfl
 rw [hC] at F1
 have k1g:B[1]=.row 5 false [.agg [.nilS,.int .i64 0,.int .i64 0,.int .i64 0,.int .i64 0]]:=by
  rw [List.getElem?_eq_getElem kl] at k1; injection k1
 unfold M27
 rw [aK _ _ rfl]
 simp [AT,cE,m1,m2,m3,aJ,GM lp,k1g,k2,kl,F1,-frz,-ai]
end Tr
namespace Tr
open Go
open Cy (GC aJ bb aB dg)
open Clu (aR aZ an chA a7 dm ce cM br cB aT bX)
def rdO (xs:List Int) (i:Nat):Int:=if i<xs.length/\0<pick (xs.getD i 0) 4 then pick ((xs.getD i 0).tdiv 4) 120 else -1
def rdM (n:Nat) (xs:List Int):List Int:=(List.range n).map (rdO xs)
theorem tT (n:Nat) (xs:List Int):(rdM n xs).length=n:=by simp [rdM]
theorem F5 (xs:List Int) (i:Nat) : -1<=rdO xs i/\rdO xs i<=119:=by
 unfold rdO
 have:=di ((xs.getD i 0).tdiv 4) 120 (by omega)
 split <;> omega
theorem F6 {n:Nat} {xs:List Int}:∀t∈rdM n xs,-1<=t/\t<=119:=fun t ht=>by
 obtain ⟨i,_,rfl⟩:=List.mem_map.1 ht
 exact F5 xs i
def rI (f:Nat->Int) (n i:Nat):List Int:=(List.range i).map f++List.replicate (n-i) 0
theorem F9 (f:Nat->Int) {n i:Nat} (h:i<=n):(rI f n i).length=n:=by simp [rI]; omega
theorem F8 (f:Nat->Int) {n i:Nat} (h:i<n):(rI f n i).set i (f i)=rI f n (i+1):=by
 unfold rI
 rw [List.set_append_right _ _ (by simp)]
 obtain ⟨m,hm⟩:∃m,n-i=m+1:=⟨n-i-1,by omega⟩
 rw [hm,show n-(i+1)=m by omega,List.range_succ]
 simp [List.replicate_succ]
theorem Eb (f:Nat->Int) (n:Nat):rI f n n=(List.range n).map f:=by simp [rI]
theorem Ea (f:Nat->Int) (n:Nat):rI f n 0=List.replicate n 0:=by simp [rI]
def M28:aP:=fun args=>evP (ax GC gQ) 300 Jm 4 args
theorem FP:au Try.prog GC 28 M28:=au.of_ev (E:=ax GC gQ) (aw qE) rfl at28 Ht 4 fun _ _ h=>⟨300,h⟩
def A28 (tv:AV) (l:List Int):ab:=[.row 5 false [tv],.row 1 false (ak l)]
theorem DX {tv:AV} {xs:List Int} {xv:AV} (hx:SlA 1 (ak xs) xv) (hxi:∀z∈xs,inI z) {n i:Nat} (hn:n<=100) (hi:i<n) :
  run (ax GC gQ) 300 [.code j8] (pK xv (.sl 1 0 n) (.int .i64 (i:Int))) (A28 tv (rI (rdO xs) n i))=some (.normal (pK xv (.sl 1 0 n) (.int .i64 ((i+1:Nat):Int))) (A28 tv (rI (rdO xs) n (i+1)))):=by
 have hr:∀l,(A28 tv l)[1]?=some (.row 1 false (ak l)):=fun l=>rfl
 have hset:∀l l',(A28 tv l).set 1 (.row 1 false (ak l'))=A28 tv l':=fun l l'=>rfl
 have hl:=F9 (rdO xs) (n:=n) (i:=i) (by omega)
 have hll:=hx.len
 rw [aB] at hll
 have b0:=bj i n .i64
 rw [decide_eq_true hi] at b0
 have b1:=bj i xs.length .i64
 have b2:=aY i (by omega)
 have hS:aq (.sl 1 0 n)=some (.int .i64 (n:Int)):=rfl
 have i0:=cX (n:=n) (hr (rI (rdO xs) n i)) hi .i64
 have s0:=ly (hr (rI (rdO xs) n i)) (show i<(rI (rdO xs) n i).length by omega) (-1)
 rw [hset] at s0
 obtain ⟨L1,hL1⟩:∃L,L=(rI (rdO xs) n i).set i (-1):=⟨_,rfl⟩
 rw [<-hL1] at s0
 have hl1:L1.length=n:=by rw [hL1,List.length_set,hl]
 have i1:=cX (n:=n) (hr L1) hi .i64
 have ii:∃j,j=i+1:=⟨_,rfl⟩
 obtain ⟨j,hj⟩:=ii
 have e0:=F8 (rdO xs) hi
 rw [<-hj] at b2 e0 ⊢
 by_cases hc:i<xs.length
 ·rw [decide_eq_true hc] at b1
  obtain ⟨y,hy⟩:∃y,y=xs[i]:=⟨_,rfl⟩
  have hyg:xs.getD i 0=y:=by rw [List.getD_eq_getElem?_getD,List.getElem?_eq_getElem hc,hy]; rfl
  have hyi:inI y:=by rw [hy]; exact hxi _ (List.getElem_mem hc)
  have x1:∀A,ag 1 A xv (.int .i64 (i:Int))=some (.fp [.int .i64 y]):=fun A=>by
   rw [hy]
   exact hx.index1 (A:=A) (x:=.int .i64 xs[i]) (i:=i) (by simp [ak,hc]) rfl rfl .i64
  have l1:∀A,ac false 1 A (.fp [.int .i64 y])=some (.int .i64 y):=fun A=>rfl
  have m1:=dg hyi (n:=4) (by omega)
  obtain ⟨q0,q1⟩:=tU hyi (b:=4) (by omega)
  have m2:=dg q1 (n:=120) (by omega)
  have b3:=cB (pick y 4) 0
  have ef:rdO xs i=if 0<pick y 4 then pick (y.tdiv 4) 120 else -1:=by
   unfold rdO
   rw [hyg]
   by_cases h:0<pick y 4
   ·rw [if_pos ⟨hc,h⟩,if_pos h]
   ·rw [if_neg (fun hh=>h hh.2),if_neg h]
  generalize y.tdiv 4=Q at *
  generalize pick y 4=R at *
  generalize pick Q 120=V at *
  by_cases hR:0<R
  ·rw [if_pos hR] at ef
   rw [decide_eq_true hR] at b3
   have s1:=ly (hr L1) (show i<L1.length by omega) V
   rw [hset,hL1,List.set_set,<-hL1,<-ef,e0] at s1
   rw [ef] at s1
   generalize A28 tv (rI (rdO xs) n i)=B0 at *
   generalize A28 tv L1=B1 at *
   generalize A28 tv (rI (rdO xs) n j)=B2 at *
   simp [j8,hll,hS,b0,b1,b2,b3,i0,s0,i1,s1,x1,l1,q0,m1,m2,aJ,-ai,-ac,-az,-ag,-aq,-frz]
  ·rw [if_neg hR] at ef
   rw [decide_eq_false hR] at b3
   rw [hL1,<-ef,e0] at s0
   rw [ef] at s0
   generalize A28 tv (rI (rdO xs) n i)=B0 at *
   generalize A28 tv (rI (rdO xs) n j)=B2 at *
   simp [j8,hll,hS,b0,b1,b2,b3,i0,s0,x1,l1,m1,aJ,-ai,-ac,-az,-ag,-aq,-frz]
 ·rw [decide_eq_false hc] at b1
  have ef:rdO xs i = -1:=by unfold rdO; rw [if_neg (fun h=>hc h.1)]
  rw [hL1,<-ef,e0] at s0
  rw [ef] at s0
  generalize A28 tv (rI (rdO xs) n i)=B0 at *
  generalize A28 tv (rI (rdO xs) n j)=B2 at *
  simp [j8,hll,hS,b0,b1,b2,i0,s0,-ai,-ac,-az,-ag,-aq,-frz]
theorem Gq {tv:AV} {xs:List Int} {xv:AV} (hx:SlA 1 (ak xs) xv) (hxi:∀z∈xs,inI z) {n:Nat} (hn:n<=100):∀(c i m:Nat),i+c=n->c<m ->
  bU (evC (ax GC gQ) 300 j8) mW m (pK xv (.sl 1 0 n) (.int .i64 (i:Int))) (A28 tv (rI (rdO xs) n i))=some (.exit 0 ((pK xv (.sl 1 0 n) (.int .i64 (n:Int))).set 6 (.bool false)) (A28 tv (rI (rdO xs) n n))):=by
 intro c
 induction c with
 | zero=>
  intro i m hi hm
  obtain ⟨m,rfl⟩:∃j,m=j+1:=⟨m-1,by omega⟩
  obtain rfl:i=n:=by omega
  have b2:=bj i i .i64
  rw [decide_eq_false (by omega)] at b2
  rw [aI,zk]
  simp [j8,b2,-ai]
 | succ c ih=>
  intro i m hi hm
  obtain ⟨m,rfl⟩:∃j,m=j+1:=⟨m-1,by omega⟩
  rw [aI,zk,DX hx hxi hn (by omega)]
  exact ih (i+1) m (by omega) (by omega)
theorem If {T:aR} {chv:AV} (hb:SlA 2 (T.ch.map chA) chv) (hl:T.ch.length<=100) (hl1:1<=T.ch.length) {xs:List Int} {xv:AV} (hx:SlA 1 (ak xs) xv) (hxi:∀z∈xs,inI z):M28 [an T chv,xv]=some (.fs 1 (ak (rdM T.ch.length xs))):=by
 have lp:=Gq (tv:=an T chv) hx hxi hl T.ch.length 0 300 (by omega) (by omega)
 rw [Ea,Eb,show ((0:Nat):Int)=0 from rfl] at lp
 have lnc:=hb.len
 rw [List.length_map] at lnc
 have bx0:aX 5 (an T chv) []=some (.ptr 0 0 0,[.row 5 false [an T chv]]):=rfl
 have ct:(cellsOf (an T chv)).length=5:=rfl
 obtain ⟨n,hn⟩:∃n,n=T.ch.length:=⟨_,rfl⟩
 rw [<-hn] at lp lnc hl hl1 ⊢
 have mk:bZ 1 8 (.int .i64 0) [.row 5 false [an T chv]] (.int .i64 (n:Int)) (.int .i64 (n:Int))=some (.sl 1 0 n,A28 (an T chv) (List.replicate n 0)):=by
  simp [bZ,A28,ak]
  omega
 have fa0:aa 0 [.row 5 false [an T chv]] (.ptr 0 0 0)=some (.ptr 0 0 0):=rfl
 have lch:ac false 1 [.row 5 false [an T chv]] (.ptr 0 0 0)=some chv:=by
  rcases hb with ⟨rfl,_⟩ | rfl <;> rfl
 have ff:frz (A28 (an T chv) (rdM n xs)) 4 (.sl 1 0 n)=.fs 1 (ak (rdM n xs)):=by
  have hrow:(A28 (an T chv) (rdM n xs))[1]?=some (.row 1 false (ak (rdM n xs))):=rfl
  have:=dM (off:=0) (xs:=ak (rdM n xs)) hrow (by rw [List.drop_zero]; exact List.take_of_length_le (by simp [ak,rdM])) (fun k x hx=>by
   obtain ⟨c,_,rfl⟩:=List.mem_map.1 hx
   exact aJ _ _ _ _) 2
  have e:(ak (rdM n xs)).length=n:=by simp [ak,rdM]
  rw [e] at this
  exact this
 rw [show (List.range n).map (rdO xs)=rdM n xs from rfl] at lp
 generalize an T chv=tv at *
 generalize A28 tv (rdM n xs)=B1 at *
 generalize A28 tv (List.replicate n 0)=B0 at *
 unfold M28
 rw [aK _ _ rfl]
 simp [Jm,bx0,ct,fa0,lch,lnc,mk,GL lp,ff,-aX,-aa,-ac,-bZ,-frz,-ai,-cellsOf,-aq]
def Fb:List (FuncId × aG):=[(27,aD 4 M27),(28,aD 4 M28),(21,aD 4 Cy.M12)]
@[simp] theorem Lh:aC Fb 27=some (aD 4 M27):=rfl
@[simp] theorem Lg:aC Fb 28=some (aD 4 M28):=rfl
@[simp] theorem Li:aC Fb 21=some (aD 4 Cy.M12):=rfl
theorem DK:∀f M,aC Fb f=some M->aj Try.prog GC f M:=af (aj.of_pure uU 4) (af (aj.of_pure FP 4) (af (aj.of_pure Cy.xy 4) aA))
def M13:aP:=fun args=>evP (ax GC Fb) 300 Jo 4 args
theorem FT:au Try.prog GC 13 M13:=au.of_ev (E:=ax GC Fb) (aw DK) rfl at13 Hy 4 fun _ _ h=>⟨300,h⟩
structure XC where
 ys:List (Int × Int)
 a:Int
 b:Int
 c:Int
 rd:List Int
 free:Int
structure XV (x:XC) (yv rv:AV):Prop where
 y:SlA 2 (x.ys.map chA) yv
 yi:∀y∈x.ys,inI y.1/\inI y.2
 a:inI x.a
 b:inI x.b
 c:inI x.c
 r:SlA 1 (ak x.rd) rv
 ri:∀z∈x.rd,inI z
 f:inI x.free
def XC.A (x:XC) (yv rv:AV):AV:=.agg [yv,.int .i64 x.a,.int .i64 x.b,.int .i64 x.c,rv,.int .i64 x.free]
def XC.T (x:XC):aR:=mkT x.ys x.a x.b x.c
def XC.n (x:XC):Nat:=x.T.ch.length
def XC.R (x:XC):List Int:=rdM x.n x.rd
def XC.F (x:XC):Int:=pick x.free 60
def XC.ch (x:XC):AV:=slA 2 (x.T.ch.map chA)
def XC.tv (x:XC):AV:=an x.T x.ch
def XC.rv (x:XC):AV:=.fs 1 (ak x.R)
theorem XC.sit (x:XC):Sit x.T x.R x.F:=by
 have h:=nX x.ys x.a x.b x.c
 have k:=di x.free 60 (by omega)
 refine ⟨h,tT _ _,by unfold XC.F; omega,fun t ht=>?_⟩
 have:=F6 t ht
 omega
theorem XC.nb (x:XC):1<=x.n/\x.n<=4:=by
 have:=rZ x.ys
 unfold XC.n XC.T
 rw [xR]
 exact this
theorem XC.chS (x:XC):SlA 2 (x.T.ch.map chA) x.ch:=be _ _
theorem XC.chl (x:XC):x.T.ch.length<=200:=by have:=x.nb; unfold XC.n at this; omega
theorem XC.rvS (x:XC):SlA 1 (ak x.R) x.rv:=.inr rfl
theorem XC.Rl (x:XC):x.R.length<=200:=by have:=x.nb; rw [XC.R,tT]; omega
theorem XC.tfrz (x:XC) (A:ab):frz A 4 x.tv=x.tv:=aT (fun A n=>x.chS.frz (A:=A) n) A 3
theorem XC.tref (x:XC):bh 4 x.tv=true:=bX (fun n=>x.chS.noRef n) 3
theorem XC.rfrz (x:XC) (A:ab) (n:Nat):frz A n x.rv=x.rv:=x.rvS.frz n
theorem XC.rref (x:XC) (n:Nat):bh n x.rv=true:=x.rvS.noRef n
def tY (x:XC):AV:=.tup [x.tv,x.rv,.int .i64 x.F]
theorem Ih {x:XC} {yv rv:AV} (h:XV x yv rv):M13 [x.A yv rv]=some (tY x):=by
 have m1:=vZ h.yi h.y h.a h.b h.c
 have m2:=If (T:=x.T) x.chS (by have:=x.nb; unfold XC.n at this; omega) (by have:=x.nb; unfold XC.n at this; omega) h.r h.ri
 have m3:=dg h.f (n:=60) (by omega)
 have m1:M27 [yv,.agg [.int .i64 x.a,.int .i64 x.b,.int .i64 x.c]]=some x.tv:=m1
 have m2:M28 [x.tv,rv]=some x.rv:=m2
 have m3:Cy.M12 [.int .i64 x.free,.int .i64 60]=some (.int .i64 x.F):=m3
 obtain ⟨A0,hA0⟩:∃A:ab,A=[.row 6 false [x.A yv rv]]:=⟨_,rfl⟩
 have hy:=pP h.y
 have hr:=pP h.r
 have f1:∀A,frz A 4 x.tv=x.tv:=x.tfrz
 have f2:∀A n,frz A n x.rv=x.rv:=x.rfrz
 have f3:∀A n,frz A n yv=yv:=fun A n=>h.y.frz n
 have f4:∀A n,frz A n rv=rv:=fun A n=>h.r.frz n
 have n1:=x.tref
 have n2:=x.rref
 have n3:∀n,bh n yv=true:=fun n=>h.y.noRef n
 have n4:∀n,bh n rv=true:=fun n=>h.r.noRef n
 have ff:∀A,frz A 4 (tY x)=tY x:=fun A=>by
  have q1:frz A 3 x.tv=x.tv:=aT (fun A n=>x.chS.frz (A:=A) n) A 2
  simp [tY,frz,q1,f2]
 have q1:∀A,frz A 3 x.tv=x.tv:=fun A=>aT (fun A n=>x.chS.frz (A:=A) n) A 2
 have ct:cellsOf x.tv=[x.ch,.int .i64 x.T.pick,.int .i64 x.T.place,.int .i64 x.T.travel,.int .i64 1]:=by
  have:=(nX x.ys x.a x.b x.c).2
  show [x.ch,_,_,_,.int .i64 x.T.blades]=_
  rw [show x.T.blades=1 from this]
 have et:x.tv=.agg [x.ch,.int .i64 x.T.pick,.int .i64 x.T.place,.int .i64 x.T.travel,.int .i64 1]:=by
  have:=(nX x.ys x.a x.b x.c).2
  show AV.agg [x.ch,_,_,_,.int .i64 x.T.blades]=_
  rw [show x.T.blades=1 from this]
 obtain ⟨c1,c2⟩:=pP x.chS
 have n5:∀n,bh n x.ch=true:=fun n=>x.chS.noRef n
 have le:bY (.agg [yv,.int .i64 x.a,.int .i64 x.b,.int .i64 x.c,rv,.int .i64 x.free]) 6 1 true 3=some (.agg [.int .i64 x.a,.int .i64 x.b,.int .i64 x.c]):=by
  rcases h.y with ⟨rfl,_⟩ | rfl <;> rcases h.r with ⟨rfl,_⟩ | rfl <;> rfl
 unfold tY at ff ⊢
 generalize x.rv=RV at *
 generalize x.F=FV at *
 generalize x.tv=TV at *
 subst et
 generalize x.ch=CH at *
 generalize x.T.pick=p1 at *
 generalize x.T.place=p2 at *
 generalize x.T.travel=p3 at *
 have f5:∀A,frz A 4 (.agg [.int .i64 x.a,.int .i64 x.b,.int .i64 x.c])=.agg [.int .i64 x.a,.int .i64 x.b,.int .i64 x.c]:=fun A=>rfl
 unfold M13
 rw [aK _ _ rfl]
 unfold XC.A
 simp [Jo,le,ff,f5,f1,f3,f4,n3,n4,n5,m1,m2,m3,aJ,-frz]
end Tr
namespace Tr
open Go
open Cy (GC aJ bb aB dg lvM dK qS tA)
open Clu (aR aZ cD Chk rA an chA uZ iK pB kK zI nL nK)
def E1:aP:=fun args=>evF (ax GC ((14,H14 0) :: gg)) 300 kV 4 args
theorem Dj:cc Try.prog GC 14 E1:=cc.of_ev (E:=ax GC ((14,H14 0) :: gg)) (aw qF) rfl Bw kI 4 fun _ _ h=>⟨300,h⟩
theorem wB (B:ab) (n:Nat) (t:cS):ba B (n+1) (a0 t)=true:=by simp [a0,ba]
theorem E0 {T:aR} {chv rdv:AV} {rd:List Int} {free lost:Int} (hb:SlA 2 (T.ch.map chA) chv) (hr:SlA 1 (ak rd) rdv) (hTl:T.ch.length<=200) (hrl:rd.length<=200) :
  ∃v,E1 [an T chv,rdv,.int .i64 free,.int .i64 lost]=some (.tup [v,.bool (df T rd free lost).isSome])/\SlA 2 (((df T rd free lost).getD []).map a0) v:=by
 have hT:Tl [] T chv chv:=⟨.inl hb,fun X=>Clu.aT (fun A n=>hb.frz (A:=A) n) _ 3,hb⟩
 have hR:Rl [] rd rdv rdv:=⟨.inl hr,fun X=>hr.frz 4,hr⟩
 obtain ⟨v,B,h1,_,h2⟩:=oI (free:=free) (lost:=lost) hT hR hTl hrl
 obtain ⟨v',k1,k2⟩:=my (free:=free) (lost:=lost) hb hr hTl hrl
 refine ⟨v',?_,k2⟩
 unfold M14 evP at k1
 rw [h1] at k1
 simp only [Option.map_some] at k1
 unfold E1 evF
 rw [h1]
 simp only [Option.bind_some]
 rw [if_pos]
 ·exact k1
 ·rcases h2 with ⟨rfl,_⟩ | ⟨i,_,rfl,hrow⟩
  ·rfl
  ·have:ba B 3 (.sl i 0 ((df T rd free lost).getD []).length)=true:=by
    simp only [ba,hrow]
    rw [List.all_eq_true]
    intro y hy
    obtain ⟨t,_,rfl⟩:=List.mem_map.1 (List.mem_of_mem_drop (List.mem_of_mem_take hy))
    exact wB B 1 t
   show (ba B 3 _ && (ba B 3 (.bool _) && true))=true
   rw [this]; rfl
def fsL:List (FuncId × aG):=[(11,aD 4 M11),(13,aD 4 M13),(14,cA 4 E1),(16,aD 4 M16),(17,aD 4 M17),(21,aD 4 Cy.M12),(22,aD 4 M22),(23,aD 4 Clu.M22),(24,aD 4 M24),(25,aD 4 M25)]
@[simp] theorem MF:aC fsL 11=some (aD 4 M11):=rfl
@[simp] theorem ME:aC fsL 13=some (aD 4 M13):=rfl
@[simp] theorem MD:aC fsL 14=some (cA 4 E1):=rfl
@[simp] theorem MB:aC fsL 16=some (aD 4 M16):=rfl
@[simp] theorem MA:aC fsL 17=some (aD 4 M17):=rfl
@[simp] theorem Mz:aC fsL 21=some (aD 4 Cy.M12):=rfl
@[simp] theorem My:aC fsL 22=some (aD 4 M22):=rfl
@[simp] theorem Mx:aC fsL 23=some (aD 4 Clu.M22):=rfl
@[simp] theorem Mw:aC fsL 24=some (aD 4 M24):=rfl
@[simp] theorem Mv:aC fsL 25=some (aD 4 M25):=rfl
theorem FX:∀f M,aC fsL f=some M->aj Try.prog GC f M:=af (aj.of_pure FU 4) (af (aj.of_pure FT 4) (af (aj.of_pureF Dj 4) (af (aj.of_pure lN 4) (af (aj.of_pure uV 4) (af (aj.of_pure Cy.xy 4) (af (aj.of_pure rP 4) (af (aj.of_pure Clu.rP 4) (af (aj.of_pure xw 4) (af (aj.of_pure BL 4) aA)))))))))
@[simp] theorem Mi:M11 []=some (.bool true):=rfl
theorem Da {x:AV} {n:Nat} (h:TA Try.prog (n+2) 46 x):∃y:Int × Int,x=chA y/\inI y.1/\inI y.2:=by
 obtain ⟨ls,rfl,hc,hl⟩:=TA.agg (show rF Try.prog 46=true by kernel_rfl) h
 simp only [TC,Try.underlying46] at hc
 rw [show Try.prog.cellsOf 3=1 by kernel_rfl] at hc
 simp only [TCa,Try.underlying3] at hc
 obtain ⟨_,_,rfl,⟨a,rfl,ha⟩,_,_,_,rfl,⟨b,rfl,hb⟩,_,rfl⟩:=hc
 exact ⟨(a,b),rfl,ha,hb⟩
theorem uM {raw:AV} {n:Nat} (h:TA Try.prog (n+3) 27 raw):∃ys:List (Int × Int),SlA 2 (ys.map chA) raw/\(∀y∈ys,inI y.1/\inI y.2)/\ys.length<=9223372036854775807:=by
 obtain ⟨es,h1,h2,h3⟩:=TA.sl Try.underlying27 h
 rw [show Try.prog.cellsOf 46=2 by kernel_rfl] at h1
 obtain ⟨ys,rfl,hy⟩:=gc (f:=chA) (p:=fun y=>inI y.1/\inI y.2) fun x hx=>Da (n:=n) (h3 x hx)
 exact ⟨ys,h1,hy,by simpa using h2⟩
theorem A9 {x:AV} {n:Nat} (h:TA Try.prog (n+1) 25 x):∃zs:List Int,SlA 1 (ak zs) x/\zs.length<=9223372036854775807/\∀z∈zs,inI z:=
 TA.ints Try.underlying25 Try.underlying3 (by kernel_rfl) h
theorem ya {ls:List AV} {n:Nat} (h:TC Try.prog (n+1) 25 ls) (hl:ls.length=Try.prog.cellsOf 25):∃(x:AV) (zs:List Int),ls=[x]/\SlA 1 (ak zs) x/\zs.length<=9223372036854775807/\∀z∈zs,inI z:=by
 rw [show Try.prog.cellsOf 25=1 by kernel_rfl] at hl
 obtain ⟨x,rfl⟩:=List.length_eq_one_iff.1 hl
 obtain ⟨zs,h1,h2,h3⟩:=A9 (n:=n) (x:=x) ⟨[x],h,by rw [show Try.prog.cellsOf 25=1 by kernel_rfl]; rfl,by
  unfold fM
  rw [if_neg (by rw [show rF Try.prog 25=false by kernel_rfl]; simp)]; rfl⟩
 exact ⟨x,zs,rfl,h1,h2,h3⟩
theorem xa {ls:List AV} {n:Nat} (h:TC Try.prog (n+3) 27 ls) (hl:ls.length=Try.prog.cellsOf 27):∃(x:AV) (ys:List (Int × Int)),ls=[x]/\SlA 2 (ys.map chA) x/\∀y∈ys,inI y.1/\inI y.2:=by
 rw [show Try.prog.cellsOf 27=1 by kernel_rfl] at hl
 obtain ⟨x,rfl⟩:=List.length_eq_one_iff.1 hl
 obtain ⟨zs,h1,h2,h3⟩:=uM (n:=n) (raw:=x) ⟨[x],h,by rw [show Try.prog.cellsOf 27=1 by kernel_rfl]; rfl,by
  unfold fM
  rw [if_neg (by rw [show rF Try.prog 27=false by kernel_rfl]; simp)]; rfl⟩
 exact ⟨x,zs,rfl,h1,h2⟩
theorem we {ls:List AV} {n:Nat} (h:TC Try.prog (n+2) 28 ls):∃a b c:Int,ls=[.int .i64 a,.int .i64 b,.int .i64 c]/\inI a/\inI b/\inI c:=by
 simp only [TC,Try.underlying28] at h
 rw [show Try.prog.cellsOf 3=1 by kernel_rfl] at h
 simp only [TCa,Try.underlying3] at h
 obtain ⟨_,_,rfl,⟨a,rfl,ha⟩,_,_,_,rfl,⟨b,rfl,hb⟩,_,_,_,rfl,⟨c,rfl,hc⟩,_,rfl⟩:=h
 exact ⟨a,b,c,rfl,ha,hb,hc⟩
theorem Bu {x:AV} {n:Nat} (h:TA Try.prog (n+5) 30 x):∃X yv rv,x=XC.A X yv rv/\XV X yv rv:=by
 obtain ⟨ls,rfl,hc,hl⟩:=TA.agg (show rF Try.prog 30=true by kernel_rfl) h
 rw [show n+5=(n+4)+1 from rfl] at hc
 unfold TC at hc
 rw [Try.underlying30] at hc
 simp only [TCs] at hc
 obtain ⟨a,_,rfl,ha,la,b,_,rfl,hb,lb,c,_,rfl,hc,lc,d,_,rfl,hd,ld,rfl⟩:=hc
 obtain ⟨yv,ys,rfl,y1,y2⟩:=xa (n:=n+1) ha la
 obtain ⟨p,q,r,rfl,p1,q1,r1⟩:=we (n:=n+2) hb
 obtain ⟨rv,zr,rfl,s1,s2,s3⟩:=ya (n:=n+3) hc lc
 simp only [TC,Try.underlying3] at hd
 obtain ⟨z,rfl,hz⟩:=hd
 exact ⟨⟨ys,p,q,r,zr,z⟩,yv,rv,rfl,y1,y2,p1,q1,r1,s1,s3,hz⟩
theorem ownK:ownKnob Try.prog.godebug=none:=by kernel_rfl
theorem Jx {W:World} {OK:Nat->Prop}:C5 GC W OK:=fun gl cs h=>by simp [GC] at h
def oa (os:Os):World:=World.holding Try.prog os ⟨#[],#[],[]⟩
theorem yK {T:aR} {rd:List Int} {free:Int} {d:List cS} (h:bH T rd free=some d):∃x,qp T (st0 rd free) d=some x/\dX T rd free d=some x.fin/\x.inn.length=T.ch.length/\(∀j,j<T.ch.length->x.inn.getD j 0 = -1)/\free<=x.fin:=by
 obtain ⟨hS,o,e,k1,k2,k3,_⟩:=iD h
 obtain ⟨X,x0,rfl,⟨s,hs⟩,hX⟩:=fP hS k1 k2
 obtain ⟨f1,f2,f3⟩:=(iE hS x0 k1).2 s hs
 have hk:=((iE hS x0 k1).1.1 ⟨s,hs⟩).1
 refine ⟨s,hs,by unfold dX; rw [if_pos hS,hs]; rfl,f2,f3,?_⟩
 rw [f1]
 split
 ·exact Int.le_refl _
 ·rename_i hne
  have:∀(l:List cS) (a b:St),qp T a l=some b->a.fin<=b.fin:=by
   intro l
   induction l with
   | nil=>intro a b h; injection h with h; rw [h]; exact Int.le_refl _
   | cons t r ih=>
    intro a b h
    simp only [qp] at h
    rw [Option.bind_eq_some_iff] at h
    obtain ⟨c,hc,h⟩:=h
    have h2:=ih c b h
    unfold gp at hc
    split at hc
    ·rename_i hh
     rw [Option.bind_eq_some_iff] at hc
     obtain ⟨u,_,hc⟩:=hc
     rw [Option.map_eq_some_iff] at hc
     obtain ⟨v,_,rfl⟩:=hc
     have:=dY hS.1.1
     have:0<=btw T a.last t.1:=by
      unfold btw
      have:=hS.1.1.2.1.2.2.1
      split <;> omega
     simp only at h2
     omega
    ·cases hc
  have:=this _ _ _ hs
  rw [f1,if_neg hne] at this
  exact this
end Tr
namespace Tr
open Go
end Tr
namespace Tr
open Go
open Cy (GC aJ bb aB dg)
open Clu (aR aZ cD Chk rA an chA uZ iK pB kK nK a7 bV dm ce cM br cB)
abbrev zT:AV:=.agg [.nilS,.int .i64 0,.int .i64 0,.int .i64 0,.int .i64 0]
theorem HP {x:XC} {yv rv:AV} (h:XV x yv rv) (A:ab):frz A 4 (x.A yv rv)=x.A yv rv:=by
 have f1:=h.y.frz (A:=A) 3
 have f2:=h.r.frz (A:=A) 3
 simp [XC.A,frz,f1,f2]
theorem HO {x:XC} {yv rv:AV} (h:XV x yv rv):bh 4 (x.A yv rv)=true:=by
 have f1:=h.y.noRef 3
 have f2:=h.r.noRef 3
 simp [XC.A,bh,f1,f2]
theorem EW {x:XC} {yv rv:AV} (X:ab):ac true 6 (.row 6 false [x.A yv rv] :: X) (.ptr 0 0 0)=some (x.A yv rv):=rfl
theorem HQ {x:XC} {yv rv:AV}:aX 6 (x.A yv rv) []=some (.ptr 0 0 0,[.row 6 false [x.A yv rv]]):=rfl
def B0 (x:XC) (yv rv:AV):ab:=[.row 6 false [x.A yv rv],.row 5 false [x.tv]]
theorem I9 {x:XC} {yv rv:AV} (h:XV x yv rv):∃A0 Az,aX 6 (x.A yv rv) []=some (.ptr 0 0 0,A0)/\ac true 6 A0 (.ptr 0 0 0)=some (x.A yv rv)/\M13 [x.A yv rv]=some (tY x)/\(∀A,frz A 4 (x.A yv rv)=x.A yv rv)/\bh 4 (x.A yv rv)=true/\(cellsOf (x.A yv rv)).length=6/\aX 5 zT A0=some (.ptr 1 0 0,Az)/\az 5 Az (.ptr 1 0 0) x.tv=some (B0 x yv rv):=
 ⟨_,_,HQ,EW _,Ih h,HP h,HO h,rfl,rfl,rfl⟩
end Tr
namespace Tr
open Go
end Tr
namespace Tr
open Go
open Cy (GC aJ bb aB dg)
open Clu (aR aZ pV cD Chk rA an chA uZ iK pB kK nK a7 bV dm ce cM br cB cT aT bX)
def rJ {α:Type} (new old:Nat->α) (n i:Nat):List α:=(List.range n).map fun j=>if j<i then new j else old j
theorem F7 {α:Type} (new old:Nat->α) {n i:Nat} (_h:i<n):(rJ new old n i).set i (new i)=rJ new old n (i+1):=by
 apply List.ext_getElem
 ·simp [rJ]
 intro j h1 h2
 simp only [rJ,List.getElem_set,List.getElem_map,List.getElem_range]
 by_cases e:i=j
 ·subst e; rw [if_pos rfl,if_pos (by omega)]
 ·rw [if_neg e]
  by_cases hj:j<i
  ·rw [if_pos hj,if_pos (by omega)]
  ·rw [if_neg hj,if_neg (by omega)]
theorem yO {esz bytes:Nat} (he:0<esz) (hb:0<bytes) {A:ab} {N:Nat} (hN:N=A.length) {xs:List AV} {xv:AV} (h:SlA esz xs xv) (hl:xs.length*bytes<=140737488355328):aN esz bytes (A++[.row esz false []]) (.sl N 0 0) xv=some (.sl (N+1) 0 xs.length,A++[.dead,.row esz false xs]):=by
 subst hN
 have hs:aQ esz (A++[.row esz false []]) xv=some xs:=by
  rcases h with ⟨rfl,rfl⟩ | rfl
  ·rfl
  ·simp [aQ]
 have hr:(A++[Ent.row esz false []])[A.length]?=some (.row esz false []):=by simp
 simp only [aN,hs,hr]
 rw [if_pos ⟨trivial,he,hb,by rw [Nat.zero_add]; exact hl⟩,if_neg (by simp)]
 simp
section
variable {A:ab} {id:Nat} {cs:List (Int × Int)}
end
end Tr
namespace Tr
open Go
open Cy (GC aJ bb aB dg)
open Clu (aR aZ pV cD Chk rA an chA a7 bV dm ce cM br cB cT aT bX)
theorem uq {T:aR} {rd:List Int} {free:Int}:((bH T rd free).getD []).length<=10:=by
 cases h:bH T rd free with
 | none=>simp
 | some d=>exact (oH h).1
theorem qY {A:ab} {id:Nat} {g:Bool} {l:List Int} {n:Nat} (h:A[id]?=some (.row 1 g (ak l))) (hn:n=l.length) (k:Nat):frz A (k+2) (.sl id 0 n)=.fs 1 (ak l):=by
 have:=dM (off:=0) (xs:=ak l) h (by rw [List.drop_zero]; exact List.take_of_length_le (Nat.le_refl _)) (fun k x hx=>by
  obtain ⟨c,_,rfl⟩:=List.mem_map.1 hx
  exact aJ _ _ _ _) k
 rw [hn,<-aB l]; exact this
end Tr
namespace Tr
open Go
open Cy (GC aJ bb aB dg)
open Clu (aR aZ pV an chA a7 bV dm ce cM br cB cT aT bX)
def OV (e lo:Nat) (A:ab) (v:AV) (xs:List AV):Prop:=(v=.nilS/\xs=[])\/∃id g,v=.sl id 0 xs.length/\xs≠[]/\lo<=id/\A[id]?=some (.row e g xs)
theorem tc {e bytes lo:Nat} (he:0<e) (hb:0<bytes) {A:ab} {v:AV} {xs:List AV} (h:OV e lo A v xs) (hlo:lo<=A.length) (x:AV) (hl:(xs.length+1)*bytes<=140737488355328) :
  ∃v' A',aN e bytes A v (.fs e [x])=some (v',A')/\OV e lo A' v' (xs++[x])/\(∀j,j<lo->A'[j]?=A[j]?)/\A.length<=A'.length:=by
 rcases h with ⟨rfl,rfl⟩ | ⟨id,g,rfl,hne,hid,hrow⟩
 ·refine ⟨.sl A.length 0 1,A++[.row e false [x]],?_,.inr ⟨A.length,false,rfl,by simp,hlo,by simp⟩,fun j hj=>by rw [List.getElem?_append_left (by omega)],by simp⟩
  have hb1:0<e/\0<bytes/\bytes<=140737488355328:=⟨he,hb,by simpa using hl⟩
  simp [aN,hb1]
 ·have hil:=(List.getElem?_eq_some_iff.1 hrow).1
  have hz:xs.length≠0:=fun h=>hne (List.length_eq_zero_iff.1 h)
  refine ⟨.sl id 0 (xs.length+1),A.set id (.row e true (xs++[x])),?_,.inr ⟨id,true,by simp,by simp,hid,by rw [List.getElem?_set_self hil]⟩,fun j hj=>by rw [List.getElem?_set_ne (by omega)],by simp⟩
  simp only [aN,cU,hrow,List.length_singleton]
  rw [if_pos ⟨trivial,he,hb,hl⟩,if_pos ⟨trivial,trivial,hz⟩]
theorem OV.keep {e lo:Nat} {A B:ab} {v:AV} {xs:List AV} (h:OV e lo A v xs) (hk:∀j,lo<=j->j<A.length->B[j]?=A[j]?):OV e lo B v xs:=by
 rcases h with h | ⟨id,g,h1,h2,h3,h4⟩
 ·exact .inl h
 ·exact .inr ⟨id,g,h1,h2,h3,by rw [hk id h3 (List.getElem?_eq_some_iff.1 h4).1]; exact h4⟩
theorem OV.len {e lo:Nat} {A:ab} {v:AV} {xs:List AV} (h:OV e lo A v xs):aq v=some (.int .i64 (xs.length:Int)):=by
 rcases h with ⟨rfl,rfl⟩ | ⟨id,g,rfl,_⟩ <;> rfl
theorem OV.frz {e lo:Nat} {A:ab} {v:AV} {xs:List AV} (h:OV e lo A v xs) (k:Nat) (hx:∀x∈xs,Go.Proofs.Ytkcjhljbgjpklaa.frz A k x=x):SlA e xs (Go.Proofs.Ytkcjhljbgjpklaa.frz A (k+1) v):=by
 rcases h with ⟨rfl,rfl⟩ | ⟨id,g,rfl,_,_,hr⟩
 ·exact .inl ⟨rfl,rfl⟩
 ·right
  simp only [Go.Proofs.Ytkcjhljbgjpklaa.frz,hr]
  rw [List.drop_zero,List.take_of_length_le (Nat.le_refl _),List.map_congr_left hx,List.map_id']
theorem oX (a b:Int):∃c,ai .add (.int .i64 a) (.int .i64 b)=some (.int .i64 c):=⟨_,by simp only [ai]; rw [if_pos trivial]⟩
theorem Em (a b:Int):∃c,da true (.int .i64 a) [.int .i64 b]=some (.int .i64 c):=by
 simp only [da,dC]
 simp
structure MI (A:ab) (T:aR) (chv:AV) (inn:List Int) (ov:AV) (out:List cS):Prop where
 t:A[0]?=some (.row 5 false [an T chv])
 i:A[2]?=some (.row 1 false (ak inn))
 l:inn.length=T.ch.length
 o:OV 2 3 A ov (out.map a0)
 n:3<=A.length
def uf:List (FuncId × aG):=[(21,aD 4 Cy.M12),(22,aD 4 M22)]
@[simp] theorem KL:aC uf 21=some (aD 4 Cy.M12):=rfl
@[simp] theorem KJ:aC uf 22=some (aD 4 M22):=rfl
theorem DI:∀f M,aC uf f=some M->aj Try.prog GC f M:=af (aj.of_pure Cy.xy 4) (af (aj.of_pure rP 4) aA)
theorem D5 {inn:List Int} {n:Nat} (hl:inn.length=n) (hn:n<=100) {A:ab} (hr:A[2]?=some (.row 1 false (ak inn))) {lo:Nat} (hlo:lo<=A.length) (_hlo2:3<=lo) {v:AV} {cs:List Int} (hv:OV 1 lo A v (ak cs)) (hcl:cs.length<=100) (hcs:∀c∈cs,1<=c/\c<=n) {j:Nat} (hj:j<n) (v3 v4 v8 v9 v10 v11 v12:AV) :
  ∃v' B cs',run (ax GC uf) 300 [.code fB] (dV v3 v4 (.int .i64 (n:Int)) (.sl 2 0 n) v8 v9 v10 v11 v12 v (.int .i64 ((j+1:Nat):Int))) A=some (.normal (dV v3 v4 (.int .i64 (n:Int)) (.sl 2 0 n) v8 v9 v10 v11 v12 v' (.int .i64 ((j+1+1:Nat):Int))) B)/\OV 1 lo B v' (ak cs')/\(∀i,i<lo->B[i]?=A[i]?)/\A.length<=B.length/\cs'.length<=cs.length+1/\∀c∈cs',1<=c/\c<=n:=by
 have b0:=cT ((j+1:Nat):Int) (n:Int)
 rw [decide_eq_true (by omega)] at b0
 have b1:ai .sub (.int .i64 ((j+1:Nat):Int)) (.int .i64 1)=some (.int .i64 (j:Int)):=by rw [bV (by omega)]; congr 2; omega
 have b2:=aY (j+1) (by omega)
 have i0:=cX (n:=n) hr hj .i64
 have d0:=kf hr (show j<inn.length by omega)
 obtain ⟨a,ha⟩:∃a,a=inn.getD j 0:=⟨_,rfl⟩
 rw [<-ha] at d0
 have b3:ai .geq (.int .i64 a) (.int .i64 0)=some (.bool (decide (0<=a))):=by simp [ai]
 have b4:=br ((j+1:Nat):Int) (n:Int)
 obtain ⟨v',B,ap,hv',hk,hBl⟩:=tc (e:=1) (bytes:=8) (by omega) (by omega) hv hlo (.int .i64 ((j+1:Nat):Int)) (by rw [aB]; omega)
 have bf:∀z,a6 1 [.int .i64 z]=some (.fs 1 [.int .i64 z]):=fun z=>rfl
 have hint:ak cs++[.int .i64 ((j+1:Nat):Int)]=ak (cs++[((j+1:Nat):Int)]):=by simp [ak]
 rw [hint] at hv'
 have yes:∃v' B cs',some (Out.normal (dV v3 v4 (.int .i64 (n:Int)) (.sl 2 0 n) v8 v9 v10 v11 v12 v (.int .i64 ((j+1+1:Nat):Int))) A)=some (.normal (dV v3 v4 (.int .i64 (n:Int)) (.sl 2 0 n) v8 v9 v10 v11 v12 v' (.int .i64 ((j+1+1:Nat):Int))) B)/\OV 1 lo B v' (ak cs')/\(∀i,i<lo->B[i]?=A[i]?)/\A.length<=B.length/\cs'.length<=cs.length+1/\∀c∈cs',1<=c/\c<=n:=⟨v,A,cs,rfl,hv,fun _ _=>rfl,Nat.le_refl _,by omega,hcs⟩
 have no:∃v2 B2 cs',some (Out.normal (dV v3 v4 (.int .i64 (n:Int)) (.sl 2 0 n) v8 v9 v10 v11 v12 v' (.int .i64 ((j+1+1:Nat):Int))) B)=some (.normal (dV v3 v4 (.int .i64 (n:Int)) (.sl 2 0 n) v8 v9 v10 v11 v12 v2 (.int .i64 ((j+1+1:Nat):Int))) B2)/\OV 1 lo B2 v2 (ak cs')/\(∀i,i<lo->B2[i]?=A[i]?)/\A.length<=B2.length/\cs'.length<=cs.length+1/\∀c∈cs',1<=c/\c<=n:=⟨v',B,cs++[((j+1:Nat):Int)],rfl,hv',hk,hBl,by simp,fun c hc=>by
  rcases List.mem_append.1 hc with hc | hc
  ·exact hcs c hc
  ·rw [List.mem_singleton.1 hc]; omega⟩
 have i1:j+1<n->ag 1 A (.sl 2 0 n) (.int .i64 ((j+1:Nat):Int))=some (.ptr 2 (j+1) 0):=fun h=>cX (n:=n) hr h .i64
 have d1:j+1<n->ac false 1 A (.ptr 2 (j+1) 0)=some (.int .i64 (inn.getD (j+1) 0)):=fun h=>kf hr (show j+1<inn.length by omega)
 obtain ⟨a1,ha1⟩:∃a,a=inn.getD (j+1) 0:=⟨_,rfl⟩
 rw [<-ha1] at d1
 have b5:=ce a1 0
 obtain ⟨w,hw⟩:∃w,w=((j+1+1:Nat):Int):=⟨_,rfl⟩
 rw [<-hw] at b2 yes no ⊢
 by_cases h0:0<=a
 ·rw [decide_eq_true h0] at b3
  by_cases hjn:j+1=n
  ·rw [decide_eq_true (by omega)] at b4
   have e:run (ax GC uf) 300 [.code fB] (dV v3 v4 (.int .i64 (n:Int)) (.sl 2 0 n) v8 v9 v10 v11 v12 v (.int .i64 ((j+1:Nat):Int))) A=some (.normal (dV v3 v4 (.int .i64 (n:Int)) (.sl 2 0 n) v8 v9 v10 v11 v12 v' (.int .i64 w)) B):=by
    generalize ((j+1:Nat):Int)=z at *
    simp [fB,b0,b1,b2,b3,b4,i0,d0,ap,bf,-ai,-ac,-ag,-a6]
   rw [e]; exact no
  ·rw [decide_eq_false (by omega)] at b4
   have i1:=i1 (by omega)
   have d1:=d1 (by omega)
   by_cases h1:a1<0
   ·rw [decide_eq_true h1] at b5
    have e:run (ax GC uf) 300 [.code fB] (dV v3 v4 (.int .i64 (n:Int)) (.sl 2 0 n) v8 v9 v10 v11 v12 v (.int .i64 ((j+1:Nat):Int))) A=some (.normal (dV v3 v4 (.int .i64 (n:Int)) (.sl 2 0 n) v8 v9 v10 v11 v12 v' (.int .i64 w)) B):=by
     generalize ((j+1:Nat):Int)=z at *
     simp [fB,b0,b1,b2,b3,b4,b5,i0,d0,i1,d1,ap,bf,-ai,-ac,-ag,-a6]
    rw [e]; exact no
   ·rw [decide_eq_false h1] at b5
    have e:run (ax GC uf) 300 [.code fB] (dV v3 v4 (.int .i64 (n:Int)) (.sl 2 0 n) v8 v9 v10 v11 v12 v (.int .i64 ((j+1:Nat):Int))) A=some (.normal (dV v3 v4 (.int .i64 (n:Int)) (.sl 2 0 n) v8 v9 v10 v11 v12 v (.int .i64 w)) A):=by
     generalize ((j+1:Nat):Int)=z at *
     simp [fB,b0,b1,b2,b3,b4,b5,i0,d0,i1,d1,-ai,-ac,-ag,-a6]
    rw [e]; exact yes
 ·rw [decide_eq_false h0] at b3
  have e:run (ax GC uf) 300 [.code fB] (dV v3 v4 (.int .i64 (n:Int)) (.sl 2 0 n) v8 v9 v10 v11 v12 v (.int .i64 ((j+1:Nat):Int))) A=some (.normal (dV v3 v4 (.int .i64 (n:Int)) (.sl 2 0 n) v8 v9 v10 v11 v12 v (.int .i64 w)) A):=by
   generalize ((j+1:Nat):Int)=z at *
   simp [fB,b0,b1,b2,b3,i0,d0,-ai,-ac,-ag,-a6]
  rw [e]; exact yes
theorem Gv {inn:List Int} {n:Nat} (hl:inn.length=n) (hn:n<=20) {lo:Nat} (hlo2:3<=lo) (v3 v4 v8 v9 v10 v11 v12:AV):∀(c j m:Nat) (A:ab) (v:AV) (cs:List Int),j+c=n->c<m->A[2]?=some (.row 1 false (ak inn))->lo<=A.length->OV 1 lo A v (ak cs)->cs.length<=j->(∀c∈cs,1<=c/\c<=n) ->
  ∃v' B cs',bU (evC (ax GC uf) 300 fB) m5 m (dV v3 v4 (.int .i64 (n:Int)) (.sl 2 0 n) v8 v9 v10 v11 v12 v (.int .i64 ((j+1:Nat):Int))) A=some (.exit 2 ((dV v3 v4 (.int .i64 (n:Int)) (.sl 2 0 n) v8 v9 v10 v11 v12 v' (.int .i64 ((n+1:Nat):Int))).set 19 (.bool false)) B)/\OV 1 lo B v' (ak cs')/\(∀i,i<lo->B[i]?=A[i]?)/\A.length<=B.length/\cs'.length<=n/\∀c∈cs',1<=c/\c<=n:=by
 intro c
 induction c with
 | zero=>
  intro j m A v cs hj hm hr hlo hv hcl hcs
  obtain ⟨m,rfl⟩:∃j,m=j+1:=⟨m-1,by omega⟩
  obtain rfl:j=n:=by omega
  have b0:=cT ((j+1:Nat):Int) (j:Int)
  rw [decide_eq_false (by omega)] at b0
  refine ⟨v,A,cs,?_,hv,fun _ _=>rfl,Nat.le_refl _,hcl,hcs⟩
  rw [aI,zu]
  generalize ((j+1:Nat):Int)=z at *
  simp [fB,b0,-ai]
 | succ c ih=>
  intro j m A v cs hj hm hr hlo hv hcl hcs
  obtain ⟨m,rfl⟩:∃j,m=j+1:=⟨m-1,by omega⟩
  obtain ⟨v1,B1,cs1,h1,h2,h3,h4,h5,h6⟩:=D5 hl (by omega) hr hlo hlo2 hv (by omega) hcs (j:=j) (by omega) v3 v4 v8 v9 v10 v11 v12
  obtain ⟨v2,B2,cs2,g1,g2,g3,g4,g5,g6⟩:=ih (j+1) m B1 v1 cs1 (by omega) (by omega) (by rw [h3 2 (by omega)]; exact hr) (by omega) h2 (by omega) h6
  refine ⟨v2,B2,cs2,?_,g2,fun i hi=>by rw [g3 i hi,h3 i hi],by omega,g5,g6⟩
  rw [aI,zu,h1]
  exact g1
end Tr
namespace Tr
open Go
open Cy (GC aJ bb aB dg)
open Clu (aR aZ pV an chA a7 bV dm ce cM br cB cT aT bX)
theorem Gz {A:ab} {id:Nat} {g:Bool} {xs:List Int} (h:A[id]?=some (.row 1 g (ak xs))) {k:Nat} (hk:k<xs.length):ac false 1 A (.ptr id k 0)=some (.int .i64 (xs.getD k 0)):=by
 have e:(ak xs)[k]?=some (.int .i64 (xs.getD k 0)):=by
  simp [ak,List.getD_eq_getElem?_getD,List.getElem?_eq_getElem hk]
 simp only [ac,h,e]
 rfl
abbrev s20 (v3 w:AV) (n:Nat) (e la:Int) (ov:AV) (i:Nat):List AV:=xg v3 (.ptr 0 0 0) (.int .i64 (n:Int)) (.sl 2 0 n) w (.int .i64 e) (.int .i64 la) ov (.int .i64 (i:Int))
abbrev x20 (v3 w:AV) (n:Nat) (e la:Int) (ov:AV) (i:Nat) (v13 v18 v21:AV):List AV:=[.undef,.undef,.undef,v3,.ptr 0 0 0,.undef,.int .i64 (n:Int),.sl 2 0 n,w,.int .i64 e,.int .i64 la,ov,.int .i64 (i:Int),v13,.undef,.undef,.undef,.undef,v18,.undef,.undef,v21,.undef,.undef,.undef]
section
variable {T:aR} {chv:AV}
theorem AJ (hcv:SlA 2 (T.ch.map chA) chv) (hn1:1<=T.ch.length) (hn:T.ch.length<=20) {ys:List (Int × Int)} (hys:∀y∈ys,inI y.1/\inI y.2) {yv:AV} (hy:SlA 2 (ys.map chA) yv) (w:Int) {A:ab} {inn:List Int} {ov:AV} {out:List cS} (hI:MI A T chv inn ov out) (e la:Int) {i:Nat} (hi:i<10) (hi2:i<ys.length) (ho:out.length<=100) :
  (∃v13 v18 v21 B,run (ax GC uf) 300 [.code dW] (s20 yv (.int .i64 w) T.ch.length e la ov i) A=some (.exit 0 (x20 yv (.int .i64 w) T.ch.length e la ov i v13 v18 v21) B)/\MI B T chv inn ov out) \/
  ∃e' la' ov' t inn' B,run (ax GC uf) 300 [.code dW] (s20 yv (.int .i64 w) T.ch.length e la ov i) A=some (.normal (s20 yv (.int .i64 w) T.ch.length e' la' ov' (i+1)) B)/\MI B T chv inn' ov' (out++[t]):=by
 obtain ⟨n,hnn⟩:∃n,n=T.ch.length:=⟨_,rfl⟩
 have hil:inn.length=n:=by rw [hnn]; exact hI.l
 obtain ⟨v,B,cs,lp,hv,hk,hBl,hcl,hcs⟩:=Gv (inn:=inn) (n:=n) hil (by omega) (lo:=A.length) hI.n yv (.ptr 0 0 0) (.int .i64 w) (.int .i64 e) (.int .i64 la) ov (.int .i64 (i:Int)) n 0 300 A .nilS [] (by omega) (by omega) hI.i (Nat.le_refl _) (.inl ⟨rfl,rfl⟩) (by simp) (by simp)
 rw [show ((0+1:Nat):Int)=1 from rfl] at lp
 have hB0:B[0]?=some (.row 5 false [an T chv]):=by rw [hk 0 (by have:=hI.n; omega)]; exact hI.t
 have hB2:B[2]?=some (.row 1 false (ak inn)):=by rw [hk 2 (by have:=hI.n; omega)]; exact hI.i
 have hBo:OV 2 3 B ov (out.map a0):=hI.o.keep fun j _ h=>hk j h
 have hly:=hy.len
 rw [List.length_map] at hly
 have b0:=bj i ys.length .i64
 rw [decide_eq_true hi2] at b0
 have b1:=ce (i:Int) 10
 rw [decide_eq_true (by omega)] at b1
 have hlv:=hv.len
 rw [aB] at hlv
 have bc:=br (cs.length:Int) 0
 rw [<-hnn]
 by_cases hc0:cs.length=0
 ·left
  rw [decide_eq_true (by omega)] at bc
  have hvn:v=.nilS:=by
   rcases hv with ⟨h,_⟩ | ⟨_,_,_,hne,_⟩
   ·exact h
   ·exact absurd (List.length_eq_zero_iff.1 hc0) (fun h=>hne (by rw [h]; rfl))
  refine ⟨.nilS,.undef,.bool true,B,?_,⟨hB0,hB2,hI.l,hBo,by have:=hI.n; omega⟩⟩
  subst hvn
  have hlv:aq .nilS=some (.int .i64 (cs.length:Int)):=hlv
  simp [dW,hly,b0,b1,km lp,hlv,bc,-ai,-aq]
 right
 rw [decide_eq_false (by omega)] at bc
 obtain ⟨y,hye⟩:∃y,y=ys[i]:=⟨_,rfl⟩
 have hyr:inI y.1/\inI y.2:=by rw [hye]; exact hys _ (List.getElem_mem hi2)
 have yx:∀A,ag 2 A yv (.int .i64 (i:Int))=some (.fp [.int .i64 y.1,.int .i64 y.2]):=fun A=>by
  rw [hye]
  exact hy.index (A:=A) (x:=chA ys[i]) (by simp [hi2]) rfl (by omega) .i64
 have y0:∀A,cE 2 1 A (.fp [.int .i64 y.1,.int .i64 y.2]) (.int .i64 0)=some (.fp [.int .i64 y.1,.int .i64 y.2]):=fun A=>rfl
 have y1:∀A,cE 2 1 A (.fp [.int .i64 y.1,.int .i64 y.2]) (.int .i64 1)=some (.fp [.int .i64 y.2]):=fun A=>rfl
 have z0:∀A,ac false 1 A (.fp [.int .i64 y.1,.int .i64 y.2])=some (.int .i64 y.1):=fun A=>rfl
 have z1:∀A,ac false 1 A (.fp [.int .i64 y.2])=some (.int .i64 y.2):=fun A=>rfl
 have m1:=dg hyr.1 (n:=(cs.length:Int)) (by omega)
 have hp:=di y.1 (cs.length:Int) (by omega)
 obtain ⟨p,hpe⟩:∃p:Nat,pick y.1 (cs.length:Int)=p:=⟨(pick y.1 (cs.length:Int)).toNat,by omega⟩
 rw [hpe] at m1 hp
 have hpl:p<cs.length:=by omega
 obtain ⟨id,g,rfl,_,hid,hrow⟩:∃id g,v=.sl id 0 cs.length/\True/\A.length<=id/\B[id]?=some (.row 1 g (ak cs)):=by
  rcases hv with ⟨_,h⟩ | ⟨id,g,h1,h2,h3,h4⟩
  ·exact absurd (by rw [<-aB cs,h]; rfl) hc0
  ·exact ⟨id,g,by rw [h1,aB],trivial,h3,h4⟩
 have xi:=cX (n:=cs.length) hrow hpl .i64
 have xl:=Gz hrow hpl
 obtain ⟨kk,hkk⟩:∃kk,kk=cs.getD p 0:=⟨_,rfl⟩
 rw [<-hkk] at xl
 have hkb:1<=kk/\kk<=n:=by
  rw [hkk,List.getD_eq_getElem?_getD,List.getElem?_eq_getElem hpl]
  exact hcs _ (List.getElem_mem hpl)
 obtain ⟨q,hq⟩:∃q:Nat,kk=(q:Int)+1:=⟨(kk-1).toNat,by omega⟩
 have hqn:q<n:=by omega
 have bk:ai .sub (.int .i64 kk) (.int .i64 1)=some (.int .i64 (q:Int)):=by rw [bV (by omega)]; congr 2; omega
 obtain ⟨la1,hla1⟩:=oX la 1
 have bn1:=cM kk la1
 have ft3:aa 3 B (.ptr 0 0 0)=some (.ptr 0 0 3):=by simp [aa,hB0]
 have lt3:ac false 1 B (.ptr 0 0 3)=some (.int .i64 T.travel):=p8 (k:=5) (es:=[chv,.int .i64 T.pick,.int .i64 T.place,.int .i64 T.travel,.int .i64 T.blades]) hB0 rfl
 obtain ⟨et,het⟩:=oX e T.travel
 obtain ⟨fr,hfr⟩:∃fr,fr=if kk=la1 then e else et:=⟨_,rfl⟩
 have ii:=cX (n:=n) hB2 hqn .i64
 have il:=kf hB2 (show q<inn.length by omega)
 obtain ⟨z,hz⟩:∃z,z=inn.getD q 0:=⟨_,rfl⟩
 rw [<-hz] at il
 obtain ⟨mx,hmx⟩:=Em fr z
 have m2:=dg hyr.2 (n:=3) (by omega)
 obtain ⟨q0,q1⟩:=tU hyr.2 (b:=3) (by omega)
 have m3:=dg q1 (n:=20) (by omega)
 have bz:=br (pick y.2 3) 0
 obtain ⟨mx2,hmx2⟩:=oX mx (pick (y.2.tdiv 3) 20)
 obtain ⟨stt,hstt⟩:∃s,s=if pick y.2 3=0 then mx2 else mx:=⟨_,rfl⟩
 have s1:=ly hB2 (show q<inn.length by omega) (-1)
 obtain ⟨B1,hB1⟩:∃B1,B1=B.set 2 (.row 1 false (ak (inn.set q (-1)))):=⟨_,rfl⟩
 rw [<-hB1] at s1
 have hB12:B1[2]?=some (.row 1 false (ak (inn.set q (-1)))):=by rw [hB1,List.getElem?_set_self (List.getElem?_eq_some_iff.1 hB2).1]
 have hB10:B1[0]?=some (.row 5 false [an T chv]):=by rw [hB1,List.getElem?_set_ne (by omega)]; exact hB0
 have hB1o:OV 2 3 B1 ov (out.map a0):=hBo.keep fun j h _=>by rw [hB1,List.getElem?_set_ne (by omega)]
 have hB1l:B1.length=B.length:=by rw [hB1,List.length_set]
 obtain ⟨en,hen⟩:=oX stt w
 have b2:=bj (q+1) n .i64
 rw [show ((q+1:Nat):Int)=kk by omega] at b2
 have b3:=aY i (by omega)
 have fc:aa 0 B1 (.ptr 0 0 0)=some (.ptr 0 0 0):=by simp [aa,hB10]
 have lc:ac false 1 B1 (.ptr 0 0 0)=some chv:=p8 (k:=5) (es:=[chv,.int .i64 T.pick,.int .i64 T.place,.int .i64 T.travel,.int .i64 T.blades]) hB10 rfl
 have bf:∀z,a6 2 [.agg [.int .i64 kk,z]]=some (.fs 2 [.agg [.int .i64 kk,z]])\/True:=fun z=>.inr trivial
 have fin:∀(B2:ab) (inn2:List Int),B2[0]?=some (.row 5 false [an T chv])->B2[2]?=some (.row 1 false (ak inn2))->inn2.length=T.ch.length->OV 2 3 B2 ov (out.map a0)->3<=B2.length ->
   ∃ov' B3,aN 2 16 B2 ov (.fs 2 [.agg [.int .i64 kk,.int .i64 stt]])=some (ov',B3)/\MI B3 T chv inn2 ov' (out++[(kk,stt)]):=fun B2 inn2 k0 k2 kl ko kn=>by
  obtain ⟨ov',B3,h1,h2,h3,h4⟩:=tc (e:=2) (bytes:=16) (by omega) (by omega) ko kn (a0 (kk,stt)) (by rw [List.length_map]; omega)
  refine ⟨ov',B3,h1,⟨by rw [h3 0 (by omega)]; exact k0,by rw [h3 2 (by omega)]; exact k2,kl,?_,by omega⟩⟩
  rw [List.map_append]; exact h2
 obtain ⟨i1,hi1⟩:∃j,j=i+1:=⟨_,rfl⟩
 rw [<-hi1] at b3 ⊢
 have hly':=hly
 by_cases hlt:q+1<n
 ·rw [decide_eq_true hlt] at b2
  have hqc:q+1<T.ch.length:=by omega
  have xc:ag 2 B1 chv (.int .i64 kk)=some (.fp [.int .i64 (T.ch[q+1]).1,.int .i64 (T.ch[q+1]).2]):=by
   have:=hcv.index (A:=B1) (x:=chA T.ch[q+1]) (i:=q+1) (by simp [hqc]) rfl (by omega) .i64
   rw [show ((q+1:Nat):Int)=kk by omega] at this
   exact this
  have f0:∀a b,aa 0 B1 (.fp [a,b])=some (.fp [a,b]):=fun a b=>rfl
  have g0:∀a b,ac false 1 B1 (.fp [.int .i64 a,b])=some (.int .i64 a):=fun a b=>rfl
  obtain ⟨tt,htt⟩:=oX en (T.ch[q+1]).1
  have ij:=cX (n:=n) hB12 hlt .i64
  rw [show ((q+1:Nat):Int)=kk by omega] at ij
  have s2:=ly hB12 (show q+1<(inn.set q (-1)).length by rw [List.length_set]; omega) tt
  obtain ⟨B2,hB2e⟩:∃B2,B2=B1.set 2 (.row 1 false (ak ((inn.set q (-1)).set (q+1) tt))):=⟨_,rfl⟩
  rw [<-hB2e] at s2
  obtain ⟨ov',B3,ap,hM⟩:=fin B2 ((inn.set q (-1)).set (q+1) tt) (by rw [hB2e,List.getElem?_set_ne (by omega)]; exact hB10) (by rw [hB2e,List.getElem?_set_self (List.getElem?_eq_some_iff.1 hB12).1]) (by rw [List.length_set,List.length_set]; exact hI.l) (hB1o.keep fun j h _=>by rw [hB2e,List.getElem?_set_ne (by omega)]) (by rw [hB2e,List.length_set,hB1l]; have:=hI.n; omega)
  refine ⟨en,kk,ov',(kk,stt),_,B3,?_,hM⟩
  clear hM fin hB2e hB1 hB12 hB10 hB1o hB1l hBo hB0 hB2 hrow hk hcs hv hI bf
  generalize (T.ch[q+1]).1=c1 at *
  generalize (T.ch[q+1]).2=c2 at *
  generalize pick (y.2.tdiv 3) 20=p20 at *
  generalize y.2.tdiv 3=qd at *
  generalize pick y.2 3=p3 at *
  generalize (cs.length:Int)=CL at *
  by_cases k1:kk=la1 <;> by_cases k2:p3=0
  ·rw [if_pos k1] at hfr; rw [if_pos k2] at hstt; rw [decide_eq_true k2] at bz; rw [decide_eq_false (by simpa using k1)] at bn1; subst hfr; subst hstt
   simp [dW,hly,b0,b1,km lp,hlv,bc,yx,y0,y1,z0,z1,m1,xi,xl,bk,hla1,bn1,ii,il,hmx,m2,q0,m3,bz,hmx2,s1,hen,b2,b3,fc,lc,xc,f0,g0,htt,ij,s2,ap,aJ,-ai,-aq,-ac,-az,-ag,-aa,-da,-dC,-frz]
  ·rw [if_pos k1] at hfr; rw [if_neg k2] at hstt; rw [decide_eq_false k2] at bz; rw [decide_eq_false (by simpa using k1)] at bn1; subst hfr; subst hstt
   simp [dW,hly,b0,b1,km lp,hlv,bc,yx,y0,y1,z0,z1,m1,xi,xl,bk,hla1,bn1,ii,il,hmx,m2,bz,s1,hen,b2,b3,fc,lc,xc,f0,g0,htt,ij,s2,ap,aJ,-ai,-aq,-ac,-az,-ag,-aa,-da,-dC,-frz]
  ·rw [if_neg k1] at hfr; rw [if_pos k2] at hstt; rw [decide_eq_true k2] at bz; rw [decide_eq_true (by simpa using k1)] at bn1; subst hfr; subst hstt
   simp [dW,hly,b0,b1,km lp,hlv,bc,yx,y0,y1,z0,z1,m1,xi,xl,bk,hla1,bn1,ft3,lt3,het,ii,il,hmx,m2,q0,m3,bz,hmx2,s1,hen,b2,b3,fc,lc,xc,f0,g0,htt,ij,s2,ap,aJ,-ai,-aq,-ac,-az,-ag,-aa,-da,-dC,-frz]
  ·rw [if_neg k1] at hfr; rw [if_neg k2] at hstt; rw [decide_eq_false k2] at bz; rw [decide_eq_true (by simpa using k1)] at bn1; subst hfr; subst hstt
   simp [dW,hly,b0,b1,km lp,hlv,bc,yx,y0,y1,z0,z1,m1,xi,xl,bk,hla1,bn1,ft3,lt3,het,ii,il,hmx,m2,bz,s1,hen,b2,b3,fc,lc,xc,f0,g0,htt,ij,s2,ap,aJ,-ai,-aq,-ac,-az,-ag,-aa,-da,-dC,-frz]
 ·rw [decide_eq_false hlt] at b2
  obtain ⟨ov',B3,ap,hM⟩:=fin B1 (inn.set q (-1)) hB10 hB12 (by rw [List.length_set]; exact hI.l) hB1o (by rw [hB1l]; have:=hI.n; omega)
  refine ⟨en,kk,ov',(kk,stt),_,B3,?_,hM⟩
  clear hM fin hB1 hB12 hB10 hB1o hB1l hBo hB0 hB2 hrow hk hcs hv hI bf
  generalize pick (y.2.tdiv 3) 20=p20 at *
  generalize y.2.tdiv 3=qd at *
  generalize pick y.2 3=p3 at *
  generalize (cs.length:Int)=CL at *
  by_cases k1:kk=la1 <;> by_cases k2:p3=0
  ·rw [if_pos k1] at hfr; rw [if_pos k2] at hstt; rw [decide_eq_true k2] at bz; rw [decide_eq_false (by simpa using k1)] at bn1; subst hfr; subst hstt
   simp [dW,hly,b0,b1,km lp,hlv,bc,yx,y0,y1,z0,z1,m1,xi,xl,bk,hla1,bn1,ii,il,hmx,m2,q0,m3,bz,hmx2,s1,hen,b2,b3,ap,aJ,-ai,-aq,-ac,-az,-ag,-aa,-da,-dC,-frz]
  ·rw [if_pos k1] at hfr; rw [if_neg k2] at hstt; rw [decide_eq_false k2] at bz; rw [decide_eq_false (by simpa using k1)] at bn1; subst hfr; subst hstt
   simp [dW,hly,b0,b1,km lp,hlv,bc,yx,y0,y1,z0,z1,m1,xi,xl,bk,hla1,bn1,ii,il,hmx,m2,bz,s1,hen,b2,b3,ap,aJ,-ai,-aq,-ac,-az,-ag,-aa,-da,-dC,-frz]
  ·rw [if_neg k1] at hfr; rw [if_pos k2] at hstt; rw [decide_eq_true k2] at bz; rw [decide_eq_true (by simpa using k1)] at bn1; subst hfr; subst hstt
   simp [dW,hly,b0,b1,km lp,hlv,bc,yx,y0,y1,z0,z1,m1,xi,xl,bk,hla1,bn1,ft3,lt3,het,ii,il,hmx,m2,q0,m3,bz,hmx2,s1,hen,b2,b3,ap,aJ,-ai,-aq,-ac,-az,-ag,-aa,-da,-dC,-frz]
  ·rw [if_neg k1] at hfr; rw [if_neg k2] at hstt; rw [decide_eq_false k2] at bz; rw [decide_eq_true (by simpa using k1)] at bn1; subst hfr; subst hstt
   simp [dW,hly,b0,b1,km lp,hlv,bc,yx,y0,y1,z0,z1,m1,xi,xl,bk,hla1,bn1,ft3,lt3,het,ii,il,hmx,m2,bz,s1,hen,b2,b3,ap,aJ,-ai,-aq,-ac,-az,-ag,-aa,-da,-dC,-frz]
end
end Tr
namespace Tr
open Go
open Cy (GC aJ bb aB dg)
open Clu (aR aZ pV an chA a7 bV dm ce cM br cB cT aT bX)
section
variable {T:aR} {chv:AV}
theorem Ls {ys:List (Int × Int)} {yv:AV} (hy:SlA 2 (ys.map chA) yv) (w:AV) {A:ab} (n:Nat) (e la:Int) (ov:AV) {i:Nat} (hi:i=min ys.length 10) :
  ∃v18,run (ax GC uf) 300 [.code dW] (s20 yv w n e la ov i) A=some (.exit 0 (x20 yv w n e la ov i .undef v18 .undef) A):=by
 have hly:=hy.len
 rw [List.length_map] at hly
 have b0:=bj i ys.length .i64
 have b1:=ce (i:Int) 10
 refine ⟨.bool false,?_⟩
 by_cases h:i<ys.length
 ·rw [decide_eq_true h] at b0
  rw [decide_eq_false (by omega)] at b1
  simp [dW,hly,b0,b1,-ai,-aq]
 ·rw [decide_eq_false h] at b0
  simp [dW,hly,b0,-ai,-aq]
theorem Es (hcv:SlA 2 (T.ch.map chA) chv) (hn1:1<=T.ch.length) (hn:T.ch.length<=20) {ys:List (Int × Int)} (hys:∀y∈ys,inI y.1/\inI y.2) {yv:AV} (hy:SlA 2 (ys.map chA) yv) (w:Int):∀(c i m:Nat) (A:ab) (inn:List Int) (ov:AV) (out:List cS) (e la:Int),i+c=min ys.length 10->c<m->MI A T chv inn ov out->out.length=i ->
  ∃v13 v18 v21 B i' inn' ov' out' e' la',bU (evC (ax GC uf) 300 dW) mZ m (s20 yv (.int .i64 w) T.ch.length e la ov i) A=some (.exit 0 (x20 yv (.int .i64 w) T.ch.length e' la' ov' i' v13 v18 v21) B)/\MI B T chv inn' ov' out'/\out'.length<=10:=by
 intro c
 induction c with
 | zero=>
  intro i m A inn ov out e la hi hm hI ho
  obtain ⟨m,rfl⟩:∃j,m=j+1:=⟨m-1,by omega⟩
  obtain ⟨v18,h⟩:=Ls hy (.int .i64 w) (A:=A) T.ch.length e la ov (i:=i) (by omega)
  refine ⟨.undef,v18,.undef,A,i,inn,ov,out,e,la,?_,hI,by omega⟩
  rw [aI,vM,h]
 | succ c ih=>
  intro i m A inn ov out e la hi hm hI ho
  obtain ⟨m,rfl⟩:∃j,m=j+1:=⟨m-1,by omega⟩
  rcases AJ hcv hn1 hn hys hy w hI e la (i:=i) (by omega) (by omega) (by omega) with ⟨v13,v18,v21,B,h1,h2⟩ | ⟨e',la',ov',t,inn',B,h1,h2⟩
  ·refine ⟨v13,v18,v21,B,i,inn,ov,out,e,la,?_,h2,by omega⟩
   rw [aI,vM,h1]
  ·obtain ⟨v13,v18,v21,B',i',inn2,ov2,out2,e2,la2,g1,g2,g3⟩:=ih (i+1) m B inn' ov' (out++[t]) e' la' (by omega) (by omega) h2 (by rw [List.length_append,ho]; rfl)
   refine ⟨v13,v18,v21,B',i',inn2,ov2,out2,e2,la2,?_,g2,g3⟩
   rw [aI,vM,h1]
   exact g1
end
def M20:aP:=fun args=>evP (ax GC uf) 300 Jn 4 args
theorem Z7:au Try.prog GC 20 M20:=au.of_ev (E:=ax GC uf) (aw DI) rfl at20 Hw 4 fun _ _ h=>⟨300,h⟩
theorem Ig {T:aR} {chv:AV} (hcv:SlA 2 (T.ch.map chA) chv) (hn1:1<=T.ch.length) (hn:T.ch.length<=20) {rd:List Int} {rdv:AV} (hr:SlA 1 (ak rd) rdv) (hrl:rd.length=T.ch.length) (free:Int) {ys:List (Int × Int)} (hys:∀y∈ys,inI y.1/\inI y.2) {yv:AV} (hy:SlA 2 (ys.map chA) yv) (hw:M22 [an T chv]=some (.int .i64 (wT T))) :
  ∃(v:AV) (m:List cS),M20 [an T chv,rdv,.int .i64 free,yv]=some v/\SlA 2 (m.map a0) v/\m.length<=10:=by
 have bx:aX 5 (an T chv) []=some (.ptr 0 0 0,[.row 5 false [an T chv]]):=rfl
 have ct:(cellsOf (an T chv)).length=5:=rfl
 have lnc:=hcv.len
 rw [List.length_map] at lnc
 have fa:aa 0 [.row 5 false [an T chv]] (.ptr 0 0 0)=some (.ptr 0 0 0):=rfl
 have la:ac false 1 [.row 5 false [an T chv]] (.ptr 0 0 0)=some chv:=p8 (k:=5) (es:=[chv,.int .i64 T.pick,.int .i64 T.place,.int .i64 T.travel,.int .i64 T.blades]) rfl rfl
 have bs:cj 1 [] [.row 5 false [an T chv]]=some (.sl 1 0 0,[.row 5 false [an T chv],.row 1 false []]):=rfl
 have ap:=yO (esz:=1) (bytes:=8) (A:=[.row 5 false [an T chv]]) (by omega) (by omega) rfl hr (by rw [aB]; omega)
 rw [aB,hrl] at ap
 obtain ⟨A0,hA0⟩:∃A0:ab,A0=[.row 5 false [an T chv],.dead,.row 1 false (ak rd)]:=⟨_,rfl⟩
 have ap1:aN 1 8 [.row 5 false [an T chv],.row 1 false []] (.sl 1 0 0) rdv=some (.sl 2 0 T.ch.length,A0):=by rw [hA0]; exact ap
 have lt:ac true 5 A0 (.ptr 0 0 0)=some (an T chv):=by rw [hA0]; rcases hcv with ⟨rfl,_⟩ | rfl <;> rfl
 have hI:MI A0 T chv rd .nilS []:=⟨by rw [hA0]; rfl,by rw [hA0]; rfl,hrl,.inl ⟨rfl,rfl⟩,by rw [hA0]; simp⟩
 obtain ⟨v13,v18,v21,B,i',inn',ov',out',e',la',lp,g2,g3⟩:=Es hcv hn1 hn hys hy (wT T) (min ys.length 10) 0 300 A0 rd .nilS [] free (-2) (by omega) (by omega) hI rfl
 unfold s20 x20 at lp
 rw [show ((0:Nat):Int)=0 from rfl] at lp
 have hfz:=g2.o.frz 3 (fun x hx=>by
  obtain ⟨t,_,rfl⟩:=List.mem_map.1 hx
  simp [a0,frz])
 refine ⟨frz B 4 ov',out',?_,hfz,g3⟩
 have tf:∀A,frz A 4 (an T chv)=an T chv:=fun A=>aT (fun A n=>hcv.frz (A:=A) n) A 3
 have tn:bh 4 (an T chv)=true:=bX (fun n=>hcv.noRef n) 3
 have ids0:∀ {e:Nat} {l:List AV} {v:AV},SlA e l v->aW v=[]:=fun h=>by rcases h with ⟨rfl,_⟩ | rfl <;> rfl
 have ids1:=ids0 hr
 have ids2:=ids0 hcv
 clear hI hA0 hfz g2 g3 ap
 generalize an T chv=tv at *
 generalize T.ch.length=n at *
 generalize wT T=w at *
 unfold M20
 rw [aK _ _ rfl]
 simp [Jn,bx,ct,fa,la,lnc,bs,ap1,lt,hw,tf,tn,GR lp,-aW,-aX,-cj,-ac,-aa,-frz,-cellsOf,-aq]
end Tr
namespace Tr
open Go
def dt:MC:=.seq (.seq (.region [⟨none,.mv (.var 7),none⟩,⟨none,.mv (.var 5),none⟩,⟨some 11,.bin .lss (.tmp 0) (.tmp 1),none⟩]) (.cond (.var 11) .skip (.exit 0))) (.seq (.seq (.block 1 (.region [⟨none,.mv (.var 6),none⟩,⟨none,.mv (.var 7),none⟩,⟨none,.bin .add (.tmp 1) (.cst (.int .i64 1)),none⟩,⟨none,.mv (.var 1),none⟩,⟨none,.mv (.var 7),none⟩,⟨none,.indexSl 1 (.tmp 3) (.tmp 4),none⟩,⟨none,.load false 1 (.tmp 5),none⟩,⟨none,.bin .geq (.tmp 6) (.cst (.int .i64 0)),none⟩,⟨none,.indexSl 1 (.tmp 0) (.tmp 2),none⟩,⟨none,.store 1 (.tmp 8) (.tmp 7),none⟩])) (.kill [0,3,4,8,9,10,11,12,13,14,15])) (.region [⟨none,.mv (.var 7),none⟩,⟨none,.bin .add (.tmp 0) (.cst (.int .i64 1)),none⟩,⟨some 7,.mv (.tmp 1),none⟩]))
def de:MC:=.seq (.seq (.region [⟨none,.mv (.var 8),none⟩,⟨none,.mv (.var 2),none⟩,⟨none,.lenSl (.tmp 1),none⟩,⟨some 12,.bin .lss (.tmp 0) (.tmp 2),none⟩]) (.cond (.var 12) .skip (.exit 2))) (.seq (.seq (.block 3 (.seq (.region [⟨none,.mv (.var 2),none⟩,⟨none,.mv (.var 8),none⟩,⟨none,.indexSl 2 (.tmp 0) (.tmp 1),none⟩,⟨none,.fieldAddr 0 (.tmp 2),none⟩,⟨none,.load false 1 (.tmp 3),none⟩,⟨some 9,.mv (.tmp 4),none⟩]) (.seq (.seq (.region [⟨none,.mv (.var 9),none⟩,⟨none,.bin .lss (.tmp 0) (.cst (.int .i64 1)),none⟩,⟨none,.mv (.tmp 1),none⟩,⟨none,.mv (.var 9),some (.tmp 2,false)⟩,⟨none,.mv (.var 5),some (.tmp 2,false)⟩,⟨none,.bin .gtr (.tmp 3) (.tmp 4),some (.tmp 2,false)⟩,⟨none,.pick (.tmp 2) (.cst (.bool true)) (.tmp 5),none⟩,⟨none,.mv (.tmp 6),none⟩,⟨none,.mv (.var 6),some (.tmp 7,false)⟩,⟨none,.mv (.var 9),some (.tmp 7,false)⟩,⟨none,.indexSl 1 (.tmp 8) (.tmp 9),some (.tmp 7,false)⟩,⟨none,.load false 1 (.tmp 10),some (.tmp 7,false)⟩,⟨none,.un .not (.tmp 11),some (.tmp 7,false)⟩,⟨none,.pick (.tmp 7) (.cst (.bool true)) (.tmp 12),none⟩,⟨none,.mv (.tmp 13),none⟩,⟨none,.mv (.var 9),some (.tmp 14,false)⟩,⟨none,.mv (.var 5),some (.tmp 14,false)⟩,⟨none,.bin .lss (.tmp 15) (.tmp 16),some (.tmp 14,false)⟩,⟨none,.mv (.tmp 17),some (.tmp 14,false)⟩,⟨none,.mv (.var 6),some (.tmp 18,true)⟩,⟨none,.mv (.var 9),some (.tmp 18,true)⟩,⟨none,.bin .add (.tmp 20) (.cst (.int .i64 1)),some (.tmp 18,true)⟩,⟨none,.indexSl 1 (.tmp 19) (.tmp 21),some (.tmp 18,true)⟩,⟨none,.load false 1 (.tmp 22),some (.tmp 18,true)⟩,⟨none,.pick (.tmp 18) (.tmp 23) (.cst (.bool false)),some (.tmp 14,false)⟩,⟨some 13,.pick (.tmp 14) (.cst (.bool true)) (.tmp 24),none⟩]) (.cond (.var 13) (.seq (.region [⟨some 4,.mv (.cst (.bool false)),none⟩]) .ret) .skip)) (.seq (.region [⟨none,.mv (.var 6),none⟩,⟨none,.mv (.var 9),none⟩,⟨none,.indexSl 1 (.tmp 0) (.tmp 1),none⟩,⟨none,.store 1 (.tmp 2) (.cst (.bool false)),none⟩]) (.region [⟨none,.mv (.var 6),none⟩,⟨none,.mv (.var 9),none⟩,⟨none,.bin .add (.tmp 1) (.cst (.int .i64 1)),none⟩,⟨none,.mv (.var 9),none⟩,⟨none,.mv (.var 5),none⟩,⟨none,.bin .lss (.tmp 3) (.tmp 4),none⟩,⟨none,.indexSl 1 (.tmp 0) (.tmp 2),none⟩,⟨none,.store 1 (.tmp 6) (.tmp 5),none⟩]))))) (.kill [0,1,3,4,7,9,10,11,12,13,14,15])) (.region [⟨none,.mv (.var 8),none⟩,⟨none,.bin .add (.tmp 0) (.cst (.int .i64 1)),none⟩,⟨some 8,.mv (.tmp 1),none⟩]))
def kc:MC:=.seq (.seq (.region [⟨none,.mv (.var 10),none⟩,⟨none,.mv (.var 5),none⟩,⟨some 14,.bin .leq (.tmp 0) (.tmp 1),none⟩]) (.cond (.var 14) .skip (.exit 4))) (.seq (.seq (.block 5 (.seq (.region [⟨none,.mv (.var 6),none⟩,⟨none,.mv (.var 10),none⟩,⟨none,.indexSl 1 (.tmp 0) (.tmp 1),none⟩,⟨some 15,.load false 1 (.tmp 2),none⟩]) (.cond (.var 15) (.seq (.region [⟨some 4,.mv (.cst (.bool false)),none⟩]) .ret) .skip))) (.kill [0,1,2,3,4,7,8,9,11,12,13,14,15])) (.region [⟨none,.mv (.var 10),none⟩,⟨none,.bin .add (.tmp 0) (.cst (.int .i64 1)),none⟩,⟨some 10,.mv (.tmp 1),none⟩]))
def tp:cu:=⟨3,16,.seq (.region [⟨some 3,.box (.var 0),none⟩,⟨some 4,.mv (.cst (.bool false)),none⟩]) (.seq (.region [⟨none,.fieldAddr 0 (.var 3),none⟩,⟨none,.load false 1 (.tmp 0),none⟩,⟨none,.lenSl (.tmp 1),none⟩,⟨some 5,.mv (.tmp 2),none⟩]) (.seq (.region [⟨none,.mv (.var 5),none⟩,⟨none,.bin .add (.tmp 0) (.cst (.int .i64 2)),none⟩,⟨none,.makeSlice 1 1 (.bool false) (.tmp 1) (.tmp 1),none⟩,⟨some 6,.mv (.tmp 2),none⟩]) (.seq (.seq (.region [⟨some 7,.mv (.cst (.int .i64 0)),none⟩]) (.seq (.block 0 (.loop [0,3,4,8,9,10,11,12,13,14,15] dt)) (.kill [0,1,3,4,7,8,9,10,11,12,13,14,15]))) (.seq (.seq (.region [⟨some 8,.mv (.cst (.int .i64 0)),none⟩]) (.seq (.block 2 (.loop [0,1,3,4,7,9,10,11,12,13,14,15] de)) (.kill [0,1,2,3,4,7,8,9,10,11,12,13,14,15]))) (.seq (.seq (.region [⟨some 10,.mv (.cst (.int .i64 1)),none⟩]) (.seq (.block 4 (.loop [0,1,2,3,4,7,8,9,11,12,13,14,15] kc)) (.kill [0,1,2,3,4,5,6,7,8,9,10,11,12,13,14,15]))) (.seq (.region [⟨some 4,.mv (.cst (.bool true)),none⟩]) .ret)))))),[.tmp 4]⟩
def dJ:List Nat:=[0,3,4,8,9,10,11,12,13,14,15]
abbrev fj (v1 v2 v5 v6 v7:AV):List AV:=[.undef,v1,v2,.undef,.undef,v5,v6,v7,.undef,.undef,.undef,.undef,.undef,.undef,.undef,.undef]
theorem oO {d0 v1 v2 d3 d4 v5 v6 v7 d8 d9 d10 d11 d12 d13 d14 d15:AV}:clear dJ [d0,v1,v2,d3,d4,v5,v6,v7,d8,d9,d10,d11,d12,d13,d14,d15]=fj v1 v2 v5 v6 v7:=rfl
theorem si {E:Env} {fuel:Nat} {A:ab} {o:Out} {k:List KC} {d0 v1 v2 d3 d4 v5 v6 v7 d8 d9 d10 d11 d12 d13 d14 d15:AV} (h:bU (evC E fuel dt) dJ fuel (fj v1 v2 v5 v6 v7) A=some o) :
  run E fuel (.code (.loop [0,3,4,8,9,10,11,12,13,14,15] dt) :: k) [d0,v1,v2,d3,d4,v5,v6,v7,d8,d9,d10,d11,d12,d13,d14,d15] A=after E fuel k o:=aS dJ _ _ (by rw [oO]; exact h)
def dx:List Nat:=[0,1,3,4,7,9,10,11,12,13,14,15]
abbrev eA (v2 v5 v6 v8:AV):List AV:=[.undef,.undef,v2,.undef,.undef,v5,v6,.undef,v8,.undef,.undef,.undef,.undef,.undef,.undef,.undef]
theorem kJ {d0 d1 v2 d3 d4 v5 v6 d7 v8 d9 d10 d11 d12 d13 d14 d15:AV}:clear dx [d0,d1,v2,d3,d4,v5,v6,d7,v8,d9,d10,d11,d12,d13,d14,d15]=eA v2 v5 v6 v8:=rfl
theorem sh {E:Env} {fuel:Nat} {A:ab} {o:Out} {k:List KC} {d0 d1 v2 d3 d4 v5 v6 d7 v8 d9 d10 d11 d12 d13 d14 d15:AV} (h:bU (evC E fuel de) dx fuel (eA v2 v5 v6 v8) A=some o) :
  run E fuel (.code (.loop [0,1,3,4,7,9,10,11,12,13,14,15] de) :: k) [d0,d1,v2,d3,d4,v5,v6,d7,v8,d9,d10,d11,d12,d13,d14,d15] A=after E fuel k o:=aS dx _ _ (by rw [kJ]; exact h)
def j6:List Nat:=[0,1,2,3,4,7,8,9,11,12,13,14,15]
abbrev nD (v5 v6 v10:AV):List AV:=[.undef,.undef,.undef,.undef,.undef,v5,v6,.undef,.undef,.undef,v10,.undef,.undef,.undef,.undef,.undef]
theorem sR {d0 d1 d2 d3 d4 v5 v6 d7 d8 d9 v10 d11 d12 d13 d14 d15:AV}:clear j6 [d0,d1,d2,d3,d4,v5,v6,d7,d8,d9,v10,d11,d12,d13,d14,d15]=nD v5 v6 v10:=rfl
theorem Cj {E:Env} {fuel:Nat} {A:ab} {o:Out} {k:List KC} {d0 d1 d2 d3 d4 v5 v6 d7 d8 d9 v10 d11 d12 d13 d14 d15:AV} (h:bU (evC E fuel kc) j6 fuel (nD v5 v6 v10) A=some o) :
  run E fuel (.code (.loop [0,1,2,3,4,7,8,9,11,12,13,14,15] kc) :: k) [d0,d1,d2,d3,d4,v5,v6,d7,d8,d9,v10,d11,d12,d13,d14,d15] A=after E fuel k o:=aS j6 _ _ (by rw [sR]; exact h)
theorem sP:aE Try.prog Try.f19 3 [0,1,2,3,6,7,8,9,10,11,12,21,36,69,82,88] [] true ([[0,3,4,8,9,10,11,12,13,14,15],[0,1,3,4,7,9,10,11,12,13,14,15],[0,1,2,3,4,7,8,9,11,12,13,14,15]],[[0,3,4,8,9,10,11,12,13,14,15],[0,1,3,4,7,8,9,10,11,12,13,14,15],[0,1,3,4,7,9,10,11,12,13,14,15],[0,1,2,3,4,7,8,9,10,11,12,13,14,15],[0,1,2,3,4,7,8,9,11,12,13,14,15],[0,1,2,3,4,5,6,7,8,9,10,11,12,13,14,15]])=some tp:=by kernel_rfl
theorem HK:Try.prog.funcs[19]?=some Try.f19:=by kernel_rfl
end Tr
namespace Tr
open Go
open Cy (GC aJ bb aB dg)
open Clu (aR aZ pV an chA a7 bV dm ce cM br cB cT aT bX)
def jJ:List Bool->List Int->Option (List Bool)
 | b,[]=>some b
 | b,t :: r=>if (1<=t/\t<=b.length)/\jE b (t-1).toNat=true then jJ (mvB b (t-1).toNat) r else none
theorem ql:∀(o:List Int) (b:List Bool),wK b o=((jJ b o).map fun c=>!c.any id).getD false
 | [],b=>rfl
 | t :: r,b=>by
  unfold wK jJ
  rw [ql r]
  by_cases h:(1<=t/\t<=b.length)/\jE b (t-1).toNat=true
  ·rw [if_pos h,decide_eq_true h.1,h.2,Bool.true_and,Bool.true_and]
  ·rw [if_neg h]
   by_cases h1:1<=t/\t<=b.length
   ·rw [show jE b (t-1).toNat=false from Bool.eq_false_iff.2 fun h2=>h ⟨h1,h2⟩]; simp
   ·rw [decide_eq_false h1]; simp
def eL (b:List Bool):List Bool:=false :: (b++[false])
theorem sH (b:List Bool):(eL b).length=b.length+2:=by simp [eL]
theorem yJ (b:List Bool) (k:Nat):(eL b).getD (k+1) false=b.getD k false:=by
 unfold eL
 rw [List.getD_eq_getElem?_getD,List.getD_eq_getElem?_getD,List.getElem?_cons_succ]
 by_cases h:k<b.length
 ·rw [List.getElem?_append_left h]
 ·rw [List.getElem?_append_right (by omega),List.getElem?_eq_none (l:=b) (by omega)]
  by_cases h2:k=b.length
  ·subst h2; simp
  ·rw [List.getElem?_eq_none (by simp; omega)]
theorem yI (b:List Bool) {k:Nat} (h:k<b.length) (v:Bool):(eL b).set (k+1) v=eL (b.set k v):=by
 unfold eL
 rw [List.set_cons_succ,List.set_append_left _ _ h]
theorem G5 (b:List Bool):(eL b).set (b.length+1) false=eL b:=by
 unfold eL
 rw [List.set_cons_succ,List.set_append_right _ _ (by omega)]
 simp
def eF (g:Nat->Bool) (n i:Nat):List Bool:=eL ((List.range n).map fun j=>if j<i then g j else false)
theorem G7 (g:Nat->Bool) (n i:Nat):(eF g n i).length=n+2:=by simp [eF,eL]
theorem G6 (g:Nat->Bool) {n i:Nat} (h:i<n):(eF g n i).set (i+1) (g i)=eF g n (i+1):=by
 unfold eF
 rw [yI _ (by simpa using h)]
 have:=F7 g (fun _=>false) h
 unfold rJ at this
 rw [this]
theorem EK (g:Nat->Bool) (n:Nat):eF g n 0=List.replicate (n+2) false:=by
 unfold eF eL
 have:((List.range n).map fun j=>if j<0 then g j else false)=List.replicate n false:=by
  apply List.ext_getElem
  ·simp
  ·intro i _ _; simp
 rw [this,<-List.replicate_succ',<-List.replicate_succ]
theorem EL (rd:List Int):eF (fun j=>decide (0<=rd.getD j 0)) rd.length rd.length=eL (b0 rd):=by
 unfold eF
 congr 1
 apply List.ext_getElem
 ·simp [b0]
 ·intro i h1 h2
  have hi:i<rd.length:=by simpa using h1
  simp [b0,hi]
def A19 (tv:AV) (L:List Bool):ab:=[.row 5 false [tv],.row 1 false (aV L)]
theorem eT (tv:AV) (L:List Bool):(A19 tv L)[1]?=some (.row 1 false (aV L)):=rfl
theorem uI (tv:AV) (L L':List Bool):(A19 tv L).set 1 (.row 1 false (aV L'))=A19 tv L':=rfl
section
variable {tv:AV} {n:Nat}
theorem t5 {rd:List Int} {rv:AV} (hr:SlA 1 (ak rd) rv) (hn:rd.length=n) (hn2:n<=1000) (v2:AV):∀(c i m:Nat),i+c=n->c<m ->
  bU (evC (ax GC []) 300 dt) dJ m (fj rv v2 (.int .i64 (n:Int)) (.sl 1 0 (n+2)) (.int .i64 (i:Int))) (A19 tv (eF (fun j=>decide (0<=rd.getD j 0)) n i)) =
   some (.exit 0 ((fj rv v2 (.int .i64 (n:Int)) (.sl 1 0 (n+2)) (.int .i64 (n:Int))).set 11 (.bool false)) (A19 tv (eF (fun j=>decide (0<=rd.getD j 0)) n n))):=by
 intro c
 induction c with
 | zero=>
  intro i m hi hm
  obtain ⟨m,rfl⟩:∃j,m=j+1:=⟨m-1,by omega⟩
  obtain rfl:i=n:=by omega
  have b2:=bj i i .i64
  rw [decide_eq_false (by omega)] at b2
  rw [aI,oO]
  simp [dt,b2,-ai]
 | succ c ih=>
  intro i m hi hm
  obtain ⟨m,rfl⟩:∃j,m=j+1:=⟨m-1,by omega⟩
  have ih:=ih (i+1) m (by omega) (by omega)
  have b0:=bj i n .i64
  rw [decide_eq_true (by omega)] at b0
  have b1:=aY i (by omega)
  have hin:i<rd.length:=by omega
  have x0:∀A,ag 1 A rv (.int .i64 (i:Int))=some (.fp [.int .i64 (rd.getD i 0)]):=fun A=>by
   have e:rd.getD i 0=rd[i]:=by rw [List.getD_eq_getElem?_getD,List.getElem?_eq_getElem hin]; rfl
   rw [e]
   exact hr.index1 (A:=A) (x:=.int .i64 rd[i]) (i:=i) (by simp [ak,hin]) rfl rfl .i64
  have x1:∀A z,ac false 1 A (.fp [.int .i64 z])=some (.int .i64 z):=fun _ _=>rfl
  have b3:ai .geq (.int .i64 (rd.getD i 0)) (.int .i64 0)=some (.bool (decide (0<=rd.getD i 0))):=by simp [ai]
  have i0:=cX (n:=n+2) (eT tv (eF (fun j=>decide (0<=rd.getD j 0)) n i)) (show i+1<n+2 by omega) .i64
  have s0:=kQ (eT tv (eF (fun j=>decide (0<=rd.getD j 0)) n i)) (show i+1<(eF (fun j=>decide (0<=rd.getD j 0)) n i).length by rw [G7]; omega) (decide (0<=rd.getD i 0))
  rw [uI,G6 (fun j=>decide (0<=rd.getD j 0)) (show i<n by omega)] at s0
  rw [aI,oO]
  obtain ⟨j,hj⟩:∃j,j=i+1:=⟨_,rfl⟩
  rw [<-hj] at ih b1 i0 s0
  have e:run (ax GC []) 300 [.code dt] (fj rv v2 (.int .i64 (n:Int)) (.sl 1 0 (n+2)) (.int .i64 (i:Int))) (A19 tv (eF (fun j=>decide (0<=rd.getD j 0)) n i))=some (.normal (fj rv v2 (.int .i64 (n:Int)) (.sl 1 0 (n+2)) (.int .i64 (j:Int))) (A19 tv (eF (fun j=>decide (0<=rd.getD j 0)) n j))):=by
   generalize A19 tv (eF (fun j=>decide (0<=rd.getD j 0)) n i)=B0 at *
   generalize A19 tv (eF (fun j=>decide (0<=rd.getD j 0)) n j)=B1 at *
   generalize decide (0<=rd.getD i 0)=d at *
   generalize rd.getD i 0=z at *
   simp [dt,b0,b1,x0,x1,b3,i0,s0,-ai,-ac,-az,-ag]
  rw [e]
  exact ih
abbrev r19 (lv:AV) (n:Nat) (v8 v9 v12 v13:AV):List AV:=[.undef,.undef,lv,.undef,.bool false,.int .i64 (n:Int),.sl 1 0 (n+2),.undef,v8,v9,.undef,.undef,v12,v13,.undef,.undef]
theorem qL {l:List cS} {lv:AV} (hl:SlA 2 (l.map a0) lv) (hll:l.length<=1000) (hn1:1<=n) (hn2:n<=1000) {b:List Bool} (hb:b.length=n) {i:Nat} {t:cS} (ht:l[i]?=some t) :
  ((¬ ((1<=t.1/\t.1<=b.length)/\jE b (t.1-1).toNat=true))->∃v8 v9 v12 v13 A,run (ax GC []) 300 [.code de] (eA lv (.int .i64 (n:Int)) (.sl 1 0 (n+2)) (.int .i64 (i:Int))) (A19 tv (eL b))=some (.ret (r19 lv n v8 v9 v12 v13) A)) /\
  ((1<=t.1/\t.1<=b.length)/\jE b (t.1-1).toNat=true->run (ax GC []) 300 [.code de] (eA lv (.int .i64 (n:Int)) (.sl 1 0 (n+2)) (.int .i64 (i:Int))) (A19 tv (eL b))=some (.normal (eA lv (.int .i64 (n:Int)) (.sl 1 0 (n+2)) (.int .i64 ((i+1:Nat):Int))) (A19 tv (eL (mvB b (t.1-1).toNat))))):=by
 have hil:=(List.getElem?_eq_some_iff.1 ht).1
 have b0:=bj i l.length .i64
 rw [decide_eq_true hil] at b0
 have hlv:=hl.len
 rw [List.length_map] at hlv
 have b1:=aY i (by omega)
 have x0:∀A,ag 2 A lv (.int .i64 (i:Int))=some (.fp [.int .i64 t.1,.int .i64 t.2]):=fun A=>hl.index (A:=A) (x:=a0 t) (i:=i) (by rw [List.getElem?_map,ht]; rfl) rfl (by omega) .i64
 have x1:∀A u v,aa 0 A (.fp [u,v])=some (.fp [u,v]):=fun _ _ _=>rfl
 have x2:∀A z v,ac false 1 A (.fp [.int .i64 z,v])=some (.int .i64 z):=fun _ _ _=>rfl
 obtain ⟨k,hk⟩:∃k,k=t.1:=⟨_,rfl⟩
 obtain ⟨i1,hi1⟩:∃j,j=i+1:=⟨_,rfl⟩
 rw [<-hi1] at b1 ⊢
 rw [<-hk] at x0 ⊢
 generalize t.2=t2 at *
 have c0:=ce k 1
 have c1:=cB k (n:Int)
 by_cases h1:1<=k
 case neg=>
  refine ⟨fun _=>⟨.int .i64 (i:Int),.int .i64 k,.bool true,.bool true,A19 tv (eL b),?_⟩,fun h=>absurd h.1.1 h1⟩
  rw [decide_eq_true (by omega)] at c0
  generalize A19 tv (eL b)=B at *
  simp [de,b0,hlv,x0,x1,x2,c0,-ai,-ac,-az,-ag,-aa,-aq]
 by_cases h2:k<=n
 case neg=>
  refine ⟨fun _=>⟨.int .i64 (i:Int),.int .i64 k,.bool true,.bool true,A19 tv (eL b),?_⟩,fun h=>absurd h.1.2 (by omega)⟩
  rw [decide_eq_false (by omega)] at c0
  rw [decide_eq_true (by omega)] at c1
  generalize A19 tv (eL b)=B at *
  simp [de,b0,hlv,x0,x1,x2,c0,c1,-ai,-ac,-az,-ag,-aa,-aq]
 rw [decide_eq_false (by omega)] at c0
 rw [decide_eq_false (by omega)] at c1
 obtain ⟨q,hq⟩:∃q:Nat,k=((q+1:Nat):Int):=⟨(k-1).toNat,by omega⟩
 subst hq
 have eq:(((q+1:Nat):Int)-1).toNat=q:=by omega
 rw [eq]
 have hqn:q<b.length:=by omega
 have i0:=cX (n:=n+2) (eT tv (eL b)) (show q+1<n+2 by omega) .i64
 have d0:=kX (eT tv (eL b)) (show q+1<(eL b).length by rw [sH]; omega)
 rw [yJ] at d0
 have c2:=bj (q+1) n .i64
 have c3:=aY (q+1) (by omega)
 have i1':=cX (n:=n+2) (eT tv (eL b)) (show q+1+1<n+2 by omega) .i64
 have d1:=kX (eT tv (eL b)) (show q+1+1<(eL b).length by rw [sH]; omega)
 rw [yJ] at d1
 have s0:=kQ (eT tv (eL b)) (show q+1<(eL b).length by rw [sH]; omega) false
 rw [uI,yI b hqn] at s0
 have i2:=cX (n:=n+2) (eT tv (eL (b.set q false))) (show q+1+1<n+2 by omega) .i64
 have s1:=kQ (eT tv (eL (b.set q false))) (show q+1+1<(eL (b.set q false)).length by rw [sH,List.length_set]; omega) (decide (q+1<n))
 rw [uI] at s1
 have hmv:(eL (b.set q false)).set (q+1+1) (decide (q+1<n))=eL (mvB b q):=by
  unfold mvB
  by_cases h:q+1=b.length
  ·rw [if_pos h,decide_eq_false (by omega)]
   have:=G5 (b.set q false)
   rw [List.length_set,<-h] at this
   exact this
  ·rw [if_neg h,decide_eq_true (by omega),yI _ (by rw [List.length_set]; omega)]
 rw [hmv] at s1
 have hcan:=gq (b:=b) (k:=q)
 have hcb:jE b q=(b.getD q false && (decide (q+1=b.length) || !b.getD (q+1) false)):=rfl
 have hc5:decide (q+1<n)=!decide (q+1=b.length):=by
  by_cases h:q+1=b.length
  ·rw [decide_eq_false (by omega),decide_eq_true h]; rfl
  ·rw [decide_eq_true (by omega),decide_eq_false h]; rfl
 have hlo:((1:Int)<=((q+1:Nat):Int)/\((q+1:Nat):Int)<=b.length):=by omega
 clear hcan hmv eq hk hi1 hl ht
 rw [hcb]
 clear hcb
 generalize hBm:A19 tv (eL (mvB b q))=Bm at *
 generalize A19 tv (eL (b.set q false))=B1 at *
 generalize A19 tv (eL b)=B at *
 generalize ((q+1+1:Nat):Int)=q2 at *
 generalize ((q+1:Nat):Int)=q1 at *
 rw [hc5] at c2 s1
 generalize decide (q+1=b.length)=dd at *
 generalize b.getD q false=g0 at *
 generalize b.getD (q+1) false=g1 at *
 cases g0
 ·refine ⟨fun _=>⟨.int .i64 (i:Int),.int .i64 q1,.bool true,.bool true,B,?_⟩,fun h=>by simp at h⟩
  simp [de,b0,hlv,x0,x1,x2,c0,c1,i0,d0,-ai,-ac,-az,-ag,-aa,-aq]
 cases dd
 ·cases g1
  ·refine ⟨fun h=>absurd ⟨hlo,by simp⟩ h,fun _=>?_⟩
   rw [Bool.not_false] at c2 s1
   simp [de,b0,hlv,x0,x1,x2,c0,c1,c2,c3,i0,d0,i1',d1,s0,i2,s1,b1,-ai,-ac,-az,-ag,-aa,-aq]
  ·refine ⟨fun _=>⟨.int .i64 (i:Int),.int .i64 q1,.bool true,.bool true,B,?_⟩,fun h=>by simp at h⟩
   simp [de,b0,hlv,x0,x1,x2,c0,c1,c2,c3,i0,d0,i1',d1,-ai,-ac,-az,-ag,-aa,-aq]
 ·refine ⟨fun h=>absurd ⟨hlo,by simp⟩ h,fun _=>?_⟩
  rw [Bool.not_true] at c2 s1
  simp [de,b0,hlv,x0,x1,x2,c0,c1,c2,c3,i0,d0,s0,i2,s1,b1,-ai,-ac,-az,-ag,-aa,-aq]
theorem pJ:∀ {o:List Int} {b b':List Bool},jJ b o=some b'->b'.length=b.length
 | [],b,b',h=>by injection h with h; rw [h]
 | t :: r,b,b',h=>by
  unfold jJ at h
  split at h
  ·rw [pJ h,kU]
  ·cases h
theorem tZ {l:List cS} {lv:AV} (hl:SlA 2 (l.map a0) lv) (hll:l.length<=1000) (hn1:1<=n) (hn2:n<=1000):∀(c i m:Nat) (b:List Bool),i+c=l.length->c<m->b.length=n ->
  (∀b',jJ b ((l.drop i).map (·.1))=some b'->bU (evC (ax GC []) 300 de) dx m (eA lv (.int .i64 (n:Int)) (.sl 1 0 (n+2)) (.int .i64 (i:Int))) (A19 tv (eL b))=some (.exit 2 ((eA lv (.int .i64 (n:Int)) (.sl 1 0 (n+2)) (.int .i64 (l.length:Int))).set 12 (.bool false)) (A19 tv (eL b')))) /\
  (jJ b ((l.drop i).map (·.1))=none->∃v8 v9 v12 v13 A,bU (evC (ax GC []) 300 de) dx m (eA lv (.int .i64 (n:Int)) (.sl 1 0 (n+2)) (.int .i64 (i:Int))) (A19 tv (eL b))=some (.ret (r19 lv n v8 v9 v12 v13) A)):=by
 intro c
 induction c with
 | zero=>
  intro i m b hi hm hb
  obtain ⟨m,rfl⟩:∃j,m=j+1:=⟨m-1,by omega⟩
  obtain rfl:i=l.length:=by omega
  rw [List.drop_length]
  refine ⟨fun b' h=>?_,fun h=>by cases h⟩
  injection h with h
  subst h
  have hlv:=hl.len
  rw [List.length_map] at hlv
  have b2:=bj l.length l.length .i64
  rw [decide_eq_false (by omega)] at b2
  rw [aI,kJ]
  generalize A19 tv (eL b)=B at *
  simp [de,b2,hlv,-ai,-aq]
 | succ c ih=>
  intro i m b hi hm hb
  obtain ⟨m,rfl⟩:∃j,m=j+1:=⟨m-1,by omega⟩
  have hil:i<l.length:=by omega
  obtain ⟨t,ht⟩:∃t,t=l[i]:=⟨_,rfl⟩
  have ht':l[i]?=some t:=by rw [ht]; exact List.getElem?_eq_getElem hil
  obtain ⟨r1,r2⟩:=qL (tv:=tv) hl hll hn1 hn2 hb ht'
  rw [List.drop_eq_getElem_cons hil,<-ht,List.map_cons]
  unfold jJ
  by_cases hc:(1<=t.1/\t.1<=b.length)/\jE b (t.1-1).toNat=true
  ·rw [if_pos hc]
   obtain ⟨k1,k2⟩:=ih (i+1) m (mvB b (t.1-1).toNat) (by omega) (by omega) (by rw [kU]; exact hb)
   have r2:=r2 hc
   refine ⟨fun b' h=>?_,fun h=>?_⟩
   ·rw [aI,kJ,r2]
    exact k1 b' h
   ·obtain ⟨v8,v9,v12,v13,A,e⟩:=k2 h
    refine ⟨v8,v9,v12,v13,A,?_⟩
    rw [aI,kJ,r2]
    exact e
  ·rw [if_neg hc]
   refine ⟨fun b' h=>(by cases h),fun _=>?_⟩
   obtain ⟨v8,v9,v12,v13,A,e⟩:=r1 hc
   refine ⟨v8,v9,v12,v13,A,?_⟩
   rw [aI,kJ,e]
abbrev r19c (n:Nat) (v10 v14 v15:AV):List AV:=[.undef,.undef,.undef,.undef,.bool false,.int .i64 (n:Int),.sl 1 0 (n+2),.undef,.undef,.undef,v10,.undef,.undef,.undef,v14,v15]
theorem Et (hn2:n<=1000) {b:List Bool} (hb:b.length=n):∀(c i m:Nat),i+c=n->c<m ->
  ((b.drop i).any id=false->bU (evC (ax GC []) 300 kc) j6 m (nD (.int .i64 (n:Int)) (.sl 1 0 (n+2)) (.int .i64 ((i+1:Nat):Int))) (A19 tv (eL b))=some (.exit 4 ((nD (.int .i64 (n:Int)) (.sl 1 0 (n+2)) (.int .i64 ((n+1:Nat):Int))).set 14 (.bool false)) (A19 tv (eL b)))) /\
  ((b.drop i).any id=true->∃v10 v14 v15,bU (evC (ax GC []) 300 kc) j6 m (nD (.int .i64 (n:Int)) (.sl 1 0 (n+2)) (.int .i64 ((i+1:Nat):Int))) (A19 tv (eL b))=some (.ret (r19c n v10 v14 v15) (A19 tv (eL b)))):=by
 intro c
 induction c with
 | zero=>
  intro i m hi hm
  obtain ⟨m,rfl⟩:∃j,m=j+1:=⟨m-1,by omega⟩
  obtain rfl:i=n:=by omega
  have hd:b.drop i=[]:=by rw [<-hb]; exact List.drop_length
  rw [hd]
  refine ⟨fun _=>?_,fun h=>by cases h⟩
  have b2:=cT ((i+1:Nat):Int) (i:Int)
  rw [decide_eq_false (by omega)] at b2
  rw [aI,sR]
  generalize A19 tv (eL b)=B at *
  generalize ((i+1:Nat):Int)=i1 at *
  simp [kc,b2,-ai]
 | succ c ih=>
  intro i m hi hm
  obtain ⟨m,rfl⟩:∃j,m=j+1:=⟨m-1,by omega⟩
  have hin:i<b.length:=by omega
  obtain ⟨k1,k2⟩:=ih (i+1) m (by omega) (by omega)
  have b0:=cT ((i+1:Nat):Int) (n:Int)
  rw [decide_eq_true (by omega)] at b0
  have b1:=aY (i+1) (by omega)
  have i0:=cX (n:=n+2) (eT tv (eL b)) (show i+1<n+2 by omega) .i64
  have d0:=kX (eT tv (eL b)) (show i+1<(eL b).length by rw [sH]; omega)
  rw [yJ] at d0
  have eg:b.getD i false=b[i]:=by rw [List.getD_eq_getElem?_getD,List.getElem?_eq_getElem hin]; rfl
  rw [eg] at d0
  rw [List.drop_eq_getElem_cons hin,List.any_cons]
  obtain ⟨g,hg⟩:∃g,g=b[i]:=⟨_,rfl⟩
  rw [<-hg] at d0 ⊢
  generalize A19 tv (eL b)=B at *
  obtain ⟨w,hw⟩:∃w,w=((i+1+1:Nat):Int):=⟨_,rfl⟩
  rw [<-hw] at b1 k1 k2
  cases g
  ·have e:run (ax GC []) 300 [.code kc] (nD (.int .i64 (n:Int)) (.sl 1 0 (n+2)) (.int .i64 ((i+1:Nat):Int))) B=some (.normal (nD (.int .i64 (n:Int)) (.sl 1 0 (n+2)) (.int .i64 w)) B):=by
    generalize ((i+1:Nat):Int)=i1 at *
    simp [kc,b0,b1,i0,d0,-ai,-ac,-ag]
   refine ⟨fun h=>?_,fun h=>?_⟩
   ·rw [aI,sR,e]
    exact k1 (by simpa using h)
   ·obtain ⟨v10,v14,v15,h2⟩:=k2 (by simpa using h)
    refine ⟨v10,v14,v15,?_⟩
    rw [aI,sR,e]
    exact h2
  ·refine ⟨fun h=>by simp at h,fun _=>⟨.int .i64 ((i+1:Nat):Int),.bool true,.bool true,?_⟩⟩
   rw [aI,sR]
   generalize ((i+1:Nat):Int)=i1 at *
   simp [kc,b0,i0,d0,-ai,-ac,-ag]
end
def M19:aP:=fun args=>evP (ax GC []) 300 tp 4 args
theorem pO:au Try.prog GC 19 M19:=au.of_ev (E:=ax GC []) (aw aA) rfl HK sP 4 fun _ _ h=>⟨300,h⟩
theorem te {T:aR} {chv:AV} (hcv:SlA 2 (T.ch.map chA) chv) (hn1:1<=T.ch.length) (hn2:T.ch.length<=200) {rd:List Int} {rdv:AV} (hr:SlA 1 (ak rd) rdv) (hrl:rd.length=T.ch.length) {l:List cS} {lv:AV} (hl:SlA 2 (l.map a0) lv) (hll:l.length<=200) :
  M19 [an T chv,rdv,lv]=some (.bool (wK (b0 rd) (l.map (·.1)))):=by
 have bx:aX 5 (an T chv) []=some (.ptr 0 0 0,[.row 5 false [an T chv]]):=rfl
 have ct:(cellsOf (an T chv)).length=5:=rfl
 have lnc:=hcv.len
 rw [List.length_map] at lnc
 have fa:aa 0 [.row 5 false [an T chv]] (.ptr 0 0 0)=some (.ptr 0 0 0):=rfl
 have la:ac false 1 [.row 5 false [an T chv]] (.ptr 0 0 0)=some chv:=p8 (k:=5) (es:=[chv,.int .i64 T.pick,.int .i64 T.place,.int .i64 T.travel,.int .i64 T.blades]) rfl rfl
 obtain ⟨n,hn⟩:∃n,n=T.ch.length:=⟨_,rfl⟩
 rw [<-hn] at lnc hn1 hn2 hrl
 have b1:ai .add (.int .i64 (n:Int)) (.int .i64 2)=some (.int .i64 ((n+2:Nat):Int)):=by rw [a7 (by omega)]; congr 2
 have mk:bZ 1 1 (.bool false) [.row 5 false [an T chv]] (.int .i64 ((n+2:Nat):Int)) (.int .i64 ((n+2:Nat):Int))=some (.sl 1 0 (n+2),A19 (an T chv) (eF (fun j=>decide (0<=rd.getD j 0)) n 0)):=by
  simp only [bZ]
  rw [if_pos ⟨by omega,by omega,by omega,by omega,rfl,rfl,by omega⟩,Int.toNat_natCast,EK]
  unfold A19 aV
  rw [List.map_replicate]; rfl
 have lp0:=t5 (tv:=an T chv) hr hrl (by omega) lv n 0 300 (by omega) (by omega)
 have ef:=EL rd
 rw [hrl] at ef
 rw [ef,show ((0:Nat):Int)=0 from rfl] at lp0
 have hbl:(b0 rd).length=n:=by rw [ex,hrl]
 obtain ⟨k1,k2⟩:=tZ (tv:=an T chv) (n:=n) hl (by omega) hn1 (by omega) l.length 0 300 (b0 rd) (by omega) (by omega) hbl
 rw [List.drop_zero,show ((0:Nat):Int)=0 from rfl] at k1 k2
 rw [ql]
 have fz:∀A b,frz A 4 (.bool b)=.bool b:=fun A b=>bb _ _ _
 unfold M19
 cases hst:jJ (b0 rd) (l.map (·.1)) with
 | none=>
  obtain ⟨v8,v9,v12,v13,A,e⟩:=k2 hst
  clear hst k1 k2 lnc ef
  have lnc:=hcv.len
  rw [List.length_map,<-hn] at lnc
  generalize A19 (an T chv) (eF (fun j=>decide (0<=rd.getD j 0)) n 0)=B0 at *
  generalize A19 (an T chv) (eL (b0 rd))=B1 at *
  generalize an T chv=tv at *
  generalize ((n+2:Nat):Int)=n2 at *
  rw [aK _ _ rfl]
  simp [tp,bx,ct,fa,la,lnc,b1,mk,si lp0,sh e,fz,-aX,-ac,-aa,-aq,-bZ,-frz,-cellsOf,-ai]
 | some b'=>
  have e:=k1 b' hst
  have hbl':b'.length=n:=by rw [pJ hst,hbl]
  obtain ⟨j1,j2⟩:=Et (tv:=an T chv) (n:=n) (by omega) hbl' n 0 300 (by omega) (by omega)
  rw [List.drop_zero,show ((0+1:Nat):Int)=1 from rfl] at j1 j2
  clear hst k1 k2 ef
  cases ha:b'.any id with
  | false=>
   have e2:=j1 ha
   rw [show ((some b').map fun c:List Bool=>!c.any id).getD false=!b'.any id from rfl,ha,Bool.not_false]
   clear j1 j2 ha hbl'
   generalize A19 (an T chv) (eF (fun j=>decide (0<=rd.getD j 0)) n 0)=B0 at *
   generalize A19 (an T chv) (eL (b0 rd))=B1 at *
   generalize A19 (an T chv) (eL b')=B2 at *
   generalize an T chv=tv at *
   generalize ((n+2:Nat):Int)=n2 at *
   rw [aK _ _ rfl]
   simp [tp,bx,ct,fa,la,lnc,b1,mk,si lp0,sh e,Cj e2,fz,-aX,-ac,-aa,-aq,-bZ,-frz,-cellsOf,-ai]
  | true=>
   obtain ⟨v10,v14,v15,e2⟩:=j2 ha
   rw [show ((some b').map fun c:List Bool=>!c.any id).getD false=!b'.any id from rfl,ha,Bool.not_true]
   clear j1 j2 ha hbl'
   generalize A19 (an T chv) (eF (fun j=>decide (0<=rd.getD j 0)) n 0)=B0 at *
   generalize A19 (an T chv) (eL (b0 rd))=B1 at *
   generalize A19 (an T chv) (eL b')=B2 at *
   generalize an T chv=tv at *
   generalize ((n+2:Nat):Int)=n2 at *
   rw [aK _ _ rfl]
   simp [tp,bx,ct,fa,la,lnc,b1,mk,si lp0,sh e,Cj e2,fz,-aX,-ac,-aa,-aq,-bZ,-frz,-cellsOf,-ai]
end Tr
end Go.Proofs.Ytkcjhljbgjpklaa
