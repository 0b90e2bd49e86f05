import Derived.Test.YtkcjhljbgjpklaaUG07
import Derived.Test.YtkcjhljbgjpklaaChecked
import Derived.KernelRfl
import Derived.Test.YtkcjhljbgjpklaaUG06
import Derived.Test.YtkcjhljbgjpklaaUG03
set_option maxRecDepth 100000
set_option maxHeartbeats 4000000
noncomputable section
namespace Go.Proofs.Ytkcjhljbgjpklaa
namespace Tr
open Go
def Mp:cA:=⟨0,20,.seq (.region [⟨some 0,.mv (.cst (.bool false)),none⟩]) (.seq (.region [⟨none,.call (.fn 26) [],none⟩,⟨some 1,.alloc 5 (.agg [.nilS,.int .i64 0,.int .i64 0,.int .i64 0,.int .i64 0]),none⟩,⟨none,.store 5 (.var 1) (.tmp 0),none⟩]) (.seq (.region [⟨none,.load true 5 (.var 1),none⟩,⟨none,.buildF 1 [.cst (.int .i64 10),.cst (.int .i64 (-1))],none⟩,⟨none,.call (.fn 14) [.tmp 0,.tmp 1,.cst (.int .i64 0),.cst (.int .i64 0)],none⟩,⟨none,.mv (.tmp 2),none⟩,⟨none,.extract (.tmp 3) 0,none⟩,⟨none,.extract (.tmp 3) 1,none⟩,⟨some 2,.mv (.tmp 4),none⟩,⟨some 3,.mv (.tmp 5),none⟩]) (.seq (.region [⟨none,.load true 5 (.var 1),none⟩,⟨none,.buildF 1 [.cst (.int .i64 10),.cst (.int .i64 40)],none⟩,⟨none,.call (.fn 14) [.tmp 0,.tmp 1,.cst (.int .i64 0),.cst (.int .i64 0)],none⟩,⟨none,.mv (.tmp 2),none⟩,⟨none,.extract (.tmp 3) 0,none⟩,⟨none,.extract (.tmp 3) 1,none⟩,⟨none,.mv (.tmp 4),none⟩,⟨some 4,.mv (.tmp 5),none⟩]) (.seq (.region [⟨none,.load true 5 (.var 1),none⟩,⟨none,.buildF 1 [.cst (.int .i64 40),.cst (.int .i64 30)],none⟩,⟨none,.call (.fn 14) [.tmp 0,.tmp 1,.cst (.int .i64 0),.cst (.int .i64 0)],none⟩,⟨none,.mv (.tmp 2),none⟩,⟨none,.extract (.tmp 3) 0,none⟩,⟨none,.extract (.tmp 3) 1,none⟩,⟨some 5,.mv (.tmp 4),none⟩,⟨some 6,.mv (.tmp 5),none⟩]) (.seq (.region [⟨none,.load true 5 (.var 1),none⟩,⟨none,.buildF 1 [.cst (.int .i64 10),.cst (.int .i64 40)],none⟩,⟨none,.call (.fn 14) [.tmp 0,.tmp 1,.cst (.int .i64 0),.cst (.int .i64 2)],none⟩,⟨none,.mv (.tmp 2),none⟩,⟨none,.extract (.tmp 3) 0,none⟩,⟨none,.extract (.tmp 3) 1,none⟩,⟨some 7,.mv (.tmp 4),none⟩,⟨some 8,.mv (.tmp 5),none⟩]) (.seq (.region [⟨none,.load true 5 (.var 1),none⟩,⟨none,.buildF 1 [.cst (.int .i64 40),.cst (.int .i64 30)],none⟩,⟨none,.mv (.var 5),none⟩,⟨none,.call (.fn 17) [.tmp 0,.tmp 1,.cst (.int .i64 0),.tmp 2],none⟩,⟨none,.mv (.tmp 3),none⟩,⟨none,.extract (.tmp 4) 0,none⟩,⟨none,.extract (.tmp 4) 1,none⟩,⟨some 9,.mv (.tmp 5),none⟩,⟨some 10,.mv (.tmp 6),none⟩]) (.seq (.region [⟨none,.load true 5 (.var 1),none⟩,⟨none,.buildF 1 [.cst (.int .i64 40),.cst (.int .i64 30)],none⟩,⟨none,.build [.int .i64 0,.int .i64 0] [(0,(1,.cst (.int .i64 2))),(1,(1,.cst (.int .i64 30)))],none⟩,⟨none,.build [.int .i64 0,.int .i64 0] [(0,(1,.cst (.int .i64 1))),(1,(1,.cst (.int .i64 35)))],none⟩,⟨none,.buildF 2 [.tmp 2,.tmp 3],none⟩,⟨none,.call (.fn 17) [.tmp 0,.tmp 1,.cst (.int .i64 0),.tmp 4],none⟩,⟨none,.mv (.tmp 5),none⟩,⟨none,.extract (.tmp 6) 0,none⟩,⟨none,.extract (.tmp 6) 1,none⟩,⟨none,.mv (.tmp 7),none⟩,⟨some 11,.mv (.tmp 8),none⟩]) (.seq (.region [⟨none,.load true 5 (.var 1),none⟩,⟨none,.call (.fn 23) [.tmp 0],none⟩,⟨none,.mv (.tmp 1),none⟩,⟨none,.extract (.tmp 2) 0,none⟩,⟨none,.extract (.tmp 2) 1,none⟩,⟨some 12,.alloc 4 (.agg [.int .i64 0,.nilS,.nilS,.nilS]),none⟩,⟨none,.store 4 (.var 12) (.tmp 3),none⟩,⟨some 13,.mv (.tmp 4),none⟩]) (.seq (.region [⟨none,.load true 5 (.var 1),none⟩,⟨none,.load true 4 (.var 12),none⟩,⟨none,.call (.fn 24) [.tmp 0,.tmp 1,.cst (.int .i64 0)],none⟩,⟨none,.mv (.tmp 2),none⟩,⟨none,.extract (.tmp 3) 0,none⟩,⟨none,.extract (.tmp 3) 1,none⟩,⟨some 14,.mv (.tmp 4),none⟩,⟨some 15,.mv (.tmp 5),none⟩]) (.seq (.region [⟨none,.load true 5 (.var 1),none⟩,⟨none,.buildF 1 [.cst (.int .i64 40),.cst (.int .i64 30)],none⟩,⟨none,.load true 4 (.var 12),none⟩,⟨none,.call (.fn 25) [.tmp 0,.tmp 1,.cst (.int .i64 0),.tmp 2],none⟩,⟨none,.mv (.tmp 3),none⟩,⟨none,.extract (.tmp 4) 0,none⟩,⟨none,.extract (.tmp 4) 1,none⟩,⟨some 16,.mv (.tmp 5),none⟩,⟨some 17,.mv (.tmp 6),none⟩]) (.seq (.region [⟨none,.load true 5 (.var 1),none⟩,⟨none,.buildF 1 [.cst (.int .i64 10),.cst (.int .i64 40)],none⟩,⟨none,.load true 4 (.var 12),none⟩,⟨none,.call (.fn 25) [.tmp 0,.tmp 1,.cst (.int .i64 0),.tmp 2],none⟩,⟨none,.mv (.tmp 3),none⟩,⟨none,.extract (.tmp 4) 0,none⟩,⟨none,.extract (.tmp 4) 1,none⟩,⟨none,.mv (.tmp 5),none⟩,⟨some 18,.mv (.tmp 6),none⟩]) (.seq (.region [⟨none,.mv (.var 3),none⟩,⟨none,.mv (.tmp 0),none⟩,⟨none,.mv (.var 4),some (.tmp 1,true)⟩,⟨none,.un .not (.tmp 2),some (.tmp 1,true)⟩,⟨none,.pick (.tmp 1) (.tmp 3) (.cst (.bool false)),none⟩,⟨none,.mv (.tmp 4),none⟩,⟨none,.mv (.var 6),some (.tmp 5,true)⟩,⟨none,.pick (.tmp 5) (.tmp 6) (.cst (.bool false)),none⟩,⟨none,.mv (.tmp 7),none⟩,⟨none,.mv (.var 8),some (.tmp 8,true)⟩,⟨none,.pick (.tmp 8) (.tmp 9) (.cst (.bool false)),none⟩,⟨none,.mv (.tmp 10),none⟩,⟨none,.mv (.var 10),some (.tmp 11,true)⟩,⟨none,.pick (.tmp 11) (.tmp 12) (.cst (.bool false)),none⟩,⟨none,.mv (.tmp 13),none⟩,⟨none,.mv (.var 11),some (.tmp 14,true)⟩,⟨none,.un .not (.tmp 15),some (.tmp 14,true)⟩,⟨none,.pick (.tmp 14) (.tmp 16) (.cst (.bool false)),none⟩,⟨none,.mv (.tmp 17),none⟩,⟨none,.mv (.var 9),some (.tmp 18,true)⟩,⟨none,.bin .eql (.tmp 19) (.cst (.int .i64 78)),some (.tmp 18,true)⟩,⟨none,.pick (.tmp 18) (.tmp 20) (.cst (.bool false)),none⟩,⟨none,.mv (.tmp 21),none⟩,⟨none,.mv (.var 2),some (.tmp 22,true)⟩,⟨none,.build [.int .i64 0,.int .i64 0] [(0,(1,.cst (.int .i64 1))),(1,(1,.cst (.int .i64 10)))],some (.tmp 22,true)⟩,⟨none,.build [.int .i64 0,.int .i64 0] [(0,(1,.cst (.int .i64 2))),(1,(1,.cst (.int .i64 44)))],some (.tmp 22,true)⟩,⟨none,.buildF 2 [.tmp 24,.tmp 25],some (.tmp 22,true)⟩,⟨none,.call (.fn 16) [.tmp 23,.tmp 26],some (.tmp 22,true)⟩,⟨none,.pick (.tmp 22) (.tmp 27) (.cst (.bool false)),none⟩,⟨none,.mv (.tmp 28),none⟩,⟨none,.mv (.var 5),some (.tmp 29,true)⟩,⟨none,.lenSl (.tmp 30),some (.tmp 29,true)⟩,⟨none,.bin .eql (.tmp 31) (.cst (.int .i64 3)),some (.tmp 29,true)⟩,⟨none,.pick (.tmp 29) (.tmp 32) (.cst (.bool false)),none⟩,⟨none,.mv (.tmp 33),none⟩,⟨none,.mv (.var 7),some (.tmp 34,true)⟩,⟨none,.build [.int .i64 0,.int .i64 0] [(0,(1,.cst (.int .i64 1))),(1,(1,.cst (.int .i64 10)))],some (.tmp 34,true)⟩,⟨none,.buildF 2 [.tmp 36],some (.tmp 34,true)⟩,⟨none,.call (.fn 16) [.tmp 35,.tmp 37],some (.tmp 34,true)⟩,⟨none,.pick (.tmp 34) (.tmp 38) (.cst (.bool false)),none⟩,⟨some 19,.mv (.tmp 39),none⟩]) (.seq (.region [⟨none,.mv (.var 19),none⟩,⟨none,.mv (.tmp 0),none⟩,⟨none,.mv (.var 13),some (.tmp 1,true)⟩,⟨none,.bin .eql (.tmp 2) (.cst (.int .i64 0)),some (.tmp 1,true)⟩,⟨none,.pick (.tmp 1) (.tmp 3) (.cst (.bool false)),none⟩,⟨none,.mv (.tmp 4),none⟩,⟨none,.mv (.var 15),some (.tmp 5,true)⟩,⟨none,.bin .eql (.tmp 6) (.cst (.int .i64 0)),some (.tmp 5,true)⟩,⟨none,.pick (.tmp 5) (.tmp 7) (.cst (.bool false)),none⟩,⟨none,.mv (.tmp 8),none⟩,⟨none,.mv (.var 14),some (.tmp 9,true)⟩,⟨none,.lenSl (.tmp 10),some (.tmp 9,true)⟩,⟨none,.bin .eql (.tmp 11) (.cst (.int .i64 5)),some (.tmp 9,true)⟩,⟨none,.pick (.tmp 9) (.tmp 12) (.cst (.bool false)),none⟩,⟨none,.mv (.tmp 13),none⟩,⟨none,.mv (.var 14),some (.tmp 14,true)⟩,⟨none,.indexSl 2 (.tmp 15) (.cst (.int .i64 0)),some (.tmp 14,true)⟩,⟨none,.load true 2 (.tmp 16),some (.tmp 14,true)⟩,⟨none,.build [.int .i64 0,.int .i64 0] [(1,(1,.cst (.int .i64 2)))],some (.tmp 14,true)⟩,⟨none,.eqAgg false [(0,1),(1,1)] (.tmp 17) (.tmp 18),some (.tmp 14,true)⟩,⟨none,.pick (.tmp 14) (.tmp 19) (.cst (.bool false)),none⟩,⟨none,.mv (.tmp 20),none⟩,⟨none,.mv (.var 17),some (.tmp 21,true)⟩,⟨none,.bin .eql (.tmp 22) (.cst (.int .i64 0)),some (.tmp 21,true)⟩,⟨none,.pick (.tmp 21) (.tmp 23) (.cst (.bool false)),none⟩,⟨none,.mv (.tmp 24),none⟩,⟨none,.mv (.var 16),some (.tmp 25,true)⟩,⟨none,.lenSl (.tmp 26),some (.tmp 25,true)⟩,⟨none,.bin .eql (.tmp 27) (.cst (.int .i64 8)),some (.tmp 25,true)⟩,⟨none,.pick (.tmp 25) (.tmp 28) (.cst (.bool false)),none⟩,⟨none,.mv (.tmp 29),none⟩,⟨none,.mv (.var 18),some (.tmp 30,true)⟩,⟨none,.bin .eql (.tmp 31) (.cst (.int .i64 140)),some (.tmp 30,true)⟩,⟨none,.pick (.tmp 30) (.tmp 32) (.cst (.bool false)),none⟩,⟨some 0,.mv (.tmp 33),none⟩]) .ret))))))))))))),[.tmp 0]⟩
theorem Hu:aE Try.prog Try.f11 0 [0,1,2,3,5,6,7,8,9,10,11,13,14,15,16,17,18,19,21,22] [] true ([],[])=some Mp:=by kernel_rfl
theorem at11:Try.prog.funcs[11]?=some Try.f11:=by kernel_rfl
def Ji:cA:=⟨1,6,.seq (.region [⟨some 1,.box (.var 0),none⟩,⟨some 2,.alloc 5 (.agg [.nilS,.int .i64 0,.int .i64 0,.int .i64 0,.int .i64 0]),none⟩,⟨some 3,.mv (.cst .nilS),none⟩,⟨some 4,.mv (.cst (.int .i64 0)),none⟩]) (.seq (.region [⟨none,.fieldAddr 0 (.var 1),none⟩,⟨none,.load false 1 (.tmp 0),none⟩,⟨none,.fieldAddr 1 (.var 1),none⟩,⟨none,.load true 3 (.tmp 2),none⟩,⟨none,.call (.fn 27) [.tmp 1,.tmp 3],none⟩,⟨some 5,.alloc 5 (.agg [.nilS,.int .i64 0,.int .i64 0,.int .i64 0,.int .i64 0]),none⟩,⟨none,.store 5 (.var 5) (.tmp 4),none⟩]) (.seq (.region [⟨none,.load true 5 (.var 5),none⟩,⟨none,.load true 5 (.var 5),none⟩,⟨none,.fieldAddr 4 (.var 1),none⟩,⟨none,.load false 1 (.tmp 2),none⟩,⟨none,.call (.fn 28) [.tmp 1,.tmp 3],none⟩,⟨none,.fieldAddr 5 (.var 1),none⟩,⟨none,.load false 1 (.tmp 5),none⟩,⟨none,.call (.fn 21) [.tmp 6,.cst (.int .i64 60)],none⟩,⟨none,.store 5 (.var 2) (.tmp 0),none⟩,⟨some 3,.mv (.tmp 4),none⟩,⟨some 4,.mv (.tmp 7),none⟩]) .ret)),[.cell 2 true 5,.tmp 3,.tmp 4]⟩
theorem Hs:aE Try.prog Try.f13 1 [0,1,2,3,4,5] [28,21] true ([],[])=some Ji:=by kernel_rfl
theorem at13:Try.prog.funcs[13]?=some Try.f13:=by kernel_rfl
def i9:MC:=.seq (.seq (.region [⟨none,.mv (.var 3),none⟩,⟨none,.mv (.var 0),none⟩,⟨none,.lenSl (.tmp 1),none⟩,⟨some 5,.bin .lss (.tmp 0) (.tmp 2),none⟩]) (.cond (.var 5) .skip (.exit 0))) (.seq (.seq (.block 1 (.seq (.region [⟨none,.mv (.var 0),none⟩,⟨none,.mv (.var 3),none⟩,⟨none,.indexSl 2 (.tmp 0) (.tmp 1),none⟩,⟨none,.load true 2 (.tmp 2),none⟩,⟨none,.mv (.var 1),none⟩,⟨none,.mv (.var 3),none⟩,⟨none,.indexSl 2 (.tmp 4) (.tmp 5),none⟩,⟨none,.load true 2 (.tmp 6),none⟩,⟨some 6,.eqAgg true [(0,1),(1,1)] (.tmp 3) (.tmp 7),none⟩]) (.cond (.var 6) (.seq (.region [⟨some 2,.mv (.cst (.bool false)),none⟩]) .ret) .skip))) (.kill [2,4,5,6])) (.region [⟨none,.mv (.var 3),none⟩,⟨none,.bin .add (.tmp 0) (.cst (.int .i64 1)),none⟩,⟨some 3,.mv (.tmp 1),none⟩]))
def p7:cA:=⟨2,7,.seq (.region [⟨some 2,.mv (.cst (.bool false)),none⟩]) (.seq (.seq (.region [⟨none,.mv (.var 0),none⟩,⟨none,.lenSl (.tmp 0),none⟩,⟨none,.mv (.var 1),none⟩,⟨none,.lenSl (.tmp 2),none⟩,⟨some 4,.bin .neq (.tmp 1) (.tmp 3),none⟩]) (.cond (.var 4) (.seq (.region [⟨some 2,.mv (.cst (.bool false)),none⟩]) .ret) .skip)) (.seq (.seq (.region [⟨some 3,.mv (.cst (.int .i64 0)),none⟩]) (.seq (.block 0 (.loop [2,4,5,6] i9)) (.kill [0,1,2,3,4,5,6]))) (.seq (.region [⟨some 2,.mv (.cst (.bool true)),none⟩]) .ret))),[.tmp 2]⟩
def iB:List Nat:=[2,4,5,6]
abbrev lJ (v0 v1 v3:AV):List AV:=[v0,v1,.undef,v3,.undef,.undef,.undef]
theorem CF {v0 v1 d2 v3 d4 d5 d6:AV}:clear iB [v0,v1,d2,v3,d4,d5,d6]=lJ v0 v1 v3:=rfl
theorem Cf {E:Env} {fuel:Nat} {A:aa} {o:Out} {k:List KC} {v0 v1 d2 v3 d4 d5 d6:AV} (h:bS (evC E fuel i9) iB fuel (lJ v0 v1 v3) A=some o) :
  run E fuel (.code (.loop [2,4,5,6] i9) :: k) [v0,v1,d2,v3,d4,d5,d6] A=after E fuel k o:=aV iB _ _ (by rw [CF]; exact h)
theorem sN:aE Try.prog Try.f16 2 [0,1,4,5,10,14,25] [] true ([[2,4,5,6]],[[2,4,5,6],[0,1,2,3,4,5,6]])=some p7:=by kernel_rfl
theorem HE:Try.prog.funcs[16]?=some Try.f16:=by kernel_rfl
def E9:cA:=⟨2,4,.seq (.region [⟨some 2,.mv (.cst (.int .i64 0)),none⟩]) (.seq (.seq (.region [⟨none,.mv (.var 0),none⟩,⟨some 3,.bin .lss (.tmp 0) (.cst (.int .i64 0)),none⟩]) (.cond (.var 3) (.region [⟨none,.mv (.var 0),none⟩,⟨none,.bin .add (.tmp 0) (.cst (.int .i64 1)),none⟩,⟨none,.un .neg (.tmp 1),none⟩,⟨some 0,.mv (.tmp 2),none⟩]) .skip)) (.seq (.region [⟨none,.mv (.var 0),none⟩,⟨none,.mv (.var 1),none⟩,⟨none,.bin .rem (.tmp 0) (.tmp 1),none⟩,⟨some 2,.mv (.tmp 2),none⟩]) .ret)),[.tmp 2]⟩
theorem Cr:aE Try.prog Try.f21 2 [0,1,4,6] [] true ([],[])=some E9:=by kernel_rfl
theorem M2:Try.prog.funcs[21]?=some Try.f21:=by kernel_rfl
def Aa:cA:=⟨1,3,.seq (.region [⟨some 1,.box (.var 0),none⟩,⟨some 2,.mv (.cst (.int .i64 0)),none⟩]) (.seq (.region [⟨none,.fieldAddr 1 (.var 1),none⟩,⟨none,.load false 1 (.tmp 0),none⟩,⟨none,.fieldAddr 3 (.var 1),none⟩,⟨none,.load false 1 (.tmp 2),none⟩,⟨none,.bin .add (.tmp 1) (.tmp 3),none⟩,⟨none,.fieldAddr 2 (.var 1),none⟩,⟨none,.load false 1 (.tmp 5),none⟩,⟨none,.bin .add (.tmp 4) (.tmp 6),none⟩,⟨some 2,.mv (.tmp 7),none⟩]) .ret),[.tmp 2]⟩
theorem yS:aE Try.prog Try.f22 1 [0,1,2] [] true ([],[])=some Aa:=by kernel_rfl
theorem LF:Try.prog.funcs[22]?=some Try.f22:=by kernel_rfl
def rY:cA:=⟨0,1,.seq (.region [⟨some 0,.alloc 5 (.agg [.nilS,.int .i64 0,.int .i64 0,.int .i64 0,.int .i64 0]),none⟩]) (.seq (.region [⟨none,.build [.int .i64 0,.int .i64 0] [(0,(1,.cst (.int .i64 20))),(1,(1,.cst (.int .i64 12)))],none⟩,⟨none,.build [.int .i64 0,.int .i64 0] [(0,(1,.cst (.int .i64 30))),(1,(1,.cst (.int .i64 12)))],none⟩,⟨none,.buildSlice 2 [.tmp 0,.tmp 1],none⟩,⟨none,.build [.nilS,.int .i64 0,.int .i64 0,.int .i64 0,.int .i64 0] [(0,(1,.tmp 2)),(1,(1,.cst (.int .i64 1))),(2,(1,.cst (.int .i64 1))),(3,(1,.cst (.int .i64 2))),(4,(1,.cst (.int .i64 1)))],none⟩,⟨none,.store 5 (.var 0) (.tmp 3),none⟩]) .ret),[.cell 0 true 5]⟩
theorem sM:aE Try.prog Try.f26 0 [0] [] true ([],[])=some rY:=by kernel_rfl
theorem HD:Try.prog.funcs[26]?=some Try.f26:=by kernel_rfl
def eg:MC:=.seq (.seq (.region [⟨none,.mv (.var 5),none⟩,⟨none,.mv (.var 0),none⟩,⟨none,.lenSl (.tmp 1),none⟩,⟨none,.minmax false (.tmp 2) [.cst (.int .i64 4)],none⟩,⟨none,.minmax true (.cst (.int .i64 1)) [.tmp 3],none⟩,⟨some 7,.bin .lss (.tmp 0) (.tmp 4),none⟩]) (.cond (.var 7) .skip (.exit 0))) (.seq (.seq (.block 1 (.seq (.region [⟨none,.build [.int .i64 0,.int .i64 0] [(0,(1,.cst (.int .i64 20))),(1,(1,.cst (.int .i64 30)))],none⟩,⟨some 6,.alloc 2 (.agg [.int .i64 0,.int .i64 0]),none⟩,⟨none,.store 2 (.var 6) (.tmp 0),none⟩]) (.seq (.seq (.region [⟨none,.mv (.var 5),none⟩,⟨none,.mv (.var 0),none⟩,⟨none,.lenSl (.tmp 1),none⟩,⟨some 8,.bin .lss (.tmp 0) (.tmp 2),none⟩]) (.cond (.var 8) (.seq (.region [⟨none,.mv (.var 0),none⟩,⟨none,.mv (.var 5),none⟩,⟨none,.indexSl 2 (.tmp 0) (.tmp 1),none⟩,⟨none,.indexArr 2 1 (.tmp 2) (.cst (.int .i64 0)),none⟩,⟨none,.load false 1 (.tmp 3),none⟩,⟨none,.call (.fn 50) [.tmp 4,.cst (.int .i64 60)],none⟩,⟨none,.fieldAddr 0 (.var 6),none⟩,⟨none,.store 1 (.tmp 6) (.tmp 5),none⟩]) (.seq (.region [⟨none,.mv (.var 0),none⟩,⟨none,.mv (.var 5),none⟩,⟨none,.indexSl 2 (.tmp 0) (.tmp 1),none⟩,⟨none,.indexArr 2 1 (.tmp 2) (.cst (.int .i64 1)),none⟩,⟨none,.load false 1 (.tmp 3),none⟩,⟨none,.call (.fn 50) [.tmp 4,.cst (.int .i64 50)],none⟩,⟨none,.fieldAddr 1 (.var 6),none⟩,⟨none,.store 1 (.tmp 6) (.tmp 5),none⟩]) (.seq (.region [⟨none,.mv (.var 0),none⟩,⟨none,.mv (.var 5),none⟩,⟨none,.indexSl 2 (.tmp 0) (.tmp 1),none⟩,⟨none,.indexArr 2 1 (.tmp 2) (.cst (.int .i64 1)),none⟩,⟨none,.load false 1 (.tmp 3),none⟩,⟨none,.bin .quo (.tmp 4) (.cst (.int .i64 50)),none⟩,⟨none,.call (.fn 50) [.tmp 5,.cst (.int .i64 3)],none⟩,⟨some 9,.bin .eql (.tmp 6) (.cst (.int .i64 0)),none⟩]) (.cond (.var 9) (.region [⟨none,.fieldAddr 1 (.var 6),none⟩,⟨none,.load false 1 (.tmp 0),none⟩,⟨none,.bin .add (.tmp 1) (.cst (.int .i64 200)),none⟩,⟨none,.fieldAddr 1 (.var 6),none⟩,⟨none,.store 1 (.tmp 3) (.tmp 2),none⟩]) .skip)))) .skip)) (.region [⟨none,.fieldAddr 0 (.var 4),none⟩,⟨none,.load false 1 (.tmp 0),none⟩,⟨none,.load true 2 (.var 6),none⟩,⟨none,.buildF 2 [.tmp 2],none⟩,⟨none,.append 2 16 (.tmp 1) (.tmp 3),none⟩,⟨none,.fieldAddr 0 (.var 4),none⟩,⟨none,.store 1 (.tmp 5) (.tmp 4),none⟩])))) (.kill [1,2,6,7,8,9])) (.region [⟨none,.mv (.var 5),none⟩,⟨none,.bin .add (.tmp 0) (.cst (.int .i64 1)),none⟩,⟨some 5,.mv (.tmp 1),none⟩]))
def AN:cA:=⟨2,10,.seq (.region [⟨some 2,.box (.var 1),none⟩,⟨some 3,.alloc 5 (.agg [.nilS,.int .i64 0,.int .i64 0,.int .i64 0,.int .i64 0]),none⟩]) (.seq (.regionD [50] [⟨none,.indexArr 3 1 (.var 2) (.cst (.int .i64 0)),none⟩,⟨none,.load false 1 (.tmp 0),none⟩,⟨none,.call (.fn 50) [.tmp 1,.cst (.int .i64 4)],none⟩,⟨none,.indexArr 3 1 (.var 2) (.cst (.int .i64 1)),none⟩,⟨none,.load false 1 (.tmp 3),none⟩,⟨none,.call (.fn 50) [.tmp 4,.cst (.int .i64 4)],none⟩,⟨none,.indexArr 3 1 (.var 2) (.cst (.int .i64 2)),none⟩,⟨none,.load false 1 (.tmp 6),none⟩,⟨none,.call (.fn 50) [.tmp 7,.cst (.int .i64 5)],none⟩,⟨none,.build [.nilS,.int .i64 0,.int .i64 0,.int .i64 0,.int .i64 0] [(4,(1,.cst (.int .i64 1))),(1,(1,.tmp 2)),(2,(1,.tmp 5)),(3,(1,.tmp 8))],none⟩,⟨some 4,.alloc 5 (.agg [.nilS,.int .i64 0,.int .i64 0,.int .i64 0,.int .i64 0]),none⟩,⟨none,.store 5 (.var 4) (.tmp 9),none⟩] [(0,10),(1,10),(2,10),(3,10),(4,10),(5,10),(6,10),(7,10),(8,10)]) (.seq (.seq (.region [⟨some 5,.mv (.cst (.int .i64 0)),none⟩]) (.seq (.block 0 (.loop [1,2,6,7,8,9] eg)) (.kill [0,1,2,5,6,7,8,9]))) (.seq (.region [⟨none,.load true 5 (.var 4),none⟩,⟨none,.store 5 (.var 3) (.tmp 0),none⟩]) .ret))),[.cell 3 true 5]⟩
def mX:List Nat:=[1,2,6,7,8,9]
abbrev pL (v0 v3 v4 v5:AV):List AV:=[v0,.undef,.undef,v3,v4,v5,.undef,.undef,.undef,.undef]
theorem zc {v0 d1 d2 v3 v4 v5 d6 d7 d8 d9:AV}:clear mX [v0,d1,d2,v3,v4,v5,d6,d7,d8,d9]=pL v0 v3 v4 v5:=rfl
theorem GO {E:Env} {fuel:Nat} {A:aa} {o:Out} {k:List KC} {v0 d1 d2 v3 v4 v5 d6 d7 d8 d9:AV} (h:bS (evC E fuel eg) mX fuel (pL v0 v3 v4 v5) A=some o) :
  run E fuel (.code (.loop [1,2,6,7,8,9] eg) :: k) [v0,d1,d2,v3,v4,v5,d6,d7,d8,d9] A=after E fuel k o:=aV mX _ _ (by rw [zc]; exact h)
theorem yQ:aE Try.prog Try.f27 2 [0,1,3,4,5,6,7,23,30,52] [50] true ([[1,2,6,7,8,9]],[[1,2,6,7,8,9],[0,1,2,5,6,7,8,9]])=some AN:=by kernel_rfl
theorem LD:Try.prog.funcs[27]?=some Try.f27:=by kernel_rfl
def kc:MC:=.seq (.seq (.region [⟨none,.mv (.var 5),none⟩,⟨none,.mv (.var 4),none⟩,⟨none,.lenSl (.tmp 1),none⟩,⟨some 6,.bin .lss (.tmp 0) (.tmp 2),none⟩]) (.cond (.var 6) .skip (.exit 0))) (.seq (.seq (.block 1 (.seq (.region [⟨none,.mv (.var 4),none⟩,⟨none,.mv (.var 5),none⟩,⟨none,.indexSl 1 (.tmp 0) (.tmp 1),none⟩,⟨none,.store 1 (.tmp 2) (.cst (.int .i64 (-1))),none⟩]) (.seq (.region [⟨none,.mv (.var 5),none⟩,⟨none,.mv (.var 1),none⟩,⟨none,.lenSl (.tmp 1),none⟩,⟨none,.bin .lss (.tmp 0) (.tmp 2),none⟩,⟨none,.mv (.tmp 3),none⟩,⟨none,.mv (.var 1),some (.tmp 4,true)⟩,⟨none,.mv (.var 5),some (.tmp 4,true)⟩,⟨none,.indexSl 1 (.tmp 5) (.tmp 6),some (.tmp 4,true)⟩,⟨none,.load false 1 (.tmp 7),some (.tmp 4,true)⟩,⟨none,.call (.fn 50) [.tmp 8,.cst (.int .i64 4)],some (.tmp 4,true)⟩,⟨none,.bin .gtr (.tmp 9) (.cst (.int .i64 0)),some (.tmp 4,true)⟩,⟨some 7,.pick (.tmp 4) (.tmp 10) (.cst (.bool false)),none⟩]) (.cond (.var 7) (.region [⟨none,.mv (.var 4),none⟩,⟨none,.mv (.var 5),none⟩,⟨none,.mv (.var 1),none⟩,⟨none,.mv (.var 5),none⟩,⟨none,.indexSl 1 (.tmp 2) (.tmp 3),none⟩,⟨none,.load false 1 (.tmp 4),none⟩,⟨none,.bin .quo (.tmp 5) (.cst (.int .i64 4)),none⟩,⟨none,.call (.fn 50) [.tmp 6,.cst (.int .i64 120)],none⟩,⟨none,.indexSl 1 (.tmp 0) (.tmp 1),none⟩,⟨none,.store 1 (.tmp 8) (.tmp 7),none⟩]) .skip)))) (.kill [0,2,3,6,7])) (.region [⟨none,.mv (.var 5),none⟩,⟨none,.bin .add (.tmp 0) (.cst (.int .i64 1)),none⟩,⟨some 5,.mv (.tmp 1),none⟩]))
def Jh:cA:=⟨2,8,.seq (.region [⟨some 2,.box (.var 0),none⟩,⟨some 3,.mv (.cst .nilS),none⟩]) (.seq (.region [⟨none,.fieldAddr 0 (.var 2),none⟩,⟨none,.load false 1 (.tmp 0),none⟩,⟨none,.lenSl (.tmp 1),none⟩,⟨none,.makeSlice 1 8 (.int .i64 0) (.tmp 2) (.tmp 2),none⟩,⟨some 4,.mv (.tmp 3),none⟩]) (.seq (.seq (.region [⟨some 5,.mv (.cst (.int .i64 0)),none⟩]) (.seq (.block 0 (.loop [0,2,3,6,7] kc)) (.kill [0,1,2,3,5,6,7]))) (.seq (.region [⟨none,.mv (.var 4),none⟩,⟨some 3,.mv (.tmp 0),none⟩]) .ret))),[.tmp 3]⟩
def mW:List Nat:=[0,2,3,6,7]
abbrev pK (v1 v4 v5:AV):List AV:=[.undef,v1,.undef,.undef,v4,v5,.undef,.undef]
theorem y8 {d0 v1 d2 d3 v4 v5 d6 d7:AV}:clear mW [d0,v1,d2,d3,v4,v5,d6,d7]=pK v1 v4 v5:=rfl
theorem GN {E:Env} {fuel:Nat} {A:aa} {o:Out} {k:List KC} {d0 v1 d2 d3 v4 v5 d6 d7:AV} (h:bS (evC E fuel kc) mW fuel (pK v1 v4 v5) A=some o) :
  run E fuel (.code (.loop [0,2,3,6,7] kc) :: k) [d0,v1,d2,d3,v4,v5,d6,d7] A=after E fuel k o:=aV mW _ _ (by rw [y8]; exact h)
theorem Hp:aE Try.prog Try.f28 2 [0,1,2,4,5,6,14,31] [] true ([[0,2,3,6,7]],[[0,2,3,6,7],[0,1,2,3,5,6,7]])=some Jh:=by kernel_rfl
theorem at28:Try.prog.funcs[28]?=some Try.f28:=by kernel_rfl
def Ee:cA:=⟨2,4,.seq (.region [⟨some 2,.mv (.cst (.int .i64 0)),none⟩]) (.seq (.seq (.region [⟨none,.mv (.var 0),none⟩,⟨some 3,.bin .lss (.tmp 0) (.cst (.int .i64 0)),none⟩]) (.cond (.var 3) (.region [⟨none,.mv (.var 0),none⟩,⟨none,.bin .add (.tmp 0) (.cst (.int .i64 1)),none⟩,⟨none,.un .neg (.tmp 1),none⟩,⟨some 0,.mv (.tmp 2),none⟩]) .skip)) (.seq (.region [⟨none,.mv (.var 0),none⟩,⟨none,.mv (.var 1),none⟩,⟨none,.bin .rem (.tmp 0) (.tmp 1),none⟩,⟨some 2,.mv (.tmp 2),none⟩]) .ret)),[.tmp 2]⟩
theorem yF:aE Try.prog Try.f50 2 [0,1,4,6] [] true ([],[])=some Ee:=by kernel_rfl
theorem Ls:Try.prog.funcs[50]?=some Try.f50:=by kernel_rfl
end Tr
namespace Tr
open Go
open Cy (GC aM bc aB)
open Clu (aS aT aj chA aZ dM cn cR)
def M16:aR:=fun args=>evP (ax GC []) 300 p7 1 args
theorem lM:aq Try.prog GC 16 M16:=aq.of_ev (E:=ax GC []) (au az) rfl HE sN 1 fun _ _ h=>⟨300,h⟩
theorem qv {xs ys:List cz} {a b:AV} (ha:SlA 2 (xs.map aU) a) (hb:SlA 2 (ys.map aU) b) (hl:xs.length<=200) (hl2:ys.length<=200):M16 [a,b]=some (.bool (decide (xs=ys))):=by
 have hla:=ha.len
 have hlb:=hb.len
 rw [List.length_map] at hla hlb
 have b0:ag .neq (.int .i64 (xs.length:Int)) (.int .i64 (ys.length:Int))=some (.bool (decide (xs.length≠ys.length))):=by
  rw [cR]
  congr 2
  exact decide_eq_decide.2 (by omega)
 by_cases h0:xs.length≠ys.length
 ·rw [decide_eq_true h0] at b0
  rw [decide_eq_false (fun h=>h0 (by rw [h]))]
  unfold M16
  rw [aO _ _ rfl]
  simp [p7,hla,hlb,b0,-ag,-aw]
 have h0:xs.length=ys.length:=Classical.not_not.1 h0
 rw [decide_eq_false (by omega)] at b0
 have round:∀(A:aa) (i:Nat) (hi:i<xs.length),run (ax GC []) 300 [.code i9] (lJ a b (.int .i64 (i:Int))) A =
   if xs[i]=ys[i]'(by omega) then some (.normal (lJ a b (.int .i64 ((i+1:Nat):Int))) A) else some (.ret [a,b,.bool false,.int .i64 (i:Int),.undef,.bool true,.bool true] A):=fun A i hi=>by
  have x1:=ha.index (A:=A) (x:=aU xs[i]) (i:=i) (by simp [hi]) rfl (by omega) .i64
  have x2:=hb.index (A:=A) (x:=aU (ys[i]'(by omega))) (i:=i) (by simp [show i<ys.length by omega]) rfl (by omega) .i64
  obtain ⟨p,hp⟩:∃p,p=xs[i]:=⟨_,rfl⟩
  obtain ⟨q,hq⟩:∃q,q=ys[i]'(by omega):=⟨_,rfl⟩
  rw [<-hp] at x1 ⊢
  rw [<-hq] at x2 ⊢
  have ea:eu true [(0,1),(1,1)] (aU p) (aU q)=some (.bool (decide (p≠q))):=by
   obtain ⟨a1,a2⟩:=p
   obtain ⟨c1,c2⟩:=q
   simp only [aU,eu,kB,eqK]
   by_cases e1:a1=c1 <;> by_cases e2:a2=c2 <;> simp [e1,e2]
  have b1:=bh i xs.length .i64
  rw [decide_eq_true hi] at b1
  have b3:=aW i (by omega)
  have l1:∀z:cz,ac true 2 A (.fp (cellsOf (aU z)))=some (aU z):=fun z=>rfl
  obtain ⟨P,hP⟩:∃P,P=cellsOf (aU p):=⟨_,rfl⟩
  obtain ⟨Q,hQ⟩:∃P,P=cellsOf (aU q):=⟨_,rfl⟩
  have l2:=l1 p
  have l3:=l1 q
  rw [<-hP] at x1 l2
  rw [<-hQ] at x2 l3
  obtain ⟨i1,hi1⟩:∃i1:Nat,i1=i+1:=⟨_,rfl⟩
  rw [<-hi1] at b3 ⊢
  by_cases hd:p=q
  ·rw [decide_eq_false (by simpa using hd)] at ea
   rw [if_pos hd]
   simp [i9,hla,x1,x2,l2,l3,ea,b1,b3,-ag,-ai,-aw,-ac,-eu]
  ·rw [decide_eq_true (by simpa using hd)] at ea
   rw [if_neg hd]
   simp [i9,hla,x1,x2,l2,l3,ea,b1,-ag,-ai,-aw,-ac,-eu]
 have bE:=bh xs.length xs.length .i64
 rw [decide_eq_false (by omega)] at bE
 unfold M16
 rw [aO _ _ rfl]
 rcases cO (E:=ax GC []) (fuel:=300) (a:=i9) (mask:=iB) (fun i=>lJ a b (.int .i64 (i:Int))) (fun _=>[]) xs.length (fun i=>¬ ∀(hi:i<xs.length),xs[i]=ys[i]'(by omega))
  (oF:=fun i=>.ret [a,b,.bool false,.int .i64 (i:Int),.undef,.bool true,.bool true] []) (oE:=.exit 0 ((lJ a b (.int .i64 (xs.length:Int))).set 5 (.bool false)) [])
  (fun _=>CF) (fun _ _ _ h=>by cases h) (fun _ _ h=>by cases h)
  (fun i hi hp=>by
   rw [round [] i hi]
   exact if_pos (Classical.not_not.1 hp hi))
  (fun i hi hp=>by
   rw [round [] i hi]
   exact if_neg fun h=>hp fun _=>h)
  (by simp [i9,hla,bE,-ag,-aw]) (show xs.length<300 by omega) with ⟨i,hi,hp,hj,lp⟩ | ⟨hp,lp⟩
 ·have lp:bS (evC (ax GC []) 300 i9) iB 300 (lJ a b (.int .i64 0)) []=_:=lp
  rw [decide_eq_false (fun h=>hp (fun _=>by subst h; rfl))]
  simp [p7,hla,hlb,b0,Cf lp,-ag,-aw]
 ·have lp:bS (evC (ax GC []) 300 i9) iB 300 (lJ a b (.int .i64 0)) []=_:=lp
  rw [decide_eq_true (List.ext_getElem h0 fun i h1 h2=>Classical.not_not.1 (hp i h1) h1)]
  simp [p7,hla,hlb,b0,Cf lp,-ag,-aw]
theorem F4:Ee=Cy.Gn:=rfl
theorem xb:aq Try.prog GC 50 Cy.M12:=by
 refine aq.of_ev (E:=ax GC []) (au az) rfl Ls yF 1 ?_
 intro args r h
 unfold Cy.M12 at h
 split at h
 ·simp only [Option.ite_none_right_eq_some,Option.some.injEq] at h
  obtain ⟨⟨h1,h2⟩,rfl⟩:=h
  exact ⟨0,by rw [F4]; exact Cy.MT _ _ _ h1 h2⟩
 ·cases h
end Tr
namespace Tr
open Go
open Cy (GC aM bc aB)
open Clu (aS aT bH Chk aj chA kM fH pD t1 gI aZ bw cR aX cK)
def M22:aR:=fun args=>evP (ax GC []) 300 Aa 1 args
theorem uO:aq Try.prog GC 22 M22:=aq.of_ev (E:=ax GC []) (au az) rfl LF yS 1 fun _ _ h=>⟨300,h⟩
theorem zR {T:aS} (chv:AV) (hv:aT T):M22 [aj T chv]=some (.int .i64 (wT T)):=by
 obtain ⟨_,⟨h1,h2,h3⟩,_⟩:=hv
 have b1:ag .add (.int .i64 T.pick) (.int .i64 T.travel)=some (.int .i64 (T.pick+T.travel)):=aZ (by omega)
 have b2:ag .add (.int .i64 (T.pick+T.travel)) (.int .i64 T.place)=some (.int .i64 (wT T)):=aZ (by omega)
 unfold M22
 rw [aO _ _ rfl]
 simp [Aa,aj,b1,b2,-ag]
def M26:aR:=fun args=>evP (ax GC []) 300 rY 4 args
theorem xj:aq Try.prog GC 26 M26:=aq.of_ev (E:=ax GC []) (au az) rfl HD sM 4 fun _ _ h=>⟨300,h⟩
abbrev MY:AV:=.fs 2 [.agg [.int .i64 20,.int .i64 12],.agg [.int .i64 30,.int .i64 12]]
abbrev tA1:AV:=.agg [MY,.int .i64 1,.int .i64 1,.int .i64 2,.int .i64 1]
theorem oW:M26 []=some tA1:=by
 unfold M26
 rw [aO _ _ rfl]
 simp [rY]
def A8:List (FuncId × aG):=[(26,aD 4 M26),(14,aD 4 M14),(17,aD 4 M17),(23,aD 4 Clu.M22),(24,aD 4 M24),(25,aD 4 M25),(16,aD 4 M16)]
@[simp] theorem Le:aC A8 26=some (aD 4 M26):=rfl
@[simp] theorem Lk:aC A8 14=some (aD 4 M14):=rfl
@[simp] theorem Li:aC A8 17=some (aD 4 M17):=rfl
@[simp] theorem Lh:aC A8 23=some (aD 4 Clu.M22):=rfl
@[simp] theorem Lg:aC A8 24=some (aD 4 M24):=rfl
@[simp] theorem Lf:aC A8 25=some (aD 4 M25):=rfl
@[simp] theorem Lj:aC A8 16=some (aD 4 M16):=rfl
theorem DI:∀f M,aC A8 f=some M->an Try.prog GC f M:=af (an.of_pure xj 4) (af (an.of_pure Dg 4) (af (an.of_pure uQ 4) (af (an.of_pure Clu.uO 4) (af (an.of_pure xk 4) (af (an.of_pure BD 4) (af (an.of_pure lM 4) az))))))
def M11:aR:=fun args=>match args with
 | []=>some (.bool true)
 | _=>none
abbrev i3 (a b c:Int):AV:=.fs 1 [.int .i64 a,.int .i64 b,.int .i64 c]
abbrev i2 (a b:Int):AV:=.fs 1 [.int .i64 a,.int .i64 b]
theorem uT {e:Nat} {x:AV} {xs:List AV} {v:AV} (h:SlA e (x :: xs) v):v=.fs e (x :: xs):=by
 rcases h with ⟨_,h⟩ | h
 ·cases h
 ·exact h
theorem dm0 {T:aS} {rd:List Int} {free:Int}:dz T rd free 0=ck T rd free:=oL T rd free
theorem xp (s:bH) (A:aa) (n:Nat):frz A (n+1) (kM s)=kM s:=by
 have k:=fun o=>(bb 1 (ak o)).frz (A:=A) n
 simp [kM,frz,k,aM]
open Classical in
theorem FU:aq Try.prog GC 11 M11:=by
 refine aq.of_ev (E:=ax GC A8) (au DI) rfl at11 Hu 1 ?_
 intro args r h
 unfold M11 at h
 split at h
 rotate_left
 ·cases h
 injection h with h; subst h
 refine ⟨0,?_⟩
 have h12:SlA 2 (t1.ch.map chA) MY:=.inr rfl
 have hi:∀a b:Int,SlA 1 (ak [a,b]) (i2 a b):=fun a b=>.inr rfl
 obtain ⟨s,hs,hc,h1,h2,h3⟩:=Hz
 have sV:=gI hc
 obtain ⟨va,ma,ra⟩:=oX (free:=0) (lost:=0) h12 (hi 10 (-1)) (by decide) (by decide)
 rw [dm0,dr_a] at ma ra
 obtain ⟨vb,mb,rb⟩:=oX (free:=0) (lost:=0) h12 (hi 10 40) (by decide) (by decide)
 rw [dm0,MV] at mb rb
 obtain ⟨vc,mc,rc⟩:=oX (free:=0) (lost:=0) h12 (hi 40 30) (by decide) (by decide)
 rw [dm0,MU] at mc rc
 obtain ⟨vd,md,rd⟩:=oX (free:=0) (lost:=2) h12 (hi 10 40) (by decide) (by decide)
 rw [dr_d] at md rd
 have ea:=uT ra
 have ec:=uT rc
 have ed:=uT rd
 have ma:M14 [tA1,i2 10 (-1),.int .i64 0,.int .i64 0]=some (.tup [va,.bool true]):=ma
 have mb:M14 [tA1,i2 10 40,.int .i64 0,.int .i64 0]=some (.tup [vb,.bool false]):=mb
 have mc:M14 [tA1,i2 40 30,.int .i64 0,.int .i64 0]=some (.tup [vc,.bool true]):=mc
 have md:M14 [tA1,i2 10 40,.int .i64 0,.int .i64 2]=some (.tup [vd,.bool true]):=md
 have k1:=te h12 (by decide) (hi 40 30) (by decide) 0 rc (by decide)
 rw [show (some [((2:Int),(30:Int)),(1,40),(2,74)]).getD []=[(2,30),(1,40),(2,74)] from rfl,MW] at k1
 have k1:M17 [tA1,i2 40 30,.int .i64 0,vc]=some (.tup [.int .i64 78,.bool true]):=k1
 have k2:=te h12 (by decide) (hi 40 30) (by decide) 0 (l:=[(2,30),(1,35)]) (.inr rfl) (by decide)
 rw [ck_d] at k2
 have k2:M17 [tA1,i2 40 30,.int .i64 0,.fs 2 [.agg [.int .i64 2,.int .i64 30],.agg [.int .i64 1,.int .i64 35]]]=some (.tup [.int .i64 0,.bool false]):=k2
 have e1:=qv ra (ys:=[(1,10),(2,44)]) (.inr rfl) (by decide) (by decide)
 have e1:M16 [va,.fs 2 [.agg [.int .i64 1,.int .i64 10],.agg [.int .i64 2,.int .i64 44]]]=some (.bool true):=e1
 have e2:=qv rd (ys:=[(1,10)]) (.inr rfl) (by decide) (by decide)
 have e2:M16 [vd,.fs 2 [.agg [.int .i64 1,.int .i64 10]]]=some (.bool true):=e2
 have b1:=Clu.zR h12 (by decide)
 rw [hs] at b1
 obtain ⟨P1,hP1⟩:∃P,P=slA 1 (ak s.proof):=⟨_,rfl⟩
 obtain ⟨z1,z2⟩:=Clu.ic s.proof
 rw [<-hP1] at z1 z2
 obtain ⟨S,hS⟩:∃S,S=AV.agg [.int .i64 40,i3 0 2 1,i3 0 24 18,P1]:=⟨_,rfl⟩
 have hSs:S=kM s:=by rw [hS,hP1]; unfold kM; rw [h1,h2,h3]; rfl
 have b1:Clu.M22 [tA1]=some (.tup [S,.int .i64 0]):=by rw [hSs]; exact b1
 have fS:∀A n,frz A (n+1) S=S:=fun A n=>by rw [hSs]; exact xp s A n
 obtain ⟨r,hr,hrl⟩:=Cn hc h1 h2 h3 0 (by omega)
 obtain ⟨vl,ml,rl⟩:=CR (free:=0) h12 (by decide) sV
 rw [hr] at ml rl
 have el:=uT rl
 have ml:M24 [tA1,S,.int .i64 0]=some (.tup [vl,.int .i64 0]):=by rw [hSs]; exact ml
 have lenl:vl=.fs 2 (.agg [.int .i64 0,.int .i64 2] :: r.map aU):=el
 obtain ⟨r2,hr2,hrl2⟩:=Cn hc h1 h2 h3 78 (by omega)
 have w1:jl t1 [40,30] 0 s=some ([(2,30),(1,40),(2,74)]++(0,78+2) :: r2):=by
  unfold jl
  rw [MU,Option.bind_some,MW,Option.getD_some,hr2]; rfl
 have w2:jl t1 [10,40] 0 s=none:=by
  unfold jl
  rw [MV]; rfl
 obtain ⟨vm,mm,rm⟩:=CQ (free:=0) h12 (by decide) (hi 40 30) (by decide) sV
 rw [w1] at mm rm
 have lm:=rm.len
 rw [List.length_map] at lm
 have mm:M25 [tA1,i2 40 30,.int .i64 0,S]=some (.tup [vm,.int .i64 0]):=by rw [hSs]; exact mm
 have lm:aw vm=some (.int .i64 8):=by
  rw [lm]
  simp [hrl2]
 obtain ⟨vn,mn,_⟩:=CQ (free:=0) h12 (by decide) (hi 10 40) (by decide) sV
 rw [w2] at mn
 have mn:M25 [tA1,i2 10 40,.int .i64 0,S]=some (.tup [vn,.int .i64 140]):=by rw [hSs]; exact mn
 have lc:aw vc=some (.int .i64 3):=rc.len
 have ll:aw vl=some (.int .i64 5):=by
  rw [rl.len]; simp [hrl]
 have xl:∀A,ai 2 A vl (.int .i64 0)=some (.fp [.int .i64 0,.int .i64 2]):=fun A=>rl.index (A:=A) (i:=0) (x:=aU (0,0+2)) rfl rfl (by omega) .i64
 have fa:∀A n,frz A n va=va:=fun A n=>ra.frz n
 have fb:∀A n,frz A n vb=vb:=fun A n=>rb.frz n
 have fc:∀A n,frz A n vc=vc:=fun A n=>rc.frz n
 have fd:∀A n,frz A n vd=vd:=fun A n=>rd.frz n
 clear ea ec ed el lenl
 clear rl rm ra rb rc rd
 have ft:∀A,frz A 4 tA1=tA1:=fun A=>aX (T:=t1) (fun A n=>h12.frz (A:=A) n) A 3
 have fi:∀A a b,frz A 4 (i2 a b)=i2 a b:=fun A a b=>(hi a b).frz 4
 have fk:∀A,frz A 4 (.fs 2 [.agg [.int .i64 2,.int .i64 30],.agg [.int .i64 1,.int .i64 35]])=.fs 2 [.agg [.int .i64 2,.int .i64 30],.agg [.int .i64 1,.int .i64 35]]:=fun A=>rfl
 have fk2:∀A,frz A 4 (.fs 2 [.agg [.int .i64 1,.int .i64 10],.agg [.int .i64 2,.int .i64 44]])=.fs 2 [.agg [.int .i64 1,.int .i64 10],.agg [.int .i64 2,.int .i64 44]]:=fun A=>rfl
 have fk3:∀A,frz A 4 (.fs 2 [.agg [.int .i64 1,.int .i64 10]])=.fs 2 [.agg [.int .i64 1,.int .i64 10]]:=fun A=>rfl
 have fP1:∀A n,frz A n P1=P1:=fun A n=>by rw [hP1]; exact (bb 1 _).frz n
 have nP1:∀n,bo n P1=true:=fun n=>by rw [hP1]; exact (bb 1 _).noRef n
 have fS4:=fun A=>fS A 3
 clear hSs fS
 subst hS
 rw [aO _ _ rfl]
 simp [Mp,oW,ma,mb,mc,md,k1,k2,e1,e2,b1,fS4,ft,fi,fk,fk2,fk3,nP1,aM,ml,mm,mn,lm,lc,ll,xl,fa,fc,fd,-frz,-ai,-aw]
 rfl
end Tr
namespace Tr
open Go
open Cy (GC aM bc aB dt)
open Clu (aS aT rU aj chA aZ dM cn cR bw aX cK)
def nOf (ys:List (Int × Int)):Nat:=max 1 (min ys.length 4)
def yOf (ys:List (Int × Int)) (i:Nat):Int × Int:=ys.getD i (0,0)
def IX (z:Int):Int:=if pick (z.tdiv 50) 3=0 then pick z 50+200 else pick z 50
def chO (ys:List (Int × Int)) (i:Nat):Int × Int:=if i<ys.length then (pick (yOf ys i).1 60,IX (yOf ys i).2) else (20,30)
def mkT (ys:List (Int × Int)) (a b c:Int):aS:=⟨(List.range (nOf ys)).map (chO ys),pick a 4,pick b 4,pick c 5,1⟩
theorem zj (ys:List (Int × Int)) (i:Nat):(0<=(chO ys i).1/\(chO ys i).1<=59)/\0<=(chO ys i).2/\(chO ys i).2<=249:=by
 unfold chO IX
 have k1:=cW (yOf ys i).1 60 (by omega)
 have k2:=cW (yOf ys i).2 50 (by omega)
 split
 ·split <;> simp only <;> omega
 ·simp only; omega
theorem xJ (ys:List (Int × Int)) (a b c:Int):(mkT ys a b c).ch.length=nOf ys:=by simp [mkT]
theorem rX (ys:List (Int × Int)):1<=nOf ys/\nOf ys<=4:=by unfold nOf; omega
theorem nX (ys:List (Int × Int)) (a b c:Int):aT (mkT ys a b c)/\(mkT ys a b c).blades=1:=by
 have h1:=cW a 4 (by omega)
 have h2:=cW b 4 (by omega)
 have h3:=cW c 5 (by omega)
 have hn:=xJ ys a b c
 have hb:=rX ys
 refine ⟨⟨fun c hc=>?_,⟨⟨?_,?_⟩,⟨?_,?_⟩,?_,?_⟩,?_,?_,.inl rfl⟩,rfl⟩
 ·obtain ⟨i,_,rfl⟩:=List.mem_map.1 hc
  have:=zj ys i
  unfold rU
  omega
 all_goals first | (rw [hn]; omega) | (simp only [mkT]; omega)
def IF (A:aa) (v:AV) (xs:List (Int × Int)):Prop:=(v=.nilS/\xs=[])\/∃id gr,v=.sl id 0 xs.length/\xs≠[]/\2<id/\A[id]?=some (.row 2 gr (xs.map chA))
structure I27 (A:aa) (xs:List (Int × Int)) (p q r:Int):Prop where
 o:A[1]?=some (.row 5 false [.agg [.nilS,.int .i64 0,.int .i64 0,.int .i64 0,.int .i64 0]])
 c:∃v,A[2]?=some (.row 5 false [.agg [v,.int .i64 p,.int .i64 q,.int .i64 r,.int .i64 1]])/\IF A v xs
def gU:List (FuncId × aG):=[(50,aD 4 Cy.M12)]
@[simp] theorem Kc:aC gU 50=some (aD 4 Cy.M12):=rfl
theorem qC:∀f M,aC gU f=some M->an Try.prog GC f M:=af (an.of_pure xb 4) az
theorem gx {A:aa} {id i:Nat} {k:Nat} {es:List AV} {x:AV} (h:A[id]?=some (.row k false [.agg es])) (hx:es[i]?=some x):ac false 1 A (.ptr id 0 i)=some x:=by
 simp [ac,h,bM,hx]
theorem b27 (ys:List (Int × Int)):fu false (.int .i64 (ys.length:Int)) [.int .i64 4]=some (.int .i64 ((min ys.length 4:Nat):Int))/\fu true (.int .i64 1) [.int .i64 ((min ys.length 4:Nat):Int)]=some (.int .i64 (nOf ys:Int)):=by
 constructor
 ·have:=AI ys.length 4 .i64 .i64
  simp only [fu]
  rw [show (.int .i64 4:AV)=.int .i64 ((4:Nat):Int) from rfl,this]
 ·have:=AO 1 (min ys.length 4) .i64 .i64
  simp only [fu]
  rw [show (.int .i64 1:AV)=.int .i64 ((1:Nat):Int) from rfl,this]
  rfl
theorem xD {a b:Int} (ha:inI a) (hb:2<=b/\b<=9223372036854775807):ag .quo (.int .i64 a) (.int .i64 b)=some (.int .i64 (a.tdiv b))/\inI (a.tdiv b):=by
 have h1:(a.tdiv b).natAbs<=a.natAbs:=by rw [Int.natAbs_tdiv]; exact Nat.div_le_self _ _
 have hr:inI (a.tdiv b):=by
  unfold inI at *
  have h2:(a.tdiv b).natAbs<=a.natAbs / 2:=by
   rw [Int.natAbs_tdiv]
   exact Nat.div_le_div_left (by omega) (by omega)
  omega
 refine ⟨?_,hr⟩
 have hw:=dZ hr
 simp only [ag]
 rw [if_pos trivial,if_neg (by omega),hw]
theorem tR {A:aa} {ys:List (Int × Int)} (hys:∀y∈ys,inI y.1/\inI y.2) {yv:AV} (hy:SlA 2 (ys.map chA) yv) {xs:List (Int × Int)} {p q r:Int} (hI:I27 A xs p q r) {i:Nat} (hi:i<nOf ys) (hxl:xs.length<=100) :
  ∃B,run (ax GC gU) 300 [.code eg] (pL yv (.ptr 1 0 0) (.ptr 2 0 0) (.int .i64 (i:Int))) A=some (.normal (pL yv (.ptr 1 0 0) (.ptr 2 0 0) (.int .i64 ((i+1:Nat):Int))) B)/\I27 B (xs++[chO ys i]) p q r:=by
 obtain ⟨h1,v,h2,hv⟩:=hI
 have n1:=(List.getElem?_eq_some_iff.1 h1).1
 have n2:=(List.getElem?_eq_some_iff.1 h2).1
 have hlen:=hy.len
 rw [List.length_map] at hlen
 obtain ⟨b0,b1⟩:=b27 ys
 have b2:=bh i (nOf ys) .i64
 rw [decide_eq_true hi] at b2
 have b3:=bh i ys.length .i64
 have b4:=aW i (by have:=rX ys; omega)
 obtain ⟨N,hN⟩:∃n,n=A.length:=⟨_,rfl⟩
 have bx:a5 2 (.agg [.int .i64 0,.int .i64 0]) A=some (.ptr N 0 0,A++[.row 2 false [.agg [.int .i64 0,.int .i64 0]]]):=by rw [hN]; rfl
 have s0:∀a b c d,aA 2 (A++[.row 2 false [.agg [.int .i64 a,.int .i64 b]]]) (.ptr N 0 0) (.agg [.int .i64 c,.int .i64 d])=some (A++[.row 2 false [.agg [.int .i64 c,.int .i64 d]]]):=fun a b c d=>by rw [hN]; simp [aA,bj]
 have f0:∀a b:Int,ab 0 (A++[.row 2 false [.agg [.int .i64 a,.int .i64 b]]]) (.ptr N 0 0)=some (.ptr N 0 0):=fun a b=>by rw [hN]; simp [ab]
 have f1:∀a b:Int,ab 1 (A++[.row 2 false [.agg [.int .i64 a,.int .i64 b]]]) (.ptr N 0 0)=some (.ptr N 0 1):=fun a b=>by rw [hN]; simp [ab]
 have t0:∀a b c,aA 1 (A++[.row 2 false [.agg [.int .i64 a,.int .i64 b]]]) (.ptr N 0 0) (.int .i64 c)=some (A++[.row 2 false [.agg [.int .i64 c,.int .i64 b]]]):=fun a b c=>by rw [hN]; simp [aA,bj]
 have t1:∀a b c,aA 1 (A++[.row 2 false [.agg [.int .i64 a,.int .i64 b]]]) (.ptr N 0 1) (.int .i64 c)=some (A++[.row 2 false [.agg [.int .i64 a,.int .i64 c]]]):=fun a b c=>by rw [hN]; simp [aA,bj]
 have l1:∀a b:Int,ac false 1 (A++[.row 2 false [.agg [.int .i64 a,.int .i64 b]]]) (.ptr N 0 1)=some (.int .i64 b):=fun a b=>by rw [hN]; exact gx (es:=[.int .i64 a,.int .i64 b]) (k:=2) (by simp) rfl
 have l2:∀a b:Int,ac true 2 (A++[.row 2 false [.agg [.int .i64 a,.int .i64 b]]]) (.ptr N 0 0)=some (.agg [.int .i64 a,.int .i64 b]):=fun a b=>by rw [hN]; simp [ac]
 have c0:∀X,ab 0 (A++X) (.ptr 2 0 0)=some (.ptr 2 0 0):=fun X=>by
  have:(A++X)[2]?=some (.row 5 false [.agg [v,.int .i64 p,.int .i64 q,.int .i64 r,.int .i64 1]]):=by rw [List.getElem?_append_left n2]; exact h2
  simp [ab,this]
 have cl:∀X,ac false 1 (A++X) (.ptr 2 0 0)=some v:=fun X=>gx (es:=[v,.int .i64 p,.int .i64 q,.int .i64 r,.int .i64 1]) (k:=5) (by rw [List.getElem?_append_left n2]; exact h2) rfl
 obtain ⟨P1,P2,hch⟩:∃P1 P2,chO ys i=(P1,P2):=⟨_,_,rfl⟩
 rw [hch]
 obtain ⟨A1,hA1⟩:∃X,X=A++[Ent.row 2 false [.agg [.int .i64 P1,.int .i64 P2]]]:=⟨_,rfl⟩
 have hl1:A1.length=A.length+1:=by rw [hA1]; simp
 have hA1o:∀j,j<A.length->A1[j]?=A[j]?:=fun j hj=>by rw [hA1,List.getElem?_append_left hj]
 obtain ⟨v',A2,e1,e2,e3,e4,e5⟩:∃v' A2,aK 2 16 A1 v (.fs 2 [.agg [.int .i64 P1,.int .i64 P2]])=some (v',A2)/\IF A2 v' (xs++[(P1,P2)])/\(∀j,j<=2->A2[j]?=A[j]?)/\(∃a b,v'=.sl a 0 b/\2<a)/\2<A2.length:=by
  rcases hv with ⟨rfl,rfl⟩ | ⟨id,gr,rfl,hne,hid,hrow⟩
  ·refine ⟨.sl A1.length 0 1,A1++[.row 2 false [chA (P1,P2)]],by simp [aK,chA],.inr ⟨A1.length,false,rfl,by simp,by omega,by simp⟩,fun j hj=>?_,⟨_,_,rfl,by omega⟩,by simp; omega⟩
   rw [List.getElem?_append_left (by omega),hA1o j (by omega)]
  ·have hidl:=(List.getElem?_eq_some_iff.1 hrow).1
   have hz:xs.length≠0:=fun e=>hne (List.length_eq_zero_iff.1 e)
   have hb:(xs.length+1)*16<=140737488355328:=by omega
   have hrow1:A1[id]?=some (.row 2 gr (xs.map chA)):=by rw [hA1o id hidl]; exact hrow
   refine ⟨.sl id 0 (xs.length+1),A1.set id (.row 2 true (xs.map chA++[chA (P1,P2)])),by simp [aK,hrow1,hz,hb,chA],.inr ⟨id,true,by simp,by simp,hid,?_⟩,fun j hj=>?_,⟨_,_,rfl,hid⟩,by simp; omega⟩
   ·rw [List.getElem?_set_self (by omega),List.map_append]; rfl
   ·rw [List.getElem?_set_ne (by omega),hA1o j (by omega)]
 obtain ⟨ia,ib,rfl,hia⟩:=e4
 have c2:ab 0 A2 (.ptr 2 0 0)=some (.ptr 2 0 0):=by
  have:=e3 2 (by omega)
  rw [h2] at this
  simp [ab,this]
 have st:aA 1 A2 (.ptr 2 0 0) (.sl ia 0 ib)=some (A2.set 2 (.row 5 false [.agg [.sl ia 0 ib,.int .i64 p,.int .i64 q,.int .i64 r,.int .i64 1]])):=by
  have:=e3 2 (by omega)
  rw [h2] at this
  simp [aA,this,bj]
 refine ⟨A2.set 2 (.row 5 false [.agg [.sl ia 0 ib,.int .i64 p,.int .i64 q,.int .i64 r,.int .i64 1]]),?_,⟨by rw [List.getElem?_set_ne (by omega),e3 1 (by omega)]; exact h1,.sl ia 0 ib,by rw [List.getElem?_set_self e5],?_⟩⟩
 rotate_left
 ·rcases e2 with ⟨h,_⟩ | ⟨id,gr,e2,e6,e7,e8⟩
  ·cases h
  ·exact .inr ⟨id,gr,e2,e6,e7,by rw [List.getElem?_set_ne (by omega)]; exact e8⟩
 obtain ⟨B,hB⟩:∃X,X=A2.set 2 (.row 5 false [.agg [.sl ia 0 ib,.int .i64 p,.int .i64 q,.int .i64 r,.int .i64 1]]):=⟨_,rfl⟩
 rw [<-hB] at st ⊢
 have c1:=c0 [Ent.row 2 false [.agg [.int .i64 P1,.int .i64 P2]]]
 have cl1:=cl [Ent.row 2 false [.agg [.int .i64 P1,.int .i64 P2]]]
 have l2':=l2 P1 P2
 rw [<-hA1] at c1 cl1 l2'
 have hsl:ba 2 [.agg [.int .i64 P1,.int .i64 P2]]=some (.fs 2 [.agg [.int .i64 P1,.int .i64 P2]]):=rfl
 obtain ⟨ii,hii⟩:∃n,n=i+1:=⟨_,rfl⟩
 rw [<-hii] at b4 ⊢
 obtain ⟨nn,hnn⟩:∃n,n=nOf ys:=⟨_,rfl⟩
 rw [<-hnn] at b1 b2
 obtain ⟨mm,hmm⟩:∃n,n=min ys.length 4:=⟨_,rfl⟩
 rw [<-hmm] at b0 b1
 have A0d:∀a b,∃X,X=A++[Ent.row 2 false [.agg [.int .i64 a,.int .i64 b]]]:=fun a b=>⟨_,rfl⟩
 have u0:=s0 0 0 20 30
 obtain ⟨D0,hD0⟩:=A0d 0 0
 rw [<-hD0] at bx u0
 by_cases hc:i<ys.length
 ·rw [decide_eq_true hc] at b3
  obtain ⟨y,hye⟩:∃y,y=ys[i]:=⟨_,rfl⟩
  have hyy:yOf ys i=y:=by unfold yOf; rw [List.getD_eq_getElem?_getD,List.getElem?_eq_getElem hc,hye]; rfl
  have hyr:inI y.1/\inI y.2:=by rw [hye]; exact hys _ (List.getElem_mem hc)
  have yx:∀A,ai 2 A yv (.int .i64 (i:Int))=some (.fp [.int .i64 y.1,.int .i64 y.2]):=fun A=>by
   rw [hye]
   exact hy.index (A:=A) (x:=chA ys[i]) (by simp [hc]) rfl (by omega) .i64
  have y0:∀A,c9 2 1 A (.fp [.int .i64 y.1,.int .i64 y.2]) (.int .i64 0)=some (.fp [.int .i64 y.1,.int .i64 y.2]):=fun A=>rfl
  have y1:∀A,c9 2 1 A (.fp [.int .i64 y.1,.int .i64 y.2]) (.int .i64 1)=some (.fp [.int .i64 y.2]):=fun A=>rfl
  have z0:∀A,ac false 1 A (.fp [.int .i64 y.1,.int .i64 y.2])=some (.int .i64 y.1):=fun A=>rfl
  have z1:∀A,ac false 1 A (.fp [.int .i64 y.2])=some (.int .i64 y.2):=fun A=>rfl
  have m1:=dt hyr.1 (n:=60) (by omega)
  have m2:=dt hyr.2 (n:=50) (by omega)
  obtain ⟨q0,q1⟩:=xD hyr.2 (b:=50) (by omega)
  have m3:=dt q1 (n:=3) (by omega)
  have hcc:=hch
  unfold chO IX at hcc
  rw [if_pos hc,hyy] at hcc
  injection hcc with e1' e2'
  have r1:=cW y.2 50 (by omega)
  have b5:ag .add (.int .i64 (pick y.2 50)) (.int .i64 200)=some (.int .i64 (pick y.2 50+200)):=aZ (by omega)
  have b6:=bw (pick (y.2.tdiv 50) 3) 0
  rw [e1'] at m1
  obtain ⟨S,hS⟩:∃S,S=pick y.2 50:=⟨_,rfl⟩
  rw [<-hS] at m2 e2' b5
  have u1:=f0 20 30
  have u2:=t0 20 30 P1
  have u3:=f1 P1 30
  have u4:=t1 P1 30 S
  obtain ⟨D1,hD1⟩:=A0d 20 30
  rw [<-hD1] at u0 u1 u2
  obtain ⟨D2,hD2⟩:=A0d P1 30
  rw [<-hD2] at u2 u3 u4
  generalize y.2.tdiv 50=Q at *
  generalize pick Q 3=R at *
  by_cases hR:R=0
  ·rw [if_pos hR] at e2'
   rw [decide_eq_true hR] at b6
   rw [e2'] at b5
   have u5:=f1 P1 S
   have u6:=l1 P1 S
   have u7:=t1 P1 S P2
   rw [<-hA1] at u7
   obtain ⟨D3,hD3⟩:=A0d P1 S
   rw [<-hD3] at u4 u5 u6 u7
   simp [eg,hlen,b0,b1,b2,b3,b4,b5,b6,bx,yx,y0,y1,z0,z1,u0,u1,u2,u3,u4,u5,u6,u7,q0,m1,m2,m3,hsl,c1,cl1,l2',e1,c2,st,aM,-fu,-gZ,-ag,-ac,-aA,-ab,-ai,-aw,-ba,-a5,-frz]
  ·rw [if_neg hR] at e2'
   rw [decide_eq_false hR] at b6
   subst e2'
   rw [<-hA1] at u4
   simp [eg,hlen,b0,b1,b2,b3,b4,b6,bx,yx,y0,y1,z0,z1,u0,u1,u2,u3,u4,q0,m1,m2,m3,hsl,c1,cl1,l2',e1,c2,st,aM,-fu,-gZ,-ag,-ac,-aA,-ab,-ai,-aw,-ba,-a5,-frz]
 ·rw [decide_eq_false hc] at b3
  have hcc:=hch
  unfold chO at hcc
  rw [if_neg hc] at hcc
  injection hcc with e1' e2'
  subst e1'; subst e2'
  rw [<-hA1] at u0
  simp [eg,hlen,b0,b1,b2,b3,b4,bx,u0,hsl,c1,cl1,l2',e1,c2,st,-fu,-gZ,-ag,-ac,-aA,-ab,-ai,-aw,-ba,-a5,-frz]
theorem Gw {ys:List (Int × Int)} (hys:∀y∈ys,inI y.1/\inI y.2) {yv:AV} (hy:SlA 2 (ys.map chA) yv) {p q r:Int}:∀(c i:Nat) (A:aa) (m:Nat),i+c=nOf ys->I27 A ((List.range i).map (chO ys)) p q r->c<m ->
  ∃B,bS (evC (ax GC gU) 300 eg) mX m (pL yv (.ptr 1 0 0) (.ptr 2 0 0) (.int .i64 (i:Int))) A=some (.exit 0 ((pL yv (.ptr 1 0 0) (.ptr 2 0 0) (.int .i64 (nOf ys:Int))).set 7 (.bool false)) B)/\I27 B ((List.range (nOf ys)).map (chO ys)) p q r:=by
 have hn4:=rX ys
 intro c
 induction c with
 | zero=>
  intro i A m hi hI hm
  obtain ⟨m,rfl⟩:∃j,m=j+1:=⟨m-1,by omega⟩
  obtain rfl:i=nOf ys:=by omega
  refine ⟨A,?_,hI⟩
  have hlen:=hy.len
  rw [List.length_map] at hlen
  obtain ⟨b0,b1⟩:=b27 ys
  have b2:=bh (nOf ys) (nOf ys) .i64
  rw [decide_eq_false (by omega)] at b2
  obtain ⟨mm,hmm⟩:∃n,n=min ys.length 4:=⟨_,rfl⟩
  rw [<-hmm] at b0 b1
  rw [aI,zc]
  simp [eg,hlen,b0,b1,b2,-ag,-fu,-gZ,-aw]
 | succ c ih=>
  intro i A m hi hI hm
  obtain ⟨m,rfl⟩:∃j,m=j+1:=⟨m-1,by omega⟩
  obtain ⟨B,h1,h2⟩:=tR hys hy hI (i:=i) (by omega) (by simp; omega)
  have e:(List.range i).map (chO ys)++[chO ys i]=(List.range (i+1)).map (chO ys):=by rw [List.range_succ,List.map_append]; rfl
  rw [e] at h2
  obtain ⟨C,h3,h4⟩:=ih (i+1) B m (by omega) h2 (by omega)
  refine ⟨C,?_,h4⟩
  rw [aI,zc,h1]
  exact h3
def M27:aR:=fun args=>evP (ax GC gU) 300 AN 4 args
theorem uN:aq Try.prog GC 27 M27:=aq.of_ev (E:=ax GC gU) (au qC) rfl LD yQ 4 fun _ _ h=>⟨300,h⟩
theorem Bl {A:aa} {v:AV} {xs:List (Int × Int)} (h:IF A v xs) (k:Nat):frz A (k+3) v=slA 2 (xs.map chA):=by
 rcases h with ⟨rfl,rfl⟩ | ⟨id,gr,rfl,hne,_,hr⟩
 ·rfl
 ·have e:((xs.map chA).drop 0).take xs.length=xs.map chA:=by
   rw [List.drop_zero]
   conv=>lhs; rw [show xs.length=(xs.map chA).length by simp]
   rw [List.take_length]
  have hm:(xs.map chA).map (frz A (k+2))=xs.map chA:=by
   rw [List.map_map]
   exact List.map_congr_left fun x _=>by simp [chA,frz]
  rw [show k+3=(k+2)+1 from rfl]
  simp only [frz,hr]
  rw [e,hm]
  cases xs with
  | nil=>exact absurd rfl hne
  | cons x r=>rfl
def mkA (ys:List (Int × Int)) (a b c:Int):AV:=aj (mkT ys a b c) (slA 2 ((mkT ys a b c).ch.map chA))
theorem vV {ys:List (Int × Int)} (hys:∀y∈ys,inI y.1/\inI y.2) {yv:AV} (hy:SlA 2 (ys.map chA) yv) {a b c:Int} (ha:inI a) (hb:inI b) (hc:inI c):M27 [yv,.agg [.int .i64 a,.int .i64 b,.int .i64 c]]=some (mkA ys a b c):=by
 have m1:=dt ha (n:=4) (by omega)
 have m2:=dt hb (n:=4) (by omega)
 have m3:=dt hc (n:=5) (by omega)
 have hmk:mkA ys a b c=.agg [slA 2 (((List.range (nOf ys)).map (chO ys)).map chA),.int .i64 (pick a 4),.int .i64 (pick b 4),.int .i64 (pick c 5),.int .i64 1]:=rfl
 rw [hmk]
 obtain ⟨q1,h1⟩:∃z,z=pick a 4:=⟨_,rfl⟩
 obtain ⟨q2,h2⟩:∃z,z=pick b 4:=⟨_,rfl⟩
 obtain ⟨q3,h3⟩:∃z,z=pick c 5:=⟨_,rfl⟩
 rw [<-h1] at m1 ⊢
 rw [<-h2] at m2 ⊢
 rw [<-h3] at m3 ⊢
 obtain ⟨B,lp,⟨k1,v,k2,k3⟩⟩:=Gw hys hy (p:=q1) (q:=q2) (r:=q3) (nOf ys) 0 [.row 3 false [.agg [.int .i64 a,.int .i64 b,.int .i64 c]],.row 5 false [.agg [.nilS,.int .i64 0,.int .i64 0,.int .i64 0,.int .i64 0]],.row 5 false [.agg [.nilS,.int .i64 q1,.int .i64 q2,.int .i64 q3,.int .i64 1]]] 300 (by omega) ⟨rfl,.nilS,rfl,.inl ⟨rfl,rfl⟩⟩ (by have:=rX ys; omega)
 rw [show ((0:Nat):Int)=0 from rfl] at lp
 have e1:ac true 5 B (.ptr 2 0 0)=some (.agg [v,.int .i64 q1,.int .i64 q2,.int .i64 q3,.int .i64 1]):=by simp [ac,k2]
 have kl:=(List.getElem?_eq_some_iff.1 k1).1
 have st:aA 5 B (.ptr 1 0 0) (.agg [v,.int .i64 q1,.int .i64 q2,.int .i64 q3,.int .i64 1])=some (B.set 1 (.row 5 false [.agg [v,.int .i64 q1,.int .i64 q2,.int .i64 q3,.int .i64 1]])):=by simp [aA,k1,bj]
 have k3':IF (B.set 1 (.row 5 false [.agg [v,.int .i64 q1,.int .i64 q2,.int .i64 q3,.int .i64 1]])) v ((List.range (nOf ys)).map (chO ys)):=by
  rcases k3 with k3 | ⟨id,gr,a,b,c,d⟩
  ·exact .inl k3
  ·exact .inr ⟨id,gr,a,b,c,by rw [List.getElem?_set_ne (by omega)]; exact d⟩
 have f1:=Bl k3' 0
 have e2:ac true 5 (B.set 1 (.row 5 false [.agg [v,.int .i64 q1,.int .i64 q2,.int .i64 q3,.int .i64 1]])) (.ptr 1 0 0)=some (.agg [v,.int .i64 q1,.int .i64 q2,.int .i64 q3,.int .i64 1]):=by simp [ac,kl]
 obtain ⟨C,hC⟩:∃X,X=B.set 1 (.row 5 false [.agg [v,.int .i64 q1,.int .i64 q2,.int .i64 q3,.int .i64 1]]):=⟨_,rfl⟩
 rw [<-hC] at st e2 f1
 have F1:frz C 4 (.agg [v,.int .i64 q1,.int .i64 q2,.int .i64 q3,.int .i64 1])=.agg [slA 2 (((List.range (nOf ys)).map (chO ys)).map chA),.int .i64 q1,.int .i64 q2,.int .i64 q3,.int .i64 1]:=by
  rw [<-f1]; rfl
 rw [hC] at F1
 have k1g:B[1]=.row 5 false [.agg [.nilS,.int .i64 0,.int .i64 0,.int .i64 0,.int .i64 0]]:=by
  rw [List.getElem?_eq_getElem kl] at k1; injection k1
 unfold M27
 rw [aO _ _ rfl]
 simp [AN,c9,m1,m2,m3,aM,GO lp,k1g,k2,kl,F1,-frz,-ag]
end Tr
namespace Tr
open Go
open Cy (GC aM bc aB dt)
open Clu (aS aT aj chA aZ dM cn cR bw cG aX cK)
def rdO (xs:List Int) (i:Nat):Int:=if i<xs.length/\0<pick (xs.getD i 0) 4 then pick ((xs.getD i 0).tdiv 4) 120 else -1
def rdM (n:Nat) (xs:List Int):List Int:=(List.range n).map (rdO xs)
theorem DZ (n:Nat) (xs:List Int):(rdM n xs).length=n:=by simp [rdM]
theorem F7 (xs:List Int) (i:Nat) : -1<=rdO xs i/\rdO xs i<=119:=by
 unfold rdO
 have:=cW ((xs.getD i 0).tdiv 4) 120 (by omega)
 split <;> omega
theorem F8 {n:Nat} {xs:List Int}:∀t∈rdM n xs,-1<=t/\t<=119:=fun t ht=>by
 obtain ⟨i,_,rfl⟩:=List.mem_map.1 ht
 exact F7 xs i
def rI (f:Nat->Int) (n i:Nat):List Int:=(List.range i).map f++List.replicate (n-i) 0
theorem Gd (f:Nat->Int) {n i:Nat} (h:i<=n):(rI f n i).length=n:=by simp [rI]; omega
theorem Gc (f:Nat->Int) {n i:Nat} (h:i<n):(rI f n i).set i (f i)=rI f n (i+1):=by
 unfold rI
 rw [List.set_append_right _ _ (by simp)]
 obtain ⟨m,hm⟩:∃m,n-i=m+1:=⟨n-i-1,by omega⟩
 rw [hm,show n-(i+1)=m by omega,List.range_succ]
 simp [List.replicate_succ]
theorem D7 (f:Nat->Int) (n:Nat):rI f n n=(List.range n).map f:=by simp [rI]
theorem D6 (f:Nat->Int) (n:Nat):rI f n 0=List.replicate n 0:=by simp [rI]
def M28:aR:=fun args=>evP (ax GC gU) 300 Jh 4 args
theorem FP:aq Try.prog GC 28 M28:=aq.of_ev (E:=ax GC gU) (au qC) rfl at28 Hp 4 fun _ _ h=>⟨300,h⟩
def A28 (tv:AV) (l:List Int):aa:=[.row 5 false [tv],.row 1 false (ak l)]
theorem DU {tv:AV} {xs:List Int} {xv:AV} (hx:SlA 1 (ak xs) xv) (hxi:∀z∈xs,inI z) {n i:Nat} (hn:n<=100) (hi:i<n) :
  run (ax GC gU) 300 [.code kc] (pK xv (.sl 1 0 n) (.int .i64 (i:Int))) (A28 tv (rI (rdO xs) n i))=some (.normal (pK xv (.sl 1 0 n) (.int .i64 ((i+1:Nat):Int))) (A28 tv (rI (rdO xs) n (i+1)))):=by
 have hr:∀l,(A28 tv l)[1]?=some (.row 1 false (ak l)):=fun l=>rfl
 have hset:∀l l',(A28 tv l).set 1 (.row 1 false (ak l'))=A28 tv l':=fun l l'=>rfl
 have hl:=Gd (rdO xs) (n:=n) (i:=i) (by omega)
 have hll:=hx.len
 rw [aB] at hll
 have b0:=bh i n .i64
 rw [decide_eq_true hi] at b0
 have b1:=bh i xs.length .i64
 have b2:=aW i (by omega)
 have hS:aw (.sl 1 0 n)=some (.int .i64 (n:Int)):=rfl
 have i0:=dp (n:=n) (hr (rI (rdO xs) n i)) hi .i64
 have s0:=jO (hr (rI (rdO xs) n i)) (show i<(rI (rdO xs) n i).length by omega) (-1)
 rw [hset] at s0
 obtain ⟨L1,hL1⟩:∃L,L=(rI (rdO xs) n i).set i (-1):=⟨_,rfl⟩
 rw [<-hL1] at s0
 have hl1:L1.length=n:=by rw [hL1,List.length_set,hl]
 have i1:=dp (n:=n) (hr L1) hi .i64
 have ii:∃j,j=i+1:=⟨_,rfl⟩
 obtain ⟨j,hj⟩:=ii
 have e0:=Gc (rdO xs) hi
 rw [<-hj] at b2 e0 ⊢
 by_cases hc:i<xs.length
 ·rw [decide_eq_true hc] at b1
  obtain ⟨y,hy⟩:∃y,y=xs[i]:=⟨_,rfl⟩
  have hyg:xs.getD i 0=y:=by rw [List.getD_eq_getElem?_getD,List.getElem?_eq_getElem hc,hy]; rfl
  have hyi:inI y:=by rw [hy]; exact hxi _ (List.getElem_mem hc)
  have x1:∀A,ai 1 A xv (.int .i64 (i:Int))=some (.fp [.int .i64 y]):=fun A=>by
   rw [hy]
   exact hx.index1 (A:=A) (x:=.int .i64 xs[i]) (i:=i) (by simp [ak,hc]) rfl rfl .i64
  have l1:∀A,ac false 1 A (.fp [.int .i64 y])=some (.int .i64 y):=fun A=>rfl
  have m1:=dt hyi (n:=4) (by omega)
  obtain ⟨q0,q1⟩:=xD hyi (b:=4) (by omega)
  have m2:=dt q1 (n:=120) (by omega)
  have b3:=cG (pick y 4) 0
  have ef:rdO xs i=if 0<pick y 4 then pick (y.tdiv 4) 120 else -1:=by
   unfold rdO
   rw [hyg]
   by_cases h:0<pick y 4
   ·rw [if_pos ⟨hc,h⟩,if_pos h]
   ·rw [if_neg (fun hh=>h hh.2),if_neg h]
  generalize y.tdiv 4=Q at *
  generalize pick y 4=R at *
  generalize pick Q 120=V at *
  by_cases hR:0<R
  ·rw [if_pos hR] at ef
   rw [decide_eq_true hR] at b3
   have s1:=jO (hr L1) (show i<L1.length by omega) V
   rw [hset,hL1,List.set_set,<-hL1,<-ef,e0] at s1
   rw [ef] at s1
   generalize A28 tv (rI (rdO xs) n i)=B0 at *
   generalize A28 tv L1=B1 at *
   generalize A28 tv (rI (rdO xs) n j)=B2 at *
   simp [kc,hll,hS,b0,b1,b2,b3,i0,s0,i1,s1,x1,l1,q0,m1,m2,aM,-ag,-ac,-aA,-ai,-aw,-frz]
  ·rw [if_neg hR] at ef
   rw [decide_eq_false hR] at b3
   rw [hL1,<-ef,e0] at s0
   rw [ef] at s0
   generalize A28 tv (rI (rdO xs) n i)=B0 at *
   generalize A28 tv (rI (rdO xs) n j)=B2 at *
   simp [kc,hll,hS,b0,b1,b2,b3,i0,s0,x1,l1,m1,aM,-ag,-ac,-aA,-ai,-aw,-frz]
 ·rw [decide_eq_false hc] at b1
  have ef:rdO xs i = -1:=by unfold rdO; rw [if_neg (fun h=>hc h.1)]
  rw [hL1,<-ef,e0] at s0
  rw [ef] at s0
  generalize A28 tv (rI (rdO xs) n i)=B0 at *
  generalize A28 tv (rI (rdO xs) n j)=B2 at *
  simp [kc,hll,hS,b0,b1,b2,i0,s0,-ag,-ac,-aA,-ai,-aw,-frz]
theorem Gv {tv:AV} {xs:List Int} {xv:AV} (hx:SlA 1 (ak xs) xv) (hxi:∀z∈xs,inI z) {n:Nat} (hn:n<=100):∀(c i m:Nat),i+c=n->c<m ->
  bS (evC (ax GC gU) 300 kc) mW m (pK xv (.sl 1 0 n) (.int .i64 (i:Int))) (A28 tv (rI (rdO xs) n i))=some (.exit 0 ((pK xv (.sl 1 0 n) (.int .i64 (n:Int))).set 6 (.bool false)) (A28 tv (rI (rdO xs) n n))):=by
 intro c
 induction c with
 | zero=>
  intro i m hi hm
  obtain ⟨m,rfl⟩:∃j,m=j+1:=⟨m-1,by omega⟩
  obtain rfl:i=n:=by omega
  have b2:=bh i i .i64
  rw [decide_eq_false (by omega)] at b2
  rw [aI,y8]
  simp [kc,b2,-ag]
 | succ c ih=>
  intro i m hi hm
  obtain ⟨m,rfl⟩:∃j,m=j+1:=⟨m-1,by omega⟩
  rw [aI,y8,DU hx hxi hn (by omega)]
  exact ih (i+1) m (by omega) (by omega)
theorem H8 {T:aS} {chv:AV} (hb:SlA 2 (T.ch.map chA) chv) (hl:T.ch.length<=100) (hl1:1<=T.ch.length) {xs:List Int} {xv:AV} (hx:SlA 1 (ak xs) xv) (hxi:∀z∈xs,inI z):M28 [aj T chv,xv]=some (.fs 1 (ak (rdM T.ch.length xs))):=by
 have lp:=Gv (tv:=aj T chv) hx hxi hl T.ch.length 0 300 (by omega) (by omega)
 rw [D6,D7,show ((0:Nat):Int)=0 from rfl] at lp
 have lnc:=hb.len
 rw [List.length_map] at lnc
 have bx0:a5 5 (aj T chv) []=some (.ptr 0 0 0,[.row 5 false [aj T chv]]):=rfl
 have ct:(cellsOf (aj T chv)).length=5:=rfl
 obtain ⟨n,hn⟩:∃n,n=T.ch.length:=⟨_,rfl⟩
 rw [<-hn] at lp lnc hl hl1 ⊢
 have mk:bU 1 8 (.int .i64 0) [.row 5 false [aj T chv]] (.int .i64 (n:Int)) (.int .i64 (n:Int))=some (.sl 1 0 n,A28 (aj T chv) (List.replicate n 0)):=by
  simp [bU,A28,ak]
  omega
 have fa0:ab 0 [.row 5 false [aj T chv]] (.ptr 0 0 0)=some (.ptr 0 0 0):=rfl
 have lch:ac false 1 [.row 5 false [aj T chv]] (.ptr 0 0 0)=some chv:=by
  rcases hb with ⟨rfl,_⟩ | rfl <;> rfl
 have ff:frz (A28 (aj T chv) (rdM n xs)) 4 (.sl 1 0 n)=.fs 1 (ak (rdM n xs)):=by
  have hrow:(A28 (aj T chv) (rdM n xs))[1]?=some (.row 1 false (ak (rdM n xs))):=rfl
  have:=dJ (off:=0) (xs:=ak (rdM n xs)) hrow (by rw [List.drop_zero]; exact List.take_of_length_le (by simp [ak,rdM])) (fun k x hx=>by
   obtain ⟨c,_,rfl⟩:=List.mem_map.1 hx
   exact aM _ _ _ _) 2
  have e:(ak (rdM n xs)).length=n:=by simp [ak,rdM]
  rw [e] at this
  exact this
 rw [show (List.range n).map (rdO xs)=rdM n xs from rfl] at lp
 generalize aj T chv=tv at *
 generalize A28 tv (rdM n xs)=B1 at *
 generalize A28 tv (List.replicate n 0)=B0 at *
 unfold M28
 rw [aO _ _ rfl]
 simp [Jh,bx0,ct,fa0,lch,lnc,mk,GN lp,ff,-a5,-ab,-ac,-bU,-frz,-ag,-cellsOf,-aw]
def Fb:List (FuncId × aG):=[(27,aD 4 M27),(28,aD 4 M28),(21,aD 4 Cy.M12)]
@[simp] theorem Lc:aC Fb 27=some (aD 4 M27):=rfl
@[simp] theorem Lb:aC Fb 28=some (aD 4 M28):=rfl
@[simp] theorem Ld:aC Fb 21=some (aD 4 Cy.M12):=rfl
theorem DH:∀f M,aC Fb f=some M->an Try.prog GC f M:=af (an.of_pure uN 4) (af (an.of_pure FP 4) (af (an.of_pure Cy.BE 4) az))
def M13:aR:=fun args=>evP (ax GC Fb) 300 Ji 4 args
theorem Z7:aq Try.prog GC 13 M13:=aq.of_ev (E:=ax GC Fb) (au DH) rfl at13 Hs 4 fun _ _ h=>⟨300,h⟩
structure XC where
 ys:List (Int × Int)
 a:Int
 b:Int
 c:Int
 rd:List Int
 free:Int
structure XV (x:XC) (yv rv:AV):Prop where
 y:SlA 2 (x.ys.map chA) yv
 yi:∀y∈x.ys,inI y.1/\inI y.2
 a:inI x.a
 b:inI x.b
 c:inI x.c
 r:SlA 1 (ak x.rd) rv
 ri:∀z∈x.rd,inI z
 f:inI x.free
def XC.A (x:XC) (yv rv:AV):AV:=.agg [yv,.int .i64 x.a,.int .i64 x.b,.int .i64 x.c,rv,.int .i64 x.free]
def XC.T (x:XC):aS:=mkT x.ys x.a x.b x.c
def XC.n (x:XC):Nat:=x.T.ch.length
def XC.R (x:XC):List Int:=rdM x.n x.rd
def XC.F (x:XC):Int:=pick x.free 60
def XC.ch (x:XC):AV:=slA 2 (x.T.ch.map chA)
def XC.tv (x:XC):AV:=aj x.T x.ch
def XC.rv (x:XC):AV:=.fs 1 (ak x.R)
theorem XC.sit (x:XC):Sit x.T x.R x.F:=by
 have h:=nX x.ys x.a x.b x.c
 have k:=cW x.free 60 (by omega)
 refine ⟨h,DZ _ _,by unfold XC.F; omega,fun t ht=>?_⟩
 have:=F8 t ht
 omega
theorem XC.nb (x:XC):1<=x.n/\x.n<=4:=by
 have:=rX x.ys
 unfold XC.n XC.T
 rw [xJ]
 exact this
theorem XC.chS (x:XC):SlA 2 (x.T.ch.map chA) x.ch:=bb _ _
theorem XC.chl (x:XC):x.T.ch.length<=200:=by have:=x.nb; unfold XC.n at this; omega
theorem XC.rvS (x:XC):SlA 1 (ak x.R) x.rv:=.inr rfl
theorem XC.tfrz (x:XC) (A:aa):frz A 4 x.tv=x.tv:=aX (fun A n=>x.chS.frz (A:=A) n) A 3
theorem XC.tref (x:XC):bo 4 x.tv=true:=cK (fun n=>x.chS.noRef n) 3
theorem XC.rfrz (x:XC) (A:aa) (n:Nat):frz A n x.rv=x.rv:=x.rvS.frz n
theorem XC.rref (x:XC) (n:Nat):bo n x.rv=true:=x.rvS.noRef n
def r6 (x:XC):AV:=.tup [x.tv,x.rv,.int .i64 x.F]
theorem H9 {x:XC} {yv rv:AV} (h:XV x yv rv):M13 [x.A yv rv]=some (r6 x):=by
 have m1:=vV h.yi h.y h.a h.b h.c
 have m2:=H8 (T:=x.T) x.chS (by have:=x.nb; unfold XC.n at this; omega) (by have:=x.nb; unfold XC.n at this; omega) h.r h.ri
 have m3:=dt h.f (n:=60) (by omega)
 have m1:M27 [yv,.agg [.int .i64 x.a,.int .i64 x.b,.int .i64 x.c]]=some x.tv:=m1
 have m2:M28 [x.tv,rv]=some x.rv:=m2
 have m3:Cy.M12 [.int .i64 x.free,.int .i64 60]=some (.int .i64 x.F):=m3
 obtain ⟨A0,hA0⟩:∃A:aa,A=[.row 6 false [x.A yv rv]]:=⟨_,rfl⟩
 have hy:=pR h.y
 have hr:=pR h.r
 have f1:∀A,frz A 4 x.tv=x.tv:=x.tfrz
 have f2:∀A n,frz A n x.rv=x.rv:=x.rfrz
 have f3:∀A n,frz A n yv=yv:=fun A n=>h.y.frz n
 have f4:∀A n,frz A n rv=rv:=fun A n=>h.r.frz n
 have n1:=x.tref
 have n2:=x.rref
 have n3:∀n,bo n yv=true:=fun n=>h.y.noRef n
 have n4:∀n,bo n rv=true:=fun n=>h.r.noRef n
 have ff:∀A,frz A 4 (r6 x)=r6 x:=fun A=>by
  have q1:frz A 3 x.tv=x.tv:=aX (fun A n=>x.chS.frz (A:=A) n) A 2
  simp [r6,frz,q1,f2]
 have q1:∀A,frz A 3 x.tv=x.tv:=fun A=>aX (fun A n=>x.chS.frz (A:=A) n) A 2
 have ct:cellsOf x.tv=[x.ch,.int .i64 x.T.pick,.int .i64 x.T.place,.int .i64 x.T.travel,.int .i64 1]:=by
  have:=(nX x.ys x.a x.b x.c).2
  show [x.ch,_,_,_,.int .i64 x.T.blades]=_
  rw [show x.T.blades=1 from this]
 have et:x.tv=.agg [x.ch,.int .i64 x.T.pick,.int .i64 x.T.place,.int .i64 x.T.travel,.int .i64 1]:=by
  have:=(nX x.ys x.a x.b x.c).2
  show AV.agg [x.ch,_,_,_,.int .i64 x.T.blades]=_
  rw [show x.T.blades=1 from this]
 obtain ⟨c1,c2⟩:=pR x.chS
 have n5:∀n,bo n x.ch=true:=fun n=>x.chS.noRef n
 have le:bW (.agg [yv,.int .i64 x.a,.int .i64 x.b,.int .i64 x.c,rv,.int .i64 x.free]) 6 1 true 3=some (.agg [.int .i64 x.a,.int .i64 x.b,.int .i64 x.c]):=by
  rcases h.y with ⟨rfl,_⟩ | rfl <;> rcases h.r with ⟨rfl,_⟩ | rfl <;> rfl
 unfold r6 at ff ⊢
 generalize x.rv=RV at *
 generalize x.F=FV at *
 generalize x.tv=TV at *
 subst et
 generalize x.ch=CH at *
 generalize x.T.pick=p1 at *
 generalize x.T.place=p2 at *
 generalize x.T.travel=p3 at *
 have f5:∀A,frz A 4 (.agg [.int .i64 x.a,.int .i64 x.b,.int .i64 x.c])=.agg [.int .i64 x.a,.int .i64 x.b,.int .i64 x.c]:=fun A=>rfl
 unfold M13
 rw [aO _ _ rfl]
 unfold XC.A
 simp [Ji,le,ff,f5,f1,f3,f4,n3,n4,n5,m1,m2,m3,aM,-frz]
end Tr
namespace Tr
open Go
open Cy (GC aM bc aB dt lvM dH qS qA)
open Clu (aS aT bH Chk kI aj chA kM fH pD dY sT nJ gI)
def Me:aR:=fun args=>evF (ax GC ((14,H14 0) :: gk)) 300 kS 4 args
theorem Di:b7 Try.prog GC 14 Me:=b7.of_ev (E:=ax GC ((14,H14 0) :: gk)) (au qD) rfl Bo kE 4 fun _ _ h=>⟨300,h⟩
def fsL:List (FuncId × aG):=[(11,aD 4 M11),(13,aD 4 M13),(14,cE 4 Me),(16,aD 4 M16),(17,aD 4 M17),(21,aD 4 Cy.M12),(22,aD 4 M22),(23,aD 4 Clu.M22),(24,aD 4 M24),(25,aD 4 M25)]
@[simp] theorem MF:aC fsL 11=some (aD 4 M11):=rfl
@[simp] theorem ME:aC fsL 13=some (aD 4 M13):=rfl
@[simp] theorem MD:aC fsL 14=some (cE 4 Me):=rfl
@[simp] theorem MB:aC fsL 16=some (aD 4 M16):=rfl
@[simp] theorem MA:aC fsL 17=some (aD 4 M17):=rfl
@[simp] theorem Mz:aC fsL 21=some (aD 4 Cy.M12):=rfl
@[simp] theorem My:aC fsL 22=some (aD 4 M22):=rfl
@[simp] theorem Mx:aC fsL 23=some (aD 4 Clu.M22):=rfl
@[simp] theorem Mw:aC fsL 24=some (aD 4 M24):=rfl
@[simp] theorem Mv:aC fsL 25=some (aD 4 M25):=rfl
theorem FX:∀f M,aC fsL f=some M->an Try.prog GC f M:=af (an.of_pure FU 4) (af (an.of_pure Z7 4) (af (an.of_pureF Di 4) (af (an.of_pure lM 4) (af (an.of_pure uQ 4) (af (an.of_pure Cy.BE 4) (af (an.of_pure uO 4) (af (an.of_pure Clu.uO 4) (af (an.of_pure xk 4) (af (an.of_pure BD 4) az)))))))))
@[simp] theorem Mg:M11 []=some (.bool true):=rfl
theorem C6 {x:AV} {n:Nat} (h:TA Try.prog (n+2) 46 x):∃y:Int × Int,x=chA y/\inI y.1/\inI y.2:=by
 obtain ⟨ls,rfl,hc,hl⟩:=TA.agg (show rD Try.prog 46=true by kernel_rfl) h
 simp only [TC,Try.underlying46] at hc
 rw [show Try.prog.cellsOf 3=1 by kernel_rfl] at hc
 simp only [TCa,Try.underlying3] at hc
 obtain ⟨_,_,rfl,⟨a,rfl,ha⟩,_,_,_,rfl,⟨b,rfl,hb⟩,_,rfl⟩:=hc
 exact ⟨(a,b),rfl,ha,hb⟩
theorem Al {raw:AV} {n:Nat} (h:TA Try.prog (n+3) 27 raw):∃ys:List (Int × Int),SlA 2 (ys.map chA) raw/\(∀y∈ys,inI y.1/\inI y.2)/\ys.length<=9223372036854775807:=by
 obtain ⟨es,h1,h2,h3⟩:=TA.sl Try.underlying27 h
 rw [show Try.prog.cellsOf 46=2 by kernel_rfl] at h1
 obtain ⟨ys,rfl,hy⟩:=gh (f:=chA) (p:=fun y=>inI y.1/\inI y.2) fun x hx=>C6 (n:=n) (h3 x hx)
 exact ⟨ys,h1,hy,by simpa using h2⟩
theorem AY {x:AV} {n:Nat} (h:TA Try.prog (n+1) 25 x):∃zs:List Int,SlA 1 (ak zs) x/\zs.length<=9223372036854775807/\∀z∈zs,inI z:=
 TA.ints Try.underlying25 Try.underlying3 (by kernel_rfl) h
theorem xX {ls:List AV} {n:Nat} (h:TC Try.prog (n+1) 25 ls) (hl:ls.length=Try.prog.cellsOf 25):∃(x:AV) (zs:List Int),ls=[x]/\SlA 1 (ak zs) x/\zs.length<=9223372036854775807/\∀z∈zs,inI z:=by
 rw [show Try.prog.cellsOf 25=1 by kernel_rfl] at hl
 obtain ⟨x,rfl⟩:=List.length_eq_one_iff.1 hl
 obtain ⟨zs,h1,h2,h3⟩:=AY (n:=n) (x:=x) ⟨[x],h,by rw [show Try.prog.cellsOf 25=1 by kernel_rfl]; rfl,by
  unfold fK
  rw [if_neg (by rw [show rD Try.prog 25=false by kernel_rfl]; simp)]; rfl⟩
 exact ⟨x,zs,rfl,h1,h2,h3⟩
theorem w4 {ls:List AV} {n:Nat} (h:TC Try.prog (n+3) 27 ls) (hl:ls.length=Try.prog.cellsOf 27):∃(x:AV) (ys:List (Int × Int)),ls=[x]/\SlA 2 (ys.map chA) x/\∀y∈ys,inI y.1/\inI y.2:=by
 rw [show Try.prog.cellsOf 27=1 by kernel_rfl] at hl
 obtain ⟨x,rfl⟩:=List.length_eq_one_iff.1 hl
 obtain ⟨zs,h1,h2,h3⟩:=Al (n:=n) (raw:=x) ⟨[x],h,by rw [show Try.prog.cellsOf 27=1 by kernel_rfl]; rfl,by
  unfold fK
  rw [if_neg (by rw [show rD Try.prog 27=false by kernel_rfl]; simp)]; rfl⟩
 exact ⟨x,zs,rfl,h1,h2⟩
theorem vZ {ls:List AV} {n:Nat} (h:TC Try.prog (n+2) 28 ls):∃a b c:Int,ls=[.int .i64 a,.int .i64 b,.int .i64 c]/\inI a/\inI b/\inI c:=by
 simp only [TC,Try.underlying28] at h
 rw [show Try.prog.cellsOf 3=1 by kernel_rfl] at h
 simp only [TCa,Try.underlying3] at h
 obtain ⟨_,_,rfl,⟨a,rfl,ha⟩,_,_,_,rfl,⟨b,rfl,hb⟩,_,_,_,rfl,⟨c,rfl,hc⟩,_,rfl⟩:=h
 exact ⟨a,b,c,rfl,ha,hb,hc⟩
theorem Bm {x:AV} {n:Nat} (h:TA Try.prog (n+5) 30 x):∃X yv rv,x=XC.A X yv rv/\XV X yv rv:=by
 obtain ⟨ls,rfl,hc,hl⟩:=TA.agg (show rD Try.prog 30=true by kernel_rfl) h
 rw [show n+5=(n+4)+1 from rfl] at hc
 unfold TC at hc
 rw [Try.underlying30] at hc
 simp only [TCs] at hc
 obtain ⟨a,_,rfl,ha,la,b,_,rfl,hb,lb,c,_,rfl,hc,lc,d,_,rfl,hd,ld,rfl⟩:=hc
 obtain ⟨yv,ys,rfl,y1,y2⟩:=w4 (n:=n+1) ha la
 obtain ⟨p,q,r,rfl,p1,q1,r1⟩:=vZ (n:=n+2) hb
 obtain ⟨rv,zr,rfl,s1,s2,s3⟩:=xX (n:=n+3) hc lc
 simp only [TC,Try.underlying3] at hd
 obtain ⟨z,rfl,hz⟩:=hd
 exact ⟨⟨ys,p,q,r,zr,z⟩,yv,rv,rfl,y1,y2,p1,q1,r1,s1,s3,hz⟩
theorem ownK:ownKnob Try.prog.godebug=none:=by kernel_rfl
theorem Jq {W:World} {OK:Nat->Prop}:CZ GC W OK:=fun gl cs h=>by simp [GC] at h
def oe (os:Os):World:=World.holding Try.prog os ⟨#[],#[],[]⟩
theorem rH {T:aS} {s:bH} (h:fH T=some s):∀x∈s.starts,x<=100000000:=by
 have hc:=dY h
 obtain ⟨_,hs⟩:=sT h
 have hv:=hc.2.2.1
 have hl:=(qS hv.1).2 (qA hv)
 have h3:=(dH hv.1 hl).2.2.1
 have es:s.starts=(lvM (s.order.length:Int) (Clu.bn T s.order) s.period).1:=by
  conv=>lhs; rw [hs]
  rfl
 rw [es]
 exact h3
theorem vD {T:aS} {s:bH} (hc:Chk T s) (free:Int) {r:Nat} (hr:kF s.order T.ch.length<=r):cyc T s free r=s.order.map (tk T s free r):=by
 unfold cyc
 rw [List.filter_eq_self.2]
 intro t ht
 have:=(eP hc).2.2.2.2 t ht
 have h1:=xW s.order (i:=t.toNat) (j:=T.ch.length) (by omega)
 exact decide_eq_true (by omega)
theorem iF (T:aS) (s:bH) (free:Int) (R:Nat):cf T s free (R+1)=cf T s free R++cyc T s free R:=by
 unfold cf
 rw [List.range_succ,List.flatMap_append]
 simp
theorem uI {T:aS} {s:bH} (hv:aT T) (h:fH T=some s) {free:Int} (hf:0<=free/\free<=2000000) {r:Nat} (hr:r<=100) {t:Int} (ht:t∈s.order):(tk T s free r t).2<=1000000000:=by
 have hc:=dY h
 have h1:=rH h
 obtain ⟨c1,c2,c3,c4,c5⟩:=eP hc
 have:=c5 t ht
 have ht2:stD s t.toNat<=100000000:=by
  unfold stD
  rw [List.getD_eq_getElem?_getD,List.getElem?_eq_getElem (by omega)]
  exact h1 _ (List.getElem_mem _)
 have h0:0<=stD s 0:=by
  unfold stD
  rw [List.getD_eq_getElem?_getD,List.getElem?_eq_getElem (by omega)]
  exact (c3 _ (List.getElem_mem _)).1
 have:=hv.2.1.2.2
 have hm:(r:Int)*s.period<=100*1000000:=Int.mul_le_mul (by omega) (by omega) (by omega) (by omega)
 show bsF T s free+(r:Int)*s.period+stD s t.toNat<=_
 unfold bsF
 omega
end Tr
namespace Tr
open Go
end Tr
namespace Tr
open Go
open Cy (GC aM bc aB dt)
open Clu (aS aT bH Chk kI aj chA kM fH pD dY gI aZ bP dM cn cR bw cG)
abbrev zT:AV:=.agg [.nilS,.int .i64 0,.int .i64 0,.int .i64 0,.int .i64 0]
abbrev zSA:AV:=.agg [.int .i64 0,.nilS,.nilS,.nilS]
theorem HI {x:XC} {yv rv:AV} (h:XV x yv rv) (A:aa):frz A 4 (x.A yv rv)=x.A yv rv:=by
 have f1:=h.y.frz (A:=A) 3
 have f2:=h.r.frz (A:=A) 3
 simp [XC.A,frz,f1,f2]
theorem HH {x:XC} {yv rv:AV} (h:XV x yv rv):bo 4 (x.A yv rv)=true:=by
 have f1:=h.y.noRef 3
 have f2:=h.r.noRef 3
 simp [XC.A,bo,f1,f2]
theorem EX {x:XC} {yv rv:AV} (X:aa):ac true 6 (.row 6 false [x.A yv rv] :: X) (.ptr 0 0 0)=some (x.A yv rv):=rfl
theorem HJ {x:XC} {yv rv:AV}:a5 6 (x.A yv rv) []=some (.ptr 0 0 0,[.row 6 false [x.A yv rv]]):=rfl
def B0 (x:XC) (yv rv:AV):aa:=[.row 6 false [x.A yv rv],.row 5 false [x.tv]]
theorem I4 {x:XC} {yv rv:AV} (h:XV x yv rv):∃A0 Az,a5 6 (x.A yv rv) []=some (.ptr 0 0 0,A0)/\ac true 6 A0 (.ptr 0 0 0)=some (x.A yv rv)/\M13 [x.A yv rv]=some (r6 x)/\(∀A,frz A 4 (x.A yv rv)=x.A yv rv)/\bo 4 (x.A yv rv)=true/\(cellsOf (x.A yv rv)).length=6/\a5 5 zT A0=some (.ptr 1 0 0,Az)/\aA 5 Az (.ptr 1 0 0) x.tv=some (B0 x yv rv):=
 ⟨_,_,HJ,EX _,H9 h,HI h,HH h,rfl,rfl,rfl⟩
theorem Mh (x:XC) (yv rv:AV) (X:aa):ac true 5 (B0 x yv rv++X) (.ptr 1 0 0)=some x.tv:=rfl
end Tr
namespace Tr
open Go
end Tr
namespace Tr
open Go
open Cy (GC aM bc aB dt)
open Clu (aS aT rU bH Chk kI aj chA kM fH pD dY gI aZ bP dM cn cR bw cG cF aX cK)
def rJ {α:Type} (new old:Nat->α) (n i:Nat):List α:=(List.range n).map fun j=>if j<i then new j else old j
theorem Ga {α:Type} (new old:Nat->α) (n i:Nat):(rJ new old n i).length=n:=by simp [rJ]
theorem F9 {α:Type} (new old:Nat->α) {n i:Nat} (_h:i<n):(rJ new old n i).set i (new i)=rJ new old n (i+1):=by
 apply List.ext_getElem
 ·simp [rJ]
 intro j h1 h2
 simp only [rJ,List.getElem_set,List.getElem_map,List.getElem_range]
 by_cases e:i=j
 ·subst e; rw [if_pos rfl,if_pos (by omega)]
 ·rw [if_neg e]
  by_cases hj:j<i
  ·rw [if_pos hj,if_pos (by omega)]
  ·rw [if_neg hj,if_neg (by omega)]
theorem Gb {α:Type} (new old:Nat->α) (n:Nat):rJ new old n n=(List.range n).map new:=List.map_congr_left fun _j hj=>if_pos (List.mem_range.1 hj)
section
variable {A:aa} {id:Nat} {cs:List (Int × Int)}
theorem Ey {n:Nat} {g:Bool} {es:List AV} (h:A[id]?=some (.row 2 g es)) {k:Nat} (hk:k<n):ai 2 A (.sl id 0 n) (.int .i64 (k:Int))=some (.ptr id k 0):=by
 simp only [ai,h]
 rw [if_pos ⟨trivial,by omega,by omega,by omega⟩]
 simp
end
end Tr
namespace Tr
open Go
open Cy (GC aM bc aB dt)
open Clu (aS aT rU bH Chk kI aj chA aZ bP dM cn cR bw cG cF aX cK)
theorem m8 {A:aa} {id:Nat} {g:Bool} {l:List Int} {n:Nat} (h:A[id]?=some (.row 1 g (ak l))) (hn:n=l.length) (k:Nat):frz A (k+2) (.sl id 0 n)=.fs 1 (ak l):=by
 have:=dJ (off:=0) (xs:=ak l) h (by rw [List.drop_zero]; exact List.take_of_length_le (Nat.le_refl _)) (fun k x hx=>by
  obtain ⟨c,_,rfl⟩:=List.mem_map.1 hx
  exact aM _ _ _ _) k
 rw [hn,<-aB l]; exact this
end Tr
namespace Tr
open Go
open Cy (GC aM bc aB dt)
open Clu (aS aT rU aj chA aZ bP dM cn cR bw cG cF aX cK)
def OV (e lo:Nat) (A:aa) (v:AV) (xs:List AV):Prop:=(v=.nilS/\xs=[])\/∃id g,v=.sl id 0 xs.length/\xs≠[]/\lo<=id/\A[id]?=some (.row e g xs)
structure MI (A:aa) (T:aS) (chv:AV) (inn:List Int) (ov:AV) (out:List cz):Prop where
 t:A[0]?=some (.row 5 false [aj T chv])
 i:A[2]?=some (.row 1 false (ak inn))
 l:inn.length=T.ch.length
 o:OV 2 3 A ov (out.map aU)
 n:3<=A.length
end Tr
namespace Tr
open Go
abbrev IW (v4 v5 v8 v9 v14 v16 v17 v18 v19:AV):List AV:=[.undef,.undef,.undef,.undef,v4,v5,.undef,.undef,v8,v9,.undef,.undef,.undef,.undef,v14,.undef,v16,v17,v18,v19,.undef,.undef,.undef,.undef,.undef,.undef,.undef,.undef,.undef,.undef,.undef,.undef]
end Tr
namespace Tr
open Go
open Cy (GC aM bc aB dt)
open Clu (aS aT rU aj chA aZ bP dM cn cR bw cG cF aX cK)
section
variable {x:XC} {B:aa} {lv:AV} {l:List cz}
abbrev s5 (v4:AV) (N n:Nat) (lv:AV) (v14:AV) (s:St) (i:Nat):List AV:=IW v4 (.ptr 1 0 0) (.int .i64 (n:Int)) lv v14 (.sl (N+1) 0 n) (.int .i64 s.fin) (.int .i64 (s.last+1)) (.int .i64 (i:Int))
theorem tz {T:aS} {chv:AV} {A:aa} {id:Nat} (h:A[id]?=some (.row 5 false [aj T chv])):(∀k,k<5->ab k A (.ptr id 0 0)=some (.ptr id 0 k))/\ac false 1 A (.ptr id 0 0)=some chv/\ac false 1 A (.ptr id 0 1)=some (.int .i64 T.pick)/\ac false 1 A (.ptr id 0 2)=some (.int .i64 T.place)/\ac false 1 A (.ptr id 0 3)=some (.int .i64 T.travel):=
 ⟨fun k hk=>by simp [ab,h]; exact hk,gx (k:=5) (es:=[chv,.int .i64 T.pick,.int .i64 T.place,.int .i64 T.travel,.int .i64 T.blades]) h rfl,gx (k:=5) (es:=[chv,.int .i64 T.pick,.int .i64 T.place,.int .i64 T.travel,.int .i64 T.blades]) h rfl,gx (k:=5) (es:=[chv,.int .i64 T.pick,.int .i64 T.place,.int .i64 T.travel,.int .i64 T.blades]) h rfl,gx (k:=5) (es:=[chv,.int .i64 T.pick,.int .i64 T.place,.int .i64 T.travel,.int .i64 T.blades]) h rfl⟩
end
end Tr
end Go.Proofs.Ytkcjhljbgjpklaa
