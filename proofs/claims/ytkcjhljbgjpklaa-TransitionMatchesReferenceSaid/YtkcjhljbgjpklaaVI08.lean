import Derived.Test.YtkcjhljbgjpklaaVI07
import Derived.Test.YtkcjhljbgjpklaaChecked
import Derived.KernelRfl
import Derived.Test.YtkcjhljbgjpklaaVI06
import Derived.Test.YtkcjhljbgjpklaaVI03
set_option maxRecDepth 100000
set_option maxHeartbeats 4000000
noncomputable section
namespace Go.Proofs.Ytkcjhljbgjpklaa
variable {d6 d0 v3 d5 v1 d2 v4 d14 d7 v8 v9 v10 d12 d13 d16 d17 d20 d21 d22 v7 d15 d18 d19 d23 d24 d25 d26 d27 d28 d29 d30 d31 d32 d4 d1 d8 v11 v2 d11 chv v5 d9 d3 yv x v0 xv v12 v13 d10:AV} {E:Env} {fuel i:Nat} {o:Out} {rd:List Int} {xs ls:List AV} {b:Int} {ys:List (Int × Int)}
namespace Tr
open Go
def QP:cI:=⟨0,20,.seq (.region [.g 0]) (.seq (.region [.qn (.call (.fn 26) []),.N 1 5,.r 5 1 0]) (.seq (.region [.l 5 1,.qn (.buildF 1 [.cst (.int .i64 10),.cst (.int .i64 (-1))]),.bi 14 0 1,.h 2,.j 3 0,.j 3 1,.c 2 4,.c 3 5]) (.seq (.region [.l 5 1,.bq,.bi 14 0 1,.h 2,.j 3 0,.j 3 1,.h 4,.c 4 5]) (.seq (.region [.l 5 1,.a5,.bi 14 0 1,.h 2,.j 3 0,.j 3 1,.c 5 4,.c 6 5]) (.seq (.region [.l 5 1,.bq,.qn (.call (.fn 14) [.tmp 0,.tmp 1,.cst (.int .i64 0),.cst (.int .i64 2)]),.h 2,.j 3 0,.j 3 1,.c 7 4,.c 8 5]) (.seq (.region [.l 5 1,.a5,.a 5,.a8 17 0 1 2,.h 3,.j 4 0,.j 4 1,.c 9 5,.c 10 6]) (.seq (.region [.l 5 1,.a5,.qn (.build [.int .i64 0,.int .i64 0] [(0,(1,.cst (.int .i64 2))),(1,(1,.cst (.int .i64 30)))]),.qn (.build [.int .i64 0,.int .i64 0] [(0,(1,.cst (.int .i64 1))),(1,(1,.cst (.int .i64 35)))]),.qn (.buildF 2 [.tmp 2,.tmp 3]),.a8 17 0 1 4,.h 5,.j 6 0,.j 6 1,.h 7,.c 11 8]) (.seq (.region [.l 5 1,.J 23 0,.h 1,.j 2 0,.j 2 1,.b2 12 4,.r 4 12 3,.c 13 4]) (.seq (.region [.l 5 1,.l 4 12,.qn (.call (.fn 24) [.tmp 0,.tmp 1,.cst (.int .i64 0)]),.h 2,.j 3 0,.j 3 1,.c 14 4,.c 15 5]) (.seq (.region [.l 5 1,.a5,.l 4 12,.a8 25 0 1 2,.h 3,.j 4 0,.j 4 1,.c 16 5,.c 17 6]) (.seq (.region [.l 5 1,.bq,.l 4 12,.a8 25 0 1 2,.h 3,.j 4 0,.j 4 1,.h 5,.c 18 6]) (.seq (.region [.a 3,.h 0,.k 4 1,.a1 2 1,.p 1 3,.h 4,.k 6 5,.p 5 6,.h 7,.k 8 8,.p 8 9,.h 10,.k 10 11,.p 11 12,.h 13,.k 11 14,.a1 15 14,.p 14 16,.h 17,.k 9 18,.T 19 78 18,.p 18 20,.h 21,.k 2 22,.be 22,.qt (.build [.int .i64 0,.int .i64 0] [(0,(1,.cst (.int .i64 2))),(1,(1,.cst (.int .i64 44)))]) 22,.qt (.buildF 2 [.tmp 24,.tmp 25]) 22,.ba 16 23 26 22,.p 22 27,.h 28,.k 5 29,.aa 30 29,.T 31 3 29,.p 29 32,.h 33,.k 7 34,.be 34,.qt (.buildF 2 [.tmp 36]) 34,.ba 16 35 37 34,.p 34 38,.c 19 39]) (.seq (.region [.a 19,.h 0,.k 13 1,.T 2 0 1,.p 1 3,.h 4,.k 15 5,.T 6 0 5,.p 5 7,.h 8,.k 14 9,.aa 10 9,.T 11 5 9,.p 9 12,.h 13,.k 14 14,.qt (.indexSl 2 (.tmp 15) (.cst (.int .i64 0))) 14,.qt (.load true 2 (.tmp 16)) 14,.qt (.build [.int .i64 0,.int .i64 0] [(1,(1,.cst (.int .i64 2)))]) 14,.qt (.eqAgg false [(0,1),(1,1)] (.tmp 17) (.tmp 18)) 14,.p 14 19,.h 20,.k 17 21,.T 22 0 21,.p 21 23,.h 24,.k 16 25,.aa 26 25,.T 27 8 25,.p 25 28,.h 29,.k 18 30,.T 31 140 30,.p 30 32,.c 0 33]) .ret))))))))))))),[.tmp 0]⟩
theorem Ln:aH Try.prog Try.f11 0 [0,1,2,3,5,6,7,8,9,10,11,13,14,15,16,17,18,19,21,22] [] true ([],[])=some QP:=by kernel_rfl
theorem at11:Try.prog.funcs[11]?=some Try.f11:=by kernel_rfl
def Nu:cI:=⟨1,6,.seq (.region [.D 1 0,.N 2 5,.w 3,.f 4 0]) (.seq (.region [.d 0 1,.b 1 0,.d 1 1,.K 3 2,.E 27 1 3,.N 5 5,.r 5 5 4]) (.seq (.region [.l 5 5,.l 5 5,.d 4 1,.b 1 2,.E 28 1 3,.d 5 1,.b 1 5,.qn (.call (.fn 21) [.tmp 6,.cst (.int .i64 60)]),.r 5 2 0,.c 3 4,.c 4 7]) .ret)),[.cell 2 true 5,.tmp 3,.tmp 4]⟩
theorem Lm:aH Try.prog Try.f13 1 [0,1,2,3,4,5] [28,21] true ([],[])=some Nu:=by kernel_rfl
theorem at13:Try.prog.funcs[13]?=some Try.f13:=by kernel_rfl
def km:MC:=.seq (.seq (.region [.a 3,.a 0,.v 1,.F 5 0 2]) (.cond (.var 5) .skip (.exit 0))) (.seq (.seq (.block 1 (.seq (.region [.a 0,.a 3,.e 2 0 1,.K 2 2,.a 1,.a 3,.e 2 4 5,.K 2 6,.qs 6 (.eqAgg true [(0,1),(1,1)] (.tmp 3) (.tmp 7))]) (.cond (.var 6) (.seq (.region [.g 2]) .ret) .skip))) (.kill [2,4,5,6])) (.region [.a 3,.i 0 1,.c 3 1]))
def si:cI:=⟨2,7,.seq (.region [.g 2]) (.seq (.seq (.region [.a 0,.v 0,.a 1,.v 2,.bz 4 1 3]) (.cond (.var 4) (.seq (.region [.g 2]) .ret) .skip)) (.seq (.seq (.region [.f 3 0]) (.seq (.block 0 (.loop [2,4,5,6] km)) (.kill [0,1,2,3,4,5,6]))) (.seq (.region [.I 2]) .ret))),[.tmp 2]⟩
def jH:List Nat:=[2,4,5,6]
abbrev nI (v0 v1 v3:AV):List AV:=[v0,v1,.undef,v3,.undef,.undef,.undef]
theorem F2:clear jH [v0,v1,d2,v3,d4,d5,d6]=nI v0 v1 v3:=rfl
theorem Ft {A:ac} {k:List KC} (h:bM (evC E fuel km) jH fuel (nI v0 v1 v3) A=some o) :
  run E fuel (.code (.loop [2,4,5,6] km) :: k) [v0,v1,d2,v3,d4,d5,d6] A=after E fuel k o:=aQ jH _ _ (by rw [F2]; exact h)
theorem vu:aH Try.prog Try.f16 2 [0,1,4,5,10,14,25] [] true ([[2,4,5,6]],[[2,4,5,6],[0,1,2,3,4,5,6]])=some si:=by kernel_rfl
theorem LD:Try.prog.funcs[16]?=some Try.f16:=by kernel_rfl
def IN:cI:=⟨2,4,.seq (.region [.f 2 0]) (.seq (.seq (.region [.a 0,.ac 3 0 0]) (.cond (.var 3) (.region [.a 0,.i 0 1,.bn 1,.c 0 2]) .skip)) (.seq (.region [.a 0,.a 1,.cx 0 1,.c 2 2]) .ret)),[.tmp 2]⟩
theorem FK:aH Try.prog Try.f21 2 [0,1,4,6] [] true ([],[])=some IN:=by kernel_rfl
theorem Ro:Try.prog.funcs[21]?=some Try.f21:=by kernel_rfl
def Df:cI:=⟨1,3,.seq (.region [.D 1 0,.f 2 0]) (.seq (.region [.d 1 1,.b 1 0,.d 3 1,.b 1 2,.o 1 3,.d 2 1,.b 1 5,.o 4 6,.c 2 7]) .ret),[.tmp 2]⟩
theorem BY:aH Try.prog Try.f22 1 [0,1,2] [] true ([],[])=some Df:=by kernel_rfl
theorem Qc:Try.prog.funcs[22]?=some Try.f22:=by kernel_rfl
def uC:cI:=⟨0,1,.seq (.region [.N 0 5]) (.seq (.region [.qn (.build [.int .i64 0,.int .i64 0] [(0,(1,.cst (.int .i64 20))),(1,(1,.cst (.int .i64 12)))]),.qn (.build [.int .i64 0,.int .i64 0] [(0,(1,.cst (.int .i64 30))),(1,(1,.cst (.int .i64 12)))]),.qn (.buildSlice 2 [.tmp 0,.tmp 1]),.qn (.build [.nilS,.int .i64 0,.int .i64 0,.int .i64 0,.int .i64 0] [(0,(1,.tmp 2)),(1,(1,.cst (.int .i64 1))),(2,(1,.cst (.int .i64 1))),(3,(1,.cst (.int .i64 2))),(4,(1,.cst (.int .i64 1)))]),.r 5 0 3]) .ret),[.cell 0 true 5]⟩
theorem vr:aH Try.prog Try.f26 0 [0] [] true ([],[])=some uC:=by kernel_rfl
theorem LB:Try.prog.funcs[26]?=some Try.f26:=by kernel_rfl
def eY:MC:=.seq (.seq (.region [.a 5,.a 0,.v 1,.qn (.minmax false (.tmp 2) [.cst (.int .i64 4)]),.qn (.minmax true (.cst (.int .i64 1)) [.tmp 3]),.F 7 0 4]) (.cond (.var 7) .skip (.exit 0))) (.seq (.seq (.block 1 (.seq (.region [.qn (.build [.int .i64 0,.int .i64 0] [(0,(1,.cst (.int .i64 20))),(1,(1,.cst (.int .i64 30)))]),.ah 6 2,.r 2 6 0]) (.seq (.seq (.region [.a 5,.a 0,.v 1,.F 8 0 2]) (.cond (.var 8) (.seq (.region [.a 0,.a 5,.e 2 0 1,.b9 2 0,.b 1 3,.qn (.call (.fn 50) [.tmp 4,.cst (.int .i64 60)]),.d 0 6,.A 1 6 5]) (.seq (.region [.a 0,.a 5,.e 2 0 1,.b9 2 1,.b 1 3,.qn (.call (.fn 50) [.tmp 4,.cst (.int .i64 50)]),.d 1 6,.A 1 6 5]) (.seq (.region [.a 0,.a 5,.e 2 0 1,.b9 2 1,.b 1 3,.qn (.bin .quo (.tmp 4) (.cst (.int .i64 50))),.qn (.call (.fn 50) [.tmp 5,.cst (.int .i64 3)]),.aj 9 6 0]) (.cond (.var 9) (.region [.d 1 6,.b 1 0,.i 1 200,.d 1 6,.A 1 3 2]) .skip)))) .skip)) (.region [.d 0 4,.b 1 0,.l 2 6,.cv 2,.ag 2 1 3,.d 0 4,.A 1 5 4])))) (.kill [1,2,6,7,8,9])) (.region [.a 5,.i 0 1,.c 5 1]))
def DR:cI:=⟨2,10,.seq (.region [.D 2 1,.N 3 5]) (.seq (.regionD [50] [.ca 2 0,.b 1 0,.qn (.call (.fn 50) [.tmp 1,.cst (.int .i64 4)]),.ca 2 1,.b 1 3,.qn (.call (.fn 50) [.tmp 4,.cst (.int .i64 4)]),.ca 2 2,.b 1 6,.qn (.call (.fn 50) [.tmp 7,.cst (.int .i64 5)]),.qn (.build [.nilS,.int .i64 0,.int .i64 0,.int .i64 0,.int .i64 0] [(4,(1,.cst (.int .i64 1))),(1,(1,.tmp 2)),(2,(1,.tmp 5)),(3,(1,.tmp 8))]),.N 4 5,.r 5 4 9] [(0,10),(1,10),(2,10),(3,10),(4,10),(5,10),(6,10),(7,10),(8,10)]) (.seq (.seq (.region [.f 5 0]) (.seq (.block 0 (.loop [1,2,6,7,8,9] eY)) (.kill [0,1,2,5,6,7,8,9]))) (.seq (.region [.l 5 4,.r 5 3 0]) .ret))),[.cell 3 true 5]⟩
def oT:List Nat:=[1,2,6,7,8,9]
abbrev rS (v0 v3 v4 v5:AV):List AV:=[v0,.undef,.undef,v3,v4,v5,.undef,.undef,.undef,.undef]
theorem Cl:clear oT [v0,d1,d2,v3,v4,v5,d6,d7,d8,d9]=rS v0 v3 v4 v5:=rfl
theorem Ks {A:ac} {k:List KC} (h:bM (evC E fuel eY) oT fuel (rS v0 v3 v4 v5) A=some o) :
  run E fuel (.code (.loop [1,2,6,7,8,9] eY) :: k) [v0,d1,d2,v3,v4,v5,d6,d7,d8,d9] A=after E fuel k o:=aQ oT _ _ (by rw [Cl]; exact h)
theorem BW:aH Try.prog Try.f27 2 [0,1,3,4,5,6,7,23,30,52] [50] true ([[1,2,6,7,8,9]],[[1,2,6,7,8,9],[0,1,2,5,6,7,8,9]])=some DR:=by kernel_rfl
theorem Qa:Try.prog.funcs[27]?=some Try.f27:=by kernel_rfl
def lZ:MC:=.seq (.seq (.region [.a 5,.a 4,.v 1,.F 6 0 2]) (.cond (.var 6) .skip (.exit 0))) (.seq (.seq (.block 1 (.seq (.region [.a 4,.a 5,.e 1 0 1,.aq 1 2 (-1)]) (.seq (.region [.a 5,.a 1,.v 1,.cz 0 2,.h 3,.k 1 4,.k 5 4,.L 1 5 6 4,.x 1 7 4,.qt (.call (.fn 50) [.tmp 8,.cst (.int .i64 4)]) 4,.bw 9 0 4,.Z 7 4 10]) (.cond (.var 7) (.region [.a 4,.a 5,.a 1,.a 5,.e 1 2 3,.b 1 4,.qn (.bin .quo (.tmp 5) (.cst (.int .i64 4))),.qn (.call (.fn 50) [.tmp 6,.cst (.int .i64 120)]),.e 1 0 1,.A 1 8 7]) .skip)))) (.kill [0,2,3,6,7])) (.region [.a 5,.i 0 1,.c 5 1]))
def Nt:cI:=⟨2,8,.seq (.region [.D 2 0,.w 3]) (.seq (.region [.d 0 2,.b 1 0,.v 1,.al 2 2,.c 4 3]) (.seq (.seq (.region [.f 5 0]) (.seq (.block 0 (.loop [0,2,3,6,7] lZ)) (.kill [0,1,2,3,5,6,7]))) (.seq (.region [.a 4,.c 3 0]) .ret))),[.tmp 3]⟩
def oS:List Nat:=[0,2,3,6,7]
abbrev rR (v1 v4 v5:AV):List AV:=[.undef,v1,.undef,.undef,v4,v5,.undef,.undef]
theorem Cj:clear oS [d0,v1,d2,d3,v4,v5,d6,d7]=rR v1 v4 v5:=rfl
theorem Kr {A:ac} {k:List KC} (h:bM (evC E fuel lZ) oS fuel (rR v1 v4 v5) A=some o) :
  run E fuel (.code (.loop [0,2,3,6,7] lZ) :: k) [d0,v1,d2,d3,v4,v5,d6,d7] A=after E fuel k o:=aQ oS _ _ (by rw [Cj]; exact h)
theorem Lh:aH Try.prog Try.f28 2 [0,1,2,4,5,6,14,31] [] true ([[0,2,3,6,7]],[[0,2,3,6,7],[0,1,2,3,5,6,7]])=some Nt:=by kernel_rfl
theorem at28:Try.prog.funcs[28]?=some Try.f28:=by kernel_rfl
def HL:cI:=⟨2,4,.seq (.region [.f 2 0]) (.seq (.seq (.region [.a 0,.ac 3 0 0]) (.cond (.var 3) (.region [.a 0,.i 0 1,.bn 1,.c 0 2]) .skip)) (.seq (.region [.a 0,.a 1,.cx 0 1,.c 2 2]) .ret)),[.tmp 2]⟩
theorem BK:aH Try.prog Try.f50 2 [0,1,4,6] [] true ([],[])=some HL:=by kernel_rfl
theorem PW:Try.prog.funcs[50]?=some Try.f50:=by kernel_rfl
end Tr
namespace Tr
open Go
open Cy (GC aM bc aA)
open Clu (aT aY af chA aZ dP bK cB)
def M16:aU:=fun args=>evP (aw GC []) 300 si 1 args
theorem nL:ax Try.prog GC 16 M16:=ax.of_ev (E:=aw GC []) (ay aB) rfl LD vu 1 fun _ _ h=>⟨300,h⟩
theorem oq {xs ys:List cO} {a b:AV} (ha:SlA 2 (xs.map aL) a) (hb:SlA 2 (ys.map aL) b) (hl:xs.length<=200) (hl2:ys.length<=200):M16 [a,b]=some (.bool (decide (xs=ys))):=by
 have hla:=ha.len
 have hlb:=hb.len
 rw [RN] at hla hlb
 have b0:ag .neq (.int .i64 (xs.length:Int)) (.int .i64 (ys.length:Int))=some (.bool (decide (xs.length≠ys.length))):=by
  rw [cB]
  congr 2
  exact Tz.2 (by omega)
 by_cases h0:xs.length≠ys.length
 ·rw [RE h0] at b0
  rw [RD (fun h=>h0 (by rw [h]))]
  unfold M16
  rw [aN _ _ rfl]
  simp [si,hla,hlb,b0,-ag,-aq]
 have h0:xs.length=ys.length:=R7.1 h0
 rw [RD (by omega)] at b0
 have round:∀(A:ac) (i:Nat) (hi:i<xs.length),run (aw GC []) 300 [.code km] (nI a b (.int .i64 (i:Int))) A =
   if xs[i]=ys[i]'(by omega) then some (.normal (nI a b (.int .i64 ((i+1:Nat):Int))) A) else some (.ret [a,b,.bool false,.int .i64 (i:Int),.undef,.bool true,.bool true] A):=fun A i hi=>by
  have x1:=ha.index (A:=A) (x:=aL xs[i]) (i:=i) (by simp [hi]) rfl (by omega) .i64
  have x2:=hb.index (A:=A) (x:=aL (ys[i]'(by omega))) (i:=i) (by simp [show i<ys.length by omega]) rfl (by omega) .i64
  obtain ⟨p,hp⟩:∃p,p=xs[i]:=⟨_,rfl⟩
  obtain ⟨q,hq⟩:∃q,q=ys[i]'(by omega):=⟨_,rfl⟩
  rw [<-hp] at x1 ⊢
  rw [<-hq] at x2 ⊢
  have ea:iB true [(0,1),(1,1)] (aL p) (aL q)=some (.bool (decide (p≠q))):=by
   obtain ⟨a1,a2⟩:=p
   obtain ⟨c1,c2⟩:=q
   simp only [aL,iB,qI,eqK]
   by_cases e1:a1=c1 <;> by_cases e2:a2=c2 <;> simp [e1,e2]
  have b1:=a9 i xs.length .i64
  rw [RE hi] at b1
  have b3:=aV i (by omega)
  have l1:∀z:cO,ab true 2 A (.fp (cellsOf (aL z)))=some (aL z):=fun z=>rfl
  obtain ⟨P,hP⟩:∃P,P=cellsOf (aL p):=⟨_,rfl⟩
  obtain ⟨Q,hQ⟩:∃P,P=cellsOf (aL q):=⟨_,rfl⟩
  have l2:=l1 p
  have l3:=l1 q
  rw [<-hP] at x1 l2
  rw [<-hQ] at x2 l3
  obtain ⟨i1,hi1⟩:∃i1:Nat,i1=i+1:=⟨_,rfl⟩
  rw [<-hi1] at b3 ⊢
  by_cases hd:p=q
  ·rw [RD (by simpa using hd)] at ea
   rw [RH hd]
   simp [km,hla,x1,x2,l2,l3,ea,b1,b3,-ag,-ae,-aq,-ab,-iB]
  ·rw [RE (by simpa using hd)] at ea
   rw [RK hd]
   simp [km,hla,x1,x2,l2,l3,ea,b1,-ag,-ae,-aq,-ab,-iB]
 have bE:=a9 xs.length xs.length .i64
 rw [RD (by omega)] at bE
 unfold M16
 rw [aN _ _ rfl]
 rcases cY (E:=aw GC []) (fuel:=300) (a:=km) (mask:=jH) (fun i=>nI a b (.int .i64 (i:Int))) (fun _=>[]) xs.length (fun i=>¬ ∀(hi:i<xs.length),xs[i]=ys[i]'(by omega))
  (oF:=fun i=>.ret [a,b,.bool false,.int .i64 (i:Int),.undef,.bool true,.bool true] []) (oE:=.exit 0 ((nI a b (.int .i64 (xs.length:Int))).set 5 (.bool false)) [])
  (fun _=>F2) (fun _ _ _ h=>by cases h) (fun _ _ h=>by cases h)
  (fun i hi hp=>by
   rw [round [] i hi]
   exact RH (R7.1 hp hi))
  (fun i hi hp=>by
   rw [round [] i hi]
   exact RK fun h=>hp fun _=>h)
  (by simp [km,hla,bE,-ag,-aq]) (show xs.length<300 by omega) with ⟨i,hi,hp,hj,lp⟩ | ⟨hp,lp⟩
 ·have lp:bM (evC (aw GC []) 300 km) jH 300 (nI a b (.int .i64 0)) []=_:=lp
  rw [RD (fun h=>hp (fun _=>by subst h; rfl))]
  simp [si,hla,hlb,b0,Ft lp,-ag,-aq]
 ·have lp:bM (evC (aw GC []) 300 km) jH 300 (nI a b (.int .i64 0)) []=_:=lp
  rw [RE (SO h0 fun i h1 h2=>R7.1 (hp i h1) h1)]
  simp [si,hla,hlb,b0,Ft lp,-ag,-aq]
theorem JJ:HL=Cy.DS:=rfl
theorem z8:ax Try.prog GC 50 Cy.M12:=by
 refine ax.of_ev (E:=aw GC []) (ay aB) rfl PW BK 1 ?_
 intro args r h
 unfold Cy.M12 at h
 split at h
 ·simp only [Ry,Rz] at h
  obtain ⟨⟨h1,h2⟩,rfl⟩:=h
  exact ⟨0,by rw [JJ]; exact Cy.Rh _ _ _ h1 h2⟩
 ·cases h
end Tr
namespace Tr
open Go
open Cy (GC aM bc aA)
open Clu (aT aY c9 Chk af chA xF jU rG t1 pT aZ bA cB aK bC)
def M22:aU:=fun args=>evP (aw GC []) 300 Df 1 args
theorem rY:ax Try.prog GC 22 M22:=ax.of_ev (E:=aw GC []) (ay aB) rfl Qc BY 1 fun _ _ h=>⟨300,h⟩
theorem yI {T:aT} (chv:AV) (hv:aY T):M22 [af T chv]=some (.int .i64 (wT T)):=by
 obtain ⟨_,⟨h1,h2,h3⟩,_⟩:=hv
 have b1:ag .add (.int .i64 T.pick) (.int .i64 T.travel)=some (.int .i64 (T.pick+T.travel)):=aZ (by omega)
 have b2:ag .add (.int .i64 (T.pick+T.travel)) (.int .i64 T.place)=some (.int .i64 (wT T)):=aZ (by omega)
 unfold M22
 rw [aN _ _ rfl]
 simp [Df,af,b1,b2,-ag]
def M26:aU:=fun args=>evP (aw GC []) 300 uC 4 args
theorem Af:ax Try.prog GC 26 M26:=ax.of_ev (E:=aw GC []) (ay aB) rfl LB vr 4 fun _ _ h=>⟨300,h⟩
abbrev Rm:AV:=.fs 2 [.agg [.int .i64 20,.int .i64 12],.agg [.int .i64 30,.int .i64 12]]
abbrev tA1:AV:=.agg [Rm,.int .i64 1,.int .i64 1,.int .i64 2,.int .i64 1]
theorem sZ:M26 []=some tA1:=by
 unfold M26
 rw [aN _ _ rfl]
 simp [uC]
def Ec:List (FuncId × aJ):=[(26,aG 4 M26),(14,aG 4 M14),(17,aG 4 M17),(23,aG 4 Clu.M22),(24,aG 4 M24),(25,aG 4 M25),(16,aG 4 M16)]
@[simp] theorem PG:aE Ec 26=some (aG 4 M26):=rfl
@[simp] theorem PM:aE Ec 14=some (aG 4 M14):=rfl
@[simp] theorem PK:aE Ec 17=some (aG 4 M17):=rfl
@[simp] theorem PJ:aE Ec 23=some (aG 4 Clu.M22):=rfl
@[simp] theorem PI:aE Ec 24=some (aG 4 M24):=rfl
@[simp] theorem PH:aE Ec 25=some (aG 4 M25):=rfl
@[simp] theorem PL:aE Ec 16=some (aG 4 M16):=rfl
theorem He:∀f M,aE Ec f=some M->au Try.prog GC f M:=ai (au.of_pure Af 4) (ai (au.of_pure GI 4) (ai (au.of_pure xA 4) (ai (au.of_pure Clu.rY 4) (ai (au.of_pure Ag 4) (ai (au.of_pure EK 4) (ai (au.of_pure nL 4) aB))))))
def M11:aU:=fun args=>match args with
 | []=>some (.bool true)
 | _=>none
abbrev i3 (a b c:Int):AV:=.fs 1 [.int .i64 a,.int .i64 b,.int .i64 c]
abbrev i2 (a b:Int):AV:=.fs 1 [.int .i64 a,.int .i64 b]
theorem xE {e:Nat} {v:AV} (h:SlA e (x :: xs) v):v=.fs e (x :: xs):=by
 rcases h with ⟨_,h⟩ | h
 ·cases h
 ·exact h
theorem dm0 {T:aT} {free:Int}:cu T rd free 0=bV T rd free:=iC T rd free
theorem Hg (s:c9) (A:ac) (n:Nat):frz A (n+1) (xF s)=xF s:=by
 have k:=fun o=>(ba 1 (aj o)).frz (A:=A) n
 simp [xF,frz,k,aM]
open Classical in
theorem JC:ax Try.prog GC 11 M11:=by
 refine ax.of_ev (E:=aw GC Ec) (ay He) rfl at11 Ln 1 ?_
 intro args r h
 unfold M11 at h
 split at h
 rotate_left
 ·cases h
 injection h with h; subst h
 refine ⟨0,?_⟩
 have h12:SlA 2 (t1.ch.map chA) Rm:=.inr rfl
 have hi:∀a b:Int,SlA 1 (aj [a,b]) (i2 a b):=fun a b=>.inr rfl
 obtain ⟨s,hs,hc,h1,h2,h3⟩:=Lw
 have sV:=pT hc
 obtain ⟨va,ma,ra⟩:=ot (free:=0) (lost:=0) h12 (hi 10 (-1)) (by decide) (by decide)
 rw [dm0,dr_a] at ma ra
 obtain ⟨vb,mb,rb⟩:=ot (free:=0) (lost:=0) h12 (hi 10 40) (by decide) (by decide)
 rw [dm0,Rj] at mb rb
 obtain ⟨vc,mc,rc⟩:=ot (free:=0) (lost:=0) h12 (hi 40 30) (by decide) (by decide)
 rw [dm0,Ri] at mc rc
 obtain ⟨vd,md,rd⟩:=ot (free:=0) (lost:=2) h12 (hi 10 40) (by decide) (by decide)
 rw [dr_d] at md rd
 have ea:=xE ra
 have ec:=xE rc
 have ed:=xE rd
 have ma:M14 [tA1,i2 10 (-1),.int .i64 0,.int .i64 0]=some (.tup [va,.bool true]):=ma
 have mb:M14 [tA1,i2 10 40,.int .i64 0,.int .i64 0]=some (.tup [vb,.bool false]):=mb
 have mc:M14 [tA1,i2 40 30,.int .i64 0,.int .i64 0]=some (.tup [vc,.bool true]):=mc
 have md:M14 [tA1,i2 10 40,.int .i64 0,.int .i64 2]=some (.tup [vd,.bool true]):=md
 have k1:=s4 h12 (by decide) (hi 40 30) (by decide) 0 rc (by decide)
 rw [show (some [((2:Int),(30:Int)),(1,40),(2,74)]).getD []=[(2,30),(1,40),(2,74)] from rfl,Rk] at k1
 have k1:M17 [tA1,i2 40 30,.int .i64 0,vc]=some (.tup [.int .i64 78,.bool true]):=k1
 have k2:=s4 h12 (by decide) (hi 40 30) (by decide) 0 (l:=[(2,30),(1,35)]) (.inr rfl) (by decide)
 rw [ck_d] at k2
 have k2:M17 [tA1,i2 40 30,.int .i64 0,.fs 2 [.agg [.int .i64 2,.int .i64 30],.agg [.int .i64 1,.int .i64 35]]]=some (.tup [.int .i64 0,.bool false]):=k2
 have e1:=oq ra (ys:=[(1,10),(2,44)]) (.inr rfl) (by decide) (by decide)
 have e1:M16 [va,.fs 2 [.agg [.int .i64 1,.int .i64 10],.agg [.int .i64 2,.int .i64 44]]]=some (.bool true):=e1
 have e2:=oq rd (ys:=[(1,10)]) (.inr rfl) (by decide) (by decide)
 have e2:M16 [vd,.fs 2 [.agg [.int .i64 1,.int .i64 10]]]=some (.bool true):=e2
 have b1:=Clu.yI h12 (by decide)
 rw [hs] at b1
 obtain ⟨P1,hP1⟩:∃P,P=slA 1 (aj s.proof):=⟨_,rfl⟩
 obtain ⟨z1,z2⟩:=Clu.jr s.proof
 rw [<-hP1] at z1 z2
 obtain ⟨S,hS⟩:∃S,S=AV.agg [.int .i64 40,i3 0 2 1,i3 0 24 18,P1]:=⟨_,rfl⟩
 have hSs:S=xF s:=by rw [hS,hP1]; unfold xF; rw [h1,h2,h3]; rfl
 have b1:Clu.M22 [tA1]=some (.tup [S,.int .i64 0]):=by rw [hSs]; exact b1
 have fS:∀A n,frz A (n+1) S=S:=fun A n=>by rw [hSs]; exact Hg s A n
 obtain ⟨r,hr,hrl⟩:=FF hc h1 h2 h3 0 (by omega)
 obtain ⟨vl,ml,rl⟩:=Gd (free:=0) h12 (by decide) sV
 rw [hr] at ml rl
 have el:=xE rl
 have ml:M24 [tA1,S,.int .i64 0]=some (.tup [vl,.int .i64 0]):=by rw [hSs]; exact ml
 have lenl:vl=.fs 2 (.agg [.int .i64 0,.int .i64 2] :: r.map aL):=el
 obtain ⟨r2,hr2,hrl2⟩:=FF hc h1 h2 h3 78 (by omega)
 have w1:kx t1 [40,30] 0 s=some ([(2,30),(1,40),(2,74)]++(0,78+2) :: r2):=by
  unfold kx
  rw [Ri,Sn,Rk,Sq,hr2]; rfl
 have w2:kx t1 [10,40] 0 s=none:=by
  unfold kx
  rw [Rj]; rfl
 obtain ⟨vm,mm,rm⟩:=Gc (free:=0) h12 (by decide) (hi 40 30) (by decide) sV
 rw [w1] at mm rm
 have lm:=rm.len
 rw [RN] at lm
 have mm:M25 [tA1,i2 40 30,.int .i64 0,S]=some (.tup [vm,.int .i64 0]):=by rw [hSs]; exact mm
 have lm:aq vm=some (.int .i64 8):=by
  rw [lm]
  simp [hrl2]
 obtain ⟨vn,mn,_⟩:=Gc (free:=0) h12 (by decide) (hi 10 40) (by decide) sV
 rw [w2] at mn
 have mn:M25 [tA1,i2 10 40,.int .i64 0,S]=some (.tup [vn,.int .i64 140]):=by rw [hSs]; exact mn
 have lc:aq vc=some (.int .i64 3):=rc.len
 have ll:aq vl=some (.int .i64 5):=by
  rw [rl.len]; simp [hrl]
 have xl:∀A,ae 2 A vl (.int .i64 0)=some (.fp [.int .i64 0,.int .i64 2]):=fun A=>rl.index (A:=A) (i:=0) (x:=aL (0,0+2)) rfl rfl (by omega) .i64
 have fa:∀A n,frz A n va=va:=fun A n=>ra.frz n
 have fb:∀A n,frz A n vb=vb:=fun A n=>rb.frz n
 have fc:∀A n,frz A n vc=vc:=fun A n=>rc.frz n
 have fd:∀A n,frz A n vd=vd:=fun A n=>rd.frz n
 clear ea ec ed el lenl
 clear rl rm ra rb rc rd
 have ft:∀A,frz A 4 tA1=tA1:=fun A=>aK (T:=t1) (fun A n=>h12.frz (A:=A) n) A 3
 have fi:∀A a b,frz A 4 (i2 a b)=i2 a b:=fun A a b=>(hi a b).frz 4
 have fk:∀A,frz A 4 (.fs 2 [.agg [.int .i64 2,.int .i64 30],.agg [.int .i64 1,.int .i64 35]])=.fs 2 [.agg [.int .i64 2,.int .i64 30],.agg [.int .i64 1,.int .i64 35]]:=fun A=>rfl
 have fk2:∀A,frz A 4 (.fs 2 [.agg [.int .i64 1,.int .i64 10],.agg [.int .i64 2,.int .i64 44]])=.fs 2 [.agg [.int .i64 1,.int .i64 10],.agg [.int .i64 2,.int .i64 44]]:=fun A=>rfl
 have fk3:∀A,frz A 4 (.fs 2 [.agg [.int .i64 1,.int .i64 10]])=.fs 2 [.agg [.int .i64 1,.int .i64 10]]:=fun A=>rfl
 have fP1:∀A n,frz A n P1=P1:=fun A n=>by rw [hP1]; exact (ba 1 _).frz n
 have nP1:∀n,bu n P1=true:=fun n=>by rw [hP1]; exact (ba 1 _).noRef n
 have fS4:=fun A=>fS A 3
 clear hSs fS
 subst hS
 rw [aN _ _ rfl]
 simp [QP,sZ,ma,mb,mc,md,k1,k2,e1,e2,b1,fS4,ft,fi,fk,fk2,fk3,nP1,aM,ml,mm,mn,lm,lc,ll,xl,fa,fc,fd,-frz,-ae,-aq]
 rfl
end Tr
namespace Tr
open Go
open Cy (GC aM bc aA dH)
open Clu (aT aY ky af chA aZ dP bK cB bA aK bC)
def nOf (ys:List (Int × Int)):Nat:=max 1 (min ys.length 4)
def yOf (ys:List (Int × Int)) (i:Nat):Int × Int:=ys.getD i (0,0)
def Nb (z:Int):Int:=if pick (z.tdiv 50) 3=0 then pick z 50+200 else pick z 50
def chO (ys:List (Int × Int)) (i:Nat):Int × Int:=if i<ys.length then (pick (yOf ys i).1 60,Nb (yOf ys i).2) else (20,30)
def mkT (ys:List (Int × Int)) (a b c:Int):aT:=⟨(List.range (nOf ys)).map (chO ys),pick a 4,pick b 4,pick c 5,1⟩
theorem Cz (ys:List (Int × Int)) (i:Nat):(0<=(chO ys i).1/\(chO ys i).1<=59)/\0<=(chO ys i).2/\(chO ys i).2<=249:=by
 unfold chO Nb
 have k1:=fQ (yOf ys i).1 60 (by omega)
 have k2:=fQ (yOf ys i).2 50 (by omega)
 split
 ·split <;> simp only <;> omega
 ·simp only; omega
theorem AD (ys:List (Int × Int)) (a b c:Int):(mkT ys a b c).ch.length=nOf ys:=by simp [mkT]
theorem uz (ys:List (Int × Int)):1<=nOf ys/\nOf ys<=4:=by unfold nOf; omega
theorem uB (ys:List (Int × Int)) (a b c:Int):aY (mkT ys a b c)/\(mkT ys a b c).blades=1:=by
 have h1:=fQ a 4 (by omega)
 have h2:=fQ b 4 (by omega)
 have h3:=fQ c 5 (by omega)
 have hn:=AD ys a b c
 have hb:=uz ys
 refine ⟨⟨fun c hc=>?_,⟨⟨?_,?_⟩,⟨?_,?_⟩,?_,?_⟩,?_,?_,.inl rfl⟩,rfl⟩
 ·obtain ⟨i,_,rfl⟩:=Sa.1 hc
  have:=Cz ys i
  unfold ky
  omega
 all_goals first | (rw [hn]; omega) | (simp only [mkT]; omega)
def MR (A:ac) (v:AV) (xs:List (Int × Int)):Prop:=(v=.nilS/\xs=[])\/∃id gr,v=.sl id 0 xs.length/\xs≠[]/\2<id/\A[id]?=some (.row 2 gr (xs.map chA))
structure I27 (A:ac) (xs:List (Int × Int)) (p q r:Int):Prop where
 o:A[1]?=some (.row 5 false [.agg [.nilS,.int .i64 0,.int .i64 0,.int .i64 0,.int .i64 0]])
 c:∃v,A[2]?=some (.row 5 false [.agg [v,.int .i64 p,.int .i64 q,.int .i64 r,.int .i64 1]])/\MR A v xs
def jg:List (FuncId × aJ):=[(50,aG 4 Cy.M12)]
@[simp] theorem OB:aE jg 50=some (aG 4 Cy.M12):=rfl
theorem td:∀f M,aE jg f=some M->au Try.prog GC f M:=ai (au.of_pure z8 4) aB
theorem me {A:ac} {id:Nat} {k:Nat} {es:List AV} (h:A[id]?=some (.row k false [.agg es])) (hx:es[i]?=some x):ab false 1 A (.ptr id 0 i)=some x:=by
 simp [ab,h,cn,hx]
theorem b27 (ys:List (Int × Int)):dq false (.int .i64 (ys.length:Int)) [.int .i64 4]=some (.int .i64 ((min ys.length 4:Nat):Int))/\dq true (.int .i64 1) [.int .i64 ((min ys.length 4:Nat):Int)]=some (.int .i64 (nOf ys:Int)):=by
 constructor
 ·have:=DM ys.length 4 .i64 .i64
  simp only [dq]
  rw [show (.int .i64 4:AV)=.int .i64 ((4:Nat):Int) from rfl,this]
 ·have:=DT 1 (min ys.length 4) .i64 .i64
  simp only [dq]
  rw [show (.int .i64 1:AV)=.int .i64 ((1:Nat):Int) from rfl,this]
  rfl
theorem At {a:Int} (ha:inI a) (hb:2<=b/\b<=9223372036854775807):ag .quo (.int .i64 a) (.int .i64 b)=some (.int .i64 (a.tdiv b))/\inI (a.tdiv b):=by
 have h1:(a.tdiv b).natAbs<=a.natAbs:=by rw [Int.natAbs_tdiv]; exact Nat.div_le_self _ _
 have hr:inI (a.tdiv b):=by
  unfold inI at *
  have h2:(a.tdiv b).natAbs<=a.natAbs / 2:=by
   rw [Int.natAbs_tdiv]
   exact Nat.div_le_div_left (by omega) (by omega)
  omega
 refine ⟨?_,hr⟩
 have hw:=eV hr
 simp only [ag]
 rw [RH trivial,RK (by omega),hw]
theorem wx {A:ac} (hys:∀y∈ys,inI y.1/\inI y.2) (hy:SlA 2 (ys.map chA) yv) {xs:List (Int × Int)} {p q r:Int} (hI:I27 A xs p q r) (hi:i<nOf ys) (hxl:xs.length<=100) :
  ∃B,run (aw GC jg) 300 [.code eY] (rS yv (.ptr 1 0 0) (.ptr 2 0 0) (.int .i64 (i:Int))) A=some (.normal (rS yv (.ptr 1 0 0) (.ptr 2 0 0) (.int .i64 ((i+1:Nat):Int))) B)/\I27 B (xs++[chO ys i]) p q r:=by
 obtain ⟨h1,v,h2,hv⟩:=hI
 have n1:=(Rv.1 h1).1
 have n2:=(Rv.1 h2).1
 have hlen:=hy.len
 rw [RN] at hlen
 obtain ⟨b0,b1⟩:=b27 ys
 have b2:=a9 i (nOf ys) .i64
 rw [RE hi] at b2
 have b3:=a9 i ys.length .i64
 have b4:=aV i (by have:=uz ys; omega)
 obtain ⟨N,hN⟩:∃n,n=A.length:=⟨_,rfl⟩
 have bx:aS 2 (.agg [.int .i64 0,.int .i64 0]) A=some (.ptr N 0 0,A++[.row 2 false [.agg [.int .i64 0,.int .i64 0]]]):=by rw [hN]; rfl
 have s0:∀a b c d,az 2 (A++[.row 2 false [.agg [.int .i64 a,.int .i64 b]]]) (.ptr N 0 0) (.agg [.int .i64 c,.int .i64 d])=some (A++[.row 2 false [.agg [.int .i64 c,.int .i64 d]]]):=fun a b c d=>by rw [hN]; simp [az,bq]
 have f0:∀a b:Int,aa 0 (A++[.row 2 false [.agg [.int .i64 a,.int .i64 b]]]) (.ptr N 0 0)=some (.ptr N 0 0):=fun a b=>by rw [hN]; simp [aa]
 have f1:∀a b:Int,aa 1 (A++[.row 2 false [.agg [.int .i64 a,.int .i64 b]]]) (.ptr N 0 0)=some (.ptr N 0 1):=fun a b=>by rw [hN]; simp [aa]
 have t0:∀a b c,az 1 (A++[.row 2 false [.agg [.int .i64 a,.int .i64 b]]]) (.ptr N 0 0) (.int .i64 c)=some (A++[.row 2 false [.agg [.int .i64 c,.int .i64 b]]]):=fun a b c=>by rw [hN]; simp [az,bq]
 have t1:∀a b c,az 1 (A++[.row 2 false [.agg [.int .i64 a,.int .i64 b]]]) (.ptr N 0 1) (.int .i64 c)=some (A++[.row 2 false [.agg [.int .i64 a,.int .i64 c]]]):=fun a b c=>by rw [hN]; simp [az,bq]
 have l1:∀a b:Int,ab false 1 (A++[.row 2 false [.agg [.int .i64 a,.int .i64 b]]]) (.ptr N 0 1)=some (.int .i64 b):=fun a b=>by rw [hN]; exact me (es:=[.int .i64 a,.int .i64 b]) (k:=2) (by simp) rfl
 have l2:∀a b:Int,ab true 2 (A++[.row 2 false [.agg [.int .i64 a,.int .i64 b]]]) (.ptr N 0 0)=some (.agg [.int .i64 a,.int .i64 b]):=fun a b=>by rw [hN]; simp [ab]
 have c0:∀X,aa 0 (A++X) (.ptr 2 0 0)=some (.ptr 2 0 0):=fun X=>by
  have:(A++X)[2]?=some (.row 5 false [.agg [v,.int .i64 p,.int .i64 q,.int .i64 r,.int .i64 1]]):=by rw [RC n2]; exact h2
  simp [aa,this]
 have cl:∀X,ab false 1 (A++X) (.ptr 2 0 0)=some v:=fun X=>me (es:=[v,.int .i64 p,.int .i64 q,.int .i64 r,.int .i64 1]) (k:=5) (by rw [RC n2]; exact h2) rfl
 obtain ⟨P1,P2,hch⟩:∃P1 P2,chO ys i=(P1,P2):=⟨_,_,rfl⟩
 rw [hch]
 obtain ⟨A1,hA1⟩:∃X,X=A++[Ent.row 2 false [.agg [.int .i64 P1,.int .i64 P2]]]:=⟨_,rfl⟩
 have hl1:A1.length=A.length+1:=by rw [hA1]; simp
 have hA1o:∀j,j<A.length->A1[j]?=A[j]?:=fun j hj=>by rw [hA1,RC hj]
 obtain ⟨v',A2,e1,e2,e3,e4,e5⟩:∃v' A2,aR 2 16 A1 v (.fs 2 [.agg [.int .i64 P1,.int .i64 P2]])=some (v',A2)/\MR A2 v' (xs++[(P1,P2)])/\(∀j,j<=2->A2[j]?=A[j]?)/\(∃a b,v'=.sl a 0 b/\2<a)/\2<A2.length:=by
  rcases hv with ⟨rfl,rfl⟩ | ⟨id,gr,rfl,hne,hid,hrow⟩
  ·refine ⟨.sl A1.length 0 1,A1++[.row 2 false [chA (P1,P2)]],by simp [aR,chA],.inr ⟨A1.length,false,rfl,by simp,by omega,by simp⟩,fun j hj=>?_,⟨_,_,rfl,by omega⟩,by simp; omega⟩
   rw [RC (by omega),hA1o j (by omega)]
  ·have hidl:=(Rv.1 hrow).1
   have hz:xs.length≠0:=fun e=>hne (Si.1 e)
   have hb:(xs.length+1)*16<=140737488355328:=by omega
   have hrow1:A1[id]?=some (.row 2 gr (xs.map chA)):=by rw [hA1o id hidl]; exact hrow
   refine ⟨.sl id 0 (xs.length+1),A1.set id (.row 2 true (xs.map chA++[chA (P1,P2)])),by simp [aR,hrow1,hz,hb,chA],.inr ⟨id,true,by simp,by simp,hid,?_⟩,fun j hj=>?_,⟨_,_,rfl,hid⟩,by simp; omega⟩
   ·rw [RO (by omega),SH]; rfl
   ·rw [RF (by omega),hA1o j (by omega)]
 obtain ⟨ia,ib,rfl,hia⟩:=e4
 have c2:aa 0 A2 (.ptr 2 0 0)=some (.ptr 2 0 0):=by
  have:=e3 2 (by omega)
  rw [h2] at this
  simp [aa,this]
 have st:az 1 A2 (.ptr 2 0 0) (.sl ia 0 ib)=some (A2.set 2 (.row 5 false [.agg [.sl ia 0 ib,.int .i64 p,.int .i64 q,.int .i64 r,.int .i64 1]])):=by
  have:=e3 2 (by omega)
  rw [h2] at this
  simp [az,this,bq]
 refine ⟨A2.set 2 (.row 5 false [.agg [.sl ia 0 ib,.int .i64 p,.int .i64 q,.int .i64 r,.int .i64 1]]),?_,⟨by rw [RF (by omega),e3 1 (by omega)]; exact h1,.sl ia 0 ib,by rw [RO e5],?_⟩⟩
 rotate_left
 ·rcases e2 with ⟨h,_⟩ | ⟨id,gr,e2,e6,e7,e8⟩
  ·cases h
  ·exact .inr ⟨id,gr,e2,e6,e7,by rw [RF (by omega)]; exact e8⟩
 obtain ⟨B,hB⟩:∃X,X=A2.set 2 (.row 5 false [.agg [.sl ia 0 ib,.int .i64 p,.int .i64 q,.int .i64 r,.int .i64 1]]):=⟨_,rfl⟩
 rw [<-hB] at st ⊢
 have c1:=c0 [Ent.row 2 false [.agg [.int .i64 P1,.int .i64 P2]]]
 have cl1:=cl [Ent.row 2 false [.agg [.int .i64 P1,.int .i64 P2]]]
 have l2':=l2 P1 P2
 rw [<-hA1] at c1 cl1 l2'
 have hsl:bI 2 [.agg [.int .i64 P1,.int .i64 P2]]=some (.fs 2 [.agg [.int .i64 P1,.int .i64 P2]]):=rfl
 obtain ⟨ii,hii⟩:∃n,n=i+1:=⟨_,rfl⟩
 rw [<-hii] at b4 ⊢
 obtain ⟨nn,hnn⟩:∃n,n=nOf ys:=⟨_,rfl⟩
 rw [<-hnn] at b1 b2
 obtain ⟨mm,hmm⟩:∃n,n=min ys.length 4:=⟨_,rfl⟩
 rw [<-hmm] at b0 b1
 have A0d:∀a b,∃X,X=A++[Ent.row 2 false [.agg [.int .i64 a,.int .i64 b]]]:=fun a b=>⟨_,rfl⟩
 have u0:=s0 0 0 20 30
 obtain ⟨D0,hD0⟩:=A0d 0 0
 rw [<-hD0] at bx u0
 by_cases hc:i<ys.length
 ·rw [RE hc] at b3
  obtain ⟨y,hye⟩:∃y,y=ys[i]:=⟨_,rfl⟩
  have hyy:yOf ys i=y:=by unfold yOf; rw [Rw,Rx hc,hye]; rfl
  have hyr:inI y.1/\inI y.2:=by rw [hye]; exact hys _ (RM hc)
  have yx:∀A,ae 2 A yv (.int .i64 (i:Int))=some (.fp [.int .i64 y.1,.int .i64 y.2]):=fun A=>by
   rw [hye]
   exact hy.index (A:=A) (x:=chA ys[i]) (by simp [hc]) rfl (by omega) .i64
  have y0:∀A,dy 2 1 A (.fp [.int .i64 y.1,.int .i64 y.2]) (.int .i64 0)=some (.fp [.int .i64 y.1,.int .i64 y.2]):=fun A=>rfl
  have y1:∀A,dy 2 1 A (.fp [.int .i64 y.1,.int .i64 y.2]) (.int .i64 1)=some (.fp [.int .i64 y.2]):=fun A=>rfl
  have z0:∀A,ab false 1 A (.fp [.int .i64 y.1,.int .i64 y.2])=some (.int .i64 y.1):=fun A=>rfl
  have z1:∀A,ab false 1 A (.fp [.int .i64 y.2])=some (.int .i64 y.2):=fun A=>rfl
  have m1:=dH hyr.1 (n:=60) (by omega)
  have m2:=dH hyr.2 (n:=50) (by omega)
  obtain ⟨q0,q1⟩:=At hyr.2 (b:=50) (by omega)
  have m3:=dH q1 (n:=3) (by omega)
  have hcc:=hch
  unfold chO Nb at hcc
  rw [RH hc,hyy] at hcc
  injection hcc with e1' e2'
  have r1:=fQ y.2 50 (by omega)
  have b5:ag .add (.int .i64 (pick y.2 50)) (.int .i64 200)=some (.int .i64 (pick y.2 50+200)):=aZ (by omega)
  have b6:=bA (pick (y.2.tdiv 50) 3) 0
  rw [e1'] at m1
  obtain ⟨S,hS⟩:∃S,S=pick y.2 50:=⟨_,rfl⟩
  rw [<-hS] at m2 e2' b5
  have u1:=f0 20 30
  have u2:=t0 20 30 P1
  have u3:=f1 P1 30
  have u4:=t1 P1 30 S
  obtain ⟨D1,hD1⟩:=A0d 20 30
  rw [<-hD1] at u0 u1 u2
  obtain ⟨D2,hD2⟩:=A0d P1 30
  rw [<-hD2] at u2 u3 u4
  generalize y.2.tdiv 50=Q at *
  generalize pick Q 3=R at *
  by_cases hR:R=0
  ·rw [RH hR] at e2'
   rw [RE hR] at b6
   rw [e2'] at b5
   have u5:=f1 P1 S
   have u6:=l1 P1 S
   have u7:=t1 P1 S P2
   rw [<-hA1] at u7
   obtain ⟨D3,hD3⟩:=A0d P1 S
   rw [<-hD3] at u4 u5 u6 u7
   simp [eY,hlen,b0,b1,b2,b3,b4,b5,b6,bx,yx,y0,y1,z0,z1,u0,u1,u2,u3,u4,u5,u6,u7,q0,m1,m2,m3,hsl,c1,cl1,l2',e1,c2,st,aM,-dq,-fj,-ag,-ab,-az,-aa,-ae,-aq,-bI,-aS,-frz]
  ·rw [RK hR] at e2'
   rw [RD hR] at b6
   subst e2'
   rw [<-hA1] at u4
   simp [eY,hlen,b0,b1,b2,b3,b4,b6,bx,yx,y0,y1,z0,z1,u0,u1,u2,u3,u4,q0,m1,m2,m3,hsl,c1,cl1,l2',e1,c2,st,aM,-dq,-fj,-ag,-ab,-az,-aa,-ae,-aq,-bI,-aS,-frz]
 ·rw [RD hc] at b3
  have hcc:=hch
  unfold chO at hcc
  rw [RK hc] at hcc
  injection hcc with e1' e2'
  subst e1'; subst e2'
  rw [<-hA1] at u0
  simp [eY,hlen,b0,b1,b2,b3,b4,bx,u0,hsl,c1,cl1,l2',e1,c2,st,-dq,-fj,-ag,-ab,-az,-aa,-ae,-aq,-bI,-aS,-frz]
theorem J8 (hys:∀y∈ys,inI y.1/\inI y.2) (hy:SlA 2 (ys.map chA) yv) {p q r:Int}:∀(c i:Nat) (A:ac) (m:Nat),i+c=nOf ys->I27 A ((List.range i).map (chO ys)) p q r->c<m ->
  ∃B,bM (evC (aw GC jg) 300 eY) oT m (rS yv (.ptr 1 0 0) (.ptr 2 0 0) (.int .i64 (i:Int))) A=some (.exit 0 ((rS yv (.ptr 1 0 0) (.ptr 2 0 0) (.int .i64 (nOf ys:Int))).set 7 (.bool false)) B)/\I27 B ((List.range (nOf ys)).map (chO ys)) p q r:=by
 have hn4:=uz ys
 intro c
 induction c with
 | zero=>
  intro i A m hi hI hm
  obtain ⟨m,rfl⟩:∃j,m=j+1:=⟨m-1,by omega⟩
  obtain rfl:i=nOf ys:=by omega
  refine ⟨A,?_,hI⟩
  have hlen:=hy.len
  rw [RN] at hlen
  obtain ⟨b0,b1⟩:=b27 ys
  have b2:=a9 (nOf ys) (nOf ys) .i64
  rw [RD (by omega)] at b2
  obtain ⟨mm,hmm⟩:∃n,n=min ys.length 4:=⟨_,rfl⟩
  rw [<-hmm] at b0 b1
  rw [aD,Cl]
  simp [eY,hlen,b0,b1,b2,-ag,-dq,-fj,-aq]
 | succ c ih=>
  intro i A m hi hI hm
  obtain ⟨m,rfl⟩:∃j,m=j+1:=⟨m-1,by omega⟩
  obtain ⟨B,h1,h2⟩:=wx hys hy hI (i:=i) (by omega) (by simp; omega)
  have e:(List.range i).map (chO ys)++[chO ys i]=(List.range (i+1)).map (chO ys):=by rw [Te,SH]; rfl
  rw [e] at h2
  obtain ⟨C,h3,h4⟩:=ih (i+1) B m (by omega) h2 (by omega)
  refine ⟨C,?_,h4⟩
  rw [aD,Cl,h1]
  exact h3
def M27:aU:=fun args=>evP (aw GC jg) 300 DR 4 args
theorem xz:ax Try.prog GC 27 M27:=ax.of_ev (E:=aw GC jg) (ay td) rfl Qa BW 4 fun _ _ h=>⟨300,h⟩
theorem Eo {A:ac} {v:AV} {xs:List (Int × Int)} (h:MR A v xs) (k:Nat):frz A (k+3) v=slA 2 (xs.map chA):=by
 rcases h with ⟨rfl,rfl⟩ | ⟨id,gr,rfl,hne,_,hr⟩
 ·rfl
 ·have e:((xs.map chA).drop 0).take xs.length=xs.map chA:=by
   rw [RT]
   conv=>lhs; rw [show xs.length=(xs.map chA).length by simp]
   rw [Se]
  have hm:(xs.map chA).map (frz A (k+2))=xs.map chA:=by
   rw [Tc]
   exact Sb fun x _=>by simp [chA,frz]
  rw [show k+3=(k+2)+1 from rfl]
  simp only [frz,hr]
  rw [e,hm]
  cases xs with
  | nil=>exact absurd rfl hne
  | cons x r=>rfl
def mkA (ys:List (Int × Int)) (a b c:Int):AV:=af (mkT ys a b c) (slA 2 ((mkT ys a b c).ch.map chA))
theorem yH (hys:∀y∈ys,inI y.1/\inI y.2) (hy:SlA 2 (ys.map chA) yv) {a c:Int} (ha:inI a) (hb:inI b) (hc:inI c):M27 [yv,.agg [.int .i64 a,.int .i64 b,.int .i64 c]]=some (mkA ys a b c):=by
 have m1:=dH ha (n:=4) (by omega)
 have m2:=dH hb (n:=4) (by omega)
 have m3:=dH hc (n:=5) (by omega)
 have hmk:mkA ys a b c=.agg [slA 2 (((List.range (nOf ys)).map (chO ys)).map chA),.int .i64 (pick a 4),.int .i64 (pick b 4),.int .i64 (pick c 5),.int .i64 1]:=rfl
 rw [hmk]
 obtain ⟨q1,h1⟩:∃z,z=pick a 4:=⟨_,rfl⟩
 obtain ⟨q2,h2⟩:∃z,z=pick b 4:=⟨_,rfl⟩
 obtain ⟨q3,h3⟩:∃z,z=pick c 5:=⟨_,rfl⟩
 rw [<-h1] at m1 ⊢
 rw [<-h2] at m2 ⊢
 rw [<-h3] at m3 ⊢
 obtain ⟨B,lp,⟨k1,v,k2,k3⟩⟩:=J8 hys hy (p:=q1) (q:=q2) (r:=q3) (nOf ys) 0 [.row 3 false [.agg [.int .i64 a,.int .i64 b,.int .i64 c]],.row 5 false [.agg [.nilS,.int .i64 0,.int .i64 0,.int .i64 0,.int .i64 0]],.row 5 false [.agg [.nilS,.int .i64 q1,.int .i64 q2,.int .i64 q3,.int .i64 1]]] 300 (by omega) ⟨rfl,.nilS,rfl,.inl ⟨rfl,rfl⟩⟩ (by have:=uz ys; omega)
 rw [show ((0:Nat):Int)=0 from rfl] at lp
 have e1:ab true 5 B (.ptr 2 0 0)=some (.agg [v,.int .i64 q1,.int .i64 q2,.int .i64 q3,.int .i64 1]):=by simp [ab,k2]
 have kl:=(Rv.1 k1).1
 have st:az 5 B (.ptr 1 0 0) (.agg [v,.int .i64 q1,.int .i64 q2,.int .i64 q3,.int .i64 1])=some (B.set 1 (.row 5 false [.agg [v,.int .i64 q1,.int .i64 q2,.int .i64 q3,.int .i64 1]])):=by simp [az,k1,bq]
 have k3':MR (B.set 1 (.row 5 false [.agg [v,.int .i64 q1,.int .i64 q2,.int .i64 q3,.int .i64 1]])) v ((List.range (nOf ys)).map (chO ys)):=by
  rcases k3 with k3 | ⟨id,gr,a,b,c,d⟩
  ·exact .inl k3
  ·exact .inr ⟨id,gr,a,b,c,by rw [RF (by omega)]; exact d⟩
 have f1:=Eo k3' 0
 have e2:ab true 5 (B.set 1 (.row 5 false [.agg [v,.int .i64 q1,.int .i64 q2,.int .i64 q3,.int .i64 1]])) (.ptr 1 0 0)=some (.agg [v,.int .i64 q1,.int .i64 q2,.int .i64 q3,.int .i64 1]):=by simp [ab,kl]
 obtain ⟨C,hC⟩:∃X,X=B.set 1 (.row 5 false [.agg [v,.int .i64 q1,.int .i64 q2,.int .i64 q3,.int .i64 1]]):=⟨_,rfl⟩
 rw [<-hC] at st e2 f1
 have F1:frz C 4 (.agg [v,.int .i64 q1,.int .i64 q2,.int .i64 q3,.int .i64 1])=.agg [slA 2 (((List.range (nOf ys)).map (chO ys)).map chA),.int .i64 q1,.int .i64 q2,.int .i64 q3,.int .i64 1]:=by
  rw [<-f1]; rfl
 rw [hC] at F1
 have k1g:B[1]=.row 5 false [.agg [.nilS,.int .i64 0,.int .i64 0,.int .i64 0,.int .i64 0]]:=by
  rw [Rx kl] at k1; injection k1
 unfold M27
 rw [aN _ _ rfl]
 simp [DR,dy,m1,m2,m3,aM,Ks lp,k1g,k2,kl,F1,-frz,-ag]
end Tr
namespace Tr
open Go
open Cy (GC aM bc aA dH)
open Clu (aT aY af chA aZ dP bK cB bA bL aK bC)
def rdO (xs:List Int) (i:Nat):Int:=if i<xs.length/\0<pick (xs.getD i 0) 4 then pick ((xs.getD i 0).tdiv 4) 120 else -1
def rdM (n:Nat) (xs:List Int):List Int:=(List.range n).map (rdO xs)
theorem Hz (n:Nat) (xs:List Int):(rdM n xs).length=n:=by simp [rdM]
def rI (f:Nat->Int) (n i:Nat):List Int:=(List.range i).map f++List.replicate (n-i) 0
theorem JN (f:Nat->Int) {n:Nat} (h:i<=n):(rI f n i).length=n:=by simp [rI]; omega
theorem JM (f:Nat->Int) {n:Nat} (h:i<n):(rI f n i).set i (f i)=rI f n (i+1):=by
 unfold rI
 rw [R8 _ _ (by simp)]
 obtain ⟨m,hm⟩:∃m,n-i=m+1:=⟨n-i-1,by omega⟩
 rw [hm,show n-(i+1)=m by omega,Te]
 simp [TS]
theorem HD (f:Nat->Int) (n:Nat):rI f n n=(List.range n).map f:=by simp [rI]
theorem HC (f:Nat->Int) (n:Nat):rI f n 0=List.replicate n 0:=by simp [rI]
def M28:aU:=fun args=>evP (aw GC jg) 300 Nt 4 args
theorem Jw:ax Try.prog GC 28 M28:=ax.of_ev (E:=aw GC jg) (ay td) rfl at28 Lh 4 fun _ _ h=>⟨300,h⟩
def A28 (tv:AV) (l:List Int):ac:=[.row 5 false [tv],.row 1 false (aj l)]
theorem Hr {tv:AV} {xs:List Int} (hx:SlA 1 (aj xs) xv) (hxi:∀z∈xs,inI z) {n i:Nat} (hn:n<=100) (hi:i<n) :
  run (aw GC jg) 300 [.code lZ] (rR xv (.sl 1 0 n) (.int .i64 (i:Int))) (A28 tv (rI (rdO xs) n i))=some (.normal (rR xv (.sl 1 0 n) (.int .i64 ((i+1:Nat):Int))) (A28 tv (rI (rdO xs) n (i+1)))):=by
 have hr:∀l,(A28 tv l)[1]?=some (.row 1 false (aj l)):=fun l=>rfl
 have hset:∀l l',(A28 tv l).set 1 (.row 1 false (aj l'))=A28 tv l':=fun l l'=>rfl
 have hl:=JN (rdO xs) (n:=n) (i:=i) (by omega)
 have hll:=hx.len
 rw [aA] at hll
 have b0:=a9 i n .i64
 rw [RE hi] at b0
 have b1:=a9 i xs.length .i64
 have b2:=aV i (by omega)
 have hS:aq (.sl 1 0 n)=some (.int .i64 (n:Int)):=rfl
 have i0:=cE (n:=n) (hr (rI (rdO xs) n i)) hi .i64
 have s0:=iH (hr (rI (rdO xs) n i)) (show i<(rI (rdO xs) n i).length by omega) (-1)
 rw [hset] at s0
 obtain ⟨L1,hL1⟩:∃L,L=(rI (rdO xs) n i).set i (-1):=⟨_,rfl⟩
 rw [<-hL1] at s0
 have hl1:L1.length=n:=by rw [hL1,Sm,hl]
 have i1:=cE (n:=n) (hr L1) hi .i64
 have ii:∃j,j=i+1:=⟨_,rfl⟩
 obtain ⟨j,hj⟩:=ii
 have e0:=JM (rdO xs) hi
 rw [<-hj] at b2 e0 ⊢
 by_cases hc:i<xs.length
 ·rw [RE hc] at b1
  obtain ⟨y,hy⟩:∃y,y=xs[i]:=⟨_,rfl⟩
  have hyg:xs.getD i 0=y:=by rw [Rw,Rx hc,hy]; rfl
  have hyi:inI y:=by rw [hy]; exact hxi _ (RM hc)
  have x1:∀A,ae 1 A xv (.int .i64 (i:Int))=some (.fp [.int .i64 y]):=fun A=>by
   rw [hy]
   exact hx.index1 (A:=A) (x:=.int .i64 xs[i]) (i:=i) (by simp [aj,hc]) rfl rfl .i64
  have l1:∀A,ab false 1 A (.fp [.int .i64 y])=some (.int .i64 y):=fun A=>rfl
  have m1:=dH hyi (n:=4) (by omega)
  obtain ⟨q0,q1⟩:=At hyi (b:=4) (by omega)
  have m2:=dH q1 (n:=120) (by omega)
  have b3:=bL (pick y 4) 0
  have ef:rdO xs i=if 0<pick y 4 then pick (y.tdiv 4) 120 else -1:=by
   unfold rdO
   rw [hyg]
   by_cases h:0<pick y 4
   ·rw [RH ⟨hc,h⟩,RH h]
   ·rw [RK (fun hh=>h hh.2),RK h]
  generalize y.tdiv 4=Q at *
  generalize pick y 4=R at *
  generalize pick Q 120=V at *
  by_cases hR:0<R
  ·rw [RH hR] at ef
   rw [RE hR] at b3
   have s1:=iH (hr L1) (show i<L1.length by omega) V
   rw [hset,hL1,Ua,<-hL1,<-ef,e0] at s1
   rw [ef] at s1
   generalize A28 tv (rI (rdO xs) n i)=B0 at *
   generalize A28 tv L1=B1 at *
   generalize A28 tv (rI (rdO xs) n j)=B2 at *
   simp [lZ,hll,hS,b0,b1,b2,b3,i0,s0,i1,s1,x1,l1,q0,m1,m2,aM,-ag,-ab,-az,-ae,-aq,-frz]
  ·rw [RK hR] at ef
   rw [RD hR] at b3
   rw [hL1,<-ef,e0] at s0
   rw [ef] at s0
   generalize A28 tv (rI (rdO xs) n i)=B0 at *
   generalize A28 tv (rI (rdO xs) n j)=B2 at *
   simp [lZ,hll,hS,b0,b1,b2,b3,i0,s0,x1,l1,m1,aM,-ag,-ab,-az,-ae,-aq,-frz]
 ·rw [RD hc] at b1
  have ef:rdO xs i = -1:=by unfold rdO; rw [RK (fun h=>hc h.1)]
  rw [hL1,<-ef,e0] at s0
  rw [ef] at s0
  generalize A28 tv (rI (rdO xs) n i)=B0 at *
  generalize A28 tv (rI (rdO xs) n j)=B2 at *
  simp [lZ,hll,hS,b0,b1,b2,i0,s0,-ag,-ab,-az,-ae,-aq,-frz]
theorem J7 {tv:AV} {xs:List Int} (hx:SlA 1 (aj xs) xv) (hxi:∀z∈xs,inI z) {n:Nat} (hn:n<=100):∀(c i m:Nat),i+c=n->c<m ->
  bM (evC (aw GC jg) 300 lZ) oS m (rR xv (.sl 1 0 n) (.int .i64 (i:Int))) (A28 tv (rI (rdO xs) n i))=some (.exit 0 ((rR xv (.sl 1 0 n) (.int .i64 (n:Int))).set 6 (.bool false)) (A28 tv (rI (rdO xs) n n))):=by
 intro c
 induction c with
 | zero=>
  intro i m hi hm
  obtain ⟨m,rfl⟩:∃j,m=j+1:=⟨m-1,by omega⟩
  obtain rfl:i=n:=by omega
  have b2:=a9 i i .i64
  rw [RD (by omega)] at b2
  rw [aD,Cj]
  simp [lZ,b2,-ag]
 | succ c ih=>
  intro i m hi hm
  obtain ⟨m,rfl⟩:∃j,m=j+1:=⟨m-1,by omega⟩
  rw [aD,Cj,Hr hx hxi hn (by omega)]
  exact ih (i+1) m (by omega) (by omega)
theorem Me {T:aT} (hb:SlA 2 (T.ch.map chA) chv) (hl:T.ch.length<=100) (hl1:1<=T.ch.length) {xs:List Int} (hx:SlA 1 (aj xs) xv) (hxi:∀z∈xs,inI z):M28 [af T chv,xv]=some (.fs 1 (aj (rdM T.ch.length xs))):=by
 have lp:=J7 (tv:=af T chv) hx hxi hl T.ch.length 0 300 (by omega) (by omega)
 rw [HC,HD,show ((0:Nat):Int)=0 from rfl] at lp
 have lnc:=hb.len
 rw [RN] at lnc
 have bx0:aS 5 (af T chv) []=some (.ptr 0 0 0,[.row 5 false [af T chv]]):=rfl
 have ct:(cellsOf (af T chv)).length=5:=rfl
 obtain ⟨n,hn⟩:∃n,n=T.ch.length:=⟨_,rfl⟩
 rw [<-hn] at lp lnc hl hl1 ⊢
 have mk:bU 1 8 (.int .i64 0) [.row 5 false [af T chv]] (.int .i64 (n:Int)) (.int .i64 (n:Int))=some (.sl 1 0 n,A28 (af T chv) (List.replicate n 0)):=by
  simp [bU,A28,aj]
  omega
 have fa0:aa 0 [.row 5 false [af T chv]] (.ptr 0 0 0)=some (.ptr 0 0 0):=rfl
 have lch:ab false 1 [.row 5 false [af T chv]] (.ptr 0 0 0)=some chv:=by
  rcases hb with ⟨rfl,_⟩ | rfl <;> rfl
 have ff:frz (A28 (af T chv) (rdM n xs)) 4 (.sl 1 0 n)=.fs 1 (aj (rdM n xs)):=by
  have hrow:(A28 (af T chv) (rdM n xs))[1]?=some (.row 1 false (aj (rdM n xs))):=rfl
  have:=dz (off:=0) (xs:=aj (rdM n xs)) hrow (by rw [RT]; exact RX (by simp [aj,rdM])) (fun k x hx=>by
   obtain ⟨c,_,rfl⟩:=Sa.1 hx
   exact aM _ _ _ _) 2
  have e:(aj (rdM n xs)).length=n:=by simp [aj,rdM]
  rw [e] at this
  exact this
 rw [show (List.range n).map (rdO xs)=rdM n xs from rfl] at lp
 generalize af T chv=tv at *
 generalize A28 tv (rdM n xs)=B1 at *
 generalize A28 tv (List.replicate n 0)=B0 at *
 unfold M28
 rw [aN _ _ rfl]
 simp [Nt,bx0,ct,fa0,lch,lnc,mk,Kr lp,ff,-aS,-aa,-ab,-bU,-frz,-ag,-cellsOf,-aq]
def Z5:List (FuncId × aJ):=[(27,aG 4 M27),(28,aG 4 M28),(21,aG 4 Cy.M12)]
@[simp] theorem PE:aE Z5 27=some (aG 4 M27):=rfl
@[simp] theorem PD:aE Z5 28=some (aG 4 M28):=rfl
@[simp] theorem PF:aE Z5 21=some (aG 4 Cy.M12):=rfl
theorem Hc:∀f M,aE Z5 f=some M->au Try.prog GC f M:=ai (au.of_pure xz 4) (ai (au.of_pure Jw 4) (ai (au.of_pure Cy.EL 4) aB))
def M13:aU:=fun args=>evP (aw GC Z5) 300 Nu 4 args
theorem JB:ax Try.prog GC 13 M13:=ax.of_ev (E:=aw GC Z5) (ay Hc) rfl at13 Lm 4 fun _ _ h=>⟨300,h⟩
structure XC where
 ys:List (Int × Int)
 a:Int
 b:Int
 c:Int
 rd:List Int
 free:Int
structure XV (x:XC) (yv rv:AV):Prop where
 y:SlA 2 (x.ys.map chA) yv
 yi:∀y∈x.ys,inI y.1/\inI y.2
 a:inI x.a
 b:inI x.b
 c:inI x.c
 r:SlA 1 (aj x.rd) rv
 ri:∀z∈x.rd,inI z
 f:inI x.free
def XC.A (x:XC) (yv rv:AV):AV:=.agg [yv,.int .i64 x.a,.int .i64 x.b,.int .i64 x.c,rv,.int .i64 x.free]
def XC.T (x:XC):aT:=mkT x.ys x.a x.b x.c
def XC.n (x:XC):Nat:=x.T.ch.length
def XC.R (x:XC):List Int:=rdM x.n x.rd
def XC.F (x:XC):Int:=pick x.free 60
def XC.ch (x:XC):AV:=slA 2 (x.T.ch.map chA)
def XC.tv (x:XC):AV:=af x.T x.ch
def XC.rv (x:XC):AV:=.fs 1 (aj x.R)
theorem XC.nb (x:XC):1<=x.n/\x.n<=4:=by
 have:=uz x.ys
 unfold XC.n XC.T
 rw [AD]
 exact this
theorem XC.chS (x:XC):SlA 2 (x.T.ch.map chA) x.ch:=ba _ _
theorem XC.chl (x:XC):x.T.ch.length<=200:=by have:=x.nb; unfold XC.n at this; omega
theorem XC.rvS (x:XC):SlA 1 (aj x.R) x.rv:=.inr rfl
theorem XC.Rl (x:XC):x.R.length<=200:=by have:=x.nb; rw [XC.R,Hz]; omega
theorem XC.tfrz (x:XC) (A:ac):frz A 4 x.tv=x.tv:=aK (fun A n=>x.chS.frz (A:=A) n) A 3
theorem XC.tref (x:XC):bu 4 x.tv=true:=bC (fun n=>x.chS.noRef n) 3
theorem XC.rfrz (x:XC) (A:ac) (n:Nat):frz A n x.rv=x.rv:=x.rvS.frz n
theorem XC.rref (x:XC) (n:Nat):bu n x.rv=true:=x.rvS.noRef n
def y9 (x:XC):AV:=.tup [x.tv,x.rv,.int .i64 x.F]
theorem Mg {x:XC} {rv:AV} (h:XV x yv rv):M13 [x.A yv rv]=some (y9 x):=by
 have m1:=yH h.yi h.y h.a h.b h.c
 have m2:=Me (T:=x.T) x.chS (by have:=x.nb; unfold XC.n at this; omega) (by have:=x.nb; unfold XC.n at this; omega) h.r h.ri
 have m3:=dH h.f (n:=60) (by omega)
 have m1:M27 [yv,.agg [.int .i64 x.a,.int .i64 x.b,.int .i64 x.c]]=some x.tv:=m1
 have m2:M28 [x.tv,rv]=some x.rv:=m2
 have m3:Cy.M12 [.int .i64 x.free,.int .i64 60]=some (.int .i64 x.F):=m3
 obtain ⟨A0,hA0⟩:∃A:ac,A=[.row 6 false [x.A yv rv]]:=⟨_,rfl⟩
 have hy:=jX h.y
 have hr:=jX h.r
 have f1:∀A,frz A 4 x.tv=x.tv:=x.tfrz
 have f2:∀A n,frz A n x.rv=x.rv:=x.rfrz
 have f3:∀A n,frz A n yv=yv:=fun A n=>h.y.frz n
 have f4:∀A n,frz A n rv=rv:=fun A n=>h.r.frz n
 have n1:=x.tref
 have n2:=x.rref
 have n3:∀n,bu n yv=true:=fun n=>h.y.noRef n
 have n4:∀n,bu n rv=true:=fun n=>h.r.noRef n
 have ff:∀A,frz A 4 (y9 x)=y9 x:=fun A=>by
  have q1:frz A 3 x.tv=x.tv:=aK (fun A n=>x.chS.frz (A:=A) n) A 2
  simp [y9,frz,q1,f2]
 have q1:∀A,frz A 3 x.tv=x.tv:=fun A=>aK (fun A n=>x.chS.frz (A:=A) n) A 2
 have ct:cellsOf x.tv=[x.ch,.int .i64 x.T.pick,.int .i64 x.T.place,.int .i64 x.T.travel,.int .i64 1]:=by
  have:=(uB x.ys x.a x.b x.c).2
  show [x.ch,_,_,_,.int .i64 x.T.blades]=_
  rw [show x.T.blades=1 from this]
 have et:x.tv=.agg [x.ch,.int .i64 x.T.pick,.int .i64 x.T.place,.int .i64 x.T.travel,.int .i64 1]:=by
  have:=(uB x.ys x.a x.b x.c).2
  show AV.agg [x.ch,_,_,_,.int .i64 x.T.blades]=_
  rw [show x.T.blades=1 from this]
 obtain ⟨c1,c2⟩:=jX x.chS
 have n5:∀n,bu n x.ch=true:=fun n=>x.chS.noRef n
 have le:cA (.agg [yv,.int .i64 x.a,.int .i64 x.b,.int .i64 x.c,rv,.int .i64 x.free]) 6 1 true 3=some (.agg [.int .i64 x.a,.int .i64 x.b,.int .i64 x.c]):=by
  rcases h.y with ⟨rfl,_⟩ | rfl <;> rcases h.r with ⟨rfl,_⟩ | rfl <;> rfl
 unfold y9 at ff ⊢
 generalize x.rv=RV at *
 generalize x.F=FV at *
 generalize x.tv=TV at *
 subst et
 generalize x.ch=CH at *
 generalize x.T.pick=p1 at *
 generalize x.T.place=p2 at *
 generalize x.T.travel=p3 at *
 have f5:∀A,frz A 4 (.agg [.int .i64 x.a,.int .i64 x.b,.int .i64 x.c])=.agg [.int .i64 x.a,.int .i64 x.b,.int .i64 x.c]:=fun A=>rfl
 unfold M13
 rw [aN _ _ rfl]
 unfold XC.A
 simp [Nu,le,ff,f5,f1,f3,f4,n3,n4,n5,m1,m2,m3,aM,-frz]
end Tr
namespace Tr
open Go
open Cy (GC aM bc aA dH lvM ew tE vZ)
open Clu (aT aY c9 Chk t6 af chA xF jU rG mO CF pU pT)
def IB:aU:=fun args=>evF (aw GC ((14,H14 0) :: it)) 300 mY 4 args
theorem GK:cm Try.prog GC 14 IB:=cm.of_ev (E:=aw GC ((14,H14 0) :: it)) (ay tg) rfl Er mK 4 fun _ _ h=>⟨300,h⟩
theorem zj (B:ac) (n:Nat) (t:cO):bo B (n+1) (aL t)=true:=by simp [aL,bo]
theorem C4 {T:aT} {rdv:AV} {free lost:Int} (hb:SlA 2 (T.ch.map chA) chv) (hr:SlA 1 (aj rd) rdv) (hTl:T.ch.length<=200) (hrl:rd.length<=200) :
  ∃v,IB [af T chv,rdv,.int .i64 free,.int .i64 lost]=some (.tup [v,.bool (cu T rd free lost).isSome])/\SlA 2 (((cu T rd free lost).getD []).map aL) v:=by
 have hT:Tl [] T chv chv:=⟨.inl hb,fun X=>Clu.aK (fun A n=>hb.frz (A:=A) n) _ 3,hb⟩
 have hR:Rl [] rd rdv rdv:=⟨.inl hr,fun X=>hr.frz 4,hr⟩
 obtain ⟨v,B,h1,_,h2⟩:=qK (free:=free) (lost:=lost) hT hR hTl hrl
 obtain ⟨v',k1,k2⟩:=ot (free:=free) (lost:=lost) hb hr hTl hrl
 refine ⟨v',?_,k2⟩
 unfold M14 evP at k1
 rw [h1] at k1
 simp only [Ss] at k1
 unfold IB evF
 rw [h1]
 simp only [Sn]
 rw [RH]
 ·exact k1
 ·rcases h2 with ⟨rfl,_⟩ | ⟨i,_,rfl,hrow⟩
  ·rfl
  ·have:bo B 3 (.sl i 0 ((cu T rd free lost).getD []).length)=true:=by
    simp only [bo,hrow]
    rw [RZ]
    intro y hy
    obtain ⟨t,_,rfl⟩:=Sa.1 (List.mem_of_mem_drop (List.mem_of_mem_take hy))
    exact zj B 1 t
   show (bo B 3 _ && (bo B 3 (.bool _) && true))=true
   rw [this]; rfl
def fsL:List (FuncId × aJ):=[(11,aG 4 M11),(13,aG 4 M13),(14,cJ 4 IB),(16,aG 4 M16),(17,aG 4 M17),(21,aG 4 Cy.M12),(22,aG 4 M22),(23,aG 4 Clu.M22),(24,aG 4 M24),(25,aG 4 M25)]
@[simp] theorem Q3:aE fsL 11=some (aG 4 M11):=rfl
@[simp] theorem Q2:aE fsL 13=some (aG 4 M13):=rfl
@[simp] theorem Q1:aE fsL 14=some (cJ 4 IB):=rfl
@[simp] theorem Q0:aE fsL 16=some (aG 4 M16):=rfl
@[simp] theorem QZ:aE fsL 17=some (aG 4 M17):=rfl
@[simp] theorem QY:aE fsL 21=some (aG 4 Cy.M12):=rfl
@[simp] theorem QX:aE fsL 22=some (aG 4 M22):=rfl
@[simp] theorem QW:aE fsL 23=some (aG 4 Clu.M22):=rfl
@[simp] theorem QV:aE fsL 24=some (aG 4 M24):=rfl
@[simp] theorem QU:aE fsL 25=some (aG 4 M25):=rfl
theorem JD:∀f M,aE fsL f=some M->au Try.prog GC f M:=ai (au.of_pure JC 4) (ai (au.of_pure JB 4) (ai (au.of_pureF GK 4) (ai (au.of_pure nL 4) (ai (au.of_pure xA 4) (ai (au.of_pure Cy.EL 4) (ai (au.of_pure rY 4) (ai (au.of_pure Clu.rY 4) (ai (au.of_pure Ag 4) (ai (au.of_pure EK 4) aB)))))))))
@[simp] theorem QF:M11 []=some (.bool true):=rfl
theorem Gv {n:Nat} (h:TA Try.prog (n+2) 46 x):∃y:Int × Int,x=chA y/\inI y.1/\inI y.2:=by
 obtain ⟨ls,rfl,hc,hl⟩:=TA.agg (show q7 Try.prog 46=true by kernel_rfl) h
 simp only [TC,Try.underlying46] at hc
 rw [show Try.prog.cellsOf 3=1 by kernel_rfl] at hc
 simp only [TCa,Try.underlying3] at hc
 obtain ⟨_,_,rfl,⟨a,rfl,ha⟩,_,_,_,rfl,⟨b,rfl,hb⟩,_,rfl⟩:=hc
 exact ⟨(a,b),rfl,ha,hb⟩
theorem Dq {raw:AV} {n:Nat} (h:TA Try.prog (n+3) 27 raw):∃ys:List (Int × Int),SlA 2 (ys.map chA) raw/\(∀y∈ys,inI y.1/\inI y.2)/\ys.length<=9223372036854775807:=by
 obtain ⟨es,h1,h2,h3⟩:=TA.sl Try.underlying27 h
 rw [show Try.prog.cellsOf 46=2 by kernel_rfl] at h1
 obtain ⟨ys,rfl,hy⟩:=eu (f:=chA) (p:=fun y=>inI y.1/\inI y.2) fun x hx=>Gv (n:=n) (h3 x hx)
 exact ⟨ys,h1,hy,by simpa using h2⟩
theorem xV {n:Nat} (h:TA Try.prog (n+1) 25 x):∃zs:List Int,SlA 1 (aj zs) x/\zs.length<=9223372036854775807/\∀z∈zs,inI z:=
 TA.ints Try.underlying25 Try.underlying3 (by kernel_rfl) h
theorem AW {n:Nat} (h:TC Try.prog (n+1) 25 ls) (hl:ls.length=Try.prog.cellsOf 25):∃(x:AV) (zs:List Int),ls=[x]/\SlA 1 (aj zs) x/\zs.length<=9223372036854775807/\∀z∈zs,inI z:=by
 rw [show Try.prog.cellsOf 25=1 by kernel_rfl] at hl
 obtain ⟨x,rfl⟩:=List.length_eq_one_iff.1 hl
 obtain ⟨zs,h1,h2,h3⟩:=xV (n:=n) (x:=x) ⟨[x],h,by rw [show Try.prog.cellsOf 25=1 by kernel_rfl]; rfl,by
  unfold gm
  rw [RK (by rw [show q7 Try.prog 25=false by kernel_rfl]; simp)]; rfl⟩
 exact ⟨x,zs,rfl,h1,h2,h3⟩
theorem zP {n:Nat} (h:TC Try.prog (n+3) 27 ls) (hl:ls.length=Try.prog.cellsOf 27):∃(x:AV) (ys:List (Int × Int)),ls=[x]/\SlA 2 (ys.map chA) x/\∀y∈ys,inI y.1/\inI y.2:=by
 rw [show Try.prog.cellsOf 27=1 by kernel_rfl] at hl
 obtain ⟨x,rfl⟩:=List.length_eq_one_iff.1 hl
 obtain ⟨zs,h1,h2,h3⟩:=Dq (n:=n) (raw:=x) ⟨[x],h,by rw [show Try.prog.cellsOf 27=1 by kernel_rfl]; rfl,by
  unfold gm
  rw [RK (by rw [show q7 Try.prog 27=false by kernel_rfl]; simp)]; rfl⟩
 exact ⟨x,zs,rfl,h1,h2⟩
theorem yO {n:Nat} (h:TC Try.prog (n+2) 28 ls):∃a b c:Int,ls=[.int .i64 a,.int .i64 b,.int .i64 c]/\inI a/\inI b/\inI c:=by
 simp only [TC,Try.underlying28] at h
 rw [show Try.prog.cellsOf 3=1 by kernel_rfl] at h
 simp only [TCa,Try.underlying3] at h
 obtain ⟨_,_,rfl,⟨a,rfl,ha⟩,_,_,_,rfl,⟨b,rfl,hb⟩,_,_,_,rfl,⟨c,rfl,hc⟩,_,rfl⟩:=h
 exact ⟨a,b,c,rfl,ha,hb,hc⟩
theorem Ep {n:Nat} (h:TA Try.prog (n+5) 30 x):∃X yv rv,x=XC.A X yv rv/\XV X yv rv:=by
 obtain ⟨ls,rfl,hc,hl⟩:=TA.agg (show q7 Try.prog 30=true by kernel_rfl) h
 rw [show n+5=(n+4)+1 from rfl] at hc
 unfold TC at hc
 rw [Try.underlying30] at hc
 simp only [TCs] at hc
 obtain ⟨a,_,rfl,ha,la,b,_,rfl,hb,lb,c,_,rfl,hc,lc,d,_,rfl,hd,ld,rfl⟩:=hc
 obtain ⟨yv,ys,rfl,y1,y2⟩:=zP (n:=n+1) ha la
 obtain ⟨p,q,r,rfl,p1,q1,r1⟩:=yO (n:=n+2) hb
 obtain ⟨rv,zr,rfl,s1,s2,s3⟩:=AW (n:=n+3) hc lc
 simp only [TC,Try.underlying3] at hd
 obtain ⟨z,rfl,hz⟩:=hd
 exact ⟨⟨ys,p,q,r,zr,z⟩,yv,rv,rfl,y1,y2,p1,q1,r1,s1,s3,hz⟩
theorem ownK:ownKnob Try.prog.godebug=none:=by kernel_rfl
theorem NG {W:World} {OK:Nat->Prop}:Gm GC W OK:=fun gl cs h=>by simp [GC] at h
def qm (os:Os):World:=World.holding Try.prog os ⟨#[],#[],[]⟩
end Tr
namespace Tr
open Go
def DS:cI:=⟨1,3,.seq (.region [.D 1 0,.N 2 5]) (.seq (.region [.d 0 1,.b 1 0,.d 0 1,.b 1 2,.v 3,.qn (.minmax false (.tmp 4) [.cst (.int .i64 5)]),.an 2 1 5,.d 0 1,.A 1 7 6]) (.seq (.region [.l 5 1,.r 5 2 0]) .ret)),[.cell 2 true 5]⟩
theorem BZ:aH Try.prog Try.f12 1 [0,1,2] [] true ([],[])=some DS:=by kernel_rfl
theorem Qd:Try.prog.funcs[12]?=some Try.f12:=by kernel_rfl
def jc:MC:=.seq (.seq (.region [.a 11,.a 3,.v 1,.F 16 0 2]) (.cond (.var 16) .skip (.exit 0))) (.seq (.seq (.block 1 (.seq (.region [.a 3,.a 11,.e 2 0 1,.K 2 2,.ah 12 2,.r 2 12 3]) (.seq (.region [.a 10,.d 3 4,.b 1 1,.o 0 2,.c 13 3]) (.seq (.seq (.region [.a 11,.qn (.bin .gtr (.tmp 0) (.cst (.int .i64 0))),.h 1,.O 0 12 2,.x 1 3 2,.k 3 2,.k 11 2,.a9 6 1 2,.L 2 5 7 2,.ak 0 8 2,.x 1 9 2,.au 10 1 2,.br 4 11 2,.Z 17 2 12]) (.cond (.var 17) (.region [.a 10,.c 13 0]) .skip)) (.seq (.seq (.region [.d 0 12,.b 1 0,.a 7,.am 36 1 2,.W 3,.h 4,.y 1 12 5,.q 1 6 5,.n 13 5,.ar 36 7 8 5,.H 9 5,.C 18 5 10]) (.cond (.var 18) (.seq (.region [.f 5 0,.g 6]) .ret) .skip)) (.seq (.seq (.region [.d 0 12,.b 1 0,.ae 19 1 0]) (.cond (.var 19) (.seq (.region [.d 0 12,.b 1 0,.s 1 1,.c 14 2]) (.seq (.seq (.region [.a 8,.a 14,.e 1 0 1,.b 1 2,.af 3 0,.h 4,.y 1 12 5,.q 1 6 5,.n 8 5,.n 14 5,.U 1 8 9 5,.q 1 10 5,.n 8 5,.n 14 5,.U 1 12 13 5,.q 1 14 5,.y 0 4 5,.q 1 16 5,.n 14 5,.U 2 17 18 5,.b4 1 19 5,.q 1 20 5,.av 15 21 5,.ao 36 7 11 22 5,.H 23 5,.C 20 5 24]) (.cond (.var 20) (.seq (.region [.f 5 0,.g 6]) .ret) .skip)) (.region [.a 8,.a 14,.e 1 0 1,.aq 1 2 (-1)]))) .skip)) (.seq (.region [.d 1 12,.b 1 0,.a 9,.o 1 2,.c 10 3]) (.seq (.region [.d 0 12,.b 1 0,.a 7,.F 21 1 2]) (.cond (.var 21) (.seq (.seq (.region [.a 8,.d 0 12,.b 1 1,.e 1 0 2,.b 1 3,.ad 22 4 0]) (.cond (.var 22) (.seq (.region [.f 5 0,.g 6]) .ret) .skip)) (.region [.a 8,.d 0 12,.b 1 1,.a 10,.d 0 4,.b 1 4,.d 0 12,.b 1 6,.e 2 5 7,.m 0 8,.b 1 9,.o 3 10,.e 1 0 2,.A 1 12 11])) .skip))))))))) (.kill [0,1,2,5,6,12,13,14,15,16,17,18,19,20,21,22])) (.region [.a 11,.i 0 1,.c 11 1]))
def JZ:cI:=⟨4,23,.seq (.region [.D 4 0,.f 5 0,.g 6]) (.seq (.seq (.region [.l 5 4,.a 1,.a 2,.P 35 0 1 2,.V 15 3]) (.cond (.var 15) (.seq (.region [.f 5 0,.g 6]) .ret) .skip)) (.seq (.region [.d 0 4,.b 1 0,.v 1,.c 7 2]) (.seq (.region [.cl,.a 1,.ax 1 0 1,.c 8 2]) (.seq (.region [.l 5 4,.J 22 0,.c 9 1]) (.seq (.region [.a 2,.c 10 0]) (.seq (.seq (.region [.f 11 0]) (.seq (.block 0 (.loop [0,1,2,5,6,12,13,14,15,16,17,18,19,20,21,22] jc)) (.kill [0,1,2,3,4,5,6,7,8,9,11,12,13,14,15,16,17,18,19,20,21,22]))) (.seq (.region [.a 10,.c 5 0,.I 6]) .ret))))))),[.tmp 5,.tmp 6]⟩
def ik:List Nat:=[0,1,2,5,6,12,13,14,15,16,17,18,19,20,21,22]
abbrev ue (v3 v4 v7 v8 v9 v10 v11:AV):List AV:=[.undef,.undef,.undef,v3,v4,.undef,.undef,v7,v8,v9,v10,v11,.undef,.undef,.undef,.undef,.undef,.undef,.undef,.undef,.undef,.undef,.undef]
theorem Cq:clear ik [d0,d1,d2,v3,v4,d5,d6,v7,v8,v9,v10,v11,d12,d13,d14,d15,d16,d17,d18,d19,d20,d21,d22]=ue v3 v4 v7 v8 v9 v10 v11:=rfl
theorem Fr {A:ac} {k:List KC} (h:bM (evC E fuel jc) ik fuel (ue v3 v4 v7 v8 v9 v10 v11) A=some o) :
  run E fuel (.code (.loop [0,1,2,5,6,12,13,14,15,16,17,18,19,20,21,22] jc) :: k) [d0,d1,d2,v3,v4,d5,d6,v7,v8,v9,v10,v11,d12,d13,d14,d15,d16,d17,d18,d19,d20,d21,d22] A=after E fuel k o:=aQ ik _ _ (by rw [Cq]; exact h)
theorem Lk:aH Try.prog Try.f18 4 [0,1,2,3,4,8,9,10,11,12,13,14,15,16,17,22,35,59,72,75,104,115,121] [36] true ([[0,1,2,5,6,12,13,14,15,16,17,18,19,20,21,22]],[[0,1,2,5,6,12,13,14,15,16,17,18,19,20,21,22],[0,1,2,3,4,5,6,7,8,9,11,12,13,14,15,16,17,18,19,20,21,22]])=some JZ:=by kernel_rfl
theorem at18:Try.prog.funcs[18]?=some Try.f18:=by kernel_rfl
def lY:MC:=.seq (.seq (.region [.a 5,.a 1,.v 1,.F 7 0 2]) (.cond (.var 7) .skip (.exit 0))) (.seq (.seq (.block 1 (.seq (.region [.a 1,.a 5,.e 1 0 1,.b 1 2,.cc 36 3,.V 8 4]) (.cond (.var 8) (.seq (.region [.g 4]) .ret) .skip))) (.kill [0,2,3,4,6,7,8])) (.region [.a 5,.i 0 1,.c 5 1]))
def wF:cI:=⟨3,9,.seq (.region [.D 3 0,.g 4]) (.seq (.seq (.region [.l 5 3,.J 61 0,.W 1,.h 2,.n 1 3,.bc 4 3,.y 0 3 3,.q 1 6 3,.bc 7 3,.ch 5 8 3,.G 3 9,.h 10,.n 2 11,.b0 36 12 11,.H 13 11,.C 6 11 14]) (.cond (.var 6) (.seq (.region [.g 4]) .ret) .skip)) (.seq (.seq (.region [.f 5 0]) (.seq (.block 0 (.loop [0,2,3,4,6,7,8] lY)) (.kill [0,1,2,3,4,5,6,7,8]))) (.seq (.region [.I 4]) .ret))),[.tmp 4]⟩
def lN:List Nat:=[0,2,3,4,6,7,8]
abbrev pH (v1 v5:AV):List AV:=[.undef,v1,.undef,.undef,.undef,v5,.undef,.undef,.undef]
theorem vw:clear lN [d0,v1,d2,d3,d4,v5,d6,d7,d8]=pH v1 v5:=rfl
theorem Fo {A:ac} {k:List KC} (h:bM (evC E fuel lY) lN fuel (pH v1 v5) A=some o) :
  run E fuel (.code (.loop [0,2,3,4,6,7,8] lY) :: k) [d0,v1,d2,d3,d4,v5,d6,d7,d8] A=after E fuel k o:=aQ lN _ _ (by rw [vw]; exact h)
theorem vq:aH Try.prog Try.f35 3 [0,1,2,3,6,7,23,27,35] [] true ([[0,2,3,4,6,7,8]],[[0,2,3,4,6,7,8],[0,1,2,3,4,5,6,7,8]])=some wF:=by kernel_rfl
theorem LA:Try.prog.funcs[35]?=some Try.f35:=by kernel_rfl
def zC:cI:=⟨3,4,.seq (.region [.g 3]) (.seq (.region [.a 0,.a 1,.ck 0 1,.h 2,.k 0 3,.k 2 3,.bb 4 5 3,.p 3 6,.c 3 7]) .ret),[.tmp 3]⟩
theorem sO:aH Try.prog Try.f36 3 [0,1,2,6] [] true ([],[])=some zC:=by kernel_rfl
theorem IX:Try.prog.funcs[36]?=some Try.f36:=by kernel_rfl
def lW:MC:=.seq (.seq (.region [.a 12,.a 11,.F 21 0 1]) (.cond (.var 21) .skip (.exit 2))) (.seq (.seq (.block 3 (.seq (.region [.a 3,.a 12,.e 1 0 1,.b 1 2,.a 3,.a 11,.e 1 4 5,.b 1 6,.s 7 1,.ay 22 3 8]) (.cond (.var 22) (.region [.a 10,.a 11,.a 12,.e 1 0 1,.A 1 3 2]) .skip))) (.kill [0,5,6,13,14,15,16,17,18,19,20,21,22,23,24,25,26,27,28,29,30,31,32])) (.region [.a 12,.i 0 1,.c 12 1]))
def qh:MC:=.seq (.seq (.region [.a 11,.a 8,.F 20 0 1]) (.cond (.var 20) .skip (.exit 0))) (.seq (.seq (.block 1 (.seq (.region [.a 10,.a 11,.e 1 0 1,.aq 1 2 (-1)]) (.seq (.region [.f 12 0]) (.seq (.block 2 (.loop [0,5,6,13,14,15,16,17,18,19,20,21,22,23,24,25,26,27,28,29,30,31,32] lW)) (.kill [0,5,6,12,13,14,15,16,17,18,19,20,21,22,23,24,25,26,27,28,29,30,31,32]))))) (.kill [0,5,6,12,13,14,15,16,17,18,19,20,21,22,23,24,25,26,27,28,29,30,31,32])) (.region [.a 11,.i 0 1,.c 11 1]))
def jb:MC:=.seq (.seq (.region [.a 15,.a 8,.F 24 0 1]) (.cond (.var 24) .skip (.exit 6))) (.seq (.seq (.block 7 (.seq (.region [.a 2,.d 3 4,.b 1 1,.o 0 2,.c 16 3]) (.seq (.seq (.region [.a 15,.ae 25 0 0]) (.cond (.var 25) (.seq (.region [.a 9,.a 15,.s 1 1,.e 1 0 2,.b 1 3,.a 7,.o 4 5,.d 3 4,.b 1 7,.o 6 8,.c 16 9]) (.seq (.region [.a 3,.a 15,.e 1 0 1,.b 1 2,.a 3,.a 15,.s 5 1,.e 1 4 6,.b 1 7,.i 8 1,.ay 26 3 9]) (.cond (.var 26) (.region [.a 9,.a 15,.s 1 1,.e 1 0 2,.b 1 3,.a 7,.o 4 5,.c 16 6]) .skip))) .skip)) (.seq (.region [.a 3,.a 15,.e 1 0 1,.b 1 2,.s 3 1,.c 17 4]) (.seq (.seq (.region [.a 10,.a 15,.e 1 0 1,.b 1 2,.ac 27 3 0]) (.cond (.var 27) (.seq (.region [.a 16,.a 1,.a 17,.e 1 1 2,.b 1 3,.bd 0 4,.c 16 5]) (.seq (.region [.a 9,.a 15,.e 1 0 1,.b 1 2,.a 16,.bd 3 4,.a 1,.a 17,.e 1 6 7,.b 1 8,.d 0 4,.b 1 10,.a 17,.e 2 11 12,.m 1 13,.b 1 14,.o 9 15,.bl 28 5 16]) (.cond (.var 28) (.seq (.region [.w 5,.g 6]) .ret) .skip))) (.region [.a 16,.a 9,.a 10,.a 15,.e 1 2 3,.b 1 4,.e 1 1 5,.b 1 6,.a 7,.o 7 8,.d 0 4,.b 1 10,.a 17,.e 2 11 12,.m 0 13,.b 1 14,.o 9 15,.bd 0 16,.c 16 17]))) (.seq (.seq (.region [.a 16,.a 9,.a 15,.e 1 1 2,.b 1 3,.bl 29 0 4]) (.cond (.var 29) (.seq (.region [.a 9,.a 15,.a 16,.e 1 0 1,.A 1 3 2]) (.region [.I 14])) .skip)) (.seq (.region [.a 10,.a 15,.e 1 0 1,.b 1 2,.X 3 0,.h 4,.k 9 5,.k 10 5,.k 15 5,.L 1 7 8 5,.x 1 9 5,.L 1 6 10 5,.x 1 11 5,.k 9 5,.k 15 5,.L 1 13 14 5,.x 1 15 5,.k 7 5,.aw 16 17 5,.O 0 4 5,.x 1 19 5,.k 17 5,.L 2 20 21 5,.ak 0 22 5,.x 1 23 5,.aw 18 24 5,.O 0 4 5,.x 1 26 5,.k 17 5,.L 2 27 28 5,.ak 1 29 5,.x 1 30 5,.aw 25 31 5,.cj 12 32 5,.Z 30 5 33]) (.cond (.var 30) (.seq (.region [.a 9,.a 10,.a 15,.e 1 1 2,.b 1 3,.a 9,.a 15,.e 1 5 6,.b 1 7,.a 7,.ap 8 9,.d 0 4,.b 1 11,.a 17,.e 2 12 13,.m 0 14,.b 1 15,.ap 10 16,.d 0 4,.b 1 18,.a 17,.e 2 19 20,.m 1 21,.b 1 22,.ap 17 23,.e 1 0 4,.A 1 25 24]) (.region [.I 14])) .skip)))))))) (.kill [0,5,6,11,12,16,17,18,19,20,21,22,23,24,25,26,27,28,29,30,31,32])) (.region [.a 15,.i 0 1,.c 15 1]))
def qg:MC:=.seq (.seq (.region [.a 19,.a 8,.F 32 0 1]) (.cond (.var 32) .skip (.exit 8))) (.seq (.seq (.block 9 (.region [.a 18,.a 3,.a 19,.e 1 1 2,.b 1 3,.a 9,.a 19,.e 1 5 6,.b 1 7,.bj 4 8,.cv 9,.ag 2 0 10,.c 18 11])) (.kill [0,1,2,4,5,6,7,10,11,12,13,14,15,16,17,20,21,22,23,24,25,26,27,28,29,30,31,32])) (.region [.a 19,.i 0 1,.c 19 1]))
def gP:MC:=.seq (.seq (.region [.a 13,.a 8,.i 1 1,.a6 23 0 2]) (.cond (.var 23) .skip (.exit 4))) (.seq (.seq (.block 5 (.seq (.region [.g 14]) (.seq (.seq (.region [.f 15 0]) (.seq (.block 6 (.loop [0,5,6,11,12,16,17,18,19,20,21,22,23,24,25,26,27,28,29,30,31,32] jb)) (.kill [0,5,6,11,12,15,16,17,18,19,20,21,22,23,24,25,26,27,28,29,30,31,32]))) (.seq (.region [.a 14,.V 31 0]) (.cond (.var 31) (.seq (.region [.w 18]) (.seq (.seq (.region [.f 19 0]) (.seq (.block 8 (.loop [0,1,2,4,5,6,7,10,11,12,13,14,15,16,17,20,21,22,23,24,25,26,27,28,29,30,31,32] qg)) (.kill [0,1,2,3,4,5,6,7,8,9,10,11,12,13,14,15,16,17,19,20,21,22,23,24,25,26,27,28,29,30,31,32]))) (.seq (.region [.a 18,.c 5 0,.I 6]) .ret))) .skip))))) (.kill [0,5,6,11,12,14,15,16,17,18,19,20,21,22,23,24,25,26,27,28,29,30,31,32])) (.region [.a 13,.i 0 1,.c 13 1]))
def AG:cI:=⟨4,33,.seq (.region [.D 4 0,.w 5,.g 6]) (.seq (.region [.l 5 4,.J 22 0,.c 7 1]) (.seq (.region [.a 3,.v 0,.c 8 1]) (.seq (.region [.a 8,.al 0 0,.c 9 1]) (.seq (.region [.a 8,.al 0 0,.c 10 1]) (.seq (.seq (.region [.f 11 0]) (.seq (.block 0 (.loop [0,5,6,12,13,14,15,16,17,18,19,20,21,22,23,24,25,26,27,28,29,30,31,32] qh)) (.kill [0,5,6,11,12,13,14,15,16,17,18,19,20,21,22,23,24,25,26,27,28,29,30,31,32]))) (.seq (.seq (.region [.f 13 0]) (.seq (.block 4 (.loop [0,5,6,11,12,14,15,16,17,18,19,20,21,22,23,24,25,26,27,28,29,30,31,32] gP)) (.kill [0,1,2,3,4,5,6,7,8,9,10,11,12,13,14,15,16,17,18,19,20,21,22,23,24,25,26,27,28,29,30,31,32]))) (.seq (.region [.w 5,.g 6]) .ret))))))),[.tmp 5,.tmp 6]⟩
def lM:List Nat:=[0,5,6,13,14,15,16,17,18,19,20,21,22,23,24,25,26,27,28,29,30,31,32]
abbrev nG (v1 v2 v3 v4 v7 v8 v9 v10 v11 v12:AV):List AV:=[.undef,v1,v2,v3,v4,.undef,.undef,v7,v8,v9,v10,v11,v12,.undef,.undef,.undef,.undef,.undef,.undef,.undef,.undef,.undef,.undef,.undef,.undef,.undef,.undef,.undef,.undef,.undef,.undef,.undef,.undef]
theorem Cf:clear lM [d0,v1,v2,v3,v4,d5,d6,v7,v8,v9,v10,v11,v12,d13,d14,d15,d16,d17,d18,d19,d20,d21,d22,d23,d24,d25,d26,d27,d28,d29,d30,d31,d32]=nG v1 v2 v3 v4 v7 v8 v9 v10 v11 v12:=by simp only [lM,clear,Sj,SZ,SB,SE]
theorem Kp {A:ac} {k:List KC} (h:bM (evC E fuel lW) lM fuel (nG v1 v2 v3 v4 v7 v8 v9 v10 v11 v12) A=some o) :
  run E fuel (.code (.loop [0,5,6,13,14,15,16,17,18,19,20,21,22,23,24,25,26,27,28,29,30,31,32] lW) :: k) [d0,v1,v2,v3,v4,d5,d6,v7,v8,v9,v10,v11,v12,d13,d14,d15,d16,d17,d18,d19,d20,d21,d22,d23,d24,d25,d26,d27,d28,d29,d30,d31,d32] A=after E fuel k o:=aQ lM _ _ (by rw [Cf]; exact h)
def jB:List Nat:=[0,5,6,11,12,16,17,18,19,20,21,22,23,24,25,26,27,28,29,30,31,32]
abbrev z6 (v1 v2 v3 v4 v7 v8 v9 v10 v13 v14 v15:AV):List AV:=[.undef,v1,v2,v3,v4,.undef,.undef,v7,v8,v9,v10,.undef,.undef,v13,v14,v15,.undef,.undef,.undef,.undef,.undef,.undef,.undef,.undef,.undef,.undef,.undef,.undef,.undef,.undef,.undef,.undef,.undef]
theorem Cd {v14 v15:AV}:clear jB [d0,v1,v2,v3,v4,d5,d6,v7,v8,v9,v10,d11,d12,v13,v14,v15,d16,d17,d18,d19,d20,d21,d22,d23,d24,d25,d26,d27,d28,d29,d30,d31,d32]=z6 v1 v2 v3 v4 v7 v8 v9 v10 v13 v14 v15:=by simp only [jB,clear,Sj,SZ,SB,SE]
theorem A9 {A:ac} {k:List KC} {v14 v15:AV} (h:bM (evC E fuel jb) jB fuel (z6 v1 v2 v3 v4 v7 v8 v9 v10 v13 v14 v15) A=some o) :
  run E fuel (.code (.loop [0,5,6,11,12,16,17,18,19,20,21,22,23,24,25,26,27,28,29,30,31,32] jb) :: k) [d0,v1,v2,v3,v4,d5,d6,v7,v8,v9,v10,d11,d12,v13,v14,v15,d16,d17,d18,d19,d20,d21,d22,d23,d24,d25,d26,d27,d28,d29,d30,d31,d32] A=after E fuel k o:=aQ jB _ _ (by rw [Cd]; exact h)
def lK:List Nat:=[0,1,2,4,5,6,7,10,11,12,13,14,15,16,17,20,21,22,23,24,25,26,27,28,29,30,31,32]
abbrev uc (v3 v8 v9 v18 v19:AV):List AV:=[.undef,.undef,.undef,v3,.undef,.undef,.undef,.undef,v8,v9,.undef,.undef,.undef,.undef,.undef,.undef,.undef,.undef,v18,v19,.undef,.undef,.undef,.undef,.undef,.undef,.undef,.undef,.undef,.undef,.undef,.undef,.undef]
theorem Cc {v18 v19:AV}:clear lK [d0,d1,d2,v3,d4,d5,d6,d7,v8,v9,d10,d11,d12,d13,d14,d15,d16,d17,v18,v19,d20,d21,d22,d23,d24,d25,d26,d27,d28,d29,d30,d31,d32]=uc v3 v8 v9 v18 v19:=by simp only [lK,clear,Sj,SZ,SB,SE]
theorem Ko {A:ac} {k:List KC} {v18 v19:AV} (h:bM (evC E fuel qg) lK fuel (uc v3 v8 v9 v18 v19) A=some o) :
  run E fuel (.code (.loop [0,1,2,4,5,6,7,10,11,12,13,14,15,16,17,20,21,22,23,24,25,26,27,28,29,30,31,32] qg) :: k) [d0,d1,d2,v3,d4,d5,d6,d7,v8,v9,d10,d11,d12,d13,d14,d15,d16,d17,v18,v19,d20,d21,d22,d23,d24,d25,d26,d27,d28,d29,d30,d31,d32] A=after E fuel k o:=aQ lK _ _ (by rw [Cc]; exact h)
def lL:List Nat:=[0,5,6,12,13,14,15,16,17,18,19,20,21,22,23,24,25,26,27,28,29,30,31,32]
abbrev rP (v1 v2 v3 v4 v7 v8 v9 v10 v11:AV):List AV:=[.undef,v1,v2,v3,v4,.undef,.undef,v7,v8,v9,v10,v11,.undef,.undef,.undef,.undef,.undef,.undef,.undef,.undef,.undef,.undef,.undef,.undef,.undef,.undef,.undef,.undef,.undef,.undef,.undef,.undef,.undef]
theorem Ce:clear lL [d0,v1,v2,v3,v4,d5,d6,v7,v8,v9,v10,v11,d12,d13,d14,d15,d16,d17,d18,d19,d20,d21,d22,d23,d24,d25,d26,d27,d28,d29,d30,d31,d32]=rP v1 v2 v3 v4 v7 v8 v9 v10 v11:=by simp only [lL,clear,Sj,SZ,SB,SE]
theorem Bc {A:ac} {k:List KC} (h:bM (evC E fuel qh) lL fuel (rP v1 v2 v3 v4 v7 v8 v9 v10 v11) A=some o) :
  run E fuel (.code (.loop [0,5,6,12,13,14,15,16,17,18,19,20,21,22,23,24,25,26,27,28,29,30,31,32] qh) :: k) [d0,v1,v2,v3,v4,d5,d6,v7,v8,v9,v10,v11,d12,d13,d14,d15,d16,d17,d18,d19,d20,d21,d22,d23,d24,d25,d26,d27,d28,d29,d30,d31,d32] A=after E fuel k o:=aQ lL _ _ (by rw [Ce]; exact h)
def ij:List Nat:=[0,5,6,11,12,14,15,16,17,18,19,20,21,22,23,24,25,26,27,28,29,30,31,32]
abbrev pG (v1 v2 v3 v4 v7 v8 v9 v10 v13:AV):List AV:=[.undef,v1,v2,v3,v4,.undef,.undef,v7,v8,v9,v10,.undef,.undef,v13,.undef,.undef,.undef,.undef,.undef,.undef,.undef,.undef,.undef,.undef,.undef,.undef,.undef,.undef,.undef,.undef,.undef,.undef,.undef]
theorem Cb:clear ij [d0,v1,v2,v3,v4,d5,d6,v7,v8,v9,v10,d11,d12,v13,d14,d15,d16,d17,d18,d19,d20,d21,d22,d23,d24,d25,d26,d27,d28,d29,d30,d31,d32]=pG v1 v2 v3 v4 v7 v8 v9 v10 v13:=by simp only [ij,clear,Sj,SZ,SB,SE]
theorem A8 {A:ac} {k:List KC} (h:bM (evC E fuel gP) ij fuel (pG v1 v2 v3 v4 v7 v8 v9 v10 v13) A=some o) :
  run E fuel (.code (.loop [0,5,6,11,12,14,15,16,17,18,19,20,21,22,23,24,25,26,27,28,29,30,31,32] gP) :: k) [d0,v1,v2,v3,v4,d5,d6,v7,v8,v9,v10,d11,d12,v13,d14,d15,d16,d17,d18,d19,d20,d21,d22,d23,d24,d25,d26,d27,d28,d29,d30,d31,d32] A=after E fuel k o:=aQ ij _ _ (by rw [Cb]; exact h)
theorem yn:aH Try.prog Try.f39 4 [0,1,2,3,4,8,9,10,11,12,13,14,15,16,17,18,19,20,21,22,33,41,53,61,66,74,95,112,136,160,199,227,230] [] true ([[0,5,6,12,13,14,15,16,17,18,19,20,21,22,23,24,25,26,27,28,29,30,31,32],[0,5,6,13,14,15,16,17,18,19,20,21,22,23,24,25,26,27,28,29,30,31,32],[0,5,6,11,12,14,15,16,17,18,19,20,21,22,23,24,25,26,27,28,29,30,31,32],[0,5,6,11,12,16,17,18,19,20,21,22,23,24,25,26,27,28,29,30,31,32],[0,1,2,4,5,6,7,10,11,12,13,14,15,16,17,20,21,22,23,24,25,26,27,28,29,30,31,32]],[[0,5,6,13,14,15,16,17,18,19,20,21,22,23,24,25,26,27,28,29,30,31,32],[0,5,6,12,13,14,15,16,17,18,19,20,21,22,23,24,25,26,27,28,29,30,31,32],[0,5,6,12,13,14,15,16,17,18,19,20,21,22,23,24,25,26,27,28,29,30,31,32],[0,5,6,11,12,13,14,15,16,17,18,19,20,21,22,23,24,25,26,27,28,29,30,31,32],[0,5,6,11,12,16,17,18,19,20,21,22,23,24,25,26,27,28,29,30,31,32],[0,5,6,11,12,15,16,17,18,19,20,21,22,23,24,25,26,27,28,29,30,31,32],[0,1,2,4,5,6,7,10,11,12,13,14,15,16,17,20,21,22,23,24,25,26,27,28,29,30,31,32],[0,1,2,3,4,5,6,7,8,9,10,11,12,13,14,15,16,17,19,20,21,22,23,24,25,26,27,28,29,30,31,32],[0,5,6,11,12,14,15,16,17,18,19,20,21,22,23,24,25,26,27,28,29,30,31,32],[0,1,2,3,4,5,6,7,8,9,10,11,12,13,14,15,16,17,18,19,20,21,22,23,24,25,26,27,28,29,30,31,32]])=some AG:=by kernel_rfl
theorem M2:Try.prog.funcs[39]?=some Try.f39:=by kernel_rfl
def No:cI:=⟨1,3,.seq (.region [.D 1 0,.g 2]) (.seq (.region [.l 5 1,.J 81 0,.h 1,.O 4 1 2,.x 1 3 2,.T 4 1 2,.p 2 5,.c 2 6]) .ret),[.tmp 2]⟩
theorem K4:aH Try.prog Try.f61 1 [0,1,2] [] true ([],[])=some No:=by kernel_rfl
theorem at61:Try.prog.funcs[61]?=some Try.f61:=by kernel_rfl
def gy:MC:=.seq (.seq (.region [.a 4,.a 3,.F 8 0 1]) (.cond (.var 8) .skip (.exit 0))) (.seq (.seq (.block 1 (.seq (.region [.d 0 1,.b 1 0,.a 4,.e 2 1 2,.K 2 3,.ah 5 2,.r 2 5 4]) (.seq (.region [.d 0 5,.b 1 0,.af 1 0,.h 2,.y 0 5 3,.q 1 4 3,.Y 5 100000 3,.G 3 6,.h 7,.y 1 5 8,.q 1 9 8,.bv 10 0 8,.G 8 11,.h 12,.y 1 5 13,.q 1 14 13,.Y 15 100000 13,.C 9 13 16]) (.cond (.var 9) (.seq (.region [.g 2]) .ret) .skip)))) (.kill [0,2,5,6,7,8,9,10,11,12,13,14])) (.region [.a 4,.i 0 1,.c 4 1]))
def j7:MC:=.seq (.region [.B 13 12 11]) (.seq (.cond (.var 13) .skip (.exit 2)) (.seq (.seq (.block 3 (.seq (.region [.M 1 10 12,.b 1 0,.c 6 1]) (.seq (.region [.a 6,.af 0 0,.h 1,.n 6 2,.Y 3 10000 2,.C 14 2 4]) (.cond (.var 14) (.seq (.region [.g 2]) .ret) .skip)))) (.kill [0,1,2,3,4,5,6,7,8,9,13,14])) (.region [.u 12 1,.c 12 0])))
def DN:cI:=⟨1,15,.seq (.region [.D 1 0,.g 2]) (.seq (.region [.d 0 1,.b 1 0,.v 1,.c 3 2]) (.seq (.seq (.region [.a 3,.af 0 1,.h 1,.n 3 2,.Y 3 4 2,.G 2 4,.h 5,.y 4 1 6,.q 1 7 6,.bv 8 1 6,.G 6 9,.h 10,.y 4 1 11,.q 1 12 11,.Y 13 2 11,.C 7 11 14]) (.cond (.var 7) (.seq (.region [.g 2]) .ret) .skip)) (.seq (.seq (.region [.f 4 0]) (.seq (.block 0 (.loop [0,2,5,6,7,8,9,10,11,12,13,14] gy)) (.kill [0,2,3,4,5,6,7,8,9,10,11,12,13,14]))) (.seq (.seq (.region [.d 1 1,.b 1 0,.d 2 1,.b 1 2,.d 3 1,.b 1 4,.qs 10 (.buildSlice 1 [.tmp 1,.tmp 3,.tmp 5]),.ab 11 10,.f 12 0]) (.seq (.block 2 (.loop [0,1,2,3,4,5,6,7,8,9,13,14] j7)) (.kill [0,1,2,3,4,5,6,7,8,9,10,11,12,13,14]))) (.seq (.region [.I 2]) .ret))))),[.tmp 2]⟩
def ic:List Nat:=[0,2,5,6,7,8,9,10,11,12,13,14]
abbrev jV (v1 v3 v4:AV):List AV:=[.undef,v1,.undef,v3,v4,.undef,.undef,.undef,.undef,.undef,.undef,.undef,.undef,.undef,.undef]
theorem yo:clear ic [d0,v1,d2,v3,v4,d5,d6,d7,d8,d9,d10,d11,d12,d13,d14]=jV v1 v3 v4:=rfl
theorem A7 {A:ac} {k:List KC} (h:bM (evC E fuel gy) ic fuel (jV v1 v3 v4) A=some o) :
  run E fuel (.code (.loop [0,2,5,6,7,8,9,10,11,12,13,14] gy) :: k) [d0,v1,d2,v3,v4,d5,d6,d7,d8,d9,d10,d11,d12,d13,d14] A=after E fuel k o:=aQ ic _ _ (by rw [yo]; exact h)
def lH:List Nat:=[0,1,2,3,4,5,6,7,8,9,13,14]
abbrev ny (v10 v11 v12:AV):List AV:=[.undef,.undef,.undef,.undef,.undef,.undef,.undef,.undef,.undef,.undef,v10,v11,v12,.undef,.undef]
theorem FM:clear lH [d0,d1,d2,d3,d4,d5,d6,d7,d8,d9,v10,v11,v12,d13,d14]=ny v10 v11 v12:=rfl
theorem Fc {A:ac} {k:List KC} (h:bM (evC E fuel j7) lH fuel (ny v10 v11 v12) A=some o) :
  run E fuel (.code (.loop [0,1,2,3,4,5,6,7,8,9,13,14] j7) :: k) [d0,d1,d2,d3,d4,d5,d6,d7,d8,d9,v10,v11,v12,d13,d14] A=after E fuel k o:=aQ lH _ _ (by rw [FM]; exact h)
theorem KT:aH Try.prog Try.f81 1 [0,1,2,3,4,5,7,26,29,54,61,62,63,64,72] [] true ([[0,2,5,6,7,8,9,10,11,12,13,14],[0,1,2,3,4,5,6,7,8,9,13,14]],[[0,2,5,6,7,8,9,10,11,12,13,14],[0,2,3,4,5,6,7,8,9,10,11,12,13,14],[0,1,2,3,4,5,6,7,8,9,13,14],[0,1,2,3,4,5,6,7,8,9,10,11,12,13,14]])=some DN:=by kernel_rfl
theorem at81:Try.prog.funcs[81]?=some Try.f81:=by kernel_rfl
end Tr
namespace Tr
open Go
open Cy (GC br db cR cT dW okA smM smT lvM lvT gi jq cM Pos aM bc aA dH dw bY cd)
open Clu
def M81:aU:=fun args=>evP (aw GC []) 300 DN 1 args
theorem Jf:ax Try.prog GC 81 M81:=ax.of_ev (E:=aw GC []) (ay aB) rfl at81 KT 1 fun _ _ h=>⟨300,h⟩
def B81 (T:aT) (chv:AV) (i:Nat):ac:=.row 5 false [af T chv] :: (T.ch.take i).map fun c=>.row 2 false [chA c]
theorem EC {T:aT} (hi:i<T.ch.length):B81 T chv i++[.row 2 false [chA T.ch[i]]]=B81 T chv (i+1):=by
 unfold B81
 rw [SS hi,SH]; rfl
theorem DD {T:aT} (hcv:SlA 2 (T.ch.map chA) chv) (hl:T.ch.length<=4) {i:Nat} (hi:i<T.ch.length) :
  ∃d5 d9:AV,run (aw GC []) 300 [.code gy] (jV (.ptr 0 0 0) (.int .i64 (T.ch.length:Int)) (.int .i64 (i:Int))) (B81 T chv i) =
   if ky T.ch[i] then some (.normal (jV (.ptr 0 0 0) (.int .i64 (T.ch.length:Int)) (.int .i64 ((i+1:Nat):Int))) (B81 T chv (i+1)))
   else some (.ret [.undef,.ptr 0 0 0,.bool false,.int .i64 (T.ch.length:Int),.int .i64 (i:Int),d5,.undef,.undef,.bool true,d9,.undef,.undef,.undef,.undef,.undef] (B81 T chv (i+1))):=by
 rw [<-EC hi]
 obtain ⟨A,hA⟩:∃A,A=B81 T chv i:=⟨_,rfl⟩
 have f0:aa 0 A (.ptr 0 0 0)=some (.ptr 0 0 0):=by rw [hA]; rfl
 have l0:ab false 1 A (.ptr 0 0 0)=some chv:=by rw [hA]; rfl
 obtain ⟨⟨tm,sy⟩,hc⟩:∃c,c=T.ch[i]:=⟨_,rfl⟩
 have x1:=hcv.index (A:=A) (i:=i) (x:=chA T.ch[i]) (by simp [hi]) rfl (by omega) .i64
 rw [<-hc] at x1 ⊢
 rw [<-hA]
 have x1:ae 2 A chv (.int .i64 (i:Int))=some (.fp [.int .i64 tm,.int .i64 sy]):=x1
 have bx:aS 2 (.agg [.int .i64 0,.int .i64 0]) A=some (.ptr A.length 0 0,A++[.row 2 false [.agg [.int .i64 0,.int .i64 0]]]):=rfl
 have st:az 2 (A++[.row 2 false [.agg [.int .i64 0,.int .i64 0]]]) (.ptr A.length 0 0) (.agg [.int .i64 tm,.int .i64 sy])=some (A++[.row 2 false [.agg [.int .i64 tm,.int .i64 sy]]]):=by simp [az,bq]
 have g0:aa 0 (A++[.row 2 false [.agg [.int .i64 tm,.int .i64 sy]]]) (.ptr A.length 0 0)=some (.ptr A.length 0 0):=nw (es:=[.int .i64 tm,.int .i64 sy]) (k:=2) rfl (by omega)
 have g1:aa 1 (A++[.row 2 false [.agg [.int .i64 tm,.int .i64 sy]]]) (.ptr A.length 0 0)=some (.ptr A.length 0 1):=nw (es:=[.int .i64 tm,.int .i64 sy]) (k:=2) rfl (by omega)
 have d0:ab false 1 (A++[.row 2 false [.agg [.int .i64 tm,.int .i64 sy]]]) (.ptr A.length 0 0)=some (.int .i64 tm):=pz (es:=[.int .i64 tm,.int .i64 sy]) (k:=2) rfl rfl
 have d1:ab false 1 (A++[.row 2 false [.agg [.int .i64 tm,.int .i64 sy]]]) (.ptr A.length 0 1)=some (.int .i64 sy):=pz (es:=[.int .i64 tm,.int .i64 sy]) (k:=2) rfl rfl
 have b0:=a9 i T.ch.length .i64
 rw [RE hi] at b0
 have b1:=aV i (by omega)
 have c1:=bK tm 0
 have c2:=bL tm 100000
 have c3:=bK sy 0
 have c4:=bL sy 100000
 refine ⟨.ptr A.length 0 0,.bool true,?_⟩
 rw [show (.row 2 false [chA (tm,sy)]:Ent)=.row 2 false [.agg [.int .i64 tm,.int .i64 sy]] from rfl]
 obtain ⟨N,hN⟩:∃n,n=A.length:=⟨_,rfl⟩
 rw [<-hN] at bx st g0 g1 d0 d1 ⊢
 obtain ⟨A1,hA1⟩:∃X,X=A++[Ent.row 2 false [.agg [.int .i64 tm,.int .i64 sy]]]:=⟨_,rfl⟩
 rw [<-hA1] at st g0 g1 d0 d1 ⊢
 obtain ⟨i1,hi1⟩:∃n,n=i+1:=⟨_,rfl⟩
 rw [<-hi1] at b1 ⊢
 by_cases h1:tm<0
 ·rw [RE h1] at c1
  rw [RK (fun h=>by unfold ky at h; simp only at h; omega)]
  simp [gy,f0,l0,x1,bx,st,g0,d0,b0,c1,-ag,-ab,-az,-aa,-ae,-aS]
 rw [RD h1] at c1
 by_cases h2:tm > 100000
 ·rw [RE h2] at c2
  rw [RK (fun h=>by unfold ky at h; simp only at h; omega)]
  simp [gy,f0,l0,x1,bx,st,g0,d0,b0,c1,c2,-ag,-ab,-az,-aa,-ae,-aS]
 rw [RD h2] at c2
 by_cases h3:sy<0
 ·rw [RE h3] at c3
  rw [RK (fun h=>by unfold ky at h; simp only at h; omega)]
  simp [gy,f0,l0,x1,bx,st,g0,g1,d0,d1,b0,c1,c2,c3,-ag,-ab,-az,-aa,-ae,-aS]
 rw [RD h3] at c3
 by_cases h4:sy > 100000
 ·rw [RE h4] at c4
  rw [RK (fun h=>by unfold ky at h; simp only at h; omega)]
  simp [gy,f0,l0,x1,bx,st,g0,g1,d0,d1,b0,c1,c2,c3,c4,-ag,-ab,-az,-aa,-ae,-aS]
 rw [RD h4] at c4
 rw [RH (by unfold ky; simp only; omega)]
 simp [gy,f0,l0,x1,bx,st,g0,g1,d0,d1,b0,b1,c1,c2,c3,c4,-ag,-ab,-az,-aa,-ae,-aS]
def wy (v:Int):Bool:=decide (0<=v) && decide (v<=10000)
theorem xH {A:ac} {r:Nat} {l:List Int} (hr:A[r]?=some (.row 1 false (aj l))) (hl:l.length=3) (hi:i<3) :
  run (aw GC []) 300 [.code j7] (ny (.sl r 0 3) (.int .i64 3) (.int .i64 (i:Int))) A =
   if wy (l.getD i 0)=true then some (.normal (ny (.sl r 0 3) (.int .i64 3) (.int .i64 ((i+1:Nat):Int))) A)
   else some (.ret [.undef,.undef,.bool false,.undef,.undef,.undef,.int .i64 (l.getD i 0),.undef,.undef,.undef,.sl r 0 3,.int .i64 3,.int .i64 (i:Int),.bool true,.bool true] A):=by
 have ix:ae 1 A (.sl r 0 3) (.int .i64 (i:Int))=some (.ptr r i 0):=by simp [ae,hr]; omega
 have la:ab false 1 A (.ptr r i 0)=some (.int .i64 (l.getD i 0)):=by
  have:i<l.length:=by omega
  simp [ab,hr,aj,this]
 obtain ⟨v,hv⟩:∃v,v=l.getD i 0:=⟨_,rfl⟩
 rw [<-hv] at la ⊢
 have b0:ag .lss (.int .i64 (i:Int)) (.int .i64 3)=some (.bool true):=by rw [bK,RE (by omega)]
 have b1:=aV i (by omega)
 have c1:=bK v 0
 have c2:=bL v 10000
 obtain ⟨i1,hi1⟩:∃n,n=i+1:=⟨_,rfl⟩
 rw [<-hi1] at b1 ⊢
 by_cases h1:v<0
 ·rw [RE h1] at c1
  rw [RK (by unfold wy; simp; omega)]
  simp [j7,ix,la,b0,c1,-ag,-ab,-ae]
 rw [RD h1] at c1
 by_cases h2:v > 10000
 ·rw [RE h2] at c2
  rw [RK (by unfold wy; simp; omega)]
  simp [j7,ix,la,b0,c1,c2,-ag,-ab,-ae]
 rw [RD h2] at c2
 rw [RH (by unfold wy; simp; omega)]
 simp [j7,ix,la,b0,b1,c1,c2,-ag,-ab,-ae]
theorem HQ {A:ac} {r:Nat} {a c:Int} (hr:A[r]?=some (.row 1 false (aj [a,b,c]))) :
  ∃o,bM (evC (aw GC []) 300 j7) lH 300 (ny (.sl r 0 3) (.int .i64 3) (.int .i64 0)) A=some o /\
   (if wy a && wy b && wy c then o=.exit 2 ((ny (.sl r 0 3) (.int .i64 3) (.int .i64 3)).set 13 (.bool false)) A else ∃ σ,o=.ret σ A/\σ[2]?=some (.bool false)):=by
 rcases cY (E:=aw GC []) (fuel:=300) (a:=j7) (mask:=lH) (fun i=>ny (.sl r 0 3) (.int .i64 3) (.int .i64 (i:Int))) (fun _=>A) 3 (fun i=>wy ([a,b,c].getD i 0)≠true)
  (oF:=fun i=>.ret [.undef,.undef,.bool false,.undef,.undef,.undef,.int .i64 ([a,b,c].getD i 0),.undef,.undef,.undef,.sl r 0 3,.int .i64 3,.int .i64 (i:Int),.bool true,.bool true] A) (oE:=.exit 2 ((ny (.sl r 0 3) (.int .i64 3) (.int .i64 3)).set 13 (.bool false)) A)
  (fun _=>FM) (fun _ _ _ h=>by cases h) (fun _ _ h=>by cases h)
  (fun i hi hp=>by
   rw [xH hr rfl hi]
   exact RH (R7.1 hp))
  (fun i hi hp=>by
   rw [xH hr rfl hi]
   exact RK hp)
  (by simp [j7]) (show 3<300 by omega) with ⟨i,hi,hp,hj,lp⟩ | ⟨hp,lp⟩
 ·refine ⟨_,lp,?_⟩
  have:i=0\/i=1\/i=2:=by omega
  rw [RK]
  ·exact ⟨_,rfl,rfl⟩
  ·intro h
   simp only [Sd] at h
   rcases this with rfl | rfl | rfl
   ·exact hp h.1.1
   ·exact hp h.1.2
   ·exact hp h.2
 ·refine ⟨_,lp,?_⟩
  rw [RH]
  ·have h0:=R7.1 (hp 0 (by omega))
   have h1:=R7.1 (hp 1 (by omega))
   have h2:=R7.1 (hp 2 (by omega))
   simp only [Sd]
   exact ⟨⟨h0,h1⟩,h2⟩
theorem LU {T:aT} (hcv:SlA 2 (T.ch.map chA) chv) (hl:T.ch.length<=200):M81 [af T chv]=some (.bool (decide (aY T))):=by
 have hlen:=hcv.len
 rw [RN] at hlen
 have bx0:aS 5 (af T chv) []=some (.ptr 0 0 0,B81 T chv 0):=rfl
 have ct:(cellsOf (af T chv)).length=5:=rfl
 have fA:∀i j,j<5->aa j (B81 T chv i) (.ptr 0 0 0)=some (.ptr 0 0 j):=fun i j hj=>by simp [aa,B81,hj]
 have l0:∀i,ab false 1 (B81 T chv i) (.ptr 0 0 0)=some chv:=fun i=>rfl
 have l1:∀i,ab false 1 (B81 T chv i) (.ptr 0 0 1)=some (.int .i64 T.pick):=fun i=>rfl
 have l2:∀i,ab false 1 (B81 T chv i) (.ptr 0 0 2)=some (.int .i64 T.place):=fun i=>rfl
 have l3:∀i,ab false 1 (B81 T chv i) (.ptr 0 0 3)=some (.int .i64 T.travel):=fun i=>rfl
 have l4:∀i,ab false 1 (B81 T chv i) (.ptr 0 0 4)=some (.int .i64 T.blades):=fun i=>rfl
 have c1:=bK (T.ch.length:Int) 1
 have c2:=bL (T.ch.length:Int) 4
 have c3:=bK T.blades 1
 have c4:=bL T.blades 2
 obtain ⟨B0,hB0⟩:∃B,B=B81 T chv 0:=⟨_,rfl⟩
 have fA0:=fun j hj=>fA 0 j hj
 have l00:=l0 0
 have l40:=l4 0
 simp only [<-hB0] at fA0
 unfold M81
 rw [aN _ _ rfl]
 by_cases h1:(T.ch.length:Int)<1
 ·rw [RE h1] at c1
  rw [RD (fun h=>by have:=h.2.2.1; omega)]
  rw [<-hB0] at bx0 l00 l40
  obtain ⟨t,ht⟩:∃t,t=af T chv:=⟨_,rfl⟩
  rw [<-ht] at bx0 ct ⊢
  simp [DN,bx0,ct,fA0,l00,hlen,c1,bc,-ag,-ab,-aa,-aS,-aq,-frz,-cellsOf]
 rw [RD h1] at c1
 by_cases h2:(T.ch.length:Int) > 4
 ·rw [RE h2] at c2
  rw [RD (fun h=>by have:=h.2.2.2.1; omega)]
  rw [<-hB0] at bx0 l00 l40
  obtain ⟨t,ht⟩:∃t,t=af T chv:=⟨_,rfl⟩
  rw [<-ht] at bx0 ct ⊢
  simp [DN,bx0,ct,fA0,l00,hlen,c1,c2,bc,-ag,-ab,-aa,-aS,-aq,-frz,-cellsOf]
 rw [RD h2] at c2
 by_cases h3:T.blades<1
 ·rw [RE h3] at c3
  rw [RD (fun h=>by have:=h.2.2.2.2; omega)]
  rw [<-hB0] at bx0 l00 l40
  obtain ⟨t,ht⟩:∃t,t=af T chv:=⟨_,rfl⟩
  rw [<-ht] at bx0 ct ⊢
  simp [DN,bx0,ct,fA0,l00,l40,hlen,c1,c2,c3,bc,-ag,-ab,-aa,-aS,-aq,-frz,-cellsOf]
 rw [RD h3] at c3
 by_cases h4:T.blades > 2
 ·rw [RE h4] at c4
  rw [RD (fun h=>by have:=h.2.2.2.2; omega)]
  rw [<-hB0] at bx0 l00 l40
  obtain ⟨t,ht⟩:∃t,t=af T chv:=⟨_,rfl⟩
  rw [<-ht] at bx0 ct ⊢
  simp [DN,bx0,ct,fA0,l00,l40,hlen,c1,c2,c3,c4,bc,-ag,-ab,-aa,-aS,-aq,-frz,-cellsOf]
 rw [RD h4] at c4
 have hn4:T.ch.length<=4:=by omega
 have e:=a9 T.ch.length T.ch.length .i64
 rw [RD (by omega)] at e
 have ha:(∃(i:Nat) (hi:i<T.ch.length) (d5 d9:AV),¬ ky T.ch[i]/\bM (evC (aw GC []) 300 gy) ic 300 (jV (.ptr 0 0 0) (.int .i64 (T.ch.length:Int)) (.int .i64 0)) (B81 T chv 0)=some (.ret [.undef,.ptr 0 0 0,.bool false,.int .i64 (T.ch.length:Int),.int .i64 (i:Int),d5,.undef,.undef,.bool true,d9,.undef,.undef,.undef,.undef,.undef] (B81 T chv (i+1)))) \/
   ((∀i (hi:i<T.ch.length),ky T.ch[i])/\bM (evC (aw GC []) 300 gy) ic 300 (jV (.ptr 0 0 0) (.int .i64 (T.ch.length:Int)) (.int .i64 0)) (B81 T chv 0)=some (.exit 0 ((jV (.ptr 0 0 0) (.int .i64 (T.ch.length:Int)) (.int .i64 (T.ch.length:Int))).set 8 (.bool false)) (B81 T chv T.ch.length))):=by
  have key:∀(c i m:Nat),i+c=T.ch.length->(∀j (hj:j<T.ch.length),j<i->ky T.ch[j])->c<m->(∃(i':Nat) (hi:i'<T.ch.length) (d5 d9:AV),¬ ky T.ch[i']/\bM (evC (aw GC []) 300 gy) ic m (jV (.ptr 0 0 0) (.int .i64 (T.ch.length:Int)) (.int .i64 (i:Int))) (B81 T chv i)=some (.ret [.undef,.ptr 0 0 0,.bool false,.int .i64 (T.ch.length:Int),.int .i64 (i':Int),d5,.undef,.undef,.bool true,d9,.undef,.undef,.undef,.undef,.undef] (B81 T chv (i'+1)))) \/
   ((∀i (hi:i<T.ch.length),ky T.ch[i])/\bM (evC (aw GC []) 300 gy) ic m (jV (.ptr 0 0 0) (.int .i64 (T.ch.length:Int)) (.int .i64 (i:Int))) (B81 T chv i)=some (.exit 0 ((jV (.ptr 0 0 0) (.int .i64 (T.ch.length:Int)) (.int .i64 (T.ch.length:Int))).set 8 (.bool false)) (B81 T chv T.ch.length))):=by
   intro c
   induction c with
   | zero=>
    intro i m hi hok hm
    obtain ⟨m,rfl⟩:∃j,m=j+1:=⟨m-1,by omega⟩
    obtain rfl:i=T.ch.length:=by omega
    right
    refine ⟨fun j hj=>hok j hj hj,?_⟩
    rw [aD,yo]
    simp [gy,e,-ag]
   | succ c ih=>
    intro i m hi hok hm
    obtain ⟨m,rfl⟩:∃j,m=j+1:=⟨m-1,by omega⟩
    have hil:i<T.ch.length:=by omega
    obtain ⟨d5,d9,hr⟩:=DD hcv hn4 hil
    by_cases hc:ky T.ch[i]
    ·rw [RH hc] at hr
     have:=ih (i+1) m (by omega) (fun j hj hji=>by
      by_cases e:j=i
      ·subst e; exact hc
      ·exact hok j hj (by omega)) (by omega)
     rw [aD,yo,hr]
     exact this
    ·rw [RK hc] at hr
     left
     refine ⟨i,hil,d5,d9,hc,?_⟩
     rw [aD,yo,hr]
  exact key T.ch.length 0 300 (by omega) (fun j hj h=>by omega) (by omega)
 rcases ha with ⟨i,hi,d5,d9,hbad,lp⟩ | ⟨hok,lp⟩
 ·rw [RD (fun h=>hbad (h.1 _ (RM hi)))]
  rw [<-hB0] at bx0 l00 l40 lp
  obtain ⟨t,ht⟩:∃t,t=af T chv:=⟨_,rfl⟩
  rw [<-ht] at bx0 ct ⊢
  simp [DN,bx0,ct,fA0,l00,l40,hlen,c1,c2,c3,c4,A7 lp,bc,-ag,-ab,-aa,-aS,-aq,-frz,-cellsOf]
 ·obtain ⟨Bn,hBn⟩:∃B,B=B81 T chv T.ch.length:=⟨_,rfl⟩
  have fAn:=fun j hj=>fA T.ch.length j hj
  have l1n:=l1 T.ch.length
  have l2n:=l2 T.ch.length
  have l3n:=l3 T.ch.length
  simp only [<-hBn] at fAn
  rw [<-hBn] at l1n l2n l3n lp
  have bs:aI 1 [.int .i64 T.pick,.int .i64 T.place,.int .i64 T.travel] Bn=some (.sl Bn.length 0 3,Bn++[.row 1 false (aj [T.pick,T.place,T.travel])]):=rfl
  have lr:∀r,aq (.sl r 0 3)=some (.int .i64 3):=fun r=>rfl
  obtain ⟨ob,lb,ho⟩:=HQ (A:=Bn++[.row 1 false (aj [T.pick,T.place,T.travel])]) (r:=Bn.length) (a:=T.pick) (b:=T.place) (c:=T.travel) (by simp)
  have hv:decide (aY T)=(wy T.pick && wy T.place && wy T.travel):=by
   rw [Tf,Sr]
   unfold aY wy
   simp only [Sd,Sr]
   constructor
   ·rintro ⟨_,⟨a,b,c⟩,_⟩
    exact ⟨⟨a,b⟩,c⟩
   ·rintro ⟨⟨a,b⟩,c⟩
    refine ⟨fun x hx=>?_,⟨a,b,c⟩,by omega,by omega,by omega⟩
    obtain ⟨i,hi,rfl⟩:=SD.1 hx
    exact hok i hi
  rw [hv]
  obtain ⟨B1,hB1⟩:∃B,B=Bn++[Ent.row 1 false (aj [T.pick,T.place,T.travel])]:=⟨_,rfl⟩
  obtain ⟨r,hr⟩:∃r,r=Bn.length:=⟨_,rfl⟩
  rw [<-hB1,<-hr] at bs lb
  rw [<-hB1] at ho
  obtain ⟨d,hd⟩:∃d,d=(wy T.pick && wy T.place && wy T.travel):=⟨_,rfl⟩
  rw [<-hd] at ho ⊢
  rw [<-hB0] at bx0 l00 l40 lp
  obtain ⟨t,ht⟩:∃t,t=af T chv:=⟨_,rfl⟩
  rw [<-ht] at bx0 ct ⊢
  cases d with
  | true=>
   rw [RH rfl] at ho
   subst ho
   simp [DN,bx0,ct,fA0,fAn,l00,l40,l1n,l2n,l3n,hlen,c1,c2,c3,c4,A7 lp,bs,lr,Fc lb,bc,-ag,-ab,-aa,-aS,-aq,-aI,-frz,-cellsOf]
  | false=>
   rw [RK (by simp)] at ho
   obtain ⟨σ,rfl,hσ⟩:=ho
   have hσ:σ[2]?.getD .undef=.bool false:=by rw [hσ]; rfl
   simp [DN,bx0,ct,fA0,fAn,l00,l40,l1n,l2n,l3n,hlen,c1,c2,c3,c4,A7 lp,bs,lr,Fc lb,hσ,bc,-ag,-ab,-aa,-aS,-aq,-aI,-frz,-cellsOf]
end Tr
namespace Tr
open Go
open Cy (GC aM bc aA)
open Clu (aT aY af chA aK aZ bD cB bA bK bL cK)
theorem nK:ax Try.prog GC 36 M30:=by
 refine ax.of_ev (E:=aw GC []) (ay aB) rfl IX sO 1 ?_
 intro args r h
 unfold M30 at h
 split at h
 ·rename_i n lo hi
  injection h with h; subst h
  refine ⟨0,?_⟩
  have b1:ag .geq (.int .i64 n) (.int .i64 lo)=some (.bool (decide (lo<=n))):=by simp [ag]
  have b2:ag .leq (.int .i64 n) (.int .i64 hi)=some (.bool (decide (n<=hi))):=by simp [ag]
  unfold iE
  obtain ⟨p,hp⟩:∃p,p=decide (lo<=n):=⟨_,rfl⟩
  obtain ⟨q,hq⟩:∃q,q=decide (n<=hi):=⟨_,rfl⟩
  rw [<-hp] at b1 ⊢
  rw [<-hq] at b2 ⊢
  rw [aN _ _ rfl]
  cases p <;> simp [zC,b1,b2,-ag]
 ·cases h
def MG:List (FuncId × aJ):=[(81,aG 4 M81)]
@[simp] theorem NM:aE MG 81=some (aG 4 M81):=rfl
theorem GP:∀f M,aE MG f=some M->au Try.prog GC f M:=ai (au.of_pure Jf 4) aB
def M61:aU:=fun args=>evP (aw GC MG) 300 No 4 args
theorem Jm:ax Try.prog GC 61 M61:=ax.of_ev (E:=aw GC MG) (ay GP) rfl at61 K4 4 fun _ _ h=>⟨300,h⟩
theorem L4 {T:aT} (hb:SlA 2 (T.ch.map chA) chv) (hl:T.ch.length<=200):M61 [af T chv]=some (.bool (decide (isT T))):=by
 have m:=LU hb hl
 have ft:=fun A=>aK (T:=T) (fun A n=>hb.frz (A:=A) n) A 3
 have bx:aS 5 (af T chv) []=some (.ptr 0 0 0,[.row 5 false [af T chv]]):=rfl
 have ct:(cellsOf (af T chv)).length=5:=rfl
 obtain ⟨A0,hA0⟩:∃A:ac,A=[.row 5 false [af T chv]]:=⟨_,rfl⟩
 have lt:ab true 5 A0 (.ptr 0 0 0)=some (af T chv):=by rw [hA0]; rfl
 have fa:aa 4 A0 (.ptr 0 0 0)=some (.ptr 0 0 4):=by rw [hA0]; simp [aa]
 have l4:ab false 1 A0 (.ptr 0 0 4)=some (.int .i64 T.blades):=by rw [hA0]; rfl
 have b1:=bA T.blades 1
 have e:decide (isT T)=(decide (aY T) && decide (T.blades=1)):=by
  unfold isT
  by_cases h1:T.blades=1 <;> by_cases h2:aY T <;> simp [h1,h2]
 rw [e]
 obtain ⟨t,ht⟩:∃t,t=af T chv:=⟨_,rfl⟩
 rw [<-ht] at m ft bx ct lt hA0 ⊢
 rw [<-hA0] at bx
 obtain ⟨p,hp⟩:∃p,p=decide (T.blades=1):=⟨_,rfl⟩
 obtain ⟨q,hq⟩:∃q,q=decide (aY T):=⟨_,rfl⟩
 rw [<-hp] at b1 ⊢
 rw [<-hq] at m ⊢
 unfold M61
 rw [aN _ _ rfl]
 cases q <;> simp [No,m,ft,bx,ct,lt,fa,l4,b1,bc,-aS,-ab,-aa,-frz,-cellsOf,-ag]
def x5:List (FuncId × aJ):=[(61,aG 4 M61),(36,aG 4 M30)]
@[simp] theorem Og:aE x5 61=some (aG 4 M61):=rfl
@[simp] theorem Oh:aE x5 36=some (aG 4 M30):=rfl
theorem we:∀f M,aE x5 f=some M->au Try.prog GC f M:=ai (au.of_pure Jm 4) (ai (au.of_pure nK 4) aB)
def M35:aU:=fun args=>evP (aw GC x5) 300 wF 4 args
theorem rX:ax Try.prog GC 35 M35:=ax.of_ev (E:=aw GC x5) (ay we) rfl LA vq 4 fun _ _ h=>⟨300,h⟩
abbrev r35 (rv:AV) (v5 v7 v8:AV):List AV:=[.undef,rv,.undef,.undef,.bool false,v5,.undef,v7,v8]
theorem J5 {rv:AV} (hr:SlA 1 (aj rd) rv) (hl:rd.length<=200) (A:ac):∀(c i m:Nat),i+c=rd.length->c<m ->
  ((rd.drop i).any sQ=false->bM (evC (aw GC x5) 300 lY) lN m (pH rv (.int .i64 (i:Int))) A=some (.exit 0 ((pH rv (.int .i64 (rd.length:Int))).set 7 (.bool false)) A)) /\
  ((rd.drop i).any sQ=true->∃v5 v7 v8,bM (evC (aw GC x5) 300 lY) lN m (pH rv (.int .i64 (i:Int))) A=some (.ret (r35 rv v5 v7 v8) A)):=by
 have hlr:=hr.len
 rw [aA] at hlr
 intro c
 induction c with
 | zero=>
  intro i m hi hm
  obtain ⟨m,rfl⟩:∃j,m=j+1:=⟨m-1,by omega⟩
  obtain rfl:i=rd.length:=by omega
  rw [SP]
  refine ⟨fun _=>?_,fun h=>by cases h⟩
  have b2:=a9 rd.length rd.length .i64
  rw [RD (by omega)] at b2
  rw [aD,vw]
  simp [lY,b2,hlr,-ag,-aq]
 | succ c ih=>
  intro i m hi hm
  obtain ⟨m,rfl⟩:∃j,m=j+1:=⟨m-1,by omega⟩
  have hin:i<rd.length:=by omega
  obtain ⟨k1,k2⟩:=ih (i+1) m (by omega) (by omega)
  have b0:=a9 i rd.length .i64
  rw [RE hin] at b0
  have b1:=aV i (by omega)
  obtain ⟨z,hz⟩:∃z,z=rd[i]:=⟨_,rfl⟩
  have x0:ae 1 A rv (.int .i64 (i:Int))=some (.fp [.int .i64 z]):=by
   rw [hz]
   exact hr.index1 (A:=A) (x:=.int .i64 rd[i]) (i:=i) (by simp [aj,hin]) rfl rfl .i64
  have x1:∀A z,ab false 1 A (.fp [.int .i64 z])=some (.int .i64 z):=fun _ _=>rfl
  have m3:=cf z (-1) 500000
  rw [Sw hin,List.any_cons,<-hz]
  have hbz:sQ z=!iE z (-1) 500000:=rfl
  rw [hbz]
  generalize iE z (-1) 500000=g at *
  obtain ⟨w,hw⟩:∃w,w=((i+1:Nat):Int):=⟨_,rfl⟩
  rw [<-hw] at b1 k1 k2
  cases g
  ·refine ⟨fun h=>by simp at h,fun _=>⟨.int .i64 (i:Int),.bool true,.bool true,?_⟩⟩
   rw [aD,vw]
   simp [lY,b0,x0,x1,m3,hlr,aM,-ag,-ab,-ae,-aq,-cf,-frz]
  ·have e:run (aw GC x5) 300 [.code lY] (pH rv (.int .i64 (i:Int))) A=some (.normal (pH rv (.int .i64 w)) A):=by
    simp [lY,b0,b1,x0,x1,m3,hlr,aM,-ag,-ab,-ae,-aq,-cf,-frz]
   refine ⟨fun h=>?_,fun h=>?_⟩
   ·rw [aD,vw,e]
    exact k1 (by simpa using h)
   ·obtain ⟨v5,v7,v8,h2⟩:=k2 (by simpa using h)
    refine ⟨v5,v7,v8,?_⟩
    rw [aD,vw,e]
    exact h2
theorem vN {T:aT} {rdv:AV} (hb:SlA 2 (T.ch.map chA) chv) (hl:T.ch.length<=200) (hr:SlA 1 (aj rd) rdv) (hrl:rd.length<=200) (free:Int):M35 [af T chv,rdv,.int .i64 free]=some (.bool (decide (Sit T rd free))):=by
 have m:=L4 hb hl
 have m3:=cf free 0 2000000
 have ft:=fun A=>aK (T:=T) (fun A n=>hb.frz (A:=A) n) A 3
 have hl1:=hb.len
 rw [RN] at hl1
 have hl2:=hr.len
 rw [aA] at hl2
 have bx:aS 5 (af T chv) []=some (.ptr 0 0 0,[.row 5 false [af T chv]]):=rfl
 have ct:(cellsOf (af T chv)).length=5:=rfl
 obtain ⟨A0,hA0⟩:∃A:ac,A=[.row 5 false [af T chv]]:=⟨_,rfl⟩
 have lt:ab true 5 A0 (.ptr 0 0 0)=some (af T chv):=by rw [hA0]; rfl
 have fa:aa 0 A0 (.ptr 0 0 0)=some (.ptr 0 0 0):=by rw [hA0]; simp [aa]
 have l0:ab false 1 A0 (.ptr 0 0 0)=some chv:=by
  rw [hA0]
  rcases hb with ⟨rfl,_⟩ | rfl <;> rfl
 have b1:=cB (rd.length:Int) (T.ch.length:Int)
 obtain ⟨k1,k2⟩:=J5 hr hrl A0 rd.length 0 300 (by omega) (by omega)
 rw [RT,show ((0:Nat):Int)=0 from rfl] at k1 k2
 rw [JG]
 have eq:decide ((rd.length:Int)≠(T.ch.length:Int))=!decide ((rd.length:Int)=(T.ch.length:Int)):=by
  by_cases h:(rd.length:Int)=(T.ch.length:Int) <;> simp [h]
 rw [eq] at b1
 obtain ⟨t,ht⟩:∃t,t=af T chv:=⟨_,rfl⟩
 rw [<-ht] at m ft bx ct lt hA0 ⊢
 rw [<-hA0] at bx
 have fb:∀A b,frz A 4 (.bool b)=.bool b:=fun A b=>bc _ _ _
 generalize decide (isT T)=p at *
 generalize decide ((rd.length:Int)=(T.ch.length:Int))=q at *
 generalize iE free 0 2000000=u at *
 unfold M35
 have bad:∀v,(p=false\/q=false\/u=false)->evP (aw GC x5) 300 wF 4 [t,rdv,.int .i64 free]=some (.bool (p && (q && (u && v)))):=fun v h=>by
  rw [aN _ _ rfl]
  cases p
  ·simp [wF,m,ft,bx,ct,lt,fb,-aS,-ab,-aa,-aq,-frz,-cellsOf,-ag,-cf]
  ·cases q
   ·rw [Bool.not_false] at b1
    simp [wF,m,ft,bx,ct,lt,fa,l0,b1,hl1,hl2,fb,-aS,-ab,-aa,-aq,-frz,-cellsOf,-ag,-cf]
   ·rw [Ub] at b1
    cases u
    ·simp [wF,m,m3,ft,bx,ct,lt,fa,l0,b1,hl1,hl2,fb,aM,-aS,-ab,-aa,-aq,-frz,-cellsOf,-ag,-cf]
    ·rcases h with h | h | h <;> cases h
 cases p
 ·exact bad _ (.inl rfl)
 cases q
 ·exact bad _ (.inr (.inl rfl))
 cases u
 ·exact bad _ (.inr (.inr rfl))
 clear bad
 rw [Ub] at b1
 cases hv:rd.any sQ with
 | false=>
  have e:=k1 hv
  clear k1 k2 hv
  generalize hr1:(rd.length:Int)=RL at *
  rw [aN _ _ rfl]
  simp [wF,m,m3,ft,bx,ct,lt,fa,l0,b1,hl1,hl2,Fo e,fb,aM,-aS,-ab,-aa,-aq,-frz,-cellsOf,-ag,-cf]
 | true=>
  obtain ⟨v5,v7,v8,e⟩:=k2 hv
  clear k1 k2 hv
  generalize hr1:(rd.length:Int)=RL at *
  rw [aN _ _ rfl]
  simp [wF,m,m3,ft,bx,ct,lt,fa,l0,b1,hl1,hl2,Fo e,fb,aM,-aS,-ab,-aa,-aq,-frz,-cellsOf,-ag,-cf]
end Tr
namespace Tr
open Go
end Tr
namespace Tr
open Go
open Cy (GC aM bc aA dH)
open Clu (aT aY c9 Chk t6 af chA xF jU rG mO pT aZ bD dP bK cB bA bL)
abbrev zT:AV:=.agg [.nilS,.int .i64 0,.int .i64 0,.int .i64 0,.int .i64 0]
theorem LH {x:XC} {rv:AV} (h:XV x yv rv) (A:ac):frz A 4 (x.A yv rv)=x.A yv rv:=by
 have f1:=h.y.frz (A:=A) 3
 have f2:=h.r.frz (A:=A) 3
 simp [XC.A,frz,f1,f2]
theorem LG {x:XC} {rv:AV} (h:XV x yv rv):bu 4 (x.A yv rv)=true:=by
 have f1:=h.y.noRef 3
 have f2:=h.r.noRef 3
 simp [XC.A,bu,f1,f2]
def B0 (x:XC) (yv rv:AV):ac:=[.row 6 false [x.A yv rv],.row 5 false [x.tv]]
theorem Il {esz:Nat} {a:AV} (h:SlA esz xs a) (hi:Nat) (h2:hi<=xs.length):∃b,(∀A,ce esz A none (some (.int .i64 (hi:Int))) a=some b)/\SlA esz (xs.take hi) b:=by
 obtain ⟨b,hb,hs⟩:=h.cutHi (A:=[]) hi h2 .i64
 refine ⟨b,fun A=>?_,hs⟩
 rw [<-hb]
 rcases h with ⟨rfl,_⟩ | rfl <;> rfl
end Tr
namespace Tr
open Go
end Tr
namespace Tr
open Go
open Cy (GC aM bc aA dH)
open Clu (aT aY ky c9 Chk t6 af chA xF jU rG mO pT aZ bD dP bK cB bA bL cK aK bC)
def rJ {α:Type} (new old:Nat->α) (n i:Nat):List α:=(List.range n).map fun j=>if j<i then new j else old j
theorem EQ {α:Type} (new old:Nat->α) (n i:Nat):(rJ new old n i).length=n:=by simp [rJ]
theorem As {α:Type} (new old:Nat->α) {n:Nat} (_h:i<n):(rJ new old n i).set i (new i)=rJ new old n (i+1):=by
 apply SO
 ·simp [rJ]
 intro j h1 h2
 simp only [rJ,List.getElem_set,SA,T4]
 by_cases e:i=j
 ·subst e; rw [RH rfl,RH (by omega)]
 ·rw [RK e]
  by_cases hj:j<i
  ·rw [RH hj,RH (by omega)]
  ·rw [RK hj,RK (by omega)]
theorem ER {α:Type} (new old:Nat->α) (n:Nat):rJ new old n n=(List.range n).map new:=Sb fun _j hj=>RH (SI.1 hj)
theorem gW {esz bytes:Nat} (he:0<esz) (hb:0<bytes) {A:ac} {N:Nat} (hN:N=A.length) (h:SlA esz xs xv) (hl:xs.length*bytes<=140737488355328):aR esz bytes (A++[.row esz false []]) (.sl N 0 0) xv=some (.sl (N+1) 0 xs.length,A++[.dead,.row esz false xs]):=by
 subst hN
 have hs:a8 esz (A++[.row esz false []]) xv=some xs:=by
  rcases h with ⟨rfl,rfl⟩ | rfl
  ·rfl
  ·simp [a8]
 have hr:(A++[Ent.row esz false []])[A.length]?=some (.row esz false []):=by simp
 simp only [aR,hs,hr]
 rw [RH ⟨trivial,he,hb,by rw [Tp]; exact hl⟩,RK (by simp)]
 simp
section
variable {A:ac} {id:Nat} {cs:List (Int × Int)}
theorem NB {n:Nat} {g:Bool} {es:List AV} (h:A[id]?=some (.row 2 g es)) {k:Nat} (hk:k<n):ae 2 A (.sl id 0 n) (.int .i64 (k:Int))=some (.ptr id k 0):=by
 simp only [ae,h]
 rw [RH ⟨trivial,by omega,by omega,by omega⟩]
 simp
end
end Tr
end Go.Proofs.Ytkcjhljbgjpklaa
