import Derived.Test.YtfkcoekicjjndaaGreatVC07
import Derived.Test.YtfkcoekicjjndaaGreatChecked
import Derived.KernelRfl
import Derived.Test.YtfkcoekicjjndaaGreatVC03
set_option maxRecDepth 100000
set_option maxHeartbeats 4000000
noncomputable section
namespace Go.Proofs.YtfkcoekicjjndaaGreat
variable {A B B2:ac} {i n fuel id k:Nat} {d10 xv d0 d1 v4 d5 d6 v7 d8 d9 v2 d3 d11 yv d2 v3 d13 d14 d16 v1 d4 v0 v5 v6 v:AV} {rd xs:List Int} {es:List AV} {a b free c:Int} {ys:List (Int × Int)} {E:Env} {o:Out} {g:Bool}
namespace Tr
open Go
open Cy (GC aP bj aE dT)
open Clu (aU aZ sN ay chA be ej cG cE bE bg cP)
def nOf (ys:List (Int × Int)):Nat:=max 1 (min ys.length 4)
def yOf (ys:List (Int × Int)) (i:Nat):Int × Int:=ys.getD i (0,0)
def MG (z:Int):Int:=if pick (z.tdiv 50) 3=0 then pick z 50+200 else pick z 50
def chO (ys:List (Int × Int)) (i:Nat):Int × Int:=if i<ys.length then (pick (yOf ys i).1 60,MG (yOf ys i).2) else (20,30)
def mkT (ys:List (Int × Int)) (a b c:Int):aU:=⟨(List.range (nOf ys)).map (chO ys),pick a 4,pick b 4,pick c 5,1⟩
theorem sn (ys:List (Int × Int)) (i:Nat):(0<=(chO ys i).1/\(chO ys i).1<=59)/\0<=(chO ys i).2/\(chO ys i).2<=249:=by
 unfold chO MG
 have k1:=cI (yOf ys i).1 60 (by omega)
 have k2:=cI (yOf ys i).2 50 (by omega)
 split
 ·split <;> simp only <;> omega
 ·simp only; omega
theorem qr (ys:List (Int × Int)) (a b c:Int):(mkT ys a b c).ch.length=nOf ys:=by simp [mkT]
theorem pI (ys:List (Int × Int)):1<=nOf ys/\nOf ys<=4:=by unfold nOf; omega
theorem ru (ys:List (Int × Int)) (a b c:Int):aZ (mkT ys a b c)/\(mkT ys a b c).blades=1:=by
 have h1:=cI a 4 (by omega)
 have h2:=cI b 4 (by omega)
 have h3:=cI c 5 (by omega)
 have hn:=qr ys a b c
 have hb:=pI ys
 refine ⟨⟨fun c hc=>?_,⟨⟨?_,?_⟩,⟨?_,?_⟩,?_,?_⟩,?_,?_,.inl rfl⟩,rfl⟩
 ·obtain ⟨i,_,rfl⟩:=R1.1 hc
  have:=sn ys i
  unfold sN
  omega
 all_goals first | (rw [hn]; omega) | (simp only [mkT]; omega)
theorem xJ (ys:List (Int × Int)) (a b c:Int):(0<=(mkT ys a b c).pick/\(mkT ys a b c).pick<=3)/\(0<=(mkT ys a b c).place/\(mkT ys a b c).place<=3)/\(0<=(mkT ys a b c).travel/\(mkT ys a b c).travel<=4)/\∀d∈(mkT ys a b c).ch,(0<=d.1/\d.1<=59)/\0<=d.2/\d.2<=249:=by
 have h1:=cI a 4 (by omega)
 have h2:=cI b 4 (by omega)
 have h3:=cI c 5 (by omega)
 refine ⟨by simp only [mkT]; omega,by simp only [mkT]; omega,by simp only [mkT]; omega,fun d hd=>?_⟩
 obtain ⟨i,_,rfl⟩:=R1.1 hd
 exact sn ys i
def Mb (A:ac) (v:AV) (xs:List (Int × Int)):Prop:=(v=.nilS/\xs=[])\/∃id gr,v=.sl id 0 xs.length/\xs≠[]/\2<id/\A[id]?=some (.row 2 gr (xs.map chA))
structure I27 (A:ac) (xs:List (Int × Int)) (p q r:Int):Prop where
 o:A[1]?=some (.row 5 false [.agg [.nilS,.int .i64 0,.int .i64 0,.int .i64 0,.int .i64 0]])
 c:∃v,A[2]?=some (.row 5 false [.agg [v,.int .i64 p,.int .i64 q,.int .i64 r,.int .i64 1]])/\Mb A v xs
def gz:List (FuncId × aD):=[(39,aG 4 Cy.M12)]
@[simp] theorem NS:aH gz 39=some (aG 4 Cy.M12):=rfl
theorem qh:∀f M,aH gz f=some M->ak Tryz.prog GC f M:=ae (ak.of_pure w6 4) aw
theorem Cf {x:AV} (h:A[id]?=some (.row k false [.agg es])) (hx:es[i]?=some x):af false 1 A (.ptr id 0 i)=some x:=by
 simp [af,h,bT,hx]
theorem b27 (ys:List (Int × Int)):fh false (.int .i64 (ys.length:Int)) [.int .i64 4]=some (.int .i64 ((min ys.length 4:Nat):Int))/\fh true (.int .i64 1) [.int .i64 ((min ys.length 4:Nat):Int)]=some (.int .i64 (nOf ys:Int)):=by
 constructor
 ·have:=AK ys.length 4 .i64 .i64
  simp only [fh]
  rw [show (.int .i64 4:AV)=.int .i64 ((4:Nat):Int) from rfl,this]
 ·have:=AQ 1 (min ys.length 4) .i64 .i64
  simp only [fh]
  rw [show (.int .i64 1:AV)=.int .i64 ((1:Nat):Int) from rfl,this]
  rfl
theorem xB (ha:inI a) (hb:2<=b/\b<=9223372036854775807):aq .quo (.int .i64 a) (.int .i64 b)=some (.int .i64 (a.tdiv b))/\inI (a.tdiv b):=by
 have h1:(a.tdiv b).natAbs<=a.natAbs:=by rw [Int.natAbs_tdiv]; exact Nat.div_le_self _ _
 have hr:inI (a.tdiv b):=by
  unfold inI at *
  have h2:(a.tdiv b).natAbs<=a.natAbs / 2:=by
   rw [Int.natAbs_tdiv]
   exact Nat.div_le_div_left (by omega) (by omega)
  omega
 refine ⟨?_,hr⟩
 have hw:=eg hr
 simp only [aq]
 rw [RL trivial,RN (by omega),hw]
theorem tp {A:ac} (hys:∀y∈ys,inI y.1/\inI y.2) (hy:SlA 2 (ys.map chA) yv) {xs:List (Int × Int)} {p q r:Int} (hI:I27 A xs p q r) (hi:i<nOf ys) (hxl:xs.length<=100) :
  ∃B,run (ai GC gz) 300 [.code dI] (pn yv (.ptr 1 0 0) (.ptr 2 0 0) (.int .i64 (i:Int))) A=some (.normal (pn yv (.ptr 1 0 0) (.ptr 2 0 0) (.int .i64 ((i+1:Nat):Int))) B)/\I27 B (xs++[chO ys i]) p q r:=by
 obtain ⟨h1,v,h2,hv⟩:=hI
 have n1:=(Rx.1 h1).1
 have n2:=(Rx.1 h2).1
 have hlen:=hy.len
 rw [RR] at hlen
 obtain ⟨b0,b1⟩:=b27 ys
 have b2:=bC i (nOf ys) .i64
 rw [RJ hi] at b2
 have b3:=bC i ys.length .i64
 have b4:=bh i (by have:=pI ys; omega)
 obtain ⟨N,hN⟩:∃n,n=A.length:=⟨_,rfl⟩
 have bx:aY 2 (.agg [.int .i64 0,.int .i64 0]) A=some (.ptr N 0 0,A++[.row 2 false [.agg [.int .i64 0,.int .i64 0]]]):=by rw [hN]; rfl
 have s0:∀a b c d,aC 2 (A++[.row 2 false [.agg [.int .i64 a,.int .i64 b]]]) (.ptr N 0 0) (.agg [.int .i64 c,.int .i64 d])=some (A++[.row 2 false [.agg [.int .i64 c,.int .i64 d]]]):=fun a b c d=>by rw [hN]; simp [aC,bq]
 have f0:∀a b:Int,aa 0 (A++[.row 2 false [.agg [.int .i64 a,.int .i64 b]]]) (.ptr N 0 0)=some (.ptr N 0 0):=fun a b=>by rw [hN]; simp [aa]
 have f1:∀a b:Int,aa 1 (A++[.row 2 false [.agg [.int .i64 a,.int .i64 b]]]) (.ptr N 0 0)=some (.ptr N 0 1):=fun a b=>by rw [hN]; simp [aa]
 have t0:∀a b c,aC 1 (A++[.row 2 false [.agg [.int .i64 a,.int .i64 b]]]) (.ptr N 0 0) (.int .i64 c)=some (A++[.row 2 false [.agg [.int .i64 c,.int .i64 b]]]):=fun a b c=>by rw [hN]; simp [aC,bq]
 have t1:∀a b c,aC 1 (A++[.row 2 false [.agg [.int .i64 a,.int .i64 b]]]) (.ptr N 0 1) (.int .i64 c)=some (A++[.row 2 false [.agg [.int .i64 a,.int .i64 c]]]):=fun a b c=>by rw [hN]; simp [aC,bq]
 have l1:∀a b:Int,af false 1 (A++[.row 2 false [.agg [.int .i64 a,.int .i64 b]]]) (.ptr N 0 1)=some (.int .i64 b):=fun a b=>by rw [hN]; exact Cf (es:=[.int .i64 a,.int .i64 b]) (k:=2) (by simp) rfl
 have l2:∀a b:Int,af true 2 (A++[.row 2 false [.agg [.int .i64 a,.int .i64 b]]]) (.ptr N 0 0)=some (.agg [.int .i64 a,.int .i64 b]):=fun a b=>by rw [hN]; simp [af]
 have c0:∀X,aa 0 (A++X) (.ptr 2 0 0)=some (.ptr 2 0 0):=fun X=>by
  have:(A++X)[2]?=some (.row 5 false [.agg [v,.int .i64 p,.int .i64 q,.int .i64 r,.int .i64 1]]):=by rw [RE n2]; exact h2
  simp [aa,this]
 have cl:∀X,af false 1 (A++X) (.ptr 2 0 0)=some v:=fun X=>Cf (es:=[v,.int .i64 p,.int .i64 q,.int .i64 r,.int .i64 1]) (k:=5) (by rw [RE n2]; exact h2) rfl
 obtain ⟨P1,P2,hch⟩:∃P1 P2,chO ys i=(P1,P2):=⟨_,_,rfl⟩
 rw [hch]
 obtain ⟨A1,hA1⟩:∃X,X=A++[Ent.row 2 false [.agg [.int .i64 P1,.int .i64 P2]]]:=⟨_,rfl⟩
 have hl1:A1.length=A.length+1:=by rw [hA1]; simp
 have hA1o:∀j,j<A.length->A1[j]?=A[j]?:=fun j hj=>by rw [hA1,RE hj]
 obtain ⟨v',A2,e1,e2,e3,e4,e5⟩:∃v' A2,aK 2 16 A1 v (.fs 2 [.agg [.int .i64 P1,.int .i64 P2]])=some (v',A2)/\Mb A2 v' (xs++[(P1,P2)])/\(∀j,j<=2->A2[j]?=A[j]?)/\(∃a b,v'=.sl a 0 b/\2<a)/\2<A2.length:=by
  rcases hv with ⟨rfl,rfl⟩ | ⟨id,gr,rfl,hne,hid,hrow⟩
  ·refine ⟨.sl A1.length 0 1,A1++[.row 2 false [chA (P1,P2)]],by simp [aK,chA],.inr ⟨A1.length,false,rfl,by simp,by omega,by simp⟩,fun j hj=>?_,⟨_,_,rfl,by omega⟩,by simp; omega⟩
   rw [RE (by omega),hA1o j (by omega)]
  ·have hidl:=(Rx.1 hrow).1
   have hz:xs.length≠0:=fun e=>hne (Si.1 e)
   have hb:(xs.length+1)*16<=140737488355328:=by omega
   have hrow1:A1[id]?=some (.row 2 gr (xs.map chA)):=by rw [hA1o id hidl]; exact hrow
   refine ⟨.sl id 0 (xs.length+1),A1.set id (.row 2 true (xs.map chA++[chA (P1,P2)])),by simp [aK,hrow1,hz,hb,chA],.inr ⟨id,true,by simp,by simp,hid,?_⟩,fun j hj=>?_,⟨_,_,rfl,hid⟩,by simp; omega⟩
   ·rw [RO (by omega),ST]; rfl
   ·rw [RF (by omega),hA1o j (by omega)]
 obtain ⟨ia,ib,rfl,hia⟩:=e4
 have c2:aa 0 A2 (.ptr 2 0 0)=some (.ptr 2 0 0):=by
  have:=e3 2 (by omega)
  rw [h2] at this
  simp [aa,this]
 have st:aC 1 A2 (.ptr 2 0 0) (.sl ia 0 ib)=some (A2.set 2 (.row 5 false [.agg [.sl ia 0 ib,.int .i64 p,.int .i64 q,.int .i64 r,.int .i64 1]])):=by
  have:=e3 2 (by omega)
  rw [h2] at this
  simp [aC,this,bq]
 refine ⟨A2.set 2 (.row 5 false [.agg [.sl ia 0 ib,.int .i64 p,.int .i64 q,.int .i64 r,.int .i64 1]]),?_,⟨by rw [RF (by omega),e3 1 (by omega)]; exact h1,.sl ia 0 ib,by rw [RO e5],?_⟩⟩
 rotate_left
 ·rcases e2 with ⟨h,_⟩ | ⟨id,gr,e2,e6,e7,e8⟩
  ·cases h
  ·exact .inr ⟨id,gr,e2,e6,e7,by rw [RF (by omega)]; exact e8⟩
 obtain ⟨B,hB⟩:∃X,X=A2.set 2 (.row 5 false [.agg [.sl ia 0 ib,.int .i64 p,.int .i64 q,.int .i64 r,.int .i64 1]]):=⟨_,rfl⟩
 rw [<-hB] at st ⊢
 have c1:=c0 [Ent.row 2 false [.agg [.int .i64 P1,.int .i64 P2]]]
 have cl1:=cl [Ent.row 2 false [.agg [.int .i64 P1,.int .i64 P2]]]
 have l2':=l2 P1 P2
 rw [<-hA1] at c1 cl1 l2'
 have hsl:bk 2 [.agg [.int .i64 P1,.int .i64 P2]]=some (.fs 2 [.agg [.int .i64 P1,.int .i64 P2]]):=rfl
 obtain ⟨ii,hii⟩:∃n,n=i+1:=⟨_,rfl⟩
 rw [<-hii] at b4 ⊢
 obtain ⟨nn,hnn⟩:∃n,n=nOf ys:=⟨_,rfl⟩
 rw [<-hnn] at b1 b2
 obtain ⟨mm,hmm⟩:∃n,n=min ys.length 4:=⟨_,rfl⟩
 rw [<-hmm] at b0 b1
 have A0d:∀a b,∃X,X=A++[Ent.row 2 false [.agg [.int .i64 a,.int .i64 b]]]:=fun a b=>⟨_,rfl⟩
 have u0:=s0 0 0 20 30
 obtain ⟨D0,hD0⟩:=A0d 0 0
 rw [<-hD0] at bx u0
 by_cases hc:i<ys.length
 ·rw [RJ hc] at b3
  obtain ⟨y,hye⟩:∃y,y=ys[i]:=⟨_,rfl⟩
  have hyy:yOf ys i=y:=by unfold yOf; rw [RC,RD hc,hye]; rfl
  have hyr:inI y.1/\inI y.2:=by rw [hye]; exact hys _ (RM hc)
  have yx:∀A,au 2 A yv (.int .i64 (i:Int))=some (.fp [.int .i64 y.1,.int .i64 y.2]):=fun A=>by
   rw [hye]
   exact hy.index (A:=A) (x:=chA ys[i]) (by simp [hc]) rfl (by omega) .i64
  have y0:∀A,da 2 1 A (.fp [.int .i64 y.1,.int .i64 y.2]) (.int .i64 0)=some (.fp [.int .i64 y.1,.int .i64 y.2]):=fun A=>rfl
  have y1:∀A,da 2 1 A (.fp [.int .i64 y.1,.int .i64 y.2]) (.int .i64 1)=some (.fp [.int .i64 y.2]):=fun A=>rfl
  have z0:∀A,af false 1 A (.fp [.int .i64 y.1,.int .i64 y.2])=some (.int .i64 y.1):=fun A=>rfl
  have z1:∀A,af false 1 A (.fp [.int .i64 y.2])=some (.int .i64 y.2):=fun A=>rfl
  have m1:=dT hyr.1 (n:=60) (by omega)
  have m2:=dT hyr.2 (n:=50) (by omega)
  obtain ⟨q0,q1⟩:=xB hyr.2 (b:=50) (by omega)
  have m3:=dT q1 (n:=3) (by omega)
  have hcc:=hch
  unfold chO MG at hcc
  rw [RL hc,hyy] at hcc
  injection hcc with e1' e2'
  have r1:=cI y.2 50 (by omega)
  have b5:aq .add (.int .i64 (pick y.2 50)) (.int .i64 200)=some (.int .i64 (pick y.2 50+200)):=be (by omega)
  have b6:=bE (pick (y.2.tdiv 50) 3) 0
  rw [e1'] at m1
  obtain ⟨S,hS⟩:∃S,S=pick y.2 50:=⟨_,rfl⟩
  rw [<-hS] at m2 e2' b5
  have u1:=f0 20 30
  have u2:=t0 20 30 P1
  have u3:=f1 P1 30
  have u4:=t1 P1 30 S
  obtain ⟨D1,hD1⟩:=A0d 20 30
  rw [<-hD1] at u0 u1 u2
  obtain ⟨D2,hD2⟩:=A0d P1 30
  rw [<-hD2] at u2 u3 u4
  generalize y.2.tdiv 50=Q at *
  generalize pick Q 3=R at *
  by_cases hR:R=0
  ·rw [RL hR] at e2'
   rw [RJ hR] at b6
   rw [e2'] at b5
   have u5:=f1 P1 S
   have u6:=l1 P1 S
   have u7:=t1 P1 S P2
   rw [<-hA1] at u7
   obtain ⟨D3,hD3⟩:=A0d P1 S
   rw [<-hD3] at u4 u5 u6 u7
   simp [dI,hlen,b0,b1,b2,b3,b4,b5,b6,bx,yx,y0,y1,z0,z1,u0,u1,u2,u3,u4,u5,u6,u7,q0,m1,m2,m3,hsl,c1,cl1,l2',e1,c2,st,aP,-fh,-g7,-aq,-af,-aC,-aa,-au,-az,-bk,-aY,-frz]
  ·rw [RN hR] at e2'
   rw [RH hR] at b6
   subst e2'
   rw [<-hA1] at u4
   simp [dI,hlen,b0,b1,b2,b3,b4,b6,bx,yx,y0,y1,z0,z1,u0,u1,u2,u3,u4,q0,m1,m2,m3,hsl,c1,cl1,l2',e1,c2,st,aP,-fh,-g7,-aq,-af,-aC,-aa,-au,-az,-bk,-aY,-frz]
 ·rw [RH hc] at b3
  have hcc:=hch
  unfold chO at hcc
  rw [RN hc] at hcc
  injection hcc with e1' e2'
  subst e1'; subst e2'
  rw [<-hA1] at u0
  simp [dI,hlen,b0,b1,b2,b3,b4,bx,u0,hsl,c1,cl1,l2',e1,c2,st,-fh,-g7,-aq,-af,-aC,-aa,-au,-az,-bk,-aY,-frz]
theorem Ja (hys:∀y∈ys,inI y.1/\inI y.2) (hy:SlA 2 (ys.map chA) yv) {p q r:Int}:∀(c i:Nat) (A:ac) (m:Nat),i+c=nOf ys->I27 A ((List.range i).map (chO ys)) p q r->c<m ->
  ∃B,cc (evC (ai GC gz) 300 dI) mO m (pn yv (.ptr 1 0 0) (.ptr 2 0 0) (.int .i64 (i:Int))) A=some (.exit 0 ((pn yv (.ptr 1 0 0) (.ptr 2 0 0) (.int .i64 (nOf ys:Int))).set 7 (.bool false)) B)/\I27 B ((List.range (nOf ys)).map (chO ys)) p q r:=by
 have hn4:=pI ys
 intro c
 induction c with
 | zero=>
  intro i A m hi hI hm
  obtain ⟨m,rfl⟩:∃j,m=j+1:=⟨m-1,by omega⟩
  obtain rfl:i=nOf ys:=by omega
  refine ⟨A,?_,hI⟩
  have hlen:=hy.len
  rw [RR] at hlen
  obtain ⟨b0,b1⟩:=b27 ys
  have b2:=bC (nOf ys) (nOf ys) .i64
  rw [RH (by omega)] at b2
  obtain ⟨mm,hmm⟩:∃n,n=min ys.length 4:=⟨_,rfl⟩
  rw [<-hmm] at b0 b1
  rw [aO,zc]
  simp [dI,hlen,b0,b1,b2,-aq,-fh,-g7,-az]
 | succ c ih=>
  intro i A m hi hI hm
  obtain ⟨m,rfl⟩:∃j,m=j+1:=⟨m-1,by omega⟩
  obtain ⟨B,h1,h2⟩:=tp hys hy hI (i:=i) (by omega) (by simp; omega)
  have e:(List.range i).map (chO ys)++[chO ys i]=(List.range (i+1)).map (chO ys):=by rw [S5,ST]; rfl
  rw [e] at h2
  obtain ⟨C,h3,h4⟩:=ih (i+1) B m (by omega) h2 (by omega)
  refine ⟨C,?_,h4⟩
  rw [aO,zc,h1]
  exact h3
def M27:aI:=fun args=>evP (ai GC gz) 300 wt 4 args
theorem uw:an Tryz.prog GC 13 M27:=an.of_ev (E:=ai GC gz) (ag qh) rfl KR sg 4 fun _ _ h=>⟨300,h⟩
theorem Bn {xs:List (Int × Int)} (h:Mb A v xs) (k:Nat):frz A (k+3) v=slA 2 (xs.map chA):=by
 rcases h with ⟨rfl,rfl⟩ | ⟨id,gr,rfl,hne,_,hr⟩
 ·rfl
 ·have e:((xs.map chA).drop 0).take xs.length=xs.map chA:=by
   rw [R2]
   conv=>lhs; rw [show xs.length=(xs.map chA).length by simp]
   rw [Sj]
  have hm:(xs.map chA).map (frz A (k+2))=xs.map chA:=by
   rw [Te]
   exact Sc fun x _=>by simp [chA,frz]
  rw [show k+3=(k+2)+1 from rfl]
  simp only [frz,hr]
  rw [e,hm]
  cases xs with
  | nil=>exact absurd rfl hne
  | cons x r=>rfl
def mkA (ys:List (Int × Int)) (a b c:Int):AV:=ay (mkT ys a b c) (slA 2 ((mkT ys a b c).ch.map chA))
theorem vC (hys:∀y∈ys,inI y.1/\inI y.2) (hy:SlA 2 (ys.map chA) yv) (ha:inI a) (hb:inI b) (hc:inI c):M27 [yv,.agg [.int .i64 a,.int .i64 b,.int .i64 c]]=some (mkA ys a b c):=by
 have m1:=dT ha (n:=4) (by omega)
 have m2:=dT hb (n:=4) (by omega)
 have m3:=dT hc (n:=5) (by omega)
 have hmk:mkA ys a b c=.agg [slA 2 (((List.range (nOf ys)).map (chO ys)).map chA),.int .i64 (pick a 4),.int .i64 (pick b 4),.int .i64 (pick c 5),.int .i64 1]:=rfl
 rw [hmk]
 obtain ⟨q1,h1⟩:∃z,z=pick a 4:=⟨_,rfl⟩
 obtain ⟨q2,h2⟩:∃z,z=pick b 4:=⟨_,rfl⟩
 obtain ⟨q3,h3⟩:∃z,z=pick c 5:=⟨_,rfl⟩
 rw [<-h1] at m1 ⊢
 rw [<-h2] at m2 ⊢
 rw [<-h3] at m3 ⊢
 obtain ⟨B,lp,⟨k1,v,k2,k3⟩⟩:=Ja hys hy (p:=q1) (q:=q2) (r:=q3) (nOf ys) 0 [.row 3 false [.agg [.int .i64 a,.int .i64 b,.int .i64 c]],.row 5 false [.agg [.nilS,.int .i64 0,.int .i64 0,.int .i64 0,.int .i64 0]],.row 5 false [.agg [.nilS,.int .i64 q1,.int .i64 q2,.int .i64 q3,.int .i64 1]]] 300 (by omega) ⟨rfl,.nilS,rfl,.inl ⟨rfl,rfl⟩⟩ (by have:=pI ys; omega)
 rw [show ((0:Nat):Int)=0 from rfl] at lp
 have e1:af true 5 B (.ptr 2 0 0)=some (.agg [v,.int .i64 q1,.int .i64 q2,.int .i64 q3,.int .i64 1]):=by simp [af,k2]
 have kl:=(Rx.1 k1).1
 have st:aC 5 B (.ptr 1 0 0) (.agg [v,.int .i64 q1,.int .i64 q2,.int .i64 q3,.int .i64 1])=some (B.set 1 (.row 5 false [.agg [v,.int .i64 q1,.int .i64 q2,.int .i64 q3,.int .i64 1]])):=by simp [aC,k1,bq]
 have k3':Mb (B.set 1 (.row 5 false [.agg [v,.int .i64 q1,.int .i64 q2,.int .i64 q3,.int .i64 1]])) v ((List.range (nOf ys)).map (chO ys)):=by
  rcases k3 with k3 | ⟨id,gr,a,b,c,d⟩
  ·exact .inl k3
  ·exact .inr ⟨id,gr,a,b,c,by rw [RF (by omega)]; exact d⟩
 have f1:=Bn k3' 0
 have e2:af true 5 (B.set 1 (.row 5 false [.agg [v,.int .i64 q1,.int .i64 q2,.int .i64 q3,.int .i64 1]])) (.ptr 1 0 0)=some (.agg [v,.int .i64 q1,.int .i64 q2,.int .i64 q3,.int .i64 1]):=by simp [af,kl]
 obtain ⟨C,hC⟩:∃X,X=B.set 1 (.row 5 false [.agg [v,.int .i64 q1,.int .i64 q2,.int .i64 q3,.int .i64 1]]):=⟨_,rfl⟩
 rw [<-hC] at st e2 f1
 have F1:frz C 4 (.agg [v,.int .i64 q1,.int .i64 q2,.int .i64 q3,.int .i64 1])=.agg [slA 2 (((List.range (nOf ys)).map (chO ys)).map chA),.int .i64 q1,.int .i64 q2,.int .i64 q3,.int .i64 1]:=by
  rw [<-f1]; rfl
 rw [hC] at F1
 have k1g:B[1]=.row 5 false [.agg [.nilS,.int .i64 0,.int .i64 0,.int .i64 0,.int .i64 0]]:=by
  rw [RD kl] at k1; injection k1
 unfold M27
 rw [aT _ _ rfl]
 simp [wt,da,m1,m2,m3,aP,Js lp,k1g,k2,kl,F1,-frz,-aq]
end Tr
namespace Tr
open Go
open Cy (GC aP bj aE dT)
open Clu (aU aZ ay chA be ej cG cE bE cS bg cP)
def rdO (xs:List Int) (i:Nat):Int:=if i<xs.length/\0<pick (xs.getD i 0) 4 then pick ((xs.getD i 0).tdiv 4) 120 else -1
def rdM (n:Nat) (xs:List Int):List Int:=(List.range n).map (rdO xs)
theorem ET (n:Nat) (xs:List Int):(rdM n xs).length=n:=by simp [rdM]
theorem If (xs:List Int) (i:Nat) : -1<=rdO xs i/\rdO xs i<=119:=by
 unfold rdO
 have:=cI ((xs.getD i 0).tdiv 4) 120 (by omega)
 split <;> omega
theorem Ig:∀t∈rdM n xs,-1<=t/\t<=119:=fun t ht=>by
 obtain ⟨i,_,rfl⟩:=R1.1 ht
 exact If xs i
def rI (f:Nat->Int) (n i:Nat):List Int:=(List.range i).map f++List.replicate (n-i) 0
theorem Il (f:Nat->Int) (h:i<=n):(rI f n i).length=n:=by simp [rI]; omega
theorem Ik (f:Nat->Int) (h:i<n):(rI f n i).set i (f i)=rI f n (i+1):=by
 unfold rI
 rw [R9 _ _ (by simp)]
 obtain ⟨m,hm⟩:∃m,n-i=m+1:=⟨n-i-1,by omega⟩
 rw [hm,show n-(i+1)=m by omega,S5]
 simp [List.replicate_succ]
theorem EX (f:Nat->Int) (n:Nat):rI f n n=(List.range n).map f:=by simp [rI]
theorem EW (f:Nat->Int) (n:Nat):rI f n 0=List.replicate n 0:=by simp [rI]
def M28:aI:=fun args=>evP (ai GC gz) 300 Hi 4 args
theorem xd:an Tryz.prog GC 23 M28:=an.of_ev (E:=ai GC gz) (ag qh) rfl Pb yR 4 fun _ _ h=>⟨300,h⟩
def A28 (tv:AV) (l:List Int):ac:=[.row 5 false [tv],.row 1 false (ax l)]
theorem EN {tv:AV} (hx:SlA 1 (ax xs) xv) (hxi:∀z∈xs,inI z) {n i:Nat} (hn:n<=100) (hi:i<n) :
  run (ai GC gz) 300 [.code fL] (jS xv (.sl 1 0 n) (.int .i64 (i:Int))) (A28 tv (rI (rdO xs) n i))=some (.normal (jS xv (.sl 1 0 n) (.int .i64 ((i+1:Nat):Int))) (A28 tv (rI (rdO xs) n (i+1)))):=by
 have hr:∀l,(A28 tv l)[1]?=some (.row 1 false (ax l)):=fun l=>rfl
 have hset:∀l l',(A28 tv l).set 1 (.row 1 false (ax l'))=A28 tv l':=fun l l'=>rfl
 have hl:=Il (rdO xs) (n:=n) (i:=i) (by omega)
 have hll:=hx.len
 rw [aE] at hll
 have b0:=bC i n .i64
 rw [RJ hi] at b0
 have b1:=bC i xs.length .i64
 have b2:=bh i (by omega)
 have hS:az (.sl 1 0 n)=some (.int .i64 (n:Int)):=rfl
 have i0:=eH (n:=n) (hr (rI (rdO xs) n i)) hi .i64
 have s0:=pm (hr (rI (rdO xs) n i)) (show i<(rI (rdO xs) n i).length by omega) (-1)
 rw [hset] at s0
 obtain ⟨L1,hL1⟩:∃L,L=(rI (rdO xs) n i).set i (-1):=⟨_,rfl⟩
 rw [<-hL1] at s0
 have hl1:L1.length=n:=by rw [hL1,SA,hl]
 have i1:=eH (n:=n) (hr L1) hi .i64
 have ii:∃j,j=i+1:=⟨_,rfl⟩
 obtain ⟨j,hj⟩:=ii
 have e0:=Ik (rdO xs) hi
 rw [<-hj] at b2 e0 ⊢
 by_cases hc:i<xs.length
 ·rw [RJ hc] at b1
  obtain ⟨y,hy⟩:∃y,y=xs[i]:=⟨_,rfl⟩
  have hyg:xs.getD i 0=y:=by rw [RC,RD hc,hy]; rfl
  have hyi:inI y:=by rw [hy]; exact hxi _ (RM hc)
  have x1:∀A,au 1 A xv (.int .i64 (i:Int))=some (.fp [.int .i64 y]):=fun A=>by
   rw [hy]
   exact hx.index1 (A:=A) (x:=.int .i64 xs[i]) (i:=i) (by simp [ax,hc]) rfl rfl .i64
  have l1:∀A,af false 1 A (.fp [.int .i64 y])=some (.int .i64 y):=fun A=>rfl
  have m1:=dT hyi (n:=4) (by omega)
  obtain ⟨q0,q1⟩:=xB hyi (b:=4) (by omega)
  have m2:=dT q1 (n:=120) (by omega)
  have b3:=cS (pick y 4) 0
  have ef:rdO xs i=if 0<pick y 4 then pick (y.tdiv 4) 120 else -1:=by
   unfold rdO
   rw [hyg]
   by_cases h:0<pick y 4
   ·rw [RL ⟨hc,h⟩,RL h]
   ·rw [RN (fun hh=>h hh.2),RN h]
  generalize y.tdiv 4=Q at *
  generalize pick y 4=R at *
  generalize pick Q 120=V at *
  by_cases hR:0<R
  ·rw [RL hR] at ef
   rw [RJ hR] at b3
   have s1:=pm (hr L1) (show i<L1.length by omega) V
   rw [hset,hL1,Up,<-hL1,<-ef,e0] at s1
   rw [ef] at s1
   generalize A28 tv (rI (rdO xs) n i)=B0 at *
   generalize A28 tv L1=B1 at *
   generalize A28 tv (rI (rdO xs) n j)=B2 at *
   simp [fL,hll,hS,b0,b1,b2,b3,i0,s0,i1,s1,x1,l1,q0,m1,m2,aP,-aq,-af,-aC,-au,-az,-frz]
  ·rw [RN hR] at ef
   rw [RH hR] at b3
   rw [hL1,<-ef,e0] at s0
   rw [ef] at s0
   generalize A28 tv (rI (rdO xs) n i)=B0 at *
   generalize A28 tv (rI (rdO xs) n j)=B2 at *
   simp [fL,hll,hS,b0,b1,b2,b3,i0,s0,x1,l1,m1,aP,-aq,-af,-aC,-au,-az,-frz]
 ·rw [RH hc] at b1
  have ef:rdO xs i = -1:=by unfold rdO; rw [RN (fun h=>hc h.1)]
  rw [hL1,<-ef,e0] at s0
  rw [ef] at s0
  generalize A28 tv (rI (rdO xs) n i)=B0 at *
  generalize A28 tv (rI (rdO xs) n j)=B2 at *
  simp [fL,hll,hS,b0,b1,b2,i0,s0,-aq,-af,-aC,-au,-az,-frz]
theorem I9 {tv:AV} (hx:SlA 1 (ax xs) xv) (hxi:∀z∈xs,inI z) (hn:n<=100):∀(c i m:Nat),i+c=n->c<m ->
  cc (evC (ai GC gz) 300 fL) fd m (jS xv (.sl 1 0 n) (.int .i64 (i:Int))) (A28 tv (rI (rdO xs) n i))=some (.exit 0 ((jS xv (.sl 1 0 n) (.int .i64 (n:Int))).set 6 (.bool false)) (A28 tv (rI (rdO xs) n n))):=by
 intro c
 induction c with
 | zero=>
  intro i m hi hm
  obtain ⟨m,rfl⟩:∃j,m=j+1:=⟨m-1,by omega⟩
  obtain rfl:i=n:=by omega
  have b2:=bC i i .i64
  rw [RH (by omega)] at b2
  rw [aO,si]
  simp [fL,b2,-aq]
 | succ c ih=>
  intro i m hi hm
  obtain ⟨m,rfl⟩:∃j,m=j+1:=⟨m-1,by omega⟩
  rw [aO,si,EN hx hxi hn (by omega)]
  exact ih (i+1) m (by omega) (by omega)
theorem Lm {T:aU} {chv:AV} (hb:SlA 2 (T.ch.map chA) chv) (hl:T.ch.length<=100) (hl1:1<=T.ch.length) {xs:List Int} (hx:SlA 1 (ax xs) xv) (hxi:∀z∈xs,inI z):M28 [ay T chv,xv]=some (.fs 1 (ax (rdM T.ch.length xs))):=by
 have lp:=I9 (tv:=ay T chv) hx hxi hl T.ch.length 0 300 (by omega) (by omega)
 rw [EW,EX,show ((0:Nat):Int)=0 from rfl] at lp
 have lnc:=hb.len
 rw [RR] at lnc
 have bx0:aY 5 (ay T chv) []=some (.ptr 0 0 0,[.row 5 false [ay T chv]]):=rfl
 have ct:(cellsOf (ay T chv)).length=5:=rfl
 obtain ⟨n,hn⟩:∃n,n=T.ch.length:=⟨_,rfl⟩
 rw [<-hn] at lp lnc hl hl1 ⊢
 have mk:cr 1 8 (.int .i64 0) [.row 5 false [ay T chv]] (.int .i64 (n:Int)) (.int .i64 (n:Int))=some (.sl 1 0 n,A28 (ay T chv) (List.replicate n 0)):=by
  simp [cr,A28,ax]
  omega
 have fa0:aa 0 [.row 5 false [ay T chv]] (.ptr 0 0 0)=some (.ptr 0 0 0):=rfl
 have lch:af false 1 [.row 5 false [ay T chv]] (.ptr 0 0 0)=some chv:=by
  rcases hb with ⟨rfl,_⟩ | rfl <;> rfl
 have ff:frz (A28 (ay T chv) (rdM n xs)) 4 (.sl 1 0 n)=.fs 1 (ax (rdM n xs)):=by
  have hrow:(A28 (ay T chv) (rdM n xs))[1]?=some (.row 1 false (ax (rdM n xs))):=rfl
  have:=dK (off:=0) (xs:=ax (rdM n xs)) hrow (by rw [R2]; exact RW (by simp [ax,rdM])) (fun k x hx=>by
   obtain ⟨c,_,rfl⟩:=R1.1 hx
   exact aP _ _ _ _) 2
  have e:(ax (rdM n xs)).length=n:=by simp [ax,rdM]
  rw [e] at this
  exact this
 rw [show (List.range n).map (rdO xs)=rdM n xs from rfl] at lp
 generalize ay T chv=tv at *
 generalize A28 tv (rdM n xs)=B1 at *
 generalize A28 tv (List.replicate n 0)=B0 at *
 unfold M28
 rw [aT _ _ rfl]
 simp [Hi,bx0,ct,fa0,lch,lnc,mk,Ct lp,ff,-aY,-aa,-af,-cr,-frz,-aq,-cellsOf,-az]
end Tr
namespace Tr
open Go
open Cy (GC aP bj aE dT lvM dH qt qe)
open Clu (aU aZ bQ Chk nb ay chA oK eP qR ee ss oO kO)
def Hv:aI:=fun args=>evF (ai GC ((24,H14 0) :: gE)) 300 kR 4 args
theorem DQ:bs Tryz.prog GC 24 Hv:=bs.of_ev (E:=ai GC ((24,H14 0) :: gE)) (ag uC) rfl CW mh 4 fun _ _ h=>⟨300,h⟩
theorem pT (B:ac) (n:Nat) (t:cY):a5 B (n+1) (bn t)=true:=by simp [bn,a5]
theorem G7 {T:aU} {chv rdv:AV} {free lost:Int} (hb:SlA 2 (T.ch.map chA) chv) (hr:SlA 1 (ax rd) rdv) (hTl:T.ch.length<=200) (hrl:rd.length<=200) :
  ∃v,Hv [ay T chv,rdv,.int .i64 free,.int .i64 lost]=some (.tup [v,.bool (dj T rd free lost).isSome])/\SlA 2 (((dj T rd free lost).getD []).map bn) v:=by
 have hT:Tl [] T chv chv:=⟨.inl hb,fun X=>Clu.bg (fun A n=>hb.frz (A:=A) n) _ 3,hb⟩
 have hR:Rl [] rd rdv rdv:=⟨.inl hr,fun X=>hr.frz 4,hr⟩
 obtain ⟨v,B,h1,_,h2⟩:=ow (free:=free) (lost:=lost) hT hR hTl hrl
 obtain ⟨v',k1,k2⟩:=vE (free:=free) (lost:=lost) hb hr hTl hrl
 refine ⟨v',?_,k2⟩
 unfold M14 evP at k1
 rw [h1] at k1
 simp only [SE] at k1
 unfold Hv evF
 rw [h1]
 simp only [Sl]
 rw [RL]
 ·exact k1
 ·rcases h2 with ⟨rfl,_⟩ | ⟨i,_,rfl,hrow⟩
  ·rfl
  ·have:a5 B 3 (.sl i 0 ((dj T rd free lost).getD []).length)=true:=by
    simp only [a5,hrow]
    rw [RZ]
    intro y hy
    obtain ⟨t,_,rfl⟩:=R1.1 (List.mem_of_mem_drop (TH hy))
    exact pT B 1 t
   show (a5 B 3 _ && (a5 B 3 (.bool _) && true))=true
   rw [this]; rfl
theorem r8 {T:aU} {d:List cY} (h:cn T rd free=some d):∃x,mZ T (st0 rd free) d=some x/\fH T rd free d=some x.fin/\x.inn.length=T.ch.length/\(∀j,j<T.ch.length->x.inn.getD j 0 = -1)/\free<=x.fin:=by
 obtain ⟨hS,o,e,k1,k2,k3,_⟩:=iL h
 obtain ⟨X,x0,rfl,⟨s,hs⟩,hX⟩:=fJ hS k1 k2
 obtain ⟨f1,f2,f3⟩:=(iM hS x0 k1).2 s hs
 have hk:=((iM hS x0 k1).1.1 ⟨s,hs⟩).1
 refine ⟨s,hs,by unfold fH; rw [RL hS,hs]; rfl,f2,f3,?_⟩
 rw [f1]
 split
 ·exact SU _
 ·rename_i hne
  have:∀(l:List cY) (a b:St),mZ T a l=some b->a.fin<=b.fin:=by
   intro l
   induction l with
   | nil=>intro a b h; injection h with h; rw [h]; exact SU _
   | cons t r ih=>
    intro a b h
    simp only [mZ] at h
    rw [RG] at h
    obtain ⟨c,hc,h⟩:=h
    have h2:=ih c b h
    unfold dY at hc
    split at hc
    ·rename_i hh
     rw [RG] at hc
     obtain ⟨u,_,hc⟩:=hc
     rw [RK] at hc
     obtain ⟨v,_,rfl⟩:=hc
     have:=dD hS.1.1
     have:0<=btw T a.last t.1:=by
      unfold btw
      have:=hS.1.1.2.1.2.2.1
      split <;> omega
     simp only at h2
     omega
    ·cases hc
  have:=this _ _ _ hs
  rw [f1,RN hne] at this
  exact this
theorem ra {T:aU} {s:bQ} (h:eP T=some s):∀x∈s.starts,x<=100000000:=by
 have hc:=ee h
 obtain ⟨_,hs⟩:=ss h
 have hv:=hc.2.2.1
 have hl:=(qt hv.1).2 (qe hv)
 have h3:=(dH hv.1 hl).2.2.1
 have es:s.starts=(lvM (s.order.length:Int) (Clu.bN T s.order) s.period).1:=by
  conv=>lhs; rw [hs]
  rfl
 rw [es]
 exact h3
theorem Bj {T:aU} {s:bQ} (hc:Chk T s) (free:Int) {r:Nat} (hr:kF s.order T.ch.length<=r):cyc T s free r=s.order.map (tk T s free r):=by
 unfold cyc
 rw [List.filter_eq_self.2]
 intro t ht
 have:=(ig hc).2.2.2.2 t ht
 have h1:=xX s.order (i:=t.toNat) (j:=T.ch.length) (by omega)
 exact RJ (by omega)
theorem wg (T:aU) (s:bQ) (free:Int) (R:Nat):dW T s free (R+1)=dW T s free R++cyc T s free R:=by
 unfold dW
 rw [S5,Tq]
 simp
theorem Ap {T:aU} {s:bQ} (hv:aZ T) (h:eP T=some s) (hf:0<=free/\free<=2000000) {r:Nat} (hr:r<=100) {t:Int} (ht:t∈s.order):(tk T s free r t).2<=1000000000:=by
 have hc:=ee h
 have h1:=ra h
 obtain ⟨c1,c2,c3,c4,c5⟩:=ig hc
 have:=c5 t ht
 have ht2:stD s t.toNat<=100000000:=by
  unfold stD
  rw [RC,RD (by omega)]
  exact h1 _ (RM _)
 have h0:0<=stD s 0:=by
  unfold stD
  rw [RC,RD (by omega)]
  exact (c3 _ (RM _)).1
 have:=hv.2.1.2.2
 have hm:(r:Int)*s.period<=100*1000000:=Int.mul_le_mul (by omega) (by omega) (by omega) (by omega)
 show bsF T s free+(r:Int)*s.period+stD s t.toNat<=_
 unfold bsF
 omega
theorem wY {T:aU} {free:Int} {s:bQ} (hS:Sit T rd free) (hb:eP T=some s) {d:List cY} (hd:cn T rd free=some d) {e:Int} (he:fH T rd free d=some e) (hes:e<=2000000) :
  ∃m,fu T rd free s=some (d++m)/\(fH T rd free (d++m)).isSome=true/\∃p r,m=p++s.order.map (tk T s e r)/\m.length<=30:=by
 have hc:=ee hb
 have hv:=hS.1.1
 obtain ⟨x,x1,x2,x3,x4,x5⟩:=r8 hd
 have ex:e=x.fin:=by rw [he] at x2; injection x2
 have hf0:=hS.2.2.1
 have hok:vc T s e:=⟨hS.1,hc,by omega,hes⟩
 have hk:=vZ s.order T.ch.length
 have hn:=hv.2.2.2.1
 obtain ⟨k,hkk⟩:∃k:Nat,kF s.order T.ch.length=k:=⟨(kF s.order T.ch.length).toNat,by omega⟩
 have hR:(kF s.order T.ch.length+1).toNat=k+1:=by omega
 have hm:n8 T s e=some (dW T s e (k+1)):=by unfold n8; rw [RL hok,hR]
 obtain ⟨y,y1,_⟩:=yo (free:=e) hc hS.1.2 hv (k+1) (fun r hr t ht=>Ap hv hb ⟨by omega,hes⟩ (by omega) ht) x x3 x4 ex.symm (by omega)
 refine ⟨dW T s e (k+1),?_,?_,dW T s e k,k,?_,vb hm⟩
 ·unfold fu
  rw [hd,Sl,he,So,hm]; rfl
 ·unfold fH
  rw [RL hS,qN,x1,Sl,y1]; rfl
 ·rw [wg,Bj hc e (by omega)]
end Tr
namespace Tr
open Go
open Cy (GC gW aP bj aE cZ)
open Clu (aU aZ ay chA bQ Chk nb bg cE)
theorem nZ {l:List cY} (h:B[i]?=some (.row 2 g (l.map bn))) (a k:Nat):a5 B 3 (.sl i a k)=true:=by
 simp only [a5,h]
 rw [RZ]
 intro y hy
 obtain ⟨t,_,rfl⟩:=R1.1 (List.mem_of_mem_drop (TH hy))
 exact pT B 1 t
theorem KU {lo:Nat} {mv:AV} {l more:List cY} (h:RV lo B v l) (hm:SlA 2 (more.map bn) mv) (hl:l.length+more.length<=1000):∃w B',aK 2 16 B v mv=some (w,B')/\SlA 2 ((l++more).map bn) (frz B' 3 w)/\a5 B' 3 w=true:=by
 have hs:=MH hm B
 rcases h with ⟨rfl,rfl⟩ | ⟨i,_,rfl,hrow⟩
 ·by_cases h0:more=[]
  ·subst h0
   exact ⟨.nilS,B,by simp [aK,hs],.inl ⟨rfl,rfl⟩,rfl⟩
  ·have hp:0<more.length:=TM.2 h0
   refine ⟨.sl B.length 0 more.length,B++[.row 2 false (more.map bn)],?_,?_,nZ (g:=false) (l:=more) (by simp) _ _⟩
   ·simp only [aK,hs,RR]
    rw [RN (by omega),RL ⟨by omega,by omega,by omega⟩]
   ·rw [qz (g:=false) (by simp),S7]
    exact .inr rfl
 ·have hil:=(Rx.1 hrow).1
  by_cases h0:l=[]
  ·subst h0
   refine ⟨.sl B.length 0 more.length,B.set i .dead++[.row 2 false (more.map bn)],?_,?_,nZ (g:=false) (l:=more) (by simp) _ _⟩
   ·simp only [aK,hs,hrow,RR,Tm,List.map_nil,Tb]
    rw [RL ⟨trivial,by omega,by omega,by simp at hl; omega⟩,RN (by simp)]
    simp
   ·have:(B.set i .dead++[Ent.row 2 false (more.map bn)])[B.length]?=some (.row 2 false (more.map bn)):=by simp
    rw [qz this,S7]
    exact .inr rfl
  ·have hp:l.length≠0:=fun e=>h0 (Si.1 e)
   refine ⟨.sl i 0 (l.length+more.length),B.set i (.row 2 true (l.map bn++more.map bn)),?_,?_,nZ (g:=true) (l:=l++more) (by rw [RO hil,ST]) _ _⟩
   ·simp only [aK,hs,hrow,RR]
    rw [RL ⟨trivial,by omega,by omega,by omega⟩,RL ⟨trivial,trivial,hp⟩]
   ·have hr:(B.set i (.row 2 true (l.map bn++more.map bn)))[i]?=some (.row 2 true ((l++more).map bn)):=by rw [RO hil,ST]
    have:=qz hr
    rw [R8] at this
    rw [this]
    exact .inr rfl
def G6:aI:=fun args=>evF (ai GC yg) 0 Ab 4 args
theorem kM:bs Tryz.prog GC 25 G6:=bs.of_ev (E:=ai GC yg) (ag (ae DP (ae (ak.of_pure xf 4) (ae (ak.of_pure H5 4) aw)))) rfl Pc yS 4 fun _ _ h=>⟨0,h⟩
section
variable {T:aU} {chv rdv:AV} {rd:List Int} {s:bQ} {ov sv pv:AV} {free:Int}
theorem G5 (hb:SlA 2 (T.ch.map chA) chv) (hl:T.ch.length<=200) (hr:SlA 1 (ax rd) rdv) (hrl:rd.length<=200) (hs:nb s ov sv pv):∃v,G6 [ay T chv,rdv,.int .i64 free,bw s ov sv pv]=some (.tup [v,.int .i64 (Ma (fu T rd free s))])/\SlA 2 (((fu T rd free s).getD []).map bn) v:=by
 have ft:=fun A=>bg (T:=T) (fun A n=>hb.frz (A:=A) n) A 3
 have fr:∀A n,frz A n rdv=rdv:=fun A n=>hr.frz n
 have fs:∀A,frz A 4 (bw s ov sv pv)=bw s ov sv pv:=fun A=>by
  show AV.agg [_,frz A 3 ov,frz A 3 sv,frz A 3 pv]=_
  rw [hs.o.frz,hs.st.frz,hs.pr.frz]; rfl
 have bx0:aY 5 (ay T chv) []=some (.ptr 0 0 0,[.row 5 false [ay T chv]]):=rfl
 have bx1:aY 4 (bw s ov sv pv) [.row 5 false [ay T chv]]=some (.ptr 1 0 0,[.row 5 false [ay T chv],.row 4 false [bw s ov sv pv]]):=rfl
 have ct:(cellsOf (ay T chv)).length=5:=rfl
 have cs:(cellsOf (bw s ov sv pv)).length=4:=rfl
 obtain ⟨A0,hA0⟩:∃A:ac,A=[.row 5 false [ay T chv],.row 4 false [bw s ov sv pv]]:=⟨_,rfl⟩
 have lt:∀W,af true 5 (A0++W) (.ptr 0 0 0)=some (ay T chv):=fun W=>by rw [hA0]; rfl
 have lsA:∀W,af true 4 (A0++W) (.ptr 1 0 0)=some (bw s ov sv pv):=fun W=>by rw [hA0]; rfl
 rw [<-hA0] at bx1
 have hT:Tl A0 T chv chv:=⟨.inl hb,fun X=>ft _,hb⟩
 have hR:Rl A0 rd rdv rdv:=⟨.inl hr,fun X=>fr _ 4,hr⟩
 obtain ⟨v,B,h1,⟨W,hW⟩,hRV⟩:=ow (free:=free) (lost:=0) hT hR hl hrl
 rw [tS] at h1 hRV
 have h1:∀hh,Hx hh [ay T chv,rdv,.int .i64 free,.int .i64 0] A0=some (.tup [v,.bool (cn T rd free).isSome],B):=fun _=>h1
 have lt0:=lt []
 rw [Sm] at lt0
 have lt1:=lt W
 have ls1:=lsA W
 rw [<-hW] at lt1 ls1
 unfold G6 fu
 cases hd:cn T rd free with
 | none=>
  rw [hd] at h1
  refine ⟨.nilS,?_,.inl ⟨rfl,rfl⟩⟩
  show evF _ _ _ _ _=some (.tup [.nilS,.int .i64 140])
  have ff:∀A:ac,frz A 4 (.tup [.nilS,.int .i64 140])=.tup [.nilS,.int .i64 140]:=fun _=>rfl
  have fb:∀A:ac,a5 A 4 (.tup [.nilS,.int .i64 140])=true:=fun _=>rfl
  have h1:∀hh,Hx hh [ay T chv,rdv,.int .i64 free,.int .i64 0] A0=some (.tup [v,.bool false],B):=h1
  generalize ay T chv=tv at *
  generalize bw s ov sv pv=sA at *
  rw [eO _ _ rfl]
  simp [Ab,bx0,bx1,ct,cs,lt0,h1,ff,fb,dw,-aY,-af,-frz,-cellsOf]
 | some l=>
  rw [hd] at h1 hRV
  have hRV:RV A0.length B v l:=hRV
  have h1:∀hh,Hx hh [ay T chv,rdv,.int .i64 free,.int .i64 0] A0=some (.tup [v,.bool true],B):=h1
  obtain ⟨hln,_⟩:=ou hd
  obtain ⟨lv,hlv,hfl⟩:∃lv,SlA 2 (l.map bn) lv/\frz B 4 v=lv:=by
   rcases hRV with ⟨rfl,rfl⟩ | ⟨i,_,rfl,hrow⟩
   ·exact ⟨.nilS,.inl ⟨rfl,rfl⟩,rfl⟩
   ·exact ⟨.fs 2 (l.map bn),.inr rfl,rO hrow⟩
  have m17:=zT hb hl hr hrl free hlv (by omega)
  unfold Hp at m17
  obtain ⟨mv,m24,hmv⟩:=Ln (free:=(fH T rd free l).getD 0) hb hl hs
  have hsc:bP 4 (.tup [.int .i64 ((fH T rd free l).getD 0),.bool (fH T rd free l).isSome])=true:=rfl
  have nr1:bu 4 (ay T chv)=true:=Clu.cP (fun n=>hb.noRef n) 3
  have nr2:bu 4 (bw s ov sv pv)=true:=by
   show ([_,ov,sv,pv]:List AV).all (bu 3)=true
   simp [hs.o.noRef,hs.st.noRef,hs.pr.noRef,bu]
  have nr3:∀z,bu 4 (.int .i64 z)=true:=fun _=>rfl
  simp only [Sl]
  obtain ⟨r,hf⟩:∃r,r=n8 T s ((fH T rd free l).getD 0):=⟨_,rfl⟩
  rw [<-hf] at m24 hmv ⊢
  cases r with
  | none=>
   have m24:M24 [ay T chv,bw s ov sv pv,.int .i64 ((fH T rd free l).getD 0)]=some (.tup [mv,.int .i64 140]):=m24
   refine ⟨.nilS,?_,.inl ⟨rfl,rfl⟩⟩
   show evF _ _ _ _ _=some (.tup [.nilS,.int .i64 140])
   have ff:∀A:ac,frz A 4 (.tup [.nilS,.int .i64 140])=.tup [.nilS,.int .i64 140]:=fun _=>rfl
   have fb:∀A:ac,a5 A 4 (.tup [.nilS,.int .i64 140])=true:=fun _=>rfl
   have b1:=cE 140 0
   rw [RJ (by omega)] at b1
   generalize (fH T rd free l).getD 0=e at *
   generalize (fH T rd free l).isSome=eb at *
   generalize ay T chv=tv at *
   generalize bw s ov sv pv=sA at *
   rw [eO _ _ rfl]
   simp [Ab,bx0,bx1,ct,cs,lt0,lt1,ls1,h1,ft,fr,fs,hfl,aP,m17,m24,nr1,nr2,b1,ff,fb,dw,-aY,-af,-frz,-cellsOf,-aq]
  | some m=>
   have m24:M24 [ay T chv,bw s ov sv pv,.int .i64 ((fH T rd free l).getD 0)]=some (.tup [mv,.int .i64 0]):=m24
   have hml:=vb hf.symm
   obtain ⟨w,B',hap,hw,hwf⟩:=KU hRV (show SlA 2 (m.map bn) mv from hmv) (by omega)
   refine ⟨frz B' 3 w,?_,hw⟩
   show evF _ _ _ _ _=some (.tup [frz B' 3 w,.int .i64 0])
   have ff:frz B' 4 (.tup [w,.int .i64 0])=.tup [frz B' 3 w,.int .i64 0]:=rfl
   have fb:a5 B' 4 (.tup [w,.int .i64 0])=true:=by
    show (a5 B' 3 w && (a5 B' 3 (.int .i64 0) && true))=true
    rw [hwf]; rfl
   have b1:=cE 0 0
   rw [RH (by omega)] at b1
   generalize (fH T rd free l).getD 0=e at *
   generalize (fH T rd free l).isSome=eb at *
   generalize ay T chv=tv at *
   generalize bw s ov sv pv=sA at *
   rw [eO _ _ rfl]
   simp [Ab,bx0,bx1,ct,cs,lt0,lt1,ls1,h1,ft,fr,fs,hfl,aP,m17,m24,nr1,nr2,b1,hap,ff,fb,dw,-aY,-af,-frz,-cellsOf,-aq]
end
end Tr
namespace Tr
open Go
open Cy (GC aP bj aE dT)
open Clu (aU aZ bQ Chk nb ay chA oK eP qR ee kO be cf ej cG cE bE cS)
end Tr
namespace Tr
open Go
open Cy (GC aP bj aE dT)
open Clu (aU aZ sN bQ Chk nb ay chA oK eP qR ee kO be cf ej cG cE bE cS dO bg cP)
theorem sd {esz bytes:Nat} (he:0<esz) (hb:0<bytes) {N:Nat} (hN:N=A.length) {xs:List AV} (h:SlA esz xs xv) (hl:xs.length*bytes<=140737488355328):aK esz bytes (A++[.row esz false []]) (.sl N 0 0) xv=some (.sl (N+1) 0 xs.length,A++[.dead,.row esz false xs]):=by
 subst hN
 have hs:aS esz (A++[.row esz false []]) xv=some xs:=by
  rcases h with ⟨rfl,rfl⟩ | rfl
  ·rfl
  ·simp [aS]
 have hr:(A++[Ent.row esz false []])[A.length]?=some (.row esz false []):=by simp
 simp only [aK,hs,hr]
 rw [RL ⟨trivial,he,hb,by rw [Tb]; exact hl⟩,RN (by simp)]
 simp
section
variable {A:ac} {id:Nat} {cs:List (Int × Int)}
end
end Tr
namespace Tr
open Go
open Cy (GC aP bj aE dT)
open Clu (aU aZ sN bQ Chk nb ay chA be cf ej cG cE bE cS dO bg cP)
theorem mT {l:List Int} (h:A[id]?=some (.row 1 g (ax l))) (hn:n=l.length) (k:Nat):frz A (k+2) (.sl id 0 n)=.fs 1 (ax l):=by
 have:=dK (off:=0) (xs:=ax l) h (by rw [R2]; exact RW (RT _)) (fun k x hx=>by
  obtain ⟨c,_,rfl⟩:=R1.1 hx
  exact aP _ _ _ _) k
 rw [hn,<-aE l]; exact this
theorem FX {l:List (Int × Int)} (h:A[id]?=some (.row 2 g (l.map chA))) (hn:n=l.length) (k:Nat):frz A (k+3) (.sl id 0 n)=.fs 2 (l.map chA):=by
 have e:((l.map chA).drop 0).take n=l.map chA:=by
  rw [R2]
  exact RW (by simp [hn])
 have hm:(l.map chA).map (frz A (k+2))=l.map chA:=by
  rw [Te]
  exact Sc fun x _=>by simp [chA,frz]
 rw [show k+3=(k+2)+1 from rfl]
 simp only [frz,h]
 rw [e,hm]
end Tr
open Go
def qv:MC:=.seq (.seq (.region [.a 19,.a 15,.B 1,.Z 25 0 2]) (.cond (.var 25) .skip (.exit 0))) (.seq (.seq (.block 1 (.seq (.region [.a 17,.a 19,.g 2 0 1,.l 0 2,.b 1 3,.c 20 4]) (.seq (.seq (.region [.a 20,.a 4,.dc 26 0 1]) (.cond (.var 26) (.region [.a 20,.t 0 1,.c 20 1]) .skip)) (.seq (.region [.a 15,.a 19,.g 2 0 1,.l 0 2,.b 1 3,.a 20,.qn (.bin .neq (.tmp 4) (.tmp 5)),.h 6,.z 15 7,.z 19 7,.Y 2 8 9 7,.cb 1 10 7,.r 1 11 7,.z 17 7,.z 19 7,.Y 2 13 14 7,.cb 1 15 7,.r 1 16 7,.qf (.bin .neq (.tmp 12) (.tmp 17)) 7,.G 27 7 18]) (.cond (.var 27) (.seq (.region [.f 6]) .ret) .skip))))) (.kill [0,1,2,5,6,8,9,10,13,14,16,18,20,21,22,23,24,25,26,27])) (.region [.a 19,.t 0 1,.c 19 1]))
def mf5:bM:=⟨5,28,.seq (.region [.y 5 1,.f 6]) (.seq (.region [.qn (.call (.fn 6) []),.c 7 0]) (.seq (.region [.a 0,.k 3 5,.q 13 0 1,.X 8 5,.j 5 8 2]) (.seq (.region [.d 0 8,.b 1 0,.B 1,.c 9 2]) (.seq (.region [.k 5 8,.a 2,.q 23 0 1,.c 10 2]) (.seq (.region [.a 3,.ci 21 0,.c 3 1]) (.seq (.region [.a 4,.a 9,.q 21 0 1,.qn (.bin .add (.cst (.int .i64 1)) (.tmp 2)),.c 4 3]) (.seq (.seq (.region [.a 9,.aa 22 0 1]) (.cond (.var 22) (.seq (.region [.a 7,.c 6 0]) .ret) .skip)) (.seq (.region [.k 5 8,.X 11 5,.j 5 11 0]) (.seq (.regionD [] [.dj,.d 0 8,.b 1 1,.a 4,.A 3 1,.a1 2 2 4,.ap 2 0 5,.d 0 8,.b 1 7,.a 4,.a2 2 8 9,.ap 2 6 10,.d 0 11,.I 1 12 11] [(0,1),(0,2),(0,5),(0,7),(6,7),(0,8),(6,8),(0,10),(6,10)]) (.seq (.regionD [] [.cw,.a 10,.a 4,.A 2 1,.a1 1 1 3,.ae 1 0 4,.a 10,.a 4,.a2 1 6 7,.ae 1 5 8,.c 12 9] [(0,4),(0,8),(5,8)]) (.seq (.region [.k 5 11,.E 14 0,.h 1,.n 2 0,.n 2 1,.bg 13 4,.j 4 13 3,.c 14 4]) (.seq (.region [.k 5 8,.a 10,.a 3,.a 4,.W 24 0 1 2 3,.h 4,.n 5 0,.n 5 1,.c 15 6,.c 16 7]) (.seq (.region [.k 5 11,.a 12,.a 3,.k 4 13,.W 25 0 1 2 3,.h 4,.n 5 0,.n 5 1,.c 17 6,.c 18 7]) (.seq (.seq (.region [.a 14,.be 0 0,.h 1,.z 16 2,.L 3 2,.G 23 2 4]) (.cond (.var 23) (.seq (.region [.a 7,.h 0,.x 18 1,.aw 2 140 1,.i 1 3,.c 6 4]) .ret) .skip)) (.seq (.seq (.region [.a 18,.be 0 0,.h 1,.z 17 2,.al 3 2,.z 15 2,.al 5 2,.z 9 2,.az 6 7 2,.cp 4 8 2,.G 24 2 9]) (.cond (.var 24) (.seq (.region [.f 6]) .ret) .skip)) (.seq (.seq (.region [.e 19 0]) (.seq (.block 0 (.loop [0,1,2,5,6,8,9,10,13,14,16,18,20,21,22,23,24,25,26,27] qv)) (.kill [0,1,2,4,5,6,8,9,10,13,14,15,16,18,19,20,21,22,23,24,25,26,27]))) (.seq (.region [.k 5 11,.a 12,.a 3,.a 17,.W 22 0 1 2 3,.h 4,.n 5 0,.n 5 1,.h 6,.c 21 7]) (.seq (.region [.a 7,.h 0,.x 21 1,.i 1 2,.c 6 3]) .ret)))))))))))))))))),[.tmp 6]⟩
def kS:List Nat:=[0,1,2,5,6,8,9,10,13,14,16,18,20,21,22,23,24,25,26,27]
abbrev sX (v3 v4 v7 v11 v12 v15 v17 v19:AV):List AV:=[.undef,.undef,.undef,v3,v4,.undef,.undef,v7,.undef,.undef,.undef,v11,v12,.undef,.undef,v15,.undef,v17,.undef,v19,.undef,.undef,.undef,.undef,.undef,.undef,.undef,.undef]
theorem KD {v11 v12 v15 v17 d18 v19 d20 d21 d22 d23 d24 d25 d26 d27:AV}:clear kS [d0,d1,d2,v3,v4,d5,d6,v7,d8,d9,d10,v11,v12,d13,d14,v15,d16,v17,d18,v19,d20,d21,d22,d23,d24,d25,d26,d27]=sX v3 v4 v7 v11 v12 v15 v17 v19:=by simp only [kS,clear,Sr,TS,SL,S8]
theorem M9 {k:List KC} {v11 v12 v15 v17 d18 v19 d20 d21 d22 d23 d24 d25 d26 d27:AV} (h:cc (evC E fuel qv) kS fuel (sX v3 v4 v7 v11 v12 v15 v17 v19) A=some o) :
  run E fuel (.code (.loop [0,1,2,5,6,8,9,10,13,14,16,18,20,21,22,23,24,25,26,27] qv) :: k) [d0,d1,d2,v3,v4,d5,d6,v7,d8,d9,d10,v11,v12,d13,d14,v15,d16,v17,d18,v19,d20,d21,d22,d23,d24,d25,d26,d27] A=after E fuel k o:=aV kS _ _ (by rw [KD]; exact h)
theorem OV:aB Tryz.prog Tryz.f5 5 [0,1,2,3,4,6,10,11,12,13,14,15,16,17,18,19,20,21,22,23,24,26,44,96,112,116,126,148] [] true ([[0,1,2,5,6,8,9,10,13,14,16,18,20,21,22,23,24,25,26,27]],[[0,1,2,5,6,8,9,10,13,14,16,18,20,21,22,23,24,25,26,27],[0,1,2,4,5,6,8,9,10,13,14,15,16,18,19,20,21,22,23,24,25,26,27]])=some mf5:=by kernel_rfl
theorem at5:Tryz.prog.funcs[5]?=some Tryz.f5:=by kernel_rfl
namespace Tr
open Cy (GC aP bj aE dT)
open Clu (aU aZ ay chA bQ Chk nb bg cP be cf cE bE cG cS dO oK)
namespace Ch
def fsC (M6:aI):List (FuncId × aD):=[(6,aG 4 M6),(13,aG 4 M27),(14,Clu.H22),(21,aG 4 Cy.M12),(22,aG 4 M17),(23,aG 4 M28),(24,ck 4 Hv),(25,ck 4 G6)]
section
variable (M6:aI)
@[simp] theorem fsC_6:aH (fsC M6) 6=some (aG 4 M6):=rfl
@[simp] theorem QN:aH (fsC M6) 13=some (aG 4 M27):=rfl
@[simp] theorem QM:aH (fsC M6) 14=some Clu.H22:=rfl
@[simp] theorem QL:aH (fsC M6) 21=some (aG 4 Cy.M12):=rfl
@[simp] theorem QK:aH (fsC M6) 22=some (aG 4 M17):=rfl
@[simp] theorem QJ:aH (fsC M6) 23=some (aG 4 M28):=rfl
@[simp] theorem QI:aH (fsC M6) 24=some (ck 4 Hv):=rfl
@[simp] theorem QH:aH (fsC M6) 25=some (ck 4 G6):=rfl
theorem H9 {M6:aI} (h6:an Tryz.prog GC 6 M6):∀f M,aH (fsC M6) f=some M->ak Tryz.prog GC f M:=
 ae (ak.of_pure h6 4) (ae (ak.of_pure uw 4) (ae Clu.Dx (ae (ak.of_pure Cy.H8 4) (ae (ak.of_pure xf 4) (ae (ak.of_pure xd 4) (ae (ak.of_pureF DQ 4) (ae (ak.of_pureF kM 4) aw)))))))
end
theorem zF {esz bytes:Nat} (he:0<esz) (hb:0<bytes) (A:ac) {xs ys:List AV} (h:SlA esz xs xv) (hy:SlA esz ys yv) (hl:(xs.length+ys.length)*bytes<=140737488355328) :
  ∃s1 X1 id g X,aK esz bytes (A++[.row esz false []]) (.sl A.length 0 0) xv=some (s1,A++X1)/\aK esz bytes (A++X1) s1 yv=some (.sl id 0 (xs.length+ys.length),A++X)/\(A++X)[id]?=some (.row esz g (xs++ys))/\A.length<=id:=by
 have hm:xs.length*bytes<=(xs.length+ys.length)*bytes:=Nat.mul_le_mul (by omega) (RT _)
 have h1:=sd he hb (A:=A) rfl h (by omega)
 by_cases hx:xs.length=0
 ·have e:xs=[]:=Si.1 hx
  subst e
  have h2:=sd he hb (A:=A++[.dead]) (N:=A.length+1) (by simp) hy (by simpa using hl)
  refine ⟨_,_,A.length+1+1,false,[.dead,.dead,.row esz false ys],h1,?_,?_,?_⟩
  ·rw [show A++[.dead,.row esz false []]=A++[.dead]++[.row esz false []] by simp]
   rw [show ([]:List AV).length=0 from rfl,h2]
   simp
  ·rw [RS (by omega)]
   simp [show A.length+1+1-A.length=2 by omega]
  ·omega
 ·refine ⟨_,_,A.length+1,true,[.dead,.row esz true (xs++ys)],h1,?_,?_,by omega⟩
  ·have hs:aS esz (A++[.dead,.row esz false xs]) yv=some ys:=hy.src
   have hr:(A++[Ent.dead,.row esz false xs])[A.length+1]?=some (.row esz false xs):=by
    rw [RS (by omega)]
    simp [show A.length+1-A.length=1 by omega]
   simp only [aK,hs,hr]
   rw [RL ⟨trivial,he,hb,hl⟩,RL ⟨trivial,trivial,hx⟩]
   congr 2
   rw [R9 _ _ (by omega),show A.length+1-A.length=1 by omega]
   rfl
  ·rw [RS (by omega)]
   simp [show A.length+1-A.length=1 by omega]
section
variable {E:Env} {A:ac}
theorem ixT {l:List cY} (h:SlA 2 (l.map bn) v) {t:cY} (ht:l[i]?=some t):au 2 A v (.int .i64 (i:Int))=some (.fp [.int .i64 t.1,.int .i64 t.2]):=
 h.index (by rw [T4,ht]; rfl) rfl (by omega) .i64
theorem Fz {dv lv:AV} {d l:List cY} {lost:Int} (hd:SlA 2 (d.map bn) dv) (hl:SlA 2 (l.map bn) lv) (hdl:d.length<=200) (_hlost:1<=lost/\lost<=100) (hm:∀(i:Nat) (t:cY),d[i]?=some t->∃u:cY,l[i]?=some u/\t=ik lost u/\(-1000<=u.1/\u.1<=1000)) (v3 v7 v11 v12:AV) :
  cc (evC E 300 qv) kS 300 (sX v3 (.int .i64 lost) v7 v11 v12 dv lv (.int .i64 0)) A=some (.exit 0 ((sX v3 (.int .i64 lost) v7 v11 v12 dv lv (.int .i64 (d.length:Int))).set 25 (.bool false)) A):=by
 have hlen:=hd.len
 rw [RR] at hlen
 refine nW (fun k=>sX v3 (.int .i64 lost) v7 v11 v12 dv lv (.int .i64 (k:Int))) (fun _=>A) d.length (fun _=>KD) (fun _ _ h=>by cases h) (fun i hi=>?_) ?_ (by omega)
 ·obtain ⟨u,hu,ht,ub⟩:=hm i d[i] (RD hi)
  have x0:=ixT (A:=A) hd (RD hi)
  rw [ht] at x0
  have x1:=ixT (A:=A) hl hu
  have b0:=bC i d.length .i64
  rw [RJ hi] at b0
  have b1:=bh i (by omega)
  have b2:aq .geq (.int .i64 u.1) (.int .i64 lost)=some (.bool (decide (lost<=u.1))):=by simp [aq]
  have b3:aq .add (.int .i64 u.1) (.int .i64 1)=some (.int .i64 (u.1+1)):=be (by omega)
  have l0:∀a b:AV,aa 0 A (.fp [a,b])=some (.fp [a,b]):=fun _ _=>rfl
  have l1:∀a b:AV,aa 1 A (.fp [a,b])=some (.fp [b]):=fun _ _=>rfl
  have l2:∀a b:AV,af false 1 A (.fp [a,b])=some a:=fun _ _=>rfl
  have l3:∀a:AV,af false 1 A (.fp [a])=some a:=fun _=>rfl
  have b5:=cE u.2 u.2
  rw [RH (by simp)] at b5
  unfold ik at x0
  show run _ _ _ _ _=some (.normal _ _)
  clear ht hm hu
  generalize ((i+1:Nat):Int)=I1 at *
  generalize (i:Int)=I at *
  generalize (d.length:Int)=N at *
  by_cases hc:lost<=u.1
  ·rw [RJ hc] at b2
   rw [RL hc] at x0
   have b4:=cE (u.1+1) (u.1+1)
   rw [RH (by simp)] at b4
   generalize u.1+1=w at *
   simp [qv,b0,b1,b2,b3,b4,b5,hlen,x0,x1,l0,l1,l2,l3,-aq,-af,-au,-aa,-az]
  ·rw [RH hc] at b2
   rw [RN hc] at x0
   have b4:=cE u.1 u.1
   rw [RH (by simp)] at b4
   simp [qv,b0,b1,b2,b4,b5,hlen,x0,x1,l0,l1,l2,l3,-aq,-af,-au,-aa,-az]
 ·have b0:=bC d.length d.length .i64
  rw [RH (by omega)] at b0
  show run _ _ _ _ _=some _
  generalize (d.length:Int)=N at *
  simp [qv,hlen,b0,-aq,-az]
end
end Ch
end Tr
namespace Tr
open Cy (GC aP bj)
open Clu (be cf cE bE cG cS dO)
namespace Ch
section
def cg1:MC:=.region [.y 5 1,.f 6]
def cg2:MC:=.region [.qn (.call (.fn 6) []),.c 7 0]
def cg3:MC:=.region [.a 0,.k 3 5,.q 13 0 1,.X 8 5,.j 5 8 2]
def cg4:MC:=.region [.d 0 8,.b 1 0,.B 1,.c 9 2]
def cg5:MC:=.region [.k 5 8,.a 2,.q 23 0 1,.c 10 2]
def cg6:MC:=.region [.a 3,.ci 21 0,.c 3 1]
def cg7:MC:=.region [.a 4,.a 9,.q 21 0 1,.qn (.bin .add (.cst (.int .i64 1)) (.tmp 2)),.c 4 3]
def cg8:MC:=.seq (.region [.a 9,.aa 22 0 1]) (.cond (.var 22) (.seq (.region [.a 7,.c 6 0]) .ret) .skip)
def cg9:MC:=.region [.k 5 8,.X 11 5,.j 5 11 0]
def Hu:MC:=.regionD [] [.dj,.d 0 8,.b 1 1,.a 4,.A 3 1,.a1 2 2 4,.ap 2 0 5,.d 0 8,.b 1 7,.a 4,.a2 2 8 9,.ap 2 6 10,.d 0 11,.I 1 12 11] [(0,1),(0,2),(0,5),(0,7),(6,7),(0,8),(6,8),(0,10),(6,10)]
def Ht:MC:=.regionD [] [.cw,.a 10,.a 4,.A 2 1,.a1 1 1 3,.ae 1 0 4,.a 10,.a 4,.a2 1 6 7,.ae 1 5 8,.c 12 9] [(0,4),(0,8),(5,8)]
def Hs:MC:=.region [.k 5 11,.E 14 0,.h 1,.n 2 0,.n 2 1,.bg 13 4,.j 4 13 3,.c 14 4]
def Hr:MC:=.region [.k 5 8,.a 10,.a 3,.a 4,.W 24 0 1 2 3,.h 4,.n 5 0,.n 5 1,.c 15 6,.c 16 7]
def Hq:MC:=.region [.k 5 11,.a 12,.a 3,.k 4 13,.W 25 0 1 2 3,.h 4,.n 5 0,.n 5 1,.c 17 6,.c 18 7]
def Bv:MC:=.seq (.region [.a 14,.be 0 0,.h 1,.z 16 2,.L 3 2,.G 23 2 4]) (.cond (.var 23) (.seq (.region [.a 7,.h 0,.x 18 1,.aw 2 140 1,.i 1 3,.c 6 4]) .ret) .skip)
def KL:MC:=.seq (.region [.a 18,.be 0 0,.h 1,.z 17 2,.al 3 2,.z 15 2,.al 5 2,.z 9 2,.az 6 7 2,.cp 4 8 2,.G 24 2 9]) (.cond (.var 24) (.seq (.region [.f 6]) .ret) .skip)
def KJ:MC:=.seq (.region [.e 19 0]) (.seq (.block 0 (.loop [0,1,2,5,6,8,9,10,13,14,16,18,20,21,22,23,24,25,26,27] qv)) (.kill [0,1,2,4,5,6,8,9,10,13,14,15,16,18,19,20,21,22,23,24,25,26,27]))
def KI:MC:=.region [.k 5 11,.a 12,.a 3,.a 17,.W 22 0 1 2 3,.h 4,.n 5 0,.n 5 1,.h 6,.c 21 7]
def KH:MC:=.region [.a 7,.h 0,.x 21 1,.i 1 2,.c 6 3]
def KG:MC:=.ret
theorem BX:mf5=⟨5,28,.seq cg1 (.seq cg2 (.seq cg3 (.seq cg4 (.seq cg5 (.seq cg6 (.seq cg7 (.seq cg8 (.seq cg9 (.seq Hu (.seq Ht (.seq Hs (.seq Hr (.seq Hq (.seq Bv (.seq KL (.seq KJ (.seq KI (.seq KH (KG))))))))))))))))))),[.tmp 6]⟩:=rfl
def BC:MC:=.seq cg1 (.seq cg2 (.seq cg3 (.seq cg4 (.seq cg5 (.seq cg6 (.seq cg7 (.seq cg8 (.seq cg9 (.seq Hu (.seq Ht (.seq Hs (.seq Hr (.seq Hq (.seq Bv (.seq KL (.seq KJ (.seq KI (.seq KH (KG)))))))))))))))))))
def uh:MC:=.seq Bv (.seq KL (.seq KJ (.seq KI (.seq KH (KG)))))
variable {M6:aI} {K:List KC} {A B:ac} {a0 a1 a2 tv tw sv iv rv dv lv cv chv:AV} {n:Nat} {a3 a4 free lost e f:Int}
abbrev zTl:AV:=.agg [.nilS,.int .i64 0,.int .i64 0,.int .i64 0,.int .i64 0]
abbrev zSd:AV:=.agg [.int .i64 0,.nilS,.nilS,.nilS]
theorem GU (h1:a1.solid=true/\(cellsOf a1).length=3) :
  run (ai GC (fsC M6)) 300 (.code cg1 :: K) [a0,a1,a2,.int .i64 a3,.int .i64 a4,.undef,.undef,.undef,.undef,.undef,.undef,.undef,.undef,.undef,.undef,.undef,.undef,.undef,.undef,.undef,.undef,.undef,.undef,.undef,.undef,.undef,.undef,.undef] []=run (ai GC (fsC M6)) 300 K [a0,a1,a2,.int .i64 a3,.int .i64 a4,.ptr 0 0 0,.bool false,.undef,.undef,.undef,.undef,.undef,.undef,.undef,.undef,.undef,.undef,.undef,.undef,.undef,.undef,.undef,.undef,.undef,.undef,.undef,.undef,.undef] [.row 3 false [a1]]:=by
 simp [cg1,h1,-cellsOf,-AV.solid]
theorem GT (h6:M6 []=some (.bool true)) :
  run (ai GC (fsC M6)) 300 (.code cg2 :: K) [a0,a1,a2,.int .i64 a3,.int .i64 a4,.ptr 0 0 0,.bool false,.undef,.undef,.undef,.undef,.undef,.undef,.undef,.undef,.undef,.undef,.undef,.undef,.undef,.undef,.undef,.undef,.undef,.undef,.undef,.undef,.undef] A=run (ai GC (fsC M6)) 300 K [a0,a1,a2,.int .i64 a3,.int .i64 a4,.ptr 0 0 0,.bool false,.bool true,.undef,.undef,.undef,.undef,.undef,.undef,.undef,.undef,.undef,.undef,.undef,.undef,.undef,.undef,.undef,.undef,.undef,.undef,.undef,.undef] A:=by
 simp [cg2,h6]
theorem GR (hb:af true 3 A (.ptr 0 0 0)=some a1) (f0:frz A 4 a0=a0) (f1:frz A 4 a1=a1) (n0:bu 4 a0=true) (n1:bu 4 a1=true) (h13:M27 [a0,a1]=some tv) (hs:aC 5 (A++[.row 5 false [zTl]]) (.ptr A.length 0 0) tv=some B) :
  run (ai GC (fsC M6)) 300 (.code cg3 :: K) [a0,a1,a2,.int .i64 a3,.int .i64 a4,.ptr 0 0 0,.bool false,.bool true,.undef,.undef,.undef,.undef,.undef,.undef,.undef,.undef,.undef,.undef,.undef,.undef,.undef,.undef,.undef,.undef,.undef,.undef,.undef,.undef] A=run (ai GC (fsC M6)) 300 K [a0,a1,a2,.int .i64 a3,.int .i64 a4,.ptr 0 0 0,.bool false,.bool true,(.ptr A.length 0 0),.undef,.undef,.undef,.undef,.undef,.undef,.undef,.undef,.undef,.undef,.undef,.undef,.undef,.undef,.undef,.undef,.undef,.undef,.undef] B:=by
 simp [cg3,hb,f0,f1,n0,n1,h13,hs,-af,-aC,-frz]
theorem GQ (hf:aa 0 A (.ptr 1 0 0)=some (.ptr 1 0 0)) (hl:af false 1 A (.ptr 1 0 0)=some cv) (hn:az cv=some (.int .i64 (n:Int))) :
  run (ai GC (fsC M6)) 300 (.code cg4 :: K) [a0,a1,a2,.int .i64 a3,.int .i64 a4,.ptr 0 0 0,.bool false,.bool true,.ptr 1 0 0,.undef,.undef,.undef,.undef,.undef,.undef,.undef,.undef,.undef,.undef,.undef,.undef,.undef,.undef,.undef,.undef,.undef,.undef,.undef] A=run (ai GC (fsC M6)) 300 K [a0,a1,a2,.int .i64 a3,.int .i64 a4,.ptr 0 0 0,.bool false,.bool true,.ptr 1 0 0,.int .i64 (n:Int),.undef,.undef,.undef,.undef,.undef,.undef,.undef,.undef,.undef,.undef,.undef,.undef,.undef,.undef,.undef,.undef,.undef,.undef] A:=by
 simp [cg4,hf,hl,hn,-af,-aa,-az]
theorem GP (hl:af true 5 A (.ptr 1 0 0)=some tv) (f0:frz A 4 tv=tv) (n0:bu 4 tv=true) (f2:frz A 4 a2=a2) (n2:bu 4 a2=true) (h23:M28 [tv,a2]=some iv) :
  run (ai GC (fsC M6)) 300 (.code cg5 :: K) [a0,a1,a2,.int .i64 a3,.int .i64 a4,.ptr 0 0 0,.bool false,.bool true,.ptr 1 0 0,.int .i64 (n:Int),.undef,.undef,.undef,.undef,.undef,.undef,.undef,.undef,.undef,.undef,.undef,.undef,.undef,.undef,.undef,.undef,.undef,.undef] A=run (ai GC (fsC M6)) 300 K [a0,a1,a2,.int .i64 a3,.int .i64 a4,.ptr 0 0 0,.bool false,.bool true,.ptr 1 0 0,.int .i64 (n:Int),iv,.undef,.undef,.undef,.undef,.undef,.undef,.undef,.undef,.undef,.undef,.undef,.undef,.undef,.undef,.undef,.undef,.undef] A:=by
 simp [cg5,hl,f0,n0,f2,n2,h23,-af,-frz]
theorem GO (h21:Cy.M12 [.int .i64 a3,.int .i64 60]=some (.int .i64 free)) :
  run (ai GC (fsC M6)) 300 (.code cg6 :: K) [a0,a1,a2,.int .i64 a3,.int .i64 a4,.ptr 0 0 0,.bool false,.bool true,.ptr 1 0 0,.int .i64 (n:Int),iv,.undef,.undef,.undef,.undef,.undef,.undef,.undef,.undef,.undef,.undef,.undef,.undef,.undef,.undef,.undef,.undef,.undef] A=run (ai GC (fsC M6)) 300 K [a0,a1,a2,.int .i64 free,.int .i64 a4,.ptr 0 0 0,.bool false,.bool true,.ptr 1 0 0,.int .i64 (n:Int),iv,.undef,.undef,.undef,.undef,.undef,.undef,.undef,.undef,.undef,.undef,.undef,.undef,.undef,.undef,.undef,.undef,.undef] A:=by
 simp [cg6,h21,aP,-frz]
theorem GN {k:Int} (h21:Cy.M12 [.int .i64 a4,.int .i64 (n:Int)]=some (.int .i64 k)) (b1:aq .add (.int .i64 1) (.int .i64 k)=some (.int .i64 lost)) :
  run (ai GC (fsC M6)) 300 (.code cg7 :: K) [a0,a1,a2,.int .i64 free,.int .i64 a4,.ptr 0 0 0,.bool false,.bool true,.ptr 1 0 0,.int .i64 (n:Int),iv,.undef,.undef,.undef,.undef,.undef,.undef,.undef,.undef,.undef,.undef,.undef,.undef,.undef,.undef,.undef,.undef,.undef] A=run (ai GC (fsC M6)) 300 K [a0,a1,a2,.int .i64 free,.int .i64 lost,.ptr 0 0 0,.bool false,.bool true,.ptr 1 0 0,.int .i64 (n:Int),iv,.undef,.undef,.undef,.undef,.undef,.undef,.undef,.undef,.undef,.undef,.undef,.undef,.undef,.undef,.undef,.undef,.undef] A:=by
 simp [cg7,h21,b1,aP,-aq,-frz]
theorem GL (b1:aq .eql (.int .i64 (n:Int)) (.int .i64 1)=some (.bool true)) :
  run (ai GC (fsC M6)) 300 (.code cg8 :: K) [a0,a1,a2,.int .i64 free,.int .i64 lost,.ptr 0 0 0,.bool false,.bool true,.ptr 1 0 0,.int .i64 (n:Int),iv,.undef,.undef,.undef,.undef,.undef,.undef,.undef,.undef,.undef,.undef,.undef,.undef,.undef,.undef,.undef,.undef,.undef] A=some (.ret [a0,a1,a2,.int .i64 free,.int .i64 lost,.ptr 0 0 0,.bool true,.bool true,.ptr 1 0 0,.int .i64 (n:Int),iv,.undef,.undef,.undef,.undef,.undef,.undef,.undef,.undef,.undef,.undef,.undef,.bool true,.undef,.undef,.undef,.undef,.undef] A):=by
 simp [cg8,b1,-aq]
theorem GM (b1:aq .eql (.int .i64 (n:Int)) (.int .i64 1)=some (.bool false)) :
  run (ai GC (fsC M6)) 300 (.code cg8 :: K) [a0,a1,a2,.int .i64 free,.int .i64 lost,.ptr 0 0 0,.bool false,.bool true,.ptr 1 0 0,.int .i64 (n:Int),iv,.undef,.undef,.undef,.undef,.undef,.undef,.undef,.undef,.undef,.undef,.undef,.undef,.undef,.undef,.undef,.undef,.undef] A=run (ai GC (fsC M6)) 300 K [a0,a1,a2,.int .i64 free,.int .i64 lost,.ptr 0 0 0,.bool false,.bool true,.ptr 1 0 0,.int .i64 (n:Int),iv,.undef,.undef,.undef,.undef,.undef,.undef,.undef,.undef,.undef,.undef,.undef,.bool false,.undef,.undef,.undef,.undef,.undef] A:=by
 simp [cg8,b1,-aq]
theorem GK (hl:af true 5 A (.ptr 1 0 0)=some tv) (hs:aC 5 (A++[.row 5 false [zTl]]) (.ptr A.length 0 0) tv=some B) :
  run (ai GC (fsC M6)) 300 (.code cg9 :: K) [a0,a1,a2,.int .i64 free,.int .i64 lost,.ptr 0 0 0,.bool false,.bool true,.ptr 1 0 0,.int .i64 (n:Int),iv,.undef,.undef,.undef,.undef,.undef,.undef,.undef,.undef,.undef,.undef,.undef,.bool false,.undef,.undef,.undef,.undef,.undef] A=run (ai GC (fsC M6)) 300 K [a0,a1,a2,.int .i64 free,.int .i64 lost,.ptr 0 0 0,.bool false,.bool true,.ptr 1 0 0,.int .i64 (n:Int),iv,(.ptr A.length 0 0),.undef,.undef,.undef,.undef,.undef,.undef,.undef,.undef,.undef,.undef,.bool false,.undef,.undef,.undef,.undef,.undef] B:=by
 simp [cg9,hl,hs,-af,-aC]
theorem BA {A1 B1 B3:ac} {x1 x2:AV} {k:Int} {e1 e2:List AV} (hb:a6 2 [] A=some (.sl 3 0 0,A1)) (hf1:aa 0 A1 (.ptr 1 0 0)=some (.ptr 1 0 0)) (hl1:af false 1 A1 (.ptr 1 0 0)=some (.fs 2 es)) (b1:aq .sub (.int .i64 lost) (.int .i64 1)=some (.int .i64 k)) (hc1:bO 2 A1 none (some (.int .i64 k)) (.fs 2 es)=some (.fs 2 e1)) (ha1:aK 2 16 A1 (.sl 3 0 0) (.fs 2 e1)=some (x1,B1)) (hf2:aa 0 B1 (.ptr 1 0 0)=some (.ptr 1 0 0)) (hl2:af false 1 B1 (.ptr 1 0 0)=some (.fs 2 es)) (hc2:bO 2 B1 (some (.int .i64 lost)) none (.fs 2 es)=some (.fs 2 e2)) (ha2:aK 2 16 B1 x1 (.fs 2 e2)=some (x2,B2)) (hf3:aa 0 B2 (.ptr 2 0 0)=some (.ptr 2 0 0)) (hs:aC 1 B2 (.ptr 2 0 0) x2=some B3) (hA:A.length=3) (hA1:A1.length=4) :
  run (ai GC (fsC M6)) 300 (.code Hu :: K) [a0,a1,a2,.int .i64 free,.int .i64 lost,.ptr 0 0 0,.bool false,.bool true,.ptr 1 0 0,.int .i64 (n:Int),iv,.ptr 2 0 0,.undef,.undef,.undef,.undef,.undef,.undef,.undef,.undef,.undef,.undef,.bool false,.undef,.undef,.undef,.undef,.undef] A=run (ai GC (fsC M6)) 300 K [a0,a1,a2,.int .i64 free,.int .i64 lost,.ptr 0 0 0,.bool false,.bool true,.ptr 1 0 0,.int .i64 (n:Int),iv,.ptr 2 0 0,.undef,.undef,.undef,.undef,.undef,.undef,.undef,.undef,.undef,.undef,.bool false,.undef,.undef,.undef,.undef,.undef] B3:=by
 simp [Hu,hb,hf1,hl1,b1,hc1,ha1,hf2,hl2,hc2,ha2,hf3,hs,hA,hA1,-a6,-af,-aa,-bO,-aC,-aq]
theorem Bz {A1 B1:ac} {x1 x0:AV} {k:Int} {e1 e2:List AV} (hb:a6 1 [] A=some (x0,A1)) (b1:aq .sub (.int .i64 lost) (.int .i64 1)=some (.int .i64 k)) (hc1:bO 1 A1 none (some (.int .i64 k)) (.fs 1 es)=some (.fs 1 e1)) (ha1:aK 1 8 A1 x0 (.fs 1 e1)=some (x1,B1)) (hc2:bO 1 B1 (some (.int .i64 lost)) none (.fs 1 es)=some (.fs 1 e2)) (ha2:aK 1 8 B1 x1 (.fs 1 e2)=some (rv,B2)) :
  run (ai GC (fsC M6)) 300 (.code Ht :: K) [a0,a1,a2,.int .i64 free,.int .i64 lost,.ptr 0 0 0,.bool false,.bool true,.ptr 1 0 0,.int .i64 (n:Int),.fs 1 es,.ptr 2 0 0,.undef,.undef,.undef,.undef,.undef,.undef,.undef,.undef,.undef,.undef,.bool false,.undef,.undef,.undef,.undef,.undef] A=run (ai GC (fsC M6)) 300 K [a0,a1,a2,.int .i64 free,.int .i64 lost,.ptr 0 0 0,.bool false,.bool true,.ptr 1 0 0,.int .i64 (n:Int),.fs 1 es,.ptr 2 0 0,rv,.undef,.undef,.undef,.undef,.undef,.undef,.undef,.undef,.undef,.bool false,.undef,.undef,.undef,.undef,.undef] B2:=by
 simp [Ht,hb,b1,hc1,ha1,hc2,ha2,-a6,-bO,-aq]
theorem By (hl:af true 5 A (.ptr 2 0 0)=some tw) (h14:Clu.H22 (fun _ _ _=>none) [tw] A=some (.tup [sv,.int .i64 e],B)) (hs:aC 4 (B++[.row 4 false [zSd]]) (.ptr B.length 0 0) sv=some B2) :
  run (ai GC (fsC M6)) 300 (.code Hs :: K) [a0,a1,a2,.int .i64 free,.int .i64 lost,.ptr 0 0 0,.bool false,.bool true,.ptr 1 0 0,.int .i64 (n:Int),iv,.ptr 2 0 0,rv,.undef,.undef,.undef,.undef,.undef,.undef,.undef,.undef,.undef,.bool false,.undef,.undef,.undef,.undef,.undef] A=run (ai GC (fsC M6)) 300 K [a0,a1,a2,.int .i64 free,.int .i64 lost,.ptr 0 0 0,.bool false,.bool true,.ptr 1 0 0,.int .i64 (n:Int),iv,.ptr 2 0 0,rv,(.ptr B.length 0 0),.int .i64 e,.undef,.undef,.undef,.undef,.undef,.undef,.undef,.bool false,.undef,.undef,.undef,.undef,.undef] B2:=by
 simp [Hs,hl,h14,hs,-af,-aC]
theorem Bx {b:Bool} (hl:af true 5 A (.ptr 1 0 0)=some tv) (f0:frz A 4 tv=tv) (f1:frz A 4 iv=iv) (h24:Hv [tv,iv,.int .i64 free,.int .i64 lost]=some (.tup [dv,.bool b])) :
  run (ai GC (fsC M6)) 300 (.code Hr :: K) [a0,a1,a2,.int .i64 free,.int .i64 lost,.ptr 0 0 0,.bool false,.bool true,.ptr 1 0 0,.int .i64 (n:Int),iv,.ptr 2 0 0,rv,.ptr i 0 0,.int .i64 e,.undef,.undef,.undef,.undef,.undef,.undef,.undef,.bool false,.undef,.undef,.undef,.undef,.undef] A=run (ai GC (fsC M6)) 300 K [a0,a1,a2,.int .i64 free,.int .i64 lost,.ptr 0 0 0,.bool false,.bool true,.ptr 1 0 0,.int .i64 (n:Int),iv,.ptr 2 0 0,rv,.ptr i 0 0,.int .i64 e,dv,.bool b,.undef,.undef,.undef,.undef,.undef,.bool false,.undef,.undef,.undef,.undef,.undef] A:=by
 simp [Hr,hl,f0,f1,h24,aP,-af,-frz]
theorem Bw {b:Bool} {tf rf:AV} (hl:af true 5 A (.ptr 2 0 0)=some tw) (hs:af true 4 A (.ptr i 0 0)=some sv) (f0:frz A 4 tw=tf) (f1:frz A 4 rv=rf) (f2:frz A 4 sv=sv) (h25:G6 [tf,rf,.int .i64 free,sv]=some (.tup [lv,.int .i64 f])) :
  run (ai GC (fsC M6)) 300 (.code Hq :: K) [a0,a1,a2,.int .i64 free,.int .i64 lost,.ptr 0 0 0,.bool false,.bool true,.ptr 1 0 0,.int .i64 (n:Int),iv,.ptr 2 0 0,rv,.ptr i 0 0,.int .i64 e,dv,.bool b,.undef,.undef,.undef,.undef,.undef,.bool false,.undef,.undef,.undef,.undef,.undef] A=run (ai GC (fsC M6)) 300 K [a0,a1,a2,.int .i64 free,.int .i64 lost,.ptr 0 0 0,.bool false,.bool true,.ptr 1 0 0,.int .i64 (n:Int),iv,.ptr 2 0 0,rv,.ptr i 0 0,.int .i64 e,dv,.bool b,lv,.int .i64 f,.undef,.undef,.undef,.bool false,.undef,.undef,.undef,.undef,.undef] A:=by
 simp [Hq,hl,hs,f0,f1,f2,h25,aP,-af,-frz]
theorem zn {b:Bool} (b0:aq .neq (.int .i64 e) (.int .i64 0)=some (.bool true)) :
  run (ai GC (fsC M6)) 300 (.code Bv :: K) [a0,a1,a2,.int .i64 free,.int .i64 lost,.ptr 0 0 0,.bool false,.bool true,.ptr 1 0 0,.int .i64 (n:Int),iv,.ptr 2 0 0,rv,.ptr i 0 0,.int .i64 e,dv,.bool b,lv,.int .i64 140,.undef,.undef,.undef,.bool false,.undef,.undef,.undef,.undef,.undef] A=some (.ret [a0,a1,a2,.int .i64 free,.int .i64 lost,.ptr 0 0 0,.bool true,.bool true,.ptr 1 0 0,.int .i64 (n:Int),iv,.ptr 2 0 0,rv,.ptr i 0 0,.int .i64 e,dv,.bool b,lv,.int .i64 140,.undef,.undef,.undef,.bool false,.bool true,.undef,.undef,.undef,.undef] A):=by
 have b1:=bE 140 140
 rw [RJ rfl] at b1
 simp [Bv,b0,b1,-aq]
theorem zm (b0:aq .neq (.int .i64 e) (.int .i64 0)=some (.bool false)) :
  run (ai GC (fsC M6)) 300 (.code Bv :: K) [a0,a1,a2,.int .i64 free,.int .i64 lost,.ptr 0 0 0,.bool false,.bool true,.ptr 1 0 0,.int .i64 (n:Int),iv,.ptr 2 0 0,rv,.ptr i 0 0,.int .i64 e,dv,.bool false,lv,.int .i64 140,.undef,.undef,.undef,.bool false,.undef,.undef,.undef,.undef,.undef] A=some (.ret [a0,a1,a2,.int .i64 free,.int .i64 lost,.ptr 0 0 0,.bool true,.bool true,.ptr 1 0 0,.int .i64 (n:Int),iv,.ptr 2 0 0,rv,.ptr i 0 0,.int .i64 e,dv,.bool false,lv,.int .i64 140,.undef,.undef,.undef,.bool false,.bool true,.undef,.undef,.undef,.undef] A):=by
 have b1:=bE 140 140
 rw [RJ rfl] at b1
 simp [Bv,b0,b1,-aq]
theorem Bu :
  run (ai GC (fsC M6)) 300 (.code Bv :: K) [a0,a1,a2,.int .i64 free,.int .i64 lost,.ptr 0 0 0,.bool false,.bool true,.ptr 1 0 0,.int .i64 (n:Int),iv,.ptr 2 0 0,rv,.ptr i 0 0,.int .i64 0,dv,.bool true,lv,.int .i64 0,.undef,.undef,.undef,.bool false,.undef,.undef,.undef,.undef,.undef] A=run (ai GC (fsC M6)) 300 K [a0,a1,a2,.int .i64 free,.int .i64 lost,.ptr 0 0 0,.bool false,.bool true,.ptr 1 0 0,.int .i64 (n:Int),iv,.ptr 2 0 0,rv,.ptr i 0 0,.int .i64 0,dv,.bool true,lv,.int .i64 0,.undef,.undef,.undef,.bool false,.bool false,.undef,.undef,.undef,.undef] A:=by
 have b0:=cE 0 0
 rw [RH (by simp)] at b0
 simp [Bv,b0,-aq]
theorem Bt {x y z:Int} (hl:az lv=some (.int .i64 x)) (hd:az dv=some (.int .i64 y)) (b1:aq .add (.int .i64 y) (.int .i64 (n:Int))=some (.int .i64 z)) (b2:aq .lss (.int .i64 x) (.int .i64 z)=some (.bool false)) :
  run (ai GC (fsC M6)) 300 (.code KL :: K) [a0,a1,a2,.int .i64 free,.int .i64 lost,.ptr 0 0 0,.bool false,.bool true,.ptr 1 0 0,.int .i64 (n:Int),iv,.ptr 2 0 0,rv,.ptr i 0 0,.int .i64 0,dv,.bool true,lv,.int .i64 0,.undef,.undef,.undef,.bool false,.bool false,.undef,.undef,.undef,.undef] A=run (ai GC (fsC M6)) 300 K [a0,a1,a2,.int .i64 free,.int .i64 lost,.ptr 0 0 0,.bool false,.bool true,.ptr 1 0 0,.int .i64 (n:Int),iv,.ptr 2 0 0,rv,.ptr i 0 0,.int .i64 0,dv,.bool true,lv,.int .i64 0,.undef,.undef,.undef,.bool false,.bool false,.bool false,.undef,.undef,.undef] A:=by
 have b0:=cE 0 0
 rw [RH (by simp)] at b0
 simp [KL,hl,hd,b0,b1,b2,-aq,-az]
theorem Bs {j:Int} (lp:cc (evC (ai GC (fsC M6)) 300 qv) kS 300 (sX (.int .i64 free) (.int .i64 lost) (.bool true) (.ptr 2 0 0) rv dv lv (.int .i64 0)) A=some (.exit 0 ((sX (.int .i64 free) (.int .i64 lost) (.bool true) (.ptr 2 0 0) rv dv lv (.int .i64 j)).set 25 (.bool false)) A)) :
  run (ai GC (fsC M6)) 300 (.code KJ :: K) [a0,a1,a2,.int .i64 free,.int .i64 lost,.ptr 0 0 0,.bool false,.bool true,.ptr 1 0 0,.int .i64 (n:Int),iv,.ptr 2 0 0,rv,.ptr i 0 0,.int .i64 0,dv,.bool true,lv,.int .i64 0,.undef,.undef,.undef,.bool false,.bool false,.bool false,.undef,.undef,.undef] A=run (ai GC (fsC M6)) 300 K [.undef,.undef,.undef,.int .i64 free,.undef,.undef,.undef,.bool true,.undef,.undef,.undef,.ptr 2 0 0,rv,.undef,.undef,.undef,.undef,lv,.undef,.undef,.undef,.undef,.undef,.undef,.undef,.undef,.undef,.undef] A:=by
 simp [KJ,M9 lp]
theorem Br {x:Int} {tf rf:AV} (hl:af true 5 A (.ptr 2 0 0)=some tw) (f0:frz A 4 tw=tf) (f1:frz A 4 rv=rf) (f2:frz A 4 lv=lv) (h22:M17 [tf,rf,.int .i64 free,lv]=some (.tup [.int .i64 x,.bool true])) :
  run (ai GC (fsC M6)) 300 (.code KI :: K) [.undef,.undef,.undef,.int .i64 free,.undef,.undef,.undef,.bool true,.undef,.undef,.undef,.ptr 2 0 0,rv,.undef,.undef,.undef,.undef,lv,.undef,.undef,.undef,.undef,.undef,.undef,.undef,.undef,.undef,.undef] A=run (ai GC (fsC M6)) 300 K [.undef,.undef,.undef,.int .i64 free,.undef,.undef,.undef,.bool true,.undef,.undef,.undef,.ptr 2 0 0,rv,.undef,.undef,.undef,.undef,lv,.undef,.undef,.undef,.bool true,.undef,.undef,.undef,.undef,.undef,.undef] A:=by
 simp [KI,hl,f0,f1,f2,h22,aP,-af,-frz]
theorem Bp  :
  run (ai GC (fsC M6)) 300 (.code KH :: K) [.undef,.undef,.undef,.int .i64 free,.undef,.undef,.undef,.bool true,.undef,.undef,.undef,.ptr 2 0 0,rv,.undef,.undef,.undef,.undef,lv,.undef,.undef,.undef,.bool true,.undef,.undef,.undef,.undef,.undef,.undef] A=run (ai GC (fsC M6)) 300 K [.undef,.undef,.undef,.int .i64 free,.undef,.undef,.bool true,.bool true,.undef,.undef,.undef,.ptr 2 0 0,rv,.undef,.undef,.undef,.undef,lv,.undef,.undef,.undef,.bool true,.undef,.undef,.undef,.undef,.undef,.undef] A:=by
 simp [KH,pz]
theorem Bo {σ:List AV}:run (ai GC (fsC M6)) 300 (.code KG :: K) σ A=some (.ret σ A):=by
 simp [KG]
end
end Ch
end Tr
namespace Tr
open Cy (GC aP bj aE dT)
open Clu (aU aZ ay chA bQ Chk nb sN eP ee oK)
namespace Ch
theorem tR {T:aU} (hT:(0<=T.pick/\T.pick<=3)/\(0<=T.place/\T.place<=3)/\(0<=T.travel/\T.travel<=4)/\∀d∈T.ch,(0<=d.1/\d.1<=59)/\0<=d.2/\d.2<=249) (hr:∀t∈rd,-1<=t/\t<=11000) (hf:0<=free) {d:List cY} (h:cn T rd free=some d) {e:Int} (he:fH T rd free d=some e):e<=free+200000:=by
 obtain ⟨hS,o,_,k1,k2,_⟩:=iL h
 obtain ⟨X,x0,rfl,⟨s,hs⟩,hX⟩:=fJ hS k1 k2
 obtain ⟨f1,f2,f3⟩:=(iM hS x0 k1).2 s hs
 have hk:=((iM hS x0 k1).1.1 ⟨s,hs⟩).1
 have es:e=s.fin:=by
  unfold fH at he
  rw [RL hS,hs] at he
  injection he with he
  exact he.symm
 obtain ⟨q1,q2,q3,q4⟩:=hT
 have hw:wT T<=10:=by show _+_+_<=(10:Int); omega
 have hc:∀k,(0<=tmT T k/\tmT T k<=59)/\0<=syT T k/\syT T k<=249:=fun k=>by
  unfold tmT syT
  rw [RC]
  by_cases hk:k<T.ch.length
  ·rw [RD hk]
   exact q4 _ (RM hk)
  ·rw [Sg (by omega)]
   simp
 have:=ot hS k1
 have hu:=ub0 (C:=11500) (by omega) (fun k=>by
  have:=hc k
  rw [RC]
  by_cases hk:k<rd.length
  ·rw [RD hk]
   have:=hr _ (RM hk)
   simp only [So]
   omega
  ·rw [Sg (by omega)]
   simp only [Option.getD_none]
   omega) (fun k=>by have:=hc k; omega) x0 hk (RT _)
 rw [es,f1]
 split
 ·omega
 ·omega
theorem mX {α:Type} {l:List α} {x:α} (h:x∈mY l k):x∈l:=by
 unfold mY at h
 rcases SW.1 h with h | h
 ·exact TH h
 ·exact List.mem_of_mem_drop h
theorem F0 (hr:rd.length=nOf ys) (hrb:∀t∈rd,-1<=t/\t<=119) (hf:0<=free/\free<=59) (hk:k<nOf ys) (h2:2<=nOf ys):Sit (md (mkT ys a b c) k) (mY rd k) free:=by
 obtain ⟨⟨v1,v2,v3,v4,v5⟩,hb⟩:=ru ys a b c
 have hl:(md (mkT ys a b c) k).ch.length=nOf ys-1:=by
  show (mY (mkT ys a b c).ch k).length=_
  rw [fj (by rw [qr]; exact hk),qr]
 have h4:=pI ys
 refine ⟨⟨⟨fun x hx=>v1 x (mX hx),v2,by omega,by omega,v5⟩,hb⟩,?_,by omega,fun t ht=>?_⟩
 ·rw [fj (by omega),hr,hl]
 ·have:=hrb t (mX ht); omega
theorem yE (k:Nat):(0<=(md (mkT ys a b c) k).pick/\(md (mkT ys a b c) k).pick<=3)/\(0<=(md (mkT ys a b c) k).place/\(md (mkT ys a b c) k).place<=3)/\(0<=(md (mkT ys a b c) k).travel/\(md (mkT ys a b c) k).travel<=4)/\∀d∈(md (mkT ys a b c) k).ch,(0<=d.1/\d.1<=59)/\0<=d.2/\d.2<=249:=by
 obtain ⟨q1,q2,q3,q4⟩:=xJ ys a b c
 exact ⟨q1,q2,q3,fun d hd=>q4 d (mX hd)⟩
end Ch
end Tr
namespace Tr
open Cy (GC aP bj aE dT)
open Clu (aU aZ ay chA bQ Chk nb bg cP be cf cE bE cG cS dO eP ee oK kO qR)
namespace Ch
theorem fin5 {M6:aI} {a0 a1 a2 a3 a4:AV} (h:(match run (ai GC (fsC M6)) 300 [.code BC] [a0,a1,a2,a3,a4,.undef,.undef,.undef,.undef,.undef,.undef,.undef,.undef,.undef,.undef,.undef,.undef,.undef,.undef,.undef,.undef,.undef,.undef,.undef,.undef,.undef,.undef,.undef] [] with | some (.ret σ _)=>σ[6]? | _=>none)=some (.bool true)) :
  evP (ai GC (fsC M6)) 300 mf5 3 [a0,a1,a2,a3,a4]=some (.bool true):=by
 rw [aT _ _ (by rw [BX]; rfl),BX]
 show (match run (ai GC (fsC M6)) 300 [.code BC] [a0,a1,a2,a3,a4,.undef,.undef,.undef,.undef,.undef,.undef,.undef,.undef,.undef,.undef,.undef,.undef,.undef,.undef,.undef,.undef,.undef,.undef,.undef,.undef,.undef,.undef,.undef] [] with
  | some (.normal σ A')=>(dV A' σ [.tmp 6]).map fun l=>frz A' 3 (dw l)
  | some (.ret σ A')=>(dV A' σ [.tmp 6]).map fun l=>frz A' 3 (dw l)
  | _=>none)=_
 generalize run (ai GC (fsC M6)) 300 [.code BC] _ []=r at *
 match r,h with
 | some (.ret σ A'),h12=>
  replace h12:σ[6]?=some (.bool true):=h12
  simp [dV,h12]
theorem CF {e:Nat} {hi:Nat} (h:hi<=es.length):bO e A none (some (.int .i64 (hi:Int))) (.fs e es)=some (.fs e (es.take hi)):=by
 simp [bO,h]
theorem CE {e:Nat} {lo:Nat} (h:lo<=es.length):bO e A (some (.int .i64 (lo:Int))) none (.fs e es)=some (.fs e (es.drop lo)):=by
 simp [bO,h]
 exact RW (by simp)
theorem Dr (s:bQ):aC 4 (B++[.row 4 false [zSd]]) (.ptr B.length 0 0) (oK s)=some (B++[.row 4 false [oK s]]):=by
 simp [aC,oK]
theorem ld5 {a b c d e:AV} (h:A[i]?=some (.row 5 false [.agg [a,b,c,d,e]])):af true 5 A (.ptr i 0 0)=some (.agg [a,b,c,d,e]):=by
 simp only [af,h]; rfl
theorem QV {S:aU} (h:A[id]?=some (.row 2 g (S.ch.map chA))) {m:Nat} (hm:m=S.ch.length):frz A 4 (ay S (.sl id 0 m))=ay S (.fs 2 (S.ch.map chA)):=by
 have e:frz A 3 (.sl id 0 m)=.fs 2 (S.ch.map chA):=FX h hm 0
 show AV.agg [frz A 3 (.sl id 0 m),_,_,_,_]=_
 rw [e]
 rfl
theorem xl:nb Clu.q5 (slA 1 (ax [])) (slA 1 (ax [])) (slA 1 (ax [])):=
 ⟨bo _ _,bo _ _,bo _ _,by show inI 0; unfold inI; omega,by decide,by decide,by simp [Clu.q5],by decide,by simp [Clu.q5]⟩
theorem nh {S:aU} (h:eP S=none\/cn S rd free=none):fu S rd free ((eP S).getD Clu.q5)=none:=by
 unfold fu
 rcases h with h | h
 ·rw [h]
  have:∀e,n8 S ((none:Option bQ).getD Clu.q5) e=none:=fun e=>RN fun hk=>by
   have:=hk.2.1.2.1.1
   simp [Clu.q5] at this
  cases cn S rd free with
  | none=>rfl
  | some d=>simp only [Sl,this]; rfl
 ·rw [h]; rfl
theorem ev5 {M6:aI} (h6:M6 []=some (.bool true)) {ys:List (Int × Int)} (hy:SlA 2 (ys.map chA) yv) (hys:∀y∈ys,inI y.1/\inI y.2) (ha:inI a) (hb:inI b) (hc:inI c) {xs:List Int} (hx:SlA 1 (ax xs) xv) (hxi:∀z∈xs,inI z) {f0 l0:Int} (hf0:inI f0) (hl0:inI l0) :
  evP (ai GC (fsC M6)) 300 mf5 3 [yv,.agg [.int .i64 a,.int .i64 b,.int .i64 c],xv,.int .i64 f0,.int .i64 l0]=some (.bool true):=by
 refine fin5 ?_
 obtain ⟨T,hT⟩:∃T,T=mkT ys a b c:=⟨_,rfl⟩
 obtain ⟨chv,hchv⟩:∃v,v=slA 2 (T.ch.map chA):=⟨_,rfl⟩
 have m13:=vC hys hy ha hb hc
 rw [show mkA ys a b c=ay T chv by rw [hchv,hT]; rfl] at m13
 obtain ⟨hv,hb1⟩:aZ T/\T.blades=1:=by rw [hT]; exact ru ys a b c
 have hTn:T.ch.length=nOf ys:=by rw [hT]; exact qr ys a b c
 have hn4:1<=T.ch.length/\T.ch.length<=4:=by rw [hTn]; exact pI ys
 have hcv:SlA 2 (T.ch.map chA) chv:=by rw [hchv]; exact bo _ _
 have hl:T.ch.length<=200:=by omega
 have ft:∀A,frz A 4 (ay T chv)=ay T chv:=fun A=>bg (T:=T) (fun A n=>hcv.frz (A:=A) n) A 3
 have nt:bu 4 (ay T chv)=true:=cP (T:=T) (fun n=>hcv.noRef n) 3
 have lc:=hcv.len
 rw [RR] at lc
 obtain ⟨n,hn⟩:∃n,n=T.ch.length:=⟨_,rfl⟩
 have hcf:chv=.fs 2 (T.ch.map chA):=by
  rcases hcv with ⟨_,e⟩ | e
  ·have:=T3 List.length e
   rw [RR] at this
   simp only [Tm] at this
   omega
  ·exact e
 obtain ⟨rd,hrd⟩:∃rd,rd=rdM T.ch.length xs:=⟨_,rfl⟩
 have m28:=Lm hcv (by omega) hn4.1 hx hxi
 rw [<-hrd] at m28
 have hrl:rd.length=n:=by rw [hrd,ET,hn]
 have hrb:∀t∈rd,-1<=t/\t<=119:=by rw [hrd]; exact Ig
 obtain ⟨free,hfr⟩:∃f,f=pick f0 60:=⟨_,rfl⟩
 have m6:=dT hf0 (n:=60) (by omega)
 rw [<-hfr] at m6
 have hfb:=cI f0 60 (by omega)
 rw [<-hfr] at hfb
 have m7:=dT hl0 (n:=(n:Int)) (by omega)
 have hlb:=cI l0 (n:Int) (by omega)
 obtain ⟨k,hk⟩:∃k:Nat,pick l0 (n:Int)=k:=⟨(pick l0 (n:Int)).toNat,by omega⟩
 rw [hk] at m7 hlb
 have b7:aq .add (.int .i64 1) (.int .i64 (k:Int))=some (.int .i64 ((k+1:Nat):Int)):=by rw [be (by omega),show (1:Int)+(k:Int)=((k+1:Nat):Int) by omega]
 rw [<-hn] at lc hn4
 have b8:=bE (n:Int) 1
 obtain ⟨r0,hr0⟩:∃r:Ent,r=.row 3 false [.agg [.int .i64 a,.int .i64 b,.int .i64 c]]:=⟨_,rfl⟩
 have s3:aC 5 ([r0]++[.row 5 false [zTl]]) (.ptr 1 0 0) (ay T chv)=some [r0,.row 5 false [ay T chv]]:=by rw [hr0]; rfl
 have lb:af true 3 [r0] (.ptr 0 0 0)=some (.agg [.int .i64 a,.int .i64 b,.int .i64 c]):=by rw [hr0]; rfl
 have lt1:af true 5 [r0,.row 5 false [ay T chv]] (.ptr 1 0 0)=some (ay T chv):=rfl
 unfold BC
 rw [ba,GU ⟨rfl,rfl⟩,<-hr0,ba,GT h6,ba,GR (A:=[r0]) (a1:=.agg [.int .i64 a,.int .i64 b,.int .i64 c]) lb (hy.frz 4) rfl (hy.noRef 4) rfl m13 s3]
 show (match run _ _ _ [yv,_,_,_,_,_,_,_,.ptr 1 0 0,_,_,_,_,_,_,_,_,_,_,_,_,_,_,_,_,_,_,_] _ with | some (.ret σ _)=>σ[6]? | _=>none)=_
 rw [ba,GQ (cv:=chv) (n:=n) rfl rfl lc,ba,GP lt1 (ft _) nt (hx.frz 4) (hx.noRef 4) m28,ba,GO m6,ba,GN m7 b7]
 by_cases hn1:n=1
 ·rw [RJ (by omega)] at b8
  rw [ba,GL b8]
  rfl
 rw [RH (by omega)] at b8
 obtain ⟨S,hS⟩:∃S,S=md T k:=⟨_,rfl⟩
 obtain ⟨rest,hrest⟩:∃r,r=mY rd k:=⟨_,rfl⟩
 have hSl:S.ch.length=n-1:=by rw [hS,hn]; exact fj (by omega)
 have hsit:Sit S rest free:=by
  rw [hS,hrest,hT]
  exact F0 (by omega) hrb (by omega) (by omega) (by omega)
 have hrsl:rest.length=n-1:=by rw [hsit.2.1,hSl]
 have hSch:(T.ch.map chA).take k++(T.ch.map chA).drop (k+1)=S.ch.map chA:=by rw [hS]; exact qL chA T.ch k
 have hRch:(ax rd).take k++(ax rd).drop (k+1)=ax rest:=by rw [hrest]; exact qL (fun z=>AV.int .i64 z) rd k
 have s9:aC 5 ([r0,.row 5 false [ay T chv]]++[.row 5 false [zTl]]) (.ptr 2 0 0) (ay T chv)=some [r0,.row 5 false [ay T chv],.row 5 false [ay T chv]]:=rfl
 obtain ⟨A2,hA2⟩:∃A:ac,A=[r0,.row 5 false [ay T chv],.row 5 false [ay T chv]]:=⟨_,rfl⟩
 have hA2l:A2.length=3:=by rw [hA2]; rfl
 have hm1:((T.ch.map chA).take k).length+((T.ch.map chA).drop (k+1)).length=n-1:=by rw [<-R8,hSch,RR,hSl]
 obtain ⟨s1,X1,id,g,X,ap1,ap2,hrow,hid⟩:=zF (esz:=2) (bytes:=16) (by omega) (by omega) A2 (xs:=(T.ch.map chA).take k) (ys:=(T.ch.map chA).drop (k+1)) (.inr rfl) (.inr rfl) (by rw [hm1]; omega)
 rw [hA2l] at ap1 hid
 rw [hm1] at ap2
 rw [hSch] at hrow
 have bs2:a6 2 [] A2=some (.sl 3 0 0,A2++[.row 2 false []]):=by simp [a6,hA2l]
 obtain ⟨B3,hB3⟩:∃B:ac,B=[r0,.row 5 false [ay T chv],.row 5 false [ay S (.sl id 0 (n-1))]]++X:=⟨_,rfl⟩
 have s10:aC 1 (A2++X) (.ptr 2 0 0) (.sl id 0 (n-1))=some B3:=by rw [hA2,hB3,hS]; rfl
 have b10:aq .sub (.int .i64 ((k+1:Nat):Int)) (.int .i64 1)=some (.int .i64 (k:Int)):=by rw [cf (by omega),show ((k+1:Nat):Int)-1=(k:Int) by omega]
 have fa1:∀Y,aa 0 (A2++Y) (.ptr 1 0 0)=some (.ptr 1 0 0):=fun Y=>by rw [hA2]; rfl
 have fa2:∀Y,aa 0 (A2++Y) (.ptr 2 0 0)=some (.ptr 2 0 0):=fun Y=>by rw [hA2]; rfl
 have la1:∀Y,af false 1 (A2++Y) (.ptr 1 0 0)=some (.fs 2 (T.ch.map chA)):=fun Y=>by rw [hA2,hcf]; rfl
 have hBrow:B3[id]?=some (.row 2 g (S.ch.map chA)):=by
  rw [RS (by omega)] at hrow
  rw [hB3,RS (by simpa using hid)]
  rw [hA2l] at hrow
  exact hrow
 have hm2:((ax rd).take k).length+((ax rd).drop (k+1)).length=n-1:=by rw [<-R8,hRch,aE,hrsl]
 obtain ⟨s2,Y1,id2,g2,Y,aq1,aq2,hrow2,hid2⟩:=zF (esz:=1) (bytes:=8) (by omega) (by omega) B3 (xs:=(ax rd).take k) (ys:=(ax rd).drop (k+1)) (.inr rfl) (.inr rfl) (by rw [hm2]; omega)
 rw [hm2] at aq2
 rw [hRch] at hrow2
 have bs3:a6 1 [] B3=some (.sl B3.length 0 0,B3++[.row 1 false []]):=by simp [a6]
 obtain ⟨D,hD⟩:∃D,D=B3++Y:=⟨_,rfl⟩
 rw [<-hD] at aq2 hrow2
 have hB3l:3<=B3.length:=by rw [hB3]; simp
 have hD1:D[1]?=some (.row 5 false [ay T chv]):=by rw [hD,hB3]; rfl
 have hD2:D[2]?=some (.row 5 false [ay S (.sl id 0 (n-1))]):=by rw [hD,hB3]; rfl
 have app:∀ {A Z:ac} {j:Nat} {r:Ent},A[j]?=some r->(A++Z)[j]?=some r:=fun {A Z j r} h=>by
  rw [RE (Rx.1 h).1]; exact h
 have hDi:D[id]?=some (.row 2 g (S.ch.map chA)):=by rw [hD]; exact app hBrow
 have hSc:SlA 2 (S.ch.map chA) (.fs 2 (S.ch.map chA)):=.inr rfl
 have hRc:SlA 1 (ax rest) (.fs 1 (ax rest)):=.inr rfl
 have h22:=Clu.LC (fun _ _ _=>none) (A:=D) (T:=S) (chv:=.sl id 0 (n-1)) hSc (fun Z=>QV (app hDi) hSl.symm) (by omega)
 obtain ⟨Bq,hBq⟩:∃Bq,Bq=Clu.E22 D S (.sl id 0 (n-1)) (eP S):=⟨_,rfl⟩
 rw [<-hBq] at h22
 obtain ⟨s,hs⟩:∃s,s=(eP S).getD Clu.q5:=⟨_,rfl⟩
 obtain ⟨G,hG⟩:∃G,G=Bq++[.row 4 false [oK s]]:=⟨_,rfl⟩
 have up:∀ {j:Nat} {r:Ent},D[j]?=some r->G[j]?=some r:=fun {j r} h=>by
  rw [hG,hBq]; exact app (app h)
 have hs12:=Dr (B:=Bq) s
 rw [<-hG] at hs12
 have lG1:af true 5 G (.ptr 1 0 0)=some (ay T chv):=ld5 (up hD1)
 have lG2:af true 5 G (.ptr 2 0 0)=some (ay S (.sl id 0 (n-1))):=ld5 (up hD2)
 have lGs:af true 4 G (.ptr Bq.length 0 0)=some (oK s):=by
  have:G[Bq.length]?=some (.row 4 false [oK s]):=by rw [hG,RS (by omega)]; simp
  simp only [af,this]; rfl
 have fG2:frz G 4 (ay S (.sl id 0 (n-1)))=ay S (.fs 2 (S.ch.map chA)):=QV (up hDi) hSl.symm
 have fGr:frz G 4 (.sl id2 0 (n-1))=.fs 1 (ax rest):=mT (up hrow2) hrsl.symm 2
 have fGs:=EF s G 3
 have fGi:frz G 4 (.fs 1 (ax rd))=.fs 1 (ax rd):=rfl
 have hrc:SlA 1 (ax rd) (.fs 1 (ax rd)):=.inr rfl
 obtain ⟨dv,m14,hdv⟩:=G7 (free:=free) (lost:=((k+1:Nat):Int)) hcv hrc hl (by omega)
 have hTsit:Sit T rd free:=⟨⟨hv,hb1⟩,by omega,by omega,fun t ht=>by have:=hrb t ht; omega⟩
 have hdr:dj T rd free ((k+1:Nat):Int)=(cn S rest free).map fun l=>l.map (ik ((k+1:Nat):Int)):=by
  unfold dj
  rw [RL ⟨hTsit,by omega,by omega⟩,RN (by omega),RN (by omega),show (((k+1:Nat):Int)-1).toNat=k by omega,hS,hrest]
 rw [hdr] at m14 hdv
 have hsv:nb s (slA 1 (ax s.order)) (slA 1 (ax s.starts)) (slA 1 (ax s.proof)):=by
  cases hbm:eP S with
  | none=>rw [hs,hbm]; exact xl
  | some s'=>rw [hs,hbm]; exact kO (ee hbm)
 obtain ⟨lv,m25,hlv⟩:=G5 (T:=S) (free:=free) hSc (by omega) hRc (by omega) hsv
 have m25:G6 [ay S (.fs 2 (S.ch.map chA)),.fs 1 (ax rest),.int .i64 free,oK s]=_:=m25
 obtain ⟨e,hee⟩:∃e,e=(if (eP S).isSome then (0:Int) else 130):=⟨_,rfl⟩
 obtain ⟨f,hff⟩:∃f,f=Ma (fu S rest free s):=⟨_,rfl⟩
 obtain ⟨bb,hbb⟩:∃b,b=((cn S rest free).map fun l=>l.map (ik ((k+1:Nat):Int))).isSome:=⟨_,rfl⟩
 rw [<-hff] at m25
 rw [<-hbb] at m14
 have h22:Clu.H22 (fun _ _ _=>none) [ay S (.sl id 0 (n-1))] D=some (.tup [oK s,.int .i64 e],Bq):=by rw [h22,hs,hee]; rfl
 have go:run (ai GC (fsC M6)) 300 [.code (.seq cg8 (.seq cg9 (.seq Hu (.seq Ht (.seq Hs (.seq Hr (.seq Hq uh)))))))] [yv,.agg [.int .i64 a,.int .i64 b,.int .i64 c],xv,.int .i64 free,.int .i64 ((k+1:Nat):Int),.ptr 0 0 0,.bool false,.bool true,.ptr 1 0 0,.int .i64 (n:Int),.fs 1 (ax rd),.undef,.undef,.undef,.undef,.undef,.undef,.undef,.undef,.undef,.undef,.undef,.undef,.undef,.undef,.undef,.undef,.undef] [r0,.row 5 false [ay T chv]] =
   run (ai GC (fsC M6)) 300 [.code uh] [yv,.agg [.int .i64 a,.int .i64 b,.int .i64 c],xv,.int .i64 free,.int .i64 ((k+1:Nat):Int),.ptr 0 0 0,.bool false,.bool true,.ptr 1 0 0,.int .i64 (n:Int),.fs 1 (ax rd),.ptr 2 0 0,.sl id2 0 (n-1),.ptr Bq.length 0 0,.int .i64 e,dv,.bool bb,lv,.int .i64 f,.undef,.undef,.undef,.bool false,.undef,.undef,.undef,.undef,.undef] G:=by
  rw [ba,GM b8,ba,GK lt1 s9]
  show run _ _ _ [_,_,_,_,_,_,_,_,_,_,_,.ptr 2 0 0,_,_,_,_,_,_,_,_,_,_,_,_,_,_,_,_] _=_
  rw [<-hA2]
  rw [ba,BA bs2 (fa1 _) (la1 _) b10 (CF (by rw [RR]; omega)) ap1 (fa1 _) (la1 _) (CE (by rw [RR]; omega)) ap2 (fa2 _) s10 hA2l (by rw [R8,hA2l]; rfl)]
  rw [ba,Bz bs3 b10 (CF (by rw [aE]; omega)) aq1 (CE (by rw [aE]; omega)) aq2]
  rw [ba,By (tw:=ay S (.sl id 0 (n-1))) (ld5 hD2) h22 hs12]
  rw [ba,Bx lG1 (ft _) fGi m14,ba,Bw lG2 lGs fG2 fGr fGs m25]
 show (match run _ _ [.code (.seq cg8 (.seq cg9 (.seq Hu (.seq Ht (.seq Hs (.seq Hr (.seq Hq uh)))))))] _ _ with | some (.ret σ _)=>σ[6]? | _=>none)=_
 rw [go]
 unfold uh
 cases hbm:eP S with
 | none=>
  have hsw:fu S rest free s=none:=by rw [hs]; exact nh (.inl hbm)
  rw [hsw] at hff
  rw [hbm] at hee
  have hff:f=140:=hff
  have hee:e=130:=hee
  rw [hff,hee]
  have b0:=cE 130 0
  rw [RJ (by simp)] at b0
  rw [ba]
  rw [zn b0]
  rfl
 | some s'=>
  have hs':s=s':=by rw [hs,hbm]; rfl
  subst hs'
  cases hd:cn S rest free with
  | none=>
   have hsw:fu S rest free s=none:=by rw [hs]; exact nh (.inr hd)
   rw [hsw] at hff
   rw [hbm] at hee
   rw [hd] at hbb
   have hff:f=140:=hff
   have hee:e=0:=hee
   have hbb:bb=false:=hbb
   rw [hff,hee,hbb]
   have b0:=cE 0 0
   rw [RH (by simp)] at b0
   rw [ba]
   rw [zm b0]
   rfl
  | some d=>
   obtain ⟨xx,_,x2,_⟩:=r8 hd
   have hsm:=tR (T:=S) (by rw [hS,hT]; exact yE k) (fun t ht=>by have:=hrb t (mX (by rw [<-hrest]; exact ht)); omega) (by omega) hd x2
   obtain ⟨m,w1,w2,pp,r,rfl,hml⟩:=wY hsit hbm hd x2 (by omega)
   obtain ⟨hdl,hdn⟩:=ou hd
   rw [hd] at hdv
   rw [w1] at hlv
   have hdv:SlA 2 ((d.map (ik ((k+1:Nat):Int))).map bn) dv:=hdv
   have hlv:SlA 2 ((d++(pp++s.order.map (tk S s xx.fin r))).map bn) lv:=hlv
   have hO:=ig (ee hbm)
   have hml':pp.length+s.order.length<=30:=by simpa using hml
   have hll:(d++(pp++s.order.map (tk S s xx.fin r))).length=d.length+(pp.length+s.order.length):=by simp
   have hlen:=hlv.len
   rw [RR,hll] at hlen
   have hdlen:=hdv.len
   rw [RR,RR] at hdlen
   have b16:aq .add (.int .i64 (d.length:Int)) (.int .i64 (n:Int))=some (.int .i64 ((d.length+n:Nat):Int)):=by rw [be (by omega),show (d.length:Int)+(n:Int)=((d.length+n:Nat):Int) by omega]
   have b17:=bC (d.length+(pp.length+s.order.length)) (d.length+n) .i64
   rw [RH (by omega)] at b17
   have lp:=Fz (E:=ai GC (fsC M6)) (A:=G) hdv hlv (by rw [RR]; omega) (lost:=((k+1:Nat):Int)) (by omega) (fun i t ht=>by
    rw [T4] at ht
    obtain ⟨u,hu,rfl⟩:=RK.1 ht
    have hb:=hdn u (SF hu)
    exact ⟨u,by rw [RE (Rx.1 hu).1]; exact hu,rfl,by omega⟩) (.int .i64 free) (.bool true) (.ptr 2 0 0) (.sl id2 0 (n-1))
   obtain ⟨ev,he⟩:∃ev,fH S rest free (d++(pp++s.order.map (tk S s xx.fin r)))=some ev:=Option.isSome_iff_exists.1 w2
   have m17:=zT (T:=S) hSc (by omega) hRc (by omega) free hlv (by omega)
   rw [he] at m17
   have m17:M17 [ay S (.fs 2 (S.ch.map chA)),.fs 1 (ax rest),.int .i64 free,lv]=some (.tup [.int .i64 ev,.bool true]):=m17
   rw [w1] at hff
   rw [hbm] at hee
   rw [hd] at hbb
   have hff:f=0:=hff
   have hee:e=0:=hee
   have hbb:bb=true:=hbb
   rw [hff,hee,hbb]
   rw [ba,Bu,ba,Bt hlen hdlen b16 b17,ba,Bs lp,ba,Br lG2 fG2 fGr (hlv.frz 4) m17,ba,Bp,Bo]
   rfl
end Ch
end Tr
def I6:MC:=.seq (.seq (.region [.a 2,.U 7 0 3]) (.cond (.var 7) .skip (.exit 0))) (.seq (.seq (.block 1 (.seq (.region [.a 2,.bj 0,.qn (.build [.int .i64 0,.nilS,.int .i64 0,.int .i64 0,.nilS,.int .i64 0,.int .i64 0] [(0,(1,.cst (.int .i64 1))),(1,(1,.tmp 1)),(2,(1,.cst (.int .i64 10))),(3,(1,.cst (.int .i64 20))),(5,(1,.cst (.int .i64 (-1))))]),.qs 3 (.alloc 7 (.agg [.int .i64 0,.nilS,.int .i64 0,.int .i64 0,.nilS,.int .i64 0,.int .i64 0])),.j 7 3 2]) (.seq (.seq (.region [.a 2,.U 8 0 2]) (.cond (.var 8) (.region [.a 2,.t 0 1,.bj 1,.d 4 3,.I 1 3 2]) .skip)) (.region [.d 2 1,.b 1 0,.k 7 3,.qn (.buildSlice 7 [.tmp 2]),.qn (.append 7 88 (.tmp 1) (.tmp 3)),.d 2 1,.I 1 5 4])))) (.kill [0,3,4,5,6,7,8])) (.region [.a 2,.t 0 1,.c 2 1]))
def mf6:bM:=⟨0,9,.seq (.region [.f 0]) (.seq (.region [.a0,.qn (.buildSlice 3 [.tmp 0]),.ba 1,.c4 1 4,.j 4 1 2]) (.seq (.seq (.region [.e 2 0]) (.seq (.block 0 (.loop [0,3,4,5,6,7,8] I6)) (.kill [0,2,3,4,5,6,7,8]))) (.seq (.region [.k 4 1,.E 26 0,.bi 4 2,.j 2 4 1]) (.seq (.region [.bu,.bt,.aj 0 1,.u 5 6,.j 6 5 2]) (.seq (.region [.k 6 5,.dg 0,.a4 1,.E 27 2,.h 3,.n 4 0,.n 4 1,.cj 5,.I 5 7 5,.c 6 6]) (.seq (.region [.d 0 4,.b 1 0,.ao 1 3,.h 2,.s 1 4 3,.p 1 4 3,.b0 3,.af 28 5 6 3,.i 3 7,.h 8,.x 6 9,.i 9 10,.c 0 11]) .ret)))))),[.tmp 0]⟩
theorem OU:aB Tryz.prog Tryz.f6 0 [0,1,2,3,4,5,7,12,19] [] false ([[0,3,4,5,6,7,8]],[[0,3,4,5,6,7,8],[0,2,3,4,5,6,7,8]])=some mf6:=by kernel_rfl
theorem at6:Tryz.prog.funcs[6]?=some Tryz.f6:=by kernel_rfl
def fM:MC:=.seq (.region [.w 10 9 8]) (.seq (.cond (.var 10) .skip (.exit 0)) (.seq (.seq (.block 1 (.seq (.region [.H 3 7 9,.F 3 0,.V 3 3,.j 3 3 1]) (.seq (.region [.k 4 1,.k 3 3,.q 72 0 1,.h 2,.n 3 0,.n 3 1,.bi 4 2,.j 2 4 4,.c 5 5]) (.seq (.region [.T 11 5]) (.cond (.var 11) (.seq (.region [.k 2 4,.j 2 2 0]) .ret) .skip))))) (.kill [0,3,4,5,6,10,11])) (.region [.m 9 1,.c 9 0])))
def rz:bM:=⟨1,12,.seq (.region [.y 1 0,.bi 2 2]) (.seq (.seq (.region [.k 4 1,.E 71 0,.S 6 1]) (.cond (.var 6) (.seq (.region [.qn (.build [.int .i64 0,.nilS] []),.j 2 2 0]) .ret) .skip)) (.seq (.seq (.region [.d 3 1,.am 7 1 0,.R 8 7,.e 9 0]) (.seq (.block 0 (.loop [0,3,4,5,6,10,11] fM)) (.kill [0,1,3,4,5,6,7,8,9,10,11]))) (.seq (.region [.qn (.build [.int .i64 0,.nilS] []),.j 2 2 0]) .ret))),[.cell 2 true 2]⟩
def eE:List Nat:=[0,3,4,5,6,10,11]
abbrev iW (v1 v2 v7 v8 v9:AV):List AV:=[.undef,v1,v2,.undef,.undef,.undef,.undef,v7,v8,v9,.undef,.undef]
theorem sk {v8 v9:AV}:clear eE [d0,v1,v2,d3,d4,d5,d6,v7,v8,v9,d10,d11]=iW v1 v2 v7 v8 v9:=rfl
theorem uV {k:List KC} {v8 v9:AV} (h:cc (evC E fuel fM) eE fuel (iW v1 v2 v7 v8 v9) A=some o) :
  run E fuel (.code (.loop [0,3,4,5,6,10,11] fM) :: k) [d0,v1,v2,d3,d4,d5,d6,v7,v8,v9,d10,d11] A=after E fuel k o:=aV eE _ _ (by rw [sk]; exact h)
theorem sh:aB Tryz.prog Tryz.f26 1 [0,1,2,4,5,6,9,12,13,14,15,24] [] true ([[0,3,4,5,6,10,11]],[[0,3,4,5,6,10,11],[0,1,3,4,5,6,7,8,9,10,11]])=some rz:=by kernel_rfl
theorem KS:Tryz.prog.funcs[26]?=some Tryz.f26:=by kernel_rfl
def dI:MC:=.region [.ck 4 5,.cd 5 4 9]
def gy:MC:=.seq (.block 1 (.seq (.region [.k 5 1,.k 5 4,.q 12 0 1,.h 2,.n 3 0,.n 3 1,.n 3 2,.ar 5 2,.h 4,.j 2 5 5,.h 6]) (.seq (.region [.d 0 5,.b 1 0,.ct 10 1 0]) (.cond (.var 10) (.seq (.region [.k 5 4,.j 5 2 0,.cz 1 3]) .ret) .skip)))) (.kill [0,1,2,3,4,5,6,7,8,9,10])
def wt:bM:=⟨1,11,.seq (.region [.y 1 0,.ck 2 5,.qs 3 (.alloc 1 (.bool false))]) (.seq (.seq (.region [.k 5 1,.br 6 73 0]) (.cond (.var 6) (.seq (.region [.cr,.j 5 2 0,.qn (.store 1 (.var 3) (.cst (.bool true)))]) .ret) .skip)) (.seq (.seq (.region [.k 5 1,.br 7 74 0]) (.cond (.var 7) (.seq (.region [.k 5 1,.br 8 75 0]) (.seq (.block 0 (.rangeFunc (.var 8) [9] dI gy)) (.kill [0,1,4,5,6,7,8,9,10]))) .skip)) (.seq (.region [.cr,.j 5 2 0,.cz 1 3]) .ret))),[.cell 2 true 5,.cell 3 false 1]⟩
theorem sg:aB Tryz.prog Tryz.f27 1 [0,1,2,3,4,6,9,12,14,15,25] [] true ([],[[0,1,2,3,4,5,6,7,8,9,10],[0,1,4,5,6,7,8,9,10]])=some wt:=by kernel_rfl
theorem KR:Tryz.prog.funcs[27]?=some Tryz.f27:=by kernel_rfl
def fL:MC:=.seq (.seq (.region [.a 3,.a 0,.B 1,.Z 5 0 2]) (.cond (.var 5) .skip (.exit 0))) (.seq (.seq (.block 1 (.seq (.region [.a 0,.a 3,.g 1 0 1,.b 1 2,.a 1,.a 3,.g 1 4 5,.b 1 6,.bb 6 3 7]) (.cond (.var 6) (.seq (.region [.f 2]) .ret) .skip))) (.kill [2,4,5,6])) (.region [.a 3,.t 0 1,.c 3 1]))
def Hi:bM:=⟨2,7,.seq (.region [.f 2]) (.seq (.seq (.region [.a 0,.B 0,.a 1,.B 2,.bb 4 1 3]) (.cond (.var 4) (.seq (.region [.f 2]) .ret) .skip)) (.seq (.seq (.region [.e 3 0]) (.seq (.block 0 (.loop [2,4,5,6] fL)) (.kill [0,1,2,3,4,5,6]))) (.seq (.region [.M 2]) .ret))),[.tmp 2]⟩
def fd:List Nat:=[2,4,5,6]
abbrev jS (v0 v1 v3:AV):List AV:=[v0,v1,.undef,v3,.undef,.undef,.undef]
theorem si:clear fd [v0,v1,d2,v3,d4,d5,d6]=jS v0 v1 v3:=rfl
theorem Ct {k:List KC} (h:cc (evC E fuel fL) fd fuel (jS v0 v1 v3) A=some o) :
  run E fuel (.code (.loop [2,4,5,6] fL) :: k) [v0,v1,d2,v3,d4,d5,d6] A=after E fuel k o:=aV fd _ _ (by rw [si]; exact h)
theorem yR:aB Tryz.prog Tryz.f28 2 [0,1,4,5,10,14,25] [] true ([[2,4,5,6]],[[2,4,5,6],[0,1,2,3,4,5,6]])=some Hi:=by kernel_rfl
theorem Pb:Tryz.prog.funcs[28]?=some Tryz.f28:=by kernel_rfl
def QA:bM:=⟨2,3,.seq (.region [.f 2]) (.seq (.region [.a 0,.a 1,.q 101 0 1,.P 2 0,.c 2 3]) .ret),[.tmp 2]⟩
theorem Ki:aB Tryz.prog Tryz.f61 2 [0,1,4] [] true ([],[])=some QA:=by kernel_rfl
theorem at61:Tryz.prog.funcs[61]?=some Tryz.f61:=by kernel_rfl
def LM:bM:=⟨1,3,.seq (.region [.C 1]) (.seq (.seq (.region [.a 0,.c2 2 0]) (.cond (.var 2) (.seq (.region [.C 1]) .ret) .skip)) (.seq (.region [.cw,.a 0,.ae 1 0 1,.c 1 2]) .ret)),[.tmp 1]⟩
theorem CG:aB Tryz.prog Tryz.f63 1 [0,2,4] [] true ([],[])=some LM:=by kernel_rfl
theorem Q1:Tryz.prog.funcs[63]?=some Tryz.f63:=by kernel_rfl
def I5:MC:=.seq (.region [.w 11 10 9]) (.seq (.cond (.var 11) .skip (.exit 0)) (.seq (.seq (.block 1 (.seq (.region [.a 10,.H 3 8 10,.F 3 1,.V 5 3,.c 4 0,.j 3 5 2]) (.seq (.region [.k 3 5,.o 1 3,.q 116 0 1,.N 2,.h 3,.D 3 1 4,.r 1 5 4,.z 4 4,.qf (.sliceSl 3 (.tmp 6) none (some (.tmp 7))) 4,.a9 3 5 4,.qf (.call (.fn 117) [.tmp 8,.tmp 9]) 4,.L 10 4,.G 12 4 11]) (.cond (.var 12) (.seq (.region [.f 2]) .ret) .skip)))) (.kill [0,2,4,5,6,7,11,12])) (.region [.m 10 1,.c 10 0])))
def Qz:bM:=⟨1,13,.seq (.region [.y 1 0,.f 2]) (.seq (.region [.d 2 1,.b 1 0,.B 1,.ax 3 1,.j 1 3 2]) (.seq (.seq (.region [.k 4 1,.E 111 0,.N 1,.h 2,.ad 1 3 3,.qf (.call (.fn 112) [.tmp 4,.cst (.int .i64 1),.cst (.int .i64 40)]) 3,.L 5 3,.K 3 6,.h 7,.D 3 1 8,.r 1 9 8,.al 10 8,.ai 11 20 8,.G 6 8 12]) (.cond (.var 6) (.seq (.region [.f 2]) .ret) .skip)) (.seq (.seq (.region [.d 2 1,.b 1 0,.qn (.makeFunc (.func 114) [] [.var 3]),.qs 7 (.call (.fn 113) [.tmp 1,.tmp 2])]) (.cond (.var 7) (.seq (.region [.f 2]) .ret) .skip)) (.seq (.seq (.region [.d 3 1,.am 8 1 0,.R 9 8,.e 10 0]) (.seq (.block 0 (.loop [0,2,4,5,6,7,11,12] I5)) (.kill [0,1,2,3,4,5,6,7,8,9,10,11,12]))) (.seq (.region [.M 2]) .ret))))),[.tmp 2]⟩
theorem Kc:aB Tryz.prog Tryz.f71 1 [0,1,2,3,4,5,22,26,28,29,30,31,47] [116,117] true ([[0,2,4,5,6,7,11,12]],[[0,2,4,5,6,7,11,12],[0,1,2,3,4,5,6,7,8,9,10,11,12]])=some Qz:=by kernel_rfl
theorem at71:Tryz.prog.funcs[71]?=some Tryz.f71:=by kernel_rfl
def MQ:bM:=⟨2,11,.seq (.region [.y 2 0,.y 3 1,.bi 4 2,.f 5]) (.seq (.region [.k 4 2,.d 0 3,.b 1 1,.d 1 3,.b 1 3,.O 118 0 2 4,.h 5,.n 6 0,.n 6 1,.c 6 7,.c 7 8]) (.seq (.seq (.region [.a 7,.S 9 0]) (.cond (.var 9) (.seq (.region [.d 0 3,.b 1 0,.d 1 3,.b 1 2,.qn (.buildSlice 1 [.tmp 1,.tmp 3]),.qn (.build [.int .i64 0,.nilS] [(0,(1,.cst (.int .i64 4))),(1,(1,.tmp 4))]),.j 2 4 5,.M 5]) .ret) .skip)) (.seq (.seq (.region [.k 4 2,.d 0 3,.b 1 1,.d 1 3,.b 1 3,.O 119 0 2 4,.h 5,.n 6 0,.n 6 1,.c 8 7,.h 8]) (.seq (.region [.d 2 3,.b 1 0,.a 8,.Z 10 1 2]) (.cond (.var 10) (.seq (.region [.d 0 3,.b 1 0,.bj 1,.a 6,.d 1 3,.b 1 4,.bj 5,.qn (.buildSlice 1 [.tmp 2,.tmp 3,.tmp 6]),.E 120 7,.qn (.build [.int .i64 0,.nilS] [(0,(1,.cst (.int .i64 3))),(1,(1,.tmp 8))]),.j 2 4 9,.M 5]) .ret) .skip))) (.seq (.region [.k 2 4,.j 2 4 0,.f 5]) .ret)))),[.cell 4 true 2,.tmp 5]⟩
theorem Kb:aB Tryz.prog Tryz.f72 2 [0,1,2,3,4,5,6,7,8,20,39] [] false ([],[])=some MQ:=by kernel_rfl
theorem at72:Tryz.prog.funcs[72]?=some Tryz.f72:=by kernel_rfl
def Qy:bM:=⟨1,3,.seq (.region [.y 1 0,.f 2]) (.seq (.region [.k 5 1,.E 74 0,.h 1,.c6 5 1 2,.a8 121 3 2,.a8 122 4 2,.ab 5 2,.i 2 6,.h 7,.c6 5 1 8,.a8 123 9 8,.a8 122 10 8,.ab 11 8,.i 8 12,.c 2 13]) .ret),[.tmp 2]⟩
theorem Ka:aB Tryz.prog Tryz.f73 1 [0,1,2] [] true ([],[])=some Qy:=by kernel_rfl
theorem at73:Tryz.prog.funcs[73]?=some Tryz.f73:=by kernel_rfl
def Qx:bM:=⟨1,7,.seq (.region [.y 1 0,.f 2]) (.seq (.region [.qn (.build [.int .i64 0,.int .i64 0,.int .i64 0] [(0,(1,.cst (.int .i64 (-1))))]),.V 3 3,.j 3 3 0]) (.seq (.region [.qn (.makeFunc (.func 124) [] [.var 3,.var 1]),.cn 4 1,.j 1 4 0]) (.seq (.seq (.block 0 (.seq (.region [.d 0 1,.b 1 0,.qn (.call (.fn 88) [.tmp 1,.cst (.int .i64 0),.cst (.int .i64 1000000)]),.N 2,.h 3,.D 1 1 4,.r 1 5 4,.D 2 1 4,.r 1 7 4,.a6 88 6 8 4,.L 9 4,.K 4 10,.h 11,.D 2 1 12,.r 1 13 12,.ai 14 10000 12,.K 12 15,.c 5 16]) (.cond (.var 5) (.seq (.region [.f 2]) .ret) (.seq (.region [.d 3 1,.b 1 0,.B 1,.qn (.call (.fn 88) [.tmp 2,.cst (.int .i64 1),.cst (.int .i64 8)]),.N 3,.h 4,.D 4 1 5,.r 1 6 5,.al 7 5,.ai 8 20 5,.K 5 9,.c 6 10]) (.cond (.var 6) (.seq (.region [.f 2]) .ret) .skip))))) (.kill [0,2,3,5,6])) (.seq (.region [.d 3 1,.b 1 0,.qn (.call (.fn 125) [.tmp 1,.fn 126]),.N 2,.h 3,.s 4 1 4,.p 1 5 4,.qt (.makeFunc (.func 129) [] [.var 4]) 4,.af 128 6 7 4,.ab 8 4,.i 4 9,.c 2 10]) .ret)))),[.tmp 2]⟩
theorem J9:aB Tryz.prog Tryz.f74 1 [0,1,2,3,4,7,25] [] true ([],[[0,2,3,5,6]])=some Qx:=by kernel_rfl
theorem at74:Tryz.prog.funcs[74]?=some Tryz.f74:=by kernel_rfl
def Qw:bM:=⟨3,4,.seq (.region [.f 3]) (.seq (.region [.a 0,.a 1,.cv 0 1,.h 2,.x 0 3,.x 2 3,.ag 4 5 3,.i 3 6,.c 3 7]) .ret),[.tmp 3]⟩
theorem J7:aB Tryz.prog Tryz.f88 3 [0,1,2,6] [] true ([],[])=some Qw:=by kernel_rfl
theorem at88:Tryz.prog.funcs[88]?=some Tryz.f88:=by kernel_rfl
def Fv:MC:=.seq (.region [.w 6 5 4]) (.seq (.cond (.var 6) .skip (.exit 0)) (.seq (.seq (.block 1 (.seq (.region [.a 5,.c 3 0]) (.seq (.region [.a 1,.a 0,.a 3,.g 1 1 2,.b 1 3,.aq 7 0 4]) (.cond (.var 7) (.seq (.region [.a 3,.c 2 0]) .ret) .skip)))) (.kill [2,3,6,7])) (.region [.m 5 1,.c 5 0])))
def I2:bM:=⟨2,8,.seq (.region [.e 2 0]) (.seq (.seq (.region [.a 0,.ak 4 0,.e 5 0]) (.seq (.block 0 (.loop [2,3,6,7] Fv)) (.kill [0,1,2,3,4,5,6,7]))) (.seq (.region [.e 2 (-1)]) .ret)),[.tmp 2]⟩
theorem GG:aB Tryz.prog Tryz.f101 2 [0,1,4,5,7,8,9,16] [] true ([[2,3,6,7]],[[2,3,6,7],[0,1,2,3,4,5,6,7]])=some I2:=by kernel_rfl
theorem PS:Tryz.prog.funcs[101]?=some Tryz.f101:=by kernel_rfl
def IZ:bM:=⟨1,3,.seq (.region [.y 1 0,.f 2]) (.seq (.region [.d 0 1,.b 1 0,.qn (.bin .leq (.cst (.int .i64 0)) (.tmp 1)),.h 2,.s 0 1 3,.p 1 4 3,.s 1 1 3,.p 1 6 3,.ag 5 7 3,.i 3 8,.h 9,.s 1 1 10,.p 1 11 10,.av 12 10000 10,.i 10 13,.c 2 14]) .ret),[.tmp 2]⟩
theorem GF:aB Tryz.prog Tryz.f111 1 [0,1,2] [] true ([],[])=some IZ:=by kernel_rfl
theorem PR:Tryz.prog.funcs[111]?=some Tryz.f111:=by kernel_rfl
def IY:bM:=⟨3,4,.seq (.region [.f 3]) (.seq (.region [.a 0,.a 1,.cv 0 1,.h 2,.x 0 3,.x 2 3,.ag 4 5 3,.i 3 6,.c 3 7]) .ret),[.tmp 3]⟩
theorem GE:aB Tryz.prog Tryz.f112 3 [0,1,2,6] [] true ([],[])=some IY:=by kernel_rfl
theorem PQ:Tryz.prog.funcs[112]?=some Tryz.f112:=by kernel_rfl
def IX:bM:=⟨2,3,.seq (.region [.f 2]) (.seq (.region [.a 0,.a 1,.q 154 0 1,.P 2 0,.c 2 3]) .ret),[.tmp 2]⟩
theorem GD:aB Tryz.prog Tryz.f113 2 [0,1,4] [] true ([],[])=some IX:=by kernel_rfl
theorem PP:Tryz.prog.funcs[113]?=some Tryz.f113:=by kernel_rfl
def IW:bM:=⟨2,4,.seq (.region [.y 2 0,.f 3]) (.seq (.region [.k 7 2,.o 1 1,.q 115 0 1,.N 2,.c 3 3]) .ret),[.tmp 3]⟩
theorem GB:aB Tryz.prog Tryz.f114 2 [0,1,2,3] [] true ([],[])=some IW:=by kernel_rfl
theorem PO:Tryz.prog.funcs[114]?=some Tryz.f114:=by kernel_rfl
def IV:bM:=⟨2,6,.seq (.region [.y 2 0,.f 3]) (.seq (.region [.d 5 2,.b 1 0,.ao 1 (-1),.h 2,.s 6 2 3,.p 1 4 3,.aw 5 0 3,.i 3 6,.h 7,.D 5 2 8,.r 1 9 8,.z 1 8,.qf (.bin .sub (.tmp 11) (.cst (.int .i64 1))) 8,.a6 112 10 12 8,.bq 13 8,.s 6 2 14,.p 1 15 14,.qt (.call (.fn 112) [.tmp 16,.cst (.int .i64 1),.cst (.int .i64 9)]) 14,.ac 14 17 8,.K 8 18,.c 4 19]) (.seq (.region [.d 1 2,.b 1 0,.B 1,.qn (.call (.fn 112) [.tmp 2,.cst (.int .i64 1),.cst (.int .i64 8)]),.h 3,.s 4 2 4,.p 1 5 4,.au 6 4,.av 7 4 4,.i 4 8,.c 5 9]) (.seq (.region [.a 4,.h 0,.x 5 1,.i 1 2,.h 3,.s 0 2 4,.p 1 5 4,.qt (.call (.fn 112) [.tmp 6,.cst (.int .i64 1),.cst (.int .i64 1000000)]) 4,.i 4 7,.h 8,.s 1 2 9,.p 1 10 9,.qt (.call (.fn 155) [.tmp 11,.cst (.int .i64 0),.cst (.int .i64 59)]) 9,.i 9 12,.h 13,.s 4 2 14,.p 1 15 14,.x 1 14,.b8 17 1 14,.bw 155 16 18 14,.i 14 19,.h 20,.s 2 2 21,.p 1 22 21,.qt (.bin .leq (.cst (.int .i64 1)) (.tmp 23)) 21,.i 21 24,.h 25,.s 2 2 26,.p 1 27 26,.s 3 2 26,.p 1 29 26,.ag 28 30 26,.i 26 31,.h 32,.s 3 2 33,.p 1 34 33,.av 35 10000 33,.i 33 36,.c 3 37]) .ret))),[.tmp 3]⟩
theorem GA:aB Tryz.prog Tryz.f115 2 [0,1,2,4,5,6] [] true ([],[])=some IV:=by kernel_rfl
theorem PN:Tryz.prog.funcs[115]?=some Tryz.f115:=by kernel_rfl
def IU:bM:=⟨2,4,.seq (.region [.y 2 0,.f 3]) (.seq (.region [.d 0 2,.b 1 0,.a 1,.A 2 1,.a5 112 1 3,.h 4,.s 1 2 5,.p 1 6 5,.x 1 5,.b8 8 1 5,.bw 112 7 9 5,.i 5 10,.h 11,.s 0 2 12,.p 1 13 12,.s 1 2 12,.p 1 15 12,.qt (.bin .neq (.tmp 14) (.tmp 16)) 12,.i 12 17,.h 18,.s 2 2 19,.p 1 20 19,.ca 112 21 19,.i 19 22,.c 3 23]) .ret),[.tmp 3]⟩
theorem Gz:aB Tryz.prog Tryz.f116 2 [0,1,2,4] [] true ([],[])=some IU:=by kernel_rfl
theorem PM:Tryz.prog.funcs[116]?=some Tryz.f116:=by kernel_rfl
def IT:bM:=⟨2,6,.seq (.region [.y 2 1,.f 3]) (.seq (.seq (.region [.a 0,.B 0,.aa 5 1 0]) (.cond (.var 5) (.seq (.region [.M 3]) .ret) .skip)) (.seq (.region [.a 0,.a 0,.B 1,.A 2 1,.g 3 0 3,.F 3 4,.V 4 3,.j 3 4 5]) (.seq (.region [.d 0 4,.b 1 0,.d 0 2,.b 1 2,.dd 1 3,.h 4,.D 0 4 5,.r 1 6 5,.D 0 2 5,.r 1 8 5,.co 7 9 5,.bq 10 5,.s 1 4 11,.p 1 12 11,.s 1 2 11,.p 1 14 11,.bf 13 15 11,.ac 11 16 5,.K 5 17,.c 3 18]) .ret))),[.tmp 3]⟩
theorem Gy:aB Tryz.prog Tryz.f117 2 [0,1,3,4,5,8] [] true ([],[])=some IT:=by kernel_rfl
theorem PL:Tryz.prog.funcs[117]?=some Tryz.f117:=by kernel_rfl
def Fg:bM:=⟨3,9,.seq (.region [.y 3 0,.C 4,.f 5]) (.seq (.seq (.region [.k 4 3,.a 1,.a 2,.qn (.buildF 1 [.tmp 1,.tmp 2]),.q 156 0 3,.S 7 4]) (.cond (.var 7) (.seq (.region [.C 4,.f 5]) .ret) .skip)) (.seq (.region [.k 4 3,.a 1,.q 157 0 1,.a 2,.g 1 2 3,.b 1 4,.c 6 5]) (.seq (.seq (.region [.a 6,.qs 8 (.eqNil 0 false (.tmp 0))]) (.cond (.var 8) (.seq (.region [.C 4,.f 5]) .ret) .skip)) (.seq (.region [.a 6,.J 0,.l 1 1,.b 1 2,.E 63 3,.c 4 4,.M 5]) .ret)))),[.tmp 4,.tmp 5]⟩
theorem Gx:aB Tryz.prog Tryz.f118 3 [0,1,2,3,6,7,8,14,22] [] true ([],[])=some Fg:=by kernel_rfl
theorem PK:Tryz.prog.funcs[118]?=some Tryz.f118:=by kernel_rfl
def Ff:bM:=⟨3,9,.seq (.region [.y 3 0,.e 4 0,.f 5]) (.seq (.seq (.region [.k 4 3,.a 1,.a 2,.qn (.buildF 1 [.tmp 1,.tmp 2]),.q 156 0 3,.S 7 4]) (.cond (.var 7) (.seq (.region [.e 4 0,.f 5]) .ret) .skip)) (.seq (.region [.k 4 3,.a 1,.q 157 0 1,.a 2,.g 1 2 3,.b 1 4,.c 6 5]) (.seq (.seq (.region [.a 6,.qs 8 (.eqNil 0 false (.tmp 0))]) (.cond (.var 8) (.seq (.region [.e 4 0,.f 5]) .ret) .skip)) (.seq (.region [.a 6,.J 0,.l 0 1,.b 1 2,.c 4 3,.M 5]) .ret)))),[.tmp 4,.tmp 5]⟩
theorem Gw:aB Tryz.prog Tryz.f119 3 [0,1,2,3,6,7,8,14,22] [] true ([],[])=some Ff:=by kernel_rfl
theorem PJ:Tryz.prog.funcs[119]?=some Tryz.f119:=by kernel_rfl
def Fu:MC:=.seq (.region [.w 9 8 7]) (.seq (.cond (.var 9) .skip (.exit 0)) (.seq (.seq (.block 1 (.seq (.region [.H 1 6 8,.b 1 0,.c 3 1]) (.seq (.region [.a 2,.a 3,.B 1,.v 0 2,.c 2 3]) (.seq (.region [.a 2,.U 10 0 0]) (.cond (.var 10) (.region [.qn (.mkI 9 (.cst (.str [108,101,110,32,111,117,116,32,111,102,32,114,97,110,103,101]))),.qn (.un .neg (.cst .undef))]) .skip))))) (.kill [1,3,4,5,9,10,11,12,13,14])) (.region [.m 8 1,.c 8 0])))
def Ft:MC:=.seq (.region [.w 14 13 12]) (.seq (.cond (.var 14) .skip (.exit 2)) (.seq (.seq (.block 3 (.seq (.region [.H 1 11 13,.b 1 0,.c 5 1]) (.region [.a 4,.a 5,.ae 1 0 1,.c 4 2]))) (.kill [0,1,2,3,5,6,7,8,9,10,14])) (.region [.m 13 1,.c 13 0])))
def IR:bM:=⟨1,15,.seq (.region [.C 1]) (.seq (.region [.e 2 0]) (.seq (.seq (.region [.T 6 0,.R 7 6,.e 8 0]) (.seq (.block 0 (.loop [1,3,4,5,9,10,11,12,13,14] Fu)) (.kill [1,3,4,5,6,7,8,9,10,11,12,13,14]))) (.seq (.region [.a 2,.qn (.call (.fn 158) [.cst .nilS,.tmp 0]),.c 4 1]) (.seq (.seq (.region [.T 11 0,.R 12 11,.e 13 0]) (.seq (.block 2 (.loop [0,1,2,3,5,6,7,8,9,10,14] Ft)) (.kill [0,1,2,3,5,6,7,8,9,10,11,12,13,14]))) (.seq (.region [.a 4,.c 1 0]) .ret))))),[.tmp 1]⟩
theorem Gv:aB Tryz.prog Tryz.f120 1 [0,2,3,5,6,8,9,10,11,12,20,25,26,27,28] [] false ([[1,3,4,5,9,10,11,12,13,14],[0,1,2,3,5,6,7,8,9,10,14]],[[1,3,4,5,9,10,11,12,13,14],[1,3,4,5,6,7,8,9,10,11,12,13,14],[0,1,2,3,5,6,7,8,9,10,14],[0,1,2,3,5,6,7,8,9,10,11,12,13,14]])=some IR:=by kernel_rfl
theorem PI:Tryz.prog.funcs[120]?=some Tryz.f120:=by kernel_rfl
def Fs:MC:=.seq (.region [.w 10 9 8]) (.seq (.cond (.var 10) .skip (.exit 0)) (.seq (.seq (.block 1 (.seq (.region [.a 9,.H 6 7 9,.F 6 1,.u 4 6,.c 3 0,.j 6 4 2]) (.seq (.region [.d 2 4,.l 1 0,.b 1 1,.d 1 4,.b 1 3,.v 2 4,.A 5 1,.d 2 1,.b 1 7,.v 6 8,.d 4 4,.l 1 10,.b 1 11,.bv 159 2 9 12]) (.seq (.seq (.region [.a 3,.t 0 1,.d 3 1,.b 1 2,.B 3,.bc 11 1 4]) (.cond (.var 11) (.exit 0) .skip)) (.seq (.region [.d 3 1,.b 1 0,.a 3,.t 2 1,.g 6 1 3,.F 6 4,.u 5 6,.j 6 5 5]) (.seq (.region [.d 2 4,.l 1 0,.b 1 1,.d 1 4,.b 1 3,.v 2 4,.d 2 1,.b 1 6,.v 5 7,.d 2 5,.l 1 9,.b 1 10,.bv 159 2 8 11]) (.seq (.region [.d 2 5,.F 2 0,.ar 6 2,.j 2 6 1]) (.seq (.seq (.region [.d 2 5,.l 0 0,.b 1 1,.d 2 4,.l 0 3,.b 1 4,.bc 12 2 5]) (.cond (.var 12) (.region [.d 4 5,.F 2 0,.j 2 6 1]) .skip)) (.region [.d 4 4,.l 1 0,.b 1 1,.d 1 4,.b 1 3,.v 2 4,.d 2 1,.b 1 6,.v 5 7,.d 1 6,.b 1 9,.bv 159 2 8 10]))))))))) (.kill [0,3,4,5,6,10,11,12])) (.region [.m 9 1,.c 9 0])))
def IQ:bM:=⟨1,13,.seq (.region [.y 1 0,.bm 2 1]) (.seq (.region [.d 0 1,.b 1 0,.d 2 1,.b 1 2,.v 1 3,.d 3 1,.b 1 5,.cy 6 6 0,.l 2 7,.l 1 8,.b 1 9,.bv 159 2 4 10]) (.seq (.seq (.region [.d 3 1,.am 7 1 0,.R 8 7,.e 9 0]) (.seq (.block 0 (.loop [0,3,4,5,6,10,11,12] Fs)) (.kill [0,1,3,4,5,6,7,8,9,10,11,12]))) (.seq (.region [.o 1 2,.j 1 2 0]) .ret))),[.cell 2 false 1]⟩
theorem Gu:aB Tryz.prog Tryz.f121 1 [0,1,2,3,4,5,6,20,21,22,23,46,74] [] true ([[0,3,4,5,6,10,11,12]],[[0,3,4,5,6,10,11,12],[0,1,3,4,5,6,7,8,9,10,11,12]])=some IQ:=by kernel_rfl
theorem PH:Tryz.prog.funcs[121]?=some Tryz.f121:=by kernel_rfl
def IP:bM:=⟨1,2,.seq (.region [.f 1]) (.seq (.region [.a 0,.qn (.call (.fn 160) [.tmp 0,.fn 161]),.c 1 1]) .ret),[.tmp 1]⟩
theorem Gt:aB Tryz.prog Tryz.f122 1 [0,2] [] true ([],[])=some IP:=by kernel_rfl
theorem PG:Tryz.prog.funcs[122]?=some Tryz.f122:=by kernel_rfl
def Fr:MC:=.seq (.region [.w 8 7 6]) (.seq (.cond (.var 8) .skip (.exit 0)) (.seq (.seq (.block 1 (.seq (.region [.H 3 5 7,.F 3 0,.V 3 3,.j 3 3 1]) (.seq (.region [.d 3 1,.b 1 0,.d 0 3,.b 1 2,.g 6 1 3,.F 6 4,.u 4 6,.j 6 4 5]) (.region [.d 3 1,.b 1 0,.d 1 3,.b 1 2,.g 6 1 3,.l 4 4,.l 1 5,.b 1 6,.d 2 4,.l 1 8,.b 1 9,.d 0 4,.b 1 11,.v 10 12,.d 2 3,.b 1 14,.v 13 15,.bv 159 2 7 16])))) (.kill [0,3,4,8])) (.region [.m 7 1,.c 7 0])))
def Z5:bM:=⟨1,9,.seq (.region [.y 1 0,.bm 2 1]) (.seq (.seq (.region [.d 4 1,.am 5 1 0,.R 6 5,.e 7 0]) (.seq (.block 0 (.loop [0,3,4,8] Fr)) (.kill [0,1,3,4,5,6,7,8]))) (.seq (.region [.o 1 2,.j 1 2 0]) .ret)),[.cell 2 false 1]⟩
theorem Gs:aB Tryz.prog Tryz.f123 1 [0,1,2,4,5,7,8,9,10] [] true ([[0,3,4,8]],[[0,3,4,8],[0,1,3,4,5,6,7,8]])=some Z5:=by kernel_rfl
theorem PF:Tryz.prog.funcs[123]?=some Tryz.f123:=by kernel_rfl
def IN:bM:=⟨3,6,.seq (.region [.y 3 0,.f 4]) (.seq (.region [.d 0 1,.b 1 0,.d 0 3,.b 1 2,.dd 1 3,.h 4,.D 0 1 5,.r 1 6 5,.D 0 3 5,.r 1 8 5,.co 7 9 5,.bq 10 5,.s 1 1 11,.p 1 12 11,.s 1 3 11,.p 1 14 11,.bf 13 15 11,.ac 11 16 5,.K 5 17,.c 5 18]) (.seq (.region [.k 3 3,.j 3 1 0]) (.seq (.region [.a 5,.h 0,.s 0 3 1,.p 1 2 1,.qt (.bin .geq (.tmp 3) (.cst (.int .i64 0))) 1,.i 1 4,.h 5,.s 0 3 6,.p 1 7 6,.s 1 3 6,.p 1 9 6,.bf 8 10 6,.i 6 11,.h 12,.s 1 3 13,.p 1 14 13,.s 3 2 13,.p 1 16 13,.au 17 13,.bf 15 18 13,.i 13 19,.h 20,.s 2 3 21,.p 1 22 21,.ca 88 23 21,.i 21 24,.c 4 25]) .ret))),[.tmp 4]⟩
theorem Gr:aB Tryz.prog Tryz.f124 3 [0,1,2,3,4,5] [] true ([],[])=some IN:=by kernel_rfl
theorem PE:Tryz.prog.funcs[124]?=some Tryz.f124:=by kernel_rfl
def IM:bM:=⟨2,3,.seq (.region [.f 2]) (.seq (.region [.a 0,.a 1,.q 162 0 1,.P 2 0,.c 2 3]) .ret),[.tmp 2]⟩
theorem Gq:aB Tryz.prog Tryz.f125 2 [0,1,4] [] true ([],[])=some IM:=by kernel_rfl
theorem PD:Tryz.prog.funcs[125]?=some Tryz.f125:=by kernel_rfl
def IL:bM:=⟨1,3,.seq (.region [.y 1 0,.f 2]) (.seq (.region [.k 6 1,.E 127 0,.N 1,.c 2 2]) .ret),[.tmp 2]⟩
theorem Gp:aB Tryz.prog Tryz.f126 1 [0,1,2] [] true ([],[])=some IL:=by kernel_rfl
theorem PC:Tryz.prog.funcs[126]?=some Tryz.f126:=by kernel_rfl
def IK:bM:=⟨1,4,.seq (.region [.y 1 0,.f 2]) (.seq (.seq (.region [.d 0 1,.b 1 0,.d 1 1,.b 1 2,.qn (.call (.fn 88) [.tmp 1,.cst (.int .i64 1),.tmp 3]),.N 4,.h 5,.D 1 1 6,.r 1 7 6,.ai 8 10000 6,.G 3 6 9]) (.cond (.var 3) (.seq (.region [.f 2]) .ret) .skip)) (.seq (.region [.d 2 1,.F 2 0,.d 1 1,.b 1 2,.q 163 1 3,.h 4,.s 4 1 5,.qt (.load true 2 (.tmp 6)) 5,.s 1 1 5,.p 1 8 5,.af 163 7 9 5,.i 5 10,.h 11,.s 2 1 12,.qt (.fieldAddr 0 (.tmp 13)) 12,.p 1 14 12,.s 4 1 12,.qt (.fieldAddr 0 (.tmp 16)) 12,.p 1 17 12,.qt (.bin .neq (.tmp 15) (.tmp 18)) 12,.i 12 19,.c 2 20]) .ret)),[.tmp 2]⟩
theorem Gn:aB Tryz.prog Tryz.f127 1 [0,1,2,13] [] true ([],[])=some IK:=by kernel_rfl
theorem PA:Tryz.prog.funcs[127]?=some Tryz.f127:=by kernel_rfl
def IJ:bM:=⟨2,3,.seq (.region [.f 2]) (.seq (.region [.a 0,.a 1,.q 164 0 1,.P 2 0,.c 2 3]) .ret),[.tmp 2]⟩
theorem Gm:aB Tryz.prog Tryz.f128 2 [0,1,4] [] true ([],[])=some IJ:=by kernel_rfl
theorem Pz:Tryz.prog.funcs[128]?=some Tryz.f128:=by kernel_rfl
def II:bM:=⟨2,4,.seq (.region [.y 2 0,.f 3]) (.seq (.region [.o 1 1,.k 3 2,.ah 0 1,.N 2,.c 3 3]) .ret),[.tmp 3]⟩
theorem Gl:aB Tryz.prog Tryz.f129 2 [0,1,2,3] [] true ([],[])=some II:=by kernel_rfl
theorem Py:Tryz.prog.funcs[129]?=some Tryz.f129:=by kernel_rfl
def IH:bM:=⟨2,10,.seq (.region [.e 2 0]) (.seq (.region [.a 0,.E 169 0,.c 3 1]) (.seq (.region [.a 1,.E 169 0,.c 4 1]) (.seq (.seq (.region [.T 5 3]) (.cond (.var 5) (.seq (.seq (.region [.T 6 4]) (.cond (.var 6) (.seq (.region [.e 2 0]) .ret) .skip)) (.seq (.region [.e 2 (-1)]) .ret)) .skip)) (.seq (.seq (.region [.T 7 4]) (.cond (.var 7) (.seq (.region [.e 2 1]) .ret) .skip)) (.seq (.seq (.region [.a 0,.a 1,.Z 8 0 1]) (.cond (.var 8) (.seq (.region [.e 2 (-1)]) .ret) .skip)) (.seq (.seq (.region [.a 0,.a 1,.db 9 0 1]) (.cond (.var 9) (.seq (.region [.e 2 1]) .ret) .skip)) (.seq (.region [.e 2 0]) .ret))))))),[.tmp 2]⟩
theorem Gk:aB Tryz.prog Tryz.f138 2 [0,1,4,5,6,11,12,13,16,19] [] true ([],[])=some IH:=by kernel_rfl
theorem Px:Tryz.prog.funcs[138]?=some Tryz.f138:=by kernel_rfl
def Fq:MC:=.seq (.region [.w 6 5 4]) (.seq (.cond (.var 6) .skip (.exit 0)) (.seq (.seq (.block 1 (.seq (.region [.a 5,.c 3 0]) (.seq (.region [.a 1,.a 0,.a 3,.g 7 1 2,.F 7 3,.aq 7 0 4]) (.cond (.var 7) (.seq (.region [.a 3,.c 2 0]) .ret) .skip)))) (.kill [2,3,6,7])) (.region [.m 5 1,.c 5 0])))
def IG:bM:=⟨2,8,.seq (.region [.e 2 0]) (.seq (.seq (.region [.a 0,.ak 4 0,.e 5 0]) (.seq (.block 0 (.loop [2,3,6,7] Fq)) (.kill [0,1,2,3,4,5,6,7]))) (.seq (.region [.e 2 (-1)]) .ret)),[.tmp 2]⟩
theorem Gj:aB Tryz.prog Tryz.f154 2 [0,1,4,5,7,8,9,16] [] true ([[2,3,6,7]],[[2,3,6,7],[0,1,2,3,4,5,6,7]])=some IG:=by kernel_rfl
theorem Pw:Tryz.prog.funcs[154]?=some Tryz.f154:=by kernel_rfl
def Fp:MC:=.seq (.region [.w 9 8 7]) (.seq (.cond (.var 9) .skip (.exit 0)) (.seq (.seq (.block 1 (.seq (.region [.a 8,.H 1 6 8,.b 1 1,.c 4 0,.c 5 2]) (.seq (.region [.a 5,.a 1,.a 2,.O 112 0 1 2,.N 3,.h 4,.z 4 5,.ai 6 0 5,.bq 7 5,.x 5 8,.x 0 8,.x 4 8,.b8 11 1 8,.b4 1 10 12 8,.p 1 13 8,.ag 9 14 8,.ac 8 15 5,.G 10 5 16]) (.cond (.var 10) (.seq (.region [.f 3]) .ret) .skip)))) (.kill [3,4,5,9,10])) (.region [.m 8 1,.c 8 0])))
def IF:bM:=⟨3,11,.seq (.region [.f 3]) (.seq (.seq (.region [.T 6 0,.R 7 6,.e 8 0]) (.seq (.block 0 (.loop [3,4,5,9,10] Fp)) (.kill [0,1,2,3,4,5,6,7,8,9,10]))) (.seq (.region [.M 3]) .ret)),[.tmp 3]⟩
theorem Gi:aB Tryz.prog Tryz.f155 3 [0,1,2,6,7,8,9,10,11,12,33] [] true ([[3,4,5,9,10]],[[3,4,5,9,10],[0,1,2,3,4,5,6,7,8,9,10]])=some IF:=by kernel_rfl
theorem Pv:Tryz.prog.funcs[155]?=some Tryz.f155:=by kernel_rfl
def IE:bM:=⟨2,4,.seq (.region [.y 2 0,.f 3]) (.seq (.region [.k 4 2,.E 71 0,.h 1,.x 1 2,.qt (.makeFunc (.func 173) [] [.var 2]) 2,.af 61 3 4 2,.ab 5 2,.i 2 6,.c 3 7]) .ret),[.tmp 3]⟩
theorem Gh:aB Tryz.prog Tryz.f156 2 [0,1,2,4] [] true ([],[])=some IE:=by kernel_rfl
theorem Pu:Tryz.prog.funcs[156]?=some Tryz.f156:=by kernel_rfl
def xO:MC:=.seq (.region [.w 14 13 12]) (.seq (.cond (.var 14) .skip (.exit 2)) (.seq (.seq (.block 3 (.seq (.region [.a 13,.H 1 11 13,.b 1 1,.c 9 0,.c 10 2]) (.seq (.region [.a 10,.qn (.eqNil 0 true (.tmp 0)),.h 1,.x 5 2,.x 9 2,.b4 1 3 4 2,.p 1 5 2,.ab 6 2,.i 2 7,.h 8,.x 8 9,.qt (.bin .lss (.tmp 10) (.cst (.int .i64 0))) 9,.de 11 9,.ad 1 6 12,.z 10 12,.c7 14 12,.c5 2 15 12,.ad 1 4 12,.z 8 12,.Y 1 17 18 12,.r 1 19 12,.c7 20 12,.c5 2 21 12,.qf (.call (.tmp 13) [.tmp 16,.tmp 22]) 12,.b6 23 0 12,.b2 12 24 9,.bs 15 9 25]) (.cond (.var 15) (.region [.a 9,.c 8 0]) .skip)))) (.kill [0,1,3,9,10,14,15,16])) (.region [.m 13 1,.c 13 0])))
def gi:MC:=.seq (.block 1 (.seq (.region [.e 8 (-1)]) (.seq (.seq (.region [.bp 11 1 4,.R 12 11,.e 13 0]) (.seq (.block 2 (.loop [0,1,3,9,10,14,15,16] xO)) (.kill [0,1,3,9,10,11,12,13,14,15,16]))) (.seq (.seq (.region [.a 8,.U 16 0 0]) (.cond (.var 16) (.seq (.region [.o 1 4,.c 3 0]) .ret) .skip)) (.seq (.region [.a 5,.a 8,.g 1 0 1,.c0 1 2]) (.regionD [] [.a 7,.o 1 4,.a 8,.g 1 1 2,.b 1 3,.J 4,.l 0 5,.b 1 6,.d 2 2,.b 1 8,.a 8,.g 7 9 10,.l 2 11,.b 1 12,.v 7 13,.d 0 2,.b 1 15,.v 14 16,.o 1 4,.a 8,.g 1 18 19,.b 1 20,.J 21,.l 1 22,.b 1 23,.E 63 24,.a 8,.bz 26,.ch 25 27,.bx 17 28,.d 2 2,.b 1 30,.a 8,.g 7 31 32,.F 7 33,.ay 0 29 34] [(1,25),(3,25),(4,25),(6,25),(7,25),(8,25),(9,25),(11,25),(12,25),(13,25),(15,25),(16,25),(1,28),(3,28),(4,28),(6,28),(7,28),(8,28),(9,28),(11,28),(12,28),(13,28),(15,28),(16,28),(25,30),(28,30),(25,31),(28,31),(25,33),(28,33),(25,34),(28,34)])))))) (.kill [0,1,3,8,9,10,11,12,13,14,15,16])
def Fe:bM:=⟨2,17,.seq (.region [.y 2 0,.C 3]) (.seq (.region [.d 2 2,.b 1 0,.B 1,.qn (.makeSlice 1 8 .nilP (.tmp 2) (.tmp 2)),.bm 4 1,.j 1 4 3]) (.seq (.region [.d 2 2,.b 1 0,.B 1,.cc 2 2,.c 5 3]) (.seq (.region [.cn 6 1,.qn (.store 1 (.var 6) (.fn 174))]) (.seq (.region [.qn (.makeFunc (.func 175) [] [.var 4,.var 6]),.c 7 0]) (.seq (.region [.a 7,.d 0 2,.b 1 1,.qn (.build [.int .i64 0,.nilS] [(0,(1,.tmp 2))]),.d 2 2,.b 1 4,.a 1,.g 7 5 6,.F 7 7,.ay 0 3 8]) (.seq (.block 0 (.loop [0,1,3,8,9,10,11,12,13,14,15,16] gi)) (.kill [0,1,2,3,4,5,6,7,8,9,10,11,12,13,14,15,16]))))))),[.tmp 3]⟩
def gS:List Nat:=[0,1,3,8,9,10,11,12,13,14,15,16]
abbrev w4 (v2 v4 v5 v6 v7:AV):List AV:=[.undef,.undef,v2,.undef,v4,v5,v6,v7,.undef,.undef,.undef,.undef,.undef,.undef,.undef,.undef,.undef]
theorem GH {d12 d15:AV}:clear gS [d0,d1,v2,d3,v4,v5,v6,v7,d8,d9,d10,d11,d12,d13,d14,d15,d16]=w4 v2 v4 v5 v6 v7:=rfl
theorem FU {k:List KC} {d12 d15:AV} (h:cc (evC E fuel gi) gS fuel (w4 v2 v4 v5 v6 v7) A=some o) :
  run E fuel (.code (.loop [0,1,3,8,9,10,11,12,13,14,15,16] gi) :: k) [d0,d1,v2,d3,v4,v5,v6,v7,d8,d9,d10,d11,d12,d13,d14,d15,d16] A=after E fuel k o:=aV gS _ _ (by rw [GH]; exact h)
theorem Gg:aB Tryz.prog Tryz.f157 2 [0,1,2,4,5,6,7,8,9,10,11,31,32,33,34,64,68] [] true ([[0,1,3,8,9,10,11,12,13,14,15,16],[0,1,3,9,10,14,15,16]],[[0,1,3,9,10,14,15,16],[0,1,3,9,10,11,12,13,14,15,16],[0,1,3,8,9,10,11,12,13,14,15,16],[0,1,2,3,4,5,6,7,8,9,10,11,12,13,14,15,16]])=some Fe:=by kernel_rfl
theorem Pt:Tryz.prog.funcs[157]?=some Tryz.f157:=by kernel_rfl
def ID:bM:=⟨3,3,.region [.a 0,.a 0,.J 1,.b 1 2,.a 2,.a 1,.cu 4 5,.bz 6,.ae 1 3 7,.J 0,.I 1 9 8],[]⟩
theorem Gf:aB Tryz.prog Tryz.f159 3 [0,1,2] [] true ([],[])=some ID:=by kernel_rfl
theorem Ps:Tryz.prog.funcs[159]?=some Tryz.f159:=by kernel_rfl
def IC:bM:=⟨2,3,.seq (.region [.f 2]) (.seq (.region [.a 0,.a 1,.q 177 0 1,.P 2 0,.c 2 3]) .ret),[.tmp 2]⟩
theorem Ge:aB Tryz.prog Tryz.f160 2 [0,1,4] [] true ([],[])=some IC:=by kernel_rfl
theorem Pq:Tryz.prog.funcs[160]?=some Tryz.f160:=by kernel_rfl
def IB:bM:=⟨1,2,.seq (.region [.f 1]) (.seq (.region [.a 0,.b3 0 0,.c 1 1]) .ret),[.tmp 1]⟩
theorem Gd:aB Tryz.prog Tryz.f161 1 [0,2] [] true ([],[])=some IB:=by kernel_rfl
theorem Pp:Tryz.prog.funcs[161]?=some Tryz.f161:=by kernel_rfl
def Fo:MC:=.seq (.region [.w 6 5 4]) (.seq (.cond (.var 6) .skip (.exit 0)) (.seq (.seq (.block 1 (.seq (.region [.a 5,.c 3 0]) (.seq (.region [.a 1,.a 0,.a 3,.g 6 1 2,.F 6 3,.aq 7 0 4]) (.cond (.var 7) (.seq (.region [.a 3,.c 2 0]) .ret) .skip)))) (.kill [2,3,6,7])) (.region [.m 5 1,.c 5 0])))
def IA:bM:=⟨2,8,.seq (.region [.e 2 0]) (.seq (.seq (.region [.a 0,.ak 4 0,.e 5 0]) (.seq (.block 0 (.loop [2,3,6,7] Fo)) (.kill [0,1,2,3,4,5,6,7]))) (.seq (.region [.e 2 (-1)]) .ret)),[.tmp 2]⟩
theorem Gc:aB Tryz.prog Tryz.f162 2 [0,1,4,5,7,8,9,16] [] true ([[2,3,6,7]],[[2,3,6,7],[0,1,2,3,4,5,6,7]])=some IA:=by kernel_rfl
theorem Po:Tryz.prog.funcs[162]?=some Tryz.f162:=by kernel_rfl
def Iz:bM:=⟨2,4,.seq (.region [.y 2 0,.f 3]) (.seq (.region [.d 0 2,.b 1 0,.qn (.call (.fn 88) [.tmp 1,.cst (.int .i64 0),.cst (.int .i64 59)]),.h 2,.s 1 2 3,.p 1 4 3,.x 1 3,.qt (.bin .sub (.cst (.int .i64 1000000)) (.tmp 6)) 3,.bw 88 5 7 3,.i 3 8,.c 3 9]) .ret),[.tmp 3]⟩
theorem Gb:aB Tryz.prog Tryz.f163 2 [0,1,2,4] [] true ([],[])=some Iz:=by kernel_rfl
theorem Pn:Tryz.prog.funcs[163]?=some Tryz.f163:=by kernel_rfl
def Fl:MC:=.seq (.region [.w 6 5 4]) (.seq (.cond (.var 6) .skip (.exit 0)) (.seq (.seq (.block 1 (.seq (.region [.a 5,.c 3 0]) (.seq (.region [.a 1,.a 0,.a 3,.g 3 1 2,.F 3 3,.aq 7 0 4]) (.cond (.var 7) (.seq (.region [.a 3,.c 2 0]) .ret) .skip)))) (.kill [2,3,6,7])) (.region [.m 5 1,.c 5 0])))
def Iy:bM:=⟨2,8,.seq (.region [.e 2 0]) (.seq (.seq (.region [.a 0,.ak 4 0,.e 5 0]) (.seq (.block 0 (.loop [2,3,6,7] Fl)) (.kill [0,1,2,3,4,5,6,7]))) (.seq (.region [.e 2 (-1)]) .ret)),[.tmp 2]⟩
theorem Ga:aB Tryz.prog Tryz.f164 2 [0,1,4,5,7,8,9,16] [] true ([[2,3,6,7]],[[2,3,6,7],[0,1,2,3,4,5,6,7]])=some Iy:=by kernel_rfl
theorem Pm:Tryz.prog.funcs[164]?=some Tryz.f164:=by kernel_rfl
def Iw:bM:=⟨2,3,.seq (.region [.f 2]) (.seq (.region [.a 0,.b3 0 0,.h 1,.z 0 2,.D 2 1 2,.r 1 4 2,.al 5 2,.qf (.bin .geq (.tmp 3) (.tmp 6)) 2,.K 2 7,.c 2 8]) .ret),[.tmp 2]⟩
theorem F9:aB Tryz.prog Tryz.f173 2 [0,1,3] [] true ([],[])=some Iw:=by kernel_rfl
theorem Pl:Tryz.prog.funcs[173]?=some Tryz.f173:=by kernel_rfl
def Iv:bM:=⟨2,5,.seq (.region [.y 2 0,.y 3 1,.e 4 0]) (.seq (.region [.d 0 2,.b 1 0,.d 0 3,.b 1 2,.q 138 1 3,.d 1 2,.b 1 5,.B 6,.d 1 3,.b 1 8,.B 9,.q 138 7 10,.d 1 2,.b 1 12,.d 1 3,.b 1 14,.q 182 13 15,.qn (.buildF 1 [.tmp 4,.tmp 11,.tmp 16]),.E 181 17,.c 4 18]) .ret),[.tmp 4]⟩
theorem F8:aB Tryz.prog Tryz.f174 2 [0,1,2,3,4] [138,182,181] true ([],[])=some Iv:=by kernel_rfl
theorem Pk:Tryz.prog.funcs[174]?=some Tryz.f174:=by kernel_rfl
def jw:MC:=.region [.T 6 8]
def jv:MC:=.seq (.block 1 (.seq (.region [.o 1 2,.a 6,.g 1 0 1,.b 1 2,.qn (.eqNil 0 false (.tmp 3)),.h 4,.ad 1 3 5,.a9 2 4 5,.ad 1 2 5,.z 6 5,.Y 1 8 9 5,.r 1 10 5,.c7 11 5,.c5 2 12 5,.qf (.call (.tmp 6) [.tmp 7,.tmp 13]) 5,.b6 14 0 5,.G 9 5 15]) (.cond (.var 9) (.region [.o 1 2,.a 6,.d 0 4,.b 1 2,.d 1 4,.b 1 4,.bx 3 5,.qn (.box (.tmp 6)),.g 1 0 1,.I 1 8 7]) .skip))) (.kill [0,1,2,3,4,5,6,7,8,9])
def Fc:bM:=⟨4,10,.seq (.region [.y 4 0,.y 5 1]) (.seq (.region [.k 7 5,.br 7 176 0]) (.seq (.block 0 (.rangeFunc (.var 7) [8] jw jv)) (.kill [0,1,2,3,4,5,6,7,8,9]))),[]⟩
theorem F7:aB Tryz.prog Tryz.f175 4 [0,1,2,3,4,5,6,8,9,26] [] true ([],[[0,1,2,3,4,5,6,7,8,9],[0,1,2,3,4,5,6,7,8,9]])=some Fc:=by kernel_rfl
theorem Pj:Tryz.prog.funcs[175]?=some Tryz.f175:=by kernel_rfl
def Iu:bM:=⟨1,3,.seq (.region [.y 1 0,.dh 2]) (.seq (.region [.qn (.makeFunc (.func 183) [] [.var 1]),.c 2 0]) .ret),[.tmp 2]⟩
theorem F6:aB Tryz.prog Tryz.f176 1 [0,1,2] [] true ([],[])=some Iu:=by kernel_rfl
theorem Pi:Tryz.prog.funcs[176]?=some Tryz.f176:=by kernel_rfl
def Fk:MC:=.seq (.region [.w 6 5 4]) (.seq (.cond (.var 6) .skip (.exit 0)) (.seq (.seq (.block 1 (.seq (.region [.a 5,.c 3 0]) (.seq (.region [.a 1,.a 0,.a 3,.g 1 1 2,.b 1 3,.aq 7 0 4]) (.cond (.var 7) (.seq (.region [.a 3,.c 2 0]) .ret) .skip)))) (.kill [2,3,6,7])) (.region [.m 5 1,.c 5 0])))
def It:bM:=⟨2,8,.seq (.region [.e 2 0]) (.seq (.seq (.region [.a 0,.ak 4 0,.e 5 0]) (.seq (.block 0 (.loop [2,3,6,7] Fk)) (.kill [0,1,2,3,4,5,6,7]))) (.seq (.region [.e 2 (-1)]) .ret)),[.tmp 2]⟩
theorem F5:aB Tryz.prog Tryz.f177 2 [0,1,4,5,7,8,9,16] [] true ([[2,3,6,7]],[[2,3,6,7],[0,1,2,3,4,5,6,7]])=some It:=by kernel_rfl
theorem Ph:Tryz.prog.funcs[177]?=some Tryz.f177:=by kernel_rfl
def Fj:MC:=.seq (.region [.w 7 6 5]) (.seq (.cond (.var 7) .skip (.exit 0)) (.seq (.seq (.block 1 (.seq (.region [.H 1 4 6,.b 1 0,.c 3 1]) (.seq (.region [.a 3,.a 2,.bb 8 0 1]) (.cond (.var 8) (.seq (.region [.a 3,.c 1 0]) .ret) .skip)))) (.kill [0,1,3,7,8])) (.region [.m 6 1,.c 6 0])))
def Is:bM:=⟨1,9,.seq (.region [.e 1 0]) (.seq (.region [.e 2 0]) (.seq (.seq (.region [.T 4 0,.R 5 4,.e 6 0]) (.seq (.block 0 (.loop [0,1,3,7,8] Fj)) (.kill [0,1,3,4,5,6,7,8]))) (.seq (.region [.a 2,.c 1 0]) .ret))),[.tmp 1]⟩
theorem F4:aB Tryz.prog Tryz.f181 1 [0,2,3,5,6,7,8,9,14] [] true ([[0,1,3,7,8]],[[0,1,3,7,8],[0,1,3,4,5,6,7,8]])=some Is:=by kernel_rfl
theorem Pg:Tryz.prog.funcs[181]?=some Tryz.f181:=by kernel_rfl
def Fi:MC:=.seq (.region [.w 10 9 8]) (.seq (.cond (.var 10) .skip (.exit 0)) (.seq (.seq (.block 1 (.seq (.region [.a 9,.H 1 7 9,.b 1 1,.c 3 0,.c 4 2]) (.seq (.seq (.region [.a 3,.a 1,.B 1,.dc 11 0 2]) (.cond (.var 11) (.seq (.region [.e 2 1]) .ret) .skip)) (.seq (.region [.a 1,.a 3,.g 1 0 1,.b 1 2,.c 5 3]) (.seq (.region [.a 4,.a 5,.q 138 0 1,.c 6 2]) (.seq (.region [.a 6,.ct 12 0 0]) (.cond (.var 12) (.seq (.region [.a 6,.c 2 0]) .ret) .skip))))))) (.kill [2,3,4,5,6,10,11,12,13])) (.region [.m 9 1,.c 9 0])))
def Ir:bM:=⟨2,14,.seq (.region [.e 2 0]) (.seq (.seq (.region [.T 7 0,.R 8 7,.e 9 0]) (.seq (.block 0 (.loop [2,3,4,5,6,10,11,12,13] Fi)) (.kill [2,3,4,5,6,7,8,9,10,11,12,13]))) (.seq (.seq (.region [.a 0,.B 0,.a 1,.B 2,.Z 13 1 3]) (.cond (.var 13) (.seq (.region [.e 2 (-1)]) .ret) .skip)) (.seq (.region [.e 2 0]) .ret))),[.tmp 2]⟩
theorem F3:aB Tryz.prog Tryz.f182 2 [0,1,4,5,6,7,8,9,10,11,12,19,28,35] [] true ([[2,3,4,5,6,10,11,12,13]],[[2,3,4,5,6,10,11,12,13],[2,3,4,5,6,7,8,9,10,11,12,13]])=some Ir:=by kernel_rfl
theorem Pf:Tryz.prog.funcs[182]?=some Tryz.f182:=by kernel_rfl
def gh:MC:=.seq (.region [.w 7 6 5]) (.seq (.cond (.var 7) .skip (.exit 0)) (.seq (.seq (.block 1 (.seq (.region [.H 1 4 6,.b 1 0,.c 3 1]) (.seq (.seq (.region [.a 2,.P 0 0,.h 1,.x 2 2,.x 3 2,.bf 3 4 2,.i 2 5,.h 6,.x 0 7,.x 2 7,.qt (.call (.tmp 8) [.tmp 9]) 7,.ab 10 7,.bs 8 7 11]) (.cond (.var 8) .ret .skip)) (.seq (.seq (.region [.a 2,.a 3,.bo 9 0 1]) (.cond (.var 9) (.region [.e 2 (-1)]) .skip)) (.seq (.region [.a 0,.a 3,.ah 0 1,.S 10 2]) (.cond (.var 10) .ret .skip)))))) (.kill [1,3,7,8,9,10,11])) (.region [.m 6 1,.c 6 0])))
def AP:bM:=⟨2,12,.seq (.region [.d 5 1,.b 1 0,.c 2 1]) (.seq (.seq (.region [.d 4 1,.am 4 1 0,.R 5 4,.e 6 0]) (.seq (.block 0 (.loop [1,3,7,8,9,10,11] gh)) (.kill [1,3,4,5,6,7,8,9,10,11]))) (.seq (.region [.a 2,.an 11 0 0]) (.cond (.var 11) (.region [.a 0,.a 2,.ah 0 1]) .skip))),[]⟩
def gR:List Nat:=[1,3,7,8,9,10,11]
abbrev jq (v0 v2 v4 v5 v6:AV):List AV:=[v0,.undef,v2,.undef,v4,v5,v6,.undef,.undef,.undef,.undef,.undef]
theorem qM {d7:AV}:clear gR [v0,d1,v2,d3,v4,v5,v6,d7,d8,d9,d10,d11]=jq v0 v2 v4 v5 v6:=rfl
theorem ye {k:List KC} {d7:AV} (h:cc (evC E fuel gh) gR fuel (jq v0 v2 v4 v5 v6) A=some o) :
  run E fuel (.code (.loop [1,3,7,8,9,10,11] gh) :: k) [v0,d1,v2,d3,v4,v5,v6,d7,d8,d9,d10,d11] A=after E fuel k o:=aV gR _ _ (by rw [qM]; exact h)
theorem F2:aB Tryz.prog Tryz.f183 2 [0,1,3,5,9,10,11,12,27,30,34,37] [] true ([[1,3,7,8,9,10,11]],[[1,3,7,8,9,10,11],[1,3,4,5,6,7,8,9,10,11]])=some AP:=by kernel_rfl
theorem Pe:Tryz.prog.funcs[183]?=some Tryz.f183:=by kernel_rfl
namespace Sh
abbrev GS:Nat->Option (List AV):=fun _=>none
def M88:aI:=fun args=>evP (ai GS []) 50 Qw 4 args
theorem ul:an Tryz.prog GS 88 M88:=an.of_ev (E:=ai GS []) (ag aw) rfl at88 J7 4 fun _ _ h=>⟨50,h⟩
def Qr:aD:=fun _=>bp (ai GS []) 50 ID
theorem xg:ak Tryz.prog GS 159 Qr:=(aM (E:=ai GS []) (ag aw) rfl Ps Gf aW.nil).y
def Rd:aI:=fun args=>evP (ai GS []) 50 IB 4 args
theorem DI:an Tryz.prog GS 161 Rd:=an.of_ev (E:=ai GS []) (ag aw) rfl Pp Gd 4 fun _ _ h=>⟨50,h⟩
def JD:List (FuncId × aD):=[(161,aG 4 Rd)]
def Ra:aI:=fun args=>evP (ai GS JD) 50 It 4 args
theorem DB:an Tryz.prog GS 177 Ra:=an.of_ev (E:=ai GS JD) (ag (ae (ak.of_pure DI 4) aw)) rfl Ph F5 4 fun _ _ h=>⟨50,h⟩
def JI:List (FuncId × aD):=[(177,aG 4 Ra)]
def Re:aI:=fun args=>evP (ai GS JI) 50 IC 4 args
theorem DJ:an Tryz.prog GS 160 Re:=an.of_ev (E:=ai GS JI) (ag (ae (ak.of_pure DB 4) aw)) rfl Pq Ge 4 fun _ _ h=>⟨50,h⟩
def JT:List (FuncId × aD):=[(160,aG 4 Re)]
def Rj:aI:=fun args=>evP (ai GS JT) 50 IP 4 args
theorem DY:an Tryz.prog GS 122 Rj:=an.of_ev (E:=ai GS JT) (ag (ae (ak.of_pure DJ 4) aw)) rfl PG Gt 4 fun _ _ h=>⟨50,h⟩
def JU:List (FuncId × aD):=[(159,Qr)]
def Rv:aD:=fun _=>bp (ai GS JU) 50 IQ
theorem DZ:ak Tryz.prog GS 121 Rv:=(aM (E:=ai GS JU) (ag (ae xg aw)) rfl PH Gu aW.nil).y
def JS:List (FuncId × aD):=[(159,Qr)]
def Ru:aD:=fun _=>bp (ai GS JS) 50 Z5
theorem DX:ak Tryz.prog GS 123 Ru:=(aM (E:=ai GS JS) (ag (ae xg aw)) rfl PF Gs aW.nil).y
def JG:List (FuncId × aD):=[(88,aG 4 M88)]
def Rb:aI:=fun args=>evP (ai GS JG) 50 Iz 4 args
theorem DG:an Tryz.prog GS 163 Rb:=an.of_ev (E:=ai GS JG) (ag (ae (ak.of_pure ul 4) aw)) rfl Pn Gb 4 fun _ _ h=>⟨50,h⟩
def JO:List (FuncId × aD):=[(88,aG 4 M88),(163,aG 4 Rb)]
def Rg:aI:=fun args=>evP (ai GS JO) 50 IK 4 args
theorem DT:an Tryz.prog GS 127 Rg:=an.of_ev (E:=ai GS JO) (ag (ae (ak.of_pure ul 4) (ae (ak.of_pure DG 4) aw))) rfl PA Gn 4 fun _ _ h=>⟨50,h⟩
def JP:List (FuncId × aD):=[(127,aG 4 Rg)]
def Rh:aI:=fun args=>evP (ai GS JP) 50 IL 4 args
theorem DU:an Tryz.prog GS 126 Rh:=an.of_ev (E:=ai GS JP) (ag (ae (ak.of_pure DT 4) aw)) rfl PC Gp 4 fun _ _ h=>⟨50,h⟩
def JH:List (FuncId × aD):=[(126,aG 4 Rh)]
def Rc:aI:=fun args=>evP (ai GS JH) 50 IA 4 args
theorem DH:an Tryz.prog GS 162 Rc:=an.of_ev (E:=ai GS JH) (ag (ae (ak.of_pure DU 4) aw)) rfl Po Gc 4 fun _ _ h=>⟨50,h⟩
def JQ:List (FuncId × aD):=[(162,aG 4 Rc)]
def Ri:aI:=fun args=>evP (ai GS JQ) 50 IM 4 args
theorem DV:an Tryz.prog GS 125 Ri:=an.of_ev (E:=ai GS JQ) (ag (ae (ak.of_pure DH 4) aw)) rfl PD Gq 4 fun _ _ h=>⟨50,h⟩
def JR:List (FuncId × aD):=[(88,aG 4 M88)]
def Rt:aD:=fun _=>bp (ai GS JR) 50 IN
theorem DW:ak Tryz.prog GS 124 Rt:=(aM (E:=ai GS JR) (ag (ae (ak.of_pure ul 4) aw)) rfl PE Gr aW.nil).y
def JM:List (FuncId × aD):=[(124,Rt)]
def Rr:aD:=fun _=>bp (ai GS JM) 50 II
theorem DR:ak Tryz.prog GS 129 Rr:=(aM (E:=ai GS JM) (ag (ae DW aw)) rfl Py Gl aW.nil).y
def JF:List (FuncId × aD):=[(129,Rr)]
def Rq:aD:=fun _=>bp (ai GS JF) 50 Iy
theorem DF:ak Tryz.prog GS 164 Rq:=(aM (E:=ai GS JF) (ag (ae DR aw)) rfl Pm Ga aW.nil).y
def JN:List (FuncId × aD):=[(164,Rq)]
def Rs:aD:=fun _=>bp (ai GS JN) 50 IJ
theorem DS:ak Tryz.prog GS 128 Rs:=(aM (E:=ai GS JN) (ag (ae DF aw)) rfl Pz Gm aW.nil).y
def QO:List (FuncId × aD):=[(88,aG 4 M88),(125,aG 4 Ri),(128,Rs)]
def M74:aI:=fun args=>evP (ai GS QO) 50 Qx 4 args
theorem HK:an Tryz.prog GS 74 M74:=an.of_ev (E:=ai GS QO) (ag (ae (ak.of_pure ul 4) (ae (ak.of_pure DV 4) (ae DS aw)))) rfl at74 J9 4 fun _ _ h=>⟨50,h⟩
def QP:List (FuncId × aD):=[(74,aG 4 M74),(121,Rv),(122,aG 4 Rj),(123,Ru)]
def M73:aI:=fun args=>evP (ai GS QP) 50 Qy 4 args
theorem HL:an Tryz.prog GS 73 M73:=an.of_ev (E:=ai GS QP) (ag (ae (ak.of_pure HK 4) (ae DZ (ae (ak.of_pure DY 4) (ae DX aw))))) rfl at73 Ka 4 fun _ _ h=>⟨50,h⟩
def gz:List (FuncId × aD):=[(73,aG 4 M73)]
def M27:aI:=fun args=>evF (ai GS gz) 50 wt 4 args
theorem Dw:bs Tryz.prog GS 27 M27:=bs.of_ev (E:=ai GS gz) (ag (ae (ak.of_pure HL 4) aw)) rfl KR sg 4 (fun _ _ h=>⟨50,h⟩)
def HG:AV:=.agg [.int .i64 10,.int .i64 20,.int .i64 1,.int .i64 5,.int .i64 2,.int .i64 29]
def pl6:AV:=.agg [.int .i64 0,.int .i64 1,.int .i64 5,.fs 6 [HG],.nilS]
def zSc:AV:=.agg [.nilS,.nilS,.int .i64 0,.int .i64 0,.int .i64 0]
theorem Qm:M27 [pl6]=some (.tup [zSc,.bool true]):=by kernel_rfl
end Sh
namespace Sh
def G8:aI:=fun args=>evP (ai GS []) 0 IY 1 args
theorem qg:an Tryz.prog GS 112 G8:=an.of_ev (E:=ai GS []) (ag aw) rfl PQ GE 1 fun _ _ h=>⟨0,h⟩
def Rn:aI:=fun args=>evP (ai GS []) 0 IZ 1 args
theorem Ec:an Tryz.prog GS 111 Rn:=an.of_ev (E:=ai GS []) (ag aw) rfl PR GF 1 fun _ _ h=>⟨0,h⟩
def Rf:aI:=fun args=>evP (ai GS [(112,aG 4 G8)]) 50 IF 1 args
theorem DN:an Tryz.prog GS 155 Rf:=an.of_ev (E:=ai GS [(112,aG 4 G8)]) (ag (ae (ak.of_pure qg 4) aw)) rfl Pv Gi 1 fun _ _ h=>⟨50,h⟩
def Rm:aI:=fun args=>evP (ai GS [(112,aG 4 G8)]) 50 IU 1 args
theorem D8:an Tryz.prog GS 116 Rm:=an.of_ev (E:=ai GS [(112,aG 4 G8)]) (ag (ae (ak.of_pure qg 4) aw)) rfl PM Gz 1 fun _ _ h=>⟨50,h⟩
def Rk:aI:=fun args=>evP (ai GS []) 50 IT 1 args
theorem D7:an Tryz.prog GS 117 Rk:=an.of_ev (E:=ai GS []) (ag aw) rfl PL Gy 1 fun _ _ h=>⟨50,h⟩
def bv (i:Int) (next:AV):AV:=.agg [.int .i64 1,.fs 1 [.int .i64 i],.int .i64 10,.int .i64 20,next,.int .i64 (-1),.int .i64 0]
def bV:AV:=.agg [.int .i64 2,.int .i64 5,.fs 7 [bv 0 (.fs 1 [.int .i64 1]),bv 1 (.fs 1 [.int .i64 2]),bv 2 .nilS],.fs 3 [.agg [.int .i64 0,.int .i64 2,.int .i64 13]]]
def JX:List (FuncId × aD):=[(112,aG 4 G8),(155,aG 4 Rf)]
def Qo:aI:=fun args=>evP (ai GS JX) 50 IV 1 args
theorem D9:an Tryz.prog GS 115 Qo:=an.of_ev (E:=ai GS JX) (ag (ae (ak.of_pure qg 4) (ae (ak.of_pure DN 4) aw))) rfl PN GA 1 fun _ _ h=>⟨50,h⟩
def Qt:aD:=fun _=>bp (ai GS [(115,aG 4 Qo)]) 0 IW
theorem Ea:ak Tryz.prog GS 114 Qt:=(aM (E:=ai GS [(115,aG 4 Qo)]) (ag (ae (ak.of_pure D9 4) aw)) rfl PO GB aW.nil).y
def Qs:aD:=fun _=>bp (ai GS [(114,Qt)]) 50 IG
theorem DO:ak Tryz.prog GS 154 Qs:=(aM (E:=ai GS [(114,Qt)]) (ag (ae Ea aw)) rfl Pw Gj aW.nil).y
def Rw:aD:=fun _=>bp (ai GS [(154,Qs)]) 50 IX
theorem Eb:ak Tryz.prog GS 113 Rw:=(aM (E:=ai GS [(154,Qs)]) (ag (ae DO aw)) rfl PP GD aW.nil).y
def QQ:List (FuncId × aD):=[(111,aG 4 Rn),(112,aG 4 G8),(113,Rw),(116,aG 4 Rm),(117,aG 4 Rk)]
def M71:aI:=fun args=>evP (ai GS QQ) 50 Qz 1 args
theorem BP:an Tryz.prog GS 71 M71:=an.of_ev (E:=ai GS QQ) (ag (ae (ak.of_pure Ec 4) (ae (ak.of_pure qg 4) (ae Eb (ae (ak.of_pure D8 4) (ae (ak.of_pure D7 4) aw)))))) rfl at71 Kc 1 fun _ _ h=>⟨50,h⟩
theorem Ql:M71 [bV]=some (.bool true):=by kernel_rfl
def M63:aI:=fun args=>evF (ai GS []) 0 LM 4 args
theorem Dt:bs Tryz.prog GS 63 M63:=bs.of_ev (E:=ai GS []) (ag aw) rfl Q1 CG 4 (fun _ _ h=>⟨0,h⟩)
def Qq:aD:=fun _=>bp (ai GS []) 0 Iw
theorem DE:ak Tryz.prog GS 173 Qq:=(aM (E:=ai GS []) (ag aw) rfl Pl F9 aW.nil).y
def Qu:aD:=fun _=>bp (ai GS [(173,Qq)]) 50 I2
theorem Ed:ak Tryz.prog GS 101 Qu:=(aM (E:=ai GS [(173,Qq)]) (ag (ae DE aw)) rfl PS GG aW.nil).y
def H61:aD:=fun _=>bp (ai GS [(101,Qu)]) 50 QA
theorem HR:ak Tryz.prog GS 61 H61:=(aM (E:=ai GS [(101,Qu)]) (ag (ae Ed aw)) rfl at61 Ki aW.nil).y
def JL:List (FuncId × aD):=[(61,H61),(71,aG 4 M71)]
def Mo:aI:=fun args=>evP (ai GS JL) 50 IE 1 args
theorem DM:an Tryz.prog GS 156 Mo:=an.of_ev (E:=ai GS JL) (ag (ae HR (ae (ak.of_pure BP 4) aw))) rfl Pu Gh 1 fun _ _ h=>⟨50,h⟩
theorem C6:Mo [bV,.fs 1 [.int .i64 0,.int .i64 2]]=some (.bool true):=by kernel_rfl
def Mp:aI:=fun args=>evP (ai GS []) 50 IH 1 args
theorem xh:an Tryz.prog GS 138 Mp:=an.of_ev (E:=ai GS []) (ag aw) rfl Px Gk 1 fun _ _ h=>⟨50,h⟩
def Q9:aI:=fun args=>evP (ai GS []) 50 Is 1 args
theorem DA:an Tryz.prog GS 181 Q9:=an.of_ev (E:=ai GS []) (ag aw) rfl Pg F4 1 fun _ _ h=>⟨50,h⟩
def Q8:aI:=fun args=>evP (ai GS [(138,aG 4 Mp)]) 50 Ir 1 args
theorem Dz:an Tryz.prog GS 182 Q8:=an.of_ev (E:=ai GS [(138,aG 4 Mp)]) (ag (ae (ak.of_pure xh 4) aw)) rfl Pf F3 1 fun _ _ h=>⟨50,h⟩
def JE:List (FuncId × aD):=[(138,aG 4 Mp),(181,aG 4 Q9),(182,aG 4 Q8)]
def Mn:aI:=fun args=>evP (ai GS JE) 50 Iv 1 args
theorem xe:an Tryz.prog GS 174 Mn:=an.of_ev (E:=ai GS JE) (ag (ae (ak.of_pure xh 4) (ae (ak.of_pure DA 4) (ae (ak.of_pure Dz 4) aw)))) rfl Pk F8 1 fun _ _ h=>⟨50,h⟩
def Rp:aD:=fun _=>bp (ai GS []) 0 Iu
theorem DC:ak Tryz.prog GS 176 Rp:=(aM (E:=ai GS []) (ag aw) rfl Pi F6 aW.nil).y
def Dc:aD:=fun hd=>bp (dl GS [] hd) 50 AP
theorem Dy:ak Tryz.prog GS 183 Dc:=bX aw Pe F2
end Sh
end Go.Proofs.YtfkcoekicjjndaaGreat
