import Derived.Test.YtfkcoekicjjndaaGreatVC06
import Derived.WalkKit
import Derived.Deep.LoopGhost
import Derived.Lib.Walk
import Derived.Lib.SliceRun
import Derived.Deep.RegionLaw
import Derived.Shelf.RegionOpenPlain
import Derived.Laws.IdiomCopy
import Derived.KernelRfl
import Derived.Below
set_option maxRecDepth 100000
set_option maxHeartbeats 4000000
noncomputable section
namespace Go.Proofs.YtfkcoekicjjndaaGreat
variable {A X:ac} {i j k n bi n0 r:Nat} {a rdv tv b v chv:AV} {es:List AV} {rd xs:List Int} {e:Ent} {free:Int} {Hd:ac->List Int->ac} {g:Bool}
namespace Tr
open Go
open Cy (GC aP bj aE bc cJ lvM lvT)
open Clu (aU aZ ay chA bg be cf bE cE cS ej dO cG pM jj)
def Mc:MC:=.seq (.region [.a 12,.A 0 1,.c 13 1]) (.seq (.region [.a 1,.a 13,.g 1 0 1,.b 1 2,.e 14 0,.c 15 3]) (.seq (.seq (.region [.a 9,.a 13,.qn (.lookup 1 true (.int .i64 0) (.tmp 0) (.tmp 1)),.h 2,.n 3 0,.n 3 1,.c 16 4,.c 17 5]) (.seq (.region [.T 28 17]) (.cond (.var 28) (.region [.a 16,.a 10,.d 0 4,.b 1 2,.a 13,.g 2 3 4,.l 0 5,.b 1 6,.v 1 7,.c 14 0,.c 15 8]) .skip))) (.seq (.region [.a 8,.a 14,.a 11,.t 2 1,.a 15,.Q 1 3 4,.a 11,.t 6 1,.a 14,.a 15,.d 0 4,.b 1 10,.a 13,.g 2 11 12,.l 1 13,.b 1 14,.v 9 15,.b1 16,.Q 7 8 17,.df 5 18,.ah 0 19]) (.region [.a 9,.a 12,.a 11,.t 2 1,.b5 0 1 3]))))
theorem pJ:dz=.seq (.region [.w 26 25 24]) (.seq (.cond (.var 26) .skip (.exit 0)) (.seq (.seq (.block 1 (.seq (.region [.a 25,.H 1 23 25,.b 1 1,.c 11 0,.c 12 2]) (.seq (.seq (.region [.a 11,.aa 27 0 0]) (.cond (.var 27) (.region [.a 8,.a 2,.d 3 4,.b 1 2,.v 1 3,.a3 4,.cx 5,.ah 0 6]) (.region [.a 8,.a 11,.a 11,.t 2 1,.a 10,.k 5 4,.a 3,.a 11,.A 7 1,.g 1 6 8,.b 1 9,.a 12,.O 65 5 10 11,.v 4 12,.Q 1 3 13,.cx 14,.ah 0 15]))) Mc))) (.kill [0,5,6,11,12,13,14,15,16,17,18,19,20,21,22,26,27,28,29,30,31,32,33])) (.region [.m 25 1,.c 25 0]))):=rfl
def tK:List (FuncId × aD):=[(110,H60),(65,aG 4 M41),(66,aG 4 M42),(17,Cy.H14)]
@[simp] theorem ND:aH tK 110=some H60:=rfl
@[simp] theorem NG:aH tK 65=some (aG 4 M41):=rfl
@[simp] theorem NF:aH tK 66=some (aG 4 M42):=rfl
@[simp] theorem NE:aH tK 17=some Cy.H14:=rfl
theorem Ev:∀f M,aH tK f=some M->ak Tryz.prog GC f M:=ae HS (ae (ak.of_pure nB 4) (ae (ak.of_pure pq 4) (ae Cy.lG aw)))
theorem pu34:aW (ai GC tK) [65]:=by
 first | exact aW.nil | (repeat (first | exact aW.nil | refine aW.cons (M:=_) rfl ?_))
def H34:aD:=fun _=>bp (ai GC tK) 300 vU
theorem uv:ak Tryz.prog GC 70 H34:=(aM (ag Ev) rfl Mk vl pu34).y
abbrev s34 (n0:Nat) (rdv:AV) (free:Int) (ov:AV) (W:Int) (m i:Nat):List AV:=
 gw rdv (.int .i64 free) ov (.ptr n0 0 0) (.ptr (n0+1) 0 0) (.func (.func 110) [] [.ptr (n0+1) 0 0]) (.map (n0+2)) (.int .i64 W) ov (.int .i64 (m:Int)) (.int .i64 (i:Int))
def a1F (T:aU) (rd:List Int) (a:Nat->Option Nat) (i k:Nat):bc:=⟨((fG T rd a k).1:Int),(i:Int)+1,(fG T rd a k).2,0⟩
def a2F (T:aU) (rd:List Int) (a:Nat->Option Nat) (i k:Nat):bc:=⟨(i:Int)+1,((fG T rd a k).1:Int),-((fG T rd a k).2+syT T k),0⟩
section
variable {A:ac} {T:aU} {chv chF rdv:AV} {rd:List Int} {free:Int} {L:List bc} {kvs:List (Int × Int)} {a:Nat->Option Nat}
theorem ME (hT:Tl A T chv chF) (hv:aZ T) (hr:cK A 1 rdv (ax rd)) (hrd:∀k,-1<=rd.getD k 0/\rd.getD k 0<=500000) (hrl:rd.length=T.ch.length) {i:Nat} (hk:k<T.ch.length) (hi:i<=100) (hkv:∀k:Nat,lk k kvs=(a k).map fun p=>(p:Int)) (hL:L.length<=500) (hLne:L≠[])
  (v0 v2 v3 v5 v6 _v8 v13 v14 v15 v16 v17 v18 v19 v20 v21 v22 v23 v24 v25 v26 v27 v28 v29 v30 v31 v32 v33:AV) :
  ∃e13 e14 e15 e16 e17 e28,∀K,run (ai GC tK) 300 (.code Mc :: K) [v0,rdv,v2,v3,.ptr A.length 0 0,v5,v6,.ptr (A.length+1) 0 0,.func (.func 110) [] [.ptr (A.length+1) 0 0],.map (A.length+2),.int .i64 (wT T),.int .i64 (i:Int),.int .i64 ((k:Int)+1),v13,v14,v15,v16,v17,v18,v19,v20,v21,v22,v23,v24,v25,v26,v27,v28,v29,v30,v31,v32,v33] (A++XA A.length (ay T chv) L kvs) =
   run (ai GC tK) 300 K [v0,rdv,v2,v3,.ptr A.length 0 0,v5,v6,.ptr (A.length+1) 0 0,.func (.func 110) [] [.ptr (A.length+1) 0 0],.map (A.length+2),.int .i64 (wT T),.int .i64 (i:Int),.int .i64 ((k:Int)+1),e13,e14,e15,e16,e17,v18,v19,v20,v21,v22,v23,v24,v25,v26,v27,e28,v29,v30,v31,v32,v33] (A++XA A.length (ay T chv) (L++[a1F T rd a i k,a2F T rd a i k]) (kvU ((k:Int)+1) ((i:Int)+1) kvs)):=by
 have hw:=dD hv
 have hc:=eA hv k
 obtain ⟨pr,hpr⟩:=hr.int (B:=A++XA A.length (ay T chv) L kvs) (cu A _) (i:=k) (by omega) .i64
 have hrk:rd[k]'(by omega)=rd.getD k 0:=by rw [RC,RD (by omega)]; rfl
 rw [hrk] at hpr
 obtain ⟨r1,r2⟩:=hpr
 obtain ⟨p,q,hpq⟩:=hT.ix hk
 have hrk:=hrd k
 have t0:=fun L kvs=>sR (A:=A) (T:=T) (L:=L) (kvs:=kvs) hT.h.form
 have g1:=Fh (xa2 (A:=A) (tv:=ay T chv) (L:=L) (kvs:=kvs)) (k:Int)
 rw [hkv k] at g1
 have u1:=fun L=>HA (A:=A) (tv:=ay T chv) (L:=L) (kvs:=kvs) ((k:Int)+1) ((i:Int)+1)
 have b1:aq .sub (.int .i64 ((k:Int)+1)) (.int .i64 1)=some (.int .i64 (k:Int)):=by
  have:=cf (a:=(k:Int)+1) (b:=1) (by have:=hv.2.2.2.1; omega)
  rw [this,show (k:Int)+1-1=k by omega]
 have b2:aq .add (.int .i64 (i:Int)) (.int .i64 1)=some (.int .i64 ((i:Int)+1)):=be (by omega)
 have b3:aq .add (.int .i64 (wT T)) (.int .i64 (tmT T k))=some (.int .i64 (wT T+tmT T k)):=be (by omega)
 have hcall:=C8 (A:=A) (tv:=ay T chv) (L:=L) (kvs:=kvs) (fun _ _ _=>none) (xs:=[a1F T rd a i k,a2F T rd a i k]) (by simp) (fun h=>absurd h hLne) (by simp; omega)
 have hc1:=hpq (XA A.length (ay T chv) L kvs)
 obtain ⟨i1,f0,l0,f1,l1⟩:=hc1
 obtain ⟨_,g3,g4,_,_⟩:=t0 L kvs
 cases hak:a k with
 | none=>
  rw [hak] at g1
  have es:fG T rd a k=(0,rd.getD k 0):=by unfold fG; rw [hak]
  have b4:aq .add (.int .i64 (rd.getD k 0)) (.int .i64 (syT T k))=some (.int .i64 (rd.getD k 0+syT T k)):=be (by omega)
  have b5:rU .neg (.int .i64 (rd.getD k 0+syT T k))=some (.int .i64 (-(rd.getD k 0+syT T k))):=ej (by omega)
  refine ⟨.int .i64 (k:Int),.int .i64 0,.int .i64 (rd.getD k 0),.int .i64 0,.bool false,.bool false,fun K=>?_⟩
  have hcall:H60 (fun _ _ _=>none) [.fs 4 [.agg [.int .i64 0,.int .i64 ((i:Int)+1),.int .i64 (rd.getD k 0),.int .i64 0],.agg [.int .i64 ((i:Int)+1),.int .i64 0,.int .i64 (-(rd.getD k 0+syT T k)),.int .i64 0]],.ptr (A.length+1) 0 0] (A++XA A.length (ay T chv) L kvs)=some (.tup [],A++XA A.length (ay T chv) (L++[a1F T rd a i k,a2F T rd a i k]) kvs):=by
   have e1:a1F T rd a i k=⟨0,(i:Int)+1,rd.getD k 0,0⟩:=by unfold a1F; rw [es]; rfl
   have e2:a2F T rd a i k=⟨(i:Int)+1,0,-(rd.getD k 0+syT T k),0⟩:=by unfold a2F; rw [es]; rfl
   rw [e1,e2] at hcall ⊢
   exact hcall
  have u1:=u1 (L++[a1F T rd a i k,a2F T rd a i k])
  generalize L++[a1F T rd a i k,a2F T rd a i k]=L2 at *
  generalize kvU ((k:Int)+1) ((i:Int)+1) kvs=kv2 at *
  generalize A++XA A.length (ay T chv) L kvs=B0 at *
  generalize A++XA A.length (ay T chv) L2 kvs=B1 at *
  generalize A++XA A.length (ay T chv) L2 kv2=B2 at *
  generalize rd.getD k 0+syT T k=z1 at *
  generalize rd.getD k 0=z0 at *
  generalize -z1=z2 at *
  generalize (k:Int)+1=K1 at *
  generalize (i:Int)+1=I1 at *
  generalize hsl:bk 4 [.agg [.int .i64 0,.int .i64 I1,.int .i64 z0,.int .i64 0],.agg [.int .i64 I1,.int .i64 0,.int .i64 z2,.int .i64 0]]=sl at *
  have hsl':sl=some (.fs 4 [.agg [.int .i64 0,.int .i64 I1,.int .i64 z0,.int .i64 0],.agg [.int .i64 I1,.int .i64 0,.int .i64 z2,.int .i64 0]]):=by rw [<-hsl]; rfl
  rw [hsl'] at hsl
  simp [Mc,r1,r2,g1,g3,g4,i1,f1,l1,b1,b2,b4,b5,hcall,hsl,u1,-aq,-af,-aa,-au,-bk,-rU,-cm,-bz]
 | some pp=>
  rw [hak] at g1
  have g1:cm true (.int .i64 0) (A++XA A.length (ay T chv) L kvs) (.map (A.length+2)) (.int .i64 (k:Int))=some (.tup [.int .i64 (pp:Int),.bool true]):=g1
  have es:fG T rd a k=(pp,wT T+tmT T k):=by unfold fG; rw [hak]
  have b4:aq .add (.int .i64 (wT T+tmT T k)) (.int .i64 (syT T k))=some (.int .i64 (wT T+tmT T k+syT T k)):=be (by omega)
  have b5:rU .neg (.int .i64 (wT T+tmT T k+syT T k))=some (.int .i64 (-(wT T+tmT T k+syT T k))):=ej (by omega)
  refine ⟨.int .i64 (k:Int),.int .i64 (pp:Int),.int .i64 (wT T+tmT T k),.int .i64 (pp:Int),.bool true,.bool true,fun K=>?_⟩
  have hcall:H60 (fun _ _ _=>none) [.fs 4 [.agg [.int .i64 (pp:Int),.int .i64 ((i:Int)+1),.int .i64 (wT T+tmT T k),.int .i64 0],.agg [.int .i64 ((i:Int)+1),.int .i64 (pp:Int),.int .i64 (-(wT T+tmT T k+syT T k)),.int .i64 0]],.ptr (A.length+1) 0 0] (A++XA A.length (ay T chv) L kvs)=some (.tup [],A++XA A.length (ay T chv) (L++[a1F T rd a i k,a2F T rd a i k]) kvs):=by
   have e1:a1F T rd a i k=⟨(pp:Int),(i:Int)+1,wT T+tmT T k,0⟩:=by unfold a1F; rw [es]
   have e2:a2F T rd a i k=⟨(i:Int)+1,(pp:Int),-(wT T+tmT T k+syT T k),0⟩:=by unfold a2F; rw [es]
   rw [e1,e2] at hcall ⊢
   exact hcall
  have u1:=u1 (L++[a1F T rd a i k,a2F T rd a i k])
  generalize L++[a1F T rd a i k,a2F T rd a i k]=L2 at *
  generalize kvU ((k:Int)+1) ((i:Int)+1) kvs=kv2 at *
  generalize A++XA A.length (ay T chv) L kvs=B0 at *
  generalize A++XA A.length (ay T chv) L2 kvs=B1 at *
  generalize A++XA A.length (ay T chv) L2 kv2=B2 at *
  generalize rd.getD k 0=zr at *
  generalize wT T+tmT T k+syT T k=z1 at *
  generalize wT T+tmT T k=z0 at *
  generalize wT T=zw at *
  generalize tmT T k=zt at *
  generalize -z1=z2 at *
  generalize (k:Int)+1=K1 at *
  generalize (i:Int)+1=I1 at *
  generalize (pp:Int)=P1 at *
  have hsl:bk 4 [.agg [.int .i64 P1,.int .i64 I1,.int .i64 z0,.int .i64 0],.agg [.int .i64 I1,.int .i64 P1,.int .i64 z2,.int .i64 0]]=some (.fs 4 [.agg [.int .i64 P1,.int .i64 I1,.int .i64 z0,.int .i64 0],.agg [.int .i64 I1,.int .i64 P1,.int .i64 z2,.int .i64 0]]):=rfl
  simp [Mc,r1,r2,g1,g3,g4,i1,f0,f1,l0,l1,b1,b2,b3,b4,b5,hcall,hsl,u1,-aq,-af,-aa,-au,-bk,-rU,-cm,-bz]
end
end Tr
namespace Tr
open Go
open Cy (GC aP bj aE bc cJ lvM lvT)
open Clu (aU aZ ay chA bg be cf bE cE cS ej dO cG pM jj)
section
variable {A:ac} {T:aU} {chv chF rdv ov:AV} {rd o:List Int} {free:Int} {L:List bc} {kvs:List (Int × Int)} {a:Nat->Option Nat}
theorem th (hT:Tl A T chv chF) (hS:Sit T rd free) (hr:cK A 1 rdv (ax rd)) (ho:cK A 1 ov (ax o)) {i:Nat} (hi:i<o.length) (hol:o.length<=100) (hok:o[i]=(k:Int)+1) (hk:k<T.ch.length) {last:Int} (hlast:i≠0->o.getD (i-1) 0=last) (hlb : -1000<=last/\last<=1000)
  (hkv:∀k:Nat,lk k kvs=(a k).map fun p=>(p:Int)) (hL:L.length=3*i) :
  run (ai GC tK) 300 [.code dz] (s34 A.length rdv free ov (wT T) o.length i) (A++XA A.length (ay T chv) L kvs) =
   some (.normal (s34 A.length rdv free ov (wT T) o.length (i+1)) (A++XA A.length (ay T chv) (L++[hdT T free i last ((k:Int)+1)]++[a1F T rd a i k,a2F T rd a i k]) (kvU ((k:Int)+1) ((i:Int)+1) kvs))):=by
 unfold s34
 have hv:=hS.1.1
 have hw:=dD hv
 have hfr:=hS.2.2.1
 obtain ⟨e13,e14,e15,e16,e17,e28,hs⟩:=ME (A:=A) (L:=L++[hdT T free i last ((k:Int)+1)]) (kvs:=kvs) (a:=a) hT hv hr (xA hS) hS.2.1 (i:=i) hk (by omega) hkv (by simp; omega) (by simp)
  .undef (.int .i64 free) ov .undef .undef (.func (.func 110) [] [.ptr (A.length+1) 0 0]) .undef .undef .undef .undef .undef .undef .undef .undef .undef .undef ov (.int .i64 (o.length:Int)) (.int .i64 (i:Int)) (.bool true) (.bool (decide (i=0))) .undef .undef .undef .undef .undef .undef
 obtain ⟨po,hpo1,hpo2⟩:=ho.int (B:=A++XA A.length (ay T chv) L kvs) (cu A _) hi .i64
 rw [hok] at hpo2
 have b0:=bC i o.length .i64
 rw [RJ hi] at b0
 have b1:=bh i (by omega)
 have hbE:=bE (i:Int) 0
 have hbE:aq .eql (.int .i64 (i:Int)) (.int .i64 0)=some (.bool (decide (i=0))):=by
  rw [hbE]; congr 2; exact TQ.2 (by omega)
 obtain ⟨g1,g3,g4,g5,g6⟩:=sR (A:=A) (T:=T) (L:=L) (kvs:=kvs) hT.h.form
 have hcall:=C8 (A:=A) (tv:=ay T chv) (L:=L) (kvs:=kvs) (fun _ _ _=>none) (xs:=[hdT T free i last ((k:Int)+1)]) (by simp) (fun _=>rfl) (by simp; omega)
 by_cases h0:i=0
 ·rw [RJ h0] at hbE hs
  have ehd:hdT T free i last ((k:Int)+1)=⟨0,1,free+T.travel,0⟩:=by unfold hdT; rw [RL h0]
  rw [ehd] at hcall hs ⊢
  have b2:aq .add (.int .i64 free) (.int .i64 T.travel)=some (.int .i64 (free+T.travel)):=be (by omega)
  generalize L++[(⟨0,1,free+T.travel,0⟩:bc)]=L1 at *
  generalize L1++[a1F T rd a i k,a2F T rd a i k]=L2 at *
  generalize kvU ((k:Int)+1) ((i:Int)+1) kvs=kv2 at *
  obtain ⟨i1,hi1⟩:∃i1:Nat,i1=i+1:=⟨_,rfl⟩
  rw [<-hi1] at b1 ⊢
  generalize A++XA A.length (ay T chv) L kvs=B0 at *
  generalize A++XA A.length (ay T chv) L1 kvs=B1 at *
  generalize A++XA A.length (ay T chv) L2 kv2=B2 at *
  have hcall:H60 (fun _ _ _=>none) [.fs 4 [.agg [.int .i64 0,.int .i64 1,.int .i64 (free+T.travel),.int .i64 0]],.ptr (A.length+1) 0 0] B0=some (.tup [],B1):=hcall
  generalize free+T.travel=z1 at *
  generalize (k:Int)+1=K1 at *
  generalize (i:Int)=I0 at *
  generalize (i1:Int)=I1 at *
  have hsl:bk 4 [.agg [.int .i64 0,.int .i64 1,.int .i64 z1,.int .i64 0]]=some (.fs 4 [.agg [.int .i64 0,.int .i64 1,.int .i64 z1,.int .i64 0]]):=rfl
  rw [pJ]
  simp [hpo1,hpo2,b0,b1,b2,hbE,g5,g6,hcall,hsl,hs,-aq,-af,-aa,-au,-bk]
 ·rw [RH h0] at hbE hs
  have ehd:hdT T free i last ((k:Int)+1)=⟨(i:Int),(i:Int)+1,wT T+btw T last ((k:Int)+1),0⟩:=by unfold hdT; rw [RN h0]
  rw [ehd] at hcall hs ⊢
  have m:=vA (T:=T) chF last ((k:Int)+1) hlb
  have hf:=hT.fz (XA A.length (ay T chv) L kvs)
  have hbt:=fk hv last ((k:Int)+1)
  obtain ⟨pl,hpl1,hpl2⟩:=ho.int (B:=A++XA A.length (ay T chv) L kvs) (cu A _) (i:=i-1) (by omega) .i64
  have hlo:o[i-1]'(by omega)=last:=by
   rw [<-hlast h0,RC,RD (by omega)]; rfl
  rw [hlo] at hpl2
  have b3:aq .sub (.int .i64 (i:Int)) (.int .i64 1)=some (.int .i64 ((i-1:Nat):Int)):=by
   rw [cf (by omega),show ((i-1:Nat):Int)=(i:Int)-1 by omega]
  have b2:aq .add (.int .i64 (wT T)) (.int .i64 (btw T last ((k:Int)+1)))=some (.int .i64 (wT T+btw T last ((k:Int)+1))):=be (by omega)
  have b4:aq .add (.int .i64 (i:Int)) (.int .i64 1)=some (.int .i64 ((i:Int)+1)):=be (by omega)
  generalize L++[(⟨(i:Int),(i:Int)+1,wT T+btw T last ((k:Int)+1),0⟩:bc)]=L1 at *
  generalize L1++[a1F T rd a i k,a2F T rd a i k]=L2 at *
  generalize kvU ((k:Int)+1) ((i:Int)+1) kvs=kv2 at *
  obtain ⟨i1,hi1⟩:∃i1:Nat,i1=i+1:=⟨_,rfl⟩
  have hi1':(i:Int)+1=(i1:Int):=by omega
  rw [<-hi1] at b1 ⊢
  generalize A++XA A.length (ay T chv) L kvs=B0 at *
  generalize A++XA A.length (ay T chv) L1 kvs=B1 at *
  generalize A++XA A.length (ay T chv) L2 kv2=B2 at *
  have hcall:H60 (fun _ _ _=>none) [.fs 4 [.agg [.int .i64 (i:Int),.int .i64 ((i:Int)+1),.int .i64 (wT T+btw T last ((k:Int)+1)),.int .i64 0]],.ptr (A.length+1) 0 0] B0=some (.tup [],B1):=hcall
  rw [hi1'] at hcall b4
  generalize wT T+btw T last ((k:Int)+1)=z1 at *
  generalize btw T last ((k:Int)+1)=zb at *
  generalize wT T=zw at *
  generalize ay T chv=tv at *
  generalize ay T chF=tF at *
  generalize (k:Int)+1=K1 at *
  generalize ((i-1:Nat):Int)=J at *
  generalize (i:Int)=I0 at *
  generalize (i1:Int)=I1 at *
  have hsl:bk 4 [.agg [.int .i64 I0,.int .i64 I1,.int .i64 z1,.int .i64 0]]=some (.fs 4 [.agg [.int .i64 I0,.int .i64 I1,.int .i64 z1,.int .i64 0]]):=rfl
  rw [pJ]
  simp [hpo1,hpo2,hpl1,hpl2,b0,b1,b2,b3,hbE,g1,m,hf,hcall,hsl,hs,aP,-aq,-af,-aa,-au,-bk,-frz]
def Cj:Nat->List (Int × Int)->List Int->List (Int × Int)
 | _,kvs,[]=>kvs
 | i,kvs,t :: r=>Cj (i+1) (kvU t ((i:Int)+1) kvs) r
theorem I8 (hT:Tl A T chv chF) (hS:Sit T rd free) (hr:cK A 1 rdv (ax rd)) (ho:cK A 1 ov (ax o)) (hol:o.length<=100) (hob:∀t∈o,1<=t/\t<=T.ch.length):∀(c i:Nat) (last:Int) (L:List bc) (kvs:List (Int × Int)) (a:Nat->Option Nat) (m:Nat),i+c=o.length->(i≠0->o.getD (i-1) 0=last)->(-1000<=last/\last<=1000) ->
  (∀k:Nat,lk k kvs=(a k).map fun p=>(p:Int))->L.length=3*i->c<m ->
  cc (evC (ai GC tK) 300 dz) dr m (s34 A.length rdv free ov (wT T) o.length i) (A++XA A.length (ay T chv) L kvs) =
   some (.exit 0 ((s34 A.length rdv free ov (wT T) o.length o.length).set 26 (.bool false)) (A++XA A.length (ay T chv) (L++fY T rd free i last a (o.drop i)) (Cj i kvs (o.drop i)))):=by
 intro c
 induction c with
 | zero=>
  intro i last L kvs a m hi _ _ _ _ hm
  obtain ⟨m,rfl⟩:∃j,m=j+1:=⟨m-1,by omega⟩
  obtain rfl:i=o.length:=by omega
  rw [TP]
  simp only [fY,Cj,Sm]
  have b0:=bC o.length o.length .i64
  rw [RH (by omega)] at b0
  rw [aO,oA]
  simp [dz,b0,-aq]
 | succ c ih=>
  intro i last L kvs a m hi h1 h2 h3 h4 hm
  obtain ⟨m,rfl⟩:∃j,m=j+1:=⟨m-1,by omega⟩
  have hil:i<o.length:=by omega
  have hb:=hob _ (RM hil)
  obtain ⟨k,hk⟩:∃k:Nat,o[i]=(k:Int)+1:=⟨(o[i]-1).toNat,by omega⟩
  have hr34:=th (a:=a) hT hS hr ho hil hol hk (by omega) h1 h2 h3 h4
  rw [aO,oA,hr34]
  have:=ih (i+1) ((k:Int)+1) (L++[hdT T free i last ((k:Int)+1)]++[a1F T rd a i k,a2F T rd a i k]) (kvU ((k:Int)+1) ((i:Int)+1) kvs) (upd a (k+1) (i+1)) m (by omega) (fun _=>by
   rw [Nat.add_sub_cancel,RC,RD hil,hk]; rfl) (by have:=hS.1.1.2.2.2.1; omega) (fun j=>by
   rw [Ca]
   unfold upd
   by_cases hj:j=k+1
   ·subst hj; rw [RL (by push_cast; rfl),RL rfl]; simp
   ·rw [RN (by omega),RN hj]; exact h3 j) (by simp; omega) (by omega)
  refine this.trans ?_
  have e1:((k:Int)+1-1).toNat=k:=by omega
  have e2:((k:Int)+1).toNat=k+1:=by omega
  rw [SM hil,hk]
  simp only [fY,Cj,e1,e2]
  congr 4
  simp [a1F,a2F]
end
end Tr
namespace Tr
open Go
open Cy (GC aP bj aE bc cJ lvM lvT)
open Clu (aU aZ ay chA bg be cf bE cE cS ej dO cG pM jj)
def OA (l:List cY):ac:=List.replicate l.length .dead++[.row 2 false (l.map bn)]
theorem zP (D:ac) (l:List cY) (t:cY) (hl:l.length<=1000):cg 2 16 (D++OA l) (.sl (D.length+l.length) 0 l.length) (.fs 2 [bn t])=some (.sl (D.length+(l.length+1)) 0 (l.length+1),D++OA (l++[t])):=by
 have h:(D++OA l)[D.length+l.length]?=some (.row 2 false (l.map bn)):=by
  rw [a8]
  unfold OA
  rw [RS (by simp)]
  simp
 have e:(D++OA l).length=D.length+(l.length+1):=by simp [OA]
 have e2:(D++OA l).set (D.length+l.length) .dead++[Ent.row 2 false ((l.map bn).take l.length++[bn t])]=D++OA (l++[t]):=by
  rw [R9 _ _ (by omega),Sp]
  unfold OA
  rw [R9 _ _ (by simp)]
  simp only [Tw,TY,SL,RX,R8,Tg,ST,SH,List.map_nil]
  rw [List.replicate_succ',RX]
  congr 3
  have:l.length=(l.map bn).length:=by simp
  rw [this,Sj]
 simp only [cg,dc,h,Tg,R2]
 rw [RL ⟨trivial,by omega,by omega,by omega⟩,e,e2]
theorem xI (X:Nat->Int):∀(o:List Int) (i j:Nat),(h:j<o.length)->(mkX X i o)[j]?=some (o[j],X (i+j+1))
 | t :: r,i,0,_=>rfl
 | t :: r,i,j+1,h=>by
  have:=xI X r (i+1) j (by simpa using h)
  simp only [mkX,Tj,this,List.getElem_cons_succ]
  rw [show i+1+j+1=i+(j+1)+1 by omega]
section
variable {A:ac} {T:aU} {chv chF rdv ov:AV} {rd o:List Int} {free:Int}
theorem FA {D:ac} {ov sv:AV} {o st:List Int} (ho:∀X,cK (D++X) 1 ov (ax o)) (hs:SlA 1 (ax st) sv) (hsl:st.length=o.length+1) (hol:o.length<=100):∀(c j m:Nat),j+c=o.length->c<m ->
  cc (evC (ai GC tK) 300 lN) iA m (nu sv (.sl (D.length+j) 0 j) ov (.int .i64 (o.length:Int)) (.int .i64 (j:Int))) (D++OA ((mkX (fun k=>st.getD k 0) 0 o).take j)) =
   some (.exit 2 ((nu sv (.sl (D.length+o.length) 0 o.length) ov (.int .i64 (o.length:Int)) (.int .i64 (o.length:Int))).set 32 (.bool false)) (D++OA (mkX (fun k=>st.getD k 0) 0 o))):=by
 intro c
 induction c with
 | zero=>
  intro j m hj hm
  obtain ⟨m,rfl⟩:∃j,m=j+1:=⟨m-1,by omega⟩
  obtain rfl:j=o.length:=by omega
  have b0:=bC o.length o.length .i64
  rw [RH (by omega)] at b0
  have e:(mkX (fun k=>st.getD k 0) 0 o).take o.length=mkX (fun k=>st.getD k 0) 0 o:=RW (by rw [qq]; exact RT _)
  rw [e,aO,y8]
  simp [lN,b0,-aq]
 | succ c ih=>
  intro j m hj hm
  obtain ⟨m,rfl⟩:∃j,m=j+1:=⟨m-1,by omega⟩
  have hjl:j<o.length:=by omega
  have b0:=bC j o.length .i64
  rw [RJ hjl] at b0
  have b1:=bh j (by omega)
  obtain ⟨po,h1,h2⟩:=(ho (OA ((mkX (fun k=>st.getD k 0) 0 o).take j))).int (B:=D++OA ((mkX (fun k=>st.getD k 0) 0 o).take j)) (fun _ _=>rfl) hjl .i64
  have h3:=hs.int (A:=D++OA ((mkX (fun k=>st.getD k 0) 0 o).take j)) _ _ (RD (show j+1<st.length by omega)) .i64
  have ht:=xI (fun k=>st.getD k 0) o 0 j hjl
  have hX:st.getD (0+j+1) 0=st[j+1]'(by omega):=by rw [Tb,RC,RD (by omega)]; rfl
  rw [hX] at ht
  have htl:((mkX (fun k=>st.getD k 0) 0 o).take j).length=j:=by rw [SX,qq]; omega
  have ha:=zP D ((mkX (fun k=>st.getD k 0) 0 o).take j) (o[j],st[j+1]'(by omega)) (by omega)
  rw [htl] at ha
  have e:(mkX (fun k=>st.getD k 0) 0 o).take j++[(o[j],st[j+1]'(by omega))]=(mkX (fun k=>st.getD k 0) 0 o).take (j+1):=by
   rw [List.take_add_one,ht]; rfl
  rw [e] at ha
  have hr:=ih (j+1) m (by omega) (by omega)
  rw [aO,y8]
  have ha:cg 2 16 (D++OA ((mkX (fun k=>st.getD k 0) 0 o).take j)) (.sl (D.length+j) 0 j) (.fs 2 [.agg [.int .i64 o[j],.int .i64 (st[j+1]'(by omega))]])=_:=ha
  have hbf:bk 2 [.agg [.int .i64 o[j],.int .i64 (st[j+1]'(by omega))]]=some (.fs 2 [.agg [.int .i64 o[j],.int .i64 (st[j+1]'(by omega))]]):=rfl
  generalize D++OA ((mkX (fun k=>st.getD k 0) 0 o).take j)=B0 at *
  generalize D++OA ((mkX (fun k=>st.getD k 0) 0 o).take (j+1))=B1 at *
  generalize o[j]=oj at *
  generalize (st[j+1]'(by omega):Int)=sj at *
  obtain ⟨i1,hi1⟩:∃i1:Nat,i1=j+1:=⟨_,rfl⟩
  rw [<-hi1] at b1 h3 ha hr
  have hrun:run (ai GC tK) 300 [.code lN] (nu sv (.sl (D.length+j) 0 j) ov (.int .i64 (o.length:Int)) (.int .i64 (j:Int))) B0 =
    some (.normal (nu sv (.sl (D.length+i1) 0 i1) ov (.int .i64 (o.length:Int)) (.int .i64 (i1:Int))) B1):=by
   generalize (i1:Int)=I1 at *
   generalize (j:Int)=J at *
   generalize (o.length:Int)=M at *
   simp [lN,b0,b1,h1,h2,h3,ha,hbf,-aq,-af,-au,-bk]
  rw [hrun]
  exact hr
end
end Tr
namespace Tr
open Go
open Cy (GC aP bj aE bc cJ lvM lvT cC dH)
open Clu (aU aZ ay chA bg be cf bE cE cS ej dO cG pM jj)
theorem vt {T:aU} (hS:Sit T rd free):∀(o:List Int) (i:Nat) (last:Int) (a:Nat->Option Nat),(∀k p,a k=some p->p<=i)->i+o.length<=1000->∀x∈fY T rd free i last a o,x.inR
 | [],i,last,a,ha,hn=>fun x hx=>by cases hx
 | t :: r,i,last,a,ha,hn=>fun x hx=>by
  have hw:=dD hS.1.1
  have hb:=fk hS.1.1 last t
  have hc:=eA hS.1.1 (t-1).toNat
  have hfr:=hS.2.2.1
  have hrd:=xA hS (t-1).toNat
  have hs:(fG T rd a (t-1).toNat).1<=i /\ -1<=(fG T rd a (t-1).toNat).2/\(fG T rd a (t-1).toNat).2<=500000:=by
   unfold fG
   split
   ·rename_i p hp
    exact ⟨ha _ _ hp,by simp only; omega,by simp only; omega⟩
   ·exact ⟨TE _,by simp only; omega,by simp only; omega⟩
  obtain ⟨s1,s2,s3⟩:=hs
  simp only [Su] at hn
  simp only [fY,Sx] at hx
  unfold bc.inR inI
  rcases hx with rfl | rfl | rfl | hx
  ·unfold hdT
   split
   ·simp only; omega
   ·simp only; omega
  ·simp only; omega
  ·simp only; omega
  ·have:=vt hS r (i+1) t _ (fun k p hp=>by
    unfold upd at hp
    split at hp
    ·injection hp with hp; omega
    ·have:=ha k p hp; omega) (by omega) x hx
   unfold bc.inR inI at this
   exact this
def v34 (D:Nat) (r:Option (List cY)):AV:=match r with
 | some l=>.tup [.sl (D+l.length) 0 l.length,.bool true]
 | none=>.tup [.nilS,.bool false]
def XF (n0:Nat) (tv:AV) (T:aU) (rd:List Int) (free:Int) (o:List Int):ac:=XA n0 tv (cH T rd free o) (Cj 0 [] o)
def G34 (n0:Nat) (tv:AV) (T:aU) (rd:List Int) (free:Int) (o:List Int):ac:=XF n0 tv T rd free o++(match eh T rd free o with | some l=>OA l | none=>[])
section
variable {A:ac} {T:aU} {chv chF rdv ov:AV} {rd o:List Int} {free:Int}
theorem Ly (h:aR) (hT:Tl A T chv chF) (hS:Sit T rd free) (hr:cK A 1 rdv (ax rd)) (ho:cK A 1 ov (ax o)) (hE:Emp (b0 rd) o) :
  H34 h [ay T chv,rdv,.int .i64 free,ov] A=some (v34 (A.length+(XF A.length (ay T chv) T rd free o).length) (eh T rd free o),A++G34 A.length (ay T chv) T rd free o):=by
 have hv:=hS.1.1
 have hol:=ot hS hE
 have hob:∀t∈o,1<=t/\t<=T.ch.length:=fun t ht=>by
  have:=uc hE t ht
  rw [ey,hS.2.1] at this; exact this
 have lp:=I8 (free:=free) hT hS hr ho (by omega) hob o.length 0 (-2) [] [] (fun _=>none) 300 (by omega) (fun h=>absurd rfl h) (by omega) (fun k=>rfl) rfl (by omega)
 rw [R2,S7] at lp
 have hlo:=ho.len
 rw [aE] at hlo
 obtain ⟨tv,htv⟩:∃tv,tv=ay T chv:=⟨_,rfl⟩
 have hB0:A++[Ent.row 5 false [tv],.row 1 false [.nilS],.map []]=A++XA A.length tv [] []:=by unfold XA; rw [RL rfl]; rfl
 have bx:aY 5 tv A=some (.ptr A.length 0 0,A++[.row 5 false [tv]]):=by rw [htv]; rfl
 have bx2:aY 1 .nilS (A++[Ent.row 5 false [tv]])=some (.ptr (A.length+1) 0 0,A++[.row 5 false [tv],.row 1 false [.nilS]]):=by simp [aY,AV.solid,cellsOf]
 have ct:(cellsOf tv).length=5:=by rw [htv]; rfl
 obtain ⟨g1,_,_,_,_⟩:=sR (A:=A) (T:=T) (L:=[]) (kvs:=[]) hT.h.form
 have hf0:=hT.fz (XA A.length (ay T chv) [] [])
 have m42:=vz (T:=T) chF hv
 rw [<-htv] at lp g1 hf0 ⊢
 generalize hBe:A++XA A.length tv [] []=B0 at *
 have lp:cc (evC (ai GC tK) 300 dz) dr 300 (gw rdv (.int .i64 free) ov (.ptr A.length 0 0) (.ptr (A.length+1) 0 0) (.func (.func 110) [] [.ptr (A.length+1) 0 0]) (.map (A.length+2)) (.int .i64 (wT T)) ov (.int .i64 (o.length:Int)) (.int .i64 0)) B0 =
   some (.exit 0 ((s34 A.length rdv free ov (wT T) o.length o.length).set 26 (.bool false)) (A++XF A.length tv T rd free o)):=lp
 have hin:=vt hS o 0 (-2) (fun _=>none) (fun k p h=>by cases h) (by omega)
 have hLl:=oD T rd free o 0 (-2) (fun _=>none)
 have hfrz:∃v,af false 1 (A++XF A.length tv T rd free o) (.ptr (A.length+1) 0 0)=some v/\frz (A++XF A.length tv T rd free o) 4 v=slA 4 ((cH T rd free o).map cJ):=by
  unfold XF XA
  by_cases hL:cH T rd free o=[]
  ·rw [RL hL]
   have:(A++[Ent.row 5 false [tv],.row 1 false [.nilS],.map ((Cj 0 [] o).map kvA)])[A.length+1]?=some (.row 1 false [.nilS]):=by rw [a8]; rfl
   refine ⟨.nilS,by simp only [af,this]; rfl,?_⟩
   rw [hL]; rfl
  ·rw [RN hL]
   have h1:(A++[Ent.row 5 false [tv],.row 1 false [.sl (A.length+3) 0 (cH T rd free o).length],.map ((Cj 0 [] o).map kvA),.row 4 (decide (1<(cH T rd free o).length)) ((cH T rd free o).map cJ)])[A.length+1]?=some (.row 1 false [.sl (A.length+3) 0 (cH T rd free o).length]):=by rw [a8]; rfl
   have h3:(A++[Ent.row 5 false [tv],.row 1 false [.sl (A.length+3) 0 (cH T rd free o).length],.map ((Cj 0 [] o).map kvA),.row 4 (decide (1<(cH T rd free o).length)) ((cH T rd free o).map cJ)])[A.length+3]?=some (.row 4 (decide (1<(cH T rd free o).length)) ((cH T rd free o).map cJ)):=by rw [a8]; rfl
   refine ⟨.sl (A.length+3) 0 (cH T rd free o).length,by simp only [af,h1]; rfl,?_⟩
   have e:=dK (xs:=(cH T rd free o).map cJ) (off:=0) h3 (by rw [R2,Sj]) (fun n x hx=>by
    obtain ⟨c,_,rfl⟩:=R1.1 hx
    cases n <;> rfl) 2
   rw [RR] at e
   rw [e]
   unfold slA
   cases hm:(cH T rd free o).map cJ with
   | nil=>exact absurd (List.map_eq_nil_iff.1 hm) hL
   | cons x r=>rfl
 obtain ⟨v,hv1,hv2⟩:=hfrz
 have harcs:Cy.cw (slA 4 ((cH T rd free o).map cJ))=some (cH T rd free o):=Cy.fX (by unfold cH; rw [hLl]; omega) hin
 have hlev:=fun hh=>Cy.De hh (A:=A++XF A.length tv T rd free o) hv2 harcs ((o.length:Int)+1) 0
 have b1:aq .add (.int .i64 (o.length:Int)) (.int .i64 1)=some (.int .i64 ((o.length:Int)+1)):=be (by omega)
 unfold G34 eh
 have hDo:∀X,cK (A++XF A.length tv T rd free o++X) 1 ov (ax o):=fun X=>(ho.app _).app X
 have hDl:(A++XF A.length tv T rd free o).length=A.length+(XF A.length tv T rd free o).length:=R8
 rw [<-hDl,<-RX]
 generalize hDe:A++XF A.length tv T rd free o=D at *
 by_cases hok:(lvM ((o.length:Int)+1) (cH T rd free o) 0).2.2=true
 rotate_left
 ·rw [RN (fun h=>hok h.1)]
  rw [Bool.not_eq_true] at hok
  have hlev:∀hh,Cy.H14 hh [.int .i64 ((o.length:Int)+1),v,.int .i64 0] D=some (.tup [slA 1 (ax (lvM ((o.length:Int)+1) (cH T rd free o) 0).1),slA 1 (ax (lvM ((o.length:Int)+1) (cH T rd free o) 0).2.1),.bool false],D):=fun hh=>by rw [hlev hh]; unfold lvT; rw [hok]
  generalize slA 1 (ax (lvM ((o.length:Int)+1) (cH T rd free o) 0).1)=w1 at *
  generalize slA 1 (ax (lvM ((o.length:Int)+1) (cH T rd free o) 0).2.1)=w2 at *
  generalize (o.length:Int)+1=M1 at *
  unfold H34
  rw [aX _ _ rfl]
  simp [vU,bx,bx2,ct,hB0,g1,hf0,m42,hlo,rM lp,hv1,hlev,b1,dN,dw,v34,-aY,-af,-az,-frz,-cellsOf,-aq]
 have hR:cC ((o.length:Int)+1) (cH T rd free o) 0:=by
  unfold lvM at hok
  split at hok
  ·assumption
  ·cases hok
 obtain ⟨_,hver,_,_⟩:=dH hR hok
 obtain ⟨st,hst⟩:∃st,st=(lvM ((o.length:Int)+1) (cH T rd free o) 0).1:=⟨_,rfl⟩
 have hsl:st.length=o.length+1:=by have:=hver.2.1; rw [hst]; omega
 have hlev:∀hh,Cy.H14 hh [.int .i64 ((o.length:Int)+1),v,.int .i64 0] D=some (.tup [slA 1 (ax st),slA 1 (ax (lvM ((o.length:Int)+1) (cH T rd free o) 0).2.1),.bool true],D):=fun hh=>by rw [hlev hh]; unfold lvT; rw [hok,hst]
 rw [<-hst]
 have hx0:=(bo 1 (ax st)).int (A:=D) _ _ (RD (show 0<st.length by omega)) .i64
 have hx0:au 1 D (slA 1 (ax st)) (.int .i64 0)=some (.fp [.int .i64 st[0]]):=hx0
 have hg0:st.getD 0 0=st[0]:=by rw [RC,RD (by omega)]; rfl
 have b2:=cE (st[0]'(by omega)) 0
 have lpb:=FA (sv:=slA 1 (ax st)) hDo (bo 1 (ax st)) hsl (by omega) o.length 0 300 (by omega) (by omega)
 rw [List.take_zero] at lpb
 have mk:cr 2 16 (.agg [.int .i64 0,.int .i64 0]) D (.int .i64 0) (.int .i64 (o.length:Int))=some (.sl D.length 0 0,D++OA []):=by
  simp only [cr]
  rw [RL ⟨by omega,by omega,by omega,by omega,rfl,rfl,by omega⟩]
  rfl
 have lpb:cc (evC (ai GC tK) 300 lN) iA 300 (nu (slA 1 (ax st)) (.sl D.length 0 0) ov (.int .i64 (o.length:Int)) (.int .i64 0)) (D++OA [])=_:=lpb
 rw [hg0]
 by_cases h0:st[0]=0
 rotate_left
 ·rw [RN (fun h=>h0 h.2)]
  rw [RJ h0] at b2
  generalize slA 1 (ax st)=w1 at *
  generalize slA 1 (ax (lvM ((o.length:Int)+1) (cH T rd free o) 0).2.1)=w2 at *
  generalize (o.length:Int)+1=M1 at *
  generalize st[0]=s0 at *
  unfold H34
  rw [aX _ _ rfl]
  simp [vU,bx,bx2,ct,hB0,g1,hf0,m42,hlo,rM lp,hv1,hlev,b1,b2,hx0,dN,dw,v34,-aY,-af,-az,-frz,-cellsOf,-aq,-au]
 ·rw [RL ⟨hok,h0⟩]
  rw [RH (fun h=>h h0)] at b2
  have el:(mkX (fun j=>st.getD j 0) 0 o).length=o.length:=qq _ _ _
  simp only [v34,el]
  generalize mkX (fun j=>st.getD j 0) 0 o=l at *
  generalize slA 1 (ax st)=w1 at *
  generalize slA 1 (ax (lvM ((o.length:Int)+1) (cH T rd free o) 0).2.1)=w2 at *
  generalize (o.length:Int)+1=M1 at *
  generalize st[0]=s0 at *
  unfold H34
  rw [aX _ _ rfl]
  simp [vU,bx,bx2,ct,hB0,g1,hf0,m42,hlo,rM lp,hv1,hlev,b1,b2,hx0,mk,Jr lpb,dN,dw,-aY,-af,-az,-frz,-cellsOf,-aq,-au,-cr]
end
end Tr
namespace Tr
open Go
open Cy (GC)
theorem Dj (w:World):Calls Tryz.prog 63 #[.slice none 0 0] w fun e w'=>e=.returned (.slice none 0 0)/\w'=w:=by
 have q22:∀(w:World) (a:Option Addr) (n c n' c':Nat),(binOp .eql 40 (.slice a n c) (.slice none n' c')).run Tryz.prog w=.ok (.bool a.isNone) w:=fun w a n c n' c'=>Lib.run_eql_slice_nil w _ _ a n c n' c' Tryz.underlying40
 go_enter Tryz.func63,Tryz.ntmps63
 go_wp2
 go_ret
 exact ⟨rfl,rfl⟩
theorem Di (a:Addr) (w:World):Calls Tryz.prog 63 #[.slice (some a) 0 0] w fun e w'=>∃p o,e=.returned (.slice p 0 0)/\w'=w.alloc o:=by
 have q22:∀(w:World) (a:Option Addr) (n c n' c':Nat),(binOp .eql 40 (.slice a n c) (.slice none n' c')).run Tryz.prog w=.ok (.bool a.isNone) w:=fun w a n c n' c'=>Lib.run_eql_slice_nil w _ _ a n c n' c' Tryz.underlying40
 go_enter Tryz.func63,Tryz.ntmps63
 go_wp2
 go_ret
 exact ⟨_,_,rfl,rfl⟩
def H40:aD:=fun _h args A=>match args with
 | [.nilS]=>some (.nilS,A)
 | _=>bp (ai GC []) 0 Cy.tx args A
theorem nC:ak Tryz.prog GC 63 H40:=by
 refine ⟨Cy.lE.1,fun ys h hs args A r A' he w OK g vs hA hI hl=>?_⟩
 unfold H40 at he
 split at he
 ·injection he with he
  injection he with h1 h2
  subst h1 h2
  match vs,hl with
  | [v],hl=>
   obtain ⟨h1,_⟩:=hl
   obtain ⟨p,rfl⟩:=h1.inv_nilS
   cases p with
   | none=>
    refine (Dj w).mono ?_
    rintro e w' ⟨rfl,rfl⟩
    exact ⟨_,OK,g,rfl,.nilS _ _,hA,Ext.refl _ _ _⟩
   | some a=>
    refine (Di a w).mono ?_
    rintro e w' ⟨p,o,rfl,rfl⟩
    have hsz:(w.alloc o).heap.size=w.heap.size+1:=by show (w.heap.push o).size=_; exact Array.size_push ..
    refine ⟨_,OK,g,rfl,.nilS _ _,?_,?_⟩
    ·refine hA.keep (w':=w.alloc o) ?_ (fun b hb=>?_) OK (fun _ h=>h) (fun _ h=>.inl h) (fun b hb=>?_)
     ·omega
     ·exact heap_alloc_old w _ hb
     ·have:=hA.ok b hb
      omega
    ·exact ⟨rfl,rfl,rfl,by omega,fun b hb _=>heap_alloc_old w _ hb,g.le_refl,fun _ h=>h,fun id inc h=>.inl ⟨id,inc,h,rfl⟩,fun _ h=>.inl h,
      fun b r hb _=>(heap_alloc_old w _ (Sk.1 hb).1).trans hb,fun _ _ _ _=>rfl⟩
 ·exact Cy.lE.2 ys h hs args A r A' he w OK g vs hA hI hl
theorem G9 (h:aR) (A:ac):H40 h [.nilS] A=some (.nilS,A):=rfl
theorem Da (h:aR) (ha:cK A 1 a (ax xs)) (hne:xs≠[]) (hl:xs.length<=1000):H40 h [a] A=some (.sl (A.length+1) 0 xs.length,A++[.dead,.row 1 false (ax xs)]):=by
 have:=Cy.L9 (ai GC []) 0 ha hne hl
 unfold H40
 split
 ·rename_i hh
  injection hh with hh
  subst hh
  rcases ha with (⟨_,h⟩ | h) | ⟨id,off,gr,es,h,_⟩
  ·exact absurd (List.map_eq_nil_iff.1 h) hne
  ·cases h
  ·cases h
 ·exact this
end Tr
namespace Tr
open Go
open Cy (GC gW cZ bJ bS cq aP bj aE)
open Clu (aU aZ be cf bE)
def a9 (b:List Bool):List AV:=b.map .bool
theorem eF (b:List Bool):(a9 b).length=b.length:=by simp [a9]
def M80:aI:=fun args=>evP (ai GC []) 300 LH 1 args
theorem HI:an Tryz.prog GC 153 M80:=an.of_ev (E:=ai GC []) (ag aw) rfl at80 J8 1 fun _ _ h=>⟨300,h⟩
def isB (v x:Bool):Bool:=v == x
theorem FQ {xs:List Bool} (hb:SlA 1 (a9 xs) b) (hi:i<xs.length) (k:IntKind):au 1 A b (.int k (i:Int))=some (.fp [.bool xs[i]]):=
 hb.index1 (x:=.bool xs[i]) (by simp [a9,hi]) rfl rfl k
theorem K8 {xs:List Bool} (hb:SlA 1 (a9 xs) b) (hl:xs.length<=200) (v:Bool):M80 [b,.bool v]=some (.int .i64 (cZ (isB v) xs)):=by
 have hlen:=hb.len
 rw [eF] at hlen
 have round:∀(A:ac) (i:Nat) (hi:i<xs.length),run (ai GC []) 300 [.code kj] (lq b (.bool v) (.int .i64 (xs.length:Int)) (.int .i64 (i:Int))) A =
   if isB v xs[i]=false then some (.normal (lq b (.bool v) (.int .i64 (xs.length:Int)) (.int .i64 ((i+1:Nat):Int))) A) else some (.ret [b,.bool v,.int .i64 (i:Int),.int .i64 (i:Int),.int .i64 (xs.length:Int),.int .i64 (i:Int),.bool true,.bool true] A):=fun A i hi=>by
  have x1:=FQ hb (A:=A) hi .i64
  have b1:=bC i xs.length .i64
  rw [RJ hi] at b1
  have b3:=bh i (by omega)
  obtain ⟨i1,hi1⟩:∃i1:Nat,i1=i+1:=⟨_,rfl⟩
  rw [<-hi1] at b3 ⊢
  generalize xs[i]=x at *
  cases v <;> cases x <;> simp [kj,isB,x1,b1,b3,-aq,-au,-az]
 unfold M80
 rw [aT _ _ rfl]
 rcases cW (E:=ai GC []) (fuel:=300) (a:=kj) (mask:=ir) (fun i=>lq b (.bool v) (.int .i64 (xs.length:Int)) (.int .i64 (i:Int))) (fun _=>[]) xs.length (fun i=>¬ ∀hi:i<xs.length,isB v xs[i]=false)
  (oF:=fun i=>.ret [b,.bool v,.int .i64 (i:Int),.int .i64 (i:Int),.int .i64 (xs.length:Int),.int .i64 (i:Int),.bool true,.bool true] []) (oE:=.exit 0 ((lq b (.bool v) (.int .i64 (xs.length:Int)) (.int .i64 (xs.length:Int))).set 6 (.bool false)) [])
  (fun _=>CJ) (fun _ _ _ h=>by cases h) (fun _ _ h=>by cases h)
  (fun i hi hp=>by
   rw [round [] i hi]
   exact RL (Se.1 hp hi))
  (fun i hi hp=>by
   rw [round [] i hi]
   exact RN fun h=>hp fun _=>h)
  (by simp [kj]) (show xs.length<300 by omega) with ⟨i,hi,hp,hj,lp⟩ | ⟨hp,lp⟩
 ·have lp:cc (evC (ai GC []) 300 kj) ir 300 (lq b (.bool v) (.int .i64 (xs.length:Int)) (.int .i64 0)) []=_:=lp
  have e:cZ (isB v) xs=(i:Int):=bJ hi (by
   cases h':isB v xs[i] with
   | true=>rfl
   | false=>exact absurd (fun _=>h') hp) (fun j hj'=>Se.1 (hj j hj') (by omega))
  rw [e]
  simp [LH,hlen,Cl lp,-aq,-az]
 ·have lp:cc (evC (ai GC []) 300 kj) ir 300 (lq b (.bool v) (.int .i64 (xs.length:Int)) (.int .i64 0)) []=_:=lp
  have e:cZ (isB v) xs = -1:=bS fun i hi=>Se.1 (hp i hi) hi
  rw [e]
  simp [LH,hlen,Cl lp,-aq,-az]
def Ng:List (FuncId × aD):=[(153,aG 4 M80)]
@[simp] theorem Nf:aH Ng 153=some (aG 4 M80):=rfl
def M58:aI:=fun args=>evP (ai GC Ng) 0 MT 1 args
theorem HV:an Tryz.prog GC 108 M58:=an.of_ev (E:=ai GC Ng) (ag (ae (ak.of_pure HI 4) aw)) rfl at58 Kl 1 fun _ _ h=>⟨0,h⟩
theorem C1 {xs:List Bool} (hb:SlA 1 (a9 xs) b) (hl:xs.length<=200):M58 [b,.bool true]=some (.bool (xs.any id)):=by
 have m1:=K8 hb hl true
 have b1:=gW (cZ (isB true) xs)
 rw [cq] at b1
 have e:xs.any (isB true)=xs.any id:=by
  congr 1; funext x; cases x <;> rfl
 rw [e] at b1
 have f1:∀A n,frz A n b=b:=fun A n=>hb.frz n
 obtain ⟨z,hz⟩:∃z,z=cZ (isB true) xs:=⟨_,rfl⟩
 rw [<-hz] at m1 b1
 unfold M58
 rw [aT _ _ rfl]
 simp [MT,f1,m1,b1,bj,bP,-aq,-frz]
theorem ev59 (E:Env) (fuel:Nat) (h:cK A 1 a es) (hne:es≠[]) (hl:es.length<=1000):bp E fuel Io [a] A=some (.sl (A.length+1) 0 es.length,A++[.dead,.row 1 false es]):=by
 rw [aX _ _ rfl]
 have hb:es.length*1<=140737488355328:=by omega
 have hb':es.length<=140737488355328:=by omega
 rcases h with h | ⟨id,off,gr,rs,rfl,h1,h2⟩
 ·rcases h with ⟨_,h⟩ | rfl
  ·exact absurd h hne
  ·simp [Io,dw,aK,aS,hb']
 ·have hid:=(Rx.1 h1).1
  have h1':∀T,(A++T)[id]?=some (.row 1 gr rs):=fun T=>by rw [RE hid,h1]
  simp [Io,dw,aK,aS,h1',h2,hb']
def H59:aD:=fun _=>bp (ai GC []) 0 Io
theorem HU:ak Tryz.prog GC 109 H59:=(aM (ag aw) rfl at59 Kk aW.nil).y
theorem Lu (h:aR) {xs:List Bool} (ha:cK A 1 a (a9 xs)) (hne:xs≠[]) (hl:xs.length<=1000):H59 h [a] A=some (.sl (A.length+1) 0 xs.length,A++[.dead,.row 1 false (a9 xs)]):=by
 have:=ev59 (ai GC []) 0 ha (fun e=>hne (List.map_eq_nil_iff.1 e)) (by rw [eF]; exact hl)
 rw [eF] at this
 exact this
def clR (done:List Int):ac:=if done=[] then [] else [.dead,.row 1 false (ax done)]
def clV (n:Nat) (done:List Int):AV:=if done=[] then .nilS else .sl (n+1) 0 done.length
def apR (done:List Int) (k:Nat):ac:=if done=[] then [.row 1 false (ax [(k:Int)+1])] else [.dead,.dead,.row 1 false (ax (done++[(k:Int)+1]))]
def apV (n:Nat) (done:List Int):AV:=if done=[] then .sl n 0 1 else .sl (n+2) 0 (done.length+1)
def fB (b:List Bool) (done:List Int) (k:Nat):ac:=[.dead,.row 1 false (a9 (mvB b k))]++apR done k
def F57 (Hd:ac->List Int->ac):Nat->List Bool->List Int->ac->ac
 | 0,b,done,X=>if b.any id then X else Hd (X++clR done) done
 | d+1,b,done,X=>if b.any id then (List.range b.length).foldl (fun X k=>if oM b k then F57 Hd d (mvB b k) (done++[(k:Int)+1]) (X++fB b done k) else X) X else Hd (X++clR done) done
def jO (pb pe pf:Nat) (X Y:ac):Prop:=X.length<=Y.length/\∀j,j<X.length->j≠pb->j≠pe->j≠pf->Y[j]?=X[j]?
section
variable {pb pe pf:Nat} {X Y Z:ac}
theorem jO.refl:jO pb pe pf X X:=⟨RT _,fun _ _ _ _ _=>rfl⟩
theorem jO.trans (h:jO pb pe pf X Y) (k:jO pb pe pf Y Z):jO pb pe pf X Z:=⟨SR h.1 k.1,fun j h1 h2 h3 h4=>by rw [k.2 j (by have:=h.1; omega) h2 h3 h4,h.2 j h1 h2 h3 h4]⟩
theorem jO.app (X W:ac):jO pb pe pf X (X++W):=⟨by simp,fun j h _ _ _=>by rw [RE h]⟩
end
theorem qY {pb pe pf:Nat} (h:∀X o,jO pb pe pf X (Hd X o)):∀(d:Nat) (b:List Bool) (done:List Int) (X:ac),jO pb pe pf X (F57 Hd d b done X)
 | 0,b,done,X=>by
  unfold F57
  split
  ·exact jO.refl
  ·exact (jO.app _ _).trans (h _ _)
 | d+1,b,done,X=>by
  unfold F57
  split
  ·have:∀(l:List Nat) (X:ac),jO pb pe pf X (l.foldl (fun X k=>if oM b k then F57 Hd d (mvB b k) (done++[(k:Int)+1]) (X++fB b done k) else X) X):=by
    intro l
    induction l with
    | nil=>intro X; exact jO.refl
    | cons k l ih=>
     intro X
     rw [Sr]
     refine jO.trans ?_ (ih _)
     split
     ·exact (jO.app _ _).trans (qY h d _ _ _)
     ·exact jO.refl
   exact this _ _
  ·exact (jO.app _ _).trans (h _ _)
theorem zY (hl:∀X o,X.length<=(Hd X o).length) (h:∀X o,j<X.length->(Hd X o).set j e=Hd (X.set j e) o):∀(d:Nat) (b:List Bool) (done:List Int) (X:ac),j<X.length->X.length<=(F57 Hd d b done X).length/\(F57 Hd d b done X).set j e=F57 Hd d b done (X.set j e)
 | 0,b,done,X,hj=>by
  unfold F57
  split
  ·exact ⟨RT _,rfl⟩
  ·refine ⟨SR (by simp) (hl _ _),?_⟩
   rw [h _ _ (by simp; omega),Ti _ _ hj]
 | d+1,b,done,X,hj=>by
  unfold F57
  split
  ·have:∀(l:List Nat) (X:ac),j<X.length->X.length<=(l.foldl (fun X k=>if oM b k then F57 Hd d (mvB b k) (done++[(k:Int)+1]) (X++fB b done k) else X) X).length/\(l.foldl (fun X k=>if oM b k then F57 Hd d (mvB b k) (done++[(k:Int)+1]) (X++fB b done k) else X) X).set j e=l.foldl (fun X k=>if oM b k then F57 Hd d (mvB b k) (done++[(k:Int)+1]) (X++fB b done k) else X) (X.set j e):=by
    intro l
    induction l with
    | nil=>intro X hj; exact ⟨RT _,rfl⟩
    | cons k l ih=>
     intro X hj
     rw [Sr,Sr]
     cases hc:oM b k with
     | false=>exact ih X hj
     | true=>
      simp only [SP]
      obtain ⟨h1,h2⟩:=zY hl h d (mvB b k) (done++[(k:Int)+1]) (X++fB b done k) (by simp; omega)
      have hle:X.length<=(X++fB b done k).length:=by simp
      obtain ⟨h3,h4⟩:=ih (F57 Hd d (mvB b k) (done++[(k:Int)+1]) (X++fB b done k)) (by omega)
      refine ⟨by omega,?_⟩
      rw [h4,h2,Ti _ _ hj]
   exact this _ _ hj
  ·refine ⟨SR (by simp) (hl _ _),?_⟩
   rw [h _ _ (by simp; omega),Ti _ _ hj]
theorem ua {S:Type} {R:ac->S->Prop} {st:S->List Int->S} {E:List Int->Prop} (hW:∀X W s,R X s->R (X++W) s) (h:∀X s o,E o->R X s->R (Hd X o) (st s o)):∀(d:Nat) (b:List Bool) (done:List Int) (X:ac) (s:S),mB b<=d->(∀r,Emp b r->E (done++r))->R X s ->
  R (F57 Hd d b done X) (((vQ d b).map (done ++ ·)).foldl st s)
 | 0,b,done,X,s,hd,hE,hR=>by
  have ha:=qs b (by omega)
  unfold F57 vQ
  rw [ha]
  have:=hE [] ha
  rw [Sm] at this
  simpa using h _ s done this (hW _ _ _ hR)
 | d+1,b,done,X,s,hd,hE,hR=>by
  unfold F57 vQ
  cases ha:b.any id with
  | false=>
   have:=hE [] ha
   rw [Sm] at this
   simpa using h _ s done this (hW _ _ _ hR)
  | true=>
   simp only [SP]
   have:∀(l:List Nat) (X:ac) (s:S),(∀k∈l,k<b.length)->R X s->R (l.foldl (fun X k=>if oM b k then F57 Hd d (mvB b k) (done++[(k:Int)+1]) (X++fB b done k) else X) X)
     (((l.flatMap fun k=>if oM b k then (vQ d (mvB b k)).map (((k:Int)+1) :: ·) else []).map (done ++ ·)).foldl st s):=by
    intro l
    induction l with
    | nil=>intro X s _ hR; exact hR
    | cons k l ih=>
     intro X s hk hR
     rw [Sr,TK,ST,List.foldl_append]
     refine ih _ _ (fun j hj=>hk j (SV _ hj)) ?_
     have hkl:=hk k Ty
     cases hc:oM b k with
     | false=>simpa using hR
     | true=>
      simp only [SP,Te]
      have hm:=vV hkl hc
      have:=ua hW h d (mvB b k) (done++[(k:Int)+1]) (X++fB b done k) s (by omega) (fun r hr=>by
       rw [RX]
       exact hE _ ⟨k,rfl,hkl,hc,hr⟩) (hW _ _ _ hR)
      have e:((done++[(k:Int)+1]) ++ ·)=(fun x=>done++x) ∘ (((k:Int)+1) :: ·):=by
       funext r; simp
      rw [<-e]
      exact this
   exact this _ _ _ (fun k hk=>SD.1 hk) hR
end Tr
namespace Tr
open Go
open Cy (GC gW aP bj aE)
open Clu (aU aZ be cf bE)
section
variable {A:ac} {id:Nat} {xs:List Bool}
theorem tB (h:A[id]?=some (.row 1 g (a9 xs))) (hk:k<xs.length):af false 1 A (.ptr id k 0)=some (.bool (xs.getD k false)):=by
 have e:(a9 xs)[k]?=some (.bool (xs.getD k false)):=by
  simp [a9,RD hk]
 simp only [af,h,e]
 cases g <;> rfl
theorem sW (h:A[id]?=some (.row 1 false (a9 xs))) (hk:k<xs.length) (v:Bool):aC 1 A (.ptr id k 0) (.bool v)=some (A.set id (.row 1 false (a9 (xs.set k v)))):=by
 have e:(a9 xs)[k]?=some (.bool (xs.getD k false)):=by
  simp [a9,RD hk]
 have e2:(a9 xs).set k (.bool v)=a9 (xs.set k v):=by simp [a9]
 simp only [aC,h,e]
 rw [RL ⟨trivial,rfl,rfl,by omega⟩]
 simp only [bq,cellsOf]
 rw [<-e2]
 rfl
end
def A9:List (FuncId × aD):=[(108,aG 4 M58),(109,H59),(63,H40)]
def H57:Nat->aD
 | 0=>fun h=>bp (dl GC A9 h) 100 He
 | k+1=>fun h=>bp (dl GC ((107,H57 k) :: A9) h) 100 He
theorem xi:∀f M,aH A9 f=some M->ak Tryz.prog GC f M:=ae (ak.of_pure HV 4) (ae HU (ae nC aw))
theorem BR:∀k,ak Tryz.prog GC 107 (H57 k)
 | 0=>bX xi Q2 CH aW.nil
 | k+1=>bX (ae (BR k) xi) Q2 CH aW.nil
structure Yl (h:aR) (yv:AV) (Hd:ac->List Int->ac) (Inv:ac->Prop) (E:List Int->Prop) (pb pe pf:Nat):Prop where
 isY:∃L,yv=.func (.yield L) [] []
 run:∀X o ov,Inv X->E o->cK X 1 ov (ax o)->h yv [ov] X=some (.bool true,Hd X o)
 inv:∀X o,Inv X->E o->Inv (Hd X o)
 app:∀X W,Inv X->Inv (X++W)
 keep:∀X o,jO pb pe pf X (Hd X o)
def dE (yp fp:Nat):AV:=.func (.func 107) [] [.ptr yp 0 0,.ptr fp 0 0]
theorem yW (X:ac) (done:List Int):cK (X++clR done) 1 (clV X.length done) (ax done):=by
 unfold clR clV
 by_cases h:done=[]
 ·rw [RL h,RL h,h]; exact .inl (.inl ⟨rfl,rfl⟩)
 ·rw [RN h,RN h]
  refine .inr ⟨X.length+1,0,false,ax done,by rw [aE],by rw [a8]; rfl,?_⟩
  rw [R2,Sj]
theorem Db (h:aR) {dv:AV} {done:List Int} (hd:cK X 1 dv (ax done)) (hn:done=[]->dv=.nilS) (hl:done.length<=1000):H40 h [dv] X=some (clV X.length done,X++clR done):=by
 by_cases he:done=[]
 ·rw [hn he]
  unfold clV clR
  rw [RL he,RL he,Sm]
  exact G9 h X
 ·rw [Da h hd he hl]
  unfold clV clR
  rw [RN he,RN he]
theorem PT (X:ac) (done:List Int) (k:Nat) (hl:done.length<=1000):cg 1 8 (X++clR done) (clV X.length done) (.fs 1 [.int .i64 ((k:Int)+1)])=some (apV X.length done,X++apR done k):=by
 unfold clR clV apV apR
 by_cases h:done=[]
 ·rw [RL h,RL h,RL h,RL h,Sm]
  simp [cg,aS,ax]
 ·rw [RN h,RN h,RN h,RN h]
  have h1:(X++[Ent.dead,.row 1 false (ax done)])[X.length+1]?=some (.row 1 false (ax done)):=by rw [a8]; rfl
  have e:(X++[Ent.dead,.row 1 false (ax done)]).set (X.length+1) .dead++[Ent.row 1 false ((ax done).take done.length++[.int .i64 ((k:Int)+1)])]=X++[.dead,.dead,.row 1 false (ax (done++[(k:Int)+1]))]:=by
   rw [R9 _ _ (by omega),Sp,<-aE done,Sj]
   simp [ax]
  simp only [cg,dc,h1,Tg,R2]
  rw [RL ⟨trivial,by omega,by omega,by omega⟩,e]
  simp
section
variable {h:aR} {yv:AV} {Hd:ac->List Int->ac} {Inv:ac->Prop} {E:List Int->Prop} {pb pe pf yp fp:Nat}
theorem Cd (hy:Yl h yv Hd Inv E pb pe pf) (fs:List (FuncId × aD)) (h58:aH fs 108=some (aG 4 M58)) (h40:aH fs 63=some H40) (hI:Inv X) (h1:X[yp]?=some (.row 1 false [yv])) {b:List Bool} (hb:X[bi]?=some (.row 1 false (a9 b))) (hbl:b.length<=100) (hany:b.any id=false)
  {done:List Int} {dv:AV} (hd:cK X 1 dv (ax done)) (hn:done=[]->dv=.nilS) (hl:done.length<=1000) (hE:E done) :
  bp (dl GC fs h) 100 He [.sl bi 0 b.length,dv,.ptr yp 0 0,.ptr fp 0 0] X=some (.bool true,Hd (X++clR done) done):=by
 obtain ⟨L,rfl⟩:=hy.isY
 have hf:frz X 4 (.sl bi 0 b.length)=.fs 1 (a9 b):=by
  have:=dK (off:=0) (xs:=a9 b) hb (by rw [R2,Sj]) (fun n x hx=>by
   obtain ⟨c,_,rfl⟩:=R1.1 hx
   cases n <;> rfl) 2
  rw [eF] at this
  exact this
 have m:=C1 (xs:=b) (.inr rfl) (by omega)
 rw [hany] at m
 have l1:af false 1 X (.ptr yp 0 0)=some (.func (.yield L) [] []):=by simp only [af,h1]; rfl
 have hypl:=(Rx.1 h1).1
 have h1':(X++clR done)[yp]?=some (.row 1 false [.func (.yield L) [] []]):=by rw [cu X _ yp hypl,h1]
 have c:=fun hh=>Db hh hd hn hl
 have hr:=hy.run (X++clR done) done (clV X.length done) (hy.app _ _ hI) hE (yW X done)
 have hct:frz X 4 (.bool true)=.bool true:=rfl
 generalize clV X.length done=cv at *
 generalize X++clR done=X1 at *
 generalize Hd X1 done=X2 at *
 generalize b.length=n at *
 generalize (AV.fs 1 (a9 b))=F at *
 rw [aX _ _ rfl]
 simp [He,hf,hct,m,h58,h40,l1,c,hr,dw,h1,h1',-af,-frz]
theorem EJ (h:aR) (fs:List (FuncId × aD)) {H:aD} (h57:aH fs 107=some H) (h59:aH fs 109=some H59) (h40:aH fs 63=some H40) (h3:X[fp]?=some (.row 1 false [dE yp fp])) {b:List Bool} (hb:X[bi]?=some (.row 1 false (a9 b))) (hbl:b.length<=100)
  {done:List Int} {dv:AV} (hd:cK X 1 dv (ax done)) (hn:done=[]->dv=.nilS) (hl:done.length<=1000) {k:Nat} (hk:k<b.length) {Y:ac}
  (hr:oM b k=true->H h [.sl (X.length+1) 0 b.length,apV (X.length+2) done,.ptr yp 0 0,.ptr fp 0 0] (X++fB b done k)=some (.bool true,Y)) (hY:oM b k=false->Y=X) :
  run (dl GC fs h) 100 [.code gT] (nk (.sl bi 0 b.length) dv (.ptr fp 0 0) (.sl bi 0 b.length) (.int .i64 (b.length:Int)) (.int .i64 (k:Int))) X =
   some (.normal (nk (.sl bi 0 b.length) dv (.ptr fp 0 0) (.sl bi 0 b.length) (.int .i64 (b.length:Int)) (.int .i64 ((k+1:Nat):Int))) Y):=by
 have hfl:=(Rx.1 h3).1
 have hbil:=(Rx.1 hb).1
 have b0:=bC k b.length .i64
 rw [RJ hk] at b0
 have i1:=eH hb hk .i64
 have d1:=tB hb hk
 have b1:aq .sub (.int .i64 (b.length:Int)) (.int .i64 1)=some (.int .i64 ((b.length:Int)-1)):=cf (by omega)
 have b2:=bE (k:Int) ((b.length:Int)-1)
 have b3:=bh k (by omega)
 have ln:az (.sl bi 0 b.length)=some (.int .i64 (b.length:Int)):=rfl
 cases hc:oM b k with
 | false=>
  rw [hY hc]
  have hc':¬ (b.getD k false=true/\(k+1=b.length\/b.getD (k+1) false=false)):=fun hh=>by rw [iN.2 hh] at hc; cases hc
  cases hf:b.getD k false with
  | false=>
   rw [hf] at d1
   generalize decide ((k:Int)=(b.length:Int)-1)=q at *
   generalize (b.length:Int)-1=N1 at *
   generalize hNN:(b.length:Int)=N at *
   obtain ⟨i1',hi1'⟩:∃i1:Nat,i1=k+1:=⟨_,rfl⟩
   rw [<-hi1'] at b3 ⊢
   generalize (k:Int)=K at *
   simp [gT,b0,i1,d1,ln,b1,b2,b3,-aq,-af,-au,-az]
  | true=>
   have hne:k+1<b.length:=by
    rcases Ta (k+1) b.length with h' | h'
    ·exact h'
    ·exact absurd ⟨hf,.inl (by omega)⟩ hc'
   have hf2:b.getD (k+1) false=true:=by
    cases h':b.getD (k+1) false
    ·exact absurd ⟨hf,.inr h'⟩ hc'
    ·rfl
   have i2:=eH hb hne .i64
   have d2:=tB hb hne
   rw [hf] at d1
   rw [hf2] at d2
   rw [RH (by omega)] at b2
   generalize (b.length:Int)-1=N1 at *
   generalize hNN:(b.length:Int)=N at *
   obtain ⟨i1',hi1'⟩:∃i1:Nat,i1=k+1:=⟨_,rfl⟩
   rw [<-hi1'] at b3 i2 d2 ⊢
   generalize (k:Int)=K at *
   generalize (i1':Int)=K1 at *
   simp [gT,b0,i1,i2,d1,d2,ln,b1,b2,b3,-aq,-af,-au,-az]
 | true=>
  obtain ⟨hf,hlast⟩:=iN.1 hc
  have hr:=hr hc
  rw [hf] at d1
  have hbne:b≠[]:=fun e=>by rw [e] at hk; exact absurd hk (Ts _)
  have hbh:cK X 1 (.sl bi 0 b.length) (a9 b):=.inr ⟨bi,0,false,a9 b,by rw [eF],hb,by rw [R2,Sj]⟩
  have c59:=fun hh=>Lu hh hbh hbne (by omega)
  have r1:(X++[Ent.dead,.row 1 false (a9 b)])[X.length+1]?=some (.row 1 false (a9 b)):=by rw [a8]; rfl
  have i3:=eH (n:=b.length) r1 hk .i64
  have s1:=sW r1 hk false
  have e1:(X++[Ent.dead,.row 1 false (a9 b)]).set (X.length+1) (.row 1 false (a9 (b.set k false)))=X++[.dead,.row 1 false (a9 (b.set k false))]:=by
   rw [R9 _ _ (by omega),Sp]; rfl
  rw [e1] at s1
  have hX2l:∀c,(X++[Ent.dead,.row 1 false (a9 c)]).length=X.length+2:=fun c=>by simp
  have ld3:∀W,af false 1 (X++W) (.ptr fp 0 0)=some (dE yp fp):=fun W=>by
   have:(X++W)[fp]?=some (.row 1 false [dE yp fp]):=by rw [cu X W fp hfl,h3]
   simp only [af,this]; rfl
  have hfp:∀W,(X++W)[fp]?=some (.row 1 false [dE yp fp]):=fun W=>by rw [cu X W fp hfl,h3]
  have hd2:cK (X++[Ent.dead,.row 1 false (a9 (mvB b k))]) 1 dv (ax done):=hd.app _
  have c40:=fun hh=>Db hh hd2 hn hl
  have ap:=PT (X++[Ent.dead,.row 1 false (a9 (mvB b k))]) done k hl
  rw [hX2l] at c40 ap
  have b4:aq .add (.int .i64 (k:Int)) (.int .i64 1)=some (.int .i64 ((k:Int)+1)):=be (by omega)
  have ldX2:=ld3 [Ent.dead,.row 1 false (a9 (mvB b k))]
  have g1:=hfp [Ent.dead,.row 1 false (a9 (mvB b k))]
  have g2:=hfp ([Ent.dead,.row 1 false (a9 (mvB b k))]++clR done)
  have g3:=hfp ([Ent.dead,.row 1 false (a9 (mvB b k))]++apR done k)
  rw [<-RX] at g2 g3
  have eN:X++fB b done k=X++[Ent.dead,.row 1 false (a9 (mvB b k))]++apR done k:=by unfold fB; rw [RX]
  rw [eN] at hr
  have hsl:bk 1 [.int .i64 ((k:Int)+1)]=some (.fs 1 [.int .i64 ((k:Int)+1)]):=rfl
  have e9:((k+1:Nat):Int)=(k:Int)+1:=by push_cast; rfl
  have q1:fp≠(X++[Ent.dead,.row 1 false (a9 (mvB b k))]++clR done).length:=by simp; omega
  have q2:¬ fp∈a7 (clV (X.length+2) done):=by
   unfold clV
   split
   ·simp [a7]
   ·simp [a7]; omega
  by_cases hl1:k+1=b.length
  ·rw [RJ (by omega)] at b2
   have em:mvB b k=b.set k false:=by unfold mvB; rw [RL hl1]
   rw [<-em] at s1
   generalize a9 (mvB b k)=bm at *
   generalize X++[Ent.dead,.row 1 false bm]++apR done k=X4 at *
   generalize X++[Ent.dead,.row 1 false bm]++clR done=X3 at *
   generalize X++[Ent.dead,.row 1 false bm]=X2 at *
   generalize X++[Ent.dead,.row 1 false (a9 b)]=X1 at *
   generalize clV (X.length+2) done=cv at *
   generalize apV (X.length+2) done=av at *
   rw [e9]
   generalize (b.length:Int)-1=N1 at *
   generalize hNN:(b.length:Int)=N at *
   generalize hKK:(k:Int)+1=K1 at *
   generalize (k:Int)=K at *
   simp [gT,b0,i1,i3,d1,ln,b1,b2,b4,h57,h59,h40,c59,c40,s1,ldX2,dE,hsl,ap,hr,g1,g2,-aq,-af,-au,-az,-aC,-bk]
   exact ⟨q1,q2⟩
  ·rw [RH (by omega)] at b2
   have hne:k+1<b.length:=by omega
   have hf2:b.getD (k+1) false=false:=hlast.resolve_left hl1
   have i2:=eH hb hne .i64
   have d2:=tB hb hne
   rw [hf2] at d2
   have r2:(X++[Ent.dead,.row 1 false (a9 (b.set k false))])[X.length+1]?=some (.row 1 false (a9 (b.set k false))):=by rw [a8]; rfl
   have i4:=eH (n:=b.length) r2 hne .i64
   have s2:=sW r2 (show k+1<(b.set k false).length by simp; omega) true
   have e2:(X++[Ent.dead,.row 1 false (a9 (b.set k false))]).set (X.length+1) (.row 1 false (a9 ((b.set k false).set (k+1) true)))=X++[.dead,.row 1 false (a9 ((b.set k false).set (k+1) true))]:=by
    rw [R9 _ _ (by omega),Sp]; rfl
   have em:mvB b k=(b.set k false).set (k+1) true:=by unfold mvB; rw [RN hl1]
   rw [e2,<-em] at s2
   rw [e9] at i2 i4
   generalize a9 (mvB b k)=bm at *
   generalize X++[Ent.dead,.row 1 false bm]++apR done k=X4 at *
   generalize X++[Ent.dead,.row 1 false bm]++clR done=X3 at *
   generalize X++[Ent.dead,.row 1 false bm]=X2 at *
   generalize X++[Ent.dead,.row 1 false (a9 (b.set k false))]=Xm at *
   generalize X++[Ent.dead,.row 1 false (a9 b)]=X1 at *
   generalize clV (X.length+2) done=cv at *
   generalize apV (X.length+2) done=av at *
   rw [e9]
   generalize (b.length:Int)-1=N1 at *
   generalize hNN:(b.length:Int)=N at *
   generalize hKK:(k:Int)+1=K1 at *
   generalize (k:Int)=K at *
   simp [gT,b0,i1,i2,i3,i4,d1,d2,ln,b1,b2,b4,h57,h59,h40,c59,c40,s1,s2,ldX2,dE,hsl,ap,hr,g1,g2,-aq,-af,-au,-az,-aC,-bk]
   exact ⟨q1,q2⟩
theorem kr {Y:ac} (hk:jO pb pe pf X Y) (h:X[j]?=some e) (h1:j≠pb/\j≠pe/\j≠pf):Y[j]?=some e:=by
 rw [hk.2 j (Rx.1 h).1 h1.1 h1.2.1 h1.2.2,h]
def SlR (pb pe pf:Nat) (X:ac) (v:AV) (xs:List Int):Prop:=(v=.nilS/\xs=[])\/(xs≠[]/\∃i,v=.sl i 0 xs.length/\X[i]?=some (.row 1 false (ax xs))/\i≠pb/\i≠pe/\i≠pf)
theorem SlR.holds (h:SlR pb pe pf X v xs):cK X 1 v (ax xs)/\(xs=[]->v=.nilS):=by
 rcases h with ⟨rfl,rfl⟩ | ⟨hne,i,rfl,h1,_⟩
 ·exact ⟨.inl (.inl ⟨rfl,rfl⟩),fun _=>rfl⟩
 ·exact ⟨.inr ⟨i,0,false,ax xs,by rw [aE],h1,by rw [R2,Sj]⟩,fun e=>absurd e hne⟩
theorem SlR.keep {Y:ac} (h:SlR pb pe pf X v xs) (hk:jO pb pe pf X Y):SlR pb pe pf Y v xs:=by
 rcases h with h | ⟨hne,i,h1,h2,h3⟩
 ·exact .inl h
 ·exact .inr ⟨hne,i,h1,kr hk h2 h3,h3⟩
theorem SlR.ap (hb:pb<X.length/\pe<X.length/\pf<X.length) (done:List Int) (k:Nat):SlR pb pe pf (X++apR done k) (apV X.length done) (done++[(k:Int)+1]):=by
 refine .inr ⟨by simp,?_⟩
 unfold apR apV
 by_cases h:done=[]
 ·rw [RL h,RL h,h]
  refine ⟨X.length,rfl,?_,by omega,by omega,by omega⟩
  have:=a8 X [Ent.row 1 false (ax [(k:Int)+1])] 0
  rw [Ss] at this
  rw [this]; rfl
 ·rw [RN h,RN h]
  exact ⟨X.length+2,by simp,by rw [a8]; rfl,by omega,by omega,by omega⟩
theorem QY (hy:Yl h yv Hd Inv E pb pe pf) (hyp:yp≠pb/\yp≠pe/\yp≠pf) (hfp:fp≠pb/\fp≠pe/\fp≠pf):∀(d:Nat) (X:ac) (b:List Bool) (done:List Int) (bi:Nat) (dv:AV),Inv X->(pb<X.length/\pe<X.length/\pf<X.length)->X[yp]?=some (.row 1 false [yv])->X[fp]?=some (.row 1 false [dE yp fp])->X[bi]?=some (.row 1 false (a9 b))->(bi≠pb/\bi≠pe/\bi≠pf)->b.length<=50 ->
  SlR pb pe pf X dv done->done.length+d<=100->mB b<=d->(∀r,Emp b r->E (done++r)) ->
  H57 d h [.sl bi 0 b.length,dv,.ptr yp 0 0,.ptr fp 0 0] X=some (.bool true,F57 Hd d b done X)
 | 0,X,b,done,bi,dv,hI,hp,h1,h2,h3,h4,h5,h6,h9,h10,h11=>by
  have ha:=qs b (by omega)
  have hE:=h11 [] ha
  rw [Sm] at hE
  have:=Cd (fp:=fp) hy A9 rfl rfl hI h1 h3 (by omega) ha h6.holds.1 h6.holds.2 (by omega) hE
  unfold H57 F57
  rw [ha]
  exact this
 | d+1,X,b,done,bi,dv,hI,hp,h1,h2,h3,h4,h5,h6,h9,h10,h11=>by
  cases ha:b.any id with
  | false=>
   have hE:=h11 [] ha
   rw [Sm] at hE
   have:=Cd (fp:=fp) hy ((107,H57 d) :: A9) rfl rfl hI h1 h3 (by omega) ha h6.holds.1 h6.holds.2 (by omega) hE
   unfold H57 F57
   rw [ha]
   exact this
  | true=>
   have hInv:∀(e:Nat) (b':List Bool) (done':List Int) (X:ac),Inv X->mB b'<=e->(∀r,Emp b' r->E (done'++r))->Inv (F57 Hd e b' done' X):=fun e b' done' X hI hm hE=>by
    have:=ua (S:=Unit) (Hd:=Hd) (R:=fun X _=>Inv X) (st:=fun _ _=>()) (E:=E) (fun X W _ h=>hy.app X W h) (fun X _ o hE h=>hy.inv X o h hE) e b' done' X () hm hE hI
    exact this
   have loop:∀(c k:Nat) (Y:ac) (m:Nat),k+c=b.length->Inv Y->jO pb pe pf X Y->c<m ->
     cc (evC (dl GC ((107,H57 d) :: A9) h) 100 gT) kc m (nk (.sl bi 0 b.length) dv (.ptr fp 0 0) (.sl bi 0 b.length) (.int .i64 (b.length:Int)) (.int .i64 (k:Int))) Y =
      some (.exit 0 ((nk (.sl bi 0 b.length) dv (.ptr fp 0 0) (.sl bi 0 b.length) (.int .i64 (b.length:Int)) (.int .i64 (b.length:Int))).set 13 (.bool false))
       ((List.range' k c).foldl (fun X k=>if oM b k then F57 Hd d (mvB b k) (done++[(k:Int)+1]) (X++fB b done k) else X) Y)):=by
    intro c
    induction c with
    | zero=>
     intro k Y m hk _ _ hm
     obtain ⟨m,rfl⟩:∃j,m=j+1:=⟨m-1,by omega⟩
     obtain rfl:k=b.length:=by omega
     have b0:=bC b.length b.length .i64
     rw [RH (by omega)] at b0
     rw [aO,yX]
     simp [gT,b0,-aq]
    | succ c ih=>
     intro k Y m hk hIY hK hm
     obtain ⟨m,rfl⟩:∃j,m=j+1:=⟨m-1,by omega⟩
     have hkl:k<b.length:=by omega
     have hpY:pb<Y.length/\pe<Y.length/\pf<Y.length:=by have:=hK.1; omega
     obtain ⟨Z,hZ⟩:∃Z,Z=if oM b k then F57 Hd d (mvB b k) (done++[(k:Int)+1]) (Y++fB b done k) else Y:=⟨_,rfl⟩
     have hdY:=h6.keep hK
     have hE':oM b k=true->∀r,Emp (mvB b k) r->E (done++[(k:Int)+1]++r):=fun hc r hr=>by
      rw [RX]
      exact h11 _ ⟨k,rfl,hkl,hc,hr⟩
     have hrun:=EJ (Y:=Z) (X:=Y) (H:=H57 d) h ((107,H57 d) :: A9) rfl rfl rfl (kr hK h2 hfp) (kr hK h3 h4) (by omega) hdY.holds.1 hdY.holds.2 (by omega) hkl (fun hc=>by
      have hm':=vV hkl hc
      have hl2:(Y++[Ent.dead,.row 1 false (a9 (mvB b k))]).length=Y.length+2:=by simp
      have hap:=SlR.ap (pb:=pb) (pe:=pe) (pf:=pf) (X:=Y++[Ent.dead,.row 1 false (a9 (mvB b k))]) (by rw [hl2]; omega) done k
      rw [hl2] at hap
      have eN:Y++fB b done k=Y++[Ent.dead,.row 1 false (a9 (mvB b k))]++apR done k:=by unfold fB; rw [RX]
      have hKN:jO pb pe pf X (Y++fB b done k):=hK.trans (jO.app _ _)
      have hrow:(Y++fB b done k)[Y.length+1]?=some (.row 1 false (a9 (mvB b k))):=by rw [a8]; rfl
      have:=QY hy hyp hfp d (Y++fB b done k) (mvB b k) (done++[(k:Int)+1]) (Y.length+1) (apV (Y.length+2) done) (hy.app _ _ hIY) (by have:=hKN.1; omega) (kr hKN h1 hyp) (kr hKN h2 hfp) hrow (by omega) (by rw [qp]; exact h5) (by rw [eN]; exact hap) (by simp; omega) (by omega) (hE' hc)
      rw [qp] at this
      rw [this,hZ,hc]; rfl) (fun hc=>by rw [hZ,hc]; rfl)
     rw [aO,yX,hrun,List.range'_succ,Sr,<-hZ]
     refine ih (k+1) Z m (by omega) ?_ ?_ (by omega)
     ·rw [hZ]
      split
      ·rename_i hc
       have hm':=vV hkl hc
       exact hInv _ _ _ _ (hy.app _ _ hIY) (by omega) (hE' hc)
      ·exact hIY
     ·rw [hZ]
      refine hK.trans ?_
      split
      ·exact (jO.app _ _).trans (qY hy.keep _ _ _ _)
      ·exact jO.refl
   have lp:=loop b.length 0 X 100 (by omega) hI jO.refl (by omega)
   have hf:frz X 4 (.sl bi 0 b.length)=.fs 1 (a9 b):=by
    have:=dK (off:=0) (xs:=a9 b) h3 (by rw [R2,Sj]) (fun n x hx=>by
     obtain ⟨c,_,rfl⟩:=R1.1 hx
     cases n <;> rfl) 2
    rw [eF] at this
    exact this
   have m:=C1 (xs:=b) (.inr rfl) (by omega)
   rw [ha] at m
   have hct:frz X 4 (.bool true)=.bool true:=rfl
   have l58:aH A9 108=some (aG 4 M58):=rfl
   have ln:az (.sl bi 0 b.length)=some (.int .i64 (b.length:Int)):=rfl
   unfold F57
   rw [ha,RL rfl,List.range_eq_range']
   have lp:cc (evC (dl GC ((107,H57 d) :: A9) h) 100 gT) kc 100 (nk (.sl bi 0 b.length) dv (.ptr fp 0 0) (.sl bi 0 b.length) (.int .i64 (b.length:Int)) (.int .i64 0)) X=_:=lp
   generalize (List.range' 0 b.length).foldl (fun X k=>if oM b k then F57 Hd d (mvB b k) (done++[(k:Int)+1]) (X++fB b done k) else X) X=Y at *
   generalize b.length=n at *
   generalize (AV.fs 1 (a9 b))=F at *
   unfold H57
   rw [aX _ _ rfl]
   simp [He,hf,hct,m,l58,ln,Jn lp,dw,-af,-az,-frz]
end
end Tr
namespace Tr
open Go
open Cy (GC gW aP bj aE)
open Clu (aU aZ ay chA be cf bE cG cS)
def QU:List (FuncId × aD):=[(107,H57 10)]
@[simp] theorem Nh:aH QU 107=some (H57 10):=rfl
def H56:aD:=fun hd args A=>(bp (dl GC QU hd) 0 MU args A).map fun x=>(x.1,x.2.set A.length .dead)
theorem HW:ak Tryz.prog GC 106 H56:=(bX (ae (BR 10) aw) at56 Km aW.nil).kill
def H33:aD:=fun hd=>bp (dl GC [] hd) 0 Hg
theorem xb:ak Tryz.prog GC 69 H33:=bX aw O8 yO aW.nil
theorem Lz (h:aR) (A:ac) (i n:Nat):H33 h [.sl i 0 n] A=some (.func (.func 106) [] [.ptr A.length 0 0],A++[.row 1 false [.sl i 0 n]]):=by
 unfold H33
 rw [aX _ _ rfl]
 simp [Hg]
def A56 (A:ac) (yv:AV):ac:=A++[.row 1 false [yv],.row 1 false [dE A.length (A.length+1)]]
section
variable {h:aR} {yv:AV} {Hd:ac->List Int->ac} {Inv:ac->Prop} {E:List Int->Prop} {pb pe pf:Nat}
theorem Lv (hy:Yl h yv Hd Inv E pb pe pf) {b:List Bool} {ip:Nat} (hp:pb<A.length/\pe<A.length/\pf<A.length) (hI:Inv (A56 A yv)) (hb:A[bi]?=some (.row 1 false (a9 b))) (hbi:bi≠pb/\bi≠pe/\bi≠pf) (hip:A[ip]?=some (.row 1 false [.sl bi 0 b.length])) (hbl:b.length<=4) (hE:∀r,Emp b r->E r) :
  H56 h [yv,.ptr ip 0 0] A=some (.tup [],(F57 Hd 10 b [] (A56 A yv)).set A.length .dead):=by
 obtain ⟨L,rfl⟩:=hy.isY
 have hbl':=(Rx.1 hb).1
 have hil:=(Rx.1 hip).1
 have e1:(A56 A (.func (.yield L) [] []))[A.length]?=some (.row 1 false [.func (.yield L) [] []]):=by simp [A56]
 have e2:(A56 A (.func (.yield L) [] []))[A.length+1]?=some (.row 1 false [dE A.length (A.length+1)]):=by unfold A56; rw [a8]; rfl
 have e3:(A56 A (.func (.yield L) [] []))[bi]?=some (.row 1 false (a9 b)):=by unfold A56; rw [cu A _ bi hbl',hb]
 have e4:(A56 A (.func (.yield L) [] []))[ip]?=some (.row 1 false [.sl bi 0 b.length]):=by unfold A56; rw [cu A _ ip hil,hip]
 have hal:(A56 A (.func (.yield L) [] [])).length=A.length+2:=by simp [A56]
 have hm:=QY hy (yp:=A.length) (fp:=A.length+1) (by omega) (by omega) 10 _ b [] bi .nilS hI (by omega) e1 e2 e3 hbi (by omega) (.inl ⟨rfl,rfl⟩) (by simp) (I4 b hbl) (fun r hr=>hE r hr)
 have s1:aC 1 (A++[.row 1 false [.func (.yield L) [] []],.row 1 false [.nilF]]) (.ptr (A.length+1) 0 0) (.func (.func 107) [] [.ptr A.length 0 0,.ptr (A.length+1) 0 0])=some (A56 A (.func (.yield L) [] [])):=by
  have:(A++[Ent.row 1 false [.func (.yield L) [] []],.row 1 false [.nilF]])[A.length+1]?=some (.row 1 false [.nilF]):=by rw [a8]; rfl
  simp only [aC,this]
  simp [AV.solid,cellsOf,bq,A56,dE]
 have l1:af false 1 (A56 A (.func (.yield L) [] [])) (.ptr (A.length+1) 0 0)=some (dE A.length (A.length+1)):=by simp only [af,e2]; rfl
 have l2:af false 1 (A56 A (.func (.yield L) [] [])) (.ptr ip 0 0)=some (.sl bi 0 b.length):=by simp only [af,e4]; rfl
 generalize hX:A56 A (.func (.yield L) [] [])=X1 at *
 generalize F57 Hd 10 b [] X1=X2 at *
 generalize b.length=n at *
 unfold H56
 rw [aX _ _ rfl]
 unfold dE at l1
 simp [MU,s1,l1,l2,hm,dw,-af,-aC]
end
def bet (X:ac) (pe pf:Nat) (t:Int):Bool:=match X[pf]?,X[pe]? with
 | some (.row _ _ [.bool f]),some (.row _ _ [.int _ e])=>!f || decide (t<e)
 | _,_=>false
section
variable (T:aU) (tv:AV) (rd:List Int) (free:Int) (pb pe pf:Nat)
def HdD (X:ac) (o:List Int):ac:=
 match eh T rd free o with
 | none=>X++G34 X.length tv T rd free o
 | some l=>if bet X pe pf ((fH T rd free l).getD 0) then
   (((X++G34 X.length tv T rd free o).set pb (.row 1 false [.sl (X.length+(XF X.length tv T rd free o).length+l.length) 0 l.length])).set pe (.row 1 false [.int .i64 ((fH T rd free l).getD 0)])).set pf (.row 1 false [.bool true])
  else X++G34 X.length tv T rd free o
theorem nc (X:ac) (o:List Int):jO pb pe pf X (HdD T tv rd free pb pe pf X o):=by
 unfold HdD
 split
 ·exact jO.app _ _
 ·split
  ·refine ⟨by simp,fun j h1 h2 h3 h4=>?_⟩
   rw [RF (SO h4),RF (SO h3),RF (SO h2),RE h1]
  ·exact jO.app _ _
theorem zW (X:ac) (o:List Int):X.length<=(HdD T tv rd free pb pe pf X o).length:=(nc T tv rd free pb pe pf X o).1
theorem zV (h1:j≠pb) (h2:j≠pe) (h3:j≠pf) (X:ac) (o:List Int) (hj:j<X.length):(HdD T tv rd free pb pe pf X o).set j e=HdD T tv rd free pb pe pf (X.set j e) o:=by
 have hb:∀t,bet (X.set j e) pe pf t=bet X pe pf t:=fun t=>by
  unfold bet
  rw [RF h3,RF h2]
 have ha:∀W,(X++W).set j e=X.set j e++W:=fun W=>Ti _ _ hj
 unfold HdD
 simp only [hb,SA]
 split
 ·rw [ha]
 ·split
  ·rw [Tx _ _ (SO h3),Tx _ _ (SO h2),Tx _ _ (SO h1),ha]
  ·rw [ha]
def Rep (n0:Nat) (X:ac) (s:Option (List cY × Int)):Prop:=(pb<X.length/\pe<X.length/\pf<X.length)/\match s with
 | none=>X[pb]?=some (.row 1 false [.nilS])/\(∃e,X[pe]?=some (.row 1 false [.int .i64 e]))/\X[pf]?=some (.row 1 false [.bool false])
 | some x=>(∃i,n0<i/\X[pb]?=some (.row 1 false [.sl i 0 x.1.length])/\X[i]?=some (.row 2 false (x.1.map bn)))/\X[pe]?=some (.row 1 false [.int .i64 x.2])/\X[pf]?=some (.row 1 false [.bool true])
end
section
variable {T:aU} {tv:AV} {rd:List Int} {free:Int} {pb pe pf n0:Nat}
theorem Rep.app {s:Option (List cY × Int)} (h:Rep pb pe pf n0 X s) (W:ac):Rep pb pe pf n0 (X++W) s:=by
 obtain ⟨⟨a1,a2,a3⟩,h⟩:=h
 refine ⟨by simp; omega,?_⟩
 cases s with
 | none=>
  obtain ⟨b1,⟨e,b2⟩,b3⟩:=h
  exact ⟨by rw [cu X W _ a1,b1],⟨e,by rw [cu X W _ a2,b2]⟩,by rw [cu X W _ a3,b3]⟩
 | some x=>
  obtain ⟨⟨i,b0,b1,b2⟩,b3,b4⟩:=h
  exact ⟨⟨i,b0,by rw [cu X W _ a1,b1],by rw [cu X W _ (Rx.1 b2).1,b2]⟩,by rw [cu X W _ a2,b3],by rw [cu X W _ a3,b4]⟩
def OX (s:Option (List cY × Int)) (t:Int):Bool:=match s with
 | none=>true
 | some x=>decide (t<x.2)
theorem Rep.bet {s:Option (List cY × Int)} (h:Rep pb pe pf n0 X s) (t:Int):Tr.bet X pe pf t=OX s t:=by
 obtain ⟨_,h⟩:=h
 unfold Tr.bet
 cases s with
 | none=>
  obtain ⟨_,⟨e,b2⟩,b3⟩:=h
  rw [b2,b3]; rfl
 | some x=>
  obtain ⟨_,b3,b4⟩:=h
  rw [b3,b4]; rfl
theorem Rep.step (hne:pb≠pe/\pb≠pf/\pe≠pf) (_hp0:pb<=n0/\pe<=n0/\pf<=n0) (hn:n0<X.length) {s:Option (List cY × Int)} (h:Rep pb pe pf n0 X s) (o:List Int):Rep pb pe pf n0 (HdD T tv rd free pb pe pf X o) (ic T rd free s o):=by
 have hb:=h.bet
 have ha:=h.app (G34 X.length tv T rd free o)
 obtain ⟨⟨a1,a2,a3⟩,_⟩:=id h
 have hset:∀l,eh T rd free o=some l->Rep pb pe pf n0 ((((X++G34 X.length tv T rd free o).set pb (.row 1 false [.sl (X.length+(XF X.length tv T rd free o).length+l.length) 0 l.length])).set pe (.row 1 false [.int .i64 ((fH T rd free l).getD 0)])).set pf (.row 1 false [.bool true])) (some (l,(fH T rd free l).getD 0)):=fun l hl=>by
  have hlen:X.length<=(X++G34 X.length tv T rd free o).length:=by simp
  have hrow:(X++G34 X.length tv T rd free o)[X.length+(XF X.length tv T rd free o).length+l.length]?=some (.row 2 false (l.map bn)):=by
   rw [Tu,a8]
   unfold G34
   rw [hl,a8]
   unfold OA
   rw [RS (by simp)]
   simp
  refine ⟨by simp only [SA]; omega,⟨⟨X.length+(XF X.length tv T rd free o).length+l.length,by omega,?_,?_⟩,?_,?_⟩⟩
  ·rw [RF (SO hne.2.1),RF (SO hne.1),RO (by omega)]
  ·rw [RF (by omega),RF (by omega),RF (by omega),hrow]
  ·rw [RF (SO hne.2.2),RO (by simp only [SA]; omega)]
  ·rw [RO (by simp only [SA]; omega)]
 unfold HdD ic
 cases ht:eh T rd free o with
 | none=>exact ha
 | some l=>
  simp only [hb]
  cases s with
  | none=>exact hset l ht
  | some x=>
   by_cases hlt:(fH T rd free l).getD 0<x.2
   ·have e:OX (some x) ((fH T rd free l).getD 0)=true:=RJ hlt
    rw [RL e]
    simp only
    rw [RL hlt]; exact hset l ht
   ·have e:OX (some x) ((fH T rd free l).getD 0)=false:=RH hlt
    rw [e,RN (by decide)]
    simp only
    rw [RN hlt]; exact ha
end
end Tr
namespace Tr
open Go
open Cy (GC gW aP bj aE)
open Clu (aU aZ ay chA be cf bE cG cS)
theorem gG {id:Nat} {e:AV} (h:A[id]?=some (.row 1 false [e])) (hs:a.solid=true) (hc:cellsOf a=[a]):aC 1 A (.ptr id 0 0) a=some (A.set id (.row 1 false [a])):=by
 simp only [aC,h,Sw]
 rw [RL ⟨trivial,hs,by rw [hc]; rfl,by omega⟩]
 unfold bq
 rw [RL ⟨rfl,by rw [hc]; rfl⟩]
 rfl
theorem Tl.app {T:aU} {chF:AV} (h:Tl A T chv chF) (W:ac):Tl (A++W) T chv chF:=⟨h.h.app W,fun X=>by rw [RX]; exact h.fz _,h.sF⟩
structure Rl (A:ac) (rd:List Int) (rdv rdF:AV):Prop where
 h:cK A 1 rdv (ax rd)
 fz:∀X,frz (A++X) 4 rdv=rdF
 sF:SlA 1 (ax rd) rdF
theorem Rl.app {rdF:AV} (h:Rl A rd rdv rdF) (W:ac):Rl (A++W) rd rdv rdF:=⟨h.h.app W,fun X=>by rw [RX]; exact h.fz _,h.sF⟩
theorem Rl.of (h:cK A 1 rdv (ax rd)):∃rdF,Rl A rd rdv rdF:=by
 rcases h with h | ⟨id,off,gr,es,rfl,h1,h2⟩
 ·exact ⟨rdv,.inl h,fun X=>h.frz 4,h⟩
 ·refine ⟨.fs 1 (ax rd),.inr ⟨id,off,gr,es,rfl,h1,h2⟩,fun X=>?_,.inr rfl⟩
  have h1':(A++X)[id]?=some (.row 1 gr es):=by rw [cu A X id (Rx.1 h1).1,h1]
  exact dK h1' h2 (fun n x hx=>by
   obtain ⟨c,_,rfl⟩:=R1.1 hx
   cases n <;> rfl) 2
theorem rO {l:List cY} (h:A[i]?=some (.row 2 g (l.map bn))):frz A 4 (.sl i 0 l.length)=.fs 2 (l.map bn):=by
 have:=dK (off:=0) (xs:=l.map bn) h (by rw [R2,Sj]) (fun n x hx=>by
  obtain ⟨c,_,rfl⟩:=R1.1 hx
  cases n <;> rfl) 2
 rw [RR] at this
 exact this
structure D14 (A:ac) (tv rdv:AV) (free:Int) (Z:ac):Prop where
 pre:∃R,Z=A++R
 r0:Z[A.length]?=some (.row 5 false [tv])
 r1:Z[A.length+1]?=some (.row 1 false [rdv])
 r2:Z[A.length+2]?=some (.row 1 false [.int .i64 free])
section
variable {A Z:ac} {T:aU} {chv chF rdv rdF ov:AV} {rd o:List Int} {free:Int}
theorem D14.app (h:D14 A tv rdv free Z) (W:ac):D14 A tv rdv free (Z++W):=by
 obtain ⟨⟨R,hR⟩,h0,h1,h2⟩:=h
 exact ⟨⟨R++W,by rw [hR,RX]⟩,by rw [cu Z W _ (Rx.1 h0).1,h0],by rw [cu Z W _ (Rx.1 h1).1,h1],by rw [cu Z W _ (Rx.1 h2).1,h2]⟩
theorem D14.set (h:D14 A tv rdv free Z) (hj:A.length+2<j) (e:Ent):D14 A tv rdv free (Z.set j e):=by
 obtain ⟨⟨R,hR⟩,h0,h1,h2⟩:=h
 refine ⟨⟨R.set (j-A.length) e,by rw [hR,R9 _ _ (by omega)]⟩,?_,?_,?_⟩
 ·rw [RF (by omega)]; exact h0
 ·rw [RF (by omega)]; exact h1
 ·rw [RF (by omega)]; exact h2
theorem D14.loads {tv:AV} (h:D14 A (ay T chv) rdv free Z) (hc:(rdv=.nilS\/(∃e l,rdv=.fs e l))\/∃a b c,rdv=.sl a b c):af true 5 Z (.ptr A.length 0 0)=some (ay T chv)/\af false 1 Z (.ptr (A.length+1) 0 0)=some rdv/\af false 1 Z (.ptr (A.length+2) 0 0)=some (.int .i64 free):=by
 refine ⟨?_,?_,?_⟩
 ·simp only [af,h.r0]; rfl
 ·simp only [af,h.r1]
  rcases hc with (rfl | ⟨e,l,rfl⟩) | ⟨a,b,c,rfl⟩ <;> rfl
 ·simp only [af,h.r2]; rfl
end
def uX:List (FuncId × aD):=[(64,aG 4 M29),(57,aG 4 M30),(70,H34),(22,aG 4 M17),(69,H33),(106,H56)]
theorem nD:∀f M,aH uX f=some M->ak Tryz.prog GC f M:=ae (ak.of_pure BU 4) (ae (ak.of_pure ri 4) (ae uv (ae (ak.of_pure xf 4) (ae xb (ae HW aw)))))
section
variable {A Z:ac} {T:aU} {chv chF rdv rdF ov:AV} {rd o:List Int} {free:Int}
theorem KN (h:aR) (fs:List (FuncId × aD)) (h34:aH fs 70=some H34) (h17:aH fs 22=some (aG 4 M17)) (hT:Tl A T chv chF) (hr:Rl A rd rdv rdF) (hS:Sit T rd free) (hD:D14 A (ay T chv) rdv free Z) (ho:cK Z 1 ov (ax o)) (hE:Emp (b0 rd) o) {s:Option (List cY × Int)} (hR:Rep (A.length+4) (A.length+5) (A.length+6) n0 Z s)
  (v0 v1 v2 v3 v7 v8 v9 v10 v11 v12 v13 v14 v19 v20 v21 v22 v23 v24 v25 v26 v27 v28 v29 v30 v31 v32 v33 u34 v35 v36:AV) :
  run (dl GC fs h) 300 [.code kn] [v0,v1,v2,v3,.ptr A.length 0 0,.ptr (A.length+1) 0 0,.ptr (A.length+2) 0 0,v7,v8,v9,v10,v11,v12,v13,v14,.ptr (A.length+4) 0 0,.ptr (A.length+5) 0 0,.ptr (A.length+6) 0 0,ov,v19,v20,v21,v22,v23,v24,v25,v26,v27,v28,v29,v30,v31,v32,v33,u34,v35,v36] Z =
   some (.normal (List.replicate 37 .undef) (HdD T (ay T chv) rd free (A.length+4) (A.length+5) (A.length+6) Z o)):=by
 obtain ⟨R,hZ⟩:=hD.pre
 have hTZ:Tl Z T chv chF:=by rw [hZ]; exact hT.app R
 have hrZ:Rl Z rd rdv rdF:=by rw [hZ]; exact hr.app R
 obtain ⟨l4,l5,l6⟩:=hD.loads (tv:=ay T chv) hr.h.form
 have c34:=Ly (free:=free) (fun _ _ _=>none) hTZ hS hrZ.h ho hE
 have c34:∀hh,H34 hh [ay T chv,rdv,.int .i64 free,ov] Z=_:=fun _=>c34
 have hD1:=hD.app (G34 Z.length (ay T chv) T rd free o)
 obtain ⟨k4,k5,k6⟩:=hD1.loads (tv:=ay T chv) hr.h.form
 have f4:=hTZ.fz (G34 Z.length (ay T chv) T rd free o)
 have f5:=hrZ.fz (G34 Z.length (ay T chv) T rd free o)
 have hR1:=hR.app (G34 Z.length (ay T chv) T rd free o)
 have hsl:=gH hS
 unfold HdD
 cases ht:eh T rd free o with
 | none=>
  rw [ht] at c34
  simp only [v34] at c34
  generalize Z++G34 Z.length (ay T chv) T rd free o=Z1 at *
  generalize ay T chv=tv at *
  simp [kn,l4,l5,l6,h34,c34,-af,List.replicate]
 | some l=>
  rw [ht] at c34
  simp only [v34] at c34
  dsimp only
  have hrow:(Z++G34 Z.length (ay T chv) T rd free o)[Z.length+(XF Z.length (ay T chv) T rd free o).length+l.length]?=some (.row 2 false (l.map bn)):=by
   rw [Tu,a8]
   unfold G34
   rw [ht,a8]
   unfold OA
   rw [RS (by simp)]
   simp
  have fl:=rO hrow
  have hll:l.length<=10:=by
   obtain ⟨X,_,rfl,_⟩:=fJ hS hE ht
   rw [qq]; exact ot hS hE
  have m17:=zT hTZ.sF (by have:=hS.1.1.2.2.2.1; omega) hr.sF (by omega) free (lv:=.fs 2 (l.map bn)) (l:=l) (.inr rfl) (by omega)
  unfold Hp at m17
  have hb:=hR.bet ((fH T rd free l).getD 0)
  generalize Z.length+(XF Z.length (ay T chv) T rd free o).length+l.length=li at *
  generalize hZ1:Z++G34 Z.length (ay T chv) T rd free o=Z1 at *
  generalize (fH T rd free l).getD 0=t at *
  generalize (fH T rd free l).isSome=tb at *
  generalize hgF:(AV.fs 2 (l.map bn))=lF at *
  generalize hgn:l.length=ln at *
  generalize ay T chv=tv at *
  generalize ay T chF=tF at *
  obtain ⟨⟨p1,p2,p3⟩,hR1⟩:=hR1
  cases s with
  | none=>
   obtain ⟨q1,⟨e,q2⟩,q3⟩:=hR1
   have lf:af false 1 Z1 (.ptr (A.length+6) 0 0)=some (.bool false):=by simp only [af,q3]; rfl
   have s1:=gG q1 (a:=.sl li 0 ln) rfl rfl
   have s2:=gG (A:=Z1.set (A.length+4) (.row 1 false [.sl li 0 ln])) (id:=A.length+5) (e:=.int .i64 e) (a:=.int .i64 t) (by rw [RF (by omega)]; exact q2) rfl rfl
   have s3:=gG (A:=(Z1.set (A.length+4) (.row 1 false [.sl li 0 ln])).set (A.length+5) (.row 1 false [.int .i64 t])) (id:=A.length+6) (e:=.bool false) (a:=.bool true) (by rw [RF (by omega),RF (by omega)]; exact q3) rfl rfl
   have hb:bet Z (A.length+5) (A.length+6) t=true:=hb
   simp only [hb,SP]
   generalize ((Z1.set (A.length+4) (.row 1 false [.sl li 0 ln])).set (A.length+5) (.row 1 false [.int .i64 t])).set (A.length+6) (.row 1 false [.bool true])=Z4 at *
   generalize (Z1.set (A.length+4) (.row 1 false [.sl li 0 ln])).set (A.length+5) (.row 1 false [.int .i64 t])=Z3 at *
   generalize Z1.set (A.length+4) (.row 1 false [.sl li 0 ln])=Z2 at *
   simp [kn,l4,l5,l6,k4,k5,k6,f4,f5,fl,aP,h34,h17,c34,m17,lf,s1,s2,s3,bP,-af,-aC,-frz,List.replicate]
  | some x=>
   obtain ⟨⟨i,_,q1,_⟩,q2,q3⟩:=hR1
   have lf:af false 1 Z1 (.ptr (A.length+6) 0 0)=some (.bool true):=by simp only [af,q3]; rfl
   have le:af false 1 Z1 (.ptr (A.length+5) 0 0)=some (.int .i64 x.2):=by simp only [af,q2]; rfl
   have b1:=cG t x.2
   have s1:=gG q1 (a:=.sl li 0 ln) rfl rfl
   have s2:=gG (A:=Z1.set (A.length+4) (.row 1 false [.sl li 0 ln])) (id:=A.length+5) (e:=.int .i64 x.2) (a:=.int .i64 t) (by rw [RF (by omega)]; exact q2) rfl rfl
   have s3:=gG (A:=(Z1.set (A.length+4) (.row 1 false [.sl li 0 ln])).set (A.length+5) (.row 1 false [.int .i64 t])) (id:=A.length+6) (e:=.bool true) (a:=.bool true) (by rw [RF (by omega),RF (by omega)]; exact q3) rfl rfl
   have hb:bet Z (A.length+5) (A.length+6) t=decide (t<x.2):=hb
   simp only [hb]
   generalize ((Z1.set (A.length+4) (.row 1 false [.sl li 0 ln])).set (A.length+5) (.row 1 false [.int .i64 t])).set (A.length+6) (.row 1 false [.bool true])=Z4 at *
   generalize (Z1.set (A.length+4) (.row 1 false [.sl li 0 ln])).set (A.length+5) (.row 1 false [.int .i64 t])=Z3 at *
   generalize Z1.set (A.length+4) (.row 1 false [.sl li 0 ln])=Z2 at *
   generalize decide (t<x.2)=q at *
   generalize x.2=x2 at *
   cases q with
   | true=>simp [kn,l4,l5,l6,k4,k5,k6,f4,f5,fl,aP,h34,h17,c34,m17,lf,le,b1,s1,s2,s3,bP,-af,-aC,-frz,-aq,List.replicate]
   | false=>simp [kn,l4,l5,l6,k4,k5,k6,f4,f5,fl,aP,h34,h17,c34,m17,lf,le,b1,bP,-af,-aC,-frz,-aq,List.replicate]
end
end Tr
namespace Tr
open Go
open Cy (GC gW aP bj aE)
open Clu (aU aZ ay chA be cf bE cG cS)
theorem qa {E:Env} {fuel l:Nat} {r:Loop} {σ σ1 σ2 σ3 args:List AV} {ps:List Nat} {asg bdy:MC} {h:aR} {A2 A3:ac} (h1:A[n0]?=some (.loop r 0)) (h2:gx σ ps args=some σ1)
  (h3:run E fuel [.code asg] σ1 A=some (.normal σ2 A2)) (h4:A2[n0]?=some (.loop r 0)) (h5:run E fuel [.code bdy] σ2 (A2.set n0 .dead)=some (.normal σ3 A3)) :
  dy n0 l r σ ps (evC E fuel asg) (evC E fuel bdy) h (.func (.yield l) [] []) args A=some (.bool true,A3.set n0 (.loop r 0)):=by
 unfold dy
 simp only [om,h1,h2,h3,h4,h5,and_self,SP]
theorem ql (h:A[n]?=some e) (x:Ent):(A.set n x).set n e=A:=by
 rw [Up]
 apply TJ
 intro i
 by_cases hi:n=i
 ·subst hi; rw [RO (Rx.1 h).1,h]
 ·rw [RF hi]
theorem Rep.set {pb pe pf:Nat} {s:Option (List cY × Int)} (h:Rep pb pe pf n0 X s) (h1:j≠pb) (h2:j≠pe) (h3:j≠pf) (hj:j<=n0) (e:Ent):Rep pb pe pf n0 (X.set j e) s:=by
 obtain ⟨⟨a1,a2,a3⟩,h⟩:=h
 refine ⟨by simp; omega,?_⟩
 cases s with
 | none=>
  obtain ⟨b1,⟨x,b2⟩,b3⟩:=h
  exact ⟨by rw [RF h1,b1],⟨x,by rw [RF h2,b2]⟩,by rw [RF h3,b3]⟩
 | some x=>
  obtain ⟨⟨i,b0,b1,b2⟩,b3,b4⟩:=h
  exact ⟨⟨i,b0,by rw [RF h1,b1],by rw [RF (by omega),b2]⟩,by rw [RF h2,b3],by rw [RF h3,b4]⟩
section
variable {A:ac} {T:aU} {chv chF rdv rdF:AV} {rd:List Int} {free:Int}
def I14 (A:ac) (tv rdv:AV) (free:Int) (r:Loop) (X:ac):Prop:=D14 A tv rdv free X/\X[A.length+8]?=some (.loop r 0)/\∃s,Rep (A.length+4) (A.length+5) (A.length+6) (A.length+8) X s
noncomputable abbrev Hd14 (A:ac) (T:aU) (tv:AV) (rd:List Int) (free:Int):ac->List Int->ac:=HdD T tv rd free (A.length+4) (A.length+5) (A.length+6)
theorem D14.hd (h:D14 A tv rdv free X) (o:List Int):D14 A tv rdv free (Hd14 A T tv rd free X o):=by
 unfold Hd14 HdD
 split
 ·exact h.app _
 ·split
  ·exact (((h.app _).set (by omega) _).set (by omega) _).set (by omega) _
  ·exact h.app _
theorem yl14 (h0:aR) (fs:List (FuncId × aD)) (h34:aH fs 70=some H34) (h17:aH fs 22=some (aG 4 M17)) (hT:Tl A T chv chF) (hr:Rl A rd rdv rdF) (hS:Sit T rd free) (L:Nat) (r:Loop)
  (v0 v1 v2 v3 v7 v8 v9 v10 v11 v12 v13 v14 v18 v19 v20 v21 v22 v23 v24 v25 v26 v27 v28 v29 v30 v31 v32 v33 u34 v35 v36:AV) :
  Yl (dy (A.length+8) L r [v0,v1,v2,v3,.ptr A.length 0 0,.ptr (A.length+1) 0 0,.ptr (A.length+2) 0 0,v7,v8,v9,v10,v11,v12,v13,v14,.ptr (A.length+4) 0 0,.ptr (A.length+5) 0 0,.ptr (A.length+6) 0 0,v18,v19,v20,v21,v22,v23,v24,v25,v26,v27,v28,v29,v30,v31,v32,v33,u34,v35,v36] [34] (evC (dl GC fs h0) 300 pK) (evC (dl GC fs h0) 300 kn) h0)
   (.func (.yield L) [] []) (Hd14 A T (ay T chv) rd free) (I14 A (ay T chv) rdv free r) (Emp (b0 rd)) (A.length+4) (A.length+5) (A.length+6):=by
 refine ⟨⟨L,rfl⟩,fun X o ov hI hE ho=>?_,fun X o hI hE=>?_,fun X W hI=>?_,fun X o=>nc ..⟩
 ·obtain ⟨hD,hL,s,hR⟩:=hI
  have hll:=(Rx.1 hL).1
  have hbody:=KN (Z:=X.set (A.length+8) .dead) (ov:=ov) (o:=o) h0 fs h34 h17 hT hr hS (hD.set (by omega) _) (by
    rcases ho with ho | ⟨id,off,gr,es,rfl,h1,h2⟩
    ·exact .inl ho
    ·refine .inr ⟨id,off,gr,es,rfl,?_,h2⟩
     rw [RF (fun e=>by rw [<-e,hL] at h1; cases h1)]; exact h1) hE (hR.set (by omega) (by omega) (by omega) (RT _) .dead)
   v0 v1 v2 v3 v7 v8 v9 v10 v11 v12 v13 v14 v19 v20 v21 v22 v23 v24 v25 v26 v27 v28 v29 v30 v31 v32 v33 ov v35 v36
  have hset:gx [v0,v1,v2,v3,.ptr A.length 0 0,.ptr (A.length+1) 0 0,.ptr (A.length+2) 0 0,v7,v8,v9,v10,v11,v12,v13,v14,.ptr (A.length+4) 0 0,.ptr (A.length+5) 0 0,.ptr (A.length+6) 0 0,v18,v19,v20,v21,v22,v23,v24,v25,v26,v27,v28,v29,v30,v31,v32,v33,u34,v35,v36] [34] [ov] =
   some [v0,v1,v2,v3,.ptr A.length 0 0,.ptr (A.length+1) 0 0,.ptr (A.length+2) 0 0,v7,v8,v9,v10,v11,v12,v13,v14,.ptr (A.length+4) 0 0,.ptr (A.length+5) 0 0,.ptr (A.length+6) 0 0,v18,v19,v20,v21,v22,v23,v24,v25,v26,v27,v28,v29,v30,v31,v32,v33,ov,v35,v36]:=rfl
  have hasg:run (dl GC fs h0) 300 [.code pK] [v0,v1,v2,v3,.ptr A.length 0 0,.ptr (A.length+1) 0 0,.ptr (A.length+2) 0 0,v7,v8,v9,v10,v11,v12,v13,v14,.ptr (A.length+4) 0 0,.ptr (A.length+5) 0 0,.ptr (A.length+6) 0 0,v18,v19,v20,v21,v22,v23,v24,v25,v26,v27,v28,v29,v30,v31,v32,v33,ov,v35,v36] X =
   some (.normal [v0,v1,v2,v3,.ptr A.length 0 0,.ptr (A.length+1) 0 0,.ptr (A.length+2) 0 0,v7,v8,v9,v10,v11,v12,v13,v14,.ptr (A.length+4) 0 0,.ptr (A.length+5) 0 0,.ptr (A.length+6) 0 0,ov,v19,v20,v21,v22,v23,v24,v25,v26,v27,v28,v29,v30,v31,v32,v33,ov,v35,v36] X):=by simp [pK]
  rw [qa hL hset hasg hL hbody,zV T _ rd free _ _ _ (by omega) (by omega) (by omega) _ _ (by simpa using hll),ql hL]
 ·obtain ⟨hD,hL,s,hR⟩:=hI
  have hll:=(Rx.1 hL).1
  exact ⟨hD.hd o,by rw [(nc ..).2 _ hll (by omega) (by omega) (by omega)]; exact hL,_,hR.step (by omega) (by omega) hll o⟩
 ·obtain ⟨hD,hL,s,hR⟩:=hI
  exact ⟨hD.app W,by rw [cu X W _ (Rx.1 hL).1]; exact hL,s,hR.app W⟩
def X14 (A:ac) (tv rdv:AV) (free:Int) (b:List Bool):ac:=A++[.row 5 false [tv],.row 1 false [rdv],.row 1 false [.int .i64 free],.row 1 false (a9 b),.row 1 false [.nilS],.row 1 false [.int .i64 0],.row 1 false [.bool false],.row 1 false [.sl (A.length+3) 0 b.length]]
def E14 (A:ac) (T:aU) (tv rdv:AV) (rd:List Int) (free:Int):ac:=
 F57 (Hd14 A T tv rd free) 10 (b0 rd) [] (X14 A tv rdv free (b0 rd)++[.dead,.dead,.row 1 false [dE (A.length+9) (A.length+10)]])
theorem z6 (hS:Sit T rd free) (tv:AV):(∃R,E14 A T tv rdv rd free=A++R)/\Rep (A.length+4) (A.length+5) (A.length+6) (A.length+8) (E14 A T tv rdv rd free) (drF T rd free):=by
 have hx:(X14 A tv rdv free (b0 rd)++[Ent.dead,.dead,.row 1 false [dE (A.length+9) (A.length+10)]])=A++[.row 5 false [tv],.row 1 false [rdv],.row 1 false [.int .i64 free],.row 1 false (a9 (b0 rd)),.row 1 false [.nilS],.row 1 false [.int .i64 0],.row 1 false [.bool false],.row 1 false [.sl (A.length+3) 0 (b0 rd).length],.dead,.dead,.row 1 false [dE (A.length+9) (A.length+10)]]:=by
  unfold X14; rw [RX]; rfl
 have h0:D14 A tv rdv free (X14 A tv rdv free (b0 rd)++[Ent.dead,.dead,.row 1 false [dE (A.length+9) (A.length+10)]])/\Rep (A.length+4) (A.length+5) (A.length+6) (A.length+8) (X14 A tv rdv free (b0 rd)++[Ent.dead,.dead,.row 1 false [dE (A.length+9) (A.length+10)]]) none:=by
  rw [hx]
  refine ⟨⟨⟨_,rfl⟩,by simp,by rw [a8]; rfl,by rw [a8]; rfl⟩,⟨by simp,?_⟩⟩
  exact ⟨by rw [a8]; rfl,⟨0,by rw [a8]; rfl⟩,by rw [a8]; rfl⟩
 have hlen:A.length+8<(X14 A tv rdv free (b0 rd)++[Ent.dead,.dead,.row 1 false [dE (A.length+9) (A.length+10)]]).length:=by rw [hx]; simp
 have:=ua (S:=Option (List cY × Int)) (Hd:=Hd14 A T tv rd free) (R:=fun X s=>D14 A tv rdv free X/\A.length+8<X.length/\Rep (A.length+4) (A.length+5) (A.length+6) (A.length+8) X s) (st:=ic T rd free) (E:=fun _=>True)
  (fun X W s h=>⟨h.1.app W,by simp; omega,h.2.2.app W⟩) (fun X s o _ h=>⟨h.1.hd o,Th h.2.1 (zW T tv rd free (A.length+4) (A.length+5) (A.length+6) X o),h.2.2.step (by omega) (by omega) h.2.1 o⟩)
  10 (b0 rd) [] _ none (zC (gH hS).2) (fun _ _=>trivial) ⟨h0.1,hlen,h0.2⟩
 have e:((vQ 10 (b0 rd)).map (([]:List Int) ++ ·))=vQ 10 (b0 rd):=by simp
 rw [e] at this
 exact ⟨this.1.pre,this.2.2⟩
theorem EV (fs:List (FuncId × aD)) (h34:aH fs 70=some H34) (h17:aH fs 22=some (aG 4 M17)) (h56:aH fs 106=some H56) (hT:Tl A T chv chF) (hr:Rl A rd rdv rdF) (hS:Sit T rd free)
  (v0 v1 v2 v3 v7 v8 v9 v10 v11 v12 v13 v14 v18 v19 v20 v21 v22 v23 v24 v25 v26 v27 v28 v29 v30 v31 v32 u34 v35 v36:AV) (K:List KC) :
  run (ai GC fs) 300 (.code (.rangeFunc (.var 33) [34] pK kn) :: K) [v0,v1,v2,v3,.ptr A.length 0 0,.ptr (A.length+1) 0 0,.ptr (A.length+2) 0 0,v7,v8,v9,v10,v11,v12,v13,v14,.ptr (A.length+4) 0 0,.ptr (A.length+5) 0 0,.ptr (A.length+6) 0 0,v18,v19,v20,v21,v22,v23,v24,v25,v26,v27,v28,v29,v30,v31,v32,.func (.func 106) [] [.ptr (A.length+7) 0 0],u34,v35,v36] (X14 A (ay T chv) rdv free (b0 rd)) =
   after (ai GC fs) 300 K (.normal [v0,v1,v2,v3,.ptr A.length 0 0,.ptr (A.length+1) 0 0,.ptr (A.length+2) 0 0,v7,v8,v9,v10,v11,v12,v13,v14,.ptr (A.length+4) 0 0,.ptr (A.length+5) 0 0,.ptr (A.length+6) 0 0,v18,v19,v20,v21,v22,v23,v24,v25,v26,v27,v28,v29,v30,v31,v32,.func (.func 106) [] [.ptr (A.length+7) 0 0],u34,v35,v36] (E14 A T (ay T chv) rdv rd free)):=by
 refine fZ _ _ _ _ _ fun L r=>?_
 have hl8:(X14 A (ay T chv) rdv free (b0 rd)).length=A.length+8:=by simp [X14]
 obtain ⟨X0,hX0⟩:∃X0,X0=X14 A (ay T chv) rdv free (b0 rd)++[Ent.loop r 0]:=⟨_,rfl⟩
 have hX0':X0=A++[.row 5 false [ay T chv],.row 1 false [rdv],.row 1 false [.int .i64 free],.row 1 false (a9 (b0 rd)),.row 1 false [.nilS],.row 1 false [.int .i64 0],.row 1 false [.bool false],.row 1 false [.sl (A.length+3) 0 (b0 rd).length],.loop r 0]:=by
  rw [hX0]; unfold X14; rw [RX]; rfl
 have hX0l:X0.length=A.length+9:=by rw [hX0']; simp
 have hA56:A56 X0 (.func (.yield L) [] [])=A++[.row 5 false [ay T chv],.row 1 false [rdv],.row 1 false [.int .i64 free],.row 1 false (a9 (b0 rd)),.row 1 false [.nilS],.row 1 false [.int .i64 0],.row 1 false [.bool false],.row 1 false [.sl (A.length+3) 0 (b0 rd).length],.loop r 0,.row 1 false [.func (.yield L) [] []],.row 1 false [dE (A.length+9) (A.length+10)]]:=by
  unfold A56; rw [hX0l,hX0',RX]; rfl
 have hy:=yl14 (fun _ _ _=>none) fs h34 h17 hT hr hS L r v0 v1 v2 v3 v7 v8 v9 v10 v11 v12 v13 v14 v18 v19 v20 v21 v22 v23 v24 v25 v26 v27 v28 v29 v30 v31 v32 (.func (.func 106) [] [.ptr (A.length+7) 0 0]) u34 v35 v36
 have hI:I14 A (ay T chv) rdv free r (A56 X0 (.func (.yield L) [] [])):=by
  rw [hA56]
  refine ⟨⟨⟨_,rfl⟩,by simp,by rw [a8]; rfl,by rw [a8]; rfl⟩,by rw [a8]; rfl,none,⟨by simp,?_⟩⟩
  exact ⟨by rw [a8]; rfl,⟨0,by rw [a8]; rfl⟩,by rw [a8]; rfl⟩
 have hc:=Lv (A:=X0) (b:=b0 rd) (bi:=A.length+3) (ip:=A.length+7) hy (by omega) hI (by rw [hX0',a8]; rfl) (by omega) (by rw [hX0',a8]; rfl) (by rw [ey]; exact (gH hS).2) (fun _ h=>h)
 have hs:=fun (j:Nat) (e:Ent) (h1:j≠A.length+4) (h2:j≠A.length+5) (h3:j≠A.length+6)=>zY (Hd:=Hd14 A T (ay T chv) rd free) (j:=j) (e:=e) (fun X o=>zW ..) (fun X o hj=>zV T _ rd free _ _ _ h1 h2 h3 X o hj) 10 (b0 rd) []
 have hAl:(A56 X0 (.func (.yield L) [] [])).length=A.length+11:=by rw [hA56]; simp
 obtain ⟨k1,k2⟩:=hs (A.length+9) .dead (by omega) (by omega) (by omega) (A56 X0 (.func (.yield L) [] [])) (by omega)
 rw [hX0l,k2] at hc
 have hkeep:=qY (Hd:=Hd14 A T (ay T chv) rd free) (pb:=A.length+4) (pe:=A.length+5) (pf:=A.length+6) (fun X o=>nc ..) 10 (b0 rd) [] ((A56 X0 (.func (.yield L) [] [])).set (A.length+9) .dead)
 have hloop:(F57 (Hd14 A T (ay T chv) rd free) 10 (b0 rd) [] ((A56 X0 (.func (.yield L) [] [])).set (A.length+9) .dead))[A.length+8]?=some (.loop r 0):=by
  rw [hkeep.2 (A.length+8) (by simp; omega) (by omega) (by omega) (by omega),RF (by omega),hA56,a8]; rfl
 obtain ⟨_,k4⟩:=hs (A.length+8) .dead (by omega) (by omega) (by omega) ((A56 X0 (.func (.yield L) [] [])).set (A.length+9) .dead) (by simp; omega)
 have hend:(F57 (Hd14 A T (ay T chv) rd free) 10 (b0 rd) [] ((A56 X0 (.func (.yield L) [] [])).set (A.length+9) .dead)).set (A.length+8) .dead=E14 A T (ay T chv) rdv rd free:=by
  rw [k4]
  unfold E14
  congr 1
  rw [hA56,R9 _ _ (by omega),R9 _ _ (by omega),Sp,Sp]
  unfold X14
  rw [RX]
  rfl
 rw [<-hX0,hl8]
 have hcall:jJ fs (dy (A.length+8) L r [v0,v1,v2,v3,.ptr A.length 0 0,.ptr (A.length+1) 0 0,.ptr (A.length+2) 0 0,v7,v8,v9,v10,v11,v12,v13,v14,.ptr (A.length+4) 0 0,.ptr (A.length+5) 0 0,.ptr (A.length+6) 0 0,v18,v19,v20,v21,v22,v23,v24,v25,v26,v27,v28,v29,v30,v31,v32,.func (.func 106) [] [.ptr (A.length+7) 0 0],u34,v35,v36] [34] (evC (dl GC fs fun _ _ _=>none) 300 pK) (evC (dl GC fs fun _ _ _=>none) 300 kn) fun _ _ _=>none)
   (.func (.func 106) [] [.ptr (A.length+7) 0 0]) [.func (.yield L) [] []] X0=some (.tup [],F57 (Hd14 A T (ay T chv) rd free) 10 (b0 rd) [] ((A56 X0 (.func (.yield L) [] [])).set (A.length+9) .dead)):=by
  rw [<-hc]
  simp [jJ,h56]
 show (match jJ fs _ (.func (.func 106) [] [.ptr (A.length+7) 0 0]) [.func (.yield L) [] []] X0 with
  | some (_,A')=>il (A.length+8) _ A'
  | none=>none)=_
 erw [hcall]
 simp only [il,hloop,SP,hend]
end
end Tr
namespace Tr
open Go
open Cy (GC)
theorem sq {w:World} {b o T:Nat} {c:Array Value} {fz:Nat × Nat} (P:Program) (hh:w.heap[b]?=some (.cells c T fz)) (hu:dZ c fz) (vs:List Value) (hl:o+vs.length<=c.size) (h1:∀v∈vs,v.oneCell'=true):w.setCells b o vs=w.setRow b (splice c o vs):=by
 have a:=bL P b o T fz vs 0 c w hh hu (by omega) h1
 have e:=run_storeCells_cells (P:=P) b o vs 0 w (fun j hj=>by
  rw [ij hh,R7 (by omega)]; rfl) (fun j hj=>by
  have:=hu (o+0+j) (by omega)
  unfold World.frozen?
  rw [hh]
  exact this) h1
 rw [a] at e
 injection e with e1 e2
 rw [Ss] at e2
 exact e2.symm
theorem Ib:(Tryz.prog.info? 121).map (·.size)=some 2:=by kernel_rfl
theorem MJ:(Tryz.prog.info? 3).map (·.size)=some 1:=by kernel_rfl
theorem BW:Tryz.prog.follows .mixedOrders=true:=by kernel_rfl
theorem HC (b ao n cap i j:Nat) (w:World) (ad:Addr) (news:List Value) (hij:i<j) (hjn:j<=n) (hn:n<=cap)
  (had:(if cap=j then some (⟨b,ao,none⟩:Addr) else some ⟨b,ao+j*2,none⟩)=some ad)
  (s1:news.length=(n-j)*2) (s0:∀t u,news[t]?=some u->w.drew.cell? (ad.add t)=some u) (s2:∀u∈news,u.oneCell'=true)
  (s3:∀t,t<news.length->(w.drew.cell? ⟨b,ao+i*2+t,none⟩).isSome=true/\w.drew.frozen? ⟨b,ao+i*2+t,none⟩=false) (W1 W2:World) (hW:W1=w.drew.setCells b (ao+i*2) news)
  (hcl:∀ty,(Builtin.clear_ #[53] ty #[.slice (some ⟨b,ao+(i+(n-j))*2,none⟩) (n-(i+(n-j))) (cap-(i+(n-j)))]).run Tryz.prog W1=.ok (.tuple #[]) W2) :
  Calls Tryz.prog 103 #[.slice (some ⟨b,ao,none⟩) n cap,.int .i64 i,.int .i64 j] w fun e w'=>e=.returned (.slice (some ⟨b,ao,none⟩) (i+(n-j)) cap)/\w'=W2:=by
 have mixed:=BW
 obtain ⟨i0,hi,hz1⟩:∃i0,Tryz.prog.info? 121=some i0/\i0.size=2:=by
  have h:=Ib
  cases e:Tryz.prog.info? 121 with
  | none=>rw [e] at h; cases h
  | some i0=>rw [e] at h; injection h with h; exact ⟨i0,rfl,h⟩
 have hic:i<=cap:=by omega
 have hjc:j<=cap:=by omega
 have hW':RowKit.Hid (W1=w.drew.setCells b (ao+i*2) news):=hW
 clear hW
 go_enter Tryz.func103,Tryz.ntmps103
 go_wp2_with fail
 go_region_law_o (refine step_append_room rfl (.tmp 22) (.tmp 25) 53 rfl 121 i0 2 Tryz.underlying53 hi hz1 b ao i cap (by simp [Act.eval,Act.put]) ad (n-j) (cap-j) news (by simp [Act.eval,Act.put]) s1 s0 s2 (by omega) s3 ?_; rw [<-hW'.out])
 go_wp2
 go_ret
 exact ⟨rfl,rfl⟩
theorem HB (b ao n cap i j:Nat) (w:World) (ad:Addr) (news:List Value) (hij:i<j) (hjn:j<=n) (hn:n<=cap)
  (had:(if cap=j then some (⟨b,ao,none⟩:Addr) else some ⟨b,ao+j,none⟩)=some ad)
  (s1:news.length=(n-j)*1) (s0:∀t u,news[t]?=some u->w.drew.cell? (ad.add t)=some u) (s2:∀u∈news,u.oneCell'=true)
  (s3:∀t,t<news.length->(w.drew.cell? ⟨b,ao+i*1+t,none⟩).isSome=true/\w.drew.frozen? ⟨b,ao+i*1+t,none⟩=false) (W1 W2:World) (hW:W1=w.drew.setCells b (ao+i*1) news)
  (hcl:∀ty,(Builtin.clear_ #[40] ty #[.slice (some ⟨b,ao+(i+(n-j)),none⟩) (n-(i+(n-j))) (cap-(i+(n-j)))]).run Tryz.prog W1=.ok (.tuple #[]) W2) :
  Calls Tryz.prog 105 #[.slice (some ⟨b,ao,none⟩) n cap,.int .i64 i,.int .i64 j] w fun e w'=>e=.returned (.slice (some ⟨b,ao,none⟩) (i+(n-j)) cap)/\w'=W2:=by
 have mixed:=BW
 obtain ⟨i0,hi,hz1⟩:∃i0,Tryz.prog.info? 3=some i0/\i0.size=1:=by
  have h:=MJ
  cases e:Tryz.prog.info? 3 with
  | none=>rw [e] at h; cases h
  | some i0=>rw [e] at h; injection h with h; exact ⟨i0,rfl,h⟩
 have hic:i<=cap:=by omega
 have hjc:j<=cap:=by omega
 have hW':RowKit.Hid (W1=w.drew.setCells b (ao+i*1) news):=hW
 clear hW
 go_enter Tryz.func105,Tryz.ntmps105
 go_wp2_with fail
 go_region_law_o (refine step_append_room rfl (.tmp 22) (.tmp 25) 40 rfl 3 i0 1 Tryz.underlying40 hi hz1 b ao i cap (by simp [Act.eval,Act.put]) ad (n-j) (cap-j) news (by simp [Act.eval,Act.put]) s1 s0 s2 (by omega) s3 ?_; rw [<-hW'.out])
 go_wp2
 go_ret
 exact ⟨rfl,rfl⟩
end Tr
namespace Tr
open Go
open Cy (GC)
def o9 (es:List AV) (i:Nat) (za:AV):List AV:=es.take i++es.drop (i+1)++[za]
theorem mW (h:i<es.length) (za:AV):(o9 es i za).length=es.length:=by simp [o9]; omega
theorem Bi (h:i<es.length) (za:AV) (k:Nat) (hk:k<(o9 es i za).length):(o9 es i za)[k]=if h1:k<i then es[k] else if h2:k+1<es.length then es[k+1] else za:=by
 have hl:=mW h za
 have e:(o9 es i za)[k]?=some (if h1:k<i then es[k] else if h2:k+1<es.length then es[k+1] else za):=by
  unfold o9
  by_cases h1:k<i
  ·rw [UE h1,RX,RE (by simp; omega),TB,RL h1,RD (by omega)]
  ·rw [dif_neg h1]
   by_cases h2:k+1<es.length
   ·rw [UE h2,RX,RS (by simp; omega),RE (by simp; omega),SJ]
    simp only [SX]
    rw [show i+1+(k-min i es.length)=k+1 by omega,RD h2]
   ·rw [dif_neg h2,RS (by simp; omega)]
    have:k-(es.take i++es.drop (i+1)).length=0:=by simp; omega
    rw [this]; rfl
 rw [RD hk] at e
 injection e
def gB (c:Array Value) (o sz n i:Nat):List Value:=(c.toList.drop (o+(i+1)*sz)).take ((n-(i+1))*sz)
def c1C (c:Array Value) (o sz n i:Nat):Array Value:=splice c (o+i*sz) (gB c o sz n i)
def c2C (c:Array Value) (o sz n i:Nat) (zs:List Value):Array Value:=splice (c1C c o sz n i) (o+(n-1)*sz) zs
section
variable {c:Array Value} {o sz n i:Nat} {zs:List Value}
theorem j7 (hi:i<n) (hl:o+n*sz<=c.size):(gB c o sz n i).length=(n-(i+1))*sz:=by
 unfold gB
 rw [SX,List.length_drop,Sb]
 have:n*sz=(i+1)*sz+(n-(i+1))*sz:=by rw [<-RU]; congr 1; omega
 omega
theorem j8 (q:Nat) (hq:q<(n-(i+1))*sz):(gB c o sz n i)[q]?=c[o+(i+1)*sz+q]?:=by
 unfold gB
 rw [TB,RL hq,SJ,Array.getElem?_toList]
theorem gP (hi:i<n):n*sz=i*sz+sz+(n-(i+1))*sz/\(i+1)*sz=i*sz+sz/\(n-1)*sz=i*sz+(n-(i+1))*sz:=by
 refine ⟨?_,by rw [RU,Ud],?_⟩
 ·have:n=i+1+(n-(i+1)):=by omega
  conv=>lhs; rw [this,RU,RU,Ud]
 ·rw [<-RU]; congr 1; omega
theorem m5 (hi:i<n) (hl:o+n*sz<=c.size):(c1C c o sz n i).size=c.size/\o+i*sz+(gB c o sz n i).length<=c.size:=by
 have h:=j7 hi hl
 obtain ⟨m1,m2,m3⟩:=gP (sz:=sz) hi
 have:o+i*sz+(gB c o sz n i).length<=c.size:=by rw [h]; omega
 exact ⟨bU _ _ _ this,this⟩
theorem qO (hi:i<n) (hl:o+n*sz<=c.size) (hz:zs.length=sz):(c2C c o sz n i zs).size=c.size/\o+(n-1)*sz+zs.length<=(c1C c o sz n i).size:=by
 obtain ⟨h1,h2⟩:=m5 hi hl
 obtain ⟨m1,m2,m3⟩:=gP (sz:=sz) hi
 have:o+(n-1)*sz+zs.length<=(c1C c o sz n i).size:=by rw [h1,hz]; omega
 exact ⟨by unfold c2C; rw [bU _ _ _ this,h1],this⟩
end
section
variable {w:World} {OK:Nat->Prop} {g:aA} {A:ac}
theorem yC (hA:bZ w OK g A) {id sz:Nat} (hid:A[id]?=some (.row sz false es)) {inc:Inc} (hinc:inc∈g id) {i:Nat} (hi:i<es.length) (hpos:0<sz) {zv:Value} {za:AV} (hz:∀(w:World) (OK:Nat->Prop) (g:aA),aN w OK g zv za) (hzc:zv.cells.size=sz) (hzo:cj zv) :
  inc.esz=sz/\inc.n=es.length/\∃c T fz,w.heap[inc.b]?=some (.cells c T fz)/\dZ c fz/\inc.o+es.length*sz<=c.size/\(∀u∈gB c inc.o sz es.length i,u.oneCell'=true) /\
   bZ ((w.setRow inc.b (c1C c inc.o sz es.length i)).setRow inc.b (c2C c inc.o sz es.length i zv.cells.toList)) OK g (A.set id (.row sz false (o9 es i za))) /\
   Ext w OK g ((w.setRow inc.b (c1C c inc.o sz es.length i)).setRow inc.b (c2C c inc.o sz es.length i zv.cells.toList)) OK g:=by
 obtain ⟨hlt',hrow⟩:=Rx.1 hid
 have hdead:A[id]?≠some Ent.dead:=by rw [hid]; simp
 have hent:=hA.ent id hlt'
 rw [hrow] at hent
 obtain ⟨h0,hinv⟩:=hent
 obtain ⟨hone,hnn⟩:=h0 rfl
 obtain ⟨hesz,hne,hnc,c,T,fz,hh,hu,hcs,hel⟩:=hinv inc hinc
 have hnn':=hnn inc hinc
 have hle:inc.o+es.length*sz<=c.size:=by
  have:es.length*sz<=inc.cap*sz:=R6 _ (by omega)
  omega
 have hzl:zv.cells.toList.length=sz:=by rw [Sb,hzc]
 obtain ⟨k1,k2⟩:=m5 (c:=c) (o:=inc.o) (sz:=sz) hi hle
 obtain ⟨k3,k4⟩:=qO (c:=c) (o:=inc.o) (sz:=sz) (zs:=zv.cells.toList) hi hle hzl
 obtain ⟨m1,m2,m3⟩:=gP (n:=es.length) (sz:=sz) hi
 have hnl:=j7 (c:=c) (o:=inc.o) (sz:=sz) hi hle
 have hxe:∀x∈g id,x=inc:=fun x hx=>by
  match hgi:g id,hone,hx,hinc with
  | [],_,hx,_=>cases hx
  | [y],_,hx,hinc=>simp at hx hinc; rw [hx,hinc]
  | _ :: _ :: _,ho,_,_=>simp at ho
 have hnews:∀u∈gB c inc.o sz es.length i,u.oneCell'=true:=by
  intro u hu'
  obtain ⟨q,hq,rfl⟩:=Sz.1 hu'
  have hq':q<(es.length-(i+1))*sz:=by rw [<-hnl]; exact hq
  have e:=j8 (c:=c) (o:=inc.o) (sz:=sz) (n:=es.length) (i:=i) q hq'
  rw [RD hq] at e
  have hdm:q / sz*sz+q % sz=q:=by rw [Nat.mul_comm]; exact Nat.div_add_mod q sz
  have hr:=Nat.mod_lt q hpos
  have hqd:q / sz<es.length-(i+1):=(Nat.div_lt_iff_lt_mul hpos).2 hq'
  obtain ⟨v,_,v2,v3,v4⟩:=hel (i+1+q / sz) (by omega) (by omega)
  have v4:=v4 (q % sz) hr
  have e2:inc.o+(i+1+q / sz)*sz+q % sz=inc.o+(i+1)*sz+q:=by rw [RU]; omega
  rw [e2,<-e] at v4
  have hlt:q % sz<v.cells.size:=by omega
  rw [R7 hlt] at v4
  injection v4 with v4
  rw [v4]
  exact v3 _ (by simp)
 have hhr:∀b,b≠inc.b->((w.setRow inc.b (c1C c inc.o sz es.length i)).setRow inc.b (c2C c inc.o sz es.length i zv.cells.toList)).heap[b]?=w.heap[b]?:=fun b hb=>by rw [setRow_other _ inc.b b _ hb,setRow_other w inc.b b _ hb]
 have hrow2:((w.setRow inc.b (c1C c inc.o sz es.length i)).setRow inc.b (c2C c inc.o sz es.length i zv.cells.toList)).heap[inc.b]?=some (.cells (c2C c inc.o sz es.length i zv.cells.toList) T fz):=setRow_heap _ inc.b _ _ T fz (setRow_heap w inc.b c _ T fz hh)
 refine ⟨hesz,hnn',c,T,fz,hh,hu,hle,hnews,?_⟩
 refine hA.turn (w':=(w.setRow inc.b (c1C c inc.o sz es.length i)).setRow inc.b (c2C c inc.o sz es.length i zv.cells.toList)) (g':=g) id hlt' hdead inc hinc (by simp) rfl rfl rfl hhr (fun r hr _=>by rw [hh] at hr; cases hr) g.le_refl (fun _ _=>rfl) (fun i hi=>⟨i,hi,rfl⟩)
  (fun i i' hi hi' e=>(hA.one id id i i' hdead hdead hi hi' e).2) (.row sz false (o9 es i za)) (fun hokb=>?_) (fun _=>rfl)
 refine ⟨fun _=>⟨hone,fun x hx=>by rw [mW hi]; exact hnn x hx⟩,fun x hx=>?_⟩
 obtain rfl:=hxe x hx
 refine ⟨hesz,by rw [mW hi]; exact hne,hnc,_,T,fz,hrow2,?_,by rw [k3]; exact hcs,fun k hk hkn=>?_⟩
 ·exact bI (bI hu _ _ k2) _ _ k4
 have hk':k<es.length:=by rw [mW hi] at hk; exact hk
 rw [Bi hi za k hk]
 by_cases c1:k<i
 ·rw [UE c1]
  have hks:(k+1)*sz<=i*sz:=R6 _ c1
  rw [RU,Ud] at hks
  refine bY.mono (bY.splice_out (bY.splice_out (hel k hk' (by omega)) k2 (.inl (by omega))) k4 (.inl (by omega))) (fun _ h=>h) hokb g.le_refl
 ·rw [dif_neg c1]
  by_cases c2:k+1<es.length
  ·rw [UE c2]
   obtain ⟨v,v1,v2,v3,v4⟩:=hel (k+1) c2 (by omega)
   refine ⟨v,v1.mono (fun _ h=>h) hokb g g.le_refl,v2,v3,fun q hq=>?_⟩
   have e1:(k+1)*sz=k*sz+sz:=by rw [RU,Ud]
   have e2:k*sz=i*sz+(k-i)*sz:=by rw [<-RU]; congr 1; omega
   have e3:(k+1)*sz<=(es.length-1)*sz:=R6 _ (by omega)
   unfold c2C
   rw [splice_out _ _ _ k4 _ (.inl (by omega))]
   have hqn:(k-i)*sz+q<(gB c x.o sz es.length i).length:=by omega
   have e5:x.o+k*sz+q=x.o+i*sz+((k-i)*sz+q):=by omega
   unfold c1C
   rw [e5,cV _ _ _ k2 _ hqn,j8 _ (by omega)]
   have v4:=v4 q hq
   rw [show x.o+(i+1)*sz+((k-i)*sz+q)=x.o+(k+1)*sz+q by omega]
   exact v4
  ·rw [dif_neg c2]
   refine ⟨zv,hz _ _ _,hzc,hzo,fun q hq=>?_⟩
   unfold c2C
   have:k=es.length-1:=by omega
   subst this
   rw [cV _ _ _ k4 q (by omega)]
   simp
end
end Tr
namespace Tr
open Go
open Cy (GC aP bj aE)
open Clu (aU aZ ay chA be cf bE)
theorem pA {P:Program} {w w':World} {t e ty:TypeId} {i:TypeInfo} {z:Value} (ht:P.underlying t=some (.slice e)) (hi:P.info? e=some i) (hz:i.zero=some z) {b o len cap:Nat} (hl:0<len) (hst:(storeCells ⟨b,o,none⟩ (Builtin.zeroCells z.cells len).toList).run P w=.ok () w') :
  (Builtin.clear_ #[t] ty #[.slice (some ⟨b,o,none⟩) len cap]).run P w=.ok (.tuple #[]) w':=by
 obtain ⟨m,rfl⟩:∃m,len=m+1:=⟨len-1,by omega⟩
 simp only [Builtin.clear_,Sem.run_bind,aj ht,Result.andThen_ok,SY,Sw]
 rw [bR hi hz]
 simp only [Result.andThen_ok,hst]
 rfl
theorem jQ (z:Array Value):(Builtin.zeroCells z 1).toList=z.toList:=by
 apply TO
 ·simp [Builtin.zeroCells]
 ·intro i h1 h2
  have:i<z.size:=by simpa using h2
  simp [Builtin.zeroCells,Nat.mod_eq_of_lt this]
  exact getElem!_pos z i this
def z7:AV:=.agg [.int .i64 0,.int .i64 0]
theorem Hz:((Tryz.prog.info? 121).bind fun i=>i.zero.map fun z=>(ofValue z,z.cells.size,i.size))=some (some z7,2,2):=by kernel_rfl
def H53:aD:=fun _ args A=>match args with
 | [.sl id 0 n,.int .i64 i,.int .i64 j]=>match A[id]? with
  | some (.row 2 false es)=>if n=es.length/\0<=i/\j=i+1/\j<=n then some (.sl id 0 (n-1),A.set id (.row 2 false (o9 es i.toNat z7))) else none
  | _=>none
 | _=>none
theorem HZ:ak Tryz.prog GC 103 H53:=by
 have hen:ak Tryz.prog GC 103 (fun h=>bp (dl GC [] h) 0 QC):=bX aw at53 Kp aW.nil
 refine ⟨hen.1,fun ys h hs args A r A' he w OK g vs hA hI hl=>?_⟩
 unfold H53 at he
 split at he
 ·rename_i id n i j
  split at he
  ·rename_i es hid
   simp only [Rz,Ry,RP] at he
   obtain ⟨⟨hn,hi0,hj,hjn⟩,rfl,rfl⟩:=he
   subst hn hj
   match vs,hl with
   | [v1,v2,v3],hl=>
    obtain ⟨h1,h2,h3,_⟩:=hl
    obtain rfl:=h2.inv_int
    obtain rfl:=h3.inv_int
    obtain ⟨inc,cap,ao,hinc,rfl,hl',hn,hcap,ha⟩:=h1.inv_sl
    obtain ⟨k,rfl⟩:∃k:Nat,i=(k:Int):=⟨i.toNat,by omega⟩
    have hk:k<es.length:=by omega
    obtain ⟨i0,z,hi,hz,hza,hzc,hisz⟩:∃i0 z,Tryz.prog.info? 121=some i0/\i0.zero=some z/\ofValue z=some z7/\z.cells.size=2/\i0.size=2:=by
     have h:=Hz
     cases e:Tryz.prog.info? 121 with
     | none=>rw [e] at h; cases h
     | some i0=>
      rw [e] at h
      cases e2:i0.zero with
      | none=>rw [Sl,e2] at h; cases h
      | some z=>
       rw [Sl,e2] at h
       injection h with h
       injection h with h1 h2
       injection h2 with h2 h3
       exact ⟨i0,z,rfl,e2,h1,h2,h3⟩
    have hzr:∀(w:World) (OK:Nat->Prop) (g:aA),aN w OK g z z7:=fun w OK g=>dx hza
    obtain ⟨_,hok,_⟩:=(hzr w OK g).cells (show z7.solid=true from rfl)
    have hAd:bZ w.drew OK g A:=hA.drew (w.drawn+1)
    obtain ⟨hesz,hnn,c,T,fz,hh,hu,hle,hnews,hR,hE⟩:=yC hAd hid hinc hk (by omega) hzr hzc hok
    have hao:ao=inc.o:=by
     have:=ha (by omega)
     omega
    subst hao
    obtain ⟨m1,m2,m3⟩:=gP (n:=es.length) (sz:=2) hk
    have hnl:=j7 (c:=c) (o:=inc.o) (sz:=2) hk hle
    obtain ⟨k1,k2⟩:=m5 (c:=c) (o:=inc.o) (sz:=2) hk hle
    have hzl:z.cells.toList.length=2:=by rw [Sb,hzc]
    obtain ⟨k3,k4⟩:=qO (c:=c) (o:=inc.o) (sz:=2) (zs:=z.cells.toList) hk hle hzl
    have hW:=sq Tryz.prog hh hu (gB c inc.o 2 es.length k) k2 hnews
    have hh1:=setRow_heap w.drew inc.b c (c1C c inc.o 2 es.length k) T fz hh
    have hu1:dZ (c1C c inc.o 2 es.length k) fz:=bI hu _ _ k2
    obtain ⟨ad,had⟩:∃ad,(if cap=k+1 then some (⟨inc.b,inc.o,none⟩:Addr) else some ⟨inc.b,inc.o+(k+1)*2,none⟩)=some ad:=by
     split
     ·exact ⟨_,rfl⟩
     ·exact ⟨_,rfl⟩
    have s0:∀t u,(gB c inc.o 2 es.length k)[t]?=some u->w.drew.cell? (ad.add t)=some u:=by
     intro t u htu
     have ht:=(Rx.1 htu).1
     rw [j8 _ (by omega)] at htu
     split at had
     ·exfalso
      have h0:es.length-(k+1)=0:=by omega
      rw [hnl,h0,TX] at ht
      exact absurd ht (Ts _)
     ·have had':=S4 had
      rw [<-had',cF,ij hh,<-htu]
      skip
    have s3:∀t,t<(gB c inc.o 2 es.length k).length->(w.drew.cell? ⟨inc.b,inc.o+k*2+t,none⟩).isSome=true/\w.drew.frozen? ⟨inc.b,inc.o+k*2+t,none⟩=false:=by
     intro t ht
     refine ⟨?_,?_⟩
     ·rw [ij hh,R7 (by omega)]; rfl
     ·have:=hu (inc.o+k*2+t) (by omega)
      unfold World.frozen?
      rw [hh]
      exact this
    have hst:=bL Tryz.prog inc.b (inc.o+(es.length-1)*2) T fz z.cells.toList 0 _ _ hh1 hu1 (by omega) hok
    have hlast:k+(es.length-(k+1))=es.length-1:=by omega
    have hcl:∀ty,(Builtin.clear_ #[53] ty #[.slice (some ⟨inc.b,inc.o+(k+(es.length-(k+1)))*2,none⟩) (es.length-(k+(es.length-(k+1)))) (cap-(k+(es.length-(k+1))))]).run Tryz.prog (w.drew.setRow inc.b (c1C c inc.o 2 es.length k))=.ok (.tuple #[]) ((w.drew.setRow inc.b (c1C c inc.o 2 es.length k)).setRow inc.b (c2C c inc.o 2 es.length k z.cells.toList)):=fun ty=>by
     rw [hlast,show es.length-(es.length-1)=1 by omega]
     refine pA Tryz.underlying53 hi hz (by omega) ?_
     rw [jQ]
     skip
     rw [hst]
     unfold c2C
     rfl
    refine (HC inc.b inc.o es.length cap k (k+1) w ad (gB c inc.o 2 es.length k) (by omega) (by omega) (by omega) had (by omega) s0 hnews s3 _ _ hW.symm hcl).mono ?_
    rintro e w' ⟨rfl,rfl⟩
    refine ⟨_,OK,g,rfl,?_,hR,(Ext.drew w OK g (w.drawn+1)).trans hE⟩
    rw [hlast]
    exact .sl _ id 0 (es.length-1) cap inc.o inc hinc (by omega) (by omega) hcap (fun h=>by simp)
  ·cases he
 ·cases he
def Ak:AV:=.int .i64 0
theorem Hy:((Tryz.prog.info? 3).bind fun i=>i.zero.map fun z=>(ofValue z,z.cells.size,i.size))=some (some Ak,1,1):=by kernel_rfl
def H55:aD:=fun _ args A=>match args with
 | [.sl id 0 n,.int .i64 i,.int .i64 j]=>match A[id]? with
  | some (.row 1 false es)=>if n=es.length/\0<=i/\j=i+1/\j<=n then some (.sl id 0 (n-1),A.set id (.row 1 false (o9 es i.toNat Ak))) else none
  | _=>none
 | _=>none
theorem HX:ak Tryz.prog GC 105 H55:=by
 have hen:ak Tryz.prog GC 105 (fun h=>bp (dl GC [] h) 0 QB):=bX aw at55 Kn aW.nil
 refine ⟨hen.1,fun ys h hs args A r A' he w OK g vs hA hI hl=>?_⟩
 unfold H55 at he
 split at he
 ·rename_i id n i j
  split at he
  ·rename_i es hid
   simp only [Rz,Ry,RP] at he
   obtain ⟨⟨hn,hi0,hj,hjn⟩,rfl,rfl⟩:=he
   subst hn hj
   match vs,hl with
   | [v1,v2,v3],hl=>
    obtain ⟨h1,h2,h3,_⟩:=hl
    obtain rfl:=h2.inv_int
    obtain rfl:=h3.inv_int
    obtain ⟨inc,cap,ao,hinc,rfl,hl',hn,hcap,ha⟩:=h1.inv_sl
    obtain ⟨k,rfl⟩:∃k:Nat,i=(k:Int):=⟨i.toNat,by omega⟩
    have hk:k<es.length:=by omega
    obtain ⟨i0,z,hi,hz,hza,hzc,hisz⟩:∃i0 z,Tryz.prog.info? 3=some i0/\i0.zero=some z/\ofValue z=some Ak/\z.cells.size=1/\i0.size=1:=by
     have h:=Hy
     cases e:Tryz.prog.info? 3 with
     | none=>rw [e] at h; cases h
     | some i0=>
      rw [e] at h
      cases e2:i0.zero with
      | none=>rw [Sl,e2] at h; cases h
      | some z=>
       rw [Sl,e2] at h
       injection h with h
       injection h with h1 h2
       injection h2 with h2 h3
       exact ⟨i0,z,rfl,e2,h1,h2,h3⟩
    have hzr:∀(w:World) (OK:Nat->Prop) (g:aA),aN w OK g z Ak:=fun w OK g=>dx hza
    obtain ⟨_,hok,_⟩:=(hzr w OK g).cells (show Ak.solid=true from rfl)
    have hAd:bZ w.drew OK g A:=hA.drew (w.drawn+1)
    obtain ⟨hesz,hnn,c,T,fz,hh,hu,hle,hnews,hR,hE⟩:=yC hAd hid hinc hk (by omega) hzr hzc hok
    have hao:ao=inc.o:=by
     have:=ha (by omega)
     omega
    subst hao
    obtain ⟨m1,m2,m3⟩:=gP (n:=es.length) (sz:=1) hk
    have hnl:=j7 (c:=c) (o:=inc.o) (sz:=1) hk hle
    obtain ⟨k1,k2⟩:=m5 (c:=c) (o:=inc.o) (sz:=1) hk hle
    have hzl:z.cells.toList.length=1:=by rw [Sb,hzc]
    obtain ⟨k3,k4⟩:=qO (c:=c) (o:=inc.o) (sz:=1) (zs:=z.cells.toList) hk hle hzl
    have hW:=sq Tryz.prog hh hu (gB c inc.o 1 es.length k) k2 hnews
    have hh1:=setRow_heap w.drew inc.b c (c1C c inc.o 1 es.length k) T fz hh
    have hu1:dZ (c1C c inc.o 1 es.length k) fz:=bI hu _ _ k2
    obtain ⟨ad,had⟩:∃ad,(if cap=k+1 then some (⟨inc.b,inc.o,none⟩:Addr) else some ⟨inc.b,inc.o+(k+1),none⟩)=some ad:=by
     split
     ·exact ⟨_,rfl⟩
     ·exact ⟨_,rfl⟩
    have s0:∀t u,(gB c inc.o 1 es.length k)[t]?=some u->w.drew.cell? (ad.add t)=some u:=by
     intro t u htu
     have ht:=(Rx.1 htu).1
     rw [j8 _ (by omega)] at htu
     split at had
     ·exfalso
      have h0:es.length-(k+1)=0:=by omega
      rw [hnl,h0,TX] at ht
      exact absurd ht (Ts _)
     ·have had':=S4 had
      rw [<-had',cF,ij hh,<-htu]
      rw [show inc.o+(k+1)+t=inc.o+(k+1)*1+t by omega]
    have s3:∀t,t<(gB c inc.o 1 es.length k).length->(w.drew.cell? ⟨inc.b,inc.o+k*1+t,none⟩).isSome=true/\w.drew.frozen? ⟨inc.b,inc.o+k*1+t,none⟩=false:=by
     intro t ht
     refine ⟨?_,?_⟩
     ·rw [ij hh,R7 (by omega)]; rfl
     ·have:=hu (inc.o+k*1+t) (by omega)
      unfold World.frozen?
      rw [hh]
      exact this
    have hst:=bL Tryz.prog inc.b (inc.o+(es.length-1)*1) T fz z.cells.toList 0 _ _ hh1 hu1 (by omega) hok
    have hlast:k+(es.length-(k+1))=es.length-1:=by omega
    have hcl:∀ty,(Builtin.clear_ #[40] ty #[.slice (some ⟨inc.b,inc.o+(k+(es.length-(k+1))),none⟩) (es.length-(k+(es.length-(k+1)))) (cap-(k+(es.length-(k+1))))]).run Tryz.prog (w.drew.setRow inc.b (c1C c inc.o 1 es.length k))=.ok (.tuple #[]) ((w.drew.setRow inc.b (c1C c inc.o 1 es.length k)).setRow inc.b (c2C c inc.o 1 es.length k z.cells.toList)):=fun ty=>by
     rw [hlast,show es.length-(es.length-1)=1 by omega]
     refine pA Tryz.underlying40 hi hz (by omega) ?_
     rw [jQ]
     rw [TV] at hst
     rw [hst]
     unfold c2C
     rw [TV]; rfl
    refine (HB inc.b inc.o es.length cap k (k+1) w ad (gB c inc.o 1 es.length k) (by omega) (by omega) (by omega) had (by omega) s0 hnews s3 _ _ hW.symm hcl).mono ?_
    rintro e w' ⟨rfl,rfl⟩
    refine ⟨_,OK,g,rfl,?_,hR,(Ext.drew w OK g (w.drawn+1)).trans hE⟩
    rw [hlast]
    exact .sl _ id 0 (es.length-1) cap inc.o inc hinc (by omega) (by omega) hcap (fun h=>by simp)
  ·cases he
 ·cases he
end Tr
namespace Tr
open Go
open Cy (GC aP bj aE)
open Clu (aU aZ ay chA be cf bE)
def H54:aD:=fun _=>bp (ai GC []) 0 LO
theorem HY:ak Tryz.prog GC 104 H54:=(aM (ag aw) rfl at54 Ko aW.nil).y
theorem Lw (h:aR) (ha:cK A 2 a es) (hne:es≠[]) (hl:es.length<=1000):H54 h [a] A=some (.sl (A.length+1) 0 es.length,A++[.dead,.row 2 false es]):=by
 unfold H54
 rw [aX _ _ rfl]
 have hb:es.length*16<=140737488355328:=by omega
 rcases ha with h | ⟨id,off,gr,rs,rfl,h1,h2⟩
 ·rcases h with ⟨_,h⟩ | rfl
  ·exact absurd h hne
  ·simp [LO,dw,aK,aS,hb]
 ·have hid:=(Rx.1 h1).1
  have h1':∀T,(A++T)[id]?=some (.row 2 gr rs):=fun T=>by rw [RE hid,h1]
  simp [LO,dw,aK,aS,h1',h2,hb]
def NO:List (FuncId × aD):=[(104,H54),(103,H53)]
@[simp] theorem NM:aH NO 104=some H54:=rfl
@[simp] theorem NN:aH NO 103=some H53:=rfl
def H31:aD:=fun _=>bp (ai GC NO) 0 AO
theorem xc:ak Tryz.prog GC 67 H31:=(aM (ag (ae HY (ae HZ aw))) rfl Pa yQ aW.nil).y
theorem LB (h:aR) (ha:cK A 2 a es) (hl:es.length<=1000) (hk:k<es.length):H31 h [a,.int .i64 (k:Int)] A=some (.sl (A.length+1) 0 (es.length-1),A++[.dead,.row 2 false (o9 es k z7)]):=by
 have hne:es≠[]:=fun e=>by rw [e] at hk; exact absurd hk (Ts _)
 have c54:=fun hh=>Lw hh ha hne hl
 have b1:aq .add (.int .i64 (k:Int)) (.int .i64 1)=some (.int .i64 ((k:Int)+1)):=be (by omega)
 have c53:∀hh,H53 hh [.sl (A.length+1) 0 es.length,.int .i64 (k:Int),.int .i64 ((k:Int)+1)] (A++[.dead,.row 2 false es])=some (.sl (A.length+1) 0 (es.length-1),A++[.dead,.row 2 false (o9 es k z7)]):=fun hh=>by
  have:(A++[Ent.dead,.row 2 false es])[A.length+1]?=some (.row 2 false es):=by rw [a8]; rfl
  simp only [H53,this]
  rw [RL ⟨trivial,by omega,trivial,by omega⟩,RY,R9 _ _ (by omega),Sp]
  rfl
 generalize A++[Ent.dead,.row 2 false es]=A1 at *
 generalize (k:Int)+1=K1 at *
 unfold H31
 rw [aX _ _ rfl]
 simp [AO,c54,c53,b1,-aq]
def NL:List (FuncId × aD):=[(63,H40),(105,H55)]
@[simp] theorem NK:aH NL 63=some H40:=rfl
@[simp] theorem NJ:aH NL 105=some H55:=rfl
def H32:aD:=fun _=>bp (ai GC NL) 0 Hh
theorem rh:ak Tryz.prog GC 68 H32:=(aM (ag (ae nC (ae HX aw))) rfl O9 yP aW.nil).y
theorem LA (h:aR) (ha:cK A 1 a (ax xs)) (hl:xs.length<=1000) (hk:k<xs.length):H32 h [a,.int .i64 (k:Int)] A=some (.sl (A.length+1) 0 (xs.length-1),A++[.dead,.row 1 false (o9 (ax xs) k Ak)]):=by
 have hne:xs≠[]:=fun e=>by rw [e] at hk; exact absurd hk (Ts _)
 have c40:=fun hh=>Da hh ha hne hl
 have b1:aq .add (.int .i64 (k:Int)) (.int .i64 1)=some (.int .i64 ((k:Int)+1)):=be (by omega)
 have c55:∀hh,H55 hh [.sl (A.length+1) 0 xs.length,.int .i64 (k:Int),.int .i64 ((k:Int)+1)] (A++[.dead,.row 1 false (ax xs)])=some (.sl (A.length+1) 0 (xs.length-1),A++[.dead,.row 1 false (o9 (ax xs) k Ak)]):=fun hh=>by
  have:(A++[Ent.dead,.row 1 false (ax xs)])[A.length+1]?=some (.row 1 false (ax xs)):=by rw [a8]; rfl
  simp only [H55,this]
  rw [RL ⟨by rw [aE],by omega,trivial,by omega⟩,RY,R9 _ _ (by omega),Sp]
  rfl
 generalize A++[Ent.dead,.row 1 false (ax xs)]=A1 at *
 generalize (k:Int)+1=K1 at *
 unfold H32
 rw [aX _ _ rfl]
 simp [Hh,c40,c55,b1,-aq]
def mY {α:Type} (l:List α) (k:Nat):List α:=l.take k++l.drop (k+1)
theorem fj {α:Type} {l:List α} (h:k<l.length):(mY l k).length=l.length-1:=by simp [mY]; omega
theorem r9 {id sz:Nat} {za:AV} (h:A[id]?=some (.row sz false (o9 es k za))) (hk:k<es.length):cK A sz (.sl id 0 (es.length-1)) (mY es k):=by
 refine .inr ⟨id,0,false,_,by rw [fj hk],h,?_⟩
 rw [R2,fj hk]
 unfold o9 mY
 rw [List.take_append_of_le_length (by simp; omega)]
 exact RW (by simp; omega)
theorem qL {α β:Type} (f:α->β) (l:List α) (k:Nat):mY (l.map f) k=(mY l k).map f:=by simp [mY]
def md (T:aU) (k:Nat):aU:={T with ch:=mY T.ch k}
end Tr
namespace Tr
open Go
open Cy (GC gW aP bj aE)
open Clu (aU aZ ay chA be cf bE cG cS)
def gE:List (FuncId × aD):=(67,H31) :: (68,H32) :: uX
theorem qi:∀f M,aH gE f=some M->ak Tryz.prog GC f M:=ae xc (ae rh nD)
def H14:Nat->aD
 | 0=>fun h=>bp (dl GC gE h) 300 kR
 | k+1=>fun h=>bp (dl GC ((24,H14 k) :: gE) h) 300 kR
theorem lG:∀k,ak Tryz.prog GC 24 (H14 k)
 | 0=>bX qi CW mh aW.nil
 | k+1=>bX (ae (lG k) qi) CW mh aW.nil
section
variable {A:ac} {T:aU} {chv chF rdv rdF:AV} {rd:List Int} {free:Int}
def bB (rd:List Int) (i:Nat):List Bool:=(b0 rd).take i++List.replicate (rd.length-i) false
theorem CU (rd:List Int) (h:i<=rd.length):(bB rd i).length=rd.length:=by simp [bB,ey]; omega
theorem KO (rd:List Int) (h:i<rd.length):(bB rd i).set i (decide (0<=rd.getD i 0))=bB rd (i+1):=by
 apply TJ
 intro j
 have hb:(b0 rd)[i]?=some (decide (0<=rd.getD i 0)):=by
  have h1:=CV h
  rw [RC,RD (by rw [ey]; exact h)] at h1
  rw [RD (by rw [ey]; exact h)]
  simpa using h1
 by_cases hj:i=j
 ·subst hj
  rw [RO (by rw [CU rd (by omega)]; exact h)]
  unfold bB
  rw [RE (by simp [ey]; omega),TB,RL (by omega),hb]
 ·rw [RF hj]
  unfold bB
  by_cases h2:j<i
  ·rw [RE (by simp [ey]; omega),RE (by simp [ey]; omega),TB,TB,RL h2,RL (by omega)]
  ·rw [RS (by simp [ey]; omega),RS (by simp [ey]; omega)]
   simp only [SX,ey,S6]
   by_cases h3:j<rd.length
   ·rw [RL (by omega),RL (by omega)]
   ·rw [RN (by omega),RN (by omega)]
def Z14 (A:ac) (tv rdv:AV) (free:Int) (b:List Bool):ac:=A++[.row 5 false [tv],.row 1 false [rdv],.row 1 false [.int .i64 free],.row 1 false (a9 b)]
theorem FF (h:aR) (fs:List (FuncId × aD)) (hr:cK A 1 rdv (ax rd)) (hrl:rd.length<=100):∀(c i m:Nat),i+c=rd.length->c<m ->
  cc (evC (dl GC fs h) 300 lR) iG m (nA (.ptr A.length 0 0) (.ptr (A.length+1) 0 0) (.ptr (A.length+2) 0 0) (.sl (A.length+3) 0 rd.length) rdv (.int .i64 (rd.length:Int)) (.int .i64 (i:Int))) (Z14 A tv rdv free (bB rd i)) =
   some (.exit 2 ((nA (.ptr A.length 0 0) (.ptr (A.length+1) 0 0) (.ptr (A.length+2) 0 0) (.sl (A.length+3) 0 rd.length) rdv (.int .i64 (rd.length:Int)) (.int .i64 (rd.length:Int))).set 32 (.bool false)) (Z14 A tv rdv free (bB rd rd.length))):=by
 intro c
 induction c with
 | zero=>
  intro i m hi hm
  obtain ⟨m,rfl⟩:∃j,m=j+1:=⟨m-1,by omega⟩
  obtain rfl:i=rd.length:=by omega
  have b0':=bC rd.length rd.length .i64
  rw [RH (by omega)] at b0'
  rw [aO,zk]
  simp [lR,b0',-aq]
 | succ c ih=>
  intro i m hi hm
  obtain ⟨m,rfl⟩:∃j,m=j+1:=⟨m-1,by omega⟩
  have hil:i<rd.length:=by omega
  have b0':=bC i rd.length .i64
  rw [RJ hil] at b0'
  have b1:=bh i (by omega)
  obtain ⟨p,h1,h2⟩:=hr.int (B:=Z14 A tv rdv free (bB rd i)) (cu A _) hil .i64
  have hrd:rd[i]=rd.getD i 0:=by rw [RC,RD hil]; rfl
  rw [hrd] at h2
  have b2:=gW (rd.getD i 0)
  have hrow:(Z14 A tv rdv free (bB rd i))[A.length+3]?=some (.row 1 false (a9 (bB rd i))):=by unfold Z14; rw [a8]; rfl
  have i1:=eH (n:=rd.length) hrow hil .i64
  have s1:=sW hrow (show i<(bB rd i).length by rw [CU rd (by omega)]; exact hil) (decide (0<=rd.getD i 0))
  rw [KO rd hil] at s1
  have eS:(Z14 A tv rdv free (bB rd i)).set (A.length+3) (.row 1 false (a9 (bB rd (i+1))))=Z14 A tv rdv free (bB rd (i+1)):=by
   unfold Z14
   rw [R9 _ _ (by omega),Sp]; rfl
  rw [eS] at s1
  have hr':=ih (i+1) m (by omega) (by omega)
  obtain ⟨i1',hi1'⟩:∃i1:Nat,i1=i+1:=⟨_,rfl⟩
  rw [<-hi1'] at b1 s1 hr'
  have hrun:run (dl GC fs h) 300 [.code lR] (nA (.ptr A.length 0 0) (.ptr (A.length+1) 0 0) (.ptr (A.length+2) 0 0) (.sl (A.length+3) 0 rd.length) rdv (.int .i64 (rd.length:Int)) (.int .i64 (i:Int))) (Z14 A tv rdv free (bB rd i)) =
    some (.normal (nA (.ptr A.length 0 0) (.ptr (A.length+1) 0 0) (.ptr (A.length+2) 0 0) (.sl (A.length+3) 0 rd.length) rdv (.int .i64 (rd.length:Int)) (.int .i64 (i1':Int))) (Z14 A tv rdv free (bB rd i1'))):=by
   generalize Z14 A tv rdv free (bB rd i)=B0 at *
   generalize Z14 A tv rdv free (bB rd i1')=B1 at *
   generalize decide (0<=rd.getD i 0)=q at *
   generalize rd.getD i 0=z at *
   simp [lR,b0',b1,b2,h1,h2,i1,s1,-aq,-af,-au,-aC]
  rw [aO,zk,hrun]
  exact hr'
theorem qk (h:X[n]?=some e):X.set n e=X:=by
 apply TJ
 intro q
 by_cases hq:n=q
 ·subst hq; rw [RO (Rx.1 h).1,h]
 ·rw [RF hq]
def RV (lo:Nat) (B:ac) (v:AV) (l:List cY):Prop:=(v=.nilS/\l=[])\/∃i,lo<=i/\v=.sl i 0 l.length/\B[i]?=some (.row 2 false (l.map bn))
theorem pY (fs:List (FuncId × aD)) (h29:aH fs 64=some (aG 4 M29)) (h30:aH fs 57=some (aG 4 M30)) (h34:aH fs 70=some H34) (h17:aH fs 22=some (aG 4 M17)) (h33:aH fs 69=some H33) (h56:aH fs 106=some H56) (hT:Tl A T chv chF) (hr:Rl A rd rdv rdF) (hTl:T.ch.length<=200) (hrl:rd.length<=200) :
  ∃v B,bp (ai GC fs) 300 kR [ay T chv,rdv,.int .i64 free,.int .i64 0] A=some (.tup [v,.bool (cn T rd free).isSome],B)/\(∃R,B=A++R)/\RV A.length B v ((cn T rd free).getD []):=by
 have m29:=zS hT.sF hTl hr.sF hrl free
 obtain ⟨tv,htv⟩:∃tv,tv=ay T chv:=⟨_,rfl⟩
 obtain ⟨R0,hR0⟩:∃R0,R0=[Ent.row 5 false [tv],.row 1 false [rdv],.row 1 false [.int .i64 free]]:=⟨_,rfl⟩
 have hsol:rdv.solid=true/\cellsOf rdv=[rdv]:=by rcases hr.h.form with (e | ⟨e,l,e'⟩) | ⟨a,b,c,e⟩ <;> simp_all [AV.solid,cellsOf]
 have bx1:aY 5 tv A=some (.ptr A.length 0 0,A++[.row 5 false [tv]]):=by rw [htv]; rfl
 have bx2:aY 1 rdv (A++[.row 5 false [tv]])=some (.ptr (A.length+1) 0 0,A++[.row 5 false [tv],.row 1 false [rdv]]):=by
  unfold aY
  rw [RL ⟨by omega,hsol.1,by rw [hsol.2]; rfl⟩]
  simp
 have bx3:aY 1 (.int .i64 free) (A++[.row 5 false [tv],.row 1 false [rdv]])=some (.ptr (A.length+2) 0 0,A++R0):=by rw [hR0]; simp [aY,AV.solid,cellsOf]
 have ct:(cellsOf tv).length=5:=by rw [htv]; rfl
 have ci:(cellsOf (.int .i64 free)).length=1:=rfl
 have hD:D14 A tv rdv free (A++R0):=by
  rw [hR0]
  exact ⟨⟨_,rfl⟩,by simp,by rw [a8]; rfl,by rw [a8]; rfl⟩
 obtain ⟨l4,l5,l6⟩:=(htv ▸ hD:D14 A (ay T chv) rdv free (A++R0)).loads (tv:=tv) hr.h.form
 have f4:=hT.fz R0
 have f5:=hr.fz R0
 have lnr:=hr.h.len
 rw [aE] at lnr
 have m30:M30 [.int .i64 0,.int .i64 0,.int .i64 (rd.length:Int)]=some (.bool true):=by
  rw [dS,dt.2 (by omega)]
 have b1:=cS 0 0
 rw [RH (by omega)] at b1
 rw [<-htv] at l4 f4
 by_cases hS:Sit T rd free
 rotate_left
 ·rw [RH hS] at m29
  have hd:cn T rd free=none:=RN hS
  refine ⟨.nilS,A++R0,?_,⟨R0,rfl⟩,.inl ⟨rfl,by rw [hd]; rfl⟩⟩
  rw [hd,<-htv]
  generalize A++R0=Z at *
  rw [aX _ _ rfl]
  simp [kR,bx1,bx2,bx3,ct,ci,hsol.2,l4,l5,l6,h29,f4,f5,aP,m29,bP,dw,-aY,-af,-frz,-cellsOf]
 rw [RJ hS] at m29
 have hsl:=gH hS
 have hd:(cn T rd free).isSome=(drF T rd free).isSome/\(cn T rd free).getD []=((drF T rd free).map (·.1)).getD []:=by
  unfold cn
  rw [RL hS]
  cases drF T rd free <;> exact ⟨rfl,rfl⟩
 obtain ⟨hE1,hE2⟩:=z6 (A:=A) (rdv:=rdv) hS tv
 have mk:cr 1 1 (.bool false) (A++R0) (.int .i64 (rd.length:Int)) (.int .i64 (rd.length:Int))=some (.sl (A.length+3) 0 rd.length,Z14 A tv rdv free (bB rd 0)):=by
  have hl3:(A++R0).length=A.length+3:=by rw [hR0]; simp
  simp only [cr]
  have eZ:A++R0++[Ent.row 1 false (List.replicate rd.length (.bool false))]=Z14 A tv rdv free (bB rd 0):=by
   unfold Z14 bB a9
   rw [hR0]
   simp
  rw [RL ⟨by omega,by omega,by omega,by omega,rfl,rfl,by omega⟩,hl3,RY,eZ]
 have lpb:=FF (tv:=tv) (free:=free) (fun _ _ _=>none) fs hr.h (by omega) rd.length 0 300 (by omega) (by omega)
 have lpb:cc (evC (ai GC fs) 300 lR) iG 300 (nA (.ptr A.length 0 0) (.ptr (A.length+1) 0 0) (.ptr (A.length+2) 0 0) (.sl (A.length+3) 0 rd.length) rdv (.int .i64 (rd.length:Int)) (.int .i64 0)) (Z14 A tv rdv free (bB rd 0))=_:=lpb
 have hbB:bB rd rd.length=b0 rd:=by
  unfold bB
  rw [TY,List.replicate_zero,Sm]
  exact RW (by rw [ey]; exact RT _)
 rw [hbB] at lpb
 have hDZ:∀W,D14 A tv rdv free (Z14 A tv rdv free (bB rd 0)++W):=fun W=>by
  unfold Z14
  rw [RX]
  exact ⟨⟨_,rfl⟩,by simp,by rw [a8]; rfl,by rw [a8]; rfl⟩
 obtain ⟨_,l5b,_⟩:=(htv ▸ (by simpa using hDZ []):D14 A (ay T chv) rdv free (Z14 A tv rdv free (bB rd 0))).loads (tv:=tv) hr.h.form
 obtain ⟨ZA,hZA⟩:∃ZA,ZA=Z14 A tv rdv free (b0 rd):=⟨_,rfl⟩
 have hZAl:ZA.length=A.length+4:=by rw [hZA]; simp [Z14]
 have e15:aY 1 .nilS ZA=some (.ptr (A.length+4) 0 0,ZA++[.row 1 false [.nilS]]):=by simp [aY,AV.solid,cellsOf,hZAl]
 have e16:aY 1 (.int .i64 0) (ZA++[.row 1 false [.nilS]])=some (.ptr (A.length+5) 0 0,ZA++[.row 1 false [.nilS],.row 1 false [.int .i64 0]]):=by simp [aY,AV.solid,cellsOf,hZAl]
 have e17:aY 1 (.bool false) (ZA++[.row 1 false [.nilS],.row 1 false [.int .i64 0]])=some (.ptr (A.length+6) 0 0,ZA++[.row 1 false [.nilS],.row 1 false [.int .i64 0],.row 1 false [.bool false]]):=by simp [aY,AV.solid,cellsOf,hZAl]
 obtain ⟨ZB,hZB⟩:∃ZB,ZB=ZA++[Ent.row 1 false [.nilS],.row 1 false [.int .i64 0],.row 1 false [.bool false]]:=⟨_,rfl⟩
 have g5:ZB[A.length+5]?=some (.row 1 false [.int .i64 0]):=by rw [hZB,show A.length+5=ZA.length+1 by omega,a8]; rfl
 have g6:ZB[A.length+6]?=some (.row 1 false [.bool false]):=by rw [hZB,show A.length+6=ZA.length+2 by omega,a8]; rfl
 have s16:aC 1 ZB (.ptr (A.length+5) 0 0) (.int .i64 0)=some ZB:=by
  rw [gG g5 rfl rfl,qk g5]
 have s17:aC 1 ZB (.ptr (A.length+6) 0 0) (.bool false)=some ZB:=by
  rw [gG g6 rfl rfl,qk g6]
 have c33:∀hh,H33 hh [.sl (A.length+3) 0 rd.length] ZB=some (.func (.func 106) [] [.ptr (A.length+7) 0 0],X14 A tv rdv free (b0 rd)):=fun hh=>by
  have hl7:ZB.length=A.length+7:=by rw [hZB]; simp [hZAl]
  have eX:ZB++[Ent.row 1 false [.sl (A.length+3) 0 rd.length]]=X14 A tv rdv free (b0 rd):=by
   rw [hZB,hZA]
   unfold X14 Z14
   rw [ey]
   simp
  rw [Lz,hl7,eX]
 have rg:=fun K=>EV (A:=A) (T:=T) (chv:=chv) (rdv:=rdv) (free:=free) fs h34 h17 h56 hT hr hS .undef .undef .undef .undef .undef .undef .undef .undef .undef (.sl (A.length+3) 0 rd.length) .undef .undef .undef .undef .undef .undef .undef .undef .undef .undef .undef .undef .undef .undef .undef .undef .undef .undef .undef .undef K
 rw [hd.1,hd.2]
 obtain ⟨EE,hEE⟩:∃EE,EE=E14 A T tv rdv rd free:=⟨_,rfl⟩
 rw [<-hEE] at hE1 hE2
 rw [<-htv,<-hEE] at rg
 have fin:∀(v:AV) (q:Bool),af false 1 EE (.ptr (A.length+4) 0 0)=some v->af false 1 EE (.ptr (A.length+6) 0 0)=some (.bool q) ->
   bp (ai GC fs) 300 kR [ay T chv,rdv,.int .i64 free,.int .i64 0] A=some (.tup [v,.bool q],EE):=fun v q hv hq=>by
  rw [<-htv]
  rw [hZB] at s16 s17 c33
  generalize hXX:X14 A tv rdv free (b0 rd)=XX at *
  generalize ZA++[Ent.row 1 false [.nilS],.row 1 false [.int .i64 0],.row 1 false [.bool false]]=ZB1 at *
  generalize ZA++[Ent.row 1 false [.nilS],.row 1 false [.int .i64 0]]=ZB2 at *
  generalize ZA++[Ent.row 1 false [.nilS]]=ZB3 at *
  rw [<-hZA] at lpb
  generalize Z14 A tv rdv free (bB rd 0)=Z0 at *
  generalize A++R0=Z at *
  generalize hn:(rd.length:Int)=n at *
  rw [aX _ _ rfl]
  simp [kR,bx1,bx2,bx3,ct,ci,hsol.2,l4,l5,l6,h29,h30,f4,f5,aP,m29,m30,bP,lnr,b1,mk,l5b,Jz lpb,e15,e16,e17,s16,s17,h33,c33,rg,hv,hq,dw,-aY,-af,-aC,-frz,-cellsOf,-aq,-cr,-az,-dS]
 cases hdF:drF T rd free with
 | none=>
  rw [hdF] at hE2
  obtain ⟨_,q1,_,q3⟩:=hE2
  refine ⟨.nilS,EE,fin _ _ (by simp only [af,q1]; rfl) (by simp only [af,q3]; rfl),hE1,.inl ⟨rfl,rfl⟩⟩
 | some x=>
  rw [hdF] at hE2
  obtain ⟨_,⟨i,hi,q1,q2⟩,_,q3⟩:=hE2
  refine ⟨.sl i 0 x.1.length,EE,fin _ _ (by simp only [af,q1]; rfl) (by simp only [af,q3]; rfl),hE1,.inr ⟨i,by omega,rfl,q2⟩⟩
end
end Tr
namespace Tr
open Go
open Cy (GC gW aP bj aE)
open Clu (aU aZ ay chA be cf bE cG cS)
def ik (lost:Int) (t:cY):cY:=if lost<=t.1 then (t.1+1,t.2) else t
def iR (lost:Int) (l:List cY) (j:Nat):List cY:=(l.take j).map (ik lost)++l.drop j
theorem zq (lost:Int) (l:List cY) (j:Nat):(iR lost l j).length=l.length:=by simp [iR]; omega
theorem zu (lost:Int) {l:List cY} (h:j<l.length):(iR lost l j)[j]?=some l[j]:=by
 unfold iR
 rw [RS (by simp; omega),SJ]
 simp only [RR,SX]
 rw [show j+(j-min j l.length)=j by omega,RD h]
theorem zp (lost:Int) {l:List cY} (h:j<l.length):(iR lost l j).set j (ik lost l[j])=iR lost l (j+1):=by
 unfold iR
 rw [R9 _ _ (by simp; omega),List.take_add_one,ST,RD h,RX]
 congr 1
 simp only [RR,SX]
 rw [show j-min j l.length=0 by omega,SM h]
 rfl
section
variable {B:ac} {i:Nat} {l:List cY} {lost:Int}
theorem FO (h:B[i]?=some (.row 2 false (l.map bn))) (hj:j<n) (kk:IntKind):au 2 B (.sl i 0 n) (.int kk (j:Int))=some (.ptr i j 0):=by
 simp only [au,h]
 rw [RL ⟨trivial,by omega,by omega,by omega⟩]
 simp
theorem FM (h:B[i]?=some (.row 2 false (l.map bn))) {t:cY} (hj:l[j]?=some t):aa 0 B (.ptr i j 0)=some (.ptr i j 0)/\af false 1 B (.ptr i j 0)=some (.int .i64 t.1):=by
 have e:(l.map bn)[j]?=some (bn t):=by simp [hj]
 refine ⟨by simp [aa,h],?_⟩
 simp only [af,h,e]
 rfl
theorem Dq (h:B[i]?=some (.row 2 false (l.map bn))) {t:cY} (hj:l[j]?=some t) (z:Int):aC 1 B (.ptr i j 0) (.int .i64 z)=some (B.set i (.row 2 false ((l.set j (z,t.2)).map bn))):=by
 have e:(l.map bn)[j]?=some (bn t):=by simp [hj]
 have e2:(l.map bn).set j (bn (z,t.2))=(l.set j (z,t.2)).map bn:=by rw [Uh]
 simp only [aC,h,e]
 rw [RL ⟨trivial,rfl,rfl,by omega⟩,<-e2]
 rfl
theorem FG (h:aR) (fs:List (FuncId × aD)) (ok:AV) (hl:l.length<=100) (hb:∀t∈l,-1000<=t.1/\t.1<=1000):∀(c j m:Nat) (B:ac),j+c=l.length->B[i]?=some (.row 2 false ((iR lost l j).map bn))->c<m ->
  ∃B',cc (evC (dl GC fs h) 300 jh) iH m (lD (.int .i64 lost) (.sl i 0 l.length) ok (.int .i64 (l.length:Int)) (.int .i64 (j:Int))) B =
   some (.exit 0 ((lD (.int .i64 lost) (.sl i 0 l.length) ok (.int .i64 (l.length:Int)) (.int .i64 (l.length:Int))).set 27 (.bool false)) B')/\B'=B.set i (.row 2 false ((l.map (ik lost)).map bn)):=by
 intro c
 induction c with
 | zero=>
  intro j m B hj hB hm
  obtain ⟨m,rfl⟩:∃j,m=j+1:=⟨m-1,by omega⟩
  obtain rfl:j=l.length:=by omega
  have b0':=bC l.length l.length .i64
  rw [RH (by omega)] at b0'
  have e:iR lost l l.length=l.map (ik lost):=by unfold iR; rw [Sj,TP,Sm]
  rw [e] at hB
  refine ⟨B,?_,(qk hB).symm⟩
  rw [aO,vo]
  simp [jh,b0',-aq]
 | succ c ih=>
  intro j m B hj hB hm
  obtain ⟨m,rfl⟩:∃j,m=j+1:=⟨m-1,by omega⟩
  have hjl:j<l.length:=by omega
  have hil:=(Rx.1 hB).1
  have b0':=bC j l.length .i64
  rw [RJ hjl] at b0'
  have b1:=bh j (by omega)
  have i1:=FO (n:=l.length) hB hjl .i64
  have hg:=zu lost hjl
  obtain ⟨f0,l0⟩:=FM hB hg
  have s1:=Dq hB hg (l[j].1+1)
  have hbj:=hb _ (RM hjl)
  have b2:aq .geq (.int .i64 l[j].1) (.int .i64 lost)=some (.bool (decide (lost<=l[j].1))):=by simp [aq]
  have b3:aq .add (.int .i64 l[j].1) (.int .i64 1)=some (.int .i64 (l[j].1+1)):=be (by omega)
  have hset:=zp lost hjl
  obtain ⟨B1,hrun,hB1,hBB⟩:∃B1,run (dl GC fs h) 300 [.code jh] (lD (.int .i64 lost) (.sl i 0 l.length) ok (.int .i64 (l.length:Int)) (.int .i64 (j:Int))) B =
    some (.normal (lD (.int .i64 lost) (.sl i 0 l.length) ok (.int .i64 (l.length:Int)) (.int .i64 ((j+1:Nat):Int))) B1)/\B1[i]?=some (.row 2 false ((iR lost l (j+1)).map bn))/\∀e,B1.set i e=B.set i e:=by
   obtain ⟨i1',hi1'⟩:∃i1:Nat,i1=j+1:=⟨_,rfl⟩
   rw [<-hi1'] at b1 ⊢
   unfold ik at hset
   by_cases hlo:lost<=l[j].1
   ·rw [RL hlo,<-hi1'] at hset
    rw [RJ hlo] at b2
    rw [hset] at s1
    refine ⟨_,?_,RO hil,fun e=>Up ..⟩
    generalize B.set i (.row 2 false ((iR lost l i1').map bn))=B1 at *
    generalize l[j].1+1=z1 at *
    generalize l[j].1=z0 at *
    generalize (l.length:Int)=M at *
    generalize (i1':Int)=I1 at *
    generalize (j:Int)=J at *
    simp [jh,b0',b1,b2,b3,i1,f0,l0,s1,-aq,-af,-aa,-au,-aC]
   ·rw [RN hlo,<-hi1'] at hset
    rw [RH hlo] at b2
    refine ⟨B,?_,?_,fun e=>rfl⟩
    ·generalize l[j].1=z0 at *
     generalize (l.length:Int)=M at *
     generalize (i1':Int)=I1 at *
     generalize (j:Int)=J at *
     simp [jh,b0',b1,b2,i1,f0,l0,-aq,-af,-aa,-au,-aC]
    ·have:(iR lost l j).set j l[j]=iR lost l j:=by
      apply TJ
      intro q
      by_cases hq:j=q
      ·subst hq; rw [RO (by rw [zq]; exact hjl),hg]
      ·rw [RF hq]
     rw [<-hset,this]; exact hB
  obtain ⟨B',h1,h2⟩:=ih (j+1) m B1 (by omega) hB1 (by omega)
  refine ⟨B',?_,by rw [h2,hBB]⟩
  rw [aO,vo,hrun]
  exact h1
end
def dj (T:aU) (rd:List Int) (free lost:Int):Option (List cY):=
 if Sit T rd free/\0<=lost/\lost<=rd.length then
  (if lost=0 then cn T rd free else if T.ch.length=1 then some [] else (cn (md T (lost-1).toNat) (mY rd (lost-1).toNat) free).map fun l=>l.map (ik lost))
 else none
theorem ou {T:aU} {l:List cY} (h:cn T rd free=some l):l.length<=10/\∀t∈l,1<=t.1/\t.1<=T.ch.length:=by
 have hE:=qJ h
 obtain ⟨hS,_⟩:=iL h
 refine ⟨by have:=ot hS hE; rw [RR] at this; exact this,fun t ht=>?_⟩
 have:=uc hE t.1 (R1.2 ⟨t,ht,rfl⟩)
 rw [ey,hS.2.1] at this
 exact this
end Tr
namespace Tr
open Go
open Cy (GC gW aP bj aE)
open Clu (aU aZ ay chA be cf bE cG cS)
section
variable {A:ac} {T:aU} {chv chF rdv rdF:AV} {rd:List Int} {free:Int}
theorem As {R:ac} {e':Ent} (_h:(A++R)[A.length]?=some e):∃R',(A++R).set A.length e'=A++R':=⟨R.set 0 e',by rw [R9 _ _ (RT _),TY]⟩
theorem wn {lost:Int} (hl0:lost≠0) (hT:Tl A T chv chF) (hr:Rl A rd rdv rdF) (hTl:T.ch.length<=200) (hrl:rd.length<=200) :
  ∃v B,bp (ai GC ((24,H14 0) :: gE)) 300 kR [ay T chv,rdv,.int .i64 free,.int .i64 lost] A=some (.tup [v,.bool (dj T rd free lost).isSome],B)/\(∃R,B=A++R)/\RV A.length B v ((dj T rd free lost).getD []):=by
 have m29:=zS hT.sF hTl hr.sF hrl free
 obtain ⟨tv,htv⟩:∃tv,tv=ay T chv:=⟨_,rfl⟩
 obtain ⟨R0,hR0⟩:∃R0,R0=[Ent.row 5 false [tv],.row 1 false [rdv],.row 1 false [.int .i64 free]]:=⟨_,rfl⟩
 have hsol:rdv.solid=true/\cellsOf rdv=[rdv]:=by rcases hr.h.form with (e | ⟨e,l,e'⟩) | ⟨a,b,c,e⟩ <;> simp_all [AV.solid,cellsOf]
 have bx1:aY 5 tv A=some (.ptr A.length 0 0,A++[.row 5 false [tv]]):=by rw [htv]; rfl
 have bx2:aY 1 rdv (A++[.row 5 false [tv]])=some (.ptr (A.length+1) 0 0,A++[.row 5 false [tv],.row 1 false [rdv]]):=by
  unfold aY
  rw [RL ⟨by omega,hsol.1,by rw [hsol.2]; rfl⟩]
  simp
 have bx3:aY 1 (.int .i64 free) (A++[.row 5 false [tv],.row 1 false [rdv]])=some (.ptr (A.length+2) 0 0,A++R0):=by rw [hR0]; simp [aY,AV.solid,cellsOf]
 have ct:(cellsOf tv).length=5:=by rw [htv]; rfl
 have ci:(cellsOf (.int .i64 free)).length=1:=rfl
 have hD:D14 A tv rdv free (A++R0):=by
  rw [hR0]
  exact ⟨⟨_,rfl⟩,by simp,by rw [a8]; rfl,by rw [a8]; rfl⟩
 obtain ⟨l4,l5,l6⟩:=(htv ▸ hD:D14 A (ay T chv) rdv free (A++R0)).loads (tv:=tv) hr.h.form
 have f4:=hT.fz R0
 have f5:=hr.fz R0
 have lnr:=hr.h.len
 rw [aE] at lnr
 have m30:=dS lost 0 (rd.length:Int)
 have h29:aH gE 64=some (aG 4 M29):=rfl
 have h30:aH gE 57=some (aG 4 M30):=rfl
 have b1:=cS lost 0
 rw [<-htv] at l4 f4
 by_cases hS:Sit T rd free
 rotate_left
 ·rw [RH hS] at m29
  have hd:dj T rd free lost=none:=RN (fun h=>hS h.1)
  refine ⟨.nilS,A++R0,?_,⟨R0,rfl⟩,.inl ⟨rfl,by rw [hd]; rfl⟩⟩
  rw [hd,<-htv]
  generalize A++R0=Z at *
  rw [aX _ _ rfl]
  simp [kR,bx1,bx2,bx3,ct,ci,hsol.2,l4,l5,l6,h29,f4,f5,aP,m29,bP,dw,-aY,-af,-frz,-cellsOf]
 rw [RJ hS] at m29
 by_cases hl:0<=lost/\lost<=(rd.length:Int)
 rotate_left
 ·have mb:mG lost 0 (rd.length:Int)=false:=by
   cases e:mG lost 0 (rd.length:Int)
   ·rfl
   ·exact absurd (dt.1 e) hl
  rw [mb] at m30
  have hd:dj T rd free lost=none:=RN (fun h=>hl h.2)
  refine ⟨.nilS,A++R0,?_,⟨R0,rfl⟩,.inl ⟨rfl,by rw [hd]; rfl⟩⟩
  rw [hd,<-htv]
  generalize A++R0=Z at *
  generalize (rd.length:Int)=N at *
  rw [aX _ _ rfl]
  simp [kR,bx1,bx2,bx3,ct,ci,hsol.2,l4,l5,l6,h29,h30,f4,f5,aP,m29,m30,lnr,bP,dw,-aY,-af,-az,-frz,-cellsOf,-dS]
 have mb:mG lost 0 (rd.length:Int)=true:=dt.2 hl
 rw [mb] at m30
 rw [RJ (by omega)] at b1
 have hsl:=gH hS
 obtain ⟨k,hk⟩:∃k:Nat,lost-1=(k:Int):=⟨(lost-1).toNat,by omega⟩
 have hkr:k<rd.length:=by omega
 have hkc:k<T.ch.length:=by rw [<-hS.2.1]; exact hkr
 have hTeq:(lost-1).toNat=k:=by omega
 have b2:aq .sub (.int .i64 lost) (.int .i64 1)=some (.int .i64 (k:Int)):=by rw [cf (by omega),hk]
 have hdM:dj T rd free lost=if T.ch.length=1 then some [] else (cn (md T k) (mY rd k) free).map fun l=>l.map (ik lost):=by
  unfold dj
  rw [RL ⟨hS,hl⟩,RN hl0,hTeq]
 have hcm:k<(T.ch.map chA).length:=by rw [RR]; exact hkc
 have hZl:(A++R0).length=A.length+3:=by rw [hR0]; simp
 have c31:=fun hh=>LB hh (hT.h.app R0) (by rw [RR]; omega) hcm
 rw [RR,hZl] at c31
 obtain ⟨Z2,hZ2⟩:∃Z2,Z2=A++R0++[Ent.dead,.row 2 false (o9 (T.ch.map chA) k z7)]:=⟨_,rfl⟩
 rw [<-hZ2] at c31
 have hD2:D14 A tv rdv free Z2:=by rw [hZ2]; exact hD.app _
 have hZ2r:Z2[A.length+4]?=some (.row 2 false (o9 (T.ch.map chA) k z7)):=by rw [hZ2,show A.length+4=(A++R0).length+1 by omega,a8]; rfl
 have hZ2l:Z2.length=A.length+5:=by rw [hZ2,R8,hZl]; rfl
 obtain ⟨tv',htv'⟩:∃tv',tv'=ay (md T k) (.sl (A.length+3+1) 0 (T.ch.length-1)):=⟨_,rfl⟩
 obtain ⟨Z3,hZ3⟩:∃Z3,Z3=Z2.set A.length (.row 5 false [tv']):=⟨_,rfl⟩
 have fa:∀(Z:ac) (t:AV),Z[A.length]?=some (.row 5 false [t])->aa 0 Z (.ptr A.length 0 0)=some (.ptr A.length 0 0):=fun Z t h=>by simp [aa,h]
 have fa1:=fa _ _ hD.r0
 have fa2:=fa _ _ hD2.r0
 have lc:af false 1 (A++R0) (.ptr A.length 0 0)=some chv:=by
  simp only [af,hD.r0,htv]
  rcases hT.h.form with (rfl | ⟨e,l,rfl⟩) | ⟨a,b,c,rfl⟩ <;> rfl
 have st3:aC 1 Z2 (.ptr A.length 0 0) (.sl (A.length+3+1) 0 (T.ch.length-1))=some Z3:=by
  have:=hD2.r0
  rw [htv] at this
  rw [hZ3,htv']
  simp only [aC,this]
  rfl
 have hZ3l:Z3.length=A.length+5:=by rw [hZ3,SA,hZ2l]
 obtain ⟨R3,hR3⟩:∃R3,Z3=A++R3:=by
  obtain ⟨R,hR⟩:=hD2.pre
  rw [hZ3,hR]
  exact As (by rw [<-hR]; exact hD2.r0)
 have hD3:D14 A tv' rdv free Z3:=⟨⟨R3,hR3⟩,by rw [hZ3,RO (by omega)],by rw [hZ3,RF (by omega)]; exact hD2.r1,by rw [hZ3,RF (by omega)]; exact hD2.r2⟩
 have fa3:=fa _ _ hD3.r0
 have lc3:af false 1 Z3 (.ptr A.length 0 0)=some (.sl (A.length+3+1) 0 (T.ch.length-1)):=by simp only [af,hD3.r0,htv']; rfl
 have lnc:az (.sl (A.length+3+1) 0 (T.ch.length-1))=some (.int .i64 ((T.ch.length-1:Nat):Int)):=rfl
 have b3:=bE ((T.ch.length-1:Nat):Int) 0
 have h31:aH gE 67=some H31:=rfl
 rw [hdM]
 by_cases hn1:T.ch.length=1
 ·rw [RL hn1]
  rw [RJ (by omega)] at b3
  refine ⟨.nilS,Z3,?_,⟨R3,hR3⟩,.inl ⟨rfl,rfl⟩⟩
  rw [<-htv]
  generalize A++R0=Z at *
  generalize (rd.length:Int)=N at *
  generalize ((T.ch.length-1:Nat):Int)=N1 at *
  generalize T.ch.length-1=n1 at *
  rw [aX _ _ rfl]
  simp [kR,bx1,bx2,bx3,ct,ci,hsol.2,l4,l5,l6,h29,h30,h31,f4,f5,aP,m29,m30,lnr,b1,b2,b3,fa1,fa2,fa3,lc,lc3,lnc,c31,st3,bP,dw,-aY,-af,-aC,-aa,-az,-frz,-cellsOf,-aq,-dS]
 rw [RN hn1]
 rw [RH (by omega)] at b3
 have hr3:Rl Z3 rd rdv rdF:=by rw [hR3]; exact hr.app R3
 have c32:=fun hh=>LA hh hr3.h (by omega) hkr
 obtain ⟨Z4,hZ4⟩:∃Z4,Z4=Z3++[Ent.dead,.row 1 false (o9 (ax rd) k Ak)]:=⟨_,rfl⟩
 rw [<-hZ4,hZ3l] at c32
 have hD4:D14 A tv' rdv free Z4:=by rw [hZ4]; exact hD3.app _
 obtain ⟨g4,g5,g6⟩:=(htv' ▸ hD3:D14 A (ay (md T k) (.sl (A.length+3+1) 0 (T.ch.length-1))) rdv free Z3).loads (tv:=tv) hr.h.form
 obtain ⟨_,_,k6⟩:=(htv' ▸ hD4:D14 A (ay (md T k) (.sl (A.length+3+1) 0 (T.ch.length-1))) rdv free Z4).loads (tv:=tv) hr.h.form
 rw [<-htv'] at g4
 have hh1:cK Z4 2 (.sl (A.length+3+1) 0 (T.ch.length-1)) ((md T k).ch.map chA):=by
  have hrow:Z4[A.length+4]?=some (.row 2 false (o9 (T.ch.map chA) k z7)):=by
   rw [hZ4,cu Z3 _ _ (by omega),hZ3,RF (by omega),hZ2r]
  have:=r9 hrow hcm
  rw [RR,qL] at this
  exact this
 have hh2:cK Z4 1 (.sl (A.length+5+1) 0 (rd.length-1)) (ax (mY rd k)):=by
  have hrow:Z4[A.length+6]?=some (.row 1 false (o9 (ax rd) k Ak)):=by
   rw [hZ4,show A.length+6=Z3.length+1 by omega,a8]; rfl
  have:=r9 hrow (show k<(ax rd).length by rw [aE]; exact hkr)
  rw [aE] at this
  unfold ax at this ⊢
  rw [qL] at this
  exact this
 obtain ⟨aF,hTa⟩:=Tl.of hh1
 obtain ⟨bF,hRb⟩:=Rl.of hh2
 obtain ⟨v,B,hc14,⟨RB,hB⟩,hRV⟩:=pY (A:=Z4) (T:=md T k) (rd:=mY rd k) (free:=free) gE rfl rfl rfl rfl rfl rfl hTa hRb (by rw [show (md T k).ch.length=T.ch.length-1 from fj hkc]; omega) (by rw [fj hkr]; omega)
 rw [<-htv'] at hc14
 have hc14:H14 0 (fun _ _ _=>none) [tv',.sl (A.length+5+1) 0 (rd.length-1),.int .i64 free,.int .i64 0] Z4=_:=hc14
 have h32:aH gE 68=some H32:=rfl
 have hq1:Z4[A.length]?=Z3[A.length]?:=by rw [hD4.r0,hD3.r0]
 have hq2:Z4[A.length+2]?=Z3[A.length+2]?:=by rw [hD4.r2,hD3.r2]
 have r40:=hD4.r0
 have r42:=hD4.r2
 have r30:=hD3.r0
 have r32:=hD3.r2
 obtain ⟨L,hL⟩:∃L,L=(cn (md T k) (mY rd k) free).getD []:=⟨_,rfl⟩
 rw [<-hL] at hRV
 have hLb:L.length<=10/\∀t∈L,1<=t.1/\t.1<=4:=by
  rw [hL]
  cases hdr:cn (md T k) (mY rd k) free with
  | none=>exact ⟨by simp,fun t ht=>by simp at ht⟩
  | some l=>
   obtain ⟨q1,q2⟩:=ou hdr
   have:(md T k).ch.length=T.ch.length-1:=fj hkc
   refine ⟨q1,fun t ht=>?_⟩
   have:=q2 t ht
   have:=hS.1.1.2.2.2.1
   omega
 have hres:(((cn (md T k) (mY rd k) free).map fun l=>l.map (ik lost)).isSome=(cn (md T k) (mY rd k) free).isSome)/\((cn (md T k) (mY rd k) free).map fun l=>l.map (ik lost)).getD []=L.map (ik lost):=by
  rw [hL]
  cases cn (md T k) (mY rd k) free <;> exact ⟨rfl,rfl⟩
 rw [hres.1,hres.2]
 generalize (cn (md T k) (mY rd k) free).isSome=ok at *
 obtain ⟨R4,hR4⟩:=hD4.pre
 have hZ4l:A.length<=Z4.length:=by rw [hR4]; simp
 obtain ⟨lnv,B',lp,hB',hRV'⟩:az v=some (.int .i64 (L.length:Int))/\∃B',cc (evC (ai GC ((24,H14 0) :: gE)) 300 jh) iH 300 (lD (.int .i64 lost) v (.bool ok) (.int .i64 (L.length:Int)) (.int .i64 0)) B =
   some (.exit 0 ((lD (.int .i64 lost) v (.bool ok) (.int .i64 (L.length:Int)) (.int .i64 (L.length:Int))).set 27 (.bool false)) B')/\(∃R,B'=A++R)/\RV A.length B' v (L.map (ik lost)):=by
  rcases hRV with ⟨rfl,hnil⟩ | ⟨i,hi,rfl,hrow⟩
  ·rw [hnil]
   refine ⟨rfl,B,?_,⟨R4++RB,by rw [hB,hR4,RX]⟩,.inl ⟨rfl,rfl⟩⟩
   have b0':=bC 0 0 .i64
   rw [RH (by omega)] at b0'
   have b0':aq .lss (.int .i64 0) (.int .i64 0)=some (.bool false):=b0'
   rw [show (300:Nat)=299+1 from rfl,aO,vo]
   simp [jh,b0',-aq]
  ·have h0:iR lost L 0=L:=by simp [iR]
   obtain ⟨B',h1,h2⟩:=FG (i:=i) (l:=L) (lost:=lost) (fun _ _ _=>none) ((24,H14 0) :: gE) (.bool ok) (by omega) (fun t ht=>by have:=hLb.2 t ht; omega) L.length 0 300 B (by omega) (by rw [h0]; exact hrow) (by omega)
   refine ⟨rfl,B',h1,?_,.inr ⟨i,by omega,by rw [RR],?_⟩⟩
   ·refine ⟨(R4++RB).set (i-A.length) (.row 2 false ((L.map (ik lost)).map bn)),?_⟩
    rw [h2,hB,hR4,RX,R9 _ _ (by omega)]
   ·rw [h2,RO (Rx.1 hrow).1]
 refine ⟨v,B',?_,hB',hRV'⟩
 rw [<-htv]
 generalize A++R0=Z at *
 generalize (rd.length:Int)=N at *
 generalize ((T.ch.length-1:Nat):Int)=N1 at *
 generalize T.ch.length-1=n1 at *
 generalize rd.length-1=n2 at *
 generalize (L.length:Int)=N3 at *
 rw [aX _ _ rfl]
 simp [kR,bx1,bx2,bx3,ct,ci,hsol.2,l4,l5,l6,h29,h30,h31,h32,f4,f5,aP,m29,m30,lnr,b1,b2,b3,fa1,fa2,fa3,lc,lc3,lnc,c31,st3,g4,g5,k6,c32,hc14,lnv,JA lp,bP,dw,r40,r42,r30,r32,-aY,-af,-aC,-aa,-az,-frz,-cellsOf,-aq,-dS]
end
end Tr
namespace Tr
open Go
open Cy (GC gW aP bj aE cZ)
open Clu (aU aZ ay chA bQ Chk nb isI M64 um p9 bg be cf bE cG cS dO)
theorem ow {T:aU} {chF rdF:AV} {lost:Int} (hT:Tl A T chv chF) (hr:Rl A rd rdv rdF) (hTl:T.ch.length<=200) (hrl:rd.length<=200) :
  ∃v B,bp (ai GC ((24,H14 0) :: gE)) 300 kR [ay T chv,rdv,.int .i64 free,.int .i64 lost] A=some (.tup [v,.bool (dj T rd free lost).isSome],B)/\(∃R,B=A++R)/\RV A.length B v ((dj T rd free lost).getD []):=by
 by_cases h0:lost=0
 ·subst h0
  have e:dj T rd free 0=cn T rd free:=by
   unfold dj
   by_cases hS:Sit T rd free
   ·rw [RL ⟨hS,by omega,by omega⟩,RL rfl]
   ·rw [RN (fun h=>hS h.1)]; unfold cn; rw [RN hS]
  rw [e]
  exact pY ((24,H14 0) :: gE) rfl rfl rfl rfl rfl rfl hT hr hTl hrl
 ·exact wn h0 hT hr hTl hrl
theorem uC:∀f M,aH ((24,H14 0) :: gE) f=some M->ak Tryz.prog GC f M:=ae (lG 0) qi
def Hx:aD:=fun _=>bp (ai GC ((24,H14 0) :: gE)) 300 kR
theorem DP:ak Tryz.prog GC 24 Hx:=(aM (ag uC) rfl CW mh aW.nil).y
def M14:aI:=fun args=>evP (ai GC ((24,H14 0) :: gE)) 300 kR 4 args
theorem vE {T:aU} {free lost:Int} (hb:SlA 2 (T.ch.map chA) chv) (hr:SlA 1 (ax rd) rdv) (hTl:T.ch.length<=200) (hrl:rd.length<=200) :
  ∃v,M14 [ay T chv,rdv,.int .i64 free,.int .i64 lost]=some (.tup [v,.bool (dj T rd free lost).isSome])/\SlA 2 (((dj T rd free lost).getD []).map bn) v:=by
 have hT:Tl [] T chv chv:=⟨.inl hb,fun X=>bg (fun A n=>hb.frz (A:=A) n) _ 3,hb⟩
 have hR:Rl [] rd rdv rdv:=⟨.inl hr,fun X=>hr.frz 4,hr⟩
 obtain ⟨v,B,h1,_,h2⟩:=ow (free:=free) (lost:=lost) hT hR hTl hrl
 unfold M14 evP
 rw [h1]
 rcases h2 with ⟨rfl,hl⟩ | ⟨i,_,rfl,hrow⟩
 ·exact ⟨.nilS,rfl,by rw [hl]; exact .inl ⟨rfl,rfl⟩⟩
 ·refine ⟨.fs 2 (((dj T rd free lost).getD []).map bn),?_,.inr rfl⟩
  have e:=dK (off:=0) (xs:=((dj T rd free lost).getD []).map bn) hrow (by rw [R2,Sj]) (fun n x hx=>by
   obtain ⟨c,_,rfl⟩:=R1.1 hx
   cases n <;> rfl) 1
  rw [RR] at e
  generalize ((dj T rd free lost).getD [])=L at *
  show some (AV.tup [frz B 3 (.sl i 0 L.length),frz B 3 (.bool _)])=_
  rw [e]; rfl
def qZ:List (FuncId × aD):=[(55,aG 4 M47),(56,aG 4 Clu.M26),(57,aG 4 M30),(58,aG 4 M64)]
@[simp] theorem Oc:aH qZ 55=some (aG 4 M47):=rfl
@[simp] theorem Ob:aH qZ 56=some (aG 4 Clu.M26):=rfl
@[simp] theorem Od:aH qZ 57=some (aG 4 M30):=rfl
@[simp] theorem Oa:aH qZ 58=some (aG 4 M64):=rfl
theorem Ey:∀f M,aH qZ f=some M->ak Tryz.prog GC f M:=ae (ak.of_pure ut 4) (ae (ak.of_pure Clu.H4 4) (ae (ak.of_pure ri 4) (ae (ak.of_pure um 4) aw)))
def M24:aI:=fun args=>evP (ai GC qZ) 300 Fa 4 args
theorem H5:an Tryz.prog GC 19 M24:=an.of_ev (E:=ai GC qZ) (ag Ey) rfl at24 Kx 4 fun _ _ h=>⟨300,h⟩
def inF (o:List Int) (n i:Nat):List Int:=(List.range i).map (fun k=>kF o k)++List.replicate (n+1-i) 0
theorem tG (o:List Int) (h:i<=n+1):(inF o n i).length=n+1:=by simp [inF]; omega
theorem tH (o:List Int) (h:k<i):(inF o n i).getD k 0=kF o k:=by
 unfold inF
 rw [RC,RE (by simpa using h)]
 simp [h]
theorem x6 (o:List Int) (h:i<=n) (z:Int):((inF o n i).set i z).set i (kF o i)=inF o n (i+1)/\(inF o n i).set i (kF o i)=inF o n (i+1):=by
 have:(inF o n i).set i (kF o i)=inF o n (i+1):=by
  unfold inF
  rw [R9 _ _ (by simp)]
  simp only [RR,List.length_range,TY]
  rw [show n+1-i=(n-i)+1 by omega,List.replicate_succ,SL,S5,ST,RX,show n+1-(i+1)=n-i by omega]
  rfl
 exact ⟨by rw [Up]; exact this,this⟩
def A24 (tv sv:AV) (ks:List Int):ac:=[.row 5 false [tv],.row 4 false [sv],.row 1 false (ax ks)]
def bw (s:bQ) (ov sv pv:AV):AV:=.agg [.int .i64 s.period,ov,sv,pv]
section
variable {T:aU} {chv:AV} {s:bQ} {ov sv pv:AV} {free:Int}
theorem xk {e:Nat} {xs:List AV} (h:SlA e xs v):v.solid=true/\cellsOf v=[v]:=by rcases h with ⟨rfl,_⟩ | rfl <;> exact ⟨rfl,rfl⟩
theorem MZ (hs:nb s ov sv pv) (ks:List Int) (W:ac) :
  aa 1 (A24 (ay T chv) (bw s ov sv pv) ks++W) (.ptr 1 0 0)=some (.ptr 1 0 1)/\af false 1 (A24 (ay T chv) (bw s ov sv pv) ks++W) (.ptr 1 0 1)=some ov /\
  aa 2 (A24 (ay T chv) (bw s ov sv pv) ks++W) (.ptr 1 0 0)=some (.ptr 1 0 2)/\af false 1 (A24 (ay T chv) (bw s ov sv pv) ks++W) (.ptr 1 0 2)=some sv /\
  aa 0 (A24 (ay T chv) (bw s ov sv pv) ks++W) (.ptr 1 0 0)=some (.ptr 1 0 0)/\af false 1 (A24 (ay T chv) (bw s ov sv pv) ks++W) (.ptr 1 0 0)=some (.int .i64 s.period) /\
  aa 3 (A24 (ay T chv) (bw s ov sv pv) ks++W) (.ptr 0 0 0)=some (.ptr 0 0 3)/\af false 1 (A24 (ay T chv) (bw s ov sv pv) ks++W) (.ptr 0 0 3)=some (.int .i64 T.travel):=by
 refine ⟨rfl,?_,rfl,?_,rfl,rfl,rfl,rfl⟩
 ·rcases hs.o with ⟨rfl,_⟩ | rfl <;> rfl
 ·rcases hs.st with ⟨rfl,_⟩ | rfl <;> rfl
abbrev s24 (free:Int) (n i:Nat):List AV:=uk (.int .i64 free) (.ptr 0 0 0) (.ptr 1 0 0) (.int .i64 (n:Int)) (.sl 2 0 (n+1)) (.int .i64 (i:Int))
theorem EP (hs:nb s ov sv pv) (hol:s.order.length<=200) {n i:Nat} (hn:n<=100) (hi:1<=i) (hin:i<=n) :
  run (ai GC qZ) 300 [.code km] (s24 free n i) (A24 (ay T chv) (bw s ov sv pv) (inF s.order n i))=some (.normal (s24 free n (i+1)) (A24 (ay T chv) (bw s ov sv pv) (inF s.order n (i+1)))):=by
 unfold s24
 obtain ⟨k,rfl⟩:∃k,i=k+1:=⟨i-1,by omega⟩
 have hg:=fun ks=>MZ (T:=T) (chv:=chv) hs ks []
 simp only [Sm] at hg
 have hr:∀ks,(A24 (ay T chv) (bw s ov sv pv) ks)[2]?=some (.row 1 false (ax ks)):=fun ks=>rfl
 have hset:∀ks ks',(A24 (ay T chv) (bw s ov sv pv) ks).set 2 (.row 1 false (ax ks'))=A24 (ay T chv) (bw s ov sv pv) ks':=fun ks ks'=>rfl
 have hl:=tG s.order (n:=n) (i:=k+1) (by omega)
 have b0':=dO ((k+1:Nat):Int) (n:Int)
 rw [RJ (by omega)] at b0'
 have b1:aq .sub (.int .i64 ((k+1:Nat):Int)) (.int .i64 1)=some (.int .i64 (k:Int)):=by rw [cf (by omega)]; congr 2; omega
 have b2:=bh (k+1) (by omega)
 have i1:=eH (n:=n+1) (hr (inF s.order n (k+1))) (show k<n+1 by omega) .i64
 have i2:=eH (n:=n+1) (hr (inF s.order n (k+1))) (show k+1<n+1 by omega) .i64
 have d1:=pL (hr (inF s.order n (k+1))) (show k<(inF s.order n (k+1)).length by omega)
 rw [tH s.order (by omega)] at d1
 have s1:=pm (hr (inF s.order n (k+1))) (show k+1<(inF s.order n (k+1)).length by omega) (kF s.order k)
 rw [hset] at s1
 obtain ⟨ks1,hks1⟩:∃ks1,ks1=(inF s.order n (k+1)).set (k+1) (kF s.order k):=⟨_,rfl⟩
 rw [<-hks1] at s1
 have hl1:ks1.length=n+1:=by rw [hks1,SA,hl]
 obtain ⟨h1,h2,_⟩:=hg ks1
 have f1:∀A n,frz A n ov=ov:=fun A n=>hs.o.frz n
 have m1:=p9 hs.o hol ((k+1:Nat):Int)
 have m2:=p9 hs.o hol (k:Int)
 have b3:=cG (pos s.order ((k+1:Nat):Int)) (pos s.order (k:Int))
 have hk:=vZ s.order k
 have ek:kF s.order (k+1)=kF s.order k+(if pos s.order ((k+1:Nat):Int)<pos s.order (k:Int) then 1 else 0):=by simp only [kF,hF]; push_cast; rfl
 have m1:M64 [ov,.int .i64 ((k+1:Nat):Int)]=some (.int .i64 (pos s.order ((k+1:Nat):Int))):=m1
 have m2:M64 [ov,.int .i64 (k:Int)]=some (.int .i64 (pos s.order (k:Int))):=m2
 by_cases hp:pos s.order ((k+1:Nat):Int)<pos s.order (k:Int)
 ·rw [RJ hp] at b3
  rw [RL hp] at ek
  have i3:=eH (n:=n+1) (hr ks1) (show k+1<n+1 by omega) .i64
  have d3:=pL (hr ks1) (show k+1<ks1.length by omega)
  have e3:ks1.getD (k+1) 0=kF s.order k:=by rw [hks1,eI,RL ⟨rfl,by omega⟩]
  rw [e3] at d3
  have b4:aq .add (.int .i64 (kF s.order k)) (.int .i64 1)=some (.int .i64 (kF s.order (k+1))):=by rw [ek]; exact be (by omega)
  have s3:=pm (hr ks1) (show k+1<ks1.length by omega) (kF s.order (k+1))
  rw [hset,hks1,(x6 s.order (i:=k+1) (by omega) (kF s.order k)).1,<-hks1] at s3
  generalize A24 (ay T chv) (bw s ov sv pv) (inF s.order n (k+1))=B0 at *
  generalize A24 (ay T chv) (bw s ov sv pv) ks1=B1 at *
  generalize A24 (ay T chv) (bw s ov sv pv) (inF s.order n (k+1+1))=B2 at *
  generalize kF s.order (k+1)=z1 at *
  generalize kF s.order k=z0 at *
  generalize pos s.order ((k+1:Nat):Int)=p1 at *
  generalize pos s.order (k:Int)=p0 at *
  generalize ((k+1+1:Nat):Int)=K2 at *
  generalize ((k+1:Nat):Int)=K1 at *
  generalize (k:Int)=K0 at *
  generalize (n:Int)=N at *
  simp [km,b0',b1,b2,b3,b4,i1,i2,i3,d1,d3,s1,s3,h1,h2,f1,aP,m1,m2,bP,-aq,-af,-aC,-au,-aa,-frz]
 ·rw [RH hp] at b3
  rw [RN hp] at ek
  have e2:ks1=inF s.order n (k+1+1):=by
   rw [hks1,<-(x6 s.order (n:=n) (i:=k+1) (by omega) 0).2,ek,Int.add_zero]
  rw [<-e2]
  generalize A24 (ay T chv) (bw s ov sv pv) (inF s.order n (k+1))=B0 at *
  generalize A24 (ay T chv) (bw s ov sv pv) ks1=B1 at *
  generalize kF s.order k=z0 at *
  generalize pos s.order ((k+1:Nat):Int)=p1 at *
  generalize pos s.order (k:Int)=p0 at *
  generalize ((k+1+1:Nat):Int)=K2 at *
  generalize ((k+1:Nat):Int)=K1 at *
  generalize (k:Int)=K0 at *
  generalize (n:Int)=N at *
  simp [km,b0',b1,b2,b3,i1,i2,d1,s1,h1,h2,f1,aP,m1,m2,bP,-aq,-af,-aC,-au,-aa,-frz]
end
end Tr
namespace Tr
open Go
open Cy (GC gW aP bj aE cZ)
open Clu (aU aZ ay chA bQ Chk nb isI bg be cf bE cG cS dO)
def oR (l:List cY):ac:=if l=[] then [] else [.row 2 (decide (1<l.length)) (l.map bn)]
def tt (l:List cY):AV:=if l=[] then .nilS else .sl 3 0 l.length
theorem xG (tv sv:AV) (ks:List Int) (l:List cY) (t:cY) (hl:l.length<=1000):aK 2 16 (A24 tv sv ks++oR l) (tt l) (.fs 2 [bn t])=some (tt (l++[t]),A24 tv sv ks++oR (l++[t])):=by
 have hne:l++[t]≠[]:=by simp
 have e1:tt (l++[t])=.sl 3 0 (l.length+1):=by unfold tt; rw [RN hne]; simp
 by_cases h:l=[]
 ·subst h
  simp [oR,tt,aK,aS,A24]
 ·have e0:A24 tv sv ks++oR l=A24 tv sv ks++[.row 2 (decide (1<l.length)) (l.map bn)]:=by unfold oR; rw [RN h]
  have e2:A24 tv sv ks++oR (l++[t])=A24 tv sv ks++[.row 2 true (l.map bn++[bn t])]:=by
   have h1:0<l.length:=TM.2 h
   unfold oR; rw [RN hne,RJ (by simp; omega)]; simp
  have hz:l.length≠0:=fun e=>h (Si.1 e)
  have e3:tt l=.sl 3 0 l.length:=by unfold tt; rw [RN h]
  rw [e0,e1,e2,e3]
  have hrow:(A24 tv sv ks++[Ent.row 2 (decide (1<l.length)) (l.map bn)])[3]?=some (.row 2 (decide (1<l.length)) (l.map bn)):=rfl
  simp only [aK,dc,hrow,RR,Tg]
  rw [RL ⟨trivial,by omega,by omega,by omega⟩,RL ⟨trivial,trivial,hz⟩]
  rfl
section
variable {T:aU} {chv:AV} {s:bQ} {ov sv pv:AV} {free:Int}
theorem Jc (hs:nb s ov sv pv) (hol:s.order.length<=200) (hn:n<=100):∀(c i m:Nat),i+c=n+1->1<=i->c<m ->
  cc (evC (ai GC qZ) 300 km) kh m (s24 free n i) (A24 (ay T chv) (bw s ov sv pv) (inF s.order n i)) =
   some (.exit 0 ((s24 free n (n+1)).set 14 (.bool false)) (A24 (ay T chv) (bw s ov sv pv) (inF s.order n (n+1)))):=by
 intro c
 induction c with
 | zero=>
  intro i m hi _ hm
  obtain ⟨m,rfl⟩:∃j,m=j+1:=⟨m-1,by omega⟩
  obtain rfl:i=n+1:=by omega
  have b0':=dO ((n+1:Nat):Int) (n:Int)
  rw [RH (by omega)] at b0'
  unfold s24
  rw [aO,zf]
  generalize ((n+1:Nat):Int)=N1 at *
  simp [km,b0',-aq]
 | succ c ih=>
  intro i m hi h1 hm
  obtain ⟨m,rfl⟩:∃j,m=j+1:=⟨m-1,by omega⟩
  have hr:=EP (T:=T) (chv:=chv) (free:=free) hs hol hn h1 (show i<=n by omega)
  unfold s24 at hr ⊢
  rw [aO,zf,hr]
  exact ih (i+1) m (by omega) (by omega) (by omega)
theorem ig (hc:Chk T s):s.order.length=T.ch.length+1/\s.starts.length=T.ch.length+1/\(∀x∈s.starts,0<=x/\x<=1000000000)/\(1<=s.period/\s.period<=1000000)/\∀t∈s.order,0<=t/\t<=T.ch.length:=by
 have hO:=j6 hc.1
 have hv:=hc.2.2.1
 refine ⟨hO.len,?_,hv.2.2.1,hc.2.1,hO.bd⟩
 have:=hv.2.1
 have:=hO.len
 omega
theorem HH (hc:Chk T s) (t:Nat):0<=stD s t/\stD s t<=1000000000:=by
 obtain ⟨_,h2,h3,_⟩:=ig hc
 unfold stD
 by_cases h:t<s.starts.length
 ·rw [RC,RD h]; exact h3 _ (RM h)
 ·rw [RC,Sg (TR h)]; simp
abbrev Av (free:Int) (n:Nat) (l:List cY) (r R:Nat) (ov:AV) (m p:Nat):List AV:=rc (.int .i64 free) (.ptr 0 0 0) (.ptr 1 0 0) (.sl 2 0 (n+1)) (tt l) (.int .i64 (r:Int)) (.int .i64 (R:Int)) (.int .i64 (r:Int)) ov (.int .i64 (m:Int)) (.int .i64 (p:Int))
theorem OY (a b:Int) (h:inI (a*b)):aq .mul (.int .i64 a) (.int .i64 b)=some (.int .i64 (a*b)):=by simp [aq,eg h]
theorem AE (hc:Chk T s) (hv:aZ T) (hs:nb s ov sv pv) (hf:0<=free/\free<=2000000) {l:List cY} (hl:l.length<=500) {R p:Nat} (hr:r<=100) (hp:p<s.order.length) :
  ∃l',l'=(if kF s.order (s.order.getD p 0).toNat<=r then l++[tk T s free r (s.order.getD p 0)] else l) /\
  run (ai GC qZ) 300 [.code jg] (Av free T.ch.length l r R ov s.order.length p) (A24 (ay T chv) (bw s ov sv pv) (inF s.order T.ch.length (T.ch.length+1))++oR l) =
   some (.normal (Av free T.ch.length l' r R ov s.order.length (p+1)) (A24 (ay T chv) (bw s ov sv pv) (inF s.order T.ch.length (T.ch.length+1))++oR l')):=by
 refine ⟨_,rfl,?_⟩
 unfold Av
 obtain ⟨c1,c2,c3,c4,c5⟩:=ig hc
 have hn4:=hv.2.2.2.1
 have hmem:s.order.getD p 0∈s.order:=by rw [RC,RD hp]; exact RM hp
 obtain ⟨t,ht⟩:∃t:Nat,s.order.getD p 0=(t:Int):=⟨(s.order.getD p 0).toNat,by have:=c5 _ hmem; omega⟩
 have htn:t<=T.ch.length:=by have:=c5 _ hmem; omega
 have hop:s.order[p]=(t:Int):=by rw [<-ht,RC,RD hp]; rfl
 rw [ht,RY]
 have x1:=hs.o.int (A:=A24 (ay T chv) (bw s ov sv pv) (inF s.order T.ch.length (T.ch.length+1))++oR l) _ _ (RD hp) .i64
 rw [hop] at x1
 have b0':=bC p s.order.length .i64
 rw [RJ hp] at b0'
 have b9:=bh p (by omega)
 obtain ⟨h1,h2,h3,h4,h5,h6,h7,h8⟩:=MZ (T:=T) (chv:=chv) hs (inF s.order T.ch.length (T.ch.length+1)) (oR l)
 have hrow:(A24 (ay T chv) (bw s ov sv pv) (inF s.order T.ch.length (T.ch.length+1))++oR l)[2]?=some (.row 1 false (ax (inF s.order T.ch.length (T.ch.length+1)))):=rfl
 have i1:=eH (n:=T.ch.length+1) hrow (show t<T.ch.length+1 by omega) .i64
 have d1:=pL hrow (show t<(inF s.order T.ch.length (T.ch.length+1)).length by rw [tG _ (by omega)]; omega)
 rw [tH s.order (by omega)] at d1
 have b1:=dO (kF s.order t) (r:Int)
 have y0:=hs.st.int (A:=A24 (ay T chv) (bw s ov sv pv) (inF s.order T.ch.length (T.ch.length+1))++oR l) _ _ (RD (show 0<s.starts.length by omega)) .i64
 have y1:=hs.st.int (A:=A24 (ay T chv) (bw s ov sv pv) (inF s.order T.ch.length (T.ch.length+1))++oR l) _ _ (RD (show t<s.starts.length by omega)) .i64
 have e0:s.starts[0]'(by omega)=stD s 0:=by unfold stD; rw [RC,RD (by omega)]; rfl
 have e1:s.starts[t]'(by omega)=stD s t:=by unfold stD; rw [RC,RD (by omega)]; rfl
 rw [e0] at y0
 rw [e1] at y1
 have y0:au 1 (A24 (ay T chv) (bw s ov sv pv) (inF s.order T.ch.length (T.ch.length+1))++oR l) sv (.int .i64 0)=some (.fp [.int .i64 (stD s 0)]):=y0
 have w:=dD hv
 have s0:=HH hc 0
 have st:=HH hc t
 have hmul:0<=(r:Int)*s.period/\(r:Int)*s.period<=100*1000000:=by
  refine ⟨Int.mul_nonneg (by omega) (by omega),?_⟩
  exact Int.mul_le_mul (by omega) c4.2 (by omega) (by omega)
 have b2:aq .add (.int .i64 free) (.int .i64 T.travel)=some (.int .i64 (free+T.travel)):=be (by omega)
 have b3:aq .sub (.int .i64 (free+T.travel)) (.int .i64 (stD s 0))=some (.int .i64 (bsF T s free)):=cf (by omega)
 have b4:=OY (r:Int) s.period (by unfold inI; omega)
 have b5:aq .add (.int .i64 (bsF T s free)) (.int .i64 ((r:Int)*s.period))=some (.int .i64 (bsF T s free+(r:Int)*s.period)):=be (by unfold bsF; omega)
 have b6:aq .add (.int .i64 (bsF T s free+(r:Int)*s.period)) (.int .i64 (stD s t))=some (.int .i64 (bsF T s free+(r:Int)*s.period+stD s t)):=be (by unfold bsF; omega)
 have ap:=xG (ay T chv) (bw s ov sv pv) (inF s.order T.ch.length (T.ch.length+1)) l (tk T s free r (t:Int)) (by omega)
 have etk:tk T s free r (t:Int)=((t:Int),bsF T s free+(r:Int)*s.period+stD s t):=by simp only [tk,RY]
 rw [etk] at ap ⊢
 have ap:aK 2 16 (A24 (ay T chv) (bw s ov sv pv) (inF s.order T.ch.length (T.ch.length+1))++oR l) (tt l) (.fs 2 [.agg [.int .i64 (t:Int),.int .i64 (bsF T s free+(r:Int)*s.period+stD s t)]])=_:=ap
 have hbf:bk 2 [.agg [.int .i64 (t:Int),.int .i64 (bsF T s free+(r:Int)*s.period+stD s t)]]=some (.fs 2 [.agg [.int .i64 (t:Int),.int .i64 (bsF T s free+(r:Int)*s.period+stD s t)]]):=rfl
 by_cases hk:kF s.order t<=r
 ·rw [RJ hk] at b1
  rw [RL hk]
  generalize l++[((t:Int),bsF T s free+(r:Int)*s.period+stD s t)]=l2 at *
  generalize A24 (ay T chv) (bw s ov sv pv) (inF s.order T.ch.length (T.ch.length+1))++oR l2=B1 at *
  generalize A24 (ay T chv) (bw s ov sv pv) (inF s.order T.ch.length (T.ch.length+1))++oR l=B0 at *
  generalize bsF T s free+(r:Int)*s.period+stD s t=z5 at *
  generalize bsF T s free+(r:Int)*s.period=z4 at *
  generalize (r:Int)*s.period=z3 at *
  generalize bsF T s free=z2 at *
  generalize free+T.travel=z1 at *
  generalize stD s 0=y0' at *
  generalize stD s t=y1' at *
  generalize kF s.order t=z0 at *
  generalize ((p+1:Nat):Int)=P1 at *
  generalize (p:Int)=P0 at *
  simp [jg,b0',b1,b2,b3,b4,b5,b6,b9,x1,i1,d1,h3,h4,h5,h6,h7,h8,y0,y1,hbf,ap,-aq,-af,-au,-aa,-bk]
 ·rw [RH hk] at b1
  rw [RN hk]
  generalize A24 (ay T chv) (bw s ov sv pv) (inF s.order T.ch.length (T.ch.length+1))++oR l=B0 at *
  generalize kF s.order t=z0 at *
  generalize ((p+1:Nat):Int)=P1 at *
  generalize (p:Int)=P0 at *
  simp [jg,b0',b1,b9,x1,i1,d1,-aq,-af,-au,-aa,-bk]
theorem FC (hc:Chk T s) (hv:aZ T) (hs:nb s ov sv pv) (hf:0<=free/\free<=2000000) {R:Nat} (hr:r<=100):∀(c p m:Nat) (l:List cY),p+c=s.order.length->l.length+c<=400->c<m ->
  ∃l',l'=l++((s.order.drop p).filter fun t=>decide (kF s.order t.toNat<=r)).map (tk T s free r)/\l'.length<=l.length+c /\
  cc (evC (ai GC qZ) 300 jg) iC m (Av free T.ch.length l r R ov s.order.length p) (A24 (ay T chv) (bw s ov sv pv) (inF s.order T.ch.length (T.ch.length+1))++oR l) =
   some (.exit 4 ((Av free T.ch.length l' r R ov s.order.length s.order.length).set 22 (.bool false)) (A24 (ay T chv) (bw s ov sv pv) (inF s.order T.ch.length (T.ch.length+1))++oR l')):=by
 intro c
 induction c with
 | zero=>
  intro p m l hp hl hm
  obtain ⟨m,rfl⟩:∃j,m=j+1:=⟨m-1,by omega⟩
  obtain rfl:p=s.order.length:=by omega
  refine ⟨l,by rw [TP]; simp,by omega,?_⟩
  have b0':=bC s.order.length s.order.length .i64
  rw [RH (by omega)] at b0'
  unfold Av
  rw [aO,ze]
  simp [jg,b0',-aq]
 | succ c ih=>
  intro p m l hp hl hm
  obtain ⟨m,rfl⟩:∃j,m=j+1:=⟨m-1,by omega⟩
  have hpl:p<s.order.length:=by omega
  obtain ⟨l1,h1,h2⟩:=AE (R:=R) hc hv hs hf (l:=l) (by omega) hr hpl
  have hl1:l1.length<=l.length+1:=by rw [h1]; split <;> simp
  obtain ⟨l',h3,h4,h5⟩:=ih (p+1) m l1 (by omega) (by omega) (by omega)
  have hg:s.order.getD p 0=s.order[p]:=by rw [RC,RD hpl]; rfl
  refine ⟨l',?_,by omega,?_⟩
  ·rw [h3,h1,hg,SM hpl,List.filter_cons]
   by_cases hk:kF s.order (s.order[p]).toNat<=r
   ·rw [RL hk,RJ hk,RL rfl,SH,RX]; rfl
   ·rw [RN hk,RH hk,RN (by decide)]
  ·unfold Av at h2 h5 ⊢
   rw [aO,ze,h2]
   exact h5
abbrev BV (free:Int) (n:Nat) (l:List cY) (R r:Nat):List AV:=uj (.int .i64 free) (.ptr 0 0 0) (.ptr 1 0 0) (.sl 2 0 (n+1)) (tt l) (.int .i64 (R:Int)) (.int .i64 (r:Int))
theorem AD {R:Nat} {l l2:List cY} {ks:List Int} (hs:nb s ov sv pv) (hr:r<R) (hR:R<=1000)
  (h3:cc (evC (ai GC qZ) 300 jg) iC 300 (rc (.int .i64 free) (.ptr 0 0 0) (.ptr 1 0 0) (.sl 2 0 (n+1)) (tt l) (.int .i64 (r:Int)) (.int .i64 (R:Int)) (.int .i64 (r:Int)) ov (.int .i64 (s.order.length:Int)) (.int .i64 0)) (A24 (ay T chv) (bw s ov sv pv) ks++oR l) =
   some (.exit 4 ((Av free n l2 r R ov s.order.length s.order.length).set 22 (.bool false)) (A24 (ay T chv) (bw s ov sv pv) ks++oR l2))) :
  run (ai GC qZ) 300 [.code lP] (BV free n l R r) (A24 (ay T chv) (bw s ov sv pv) ks++oR l)=some (.normal (BV free n l2 R (r+1)) (A24 (ay T chv) (bw s ov sv pv) ks++oR l2)):=by
 unfold Av at h3
 unfold BV
 have b0':=bC r R .i64
 rw [RJ hr] at b0'
 have b1:=bh r (by omega)
 obtain ⟨g1,g2,_⟩:=MZ (T:=T) (chv:=chv) hs ks (oR l)
 have ln:=hs.o.len
 rw [aE] at ln
 generalize A24 (ay T chv) (bw s ov sv pv) ks++oR l=B0 at *
 generalize A24 (ay T chv) (bw s ov sv pv) ks++oR l2=B1 at *
 generalize (s.order.length:Int)=M at *
 generalize ((r+1:Nat):Int)=r1 at *
 simp [lP,b0',b1,g1,g2,ln,Jv h3,-aq,-af,-aa,-az]
theorem FB (hc:Chk T s) (hv:aZ T) (hs:nb s ov sv pv) (hf:0<=free/\free<=2000000) {R:Nat} (hR:R<=6):∀(c r m:Nat),r+c=R->(dW T s free r).length<=5*r->c<m ->
  (dW T s free R).length<=5*R /\
  cc (evC (ai GC qZ) 300 lP) kg m (BV free T.ch.length (dW T s free r) R r) (A24 (ay T chv) (bw s ov sv pv) (inF s.order T.ch.length (T.ch.length+1))++oR (dW T s free r)) =
   some (.exit 2 ((BV free T.ch.length (dW T s free R) R R).set 18 (.bool false)) (A24 (ay T chv) (bw s ov sv pv) (inF s.order T.ch.length (T.ch.length+1))++oR (dW T s free R))):=by
 intro c
 induction c with
 | zero=>
  intro r m hr hl hm
  obtain ⟨m,rfl⟩:∃j,m=j+1:=⟨m-1,by omega⟩
  obtain rfl:r=R:=by omega
  refine ⟨hl,?_⟩
  have b0':=bC r r .i64
  rw [RH (by omega)] at b0'
  unfold BV
  rw [aO,zd]
  generalize dW T s free r=l at *
  simp [lP,b0',-aq]
 | succ c ih=>
  intro r m hr hl hm
  obtain ⟨m,rfl⟩:∃j,m=j+1:=⟨m-1,by omega⟩
  obtain ⟨c1,_,_,_,_⟩:=ig hc
  have hn4:=hv.2.2.2.1
  obtain ⟨l',h1,h2,h3⟩:=FC (R:=R) hc hv hs hf (r:=r) (by omega) s.order.length 0 300 (dW T s free r) (by omega) (by omega) (by omega)
  have e:l'=dW T s free (r+1):=by
   rw [h1,R2]
   unfold dW cyc
   rw [S5,Tq,TK,List.flatMap_nil,Sm]
  rw [e] at h2 h3
  obtain ⟨q1,q2⟩:=ih (r+1) m (by omega) (by omega) (by omega)
  refine ⟨q1,?_⟩
  have h3:cc (evC (ai GC qZ) 300 jg) iC 300 (rc (.int .i64 free) (.ptr 0 0 0) (.ptr 1 0 0) (.sl 2 0 (T.ch.length+1)) (tt (dW T s free r)) (.int .i64 (r:Int)) (.int .i64 (R:Int)) (.int .i64 (r:Int)) ov (.int .i64 (s.order.length:Int)) (.int .i64 0)) _=_:=h3
  have hrun:=AD (free:=free) (n:=T.ch.length) hs (show r<R by omega) (by omega) h3
  unfold BV at hrun q2 ⊢
  rw [aO,zd,hrun]
  exact q2
def vc (T:aU) (s:bQ) (free:Int):Prop:=isT T/\Chk T s/\0<=free/\free<=2000000
open Classical in
def n8 (T:aU) (s:bQ) (free:Int):Option (List cY):=if vc T s free then some (dW T s free (kF s.order T.ch.length+1).toNat) else none
def Ma (r:Option (List cY)):Int:=if r.isSome then 0 else 140
open Classical in
theorem Ln (hb:SlA 2 (T.ch.map chA) chv) (hl:T.ch.length<=200) (hs:nb s ov sv pv):∃v,M24 [ay T chv,bw s ov sv pv,.int .i64 free]=some (.tup [v,.int .i64 (Ma (n8 T s free))])/\SlA 2 (((n8 T s free).getD []).map bn) v:=by
 have m1:=C2 hb hl
 have m2:=Clu.vD hb hl hs
 have m3:=dS free 0 2000000
 have ft:=fun A=>bg (T:=T) (fun A n=>hb.frz (A:=A) n) A 3
 have fs:∀A,frz A 4 (bw s ov sv pv)=bw s ov sv pv:=fun A=>by
  show AV.agg [_,frz A 3 ov,frz A 3 sv,frz A 3 pv]=_
  rw [hs.o.frz,hs.st.frz,hs.pr.frz]; rfl
 have hov:=xk hs.o
 have hsv:=xk hs.st
 have hpv:=xk hs.pr
 have bx0:aY 5 (ay T chv) []=some (.ptr 0 0 0,[.row 5 false [ay T chv]]):=rfl
 have bx1:aY 4 (bw s ov sv pv) [.row 5 false [ay T chv]]=some (.ptr 1 0 0,[.row 5 false [ay T chv],.row 4 false [bw s ov sv pv]]):=rfl
 have ct:(cellsOf (ay T chv)).length=5:=rfl
 have cs:(cellsOf (bw s ov sv pv)).length=4:=rfl
 obtain ⟨A0,hA0⟩:∃A:ac,A=[.row 5 false [ay T chv],.row 4 false [bw s ov sv pv]]:=⟨_,rfl⟩
 have lt:af true 5 A0 (.ptr 0 0 0)=some (ay T chv):=by rw [hA0]; rfl
 have lsA:af true 4 A0 (.ptr 1 0 0)=some (bw s ov sv pv):=by rw [hA0]; rfl
 have fa0:aa 0 A0 (.ptr 0 0 0)=some (.ptr 0 0 0):=by rw [hA0]; rfl
 have lch:af false 1 A0 (.ptr 0 0 0)=some chv:=by
  rw [hA0]
  rcases hb with ⟨rfl,_⟩ | rfl <;> rfl
 have lnc:=hb.len
 rw [RR] at lnc
 rw [<-hA0] at bx1
 have hagg:(.agg [.int .i64 s.period,ov,sv,pv]:AV)=bw s ov sv pv:=rfl
 rw [hagg] at m2
 have bad:¬ vc T s free->evP (ai GC qZ) 300 Fa 4 [ay T chv,bw s ov sv pv,.int .i64 free]=some (.tup [.nilS,.int .i64 140]):=fun hno=>by
  generalize ay T chv=tv at *
  generalize bw s ov sv pv=sA at *
  have ff:∀A:ac,frz A 4 (.tup [.nilS,.int .i64 140])=.tup [.nilS,.int .i64 140]:=fun _=>rfl
  by_cases h1:isT T
  rotate_left
  ·rw [RH h1] at m1
   rw [aT _ _ rfl]
   simp [Fa,bx0,bx1,ct,cs,lt,m1,ft,ff,dw,bP,-aY,-af,-frz,-cellsOf]
  rw [RJ h1] at m1
  by_cases h2:Chk T s
  rotate_left
  ·rw [RH h2] at m2
   rw [aT _ _ rfl]
   simp [Fa,bx0,bx1,ct,cs,lt,lsA,m1,m2,ft,fs,ff,dw,bP,-aY,-af,-frz,-cellsOf]
  rw [RJ h2] at m2
  have mb:mG free 0 2000000=false:=by
   cases e:mG free 0 2000000
   ·rfl
   ·exact absurd ⟨h1,h2,dt.1 e⟩ hno
  rw [mb] at m3
  rw [aT _ _ rfl]
  simp [Fa,bx0,bx1,ct,cs,lt,lsA,m1,m2,m3,ft,fs,ff,aP,dw,bP,-aY,-af,-frz,-cellsOf,-dS]
 by_cases hok:vc T s free
 rotate_left
 ·have e:n8 T s free=none:=RN hok
  rw [e]
  exact ⟨.nilS,bad hok,.inl ⟨rfl,rfl⟩⟩
 have e:n8 T s free=some (dW T s free (kF s.order T.ch.length+1).toNat):=RL hok
 rw [e]
 obtain ⟨h1,h2,h3⟩:=hok
 rw [RJ h1] at m1
 rw [RJ h2] at m2
 rw [dt.2 h3] at m3
 have hv:=h1.1
 have hn4:=hv.2.2.2.1
 have hk:=vZ s.order T.ch.length
 obtain ⟨R,hR⟩:∃R:Nat,kF s.order T.ch.length+1=(R:Int):=⟨(kF s.order T.ch.length+1).toNat,by omega⟩
 rw [hR,RY]
 have lpa:=Jc (T:=T) (chv:=chv) (free:=free) hs (by rw [(ig h2).1]; omega) (n:=T.ch.length) (by omega) T.ch.length 1 300 (by omega) (by omega) (by omega)
 have hin:inF s.order T.ch.length 1=List.replicate (T.ch.length+1) 0:=by
  unfold inF
  simp [kF,List.replicate_succ]
 rw [hin] at lpa
 have b1:aq .add (.int .i64 (T.ch.length:Int)) (.int .i64 1)=some (.int .i64 ((T.ch.length+1:Nat):Int)):=bh _ (by omega)
 have mk:cr 1 8 (.int .i64 0) A0 (.int .i64 ((T.ch.length+1:Nat):Int)) (.int .i64 ((T.ch.length+1:Nat):Int))=some (.sl 2 0 (T.ch.length+1),A24 (ay T chv) (bw s ov sv pv) (List.replicate (T.ch.length+1) 0)):=by
  simp only [cr]
  rw [RL ⟨by omega,by omega,by omega,by omega,rfl,rfl,by omega⟩,RY,hA0]
  unfold A24 ax
  rw [List.map_replicate]; rfl
 obtain ⟨lpl,lpc⟩:=FB (chv:=chv) (R:=R) h2 hv hs h3 (by omega) R 0 300 (by omega) (by simp [dW]) (by omega)
 have hf0:dW T s free 0=[]:=rfl
 rw [hf0] at lpc
 have hor:A24 (ay T chv) (bw s ov sv pv) (inF s.order T.ch.length (T.ch.length+1))++oR []=A24 (ay T chv) (bw s ov sv pv) (inF s.order T.ch.length (T.ch.length+1)):=by
  unfold oR; rw [RL rfl,Sm]
 rw [hor] at lpc
 have lpc:cc (evC (ai GC qZ) 300 lP) kg 300 (uj (.int .i64 free) (.ptr 0 0 0) (.ptr 1 0 0) (.sl 2 0 (T.ch.length+1)) .nilS (.int .i64 (R:Int)) (.int .i64 0)) _=_:=lpc
 have lpa:cc (evC (ai GC qZ) 300 km) kh 300 (uk (.int .i64 free) (.ptr 0 0 0) (.ptr 1 0 0) (.int .i64 (T.ch.length:Int)) (.sl 2 0 (T.ch.length+1)) (.int .i64 1)) _=_:=lpa
 have hrow:(A24 (ay T chv) (bw s ov sv pv) (inF s.order T.ch.length (T.ch.length+1)))[2]?=some (.row 1 false (ax (inF s.order T.ch.length (T.ch.length+1)))):=rfl
 have i1:=eH (n:=T.ch.length+1) hrow (show T.ch.length<T.ch.length+1 by omega) .i64
 have d1:=pL hrow (show T.ch.length<(inF s.order T.ch.length (T.ch.length+1)).length by rw [tG _ (by omega)]; omega)
 rw [tH s.order (by omega)] at d1
 have b2:aq .add (.int .i64 (kF s.order T.ch.length)) (.int .i64 1)=some (.int .i64 (R:Int)):=by rw [be (by omega),hR]
 unfold s24 at lpa
 unfold BV at lpc
 obtain ⟨l,hll⟩:∃l,l=dW T s free R:=⟨_,rfl⟩
 rw [<-hll] at lpc
 have hfz:frz (A24 (ay T chv) (bw s ov sv pv) (inF s.order T.ch.length (T.ch.length+1))++oR l) 4 (.tup [tt l,.int .i64 0])=.tup [slA 2 (l.map bn),.int .i64 0]:=by
  show AV.tup [frz _ 3 (tt l),_]=_
  unfold tt oR
  by_cases h0:l=[]
  ·rw [h0]; rfl
  ·rw [RN h0,RN h0]
   have hrw:(A24 (ay T chv) (bw s ov sv pv) (inF s.order T.ch.length (T.ch.length+1))++[Ent.row 2 (decide (1<l.length)) (l.map bn)])[3]?=some (.row 2 (decide (1<l.length)) (l.map bn)):=rfl
   have e:=dK (off:=0) (xs:=l.map bn) hrw (by rw [R2,Sj]) (fun n x hx=>by
    obtain ⟨c,_,rfl⟩:=R1.1 hx
    cases n <;> rfl) 1
   rw [RR] at e
   rw [e]
   cases l with
   | nil=>exact absurd rfl h0
   | cons t r=>rfl
 rw [<-hll]
 refine ⟨slA 2 (l.map bn),?_,bo 2 _⟩
 unfold M24 Ma
 generalize A24 (ay T chv) (bw s ov sv pv) (inF s.order T.ch.length (T.ch.length+1))++oR l=B2 at *
 generalize A24 (ay T chv) (bw s ov sv pv) (inF s.order T.ch.length (T.ch.length+1))=B1 at *
 generalize A24 (ay T chv) (bw s ov sv pv) (List.replicate (T.ch.length+1) 0)=B0 at *
 generalize ay T chv=tv at *
 generalize bw s ov sv pv=sA at *
 generalize kF s.order T.ch.length=z at *
 generalize ((T.ch.length+1:Nat):Int)=N1 at *
 generalize hN:(T.ch.length:Int)=N at *
 rw [aT _ _ rfl]
 simp [Fa,bx0,bx1,ct,cs,lt,lsA,m1,m2,m3,ft,fs,aP,fa0,lch,lnc,b1,b2,mk,Jw lpa,Ju lpc,i1,d1,hfz,dw,bP,-aY,-af,-aa,-au,-az,-cr,-frz,-cellsOf,-aq,-dS]
end
end Tr
namespace Tr
open Go
open Cy (GC gW aP bj aE cZ)
open Clu (aU aZ ay chA bQ Chk nb bg cE)
theorem MH {e:Nat} {xs:List AV} (h:SlA e xs a) (A:ac):aS e A a=some xs:=h.src
theorem qz {B:ac} {l:List cY} (h:B[i]?=some (.row 2 g (l.map bn))):frz B 3 (.sl i 0 l.length)=.fs 2 (l.map bn):=by
 have e:=dK (off:=0) (xs:=l.map bn) h (by rw [R2,Sj]) (fun n x hx=>by
  obtain ⟨c,_,rfl⟩:=R1.1 hx
  cases n <;> rfl) 1
 rw [RR] at e
 exact e
def yg:List (FuncId × aD):=[(24,Hx),(22,aG 4 M17),(19,aG 4 M24)]
@[simp] theorem N9:aH yg 24=some Hx:=rfl
@[simp] theorem N7:aH yg 22=some (aG 4 M17):=rfl
@[simp] theorem N6:aH yg 19=some (aG 4 M24):=rfl
def fu (T:aU) (rd:List Int) (free:Int) (s:bQ):Option (List cY):=(cn T rd free).bind fun l=>(n8 T s ((fH T rd free l).getD 0)).map fun m=>l++m
theorem tS (T:aU) (rd:List Int) (free:Int):dj T rd free 0=cn T rd free:=by
 unfold dj
 by_cases hS:Sit T rd free
 ·rw [RL ⟨hS,by omega,by omega⟩,RL rfl]
 ·rw [RN (fun h=>hS h.1)]; unfold cn; rw [RN hS]
theorem FZ {T:aU} {s:bQ} (hc:Chk T s) (free:Int) (r:Nat):(cyc T s free r).length<=T.ch.length+1:=by
 unfold cyc
 rw [RR,<-(ig hc).1]
 exact List.length_filter_le _ _
theorem rR {T:aU} {s:bQ} (hc:Chk T s) (free:Int):∀R:Nat,(dW T s free R).length<=(T.ch.length+1)*R
 | 0=>by simp [dW]
 | R+1=>by
  have h1:=rR hc free R
  have h2:=FZ hc free R
  unfold dW at h1 ⊢
  rw [S5,Tq,R8,TK,List.flatMap_nil,Sm,Nat.mul_add,TV]
  omega
theorem vb {T:aU} {s:bQ} {m:List cY} (h:n8 T s free=some m):m.length<=30:=by
 unfold n8 at h
 split at h
 ·rename_i hok
  injection h with h
  have hn:=hok.1.1.2.2.2.1
  have hk:=vZ s.order T.ch.length
  have:=rR hok.2.1 free (kF s.order T.ch.length+1).toNat
  have h5:(kF s.order T.ch.length+1).toNat<=5:=by omega
  have:(T.ch.length+1)*(kF s.order T.ch.length+1).toNat<=5*5:=Nat.mul_le_mul (by omega) h5
  rw [<-h]; omega
 ·cases h
section
variable {T:aU} {chv rdv:AV} {rd:List Int} {s:bQ} {ov sv pv:AV} {free:Int}
end
end Tr
namespace Tr
open Go
open Cy (GC aP bj aE)
open Clu (aU aZ ay chA be ej cG cE)
theorem Id:E8=Cy.IS:=rfl
theorem w6:an Tryz.prog GC 39 Cy.M12:=by
 refine an.of_ev (E:=ai GC []) (ag aw) rfl O0 yG 1 ?_
 intro args r h
 unfold Cy.M12 at h
 split at h
 ·simp only [Rz,Ry] at h
  obtain ⟨⟨h1,h2⟩,rfl⟩:=h
  exact ⟨0,by rw [Id]; exact Cy.Q0 _ _ _ h1 h2⟩
 ·cases h
end Tr
namespace Tr
open Go
open Cy (GC aP bj aE)
open Clu (aU aZ bQ Chk ay chA oK eP qR t1 kO be bE cE bg cP)
theorem EF (s:bQ) (A:ac) (n:Nat):frz A (n+1) (oK s)=oK s:=by
 have k:=fun o=>(bo 1 (ax o)).frz (A:=A) n
 simp [oK,frz,k,aP]
end Tr
end Go.Proofs.YtfkcoekicjjndaaGreat
