import Derived.Test.YtkcjhljbgjpklaaGreatVZ07
import Derived.Test.YtkcjhljbgjpklaaGreatVZ03
set_option maxRecDepth 100000
set_option maxHeartbeats 4000000
noncomputable section
namespace Go.Proofs.YtkcjhljbgjpklaaGreat
open Tryz (prog)
variable {i e r lo k id:Nat} {chv v x rdv yv xv:AV} {rd xs o ys:List Int} {free b:Int} {B:ac} {g:Bool} {ls:List AV} {s:List Int × Bool}
namespace Tr
open Go
open Cy (GC je aM aV az df)
open Clu (aW aT ai chA cy Chk jf isI M64 xR tu aQ aY bK bu bP bQ cr)
theorem vI {A:ac} {T:aW} {chF rdF:AV} {lost:Int} (hT:Tl A T chv chF) (hr:Rl A rd rdv rdF) (hTl:T.ch.length<=200) (hrl:rd.length<=200) :
  ∃v B,bZ (aq GC ((13,H14 0) :: jC)) 300 oh [ai T chv,rdv,.z free,.z lost] A=some (.tup [v,.bool (dO T rd free lost).isSome],B)/\(∃R,B=A++R)/\RV A.length B v ((dO T rd free lost).getD []):=by
 by_cases h0:lost=0
 ·subst h0
  have e:dO T rd free 0=cK T rd free:=by
   unfold dO
   by_cases hS:Sit T rd free
   ·rw [SA ⟨hS,by omega,by omega⟩,SA rfl]
   ·rw [SD (fun h=>hS h.1)]; unfold cK; rw [SD hS]
  rw [e]
  exact sX ((13,H14 0) :: jC) rfl rfl rfl rfl rfl rfl hT hr hTl hrl
 ·exact zY h0 hT hr hTl hrl
theorem xW:∀f M,aD ((13,H14 0) :: jC) f=some M->au prog GC f M:=ag (n9 0) tJ
def RK:aJ:=fun _=>bZ (aq GC ((13,H14 0) :: jC)) 300 oh
theorem G8:au prog GC 13 RK:=(cj (ax xW) rfl Gw oJ bO.nil).y
def M14:aU:=fun args=>evP (aq GC ((13,H14 0) :: jC)) 300 oh 4 args
theorem G7:aw prog GC 13 M14:=aw.of_ev (E:=aq GC ((13,H14 0) :: jC)) (ax xW) rfl Gw oJ 4 fun _ _ h=>⟨300,h⟩
theorem rt {T:aW} {free lost:Int} (hb:SlA 2 (T.ch.map chA) chv) (hr:SlA 1 (ak rd) rdv) (hTl:T.ch.length<=200) (hrl:rd.length<=200) :
  ∃v,M14 [ai T chv,rdv,.z free,.z lost]=some (.tup [v,.bool (dO T rd free lost).isSome])/\SlA 2 (((dO T rd free lost).getD []).map aX) v:=by
 have hT:Tl [] T chv chv:=⟨.inl hb,fun X=>aQ (fun A n=>hb.frz (A:=A) n) _ 3,hb⟩
 have hR:Rl [] rd rdv rdv:=⟨.inl hr,fun X=>hr.frz 4,hr⟩
 obtain ⟨v,B,h1,_,h2⟩:=vI (free:=free) (lost:=lost) hT hR hTl hrl
 unfold M14 evP
 rw [h1]
 rcases h2 with ⟨rfl,hl⟩ | ⟨i,_,rfl,hrow⟩
 ·exact ⟨.nilS,rfl,by rw [hl]; exact .inl ⟨rfl,rfl⟩⟩
 ·refine ⟨.fs 2 (((dO T rd free lost).getD []).map aX),?_,.inr rfl⟩
  have e:=dB (off:=0) (xs:=((dO T rd free lost).getD []).map aX) hrow (by rw [SL,SX]) (fun n x hx=>by
   obtain ⟨c,_,rfl⟩:=SU.1 hx
   cases n <;> rfl) 1
  rw [SF] at e
  generalize ((dO T rd free lost).getD [])=L at *
  show some (AV.tup [frz B 3 (.sl i 0 L.length),frz B 3 (.bool _)])=_
  rw [e]; rfl
def uA:List (FuncId × aJ):=[(22,aE 4 M47),(23,aE 4 Clu.M26),(24,aE 4 M30),(25,aE 4 M64)]
@[simp] theorem PJ:aD uA 22=some (aE 4 M47):=rfl
@[simp] theorem PI:aD uA 23=some (aE 4 Clu.M26):=rfl
@[simp] theorem PK:aD uA 24=some (aE 4 M30):=rfl
@[simp] theorem PH:aD uA 25=some (aE 4 M64):=rfl
theorem Ht:∀f M,aD uA f=some M->au prog GC f M:=ag (au.of_pure se 4) (ag (au.of_pure Clu.AK 4) (ag (au.of_pure uI 4) (ag (au.of_pure xR 4) aB)))
def M24:aU:=fun args=>evP (aq GC uA) 300 Id 4 args
theorem AL:aw prog GC 7 M24:=aw.of_ev (E:=aq GC uA) (ax Ht) rfl (by kernel_rfl) L3 4 fun _ _ h=>⟨300,h⟩
def inF (o:List Int) (n i:Nat):List Int:=(List.range i).map (fun k=>kF o k)++List.replicate (n+1-i) 0
theorem nv (o:List Int) {n:Nat} (h:i<=n+1):(inF o n i).length=n+1:=by simp [inF]; omega
theorem nw (o:List Int) {n:Nat} (h:k<i):(inF o n i).getD k 0=kF o k:=by
 unfold inF
 rw [Sr,Sy (by simpa using h)]
 simp [h]
theorem t5 (o:List Int) {n:Nat} (h:i<=n) (z:Int):((inF o n i).set i z).set i (kF o i)=inF o n (i+1)/\(inF o n i).set i (kF o i)=inF o n (i+1):=by
 have:(inF o n i).set i (kF o i)=inF o n (i+1):=by
  unfold inF
  rw [SQ _ _ (by simp)]
  simp only [SF,List.length_range,Uq]
  rw [show n+1-i=(n-i)+1 by omega,UK,Tq,T7,TD,SO,show n+1-(i+1)=n-i by omega]
  rfl
 exact ⟨by rw [UV]; exact this,this⟩
def A24 (tv sv:AV) (ks:List Int):ac:=[.row 5 false [tv],.row 4 false [sv],.q (ak ks)]
def bc (s:cy) (ov sv pv:AV):AV:=.agg [.z s.period,ov,sv,pv]
section
variable {T:aW} {chv:AV} {s:cy} {ov sv pv:AV} {free:Int}
theorem oa {xs:List AV} (h:SlA e xs v):v.solid=true/\cellsOf v=[v]:=by rcases h with ⟨rfl,_⟩ | rfl <;> exact ⟨rfl,rfl⟩
theorem KZ (hs:jf s ov sv pv) (ks:List Int) (W:ac) :
  aa 1 (A24 (ai T chv) (bc s ov sv pv) ks++W) (.p 1)=some (.ptr 1 0 1)/\ab false 1 (A24 (ai T chv) (bc s ov sv pv) ks++W) (.ptr 1 0 1)=some ov /\
  aa 2 (A24 (ai T chv) (bc s ov sv pv) ks++W) (.p 1)=some (.ptr 1 0 2)/\ab false 1 (A24 (ai T chv) (bc s ov sv pv) ks++W) (.ptr 1 0 2)=some sv /\
  aa 0 (A24 (ai T chv) (bc s ov sv pv) ks++W) (.p 1)=some (.p 1)/\ab false 1 (A24 (ai T chv) (bc s ov sv pv) ks++W) (.p 1)=some (.z s.period) /\
  aa 3 (A24 (ai T chv) (bc s ov sv pv) ks++W) (.p 0)=some (.ptr 0 0 3)/\ab false 1 (A24 (ai T chv) (bc s ov sv pv) ks++W) (.ptr 0 0 3)=some (.z T.travel):=by
 refine ⟨rfl,?_,rfl,?_,rfl,rfl,rfl,rfl⟩
 ·rcases hs.o with ⟨rfl,_⟩ | rfl <;> rfl
 ·rcases hs.st with ⟨rfl,_⟩ | rfl <;> rfl
abbrev s24 (free:Int) (n i:Nat):List AV:=xQ (.z free) (.p 0) (.p 1) (.z (n:Int)) (.sl 2 0 (n+1)) (.z (i:Int))
theorem HV (hs:jf s ov sv pv) (hol:s.order.length<=200) {n i:Nat} (hn:n<=100) (hi:1<=i) (hin:i<=n) :
  run (aq GC uA) 300 [.code mG] (s24 free n i) (A24 (ai T chv) (bc s ov sv pv) (inF s.order n i))=some (.normal (s24 free n (i+1)) (A24 (ai T chv) (bc s ov sv pv) (inF s.order n (i+1)))):=by
 unfold s24
 obtain ⟨k,rfl⟩:∃k,i=k+1:=⟨i-1,by omega⟩
 have hg:=fun ks=>KZ (T:=T) (chv:=chv) hs ks []
 simp only [S5] at hg
 have hr:∀ks,(A24 (ai T chv) (bc s ov sv pv) ks)[2]?=some (.q (ak ks)):=fun ks=>rfl
 have hset:∀ks ks',(A24 (ai T chv) (bc s ov sv pv) ks).set 2 (.q (ak ks'))=A24 (ai T chv) (bc s ov sv pv) ks':=fun ks ks'=>rfl
 have hl:=nv s.order (n:=n) (i:=k+1) (by omega)
 have b0':=cr ((k+1:Nat):Int) (n:Int)
 rw [Su (by omega)] at b0'
 have b1:af .sub (.z ((k+1:Nat):Int)) (.z 1)=some (.z (k:Int)):=by rw [bK (by omega)]; congr 2; omega
 have b2:=aP (k+1) (by omega)
 have i1:=cG (n:=n+1) (hr (inF s.order n (k+1))) (show k<n+1 by omega) .i64
 have i2:=cG (n:=n+1) (hr (inF s.order n (k+1))) (show k+1<n+1 by omega) .i64
 have d1:=dN (hr (inF s.order n (k+1))) (show k<(inF s.order n (k+1)).length by omega)
 rw [nw s.order (by omega)] at d1
 have s1:=gw (hr (inF s.order n (k+1))) (show k+1<(inF s.order n (k+1)).length by omega) (kF s.order k)
 rw [hset] at s1
 obtain ⟨ks1,hks1⟩:∃ks1,ks1=(inF s.order n (k+1)).set (k+1) (kF s.order k):=⟨_,rfl⟩
 rw [<-hks1] at s1
 have hl1:ks1.length=n+1:=by rw [hks1,Ti,hl]
 obtain ⟨h1,h2,_⟩:=hg ks1
 have f1:∀A n,frz A n ov=ov:=fun A n=>hs.o.frz n
 have m1:=tu hs.o hol ((k+1:Nat):Int)
 have m2:=tu hs.o hol (k:Int)
 have b3:=bP (pos s.order ((k+1:Nat):Int)) (pos s.order (k:Int))
 have hk:=zM s.order k
 have ek:kF s.order (k+1)=kF s.order k+(if pos s.order ((k+1:Nat):Int)<pos s.order (k:Int) then 1 else 0):=by simp only [kF,hF]; push_cast; rfl
 have m1:M64 [ov,.z ((k+1:Nat):Int)]=some (.z (pos s.order ((k+1:Nat):Int))):=m1
 have m2:M64 [ov,.z (k:Int)]=some (.z (pos s.order (k:Int))):=m2
 by_cases hp:pos s.order ((k+1:Nat):Int)<pos s.order (k:Int)
 ·rw [Su hp] at b3
  rw [SA hp] at ek
  have i3:=cG (n:=n+1) (hr ks1) (show k+1<n+1 by omega) .i64
  have d3:=dN (hr ks1) (show k+1<ks1.length by omega)
  have e3:ks1.getD (k+1) 0=kF s.order k:=by rw [hks1,dh,SA ⟨rfl,by omega⟩]
  rw [e3] at d3
  have b4:af .add (.z (kF s.order k)) (.z 1)=some (.z (kF s.order (k+1))):=by rw [ek]; exact aY (by omega)
  have s3:=gw (hr ks1) (show k+1<ks1.length by omega) (kF s.order (k+1))
  rw [hset,hks1,(t5 s.order (i:=k+1) (by omega) (kF s.order k)).1,<-hks1] at s3
  generalize A24 (ai T chv) (bc s ov sv pv) (inF s.order n (k+1))=B0 at *
  generalize A24 (ai T chv) (bc s ov sv pv) ks1=B1 at *
  generalize A24 (ai T chv) (bc s ov sv pv) (inF s.order n (k+1+1))=B2 at *
  generalize kF s.order (k+1)=z1 at *
  generalize kF s.order k=z0 at *
  generalize pos s.order ((k+1:Nat):Int)=p1 at *
  generalize pos s.order (k:Int)=p0 at *
  generalize ((k+1+1:Nat):Int)=K2 at *
  generalize ((k+1:Nat):Int)=K1 at *
  generalize (k:Int)=K0 at *
  generalize (n:Int)=N at *
  simp [mG,b0',b1,b2,b3,b4,i1,i2,i3,d1,d3,s1,s3,h1,h2,f1,aM,m1,m2,br,-af,-ab,-aA,-ae,-aa,-frz]
 ·rw [Ss hp] at b3
  rw [SD hp] at ek
  have e2:ks1=inF s.order n (k+1+1):=by
   rw [hks1,<-(t5 s.order (n:=n) (i:=k+1) (by omega) 0).2,ek,UW]
  rw [<-e2]
  generalize A24 (ai T chv) (bc s ov sv pv) (inF s.order n (k+1))=B0 at *
  generalize A24 (ai T chv) (bc s ov sv pv) ks1=B1 at *
  generalize kF s.order k=z0 at *
  generalize pos s.order ((k+1:Nat):Int)=p1 at *
  generalize pos s.order (k:Int)=p0 at *
  generalize ((k+1+1:Nat):Int)=K2 at *
  generalize ((k+1:Nat):Int)=K1 at *
  generalize (k:Int)=K0 at *
  generalize (n:Int)=N at *
  simp [mG,b0',b1,b2,b3,i1,i2,d1,s1,h1,h2,f1,aM,m1,m2,br,-af,-ab,-aA,-ae,-aa,-frz]
end
end Tr
namespace Tr
open Go
open Cy (GC je aM aV az df)
open Clu (aW aT ai chA cy Chk jf isI aQ aY bK bu bP bQ cr)
def oR (l:List dc):ac:=if l=[] then [] else [.row 2 (decide (1<l.length)) (l.map aX)]
def w5 (l:List dc):AV:=if l=[] then .nilS else .sl 3 0 l.length
theorem Be (tv sv:AV) (ks:List Int) (l:List dc) (t:dc) (hl:l.length<=1000):aL 2 16 (A24 tv sv ks++oR l) (w5 l) (.fs 2 [aX t])=some (w5 (l++[t]),A24 tv sv ks++oR (l++[t])):=by
 have hne:l++[t]≠[]:=by simp
 have e1:w5 (l++[t])=.sl 3 0 (l.length+1):=by unfold w5; rw [SD hne]; simp
 by_cases h:l=[]
 ·subst h
  simp [oR,w5,aL,a8,A24]
 ·have e0:A24 tv sv ks++oR l=A24 tv sv ks++[.row 2 (decide (1<l.length)) (l.map aX)]:=by unfold oR; rw [SD h]
  have e2:A24 tv sv ks++oR (l++[t])=A24 tv sv ks++[.row 2 true (l.map aX++[aX t])]:=by
   have h1:0<l.length:=TI.2 h
   unfold oR; rw [SD hne,Su (by simp; omega)]; simp
  have hz:l.length≠0:=fun e=>h (S8.1 e)
  have e3:w5 l=.sl 3 0 l.length:=by unfold w5; rw [SD h]
  rw [e0,e1,e2,e3]
  have hrow:(A24 tv sv ks++[Ent.row 2 (decide (1<l.length)) (l.map aX)])[3]?=some (.row 2 (decide (1<l.length)) (l.map aX)):=rfl
  simp only [aL,c9,hrow,SF,T5]
  rw [SA ⟨trivial,by omega,by omega,by omega⟩,SA ⟨trivial,trivial,hz⟩]
  rfl
section
variable {T:aW} {chv:AV} {s:cy} {ov sv pv:AV} {free:Int}
theorem KS (hs:jf s ov sv pv) (hol:s.order.length<=200) {n:Nat} (hn:n<=100):∀(c i m:Nat),i+c=n+1->1<=i->c<m ->
  bG (evC (aq GC uA) 300 mG) my m (s24 free n i) (A24 (ai T chv) (bc s ov sv pv) (inF s.order n i)) =
   some (.exit 0 ((s24 free n (n+1)).set 14 .f) (A24 (ai T chv) (bc s ov sv pv) (inF s.order n (n+1)))):=by
 intro c
 induction c with
 | zero=>
  intro i m hi _ hm
  obtain ⟨m,rfl⟩:∃j,m=j+1:=⟨m-1,by omega⟩
  obtain rfl:i=n+1:=by omega
  have b0':=cr ((n+1:Nat):Int) (n:Int)
  rw [Ss (by omega)] at b0'
  unfold s24
  rw [UB rfl]
  generalize ((n+1:Nat):Int)=N1 at *
  simp [mG,b0',-af]
 | succ c ih=>
  intro i m hi h1 hm
  obtain ⟨m,rfl⟩:∃j,m=j+1:=⟨m-1,by omega⟩
  have hr:=HV (T:=T) (chv:=chv) (free:=free) hs hol hn h1 (show i<=n by omega)
  unfold s24 at hr ⊢
  rw [UB rfl,hr]
  exact ih (i+1) m (by omega) (by omega) (by omega)
theorem iY (hc:Chk T s):s.order.length=T.ch.length+1/\s.starts.length=T.ch.length+1/\(∀x∈s.starts,0<=x/\x<=1000000000)/\(1<=s.period/\s.period<=1000000)/\∀t∈s.order,0<=t/\t<=T.ch.length:=by
 have hO:=Fl hc.1
 have hv:=hc.2.2.1
 refine ⟨hO.len,?_,hv.2.2.1,hc.2.1,hO.bd⟩
 have:=hv.2.1
 have:=hO.len
 omega
theorem DY (hc:Chk T s) (t:Nat):0<=stD s t/\stD s t<=1000000000:=by
 obtain ⟨_,h2,h3,_⟩:=iY hc
 unfold stD
 by_cases h:t<s.starts.length
 ·rw [Sr,Sq h]; exact h3 _ (SC h)
 ·rw [Sr,Tf (UN h)]; simp
abbrev D9 (free:Int) (n:Nat) (l:List dc) (r R:Nat) (ov:AV) (m p:Nat):List AV:=uG (.z free) (.p 0) (.p 1) (.sl 2 0 (n+1)) (w5 l) (.z (r:Int)) (.z (R:Int)) (.z (r:Int)) ov (.z (m:Int)) (.z (p:Int))
theorem Ml (a b:Int) (h:inI (a*b)):af .mul (.z a) (.z b)=some (.z (a*b)):=by simp [af,eH h]
theorem Eh (hc:Chk T s) (hv:aT T) (hs:jf s ov sv pv) (hf:0<=free/\free<=2000000) {l:List dc} (hl:l.length<=500) {R p:Nat} (hr:r<=100) (hp:p<s.order.length) :
  ∃l',l'=(if kF s.order (s.order.getD p 0).toNat<=r then l++[tk T s free r (s.order.getD p 0)] else l) /\
  run (aq GC uA) 300 [.code kI] (D9 free T.ch.length l r R ov s.order.length p) (A24 (ai T chv) (bc s ov sv pv) (inF s.order T.ch.length (T.ch.length+1))++oR l) =
   some (.normal (D9 free T.ch.length l' r R ov s.order.length (p+1)) (A24 (ai T chv) (bc s ov sv pv) (inF s.order T.ch.length (T.ch.length+1))++oR l')):=by
 refine ⟨_,rfl,?_⟩
 unfold D9
 obtain ⟨c1,c2,c3,c4,c5⟩:=iY hc
 have hn4:=hv.2.2.2.1
 have hmem:s.order.getD p 0∈s.order:=by rw [Sr,Sq hp]; exact SC hp
 obtain ⟨t,ht⟩:∃t:Nat,s.order.getD p 0=(t:Int):=⟨(s.order.getD p 0).toNat,by have:=c5 _ hmem; omega⟩
 have htn:t<=T.ch.length:=by have:=c5 _ hmem; omega
 have hop:s.order[p]=(t:Int):=by rw [<-ht,Sr,Sq hp]; rfl
 rw [ht,SM]
 have x1:=hs.o.int (A:=A24 (ai T chv) (bc s ov sv pv) (inF s.order T.ch.length (T.ch.length+1))++oR l) _ _ (Sq hp) .i64
 rw [hop] at x1
 have b0':=be p s.order.length .i64
 rw [Su hp] at b0'
 have b9:=aP p (by omega)
 obtain ⟨h1,h2,h3,h4,h5,h6,h7,h8⟩:=KZ (T:=T) (chv:=chv) hs (inF s.order T.ch.length (T.ch.length+1)) (oR l)
 have hrow:(A24 (ai T chv) (bc s ov sv pv) (inF s.order T.ch.length (T.ch.length+1))++oR l)[2]?=some (.q (ak (inF s.order T.ch.length (T.ch.length+1)))):=rfl
 have i1:=cG (n:=T.ch.length+1) hrow (show t<T.ch.length+1 by omega) .i64
 have d1:=dN hrow (show t<(inF s.order T.ch.length (T.ch.length+1)).length by rw [nv _ (by omega)]; omega)
 rw [nw s.order (by omega)] at d1
 have b1:=cr (kF s.order t) (r:Int)
 have y0:=hs.st.int (A:=A24 (ai T chv) (bc s ov sv pv) (inF s.order T.ch.length (T.ch.length+1))++oR l) _ _ (Sq (show 0<s.starts.length by omega)) .i64
 have y1:=hs.st.int (A:=A24 (ai T chv) (bc s ov sv pv) (inF s.order T.ch.length (T.ch.length+1))++oR l) _ _ (Sq (show t<s.starts.length by omega)) .i64
 have e0:s.starts[0]'(by omega)=stD s 0:=by unfold stD; rw [Sr,Sq (by omega)]; rfl
 have e1:s.starts[t]'(by omega)=stD s t:=by unfold stD; rw [Sr,Sq (by omega)]; rfl
 rw [e0] at y0
 rw [e1] at y1
 have y0:ae 1 (A24 (ai T chv) (bc s ov sv pv) (inF s.order T.ch.length (T.ch.length+1))++oR l) sv (.z 0)=some (.fp [.z (stD s 0)]):=y0
 have w:=de hv
 have s0:=DY hc 0
 have st:=DY hc t
 have hmul:0<=(r:Int)*s.period/\(r:Int)*s.period<=100*1000000:=by
  refine ⟨Int.mul_nonneg (by omega) (by omega),?_⟩
  exact Int.mul_le_mul (by omega) c4.2 (by omega) (by omega)
 have b2:af .add (.z free) (.z T.travel)=some (.z (free+T.travel)):=aY (by omega)
 have b3:af .sub (.z (free+T.travel)) (.z (stD s 0))=some (.z (bsF T s free)):=bK (by omega)
 have b4:=Ml (r:Int) s.period (by unfold inI; omega)
 have b5:af .add (.z (bsF T s free)) (.z ((r:Int)*s.period))=some (.z (bsF T s free+(r:Int)*s.period)):=aY (by unfold bsF; omega)
 have b6:af .add (.z (bsF T s free+(r:Int)*s.period)) (.z (stD s t))=some (.z (bsF T s free+(r:Int)*s.period+stD s t)):=aY (by unfold bsF; omega)
 have ap:=Be (ai T chv) (bc s ov sv pv) (inF s.order T.ch.length (T.ch.length+1)) l (tk T s free r (t:Int)) (by omega)
 have etk:tk T s free r (t:Int)=((t:Int),bsF T s free+(r:Int)*s.period+stD s t):=by simp only [tk,SM]
 rw [etk] at ap ⊢
 have ap:aL 2 16 (A24 (ai T chv) (bc s ov sv pv) (inF s.order T.ch.length (T.ch.length+1))++oR l) (w5 l) (.fs 2 [.agg [.z (t:Int),.z (bsF T s free+(r:Int)*s.period+stD s t)]])=_:=ap
 have hbf:bp 2 [.agg [.z (t:Int),.z (bsF T s free+(r:Int)*s.period+stD s t)]]=some (.fs 2 [.agg [.z (t:Int),.z (bsF T s free+(r:Int)*s.period+stD s t)]]):=rfl
 by_cases hk:kF s.order t<=r
 ·rw [Su hk] at b1
  rw [SA hk]
  generalize l++[((t:Int),bsF T s free+(r:Int)*s.period+stD s t)]=l2 at *
  generalize A24 (ai T chv) (bc s ov sv pv) (inF s.order T.ch.length (T.ch.length+1))++oR l2=B1 at *
  generalize A24 (ai T chv) (bc s ov sv pv) (inF s.order T.ch.length (T.ch.length+1))++oR l=B0 at *
  generalize bsF T s free+(r:Int)*s.period+stD s t=z5 at *
  generalize bsF T s free+(r:Int)*s.period=z4 at *
  generalize (r:Int)*s.period=z3 at *
  generalize bsF T s free=z2 at *
  generalize free+T.travel=z1 at *
  generalize stD s 0=y0' at *
  generalize stD s t=y1' at *
  generalize kF s.order t=z0 at *
  generalize ((p+1:Nat):Int)=P1 at *
  generalize (p:Int)=P0 at *
  simp [kI,b0',b1,b2,b3,b4,b5,b6,b9,x1,i1,d1,h3,h4,h5,h6,h7,h8,y0,y1,hbf,ap,-af,-ab,-ae,-aa,-bp]
 ·rw [Ss hk] at b1
  rw [SD hk]
  generalize A24 (ai T chv) (bc s ov sv pv) (inF s.order T.ch.length (T.ch.length+1))++oR l=B0 at *
  generalize kF s.order t=z0 at *
  generalize ((p+1:Nat):Int)=P1 at *
  generalize (p:Int)=P0 at *
  simp [kI,b0',b1,b9,x1,i1,d1,-af,-ab,-ae,-aa,-bp]
theorem Ip (hc:Chk T s) (hv:aT T) (hs:jf s ov sv pv) (hf:0<=free/\free<=2000000) {R:Nat} (hr:r<=100):∀(c p m:Nat) (l:List dc),p+c=s.order.length->l.length+c<=400->c<m ->
  ∃l',l'=l++((s.order.drop p).filter fun t=>decide (kF s.order t.toNat<=r)).map (tk T s free r)/\l'.length<=l.length+c /\
  bG (evC (aq GC uA) 300 kI) jY m (D9 free T.ch.length l r R ov s.order.length p) (A24 (ai T chv) (bc s ov sv pv) (inF s.order T.ch.length (T.ch.length+1))++oR l) =
   some (.exit 4 ((D9 free T.ch.length l' r R ov s.order.length s.order.length).set 22 .f) (A24 (ai T chv) (bc s ov sv pv) (inF s.order T.ch.length (T.ch.length+1))++oR l')):=by
 intro c
 induction c with
 | zero=>
  intro p m l hp hl hm
  obtain ⟨m,rfl⟩:∃j,m=j+1:=⟨m-1,by omega⟩
  obtain rfl:p=s.order.length:=by omega
  refine ⟨l,by rw [TN]; simp,by omega,?_⟩
  have b0':=be s.order.length s.order.length .i64
  rw [Ss (by omega)] at b0'
  unfold D9
  rw [UB rfl]
  simp [kI,b0',-af]
 | succ c ih=>
  intro p m l hp hl hm
  obtain ⟨m,rfl⟩:∃j,m=j+1:=⟨m-1,by omega⟩
  have hpl:p<s.order.length:=by omega
  obtain ⟨l1,h1,h2⟩:=Eh (R:=R) hc hv hs hf (l:=l) (by omega) hr hpl
  have hl1:l1.length<=l.length+1:=by rw [h1]; split <;> simp
  obtain ⟨l',h3,h4,h5⟩:=ih (p+1) m l1 (by omega) (by omega) (by omega)
  have hg:s.order.getD p 0=s.order[p]:=by rw [Sr,Sq hpl]; rfl
  refine ⟨l',?_,by omega,?_⟩
  ·rw [h3,h1,hg,To hpl,Uw]
   by_cases hk:kF s.order (s.order[p]).toNat<=r
   ·rw [SA hk,Su hk,SA rfl,Tw,SO]; rfl
   ·rw [SD hk,Ss hk,SD (by decide)]
  ·unfold D9 at h2 h5 ⊢
   rw [UB rfl,h2]
   exact h5
abbrev Fh (free:Int) (n:Nat) (l:List dc) (R r:Nat):List AV:=xP (.z free) (.p 0) (.p 1) (.sl 2 0 (n+1)) (w5 l) (.z (R:Int)) (.z (r:Int))
theorem Eg {n R:Nat} {l l2:List dc} {ks:List Int} (hs:jf s ov sv pv) (hr:r<R) (hR:R<=1000)
  (h3:bG (evC (aq GC uA) 300 kI) jY 300 (uG (.z free) (.p 0) (.p 1) (.sl 2 0 (n+1)) (w5 l) (.z (r:Int)) (.z (R:Int)) (.z (r:Int)) ov (.z (s.order.length:Int)) (.z 0)) (A24 (ai T chv) (bc s ov sv pv) ks++oR l) =
   some (.exit 4 ((D9 free n l2 r R ov s.order.length s.order.length).set 22 .f) (A24 (ai T chv) (bc s ov sv pv) ks++oR l2))) :
  run (aq GC uA) 300 [.code oq] (Fh free n l R r) (A24 (ai T chv) (bc s ov sv pv) ks++oR l)=some (.normal (Fh free n l2 R (r+1)) (A24 (ai T chv) (bc s ov sv pv) ks++oR l2)):=by
 unfold D9 at h3
 unfold Fh
 have b0':=be r R .i64
 rw [Su hr] at b0'
 have b1:=aP r (by omega)
 obtain ⟨g1,g2,_⟩:=KZ (T:=T) (chv:=chv) hs ks (oR l)
 have ln:=hs.o.len
 rw [az] at ln
 generalize A24 (ai T chv) (bc s ov sv pv) ks++oR l=B0 at *
 generalize A24 (ai T chv) (bc s ov sv pv) ks++oR l2=B1 at *
 generalize (s.order.length:Int)=M at *
 generalize ((r+1:Nat):Int)=r1 at *
 simp [oq,b0',b1,g1,g2,ln,Li h3,-af,-ab,-aa,-aj]
theorem Io (hc:Chk T s) (hv:aT T) (hs:jf s ov sv pv) (hf:0<=free/\free<=2000000) {R:Nat} (hR:R<=6):∀(c r m:Nat),r+c=R->(dC T s free r).length<=5*r->c<m ->
  (dC T s free R).length<=5*R /\
  bG (evC (aq GC uA) 300 oq) mw m (Fh free T.ch.length (dC T s free r) R r) (A24 (ai T chv) (bc s ov sv pv) (inF s.order T.ch.length (T.ch.length+1))++oR (dC T s free r)) =
   some (.exit 2 ((Fh free T.ch.length (dC T s free R) R R).set 18 .f) (A24 (ai T chv) (bc s ov sv pv) (inF s.order T.ch.length (T.ch.length+1))++oR (dC T s free R))):=by
 intro c
 induction c with
 | zero=>
  intro r m hr hl hm
  obtain ⟨m,rfl⟩:∃j,m=j+1:=⟨m-1,by omega⟩
  obtain rfl:r=R:=by omega
  refine ⟨hl,?_⟩
  have b0':=be r r .i64
  rw [Ss (by omega)] at b0'
  unfold Fh
  rw [UB rfl]
  generalize dC T s free r=l at *
  simp [oq,b0',-af]
 | succ c ih=>
  intro r m hr hl hm
  obtain ⟨m,rfl⟩:∃j,m=j+1:=⟨m-1,by omega⟩
  obtain ⟨c1,_,_,_,_⟩:=iY hc
  have hn4:=hv.2.2.2.1
  obtain ⟨l',h1,h2,h3⟩:=Ip (R:=R) hc hv hs hf (r:=r) (by omega) s.order.length 0 300 (dC T s free r) (by omega) (by omega) (by omega)
  have e:l'=dC T s free (r+1):=by
   rw [h1,SL]
   unfold dC cyc
   rw [T7,Uu,Uj,List.flatMap_nil,S5]
  rw [e] at h2 h3
  obtain ⟨q1,q2⟩:=ih (r+1) m (by omega) (by omega) (by omega)
  refine ⟨q1,?_⟩
  have h3:bG (evC (aq GC uA) 300 kI) jY 300 (uG (.z free) (.p 0) (.p 1) (.sl 2 0 (T.ch.length+1)) (w5 (dC T s free r)) (.z (r:Int)) (.z (R:Int)) (.z (r:Int)) ov (.z (s.order.length:Int)) (.z 0)) _=_:=h3
  have hrun:=Eg (free:=free) (n:=T.ch.length) hs (show r<R by omega) (by omega) h3
  unfold Fh at hrun q2 ⊢
  rw [UB rfl,hrun]
  exact q2
def vA (T:aW) (s:cy) (free:Int):Prop:=isT T/\Chk T s/\0<=free/\free<=2000000
open Classical in
def gE (T:aW) (s:cy) (free:Int):Option (List dc):=if vA T s free then some (dC T s free (kF s.order T.ch.length+1).toNat) else none
def zX (r:Option (List dc)):Int:=if r.isSome then 0 else 140
open Classical in
theorem Dw (hb:SlA 2 (T.ch.map chA) chv) (hl:T.ch.length<=200) (hs:jf s ov sv pv):∃v,M24 [ai T chv,bc s ov sv pv,.z free]=some (.tup [v,.z (zX (gE T s free))])/\SlA 2 (((gE T s free).getD []).map aX) v:=by
 have m1:=yZ hb hl
 have m2:=Clu.tx hb hl hs
 have m3:=cq free 0 2000000
 have ft:=fun A=>aQ (T:=T) (fun A n=>hb.frz (A:=A) n) A 3
 have fs:∀A,frz A 4 (bc s ov sv pv)=bc s ov sv pv:=fun A=>by
  show AV.agg [_,frz A 3 ov,frz A 3 sv,frz A 3 pv]=_
  rw [hs.o.frz,hs.st.frz,hs.pr.frz]; rfl
 have hov:=oa hs.o
 have hsv:=oa hs.st
 have hpv:=oa hs.pr
 have bx0:aR 5 (ai T chv) []=some (.p 0,[.row 5 false [ai T chv]]):=rfl
 have bx1:aR 4 (bc s ov sv pv) [.row 5 false [ai T chv]]=some (.p 1,[.row 5 false [ai T chv],.row 4 false [bc s ov sv pv]]):=rfl
 have ct:(cellsOf (ai T chv)).length=5:=rfl
 have cs:(cellsOf (bc s ov sv pv)).length=4:=rfl
 obtain ⟨A0,hA0⟩:∃A:ac,A=[.row 5 false [ai T chv],.row 4 false [bc s ov sv pv]]:=⟨_,rfl⟩
 have lt:ab true 5 A0 (.p 0)=some (ai T chv):=by rw [hA0]; rfl
 have lsA:ab true 4 A0 (.p 1)=some (bc s ov sv pv):=by rw [hA0]; rfl
 have fa0:aa 0 A0 (.p 0)=some (.p 0):=by rw [hA0]; rfl
 have lch:ab false 1 A0 (.p 0)=some chv:=by
  rw [hA0]
  rcases hb with ⟨rfl,_⟩ | rfl <;> rfl
 have lnc:=hb.len
 rw [SF] at lnc
 rw [<-hA0] at bx1
 have hagg:(.agg [.z s.period,ov,sv,pv]:AV)=bc s ov sv pv:=rfl
 rw [hagg] at m2
 have bad:¬ vA T s free->evP (aq GC uA) 300 Id 4 [ai T chv,bc s ov sv pv,.z free]=some (.tup [.nilS,.z 140]):=fun hno=>by
  generalize ai T chv=tv at *
  generalize bc s ov sv pv=sA at *
  have ff:∀A:ac,frz A 4 (.tup [.nilS,.z 140])=.tup [.nilS,.z 140]:=fun _=>rfl
  by_cases h1:isT T
  rotate_left
  ·rw [Ss h1] at m1
   rw [aO _ _ rfl]
   simp [Id,bx0,bx1,ct,cs,lt,m1,ft,ff,dI,br,-aR,-ab,-frz,-cellsOf]
  rw [Su h1] at m1
  by_cases h2:Chk T s
  rotate_left
  ·rw [Ss h2] at m2
   rw [aO _ _ rfl]
   simp [Id,bx0,bx1,ct,cs,lt,lsA,m1,m2,ft,fs,ff,dI,br,-aR,-ab,-frz,-cellsOf]
  rw [Su h2] at m2
  have mb:iD free 0 2000000=false:=by
   cases e:iD free 0 2000000
   ·rfl
   ·exact absurd ⟨h1,h2,cP.1 e⟩ hno
  rw [mb] at m3
  rw [aO _ _ rfl]
  simp [Id,bx0,bx1,ct,cs,lt,lsA,m1,m2,m3,ft,fs,ff,aM,dI,br,-aR,-ab,-frz,-cellsOf,-cq]
 by_cases hok:vA T s free
 rotate_left
 ·have e:gE T s free=none:=SD hok
  rw [e]
  exact ⟨.nilS,bad hok,.inl ⟨rfl,rfl⟩⟩
 have e:gE T s free=some (dC T s free (kF s.order T.ch.length+1).toNat):=SA hok
 rw [e]
 obtain ⟨h1,h2,h3⟩:=hok
 rw [Su h1] at m1
 rw [Su h2] at m2
 rw [cP.2 h3] at m3
 have hv:=h1.1
 have hn4:=hv.2.2.2.1
 have hk:=zM s.order T.ch.length
 obtain ⟨R,hR⟩:∃R:Nat,kF s.order T.ch.length+1=(R:Int):=⟨(kF s.order T.ch.length+1).toNat,by omega⟩
 rw [hR,SM]
 have lpa:=KS (T:=T) (chv:=chv) (free:=free) hs (by rw [(iY h2).1]; omega) (n:=T.ch.length) (by omega) T.ch.length 1 300 (by omega) (by omega) (by omega)
 have hin:inF s.order T.ch.length 1=List.replicate (T.ch.length+1) 0:=by
  unfold inF
  simp [kF,UK]
 rw [hin] at lpa
 have b1:af .add (.z (T.ch.length:Int)) (.z 1)=some (.z ((T.ch.length+1:Nat):Int)):=aP _ (by omega)
 have mk:bY 1 8 (.z 0) A0 (.z ((T.ch.length+1:Nat):Int)) (.z ((T.ch.length+1:Nat):Int))=some (.sl 2 0 (T.ch.length+1),A24 (ai T chv) (bc s ov sv pv) (List.replicate (T.ch.length+1) 0)):=by
  simp only [bY]
  rw [SA ⟨by omega,by omega,by omega,by omega,rfl,rfl,by omega⟩,SM,hA0]
  unfold A24 ak
  rw [UP]; rfl
 obtain ⟨lpl,lpc⟩:=Io (chv:=chv) (R:=R) h2 hv hs h3 (by omega) R 0 300 (by omega) (by simp [dC]) (by omega)
 have hf0:dC T s free 0=[]:=rfl
 rw [hf0] at lpc
 have hor:A24 (ai T chv) (bc s ov sv pv) (inF s.order T.ch.length (T.ch.length+1))++oR []=A24 (ai T chv) (bc s ov sv pv) (inF s.order T.ch.length (T.ch.length+1)):=by
  unfold oR; rw [SA rfl,S5]
 rw [hor] at lpc
 have lpc:bG (evC (aq GC uA) 300 oq) mw 300 (xP (.z free) (.p 0) (.p 1) (.sl 2 0 (T.ch.length+1)) .nilS (.z (R:Int)) (.z 0)) _=_:=lpc
 have lpa:bG (evC (aq GC uA) 300 mG) my 300 (xQ (.z free) (.p 0) (.p 1) (.z (T.ch.length:Int)) (.sl 2 0 (T.ch.length+1)) (.z 1)) _=_:=lpa
 have hrow:(A24 (ai T chv) (bc s ov sv pv) (inF s.order T.ch.length (T.ch.length+1)))[2]?=some (.q (ak (inF s.order T.ch.length (T.ch.length+1)))):=rfl
 have i1:=cG (n:=T.ch.length+1) hrow (show T.ch.length<T.ch.length+1 by omega) .i64
 have d1:=dN hrow (show T.ch.length<(inF s.order T.ch.length (T.ch.length+1)).length by rw [nv _ (by omega)]; omega)
 rw [nw s.order (by omega)] at d1
 have b2:af .add (.z (kF s.order T.ch.length)) (.z 1)=some (.z (R:Int)):=by rw [aY (by omega),hR]
 unfold s24 at lpa
 unfold Fh at lpc
 obtain ⟨l,hll⟩:∃l,l=dC T s free R:=⟨_,rfl⟩
 rw [<-hll] at lpc
 have hfz:frz (A24 (ai T chv) (bc s ov sv pv) (inF s.order T.ch.length (T.ch.length+1))++oR l) 4 (.tup [w5 l,.z 0])=.tup [slA 2 (l.map aX),.z 0]:=by
  show AV.tup [frz _ 3 (w5 l),_]=_
  unfold w5 oR
  by_cases h0:l=[]
  ·rw [h0]; rfl
  ·rw [SD h0,SD h0]
   have hrw:(A24 (ai T chv) (bc s ov sv pv) (inF s.order T.ch.length (T.ch.length+1))++[Ent.row 2 (decide (1<l.length)) (l.map aX)])[3]?=some (.row 2 (decide (1<l.length)) (l.map aX)):=rfl
   have e:=dB (off:=0) (xs:=l.map aX) hrw (by rw [SL,SX]) (fun n x hx=>by
    obtain ⟨c,_,rfl⟩:=SU.1 hx
    cases n <;> rfl) 1
   rw [SF] at e
   rw [e]
   cases l with
   | nil=>exact absurd rfl h0
   | cons t r=>rfl
 rw [<-hll]
 refine ⟨slA 2 (l.map aX),?_,aZ 2 _⟩
 unfold M24 zX
 generalize A24 (ai T chv) (bc s ov sv pv) (inF s.order T.ch.length (T.ch.length+1))++oR l=B2 at *
 generalize A24 (ai T chv) (bc s ov sv pv) (inF s.order T.ch.length (T.ch.length+1))=B1 at *
 generalize A24 (ai T chv) (bc s ov sv pv) (List.replicate (T.ch.length+1) 0)=B0 at *
 generalize ai T chv=tv at *
 generalize bc s ov sv pv=sA at *
 generalize kF s.order T.ch.length=z at *
 generalize ((T.ch.length+1:Nat):Int)=N1 at *
 generalize hN:(T.ch.length:Int)=N at *
 rw [aO _ _ rfl]
 simp [Id,bx0,bx1,ct,cs,lt,lsA,m1,m2,m3,ft,fs,aM,fa0,lch,lnc,b1,b2,mk,Lj lpa,Lh lpc,i1,d1,hfz,dI,br,-aR,-ab,-aa,-ae,-aj,-bY,-frz,-cellsOf,-af,-cq]
end
end Tr
namespace Tr
open Go
open Cy (GC je aM aV az df)
open Clu (aW aT ai chA cy Chk jf aQ cH)
theorem NV {xs:List AV} {a:AV} (h:SlA e xs a) (A:ac):a8 e A a=some xs:=h.src
theorem t7 {l:List dc} (h:B[i]?=some (.row 2 g (l.map aX))):frz B 3 (.sl i 0 l.length)=.fs 2 (l.map aX):=by
 have e:=dB (off:=0) (xs:=l.map aX) h (by rw [SL,SX]) (fun n x hx=>by
  obtain ⟨c,_,rfl⟩:=SU.1 hx
  cases n <;> rfl) 1
 rw [SF] at e
 exact e
theorem Re {mv:AV} {l more:List dc} (h:RV lo B v l) (hm:SlA 2 (more.map aX) mv) (hl:l.length+more.length<=1000):∃w B',aL 2 16 B v mv=some (w,B')/\SlA 2 ((l++more).map aX) (frz B' 3 w):=by
 have hs:=NV hm B
 rcases h with ⟨rfl,rfl⟩ | ⟨i,_,rfl,hrow⟩
 ·by_cases h0:more=[]
  ·subst h0
   exact ⟨.nilS,B,by simp [aL,hs],.inl ⟨rfl,rfl⟩⟩
  ·have hp:0<more.length:=TI.2 h0
   refine ⟨.sl B.length 0 more.length,B++[.row 2 false (more.map aX)],?_,?_⟩
   ·simp only [aL,hs,SF]
    rw [SD (by omega),SA ⟨by omega,by omega,by omega⟩]
   ·rw [t7 (g:=false) (by simp),T3]
    exact .inr rfl
 ·have hil:=(Sp.1 hrow).1
  by_cases h0:l=[]
  ·subst h0
   refine ⟨.sl B.length 0 more.length,B.set i .dead++[.row 2 false (more.map aX)],?_,?_⟩
   ·simp only [aL,hs,hrow,SF,UG,U9,Up]
    rw [SA ⟨trivial,by omega,by omega,by simp at hl; omega⟩,SD (by simp)]
    simp
   ·have:(B.set i .dead++[Ent.row 2 false (more.map aX)])[B.length]?=some (.row 2 false (more.map aX)):=by simp
    rw [t7 this,T3]
    exact .inr rfl
  ·have hp:l.length≠0:=fun e=>h0 (S8.1 e)
   refine ⟨.sl i 0 (l.length+more.length),B.set i (.row 2 true (l.map aX++more.map aX)),?_,?_⟩
   ·simp only [aL,hs,hrow,SF]
    rw [SA ⟨trivial,by omega,by omega,by omega⟩,SA ⟨trivial,trivial,hp⟩]
   ·have hr:(B.set i (.row 2 true (l.map aX++more.map aX)))[i]?=some (.row 2 true ((l++more).map aX)):=by rw [SG hil,TD]
    have:=t7 hr
    rw [SW] at this
    rw [this]
    exact .inr rfl
def Af:List (FuncId × aJ):=[(13,RK),(14,aE 4 M17),(7,aE 4 M24)]
@[simp] theorem PG:aD Af 13=some RK:=rfl
@[simp] theorem PE:aD Af 14=some (aE 4 M17):=rfl
@[simp] theorem PD:aD Af 7=some (aE 4 M24):=rfl
def M25:aU:=fun args=>evP (aq GC Af) 0 Ic 4 args
theorem Ff:aw prog GC 9 M25:=aw.of_ev (E:=aq GC Af) (ax (ag G8 (ag (au.of_pure uJ 4) (ag (au.of_pure AL 4) aB)))) rfl (by kernel_rfl) Cs 4 fun _ _ h=>⟨0,h⟩
def dP (T:aW) (rd:List Int) (free:Int) (s:cy):Option (List dc):=(cK T rd free).bind fun l=>(gE T s ((gV T rd free l).getD 0)).map fun m=>l++m
theorem iW (T:aW) (rd:List Int) (free:Int):dO T rd free 0=cK T rd free:=by
 unfold dO
 by_cases hS:Sit T rd free
 ·rw [SA ⟨hS,by omega,by omega⟩,SA rfl]
 ·rw [SD (fun h=>hS h.1)]; unfold cK; rw [SD hS]
theorem IL {T:aW} {s:cy} (hc:Chk T s) (free:Int) (r:Nat):(cyc T s free r).length<=T.ch.length+1:=by
 unfold cyc
 rw [SF,<-(iY hc).1]
 exact List.length_filter_le _ _
theorem qK {T:aW} {s:cy} (hc:Chk T s) (free:Int):∀R:Nat,(dC T s free R).length<=(T.ch.length+1)*R
 | 0=>by simp [dC]
 | R+1=>by
  have h1:=qK hc free R
  have h2:=IL hc free R
  unfold dC at h1 ⊢
  rw [T7,Uu,SW,Uj,List.flatMap_nil,S5,Nat.mul_add,Nat.mul_one]
  omega
theorem ub {T:aW} {s:cy} {m:List dc} (h:gE T s free=some m):m.length<=30:=by
 unfold gE at h
 split at h
 ·rename_i hok
  injection h with h
  have hn:=hok.1.1.2.2.2.1
  have hk:=zM s.order T.ch.length
  have:=qK hok.2.1 free (kF s.order T.ch.length+1).toNat
  have h5:(kF s.order T.ch.length+1).toNat<=5:=by omega
  have:(T.ch.length+1)*(kF s.order T.ch.length+1).toNat<=5*5:=Nat.mul_le_mul (by omega) h5
  rw [<-h]; omega
 ·cases h
def swF (a b c:FuncId):cJ:=⟨4,15,.r [.y 4 0,.y 5 3,.u 6,.f 7 0] (.r [.k 5 4,.a 1,.a 2,.qn (.call (.fn a) [.tmp 0,.tmp 1,.tmp 2,.cst (.z 0)]),.i 3,.j 4 0,.j 4 1,.c 8 5,.c 9 6] (.seq (.r [.a 9,.N 13 0] (.cond (.var 13) (.r [.u 6,.f 7 140] .ret) .skip)) (.r [.k 5 4,.a 1,.a 2,.a 8,.qn (.call (.fn b) [.tmp 0,.tmp 1,.tmp 2,.tmp 3]),.i 4,.j 5 0,.j 5 1,.c 10 6,.i 7] (.r [.k 5 4,.k 4 5,.a 10,.qn (.call (.fn c) [.tmp 0,.tmp 1,.tmp 2]),.i 3,.j 4 0,.j 4 1,.c 11 5,.c 12 6] (.seq (.r [.a 12,.cq 14 0 0] (.cond (.var 14) (.r [.a 12,.u 6,.c 7 0] .ret) .skip)) (.r [.a 8,.a 11,.aw 2 0 1,.c 6 2,.f 7 0] .ret)))))),[.tmp 6,.tmp 7]⟩
section
variable {T:aW} {chv rdv:AV} {rd:List Int} {s:cy} {ov sv pv:AV} {free:Int}
theorem JO {fs:List (FuncId × aJ)} {a b c:FuncId} {HD:aJ} {MC MF:aU} (hD:aD fs a=some HD) (hC:aD fs b=some (aE 4 MC)) (hF:aD fs c=some (aE 4 MF)) (hb:SlA 2 (T.ch.map chA) chv) (hr:SlA 1 (ak rd) rdv) (hs:jf s ov sv pv)
  (dr:∀A:ac,∃v W,(∀hh,HD hh [ai T chv,rdv,.z free,.z 0] A=some (.tup [v,.bool (cK T rd free).isSome],A++W))/\RV A.length (A++W) v ((cK T rd free).getD []))
  (ck:∀ {lv:AV} {l:List dc},SlA 2 (l.map aX) lv->l.length<=200->MC [ai T chv,rdv,.z free,lv]=some (EW (gV T rd free l)))
  (fl:∀e:Int,∃v,MF [ai T chv,bc s ov sv pv,.z e]=some (.tup [v,.z (zX (gE T s e))])/\SlA 2 (((gE T s e).getD []).map aX) v) :
  ∃v,evP (aq GC fs) 0 (swF a b c) 4 [ai T chv,rdv,.z free,bc s ov sv pv]=some (.tup [v,.z (zX (dP T rd free s))])/\SlA 2 (((dP T rd free s).getD []).map aX) v:=by
 have ft:=fun A=>aQ (T:=T) (fun A n=>hb.frz (A:=A) n) A 3
 have fr:∀A n,frz A n rdv=rdv:=fun A n=>hr.frz n
 have fs:∀A,frz A 4 (bc s ov sv pv)=bc s ov sv pv:=fun A=>by
  show AV.agg [_,frz A 3 ov,frz A 3 sv,frz A 3 pv]=_
  rw [hs.o.frz,hs.st.frz,hs.pr.frz]; rfl
 have bx0:aR 5 (ai T chv) []=some (.p 0,[.row 5 false [ai T chv]]):=rfl
 have bx1:aR 4 (bc s ov sv pv) [.row 5 false [ai T chv]]=some (.p 1,[.row 5 false [ai T chv],.row 4 false [bc s ov sv pv]]):=rfl
 have ct:(cellsOf (ai T chv)).length=5:=rfl
 have cs:(cellsOf (bc s ov sv pv)).length=4:=rfl
 obtain ⟨A0,hA0⟩:∃A:ac,A=[.row 5 false [ai T chv],.row 4 false [bc s ov sv pv]]:=⟨_,rfl⟩
 have lt:∀W,ab true 5 (A0++W) (.p 0)=some (ai T chv):=fun W=>by rw [hA0]; rfl
 have lsA:∀W,ab true 4 (A0++W) (.p 1)=some (bc s ov sv pv):=fun W=>by rw [hA0]; rfl
 rw [<-hA0] at bx1
 obtain ⟨v,W,h1,hRV⟩:=dr A0
 obtain ⟨B,hW⟩:∃B,B=A0++W:=⟨_,rfl⟩
 rw [<-hW] at h1 hRV
 have lt0:=lt []
 rw [S5] at lt0
 have lt1:=lt W
 have ls1:=lsA W
 rw [<-hW] at lt1 ls1
 unfold dP
 cases hd:cK T rd free with
 | none=>
  rw [hd] at h1
  refine ⟨.nilS,?_,.inl ⟨rfl,rfl⟩⟩
  show evP _ _ _ _ _=some (.tup [.nilS,.z 140])
  have ff:∀A:ac,frz A 4 (.tup [.nilS,.z 140])=.tup [.nilS,.z 140]:=fun _=>rfl
  have h1:∀hh,HD hh [ai T chv,rdv,.z free,.z 0] A0=some (.tup [v,.f],B):=h1
  generalize ai T chv=tv at *
  generalize bc s ov sv pv=sA at *
  rw [aO _ _ rfl]
  simp [swF,hD,bx0,bx1,ct,cs,lt0,h1,ff,dI,-aR,-ab,-frz,-cellsOf]
 | some l=>
  rw [hd] at h1 hRV
  have hRV:RV A0.length B v l:=hRV
  have h1:∀hh,HD hh [ai T chv,rdv,.z free,.z 0] A0=some (.tup [v,.t],B):=h1
  obtain ⟨hln,_⟩:=qY hd
  obtain ⟨lv,hlv,hfl⟩:∃lv,SlA 2 (l.map aX) lv/\frz B 4 v=lv:=by
   rcases hRV with ⟨rfl,rfl⟩ | ⟨i,_,rfl,hrow⟩
   ·exact ⟨.nilS,.inl ⟨rfl,rfl⟩,rfl⟩
   ·exact ⟨.fs 2 (l.map aX),.inr rfl,vw hrow⟩
  have m17:=ck hlv (by omega)
  unfold EW at m17
  obtain ⟨mv,m24,hmv⟩:=fl ((gV T rd free l).getD 0)
  have hsc:br 4 (.tup [.z ((gV T rd free l).getD 0),.bool (gV T rd free l).isSome])=true:=rfl
  have nr1:bR 4 (ai T chv)=true:=Clu.cf (fun n=>hb.noRef n) 3
  have nr2:bR 4 (bc s ov sv pv)=true:=by
   show ([_,ov,sv,pv]:List AV).all (bR 3)=true
   simp [hs.o.noRef,hs.st.noRef,hs.pr.noRef,bR]
  have nr3:∀z,bR 4 (.z z)=true:=fun _=>rfl
  simp only [Te]
  obtain ⟨r,hf⟩:∃r,r=gE T s ((gV T rd free l).getD 0):=⟨_,rfl⟩
  rw [<-hf] at m24 hmv ⊢
  cases r with
  | none=>
   have m24:MF [ai T chv,bc s ov sv pv,.z ((gV T rd free l).getD 0)]=some (.tup [mv,.z 140]):=m24
   refine ⟨.nilS,?_,.inl ⟨rfl,rfl⟩⟩
   show evP _ _ _ _ _=some (.tup [.nilS,.z 140])
   have ff:∀A:ac,frz A 4 (.tup [.nilS,.z 140])=.tup [.nilS,.z 140]:=fun _=>rfl
   have b1:=cH 140 0
   rw [Su (by omega)] at b1
   generalize (gV T rd free l).getD 0=e at *
   generalize (gV T rd free l).isSome=eb at *
   generalize ai T chv=tv at *
   generalize bc s ov sv pv=sA at *
   rw [aO _ _ rfl]
   simp [swF,hD,hC,hF,bx0,bx1,ct,cs,lt0,lt1,ls1,h1,ft,fr,fs,hfl,aM,m17,m24,nr1,nr2,b1,ff,dI,-aR,-ab,-frz,-cellsOf,-af]
  | some m=>
   have m24:MF [ai T chv,bc s ov sv pv,.z ((gV T rd free l).getD 0)]=some (.tup [mv,.z 0]):=m24
   have hml:=ub hf.symm
   obtain ⟨w,B',hap,hw⟩:=Re hRV (show SlA 2 (m.map aX) mv from hmv) (by omega)
   refine ⟨frz B' 3 w,?_,hw⟩
   show evP _ _ _ _ _=some (.tup [frz B' 3 w,.z 0])
   have ff:frz B' 4 (.tup [w,.z 0])=.tup [frz B' 3 w,.z 0]:=rfl
   have b1:=cH 0 0
   rw [Ss (by omega)] at b1
   generalize (gV T rd free l).getD 0=e at *
   generalize (gV T rd free l).isSome=eb at *
   generalize ai T chv=tv at *
   generalize bc s ov sv pv=sA at *
   rw [aO _ _ rfl]
   simp [swF,hD,hC,hF,bx0,bx1,ct,cs,lt0,lt1,ls1,h1,ft,fr,fs,hfl,aM,m17,m24,nr1,nr2,b1,hap,ff,dI,-aR,-ab,-frz,-cellsOf,-af]
theorem Dv (hb:SlA 2 (T.ch.map chA) chv) (hl:T.ch.length<=200) (hr:SlA 1 (ak rd) rdv) (hrl:rd.length<=200) (hs:jf s ov sv pv):∃v,M25 [ai T chv,rdv,.z free,bc s ov sv pv]=some (.tup [v,.z (zX (dP T rd free s))])/\SlA 2 (((dP T rd free s).getD []).map aX) v:=
 JO (fs:=Af) (a:=13) (b:=14) (c:=7) rfl rfl rfl hb hr hs (fun A=>by
  have hT:Tl A T chv chv:=⟨.inl hb,fun X=>aQ (fun A n=>hb.frz (A:=A) n) _ 3,hb⟩
  have hR:Rl A rd rdv rdv:=⟨.inl hr,fun X=>hr.frz 4,hr⟩
  obtain ⟨v,B,h1,⟨W,rfl⟩,hRV⟩:=vI (free:=free) (lost:=0) hT hR hl hrl
  rw [iW] at h1 hRV
  exact ⟨v,W,fun _=>h1,hRV⟩) (fun h k=>zf hb hl hr hrl free h k) (fun e=>Dw (free:=e) hb hl hs)
end
end Tr
namespace Tr
open Go
open Cy (GC aM aV az)
open Clu (aW aT ai chA aY dZ bP cH)
def M16:aU:=fun args=>evP (aq GC []) 300 sG 1 args
theorem n8:aw prog GC 11 M16:=aw.of_ev (E:=aq GC []) (ax aB) rfl (by kernel_rfl) vV 1 fun _ _ h=>⟨300,h⟩
theorem oL {xs ys:List dc} {a b:AV} (ha:SlA 2 (xs.map aX) a) (hb:SlA 2 (ys.map aX) b) (hl:xs.length<=200) (hl2:ys.length<=200):M16 [a,b]=some (.bool (decide (xs=ys))):=by
 have hla:=ha.len
 have hlb:=hb.len
 rw [SF] at hla hlb
 have b0:af .neq (.z (xs.length:Int)) (.z (ys.length:Int))=some (.bool (decide (xs.length≠ys.length))):=by
  rw [cH]
  congr 2
  exact TO.2 (by omega)
 by_cases h0:xs.length≠ys.length
 ·rw [Su h0] at b0
  rw [Ss (fun h=>h0 (by rw [h]))]
  unfold M16
  rw [aO _ _ rfl]
  simp [sG,hla,hlb,b0,-af,-aj]
 have h0:xs.length=ys.length:=SI.1 h0
 rw [Ss (by omega)] at b0
 have round:∀(A:ac) (i:Nat) (hi:i<xs.length),run (aq GC []) 300 [.code kK] (n6 a b (.z (i:Int))) A =
   if xs[i]=ys[i]'(by omega) then some (.normal (n6 a b (.z ((i+1:Nat):Int))) A) else some (.ret [a,b,.f,.z (i:Int),.u,.t,.t] A):=fun A i hi=>by
  have x1:=ha.index (A:=A) (x:=aX xs[i]) (i:=i) (by simp [hi]) rfl (by omega) .i64
  have x2:=hb.index (A:=A) (x:=aX (ys[i]'(by omega))) (i:=i) (by simp [show i<ys.length by omega]) rfl (by omega) .i64
  obtain ⟨p,hp⟩:∃p,p=xs[i]:=⟨_,rfl⟩
  obtain ⟨q,hq⟩:∃q,q=ys[i]'(by omega):=⟨_,rfl⟩
  rw [<-hp] at x1 ⊢
  rw [<-hq] at x2 ⊢
  have ea:iV true [(0,1),(1,1)] (aX p) (aX q)=some (.bool (decide (p≠q))):=by
   obtain ⟨a1,a2⟩:=p
   obtain ⟨c1,c2⟩:=q
   simp only [aX,iV,qX,eqK]
   by_cases e1:a1=c1 <;> by_cases e2:a2=c2 <;> simp [e1,e2]
  have b1:=be i xs.length .i64
  rw [Su hi] at b1
  have b3:=aP i (by omega)
  have l1:∀z:dc,ab true 2 A (.fp (cellsOf (aX z)))=some (aX z):=fun z=>rfl
  obtain ⟨P,hP⟩:∃P,P=cellsOf (aX p):=⟨_,rfl⟩
  obtain ⟨Q,hQ⟩:∃P,P=cellsOf (aX q):=⟨_,rfl⟩
  have l2:=l1 p
  have l3:=l1 q
  rw [<-hP] at x1 l2
  rw [<-hQ] at x2 l3
  obtain ⟨i1,hi1⟩:∃i1:Nat,i1=i+1:=⟨_,rfl⟩
  rw [<-hi1] at b3 ⊢
  by_cases hd:p=q
  ·rw [Ss (by simpa using hd)] at ea
   rw [SA hd]
   simp [kK,hla,x1,x2,l2,l3,ea,b1,b3,-af,-ae,-aj,-ab,-iV]
  ·rw [Su (by simpa using hd)] at ea
   rw [SD hd]
   simp [kK,hla,x1,x2,l2,l3,ea,b1,-af,-ae,-aj,-ab,-iV]
 have bE:=be xs.length xs.length .i64
 rw [Ss (by omega)] at bE
 unfold M16
 rw [aO _ _ rfl]
 rcases bU (E:=aq GC []) (fuel:=300) (a:=kK) (mask:=j9) (fun i=>n6 a b (.z (i:Int))) (fun _=>[]) xs.length (fun i=>¬ ∀(hi:i<xs.length),xs[i]=ys[i]'(by omega))
  (oF:=fun i=>.ret [a,b,.f,.z (i:Int),.u,.t,.t] []) (oE:=.exit 0 ((n6 a b (.z (xs.length:Int))).set 5 .f) [])
  (fun _=>rfl) (fun _ _ _ h=>by cases h) (fun _ _ h=>by cases h)
  (fun i hi hp=>by
   rw [round [] i hi]
   exact SA (SI.1 hp hi))
  (fun i hi hp=>by
   rw [round [] i hi]
   exact SD fun h=>hp fun _=>h)
  (by simp [kK,hla,bE,-af,-aj]) (show xs.length<300 by omega) with ⟨i,hi,hp,hj,lp⟩ | ⟨hp,lp⟩
 ·have lp:bG (evC (aq GC []) 300 kK) j9 300 (n6 a b (.z 0)) []=_:=lp
  rw [Ss (fun h=>hp (fun _=>by subst h; rfl))]
  simp [sG,hla,hlb,b0,F2 lp,-af,-aj]
 ·have lp:bG (evC (aq GC []) 300 kK) j9 300 (n6 a b (.z 0)) []=_:=lp
  rw [Su (TB h0 fun i h1 h2=>SI.1 (hp i h1) h1)]
  simp [sG,hla,hlb,b0,F2 lp,-af,-aj]
theorem Km:Ia=Cy.KD:=rfl
theorem AB:aw prog GC 39 Cy.M12:=by
 refine aw.of_ev (E:=aq GC []) (ax aB) rfl (by kernel_rfl) Ch 1 ?_
 intro args r h
 unfold Cy.M12 at h
 split at h
 ·simp only [Sw,Sx] at h
  obtain ⟨⟨h1,h2⟩,rfl⟩:=h
  exact ⟨0,by rw [Km]; exact Cy.Sd _ _ _ h1 h2⟩
 ·cases h
end Tr
namespace Tr
open Go
open Cy (bq lar lvM bS cD)
open Clu (aW aT cy Chk t1 bm1 gq i5 rD)
theorem lP {T:aW} (hR:bS ((o.length:Int)+1) (cC T rd free o) 0) {x:List Int} {b:Bool} (h:cD (lar 0 (cC T rd free o)) (o.length+1)=(x,b)):dg T rd free o=if b=true/\x.getD 0 0=0 then some (mkX (fun j=>x.getD j 0) 0 o) else none:=by
 have e:((o.length:Int)+1).toNat=o.length+1:=by omega
 unfold dg lvM
 rw [SA hR,e,h]
 cases b
 ·rw [SD (by simp)]; simp
 ·simp
theorem RQ:Sit t1 [10,-1] 0:=by decide
theorem NY:Sit t1 [10,40] 0:=by decide
theorem RP:Sit t1 [40,30] 0:=by decide
def t1':aW:=uB t1 1
theorem RO:Sit t1' [10] 0:=by decide
theorem m5 {T:aW} (hS:Sit T rd free) (ho:gZ 10 (b0 rd)=[o]):cK T rd free=dg T rd free o:=by
 unfold cK drF
 rw [SA hS,ho]
 simp only [Ta,TJ,gg]
 cases dg T rd free o <;> rfl
theorem rdy {T:aW} (hS:Sit T rd 0) (ho:gZ 10 (b0 rd)=[o]):bS ((o.length:Int)+1) (cC T rd 0 o) 0:=by
 have hE:Emp (b0 rd) o:=(qi hS).1 (by rw [ho]; exact SY.2 rfl)
 have:=de hS.1.1
 exact (gm hS hE (fun _=>by omega)).1
theorem Kx:gZ 10 (b0 [10,-1])=[[1,2]]:=by decide +kernel
theorem Kw:gZ 10 (b0 [10,40])=[[2,1,2]]:=by decide +kernel
theorem Kv:gZ 10 (b0 [40,30])=[[2,1,2]]:=by decide +kernel
theorem Ku:gZ 10 (b0 [10])=[[1]]:=by decide +kernel
theorem lv_a:cD (lar 0 (cC t1 [10,-1] 0 [1,2])) 3=([0,10,44],true):=by decide +kernel
theorem lv_b:((cD (lar 0 (cC t1 [10,40] 0 [2,1,2])) 4).2 && decide ((cD (lar 0 (cC t1 [10,40] 0 [2,1,2])) 4).1.getD 0 0=0))=false:=by decide +kernel
theorem lv_c:cD (lar 0 (cC t1 [40,30] 0 [2,1,2])) 4=([0,30,40,74],true):=by decide +kernel
theorem lv_d:cD (lar 0 (cC t1' [10] 0 [1])) 2=([0,10],true):=by decide +kernel
theorem dr_a:cK t1 [10,-1] 0=some [(1,10),(2,44)]:=by
 rw [m5 RQ Kx,lP (rdy RQ Kx) lv_a]; rfl
theorem Em {α β:Type} (p:α × β):p=(p.1,p.2):=rfl
theorem Sf:cK t1 [10,40] 0=none:=by
 rw [m5 NY Kw,lP (rdy NY Kw) (x:=(cD (lar 0 (cC t1 [10,40] 0 [2,1,2])) 4).1) (b:=(cD (lar 0 (cC t1 [10,40] 0 [2,1,2])) 4).2) (Em _)]
 have h:=lv_b
 rw [SD]
 rintro ⟨h1,h2⟩
 rw [h1,h2] at h
 simp at h
theorem Se:cK t1 [40,30] 0=some [(2,30),(1,40),(2,74)]:=by
 rw [m5 RP Kv,lP (rdy RP Kv) lv_c]; rfl
theorem dr_d:dO t1 [10,40] 0 2=some [(1,10)]:=by
 have h:cK t1' [10] 0=some [(1,10)]:=by
  rw [m5 RO Ku,lP (rdy RO Ku) lv_d]; rfl
 unfold dO
 have e2:¬ t1.ch.length=1:=by decide
 have hI:sZ [10,40] (((2:Int)-1).toNat)=([10]:List Int):=by decide
 have hT:uB t1 (((2:Int)-1).toNat)=t1':=rfl
 rw [SA ⟨NY,by omega,by simp⟩,SD (by omega),SD e2,hI,hT,h]
 rfl
theorem Sg:gV t1 [40,30] 0 [(2,30),(1,40),(2,74)]=some 78:=by decide +kernel
theorem ck_d:gV t1 [40,30] 0 [(2,30),(1,35)]=none:=by decide +kernel
theorem Mk:∃s,gq t1=some s/\Chk t1 s/\s.order=[0,2,1]/\s.starts=[0,24,18]/\s.period=40:=by
 obtain ⟨pr,h⟩:=bm1
 exact ⟨_,h,i5 h,rfl,rfl,rfl⟩
theorem Ga {s:cy} (hc:Chk t1 s) (h1:s.order=[0,2,1]) (h2:s.starts=[0,24,18]) (_h3:s.period=40) (free:Int) (hf:0<=free/\free<=2000000):∃r,gE t1 s free=some ((0,free+2) :: r)/\r.length=4:=by
 have hok:vA t1 s free:=⟨by decide,hc,hf⟩
 have hk:(kF s.order t1.ch.length+1).toNat=2:=by rw [h1]; decide +kernel
 have e:gE t1 s free=some (dC t1 s free 2):=by
  unfold gE
  rw [SA hok,hk]
 rw [e]
 have hz:(kF [0,2,1] 0=0)/\(kF [0,2,1] 1=0)/\kF [0,2,1] 2=1:=by decide +kernel
 have c0:([0,2,1]:List Int).filter (fun t=>decide (kF [0,2,1] t.toNat<=((0:Nat):Int)))=[0,1]:=by decide +kernel
 have c1:([0,2,1]:List Int).filter (fun t=>decide (kF [0,2,1] t.toNat<=((1:Nat):Int)))=[0,2,1]:=by decide +kernel
 have eL:dC t1 s free 2=cyc t1 s free 0++cyc t1 s free 1:=by
  unfold dC
  simp [T7]
 have e0:cyc t1 s free 0=[tk t1 s free 0 0,tk t1 s free 0 1]:=by unfold cyc; rw [h1,c0]; rfl
 have e1:cyc t1 s free 1=[tk t1 s free 1 0,tk t1 s free 1 2,tk t1 s free 1 1]:=by unfold cyc; rw [h1,c1]; rfl
 refine ⟨[tk t1 s free 0 1,tk t1 s free 1 0,tk t1 s free 1 2,tk t1 s free 1 1],?_,rfl⟩
 rw [eL,e0,e1]
 have:tk t1 s free 0 0=(0,free+2):=by
  unfold tk bsF stD
  rw [h2]
  simp [t1]
 rw [this]; rfl
end Tr
namespace Tr
open Go
open Cy (GC aM aV az)
open Clu (aW aT cy Chk ai chA kT gq nG t1 kS aY bu cH aQ cf)
def M22:aU:=fun args=>evP (aq GC []) 300 uW 1 args
theorem p9:aw prog GC 65 M22:=aw.of_ev (E:=aq GC []) (ax aB) rfl (by kernel_rfl) vU 1 fun _ _ h=>⟨300,h⟩
theorem wn {T:aW} (chv:AV) (hv:aT T):M22 [ai T chv]=some (.z (wT T)):=by
 obtain ⟨_,⟨h1,h2,h3⟩,_⟩:=hv
 have b1:af .add (.z T.pick) (.z T.travel)=some (.z (T.pick+T.travel)):=aY (by omega)
 have b2:af .add (.z (T.pick+T.travel)) (.z T.place)=some (.z (wT T)):=aY (by omega)
 unfold M22
 rw [aO _ _ rfl]
 simp [uW,ai,b1,b2,-af]
def M26:aU:=fun args=>evP (aq GC []) 300 uV 4 args
theorem AK:aw prog GC 12 M26:=aw.of_ev (E:=aq GC []) (ax aB) rfl (by kernel_rfl) vT 4 fun _ _ h=>⟨300,h⟩
abbrev Sh:AV:=.fs 2 [.agg [.z 20,.z 12],.agg [.z 30,.z 12]]
abbrev tA1:AV:=.agg [Sh,.z 1,.z 1,.z 2,.z 1]
theorem tx:M26 []=some tA1:=by
 unfold M26
 rw [aO _ _ rfl]
 simp [uV]
def EI:List (FuncId × aJ):=[(12,aE 4 M26),(13,aE 4 M14),(14,aE 4 M17),(6,aE 4 Clu.M22),(7,aE 4 M24),(9,aE 4 M25),(11,aE 4 M16)]
@[simp] theorem QD:aD EI 12=some (aE 4 M26):=rfl
@[simp] theorem QJ:aD EI 13=some (aE 4 M14):=rfl
@[simp] theorem QH:aD EI 14=some (aE 4 M17):=rfl
@[simp] theorem QG:aD EI 6=some (aE 4 Clu.M22):=rfl
@[simp] theorem QF:aD EI 7=some (aE 4 M24):=rfl
@[simp] theorem QE:aD EI 9=some (aE 4 M25):=rfl
@[simp] theorem QI:aD EI 11=some (aE 4 M16):=rfl
theorem HC:∀f M,aD EI f=some M->au prog GC f M:=ag (au.of_pure AK 4) (ag (au.of_pure G7 4) (ag (au.of_pure uJ 4) (ag (au.of_pure Clu.p9 4) (ag (au.of_pure AL 4) (ag (au.of_pure Ff 4) (ag (au.of_pure n8 4) aB))))))
def M11:aU:=fun args=>match args with
 | []=>some .t
 | _=>none
abbrev i3 (a b c:Int):AV:=.fs 1 [.z a,.z b,.z c]
abbrev i2 (a b:Int):AV:=.fs 1 [.z a,.z b]
theorem xY {xs:List AV} (h:SlA e (x :: xs) v):v=.fs e (x :: xs):=by
 rcases h with ⟨_,h⟩ | h
 ·cases h
 ·exact h
theorem dm0 {T:aW}:dO T rd free 0=cK T rd free:=iW T rd free
theorem HF (s:cy) (A:ac) (n:Nat):frz A (n+1) (kT s)=kT s:=by
 have k:=fun o=>(aZ 1 (ak o)).frz (A:=A) n
 simp [kT,frz,k,aM]
open Classical in
theorem Kd:aw prog GC 4 M11:=by
 refine aw.of_ev (E:=aq GC EI) (ax HC) rfl (by kernel_rfl) L7 1 ?_
 intro args r h
 unfold M11 at h
 split at h
 rotate_left
 ·cases h
 injection h with h; subst h
 refine ⟨0,?_⟩
 have h12:SlA 2 (t1.ch.map chA) Sh:=.inr rfl
 have hi:∀a b:Int,SlA 1 (ak [a,b]) (i2 a b):=fun a b=>.inr rfl
 obtain ⟨s,hs,hc,h1,h2,h3⟩:=Mk
 have sV:=kS hc
 obtain ⟨va,ma,ra⟩:=rt (free:=0) (lost:=0) h12 (hi 10 (-1)) (by decide) (by decide)
 rw [dm0,dr_a] at ma ra
 obtain ⟨vb,mb,rb⟩:=rt (free:=0) (lost:=0) h12 (hi 10 40) (by decide) (by decide)
 rw [dm0,Sf] at mb rb
 obtain ⟨vc,mc,rc⟩:=rt (free:=0) (lost:=0) h12 (hi 40 30) (by decide) (by decide)
 rw [dm0,Se] at mc rc
 obtain ⟨vd,md,rd⟩:=rt (free:=0) (lost:=2) h12 (hi 10 40) (by decide) (by decide)
 rw [dr_d] at md rd
 have ea:=xY ra
 have ec:=xY rc
 have ed:=xY rd
 have ma:M14 [tA1,i2 10 (-1),.z 0,.z 0]=some (.tup [va,.t]):=ma
 have mb:M14 [tA1,i2 10 40,.z 0,.z 0]=some (.tup [vb,.f]):=mb
 have mc:M14 [tA1,i2 40 30,.z 0,.z 0]=some (.tup [vc,.t]):=mc
 have md:M14 [tA1,i2 10 40,.z 0,.z 2]=some (.tup [vd,.t]):=md
 have k1:=zf h12 (by decide) (hi 40 30) (by decide) 0 rc (by decide)
 rw [show (some [((2:Int),(30:Int)),(1,40),(2,74)]).getD []=[(2,30),(1,40),(2,74)] from rfl,Sg] at k1
 have k1:M17 [tA1,i2 40 30,.z 0,vc]=some (.tup [.z 78,.t]):=k1
 have k2:=zf h12 (by decide) (hi 40 30) (by decide) 0 (l:=[(2,30),(1,35)]) (.inr rfl) (by decide)
 rw [ck_d] at k2
 have k2:M17 [tA1,i2 40 30,.z 0,.fs 2 [.agg [.z 2,.z 30],.agg [.z 1,.z 35]]]=some (.tup [.z 0,.f]):=k2
 have e1:=oL ra (ys:=[(1,10),(2,44)]) (.inr rfl) (by decide) (by decide)
 have e1:M16 [va,.fs 2 [.agg [.z 1,.z 10],.agg [.z 2,.z 44]]]=some .t:=e1
 have e2:=oL rd (ys:=[(1,10)]) (.inr rfl) (by decide) (by decide)
 have e2:M16 [vd,.fs 2 [.agg [.z 1,.z 10]]]=some .t:=e2
 have b1:=Clu.wn h12 (by decide)
 rw [hs] at b1
 obtain ⟨P1,hP1⟩:∃P,P=slA 1 (ak s.proof):=⟨_,rfl⟩
 obtain ⟨z1,z2⟩:=Clu.jL s.proof
 rw [<-hP1] at z1 z2
 obtain ⟨S,hS⟩:∃S,S=AV.agg [.z 40,i3 0 2 1,i3 0 24 18,P1]:=⟨_,rfl⟩
 have hSs:S=kT s:=by rw [hS,hP1]; unfold kT; rw [h1,h2,h3]; rfl
 have b1:Clu.M22 [tA1]=some (.tup [S,.z 0]):=by rw [hSs]; exact b1
 have fS:∀A n,frz A (n+1) S=S:=fun A n=>by rw [hSs]; exact HF s A n
 obtain ⟨r,hr,hrl⟩:=Ga hc h1 h2 h3 0 (by omega)
 obtain ⟨vl,ml,rl⟩:=Dw (free:=0) h12 (by decide) sV
 rw [hr] at ml rl
 have el:=xY rl
 have ml:M24 [tA1,S,.z 0]=some (.tup [vl,.z 0]):=by rw [hSs]; exact ml
 have lenl:vl=.fs 2 (.agg [.z 0,.z 2] :: r.map aX):=el
 obtain ⟨r2,hr2,hrl2⟩:=Ga hc h1 h2 h3 78 (by omega)
 have w1:dP t1 [40,30] 0 s=some ([(2,30),(1,40),(2,74)]++(0,78+2) :: r2):=by
  unfold dP
  rw [Se,Te,Sg,S9,hr2]; rfl
 have w2:dP t1 [10,40] 0 s=none:=by
  unfold dP
  rw [Sf]; rfl
 obtain ⟨vm,mm,rm⟩:=Dv (free:=0) h12 (by decide) (hi 40 30) (by decide) sV
 rw [w1] at mm rm
 have lm:=rm.len
 rw [SF] at lm
 have mm:M25 [tA1,i2 40 30,.z 0,S]=some (.tup [vm,.z 0]):=by rw [hSs]; exact mm
 have lm:aj vm=some (.z 8):=by
  rw [lm]
  simp [hrl2]
 obtain ⟨vn,mn,_⟩:=Dv (free:=0) h12 (by decide) (hi 10 40) (by decide) sV
 rw [w2] at mn
 have mn:M25 [tA1,i2 10 40,.z 0,S]=some (.tup [vn,.z 140]):=by rw [hSs]; exact mn
 have lc:aj vc=some (.z 3):=rc.len
 have ll:aj vl=some (.z 5):=by
  rw [rl.len]; simp [hrl]
 have xl:∀A,ae 2 A vl (.z 0)=some (.fp [.z 0,.z 2]):=fun A=>rl.index (A:=A) (i:=0) (x:=aX (0,0+2)) rfl rfl (by omega) .i64
 have fa:∀A n,frz A n va=va:=fun A n=>ra.frz n
 have fb:∀A n,frz A n vb=vb:=fun A n=>rb.frz n
 have fc:∀A n,frz A n vc=vc:=fun A n=>rc.frz n
 have fd:∀A n,frz A n vd=vd:=fun A n=>rd.frz n
 clear ea ec ed el lenl
 clear rl rm ra rb rc rd
 have ft:∀A,frz A 4 tA1=tA1:=fun A=>aQ (T:=t1) (fun A n=>h12.frz (A:=A) n) A 3
 have fi:∀A a b,frz A 4 (i2 a b)=i2 a b:=fun A a b=>(hi a b).frz 4
 have fk:∀A,frz A 4 (.fs 2 [.agg [.z 2,.z 30],.agg [.z 1,.z 35]])=.fs 2 [.agg [.z 2,.z 30],.agg [.z 1,.z 35]]:=fun A=>rfl
 have fk2:∀A,frz A 4 (.fs 2 [.agg [.z 1,.z 10],.agg [.z 2,.z 44]])=.fs 2 [.agg [.z 1,.z 10],.agg [.z 2,.z 44]]:=fun A=>rfl
 have fk3:∀A,frz A 4 (.fs 2 [.agg [.z 1,.z 10]])=.fs 2 [.agg [.z 1,.z 10]]:=fun A=>rfl
 have fP1:∀A n,frz A n P1=P1:=fun A n=>by rw [hP1]; exact (aZ 1 _).frz n
 have nP1:∀n,bR n P1=true:=fun n=>by rw [hP1]; exact (aZ 1 _).noRef n
 have fS4:=fun A=>fS A 3
 clear hSs fS
 subst hS
 rw [aO _ _ rfl]
 simp [RW,tx,ma,mb,mc,md,k1,k2,e1,e2,b1,fS4,ft,fi,fk,fk2,fk3,nP1,aM,ml,mm,mn,lm,lc,ll,xl,fa,fc,fd,-frz,-ae,-aj]
 rfl
end Tr
namespace Tr
open Go
open Cy (GC aM aV az dz)
open Clu (aW aT lJ ai chA aY dZ bP cH bu aQ cf)
def nOf (ys:List (Int × Int)):Nat:=max 1 (min ys.length 4)
def yOf (ys:List (Int × Int)) (i:Nat):Int × Int:=ys.getD i (0,0)
def NU (z:Int):Int:=if pick (z.tdiv 50) 3=0 then pick z 50+200 else pick z 50
def chO (ys:List (Int × Int)) (i:Nat):Int × Int:=if i<ys.length then (pick (yOf ys i).1 60,NU (yOf ys i).2) else (20,30)
def mkT (ys:List (Int × Int)) (a b c:Int):aW:=⟨(List.range (nOf ys)).map (chO ys),pick a 4,pick b 4,pick c 5,1⟩
theorem C1 (ys:List (Int × Int)) (i:Nat):(0<=(chO ys i).1/\(chO ys i).1<=59)/\0<=(chO ys i).2/\(chO ys i).2<=249:=by
 unfold chO NU
 have k1:=gt (yOf ys i).1 60 (by omega)
 have k2:=gt (yOf ys i).2 50 (by omega)
 split
 ·split <;> simp only <;> omega
 ·simp only; omega
theorem Bh (ys:List (Int × Int)) (a b c:Int):(mkT ys a b c).ch.length=nOf ys:=by simp [mkT]
theorem uS (ys:List (Int × Int)):1<=nOf ys/\nOf ys<=4:=by unfold nOf; omega
theorem uU (ys:List (Int × Int)) (a b c:Int):aT (mkT ys a b c)/\(mkT ys a b c).blades=1:=by
 have h1:=gt a 4 (by omega)
 have h2:=gt b 4 (by omega)
 have h3:=gt c 5 (by omega)
 have hn:=Bh ys a b c
 have hb:=uS ys
 refine ⟨⟨fun c hc=>?_,⟨⟨?_,?_⟩,⟨?_,?_⟩,?_,?_⟩,?_,?_,.inl rfl⟩,rfl⟩
 ·obtain ⟨i,_,rfl⟩:=SU.1 hc
  have:=C1 ys i
  unfold lJ
  omega
 all_goals first | (rw [hn]; omega) | (simp only [mkT]; omega)
def ND (A:ac) (v:AV) (xs:List (Int × Int)):Prop:=(v=.nilS/\xs=[])\/∃id gr,v=.sl id 0 xs.length/\xs≠[]/\2<id/\A[id]?=some (.row 2 gr (xs.map chA))
structure I27 (A:ac) (xs:List (Int × Int)) (p q r:Int):Prop where
 o:A[1]?=some (.row 5 false [.agg [.nilS,.z 0,.z 0,.z 0,.z 0]])
 c:∃v,A[2]?=some (.row 5 false [.agg [v,.z p,.z q,.z r,.z 1]])/\ND A v xs
def ig:List (FuncId × aJ):=[(39,aE 4 Cy.M12)]
@[simp] theorem Pr:aD ig 39=some (aE 4 Cy.M12):=rfl
theorem nl:∀f M,aD ig f=some M->au prog GC f M:=ag (au.of_pure AB 4) aB
theorem sK {A:ac} {es:List AV} (h:A[id]?=some (.row k false [.agg es])) (hx:es[i]?=some x):ab false 1 A (.ptr id 0 i)=some x:=by
 simp [ab,h,bN,hx]
theorem b27 (ys:List (Int × Int)):dy false (.z (ys.length:Int)) [.z 4]=some (.z ((min ys.length 4:Nat):Int))/\dy true (.z 1) [.z ((min ys.length 4:Nat):Int)]=some (.z (nOf ys:Int)):=by
 constructor
 ·have:=En ys.length 4 .i64 .i64
  simp only [dy]
  rw [show (.z 4:AV)=.z ((4:Nat):Int) from rfl,this]
 ·have:=Es 1 (min ys.length 4) .i64 .i64
  simp only [dy]
  rw [show (.z 1:AV)=.z ((1:Nat):Int) from rfl,this]
  rfl
theorem A7 {a:Int} (ha:inI a) (hb:2<=b/\b<=9223372036854775807):af .quo (.z a) (.z b)=some (.z (a.tdiv b))/\inI (a.tdiv b):=by
 have h1:(a.tdiv b).natAbs<=a.natAbs:=by rw [Int.natAbs_tdiv]; exact Nat.div_le_self _ _
 have hr:inI (a.tdiv b):=by
  unfold inI at *
  have h2:(a.tdiv b).natAbs<=a.natAbs / 2:=by
   rw [Int.natAbs_tdiv]
   exact Nat.div_le_div_left (by omega) (by omega)
  omega
 refine ⟨?_,hr⟩
 have hw:=eH hr
 simp only [af]
 rw [SA trivial,SD (by omega),hw]
theorem wW {A:ac} {ys:List (Int × Int)} (hys:∀y∈ys,inI y.1/\inI y.2) (hy:SlA 2 (ys.map chA) yv) {xs:List (Int × Int)} {p q r:Int} (hI:I27 A xs p q r) (hi:i<nOf ys) (hxl:xs.length<=100) :
  ∃B,run (aq GC ig) 300 [.code fN] (r9 yv (.p 1) (.p 2) (.z (i:Int))) A=some (.normal (r9 yv (.p 1) (.p 2) (.z ((i+1:Nat):Int))) B)/\I27 B (xs++[chO ys i]) p q r:=by
 obtain ⟨h1,v,h2,hv⟩:=hI
 have n1:=(Sp.1 h1).1
 have n2:=(Sp.1 h2).1
 have hlen:=hy.len
 rw [SF] at hlen
 obtain ⟨b0,b1⟩:=b27 ys
 have b2:=be i (nOf ys) .i64
 rw [Su hi] at b2
 have b3:=be i ys.length .i64
 have b4:=aP i (by have:=uS ys; omega)
 obtain ⟨N,hN⟩:∃n,n=A.length:=⟨_,rfl⟩
 have bx:aR 2 (.agg [.z 0,.z 0]) A=some (.p N,A++[.row 2 false [.agg [.z 0,.z 0]]]):=by rw [hN]; rfl
 have s0:∀a b c d,aA 2 (A++[.row 2 false [.agg [.z a,.z b]]]) (.p N) (.agg [.z c,.z d])=some (A++[.row 2 false [.agg [.z c,.z d]]]):=fun a b c d=>by rw [hN]; simp [aA,bL]
 have f0:∀a b:Int,aa 0 (A++[.row 2 false [.agg [.z a,.z b]]]) (.p N)=some (.p N):=fun a b=>by rw [hN]; simp [aa]
 have f1:∀a b:Int,aa 1 (A++[.row 2 false [.agg [.z a,.z b]]]) (.p N)=some (.ptr N 0 1):=fun a b=>by rw [hN]; simp [aa]
 have t0:∀a b c,aA 1 (A++[.row 2 false [.agg [.z a,.z b]]]) (.p N) (.z c)=some (A++[.row 2 false [.agg [.z c,.z b]]]):=fun a b c=>by rw [hN]; simp [aA,bL]
 have t1:∀a b c,aA 1 (A++[.row 2 false [.agg [.z a,.z b]]]) (.ptr N 0 1) (.z c)=some (A++[.row 2 false [.agg [.z a,.z c]]]):=fun a b c=>by rw [hN]; simp [aA,bL]
 have l1:∀a b:Int,ab false 1 (A++[.row 2 false [.agg [.z a,.z b]]]) (.ptr N 0 1)=some (.z b):=fun a b=>by rw [hN]; exact sK (es:=[.z a,.z b]) (k:=2) (by simp) rfl
 have l2:∀a b:Int,ab true 2 (A++[.row 2 false [.agg [.z a,.z b]]]) (.p N)=some (.agg [.z a,.z b]):=fun a b=>by rw [hN]; simp [ab]
 have c0:∀X,aa 0 (A++X) (.p 2)=some (.p 2):=fun X=>by
  have:(A++X)[2]?=some (.row 5 false [.agg [v,.z p,.z q,.z r,.z 1]]):=by rw [Sy n2]; exact h2
  simp [aa,this]
 have cl:∀X,ab false 1 (A++X) (.p 2)=some v:=fun X=>sK (es:=[v,.z p,.z q,.z r,.z 1]) (k:=5) (by rw [Sy n2]; exact h2) rfl
 obtain ⟨P1,P2,hch⟩:∃P1 P2,chO ys i=(P1,P2):=⟨_,_,rfl⟩
 rw [hch]
 obtain ⟨A1,hA1⟩:∃X,X=A++[Ent.row 2 false [.agg [.z P1,.z P2]]]:=⟨_,rfl⟩
 have hl1:A1.length=A.length+1:=by rw [hA1]; simp
 have hA1o:∀j,j<A.length->A1[j]?=A[j]?:=fun j hj=>by rw [hA1,Sy hj]
 obtain ⟨v',A2,e1,e2,e3,e4,e5⟩:∃v' A2,aL 2 16 A1 v (.fs 2 [.agg [.z P1,.z P2]])=some (v',A2)/\ND A2 v' (xs++[(P1,P2)])/\(∀j,j<=2->A2[j]?=A[j]?)/\(∃a b,v'=.sl a 0 b/\2<a)/\2<A2.length:=by
  rcases hv with ⟨rfl,rfl⟩ | ⟨id,gr,rfl,hne,hid,hrow⟩
  ·refine ⟨.sl A1.length 0 1,A1++[.row 2 false [chA (P1,P2)]],by simp [aL,chA],.inr ⟨A1.length,false,rfl,by simp,by omega,by simp⟩,fun j hj=>?_,⟨_,_,rfl,by omega⟩,by simp; omega⟩
   rw [Sy (by omega),hA1o j (by omega)]
  ·have hidl:=(Sp.1 hrow).1
   have hz:xs.length≠0:=fun e=>hne (S8.1 e)
   have hb:(xs.length+1)*16<=140737488355328:=by omega
   have hrow1:A1[id]?=some (.row 2 gr (xs.map chA)):=by rw [hA1o id hidl]; exact hrow
   refine ⟨.sl id 0 (xs.length+1),A1.set id (.row 2 true (xs.map chA++[chA (P1,P2)])),by simp [aL,hrow1,hz,hb,chA],.inr ⟨id,true,by simp,by simp,hid,?_⟩,fun j hj=>?_,⟨_,_,rfl,hid⟩,by simp; omega⟩
   ·rw [SG (by omega),TD]; rfl
   ·rw [Sz (by omega),hA1o j (by omega)]
 obtain ⟨ia,ib,rfl,hia⟩:=e4
 have c2:aa 0 A2 (.p 2)=some (.p 2):=by
  have:=e3 2 (by omega)
  rw [h2] at this
  simp [aa,this]
 have st:aA 1 A2 (.p 2) (.sl ia 0 ib)=some (A2.set 2 (.row 5 false [.agg [.sl ia 0 ib,.z p,.z q,.z r,.z 1]])):=by
  have:=e3 2 (by omega)
  rw [h2] at this
  simp [aA,this,bL]
 refine ⟨A2.set 2 (.row 5 false [.agg [.sl ia 0 ib,.z p,.z q,.z r,.z 1]]),?_,⟨by rw [Sz (by omega),e3 1 (by omega)]; exact h1,.sl ia 0 ib,by rw [SG e5],?_⟩⟩
 rotate_left
 ·rcases e2 with ⟨h,_⟩ | ⟨id,gr,e2,e6,e7,e8⟩
  ·cases h
  ·exact .inr ⟨id,gr,e2,e6,e7,by rw [Sz (by omega)]; exact e8⟩
 obtain ⟨B,hB⟩:∃X,X=A2.set 2 (.row 5 false [.agg [.sl ia 0 ib,.z p,.z q,.z r,.z 1]]):=⟨_,rfl⟩
 rw [<-hB] at st ⊢
 have c1:=c0 [Ent.row 2 false [.agg [.z P1,.z P2]]]
 have cl1:=cl [Ent.row 2 false [.agg [.z P1,.z P2]]]
 have l2':=l2 P1 P2
 rw [<-hA1] at c1 cl1 l2'
 have hsl:bp 2 [.agg [.z P1,.z P2]]=some (.fs 2 [.agg [.z P1,.z P2]]):=rfl
 obtain ⟨ii,hii⟩:∃n,n=i+1:=⟨_,rfl⟩
 rw [<-hii] at b4 ⊢
 obtain ⟨nn,hnn⟩:∃n,n=nOf ys:=⟨_,rfl⟩
 rw [<-hnn] at b1 b2
 obtain ⟨mm,hmm⟩:∃n,n=min ys.length 4:=⟨_,rfl⟩
 rw [<-hmm] at b0 b1
 have A0d:∀a b,∃X,X=A++[Ent.row 2 false [.agg [.z a,.z b]]]:=fun a b=>⟨_,rfl⟩
 have u0:=s0 0 0 20 30
 obtain ⟨D0,hD0⟩:=A0d 0 0
 rw [<-hD0] at bx u0
 by_cases hc:i<ys.length
 ·rw [Su hc] at b3
  obtain ⟨y,hye⟩:∃y,y=ys[i]:=⟨_,rfl⟩
  have hyy:yOf ys i=y:=by unfold yOf; rw [Sr,Sq hc,hye]; rfl
  have hyr:inI y.1/\inI y.2:=by rw [hye]; exact hys _ (SC hc)
  have yx:∀A,ae 2 A yv (.z (i:Int))=some (.fp [.z y.1,.z y.2]):=fun A=>by
   rw [hye]
   exact hy.index (A:=A) (x:=chA ys[i]) (by simp [hc]) rfl (by omega) .i64
  have y0:∀A,dH 2 1 A (.fp [.z y.1,.z y.2]) (.z 0)=some (.fp [.z y.1,.z y.2]):=fun A=>rfl
  have y1:∀A,dH 2 1 A (.fp [.z y.1,.z y.2]) (.z 1)=some (.fp [.z y.2]):=fun A=>rfl
  have z0:∀A,ab false 1 A (.fp [.z y.1,.z y.2])=some (.z y.1):=fun A=>rfl
  have z1:∀A,ab false 1 A (.fp [.z y.2])=some (.z y.2):=fun A=>rfl
  have m1:=dz hyr.1 (n:=60) (by omega)
  have m2:=dz hyr.2 (n:=50) (by omega)
  obtain ⟨q0,q1⟩:=A7 hyr.2 (b:=50) (by omega)
  have m3:=dz q1 (n:=3) (by omega)
  have hcc:=hch
  unfold chO NU at hcc
  rw [SA hc,hyy] at hcc
  injection hcc with e1' e2'
  have r1:=gt y.2 50 (by omega)
  have b5:af .add (.z (pick y.2 50)) (.z 200)=some (.z (pick y.2 50+200)):=aY (by omega)
  have b6:=bu (pick (y.2.tdiv 50) 3) 0
  rw [e1'] at m1
  obtain ⟨S,hS⟩:∃S,S=pick y.2 50:=⟨_,rfl⟩
  rw [<-hS] at m2 e2' b5
  have u1:=f0 20 30
  have u2:=t0 20 30 P1
  have u3:=f1 P1 30
  have u4:=t1 P1 30 S
  obtain ⟨D1,hD1⟩:=A0d 20 30
  rw [<-hD1] at u0 u1 u2
  obtain ⟨D2,hD2⟩:=A0d P1 30
  rw [<-hD2] at u2 u3 u4
  generalize y.2.tdiv 50=Q at *
  generalize pick Q 3=R at *
  by_cases hR:R=0
  ·rw [SA hR] at e2'
   rw [Su hR] at b6
   rw [e2'] at b5
   have u5:=f1 P1 S
   have u6:=l1 P1 S
   have u7:=t1 P1 S P2
   rw [<-hA1] at u7
   obtain ⟨D3,hD3⟩:=A0d P1 S
   rw [<-hD3] at u4 u5 u6 u7
   simp [fN,hlen,b0,b1,b2,b3,b4,b5,b6,bx,yx,y0,y1,z0,z1,u0,u1,u2,u3,u4,u5,u6,u7,q0,m1,m2,m3,hsl,c1,cl1,l2',e1,c2,st,aM,-dy,-gf,-af,-ab,-aA,-aa,-ae,-aj,-bp,-aR,-frz]
  ·rw [SD hR] at e2'
   rw [Ss hR] at b6
   subst e2'
   rw [<-hA1] at u4
   simp [fN,hlen,b0,b1,b2,b3,b4,b6,bx,yx,y0,y1,z0,z1,u0,u1,u2,u3,u4,q0,m1,m2,m3,hsl,c1,cl1,l2',e1,c2,st,aM,-dy,-gf,-af,-ab,-aA,-aa,-ae,-aj,-bp,-aR,-frz]
 ·rw [Ss hc] at b3
  have hcc:=hch
  unfold chO at hcc
  rw [SD hc] at hcc
  injection hcc with e1' e2'
  subst e1'; subst e2'
  rw [<-hA1] at u0
  simp [fN,hlen,b0,b1,b2,b3,b4,bx,u0,hsl,c1,cl1,l2',e1,c2,st,-dy,-gf,-af,-ab,-aA,-aa,-ae,-aj,-bp,-aR,-frz]
theorem KQ {ys:List (Int × Int)} (hys:∀y∈ys,inI y.1/\inI y.2) (hy:SlA 2 (ys.map chA) yv) {p q r:Int}:∀(c i:Nat) (A:ac) (m:Nat),i+c=nOf ys->I27 A ((List.range i).map (chO ys)) p q r->c<m ->
  ∃B,bG (evC (aq GC ig) 300 fN) pn m (r9 yv (.p 1) (.p 2) (.z (i:Int))) A=some (.exit 0 ((r9 yv (.p 1) (.p 2) (.z (nOf ys:Int))).set 7 .f) B)/\I27 B ((List.range (nOf ys)).map (chO ys)) p q r:=by
 have hn4:=uS ys
 intro c
 induction c with
 | zero=>
  intro i A m hi hI hm
  obtain ⟨m,rfl⟩:∃j,m=j+1:=⟨m-1,by omega⟩
  obtain rfl:i=nOf ys:=by omega
  refine ⟨A,?_,hI⟩
  have hlen:=hy.len
  rw [SF] at hlen
  obtain ⟨b0,b1⟩:=b27 ys
  have b2:=be (nOf ys) (nOf ys) .i64
  rw [Ss (by omega)] at b2
  obtain ⟨mm,hmm⟩:∃n,n=min ys.length 4:=⟨_,rfl⟩
  rw [<-hmm] at b0 b1
  rw [UB rfl]
  simp [fN,hlen,b0,b1,b2,-af,-dy,-gf,-aj]
 | succ c ih=>
  intro i A m hi hI hm
  obtain ⟨m,rfl⟩:∃j,m=j+1:=⟨m-1,by omega⟩
  obtain ⟨B,h1,h2⟩:=wW hys hy hI (i:=i) (by omega) (by simp; omega)
  have e:(List.range i).map (chO ys)++[chO ys i]=(List.range (i+1)).map (chO ys):=by rw [T7,TD]; rfl
  rw [e] at h2
  obtain ⟨C,h3,h4⟩:=ih (i+1) B m (by omega) h2 (by omega)
  refine ⟨C,?_,h4⟩
  rw [UB rfl,h1]
  exact h3
def M27:aU:=fun args=>evP (aq GC ig) 300 uz 4 args
theorem si:aw prog GC 15 M27:=aw.of_ev (E:=aq GC ig) (ax nl) rfl (by kernel_rfl) vS 4 fun _ _ h=>⟨300,h⟩
theorem EV {A:ac} {xs:List (Int × Int)} (h:ND A v xs) (k:Nat):frz A (k+3) v=slA 2 (xs.map chA):=by
 rcases h with ⟨rfl,rfl⟩ | ⟨id,gr,rfl,hne,_,hr⟩
 ·rfl
 ·have e:((xs.map chA).drop 0).take xs.length=xs.map chA:=by
   rw [SL]
   conv=>lhs; rw [show xs.length=(xs.map chA).length by simp]
   rw [SX]
  have hm:(xs.map chA).map (frz A (k+2))=xs.map chA:=by
   rw [Ub]
   exact S3 fun x _=>by simp [chA,frz]
  rw [show k+3=(k+2)+1 from rfl]
  simp only [frz,hr]
  rw [e,hm]
  cases xs with
  | nil=>exact absurd rfl hne
  | cons x r=>rfl
def mkA (ys:List (Int × Int)) (a b c:Int):AV:=ai (mkT ys a b c) (slA 2 ((mkT ys a b c).ch.map chA))
theorem tw {ys:List (Int × Int)} (hys:∀y∈ys,inI y.1/\inI y.2) (hy:SlA 2 (ys.map chA) yv) {a c:Int} (ha:inI a) (hb:inI b) (hc:inI c):M27 [yv,.agg [.z a,.z b,.z c]]=some (mkA ys a b c):=by
 have m1:=dz ha (n:=4) (by omega)
 have m2:=dz hb (n:=4) (by omega)
 have m3:=dz hc (n:=5) (by omega)
 have hmk:mkA ys a b c=.agg [slA 2 (((List.range (nOf ys)).map (chO ys)).map chA),.z (pick a 4),.z (pick b 4),.z (pick c 5),.z 1]:=rfl
 rw [hmk]
 obtain ⟨q1,h1⟩:∃z,z=pick a 4:=⟨_,rfl⟩
 obtain ⟨q2,h2⟩:∃z,z=pick b 4:=⟨_,rfl⟩
 obtain ⟨q3,h3⟩:∃z,z=pick c 5:=⟨_,rfl⟩
 rw [<-h1] at m1 ⊢
 rw [<-h2] at m2 ⊢
 rw [<-h3] at m3 ⊢
 obtain ⟨B,lp,⟨k1,v,k2,k3⟩⟩:=KQ hys hy (p:=q1) (q:=q2) (r:=q3) (nOf ys) 0 [.row 3 false [.agg [.z a,.z b,.z c]],.row 5 false [.agg [.nilS,.z 0,.z 0,.z 0,.z 0]],.row 5 false [.agg [.nilS,.z q1,.z q2,.z q3,.z 1]]] 300 (by omega) ⟨rfl,.nilS,rfl,.inl ⟨rfl,rfl⟩⟩ (by have:=uS ys; omega)
 rw [show ((0:Nat):Int)=0 from rfl] at lp
 have e1:ab true 5 B (.p 2)=some (.agg [v,.z q1,.z q2,.z q3,.z 1]):=by simp [ab,k2]
 have kl:=(Sp.1 k1).1
 have st:aA 5 B (.p 1) (.agg [v,.z q1,.z q2,.z q3,.z 1])=some (B.set 1 (.row 5 false [.agg [v,.z q1,.z q2,.z q3,.z 1]])):=by simp [aA,k1,bL]
 have k3':ND (B.set 1 (.row 5 false [.agg [v,.z q1,.z q2,.z q3,.z 1]])) v ((List.range (nOf ys)).map (chO ys)):=by
  rcases k3 with k3 | ⟨id,gr,a,b,c,d⟩
  ·exact .inl k3
  ·exact .inr ⟨id,gr,a,b,c,by rw [Sz (by omega)]; exact d⟩
 have f1:=EV k3' 0
 have e2:ab true 5 (B.set 1 (.row 5 false [.agg [v,.z q1,.z q2,.z q3,.z 1]])) (.p 1)=some (.agg [v,.z q1,.z q2,.z q3,.z 1]):=by simp [ab,kl]
 obtain ⟨C,hC⟩:∃X,X=B.set 1 (.row 5 false [.agg [v,.z q1,.z q2,.z q3,.z 1]]):=⟨_,rfl⟩
 rw [<-hC] at st e2 f1
 have F1:frz C 4 (.agg [v,.z q1,.z q2,.z q3,.z 1])=.agg [slA 2 (((List.range (nOf ys)).map (chO ys)).map chA),.z q1,.z q2,.z q3,.z 1]:=by
  rw [<-f1]; rfl
 rw [hC] at F1
 have k1g:B[1]=.row 5 false [.agg [.nilS,.z 0,.z 0,.z 0,.z 0]]:=by
  rw [Sq kl] at k1; injection k1
 unfold M27
 rw [aO _ _ rfl]
 simp [uz,dH,m1,m2,m3,aM,Lf lp,k1g,k2,kl,F1,-frz,-af]
end Tr
namespace Tr
open Go
open Cy (GC aM aV az dz)
open Clu (aW aT ai chA aY dZ bP cH bu bQ aQ cf)
def rdO (xs:List Int) (i:Nat):Int:=if i<xs.length/\0<pick (xs.getD i 0) 4 then pick ((xs.getD i 0).tdiv 4) 120 else -1
def rdM (n:Nat) (xs:List Int):List Int:=(List.range n).map (rdO xs)
def rI (f:Nat->Int) (n i:Nat):List Int:=(List.range i).map f++List.replicate (n-i) 0
theorem Kr (f:Nat->Int) {n:Nat} (h:i<=n):(rI f n i).length=n:=by simp [rI]; omega
theorem Kq (f:Nat->Int) {n:Nat} (h:i<n):(rI f n i).set i (f i)=rI f n (i+1):=by
 unfold rI
 rw [SQ _ _ (by simp)]
 obtain ⟨m,hm⟩:∃m,n-i=m+1:=⟨n-i-1,by omega⟩
 rw [hm,show n-(i+1)=m by omega,T7]
 simp [UK]
theorem H3 (f:Nat->Int) (n:Nat):rI f n n=(List.range n).map f:=by simp [rI]
theorem H2 (f:Nat->Int) (n:Nat):rI f n 0=List.replicate n 0:=by simp [rI]
def M28:aU:=fun args=>evP (aq GC ig) 300 Jq 4 args
theorem AI:aw prog GC 16 M28:=aw.of_ev (E:=aq GC ig) (ax nl) rfl (by kernel_rfl) Cr 4 fun _ _ h=>⟨300,h⟩
def A28 (tv:AV) (l:List Int):ac:=[.row 5 false [tv],.q (ak l)]
theorem HS {tv:AV} (hx:SlA 1 (ak xs) xv) (hxi:∀z∈xs,inI z) {n i:Nat} (hn:n<=100) (hi:i<n) :
  run (aq GC ig) 300 [.code mF] (r8 xv (.sl 1 0 n) (.z (i:Int))) (A28 tv (rI (rdO xs) n i))=some (.normal (r8 xv (.sl 1 0 n) (.z ((i+1:Nat):Int))) (A28 tv (rI (rdO xs) n (i+1)))):=by
 have hr:∀l,(A28 tv l)[1]?=some (.q (ak l)):=fun l=>rfl
 have hset:∀l l',(A28 tv l).set 1 (.q (ak l'))=A28 tv l':=fun l l'=>rfl
 have hl:=Kr (rdO xs) (n:=n) (i:=i) (by omega)
 have hll:=hx.len
 rw [az] at hll
 have b0:=be i n .i64
 rw [Su hi] at b0
 have b1:=be i xs.length .i64
 have b2:=aP i (by omega)
 have hS:aj (.sl 1 0 n)=some (.z (n:Int)):=rfl
 have i0:=cG (n:=n) (hr (rI (rdO xs) n i)) hi .i64
 have s0:=gw (hr (rI (rdO xs) n i)) (show i<(rI (rdO xs) n i).length by omega) (-1)
 rw [hset] at s0
 obtain ⟨L1,hL1⟩:∃L,L=(rI (rdO xs) n i).set i (-1):=⟨_,rfl⟩
 rw [<-hL1] at s0
 have hl1:L1.length=n:=by rw [hL1,Ti,hl]
 have i1:=cG (n:=n) (hr L1) hi .i64
 have ii:∃j,j=i+1:=⟨_,rfl⟩
 obtain ⟨j,hj⟩:=ii
 have e0:=Kq (rdO xs) hi
 rw [<-hj] at b2 e0 ⊢
 by_cases hc:i<xs.length
 ·rw [Su hc] at b1
  obtain ⟨y,hy⟩:∃y,y=xs[i]:=⟨_,rfl⟩
  have hyg:xs.getD i 0=y:=by rw [Sr,Sq hc,hy]; rfl
  have hyi:inI y:=by rw [hy]; exact hxi _ (SC hc)
  have x1:∀A,ae 1 A xv (.z (i:Int))=some (.fp [.z y]):=fun A=>by
   rw [hy]
   exact hx.index1 (A:=A) (x:=.z xs[i]) (i:=i) (by simp [ak,hc]) rfl rfl .i64
  have l1:∀A,ab false 1 A (.fp [.z y])=some (.z y):=fun A=>rfl
  have m1:=dz hyi (n:=4) (by omega)
  obtain ⟨q0,q1⟩:=A7 hyi (b:=4) (by omega)
  have m2:=dz q1 (n:=120) (by omega)
  have b3:=bQ (pick y 4) 0
  have ef:rdO xs i=if 0<pick y 4 then pick (y.tdiv 4) 120 else -1:=by
   unfold rdO
   rw [hyg]
   by_cases h:0<pick y 4
   ·rw [SA ⟨hc,h⟩,SA h]
   ·rw [SD (fun hh=>h hh.2),SD h]
  generalize y.tdiv 4=Q at *
  generalize pick y 4=R at *
  generalize pick Q 120=V at *
  by_cases hR:0<R
  ·rw [SA hR] at ef
   rw [Su hR] at b3
   have s1:=gw (hr L1) (show i<L1.length by omega) V
   rw [hset,hL1,UV,<-hL1,<-ef,e0] at s1
   rw [ef] at s1
   generalize A28 tv (rI (rdO xs) n i)=B0 at *
   generalize A28 tv L1=B1 at *
   generalize A28 tv (rI (rdO xs) n j)=B2 at *
   simp [mF,hll,hS,b0,b1,b2,b3,i0,s0,i1,s1,x1,l1,q0,m1,m2,aM,-af,-ab,-aA,-ae,-aj,-frz]
  ·rw [SD hR] at ef
   rw [Ss hR] at b3
   rw [hL1,<-ef,e0] at s0
   rw [ef] at s0
   generalize A28 tv (rI (rdO xs) n i)=B0 at *
   generalize A28 tv (rI (rdO xs) n j)=B2 at *
   simp [mF,hll,hS,b0,b1,b2,b3,i0,s0,x1,l1,m1,aM,-af,-ab,-aA,-ae,-aj,-frz]
 ·rw [Ss hc] at b1
  have ef:rdO xs i = -1:=by unfold rdO; rw [SD (fun h=>hc h.1)]
  rw [hL1,<-ef,e0] at s0
  rw [ef] at s0
  generalize A28 tv (rI (rdO xs) n i)=B0 at *
  generalize A28 tv (rI (rdO xs) n j)=B2 at *
  simp [mF,hll,hS,b0,b1,b2,i0,s0,-af,-ab,-aA,-ae,-aj,-frz]
theorem KP {tv:AV} (hx:SlA 1 (ak xs) xv) (hxi:∀z∈xs,inI z) {n:Nat} (hn:n<=100):∀(c i m:Nat),i+c=n->c<m ->
  bG (evC (aq GC ig) 300 mF) pm m (r8 xv (.sl 1 0 n) (.z (i:Int))) (A28 tv (rI (rdO xs) n i))=some (.exit 0 ((r8 xv (.sl 1 0 n) (.z (n:Int))).set 6 .f) (A28 tv (rI (rdO xs) n n))):=by
 intro c
 induction c with
 | zero=>
  intro i m hi hm
  obtain ⟨m,rfl⟩:∃j,m=j+1:=⟨m-1,by omega⟩
  obtain rfl:i=n:=by omega
  have b2:=be i i .i64
  rw [Ss (by omega)] at b2
  rw [UB rfl]
  simp [mF,b2,-af]
 | succ c ih=>
  intro i m hi hm
  obtain ⟨m,rfl⟩:∃j,m=j+1:=⟨m-1,by omega⟩
  rw [UB rfl,HS hx hxi hn (by omega)]
  exact ih (i+1) m (by omega) (by omega)
theorem MY {T:aW} (hb:SlA 2 (T.ch.map chA) chv) (hl:T.ch.length<=100) (hl1:1<=T.ch.length) {xs:List Int} (hx:SlA 1 (ak xs) xv) (hxi:∀z∈xs,inI z):M28 [ai T chv,xv]=some (.fs 1 (ak (rdM T.ch.length xs))):=by
 have lp:=KP (tv:=ai T chv) hx hxi hl T.ch.length 0 300 (by omega) (by omega)
 rw [H2,H3,show ((0:Nat):Int)=0 from rfl] at lp
 have lnc:=hb.len
 rw [SF] at lnc
 have bx0:aR 5 (ai T chv) []=some (.p 0,[.row 5 false [ai T chv]]):=rfl
 have ct:(cellsOf (ai T chv)).length=5:=rfl
 obtain ⟨n,hn⟩:∃n,n=T.ch.length:=⟨_,rfl⟩
 rw [<-hn] at lp lnc hl hl1 ⊢
 have mk:bY 1 8 (.z 0) [.row 5 false [ai T chv]] (.z (n:Int)) (.z (n:Int))=some (.sl 1 0 n,A28 (ai T chv) (List.replicate n 0)):=by
  simp [bY,A28,ak]
  omega
 have fa0:aa 0 [.row 5 false [ai T chv]] (.p 0)=some (.p 0):=rfl
 have lch:ab false 1 [.row 5 false [ai T chv]] (.p 0)=some chv:=by
  rcases hb with ⟨rfl,_⟩ | rfl <;> rfl
 have ff:frz (A28 (ai T chv) (rdM n xs)) 4 (.sl 1 0 n)=.fs 1 (ak (rdM n xs)):=by
  have hrow:(A28 (ai T chv) (rdM n xs))[1]?=some (.q (ak (rdM n xs))):=rfl
  have:=dB (off:=0) (xs:=ak (rdM n xs)) hrow (by rw [SL]; exact SR (by simp [ak,rdM])) (fun k x hx=>by
   obtain ⟨c,_,rfl⟩:=SU.1 hx
   exact aM _ _ _ _) 2
  have e:(ak (rdM n xs)).length=n:=by simp [ak,rdM]
  rw [e] at this
  exact this
 rw [show (List.range n).map (rdO xs)=rdM n xs from rfl] at lp
 generalize ai T chv=tv at *
 generalize A28 tv (rdM n xs)=B1 at *
 generalize A28 tv (List.replicate n 0)=B0 at *
 unfold M28
 rw [aO _ _ rfl]
 simp [Jq,bx0,ct,fa0,lch,lnc,mk,Le lp,ff,-aR,-aa,-ab,-bY,-frz,-af,-cellsOf,-aj]
def Js:List (FuncId × aJ):=[(15,aE 4 M27),(16,aE 4 M28),(17,aE 4 Cy.M12)]
@[simp] theorem QB:aD Js 15=some (aE 4 M27):=rfl
@[simp] theorem QA:aD Js 16=some (aE 4 M28):=rfl
@[simp] theorem QC:aD Js 17=some (aE 4 Cy.M12):=rfl
theorem HA:∀f M,aD Js f=some M->au prog GC f M:=ag (au.of_pure si 4) (ag (au.of_pure AI 4) (ag (au.of_pure Cy.Kc 4) aB))
def M13:aU:=fun args=>evP (aq GC Js) 300 Oc 4 args
theorem Kb:aw prog GC 5 M13:=aw.of_ev (E:=aq GC Js) (ax HA) rfl (by kernel_rfl) L5 4 fun _ _ h=>⟨300,h⟩
structure XC where
 ys:List (Int × Int)
 a:Int
 b:Int
 c:Int
 rd:List Int
 free:Int
structure XV (x:XC) (yv rv:AV):Prop where
 y:SlA 2 (x.ys.map chA) yv
 yi:∀y∈x.ys,inI y.1/\inI y.2
 a:inI x.a
 b:inI x.b
 c:inI x.c
 r:SlA 1 (ak x.rd) rv
 ri:∀z∈x.rd,inI z
 f:inI x.free
def XC.A (x:XC) (yv rv:AV):AV:=.agg [yv,.z x.a,.z x.b,.z x.c,rv,.z x.free]
def XC.T (x:XC):aW:=mkT x.ys x.a x.b x.c
def XC.n (x:XC):Nat:=x.T.ch.length
def XC.R (x:XC):List Int:=rdM x.n x.rd
def XC.F (x:XC):Int:=pick x.free 60
def XC.ch (x:XC):AV:=slA 2 (x.T.ch.map chA)
def XC.tv (x:XC):AV:=ai x.T x.ch
def XC.rv (x:XC):AV:=.fs 1 (ak x.R)
theorem XC.nb (x:XC):1<=x.n/\x.n<=4:=by
 have:=uS x.ys
 unfold XC.n XC.T
 rw [Bh]
 exact this
theorem XC.chS (x:XC):SlA 2 (x.T.ch.map chA) x.ch:=aZ _ _
theorem XC.rvS (x:XC):SlA 1 (ak x.R) x.rv:=.inr rfl
theorem XC.tfrz (x:XC) (A:ac):frz A 4 x.tv=x.tv:=aQ (fun A n=>x.chS.frz (A:=A) n) A 3
theorem XC.tref (x:XC):bR 4 x.tv=true:=cf (fun n=>x.chS.noRef n) 3
theorem XC.rfrz (x:XC) (A:ac) (n:Nat):frz A n x.rv=x.rv:=x.rvS.frz n
theorem XC.rref (x:XC) (n:Nat):bR n x.rv=true:=x.rvS.noRef n
def Bm (x:XC):AV:=.tup [x.tv,x.rv,.z x.F]
theorem M3 {x:XC} {rv:AV} (h:XV x yv rv):M13 [x.A yv rv]=some (Bm x):=by
 have m1:=tw h.yi h.y h.a h.b h.c
 have m2:=MY (T:=x.T) x.chS (by have:=x.nb; unfold XC.n at this; omega) (by have:=x.nb; unfold XC.n at this; omega) h.r h.ri
 have m3:=dz h.f (n:=60) (by omega)
 have m1:M27 [yv,.agg [.z x.a,.z x.b,.z x.c]]=some x.tv:=m1
 have m2:M28 [x.tv,rv]=some x.rv:=m2
 have m3:Cy.M12 [.z x.free,.z 60]=some (.z x.F):=m3
 obtain ⟨A0,hA0⟩:∃A:ac,A=[.row 6 false [x.A yv rv]]:=⟨_,rfl⟩
 have hy:=oa h.y
 have hr:=oa h.r
 have f1:∀A,frz A 4 x.tv=x.tv:=x.tfrz
 have f2:∀A n,frz A n x.rv=x.rv:=x.rfrz
 have f3:∀A n,frz A n yv=yv:=fun A n=>h.y.frz n
 have f4:∀A n,frz A n rv=rv:=fun A n=>h.r.frz n
 have n1:=x.tref
 have n2:=x.rref
 have n3:∀n,bR n yv=true:=fun n=>h.y.noRef n
 have n4:∀n,bR n rv=true:=fun n=>h.r.noRef n
 have ff:∀A,frz A 4 (Bm x)=Bm x:=fun A=>by
  have q1:frz A 3 x.tv=x.tv:=aQ (fun A n=>x.chS.frz (A:=A) n) A 2
  simp [Bm,frz,q1,f2]
 have q1:∀A,frz A 3 x.tv=x.tv:=fun A=>aQ (fun A n=>x.chS.frz (A:=A) n) A 2
 have ct:cellsOf x.tv=[x.ch,.z x.T.pick,.z x.T.place,.z x.T.travel,.z 1]:=by
  have:=(uU x.ys x.a x.b x.c).2
  show [x.ch,_,_,_,.z x.T.blades]=_
  rw [show x.T.blades=1 from this]
 have et:x.tv=.agg [x.ch,.z x.T.pick,.z x.T.place,.z x.T.travel,.z 1]:=by
  have:=(uU x.ys x.a x.b x.c).2
  show AV.agg [x.ch,_,_,_,.z x.T.blades]=_
  rw [show x.T.blades=1 from this]
 obtain ⟨c1,c2⟩:=oa x.chS
 have n5:∀n,bR n x.ch=true:=fun n=>x.chS.noRef n
 have le:cO (.agg [yv,.z x.a,.z x.b,.z x.c,rv,.z x.free]) 6 1 true 3=some (.agg [.z x.a,.z x.b,.z x.c]):=by
  rcases h.y with ⟨rfl,_⟩ | rfl <;> rcases h.r with ⟨rfl,_⟩ | rfl <;> rfl
 unfold Bm at ff ⊢
 generalize x.rv=RV at *
 generalize x.F=FV at *
 generalize x.tv=TV at *
 subst et
 generalize x.ch=CH at *
 generalize x.T.pick=p1 at *
 generalize x.T.place=p2 at *
 generalize x.T.travel=p3 at *
 have f5:∀A,frz A 4 (.agg [.z x.a,.z x.b,.z x.c])=.agg [.z x.a,.z x.b,.z x.c]:=fun A=>rfl
 unfold M13
 rw [aO _ _ rfl]
 unfold XC.A
 simp [Oc,le,ff,f5,f1,f3,f4,n3,n4,n5,m1,m2,m3,aM,-frz]
end Tr
namespace Tr
open Go
open Cy (GC aM aV az dz lvM eW tV)
open Clu (aW aT cy Chk jf ai chA kT gq nG i5 rD kS)
@[simp] theorem Jf:M11 []=some .t:=rfl
theorem GV {n:Nat} (h:TA prog (n+2) 80 x):∃y:Int × Int,x=chA y/\inI y.1/\inI y.2:=by
 obtain ⟨ls,rfl,hc,hl⟩:=TA.agg (show uq prog 80=true by kernel_rfl) h
 simp only [TC,Tryz.underlying80] at hc
 rw [show prog.cellsOf 3=1 by kernel_rfl] at hc
 simp only [TCa,Tryz.underlying3] at hc
 obtain ⟨_,_,rfl,⟨a,rfl,ha⟩,_,_,_,rfl,⟨b,rfl,hb⟩,_,rfl⟩:=hc
 exact ⟨(a,b),rfl,ha,hb⟩
theorem DU {raw:AV} {n:Nat} (h:TA prog (n+3) 22 raw):∃ys:List (Int × Int),SlA 2 (ys.map chA) raw/\(∀y∈ys,inI y.1/\inI y.2)/\ys.length<=9223372036854775807:=by
 obtain ⟨es,h1,h2,h3⟩:=TA.sl Tryz.underlying22 h
 rw [show prog.cellsOf 80=2 by kernel_rfl] at h1
 obtain ⟨ys,rfl,hy⟩:=iP (f:=chA) (p:=fun y=>inI y.1/\inI y.2) fun x hx=>GV (n:=n) (h3 x hx)
 exact ⟨ys,h1,hy,by simpa using h2⟩
theorem EB {n:Nat} (h:TA prog (n+1) 24 x):∃zs:List Int,SlA 1 (ak zs) x/\zs.length<=9223372036854775807/\∀z∈zs,inI z:=
 TA.ints Tryz.underlying24 Tryz.underlying3 (by kernel_rfl) h
theorem mM {n:Nat} (h:TC prog (n+1) 24 ls) (hl:ls.length=prog.cellsOf 24):∃(x:AV) (zs:List Int),ls=[x]/\SlA 1 (ak zs) x/\zs.length<=9223372036854775807/\∀z∈zs,inI z:=by
 rw [show prog.cellsOf 24=1 by kernel_rfl] at hl
 obtain ⟨x,rfl⟩:=List.length_eq_one_iff.1 hl
 obtain ⟨zs,h1,h2,h3⟩:=EB (n:=n) (x:=x) ⟨[x],h,by rw [show prog.cellsOf 24=1 by kernel_rfl]; rfl,by
  unfold ij
  rw [SD (by rw [show uq prog 24=false by kernel_rfl]; simp)]; rfl⟩
 exact ⟨x,zs,rfl,h1,h2,h3⟩
theorem Ao {n:Nat} (h:TC prog (n+3) 22 ls) (hl:ls.length=prog.cellsOf 22):∃(x:AV) (ys:List (Int × Int)),ls=[x]/\SlA 2 (ys.map chA) x/\∀y∈ys,inI y.1/\inI y.2:=by
 rw [show prog.cellsOf 22=1 by kernel_rfl] at hl
 obtain ⟨x,rfl⟩:=List.length_eq_one_iff.1 hl
 obtain ⟨zs,h1,h2,h3⟩:=DU (n:=n) (raw:=x) ⟨[x],h,by rw [show prog.cellsOf 22=1 by kernel_rfl]; rfl,by
  unfold ij
  rw [SD (by rw [show uq prog 22=false by kernel_rfl]; simp)]; rfl⟩
 exact ⟨x,zs,rfl,h1,h2⟩
theorem zk {n:Nat} (h:TC prog (n+2) 23 ls):∃a b c:Int,ls=[.z a,.z b,.z c]/\inI a/\inI b/\inI c:=by
 simp only [TC,Tryz.underlying23] at h
 rw [show prog.cellsOf 3=1 by kernel_rfl] at h
 simp only [TCa,Tryz.underlying3] at h
 obtain ⟨_,_,rfl,⟨a,rfl,ha⟩,_,_,_,rfl,⟨b,rfl,hb⟩,_,_,_,rfl,⟨c,rfl,hc⟩,_,rfl⟩:=h
 exact ⟨a,b,c,rfl,ha,hb,hc⟩
theorem EX {n:Nat} (h:TA prog (n+5) 26 x):∃X yv rv,x=XC.A X yv rv/\XV X yv rv:=by
 obtain ⟨ls,rfl,hc,hl⟩:=TA.agg (show uq prog 26=true by kernel_rfl) h
 rw [show n+5=(n+4)+1 from rfl] at hc
 unfold TC at hc
 rw [Tryz.underlying26] at hc
 simp only [TCs] at hc
 obtain ⟨a,_,rfl,ha,la,b,_,rfl,hb,lb,c,_,rfl,hc,lc,d,_,rfl,hd,ld,rfl⟩:=hc
 obtain ⟨yv,ys,rfl,y1,y2⟩:=Ao (n:=n+1) ha la
 obtain ⟨p,q,r,rfl,p1,q1,r1⟩:=zk (n:=n+2) hb
 obtain ⟨rv,zr,rfl,s1,s2,s3⟩:=mM (n:=n+3) hc lc
 simp only [TC,Tryz.underlying3] at hd
 obtain ⟨z,rfl,hz⟩:=hd
 exact ⟨⟨ys,p,q,r,zr,z⟩,yv,rv,rfl,y1,y2,p1,q1,r1,s1,s3,hz⟩
end Tr
namespace Tr
open Go
open Cy (GC aM aV az dz)
open Clu (aW aT cy Chk jf ai chA kT gq nG i5 kS aY bK dZ bP cH bu bQ)
def B0 (x:XC) (yv rv:AV):ac:=[.row 6 false [x.A yv rv],.row 5 false [x.tv]]
end Tr
namespace Tr
open Go
open Cy (GC aM aV az dz)
open Clu (aW aT lJ cy Chk jf ai chA kT gq nG i5 kS aY bK dZ bP cH bu bQ cr aQ cf)
def rJ {α:Type} (new old:Nat->α) (n i:Nat):List α:=(List.range n).map fun j=>if j<i then new j else old j
theorem Fj {α:Type} (new old:Nat->α) (n i:Nat):(rJ new old n i).length=n:=by simp [rJ]
theorem Fi {α:Type} (new old:Nat->α) {n:Nat} (_h:i<n):(rJ new old n i).set i (new i)=rJ new old n (i+1):=by
 apply TB
 ·simp [rJ]
 intro j h1 h2
 simp only [rJ,List.getElem_set,Tk,UA]
 by_cases e:i=j
 ·subst e; rw [SA rfl,SA (by omega)]
 ·rw [SD e]
  by_cases hj:j<i
  ·rw [SA hj,SA (by omega)]
  ·rw [SD hj,SD (by omega)]
theorem Fk {α:Type} (new old:Nat->α) (n:Nat):rJ new old n n=(List.range n).map new:=S3 fun _j hj=>SA (Ty.1 hj)
theorem q5 {esz bytes:Nat} (he:0<esz) (hb:0<bytes) {A:ac} {N:Nat} (hN:N=A.length) {xs:List AV} (h:SlA esz xs xv) (hl:xs.length*bytes<=140737488355328):aL esz bytes (A++[.row esz false []]) (.sl N 0 0) xv=some (.sl (N+1) 0 xs.length,A++[.dead,.row esz false xs]):=by
 subst hN
 have hs:a8 esz (A++[.row esz false []]) xv=some xs:=by
  rcases h with ⟨rfl,rfl⟩ | rfl
  ·rfl
  ·simp [a8]
 have hr:(A++[Ent.row esz false []])[A.length]?=some (.row esz false []):=by simp
 simp only [aL,hs,hr]
 rw [SA ⟨trivial,he,hb,by rw [Up]; exact hl⟩,SD (by simp)]
 simp
section
variable {A:ac} {id:Nat} {cs:List (Int × Int)}
theorem Oh {n:Nat} {es:List AV} (h:A[id]?=some (.row 2 g es)) (hk:k<n):ae 2 A (.sl id 0 n) (.z (k:Int))=some (.ptr id k 0):=by
 simp only [ae,h]
 rw [SA ⟨trivial,by omega,by omega,by omega⟩]
 simp
end
end Tr
namespace Tr
open Go
open Cy (GC aM aV az dz)
open Clu (aW aT lJ cy Chk jf ai chA aY bK dZ bP cH bu bQ cr aQ cf)
theorem pD {A:ac} {l:List Int} {n:Nat} (h:A[id]?=some (.row 1 g (ak l))) (hn:n=l.length) (k:Nat):frz A (k+2) (.sl id 0 n)=.fs 1 (ak l):=by
 have:=dB (off:=0) (xs:=ak l) h (by rw [SL]; exact SR (SK _)) (fun k x hx=>by
  obtain ⟨c,_,rfl⟩:=SU.1 hx
  exact aM _ _ _ _) k
 rw [hn,<-az l]; exact this
end Tr
namespace Tr
open Go
open Cy (GC aM aV az dz)
open Clu (aW aT lJ ai chA aY bK dZ bP cH bu bQ cr aQ cf)
def OV (e lo:Nat) (A:ac) (v:AV) (xs:List AV):Prop:=(v=.nilS/\xs=[])\/∃id g,v=.sl id 0 xs.length/\xs≠[]/\lo<=id/\A[id]?=some (.row e g xs)
theorem Dq {bytes:Nat} (he:0<e) (hb:0<bytes) {A:ac} {xs:List AV} (h:OV e lo A v xs) (hlo:lo<=A.length) (x:AV) (hl:(xs.length+1)*bytes<=140737488355328) :
  ∃v' A',aL e bytes A v (.fs e [x])=some (v',A')/\OV e lo A' v' (xs++[x])/\(∀j,j<lo->A'[j]?=A[j]?)/\A.length<=A'.length:=by
 rcases h with ⟨rfl,rfl⟩ | ⟨id,g,rfl,hne,hid,hrow⟩
 ·refine ⟨.sl A.length 0 1,A++[.row e false [x]],?_,.inr ⟨A.length,false,rfl,by simp,hlo,by simp⟩,fun j hj=>by rw [Sy (by omega)],by simp⟩
  have hb1:0<e/\0<bytes/\bytes<=140737488355328:=⟨he,hb,by simpa using hl⟩
  simp [aL,hb1]
 ·have hil:=(Sp.1 hrow).1
  have hz:xs.length≠0:=fun h=>hne (S8.1 h)
  refine ⟨.sl id 0 (xs.length+1),A.set id (.row e true (xs++[x])),?_,.inr ⟨id,true,by simp,by simp,hid,by rw [SG hil]⟩,fun j hj=>by rw [Sz (by omega)],by simp⟩
  simp only [aL,c9,hrow,T5]
  rw [SA ⟨trivial,he,hb,hl⟩,SA ⟨trivial,trivial,hz⟩]
theorem OV.keep {A:ac} {xs:List AV} (h:OV e lo A v xs) (hk:∀j,lo<=j->j<A.length->B[j]?=A[j]?):OV e lo B v xs:=by
 rcases h with h | ⟨id,g,h1,h2,h3,h4⟩
 ·exact .inl h
 ·exact .inr ⟨id,g,h1,h2,h3,by rw [hk id h3 (Sp.1 h4).1]; exact h4⟩
theorem OV.len {A:ac} {xs:List AV} (h:OV e lo A v xs):aj v=some (.z (xs.length:Int)):=by
 rcases h with ⟨rfl,rfl⟩ | ⟨id,g,rfl,_⟩ <;> rfl
end Tr
namespace Tr
open Go
open Cy (GC bq cQ bT cA cR okA smM smT lvM lvT dG ey bS Pos aM aV az dz df bC bH)
open Clu
def M81:aU:=fun args=>evP (aq GC []) 300 Eo 1 args
theorem Fc:aw prog GC 57 M81:=aw.of_ev (E:=aq GC []) (ax aB) rfl (by kernel_rfl) LH 1 fun _ _ h=>⟨300,h⟩
def B81 (T:aW) (chv:AV) (i:Nat):ac:=.row 5 false [ai T chv] :: (T.ch.take i).map fun c=>.row 2 false [chA c]
theorem E8 {T:aW} (hi:i<T.ch.length):B81 T chv i++[.row 2 false [chA T.ch[i]]]=B81 T chv (i+1):=by
 unfold B81
 rw [Tu hi,TD]; rfl
theorem Ee {T:aW} (hcv:SlA 2 (T.ch.map chA) chv) (hl:T.ch.length<=4) {i:Nat} (hi:i<T.ch.length) :
  ∃d5 d9:AV,run (aq GC []) 300 [.code gU] (kv (.p 0) (.z (T.ch.length:Int)) (.z (i:Int))) (B81 T chv i) =
   if lJ T.ch[i] then some (.normal (kv (.p 0) (.z (T.ch.length:Int)) (.z ((i+1:Nat):Int))) (B81 T chv (i+1)))
   else some (.ret [.u,.p 0,.f,.z (T.ch.length:Int),.z (i:Int),d5,.u,.u,.t,d9,.u,.u,.u,.u,.u] (B81 T chv (i+1))):=by
 rw [<-E8 hi]
 obtain ⟨A,hA⟩:∃A,A=B81 T chv i:=⟨_,rfl⟩
 have f0:aa 0 A (.p 0)=some (.p 0):=by rw [hA]; rfl
 have l0:ab false 1 A (.p 0)=some chv:=by rw [hA]; rfl
 obtain ⟨⟨tm,sy⟩,hc⟩:∃c,c=T.ch[i]:=⟨_,rfl⟩
 have x1:=hcv.index (A:=A) (i:=i) (x:=chA T.ch[i]) (by simp [hi]) rfl (by omega) .i64
 rw [<-hc] at x1 ⊢
 rw [<-hA]
 have x1:ae 2 A chv (.z (i:Int))=some (.fp [.z tm,.z sy]):=x1
 have bx:aR 2 (.agg [.z 0,.z 0]) A=some (.p A.length,A++[.row 2 false [.agg [.z 0,.z 0]]]):=rfl
 have st:aA 2 (A++[.row 2 false [.agg [.z 0,.z 0]]]) (.p A.length) (.agg [.z tm,.z sy])=some (A++[.row 2 false [.agg [.z tm,.z sy]]]):=by simp [aA,bL]
 have g0:aa 0 (A++[.row 2 false [.agg [.z tm,.z sy]]]) (.p A.length)=some (.p A.length):=jk (es:=[.z tm,.z sy]) (k:=2) rfl (by omega)
 have g1:aa 1 (A++[.row 2 false [.agg [.z tm,.z sy]]]) (.p A.length)=some (.ptr A.length 0 1):=jk (es:=[.z tm,.z sy]) (k:=2) rfl (by omega)
 have d0:ab false 1 (A++[.row 2 false [.agg [.z tm,.z sy]]]) (.p A.length)=some (.z tm):=ku (es:=[.z tm,.z sy]) (k:=2) rfl rfl
 have d1:ab false 1 (A++[.row 2 false [.agg [.z tm,.z sy]]]) (.ptr A.length 0 1)=some (.z sy):=ku (es:=[.z tm,.z sy]) (k:=2) rfl rfl
 have b0:=be i T.ch.length .i64
 rw [Su hi] at b0
 have b1:=aP i (by omega)
 have c1:=bP tm 0
 have c2:=bQ tm 100000
 have c3:=bP sy 0
 have c4:=bQ sy 100000
 refine ⟨.p A.length,.t,?_⟩
 rw [show (.row 2 false [chA (tm,sy)]:Ent)=.row 2 false [.agg [.z tm,.z sy]] from rfl]
 obtain ⟨N,hN⟩:∃n,n=A.length:=⟨_,rfl⟩
 rw [<-hN] at bx st g0 g1 d0 d1 ⊢
 obtain ⟨A1,hA1⟩:∃X,X=A++[Ent.row 2 false [.agg [.z tm,.z sy]]]:=⟨_,rfl⟩
 rw [<-hA1] at st g0 g1 d0 d1 ⊢
 obtain ⟨i1,hi1⟩:∃n,n=i+1:=⟨_,rfl⟩
 rw [<-hi1] at b1 ⊢
 by_cases h1:tm<0
 ·rw [Su h1] at c1
  rw [SD (fun h=>by unfold lJ at h; simp only at h; omega)]
  simp [gU,f0,l0,x1,bx,st,g0,d0,b0,c1,-af,-ab,-aA,-aa,-ae,-aR]
 rw [Ss h1] at c1
 by_cases h2:tm > 100000
 ·rw [Su h2] at c2
  rw [SD (fun h=>by unfold lJ at h; simp only at h; omega)]
  simp [gU,f0,l0,x1,bx,st,g0,d0,b0,c1,c2,-af,-ab,-aA,-aa,-ae,-aR]
 rw [Ss h2] at c2
 by_cases h3:sy<0
 ·rw [Su h3] at c3
  rw [SD (fun h=>by unfold lJ at h; simp only at h; omega)]
  simp [gU,f0,l0,x1,bx,st,g0,g1,d0,d1,b0,c1,c2,c3,-af,-ab,-aA,-aa,-ae,-aR]
 rw [Ss h3] at c3
 by_cases h4:sy > 100000
 ·rw [Su h4] at c4
  rw [SD (fun h=>by unfold lJ at h; simp only at h; omega)]
  simp [gU,f0,l0,x1,bx,st,g0,g1,d0,d1,b0,c1,c2,c3,c4,-af,-ab,-aA,-aa,-ae,-aR]
 rw [Ss h4] at c4
 rw [SA (by unfold lJ; simp only; omega)]
 simp [gU,f0,l0,x1,bx,st,g0,g1,d0,d1,b0,b1,c1,c2,c3,c4,-af,-ab,-aA,-aa,-ae,-aR]
def wX (v:Int):Bool:=decide (0<=v) && decide (v<=10000)
theorem x6 {A:ac} {l:List Int} (hr:A[r]?=some (.q (ak l))) (hl:l.length=3) (hi:i<3) :
  run (aq GC []) 300 [.code kz] (nN (.sl r 0 3) (.z 3) (.z (i:Int))) A =
   if wX (l.getD i 0)=true then some (.normal (nN (.sl r 0 3) (.z 3) (.z ((i+1:Nat):Int))) A)
   else some (.ret [.u,.u,.f,.u,.u,.u,.z (l.getD i 0),.u,.u,.u,.sl r 0 3,.z 3,.z (i:Int),.t,.t] A):=by
 have ix:ae 1 A (.sl r 0 3) (.z (i:Int))=some (.ptr r i 0):=by simp [ae,hr]; omega
 have la:ab false 1 A (.ptr r i 0)=some (.z (l.getD i 0)):=by
  have:i<l.length:=by omega
  simp [ab,hr,ak,this]
 obtain ⟨v,hv⟩:∃v,v=l.getD i 0:=⟨_,rfl⟩
 rw [<-hv] at la ⊢
 have b0:af .lss (.z (i:Int)) (.z 3)=some .t:=by rw [bP,Su (by omega)]
 have b1:=aP i (by omega)
 have c1:=bP v 0
 have c2:=bQ v 10000
 obtain ⟨i1,hi1⟩:∃n,n=i+1:=⟨_,rfl⟩
 rw [<-hi1] at b1 ⊢
 by_cases h1:v<0
 ·rw [Su h1] at c1
  rw [SD (by unfold wX; simp; omega)]
  simp [kz,ix,la,b0,c1,-af,-ab,-ae]
 rw [Ss h1] at c1
 by_cases h2:v > 10000
 ·rw [Su h2] at c2
  rw [SD (by unfold wX; simp; omega)]
  simp [kz,ix,la,b0,c1,c2,-af,-ab,-ae]
 rw [Ss h2] at c2
 rw [SA (by unfold wX; simp; omega)]
 simp [kz,ix,la,b0,b1,c1,c2,-af,-ab,-ae]
theorem Ih {A:ac} {a c:Int} (hr:A[r]?=some (.q (ak [a,b,c]))) :
  ∃o,bG (evC (aq GC []) 300 kz) me 300 (nN (.sl r 0 3) (.z 3) (.z 0)) A=some o /\
   (if wX a && wX b && wX c then o=.exit 2 ((nN (.sl r 0 3) (.z 3) (.z 3)).set 13 .f) A else ∃ σ,o=.ret σ A/\σ[2]?=some .f):=by
 rcases bU (E:=aq GC []) (fuel:=300) (a:=kz) (mask:=me) (fun i=>nN (.sl r 0 3) (.z 3) (.z (i:Int))) (fun _=>A) 3 (fun i=>wX ([a,b,c].getD i 0)≠true)
  (oF:=fun i=>.ret [.u,.u,.f,.u,.u,.u,.z ([a,b,c].getD i 0),.u,.u,.u,.sl r 0 3,.z 3,.z (i:Int),.t,.t] A) (oE:=.exit 2 ((nN (.sl r 0 3) (.z 3) (.z 3)).set 13 .f) A)
  (fun _=>rfl) (fun _ _ _ h=>by cases h) (fun _ _ h=>by cases h)
  (fun i hi hp=>by
   rw [x6 hr rfl hi]
   exact SA (SI.1 hp))
  (fun i hi hp=>by
   rw [x6 hr rfl hi]
   exact SD hp)
  (by simp [kz]) (show 3<300 by omega) with ⟨i,hi,hp,hj,lp⟩ | ⟨hp,lp⟩
 ·refine ⟨_,lp,?_⟩
  have:i=0\/i=1\/i=2:=by omega
  rw [SD]
  ·exact ⟨_,rfl,rfl⟩
  ·intro h
   simp only [S4] at h
   rcases this with rfl | rfl | rfl
   ·exact hp h.1.1
   ·exact hp h.1.2
   ·exact hp h.2
 ·refine ⟨_,lp,?_⟩
  rw [SA]
  ·have h0:=SI.1 (hp 0 (by omega))
   have h1:=SI.1 (hp 1 (by omega))
   have h2:=SI.1 (hp 2 (by omega))
   simp only [S4]
   exact ⟨⟨h0,h1⟩,h2⟩
theorem GB {T:aW} (hcv:SlA 2 (T.ch.map chA) chv) (hl:T.ch.length<=200):M81 [ai T chv]=some (.bool (decide (aT T))):=by
 have hlen:=hcv.len
 rw [SF] at hlen
 have bx0:aR 5 (ai T chv) []=some (.p 0,B81 T chv 0):=rfl
 have ct:(cellsOf (ai T chv)).length=5:=rfl
 have fA:∀i j,j<5->aa j (B81 T chv i) (.p 0)=some (.ptr 0 0 j):=fun i j hj=>by simp [aa,B81,hj]
 have l0:∀i,ab false 1 (B81 T chv i) (.p 0)=some chv:=fun i=>rfl
 have l1:∀i,ab false 1 (B81 T chv i) (.ptr 0 0 1)=some (.z T.pick):=fun i=>rfl
 have l2:∀i,ab false 1 (B81 T chv i) (.ptr 0 0 2)=some (.z T.place):=fun i=>rfl
 have l3:∀i,ab false 1 (B81 T chv i) (.ptr 0 0 3)=some (.z T.travel):=fun i=>rfl
 have l4:∀i,ab false 1 (B81 T chv i) (.ptr 0 0 4)=some (.z T.blades):=fun i=>rfl
 have c1:=bP (T.ch.length:Int) 1
 have c2:=bQ (T.ch.length:Int) 4
 have c3:=bP T.blades 1
 have c4:=bQ T.blades 2
 obtain ⟨B0,hB0⟩:∃B,B=B81 T chv 0:=⟨_,rfl⟩
 have fA0:=fun j hj=>fA 0 j hj
 have l00:=l0 0
 have l40:=l4 0
 simp only [<-hB0] at fA0
 unfold M81
 rw [aO _ _ rfl]
 by_cases h1:(T.ch.length:Int)<1
 ·rw [Su h1] at c1
  rw [Ss (fun h=>by have:=h.2.2.1; omega)]
  rw [<-hB0] at bx0 l00 l40
  obtain ⟨t,ht⟩:∃t,t=ai T chv:=⟨_,rfl⟩
  rw [<-ht] at bx0 ct ⊢
  simp [Eo,bx0,ct,fA0,l00,hlen,c1,aV,-af,-ab,-aa,-aR,-aj,-frz,-cellsOf]
 rw [Ss h1] at c1
 by_cases h2:(T.ch.length:Int) > 4
 ·rw [Su h2] at c2
  rw [Ss (fun h=>by have:=h.2.2.2.1; omega)]
  rw [<-hB0] at bx0 l00 l40
  obtain ⟨t,ht⟩:∃t,t=ai T chv:=⟨_,rfl⟩
  rw [<-ht] at bx0 ct ⊢
  simp [Eo,bx0,ct,fA0,l00,hlen,c1,c2,aV,-af,-ab,-aa,-aR,-aj,-frz,-cellsOf]
 rw [Ss h2] at c2
 by_cases h3:T.blades<1
 ·rw [Su h3] at c3
  rw [Ss (fun h=>by have:=h.2.2.2.2; omega)]
  rw [<-hB0] at bx0 l00 l40
  obtain ⟨t,ht⟩:∃t,t=ai T chv:=⟨_,rfl⟩
  rw [<-ht] at bx0 ct ⊢
  simp [Eo,bx0,ct,fA0,l00,l40,hlen,c1,c2,c3,aV,-af,-ab,-aa,-aR,-aj,-frz,-cellsOf]
 rw [Ss h3] at c3
 by_cases h4:T.blades > 2
 ·rw [Su h4] at c4
  rw [Ss (fun h=>by have:=h.2.2.2.2; omega)]
  rw [<-hB0] at bx0 l00 l40
  obtain ⟨t,ht⟩:∃t,t=ai T chv:=⟨_,rfl⟩
  rw [<-ht] at bx0 ct ⊢
  simp [Eo,bx0,ct,fA0,l00,l40,hlen,c1,c2,c3,c4,aV,-af,-ab,-aa,-aR,-aj,-frz,-cellsOf]
 rw [Ss h4] at c4
 have hn4:T.ch.length<=4:=by omega
 have e:=be T.ch.length T.ch.length .i64
 rw [Ss (by omega)] at e
 have ha:(∃(i:Nat) (hi:i<T.ch.length) (d5 d9:AV),¬ lJ T.ch[i]/\bG (evC (aq GC []) 300 gU) iN 300 (kv (.p 0) (.z (T.ch.length:Int)) (.z 0)) (B81 T chv 0)=some (.ret [.u,.p 0,.f,.z (T.ch.length:Int),.z (i:Int),d5,.u,.u,.t,d9,.u,.u,.u,.u,.u] (B81 T chv (i+1)))) \/
   ((∀i (hi:i<T.ch.length),lJ T.ch[i])/\bG (evC (aq GC []) 300 gU) iN 300 (kv (.p 0) (.z (T.ch.length:Int)) (.z 0)) (B81 T chv 0)=some (.exit 0 ((kv (.p 0) (.z (T.ch.length:Int)) (.z (T.ch.length:Int))).set 8 .f) (B81 T chv T.ch.length))):=by
  have key:∀(c i m:Nat),i+c=T.ch.length->(∀j (hj:j<T.ch.length),j<i->lJ T.ch[j])->c<m->(∃(i':Nat) (hi:i'<T.ch.length) (d5 d9:AV),¬ lJ T.ch[i']/\bG (evC (aq GC []) 300 gU) iN m (kv (.p 0) (.z (T.ch.length:Int)) (.z (i:Int))) (B81 T chv i)=some (.ret [.u,.p 0,.f,.z (T.ch.length:Int),.z (i':Int),d5,.u,.u,.t,d9,.u,.u,.u,.u,.u] (B81 T chv (i'+1)))) \/
   ((∀i (hi:i<T.ch.length),lJ T.ch[i])/\bG (evC (aq GC []) 300 gU) iN m (kv (.p 0) (.z (T.ch.length:Int)) (.z (i:Int))) (B81 T chv i)=some (.exit 0 ((kv (.p 0) (.z (T.ch.length:Int)) (.z (T.ch.length:Int))).set 8 .f) (B81 T chv T.ch.length))):=by
   intro c
   induction c with
   | zero=>
    intro i m hi hok hm
    obtain ⟨m,rfl⟩:∃j,m=j+1:=⟨m-1,by omega⟩
    obtain rfl:i=T.ch.length:=by omega
    right
    refine ⟨fun j hj=>hok j hj hj,?_⟩
    rw [UB rfl]
    simp [gU,e,-af]
   | succ c ih=>
    intro i m hi hok hm
    obtain ⟨m,rfl⟩:∃j,m=j+1:=⟨m-1,by omega⟩
    have hil:i<T.ch.length:=by omega
    obtain ⟨d5,d9,hr⟩:=Ee hcv hn4 hil
    by_cases hc:lJ T.ch[i]
    ·rw [SA hc] at hr
     have:=ih (i+1) m (by omega) (fun j hj hji=>by
      by_cases e:j=i
      ·subst e; exact hc
      ·exact hok j hj (by omega)) (by omega)
     rw [UB rfl,hr]
     exact this
    ·rw [SD hc] at hr
     left
     refine ⟨i,hil,d5,d9,hc,?_⟩
     rw [UB rfl,hr]
  exact key T.ch.length 0 300 (by omega) (fun j hj h=>by omega) (by omega)
 rcases ha with ⟨i,hi,d5,d9,hbad,lp⟩ | ⟨hok,lp⟩
 ·rw [Ss (fun h=>hbad (h.1 _ (SC hi)))]
  rw [<-hB0] at bx0 l00 l40 lp
  obtain ⟨t,ht⟩:∃t,t=ai T chv:=⟨_,rfl⟩
  rw [<-ht] at bx0 ct ⊢
  simp [Eo,bx0,ct,fA0,l00,l40,hlen,c1,c2,c3,c4,BF lp,aV,-af,-ab,-aa,-aR,-aj,-frz,-cellsOf]
 ·obtain ⟨Bn,hBn⟩:∃B,B=B81 T chv T.ch.length:=⟨_,rfl⟩
  have fAn:=fun j hj=>fA T.ch.length j hj
  have l1n:=l1 T.ch.length
  have l2n:=l2 T.ch.length
  have l3n:=l3 T.ch.length
  simp only [<-hBn] at fAn
  rw [<-hBn] at l1n l2n l3n lp
  have bs:aI 1 [.z T.pick,.z T.place,.z T.travel] Bn=some (.sl Bn.length 0 3,Bn++[.q (ak [T.pick,T.place,T.travel])]):=rfl
  have lr:∀r,aj (.sl r 0 3)=some (.z 3):=fun r=>rfl
  obtain ⟨ob,lb,ho⟩:=Ih (A:=Bn++[.q (ak [T.pick,T.place,T.travel])]) (r:=Bn.length) (a:=T.pick) (b:=T.place) (c:=T.travel) (by simp)
  have hv:decide (aT T)=(wX T.pick && wX T.place && wX T.travel):=by
   rw [T4,S6]
   unfold aT wX
   simp only [S4,S6]
   constructor
   ·rintro ⟨_,⟨a,b,c⟩,_⟩
    exact ⟨⟨a,b⟩,c⟩
   ·rintro ⟨⟨a,b⟩,c⟩
    refine ⟨fun x hx=>?_,⟨a,b,c⟩,by omega,by omega,by omega⟩
    obtain ⟨i,hi,rfl⟩:=Tb.1 hx
    exact hok i hi
  rw [hv]
  obtain ⟨B1,hB1⟩:∃B,B=Bn++[Ent.q (ak [T.pick,T.place,T.travel])]:=⟨_,rfl⟩
  obtain ⟨r,hr⟩:∃r,r=Bn.length:=⟨_,rfl⟩
  rw [<-hB1,<-hr] at bs lb
  rw [<-hB1] at ho
  obtain ⟨d,hd⟩:∃d,d=(wX T.pick && wX T.place && wX T.travel):=⟨_,rfl⟩
  rw [<-hd] at ho ⊢
  rw [<-hB0] at bx0 l00 l40 lp
  obtain ⟨t,ht⟩:∃t,t=ai T chv:=⟨_,rfl⟩
  rw [<-ht] at bx0 ct ⊢
  cases d with
  | true=>
   rw [SA rfl] at ho
   subst ho
   simp [Eo,bx0,ct,fA0,fAn,l00,l40,l1n,l2n,l3n,hlen,c1,c2,c3,c4,BF lp,bs,lr,FM lb,aV,-af,-ab,-aa,-aR,-aj,-aI,-frz,-cellsOf]
  | false=>
   rw [SD (by simp)] at ho
   obtain ⟨σ,rfl,hσ⟩:=ho
   have hσ:σ[2]?.getD .u=.f:=by rw [hσ]; rfl
   simp [Eo,bx0,ct,fA0,fAn,l00,l40,l1n,l2n,l3n,hlen,c1,c2,c3,c4,BF lp,bs,lr,FM lb,hσ,aV,-af,-ab,-aa,-aR,-aj,-aI,-frz,-cellsOf]
end Tr
namespace Tr
open Go
open Cy (GC aM aV az)
open Clu (aW aT ai chA aQ aY bK cH bu bP bQ cr)
theorem lR:aw prog GC 28 M30:=by
 refine aw.of_ev (E:=aq GC []) (ax aB) rfl JB s6 1 ?_
 intro args r h
 unfold M30 at h
 split at h
 ·rename_i n lo hi
  injection h with h; subst h
  refine ⟨0,?_⟩
  have b1:af .geq (.z n) (.z lo)=some (.bool (decide (lo<=n))):=by simp [af]
  have b2:af .leq (.z n) (.z hi)=some (.bool (decide (n<=hi))):=by simp [af]
  unfold iD
  obtain ⟨p,hp⟩:∃p,p=decide (lo<=n):=⟨_,rfl⟩
  obtain ⟨q,hq⟩:∃q,q=decide (n<=hi):=⟨_,rfl⟩
  rw [<-hp] at b1 ⊢
  rw [<-hq] at b2 ⊢
  rw [aO _ _ rfl]
  cases p <;> simp [z9,b1,b2,-af]
 ·cases h
def Nt:List (FuncId × aJ):=[(57,aE 4 M81)]
@[simp] theorem OB:aD Nt 57=some (aE 4 M81):=rfl
theorem He:∀f M,aD Nt f=some M->au prog GC f M:=ag (au.of_pure Fc 4) aB
def M61:aU:=fun args=>evP (aq GC Nt) 300 N9 4 args
theorem Fd:aw prog GC 26 M61:=aw.of_ev (E:=aq GC Nt) (ax He) rfl (by kernel_rfl) LO 4 fun _ _ h=>⟨300,h⟩
theorem GD {T:aW} (hb:SlA 2 (T.ch.map chA) chv) (hl:T.ch.length<=200):M61 [ai T chv]=some (.bool (decide (isT T))):=by
 have m:=GB hb hl
 have ft:=fun A=>aQ (T:=T) (fun A n=>hb.frz (A:=A) n) A 3
 have bx:aR 5 (ai T chv) []=some (.p 0,[.row 5 false [ai T chv]]):=rfl
 have ct:(cellsOf (ai T chv)).length=5:=rfl
 obtain ⟨A0,hA0⟩:∃A:ac,A=[.row 5 false [ai T chv]]:=⟨_,rfl⟩
 have lt:ab true 5 A0 (.p 0)=some (ai T chv):=by rw [hA0]; rfl
 have fa:aa 4 A0 (.p 0)=some (.ptr 0 0 4):=by rw [hA0]; simp [aa]
 have l4:ab false 1 A0 (.ptr 0 0 4)=some (.z T.blades):=by rw [hA0]; rfl
 have b1:=bu T.blades 1
 have e:decide (isT T)=(decide (aT T) && decide (T.blades=1)):=by
  unfold isT
  by_cases h1:T.blades=1 <;> by_cases h2:aT T <;> simp [h1,h2]
 rw [e]
 obtain ⟨t,ht⟩:∃t,t=ai T chv:=⟨_,rfl⟩
 rw [<-ht] at m ft bx ct lt hA0 ⊢
 rw [<-hA0] at bx
 obtain ⟨p,hp⟩:∃p,p=decide (T.blades=1):=⟨_,rfl⟩
 obtain ⟨q,hq⟩:∃q,q=decide (aT T):=⟨_,rfl⟩
 rw [<-hp] at b1 ⊢
 rw [<-hq] at m ⊢
 unfold M61
 rw [aO _ _ rfl]
 cases q <;> simp [N9,m,ft,bx,ct,lt,fa,l4,b1,aV,-aR,-ab,-aa,-frz,-cellsOf,-af]
def yB:List (FuncId × aJ):=[(26,aE 4 M61),(28,aE 4 M30)]
@[simp] theorem O6:aD yB 26=some (aE 4 M61):=rfl
@[simp] theorem O7:aD yB 28=some (aE 4 M30):=rfl
theorem wH:∀f M,aD yB f=some M->au prog GC f M:=ag (au.of_pure Fd 4) (ag (au.of_pure lR 4) aB)
def M35:aU:=fun args=>evP (aq GC yB) 300 w8 4 args
theorem sg:aw prog GC 61 M35:=aw.of_ev (E:=aq GC yB) (ax wH) rfl (by kernel_rfl) vR 4 fun _ _ h=>⟨300,h⟩
abbrev r35 (rv:AV) (v5 v7 v8:AV):List AV:=[.u,rv,.u,.u,.f,v5,.u,v7,v8]
theorem KN {rv:AV} (hr:SlA 1 (ak rd) rv) (hl:rd.length<=200) (A:ac):∀(c i m:Nat),i+c=rd.length->c<m ->
  ((rd.drop i).any tg=false->bG (evC (aq GC yB) 300 mE) mt m (pV rv (.z (i:Int))) A=some (.exit 0 ((pV rv (.z (rd.length:Int))).set 7 .f) A)) /\
  ((rd.drop i).any tg=true->∃v5 v7 v8,bG (evC (aq GC yB) 300 mE) mt m (pV rv (.z (i:Int))) A=some (.ret (r35 rv v5 v7 v8) A)):=by
 have hlr:=hr.len
 rw [az] at hlr
 intro c
 induction c with
 | zero=>
  intro i m hi hm
  obtain ⟨m,rfl⟩:∃j,m=j+1:=⟨m-1,by omega⟩
  obtain rfl:i=rd.length:=by omega
  rw [TN]
  refine ⟨fun _=>?_,fun h=>by cases h⟩
  have b2:=be rd.length rd.length .i64
  rw [Ss (by omega)] at b2
  rw [UB rfl]
  simp [mE,b2,hlr,-af,-aj]
 | succ c ih=>
  intro i m hi hm
  obtain ⟨m,rfl⟩:∃j,m=j+1:=⟨m-1,by omega⟩
  have hin:i<rd.length:=by omega
  obtain ⟨k1,k2⟩:=ih (i+1) m (by omega) (by omega)
  have b0:=be i rd.length .i64
  rw [Su hin] at b0
  have b1:=aP i (by omega)
  obtain ⟨z,hz⟩:∃z,z=rd[i]:=⟨_,rfl⟩
  have x0:ae 1 A rv (.z (i:Int))=some (.fp [.z z]):=by
   rw [hz]
   exact hr.index1 (A:=A) (x:=.z rd[i]) (i:=i) (by simp [ak,hin]) rfl rfl .i64
  have x1:∀A z,ab false 1 A (.fp [.z z])=some (.z z):=fun _ _=>rfl
  have m3:=cq z (-1) 500000
  rw [To hin,List.any_cons,<-hz]
  have hbz:tg z=!iD z (-1) 500000:=rfl
  rw [hbz]
  generalize iD z (-1) 500000=g at *
  obtain ⟨w,hw⟩:∃w,w=((i+1:Nat):Int):=⟨_,rfl⟩
  rw [<-hw] at b1 k1 k2
  cases g
  ·refine ⟨fun h=>by simp at h,fun _=>⟨.z (i:Int),.t,.t,?_⟩⟩
   rw [UB rfl]
   simp [mE,b0,x0,x1,m3,hlr,aM,-af,-ab,-ae,-aj,-cq,-frz]
  ·have e:run (aq GC yB) 300 [.code mE] (pV rv (.z (i:Int))) A=some (.normal (pV rv (.z w)) A):=by
    simp [mE,b0,b1,x0,x1,m3,hlr,aM,-af,-ab,-ae,-aj,-cq,-frz]
   refine ⟨fun h=>?_,fun h=>?_⟩
   ·rw [UB rfl,e]
    exact k1 (by simpa using h)
   ·obtain ⟨v5,v7,v8,h2⟩:=k2 (by simpa using h)
    refine ⟨v5,v7,v8,?_⟩
    rw [UB rfl,e]
    exact h2
theorem ze {T:aW} (hb:SlA 2 (T.ch.map chA) chv) (hl:T.ch.length<=200) (hr:SlA 1 (ak rd) rdv) (hrl:rd.length<=200) (free:Int):M35 [ai T chv,rdv,.z free]=some (.bool (decide (Sit T rd free))):=by
 have m:=GD hb hl
 have m3:=cq free 0 2000000
 have ft:=fun A=>aQ (T:=T) (fun A n=>hb.frz (A:=A) n) A 3
 have hl1:=hb.len
 rw [SF] at hl1
 have hl2:=hr.len
 rw [az] at hl2
 have bx:aR 5 (ai T chv) []=some (.p 0,[.row 5 false [ai T chv]]):=rfl
 have ct:(cellsOf (ai T chv)).length=5:=rfl
 obtain ⟨A0,hA0⟩:∃A:ac,A=[.row 5 false [ai T chv]]:=⟨_,rfl⟩
 have lt:ab true 5 A0 (.p 0)=some (ai T chv):=by rw [hA0]; rfl
 have fa:aa 0 A0 (.p 0)=some (.p 0):=by rw [hA0]; simp [aa]
 have l0:ab false 1 A0 (.p 0)=some chv:=by
  rw [hA0]
  rcases hb with ⟨rfl,_⟩ | rfl <;> rfl
 have b1:=cH (rd.length:Int) (T.ch.length:Int)
 obtain ⟨k1,k2⟩:=KN hr hrl A0 rd.length 0 300 (by omega) (by omega)
 rw [SL,show ((0:Nat):Int)=0 from rfl] at k1 k2
 rw [Kj]
 have eq:decide ((rd.length:Int)≠(T.ch.length:Int))=!decide ((rd.length:Int)=(T.ch.length:Int)):=by
  by_cases h:(rd.length:Int)=(T.ch.length:Int) <;> simp [h]
 rw [eq] at b1
 obtain ⟨t,ht⟩:∃t,t=ai T chv:=⟨_,rfl⟩
 rw [<-ht] at m ft bx ct lt hA0 ⊢
 rw [<-hA0] at bx
 have fb:∀A b,frz A 4 (.bool b)=.bool b:=fun A b=>aV _ _ _
 generalize decide (isT T)=p at *
 generalize decide ((rd.length:Int)=(T.ch.length:Int))=q at *
 generalize iD free 0 2000000=u at *
 unfold M35
 have bad:∀v,(p=false\/q=false\/u=false)->evP (aq GC yB) 300 w8 4 [t,rdv,.z free]=some (.bool (p && (q && (u && v)))):=fun v h=>by
  rw [aO _ _ rfl]
  cases p
  ·simp [w8,m,ft,bx,ct,lt,fb,-aR,-ab,-aa,-aj,-frz,-cellsOf,-af,-cq]
  ·cases q
   ·rw [Bool.not_false] at b1
    simp [w8,m,ft,bx,ct,lt,fa,l0,b1,hl1,hl2,fb,-aR,-ab,-aa,-aj,-frz,-cellsOf,-af,-cq]
   ·rw [Bool.not_true] at b1
    cases u
    ·simp [w8,m,m3,ft,bx,ct,lt,fa,l0,b1,hl1,hl2,fb,aM,-aR,-ab,-aa,-aj,-frz,-cellsOf,-af,-cq]
    ·rcases h with h | h | h <;> cases h
 cases p
 ·exact bad _ (.inl rfl)
 cases q
 ·exact bad _ (.inr (.inl rfl))
 cases u
 ·exact bad _ (.inr (.inr rfl))
 clear bad
 rw [Bool.not_true] at b1
 cases hv:rd.any tg with
 | false=>
  have e:=k1 hv
  clear k1 k2 hv
  generalize hr1:(rd.length:Int)=RL at *
  rw [aO _ _ rfl]
  simp [w8,m,m3,ft,bx,ct,lt,fa,l0,b1,hl1,hl2,FY e,fb,aM,-aR,-ab,-aa,-aj,-frz,-cellsOf,-af,-cq]
 | true=>
  obtain ⟨v5,v7,v8,e⟩:=k2 hv
  clear k1 k2 hv
  generalize hr1:(rd.length:Int)=RL at *
  rw [aO _ _ rfl]
  simp [w8,m,m3,ft,bx,ct,lt,fa,l0,b1,hl1,hl2,FY e,fb,aM,-aR,-ab,-aa,-aj,-frz,-cellsOf,-af,-cq]
end Tr
namespace Tr
open Go
structure TP where
 m:Nat
 hd:Nat->Int
 bf:Nat->Int
 dn:Nat->Int
 st:Nat->Int
namespace TP
variable (t:TP)
def pv (xs:List Int) (i:Nat):Int:=if i=0 then 0 else xs.getD (i-1) 0
def sr (xs:List Int) (i:Nat):Int:=if t.bf i<0 then 0 else xs.getD (t.bf i).toNat 0
def okI (xs:List Int) (i:Nat):Prop:=pv xs i+t.hd i<=xs.getD i 0/\t.sr xs i+t.dn i<=xs.getD i 0/\xs.getD i 0-(t.dn i+t.st i)<=t.sr xs i
def ok (xs:List Int):Prop:=xs.length=t.m/\∀i,i<t.m->t.okI xs i
def up (s:List Int × Bool) (i:Nat) (l:Int):List Int × Bool:=if l > s.1.getD i 0 then (s.1.set i l,true) else s
def step (s:List Int × Bool) (i:Nat):Option (List Int × Bool):=
 if t.bf i<0 then
  if max (s.1.getD i 0) (max (pv s.1 i+t.hd i) (t.dn i)) > t.dn i+t.st i then none
  else some (up s i (max (pv s.1 i+t.hd i) (t.dn i)))
 else
  some (up (up s i (max (pv s.1 i+t.hd i) (s.1.getD (t.bf i).toNat 0+t.dn i))) (t.bf i).toNat ((up s i (max (pv s.1 i+t.hd i) (s.1.getD (t.bf i).toNat 0+t.dn i))).1.getD i 0-t.dn i-t.st i))
def rnd:Nat->List Int × Bool->Option (List Int × Bool)
 | 0,s=>some s
 | c+1,s=>(t.step s (t.m-(c+1))).bind (rnd c)
def ref:Nat->List Int->Option (List Int)
 | 0,_=>none
 | c+1,xs=>(t.rnd t.m (xs,false)).bind fun s=>if s.2 then ref c s.1 else some s.1
def le (xs ys:List Int):Prop:=xs.length=ys.length/\∀j,j<xs.length->xs.getD j 0<=ys.getD j 0
theorem le_refl (xs:List Int):le xs xs:=⟨rfl,fun _ _=>TY _⟩
theorem le_trans {zs:List Int} (h:le xs ys) (k:le ys zs):le xs zs:=⟨h.1.trans k.1,fun j hj=>Vm (h.2 j hj) (k.2 j (by rw [<-h.1]; exact hj))⟩
theorem gB (h:le xs ys) (k:le ys xs):xs=ys:=by
 apply TB h.1
 intro j h1 h2
 have a:=h.2 j h1
 have b:=k.2 j h2
 rw [Sr,Sr,Sq h1,Sq h2] at a b
 simp only [S9] at a b
 omega
theorem up_len (s:List Int × Bool) (i:Nat) (l:Int):(up s i l).1.length=s.1.length:=by unfold up; split <;> simp
theorem GU (s:List Int × Bool) (hi:i<s.1.length) (l:Int):le s.1 (up s i l).1/\l<=(up s i l).1.getD i 0:=by
 unfold up
 split
 ·rename_i h
  refine ⟨⟨by simp,fun j hj=>?_⟩,?_⟩
  ·rw [dh]
   split
   ·rename_i h2; rw [<-h2.1]; omega
   ·exact TY _
  ·rw [dh,SA ⟨rfl,hi⟩]; exact TY _
 ·exact ⟨le_refl _,by omega⟩
theorem tE {l:Int} (h:le s.1 ys) (hl:l<=ys.getD i 0):le (up s i l).1 ys:=by
 unfold up
 split
 ·refine ⟨by simpa using h.1,fun j hj=>?_⟩
  rw [dh]
  split
  ·rename_i h2; rw [<-h2.1]; exact hl
  ·exact h.2 j (by simpa using hj)
 ·exact h
theorem wC (s:List Int × Bool) (hi:i<s.1.length) (l:Int):((up s i l).2=false->up s i l=s/\s.2=false/\l<=s.1.getD i 0)/\((up s i l).1=s.1->up s i l=s/\l<=s.1.getD i 0):=by
 unfold up
 split
 ·rename_i h
  refine ⟨fun e=>by simp at e,fun e=>?_⟩
  have:s.1.getD i 0=l:=by
   have e:s.1.set i l=s.1:=e
   have:(s.1.set i l).getD i 0=s.1.getD i 0:=by rw [e]
   rw [dh,SA ⟨rfl,hi⟩] at this
   exact this.symm
  omega
 ·exact ⟨fun e=>⟨rfl,e,by omega⟩,fun _=>⟨rfl,by omega⟩⟩
theorem Ks (h:le xs ys) (hi:i<xs.length):pv xs i<=pv ys i:=by
 unfold pv
 split
 ·exact TY _
 ·exact h.2 _ (by omega)
structure wf:Prop where
 b:∀i,i<t.m->t.bf i<i /\ -1<=t.bf i
variable {t}
theorem G2 (hw:t.wf) (h:le xs ys) (hl:xs.length=t.m) (hi:i<t.m):t.sr xs i<=t.sr ys i:=by
 have:=hw.b i hi
 unfold sr
 split
 ·exact TY _
 ·exact h.2 _ (by omega)
theorem step_spec (hw:t.wf) (hl:s.1.length=t.m) {i:Nat} (hi:i<t.m) {s':List Int × Bool} (h:t.step s i=some s') :
  s'.1.length=t.m/\le s.1 s'.1/\(s'.2=false->s'=s/\s.2=false/\t.okI s.1 i)/\(s'.1=s.1->s'=s) /\
  pv s.1 i+t.hd i<=s'.1.getD i 0/\t.sr s.1 i+t.dn i<=s'.1.getD i 0/\s.1.getD i 0-(t.dn i+t.st i)<=t.sr s'.1 i:=by
 have hb:=hw.b i hi
 unfold step at h
 by_cases hn:t.bf i<0
 ·rw [SA hn] at h
  split at h
  ·cases h
  ·rename_i hc
   injection h with h
   subst h
   have h1:=GU s (i:=i) (by omega) (max (pv s.1 i+t.hd i) (t.dn i))
   have h2:=wC s (i:=i) (by omega) (max (pv s.1 i+t.hd i) (t.dn i))
   refine ⟨by rw [up_len,hl],h1.1,fun e=>?_,fun e=>(h2.2 e).1,by omega,?_,?_⟩
   ·obtain ⟨e1,e2,e3⟩:=h2.1 e
    refine ⟨e1,e2,by omega,?_,?_⟩
    ·unfold sr; rw [SA hn]; omega
    ·unfold sr; rw [SA hn]; omega
   ·unfold sr; rw [SA hn]; omega
   ·unfold sr; rw [SA hn]; omega
 ·rw [SD hn] at h
  injection h with h
  obtain ⟨l,hll⟩:∃l,l=max (pv s.1 i+t.hd i) (s.1.getD (t.bf i).toNat 0+t.dn i):=⟨_,rfl⟩
  rw [<-hll] at h
  obtain ⟨s1,hs1⟩:∃s1,s1=up s i l:=⟨_,rfl⟩
  rw [<-hs1] at h
  obtain ⟨p,hp⟩:∃p,p=(t.bf i).toNat:=⟨_,rfl⟩
  rw [<-hp] at h hll
  have hpi:p<i:=by omega
  have hl1:s1.1.length=t.m:=by rw [hs1,up_len,hl]
  have a1:=GU s (i:=i) (by omega) l
  have a2:=wC s (i:=i) (by omega) l
  rw [<-hs1] at a1 a2
  have b1:=GU s1 (i:=p) (by omega) (s1.1.getD i 0-t.dn i-t.st i)
  have b2:=wC s1 (i:=p) (by omega) (s1.1.getD i 0-t.dn i-t.st i)
  rw [h] at b1 b2
  have hl':s'.1.length=t.m:=by rw [<-h,up_len,hl1]
  have c1:=b1.1.2 i (by omega)
  have c2:=a1.1.2 i (by omega)
  have esr:∀xs,t.sr xs i=xs.getD p 0:=fun xs=>by unfold sr; rw [SD hn,hp]
  refine ⟨hl',le_trans a1.1 b1.1,fun e=>?_,fun e=>?_,by omega,?_,?_⟩
  ·obtain ⟨e1,e2,e3⟩:=b2.1 e
   obtain ⟨d1,d2,d3⟩:=a2.1 e2
   rw [e1,d1]
   rw [d1] at e3
   refine ⟨rfl,d2,by omega,?_,?_⟩
   ·rw [esr]; omega
   ·rw [esr]; omega
  ·have e1:s1.1=s.1:=gB (by rw [<-e]; exact b1.1) a1.1
   have e2:=(a2.2 e1).1
   have e3:=b2.2 (by rw [e,e1])
   rw [e3.1,e2]
  ·rw [esr]; omega
  ·rw [esr]; have:=b1.2; omega
theorem zn (hw:t.wf) (hl:s.1.length=t.m) {i:Nat} (hi:i<t.m) (hy:t.ok ys) (h:le s.1 ys):∃s',t.step s i=some s'/\le s'.1 ys:=by
 have hb:=hw.b i hi
 obtain ⟨k1,k2,k3⟩:=hy.2 i hi
 have p1:=Ks h (i:=i) (by omega)
 have p2:=G2 hw h hl hi
 have p3:=h.2 i (by omega)
 unfold step
 by_cases hn:t.bf i<0
 ·rw [SA hn]
  have e:t.sr ys i=0:=by unfold sr; rw [SA hn]
  rw [SD (by omega)]
  exact ⟨_,rfl,tE h (by omega)⟩
 ·rw [SD hn]
  have e:∀xs,t.sr xs i=xs.getD (t.bf i).toNat 0:=fun xs=>by unfold sr; rw [SD hn]
  rw [e,e] at p2
  rw [e] at k2 k3
  have h1:le (up s i (max (pv s.1 i+t.hd i) (s.1.getD (t.bf i).toNat 0+t.dn i))).1 ys:=tE h (by omega)
  refine ⟨_,rfl,tE h1 ?_⟩
  have:=h1.2 i (by rw [up_len]; omega)
  omega
theorem tP (hw:t.wf):∀(c:Nat) (s s':List Int × Bool),c<=t.m->s.1.length=t.m->t.rnd c s=some s' ->
  s'.1.length=t.m/\le s.1 s'.1/\(s'.2=false->s'=s/\s.2=false/\∀i,t.m-c<=i->i<t.m->t.okI s.1 i)/\(s'.1=s.1->s'=s) /\
  ∀i,t.m-c<=i->i<t.m->pv s.1 i+t.hd i<=s'.1.getD i 0/\t.sr s.1 i+t.dn i<=s'.1.getD i 0/\s.1.getD i 0-(t.dn i+t.st i)<=t.sr s'.1 i
 | 0,s,s',_,hl,h=>by
  injection h with h
  subst h
  exact ⟨hl,le_refl _,fun e=>⟨rfl,e,fun i h1 h2=>absurd h2 (by omega)⟩,fun _=>rfl,fun i h1 h2=>absurd h2 (by omega)⟩
 | c+1,s,s',hc,hl,h=>by
  unfold rnd at h
  rw [SB] at h
  obtain ⟨s1,h1,h2⟩:=h
  obtain ⟨i,hi⟩:∃i,i=t.m-(c+1):=⟨_,rfl⟩
  rw [<-hi] at h1
  have him:i<t.m:=by omega
  obtain ⟨a1,a2,a3,a4,a5,a6,a7⟩:=step_spec hw hl him h1
  obtain ⟨b1,b2,b3,b4,b5⟩:=tP hw c s1 s' (by omega) a1 h2
  have ei:t.m-c=i+1:=by omega
  rw [ei] at b3 b5
  refine ⟨b1,le_trans a2 b2,fun e=>?_,fun e=>?_,fun j hj hj2=>?_⟩
  ·obtain ⟨e1,e2,e3⟩:=b3 e
   obtain ⟨d1,d2,d3⟩:=a3 e2
   refine ⟨by rw [e1,d1],d2,fun j hj hj2=>?_⟩
   by_cases hji:j=i
   ·rw [hji]; exact d3
   ·have:=e3 j (by omega) hj2
    rw [d1] at this
    exact this
  ·have e1:s1.1=s.1:=gB (by rw [<-e]; exact b2) a2
   have e2:=a4 e1
   have e3:=b4 (by rw [e,e1])
   rw [e3,e2]
  ·by_cases hji:j=i
   ·subst hji
    have k1:=b2.2 j (by omega)
    have k2:=G2 hw b2 a1 hj2
    omega
   ·obtain ⟨k1,k2,k3⟩:=b5 j (by omega) hj2
    have p1:=Ks a2 (i:=j) (by omega)
    have p2:=G2 hw a2 hl hj2
    have p3:=a2.2 j (by omega)
    omega
theorem uM (hw:t.wf) (hy:t.ok ys):∀(c:Nat) (s:List Int × Bool),c<=t.m->s.1.length=t.m->le s.1 ys->∃s',t.rnd c s=some s'/\le s'.1 ys
 | 0,s,_,_,h=>⟨s,rfl,h⟩
 | c+1,s,hc,hl,h=>by
  obtain ⟨s1,h1,h2⟩:=zn hw hl (show t.m-(c+1)<t.m by omega) hy h
  obtain ⟨s2,h3,h4⟩:=uM hw hy c s1 (by omega) (by rw [h2.1,<-h.1,hl]) h2
  refine ⟨s2,?_,h4⟩
  unfold rnd
  rw [h1]; exact h3
theorem ref_ok (hw:t.wf):∀(c:Nat) (xs ys:List Int),xs.length=t.m->t.ref c xs=some ys->t.ok ys
 | 0,_,_,_,h=>by cases h
 | c+1,xs,ys,hl,h=>by
  unfold ref at h
  rw [SB] at h
  obtain ⟨s,h1,h2⟩:=h
  obtain ⟨a1,_,a3,_,_⟩:=tP hw t.m (xs,false) s (SK _) hl h1
  cases hs:s.2 with
  | true=>rw [hs] at h2; exact ref_ok hw c s.1 ys a1 h2
  | false=>
   rw [hs] at h2
   injection h2 with h2
   obtain ⟨e1,_,e3⟩:=a3 hs
   subst h2
   rw [e1]
   exact ⟨hl,fun i hi=>e3 i (by omega) hi⟩
def S (L xs:List Int):Nat:=((List.range L.length).filter fun j=>decide (xs.getD j 0=L.getD j 0)).length
theorem S_le (L xs:List Int):S L xs<=L.length:=by
 unfold S
 exact TK (List.length_filter_le _ _) (by simp)
theorem vy {p q:Nat->Bool}:∀(l:List Nat),(∀j∈l,p j=true->q j=true)->(∃j,j∈l/\p j=false/\q j=true)->(l.filter p).length<(l.filter q).length
 | [],_,h=>by obtain ⟨j,hj,_⟩:=h; cases hj
 | a :: r,h1,h2=>by
  have hle:(r.filter p).length<=(r.filter q).length:=by
   clear h2
   induction r with
   | nil=>simp
   | cons b r ih=>
    have:=ih (fun j hj=>h1 j (by rcases Tj.1 hj with e | e; exact e ▸ Um; exact TE _ (TE _ e)))
    rw [Uw,Uw]
    by_cases hb:p b=true
    ·rw [SA hb,SA (h1 b (by simp) hb)]; simp; exact this
    ·rw [SD hb]; split
     ·simp; omega
     ·exact this
  obtain ⟨j,hj,hp,hq⟩:=h2
  rw [Uw,Uw]
  by_cases hja:j=a
  ·subst hja
   rw [SD (by rw [hp]; decide),SA hq]
   simp; omega
  ·have hjr:j∈r:=by rcases Tj.1 hj with e | e; exact absurd e hja; exact e
   have ih:=vy r (fun k hk=>h1 k (TE _ hk)) ⟨j,hjr,hp,hq⟩
   by_cases hb:p a=true
   ·rw [SA hb,SA (h1 a Um hb)]; simp; exact ih
   ·rw [SD hb]; split
    ·simp; omega
    ·exact ih
structure least (t:TP) (L:List Int):Prop where
 o:t.ok L
 l:∀ys,t.ok ys->le L ys
theorem Kl (hw:t.wf) {L:List Int} (hL:least t L) {xs':List Int} (hx:le xs L) (hx':le xs xs') (hxl:le xs' L) (hne:xs≠L)
  (h:∀i,i<t.m->pv xs i+t.hd i<=xs'.getD i 0/\t.sr xs i+t.dn i<=xs'.getD i 0/\xs.getD i 0-(t.dn i+t.st i)<=t.sr xs' i):S L xs<S L xs':=by
 have hLl:=hL.o.1
 have hxm:xs.length=t.m:=by rw [hx.1,hLl]
 unfold S
 refine vy _ (fun j hj hp=>?_) ?_
 ·have hj:=Ty.1 hj
  have e:=UI hp
  have a:=hx'.2 j (by omega)
  have b:=hxl.2 j (by rw [<-hx'.1]; omega)
  exact Su (by omega)
 ·
  refine Classical.byContradiction fun hno=>?_
  have hno:∀j,j<t.m->xs.getD j 0≠L.getD j 0->xs'.getD j 0≠L.getD j 0:=fun j hj h1 h2=>hno ⟨j,Ty.2 (by omega),Ss h1,Su h2⟩
  obtain ⟨ys,hys⟩:∃ys:List Int,ys=(List.range t.m).map fun j=>if xs.getD j 0=L.getD j 0 then L.getD j 0 else L.getD j 0-1:=⟨_,rfl⟩
  have hyl:ys.length=t.m:=by rw [hys]; simp
  have hyg:∀j,j<t.m->ys.getD j 0=if xs.getD j 0=L.getD j 0 then L.getD j 0 else L.getD j 0-1:=fun j hj=>by
   rw [hys,Sr,TQ,T8 hj]; rfl
  have hyL:∀j,j<t.m->ys.getD j 0<=L.getD j 0/\L.getD j 0-1<=ys.getD j 0:=fun j hj=>by rw [hyg j hj]; split <;> omega
  have low:∀j,j<t.m->xs.getD j 0≠L.getD j 0->xs'.getD j 0<L.getD j 0:=fun j hj hne=>by
   have a:=hxl.2 j (by rw [<-hx'.1]; omega)
   have:=hno j hj hne
   omega
  have hok:t.ok ys:=by
   refine ⟨hyl,fun i hi=>?_⟩
   obtain ⟨k1,k2,k3⟩:=hL.o.2 i hi
   obtain ⟨g1,g2,g3⟩:=h i hi
   have hb:=hw.b i hi
   have yi:=hyg i hi
   have yb:=hyL i hi
   refine ⟨?_,?_,?_⟩
   ·unfold pv at k1 g1 ⊢
    by_cases h0:i=0
    ·rw [SA h0] at k1 g1 ⊢
     rw [yi]
     split
     ·exact k1
     ·rename_i hne; have:=low i hi hne; omega
    ·rw [SD h0] at k1 g1 ⊢
     have y1:=hyg (i-1) (by omega)
     rw [yi,y1]
     split <;> split
     ·exact k1
     ·rename_i e hne; have:=low i hi hne; omega
     ·omega
     ·omega
   ·by_cases hn:t.bf i<0
    ·unfold sr at k2 g2 ⊢
     rw [SA hn] at k2 g2 ⊢
     rw [yi]
     split
     ·exact k2
     ·rename_i hne; have:=low i hi hne; omega
    ·unfold sr at k2 g2 ⊢
     rw [SD hn] at k2 g2 ⊢
     have y1:=hyg (t.bf i).toNat (by omega)
     rw [yi,y1]
     split <;> split
     ·exact k2
     ·rename_i e hne; have:=low i hi hne; omega
     ·omega
     ·omega
   ·by_cases hn:t.bf i<0
    ·unfold sr at k3 ⊢
     rw [SA hn] at k3 ⊢
     omega
    ·unfold sr at k3 g3 ⊢
     rw [SD hn] at k3 g3 ⊢
     have y1:=hyg (t.bf i).toNat (by omega)
     rw [yi,y1]
     split <;> split
     ·exact k3
     ·rename_i e hne; have:=low (t.bf i).toNat (by omega) hne; omega
     ·omega
     ·omega
  have hle:=hL.l ys hok
  refine hne (gB hx ⟨hx.1.symm,fun j hj=>?_⟩)
  have:=hle.2 j hj
  rw [hyg j (by omega)] at this
  split at this
  ·rename_i e; omega
  ·omega
theorem ref_least (hw:t.wf) {L:List Int} (hL:least t L):∀(c:Nat) (xs:List Int),le xs L->t.m+1<=S L xs+c->t.ref c xs=some L
 | 0,xs,_,h=>absurd (S_le L xs) (by have:=hL.o.1; omega)
 | c+1,xs,hx,h=>by
  have hxm:xs.length=t.m:=by rw [hx.1,hL.o.1]
  obtain ⟨s,h1,h2⟩:=uM hw hL.o t.m (xs,false) (SK _) hxm hx
  obtain ⟨a1,a2,a3,a4,a5⟩:=tP hw t.m (xs,false) s (SK _) hxm h1
  unfold ref
  rw [h1,Te]
  cases hs:s.2 with
  | false=>
   obtain ⟨e1,_,e3⟩:=a3 hs
   have hok:t.ok xs:=⟨hxm,fun i hi=>e3 i (by omega) hi⟩
   have:xs=L:=gB hx (hL.l xs hok)
   rw [e1,<-this]; rfl
  | true=>
   have hne:xs≠L:=fun e=>by
    have:s.1=xs:=gB (by rw [e]; exact h2) a2
    have:=a4 this
    rw [this] at hs; cases hs
   have:=Kl hw hL hx a2 h2 hne (fun i hi=>a5 i (by omega) hi)
   exact ref_least hw hL c s.1 h2 (by omega)
end TP
end Tr
namespace Tr
open Go
open Clu (aW aT)
def bfK (o:List Int) (k:Int):Nat->Int
 | 0=>-1
 | j+1=>if o.getD j 0=k then (j:Int) else bfK o k j
theorem wc (o:List Int) (k:Int):∀j:Nat,-1<=bfK o k j/\bfK o k j<j
 | 0=>by simp [bfK]
 | j+1=>by
  have:=wc o k j
  unfold bfK
  split <;> omega
def cu (T:aW) (rd:List Int) (free:Int) (o:List Int):TP where
 m:=o.length
 hd i:=if i=0 then free+T.travel else wT T+btw T (o.getD (i-1) 0) (o.getD i 0)
 bf i:=bfK o (o.getD i 0-1) i
 dn i:=if bfK o (o.getD i 0-1) i<0 then rd.getD (o.getD i 0-1).toNat 0 else wT T+tmT T (o.getD i 0-1).toNat
 st i:=syT T (o.getD i 0-1).toNat
theorem JM (T:aW) (rd:List Int) (free:Int) (o:List Int):(cu T rd free o).wf:=⟨fun i _=>by
 have:=wc o (o.getD i 0-1) i
 exact ⟨this.2,this.1⟩⟩
def nX (xs:List Int) (j:Nat):Int:=if j=0 then 0 else xs.getD (j-1) 0
def aOf (o:List Int) (i:Nat) (k:Nat):Option Nat:=if bfK o (k:Int) i<0 then none else some ((bfK o (k:Int) i).toNat+1)
theorem E3 (h:1<=o.getD i 0):upd (aOf o i) (o.getD i 0).toNat (i+1)=aOf o (i+1):=by
 funext k
 unfold upd aOf
 rw [show bfK o (k:Int) (i+1)=if o.getD i 0=(k:Int) then (i:Int) else bfK o k i from rfl]
 by_cases e:o.getD i 0=(k:Int)
 ·rw [SA (by omega),SA e,SD (by omega)]; simp
 ·rw [SD (by omega),SD e]
theorem Ky {T:aW} {rd:List Int} {free:Int} (ho:∀t∈o,1<=t) (xs:List Int):∀(c i:Nat) (last:Int),i+c=o.length->(0<i->last=o.getD (i-1) 0) ->
  (KX (nX xs) (gK T rd free i last (aOf o i) (o.drop i))↔∀j,i<=j->j<o.length->(cu T rd free o).okI xs j)
 | 0,i,last,hi,_=>by
  obtain rfl:i=o.length:=by omega
  rw [TN]
  exact ⟨fun _ j h1 h2=>absurd h2 (by omega),fun _=>by intro a ha; cases ha⟩
 | c+1,i,last,hi,hl=>by
  have hil:i<o.length:=by omega
  have hge:o.getD i 0=o[i]:=by rw [Sr,Sq hil]; rfl
  have h1:1<=o.getD i 0:=by rw [hge]; exact ho _ (SC hil)
  have ih:=Ky ho xs (T:=T) (rd:=rd) (free:=free) c (i+1) (o.getD i 0) (by omega) (fun _=>rfl)
  rw [To hil,<-hge]
  simp only [gK]
  rw [lG,lG,lG,E3 h1,ih]
  have hb:=wc o (o.getD i 0-1) i
  obtain ⟨k,hk⟩:∃k:Nat,o.getD i 0-1=(k:Int):=⟨(o.getD i 0-1).toNat,by omega⟩
  have e0:(((i:Int)+1).toNat)=i+1:=by omega
  have eX:nX xs (i+1)=xs.getD i 0:=rfl
  have epv:TP.pv xs i=nX xs i:=rfl
  have esrc:gP T rd (aOf o i) (o.getD i 0-1).toNat=(if bfK o (o.getD i 0-1) i<0 then (0,rd.getD (o.getD i 0-1).toNat 0) else ((bfK o (o.getD i 0-1) i).toNat+1,wT T+tmT T (o.getD i 0-1).toNat)):=by
   unfold gP aOf
   rw [hk,SM]
   by_cases hn:bfK o (k:Int) i<0
   ·rw [SA hn,SA hn]
   ·rw [SD hn,SD hn]
  rw [esrc]
  have head:(nX xs (hdT T free i last (o.getD i 0)).f.toNat+(hdT T free i last (o.getD i 0)).w<=nX xs (hdT T free i last (o.getD i 0)).t.toNat)↔TP.pv xs i+(cu T rd free o).hd i<=xs.getD i 0:=by
   unfold hdT
   show _↔TP.pv xs i+(if i=0 then free+T.travel else wT T+btw T (o.getD (i-1) 0) (o.getD i 0))<=_
   by_cases h0:i=0
   ·subst h0
    rw [SA rfl,SA rfl]
    exact Iff.rfl
   ·rw [SD h0,SD h0,hl (by omega),epv]
    simp only [SM,e0]
    rw [eX]
  rw [head]
  have hst:(cu T rd free o).st i=syT T (o.getD i 0-1).toNat:=rfl
  have hbf:(cu T rd free o).bf i=bfK o (o.getD i 0-1) i:=rfl
  have hdn:(cu T rd free o).dn i=if bfK o (o.getD i 0-1) i<0 then rd.getD (o.getD i 0-1).toNat 0 else wT T+tmT T (o.getD i 0-1).toNat:=rfl
  have key:(cu T rd free o).okI xs i↔TP.pv xs i+(cu T rd free o).hd i<=xs.getD i 0/\_/\_:=Iff.rfl
  have split:(∀j,i<=j->j<o.length->(cu T rd free o).okI xs j)↔(cu T rd free o).okI xs i/\∀j,i+1<=j->j<o.length->(cu T rd free o).okI xs j:=
   ⟨fun h=>⟨h i (SK _) hil,fun j h1 h2=>h j (by omega) h2⟩,fun h j h1 h2=>by
    by_cases e:j=i
    ·rw [e]; exact h.1
    ·exact h.2 j (by omega) h2⟩
  rw [split,key]
  unfold TP.sr
  rw [hbf,hdn,hst]
  by_cases hn:bfK o (o.getD i 0-1) i<0
  ·rw [SA hn,SA hn,SA hn]
   have z:nX xs 0=0:=rfl
   simp only [e0,eX]
   rw [show (((0:Nat):Int)).toNat=0 from rfl,z]
   constructor
   ·rintro ⟨a,b,c,d⟩; exact ⟨⟨a,b,by omega⟩,d⟩
   ·rintro ⟨⟨a,b,c⟩,d⟩; exact ⟨a,b,by omega,d⟩
  ·rw [SD hn,SD hn,SD hn]
   have z:∀p:Nat,nX xs (((p+1:Nat):Int)).toNat=xs.getD p 0:=fun p=>by rw [SM]; rfl
   simp only [e0,eX,z]
   constructor
   ·rintro ⟨a,b,c,d⟩; exact ⟨⟨a,b,by omega⟩,d⟩
   ·rintro ⟨⟨a,b,c⟩,d⟩; exact ⟨a,b,by omega,d⟩
theorem Fo {T:aW} {rd:List Int} {free:Int} (ho:∀t∈o,1<=t) (hx:xs.length=o.length):KX (nX xs) (cC T rd free o)↔(cu T rd free o).ok xs:=by
 have h:=Ky (T:=T) (rd:=rd) (free:=free) ho xs o.length 0 (-2) (by omega) (fun h=>absurd h (by omega))
 have ea:aOf o 0=fun _=>none:=by funext k; simp [aOf,bfK]
 rw [ea,SL] at h
 unfold cC
 rw [h]
 exact ⟨fun h=>⟨hx,fun i hi=>h i (by omega) hi⟩,fun h j _ hj=>h.2 j hj⟩
def ya (T:aW) (rd:List Int) (free:Int) (o:List Int):Option (List dc):=((cu T rd free o).ref (o.length+2) (List.replicate o.length 0)).map fun xs=>mkX (nX xs) 0 o
theorem wZ {T:aW} {rd:List Int} {free:Int} (hS:Sit T rd free) (hE:Emp (b0 rd) o):ya T rd free o=dg T rd free o:=by
 have hn:=ru hE
 have ho:∀t∈o,1<=t:=fun t ht=>(hn t ht).1
 have hw:=JM T rd free o
 have lK:∀ys,(cu T rd free o).ok ys->KX (nX ys) (cC T rd free o)/\∃s,rV T (st0 rd free) (mkX (nX ys) 0 o)=some s:=fun ys hy=>by
  have hK:=(Fo (T:=T) (rd:=rd) (free:=free) ho hy.1).2 hy
  exact ⟨hK,(ng hS (X:=nX ys) rfl hE).1.2 ⟨hK,fun j _ hj=>by have:=JL hS (X:=nX ys) rfl hE hK hj; omega⟩⟩
 unfold ya
 cases ht:dg T rd free o with
 | none=>
  cases hr:(cu T rd free o).ref (o.length+2) (List.replicate o.length 0) with
  | none=>rfl
  | some ys=>
   have hy:=TP.ref_ok hw _ _ _ (by simp [cu]) hr
   obtain ⟨_,s,hs⟩:=lK ys hy
   rw [zj hS hE ht (Y:=nX ys) rfl] at hs
   cases hs
 | some l=>
  obtain ⟨X,x0,hl,hs,hX⟩:=il hS hE ht
  rw [hl] at hs
  have hK:=((ng hS x0 hE).1.1 hs).1
  obtain ⟨L,hL⟩:∃L:List Int,L=(List.range o.length).map fun j=>X (j+1):=⟨_,rfl⟩
  have hLl:L.length=o.length:=by rw [hL]; simp
  have hLg:∀j,j<o.length->L.getD j 0=X (j+1):=fun j hj=>by
   rw [hL,Sr,TQ,T8 hj]; rfl
  have hnX:∀j,j<=o.length->nX L j=X j:=fun j hj=>by
   unfold nX
   split
   ·rename_i e; rw [e,x0]
   ·rename_i e; rw [hLg _ (by omega),show j-1+1=j by omega]
  have hKL:KX (nX L) (cC T rd free o):=fun a ha=>by
   have:=hK a ha
   obtain ⟨⟨o1,o2,_,_⟩,_⟩:=(gm hS hE (fun hne=>vk hS x0 hE hne hK)).2 a ha
   rw [hnX _ (by omega),hnX _ (by omega)]
   exact this
  have hok:(cu T rd free o).ok L:=(Fo ho hLl).1 hKL
  have hleast:TP.least (cu T rd free o) L:=⟨hok,fun ys hy=>by
   obtain ⟨_,hs2⟩:=lK ys hy
   have:=hX (nX ys) rfl hs2
   refine ⟨by rw [hLl,hy.1]; rfl,fun j hj=>?_⟩
   have h1:=this (j+1) (by omega)
   rw [hLg j (by omega)]
   exact h1⟩
  have hpos:=Dy hS (X:=X) x0 o 0 (-2) (fun _=>none) hK (by omega)
  have hr:=TP.ref_least hw hleast (o.length+2) (List.replicate o.length 0) ⟨by simp [hLl],fun j hj=>by
   have hj:j<o.length:=by simpa using hj
   rw [hLg j hj,Sr,TL,SA hj]
   exact hpos (j+1) (by omega) (by omega)⟩ (by show o.length+1<=_; omega)
  rw [hr,hl,Th]
  congr 1
  exact uT o 0 fun j h1 h2=>hnX j (by omega)
end Tr
namespace Tr
open Go
open Cy (GC aM aV az dz)
open Clu (aW aT lJ ai chA aY bK dZ bP cH bu bQ cr aQ cf)
def RdV (D:Nat) (A:ac) (v:AV) (l:List dc):Prop:=SlA 2 (l.map aX) v\/∃id g,v=.sl id 0 l.length/\id<D/\A[id]?=some (.row 2 g (l.map aX))
theorem RdV.get {D:Nat} {A:ac} {l:List dc} (h:RdV D A v l) {i:Nat} {t:dc} (ht:l[i]?=some t) (_hl:l.length<=100000):∃p q0 q1,ae 2 A v (.z (i:Int))=some p/\aa 0 A p=some q0/\ab false 1 A q0=some (.z t.1)/\aa 1 A p=some q1/\ab false 1 A q1=some (.z t.2):=by
 have hil:=(Sp.1 ht).1
 rcases h with h | ⟨id,g,rfl,_,hr⟩
 ·refine ⟨_,.fp [.z t.1,.z t.2],.fp [.z t.2],h.index (A:=A) (x:=aX t) (i:=i) (by rw [TQ,ht]; rfl) rfl (by omega) .i64,rfl,rfl,rfl,rfl⟩
 ·have e:(l.map aX)[i]?=some (aX t):=by rw [TQ,ht]; rfl
  refine ⟨.ptr id i 0,.ptr id i 0,.ptr id i 1,Oh hr hil,by simp [aa,hr],?_,by simp [aa,hr],?_⟩
  ·simp only [ab,hr,e]; rfl
  ·simp only [ab,hr,e]; rfl
theorem zm {T:aW} {s s':St} {t:dc} (h:fD T s t=some s') (hn:s.inn.length=T.ch.length) :
  (0<=t.1/\t.1<=T.ch.length)/\s.fin+btw T s.last t.1<=t.2/\t.2<=1000000000 /\
  ∃a,(1<=t.1->(0<=s.inn.getD (t.1-1).toNat 0/\s.inn.getD (t.1-1).toNat 0<=t.2/\t.2<=s.inn.getD (t.1-1).toNat 0+syT T (t.1-1).toNat)/\a=s.inn.set (t.1-1).toNat (-1))/\(¬ 1<=t.1->a=s.inn) /\
  (t.1<T.ch.length->a.getD t.1.toNat 0<0/\s'.inn=a.set t.1.toNat (t.2+wT T+tmT T t.1.toNat))/\(¬ t.1<T.ch.length->s'.inn=a)/\a.length=T.ch.length/\s'.inn.length=T.ch.length/\s'.last=t.1/\s'.fin=t.2+wT T:=by
 unfold fD at h
 split at h
 ·rename_i hc
  rw [hn] at hc
  rw [SB] at h
  obtain ⟨a,ha,h⟩:=h
  rw [SE] at h
  obtain ⟨b,hb,rfl⟩:=h
  refine ⟨hc.1,hc.2.1,hc.2.2,a,?_⟩
  unfold kQ at ha
  unfold wu at hb
  have hal:a.length=T.ch.length:=by
   split at ha
   ·split at ha
    ·injection ha with ha; rw [<-ha,Ti,hn]
    ·cases ha
   ·injection ha with ha; rw [<-ha,hn]
  rw [hal] at hb
  have hbl:b.length=T.ch.length:=by
   split at hb
   ·split at hb
    ·cases hb
    ·injection hb with hb; rw [<-hb,Ti,hal]
   ·injection hb with hb; rw [<-hb,hal]
  refine ⟨fun h1=>?_,fun h1=>?_,fun h2=>?_,fun h2=>?_,hal,hbl,rfl,rfl⟩
  ·rw [SA h1] at ha
   split at ha
   ·rename_i hh; injection ha with ha; exact ⟨hh,ha.symm⟩
   ·cases ha
  ·rw [SD h1] at ha; injection ha with ha; exact ha.symm
  ·rw [SA h2] at hb
   split at hb
   ·cases hb
   ·rename_i hh; injection hb with hb; exact ⟨by omega,hb.symm⟩
  ·rw [SD h2] at hb; injection hb with hb; exact hb.symm
 ·cases h
section
variable {x:XC} {B:ac} {lv:AV} {l:List dc}
theorem pN {T:aW} {A:ac} (h:A[id]?=some (.row 5 false [ai T chv])):(∀k,k<5->aa k A (.p id)=some (.ptr id 0 k))/\ab false 1 A (.p id)=some chv/\ab false 1 A (.ptr id 0 1)=some (.z T.pick)/\ab false 1 A (.ptr id 0 2)=some (.z T.place)/\ab false 1 A (.ptr id 0 3)=some (.z T.travel):=
 ⟨fun k hk=>by simp [aa,h]; exact hk,sK (k:=5) (es:=[chv,.z T.pick,.z T.place,.z T.travel,.z T.blades]) h rfl,sK (k:=5) (es:=[chv,.z T.pick,.z T.place,.z T.travel,.z T.blades]) h rfl,sK (k:=5) (es:=[chv,.z T.pick,.z T.place,.z T.travel,.z T.blades]) h rfl,sK (k:=5) (es:=[chv,.z T.pick,.z T.place,.z T.travel,.z T.blades]) h rfl⟩
end
end Tr
namespace Tr
open Go
open Cy (GC aM aV az)
open Clu (aW aT ai chA aQ fP aY bK cH bu bP bQ cr)
def Jz:MC:=.cond (.var 21) (.seq (.r [.a 8,.d 0 12,.b 1 1,.e 1 0 2,.b 1 3,.ak 22 4 0] (.cond (.var 22) (.r [.f 5 0,.g 6] .ret) .skip)) (.region [.a 8,.d 0 12,.b 1 1,.a 10,.d 0 4,.b 1 4,.d 0 12,.b 1 6,.e 2 5 7,.o 0 8,.b 1 9,.m 3 10,.e 1 0 2,.A 1 12 11])) .skip
def IZ:MC:=.r [.d 0 12,.b 1 0,.al 19 1 0] (.cond (.var 19) (.r [.d 0 12,.b 1 0,.r 1 1,.c 14 2] (.seq (.r [.a 8,.a 14,.e 1 0 1,.b 1 2,.au 3 0,.i 4,.C 1 12 5,.p 1 6 5,.n 8 5,.n 14 5,.O 1 8 9 5,.p 1 10 5,.n 8 5,.n 14 5,.O 1 12 13 5,.p 1 14 5,.C 0 4 5,.p 1 16 5,.n 14 5,.O 2 17 18 5,.a2 1 19 5,.p 1 20 5,.a3 15 21 5,.ax 28 7 11 22 5,.G 23 5,.x 20 5 24] (.cond (.var 20) (.r [.f 5 0,.g 6] .ret) .skip)) (.region [.a 8,.a 14,.e 1 0 1,.az 1 2 (-1)]))) .skip)
def DO:MC:=.r [.a 11,.cs 0 0,.i 1,.R 0 12 2,.z 1 3 2,.l 3 2,.l 11 2,.bo 6 1 2,.P 2 5 7 2,.av 0 8 2,.z 1 9 2,.bm 10 1 2,.b3 4 11 2,.af 17 2 12] (.cond (.var 17) (.region [.a 10,.c 13 0]) .skip)
theorem zI:ev=.seq (.r [.a 11,.a 3,.s 1,.D 16 0 2] (.cond (.var 16) .skip (.exit 0))) (.seq (.seq (.block 1 (.r [.a 3,.a 11,.e 2 0 1,.K 2 2,.ag 12 2,.t 2 12 3] (.r [.a 10,.d 3 4,.b 1 1,.m 0 2,.c 13 3] (.seq DO (.seq (.r [.d 0 12,.b 1 0,.a 7,.ae 28 1 2,.Q 3,.i 4,.C 1 12 5,.p 1 6 5,.n 13 5,.a0 28 7 8 5,.G 9 5,.x 18 5 10] (.cond (.var 18) (.r [.f 5 0,.g 6] .ret) .skip)) (.seq IZ (.r [.d 1 12,.b 1 0,.a 9,.m 1 2,.c 10 3] (.r [.d 0 12,.b 1 0,.a 7,.D 21 1 2] Jz)))))))) (.kill [0,1,2,5,6,12,13,14,15,16,17,18,19,20,21,22])) (.region [.a 11,.h 0 1,.c 11 1])):=rfl
def pC:List (FuncId × aJ):=[(65,aE 4 M22),(61,aE 4 M35),(28,aE 4 M30)]
@[simp] theorem Qi:aD pC 65=some (aE 4 M22):=rfl
@[simp] theorem Qh:aD pC 61=some (aE 4 M35):=rfl
@[simp] theorem Qg:aD pC 28=some (aE 4 M30):=rfl
theorem Hx:∀f M,aD pC f=some M->au prog GC f M:=ag (au.of_pure p9 4) (ag (au.of_pure sg 4) (ag (au.of_pure lR 4) aB))
def M18:aU:=fun args=>evP (aq GC pC) 300 Bl 4 args
theorem AN:aw prog GC 30 M18:=aw.of_ev (E:=aq GC pC) (ax Hx) rfl (by kernel_rfl) Cv 4 fun _ _ h=>⟨300,h⟩
section
variable {T:aW} {chv:AV} {A:ac} {inn:List Int} {n p:Nat} {tn ts:Int} {lv:AV} {fin fr:Int} {i:Nat}
theorem N2 (hb:SlA 2 (T.ch.map chA) chv) (hv:aT T) (hA:A17 A T chv inn) (hn:inn.length=T.ch.length) (hnn:n=T.ch.length) (hp:A[p]?=some (.row 2 false [aX (tn,ts)])) (h0:0<=tn) (hts:0<=ts/\ts<=1000000000)
  (v0 v1 v2 v5 v6 v14 v15 v16 v17 v18 v19 v20 v22:AV) :
  match wu T inn (tn,ts) with
  | some inn2=>∃e22 B,(∀K,run (aq GC pC) 300 (.code Jz :: K) [v0,v1,v2,lv,.p 0,v5,v6,.z (n:Int),.sl 2 0 n,.z (wT T),.z (ts+wT T),.z (i:Int),.p p,.z fr,v14,v15,v16,v17,v18,v19,v20,.bool (decide (tn<(n:Int))),v22] A=run (aq GC pC) 300 K [v0,v1,v2,lv,.p 0,v5,v6,.z (n:Int),.sl 2 0 n,.z (wT T),.z (ts+wT T),.z (i:Int),.p p,.z fr,v14,v15,v16,v17,v18,v19,v20,.bool (decide (tn<(n:Int))),e22] B)/\A17 B T chv inn2
  | none=>∃ σ B,(∀K,run (aq GC pC) 300 (.code Jz :: K) [v0,v1,v2,lv,.p 0,v5,v6,.z (n:Int),.sl 2 0 n,.z (wT T),.z (ts+wT T),.z (i:Int),.p p,.z fr,v14,v15,v16,v17,v18,v19,v20,.bool (decide (tn<(n:Int))),v22] A=some (.ret σ B))/\σ[5]?=some (.z 0)/\σ[6]?=some .f:=by
 obtain ⟨f0,_,l0,_⟩:=iG hp
 simp only at l0
 obtain ⟨_,g0,g1⟩:=hA.tool hb
 have hw:=de hv
 unfold wu
 simp only
 by_cases h1:tn<(inn.length:Int)
 rotate_left
 ·rw [SD h1,Ss (show ¬ tn<(n:Int) by omega)]
  refine ⟨v22,A,fun K=>?_,hA⟩
  generalize (n:Int)=N at *
  simp [Jz]
 rw [SA h1,Su (show tn<(n:Int) by omega)]
 obtain ⟨t,rfl⟩:∃t:Nat,tn=(t:Int):=⟨tn.toNat,by omega⟩
 rw [SM]
 have i1:=cG hA.r (n:=n) (k:=t) (by omega) .i64
 have d1:=dN hA.r (k:=t) (by omega)
 have b2:=Cy.je (inn.getD t 0)
 have hc:=xf hb (k:=t) (by omega) A .i64
 have htm:=dp hv t
 have b3:af .add (.z (ts+wT T)) (.z (tmT T t))=some (.z (ts+wT T+tmT T t)):=aY (by omega)
 have s1:=gw hA.r (k:=t) (by omega) (ts+wT T+tmT T t)
 obtain ⟨I,hI⟩:∃I,I=inn.getD t 0:=⟨_,rfl⟩
 rw [<-hI] at d1 b2 ⊢
 obtain ⟨E,hE⟩:∃E,E=ts+wT T+tmT T t:=⟨_,rfl⟩
 rw [<-hE] at b3 s1 ⊢
 have y1:∀A u v,aa 0 A (.fp [u,v])=some (.fp [u,v]):=fun _ _ _=>rfl
 have y2:∀A z v,ab false 1 A (.fp [.z z,v])=some (.z z):=fun _ _ _=>rfl
 by_cases h2:0<=I
 ·rw [SA h2]
  rw [Su h2] at b2
  refine ⟨[v0,v1,v2,lv,.p 0,.z 0,.f,.z (n:Int),.sl 2 0 n,.z (wT T),.z (ts+wT T),.z (i:Int),.p p,.z fr,v14,v15,v16,v17,v18,v19,v20,.t,.t],A,fun K=>?_,rfl,rfl⟩
  generalize (n:Int)=N at *
  generalize (t:Int)=TT at *
  simp [Jz,f0,l0,i1,d1,b2,-af,-ab,-aa,-ae]
 ·rw [SD h2]
  rw [Ss h2] at b2
  refine ⟨.f,A.set 2 (.q (ak (inn.set t E))),fun K=>?_,hA.set _⟩
  generalize (n:Int)=N at *
  generalize (t:Int)=TT at *
  simp [Jz,f0,l0,i1,d1,b2,b3,g0,g1,hc,y1,y2,s1,-af,-ab,-aa,-ae,-aA]
theorem JN (hb:SlA 2 (T.ch.map chA) chv) (hv:aT T) (hA:A17 A T chv inn) (hn:inn.length=T.ch.length) (hnn:n=T.ch.length) (hp:A[p]?=some (.row 2 false [aX (tn,ts)])) (hp2:p≠2) (h0:0<=tn/\tn<=inn.length) (hin:∀z∈inn,-1<=z/\z<=3000000000)
  (v0 v1 v2 v5 v6 v14 v15 v16 v17 v18 v19 v20 v21 v22:AV) :
  match kQ T inn (tn,ts) with
  | some a=>∃e14 e19 e20 B,(∀K,run (aq GC pC) 300 (.code IZ :: K) [v0,v1,v2,lv,.p 0,v5,v6,.z (n:Int),.sl 2 0 n,.z (wT T),.z fin,.z (i:Int),.p p,.z fr,v14,v15,v16,v17,v18,v19,v20,v21,v22] A=run (aq GC pC) 300 K [v0,v1,v2,lv,.p 0,v5,v6,.z (n:Int),.sl 2 0 n,.z (wT T),.z fin,.z (i:Int),.p p,.z fr,e14,v15,v16,v17,v18,e19,e20,v21,v22] B)/\A17 B T chv a/\B[p]?=A[p]?/\a.length=inn.length
  | none=>∃ σ B,(∀K,run (aq GC pC) 300 (.code IZ :: K) [v0,v1,v2,lv,.p 0,v5,v6,.z (n:Int),.sl 2 0 n,.z (wT T),.z fin,.z (i:Int),.p p,.z fr,v14,v15,v16,v17,v18,v19,v20,v21,v22] A=some (.ret σ B))/\σ[5]?=some (.z 0)/\σ[6]?=some .f:=by
 obtain ⟨f0,f1,l0,l1⟩:=iG hp
 simp only at l0 l1
 obtain ⟨_,g0,g1⟩:=hA.tool hb
 have b1:=bQ tn 0
 have hn4:=hv.2.2.2.1
 unfold kQ
 simp only
 by_cases h1:1<=tn
 rotate_left
 ·rw [SD h1]
  rw [Ss (by omega)] at b1
  refine ⟨v14,.f,v20,A,fun K=>?_,hA,rfl,rfl⟩
  generalize (n:Int)=N at *
  simp [IZ,f0,l0,b1,-af,-ab,-aa]
 rw [SA h1]
 rw [Su (by omega)] at b1
 obtain ⟨k,hk⟩:∃k:Nat,tn=(k:Int)+1:=⟨(tn-1).toNat,by omega⟩
 have ek:(tn-1).toNat=k:=by omega
 rw [ek]
 have hkn:k<inn.length:=by omega
 have bs:af .sub (.z tn) (.z 1)=some (.z (k:Int)):=by rw [bK (by omega)]; congr 2; omega
 have i1:=cG hA.r (n:=n) (k:=k) (by omega) .i64
 have d1:=dN hA.r (k:=k) (by omega)
 have b2:=bP (inn.getD k 0) 0
 have hz:=hin (inn.getD k 0) (by rw [Sr,Sq hkn]; exact SC hkn)
 have hc:=xf hb (k:=k) (by omega) A .i64
 have htm:=dp hv k
 have b3:af .add (.z (inn.getD k 0)) (.z (syT T k))=some (.z (inn.getD k 0+syT T k)):=aY (by omega)
 have m3:=cq ts (inn.getD k 0) (inn.getD k 0+syT T k)
 have s1:=gw hA.r (k:=k) (by omega) (-1)
 have y1:∀A u v,aa 1 A (.fp [u,v])=some (.fp [v]):=fun _ _ _=>rfl
 have y2:∀A z,ab false 1 A (.fp [.z z])=some (.z z):=fun _ _=>rfl
 obtain ⟨I,hI⟩:∃I,I=inn.getD k 0:=⟨_,rfl⟩
 rw [<-hI] at d1 b2 b3 m3 ⊢
 by_cases h2:0<=I
 rotate_left
 ·rw [SD (fun h=>h2 h.1)]
  rw [Su (by omega)] at b2
  refine ⟨[v0,v1,v2,lv,.p 0,.z 0,.f,.z (n:Int),.sl 2 0 n,.z (wT T),.z fin,.z (i:Int),.p p,.z fr,.z (k:Int),v15,v16,v17,v18,.t,.t,v21,v22],A,fun K=>?_,rfl,rfl⟩
  generalize (n:Int)=N at *
  generalize (k:Int)=TT at *
  simp [IZ,f0,l0,b1,bs,i1,d1,b2,-af,-ab,-aa,-ae]
 rw [Ss (by omega)] at b2
 by_cases h3:I<=ts/\ts<=I+syT T k
 ·rw [SA ⟨h2,h3⟩]
  rw [cP.2 h3] at m3
  refine ⟨.z (k:Int),.t,.f,A.set 2 (.q (ak (inn.set k (-1)))),fun K=>?_,hA.set _,Sz (fun e=>hp2 e.symm),by rw [Ti]⟩
  generalize (n:Int)=N at *
  generalize (k:Int)=TT at *
  generalize I+syT T k=II at *
  simp [IZ,f0,f1,l0,l1,b1,bs,i1,d1,b2,g0,g1,hc,y1,y2,b3,m3,s1,aM,-cq,-af,-ab,-aa,-ae,-aA,-frz]
 ·rw [SD (fun h=>h3 h.2)]
  have mb:iD ts I (I+syT T k)=false:=by
   cases e:iD ts I (I+syT T k)
   ·rfl
   ·exact absurd (cP.1 e) h3
  rw [mb] at m3
  refine ⟨[v0,v1,v2,lv,.p 0,.z 0,.f,.z (n:Int),.sl 2 0 n,.z (wT T),.z fin,.z (i:Int),.p p,.z fr,.z (k:Int),v15,v16,v17,v18,.t,.t,v21,v22],A,fun K=>?_,rfl,rfl⟩
  generalize (n:Int)=N at *
  generalize (k:Int)=TT at *
  generalize I+syT T k=II at *
  simp [IZ,f0,f1,l0,l1,b1,bs,i1,d1,b2,g0,g1,hc,y1,y2,b3,m3,aM,-cq,-af,-ab,-aa,-ae,-aA,-frz]
theorem Lv {l:List dc} (hlv:SlA 2 (l.map aX) lv) (hll:l.length<=200) (hp:A[p]?=some (.row 2 false [aX (tn,ts)])) (h0:0<=tn) {last:Int} (hi0:i=0->last = -2) (hil:i<=l.length) (hi1:0<i->∃t,l[i-1]?=some t/\t.1=last) (hla : -1000<=last/\last<=1000) (hfr:fr=fin+T.travel)
  (v0 v1 v2 v5 v6 v14 v15 v16 v17 v18 v19 v20 v21 v22:AV) :
  ∃e17,∀K,run (aq GC pC) 300 (.code DO :: K) [v0,v1,v2,lv,.p 0,v5,v6,.z (n:Int),.sl 2 0 n,.z (wT T),.z fin,.z (i:Int),.p p,.z fr,v14,v15,v16,v17,v18,v19,v20,v21,v22] A=run (aq GC pC) 300 K [v0,v1,v2,lv,.p 0,v5,v6,.z (n:Int),.sl 2 0 n,.z (wT T),.z fin,.z (i:Int),.p p,.z (fin+btw T last tn),v14,v15,v16,e17,v18,v19,v20,v21,v22] A:=by
 obtain ⟨f0,_,l0,_⟩:=iG hp
 simp only at l0
 have b1:=bQ (i:Int) 0
 have hbt:btw T last tn=if tn=last+1 then 0 else T.travel:=rfl
 by_cases h1:0<i
 rotate_left
 ·rw [Ss (by omega)] at b1
  rw [hbt,SD (by have:=hi0 (by omega); omega),<-hfr]
  refine ⟨.f,fun K=>?_⟩
  generalize (n:Int)=N at *
  simp [DO,b1,-af,-ab,-aa,-ae]
 rw [Su (by omega)] at b1
 obtain ⟨t,ht,htl⟩:=hi1 h1
 have b2:af .sub (.z (i:Int)) (.z 1)=some (.z ((i-1:Nat):Int)):=by rw [bK (by omega)]; congr 2; omega
 have x1:ae 2 A lv (.z ((i-1:Nat):Int))=some (.fp [.z t.1,.z t.2]):=hlv.index (A:=A) (x:=aX t) (i:=i-1) (by rw [TQ,ht]; rfl) rfl (by omega) .i64
 have y1:∀A u v,aa 0 A (.fp [u,v])=some (.fp [u,v]):=fun _ _ _=>rfl
 have y2:∀A z v,ab false 1 A (.fp [.z z,v])=some (.z z):=fun _ _ _=>rfl
 have b3:af .add (.z t.1) (.z 1)=some (.z (last+1)):=by rw [htl]; exact aY (by omega)
 have b4:=bu tn (last+1)
 rw [hbt]
 generalize ((i-1:Nat):Int)=im at *
 generalize t.2=t2 at *
 generalize t.1=t1 at *
 by_cases h2:tn=last+1
 ·rw [Su h2] at b4
  rw [SA h2,UW]
  refine ⟨.t,fun K=>?_⟩
  generalize last+1=L1 at *
  generalize (n:Int)=N at *
  generalize (i:Int)=iI at *
  simp [DO,f0,l0,b1,b2,x1,y1,y2,b3,b4,-af,-ab,-aa,-ae]
 ·rw [Ss h2] at b4
  rw [SD h2,<-hfr]
  refine ⟨.f,fun K=>?_⟩
  generalize last+1=L1 at *
  generalize (n:Int)=N at *
  generalize (i:Int)=iI at *
  simp [DO,f0,l0,b1,b2,x1,y1,y2,b3,b4,-af,-ab,-aa,-ae]
theorem Rg {l:List dc} (hlv:SlA 2 (l.map aX) lv) (hll:l.length<=200) (hp:A[p]?=some (.row 2 false [aX (tn,ts)])) {last:Int} (hil:i<=l.length) (hi1:0<i->∃t,l[i-1]?=some t/\t.1=last) (hla : -1000<=last/\last<=1000) (_hdum:0<=i)
  (v0 v1 v2 v5 v6 v14 v15 v16:AV) :
  ∃e13 e17,∀K,run (aq GC pC) 300 (.code DO :: K) [v0,v1,v2,lv,.p 0,v5,v6,.z (n:Int),.sl 2 0 n,.z (wT T),.z fin,.z (i:Int),.p p,.z fr,v14,v15,v16,.u,.u,.u,.u,.u,.u] A=run (aq GC pC) 300 K [v0,v1,v2,lv,.p 0,v5,v6,.z (n:Int),.sl 2 0 n,.z (wT T),.z fin,.z (i:Int),.p p,e13,v14,v15,v16,e17,.u,.u,.u,.u,.u] A:=by
 obtain ⟨f0,_,l0,_⟩:=iG hp
 simp only at l0
 have b1:=bQ (i:Int) 0
 by_cases h1:0<i
 rotate_left
 ·rw [Ss (by omega)] at b1
  refine ⟨.z fr,.f,fun K=>?_⟩
  generalize (n:Int)=N at *
  simp [DO,b1,-af,-ab,-aa,-ae]
 rw [Su (by omega)] at b1
 obtain ⟨t,ht,htl⟩:=hi1 h1
 have b2:af .sub (.z (i:Int)) (.z 1)=some (.z ((i-1:Nat):Int)):=by rw [bK (by omega)]; congr 2; omega
 have x1:ae 2 A lv (.z ((i-1:Nat):Int))=some (.fp [.z t.1,.z t.2]):=hlv.index (A:=A) (x:=aX t) (i:=i-1) (by rw [TQ,ht]; rfl) rfl (by omega) .i64
 have y1:∀A u v,aa 0 A (.fp [u,v])=some (.fp [u,v]):=fun _ _ _=>rfl
 have y2:∀A z v,ab false 1 A (.fp [.z z,v])=some (.z z):=fun _ _ _=>rfl
 have b3:af .add (.z t.1) (.z 1)=some (.z (last+1)):=by rw [htl]; exact aY (by omega)
 have b4:=bu tn (last+1)
 generalize ((i-1:Nat):Int)=im at *
 generalize t.2=t2 at *
 generalize t.1=t1 at *
 by_cases h2:tn=last+1
 ·rw [Su h2] at b4
  refine ⟨.z fin,.t,fun K=>?_⟩
  generalize last+1=L1 at *
  generalize (n:Int)=N at *
  generalize (i:Int)=iI at *
  simp [DO,f0,l0,b1,b2,x1,y1,y2,b3,b4,-af,-ab,-aa,-ae]
 ·rw [Ss h2] at b4
  refine ⟨.z fr,.f,fun K=>?_⟩
  generalize last+1=L1 at *
  generalize (n:Int)=N at *
  generalize (i:Int)=iI at *
  simp [DO,f0,l0,b1,b2,x1,y1,y2,b3,b4,-af,-ab,-aa,-ae]
end
abbrev s18 (T:aW) (lv:AV) (n:Nat) (fin:Int) (i:Nat):List AV:=fL lv (.p 0) (.z (n:Int)) (.sl 2 0 n) (.z (wT T)) (.z fin) (.z (i:Int))
theorem qd {T:aW} (hb:SlA 2 (T.ch.map chA) chv) (hv:aT T) {lv:AV} {l:List dc} (hlv:SlA 2 (l.map aX) lv) {A:ac} {x:St} (hA:A17 A T chv x.inn) (hx:OkS T x) {i:Nat} (hi:i<l.length) (hil:l.length<=200) (hi0:i=0->x.last = -2) (hi1:0<i->∃t,l[i-1]?=some t/\t.1=x.last) :
  match fD T x l[i] with
  | some y=>∃B,run (aq GC pC) 300 [.code ev] (s18 T lv T.ch.length x.fin i) A=some (.normal (s18 T lv T.ch.length y.fin (i+1)) B)/\A17 B T chv y.inn
  | none=>∃ σ B,run (aq GC pC) 300 [.code ev] (s18 T lv T.ch.length x.fin i) A=some (.ret σ B)/\σ[5]?=some (.z 0)/\σ[6]?=some .f:=by
 obtain ⟨inn,last,fin⟩:=x
 obtain ⟨hn,hlast,hfin,hin⟩:=hx
 simp only at hA hn hlast hfin hin hi0 hi1 ⊢
 have hw:=de hv
 have hn4:=hv.2.2.2.1
 have x1:=hlv.index (A:=A) (i:=i) (x:=aX l[i]) (by simp [hi]) rfl (by omega) .i64
 have hlen:=hlv.len
 rw [SF] at hlen
 have b0:=be i l.length .i64
 rw [Su hi] at b0
 have b9:=aP i (by omega)
 obtain ⟨⟨tn,ts⟩,hti⟩:∃t,t=l[i]:=⟨_,rfl⟩
 rw [<-hti] at x1 ⊢
 have x1':ae 2 A lv (.z (i:Int))=some (.fp [.z tn,.z ts]):=x1
 obtain ⟨B,hB⟩:∃B,B=A++[Ent.row 2 false [aX (tn,ts)]]:=⟨_,rfl⟩
 have s0:aA 2 (A++[.row 2 false [.agg [.z 0,.z 0]]]) (.p A.length) (.agg [.z tn,.z ts])=some B:=by
  rw [hB]
  simp only [aA,Uf,Tp]
  rw [SA ⟨trivial,rfl,rfl,by omega⟩]
  simp [bL,cellsOf,aX]
 have hAB:A17 B T chv inn:=by
  have hl:=hA.l
  rw [hB]
  exact ⟨by rw [Sy (by omega)]; exact hA.t,by rw [Sy (by omega)]; exact hA.r,by simp; omega⟩
 have hp:B[A.length]?=some (.row 2 false [aX (tn,ts)]):=by rw [hB]; simp
 have hp2:A.length≠2:=by have:=hA.l; omega
 obtain ⟨f0,f1,l0,l1⟩:=iG hp
 simp only at l0 l1
 obtain ⟨u0,_,_,_,u3⟩:=pN hAB.t
 have u03:=u0 3 (by omega)
 have bt:af .add (.z fin) (.z T.travel)=some (.z (fin+T.travel)):=aY (by omega)
 have m1:=cq tn 0 (T.ch.length:Int)
 have hbt:=nh hv last tn
 have bz:aR 2 (.agg [.z 0,.z 0]) A=some (.p A.length,A++[.row 2 false [.agg [.z 0,.z 0]]]):=rfl
 unfold fD
 simp only
 unfold s18
 rw [zI]
 by_cases c1:0<=tn
 rotate_left
 ·rw [SD (fun h=>c1 h.1.1)]
  have mb:iD tn 0 (T.ch.length:Int)=false:=by
   cases e:iD tn 0 (T.ch.length:Int)
   ·rfl
   ·exact absurd (cP.1 e).1 c1
  rw [mb] at m1
  have pre:∃e13 e17,∀K,run (aq GC pC) 300 (.code DO :: K) [.u,.u,.u,lv,.p 0,.u,.u,.z (T.ch.length:Int),.sl 2 0 T.ch.length,.z (wT T),.z fin,.z (i:Int),.p A.length,.z (fin+T.travel),.u,.u,.t,.u,.u,.u,.u,.u,.u] B=run (aq GC pC) 300 K [.u,.u,.u,lv,.p 0,.u,.u,.z (T.ch.length:Int),.sl 2 0 T.ch.length,.z (wT T),.z fin,.z (i:Int),.p A.length,e13,.u,.u,.t,e17,.u,.u,.u,.u,.u] B:=Rg hlv hil hp (by omega) hi1 hlast (by omega) _ _ _ _ _ _ _ _
  obtain ⟨e13,e17,pre⟩:=pre
  refine ⟨[.u,.u,.u,lv,.p 0,.z 0,.f,.z (T.ch.length:Int),.sl 2 0 T.ch.length,.z (wT T),.z fin,.z (i:Int),.p A.length,e13,.u,.u,.t,e17,.t,.u,.u,.u,.u],B,?_,rfl,rfl⟩
  generalize (T.ch.length:Int)=N at *
  generalize fin+T.travel=FT at *
  generalize T.travel=tr at *
  generalize wT T=wt at *
  generalize A++[Ent.row 2 false [.agg [.z 0,.z 0]]]=A1 at *
  generalize hAl:A.length=pp at *
  simp [x1',b0,hlen,bz,s0,f0,l0,u03,u3,bt,pre,m1,aM,fP,-aR,-cq,-af,-ab,-aa,-aj,-ae,-aA,-frz]
 obtain ⟨e17,pre⟩:=Lv (n:=T.ch.length) (T:=T) (fin:=fin) (fr:=fin+T.travel) hlv hil hp c1 hi0 (by omega) hi1 hlast rfl .u .u .u .u .u .u .u .t .u .u .u .u .u .u
 by_cases c1b:tn<=(inn.length:Int)
 rotate_left
 ·rw [SD (fun h=>c1b h.1.2)]
  have mb:iD tn 0 (T.ch.length:Int)=false:=by
   cases e:iD tn 0 (T.ch.length:Int)
   ·rfl
   ·exact absurd (cP.1 e).2 (by omega)
  rw [mb] at m1
  refine ⟨[.u,.u,.u,lv,.p 0,.z 0,.f,.z (T.ch.length:Int),.sl 2 0 T.ch.length,.z (wT T),.z fin,.z (i:Int),.p A.length,.z (fin+btw T last tn),.u,.u,.t,e17,.t,.u,.u,.u,.u],B,?_,rfl,rfl⟩
  generalize (T.ch.length:Int)=N at *
  generalize fin+btw T last tn=FB at *
  generalize fin+T.travel=FT at *
  generalize T.travel=tr at *
  generalize wT T=wt at *
  generalize A++[Ent.row 2 false [.agg [.z 0,.z 0]]]=A1 at *
  generalize hAl:A.length=pp at *
  simp [x1',b0,hlen,bz,s0,f0,l0,u03,u3,bt,pre,m1,aM,fP,-aR,-cq,-af,-ab,-aa,-aj,-ae,-aA,-frz]
 rw [cP.2 ⟨c1,by omega⟩] at m1
 have m3:=cq ts (fin+btw T last tn) 1000000000
 by_cases c2:fin+btw T last tn<=ts/\ts<=1000000000
 rotate_left
 ·rw [SD (fun h=>c2 h.2)]
  have mb:iD ts (fin+btw T last tn) 1000000000=false:=by
   cases e:iD ts (fin+btw T last tn) 1000000000
   ·rfl
   ·exact absurd (cP.1 e) c2
  rw [mb] at m3
  refine ⟨[.u,.u,.u,lv,.p 0,.z 0,.f,.z (T.ch.length:Int),.sl 2 0 T.ch.length,.z (wT T),.z fin,.z (i:Int),.p A.length,.z (fin+btw T last tn),.u,.u,.t,e17,.t,.u,.u,.u,.u],B,?_,rfl,rfl⟩
  generalize (T.ch.length:Int)=N at *
  generalize fin+btw T last tn=FB at *
  generalize fin+T.travel=FT at *
  generalize T.travel=tr at *
  generalize wT T=wt at *
  generalize A++[Ent.row 2 false [.agg [.z 0,.z 0]]]=A1 at *
  generalize hAl:A.length=pp at *
  simp [x1',b0,hlen,bz,s0,f0,f1,l0,l1,u03,u3,bt,pre,m1,m3,aM,fP,-aR,-cq,-af,-ab,-aa,-aj,-ae,-aA,-frz]
 rw [cP.2 c2] at m3
 rw [SA ⟨⟨c1,c1b⟩,c2⟩]
 have tk:=JN (n:=T.ch.length) (lv:=lv) (fin:=fin) (fr:=fin+btw T last tn) (i:=i) hb hv hAB hn rfl hp hp2 ⟨c1,c1b⟩ hin .u .u .u .u .u .u .u .t e17 .f .u .u .u .u
 cases h1:kQ T inn (tn,ts) with
 | none=>
  rw [h1] at tk
  obtain ⟨σ,B',k1,k2⟩:=tk
  rw [U7]
  refine ⟨σ,B',?_,k2⟩
  generalize (T.ch.length:Int)=N at *
  generalize fin+btw T last tn=FB at *
  generalize fin+T.travel=FT at *
  generalize T.travel=tr at *
  generalize wT T=wt at *
  generalize A++[Ent.row 2 false [.agg [.z 0,.z 0]]]=A1 at *
  generalize hAl:A.length=pp at *
  simp [x1',b0,hlen,bz,s0,f0,f1,l0,l1,u03,u3,bt,pre,m1,m3,k1,aM,fP,-aR,-cq,-af,-ab,-aa,-aj,-ae,-aA,-frz]
 | some a=>
  rw [h1] at tk
  obtain ⟨e14,e19,e20,B',k1,k2,k3,k4⟩:=tk
  rw [Te]
  have hp':B'[A.length]?=some (.row 2 false [aX (tn,ts)]):=by rw [k3]; exact hp
  obtain ⟨f0',f1',l0',l1'⟩:=iG hp'
  simp only at l0' l1'
  have bw:af .add (.z ts) (.z (wT T))=some (.z (ts+wT T)):=aY (by omega)
  have bl:=bP tn (T.ch.length:Int)
  have pt:=N2 (n:=T.ch.length) (lv:=lv) (fr:=fin+btw T last tn) (i:=i) hb hv k2 (by rw [k4]; exact hn) rfl hp' c1 (by omega) .u .u .u .u .u e14 .u .t e17 .f e19 e20 .u
  cases h2:wu T a (tn,ts) with
  | none=>
   rw [h2] at pt
   obtain ⟨σ,B2,q1,q2⟩:=pt
   rw [Option.map_none]
   refine ⟨σ,B2,?_,q2⟩
   generalize decide (tn<(T.ch.length:Int))=dd at *
   generalize (T.ch.length:Int)=N at *
   generalize fin+btw T last tn=FB at *
   generalize fin+T.travel=FT at *
   generalize T.travel=tr at *
   generalize ts+wT T=te at *
   generalize wT T=wt at *
   generalize A++[Ent.row 2 false [.agg [.z 0,.z 0]]]=A1 at *
   generalize hAl:A.length=pp at *
   simp [x1',b0,hlen,bz,s0,f0,f1,l0,l1,f0',f1',l0',l1',u03,u3,bt,pre,m1,m3,k1,bw,bl,q1,aM,fP,-aR,-cq,-af,-ab,-aa,-aj,-ae,-aA,-frz]
  | some b=>
   rw [h2] at pt
   obtain ⟨e22,B2,q1,q2⟩:=pt
   rw [Th]
   refine ⟨B2,?_,q2⟩
   simp only
   obtain ⟨i1,hi1'⟩:∃i1:Nat,i1=i+1:=⟨_,rfl⟩
   rw [<-hi1'] at b9 ⊢
   generalize decide (tn<(T.ch.length:Int))=dd at *
   generalize (T.ch.length:Int)=N at *
   generalize fin+btw T last tn=FB at *
   generalize fin+T.travel=FT at *
   generalize T.travel=tr at *
   generalize ts+wT T=te at *
   generalize wT T=wt at *
   generalize A++[Ent.row 2 false [.agg [.z 0,.z 0]]]=A1 at *
   generalize hAl:A.length=pp at *
   simp [x1',b0,b9,hlen,bz,s0,f0,f1,l0,l1,f0',f1',l0',l1',u03,u3,bt,pre,m1,m3,k1,bw,bl,q1,aM,fP,-aR,-cq,-af,-ab,-aa,-aj,-ae,-aA,-frz]
theorem KU {T:aW} (hb:SlA 2 (T.ch.map chA) chv) (hv:aT T) {lv:AV} {l:List dc} (hlv:SlA 2 (l.map aX) lv) (hil:l.length<=200):∀(c i:Nat) (A:ac) (x:St) (m:Nat),i+c=l.length->A17 A T chv x.inn->OkS T x->c<m->(i=0->x.last = -2)->(0<i->∃t,l[i-1]?=some t/\t.1=x.last) ->
  match rV T x (l.drop i) with
  | some y=>∃B,bG (evC (aq GC pC) 300 ev) dW m (s18 T lv T.ch.length x.fin i) A=some (.exit 0 ((s18 T lv T.ch.length y.fin l.length).set 16 .f) B)
  | none=>∃ σ B,bG (evC (aq GC pC) 300 ev) dW m (s18 T lv T.ch.length x.fin i) A=some (.ret σ B)/\σ[5]?=some (.z 0)/\σ[6]?=some .f:=by
 intro c
 induction c with
 | zero=>
  intro i A x m hi hA hx hm h0 h1
  obtain ⟨m,rfl⟩:∃j,m=j+1:=⟨m-1,by omega⟩
  obtain rfl:i=l.length:=by omega
  rw [TN]
  simp only [rV]
  refine ⟨A,?_⟩
  have hlen:=hlv.len
  rw [SF] at hlen
  have b0:=be l.length l.length .i64
  rw [Ss (by omega)] at b0
  unfold s18
  rw [aG,re]
  simp [ev,hlen,b0,-af,-aj]
 | succ c ih=>
  intro i A x m hi hA hx hm h0 h1
  obtain ⟨m,rfl⟩:∃j,m=j+1:=⟨m-1,by omega⟩
  have hil':i<l.length:=by omega
  rw [To hil']
  simp only [rV]
  have hr:=qd hb hv hlv hA hx hil' hil h0 h1
  unfold s18 at hr ⊢
  rw [aG,re]
  cases hs:fD T x l[i] with
  | none=>
   rw [hs] at hr
   obtain ⟨σ,B,h1,h2⟩:=hr
   rw [U7,h1]
   exact ⟨σ,B,rfl,h2⟩
  | some y=>
   rw [hs] at hr
   obtain ⟨B,h1,h2⟩:=hr
   rw [Te,h1]
   have hy:=(zm hs hx.n).2.2.2
   obtain ⟨_,_,_,_,_,_,_,hla,_⟩:=hy
   exact ih (i+1) B y m (by omega) h2 (hx.step hv hs) (by omega) (fun e=>absurd e (by omega)) (fun _=>⟨l[i],by rw [show i+1-1=i by omega]; exact Sq hil',hla.symm⟩)
theorem Dx {T:aW} (hb:SlA 2 (T.ch.map chA) chv) (hl:T.ch.length<=200) (hr:SlA 1 (ak rd) rdv) (hrl:rd.length<=200) (free:Int) {lv:AV} {l:List dc} (hlv:SlA 2 (l.map aX) lv) (hll:l.length<=200):M18 [ai T chv,rdv,.z free,lv]=some (EW (gV T rd free l)):=by
 have m:=ze hb hl hr hrl free
 have ft:=fun A=>aQ (T:=T) (fun A n=>hb.frz (A:=A) n) A 3
 have fr:∀A n,frz A n rdv=rdv:=fun A n=>hr.frz n
 have tn:bR 4 (ai T chv)=true:=Clu.cf (fun n=>hb.noRef n) 3
 have bx:aR 5 (ai T chv) []=some (.p 0,[.row 5 false [ai T chv]]):=rfl
 have ct:(cellsOf (ai T chv)).length=5:=rfl
 obtain ⟨A0,hA0⟩:∃A:ac,A=[.row 5 false [ai T chv]]:=⟨_,rfl⟩
 have lt:ab true 5 A0 (.p 0)=some (ai T chv):=by rw [hA0]; rfl
 rw [<-hA0] at bx
 have fz:∀A z b,frz A 4 (.tup [.z z,.bool b])=.tup [.z z,.bool b]:=fun A z b=>yD A z b
 unfold M18 gV EW
 by_cases hS:Sit T rd free
 rotate_left
 ·rw [SD hS]
  rw [Ss hS] at m
  generalize ai T chv=tv at *
  rw [aO _ _ rfl]
  simp [Bl,bx,ct,lt,m,ft,fr,fz,aM,dI,-aR,-ab,-frz,-cellsOf]
 rw [SA hS]
 rw [Su hS] at m
 have hv:=hS.1.1
 have hw:=de hv
 have fa:aa 0 A0 (.p 0)=some (.p 0):=by rw [hA0]; simp [aa]
 have l0:ab false 1 A0 (.p 0)=some chv:=by
  rw [hA0]
  rcases hb with ⟨rfl,_⟩ | rfl <;> rfl
 have lnc:=hb.len
 rw [SF] at lnc
 have hAl:A0.length=1:=by rw [hA0]; rfl
 have bs:aI 1 [] A0=some (.sl 1 0 0,A0++[.q []]):=by simp [aI,hAl]
 have ap:=q5 (esz:=1) (bytes:=8) (by omega) (by omega) hAl.symm hr (by rw [az]; omega)
 rw [az,hS.2.1] at ap
 obtain ⟨A1,hA1⟩:∃A1,A1=A0++[Ent.dead,.q (ak rd)]:=⟨_,rfl⟩
 rw [<-hA1] at ap
 have lt1:ab true 5 A1 (.p 0)=some (ai T chv):=by rw [hA1,hA0]; rfl
 have h17:A17 A1 T chv rd:=⟨by rw [hA1,hA0]; rfl,by rw [hA1,hA0]; rfl,by rw [hA1,hA0]; simp⟩
 have m22:=wn chv hv
 have lp:=KU hb hv hlv hll l.length 0 A1 (st0 rd free) 300 (by omega) h17 ⟨hS.2.1,by simp [st0],by show 0<=free/\free<=_; have:=hS.2.2.1; omega,fun z hz=>by have:=hS.2.2.2 z hz; omega⟩ (by omega) (fun _=>rfl) (fun h=>absurd h (by omega))
 rw [SL] at lp
 unfold s18 at lp
 rw [show ((0:Nat):Int)=0 from rfl] at lp
 clear hA1 hA0 h17
 cases hc:rV T (st0 rd free) l with
 | none=>
  rw [hc] at lp
  obtain ⟨σ,B,h1,h2,h3⟩:=lp
  have h1':bG (evC (aq GC pC) 300 ev) dW 300 (fL lv (.p 0) (.z (T.ch.length:Int)) (.sl 2 0 T.ch.length) (.z (wT T)) (.z free) (.z 0)) A1=some (.ret σ B):=h1
  clear h1 hc
  generalize ai T chv=tv at *
  generalize T.ch.length=n at *
  generalize wT T=w at *
  generalize A0++[Ent.q []]=A2 at *
  rw [aO _ _ rfl]
  simp [Bl,bx,ct,lt,m,ft,fr,tn,fa,l0,lnc,bs,ap,lt1,m22,vt h1',h2,h3,fz,aM,dI,-aR,-ab,-aa,-aj,-aI,-frz,-cellsOf]
 | some y=>
  rw [hc] at lp
  obtain ⟨B,h1⟩:=lp
  have h1':bG (evC (aq GC pC) 300 ev) dW 300 (fL lv (.p 0) (.z (T.ch.length:Int)) (.sl 2 0 T.ch.length) (.z (wT T)) (.z free) (.z 0)) A1=_:=h1
  clear h1 hc
  show evP _ _ _ _ _=some (.tup [.z y.fin,.t])
  generalize ai T chv=tv at *
  generalize T.ch.length=n at *
  generalize wT T=w at *
  generalize y.fin=yf at *
  generalize A0++[Ent.q []]=A2 at *
  rw [aO _ _ rfl]
  simp [Bl,bx,ct,lt,m,ft,fr,tn,fa,l0,lnc,bs,ap,lt1,m22,vt h1',fz,aM,dI,-aR,-ab,-aa,-aj,-aI,-frz,-cellsOf]
end Tr
end Go.Proofs.YtkcjhljbgjpklaaGreat
