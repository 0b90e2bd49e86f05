import Derived.Test.YtkcjhljbgjpklaaUG08
import Derived.Test.YtkcjhljbgjpklaaChecked
import Derived.KernelRfl
set_option maxRecDepth 100000
set_option maxHeartbeats 4000000
noncomputable section
namespace Go.Proofs.Ytkcjhljbgjpklaa
namespace Tr
namespace Fa
open Go
open Cy (GC gE aM bc aB cY)
open Clu (aS aT aj chA bH Chk kI isI M64 pP jj aX aZ bP bw cn cG cF)
def A24 (P:aa) (tv sv:AV) (ks:List Int):aa:=P++[.row 5 false [tv],.row 4 false [sv],.row 1 false (ak ks)]
theorem A24_len (P:aa) (tv sv:AV) (ks:List Int):(A24 P tv sv ks).length=P.length+3:=by simp [A24]
theorem r24 (P:aa) (tv sv:AV) (ks:List Int) (W:aa):(A24 P tv sv ks++W)[P.length]?=some (.row 5 false [tv])/\(A24 P tv sv ks++W)[P.length+1]?=some (.row 4 false [sv])/\(A24 P tv sv ks++W)[P.length+2]?=some (.row 1 false (ak ks)):=by
 unfold A24
 refine ⟨?_,?_,?_⟩ <;> rw [List.append_assoc,List.getElem?_append_right (by omega)] <;> simp
theorem I7 (P:aa) (tv sv:AV) (ks:List Int):(A24 P tv sv ks)[P.length+2]?=some (.row 1 false (ak ks)):=by
 have:=(r24 P tv sv ks []).2.2
 rw [List.append_nil] at this
 exact this
theorem s24z (P:aa) (tv sv:AV) (ks ks':List Int):(A24 P tv sv ks).set (P.length+2) (.row 1 false (ak ks'))=A24 P tv sv ks':=by
 unfold A24
 rw [List.set_append_right _ _ (by omega)]
 simp
def oR (l:List cz):aa:=if l=[] then [] else [.row 2 (decide (1<l.length)) (l.map aU)]
def outV (P:aa) (l:List cz):AV:=if l=[] then .nilS else .sl (P.length+3) 0 l.length
theorem nR (P:aa) (tv sv:AV) (ks:List Int) (l:List cz) (t:cz) (hl:l.length<=1000):aK 2 16 (A24 P tv sv ks++oR l) (outV P l) (.fs 2 [aU t])=some (outV P (l++[t]),A24 P tv sv ks++oR (l++[t])):=by
 have hB:=A24_len P tv sv ks
 generalize A24 P tv sv ks=B at *
 have hne:l++[t]≠[]:=by simp
 have e1:outV P (l++[t])=.sl (P.length+3) 0 (l.length+1):=by unfold outV; rw [if_neg hne]; simp
 by_cases h:l=[]
 ·subst h
  simp [oR,outV,aK,aQ,hB]
 ·have e0:B++oR l=B++[.row 2 (decide (1<l.length)) (l.map aU)]:=by unfold oR; rw [if_neg h]
  have e2:B++oR (l++[t])=B++[.row 2 true (l.map aU++[aU t])]:=by
   have h1:0<l.length:=List.length_pos_iff.2 h
   unfold oR; rw [if_neg hne,decide_eq_true (by simp; omega)]; simp
  have hz:l.length≠0:=fun e=>h (List.length_eq_zero_iff.1 e)
  have e3:outV P l=.sl (P.length+3) 0 l.length:=by unfold outV; rw [if_neg h]
  rw [e0,e1,e2,e3]
  have hrow:(B++[Ent.row 2 (decide (1<l.length)) (l.map aU)])[P.length+3]?=some (.row 2 (decide (1<l.length)) (l.map aU)):=by rw [<-hB]; simp
  simp only [aK,cM,hrow,List.length_map,List.length_singleton]
  rw [if_pos ⟨trivial,by omega,by omega,by omega⟩,if_pos ⟨trivial,trivial,hz⟩,<-hB]
  simp
section
variable {P:aa} {T:aS} {chv:AV} {s:bH} {ov sv pv:AV} {free:Int}
theorem Eu (_hs:kI s ov sv pv) (ks:List Int) (W:aa) :
  ab 1 (A24 P (aj T chv) (aJ s ov sv pv) ks++W) (.ptr (P.length+1) 0 0)=some (.ptr (P.length+1) 0 1)/\ac false 1 (A24 P (aj T chv) (aJ s ov sv pv) ks++W) (.ptr (P.length+1) 0 1)=some ov /\
  ab 2 (A24 P (aj T chv) (aJ s ov sv pv) ks++W) (.ptr (P.length+1) 0 0)=some (.ptr (P.length+1) 0 2)/\ac false 1 (A24 P (aj T chv) (aJ s ov sv pv) ks++W) (.ptr (P.length+1) 0 2)=some sv /\
  ab 0 (A24 P (aj T chv) (aJ s ov sv pv) ks++W) (.ptr (P.length+1) 0 0)=some (.ptr (P.length+1) 0 0)/\ac false 1 (A24 P (aj T chv) (aJ s ov sv pv) ks++W) (.ptr (P.length+1) 0 0)=some (.int .i64 s.period) /\
  ab 3 (A24 P (aj T chv) (aJ s ov sv pv) ks++W) (.ptr P.length 0 0)=some (.ptr P.length 0 3)/\ac false 1 (A24 P (aj T chv) (aJ s ov sv pv) ks++W) (.ptr P.length 0 3)=some (.int .i64 T.travel):=by
 obtain ⟨r0,r1,_⟩:=r24 P (aj T chv) (aJ s ov sv pv) ks W
 generalize A24 P (aj T chv) (aJ s ov sv pv) ks++W=B at *
 refine ⟨by simp [ab,r1,aJ],gx (k:=4) (es:=[.int .i64 s.period,ov,sv,pv]) r1 rfl,by simp [ab,r1,aJ],gx (k:=4) (es:=[.int .i64 s.period,ov,sv,pv]) r1 rfl,by simp [ab,r1,aJ],gx (k:=4) (es:=[.int .i64 s.period,ov,sv,pv]) r1 rfl,by simp [ab,r0,aj],gx (k:=5) (es:=[chv,.int .i64 T.pick,.int .i64 T.place,.int .i64 T.travel,.int .i64 T.blades]) r0 rfl⟩
abbrev s24 (P:aa) (free:Int) (n i:Nat):List AV:=pO (.int .i64 free) (.ptr P.length 0 0) (.ptr (P.length+1) 0 0) (.int .i64 (n:Int)) (.sl (P.length+2) 0 (n+1)) (.int .i64 (i:Int))
theorem tS (hs:kI s ov sv pv) (hol:s.order.length<=200) {n i:Nat} (hn:n<=100) (hi:1<=i) (hin:i<=n) :
  run (ax GC jJ) 300 [.code eI] (s24 P free n i) (A24 P (aj T chv) (aJ s ov sv pv) (inF s.order n i))=some (.normal (s24 P free n (i+1)) (A24 P (aj T chv) (aJ s ov sv pv) (inF s.order n (i+1)))):=by
 unfold s24
 obtain ⟨k,rfl⟩:∃k,i=k+1:=⟨i-1,by omega⟩
 have hg:=fun ks=>Eu (P:=P) (T:=T) (chv:=chv) hs ks []
 simp only [List.append_nil] at hg
 have hr:∀ks,(A24 P (aj T chv) (aJ s ov sv pv) ks)[P.length+2]?=some (.row 1 false (ak ks)):=fun ks=>I7 _ _ _ _
 have hset:∀ks ks',(A24 P (aj T chv) (aJ s ov sv pv) ks).set (P.length+2) (.row 1 false (ak ks'))=A24 P (aj T chv) (aJ s ov sv pv) ks':=fun ks ks'=>s24z _ _ _ _ _
 have hl:=kU s.order (n:=n) (i:=k+1) (by omega)
 have b0':=cF ((k+1:Nat):Int) (n:Int)
 rw [decide_eq_true (by omega)] at b0'
 have b1:ag .sub (.int .i64 ((k+1:Nat):Int)) (.int .i64 1)=some (.int .i64 (k:Int)):=by rw [bP (by omega)]; congr 2; omega
 have b2:=aW (k+1) (by omega)
 have i1:=dp (n:=n+1) (hr (inF s.order n (k+1))) (show k<n+1 by omega) .i64
 have i2:=dp (n:=n+1) (hr (inF s.order n (k+1))) (show k+1<n+1 by omega) .i64
 have d1:=jc (hr (inF s.order n (k+1))) (show k<(inF s.order n (k+1)).length by omega)
 rw [kV s.order (by omega)] at d1
 have s1:=jO (hr (inF s.order n (k+1))) (show k+1<(inF s.order n (k+1)).length by omega) (kF s.order k)
 rw [hset] at s1
 obtain ⟨ks1,hks1⟩:∃ks1,ks1=(inF s.order n (k+1)).set (k+1) (kF s.order k):=⟨_,rfl⟩
 rw [<-hks1] at s1
 have hl1:ks1.length=n+1:=by rw [hks1,List.length_set,hl]
 obtain ⟨h1,h2,_⟩:=hg ks1
 have f1:∀A n,frz A n ov=ov:=fun A n=>hs.o.frz n
 have m1:=jj hs.o hol ((k+1:Nat):Int)
 have m2:=jj hs.o hol (k:Int)
 have b3:=cn (pos s.order ((k+1:Nat):Int)) (pos s.order (k:Int))
 have hk:=sc s.order k
 have ek:kF s.order (k+1)=kF s.order k+(if pos s.order ((k+1:Nat):Int)<pos s.order (k:Int) then 1 else 0):=by simp only [kF,hF]; push_cast; rfl
 have m1:M64 [ov,.int .i64 ((k+1:Nat):Int)]=some (.int .i64 (pos s.order ((k+1:Nat):Int))):=m1
 have m2:M64 [ov,.int .i64 (k:Int)]=some (.int .i64 (pos s.order (k:Int))):=m2
 by_cases hp:pos s.order ((k+1:Nat):Int)<pos s.order (k:Int)
 ·rw [decide_eq_true hp] at b3
  rw [if_pos hp] at ek
  have i3:=dp (n:=n+1) (hr ks1) (show k+1<n+1 by omega) .i64
  have d3:=jc (hr ks1) (show k+1<ks1.length by omega)
  have e3:ks1.getD (k+1) 0=kF s.order k:=by rw [hks1,ei,if_pos ⟨rfl,by omega⟩]
  rw [e3] at d3
  have b4:ag .add (.int .i64 (kF s.order k)) (.int .i64 1)=some (.int .i64 (kF s.order (k+1))):=by rw [ek]; exact aZ (by omega)
  have s3:=jO (hr ks1) (show k+1<ks1.length by omega) (kF s.order (k+1))
  rw [hset,hks1,(qW s.order (i:=k+1) (by omega) (kF s.order k)).1,<-hks1] at s3
  generalize A24 P (aj T chv) (aJ s ov sv pv) (inF s.order n (k+1))=B0 at *
  generalize A24 P (aj T chv) (aJ s ov sv pv) ks1=B1 at *
  generalize A24 P (aj T chv) (aJ s ov sv pv) (inF s.order n (k+1+1))=B2 at *
  generalize kF s.order (k+1)=z1 at *
  generalize kF s.order k=z0 at *
  generalize pos s.order ((k+1:Nat):Int)=p1 at *
  generalize pos s.order (k:Int)=p0 at *
  generalize ((k+1+1:Nat):Int)=K2 at *
  generalize ((k+1:Nat):Int)=K1 at *
  generalize (k:Int)=K0 at *
  generalize (n:Int)=N at *
  simp [eI,b0',b1,b2,b3,b4,i1,i2,i3,d1,d3,s1,s3,h1,h2,f1,aM,m1,m2,bu,-ag,-ac,-aA,-ai,-ab,-frz]
 ·rw [decide_eq_false hp] at b3
  rw [if_neg hp] at ek
  have e2:ks1=inF s.order n (k+1+1):=by
   rw [hks1,<-(qW s.order (n:=n) (i:=k+1) (by omega) 0).2,ek,Int.add_zero]
  rw [<-e2]
  generalize A24 P (aj T chv) (aJ s ov sv pv) (inF s.order n (k+1))=B0 at *
  generalize A24 P (aj T chv) (aJ s ov sv pv) ks1=B1 at *
  generalize kF s.order k=z0 at *
  generalize pos s.order ((k+1:Nat):Int)=p1 at *
  generalize pos s.order (k:Int)=p0 at *
  generalize ((k+1+1:Nat):Int)=K2 at *
  generalize ((k+1:Nat):Int)=K1 at *
  generalize (k:Int)=K0 at *
  generalize (n:Int)=N at *
  simp [eI,b0',b1,b2,b3,i1,i2,d1,s1,h1,h2,f1,aM,m1,m2,bu,-ag,-ac,-aA,-ai,-ab,-frz]
theorem loop24 (hs:kI s ov sv pv) (hol:s.order.length<=200) {n:Nat} (hn:n<=100):∀(c i m:Nat),i+c=n+1->1<=i->c<m ->
  bS (evC (ax GC jJ) 300 eI) gf m (s24 P free n i) (A24 P (aj T chv) (aJ s ov sv pv) (inF s.order n i)) =
   some (.exit 0 ((s24 P free n (n+1)).set 14 (.bool false)) (A24 P (aj T chv) (aJ s ov sv pv) (inF s.order n (n+1)))):=by
 intro c
 induction c with
 | zero=>
  intro i m hi _ hm
  obtain ⟨m,rfl⟩:∃j,m=j+1:=⟨m-1,by omega⟩
  obtain rfl:i=n+1:=by omega
  have b0':=cF ((n+1:Nat):Int) (n:Int)
  rw [decide_eq_false (by omega)] at b0'
  unfold s24
  rw [aI,sQ]
  generalize ((n+1:Nat):Int)=N1 at *
  simp [eI,b0',-ag]
 | succ c ih=>
  intro i m hi h1 hm
  obtain ⟨m,rfl⟩:∃j,m=j+1:=⟨m-1,by omega⟩
  have hr:=tS (P:=P) (T:=T) (chv:=chv) (free:=free) hs hol hn h1 (show i<=n by omega)
  unfold s24 at hr ⊢
  rw [aI,sQ,hr]
  exact ih (i+1) m (by omega) (by omega) (by omega)
abbrev qI (P:aa) (free:Int) (n:Nat) (l:List cz) (r R:Nat) (ov:AV) (m p:Nat):List AV:=lI (.int .i64 free) (.ptr P.length 0 0) (.ptr (P.length+1) 0 0) (.sl (P.length+2) 0 (n+1)) (outV P l) (.int .i64 (r:Int)) (.int .i64 (R:Int)) (.int .i64 (r:Int)) ov (.int .i64 (m:Int)) (.int .i64 (p:Int))
theorem qL (hc:Chk T s) (hv:aT T) (hs:kI s ov sv pv) (hf:0<=free/\free<=2000000) {l:List cz} (hl:l.length<=500) {r R p:Nat} (hr:r<=100) (hp:p<s.order.length) :
  ∃l',l'=(if kF s.order (s.order.getD p 0).toNat<=r then l++[tk T s free r (s.order.getD p 0)] else l) /\
  run (ax GC jJ) 300 [.code eh] (qI P free T.ch.length l r R ov s.order.length p) (A24 P (aj T chv) (aJ s ov sv pv) (inF s.order T.ch.length (T.ch.length+1))++oR l) =
   some (.normal (qI P free T.ch.length l' r R ov s.order.length (p+1)) (A24 P (aj T chv) (aJ s ov sv pv) (inF s.order T.ch.length (T.ch.length+1))++oR l')):=by
 refine ⟨_,rfl,?_⟩
 unfold qI
 obtain ⟨c1,c2,c3,c4,c5⟩:=eP hc
 have hn4:=hv.2.2.2.1
 have hmem:s.order.getD p 0∈s.order:=by rw [List.getD_eq_getElem?_getD,List.getElem?_eq_getElem hp]; exact List.getElem_mem hp
 obtain ⟨t,ht⟩:∃t:Nat,s.order.getD p 0=(t:Int):=⟨(s.order.getD p 0).toNat,by have:=c5 _ hmem; omega⟩
 have htn:t<=T.ch.length:=by have:=c5 _ hmem; omega
 have hop:s.order[p]=(t:Int):=by rw [<-ht,List.getD_eq_getElem?_getD,List.getElem?_eq_getElem hp]; rfl
 rw [ht,Int.toNat_natCast]
 have x1:=hs.o.int (A:=A24 P (aj T chv) (aJ s ov sv pv) (inF s.order T.ch.length (T.ch.length+1))++oR l) _ _ (List.getElem?_eq_getElem hp) .i64
 rw [hop] at x1
 have b0':=bh p s.order.length .i64
 rw [decide_eq_true hp] at b0'
 have b9:=aW p (by omega)
 obtain ⟨h1,h2,h3,h4,h5,h6,h7,h8⟩:=Eu (P:=P) (T:=T) (chv:=chv) hs (inF s.order T.ch.length (T.ch.length+1)) (oR l)
 have hrow:(A24 P (aj T chv) (aJ s ov sv pv) (inF s.order T.ch.length (T.ch.length+1))++oR l)[P.length+2]?=some (.row 1 false (ak (inF s.order T.ch.length (T.ch.length+1)))):=(r24 _ _ _ _ _).2.2
 have i1:=dp (n:=T.ch.length+1) hrow (show t<T.ch.length+1 by omega) .i64
 have d1:=jc hrow (show t<(inF s.order T.ch.length (T.ch.length+1)).length by rw [kU _ (by omega)]; omega)
 rw [kV s.order (by omega)] at d1
 have b1:=cF (kF s.order t) (r:Int)
 have y0:=hs.st.int (A:=A24 P (aj T chv) (aJ s ov sv pv) (inF s.order T.ch.length (T.ch.length+1))++oR l) _ _ (List.getElem?_eq_getElem (show 0<s.starts.length by omega)) .i64
 have y1:=hs.st.int (A:=A24 P (aj T chv) (aJ s ov sv pv) (inF s.order T.ch.length (T.ch.length+1))++oR l) _ _ (List.getElem?_eq_getElem (show t<s.starts.length by omega)) .i64
 have e0:s.starts[0]'(by omega)=stD s 0:=by unfold stD; rw [List.getD_eq_getElem?_getD,List.getElem?_eq_getElem (by omega)]; rfl
 have e1:s.starts[t]'(by omega)=stD s t:=by unfold stD; rw [List.getD_eq_getElem?_getD,List.getElem?_eq_getElem (by omega)]; rfl
 rw [e0] at y0
 rw [e1] at y1
 have y0:ai 1 (A24 P (aj T chv) (aJ s ov sv pv) (inF s.order T.ch.length (T.ch.length+1))++oR l) sv (.int .i64 0)=some (.fp [.int .i64 (stD s 0)]):=y0
 have w:=dc hv
 have s0:=wc hc 0
 have st:=wc hc t
 have hmul:0<=(r:Int)*s.period/\(r:Int)*s.period<=100*1000000:=by
  refine ⟨Int.mul_nonneg (by omega) (by omega),?_⟩
  exact Int.mul_le_mul (by omega) c4.2 (by omega) (by omega)
 have b2:ag .add (.int .i64 free) (.int .i64 T.travel)=some (.int .i64 (free+T.travel)):=aZ (by omega)
 have b3:ag .sub (.int .i64 (free+T.travel)) (.int .i64 (stD s 0))=some (.int .i64 (bsF T s free)):=bP (by omega)
 have b4:=ES (r:Int) s.period (by unfold inI; omega)
 have b5:ag .add (.int .i64 (bsF T s free)) (.int .i64 ((r:Int)*s.period))=some (.int .i64 (bsF T s free+(r:Int)*s.period)):=aZ (by unfold bsF; omega)
 have b6:ag .add (.int .i64 (bsF T s free+(r:Int)*s.period)) (.int .i64 (stD s t))=some (.int .i64 (bsF T s free+(r:Int)*s.period+stD s t)):=aZ (by unfold bsF; omega)
 have ap:=nR P (aj T chv) (aJ s ov sv pv) (inF s.order T.ch.length (T.ch.length+1)) l (tk T s free r (t:Int)) (by omega)
 have etk:tk T s free r (t:Int)=((t:Int),bsF T s free+(r:Int)*s.period+stD s t):=by simp only [tk,Int.toNat_natCast]
 rw [etk] at ap ⊢
 have ap:aK 2 16 (A24 P (aj T chv) (aJ s ov sv pv) (inF s.order T.ch.length (T.ch.length+1))++oR l) (outV P l) (.fs 2 [.agg [.int .i64 (t:Int),.int .i64 (bsF T s free+(r:Int)*s.period+stD s t)]])=_:=ap
 have hbf:ba 2 [.agg [.int .i64 (t:Int),.int .i64 (bsF T s free+(r:Int)*s.period+stD s t)]]=some (.fs 2 [.agg [.int .i64 (t:Int),.int .i64 (bsF T s free+(r:Int)*s.period+stD s t)]]):=rfl
 by_cases hk:kF s.order t<=r
 ·rw [decide_eq_true hk] at b1
  rw [if_pos hk]
  generalize l++[((t:Int),bsF T s free+(r:Int)*s.period+stD s t)]=l2 at *
  generalize A24 P (aj T chv) (aJ s ov sv pv) (inF s.order T.ch.length (T.ch.length+1))++oR l2=B1 at *
  generalize A24 P (aj T chv) (aJ s ov sv pv) (inF s.order T.ch.length (T.ch.length+1))++oR l=B0 at *
  generalize bsF T s free+(r:Int)*s.period+stD s t=z5 at *
  generalize bsF T s free+(r:Int)*s.period=z4 at *
  generalize (r:Int)*s.period=z3 at *
  generalize bsF T s free=z2 at *
  generalize free+T.travel=z1 at *
  generalize stD s 0=y0' at *
  generalize stD s t=y1' at *
  generalize kF s.order t=z0 at *
  generalize ((p+1:Nat):Int)=P1 at *
  generalize (p:Int)=P0 at *
  simp [eh,b0',b1,b2,b3,b4,b5,b6,b9,x1,i1,d1,h3,h4,h5,h6,h7,h8,y0,y1,hbf,ap,-ag,-ac,-ai,-ab,-ba]
 ·rw [decide_eq_false hk] at b1
  rw [if_neg hk]
  generalize A24 P (aj T chv) (aJ s ov sv pv) (inF s.order T.ch.length (T.ch.length+1))++oR l=B0 at *
  generalize kF s.order t=z0 at *
  generalize ((p+1:Nat):Int)=P1 at *
  generalize (p:Int)=P0 at *
  simp [eh,b0',b1,b9,x1,i1,d1,-ag,-ac,-ai,-ab,-ba]
theorem t6 (hc:Chk T s) (hv:aT T) (hs:kI s ov sv pv) (hf:0<=free/\free<=2000000) {r R:Nat} (hr:r<=100):∀(c p m:Nat) (l:List cz),p+c=s.order.length->l.length+c<=400->c<m ->
  ∃l',l'=l++((s.order.drop p).filter fun t=>decide (kF s.order t.toNat<=r)).map (tk T s free r)/\l'.length<=l.length+c /\
  bS (evC (ax GC jJ) 300 eh) eE m (qI P free T.ch.length l r R ov s.order.length p) (A24 P (aj T chv) (aJ s ov sv pv) (inF s.order T.ch.length (T.ch.length+1))++oR l) =
   some (.exit 4 ((qI P free T.ch.length l' r R ov s.order.length s.order.length).set 22 (.bool false)) (A24 P (aj T chv) (aJ s ov sv pv) (inF s.order T.ch.length (T.ch.length+1))++oR l')):=by
 intro c
 induction c with
 | zero=>
  intro p m l hp hl hm
  obtain ⟨m,rfl⟩:∃j,m=j+1:=⟨m-1,by omega⟩
  obtain rfl:p=s.order.length:=by omega
  refine ⟨l,by rw [List.drop_length]; simp,by omega,?_⟩
  have b0':=bh s.order.length s.order.length .i64
  rw [decide_eq_false (by omega)] at b0'
  unfold qI
  rw [aI,sP]
  simp [eh,b0',-ag]
 | succ c ih=>
  intro p m l hp hl hm
  obtain ⟨m,rfl⟩:∃j,m=j+1:=⟨m-1,by omega⟩
  have hpl:p<s.order.length:=by omega
  obtain ⟨l1,h1,h2⟩:=qL (P:=P) (T:=T) (chv:=chv) (R:=R) hc hv hs hf (l:=l) (by omega) hr hpl
  have hl1:l1.length<=l.length+1:=by rw [h1]; split <;> simp
  obtain ⟨l',h3,h4,h5⟩:=ih (p+1) m l1 (by omega) (by omega) (by omega)
  have hg:s.order.getD p 0=s.order[p]:=by rw [List.getD_eq_getElem?_getD,List.getElem?_eq_getElem hpl]; rfl
  refine ⟨l',?_,by omega,?_⟩
  ·rw [h3,h1,hg,List.drop_eq_getElem_cons hpl,List.filter_cons]
   by_cases hk:kF s.order (s.order[p]).toNat<=r
   ·rw [if_pos hk,decide_eq_true hk,if_pos rfl,List.map_cons,List.append_assoc]; rfl
   ·rw [if_neg hk,decide_eq_false hk,if_neg (by decide)]
  ·unfold qI at h2 h5 ⊢
   rw [aI,sP,h2]
   exact h5
abbrev s24c (P:aa) (free:Int) (n:Nat) (l:List cz) (R r:Nat):List AV:=pN (.int .i64 free) (.ptr P.length 0 0) (.ptr (P.length+1) 0 0) (.sl (P.length+2) 0 (n+1)) (outV P l) (.int .i64 (R:Int)) (.int .i64 (r:Int))
theorem qK {n r R:Nat} {l l2:List cz} {ks:List Int} (hs:kI s ov sv pv) (hr:r<R) (hR:R<=1000)
  (h3:bS (evC (ax GC jJ) 300 eh) eE 300 (lI (.int .i64 free) (.ptr P.length 0 0) (.ptr (P.length+1) 0 0) (.sl (P.length+2) 0 (n+1)) (outV P l) (.int .i64 (r:Int)) (.int .i64 (R:Int)) (.int .i64 (r:Int)) ov (.int .i64 (s.order.length:Int)) (.int .i64 0)) (A24 P (aj T chv) (aJ s ov sv pv) ks++oR l) =
   some (.exit 4 ((qI P free n l2 r R ov s.order.length s.order.length).set 22 (.bool false)) (A24 P (aj T chv) (aJ s ov sv pv) ks++oR l2))) :
  run (ax GC jJ) 300 [.code fN] (s24c P free n l R r) (A24 P (aj T chv) (aJ s ov sv pv) ks++oR l)=some (.normal (s24c P free n l2 R (r+1)) (A24 P (aj T chv) (aJ s ov sv pv) ks++oR l2)):=by
 unfold qI at h3
 unfold s24c
 have b0':=bh r R .i64
 rw [decide_eq_true hr] at b0'
 have b1:=aW r (by omega)
 obtain ⟨g1,g2,_⟩:=Eu (P:=P) (T:=T) (chv:=chv) hs ks (oR l)
 have ln:=hs.o.len
 rw [aB] at ln
 generalize A24 P (aj T chv) (aJ s ov sv pv) ks++oR l=B0 at *
 generalize A24 P (aj T chv) (aJ s ov sv pv) ks++oR l2=B1 at *
 generalize (s.order.length:Int)=M at *
 generalize ((r+1:Nat):Int)=r1 at *
 simp [fN,b0',b1,g1,g2,ln,Cc h3,-ag,-ac,-ab,-aw]
theorem loop24c (hc:Chk T s) (hv:aT T) (hs:kI s ov sv pv) (hf:0<=free/\free<=2000000) {R:Nat} (hR:R<=6):∀(c r m:Nat),r+c=R->(cf T s free r).length<=5*r->c<m ->
  (cf T s free R).length<=5*R /\
  bS (evC (ax GC jJ) 300 fN) ge m (s24c P free T.ch.length (cf T s free r) R r) (A24 P (aj T chv) (aJ s ov sv pv) (inF s.order T.ch.length (T.ch.length+1))++oR (cf T s free r)) =
   some (.exit 2 ((s24c P free T.ch.length (cf T s free R) R R).set 18 (.bool false)) (A24 P (aj T chv) (aJ s ov sv pv) (inF s.order T.ch.length (T.ch.length+1))++oR (cf T s free R))):=by
 intro c
 induction c with
 | zero=>
  intro r m hr hl hm
  obtain ⟨m,rfl⟩:∃j,m=j+1:=⟨m-1,by omega⟩
  obtain rfl:r=R:=by omega
  refine ⟨hl,?_⟩
  have b0':=bh r r .i64
  rw [decide_eq_false (by omega)] at b0'
  unfold s24c
  rw [aI,sO]
  generalize cf T s free r=l at *
  simp [fN,b0',-ag]
 | succ c ih=>
  intro r m hr hl hm
  obtain ⟨m,rfl⟩:∃j,m=j+1:=⟨m-1,by omega⟩
  obtain ⟨c1,_,_,_,_⟩:=eP hc
  have hn4:=hv.2.2.2.1
  obtain ⟨l',h1,h2,h3⟩:=t6 (P:=P) (T:=T) (chv:=chv) (R:=R) hc hv hs hf (r:=r) (by omega) s.order.length 0 300 (cf T s free r) (by omega) (by omega) (by omega)
  have e:l'=cf T s free (r+1):=by
   rw [h1,List.drop_zero]
   unfold cf cyc
   rw [List.range_succ,List.flatMap_append,List.flatMap_cons,List.flatMap_nil,List.append_nil]
  rw [e] at h2 h3
  obtain ⟨q1,q2⟩:=ih (r+1) m (by omega) (by omega) (by omega)
  refine ⟨q1,?_⟩
  have h3:bS (evC (ax GC jJ) 300 eh) eE 300 (lI (.int .i64 free) (.ptr P.length 0 0) (.ptr (P.length+1) 0 0) (.sl (P.length+2) 0 (T.ch.length+1)) (outV P (cf T s free r)) (.int .i64 (r:Int)) (.int .i64 (R:Int)) (.int .i64 (r:Int)) ov (.int .i64 (s.order.length:Int)) (.int .i64 0)) _=_:=h3
  have hrun:=qK (free:=free) (n:=T.ch.length) hs (show r<R by omega) (by omega) h3
  unfold s24c at hrun q2 ⊢
  rw [aI,sO,hrun]
  exact q2
end
end Fa
end Tr
namespace Tr
open Go
def t5:MC:=.seq (.seq (.region [⟨none,.mv (.var 11),none⟩,⟨none,.mv (.var 9),none⟩,⟨some 20,.bin .lss (.tmp 0) (.tmp 1),none⟩]) (.cond (.var 20) .skip (.exit 0))) (.seq (.seq (.block 1 (.region [⟨none,.mv (.var 10),none⟩,⟨none,.mv (.var 11),none⟩,⟨none,.indexSl 1 (.tmp 0) (.tmp 1),none⟩,⟨none,.store 1 (.tmp 2) (.cst (.int .i64 (-1))),none⟩])) (.kill [0,3,4,8,12,13,14,15,16,17,18,19,20,21,22,23,24,25])) (.region [⟨none,.mv (.var 11),none⟩,⟨none,.bin .add (.tmp 0) (.cst (.int .i64 1)),none⟩,⟨some 11,.mv (.tmp 1),none⟩]))
def tZ:MC:=.seq (.seq (.region [⟨none,.mv (.var 15),none⟩,⟨none,.mv (.var 9),none⟩,⟨some 22,.bin .leq (.tmp 0) (.tmp 1),none⟩]) (.cond (.var 22) .skip (.exit 2))) (.seq (.seq (.block 3 (.seq (.region [⟨none,.mv (.var 14),none⟩,⟨none,.mv (.var 15),none⟩,⟨none,.indexSl 2 (.tmp 0) (.tmp 1),none⟩,⟨none,.fieldAddr 0 (.tmp 2),none⟩,⟨none,.load false 1 (.tmp 3),none⟩,⟨none,.fieldAddr 1 (.var 7),none⟩,⟨none,.load false 1 (.tmp 5),none⟩,⟨none,.mv (.var 15),none⟩,⟨none,.indexSl 1 (.tmp 6) (.tmp 7),none⟩,⟨none,.load false 1 (.tmp 8),none⟩,⟨some 23,.bin .neq (.tmp 4) (.tmp 9),none⟩]) (.cond (.var 23) (.seq (.region [⟨some 4,.mv (.cst (.bool false)),none⟩]) .ret) .skip))) (.kill [0,3,4,8,11,13,16,17,18,19,20,21,22,23,24,25])) (.region [⟨none,.mv (.var 15),none⟩,⟨none,.bin .add (.tmp 0) (.cst (.int .i64 1)),none⟩,⟨some 15,.mv (.tmp 1),none⟩]))
def tY:MC:=.seq (.seq (.region [⟨none,.mv (.var 17),none⟩,⟨none,.mv (.var 9),none⟩,⟨some 25,.bin .leq (.tmp 0) (.tmp 1),none⟩]) (.cond (.var 25) .skip (.exit 6))) (.seq (.seq (.block 7 (.region [⟨none,.mv (.var 12),none⟩,⟨none,.mv (.var 14),none⟩,⟨none,.mv (.var 17),none⟩,⟨none,.indexSl 2 (.tmp 1) (.tmp 2),none⟩,⟨none,.fieldAddr 0 (.tmp 3),none⟩,⟨none,.load false 1 (.tmp 4),none⟩,⟨none,.mv (.var 14),none⟩,⟨none,.mv (.var 17),none⟩,⟨none,.indexSl 2 (.tmp 6) (.tmp 7),none⟩,⟨none,.fieldAddr 1 (.tmp 8),none⟩,⟨none,.load false 1 (.tmp 9),none⟩,⟨none,.mv (.var 16),none⟩,⟨none,.fieldAddr 0 (.var 7),none⟩,⟨none,.load false 1 (.tmp 12),none⟩,⟨none,.bin .mul (.tmp 11) (.tmp 13),none⟩,⟨none,.bin .add (.tmp 10) (.tmp 14),none⟩,⟨none,.build [.int .i64 0,.int .i64 0] [(0,(1,.tmp 5)),(1,(1,.tmp 15))],none⟩,⟨none,.buildF 2 [.tmp 16],none⟩,⟨none,.append 2 16 (.tmp 0) (.tmp 17),none⟩,⟨some 12,.mv (.tmp 18),none⟩])) (.kill [0,3,4,8,11,13,15,18,19,20,21,22,23,24,25])) (.region [⟨none,.mv (.var 17),none⟩,⟨none,.bin .add (.tmp 0) (.cst (.int .i64 1)),none⟩,⟨some 17,.mv (.tmp 1),none⟩]))
def tX:MC:=.seq (.seq (.region [⟨none,.mv (.var 16),none⟩,⟨none,.mv (.var 2),none⟩,⟨none,.call (.fn 21) [.tmp 1,.cst (.int .i64 6)],none⟩,⟨some 24,.bin .leq (.tmp 0) (.tmp 2),none⟩]) (.cond (.var 24) .skip (.exit 4))) (.seq (.seq (.block 5 (.seq (.region [⟨some 17,.mv (.cst (.int .i64 0)),none⟩]) (.seq (.block 6 (.loop [0,3,4,8,11,13,15,18,19,20,21,22,23,24,25] tY)) (.kill [0,3,4,8,11,13,15,17,18,19,20,21,22,23,24,25])))) (.kill [0,3,4,8,11,13,15,17,18,19,20,21,22,23,24,25])) (.region [⟨none,.mv (.var 16),none⟩,⟨none,.bin .add (.tmp 0) (.cst (.int .i64 1)),none⟩,⟨some 16,.mv (.tmp 1),none⟩]))
def mf6:cA:=⟨3,26,.seq (.region [⟨some 3,.box (.var 0),none⟩,⟨some 4,.mv (.cst (.bool false)),none⟩]) (.seq (.region [⟨none,.call (.fn 11) [],none⟩,⟨some 5,.mv (.tmp 0),none⟩]) (.seq (.region [⟨none,.load true 6 (.var 3),none⟩,⟨none,.call (.fn 13) [.tmp 0],none⟩,⟨none,.mv (.tmp 1),none⟩,⟨none,.extract (.tmp 2) 0,none⟩,⟨none,.extract (.tmp 2) 1,none⟩,⟨none,.extract (.tmp 2) 2,none⟩,⟨some 6,.alloc 5 (.agg [.nilS,.int .i64 0,.int .i64 0,.int .i64 0,.int .i64 0]),none⟩,⟨none,.store 5 (.var 6) (.tmp 3),none⟩,⟨none,.mv (.tmp 4),none⟩,⟨none,.mv (.tmp 5),none⟩]) (.seq (.region [⟨none,.load true 5 (.var 6),none⟩,⟨none,.call (.fn 23) [.tmp 0],none⟩,⟨none,.mv (.tmp 1),none⟩,⟨none,.extract (.tmp 2) 0,none⟩,⟨none,.extract (.tmp 2) 1,none⟩,⟨some 7,.alloc 4 (.agg [.int .i64 0,.nilS,.nilS,.nilS]),none⟩,⟨none,.store 4 (.var 7) (.tmp 3),none⟩,⟨some 8,.mv (.tmp 4),none⟩]) (.seq (.seq (.region [⟨none,.mv (.var 8),none⟩,⟨some 19,.bin .neq (.tmp 0) (.cst (.int .i64 0)),none⟩]) (.cond (.var 19) (.seq (.region [⟨none,.mv (.var 5),none⟩,⟨some 4,.mv (.tmp 0),none⟩]) .ret) .skip)) (.seq (.region [⟨none,.mv (.var 1),none⟩,⟨none,.call (.fn 21) [.tmp 0,.cst (.int .i64 1000)],none⟩,⟨some 1,.mv (.tmp 1),none⟩]) (.seq (.region [⟨none,.fieldAddr 0 (.var 6),none⟩,⟨none,.load false 1 (.tmp 0),none⟩,⟨none,.lenSl (.tmp 1),none⟩,⟨some 9,.mv (.tmp 2),none⟩]) (.seq (.region [⟨none,.mv (.var 9),none⟩,⟨none,.makeSlice 1 8 (.int .i64 0) (.tmp 0) (.tmp 0),none⟩,⟨some 10,.mv (.tmp 1),none⟩]) (.seq (.seq (.region [⟨some 11,.mv (.cst (.int .i64 0)),none⟩]) (.seq (.block 0 (.loop [0,3,4,8,12,13,14,15,16,17,18,19,20,21,22,23,24,25] t5)) (.kill [0,3,4,8,11,12,13,14,15,16,17,18,19,20,21,22,23,24,25]))) (.seq (.region [⟨none,.load true 5 (.var 6),none⟩,⟨none,.load true 4 (.var 7),none⟩,⟨none,.mv (.var 1),none⟩,⟨none,.call (.fn 24) [.tmp 0,.tmp 1,.tmp 2],none⟩,⟨none,.mv (.tmp 3),none⟩,⟨none,.extract (.tmp 4) 0,none⟩,⟨none,.extract (.tmp 4) 1,none⟩,⟨some 12,.mv (.tmp 5),none⟩,⟨some 13,.mv (.tmp 6),none⟩]) (.seq (.seq (.region [⟨none,.mv (.var 13),none⟩,⟨none,.bin .neq (.tmp 0) (.cst (.int .i64 0)),none⟩,⟨none,.mv (.tmp 1),none⟩,⟨none,.mv (.var 12),some (.tmp 2,false)⟩,⟨none,.lenSl (.tmp 3),some (.tmp 2,false)⟩,⟨none,.mv (.var 9),some (.tmp 2,false)⟩,⟨none,.bin .add (.tmp 5) (.cst (.int .i64 1)),some (.tmp 2,false)⟩,⟨none,.bin .lss (.tmp 4) (.tmp 6),some (.tmp 2,false)⟩,⟨none,.pick (.tmp 2) (.cst (.bool true)) (.tmp 7),none⟩,⟨none,.mv (.tmp 8),none⟩,⟨none,.fieldAddr 1 (.var 7),some (.tmp 9,false)⟩,⟨none,.load false 1 (.tmp 10),some (.tmp 9,false)⟩,⟨none,.lenSl (.tmp 11),some (.tmp 9,false)⟩,⟨none,.mv (.var 9),some (.tmp 9,false)⟩,⟨none,.bin .add (.tmp 13) (.cst (.int .i64 1)),some (.tmp 9,false)⟩,⟨none,.bin .neq (.tmp 12) (.tmp 14),some (.tmp 9,false)⟩,⟨some 21,.pick (.tmp 9) (.cst (.bool true)) (.tmp 15),none⟩]) (.cond (.var 21) (.seq (.region [⟨some 4,.mv (.cst (.bool false)),none⟩]) .ret) .skip)) (.seq (.region [⟨none,.buildSlice 2 [],none⟩,⟨none,.mv (.var 12),none⟩,⟨none,.mv (.var 12),none⟩,⟨none,.lenSl (.tmp 2),none⟩,⟨none,.mv (.var 9),none⟩,⟨none,.bin .sub (.tmp 3) (.tmp 4),none⟩,⟨none,.bin .sub (.tmp 5) (.cst (.int .i64 1)),none⟩,⟨none,.sliceSl 2 (.tmp 1) (some (.tmp 6)) none,none⟩,⟨none,.append 2 16 (.tmp 0) (.tmp 7),none⟩,⟨some 14,.mv (.tmp 8),none⟩]) (.seq (.seq (.region [⟨some 15,.mv (.cst (.int .i64 0)),none⟩]) (.seq (.block 2 (.loop [0,3,4,8,11,13,16,17,18,19,20,21,22,23,24,25] tZ)) (.kill [0,3,4,8,11,13,15,16,17,18,19,20,21,22,23,24,25]))) (.seq (.seq (.region [⟨some 16,.mv (.cst (.int .i64 1)),none⟩]) (.seq (.block 4 (.loop [0,3,4,8,11,13,15,17,18,19,20,21,22,23,24,25] tX)) (.kill [0,2,3,4,7,8,9,11,13,14,15,16,17,18,19,20,21,22,23,24,25]))) (.seq (.region [⟨none,.load true 5 (.var 6),none⟩,⟨none,.mv (.var 10),none⟩,⟨none,.mv (.var 1),none⟩,⟨none,.mv (.var 12),none⟩,⟨none,.call (.fn 17) [.tmp 0,.tmp 1,.tmp 2,.tmp 3],none⟩,⟨none,.mv (.tmp 4),none⟩,⟨none,.extract (.tmp 5) 0,none⟩,⟨none,.extract (.tmp 5) 1,none⟩,⟨none,.mv (.tmp 6),none⟩,⟨some 18,.mv (.tmp 7),none⟩]) (.seq (.region [⟨none,.mv (.var 5),none⟩,⟨none,.mv (.tmp 0),none⟩,⟨none,.mv (.var 18),some (.tmp 1,true)⟩,⟨none,.pick (.tmp 1) (.tmp 2) (.cst (.bool false)),none⟩,⟨none,.mv (.tmp 3),none⟩,⟨none,.mv (.var 12),some (.tmp 4,true)⟩,⟨none,.indexSl 2 (.tmp 5) (.cst (.int .i64 0)),some (.tmp 4,true)⟩,⟨none,.load true 2 (.tmp 6),some (.tmp 4,true)⟩,⟨none,.mv (.var 1),some (.tmp 4,true)⟩,⟨none,.fieldAddr 3 (.var 6),some (.tmp 4,true)⟩,⟨none,.load false 1 (.tmp 9),some (.tmp 4,true)⟩,⟨none,.bin .add (.tmp 8) (.tmp 10),some (.tmp 4,true)⟩,⟨none,.build [.int .i64 0,.int .i64 0] [(0,(1,.cst (.int .i64 0))),(1,(1,.tmp 11))],some (.tmp 4,true)⟩,⟨none,.eqAgg false [(0,1),(1,1)] (.tmp 7) (.tmp 12),some (.tmp 4,true)⟩,⟨none,.pick (.tmp 4) (.tmp 13) (.cst (.bool false)),none⟩,⟨some 4,.mv (.tmp 14),none⟩]) .ret))))))))))))))),[.tmp 4]⟩
def n6:List Nat:=[0,3,4,8,11,13,15,18,19,20,21,22,23,24,25]
abbrev Dc (v1 v2 v5 v6 v7 v9 v10 v12 v14 v16 v17:AV):List AV:=[.undef,v1,v2,.undef,.undef,v5,v6,v7,.undef,v9,v10,.undef,v12,.undef,v14,.undef,v16,v17,.undef,.undef,.undef,.undef,.undef,.undef,.undef,.undef]
theorem EJ {d0 v1 v2 d3 d4 v5 v6 v7 d8 v9 v10 d11 v12 d13 v14 d15 v16 v17 d18 d19 d20 d21 d22 d23 d24 d25:AV}:clear n6 [d0,v1,v2,d3,d4,v5,v6,v7,d8,v9,v10,d11,v12,d13,v14,d15,v16,v17,d18,d19,d20,d21,d22,d23,d24,d25]=Dc v1 v2 v5 v6 v7 v9 v10 v12 v14 v16 v17:=by simp only [n6,clear,List.foldl_cons,List.foldl_nil,List.set_cons_zero,List.set_cons_succ]
theorem Js {E:Env} {fuel:Nat} {A:aa} {o:Out} {k:List KC} {d0 v1 v2 d3 d4 v5 v6 v7 d8 v9 v10 d11 v12 d13 v14 d15 v16 v17 d18 d19 d20 d21 d22 d23 d24 d25:AV} (h:bS (evC E fuel tY) n6 fuel (Dc v1 v2 v5 v6 v7 v9 v10 v12 v14 v16 v17) A=some o) :
  run E fuel (.code (.loop [0,3,4,8,11,13,15,18,19,20,21,22,23,24,25] tY) :: k) [d0,v1,v2,d3,d4,v5,v6,v7,d8,v9,v10,d11,v12,d13,v14,d15,v16,v17,d18,d19,d20,d21,d22,d23,d24,d25] A=after E fuel k o:=aV n6 _ _ (by rw [EJ]; exact h)
def n8:List Nat:=[0,3,4,8,12,13,14,15,16,17,18,19,20,21,22,23,24,25]
abbrev we (v1 v2 v5 v6 v7 v9 v10 v11:AV):List AV:=[.undef,v1,v2,.undef,.undef,v5,v6,v7,.undef,v9,v10,v11,.undef,.undef,.undef,.undef,.undef,.undef,.undef,.undef,.undef,.undef,.undef,.undef,.undef,.undef]
theorem EL {d0 v1 v2 d3 d4 v5 v6 v7 d8 v9 v10 v11 d12 d13 d14 d15 d16 d17 d18 d19 d20 d21 d22 d23 d24 d25:AV}:clear n8 [d0,v1,v2,d3,d4,v5,v6,v7,d8,v9,v10,v11,d12,d13,d14,d15,d16,d17,d18,d19,d20,d21,d22,d23,d24,d25]=we v1 v2 v5 v6 v7 v9 v10 v11:=by simp only [n8,clear,List.foldl_cons,List.foldl_nil,List.set_cons_zero,List.set_cons_succ]
theorem Ju {E:Env} {fuel:Nat} {A:aa} {o:Out} {k:List KC} {d0 v1 v2 d3 d4 v5 v6 v7 d8 v9 v10 v11 d12 d13 d14 d15 d16 d17 d18 d19 d20 d21 d22 d23 d24 d25:AV} (h:bS (evC E fuel t5) n8 fuel (we v1 v2 v5 v6 v7 v9 v10 v11) A=some o) :
  run E fuel (.code (.loop [0,3,4,8,12,13,14,15,16,17,18,19,20,21,22,23,24,25] t5) :: k) [d0,v1,v2,d3,d4,v5,v6,v7,d8,v9,v10,v11,d12,d13,d14,d15,d16,d17,d18,d19,d20,d21,d22,d23,d24,d25] A=after E fuel k o:=aV n8 _ _ (by rw [EL]; exact h)
def n7:List Nat:=[0,3,4,8,11,13,16,17,18,19,20,21,22,23,24,25]
abbrev wd (v1 v2 v5 v6 v7 v9 v10 v12 v14 v15:AV):List AV:=[.undef,v1,v2,.undef,.undef,v5,v6,v7,.undef,v9,v10,.undef,v12,.undef,v14,v15,.undef,.undef,.undef,.undef,.undef,.undef,.undef,.undef,.undef,.undef]
theorem EK {d0 v1 v2 d3 d4 v5 v6 v7 d8 v9 v10 d11 v12 d13 v14 v15 d16 d17 d18 d19 d20 d21 d22 d23 d24 d25:AV}:clear n7 [d0,v1,v2,d3,d4,v5,v6,v7,d8,v9,v10,d11,v12,d13,v14,v15,d16,d17,d18,d19,d20,d21,d22,d23,d24,d25]=wd v1 v2 v5 v6 v7 v9 v10 v12 v14 v15:=by simp only [n7,clear,List.foldl_cons,List.foldl_nil,List.set_cons_zero,List.set_cons_succ]
theorem Jt {E:Env} {fuel:Nat} {A:aa} {o:Out} {k:List KC} {d0 v1 v2 d3 d4 v5 v6 v7 d8 v9 v10 d11 v12 d13 v14 v15 d16 d17 d18 d19 d20 d21 d22 d23 d24 d25:AV} (h:bS (evC E fuel tZ) n7 fuel (wd v1 v2 v5 v6 v7 v9 v10 v12 v14 v15) A=some o) :
  run E fuel (.code (.loop [0,3,4,8,11,13,16,17,18,19,20,21,22,23,24,25] tZ) :: k) [d0,v1,v2,d3,d4,v5,v6,v7,d8,v9,v10,d11,v12,d13,v14,v15,d16,d17,d18,d19,d20,d21,d22,d23,d24,d25] A=after E fuel k o:=aV n7 _ _ (by rw [EK]; exact h)
def nZ:List Nat:=[0,3,4,8,11,13,15,17,18,19,20,21,22,23,24,25]
abbrev w9 (v1 v2 v5 v6 v7 v9 v10 v12 v14 v16:AV):List AV:=[.undef,v1,v2,.undef,.undef,v5,v6,v7,.undef,v9,v10,.undef,v12,.undef,v14,.undef,v16,.undef,.undef,.undef,.undef,.undef,.undef,.undef,.undef,.undef]
theorem EI {d0 v1 v2 d3 d4 v5 v6 v7 d8 v9 v10 d11 v12 d13 v14 d15 v16 d17 d18 d19 d20 d21 d22 d23 d24 d25:AV}:clear nZ [d0,v1,v2,d3,d4,v5,v6,v7,d8,v9,v10,d11,v12,d13,v14,d15,v16,d17,d18,d19,d20,d21,d22,d23,d24,d25]=w9 v1 v2 v5 v6 v7 v9 v10 v12 v14 v16:=by simp only [nZ,clear,List.foldl_cons,List.foldl_nil,List.set_cons_zero,List.set_cons_succ]
theorem Jr {E:Env} {fuel:Nat} {A:aa} {o:Out} {k:List KC} {d0 v1 v2 d3 d4 v5 v6 v7 d8 v9 v10 d11 v12 d13 v14 d15 v16 d17 d18 d19 d20 d21 d22 d23 d24 d25:AV} (h:bS (evC E fuel tX) nZ fuel (w9 v1 v2 v5 v6 v7 v9 v10 v12 v14 v16) A=some o) :
  run E fuel (.code (.loop [0,3,4,8,11,13,15,17,18,19,20,21,22,23,24,25] tX) :: k) [d0,v1,v2,d3,d4,v5,v6,v7,d8,v9,v10,d11,v12,d13,v14,d15,v16,d17,d18,d19,d20,d21,d22,d23,d24,d25] A=after E fuel k o:=aV nZ _ _ (by rw [EI]; exact h)
theorem Ln:aE Try.prog Try.f6 3 [0,1,2,3,6,7,8,11,12,13,14,15,16,17,18,19,20,21,23,37,48,77,89,102,106,111] [] true ([[0,3,4,8,12,13,14,15,16,17,18,19,20,21,22,23,24,25],[0,3,4,8,11,13,16,17,18,19,20,21,22,23,24,25],[0,3,4,8,11,13,15,17,18,19,20,21,22,23,24,25],[0,3,4,8,11,13,15,18,19,20,21,22,23,24,25]],[[0,3,4,8,12,13,14,15,16,17,18,19,20,21,22,23,24,25],[0,3,4,8,11,12,13,14,15,16,17,18,19,20,21,22,23,24,25],[0,3,4,8,11,13,16,17,18,19,20,21,22,23,24,25],[0,3,4,8,11,13,15,16,17,18,19,20,21,22,23,24,25],[0,3,4,8,11,13,15,18,19,20,21,22,23,24,25],[0,3,4,8,11,13,15,17,18,19,20,21,22,23,24,25],[0,3,4,8,11,13,15,17,18,19,20,21,22,23,24,25],[0,2,3,4,7,8,9,11,13,14,15,16,17,18,19,20,21,22,23,24,25]])=some mf6:=by kernel_rfl
theorem at6:Try.prog.funcs[6]?=some Try.f6:=by kernel_rfl
end Tr
namespace Tr
open Go
open Cy (GC gE aM bc aB cY dt)
open Clu (aS aT aj chA bH Chk kI isI M64 pP jj aX aZ bP cR bw cn cG cF fH dY kM gI)
def H24:aG:=fun _=>bN (ax GC jJ) 300 z9
theorem Df:an Try.prog GC 24 H24:=(bJ (au xn) rfl M0 Cq (be.cons (M:=_) rfl be.nil)).y
section
open Fa (I7)
variable {T:aS} {chv:AV} {s:bH} {ov sv pv:AV} {free:Int}
open Classical in
theorem Ij (P:aa) (hb:SlA 2 (T.ch.map chA) chv) (hl:T.ch.length<=200) (hs:kI s ov sv pv) (hok:qi T s free) {R:Nat} (hR:kF s.order T.ch.length+1=(R:Int)) :
  bN (ax GC jJ) 300 z9 [aj T chv,aJ s ov sv pv,.int .i64 free] P=some (.tup [Fa.outV P (cf T s free R),.int .i64 0],Fa.A24 P (aj T chv) (aJ s ov sv pv) (inF s.order T.ch.length (T.ch.length+1))++Fa.oR (cf T s free R)):=by
 have m1:=zO hb hl
 have m2:=Clu.oW hb hl hs
 have m3:=dr free 0 2000000
 have ft:=fun A=>aX (T:=T) (fun A n=>hb.frz (A:=A) n) A 3
 have fs:∀A,frz A 4 (aJ s ov sv pv)=aJ s ov sv pv:=fun A=>by
  show AV.agg [_,frz A 3 ov,frz A 3 sv,frz A 3 pv]=_
  rw [hs.o.frz,hs.st.frz,hs.pr.frz]; rfl
 obtain ⟨L,hL⟩:∃L,L=P.length:=⟨_,rfl⟩
 have bx0:a5 5 (aj T chv) P=some (.ptr L 0 0,P++[.row 5 false [aj T chv]]):=by rw [hL]; rfl
 have bx1:a5 4 (aJ s ov sv pv) (P++[.row 5 false [aj T chv]])=some (.ptr (L+1) 0 0,P++[.row 5 false [aj T chv],.row 4 false [aJ s ov sv pv]]):=by
  have e:P++[.row 5 false [aj T chv],.row 4 false [aJ s ov sv pv]]=(P++[Ent.row 5 false [aj T chv]])++[.row 4 false [aJ s ov sv pv]]:=by rw [List.append_assoc]; rfl
  rw [e,hL]
  have:P.length+1=(P++[Ent.row 5 false [aj T chv]]).length:=by simp
  rw [this]; rfl
 have ct:(cellsOf (aj T chv)).length=5:=rfl
 have cs:(cellsOf (aJ s ov sv pv)).length=4:=rfl
 obtain ⟨A0,hA0⟩:∃A:aa,A=P++[.row 5 false [aj T chv],.row 4 false [aJ s ov sv pv]]:=⟨_,rfl⟩
 have hA00:A0[L]?=some (.row 5 false [aj T chv]):=by rw [hA0,hL,List.getElem?_append_right (by omega)]; simp
 have hA01:A0[L+1]?=some (.row 4 false [aJ s ov sv pv]):=by rw [hA0,hL,List.getElem?_append_right (by omega)]; simp
 have lt:ac true 5 A0 (.ptr L 0 0)=some (aj T chv):=by simp only [ac,hA00]; rfl
 have lsA:ac true 4 A0 (.ptr (L+1) 0 0)=some (aJ s ov sv pv):=by simp only [ac,hA01]; rfl
 obtain ⟨t0,lch,_,_,_⟩:=tz (T:=T) (chv:=chv) hA00
 have fa0:=t0 0 (by omega)
 have lnc:=hb.len
 rw [List.length_map] at lnc
 rw [<-hA0] at bx1
 have hagg:(.agg [.int .i64 s.period,ov,sv,pv]:AV)=aJ s ov sv pv:=rfl
 rw [hagg] at m2
 obtain ⟨h1,h2,h3⟩:=hok
 rw [decide_eq_true h1] at m1
 rw [decide_eq_true h2] at m2
 rw [dh.2 h3] at m3
 have hv:=h1.1
 have hn4:=hv.2.2.2.1
 have hk:=sc s.order T.ch.length
 have lpa:=Fa.loop24 (P:=P) (T:=T) (chv:=chv) (free:=free) hs (by rw [(eP h2).1]; omega) (n:=T.ch.length) (by omega) T.ch.length 1 300 (by omega) (by omega) (by omega)
 have hin:inF s.order T.ch.length 1=List.replicate (T.ch.length+1) 0:=by
  unfold inF
  simp [kF,List.replicate_succ]
 rw [hin] at lpa
 have b1:ag .add (.int .i64 (T.ch.length:Int)) (.int .i64 1)=some (.int .i64 ((T.ch.length+1:Nat):Int)):=aW _ (by omega)
 have mk:bU 1 8 (.int .i64 0) A0 (.int .i64 ((T.ch.length+1:Nat):Int)) (.int .i64 ((T.ch.length+1:Nat):Int))=some (.sl (L+2) 0 (T.ch.length+1),Fa.A24 P (aj T chv) (aJ s ov sv pv) (List.replicate (T.ch.length+1) 0)):=by
  simp only [bU]
  rw [if_pos ⟨by omega,by omega,by omega,by omega,rfl,rfl,by omega⟩,Int.toNat_natCast,hA0]
  unfold Fa.A24 ak
  rw [List.map_replicate,List.append_assoc,hL]
  simp
 obtain ⟨lpl,lpc⟩:=Fa.loop24c (P:=P) (chv:=chv) (R:=R) h2 hv hs h3 (by omega) R 0 300 (by omega) (by simp [cf]) (by omega)
 have hf0:cf T s free 0=[]:=rfl
 rw [hf0] at lpc
 have hor:Fa.A24 P (aj T chv) (aJ s ov sv pv) (inF s.order T.ch.length (T.ch.length+1))++Fa.oR []=Fa.A24 P (aj T chv) (aJ s ov sv pv) (inF s.order T.ch.length (T.ch.length+1)):=by
  unfold Fa.oR; rw [if_pos rfl,List.append_nil]
 rw [hor] at lpc
 unfold Fa.s24 at lpa
 unfold Fa.s24c at lpc
 rw [<-hL] at lpa lpc
 have lpc:bS (evC (ax GC jJ) 300 fN) ge 300 (pN (.int .i64 free) (.ptr L 0 0) (.ptr (L+1) 0 0) (.sl (L+2) 0 (T.ch.length+1)) .nilS (.int .i64 (R:Int)) (.int .i64 0)) _=_:=lpc
 have lpa:bS (evC (ax GC jJ) 300 eI) gf 300 (pO (.int .i64 free) (.ptr L 0 0) (.ptr (L+1) 0 0) (.int .i64 (T.ch.length:Int)) (.sl (L+2) 0 (T.ch.length+1)) (.int .i64 1)) _=_:=lpa
 have hrow:=I7 P (aj T chv) (aJ s ov sv pv) (inF s.order T.ch.length (T.ch.length+1))
 rw [<-hL] at hrow
 have i1:=dp (n:=T.ch.length+1) hrow (show T.ch.length<T.ch.length+1 by omega) .i64
 have d1:=jc hrow (show T.ch.length<(inF s.order T.ch.length (T.ch.length+1)).length by rw [kU _ (by omega)]; omega)
 rw [kV s.order (by omega)] at d1
 have b2:ag .add (.int .i64 (kF s.order T.ch.length)) (.int .i64 1)=some (.int .i64 (R:Int)):=by rw [aZ (by omega),hR]
 obtain ⟨l,hll⟩:∃l,l=cf T s free R:=⟨_,rfl⟩
 rw [<-hll] at lpc ⊢
 clear hA00 hA01 hA0 hin hrow t0 lpl hor
 generalize Fa.outV P l=OV1 at *
 generalize Fa.A24 P (aj T chv) (aJ s ov sv pv) (inF s.order T.ch.length (T.ch.length+1))++Fa.oR l=B2 at *
 generalize Fa.A24 P (aj T chv) (aJ s ov sv pv) (inF s.order T.ch.length (T.ch.length+1))=B1 at *
 generalize Fa.A24 P (aj T chv) (aJ s ov sv pv) (List.replicate (T.ch.length+1) 0)=B0 at *
 generalize P++[Ent.row 5 false [aj T chv]]=P1 at *
 generalize aj T chv=tv at *
 generalize aJ s ov sv pv=sA at *
 generalize kF s.order T.ch.length=z at *
 generalize ((T.ch.length+1:Nat):Int)=N1 at *
 generalize hN:(T.ch.length:Int)=N at *
 rw [a9 _ _ rfl]
 simp [z9,bx0,bx1,ct,cs,lt,lsA,m1,m2,m3,ft,fs,aM,fa0,lch,lnc,b1,b2,mk,Cd lpa,Cb lpc,i1,d1,dS,bu,-a5,-ac,-ab,-ai,-aw,-bU,-frz,-cellsOf,-ag,-dr]
end
def fs6:List (FuncId × aG):=(24,H24) :: fsL
@[simp] theorem MG:aC fs6 24=some H24:=rfl
@[simp] theorem MM:aC fs6 11=some (aD 4 M11):=rfl
@[simp] theorem ML:aC fs6 13=some (aD 4 M13):=rfl
@[simp] theorem MK:aC fs6 17=some (aD 4 M17):=rfl
@[simp] theorem MJ:aC fs6 21=some (aD 4 Cy.M12):=rfl
@[simp] theorem MH:aC fs6 23=some (aD 4 Clu.M22):=rfl
theorem FY:∀f M,aC fs6 f=some M->an Try.prog GC f M:=af Df FX
def ngF (n i:Nat):List Int:=rJ (fun _=>-1) (fun _=>0) n i
theorem kR (n i:Nat):(ngF n i).length=n:=Ga _ _ _ _
theorem AH (n:Nat):ngF n n=List.replicate n (-1):=by
 unfold ngF
 rw [Gb]
 apply List.ext_getElem
 ·simp
 ·intro i _ _; simp
theorem AG (n:Nat):ngF n 0=List.replicate n 0:=by
 apply List.ext_getElem
 ·simp [ngF,rJ]
 ·intro i _ _; simp [ngF,rJ]
theorem Ej {B:aa} (hB:B.length=3) {n:Nat} (hn:n<=1000) (v1 v2 v5 v6 v7:AV):∀(c i m:Nat),i+c=n->c<m ->
  bS (evC (ax GC fs6) 300 t5) n8 m (we v1 v2 v5 v6 v7 (.int .i64 (n:Int)) (.sl 3 0 n) (.int .i64 (i:Int))) (B++[.row 1 false (ak (ngF n i))]) =
   some (.exit 0 ((we v1 v2 v5 v6 v7 (.int .i64 (n:Int)) (.sl 3 0 n) (.int .i64 (n:Int))).set 20 (.bool false)) (B++[.row 1 false (ak (ngF n n))])):=by
 intro c
 induction c with
 | zero=>
  intro i m hi hm
  obtain ⟨m,rfl⟩:∃j,m=j+1:=⟨m-1,by omega⟩
  obtain rfl:i=n:=by omega
  have b2:=bh i i .i64
  rw [decide_eq_false (by omega)] at b2
  rw [aI,EL]
  generalize B++[Ent.row 1 false (ak (ngF i i))]=B1 at *
  simp [t5,b2,-ag]
 | succ c ih=>
  intro i m hi hm
  obtain ⟨m,rfl⟩:∃j,m=j+1:=⟨m-1,by omega⟩
  have ih:=ih (i+1) m (by omega) (by omega)
  have b0:=bh i n .i64
  rw [decide_eq_true (by omega)] at b0
  have b1:=aW i (by omega)
  have hrow:(B++[Ent.row 1 false (ak (ngF n i))])[3]?=some (.row 1 false (ak (ngF n i))):=by rw [List.getElem?_append_right (by omega),hB]; rfl
  have i0:=dp (n:=n) hrow (show i<n by omega) .i64
  have s0:=jO hrow (show i<(ngF n i).length by rw [kR]; omega) (-1)
  rw [List.set_append_right _ _ (by omega),hB,show (ngF n i).set i (-1)=ngF n (i+1) from F9 _ _ (by omega)] at s0
  have s0:aA 1 (B++[.row 1 false (ak (ngF n i))]) (.ptr 3 i 0) (.int .i64 (-1))=some (B++[.row 1 false (ak (ngF n (i+1)))]):=s0
  rw [aI,EL]
  obtain ⟨j,hj⟩:∃j,j=i+1:=⟨_,rfl⟩
  rw [<-hj] at ih b1 s0
  have e:run (ax GC fs6) 300 [.code t5] (we v1 v2 v5 v6 v7 (.int .i64 (n:Int)) (.sl 3 0 n) (.int .i64 (i:Int))) (B++[.row 1 false (ak (ngF n i))])=some (.normal (we v1 v2 v5 v6 v7 (.int .i64 (n:Int)) (.sl 3 0 n) (.int .i64 (j:Int))) (B++[.row 1 false (ak (ngF n j))])):=by
   clear hrow
   generalize B++[Ent.row 1 false (ak (ngF n i))]=B1 at *
   generalize B++[Ent.row 1 false (ak (ngF n j))]=B2 at *
   simp [t5,b0,b1,i0,s0,-ag,-aA,-ai]
  rw [e]
  exact ih
def shT (p:Int) (r:Nat) (t:cz):cz:=(t.1,t.2+(r:Int)*p)
def X6 (X:aa) (g:Bool) (l:List cz):aa:=X.set 7 (.row 2 g (l.map aU))
structure F6 (X:aa) (s:bH) (last:List cz):Prop where
 s:X[2]?=some (.row 4 false [kM s])
 l:X[9]?=some (.row 2 false (last.map aU))
 n:10<=X.length
theorem zG {X:aa} {g:Bool} {l:List cz} {j:Nat} (h:j≠7):(X6 X g l)[j]?=X[j]?:=List.getElem?_set_ne (fun e=>h e.symm)
theorem CJ {X:aa} (hX:10<=X.length) (g:Bool) (l:List cz):(X6 X g l)[7]?=some (.row 2 g (l.map aU)):=List.getElem?_set_self (by omega)
theorem zH {X:aa} (hX:10<=X.length) (g:Bool) {l:List cz} (hne:l≠[]) (hl:l.length<=1000) (t:cz) :
  aK 2 16 (X6 X g l) (.sl 7 0 l.length) (.fs 2 [aU t])=some (.sl 7 0 (l++[t]).length,X6 X true (l++[t])):=by
 have hz:l.length≠0:=fun e=>hne (List.length_eq_zero_iff.1 e)
 simp only [aK,cM,CJ hX,List.length_map,List.length_singleton]
 rw [if_pos ⟨trivial,by omega,by omega,by omega⟩,if_pos ⟨trivial,trivial,hz⟩]
 unfold X6
 rw [List.set_set]
 simp
theorem Mq {X:aa} {id:Nat} {g:Bool} {l:List cz} (h:X[id]?=some (.row 2 g (l.map aU))) {i:Nat} {t:cz} (ht:l[i]?=some t):ab 0 X (.ptr id i 0)=some (.ptr id i 0)/\ab 1 X (.ptr id i 0)=some (.ptr id i 1)/\ac false 1 X (.ptr id i 0)=some (.int .i64 t.1)/\ac false 1 X (.ptr id i 1)=some (.int .i64 t.2):=by
 have e:(l.map aU)[i]?=some (aU t):=by rw [List.getElem?_map,ht]; rfl
 refine ⟨by simp [ab,h],by simp [ab,h],?_,?_⟩
 ·simp only [ac,h,e]; rfl
 ·simp only [ac,h,e]; rfl
theorem Jj {X:aa} {s:bH} (h:X[2]?=some (.row 4 false [kM s])):ab 0 X (.ptr 2 0 0)=some (.ptr 2 0 0)/\ab 1 X (.ptr 2 0 0)=some (.ptr 2 0 1)/\ac false 1 X (.ptr 2 0 0)=some (.int .i64 s.period)/\ac false 1 X (.ptr 2 0 1)=some (slA 1 (ak s.order)):=by
 refine ⟨by simp [ab,h],by simp [ab,h],?_,?_⟩
 ·exact gx (k:=4) (es:=[.int .i64 s.period,slA 1 (ak s.order),slA 1 (ak s.starts),slA 1 (ak s.proof)]) h rfl
 ·exact gx (k:=4) (es:=[.int .i64 s.period,slA 1 (ak s.order),slA 1 (ak s.starts),slA 1 (ak s.proof)]) h rfl
section
variable {X:aa} {s:bH} {last:List cz}
theorem Ei (hF:F6 X s last) {n:Nat} (hl:last.length=n+1) (hn:n<=100) (hm:last.map (·.1)=s.order) (v1 v2 v5 v6 v10 v12:AV):∀(c i m:Nat),i+c=n+1->c<m ->
  bS (evC (ax GC fs6) 300 tZ) n7 m (wd v1 v2 v5 v6 (.ptr 2 0 0) (.int .i64 (n:Int)) v10 v12 (.sl 9 0 (n+1)) (.int .i64 (i:Int))) X =
   some (.exit 2 ((wd v1 v2 v5 v6 (.ptr 2 0 0) (.int .i64 (n:Int)) v10 v12 (.sl 9 0 (n+1)) (.int .i64 ((n+1:Nat):Int))).set 22 (.bool false)) X):=by
 intro c
 induction c with
 | zero=>
  intro i m hi hm
  obtain ⟨m,rfl⟩:∃j,m=j+1:=⟨m-1,by omega⟩
  obtain rfl:i=n+1:=by omega
  have b2:=cF ((n+1:Nat):Int) (n:Int)
  rw [decide_eq_false (by omega)] at b2
  rw [aI,EK]
  generalize ((n+1:Nat):Int)=n1 at *
  simp [tZ,b2,-ag]
 | succ c ih=>
  intro i m hi hm'
  obtain ⟨m,rfl⟩:∃j,m=j+1:=⟨m-1,by omega⟩
  have ih:=ih (i+1) m (by omega) (by omega)
  have b0:=cF (i:Int) (n:Int)
  rw [decide_eq_true (by omega)] at b0
  have b1:=aW i (by omega)
  have hil:i<last.length:=by omega
  have ht:last[i]?=some last[i]:=List.getElem?_eq_getElem hil
  obtain ⟨f0,_,l0,_⟩:=Mq hF.l ht
  have x0:=Ey (n:=n+1) hF.l (show i<n+1 by omega)
  obtain ⟨_,g1,_,g3⟩:=Jj hF.s
  have hio:i<s.order.length:=by rw [<-hm,List.length_map]; exact hil
  have eo:s.order[i]=last[i].1:=by
   have:s.order[i]?=some last[i].1:=by rw [<-hm,List.getElem?_map,ht]; rfl
   rw [List.getElem?_eq_getElem hio] at this
   injection this
  have x1:=(bb 1 (ak s.order)).int (A:=X) _ _ (List.getElem?_eq_getElem hio) .i64
  rw [eo] at x1
  have l1:∀A z,ac false 1 A (.fp [.int .i64 z])=some (.int .i64 z):=fun _ _=>rfl
  have b3:=cR last[i].1 last[i].1
  rw [decide_eq_false (by simp)] at b3
  rw [aI,EK]
  obtain ⟨w,hw⟩:∃w,w=((i+1:Nat):Int):=⟨_,rfl⟩
  rw [<-hw] at b1 ih
  have e:run (ax GC fs6) 300 [.code tZ] (wd v1 v2 v5 v6 (.ptr 2 0 0) (.int .i64 (n:Int)) v10 v12 (.sl 9 0 (n+1)) (.int .i64 (i:Int))) X=some (.normal (wd v1 v2 v5 v6 (.ptr 2 0 0) (.int .i64 (n:Int)) v10 v12 (.sl 9 0 (n+1)) (.int .i64 w)) X):=by
   clear ih eo ht hio
   generalize last[i].1=t1 at *
   simp [tZ,b0,b1,x0,f0,l0,g1,g3,x1,l1,b3,-ag,-ac,-ai,-ab]
  rw [e]
  exact ih
abbrev s6c (v1 v2 v5 v6:AV) (n:Nat) (v10:AV) (l:List cz) (r i:Nat):List AV:=Dc v1 v2 v5 v6 (.ptr 2 0 0) (.int .i64 (n:Int)) v10 (.sl 7 0 l.length) (.sl 9 0 (n+1)) (.int .i64 (r:Int)) (.int .i64 (i:Int))
theorem DP (hF:F6 X s last) {n:Nat} (_hl:last.length=n+1) (hn:n<=100) (hp:0<=s.period/\s.period<=1000000) (hlt:∀t∈last,-10000000000<=t.2/\t.2<=10000000000) (v1 v2 v5 v6 v10:AV) {r:Nat} (hr:r<=100) (g:Bool) {l:List cz} (hne:l≠[]) (hll:l.length<=900) {i:Nat} (hi:i<=n) {t:cz} (ht:last[i]?=some t) :
  run (ax GC fs6) 300 [.code tY] (s6c v1 v2 v5 v6 n v10 l r i) (X6 X g l)=some (.normal (s6c v1 v2 v5 v6 n v10 (l++[shT s.period r t]) r (i+1)) (X6 X true (l++[shT s.period r t]))):=by
 have hb:=hlt t (List.mem_of_getElem? ht)
 have b0:=cF (i:Int) (n:Int)
 rw [decide_eq_true (by omega)] at b0
 have b1:=aW i (by omega)
 have hL:(X6 X g l)[9]?=some (.row 2 false (last.map aU)):=by rw [zG (by omega)]; exact hF.l
 have hS:(X6 X g l)[2]?=some (.row 4 false [kM s]):=by rw [zG (by omega)]; exact hF.s
 obtain ⟨f0,f1,l0,l1⟩:=Mq hL ht
 have x0:=Ey (n:=n+1) hL (show i<n+1 by omega)
 obtain ⟨g0,_,g2,_⟩:=Jj hS
 have hm:0<=(r:Int)*s.period/\(r:Int)*s.period<=100*1000000:=⟨Int.mul_nonneg (by omega) (by omega),Int.mul_le_mul (by omega) (by omega) (by omega) (by omega)⟩
 have b2:=ES (r:Int) s.period (by unfold inI; omega)
 have b3:ag .add (.int .i64 t.2) (.int .i64 ((r:Int)*s.period))=some (.int .i64 (t.2+(r:Int)*s.period)):=aZ (by omega)
 have ap0:=zH hF.n g hne (by omega) (shT s.period r t)
 have ap:aK 2 16 (X6 X g l) (.sl 7 0 l.length) (.fs 2 [.agg [.int .i64 t.1,.int .i64 (t.2+(r:Int)*s.period)]])=_:=ap0
 unfold s6c
 obtain ⟨w,hw⟩:∃w,w=((i+1:Nat):Int):=⟨_,rfl⟩
 rw [<-hw] at b1 ⊢
 clear hL hS ap0
 generalize X6 X true (l++[shT s.period r t])=B1 at *
 generalize X6 X g l=B0 at *
 generalize (l++[shT s.period r t]).length=L1 at *
 generalize l.length=L0 at *
 generalize t.2+(r:Int)*s.period=z2 at *
 generalize (r:Int)*s.period=z1 at *
 generalize s.period=pp at *
 simp [tY,b0,b1,b2,b3,x0,f0,f1,l0,l1,g0,g2,ap,-ag,-ac,-ai,-ab]
theorem Gs (hF:F6 X s last) {n:Nat} (hl:last.length=n+1) (hn:n<=100) (hp:0<=s.period/\s.period<=1000000) (hlt:∀t∈last,-10000000000<=t.2/\t.2<=10000000000) (v1 v2 v5 v6 v10:AV) {r:Nat} (hr:r<=100):∀(c i m:Nat) (g:Bool) (l:List cz),i+c=n+1->c<m->l≠[]->l.length+c<=900 ->
  ∃g',bS (evC (ax GC fs6) 300 tY) n6 m (s6c v1 v2 v5 v6 n v10 l r i) (X6 X g l)=some (.exit 6 ((s6c v1 v2 v5 v6 n v10 (l++(last.drop i).map (shT s.period r)) r (n+1)).set 25 (.bool false)) (X6 X g' (l++(last.drop i).map (shT s.period r)))):=by
 intro c
 induction c with
 | zero=>
  intro i m g l hi hm hne hll
  obtain ⟨m,rfl⟩:∃j,m=j+1:=⟨m-1,by omega⟩
  obtain rfl:i=n+1:=by omega
  refine ⟨g,?_⟩
  rw [<-hl,List.drop_length,List.map_nil,List.append_nil,hl]
  have b2:=cF ((n+1:Nat):Int) (n:Int)
  rw [decide_eq_false (by omega)] at b2
  unfold s6c
  rw [aI,EJ]
  generalize ((n+1:Nat):Int)=n1 at *
  generalize X6 X g l=B at *
  simp [tY,b2,-ag]
 | succ c ih=>
  intro i m g l hi hm hne hll
  obtain ⟨m,rfl⟩:∃j,m=j+1:=⟨m-1,by omega⟩
  have hil:i<last.length:=by omega
  have hr1:=DP hF hl hn hp hlt v1 v2 v5 v6 v10 hr g hne (by omega) (show i<=n by omega) (List.getElem?_eq_getElem hil)
  obtain ⟨g',h⟩:=ih (i+1) m true (l++[shT s.period r last[i]]) (by omega) (by omega) (by simp) (by simp; omega)
  refine ⟨g',?_⟩
  rw [List.drop_eq_getElem_cons hil,List.map_cons]
  rw [List.append_assoc] at h
  unfold s6c at hr1 h ⊢
  rw [aI,EJ,hr1]
  exact h
abbrev s6d (v1:AV) (cy:Int) (v5 v6:AV) (n:Nat) (v10:AV) (l:List cz) (r:Nat):List AV:=w9 v1 (.int .i64 cy) v5 v6 (.ptr 2 0 0) (.int .i64 (n:Int)) v10 (.sl 7 0 l.length) (.sl 9 0 (n+1)) (.int .i64 (r:Int))
theorem Gr (hF:F6 X s last) {n:Nat} (hl:last.length=n+1) (hn:n<=10) (hp:0<=s.period/\s.period<=1000000) (hlt:∀t∈last,-10000000000<=t.2/\t.2<=10000000000) (v1 v5 v6 v10:AV) {cy:Int} (hcy:inI cy) {C:Nat} (hC:pick cy 6=(C:Int)) {f:Nat->List cz} (hf:∀r,f (r+1)=f r++last.map (shT s.period r)) (hne:∀r,1<=r->f r≠[]) (hfl:∀r,r<=10->(f r).length<=800):∀(c r m:Nat) (g:Bool),r+c=C+1->1<=r->c<m ->
  ∃g',bS (evC (ax GC fs6) 300 tX) nZ m (s6d v1 cy v5 v6 n v10 (f r) r) (X6 X g (f r))=some (.exit 4 ((s6d v1 cy v5 v6 n v10 (f (C+1)) (C+1)).set 24 (.bool false)) (X6 X g' (f (C+1)))):=by
 have hC5:=cW cy 6 (by omega)
 intro c
 have m12:=dt hcy (n:=6) (by omega)
 rw [hC] at m12
 induction c with
 | zero=>
  intro r m g hr h1 hm
  obtain ⟨m,rfl⟩:∃j,m=j+1:=⟨m-1,by omega⟩
  obtain rfl:r=C+1:=by omega
  refine ⟨g,?_⟩
  have b2:=cF ((C+1:Nat):Int) (C:Int)
  rw [decide_eq_false (by omega)] at b2
  unfold s6d
  rw [aI,EI]
  generalize ((C+1:Nat):Int)=C1 at *
  generalize X6 X g (f (C+1))=B at *
  simp [tX,m12,b2,aM,-ag,-frz]
 | succ c ih=>
  intro r m g hr h1 hm
  obtain ⟨m,rfl⟩:∃j,m=j+1:=⟨m-1,by omega⟩
  have hfr:=hfl r (by omega)
  obtain ⟨g1,lp⟩:=Gs hF hl (by omega) hp hlt v1 (.int .i64 cy) v5 v6 v10 (r:=r) (by omega) (n+1) 0 300 g (f r) (by omega) (by omega) (hne r h1) (by omega)
  rw [List.drop_zero,<-hf] at lp
  unfold s6c at lp
  rw [show ((0:Nat):Int)=0 from rfl] at lp
  obtain ⟨g',h⟩:=ih (r+1) m g1 (by omega) (by omega) (by omega)
  refine ⟨g',?_⟩
  have b2:=cF (r:Int) (C:Int)
  rw [decide_eq_true (by omega)] at b2
  have b1:=aW r (by omega)
  unfold s6d at h ⊢
  rw [aI,EI]
  obtain ⟨w,hw⟩:∃w,w=((r+1:Nat):Int):=⟨_,rfl⟩
  rw [<-hw] at b1 h
  have e:run (ax GC fs6) 300 [.code tX] (w9 v1 (.int .i64 cy) v5 v6 (.ptr 2 0 0) (.int .i64 (n:Int)) v10 (.sl 7 0 (f r).length) (.sl 9 0 (n+1)) (.int .i64 (r:Int))) (X6 X g (f r))=some (.normal (w9 v1 (.int .i64 cy) v5 v6 (.ptr 2 0 0) (.int .i64 (n:Int)) v10 (.sl 7 0 (f (r+1)).length) (.sl 9 0 (n+1)) (.int .i64 w)) (X6 X g1 (f (r+1)))):=by
   clear h ih
   generalize X6 X g1 (f (r+1))=B1 at *
   generalize X6 X g (f r)=B at *
   generalize (f (r+1)).length=L1 at *
   generalize (f r).length=L0 at *
   simp [tX,m12,b1,b2,Js lp,aM,-ag,-frz]
  rw [e]
  exact h
end
end Tr
namespace Tr
open Go
open Cy (GC aM bc aB dt)
open Clu (aS aT aj chA bH Chk kI aX aZ bP cR bw cn cG cF fH dY kM gI)
theorem ow {T:aS} {s:bH} (hc:Chk T s) (free:Int):∀R:Nat,∃rest,cf T s free (R+1)=(0,free+T.travel) :: rest
 | 0=>by
  have hO:=iS hc.1
  obtain ⟨a,r,ho⟩:∃a r,s.order=a :: r:=by
   cases h:s.order with
   | nil=>have:=hO.len; rw [h] at this; simp at this
   | cons a r=>exact ⟨a,r,rfl⟩
  have ha:a=0:=by have:=hO.z; rw [ho] at this; exact this
  subst ha
  obtain ⟨p,hp⟩:∃p:Int->Bool,p=fun t=>decide (kF s.order t.toNat<=((0:Nat):Int)):=⟨_,rfl⟩
  have hp0:p 0=true:=by rw [hp]; simp [kF]
  refine ⟨(r.filter p).map (tk T s free 0),?_⟩
  rw [iF]
  show []++(s.order.filter fun t=>decide (kF s.order t.toNat<=((0:Nat):Int))).map (tk T s free 0)=_
  rw [<-hp,List.nil_append,ho,List.filter_cons,if_pos hp0,List.map_cons]
  congr 1
  refine Prod.ext rfl ?_
  show bsF T s free+((0:Nat):Int)*s.period+stD s 0=free+T.travel
  unfold bsF
  rw [show ((0:Nat):Int)*s.period=0 from Int.zero_mul _]
  omega
 | R+1=>by
  obtain ⟨rest,h⟩:=ow hc free R
  exact ⟨rest++cyc T s free (R+1),by rw [iF,h]; rfl⟩
theorem wJ {esz bytes:Nat} (he:0<esz) (hb:0<bytes) {A:aa} {N:Nat} (hN:N=A.length) {xs:List AV} {xv:AV} (hs:aQ esz (A++[.row esz false []]) xv=some xs) (hl:xs.length*bytes<=140737488355328):aK esz bytes (A++[.row esz false []]) (.sl N 0 0) xv=some (.sl (N+1) 0 xs.length,A++[.dead,.row esz false xs]):=by
 subst hN
 have hr:(A++[Ent.row esz false []])[A.length]?=some (.row esz false []):=by simp
 simp only [aK,hs,hr]
 rw [if_pos ⟨trivial,he,hb,by rw [Nat.zero_add]; exact hl⟩,if_neg (by simp)]
 simp
theorem C9 {L n off:Nat} (h:L=off+(n+1)):(L:Int)-n-1=off:=by omega
theorem An {L n off:Nat} (h:L=off+(n+1)):L-off=n+1:=by omega
theorem Am {L n off:Nat} (h:L=off+(n+1)):off<=L:=by omega
theorem Fv {L n off:Nat} (h:L=off+(n+1)) (ho:off<=1000) : -9223372036854775808<=(L:Int)-n-1/\(L:Int)-n-1<=9223372036854775807:=by omega
theorem F3 (T:aS) (s:bH) (free:Int) (k r:Nat) (t:Int):(shT s.period r ∘ tk T s free k) t=tk T s free (k+r) t:=by
 refine Prod.ext rfl ?_
 show bsF T s free+(k:Int)*s.period+stD s t.toNat+(r:Int)*s.period=bsF T s free+((k+r:Nat):Int)*s.period+stD s t.toNat
 rw [show ((k+r:Nat):Int)=(k:Int)+r by omega,Int.add_mul]
 omega
theorem EF (a b:Int):eu false [(0,1),(1,1)] (.agg [.int .i64 a,.int .i64 b]) (.agg [.int .i64 a,.int .i64 b])=some (.bool true):=by
 simp only [eu,kB,eqK]
 simp
theorem ev6 {x:XC} {yv rv:AV} (h:XV x yv rv) {f0:Int} (hf0:inI f0) {cy:Int} (hcy:inI cy):evP (ax GC fs6) 300 mf6 1 [x.A yv rv,.int .i64 f0,.int .i64 cy]=some (.bool true):=by
 obtain ⟨A0,Az,s0,s1,s2,s3,s4,s5,s6,s7⟩:=I4 h
 have mB:=Clu.zR x.chS x.chl
 rw [show aj x.T x.ch=x.tv from rfl] at mB
 have f1:∀A,frz A 4 x.tv=x.tv:=x.tfrz
 have n1:=x.tref
 obtain ⟨B1,hB1⟩:∃B,B=B0 x yv rv:=⟨_,rfl⟩
 have lt:=Mh x yv rv []
 rw [List.append_nil,<-hB1] at lt
 rw [<-hB1] at s7
 cases hb:fH x.T with
 | none=>
  rw [hb] at mB
  have mB':Clu.M22 [x.tv]=some (.tup [zSA,.int .i64 130]):=mB
  have bz:a5 4 zSA B1=some (.ptr 2 0 0,B1++[.row 4 false [zSA]]):=by rw [hB1]; rfl
  have bs:aA 4 (B1++[.row 4 false [zSA]]) (.ptr 2 0 0) zSA=some (B1++[.row 4 false [zSA]]):=by rw [hB1]; rfl
  clear mB
  generalize B1++[.row 4 false [zSA]]=B2 at *
  unfold r6 at s2
  generalize x.tv=TV at *
  generalize x.rv=RV at *
  generalize x.A yv rv=XA at *
  rw [aO _ _ rfl]
  simp [mf6,s0,s1,s2,s3,s4,s5,s6,s7,mB',f1,n1,lt,bz,bs,bc,-a5,-aA,-ac,-frz,-cellsOf]
 | some s=>
  rw [hb] at mB
  have hc:=dY hb
  have hs:=gI hc
  obtain ⟨c1,c2,c3,c4,c5⟩:=eP hc
  have hv:=x.sit.1.1
  have hb1:=x.sit.1.2
  have hn4:=x.nb
  unfold XC.n at hn4
  have mB':Clu.M22 [x.tv]=some (.tup [kM s,.int .i64 0]):=mB
  have bz:a5 4 zSA B1=some (.ptr 2 0 0,B1++[.row 4 false [zSA]]):=by rw [hB1]; rfl
  obtain ⟨S,hS⟩:∃S,S=B1++[Ent.row 4 false [kM s]]:=⟨_,rfl⟩
  have bs:aA 4 (B1++[.row 4 false [zSA]]) (.ptr 2 0 0) (kM s)=some S:=by rw [hS,hB1]; rfl
  have hSl:S.length=3:=by rw [hS,hB1]; rfl
  have hS1:S[1]?=some (.row 5 false [x.tv]):=by rw [hS,hB1]; rfl
  have hS2:S[2]?=some (.row 4 false [kM s]):=by rw [hS,hB1]; rfl
  have fS:=fun A=>xp s A 3
  have m12:=dt hf0 (n:=1000) (by omega)
  have hF:=cW f0 1000 (by omega)
  obtain ⟨F,hFe⟩:∃F,F=pick f0 1000:=⟨_,rfl⟩
  rw [<-hFe] at m12 hF
  obtain ⟨t0,t1,_,_,_⟩:=tz (T:=x.T) (chv:=x.ch) hS1
  have t00:=t0 0 (by omega)
  have lc:=x.chS.len
  rw [List.length_map] at lc
  obtain ⟨n,hn⟩:∃n,n=x.T.ch.length:=⟨_,rfl⟩
  rw [<-hn] at lc c1 c2 hn4
  have mk:bU 1 8 (.int .i64 0) S (.int .i64 (n:Int)) (.int .i64 (n:Int))=some (.sl 3 0 n,S++[.row 1 false (ak (ngF n 0))]):=by
   simp only [bU]
   rw [if_pos ⟨by omega,by omega,by omega,by omega,rfl,rfl,by omega⟩,Int.toNat_natCast,hSl,AG]
   unfold ak
   rw [List.map_replicate]
  have lp0:=Ej hSl (n:=n) (by omega) (.int .i64 F) (.int .i64 cy) (.bool true) (.ptr 1 0 0) (.ptr 2 0 0) n 0 300 (by omega) (by omega)
  rw [show ((0:Nat):Int)=0 from rfl] at lp0
  obtain ⟨Q,hQ⟩:∃Q,Q=S++[Ent.row 1 false (ak (ngF n n))]:=⟨_,rfl⟩
  rw [<-hQ] at lp0
  have hQl:Q.length=4:=by rw [hQ,List.length_append,hSl]; rfl
  have hQj:∀j,j<3->Q[j]?=S[j]?:=fun j hj=>by rw [hQ,List.getElem?_append_left (by omega)]
  have hQ3:Q[3]?=some (.row 1 false (ak (ngF n n))):=by rw [hQ,List.getElem?_append_right (by omega),hSl]; rfl
  have ltQ:ac true 5 Q (.ptr 1 0 0)=some x.tv:=by
   have:Q[1]?=some (.row 5 false [x.tv]):=by rw [hQj 1 (by omega)]; exact hS1
   simp only [ac,this]; rfl
  have lsQ:ac true 4 Q (.ptr 2 0 0)=some (kM s):=by
   have:Q[2]?=some (.row 4 false [kM s]):=by rw [hQj 2 (by omega)]; exact hS2
   simp only [ac,this]; rfl
  have hk:=sc s.order n
  obtain ⟨k,hkk⟩:∃k:Nat,kF s.order n=k:=⟨(kF s.order n).toNat,by omega⟩
  have hok:qi x.T s F:=⟨⟨hv,hb1⟩,hc,by omega,by omega⟩
  have h24:=Ij (free:=F) Q x.chS x.chl hs hok (R:=k+1) (by rw [<-hn,hkk]; rfl)
  obtain ⟨l,hl⟩:∃l,l=cf x.T s F (k+1):=⟨_,rfl⟩
  rw [<-hl] at h24
  obtain ⟨last,hlast⟩:∃last,last=s.order.map (tk x.T s F k):=⟨_,rfl⟩
  have hll:last.length=n+1:=by rw [hlast,List.length_map,c1]
  have hsplit:l=cf x.T s F k++last:=by rw [hl,iF,vD hc F (by rw [<-hn]; omega),hlast]
  have hlen:=gV hc F k
  rw [<-hn] at hlen
  have hk4:k<=4:=by omega
  have hmul:(n+1)*k<=5*4:=Nat.mul_le_mul (by omega) hk4
  have hlne:l≠[]:=by
   intro e
   have:l.length=(cf x.T s F k).length+last.length:=by rw [hsplit,List.length_append]
   rw [e,hll] at this
   simp at this
  have hln:l.length=(cf x.T s F k).length+(n+1):=by rw [hsplit,List.length_append,hll]
  obtain ⟨B,hB⟩:∃B,B=Fa.A24 Q (aj x.T x.ch) (aJ s (slA 1 (ak s.order)) (slA 1 (ak s.starts)) (slA 1 (ak s.proof))) (inF s.order x.T.ch.length (x.T.ch.length+1))++Fa.oR l:=⟨_,rfl⟩
  rw [<-hB] at h24
  have eR:Fa.oR l=[.row 2 (decide (1<l.length)) (l.map aU)]:=if_neg hlne
  have eV:Fa.outV Q l=.sl 7 0 l.length:=by
   show (if l=[] then AV.nilS else .sl (Q.length+3) 0 l.length)=_
   rw [if_neg hlne,hQl]
  rw [eV] at h24
  have h24':∀hh,H24 hh [x.tv,kM s,.int .i64 F] Q=some (.tup [.sl 7 0 l.length,.int .i64 0],B):=fun _=>h24
  have hAl:=Fa.A24_len Q (aj x.T x.ch) (aJ s (slA 1 (ak s.order)) (slA 1 (ak s.starts)) (slA 1 (ak s.proof))) (inF s.order x.T.ch.length (x.T.ch.length+1))
  have hBl:B.length=8:=by rw [hB,eR,List.length_append,hAl,hQl]; rfl
  have hBj:∀j,j<4->B[j]?=Q[j]?:=fun j hj=>by
   rw [hB,List.getElem?_append_left (by omega)]
   unfold Fa.A24
   rw [List.getElem?_append_left (by omega)]
  have hB7:B[7]?=some (.row 2 (decide (1<l.length)) (l.map aU)):=by
   rw [hB,eR,List.getElem?_append_right (by omega),hAl,hQl]; rfl
  have hB2:B[2]?=some (.row 4 false [kM s]):=by rw [hBj 2 (by omega),hQj 2 (by omega)]; exact hS2
  obtain ⟨_,fO,_,lO⟩:=Jj hB2
  have lo:=(bb 1 (ak s.order)).len
  rw [aB,c1] at lo
  have bn1:=aW n (by omega)
  have b1:=bh l.length (n+1) .i64
  rw [decide_eq_false (by omega)] at b1
  have b2:=cR ((n+1:Nat):Int) ((n+1:Nat):Int)
  rw [decide_eq_false (by simp)] at b2
  have b00:=cR 0 0
  rw [decide_eq_false (by simp)] at b00
  have lnl:aw (.sl 7 0 l.length)=some (.int .i64 (l.length:Int)):=rfl
  have bs2:bY 2 [] B=some (.sl 8 0 0,B++[.row 2 false []]):=by simp [bY,hBl]
  have b3:ag .sub (.int .i64 (l.length:Int)) (.int .i64 (n:Int))=some (.int .i64 ((l.length:Int)-n)):=bP (by omega)
  obtain ⟨off,hoff⟩:∃off,off=(cf x.T s F k).length:=⟨_,rfl⟩
  rw [<-hoff] at hln hlen
  have hoff2:off<=1000:=by omega
  have b4:ag .sub (.int .i64 ((l.length:Int)-n)) (.int .i64 1)=some (.int .i64 (off:Int)):=by rw [bP (Fv hln hoff2),C9 hln]
  have hBr7:(B++[Ent.row 2 false []])[7]?=some (.row 2 (decide (1<l.length)) (l.map aU)):=by rw [List.getElem?_append_left (by omega)]; exact hB7
  have sl:cC 2 (B++[.row 2 false []]) (some (.int .i64 (off:Int))) none (.sl 7 0 l.length)=some (.sl 7 off (n+1)):=by
   simp only [cC,hBr7]
   rw [if_pos trivial]
   have e:l.length-off=n+1:=An hln
   have e2:off<=l.length:=Am hln
   simp [da,e,e2]
  have src:aQ 2 (B++[.row 2 false []]) (.sl 7 off (n+1))=some (last.map aU):=by
   simp only [aQ,hBr7]
   rw [if_pos trivial,hsplit,List.map_append,List.drop_left' (by rw [List.length_map,hoff]),List.take_of_length_le (by rw [List.length_map,hll]; omega)]
  have ap:=wJ (esz:=2) (bytes:=16) (by omega) (by omega) hBl.symm src (by rw [List.length_map]; omega)
  rw [List.length_map,hll] at ap
  obtain ⟨X,hX⟩:∃X,X=B++[Ent.dead,.row 2 false (last.map aU)]:=⟨_,rfl⟩
  rw [<-hX] at ap
  have hXl:X.length=10:=by rw [hX,List.length_append,hBl]; rfl
  have hXj:∀j,j<8->X[j]?=B[j]?:=fun j hj=>by rw [hX,List.getElem?_append_left (by omega)]
  have hF6:F6 X s last:=⟨by rw [hXj 2 (by omega)]; exact hB2,by rw [hX,List.getElem?_append_right (by omega),hBl]; rfl,by omega⟩
  have hX7:X[7]?=some (.row 2 (decide (1<l.length)) (l.map aU)):=by rw [hXj 7 (by omega)]; exact hB7
  have hXX:X6 X (decide (1<l.length)) l=X:=by
   unfold X6
   obtain ⟨h7,e7⟩:=List.getElem?_eq_some_iff.1 hX7
   rw [<-e7,List.set_getElem_self]
  have lp1:=Ei hF6 hll (by omega) (by rw [hlast,List.map_map]; exact List.map_id'' (fun t=>rfl) _) (.int .i64 F) (.int .i64 cy) (.bool true) (.ptr 1 0 0) (.sl 3 0 n) (.sl 7 0 l.length) (n+1) 0 300 (by omega) (by omega)
  rw [show ((0:Nat):Int)=0 from rfl] at lp1
  have hC6:=cW cy 6 (by omega)
  obtain ⟨C,hC⟩:∃C:Nat,pick cy 6=C:=⟨(pick cy 6).toNat,by omega⟩
  have hlt:∀t∈last,-10000000000<=t.2/\t.2<=10000000000:=fun t ht=>by
   rw [hlast] at ht
   obtain ⟨u,hu,rfl⟩:=List.mem_map.1 ht
   have h1:=uI hv hb (free:=F) (by omega) (r:=k) (by omega) hu
   have h2:=wc hc u.toNat
   have h3:=wc hc 0
   have h4:=dc hv
   have h5:0<=(k:Int)*s.period:=Int.mul_nonneg (by omega) (by omega)
   refine ⟨?_,by omega⟩
   show _<=bsF x.T s F+(k:Int)*s.period+stD s u.toNat
   unfold bsF
   omega
  obtain ⟨f,hfe⟩:∃f:Nat->List cz,∀r,f r=cf x.T s F (k+r):=⟨fun r=>cf x.T s F (k+r),fun _=>rfl⟩
  have hkr:∀r:Nat,kF s.order x.T.ch.length<=((k+r:Nat):Int):=fun r=>by rw [<-hn,hkk]; omega
  have hf:∀r,f (r+1)=f r++last.map (shT s.period r):=fun r=>by
   rw [hfe,hfe,show k+(r+1)=(k+r)+1 from rfl,iF,vD hc F (hkr r),hlast,List.map_map,List.map_congr_left fun t _=>F3 x.T s F k r t]
  have hfne:∀r,1<=r->f r≠[]:=fun r hr=>by
   obtain ⟨r',rfl⟩:∃r',r=r'+1:=⟨r-1,by omega⟩
   obtain ⟨rest,e⟩:=ow hc F (k+r')
   rw [hfe,show k+(r'+1)=k+r'+1 from rfl,e]
   simp
  have hfl:∀r,r<=10->(f r).length<=800:=fun r hr=>by
   have h1:=gV hc F (k+r)
   rw [<-hn,<-hfe] at h1
   have h2:(n+1)*(k+r)<=5*14:=Nat.mul_le_mul (by omega) (by omega)
   exact Nat.le_trans h1 (Nat.le_trans h2 (by decide))
  have hf1:f 1=l:=by rw [hfe,hl]
  obtain ⟨g',lp3⟩:=Gr hF6 hll (by omega) ⟨by omega,c4.2⟩ hlt (.int .i64 F) (.bool true) (.ptr 1 0 0) (.sl 3 0 n) hcy hC (f:=f) hf hfne hfl C 1 300 (decide (1<l.length)) (by omega) (by omega) (by omega)
  unfold s6d at lp3
  rw [hf1,hXX,show ((1:Nat):Int)=1 from rfl,hfe] at lp3
  obtain ⟨lf,hlf⟩:∃lf,lf=cf x.T s F (k+(C+1)):=⟨_,rfl⟩
  rw [<-hlf] at lp3
  have hlfl:lf.length<=200:=by
   have h1:=gV hc F (k+(C+1))
   rw [<-hn,<-hlf] at h1
   have:(n+1)*(k+(C+1))<=5*10:=Nat.mul_le_mul (by omega) (by omega)
   omega
  obtain ⟨Y,hY⟩:∃Y,Y=X6 X g' lf:=⟨_,rfl⟩
  rw [<-hY] at lp3
  have hYj:∀j,j≠7->Y[j]?=X[j]?:=fun j hj=>by rw [hY]; exact zG hj
  have hY7:Y[7]?=some (.row 2 g' (lf.map aU)):=by rw [hY]; exact CJ (by omega) _ _
  have hY3:Y[3]?=some (.row 1 false (ak (ngF n n))):=by rw [hYj 3 (by omega),hXj 3 (by omega),hBj 3 (by omega)]; exact hQ3
  have hY1:Y[1]?=some (.row 5 false [x.tv]):=by rw [hYj 1 (by omega),hXj 1 (by omega),hBj 1 (by omega),hQj 1 (by omega)]; exact hS1
  have ltY:ac true 5 Y (.ptr 1 0 0)=some x.tv:=by simp only [ac,hY1]; rfl
  have fl:frz Y 4 (.sl 7 0 lf.length)=.fs 2 (lf.map aU):=oi hY7
  have fi:frz Y 4 (.sl 3 0 n)=.fs 1 (ak (ngF n n)):=m8 hY3 (kR n n).symm 2
  have m17:M17 [x.tv,.fs 1 (ak (ngF n n)),.int .i64 F,.fs 2 (lf.map aU)]=some (.tup [.int .i64 ((fY x.T (ngF n n) F lf).getD 0),.bool (fY x.T (ngF n n) F lf).isSome]):=te (T:=x.T) x.chS x.chl (.inr rfl) (by rw [kR]; omega) F (.inr rfl) hlfl
  have hchk:(fY x.T (ngF n n) F lf).isSome=true:=by
   have hng:∀t∈ngF n n,t = -1:=fun t ht=>by rw [AH] at ht; exact List.eq_of_mem_replicate ht
   have hsit:Sit x.T (ngF n n) F:=⟨⟨hv,hb1⟩,by rw [kR,hn],by omega,fun t ht=>by rw [hng t ht]; omega⟩
   obtain ⟨y,y1,_⟩:=yn (free:=F) hc hb1 hv (k+(C+1)) (fun r hr t ht=>uI hv hb (by omega) (by omega) ht) (st0 (ngF n n) F) (by show (ngF n n).length=_; rw [kR,hn]) (fun j hj=>by
    show (ngF n n).getD j 0 = -1
    have hjl:j<(ngF n n).length:=by rw [kR,hn]; exact hj
    rw [List.getD_eq_getElem?_getD,List.getElem?_eq_getElem hjl]
    exact hng _ (List.getElem_mem hjl)) rfl (by omega)
   unfold fY
   rw [if_pos hsit,hlf,y1]; rfl
  rw [hchk] at m17
  obtain ⟨rest,hr0⟩:=ow hc F (k+C)
  rw [show k+C+1=k+(C+1) by omega,<-hlf] at hr0
  have ix:=Ey (n:=lf.length) hY7 (show 0<lf.length by rw [hr0]; simp)
  have ix:ai 2 Y (.sl 7 0 lf.length) (.int .i64 0)=some (.ptr 7 0 0):=ix
  have ld:ac true 2 Y (.ptr 7 0 0)=some (.agg [.int .i64 0,.int .i64 (F+x.T.travel)]):=by
   have e:(lf.map aU)[0]?=some (aU (0,F+x.T.travel)):=by rw [hr0]; rfl
   simp only [ac,hY7,e]; rfl
  obtain ⟨u0,_,_,_,u3⟩:=tz (T:=x.T) (chv:=x.ch) hY1
  have u03:=u0 3 (by omega)
  have hw:=dc hv
  have bF:ag .add (.int .i64 F) (.int .i64 x.T.travel)=some (.int .i64 (F+x.T.travel)):=aZ (by omega)
  have eq:=EF 0 (F+x.T.travel)
  have ci:∀z:Int,cellsOf (.int .i64 z)=[.int .i64 z]:=fun _=>rfl
  clear hchk mB hr0 hY1 hY3 hY7 hYj hY hlf hf hfe hfne hfl hf1 hlt hC hXX hX7 hF6 hXj hXl hX src hBr7 hB7 hB2 hBj hBl hAl eV eR hB h24 hsplit hlne hlast hl hok hQ3 hQj hQl hQ hS1 hS2 hSl hS hB1 t0 u0 hs c5 c3 hll hkk hk
  have lt1:ac true 5 B1 (.ptr 1 0 0)=some x.tv:=lt
  clear lt
  unfold r6 at s2
  generalize B1++[.row 4 false [zSA]]=B2 at *
  generalize S++[.row 1 false (ak (ngF n 0))]=S2 at *
  generalize B++[.row 2 false []]=B3 at *
  generalize ak (ngF n n)=IN at *
  generalize lf.map aU=LM at *
  generalize lf.length=LL at *
  generalize (l.length:Int)-n=ln1 at *
  generalize ((n+1:Nat):Int)=N1 at *
  generalize ((C+1:Nat):Int)=C1 at *
  generalize l.length=LN at *
  generalize (fY x.T (ngF n n) F lf).getD 0=ce at *
  generalize F+x.T.travel=FT at *
  generalize x.T.travel=tr at *
  generalize kM s=SA at *
  generalize slA 1 (ak s.order)=O at *
  generalize x.tv=TV at *
  generalize x.rv=RV at *
  generalize x.ch=CH at *
  generalize x.A yv rv=XA at *
  generalize x.F=FV at *
  rw [aO _ _ rfl]
  simp [mf6,s0,s1,s2,s3,s4,s5,s6,s7,mB',f1,n1,lt1,bz,bs,m12,t00,t1,lc,mk,Ju lp0,ltQ,lsQ,h24',b00,lnl,bn1,b1,fO,lO,lo,b2,bs2,b3,b4,sl,ap,Jt lp1,Jr lp3,ltY,fl,fi,m17,ix,ld,u03,u3,bF,eq,ci,aM,bc,-a5,-aA,-ac,-ab,-bU,-cC,-bY,-ai,-eu,-frz,-cellsOf,-aw,-ag]
theorem ev6L (args:List AV) (h:fJ Try.prog 8 Try.f6.params.toList args):∃fuel,evP (ax GC fs6) fuel mf6 1 args=some (.bool true):=by
 rw [Try.params6] at h
 obtain ⟨a,r,rfl,h0,h⟩:=h.cons
 obtain ⟨b,r,rfl,h1,h⟩:=h.cons
 obtain ⟨c,r,rfl,h2,h⟩:=h.cons
 obtain rfl:=h.nil
 obtain ⟨x,yv,rv,rfl,hx⟩:=Bm (n:=3) h0
 obtain ⟨z,rfl,hz⟩:=TA.int Try.underlying3 h1
 obtain ⟨z2,rfl,hz2⟩:=TA.int Try.underlying3 h2
 exact ⟨300,ev6 hx hz hz2⟩
end Tr
end Go.Proofs.Ytkcjhljbgjpklaa
