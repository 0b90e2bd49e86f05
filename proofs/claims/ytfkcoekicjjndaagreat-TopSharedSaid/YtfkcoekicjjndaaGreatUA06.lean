import Derived.Test.YtfkcoekicjjndaaGreatUA05
import Derived.Shelf.Spec.SlicesInsertGrow
import Derived.WalkKit
import Derived.Deep.LoopGhost
import Derived.Lib.Walk
import Derived.Lib.SliceRun
set_option maxRecDepth 100000
set_option maxHeartbeats 4000000
noncomputable section
namespace Go.Proofs.YtfkcoekicjjndaaGreat
namespace Sh
open Go
theorem AG (L n:Nat) (k:IntKind) (z:Int):shf L n (.int k z)=.int k z:=by cases n <;> rfl
theorem oG (L n:Nat) (l:List Int):(l.map (AV.int .i64)).map (shf L n)=l.map (.int .i64):=by
 rw [List.map_map]
 exact List.map_congr_left fun z _=>AG L n .i64 z
theorem tW (L n e:Nat) (es:List AV):shf L n (.fs e es)=.fs e es:=by cases n <;> rfl
theorem bY.shf {A B:aa} {o:AV} {l:List Int} (h:bY B o 1 (l.map (.int .i64))) (n m:Nat):bY (A++B.map (tX A.length n)) (Go.Proofs.YtfkcoekicjjndaaGreat.shf A.length m o) 1 (l.map (.int .i64)):=by
 rcases h with ⟨rfl,h2⟩ | ⟨h1,id,rfl,h2⟩
 ·exact .inl ⟨by cases m <;> rfl,h2⟩
 ·refine .inr ⟨h1,A.length+id,by cases m <;> rfl,?_⟩
  rw [List.getElem?_append_right (by omega),Nat.add_sub_cancel_left,List.getElem?_map,h2]
  show some (Ent.row 1 false ((l.map (AV.int .i64)).map (Go.Proofs.YtfkcoekicjjndaaGreat.shf A.length n)))=_
  rw [oG]
def mvA (p:Pl):AV:=.fs 1 ((List.replicate p.stages.length p.hi).map (.int .i64))
def sV:List (FuncId × aB):=[(165,aK 4 tn)]
@[simp] theorem Hw:aR sV 165=some (aK 4 tn):=rfl
def yh:rj:=bN (ac GS sV) 50 BF
theorem tU:dD Tryz.prog GS 131 yh:=aG (E:=ac GS sV) (ai (ag (au.of_pure zS 4) an)) rfl Nr DA (aU.cons (M:=_) rfl aU.nil)
structure rn (p:Pl) (ds:List Int) (o:AV) (A:aa):Prop where
 h1:A[1]?=some (.row 5 false [.agg [.nilS,.nilS,.int .i64 0,.int .i64 0,.int .i64 0]])
 h2:A[2]?=some (.row 5 false [.agg [o,mvA p,.int .i64 p.hi,.int .i64 (-1),.int .i64 0]])
 ho:bY A o 1 (ds.map (.int .i64))
 hid:∀k∈aC o,3<=k
theorem wV {p:Pl} {a:AV} (ha:SlA 6 (p.stages.map aI) a) {i:Nat} {ds:List Int} {o:AV} {A:aa} (hA:rn p ds o A) {x:Stg} (hx:p.stages[i]?=some x) (hi:i<10) (hd:ds.length<=10) :
  ∃B o',run (ac GS sV) 50 [.code gG] (fW (.ptr 1 0 0) (.ptr 2 0 0) a (.int .i64 (p.stages.length:Int)) (.int .i64 (i:Int))) A=some (.normal (fW (.ptr 1 0 0) (.ptr 2 0 0) a (.int .i64 (p.stages.length:Int)) (.int .i64 ((i+1:Nat):Int))) B)/\rn p (ds++[x.mx]) o' B:=by
 obtain ⟨h1,h2,ho,hid⟩:=hA
 have hil:i<p.stages.length:=(List.getElem?_eq_some_iff.1 hx).1
 have x1:∀A,ae 6 A a (.int .i64 (i:Int))=some (.fp [.int .i64 x.mn,.int .i64 x.mx,.int .i64 x.mt,.int .i64 x.ms,.int .i64 x.st,.int .i64 x.ss]):=fun A=>ha.index (A:=A) (x:=aI x) (by simp [hx]) rfl (by simp) .i64
 have b1:=bK i p.stages.length .i64
 rw [decide_eq_true hil] at b1
 have b3:=aY i (by omega)
 have F1:=Fr.app A [.row 6 false [aI x]] []
 have hb:(A++[Ent.row 6 false [aI x]])[A.length]?=some (.row 6 false [aI x]):=by simp
 have l2:2<A.length:=(List.getElem?_eq_some_iff.1 h2).1
 have g2:=F1.at h2 (by simp)
 have g1:=F1.at h1 (by simp)
 have go:=ho.fr F1 (fun _ _ h=>by cases h)
 obtain ⟨B,ap,ho',F,lB⟩:=go.append (bytes:=8) (.int .i64 x.mx) (by omega) (by omega) (by rw [List.length_map]; omega)
 have n2:2 ∉ aC o:=fun h=>by have:=hid _ h; omega
 have n1:1 ∉ aC o:=fun h=>by have:=hid _ h; omega
 have k2:=F.at g2 n2
 have k1:=F.at g1 n1
 have lA1:(A++[Ent.row 6 false [aI x]]).length=A.length+1:=by simp
 generalize hA1:A++[Ent.row 6 false [aI x]]=A1 at *
 generalize hn:(ds.map (AV.int .i64)).length+1=n at *
 have l2B:2<B.length:=(List.getElem?_eq_some_iff.1 k2).1
 refine ⟨B.set 2 (.row 5 false [.agg [.sl A1.length 0 n,mvA p,.int .i64 p.hi,.int .i64 (-1),.int .i64 0]]),.sl A1.length 0 n,?_,⟨?_,?_,?_,?_⟩⟩
 ·unfold aI mvA at *
  generalize ((i+1:Nat):Int)=I1 at *
  generalize (p.stages.length:Int)=N at *
  generalize (i:Int)=I at *
  have hA1':A++[Ent.row 6 false [AV.agg [.int .i64 x.mn,.int .i64 x.mx,.int .i64 x.mt,.int .i64 x.ms,.int .i64 x.st,.int .i64 x.ss]]]=A1:=hA1
  simp [gG,x1,b1,b3,hA1',hb,g2,ap,k2,az,-aj,-ae]
 ·rw [List.getElem?_set_ne (by omega)]; exact k1
 ·rw [List.getElem?_set_self l2B]
 ·rw [List.map_append]
  exact ho'.fr (Fr.set B 2 _) (fun k hk=>by simp [aC] at hk; simp; omega)
 ·intro k hk; simp [aC] at hk; omega
theorem Cf {p:Pl} {a:AV} (ha:SlA 6 (p.stages.map aI) a) (hn:p.stages.length<=8) {A:aa} {o:AV} (hA:rn p [] o A) :
  ∃B o',bI (evC (ac GS sV) 50 gG) gv 50 (fW (.ptr 1 0 0) (.ptr 2 0 0) a (.int .i64 (p.stages.length:Int)) (.int .i64 0)) A=some (.exit 0 ((fW (.ptr 1 0 0) (.ptr 2 0 0) a (.int .i64 (p.stages.length:Int)) (.int .i64 (p.stages.length:Int))).set 8 (.bool false)) B)/\rn p (p.stages.map (·.mx)) o' B:=by
 have key:=fk (E:=ac GS sV) (fuel:=50) (a:=gG) (mask:=gv)
  (fun κ σ A=>∃i o,i+κ=p.stages.length/\σ=fW (.ptr 1 0 0) (.ptr 2 0 0) a (.int .i64 (p.stages.length:Int)) (.int .i64 (i:Int))/\rn p ((p.stages.take i).map (·.mx)) o A)
  (fun q=>∃B o',q=.exit 0 ((fW (.ptr 1 0 0) (.ptr 2 0 0) a (.int .i64 (p.stages.length:Int)) (.int .i64 (p.stages.length:Int))).set 8 (.bool false)) B/\rn p (p.stages.map (·.mx)) o' B)
  (by
  rintro κ σ A ⟨i,o,hk,rfl,hA⟩
  rw [vw]
  by_cases hi:i<p.stages.length
  ·obtain ⟨B,o',h1,h2⟩:=wV ha hA (List.getElem?_eq_getElem hi) (by omega) (by simp; omega)
   refine .inl ⟨_,B,h1,κ-1,by omega,i+1,o',by omega,rfl,?_⟩
   rw [<-List.take_append_getElem hi,List.map_append]
   exact h2
  ·obtain rfl:i=p.stages.length:=by omega
   rw [List.take_length] at hA
   refine .inr ⟨_,?_,(fun _ _ h=>by cases h),A,o,rfl,hA⟩
   simp [gG])
  50 p.stages.length _ A (by omega) ⟨0,o,by omega,rfl,hA⟩
 obtain ⟨q,h1,B,o',rfl,h2⟩:=key
 exact ⟨B,o',h1,h2⟩
theorem HR (p:Pl) {a b:AV} (ha:SlA 6 (p.stages.map aI) a) (hv:cL p):∃o B,yh [ax p a b] []=some (.agg [o,mvA p,.int .i64 p.hi,.int .i64 (-1),.int .i64 0],B)/\bY B o 1 ((p.stages.map (·.mx)).map (.int .i64)):=by
 have hn:=hv.2.2.2.1
 have la:=ha.len
 rw [List.length_map] at la
 have h0:rn p [] .nilS [.row 5 false [ax p a b],.row 5 false [.agg [.nilS,.nilS,.int .i64 0,.int .i64 0,.int .i64 0]],.row 5 false [.agg [.nilS,mvA p,.int .i64 p.hi,.int .i64 (-1),.int .i64 0]]]:=⟨rfl,rfl,.inl ⟨rfl,rfl⟩,fun k h=>by cases h⟩
 obtain ⟨B,o,lp,h1,h2,ho,hid⟩:=Cf ha (by omega) h0
 have m:=D8 p.hi hn.1 hn.2
 have l1:1<B.length:=(List.getElem?_eq_some_iff.1 h1).1
 have nid:1 ∉ aC o:=fun h=>by have:=hid _ h; omega
 refine ⟨o,B.set 1 (.row 5 false [.agg [o,mvA p,.int .i64 p.hi,.int .i64 (-1),.int .i64 0]]),?_,ho.fr (Fr.set B 1 _) (fun k hk h=>by simp at h; subst h; exact nid hk)⟩
 have fa:∀A n,frz A n a=a:=fun A n=>ha.frz n
 have fm:∀A n,frz A n (mvA p)=mvA p:=fun A n=>by cases n <;> rfl
 have nm:∀n,br n (mvA p)=true:=fun n=>by cases n <;> rfl
 have ida:aC a=[]:=by rcases ha with ⟨rfl,_⟩ | rfl <;> rfl
 have m':tn [.fs 1 [.int .i64 p.hi],.int .i64 (p.stages.length:Int)]=some (mvA p):=m
 have k1:(B.set 1 (.row 5 false [.agg [o,mvA p,.int .i64 p.hi,.int .i64 (-1),.int .i64 0]]))[1]?=some (.row 5 false [.agg [o,mvA p,.int .i64 p.hi,.int .i64 (-1),.int .i64 0]]):=List.getElem?_set_self l1
 unfold yh
 rw [aH _ _ rfl]
 unfold ax mvA at *
 generalize (List.replicate p.stages.length p.hi).map (AV.int .i64)=mv at *
 generalize (p.stages.length:Int)=N at *
 simp [BF,la,m',N8,CE lp,h1,h2,k1,az,-aj,-ay,-aC]
def CN:List (FuncId × aB):=[(131,uf 4 yh)]
@[simp] theorem Hv:aR CN 131=some (uf 4 yh):=rfl
def EK:rj:=bN (ac GS CN) 50 BE
theorem Ah:dD Tryz.prog GS 132 EK:=aG (E:=ac GS CN) (ai (ag (tU.own 4).y an)) rfl Nq Dz aU.nil
theorem Mo (p:Pl) {a b:AV} (ha:SlA 6 (p.stages.map aI) a) (hb:SlA 3 (p.wins.map bi) b) (hv:cL p) (tool at_:Int):∃o B,EK [ax p a b,.int .i64 tool,.int .i64 at_] []=some (.agg [o,mvA p,.int .i64 p.hi,.int .i64 tool,.int .i64 at_],B)/\bY B o 1 ((p.stages.map (·.mx)).map (.int .i64)):=by
 obtain ⟨o,X,e,ho⟩:=HR p (b:=b) ha hv
 have na:∀n,br n a=true:=fun n=>by cases n <;> rcases ha with ⟨rfl,_⟩ | rfl <;> rfl
 have nb:∀n,br n b=true:=fun n=>by cases n <;> rcases hb with ⟨rfl,_⟩ | rfl <;> rfl
 have c:=qG (n:=4) (fun _ _ _=>none) [.row 5 false [ax p a b],.row 5 false [.agg [.nilS,.nilS,.int .i64 0,.int .i64 0,.int .i64 0]]] (by simp [ax,na,nb]) e
 have hoS:=ho.shf (A:=[.row 5 false [ax p a b],.row 5 false [.agg [.nilS,.nilS,.int .i64 0,.int .i64 0,.int .i64 0]]]) 4 3
 have em:shf 2 3 (mvA p)=mvA p:=tW _ _ _ _
 have es:shf [Ent.row 5 false [ax p a b],.row 5 false [.agg [.nilS,.nilS,.int .i64 0,.int .i64 0,.int .i64 0]]].length 4 (.agg [o,mvA p,.int .i64 p.hi,.int .i64 (-1),.int .i64 0])=.agg [shf 2 3 o,mvA p,.int .i64 p.hi,.int .i64 (-1),.int .i64 0]:=by
  show AV.agg [shf 2 3 o,shf 2 3 (mvA p),.int .i64 p.hi,.int .i64 (-1),.int .i64 0]=_
  rw [em]
 rw [es] at c
 have hoS:bY ([.row 5 false [ax p a b],.row 5 false [.agg [.nilS,.nilS,.int .i64 0,.int .i64 0,.int .i64 0]]]++X.map (tX 2 4)) (shf 2 3 o) 1 ((p.stages.map (·.mx)).map (.int .i64)):=hoS
 have c:uf 4 yh (fun _ _ _=>none) [ax p a b] [.row 5 false [ax p a b],.row 5 false [.agg [.nilS,.nilS,.int .i64 0,.int .i64 0,.int .i64 0]]]=some (.agg [shf 2 3 o,mvA p,.int .i64 p.hi,.int .i64 (-1),.int .i64 0],[.row 5 false [ax p a b],.row 5 false [.agg [.nilS,.nilS,.int .i64 0,.int .i64 0,.int .i64 0]]]++X.map (tX 2 4)):=c
 have hid:∀k∈aC (shf 2 3 o),2<=k:=by
  rcases ho with ⟨rfl,_⟩ | ⟨_,id,rfl,_⟩
  ·intro k h; cases h
  ·intro k h
   have h:k∈[2+id]:=h
   simp at h; omega
 generalize X.map (tX 2 4)=Y at *
 generalize shf 2 3 o=o2 at *
 obtain ⟨C,hC⟩:∃C:aa,C=[.row 5 false [ax p a b],.row 5 false [.agg [o2,mvA p,.int .i64 p.hi,.int .i64 tool,.int .i64 at_]]]++Y++[.row 5 false [.agg [o2,mvA p,.int .i64 p.hi,.int .i64 tool,.int .i64 at_]]]:=⟨_,rfl⟩
 refine ⟨o2,C,?_,?_⟩
 ·unfold EK
  rw [aH _ _ rfl,hC]
  unfold ax mvA at *
  generalize (List.replicate p.stages.length p.hi).map (AV.int .i64)=mv at *
  simp [BE,c,az]
 ·have F:Fr ([.row 5 false [ax p a b],.row 5 false [.agg [.nilS,.nilS,.int .i64 0,.int .i64 0,.int .i64 0]]]++Y) C [1]:=by
   rw [hC]
   refine ⟨by simp,fun j hj hn=>?_⟩
   rw [List.getElem?_append_left (by simpa using hj)]
   rcases j with _ | _ | j
   ·rfl
   ·simp at hn
   ·rfl
  exact hoS.fr F (fun k hk h=>by have:=hid k hk; simp at h; omega)
end Sh
namespace Sh
open Go
def Cq:MC:=.region [⟨none,.indexSl 6 (.var 7) (.var 9),none⟩,⟨none,.load true 6 (.tmp 0),none⟩,⟨some 2,.alloc 6 (.agg [.int .i64 0,.int .i64 0,.int .i64 0,.int .i64 0,.int .i64 0,.int .i64 0]),none⟩,⟨none,.store 6 (.var 2) (.tmp 1),none⟩]
def Cp:MC:=.region [⟨none,.mv (.var 0),none⟩,⟨none,.load true 5 (.var 1),none⟩,⟨none,.fieldAddr 2 (.var 2),none⟩,⟨none,.fieldAddr 0 (.tmp 2),none⟩,⟨none,.load false 1 (.tmp 3),none⟩,⟨none,.fieldAddr 2 (.var 2),none⟩,⟨none,.fieldAddr 1 (.tmp 5),none⟩,⟨none,.load false 1 (.tmp 6),none⟩,⟨none,.fieldAddr 1 (.var 2),none⟩,⟨none,.load false 1 (.tmp 8),none⟩,⟨none,.bin .add (.tmp 7) (.tmp 9),none⟩,⟨none,.bin .sub (.tmp 10) (.cst (.int .i64 1)),none⟩,⟨none,.call (.fn 132) [.tmp 1,.tmp 4,.tmp 11],none⟩,⟨none,.call (.tmp 0) [.tmp 12],none⟩,⟨some 11,.un .not (.tmp 13),none⟩]
theorem kv:fj=.seq (.region [⟨some 10,.bin .lss (.var 9) (.var 8),none⟩]) (.seq (.cond (.var 10) .skip (.exit 0)) (.seq (.seq (.block 1 (.seq Cq (.seq Cp (.cond (.var 11) .ret .skip)))) (.kill [2,3,4,5,6,10,11,12,13,14,15,16])) (.region [⟨none,.bin .add (.var 9) (.cst (.int .i64 1)),none⟩,⟨some 9,.mv (.tmp 0),none⟩]))):=rfl
def BT:MC:=.region [⟨none,.indexSl 3 (.var 12) (.var 14),none⟩,⟨none,.load true 3 (.tmp 0),none⟩,⟨some 3,.alloc 3 (.agg [.int .i64 0,.int .i64 0,.int .i64 0]),none⟩,⟨none,.store 3 (.var 3) (.tmp 1),none⟩]
def BS:MC:=.region [⟨none,.fieldAddr 3 (.var 1),none⟩,⟨none,.load false 1 (.tmp 0),none⟩,⟨none,.fieldAddr 1 (.var 3),none⟩,⟨none,.load false 1 (.tmp 2),none⟩,⟨none,.indexSl 6 (.tmp 1) (.tmp 3),none⟩,⟨none,.fieldAddr 2 (.tmp 4),none⟩,⟨none,.load true 2 (.tmp 5),none⟩,⟨some 4,.alloc 2 (.agg [.int .i64 0,.int .i64 0]),none⟩,⟨none,.store 2 (.var 4) (.tmp 6),none⟩]
def BR:MC:=.region [⟨none,.load true 5 (.var 1),none⟩,⟨none,.fieldAddr 0 (.var 4),none⟩,⟨none,.load false 1 (.tmp 1),none⟩,⟨none,.fieldAddr 1 (.var 4),none⟩,⟨none,.load false 1 (.tmp 3),none⟩,⟨none,.call (.fn 132) [.tmp 0,.tmp 2,.tmp 4],none⟩,⟨some 5,.alloc 5 (.agg [.nilS,.nilS,.int .i64 0,.int .i64 0,.int .i64 0]),none⟩,⟨none,.store 5 (.var 5) (.tmp 5),none⟩]
def BQ:MC:=.region [⟨none,.fieldAddr 0 (.var 5),none⟩,⟨none,.load false 1 (.tmp 0),none⟩,⟨none,.fieldAddr 0 (.var 3),none⟩,⟨none,.load false 1 (.tmp 2),none⟩,⟨none,.fieldAddr 3 (.var 1),none⟩,⟨none,.load false 1 (.tmp 4),none⟩,⟨none,.fieldAddr 0 (.var 3),none⟩,⟨none,.load false 1 (.tmp 6),none⟩,⟨none,.indexSl 6 (.tmp 5) (.tmp 7),none⟩,⟨none,.fieldAddr 0 (.tmp 8),none⟩,⟨none,.load false 1 (.tmp 9),none⟩,⟨none,.indexSl 1 (.tmp 1) (.tmp 3),none⟩,⟨none,.store 1 (.tmp 11) (.tmp 10),none⟩]
def BP:MC:=.region [⟨none,.mv (.var 0),none⟩,⟨none,.load true 5 (.var 5),none⟩,⟨none,.call (.tmp 0) [.tmp 1],none⟩,⟨some 16,.un .not (.tmp 2),none⟩]
theorem ku:fh=.seq (.region [⟨some 15,.bin .lss (.var 14) (.var 13),none⟩]) (.seq (.cond (.var 15) .skip (.exit 2)) (.seq (.seq (.block 3 (.seq BT (.seq BS (.seq BR (.seq BQ (.seq BP (.cond (.var 16) .ret .skip))))))) (.kill [2,3,4,5,6,7,8,9,10,11,15,16])) (.region [⟨none,.bin .add (.var 14) (.cst (.int .i64 1)),none⟩,⟨some 14,.mv (.tmp 0),none⟩]))):=rfl
def Gd (S T:aa) (x:Nat × Loop):aa:=S ++ .loop x.2 0 :: T
def Ge (S T:aa) (x:Nat × Loop):aa:=S ++ .loop x.2 1 :: T
def yv (x:Nat × Loop):AV:=.func (.yield x.1) [] []
theorem jO (S T X:aa) (x:Nat × Loop):Gd S T x++X=Gd S (T++X) x:=by simp [Gd]
theorem jN (S T:aa) (x:Nat × Loop):(Gd S T x).length=S.length+1+T.length:=by simp [Gd]; omega
theorem pm {S:aa} {j:Nat} {e:Ent} (h:S[j]?=some e) (T:aa) (x:Nat × Loop):(Gd S T x)[j]?=some e:=by
 unfold Gd; rw [List.getElem?_append_left (List.getElem?_eq_some_iff.1 h).1]; exact h
theorem vT (S T:aa) (x:Nat × Loop) (j:Nat):(Gd S T x)[S.length+1+j]?=T[j]?:=by
 unfold Gd
 rw [List.getElem?_append_right (by omega),show S.length+1+j-S.length=j+1 by omega]
 rfl
theorem qp (S T:aa) (e:Ent) (x:Nat × Loop):(Gd S (T++[e]) x)[S.length+1+T.length]?=some e:=by
 rw [vT]; simp
theorem Jx {S T:aa} {j:Nat} (e:Ent) (x:Nat × Loop):(Gd S T x).set (S.length+1+j) e=Gd S (T.set j e) x:=by
 unfold Gd
 rw [List.set_append_right _ _ (by omega),show S.length+1+j-S.length=j+1 by omega]
 rfl
def EJ (S T:aa) (o:AV) (l:List Int):Prop:=(o=.nilS/\l=[])\/(l≠[]/\∃j,o=.sl (S.length+1+j) 0 l.length/\T[j]?=some (.row 1 false (l.map (.int .i64))))
structure HY (S:aa) (hd:Nat × Loop->aE) (Fin:aa->Prop):Prop where
 y:∀(T:aa) (s:Scn) (d m:AV),EJ S T d s.durs->SlA 1 (s.moves.map (.int .i64)) m ->
  (∃T',∀x,hd x (yv x) [bM d m s] (Gd S T x)=some (.bool true,Gd S T' x))\/(∃S' T',Fin S'/\∀x,hd x (yv x) [bM d m s] (Gd S T x)=some (.bool false,Ge S' T' x))
def dH:List (FuncId × aB):=[(131,uf 4 yh),(132,uf 4 EK)]
@[simp] theorem Hy:aR dH 131=some (uf 4 yh):=rfl
@[simp] theorem Hx:aR dH 132=some (uf 4 EK):=rfl
def vS:aB:=fun h=>bN (cG GS dH h) 50 sM
theorem Ai:au Tryz.prog GS 130 vS:=ct (ag (tU.own 4).y (ag (Ah.own 4).y an)) Ns DB
def scF (p:Pl) (tool at_:Int):Scn:=⟨p.stages.map (·.mx),List.replicate p.stages.length p.hi,p.hi,tool,at_⟩
theorem tY (p:Pl) (tool at_:Int):SlA 1 ((scF p tool at_).moves.map (.int .i64)) (mvA p):=.inr rfl
section
variable {p:Pl} {a b:AV} (ha:SlA 6 (p.stages.map aI) a) (hb:SlA 3 (p.wins.map bi) b) (hv:cL p)
include ha hb hv
omit hv in
theorem rO:br 4 (ax p a b)=true:=by
 have na:∀n,br n a=true:=fun n=>by cases n <;> rcases ha with ⟨rfl,_⟩ | rfl <;> rfl
 have nb:∀n,br n b=true:=fun n=>by cases n <;> rcases hb with ⟨rfl,_⟩ | rfl <;> rfl
 simp [ax,na,nb]
theorem FZ (S T:aa):∃T' d,EJ S T' d (p.stages.map (·.mx))/\(∃X,T'=T++X)/\∀(h:aE) x,uf 4 yh h [ax p a b] (Gd S T x)=some (bM d (mvA p) (scF p (-1) 0),Gd S T' x):=by
 obtain ⟨o,B,e,ho⟩:=HR p (b:=b) ha hv
 refine ⟨T++B.map (tX (S.length+1+T.length) 4),shf (S.length+1+T.length) 3 o,?_,⟨_,rfl⟩,fun h x=>?_⟩
 ·rcases ho with ⟨rfl,h2⟩ | ⟨h1,id,rfl,h2⟩
  ·exact .inl ⟨rfl,by simpa using h2⟩
  ·refine .inr ⟨by simpa using h1,T.length+id,?_,?_⟩
   ·show AV.sl (S.length+1+T.length+id) 0 _=_
    rw [List.length_map,Nat.add_assoc (S.length+1)]
   ·rw [List.getElem?_append_right (by omega),Nat.add_sub_cancel_left,List.getElem?_map,h2]
    show some (Ent.row 1 false (List.map _ (List.map _ _)))=_
    rw [oG]
 ·rw [qG (n:=4) h (Gd S T x) (by simp [rO ha hb]) e,jN,jO]
  show some (AV.agg [_,shf _ 3 (mvA p),_,_,_],_)=_
  rw [show shf (S.length+1+T.length) 3 (mvA p)=mvA p from tW _ _ _ _]
  rfl
theorem yF (S T:aa) (tool at_:Int):∃T' d,EJ S T' d (p.stages.map (·.mx))/\(∃X,T'=T++X)/\∀(h:aE) x,uf 4 EK h [ax p a b,.int .i64 tool,.int .i64 at_] (Gd S T x)=some (bM d (mvA p) (scF p tool at_),Gd S T' x):=by
 obtain ⟨o,B,e,ho⟩:=Mo p ha hb hv tool at_
 refine ⟨T++B.map (tX (S.length+1+T.length) 4),shf (S.length+1+T.length) 3 o,?_,⟨_,rfl⟩,fun h x=>?_⟩
 ·rcases ho with ⟨rfl,h2⟩ | ⟨h1,id,rfl,h2⟩
  ·exact .inl ⟨rfl,by simpa using h2⟩
  ·refine .inr ⟨by simpa using h1,T.length+id,?_,?_⟩
   ·show AV.sl (S.length+1+T.length+id) 0 _=_
    rw [List.length_map,Nat.add_assoc (S.length+1)]
   ·rw [List.getElem?_append_right (by omega),Nat.add_sub_cancel_left,List.getElem?_map,h2]
    show some (Ent.row 1 false (List.map _ (List.map _ _)))=_
    rw [oG]
 ·rw [qG (n:=4) h (Gd S T x) (by simp [rO ha hb]) e,jN,jO]
  show some (AV.agg [_,shf _ 3 (mvA p),_,_,_],_)=_
  rw [show shf (S.length+1+T.length) 3 (mvA p)=mvA p from tW _ _ _ _]
  rfl
theorem wW {S:aa} {hd:Nat × Loop->aE} {Fin:aa->Prop} (hy:HY S hd Fin) (h3:S[3]?=some (.row 5 false [ax p a b])) (T:aa) {i:Nat} (hi:i<p.stages.length) :
  (∃T',∀x,run (cG GS dH (hd x)) 50 [.code fj] (fY (yv x) (.ptr 3 0 0) a (.int .i64 (p.stages.length:Int)) (.int .i64 (i:Int))) (Gd S T x)=some (.normal (fY (yv x) (.ptr 3 0 0) a (.int .i64 (p.stages.length:Int)) (.int .i64 ((i+1:Nat):Int))) (Gd S T' x))) \/
  (∃S' T',Fin S'/\∀x,∃ σ,run (cG GS dH (hd x)) 50 [.code fj] (fY (yv x) (.ptr 3 0 0) a (.int .i64 (p.stages.length:Int)) (.int .i64 (i:Int))) (Gd S T x)=some (.ret σ (Ge S' T' x))):=by
 obtain ⟨s,hs⟩:∃s,s=p.stages[i]!:=⟨_,rfl⟩
 have hx:p.stages[i]?=some s:=by rw [hs]; exact get!_some hi
 have bs:=sI (hv.2.2.2.2.2.1 s (List.mem_of_getElem? hx))
 have x1:∀A,ae 6 A a (.int .i64 (i:Int))=some (.fp [.int .i64 s.mn,.int .i64 s.mx,.int .i64 s.mt,.int .i64 s.ms,.int .i64 s.st,.int .i64 s.ss]):=fun A=>ha.index (A:=A) (x:=aI s) (by simp [hx]) rfl (by simp) .i64
 have b1:=bK i p.stages.length .i64
 rw [decide_eq_true hi] at b1
 have b3:=aY i (by have:=hv.2.2.2.1; omega)
 have a1:=dX (x:=s.ms) (y:=s.mx) (by unfold inI; omega)
 have a2:=pX (x:=s.ms+s.mx) (y:=1) (by unfold inI; omega)
 have r1:∀(h:aE) x K,run (cG GS dH h) 50 (.code Cq :: K) [yv x,.ptr 3 0 0,.undef,.undef,.undef,.undef,.undef,a,.int .i64 (p.stages.length:Int),.int .i64 (i:Int),.bool true,.undef,.undef,.undef,.undef,.undef,.undef] (Gd S T x) =
   run (cG GS dH h) 50 K [yv x,.ptr 3 0 0,.ptr (S.length+1+T.length) 0 0,.undef,.undef,.undef,.undef,a,.int .i64 (p.stages.length:Int),.int .i64 (i:Int),.bool true,.undef,.undef,.undef,.undef,.undef,.undef] (Gd S (T++[.row 6 false [aI s]]) x):=fun h x K=>by
  rw [<-jO,<-jN S T x]
  unfold aI
  generalize (p.stages.length:Int)=N at *
  generalize (i:Int)=I at *
  generalize Gd S T x=A at *
  simp [Cq,x1,-ae]
 obtain ⟨T2,d,hd2,_,c⟩:=yF ha hb hv S (T++[.row 6 false [aI s]]) s.mt (s.ms+s.mx-1)
 have r2:∀(o:Bool) (A:aa) x,hd x (yv x) [bM d (mvA p) (scF p s.mt (s.ms+s.mx-1))] (Gd S T2 x)=some (.bool o,A)->∀K,run (cG GS dH (hd x)) 50 (.code Cp :: K) [yv x,.ptr 3 0 0,.ptr (S.length+1+T.length) 0 0,.undef,.undef,.undef,.undef,a,.int .i64 (p.stages.length:Int),.int .i64 (i:Int),.bool true,.undef,.undef,.undef,.undef,.undef,.undef] (Gd S (T++[.row 6 false [aI s]]) x) =
   run (cG GS dH (hd x)) 50 K [yv x,.ptr 3 0 0,.ptr (S.length+1+T.length) 0 0,.undef,.undef,.undef,.undef,a,.int .i64 (p.stages.length:Int),.int .i64 (i:Int),.bool true,.bool (!o),.undef,.undef,.undef,.undef,.undef] A:=fun o A x hy K=>by
  have g3:=pm h3 (T++[.row 6 false [aI s]]) x
  have g4:=qp S T (.row 6 false [aI s]) x
  have c:=c (hd x) x
  generalize Gd S (T++[.row 6 false [aI s]]) x=A1 at *
  generalize Gd S T2 x=A2 at *
  generalize bM d (mvA p) (scF p s.mt (s.ms+s.mx-1))=sc at *
  generalize s.ms+s.mx-1=z2 at *
  generalize s.ms+s.mx=z1 at *
  generalize S.length+1+T.length=q at *
  unfold aI ax yv at *
  generalize (p.stages.length:Int)=N at *
  generalize (i:Int)=I at *
  simp [Cp,g3,g4,a1,a2,c,hy,-aj]
 rcases hy.y T2 (scF p s.mt (s.ms+s.mx-1)) d (mvA p) hd2 (tY p _ _) with ⟨T',h⟩ | ⟨S',T',hf,h⟩
 ·refine .inl ⟨T',fun x=>?_⟩
  have r2:=r2 true _ x (h x)
  have r1:=r1 (hd x) x
  rw [kv]
  generalize ((i+1:Nat):Int)=I1 at *
  generalize (p.stages.length:Int)=N at *
  generalize (i:Int)=I at *
  simp [r1,r2,b1,b3,-aj]
 ·refine .inr ⟨S',T',hf,fun x=>⟨[yv x,.ptr 3 0 0,.ptr (S.length+1+T.length) 0 0,.undef,.undef,.undef,.undef,a,.int .i64 (p.stages.length:Int),.int .i64 (i:Int),.bool true,.bool true,.undef,.undef,.undef,.undef,.undef],?_⟩⟩
  have r2:=r2 false _ x (h x)
  have r1:=r1 (hd x) x
  rw [kv]
  generalize (p.stages.length:Int)=N at *
  generalize (i:Int)=I at *
  simp [r1,r2,b1,-aj]
end
end Sh
namespace Sh
open Go
section
variable {p:Pl} {a b:AV} (ha:SlA 6 (p.stages.map aI) a) (hb:SlA 3 (p.wins.map bi) b) (hv:cL p)
include ha hb hv
theorem ud {S:aa} {hd:Nat × Loop->aE} {Fin:aa->Prop} (hy:HY S hd Fin) (h3:S[3]?=some (.row 5 false [ax p a b])) (T:aa) {k:Nat} (hk:k<p.wins.length) :
  (∃T',∀x,run (cG GS dH (hd x)) 50 [.code fh] (fX (yv x) (.ptr 3 0 0) b (.int .i64 (p.wins.length:Int)) (.int .i64 (k:Int))) (Gd S T x)=some (.normal (fX (yv x) (.ptr 3 0 0) b (.int .i64 (p.wins.length:Int)) (.int .i64 ((k+1:Nat):Int))) (Gd S T' x))) \/
  (∃S' T',Fin S'/\∀x,∃ σ,run (cG GS dH (hd x)) 50 [.code fh] (fX (yv x) (.ptr 3 0 0) b (.int .i64 (p.wins.length:Int)) (.int .i64 (k:Int))) (Gd S T x)=some (.ret σ (Ge S' T' x))):=by
 obtain ⟨w,hwe⟩:∃w,w=p.wins[k]:=⟨_,rfl⟩
 have hw:p.wins[k]?=some w:=by rw [hwe]; exact List.getElem?_eq_getElem hk
 obtain ⟨w1,w2,w3,w4,w5⟩:=hv.2.2.2.2.2.2.1 w (List.mem_of_getElem? hw)
 obtain ⟨f,hf⟩:∃f:Nat,w.f=(f:Int):=⟨w.f.toNat,by omega⟩
 obtain ⟨g,hg⟩:∃g:Nat,w.t=(g:Int):=⟨w.t.toNat,by omega⟩
 have hfl:f<p.stages.length:=by omega
 have hfx:p.stages[f]?=some p.stages[f]!:=get!_some hfl
 have hgx:p.stages[g]?=some p.stages[g]!:=get!_some (by omega)
 generalize p.stages[f]! = sf at *
 generalize p.stages[g]! = sg at *
 have x1:∀A,ae 3 A b (.int .i64 (k:Int))=some (.fp [.int .i64 (f:Int),.int .i64 (g:Int),.int .i64 w.l]):=fun A=>by
  have:=hb.index (A:=A) (x:=bi w) (by rw [List.getElem?_map,hw]; rfl) rfl (by simp) .i64
  rw [this,<-hf,<-hg]; rfl
 have x2:∀A,ae 6 A a (.int .i64 (f:Int))=some (.fp [.int .i64 sf.mn,.int .i64 sf.mx,.int .i64 sf.mt,.int .i64 sf.ms,.int .i64 sf.st,.int .i64 sf.ss]):=fun A=>ha.index (A:=A) (x:=aI sf) (by rw [List.getElem?_map,hfx]; rfl) rfl (by simp) .i64
 have x3:∀A,ae 6 A a (.int .i64 (g:Int))=some (.fp [.int .i64 sg.mn,.int .i64 sg.mx,.int .i64 sg.mt,.int .i64 sg.ms,.int .i64 sg.st,.int .i64 sg.ss]):=fun A=>ha.index (A:=A) (x:=aI sg) (by rw [List.getElem?_map,hgx]; rfl) rfl (by simp) .i64
 have b1:=bK k p.wins.length .i64
 rw [decide_eq_true hk] at b1
 have b3:=aY k (by have:=hv.2.2.2.2.1; omega)
 obtain ⟨e1,he1⟩:∃e1:Ent,e1=.row 3 false [.agg [.int .i64 (f:Int),.int .i64 (g:Int),.int .i64 w.l]]:=⟨_,rfl⟩
 obtain ⟨e2,he2⟩:∃e2:Ent,e2=.row 2 false [.agg [.int .i64 sg.mt,.int .i64 sg.ms]]:=⟨_,rfl⟩
 obtain ⟨q1,hq1⟩:∃q,q=S.length+1+T.length:=⟨_,rfl⟩
 obtain ⟨q2,hq2⟩:∃q,q=S.length+1+(T++[e1]).length:=⟨_,rfl⟩
 have r1:∀(h:aE) x K,run (cG GS dH h) 50 (.code BT :: K) [yv x,.ptr 3 0 0,.undef,.undef,.undef,.undef,.undef,.undef,.undef,.undef,.undef,.undef,b,.int .i64 (p.wins.length:Int),.int .i64 (k:Int),.bool true,.undef] (Gd S T x) =
   run (cG GS dH h) 50 K [yv x,.ptr 3 0 0,.undef,.ptr q1 0 0,.undef,.undef,.undef,.undef,.undef,.undef,.undef,.undef,b,.int .i64 (p.wins.length:Int),.int .i64 (k:Int),.bool true,.undef] (Gd S (T++[e1]) x):=fun h x K=>by
  rw [<-jO,hq1,<-jN S T x,he1]
  generalize (p.wins.length:Int)=N at *
  generalize (k:Int)=K at *
  generalize Gd S T x=A at *
  simp [BT,x1,-ae]
 have r2:∀(h:aE) x K,run (cG GS dH h) 50 (.code BS :: K) [yv x,.ptr 3 0 0,.undef,.ptr q1 0 0,.undef,.undef,.undef,.undef,.undef,.undef,.undef,.undef,b,.int .i64 (p.wins.length:Int),.int .i64 (k:Int),.bool true,.undef] (Gd S (T++[e1]) x) =
   run (cG GS dH h) 50 K [yv x,.ptr 3 0 0,.undef,.ptr q1 0 0,.ptr q2 0 0,.undef,.undef,.undef,.undef,.undef,.undef,.undef,b,.int .i64 (p.wins.length:Int),.int .i64 (k:Int),.bool true,.undef] (Gd S (T++[e1]++[e2]) x):=fun h x K=>by
  have g3:=pm h3 (T++[e1]) x
  have g4:=qp S T e1 x
  rw [<-hq1] at g4
  rw [<-jO S (T++[e1]),hq2,<-jN S (T++[e1]) x]
  generalize Gd S (T++[e1]) x=A1 at *
  rw [he1] at g4
  rw [he2]
  unfold ax at *
  generalize (p.wins.length:Int)=N at *
  generalize (k:Int)=K at *
  generalize (f:Int)=F at *
  generalize (g:Int)=G' at *
  simp [BS,g3,g4,x3,-ae]
 obtain ⟨T2,d,hd2,⟨X,hX⟩,c⟩:=yF ha hb hv S (T++[e1]++[e2]) sg.mt sg.ms
 obtain ⟨q3,hq3⟩:∃q,q=S.length+1+T2.length:=⟨_,rfl⟩
 obtain ⟨sc,hsc⟩:∃sc,sc=scF p sg.mt sg.ms:=⟨_,rfl⟩
 rw [<-hsc] at c
 obtain ⟨e3,he3⟩:∃e3:Ent,e3=.row 5 false [bM d (mvA p) sc]:=⟨_,rfl⟩
 have k1:∀x,(Gd S (T2++[e3]) x)[q1]?=some e1:=fun x=>by rw [hq1,vT,hX]; simp
 have r3:∀(h:aE) x K,run (cG GS dH h) 50 (.code BR :: K) [yv x,.ptr 3 0 0,.undef,.ptr q1 0 0,.ptr q2 0 0,.undef,.undef,.undef,.undef,.undef,.undef,.undef,b,.int .i64 (p.wins.length:Int),.int .i64 (k:Int),.bool true,.undef] (Gd S (T++[e1]++[e2]) x) =
   run (cG GS dH h) 50 K [yv x,.ptr 3 0 0,.undef,.ptr q1 0 0,.ptr q2 0 0,.ptr q3 0 0,.undef,.undef,.undef,.undef,.undef,.undef,b,.int .i64 (p.wins.length:Int),.int .i64 (k:Int),.bool true,.undef] (Gd S (T2++[e3]) x):=fun h x K=>by
  have g3:=pm h3 (T++[e1]++[e2]) x
  have g4:=qp S (T++[e1]) e2 x
  rw [<-hq2] at g4
  have c:=c h x
  rw [<-jO S T2,hq3,<-jN S T2 x]
  generalize Gd S (T++[e1]++[e2]) x=A2 at *
  generalize Gd S T2 x=A3 at *
  rw [he2] at g4
  rw [he3]
  clear hsc he3 k1
  unfold ax bM at *
  generalize (p.wins.length:Int)=N at *
  generalize (k:Int)=K at *
  simp [BR,g3,g4,c]
 rcases hd2 with ⟨_,h0⟩ | ⟨hne,j,hdj,hj⟩
 ·have:p.stages.length=0:=by simpa using congrArg List.length h0
  omega
 obtain ⟨T4,hT4⟩:∃T4,T4=(T2++[e3]).set j (.row 1 false (((p.stages.map (·.mx)).set f sf.mn).map (.int .i64))):=⟨_,rfl⟩
 have jl:j<T2.length:=(List.getElem?_eq_some_iff.1 hj).1
 have k5:∀x,(Gd S (T2++[e3]) x)[q3]?=some e3:=fun x=>by rw [hq3]; exact qp S T2 e3 x
 have r4:∀(h:aE) x K,run (cG GS dH h) 50 (.code BQ :: K) [yv x,.ptr 3 0 0,.undef,.ptr q1 0 0,.ptr q2 0 0,.ptr q3 0 0,.undef,.undef,.undef,.undef,.undef,.undef,b,.int .i64 (p.wins.length:Int),.int .i64 (k:Int),.bool true,.undef] (Gd S (T2++[e3]) x) =
   run (cG GS dH h) 50 K [yv x,.ptr 3 0 0,.undef,.ptr q1 0 0,.ptr q2 0 0,.ptr q3 0 0,.undef,.undef,.undef,.undef,.undef,.undef,b,.int .i64 (p.wins.length:Int),.int .i64 (k:Int),.bool true,.undef] (Gd S T4 x):=fun h x K=>by
  have g3:=pm h3 (T2++[e3]) x
  have k1:=k1 x
  have k5:=k5 x
  have kj:(Gd S (T2++[e3]) x)[S.length+1+j]?=some (.row 1 false ((p.stages.map (·.mx)).map (.int .i64))):=by
   rw [vT,List.getElem?_append_left jl]; exact hj
  have y1:ae 1 (Gd S (T2++[e3]) x) d (.int .i64 (f:Int))=some (.ptr (S.length+1+j) f 0):=by
   rw [hdj]
   simp only [ae,kj,List.length_map]
   rw [if_pos ⟨trivial,by omega,by omega,by omega⟩]
   simp
  have st:aP 1 (Gd S (T2++[e3]) x) (.ptr (S.length+1+j) f 0) (.int .i64 sf.mn)=some (Gd S T4 x):=by
   have e:((p.stages.map (·.mx)).map (AV.int .i64))[f]?=some (.int .i64 sf.mx):=by
    rw [List.getElem?_map,List.getElem?_map,hfx]; rfl
   simp only [aP,kj,e]
   have:((p.stages.map (·.mx)).map (AV.int .i64)).set f (.int .i64 sf.mn)=((p.stages.map (·.mx)).set f sf.mn).map (.int .i64):=(List.map_set ..).symm
   simp only [AV.solid,cellsOf,List.length_singleton,az,and_self,if_true,this]
   rw [if_pos (by simp),hT4,Jx]
  generalize Gd S (T2++[e3]) x=A3 at *
  generalize Gd S T4 x=A4 at *
  rw [he1] at k1
  rw [he3] at k5
  clear hdj hsc
  unfold ax bM at *
  generalize (p.wins.length:Int)=N at *
  generalize (k:Int)=K at *
  generalize (f:Int)=F at *
  simp [BQ,g3,k1,k5,x2,y1,st,-ae,-aP]
 obtain ⟨s2,hs2⟩:∃s2:Scn,s2=⟨(p.stages.map (·.mx)).set f sf.mn,sc.moves,sc.detour,sc.tool,sc.at_⟩:=⟨_,rfl⟩
 have k6:∀x,(Gd S T4 x)[q3]?=some (.row 5 false [bM d (mvA p) s2]):=fun x=>by
  rw [hq3,vT,hT4,List.getElem?_set_ne (by omega)]
  rw [List.getElem?_append_right (Nat.le_refl _),he3,hs2]
  simp [bM]
 have r5:∀(o:Bool) (A:aa) x,hd x (yv x) [bM d (mvA p) s2] (Gd S T4 x)=some (.bool o,A)->∀K,run (cG GS dH (hd x)) 50 (.code BP :: K) [yv x,.ptr 3 0 0,.undef,.ptr q1 0 0,.ptr q2 0 0,.ptr q3 0 0,.undef,.undef,.undef,.undef,.undef,.undef,b,.int .i64 (p.wins.length:Int),.int .i64 (k:Int),.bool true,.undef] (Gd S T4 x) =
   run (cG GS dH (hd x)) 50 K [yv x,.ptr 3 0 0,.undef,.ptr q1 0 0,.ptr q2 0 0,.ptr q3 0 0,.undef,.undef,.undef,.undef,.undef,.undef,b,.int .i64 (p.wins.length:Int),.int .i64 (k:Int),.bool true,.bool (!o)] A:=fun o A x hyx K=>by
  have k6:=k6 x
  generalize Gd S T4 x=A4 at *
  clear hs2
  unfold yv bM at *
  generalize (p.wins.length:Int)=N at *
  generalize (k:Int)=K at *
  simp [BP,k6,hyx]
 have hd4:EJ S T4 d s2.durs:=by
  rw [hs2,hT4]
  refine .inr ⟨by intro h; exact hne (by simpa using h),j,by rw [hdj]; simp,?_⟩
  rw [List.getElem?_set_self (by simp; omega)]
 have hm4:SlA 1 (s2.moves.map (.int .i64)) (mvA p):=by rw [hs2,hsc]; exact tY p sg.mt sg.ms
 generalize T++[e1]++[e2]=Tb at r2 r3
 rcases hy.y T4 s2 d (mvA p) hd4 hm4 with ⟨T',h⟩ | ⟨S',T',hfin,h⟩
 ·refine .inl ⟨T',fun x=>?_⟩
  have r5:=r5 true _ x (h x)
  have r1:=r1 (hd x) x
  have r2:=r2 (hd x) x
  have r3:=r3 (hd x) x
  have r4:=r4 (hd x) x
  rw [ku]
  generalize ((k+1:Nat):Int)=K1 at *
  generalize (p.wins.length:Int)=N at *
  generalize (k:Int)=K at *
  simp [r1,r2,r3,r4,r5,b1,b3,-aj]
 ·refine .inr ⟨S',T',hfin,fun x=>⟨[yv x,.ptr 3 0 0,.undef,.ptr q1 0 0,.ptr q2 0 0,.ptr q3 0 0,.undef,.undef,.undef,.undef,.undef,.undef,b,.int .i64 (p.wins.length:Int),.int .i64 (k:Int),.bool true,.bool true],?_⟩⟩
  have r5:=r5 false _ x (h x)
  have r1:=r1 (hd x) x
  have r2:=r2 (hd x) x
  have r3:=r3 (hd x) x
  have r4:=r4 (hd x) x
  rw [ku]
  generalize (p.wins.length:Int)=N at *
  generalize (k:Int)=K at *
  simp [r1,r2,r3,r4,r5,b1,-aj]
end
end Sh
namespace Sh
open Go
section
variable {p:Pl} {a b:AV} (ha:SlA 6 (p.stages.map aI) a) (hb:SlA 3 (p.wins.map bi) b) (hv:cL p)
include ha hb hv
theorem Cg {S:aa} {hd:Nat × Loop->aE} {Fin:aa->Prop} (hy:HY S hd Fin) (h3:S[3]?=some (.row 5 false [ax p a b])):∀(κ i m:Nat) (T:aa),i+κ=p.stages.length->κ<m ->
  (∃T',∀x,bI (evC (cG GS dH (hd x)) 50 fj) gA m (fY (yv x) (.ptr 3 0 0) a (.int .i64 (p.stages.length:Int)) (.int .i64 (i:Int))) (Gd S T x)=some (.exit 0 ((fY (yv x) (.ptr 3 0 0) a (.int .i64 (p.stages.length:Int)) (.int .i64 (p.stages.length:Int))).set 10 (.bool false)) (Gd S T' x))) \/
  (∃S' T',Fin S'/\∀x,∃ σ,bI (evC (cG GS dH (hd x)) 50 fj) gA m (fY (yv x) (.ptr 3 0 0) a (.int .i64 (p.stages.length:Int)) (.int .i64 (i:Int))) (Gd S T x)=some (.ret σ (Ge S' T' x))):=by
 intro κ
 induction κ with
 | zero=>
  intro i m T hi hm
  obtain ⟨m,rfl⟩:∃m',m=m'+1:=⟨m-1,by omega⟩
  obtain rfl:i=p.stages.length:=by omega
  refine .inl ⟨T,fun x=>?_⟩
  rw [aF,mR]
  simp [fj]
 | succ κ ih=>
  intro i m T hi hm
  obtain ⟨m,rfl⟩:∃m',m=m'+1:=⟨m-1,by omega⟩
  rcases wW ha hb hv hy h3 T (i:=i) (by omega) with ⟨T',h⟩ | ⟨S',T',hf,h⟩
  ·rcases ih (i+1) m T' (by omega) (by omega) with ⟨T2,k⟩ | ⟨S2,T2,hf,k⟩
   ·refine .inl ⟨T2,fun x=>?_⟩
    rw [aF,mR,h x]
    exact k x
   ·refine .inr ⟨S2,T2,hf,fun x=>?_⟩
    rw [aF,mR,h x]
    exact k x
  ·refine .inr ⟨S',T',hf,fun x=>?_⟩
   obtain ⟨σ,h⟩:=h x
   refine ⟨σ,?_⟩
   rw [aF,mR,h]
theorem xA {S:aa} {hd:Nat × Loop->aE} {Fin:aa->Prop} (hy:HY S hd Fin) (h3:S[3]?=some (.row 5 false [ax p a b])):∀(κ i m:Nat) (T:aa),i+κ=p.wins.length->κ<m ->
  (∃T',∀x,bI (evC (cG GS dH (hd x)) 50 fh) gz m (fX (yv x) (.ptr 3 0 0) b (.int .i64 (p.wins.length:Int)) (.int .i64 (i:Int))) (Gd S T x)=some (.exit 2 ((fX (yv x) (.ptr 3 0 0) b (.int .i64 (p.wins.length:Int)) (.int .i64 (p.wins.length:Int))).set 15 (.bool false)) (Gd S T' x))) \/
  (∃S' T',Fin S'/\∀x,∃ σ,bI (evC (cG GS dH (hd x)) 50 fh) gz m (fX (yv x) (.ptr 3 0 0) b (.int .i64 (p.wins.length:Int)) (.int .i64 (i:Int))) (Gd S T x)=some (.ret σ (Ge S' T' x))):=by
 intro κ
 induction κ with
 | zero=>
  intro i m T hi hm
  obtain ⟨m,rfl⟩:∃m',m=m'+1:=⟨m-1,by omega⟩
  obtain rfl:i=p.wins.length:=by omega
  refine .inl ⟨T,fun x=>?_⟩
  rw [aF,mQ]
  simp [fh]
 | succ κ ih=>
  intro i m T hi hm
  obtain ⟨m,rfl⟩:∃m',m=m'+1:=⟨m-1,by omega⟩
  rcases ud ha hb hv hy h3 T (k:=i) (by omega) with ⟨T',h⟩ | ⟨S',T',hf,h⟩
  ·rcases ih (i+1) m T' (by omega) (by omega) with ⟨T2,k⟩ | ⟨S2,T2,hf,k⟩
   ·refine .inl ⟨T2,fun x=>?_⟩
    rw [aF,mQ,h x]
    exact k x
   ·refine .inr ⟨S2,T2,hf,fun x=>?_⟩
    rw [aF,mQ,h x]
    exact k x
  ·refine .inr ⟨S',T',hf,fun x=>?_⟩
   obtain ⟨σ,h⟩:=h x
   refine ⟨σ,?_⟩
   rw [aF,mQ,h]
theorem Mp {S:aa} {hd:Nat × Loop->aE} {Fin:aa->Prop} (hy:HY S hd Fin) (h3:S[3]?=some (.row 5 false [ax p a b])) (T:aa) :
  (∃T',∀x,vS (hd x) [yv x,.ptr 3 0 0] (Gd S T x)=some (.tup [],Gd S T' x))\/(∃S' T',Fin S'/\∀x,vS (hd x) [yv x,.ptr 3 0 0] (Gd S T x)=some (.tup [],Ge S' T' x)):=by
 obtain ⟨T1,d,hd1,_,c⟩:=FZ ha hb hv S T
 have la:=ha.len
 have lb:=hb.len
 rw [List.length_map] at la lb
 have n1:=hv.2.2.2.1
 have n2:=hv.2.2.2.2.1
 have e0:((0:Nat):Int)=0:=rfl
 obtain ⟨sc,hsc⟩:∃sc,sc=bM d (mvA p) (scF p (-1) 0):=⟨_,rfl⟩
 rw [<-hsc] at c
 have g3:∀T x,(Gd S T x)[3]?=some (.row 5 false [.agg [.int .i64 p.e,.int .i64 p.lo,.int .i64 p.hi,a,b]]):=fun T x=>pm h3 T x
 rcases hy.y T1 (scF p (-1) 0) d (mvA p) hd1 (tY p _ _) with ⟨T2,h⟩ | ⟨S',T2,hf,h⟩
 ·rcases Cg ha hb hv hy h3 p.stages.length 0 50 T2 (by omega) (by omega) with ⟨T3,lp⟩ | ⟨S',T3,hf,lp⟩
  ·rcases xA ha hb hv hy h3 p.wins.length 0 50 T3 (by omega) (by omega) with ⟨T4,lq⟩ | ⟨S',T4,hf,lq⟩
   ·refine .inl ⟨T4,fun x=>?_⟩
    have h:=h x
    rw [<-hsc] at h
    have c:=c (hd x) x
    have lp:=lp x
    rw [e0] at lp
    have lq:=lq x
    rw [e0] at lq
    have q1:=g3 T x
    have q2:=g3 T2 x
    have q3:=g3 T3 x
    generalize Gd S T x=A0 at *
    generalize Gd S T1 x=A1 at *
    generalize Gd S T2 x=A2 at *
    generalize Gd S T3 x=A3 at *
    generalize Gd S T4 x=A4 at *
    unfold vS
    rw [aH _ _ rfl]
    clear hsc
    unfold yv ax at *
    generalize (p.stages.length:Int)=N at *
    generalize (p.wins.length:Int)=W at *
    simp [sM,q1,c,h,q2,la,qK lp,q3,lb,uL lq,-ay]
   ·refine .inr ⟨S',T4,hf,fun x=>?_⟩
    have h:=h x
    rw [<-hsc] at h
    have c:=c (hd x) x
    have lp:=lp x
    rw [e0] at lp
    obtain ⟨σ,lq⟩:=lq x
    rw [e0] at lq
    have q1:=g3 T x
    have q2:=g3 T2 x
    have q3:=g3 T3 x
    generalize Gd S T x=A0 at *
    generalize Gd S T1 x=A1 at *
    generalize Gd S T2 x=A2 at *
    generalize Gd S T3 x=A3 at *
    generalize Ge S' T4 x=A4 at *
    unfold vS
    rw [aH _ _ rfl]
    clear hsc
    unfold yv ax at *
    generalize (p.stages.length:Int)=N at *
    generalize (p.wins.length:Int)=W at *
    simp [sM,q1,c,h,q2,la,qK lp,q3,lb,uL lq,-ay]
  ·refine .inr ⟨S',T3,hf,fun x=>?_⟩
   have h:=h x
   rw [<-hsc] at h
   have c:=c (hd x) x
   obtain ⟨σ,lp⟩:=lp x
   rw [e0] at lp
   have q1:=g3 T x
   have q2:=g3 T2 x
   generalize Gd S T x=A0 at *
   generalize Gd S T1 x=A1 at *
   generalize Gd S T2 x=A2 at *
   generalize Ge S' T3 x=A3 at *
   unfold vS
   rw [aH _ _ rfl]
   clear hsc
   unfold yv ax at *
   generalize (p.stages.length:Int)=N at *
   simp [sM,q1,c,h,q2,la,qK lp,-ay]
 ·refine .inr ⟨S',T2,hf,fun x=>?_⟩
  have h:=h x
  rw [<-hsc] at h
  have c:=c (hd x) x
  have q1:=g3 T x
  generalize Gd S T x=A0 at *
  generalize Gd S T1 x=A1 at *
  generalize Ge S' T2 x=A2 at *
  unfold vS
  rw [aH _ _ rfl]
  clear hsc
  unfold yv ax at *
  simp [sM,q1,c,h]
end
def H75:aB:=fun _=>bN (ac GS []) 0 K6
theorem E3:au Tryz.prog GS 75 H75:=(aG (E:=ac GS []) (ai an) rfl at75 If aU.nil).y
theorem ev75 (h:aE) (A:aa) (p:Pl) (a b:AV):H75 h [ax p a b] A=some (.func (.func 130) [] [.ptr A.length 0 0],A++[.row 5 false [ax p a b]]):=by
 unfold H75
 rw [aH _ _ rfl]
 unfold ax
 simp [K6]
end Sh
namespace Sh
open Go
def kB:List (FuncId × aB):=[(12,ec 4 M12),(73,aK 4 M73),(74,aK 4 M74),(75,H75),(130,vS)]
@[simp] theorem L9:aR kB 12=some (ec 4 M12):=rfl
@[simp] theorem L8:aR kB 73=some (aK 4 M73):=rfl
@[simp] theorem L7:aR kB 74=some (aK 4 M74):=rfl
@[simp] theorem L6:aR kB 75=some H75:=rfl
@[simp] theorem Ke:aR kB 130=some vS:=rfl
def kK:Ent:=.row 5 false [.agg [.nilS,.nilS,.int .i64 0,.int .i64 0,.int .i64 0]]
def S27 (p:Pl) (a b:AV):aa:=[.row 5 false [ax p a b],kK,.row 1 false [.bool false],.row 5 false [ax p a b]]
def σ27 (v0 v6 v7 v8:AV):List AV:=[v0,.ptr 0 0 0,.ptr 1 0 0,.ptr 2 0 0,.undef,.undef,v6,v7,v8,.undef,.undef]
def GV (v0 v6 v7 v8:AV) (x:Nat × Loop):aE:=cR 4 x.1 x.2 (σ27 v0 v6 v7 v8) [9] (evC (ac GS kB) 50 ks) (evC (ac GS kB) 50 iw) (fun _ _ _=>none)
def NW (S:aa):Prop:=S.length=4/\(∃q:List AV,q.length=5/\S[1]?=some (.row 5 false [.agg q]))/\S[2]?=some (.row 1 false [.bool false])
theorem EJ.frz {S T:aa} {o:AV} {l:List Int} (h:EJ S T o l) (e:Ent) (X:aa) (n:Nat):Go.Proofs.YtfkcoekicjjndaaGreat.frz (S++e :: (T++X)) (n+1) o=slA 1 (l.map (.int .i64)):=by
 have:bY (S++e :: (T++X)) o 1 (l.map (.int .i64)):=by
  rcases h with ⟨rfl,rfl⟩ | ⟨h1,j,rfl,h2⟩
  ·exact .inl ⟨rfl,rfl⟩
  ·refine .inr ⟨by simpa using h1,S.length+1+j,by rw [List.length_map],?_⟩
   rw [List.getElem?_append_right (by omega),show S.length+1+j-S.length=j+1 by omega]
   show (T++X)[j]?=_
   rw [List.getElem?_append_left (List.getElem?_eq_some_iff.1 h2).1]
   exact h2
 exact uk this n
section
variable {n0 l:Nat} {r:Loop} {σ σ1 σ2 σ3:List AV} {ps:List Nat} {asg bdy:List AV->aa->Option Out} {h:aE} {args:List AV} {A A2 A3:aa}
theorem gU (h1:A[n0]?=some (.loop r 0)) (hs:fF σ ps args=some σ1) (ha:asg σ1 A=some (.normal σ2 A2)) (h2:A2[n0]?=some (.loop r 0)) (hb:bdy σ2 (A2.set n0 .dead)=some (.normal σ3 A3)):cR n0 l r σ ps asg bdy h (.func (.yield l) [] []) args A=some (.bool true,A3.set n0 (.loop r 0)):=by
 simp [cR,h1,hs,ha,h2,hb]
theorem pn (h1:A[n0]?=some (.loop r 0)) (hs:fF σ ps args=some σ1) (ha:asg σ1 A=some (.normal σ2 A2)) (h2:A2[n0]?=some (.loop r 0)) (hb:bdy σ2 (A2.set n0 .dead)=some (.ret σ3 A3)):cR n0 l r σ ps asg bdy h (.func (.yield l) [] []) args A=some (.bool false,A3.set n0 (.loop r 1)):=by
 simp [cR,h1,hs,ha,h2,hb]
end
theorem Es (S T:aa) (x:Nat × Loop):(Gd S T x)[S.length]?=some (.loop x.2 0):=by simp [Gd]
theorem vU (S T:aa) (x:Nat × Loop):(Gd S T x).set S.length .dead=S ++ .dead :: T:=by simp [Gd]
theorem u5 (S T:aa) (x:Nat × Loop):(S ++ .dead :: T).set S.length (.loop x.2 0)=Gd S T x:=by simp [Gd]
theorem CU (S T:aa) (x:Nat × Loop):(S ++ .dead :: T).set S.length (.loop x.2 1)=Ge S T x:=by simp [Ge]
section
variable {p:Pl} {a b:AV} (ha:SlA 6 (p.stages.map aI) a) (hb:SlA 3 (p.wins.map bi) b)
include ha hb
theorem hy27 (v0 v6 v7 v8:AV):HY (S27 p a b) (GV v0 v6 v7 v8) NW:=by
 refine ⟨fun T s d m hd hm=>?_⟩
 have fa:∀A n,frz A n a=a:=fun A n=>ha.frz n
 have fb:∀A n,frz A n b=b:=fun A n=>hb.frz n
 have fm:∀A n,frz A n m=m:=fun A n=>hm.frz n
 have na:∀n,br n a=true:=fun n=>by cases n <;> rcases ha with ⟨rfl,_⟩ | rfl <;> rfl
 have nb:∀n,br n b=true:=fun n=>by cases n <;> rcases hb with ⟨rfl,_⟩ | rfl <;> rfl
 have nm:∀n,br n m=true:=fun n=>by cases n <;> rcases hm with ⟨rfl,_⟩ | rfl <;> rfl
 have fd:=hd.frz .dead [.row 5 false [bM d m s]] 2
 obtain ⟨e1,e2⟩:=vP p s ha hb (bu 1 (s.durs.map (.int .i64))) hm
 obtain ⟨vs,kd,no,er,hM⟩:∃vs kd no er,M12 [ax p a b,bM (slA 1 (s.durs.map (.int .i64))) m s]=some (.tup [vs,.agg [.int .i64 kd,.int .i64 no],.int .i64 er]):=by
  by_cases hp:bX p s
  ·exact ⟨_,_,_,_,e1 hp⟩
  ·exact ⟨_,_,_,_,e2 hp⟩
 have ne:=uX kd 0
 clear e1 e2
 generalize slA 1 (s.durs.map (.int .i64))=ds at *
 have sA:fF (σ27 v0 v6 v7 v8) [9] [bM d m s]=some [v0,.ptr 0 0 0,.ptr 1 0 0,.ptr 2 0 0,.undef,.undef,v6,v7,v8,bM d m s,.undef]:=rfl
 have asg:∀x,evC (ac GS kB) 50 ks [v0,.ptr 0 0 0,.ptr 1 0 0,.ptr 2 0 0,.undef,.undef,v6,v7,v8,bM d m s,.undef] (Gd (S27 p a b) T x)=some (.normal [v0,.ptr 0 0 0,.ptr 1 0 0,.ptr 2 0 0,.ptr (5+T.length) 0 0,.undef,v6,v7,v8,bM d m s,.undef] (Gd (S27 p a b) (T++[.row 5 false [bM d m s]]) x)):=fun x=>by
  have l:=jN (S27 p a b) T x
  have l:(Gd (S27 p a b) T x).length=5+T.length:=l
  rw [dv,<-jO,<-l]
  generalize Gd (S27 p a b) T x=A at *
  unfold bM
  simp [ks,az]
 have g0:∀x,(Gd (S27 p a b) T x)[4]?=some (.loop x.2 0):=fun x=>Es (S27 p a b) T x
 have g1:∀x,(Gd (S27 p a b) (T++[.row 5 false [bM d m s]]) x)[4]?=some (.loop x.2 0):=fun x=>Es (S27 p a b) _ x
 have g2:∀x,(Gd (S27 p a b) (T++[.row 5 false [bM d m s]]) x).set 4 .dead=S27 p a b ++ .dead :: (T++[.row 5 false [bM d m s]]):=fun x=>vU (S27 p a b) _ x
 obtain ⟨B1,hB1⟩:∃B1,B1=S27 p a b ++ .dead :: (T++[.row 5 false [bM d m s]]):=⟨_,rfl⟩
 have m0:B1[0]?=some (.row 5 false [ax p a b]):=by rw [hB1]; rfl
 have m1:B1[1]?=some kK:=by rw [hB1]; rfl
 have m2:B1[2]?=some (.row 1 false [.bool false]):=by rw [hB1]; rfl
 have m5:B1[5+T.length]?=some (.row 5 false [bM d m s]):=by
  rw [hB1,show S27 p a b ++ .dead :: (T++[.row 5 false [bM d m s]])=(S27 p a b ++ .dead :: T)++[.row 5 false [bM d m s]] by simp,List.getElem?_append_right (by simp [S27]; omega)]
  have:5+T.length-(S27 p a b++Ent.dead :: T).length=0:=by simp [S27]; omega
  rw [this]; rfl
 have lB:B1.length=6+T.length:=by rw [hB1]; simp [S27]; omega
 rw [<-hB1] at fd
 by_cases hk:kd=0
 ·rw [decide_eq_true hk] at ne
  refine .inl ⟨T++[.row 5 false [bM d m s]]++[.row 2 false [.agg [.int .i64 kd,.int .i64 no]]],fun x=>?_⟩
  have hC:S27 p a b ++ .dead :: (T++[.row 5 false [bM d m s]]++[.row 2 false [.agg [.int .i64 kd,.int .i64 no]]])=B1++[.row 2 false [.agg [.int .i64 kd,.int .i64 no]]]:=by rw [hB1]; simp
  have body:evC (ac GS kB) 50 iw [v0,.ptr 0 0 0,.ptr 1 0 0,.ptr 2 0 0,.ptr (5+T.length) 0 0,.undef,v6,v7,v8,bM d m s,.undef] B1=some (.normal [.undef,.undef,.undef,.undef,.undef,.undef,.undef,.undef,.undef,.undef,.undef] (B1++[.row 2 false [.agg [.int .i64 kd,.int .i64 no]]])):=by
   rw [dv]
   clear asg sA g0 g1 g2 hB1 hC hd
   unfold ax bM at *
   generalize 5+T.length=q at *
   simp [iw,m0,m5,fa,fb,fm,fd,hM,ne,-aj]
  have:=gU (h:=fun _ _ _=>none) (l:=x.1) (g0 x) sA (asg x) (g1 x) (by rw [g2 x,<-hB1]; exact body)
  unfold GV yv
  rw [this,<-hC]
  exact congrArg (fun z=>some (AV.bool true,z)) (u5 (S27 p a b) _ x)
 ·rw [decide_eq_false hk] at ne
  refine .inr ⟨[.row 5 false [ax p a b],.row 5 false [bM d m s],.row 1 false [.bool false],.row 5 false [ax p a b]],T++[.row 5 false [bM d m s]]++[.row 2 false [.agg [.int .i64 kd,.int .i64 no]]],⟨rfl,⟨_,rfl,rfl⟩,rfl⟩,fun x=>?_⟩
  obtain ⟨C,hC⟩:∃C,C=B1++[.row 2 false [.agg [.int .i64 kd,.int .i64 no]]]:=⟨_,rfl⟩
  have c1:C[1]?=some kK:=by rw [hC,List.getElem?_append_left (by omega)]; exact m1
  have c2:C[2]?=some (.row 1 false [.bool false]):=by rw [hC,List.getElem?_append_left (by omega)]; exact m2
  have c5:C[5+T.length]?=some (.row 5 false [bM d m s]):=by rw [hC,List.getElem?_append_left (by omega)]; exact m5
  have c6:C[B1.length]?=some (.row 2 false [.agg [.int .i64 kd,.int .i64 no]]):=by rw [hC]; simp
  have hD:(C.set 1 (.row 5 false [bM d m s])).set 2 (.row 1 false [.bool false])=[.row 5 false [ax p a b],.row 5 false [bM d m s],.row 1 false [.bool false],.row 5 false [ax p a b]] ++ .dead :: (T++[.row 5 false [bM d m s]]++[.row 2 false [.agg [.int .i64 kd,.int .i64 no]]]):=by
   rw [hC,hB1]
   simp [S27]
  have c2':(C.set 1 (.row 5 false [bM d m s]))[2]?=some (.row 1 false [.bool false]):=by rw [List.getElem?_set_ne (by omega)]; exact c2
  have body:evC (ac GS kB) 50 iw [v0,.ptr 0 0 0,.ptr 1 0 0,.ptr 2 0 0,.ptr (5+T.length) 0 0,.undef,v6,v7,v8,bM d m s,.undef] B1=some (.ret [v0,.ptr 0 0 0,.ptr 1 0 0,.ptr 2 0 0,.ptr (5+T.length) 0 0,.ptr B1.length 0 0,v6,v7,v8,bM d m s,.bool true] ((C.set 1 (.row 5 false [bM d m s])).set 2 (.row 1 false [.bool false]))):=by
   rw [dv]
   clear asg sA g0 g1 g2 hB1 hd hD lB
   unfold ax bM kK at *
   generalize 5+T.length=q at *
   simp [iw,m0,m5,fa,fb,fm,fd,hM,ne,<-hC,c1,c5,c6,c2',az,-aj]
  have:=pn (h:=fun _ _ _=>none) (l:=x.1) (g0 x) sA (asg x) (g1 x) (by rw [g2 x,<-hB1]; exact body)
  unfold GV yv
  rw [this,hD]
  rfl
end
def M27:aN:=fun args=>evP (ac GS kB) 50 Ex 4 args
theorem yx:ak Tryz.prog GS 27 M27:=ak.of_ev (E:=ac GS kB) (ai (ag (au.of_pureF tV 4) (ag (au.of_pure E4 4) (ag (au.of_pure rD 4) (ag E3 (ag Ai an)))))) rfl at27 Iw 4 fun _ _ h=>⟨50,h⟩
theorem IV (p:Pl) {a b:AV} (ha:SlA 6 (p.stages.map aI) a) (hb:SlA 3 (p.wins.map bi) b):∃(x:List AV) (v:Bool),x.length=5/\M27 [ax p a b]=some (.tup [.agg x,.bool v])/\(v=true↔vJ p):=by
 obtain ⟨v1,h1,i1⟩:=IR p ha hb
 obtain ⟨v2,h2,i2⟩:=sk p ha hb
 have fa:∀A n,frz A n a=a:=fun A n=>ha.frz n
 have fb:∀A n,frz A n b=b:=fun A n=>hb.frz n
 cases v1 with
 | true=>
  refine ⟨[.nilS,.nilS,.int .i64 0,.int .i64 0,.int .i64 0],true,rfl,?_,i1⟩
  unfold M27
  rw [aZ _ _ rfl]
  unfold ax at *
  simp [Ex,h1,fa,fb,az]
 | false=>
  cases v2 with
  | false=>
   refine ⟨[.nilS,.nilS,.int .i64 0,.int .i64 0,.int .i64 0],false,rfl,?_,i1⟩
   unfold M27
   rw [aZ _ _ rfl]
   unfold ax at *
   simp [Ex,h1,h2,fa,fb,az]
  | true=>
   have hv:=i2.1 rfl
   have hy:=hy27 ha hb (ax p a b) (.bool false) (.bool true) (.func (.func 130) [] [.ptr 3 0 0])
   have e75:=ev75 (fun _ _ _=>none) [.row 5 false [ax p a b],kK,.row 1 false [.bool false]] p a b
   rcases Mp ha hb hv hy rfl [] with ⟨T',h⟩ | ⟨S',T',⟨hl,⟨q,hql,hq⟩,hf⟩,h⟩
   ·have rf:∀k,run (ac GS kB) 50 (.code (.rangeFunc (.var 8) [9] ks iw) :: k) (σ27 (ax p a b) (.bool false) (.bool true) (.func (.func 130) [] [.ptr 3 0 0])) (S27 p a b)=after (ac GS kB) 50 k (.normal (σ27 (ax p a b) (.bool false) (.bool true) (.func (.func 130) [] [.ptr 3 0 0])) (S27 p a b ++ .dead :: T')):=fun k=>by
     refine cY _ _ _ _ _ fun l r=>?_
     have h:vS (GV (ax p a b) (.bool false) (.bool true) (.func (.func 130) [] [.ptr 3 0 0]) (l,r)) [.func (.yield l) [] [],.ptr 3 0 0] (S27 p a b++[.loop r 0])=some (.tup [],S27 p a b ++ .loop r 0 :: T'):=h (l,r)
     have e:(ac GS kB).callY (cR (S27 p a b).length l r (σ27 (ax p a b) (.bool false) (.bool true) (.func (.func 130) [] [.ptr 3 0 0])) [9] (evC (ac GS kB) 50 ks) (evC (ac GS kB) 50 iw) (ac GS kB).hand) (evX (ac GS kB) (σ27 (ax p a b) (.bool false) (.bool true) (.func (.func 130) [] [.ptr 3 0 0])) [] (.var 8)) [.func (.yield l) [] []] (S27 p a b++[Ent.loop r 0])=some (.tup [],S27 p a b ++ .loop r 0 :: T'):=h
     rw [e]
     have g:(S27 p a b ++ .loop r 0 :: T')[(S27 p a b).length]?=some (.loop r 0):=by simp
     simp only [fJ,g]
     simp
    have ze:(S27 p a b ++ .dead :: T')[1]?=some kK:=rfl
    have zf:(S27 p a b ++ .dead :: T')[2]?=some (.row 1 false [.bool false]):=rfl
    have z2:((S27 p a b ++ .dead :: T').set 1 kK)[2]?=some (.row 1 false [.bool false]):=rfl
    have z1:(((S27 p a b ++ .dead :: T').set 1 kK).set 2 (.row 1 false [.bool false]))[1]?=some kK:=rfl
    have z3:(((S27 p a b ++ .dead :: T').set 1 kK).set 2 (.row 1 false [.bool false]))[2]?=some (.row 1 false [.bool false]):=rfl
    refine ⟨[.nilS,.nilS,.int .i64 0,.int .i64 0,.int .i64 0],false,rfl,?_,i1⟩
    unfold M27
    rw [aZ _ _ rfl]
    clear hy h
    generalize S27 p a b ++ .dead :: T'=D at *
    unfold S27 σ27 kK ax at *
    simp [Ex,h1,h2,fa,fb,e75,rf,ze,z1,z2,z3,az]
   ·have rf:∀k,run (ac GS kB) 50 (.code (.rangeFunc (.var 8) [9] ks iw) :: k) (σ27 (ax p a b) (.bool false) (.bool true) (.func (.func 130) [] [.ptr 3 0 0])) (S27 p a b)=after (ac GS kB) 50 k (.ret (σ27 (ax p a b) (.bool false) (.bool true) (.func (.func 130) [] [.ptr 3 0 0])) (S' ++ .dead :: T')):=fun k=>by
     refine cY _ _ _ _ _ fun l r=>?_
     have h:vS (GV (ax p a b) (.bool false) (.bool true) (.func (.func 130) [] [.ptr 3 0 0]) (l,r)) [.func (.yield l) [] [],.ptr 3 0 0] (S27 p a b++[.loop r 0])=some (.tup [],S' ++ .loop r 1 :: T'):=h (l,r)
     have e:(ac GS kB).callY (cR (S27 p a b).length l r (σ27 (ax p a b) (.bool false) (.bool true) (.func (.func 130) [] [.ptr 3 0 0])) [9] (evC (ac GS kB) 50 ks) (evC (ac GS kB) 50 iw) (ac GS kB).hand) (evX (ac GS kB) (σ27 (ax p a b) (.bool false) (.bool true) (.func (.func 130) [] [.ptr 3 0 0])) [] (.var 8)) [.func (.yield l) [] []] (S27 p a b++[Ent.loop r 0])=some (.tup [],S' ++ .loop r 1 :: T'):=h
     rw [e]
     have el:(S27 p a b).length=S'.length:=hl.symm
     have g:(S' ++ .loop r 1 :: T')[(S27 p a b).length]?=some (.loop r 1):=by rw [el]; simp
     simp only [fJ,g]
     rw [el]
     simp
    have l1:(S' ++ .dead :: T')[1]?=some (.row 5 false [.agg q]):=by rw [List.getElem?_append_left (by omega)]; exact hq
    have l2:(S' ++ .dead :: T')[2]?=some (.row 1 false [.bool false]):=by rw [List.getElem?_append_left (by omega)]; exact hf
    refine ⟨q.map (frz (S' ++ .dead :: T') 2),false,by rw [List.length_map]; exact hql,?_,i1⟩
    unfold M27
    rw [aZ _ _ rfl]
    clear hy h
    generalize S' ++ .dead :: T'=D at *
    unfold S27 σ27 kK ax at *
    simp [Ex,h1,h2,fa,fb,e75,rf,l1,l2]
end Sh
namespace Sh
open Go
open Go.RowKit Go.Lib
theorem dZ {P:Program} (w:World) (dT sT ty elem:TypeId) (s b o dLen dCap:Nat) (a:Addr) (sLen sCap:Nat) (cs:List Value) (cur:Array Value) (T:TypeId) (fz:Nat × Nat)
  (hu:P.underlying dT=some (.slice elem)) (hs:(P.info? elem).map (·.size)=some s) (hn:cs.length=Nat.min sLen dLen*s)
  (hsrc:∀j v,cs[j]?=some v->w.cell? (a.add j)=some v) (hb:w.heap[b]?=some (.cells cur T fz)) (hf:dy cur fz) (hfit:o+cs.length<=cur.size) (h1:∀v∈cs,v.oneCell'=true) :
  (Builtin.copy_ #[dT,sT] ty #[.slice (some ⟨b,o,none⟩) dLen dCap,.slice (some a) sLen sCap]).run P w=.ok (goInt (Nat.min sLen dLen)) (w.setRow b (splice cur o cs)):=by
 have hl:=run_loadCells_list (P:=P) w a cs hsrc
 have hst:=bJ P b o T fz cs 0 cur w hb hf (by simpa using hfit) h1
 rw [Nat.add_zero] at hst
 cases hq:P.info? elem with
 | none=>simp [hq] at hs
 | some i=>
  have hi:i.size=s:=by simpa [hq] using hs
  rw [hn] at hl
  simp [Builtin.copy_,Go.run_underlying hu,Builtin.lenOf,Builtin.firstCells,sizeOf,typeInfo,hq,hi,hl,hst]
theorem nQ:Tryz.prog.underlying 101=some (.slice 104):=by kernel_rfl
theorem t3:Tryz.prog.underlying 3=some (.int .i64):=by kernel_rfl
theorem t4:Tryz.prog.underlying 4=some .bool:=by kernel_rfl
theorem JL:(Tryz.prog.info? 104).map (·.size)=some 4:=by kernel_rfl
theorem wp (w:World):(Go.sizeOf 104).run Tryz.prog w=.ok 4 w:=by kernel_rfl
theorem dA {w:World} {b:Nat} {c:Array Value} {T:TypeId} {fz:Nat × Nat} (h:w.heap[b]?=some (.cells c T fz)) (j:Nat):w.cell? ⟨b,j,none⟩=c[j]?:=by simp [World.cell?,h]
theorem pr {w:World} {b:Nat} {c:Array Value} {T:TypeId} {fz:Nat × Nat} (h:w.heap[b]?=some (.cells c T fz)):w.shape? b=some (T,c.size):=by simp [World.shape?,h]
theorem uN {w:World} {b:Nat} {c:Array Value} {T:TypeId} (h:w.heap[b]?=some (.cells c T (0,0))) (j:Nat):w.frozen? ⟨b,j,none⟩=false:=by simp [World.frozen?,h]
theorem uB (b ao n c i vb:Nat) (cb cv:Array Value) (T Tv:TypeId) (fz:Nat × Nat) (w:World) (hi:i<n) (hroom:n+1<=c) (hn63:n+1<=9223372036854775807) (hvb:vb≠b)
  (hb:w.heap[b]?=some (.cells cb T fz)) (hu:dy cb fz) (hfit:ao+c*4<=cb.size) (hv:w.heap[vb]?=some (.cells cv Tv (0,0))) (hvs:cv.size=4)
  (h1c:∀v∈(cb.toList.drop (ao+i*4)).take ((n-i)*4),v.oneCell'=true) (h1v:∀v∈cv.toList,v.oneCell'=true) :
  Calls Tryz.prog 137 #[.slice (some ⟨b,ao,none⟩) n c,.int .i64 i,.slice (some ⟨vb,0,none⟩) 1 1] w fun e w'=>
   e=.returned (.slice (some ⟨b,ao,none⟩) (n+1) c)/\w'=(w.drew.setRow b (splice cb (ao+(i+1)*4) ((cb.toList.drop (ao+i*4)).take ((n-i)*4)))).setRow b (splice (splice cb (ao+(i+1)*4) ((cb.toList.drop (ao+i*4)).take ((n-i)*4))) (ao+i*4) cv.toList):=by
 have t3:=t3; have t4:=t4; have nQ:=nQ
 have u3:=Go.run_underlying t3; have u4:=Go.run_underlying t4; have u101:=Go.run_underlying nQ
 have a3:∀w,(isAgg 3).run Tryz.prog w=.ok false w:=fun w=>by kernel_rfl
 have a4:∀w,(isAgg 4).run Tryz.prog w=.ok false w:=fun w=>by kernel_rfl
 have a101:∀w,(isAgg 101).run Tryz.prog w=.ok false w:=fun w=>by kernel_rfl
 have z3:∀w,(Go.sizeOf 3).run Tryz.prog w=.ok 1 w:=fun w=>by kernel_rfl
 have z101:∀w,(Go.sizeOf 101).run Tryz.prog w=.ok 1 w:=fun w=>by kernel_rfl
 have wp:=wp
 have mixed:Tryz.prog.follows .mixedOrders=true:=by kernel_rfl
 have hz2:¬ ((i:Int)=(n:Int)):=by omega
 obtain ⟨tl,htl⟩:∃tl,tl=(cb.toList.drop (ao+i*4)).take ((n-i)*4):=⟨_,rfl⟩
 rw [<-htl] at h1c ⊢
 have hcl:cb.toList.length=cb.size:=by simp
 have htll:tl.length=(n-i)*4:=by
  rw [htl,List.length_take,List.length_drop,hcl]; omega
 have hne:cb.size≠0:=by omega
 have hov:∀lb cb',(callFunc 167 #[.slice (some ⟨vb,0,none⟩) 1 1,.slice (some ⟨b,ao+(i+1)*4,none⟩) lb cb']).run Tryz.prog w=.ok (.value (.bool false)) w:=fun lb cb'=>by
  rw [run_callFunc_extern (f:=167) (show Tryz.prog.funcs[167]?=some Tryz.f167 by kernel_rfl) (by kernel_rfl) (by kernel_rfl) (by kernel_rfl) (e:=Extern.SlicesOverlaps.overlaps #[101,101] #[4]) (by kernel_rfl),
   Lib.run_overlaps_apart w 101 4 104 nQ 4 wp ⟨vb,0,none⟩ ⟨b,ao+(i+1)*4,none⟩ 1 1 lb cb' hvb Tv T cv.size cb.size (pr hv) (pr hb) hne (uN hv 0) (uN hv cv.size)]
  rfl
 have hcp1:∀ty dc sc,(Builtin.copy_ #[101,101] ty #[.slice (some ⟨b,ao+(i+1)*4,none⟩) (n-i) dc,.slice (some ⟨b,ao+i*4,none⟩) (n+1-i) sc]).run Tryz.prog w.drew=.ok (goInt (n-i)) (w.drew.setRow b (splice cb (ao+(i+1)*4) tl)):=fun ty dc sc=>by
  have:=dZ (P:=Tryz.prog) w.drew 101 101 ty 104 4 b (ao+(i+1)*4) (n-i) dc ⟨b,ao+i*4,none⟩ (n+1-i) sc tl cb T fz nQ JL (by rw [htll]; simp only [Nat.min_def]; split <;> omega)
   (fun j v hj=>by
    rw [Addr.add_lit]
    have hw:w.drew.cell? ⟨b,ao+i*4+j,none⟩=cb[ao+i*4+j]?:=dA (w:=w.drew) hb _
    rw [hw]
    have hjl:j<(n-i)*4:=by have:=(List.getElem?_eq_some_iff.1 hj).1; omega
    rw [htl,List.getElem?_take,if_pos hjl,List.getElem?_drop] at hj
    simpa using hj)
   hb hu (by rw [htll]; omega) h1c
  rw [this]
  congr 2
  simp only [Nat.min_def]; split <;> omega
 obtain ⟨W1,hW1⟩:∃W1,W1=w.drew.setRow b (splice cb (ao+(i+1)*4) tl):=⟨_,rfl⟩
 have hcp2:∀(W:World),W.heap=W1.heap->∀ty dc,(Builtin.copy_ #[101,101] ty #[.slice (some ⟨b,ao+i*4,none⟩) (n+1-i) dc,.slice (some ⟨vb,0,none⟩) 1 1]).run Tryz.prog W=.ok (goInt 1) (W.setRow b (splice (splice cb (ao+(i+1)*4) tl) (ao+i*4) cv.toList)):=fun W hW ty dc=>by
  have hbW:W.heap[b]?=some (.cells (splice cb (ao+(i+1)*4) tl) T fz):=by rw [hW,hW1]; exact setRow_heap w.drew b cb _ T fz hb
  have hvW:W.heap[vb]?=some (.cells cv Tv (0,0)):=by rw [hW,hW1,setRow_other w.drew b vb _ hvb]; exact hv
  have hf1:ao+(i+1)*4+tl.length<=cb.size:=by rw [htll]; omega
  have:=dZ (P:=Tryz.prog) W 101 101 ty 104 4 b (ao+i*4) (n+1-i) dc ⟨vb,0,none⟩ 1 1 cv.toList _ T fz nQ JL (by rw [Array.length_toList,hvs]; simp only [Nat.min_def]; split <;> omega)
   (fun j v hj=>by
    rw [Addr.add_lit,dA hvW,Nat.zero_add]
    simpa using hj)
   hbW (bA hu _ _ hf1) (by rw [bf _ _ _ hf1,Array.length_toList,hvs]; omega) h1v
  rw [this]
  congr 2
  simp only [Nat.min_def]; split <;> omega
 rw [<-hW1] at hcp1 ⊢
 have hw1:IntKind.i64.wrap ((i:Int)+1)=(i:Int)+1:=by rw [IntKind.wrap_i64]; omega
 have hw2:IntKind.i64.wrap ((n:Int)+1)=(n:Int)+1:=by rw [IntKind.wrap_i64]; omega
 have hb1:(0:Int)<=(i:Int)+1:=by omega
 have hin:i<=n:=by omega
 have htn:((i:Int)+1).toNat=i+1:=by omega
 have htn2:((n:Int)+1).toNat=n+1:=by omega
 have hb2:¬ (c=i+1):=by omega
 have hb3:(i:Int)<=(n:Int)+1:=by omega
 have hb4:¬ (c=i):=by omega
 have hgt:¬ ((c:Int)<(n:Int)+1):=by omega
 clear htl htll
 go_enter Tryz.func137,Tryz.ntmps137
 go_wp2_with (simp only [hov])
 go_region_law_o (refine step_copy_runI rfl _ _ 101 101 rfl _ _ (by simp [Act.eval,Act.put]) (by simp [Act.eval,Act.put]) (hcp1 _ _ _) ?_)
 go_wp2_with (at_builtin; refine wpList_copy_runI _ rfl _ _ 101 101 rfl _ _ rfl rfl (hcp2 _ rfl _ _) ?_)
 go_ret
 exact ⟨rfl,by rw [hW1]⟩
end Sh
namespace Sh
open Go
open Go.RowKit Go.Lib
theorem lU {w w0:World} {R R':Array Value} {T:TypeId} (h:w0.heap=w.heap.push (.cells R T)):(w0.setRow w.heap.size R').heap=w.heap.push (.cells R' T):=by
 apply Array.ext_getElem?
 intro k
 by_cases hk:k=w.heap.size
 ·subst hk
  rw [setRow_heap w0 _ R R' T (0,0) (by rw [h]; simp)]
  simp
 ·rw [setRow_other w0 _ _ _ hk,h,Array.getElem?_push,Array.getElem?_push,if_neg hk,if_neg hk]
theorem EO:(Tryz.prog.info? 104).map (fun i=>(i.zero,i.size,i.bytes))=some (some (.agg #[.int .i64 0,.int .i64 0,.int .i64 0,.int .i64 0]),4,32):=by kernel_rfl
theorem xN (b ao n c i vb:Nat) (cb cv:Array Value) (T Tv:TypeId) (fz:Nat × Nat) (w:World) (hi:i<n) (hnc:n<=c) (hroom:c<n+1) (hbig:(n+1)*32<=140737488355328)
  (hb:w.heap[b]?=some (.cells cb T fz)) (hfit:ao+c*4<=cb.size) (hv:w.heap[vb]?=some (.cells cv Tv (0,0))) (hvs:cv.size=4)
  (h1c:∀v∈(cb.toList.drop (ao+i*4)).take ((n-i)*4),v.oneCell'=true) (h1v:∀v∈cv.toList,v.oneCell'=true) :
  Calls Tryz.prog 137 #[.slice (some ⟨b,ao,none⟩) n c,.int .i64 i,.slice (some ⟨vb,0,none⟩) 1 1] w fun e w'=>
   ∃(G:Nat) (R:Array Value),n+1<=G/\R.size=G*4/\R.toList.take (i*4)=(cb.toList.drop ao).take (i*4)/\e=.returned (.slice (some ⟨w.heap.size,0,none⟩) (n+1) G) /\
    w'.heap=w.heap.push (.cells (splice (splice R (i*4) cv.toList) ((i+1)*4) ((cb.toList.drop (ao+i*4)).take ((n-i)*4))) 104)/\w'.os=w.os/\w'.tape=w.tape/\w'.output=w.output:=by
 have t3:=t3; have t4:=t4; have nQ:=nQ
 have u3:=Go.run_underlying t3; have u4:=Go.run_underlying t4; have u101:=Go.run_underlying nQ
 have a3:∀w,(isAgg 3).run Tryz.prog w=.ok false w:=fun w=>by kernel_rfl
 have a4:∀w,(isAgg 4).run Tryz.prog w=.ok false w:=fun w=>by kernel_rfl
 have a101:∀w,(isAgg 101).run Tryz.prog w=.ok false w:=fun w=>by kernel_rfl
 have z3:∀w,(Go.sizeOf 3).run Tryz.prog w=.ok 1 w:=fun w=>by kernel_rfl
 have z101:∀w,(Go.sizeOf 101).run Tryz.prog w=.ok 1 w:=fun w=>by kernel_rfl
 have wp:=wp
 have mixed:Tryz.prog.follows .mixedOrders=true:=by kernel_rfl
 have hz2:¬ ((i:Int)=(n:Int)):=by omega
 have hz3:(c:Int)<(n:Int)+1:=by omega
 have hcn:c=n:=by omega
 obtain ⟨i0,hi0,hz0,hzs,hzb⟩:=info_parts EO
 obtain ⟨tl,htl⟩:∃tl,tl=(cb.toList.drop (ao+i*4)).take ((n-i)*4):=⟨_,rfl⟩
 rw [<-htl] at h1c ⊢
 have hcl:cb.toList.length=cb.size:=by simp
 have htll:tl.length=(n-i)*4:=by
  rw [htl,List.length_take,List.length_drop,hcl]; omega
 obtain ⟨ol,hol⟩:∃ol,ol=(cb.toList.drop ao).take (i*4):=⟨_,rfl⟩
 rw [<-hol]
 have holl:ol.length=i*4:=by
  rw [hol,List.length_take,List.length_drop,hcl]; omega
 have hkk:(n:Int)+1-(i:Int)=((n+1-i:Nat):Int):=by omega
 have hik:i+(n+1-i)=n+1:=by omega
 have hold:(Builtin.firstCells i0.size i (.slice (some ⟨b,ao,none⟩) i c)).run Tryz.prog w.drew=.ok ol.toArray w.drew:=by
  rw [hzs]
  exact run_firstCells_some w.drew 4 i ⟨b,ao,none⟩ i c ol (by rw [holl]) (fun j v hj=>by
   rw [Addr.add_lit]
   have hw:w.drew.cell? ⟨b,ao+j,none⟩=cb[ao+j]?:=dA (w:=w.drew) hb _
   rw [hw]
   have hjl:j<i*4:=by have:=(List.getElem?_eq_some_iff.1 hj).1; omega
   rw [hol,List.getElem?_take,if_pos hjl,List.getElem?_drop] at hj
   simpa using hj)
 have hrz:∀ty,(Builtin.append_ #[101,3] ty #[.slice (some ⟨b,ao,none⟩) i c,.int .i64 ((n:Int)+1-(i:Int))]).run Tryz.prog w =
   .ok (.slice (some ⟨w.heap.size,0,none⟩) (n+1) (grownCap w (n+1) c 104)) (w.drew.alloc (.cells (ol.toArray++Builtin.zeroCells #[.int .i64 0,.int .i64 0,.int .i64 0,.int .i64 0] (n+1-i)++Builtin.zeroCells #[.int .i64 0,.int .i64 0,.int .i64 0,.int .i64 0] (grownCap w (n+1) c 104-(n+1))) 104)):=fun ty=>by
  have h:=Lib.run_append_grow_zeros w 101 3 ty 104 i0 _ .i64 .i64 nQ t3 hi0 hz0 (some ⟨b,ao,none⟩) i c ol hold (n+1-i) (by omega) (by omega) (by omega) (by omega) (by rw [hzb]; omega) (by rw [hzb,hik]; exact growslice_fits hroom hbig)
  rw [hik] at h
  rw [hkk]
  exact h
 obtain ⟨G,hG⟩:∃G,G=grownCap w (n+1) c 104:=⟨_,rfl⟩
 have hGn:n+1<=G:=by rw [hG]; exact grownCap_ge w _ _ _
 have hG63:G<=9223372036854775807:=by
  have:=grownCap_le_maxLen w (n+1) c 104 (by unfold maxLen; omega)
  rw [<-hG] at this
  unfold maxLen at this
  omega
 obtain ⟨R,hR⟩:∃R:Array Value,R=ol.toArray++Builtin.zeroCells #[.int .i64 0,.int .i64 0,.int .i64 0,.int .i64 0] (n+1-i)++Builtin.zeroCells #[.int .i64 0,.int .i64 0,.int .i64 0,.int .i64 0] (G-(n+1)):=⟨_,rfl⟩
 rw [<-hG] at hrz
 rw [<-hR] at hrz
 have hRs:R.size=G*4:=by
  rw [hR]
  simp only [Array.size_append,bP,List.size_toArray,holl]
  simp
  omega
 have hRt:R.toList.take (i*4)=ol:=by
  rw [hR]
  simp only [Array.toList_append,List.append_assoc]
  rw [List.take_append_of_le_length (by omega),List.take_of_length_le (by omega)]
 obtain ⟨W1,hW1⟩:∃W1,W1=w.drew.alloc (.cells R 104):=⟨_,rfl⟩
 rw [<-hW1] at hrz
 have hbw:b<w.heap.size:=by
  rcases Nat.lt_or_ge b w.heap.size with h | h
  ·exact h
  ·rw [Array.getElem?_eq_none (by omega)] at hb; cases hb
 have hvw:vb<w.heap.size:=by
  rcases Nat.lt_or_ge vb w.heap.size with h | h
  ·exact h
  ·rw [Array.getElem?_eq_none (by omega)] at hv; cases hv
 have hN:W1.heap=w.heap.push (.cells R 104):=by rw [hW1]; rfl
 have hNn:W1.heap[w.heap.size]?=some (.cells R 104 (0,0)):=by rw [hN]; simp
 have hNb:W1.heap[b]?=some (.cells cb T fz):=by rw [hN,Array.getElem?_push,if_neg (by omega)]; exact hb
 have hNv:W1.heap[vb]?=some (.cells cv Tv (0,0)):=by rw [hN,Array.getElem?_push,if_neg (by omega)]; exact hv
 have hf1:i*4+cv.toList.length<=R.size:=by rw [Array.length_toList,hvs]; omega
 have hcpA:∀(W:World),W.heap=W1.heap->∀ty dc,(Builtin.copy_ #[101,101] ty #[.slice (some ⟨w.heap.size,i*4,none⟩) (n+1-i) dc,.slice (some ⟨vb,0,none⟩) 1 1]).run Tryz.prog W=.ok (goInt 1) (W.setRow w.heap.size (splice R (i*4) cv.toList)):=fun W hW ty dc=>by
  have:=dZ (P:=Tryz.prog) W 101 101 ty 104 4 w.heap.size (i*4) (n+1-i) dc ⟨vb,0,none⟩ 1 1 cv.toList R 104 (0,0) nQ JL (by rw [Array.length_toList,hvs]; simp only [Nat.min_def]; split <;> omega)
   (fun j v hj=>by
    rw [Addr.add_lit,dA (by rw [hW]; exact hNv),Nat.zero_add]
    simpa using hj)
   (by rw [hW]; exact hNn) (bn _) hf1 h1v
  rw [this]
  congr 2
  simp only [Nat.min_def]; split <;> omega
 have hcpB:∀(W:World),W.heap=(W1.setRow w.heap.size (splice R (i*4) cv.toList)).heap->∀ty dc sc,(Builtin.copy_ #[101,101] ty #[.slice (some ⟨w.heap.size,(i+1)*4,none⟩) (n-i) dc,.slice (some ⟨b,ao+i*4,none⟩) (n-i) sc]).run Tryz.prog W=.ok (goInt (n-i)) (W.setRow w.heap.size (splice (splice R (i*4) cv.toList) ((i+1)*4) tl)):=fun W hW ty dc sc=>by
  have hbW:W.heap[b]?=some (.cells cb T fz):=by rw [hW,setRow_other _ _ _ _ (by omega)]; exact hNb
  have hnW:W.heap[w.heap.size]?=some (.cells (splice R (i*4) cv.toList) 104 (0,0)):=by rw [hW]; exact setRow_heap W1 _ R _ _ _ hNn
  have:=dZ (P:=Tryz.prog) W 101 101 ty 104 4 w.heap.size ((i+1)*4) (n-i) dc ⟨b,ao+i*4,none⟩ (n-i) sc tl _ 104 (0,0) nQ JL (by rw [htll]; simp only [Nat.min_def]; split <;> omega)
   (fun j v hj=>by
    rw [Addr.add_lit,dA hbW]
    have hjl:j<(n-i)*4:=by have:=(List.getElem?_eq_some_iff.1 hj).1; omega
    rw [htl,List.getElem?_take,if_pos hjl,List.getElem?_drop] at hj
    simpa using hj)
   hnW (bn _) (by rw [bf _ _ _ hf1,htll,hRs]; omega) h1c
  rw [this]
  congr 2
  simp only [Nat.min_def]; split <;> omega
 have hGi:¬ (G=i):=by omega
 have hGim:¬ (G=i+1):=by omega
 have hci:¬ (c=i):=by omega
 have hbN:b≠w.heap.size:=by omega
 have hw1:IntKind.i64.wrap ((i:Int)+1)=(i:Int)+1:=by rw [IntKind.wrap_i64]; omega
 have hw2:IntKind.i64.wrap ((n:Int)+1)=(n:Int)+1:=by rw [IntKind.wrap_i64]; omega
 have hw3:IntKind.i64.wrap ((n:Int)+1-(i:Int))=(n:Int)+1-(i:Int):=by rw [IntKind.wrap_i64]; omega
 have hb1:(0:Int)<=(i:Int)+1:=by omega
 have hin:i<=n:=by omega
 have htn:((i:Int)+1).toNat=i+1:=by omega
 have hb3:(i:Int)<=(n:Int):=by omega
 clear hkk hik hold hol htl hcn hR hG
 subst hW1
 have hWa:((w.alloc (.cells R 104)).drew).heap=(w.drew.alloc (.cells R 104)).heap:=rfl
 have hWb:(((w.alloc (.cells R 104)).drew.setRow w.heap.size (splice R (i*4) cv.toList)).drew).heap=((w.drew.alloc (.cells R 104)).setRow w.heap.size (splice R (i*4) cv.toList)).heap:=rfl
 clear hNn hNb hNv hN
 go_enter Tryz.func137,Tryz.ntmps137
 go_wp2_with (first
  | (at_builtin; refine Lib.wpList_append_run _ rfl _ _ _ _ rfl _ _ rfl rfl _ _ (hrz _) ?_)
  | (at_builtin; refine wpList_copy_runI _ rfl _ _ 101 101 rfl _ _ rfl rfl (hcpA _ hWa _ _) ?_))
 go_region_law_o (refine step_copy_runI rfl _ _ 101 101 rfl (.slice (some ⟨w.heap.size,(i+1)*4,none⟩) (n-i) (G-(i+1))) (.slice (some ⟨b,ao+i*4,none⟩) (n-i) (c-i)) (by simp [Act.eval,Act.put]) (by simp [Act.eval,Act.put]) (hcpB _ hWb 3 (G-(i+1)) (c-i)) ?_)
 go_wp2
 go_ret
 refine ⟨G,R,hGn,hRs,hRt,rfl,?_,rfl,rfl,rfl⟩
 have p1:=lU (w:=w) (w0:=(w.alloc (.cells R 104)).drew) (R':=splice R (i*4) cv.toList) (R:=R) (T:=104) rfl
 exact lU (w:=w) (w0:=((w.alloc (.cells R 104)).drew.setRow w.heap.size (splice R (i*4) cv.toList)).drew) p1
end Sh
namespace Sh
open Go
open Go.RowKit Go.Lib
theorem CA (base:Option Addr) (n c vb:Nat) (w:World) {v':Value} {w':World} (hn:n+1<=9223372036854775807) (_hnc:n<=c)
  (hap:(Builtin.append_ #[101,101] 101 #[.slice base n c,.slice (some ⟨vb,0,none⟩) 1 1]).run Tryz.prog w=.ok v' w') :
  Calls Tryz.prog 137 #[.slice base n c,.int .i64 n,.slice (some ⟨vb,0,none⟩) 1 1] w fun e w2=>e=.returned v'/\w2=w':=by
 have t3:=t3; have t4:=t4; have nQ:=nQ
 have u3:=Go.run_underlying t3; have u4:=Go.run_underlying t4; have u101:=Go.run_underlying nQ
 have a3:∀w,(isAgg 3).run Tryz.prog w=.ok false w:=fun w=>by kernel_rfl
 have a4:∀w,(isAgg 4).run Tryz.prog w=.ok false w:=fun w=>by kernel_rfl
 have a101:∀w,(isAgg 101).run Tryz.prog w=.ok false w:=fun w=>by kernel_rfl
 have z3:∀w,(Go.sizeOf 3).run Tryz.prog w=.ok 1 w:=fun w=>by kernel_rfl
 have z101:∀w,(Go.sizeOf 101).run Tryz.prog w=.ok 1 w:=fun w=>by kernel_rfl
 have wp:=wp
 have mixed:Tryz.prog.follows .mixedOrders=true:=by kernel_rfl
 have hw1:IntKind.i64.wrap ((n:Int)+1)=(n:Int)+1:=by rw [IntKind.wrap_i64]; omega
 go_enter Tryz.func137,Tryz.ntmps137
 go_wp2_with (at_builtin; refine Lib.wpList_append_run _ rfl _ _ _ _ rfl _ _ rfl rfl _ _ hap ?_)
 all_goals go_ret
 all_goals exact ⟨rfl,rfl⟩
def ik (A:aa):AV->aa
 | .sl id _ _=>A.set id .dead
 | _=>A
theorem pO (A:aa) (o:AV):(ik A o).length=A.length:=by cases o <;> simp [ik]
def pQ (es:List AV) (i:Nat) (x:AV):List AV:=es.take i++x :: es.drop i
theorem lc (es:List AV) {i:Nat} (x:AV) (h:i<=es.length):(pQ es i x).length=es.length+1:=by simp [pQ]; omega
theorem rX (es:List AV) {i:Nat} (x:AV) (h:i<=es.length) {j:Nat} (hj:j<(pQ es i x).length):(j<i/\∃h:j<es.length,(pQ es i x)[j]=es[j])\/(j=i/\(pQ es i x)[j]=x)\/(i<j/\∃h:j-1<es.length,(pQ es i x)[j]=es[j-1]):=by
 rw [lc es x h] at hj
 rcases Nat.lt_trichotomy j i with k | k | k
 ·refine .inl ⟨k,by omega,?_⟩
  simp only [pQ]
  rw [List.getElem_append_left (by simp; omega),List.getElem_take]
 ·refine .inr (.inl ⟨k,?_⟩)
  subst k
  simp only [pQ]
  rw [List.getElem_append_right (by simp; omega)]
  simp [Nat.min_eq_left h]
 ·refine .inr (.inr ⟨k,by omega,?_⟩)
  simp only [pQ]
  rw [List.getElem_append_right (by simp; omega)]
  simp only [List.length_take,Nat.min_eq_left h]
  obtain ⟨q,rfl⟩:∃q,j=i+1+q:=⟨j-i-1,by omega⟩
  have e1:i+1+q-i=q+1:=by omega
  have e2:i+1+q-1=i+q:=by omega
  simp only [e1,e2,List.getElem_cons_succ,List.getElem_drop]
theorem ox {w:World} {OK:Nat->Prop} {g:aq} {c:Array Value} {at_ esz:Nat} {e:AV} (h:bB w OK g c at_ esz e) {j:Nat} (hj:j<esz) {x:Value} (hx:c[at_+j]?=some x):x.oneCell'=true:=by
 obtain ⟨v,_,h2,h3,h4⟩:=h
 rw [h4 j hj] at hx
 exact h3 x (by rw [Array.mem_toList_iff]; exact Array.mem_of_getElem? hx)
theorem j9 {w w':World} {OK:Nat->Prop} {g g':aq} {c c':Array Value} {at_ at' esz:Nat} {e:AV} (h:bB w OK g c at_ esz e) (hw:∀b,OK b->w'.heap[b]?=w.heap[b]?) (hg:g.le g') (hc:∀j,j<esz->c'[at'+j]?=c[at_+j]?):bB w' OK g' c' at' esz e:=by
 obtain ⟨v,h1,h2,h3,h4⟩:=h
 exact ⟨v,h1.mono (fun _ h=>h) hw g' hg,h2,h3,fun j hj=>(hc j hj).trans (h4 j hj)⟩
theorem GT {w:World} {OK:Nat->Prop} {g:aq} {A:aa} {v1:Value} {s x:AV} {es:List AV} {i vb:Nat} {cv:Array Value} {Tv:TypeId} (hA:bC w OK g A) (h1:aJ w OK g v1 s) (hs:bY A s 4 es) (hi:i<=es.length) (hbig:(es.length+1)*32<=140737488355328)
  (hv:w.heap[vb]?=some (.cells cv Tv (0,0))) (hok:OK vb) (hvs:cv.size=4) (hx:bB w OK aq.none cv 0 4 x) :
  Calls Tryz.prog 137 #[v1,.int .i64 i,.slice (some ⟨vb,0,none⟩) 1 1] w fun e w'=>∃v' g',e=.returned v'/\aJ w' OK g' v' (.sl A.length 0 (es.length+1))/\bC w' OK g' (ik A s++[.row 4 false (pQ es i x)])/\Ext w OK g w' OK g':=by
 obtain ⟨i0,hi0,hz0,hzs,hzb⟩:=info_parts EO
 have hx1:∀v∈cv.toList,v.oneCell'=true:=fun v hm=>by
  obtain ⟨j,hj,rfl⟩:=List.mem_iff_getElem.1 hm
  have hj':j<cv.size:=by simpa using hj
  exact ox hx (j:=j) (by omega) (by rw [Nat.zero_add,Array.getElem?_eq_getElem hj']; simp)
 by_cases hend:i=es.length
 ·
  subst hend
  have hfs:aJ w OK g (.slice (some ⟨vb,0,none⟩) 1 1) (.fs 4 [x]):=by
   obtain ⟨v,k1,k2,k3,k4⟩:=hx
   exact .fs g vb 0 1 4 Tv cv (0,0) [x] (fun _=>v) hok hv (Nat.le_refl _) (fun j hj=>by simp at hj; subst hj; simpa using k1) (fun j hj=>⟨k2,k3⟩) (fun j hj q hq=>by simp at hj; subst hj; simpa using k4 q hq)
  have hev:aV i0.size i0.bytes A s (.fs 4 [x])=some (.sl A.length 0 (es.length+1),ik A s++[.row 4 false (pQ es es.length x)]):=by
   rw [hzs,hzb]
   have e:pQ es es.length x=es++[x]:=by simp [pQ]
   rw [e]
   rcases hs with ⟨rfl,rfl⟩ | ⟨_,id,rfl,h2⟩
   ·simp [aV,ik]
   ·simp [aV,h2,ik]; omega
  obtain ⟨v',w',g',k1,k2,k3,k4⟩:=gQ (ty:=101) (xt:=101) nQ (.inl ⟨104,nQ⟩) hi0 hz0 (by rw [hzs]; rfl) hA h1 hfs hev
  have hv1:∃base c,v1=.slice base es.length c/\es.length<=c:=by
   rcases hs with ⟨rfl,rfl⟩ | ⟨_,id,rfl,h2⟩
   ·obtain ⟨p,rfl⟩:=h1.inv_nilS
    exact ⟨p,0,rfl,Nat.le_refl _⟩
   ·obtain ⟨inc,cap,ao,q1,rfl,q2,_⟩:=h1.inv_sl
    exact ⟨_,cap,rfl,q2⟩
  obtain ⟨base,c,rfl,hc⟩:=hv1
  refine (CA base es.length c vb w (by omega) hc k1).mono ?_
  rintro e w2 ⟨rfl,rfl⟩
  exact ⟨v',g',rfl,k2,k3,k4⟩
 ·have hlt:i<es.length:=by omega
  rcases hs with ⟨_,rfl⟩ | ⟨_,id,rfl,hid⟩
  ·simp at hlt
  obtain ⟨inc,cap,ao,hinc,rfl,hl,hn,hcap,ha⟩:=h1.inv_sl
  obtain ⟨hidl,hrow⟩:=List.getElem?_eq_some_iff.1 hid
  have hdead:A[id]?≠some Ent.dead:=by rw [hid]; simp
  have hent:=hA.ent id hidl
  rw [hrow] at hent
  obtain ⟨hgr,hinv⟩:=hent
  have hinn:=(hgr rfl).2 inc hinc
  obtain ⟨hesz,hne,hnc,c,T,fz,hh,hu,hcs,hel⟩:=hinv inc hinc
  have hcap0:cap≠0:=by omega
  have hao:=ha hcap0
  rw [Nat.zero_mul,Nat.add_zero] at hao
  subst hao
  rw [hesz] at *
  have hvb:vb≠inc.b:=fun e=>hA.apart id inc hinc (e ▸ hok)
  have hkl:=hA.kill id
  have hdk:(A.set id Ent.dead)[id]?=some .dead:=by rw [List.getElem?_set_self hidl]
  have hexk:∀k i,(A.set id Ent.dead)[k]?≠some .dead->i∈g k->i.b≠inc.b:=fun k i hd hi hb=>by
   have hki:k≠id:=fun e=>hd (e ▸ hdk)
   rw [List.getElem?_set_ne (Ne.symm hki)] at hd
   exact hki (hA.one k id i inc hd hdead hi hinc hb).1
  have hfit:inc.o+cap*4<=c.size:=by omega
  have h1c:∀v∈(c.toList.drop (inc.o+i*4)).take ((es.length-i)*4),v.oneCell'=true:=fun v hm=>by
   obtain ⟨j,hj,rfl⟩:=List.mem_iff_getElem.1 hm
   simp only [List.length_take,List.length_drop,Array.length_toList] at hj
   rw [List.getElem_take,List.getElem_drop,Array.getElem_toList]
   have hq:i+j / 4<es.length:=by omega
   refine ox (hel (i+j / 4) hq (by omega)) (j:=j % 4) (by omega) ?_
   rw [show inc.o+(i+j / 4)*4+j % 4=inc.o+i*4+j by omega,Array.getElem?_eq_getElem]
  obtain ⟨tl,htl⟩:∃tl,tl=(c.toList.drop (inc.o+i*4)).take ((es.length-i)*4):=⟨_,rfl⟩
  have htll:tl.length=(es.length-i)*4:=by
   have:c.toList.length=c.size:=Array.length_toList
   rw [htl,List.length_take,List.length_drop]; omega
  have htlg:∀k,k<(es.length-i)*4->tl[k]?=c[inc.o+i*4+k]?:=fun k hk=>by
   rw [htl,List.getElem?_take,if_pos hk,List.getElem?_drop]; simp
  have hcvl:cv.toList.length=4:=by rw [Array.length_toList,hvs]
  have hil:=lc es x hi
  by_cases hroom:es.length+1<=cap
  ·
   refine (uB inc.b inc.o es.length cap i vb c cv T Tv fz w hlt hroom (by omega) hvb hh hu hfit hv hvs h1c hx1).mono ?_
   rintro e w' ⟨rfl,rfl⟩
   rw [<-htl]
   have f1:inc.o+(i+1)*4+tl.length<=c.size:=by rw [htll]; omega
   obtain ⟨c1,hc1⟩:∃c1,c1=splice c (inc.o+(i+1)*4) tl:=⟨_,rfl⟩
   rw [<-hc1]
   have s1:c1.size=c.size:=by rw [hc1]; exact bf _ _ _ f1
   have f2:inc.o+i*4+cv.toList.length<=c1.size:=by rw [hcvl,s1]; omega
   obtain ⟨c2,hc2⟩:∃c2,c2=splice c1 (inc.o+i*4) cv.toList:=⟨_,rfl⟩
   rw [<-hc2]
   have s2:c2.size=c.size:=by rw [hc2,bf _ _ _ f2,s1]
   obtain ⟨w',hw'⟩:∃w',w'=(w.drew.setRow inc.b c1).setRow inc.b c2:=⟨_,rfl⟩
   rw [<-hw']
   have hW1:(w.drew.setRow inc.b c1).heap[inc.b]?=some (.cells c1 T fz):=setRow_heap w.drew inc.b c c1 T fz hh
   have hW2:w'.heap[inc.b]?=some (.cells c2 T fz):=by rw [hw']; exact setRow_heap _ inc.b c1 c2 T fz hW1
   have hblk:∀b,b≠inc.b->w'.heap[b]?=w.heap[b]?:=fun b hb=>by
    rw [hw',setRow_other _ _ _ _ hb,setRow_other _ _ _ _ hb]; rfl
   have hsz:w'.heap.size=w.heap.size:=by rw [hw']; simp [World.setRow]
   have hokb:∀b,OK b->w'.heap[b]?=w.heap[b]?:=fun b hb=>hblk b (fun e=>hA.apart id inc hinc (e ▸ hb))
   have hsc:=hkl.scribble (w':=w') inc.b hsz hblk (hA.apart id inc hinc) hexk
   have hu1:dy c1 fz:=by rw [hc1]; exact bA hu _ _ f1
   have hu2:dy c2 fz:=by rw [hc2]; exact bA hu1 _ _ f2
   obtain ⟨p1,p2⟩:=hsc.pushOld id (by simpa using hidl) hdk inc ⟨inc.b,inc.o,es.length+1,cap,4⟩ hinc rfl (.row 4 false (pQ es i x)) hexk (fun g' hg=>⟨fun _=>⟨by simp,fun y hy=>by
     simp at hy; subst hy; rw [hil]⟩,fun y hy=>by
    simp at hy; subst hy
    refine ⟨rfl,by rw [hil]; exact Nat.le_refl _,hroom,c2,T,fz,hW2,hu2,by rw [s2]; exact hfit,fun j hj _=>?_⟩
    rcases rX es x hi hj with ⟨k,hjl,e⟩ | ⟨k,e⟩ | ⟨k,hjl,e⟩
    ·rw [e]
     refine j9 (hel j hjl (by omega)) hokb hg fun q hq=>?_
     show c2[inc.o+j*4+q]?=_
     rw [hc2,splice_out _ _ _ f2 _ (.inl (by omega)),hc1,splice_out _ _ _ f1 _ (.inl (by omega))]
    ·rw [e,k]
     refine j9 hx hokb (aq.none_le _) fun q hq=>?_
     show c2[inc.o+i*4+q]?=_
     rw [hc2,bU _ _ _ f2 q (by omega)]
     simp
    ·rw [e]
     refine j9 (hel (j-1) hjl (by omega)) hokb hg fun q hq=>?_
     show c2[inc.o+j*4+q]?=_
     rw [hil] at hj
     have e1:inc.o+j*4+q=inc.o+(i+1)*4+((j-1-i)*4+q):=by omega
     rw [hc2,splice_out _ _ _ f2 _ (.inr (by omega)),hc1,e1,bU _ _ _ f1 _ (by omega),htlg _ (by omega),show inc.o+i*4+((j-1-i)*4+q)=inc.o+(j-1)*4+q by omega]⟩)
   rw [List.length_set] at p1 p2
   refine ⟨_,_,rfl,.sl _ A.length 0 _ _ _ ⟨inc.b,inc.o,es.length+1,cap,4⟩ (aq.push_self g A.length _) hroom (by simp) (by simp) (fun _=>by simp),p1,?_⟩
   refine ⟨by rw [hw']; rfl,by rw [hw']; rfl,by rw [hw']; rfl,by omega,fun b _ hu=>hblk b (fun e=>hu id inc hinc e.symm),p2,fun _ h=>h,fun k j hj=>?_,fun _ h=>.inl h,fun b r hb _=>(hblk b (fun e=>by rw [e,hh] at hb; cases hb)).trans hb,fun k i hi _=>by
    by_cases e1:k=A.length
    ·subst e1; rw [hA.out _ (Nat.le_refl _)] at hi; cases hi
    ·simp [aq.push,e1]⟩
   unfold aq.push at hj
   split at hj
   ·simp at hj; subst hj; exact .inl ⟨id,inc,hinc,rfl⟩
   ·exact .inl ⟨k,j,hj,rfl⟩
  ·
   refine (xN inc.b inc.o es.length cap i vb c cv T Tv fz w hlt hl (by omega) hbig hh hfit hv hvs h1c hx1).mono ?_
   rintro e w' ⟨G,R,g1,g2,g3,rfl,g4,g5,g6,g7⟩
   rw [<-htl] at g4
   have f1:i*4+cv.toList.length<=R.size:=by rw [hcvl,g2]; omega
   obtain ⟨c1,hc1⟩:∃c1,c1=splice R (i*4) cv.toList:=⟨_,rfl⟩
   rw [<-hc1] at g4
   have s1:c1.size=R.size:=by rw [hc1]; exact bf _ _ _ f1
   have f2:(i+1)*4+tl.length<=c1.size:=by rw [htll,s1,g2]; omega
   obtain ⟨c2,hc2⟩:∃c2,c2=splice c1 ((i+1)*4) tl:=⟨_,rfl⟩
   rw [<-hc2] at g4
   have s2:c2.size=R.size:=by rw [hc2,bf _ _ _ f2,s1]
   obtain ⟨q1,q2⟩:=hkl.pushRow c2 104 (0,0) g4 g5 g6 g7 (bn _) 4 G false (pQ es i x) (by rw [hil]; exact g1) (by rw [s2,g2]; exact Nat.le_refl _) (fun j hj=>by
    rcases rX es x hi hj with ⟨k,hjl,e⟩ | ⟨k,e⟩ | ⟨k,hjl,e⟩
    ·rw [e]
     refine j9 (hel j hjl (by omega)) (fun _ _=>rfl) (aq.le_refl _) fun q hq=>?_
     rw [hc2,splice_out _ _ _ f2 _ (.inl (by omega)),hc1,splice_out _ _ _ f1 _ (.inl (by omega))]
     have hk:j*4+q<i*4:=by omega
     have e1:(R.toList.take (i*4))[j*4+q]?=((c.toList.drop inc.o).take (i*4))[j*4+q]?:=by rw [g3]
     rw [List.getElem?_take,if_pos hk,List.getElem?_take,if_pos hk,List.getElem?_drop] at e1
     rw [<-Nat.add_assoc] at e1
     simpa using e1
    ·rw [e,k]
     refine j9 hx (fun _ _=>rfl) (aq.none_le _) fun q hq=>?_
     rw [hc2,splice_out _ _ _ f2 _ (.inl (by omega)),hc1,bU _ _ _ f1 q (by omega)]
     simp
    ·rw [e]
     refine j9 (hel (j-1) hjl (by omega)) (fun _ _=>rfl) (aq.le_refl _) fun q hq=>?_
     rw [hil] at hj
     have e1:j*4+q=(i+1)*4+((j-1-i)*4+q):=by omega
     rw [hc2,e1,bU _ _ _ f2 _ (by omega),htlg _ (by omega),show inc.o+i*4+((j-1-i)*4+q)=inc.o+(j-1)*4+q by omega])
   rw [List.length_set,hil] at q1 q2
   exact ⟨_,_,rfl,.sl _ A.length 0 _ _ _ _ (aq.push_self g A.length _) g1 (by simp) (by simp) (fun _=>by simp),q1,q2⟩
end Sh
namespace Sh
open Go
theorem ww (w:World):Calls Tryz.prog 144 #[.slice none 0 0] w fun e w'=>e=.returned (.slice none 0 0)/\w'=w:=by
 have q:∀(w:World) (a:Option Addr) (n c n' c':Nat),(binOp .eql 101 (.slice a n c) (.slice none n' c')).run Tryz.prog w=.ok (.bool a.isNone) w:=fun w a n c n' c'=>Lib.run_eql_slice_nil w _ _ a n c n' c' Tryz.underlying101
 go_enter Tryz.func144,Tryz.ntmps144
 go_wp2
 go_ret
 exact ⟨rfl,rfl⟩
theorem wu (a:Addr) (w:World):Calls Tryz.prog 144 #[.slice (some a) 0 0] w fun e w'=>∃p o,e=.returned (.slice p 0 0)/\w'=w.alloc o:=by
 have q:∀(w:World) (a:Option Addr) (n c n' c':Nat),(binOp .eql 101 (.slice a n c) (.slice none n' c')).run Tryz.prog w=.ok (.bool a.isNone) w:=fun w a n c n' c'=>Lib.run_eql_slice_nil w _ _ a n c n' c' Tryz.underlying101
 go_enter Tryz.func144,Tryz.ntmps144
 go_wp2
 go_ret
 exact ⟨_,_,rfl,rfl⟩
theorem fC {w:World} {OK:Nat->Prop} {g:aq} {A:aa} (hA:bC w OK g A) (o:Obj):bC (w.alloc o) OK g A/\Ext w OK g (w.alloc o) OK g:=by
 have hsz:(w.alloc o).heap.size=w.heap.size+1:=by show (w.heap.push o).size=_; exact Array.size_push ..
 refine ⟨hA.keep (w':=w.alloc o) (by omega) (fun b hb=>heap_alloc_old w _ hb) OK (fun _ h=>h) (fun _ h=>.inl h) (fun b hb=>by have:=hA.ok b hb; omega),?_⟩
 exact ⟨rfl,rfl,rfl,by omega,fun b hb _=>heap_alloc_old w _ hb,g.le_refl,fun _ h=>h,fun id inc h=>.inl ⟨id,inc,h,rfl⟩,fun _ h=>.inl h,
  fun b r hb _=>(heap_alloc_old w _ (Array.getElem?_eq_some_iff.1 hb).1).trans hb,fun _ _ _ _=>rfl⟩
def tq:aB:=fun _=>bN (ac GS []) 0 xm
theorem rE:au Tryz.prog GS 144 tq:=(aG (E:=ac GS []) (ai an) rfl Ng Dp aU.nil).y
def Jt:aB:=fun h args A=>match args with
 | [.nilS]=>some (.nilS,A)
 | _=>tq h args A
theorem z9:au Tryz.prog GS 144 Jt:=by
 refine ⟨rE.1,fun ys h hs args A r A' he w OK g vs hA hI hl=>?_⟩
 unfold Jt at he
 split at he
 ·injection he with he
  injection he with h1 h2
  subst h1 h2
  match vs,hl with
  | [v],hl=>
   obtain ⟨h1,_⟩:=hl
   obtain ⟨p,rfl⟩:=h1.inv_nilS
   cases p with
   | none=>
    refine (ww w).mono ?_
    rintro e w' ⟨rfl,rfl⟩
    exact ⟨_,OK,g,rfl,.nilS _ _,hA,Ext.refl _ _ _⟩
   | some a=>
    refine (wu a w).mono ?_
    rintro e w' ⟨p,o,rfl,rfl⟩
    obtain ⟨k1,k2⟩:=fC hA o
    exact ⟨_,OK,g,rfl,.nilS _ _,k1,k2⟩
 ·exact rE.2 ys h hs args A r A' he w OK g vs hA hI hl
def D2 (A:aa) (a:AV) (es:List AV):Prop:=(a=.nilS/\es=[])\/(es≠[]/\(a=.fs 4 es\/∃id,a=.sl id 0 es.length/\A[id]?=some (.row 4 false es)))
theorem D2.fr {A B:aa} {a:AV} {es:List AV} (h:D2 A a es) {l:List Nat} (hf:Fr A B l) (hn:∀k∈aC a,k ∉ l):D2 B a es:=by
 rcases h with h | ⟨h1,h | ⟨id,rfl,h3⟩⟩
 ·exact .inl h
 ·exact .inr ⟨h1,.inl h⟩
 ·exact .inr ⟨h1,.inr ⟨id,rfl,hf.at h3 (hn id (by simp [aC]))⟩⟩
theorem Mm (h:aE) {A:aa} {a:AV} {es:List AV} (ha:D2 A a es) (hl:es.length<=1000):∃B r,Jt h [a] A=some (r,B)/\bY B r 4 es/\Fr A B []/\∀k∈aC r,A.length<=k:=by
 rcases ha with ⟨rfl,rfl⟩ | ⟨h1,ha⟩
 ·exact ⟨A,.nilS,rfl,.inl ⟨rfl,rfl⟩,Fr.refl _ _,fun k h=>by cases h⟩
 ·have hb:es.length*32<=140737488355328:=by omega
  refine ⟨A++[.dead,.row 4 false es],.sl (A.length+1) 0 es.length,?_,.inr ⟨h1,A.length+1,rfl,by simp⟩,Fr.app _ _ _,fun k h=>by simp [aC] at h; omega⟩
  rcases ha with rfl | ⟨id,rfl,h3⟩
  ·show tq h [.fs 4 es] A=_
   unfold tq
   rw [aH _ _ rfl]
   simp [xm,aV,hb]
  ·show tq h [.sl id 0 es.length] A=_
   have hidl:=(List.getElem?_eq_some_iff.1 h3).1
   have g:(A++[Ent.row 4 false []])[id]?=some (.row 4 false es):=by rw [List.getElem?_append_left hidl]; exact h3
   unfold tq
   rw [aH _ _ rfl]
   simp [xm,aV,be,g,hb]
end Sh
namespace Sh
open Go
structure cz (A:aa) (id:Nat) (cells:List AV) (c:Cal):Prop where
 row:A[id]?=some (.row 60 false [.agg cells])
 len:cells.length=60
 slot:∀(t:Nat) (a:AV),cells[t]?=some a->bY A a 4 ((c t).map bkA)
 apart:∀(t t':Nat) (a a':AV),cells[t]?=some a->cells[t']?=some a'->t≠t'->∀k∈aC a,k ∉ aC a'
 notId:∀(t:Nat) (a:AV),cells[t]?=some a->id ∉ aC a
def fQ (cells:List AV):List Nat:=cells.flatMap aC
theorem cM {cells:List AV} {k:Nat}:k∈fQ cells↔∃(t:Nat) (a:AV),cells[t]?=some a/\k∈aC a:=by
 unfold fQ
 rw [List.mem_flatMap]
 constructor
 ·rintro ⟨a,ha,hk⟩
  obtain ⟨t,ht,rfl⟩:=List.mem_iff_getElem.1 ha
  exact ⟨t,_,List.getElem?_eq_getElem ht,hk⟩
 ·rintro ⟨t,a,ha,hk⟩
  exact ⟨a,List.mem_of_getElem? ha,hk⟩
theorem cz.fr {A B:aa} {id:Nat} {cells:List AV} {c:Cal} {l:List Nat} (h:cz A id cells c) (hf:Fr A B l) (h1:id ∉ l) (h2:∀k∈fQ cells,k ∉ l):cz B id cells c:=
 ⟨hf.at h.row h1,h.len,fun t a ha=>(h.slot t a ha).fr hf fun k hk=>h2 k (cM.2 ⟨t,a,ha,hk⟩),h.apart,h.notId⟩
def eZ:List AV:=List.replicate 60 .nilS
def H29:aB:=fun _=>bN (ac GS []) 0 Lb
theorem yw:au Tryz.prog GS 29 H29:=(aG (E:=ac GS []) (ai an) rfl at29 Iu aU.nil).y
theorem Oo (h:aE) (A:aa):H29 h [] A=some (.ptr A.length 0 0,A++[.row 60 false [.agg eZ]]):=by
 unfold H29
 rw [aH _ _ rfl]
 simp [Lb,eZ,List.replicate]
theorem vB (A:aa):cz (A++[.row 60 false [.agg eZ]]) A.length eZ (fun _=>[]):=by
 have hn:∀(t:Nat) (a:AV),eZ[t]?=some a->a=.nilS:=fun t a h=>by
  have:=List.mem_of_getElem? h
  unfold eZ at this
  exact (List.mem_replicate.1 this).2
 refine ⟨by simp,rfl,fun t a h=>?_,fun t t' a a' h1 h2 _ k hk=>?_,fun t a h=>?_⟩
 ·rw [hn t a h]; exact .inl ⟨rfl,rfl⟩
 ·rw [hn t a h1] at hk; cases hk
 ·rw [hn t a h]; exact List.not_mem_nil
def CI:List (FuncId × aB):=[(29,H29),(144,Jt)]
@[simp] theorem LE:aR CI 29=some H29:=rfl
@[simp] theorem JW:aR CI 144=some Jt:=rfl
theorem AX {A:aa} {L i:Nat} {cs nc:List AV} {a:AV} {es:List AV} (hr:A[L]?=some (.row 60 false [.agg nc])) (hn:nc.length=60) (hi:i<60) (ha:cs[i]?=some a) (_hcl:cs.length=60) (hs:D2 A a es) (hl:es.length<=1000) :
  ∃B r,run (ac GS CI) 100 [.code km] (ke (.ptr L 0 0) (.agg cs) (.int .i64 (i:Int))) A=some (.normal (ke (.ptr L 0 0) (.agg cs) (.int .i64 ((i+1:Nat):Int))) B) /\
   B[L]?=some (.row 60 false [.agg (nc.set i r)])/\bY B r 4 es/\Fr A B [L]/\∀k∈aC r,A.length<=k:=by
 obtain ⟨B,r,e,ho,hf,hk⟩:=Mm (fun _ _ _=>none) hs hl
 have hL:L<A.length:=(List.getElem?_eq_some_iff.1 hr).1
 have hB:B[L]?=some (.row 60 false [.agg nc]):=hf.at hr (by simp)
 have hLB:L<B.length:=(List.getElem?_eq_some_iff.1 hB).1
 have c:=mS ho
 have b1:aj .lss (.int .i64 (i:Int)) (.int .i64 60)=some (.bool true):=by rw [di,decide_eq_true (by omega)]
 have b3:=aY i (by omega)
 have x1:cU false 60 1 (.agg cs) (.int .i64 (i:Int))=some a:=by
  simp only [cU,gM]
  rw [if_pos (by omega)]
  simp [ha]
 have x2:aS 60 1 A (.ptr L 0 0) (.int .i64 (i:Int))=some (.ptr L 0 i):=by
  simp [aS,hr]; omega
 have x3:aS 60 1 B (.ptr L 0 0) (.int .i64 (i:Int))=some (.ptr L 0 i):=by
  simp [aS,hB]; omega
 have st:aP 1 B (.ptr L 0 i) r=some (B.set L (.row 60 false [.agg (nc.set i r)])):=by
  have hset:nc.take i++r :: nc.drop (i+1)=nc.set i r:=by
   rw [List.set_eq_take_append_cons_drop,if_pos (by omega)]
  simp only [aP,hB,List.getElem?_cons_zero,c.1,c.2,az,List.length_singleton]
  simp [hn,hset,show i+1<=60 by omega]
 refine ⟨B.set L (.row 60 false [.agg (nc.set i r)]),r,?_,by rw [List.getElem?_set_self hLB],ho.fr (Fr.set B L _) (fun k hk' h=>by have:=hk k hk'; simp at h; omega),hf.trans (Fr.set B L _) (by simp) (fun _ _ h=>h),hk⟩
 generalize ((i+1:Nat):Int)=I1 at *
 generalize (i:Int)=I at *
 simp [km,b1,b3,x1,x3,e,st,hr,hB,-aj,-aP]
end Sh
namespace Sh
open Go
def EG (c:Cal) (i:Nat):Cal:=fun t=>if t<i then c t else []
theorem jR? {l:List AV} {i:Nat} {r:AV} {t:Nat} {a:AV} (h:(l.set i r)[t]?=some a):(t=i/\a=r)\/(t≠i/\l[t]?=some a):=by
 by_cases e:t=i
 ·subst e
  rw [List.getElem?_set] at h
  split at h
  ·split at h
   ·injection h with h; exact .inl ⟨rfl,h.symm⟩
   ·cases h
  ·contradiction
 ·rw [List.getElem?_set_ne (Ne.symm e)] at h
  exact .inr ⟨e,h⟩
theorem cz.put {A B:aa} {L i:Nat} {nc:List AV} {c c':Cal} {r:AV} (h:cz A L nc c) (hB:B[L]?=some (.row 60 false [.agg (nc.set i r)])) (ho:bY B r 4 ((c' i).map bkA)) (hf:Fr A B (L :: (aC (nc[i]?.getD .undef)))) (hk:∀k∈aC r,A.length<=k) (hc:∀t,t≠i->c' t=c t):cz B L (nc.set i r) c':=by
 have hL:L<A.length:=(List.getElem?_eq_some_iff.1 h.row).1
 refine ⟨hB,by rw [List.length_set]; exact h.len,fun t a ha=>?_,fun t t' a a' h1 h2 hne k hk1 hk2=>?_,fun t a ha hin=>?_⟩
 ·rcases jR? ha with ⟨rfl,rfl⟩ | ⟨ne,ha⟩
  ·exact ho
  ·rw [hc t ne]
   refine (h.slot t a ha).fr hf fun k hk' hin=>?_
   rcases List.mem_cons.1 hin with rfl | hin
   ·exact h.notId t a ha hk'
   ·cases hi:nc[i]? with
    | none=>rw [hi] at hin; cases hin
    | some x=>rw [hi] at hin; exact h.apart t i a x ha hi ne k hk' hin
 ·rcases jR? h1 with ⟨rfl,rfl⟩ | ⟨ne,h1⟩ <;> rcases jR? h2 with ⟨e2,e3⟩ | ⟨ne',h2⟩
  ·exact hne e2.symm
  ·have:=hk k hk1
   have:=(h.slot _ _ h2).low k hk2
   omega
  ·rw [e3] at hk2
   have:=hk k hk2
   have:=(h.slot _ _ h1).low k hk1
   omega
  ·exact h.apart t t' a a' h1 h2 hne k hk1 hk2
 ·rcases jR? ha with ⟨rfl,rfl⟩ | ⟨ne,ha⟩
  ·have:=hk L hin; omega
  ·exact h.notId t a ha hin
def H87:aB:=fun _=>bN (ac GS CI) 100 JO
theorem yp:au Tryz.prog GS 87 H87:=(aG (E:=ac GS CI) (ai (ag yw (ag z9 an))) rfl at87 H0 aU.nil).y
theorem GE {A A0:aa} {L:Nat} {cs nc0:List AV} {c:Cal} (hcl:cs.length=60) (hs:∀(t:Nat) (a:AV),cs[t]?=some a->D2 A a ((c t).map bkA)) (hl:∀t,(c t).length<=1000) (hL:A.length=L) (h0:cz A0 L nc0 (fun _=>[])) (hf:Fr A A0 []) (hi0:∀k∈fQ nc0,L<k) :
  ∃B nc,bI (evC (ac GS CI) 100 km) jg 100 (ke (.ptr L 0 0) (.agg cs) (.int .i64 0)) A0=some (.exit 0 ((ke (.ptr L 0 0) (.agg cs) (.int .i64 60)).set 8 (.bool false)) B)/\cz B L nc c/\Fr A B []/\∀k∈fQ nc,L<k:=by
 have key:=fk (E:=ac GS CI) (fuel:=100) (a:=km) (mask:=jg)
  (fun κ σ A'=>∃i nc,i+κ=60/\σ=ke (.ptr L 0 0) (.agg cs) (.int .i64 (i:Int))/\cz A' L nc (EG c i)/\Fr A A' []/\∀k∈fQ nc,L<k)
  (fun q=>∃B nc,q=.exit 0 ((ke (.ptr L 0 0) (.agg cs) (.int .i64 60)).set 8 (.bool false)) B/\cz B L nc c/\Fr A B []/\∀k∈fQ nc,L<k)
  (by
  rintro κ σ A' ⟨i,nc,hk,rfl,hA,hF,hg⟩
  rw [yW]
  by_cases hi:i<60
  ·obtain ⟨a,ha⟩:∃a,cs[i]?=some a:=⟨_,List.getElem?_eq_getElem (by omega)⟩
   have hsrc:=(hs i a ha).fr hF (fun k _ h=>by cases h)
   obtain ⟨B,r,h1,h2,h3,h4,h5⟩:=AX hA.row hA.len hi ha hcl hsrc (by rw [List.length_map]; exact hl i)
   have hc':(EG c (i+1)) i=c i:=by unfold EG; rw [if_pos (by omega)]
   refine .inl ⟨_,B,h1,κ-1,by omega,i+1,nc.set i r,by omega,rfl,hA.put h2 (by rw [hc']; exact h3) (h4.mono fun j _ hj=>by simp at hj; simp [hj]) h5 (fun t ht=>by
    unfold EG
    by_cases h:t<i
    ·rw [if_pos h,if_pos (by omega)]
    ·rw [if_neg h,if_neg (by omega)]),⟨Nat.le_trans hF.1 h4.1,fun j hj _=>(h4.2 j (Nat.lt_of_lt_of_le hj hF.1) (by simp; omega)).trans (hF.2 j hj (by simp))⟩,fun k hk'=>?_⟩
   obtain ⟨t,x,hx,hkx⟩:=cM.1 hk'
   rcases jR? hx with ⟨rfl,rfl⟩ | ⟨ne,hx⟩
   ·have:=h5 k hkx
    have:=(List.getElem?_eq_some_iff.1 hA.row).1
    omega
   ·exact hg k (cM.2 ⟨t,x,hx,hkx⟩)
  ·obtain rfl:i=60:=by omega
   refine .inr ⟨_,?_,(fun _ _ h=>by cases h),A',nc,rfl,⟨hA.row,hA.len,fun t a ha=>?_,hA.apart,hA.notId⟩,hF,hg⟩
   ·have b:=di 60 60
    simp [km]
   ·have ht:t<60:=by rw [<-hA.len]; exact (List.getElem?_eq_some_iff.1 ha).1
    have:=hA.slot t a ha
    unfold EG at this
    rw [if_pos ht] at this
    exact this)
  100 60 _ A0 (by omega) ⟨0,nc0,by omega,rfl,⟨h0.row,h0.len,fun t a ha=>by
   have:=h0.slot t a ha
   unfold EG
   rw [if_neg (by omega)]
   exact this,h0.apart,h0.notId⟩,hf,hi0⟩
 obtain ⟨q,h1,B,nc,rfl,h2,h3,h4⟩:=key
 exact ⟨B,nc,h1,h2,h3,h4⟩
theorem On (h:aE) {A:aa} {ca:AV} {cs:List AV} {c:Cal} (hc:ca=.fp cs\/∃id,ca=.ptr id 0 0/\A[id]?=some (.row 60 false [.agg cs])) (hcl:cs.length=60) (hs:∀(t:Nat) (a:AV),cs[t]?=some a->D2 A a ((c t).map bkA)) (hl:∀t,(c t).length<=1000) :
  ∃B nc,H87 h [ca] A=some (.ptr A.length 0 0,B)/\cz B A.length nc c/\Fr A B []/\∀k∈fQ nc,A.length<k:=by
 have hF:=Fr.app A [.row 60 false [.agg eZ]] []
 obtain ⟨B,nc,lp,h1,h2,h3⟩:=GE (A:=A) (A0:=A++[.row 60 false [.agg eZ]]) hcl hs hl rfl (vB A) hF (fun k hk=>by
  obtain ⟨t,a,ha,hka⟩:=cM.1 hk
  have:=List.mem_of_getElem? ha
  unfold eZ at this
  rw [(List.mem_replicate.1 this).2] at hka
  cases hka)
 refine ⟨B,nc,?_,h1,h2,h3⟩
 have e:=Oo (fun _ _ _=>none) A
 unfold H87
 rw [aH _ _ rfl]
 rcases hc with rfl | ⟨id,rfl,hid⟩
 ·have hne:¬ (cs=[]):=fun e=>by rw [e] at hcl; cases hcl
  have h0:0<cs.length:=by omega
  generalize A++[Ent.row 60 false [.agg eZ]]=A1 at *
  simp [JO,e,yQ lp,hcl]
 ·have g:=hF.at hid (by simp)
  generalize A++[Ent.row 60 false [.agg eZ]]=A1 at *
  simp [JO,e,yQ lp,g]
end Sh
namespace Sh
open Go
def jy (s e:Int):AV:=.func (.func 135) [.agg [.int .i64 s,.int .i64 e]] []
def me (s e:Int) (b:Bk):Bool:=decide (b.start<e/\s<b.fin)
def qM:List (FuncId × aB):=[(135,aK 4 Jf)]
@[simp] theorem Hk:aR qM 135=some (aK 4 Jf):=rfl
def IY:aN:=fun args=>evP (ac GS qM) 1100 xh 1 args
theorem zR:ak Tryz.prog GS 166 IY:=ak.of_ev (E:=ac GS qM) (ai (ag (au.of_pure Af 4) an)) rfl MZ De 1 fun _ _ h=>⟨1100,h⟩
theorem D7 {a:AV} {l:List Bk} (ha:SlA 4 (l.map bkA) a) (hl:l.length<=1000) (s e:Int):IY [a,jy s e]=some (.int .i64 (nt (me s e) l)):=by
 have len:=ha.len
 rw [List.length_map] at len
 have round:∀(A:aa) (i:Nat) (hi:i<l.length),run (ac GS qM) 1100 [.code ew] (fT a (jy s e) (.int .i64 (l.length:Int)) (.int .i64 (i:Int))) A =
   if me s e l[i]=false then some (.normal (fT a (jy s e) (.int .i64 (l.length:Int)) (.int .i64 ((i+1:Nat):Int))) A) else some (.ret [a,jy s e,.int .i64 (i:Int),.int .i64 (i:Int),.int .i64 (l.length:Int),.int .i64 (i:Int),.bool true,.bool true] A):=fun A i hi=>by
  have hx:(l.map bkA)[i]?=some (bkA l[i]):=by simp [hi]
  have x1:ae 4 A a (.int .i64 (i:Int))=some (.fp [.int .i64 l[i].tool,.int .i64 l[i].start,.int .i64 l[i].fin,.int .i64 l[i].owner]):=ha.index (A:=A) hx rfl (by simp) .i64
  have m:=Ef s e l[i]
  have b1:=bK i l.length .i64
  rw [decide_eq_true hi] at b1
  have b3:=aY i (by omega)
  obtain ⟨i1,hi1⟩:∃i1:Nat,i1=i+1:=⟨_,rfl⟩
  rw [<-hi1] at b3 ⊢
  have e':decide (l[i].start<e/\s<l[i].fin)=me s e l[i]:=rfl
  rw [e'] at m
  obtain ⟨d,hd⟩:∃d,d=me s e l[i]:=⟨_,rfl⟩
  rw [<-hd] at m ⊢
  unfold bkA at m
  cases d with
  | false=>simp [ew,jy,x1,m,frz,b1,b3,-aj,-ae,-ay]
  | true=>simp [ew,jy,x1,m,frz,b1,-aj,-ae,-ay]
 unfold IY
 rw [aZ _ _ rfl]
 rcases dk (E:=ac GS qM) (fuel:=1100) (a:=ew) (mask:=eJ) (m:=1100) (fun i=>fT a (jy s e) (.int .i64 (l.length:Int)) (.int .i64 (i:Int))) (fun _=>[]) l.length (fun i=>¬ ∀hi:i<l.length,me s e l[i]=false)
  (oF:=fun i=>.ret [a,jy s e,.int .i64 (i:Int),.int .i64 (i:Int),.int .i64 (l.length:Int),.int .i64 (i:Int),.bool true,.bool true] []) (oE:=.exit 0 ((fT a (jy s e) (.int .i64 (l.length:Int)) (.int .i64 (l.length:Int))).set 6 (.bool false)) [])
  (fun _=>vq) (fun _ _ _ h=>by cases h) (fun _ _ h=>by cases h)
  (fun i hi hp=>by
   rw [round [] i hi]
   exact if_pos (Classical.not_not.1 hp hi))
  (fun i hi hp=>by
   rw [round [] i hi]
   exact if_neg fun h=>hp fun _=>h)
  (by simp [ew]) (by omega) with ⟨i,hi,hp,hj,lp⟩ | ⟨hp,lp⟩
 ·have lp:bI (evC (ac GS qM) 1100 ew) eJ 1100 (fT a (jy s e) (.int .i64 (l.length:Int)) (.int .i64 0)) []=_:=lp
  have e':nt (me s e) l=(i:Int):=mq hi (by
   cases h:me s e l[i] with
   | true=>rfl
   | false=>exact absurd (fun _=>h) hp) (fun j hj'=>Classical.not_not.1 (hj j hj') (by omega))
  rw [e']
  simp [xh,len,uH lp,-aj,-ay]
 ·have lp:bI (evC (ac GS qM) 1100 ew) eJ 1100 (fT a (jy s e) (.int .i64 (l.length:Int)) (.int .i64 0)) []=_:=lp
  have e':nt (me s e) l = -1:=mr fun i hi=>Classical.not_not.1 (hp i hi) hi
  rw [e']
  simp [xh,len,uH lp,-aj,-ay]
def CM:List (FuncId × aB):=[(166,aK 4 IY)]
@[simp] theorem Hu:aR CM 166=some (aK 4 IY):=rfl
def Jg:aN:=fun args=>evP (ac GS CM) 0 BD 1 args
theorem Ag:ak Tryz.prog GS 134 Jg:=ak.of_ev (E:=ac GS CM) (ai (ag (au.of_pure zR 4) an)) rfl No Dx 1 fun _ _ h=>⟨0,h⟩
theorem Eg {a:AV} {l:List Bk} (ha:SlA 4 (l.map bkA) a) (hl:l.length<=1000) (s e:Int):Jg [a,jy s e]=some (.bool (pf l s e)):=by
 have m:=D7 ha hl s e
 have b:=JV (nt (me s e) l)
 rw [oN] at b
 have f1:∀n,frz [] n a=a:=fun n=>ha.frz n
 have e':pf l s e=l.any (me s e):=rfl
 rw [e']
 unfold Jg
 rw [aZ _ _ rfl]
 unfold jy at m ⊢
 generalize nt (me s e) l=z at *
 simp [BD,m,b,f1,-aj]
def en (c:Cal):List AV:=(List.range 60).map fun t=>slA 4 ((c t).map bkA)
def fpC (c:Cal):AV:=.fp (en c)
theorem ig (c:Cal):(en c).length=60:=by simp [en]
theorem oy (c:Cal) {t:Nat} (h:t<60):(en c)[t]?=some (slA 4 ((c t).map bkA)):=by
 unfold en
 rw [List.getElem?_map,List.getElem?_range h]; rfl
theorem cz.frz {A:aa} {id:Nat} {cells:List AV} {c:Cal} (h:cz A id cells c):frz A 4 (.ptr id 0 0)=fpC c:=by
 have hc:cells.map (Go.Proofs.YtfkcoekicjjndaaGreat.frz A 3)=en c:=by
  apply List.ext_getElem?
  intro t
  by_cases ht:t<60
  ·have hg:cells[t]?=some (cells[t]'(by rw [h.len]; exact ht)):=List.getElem?_eq_getElem _
   rw [oy c ht,List.getElem?_map,hg]
   simp only [Option.map_some]
   congr 1
   exact (h.slot t _ hg).frz 2 fun x hx=>by
    obtain ⟨b,_,rfl⟩:=List.mem_map.1 hx
    rfl
  ·rw [List.getElem?_eq_none (by rw [List.length_map,h.len]; omega),List.getElem?_eq_none (by rw [ig]; omega)]
 have hl:0<cells.length:=by rw [h.len]; omega
 have e:Go.Proofs.YtfkcoekicjjndaaGreat.frz A 4 (.ptr id 0 0)=.fp (cells.map (Go.Proofs.YtfkcoekicjjndaaGreat.frz A 3)):=by
  simp only [Go.Proofs.YtfkcoekicjjndaaGreat.frz,h.row]
  simp [AV.solid,cellsOf,hl]
 rw [e,hc]
 rfl
def J3:List (FuncId × aB):=[(133,aK 4 yg),(134,aK 4 Jg)]
@[simp] theorem J2:aR J3 133=some (aK 4 yg):=rfl
@[simp] theorem J0:aR J3 134=some (aK 4 Jg):=rfl
def M78:aN:=fun args=>evP (ac GS J3) 0 K4 1 args
theorem E0:ak Tryz.prog GS 78 M78:=ak.of_ev (E:=ac GS J3) (ai (ag (au.of_pure qA 4) (ag (au.of_pure Ag 4) an))) rfl at78 Ic 1 fun _ _ h=>⟨0,h⟩
theorem uC (c:Cal) {tool:Int} (h0:0<=tool) (h1:tool<60) (A:aa):aS 60 1 A (fpC c) (.int .i64 tool)=some (.fp ((en c).drop tool.toNat)):=by
 have:=ig c
 simp only [fpC,aS,Nat.mul_one]
 rw [if_pos ⟨h0,h1,by omega⟩]
theorem rV (c:Cal) {tool:Int} (h0:0<=tool) (h1:tool<60) (A:aa):aD false 1 A (.fp ((en c).drop tool.toNat))=some (slA 4 ((c tool.toNat).map bkA)):=by
 simp only [aD,Bool.false_eq_true,if_false]
 rw [List.getElem?_drop,Nat.add_zero,oy c (by omega)]
theorem IP (c:Cal) {tool s e:Int} (h0:0<=tool) (h1:tool<60) (hse:s<e) (hl:(c tool.toNat).length<=1000):M78 [fpC c,.int .i64 tool,.int .i64 s,.int .i64 e]=some (.bool (pf (c tool.toNat) s e)):=by
 have m:=rk tool
 rw [decide_eq_true ⟨h0,h1⟩] at m
 have g:=qP s e
 rw [decide_eq_false (by omega)] at g
 have x1:=uC c h0 h1 []
 have x2:=rV c h0 h1 []
 have q:=Eg (bu 4 ((c tool.toNat).map bkA)) hl s e
 have f1:∀A n,frz A n (slA 4 ((c tool.toNat).map bkA))=slA 4 ((c tool.toNat).map bkA):=fun A n=>(bu 4 _).frz n
 have hd:aw 0 [] (fpC c)=some (fpC c):=by
  simp [aw,fpC,ig]
 have hn:fI 0 (fpC c)=some false:=rfl
 have hk:cS (fpC c)=some (fpC c):=rfl
 unfold M78
 rw [aZ _ _ rfl]
 unfold jy at q
 generalize slA 4 ((c tool.toNat).map bkA)=sl at *
 generalize (en c).drop tool.toNat=dr at *
 generalize fpC c=fc at *
 simp [K4,m,g,x1,x2,q,f1,hd,hn,hk,-aj,-aD,-aw,-fI,-cS]
end Sh
namespace Sh
open Go
def ic (l:List Bk) (x:Bk):Nat:=(l.takeWhile fun y=>decide (y.start<x.start)).length
theorem o8 (l:List Bk) (x:Bk):ic l x<=l.length:=(List.takeWhile_prefix _).length_le
theorem vc:∀ {l:List Bk} {x:Bk} {i:Nat},i<=l.length->(∀k (h:k<l.length),k<i->l[k].start<x.start)->(∀k (h:k<l.length),i<=k->¬ l[k].start<x.start)->ic l x=i
 | [],x,i,hi,_,_=>by
  obtain rfl:i=0:=by simpa using hi
  rfl
 | y :: l,x,0,_,_,h2=>by
  have:=h2 0 (by simp) (Nat.le_refl _)
  unfold ic
  rw [List.takeWhile_cons_of_neg (by simpa using this)]; rfl
 | y :: l,x,i+1,hi,h1,h2=>by
  have:=h1 0 (by simp) (by omega)
  have ih:=vc (l:=l) (x:=x) (i:=i) (by simpa using hi) (fun k h hk=>h1 (k+1) (by simpa using h) (by omega)) (fun k h hk=>h2 (k+1) (by simpa using h) (by omega))
  unfold ic at ih ⊢
  rw [List.takeWhile_cons_of_pos (by simpa using this),List.length_cons,ih]
theorem qJ (l:List Bk) (x:Bk):(iZ l x).map bkA=pQ (l.map bkA) (ic l x) (bkA x):=by
 have ht:l.takeWhile (fun y=>decide (y.start<x.start))=l.take (ic l x):=by
  have:=List.prefix_iff_eq_take.1 (List.takeWhile_prefix (fun y:Bk=>decide (y.start<x.start)) (l:=l))
  exact this
 have hd:l.dropWhile (fun y=>decide (y.start<x.start))=l.drop (ic l x):=by
  have h1:=List.takeWhile_append_dropWhile (p:=fun y:Bk=>decide (y.start<x.start)) (l:=l)
  have h2:(l.takeWhile (fun y=>decide (y.start<x.start))++l.dropWhile (fun y=>decide (y.start<x.start))).drop (ic l x)=l.dropWhile (fun y=>decide (y.start<x.start)):=by
   unfold ic
   rw [List.drop_left]
  rw [<-h2,h1]
 unfold iZ pQ
 rw [ht,hd,List.map_append,List.map_cons,List.map_take,List.map_drop]
def sU:List (FuncId × aB):=[(80,aK 4 M80)]
@[simp] theorem Ki:aR sU 80=some (aK 4 M80):=rfl
def lh:AV:=.func (.func 80) [] []
def Je:aN:=fun args=>evP (ac GS sU) 1100 xq 4 args
theorem Ae:ak Tryz.prog GS 136 Je:=ak.of_ev (E:=ac GS sU) (ai (ag (au.of_pure EY 4) an)) rfl Nm Dv 4 fun _ _ h=>⟨1100,h⟩
theorem wU {a:AV} {l:List Bk} {x:Bk} (ha:SlA 4 (l.map bkA) a) {i j:Nat} (hij:i<j) (hj:j<=l.length) (hl:l.length<=1000) :
  ∃h,∃hlt:h<l.length,i<=h/\h<j/\run (ac GS sU) 1100 [.code fg] (eW a lh (.ptr 0 0 0) (.int .i64 (l.length:Int)) (.int .i64 (i:Int)) (.int .i64 (j:Int))) [.row 4 false [bkA x]] =
   some (.normal (if l[h].start<x.start then eW a lh (.ptr 0 0 0) (.int .i64 (l.length:Int)) (.int .i64 ((h+1:Nat):Int)) (.int .i64 (j:Int)) else eW a lh (.ptr 0 0 0) (.int .i64 (l.length:Int)) (.int .i64 (i:Int)) (.int .i64 (h:Int))) [.row 4 false [bkA x]]):=by
 obtain ⟨h,hh⟩:∃h,h=(i+j) / 2:=⟨_,rfl⟩
 have hlt:h<l.length:=by omega
 refine ⟨h,hlt,by omega,by omega,?_⟩
 have b1:=bK i j .i64
 rw [decide_eq_true hij] at b1
 have a1:aj .add (.int .i64 (i:Int)) (.int .i64 (j:Int))=some (.int .i64 ((i+j:Nat):Int)):=by
  rw [dX (by unfold inI; omega)]; congr 2
 have c1:cu .u64 (.int .i64 ((i+j:Nat):Int))=some (.int .u64 ((i+j:Nat):Int)):=by
  simp only [cu]
  rw [zq (by omega)]
 have c2:aj .shr (.int .u64 ((i+j:Nat):Int)) (.int .u64 1)=some (.int .u64 (h:Int)):=by
  have:=AF (i+j) 1 .u64 .u64 (by decide)
  rw [show (2:Nat) ^ 1=2 from rfl,<-hh] at this
  exact this
 have c3:cu .i64 (.int .u64 (h:Int))=some (.int .i64 (h:Int)):=by
  simp only [cu]
  rw [eo (by unfold inI; omega)]
 have hx:(l.map bkA)[h]?=some (bkA l[h]):=by simp [hlt]
 have x1:∀A,ae 4 A a (.int .i64 (h:Int))=some (.fp [.int .i64 l[h].tool,.int .i64 l[h].start,.int .i64 l[h].fin,.int .i64 l[h].owner]):=fun A=>ha.index (A:=A) hx rfl (by simp) .i64
 have m:=zg l[h] x
 have c4:=di (te l[h].start x.start) 0
 have a2:=aY h (by omega)
 by_cases hp:l[h].start<x.start
 ·have e:te l[h].start x.start = -1:=by unfold te; rw [if_pos hp]
  rw [if_pos hp]
  rw [e] at m c4
  rw [decide_eq_true (by decide)] at c4
  generalize l[h]=y at *
  unfold bkA at *
  generalize ((h+1:Nat):Int)=H1 at *
  generalize (h:Int)=H at *
  generalize ((i+j:Nat):Int)=S at *
  generalize (i:Int)=I at *
  generalize (j:Int)=J at *
  generalize (l.length:Int)=N at *
  simp [fg,lh,b1,a1,c1,c2,c3,x1,m,c4,a2,-aj,-ae,-cu]
 ·have e:0<=te l[h].start x.start:=by unfold te; rw [if_neg hp]; split <;> decide
  rw [if_neg hp]
  rw [decide_eq_false (by omega)] at c4
  generalize te l[h].start x.start=cv at *
  generalize l[h]=y at *
  unfold bkA at *
  generalize (h:Int)=H at *
  generalize ((i+j:Nat):Int)=S at *
  generalize (i:Int)=I at *
  generalize (j:Int)=J at *
  generalize (l.length:Int)=N at *
  simp [fg,lh,b1,a1,c1,c2,c3,x1,m,c4,-aj,-ae,-cu]
def qm (l:List Bk):Prop:=∀i j (h:i<j) (hj:j<l.length),l[i].start<=l[j].start
theorem mu {l:List Bk} (h:qo l):qm l:=fun i j hij hj=>by
 have h1:=List.pairwise_iff_getElem.1 h.1 i j (by omega) hj hij
 have h2:=h.2 l[i] (List.getElem_mem _)
 omega
theorem Ce {a:AV} {l:List Bk} {x:Bk} (ha:SlA 4 (l.map bkA) a) (hl:l.length<=1000) (hs:qm l) :
  bI (evC (ac GS sU) 1100 fg) gu 1100 (eW a lh (.ptr 0 0 0) (.int .i64 (l.length:Int)) (.int .i64 0) (.int .i64 (l.length:Int))) [.row 4 false [bkA x]]=some (.exit 0 ((eW a lh (.ptr 0 0 0) (.int .i64 (l.length:Int)) (.int .i64 (ic l x:Int)) (.int .i64 (ic l x:Int))).set 10 (.bool false)) [.row 4 false [bkA x]]):=by
 have key:=fk (E:=ac GS sU) (fuel:=1100) (a:=fg) (mask:=gu)
  (fun κ σ A'=>∃i j,j-i=κ/\i<=j/\j<=l.length/\A'=[.row 4 false [bkA x]]/\σ=eW a lh (.ptr 0 0 0) (.int .i64 (l.length:Int)) (.int .i64 (i:Int)) (.int .i64 (j:Int))/\(∀k (h:k<l.length),k<i->l[k].start<x.start)/\(∀k (h:k<l.length),j<=k->¬ l[k].start<x.start))
  (fun q=>q=.exit 0 ((eW a lh (.ptr 0 0 0) (.int .i64 (l.length:Int)) (.int .i64 (ic l x:Int)) (.int .i64 (ic l x:Int))).set 10 (.bool false)) [.row 4 false [bkA x]])
  (by
  rintro κ σ A' ⟨i,j,hk,hij,hjl,rfl,rfl,h1,h2⟩
  rw [show lh=.func (.func 80) [] [] from rfl,vu]
  by_cases hi:i<j
  ·obtain ⟨h,hlt,g1,g2,r⟩:=wU (x:=x) ha hi hjl hl
   by_cases hp:l[h].start<x.start
   ·rw [if_pos hp] at r
    refine .inl ⟨_,_,r,j-(h+1),by omega,h+1,j,rfl,by omega,hjl,rfl,rfl,fun k hkl hk=>?_,h2⟩
    rcases Nat.lt_or_ge k h with c | c
    ·have:=hs k h c hlt; omega
    ·obtain rfl:k=h:=by omega
     exact hp
   ·rw [if_neg hp] at r
    refine .inl ⟨_,_,r,h-i,by omega,i,h,rfl,g1,by omega,rfl,rfl,h1,fun k hkl hk=>?_⟩
    rcases Nat.lt_or_ge h k with c | c
    ·have:=hs h k c hkl; omega
    ·obtain rfl:k=h:=by omega
     exact hp
  ·obtain rfl:i=j:=by omega
   have e:=vc (x:=x) hjl h1 h2
   rw [e]
   refine .inr ⟨_,?_,(fun _ _ h=>by cases h),rfl⟩
   simp [fg])
  1100 l.length _ [.row 4 false [bkA x]] (by omega) ⟨0,l.length,by omega,by omega,Nat.le_refl _,rfl,rfl,fun k _ hk=>by omega,fun k h hk=>by omega⟩
 obtain ⟨q,h1,rfl⟩:=key
 exact h1
theorem Ee {a:AV} {l:List Bk} (x:Bk) (ha:SlA 4 (l.map bkA) a) (hl:l.length<=1000) (hs:qm l):∃b:Bool,Je [a,bkA x,lh]=some (.tup [.int .i64 (ic l x:Int),.bool b]):=by
 have len:=ha.len
 rw [List.length_map] at len
 have lp:=Ce (x:=x) ha hl hs
 have hle:=o8 l x
 have b1:=bK (ic l x) l.length .i64
 by_cases hc:ic l x<l.length
 ·rw [decide_eq_true hc] at b1
  have hx:(l.map bkA)[ic l x]?=some (bkA l[ic l x]):=by simp [hc]
  have x1:∀A,ae 4 A a (.int .i64 (ic l x:Int))=some (.fp [.int .i64 l[ic l x].tool,.int .i64 l[ic l x].start,.int .i64 l[ic l x].fin,.int .i64 l[ic l x].owner]):=fun A=>ha.index (A:=A) hx rfl (by simp) .i64
  have m:=zg l[ic l x] x
  have c4:=mK (te l[ic l x].start x.start) 0
  refine ⟨decide (te l[ic l x].start x.start=0),?_⟩
  unfold Je
  rw [aZ _ _ rfl]
  generalize decide (te l[ic l x].start x.start=0)=d at *
  generalize te l[ic l x].start x.start=cv at *
  generalize l[ic l x]=y at *
  unfold bkA lh at *
  generalize (ic l x:Int)=C at *
  generalize (l.length:Int)=N at *
  simp [xq,len,uK lp,b1,x1,m,c4,-aj,-ae,-ay]
 ·rw [decide_eq_false hc] at b1
  refine ⟨false,?_⟩
  unfold Je
  rw [aZ _ _ rfl]
  unfold bkA lh at *
  generalize (ic l x:Int)=C at *
  generalize (l.length:Int)=N at *
  simp [xq,len,uK lp,b1,-aj,-ay]
end Sh
namespace Sh
open Go
open Go.RowKit Go.Lib
def bkC (b:Bk):Array Value:=#[.int .i64 b.tool,.int .i64 b.start,.int .i64 b.fin,.int .i64 b.owner]
theorem EP (v1:Value) (b:Bk) (w:World) (R:Value->World->Prop) (h:Calls Tryz.prog 136 #[v1,.agg (bkC b),.func (.func 80) #[] #[]] (w.alloc (.cells (bkC b) 104)) fun e w2=>∃(i:Nat) (bb:Bool),e=.returned (.tuple #[.int .i64 i,.bool bb])/\w2.cell? ⟨w.heap.size,0,none⟩=some (.int .i64 b.tool)/\w2.cell? ⟨w.heap.size,1,none⟩=some (.int .i64 b.start)/\w2.cell? ⟨w.heap.size,2,none⟩=some (.int .i64 b.fin)/\w2.cell? ⟨w.heap.size,3,none⟩=some (.int .i64 b.owner) /\
   Calls Tryz.prog 137 #[v1,.int .i64 i,.slice (some ⟨w2.heap.size,0,none⟩) 1 1] (w2.alloc (.cells (bkC b) 104)) fun e w'=>∃v',e=.returned v'/\R v' w'):Calls Tryz.prog 79 #[v1,.agg (bkC b),.func (.func 80) #[] #[]] w fun e w'=>∃v',e=.returned v'/\R v' w':=by
 have t3:=t3; have t4:=t4; have nQ:=nQ
 have u3:=Go.run_underlying t3; have u4:=Go.run_underlying t4; have u101:=Go.run_underlying nQ
 have a104:∀w,(isAgg 104).run Tryz.prog w=.ok true w:=fun w=>by kernel_rfl
 have a101:∀w,(isAgg 101).run Tryz.prog w=.ok false w:=fun w=>by kernel_rfl
 have wp:=wp
 have c0:∀j,(w.alloc (.cells (bkC b) 104)).cell? ⟨w.heap.size,j,none⟩=(bkC b)[j]?:=fun j=>by
  exact dA (w:=w.alloc (.cells (bkC b) 104)) (T:=104) (fz:=(0,0)) (by show (w.heap.push _)[w.heap.size]?=_; simp) j
 unfold bkC at *
 go_enter Tryz.func79,Tryz.ntmps79
 go_wp2_with (go_at_call 136; refine h.mono ?_; rintro e w2 ⟨i,bb,rfl,y0,y1,y2,y3,hc⟩)
 refine hc.mono ?_
 rintro e w3 ⟨v',rfl,hr⟩
 go_wp2
 go_ret
 exact ⟨v',rfl,hr⟩
end Sh
namespace Sh
open Go
theorem vC {a b:Bk} (h:bkA a=bkA b):a=b:=by
 obtain ⟨a1,a2,a3,a4⟩:=a
 obtain ⟨b1,b2,b3,b4⟩:=b
 unfold bkA at h
 simp at h
 obtain ⟨rfl,rfl,rfl,rfl⟩:=h
 rfl
theorem mj:∀ {l m:List Bk},l.map bkA=m.map bkA->l=m
 | [],[],_=>rfl
 | [],_ :: _,h=>by cases h
 | _ :: _,[],h=>by cases h
 | a :: l,b :: m,h=>by
  simp only [List.map_cons,List.cons.injEq] at h
  rw [vC h.1,mj h.2]
theorem bY.uniq {A:aa} {o:AV} {n:Nat} {es es':List AV} (h:bY A o n es) (h':bY A o n es'):es=es':=by
 rcases h with ⟨rfl,rfl⟩ | ⟨h1,id,rfl,h2⟩ <;> rcases h' with ⟨e,e'⟩ | ⟨h1',id',e,h2'⟩
 ·exact e'.symm
 ·cases e
 ·cases e
 ·injection e with e
  subst e
  rw [h2] at h2'
  injection h2' with h2'
  injection h2'
theorem D1 {w:World} {OK:Nat->Prop} {g:aq} {v:Value} {b:Bk} (h:aJ w OK g v (bkA b)):v=.agg (bkC b):=by
 unfold bkA at h
 obtain ⟨vs,vals,rfl,hl,hg,hv⟩:=h.inv_agg
 congr 1
 apply Array.ext
 ·simpa [bkC] using hl
 ·intro i h1 h2
  have h4:i<4:=by simpa [bkC] using h2
  have hq:=(hg i h4).1
  rw [Array.getElem?_eq_getElem h1] at hq
  have hw:=hv i h4
  rw [<-Option.some.inj hq] at hw
  rcases (show i=0\/i=1\/i=2\/i=3 by omega) with rfl | rfl | rfl | rfl <;> exact hw.inv_int
theorem DZ {w:World} {OK:Nat->Prop} {g:aq} (b:Bk):aJ w OK g (.agg (bkC b)) (bkA b):=by
 refine .agg g _ _ rfl (fun i=>(bkC b).getD i undef) (fun i hi=>?_) (fun i hi=>?_)
 ·have h4:i<4:=hi
  rcases (show i=0\/i=1\/i=2\/i=3 by omega) with rfl | rfl | rfl | rfl <;> exact ⟨rfl,rfl⟩
 ·have h4:i<4:=hi
  rcases (show i=0\/i=1\/i=2\/i=3 by omega) with rfl | rfl | rfl | rfl <;> exact .int _ _ _
theorem CT {w:World} {OK:Nat->Prop} {g:aq} (b:Bk):bB w OK g (bkC b) 0 4 (bkA b):=
 ⟨.agg (bkC b),DZ b,rfl,fun x hx=>by
  have:x∈(bkC b).toList:=hx
  simp [bkC] at this
  rcases this with rfl | rfl | rfl | rfl <;> rfl,fun j hj=>by rw [Nat.zero_add]; rfl⟩
open Classical in
def H79:aB:=fun _ args A=>
 if h:∃q:AV × List Bk × Bk,args=[q.1,bkA q.2.2,lh]/\bY A q.1 4 (q.2.1.map bkA)/\qm q.2.1/\q.2.1.length<=1000 then
  some (.sl A.length 0 (h.choose.2.1.length+1),ik A h.choose.1++[.row 4 false ((iZ h.choose.2.1 h.choose.2.2).map bkA)])
 else none
theorem ev79 (h:aE) {A:aa} {s:AV} {l:List Bk} (b:Bk) (hs:bY A s 4 (l.map bkA)) (ho:qm l) (hl:l.length<=1000):H79 h [s,bkA b,lh] A=some (.sl A.length 0 (l.length+1),ik A s++[.row 4 false ((iZ l b).map bkA)]):=by
 have hx:∃q:AV × List Bk × Bk,[s,bkA b,lh]=[q.1,bkA q.2.2,lh]/\bY A q.1 4 (q.2.1.map bkA)/\qm q.2.1/\q.2.1.length<=1000:=⟨(s,l,b),rfl,hs,ho,hl⟩
 unfold H79
 rw [dif_pos hx]
 have key:∀q:AV × List Bk × Bk,([s,bkA b,lh]=[q.1,bkA q.2.2,lh]/\bY A q.1 4 (q.2.1.map bkA)/\qm q.2.1/\q.2.1.length<=1000) ->
   (some (AV.sl A.length 0 (q.2.1.length+1),ik A q.1++[Ent.row 4 false ((iZ q.2.1 q.2.2).map bkA)]):Option (AV × aa))=some (.sl A.length 0 (l.length+1),ik A s++[.row 4 false ((iZ l b).map bkA)]):=by
  rintro ⟨s',l',b'⟩ ⟨q1,q2,_,_⟩
  simp only [List.cons.injEq,and_true] at q1
  obtain ⟨rfl,e⟩:=q1
  have e:=vC e
  have e2:=mj (bY.uniq hs q2)
  subst e
  subst e2
  rfl
 exact key _ hx.choose_spec
theorem EZ:au Tryz.prog GS 79 H79:=by
 refine ⟨(ct (G:=GS) (fuel:=0) an at79 Ib).1,fun ys h hs args A r A' he w OK g vs hA hI hl=>?_⟩
 unfold H79 at he
 split at he
 ·rename_i hx
  obtain ⟨q1,q2,q3,q4⟩:=hx.choose_spec
  generalize hx.choose=q at *
  obtain ⟨s,l,b⟩:=q
  simp only at q1 q2 q3 q4 he
  subst q1
  simp only [Option.some.injEq,Prod.mk.injEq] at he
  obtain ⟨rfl,rfl⟩:=he
  match vs,hl with
  | [v1,v2,v3],hl=>
   obtain ⟨h1,h2,h3,_⟩:=hl
   obtain rfl:=D1 h2
   have hv3:v3=.func (.func 80) #[] #[]:=by
    obtain ⟨vs1,vs2,vals1,vals2,rfl,e1,e2,_⟩:=h3.inv_func
    rw [Array.eq_empty_of_size_eq_zero e1,Array.eq_empty_of_size_eq_zero e2]
   subst hv3
   obtain ⟨hA1,hx1⟩:=fC hA (.cells (bkC b) 104)
   have hG1:=hx1.grel hI.1 hA
   have hv1:=h1.ext hA hx1
   obtain ⟨bb,m⟩:=Ee b (bu 4 (l.map bkA)) q4 q3
   have he136:ij 4 Je [s,bkA b,lh] A=some (.tup [.int .i64 (ic l b:Int),.bool bb],A):=by
    have f1:frz A 4 s=slA 4 (l.map bkA):=q2.frz 3 fun x hx=>by
     obtain ⟨y,_,rfl⟩:=List.mem_map.1 hx
     rfl
    have f2:frz A 4 (bkA b)=bkA b:=rfl
    have f3:frz A 4 lh=lh:=rfl
    simp only [ij,List.map_cons,List.map_nil,f1,f2,f3,m]
    simp
   have c136:=(dD.of_pure Ae 4).2 _ _ _ _ he136 (w.alloc (.cells (bkC b) 104)) OK g [v1,.agg (bkC b),.func (.func 80) #[] #[]] hA1 hG1 ⟨hv1,h2.ext hA hx1,h3.ext hA hx1,trivial⟩
   refine (EP v1 b w (fun v' w'=>∃OK' g',aJ w' OK' g' v' (.sl A.length 0 (l.length+1))/\bC w' OK' g' (ik A s++[.row 4 false ((iZ l b).map bkA)])/\Ext w OK g w' OK' g') (c136.mono ?_)).mono ?_
   ·rintro e w2 ⟨v,OK2,g2,rfl,hv,hA2,hx2⟩
    refine ⟨ic l b,bb,?_,?_⟩
    ·congr 1
     obtain ⟨us,vals,rfl,hl,hg,hv⟩:=hv.inv_tup
     congr 1
     apply Array.ext
     ·simpa using hl
     ·intro i k1 k2
      have h4:i<2:=by simpa using k2
      have hq:=hg i h4
      rw [Array.getElem?_eq_getElem k1] at hq
      have hw:=hv i h4
      rw [<-Option.some.inj hq] at hw
      rcases (show i=0\/i=1 by omega) with rfl | rfl
      ·exact hw.inv_int
      ·exact hw.inv_bool
    have hsz1:(w.alloc (.cells (bkC b) 104)).heap.size=w.heap.size+1:=by show (w.heap.push _).size=_; exact Array.size_push ..
    have hbox:w2.heap[w.heap.size]?=some (.cells (bkC b) 104 (0,0)):=by
     rw [hx2.blk _ (by omega) (fun id inc hi e=>by have:=hA.low id inc hi; omega)]
     show (w.heap.push _)[w.heap.size]?=_
     simp
    refine ⟨dA hbox 0,dA hbox 1,dA hbox 2,dA hbox 3,?_⟩
    have hsz3:(w2.alloc (.cells (bkC b) 104)).heap.size=w2.heap.size+1:=by show (w2.heap.push _).size=_; exact Array.size_push ..
    have hold:∀k,k<w2.heap.size->(w2.alloc (.cells (bkC b) 104)).heap[k]?=w2.heap[k]?:=fun k hk=>heap_alloc_old w2 _ hk
    obtain ⟨OK3,hOK3⟩:∃OK3:Nat->Prop,∀k,OK3 k↔(OK2 k\/k=w2.heap.size):=⟨_,fun _=>Iff.rfl⟩
    have hA3:bC (w2.alloc (.cells (bkC b) 104)) OK3 g2 A:=hA2.keep (w':=w2.alloc (.cells (bkC b) 104)) (by omega) hold OK3 (fun k hk=>(hOK3 k).2 (.inl hk)) (fun k hk=>by
     rcases (hOK3 k).1 hk with h | h
     ·exact .inl h
     ·exact .inr (by omega)) (fun k hk=>by
     rcases (hOK3 k).1 hk with h | h
     ·have:=hA2.ok k h; omega
     ·omega)
    have hx3:Ext w2 OK2 g2 (w2.alloc (.cells (bkC b) 104)) OK3 g2:=⟨rfl,rfl,rfl,by omega,fun k hk _=>hold k hk,g2.le_refl,fun k hk=>(hOK3 k).2 (.inl hk),fun id inc h=>.inl ⟨id,inc,h,rfl⟩,fun k hk=>by
     rcases (hOK3 k).1 hk with h | h
     ·exact .inl h
     ·exact .inr (by omega),fun k r hk _=>(hold k (Array.getElem?_eq_some_iff.1 hk).1).trans hk,fun _ _ _ _=>rfl⟩
    have hnew:(w2.alloc (.cells (bkC b) 104)).heap[w2.heap.size]?=some (.cells (bkC b) 104 (0,0)):=by
     show (w2.heap.push _)[w2.heap.size]?=_
     simp
    have c137:=GT hA3 ((hv1.ext hA1 hx2).ext hA2 hx3) q2 (i:=ic l b) (by rw [List.length_map]; exact o8 l b) (by rw [List.length_map]; omega) hnew ((hOK3 _).2 (.inr rfl)) rfl (CT b)
    refine c137.mono ?_
    rintro e w4 ⟨v',g4,rfl,k1,k2,k3⟩
    rw [List.length_map] at k1
    rw [<-qJ] at k2
    exact ⟨v',rfl,OK3,g4,k1,k2,(hx1.trans (hx2.trans (hx3.trans k3)))⟩
   ·rintro e w' ⟨v',rfl,OK',g',k1,k2,k3⟩
    exact ⟨v',OK',g',rfl,k1,k2,k3⟩
 ·cases he
end Sh
namespace Sh
open Go
def Hc:List (FuncId × aB):=[(77,aK 4 M77),(78,aK 4 M78),(79,H79)]
@[simp] theorem L4:aR Hc 77=some (aK 4 M77):=rfl
@[simp] theorem L3:aR Hc 78=some (aK 4 M78):=rfl
@[simp] theorem LZ:aR Hc 79=some H79:=rfl
def H31:aB:=fun _=>bN (ac GS Hc) 0 Gc
theorem tO:au Tryz.prog GS 31 H31:=(aG (E:=ac GS Hc) (ai (ag (au.of_pure E1 4) (ag (au.of_pure E0 4) (ag EZ an)))) rfl at31 Is aU.nil).y
theorem xM (A:aa) (o:AV):Fr A (ik A o) (aC o):=by
 cases o <;> first | exact Fr.refl _ _ | skip
 exact Fr.set _ _ _
theorem DV {A:aa} {id:Nat} {cells:List AV} {c:Cal} (h:cz A id cells c) {t:Nat} (ht:t<60):∃s,cells[t]?=some s/\bY A s 4 ((c t).map bkA):=by
 have hg:cells[t]?=some (cells[t]'(by rw [h.len]; exact ht)):=List.getElem?_eq_getElem _
 exact ⟨_,hg,h.slot t _ hg⟩
theorem Mi (h:aE) {A:aa} {id:Nat} {cells:List AV} {c:Cal} (hC:cz A id cells c) (hg:∀t,qm (c t)) (hl:∀t,(c t).length<=900) (b:Bk) :
  (∃d B cells',cK c b=some d/\H31 h [.ptr id 0 0,bkA b] A=some (.int .i64 0,B)/\cz B id cells' d/\Fr A B (id :: fQ cells)/\∀k∈fQ cells',k∈fQ cells\/A.length<=k) \/
  (∃B,cK c b=none/\H31 h [.ptr id 0 0,bkA b] A=some (.int .i64 70,B)/\cz B id cells c/\Fr A B []):=by
 have F1:=Fr.app A [.row 4 false [bkA b]] []
 have hC1:cz (A++[.row 4 false [bkA b]]) id cells c:=hC.fr F1 (by simp) (by simp)
 have hbx:(A++[Ent.row 4 false [bkA b]])[A.length]?=some (.row 4 false [bkA b]):=by simp
 have idl:id<A.length:=(List.getElem?_eq_some_iff.1 hC.row).1
 have hA1e:cn 4 (.agg [.int .i64 b.tool,.int .i64 b.start,.int .i64 b.fin,.int .i64 b.owner]) A=some (.ptr A.length 0 0,A++[.row 4 false [bkA b]]):=by simp [cn,bkA]
 have lA1:(A++[Ent.row 4 false [bkA b]]).length=A.length+1:=by simp
 generalize A++[Ent.row 4 false [bkA b]]=A1 at *
 have fz:=hC1.frz
 have q77:∀hd,aK 4 M77 hd [.agg [.int .i64 b.tool,.int .i64 b.start,.int .i64 b.fin,.int .i64 b.owner]] A1=some (.bool (decide (okB b)),A1):=fun hd=>by
  have m:=IQ b
  unfold bkA at m
  simp [m]
 have q78:(0<=b.tool/\b.tool<60)->b.start<b.fin->∀hd,aK 4 M78 hd [.ptr id 0 0,.int .i64 b.tool,.int .i64 b.start,.int .i64 b.fin] A1=some (.bool (pf (c b.tool.toNat) b.start b.fin),A1):=fun o45 o2 hd=>by
  have m8:=IP c o45.1 o45.2 o2 (by have:=hl b.tool.toNat; omega)
  have e:[AV.ptr id 0 0,.int .i64 b.tool,.int .i64 b.start,.int .i64 b.fin].map (frz A1 4)=[fpC c,.int .i64 b.tool,.int .i64 b.start,.int .i64 b.fin]:=by
   simp only [List.map_cons,List.map_nil,fz]; rfl
  show ij 4 M78 _ A1=_
  unfold ij
  rw [e,m8]
  simp
 by_cases hok:okB b
 ·rw [decide_eq_true hok] at q77
  have hok':=hok
  obtain ⟨⟨o1,o2,o3⟩,⟨o4,o5⟩,_⟩:=hok
  have q78:=q78 ⟨o4,o5⟩ o2
  obtain ⟨s,hs,ho⟩:=DV hC1 (t:=b.tool.toNat) (by omega)
  by_cases hbusy:pf (c b.tool.toNat) b.start b.fin=true
  ·
   rw [hbusy] at q78
   refine .inr ⟨A1,?_,?_,hC1,F1⟩
   ·unfold cK
    rw [if_neg (by rw [hbusy]; simp)]
   ·unfold H31
    rw [aH _ _ rfl]
    unfold bkA at *
    simp [Gc,hA1e,hbx,q77,q78,-cn,-aK,-ij]
  ·
   rw [Bool.not_eq_true] at hbusy
   rw [hbusy] at q78
   have e79:=ev79 (fun _ _ _=>none) b ho (hg _) (by have:=hl b.tool.toNat; omega)
   have hsid:id ∉ aC s:=hC1.notId _ _ hs
   have hslow:=(hC.slot _ _ hs).low
   have hsA:A.length ∉ aC s:=fun h=>by have:=hslow _ h; omega
   have hcells:=hC1.row
   have FB:Fr A1 (ik A1 s++[.row 4 false ((iZ (c b.tool.toNat) b).map bkA)]) (aC s):=(xM A1 s).trans (Fr.app _ _ []) (fun _ h=>h) (by simp)
   have lB:(ik A1 s++[Ent.row 4 false ((iZ (c b.tool.toNat) b).map bkA)]).length=A1.length+1:=by simp [pO]
   have hnew:(ik A1 s++[Ent.row 4 false ((iZ (c b.tool.toNat) b).map bkA)])[A1.length]?=some (.row 4 false ((iZ (c b.tool.toNat) b).map bkA)):=by
    rw [<-pO A1 s]; simp
   generalize ik A1 s++[Ent.row 4 false ((iZ (c b.tool.toNat) b).map bkA)]=B at *
   have hBid:=FB.at hcells hsid
   have hBbx:=FB.at hbx hsA
   have hidB:id<B.length:=(List.getElem?_eq_some_iff.1 hBid).1
   obtain ⟨t,ht⟩:∃t:Nat,b.tool=(t:Int):=⟨b.tool.toNat,by omega⟩
   have ht':b.tool.toNat=t:=by omega
   rw [ht'] at e79 hs hbusy hnew ho
   have ht60:t<60:=by omega
   obtain ⟨n,hn⟩:∃n,n=(c t).length+1:=⟨_,rfl⟩
   rw [<-hn] at e79
   have hinl:((iZ (c t) b).map bkA).length=n:=by
    rw [qJ,lc _ _ (by rw [List.length_map]; exact o8 _ _),List.length_map,hn]
   have hbk:cK c b=some (vZ c t (iZ (c t) b)):=by
    unfold cK
    rw [ht',if_pos ⟨hok',hbusy⟩]
   have FC:Fr A1 (B.set id (.row 60 false [.agg (cells.set t (.sl A1.length 0 n))])) (id :: aC s):=FB.trans (Fr.set B id _) (fun _ h=>List.mem_cons_of_mem _ h) (fun _ _ h=>by simp at h; simp [h])
   refine .inl ⟨vZ c t (iZ (c t) b),B.set id (.row 60 false [.agg (cells.set t (.sl A1.length 0 n))]),cells.set t (.sl A1.length 0 n),hbk,?_,?_,?_,?_⟩
   ·have x1:aS 60 1 A1 (.ptr id 0 0) (.int .i64 b.tool)=some (.ptr id 0 t):=by
     rw [ht]; simp [aS,hcells]; omega
    have x2:aS 60 1 B (.ptr id 0 0) (.int .i64 b.tool)=some (.ptr id 0 t):=by
     rw [ht]; simp [aS,hBid]; omega
    have st:aP 1 B (.ptr id 0 t) (.sl A1.length 0 n)=some (B.set id (.row 60 false [.agg (cells.set t (.sl A1.length 0 n))])):=by
     have hset:cells.take t ++ .sl A1.length 0 n :: cells.drop (t+1)=cells.set t (.sl A1.length 0 n):=by
      rw [List.set_eq_take_append_cons_drop,if_pos (by rw [hC.len]; omega)]
     simp [aP,hBid,az,hC.len,hset,show t+1<=60 by omega]
    unfold H31
    rw [aH _ _ rfl]
    generalize B.set id (.row 60 false [.agg (cells.set t (.sl A1.length 0 n))])=C at *
    unfold bkA lh at *
    clear hC hC1 hnew FC
    simp [Gc,hA1e,hbx,q77,q78,x1,x2,hcells,hs,e79,hBid,hBbx,st,-cn,-aK,-ij,-aP]
   ·refine hC1.put (i:=t) (by rw [List.getElem?_set_self hidB]) ?_ (FC.mono fun j _ hj=>by rw [hs]; exact hj) (fun k hk=>by simp [aC] at hk; omega) (fun u hu=>by unfold vZ; rw [if_neg hu])
    have e:vZ c t (iZ (c t) b) t=iZ (c t) b:=by unfold vZ; rw [if_pos rfl]
    rw [e]
    refine .inr ⟨by intro h0; rw [h0] at hinl; simp at hinl; omega,A1.length,by rw [hinl],?_⟩
    rw [List.getElem?_set_ne (by omega)]
    exact hnew
   ·refine F1.trans FC (by simp) (fun j hj hjm=>?_)
    rcases List.mem_cons.1 hjm with rfl | hjm
    ·simp
    ·exact List.mem_cons_of_mem _ (cM.2 ⟨t,s,hs,hjm⟩)
   ·intro k hk
    obtain ⟨u,a,ha,hka⟩:=cM.1 hk
    rcases jR? ha with ⟨rfl,rfl⟩ | ⟨ne,ha⟩
    ·simp [aC] at hka; exact .inr (by omega)
    ·exact .inl (cM.2 ⟨u,a,ha,hka⟩)
 ·rw [decide_eq_false hok] at q77
  refine .inr ⟨A1,?_,?_,hC1,F1⟩
  ·unfold cK
   rw [if_neg fun h=>hok h.1]
  ·unfold H31
   rw [aH _ _ rfl]
   unfold bkA at *
   simp [Gc,hA1e,hbx,q77,-cn,-aK,-ij]
end Sh
namespace Sh
open Go
def Co:MC:=.region [⟨none,.indexSl 4 (.var 5) (.var 7),none⟩,⟨none,.load true 4 (.tmp 0),none⟩,⟨some 4,.alloc 4 (.agg [.int .i64 0,.int .i64 0,.int .i64 0,.int .i64 0]),none⟩,⟨none,.store 4 (.var 4) (.tmp 1),none⟩]
def uz:MC:=.region [⟨none,.load false 1 (.var 3),none⟩,⟨none,.fieldAddr 1 (.var 4),none⟩,⟨none,.load false 1 (.tmp 1),none⟩,⟨none,.bin .lss (.tmp 0) (.tmp 2),none⟩,⟨none,.mv (.tmp 3),none⟩,⟨none,.mv (.var 0),some (.tmp 4,true)⟩,⟨none,.load false 1 (.var 3),some (.tmp 4,true)⟩,⟨none,.fieldAddr 1 (.var 4),some (.tmp 4,true)⟩,⟨none,.load false 1 (.tmp 7),some (.tmp 4,true)⟩,⟨none,.build [.int .i64 0,.int .i64 0] [(0,(1,.tmp 6)),(1,(1,.tmp 8))],some (.tmp 4,true)⟩,⟨none,.call (.tmp 5) [.tmp 9],some (.tmp 4,true)⟩,⟨none,.un .not (.tmp 10),some (.tmp 4,true)⟩,⟨some 9,.pick (.tmp 4) (.tmp 11) (.cst (.bool false)),none⟩]
def Cn:MC:=.region [⟨none,.load false 1 (.var 3),none⟩,⟨none,.fieldAddr 2 (.var 4),none⟩,⟨none,.load false 1 (.tmp 1),none⟩,⟨none,.minmax true (.tmp 0) [.tmp 2],none⟩,⟨none,.store 1 (.var 3) (.tmp 3),none⟩]
theorem gD:ep=.seq (.region [⟨some 8,.bin .lss (.var 7) (.var 6),none⟩]) (.seq (.cond (.var 8) .skip (.exit 0)) (.seq (.seq (.block 1 (.seq Co (.seq (.seq uz (.cond (.var 9) .ret .skip)) Cn))) (.kill [1,2,4,8,9,10])) (.region [⟨none,.bin .add (.var 7) (.cst (.int .i64 1)),none⟩,⟨some 7,.mv (.tmp 0),none⟩]))):=rfl
def cp (len tool:Int) (fc:AV) (f:Int):aa:=[.row 1 false [.int .i64 len],.row 1 false [.int .i64 0],.row 1 false [.bool false],.row 1 false [fc],.row 1 false [.int .i64 tool],.row 1 false [.int .i64 f]]
def kV (len tool:Int) (fc:AV) (f:Int):aa:=[.row 1 false [.int .i64 len],.row 1 false [.int .i64 f],.row 1 false [.bool true],.row 1 false [fc],.row 1 false [.int .i64 tool],.row 1 false [.int .i64 f]]
structure HS (hd:Nat × Loop->aE) (len tool:Int) (fc:AV):Prop where
 no:∀(T:aa) (f e:Int),inI (e-f)->¬ len<=e-f->∃X,∀x,hd x (yv x) [.agg [.int .i64 f,.int .i64 e]] (Gd (cp len tool fc f) T x)=some (.bool true,Gd (cp len tool fc f) (T++X) x)
 yes:∀(T:aa) (f e:Int),inI (e-f)->len<=e-f->∃T',∀x,hd x (yv x) [.agg [.int .i64 f,.int .i64 e]] (Gd (cp len tool fc f) T x)=some (.bool false,Ge (kV len tool fc f) T' x)
def iH (len:Int):Int->List Bk->Int × Bool
 | f,[]=>(f,false)
 | f,b :: l=>if f<b.start/\len<=b.start-f then (f,true) else iH len (max f b.fin) l
theorem og (len:Int):∀(l:List Bk) (f:Int),eg len f l=match iH len f l with
  | (t,true)=>some t
  | (t,false)=>if t<1000000/\len<=1000000-t then some t else none
 | [],f=>rfl
 | b :: l,f=>by
  unfold eg iH
  split
  ·rfl
  ·exact og len l _
theorem Er {S:aa} {T:aa} {x:Nat × Loop} {j:Nat} (h:j<S.length) (e:Ent):(Gd S T x).set j e=Gd (S.set j e) T x:=by
 unfold Gd
 rw [List.set_append_left _ _ h]
theorem wS {hd:Nat × Loop->aE} {len tool:Int} {fc a:AV} {l:List Bk} (hy:HS hd len tool fc) (ha:SlA 4 (l.map bkA) a) (hl:l.length<=1000) (T:aa) {i:Nat} {b:Bk} {f:Int} (hb:l[i]?=some b) (hf:0<=f) (hs:b.start<=1000000) :
  (¬ (f<b.start/\len<=b.start-f)/\∃T',∀x,run (cG GS [] (hd x)) 1100 [.code ep] (eV (yv x) (.ptr 5 0 0) a (.int .i64 (l.length:Int)) (.int .i64 (i:Int))) (Gd (cp len tool fc f) T x)=some (.normal (eV (yv x) (.ptr 5 0 0) a (.int .i64 (l.length:Int)) (.int .i64 ((i+1:Nat):Int))) (Gd (cp len tool fc (max f b.fin)) T' x))) \/
  ((f<b.start/\len<=b.start-f)/\∃T',∀x,∃ σ,run (cG GS [] (hd x)) 1100 [.code ep] (eV (yv x) (.ptr 5 0 0) a (.int .i64 (l.length:Int)) (.int .i64 (i:Int))) (Gd (cp len tool fc f) T x)=some (.ret σ (Ge (kV len tool fc f) T' x))):=by
 have hi:i<l.length:=(List.getElem?_eq_some_iff.1 hb).1
 have x1:∀A,ae 4 A a (.int .i64 (i:Int))=some (.fp [.int .i64 b.tool,.int .i64 b.start,.int .i64 b.fin,.int .i64 b.owner]):=fun A=>ha.index (A:=A) (x:=bkA b) (by rw [List.getElem?_map,hb]; rfl) rfl (by simp) .i64
 have b1:=bK i l.length .i64
 rw [decide_eq_true hi] at b1
 have b3:=aY i (by omega)
 have c1:=di f b.start
 have mm:cT true (.int .i64 f) [.int .i64 b.fin]=some (.int .i64 (max f b.fin)):=by simp; split <;> omega
 have r1:∀(h:aE) x K,run (cG GS [] h) 1100 (.code Co :: K) [yv x,.undef,.undef,.ptr 5 0 0,.undef,a,.int .i64 (l.length:Int),.int .i64 (i:Int),.bool true,.undef,.undef] (Gd (cp len tool fc f) T x) =
   run (cG GS [] h) 1100 K [yv x,.undef,.undef,.ptr 5 0 0,.ptr (7+T.length) 0 0,a,.int .i64 (l.length:Int),.int .i64 (i:Int),.bool true,.undef,.undef] (Gd (cp len tool fc f) (T++[.row 4 false [bkA b]]) x):=fun h x K=>by
  have le:=jN (cp len tool fc f) T x
  have le:(Gd (cp len tool fc f) T x).length=7+T.length:=le
  rw [<-jO,<-le]
  unfold bkA
  generalize (l.length:Int)=N at *
  generalize (i:Int)=I at *
  generalize Gd (cp len tool fc f) T x=A at *
  simp [Co,x1,-ae]
 have g5:∀T x f,(Gd (cp len tool fc f) T x)[5]?=some (.row 1 false [.int .i64 f]):=fun T x f=>pm rfl T x
 have gb:∀x,(Gd (cp len tool fc f) (T++[.row 4 false [bkA b]]) x)[7+T.length]?=some (.row 4 false [bkA b]):=fun x=>qp (cp len tool fc f) T _ x
 have st:∀T x,(Gd (cp len tool fc f) T x).set 5 (.row 1 false [.int .i64 (max f b.fin)])=Gd (cp len tool fc (max f b.fin)) T x:=fun T x=>Er (show 5<6 by omega) _
 have r3:∀(h:aE) (T2:aa) (v9:AV) x K,(Gd (cp len tool fc f) T2 x)[7+T.length]?=some (.row 4 false [bkA b])->run (cG GS [] h) 1100 (.code Cn :: K) [yv x,.undef,.undef,.ptr 5 0 0,.ptr (7+T.length) 0 0,a,.int .i64 (l.length:Int),.int .i64 (i:Int),.bool true,v9,.undef] (Gd (cp len tool fc f) T2 x) =
   run (cG GS [] h) 1100 K [yv x,.undef,.undef,.ptr 5 0 0,.ptr (7+T.length) 0 0,a,.int .i64 (l.length:Int),.int .i64 (i:Int),.bool true,v9,.undef] (Gd (cp len tool fc (max f b.fin)) T2 x):=fun h T2 v9 x K gb2=>by
  have g:=g5 T2 x f
  rw [<-st T2 x]
  unfold bkA at gb2
  generalize (l.length:Int)=N at *
  generalize (i:Int)=I at *
  generalize max f b.fin=mx at *
  generalize 7+T.length=q at *
  generalize Gd (cp len tool fc f) T2 x=A at *
  simp [Cn,g,gb2,mm,az,-cT]
 by_cases h1:f<b.start
 ·have sub:inI (b.start-f):=by unfold inI; omega
  rw [decide_eq_true h1] at c1
  have r2:∀(o:Bool) (A:aa) x,hd x (yv x) [.agg [.int .i64 f,.int .i64 b.start]] (Gd (cp len tool fc f) (T++[.row 4 false [bkA b]]) x)=some (.bool o,A)->∀K,run (cG GS [] (hd x)) 1100 (.code uz :: K) [yv x,.undef,.undef,.ptr 5 0 0,.ptr (7+T.length) 0 0,a,.int .i64 (l.length:Int),.int .i64 (i:Int),.bool true,.undef,.undef] (Gd (cp len tool fc f) (T++[.row 4 false [bkA b]]) x) =
    run (cG GS [] (hd x)) 1100 K [yv x,.undef,.undef,.ptr 5 0 0,.ptr (7+T.length) 0 0,a,.int .i64 (l.length:Int),.int .i64 (i:Int),.bool true,.bool (!o),.undef] A:=fun o A x hyx K=>by
   have g:=g5 (T++[.row 4 false [bkA b]]) x f
   have gb:=gb x
   generalize Gd (cp len tool fc f) (T++[.row 4 false [bkA b]]) x=A1 at *
   unfold bkA at gb
   unfold yv at *
   generalize 7+T.length=q at *
   generalize (l.length:Int)=N at *
   generalize (i:Int)=I at *
   simp [uz,g,gb,c1,hyx,-aj]
  by_cases h2:len<=b.start-f
  ·refine .inr ⟨⟨h1,h2⟩,?_⟩
   obtain ⟨T',h⟩:=hy.yes (T++[.row 4 false [bkA b]]) f b.start sub h2
   refine ⟨T',fun x=>⟨[yv x,.undef,.undef,.ptr 5 0 0,.ptr (7+T.length) 0 0,a,.int .i64 (l.length:Int),.int .i64 (i:Int),.bool true,.bool true,.undef],?_⟩⟩
   have r2:=r2 false _ x (h x)
   have r1:=r1 (hd x) x
   rw [gD]
   generalize (l.length:Int)=N at *
   generalize (i:Int)=I at *
   simp [r1,r2,b1,-aj]
  ·refine .inl ⟨fun h=>h2 h.2,?_⟩
   obtain ⟨X,h⟩:=hy.no (T++[.row 4 false [bkA b]]) f b.start sub h2
   refine ⟨T++[.row 4 false [bkA b]]++X,fun x=>?_⟩
   have r2:=r2 true _ x (h x)
   have r1:=r1 (hd x) x
   have r3:=fun K=>r3 (hd x) (T++[.row 4 false [bkA b]]++X) (.bool false) x K (by
    have:=vT (cp len tool fc f) (T++[.row 4 false [bkA b]]++X) x T.length
    have e:(Gd (cp len tool fc f) (T++[.row 4 false [bkA b]]++X) x)[7+T.length]?=(T++[.row 4 false [bkA b]]++X)[T.length]?:=this
    rw [e]; simp)
   rw [gD]
   generalize T++[Ent.row 4 false [bkA b]]++X=TX at *
   generalize ((i+1:Nat):Int)=I1 at *
   generalize (l.length:Int)=N at *
   generalize (i:Int)=I at *
   simp [r1,r2,r3,b1,b3,-aj]
 ·rw [decide_eq_false h1] at c1
  refine .inl ⟨fun h=>h1 h.1,T++[.row 4 false [bkA b]],fun x=>?_⟩
  have r2:∀K,run (cG GS [] (hd x)) 1100 (.code uz :: K) [yv x,.undef,.undef,.ptr 5 0 0,.ptr (7+T.length) 0 0,a,.int .i64 (l.length:Int),.int .i64 (i:Int),.bool true,.undef,.undef] (Gd (cp len tool fc f) (T++[.row 4 false [bkA b]]) x) =
    run (cG GS [] (hd x)) 1100 K [yv x,.undef,.undef,.ptr 5 0 0,.ptr (7+T.length) 0 0,a,.int .i64 (l.length:Int),.int .i64 (i:Int),.bool true,.bool false,.undef] (Gd (cp len tool fc f) (T++[.row 4 false [bkA b]]) x):=fun K=>by
   have g:=g5 (T++[.row 4 false [bkA b]]) x f
   have gb:=gb x
   generalize Gd (cp len tool fc f) (T++[.row 4 false [bkA b]]) x=A1 at *
   unfold bkA at gb
   unfold yv at *
   generalize 7+T.length=q at *
   generalize (l.length:Int)=N at *
   generalize (i:Int)=I at *
   simp [uz,g,gb,c1,-aj]
  have r1:=r1 (hd x) x
  have r3:=fun K=>r3 (hd x) (T++[.row 4 false [bkA b]]) (.bool false) x K (gb x)
  rw [gD]
  generalize ((i+1:Nat):Int)=I1 at *
  generalize (l.length:Int)=N at *
  generalize (i:Int)=I at *
  simp [r1,r2,r3,b1,b3,-aj]
end Sh
namespace Sh
open Go
theorem Cd {hd:Nat × Loop->aE} {len tool:Int} {fc a:AV} {l:List Bk} (hy:HS hd len tool fc) (ha:SlA 4 (l.map bkA) a) (hl:l.length<=1000) (hs:∀b∈l,b.start<=1000000):∀(κ i m:Nat) (T:aa) (f:Int),i+κ=l.length->κ<m->0<=f ->
  (0<=(iH len f (l.drop i)).1) /\
  ((iH len f (l.drop i)).2=false->∃T',∀x,bI (evC (cG GS [] (hd x)) 1100 ep) eH m (eV (yv x) (.ptr 5 0 0) a (.int .i64 (l.length:Int)) (.int .i64 (i:Int))) (Gd (cp len tool fc f) T x)=some (.exit 0 ((eV (yv x) (.ptr 5 0 0) a (.int .i64 (l.length:Int)) (.int .i64 (l.length:Int))).set 8 (.bool false)) (Gd (cp len tool fc (iH len f (l.drop i)).1) T' x))) /\
  ((iH len f (l.drop i)).2=true->∃T',∀x,∃ σ,bI (evC (cG GS [] (hd x)) 1100 ep) eH m (eV (yv x) (.ptr 5 0 0) a (.int .i64 (l.length:Int)) (.int .i64 (i:Int))) (Gd (cp len tool fc f) T x)=some (.ret σ (Ge (kV len tool fc (iH len f (l.drop i)).1) T' x))):=by
 intro κ
 induction κ with
 | zero=>
  intro i m T f hi hm hf
  obtain ⟨m,rfl⟩:∃m',m=m'+1:=⟨m-1,by omega⟩
  obtain rfl:i=l.length:=by omega
  have e:l.drop l.length=[]:=List.drop_length
  rw [e]
  refine ⟨hf,fun _=>⟨T,fun x=>?_⟩,fun h=>by cases h⟩
  rw [aF,mP]
  simp [ep,iH]
 | succ κ ih=>
  intro i m T f hi hm hf
  obtain ⟨m,rfl⟩:∃m',m=m'+1:=⟨m-1,by omega⟩
  have hil:i<l.length:=by omega
  have hb:l[i]?=some l[i]:=List.getElem?_eq_getElem hil
  rw [List.drop_eq_getElem_cons hil]
  rcases wS hy ha hl T hb hf (hs _ (List.getElem_mem _)) with ⟨hn,T',h⟩ | ⟨hp,T',h⟩
  ·obtain ⟨k1,k2,k3⟩:=ih (i+1) m T' (max f l[i].fin) (by omega) (by omega) (by omega)
   have e:iH len f (l[i] :: l.drop (i+1))=iH len (max f l[i].fin) (l.drop (i+1)):=by
    rw [iH]; exact if_neg hn
   rw [e]
   refine ⟨k1,fun hq=>?_,fun hq=>?_⟩
   ·obtain ⟨T2,k⟩:=k2 hq
    refine ⟨T2,fun x=>?_⟩
    rw [aF,mP,h x]
    exact k x
   ·obtain ⟨T2,k⟩:=k3 hq
    refine ⟨T2,fun x=>?_⟩
    rw [aF,mP,h x]
    exact k x
  ·have e:iH len f (l[i] :: l.drop (i+1))=(f,true):=by
    rw [iH]; exact if_pos hp
   rw [e]
   refine ⟨hf,fun hq=>(by cases hq),fun _=>⟨T',fun x=>?_⟩⟩
   obtain ⟨σ,h⟩:=h x
   refine ⟨σ,?_⟩
   rw [aF,mP,h]
def wm:aB:=fun h=>bN (cG GS [] h) 1100 oK
theorem zE:au Tryz.prog GS 187 wm:=ct an MJ CW
theorem Mj {hd:Nat × Loop->aE} {len tool:Int} {c:Cal} (hy:HS hd len tool (fpC c)) (h0:0<=tool) (h1:tool<60) (hl:(c tool.toNat).length<=1000) (hs:∀b∈c tool.toNat,b.start<=1000000) {f:Int} (hf:0<=f) :
  (∀t,eg len f (c tool.toNat)=some t->∃T',∀x,wm (hd x) [yv x,.ptr 3 0 0,.ptr 4 0 0,.ptr 5 0 0] (Gd (cp len tool (fpC c) f) [] x)=some (.tup [],Ge (kV len tool (fpC c) t) T' x)) /\
  (eg len f (c tool.toNat)=none->∃T' t,∀x,wm (hd x) [yv x,.ptr 3 0 0,.ptr 4 0 0,.ptr 5 0 0] (Gd (cp len tool (fpC c) f) [] x)=some (.tup [],Gd (cp len tool (fpC c) t) T' x)):=by
 have ha:=bu 4 ((c tool.toNat).map bkA)
 have len':=ha.len
 rw [List.length_map] at len'
 obtain ⟨k1,k2,k3⟩:=Cd hy ha hl hs (c tool.toNat).length 0 1100 [] f (by omega) (by omega) hf
 rw [List.drop_zero] at k1 k2 k3
 rw [og]
 have e0:((0:Nat):Int)=0:=rfl
 have w1:∀T x f,(Gd (cp len tool (fpC c) f) T x)[3]?=some (.row 1 false [fpC c]):=fun T x f=>pm rfl T x
 have w2:∀T x f,(Gd (cp len tool (fpC c) f) T x)[4]?=some (.row 1 false [.int .i64 tool]):=fun T x f=>pm rfl T x
 have w3:∀T x f,(Gd (cp len tool (fpC c) f) T x)[5]?=some (.row 1 false [.int .i64 f]):=fun T x f=>pm rfl T x
 have x1:=uC c h0 h1
 have x2:=rV c h0 h1
 have hdA:∀A,aw 0 A (fpC c)=some (fpC c):=fun A=>by simp [aw,fpC,ig]
 have hk:cS (fpC c)=some (fpC c):=rfl
 have hld:ba (fpC c) 1 0 false 1=some (fpC c):=rfl
 obtain ⟨q,hq⟩:∃q,q=iH len f (c tool.toNat):=⟨_,rfl⟩
 rw [<-hq] at k1 k2 k3 ⊢
 have pre:∀(x:Nat × Loop) (o:Out),bI (evC (cG GS [] (hd x)) 1100 ep) eH 1100 (eV (yv x) (.ptr 5 0 0) (slA 4 ((c tool.toNat).map bkA)) (.int .i64 ((c tool.toNat).length:Int)) (.int .i64 0)) (Gd (cp len tool (fpC c) f) [] x)=some o ->
   run (cG GS [] (hd x)) 1100 [.code oK.mc] ([yv x,.ptr 3 0 0,.ptr 4 0 0,.ptr 5 0 0]++List.replicate (oK.len-oK.n) .undef) (Gd (cp len tool (fpC c) f) [] x) =
    after (cG GS [] (hd x)) 1100 [.blk 0,.code (.kill [1,2,4,5,6,7,8,9,10]),.code (.seq (.region [⟨none,.load false 1 (.var 3),none⟩,⟨some 10,.bin .lss (.tmp 0) (.cst (.int .i64 1000000)),none⟩]) (.cond (.var 10) (.region [⟨none,.mv (.var 0),none⟩,⟨none,.load false 1 (.var 3),none⟩,⟨none,.build [.int .i64 0,.int .i64 0] [(0,(1,.tmp 1)),(1,(1,.cst (.int .i64 1000000)))],none⟩,⟨none,.call (.tmp 0) [.tmp 2],none⟩]) .skip))] o:=fun x o lp=>by
  have u1:=w1 [] x f
  have u2:=w2 [] x f
  clear w1 w2 w3
  have x2':((en c).drop tool.toNat)[0]?=some (slA 4 ((c tool.toNat).map bkA)):=x2 []
  generalize Gd (cp len tool (fpC c) f) [] x=A at *
  generalize slA 4 ((c tool.toNat).map bkA)=sl at *
  generalize ((c tool.toNat).length:Int)=N at *
  generalize (en c).drop tool.toNat=dr at *
  generalize fpC c=fc at *
  unfold yv at *
  simp [oK,u1,u2,x1,hdA,hk,hld,x2',len',CB lp,-ay,-aw,-cS]
 obtain ⟨t,d⟩:=q
 cases d with
 | true=>
  obtain ⟨T',k⟩:=k3 rfl
  refine ⟨fun t' ht=>⟨T',fun x=>?_⟩,fun h=>by cases h⟩
  obtain rfl:t=t':=by injection ht
  obtain ⟨σ,k⟩:=k x
  rw [e0] at k
  unfold wm
  rw [aH _ _ rfl,pre x _ k]
  rfl
 | false=>
  obtain ⟨T',k⟩:=k2 rfl
  simp only at k k1
  by_cases ht:t<1000000
  ·have sub:inI (1000000-t):=by unfold inI; omega
   have c1:aj .lss (.int .i64 t) (.int .i64 1000000)=some (.bool true):=by rw [di,decide_eq_true ht]
   by_cases hq2:len<=1000000-t
   ·obtain ⟨T2,y⟩:=hy.yes T' t 1000000 sub hq2
    simp only [if_pos (And.intro ht hq2)]
    refine ⟨fun t' ht'=>⟨T2,fun x=>?_⟩,fun h=>by cases h⟩
    obtain rfl:t=t':=by injection ht'
    have k:=k x
    rw [e0] at k
    have y:=y x
    have w3:=w3 T' x t
    unfold wm
    rw [aH _ _ rfl,pre x _ k]
    generalize Gd (cp len tool (fpC c) t) T' x=A at *
    generalize Ge (kV len tool (fpC c) t) T2 x=B at *
    unfold yv at *
    simp [oK,w3,c1,y,-aj]
   ·obtain ⟨X,y⟩:=hy.no T' t 1000000 sub hq2
    have hn:¬ (t<1000000/\len<=1000000-t):=fun h=>hq2 h.2
    simp only [if_neg hn]
    refine ⟨fun t' ht'=>(by cases ht'),fun _=>⟨T'++X,t,fun x=>?_⟩⟩
    have k:=k x
    rw [e0] at k
    have y:=y x
    have w3:=w3 T' x t
    unfold wm
    rw [aH _ _ rfl,pre x _ k]
    generalize Gd (cp len tool (fpC c) t) T' x=A at *
    generalize Gd (cp len tool (fpC c) t) (T'++X) x=B at *
    unfold yv at *
    simp [oK,w3,c1,y,-aj]
  ·have c1:aj .lss (.int .i64 t) (.int .i64 1000000)=some (.bool false):=by rw [di,decide_eq_false ht]
   have hn:¬ (t<1000000/\len<=1000000-t):=fun h=>ht h.1
   simp only [if_neg hn]
   refine ⟨fun t' ht'=>(by cases ht'),fun _=>⟨T',t,fun x=>?_⟩⟩
   have k:=k x
   rw [e0] at k
   have w3:=w3 T' x t
   unfold wm
   rw [aH _ _ rfl,pre x _ k]
   generalize Gd (cp len tool (fpC c) t) T' x=A at *
   unfold yv at *
   simp [oK,w3,c1,-aj]
end Sh
namespace Sh
open Go
def Jr:aB:=fun _=>bN (ac GS []) 0 Bt
theorem zJ:au Tryz.prog GS 180 Jr:=(aG (E:=ac GS []) (ai an) rfl MP C3 aU.nil).y
theorem Mk (h:aE) (A:aa) (cs:List AV) (tool f:Int):Jr h [.fp cs,.int .i64 tool,.int .i64 f] A=some (.func (.func 187) [] [.ptr A.length 0 0,.ptr (A.length+1) 0 0,.ptr (A.length+1+1) 0 0],A++[.row 1 false [.fp cs],.row 1 false [.int .i64 tool],.row 1 false [.int .i64 f]]):=by
 unfold Jr
 rw [aH _ _ rfl]
 simp [Bt]
def gJ:List (FuncId × aB):=[(133,aK 4 yg),(180,Jr),(187,wm)]
@[simp] theorem Hj:aR gJ 133=some (aK 4 yg):=rfl
@[simp] theorem Hi:aR gJ 180=some Jr:=rfl
@[simp] theorem Hh:aR gJ 187=some wm:=rfl
def σ170 (v0 v1 v2 v3 v8 v9:AV):List AV:=[v0,v1,v2,v3,.ptr 0 0 0,.ptr 1 0 0,.ptr 2 0 0,.undef,v8,v9,.undef,.undef]
def xO (v0 v1 v2 v3 v8 v9:AV) (x:Nat × Loop):aE:=cR 6 x.1 x.2 (σ170 v0 v1 v2 v3 v8 v9) [10] (evC (ac GS gJ) 10 jW) (evC (ac GS gJ) 10 gE) (fun _ _ _=>none)
theorem Ly (v0 v1 v2 v3 v8 v9:AV) (len tool:Int) (fc:AV):HS (xO v0 v1 v2 v3 v8 v9) len tool fc:=by
 have sA:∀f e:Int,fF (σ170 v0 v1 v2 v3 v8 v9) [10] [.agg [.int .i64 f,.int .i64 e]]=some [v0,v1,v2,v3,.ptr 0 0 0,.ptr 1 0 0,.ptr 2 0 0,.undef,v8,v9,.agg [.int .i64 f,.int .i64 e],.undef]:=fun f e=>rfl
 have asg:∀(T:aa) (f e:Int) x,evC (ac GS gJ) 10 jW [v0,v1,v2,v3,.ptr 0 0 0,.ptr 1 0 0,.ptr 2 0 0,.undef,v8,v9,.agg [.int .i64 f,.int .i64 e],.undef] (Gd (cp len tool fc f) T x)=some (.normal [v0,v1,v2,v3,.ptr 0 0 0,.ptr 1 0 0,.ptr 2 0 0,.ptr (7+T.length) 0 0,v8,v9,.agg [.int .i64 f,.int .i64 e],.undef] (Gd (cp len tool fc f) (T++[.row 2 false [.agg [.int .i64 f,.int .i64 e]]]) x)):=fun T f e x=>by
  have l:=jN (cp len tool fc f) T x
  have l:(Gd (cp len tool fc f) T x).length=7+T.length:=l
  rw [dv,<-jO,<-l]
  generalize Gd (cp len tool fc f) T x=A at *
  simp [jW,az]
 have g0:∀(T:aa) (f:Int) (x:Nat × Loop),(Gd (cp len tool fc f) T x)[6]?=some (.loop x.2 0):=fun T f x=>Es (cp len tool fc f) T x
 have g2:∀(T:aa) (f:Int) (x:Nat × Loop),(Gd (cp len tool fc f) T x).set 6 .dead=cp len tool fc f ++ .dead :: T:=fun T f x=>vU (cp len tool fc f) T x
 have m:∀(T:aa) (f e:Int),(cp len tool fc f ++ .dead :: (T++[.row 2 false [.agg [.int .i64 f,.int .i64 e]]]))[7+T.length]?=some (.row 2 false [.agg [.int .i64 f,.int .i64 e]]):=fun T f e=>by
  rw [List.getElem?_append_right (by simp [cp]; omega)]
  have:7+T.length-(cp len tool fc f).length=T.length+1:=by simp [cp]; omega
  rw [this]
  simp
 constructor
 ·intro T f e sub hlt
  refine ⟨[.row 2 false [.agg [.int .i64 f,.int .i64 e]]],fun x=>?_⟩
  have s1:=pX sub
  have c1:=qP (e-f) len
  rw [decide_eq_false hlt] at c1
  obtain ⟨B1,hB1⟩:∃B1,B1=cp len tool fc f ++ .dead :: (T++[.row 2 false [.agg [.int .i64 f,.int .i64 e]]]):=⟨_,rfl⟩
  have m0:B1[0]?=some (.row 1 false [.int .i64 len]):=by rw [hB1]; rfl
  have m7:=m T f e
  rw [<-hB1] at m7
  have body:evC (ac GS gJ) 10 gE [v0,v1,v2,v3,.ptr 0 0 0,.ptr 1 0 0,.ptr 2 0 0,.ptr (7+T.length) 0 0,v8,v9,.agg [.int .i64 f,.int .i64 e],.undef] B1=some (.normal [.undef,.undef,.undef,.undef,.undef,.undef,.undef,.undef,.undef,.undef,.undef,.undef] B1):=by
   rw [dv]
   clear hB1 m asg sA g0 g2
   generalize e-f=z at *
   generalize 7+T.length=q at *
   simp [gE,m0,m7,s1,c1,-aj]
  have:=gU (h:=fun _ _ _=>none) (l:=x.1) (g0 T f x) (sA f e) (asg T f e x) (g0 _ f x) (by rw [g2 _ f x,<-hB1]; exact body)
  unfold xO yv
  rw [this,hB1]
  exact congrArg (fun z=>some (AV.bool true,z)) (u5 (cp len tool fc f) _ x)
 ·intro T f e sub hlt
  refine ⟨T++[.row 2 false [.agg [.int .i64 f,.int .i64 e]]],fun x=>?_⟩
  have s1:=pX sub
  have c1:=qP (e-f) len
  rw [decide_eq_true hlt] at c1
  obtain ⟨B1,hB1⟩:∃B1,B1=cp len tool fc f ++ .dead :: (T++[.row 2 false [.agg [.int .i64 f,.int .i64 e]]]):=⟨_,rfl⟩
  have m0:B1[0]?=some (.row 1 false [.int .i64 len]):=by rw [hB1]; rfl
  have m1:B1[1]?=some (.row 1 false [.int .i64 0]):=by rw [hB1]; rfl
  have m2:(B1.set 1 (.row 1 false [.int .i64 f]))[2]?=some (.row 1 false [.bool false]):=by rw [hB1]; rfl
  have m7:=m T f e
  rw [<-hB1] at m7
  have hfin:(B1.set 1 (.row 1 false [.int .i64 f])).set 2 (.row 1 false [.bool true])=kV len tool fc f ++ .dead :: (T++[.row 2 false [.agg [.int .i64 f,.int .i64 e]]]):=by rw [hB1]; rfl
  have body:evC (ac GS gJ) 10 gE [v0,v1,v2,v3,.ptr 0 0 0,.ptr 1 0 0,.ptr 2 0 0,.ptr (7+T.length) 0 0,v8,v9,.agg [.int .i64 f,.int .i64 e],.undef] B1=some (.ret [v0,v1,v2,v3,.ptr 0 0 0,.ptr 1 0 0,.ptr 2 0 0,.ptr (7+T.length) 0 0,v8,v9,.agg [.int .i64 f,.int .i64 e],.bool true] ((B1.set 1 (.row 1 false [.int .i64 f])).set 2 (.row 1 false [.bool true]))):=by
   rw [dv]
   clear hB1 m asg sA g0 g2 hfin
   generalize e-f=z at *
   generalize 7+T.length=q at *
   simp [gE,m0,m1,m2,m7,s1,c1,az,-aj]
  have:=pn (h:=fun _ _ _=>none) (l:=x.1) (g0 T f x) (sA f e) (asg T f e x) (g0 _ f x) (by rw [g2 _ f x,<-hB1]; exact body)
  unfold xO yv
  rw [this,hfin]
  exact congrArg (fun z=>some (AV.bool false,z)) (CU (kV len tool fc f) _ x)
def zh:aN:=fun args=>evP (ac GS gJ) 10 xg 4 args
theorem zP:ak Tryz.prog GS 170 zh:=ak.of_ev (E:=ac GS gJ) (ai (ag (au.of_pure qA 4) (ag zJ (ag zE an)))) rfl MW Dc 4 fun _ _ h=>⟨10,h⟩
def oh:Option Int->AV
 | some t=>.tup [.int .i64 t,.bool true]
 | none=>.tup [.int .i64 0,.bool false]
theorem D6 (c:Cal) {tool from_ len:Int} (h01:0<=tool/\tool<60) (hlen:1<=len) (hl:(c tool.toNat).length<=1000) (hs:∀b∈c tool.toNat,b.start<=1000000):zh [fpC c,.int .i64 tool,.int .i64 from_,.int .i64 len]=some (oh (cE c tool from_ len)):=by
 have m:=rk tool
 rw [decide_eq_true h01] at m
 have g:=di len 1
 rw [decide_eq_false (by omega)] at g
 have mm:cT true (.int .i64 from_) [.int .i64 0]=some (.int .i64 (max from_ 0)):=by simp; split <;> omega
 have e180:=Mk (fun _ _ _=>none) [.row 1 false [.int .i64 len],.row 1 false [.int .i64 0],.row 1 false [.bool false]] (en c) tool (max from_ 0)
 have hn:fI 0 (fpC c)=some false:=rfl
 have hft:cE c tool from_ len=eg len (max from_ 0) (c tool.toNat):=by unfold cE; rw [if_pos ⟨h01,hlen⟩]
 rw [hft]
 obtain ⟨f,hf⟩:∃f,f=max from_ 0:=⟨_,rfl⟩
 have hf0:0<=f:=by omega
 rw [<-hf] at mm e180 ⊢
 obtain ⟨k1,k2⟩:=Mj (Ly (fpC c) (.int .i64 tool) (.int .i64 from_) (.int .i64 len) (.bool false) (.func (.func 187) [] [.ptr 3 0 0,.ptr 4 0 0,.ptr 5 0 0]) len tool (fpC c)) h01.1 h01.2 hl hs hf0
 have rf:∀(o:Out) (A':Nat × Loop->aa),(∀x,wm (xO (fpC c) (.int .i64 tool) (.int .i64 from_) (.int .i64 len) (.bool false) (.func (.func 187) [] [.ptr 3 0 0,.ptr 4 0 0,.ptr 5 0 0]) x) [yv x,.ptr 3 0 0,.ptr 4 0 0,.ptr 5 0 0] (Gd (cp len tool (fpC c) f) [] x)=some (.tup [],A' x))->(∀x,fJ 6 (σ170 (fpC c) (.int .i64 tool) (.int .i64 from_) (.int .i64 len) (.bool false) (.func (.func 187) [] [.ptr 3 0 0,.ptr 4 0 0,.ptr 5 0 0])) (A' x)=some o) ->
   ∀k,run (ac GS gJ) 10 (.code (.rangeFunc (.var 9) [10] jW gE) :: k) (σ170 (fpC c) (.int .i64 tool) (.int .i64 from_) (.int .i64 len) (.bool false) (.func (.func 187) [] [.ptr 3 0 0,.ptr 4 0 0,.ptr 5 0 0])) (cp len tool (fpC c) f)=after (ac GS gJ) 10 k o:=fun o A' h1 h2 k=>by
  refine cY _ _ _ _ _ fun l r=>?_
  have e:(ac GS gJ).callY (cR (cp len tool (fpC c) f).length l r (σ170 (fpC c) (.int .i64 tool) (.int .i64 from_) (.int .i64 len) (.bool false) (.func (.func 187) [] [.ptr 3 0 0,.ptr 4 0 0,.ptr 5 0 0])) [10] (evC (ac GS gJ) 10 jW) (evC (ac GS gJ) 10 gE) (ac GS gJ).hand) (evX (ac GS gJ) (σ170 (fpC c) (.int .i64 tool) (.int .i64 from_) (.int .i64 len) (.bool false) (.func (.func 187) [] [.ptr 3 0 0,.ptr 4 0 0,.ptr 5 0 0])) [] (.var 9)) [.func (.yield l) [] []] (cp len tool (fpC c) f++[Ent.loop r 0])=some (.tup [],A' (l,r)):=h1 (l,r)
  rw [e]
  exact h2 (l,r)
 cases hr:eg len f (c tool.toNat) with
 | some t=>
  obtain ⟨T',k⟩:=k1 t hr
  have rf:=rf (.ret (σ170 (fpC c) (.int .i64 tool) (.int .i64 from_) (.int .i64 len) (.bool false) (.func (.func 187) [] [.ptr 3 0 0,.ptr 4 0 0,.ptr 5 0 0])) (kV len tool (fpC c) t ++ .dead :: T')) _ k (fun x=>by
   have g:(Ge (kV len tool (fpC c) t) T' x)[6]?=some (.loop x.2 1):=rfl
   simp only [fJ,g]
   rfl)
  have z1:(kV len tool (fpC c) t ++ .dead :: T')[1]?=some (.row 1 false [.int .i64 t]):=rfl
  have z2:(kV len tool (fpC c) t ++ .dead :: T')[2]?=some (.row 1 false [.bool true]):=rfl
  unfold zh
  rw [aZ _ _ rfl]
  clear k k1 k2 hr
  generalize kV len tool (fpC c) t ++ .dead :: T'=D at *
  unfold cp σ170 oh fpC at *
  generalize en c=cs at *
  simp [xg,m,g,mm,e180,rf,z1,z2,-aj,-cT]
 | none=>
  obtain ⟨T',t,k⟩:=k2 hr
  have rf:=rf (.normal (σ170 (fpC c) (.int .i64 tool) (.int .i64 from_) (.int .i64 len) (.bool false) (.func (.func 187) [] [.ptr 3 0 0,.ptr 4 0 0,.ptr 5 0 0])) (cp len tool (fpC c) t ++ .dead :: T')) _ k (fun x=>by
   have g:(Gd (cp len tool (fpC c) t) T' x)[6]?=some (.loop x.2 0):=rfl
   simp only [fJ,g]
   rfl)
  have z1:(cp len tool (fpC c) t ++ .dead :: T')[1]?=some (.row 1 false [.int .i64 0]):=rfl
  have z2:((cp len tool (fpC c) t ++ .dead :: T').set 1 (.row 1 false [.int .i64 0]))[2]?=some (.row 1 false [.bool false]):=rfl
  have z3:(((cp len tool (fpC c) t ++ .dead :: T').set 1 (.row 1 false [.int .i64 0])).set 2 (.row 1 false [.bool false]))[1]?=some (.row 1 false [.int .i64 0]):=rfl
  have z4:(((cp len tool (fpC c) t ++ .dead :: T').set 1 (.row 1 false [.int .i64 0])).set 2 (.row 1 false [.bool false]))[2]?=some (.row 1 false [.bool false]):=rfl
  unfold zh
  rw [aZ _ _ rfl]
  clear k k1 k2 hr
  generalize cp len tool (fpC c) t ++ .dead :: T'=D at *
  unfold cp σ170 oh fpC at *
  generalize en c=cs at *
  simp [xg,m,g,mm,e180,rf,z1,z2,z3,z4,az,-aj,-cT]
end Sh
namespace Sh
open Go
def M85:aN:=fun args=>evP (ac GS []) 0 KZ 4 args
theorem yq:ak Tryz.prog GS 85 M85:=ak.of_ev (E:=ac GS []) (ai an) rfl at85 H3 4 fun _ _ h=>⟨0,h⟩
theorem zd (x:Stg) (h:inI (max x.ms x.ss+x.mx)):M85 [aI x]=some (.int .i64 (max x.ms x.ss+x.mx)):=by
 have mm:cT true (.int .i64 x.ms) [.int .i64 x.ss]=some (.int .i64 (max x.ms x.ss)):=by simp; split <;> omega
 have a:=dX h
 unfold M85
 rw [aZ _ _ rfl]
 unfold aI
 generalize max x.ms x.ss+x.mx=z at *
 generalize max x.ms x.ss=y at *
 simp [KZ,mm,a,-aj,-cT]
theorem wy (w:World):Calls Tryz.prog 142 #[.slice none 0 0] w fun e w'=>e=.returned (.slice none 0 0)/\w'=w:=by
 have q:∀(w:World) (a:Option Addr) (n c n' c':Nat),(binOp .eql 29 (.slice a n c) (.slice none n' c')).run Tryz.prog w=.ok (.bool a.isNone) w:=fun w a n c n' c'=>Lib.run_eql_slice_nil w _ _ a n c n' c' Tryz.underlying29
 go_enter Tryz.func142,Tryz.ntmps142
 go_wp2
 go_ret
 exact ⟨rfl,rfl⟩
theorem wx (a:Addr) (w:World):Calls Tryz.prog 142 #[.slice (some a) 0 0] w fun e w'=>∃p o,e=.returned (.slice p 0 0)/\w'=w.alloc o:=by
 have q:∀(w:World) (a:Option Addr) (n c n' c':Nat),(binOp .eql 29 (.slice a n c) (.slice none n' c')).run Tryz.prog w=.ok (.bool a.isNone) w:=fun w a n c n' c'=>Lib.run_eql_slice_nil w _ _ a n c n' c' Tryz.underlying29
 go_enter Tryz.func142,Tryz.ntmps142
 go_wp2
 go_ret
 exact ⟨_,_,rfl,rfl⟩
def tp:aN:=fun args=>evP (ac GS []) 0 xo 4 args
theorem rF:ak Tryz.prog GS 142 tp:=ak.of_ev (E:=ac GS []) (ai an) rfl Ni Dr 4 fun _ _ h=>⟨0,h⟩
def wk:aN:=fun args=>match args with
 | [.nilS]=>some .nilS
 | _=>tp args
theorem Ac:ak Tryz.prog GS 142 wk:=by
 refine ⟨rF.1,fun args r he w OK vs hok hG hl=>?_⟩
 unfold wk at he
 split at he
 ·injection he with he
  subst he
  match vs,hl with
  | [v],hl=>
   obtain ⟨h1,_⟩:=hl
   obtain ⟨p,rfl⟩:=h1.inv_nilS
   cases p with
   | none=>
    refine (wy w).mono ?_
    rintro e w' ⟨rfl,rfl⟩
    exact ⟨_,OK,rfl,.nilS _ _,hok,Ext.refl _ _ _⟩
   | some a=>
    refine (wx a w).mono ?_
    rintro e w' ⟨p,o,rfl,rfl⟩
    obtain ⟨k1,k2⟩:=fC (bC.nil hok) o
    exact ⟨_,OK,rfl,.nilS _ _,k1.ok,k2⟩
 ·exact rF.2 _ _ he w OK vs hok hG hl
theorem Ec (l:List Win) (h:l.length<=1000):wk [slA 3 (l.map bi)]=some (slA 3 (l.map bi)):=by
 cases l with
 | nil=>rfl
 | cons x r=>
  have hb:(r.length+1)*24<=140737488355328:=by simp at h; omega
  have e:∀(n:Nat) (l:List Win),(l.map bi).map (frz ([]:aa) (n+1))=l.map bi:=fun n l=>by
   rw [List.map_map]
   exact List.map_congr_left fun z _=>by cases n <;> rfl
  show tp [.fs 3 ((x :: r).map bi)]=some (.fs 3 ((x :: r).map bi))
  have hx:∀(A:aa) (l:List Win),(l.map bi).map (frz A 3)=l.map bi:=fun A l=>by
   rw [List.map_map]
   exact List.map_congr_left fun z _=>rfl
  unfold tp
  rw [aZ _ _ rfl]
  obtain ⟨L,hL⟩:∃L,L=(x :: r).map bi:=⟨_,rfl⟩
  have hl:L.length=r.length+1:=by rw [hL]; simp
  have hx':∀A:aa,L.map (frz A 3)=L:=fun A=>by rw [hL]; exact hx A _
  rw [<-hL]
  have hb':L.length*24<=140737488355328:=by omega
  simp [xo,aV,hb',frz,hx']
def xQ:List (FuncId × aB):=[(31,H31),(170,aK 4 zh)]
@[simp] theorem Kh:aR xQ 31=some H31:=rfl
@[simp] theorem Hs:aR xQ 170=some (aK 4 zh):=rfl
def yj:aB:=fun _=>bN (ac GS xQ) 0 xn
theorem Aa:au Tryz.prog GS 143 yj:=(aG (E:=ac GS xQ) (ai (ag tO (ag (au.of_pure zP 4) an))) rfl Nh Dq aU.nil).y
def i6 (tool start:Int):AV:=.agg [.int .i64 tool,.int .i64 start]
theorem HP (h:aE) {A:aa} {id:Nat} {cells:List AV} {c:Cal} (hC:cz A id cells c) (hg:dj c) (hl:∀t,(c t).length<=900) {tool from_ len:Int} (h01:0<=tool/\tool<60) (hlen:1<=len) (_hlen2:len<=10000) :
  (∀a,cE c tool from_ len=some a->∃d B cells',cK c ⟨tool,a,a+len,1⟩=some d/\dj d/\yj h [.ptr id 0 0,.int .i64 tool,.int .i64 from_,.int .i64 len] A=some (.tup [i6 tool a,.bool true],B)/\cz B id cells' d/\Fr A B (id :: fQ cells)/\∀k∈fQ cells',k∈fQ cells\/A.length<=k) /\
  (cE c tool from_ len=none->∃B,yj h [.ptr id 0 0,.int .i64 tool,.int .i64 from_,.int .i64 len] A=some (.tup [i6 tool 0,.bool false],B)/\Fr A B []):=by
 obtain ⟨e0,he0⟩:∃e0:Ent,e0=.row 2 false [.agg [.int .i64 0,.int .i64 0]]:=⟨_,rfl⟩
 have F1:=Fr.app A [e0] []
 have hC1:cz (A++[e0]) id cells c:=hC.fr F1 (by simp) (by simp)
 have hA1e:cn 2 (.agg [.int .i64 0,.int .i64 0]) A=some (.ptr A.length 0 0,A++[e0]):=by rw [he0]; simp [cn]
 have hbx:(A++[e0])[A.length]?=some e0:=by simp
 have lA1:(A++[e0]).length=A.length+1:=by simp
 have idl:id<A.length:=(List.getElem?_eq_some_iff.1 hC.row).1
 have hidl:∀k∈fQ cells,k<A.length:=fun k hk=>by
  obtain ⟨t,a,ha,hka⟩:=cM.1 hk
  exact (hC.slot t a ha).low k hka
 generalize A++[e0]=A1 at *
 have fz:=hC1.frz
 have hst:∀b∈c tool.toNat,b.start<=1000000:=fun b hb=>by
  have h1:=hg.2 _ b hb
  have h2:=(hg.1 tool.toNat).2 b hb
  omega
 have q170:∀hd,aK 4 zh hd [.ptr id 0 0,.int .i64 tool,.int .i64 from_,.int .i64 len] A1=some (oh (cE c tool from_ len),A1):=fun hd=>by
  have m:=D6 c (from_:=from_) h01 hlen (by have:=hl tool.toNat; omega) hst
  have e:[AV.ptr id 0 0,.int .i64 tool,.int .i64 from_,.int .i64 len].map (frz A1 4)=[fpC c,.int .i64 tool,.int .i64 from_,.int .i64 len]:=by
   simp only [List.map_cons,List.map_nil,fz]; rfl
  show ij 4 zh _ A1=_
  unfold ij
  rw [e,m]
  cases cE c tool from_ len <;> rfl
 constructor
 ·intro a ha
  rw [ha] at q170
  obtain ⟨_,_,_,d,hb,hd⟩:=dn hg ha
  have hbd:0<=a+len/\a+len<=1000000:=by
   obtain ⟨_,ok,_⟩:=cw hg.1 hb
   have:=ok.1
   simp only at this
   omega
  have ad:=dX (x:=a) (y:=len) (by unfold inI; omega)
  rcases Mi (fun _ _ _=>none) hC1 (fun t=>mu (hg.1 t)) hl ⟨tool,a,a+len,1⟩ with ⟨d',B,cells',k1,k2,k3,k4,k5⟩ | ⟨B,k1,_⟩
  ·rw [hb] at k1
   injection k1 with k1
   subst k1
   have hAid:A.length ∉ id :: fQ cells:=fun hin=>by
    rcases List.mem_cons.1 hin with h | h
    ·omega
    ·have:=hidl _ h; omega
   have hbB:=k4.at hbx hAid
   have lB:A.length<B.length:=by have:=k4.1; omega
   refine ⟨d,B.set A.length (.row 2 false [i6 tool a]),cells',hb,hd,?_,k3.fr (Fr.set B A.length _) (by simp; omega) (fun k hk hin=>?_),?_,fun k hk=>?_⟩
   ·unfold yj
    rw [aH _ _ rfl]
    rw [he0] at hbB
    have hset:(B.set A.length (.row 2 false [i6 tool a]))[A.length]?=some (.row 2 false [i6 tool a]):=List.getElem?_set_self lB
    clear lB
    unfold oh bkA i6 at *
    simp only at q170 k2
    generalize a+len=z at *
    simp [xn,hA1e,q170,ad,k2,hbB,az,hset,-cn,-aj,-aK,-ij]
   ·simp at hin
    subst hin
    rcases k5 _ hk with h | h
    ·have:=hidl _ h; omega
    ·omega
   ·refine (F1.trans k4 (fun _ h=>by cases h) (fun _ _ h=>h)).trans (Fr.set B A.length _) (fun _ h=>h) (fun j hj hjm=>by simp at hjm; omega)
   ·rcases k5 k hk with h | h
    ·exact .inl h
    ·exact .inr (by omega)
  ·rw [hb] at k1; cases k1
 ·intro hn
  rw [hn] at q170
  have lB:A.length<A1.length:=by omega
  refine ⟨A1.set A.length (.row 2 false [i6 tool 0]),?_,F1.trans (Fr.set A1 A.length _) (fun _ h=>h) (fun j hj hm=>by simp at hm; omega)⟩
  unfold yj
  rw [aH _ _ rfl]
  rw [he0] at hbx
  have hset:(A1.set A.length (.row 2 false [i6 tool 0]))[A.length]?=some (.row 2 false [i6 tool 0]):=List.getElem?_set_self lB
  clear lB
  unfold oh i6 at *
  simp [xn,hA1e,q170,hbx,az,hset,-cn,-aj,-aK,-ij]
end Sh
namespace Sh
open Go
def Ll:MC:=.region [⟨none,.mv (.var 15),none⟩,⟨none,.indexSl 3 (.var 13) (.var 15),none⟩,⟨none,.load true 3 (.tmp 1),none⟩,⟨some 10,.alloc 3 (.agg [.nilS,.int .i64 0,.int .i64 0]),none⟩,⟨some 9,.mv (.tmp 0),none⟩,⟨none,.store 3 (.var 10) (.tmp 2),none⟩]
def Lk:MC:=.region [⟨none,.fieldAddr 1 (.var 10),none⟩,⟨none,.load false 1 (.tmp 0),none⟩,⟨none,.fieldAddr 2 (.var 10),none⟩,⟨none,.load false 1 (.tmp 2),none⟩,⟨none,.build [.int .i64 0,.int .i64 0,.int .i64 0,.int .i64 0,.int .i64 0,.int .i64 0] [(0,(1,.tmp 1)),(1,(1,.tmp 3))],none⟩,⟨some 11,.alloc 6 (.agg [.int .i64 0,.int .i64 0,.int .i64 0,.int .i64 0,.int .i64 0,.int .i64 0]),none⟩,⟨none,.store 6 (.var 11) (.tmp 4),none⟩]
def Li:MC:=.region [⟨none,.mv (.var 6),none⟩,⟨none,.mv (.var 2),none⟩,⟨none,.mv (.var 9),none⟩,⟨none,.indexSl 2 (.tmp 1) (.tmp 2),none⟩,⟨none,.fieldAddr 0 (.tmp 3),none⟩,⟨none,.load false 1 (.tmp 4),none⟩,⟨none,.mv (.var 8),none⟩,⟨none,.fieldAddr 2 (.var 3),none⟩,⟨none,.load false 1 (.tmp 7),none⟩,⟨none,.bin .add (.tmp 6) (.tmp 8),none⟩,⟨none,.fieldAddr 2 (.var 10),none⟩,⟨none,.load false 1 (.tmp 10),none⟩,⟨none,.call (.fn 143) [.tmp 0,.tmp 5,.tmp 9,.tmp 11],none⟩,⟨none,.mv (.tmp 12),none⟩,⟨none,.extract (.tmp 13) 0,none⟩,⟨none,.extract (.tmp 13) 1,none⟩,⟨none,.fieldAddr 2 (.var 11),none⟩,⟨none,.store 2 (.tmp 16) (.tmp 14),none⟩,⟨some 12,.mv (.tmp 15),none⟩]
def Lh:MC:=.region [⟨none,.mv (.var 6),none⟩,⟨none,.mv (.var 2),none⟩,⟨none,.mv (.var 9),none⟩,⟨none,.indexSl 2 (.tmp 1) (.tmp 2),none⟩,⟨none,.fieldAddr 1 (.tmp 3),none⟩,⟨none,.load false 1 (.tmp 4),none⟩,⟨none,.fieldAddr 2 (.var 11),none⟩,⟨none,.fieldAddr 1 (.tmp 6),none⟩,⟨none,.load false 1 (.tmp 7),none⟩,⟨none,.fieldAddr 2 (.var 10),none⟩,⟨none,.load false 1 (.tmp 9),none⟩,⟨none,.bin .add (.tmp 8) (.tmp 10),none⟩,⟨none,.bin .sub (.tmp 11) (.cst (.int .i64 1)),none⟩,⟨none,.fieldAddr 2 (.var 3),none⟩,⟨none,.load false 1 (.tmp 13),none⟩,⟨none,.bin .add (.tmp 12) (.tmp 14),none⟩,⟨none,.fieldAddr 2 (.var 10),none⟩,⟨none,.load false 1 (.tmp 16),none⟩,⟨none,.call (.fn 143) [.tmp 0,.tmp 5,.tmp 15,.tmp 17],none⟩,⟨none,.mv (.tmp 18),none⟩,⟨none,.extract (.tmp 19) 0,none⟩,⟨none,.extract (.tmp 19) 1,none⟩,⟨none,.fieldAddr 4 (.var 11),none⟩,⟨none,.store 2 (.tmp 22) (.tmp 20),none⟩,⟨some 12,.mv (.tmp 21),none⟩]
def JU:MC:=.region [⟨none,.load true 6 (.var 11),none⟩,⟨none,.call (.fn 85) [.tmp 0],none⟩,⟨some 8,.mv (.tmp 1),none⟩]
def Lg:MC:=.region [⟨none,.fieldAddr 3 (.var 7),none⟩,⟨none,.load false 1 (.tmp 0),none⟩,⟨none,.load true 6 (.var 11),none⟩,⟨none,.buildF 6 [.tmp 2],none⟩,⟨none,.appendN 6 48 (.tmp 1) (.tmp 3),none⟩,⟨none,.fieldAddr 3 (.var 7),none⟩,⟨none,.store 1 (.tmp 5) (.tmp 4),none⟩]
theorem jV:jp=.seq (.region [⟨some 16,.bin .lss (.var 15) (.var 14),none⟩]) (.seq (.cond (.var 16) .skip (.exit 0)) (.seq (.seq (.block 1 (.seq Ll (.seq Lk (.seq (.region [⟨some 12,.mv (.cst (.bool false)),none⟩]) (.seq (.seq Li (.seq (.region [⟨none,.mv (.var 12),none⟩,⟨some 17,.un .not (.tmp 0),none⟩]) (.cond (.var 17) (.seq (.region [⟨none,.build [.int .i64 0,.int .i64 0,.int .i64 0,.nilS,.nilS] [],none⟩,⟨none,.store 5 (.var 4) (.tmp 0),none⟩,⟨some 5,.mv (.cst (.bool false)),none⟩]) .ret) .skip))) (.seq (.seq Lh (.seq (.region [⟨none,.mv (.var 12),none⟩,⟨some 18,.un .not (.tmp 0),none⟩]) (.cond (.var 18) (.seq (.region [⟨none,.build [.int .i64 0,.int .i64 0,.int .i64 0,.nilS,.nilS] [],none⟩,⟨none,.store 5 (.var 4) (.tmp 0),none⟩,⟨some 5,.mv (.cst (.bool false)),none⟩]) .ret) .skip))) (.seq JU Lg))))))) (.kill [0,1,5,9,10,11,12,16,17,18])) (.region [⟨none,.bin .add (.var 15) (.cst (.int .i64 1)),none⟩,⟨some 15,.mv (.tmp 0),none⟩]))):=rfl
def lg:List (FuncId × aB):=[(85,aK 4 M85),(87,H87),(142,aK 4 wk),(143,yj)]
@[simp] theorem LI:aR lg 85=some (aK 4 M85):=rfl
@[simp] theorem LH:aR lg 87=some H87:=rfl
@[simp] theorem JY:aR lg 142=some (aK 4 wk):=rfl
@[simp] theorem JX:aR lg 143=some yj:=rfl
def cg (q:Int × Int):AV:=.agg [.int .i64 q.1,.int .i64 q.2]
def bD (tv:AV) (mn mx:Int):AV:=.agg [tv,.int .i64 mn,.int .i64 mx]
section
variable {fuel:Nat} {K:List KC} {A B:aa}
theorem Fw {nv tv:AV} {L:List AV} {i:Nat} {mn mx:Int} (v2 v3 v4 v6 v7 v8 v14 v16:AV) (hn:SlA 3 L nv) (hx:L[i]?=some (bD tv mn mx)) (_ht:cellsOf tv=[tv]/\tv.solid=true) :
  run (ac GS lg) fuel (.code Ll :: K) [.undef,.undef,v2,v3,v4,.undef,v6,v7,v8,.undef,.undef,.undef,.undef,nv,v14,.int .i64 (i:Int),v16,.undef,.undef] A =
   run (ac GS lg) fuel K [.undef,.undef,v2,v3,v4,.undef,v6,v7,v8,.int .i64 (i:Int),.ptr A.length 0 0,.undef,.undef,nv,v14,.int .i64 (i:Int),v16,.undef,.undef] (A++[.row 3 false [bD tv mn mx]]):=by
 have x1:∀A,ae 3 A nv (.int .i64 (i:Int))=some (.fp [tv,.int .i64 mn,.int .i64 mx]):=fun A=>hn.index (A:=A) hx rfl (by simp) .i64
 unfold bD
 generalize (i:Int)=I at *
 simp [Ll,x1,az,-ae]
theorem Fv {xb:Nat} {tv:AV} {mn mx:Int} (v2 v3 v4 v6 v7 v8 v9 v13 v14 v15 v16:AV) (hx:A[xb]?=some (.row 3 false [bD tv mn mx])) :
  run (ac GS lg) fuel (.code Lk :: K) [.undef,.undef,v2,v3,v4,.undef,v6,v7,v8,v9,.ptr xb 0 0,.undef,.undef,v13,v14,v15,v16,.undef,.undef] A =
   run (ac GS lg) fuel K [.undef,.undef,v2,v3,v4,.undef,v6,v7,v8,v9,.ptr xb 0 0,.ptr A.length 0 0,.undef,v13,v14,v15,v16,.undef,.undef] (A++[.row 6 false [aI ⟨mn,mx,0,0,0,0⟩]]):=by
 unfold bD aI at *
 simp [Lk,hx,az]
theorem yC {cid rb xb sb did i n:Nat} {ps:List (Int × Int)} {m s:Int} {rq:List AV} {tv:AV} {mn mx hi t a:Int} {o:Bool} (v4 v7 v12 v13 v14 v15 v16:AV) (hc:A[cid]?=some (.row 2 false (ps.map cg))) (hp:ps[i]?=some (m,s)) (hn:n=ps.length)
  (hr:A[rb]?=some (.row 5 false [.agg rq])) (hq:rq[2]?=some (.int .i64 hi)) (hx:A[xb]?=some (.row 3 false [bD tv mn mx])) (w1:inI (t+hi))
  (e:yj (fun _ _ _=>none) [.ptr did 0 0,.int .i64 m,.int .i64 (t+hi),.int .i64 mx] A=some (.tup [i6 m a,.bool o],B)) (hs:B[sb]?=some (.row 6 false [aI ⟨mn,mx,0,0,0,0⟩])) :
  run (ac GS lg) fuel (.code Li :: K) [.undef,.undef,.sl cid 0 n,.ptr rb 0 0,v4,.undef,.ptr did 0 0,v7,.int .i64 t,.int .i64 (i:Int),.ptr xb 0 0,.ptr sb 0 0,v12,v13,v14,v15,v16,.undef,.undef] A =
   run (ac GS lg) fuel K [.undef,.undef,.sl cid 0 n,.ptr rb 0 0,v4,.undef,.ptr did 0 0,v7,.int .i64 t,.int .i64 (i:Int),.ptr xb 0 0,.ptr sb 0 0,.bool o,v13,v14,v15,v16,.undef,.undef] (B.set sb (.row 6 false [aI ⟨mn,mx,m,a,0,0⟩])):=by
 have hil:i<ps.length:=(List.getElem?_eq_some_iff.1 hp).1
 have y1:ae 2 A (.sl cid 0 n) (.int .i64 (i:Int))=some (.ptr cid i 0):=by
  simp only [ae,hc]
  rw [if_pos ⟨trivial,by omega,by omega,by omega⟩]
  simp
 have a1:=dX w1
 generalize t+hi=z at *
 generalize (i:Int)=I at *
 unfold bD aI i6 cg at *
 simp [Li,y1,hc,hp,hr,hq,hx,a1,e,hs,az,-ae,-aj]
theorem yB {cid rb xb sb did i n:Nat} {ps:List (Int × Int)} {m s:Int} {rq:List AV} {tv:AV} {mn mx hi t a b:Int} {o:Bool} (v4 v7 v12 v13 v14 v15 v16 v17:AV) (hc:A[cid]?=some (.row 2 false (ps.map cg))) (hp:ps[i]?=some (m,s)) (hn:n=ps.length)
  (hr:A[rb]?=some (.row 5 false [.agg rq])) (hq:rq[2]?=some (.int .i64 hi)) (hx:A[xb]?=some (.row 3 false [bD tv mn mx])) (hsA:A[sb]?=some (.row 6 false [aI ⟨mn,mx,m,a,0,0⟩])) (w1:inI (a+mx)) (w2:inI (a+mx-1)) (w3:inI (a+mx-1+hi))
  (e:yj (fun _ _ _=>none) [.ptr did 0 0,.int .i64 s,.int .i64 (a+mx-1+hi),.int .i64 mx] A=some (.tup [i6 s b,.bool o],B)) (hs:B[sb]?=some (.row 6 false [aI ⟨mn,mx,m,a,0,0⟩])) :
  run (ac GS lg) fuel (.code Lh :: K) [.undef,.undef,.sl cid 0 n,.ptr rb 0 0,v4,.undef,.ptr did 0 0,v7,.int .i64 t,.int .i64 (i:Int),.ptr xb 0 0,.ptr sb 0 0,v12,v13,v14,v15,v16,v17,.undef] A =
   run (ac GS lg) fuel K [.undef,.undef,.sl cid 0 n,.ptr rb 0 0,v4,.undef,.ptr did 0 0,v7,.int .i64 t,.int .i64 (i:Int),.ptr xb 0 0,.ptr sb 0 0,.bool o,v13,v14,v15,v16,v17,.undef] (B.set sb (.row 6 false [aI ⟨mn,mx,m,a,s,b⟩])):=by
 have hil:i<ps.length:=(List.getElem?_eq_some_iff.1 hp).1
 have y1:ae 2 A (.sl cid 0 n) (.int .i64 (i:Int))=some (.ptr cid i 0):=by
  simp only [ae,hc]
  rw [if_pos ⟨trivial,by omega,by omega,by omega⟩]
  simp
 have a1:=dX w1
 have a2:=pX w2
 have a3:=dX w3
 generalize a+mx-1+hi=z3 at *
 generalize a+mx-1=z2 at *
 generalize a+mx=z1 at *
 generalize (i:Int)=I at *
 unfold bD aI i6 cg at *
 simp [Lh,y1,hc,hp,hr,hq,hx,hsA,a1,a2,a3,e,hs,az,-ae,-aj]
theorem Fu {sb:Nat} {x:Stg} (v2 v3 v4 v6 v7 v8 v9 v10 v12 v13 v14 v15 v16 v17 v18:AV) (hs:A[sb]?=some (.row 6 false [aI x])) (w:inI (max x.ms x.ss+x.mx)) :
  run (ac GS lg) fuel (.code JU :: K) [.undef,.undef,v2,v3,v4,.undef,v6,v7,v8,v9,v10,.ptr sb 0 0,v12,v13,v14,v15,v16,v17,v18] A =
   run (ac GS lg) fuel K [.undef,.undef,v2,v3,v4,.undef,v6,v7,.int .i64 (max x.ms x.ss+x.mx),v9,v10,.ptr sb 0 0,v12,v13,v14,v15,v16,v17,v18] A:=by
 have m:=zd x w
 generalize max x.ms x.ss+x.mx=z at *
 unfold aI at *
 simp [JU,hs,m]
theorem Ft {sb pb n:Nat} {x:Stg} {e lo hi:Int} {o wv:AV} {C:aa} (v2 v3 v4 v6 v8 v9 v10 v12 v13 v14 v15 v16 v17 v18:AV) (hs:A[sb]?=some (.row 6 false [aI x])) (hp:A[pb]?=some (.row 5 false [.agg [.int .i64 e,.int .i64 lo,.int .i64 hi,o,wv]]))
  (ap:aV 6 48 A o (.fs 6 [aI x])=some (.sl A.length 0 n,C)) (hpC:C[pb]?=some (.row 5 false [.agg [.int .i64 e,.int .i64 lo,.int .i64 hi,o,wv]])) :
  run (ac GS lg) fuel (.code Lg :: K) [.undef,.undef,v2,v3,v4,.undef,v6,.ptr pb 0 0,v8,v9,v10,.ptr sb 0 0,v12,v13,v14,v15,v16,v17,v18] A =
   run (ac GS lg) fuel K [.undef,.undef,v2,v3,v4,.undef,v6,.ptr pb 0 0,v8,v9,v10,.ptr sb 0 0,v12,v13,v14,v15,v16,v17,v18] (C.set pb (.row 5 false [.agg [.int .i64 e,.int .i64 lo,.int .i64 hi,.sl A.length 0 n,wv]])):=by
 unfold aI at *
 simp [Lg,hs,hp,ap,hpC,az]
end
end Sh
namespace Sh
open Go
def bO:Ent:=.row 5 false [.agg [.int .i64 0,.int .i64 0,.int .i64 0,.nilS,.nilS]]
structure qu (A0 A:aa) (rq:List AV) (wv:AV) (e lo hi:Int) (pb:Nat) (cells:List AV) (o:AV) (ci:Cal) (st:List Stg):Prop where
 fr:Fr A0 A []
 r:A[A0.length]?=some (.row 5 false [.agg rq])
 z:A[A0.length+1]?=some bO
 cal:cz A (A0.length+2) cells ci
 full:dj ci
 hid:∀k∈fQ cells,A0.length+2<k
 p:A[pb]?=some (.row 5 false [.agg [.int .i64 e,.int .i64 lo,.int .i64 hi,o,wv]])
 pbg:A0.length+2<pb/\pb ∉ fQ cells
 ho:bY A o 6 (st.map aI)
 oid:∀k∈aC o,A0.length+2<k/\k≠pb/\k ∉ fQ cells
def D3 (A0:aa) (q:Out):Prop:=∃ σ B,q=.ret σ B/\σ[4]?=some (.ptr (A0.length+1) 0 0)/\σ[5]?=some (.bool false)/\B[A0.length+1]?=some bO/\Fr A0 B []
theorem hZ {A:aa} {id:Nat} {cells:List AV} {c:Cal} (h:cz A id cells c):∀k∈fQ cells,k<A.length:=fun k hk=>by
 obtain ⟨t,a,ha,hka⟩:=cM.1 hk
 exact (h.slot t a ha).low k hka
theorem fA {c d:Cal} {b:Bk} (h:cK c b=some d) {N:Nat} (hl:∀t,(c t).length<=N):∀t,(d t).length<=N+1:=fun t=>by
 unfold cK at h
 split at h
 ·injection h with h
  subst h
  unfold vZ
  split
  ·rename_i e
   have:(iZ (c b.tool.toNat) b).length=(c b.tool.toNat).length+1:=by
    have:=congrArg List.length (qJ (c b.tool.toNat) b)
    rw [List.length_map,lc _ _ (by rw [List.length_map]; exact o8 _ _),List.length_map] at this
    exact this
   rw [this]
   have:=hl b.tool.toNat
   omega
  ·have:=hl t; omega
 ·cases h
theorem qu.app {A0 A:aa} {rq:List AV} {wv:AV} {e lo hi:Int} {pb:Nat} {cells:List AV} {o:AV} {ci:Cal} {st:List Stg} (h:qu A0 A rq wv e lo hi pb cells o ci st) (X:aa):qu A0 (A++X) rq wv e lo hi pb cells o ci st:=by
 have F:=Fr.app A X []
 exact ⟨h.fr.trans F (fun _ h=>h) (fun _ _ h=>h),F.at h.r (by simp),F.at h.z (by simp),h.cal.fr F (by simp) (by simp),h.full,h.hid,F.at h.p (by simp),h.pbg,h.ho.fr F (by simp),h.oid⟩
theorem qu.set {A0 A:aa} {rq:List AV} {wv:AV} {e lo hi:Int} {pb:Nat} {cells:List AV} {o:AV} {ci:Cal} {st:List Stg} (h:qu A0 A rq wv e lo hi pb cells o ci st) {sb:Nat} (h1:A0.length+2<sb) (h2:sb≠pb) (h3:sb ∉ fQ cells) (h4:sb ∉ aC o) (x:Ent):qu A0 (A.set sb x) rq wv e lo hi pb cells o ci st:=by
 have F:=Fr.set A sb x
 exact ⟨h.fr.trans F (by simp) (fun j hj hm=>by simp at hm; omega),F.at h.r (by simp; omega),F.at h.z (by simp; omega),h.cal.fr F (by simp; omega) (fun k hk hm=>h3 (by simp at hm; rw [<-hm]; exact hk)),h.full,h.hid,F.at h.p (by simp; omega),h.pbg,h.ho.fr F (fun k hk hm=>h4 (by simp at hm; rw [<-hm]; exact hk)),h.oid⟩
theorem qu.booked {A0 A B:aa} {rq:List AV} {wv:AV} {e lo hi:Int} {pb:Nat} {cells cells':List AV} {o:AV} {ci d:Cal} {st:List Stg} (h:qu A0 A rq wv e lo hi pb cells o ci st) (k1:cz B (A0.length+2) cells' d) (hd:dj d) (k2:Fr A B ((A0.length+2) :: fQ cells)) (k3:∀k∈fQ cells',k∈fQ cells\/A.length<=k):qu A0 B rq wv e lo hi pb cells' o d st:=by
 have lA:A0.length+2<A.length:=(List.getElem?_eq_some_iff.1 h.cal.row).1
 have nin:∀j,j<A0.length+2->j ∉ (A0.length+2) :: fQ cells:=fun j hj hm=>by
  rcases List.mem_cons.1 hm with hm | hm
  ·omega
  ·have:=h.hid _ hm; omega
 refine ⟨h.fr.trans k2 (fun _ h=>by cases h) (fun j hj hm=>absurd hm (nin j (by omega))),k2.at h.r (nin _ (by omega)),k2.at h.z (nin _ (by omega)),k1,hd,fun k hk=>?_,k2.at h.p (fun hm=>?_),⟨h.pbg.1,fun hm=>?_⟩,h.ho.fr k2 (fun k hk hm=>?_),fun k hk=>⟨(h.oid k hk).1,(h.oid k hk).2.1,fun hm=>?_⟩⟩
 ·rcases k3 k hk with h' | h'
  ·exact h.hid k h'
  ·omega
 ·rcases List.mem_cons.1 hm with hm | hm
  ·have:=h.pbg.1; omega
  ·exact h.pbg.2 hm
 ·rcases k3 _ hm with h' | h'
  ·exact h.pbg.2 h'
  ·have:=(List.getElem?_eq_some_iff.1 h.p).1; omega
 ·rcases List.mem_cons.1 hm with hm | hm
  ·have:=(h.oid k hk).1; omega
  ·exact (h.oid k hk).2.2 hm
 ·rcases k3 _ hm with h' | h'
  ·exact (h.oid k hk).2.2 h'
  ·have:=h.ho.low k hk; omega
theorem AZ {A0 A:aa} {rq L:List AV} {nv wv tv:AV} {e lo hi:Int} {pb cid:Nat} {cells:List AV} {o:AV} {ci:Cal} {st:List Stg} {ps:List (Int × Int)} {i:Nat} {mn mx m s t:Int} (h:qu A0 A rq wv e lo hi pb cells o ci st)
  (hL:SlA 3 L nv) (hLl:L.length<=10) (hq:rq[2]?=some (.int .i64 hi)) (hc0:A0[cid]?=some (.row 2 false (ps.map cg))) (hp:ps[i]?=some (m,s)) (hx:L[i]?=some (bD tv mn mx)) (htv:cellsOf tv=[tv]/\tv.solid=true)
  (hm:0<=m/\m<60) (hs:0<=s/\s<60) (hmx:1<=mx/\mx<=10000) (hhi:0<=hi/\hi<=10000) (ht:0<=t/\t<=3000000) (hl:∀u,(ci u).length<=800) (hst:st.length<=20) :
  (cd hi ci t [⟨mn,mx,m,s⟩]=none/\∃q,run (ac GS lg) 100 [.code jp] (i3 (.sl cid 0 ps.length) (.ptr A0.length 0 0) (.ptr (A0.length+1) 0 0) (.ptr (A0.length+2) 0 0) (.ptr pb 0 0) (.int .i64 t) nv (.int .i64 (L.length:Int)) (.int .i64 (i:Int))) A=some q/\D3 A0 q) \/
  (∃a b d B cells' o',cd hi ci t [⟨mn,mx,m,s⟩]=some (d,[⟨mn,mx,m,a,s,b⟩])/\(∀r,cd hi ci t (⟨mn,mx,m,s⟩ :: r)=(cd hi d (max a b+mx) r).map fun q=>(q.1,⟨mn,mx,m,a,s,b⟩ :: q.2))/\(∀u,(d u).length<=802)/\(0<=max a b+mx/\max a b+mx<=3000000) /\
   run (ac GS lg) 100 [.code jp] (i3 (.sl cid 0 ps.length) (.ptr A0.length 0 0) (.ptr (A0.length+1) 0 0) (.ptr (A0.length+2) 0 0) (.ptr pb 0 0) (.int .i64 t) nv (.int .i64 (L.length:Int)) (.int .i64 (i:Int))) A =
    some (.normal (i3 (.sl cid 0 ps.length) (.ptr A0.length 0 0) (.ptr (A0.length+1) 0 0) (.ptr (A0.length+2) 0 0) (.ptr pb 0 0) (.int .i64 (max a b+mx)) nv (.int .i64 (L.length:Int)) (.int .i64 ((i+1:Nat):Int))) B) /\
   qu A0 B rq wv e lo hi pb cells' o' d (st++[⟨mn,mx,m,a,s,b⟩])):=by
 have hi':i<L.length:=(List.getElem?_eq_some_iff.1 hx).1
 have b1:=bK i L.length .i64
 rw [decide_eq_true hi'] at b1
 have b3:=aY i (by omega)
 have lA:A0.length+2<A.length:=(List.getElem?_eq_some_iff.1 h.cal.row).1
 have ra:=fun K=>Fw (fuel:=100) (K:=K) (A:=A) (.sl cid 0 ps.length) (.ptr A0.length 0 0) (.ptr (A0.length+1) 0 0) (.ptr (A0.length+2) 0 0) (.ptr pb 0 0) (.int .i64 t) (.int .i64 (L.length:Int)) (.bool true) hL hx htv
 have h1:=h.app [.row 3 false [bD tv mn mx]]
 have x1:(A++[Ent.row 3 false [bD tv mn mx]])[A.length]?=some (.row 3 false [bD tv mn mx]):=by simp
 have l1:(A++[Ent.row 3 false [bD tv mn mx]]).length=A.length+1:=by simp
 generalize A++[Ent.row 3 false [bD tv mn mx]]=A1 at *
 have rb:=fun K=>Fv (fuel:=100) (K:=K) (A:=A1) (.sl cid 0 ps.length) (.ptr A0.length 0 0) (.ptr (A0.length+1) 0 0) (.ptr (A0.length+2) 0 0) (.ptr pb 0 0) (.int .i64 t) (.int .i64 (i:Int)) nv (.int .i64 (L.length:Int)) (.int .i64 (i:Int)) (.bool true) x1
 have h2:=h1.app [.row 6 false [aI ⟨mn,mx,0,0,0,0⟩]]
 have x2:=(Fr.app A1 [.row 6 false [aI ⟨mn,mx,0,0,0,0⟩]] []).at x1 (by simp)
 have s2:(A1++[Ent.row 6 false [aI ⟨mn,mx,0,0,0,0⟩]])[A1.length]?=some (.row 6 false [aI ⟨mn,mx,0,0,0,0⟩]):=by simp
 have l2:(A1++[Ent.row 6 false [aI ⟨mn,mx,0,0,0,0⟩]]).length=A1.length+1:=by simp
 generalize A1++[Ent.row 6 false [aI ⟨mn,mx,0,0,0,0⟩]]=A2 at *
 have low:=hZ h.cal
 have olow:=h.ho.low
 have plow:=(List.getElem?_eq_some_iff.1 h.p).1
 obtain ⟨e1,e2⟩:=HP (fun _ _ _=>none) h2.cal h2.full (fun u=>by have:=hl u; omega) (from_:=t+hi) hm hmx.1 hmx.2
 have hA1:A0.length+1<A.length:=by omega
 cases f1:cE ci m (t+hi) mx with
 | none=>
  obtain ⟨B,eB,FB⟩:=e2 f1
  refine .inl ⟨by unfold cd; rw [f1]; rfl,?_⟩
  have s3:=FB.at s2 (by simp)
  have hl3:A1.length<B.length:=(List.getElem?_eq_some_iff.1 s3).1
  have rc:=fun K=>yC (fuel:=100) (K:=K) (A:=A2) (cid:=cid) (i:=i) (rb:=A0.length) (xb:=A.length) (sb:=A1.length) (did:=A0.length+2) (s:=s) (.ptr (A0.length+1) 0 0) (.ptr pb 0 0) (.bool false) nv (.int .i64 (L.length:Int)) (.int .i64 (i:Int)) (.bool true) ((h2.fr).at hc0 (by simp)) hp rfl h2.r hq x2 (by unfold inI; omega) eB s3
  have zB:(B.set A1.length (.row 6 false [aI ⟨mn,mx,m,0,0,0⟩]))[A0.length+1]?=some bO:=by
   rw [List.getElem?_set_ne (by omega)]; exact FB.at h2.z (by simp)
  have FrB:Fr A0 (B.set A1.length (.row 6 false [aI ⟨mn,mx,m,0,0,0⟩])) []:=(h2.fr.trans FB (fun _ h=>h) (fun _ _ h=>h)).trans (Fr.set B A1.length _) (fun _ h=>h) (fun j hj hm=>by simp at hm; omega)
  have lC:A0.length+1<(B.set A1.length (.row 6 false [aI ⟨mn,mx,m,0,0,0⟩])).length:=(List.getElem?_eq_some_iff.1 zB).1
  generalize B.set A1.length (.row 6 false [aI ⟨mn,mx,m,0,0,0⟩])=C at *
  refine ⟨.ret [.undef,.undef,.sl cid 0 ps.length,.ptr A0.length 0 0,.ptr (A0.length+1) 0 0,.bool false,.ptr (A0.length+2) 0 0,.ptr pb 0 0,.int .i64 t,.int .i64 (i:Int),.ptr A.length 0 0,.ptr A1.length 0 0,.bool false,nv,.int .i64 (L.length:Int),.int .i64 (i:Int),.bool true,.bool true,.undef] (C.set (A0.length+1) bO),?_,⟨_,_,rfl,rfl,rfl,by rw [List.getElem?_set_self lC],FrB.trans (Fr.set C _ _) (fun _ h=>h) (fun j hj hm=>by simp at hm; omega)⟩⟩
  rw [jV]
  unfold bO at *
  generalize (L.length:Int)=N at *
  generalize (i:Int)=I at *
  generalize A0.length+1=zb at *
  clear h h1 h2 low olow
  simp [ra,rb,rc,b1,zB,az,-aj]
 | some a=>
  obtain ⟨c1,B,cells1,k1,k2,eB,k4,k5,k6⟩:=e1 a f1
  have hB:=h2.booked k4 k2 k5 k6
  have nin:∀j,A.length<=j->j ∉ (A0.length+2) :: fQ cells:=fun j hj hm=>by
   rcases List.mem_cons.1 hm with hm | hm
   ·omega
   ·have:=low _ hm; omega
  have s3:=k5.at s2 (nin _ (by omega))
  have x3:=k5.at x2 (nin _ (Nat.le_refl _))
  have hl3:A1.length<B.length:=(List.getElem?_eq_some_iff.1 s3).1
  have rc:=fun K=>yC (fuel:=100) (K:=K) (A:=A2) (cid:=cid) (i:=i) (rb:=A0.length) (xb:=A.length) (sb:=A1.length) (did:=A0.length+2) (s:=s) (.ptr (A0.length+1) 0 0) (.ptr pb 0 0) (.bool false) nv (.int .i64 (L.length:Int)) (.int .i64 (i:Int)) (.bool true) ((h2.fr).at hc0 (by simp)) hp rfl h2.r hq x2 (by unfold inI; omega) eB s3
  have sbC:A1.length ∉ fQ cells1:=fun hm=>by
   rcases k6 _ hm with h' | h'
   ·have:=low _ h'; omega
   ·omega
  have sbO:A1.length ∉ aC o:=fun hm=>by have:=olow _ hm; omega
  have hB2:=hB.set (sb:=A1.length) (by omega) (by omega) sbC sbO (.row 6 false [aI ⟨mn,mx,m,a,0,0⟩])
  have s4:(B.set A1.length (.row 6 false [aI ⟨mn,mx,m,a,0,0⟩]))[A1.length]?=some (.row 6 false [aI ⟨mn,mx,m,a,0,0⟩]):=List.getElem?_set_self hl3
  have x4:(B.set A1.length (.row 6 false [aI ⟨mn,mx,m,a,0,0⟩]))[A.length]?=some (.row 3 false [bD tv mn mx]):=by rw [List.getElem?_set_ne (by omega)]; exact x3
  generalize B.set A1.length (.row 6 false [aI ⟨mn,mx,m,a,0,0⟩])=B2 at *
  have hl1:=fA k1 hl
  have ok1:=(cw h.full.1 k1).2.1.1
  simp only at ok1
  have low1:=hZ hB2.cal
  have lB2:A1.length<B2.length:=(List.getElem?_eq_some_iff.1 s4).1
  obtain ⟨g1,g2⟩:=HP (fun _ _ _=>none) hB2.cal hB2.full (fun u=>by have:=hl1 u; omega) (from_:=a+mx-1+hi) hs hmx.1 hmx.2
  have pl:∀r,cd hi ci t (⟨mn,mx,m,s⟩ :: r)=(cE c1 s (a+mx-1+hi) mx).bind fun b=>(cd hi ((cK c1 ⟨s,b,b+mx,1⟩).getD c1) (max a b+mx) r).map fun q=>(q.1,⟨mn,mx,m,a,s,b⟩ :: q.2):=fun r=>by
   show (cE ci m (t+hi) mx).bind _=_
   rw [f1]
   show (cE ((cK ci ⟨m,a,a+mx,1⟩).getD ci) s (a+mx-1+hi) mx).bind _=_
   rw [k1]
   rfl
  cases f2:cE c1 s (a+mx-1+hi) mx with
  | none=>
   obtain ⟨C,eC,FC⟩:=g2 f2
   refine .inl ⟨by rw [pl,f2]; rfl,?_⟩
   have s5:=FC.at s4 (by simp)
   have rd:=fun K=>yB (fuel:=100) (K:=K) (A:=B2) (cid:=cid) (i:=i) (rb:=A0.length) (xb:=A.length) (sb:=A1.length) (did:=A0.length+2) (t:=t) (.ptr (A0.length+1) 0 0) (.ptr pb 0 0) (.bool true) nv (.int .i64 (L.length:Int)) (.int .i64 (i:Int)) (.bool true) (.bool false) ((hB2.fr).at hc0 (by simp)) hp rfl hB2.r hq x4 s4 (by unfold inI; omega) (by unfold inI; omega) (by unfold inI; omega) eC s5
   have zB:(C.set A1.length (.row 6 false [aI ⟨mn,mx,m,a,s,0⟩]))[A0.length+1]?=some bO:=by
    rw [List.getElem?_set_ne (by omega)]; exact FC.at hB2.z (by simp)
   have FrB:Fr A0 (C.set A1.length (.row 6 false [aI ⟨mn,mx,m,a,s,0⟩])) []:=(hB2.fr.trans FC (fun _ h=>h) (fun _ _ h=>h)).trans (Fr.set C A1.length _) (fun _ h=>h) (fun j hj hm=>by simp at hm; omega)
   have lC:A0.length+1<(C.set A1.length (.row 6 false [aI ⟨mn,mx,m,a,s,0⟩])).length:=(List.getElem?_eq_some_iff.1 zB).1
   generalize C.set A1.length (.row 6 false [aI ⟨mn,mx,m,a,s,0⟩])=C2 at *
   refine ⟨.ret [.undef,.undef,.sl cid 0 ps.length,.ptr A0.length 0 0,.ptr (A0.length+1) 0 0,.bool false,.ptr (A0.length+2) 0 0,.ptr pb 0 0,.int .i64 t,.int .i64 (i:Int),.ptr A.length 0 0,.ptr A1.length 0 0,.bool false,nv,.int .i64 (L.length:Int),.int .i64 (i:Int),.bool true,.bool false,.bool true] (C2.set (A0.length+1) bO),?_,⟨_,_,rfl,rfl,rfl,by rw [List.getElem?_set_self lC],FrB.trans (Fr.set C2 _ _) (fun _ h=>h) (fun j hj hm=>by simp at hm; omega)⟩⟩
   rw [jV]
   unfold bO at *
   generalize (L.length:Int)=N at *
   generalize (i:Int)=I at *
   generalize A0.length+1=zb at *
   clear h h1 h2 hB hB2 low olow low1 pl
   simp [ra,rb,rc,rd,b1,zB,az,-aj]
  | some b=>
   obtain ⟨c2,C,cells2,k1',k2',eC,k4',k5',k6'⟩:=g1 b f2
   have hC:=hB2.booked k4' k2' k5' k6'
   have nin2:∀j,A.length<=j->j ∉ fQ cells1->j ∉ (A0.length+2) :: fQ cells1:=fun j hj hn hm=>by
    rcases List.mem_cons.1 hm with hm | hm
    ·omega
    ·exact hn hm
   have s5:=k5'.at s4 (nin2 _ (by omega) sbC)
   have rd:=fun K=>yB (fuel:=100) (K:=K) (A:=B2) (cid:=cid) (i:=i) (rb:=A0.length) (xb:=A.length) (sb:=A1.length) (did:=A0.length+2) (t:=t) (.ptr (A0.length+1) 0 0) (.ptr pb 0 0) (.bool true) nv (.int .i64 (L.length:Int)) (.int .i64 (i:Int)) (.bool true) (.bool false) ((hB2.fr).at hc0 (by simp)) hp rfl hB2.r hq x4 s4 (by unfold inI; omega) (by unfold inI; omega) (by unfold inI; omega) eC s5
   have lC:A1.length<C.length:=(List.getElem?_eq_some_iff.1 s5).1
   have sbC2:A1.length ∉ fQ cells2:=fun hm=>by
    rcases k6' _ hm with h' | h'
    ·exact sbC h'
    ·omega
   have hC2:=hC.set (sb:=A1.length) (by omega) (by omega) sbC2 sbO (.row 6 false [aI ⟨mn,mx,m,a,s,b⟩])
   have s6:(C.set A1.length (.row 6 false [aI ⟨mn,mx,m,a,s,b⟩]))[A1.length]?=some (.row 6 false [aI ⟨mn,mx,m,a,s,b⟩]):=List.getElem?_set_self lC
   generalize C.set A1.length (.row 6 false [aI ⟨mn,mx,m,a,s,b⟩])=C2 at *
   have ok2:=(cw k2.1 k1').2.1.1
   simp only at ok2
   have re:=fun K=>Fu (fuel:=100) (K:=K) (A:=C2) (sb:=A1.length) (x:=⟨mn,mx,m,a,s,b⟩) (.sl cid 0 ps.length) (.ptr A0.length 0 0) (.ptr (A0.length+1) 0 0) (.ptr (A0.length+2) 0 0) (.ptr pb 0 0) (.int .i64 t) (.int .i64 (i:Int)) (.ptr A.length 0 0) (.bool true) nv (.int .i64 (L.length:Int)) (.int .i64 (i:Int)) (.bool true) (.bool false) (.bool false) s6 (by unfold inI; simp only; omega)
   obtain ⟨D,ap,ho',FD,lD⟩:=hC2.ho.append (bytes:=48) (aI ⟨mn,mx,m,a,s,b⟩) (by omega) (by omega) (by rw [List.length_map]; omega)
   have pbO:pb ∉ aC o:=fun hm=>(hC2.oid _ hm).2.1 rfl
   have pD:=FD.at hC2.p pbO
   have lpD:pb<D.length:=(List.getElem?_eq_some_iff.1 pD).1
   have rf:=fun K=>Ft (fuel:=100) (K:=K) (A:=C2) (sb:=A1.length) (x:=⟨mn,mx,m,a,s,b⟩) (.sl cid 0 ps.length) (.ptr A0.length 0 0) (.ptr (A0.length+1) 0 0) (.ptr (A0.length+2) 0 0) (.int .i64 (max a b+mx)) (.int .i64 (i:Int)) (.ptr A.length 0 0) (.bool true) nv (.int .i64 (L.length:Int)) (.int .i64 (i:Int)) (.bool true) (.bool false) (.bool false) s6 hC2.p ap pD
   have low2:=hZ hC2.cal
   have lp2:=(List.getElem?_eq_some_iff.1 hC2.p).1
   have lc2:=(List.getElem?_eq_some_iff.1 hC2.cal.row).1
   have olow2:=hC2.ho.low
   have hmax:0<=max a b+mx/\max a b+mx<=3000000:=by omega
   obtain ⟨tt,htt⟩:∃tt,tt=max a b+mx:=⟨_,rfl⟩
   have re:∀K,run (ac GS lg) 100 (.code JU :: K) [.undef,.undef,.sl cid 0 ps.length,.ptr A0.length 0 0,.ptr (A0.length+1) 0 0,.undef,.ptr (A0.length+2) 0 0,.ptr pb 0 0,.int .i64 t,.int .i64 (i:Int),.ptr A.length 0 0,.ptr A1.length 0 0,.bool true,nv,.int .i64 (L.length:Int),.int .i64 (i:Int),.bool true,.bool false,.bool false] C2=run (ac GS lg) 100 K [.undef,.undef,.sl cid 0 ps.length,.ptr A0.length 0 0,.ptr (A0.length+1) 0 0,.undef,.ptr (A0.length+2) 0 0,.ptr pb 0 0,.int .i64 tt,.int .i64 (i:Int),.ptr A.length 0 0,.ptr A1.length 0 0,.bool true,nv,.int .i64 (L.length:Int),.int .i64 (i:Int),.bool true,.bool false,.bool false] C2:=by
    rw [htt]; exact re
   have plr:∀r,cd hi ci t (⟨mn,mx,m,s⟩ :: r)=(cd hi c2 (max a b+mx) r).map fun q=>(q.1,⟨mn,mx,m,a,s,b⟩ :: q.2):=fun r=>by
    rw [pl,f2]
    show (cd hi ((cK c1 ⟨s,b,b+mx,1⟩).getD c1) (max a b+mx) r).map _=_
    rw [k1']
    rfl
   rw [<-htt] at rf plr hmax
   refine .inr ⟨a,b,c2,D.set pb (.row 5 false [.agg [.int .i64 e,.int .i64 lo,.int .i64 hi,.sl C2.length 0 ((st.map aI).length+1),wv]]),cells2,.sl C2.length 0 ((st.map aI).length+1),?_,?_,fA k1' hl1,?_,?_,?_⟩
   ·rw [plr]; rfl
   ·rw [<-htt]; exact plr
   ·rw [<-htt]; exact hmax
   ·rw [<-htt,jV]
    generalize ((i+1:Nat):Int)=I1 at *
    generalize (L.length:Int)=N at *
    generalize (i:Int)=I at *
    clear h h1 h2 hB hB2 hC hC2 low olow low1 low2 olow2 pl plr
    simp [ra,rb,rc,rd,re,rf,b1,b3,-aj]
   ·have FD2:Fr C2 (D.set pb (.row 5 false [.agg [.int .i64 e,.int .i64 lo,.int .i64 hi,.sl C2.length 0 ((st.map aI).length+1),wv]])) (pb :: aC o):=FD.trans (Fr.set D pb _) (fun _ h=>List.mem_cons_of_mem _ h) (fun _ _ h=>by simp at h; simp [h])
    have nn:∀j,j<A0.length+3->j ∉ pb :: aC o:=fun j hj hm=>by
     rcases List.mem_cons.1 hm with hm | hm
     ·have:=h.pbg.1; omega
     ·have:=(h.oid _ hm).1; omega
    refine ⟨hC2.fr.trans FD2 (fun _ h=>by cases h) (fun j hj hm=>absurd hm (nn j (by omega))),FD2.at hC2.r (nn _ (by omega)),FD2.at hC2.z (nn _ (by omega)),hC2.cal.fr FD2 (nn _ (by omega)) (fun k hk hm=>?_),hC2.full,hC2.hid,by rw [List.getElem?_set_self lpD],hC2.pbg,?_,fun k hk=>?_⟩
    ·rcases List.mem_cons.1 hm with hm | hm
     ·exact hC2.pbg.2 (hm ▸ hk)
     ·exact (hC2.oid _ hm).2.2 hk
    ·rw [List.map_append]
     exact ho'.fr (Fr.set D pb _) (fun k hk hm=>by simp [aC] at hk; simp at hm; omega)
    ·simp [aC] at hk
     subst hk
     exact ⟨by omega,by omega,fun hm=>by have:=low2 _ hm; omega⟩
end Sh
namespace Sh
open Go
theorem vO {l:List Win} {a:AV} (ha:SlA 3 (l.map bi) a) (h:l.length<=1000):∃r,wk [a]=some r/\SlA 3 (l.map bi) r:=by
 rcases ha with ⟨rfl,h0⟩ | rfl
 ·exact ⟨.nilS,rfl,.inl ⟨rfl,h0⟩⟩
 ·cases l with
  | nil=>
   refine ⟨.fs 3 [],?_,.inr rfl⟩
   show tp [.fs 3 []]=some (.fs 3 [])
   unfold tp
   rw [aZ _ _ rfl]
   simp [xo,aV,frz]
  | cons x r=>exact ⟨_,Ec (x :: r) h,bu _ _⟩
structure fP where
 tools:List Int
 mn:Int
 mx:Int
def eS (ns:List fP) (L:List AV):Prop:=L.length=ns.length/\∀(i:Nat) (n:fP),ns[i]?=some n->∃tv,L[i]?=some (bD tv n.mn n.mx)/\SlA 1 (n.tools.map (.int .i64)) tv
def dF (ns:List fP) (ps:List (Int × Int)):List Nd:=List.zipWith (fun n q=>⟨n.mn,n.mx,q.1,q.2⟩) ns ps
theorem SlA.cells {esz:Nat} {xs:List AV} {a:AV} (h:SlA esz xs a):cellsOf a=[a]/\a.solid=true:=by rcases h with ⟨rfl,_⟩ | rfl <;> exact ⟨rfl,rfl⟩
theorem gR? {α:Type} {l:List α} {i:Nat} {x:α} (h:l[i]?=some x):l.drop i=x :: l.drop (i+1):=by
 obtain ⟨hi,rfl⟩:=List.getElem?_eq_some_iff.1 h
 exact List.drop_eq_getElem_cons hi
theorem GG {A0 A:aa} {rq L:List AV} {nv wv:AV} {e lo hi:Int} {pb cid:Nat} {cells:List AV} {o:AV} {c:Cal} {ns:List fP} {ps:List (Int × Int)} (h:qu A0 A rq wv e lo hi pb cells o c [])
  (hL:SlA 3 L nv) (hN:eS ns L) (hns:ns.length<=4) (hps:ps.length=ns.length) (hq:rq[2]?=some (.int .i64 hi)) (hc0:A0[cid]?=some (.row 2 false (ps.map cg)))
  (hpr:∀q∈ps,(0<=q.1/\q.1<60)/\(0<=q.2/\q.2<60)) (hmx:∀n∈ns,1<=n.mx/\n.mx<=10000) (hhi:0<=hi/\hi<=10000) (he:0<=e/\e<=3000000) (hl:∀u,(c u).length<=780) :
  ∃q,bI (evC (ac GS lg) 100 jp) jj 100 (i3 (.sl cid 0 ps.length) (.ptr A0.length 0 0) (.ptr (A0.length+1) 0 0) (.ptr (A0.length+2) 0 0) (.ptr pb 0 0) (.int .i64 e) nv (.int .i64 (L.length:Int)) (.int .i64 0)) A=some q /\
   ((cd hi c e (dF ns ps)=none/\D3 A0 q) \/
    ∃d st B cells' o' t,cd hi c e (dF ns ps)=some (d,st)/\q=.exit 0 ((i3 (.sl cid 0 ps.length) (.ptr A0.length 0 0) (.ptr (A0.length+1) 0 0) (.ptr (A0.length+2) 0 0) (.ptr pb 0 0) (.int .i64 t) nv (.int .i64 (L.length:Int)) (.int .i64 (L.length:Int))).set 16 (.bool false)) B/\qu A0 B rq wv e lo hi pb cells' o' d st):=by
 have hnl:(dF ns ps).length=ns.length:=by simp [dF,hps]
 refine fk (E:=ac GS lg) (fuel:=100) (a:=jp) (mask:=jj)
  (fun κ σ A'=>∃i t st ci cells o,i+κ=L.length/\σ=i3 (.sl cid 0 ps.length) (.ptr A0.length 0 0) (.ptr (A0.length+1) 0 0) (.ptr (A0.length+2) 0 0) (.ptr pb 0 0) (.int .i64 t) nv (.int .i64 (L.length:Int)) (.int .i64 (i:Int))/\qu A0 A' rq wv e lo hi pb cells o ci st/\st.length=i/\(∀u,(ci u).length<=780+2*i)/\(0<=t/\t<=3000000) /\
   cd hi c e (dF ns ps)=(cd hi ci t ((dF ns ps).drop i)).map fun q=>(q.1,st++q.2))
  (fun q=>(cd hi c e (dF ns ps)=none/\D3 A0 q) \/
    ∃d st B cells' o' t,cd hi c e (dF ns ps)=some (d,st)/\q=.exit 0 ((i3 (.sl cid 0 ps.length) (.ptr A0.length 0 0) (.ptr (A0.length+1) 0 0) (.ptr (A0.length+2) 0 0) (.ptr pb 0 0) (.int .i64 t) nv (.int .i64 (L.length:Int)) (.int .i64 (L.length:Int))).set 16 (.bool false)) B/\qu A0 B rq wv e lo hi pb cells' o' d st)
  ?_ 100 L.length _ A (by have:=hN.1; omega) ⟨0,e,[],c,cells,o,by omega,rfl,h,rfl,fun u=>by have:=hl u; omega,he,by
   rw [List.drop_zero]
   cases cd hi c e (dF ns ps) <;> rfl⟩
 rintro κ σ A' ⟨i,t,st,ci,cells,o,hk,rfl,hA,hst,hlc,ht,hR⟩
 rw [yX]
 by_cases hi':i<L.length
 ·have hin:i<ns.length:=by have:=hN.1; omega
  obtain ⟨n0,hni⟩:∃n0,ns[i]?=some n0:=⟨_,List.getElem?_eq_getElem hin⟩
  obtain ⟨⟨m0,s0⟩,hpi⟩:∃q0,ps[i]?=some q0:=⟨_,List.getElem?_eq_getElem (by omega)⟩
  obtain ⟨tv,hLi,htv⟩:=hN.2 i _ hni
  have hdi:(dF ns ps)[i]?=some ⟨n0.mn,n0.mx,m0,s0⟩:=by
   unfold dF
   rw [List.getElem?_zipWith,hni,hpi]
  rw [gR? hdi] at hR
  have hq1:=hpr _ (List.mem_of_getElem? hpi)
  have hm1:=hmx _ (List.mem_of_getElem? hni)
  obtain ⟨rest,hrest⟩:∃rest,rest=(dF ns ps).drop (i+1):=⟨_,rfl⟩
  rw [<-hrest] at hR
  rcases AZ hA hL (by have:=hN.1; omega) hq hc0 hpi hLi (SlA.cells htv) hq1.1 hq1.2 hm1 hhi ht (fun u=>by have:=hlc u; omega) (by omega) with ⟨hn,q,r1,r2⟩ | ⟨a,b,d,B,cells',o',hs1,hs2,hs3,hs4,r1,r2⟩
  ·refine .inr ⟨q,r1,?_,.inl ⟨?_,r2⟩⟩
   ·obtain ⟨σ',B,rfl,_⟩:=r2
    intro _ _ h; cases h
   ·rw [hR]
    have:cd hi ci t (⟨n0.mn,n0.mx,m0,s0⟩ :: rest)=none:=by
     have e1:∀r,cd hi ci t (⟨n0.mn,n0.mx,m0,s0⟩ :: r)=(cE ci m0 (t+hi) n0.mx).bind fun a=>
       (cE ((cK ci ⟨m0,a,a+n0.mx,1⟩).getD ci) s0 (a+n0.mx-1+hi) n0.mx).bind fun b=>
        (cd hi ((cK ((cK ci ⟨m0,a,a+n0.mx,1⟩).getD ci) ⟨s0,b,b+n0.mx,1⟩).getD ((cK ci ⟨m0,a,a+n0.mx,1⟩).getD ci)) (max a b+n0.mx) r).map fun q=>(q.1,⟨n0.mn,n0.mx,m0,a,s0,b⟩ :: q.2):=fun r=>rfl
     rw [e1] at hn ⊢
     cases f1:cE ci m0 (t+hi) n0.mx with
     | none=>rfl
     | some a=>
      rw [f1] at hn
      simp only [Option.bind_some] at hn ⊢
      cases f2:cE ((cK ci ⟨m0,a,a+n0.mx,1⟩).getD ci) s0 (a+n0.mx-1+hi) n0.mx with
      | none=>rfl
      | some b=>
       rw [f2] at hn
       simp only [Option.bind_some] at hn
       cases hn
    rw [this]; rfl
  ·refine .inl ⟨_,B,r1,κ-1,by omega,i+1,max a b+n0.mx,_,d,cells',o',by omega,rfl,r2,by simp [hst],fun u=>?_,hs4,?_⟩
   ·
    have e1:cd hi ci t [⟨n0.mn,n0.mx,m0,s0⟩]=some (d,[⟨n0.mn,n0.mx,m0,a,s0,b⟩]):=hs1
    have hb:=gW hA.full e1
    have hb:(cK ci ⟨m0,a,a+n0.mx,1⟩).bind (fun d1=>(cK d1 ⟨s0,b,b+n0.mx,1⟩).bind fun d2=>some d2)=some d:=hb
    obtain ⟨d1,h1,h2⟩:=Option.bind_eq_some_iff.1 hb
    obtain ⟨d2,h3,h4⟩:=Option.bind_eq_some_iff.1 h2
    injection h4 with h4
    subst h4
    have:=fA h3 (fA h1 hlc) u
    omega
   ·rw [<-hrest,hR,hs2,Option.map_map]
    congr 1
    funext q
    simp [List.append_assoc]
 ·obtain rfl:i=L.length:=by omega
  have e0:(dF ns ps).drop L.length=[]:=List.drop_eq_nil_iff.2 (by have:=hN.1; omega)
  rw [e0] at hR
  refine .inr ⟨_,?_,(fun _ _ h=>by cases h),.inr ⟨ci,st,A',cells,o,t,?_,rfl,hA⟩⟩
  ·simp [jp]
  ·rw [hR]
   show some (ci,st++[])=_
   rw [List.append_nil]
end Sh
namespace Sh
open Go
def H84:aB:=fun _=>bN (ac GS lg) 100 JP
theorem EU:au Tryz.prog GS 84 H84:=(aG (E:=ac GS lg) (ai (ag (au.of_pure yq 4) (ag yp (ag (au.of_pure Ac 4) (ag Aa an))))) rfl at84 H4 (aU.cons (M:=_) rfl aU.nil)).y
def rqA (e lo hi:Int) (nv wv:AV):AV:=.agg [.int .i64 e,.int .i64 lo,.int .i64 hi,nv,wv]
theorem ev84 (h:aE) {A:aa} {id cid:Nat} {cells0 L:List AV} {c:Cal} {nv wv:AV} {e lo hi:Int} {ns:List fP} {ps:List (Int × Int)} {ws:List Win} (hc:cz A id cells0 c) (hf:dj c) (hl:∀u,(c u).length<=780)
  (hL:SlA 3 L nv) (hN:eS ns L) (hns:ns.length<=4) (hps:ps.length=ns.length) (hc0:A[cid]?=some (.row 2 false (ps.map cg)))
  (hpr:∀q∈ps,(0<=q.1/\q.1<60)/\(0<=q.2/\q.2<60)) (hmx:∀n∈ns,1<=n.mx/\n.mx<=10000) (hhi:0<=hi/\hi<=10000) (he:0<=e/\e<=3000000) (hw:SlA 3 (ws.map bi) wv) (hwl:ws.length<=1000) :
  (cd hi c e (dF ns ps)=none/\∃B,H84 h [.ptr id 0 0,rqA e lo hi nv wv,.sl cid 0 ps.length] A=some (.tup [rqA 0 0 0 .nilS .nilS,.bool false],B)/\Fr A B []) \/
  ∃d st B o wv',cd hi c e (dF ns ps)=some (d,st)/\H84 h [.ptr id 0 0,rqA e lo hi nv wv,.sl cid 0 ps.length] A=some (.tup [rqA e lo hi o wv',.bool true],B)/\Fr A B []/\bY B o 6 (st.map aI)/\(∀k∈aC o,A.length<=k)/\SlA 3 (ws.map bi) wv'/\wk [wv]=some wv':=by
 obtain ⟨wv',hm,hw'⟩:=vO hw hwl
 have F0:=Fr.app A [.row 5 false [rqA e lo hi nv wv],bO] []
 have r0:(A++[.row 5 false [rqA e lo hi nv wv],bO])[A.length]?=some (.row 5 false [rqA e lo hi nv wv]):=by simp
 have z0:(A++[.row 5 false [rqA e lo hi nv wv],bO])[A.length+1]?=some bO:=by simp
 have l0:(A++[.row 5 false [rqA e lo hi nv wv],bO]).length=A.length+2:=by simp
 have hc1:=hc.fr F0 (by simp) (by simp)
 obtain ⟨B,nc,q87,k1,k2,k3⟩:=On (fun _ _ _=>none) (.inr ⟨id,rfl,hc1.row⟩) hc1.len (fun t a ha=>by
  rcases hc1.slot t a ha with ⟨h1,h2⟩ | ⟨h1,id',h2,h3⟩
  ·exact .inl ⟨h1,h2⟩
  ·exact .inr ⟨h1,.inr ⟨id',h2,h3⟩⟩) (fun t=>by have:=hl t; omega)
 rw [l0] at q87
 rw [l0] at k1 k3
 have r1:=k2.at r0 (by simp)
 have z1:=k2.at z0 (by simp)
 have F1:Fr A B []:=F0.trans k2 (fun _ h=>h) (fun _ _ h=>h)
 have lB:A.length+2<B.length:=(List.getElem?_eq_some_iff.1 k1.row).1
 have F2:=Fr.app B [.row 5 false [rqA e lo hi .nilS wv']] []
 have p2:(B++[.row 5 false [rqA e lo hi .nilS wv']])[B.length]?=some (.row 5 false [rqA e lo hi .nilS wv']):=by simp
 have hA:qu A (B++[.row 5 false [rqA e lo hi .nilS wv']]) [.int .i64 e,.int .i64 lo,.int .i64 hi,nv,wv] wv' e lo hi B.length nc .nilS c []:=
  ⟨F1.trans F2 (fun _ h=>h) (fun _ _ h=>h),F2.at r1 (by simp),F2.at z1 (by simp),k1.fr F2 (by simp) (by simp),hf,k3,p2,⟨lB,fun hm=>by have:=hZ k1 _ hm; omega⟩,.inl ⟨rfl,rfl⟩,fun k hk=>by cases hk⟩
 have hLn:=hN.1
 obtain ⟨q,lp,hq⟩:=GG hA hL hN hns hps rfl hc0 hpr hmx hhi he hl
 have c1:cellsOf nv=[nv]/\nv.solid=true:=SlA.cells hL
 have c2:cellsOf wv=[wv]/\wv.solid=true:=SlA.cells hw
 have c3:cellsOf wv'=[wv']/\wv'.solid=true:=SlA.cells hw'
 have f1:∀A,frz A 4 wv=wv:=fun A=>hw.frz 4
 have nr:br 4 wv=true:=by rcases hw with ⟨rfl,_⟩ | rfl <;> rfl
 have hln:ay nv=some (.int .i64 (L.length:Int)):=by
  rcases hL with ⟨rfl,h0⟩ | rfl
  ·rw [h0]; rfl
  ·rfl
 have z1':(B++[Ent.row 5 false [rqA e lo hi .nilS wv']])[A.length+1]?=some bO:=F2.at z1 (by simp)
 have r2:(B++[Ent.row 5 false [rqA e lo hi .nilS wv']])[A.length]?=some (.row 5 false [rqA e lo hi nv wv]):=F2.at r1 (by simp)
 have nAB:¬ (A.length=B.length):=by omega
 rcases hq with ⟨hn,σ,C,rfl,s4,s5,hz,FC⟩ | ⟨d,st,C,cells',o',t,hp,rfl,hC⟩
 ·refine .inl ⟨hn,C,?_,FC⟩
  unfold H84
  rw [aH _ _ rfl]
  unfold rqA bO at *
  generalize (L.length:Int)=N at *
  clear hA F0 F1 F2 hc1 hc0 hc hN hpr hmx
  rcases hw' with ⟨rfl,_⟩ | rfl <;> simp [JP,q87,r1,yR lp,hm,f1,hln,nr,r2,nAB,az,s4,s5,hz,-ay]
 ·refine .inr ⟨d,st,C.set (A.length+1) (.row 5 false [rqA e lo hi o' wv']),o',wv',hp,?_,hC.fr.trans (Fr.set C _ _) (fun _ h=>h) (fun j hj hm=>by simp at hm; omega),hC.ho.fr (Fr.set C _ _) (fun k hk hm=>by simp at hm; have:=(hC.oid k hk).1; omega),fun k hk=>by have:=(hC.oid k hk).1; omega,hw',hm⟩
  have lC:A.length+1<C.length:=(List.getElem?_eq_some_iff.1 hC.z).1
  have hset:(C.set (A.length+1) (.row 5 false [rqA e lo hi o' wv']))[A.length+1]?=some (.row 5 false [rqA e lo hi o' wv']):=List.getElem?_set_self lC
  have pC:=hC.p
  have zC:=hC.z
  clear lC
  unfold H84
  rw [aH _ _ rfl]
  unfold rqA bO at *
  generalize (L.length:Int)=N at *
  clear hA F0 F1 F2 hc1 hc0 hc hN hpr hmx
  rcases hw' with ⟨rfl,_⟩ | rfl <;> simp [JP,q87,r1,yR lp,hm,f1,hln,nr,r2,nAB,az,pC,zC,hset,-ay]
end Sh
end Go.Proofs.YtfkcoekicjjndaaGreat
