import Derived.Test.YtfkcoekicjjndaaGreatUA01
import Derived.Test.YtfkcoekicjjndaaGreatUA04
import Derived.Test.YtfkcoekicjjndaaGreatUA03
import Derived.Test.YtfkcoekicjjndaaGreatChecked
import Derived.KernelRfl
set_option maxRecDepth 100000
set_option maxHeartbeats 4000000
noncomputable section
namespace Go.Proofs.YtfkcoekicjjndaaGreat
namespace Sh
structure Stg where
 mn:Int
 mx:Int
 mt:Int
 ms:Int
 st:Int
 ss:Int
deriving DecidableEq
structure Win where
 f:Int
 t:Int
 l:Int
deriving DecidableEq
structure Pl where
 e:Int
 lo:Int
 hi:Int
 stages:List Stg
 wins:List Win
deriving DecidableEq
structure Scn where
 durs:List Int
 moves:List Int
 detour:Int
 tool:Int
 at_:Int
deriving DecidableEq
structure Vis where
 step:Int
 tool:Int
 start:Int
 fin:Int
deriving DecidableEq
instance:Inhabited Stg:=⟨⟨0,0,0,0,0,0⟩⟩
instance:Inhabited Vis:=⟨⟨0,0,0,0⟩⟩
def bH (x:Stg):Prop:=1<=x.mn/\x.mn<=x.mx/\x.mx<=10000/\(0<=x.mt/\x.mt<=59)/\(0<=x.ms/\x.ms<=1000000-x.mx)/\(0<=x.st/\x.st<=59)/\(0<=x.ss/\x.ss<=1000000-x.mx)/\x.mt≠x.st
def gi (n:Nat) (w:Win):Prop:=0<=w.f/\w.f<w.t/\w.t<n/\0<=w.l/\w.l<=1000000
def dL (v w:Win):Prop:=v.f<w.f\/v.f=w.f/\v.t<w.t
def asc:List Win->Prop
 | []=>True
 | [_]=>True
 | v :: w :: r=>dL v w/\asc (w :: r)
def cL (p:Pl):Prop:=(0<=p.e/\p.e<=1000000)/\(0<=p.lo/\p.lo<=p.hi)/\p.hi<=10000/\(1<=p.stages.length/\p.stages.length<=8)/\p.wins.length<=20/\(∀x∈p.stages,bH x)/\(∀w∈p.wins,gi p.stages.length w)/\asc p.wins
def fD (p:Pl) (s:Scn):Prop:=cL p/\s.durs.length=p.stages.length/\s.moves.length=p.stages.length/\(p.lo<=s.detour/\s.detour<=p.hi) /\
 (∀i,i<p.stages.length->(p.stages[i]!.mn<=s.durs[i]!/\s.durs[i]!<=p.stages[i]!.mx)/\(p.lo<=s.moves[i]!/\s.moves[i]!<=p.hi))
def aW (x:Stg) (s:Scn) (t move dur:Int):Int × Int × Bool:=
 if ¬ (s.tool=x.mt/\s.at_<x.ms+dur) then (x.mt,x.ms,decide (t+move<=x.ms))
 else if s.at_<=t then (x.st,x.ss,decide (t+move<=x.ss))
 else if s.at_<x.ms then (x.st,x.ss,decide (max (t+move) s.at_+s.detour<=x.ss))
 else if t+move > x.ms then (x.mt,x.ms,false)
 else (x.st,x.ss,decide (s.at_+s.detour<=x.ss))
def dO (hi:Int):Int->Option (Int × Int)->List Stg->Prop
 | _,_,[]=>True
 | from_,sp,x :: r=>from_+hi<=x.ms/\x.ms+x.mx-1+hi<=x.ss/\(∀mt lim,sp=some (mt,lim)->lim+hi<=(if x.mt=mt then x.ss else x.ms))/\dO hi (x.ms+x.mx) (some (x.mt,x.ss+x.mx)) r
def wn (x:Stg) (i:Nat) (dur:Int) (v:Vis):Prop:=v.step=i/\v.fin=v.start+dur/\((v.tool=x.mt/\v.start=x.ms)\/(v.tool=x.st/\v.start=x.ss))
def NQ (s:Scn) (from_:Int) (spare:Option (Int × Int)) (t:Int):Prop:=t<=from_\/∃mt lim,spare=some (mt,lim)/\s.tool=mt/\s.at_<from_/\s.at_<=t/\t<=lim
theorem wB {x:Stg} {s:Scn} {t move dur hi from_:Int} {sp:Option (Int × Int)} (hx:bH x) (hm:0<=move/\move<=hi) (hd:x.mn<=dur/\dur<=x.mx) (hdt:0<=s.detour/\s.detour<=hi)
  (h1:from_+hi<=x.ms) (h2:x.ms+x.mx-1+hi<=x.ss) (h3:∀mt lim,sp=some (mt,lim)->lim+hi<=(if x.mt=mt then x.ss else x.ms))
  (hl:NQ s from_ sp t) :
  ((aW x s t move dur).1=x.mt/\(aW x s t move dur).2.1=x.ms\/(aW x s t move dur).1=x.st/\(aW x s t move dur).2.1=x.ss)/\(aW x s t move dur).2.2=true /\
   NQ s (x.ms+x.mx) (some (x.mt,x.ss+x.mx)) ((aW x s t move dur).2.1+dur):=by
 obtain ⟨k1,k2,k3,k4,k5,k6,k7,k8⟩:=hx
 unfold aW
 by_cases hlost:s.tool=x.mt/\s.at_<x.ms+dur
 ·rw [if_neg (by simpa using hlost)]
  have hsp:∀mt lim,sp=some (mt,lim)->s.tool=mt->lim+hi<=x.ss:=fun mt lim e et=>by
   have:=h3 mt lim e
   rwa [if_pos (hlost.1.symm.trans et)] at this
  by_cases hb:s.at_<=t
  ·rw [if_pos hb]
   refine ⟨.inr ⟨rfl,rfl⟩,?_,?_⟩
   ·simp only [decide_eq_true_eq]
    rcases hl with hl | ⟨mt,lim,e,et,ha,_,hl⟩
    ·omega
    ·have:=hsp mt lim e et; omega
   ·exact .inr ⟨x.mt,x.ss+x.mx,rfl,hlost.1,by have:=hlost.2; omega,by simp only; omega,by simp only; omega⟩
  ·rw [if_neg hb]
   have hl':t<=from_:=by
    rcases hl with hl | ⟨_,_,_,_,_,h,_⟩
    ·exact hl
    ·exact absurd h hb
   by_cases hc:s.at_<x.ms
   ·rw [if_pos hc]
    refine ⟨.inr ⟨rfl,rfl⟩,?_,?_⟩
    ·simp only [decide_eq_true_eq]; omega
    ·exact .inr ⟨x.mt,x.ss+x.mx,rfl,hlost.1,by have:=hlost.2; omega,by simp only; omega,by simp only; omega⟩
   ·rw [if_neg hc,if_neg (by omega)]
    refine ⟨.inr ⟨rfl,rfl⟩,?_,?_⟩
    ·simp only [decide_eq_true_eq]; omega
    ·exact .inr ⟨x.mt,x.ss+x.mx,rfl,hlost.1,by have:=hlost.2; omega,by simp only; omega,by simp only; omega⟩
 ·rw [if_pos hlost]
  refine ⟨.inl ⟨rfl,rfl⟩,?_,.inl (by simp only; omega)⟩
  simp only [decide_eq_true_eq]
  rcases hl with hl | ⟨mt,lim,e,et,ha,_,hl⟩
  ·omega
  ·have h3':=h3 mt lim e
   by_cases hh:x.mt=mt
   ·exact absurd ⟨et.trans hh.symm,by omega⟩ hlost
   ·rw [if_neg hh] at h3'; omega
def iB (ws:List Win) (out:List Vis) (i:Nat) (start:Int):Option Nat:=ws.findIdx? fun w=>decide (w.t=(i:Int)/\start-(out[w.f.toNat]!).fin > w.l)
def wa (s:Scn) (ws:List Win):Nat->Int->List Vis->List Stg->List Vis × Int × Int
 | _,_,out,[]=>(out,0,0)
 | i,t,out,x :: r=>
  if (aW x s t s.moves[i]! s.durs[i]!).2.2=false then (out,1,i)
  else match iB ws (out++[⟨i,(aW x s t s.moves[i]! s.durs[i]!).1,(aW x s t s.moves[i]! s.durs[i]!).2.1,(aW x s t s.moves[i]! s.durs[i]!).2.1+s.durs[i]!⟩]) i (aW x s t s.moves[i]! s.durs[i]!).2.1 with
   | some k=>(out++[⟨i,(aW x s t s.moves[i]! s.durs[i]!).1,(aW x s t s.moves[i]! s.durs[i]!).2.1,(aW x s t s.moves[i]! s.durs[i]!).2.1+s.durs[i]!⟩],2,k)
   | none=>wa s ws (i+1) ((aW x s t s.moves[i]! s.durs[i]!).2.1+s.durs[i]!) (out++[⟨i,(aW x s t s.moves[i]! s.durs[i]!).1,(aW x s t s.moves[i]! s.durs[i]!).2.1,(aW x s t s.moves[i]! s.durs[i]!).2.1+s.durs[i]!⟩]) r
def rp (stages:List Stg) (ws:List Win):Prop:=∀w∈ws,(stages[w.t.toNat]!).ss<=(stages[w.f.toNat]!).ms+(stages[w.f.toNat]!).mn+w.l
def vJ (p:Pl):Prop:=cL p/\dO p.hi p.e none p.stages/\rp p.stages p.wins
def wN (p:Pl) (s:Scn):List Vis × Int × Int:=wa s p.wins 0 p.e [] p.stages
theorem get!_append_left {α:Type} [Inhabited α] {l r:List α} {i:Nat} (h:i<l.length):(l++r)[i]! = l[i]!:=by
 rw [List.getElem!_eq_getElem?_getD,List.getElem!_eq_getElem?_getD,List.getElem?_append_left h]
theorem get!_append_len {α:Type} [Inhabited α] (l:List α) (x:α) (r:List α):(l++x :: r)[l.length]! = x:=by
 rw [List.getElem!_eq_getElem?_getD,List.getElem?_append_right (Nat.le_refl _),Nat.sub_self]; rfl
theorem pq {hi:Int}:∀(l:List Stg) (from_:Int) (sp:Option (Int × Int)),dO hi from_ sp l->∀x∈l,x.ms+x.mx-1+hi<=x.ss
 | [],_,_,_,x,hx=>by cases hx
 | y :: l,_,_,⟨_,h2,_,h4⟩,x,hx=>by
  rcases List.mem_cons.1 hx with rfl | hx
  ·exact h2
  ·exact pq l _ _ h4 x hx
theorem yz {p:Pl} {s:Scn} (hp:fD p s) (hs0:dO p.hi p.e none p.stages) (hw:rp p.stages p.wins):∀(r pre:List Stg) (i:Nat) (t from_:Int) (sp:Option (Int × Int)) (out:List Vis),
  p.stages=pre++r->pre.length=i->out.length=i->dO p.hi from_ sp r->NQ s from_ sp t->(∀j,j<i->wn p.stages[j]! j s.durs[j]! out[j]!) ->
  ∃vs,wa s p.wins i t out r=(vs,0,0)/\vs.length=p.stages.length/\∀j,j<p.stages.length->wn p.stages[j]! j s.durs[j]! vs[j]!
 | [],pre,i,t,from_,sp,out,e,hi,ho,_,_,hf=>by
  rw [List.append_nil] at e
  refine ⟨out,rfl,by rw [e,ho,hi],fun j hj=>hf j (by rw [e,hi] at hj; exact hj)⟩
 | x :: r,pre,i,t,from_,sp,out,e,hi,ho,hs,hl,hf=>by
  obtain ⟨hv,d1,d2,hdt,hin⟩:=hp
  obtain ⟨v1,v2,v3,v4,v5,v6,v7,v8⟩:=hv
  obtain ⟨s1,s2,s3,s4⟩:=hs
  have hil:i<p.stages.length:=by rw [e]; simp; omega
  have hxi:p.stages[i]! = x:=by rw [e,<-hi]; exact get!_append_len _ _ _
  have hx:bH x:=v6 x (by rw [e]; simp)
  obtain ⟨m1,m2⟩:=hin i hil
  rw [hxi] at m1
  obtain ⟨q1,q2,q3⟩:=wB (move:=s.moves[i]!) (dur:=s.durs[i]!) hx ⟨by omega,m2.2⟩ m1 ⟨by omega,hdt.2⟩ s1 s2 s3 hl
  unfold wa
  rw [if_neg (by rw [q2]; decide)]
  generalize aW x s t s.moves[i]! s.durs[i]! = q at q1 q2 q3
  have fits:∀j,j<i+1->wn p.stages[j]! j s.durs[j]! (out++[(⟨i,q.1,q.2.1,q.2.1+s.durs[i]!⟩:Vis)])[j]!:=by
   intro j hj
   rcases Nat.lt_or_ge j i with h | h
   ·rw [get!_append_left (by omega)]; exact hf j h
   ·obtain rfl:j=i:=by omega
    have:(out++[(⟨j,q.1,q.2.1,q.2.1+s.durs[j]!⟩:Vis)])[j]! = ⟨j,q.1,q.2.1,q.2.1+s.durs[j]!⟩:=by
     have:=get!_append_len out (⟨j,q.1,q.2.1,q.2.1+s.durs[j]!⟩:Vis) []
     rwa [ho] at this
    rw [this,hxi]
    exact ⟨rfl,rfl,q1⟩
  have late:iB p.wins (out++[(⟨i,q.1,q.2.1,q.2.1+s.durs[i]!⟩:Vis)]) i q.2.1=none:=by
   unfold iB
   rw [List.findIdx?_eq_none_iff]
   intro w hwm
   rw [decide_eq_false_iff_not]
   rintro ⟨hti,hgt⟩
   obtain ⟨w1,w2,w3,w4,w5⟩:=v7 w hwm
   have hfj:w.f.toNat<i+1:=by omega
   obtain ⟨_,f2,f3⟩:=fits w.f.toNat hfj
   have hm:=hw w hwm
   rw [show w.t.toNat=i by omega,hxi] at hm
   obtain ⟨⟨n1,_⟩,_⟩:=hin w.f.toNat (by omega)
   obtain ⟨k1,k2,k3,k4,k5,k6,k7,k8⟩:=hx
   have hmem:p.stages[w.f.toNat]!∈p.stages:=by
    rw [List.getElem!_eq_getElem?_getD,List.getElem?_eq_getElem (show w.f.toNat<p.stages.length by omega)]
    exact List.getElem_mem _
   obtain ⟨g1,g2,g3,g4,g5,g6,g7,g8⟩:=v6 _ hmem
   have hss:(p.stages[w.f.toNat]!).ms<=(p.stages[w.f.toNat]!).ss:=by
    have:=pq _ _ _ hs0 _ hmem
    omega
   rw [f2] at hgt
   have hq:q.2.1<=x.ss:=by
    rcases q1 with ⟨_,h⟩ | ⟨_,h⟩ <;> omega
   rcases f3 with ⟨_,f3⟩ | ⟨_,f3⟩ <;> omega
  rw [late]
  exact yz ⟨⟨v1,v2,v3,v4,v5,v6,v7,v8⟩,d1,d2,hdt,hin⟩ hs0 hw r (pre++[x]) (i+1) _ _ _ _ (by rw [e]; simp) (by simp; omega) (by simp; omega) s4 q3 fits
theorem wH {p:Pl} {s:Scn} (hp:fD p s) (h:vJ p):∃vs,wN p s=(vs,0,0)/\vs.length=p.stages.length/\∀j,j<p.stages.length->wn p.stages[j]! j s.durs[j]! vs[j]!:=
 yz hp h.2.1 h.2.2 p.stages [] 0 p.e p.e none [] rfl rfl rfl h.2.1 (.inl (Int.le_refl _)) (fun j hj=>by omega)
def f0 (l:List Stg):List (Int × Int × Int):=l.flatMap fun x=>[(x.mt,x.ms,x.ms+x.mx),(x.st,x.ss,x.ss+x.mx)]
def Eu (a b:Int × Int × Int):Prop:=a.1=b.1->a.2.2<=b.2.1\/b.2.2<=a.2.1
theorem rz {p:Pl} {s:Scn} (hp:fD p s) {j:Nat} (hj:j<p.stages.length) {v:Vis} (hv:wn p.stages[j]! j s.durs[j]! v):∃b∈f0 p.stages,v.tool=b.1/\v.start=b.2.1/\v.fin<=b.2.2:=by
 obtain ⟨_,f2,f3⟩:=hv
 obtain ⟨⟨_,n2⟩,_⟩:=hp.2.2.2.2 j hj
 have hmem:p.stages[j]!∈p.stages:=by
  rw [List.getElem!_eq_getElem?_getD,List.getElem?_eq_getElem hj]
  exact List.getElem_mem _
 rcases f3 with ⟨h1,h2⟩ | ⟨h1,h2⟩
 ·exact ⟨(_,_,_),List.mem_flatMap.2 ⟨_,hmem,List.mem_cons_self ..⟩,h1,h2,by simp only; omega⟩
 ·exact ⟨(_,_,_),List.mem_flatMap.2 ⟨_,hmem,List.mem_cons_of_mem _ (List.mem_cons_self ..)⟩,h1,h2,by simp only; omega⟩
theorem sL {p q:Pl} {s t:Scn} (hp:fD p s) (hq:fD q t) (ha:∀a∈f0 p.stages,∀b∈f0 q.stages,Eu a b) {i j:Nat} (hi:i<p.stages.length) (hj:j<q.stages.length) {v w:Vis}
  (hv:wn p.stages[i]! i s.durs[i]! v) (hw:wn q.stages[j]! j t.durs[j]! w):¬ (v.tool=w.tool/\v.start<w.fin/\w.start<v.fin):=by
 rintro ⟨e,h1,h2⟩
 obtain ⟨a,ma,a1,a2,a3⟩:=rz hp hi hv
 obtain ⟨b,mb,b1,b2,b3⟩:=rz hq hj hw
 rcases ha a ma b mb (by rw [<-a1,<-b1]; exact e) with h | h <;> omega
end Sh
namespace Sh
structure Bk where
 tool:Int
 start:Int
 fin:Int
 owner:Int
deriving DecidableEq
abbrev Cal:=Nat->List Bk
def okB (b:Bk):Prop:=(0<=b.start/\b.start<b.fin/\b.fin<=1000000)/\(0<=b.tool/\b.tool<60)/\(1<=b.owner/\b.owner<=1000000)
instance (b:Bk):Decidable (okB b):=by unfold okB; infer_instance
def pf (l:List Bk) (a b:Int):Bool:=l.any fun x=>decide (x.start<b/\a<x.fin)
def iZ (l:List Bk) (x:Bk):List Bk:=l.takeWhile (fun y=>decide (y.start<x.start))++x :: l.dropWhile (fun y=>decide (y.start<x.start))
def vZ (c:Cal) (t:Nat) (l:List Bk):Cal:=fun u=>if u=t then l else c u
def cK (c:Cal) (b:Bk):Option Cal:=if okB b/\pf (c b.tool.toNat) b.start b.fin=false then some (vZ c b.tool.toNat (iZ (c b.tool.toNat) b)) else none
def qo (l:List Bk):Prop:=l.Pairwise (fun a b=>a.fin<=b.start)/\∀b∈l,b.start<b.fin
def jM (c:Cal):Prop:=∀t,qo (c t)
theorem uw {l:List Bk} {x y:Bk}:y∈iZ l x↔y=x\/y∈l:=by
 unfold iZ
 rw [List.mem_append,List.mem_cons]
 have:y∈l↔y∈l.takeWhile (fun y=>decide (y.start<x.start))\/y∈l.dropWhile (fun y=>decide (y.start<x.start)):=by
  rw [<-List.mem_append,List.takeWhile_append_dropWhile]
 rw [this]
 constructor
 ·rintro (h | h | h)
  ·exact .inr (.inl h)
  ·exact .inl h
  ·exact .inr (.inr h)
 ·rintro (h | h | h)
  ·exact .inr (.inl h)
  ·exact .inl h
  ·exact .inr (.inr h)
theorem DW {l:List Bk} {a b:Int} (h:pf l a b=false):∀x∈l,x.fin<=a\/b<=x.start:=by
 intro x hx
 unfold pf at h
 rw [List.any_eq_false] at h
 have:=h x hx
 simp only [decide_eq_true_eq,not_and] at this
 by_cases h1:x.start<b
 ·have:=this h1; omega
 ·omega
theorem dR {l:List Bk} {y:Bk} (h:qo (y :: l)):∀z∈l,y.fin<=z.start:=fun z hz=>(List.pairwise_cons.1 h.1).1 z hz
theorem rY:∀ {l:List Bk} {x:Bk},qo l->x.start<x.fin->(∀y∈l,y.fin<=x.start\/x.fin<=y.start)->qo (iZ l x)
 | [],x,_,hx,_=>⟨by simp [iZ],by simpa [iZ] using hx⟩
 | y :: l,x,h,hx,ha=>by
  have hy:=h.2 y (by simp)
  have hl:qo l:=⟨(List.pairwise_cons.1 h.1).2,fun b hb=>h.2 b (by simp [hb])⟩
  by_cases hlt:y.start<x.start
  ·have e:iZ (y :: l) x=y :: iZ l x:=by
    unfold iZ
    rw [List.takeWhile_cons_of_pos (by simpa using hlt),List.dropWhile_cons_of_pos (by simpa using hlt)]; rfl
   rw [e]
   have ih:=rY hl hx fun z hz=>ha z (by simp [hz])
   refine ⟨List.pairwise_cons.2 ⟨fun z hz=>?_,ih.1⟩,fun b hb=>?_⟩
   ·rcases uw.1 hz with rfl | hz
    ·rcases ha y (by simp) with h1 | h1 <;> omega
    ·exact dR h z hz
   ·rcases List.mem_cons.1 hb with rfl | hb
    ·exact hy
    ·exact ih.2 b hb
  ·have e:iZ (y :: l) x=x :: y :: l:=by
    unfold iZ
    rw [List.takeWhile_cons_of_neg (by simpa using hlt),List.dropWhile_cons_of_neg (by simpa using hlt)]; rfl
   rw [e]
   have hxy:x.fin<=y.start:=by
    rcases ha y (by simp) with h1 | h1 <;> omega
   refine ⟨List.pairwise_cons.2 ⟨fun z hz=>?_,h.1⟩,fun b hb=>?_⟩
   ·rcases List.mem_cons.1 hz with rfl | hz
    ·exact hxy
    ·have:=dR h z hz; omega
   ·rcases List.mem_cons.1 hb with rfl | hb
    ·exact hx
    ·exact h.2 b hb
theorem cw {c d:Cal} {b:Bk} (hc:jM c) (h:cK c b=some d):jM d/\okB b/\(∀x∈c b.tool.toNat,x.fin<=b.start\/b.fin<=x.start)/\∀t x,x∈d t↔(t=b.tool.toNat/\x=b)\/x∈c t:=by
 unfold cK at h
 split at h
 ·rename_i hk
  injection h with h
  subst h
  have hn:=DW hk.2
  refine ⟨fun t=>?_,hk.1,hn,fun t x=>?_⟩
  ·unfold vZ
   split
   ·exact rY (hc _) hk.1.1.2.1 hn
   ·exact hc t
  ·unfold vZ
   split
   ·rename_i e
    subst e
    rw [uw]
    simp
   ·rename_i e
    simp [e]
 ·cases h
theorem qh {c:Cal} {b:Bk} (ok:okB b) (h:∀x∈c b.tool.toNat,x.fin<=b.start\/b.fin<=x.start):∃d,cK c b=some d:=by
 refine ⟨vZ c b.tool.toNat (iZ (c b.tool.toNat) b),if_pos ⟨ok,?_⟩⟩
 unfold pf
 rw [List.any_eq_false]
 intro x hx
 simp only [decide_eq_true_eq,not_and]
 have:=h x hx
 omega
def eg (len:Int):Int->List Bk->Option Int
 | from_,[]=>if from_<1000000/\len<=1000000-from_ then some from_ else none
 | from_,b :: l=>if from_<b.start/\len<=b.start-from_ then some from_ else eg len (max from_ b.fin) l
theorem r8 {len:Int} (hlen:1<=len):∀ {l:List Bk} {from_ t:Int},qo l->(∀b∈l,b.fin<=1000000)->eg len from_ l=some t->from_<=t/\t+len<=1000000/\∀b∈l,b.fin<=t\/t+len<=b.start
 | [],from_,t,_,_,h=>by
  unfold eg at h
  split at h
  ·injection h with h; subst h
   exact ⟨Int.le_refl _,by omega,fun b hb=>by cases hb⟩
  ·cases h
 | y :: l,from_,t,hg,hm,h=>by
  have hl:qo l:=⟨(List.pairwise_cons.1 hg.1).2,fun b hb=>hg.2 b (by simp [hb])⟩
  have hy:=hg.2 y (by simp)
  unfold eg at h
  split at h
  ·rename_i k
   injection h with h; subst h
   refine ⟨Int.le_refl _,?_,fun b hb=>.inr ?_⟩
   ·have:=hm y (by simp); omega
   ·rcases List.mem_cons.1 hb with rfl | hb
    ·omega
    ·have:=dR hg b hb; omega
  ·obtain ⟨h1,h2,h3⟩:=r8 hlen hl (fun b hb=>hm b (by simp [hb])) h
   refine ⟨by omega,h2,fun b hb=>?_⟩
   rcases List.mem_cons.1 hb with rfl | hb
   ·exact .inl (by omega)
   ·exact h3 b hb
def bR:Cal->List Bk->Option Cal
 | c,[]=>some c
 | c,b :: r=>(cK c b).bind fun d=>bR d r
theorem dx:∀ {l:List Bk} {c d:Cal},jM c->bR c l=some d->jM d/\(∀t x,x∈d t↔(x∈l/\t=x.tool.toNat)\/x∈c t)/\(∀b∈l,okB b/\∀x∈c b.tool.toNat,x.fin<=b.start\/b.fin<=x.start)
 | [],c,d,hc,h=>by
  obtain rfl:c=d:=by injection h
  exact ⟨hc,fun t x=>by simp,fun b hb=>by cases hb⟩
 | b :: l,c,d,hc,h=>by
  unfold bR at h
  obtain ⟨e,he,hd⟩:=Option.bind_eq_some_iff.1 h
  obtain ⟨g1,g2,g3,g4⟩:=cw hc he
  obtain ⟨k1,k2,k3⟩:=dx g1 hd
  refine ⟨k1,fun t x=>?_,fun y hy=>?_⟩
  ·rw [k2,g4,List.mem_cons]
   constructor
   ·rintro (⟨h1,h2⟩ | ⟨rfl,rfl⟩ | h1)
    ·exact .inl ⟨.inr h1,h2⟩
    ·exact .inl ⟨.inl rfl,rfl⟩
    ·exact .inr h1
   ·rintro (⟨rfl | h1,h2⟩ | h1)
    ·exact .inr (.inl ⟨h2,rfl⟩)
    ·exact .inl ⟨h1,h2⟩
    ·exact .inr (.inr h1)
  ·rcases List.mem_cons.1 hy with rfl | hy
   ·exact ⟨g2,g3⟩
   ·exact ⟨(k3 y hy).1,fun x hx=>(k3 y hy).2 x ((g4 _ _).2 (.inr hx))⟩
end Sh
namespace Sh
def zc (a b:Bk):Prop:=a.tool.toNat=b.tool.toNat->a.fin<=b.start\/b.fin<=a.start
theorem kI:∀ {l:List Bk} {c d:Cal},jM c->bR c l=some d->l.Pairwise zc
 | [],_,_,_,_=>List.Pairwise.nil
 | b :: l,c,d,hc,h=>by
  unfold bR at h
  obtain ⟨e,he,hd⟩:=Option.bind_eq_some_iff.1 h
  obtain ⟨g1,g2,g3,g4⟩:=cw hc he
  refine List.pairwise_cons.2 ⟨fun y hy ht=>?_,kI g1 hd⟩
  exact ((dx g1 hd).2.2 y hy).2 b ((g4 _ _).2 (.inl ⟨ht.symm,rfl⟩))
theorem kJ:∀ {l:List Bk} {c:Cal},jM c->(∀b∈l,okB b)->(∀b∈l,∀x∈c b.tool.toNat,x.fin<=b.start\/b.fin<=x.start)->l.Pairwise zc->∃d,bR c l=some d
 | [],c,_,_,_,_=>⟨c,rfl⟩
 | b :: l,c,hc,ho,hf,hp=>by
  obtain ⟨e,he⟩:=qh (ho b (by simp)) (hf b (by simp))
  obtain ⟨g1,g2,g3,g4⟩:=cw hc he
  obtain ⟨p1,p2⟩:=List.pairwise_cons.1 hp
  obtain ⟨d,hd⟩:=kJ (l:=l) g1 (fun x hx=>ho x (by simp [hx])) (fun y hy x hx=>by
   rcases (g4 _ _).1 hx with ⟨h1,rfl⟩ | hx
   ·exact p1 y hy h1.symm
   ·exact hf y (by simp [hy]) x hx) p2
  exact ⟨d,by unfold bR; rw [he]; exact hd⟩
def fB (o:Int) (l:List Stg):List Bk:=l.flatMap fun x=>[⟨x.mt,x.ms,x.ms+x.mx,o⟩,⟨x.st,x.ss,x.ss+x.mx,o⟩]
def KU (o:Int) (b:Bk):Bk:=⟨b.tool,b.start,b.fin,o⟩
theorem th (o o':Int) (l:List Stg):fB o l=(fB o' l).map (KU o):=by
 unfold fB
 rw [List.map_flatMap]
 rfl
theorem oz {l:List Stg} {c d:Cal} {o o':Int} (hc:jM c) (ho:1<=o'/\o'<=1000000) (h:bR c (fB o l)=some d):∃e,bR c (fB o' l)=some e:=by
 obtain ⟨_,_,k⟩:=dx hc h
 have p:=kI hc h
 rw [th o' o]
 refine kJ hc ?_ ?_ ?_
 ·intro b hb
  obtain ⟨x,hx,rfl⟩:=List.mem_map.1 hb
  obtain ⟨k1,k2,_⟩:=(k x hx).1
  exact ⟨k1,k2,ho⟩
 ·intro b hb
  obtain ⟨x,hx,rfl⟩:=List.mem_map.1 hb
  exact (k x hx).2
 ·rw [List.pairwise_map]
  exact p
def cE (c:Cal) (tool from_ len:Int):Option Int:=if (0<=tool/\tool<60)/\1<=len then eg len (max from_ 0) (c tool.toNat) else none
structure Nd where
 mn:Int
 mx:Int
 m:Int
 s:Int
def cd (hi:Int):Cal->Int->List Nd->Option (Cal × List Stg)
 | c,_,[]=>some (c,[])
 | c,t,x :: r=>(cE c x.m (t+hi) x.mx).bind fun a=>
  (cE ((cK c ⟨x.m,a,a+x.mx,1⟩).getD c) x.s (a+x.mx-1+hi) x.mx).bind fun b=>
   (cd hi ((cK ((cK c ⟨x.m,a,a+x.mx,1⟩).getD c) ⟨x.s,b,b+x.mx,1⟩).getD ((cK c ⟨x.m,a,a+x.mx,1⟩).getD c)) (max a b+x.mx) r).map fun q=>(q.1,⟨x.mn,x.mx,x.m,a,x.s,b⟩ :: q.2)
def dj (c:Cal):Prop:=jM c/\∀t,∀b∈c t,b.fin<=1000000
theorem pR {c d:Cal} {b:Bk} (hc:dj c) (h:cK c b=some d):dj d:=by
 obtain ⟨g1,g2,g3,g4⟩:=cw hc.1 h
 refine ⟨g1,fun t x hx=>?_⟩
 rcases (g4 _ _).1 hx with ⟨_,rfl⟩ | hx
 ·exact g2.1.2.2
 ·exact hc.2 t x hx
theorem dn {c:Cal} {tool from_ len t:Int} (hc:dj c) (h:cE c tool from_ len=some t):(0<=tool/\tool<60)/\1<=len/\from_<=t/\∃d,cK c ⟨tool,t,t+len,1⟩=some d/\dj d:=by
 unfold cE at h
 split at h
 ·rename_i k
  obtain ⟨h1,h2,h3⟩:=r8 k.2 (hc.1 _) (hc.2 _) h
  obtain ⟨d,hd⟩:=qh (c:=c) (b:=⟨tool,t,t+len,1⟩) ⟨⟨by simp only; omega,by simp only; omega,by simp only; omega⟩,k.1,by simp only; omega⟩ h3
  exact ⟨k.1,k.2,by omega,d,hd,pR hc hd⟩
 ·cases h
theorem gW {hi:Int}:∀ {l:List Nd} {c d:Cal} {t:Int} {st:List Stg},dj c->cd hi c t l=some (d,st)->bR c (fB 1 st)=some d
 | [],c,d,t,st,_,h=>by
  unfold cd at h
  injection h with h
  injection h with h1 h2
  subst h1 h2
  rfl
 | x :: r,c,d,t,st,hc,h=>by
  unfold cd at h
  obtain ⟨a,ha,h⟩:=Option.bind_eq_some_iff.1 h
  obtain ⟨_,_,_,c1,e1,f1⟩:=dn hc ha
  rw [e1,Option.getD_some] at h
  obtain ⟨b,hb,h⟩:=Option.bind_eq_some_iff.1 h
  obtain ⟨_,_,_,c2,e2,f2⟩:=dn f1 hb
  rw [e2,Option.getD_some] at h
  obtain ⟨⟨d',st'⟩,hq,h⟩:=Option.map_eq_some_iff.1 h
  injection h with h1 h2
  subst h1 h2
  have ih:=gW f2 hq
  show bR c (⟨x.m,a,a+x.mx,1⟩ :: ⟨x.s,b,b+x.mx,1⟩ :: fB 1 st')=some d'
  unfold bR
  rw [e1]
  show bR c1 (⟨x.s,b,b+x.mx,1⟩ :: fB 1 st')=some d'
  unfold bR
  rw [e2]
  exact ih
theorem pF {l:List Stg} {q:Int × Int × Int} (o:Int) (h:q∈f0 l):(⟨q.1,q.2.1,q.2.2,o⟩:Bk)∈fB o l:=by
 obtain ⟨x,hx,hq⟩:=List.mem_flatMap.1 h
 refine List.mem_flatMap.2 ⟨x,hx,?_⟩
 rcases List.mem_cons.1 hq with rfl | hq
 ·exact List.mem_cons_self ..
 ·rcases List.mem_cons.1 hq with rfl | hq
  ·exact List.mem_cons_of_mem _ (List.mem_cons_self ..)
  ·cases hq
theorem r7 {l:List Bk} {c d:Cal} (hc:dj c) (h:bR c l=some d):dj d:=by
 obtain ⟨k1,k2,k3⟩:=dx hc.1 h
 refine ⟨k1,fun t x hx=>?_⟩
 rcases (k2 _ _).1 hx with ⟨h1,_⟩ | hx
 ·exact (k3 x h1).1.1.2.2
 ·exact hc.2 t x hx
theorem wz {hi hi':Int} {c d c1 e:Cal} {t t':Int} {l l':List Nd} {st st':List Stg} {o o':Int} (hc:dj c) (ho':1<=o'/\o'<=1000000) (_h1:cd hi c t l=some (d,st)) (h2:bR c (fB o st)=some c1) (h3:cd hi' c1 t' l'=some (e,st')) :
  (∃c2,bR c1 (fB o' st')=some c2)/\∀a∈f0 st,∀b∈f0 st',Eu a b:=by
 have f1:=r7 hc h2
 have hb:=gW f1 h3
 refine ⟨oz f1.1 ho' hb,fun a ha b hbm hab=>?_⟩
 obtain ⟨_,k2,_⟩:=dx hc.1 h2
 obtain ⟨_,_,k3⟩:=dx f1.1 hb
 have m1:=pF o ha
 have m2:=pF 1 hbm
 have:=(k3 _ m2).2 ⟨a.1,a.2.1,a.2.2,o⟩ ((k2 _ _).2 (.inl ⟨m1,by rw [<-hab]⟩))
 exact this
end Sh
namespace Sh
open Go
abbrev GS:Nat->Option (List AV):=fun _=>none
theorem di (x y:Int):aj .lss (.int .i64 x) (.int .i64 y)=some (.bool (decide (x<y))):=by simp [aj]
theorem j4 (x y:Int):aj .leq (.int .i64 x) (.int .i64 y)=some (.bool (decide (x<=y))):=by simp [aj]
theorem iS (x y:Int):aj .gtr (.int .i64 x) (.int .i64 y)=some (.bool (decide (y<x))):=by simp [aj]
theorem qP (x y:Int):aj .geq (.int .i64 x) (.int .i64 y)=some (.bool (decide (y<=x))):=by simp [aj]
theorem mK (x y:Int):aj .eql (.int .i64 x) (.int .i64 y)=some (.bool (decide (x=y))):=by simp [aj]
theorem uX (x y:Int):aj .neq (.int .i64 x) (.int .i64 y)=some (.bool (!decide (x=y))):=by simp [aj]
theorem dX {x y:Int} (h:inI (x+y)):aj .add (.int .i64 x) (.int .i64 y)=some (.int .i64 (x+y)):=by simp only [aj,if_true]; rw [eo h]
theorem pX {x y:Int} (h:inI (x-y)):aj .sub (.int .i64 x) (.int .i64 y)=some (.int .i64 (x-y)):=by simp only [aj,if_true]; rw [eo h]
def aL (c n:Int):Int:=(if c<0 then -(c+1) else c) % n
theorem aX (c:Int) {n:Int} (hn:0<n):0<=aL c n/\aL c n<n:=⟨Int.emod_nonneg _ (by omega),Int.emod_lt_of_pos _ hn⟩
theorem wJ (E:Env) {c n:Int} (hc:inI c) (hn:0<n):evP E 0 Bs 4 [.int .i64 c,.int .i64 n]=some (.int .i64 (aL c n)):=by
 rw [aZ _ _ rfl]
 have l:=di c 0
 unfold inI at hc
 unfold aL
 have r:∀z:Int,0<=z->aj .rem (.int .i64 z) (.int .i64 n)=some (.int .i64 (z % n)):=fun z hz=>by
  simp only [aj]
  rw [if_pos trivial,if_neg (by omega),Int.tmod_eq_emod_of_nonneg hz]
 by_cases h:c<0
 ·rw [decide_eq_true h] at l
  rw [if_pos h]
  have a:=dX (x:=c) (y:=1) (by unfold inI; omega)
  have ng:uV .neg (.int .i64 (c+1))=some (.int .i64 (-(c+1))):=by simp [uV,eo (a:=-(c+1)) (by unfold inI; omega)]
  have r:=r (-(c+1)) (by omega)
  generalize -(c+1)=z at *
  generalize c+1=w at *
  simp [Bs,l,a,ng,r,-aj,-uV]
 ·rw [decide_eq_false h] at l
  rw [if_neg h]
  have r:=r c (by omega)
  simp [Bs,l,r,-aj]
def M21:aN:=fun args=>evP (ac GS []) 0 Bs 4 args
theorem cy {c n:Int} (hc:inI c) (hn:0<n):M21 [.int .i64 c,.int .i64 n]=some (.int .i64 (aL c n)):=wJ _ hc hn
theorem Br:N5=Bs:=rfl
theorem Bq:N4=Bs:=rfl
theorem Bo:NZ=Bs:=rfl
theorem Fb:ak Tryz.prog GS 34 M21:=ak.of_ev (E:=ac GS []) (ai an) rfl at34 Ip 4 fun _ _ h=>⟨0,by rw [Br]; exact h⟩
theorem E9:ak Tryz.prog GS 36 M21:=ak.of_ev (E:=ac GS []) (ai an) rfl at36 In 4 fun _ _ h=>⟨0,by rw [Bq]; exact h⟩
theorem E2:ak Tryz.prog GS 76 M21:=ak.of_ev (E:=ac GS []) (ai an) rfl at76 Ie 4 fun _ _ h=>⟨0,by rw [Bo]; exact h⟩
def M88:aN:=fun args=>evP (ac GS []) 0 JN 4 args
theorem nR:ak Tryz.prog GS 88 M88:=ak.of_ev (E:=ac GS []) (ai an) rfl at88 HZ 4 fun _ _ h=>⟨0,h⟩
theorem eU (n lo hi:Int):M88 [.int .i64 n,.int .i64 lo,.int .i64 hi]=some (.bool (decide (lo<=n/\n<=hi))):=by
 unfold M88
 rw [aZ _ _ rfl]
 have a:=qP n lo
 have b:=j4 n hi
 by_cases h1:lo<=n
 ·rw [decide_eq_true h1] at a
  simp [JN,a,b,h1,-aj]
 ·rw [decide_eq_false h1] at a
  simp [JN,a,h1,-aj]
def yg:aN:=fun args=>evP (ac GS []) 0 xu 4 args
theorem qA:ak Tryz.prog GS 133 yg:=ak.of_ev (E:=ac GS []) (ai an) rfl Np Dy 4 fun _ _ h=>⟨0,h⟩
theorem rk (n:Int):yg [.int .i64 n]=some (.bool (decide (0<=n/\n<60))):=by
 unfold yg
 rw [aZ _ _ rfl]
 have a:=qP n 0
 have b:=di n 60
 by_cases h1:0<=n
 ·rw [decide_eq_true h1] at a
  simp [xu,a,b,h1,-aj]
 ·rw [decide_eq_false h1] at a
  simp [xu,a,h1,-aj]
def bkA (b:Bk):AV:=.agg [.int .i64 b.tool,.int .i64 b.start,.int .i64 b.fin,.int .i64 b.owner]
def LK:List (FuncId × aB):=[(133,aK 4 yg)]
@[simp] theorem J4:aR LK 133=some (aK 4 yg):=rfl
def M77:aN:=fun args=>evP (ac GS LK) 0 K5 4 args
theorem E1:ak Tryz.prog GS 77 M77:=ak.of_ev (E:=ac GS LK) (ai (ag (au.of_pure qA 4) an)) rfl at77 Id 4 fun _ _ h=>⟨0,h⟩
theorem IQ (b:Bk):M77 [bkA b]=some (.bool (decide (okB b))):=by
 obtain ⟨t,s,f,o⟩:=b
 have m:=rk t
 have a1:=j4 0 s
 have a2:=di s f
 have a3:=j4 f 1000000
 have a4:=j4 1 o
 have a5:=j4 o 1000000
 unfold M77
 rw [aZ _ _ rfl]
 have key:∀p1 p2 p3 p4 p5 p6:Bool,decide (0<=s)=p1->decide (s<f)=p2->decide (f<=1000000)=p3->decide (0<=t/\t<60)=p4->decide (1<=o)=p5->decide (o<=1000000)=p6->decide (okB ⟨t,s,f,o⟩)=(p1 && p2 && p3 && (p4 && p5 && p6)):=by
  rintro _ _ _ _ _ _ rfl rfl rfl rfl rfl rfl
  rw [Bool.eq_iff_iff]
  simp [okB,and_assoc]
 generalize h1:decide (0<=s)=p1 at *
 generalize h2:decide (s<f)=p2 at *
 generalize h3:decide (f<=1000000)=p3 at *
 generalize h4:decide (0<=t/\t<60)=p4 at *
 generalize h5:decide (1<=o)=p5 at *
 generalize h6:decide (o<=1000000)=p6 at *
 rw [key _ _ _ _ _ _ rfl rfl rfl rfl rfl rfl]
 have hc:p1=false\/(p1=true/\p2=false)\/(p1=true/\p2=true/\p3=false)\/(p1=true/\p2=true/\p3=true/\p4=false)\/(p1=true/\p2=true/\p3=true/\p4=true/\p5=false)\/(p1=true/\p2=true/\p3=true/\p4=true/\p5=true):=by
  cases p1 <;> cases p2 <;> cases p3 <;> cases p4 <;> cases p5 <;> simp
 clear h1 h2 h3 h4 h5 h6 key
 rcases hc with rfl | ⟨rfl,rfl⟩ | ⟨rfl,rfl,rfl⟩ | ⟨rfl,rfl,rfl,rfl⟩ | ⟨rfl,rfl,rfl,rfl,rfl⟩ | ⟨rfl,rfl,rfl,rfl,rfl⟩ <;> simp [K5,bkA,a1,a2,a3,a4,a5,m,-aj]
def Jf:aN:=fun args=>evP (ac GS []) 0 xr 4 args
theorem Af:ak Tryz.prog GS 135 Jf:=ak.of_ev (E:=ac GS []) (ai an) rfl Nn Dw 4 fun _ _ h=>⟨0,h⟩
theorem Ef (s e:Int) (b:Bk):Jf [.agg [.int .i64 s,.int .i64 e],bkA b]=some (.bool (decide (b.start<e/\s<b.fin))):=by
 unfold Jf
 rw [aZ _ _ rfl]
 have a1:=di b.start e
 have a2:=di s b.fin
 by_cases h1:b.start<e
 ·rw [decide_eq_true h1] at a1
  simp [xr,bkA,a1,a2,h1,-aj]
 ·rw [decide_eq_false h1] at a1
  simp [xr,bkA,a1,h1,-aj]
def IX:aN:=fun args=>evP (ac GS []) 0 Bw 4 args
theorem zQ:ak Tryz.prog GS 169 IX:=ak.of_ev (E:=ac GS []) (ai an) rfl MY Dd 4 fun _ _ h=>⟨0,h⟩
theorem vM (n:Int):IX [.int .i64 n]=some (.bool false):=by
 unfold IX
 rw [aZ _ _ rfl]
 have a:=uX n n
 rw [decide_eq_true rfl] at a
 simp [Bw,a,-aj]
def CL:List (FuncId × aB):=[(169,aK 4 IX)]
@[simp] theorem Ht:aR CL 169=some (aK 4 IX):=rfl
def zj:aN:=fun args=>evP (ac GS CL) 0 uu 4 args
theorem qz:ak Tryz.prog GS 138 zj:=ak.of_ev (E:=ac GS CL) (ai (ag (au.of_pure zQ 4) an)) rfl Nl Du 4 fun _ _ h=>⟨0,h⟩
def te (x y:Int):Int:=if x<y then -1 else if y<x then 1 else 0
theorem Ed (x y:Int):zj [.int .i64 x,.int .i64 y]=some (.int .i64 (te x y)):=by
 unfold zj te
 rw [aZ _ _ rfl]
 have m1:=vM x
 have m2:=vM y
 have a:=di x y
 have b:=iS x y
 by_cases h1:x<y
 ·rw [decide_eq_true h1] at a
  rw [if_pos h1]
  simp [uu,m1,m2,a,-aj]
 ·rw [decide_eq_false h1] at a
  rw [if_neg h1]
  by_cases h2:y<x
  ·rw [decide_eq_true h2] at b
   rw [if_pos h2]
   simp [uu,m1,m2,a,b,-aj]
  ·rw [decide_eq_false h2] at b
   rw [if_neg h2]
   simp [uu,m1,m2,a,b,-aj]
def LJ:List (FuncId × aB):=[(138,aK 4 zj)]
@[simp] theorem JZ:aR LJ 138=some (aK 4 zj):=rfl
def M80:aN:=fun args=>evP (ac GS LJ) 0 K3 4 args
theorem EY:ak Tryz.prog GS 80 M80:=ak.of_ev (E:=ac GS LJ) (ai (ag (au.of_pure qz 4) an)) rfl at80 Ia 4 fun _ _ h=>⟨0,h⟩
theorem zg (a b:Bk):M80 [bkA a,bkA b]=some (.int .i64 (te a.start b.start)):=by
 have m:=Ed a.start b.start
 unfold M80
 rw [aZ _ _ rfl]
 simp [K3,bkA,m]
end Sh
namespace Sh
open Go
def aI (x:Stg):AV:=.agg [.int .i64 x.mn,.int .i64 x.mx,.int .i64 x.mt,.int .i64 x.ms,.int .i64 x.st,.int .i64 x.ss]
def bM (d m:AV) (s:Scn):AV:=.agg [d,m,.int .i64 s.detour,.int .i64 s.tool,.int .i64 s.at_]
def Bd (z:Int):Prop:=-1000000000<=z/\z<=1000000000
theorem ldF (cs:List AV) (e o sz:Nat):ba (.agg cs) e o false sz=cs[o]?:=rfl
theorem Ez (a b c d e f:AV):ba (.agg [a,b,c,d,e,f]) 6 2 true 2=some (.agg [c,d]):=rfl
theorem Ey (a b c d e f:AV):ba (.agg [a,b,c,d,e,f]) 6 4 true 2=some (.agg [e,f]):=rfl
def M38:aN:=fun args=>evP (ac GS []) 0 yI 4 args
theorem E7:ak Tryz.prog GS 38 M38:=ak.of_ev (E:=ac GS []) (ai an) rfl at38 Il 4 fun _ _ h=>⟨0,h⟩
theorem IS {x:Stg} {s:Scn} {t move dur:Int} (d m:AV) (h1:Bd x.ms) (h2:Bd t) (h3:Bd move) (h4:Bd dur) (h5:Bd s.at_) (h6:Bd s.detour) :
  M38 [aI x,bM d m s,.int .i64 t,.int .i64 move,.int .i64 dur]=some (.tup [.agg [.int .i64 (aW x s t move dur).1,.int .i64 (aW x s t move dur).2.1],.bool (aW x s t move dur).2.2]):=by
 obtain ⟨mn,mx,mt,ms,st,ss⟩:=x
 obtain ⟨_,_,dt,tl,a⟩:=s
 unfold Bd at *
 simp only at h1 h5 h6
 have a1:=dX (x:=t) (y:=move) (by unfold inI; omega)
 have e1:=mK tl mt
 have a2:=dX (x:=ms) (y:=dur) (by unfold inI; omega)
 have c1:=di a (ms+dur)
 have c2:=j4 (t+move) ms
 have c3:=j4 a t
 have c4:=di a ms
 have mm:cT true (.int .i64 (t+move)) [.int .i64 a]=some (.int .i64 (max (t+move) a)):=by simp; split <;> omega
 have a3:=dX (x:=max (t+move) a) (y:=dt) (by unfold inI; omega)
 have c5:=iS (t+move) ms
 have a4:=dX (x:=a) (y:=dt) (by unfold inI; omega)
 have c6:=j4 (t+move) ss
 have c7:=j4 (max (t+move) a+dt) ss
 have c8:=j4 (a+dt) ss
 unfold M38 aW
 rw [aZ _ _ rfl]
 simp only
 by_cases k1:tl=mt/\a<ms+dur
 ·rw [if_neg (by simpa using k1)]
  rw [decide_eq_true k1.1] at e1
  rw [decide_eq_true k1.2] at c1
  by_cases k2:a<=t
  ·rw [if_pos k2]
   rw [decide_eq_true k2] at c3
   generalize t+move=w at *
   generalize ms+dur=y at *
   generalize decide (w<=ss)=p at *
   simp [yI,aI,bM,a1,e1,a2,c1,c3,c6,Ey,-aj,-cT]
  ·rw [if_neg k2]
   rw [decide_eq_false k2] at c3
   by_cases k3:a<ms
   ·rw [if_pos k3]
    rw [decide_eq_true k3] at c4
    generalize max (t+move) a+dt=z at *
    generalize max (t+move) a=z1 at *
    generalize t+move=w at *
    generalize ms+dur=y at *
    generalize decide (z<=ss)=p at *
    simp [yI,aI,bM,a1,e1,a2,c1,c3,c4,mm,a3,c7,Ey,-aj,-cT]
   ·rw [if_neg k3]
    rw [decide_eq_false k3] at c4
    by_cases k4:t+move > ms
    ·rw [if_pos k4]
     rw [decide_eq_true k4] at c5
     generalize t+move=w at *
     generalize ms+dur=y at *
     simp [yI,aI,bM,a1,e1,a2,c1,c3,c4,c5,Ez,-aj,-cT]
    ·rw [if_neg k4]
     rw [decide_eq_false k4] at c5
     generalize a+dt=z at *
     generalize t+move=w at *
     generalize ms+dur=y at *
     generalize decide (z<=ss)=p at *
     simp [yI,aI,bM,a1,e1,a2,c1,c3,c4,c5,a4,c8,Ey,-aj,-cT]
 ·rw [if_pos k1]
  by_cases k2:tl=mt
  ·rw [decide_eq_true k2] at e1
   rw [decide_eq_false fun h=>k1 ⟨k2,h⟩] at c1
   generalize t+move=w at *
   generalize ms+dur=y at *
   generalize decide (w<=ms)=p at *
   simp [yI,aI,bM,a1,e1,a2,c1,c2,Ez,-aj,-cT]
  ·rw [decide_eq_false k2] at e1
   generalize t+move=w at *
   generalize decide (w<=ms)=p at *
   simp [yI,aI,bM,a1,e1,c2,Ez,-aj,-cT]
end Sh
namespace Sh
open Go
def CJ:List (FuncId × aB):=[(88,aK 4 M88)]
@[simp] theorem Kf:aR CJ 88=some (aK 4 M88):=rfl
def Ja:aN:=fun args=>evP (ac GS CJ) 0 By 4 args
theorem zU:ak Tryz.prog GS 163 Ja:=ak.of_ev (E:=ac GS CJ) (ai (ag (au.of_pure nR 4) an)) rfl M4 Dh 4 fun _ _ h=>⟨0,h⟩
def ki (tool start dur:Int):Prop:=(0<=tool/\tool<=59)/\(0<=start/\start<=1000000-dur)
instance (a b c:Int):Decidable (ki a b c):=by unfold ki; infer_instance
theorem vN {tool start dur:Int} (h:inI (1000000-dur)):Ja [.agg [.int .i64 tool,.int .i64 start],.int .i64 dur]=some (.bool (decide (ki tool start dur))):=by
 have m1:=eU tool 0 59
 have m2:=eU start 0 (1000000-dur)
 have sb:=pX (x:=1000000) (y:=dur) h
 unfold Ja
 rw [aZ _ _ rfl]
 have key:decide (ki tool start dur)=(decide (0<=tool/\tool<=59) && decide (0<=start/\start<=1000000-dur)):=by
  rw [Bool.eq_iff_iff,decide_eq_true_iff,Bool.and_eq_true,decide_eq_true_iff,decide_eq_true_iff]
  exact Iff.rfl
 rw [key]
 generalize decide (0<=tool/\tool<=59)=p1 at *
 generalize decide (0<=start/\start<=1000000-dur)=p2 at *
 generalize 1000000-dur=z at *
 cases p1 <;> simp [By,m1,m2,sb,-aj]
def xR:List (FuncId × aB):=[(88,aK 4 M88),(163,aK 4 Ja)]
@[simp] theorem Kj:aR xR 88=some (aK 4 M88):=rfl
@[simp] theorem HD:aR xR 163=some (aK 4 Ja):=rfl
def Jh:aN:=fun args=>evP (ac GS xR) 0 uv 4 args
theorem Al:ak Tryz.prog GS 127 Jh:=ak.of_ev (E:=ac GS xR) (ai (ag (au.of_pure nR 4) (ag (au.of_pure zU 4) an))) rfl Nv DE 4 fun _ _ h=>⟨0,h⟩
instance (x:Stg):Decidable (bH x):=by unfold bH; infer_instance
theorem Eh (x:Stg):Jh [aI x]=some (.bool (decide (bH x))):=by
 obtain ⟨mn,mx,mt,ms,st,ss⟩:=x
 have w:=eU mn 1 mx
 have g:=iS mx 10000
 have ne:=uX mt st
 unfold Jh
 rw [aZ _ _ rfl]
 by_cases h1:1<=mn/\mn<=mx
 ·rw [decide_eq_true h1] at w
  by_cases h2:10000<mx
  ·rw [decide_eq_true h2] at g
   rw [decide_eq_false (fun h=>by have:=h.2.2.1; simp only at this; omega)]
   simp [uv,aI,w,g,-aj]
  ·rw [decide_eq_false h2] at g
   have hz:inI (1000000-mx):=by unfold inI; omega
   have m1:=vN (tool:=mt) (start:=ms) hz
   have m2:=vN (tool:=st) (start:=ss) hz
   have key:decide (bH ⟨mn,mx,mt,ms,st,ss⟩)=(decide (ki mt ms mx) && decide (ki st ss mx) && !decide (mt=st)):=by
    rw [Bool.eq_iff_iff,decide_eq_true_iff,Bool.and_eq_true,Bool.and_eq_true,decide_eq_true_iff,decide_eq_true_iff,Bool.not_eq_true',decide_eq_false_iff_not]
    constructor
    ·rintro ⟨a,b,c,d,e,f,g,h⟩
     exact ⟨⟨⟨d,e⟩,⟨f,g⟩⟩,h⟩
    ·rintro ⟨⟨⟨d,e⟩,⟨f,g⟩⟩,h⟩
     exact ⟨h1.1,h1.2,by simp only; omega,d,e,f,g,h⟩
   rw [key]
   generalize decide (ki mt ms mx)=p1 at *
   generalize decide (ki st ss mx)=p2 at *
   generalize (!decide (mt=st))=p3 at *
   have hc:p1=false\/(p1=true/\p2=false)\/(p1=true/\p2=true):=by cases p1 <;> cases p2 <;> simp
   clear key
   rcases hc with rfl | ⟨rfl,rfl⟩ | ⟨rfl,rfl⟩ <;> simp [uv,aI,w,g,m1,m2,ne,Ez,Ey,-aj]
 ·rw [decide_eq_false h1] at w
  rw [decide_eq_false (fun h=>h1 ⟨h.1,h.2.1⟩)]
  simp [uv,aI,w,-aj]
def CO:List (FuncId × aB):=[(127,aK 4 Jh)]
@[simp] theorem HE:aR CO 127=some (aK 4 Jh):=rfl
def Ji:aN:=fun args=>evP (ac GS CO) 0 BI 4 args
theorem Am:ak Tryz.prog GS 126 Ji:=ak.of_ev (E:=ac GS CO) (ai (ag (au.of_pure Al 4) an)) rfl Nw DF 4 fun _ _ h=>⟨0,h⟩
theorem Ei (x:Stg):Ji [aI x]=some (.bool (!decide (bH x))):=by
 have m:=Eh x
 unfold Ji
 rw [aZ _ _ rfl]
 unfold aI at m ⊢
 simp [BI,m]
end Sh
namespace Sh
open Go
def nt {α:Type} (p:α->Bool) (l:List α):Int:=match l.findIdx? p with
 | some i=>i
 | none=>-1
theorem mq {α:Type} {p:α->Bool} {l:List α} {i:Nat} (hi:i<l.length) (h1:p l[i]=true) (h2:∀j (hj:j<i),p (l[j]'(by omega))=false):nt p l=(i:Int):=by
 have:l.findIdx? p=some i:=List.findIdx?_eq_some_iff_getElem.2 ⟨hi,h1,fun j hj=>by simpa using h2 j hj⟩
 unfold nt; rw [this]
theorem mr {α:Type} {p:α->Bool} {l:List α} (h:∀i (hi:i<l.length),p l[i]=false):nt p l = -1:=by
 have:l.findIdx? p=none:=by
  rw [List.findIdx?_eq_none_iff]
  intro x hx
  obtain ⟨i,hi,rfl⟩:=List.mem_iff_getElem.1 hx
  exact h i hi
 unfold nt; rw [this]
theorem oN {α:Type} (p:α->Bool) (l:List α):decide (0<=nt p l)=l.any p:=by
 unfold nt
 cases h:l.findIdx? p with
 | some i=>
  obtain ⟨hi,h1,_⟩:=List.findIdx?_eq_some_iff_getElem.1 h
  show decide (0<=(i:Int))=_
  rw [decide_eq_true (by omega),eq_comm,List.any_eq_true]
  exact ⟨_,List.getElem_mem hi,h1⟩
 | none=>
  rw [List.findIdx?_eq_none_iff] at h
  show decide (0<=(-1:Int))=_
  rw [decide_eq_false (by omega),eq_comm,List.any_eq_false]
  intro x hx; rw [h x hx]; simp
theorem JV (z:Int):aj .geq (.int .i64 z) (.int .i64 0)=some (.bool (decide (0<=z))):=by simp [aj]
def jz:AV:=.func (.func 126) [] []
def qr (x:Stg):Bool:=!decide (bH x)
def qN:List (FuncId × aB):=[(126,aK 4 Ji)]
@[simp] theorem Hn:aR qN 126=some (aK 4 Ji):=rfl
def Jb:aN:=fun args=>evP (ac GS qN) 50 xj 1 args
theorem zV:ak Tryz.prog GS 162 Jb:=ak.of_ev (E:=ac GS qN) (ai (ag (au.of_pure Am 4) an)) rfl M5 Di 1 fun _ _ h=>⟨50,h⟩
theorem D9 {a:AV} {l:List Stg} (ha:SlA 6 (l.map aI) a) (hl:l.length<=40):Jb [a,jz]=some (.int .i64 (nt qr l)):=by
 have len:=ha.len
 rw [List.length_map] at len
 have round:∀(A:aa) (i:Nat) (hi:i<l.length),run (ac GS qN) 50 [.code ey] (fV a jz (.int .i64 (l.length:Int)) (.int .i64 (i:Int))) A =
   if qr l[i]=false then some (.normal (fV a jz (.int .i64 (l.length:Int)) (.int .i64 ((i+1:Nat):Int))) A) else some (.ret [a,jz,.int .i64 (i:Int),.int .i64 (i:Int),.int .i64 (l.length:Int),.int .i64 (i:Int),.bool true,.bool true] A):=fun A i hi=>by
  have hx:(l.map aI)[i]?=some (aI l[i]):=by simp [hi]
  have x1:ae 6 A a (.int .i64 (i:Int))=some (.fp [.int .i64 l[i].mn,.int .i64 l[i].mx,.int .i64 l[i].mt,.int .i64 l[i].ms,.int .i64 l[i].st,.int .i64 l[i].ss]):=ha.index (A:=A) hx rfl (by simp) .i64
  have m:=Ei l[i]
  unfold aI at m
  have b1:=bK i l.length .i64
  rw [decide_eq_true hi] at b1
  have b3:=aY i (by omega)
  obtain ⟨i1,hi1⟩:∃i1:Nat,i1=i+1:=⟨_,rfl⟩
  rw [<-hi1] at b3 ⊢
  have e:(!decide (bH l[i]))=qr l[i]:=rfl
  rw [e] at m
  obtain ⟨d,hd⟩:∃d,d=qr l[i]:=⟨_,rfl⟩
  rw [<-hd] at m ⊢
  cases d with
  | false=>simp [ey,jz,x1,m,frz,b1,b3,-aj,-ae,-ay]
  | true=>simp [ey,jz,x1,m,frz,b1,-aj,-ae,-ay]
 unfold Jb
 rw [aZ _ _ rfl]
 rcases dk (E:=ac GS qN) (fuel:=50) (a:=ey) (mask:=eL) (m:=50) (fun i=>fV a jz (.int .i64 (l.length:Int)) (.int .i64 (i:Int))) (fun _=>[]) l.length (fun i=>¬ ∀hi:i<l.length,qr l[i]=false)
  (oF:=fun i=>.ret [a,jz,.int .i64 (i:Int),.int .i64 (i:Int),.int .i64 (l.length:Int),.int .i64 (i:Int),.bool true,.bool true] []) (oE:=.exit 0 ((fV a jz (.int .i64 (l.length:Int)) (.int .i64 (l.length:Int))).set 6 (.bool false)) [])
  (fun _=>vt) (fun _ _ _ h=>by cases h) (fun _ _ h=>by cases h)
  (fun i hi hp=>by
   rw [round [] i hi]
   exact if_pos (Classical.not_not.1 hp hi))
  (fun i hi hp=>by
   rw [round [] i hi]
   exact if_neg fun h=>hp fun _=>h)
  (by simp [ey]) (by omega) with ⟨i,hi,hp,hj,lp⟩ | ⟨hp,lp⟩
 ·have lp:bI (evC (ac GS qN) 50 ey) eL 50 (fV a jz (.int .i64 (l.length:Int)) (.int .i64 0)) []=_:=lp
  have e:nt qr l=(i:Int):=mq hi (by
   cases h:qr l[i] with
   | true=>rfl
   | false=>exact absurd (fun _=>h) hp) (fun j hj'=>Classical.not_not.1 (hj j hj') (by omega))
  rw [e]
  simp [xj,len,uJ lp,-aj,-ay]
 ·have lp:bI (evC (ac GS qN) 50 ey) eL 50 (fV a jz (.int .i64 (l.length:Int)) (.int .i64 0)) []=_:=lp
  have e:nt qr l = -1:=mr fun i hi=>Classical.not_not.1 (hp i hi) hi
  rw [e]
  simp [xj,len,uJ lp,-aj,-ay]
def CP:List (FuncId × aB):=[(162,aK 4 Jb)]
@[simp] theorem HF:aR CP 162=some (aK 4 Jb):=rfl
def Jj:aN:=fun args=>evP (ac GS CP) 0 BJ 1 args
theorem An:ak Tryz.prog GS 125 Jj:=ak.of_ev (E:=ac GS CP) (ai (ag (au.of_pure zV 4) an)) rfl Nx DG 1 fun _ _ h=>⟨0,h⟩
theorem Ej {a:AV} {l:List Stg} (ha:SlA 6 (l.map aI) a) (hl:l.length<=40):Jj [a,jz]=some (.bool (l.any qr)):=by
 have m:=D9 ha hl
 have b:=JV (nt qr l)
 rw [oN] at b
 have f1:∀n,frz [] n a=a:=fun n=>ha.frz n
 unfold Jj
 rw [aZ _ _ rfl]
 unfold jz at m ⊢
 have nr:br 4 a=true:=by rcases ha with ⟨rfl,_⟩ | rfl <;> rfl
 generalize nt qr l=z at *
 simp [BJ,m,b,f1,nr,-aj]
end Sh
namespace Sh
open Go
def bi (w:Win):AV:=.agg [.int .i64 w.f,.int .i64 w.t,.int .i64 w.l]
def ax (p:Pl) (a b:AV):AV:=.agg [.int .i64 p.e,.int .i64 p.lo,.int .i64 p.hi,a,b]
instance (a b:Win):Decidable (dL a b):=by unfold dL; infer_instance
instance (n:Nat) (w:Win):Decidable (gi n w):=by unfold gi; infer_instance
def HG:List (FuncId × aB):=[(88,aK 4 M88)]
@[simp] theorem Kl:aR HG 88=some (aK 4 M88):=rfl
def Jw:aB:=fun _=>bN (ac GS HG) 0 sN
theorem Ao:au Tryz.prog GS 124 Jw:=(aG (ai (ag (au.of_pure nR 4) an)) rfl Ny DH aU.nil).y
theorem Eq (hd:aE) (r2:Ent) (G:aa) (p:Pl) (a b:AV) (last w:Win) (n:Nat) (hn:ay a=some (.int .i64 (n:Int))) :
  Jw hd [bi w,.ptr 1 0 0,.ptr 0 0 0] (.row 5 false [ax p a b] :: .row 3 false [bi last] :: r2 :: G)=some (.bool (decide (dL last w) && decide (gi n w)),.row 5 false [ax p a b] :: .row 3 false [bi w] :: r2 :: (G++[.row 3 false [bi w]])):=by
 have c1:=di last.f w.f
 have c2:=mK last.f w.f
 have c3:=di last.t w.t
 have c4:=qP w.f 0
 have c5:=di w.f w.t
 have c6:=di w.t (n:Int)
 have m:=eU w.l 0 1000000
 have k1:decide (dL last w)=(decide (last.f<w.f) || (decide (last.f=w.f) && decide (last.t<w.t))):=by
  rw [Bool.eq_iff_iff,decide_eq_true_iff,Bool.or_eq_true,Bool.and_eq_true,decide_eq_true_iff,decide_eq_true_iff,decide_eq_true_iff]
  exact Iff.rfl
 have k2:decide (gi n w)=(decide (0<=w.f) && decide (w.f<w.t) && decide (w.t<(n:Int)) && decide (0<=w.l/\w.l<=1000000)):=by
  rw [Bool.eq_iff_iff,decide_eq_true_iff,Bool.and_eq_true,Bool.and_eq_true,Bool.and_eq_true,decide_eq_true_iff,decide_eq_true_iff,decide_eq_true_iff,decide_eq_true_iff]
  exact ⟨fun ⟨a,b,c,d,e⟩=>⟨⟨⟨a,b⟩,c⟩,d,e⟩,fun ⟨⟨⟨a,b⟩,c⟩,d,e⟩=>⟨a,b,c,d,e⟩⟩
 rw [k1,k2]
 generalize decide (last.f<w.f)=q1 at *
 generalize decide (last.f=w.f)=q2 at *
 generalize decide (last.t<w.t)=q3 at *
 generalize decide (0<=w.f)=q4 at *
 generalize decide (w.f<w.t)=q5 at *
 generalize decide (w.t<(n:Int))=q6 at *
 generalize decide (0<=w.l/\w.l<=1000000)=q7 at *
 generalize (n:Int)=N at *
 clear k1 k2
 unfold Jw
 rw [aH _ _ rfl]
 have hc:q1=true\/(q1=false/\q2=false)\/(q1=false/\q2=true):=by cases q1 <;> cases q2 <;> simp
 have hd:q4=false\/(q4=true/\q5=false)\/(q4=true/\q5=true/\q6=false)\/(q4=true/\q5=true/\q6=true):=by cases q4 <;> cases q5 <;> cases q6 <;> simp
 rcases hc with rfl | ⟨rfl,rfl⟩ | ⟨rfl,rfl⟩
 ·rcases hd with rfl | ⟨rfl,rfl⟩ | ⟨rfl,rfl,rfl⟩ | ⟨rfl,rfl,rfl⟩ <;> simp [sN,bi,ax,hn,c1,c4,c5,c6,m,-aj,-ay]
 ·simp [sN,bi,ax,c1,c2,-aj,-ay]
 ·cases q3 with
  | false=>simp [sN,bi,ax,c1,c2,c3,-aj,-ay]
  | true=>rcases hd with rfl | ⟨rfl,rfl⟩ | ⟨rfl,rfl,rfl⟩ | ⟨rfl,rfl,rfl⟩ <;> simp [sN,bi,ax,hn,c1,c2,c3,c4,c5,c6,m,-aj,-ay]
end Sh
namespace Sh
open Go
def r2A:Ent:=.row 1 false [.func (.func 124) [] [.ptr 1 0 0,.ptr 0 0 0]]
def HA:List (FuncId × aB):=[(124,Jw)]
@[simp] theorem Hz:aR HA 124=some Jw:=rfl
def Jv:aB:=fun _=>bN (ac GS HA) 0 BG
theorem Aj:au Tryz.prog GS 129 Jv:=(aG (ai (ag Ao an)) rfl Nt DC aU.nil).y
theorem Eo (hd:aE) (G:aa) (p:Pl) (a b:AV) (last w:Win) (n:Nat) (hn:ay a=some (.int .i64 (n:Int))) :
  Jv hd [bi w,.ptr 2 0 0] (.row 5 false [ax p a b] :: .row 3 false [bi last] :: r2A :: G)=some (.bool (!(decide (dL last w) && decide (gi n w))),.row 5 false [ax p a b] :: .row 3 false [bi w] :: r2A :: (G++[.row 3 false [bi w],.row 3 false [bi w]])):=by
 have h:=fun hd=>Eq hd r2A (G++[.row 3 false [bi w]]) p a b last w n hn
 generalize (decide (dL last w) && decide (gi n w))=q at *
 generalize Ent.row 5 false [ax p a b]=r0 at *
 generalize hr1:Ent.row 3 false [bi last]=r1 at *
 unfold Jv
 rw [aH _ _ rfl]
 have e:G++[Ent.row 3 false [bi w]]++[Ent.row 3 false [bi w]]=G++[Ent.row 3 false [bi w],Ent.row 3 false [bi w]]:=by simp
 rw [e] at h
 unfold r2A bi at *
 simp [BG,h]
end Sh
namespace Sh
open Go
def io:AV:=.func (.func 129) [] [.ptr 2 0 0]
def nq (last:Win) (ws:List Win) (i:Nat):Win:=match i with
 | 0=>last
 | k+1=>ws[k]?.getD last
def tu (n:Nat) (last:Win) (ws:List Win) (i:Nat):Bool:=match ws[i]? with
 | some w=>decide (dL (nq last ws i) w) && decide (gi n w)
 | none=>true
def mU (ws:List Win):aa:=ws.flatMap fun w=>[.row 3 false [bi w],.row 3 false [bi w]]
def arW (p:Pl) (a b:AV) (last:Win) (G:aa) (ws:List Win) (i:Nat):aa:=.row 5 false [ax p a b] :: .row 3 false [bi (nq last ws i)] :: r2A :: (G++mU (ws.take i))
def sS:List (FuncId × aB):=[(129,Jv)]
@[simp] theorem Hm:aR sS 129=some Jv:=rfl
def EM:aB:=fun _=>bN (ac GS sS) 50 xi
theorem zT:au Tryz.prog GS 164 EM:=(aG (ai (ag Aj an)) rfl M3 Dg aU.nil).y
theorem En (hd:aE) (G:aa) (p:Pl) (a b:AV) (last:Win) (ws:List Win) (n:Nat) (hn:ay a=some (.int .i64 (n:Int))) (hb:SlA 3 (ws.map bi) b) (hl:ws.length<=40) :
  ∃(z:Int) (B:aa),EM hd [b,io] (arW p a b last G ws 0)=some (.int .i64 z,B)/\((0<=z/\∃i,i<ws.length/\tu n last ws i=false)\/(z = -1/\∀i,i<ws.length->tu n last ws i=true)):=by
 have len:=hb.len
 rw [List.length_map] at len
 have round:∀(i:Nat) (_:i<ws.length),run (ac GS sS) 50 [.code ex] (fU b io (.int .i64 (ws.length:Int)) (.int .i64 (i:Int))) (arW p a b last G ws i) =
   if tu n last ws i=true then some (.normal (fU b io (.int .i64 (ws.length:Int)) (.int .i64 ((i+1:Nat):Int))) (arW p a b last G ws (i+1))) else some (.ret [b,io,.int .i64 (i:Int),.int .i64 (i:Int),.int .i64 (ws.length:Int),.int .i64 (i:Int),.bool true,.bool true] (arW p a b last G ws (i+1))):=fun i hi=>by
  have hx:(ws.map bi)[i]?=some (bi ws[i]):=by simp [hi]
  have x1:∀A,ae 3 A b (.int .i64 (i:Int))=some (.fp [.int .i64 ws[i].f,.int .i64 ws[i].t,.int .i64 ws[i].l]):=fun A=>hb.index (A:=A) hx rfl (by simp) .i64
  have m:=fun hd=>Eo hd (G++mU (ws.take i)) p a b (nq last ws i) ws[i] n hn
  have e1:tu n last ws i=(decide (dL (nq last ws i) ws[i]) && decide (gi n ws[i])):=by
   unfold tu; rw [List.getElem?_eq_getElem hi]
  have e2:arW p a b last G ws (i+1)=.row 5 false [ax p a b] :: .row 3 false [bi ws[i]] :: r2A :: (G++mU (ws.take i)++[.row 3 false [bi ws[i]],.row 3 false [bi ws[i]]]):=by
   unfold arW mU
   rw [<-List.take_append_getElem hi,List.flatMap_append]
   simp [nq,List.getElem?_eq_getElem hi]
  rw [e1,e2]
  generalize (decide (dL (nq last ws i) ws[i]) && decide (gi n ws[i]))=d at *
  rw [show arW p a b last G ws i=.row 5 false [ax p a b] :: .row 3 false [bi (nq last ws i)] :: r2A :: (G++mU (ws.take i)) from rfl]
  generalize (Ent.row 5 false [ax p a b] :: .row 3 false [bi (nq last ws i)] :: r2A :: (G++mU (ws.take i)))=A0 at *
  generalize (Ent.row 5 false [ax p a b] :: .row 3 false [bi ws[i]] :: r2A :: (G++mU (ws.take i)++[.row 3 false [bi ws[i]],.row 3 false [bi ws[i]]]))=A1 at *
  unfold bi at m
  have b1:=bK i ws.length .i64
  rw [decide_eq_true hi] at b1
  have b3:=aY i (by omega)
  obtain ⟨i1,hi1⟩:∃i1:Nat,i1=i+1:=⟨_,rfl⟩
  rw [<-hi1] at b3 ⊢
  cases d with
  | false=>simp [ex,io,x1,m,b1,-aj,-ae,-ay]
  | true=>simp [ex,io,x1,m,b1,b3,-aj,-ae,-ay]
 unfold EM
 rw [aH _ _ rfl]
 rcases dk (E:=ac GS sS) (fuel:=50) (a:=ex) (mask:=eK) (m:=50) (fun i=>fU b io (.int .i64 (ws.length:Int)) (.int .i64 (i:Int))) (fun i=>arW p a b last G ws i) ws.length (fun i=>¬ tu n last ws i=true)
  (oF:=fun i=>.ret [b,io,.int .i64 (i:Int),.int .i64 (i:Int),.int .i64 (ws.length:Int),.int .i64 (i:Int),.bool true,.bool true] (arW p a b last G ws (i+1))) (oE:=.exit 0 ((fU b io (.int .i64 (ws.length:Int)) (.int .i64 (ws.length:Int))).set 6 (.bool false)) (arW p a b last G ws ws.length))
  (fun _=>vr) (fun _ _ _ h=>by cases h) (fun _ _ h=>by cases h)
  (fun i hi hp=>by
   rw [round i hi]
   exact if_pos (Classical.not_not.1 hp))
  (fun i hi hp=>by
   rw [round i hi]
   exact if_neg hp)
  (by simp [ex]) (by omega) with ⟨i,hi,hp,_,lp⟩ | ⟨hp,lp⟩
 ·have lp:bI (evC (ac GS sS) 50 ex) eK 50 (fU b io (.int .i64 (ws.length:Int)) (.int .i64 0)) (arW p a b last G ws 0)=_:=lp
  refine ⟨i,arW p a b last G ws (i+1),?_,.inl ⟨by omega,i,hi,by simpa using hp⟩⟩
  generalize arW p a b last G ws 0=A0 at *
  generalize arW p a b last G ws (i+1)=A1 at *
  simp [xi,len,uI lp,-aj,-ay]
 ·have lp:bI (evC (ac GS sS) 50 ex) eK 50 (fU b io (.int .i64 (ws.length:Int)) (.int .i64 0)) (arW p a b last G ws 0)=_:=lp
  refine ⟨-1,arW p a b last G ws ws.length,?_,.inr ⟨rfl,fun i hi=>Classical.not_not.1 (hp i hi)⟩⟩
  generalize arW p a b last G ws 0=A0 at *
  generalize arW p a b last G ws ws.length=A1 at *
  simp [xi,len,uI lp,-aj,-ay]
end Sh
namespace Sh
open Go
def HC:List (FuncId × aB):=[(164,EM)]
@[simp] theorem HB:aR HC 164=some EM:=rfl
def EN:aB:=fun _=>bN (ac GS HC) 0 BH
theorem Ak:au Tryz.prog GS 128 EN:=(aG (ai (ag zT an)) rfl Nu DD aU.nil).y
def vA (n:Nat):Win->List Win->Prop
 | _,[]=>True
 | last,w :: r=>dL last w/\gi n w/\vA n w r
theorem pE (n:Nat) (last w:Win) (r:List Win) (i:Nat) (hi:i<r.length):tu n last (w :: r) (i+1)=tu n w r i:=by
 unfold tu
 rw [List.getElem?_cons_succ,List.getElem?_eq_getElem hi]
 have:nq last (w :: r) (i+1)=nq w r i:=by
  cases i with
  | zero=>rfl
  | succ k=>
   show ((w :: r)[k+1]?).getD last=(r[k]?).getD w
   rw [List.getElem?_cons_succ,List.getElem?_eq_getElem (by omega)]; rfl
 rw [this]
theorem qe (n:Nat):∀(ws:List Win) (last:Win),(∀i,i<ws.length->tu n last ws i=true)↔vA n last ws
 | [],_=>⟨fun _=>trivial,fun _ i hi=>by simp at hi⟩
 | w :: r,last=>by
  have ih:=qe n r w
  have h0:tu n last (w :: r) 0=true↔dL last w/\gi n w:=by
   show (decide (dL last w) && decide (gi n w))=true↔_
   rw [Bool.and_eq_true,decide_eq_true_iff,decide_eq_true_iff]
  constructor
  ·intro h
   obtain ⟨a,b⟩:=h0.1 (h 0 (by simp))
   exact ⟨a,b,ih.1 fun i hi=>by rw [<-pE n last w r i hi]; exact h (i+1) (by simpa using hi)⟩
  ·rintro ⟨a,b,c⟩ i hi
   cases i with
   | zero=>exact h0.2 ⟨a,b⟩
   | succ i=>
    have hi':i<r.length:=by simpa using hi
    rw [pE n last w r i hi']
    exact ih.2 c i hi'
theorem qf (n:Nat):∀(ws:List Win) (last:Win),vA n last ws↔(∀w∈ws,gi n w)/\asc (last :: ws)
 | [],_=>⟨fun _=>⟨fun _ h=>(by cases h),trivial⟩,fun _=>trivial⟩
 | w :: r,last=>by
  have ih:=qf n r w
  constructor
  ·rintro ⟨a,b,c⟩
   obtain ⟨d,e⟩:=ih.1 c
   refine ⟨fun x hx=>?_,a,e⟩
   rcases List.mem_cons.1 hx with rfl | hx
   ·exact b
   ·exact d x hx
  ·rintro ⟨h,a,e⟩
   exact ⟨a,h w (by simp),ih.2 ⟨fun x hx=>h x (by simp [hx]),e⟩⟩
theorem wq (n:Nat) (ws:List Win):(∀i,i<ws.length->tu n ⟨-1,0,0⟩ ws i=true)↔(∀w∈ws,gi n w)/\asc ws:=by
 rw [qe,qf]
 cases ws with
 | nil=>exact ⟨fun _=>⟨fun _ h=>(by cases h),trivial⟩,fun _=>⟨fun _ h=>(by cases h),trivial⟩⟩
 | cons w r=>
  refine ⟨fun h=>⟨h.1,h.2.2⟩,fun h=>⟨h.1,.inl ?_,h.2⟩⟩
  have:=(h.1 w (by simp)).1
  show (-1:Int)<w.f
  omega
theorem Ep (hd:aE) (G:aa) (p:Pl) (a b:AV) (ws:List Win) (n:Nat) (hn:ay a=some (.int .i64 (n:Int))) (hb:SlA 3 (ws.map bi) b) (hl:ws.length<=40) :
  ∃(q:Bool) (B:aa),EN hd [b,io] (arW p a b ⟨-1,0,0⟩ G ws 0)=some (.bool q,B)/\(q=false↔(∀w∈ws,gi n w)/\asc ws):=by
 obtain ⟨z,B,h,hz⟩:=En hd G p a b ⟨-1,0,0⟩ ws n hn hb hl
 have h':∀hd,EM hd [b,io] (arW p a b ⟨-1,0,0⟩ G ws 0)=some (.int .i64 z,B):=fun _=>h
 have g:=JV z
 refine ⟨decide (0<=z),B,?_,?_⟩
 ·unfold EN
  rw [aH _ _ rfl]
  generalize arW p a b ⟨-1,0,0⟩ G ws 0=A0 at *
  unfold io at *
  generalize decide (0<=z)=q at *
  simp [BH,h',g,-aj]
 ·rw [<-wq]
  rcases hz with ⟨h0,i,hi,hf⟩ | ⟨rfl,hf⟩
  ·rw [decide_eq_true h0]
   refine ⟨fun h=>(by cases h),fun h=>?_⟩
   rw [h i hi] at hf
   cases hf
  ·exact ⟨fun _=>hf,fun _=>by decide⟩
end Sh
namespace Sh
open Go
def Ha:List (FuncId × aB):=[(88,aK 4 M88),(125,aK 4 Jj),(128,EN)]
@[simp] theorem LL:aR Ha 88=some (aK 4 M88):=rfl
@[simp] theorem J6:aR Ha 125=some (aK 4 Jj):=rfl
@[simp] theorem J5:aR Ha 128=some EN:=rfl
def M74:aN:=fun args=>evP (ac GS Ha) 0 xd 1 args
theorem rD:ak Tryz.prog GS 74 M74:=ak.of_ev (E:=ac GS Ha) (ai (ag (au.of_pure nR 4) (ag (au.of_pure An 4) (ag Ak an)))) rfl at74 Ig 1 fun _ _ h=>⟨0,h⟩
theorem sk (p:Pl) {a b:AV} (ha:SlA 6 (p.stages.map aI) a) (hb:SlA 3 (p.wins.map bi) b):∃v:Bool,M74 [ax p a b]=some (.bool v)/\(v=true↔cL p):=by
 have m1:=eU p.e 0 1000000
 have m2:=eU p.lo 0 p.hi
 have g1:=iS p.hi 10000
 have la:=ha.len
 have lb:=hb.len
 rw [List.length_map] at la lb
 have m3:=eU (p.stages.length:Int) 1 8
 have g2:=iS (p.wins.length:Int) 20
 unfold M74
 rw [aZ _ _ rfl]
 by_cases h1:¬ (0<=p.e/\p.e<=1000000)
 ·refine ⟨false,?_,fun h=>(by cases h),fun h=>absurd h.1 h1⟩
  rw [decide_eq_false h1] at m1
  simp [xd,ax,m1,-aj]
 replace h1:=Classical.not_not.1 h1
 rw [decide_eq_true h1] at m1
 by_cases h2:¬ (0<=p.lo/\p.lo<=p.hi)
 ·refine ⟨false,?_,fun h=>(by cases h),fun h=>absurd h.2.1 h2⟩
  rw [decide_eq_false h2] at m2
  simp [xd,ax,m1,m2,-aj]
 replace h2:=Classical.not_not.1 h2
 rw [decide_eq_true h2] at m2
 by_cases h3:10000<p.hi
 ·refine ⟨false,?_,fun h=>(by cases h),fun h=>by have:=h.2.2.1; omega⟩
  rw [decide_eq_true h3] at g1
  simp [xd,ax,m1,m2,g1,-aj]
 rw [decide_eq_false h3] at g1
 by_cases h4:¬ ((1:Int)<=(p.stages.length:Int)/\(p.stages.length:Int)<=8)
 ·refine ⟨false,?_,fun h=>(by cases h),fun h=>by have:=h.2.2.2.1; omega⟩
  rw [decide_eq_false h4] at m3
  generalize (p.stages.length:Int)=N at *
  simp [xd,ax,m1,m2,g1,la,m3,-aj,-ay]
 replace h4:=Classical.not_not.1 h4
 rw [decide_eq_true h4] at m3
 by_cases h5:20<(p.wins.length:Int)
 ·refine ⟨false,?_,fun h=>(by cases h),fun h=>by have:=h.2.2.2.2.1; omega⟩
  rw [decide_eq_true h5] at g2
  generalize (p.stages.length:Int)=N at *
  generalize (p.wins.length:Int)=K at *
  simp [xd,ax,m1,m2,g1,la,lb,m3,g2,-aj,-ay]
 rw [decide_eq_false h5] at g2
 have m5:=Ej ha (by omega)
 have fr:∀A n,frz A n a=a:=fun A n=>ha.frz n
 have nr:br 4 a=true:=by rcases ha with ⟨rfl,_⟩ | rfl <;> rfl
 have hlen:1<=p.stages.length/\p.stages.length<=8:=by omega
 have hlen2:p.wins.length<=20:=by omega
 obtain ⟨q,B,hq,iq⟩:=Ep (fun _ _ _=>none) [] p a b p.wins p.stages.length la hb (by omega)
 have hq':∀hd,EN hd [b,io] [.row 5 false [ax p a b],.row 3 false [bi ⟨-1,0,0⟩],r2A]=some (.bool q,B):=fun _=>hq
 have e:p.stages.any qr=false↔∀x∈p.stages,bH x:=by
  rw [List.any_eq_false]
  refine ⟨fun h x hx=>?_,fun h x hx=>?_⟩
  ·have:=h x hx
   simpa [qr] using this
  ·have:=h x hx
   simpa [qr] using this
 generalize (p.stages.length:Int)=N at *
 generalize (p.wins.length:Int)=K at *
 refine ⟨!(p.stages.any qr) && !q,?_,?_⟩
 ·generalize p.stages.any qr=z at *
  unfold jz at m5
  unfold io r2A bi ax at *
  simp only at hq'
  cases z with
  | true=>simp [xd,m1,m2,g1,la,lb,m3,g2,m5,fr,nr,-aj,-ay]
  | false=>simp [xd,m1,m2,g1,la,lb,m3,g2,m5,fr,nr,hq',-aj,-ay]
 ·rw [Bool.and_eq_true,Bool.not_eq_true',Bool.not_eq_true',e,iq]
  exact ⟨fun ⟨x,y,z⟩=>⟨h1,h2,by omega,hlen,hlen2,x,y,z⟩,fun h=>⟨h.2.2.2.2.2.1,h.2.2.2.2.2.2.1,h.2.2.2.2.2.2.2⟩⟩
end Sh
namespace Sh
open Go
def M89:aN:=fun args=>evP (ac GS []) 0 KX 1 args
theorem ET:ak Tryz.prog GS 89 M89:=ak.of_ev (E:=ac GS []) (ai an) rfl at89 HX 1 fun _ _ h=>⟨0,h⟩
theorem IM:M89 []=some (.agg [.int .i64 (-1),.int .i64 0]):=by
 unfold M89
 rw [aZ _ _ rfl]
 simp [KX]
def uM:List (FuncId × aB):=[(74,aK 4 M74),(88,aK 4 M88),(89,aK 4 M89)]
@[simp] theorem LP:aR uM 74=some (aK 4 M74):=rfl
@[simp] theorem LO:aR uM 88=some (aK 4 M88):=rfl
@[simp] theorem LN:aR uM 89=some (aK 4 M89):=rfl
def Ew (p:Pl) (x:Stg) (d m:Int):Bool:=decide (x.mn<=d/\d<=x.mx) && decide (p.lo<=m/\m<=p.hi)
theorem A7 (fuel:Nat) (G:aa) (p:Pl) (s:Scn) {a b d m:AV} {i:Nat} {x:Stg} {du mo:Int} (hi:i<p.stages.length) (hl:p.stages.length<=40) (ha:SlA 6 (p.stages.map aI) a) (hx:p.stages[i]?=some x)
  (hd:SlA 1 (s.durs.map (.int .i64)) d) (hdu:s.durs[i]?=some du) (hm:SlA 1 (s.moves.map (.int .i64)) m) (hmo:s.moves[i]?=some mo) :
  ∃o,run (ac GS uM) fuel [.code eN] (fE (.ptr 0 0 0) (.ptr 1 0 0) a (.int .i64 (p.stages.length:Int)) (.int .i64 (i:Int))) (.row 5 false [ax p a b] :: .row 5 false [bM d m s] :: G)=some o /\
   (Ew p x du mo=true->o=.normal (fE (.ptr 0 0 0) (.ptr 1 0 0) a (.int .i64 (p.stages.length:Int)) (.int .i64 ((i+1:Nat):Int))) (.row 5 false [ax p a b] :: .row 5 false [bM d m s] :: (G++[.row 6 false [aI x]]))) /\
   (Ew p x du mo=false->o=.ret [.undef,.undef,.ptr 0 0 0,.ptr 1 0 0,.bool false,.int .i64 (i:Int),.ptr (G.length+1+1) 0 0,.undef,.undef,a,.int .i64 (p.stages.length:Int),.int .i64 (i:Int),.bool true,.bool true] (.row 5 false [ax p a b] :: .row 5 false [bM d m s] :: (G++[.row 6 false [aI x]]))):=by
 have x1:∀A,ae 6 A a (.int .i64 (i:Int))=some (.fp [.int .i64 x.mn,.int .i64 x.mx,.int .i64 x.mt,.int .i64 x.ms,.int .i64 x.st,.int .i64 x.ss]):=fun A=>ha.index (A:=A) (x:=aI x) (by simp [hx]) rfl (by simp) .i64
 have x2:∀A,ae 1 A d (.int .i64 (i:Int))=some (.fp [.int .i64 du]):=fun A=>SlA.int (A:=A) s.durs .i64 hd hdu .i64
 have x3:∀A,ae 1 A m (.int .i64 (i:Int))=some (.fp [.int .i64 mo]):=fun A=>SlA.int (A:=A) s.moves .i64 hm hmo .i64
 have m1:=eU du x.mn x.mx
 have m2:=eU mo p.lo p.hi
 have b1:=bK i p.stages.length .i64
 rw [decide_eq_true hi] at b1
 have b3:=aY i (by omega)
 unfold Ew
 generalize decide (x.mn<=du/\du<=x.mx)=q1 at *
 generalize decide (p.lo<=mo/\mo<=p.hi)=q2 at *
 generalize ((i+1:Nat):Int)=I1 at *
 generalize (i:Int)=I at *
 generalize (p.stages.length:Int)=N at *
 cases q1 with
 | false=>exact ⟨(.ret [.undef,.undef,.ptr 0 0 0,.ptr 1 0 0,.bool false,.int .i64 I,.ptr (G.length+1+1) 0 0,.undef,.undef,a,.int .i64 N,.int .i64 I,.bool true,.bool true] (.row 5 false [ax p a b] :: .row 5 false [bM d m s] :: (G++[.row 6 false [aI x]]))),by simp [eN,ax,bM,aI,x1,x2,b1,m1,-aj,-ae],fun h=>(by cases h),fun _=>rfl⟩
 | true=>
  cases q2 with
  | false=>exact ⟨(.ret [.undef,.undef,.ptr 0 0 0,.ptr 1 0 0,.bool false,.int .i64 I,.ptr (G.length+1+1) 0 0,.undef,.undef,a,.int .i64 N,.int .i64 I,.bool true,.bool true] (.row 5 false [ax p a b] :: .row 5 false [bM d m s] :: (G++[.row 6 false [aI x]]))),by simp [eN,ax,bM,aI,x1,x2,x3,b1,m1,m2,-aj,-ae],fun h=>(by cases h),fun _=>rfl⟩
  | true=>exact ⟨(.normal (fE (.ptr 0 0 0) (.ptr 1 0 0) a (.int .i64 N) (.int .i64 I1)) (.row 5 false [ax p a b] :: .row 5 false [bM d m s] :: (G++[.row 6 false [aI x]]))),by simp [eN,ax,bM,aI,x1,x2,x3,b1,b3,m1,m2,-aj,-ae],fun _=>rfl,fun h=>(by cases h)⟩
end Sh
namespace Sh
open Go
def vE (p:Pl) (s:Scn) (a b d m:AV) (i:Nat):aa:=.row 5 false [ax p a b] :: .row 5 false [bM d m s] :: ((p.stages.take i).map fun x=>.row 6 false [aI x])
def okI (p:Pl) (s:Scn) (i:Nat):Bool:=Ew p p.stages[i]! s.durs[i]! s.moves[i]!
theorem get!_some {α:Type} [Inhabited α] {l:List α} {i:Nat} (h:i<l.length):l[i]?=some l[i]!:=by
 rw [List.getElem!_eq_getElem?_getD,List.getElem?_eq_getElem h]; rfl
theorem GJ (p:Pl) (s:Scn) {a b d m:AV} (hl:p.stages.length<=40) (ha:SlA 6 (p.stages.map aI) a) (hd:SlA 1 (s.durs.map (.int .i64)) d) (hm:SlA 1 (s.moves.map (.int .i64)) m) (h1:s.durs.length=p.stages.length) (h2:s.moves.length=p.stages.length) :
  (∃i B,i<p.stages.length/\okI p s i=false/\bI (evC (ac GS uM) 50 eN) ee 50 (fE (.ptr 0 0 0) (.ptr 1 0 0) a (.int .i64 (p.stages.length:Int)) (.int .i64 0)) (vE p s a b d m 0)=some (.ret [.undef,.undef,.ptr 0 0 0,.ptr 1 0 0,.bool false,.int .i64 (i:Int),.ptr (i+1+1) 0 0,.undef,.undef,a,.int .i64 (p.stages.length:Int),.int .i64 (i:Int),.bool true,.bool true] B)) \/
  ((∀i,i<p.stages.length->okI p s i=true)/\bI (evC (ac GS uM) 50 eN) ee 50 (fE (.ptr 0 0 0) (.ptr 1 0 0) a (.int .i64 (p.stages.length:Int)) (.int .i64 0)) (vE p s a b d m 0)=some (.exit 0 ((fE (.ptr 0 0 0) (.ptr 1 0 0) a (.int .i64 (p.stages.length:Int)) (.int .i64 (p.stages.length:Int))).set 12 (.bool false)) (vE p s a b d m p.stages.length))):=by
 have step:∀i,i<p.stages.length->vE p s a b d m (i+1)=.row 5 false [ax p a b] :: .row 5 false [bM d m s] :: (((p.stages.take i).map fun x=>Ent.row 6 false [aI x])++[.row 6 false [aI p.stages[i]!]]):=fun i hi=>by
  unfold vE
  rw [<-List.take_append_getElem hi,List.map_append]
  have:p.stages[i]! = p.stages[i]:=by
   have:=get!_some hi
   rw [List.getElem?_eq_getElem hi] at this
   exact (Option.some.inj this).symm
  rw [this]; rfl
 have rd:=fun i (hi:i<p.stages.length)=>A7 50 ((p.stages.take i).map fun x=>Ent.row 6 false [aI x]) p s (b:=b) hi hl ha (get!_some hi) hd (get!_some (by omega)) hm (get!_some (by omega))
 rcases dk (E:=ac GS uM) (fuel:=50) (a:=eN) (mask:=ee) (m:=50) (fun i=>fE (.ptr 0 0 0) (.ptr 1 0 0) a (.int .i64 (p.stages.length:Int)) (.int .i64 (i:Int))) (fun i=>vE p s a b d m i) p.stages.length (fun i=>¬ okI p s i=true)
  (oF:=fun i=>.ret [.undef,.undef,.ptr 0 0 0,.ptr 1 0 0,.bool false,.int .i64 (i:Int),.ptr (((p.stages.take i).map fun x=>Ent.row 6 false [aI x]).length+1+1) 0 0,.undef,.undef,a,.int .i64 (p.stages.length:Int),.int .i64 (i:Int),.bool true,.bool true] (vE p s a b d m (i+1))) (oE:=.exit 0 ((fE (.ptr 0 0 0) (.ptr 1 0 0) a (.int .i64 (p.stages.length:Int)) (.int .i64 (p.stages.length:Int))).set 12 (.bool false)) (vE p s a b d m p.stages.length))
  (fun _=>yY) (fun _ _ _ h=>by cases h) (fun _ _ h=>by cases h)
  (fun i hi hp=>by
   obtain ⟨o,r1,r2,_⟩:=rd i hi
   rw [step i hi]
   have:=r2 (Classical.not_not.1 hp)
   rw [this] at r1
   exact r1)
  (fun i hi hp=>by
   obtain ⟨o,r1,_,r3⟩:=rd i hi
   rw [step i hi]
   have:=r3 (by rw [Bool.not_eq_true] at hp; exact hp)
   rw [this] at r1
   exact r1)
  (by
   generalize vE p s a b d m p.stages.length=A0
   simp [eN]) (by omega) with ⟨i,hi,hp,_,lp⟩ | ⟨hp,lp⟩
 ·refine .inl ⟨i,vE p s a b d m (i+1),hi,by rw [Bool.not_eq_true] at hp; exact hp,?_⟩
  have e:((p.stages.take i).map fun x=>Ent.row 6 false [aI x]).length=i:=by simp; omega
  rw [e] at lp
  exact lp
 ·exact .inr ⟨fun i hi=>Classical.not_not.1 (hp i hi),lp⟩
end Sh
namespace Sh
open Go
def kc (s:Scn):Prop:=(s.tool = -1/\s.at_=0)\/(0<=s.tool/\s.tool<=59)/\(0<=s.at_/\s.at_<=1000000)
instance (s:Scn):Decidable (kc s):=by unfold kc; infer_instance
def bX (p:Pl) (s:Scn):Prop:=fD p s/\kc s
theorem ug (p:Pl) (s:Scn):(∀i,i<p.stages.length->okI p s i=true)↔(∀i,i<p.stages.length->(p.stages[i]!.mn<=s.durs[i]!/\s.durs[i]!<=p.stages[i]!.mx)/\(p.lo<=s.moves[i]!/\s.moves[i]!<=p.hi)):=by
 constructor
 ·intro h i hi
  have:=h i hi
  unfold okI Ew at this
  rw [Bool.and_eq_true,decide_eq_true_iff,decide_eq_true_iff] at this
  exact this
 ·intro h i hi
  unfold okI Ew
  rw [Bool.and_eq_true,decide_eq_true_iff,decide_eq_true_iff]
  exact h i hi
def M37:aN:=fun args=>evP (ac GS uM) 50 wd 1 args
theorem E8:ak Tryz.prog GS 37 M37:=ak.of_ev (E:=ac GS uM) (ai (ag (au.of_pure rD 4) (ag (au.of_pure nR 4) (ag (au.of_pure ET 4) an)))) rfl at37 Im 1 fun _ _ h=>⟨50,h⟩
theorem IT (p:Pl) (s:Scn) {a b d m:AV} (ha:SlA 6 (p.stages.map aI) a) (hb:SlA 3 (p.wins.map bi) b) (hd:SlA 1 (s.durs.map (.int .i64)) d) (hm:SlA 1 (s.moves.map (.int .i64)) m):∃v:Bool,M37 [ax p a b,bM d m s]=some (.bool v)/\(v=true↔bX p s):=by
 obtain ⟨v1,h1,i1⟩:=sk p ha hb
 have fa:∀A n,frz A n a=a:=fun A n=>ha.frz n
 have fb:∀A n,frz A n b=b:=fun A n=>hb.frz n
 have la:=ha.len
 have ld:=hd.len
 have lm:=hm.len
 rw [List.length_map] at la ld lm
 have n1:=uX (s.durs.length:Int) (p.stages.length:Int)
 have n2:=uX (s.moves.length:Int) (p.stages.length:Int)
 have m1:=eU s.detour p.lo p.hi
 unfold M37
 rw [aZ _ _ rfl]
 cases v1 with
 | false=>
  refine ⟨false,?_,fun h=>(by cases h),fun h=>absurd (i1.2 h.1.1) (by decide)⟩
  unfold ax at h1 ⊢
  simp [wd,bM,h1,fa,fb]
 | true=>
  have hv:=i1.1 rfl
  by_cases h2:s.durs.length=p.stages.length
  ·rw [decide_eq_true (by omega)] at n1
   by_cases h3:s.moves.length=p.stages.length
   ·rw [decide_eq_true (by omega)] at n2
    by_cases h4:p.lo<=s.detour/\s.detour<=p.hi
    ·rw [decide_eq_true h4] at m1
     rcases GJ p s (b:=b) (by have:=hv.2.2.2.1; omega) ha hd hm h2 h3 with ⟨i,B,hi,hf,lp⟩ | ⟨hall,lp⟩
     ·refine ⟨false,?_,fun h=>(by cases h),fun h=>?_⟩
      ·have lp:bI (evC (ac GS uM) 50 eN) ee 50 (fE (.ptr 0 0 0) (.ptr 1 0 0) a (.int .i64 (p.stages.length:Int)) (.int .i64 0)) [.row 5 false [ax p a b],.row 5 false [bM d m s]]=_:=lp
       rw [h2] at ld
       rw [h3] at lm
       rw [h2] at n1
       rw [h3] at n2
       unfold ax bM at *
       generalize (p.stages.length:Int)=N at *
       generalize (i:Int)=I at *
       simp [wd,h1,fa,fb,la,ld,lm,n1,m1,rZ lp,-aj,-ay]
      ·have:=(ug p s).2 h.1.2.2.2.2 i hi
       rw [hf] at this; cases this
     ·have lp:bI (evC (ac GS uM) 50 eN) ee 50 (fE (.ptr 0 0 0) (.ptr 1 0 0) a (.int .i64 (p.stages.length:Int)) (.int .i64 0)) [.row 5 false [ax p a b],.row 5 false [bM d m s]]=_:=lp
      have hpos:fD p s:=⟨hv,h2,h3,h4,(ug p s).1 hall⟩
      obtain ⟨G,hG⟩:∃G:aa,G=(p.stages.take p.stages.length).map fun x=>Ent.row 6 false [aI x]:=⟨_,rfl⟩
      have ear:vE p s a b d m p.stages.length=.row 5 false [ax p a b] :: .row 5 false [bM d m s] :: G:=by rw [hG]; rfl
      rw [ear] at lp
      have q1:=eU s.tool 0 59
      have q2:=eU s.at_ 0 1000000
      have q0:=IM
      rw [h2] at ld
      rw [h3] at lm
      rw [h2] at n1
      rw [h3] at n2
      have eq0:eD false [(0,1),(1,1)] (.agg [.int .i64 s.tool,.int .i64 s.at_]) (.agg [.int .i64 (-1),.int .i64 0])=some (.bool (decide (s.tool = -1/\s.at_=0))):=by
       simp [eD,ot,eqK]
      refine ⟨decide (kc s),?_,by rw [decide_eq_true_iff]; exact ⟨fun h=>⟨hpos,h⟩,fun h=>h.2⟩⟩
      have key:decide (kc s)=(decide (s.tool = -1/\s.at_=0) || (decide (0<=s.tool/\s.tool<=59) && decide (0<=s.at_/\s.at_<=1000000))):=by
       rw [Bool.eq_iff_iff,decide_eq_true_iff,Bool.or_eq_true,Bool.and_eq_true,decide_eq_true_iff,decide_eq_true_iff,decide_eq_true_iff]
       exact Iff.rfl
      rw [key]
      clear key hpos hall i1 ear hG
      unfold ax bM at *
      generalize decide (s.tool = -1/\s.at_=0)=z0 at *
      generalize decide (0<=s.tool/\s.tool<=59)=z1 at *
      generalize decide (0<=s.at_/\s.at_<=1000000)=z2 at *
      generalize (p.stages.length:Int)=N at *
      cases z0 with
      | true=>simp [wd,h1,fa,fb,la,ld,lm,n1,m1,rZ lp,q0,eq0,-aj,-ay,-eD]
      | false=>
       cases z1 with
       | false=>simp [wd,h1,fa,fb,la,ld,lm,n1,m1,rZ lp,q0,q1,eq0,-aj,-ay,-eD]
       | true=>simp [wd,h1,fa,fb,la,ld,lm,n1,m1,rZ lp,q0,q1,q2,eq0,-aj,-ay,-eD]
    ·refine ⟨false,?_,fun h=>(by cases h),fun h=>absurd h.1.2.2.2.1 h4⟩
     rw [decide_eq_false h4] at m1
     rw [h2] at ld n1
     rw [h3] at lm n2
     unfold ax bM at *
     generalize (p.stages.length:Int)=N at *
     simp [wd,h1,fa,fb,la,ld,lm,n1,m1,-aj,-ay]
   ·refine ⟨false,?_,fun h=>(by cases h),fun h=>absurd h.1.2.2.1 h3⟩
    rw [decide_eq_false (by omega)] at n2
    rw [h2] at ld n1
    unfold ax bM at *
    generalize (p.stages.length:Int)=N at *
    generalize (s.moves.length:Int)=K at *
    simp [wd,h1,fa,fb,la,ld,lm,n1,n2,-aj,-ay]
  ·refine ⟨false,?_,fun h=>(by cases h),fun h=>absurd h.1.2.1 h2⟩
   rw [decide_eq_false (by omega)] at n1
   unfold ax bM at *
   generalize (p.stages.length:Int)=N at *
   generalize (s.durs.length:Int)=K at *
   simp [wd,h1,fa,fb,la,ld,n1,-aj,-ay]
end Sh
namespace Sh
open Go
def Fr (A B:aa) (l:List Nat):Prop:=A.length<=B.length/\∀j,j<A.length->j ∉ l->B[j]?=A[j]?
theorem Fr.refl (A:aa) (l:List Nat):Fr A A l:=⟨Nat.le_refl _,fun _ _ _=>rfl⟩
theorem Fr.app (A X:aa) (l:List Nat):Fr A (A++X) l:=⟨by simp,fun j hj _=>List.getElem?_append_left hj⟩
theorem Fr.set (A:aa) (i:Nat) (e:Ent):Fr A (A.set i e) [i]:=⟨by simp,fun j _ h=>List.getElem?_set_ne (fun e=>h (by simp [e]))⟩
theorem Fr.trans {A B C:aa} {l m n:List Nat} (h:Fr A B l) (k:Fr B C m) (hl:∀j∈l,j∈n) (hm:∀j,j<A.length->j∈m->j∈n):Fr A C n:=
 ⟨Nat.le_trans h.1 k.1,fun j hj hn=>(k.2 j (Nat.lt_of_lt_of_le hj h.1) fun hm'=>hn (hm j hj hm')).trans (h.2 j hj fun hl'=>hn (hl j hl'))⟩
theorem Fr.mono {A B:aa} {l m:List Nat} (h:Fr A B l) (hl:∀j,j<A.length->j∈l->j∈m):Fr A B m:=⟨h.1,fun j hj hn=>h.2 j hj fun k=>hn (hl j hj k)⟩
theorem Fr.at {A B:aa} {l:List Nat} (h:Fr A B l) {j:Nat} {e:Ent} (hj:A[j]?=some e) (hn:j ∉ l):B[j]?=some e:=(h.2 j (List.getElem?_eq_some_iff.1 hj).1 hn).trans hj
def bY (A:aa) (o:AV) (esz:Nat) (es:List AV):Prop:=(o=.nilS/\es=[])\/(es≠[]/\∃id,o=.sl id 0 es.length/\A[id]?=some (.row esz false es))
theorem bY.fr {A B:aa} {l:List Nat} {o:AV} {esz:Nat} {es:List AV} (h:bY A o esz es) (hf:Fr A B l) (hn:∀id∈aC o,id ∉ l):bY B o esz es:=by
 rcases h with h | ⟨h1,id,rfl,h2⟩
 ·exact .inl h
 ·exact .inr ⟨h1,id,rfl,hf.at h2 (hn id (by simp [aC]))⟩
theorem bY.low {A:aa} {o:AV} {esz:Nat} {es:List AV} (h:bY A o esz es):∀id∈aC o,id<A.length:=by
 rcases h with ⟨rfl,_⟩ | ⟨_,id,rfl,h2⟩
 ·intro id h; cases h
 ·intro k hk
  simp [aC] at hk
  subst hk
  exact (List.getElem?_eq_some_iff.1 h2).1
theorem bY.append {A:aa} {o:AV} {esz bytes:Nat} {es:List AV} (h:bY A o esz es) (x:AV) (he:0<esz) (hb:0<bytes) (hs:(es.length+1)*bytes<=140737488355328) :
  ∃B,aV esz bytes A o (.fs esz [x])=some (.sl A.length 0 (es.length+1),B)/\bY B (.sl A.length 0 (es.length+1)) esz (es++[x])/\Fr A B (aC o)/\B.length=A.length+1:=by
 rcases h with ⟨rfl,rfl⟩ | ⟨h1,id,rfl,h2⟩
 ·refine ⟨A++[.row esz false [x]],?_,.inr ⟨by simp,A.length,rfl,by simp⟩,Fr.app _ _ _,by simp⟩
  simp only [List.length_nil,Nat.zero_add,Nat.one_mul] at hs
  simp [aV,he,hb,hs]
 ·refine ⟨A.set id .dead++[.row esz false (es++[x])],?_,.inr ⟨by simp,A.length,by simp,by simp⟩,(Fr.set A id .dead).trans (Fr.app _ _ []) (by simp [aC]) (by simp),by simp⟩
  simp [aV,h2,he,hb,hs]
theorem bY.frz {A:aa} {o:AV} {esz:Nat} {es:List AV} (h:bY A o esz es) (n:Nat) (hn:∀x∈es,frz A n x=x):frz A (n+1) o=slA esz es:=by
 rcases h with ⟨rfl,rfl⟩ | ⟨h1,id,rfl,h2⟩
 ·rfl
 ·have e:es.map (Go.Proofs.YtfkcoekicjjndaaGreat.frz A n)=es:=by
   conv=>rhs; rw [<-List.map_id es]
   exact List.map_congr_left hn
  cases es with
  | nil=>exact absurd rfl h1
  | cons x r=>simp only [Go.Proofs.YtfkcoekicjjndaaGreat.frz,h2,List.drop_zero,List.take_length,e,slA]
def ip (v:Vis):AV:=.agg [.int .i64 v.step,.int .i64 v.tool,.int .i64 v.start,.int .i64 v.fin]
theorem EQ {A:aa} {o:AV} {out:List Vis} (h:bY A o 4 (out.map ip)) {f:Nat} (hf:f<out.length):∃id,o=.sl id 0 out.length/\A[id]?=some (.row 4 false (out.map ip)):=by
 rcases h with ⟨_,h2⟩ | ⟨_,id,h1,h2⟩
 ·have:out=[]:=by simpa using h2
  subst this; simp at hf
 ·rw [List.length_map] at h1
  exact ⟨id,h1,h2⟩
def mZ:List (FuncId × aB):=[(37,aK 4 M37),(38,aK 4 M38)]
@[simp] theorem Md:aR mZ 37=some (aK 4 M37):=rfl
@[simp] theorem Mc:aR mZ 38=some (aK 4 M38):=rfl
def np (out:List Vis) (i:Nat) (start:Int) (w:Win):Bool:=decide (w.t=(i:Int)/\start-(out[w.f.toNat]!).fin > w.l)
def m9 (ws:List Win):aa:=ws.map fun w=>.row 3 false [bi w]
def dG (k n:Int):Ent:=.row 2 false [.agg [.int .i64 k,.int .i64 n]]
theorem wX (fuel:Nat) {A:aa} {out:List Vis} {o b:AV} {i k sb:Nat} {ws:List Win} {w:Win} {tool start k0 n0:Int} (v2 v3 v5 v9 v17 v18 v19:AV) (ho:bY A o 4 (out.map ip)) (hs:A[sb]?=some (.row 2 false [.agg [.int .i64 tool,.int .i64 start]])) (h3:A[3]?=some (dG k0 n0)) (hl:ws.length<=40)
  (hb:SlA 3 (ws.map bi) b) (hk:ws[k]?=some w) (hw:w.t=(i:Int)->0<=w.f/\w.f<out.length/\inI (start-(out[w.f.toNat]!).fin)) :
  ∃o',run (ac GS mZ) fuel [.code fH] (i5 v2 v3 v5 o (.ptr 3 0 0) v9 (.int .i64 (i:Int)) (.ptr sb 0 0) v17 v18 v19 b (.int .i64 (ws.length:Int)) (.int .i64 (k:Int))) A=some o' /\
   (np out i start w=false->o'=.normal (i5 v2 v3 v5 o (.ptr 3 0 0) v9 (.int .i64 (i:Int)) (.ptr sb 0 0) v17 v18 v19 b (.int .i64 (ws.length:Int)) (.int .i64 ((k+1:Nat):Int))) (A++[.row 3 false [bi w]])) /\
   (np out i start w=true->o'=.exit 0 [.undef,.undef,v2,v3,.undef,v5,.undef,o,.ptr 3 0 0,v9,.int .i64 (i:Int),.undef,.ptr sb 0 0,.undef,.int .i64 (k:Int),.ptr A.length 0 0,.undef,v17,v18,v19,.undef,.undef,b,.int .i64 (ws.length:Int),.int .i64 (k:Int),.bool true,.bool true] ((A++[Ent.row 3 false [bi w]]).set 3 (dG 2 k))):=by
 have hkl:k<ws.length:=(List.getElem?_eq_some_iff.1 hk).1
 have x1:∀A,ae 3 A b (.int .i64 (k:Int))=some (.fp [.int .i64 w.f,.int .i64 w.t,.int .i64 w.l]):=fun A=>hb.index (A:=A) (x:=bi w) (by simp [hk]) rfl (by simp) .i64
 have b1:=bK k ws.length .i64
 rw [decide_eq_true hkl] at b1
 have b3:=aY k (by omega)
 have c1:=mK w.t (i:Int)
 have sl:sb<A.length:=(List.getElem?_eq_some_iff.1 hs).1
 have l3:3<A.length:=(List.getElem?_eq_some_iff.1 h3).1
 have gs:(A++[Ent.row 3 false [bi w]])[sb]?=some (.row 2 false [.agg [.int .i64 tool,.int .i64 start]]):=by rw [List.getElem?_append_left sl]; exact hs
 have g3:(A++[Ent.row 3 false [bi w]])[3]?=some (dG k0 n0):=by rw [List.getElem?_append_left l3]; exact h3
 by_cases h1:w.t=(i:Int)
 ·obtain ⟨w1,w2,w3⟩:=hw h1
  obtain ⟨f,hf⟩:∃f:Nat,w.f=(f:Int):=⟨w.f.toNat,by omega⟩
  rw [hf] at w1 w2 w3
  rw [Int.toNat_natCast] at w3
  have w2':f<out.length:=by omega
  obtain ⟨id,rfl,hid⟩:=EQ ho w2'
  have idl:id<A.length:=(List.getElem?_eq_some_iff.1 hid).1
  have gid:(A++[Ent.row 3 false [bi w]])[id]?=some (.row 4 false (out.map ip)):=by rw [List.getElem?_append_left idl]; exact hid
  have hv':out[f]?=some out[f]!:=get!_some w2'
  generalize hV:out[f]! = V at *
  have x2:ae 4 (A++[Ent.row 3 false [bi w]]) (.sl id 0 out.length) (.int .i64 (f:Int))=some (.ptr id f 0):=by
   simp only [ae,gid]
   rw [if_pos ⟨trivial,by omega,by omega,by omega⟩]
   simp
  have s1:=pX (x:=start) (y:=V.fin) w3
  have g1:=iS (start-V.fin) w.l
  have hlate:np out i start w=decide (w.l<start-V.fin):=by
   unfold np
   rw [hf,Int.toNat_natCast,hV]
   simp [h1]
  rw [hlate]
  rw [decide_eq_true h1] at c1
  have ebox:bi w=.agg [.int .i64 (f:Int),.int .i64 w.t,.int .i64 w.l]:=by unfold bi; rw [hf]
  simp only [ebox] at gs g3 gid x2 ⊢
  rw [hf] at x1
  generalize (start-V.fin)=z at *
  generalize ((k+1:Nat):Int)=K1 at *
  unfold dG at g3 ⊢
  generalize hN:(ws.length:Int)=N at *
  generalize hK:(k:Int)=K at *
  generalize hF:(f:Int)=F at *
  generalize hI:(i:Int)=I at *
  clear hw hb hk hid hs h3 ho
  by_cases h2:w.l<z
  ·rw [decide_eq_true h2] at g1 ⊢
   refine ⟨_,?_,fun h=>(by cases h),fun _=>rfl⟩
   simp [fH,x1,x2,b1,c1,s1,g1,gs,gid,g3,hv',ip,-aj,-ae]
  ·rw [decide_eq_false h2] at g1 ⊢
   refine ⟨_,?_,fun _=>rfl,fun h=>(by cases h)⟩
   simp [fH,x1,x2,b1,b3,c1,s1,g1,gs,gid,hv',ip,-aj,-ae]
 ·have hlate:np out i start w=false:=by unfold np; simp [h1]
  rw [decide_eq_false h1] at c1
  refine ⟨_,?_,fun _=>rfl,fun h=>by rw [hlate] at h; cases h⟩
  unfold bi
  generalize ((k+1:Nat):Int)=K1 at *
  generalize (ws.length:Int)=N at *
  generalize (k:Int)=K at *
  generalize (i:Int)=I at *
  simp [fH,x1,b1,b3,c1,-aj,-ae]
end Sh
namespace Sh
open Go
def Lq:MC:=.region [⟨none,.mv (.var 19),none⟩,⟨none,.indexSl 6 (.var 17) (.var 19),none⟩,⟨none,.load true 6 (.tmp 1),none⟩,⟨some 11,.alloc 6 (.agg [.int .i64 0,.int .i64 0,.int .i64 0,.int .i64 0,.int .i64 0,.int .i64 0]),none⟩,⟨some 10,.mv (.tmp 0),none⟩,⟨none,.store 6 (.var 11) (.tmp 2),none⟩]
def Lp:MC:=.regionD [38] [⟨none,.load true 6 (.var 11),none⟩,⟨none,.load true 5 (.var 3),none⟩,⟨none,.mv (.var 9),none⟩,⟨none,.fieldAddr 1 (.var 3),none⟩,⟨none,.load false 1 (.tmp 3),none⟩,⟨none,.mv (.var 10),none⟩,⟨none,.indexSl 1 (.tmp 4) (.tmp 5),none⟩,⟨none,.load false 1 (.tmp 6),none⟩,⟨none,.fieldAddr 0 (.var 3),none⟩,⟨none,.load false 1 (.tmp 8),none⟩,⟨none,.mv (.var 10),none⟩,⟨none,.indexSl 1 (.tmp 9) (.tmp 10),none⟩,⟨none,.load false 1 (.tmp 11),none⟩,⟨none,.call (.fn 38) [.tmp 0,.tmp 1,.tmp 2,.tmp 7,.tmp 12],none⟩,⟨none,.mv (.tmp 13),none⟩,⟨none,.extract (.tmp 14) 0,none⟩,⟨none,.extract (.tmp 14) 1,none⟩,⟨some 12,.alloc 2 (.agg [.int .i64 0,.int .i64 0]),none⟩,⟨none,.store 2 (.var 12) (.tmp 15),none⟩,⟨some 13,.mv (.tmp 16),none⟩] [(0,17),(1,17),(3,17),(4,17),(6,17),(7,17),(8,17),(9,17),(11,17),(12,17),(13,17)]
def Lo:MC:=.region [⟨none,.fieldAddr 1 (.var 12),none⟩,⟨none,.load false 1 (.tmp 0),none⟩,⟨none,.fieldAddr 0 (.var 3),none⟩,⟨none,.load false 1 (.tmp 2),none⟩,⟨none,.mv (.var 10),none⟩,⟨none,.indexSl 1 (.tmp 3) (.tmp 4),none⟩,⟨none,.load false 1 (.tmp 5),none⟩,⟨none,.bin .add (.tmp 1) (.tmp 6),none⟩,⟨some 9,.mv (.tmp 7),none⟩]
def Ln:MC:=.region [⟨none,.mv (.var 7),none⟩,⟨none,.mv (.var 10),none⟩,⟨none,.fieldAddr 0 (.var 12),none⟩,⟨none,.load false 1 (.tmp 2),none⟩,⟨none,.fieldAddr 1 (.var 12),none⟩,⟨none,.load false 1 (.tmp 4),none⟩,⟨none,.mv (.var 9),none⟩,⟨none,.build [.int .i64 0,.int .i64 0,.int .i64 0,.int .i64 0] [(0,(1,.tmp 1)),(1,(1,.tmp 3)),(2,(1,.tmp 5)),(3,(1,.tmp 6))],none⟩,⟨none,.buildF 4 [.tmp 7],none⟩,⟨none,.appendN 4 32 (.tmp 0) (.tmp 8),none⟩,⟨some 7,.mv (.tmp 9),none⟩]
def Lm:MC:=.region [⟨none,.fieldAddr 4 (.var 2),none⟩,⟨some 22,.load false 1 (.tmp 0),none⟩,⟨some 23,.lenSl (.var 22),none⟩,⟨some 24,.mv (.cst (.int .i64 0)),none⟩]
theorem jX:jt=.seq (.region [⟨some 20,.bin .lss (.var 19) (.var 18),none⟩]) (.seq (.cond (.var 20) .skip (.exit 0)) (.seq (.seq (.block 1 (.seq Lq (.seq Lp (.seq (.seq (.region [⟨none,.mv (.var 13),none⟩,⟨some 21,.un .not (.tmp 0),none⟩]) (.cond (.var 21) (.seq (.region [⟨none,.mv (.var 10),none⟩,⟨none,.build [.int .i64 0,.int .i64 0] [(0,(1,.cst (.int .i64 1))),(1,(1,.tmp 0))],none⟩,⟨none,.store 2 (.var 8) (.tmp 1),none⟩]) (.exit 0)) .skip)) (.seq Lo (.seq Ln (.seq Lm (.seq (.block 2 (.loop [0,1,4,6,11,13,14,15,16,20,21,25,26] fH)) (.kill [0,1,4,6,10,11,12,13,14,15,16,20,21,22,23,24,25,26]))))))))) (.kill [0,1,4,6,10,11,12,13,14,15,16,20,21,22,23,24,25,26])) (.region [⟨none,.bin .add (.var 19) (.cst (.int .i64 1)),none⟩,⟨some 19,.mv (.tmp 0),none⟩]))):=rfl
theorem N8 (i a b:Nat):aC (.ptr i a b)=[i]:=rfl
theorem idsF (cs:List AV):aC (.fp cs)=[]:=rfl
section
variable {fuel:Nat} {K:List KC} {A:aa}
theorem FK {p:Pl} {a:AV} {i:Nat} {x:Stg} (v2 v3 v5 v7 v8 v9 v18 v20:AV) (ha:SlA 6 (p.stages.map aI) a) (hx:p.stages[i]?=some x) :
  run (ac GS mZ) fuel (.code Lq :: K) [.undef,.undef,v2,v3,.undef,v5,.undef,v7,v8,v9,.undef,.undef,.undef,.undef,.undef,.undef,.undef,a,v18,.int .i64 (i:Int),v20,.undef,.undef,.undef,.undef,.undef,.undef] A =
   run (ac GS mZ) fuel K [.undef,.undef,v2,v3,.undef,v5,.undef,v7,v8,v9,.int .i64 (i:Int),.ptr A.length 0 0,.undef,.undef,.undef,.undef,.undef,a,v18,.int .i64 (i:Int),v20,.undef,.undef,.undef,.undef,.undef,.undef] (A++[.row 6 false [aI x]]):=by
 have x1:∀A,ae 6 A a (.int .i64 (i:Int))=some (.fp [.int .i64 x.mn,.int .i64 x.mx,.int .i64 x.mt,.int .i64 x.ms,.int .i64 x.st,.int .i64 x.ss]):=fun A=>ha.index (A:=A) (x:=aI x) (by simp [hx]) rfl (by simp) .i64
 generalize (i:Int)=I at *
 simp [Lq,x1,aI,-ae]
theorem FJ {s:Scn} {d m:AV} {i xb:Nat} {x:Stg} {t mo du:Int} (v2 v5 v7 v8 v17 v18 v19 v20:AV) (h1:A[1]?=some (.row 5 false [bM d m s])) (hb:A[xb]?=some (.row 6 false [aI x]))
  (hd:SlA 1 (s.durs.map (.int .i64)) d) (hdu:s.durs[i]?=some du) (hm:SlA 1 (s.moves.map (.int .i64)) m) (hmo:s.moves[i]?=some mo)
  (b1:Bd x.ms) (b2:Bd t) (b3:Bd mo) (b4:Bd du) (b5:Bd s.at_) (b6:Bd s.detour) :
  run (ac GS mZ) fuel (.code Lp :: K) [.undef,.undef,v2,.ptr 1 0 0,.undef,v5,.undef,v7,v8,.int .i64 t,.int .i64 (i:Int),.ptr xb 0 0,.undef,.undef,.undef,.undef,.undef,v17,v18,v19,v20,.undef,.undef,.undef,.undef,.undef,.undef] A =
   run (ac GS mZ) fuel K [.undef,.undef,v2,.ptr 1 0 0,.undef,v5,.undef,v7,v8,.int .i64 t,.int .i64 (i:Int),.ptr xb 0 0,.ptr A.length 0 0,.bool (aW x s t mo du).2.2,.undef,.undef,.undef,v17,v18,v19,v20,.undef,.undef,.undef,.undef,.undef,.undef] (A++[.row 2 false [.agg [.int .i64 (aW x s t mo du).1,.int .i64 (aW x s t mo du).2.1]]]):=by
 have x2:∀A,ae 1 A d (.int .i64 (i:Int))=some (.fp [.int .i64 du]):=fun A=>SlA.int (A:=A) s.durs .i64 hd hdu .i64
 have x3:∀A,ae 1 A m (.int .i64 (i:Int))=some (.fp [.int .i64 mo]):=fun A=>SlA.int (A:=A) s.moves .i64 hm hmo .i64
 have e:=IS (x:=x) (s:=s) d m b1 b2 b3 b4 b5 b6
 have fd:∀A n,frz A n d=d:=fun A n=>hd.frz n
 have fm:∀A n,frz A n m=m:=fun A n=>hm.frz n
 have nd:∀n,br n d=true:=fun n=>by cases n <;> rcases hd with ⟨rfl,_⟩ | rfl <;> rfl
 have nm:∀n,br n m=true:=fun n=>by cases n <;> rcases hm with ⟨rfl,_⟩ | rfl <;> rfl
 have id:aC d=[]:=by rcases hd with ⟨rfl,_⟩ | rfl <;> rfl
 have im:aC m=[]:=by rcases hm with ⟨rfl,_⟩ | rfl <;> rfl
 have l1:¬ 1=A.length:=by have:=(List.getElem?_eq_some_iff.1 h1).1; omega
 have lb:¬ xb=A.length:=by have:=(List.getElem?_eq_some_iff.1 hb).1; omega
 generalize aW x s t mo du=r at *
 generalize (i:Int)=I at *
 unfold aI bM at *
 simp [Lp,h1,hb,x2,x3,e,fd,fm,nd,nm,id,im,l1,lb,N8,idsF,-ae,-aC]
theorem FI {s:Scn} {d m:AV} {i sb:Nat} {tool start du:Int} (v2 v5 v7 v8 v9 v11 v13 v17 v18 v19 v20 v21:AV) (h1:A[1]?=some (.row 5 false [bM d m s])) (hb:A[sb]?=some (.row 2 false [.agg [.int .i64 tool,.int .i64 start]]))
  (hd:SlA 1 (s.durs.map (.int .i64)) d) (hdu:s.durs[i]?=some du) (hi:inI (start+du)) :
  run (ac GS mZ) fuel (.code Lo :: K) [.undef,.undef,v2,.ptr 1 0 0,.undef,v5,.undef,v7,v8,v9,.int .i64 (i:Int),v11,.ptr sb 0 0,v13,.undef,.undef,.undef,v17,v18,v19,v20,v21,.undef,.undef,.undef,.undef,.undef] A =
   run (ac GS mZ) fuel K [.undef,.undef,v2,.ptr 1 0 0,.undef,v5,.undef,v7,v8,.int .i64 (start+du),.int .i64 (i:Int),v11,.ptr sb 0 0,v13,.undef,.undef,.undef,v17,v18,v19,v20,v21,.undef,.undef,.undef,.undef,.undef] A:=by
 have x2:∀A,ae 1 A d (.int .i64 (i:Int))=some (.fp [.int .i64 du]):=fun A=>SlA.int (A:=A) s.durs .i64 hd hdu .i64
 have ad:=dX hi
 generalize start+du=z at *
 generalize (i:Int)=I at *
 unfold bM at *
 simp [Lo,h1,hb,x2,ad,-ae,-aj]
theorem FH {B:aa} {i sb n:Nat} {o:AV} {tool start z:Int} (v2 v3 v5 v8 v11 v13 v17 v18 v19 v20 v21:AV) (hb:A[sb]?=some (.row 2 false [.agg [.int .i64 tool,.int .i64 start]]))
  (ho:aV 4 32 A o (.fs 4 [ip ⟨i,tool,start,z⟩])=some (.sl A.length 0 n,B)) :
  run (ac GS mZ) fuel (.code Ln :: K) [.undef,.undef,v2,v3,.undef,v5,.undef,o,v8,.int .i64 z,.int .i64 (i:Int),v11,.ptr sb 0 0,v13,.undef,.undef,.undef,v17,v18,v19,v20,v21,.undef,.undef,.undef,.undef,.undef] A =
   run (ac GS mZ) fuel K [.undef,.undef,v2,v3,.undef,v5,.undef,.sl A.length 0 n,v8,.int .i64 z,.int .i64 (i:Int),v11,.ptr sb 0 0,v13,.undef,.undef,.undef,v17,v18,v19,v20,v21,.undef,.undef,.undef,.undef,.undef] B:=by
 unfold ip at ho
 simp only at ho
 generalize (i:Int)=I at *
 simp [Ln,hb,ho]
theorem FG {p:Pl} {a b:AV} (v3 v5 v7 v8 v9 v10 v11 v12 v13 v17 v18 v19 v20 v21:AV) (h0:A[0]?=some (.row 5 false [ax p a b])) (hb:SlA 3 (p.wins.map bi) b) :
  run (ac GS mZ) fuel (.code Lm :: K) [.undef,.undef,.ptr 0 0 0,v3,.undef,v5,.undef,v7,v8,v9,v10,v11,v12,v13,.undef,.undef,.undef,v17,v18,v19,v20,v21,.undef,.undef,.undef,.undef,.undef] A =
   run (ac GS mZ) fuel K [.undef,.undef,.ptr 0 0 0,v3,.undef,v5,.undef,v7,v8,v9,v10,v11,v12,v13,.undef,.undef,.undef,v17,v18,v19,v20,v21,b,.int .i64 (p.wins.length:Int),.int .i64 0,.undef,.undef] A:=by
 have lb:=hb.len
 rw [List.length_map] at lb
 generalize (p.wins.length:Int)=N at *
 unfold ax at *
 simp [Lm,h0,lb,-ay]
end
end Sh
namespace Sh
open Go
theorem pN (ws:List Win) (out:List Vis) (i:Nat) (start:Int):iB ws out i start=ws.findIdx? (np out i start):=rfl
theorem qg {ws:List Win} {k:Nat} (hk:k<ws.length) (A:aa):A++m9 (ws.take (k+1))=A++m9 (ws.take k)++[.row 3 false [bi ws[k]]]:=by
 unfold m9
 rw [<-List.take_append_getElem hk,List.map_append,List.append_assoc]
 rfl
theorem Ch {A:aa} {out:List Vis} {o b:AV} {i sb:Nat} {ws:List Win} {tool start k0 n0:Int} (v2 v3 v5 v9 v17 v18 v19:AV) (ho:bY A o 4 (out.map ip)) (hs:A[sb]?=some (.row 2 false [.agg [.int .i64 tool,.int .i64 start]])) (h3:A[3]?=some (dG k0 n0)) (hl:ws.length<=40)
  (hb:SlA 3 (ws.map bi) b) (hw:∀w∈ws,w.t=(i:Int)->0<=w.f/\w.f<out.length/\inI (start-(out[w.f.toNat]!).fin)) :
  (iB ws out i start=none/\bI (evC (ac GS mZ) 50 fH) e8 50 (i5 v2 v3 v5 o (.ptr 3 0 0) v9 (.int .i64 (i:Int)) (.ptr sb 0 0) v17 v18 v19 b (.int .i64 (ws.length:Int)) (.int .i64 0)) A=some (.exit 2 ((i5 v2 v3 v5 o (.ptr 3 0 0) v9 (.int .i64 (i:Int)) (.ptr sb 0 0) v17 v18 v19 b (.int .i64 (ws.length:Int)) (.int .i64 (ws.length:Int))).set 25 (.bool false)) (A++m9 ws))) \/
  (∃k q,iB ws out i start=some k/\k<ws.length/\bI (evC (ac GS mZ) 50 fH) e8 50 (i5 v2 v3 v5 o (.ptr 3 0 0) v9 (.int .i64 (i:Int)) (.ptr sb 0 0) v17 v18 v19 b (.int .i64 (ws.length:Int)) (.int .i64 0)) A =
   some (.exit 0 [.undef,.undef,v2,v3,.undef,v5,.undef,o,.ptr 3 0 0,v9,.int .i64 (i:Int),.undef,.ptr sb 0 0,.undef,.int .i64 (k:Int),q,.undef,v17,v18,v19,.undef,.undef,b,.int .i64 (ws.length:Int),.int .i64 (k:Int),.bool true,.bool true] ((A++m9 (ws.take (k+1))).set 3 (dG 2 k)))):=by
 have rd:=fun k (hk:k<ws.length)=>wX 50 (A:=A++m9 (ws.take k)) (i:=i) (b:=b) (k0:=k0) (n0:=n0) (tool:=tool) (start:=start) (sb:=sb) (ws:=ws) (w:=ws[k]) v2 v3 v5 v9 v17 v18 v19
  (ho.fr (Fr.app A _ []) (fun _ _ h=>by cases h)) ((Fr.app A _ []).at hs (by simp)) ((Fr.app A _ []).at h3 (by simp)) hl hb (List.getElem?_eq_getElem hk) (hw _ (List.getElem_mem hk))
 rcases dk (E:=ac GS mZ) (fuel:=50) (a:=fH) (mask:=e8) (m:=50) (fun k=>i5 v2 v3 v5 o (.ptr 3 0 0) v9 (.int .i64 (i:Int)) (.ptr sb 0 0) v17 v18 v19 b (.int .i64 (ws.length:Int)) (.int .i64 (k:Int))) (fun k=>A++m9 (ws.take k)) ws.length (fun k=>∃h:k<ws.length,np out i start ws[k]=true)
  (oF:=fun k=>.exit 0 [.undef,.undef,v2,v3,.undef,v5,.undef,o,.ptr 3 0 0,v9,.int .i64 (i:Int),.undef,.ptr sb 0 0,.undef,.int .i64 (k:Int),.ptr (A++m9 (ws.take k)).length 0 0,.undef,v17,v18,v19,.undef,.undef,b,.int .i64 (ws.length:Int),.int .i64 (k:Int),.bool true,.bool true] ((A++m9 (ws.take (k+1))).set 3 (dG 2 k)))
  (oE:=.exit 2 ((i5 v2 v3 v5 o (.ptr 3 0 0) v9 (.int .i64 (i:Int)) (.ptr sb 0 0) v17 v18 v19 b (.int .i64 (ws.length:Int)) (.int .i64 (ws.length:Int))).set 25 (.bool false)) (A++m9 ws))
  (fun _=>y9) (fun _ _ _ h=>by cases h) (fun _ _ h=>by cases h)
  (fun k hk hp=>by
   obtain ⟨o',r1,r2,_⟩:=rd k hk
   rw [r2 (by cases h:np out i start ws[k] with | false=>rfl | true=>exact absurd ⟨hk,h⟩ hp)] at r1
   rw [qg hk]
   exact r1)
  (fun k hk hp=>by
   obtain ⟨o',r1,_,r3⟩:=rd k hk
   obtain ⟨_,hp⟩:=hp
   rw [r3 hp] at r1
   rw [qg hk]
   exact r1)
  (by
   rw [List.take_length]
   generalize A++m9 ws=A0
   simp [fH]) (by omega) with ⟨k,hk,hp,hj,lp⟩ | ⟨hp,lp⟩
 ·obtain ⟨hk,hp⟩:=hp
  refine .inr ⟨k,.ptr (A++m9 (ws.take k)).length 0 0,?_,hk,?_⟩
  ·rw [pN]
   exact List.findIdx?_eq_some_iff_getElem.2 ⟨hk,hp,fun j hjk=>by
    intro h
    exact hj j hjk ⟨by omega,h⟩⟩
  ·have e:A++m9 (ws.take 0)=A:=by simp [m9]
   simp only [e] at lp
   exact lp
 ·refine .inl ⟨?_,?_⟩
  ·rw [pN,List.findIdx?_eq_none_iff]
   intro w hwm
   obtain ⟨k,hk,rfl⟩:=List.mem_iff_getElem.1 hwm
   cases h:np out i start ws[k] with
   | false=>rfl
   | true=>exact absurd ⟨hk,h⟩ (hp k hk)
  ·have e:A++m9 (ws.take 0)=A:=by simp [m9]
   simp only [e] at lp
   exact lp
theorem ub (s:Scn) (ws:List Win) (i:Nat) (t:Int) (out:List Vis) (x:Stg) (r:List Stg):wa s ws i t out (x :: r) =
  if (aW x s t s.moves[i]! s.durs[i]!).2.2=false then (out,1,(i:Int))
  else match iB ws (out++[⟨i,(aW x s t s.moves[i]! s.durs[i]!).1,(aW x s t s.moves[i]! s.durs[i]!).2.1,(aW x s t s.moves[i]! s.durs[i]!).2.1+s.durs[i]!⟩]) i (aW x s t s.moves[i]! s.durs[i]!).2.1 with
   | some k=>(out++[⟨i,(aW x s t s.moves[i]! s.durs[i]!).1,(aW x s t s.moves[i]! s.durs[i]!).2.1,(aW x s t s.moves[i]! s.durs[i]!).2.1+s.durs[i]!⟩],2,(k:Int))
   | none=>wa s ws (i+1) ((aW x s t s.moves[i]! s.durs[i]!).2.1+s.durs[i]!) (out++[⟨i,(aW x s t s.moves[i]! s.durs[i]!).1,(aW x s t s.moves[i]! s.durs[i]!).2.1,(aW x s t s.moves[i]! s.durs[i]!).2.1+s.durs[i]!⟩]) r:=rfl
structure NX (p:Pl) (s:Scn) (a b d m:AV) (i:Nat) (t:Int) (out:List Vis) (o:AV) (A:aa):Prop where
 h0:A[0]?=some (.row 5 false [ax p a b])
 h1:A[1]?=some (.row 5 false [bM d m s])
 h2:A[2]?=some (dG 0 0)
 h3:A[3]?=some (dG 0 0)
 ho:bY A o 4 (out.map ip)
 hid:∀id∈aC o,4<=id
 len:out.length=i
 bt:Bd t
 bo:∀v∈out,Bd v.fin
def vW (R:List Vis × Int × Int) (o:Out):Prop:=∃ σ' B o',o=.exit 0 σ' B/\clear [0,1,2,3,4,6,9,10,11,12,13,14,15,16,17,18,19,20,21,22,23,24,25,26] σ'=[.undef,.undef,.undef,.undef,.undef,.ptr 2 0 0,.undef,o',.ptr 3 0 0,.undef,.undef,.undef,.undef,.undef,.undef,.undef,.undef,.undef,.undef,.undef,.undef,.undef,.undef,.undef,.undef,.undef,.undef] /\
 B[2]?=some (dG 0 0)/\B[3]?=some (dG R.2.1 R.2.2)/\bY B o' 4 (R.1.map ip)
theorem Bc {p:Pl} {s:Scn} {a b d m:AV} (ha:SlA 6 (p.stages.map aI) a) (hb:SlA 3 (p.wins.map bi) b) (hd:SlA 1 (s.durs.map (.int .i64)) d) (hm:SlA 1 (s.moves.map (.int .i64)) m) (hp:bX p s)
  {i:Nat} {t:Int} {out:List Vis} {o:AV} {A:aa} (hA:NX p s a b d m i t out o A) (hi:i<p.stages.length) :
  (∃t' out' o' B,run (ac GS mZ) 50 [.code jt] (kf (.ptr 0 0 0) (.ptr 1 0 0) (.ptr 2 0 0) o (.ptr 3 0 0) (.int .i64 t) a (.int .i64 (p.stages.length:Int)) (.int .i64 (i:Int))) A=some (.normal (kf (.ptr 0 0 0) (.ptr 1 0 0) (.ptr 2 0 0) o' (.ptr 3 0 0) (.int .i64 t') a (.int .i64 (p.stages.length:Int)) (.int .i64 ((i+1:Nat):Int))) B) /\
   NX p s a b d m (i+1) t' out' o' B/\wa s p.wins i t out (p.stages.drop i)=wa s p.wins (i+1) t' out' (p.stages.drop (i+1))) \/
  (∃o',run (ac GS mZ) 50 [.code jt] (kf (.ptr 0 0 0) (.ptr 1 0 0) (.ptr 2 0 0) o (.ptr 3 0 0) (.int .i64 t) a (.int .i64 (p.stages.length:Int)) (.int .i64 (i:Int))) A=some o'/\(∀ σ B,o'≠.normal σ B)/\vW (wa s p.wins i t out (p.stages.drop i)) o'):=by
 obtain ⟨⟨hv,d1,d2,hdt,hin⟩,hft⟩:=hp
 obtain ⟨v1,v2,v3,v4,v5,v6,v7,v8⟩:=hv
 obtain ⟨h0,h1,h2,h3,ho,hid,hlen,bt,bo⟩:=hA
 obtain ⟨x,hxe⟩:∃x,x=p.stages[i]!:=⟨_,rfl⟩
 have hx:p.stages[i]?=some x:=by rw [hxe]; exact get!_some hi
 have hxm:x∈p.stages:=List.mem_of_getElem? hx
 have hdrop:p.stages.drop i=x :: p.stages.drop (i+1):=by
  rw [List.drop_eq_getElem_cons hi]
  congr 1
  rw [List.getElem?_eq_getElem hi] at hx
  exact Option.some.inj hx
 have hdu:s.durs[i]?=some s.durs[i]!:=get!_some (by omega)
 have hmo:s.moves[i]?=some s.moves[i]!:=get!_some (by omega)
 obtain ⟨m1,m2⟩:=hin i hi
 rw [<-hxe] at m1
 obtain ⟨k1,k2,k3,k4,k5,k6,k7,k8⟩:=v6 x hxm
 rw [hdrop,ub]
 generalize s.durs[i]! = du at *
 generalize s.moves[i]! = mo at *
 have bat:Bd s.at_:=by unfold kc at hft; unfold Bd; omega
 have bdt:Bd s.detour:=by unfold Bd; omega
 have bms:Bd x.ms:=by unfold Bd; omega
 have bmo:Bd mo:=by unfold Bd; omega
 have bdu:Bd du:=by unfold Bd; omega
 have hr:(aW x s t mo du).2.1=x.ms\/(aW x s t mo du).2.1=x.ss:=by
  unfold aW
  split
  ·exact .inl rfl
  ·split
   ·exact .inr rfl
   ·split
    ·exact .inr rfl
    ·split
     ·exact .inl rfl
     ·exact .inr rfl
 have bst:0<=(aW x s t mo du).2.1/\(aW x s t mo du).2.1<=1000000:=by omega
 have la:4<=A.length:=by have:=(List.getElem?_eq_some_iff.1 h3).1; omega
 have F1:=Fr.app A [.row 6 false [aI x]] []
 obtain ⟨A1,hA1⟩:∃A1,A1=A++[.row 6 false [aI x]]:=⟨_,rfl⟩
 have ra:=fun K=>FK (fuel:=50) (K:=K) (A:=A) (.ptr 0 0 0) (.ptr 1 0 0) (.ptr 2 0 0) o (.ptr 3 0 0) (.int .i64 t) (.int .i64 (p.stages.length:Int)) (.bool true) ha hx
 rw [<-hA1] at F1
 simp only [<-hA1] at ra
 have hxb:A1[A.length]?=some (.row 6 false [aI x]):=by rw [hA1]; simp
 have rb:=fun K=>FJ (fuel:=50) (K:=K) (A:=A1) (.ptr 0 0 0) (.ptr 2 0 0) o (.ptr 3 0 0) a (.int .i64 (p.stages.length:Int)) (.int .i64 (i:Int)) (.bool true) (F1.at h1 (by simp)) hxb hd hdu hm hmo bms bt bmo bdu bat bdt
 have lA1:A1.length=A.length+1:=by rw [hA1]; simp
 generalize aW x s t mo du=r at *
 obtain ⟨A2,hA2⟩:∃A2,A2=A1++[.row 2 false [.agg [.int .i64 r.1,.int .i64 r.2.1]]]:=⟨_,rfl⟩
 have F2:=Fr.app A1 [.row 2 false [.agg [.int .i64 r.1,.int .i64 r.2.1]]] []
 rw [<-hA2] at F2
 simp only [<-hA2] at rb
 have hsb:A2[A1.length]?=some (.row 2 false [.agg [.int .i64 r.1,.int .i64 r.2.1]]):=by rw [hA2]; simp
 have lA2:A2.length=A1.length+1:=by rw [hA2]; simp
 have F12:Fr A A2 []:=F1.trans F2 (fun _ h=>h) (fun _ _ h=>h)
 have b1:=bK i p.stages.length .i64
 rw [decide_eq_true hi] at b1
 have b3:=aY i (by omega)
 have hidl:=ho.low
 have n0:0 ∉ aC o:=fun h=>by have:=hid _ h; omega
 have n1:1 ∉ aC o:=fun h=>by have:=hid _ h; omega
 have n2:2 ∉ aC o:=fun h=>by have:=hid _ h; omega
 have n3:3 ∉ aC o:=fun h=>by have:=hid _ h; omega
 cases hok:r.2.2 with
 | false=>
  rw [if_pos rfl]
  have q3:A2[3]?=some (dG 0 0):=F12.at h3 (by simp)
  refine .inr ⟨.exit 0 [.undef,.undef,.ptr 0 0 0,.ptr 1 0 0,.undef,.ptr 2 0 0,.undef,o,.ptr 3 0 0,.int .i64 t,.int .i64 (i:Int),.ptr A.length 0 0,.ptr A1.length 0 0,.bool false,.undef,.undef,.undef,a,.int .i64 (p.stages.length:Int),.int .i64 (i:Int),.bool true,.bool true,.undef,.undef,.undef,.undef,.undef] (A2.set 3 (dG 1 i)),?_,(fun _ _ h=>by cases h),_,_,o,rfl,by simp only [clear,List.foldl_cons,List.foldl_nil,List.set_cons_zero,List.set_cons_succ],?_,?_,?_⟩
  ·rw [jX]
   rw [hok] at rb
   unfold dG at q3 ⊢
   generalize (p.stages.length:Int)=N at *
   generalize (i:Int)=I at *
   simp [ra,rb,b1,q3,-aj]
  ·rw [List.getElem?_set_ne (by omega)]; exact F12.at h2 (by simp)
  ·rw [List.getElem?_set_self (by omega)]
  ·exact (ho.fr F12 (fun _ _ h=>by cases h)).fr (Fr.set A2 3 _) (fun id h=>by have:=hid id h; simp; omega)
 | true=>
  rw [if_neg (by decide)]
  rw [hok] at rb
  have bz:inI (r.2.1+du):=by unfold inI; omega
  have rc:=fun K=>FI (fuel:=50) (K:=K) (A:=A2) (i:=i) (tool:=r.1) (start:=r.2.1) (sb:=A1.length) (.ptr 0 0 0) (.ptr 2 0 0) o (.ptr 3 0 0) (.int .i64 t) (.ptr A.length 0 0) (.bool true) a (.int .i64 (p.stages.length:Int)) (.int .i64 (i:Int)) (.bool true) (.bool false) (F12.at h1 (by simp)) hsb hd hdu bz
  obtain ⟨z,hz⟩:∃z,z=r.2.1+du:=⟨_,rfl⟩
  rw [<-hz] at rc ⊢
  obtain ⟨v,hve⟩:∃v:Vis,v=⟨i,r.1,r.2.1,z⟩:=⟨_,rfl⟩
  rw [<-hve]
  obtain ⟨A3,ap,ho3,F3,l3⟩:=(ho.fr F12 (fun _ _ h=>by cases h)).append (bytes:=32) (ip v) (by omega) (by omega) (by rw [List.length_map]; omega)
  rw [List.length_map] at ap ho3
  have rd:=fun K=>FH (fuel:=50) (K:=K) (A:=A2) (i:=i) (tool:=r.1) (start:=r.2.1) (sb:=A1.length) (.ptr 0 0 0) (.ptr 1 0 0) (.ptr 2 0 0) (.ptr 3 0 0) (.ptr A.length 0 0) (.bool true) a (.int .i64 (p.stages.length:Int)) (.int .i64 (i:Int)) (.bool true) (.bool false) hsb (hve ▸ ap)
  have F:Fr A A3 (aC o):=F12.trans F3 (by simp) (fun _ _ h=>h)
  have re:=fun K=>FG (fuel:=50) (K:=K) (A:=A3) (.ptr 1 0 0) (.ptr 2 0 0) (.sl A2.length 0 (out.length+1)) (.ptr 3 0 0) (.int .i64 z) (.int .i64 (i:Int)) (.ptr A.length 0 0) (.ptr A1.length 0 0) (.bool true) a (.int .i64 (p.stages.length:Int)) (.int .i64 (i:Int)) (.bool true) (.bool false) (F.at h0 n0) hb
  have ho3':bY A3 (.sl A2.length 0 (out.length+1)) 4 ((out++[v]).map ip):=by rw [List.map_append]; exact ho3
  have bo':∀y∈out++[v],Bd y.fin:=fun y hy=>by
   rcases List.mem_append.1 hy with hy | hy
   ·exact bo y hy
   ·simp at hy; subst hy; rw [hve]; unfold Bd; simp only; omega
  have hw:∀w∈p.wins,w.t=(i:Int)->0<=w.f/\w.f<(out++[v]).length/\inI (r.2.1-((out++[v])[w.f.toNat]!).fin):=fun w hwm hwt=>by
   obtain ⟨w1,w2,w3,w4,w5⟩:=v7 w hwm
   have hl:w.f.toNat<(out++[v]).length:=by simp; omega
   refine ⟨w1,by simp; omega,?_⟩
   have:=bo' _ (List.mem_of_getElem? (get!_some hl))
   unfold Bd at this
   unfold inI
   omega
  have lp:=Ch (A:=A3) (o:=.sl A2.length 0 (out.length+1)) (i:=i) (sb:=A1.length) (tool:=r.1) (start:=r.2.1) (k0:=0) (n0:=0) (.ptr 0 0 0) (.ptr 1 0 0) (.ptr 2 0 0) (.int .i64 z) a (.int .i64 (p.stages.length:Int)) (.int .i64 (i:Int)) ho3' (F3.at hsb (fun h=>by have:=hidl _ h; omega)) (F.at h3 n3) (by omega) hb hw
  rcases lp with ⟨hwl,lp⟩ | ⟨k,q,hwl,hk,lp⟩
  ·rw [hwl]
   refine .inl ⟨z,out++[v],.sl A2.length 0 (out.length+1),A3++m9 p.wins,?_,⟨(Fr.app A3 _ []).at (F.at h0 n0) (by simp),(Fr.app A3 _ []).at (F.at h1 n1) (by simp),(Fr.app A3 _ []).at (F.at h2 n2) (by simp),(Fr.app A3 _ []).at (F.at h3 n3) (by simp),ho3'.fr (Fr.app A3 _ []) (fun _ _ h=>by cases h),fun id h=>by simp [aC] at h; omega,by simp [hlen],by unfold Bd; omega,bo'⟩,rfl⟩
   rw [jX]
   generalize A3++m9 p.wins=A4 at *
   generalize ((i+1:Nat):Int)=I1 at *
   generalize (p.stages.length:Int)=N at *
   generalize (i:Int)=I at *
   generalize (p.wins.length:Int)=W at *
   simp [ra,rb,rc,rd,re,b1,b3,yT lp,-aj]
  ·rw [hwl]
   have F4:Fr A (A3++m9 (p.wins.take (k+1))) (aC o):=F.trans (Fr.app A3 _ []) (fun _ h=>h) (by simp)
   have F5:=Fr.set (A3++m9 (p.wins.take (k+1))) 3 (dG 2 k)
   refine .inr ⟨.exit 0 [.undef,.undef,.ptr 0 0 0,.ptr 1 0 0,.undef,.ptr 2 0 0,.undef,.sl A2.length 0 (out.length+1),.ptr 3 0 0,.int .i64 z,.int .i64 (i:Int),.undef,.ptr A1.length 0 0,.undef,.int .i64 (k:Int),q,.undef,a,.int .i64 (p.stages.length:Int),.int .i64 (i:Int),.undef,.undef,b,.int .i64 (p.wins.length:Int),.int .i64 (k:Int),.bool true,.bool true] ((A3++m9 (p.wins.take (k+1))).set 3 (dG 2 k)),?_,(fun _ _ h=>by cases h),_,_,.sl A2.length 0 (out.length+1),rfl,by simp only [clear,List.foldl_cons,List.foldl_nil,List.set_cons_zero,List.set_cons_succ],?_,?_,?_⟩
   ·rw [jX]
    generalize (A3++m9 (p.wins.take (k+1))).set 3 (dG 2 k)=A4 at *
    generalize (p.stages.length:Int)=N at *
    generalize (i:Int)=I at *
    generalize (k:Int)=Kk at *
    generalize (p.wins.length:Int)=W at *
    simp [ra,rb,rc,rd,re,b1,yT lp,-aj]
   ·exact F5.at (F4.at h2 n2) (by simp)
   ·rw [List.getElem?_set_self (by have:=F4.1; omega)]
   ·exact (ho3'.fr (Fr.app A3 _ []) (fun _ _ h=>by cases h)).fr F5 (fun id h=>by simp [aC] at h; simp; omega)
end Sh
namespace Sh
open Go
theorem GN {p:Pl} {s:Scn} {a b d m:AV} (ha:SlA 6 (p.stages.map aI) a) (hb:SlA 3 (p.wins.map bi) b) (hd:SlA 1 (s.durs.map (.int .i64)) d) (hm:SlA 1 (s.moves.map (.int .i64)) m) (hp:bX p s) :
  ∃o,bI (evC (ac GS mZ) 50 jt) hU 50 (kf (.ptr 0 0 0) (.ptr 1 0 0) (.ptr 2 0 0) .nilS (.ptr 3 0 0) (.int .i64 p.e) a (.int .i64 (p.stages.length:Int)) (.int .i64 0)) [.row 5 false [ax p a b],.row 5 false [bM d m s],dG 0 0,dG 0 0]=some o/\vW (wN p s) o:=by
 have hn:=hp.1.1.2.2.2.1
 refine fk (E:=ac GS mZ) (fuel:=50) (a:=jt) (mask:=hU)
  (fun κ σ A=>∃i t out o,i+κ=p.stages.length/\σ=kf (.ptr 0 0 0) (.ptr 1 0 0) (.ptr 2 0 0) o (.ptr 3 0 0) (.int .i64 t) a (.int .i64 (p.stages.length:Int)) (.int .i64 (i:Int))/\NX p s a b d m i t out o A/\wa s p.wins i t out (p.stages.drop i)=wN p s)
  (vW (wN p s)) ?_ 50 p.stages.length _ _ (by omega) ⟨0,p.e,[],.nilS,by omega,rfl,⟨rfl,rfl,rfl,rfl,.inl ⟨rfl,rfl⟩,(fun id h=>by cases h),rfl,?_,(fun v h=>by cases h)⟩,rfl⟩
 ·rintro κ σ A ⟨i,t,out,o,hk,rfl,hA,hR⟩
  rw [y8]
  by_cases hi:i<p.stages.length
  ·rcases Bc ha hb hd hm hp hA hi with ⟨t',out',o',B,h1,h2,h3⟩ | ⟨o',h1,h2,h3⟩
   ·exact .inl ⟨_,B,h1,κ-1,by omega,i+1,t',out',o',by omega,rfl,h2,h3.symm.trans hR⟩
   ·rw [hR] at h3
    exact .inr ⟨o',h1,h2,h3⟩
  ·have e:p.stages.drop i=[]:=List.drop_eq_nil_iff.2 (by omega)
   rw [e] at hR
   have hR:(out,0,0)=wN p s:=hR
   obtain rfl:i=p.stages.length:=by omega
   refine .inr ⟨.exit 0 ((kf (.ptr 0 0 0) (.ptr 1 0 0) (.ptr 2 0 0) o (.ptr 3 0 0) (.int .i64 t) a (.int .i64 (p.stages.length:Int)) (.int .i64 (p.stages.length:Int))).set 20 (.bool false)) A,?_,(fun _ _ h=>by cases h),_,A,o,rfl,by simp only [clear,List.foldl_cons,List.foldl_nil,List.set_cons_zero,List.set_cons_succ],hA.h2,by rw [<-hR]; exact hA.h3,by rw [<-hR]; exact hA.ho⟩
   simp [jt]
 ·have:=hp.1.1.1
  unfold Bd; omega
def GQ (R:List Vis × Int × Int):AV:=.agg [.int .i64 R.2.1,.int .i64 R.2.2]
theorem bY.fresh {A:aa} {o:AV} {esz:Nat} {es:List AV} (h:bY A o esz es) (n:Nat) (hn:∀x∈es,bV A n x=true):bV A (n+1) o=true:=by
 rcases h with ⟨rfl,rfl⟩ | ⟨h1,id,rfl,h2⟩
 ·rfl
 ·simp only [bV,h2,List.drop_zero,List.take_length,List.all_eq_true]
  exact hn
def M12:aN:=fun args=>evF (ac GS mZ) 50 JT 4 args
theorem tV:bS Tryz.prog GS 12 M12:=bS.of_ev (E:=ac GS mZ) (ai (ag (au.of_pure E8 4) (ag (au.of_pure E7 4) an))) rfl at12 Iy 4 (fun _ _ h=>⟨50,h⟩) (aU.cons (M:=_) rfl aU.nil)
theorem vP (p:Pl) (s:Scn) {a b d m:AV} (ha:SlA 6 (p.stages.map aI) a) (hb:SlA 3 (p.wins.map bi) b) (hd:SlA 1 (s.durs.map (.int .i64)) d) (hm:SlA 1 (s.moves.map (.int .i64)) m) :
  (bX p s->M12 [ax p a b,bM d m s]=some (.tup [slA 4 ((wN p s).1.map ip),GQ (wN p s),.int .i64 0]))/\(¬ bX p s->M12 [ax p a b,bM d m s]=some (.tup [.nilS,.agg [.int .i64 0,.int .i64 0],.int .i64 80])):=by
 obtain ⟨v,h1,i1⟩:=IT p s ha hb hd hm
 have fa:∀A n,frz A n a=a:=fun A n=>ha.frz n
 have fb:∀A n,frz A n b=b:=fun A n=>hb.frz n
 have fd:∀A n,frz A n d=d:=fun A n=>hd.frz n
 have fm:∀A n,frz A n m=m:=fun A n=>hm.frz n
 have la:=ha.len
 rw [List.length_map] at la
 constructor
 ·intro hp
  obtain rfl:=i1.2 hp
  obtain ⟨o,lp,σ',B,o',rfl,hc,b2,b3,ho⟩:=GN ha hb hd hm hp
  unfold M12 GQ
  rw [j7 _ _ rfl]
  generalize wN p s=R at *
  generalize (p.stages.length:Int)=N at *
  have b2':(B.set 2 (dG R.2.1 R.2.2))[2]?=some (dG R.2.1 R.2.2):=List.getElem?_set_self (List.getElem?_eq_some_iff.1 b2).1
  have ho2:bY (B.set 2 (dG R.2.1 R.2.2)) o' 4 (R.1.map ip):=ho.fr (Fr.set B 2 _) (fun id hid h=>by
   simp at h
   subst h
   rcases ho with ⟨rfl,_⟩ | ⟨_,id,rfl,h2⟩
   ·simp [aC] at hid
   ·simp [aC] at hid
    subst hid
    rw [b2] at h2
    cases h2)
  have fo':frz (B.set 2 (dG R.2.1 R.2.2)) 3 o'=slA 4 (R.1.map ip):=ho2.frz 2 fun x hx=>by
   obtain ⟨v,_,rfl⟩:=List.mem_map.1 hx
   rfl
  have fr':bV (B.set 2 (dG R.2.1 R.2.2)) 3 o'=true:=ho2.fresh 2 fun x hx=>by
   obtain ⟨v,_,rfl⟩:=List.mem_map.1 hx
   rfl
  unfold dG at *
  unfold ax bM at *
  simp [JT,h1,fr',bV,fa,fb,fd,fm,la,G8 lp,hc,b2,b3,b2',fo',-aj,-ay,-clear]
 ·intro hp
  have:v=false:=by
   cases v with
   | false=>rfl
   | true=>exact absurd (i1.1 rfl) hp
  subst this
  unfold M12
  rw [j7 _ _ rfl]
  unfold ax bM at *
  simp [JT,h1,fa,fb,fd,fm,bV]
end Sh
open Go
def Gc:bL:=⟨2,6,.seq (.region [⟨some 2,.box (.var 1),none⟩,⟨some 3,.mv (.cst (.int .i64 0)),none⟩]) (.seq (.seq (.block 0 (.seq (.region [⟨none,.mv (.var 0),none⟩,⟨none,.eqNil 0 false (.tmp 0),none⟩,⟨some 4,.mv (.tmp 1),none⟩]) (.cond (.var 4) (.seq (.region [⟨some 3,.mv (.cst (.int .i64 1)),none⟩]) .ret) (.seq (.region [⟨none,.load true 4 (.var 2),none⟩,⟨none,.call (.fn 77) [.tmp 0],none⟩,⟨none,.un .not (.tmp 1),none⟩,⟨none,.mv (.tmp 2),none⟩,⟨none,.mv (.var 0),some (.tmp 3,false)⟩,⟨none,.fieldAddr 0 (.var 2),some (.tmp 3,false)⟩,⟨none,.load false 1 (.tmp 5),some (.tmp 3,false)⟩,⟨none,.fieldAddr 1 (.var 2),some (.tmp 3,false)⟩,⟨none,.load false 1 (.tmp 7),some (.tmp 3,false)⟩,⟨none,.fieldAddr 2 (.var 2),some (.tmp 3,false)⟩,⟨none,.load false 1 (.tmp 9),some (.tmp 3,false)⟩,⟨none,.call (.fn 78) [.tmp 4,.tmp 6,.tmp 8,.tmp 10],some (.tmp 3,false)⟩,⟨none,.pick (.tmp 3) (.cst (.bool true)) (.tmp 11),none⟩,⟨some 5,.mv (.tmp 12),none⟩]) (.cond (.var 5) (.seq (.region [⟨some 3,.mv (.cst (.int .i64 70)),none⟩]) .ret) .skip))))) (.kill [1,3,4,5])) (.seq (.regionD [] [⟨none,.mv (.var 0),none⟩,⟨none,.fieldAddr 0 (.var 2),none⟩,⟨none,.load false 1 (.tmp 1),none⟩,⟨none,.mv (.var 0),none⟩,⟨none,.fieldAddr 0 (.var 2),none⟩,⟨none,.load false 1 (.tmp 4),none⟩,⟨none,.nilCheck (.tmp 3),none⟩,⟨none,.fieldAddr 0 (.tmp 6),none⟩,⟨none,.indexArr 60 1 (.tmp 7) (.tmp 5),none⟩,⟨none,.load false 1 (.tmp 8),none⟩,⟨none,.load true 4 (.var 2),none⟩,⟨none,.call (.fn 79) [.tmp 9,.tmp 10,.fn 80],none⟩,⟨none,.nilCheck (.tmp 0),none⟩,⟨none,.fieldAddr 0 (.tmp 12),none⟩,⟨none,.indexArr 60 1 (.tmp 13) (.tmp 2),none⟩,⟨none,.store 1 (.tmp 14) (.tmp 11),none⟩] [(1,11),(2,11),(11,13)]) (.seq (.region [⟨some 3,.mv (.cst (.int .i64 0)),none⟩]) .ret))),[.tmp 3]⟩
theorem Is:aA Tryz.prog Tryz.f31 2 [0,1,3,4,5,8] [] true ([],[[1,3,4,5]])=some Gc:=by kernel_rfl
theorem at31:Tryz.prog.funcs[31]?=some Tryz.f31:=by kernel_rfl
def jp:MC:=.seq (.region [⟨some 16,.bin .lss (.var 15) (.var 14),none⟩]) (.seq (.cond (.var 16) .skip (.exit 0)) (.seq (.seq (.block 1 (.seq (.region [⟨none,.mv (.var 15),none⟩,⟨none,.indexSl 3 (.var 13) (.var 15),none⟩,⟨none,.load true 3 (.tmp 1),none⟩,⟨some 10,.alloc 3 (.agg [.nilS,.int .i64 0,.int .i64 0]),none⟩,⟨some 9,.mv (.tmp 0),none⟩,⟨none,.store 3 (.var 10) (.tmp 2),none⟩]) (.seq (.region [⟨none,.fieldAddr 1 (.var 10),none⟩,⟨none,.load false 1 (.tmp 0),none⟩,⟨none,.fieldAddr 2 (.var 10),none⟩,⟨none,.load false 1 (.tmp 2),none⟩,⟨none,.build [.int .i64 0,.int .i64 0,.int .i64 0,.int .i64 0,.int .i64 0,.int .i64 0] [(0,(1,.tmp 1)),(1,(1,.tmp 3))],none⟩,⟨some 11,.alloc 6 (.agg [.int .i64 0,.int .i64 0,.int .i64 0,.int .i64 0,.int .i64 0,.int .i64 0]),none⟩,⟨none,.store 6 (.var 11) (.tmp 4),none⟩]) (.seq (.region [⟨some 12,.mv (.cst (.bool false)),none⟩]) (.seq (.seq (.region [⟨none,.mv (.var 6),none⟩,⟨none,.mv (.var 2),none⟩,⟨none,.mv (.var 9),none⟩,⟨none,.indexSl 2 (.tmp 1) (.tmp 2),none⟩,⟨none,.fieldAddr 0 (.tmp 3),none⟩,⟨none,.load false 1 (.tmp 4),none⟩,⟨none,.mv (.var 8),none⟩,⟨none,.fieldAddr 2 (.var 3),none⟩,⟨none,.load false 1 (.tmp 7),none⟩,⟨none,.bin .add (.tmp 6) (.tmp 8),none⟩,⟨none,.fieldAddr 2 (.var 10),none⟩,⟨none,.load false 1 (.tmp 10),none⟩,⟨none,.call (.fn 143) [.tmp 0,.tmp 5,.tmp 9,.tmp 11],none⟩,⟨none,.mv (.tmp 12),none⟩,⟨none,.extract (.tmp 13) 0,none⟩,⟨none,.extract (.tmp 13) 1,none⟩,⟨none,.fieldAddr 2 (.var 11),none⟩,⟨none,.store 2 (.tmp 16) (.tmp 14),none⟩,⟨some 12,.mv (.tmp 15),none⟩]) (.seq (.region [⟨none,.mv (.var 12),none⟩,⟨some 17,.un .not (.tmp 0),none⟩]) (.cond (.var 17) (.seq (.region [⟨none,.build [.int .i64 0,.int .i64 0,.int .i64 0,.nilS,.nilS] [],none⟩,⟨none,.store 5 (.var 4) (.tmp 0),none⟩,⟨some 5,.mv (.cst (.bool false)),none⟩]) .ret) .skip))) (.seq (.seq (.region [⟨none,.mv (.var 6),none⟩,⟨none,.mv (.var 2),none⟩,⟨none,.mv (.var 9),none⟩,⟨none,.indexSl 2 (.tmp 1) (.tmp 2),none⟩,⟨none,.fieldAddr 1 (.tmp 3),none⟩,⟨none,.load false 1 (.tmp 4),none⟩,⟨none,.fieldAddr 2 (.var 11),none⟩,⟨none,.fieldAddr 1 (.tmp 6),none⟩,⟨none,.load false 1 (.tmp 7),none⟩,⟨none,.fieldAddr 2 (.var 10),none⟩,⟨none,.load false 1 (.tmp 9),none⟩,⟨none,.bin .add (.tmp 8) (.tmp 10),none⟩,⟨none,.bin .sub (.tmp 11) (.cst (.int .i64 1)),none⟩,⟨none,.fieldAddr 2 (.var 3),none⟩,⟨none,.load false 1 (.tmp 13),none⟩,⟨none,.bin .add (.tmp 12) (.tmp 14),none⟩,⟨none,.fieldAddr 2 (.var 10),none⟩,⟨none,.load false 1 (.tmp 16),none⟩,⟨none,.call (.fn 143) [.tmp 0,.tmp 5,.tmp 15,.tmp 17],none⟩,⟨none,.mv (.tmp 18),none⟩,⟨none,.extract (.tmp 19) 0,none⟩,⟨none,.extract (.tmp 19) 1,none⟩,⟨none,.fieldAddr 4 (.var 11),none⟩,⟨none,.store 2 (.tmp 22) (.tmp 20),none⟩,⟨some 12,.mv (.tmp 21),none⟩]) (.seq (.region [⟨none,.mv (.var 12),none⟩,⟨some 18,.un .not (.tmp 0),none⟩]) (.cond (.var 18) (.seq (.region [⟨none,.build [.int .i64 0,.int .i64 0,.int .i64 0,.nilS,.nilS] [],none⟩,⟨none,.store 5 (.var 4) (.tmp 0),none⟩,⟨some 5,.mv (.cst (.bool false)),none⟩]) .ret) .skip))) (.seq (.region [⟨none,.load true 6 (.var 11),none⟩,⟨none,.call (.fn 85) [.tmp 0],none⟩,⟨some 8,.mv (.tmp 1),none⟩]) (.region [⟨none,.fieldAddr 3 (.var 7),none⟩,⟨none,.load false 1 (.tmp 0),none⟩,⟨none,.load true 6 (.var 11),none⟩,⟨none,.buildF 6 [.tmp 2],none⟩,⟨none,.appendN 6 48 (.tmp 1) (.tmp 3),none⟩,⟨none,.fieldAddr 3 (.var 7),none⟩,⟨none,.store 1 (.tmp 5) (.tmp 4),none⟩])))))))) (.kill [0,1,5,9,10,11,12,16,17,18])) (.region [⟨none,.bin .add (.var 15) (.cst (.int .i64 1)),none⟩,⟨some 15,.mv (.tmp 0),none⟩])))
def JP:bL:=⟨3,19,.seq (.region [⟨some 3,.box (.var 1),none⟩,⟨some 4,.alloc 5 (.agg [.int .i64 0,.int .i64 0,.int .i64 0,.nilS,.nilS]),none⟩,⟨some 5,.mv (.cst (.bool false)),none⟩]) (.seq (.region [⟨none,.mv (.var 0),none⟩,⟨none,.call (.fn 87) [.tmp 0],none⟩,⟨some 6,.mv (.tmp 1),none⟩]) (.seq (.regionD [142] [⟨none,.fieldAddr 0 (.var 3),none⟩,⟨none,.load false 1 (.tmp 0),none⟩,⟨none,.fieldAddr 1 (.var 3),none⟩,⟨none,.load false 1 (.tmp 2),none⟩,⟨none,.fieldAddr 2 (.var 3),none⟩,⟨none,.load false 1 (.tmp 4),none⟩,⟨none,.fieldAddr 4 (.var 3),none⟩,⟨none,.load false 1 (.tmp 6),none⟩,⟨none,.call (.fn 142) [.tmp 7],none⟩,⟨none,.build [.int .i64 0,.int .i64 0,.int .i64 0,.nilS,.nilS] [(0,(1,.tmp 1)),(1,(1,.tmp 3)),(2,(1,.tmp 5)),(4,(1,.tmp 8))],none⟩,⟨some 7,.alloc 5 (.agg [.int .i64 0,.int .i64 0,.int .i64 0,.nilS,.nilS]),none⟩,⟨none,.store 5 (.var 7) (.tmp 9),none⟩] [(0,10),(1,10),(2,10),(3,10),(4,10),(5,10),(6,10),(7,10),(8,10)]) (.seq (.region [⟨none,.fieldAddr 0 (.var 3),none⟩,⟨none,.load false 1 (.tmp 0),none⟩,⟨some 8,.mv (.tmp 1),none⟩]) (.seq (.seq (.region [⟨none,.fieldAddr 3 (.var 3),none⟩,⟨some 13,.load false 1 (.tmp 0),none⟩,⟨some 14,.lenSl (.var 13),none⟩,⟨some 15,.mv (.cst (.int .i64 0)),none⟩]) (.seq (.block 0 (.loop [0,1,5,9,10,11,12,16,17,18] jp)) (.kill [0,1,2,3,5,6,8,9,10,11,12,13,14,15,16,17,18]))) (.seq (.region [⟨none,.load true 5 (.var 7),none⟩,⟨none,.store 5 (.var 4) (.tmp 0),none⟩,⟨some 5,.mv (.cst (.bool true)),none⟩]) .ret))))),[.cell 4 true 5,.tmp 5]⟩
def jj:List Nat:=[0,1,5,9,10,11,12,16,17,18]
abbrev i3 (v2 v3 v4 v6 v7 v8 v13 v14 v15:AV):List AV:=[.undef,.undef,v2,v3,v4,.undef,v6,v7,v8,.undef,.undef,.undef,.undef,v13,v14,v15,.undef,.undef,.undef]
theorem yX {d0 d1 v2 v3 v4 d5 v6 v7 v8 d9 d10 d11 d12 v13 v14 v15 d16 d17 d18:AV}:clear jj [d0,d1,v2,v3,v4,d5,v6,v7,v8,d9,d10,d11,d12,v13,v14,v15,d16,d17,d18]=i3 v2 v3 v4 v6 v7 v8 v13 v14 v15:=rfl
theorem yR {E:Env} {fuel:Nat} {A:aa} {o:Out} {k:List KC} {d0 d1 v2 v3 v4 d5 v6 v7 v8 d9 d10 d11 d12 v13 v14 v15 d16 d17 d18:AV} (h:bI (evC E fuel jp) jj fuel (i3 v2 v3 v4 v6 v7 v8 v13 v14 v15) A=some o) :
  run E fuel (.code (.loop [0,1,5,9,10,11,12,16,17,18] jp) :: k) [d0,d1,v2,v3,v4,d5,v6,v7,v8,d9,d10,d11,d12,v13,v14,v15,d16,d17,d18] A=after E fuel k o:=aT jj _ _ (by rw [yX]; exact h)
theorem H4:aA Tryz.prog Tryz.f84 3 [0,1,2,4,6,7,8,9,10,11,12,13,14,30,31,32,33,60,86] [142] true ([[0,1,5,9,10,11,12,16,17,18]],[[0,1,5,9,10,11,12,16,17,18],[0,1,2,3,5,6,8,9,10,11,12,13,14,15,16,17,18]])=some JP:=by kernel_rfl
theorem at84:Tryz.prog.funcs[84]?=some Tryz.f84:=by kernel_rfl
def km:MC:=.seq (.region [⟨some 8,.bin .lss (.var 7) (.cst (.int .i64 60)),none⟩]) (.seq (.cond (.var 8) .skip (.exit 0)) (.seq (.seq (.block 1 (.seq (.region [⟨none,.mv (.var 7),none⟩,⟨none,.indexVal false 60 1 (.var 6) (.var 7),none⟩,⟨some 3,.mv (.tmp 0),none⟩,⟨some 4,.mv (.tmp 1),none⟩]) (.regionD [] [⟨none,.mv (.var 2),none⟩,⟨none,.mv (.var 3),none⟩,⟨none,.mv (.var 4),none⟩,⟨none,.call (.fn 144) [.tmp 2],none⟩,⟨none,.nilCheck (.tmp 0),none⟩,⟨none,.fieldAddr 0 (.tmp 4),none⟩,⟨none,.indexArr 60 1 (.tmp 5) (.tmp 1),none⟩,⟨none,.store 1 (.tmp 6) (.tmp 3),none⟩] [(3,5)]))) (.kill [0,1,3,4,5,8])) (.region [⟨none,.bin .add (.var 7) (.cst (.int .i64 1)),none⟩,⟨some 7,.mv (.tmp 0),none⟩])))
def JO:bL:=⟨1,9,.seq (.region [⟨some 1,.mv (.cst .nilP),none⟩]) (.seq (.seq (.region [⟨none,.mv (.var 0),none⟩,⟨some 5,.eqNil 0 false (.tmp 0),none⟩]) (.cond (.var 5) (.seq (.region [⟨some 1,.mv (.cst .nilP),none⟩]) .ret) .skip)) (.seq (.region [⟨none,.call (.fn 29) [],none⟩,⟨some 2,.mv (.tmp 0),none⟩]) (.seq (.seq (.region [⟨none,.mv (.var 0),none⟩,⟨none,.nilCheck (.tmp 0),none⟩,⟨none,.fieldAddr 0 (.tmp 1),none⟩,⟨some 6,.load true 60 (.tmp 2),none⟩,⟨some 7,.mv (.cst (.int .i64 0)),none⟩]) (.seq (.block 0 (.loop [0,1,3,4,5,8] km)) (.kill [0,1,3,4,5,6,7,8]))) (.seq (.region [⟨none,.mv (.var 2),none⟩,⟨some 1,.mv (.tmp 0),none⟩]) .ret)))),[.tmp 1]⟩
def jg:List Nat:=[0,1,3,4,5,8]
abbrev ke (v2 v6 v7:AV):List AV:=[.undef,.undef,v2,.undef,.undef,.undef,v6,v7,.undef]
theorem yW {d0 d1 v2 d3 d4 d5 v6 v7 d8:AV}:clear jg [d0,d1,v2,d3,d4,d5,v6,v7,d8]=ke v2 v6 v7:=rfl
theorem yQ {E:Env} {fuel:Nat} {A:aa} {o:Out} {k:List KC} {d0 d1 v2 d3 d4 d5 v6 v7 d8:AV} (h:bI (evC E fuel km) jg fuel (ke v2 v6 v7) A=some o) :
  run E fuel (.code (.loop [0,1,3,4,5,8] km) :: k) [d0,d1,v2,d3,d4,d5,v6,v7,d8] A=after E fuel k o:=aT jg _ _ (by rw [yW]; exact h)
theorem H0:aA Tryz.prog Tryz.f87 1 [0,2,3,4,5,7,12,13,14] [] true ([[0,1,3,4,5,8]],[[0,1,3,4,5,8],[0,1,3,4,5,6,7,8]])=some JO:=by kernel_rfl
theorem at87:Tryz.prog.funcs[87]?=some Tryz.f87:=by kernel_rfl
def gI:MC:=.seq (.region [⟨some 10,.bin .lss (.var 9) (.var 8),none⟩]) (.seq (.cond (.var 10) .skip (.exit 0)) (.seq (.seq (.block 1 (.seq (.region [⟨none,.mv (.var 9),none⟩,⟨none,.indexSl 6 (.var 7) (.var 9),none⟩,⟨none,.load true 6 (.tmp 1),none⟩,⟨some 4,.alloc 6 (.agg [.int .i64 0,.int .i64 0,.int .i64 0,.int .i64 0,.int .i64 0,.int .i64 0]),none⟩,⟨some 3,.mv (.tmp 0),none⟩,⟨none,.store 6 (.var 4) (.tmp 2),none⟩]) (.seq (.region [⟨none,.fieldAddr 2 (.var 4),none⟩,⟨none,.fieldAddr 1 (.tmp 0),none⟩,⟨none,.load false 1 (.tmp 1),none⟩,⟨none,.fieldAddr 1 (.var 4),none⟩,⟨none,.load false 1 (.tmp 3),none⟩,⟨none,.bin .add (.tmp 2) (.tmp 4),none⟩,⟨none,.bin .sub (.tmp 5) (.cst (.int .i64 1)),none⟩,⟨none,.fieldAddr 2 (.var 1),none⟩,⟨none,.load false 1 (.tmp 7),none⟩,⟨none,.bin .add (.tmp 6) (.tmp 8),none⟩,⟨none,.fieldAddr 4 (.var 4),none⟩,⟨none,.fieldAddr 1 (.tmp 10),none⟩,⟨none,.load false 1 (.tmp 11),none⟩,⟨none,.call (.fn 159) [.var 2,.tmp 9,.tmp 12],none⟩]) (.seq (.seq (.region [⟨none,.mv (.var 3),none⟩,⟨none,.bin .add (.tmp 0) (.cst (.int .i64 1)),none⟩,⟨none,.fieldAddr 3 (.var 1),none⟩,⟨none,.load false 1 (.tmp 2),none⟩,⟨none,.lenSl (.tmp 3),none⟩,⟨some 11,.bin .eql (.tmp 1) (.tmp 4),none⟩]) (.cond (.var 11) (.exit 0) .skip)) (.seq (.region [⟨none,.fieldAddr 3 (.var 1),none⟩,⟨none,.load false 1 (.tmp 0),none⟩,⟨none,.mv (.var 3),none⟩,⟨none,.bin .add (.tmp 2) (.cst (.int .i64 1)),none⟩,⟨none,.indexSl 6 (.tmp 1) (.tmp 3),none⟩,⟨none,.load true 6 (.tmp 4),none⟩,⟨some 5,.alloc 6 (.agg [.int .i64 0,.int .i64 0,.int .i64 0,.int .i64 0,.int .i64 0,.int .i64 0]),none⟩,⟨none,.store 6 (.var 5) (.tmp 5),none⟩]) (.seq (.region [⟨none,.fieldAddr 2 (.var 4),none⟩,⟨none,.fieldAddr 1 (.tmp 0),none⟩,⟨none,.load false 1 (.tmp 1),none⟩,⟨none,.fieldAddr 1 (.var 4),none⟩,⟨none,.load false 1 (.tmp 3),none⟩,⟨none,.bin .add (.tmp 2) (.tmp 4),none⟩,⟨none,.fieldAddr 2 (.var 1),none⟩,⟨none,.load false 1 (.tmp 6),none⟩,⟨none,.bin .add (.tmp 5) (.tmp 7),none⟩,⟨none,.fieldAddr 2 (.var 5),none⟩,⟨none,.fieldAddr 1 (.tmp 9),none⟩,⟨none,.load false 1 (.tmp 10),none⟩,⟨none,.call (.fn 159) [.var 2,.tmp 8,.tmp 11],none⟩]) (.seq (.region [⟨none,.fieldAddr 2 (.var 5),none⟩,⟨none,.load true 2 (.tmp 0),none⟩,⟨some 6,.alloc 2 (.agg [.int .i64 0,.int .i64 0]),none⟩,⟨none,.store 2 (.var 6) (.tmp 1),none⟩]) (.seq (.seq (.region [⟨none,.fieldAddr 2 (.var 5),none⟩,⟨none,.fieldAddr 0 (.tmp 0),none⟩,⟨none,.load false 1 (.tmp 1),none⟩,⟨none,.fieldAddr 2 (.var 4),none⟩,⟨none,.fieldAddr 0 (.tmp 3),none⟩,⟨none,.load false 1 (.tmp 4),none⟩,⟨some 12,.bin .eql (.tmp 2) (.tmp 5),none⟩]) (.cond (.var 12) (.region [⟨none,.fieldAddr 4 (.var 5),none⟩,⟨none,.load true 2 (.tmp 0),none⟩,⟨none,.store 2 (.var 6) (.tmp 1),none⟩]) .skip)) (.region [⟨none,.fieldAddr 4 (.var 4),none⟩,⟨none,.fieldAddr 1 (.tmp 0),none⟩,⟨none,.load false 1 (.tmp 1),none⟩,⟨none,.fieldAddr 1 (.var 4),none⟩,⟨none,.load false 1 (.tmp 3),none⟩,⟨none,.bin .add (.tmp 2) (.tmp 4),none⟩,⟨none,.fieldAddr 2 (.var 1),none⟩,⟨none,.load false 1 (.tmp 6),none⟩,⟨none,.bin .add (.tmp 5) (.tmp 7),none⟩,⟨none,.fieldAddr 1 (.var 6),none⟩,⟨none,.load false 1 (.tmp 9),none⟩,⟨none,.call (.fn 159) [.var 2,.tmp 8,.tmp 10],none⟩]))))))))) (.kill [0,3,4,5,6,10,11,12])) (.region [⟨none,.bin .add (.var 9) (.cst (.int .i64 1)),none⟩,⟨some 9,.mv (.tmp 0),none⟩])))
def BM:bL:=⟨1,13,.seq (.region [⟨some 1,.box (.var 0),none⟩,⟨some 2,.alloc 1 .nilS,none⟩]) (.seq (.region [⟨none,.fieldAddr 0 (.var 1),none⟩,⟨none,.load false 1 (.tmp 0),none⟩,⟨none,.fieldAddr 2 (.var 1),none⟩,⟨none,.load false 1 (.tmp 2),none⟩,⟨none,.bin .add (.tmp 1) (.tmp 3),none⟩,⟨none,.fieldAddr 3 (.var 1),none⟩,⟨none,.load false 1 (.tmp 5),none⟩,⟨none,.indexSl 6 (.tmp 6) (.cst (.int .i64 0)),none⟩,⟨none,.fieldAddr 2 (.tmp 7),none⟩,⟨none,.fieldAddr 1 (.tmp 8),none⟩,⟨none,.load false 1 (.tmp 9),none⟩,⟨none,.call (.fn 159) [.var 2,.tmp 4,.tmp 10],none⟩]) (.seq (.seq (.region [⟨none,.fieldAddr 3 (.var 1),none⟩,⟨some 7,.load false 1 (.tmp 0),none⟩,⟨some 8,.lenSl (.var 7),none⟩,⟨some 9,.mv (.cst (.int .i64 0)),none⟩]) (.seq (.block 0 (.loop [0,3,4,5,6,10,11,12] gI)) (.kill [0,1,3,4,5,6,7,8,9,10,11,12]))) (.seq (.region [⟨none,.load false 1 (.var 2),none⟩,⟨none,.store 1 (.var 2) (.tmp 0),none⟩]) .ret))),[.cell 2 false 1]⟩
def gC:List Nat:=[0,3,4,5,6,10,11,12]
abbrev iG (v1 v2 v7 v8 v9:AV):List AV:=[.undef,v1,v2,.undef,.undef,.undef,.undef,v7,v8,v9,.undef,.undef,.undef]
theorem vy {d0 v1 v2 d3 d4 d5 d6 v7 v8 v9 d10 d11 d12:AV}:clear gC [d0,v1,v2,d3,d4,d5,d6,v7,v8,v9,d10,d11,d12]=iG v1 v2 v7 v8 v9:=rfl
theorem CG {E:Env} {fuel:Nat} {A:aa} {o:Out} {k:List KC} {d0 v1 v2 d3 d4 d5 d6 v7 v8 v9 d10 d11 d12:AV} (h:bI (evC E fuel gI) gC fuel (iG v1 v2 v7 v8 v9) A=some o) :
  run E fuel (.code (.loop [0,3,4,5,6,10,11,12] gI) :: k) [d0,v1,v2,d3,d4,d5,d6,v7,v8,v9,d10,d11,d12] A=after E fuel k o:=aT gC _ _ (by rw [vy]; exact h)
theorem DK:aA Tryz.prog Tryz.f121 1 [0,1,2,3,4,5,6,20,21,22,23,46,74] [] true ([[0,3,4,5,6,10,11,12]],[[0,3,4,5,6,10,11,12],[0,1,3,4,5,6,7,8,9,10,11,12]])=some BM:=by kernel_rfl
theorem NB:Tryz.prog.funcs[121]?=some Tryz.f121:=by kernel_rfl
def gH:MC:=.seq (.region [⟨some 8,.bin .lss (.var 7) (.var 6),none⟩]) (.seq (.cond (.var 8) .skip (.exit 0)) (.seq (.seq (.block 1 (.seq (.region [⟨none,.indexSl 3 (.var 5) (.var 7),none⟩,⟨none,.load true 3 (.tmp 0),none⟩,⟨some 3,.alloc 3 (.agg [.int .i64 0,.int .i64 0,.int .i64 0]),none⟩,⟨none,.store 3 (.var 3) (.tmp 1),none⟩]) (.seq (.region [⟨none,.fieldAddr 3 (.var 1),none⟩,⟨none,.load false 1 (.tmp 0),none⟩,⟨none,.fieldAddr 0 (.var 3),none⟩,⟨none,.load false 1 (.tmp 2),none⟩,⟨none,.indexSl 6 (.tmp 1) (.tmp 3),none⟩,⟨none,.load true 6 (.tmp 4),none⟩,⟨some 4,.alloc 6 (.agg [.int .i64 0,.int .i64 0,.int .i64 0,.int .i64 0,.int .i64 0,.int .i64 0]),none⟩,⟨none,.store 6 (.var 4) (.tmp 5),none⟩]) (.region [⟨none,.fieldAddr 3 (.var 1),none⟩,⟨none,.load false 1 (.tmp 0),none⟩,⟨none,.fieldAddr 1 (.var 3),none⟩,⟨none,.load false 1 (.tmp 2),none⟩,⟨none,.indexSl 6 (.tmp 1) (.tmp 3),none⟩,⟨none,.fieldAddr 4 (.tmp 4),none⟩,⟨none,.fieldAddr 1 (.tmp 5),none⟩,⟨none,.load false 1 (.tmp 6),none⟩,⟨none,.fieldAddr 2 (.var 4),none⟩,⟨none,.fieldAddr 1 (.tmp 8),none⟩,⟨none,.load false 1 (.tmp 9),none⟩,⟨none,.fieldAddr 0 (.var 4),none⟩,⟨none,.load false 1 (.tmp 11),none⟩,⟨none,.bin .add (.tmp 10) (.tmp 12),none⟩,⟨none,.fieldAddr 2 (.var 3),none⟩,⟨none,.load false 1 (.tmp 14),none⟩,⟨none,.bin .add (.tmp 13) (.tmp 15),none⟩,⟨none,.call (.fn 159) [.var 2,.tmp 7,.tmp 16],none⟩])))) (.kill [0,3,4,8])) (.region [⟨none,.bin .add (.var 7) (.cst (.int .i64 1)),none⟩,⟨some 7,.mv (.tmp 0),none⟩])))
def BK:bL:=⟨1,9,.seq (.region [⟨some 1,.box (.var 0),none⟩,⟨some 2,.alloc 1 .nilS,none⟩]) (.seq (.seq (.region [⟨none,.fieldAddr 4 (.var 1),none⟩,⟨some 5,.load false 1 (.tmp 0),none⟩,⟨some 6,.lenSl (.var 5),none⟩,⟨some 7,.mv (.cst (.int .i64 0)),none⟩]) (.seq (.block 0 (.loop [0,3,4,8] gH)) (.kill [0,1,3,4,5,6,7,8]))) (.seq (.region [⟨none,.load false 1 (.var 2),none⟩,⟨none,.store 1 (.var 2) (.tmp 0),none⟩]) .ret)),[.cell 2 false 1]⟩
def gB:List Nat:=[0,3,4,8]
abbrev fZ (v1 v2 v5 v6 v7:AV):List AV:=[.undef,v1,v2,.undef,.undef,v5,v6,v7,.undef]
theorem vx {d0 v1 v2 d3 d4 v5 v6 v7 d8:AV}:clear gB [d0,v1,v2,d3,d4,v5,v6,v7,d8]=fZ v1 v2 v5 v6 v7:=rfl
theorem CF {E:Env} {fuel:Nat} {A:aa} {o:Out} {k:List KC} {d0 v1 v2 d3 d4 v5 v6 v7 d8:AV} (h:bI (evC E fuel gH) gB fuel (fZ v1 v2 v5 v6 v7) A=some o) :
  run E fuel (.code (.loop [0,3,4,8] gH) :: k) [d0,v1,v2,d3,d4,v5,v6,v7,d8] A=after E fuel k o:=aT gB _ _ (by rw [vx]; exact h)
theorem DI:aA Tryz.prog Tryz.f123 1 [0,1,2,4,5,7,8,9,10] [] true ([[0,3,4,8]],[[0,3,4,8],[0,1,3,4,5,6,7,8]])=some BK:=by kernel_rfl
theorem Nz:Tryz.prog.funcs[123]?=some Tryz.f123:=by kernel_rfl
def gG:MC:=.seq (.region [⟨some 8,.bin .lss (.var 7) (.var 6),none⟩]) (.seq (.cond (.var 8) .skip (.exit 0)) (.seq (.seq (.block 1 (.seq (.region [⟨none,.indexSl 6 (.var 5) (.var 7),none⟩,⟨none,.load true 6 (.tmp 0),none⟩,⟨some 4,.alloc 6 (.agg [.int .i64 0,.int .i64 0,.int .i64 0,.int .i64 0,.int .i64 0,.int .i64 0]),none⟩,⟨none,.store 6 (.var 4) (.tmp 1),none⟩]) (.region [⟨none,.fieldAddr 0 (.var 3),none⟩,⟨none,.load false 1 (.tmp 0),none⟩,⟨none,.fieldAddr 1 (.var 4),none⟩,⟨none,.load false 1 (.tmp 2),none⟩,⟨none,.buildF 1 [.tmp 3],none⟩,⟨none,.appendN 1 8 (.tmp 1) (.tmp 4),none⟩,⟨none,.fieldAddr 0 (.var 3),none⟩,⟨none,.store 1 (.tmp 6) (.tmp 5),none⟩]))) (.kill [0,1,4,8])) (.region [⟨none,.bin .add (.var 7) (.cst (.int .i64 1)),none⟩,⟨some 7,.mv (.tmp 0),none⟩])))
def BF:bL:=⟨1,9,.seq (.region [⟨some 1,.box (.var 0),none⟩,⟨some 2,.alloc 5 (.agg [.nilS,.nilS,.int .i64 0,.int .i64 0,.int .i64 0]),none⟩]) (.seq (.regionD [165] [⟨none,.fieldAddr 2 (.var 1),none⟩,⟨none,.load false 1 (.tmp 0),none⟩,⟨none,.fieldAddr 2 (.var 1),none⟩,⟨none,.load false 1 (.tmp 2),none⟩,⟨none,.buildF 1 [.tmp 3],none⟩,⟨none,.fieldAddr 3 (.var 1),none⟩,⟨none,.load false 1 (.tmp 5),none⟩,⟨none,.lenSl (.tmp 6),none⟩,⟨none,.call (.fn 165) [.tmp 4,.tmp 7],none⟩,⟨none,.build [.nilS,.nilS,.int .i64 0,.int .i64 0,.int .i64 0] [(2,(1,.tmp 1)),(3,(1,.cst (.int .i64 (-1)))),(1,(1,.tmp 8))],none⟩,⟨some 3,.alloc 5 (.agg [.nilS,.nilS,.int .i64 0,.int .i64 0,.int .i64 0]),none⟩,⟨none,.store 5 (.var 3) (.tmp 9),none⟩] [(0,10),(1,10),(2,10),(3,10),(5,10),(6,10),(8,10)]) (.seq (.seq (.region [⟨none,.fieldAddr 3 (.var 1),none⟩,⟨some 5,.load false 1 (.tmp 0),none⟩,⟨some 6,.lenSl (.var 5),none⟩,⟨some 7,.mv (.cst (.int .i64 0)),none⟩]) (.seq (.block 0 (.loop [0,1,4,8] gG)) (.kill [0,1,4,5,6,7,8]))) (.seq (.region [⟨none,.load true 5 (.var 3),none⟩,⟨none,.store 5 (.var 2) (.tmp 0),none⟩]) .ret))),[.cell 2 true 5]⟩
def gv:List Nat:=[0,1,4,8]
abbrev fW (v2 v3 v5 v6 v7:AV):List AV:=[.undef,.undef,v2,v3,.undef,v5,v6,v7,.undef]
theorem vw {d0 d1 v2 v3 d4 v5 v6 v7 d8:AV}:clear gv [d0,d1,v2,v3,d4,v5,v6,v7,d8]=fW v2 v3 v5 v6 v7:=rfl
theorem CE {E:Env} {fuel:Nat} {A:aa} {o:Out} {k:List KC} {d0 d1 v2 v3 d4 v5 v6 v7 d8:AV} (h:bI (evC E fuel gG) gv fuel (fW v2 v3 v5 v6 v7) A=some o) :
  run E fuel (.code (.loop [0,1,4,8] gG) :: k) [d0,d1,v2,v3,d4,v5,v6,v7,d8] A=after E fuel k o:=aT gv _ _ (by rw [vw]; exact h)
theorem DA:aA Tryz.prog Tryz.f131 1 [0,1,2,3,5,17,18,19,20] [165] true ([[0,1,4,8]],[[0,1,4,8],[0,1,4,5,6,7,8]])=some BF:=by kernel_rfl
theorem Nr:Tryz.prog.funcs[131]?=some Tryz.f131:=by kernel_rfl
def ez:MC:=.seq (.region [⟨some 16,.bin .lss (.var 15) (.var 14),none⟩]) (.seq (.cond (.var 16) .skip (.exit 2)) (.seq (.seq (.block 3 (.seq (.region [⟨none,.indexSl 1 (.var 13) (.var 15),none⟩,⟨none,.load false 1 (.tmp 0),none⟩,⟨some 7,.mv (.tmp 1),none⟩]) (.seq (.regionD [] [⟨none,.mv (.var 6),none⟩,⟨none,.mv (.var 7),none⟩,⟨none,.bin .neq (.tmp 0) (.tmp 1),none⟩,⟨none,.mv (.tmp 2),none⟩,⟨none,.load false 1 (.var 3),some (.tmp 3,true)⟩,⟨none,.mv (.var 0),some (.tmp 3,true)⟩,⟨none,.call (.fn 141) [.tmp 5],some (.tmp 3,true)⟩,⟨none,.mv (.var 6),some (.tmp 3,true)⟩,⟨none,.mv (.var 7),some (.tmp 3,true)⟩,⟨none,.build [.int .i64 0,.int .i64 0] [(0,(1,.tmp 7)),(1,(1,.tmp 8))],some (.tmp 3,true)⟩,⟨none,.buildF 2 [.tmp 9],some (.tmp 3,true)⟩,⟨none,.appendN 2 16 (.tmp 6) (.tmp 10),some (.tmp 3,true)⟩,⟨none,.call (.tmp 4) [.tmp 11],some (.tmp 3,true)⟩,⟨none,.un .not (.tmp 12),some (.tmp 3,true)⟩,⟨some 17,.pick (.tmp 3) (.tmp 13) (.cst (.bool false)),none⟩] [(4,6),(4,11)]) (.cond (.var 17) (.seq (.region [⟨some 4,.mv (.cst (.bool false)),none⟩]) .ret) .skip)))) (.kill [1,2,4,7,8,12,16,17])) (.region [⟨none,.bin .add (.var 15) (.cst (.int .i64 1)),none⟩,⟨some 15,.mv (.tmp 0),none⟩])))
def gF:MC:=.seq (.region [⟨some 12,.bin .lss (.var 11) (.var 10),none⟩]) (.seq (.cond (.var 12) .skip (.exit 0)) (.seq (.seq (.block 1 (.seq (.region [⟨none,.indexSl 1 (.var 9) (.var 11),none⟩,⟨none,.load false 1 (.tmp 0),none⟩,⟨some 6,.mv (.tmp 1),none⟩]) (.seq (.region [⟨some 13,.mv (.var 5),none⟩,⟨some 14,.lenSl (.var 13),none⟩,⟨some 15,.mv (.cst (.int .i64 0)),none⟩]) (.seq (.block 2 (.loop [1,2,4,7,8,12,16,17] ez)) (.kill [1,2,4,6,7,8,12,13,14,15,16,17]))))) (.kill [1,2,4,6,7,8,12,13,14,15,16,17])) (.region [⟨none,.bin .add (.var 11) (.cst (.int .i64 1)),none⟩,⟨some 11,.mv (.tmp 0),none⟩])))
def ut:bL:=⟨4,18,.seq (.region [⟨some 4,.mv (.cst (.bool false)),none⟩]) (.seq (.seq (.region [⟨none,.mv (.var 0),none⟩,⟨none,.lenSl (.tmp 0),none⟩,⟨none,.load false 1 (.var 1),none⟩,⟨none,.lenSl (.tmp 2),none⟩,⟨some 8,.bin .eql (.tmp 1) (.tmp 3),none⟩]) (.cond (.var 8) (.seq (.region [⟨none,.load false 1 (.var 2),none⟩,⟨none,.mv (.var 0),none⟩,⟨none,.call (.tmp 0) [.tmp 1],none⟩,⟨some 4,.mv (.tmp 2),none⟩]) .ret) .skip)) (.seq (.region [⟨none,.load false 1 (.var 1),none⟩,⟨none,.mv (.var 0),none⟩,⟨none,.lenSl (.tmp 1),none⟩,⟨none,.indexSl 3 (.tmp 0) (.tmp 2),none⟩,⟨none,.fieldAddr 0 (.tmp 3),none⟩,⟨none,.load false 1 (.tmp 4),none⟩,⟨some 5,.mv (.tmp 5),none⟩]) (.seq (.seq (.region [⟨some 9,.mv (.var 5),none⟩,⟨some 10,.lenSl (.var 9),none⟩,⟨some 11,.mv (.cst (.int .i64 0)),none⟩]) (.seq (.block 0 (.loop [1,2,4,6,7,8,12,13,14,15,16,17] gF)) (.kill [0,1,2,3,4,5,6,7,8,9,10,11,12,13,14,15,16,17]))) (.seq (.region [⟨some 4,.mv (.cst (.bool true)),none⟩]) .ret)))),[.tmp 4]⟩
def gq:List Nat:=[1,2,4,7,8,12,16,17]
abbrev iF (v0 v3 v5 v6 v9 v10 v11 v13 v14 v15:AV):List AV:=[v0,.undef,.undef,v3,.undef,v5,v6,.undef,.undef,v9,v10,v11,.undef,v13,v14,v15,.undef,.undef]
theorem qU {v0 d1 d2 v3 d4 v5 v6 d7 d8 v9 v10 v11 d12 v13 v14 v15 d16 d17:AV}:clear gq [v0,d1,d2,v3,d4,v5,v6,d7,d8,v9,v10,v11,d12,v13,v14,v15,d16,d17]=iF v0 v3 v5 v6 v9 v10 v11 v13 v14 v15:=rfl
theorem CD {E:Env} {fuel:Nat} {A:aa} {o:Out} {k:List KC} {v0 d1 d2 v3 d4 v5 v6 d7 d8 v9 v10 v11 d12 v13 v14 v15 d16 d17:AV} (h:bI (evC E fuel ez) gq fuel (iF v0 v3 v5 v6 v9 v10 v11 v13 v14 v15) A=some o) :
  run E fuel (.code (.loop [1,2,4,7,8,12,16,17] ez) :: k) [v0,d1,d2,v3,d4,v5,v6,d7,d8,v9,v10,v11,d12,v13,v14,v15,d16,d17] A=after E fuel k o:=aT gq _ _ (by rw [qU]; exact h)
def gp:List Nat:=[1,2,4,6,7,8,12,13,14,15,16,17]
abbrev iE (v0 v3 v5 v9 v10 v11:AV):List AV:=[v0,.undef,.undef,v3,.undef,v5,.undef,.undef,.undef,v9,v10,v11,.undef,.undef,.undef,.undef,.undef,.undef]
theorem qT {v0 d1 d2 v3 d4 v5 d6 d7 d8 v9 v10 v11 d12 d13 d14 d15 d16 d17:AV}:clear gp [v0,d1,d2,v3,d4,v5,d6,d7,d8,v9,v10,v11,d12,d13,d14,d15,d16,d17]=iE v0 v3 v5 v9 v10 v11:=rfl
theorem CC {E:Env} {fuel:Nat} {A:aa} {o:Out} {k:List KC} {v0 d1 d2 v3 d4 v5 d6 d7 d8 v9 v10 v11 d12 d13 d14 d15 d16 d17:AV} (h:bI (evC E fuel gF) gp fuel (iE v0 v3 v5 v9 v10 v11) A=some o) :
  run E fuel (.code (.loop [1,2,4,6,7,8,12,13,14,15,16,17] gF) :: k) [v0,d1,d2,v3,d4,v5,d6,d7,d8,v9,v10,v11,d12,d13,d14,d15,d16,d17] A=after E fuel k o:=aT gp _ _ (by rw [qT]; exact h)
theorem va:aA Tryz.prog Tryz.f140 4 [0,1,2,3,5,6,8,10,15,25,26,27,28,31,32,33,34,51] [] true ([[1,2,4,6,7,8,12,13,14,15,16,17],[1,2,4,7,8,12,16,17]],[[1,2,4,7,8,12,16,17],[1,2,4,6,7,8,12,13,14,15,16,17],[1,2,4,6,7,8,12,13,14,15,16,17],[0,1,2,3,4,5,6,7,8,9,10,11,12,13,14,15,16,17]])=some ut:=by kernel_rfl
theorem IG:Tryz.prog.funcs[140]?=some Tryz.f140:=by kernel_rfl
def BW:MC:=.seq (.seq (.region [⟨none,.mv (.var 6),none⟩,⟨none,.mv (.var 5),none⟩,⟨none,.lenSl (.tmp 1),none⟩,⟨some 9,.bin .lss (.tmp 0) (.tmp 2),none⟩]) (.cond (.var 9) .skip (.exit 0))) (.seq (.block 1 (.region [⟨none,.mv (.var 6),none⟩,⟨none,.mv (.var 5),none⟩,⟨none,.mv (.var 6),none⟩,⟨none,.sliceSl 1 (.tmp 1) (some (.tmp 2)) none,none⟩,⟨none,.mv (.var 5),none⟩,⟨none,.mv (.var 6),none⟩,⟨none,.sliceSl 1 (.tmp 4) none (some (.tmp 5)),none⟩,⟨none,.copy 1 (.tmp 3) (.tmp 6),none⟩,⟨none,.bin .add (.tmp 0) (.tmp 7),none⟩,⟨some 6,.mv (.tmp 8),none⟩])) (.kill [0,1,2,3,4,7,8,9]))
def Gm:bL:=⟨2,10,.seq (.region [⟨some 2,.mv (.cst .nilS),none⟩]) (.seq (.seq (.region [⟨none,.mv (.var 1),none⟩,⟨some 7,.bin .lss (.tmp 0) (.cst (.int .i64 0)),none⟩]) (.cond (.var 7) (.region [⟨none,.mkI 9 (.cst (.str [99,97,110,110,111,116,32,98,101,32,110,101,103,97,116,105,118,101])),none⟩,⟨none,.un .neg (.cst .undef),none⟩]) .skip)) (.seq (.region [⟨none,.mv (.var 0),none⟩,⟨none,.lenSl (.tmp 0),none⟩,⟨none,.convInt .u64 (.tmp 1),none⟩,⟨none,.mv (.var 1),none⟩,⟨none,.convInt .u64 (.tmp 3),none⟩,⟨none,.call (.fn 178) [.tmp 2,.tmp 4],none⟩,⟨none,.mv (.tmp 5),none⟩,⟨none,.extract (.tmp 6) 0,none⟩,⟨none,.extract (.tmp 6) 1,none⟩,⟨some 3,.mv (.tmp 7),none⟩,⟨some 4,.mv (.tmp 8),none⟩]) (.seq (.seq (.region [⟨none,.mv (.var 3),none⟩,⟨none,.bin .gtr (.tmp 0) (.cst (.int .u64 0)),none⟩,⟨none,.mv (.tmp 1),none⟩,⟨none,.mv (.var 4),some (.tmp 2,false)⟩,⟨none,.bin .gtr (.tmp 3) (.cst (.int .u64 9223372036854775807)),some (.tmp 2,false)⟩,⟨some 8,.pick (.tmp 2) (.cst (.bool true)) (.tmp 4),none⟩]) (.cond (.var 8) (.region [⟨none,.mkI 9 (.cst (.str [116,104,101,32,114,101,115,117,108,116,32,111,102,32,40,108,101,110,40,120,41,32,42,32,99,111,117,110,116,41,32,111,118,101,114,102,108,111,119,115])),none⟩,⟨none,.un .neg (.cst .undef),none⟩]) .skip)) (.seq (.region [⟨none,.mv (.var 4),none⟩,⟨none,.convInt .i64 (.tmp 0),none⟩,⟨none,.makeSlice 1 8 (.int .i64 0) (.tmp 1) (.tmp 1),none⟩,⟨some 5,.mv (.tmp 2),none⟩]) (.seq (.region [⟨none,.mv (.var 5),none⟩,⟨none,.mv (.var 0),none⟩,⟨none,.copy 1 (.tmp 0) (.tmp 1),none⟩,⟨some 6,.mv (.tmp 2),none⟩]) (.seq (.seq (.block 0 (.loop [0,1,2,3,4,7,8,9] BW)) (.kill [0,1,2,3,4,6,7,8,9])) (.seq (.region [⟨none,.mv (.var 5),none⟩,⟨some 2,.mv (.tmp 0),none⟩]) .ret))))))),[.tmp 2]⟩
theorem Df:aA Tryz.prog Tryz.f165 2 [0,1,4,5,6,7,8,10,26,37] [] true ([[0,1,2,3,4,7,8,9]],[[0,1,2,3,4,7,8,9],[0,1,2,3,4,6,7,8,9]])=some Gm:=by kernel_rfl
theorem M0:Tryz.prog.funcs[165]?=some Tryz.f165:=by kernel_rfl
def Gi:bL:=⟨2,8,.seq (.region [⟨some 2,.mv (.cst (.int .u64 0)),none⟩,⟨some 3,.mv (.cst (.int .u64 0)),none⟩]) (.seq (.cond (.cst (.bool false)) (.seq (.region [⟨none,.mv (.var 0),none⟩,⟨none,.convInt .u32 (.tmp 0),none⟩,⟨none,.mv (.var 1),none⟩,⟨none,.convInt .u32 (.tmp 2),none⟩,⟨none,.call (.fn 184) [.tmp 1,.tmp 3],none⟩,⟨none,.mv (.tmp 4),none⟩,⟨none,.extract (.tmp 5) 0,none⟩,⟨none,.extract (.tmp 5) 1,none⟩,⟨some 4,.mv (.tmp 6),none⟩,⟨some 5,.mv (.tmp 7),none⟩]) (.seq (.region [⟨none,.mv (.var 4),none⟩,⟨none,.convInt .u64 (.tmp 0),none⟩,⟨none,.mv (.var 5),none⟩,⟨none,.convInt .u64 (.tmp 2),none⟩,⟨some 2,.mv (.tmp 1),none⟩,⟨some 3,.mv (.tmp 3),none⟩]) .ret)) .skip) (.seq (.region [⟨none,.mv (.var 0),none⟩,⟨none,.mv (.var 1),none⟩,⟨none,.call (.fn 185) [.tmp 0,.tmp 1],none⟩,⟨none,.mv (.tmp 2),none⟩,⟨none,.extract (.tmp 3) 0,none⟩,⟨none,.extract (.tmp 3) 1,none⟩,⟨some 6,.mv (.tmp 4),none⟩,⟨some 7,.mv (.tmp 5),none⟩]) (.seq (.region [⟨none,.mv (.var 6),none⟩,⟨none,.mv (.var 7),none⟩,⟨some 2,.mv (.tmp 0),none⟩,⟨some 3,.mv (.tmp 1),none⟩]) .ret))),[.tmp 2,.tmp 3]⟩
theorem C5:aA Tryz.prog Tryz.f178 2 [0,1,4,5,6,7,8,9] [] true ([],[])=some Gi:=by kernel_rfl
theorem MQ:Tryz.prog.funcs[178]?=some Tryz.f178:=by kernel_rfl
def Gf:bL:=⟨2,12,.seq (.region [⟨some 2,.mv (.cst (.int .u64 0)),none⟩,⟨some 3,.mv (.cst (.int .u64 0)),none⟩]) (.seq (.region [⟨none,.mv (.var 0),none⟩,⟨none,.bin .and (.tmp 0) (.cst (.int .u64 4294967295)),none⟩,⟨some 4,.mv (.tmp 1),none⟩]) (.seq (.region [⟨none,.mv (.var 0),none⟩,⟨none,.bin .shr (.tmp 0) (.cst (.int .u64 32)),none⟩,⟨some 5,.mv (.tmp 1),none⟩]) (.seq (.region [⟨none,.mv (.var 1),none⟩,⟨none,.bin .and (.tmp 0) (.cst (.int .u64 4294967295)),none⟩,⟨some 6,.mv (.tmp 1),none⟩]) (.seq (.region [⟨none,.mv (.var 1),none⟩,⟨none,.bin .shr (.tmp 0) (.cst (.int .u64 32)),none⟩,⟨some 7,.mv (.tmp 1),none⟩]) (.seq (.region [⟨none,.mv (.var 4),none⟩,⟨none,.mv (.var 6),none⟩,⟨none,.bin .mul (.tmp 0) (.tmp 1),none⟩,⟨some 8,.mv (.tmp 2),none⟩]) (.seq (.region [⟨none,.mv (.var 5),none⟩,⟨none,.mv (.var 6),none⟩,⟨none,.bin .mul (.tmp 0) (.tmp 1),none⟩,⟨none,.mv (.var 8),none⟩,⟨none,.bin .shr (.tmp 3) (.cst (.int .u64 32)),none⟩,⟨none,.bin .add (.tmp 2) (.tmp 4),none⟩,⟨some 9,.mv (.tmp 5),none⟩]) (.seq (.region [⟨none,.mv (.var 9),none⟩,⟨none,.bin .and (.tmp 0) (.cst (.int .u64 4294967295)),none⟩,⟨some 10,.mv (.tmp 1),none⟩]) (.seq (.region [⟨none,.mv (.var 9),none⟩,⟨none,.bin .shr (.tmp 0) (.cst (.int .u64 32)),none⟩,⟨some 11,.mv (.tmp 1),none⟩]) (.seq (.region [⟨none,.mv (.var 10),none⟩,⟨none,.mv (.var 4),none⟩,⟨none,.mv (.var 7),none⟩,⟨none,.bin .mul (.tmp 1) (.tmp 2),none⟩,⟨none,.bin .add (.tmp 0) (.tmp 3),none⟩,⟨some 10,.mv (.tmp 4),none⟩]) (.seq (.region [⟨none,.mv (.var 5),none⟩,⟨none,.mv (.var 7),none⟩,⟨none,.bin .mul (.tmp 0) (.tmp 1),none⟩,⟨none,.mv (.var 11),none⟩,⟨none,.bin .add (.tmp 2) (.tmp 3),none⟩,⟨none,.mv (.var 10),none⟩,⟨none,.bin .shr (.tmp 5) (.cst (.int .u64 32)),none⟩,⟨none,.bin .add (.tmp 4) (.tmp 6),none⟩,⟨some 2,.mv (.tmp 7),none⟩]) (.seq (.region [⟨none,.mv (.var 0),none⟩,⟨none,.mv (.var 1),none⟩,⟨none,.bin .mul (.tmp 0) (.tmp 1),none⟩,⟨some 3,.mv (.tmp 2),none⟩]) .ret))))))))))),[.tmp 2,.tmp 3]⟩
theorem CX:aA Tryz.prog Tryz.f185 2 [0,1,4,5,6,7,8,9,10,11,12,13] [] true ([],[])=some Gf:=by kernel_rfl
theorem MK:Tryz.prog.funcs[185]?=some Tryz.f185:=by kernel_rfl
namespace Sh
def yi:aB:=fun _=>bN (ac GS []) 0 BB
theorem tR:au Tryz.prog GS 159 yi:=(aG (ai an) rfl Na Dl aU.nil).y
theorem Ml (h:aE) {A:aa} {id:Nat} {o:AV} {l:List Int} {over by_:Int} (hr:A[id]?=some (.row 1 false [o])) (ho:bY A o 1 (l.map (.int .i64))) (hid:id ∉ aC o) (hl:l.length<=100) (hb:inI (by_-over)) :
  ∃B o',yi h [.ptr id 0 0,.int .i64 over,.int .i64 by_] A=some (.tup [],B)/\B[id]?=some (.row 1 false [o'])/\bY B o' 1 ((l++[by_-over]).map (.int .i64))/\(∀k∈aC o',A.length<=k)/\Fr A B (id :: aC o):=by
 have idl:id<A.length:=(List.getElem?_eq_some_iff.1 hr).1
 have sb:=pX hb
 obtain ⟨B,ap,ho',F,lB⟩:=ho.append (bytes:=8) (.int .i64 (by_-over)) (by omega) (by omega) (by rw [List.length_map]; omega)
 have hB:B[id]?=some (.row 1 false [o]):=F.at hr hid
 have e1:ba o 1 0 false 1=some o:=by
  rcases ho with ⟨rfl,_⟩ | ⟨_,k,rfl,_⟩ <;> rfl
 refine ⟨B.set id (.row 1 false [.sl A.length 0 ((l.map (AV.int .i64)).length+1)]),.sl A.length 0 ((l.map (AV.int .i64)).length+1),?_,?_,?_,?_,?_⟩
 ·unfold yi
  rw [aH _ _ rfl]
  generalize by_-over=z at *
  generalize (l.map (AV.int .i64)).length+1=n at *
  simp [BB,hr,sb,e1,ap,hB,az,-aj]
 ·rw [List.getElem?_set_self (by have:=F.1; omega)]
 ·rw [List.map_append]
  exact ho'.fr (Fr.set B id _) (fun k hk=>by simp [aC] at hk; simp; omega)
 ·intro k hk; simp [aC] at hk; omega
 ·exact F.trans (Fr.set B id _) (fun _ h=>List.mem_cons_of_mem _ h) (fun j _ h=>by simp at h; simp [h])
def Jc:aN:=fun args=>evP (ac GS []) 0 Bz 4 args
theorem zW:ak Tryz.prog GS 161 Jc:=ak.of_ev (E:=ac GS []) (ai an) rfl M7 Dj 4 fun _ _ h=>⟨0,h⟩
theorem Ea (n:Int):Jc [.int .i64 n]=some (.bool (decide (n<0))):=by
 have a:=di n 0
 unfold Jc
 rw [aZ _ _ rfl]
 simp [Bz,a,-aj]
def jx:AV:=.func (.func 161) [] []
def nj (n:Int):Bool:=decide (n<0)
def qL:List (FuncId × aB):=[(161,aK 4 Jc)]
@[simp] theorem Hf:aR qL 161=some (aK 4 Jc):=rfl
def IW:aN:=fun args=>evP (ac GS qL) 60 xf 1 args
theorem zL:ak Tryz.prog GS 177 IW:=ak.of_ev (E:=ac GS qL) (ai (ag (au.of_pure zW 4) an)) rfl MR C6 1 fun _ _ h=>⟨60,h⟩
theorem D5 {a:AV} {l:List Int} (ha:SlA 1 (l.map (.int .i64)) a) (hl:l.length<=50):IW [a,jx]=some (.int .i64 (nt nj l)):=by
 have len:=ha.len
 rw [List.length_map] at len
 have round:∀(A:aa) (i:Nat) (hi:i<l.length),run (ac GS qL) 60 [.code eu] (fS a jx (.int .i64 (l.length:Int)) (.int .i64 (i:Int))) A =
   if nj l[i]=false then some (.normal (fS a jx (.int .i64 (l.length:Int)) (.int .i64 ((i+1:Nat):Int))) A) else some (.ret [a,jx,.int .i64 (i:Int),.int .i64 (i:Int),.int .i64 (l.length:Int),.int .i64 (i:Int),.bool true,.bool true] A):=fun A i hi=>by
  have x1:ae 1 A a (.int .i64 (i:Int))=some (.fp [.int .i64 l[i]]):=SlA.int (A:=A) l .i64 ha (List.getElem?_eq_getElem hi) .i64
  have m:=Ea l[i]
  have b1:=bK i l.length .i64
  rw [decide_eq_true hi] at b1
  have b3:=aY i (by omega)
  obtain ⟨i1,hi1⟩:∃i1:Nat,i1=i+1:=⟨_,rfl⟩
  rw [<-hi1] at b3 ⊢
  have e:decide (l[i]<0)=nj l[i]:=rfl
  rw [e] at m
  obtain ⟨d,hd⟩:∃d,d=nj l[i]:=⟨_,rfl⟩
  rw [<-hd] at m ⊢
  cases d with
  | false=>simp [eu,jx,x1,m,frz,b1,b3,-aj,-ae,-ay]
  | true=>simp [eu,jx,x1,m,frz,b1,-aj,-ae,-ay]
 unfold IW
 rw [aZ _ _ rfl]
 rcases dk (E:=ac GS qL) (fuel:=60) (a:=eu) (mask:=eI) (m:=60) (fun i=>fS a jx (.int .i64 (l.length:Int)) (.int .i64 (i:Int))) (fun _=>[]) l.length (fun i=>¬ ∀hi:i<l.length,nj l[i]=false)
  (oF:=fun i=>.ret [a,jx,.int .i64 (i:Int),.int .i64 (i:Int),.int .i64 (l.length:Int),.int .i64 (i:Int),.bool true,.bool true] []) (oE:=.exit 0 ((fS a jx (.int .i64 (l.length:Int)) (.int .i64 (l.length:Int))).set 6 (.bool false)) [])
  (fun _=>vp) (fun _ _ _ h=>by cases h) (fun _ _ h=>by cases h)
  (fun i hi hp=>by
   rw [round [] i hi]
   exact if_pos (Classical.not_not.1 hp hi))
  (fun i hi hp=>by
   rw [round [] i hi]
   exact if_neg fun h=>hp fun _=>h)
  (by simp [eu]) (by omega) with ⟨i,hi,hp,hj,lp⟩ | ⟨hp,lp⟩
 ·have lp:bI (evC (ac GS qL) 60 eu) eI 60 (fS a jx (.int .i64 (l.length:Int)) (.int .i64 0)) []=_:=lp
  have e:nt nj l=(i:Int):=mq hi (by
   cases h:nj l[i] with
   | true=>rfl
   | false=>exact absurd (fun _=>h) hp) (fun j hj'=>Classical.not_not.1 (hj j hj') (by omega))
  rw [e]
  simp [xf,len,uG lp,-aj,-ay]
 ·have lp:bI (evC (ac GS qL) 60 eu) eI 60 (fS a jx (.int .i64 (l.length:Int)) (.int .i64 0)) []=_:=lp
  have e:nt nj l = -1:=mr fun i hi=>Classical.not_not.1 (hp i hi) hi
  rw [e]
  simp [xf,len,uG lp,-aj,-ay]
def CK:List (FuncId × aB):=[(177,aK 4 IW)]
@[simp] theorem Ho:aR CK 177=some (aK 4 IW):=rfl
def Jd:aN:=fun args=>evP (ac GS CK) 0 BA 1 args
theorem zX:ak Tryz.prog GS 160 Jd:=ak.of_ev (E:=ac GS CK) (ai (ag (au.of_pure zL 4) an)) rfl M8 Dk 1 fun _ _ h=>⟨0,h⟩
theorem Eb {a:AV} {l:List Int} (ha:SlA 1 (l.map (.int .i64)) a) (hl:l.length<=50):Jd [a,jx]=some (.bool (l.any nj)):=by
 have m:=D5 ha hl
 have b:=JV (nt nj l)
 rw [oN] at b
 have f1:∀n,frz [] n a=a:=fun n=>ha.frz n
 unfold Jd
 rw [aZ _ _ rfl]
 unfold jx at m ⊢
 generalize nt nj l=z at *
 simp [BA,m,b,f1,-aj]
def CQ:List (FuncId × aB):=[(160,aK 4 Jd)]
@[simp] theorem HH:aR CQ 160=some (aK 4 Jd):=rfl
def Jl:aN:=fun args=>evP (ac GS CQ) 0 BL 1 args
theorem Aq:ak Tryz.prog GS 122 Jl:=ak.of_ev (E:=ac GS CQ) (ai (ag (au.of_pure zX 4) an)) rfl NA DJ 1 fun _ _ h=>⟨0,h⟩
theorem vQ {a:AV} {l:List Int} (ha:SlA 1 (l.map (.int .i64)) a) (hl:l.length<=50):Jl [a]=some (.bool (l.any nj)):=by
 have m:=Eb ha hl
 have f1:∀n,frz [] n a=a:=fun n=>ha.frz n
 unfold Jl
 rw [aZ _ _ rfl]
 unfold jx at m
 simp [BL,m,f1]
end Sh
namespace Sh
def Cy:MC:=.region [⟨none,.mv (.var 9),none⟩,⟨none,.indexSl 6 (.var 7) (.var 9),none⟩,⟨none,.load true 6 (.tmp 1),none⟩,⟨some 4,.alloc 6 (.agg [.int .i64 0,.int .i64 0,.int .i64 0,.int .i64 0,.int .i64 0,.int .i64 0]),none⟩,⟨some 3,.mv (.tmp 0),none⟩,⟨none,.store 6 (.var 4) (.tmp 2),none⟩]
def Cx:MC:=.region [⟨none,.fieldAddr 2 (.var 4),none⟩,⟨none,.fieldAddr 1 (.tmp 0),none⟩,⟨none,.load false 1 (.tmp 1),none⟩,⟨none,.fieldAddr 1 (.var 4),none⟩,⟨none,.load false 1 (.tmp 3),none⟩,⟨none,.bin .add (.tmp 2) (.tmp 4),none⟩,⟨none,.bin .sub (.tmp 5) (.cst (.int .i64 1)),none⟩,⟨none,.fieldAddr 2 (.var 1),none⟩,⟨none,.load false 1 (.tmp 7),none⟩,⟨none,.bin .add (.tmp 6) (.tmp 8),none⟩,⟨none,.fieldAddr 4 (.var 4),none⟩,⟨none,.fieldAddr 1 (.tmp 10),none⟩,⟨none,.load false 1 (.tmp 11),none⟩,⟨none,.call (.fn 159) [.var 2,.tmp 9,.tmp 12],none⟩]
def Cw:MC:=.region [⟨none,.mv (.var 3),none⟩,⟨none,.bin .add (.tmp 0) (.cst (.int .i64 1)),none⟩,⟨none,.fieldAddr 3 (.var 1),none⟩,⟨none,.load false 1 (.tmp 2),none⟩,⟨none,.lenSl (.tmp 3),none⟩,⟨some 11,.bin .eql (.tmp 1) (.tmp 4),none⟩]
def Cv:MC:=.region [⟨none,.fieldAddr 3 (.var 1),none⟩,⟨none,.load false 1 (.tmp 0),none⟩,⟨none,.mv (.var 3),none⟩,⟨none,.bin .add (.tmp 2) (.cst (.int .i64 1)),none⟩,⟨none,.indexSl 6 (.tmp 1) (.tmp 3),none⟩,⟨none,.load true 6 (.tmp 4),none⟩,⟨some 5,.alloc 6 (.agg [.int .i64 0,.int .i64 0,.int .i64 0,.int .i64 0,.int .i64 0,.int .i64 0]),none⟩,⟨none,.store 6 (.var 5) (.tmp 5),none⟩]
def Cu:MC:=.region [⟨none,.fieldAddr 2 (.var 4),none⟩,⟨none,.fieldAddr 1 (.tmp 0),none⟩,⟨none,.load false 1 (.tmp 1),none⟩,⟨none,.fieldAddr 1 (.var 4),none⟩,⟨none,.load false 1 (.tmp 3),none⟩,⟨none,.bin .add (.tmp 2) (.tmp 4),none⟩,⟨none,.fieldAddr 2 (.var 1),none⟩,⟨none,.load false 1 (.tmp 6),none⟩,⟨none,.bin .add (.tmp 5) (.tmp 7),none⟩,⟨none,.fieldAddr 2 (.var 5),none⟩,⟨none,.fieldAddr 1 (.tmp 9),none⟩,⟨none,.load false 1 (.tmp 10),none⟩,⟨none,.call (.fn 159) [.var 2,.tmp 8,.tmp 11],none⟩]
def xL:MC:=.region [⟨none,.fieldAddr 2 (.var 5),none⟩,⟨none,.load true 2 (.tmp 0),none⟩,⟨some 6,.alloc 2 (.agg [.int .i64 0,.int .i64 0]),none⟩,⟨none,.store 2 (.var 6) (.tmp 1),none⟩]
def xK:MC:=.seq (.region [⟨none,.fieldAddr 2 (.var 5),none⟩,⟨none,.fieldAddr 0 (.tmp 0),none⟩,⟨none,.load false 1 (.tmp 1),none⟩,⟨none,.fieldAddr 2 (.var 4),none⟩,⟨none,.fieldAddr 0 (.tmp 3),none⟩,⟨none,.load false 1 (.tmp 4),none⟩,⟨some 12,.bin .eql (.tmp 2) (.tmp 5),none⟩]) (.cond (.var 12) (.region [⟨none,.fieldAddr 4 (.var 5),none⟩,⟨none,.load true 2 (.tmp 0),none⟩,⟨none,.store 2 (.var 6) (.tmp 1),none⟩]) .skip)
def uA:MC:=.region [⟨none,.fieldAddr 4 (.var 4),none⟩,⟨none,.fieldAddr 1 (.tmp 0),none⟩,⟨none,.load false 1 (.tmp 1),none⟩,⟨none,.fieldAddr 1 (.var 4),none⟩,⟨none,.load false 1 (.tmp 3),none⟩,⟨none,.bin .add (.tmp 2) (.tmp 4),none⟩,⟨none,.fieldAddr 2 (.var 1),none⟩,⟨none,.load false 1 (.tmp 6),none⟩,⟨none,.bin .add (.tmp 5) (.tmp 7),none⟩,⟨none,.fieldAddr 1 (.var 6),none⟩,⟨none,.load false 1 (.tmp 9),none⟩,⟨none,.call (.fn 159) [.var 2,.tmp 8,.tmp 10],none⟩]
theorem kw:gI=.seq (.region [⟨some 10,.bin .lss (.var 9) (.var 8),none⟩]) (.seq (.cond (.var 10) .skip (.exit 0)) (.seq (.seq (.block 1 (.seq Cy (.seq Cx (.seq (.seq Cw (.cond (.var 11) (.exit 0) .skip)) (.seq Cv (.seq Cu (.seq xL (.seq xK uA)))))))) (.kill [0,3,4,5,6,10,11,12])) (.region [⟨none,.bin .add (.var 9) (.cst (.int .i64 1)),none⟩,⟨some 9,.mv (.tmp 0),none⟩]))):=rfl
def cI:List (FuncId × aB):=[(159,yi)]
@[simp] theorem HI:aR cI 159=some yi:=rfl
section
variable {fuel:Nat} {K:List KC} {A B:aa} {p:Pl} {a b:AV}
theorem AP {i:Nat} {x:Stg} (v1 v2 v8 v10:AV) (ha:SlA 6 (p.stages.map aI) a) (hx:p.stages[i]?=some x) :
  run (ac GS cI) fuel (.code Cy :: K) [.undef,v1,v2,.undef,.undef,.undef,.undef,a,v8,.int .i64 (i:Int),v10,.undef,.undef] A =
   run (ac GS cI) fuel K [.undef,v1,v2,.int .i64 (i:Int),.ptr A.length 0 0,.undef,.undef,a,v8,.int .i64 (i:Int),v10,.undef,.undef] (A++[.row 6 false [aI x]]):=by
 have x1:∀A,ae 6 A a (.int .i64 (i:Int))=some (.fp [.int .i64 x.mn,.int .i64 x.mx,.int .i64 x.mt,.int .i64 x.ms,.int .i64 x.st,.int .i64 x.ss]):=fun A=>ha.index (A:=A) (x:=aI x) (by simp [hx]) rfl (by simp) .i64
 generalize (i:Int)=I at *
 simp [Cy,x1,aI,-ae]
theorem AO {xb:Nat} {x:Stg} (v3 v5 v6 v7 v8 v9 v10 v11:AV) (h0:A[0]?=some (.row 5 false [ax p a b])) (hx:A[xb]?=some (.row 6 false [aI x])) (w1:inI (x.ms+x.mx)) (w2:inI (x.ms+x.mx-1)) (w3:inI (x.ms+x.mx-1+p.hi))
  (hc:yi (fun _ _ _=>none) [.ptr 1 0 0,.int .i64 (x.ms+x.mx-1+p.hi),.int .i64 x.ss] A=some (.tup [],B)) :
  run (ac GS cI) fuel (.code Cx :: K) [.undef,.ptr 0 0 0,.ptr 1 0 0,v3,.ptr xb 0 0,v5,v6,v7,v8,v9,v10,v11,.undef] A =
   run (ac GS cI) fuel K [.undef,.ptr 0 0 0,.ptr 1 0 0,v3,.ptr xb 0 0,v5,v6,v7,v8,v9,v10,v11,.undef] B:=by
 have a1:=dX w1
 have a2:=pX w2
 have a3:=dX w3
 unfold aI ax at *
 generalize x.ms+x.mx-1+p.hi=z3 at *
 generalize x.ms+x.mx-1=z2 at *
 generalize x.ms+x.mx=z1 at *
 simp [Cx,h0,hx,a1,a2,a3,hc,-aj]
theorem AN {i:Nat} (v2 v4 v7 v8 v9 v10:AV) (h0:A[0]?=some (.row 5 false [ax p a b])) (ha:SlA 6 (p.stages.map aI) a) (hi:i<1000) :
  run (ac GS cI) fuel (.code Cw :: K) [.undef,.ptr 0 0 0,v2,.int .i64 (i:Int),v4,.undef,.undef,v7,v8,v9,v10,.undef,.undef] A =
   run (ac GS cI) fuel K [.undef,.ptr 0 0 0,v2,.int .i64 (i:Int),v4,.undef,.undef,v7,v8,v9,v10,.bool (decide (i+1=p.stages.length)),.undef] A:=by
 have a1:=aY i (by omega)
 have la:=ha.len
 rw [List.length_map] at la
 have e:aj .eql (.int .i64 ((i+1:Nat):Int)) (.int .i64 (p.stages.length:Int))=some (.bool (decide (i+1=p.stages.length))):=by
  rw [mK]
  congr 2
  rw [Bool.eq_iff_iff,decide_eq_true_iff,decide_eq_true_iff]
  omega
 unfold ax at *
 generalize decide (i+1=p.stages.length)=d at *
 generalize ((i+1:Nat):Int)=I1 at *
 generalize (p.stages.length:Int)=N at *
 simp [Cw,h0,a1,la,e,-aj,-ay]
theorem AM {i:Nat} {y:Stg} (v2 v4 v7 v8 v9 v10 v11:AV) (h0:A[0]?=some (.row 5 false [ax p a b])) (ha:SlA 6 (p.stages.map aI) a) (hy:p.stages[i+1]?=some y) (hi:i<1000) :
  run (ac GS cI) fuel (.code Cv :: K) [.undef,.ptr 0 0 0,v2,.int .i64 (i:Int),v4,.undef,.undef,v7,v8,v9,v10,v11,.undef] A =
   run (ac GS cI) fuel K [.undef,.ptr 0 0 0,v2,.int .i64 (i:Int),v4,.ptr A.length 0 0,.undef,v7,v8,v9,v10,v11,.undef] (A++[.row 6 false [aI y]]):=by
 have a1:=aY i (by omega)
 have x1:∀A,ae 6 A a (.int .i64 ((i+1:Nat):Int))=some (.fp [.int .i64 y.mn,.int .i64 y.mx,.int .i64 y.mt,.int .i64 y.ms,.int .i64 y.st,.int .i64 y.ss]):=fun A=>ha.index (A:=A) (x:=aI y) (by simp [hy]) rfl (by simp) .i64
 unfold ax at *
 generalize ((i+1:Nat):Int)=I1 at *
 simp [Cv,h0,a1,x1,aI,-aj,-ae]
theorem AL {xb yb:Nat} {x y:Stg} (v3 v6 v7 v8 v9 v10 v11:AV) (h0:A[0]?=some (.row 5 false [ax p a b])) (hx:A[xb]?=some (.row 6 false [aI x])) (hy:A[yb]?=some (.row 6 false [aI y])) (w1:inI (x.ms+x.mx)) (w2:inI (x.ms+x.mx+p.hi))
  (hc:yi (fun _ _ _=>none) [.ptr 1 0 0,.int .i64 (x.ms+x.mx+p.hi),.int .i64 y.ms] A=some (.tup [],B)) :
  run (ac GS cI) fuel (.code Cu :: K) [.undef,.ptr 0 0 0,.ptr 1 0 0,v3,.ptr xb 0 0,.ptr yb 0 0,v6,v7,v8,v9,v10,v11,.undef] A =
   run (ac GS cI) fuel K [.undef,.ptr 0 0 0,.ptr 1 0 0,v3,.ptr xb 0 0,.ptr yb 0 0,v6,v7,v8,v9,v10,v11,.undef] B:=by
 have a1:=dX w1
 have a2:=dX w2
 unfold aI ax at *
 generalize x.ms+x.mx+p.hi=z2 at *
 generalize x.ms+x.mx=z1 at *
 simp [Cu,h0,hx,hy,a1,a2,hc,-aj]
theorem wO {xb yb:Nat} {x y:Stg} (v2 v3 v7 v8 v9 v10 v11:AV) (hx:A[xb]?=some (.row 6 false [aI x])) (hy:A[yb]?=some (.row 6 false [aI y])) :
  run (ac GS cI) fuel (.code xL :: .code (.seq xK uA) :: K) [.undef,.ptr 0 0 0,v2,v3,.ptr xb 0 0,.ptr yb 0 0,.undef,v7,v8,v9,v10,v11,.undef] A =
   run (ac GS cI) fuel (.code uA :: K) [.undef,.ptr 0 0 0,v2,v3,.ptr xb 0 0,.ptr yb 0 0,.ptr A.length 0 0,v7,v8,v9,v10,v11,.bool (decide (y.mt=x.mt))] (A++[.row 2 false [.agg [.int .i64 (if y.mt=x.mt then y.st else y.mt),.int .i64 (if y.mt=x.mt then y.ss else y.ms)]]]):=by
 have xl:xb<A.length:=(List.getElem?_eq_some_iff.1 hx).1
 have yl:yb<A.length:=(List.getElem?_eq_some_iff.1 hy).1
 have c:=mK y.mt x.mt
 have gx:∀e:Ent,(A++[e])[xb]?=some (.row 6 false [aI x]):=fun e=>by rw [List.getElem?_append_left xl]; exact hx
 have gy:∀e:Ent,(A++[e])[yb]?=some (.row 6 false [aI y]):=fun e=>by rw [List.getElem?_append_left yl]; exact hy
 unfold aI at *
 by_cases h:y.mt=x.mt
 ·rw [decide_eq_true h] at c
  rw [if_pos h,if_pos h]
  rw [decide_eq_true h]
  simp [xL,xK,gx,gy,hy,c,Ez,Ey,-aj]
 ·rw [decide_eq_false h] at c
  rw [if_neg h,if_neg h]
  rw [decide_eq_false h]
  simp [xL,xK,gx,gy,hy,c,Ez,-aj]
theorem AK {xb sb:Nat} {x:Stg} {tool start:Int} (v3 v5 v7 v8 v9 v10 v11 v12:AV) (h0:A[0]?=some (.row 5 false [ax p a b])) (hx:A[xb]?=some (.row 6 false [aI x])) (hs:A[sb]?=some (.row 2 false [.agg [.int .i64 tool,.int .i64 start]])) (w1:inI (x.ss+x.mx)) (w2:inI (x.ss+x.mx+p.hi))
  (hc:yi (fun _ _ _=>none) [.ptr 1 0 0,.int .i64 (x.ss+x.mx+p.hi),.int .i64 start] A=some (.tup [],B)) :
  run (ac GS cI) fuel (.code uA :: K) [.undef,.ptr 0 0 0,.ptr 1 0 0,v3,.ptr xb 0 0,v5,.ptr sb 0 0,v7,v8,v9,v10,v11,v12] A =
   run (ac GS cI) fuel K [.undef,.ptr 0 0 0,.ptr 1 0 0,v3,.ptr xb 0 0,v5,.ptr sb 0 0,v7,v8,v9,v10,v11,v12] B:=by
 have a1:=dX w1
 have a2:=dX w2
 unfold aI ax at *
 generalize x.ss+x.mx+p.hi=z2 at *
 generalize x.ss+x.mx=z1 at *
 simp [uA,h0,hx,hs,a1,a2,hc,-aj]
end
end Sh
namespace Sh
def eF (p:Pl) (a b:AV) (l:List Int) (A:aa):Prop:=A[0]?=some (.row 5 false [ax p a b])/\∃o,A[1]?=some (.row 1 false [o])/\bY A o 1 (l.map (.int .i64))/\∀k∈aC o,2<=k
def EL (A B:aa):Prop:=∀j e,2<=j->A[j]?=some e->(∀es,e≠.row 1 false es)->B[j]?=some e
theorem eF.app {p:Pl} {a b:AV} {l:List Int} {A:aa} (h:eF p a b l A) (X:aa):eF p a b l (A++X):=by
 obtain ⟨h0,o,h1,h2,h3⟩:=h
 exact ⟨(Fr.app A X []).at h0 (by simp),o,(Fr.app A X []).at h1 (by simp),h2.fr (Fr.app A X []) (fun _ _ h=>by cases h),h3⟩
theorem EL.app (A X:aa):EL A (A++X):=fun j e _ h _=>(Fr.app A X []).at h (by simp)
theorem md {p:Pl} {a b:AV} {l:List Int} {A:aa} (h:eF p a b l A) {over by_:Int} (hl:l.length<=100) (hb:inI (by_-over)) :
  ∃B,yi (fun _ _ _=>none) [.ptr 1 0 0,.int .i64 over,.int .i64 by_] A=some (.tup [],B)/\eF p a b (l++[by_-over]) B/\EL A B:=by
 obtain ⟨h0,o,h1,h2,h3⟩:=h
 obtain ⟨B,o',c1,c2,c3,c4,c5⟩:=Ml (fun _ _ _=>none) h1 h2 (fun h=>by have:=h3 _ h; omega) hl hb
 have l1:1<A.length:=(List.getElem?_eq_some_iff.1 h1).1
 refine ⟨B,c1,⟨c5.at h0 (fun h=>?_),o',c2,c3,fun k hk=>by have:=c4 k hk; omega⟩,fun j e hj he hn=>c5.at he fun h=>?_⟩
 ·rcases List.mem_cons.1 h with h | h
  ·omega
  ·have:=h3 _ h; omega
 ·rcases List.mem_cons.1 h with h | h
  ·omega
  ·rcases h2 with ⟨rfl,_⟩ | ⟨_,id,rfl,hid⟩
   ·cases h
   ·simp [aC] at h
    subst h
    rw [hid] at he
    exact hn _ (Option.some.inj he).symm
def mgS (hi:Int):List Stg->List Int
 | []=>[]
 | [x]=>[x.ss-(x.ms+x.mx-1+hi)]
 | x :: y :: r=>(x.ss-(x.ms+x.mx-1+hi)) :: (y.ms-(x.ms+x.mx+hi)) :: ((if y.mt=x.mt then y.ss else y.ms)-(x.ss+x.mx+hi)) :: mgS hi (y :: r)
theorem ul (hi:Int):∀l:List Stg,(mgS hi l).length<=3*l.length
 | []=>by simp [mgS]
 | [x]=>by simp [mgS]
 | x :: y :: r=>by have:=ul hi (y :: r); simp only [mgS,List.length_cons] at *; omega
theorem um (hi:Int):∀(l:List Stg) (x:Stg) (from_:Int) (sp:Option (Int × Int)),dO hi from_ sp (x :: l)↔(from_+hi<=x.ms/\(∀mt lim,sp=some (mt,lim)->lim+hi<=(if x.mt=mt then x.ss else x.ms)))/\(∀z∈mgS hi (x :: l),0<=z)
 | [],x,from_,sp=>by
  simp only [dO,mgS,List.mem_singleton,forall_eq]
  constructor
  ·rintro ⟨h1,h2,h3,_⟩
   exact ⟨⟨h1,h3⟩,by omega⟩
  ·rintro ⟨⟨h1,h3⟩,h2⟩
   exact ⟨h1,by omega,h3,trivial⟩
 | y :: r,x,from_,sp=>by
  have ih:=um hi r y (x.ms+x.mx) (some (x.mt,x.ss+x.mx))
  rw [show dO hi from_ sp (x :: y :: r)↔from_+hi<=x.ms/\x.ms+x.mx-1+hi<=x.ss/\(∀mt lim,sp=some (mt,lim)->lim+hi<=(if x.mt=mt then x.ss else x.ms))/\dO hi (x.ms+x.mx) (some (x.mt,x.ss+x.mx)) (y :: r) from Iff.rfl,ih]
  simp only [mgS,List.mem_cons,forall_eq_or_imp,Option.some.injEq,Prod.mk.injEq]
  constructor
  ·rintro ⟨h1,h2,h3,⟨h4,h5⟩,h6⟩
   have:=h5 _ _ ⟨rfl,rfl⟩
   exact ⟨⟨h1,h3⟩,by omega,by omega,by omega,h6⟩
  ·rintro ⟨⟨h1,h3⟩,h2,h4,h5,h6⟩
   refine ⟨h1,by omega,h3,⟨by omega,?_⟩,h6⟩
   rintro mt lim ⟨rfl,rfl⟩
   omega
theorem sI {x:Stg} (h:bH x):(0<=x.ms/\x.ms<=1000000)/\(0<=x.ss/\x.ss<=1000000)/\(0<=x.mx/\x.mx<=10000)/\(0<=x.mn/\x.mn<=10000):=by
 obtain ⟨k1,k2,k3,k4,k5,k6,k7,k8⟩:=h
 omega
theorem w6 {p:Pl} {a b:AV} (ha:SlA 6 (p.stages.map aI) a) (hv:cL p) {i:Nat} {l:List Int} {A:aa} (hA:eF p a b l A) (hi:i<p.stages.length) (hl:l.length<=60) :
  (∃l' B,run (ac GS cI) 50 [.code gI] (iG (.ptr 0 0 0) (.ptr 1 0 0) a (.int .i64 (p.stages.length:Int)) (.int .i64 (i:Int))) A=some (.normal (iG (.ptr 0 0 0) (.ptr 1 0 0) a (.int .i64 (p.stages.length:Int)) (.int .i64 ((i+1:Nat):Int))) B)/\eF p a b l' B/\i+1<p.stages.length/\l++mgS p.hi (p.stages.drop i)=l'++mgS p.hi (p.stages.drop (i+1))/\l'.length=l.length+3) \/
  (∃ σ B,run (ac GS cI) 50 [.code gI] (iG (.ptr 0 0 0) (.ptr 1 0 0) a (.int .i64 (p.stages.length:Int)) (.int .i64 (i:Int))) A=some (.exit 0 σ B)/\eF p a b (l++mgS p.hi (p.stages.drop i)) B/\clear [0,1,3,4,5,6,7,8,9,10,11,12] σ=[.undef,.undef,.ptr 1 0 0,.undef,.undef,.undef,.undef,.undef,.undef,.undef,.undef,.undef,.undef]):=by
 obtain ⟨v1,v2,v3,v4,v5,v6,v7,v8⟩:=hv
 obtain ⟨x,hxe⟩:∃x,x=p.stages[i]!:=⟨_,rfl⟩
 have hx:p.stages[i]?=some x:=by rw [hxe]; exact get!_some hi
 have bx:=sI (v6 x (List.mem_of_getElem? hx))
 have hdrop:p.stages.drop i=x :: p.stages.drop (i+1):=by
  rw [List.drop_eq_getElem_cons hi]
  congr 1
  rw [List.getElem?_eq_getElem hi] at hx
  exact Option.some.inj hx
 have b1:=bK i p.stages.length .i64
 rw [decide_eq_true hi] at b1
 have b3:=aY i (by omega)
 have ra:=fun K=>AP (fuel:=50) (K:=K) (A:=A) (.ptr 0 0 0) (.ptr 1 0 0) (.int .i64 (p.stages.length:Int)) (.bool true) ha hx
 have hA1:=hA.app [.row 6 false [aI x]]
 have k1:(A++[Ent.row 6 false [aI x]])[A.length]?=some (.row 6 false [aI x]):=by simp
 have la:2<=A.length:=by
  obtain ⟨_,_,h1,_⟩:=hA
  have:=(List.getElem?_eq_some_iff.1 h1).1; omega
 generalize hA1e:A++[Ent.row 6 false [aI x]]=A1 at *
 obtain ⟨B1,c1,hB1,kb1⟩:=md hA1 (over:=x.ms+x.mx-1+p.hi) (by_:=x.ss) (by omega) (by unfold inI; omega)
 have rb:=fun K=>AO (fuel:=50) (K:=K) (.int .i64 (i:Int)) .undef .undef a (.int .i64 (p.stages.length:Int)) (.int .i64 (i:Int)) (.bool true) .undef hA1.1 k1 (by unfold inI; omega) (by unfold inI; omega) (by unfold inI; omega) c1
 have k2:=kb1 _ _ la k1 (fun _ h=>by cases h)
 have rc:=fun K=>AN (fuel:=50) (K:=K) (i:=i) (.ptr 1 0 0) (.ptr A.length 0 0) a (.int .i64 (p.stages.length:Int)) (.int .i64 (i:Int)) (.bool true) hB1.1 ha (by omega)
 by_cases hlast:i+1=p.stages.length
 ·have e:p.stages.drop (i+1)=[]:=List.drop_eq_nil_iff.2 (by omega)
  rw [hdrop,e]
  refine .inr ⟨[.undef,.ptr 0 0 0,.ptr 1 0 0,.int .i64 (i:Int),.ptr A.length 0 0,.undef,.undef,a,.int .i64 (p.stages.length:Int),.int .i64 (i:Int),.bool true,.bool true,.undef],B1,?_,hB1,by simp only [clear,List.foldl_cons,List.foldl_nil,List.set_cons_zero,List.set_cons_succ]⟩
  rw [kw]
  rw [decide_eq_true hlast] at rc
  generalize (p.stages.length:Int)=N at *
  generalize (i:Int)=I at *
  simp [ra,rb,rc,b1,-aj]
 ·have hi1:i+1<p.stages.length:=by omega
  obtain ⟨y,hye⟩:∃y,y=p.stages[i+1]!:=⟨_,rfl⟩
  have hy:p.stages[i+1]?=some y:=by rw [hye]; exact get!_some hi1
  have by':=sI (v6 y (List.mem_of_getElem? hy))
  have hdrop2:p.stages.drop (i+1)=y :: p.stages.drop (i+1+1):=by
   rw [List.drop_eq_getElem_cons hi1]
   congr 1
   rw [List.getElem?_eq_getElem hi1] at hy
   exact Option.some.inj hy
  rw [decide_eq_false hlast] at rc
  have rd:=fun K=>AM (fuel:=50) (K:=K) (i:=i) (.ptr 1 0 0) (.ptr A.length 0 0) a (.int .i64 (p.stages.length:Int)) (.int .i64 (i:Int)) (.bool true) (.bool false) hB1.1 ha hy (by omega)
  have hA2:=hB1.app [.row 6 false [aI y]]
  have m1:(B1++[Ent.row 6 false [aI y]])[B1.length]?=some (.row 6 false [aI y]):=by simp
  have k3:=(EL.app B1 [.row 6 false [aI y]]) _ _ la k2 (fun _ h=>by cases h)
  have lb1:2<=B1.length:=by have:=(List.getElem?_eq_some_iff.1 k2).1; omega
  generalize hA2e:B1++[Ent.row 6 false [aI y]]=A2 at *
  obtain ⟨B2,c2,hB2,kb2⟩:=md hA2 (over:=x.ms+x.mx+p.hi) (by_:=y.ms) (by simp; omega) (by unfold inI; omega)
  have re:=fun K=>AL (fuel:=50) (K:=K) (.int .i64 (i:Int)) .undef a (.int .i64 (p.stages.length:Int)) (.int .i64 (i:Int)) (.bool true) (.bool false) hA2.1 k3 m1 (by unfold inI; omega) (by unfold inI; omega) c2
  have k4:=kb2 _ _ la k3 (fun _ h=>by cases h)
  have m2:=kb2 _ _ lb1 m1 (fun _ h=>by cases h)
  have rfg0:=fun K=>wO (fuel:=50) (K:=K) (.ptr 1 0 0) (.int .i64 (i:Int)) a (.int .i64 (p.stages.length:Int)) (.int .i64 (i:Int)) (.bool true) (.bool false) k4 m2
  have hA3:=hB2.app [.row 2 false [.agg [.int .i64 (if y.mt=x.mt then y.st else y.mt),.int .i64 (if y.mt=x.mt then y.ss else y.ms)]]]
  have s1:(B2++[Ent.row 2 false [.agg [.int .i64 (if y.mt=x.mt then y.st else y.mt),.int .i64 (if y.mt=x.mt then y.ss else y.ms)]]])[B2.length]?=some (.row 2 false [.agg [.int .i64 (if y.mt=x.mt then y.st else y.mt),.int .i64 (if y.mt=x.mt then y.ss else y.ms)]]):=by simp
  have k5:=(EL.app B2 [.row 2 false [.agg [.int .i64 (if y.mt=x.mt then y.st else y.mt),.int .i64 (if y.mt=x.mt then y.ss else y.ms)]]]) _ _ la k4 (fun _ h=>by cases h)
  have hst:0<=(if y.mt=x.mt then y.ss else y.ms)/\(if y.mt=x.mt then y.ss else y.ms)<=1000000:=by split <;> omega
  generalize decide (y.mt=x.mt)=dq at *
  generalize (if y.mt=x.mt then y.st else y.mt)=tool at *
  generalize hste:(if y.mt=x.mt then y.ss else y.ms)=start at *
  generalize hA3e:B2++[Ent.row 2 false [.agg [.int .i64 tool,.int .i64 start]]]=A3 at *
  obtain ⟨B3,c3,hB3,kb3⟩:=md hA3 (over:=x.ss+x.mx+p.hi) (by_:=start) (by simp; omega) (by unfold inI; omega)
  have rh:=fun K q=>AK (fuel:=50) (K:=K) (.int .i64 (i:Int)) (.ptr B1.length 0 0) a (.int .i64 (p.stages.length:Int)) (.int .i64 (i:Int)) (.bool true) (.bool false) q hA3.1 k5 s1 (by unfold inI; omega) (by unfold inI; omega) c3
  refine .inl ⟨_,B3,?_,hB3,hi1,?_,by simp⟩
  ·rw [kw]
   generalize ((i+1:Nat):Int)=I1 at *
   generalize (p.stages.length:Int)=N at *
   generalize (i:Int)=I at *
   simp [ra,rb,rc,rd,re,rfg0,rh,b1,b3,-aj]
  ·rw [hdrop,hdrop2]
   simp only [mgS,hste,List.append_assoc,List.cons_append,List.nil_append]
end Sh
namespace Sh
theorem Cj {p:Pl} {a b:AV} (ha:SlA 6 (p.stages.map aI) a) (hv:cL p) {l0:List Int} {A:aa} (hA:eF p a b l0 A) (hl:l0.length<=1) :
  ∃ σ B,bI (evC (ac GS cI) 50 gI) gC 50 (iG (.ptr 0 0 0) (.ptr 1 0 0) a (.int .i64 (p.stages.length:Int)) (.int .i64 0)) A=some (.exit 0 σ B)/\eF p a b (l0++mgS p.hi p.stages) B/\clear [0,1,3,4,5,6,7,8,9,10,11,12] σ=[.undef,.undef,.ptr 1 0 0,.undef,.undef,.undef,.undef,.undef,.undef,.undef,.undef,.undef,.undef]:=by
 have hn:=hv.2.2.2.1
 have key:=fk (E:=ac GS cI) (fuel:=50) (a:=gI) (mask:=gC)
  (fun κ σ A=>∃i l,i+κ=p.stages.length/\i<p.stages.length/\σ=iG (.ptr 0 0 0) (.ptr 1 0 0) a (.int .i64 (p.stages.length:Int)) (.int .i64 (i:Int))/\eF p a b l A/\l++mgS p.hi (p.stages.drop i)=l0++mgS p.hi p.stages/\l.length<=1+3*i)
  (fun o=>∃ σ B,o=.exit 0 σ B/\eF p a b (l0++mgS p.hi p.stages) B/\clear [0,1,3,4,5,6,7,8,9,10,11,12] σ=[.undef,.undef,.ptr 1 0 0,.undef,.undef,.undef,.undef,.undef,.undef,.undef,.undef,.undef,.undef])
  (by
  rintro κ σ A ⟨i,l,hk,hi,rfl,hA,he,hl⟩
  rw [vy]
  rcases w6 ha hv hA hi (by omega) with ⟨l',B,h1,h2,h3,h4,h5⟩ | ⟨σ,B,h1,h2,h3⟩
  ·exact .inl ⟨_,B,h1,κ-1,by omega,i+1,l',by omega,h3,rfl,h2,h4.symm.trans he,by omega⟩
  ·rw [he] at h2
   exact .inr ⟨_,h1,(fun _ _ h=>by cases h),σ,B,rfl,h2,h3⟩)
  50 p.stages.length _ A (by omega) ⟨0,l0,by omega,by omega,rfl,hA,rfl,by omega⟩
 obtain ⟨o,h1,σ,B,rfl,h2⟩:=key
 exact ⟨σ,B,h1,h2⟩
def Jm:aN:=fun args=>evP (ac GS cI) 50 BM 4 args
theorem Ar:ak Tryz.prog GS 121 Jm:=ak.of_ev (E:=ac GS cI) (ai (ag tR an)) rfl NB DK 4 fun _ _ h=>⟨50,h⟩
def jT (p:Pl):List Int:=((p.stages[0]!).ms-(p.e+p.hi)) :: mgS p.hi p.stages
theorem uk {A:aa} {o:AV} {l:List Int} (h:bY A o 1 (l.map (.int .i64))) (n:Nat):frz A (n+1) o=slA 1 (l.map (.int .i64)):=h.frz n fun x hx=>by
 obtain ⟨z,_,rfl⟩:=List.mem_map.1 hx
 cases n <;> rfl
theorem rU {A:aa} {o:AV} {esz:Nat} {es:List AV} (h:bY A o esz es):ba o 1 0 false 1=some o:=by
 rcases h with ⟨rfl,_⟩ | ⟨_,k,rfl,_⟩ <;> rfl
theorem mS {A:aa} {o:AV} {esz:Nat} {es:List AV} (h:bY A o esz es):cellsOf o=[o]/\o.solid=true:=by
 rcases h with ⟨rfl,_⟩ | ⟨_,k,rfl,_⟩ <;> exact ⟨rfl,rfl⟩
theorem El (p:Pl) {a b:AV} (ha:SlA 6 (p.stages.map aI) a) (hv:cL p):Jm [ax p a b]=some (slA 1 ((jT p).map (.int .i64))):=by
 have hv':=hv
 obtain ⟨v1,v2,v3,v4,v5,v6,v7,v8⟩:=hv
 have hx:p.stages[0]?=some p.stages[0]!:=get!_some (by omega)
 have bx:=sI (v6 _ (List.mem_of_getElem? hx))
 have x1:∀A,ae 6 A a (.int .i64 ((0:Nat):Int))=some (.fp [.int .i64 (p.stages[0]!).mn,.int .i64 (p.stages[0]!).mx,.int .i64 (p.stages[0]!).mt,.int .i64 (p.stages[0]!).ms,.int .i64 (p.stages[0]!).st,.int .i64 (p.stages[0]!).ss]):=fun A=>ha.index (A:=A) (x:=aI p.stages[0]!) (by rw [List.getElem?_map,hx]; rfl) rfl (by simp) .i64
 have x1:∀A,ae 6 A a (.int .i64 0)=_:=x1
 have a1:=dX (x:=p.e) (y:=p.hi) (by unfold inI; omega)
 have la:=ha.len
 rw [List.length_map] at la
 have h0:eF p a b [] [.row 5 false [ax p a b],.row 1 false [.nilS]]:=⟨rfl,.nilS,rfl,.inl ⟨rfl,rfl⟩,fun k h=>by cases h⟩
 obtain ⟨B,c1,hB,_⟩:=md h0 (over:=p.e+p.hi) (by_:=(p.stages[0]!).ms) (by simp) (by unfold inI; omega)
 obtain ⟨σ,C,lp,hC,hcl⟩:=Cj ha hv' hB (by simp)
 have hB0':=hB.1
 obtain ⟨hC0,o,hC1,ho,hid⟩:=hC
 have lC:1<C.length:=(List.getElem?_eq_some_iff.1 hC1).1
 have e1:=rU ho
 have hset:C.set 1 (.row 1 false [o])=C:=by
  apply List.ext_getElem?
  intro j
  by_cases hj:1=j
  ·subst hj; rw [List.getElem?_set_self lC,hC1]
  ·rw [List.getElem?_set_ne hj]
 have st:aP 1 C (.ptr 1 0 0) o=some C:=by
  have e2:=mS ho
  simp only [aP,hC1,List.getElem?_cons_zero,e2.1,e2.2,az,List.length_singleton,and_self,if_true,List.set_cons_zero]
  simp [hset]
 have fo:frz C 4 o=slA 1 ((jT p).map (.int .i64)):=uk ho 3
 unfold Jm
 rw [aZ _ _ rfl]
 generalize (jT p).map (AV.int .i64)=L at *
 clear hv' v1 v2 v3 v4 v5 v6 v7 v8 bx hx hC0 hid ho h0
 generalize p.stages[0]! = s0 at *
 unfold ax at *
 generalize p.e+p.hi=z at *
 generalize (p.stages.length:Int)=N at *
 simp [BM,x1,a1,c1,la,CG lp,hcl,hC1,e1,st,fo,hB0',-aP,-aj,-ae,-ay,-clear]
end Sh
namespace Sh
def Ct:MC:=.region [⟨none,.indexSl 3 (.var 5) (.var 7),none⟩,⟨none,.load true 3 (.tmp 0),none⟩,⟨some 3,.alloc 3 (.agg [.int .i64 0,.int .i64 0,.int .i64 0]),none⟩,⟨none,.store 3 (.var 3) (.tmp 1),none⟩]
def Cs:MC:=.region [⟨none,.fieldAddr 3 (.var 1),none⟩,⟨none,.load false 1 (.tmp 0),none⟩,⟨none,.fieldAddr 0 (.var 3),none⟩,⟨none,.load false 1 (.tmp 2),none⟩,⟨none,.indexSl 6 (.tmp 1) (.tmp 3),none⟩,⟨none,.load true 6 (.tmp 4),none⟩,⟨some 4,.alloc 6 (.agg [.int .i64 0,.int .i64 0,.int .i64 0,.int .i64 0,.int .i64 0,.int .i64 0]),none⟩,⟨none,.store 6 (.var 4) (.tmp 5),none⟩]
def Cr:MC:=.region [⟨none,.fieldAddr 3 (.var 1),none⟩,⟨none,.load false 1 (.tmp 0),none⟩,⟨none,.fieldAddr 1 (.var 3),none⟩,⟨none,.load false 1 (.tmp 2),none⟩,⟨none,.indexSl 6 (.tmp 1) (.tmp 3),none⟩,⟨none,.fieldAddr 4 (.tmp 4),none⟩,⟨none,.fieldAddr 1 (.tmp 5),none⟩,⟨none,.load false 1 (.tmp 6),none⟩,⟨none,.fieldAddr 2 (.var 4),none⟩,⟨none,.fieldAddr 1 (.tmp 8),none⟩,⟨none,.load false 1 (.tmp 9),none⟩,⟨none,.fieldAddr 0 (.var 4),none⟩,⟨none,.load false 1 (.tmp 11),none⟩,⟨none,.bin .add (.tmp 10) (.tmp 12),none⟩,⟨none,.fieldAddr 2 (.var 3),none⟩,⟨none,.load false 1 (.tmp 14),none⟩,⟨none,.bin .add (.tmp 13) (.tmp 15),none⟩,⟨none,.call (.fn 159) [.var 2,.tmp 7,.tmp 16],none⟩]
theorem pK:gH=.seq (.region [⟨some 8,.bin .lss (.var 7) (.var 6),none⟩]) (.seq (.cond (.var 8) .skip (.exit 0)) (.seq (.seq (.block 1 (.seq Ct (.seq Cs Cr))) (.kill [0,3,4,8])) (.region [⟨none,.bin .add (.var 7) (.cst (.int .i64 1)),none⟩,⟨some 7,.mv (.tmp 0),none⟩]))):=rfl
def mgW (p:Pl) (w:Win):Int:=((p.stages[w.f.toNat]!).ms+(p.stages[w.f.toNat]!).mn+w.l)-(p.stages[w.t.toNat]!).ss
theorem wY {p:Pl} {a b:AV} (ha:SlA 6 (p.stages.map aI) a) (hb:SlA 3 (p.wins.map bi) b) (hv:cL p) {k:Nat} {l:List Int} {A:aa} (hA:eF p a b l A) {w:Win} (hw:p.wins[k]?=some w) (hl:l.length<=60) :
  ∃B,run (ac GS cI) 50 [.code gH] (fZ (.ptr 0 0 0) (.ptr 1 0 0) b (.int .i64 (p.wins.length:Int)) (.int .i64 (k:Int))) A=some (.normal (fZ (.ptr 0 0 0) (.ptr 1 0 0) b (.int .i64 (p.wins.length:Int)) (.int .i64 ((k+1:Nat):Int))) B)/\eF p a b (l++[mgW p w]) B:=by
 obtain ⟨v1,v2,v3,v4,v5,v6,v7,v8⟩:=hv
 have hk:k<p.wins.length:=(List.getElem?_eq_some_iff.1 hw).1
 obtain ⟨w1,w2,w3,w4,w5⟩:=v7 w (List.mem_of_getElem? hw)
 obtain ⟨f,hf⟩:∃f:Nat,w.f=(f:Int):=⟨w.f.toNat,by omega⟩
 obtain ⟨g,hg⟩:∃g:Nat,w.t=(g:Int):=⟨w.t.toNat,by omega⟩
 have hx:p.stages[f]?=some p.stages[f]!:=get!_some (by omega)
 have hy:p.stages[g]?=some p.stages[g]!:=get!_some (by omega)
 have bx:=sI (v6 _ (List.mem_of_getElem? hx))
 have by':=sI (v6 _ (List.mem_of_getElem? hy))
 have hmg:mgW p w=((p.stages[f]!).ms+(p.stages[f]!).mn+w.l)-(p.stages[g]!).ss:=by
  unfold mgW; rw [hf,hg,Int.toNat_natCast,Int.toNat_natCast]
 rw [hmg]
 generalize p.stages[f]! = x at *
 generalize p.stages[g]! = y at *
 have x1:∀A,ae 3 A b (.int .i64 (k:Int))=some (.fp [.int .i64 (f:Int),.int .i64 (g:Int),.int .i64 w.l]):=fun A=>by
  have:=hb.index (A:=A) (x:=bi w) (by rw [List.getElem?_map,hw]; rfl) rfl (by simp) .i64
  rw [this,<-hf,<-hg]; rfl
 have x2:∀A,ae 6 A a (.int .i64 (f:Int))=some (.fp [.int .i64 x.mn,.int .i64 x.mx,.int .i64 x.mt,.int .i64 x.ms,.int .i64 x.st,.int .i64 x.ss]):=fun A=>ha.index (A:=A) (x:=aI x) (by rw [List.getElem?_map,hx]; rfl) rfl (by simp) .i64
 have x3:∀A,ae 6 A a (.int .i64 (g:Int))=some (.fp [.int .i64 y.mn,.int .i64 y.mx,.int .i64 y.mt,.int .i64 y.ms,.int .i64 y.st,.int .i64 y.ss]):=fun A=>ha.index (A:=A) (x:=aI y) (by rw [List.getElem?_map,hy]; rfl) rfl (by simp) .i64
 have b1:=bK k p.wins.length .i64
 rw [decide_eq_true hk] at b1
 have b3:=aY k (by omega)
 have a1:=dX (x:=x.ms) (y:=x.mn) (by unfold inI; omega)
 have a2:=dX (x:=x.ms+x.mn) (y:=w.l) (by unfold inI; omega)
 have hA1:=hA.app [.row 3 false [.agg [.int .i64 (f:Int),.int .i64 (g:Int),.int .i64 w.l]]]
 have k1:(A++[Ent.row 3 false [.agg [.int .i64 (f:Int),.int .i64 (g:Int),.int .i64 w.l]]])[A.length]?=some (.row 3 false [.agg [.int .i64 (f:Int),.int .i64 (g:Int),.int .i64 w.l]]):=by simp
 have r1:∀K,run (ac GS cI) 50 (.code Ct :: K) [.undef,.ptr 0 0 0,.ptr 1 0 0,.undef,.undef,b,.int .i64 (p.wins.length:Int),.int .i64 (k:Int),.bool true] A=run (ac GS cI) 50 K [.undef,.ptr 0 0 0,.ptr 1 0 0,.ptr A.length 0 0,.undef,b,.int .i64 (p.wins.length:Int),.int .i64 (k:Int),.bool true] (A++[.row 3 false [.agg [.int .i64 (f:Int),.int .i64 (g:Int),.int .i64 w.l]]]):=fun K=>by
  clear hA hA1
  generalize (p.wins.length:Int)=N at *
  generalize (k:Int)=K at *
  simp [Ct,x1,-ae]
 have la:2<=A.length:=by
  obtain ⟨_,_,h1,_⟩:=hA
  have:=(List.getElem?_eq_some_iff.1 h1).1; omega
 generalize A++[Ent.row 3 false [.agg [.int .i64 (f:Int),.int .i64 (g:Int),.int .i64 w.l]]]=A1 at *
 obtain ⟨h01,_⟩:=hA1
 have hA2:=(show eF p a b l A1 from ⟨h01,by assumption⟩).app [.row 6 false [aI x]]
 have k2:(A1++[Ent.row 6 false [aI x]])[A1.length]?=some (.row 6 false [aI x]):=by simp
 have k3:=(EL.app A1 [.row 6 false [aI x]]) _ _ la k1 (fun _ h=>by cases h)
 have r2:∀K,run (ac GS cI) 50 (.code Cs :: K) [.undef,.ptr 0 0 0,.ptr 1 0 0,.ptr A.length 0 0,.undef,b,.int .i64 (p.wins.length:Int),.int .i64 (k:Int),.bool true] A1=run (ac GS cI) 50 K [.undef,.ptr 0 0 0,.ptr 1 0 0,.ptr A.length 0 0,.ptr A1.length 0 0,b,.int .i64 (p.wins.length:Int),.int .i64 (k:Int),.bool true] (A1++[.row 6 false [aI x]]):=fun K=>by
  unfold ax at h01
  unfold aI
  generalize (p.wins.length:Int)=N at *
  generalize (k:Int)=K at *
  generalize (f:Int)=F at *
  simp [Cs,h01,k1,x2,-ae]
 generalize A1++[Ent.row 6 false [aI x]]=A2 at *
 obtain ⟨B,c1,hB,_⟩:=md hA2 (over:=y.ss) (by_:=x.ms+x.mn+w.l) (by omega) (by unfold inI; omega)
 have h02:=hA2.1
 have r3:∀K,run (ac GS cI) 50 (.code Cr :: K) [.undef,.ptr 0 0 0,.ptr 1 0 0,.ptr A.length 0 0,.ptr A1.length 0 0,b,.int .i64 (p.wins.length:Int),.int .i64 (k:Int),.bool true] A2=run (ac GS cI) 50 K [.undef,.ptr 0 0 0,.ptr 1 0 0,.ptr A.length 0 0,.ptr A1.length 0 0,b,.int .i64 (p.wins.length:Int),.int .i64 (k:Int),.bool true] B:=fun K=>by
  unfold ax at h02
  unfold aI at k2
  generalize (p.wins.length:Int)=N at *
  generalize (k:Int)=K at *
  generalize (f:Int)=F at *
  generalize (g:Int)=G' at *
  generalize x.ms+x.mn+w.l=z2 at *
  generalize x.ms+x.mn=z1 at *
  simp [Cr,h02,k2,k3,x3,a1,a2,c1,-aj,-ae]
 refine ⟨B,?_,hB⟩
 rw [pK]
 generalize ((k+1:Nat):Int)=K1 at *
 generalize (p.wins.length:Int)=N at *
 generalize (k:Int)=K at *
 simp [r1,r2,r3,b1,b3,-aj]
theorem Ci {p:Pl} {a b:AV} (ha:SlA 6 (p.stages.map aI) a) (hb:SlA 3 (p.wins.map bi) b) (hv:cL p) {A:aa} (hA:eF p a b [] A) :
  ∃B,bI (evC (ac GS cI) 50 gH) gB 50 (fZ (.ptr 0 0 0) (.ptr 1 0 0) b (.int .i64 (p.wins.length:Int)) (.int .i64 0)) A=some (.exit 0 ((fZ (.ptr 0 0 0) (.ptr 1 0 0) b (.int .i64 (p.wins.length:Int)) (.int .i64 (p.wins.length:Int))).set 8 (.bool false)) B)/\eF p a b (p.wins.map (mgW p)) B:=by
 have hn:=hv.2.2.2.2.1
 have key:=fk (E:=ac GS cI) (fuel:=50) (a:=gH) (mask:=gB)
  (fun κ σ A=>∃i,i+κ=p.wins.length/\σ=fZ (.ptr 0 0 0) (.ptr 1 0 0) b (.int .i64 (p.wins.length:Int)) (.int .i64 (i:Int))/\eF p a b ((p.wins.take i).map (mgW p)) A)
  (fun o=>∃B,o=.exit 0 ((fZ (.ptr 0 0 0) (.ptr 1 0 0) b (.int .i64 (p.wins.length:Int)) (.int .i64 (p.wins.length:Int))).set 8 (.bool false)) B/\eF p a b (p.wins.map (mgW p)) B)
  (by
  rintro κ σ A ⟨i,hk,rfl,hA⟩
  rw [vx]
  by_cases hi:i<p.wins.length
  ·obtain ⟨B,h1,h2⟩:=wY ha hb hv hA (List.getElem?_eq_getElem hi) (by simp; omega)
   refine .inl ⟨_,B,h1,κ-1,by omega,i+1,by omega,rfl,?_⟩
   rw [<-List.take_append_getElem hi,List.map_append]
   exact h2
  ·obtain rfl:i=p.wins.length:=by omega
   rw [List.take_length] at hA
   refine .inr ⟨_,?_,(fun _ _ h=>by cases h),A,rfl,hA⟩
   simp [gH])
  50 p.wins.length _ A (by omega) ⟨0,by omega,rfl,hA⟩
 obtain ⟨o,h1,B,rfl,h2⟩:=key
 exact ⟨B,h1,h2⟩
def Jk:aN:=fun args=>evP (ac GS cI) 50 BK 4 args
theorem Ap:ak Tryz.prog GS 123 Jk:=ak.of_ev (E:=ac GS cI) (ai (ag tR an)) rfl Nz DI 4 fun _ _ h=>⟨50,h⟩
theorem Ek (p:Pl) {a b:AV} (ha:SlA 6 (p.stages.map aI) a) (hb:SlA 3 (p.wins.map bi) b) (hv:cL p):Jk [ax p a b]=some (slA 1 ((p.wins.map (mgW p)).map (.int .i64))):=by
 have lb:=hb.len
 rw [List.length_map] at lb
 have h0:eF p a b [] [.row 5 false [ax p a b],.row 1 false [.nilS]]:=⟨rfl,.nilS,rfl,.inl ⟨rfl,rfl⟩,fun k h=>by cases h⟩
 obtain ⟨C,lp,hC⟩:=Ci ha hb hv h0
 obtain ⟨hC0,o,hC1,ho,hid⟩:=hC
 have lC:1<C.length:=(List.getElem?_eq_some_iff.1 hC1).1
 have e1:=rU ho
 have hset:C.set 1 (.row 1 false [o])=C:=by
  apply List.ext_getElem?
  intro j
  by_cases hj:1=j
  ·subst hj; rw [List.getElem?_set_self lC,hC1]
  ·rw [List.getElem?_set_ne hj]
 have st:aP 1 C (.ptr 1 0 0) o=some C:=by
  have e2:=mS ho
  simp only [aP,hC1,List.getElem?_cons_zero,e2.1,e2.2,az,List.length_singleton,and_self,if_true,List.set_cons_zero]
  simp [hset]
 have fo:frz C 4 o=slA 1 ((p.wins.map (mgW p)).map (.int .i64)):=uk ho 3
 unfold Jk
 rw [aZ _ _ rfl]
 generalize (p.wins.map (mgW p)).map (AV.int .i64)=L at *
 clear hC0 hid ho h0
 unfold ax at *
 generalize (p.wins.length:Int)=N at *
 simp [BK,lb,CF lp,hC1,e1,st,fo,-aP,-aj,-ay]
theorem sq (p:Pl):rp p.stages p.wins↔(p.wins.map (mgW p)).any nj=false:=by
 rw [List.any_eq_false]
 unfold rp
 constructor
 ·intro h z hz
  obtain ⟨w,hw,rfl⟩:=List.mem_map.1 hz
  have:=h w hw
  unfold nj mgW
  simp only [decide_eq_true_eq]
  omega
 ·intro h w hw
  have:=h _ (List.mem_map_of_mem hw)
  unfold nj mgW at this
  simp only [decide_eq_true_eq] at this
  omega
theorem qB {p:Pl} (hv:cL p):dO p.hi p.e none p.stages↔(jT p).any nj=false:=by
 have hn:=hv.2.2.2.1
 unfold jT
 rw [List.any_eq_false]
 cases hs:p.stages with
 | nil=>rw [hs] at hn; simp at hn
 | cons x r=>
  rw [um]
  have e:(x :: r)[0]! = x:=rfl
  rw [e]
  simp only [List.mem_cons,forall_eq_or_imp]
  unfold nj
  simp only [decide_eq_true_eq]
  constructor
  ·rintro ⟨⟨h1,_⟩,h2⟩
   refine ⟨by omega,fun z hz=>?_⟩
   have:=h2 z hz
   omega
  ·rintro ⟨h1,h2⟩
   refine ⟨⟨by omega,fun _ _ h=>by cases h⟩,fun z hz=>?_⟩
   have:=h2 z hz
   omega
def EA:List (FuncId × aB):=[(74,aK 4 M74),(121,aK 4 Jm),(122,aK 4 Jl),(123,aK 4 Jk)]
@[simp] theorem LM:aR EA 74=some (aK 4 M74):=rfl
@[simp] theorem J9:aR EA 121=some (aK 4 Jm):=rfl
@[simp] theorem J8:aR EA 122=some (aK 4 Jl):=rfl
@[simp] theorem J7:aR EA 123=some (aK 4 Jk):=rfl
def M73:aN:=fun args=>evP (ac GS EA) 0 Ga 1 args
theorem E4:ak Tryz.prog GS 73 M73:=ak.of_ev (E:=ac GS EA) (ai (ag (au.of_pure rD 4) (ag (au.of_pure Ar 4) (ag (au.of_pure Aq 4) (ag (au.of_pure Ap 4) an))))) rfl at73 Ih 1 fun _ _ h=>⟨0,h⟩
theorem IR (p:Pl) {a b:AV} (ha:SlA 6 (p.stages.map aI) a) (hb:SlA 3 (p.wins.map bi) b):∃v:Bool,M73 [ax p a b]=some (.bool v)/\(v=true↔vJ p):=by
 obtain ⟨v,h1,i1⟩:=sk p ha hb
 have fa:∀A n,frz A n a=a:=fun A n=>ha.frz n
 have fb:∀A n,frz A n b=b:=fun A n=>hb.frz n
 have na:∀n,br n a=true:=fun n=>by cases n <;> rcases ha with ⟨rfl,_⟩ | rfl <;> rfl
 have nb:∀n,br n b=true:=fun n=>by cases n <;> rcases hb with ⟨rfl,_⟩ | rfl <;> rfl
 unfold M73
 rw [aZ _ _ rfl]
 cases v with
 | false=>
  refine ⟨false,?_,fun h=>(by cases h),fun h=>i1.2 h.1⟩
  unfold ax at *
  simp [Ga,h1,fa,fb]
 | true=>
  have hv:=i1.1 rfl
  have m1:=El p (b:=b) ha hv
  have m2:=Ek p ha hb hv
  have l1:(jT p).length<=50:=by
   have:=ul p.hi p.stages
   have:=hv.2.2.2.1
   unfold jT
   simp only [List.length_cons]; omega
  have q1:=vQ (bu 1 ((jT p).map (.int .i64))) l1
  have q2:=vQ (bu 1 ((p.wins.map (mgW p)).map (.int .i64))) (by rw [List.length_map]; have:=hv.2.2.2.2.1; omega)
  have f1:∀A n,frz A n (slA 1 ((jT p).map (.int .i64)))=slA 1 ((jT p).map (.int .i64)):=fun A n=>(bu 1 _).frz n
  have f2:∀A n,frz A n (slA 1 ((p.wins.map (mgW p)).map (.int .i64)))=slA 1 ((p.wins.map (mgW p)).map (.int .i64)):=fun A n=>(bu 1 _).frz n
  refine ⟨!(jT p).any nj && !(p.wins.map (mgW p)).any nj,?_,?_⟩
  ·generalize (jT p).any nj=z1 at *
   generalize (p.wins.map (mgW p)).any nj=z2 at *
   generalize slA 1 ((jT p).map (.int .i64))=s1 at *
   generalize slA 1 ((p.wins.map (mgW p)).map (.int .i64))=s2 at *
   unfold ax at *
   cases z1 with
   | true=>simp [Ga,h1,fa,fb,na,nb,m1,q1,f1]
   | false=>simp [Ga,h1,fa,fb,na,nb,m1,q1,f1,m2,q2,f2]
  ·rw [Bool.and_eq_true,Bool.not_eq_true',Bool.not_eq_true',<-qB hv,<-sq]
   exact ⟨fun h=>⟨hv,h.1,h.2⟩,fun h=>⟨h.2.1,h.2.2⟩⟩
end Sh
def shf (L:Nat):Nat->AV->AV
 | _,.sl id off len=>.sl (L+id) off len
 | _,.csl id off len=>.csl (L+id) off len
 | _,.ptr id i o=>.ptr (L+id) i o
 | _,.map id=>.map (L+id)
 | n+1,.agg cs=>.agg (cs.map (shf L n))
 | n+1,.tup cs=>.tup (cs.map (shf L n))
 | n+1,.func fn c1 c2=>.func fn (c1.map (shf L n)) (c2.map (shf L n))
 | n+1,.iface t v=>.iface t (shf L n v)
 | 0,.agg _=>.undef
 | 0,.tup _=>.undef
 | 0,.func ..=>.undef
 | 0,.iface ..=>.undef
 | _,a=>a
def tX (L n:Nat):Ent->Ent
 | .row s gr es=>.row s gr (es.map (shf L n))
 | .map kvs=>.map (kvs.map fun x=>(shf L n x.1,shf L n x.2))
 | .loop r k=>.loop r k
 | .dead=>.dead
section
variable {w:World} {OK:Nat->Prop} {g g2:aq} {L:Nat}
theorem i7 (hg:∀id inc,inc∈g id->inc∈g2 (L+id)):∀(n:Nat) (a:AV) (v:Value),aJ w OK g v a->aJ w OK g2 v (shf L n a):=by
 intro n
 induction n with
 | zero=>
  intro a v h
  cases h with
  | undef=>exact .undef _ _
  | bool=>exact .bool _ _
  | int=>exact .int _ _ _
  | str _ s l h=>exact .str _ _ _ h
  | nilS _ p=>exact .nilS _ _
  | nilP=>exact .nilP _
  | nilM=>exact .nilM _
  | nilF=>exact .nilF _
  | nilI=>exact .nilI _
  | fs _ b o cap esz T c fz es vals hb hh hcap hv hs hc=>exact .fs _ b o cap esz T c fz es vals hb hh hcap hv hs hc
  | sl _ id off len cap ao inc hi hl hn hcap ha=>exact .sl _ _ off len cap ao inc (hg _ _ hi) hl hn hcap ha
  | ptr _ id i o ao inc hi hn ho ha=>exact .ptr _ _ i o ao inc (hg _ _ hi) hn ho ha
  | fp _ b o T c fz cs vals hb hh hne hv hc=>exact .fp _ b o T c fz cs vals hb hh hne hv hc
  | agg=>exact .undef _ _
  | tup=>exact .undef _ _
  | func=>exact .undef _ _
  | map _ id inc hi=>exact .map _ _ inc (hg _ _ hi)
  | iface=>exact .undef _ _
  | csl _ id off len ao inc hi hn hcap ha=>exact .csl _ _ off len ao inc (hg _ _ hi) hn hcap ha
 | succ n ih=>
  intro a v h
  cases h with
  | undef=>exact .undef _ _
  | bool=>exact .bool _ _
  | int=>exact .int _ _ _
  | str _ s l h=>exact .str _ _ _ h
  | nilS _ p=>exact .nilS _ _
  | nilP=>exact .nilP _
  | nilM=>exact .nilM _
  | nilF=>exact .nilF _
  | nilI=>exact .nilI _
  | fs _ b o cap esz T c fz es vals hb hh hcap hv hs hc=>exact .fs _ b o cap esz T c fz es vals hb hh hcap hv hs hc
  | sl _ id off len cap ao inc hi hl hn hcap ha=>exact .sl _ _ off len cap ao inc (hg _ _ hi) hl hn hcap ha
  | ptr _ id i o ao inc hi hn ho ha=>exact .ptr _ _ i o ao inc (hg _ _ hi) hn ho ha
  | fp _ b o T c fz cs vals hb hh hne hv hc=>exact .fp _ b o T c fz cs vals hb hh hne hv hc
  | agg _ vs cs hl vals hg hv=>exact .agg _ vs _ (by simpa using hl) vals (fun i hi=>hg i (by simpa using hi)) (fun i hi=>by simpa using ih _ _ (hv i (by simpa using hi)))
  | tup _ vs cs hl vals hg hv=>exact .tup _ vs _ (by simpa using hl) vals (fun i hi=>hg i (by simpa using hi)) (fun i hi=>by simpa using ih _ _ (hv i (by simpa using hi)))
  | func _ fn vs1 vs2 cs1 cs2 hl1 hl2 vals1 vals2 hg1 hg2 hv1 hv2=>
   exact .func _ fn vs1 vs2 _ _ (by simpa using hl1) (by simpa using hl2) vals1 vals2 (fun i hi=>hg1 i (by simpa using hi)) (fun i hi=>hg2 i (by simpa using hi)) (fun i hi=>by simpa using ih _ _ (hv1 i (by simpa using hi))) (fun i hi=>by simpa using ih _ _ (hv2 i (by simpa using hi)))
  | map _ id inc hi=>exact .map _ _ inc (hg _ _ hi)
  | iface _ t v a hv=>exact .iface _ t v _ (ih _ _ hv)
  | csl _ id off len ao inc hi hn hcap ha=>exact .csl _ _ off len ao inc (hg _ _ hi) hn hcap ha
theorem su (hg:∀id inc,inc∈g id->inc∈g2 (L+id)) (n:Nat) {incs:List Inc} {e:Ent} (h:jP w OK g incs e):jP w OK g2 incs (tX L n e):=by
 cases e with
 | row s gr es=>
  refine ⟨fun hgr=>by simpa using h.1 hgr,fun inc hi=>?_⟩
  obtain ⟨h1,h2,h3,c,T,fz,h4,h5,h6,h7⟩:=h.2 inc hi
  refine ⟨h1,by simpa using h2,h3,c,T,fz,h4,h5,h6,fun i hi' hn=>?_⟩
  obtain ⟨v,k1,k2,k3⟩:=h7 i (by simpa using hi') hn
  exact ⟨v,by simpa using i7 hg n _ _ k1,k2,k3⟩
 | map kvs=>
  obtain ⟨inc,rfl,es,clock,h1,h2,hst,h3⟩:=h
  refine ⟨inc,rfl,es,clock,h1,by simpa using h2,hst,fun i hi=>?_⟩
  obtain ⟨e,e1,e2,e3⟩:=h3 i (by simpa using hi)
  exact ⟨e,e1,by simpa using i7 hg n _ _ e2,by simpa using i7 hg n _ _ e3⟩
 | loop r k=>exact h
 | dead=>trivial
end
def JM (n:Nat) (M:List AV->aa->Option (AV × aa)):List AV->aa->Option (AV × aa):=fun args A=>
 if args.all (br n)=true then (M args []).map fun x=>(shf A.length n x.1,A++x.2.map (tX A.length n)) else none
def uf (n:Nat) (M:List AV->aa->Option (AV × aa)):aB:=fun _=>JM n M
section
variable {P:Program} {G:Nat->Option (List AV)}
theorem dD.own {f:FuncId} {M:List AV->aa->Option (AV × aa)} (h:dD P G f M) (n:Nat):dD P G f (JM n M):=by
 refine ⟨h.1,?_⟩
 intro args A r A' he w OK g vs hA hG hl
 unfold JM at he
 simp only [Option.ite_none_right_eq_some,List.all_eq_true] at he
 obtain ⟨hnr,he⟩:=he
 rw [Option.map_eq_some_iff] at he
 obtain ⟨⟨r0,B⟩,hM,he⟩:=he
 injection he with e1 e2
 simp only at e1 e2
 subst e1
 subst e2
 have hl2:bm w OK aq.none vs args:=by
  have:=hl.map (F:=fun a=>a) (OK':=OK) (g':=aq.none) fun v a ha hv=>by
   have:=iJ (A:=[]) n a v (hnr a ha) hv
   rwa [my n a (hnr a ha)] at this
  simpa using this
 refine (h.2 _ _ _ _ hM w OK aq.none vs (bC.nil hA.ok) hG hl2).mono ?_
 rintro e w' ⟨v,OK',g',rfl,hv,hB,hx⟩
 have hb:∀b,b<w.heap.size->w'.heap[b]?=w.heap[b]?:=fun b hb=>hx.blk b hb (fun _ _ (hi:_∈[])=>by cases hi)
 have hf:∀id inc,inc∈g' id->w.heap.size<=inc.b:=fun id inc hi=>by
  rcases hx.fresh id inc hi with ⟨_,_,h0,_⟩ | h0
  ·cases h0
  ·exact h0
 obtain ⟨g2,hg2⟩:∃g2:aq,∀k,g2 k=if k<A.length then g k else g' (k-A.length):=⟨_,fun _=>rfl⟩
 have hlo:∀k,k<A.length->g2 k=g k:=fun k hk=>by rw [hg2,if_pos hk]
 have hhi:∀k,g2 (A.length+k)=g' k:=fun k=>by rw [hg2,if_neg (by omega),Nat.add_sub_cancel_left]
 have hin:∀k inc,inc∈g k->k<A.length:=fun k inc hi=>by
  rcases Nat.lt_or_ge k A.length with h | h
  ·exact h
  ·rw [hA.out k h] at hi; cases hi
 have hgl:g.le g2:=fun k inc hi=>⟨inc.n,Nat.le_refl _,by rw [hlo k (hin k inc hi)]; exact hi⟩
 have hsp:∀k inc,inc∈g2 k->(k<A.length/\inc∈g k)\/∃j,k=A.length+j/\inc∈g' j:=fun k inc hi=>by
  rcases Nat.lt_or_ge k A.length with h | h
  ·rw [hlo k h] at hi; exact .inl ⟨h,hi⟩
  ·obtain ⟨j,rfl⟩:∃j,k=A.length+j:=⟨k-A.length,by omega⟩
   rw [hhi] at hi; exact .inr ⟨j,rfl,hi⟩
 have live1:∀k,k<A.length->(A++B.map (tX A.length n))[k]?≠some Ent.dead->A[k]?≠some .dead:=fun k hk h=>by rwa [List.getElem?_append_left hk] at h
 have live2:∀k,(A++B.map (tX A.length n))[A.length+k]?≠some Ent.dead->B[k]?≠some .dead:=fun k h e=>by
  rw [List.getElem?_append_right (by omega),Nat.add_sub_cancel_left,List.getElem?_map,e] at h
  exact h rfl
 refine ⟨v,OK',g2,rfl,i7 (fun id inc hi=>by rw [hhi]; exact hi) n _ _ hv,⟨fun k hk=>?_,fun k hk=>?_,fun k k' i i' hd hd' hi hi' e=>?_,fun k inc hi ho=>?_,fun k inc hi=>?_,hB.ok⟩,?_⟩
 ·rcases Nat.lt_or_ge k A.length with h | h
  ·rw [List.getElem_append_left h,hlo k h]
   exact (hA.ent k h).mono hx.okle (fun b hb'=>hb b (hA.ok b hb')) hgl (fun inc hi=>hb _ (hA.low k inc hi))
  ·obtain ⟨j,rfl⟩:∃j,k=A.length+j:=⟨k-A.length,by omega⟩
   have hj:j<B.length:=by simp at hk; omega
   rw [List.getElem_append_right h,hhi]
   simp only [Nat.add_sub_cancel_left,List.getElem_map]
   exact su (fun id inc hi=>by rw [hhi]; exact hi) n (hB.ent j hj)
 ·obtain ⟨j,rfl⟩:∃j,k=A.length+j:=⟨k-A.length,by simp at hk; omega⟩
  rw [hhi]
  exact hB.out j (by simp at hk; omega)
 ·rcases hsp _ _ hi with ⟨k1,i1⟩ | ⟨j,rfl,i1⟩ <;> rcases hsp _ _ hi' with ⟨k2,i2⟩ | ⟨j',rfl,i2⟩
  ·exact hA.one _ _ _ _ (live1 _ k1 hd) (live1 _ k2 hd') i1 i2 e
  ·have:=hA.low _ _ i1; have:=hf _ _ i2; omega
  ·have:=hA.low _ _ i2; have:=hf _ _ i1; omega
  ·obtain ⟨q1,q2⟩:=hB.one _ _ _ _ (live2 _ hd) (live2 _ hd') i1 i2 e
   exact ⟨by rw [q1],q2⟩
 ·rcases hsp _ _ hi with ⟨k1,i1⟩ | ⟨j,rfl,i1⟩
  ·rcases hx.okf _ ho with h | h
   ·exact hA.apart _ _ i1 h
   ·have:=hA.low _ _ i1; omega
  ·exact hB.apart _ _ i1 ho
 ·rcases hsp _ _ hi with ⟨k1,i1⟩ | ⟨j,rfl,i1⟩
  ·exact Nat.lt_of_lt_of_le (hA.low _ _ i1) hx.size
  ·exact hB.low _ _ i1
 ·refine ⟨hx.os,hx.tape,hx.output,hx.size,fun b hb' _=>hb b hb',hgl,hx.okle,fun k inc hi=>?_,hx.okf,hx.loops,fun k inc hi _=>hlo k (hin k inc hi)⟩
  rcases hsp _ _ hi with ⟨k1,i1⟩ | ⟨j,rfl,i1⟩
  ·exact .inl ⟨k,inc,i1,rfl⟩
  ·exact .inr (hf _ _ i1)
theorem qG {n:Nat} {M:List AV->aa->Option (AV × aa)} {args:List AV} {r:AV} {B:aa} (h:aE) (A:aa) (hn:args.all (br n)=true) (hM:M args []=some (r,B)):uf n M h args A=some (shf A.length n r,A++B.map (tX A.length n)):=by
 unfold uf JM
 rw [if_pos hn,hM]; rfl
end
namespace Sh
def Ow:aN:=fun args=>evP (ac GS []) 0 Gf 4 args
theorem zF:ak Tryz.prog GS 185 Ow:=ak.of_ev (E:=ac GS []) (ai an) rfl MK CX 4 fun _ _ h=>⟨0,h⟩
def He:List (FuncId × aB):=[(185,aK 4 Ow)]
def Oz:aN:=fun args=>evP (ac GS He) 0 Gi 4 args
theorem zK:ak Tryz.prog GS 178 Oz:=ak.of_ev (E:=ac GS He) (ai (ag (au.of_pure zF 4) an)) rfl MQ C5 4 fun _ _ h=>⟨0,h⟩
def Hl:List (FuncId × aB):=[(178,aK 4 Oz)]
def tn:aN:=fun args=>evP (ac GS Hl) 10 Gm 4 args
theorem zS:ak Tryz.prog GS 165 tn:=ak.of_ev (E:=ac GS Hl) (ai (ag (au.of_pure zK 4) an)) rfl M0 Df 4 fun _ _ h=>⟨10,h⟩
theorem I9 (h:Int):tn [.fs 1 [.int .i64 h],.int .i64 1]=some (.fs 1 [.int .i64 h]):=by kernel_rfl
theorem I8 (h:Int):tn [.fs 1 [.int .i64 h],.int .i64 2]=some (.fs 1 [.int .i64 h,.int .i64 h]):=by kernel_rfl
theorem I7 (h:Int):tn [.fs 1 [.int .i64 h],.int .i64 3]=some (.fs 1 [.int .i64 h,.int .i64 h,.int .i64 h]):=by kernel_rfl
theorem I6 (h:Int):tn [.fs 1 [.int .i64 h],.int .i64 4]=some (.fs 1 [.int .i64 h,.int .i64 h,.int .i64 h,.int .i64 h]):=by kernel_rfl
theorem I5 (h:Int):tn [.fs 1 [.int .i64 h],.int .i64 5]=some (.fs 1 [.int .i64 h,.int .i64 h,.int .i64 h,.int .i64 h,.int .i64 h]):=by kernel_rfl
theorem I4 (h:Int):tn [.fs 1 [.int .i64 h],.int .i64 6]=some (.fs 1 [.int .i64 h,.int .i64 h,.int .i64 h,.int .i64 h,.int .i64 h,.int .i64 h]):=by kernel_rfl
theorem I0 (h:Int):tn [.fs 1 [.int .i64 h],.int .i64 7]=some (.fs 1 [.int .i64 h,.int .i64 h,.int .i64 h,.int .i64 h,.int .i64 h,.int .i64 h,.int .i64 h]):=by kernel_rfl
theorem IZ (h:Int):tn [.fs 1 [.int .i64 h],.int .i64 8]=some (.fs 1 [.int .i64 h,.int .i64 h,.int .i64 h,.int .i64 h,.int .i64 h,.int .i64 h,.int .i64 h,.int .i64 h]):=by kernel_rfl
theorem D8 (h:Int) {n:Nat} (h1:1<=n) (h2:n<=8):tn [.fs 1 [.int .i64 h],.int .i64 (n:Int)]=some (.fs 1 ((List.replicate n h).map (.int .i64))):=by
 rcases (show n=1\/n=2\/n=3\/n=4\/n=5\/n=6\/n=7\/n=8 by omega) with rfl | rfl | rfl | rfl | rfl | rfl | rfl | rfl
 ·exact I9 h
 ·exact I8 h
 ·exact I7 h
 ·exact I6 h
 ·exact I5 h
 ·exact I4 h
 ·exact I0 h
 ·exact IZ h
end Sh
end Go.Proofs.YtfkcoekicjjndaaGreat
