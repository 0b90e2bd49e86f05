import Derived.Test.YtfkcoekicjjndaaGreatVC04
import Derived.Test.YtfkcoekicjjndaaGreatChecked
import Derived.KernelRfl
set_option maxRecDepth 100000
set_option maxHeartbeats 4000000
noncomputable section
namespace Go.Proofs.YtfkcoekicjjndaaGreat
variable {A B:ac} {o xs ys l:List Int} {chv d2 v1 d7 d8 d3 v4 v5 v0 ov v6 d9 d6 d0 v3 d4 d5 d10 d14 d15 d19 b d1 v2 v7 d12 d13 d20 d21 d25 v11 d16 d17 d18 v a chF:AV} {p hi:Int} {op n fuel j id i np cp ep:Nat} {E:Env} {ll:List (List Int)} {P:Int->Prop} {pl:List (Nat × List Int)} {g:Bool}
namespace Cy
open Go
def WL (L:List df) (u v j:Nat) (z:Int):Prop:=∃r,isW L u r v/\r.length=j/\jx r=z
def fW (P:Int->Prop) (y:LP):Prop:=(y=noL/\∀z,¬ P z)\/(y.2=true/\P y.1/\∀z,P z->z<=y.1)
theorem fW.congr {Q:Int->Prop} {y:LP} (h:fW P y) (hpq:∀z,P z↔Q z):fW Q y:=by
 rcases h with ⟨h1,h2⟩ | ⟨h1,h2,h3⟩
 ·exact .inl ⟨h1,fun z hz=>h2 z ((hpq z).2 hz)⟩
 ·exact .inr ⟨h1,(hpq _).1 h2,fun z hz=>h3 z ((hpq z).2 hz)⟩
theorem zB {Q:Int->Prop} {x y:LP} (h1:fW P x) (h2:fW Q y):fW (fun z=>P z\/Q z) (j9 x y):=by
 obtain ⟨x1,x2⟩:=x
 obtain ⟨y1,y2⟩:=y
 rcases h1 with ⟨e1,a1⟩ | ⟨e1,a1,b1⟩
 ·have:j9 (x1,x2) (y1,y2)=(y1,y2):=RL (.inl (by rw [e1]; rfl))
  rw [this]
  exact h2.congr fun z=>⟨.inr,fun h=>h.elim (fun h=>absurd h (a1 z)) id⟩
 ·simp only at e1 a1 b1
  rcases h2 with ⟨e2,a2⟩ | ⟨e2,a2,b2⟩
  ·have:j9 (x1,x2) (y1,y2)=(x1,x2):=RN (by
    rw [e2,e1]
    rintro (h | ⟨h,_⟩) <;> cases h)
   rw [this]
   exact .inr ⟨e1,.inl a1,fun z h=>h.elim (b1 z) fun h=>absurd h (a2 z)⟩
  ·simp only at e2 a2 b2
   by_cases h:y1 > x1
   ·have:j9 (x1,x2) (y1,y2)=(y1,y2):=RL (.inr ⟨e2,h⟩)
    rw [this]
    exact .inr ⟨e2,.inr a2,fun z hz=>hz.elim (fun hz=>by have:=b1 z hz; simp only; omega) (b2 z)⟩
   ·have:j9 (x1,x2) (y1,y2)=(x1,x2):=RN (by
     rw [e1]
     rintro (h' | ⟨_,h'⟩)
     ·cases h'
     ·exact h h')
    rw [this]
    exact .inr ⟨e1,.inl a1,fun z hz=>hz.elim (b1 z) fun hz=>by have:=b2 z hz; simp only; omega⟩
theorem zy {x:LP} (h:fW P x) (w:Int):fW (fun z=>∃z',P z'/\z=w+z') (eR x w):=by
 rcases h with ⟨e,a⟩ | ⟨e,a,b⟩
 ·rw [e]
  exact .inl ⟨rfl,fun z ⟨z',h,_⟩=>a z' h⟩
 ·have:eR x w=(x.1+w,x.2):=RN (by rw [e]; rintro ⟨h,_⟩; cases h)
  rw [this]
  refine .inr ⟨e,⟨_,a,by simp only; omega⟩,?_⟩
  rintro z ⟨z',h,rfl⟩
  have:=b z' h
  simp only; omega
theorem zz:fW (fun _=>False) noL:=.inl ⟨rfl,fun _ h=>h⟩
theorem qU {L:List df} {u v:Nat} {z:Int}:WL L u v 0 z↔u=v/\z=0:=by
 constructor
 ·rintro ⟨r,h1,h2,h3⟩
  have:r=[]:=Si.1 h2
  subst this
  exact ⟨h1,h3.symm⟩
 ·rintro ⟨rfl,rfl⟩
  exact ⟨[],rfl,rfl,rfl⟩
theorem zL {L:List df} {u v:Nat} {z:Int}:WL L u v (j+1) z↔∃a∈L,a.1=u/\∃z',WL L a.2.1 v j z'/\z=a.2.2+z':=by
 constructor
 ·rintro ⟨r,h1,h2,h3⟩
  cases r with
  | nil=>simp at h2
  | cons a r=>
   obtain ⟨k1,k2,k3⟩:=h1
   exact ⟨a,k1,k2,jx r,⟨r,k3,by simpa using h2,rfl⟩,h3.symm⟩
 ·rintro ⟨a,h1,h2,z',⟨r,k1,k2,rfl⟩,rfl⟩
  exact ⟨a :: r,⟨h1,h2,k1⟩,by simp [k2],rfl⟩
theorem xr (n v:Nat):(List.replicate n noL).getD v noL=noL:=by
 rw [RC]
 by_cases h:v<n <;> simp [h]
theorem uS {L0:List df} {to:Nat} (hok:sL n L0) {h:List LP} (hh:∀u,u<n->fW (WL L0 u to j) (h.getD u noL)):∀(L:List df),(∀a∈L,a∈L0)->∀(next:List LP) (D:Nat->Int->Prop),next.length=n->(∀u,u<n->fW (D u) (next.getD u noL)) ->
  ∀u,u<n->fW (fun z=>D u z\/∃a∈L,a.1=u/\∃z',WL L0 a.2.1 to j z'/\z=a.2.2+z') ((L.foldl (hst h) next).getD u noL)
 | [],_,next,D,hn,hD,u,hu=>(hD u hu).congr fun z=>⟨.inl,fun h=>h.elim id fun ⟨a,h,_⟩=>by cases h⟩
 | a :: L,hL,next,D,hn,hD,u,hu=>by
  obtain ⟨o1,o2,_⟩:=hok a (hL a (by simp))
  have:=uS hok hh L (fun b hb=>hL b (by simp [hb])) (hst h next a) (fun u z=>D u z\/(a.1=u/\∃z',WL L0 a.2.1 to j z'/\z=a.2.2+z')) (by rw [tI,hn]) (fun v hv=>by
   unfold hst
   rw [kw _ _ _ _ _ (by omega)]
   by_cases hav:a.1=v
   ·rw [RL hav]
    subst hav
    exact (zB (hD _ o1) (zy (hh _ o2) a.2.2)).congr fun z=>by simp
   ·rw [RN hav]
    exact (hD v hv).congr fun z=>⟨.inl,fun h=>h.elim id fun h=>absurd h.1 hav⟩) u hu
  rw [Sr]
  refine this.congr fun z=>?_
  constructor
  ·rintro ((h | ⟨h1,h2⟩) | ⟨b,h1,h2⟩)
   ·exact .inl h
   ·exact .inr ⟨a,by simp,h1,h2⟩
   ·exact .inr ⟨b,by simp [h1],h2⟩
  ·rintro (h | ⟨b,h1,h2⟩)
   ·exact .inl (.inl h)
   ·rcases Sx.1 h1 with rfl | h1
    ·exact .inl (.inr h2)
    ·exact .inr ⟨b,h1,h2⟩
theorem x7 {L:List df} {to:Nat} (hok:sL n L) (hto:to<n):∀(j u:Nat),u<n->fW (WL L u to j) ((hm L n to j).getD u noL)
 | 0,u,hu=>by
  unfold hm
  rw [kw _ _ _ _ _ (by simpa using hto)]
  by_cases h:to=u
  ·rw [RL h]
   exact .inr ⟨rfl,qU.2 ⟨h.symm,rfl⟩,fun z hz=>by have:=(qU.1 hz).2; simp only; omega⟩
  ·rw [RN h,xr]
   exact .inl ⟨rfl,fun z hz=>h (qU.1 hz).1.symm⟩
 | j+1,u,hu=>by
  have:=uS hok (x7 hok hto j) L (fun _ h=>h) (List.replicate n noL) (fun _ _=>False) (by simp) (fun u _=>by rw [xr]; exact zz) u hu
  refine this.congr fun z=>?_
  rw [zL]
  exact ⟨fun h=>h.elim False.elim id,.inr⟩
def rH (l:List bc):Int->List eQ->Int->Prop
 | u,[],v=>u=v
 | u,x :: r,v=>x∈num l/\x.1.f=u/\rH l x.1.t r v
def ji (p:Int) (xs:List eQ):Int:=(xs.map fun x=>x.1.len p).sum
def kL (xs:List eQ):Int:=(xs.map fun x=>x.1.k).sum
def Mu (xs:List eQ):Int:=(xs.map fun x=>x.1.w).sum
theorem xS (p:Int):∀xs:List eQ,ji p xs=Mu xs-p*kL xs
 | []=>by simp [ji,Mu,kL]
 | x :: r=>by
  have:=xS p r
  simp only [ji,Mu,kL,SH,T5,bc.len] at this ⊢
  rw [this,Int.mul_add]; omega
def Cg (p:Int) (x:eQ):df:=(x.1.f.toNat,x.1.t.toNat,x.1.len p)
theorem E3 {l:List bc} {x:eQ} (h:x∈num l):Cg p x∈lar p l:=by
 obtain ⟨hi,he⟩:=kQ h
 exact R1.2 ⟨x.1,by rw [<-he]; exact RM hi,rfl⟩
theorem xU {l:List bc} {a:df} (h:a∈lar p l):∃x∈num l,Cg p x=a:=by
 obtain ⟨c,hc,rfl⟩:=R1.1 h
 obtain ⟨i,hi,rfl⟩:=Sz.1 hc
 exact ⟨(l[i],i),SF (fA l i hi),rfl⟩
theorem rr {n:Int} {l:List bc} (hv:∀x∈l,okA n x) {x:eQ} (h:x∈num l):okA n x.1:=by
 obtain ⟨hi,he⟩:=kQ h
 rw [<-he]; exact hv _ (RM hi)
theorem Qk {n:Int} {l:List bc} (hv:∀x∈l,okA n x):∀ {xs:List eQ} {u v:Int},rH l u xs v->isW (lar p l) u.toNat (xs.map (Cg p)) v.toNat/\jx (xs.map (Cg p))=ji p xs
 | [],u,v,h=>⟨by rw [show u=v from h]; rfl,rfl⟩
 | x :: r,u,v,⟨h1,h2,h3⟩=>by
  obtain ⟨k1,k2⟩:=Qk hv h3
  refine ⟨⟨E3 h1,by rw [<-h2]; rfl,k1⟩,?_⟩
  simp only [SH,jx,k2,ji,T5]
  rfl
section
variable {n to:Nat} {p:Int} {l:List bc} (hv:∀x∈l,okA n x) (hn32:n<=32) (hp:cy p) (hto:to<n)
include hv hn32 hp hto
theorem mR {sum:Int} {x:eQ} (hx:x∈num l):kT (hm (lar p l) n to j) p sum x=true↔∃z,WL (lar p l) x.1.t.toNat to j z/\sum+x.1.len p+z > 0:=by
 have hok:=rr hv hx
 have ht:=hok.2.1
 have hb:=x7 (uP hn32 hp hv) hto j x.1.t.toNat (by omega)
 unfold kT
 obtain ⟨y,hy⟩:∃y,y=(hm (lar p l) n to j).getD x.1.t.toNat noL:=⟨_,rfl⟩
 rw [<-hy] at hb ⊢
 rcases hb with ⟨e,a⟩ | ⟨e,a,b⟩
 ·rw [e]
  constructor
  ·intro h
   have:eR noL (sum+x.1.len p)=noL:=rfl
   rw [this] at h
   simp [noL] at h
  ·rintro ⟨z,hz,_⟩
   exact absurd hz (a z)
 ·have:eR y (sum+x.1.len p)=(y.1+(sum+x.1.len p),y.2):=RN (by rw [e]; rintro ⟨h,_⟩; cases h)
  rw [this,e]
  simp only [Bool.true_and,Sq]
  constructor
  ·intro h
   exact ⟨y.1,a,by omega⟩
  ·rintro ⟨z,hz,h⟩
   have:=b z hz
   omega
theorem wC:∀(r:Nat) (v sum:Int) (out:List Int),0<=v->(∃z,WL (lar p l) v.toNat to r z/\sum+z > 0) ->
  ∃xs:List eQ,oN p l (hm (lar p l) n to) r sum (mn l v.toNat) out=some (out++xs.map fun x=>(x.2:Int))/\rH l v xs (to:Int)/\xs.length=r/\sum+ji p xs > 0
 | 0,v,sum,out,hv0,⟨z,h1,h2⟩=>by
  obtain ⟨h3,rfl⟩:=qU.1 h1
  exact ⟨[],by simp [oN],by show v=(to:Int); omega,rfl,by simpa [ji] using h2⟩
 | r+1,v,sum,out,hv0,⟨z,h1,h2⟩=>by
  obtain ⟨a,ha,haf,z',hz',rfl⟩:=zL.1 h1
  obtain ⟨x,hx,rfl⟩:=xU ha
  have hokx:=rr hv hx
  have hxf:x.1.f=v:=by
   have:=hokx.1
   simp only [Cg] at haf; omega
  have hxo:x∈mn l v.toNat:=Tp.2 ⟨hx,by simp; omega⟩
  have hg:kT (hm (lar p l) n to r) p sum x=true:=(mR hv hn32 hp hto hx).2 ⟨z',hz',by simp only [Cg] at h2; omega⟩
  cases hf:(mn l v.toNat).find? (kT (hm (lar p l) n to r) p sum) with
  | none=>
   rw [List.find?_eq_none] at hf
   exact absurd hg (hf x hxo)
  | some b=>
   have hbg:=List.find?_some hf
   have hbo:=List.mem_of_find?_eq_some hf
   have hbn:=(Tp.1 hbo).1
   have hbf:=(Tp.1 hbo).2
   simp only [Sq] at hbf
   have hokb:=rr hv hbn
   obtain ⟨y,hy1,hy2⟩:=(mR hv hn32 hp hto hbn).1 hbg
   obtain ⟨xs,k1,k2,k3,k4⟩:=wC r b.1.t (sum+b.1.len p) (out++[(b.2:Int)]) hokb.2.1.1 ⟨y,hy1,hy2⟩
   refine ⟨b :: xs,?_,⟨hbn,by omega,k2⟩,by simp [k3],?_⟩
   ·simp only [oN,hf,k1]
    simp
   ·simp only [ji,SH,T5] at k4 ⊢
    omega
end
section
variable {n:Nat} {p:Int} {l:List bc} (hv:∀x∈l,okA n x) (hn32:n<=32) (hp:cy p)
include hv hn32 hp
theorem sT {k:Nat} {x:eQ} (hx:x∈num l):(wk p l n (k+1) x=none/\¬ ∃z,WL (lar p l) x.1.t.toNat x.1.f.toNat k z/\x.1.len p+z > 0) \/
  ∃xs:List eQ,wk p l n (k+1) x=some (xs.map fun y=>(y.2:Int))/\rH l x.1.f xs x.1.f/\xs.length=k+1/\ji p xs > 0:=by
 have hok:=rr hv hx
 have hto:x.1.f.toNat<n:=by have:=hok.1; omega
 unfold wk oN
 by_cases hg:kT (hm (lar p l) n x.1.f.toNat k) p 0 x=true
 ·right
  obtain ⟨z,hz1,hz2⟩:=(mR hv hn32 hp hto hx).1 hg
  obtain ⟨xs,k1,k2,k3,k4⟩:=wC hv hn32 hp hto k x.1.t (0+x.1.len p) ([]++[(x.2:Int)]) hok.2.1.1 ⟨z,hz1,by omega⟩
  refine ⟨x :: xs,?_,⟨hx,rfl,?_⟩,by simp [k3],?_⟩
  ·simp only [List.find?_cons,hg,k1]
   simp
  ·have:((x.1.f.toNat:Nat):Int)=x.1.f:=by have:=hok.1; omega
   rw [this] at k2; exact k2
  ·simp only [ji,SH,T5] at k4 ⊢
   omega
 ·left
  refine ⟨?_,fun ⟨z,h1,h2⟩=>hg ((mR hv hn32 hp hto hx).2 ⟨z,h1,by omega⟩)⟩
  rw [Bool.not_eq_true] at hg
  simp [hg]
theorem n6 {k:Nat}:eK p l n (k+1)=none↔∀u c,isW (lar p l) u c u->c.length=k+1->jx c<=0:=by
 unfold eK
 rw [List.findSome?_eq_none_iff]
 constructor
 ·intro h u c hc hl
  cases c with
  | nil=>simp at hl
  | cons a r=>
   obtain ⟨h1,h2,h3⟩:=hc
   obtain ⟨x,hx,rfl⟩:=xU h1
   rcases sT hv hn32 hp (k:=k) hx with ⟨_,h5⟩ | ⟨xs,h4,_⟩
   ·rcases Int.lt_or_le 0 (jx (Cg p x :: r)) with h6 | h6
    ·refine absurd ⟨jx r,⟨r,?_,by simpa using hl,rfl⟩,?_⟩ h5
     ·have e:x.1.f.toNat=u:=h2
      rw [e]; exact h3
     ·simp only [jx,Cg] at h6; omega
    ·exact h6
   ·rw [h x hx] at h4; cases h4
 ·intro h x hx
  rcases sT hv hn32 hp (k:=k) hx with ⟨h4,_⟩ | ⟨xs,h4,h5,h6,h7⟩
  ·exact h4
  ·obtain ⟨k1,k2⟩:=Qk (p:=p) hv h5
   have:=h _ _ k1 (by simp [h6])
   omega
theorem tO {k:Nat} {res:List Int} (h:eK p l n (k+1)=some res):∃(u:Int) (xs:List eQ),res=xs.map (fun y=>(y.2:Int))/\rH l u xs u/\xs.length=k+1/\ji p xs > 0:=by
 unfold eK at h
 obtain ⟨x,hx,hw⟩:=List.exists_of_findSome?_eq_some h
 rcases sT hv hn32 hp (k:=k) hx with ⟨h4,_⟩ | ⟨xs,h4,h5,h6,h7⟩
 ·rw [h4] at hw; cases hw
 ·rw [h4] at hw
  injection hw with hw
  exact ⟨_,xs,hw.symm,h5,h6,h7⟩
theorem vi:qK p l n=none↔zQ (lar p l) n:=by
 unfold qK
 rw [List.findSome?_eq_none_iff]
 constructor
 ·intro h u c hc h1 h2
  have:=(n6 hv hn32 hp (k:=c.length-1)).1 (h (c.length-1) (by simp; omega)) u c hc (by omega)
  exact this
 ·intro h j hj
  rw [SD] at hj
  exact (n6 hv hn32 hp).2 fun u c hc hl=>h u c hc (by omega) (by omega)
theorem vg {res:List Int} (h:qK p l n=some res):∃(u:Int) (xs:List eQ),res=xs.map (fun y=>(y.2:Int))/\rH l u xs u/\1<=xs.length/\xs.length<=n/\ji p xs > 0:=by
 unfold qK at h
 obtain ⟨j,hj,hw⟩:=List.exists_of_findSome?_eq_some h
 rw [SD] at hj
 obtain ⟨u,xs,h1,h2,h3,h4⟩:=tO hv hn32 hp hw
 exact ⟨u,xs,h1,h2,by omega,by omega,h4⟩
end
open Go
def Pos (l:List bc) (p:Int):Prop:=∃(u:Int) (xs:List eQ),rH l u xs u/\0<ji p xs
theorem m9 {l:List bc} {x:eQ} (h:x∈num l):tZ l (x.2:Int)=x.1/\0<=(x.2:Int)/\(x.2:Int)<=(l.length:Int)-1:=by
 obtain ⟨hi,he⟩:=kQ h
 refine ⟨?_,by omega,by omega⟩
 unfold tZ
 rw [RY,RC,RD hi]
 exact he
theorem CD {l:List bc}:∀ {xs:List eQ} {u v s t:Int},rH l u xs v->exL p l (xs.map fun y=>(y.2:Int)) u s t=some (s+ji p xs,t+kL xs)
 | [],u,v,s,t,_=>by simp [exL,ji,kL]
 | x :: r,u,v,s,t,⟨h1,h2,h3⟩=>by
  obtain ⟨e,_⟩:=m9 h1
  simp only [SH,exL,e,RL h2]
  rw [CD h3]
  simp only [ji,kL,SH,T5]
  congr 2 <;> omega
theorem nY {l:List bc}:∀ {xs:List eQ} {u v:Int} (h:xs≠[]),rH l u xs v->(xs.getLast h).1.t=v/\xs.getLast h∈num l
 | [x],u,v,_,⟨h1,h2,h3⟩=>⟨h3,h1⟩
 | x :: y :: r,u,v,_,⟨h1,h2,h3⟩=>by
  rw [List.getLast_cons (by simp)]
  exact nY (by simp) h3
theorem yy {l:List bc} {u:Int} {xs:List eQ} (h:rH l u xs u) (h1:1<=xs.length) (h2:xs.length<=200):exM p l (xs.map fun y=>(y.2:Int))=some (ji p xs,kL xs):=by
 have hne:xs≠[]:=fun e=>by rw [e] at h1; simp at h1
 have hall:∀x∈xs,x∈num l:=by
  have:∀ {ys:List eQ} {a b:Int},rH l a ys b->∀x∈ys,x∈num l:=by
   intro ys
   induction ys with
   | nil=>intro _ _ _ x hx; cases hx
   | cons y r ih=>
    rintro a b ⟨k1,_,k3⟩ x hx
    rcases Sx.1 hx with rfl | hx
    ·exact k1
    ·exact ih k3 x hx
  exact this h
 unfold exM
 rw [RL ⟨by simpa using ⟨h1,h2⟩,fun x hx=>by
  obtain ⟨y,hy,rfl⟩:=R1.1 hx
  exact (m9 (hall y hy)).2⟩]
 obtain ⟨e1,e2⟩:=nY hne h
 have:(xs.map fun y=>(y.2:Int)).getLastD 0=((xs.getLast hne).2:Int):=by
  rw [List.getLastD_eq_getLast?,List.getLast?_map,List.getLast?_eq_some_getLast hne]; rfl
 rw [this,(m9 e2).1,e1,CD h]
 simp
theorem vd {l:List bc}:∀ {ys:List Int} {u s t:Int} {r:Int × Int},tE l ys->exL p l ys u s t=some r->∃(v:Int) (xs:List eQ),ys=xs.map (fun y=>(y.2:Int))/\rH l u xs v/\r=(s+ji p xs,t+kL xs)
 | [],u,s,t,r,_,h=>by
  simp only [exL,Ry] at h
  exact ⟨u,[],rfl,rfl,by rw [<-h]; simp [ji,kL]⟩
 | i :: ys,u,s,t,r,hi,h=>by
  have hi0:=hi i (by simp)
  obtain ⟨j,hj,rfl,he⟩:=qS hi0
  simp only [exL] at h
  split at h
  ·rename_i hf
   obtain ⟨v,xs,k1,k2,k3⟩:=vd (fun x hx=>hi x (by simp [hx])) h
   rw [he] at hf k2 k3
   refine ⟨v,(l[j],j) :: xs,by simp [k1],⟨SF (fA l j hj),hf,k2⟩,?_⟩
   rw [k3]
   simp only [ji,kL,SH,T5]
   congr 1 <;> omega
  ·cases h
theorem Be {l:List bc} {s t:Int} (h:exM p l ys=some (s,t)):∃(u:Int) (xs:List eQ),ys=xs.map (fun y=>(y.2:Int))/\rH l u xs u/\1<=xs.length/\xs.length<=200/\s=ji p xs/\t=kL xs:=by
 unfold exM at h
 simp only [Rz] at h
 obtain ⟨⟨h1,h2⟩,h3⟩:=h
 obtain ⟨v,xs,rfl,k2,k3⟩:=vd h2 h3
 simp only [RR] at h1
 have hne:xs≠[]:=fun e=>by rw [e] at h1; simp at h1
 obtain ⟨e1,e2⟩:=nY hne k2
 have:(xs.map fun y=>(y.2:Int)).getLastD 0=((xs.getLast hne).2:Int):=by
  rw [List.getLastD_eq_getLast?,List.getLast?_map,List.getLast?_eq_some_getLast hne]; rfl
 rw [this,(m9 e2).1,e1] at k2
 simp only [RP,Int.zero_add] at k3
 exact ⟨v,xs,rfl,k2,h1.1,h1.2,k3.1,k3.2⟩
theorem rG {n p:Int} {l:List bc} (hv:∀x∈l,okA n x) {s:List Int} (h:jM (lar p l) s):¬ Pos l p:=by
 rintro ⟨u,xs,h1,h2⟩
 obtain ⟨k1,k2⟩:=Qk (p:=p) hv h1
 have:=kq h k1
 omega
theorem iI {l:List bc} (hv:∀x∈l,okA n x):∀a∈lar p l,a.1<n/\a.2.1<n:=fun a ha=>by
 obtain ⟨x,hx,rfl⟩:=R1.1 ha
 obtain ⟨q1,q2,_⟩:=hv x hx
 simp only; omega
section
variable {n:Nat} {p:Int} {l:List bc} (hr:cC n l p)
include hr
theorem nV:(cA (lar p l) n).2=true↔¬ Pos l p:=by
 have hv:=hr.1.2.2
 have hn:=hr.1.1
 constructor
 ·intro h
  exact rG hv ((lS (iI hv)).2.2.2.1 h)
 ·intro h
  rw [nU (iI hv),<-vi hv (by omega) hr.2]
  cases hc:qK p l n with
  | none=>rfl
  | some res=>
   obtain ⟨u,xs,_,k2,_,_,k5⟩:=vg hv (by omega) hr.2 hc
   exact absurd ⟨u,xs,k2,k5⟩ h
theorem yD (h:¬ (cA (lar p l) n).2=true):∃(res:List Int) (u:Int) (xs:List eQ),qK p l n=some res/\res=xs.map (fun y=>(y.2:Int))/\rH l u xs u/\1<=xs.length/\xs.length<=32/\0<ji p xs/\exM p l res=some (ji p xs,kL xs):=by
 have hv:=hr.1.2.2
 have hn:=hr.1.1
 rw [nU (iI hv),<-vi hv (by omega) hr.2] at h
 cases hc:qK p l n with
 | none=>exact absurd hc h
 | some res=>
  obtain ⟨u,xs,k1,k2,k3,k4,k5⟩:=vg hv (by omega) hr.2 hc
  exact ⟨res,u,xs,rfl,k1,k2,k3,by omega,k5,by rw [k1]; exact yy k2 k3 (by omega)⟩
end
theorem xT {n:Int} {l:List bc} (hn:n<=32) (hp:cy p) (hv:∀x∈l,okA n x):∀ {xs:List eQ} {u v:Int},rH l u xs v->(-(3000000*(xs.length:Int))<=ji p xs/\ji p xs<=3000000*xs.length)/\(-(2*(xs.length:Int))<=kL xs/\kL xs<=2*xs.length)
 | [],_,_,_=>by simp [ji,kL]
 | x :: r,u,v,⟨h1,h2,h3⟩=>by
  have h4:=xT hn hp hv h3
  obtain ⟨q1,q2,q3,q4⟩:=rr hv h1
  have hle:=gV (n:=32) (a:=x.1) ⟨by omega,by omega,q3,q4⟩ hp
  simp only [ji,kL,SH,T5,Su] at h4 ⊢
  omega
def smL (n:Nat) (l:List bc) (hi:Int):Nat->Int->Option Int
 | 0,_=>none
 | m+1,p=>open Classical in if p<=hi/\cC n l p then
   (if (cA (lar p l) n).2=true then some p
    else if ((exM p l ((qK p l n).getD [])).getD (0,0)).2<=0 then none
    else smL n l hi m (p+(((exM p l ((qK p l n).getD [])).getD (0,0)).1+((exM p l ((qK p l n).getD [])).getD (0,0)).2-1).tdiv ((exM p l ((qK p l n).getD [])).getD (0,0)).2))
  else none
def smM (n:Int) (l:List bc) (lo hi:Int):Option Int:=if cy hi then smL n.toNat l hi (hi-lo+2).toNat lo else none
theorem ui {s t:Int} (hs:0<s) (ht:0<t):1<=(s+t-1).tdiv t/\(s+t-1).tdiv t<=s/\((s+t-1).tdiv t-1)*t<s/\s<=(s+t-1).tdiv t*t:=by
 rw [Int.tdiv_eq_ediv_of_nonneg (by omega)]
 have h1:=Int.ediv_mul_add_emod (s+t-1) t
 have h2:=Int.emod_nonneg (s+t-1) (show t≠0 by omega)
 have h3:=Int.emod_lt_of_pos (s+t-1) ht
 obtain ⟨d,hd⟩:∃d,d=(s+t-1) / t:=⟨_,rfl⟩
 rw [<-hd] at h1 ⊢
 have h4:1<=d:=by
  rcases Int.lt_or_le d 1 with h | h
  ·have:d*t<=0:=Int.mul_nonpos_of_nonpos_of_nonneg (by omega) (by omega)
   omega
  ·exact h
 have h5:(d-1)*t=d*t-t:=by rw [Int.sub_mul]; omega
 refine ⟨h4,?_,by omega,by omega⟩
 rcases Int.lt_or_le s d with h | h
 ·have:s*t<=(d-1)*t:=Int.mul_le_mul_of_nonneg_right (by omega) (by omega)
  have h6:s*1<=s*t:=Int.mul_le_mul_of_nonneg_left (by omega) (by omega)
  omega
 ·exact h
theorem rq {l:List bc} {q:Int} {u:Int} {xs:List eQ} (h:rH l u xs u) (hq:0<ji p xs-(q-p)*kL xs):Pos l q:=by
 refine ⟨u,xs,h,?_⟩
 rw [xS] at hq ⊢
 have:(q-p)*kL xs=q*kL xs-p*kL xs:=by rw [Int.sub_mul]
 omega
theorem qj {l:List bc} (hhi:cy hi):∀(m:Nat) (p:Int),hi-p+1<m ->
  (∀r,smL n l hi m p=some r->p<=r/\r<=hi/\cC n l r/\¬ Pos l r/\∀q,p<=q->q<r->Pos l q)/\(smL n l hi m p=none->cC n l p->∀q,p<=q->q<=hi->Pos l q)
 | 0,p,hm=>⟨fun r h=>(by cases h),fun _ _ q h1 h2=>by omega⟩
 | m+1,p,hm=>by
  unfold smL
  by_cases hp:p<=hi/\cC n l p
  rotate_left
  ·rw [RN hp]
   exact ⟨fun r h=>(by cases h),fun _ h q h1 h2=>absurd ⟨by omega,h⟩ hp⟩
  rw [RL hp]
  by_cases hl:(cA (lar p l) n).2=true
  ·rw [RL hl]
   refine ⟨fun r h=>?_,fun h=>by cases h⟩
   injection h with h; subst h
   exact ⟨SU _,hp.1,hp.2,(nV hp.2).1 hl,fun q h1 h2=>by omega⟩
  rw [RN hl]
  obtain ⟨res,u,xs,k1,k2,k3,k4,k5,k6,k7⟩:=yD hp.2 hl
  rw [k1,So,k7,So]
  simp only
  by_cases ht:kL xs<=0
  ·rw [RL ht]
   refine ⟨fun r h=>(by cases h),fun _ _ q h1 h2=>rq k3 (p:=p) ?_⟩
   have:(q-p)*kL xs<=0:=Int.mul_nonpos_of_nonneg_of_nonpos (by omega) ht
   omega
  rw [RN ht]
  obtain ⟨d1,d2,d3,d4⟩:=ui k6 (show 0<kL xs by omega)
  obtain ⟨d,hd⟩:∃d,d=(ji p xs+kL xs-1).tdiv (kL xs):=⟨_,rfl⟩
  rw [<-hd] at d1 d2 d3 d4 ⊢
  have hbelow:∀q,p<=q->q<p+d->Pos l q:=fun q h1 h2=>rq k3 (p:=p) (by
   have:(q-p)*kL xs<=(d-1)*kL xs:=Int.mul_le_mul_of_nonneg_right (by omega) (by omega)
   omega)
  obtain ⟨i1,i2⟩:=qj hhi m (p+d) (by omega)
  constructor
  ·intro r h
   obtain ⟨j1,j2,j3,j4,j5⟩:=i1 r h
   refine ⟨by omega,j2,j3,j4,fun q h1 h2=>?_⟩
   by_cases hq:q<p+d
   ·exact hbelow q h1 hq
   ·exact j5 q (by omega) h2
  ·intro h _ q h1 h2
   by_cases hq:q<p+d
   ·exact hbelow q h1 hq
   ·have hR:cC n l (p+d):=⟨hp.2.1,by
     have:=hp.2.2
     unfold cy at *
     omega⟩
    exact i2 h hR q (by omega) h2
open Go
def iT (n:Int) (l:List bc) (p:Int) (c:List Int):Prop:=cC n l p/\∃s t,exM p l c=some (s,t)/\0<s
open Classical in
def M21:aI:=fun args=>match args with
 | [.int .i64 n,a,.int .i64 p,b]=>match cw a,lW b with
  | some l,some s=>some (.bool (decide (iT n l p s)))
  | _,_=>none
 | _=>none
def L6:List (FuncId × aD):=[(51,ck 4 M25),(54,aG 4 M40)]
@[simp] theorem Oo:aH L6 51=some (ck 4 M25):=rfl
@[simp] theorem On:aH L6 54=some (aG 4 M40):=rfl
theorem EB:∀f M,aH L6 f=some M->ak Tryz.prog GC f M:=ae (ak.of_pureF kM 4) (ae (ak.of_pure nC 4) aw)
open Classical in
theorem H7:an Tryz.prog GC 18 M21:=by
 refine an.of_ev (E:=ai GC L6) (ag EB) rfl Q3 CI 1 ?_
 intro args r h
 unfold M21 at h
 split at h
 rotate_left
 ·cases h
 rename_i n a p b
 split at h
 rotate_left
 ·cases h
 rename_i l s hl hs
 injection h with h; subst h
 refine ⟨0,?_⟩
 obtain ⟨hb,_,hsl⟩:=jA hs
 have f1:∀A n,frz A n a=a:=fun A n=>eG hl A n
 have f2:∀A n,frz A n b=b:=fun A n=>hb.frz n
 have f4:=lV hs
 have m1:M25 [.int .i64 n,a,.int .i64 p]=some (if cC n l p then .tup [cU n.toNat p l,.bool true] else .tup [.nilP,.bool false]):=by simp only [M25,hl,SE]
 rw [aT _ _ rfl]
 by_cases hr:cC n l p
 rotate_left
 ·rw [RN hr] at m1
  rw [RH (show ¬ iT n l p s from fun h=>hr h.1)]
  simp [Hj,f1,m1,aP,bj,-frz]
 rw [RL hr] at m1
 obtain ⟨m,rfl⟩:∃m:Nat,n=(m:Int):=⟨n.toNat,by have:=hr.1.1; omega⟩
 rw [RY] at m1
 have m40:=vB hr hb hsl
 obtain ⟨W1,O,hW⟩:∃W1 O,cU m p l=.fp [.int .i64 (m:Int),W1,O]:=⟨_,_,rfl⟩
 rw [hW] at m1 m40
 have hfw:∀B,frz B 4 (.fp [.int .i64 (m:Int),W1,O])=.fp [.int .i64 (m:Int),W1,O]:=fun _=>rfl
 have hnr:bu 4 (.fp [.int .i64 (m:Int),W1,O])=true:=rfl
 cases he:exM p l s with
 | none=>
  rw [he] at m40
  rw [RH (show ¬ iT m l p s from fun h=>by
   obtain ⟨_,x,y,h,_⟩:=h
   rw [he] at h; cases h)]
  simp only [exT,Option.getD_none,Option.isSome_none] at m40
  simp [Hj,f1,f2,m1,m40,hfw,f4,aP,bj,-frz]
 | some st=>
  obtain ⟨x,y⟩:=st
  rw [he] at m40
  simp only [exT,So,Option.isSome_some] at m40
  have b1:aq .gtr (.int .i64 x) (.int .i64 0)=some (.bool (decide (x > 0))):=by simp [aq]
  have e:decide (iT m l p s)=decide (x > 0):=by
   rw [Tf,Sq,Sq]
   constructor
   ·rintro ⟨_,a',b',h,h2⟩
    rw [he] at h
    injection h with h
    injection h with h h'
    omega
   ·intro h
    exact ⟨hr,x,y,he,h⟩
  rw [e]
  obtain ⟨d,hd⟩:∃d,d=decide (x > 0):=⟨_,rfl⟩
  rw [<-hd] at b1 ⊢
  simp [Hj,f1,f2,m1,m40,hfw,f4,b1,aP,bj,-frz,-aq]
def yh:List (FuncId × aD):=[(51,ck 4 M25),(52,ck 4 M26),(53,aG 4 M27),(54,aG 4 M40),(90,aG 4 M41)]
@[simp] theorem Oi:aH yh 51=some (ck 4 M25):=rfl
@[simp] theorem Oh:aH yh 52=some (ck 4 M26):=rfl
@[simp] theorem Og:aH yh 53=some (aG 4 M27):=rfl
@[simp] theorem Of:aH yh 54=some (aG 4 M40):=rfl
@[simp] theorem Oe:aH yh 90=some (aG 4 M41):=rfl
theorem Ez:∀f M,aH yh f=some M->ak Tryz.prog GC f M:=ae (ak.of_pureF kM 4) (ae (ak.of_pureF qf 4) (ae (ak.of_pure uw 4) (ae (ak.of_pure nC 4) (ae (ak.of_pure nB 4) aw))))
def smT (r:Option Int):AV:=.tup [.int .i64 (r.getD 0),.bool r.isSome]
open Classical in
theorem BZ (fuel:Nat) {l:List bc} (ha:cw a=some l) (n:Int) (hhi:cy hi):∀(m:Nat) (p:Int),0<m->hi-p+1<m ->
  match smL n.toNat l hi m p with
  | some q=>∃v7 v8 v9 v10 v11 v12 v13 v14 v15 v16,cc (evC (ai GC yh) fuel fN) iD m (nv (.int .i64 n) a (.int .i64 hi) (.int .i64 p)) []=some (.ret [.int .i64 n,a,.undef,.int .i64 hi,.int .i64 q,.bool true,.int .i64 q,v7,v8,v9,v10,v11,v12,v13,v14,v15,v16] [])
  | none=>∃v6 v7 v8 v9 v10 v11 v12 v13 v14 v15 v16,cc (evC (ai GC yh) fuel fN) iD m (nv (.int .i64 n) a (.int .i64 hi) (.int .i64 p)) []=some (.exit 0 [.int .i64 n,a,.undef,.int .i64 hi,.undef,.undef,v6,v7,v8,v9,v10,v11,v12,v13,v14,v15,v16] [])
 | 0,p,h0,hm=>by omega
 | m+1,p,h0,hm=>by
  have f1:∀A n,frz A n a=a:=fun A n=>eG ha A n
  have m1:M25 [.int .i64 n,a,.int .i64 p]=some (if cC n l p then .tup [cU n.toNat p l,.bool true] else .tup [.nilP,.bool false]):=by simp only [M25,ha,SE]
  have b1:aq .leq (.int .i64 p) (.int .i64 hi)=some (.bool (decide (p<=hi))):=by simp [aq]
  unfold smL
  rw [aO,zg]
  by_cases hp:p<=hi
  rotate_left
  ·rw [RN (fun h=>hp h.1)]
   rw [RH hp] at b1
   refine ⟨.int .i64 p,.undef,.undef,.undef,.undef,.undef,.undef,.bool false,.undef,.undef,.undef,?_⟩
   simp [fN,b1,-aq]
  rw [RJ hp] at b1
  by_cases hr:cC n l p
  rotate_left
  ·rw [RN (fun h=>hr (by
    have h2:=h.2
    have h3:=h2.1.1
    have:((n.toNat:Nat):Int)=n:=by omega
    rw [this] at h2; exact h2))]
   rw [RN hr] at m1
   refine ⟨.int .i64 p,.nilP,.bool false,.undef,.undef,.undef,.undef,.bool true,.bool true,.undef,.undef,?_⟩
   simp [fN,b1,m1,f1,aP,-frz,-aq]
  rw [RL hr] at m1
  obtain ⟨k,rfl⟩:∃k:Nat,n=(k:Int):=⟨n.toNat,by have:=hr.1.1; omega⟩
  rw [RY] at m1 ⊢
  rw [RL ⟨hp,hr⟩]
  have m2:=vD hr
  have m3:=vC hr
  obtain ⟨W1,O,hW⟩:∃W1 O,cU k p l=.fp [.int .i64 (k:Int),W1,O]:=⟨_,_,rfl⟩
  have hfw:∀B,frz B 4 (.fp [.int .i64 (k:Int),W1,O])=.fp [.int .i64 (k:Int),W1,O]:=fun _=>rfl
  have hnr:bu 4 (.fp [.int .i64 (k:Int),W1,O])=true:=rfl
  by_cases hok:(cA (lar p l) k).2=true
  ·rw [RL hok]
   rw [hok] at m2
   rw [hW] at m1 m2
   refine ⟨.fp [.int .i64 (k:Int),W1,O],.bool true,.bool true,.undef,.undef,.undef,.bool true,.bool false,.bool true,.undef,?_⟩
   obtain ⟨S,hS⟩:∃S,S=slA 1 (ax (cA (lar p l) k).1):=⟨_,rfl⟩
   rw [<-hS] at m2
   simp [fN,b1,m1,m2,f1,hfw,aP,-frz,-aq]
  rw [RN hok]
  obtain ⟨res,u,xs,k1,k2,k3,k4,k5,k6,k7⟩:=yD hr hok
  have hbd:=xT (n:=(k:Int)) (by have:=hr.1.1; omega) hr.2 hr.1.2.2 k3
  have m4:=vB hr (bo 1 (ax res)) (by rw [k2]; simp; omega)
  rw [k1,So] at m3
  rw [k7] at m4
  rw [k1,So,k7,So]
  simp only [exT,So,Option.isSome_some] at m4
  simp only
  rw [Bool.not_eq_true] at hok
  rw [hok] at m2
  rw [hW] at m1 m2 m3 m4
  obtain ⟨S,hS⟩:∃S,S=slA 1 (ax (cA (lar p l) k).1):=⟨_,rfl⟩
  rw [<-hS] at m2
  have hnc:∀n,bu n (slA 1 (ax res))=true:=fun n=>xH n 1 _
  have hfc:∀A n,frz A n (slA 1 (ax res))=slA 1 (ax res):=fun A n=>tL A n 1 _
  obtain ⟨C,hC⟩:∃C,C=slA 1 (ax res):=⟨_,rfl⟩
  rw [<-hC] at m3 m4 hnc hfc
  obtain ⟨s,hs⟩:∃s,s=ji p xs:=⟨_,rfl⟩
  obtain ⟨t,ht⟩:∃t,t=kL xs:=⟨_,rfl⟩
  rw [<-hs,<-ht] at m4 hbd ⊢
  rw [<-hs] at k6
  have b2:aq .leq (.int .i64 t) (.int .i64 0)=some (.bool (decide (t<=0))):=by simp [aq]
  by_cases ht0:t<=0
  ·rw [RL ht0]
   rw [RJ ht0] at b2
   refine ⟨.int .i64 p,.fp [.int .i64 (k:Int),W1,O],.bool true,.bool false,.int .i64 s,.int .i64 t,.undef,.bool true,.bool false,.bool false,.bool true,?_⟩
   simp [fN,b1,b2,m1,m2,m3,m4,f1,hfw,hnc,hfc,aP,-frz,-aq]
  rw [RN ht0]
  rw [RH ht0] at b2
  obtain ⟨d1,d2,d3,d4⟩:=ui k6 (show 0<t by omega)
  have hper:=hr.2
  unfold cy at hper hhi
  have b3:aq .add (.int .i64 s) (.int .i64 t)=some (.int .i64 (s+t)):=by
   simp only [aq]; rw [RL trivial,eg (by unfold inI; omega)]
  have b4:aq .sub (.int .i64 (s+t)) (.int .i64 1)=some (.int .i64 (s+t-1)):=by
   simp only [aq]; rw [RL trivial,eg (by unfold inI; omega)]
  have b5:aq .quo (.int .i64 (s+t-1)) (.int .i64 t)=some (.int .i64 ((s+t-1).tdiv t)):=by
   simp only [aq]; rw [RL trivial,RN (show ¬ t=0 by omega),eg (by unfold inI; omega)]
  obtain ⟨d,hd⟩:∃d,d=(s+t-1).tdiv t:=⟨_,rfl⟩
  rw [<-hd] at b5 d1 d2 ⊢
  have b6:aq .add (.int .i64 p) (.int .i64 d)=some (.int .i64 (p+d)):=by
   simp only [aq]; rw [RL trivial,eg (by unfold inI; omega)]
  have ih:=BZ fuel ha (k:Int) hhi m (p+d) (by omega) (by omega)
  rw [RY] at ih
  obtain ⟨p2,hp2⟩:∃p2,p2=p+d:=⟨_,rfl⟩
  rw [<-hp2] at b6 ih ⊢
  obtain ⟨st,hst⟩:∃st,st=s+t:=⟨_,rfl⟩
  rw [<-hst] at b3 b4 b5
  obtain ⟨st1,hst1⟩:∃st1,st1=st-1:=⟨_,rfl⟩
  rw [<-hst1] at b4 b5
  have hrun:run (ai GC yh) fuel [.code fN] (nv (.int .i64 (k:Int)) a (.int .i64 hi) (.int .i64 p)) []=some (.normal (nv (.int .i64 (k:Int)) a (.int .i64 hi) (.int .i64 p2)) []):=by
   simp [fN,b1,b2,b3,b4,b5,b6,m1,m2,m3,m4,f1,hfw,hnc,hfc,aP,-frz,-aq]
  rw [hrun]
  exact ih
def M23:aI:=fun args=>match args with
 | [.int .i64 n,a,.int .i64 lo,.int .i64 hi]=>(cw a).map fun l=>smT (smM n l lo hi)
 | _=>none
theorem H6:an Tryz.prog GC 40 M23:=by
 refine an.of_ev (E:=ai GC yh) (ag Ez) rfl at23 Ky 5 ?_
 intro args r h
 unfold M23 at h
 split at h
 rotate_left
 ·cases h
 rename_i n a lo hi
 simp only [RK] at h
 obtain ⟨l,hl,rfl⟩:=h
 obtain ⟨m,hm⟩:∃m,m=(hi-lo+2).toNat+1:=⟨_,rfl⟩
 have m1:M41 [.int .i64 hi]=some (.bool (decide (cy hi))):=rfl
 by_cases hp:cy hi
 rotate_left
 ·refine ⟨0,?_⟩
  rw [RH hp] at m1
  rw [show smM n l lo hi=none from RN hp]
  rw [aT _ _ rfl]
  simp [Ip,m1,smT]
 rw [RJ hp] at m1
 rw [show smM n l lo hi=smL n.toNat l hi (hi-lo+2).toNat lo from RL hp]
 by_cases hz:(hi-lo+2).toNat=0
 ·
  refine ⟨1,?_⟩
  rw [hz]
  have b1:aq .leq (.int .i64 lo) (.int .i64 hi)=some (.bool false):=by simp [aq]; omega
  have lp:cc (evC (ai GC yh) 1 fN) iD 1 (nv (.int .i64 n) a (.int .i64 hi) (.int .i64 lo)) []=some (.exit 0 [.int .i64 n,a,.undef,.int .i64 hi,.undef,.undef,.int .i64 lo,.undef,.undef,.undef,.undef,.undef,.undef,.bool false,.undef,.undef,.undef] []):=by
   rw [aO,zg]
   simp [fN,b1,-aq]
  rw [aT _ _ rfl]
  simp [Ip,m1,yc lp,smL,smT]
 ·obtain ⟨F,hF⟩:∃F,F=(hi-lo+2).toNat:=⟨_,rfl⟩
  have hl23:=BZ F hl n hp F lo (by omega) (by omega)
  refine ⟨F,?_⟩
  rw [<-hF]
  rw [aT _ _ rfl]
  cases hs:smL n.toNat l hi F lo with
  | none=>
   rw [hs] at hl23
   obtain ⟨v6,v7,v8,v9,v10,v11,v12,v13,v14,v15,v16,lp⟩:=hl23
   simp [Ip,m1,yc lp,smT]
  | some q=>
   rw [hs] at hl23
   obtain ⟨v7,v8,v9,v10,v11,v12,v13,v14,v15,v16,lp⟩:=hl23
   simp [Ip,m1,yc lp,smT]
end Cy
namespace Clu
open Go
def kR:bM:=⟨1,7,.seq (.region [.y 1 0,.C 2]) (.seq (.seq (.region [.k 5 1,.E 41 0,.S 6 1]) (.cond (.var 6) (.seq (.region [.C 2]) .ret) .skip)) (.seq (.region [.d 0 1,.b 1 0,.B 1,.ax 3 1,.j 1 3 2]) (.seq (.region [.bm 4 1]) (.seq (.region [.cn 5 1]) (.seq (.region [.qn (.makeFunc (.func 42) [] [.var 3,.var 4,.var 1,.var 5]),.j 1 5 0]) (.seq (.region [.o 1 5,.qn (.buildSlice 1 [.cst (.int .i64 0)]),.ah 0 1]) (.seq (.region [.o 1 4,.c 2 0]) .ret))))))),[.tmp 2]⟩
theorem mh:aB Tryz.prog Tryz.f15 1 [0,1,2,3,4,5,8] [] false ([],[])=some kR:=by kernel_rfl
theorem CW:Tryz.prog.funcs[15]?=some Tryz.f15:=by kernel_rfl
def uM:bM:=⟨1,6,.seq (.region [.y 1 0,.f 2]) (.seq (.region [.cn 3 1,.qn (.store 1 (.var 3) (.fn 91))]) (.seq (.region [.d 0 1,.b 1 0,.qn (.makeFunc (.func 93) [] [.var 3]),.q 92 1 2,.c 4 3]) (.seq (.region [.o 1 3,.d 1 1,.b 1 1,.qn (.call (.tmp 0) [.tmp 2,.cst (.int .i64 10000)]),.h 3,.qt (.load false 1 (.var 3)) 4,.s 2 1 4,.p 1 6 4,.c3 5 7 4,.i 4 8,.h 9,.qt (.load false 1 (.var 3)) 10,.s 3 1 10,.p 1 12 10,.c3 11 13 10,.i 10 14,.c 5 15]) (.seq (.region [.a 4,.N 0,.h 1,.x 5 2,.i 2 3,.h 4,.s 0 1 5,.p 1 6 5,.au 7 5,.qt (.bin .geq (.tmp 8) (.cst (.int .i64 1))) 5,.i 5 9,.h 10,.s 0 1 11,.p 1 12 11,.au 13 11,.av 14 4 11,.i 11 15,.h 16,.s 4 1 17,.p 1 18 17,.aw 19 1 17,.de 20 17,.D 4 1 21,.r 1 22 21,.qf (.bin .eql (.tmp 23) (.cst (.int .i64 2))) 21,.b2 21 24 17,.i 17 25,.c 2 26]) .ret)))),[.tmp 2]⟩
theorem yU:aB Tryz.prog Tryz.f41 1 [0,1,2,3,4,5] [] true ([],[])=some uM:=by kernel_rfl
theorem Pr:Tryz.prog.funcs[41]?=some Tryz.f41:=by kernel_rfl
def fQ:MC:=.seq (.region [.w 19 18 17]) (.seq (.cond (.var 19) .skip (.exit 0)) (.seq (.seq (.block 1 (.seq (.region [.a 18,.H 1 16 18,.b 1 1,.c 8 0,.c 9 2]) (.seq (.region [.a 9,.a 6,.qn (.build [.int .i64 0,.int .i64 0,.int .i64 0,.int .i64 0] [(0,(1,.tmp 0)),(2,(1,.tmp 1)),(3,(1,.cst (.int .i64 1)))]),.bh 10 4,.j 4 10 2]) (.seq (.seq (.region [.a 8,.t 0 1,.o 1 3,.B 2,.Z 20 1 3]) (.cond (.var 20) (.region [.o 1 3,.a 8,.t 1 1,.g 1 0 2,.b 1 3,.d 1 10,.I 1 5 4,.d 3 10,.b9 1 7 0]) .skip)) (.seq (.seq (.region [.d 4 2,.b 1 0,.ao 1 2,.h 2,.D 1 10 3,.r 1 4 3,.z 9 3,.qf (.bin .add (.tmp 6) (.cst (.int .i64 1))) 3,.qf (.bin .neq (.tmp 5) (.tmp 7)) 3,.G 21 3 8]) (.cond (.var 21) (.region [.d 2 10,.b 1 0,.d 3 2,.b 1 2,.v 1 3,.d 2 10,.I 1 5 4]) .skip)) (.region [.k 4 10,.cx 0,.qn (.call (.fn 49) [.var 7,.tmp 1])])))))) (.kill [0,1,4,5,8,9,10,11,12,13,14,15,19,20,21,22,23,24,25])) (.region [.m 18 1,.c 18 0])))
def lQ:MC:=.seq (.region [.w 25 24 23]) (.seq (.cond (.var 25) .skip (.exit 2)) (.seq (.seq (.block 3 (.seq (.region [.a 24,.H 2 22 24,.F 2 1,.ar 13 2,.c 12 0,.j 2 13 2]) (.seq (.region [.a 11,.o 1 3,.a 12,.t 2 1,.ay 0 1 3,.V 14 3,.j 3 14 4]) (.region [.d 0 14,.b 1 0,.d 1 14,.b 1 2,.a 6,.d 0 13,.b 1 5,.v 4 6,.d 2 14,.b 1 8,.bd 1 3 7 9,.d 1 14,.b 1 11,.d 0 14,.b 1 13,.a 6,.d 0 13,.b 1 16,.v 15 17,.d 1 13,.b 1 19,.v 18 20,.b1 21,.d 2 14,.b 1 23,.b1 24,.bd 12 14 22 25,.df 10 26,.qn (.call (.fn 49) [.var 7,.tmp 27])])))) (.kill [0,1,2,4,5,8,9,10,12,13,14,15,16,17,18,19,20,21,25])) (.region [.m 24 1,.c 24 0])))
def Ac:bM:=⟨2,26,.seq (.region [.y 2 0,.y 3 1,.C 4,.e 5 0]) (.seq (.seq (.region [.k 5 2,.E 15 0,.qn (.makeFunc (.func 46) [] [.var 3]),.q 45 1 2,.S 15 3]) (.cond (.var 15) (.seq (.region [.C 4,.e 5 130]) .ret) .skip)) (.seq (.region [.k 5 2,.E 48 0,.c 6 1]) (.seq (.region [.bm 7 1]) (.seq (.seq (.region [.bp 16 1 3,.R 17 16,.e 18 0]) (.seq (.block 0 (.loop [0,1,4,5,8,9,10,11,12,13,14,15,19,20,21,22,23,24,25] fQ)) (.kill [0,1,4,5,8,9,10,11,12,13,14,15,16,17,18,19,20,21,22,23,24,25]))) (.seq (.region [.qn (.call (.fn 50) []),.d 4 2,.b 1 1,.qn (.indexVal false 3 1 (.tmp 0) (.tmp 2)),.c 11 3]) (.seq (.seq (.region [.d 0 2,.am 22 1 0,.R 23 22,.e 24 0]) (.seq (.block 2 (.loop [0,1,2,4,5,8,9,10,12,13,14,15,16,17,18,19,20,21,25] lQ)) (.kill [0,1,2,3,4,5,6,8,9,10,11,12,13,14,15,16,17,18,19,20,21,22,23,24,25]))) (.seq (.region [.o 1 7,.c 4 0,.e 5 0]) .ret))))))),[.tmp 4,.tmp 5]⟩
def iF:List Nat:=[0,1,4,5,8,9,10,11,12,13,14,15,19,20,21,22,23,24,25]
abbrev nz (v2 v3 v6 v7 v16 v17 v18:AV):List AV:=[.undef,.undef,v2,v3,.undef,.undef,v6,v7,.undef,.undef,.undef,.undef,.undef,.undef,.undef,.undef,v16,v17,v18,.undef,.undef,.undef,.undef,.undef,.undef,.undef]
theorem zi {d11 v16 v17 v18 d22 d23 d24:AV}:clear iF [d0,d1,v2,v3,d4,d5,v6,v7,d8,d9,d10,d11,d12,d13,d14,d15,v16,v17,v18,d19,d20,d21,d22,d23,d24,d25]=nz v2 v3 v6 v7 v16 v17 v18:=by simp only [iF,clear,Sr,TS,SL,S8]
theorem Jy {o:Out} {k:List KC} {d11 v16 v17 v18 d22 d23 d24:AV} (h:cc (evC E fuel fQ) iF fuel (nz v2 v3 v6 v7 v16 v17 v18) A=some o) :
  run E fuel (.code (.loop [0,1,4,5,8,9,10,11,12,13,14,15,19,20,21,22,23,24,25] fQ) :: k) [d0,d1,v2,v3,d4,d5,v6,v7,d8,d9,d10,d11,d12,d13,d14,d15,v16,v17,v18,d19,d20,d21,d22,d23,d24,d25] A=after E fuel k o:=aV iF _ _ (by rw [zi]; exact h)
def iE:List Nat:=[0,1,2,4,5,8,9,10,12,13,14,15,16,17,18,19,20,21,25]
abbrev ny (v3 v6 v7 v11 v22 v23 v24:AV):List AV:=[.undef,.undef,.undef,v3,.undef,.undef,v6,v7,.undef,.undef,.undef,v11,.undef,.undef,.undef,.undef,.undef,.undef,.undef,.undef,.undef,.undef,v22,v23,v24,.undef]
theorem zh {v22 v23 v24:AV}:clear iE [d0,d1,d2,v3,d4,d5,v6,v7,d8,d9,d10,v11,d12,d13,d14,d15,d16,d17,d18,d19,d20,d21,v22,v23,v24,d25]=ny v3 v6 v7 v11 v22 v23 v24:=by simp only [iE,clear,Sr,TS,SL,S8]
theorem Jx {o:Out} {k:List KC} {v22 v23 v24:AV} (h:cc (evC E fuel lQ) iE fuel (ny v3 v6 v7 v11 v22 v23 v24) A=some o) :
  run E fuel (.code (.loop [0,1,2,4,5,8,9,10,12,13,14,15,16,17,18,19,20,21,25] lQ) :: k) [d0,d1,d2,v3,d4,d5,v6,v7,d8,d9,d10,v11,d12,d13,d14,d15,d16,d17,d18,d19,d20,d21,v22,v23,v24,d25] A=after E fuel k o:=aV iE _ _ (by rw [zh]; exact h)
theorem yT:aB Tryz.prog Tryz.f16 2 [0,1,2,3,4,5,6,7,8,9,10,11,12,13,14,19,22,23,24,25,36,53,69,70,71,72] [50] true ([[0,1,4,5,8,9,10,11,12,13,14,15,19,20,21,22,23,24,25],[0,1,2,4,5,8,9,10,12,13,14,15,16,17,18,19,20,21,25]],[[0,1,4,5,8,9,10,11,12,13,14,15,19,20,21,22,23,24,25],[0,1,4,5,8,9,10,11,12,13,14,15,16,17,18,19,20,21,22,23,24,25],[0,1,2,4,5,8,9,10,12,13,14,15,16,17,18,19,20,21,25],[0,1,2,3,4,5,6,8,9,10,11,12,13,14,15,16,17,18,19,20,21,22,23,24,25]])=some Ac:=by kernel_rfl
theorem Pd:Tryz.prog.funcs[16]?=some Tryz.f16:=by kernel_rfl
def fP:MC:=.seq (.region [.w 14 13 12]) (.seq (.cond (.var 14) .skip (.exit 0)) (.seq (.seq (.block 1 (.seq (.region [.H 1 11 13,.b 1 0,.c 6 1]) (.seq (.region [.k 5 1,.a 6,.q 16 0 1,.h 2,.n 3 0,.n 3 1,.c 7 4,.h 5]) (.seq (.region [.e 8 1000000]) (.seq (.seq (.region [.d 0 4,.b 1 0,.cs 15 1 0]) (.cond (.var 15) (.region [.d 0 4,.b 1 0,.A 1 1,.c 8 2]) .skip)) (.seq (.seq (.region [.a 8,.U 16 0 1]) (.cond (.var 16) (.exit 0) .skip)) (.seq (.region [.a 6,.B 0,.a 7,.a 8,.qn (.call (.fn 40) [.tmp 1,.tmp 2,.cst (.int .i64 1),.tmp 3]),.h 4,.n 5 0,.n 5 1,.c 9 6,.c 10 7]) (.seq (.region [.T 17 10]) (.cond (.var 17) (.region [.a 9,.a 6,.qn (.build [.int .i64 0,.nilS,.nilS,.nilS] [(0,(1,.tmp 0)),(1,(1,.tmp 1))]),.a 7,.j 4 4 2,.c 5 3]) .skip))))))))) (.kill [0,3,6,7,8,9,10,14,15,16,17,18,19])) (.region [.m 13 1,.c 13 0])))
def Iq:bM:=⟨1,20,.seq (.region [.y 1 0,.bg 2 4,.e 3 0]) (.seq (.region [.bg 4 4]) (.seq (.region [.C 5]) (.seq (.seq (.region [.k 5 1,.br 11 15 0,.R 12 11,.e 13 0]) (.seq (.block 0 (.loop [0,3,6,7,8,9,10,14,15,16,17,18,19] fP)) (.kill [0,1,3,6,7,8,9,10,11,12,13,14,15,16,17,18,19]))) (.seq (.seq (.region [.d 0 4,.b 1 0,.aa 18 1 0]) (.cond (.var 18) (.seq (.region [.qn (.build [.int .i64 0,.nilS,.nilS,.nilS] []),.j 4 2 0,.e 3 130]) .ret) .skip)) (.seq (.region [.d 1 4,.b 1 0,.B 1,.a 5,.d 0 4,.b 1 4,.O 17 2 3 5,.h 6,.n 7 0,.n 7 1,.n 7 2,.d 2 4,.I 1 11 8]) (.seq (.seq (.region [.d 0 4,.b 1 0,.cs 19 1 1]) (.cond (.var 19) (.region [.d 1 4,.b 1 0,.B 1,.a 5,.d 0 4,.b 1 4,.A 5 1,.O 17 2 3 6,.h 7,.n 8 0,.n 8 1,.n 8 2,.d 3 4,.I 1 12 10]) .skip)) (.seq (.region [.k 4 4,.j 4 2 0,.e 3 0]) .ret))))))),[.cell 2 true 4,.tmp 3]⟩
def ki:List Nat:=[0,3,6,7,8,9,10,14,15,16,17,18,19]
abbrev nw (v1 v2 v4 v5 v11 v12 v13:AV):List AV:=[.undef,v1,v2,.undef,v4,v5,.undef,.undef,.undef,.undef,.undef,v11,v12,v13,.undef,.undef,.undef,.undef,.undef,.undef]
theorem vn {v12 v13:AV}:clear ki [d0,v1,v2,d3,v4,v5,d6,d7,d8,d9,d10,v11,v12,v13,d14,d15,d16,d17,d18,d19]=nw v1 v2 v4 v5 v11 v12 v13:=rfl
theorem yd {o:Out} {k:List KC} {v12 v13:AV} (h:cc (evC E fuel fP) ki fuel (nw v1 v2 v4 v5 v11 v12 v13) A=some o) :
  run E fuel (.code (.loop [0,3,6,7,8,9,10,14,15,16,17,18,19] fP) :: k) [d0,v1,v2,d3,v4,v5,d6,d7,d8,d9,d10,v11,v12,v13,d14,d15,d16,d17,d18,d19] A=after E fuel k o:=aV ki _ _ (by rw [vn]; exact h)
theorem Kz:aB Tryz.prog Tryz.f14 1 [0,1,2,3,4,5,7,8,10,11,12,14,15,16,17,28,33,42,50,66] [] true ([[0,3,6,7,8,9,10,14,15,16,17,18,19]],[[0,3,6,7,8,9,10,14,15,16,17,18,19],[0,1,3,6,7,8,9,10,11,12,13,14,15,16,17,18,19]])=some Iq:=by kernel_rfl
theorem at22:Tryz.prog.funcs[14]?=some Tryz.f14:=by kernel_rfl
def rz:bM:=⟨2,10,.seq (.region [.y 2 0,.y 3 1,.f 4]) (.seq (.region [.k 5 2,.d 1 3,.b 1 1,.q 16 0 2,.h 3,.n 4 0,.n 4 1,.c 5 5,.c 6 6]) (.seq (.region [.d 1 3,.b 1 0,.B 1,.c 7 2]) (.seq (.seq (.block 0 (.seq (.region [.a 6,.be 0 0,.h 1,.D 0 3 2,.r 1 3 2,.b6 4 1 2,.K 2 5,.h 6,.D 0 3 7,.r 1 8 7,.ai 9 1000000 7,.K 7 10,.h 11,.z 7 12,.z 5 12,.D 0 3 12,.r 1 15 12,.D 2 3 12,.r 1 17 12,.qf (.call (.fn 20) [.tmp 13,.tmp 14,.tmp 16,.tmp 18]) 12,.L 19 12,.K 12 20,.c 8 21]) (.cond (.var 8) (.seq (.region [.f 4]) .ret) (.seq (.region [.d 0 3,.b 1 0,.ao 1 1,.c 9 2]) (.cond (.var 9) (.seq (.region [.d 3 3,.b 1 0,.B 1,.ao 2 0,.c 4 3]) .ret) .skip))))) (.kill [0,1,2,4,6,8,9])) (.seq (.region [.a 7,.a 5,.d 0 3,.b 1 2,.A 3 1,.d 3 3,.b 1 5,.W 18 0 1 4 6,.c 4 7]) .ret)))),[.tmp 4]⟩
theorem sh:aB Tryz.prog Tryz.f56 2 [0,1,2,3,4,5,6,7,18,41] [] true ([],[[0,1,2,4,6,8,9]])=some rz:=by kernel_rfl
theorem KS:Tryz.prog.funcs[56]?=some Tryz.f56:=by kernel_rfl
def dz:MC:=.seq (.seq (.region [.a 6,.o 1 1,.bo 8 0 1]) (.cond (.var 8) .skip (.exit 0))) (.seq (.seq (.block 1 (.seq (.region [.a 0,.a 6,.q 43 0 1,.N 2,.h 3,.s 4 3 4,.p 1 5 4,.aw 6 1 4,.de 7 4,.z 6 8,.z 0 8,.al 10 8,.co 9 11 8,.b2 8 12 4,.bs 9 4 13]) (.cond (.var 9) (.regionD [] [.o 1 4,.a 0,.E 44 1,.a 6,.bz 3,.ch 2 4,.ah 0 5] [(0,2),(0,5)]) .skip))) (.kill [2,5,7,8,9])) (.region [.a 6,.t 0 1,.c 6 1]))
def vU:bM:=⟨5,10,.seq (.seq (.region [.a 0,.B 0,.o 1 1,.t 2 1,.bc 7 1 3]) (.cond (.var 7) (.seq (.region [.o 1 1,.t 0 1,.bl 1 1,.c 5 2]) (.seq (.region [.a 5,.a 0,.qn (.copy 1 (.tmp 0) (.tmp 1))]) (.seq (.region [.o 1 2,.a 5,.bj 1,.qn (.append 1 24 (.tmp 0) (.tmp 2)),.j 1 2 3]) .ret))) .skip)) (.seq (.region [.e 6 1]) (.seq (.block 0 (.loop [2,5,7,8,9] dz)) (.kill [0,1,2,3,4,5,6,7,8,9]))),[]⟩
def dr:List Nat:=[2,5,7,8,9]
abbrev gw (v0 v1 v3 v4 v6:AV):List AV:=[v0,v1,.undef,v3,v4,.undef,v6,.undef,.undef,.undef]
theorem oA:clear dr [v0,v1,d2,v3,v4,d5,v6,d7,d8,d9]=gw v0 v1 v3 v4 v6:=rfl
theorem rM {o:Out} {k:List KC} (h:cc (evC E fuel dz) dr fuel (gw v0 v1 v3 v4 v6) A=some o) :
  run E fuel (.code (.loop [2,5,7,8,9] dz) :: k) [v0,v1,d2,v3,v4,d5,v6,d7,d8,d9] A=after E fuel k o:=aV dr _ _ (by rw [oA]; exact h)
theorem vl:aB Tryz.prog Tryz.f42 5 [0,1,2,3,4,6,7,12,25,42] [] false ([[2,5,7,8,9]],[[2,5,7,8,9],[0,1,2,3,4,5,6,7,8,9]])=some vU:=by kernel_rfl
theorem Mk:Tryz.prog.funcs[42]?=some Tryz.f42:=by kernel_rfl
def Hf:bM:=⟨2,3,.seq (.region [.f 2]) (.seq (.region [.a 0,.a 1,.q 58 0 1,.P 2 0,.c 2 3]) .ret),[.tmp 2]⟩
theorem yN:aB Tryz.prog Tryz.f43 2 [0,1,4] [] true ([],[])=some Hf:=by kernel_rfl
theorem O7:Tryz.prog.funcs[43]?=some Tryz.f43:=by kernel_rfl
def AN:bM:=⟨1,2,.seq (.region [.C 1]) (.seq (.region [.a 0,.a 0,.B 1,.a 0,.B 3,.qn (.sliceM 1 (.tmp 0) none (.tmp 2) (.tmp 4)),.c 1 5]) .ret),[.tmp 1]⟩
theorem vk:aB Tryz.prog Tryz.f44 1 [0,2] [] true ([],[])=some AN:=by kernel_rfl
theorem Mj:Tryz.prog.funcs[44]?=some Tryz.f44:=by kernel_rfl
def tx:bM:=⟨2,3,.seq (.region [.f 2]) (.seq (.region [.a 0,.P 0 0,.h 1,.x 0 2,.x 1 2,.ag 3 4 2,.i 2 5,.c 2 6]) .ret),[.tmp 2]⟩
theorem yM:aB Tryz.prog Tryz.f91 2 [0,1,4] [] true ([],[])=some tx:=by kernel_rfl
theorem O6:Tryz.prog.funcs[91]?=some Tryz.f91:=by kernel_rfl
def MW:bM:=⟨2,3,.seq (.region [.f 2]) (.seq (.region [.a 0,.a 1,.q 145 0 1,.P 2 0,.c 2 3]) .ret),[.tmp 2]⟩
theorem Kt:aB Tryz.prog Tryz.f92 2 [0,1,4] [] true ([],[])=some MW:=by kernel_rfl
theorem at39:Tryz.prog.funcs[92]?=some Tryz.f92:=by kernel_rfl
def Aa:bM:=⟨2,4,.seq (.region [.y 2 0,.f 3]) (.seq (.region [.o 1 1,.d 0 2,.b 1 1,.qn (.call (.tmp 0) [.tmp 2,.cst (.int .i64 100000)]),.N 3,.h 4,.ad 1 1 5,.D 1 2 5,.r 1 7 5,.qf (.call (.tmp 6) [.tmp 8,.cst (.int .i64 100000)]) 5,.L 9 5,.K 5 10,.c 3 11]) .ret),[.tmp 3]⟩
theorem yL:aB Tryz.prog Tryz.f93 2 [0,1,2,3] [] true ([],[])=some Aa:=by kernel_rfl
theorem O5:Tryz.prog.funcs[93]?=some Tryz.f93:=by kernel_rfl
def xL:bM:=⟨2,3,.seq (.region [.f 2]) (.seq (.region [.a 0,.a 1,.q 94 0 1,.P 2 0,.c 2 3]) .ret),[.tmp 2]⟩
theorem sf:aB Tryz.prog Tryz.f45 2 [0,1,4] [] true ([],[])=some xL:=by kernel_rfl
theorem KQ:Tryz.prog.funcs[45]?=some Tryz.f45:=by kernel_rfl
def xK:bM:=⟨2,3,.seq (.region [.f 2]) (.seq (.region [.a 0,.o 1 1,.q 47 0 1,.c 2 2]) .ret),[.tmp 2]⟩
theorem se:aB Tryz.prog Tryz.f46 2 [0,1,3] [] true ([],[])=some xK:=by kernel_rfl
theorem KP:Tryz.prog.funcs[46]?=some Tryz.f46:=by kernel_rfl
def ew:MC:=.seq (.region [.w 7 6 5]) (.seq (.cond (.var 7) .skip (.exit 0)) (.seq (.seq (.block 1 (.seq (.region [.a 6,.c 3 0]) (.seq (.region [.a 0,.a 3,.g 1 0 1,.b 1 2,.a 1,.a 3,.g 1 4 5,.b 1 6,.bb 8 3 7]) (.cond (.var 8) (.seq (.region [.f 2]) .ret) .skip)))) (.kill [2,3,4,7,8])) (.region [.m 6 1,.c 6 0])))
def z9:bM:=⟨2,9,.seq (.region [.f 2]) (.seq (.seq (.region [.a 0,.B 0,.a 1,.B 2,.bb 4 1 3]) (.cond (.var 4) (.seq (.region [.f 2]) .ret) .skip)) (.seq (.seq (.region [.a 0,.ak 5 0,.e 6 0]) (.seq (.block 0 (.loop [2,3,4,7,8] ew)) (.kill [0,1,2,3,4,5,6,7,8]))) (.seq (.region [.M 2]) .ret))),[.tmp 2]⟩
def dG:List Nat:=[2,3,4,7,8]
abbrev eV (v0 v1 v5 v6:AV):List AV:=[v0,v1,.undef,.undef,.undef,v5,v6,.undef,.undef]
theorem oz:clear dG [v0,v1,d2,d3,d4,v5,v6,d7,d8]=eV v0 v1 v5 v6:=rfl
theorem rL {o:Out} {k:List KC} (h:cc (evC E fuel ew) dG fuel (eV v0 v1 v5 v6) A=some o) :
  run E fuel (.code (.loop [2,3,4,7,8] ew) :: k) [v0,v1,d2,d3,d4,v5,v6,d7,d8] A=after E fuel k o:=aV dG _ _ (by rw [oz]; exact h)
theorem yK:aB Tryz.prog Tryz.f47 2 [0,1,4,5,10,12,13,14,24] [] true ([[2,3,4,7,8]],[[2,3,4,7,8],[0,1,2,3,4,5,6,7,8]])=some z9:=by kernel_rfl
theorem O4:Tryz.prog.funcs[47]?=some Tryz.f47:=by kernel_rfl
def AM:bM:=⟨1,4,.seq (.region [.y 1 0,.e 2 0]) (.seq (.seq (.region [.d 4 1,.b 1 0,.aa 3 1 2]) (.cond (.var 3) (.seq (.region [.d 1 1,.b 1 0,.d 2 1,.b 1 2,.v 1 3,.c 2 4]) .ret) .skip)) (.seq (.region [.d 1 1,.b 1 0,.d 3 1,.b 1 2,.v 1 3,.d 2 1,.b 1 5,.v 4 6,.c 2 7]) .ret)),[.tmp 2]⟩
theorem yJ:aB Tryz.prog Tryz.f48 1 [0,1,2,5] [] true ([],[])=some AM:=by kernel_rfl
theorem O3:Tryz.prog.funcs[48]?=some Tryz.f48:=by kernel_rfl
def ws:bM:=⟨2,2,.region [.a 0,.a 0,.J 1,.b 1 2,.a 1,.qn (.append 4 32 (.tmp 3) (.tmp 4)),.J 0,.I 1 6 5],[]⟩
theorem vj:aB Tryz.prog Tryz.f49 2 [0,1] [] true ([],[])=some ws:=by kernel_rfl
theorem Mi:Tryz.prog.funcs[49]?=some Tryz.f49:=by kernel_rfl
def E9:bM:=⟨0,1,.seq (.region [.qs 0 (.allocA [.nilF,.nilF,.nilF])]) (.seq (.region [.qn (.build [.nilF,.nilF,.nilF] [(1,(1,.fn 95)),(2,(1,.fn 96))]),.qn (.storeA 3 (.var 0) (.tmp 0))]) .ret),[.cell 0 true 3]⟩
theorem yI:aB Tryz.prog Tryz.f50 0 [0] [] true ([],[])=some E9:=by kernel_rfl
theorem O2:Tryz.prog.funcs[50]?=some Tryz.f50:=by kernel_rfl
def i9:MC:=.seq (.region [.w 6 5 4]) (.seq (.cond (.var 6) .skip (.exit 0)) (.seq (.seq (.block 1 (.seq (.region [.a 5,.c 3 0]) (.seq (.region [.a 1,.a 0,.a 3,.g 1 1 2,.b 1 3,.bc 7 0 4]) (.cond (.var 7) (.seq (.region [.a 3,.c 2 0]) .ret) .skip)))) (.kill [2,3,6,7])) (.region [.m 5 1,.c 5 0])))
def LL:bM:=⟨2,8,.seq (.region [.e 2 0]) (.seq (.seq (.region [.a 0,.ak 4 0,.e 5 0]) (.seq (.block 0 (.loop [2,3,6,7] i9)) (.kill [0,1,2,3,4,5,6,7]))) (.seq (.region [.e 2 (-1)]) .ret)),[.tmp 2]⟩
def iw:List Nat:=[2,3,6,7]
abbrev lw (v0 v1 v4 v5:AV):List AV:=[v0,v1,.undef,.undef,v4,v5,.undef,.undef]
theorem CM:clear iw [v0,v1,d2,d3,v4,v5,d6,d7]=lw v0 v1 v4 v5:=rfl
theorem Co {o:Out} {k:List KC} (h:cc (evC E fuel i9) iw fuel (lw v0 v1 v4 v5) A=some o) :
  run E fuel (.code (.loop [2,3,6,7] i9) :: k) [v0,v1,d2,d3,v4,v5,d6,d7] A=after E fuel k o:=aV iw _ _ (by rw [CM]; exact h)
theorem Kh:aB Tryz.prog Tryz.f58 2 [0,1,4,5,7,8,9,16] [] true ([[2,3,6,7]],[[2,3,6,7],[0,1,2,3,4,5,6,7]])=some LL:=by kernel_rfl
theorem at64:Tryz.prog.funcs[58]?=some Tryz.f58:=by kernel_rfl
def i6:MC:=.seq (.region [.w 6 5 4]) (.seq (.cond (.var 6) .skip (.exit 0)) (.seq (.seq (.block 1 (.seq (.region [.a 5,.c 3 0]) (.seq (.region [.a 1,.a 0,.a 3,.g 2 1 2,.F 2 3,.aq 7 0 4]) (.cond (.var 7) (.seq (.region [.a 3,.c 2 0]) .ret) .skip)))) (.kill [2,3,6,7])) (.region [.m 5 1,.c 5 0])))
def LK:bM:=⟨2,8,.seq (.region [.e 2 0]) (.seq (.seq (.region [.a 0,.ak 4 0,.e 5 0]) (.seq (.block 0 (.loop [2,3,6,7] i6)) (.kill [0,1,2,3,4,5,6,7]))) (.seq (.region [.e 2 (-1)]) .ret)),[.tmp 2]⟩
def iu:List Nat:=[2,3,6,7]
abbrev lu (v0 v1 v4 v5:AV):List AV:=[v0,v1,.undef,.undef,v4,v5,.undef,.undef]
theorem CL:clear iu [v0,v1,d2,d3,v4,v5,d6,d7]=lu v0 v1 v4 v5:=rfl
theorem Cn {o:Out} {k:List KC} (h:cc (evC E fuel i6) iu fuel (lu v0 v1 v4 v5) A=some o) :
  run E fuel (.code (.loop [2,3,6,7] i6) :: k) [v0,v1,d2,d3,v4,v5,d6,d7] A=after E fuel k o:=aV iu _ _ (by rw [CL]; exact h)
theorem Kg:aB Tryz.prog Tryz.f145 2 [0,1,4,5,7,8,9,16] [] true ([[2,3,6,7]],[[2,3,6,7],[0,1,2,3,4,5,6,7]])=some LK:=by kernel_rfl
theorem at65:Tryz.prog.funcs[145]?=some Tryz.f145:=by kernel_rfl
def i5:MC:=.seq (.region [.w 6 5 4]) (.seq (.cond (.var 6) .skip (.exit 0)) (.seq (.seq (.block 1 (.seq (.region [.a 5,.c 3 0]) (.seq (.region [.a 1,.a 0,.a 3,.g 1 1 2,.b 1 3,.aq 7 0 4]) (.cond (.var 7) (.seq (.region [.a 3,.c 2 0]) .ret) .skip)))) (.kill [2,3,6,7])) (.region [.m 5 1,.c 5 0])))
def LJ:bM:=⟨2,8,.seq (.region [.e 2 0]) (.seq (.seq (.region [.a 0,.ak 4 0,.e 5 0]) (.seq (.block 0 (.loop [2,3,6,7] i5)) (.kill [0,1,2,3,4,5,6,7]))) (.seq (.region [.e 2 (-1)]) .ret)),[.tmp 2]⟩
def it:List Nat:=[2,3,6,7]
abbrev lr (v0 v1 v4 v5:AV):List AV:=[v0,v1,.undef,.undef,v4,v5,.undef,.undef]
theorem CK:clear it [v0,v1,d2,d3,v4,v5,d6,d7]=lr v0 v1 v4 v5:=rfl
theorem Cm {o:Out} {k:List KC} (h:cc (evC E fuel i5) it fuel (lr v0 v1 v4 v5) A=some o) :
  run E fuel (.code (.loop [2,3,6,7] i5) :: k) [v0,v1,d2,d3,v4,v5,d6,d7] A=after E fuel k o:=aV it _ _ (by rw [CK]; exact h)
theorem Kf:aB Tryz.prog Tryz.f94 2 [0,1,4,5,7,8,9,16] [] true ([[2,3,6,7]],[[2,3,6,7],[0,1,2,3,4,5,6,7]])=some LJ:=by kernel_rfl
theorem at66:Tryz.prog.funcs[94]?=some Tryz.f94:=by kernel_rfl
def LI:bM:=⟨2,4,.seq (.region [.V 2 3]) (.seq (.seq (.region [.a 0,.a 1,.q 58 0 1,.a 0,.a 1,.A 4 1,.q 58 3 5,.Z 3 2 6]) (.cond (.var 3) (.seq (.region [.a 1,.A 0 1,.a 1,.bk 1 2,.j 3 2 3]) .ret) .skip)) (.seq (.region [.a 1,.A 0 1,.a 1,.qn (.build [.int .i64 0,.int .i64 0,.int .i64 0] [(0,(1,.tmp 1)),(1,(1,.tmp 2)),(2,(1,.cst (.int .i64 0)))]),.j 3 2 3]) .ret)),[.cell 2 true 3]⟩
theorem Ke:aB Tryz.prog Tryz.f95 2 [0,1,4,12] [] true ([],[])=some LI:=by kernel_rfl
theorem at67:Tryz.prog.funcs[95]?=some Tryz.f95:=by kernel_rfl
def MS:bM:=⟨2,3,.seq (.region [.V 2 3]) (.seq (.region [.a 1,.a 1,.bk 0 1,.j 3 2 2]) .ret),[.cell 2 true 3]⟩
theorem Kd:aB Tryz.prog Tryz.f96 2 [0,1,4] [] true ([],[])=some MS:=by kernel_rfl
theorem at68:Tryz.prog.funcs[96]?=some Tryz.f96:=by kernel_rfl
end Clu
namespace Clu
open Go
open Cy (GC gW cZ bJ bS cq aP bj aE)
structure aU where
 ch:List (Int × Int)
 pick:Int
 place:Int
 travel:Int
 blades:Int
def chA (x:Int × Int):AV:=.agg [.int .i64 x.1,.int .i64 x.2]
def ay (T:aU) (chv:AV):AV:=.agg [chv,.int .i64 T.pick,.int .i64 T.place,.int .i64 T.travel,.int .i64 T.blades]
def sN (x:Int × Int):Prop:=(0<=x.1/\x.1<=100000)/\0<=x.2/\x.2<=100000
instance (x:Int × Int):Decidable (sN x):=inferInstanceAs (Decidable (_/\_))
def aZ (T:aU):Prop:=(∀x∈T.ch,sN x)/\((0<=T.pick/\T.pick<=10000)/\(0<=T.place/\T.place<=10000)/\(0<=T.travel/\T.travel<=10000))/\1<=T.ch.length/\T.ch.length<=4/\(T.blades=1\/T.blades=2)
instance (T:aU):Decidable (aZ T):=inferInstanceAs (Decidable (_/\_))
def M38:aI:=fun args=>match args with
 | [.int .i64 n,.int .i64 hi]=>some (.bool (decide (0<=n) && decide (n<=hi)))
 | _=>none
theorem lE:an Tryz.prog GC 91 M38:=by
 refine an.of_ev (E:=ai GC []) (ag aw) rfl O6 yM 1 ?_
 intro args r h
 unfold M38 at h
 split at h
 ·rename_i n hi
  injection h with h; subst h
  refine ⟨0,?_⟩
  have b1:aq .geq (.int .i64 n) (.int .i64 0)=some (.bool (decide (0<=n))):=by simp [aq]
  have b2:aq .leq (.int .i64 n) (.int .i64 hi)=some (.bool (decide (n<=hi))):=by simp [aq]
  obtain ⟨p,hp⟩:∃p,p=decide (0<=n):=⟨_,rfl⟩
  obtain ⟨q,hq⟩:∃q,q=decide (n<=hi):=⟨_,rfl⟩
  rw [<-hp] at b1 ⊢
  rw [<-hq] at b2 ⊢
  rw [aT _ _ rfl]
  cases p <;> simp [tx,b1,b2,-aq]
 ·cases h
def Ah:AV:=.func (.func 91) [] []
def wx:List (FuncId × aD):=[(91,aG 4 M38)]
@[simp] theorem Nx:aH wx 91=some (aG 4 M38):=rfl
theorem sZ:∀f M,aH wx f=some M->ak Tryz.prog GC f M:=ae (ak.of_pure lE 4) aw
def M40:aI:=fun args=>evP (ai GC wx) 0 Aa 1 args
theorem nC:an Tryz.prog GC 93 M40:=an.of_ev (E:=ai GC wx) (ag sZ) rfl O5 yL 1 fun _ _ h=>⟨0,h⟩
theorem In (x:Int × Int):(!decide (sN x))=(!(decide (0<=x.1) && decide (x.1<=100000)) || !(decide (0<=x.2) && decide (x.2<=100000))):=by
 unfold sN
 by_cases h1:0<=x.1 <;> by_cases h2:x.1<=100000 <;> by_cases h3:0<=x.2 <;> by_cases h4:x.2<=100000 <;> simp [h1,h2,h3,h4]
theorem vB (x:Int × Int):M40 [chA x,.fp [Ah]]=some (.bool (!decide (sN x))):=by
 obtain ⟨a,b⟩:=x
 rw [In]
 have m1:M38 [.int .i64 a,.int .i64 100000]=some (.bool (decide (0<=a) && decide (a<=100000))):=rfl
 have m2:M38 [.int .i64 b,.int .i64 100000]=some (.bool (decide (0<=b) && decide (b<=100000))):=rfl
 obtain ⟨p,hp⟩:∃p,p=(decide (0<=a) && decide (a<=100000)):=⟨_,rfl⟩
 obtain ⟨q,hq⟩:∃q,q=(decide (0<=b) && decide (b<=100000)):=⟨_,rfl⟩
 simp only
 rw [<-hp] at m1 ⊢
 rw [<-hq] at m2 ⊢
 unfold M40
 rw [aT _ _ rfl]
 cases p <;> simp [Aa,chA,Ah,m1,m2,frz]
def Cx:List (FuncId × aD):=[(93,aG 4 M40)]
@[simp] theorem Nd:aH Cx 93=some (aG 4 M40):=rfl
theorem Eh:∀f M,aH Cx f=some M->ak Tryz.prog GC f M:=ae (ak.of_pure nC 4) aw
def M65:aI:=fun args=>evP (ai GC Cx) 300 LK 1 args
theorem HQ:an Tryz.prog GC 145 M65:=an.of_ev (E:=ai GC Cx) (ag Eh) rfl at65 Kg 1 fun _ _ h=>⟨300,h⟩
def eT (x:Int × Int):Bool:=!decide (sN x)
def dk:AV:=.func (.func 93) [] [.fp [Ah]]
theorem Ld {xs:List (Int × Int)} (hb:SlA 2 (xs.map chA) b) (hl:xs.length<=200):M65 [b,dk]=some (.int .i64 (cZ eT xs)):=by
 have hlen:=hb.len
 rw [RR] at hlen
 have round:∀(A:ac) (i:Nat) (hi:i<xs.length),run (ai GC Cx) 300 [.code i6] (lu b dk (.int .i64 (xs.length:Int)) (.int .i64 (i:Int))) A =
   if eT xs[i]=false then some (.normal (lu b dk (.int .i64 (xs.length:Int)) (.int .i64 ((i+1:Nat):Int))) A) else some (.ret [b,dk,.int .i64 (i:Int),.int .i64 (i:Int),.int .i64 (xs.length:Int),.int .i64 (i:Int),.bool true,.bool true] A):=fun A i hi=>by
  have he:(xs.map chA)[i]?=some (chA xs[i]):=by simp [hi]
  have x1:=hb.index (A:=A) he rfl (by decide) .i64
  have ld:af true 2 A (.fp (cellsOf (chA xs[i])))=some (chA xs[i]):=rfl
  obtain ⟨C,hC⟩:∃C,C=cellsOf (chA xs[i]):=⟨_,rfl⟩
  rw [<-hC] at x1 ld
  have m:=vB xs[i]
  have b1:=bC i xs.length .i64
  rw [RJ hi] at b1
  have b3:=bh i (by omega)
  have fz:∀A,frz A 4 (chA xs[i])=chA xs[i]:=fun A=>rfl
  have fz2:∀A,frz A 4 (.fp [Ah])=.fp [Ah]:=fun A=>rfl
  obtain ⟨i1,hi1⟩:∃i1:Nat,i1=i+1:=⟨_,rfl⟩
  rw [<-hi1] at b3 ⊢
  obtain ⟨d,hd⟩:∃d,d=eT xs[i]:=⟨_,rfl⟩
  rw [show (!decide (sN xs[i]))=d from hd.symm] at m
  rw [<-hd]
  obtain ⟨c,hc⟩:∃c,c=chA xs[i]:=⟨_,rfl⟩
  rw [<-hc] at m ld fz
  cases d with
  | false=>simp [i6,dk,x1,ld,m,fz,fz2,b1,b3,-frz,-aq,-au,-az,-af]
  | true=>simp [i6,dk,x1,ld,m,fz,fz2,b1,-frz,-aq,-au,-az,-af]
 unfold M65
 rw [aT _ _ rfl]
 rcases cW (E:=ai GC Cx) (fuel:=300) (a:=i6) (mask:=iu) (fun i=>lu b dk (.int .i64 (xs.length:Int)) (.int .i64 (i:Int))) (fun _=>[]) xs.length (fun i=>¬ ∀hi:i<xs.length,eT xs[i]=false)
  (oF:=fun i=>.ret [b,dk,.int .i64 (i:Int),.int .i64 (i:Int),.int .i64 (xs.length:Int),.int .i64 (i:Int),.bool true,.bool true] []) (oE:=.exit 0 ((lu b dk (.int .i64 (xs.length:Int)) (.int .i64 (xs.length:Int))).set 6 (.bool false)) [])
  (fun _=>CL) (fun _ _ _ h=>by cases h) (fun _ _ h=>by cases h)
  (fun i hi hp=>by
   rw [round [] i hi]
   exact RL (Se.1 hp hi))
  (fun i hi hp=>by
   rw [round [] i hi]
   exact RN fun h=>hp fun _=>h)
  (by simp [i6]) (show xs.length<300 by omega) with ⟨i,hi,hp,hj,lp⟩ | ⟨hp,lp⟩
 ·have lp:cc (evC (ai GC Cx) 300 i6) iu 300 (lu b dk (.int .i64 (xs.length:Int)) (.int .i64 0)) []=_:=lp
  have e:cZ eT xs=(i:Int):=bJ hi (by
   cases h':eT xs[i] with
   | true=>rfl
   | false=>exact absurd (fun _=>h') hp) (fun j hj'=>Se.1 (hj j hj') (by omega))
  rw [e]
  simp [LK,hlen,Cn lp,-aq,-az]
 ·have lp:cc (evC (ai GC Cx) 300 i6) iu 300 (lu b dk (.int .i64 (xs.length:Int)) (.int .i64 0)) []=_:=lp
  have e:cZ eT xs = -1:=bS fun i hi=>Se.1 (hp i hi) hi
  rw [e]
  simp [LK,hlen,Cn lp,-aq,-az]
def L3:List (FuncId × aD):=[(145,aG 4 M65)]
@[simp] theorem NA:aH L3 145=some (aG 4 M65):=rfl
theorem Es:∀f M,aH L3 f=some M->ak Tryz.prog GC f M:=ae (ak.of_pure HQ 4) aw
def M39:aI:=fun args=>evP (ai GC L3) 0 MW 1 args
theorem H3:an Tryz.prog GC 92 M39:=an.of_ev (E:=ai GC L3) (ag Es) rfl at39 Kt 1 fun _ _ h=>⟨0,h⟩
theorem Lk {xs:List (Int × Int)} (hb:SlA 2 (xs.map chA) b) (hl:xs.length<=200):M39 [b,dk]=some (.bool (xs.any eT)):=by
 have h:=Ld hb hl
 have b1:=gW (cZ eT xs)
 rw [cq] at b1
 have f1:∀A n,frz A n b=b:=fun A n=>hb.frz n
 have f2:∀A,frz A 4 dk=dk:=fun A=>rfl
 obtain ⟨z,hz⟩:∃z,z=cZ eT xs:=⟨_,rfl⟩
 rw [<-hz] at h b1
 unfold M39
 rw [aT _ _ rfl]
 simp [MW,h,b1,f1,f2,bj,-aq,-frz]
def Ag:List (FuncId × aD):=[(91,aG 4 M38),(92,aG 4 M39)]
@[simp] theorem OL:aH Ag 91=some (aG 4 M38):=rfl
@[simp] theorem OJ:aH Ag 92=some (aG 4 M39):=rfl
theorem s6:∀f M,aH Ag f=some M->ak Tryz.prog GC f M:=ae (ak.of_pure lE 4) (ae (ak.of_pure H3 4) aw)
def M16:aI:=fun args=>evP (ai GC Ag) 0 uM 1 args
theorem rj:an Tryz.prog GC 41 M16:=an.of_ev (E:=ai GC Ag) (ag s6) rfl Pr yU 1 fun _ _ h=>⟨0,h⟩
theorem Dm (T:aU):decide (aZ T)=(!(T.ch.any eT) && ((decide (0<=T.pick) && decide (T.pick<=10000)) && ((decide (0<=T.place) && decide (T.place<=10000)) && (decide (0<=T.travel) && decide (T.travel<=10000)))) && (decide (1<=T.ch.length) && (decide (T.ch.length<=4) && (decide (T.blades=1) || decide (T.blades=2))))):=by
 have e:(!(T.ch.any eT))=decide (∀x∈T.ch,sN x):=by
  rw [Tf,Sq,Sy,Td]
  unfold eT
  simp
 rw [e]
 rw [Tf,Sq]
 unfold aZ
 simp only [Sq,Sf,Bool.or_eq_true]
 constructor
 ·rintro ⟨h1,⟨h2,h3,h4⟩,h5,h6,h7⟩
  exact ⟨⟨h1,h2,h3,h4⟩,h5,h6,h7⟩
 ·rintro ⟨⟨h1,h2,h3,h4⟩,h5,h6,h7⟩
  exact ⟨h1,⟨h2,h3,h4⟩,h5,h6,h7⟩
theorem zU {T:aU} (hb:SlA 2 (T.ch.map chA) chv) (hl:T.ch.length<=200):M16 [ay T chv]=some (.bool (decide (aZ T))):=by
 obtain ⟨ch,pk,pl,tr,bl⟩:=T
 simp only at hb hl
 rw [Dm]
 simp only
 have hlen:=hb.len
 rw [RR] at hlen
 have m:=Lk hb hl
 have f1:∀A n,frz A n chv=chv:=fun A n=>hb.frz n
 have m1:M38 [.int .i64 pk,.int .i64 10000]=some (.bool (decide (0<=pk) && decide (pk<=10000))):=rfl
 have m2:M38 [.int .i64 pl,.int .i64 10000]=some (.bool (decide (0<=pl) && decide (pl<=10000))):=rfl
 have m3:M38 [.int .i64 tr,.int .i64 10000]=some (.bool (decide (0<=tr) && decide (tr<=10000))):=rfl
 have b1:aq .geq (.int .i64 (ch.length:Int)) (.int .i64 1)=some (.bool (decide (1<=ch.length))):=by simp [aq]; omega
 have b2:aq .leq (.int .i64 (ch.length:Int)) (.int .i64 4)=some (.bool (decide (ch.length<=4))):=by simp [aq]; omega
 have b3:aq .eql (.int .i64 bl) (.int .i64 1)=some (.bool (decide (bl=1))):=by simp [aq]
 have b4:aq .eql (.int .i64 bl) (.int .i64 2)=some (.bool (decide (bl=2))):=by simp [aq]
 have fw:∀A:ac,A[1]?=some (.row 1 false [Ah])->frz A 4 (.func (.func 93) [] [.ptr 1 0 0])=dk:=fun A hA=>by simp [frz,hA,dk,Ah]
 have ld0:∀A:ac,A[0]?=some (.row 5 false [.agg [chv,.int .i64 pk,.int .i64 pl,.int .i64 tr,.int .i64 bl]])->af false 1 A (.ptr 0 0 0)=some chv/\af false 1 A (.ptr 0 0 1)=some (.int .i64 pk)/\af false 1 A (.ptr 0 0 2)=some (.int .i64 pl)/\af false 1 A (.ptr 0 0 3)=some (.int .i64 tr)/\af false 1 A (.ptr 0 0 4)=some (.int .i64 bl):=fun A hA=>by
  refine ⟨?_,?_,?_,?_,?_⟩ <;> simp only [af,hA] <;> rfl
 obtain ⟨l0,l1,l2,l3,l4⟩:=ld0 [.row 5 false [.agg [chv,.int .i64 pk,.int .i64 pl,.int .i64 tr,.int .i64 bl]],.row 1 false [Ah]] rfl
 have fw':=fw [.row 5 false [.agg [chv,.int .i64 pk,.int .i64 pl,.int .i64 tr,.int .i64 bl]],.row 1 false [Ah]] rfl
 rw [show ay ⟨ch,pk,pl,tr,bl⟩ chv=.agg [chv,.int .i64 pk,.int .i64 pl,.int .i64 tr,.int .i64 bl] from rfl]
 unfold Ah at l0 l1 l2 l3 l4 fw'
 have l5:af false 1 [.row 5 false [.agg [chv,.int .i64 pk,.int .i64 pl,.int .i64 tr,.int .i64 bl]],.row 1 false [.func (.func 91) [] []]] (.ptr 1 0 0)=some (.func (.func 91) [] []):=rfl
 obtain ⟨d0,h0⟩:∃d,d=ch.any eT:=⟨_,rfl⟩
 obtain ⟨d1,h1⟩:∃d,d=(decide (0<=pk) && decide (pk<=10000)):=⟨_,rfl⟩
 obtain ⟨d2,h2⟩:∃d,d=(decide (0<=pl) && decide (pl<=10000)):=⟨_,rfl⟩
 obtain ⟨d3,h3⟩:∃d,d=(decide (0<=tr) && decide (tr<=10000)):=⟨_,rfl⟩
 obtain ⟨d4,h4⟩:∃d,d=decide (1<=ch.length):=⟨_,rfl⟩
 obtain ⟨d5,h5⟩:∃d,d=decide (ch.length<=4):=⟨_,rfl⟩
 obtain ⟨d6,h6⟩:∃d,d=decide (bl=1):=⟨_,rfl⟩
 obtain ⟨d7,h7⟩:∃d,d=decide (bl=2):=⟨_,rfl⟩
 rw [<-h0] at m ⊢
 rw [<-h1] at m1 ⊢
 rw [<-h2] at m2 ⊢
 rw [<-h3] at m3 ⊢
 rw [<-h4] at b1 ⊢
 rw [<-h5] at b2 ⊢
 rw [<-h6] at b3 ⊢
 rw [<-h7] at b4 ⊢
 unfold M16
 rw [aT _ _ rfl]
 cases d1
 ·cases d0 <;> simp [uM,m,m1,f1,fw',l0,l1,l5,aP,bj,-frz,-aq,-az,-af]
 cases d2
 ·cases d0 <;> simp [uM,m,m1,m2,f1,fw',l0,l1,l2,l5,aP,bj,-frz,-aq,-az,-af]
 cases d3
 ·cases d0 <;> simp [uM,m,m1,m2,m3,f1,fw',l0,l1,l2,l3,l5,aP,bj,-frz,-aq,-az,-af]
 cases d0
 rotate_left
 ·simp [uM,m,m1,m2,m3,f1,fw',l0,l1,l2,l3,l5,aP,bj,-frz,-aq,-az,-af]
 cases d4
 ·simp [uM,m,m1,m2,m3,b1,hlen,f1,fw',l0,l1,l2,l3,l5,aP,bj,-frz,-aq,-az,-af]
 cases d5
 ·simp [uM,m,m1,m2,m3,b1,b2,hlen,f1,fw',l0,l1,l2,l3,l5,aP,bj,-frz,-aq,-az,-af]
 cases d6 <;> simp [uM,m,m1,m2,m3,b1,b2,b3,b4,hlen,f1,fw',l0,l1,l2,l3,l4,l5,aP,bj,-frz,-aq,-az,-af]
end Clu
namespace Clu
open Go
open Cy (GC gW cZ bJ bS cq aP bj aE)
theorem bE (a b:Int):aq .eql (.int .i64 a) (.int .i64 b)=some (.bool (decide (a=b))):=by simp [aq]
theorem cE (a b:Int):aq .neq (.int .i64 a) (.int .i64 b)=some (.bool (decide (a≠b))):=by simp [aq]
theorem be {a b:Int} (h : -9223372036854775808<=a+b/\a+b<=9223372036854775807):aq .add (.int .i64 a) (.int .i64 b)=some (.int .i64 (a+b)):=by
 simp only [aq]; rw [RL trivial,eg h]
theorem cf {a b:Int} (h : -9223372036854775808<=a-b/\a-b<=9223372036854775807):aq .sub (.int .i64 a) (.int .i64 b)=some (.int .i64 (a-b)):=by
 simp only [aq]; rw [RL trivial,eg h]
theorem dO (a b:Int):aq .leq (.int .i64 a) (.int .i64 b)=some (.bool (decide (a<=b))):=by simp [aq]
theorem cG (a b:Int):aq .lss (.int .i64 a) (.int .i64 b)=some (.bool (decide (a<b))):=by simp [aq]
def M64:aI:=fun args=>evP (ai GC []) 300 LL 1 args
theorem um:an Tryz.prog GC 58 M64:=an.of_ev (E:=ai GC []) (ag aw) rfl at64 Kh 1 fun _ _ h=>⟨300,h⟩
def isI (v x:Int):Bool:=decide (v=x)
theorem p9 (hb:SlA 1 (ax xs) b) (hl:xs.length<=200) (v:Int):M64 [b,.int .i64 v]=some (.int .i64 (cZ (isI v) xs)):=by
 have hlen:=hb.len
 rw [aE] at hlen
 have round:∀(A:ac) (i:Nat) (hi:i<xs.length),run (ai GC []) 300 [.code i9] (lw b (.int .i64 v) (.int .i64 (xs.length:Int)) (.int .i64 (i:Int))) A =
   if isI v xs[i]=false then some (.normal (lw b (.int .i64 v) (.int .i64 (xs.length:Int)) (.int .i64 ((i+1:Nat):Int))) A) else some (.ret [b,.int .i64 v,.int .i64 (i:Int),.int .i64 (i:Int),.int .i64 (xs.length:Int),.int .i64 (i:Int),.bool true,.bool true] A):=fun A i hi=>by
  have x1:=hb.int (A:=A) _ _ (RD hi) .i64
  have m:=bE v xs[i]
  have b1:=bC i xs.length .i64
  rw [RJ hi] at b1
  have b3:=bh i (by omega)
  obtain ⟨i1,hi1⟩:∃i1:Nat,i1=i+1:=⟨_,rfl⟩
  rw [<-hi1] at b3 ⊢
  obtain ⟨d,hd⟩:∃d,d=isI v xs[i]:=⟨_,rfl⟩
  rw [show decide (v=xs[i])=d from hd.symm] at m
  rw [<-hd]
  cases d with
  | false=>simp [i9,x1,m,b1,b3,-aq,-au,-az]
  | true=>simp [i9,x1,m,b1,-aq,-au,-az]
 unfold M64
 rw [aT _ _ rfl]
 rcases cW (E:=ai GC []) (fuel:=300) (a:=i9) (mask:=iw) (fun i=>lw b (.int .i64 v) (.int .i64 (xs.length:Int)) (.int .i64 (i:Int))) (fun _=>[]) xs.length (fun i=>¬ ∀hi:i<xs.length,isI v xs[i]=false)
  (oF:=fun i=>.ret [b,.int .i64 v,.int .i64 (i:Int),.int .i64 (i:Int),.int .i64 (xs.length:Int),.int .i64 (i:Int),.bool true,.bool true] []) (oE:=.exit 0 ((lw b (.int .i64 v) (.int .i64 (xs.length:Int)) (.int .i64 (xs.length:Int))).set 6 (.bool false)) [])
  (fun _=>CM) (fun _ _ _ h=>by cases h) (fun _ _ h=>by cases h)
  (fun i hi hp=>by
   rw [round [] i hi]
   exact RL (Se.1 hp hi))
  (fun i hi hp=>by
   rw [round [] i hi]
   exact RN fun h=>hp fun _=>h)
  (by simp [i9]) (show xs.length<300 by omega) with ⟨i,hi,hp,hj,lp⟩ | ⟨hp,lp⟩
 ·have lp:cc (evC (ai GC []) 300 i9) iw 300 (lw b (.int .i64 v) (.int .i64 (xs.length:Int)) (.int .i64 0)) []=_:=lp
  have e:cZ (isI v) xs=(i:Int):=bJ hi (by
   cases h':isI v xs[i] with
   | true=>rfl
   | false=>exact absurd (fun _=>h') hp) (fun j hj'=>Se.1 (hj j hj') (by omega))
  rw [e]
  simp [LL,hlen,Co lp,-aq,-az]
 ·have lp:cc (evC (ai GC []) 300 i9) iw 300 (lw b (.int .i64 v) (.int .i64 (xs.length:Int)) (.int .i64 0)) []=_:=lp
  have e:cZ (isI v) xs = -1:=bS fun i hi=>Se.1 (hp i hi) hi
  rw [e]
  simp [LL,hlen,Co lp,-aq,-az]
def L5:List (FuncId × aD):=[(58,aG 4 M64)]
@[simp] theorem NC:aH L5 58=some (aG 4 M64):=rfl
theorem Eu:∀f M,aH L5 f=some M->ak Tryz.prog GC f M:=ae (ak.of_pure um 4) aw
def M35:aI:=fun args=>evP (ai GC L5) 0 Hf 1 args
theorem xa:an Tryz.prog GC 43 M35:=an.of_ev (E:=ai GC L5) (ag Eu) rfl O7 yN 1 fun _ _ h=>⟨0,h⟩
theorem G0 (v:Int) (xs:List Int):xs.any (isI v)=decide (v∈xs):=by
 rw [Tf,List.any_eq_true,Sq]
 unfold isI
 constructor
 ·rintro ⟨x,hx,h⟩
  rw [of_decide_eq_true h]; exact hx
 ·exact fun h=>⟨v,h,by simp⟩
theorem Ll (hb:SlA 1 (ax xs) b) (hl:xs.length<=200) (v:Int):M35 [b,.int .i64 v]=some (.bool (decide (v∈xs))):=by
 have h:=p9 hb hl v
 have b1:=gW (cZ (isI v) xs)
 rw [cq,G0] at b1
 have f1:∀A n,frz A n b=b:=fun A n=>hb.frz n
 obtain ⟨z,hz⟩:∃z,z=cZ (isI v) xs:=⟨_,rfl⟩
 rw [<-hz] at h b1
 obtain ⟨d,hd⟩:∃d,d=decide (v∈xs):=⟨_,rfl⟩
 rw [<-hd] at b1 ⊢
 unfold M35
 rw [aT _ _ rfl]
 simp [Hf,h,b1,f1,aP,bj,-aq,-frz]
def M43:aI:=fun args=>evP (ai GC []) 300 z9 1 args
theorem H2:an Tryz.prog GC 47 M43:=an.of_ev (E:=ai GC []) (ag aw) rfl O4 yK 1 fun _ _ h=>⟨300,h⟩
theorem vy {a:AV} (ha:SlA 1 (ax xs) a) (hb:SlA 1 (ax ys) b) (hl:xs.length<=200):M43 [a,b]=some (.bool (decide (xs=ys))):=by
 have hla:=ha.len
 have hlb:=hb.len
 rw [aE] at hla hlb
 have b0:aq .neq (.int .i64 (xs.length:Int)) (.int .i64 (ys.length:Int))=some (.bool (decide (xs.length≠ys.length))):=by
  rw [cE]
  congr 2
  exact TQ.2 (by omega)
 by_cases h0:xs.length≠ys.length
 ·rw [RJ h0] at b0
  rw [RH (fun h=>h0 (by rw [h]))]
  unfold M43
  rw [aT _ _ rfl]
  simp [z9,hla,hlb,b0,-aq,-az]
 have h0:xs.length=ys.length:=Se.1 h0
 rw [RH (by omega)] at b0
 have round:∀(A:ac) (i:Nat) (hi:i<xs.length),run (ai GC []) 300 [.code ew] (eV a b (.int .i64 (xs.length:Int)) (.int .i64 (i:Int))) A =
   if xs[i]=ys[i]'(by omega) then some (.normal (eV a b (.int .i64 (xs.length:Int)) (.int .i64 ((i+1:Nat):Int))) A) else some (.ret [a,b,.bool false,.int .i64 (i:Int),.undef,.int .i64 (xs.length:Int),.int .i64 (i:Int),.bool true,.bool true] A):=fun A i hi=>by
  have x1:=ha.int (A:=A) _ _ (RD hi) .i64
  have x2:=hb.int (A:=A) _ _ (RD (show i<ys.length by omega)) .i64
  have m:=cE xs[i] (ys[i]'(by omega))
  have b1:=bC i xs.length .i64
  rw [RJ hi] at b1
  have b3:=bh i (by omega)
  obtain ⟨i1,hi1⟩:∃i1:Nat,i1=i+1:=⟨_,rfl⟩
  rw [<-hi1] at b3 ⊢
  by_cases hd:xs[i]=ys[i]'(by omega)
  ·rw [RH (by simpa using hd)] at m
   rw [RL hd]
   simp [ew,x1,x2,m,b1,b3,-aq,-au,-az]
  ·rw [RJ (by simpa using hd)] at m
   rw [RN hd]
   simp [ew,x1,x2,m,b1,-aq,-au,-az]
 unfold M43
 rw [aT _ _ rfl]
 rcases cW (E:=ai GC []) (fuel:=300) (a:=ew) (mask:=dG) (fun i=>eV a b (.int .i64 (xs.length:Int)) (.int .i64 (i:Int))) (fun _=>[]) xs.length (fun i=>¬ ∀(hi:i<xs.length),xs[i]=ys[i]'(by omega))
  (oF:=fun i=>.ret [a,b,.bool false,.int .i64 (i:Int),.undef,.int .i64 (xs.length:Int),.int .i64 (i:Int),.bool true,.bool true] []) (oE:=.exit 0 ((eV a b (.int .i64 (xs.length:Int)) (.int .i64 (xs.length:Int))).set 7 (.bool false)) [])
  (fun _=>oz) (fun _ _ _ h=>by cases h) (fun _ _ h=>by cases h)
  (fun i hi hp=>by
   rw [round [] i hi]
   exact RL (Se.1 hp hi))
  (fun i hi hp=>by
   rw [round [] i hi]
   exact RN fun h=>hp fun _=>h)
  (by simp [ew]) (show xs.length<300 by omega) with ⟨i,hi,hp,hj,lp⟩ | ⟨hp,lp⟩
 ·have lp:cc (evC (ai GC []) 300 ew) dG 300 (eV a b (.int .i64 (xs.length:Int)) (.int .i64 0)) []=_:=lp
  rw [RH (fun h=>hp (fun _=>by subst h; rfl))]
  simp [z9,hla,hlb,b0,rL lp,-aq,-az]
 ·have lp:cc (evC (ai GC []) 300 ew) dG 300 (eV a b (.int .i64 (xs.length:Int)) (.int .i64 0)) []=_:=lp
  rw [RJ (TO h0 fun i h1 h2=>Se.1 (hp i h1) h1)]
  simp [z9,hla,hlb,b0,rL lp,-aq,-az]
def H36:aD:=fun _=>bp (ai GC []) 0 AN
theorem uu:ak Tryz.prog GC 44 H36:=(aM (ag aw) rfl Mj vk aW.nil).y
theorem Lx (h:aR) {gr:Bool} {es:List AV} (hA:A[id]?=some (.row 1 gr es)):H36 h [.sl id 0 n] A=some (.csl id 0 n,A):=by
 unfold H36
 rw [aX _ _ rfl]
 have e:dL 1 A none (.int .i64 (n:Int)) (.int .i64 (n:Int)) (.sl id 0 n)=some (.csl id 0 n):=by
  simp [dL,bO,hA,dh,loB,hiB]
 simp [AN,e,-dL,dw]
def M44:aI:=fun args=>evP (ai GC []) 0 AM 1 args
theorem w9:an Tryz.prog GC 48 M44:=an.of_ev (E:=ai GC []) (ag aw) rfl O3 yJ 1 fun _ _ h=>⟨0,h⟩
def dC (T:aU):Int:=if T.blades=2 then T.pick+T.place else T.pick+T.travel+T.place
theorem Lj {T:aU} (chv:AV) (h:aZ T):M44 [ay T chv]=some (.int .i64 (dC T)):=by
 obtain ⟨_,⟨h1,h2,h3⟩,_⟩:=h
 obtain ⟨ch,pk,pl,tr,bl⟩:=T
 simp only at h1 h2 h3
 have b0:=bE bl 2
 have b1:=be (a:=pk) (b:=pl) (by omega)
 have b2:=be (a:=pk) (b:=tr) (by omega)
 have b3:=be (a:=pk+tr) (b:=pl) (by omega)
 rw [show ay ⟨ch,pk,pl,tr,bl⟩ chv=.agg [chv,.int .i64 pk,.int .i64 pl,.int .i64 tr,.int .i64 bl] from rfl]
 have l:∀A:ac,A[0]?=some (.row 5 false [.agg [chv,.int .i64 pk,.int .i64 pl,.int .i64 tr,.int .i64 bl]])->af false 1 A (.ptr 0 0 1)=some (.int .i64 pk)/\af false 1 A (.ptr 0 0 2)=some (.int .i64 pl)/\af false 1 A (.ptr 0 0 3)=some (.int .i64 tr)/\af false 1 A (.ptr 0 0 4)=some (.int .i64 bl):=fun A hA=>by
  refine ⟨?_,?_,?_,?_⟩ <;> simp only [af,hA] <;> rfl
 obtain ⟨l1,l2,l3,l4⟩:=l [.row 5 false [.agg [chv,.int .i64 pk,.int .i64 pl,.int .i64 tr,.int .i64 bl]]] rfl
 obtain ⟨s1,hs1⟩:∃s,s=pk+pl:=⟨_,rfl⟩
 obtain ⟨s2,hs2⟩:∃s,s=pk+tr:=⟨_,rfl⟩
 obtain ⟨s3,hs3⟩:∃s,s=s2+pl:=⟨_,rfl⟩
 rw [<-hs1] at b1
 rw [<-hs2] at b2 b3
 rw [<-hs3] at b3
 have e:dC ⟨ch,pk,pl,tr,bl⟩=if bl=2 then s1 else s3:=by
  unfold dC; simp only; rw [hs3,hs2,hs1]
 rw [e]
 unfold M44
 rw [aT _ _ rfl]
 by_cases hb:bl=2
 ·rw [RJ hb] at b0
  rw [RL hb]
  simp [AM,b0,b1,l1,l2,l4,-aq,-af]
 ·rw [RH hb] at b0
  rw [RN hb]
  simp [AM,b0,b2,b3,l1,l2,l3,l4,-aq,-af]
end Clu
namespace Clu
open Go
open Cy (GC gW cZ bJ bS cq aP bj aE)
def ext (n:Nat) (one:Bool):Nat->List Int->List (List Int)
 | 0,_=>[]
 | k+1,b=>if b.length=n+1 then [b] else (List.range' 1 n).flatMap fun (i:Nat)=>if !decide ((i:Int)∈b) && (one || decide (i=b.length)) then ext n one k (b++[(i:Int)]) else []
def aJ (T:aU):List (List Int):=if aZ T then ext T.ch.length (decide (T.blades=1)) (T.ch.length+1) [0] else []
theorem tP (n:Nat) (one:Bool) (hn:n<=4):∀(k:Nat) (b:List Int),(ext n one (k+1) b).length<=4 ^ k\/b.length+k<n+1
 | 0,b=>by
  unfold ext
  split
  ·left; simp
  ·by_cases h:b.length+0<n+1
   ·exact .inr h
   ·left
    rw [List.flatMap_eq_nil_iff.2 fun i _=>by split <;> rfl]
    simp
 | k+1,b=>by
  by_cases h:b.length+(k+1)<n+1
  ·exact .inr h
  left
  rw [ext]
  split
  ·have:1<=4 ^ (k+1):=Nat.one_le_pow _ _ (by omega)
   simpa using this
  ·have key:∀l:List Nat,(l.flatMap fun (i:Nat)=>if !decide ((i:Int)∈b) && (one || decide (i=b.length)) then ext n one (k+1) (b++[(i:Int)]) else []).length<=l.length*4 ^ k:=fun l=>by
    induction l with
    | nil=>simp
    | cons i l ih=>
     rw [TK,R8,Su,RU,Ud]
     have:(if !decide ((i:Int)∈b) && (one || decide (i=b.length)) then ext n one (k+1) (b++[(i:Int)]) else []).length<=4 ^ k:=by
      split
      ·rcases tP n one hn k (b++[(i:Int)]) with h1 | h1
       ·exact h1
       ·simp at h1; omega
      ·simp
     omega
   refine SR (key _) ?_
   rw [List.length_range',Nat.pow_succ,Nat.mul_comm]
   exact Nat.mul_le_mul_left _ hn
def iY:Ent->Prop
 | .row _ _ (e :: _)=>(∀a b c,e≠.sl a b c)/\e≠.nilS
 | _=>False
def pg (A B:ac):Prop:=A.length<=B.length/\∀(j:Nat) (e:Ent),A[j]?=some e->iY e->B[j]?=some e
theorem pg.refl (A:ac):pg A A:=⟨RT _,fun _ _ h _=>h⟩
theorem pg.trans {C:ac} (h:pg A B) (k:pg B C):pg A C:=⟨SR h.1 k.1,fun j e h1 h2=>k.2 j e (h.2 j e h1 h2) h2⟩
theorem pg.app (A:ac) (X:ac):pg A (A++X):=⟨by simp,fun j e h _=>by
 have:=(Rx.1 h).1
 rw [RE this]; exact h⟩
theorem kP (h:l≠[]) (s:Nat) (g:Bool):iY (.row s g (ax l)):=by
 cases l with
 | nil=>exact absurd rfl h
 | cons x r=>simp [iY,ax]
theorem lL (s:Nat) (g:Bool) (a b c:Nat) (r:List AV):¬ iY (.row s g (.sl a b c :: r)):=fun h=>h.1 a b c rfl
def Ar (x:Nat × List Int):AV:=.sl x.1 0 x.2.length
def G4 (A:ac) (op:Nat) (v:AV) (pl:List (Nat × List Int)):Prop:=
 (∀x∈pl,x.2≠[]/\A[x.1]?=some (.row 1 false (ax x.2)))/\((v=.nilS/\pl=[])\/∃id gr,v=.sl id 0 pl.length/\id≠op/\pl≠[]/\A[id]?=some (.row 1 gr (pl.map Ar)))
def jL (A:ac) (op:Nat) (ll:List (List Int)):Prop:=∃v pl,pl.map (·.2)=ll/\A[op]?=some (.row 1 false [v])/\G4 A op v pl
theorem jL.app (h:jL A op ll) (X:ac):jL (A++X) op ll:=by
 obtain ⟨v,pl,h1,h2,h3,h4⟩:=h
 have st:=(pg.app A X).2
 have hk:∀(j:Nat) (e:Ent),A[j]?=some e->(A++X)[j]?=some e:=fun j e h=>by
  rw [RE (Rx.1 h).1]; exact h
 refine ⟨v,pl,h1,hk _ _ h2,fun x hx=>⟨(h3 x hx).1,hk _ _ (h3 x hx).2⟩,?_⟩
 rcases h4 with h4 | ⟨id,gr,h4,h5,h6,h7⟩
 ·exact .inl h4
 ·exact .inr ⟨id,gr,h4,h5,h6,hk _ _ h7⟩
theorem io (h:A[op]?=some (.row 1 false [v])) (hv:v=.nilS\/∃a b c,v=.sl a b c):af false 1 A (.ptr op 0 0)=some v:=by
 rcases hv with rfl | ⟨a,b,c,rfl⟩ <;> simp [h]
theorem G4.form (h:G4 A op v pl):v=.nilS\/∃a b c,v=.sl a b c:=by
 rcases h.2 with h | ⟨id,gr,h,_⟩
 ·exact .inl h.1
 ·exact .inr ⟨_,_,_,h⟩
theorem jL.add (h:jL A op ll) (hl:l≠[]) (hb:ll.length<=100000) {r y:Nat} (hr:A[r]?=some (.row 1 false (ax l))) (hy:A[y]?=some (.row 1 false [.sl r 0 l.length])) (hyo:y≠op) :
  ∃v id n A3,A[op]?=some (.row 1 false [v])/\(v=.nilS\/∃a b c,v=.sl a b c)/\aK 1 24 A v (.sl y 0 1)=some (.sl id 0 n,A3)/\A3[op]?=some (.row 1 false [v]) /\
   jL (A3.set op (.row 1 false [.sl id 0 n])) op (ll++[l])/\pg A (A3.set op (.row 1 false [.sl id 0 n])):=by
 obtain ⟨v,pl,h1,h2,h3⟩:=h
 have hf:=h3.form
 obtain ⟨h3,h4⟩:=h3
 have hsrc:aS 1 A (.sl y 0 1)=some [.sl r 0 l.length]:=by simp [aS,hy]
 have hop:op<A.length:=(Rx.1 h2).1
 have hnp:¬ iY (.row 1 false [v]):=by
  rcases hf with rfl | ⟨a,b,c,rfl⟩
  ·exact fun h=>h.2 rfl
  ·exact lL _ _ _ _ _ _
 have hne:∀j (m:List Int),m≠[]->A[j]?=some (.row 1 false (ax m))->j≠op:=fun j m hm hj e=>by
  subst e
  rw [h2] at hj
  injection hj with hj
  exact hnp (hj ▸ kP hm 1 false)
 have hll:pl.length=ll.length:=by rw [<-h1]; simp
 rcases h4 with ⟨rfl,rfl⟩ | ⟨id,gr,rfl,hid,hpl,hrow⟩
 ·have ho:(A++[Ent.row 1 false [AV.sl r 0 l.length]])[op]?=some (.row 1 false [.nilS]):=by rw [RE hop]; exact h2
  refine ⟨.nilS,A.length,1,A++[.row 1 false [.sl r 0 l.length]],h2,.inl rfl,?_,ho,?_,?_⟩
  ·unfold aK; rw [hsrc]; simp
  ·have hset:∀j,j≠op->((A++[Ent.row 1 false [AV.sl r 0 l.length]]).set op (.row 1 false [.sl A.length 0 1]))[j]?=(A++[Ent.row 1 false [AV.sl r 0 l.length]])[j]?:=fun j hj=>RF (fun e=>hj e.symm)
   refine ⟨.sl A.length 0 1,[(r,l)],by rw [<-h1]; rfl,by rw [RO (by simp; omega)],fun x hx=>?_,.inr ⟨A.length,false,rfl,by omega,by simp,?_⟩⟩
   ·rw [SC] at hx
    subst hx
    refine ⟨hl,?_⟩
    rw [hset _ (hne _ _ hl hr),RE (Rx.1 hr).1]
    exact hr
   ·rw [hset _ (by omega)]
    simp [Ar]
  ·refine ⟨by simp,fun j e hj he=>?_⟩
   have:j≠op:=fun e'=>by
    subst e'; rw [h2] at hj; injection hj with hj; exact hnp (hj ▸ he)
   rw [RF (fun e'=>this e'.symm),RE (Rx.1 hj).1]
   exact hj
 ·have hidl:id<A.length:=(Rx.1 hrow).1
  have hlen:0<pl.length:=TM.2 hpl
  have hnp2:¬ iY (.row 1 gr (pl.map Ar)):=by
   cases pl with
   | nil=>exact absurd rfl hpl
   | cons x r=>exact lL _ _ _ _ _ _
  have hnid:∀j (m:List Int),m≠[]->A[j]?=some (.row 1 false (ax m))->j≠id:=fun j m hm hj e=>by
   subst e
   rw [hrow] at hj
   injection hj with hj
   exact hnp2 (hj ▸ kP hm 1 false)
  refine ⟨.sl id 0 pl.length,id,pl.length+1,A.set id (.row 1 true (pl.map Ar++[.sl r 0 l.length])),h2,.inr ⟨_,_,_,rfl⟩,?_,?_,?_,?_⟩
  ·have hz:pl.length≠0:=by omega
   have hb2:(pl.length+1)*24<=140737488355328:=by omega
   unfold aK; rw [hsrc]; simp [hrow,hz,hb2]
  ·rw [RF hid]; exact h2
  ·have hset:∀j,j≠op->j≠id->((A.set id (Ent.row 1 true (pl.map Ar++[AV.sl r 0 l.length]))).set op (.row 1 false [.sl id 0 (pl.length+1)]))[j]?=A[j]?:=fun j hj hj2=>by
    rw [RF (fun e=>hj e.symm),RF (fun e=>hj2 e.symm)]
   refine ⟨.sl id 0 (pl.length+1),pl++[(r,l)],by rw [<-h1]; simp,by rw [RO (by simpa using hop)],fun x hx=>?_,.inr ⟨id,true,by simp,hid,by simp,?_⟩⟩
   ·rcases SW.1 hx with hx | hx
    ·have:=h3 x hx
     exact ⟨this.1,by rw [hset _ (hne _ _ this.1 this.2) (hnid _ _ this.1 this.2)]; exact this.2⟩
    ·rw [SC] at hx
     subst hx
     exact ⟨hl,by rw [hset _ (hne _ _ hl hr) (hnid _ _ hl hr)]; exact hr⟩
   ·rw [RF (fun e=>hid e.symm),RO hidl,ST]
    rfl
  ·refine ⟨by simp,fun j e hj he=>?_⟩
   have n1:j≠op:=fun e'=>by
    subst e'; rw [h2] at hj; injection hj with hj; exact hnp (hj ▸ he)
   have n2:j≠id:=fun e'=>by
    subst e'; rw [hrow] at hj; injection hj with hj; exact hnp2 (hj ▸ he)
   rw [RF (fun e=>n1 e.symm),RF (fun e=>n2 e.symm)]
   exact hj
end Clu
namespace Clu
open Go
open Cy (GC gW cZ bJ bS cq aP bj aE)
def lI (np op cp ep:Nat):AV:=.func (.func 42) [] [.ptr np 0 0,.ptr op 0 0,.ptr cp 0 0,.ptr ep 0 0]
structure X34 (A:ac) (np op cp ep n:Nat) (T:aU) (chv:AV):Prop where
 hn:A[np]?=some (.row 1 false [.int .i64 (n:Int)])
 hc:A[cp]?=some (.row 5 false [ay T chv])
 he:A[ep]?=some (.row 1 false [lI np op cp ep])
theorem X34.step {T:aU} (h:X34 A np op cp ep n T chv) (s:pg A B):X34 B np op cp ep n T chv:=
 ⟨s.2 _ _ h.hn (by simp [iY]),s.2 _ _ h.hc (by simp [iY,ay]),s.2 _ _ h.he (by simp [iY,lI])⟩
def tJ:List (FuncId × aD):=[(43,aG 4 M35),(44,H36)]
def H34:Nat->aD
 | 0=>fun h=>bp (dl GC tJ h) 40 vU
 | k+1=>fun h=>bp (dl GC ((42,H34 k) :: tJ) h) 40 vU
theorem uB:∀f M,aH tJ f=some M->ak Tryz.prog GC f M:=ae (ak.of_pure xa 4) (ae uu aw)
theorem uv:∀k,ak Tryz.prog GC 42 (H34 k)
 | 0=>bX uB Mk vl
 | k+1=>bX (ae (uv k) uB) Mk vl
theorem mT {b:List Int} (h:A[id]?=some (.row 1 g (ax b))) (n:Nat):frz A (n+1) (.sl id 0 b.length)=.fs 1 (ax b):=by
 have e:((ax b).drop 0).take b.length=ax b:=by
  rw [R2,<-aE b,Sj]
 have hm:∀l:List Int,(ax l).map (frz A n)=ax l:=fun l=>by
  unfold ax
  rw [Te]
  exact Sc fun x _=>aP A n .i64 x
 simp only [frz,h]
 rw [e,hm]
theorem Ce (fs:List (FuncId × aD)) (h:aR) {T:aU} (hX:X34 A np op cp ep n T chv) (ho:jL A op ll) {b:List Int} (hb:A[id]?=some (.row 1 false (ax b))) (hlen:b.length=n+1) (hn4:n<=4) (hll:ll.length<=100000) :
  ∃B,bp (dl GC fs h) 40 vU [.sl id 0 b.length,.ptr np 0 0,.ptr op 0 0,.ptr cp 0 0,.ptr ep 0 0] A=some (.tup [],B)/\jL B op (ll++[b])/\pg A B:=by
 have hbne:b≠[]:=fun e=>by rw [e] at hlen; simp at hlen
 have l0:af false 1 A (.ptr np 0 0)=some (.int .i64 (n:Int)):=by simp [hX.hn]
 have b1:=bh n (by omega)
 have b2:aq .eql (.int .i64 (b.length:Int)) (.int .i64 ((n+1:Nat):Int))=some (.bool true):=by rw [bE,RJ (by omega)]
 have e1:cr 1 8 (.int .i64 0) A (.int .i64 ((n+1:Nat):Int)) (.int .i64 ((n+1:Nat):Int))=some (.sl A.length 0 b.length,A++[.row 1 false (List.replicate b.length (.int .i64 0))]):=by
  rw [hlen]
  simp only [cr]
  rw [RL ⟨by omega,by omega,by omega,by omega,rfl,rfl,by omega⟩]
  simp
 have e2:ma 1 (A++[.row 1 false (List.replicate b.length (.int .i64 0))]) (.sl A.length 0 b.length) (.sl id 0 b.length)=some (.int .i64 (b.length:Int),A++[.row 1 false (ax b)]):=by
  have hs:aS 1 (A++[Ent.row 1 false (List.replicate b.length (AV.int .i64 0))]) (.sl id 0 b.length)=some (ax b):=by
   rw [sY (gr:=false) (es:=ax b) (by rw [RE (Rx.1 hb).1]; exact hb)]
   rw [R2,<-aE b,Sj]
  simp only [ma,hs]
  rw [List.getElem?_concat_length]
  simp only
  rw [RL ⟨trivial,by omega,trivial⟩,aE,Nat.min_self]
  congr 2
  rw [R9 _ _ (RT _),TY]
  simp only [SL,List.take_zero,S7,Tb]
  rw [<-aE b,Sj,List.drop_of_length_le (by simp),Sm]
 obtain ⟨A1,hA1⟩:∃X,X=A++[Ent.row 1 false (ax b)]:=⟨_,rfl⟩
 have hl1:A1.length=A.length+1:=by rw [hA1]; simp
 have e3:a6 1 [.sl A.length 0 b.length] A1=some (.sl (A.length+1) 0 1,A1++[.row 1 false [.sl A.length 0 b.length]]):=by
  simp [a6,hl1]
 have hop:op<A.length:=by obtain ⟨v,pl,_,h2,_⟩:=ho; exact (Rx.1 h2).1
 have ho2:jL (A1++[.row 1 false [.sl A.length 0 b.length]]) op ll:=by rw [hA1]; exact (ho.app _).app _
 obtain ⟨v,id2,n2,A3,k1,k2,k3,k4,k5,k6⟩:=ho2.add hbne hll (r:=A.length) (y:=A.length+1) (by rw [hA1]; simp) (by rw [hA1]; simp) (by omega)
 have l1:af false 1 A1 (.ptr op 0 0)=some v:=io (by rw [<-k1,RE (by omega)]) k2
 have e5:aC 1 A3 (.ptr op 0 0) (.sl id2 0 n2)=some (A3.set op (.row 1 false [.sl id2 0 n2])):=by
  rcases k2 with rfl | ⟨_,_,_,rfl⟩ <;> simp [k4]
 obtain ⟨A2,hA2⟩:∃X,X=A1++[Ent.row 1 false [.sl A.length 0 b.length]]:=⟨_,rfl⟩
 obtain ⟨B,hB⟩:∃X,X=A3.set op (.row 1 false [.sl id2 0 n2]):=⟨_,rfl⟩
 obtain ⟨A0,hA0⟩:∃X,X=A++[Ent.row 1 false (List.replicate b.length (AV.int .i64 0))]:=⟨_,rfl⟩
 have hst:pg A A2:=by rw [hA2,hA1,RX]; exact pg.app _ _
 rw [<-hA2] at e3 k3 k6
 rw [<-hB] at e5 k5 k6
 rw [<-hA0] at e1 e2
 rw [<-hA1] at e2
 refine ⟨B,?_,k5,hst.trans k6⟩
 rw [aX _ _ rfl]
 obtain ⟨n1,hn1⟩:∃x,x=n+1:=⟨_,rfl⟩
 rw [<-hn1] at b1 b2 e1
 obtain ⟨bl,hbl⟩:∃x,x=b.length:=⟨_,rfl⟩
 rw [<-hbl] at b2 e1 e2 e3 ⊢
 obtain ⟨r1,hr1⟩:∃x,x=A.length:=⟨_,rfl⟩
 rw [<-hr1] at e1 e2 e3 k3
 obtain ⟨r2,hr2⟩:∃x,x=r1+1:=⟨_,rfl⟩
 rw [<-hr2] at e3 k3
 simp [vU,l0,l1,b1,b2,e1,e2,e3,k3,e5,-aq,-af,-aC,-cr,-a6]
theorem t6 {b:List Int} (h:A[id]?=some (.row 1 g (ax b))) (hb:b.length<=1000) (x:Int):cg 1 8 A (.csl id 0 b.length) (.fs 1 [.int .i64 x])=some (.sl A.length 0 (b.length+1),A++[.row 1 false (ax (b++[x]))]):=by
 have e:((ax b).drop 0).take b.length=ax b:=by
  rw [R2,<-aE b,Sj]
 have hb2:(b.length+1)*8<=140737488355328:=by omega
 simp only [cg,dc,h,e]
 rw [RL ⟨trivial,by omega,by omega,by simp,by simpa using hb2⟩]
 simp [ax]
theorem th {h:aR} {fs:List (FuncId × aD)} {H:aD} (hH:aH fs 42=some H) (h35:aH fs 43=some (aG 4 M35)) (h36:aH fs 44=some H36) {n:Nat} {T:aU} (hX:X34 A np op cp ep n T chv) {b:List Int} (hb:A[id]?=some (.row 1 false (ax b))) (hbl:b.length<=100) (hi:i<=n) (hn4:n<=4)
  (hr:(!decide ((i:Int)∈b) && (decide (T.blades=1) || decide (i=b.length)))=true->H h [.sl A.length 0 (b.length+1),.ptr np 0 0,.ptr op 0 0,.ptr cp 0 0,.ptr ep 0 0] (A++[.row 1 false (ax (b++[(i:Int)]))])=some (.tup [],B))
  (hr0:(!decide ((i:Int)∈b) && (decide (T.blades=1) || decide (i=b.length)))=false->B=A) (hkeep:B[ep]?=A[ep]?) :
  run (dl GC fs h) 40 [.code dz] (gw (.sl id 0 b.length) (.ptr np 0 0) (.ptr cp 0 0) (.ptr ep 0 0) (.int .i64 (i:Int))) A=some (.normal (gw (.sl id 0 b.length) (.ptr np 0 0) (.ptr cp 0 0) (.ptr ep 0 0) (.int .i64 ((i+1:Nat):Int))) B):=by
 obtain ⟨ch,pk,pl,tr,bd⟩:=T
 have l0:af false 1 A (.ptr np 0 0)=some (.int .i64 (n:Int)):=by simp [hX.hn]
 have hc:A[cp]?=some (.row 5 false [.agg [chv,.int .i64 pk,.int .i64 pl,.int .i64 tr,.int .i64 bd]]):=hX.hc
 have l1:af false 1 A (.ptr cp 0 4)=some (.int .i64 bd):=by simp [hc]
 have l2:af false 1 A (.ptr ep 0 0)=some (lI np op cp ep):=by simp [hX.he,lI]
 have b0:aq .leq (.int .i64 (i:Int)) (.int .i64 (n:Int))=some (.bool true):=by rw [dO,RJ (by omega)]
 have b3:=bh i (by omega)
 have f1:=mT hb 3
 have f2:∀A,frz A 4 (.int .i64 (i:Int))=.int .i64 (i:Int):=fun A=>aP A 4 .i64 i
 have m:=Ll (xs:=b) (b:=.fs 1 (ax b)) (.inr rfl) (by omega) (i:Int)
 have b1:aq .eql (.int .i64 bd) (.int .i64 1)=some (.bool (decide (bd=1))):=bE _ _
 have b2:aq .eql (.int .i64 (i:Int)) (.int .i64 (b.length:Int))=some (.bool (decide (i=b.length))):=by
  rw [bE]; congr 2; exact TQ.2 (by omega)
 have c1:=Lx h (n:=b.length) hb
 have c2:=t6 hb (by omega) (i:Int)
 have ne1:¬ ep=A.length:=by have:=(Rx.1 hX.he).1; omega
 have ne2:¬ ep=id:=fun e=>by
  have h1:=hX.he
  rw [e,hb] at h1
  injection h1 with h1
  injection h1 with _ _ h1
  cases b with
  | nil=>cases h1
  | cons x r=>injection h1 with h1; cases h1
 simp only at hr hr0
 obtain ⟨i1,hi1⟩:∃i1:Nat,i1=i+1:=⟨_,rfl⟩
 rw [<-hi1] at b3 ⊢
 obtain ⟨d1,h1⟩:∃d,d=decide ((i:Int)∈b):=⟨_,rfl⟩
 rw [<-h1] at m hr hr0
 obtain ⟨d2,h2⟩:∃d,d=decide (bd=1):=⟨_,rfl⟩
 rw [<-h2] at b1 hr hr0
 obtain ⟨d3,h3⟩:∃d,d=decide (i=b.length):=⟨_,rfl⟩
 rw [<-h3] at b2 hr hr0
 obtain ⟨A1,hA1⟩:∃X,X=A++[Ent.row 1 false (ax (b++[(i:Int)]))]:=⟨_,rfl⟩
 have k1:A1[ep]?=A[ep]?:=by rw [hA1,RE (Rx.1 hX.he).1]
 rw [<-hA1] at c2 hr
 obtain ⟨r,hrr⟩:∃x,x=A.length:=⟨_,rfl⟩
 rw [<-hrr] at c2 hr
 obtain ⟨bl,hbl⟩:∃x,x=b.length:=⟨_,rfl⟩
 rw [<-hbl] at b2 c1 c2 f1 hr ⊢
 obtain ⟨bl1,hbl1⟩:∃x,x=bl+1:=⟨_,rfl⟩
 rw [<-hbl1] at c2 hr
 obtain ⟨F,hF⟩:∃x,x=AV.fs 1 (ax b):=⟨_,rfl⟩
 rw [<-hF] at m f1
 cases d1 with
 | true=>
  have:=hr0 rfl; subst this
  cases d2 <;> cases d3 <;> simp [dz,l0,b0,b3,f1,f2,h35,m,-frz,-aq,-af]
 | false=>
  cases d2 with
  | true=>
   have hr:=hr rfl
   simp [dz,l0,l1,l2,b0,b1,b3,f1,f2,h35,h36,hH,m,hc,c1,c2,hr,lI,ne1,ne2,-frz,-aq,-af]
  | false=>
   cases d3 with
   | true=>
    have hr:=hr rfl
    simp [dz,l0,l1,l2,b0,b1,b2,b3,f1,f2,h35,h36,hH,m,hc,c1,c2,hr,lI,ne1,ne2,-frz,-aq,-af]
   | false=>
    have:=hr0 rfl; subst this
    simp [dz,l0,l1,b0,b1,b2,b3,f1,f2,h35,m,hc,-frz,-aq,-af]
def fE (n:Nat) (one:Bool) (k:Nat) (b:List Int) (i:Nat):List (List Int):=if !decide ((i:Int)∈b) && (one || decide (i=b.length)) then ext n one k (b++[(i:Int)]) else []
theorem QZ (h:aR) {T:aU} (hn4:n<=4) (d:Nat):∀(k:Nat) {A:ac} {ll:List (List Int)} {id:Nat} {b:List Int},b.length+k=n+1->1<=b.length->X34 A np op cp ep n T chv->jL A op ll->A[id]?=some (.row 1 false (ax b))->ll.length+4 ^ k<=100000 ->
  ∃B,H34 (d+k) h [.sl id 0 b.length,.ptr np 0 0,.ptr op 0 0,.ptr cp 0 0,.ptr ep 0 0] A=some (.tup [],B)/\jL B op (ll++ext n (decide (T.blades=1)) (k+1) b)/\pg A B
 | 0,A,ll,id,b,hk,hb1,hX,ho,hb,hll=>by
  have e:ext n (decide (T.blades=1)) (0+1) b=[b]:=by unfold ext; rw [RL (by omega)]
  rw [e]
  cases d with
  | zero=>exact Ce _ h hX ho hb (by omega) hn4 (by omega)
  | succ d=>exact Ce _ h hX ho hb (by omega) hn4 (by omega)
 | k+1,A,ll,id,b,hk,hb1,hX,ho,hb,hll=>by
  have hbne:b≠[]:=fun e=>by rw [e] at hb1; simp at hb1
  have e:ext n (decide (T.blades=1)) (k+1+1) b=(List.range' 1 n).flatMap (fE n (decide (T.blades=1)) (k+1) b):=by
   rw [ext,RN (by omega)]; rfl
  rw [e]
  have loop:∀(c i:Nat) (A:ac) (ll:List (List Int)) (m:Nat),i+c=n+1->X34 A np op cp ep n T chv->jL A op ll->A[id]?=some (.row 1 false (ax b))->ll.length+c*4 ^ k<=100000->c<m ->
    ∃B,cc (evC (dl GC ((42,H34 (d+k)) :: tJ) h) 40 dz) dr m (gw (.sl id 0 b.length) (.ptr np 0 0) (.ptr cp 0 0) (.ptr ep 0 0) (.int .i64 (i:Int))) A=some (.exit 0 ((gw (.sl id 0 b.length) (.ptr np 0 0) (.ptr cp 0 0) (.ptr ep 0 0) (.int .i64 ((n+1:Nat):Int))).set 8 (.bool false)) B) /\
     jL B op (ll++(List.range' i c).flatMap (fE n (decide (T.blades=1)) (k+1) b))/\pg A B:=by
   intro c
   induction c with
   | zero=>
    intro i A ll m hi hX ho hb hll hm
    obtain ⟨m,rfl⟩:∃j,m=j+1:=⟨m-1,by omega⟩
    refine ⟨A,?_,by simpa using ho,pg.refl _⟩
    have l0:af false 1 A (.ptr np 0 0)=some (.int .i64 (n:Int)):=by simp [hX.hn]
    have b0:aq .leq (.int .i64 ((n+1:Nat):Int)) (.int .i64 (n:Int))=some (.bool false):=by rw [dO,RH (by omega)]
    obtain rfl:i=n+1:=by omega
    obtain ⟨i1,hi1⟩:∃i1:Nat,i1=n+1:=⟨_,rfl⟩
    rw [<-hi1] at b0 ⊢
    rw [aO,oA]
    simp [dz,l0,b0,-aq,-af]
   | succ c ihc=>
    intro i A ll m hi hX ho hb hll hm
    obtain ⟨m,rfl⟩:∃j,m=j+1:=⟨m-1,by omega⟩
    rw [RU,Ud] at hll
    have hrow:∀(j:Nat) (e:Ent),A[j]?=some e->iY e->(A++[Ent.row 1 false (ax (b++[(i:Int)]))])[j]?=some e:=(pg.app A _).2
    have hst:=pg.app A [Ent.row 1 false (ax (b++[(i:Int)]))]
    obtain ⟨B,hB1,hB2,hB3,hB4⟩:∃B,((!decide ((i:Int)∈b) && (decide (T.blades=1) || decide (i=b.length)))=true->H34 (d+k) h [.sl A.length 0 (b.length+1),.ptr np 0 0,.ptr op 0 0,.ptr cp 0 0,.ptr ep 0 0] (A++[.row 1 false (ax (b++[(i:Int)]))])=some (.tup [],B)) /\
      ((!decide ((i:Int)∈b) && (decide (T.blades=1) || decide (i=b.length)))=false->B=A)/\jL B op (ll++fE n (decide (T.blades=1)) (k+1) b i)/\pg A B:=by
     by_cases hd:(!decide ((i:Int)∈b) && (decide (T.blades=1) || decide (i=b.length)))=true
     ·obtain ⟨B,h1,h2,h3⟩:=QZ h hn4 d k (A:=A++[.row 1 false (ax (b++[(i:Int)]))]) (ll:=ll) (id:=A.length) (b:=b++[(i:Int)]) (by simp; omega) (by simp) (hX.step hst) (ho.app _) (by simp) (by omega)
      rw [R8,Tg] at h1
      refine ⟨B,fun _=>h1,fun e=>(by rw [hd] at e; cases e),?_,hst.trans h3⟩
      unfold fE
      rw [RL hd]; exact h2
     ·refine ⟨A,fun e=>absurd e hd,fun _=>rfl,?_,pg.refl _⟩
      unfold fE
      rw [RN hd,Sm]; exact ho
    have hX2:=hX.step hB4
    have hb2:=hB4.2 _ _ hb (kP hbne 1 false)
    have hr:=th (fs:=(42,H34 (d+k)) :: tJ) (h:=h) rfl rfl rfl hX hb (by omega) (i:=i) (by omega) hn4 hB1 hB2 (by rw [hX2.he,hX.he])
    have hfl:(fE n (decide (T.blades=1)) (k+1) b i).length<=4 ^ k:=by
     unfold fE
     split
     ·rcases tP n (decide (T.blades=1)) hn4 k (b++[(i:Int)]) with h1 | h1
      ·exact h1
      ·simp at h1; omega
     ·simp
    obtain ⟨C,c1,c2,c3⟩:=ihc (i+1) B _ m (by omega) hX2 hB3 hb2 (by rw [R8]; omega) (by omega)
    refine ⟨C,?_,?_,hB4.trans c3⟩
    ·rw [aO,oA,hr]
     exact c1
    ·rw [List.range'_succ,TK,<-RX]
     exact c2
  have hp:n*4 ^ k<=4 ^ (k+1):=by
   rw [Nat.pow_succ,Nat.mul_comm]
   exact Nat.mul_le_mul_left _ hn4
  obtain ⟨B,h1,h2,h3⟩:=loop n 1 A ll 40 (by omega) hX ho hb (by omega) (by omega)
  refine ⟨B,?_,h2,h3⟩
  have l0:af false 1 A (.ptr np 0 0)=some (.int .i64 (n:Int)):=by simp [hX.hn]
  have b1:=bh n (by omega)
  have b2:aq .eql (.int .i64 (b.length:Int)) (.int .i64 ((n+1:Nat):Int))=some (.bool false):=by rw [bE,RH (by omega)]
  obtain ⟨n1,hn1⟩:∃x,x=n+1:=⟨_,rfl⟩
  rw [<-hn1] at b1 b2 h1
  rw [show H34 (d+(k+1))=fun h=>bp (dl GC ((42,H34 (d+k)) :: tJ) h) 40 vU from rfl]
  simp only
  rw [aX _ _ rfl]
  have h1:cc (evC (dl GC ((42,H34 (d+k)) :: tJ) h) 40 dz) dr 40 (gw (.sl id 0 b.length) (.ptr np 0 0) (.ptr cp 0 0) (.ptr ep 0 0) (.int .i64 1)) A=_:=h1
  simp [vU,l0,b1,b2,rM h1,-aq,-af]
end Clu
namespace Clu
open Go
open Cy (GC gW cZ bJ bS cq aP bj aE)
def lK (ll:List (List Int)):AV:=slA 1 (ll.map fun l=>slA 1 (ax l))
theorem Ia (h:l≠[]):slA 1 (ax l)=.fs 1 (ax l):=by
 cases l with
 | nil=>exact absurd rfl h
 | cons x r=>rfl
theorem G4.frz (h:G4 A op v pl) (k:Nat):Proofs.YtfkcoekicjjndaaGreat.frz A (k+3) v=lK (pl.map (·.2)):=by
 obtain ⟨h1,h2⟩:=h
 rcases h2 with ⟨rfl,rfl⟩ | ⟨id,gr,rfl,_,hne,hr⟩
 ·rfl
 ·have e:((pl.map Ar).drop 0).take pl.length=pl.map Ar:=by
   rw [R2]
   conv=>lhs; rw [show pl.length=(pl.map Ar).length by simp]
   rw [Sj]
  have hm:(pl.map Ar).map (Proofs.YtfkcoekicjjndaaGreat.frz A (k+2))=(pl.map (·.2)).map fun l=>slA 1 (ax l):=by
   rw [Te,Te]
   refine Sc fun x hx=>?_
   obtain ⟨n1,n2⟩:=h1 x hx
   show Proofs.YtfkcoekicjjndaaGreat.frz A (k+1+1) (.sl x.1 0 x.2.length)=_
   rw [mT n2]
   exact (Ia n1).symm
  rw [show k+3=(k+2)+1 from rfl]
  simp only [Proofs.YtfkcoekicjjndaaGreat.frz,hr]
  rw [e,hm]
  unfold lK
  cases pl with
  | nil=>exact absurd rfl hne
  | cons x r=>rfl
theorem wc {b:List Int} (h:A[id]?=some (.row 1 g (ax b))) (n:Nat):a5 A (n+2) (.sl id 0 b.length)=true:=by
 simp only [a5,h,R2,RZ]
 intro x hx
 obtain ⟨y,_,rfl⟩:=R1.1 (TH hx)
 rfl
theorem G4.fresh (h:G4 A op v pl) (k:Nat):a5 A (k+4) v=true:=by
 obtain ⟨h1,h2⟩:=h
 rcases h2 with ⟨rfl,rfl⟩ | ⟨id,gr,rfl,_,hne,hr⟩
 ·rfl
 ·rw [show k+4=(k+3)+1 from rfl]
  simp only [a5,hr,R2]
  rw [RZ]
  intro y hy
  obtain ⟨x,hx,rfl⟩:=R1.1 (TH hy)
  obtain ⟨n1,n2⟩:=h1 x hx
  exact wc n2 (k+1)
def uX:List (FuncId × aD):=[(41,aG 4 M16),(42,H34 4)]
@[simp] theorem OS:aH uX 41=some (aG 4 M16):=rfl
@[simp] theorem OO:aH uX 42=some (H34 4):=rfl
theorem nD:∀f M,aH uX f=some M->ak Tryz.prog GC f M:=ae (ak.of_pure rj 4) (ae (uv 4) aw)
def M14:aI:=fun args=>evF (ai GC uX) 0 kR 4 args
theorem lG:bs Tryz.prog GC 15 M14:=bs.of_ev (E:=ai GC uX) (ag nD) rfl CW mh 4 fun _ _ h=>⟨0,h⟩
theorem bg {T:aU} (h:∀A n,frz A n chv=chv) (A:ac) (n:Nat):frz A (n+1) (ay T chv)=ay T chv:=by
 simp [ay,frz,h,aP]
theorem cP {T:aU} (h:∀n,bu n chv=true) (n:Nat):bu (n+1) (ay T chv)=true:=by
 simp [ay,bu,h]
theorem _root_.Go.Proofs.YtfkcoekicjjndaaGreat.SlA.noRef {e:Nat} {xs:List AV} (h:SlA e xs a) (n:Nat):bu n a=true:=by
 rcases h with ⟨rfl,_⟩ | rfl <;> cases n <;> rfl
theorem vE {T:aU} (hb:SlA 2 (T.ch.map chA) chv) (hl:T.ch.length<=200):M14 [ay T chv]=some (lK (aJ T)):=by
 have m:=zU hb hl
 have hlen:=hb.len
 rw [RR] at hlen
 have ft:=fun A=>bg (T:=T) (fun A n=>hb.frz (A:=A) n) A 3
 have nr:=cP (T:=T) (fun n=>hb.noRef n) 3
 unfold M14 aJ
 by_cases hv:aZ T
 ·rw [RL hv]
  rw [RJ hv] at m
  have hn4:=hv.2.2.2.1
  obtain ⟨A0,hA0⟩:∃X:ac,X=[.row 5 false [ay T chv],.row 1 false [.int .i64 (T.ch.length:Int)],.row 1 false [.nilS],.row 1 false [lI 1 2 0 3],.row 1 false [.int .i64 0]]:=⟨_,rfl⟩
  have hX:X34 A0 1 2 0 3 T.ch.length T chv:=by rw [hA0]; exact ⟨rfl,rfl,rfl⟩
  have ho:jL A0 2 []:=⟨.nilS,[],rfl,by rw [hA0]; rfl,fun _ h=>by simp at h,.inl ⟨rfl,rfl⟩⟩
  have hp:4 ^ T.ch.length<=4 ^ 4:=Nat.pow_le_pow_right (by omega) hn4
  obtain ⟨B,h1,⟨v,pl,h2,h3,h4⟩,h5⟩:=QZ (fun _ _ _=>none) (d:=4-T.ch.length) hn4 T.ch.length (A:=A0) (ll:=[]) (id:=4) (b:=[0]) (by simp; omega) (by simp) hX ho (by rw [hA0]; rfl) (by simp; omega)
  rw [show 4-T.ch.length+T.ch.length=4 by omega] at h1
  have lv:=io h3 h4.form
  have hfz:=h4.frz 1
  have hfr:=h4.fresh 0
  rw [h2,S7] at hfz
  have h1:H34 4 (fun _ _ _=>none) [.sl 4 0 1,.ptr 1 0 0,.ptr 2 0 0,.ptr 0 0 0,.ptr 3 0 0] A0=some (.tup [],B):=h1
  rw [eO _ _ rfl]
  obtain ⟨ch,pk,pl2,tr,bd⟩:=T
  simp only at hlen h1 hA0 m ft hfz
  rw [show ∀c,ay ⟨ch,pk,pl2,tr,bd⟩ c=.agg [c,.int .i64 pk,.int .i64 pl2,.int .i64 tr,.int .i64 bd] from fun _=>rfl] at hA0 ft m
  rw [show ∀c,ay ⟨ch,pk,pl2,tr,bd⟩ c=.agg [c,.int .i64 pk,.int .i64 pl2,.int .i64 tr,.int .i64 bd] from fun _=>rfl]
  have lt:af true 5 [Ent.row 5 false [.agg [chv,.int .i64 pk,.int .i64 pl2,.int .i64 tr,.int .i64 bd]]] (.ptr 0 0 0)=some (.agg [chv,.int .i64 pk,.int .i64 pl2,.int .i64 tr,.int .i64 bd]):=rfl
  have le:∀k,af false 1 [Ent.row 5 false [.agg [chv,.int .i64 pk,.int .i64 pl2,.int .i64 tr,.int .i64 bd]],.row 1 false [.int .i64 k],.row 1 false [.nilS],.row 1 false [.func (.func 42) [] [.ptr 1 0 0,.ptr 2 0 0,.ptr 0 0 0,.ptr 3 0 0]]] (.ptr 3 0 0)=some (.func (.func 42) [] [.ptr 1 0 0,.ptr 2 0 0,.ptr 0 0 0,.ptr 3 0 0]):=fun k=>rfl
  have lc:af false 1 [Ent.row 5 false [.agg [chv,.int .i64 pk,.int .i64 pl2,.int .i64 tr,.int .i64 bd]]] (.ptr 0 0 0)=some chv:=rfl
  obtain ⟨k,hk⟩:∃k,k=(ch.length:Int):=⟨_,rfl⟩
  rw [<-hk] at hlen hA0
  obtain ⟨R,hR⟩:∃R,R=lK (ext ch.length (decide (bd=1)) (ch.length+1) [0]):=⟨_,rfl⟩
  rw [<-hR] at hfz ⊢
  unfold lI at hA0
  rw [hA0] at h1
  simp [kR,m,ft,hlen,h1,lv,hfz,hfr,lc,lt,le,-frz,-az,-af]
 ·rw [RN hv]
  rw [RH hv] at m
  rw [eO _ _ rfl]
  obtain ⟨ch,pk,pl2,tr,bd⟩:=T
  rw [show ∀c,ay ⟨ch,pk,pl2,tr,bd⟩ c=.agg [c,.int .i64 pk,.int .i64 pl2,.int .i64 tr,.int .i64 bd] from fun _=>rfl] at ft m
  rw [show ∀c,ay ⟨ch,pk,pl2,tr,bd⟩ c=.agg [c,.int .i64 pk,.int .i64 pl2,.int .i64 tr,.int .i64 bd] from fun _=>rfl]
  simp [kR,m,ft,a5,-frz]
  rfl
def LY:List (FuncId × aD):=[(47,aG 4 M43)]
@[simp] theorem Nv:aH LY 47=some (aG 4 M43):=rfl
theorem Eq:∀f M,aH LY f=some M->ak Tryz.prog GC f M:=ae (ak.of_pure H2 4) aw
def M42:aI:=fun args=>evP (ai GC LY) 0 xK 1 args
theorem pq:an Tryz.prog GC 46 M42:=an.of_ev (E:=ai GC LY) (ag Eq) rfl KP se 1 fun _ _ h=>⟨0,h⟩
theorem vz (ha:SlA 1 (ax xs) a) (hb:SlA 1 (ax ys) b) (hl:xs.length<=200):M42 [a,.fp [b]]=some (.bool (decide (xs=ys))):=by
 have m:=vy ha hb hl
 have f1:∀A n,frz A n a=a:=fun A n=>ha.frz n
 have f2:∀A n,frz A n b=b:=fun A n=>hb.frz n
 have l1:∀A,af false 1 A (.fp [b])=some b:=fun A=>rfl
 obtain ⟨d,hd⟩:∃d,d=decide (xs=ys):=⟨_,rfl⟩
 rw [<-hd] at m ⊢
 unfold M42
 rw [aT _ _ rfl]
 simp [xK,m,f1,f2,l1,bj,-frz,-af]
def Cw:List (FuncId × aD):=[(46,aG 4 M42)]
@[simp] theorem Nc:aH Cw 46=some (aG 4 M42):=rfl
theorem Eg:∀f M,aH Cw f=some M->ak Tryz.prog GC f M:=ae (ak.of_pure pq 4) aw
def M66:aI:=fun args=>evP (ai GC Cw) 300 LJ 1 args
theorem HP:an Tryz.prog GC 94 M66:=an.of_ev (E:=ai GC Cw) (ag Eg) rfl at66 Kf 1 fun _ _ h=>⟨300,h⟩
def isO (o l:List Int):Bool:=decide (l=o)
def fnO (ov:AV):AV:=.func (.func 46) [] [.fp [ov]]
theorem Lc (ho:SlA 1 (ax o) ov) (hl:ll.length<=256) (hl2:∀l∈ll,l.length<=200):M66 [lK ll,fnO ov]=some (.int .i64 (cZ (isO o) ll)):=by
 have hb:=bo 1 (ll.map fun l=>slA 1 (ax l))
 rw [show slA 1 (ll.map fun l=>slA 1 (ax l))=lK ll from rfl] at hb
 obtain ⟨b,hbv⟩:∃b,b=lK ll:=⟨_,rfl⟩
 rw [<-hbv] at hb ⊢
 have hlen:=hb.len
 rw [RR] at hlen
 have round:∀(A:ac) (i:Nat) (hi:i<ll.length),run (ai GC Cw) 300 [.code i5] (lr b (fnO ov) (.int .i64 (ll.length:Int)) (.int .i64 (i:Int))) A =
   if isO o ll[i]=false then some (.normal (lr b (fnO ov) (.int .i64 (ll.length:Int)) (.int .i64 ((i+1:Nat):Int))) A) else some (.ret [b,fnO ov,.int .i64 (i:Int),.int .i64 (i:Int),.int .i64 (ll.length:Int),.int .i64 (i:Int),.bool true,.bool true] A):=fun A i hi=>by
  have he:(ll.map fun l=>slA 1 (ax l))[i]?=some (slA 1 (ax ll[i])):=by simp [hi]
  have hs:=bo 1 (ax ll[i])
  have x1:=hb.index1 (A:=A) he (by rcases hs with ⟨h,_⟩ | h <;> rw [h] <;> rfl) (by rcases hs with ⟨h,_⟩ | h <;> rw [h] <;> rfl) .i64
  have ld:af false 1 A (.fp [slA 1 (ax ll[i])])=some (slA 1 (ax ll[i])):=by rcases hs with ⟨h,_⟩ | h <;> rw [h] <;> rfl
  have m:=vz hs ho (hl2 _ (RM hi))
  have b1:=bC i ll.length .i64
  rw [RJ hi] at b1
  have b3:=bh i (by omega)
  have fz:∀A,frz A 4 (slA 1 (ax ll[i]))=slA 1 (ax ll[i]):=fun A=>hs.frz 4
  have fz2:∀A,frz A 4 (.fp [ov])=.fp [ov]:=fun A=>rfl
  obtain ⟨i1,hi1⟩:∃i1:Nat,i1=i+1:=⟨_,rfl⟩
  rw [<-hi1] at b3 ⊢
  obtain ⟨d,hd⟩:∃d,d=isO o ll[i]:=⟨_,rfl⟩
  rw [show decide (ll[i]=o)=d from hd.symm] at m
  rw [<-hd]
  obtain ⟨c,hc⟩:∃c,c=slA 1 (ax ll[i]):=⟨_,rfl⟩
  rw [<-hc] at m ld fz x1
  cases d with
  | false=>simp [i5,fnO,x1,ld,m,fz,fz2,b1,b3,-frz,-aq,-au,-az,-af]
  | true=>simp [i5,fnO,x1,ld,m,fz,fz2,b1,-frz,-aq,-au,-az,-af]
 unfold M66
 rw [aT _ _ rfl]
 rcases cW (E:=ai GC Cw) (fuel:=300) (a:=i5) (mask:=it) (fun i=>lr b (fnO ov) (.int .i64 (ll.length:Int)) (.int .i64 (i:Int))) (fun _=>[]) ll.length (fun i=>¬ ∀hi:i<ll.length,isO o ll[i]=false)
  (oF:=fun i=>.ret [b,fnO ov,.int .i64 (i:Int),.int .i64 (i:Int),.int .i64 (ll.length:Int),.int .i64 (i:Int),.bool true,.bool true] []) (oE:=.exit 0 ((lr b (fnO ov) (.int .i64 (ll.length:Int)) (.int .i64 (ll.length:Int))).set 6 (.bool false)) [])
  (fun _=>CK) (fun _ _ _ h=>by cases h) (fun _ _ h=>by cases h)
  (fun i hi hp=>by
   rw [round [] i hi]
   exact RL (Se.1 hp hi))
  (fun i hi hp=>by
   rw [round [] i hi]
   exact RN fun h=>hp fun _=>h)
  (by simp [i5]) (show ll.length<300 by omega) with ⟨i,hi,hp,hj,lp⟩ | ⟨hp,lp⟩
 ·have lp:cc (evC (ai GC Cw) 300 i5) it 300 (lr b (fnO ov) (.int .i64 (ll.length:Int)) (.int .i64 0)) []=_:=lp
  have e:cZ (isO o) ll=(i:Int):=bJ hi (by
   cases h':isO o ll[i] with
   | true=>rfl
   | false=>exact absurd (fun _=>h') hp) (fun j hj'=>Se.1 (hj j hj') (by omega))
  rw [e]
  simp [LJ,hlen,Cm lp,-aq,-az]
 ·have lp:cc (evC (ai GC Cw) 300 i5) it 300 (lr b (fnO ov) (.int .i64 (ll.length:Int)) (.int .i64 0)) []=_:=lp
  have e:cZ (isO o) ll = -1:=bS fun i hi=>Se.1 (hp i hi) hi
  rw [e]
  simp [LJ,hlen,Cm lp,-aq,-az]
def LZ:List (FuncId × aD):=[(94,aG 4 M66)]
@[simp] theorem Nw:aH LZ 94=some (aG 4 M66):=rfl
theorem Er:∀f M,aH LZ f=some M->ak Tryz.prog GC f M:=ae (ak.of_pure HP 4) aw
def M41:aI:=fun args=>evP (ai GC LZ) 0 xL 1 args
theorem nB:an Tryz.prog GC 45 M41:=an.of_ev (E:=ai GC LZ) (ag Er) rfl KQ sf 1 fun _ _ h=>⟨0,h⟩
theorem GZ (o:List Int) (ll:List (List Int)):ll.any (isO o)=decide (o∈ll):=by
 rw [Tf,List.any_eq_true,Sq]
 unfold isO
 constructor
 ·rintro ⟨x,hx,h⟩
  rw [<-of_decide_eq_true h]; exact hx
 ·exact fun h=>⟨o,h,by simp⟩
theorem vA (ho:SlA 1 (ax o) ov) (hl:ll.length<=256) (hl2:∀l∈ll,l.length<=200):M41 [lK ll,fnO ov]=some (.bool (decide (o∈ll))):=by
 have h:=Lc ho hl hl2
 have b1:=gW (cZ (isO o) ll)
 rw [cq,GZ] at b1
 have f1:∀A n,frz A n (lK ll)=lK ll:=fun A n=>(bo 1 _).frz n
 have f2:∀A,frz A 4 (fnO ov)=fnO ov:=fun A=>rfl
 obtain ⟨z,hz⟩:∃z,z=cZ (isO o) ll:=⟨_,rfl⟩
 rw [<-hz] at h b1
 obtain ⟨d,hd⟩:∃d,d=decide (o∈ll):=⟨_,rfl⟩
 rw [<-hd] at b1 ⊢
 obtain ⟨b,hbv⟩:∃b,b=lK ll:=⟨_,rfl⟩
 rw [<-hbv] at h f1 ⊢
 unfold M41
 rw [aT _ _ rfl]
 simp [xL,h,b1,f1,f2,bj,-aq,-frz]
end Clu
namespace Clu
open Go
open Cy (GC gW cZ bJ bS cq aP bj aE bc cJ cw cy dR okA)
section
variable {A:ac} {es:List AV} {k:Nat}
theorem pj (_hk:es.length=k) (hj:j<k):aa j (A++[.row k false [.agg es]]) (.ptr A.length 0 0)=some (.ptr A.length 0 j):=by
 simp [aa,hj]
theorem q9 (_hk:es.length=k) {x:AV} (hx:es[j]?=some x):af false 1 (A++[.row k false [.agg es]]) (.ptr A.length 0 j)=some x:=by
 simp [af,bT,hx]
theorem Do (_hk:es.length=k) (_hk1:k≠1):af true k (A++[.row k false [.agg es]]) (.ptr A.length 0 0)=some (.agg es):=by
 simp [af,rC]
theorem wU (hk:es.length=k) (hk1:1<k) (hj:j<k) {x:AV} (hs:x.solid=true) (hc:cellsOf x=[x]):aC 1 (A++[.row k false [.agg es]]) (.ptr A.length 0 j) x=some (A++[.row k false [.agg (es.set j x)]]):=by
 have e:es.take j++[x]++es.drop (j+1)=es.set j x:=by
  rw [List.set_eq_take_append_cons_drop,RL (by omega)]; simp
 have e1:bq (.agg es) k j x=some (.agg (es.set j x)):=by
  unfold bq
  rw [hc,RN (by simp; omega)]
  simp only [Tg]
  rw [RL ⟨hk,by omega⟩,e]
 simp only [aC,List.getElem?_concat_length,Sw]
 rw [RL ⟨trivial,hs,by rw [hc]; rfl,by omega⟩,e1]
 simp
end
@[simp] theorem pM (A:ac) (x:AV):af false 1 A (.fp [x])=some x:=rfl
@[simp] theorem QF (A:ac) (x y:AV) (r:List AV):af true (r.length+2) A (.fp (x :: y :: r))=some (.agg (x :: y :: r)):=by simp [af]
@[simp] theorem jj (A:ac) (x y:AV):af true 2 A (.fp [x,y])=some (.agg [x,y]):=rfl
def M46:aI:=fun args=>evP (ai GC []) 0 E9 4 args
theorem w7:an Tryz.prog GC 50 M46:=an.of_ev (E:=ai GC []) (ag aw) rfl O2 yI 4 fun _ _ h=>⟨0,h⟩
def vX:AV:=.agg [.nilF,.func (.func 95) [] [],.func (.func 96) [] []]
theorem zR:M46 []=some vX:=by
 have s:ed 3 [.row 1 false [.nilF,.nilF,.nilF]] (.ptr 0 0 0) vX=some [.row 1 false [.nilF,.func (.func 95) [] [],.func (.func 96) [] []]]:=by
  simp [ed,vX,AV.solid,cellsOf]
 unfold M46
 rw [aT _ _ rfl]
 unfold vX at s
 simp [E9,vX,s,AV.solid,cellsOf]
def LV:List (FuncId × aD):=[(58,aG 4 M64)]
@[simp] theorem Nb:aH LV 58=some (aG 4 M64):=rfl
theorem Ef:∀f M,aH LV f=some M->ak Tryz.prog GC f M:=ae (ak.of_pure um 4) aw
def M67:aI:=fun args=>evP (ai GC LV) 0 LI 4 args
theorem HO:an Tryz.prog GC 95 M67:=an.of_ev (E:=ai GC LV) (ag Ef) rfl at67 Ke 4 fun _ _ h=>⟨0,h⟩
def lkA (a b c:Int):AV:=.agg [.int .i64 a,.int .i64 b,.int .i64 c]
theorem Lb (ho:SlA 1 (ax o) ov) (hl:o.length<=200) {j:Int} (hj : -1000<=j/\j<=1000):M67 [ov,.int .i64 j]=some (lkA (j-1) j (if cZ (isI j) o<cZ (isI (j-1)) o then 1 else 0)):=by
 have m1:=p9 ho hl j
 have m2:=p9 ho hl (j-1)
 have f1:∀A n,frz A n ov=ov:=fun A n=>ho.frz n
 have b1:=cf (a:=j) (b:=1) (by omega)
 have b2:=cG (cZ (isI j) o) (cZ (isI (j-1)) o)
 obtain ⟨j1,hj1⟩:∃x,x=j-1:=⟨_,rfl⟩
 rw [<-hj1] at m2 b1 b2 ⊢
 obtain ⟨x,hx⟩:∃x,x=cZ (isI j) o:=⟨_,rfl⟩
 obtain ⟨y,hy⟩:∃x,x=cZ (isI j1) o:=⟨_,rfl⟩
 rw [<-hx] at m1 b2 ⊢
 rw [<-hy] at m2 b2 ⊢
 unfold M67
 rw [aT _ _ rfl]
 by_cases h:x<y
 ·rw [RJ h] at b2
  rw [RL h]
  simp [LI,m1,m2,f1,b1,b2,lkA,aP,-aq,-frz]
  simp [frz]
 ·rw [RH h] at b2
  rw [RN h]
  simp [LI,m1,m2,f1,b1,b2,lkA,aP,-aq,-frz]
  simp [frz]
def M68:aI:=fun args=>evP (ai GC []) 0 MS 4 args
theorem HN:an Tryz.prog GC 96 M68:=an.of_ev (E:=ai GC []) (ag aw) rfl at68 Kd 4 fun _ _ h=>⟨0,h⟩
theorem La (ov:AV) (j:Int):M68 [ov,.int .i64 j]=some (lkA j j 1):=by
 unfold M68
 rw [aT _ _ rfl]
 simp [MS,lkA]
def H45:aD:=fun _=>bp (ai GC []) 0 ws
theorem w8:ak Tryz.prog GC 49 H45:=(aM (ag aw) rfl Mi vj aW.nil).y
def GAt (A:ac) (g:Nat) (l:List bc):Prop:=∃v,A[g]?=some (.row 1 false [v])/\((v=.nilS/\l=[])\/∃id gr,v=.sl id 0 l.length/\l≠[]/\g<id/\A[id]?=some (.row 4 gr (l.map cJ)))
theorem GAt.app {g:Nat} {l:List bc} (h:GAt A g l) (X:ac):GAt (A++X) g l:=by
 obtain ⟨v,h1,h2⟩:=h
 have hk:∀(j:Nat) (e:Ent),A[j]?=some e->(A++X)[j]?=some e:=fun j e h=>by
  rw [RE (Rx.1 h).1]; exact h
 refine ⟨v,hk _ _ h1,?_⟩
 rcases h2 with h2 | ⟨id,gr,e1,e2,e3,e4⟩
 ·exact .inl h2
 ·exact .inr ⟨id,gr,e1,e2,e3,hk _ _ e4⟩
theorem C9 (h:aR) {g:Nat} {l:List bc} (hg:GAt A g l) {xs:List bc} (hx:xs≠[]) (hb:l.length+xs.length<=1000) :
  ∃B,H45 h [.ptr g 0 0,.fs 4 (xs.map cJ)] A=some (.tup [],B)/\GAt B g (l++xs)/\A.length<=B.length/\∀j,j<g->B[j]?=A[j]?:=by
 obtain ⟨v,h1,h2⟩:=hg
 have hgl:=(Rx.1 h1).1
 have hxl:0<xs.length:=TM.2 hx
 have hxm:xs.map cJ≠[]:=fun e=>hx (List.map_eq_nil_iff.1 e)
 rcases h2 with ⟨rfl,rfl⟩ | ⟨id,gr,rfl,hl,hid,hr⟩
 ·have e1:aK 4 32 A .nilS (.fs 4 (xs.map cJ))=some (.sl A.length 0 xs.length,A++[.row 4 false (xs.map cJ)]):=by
   simp only [aK,dc,RR]
   rw [RN (by omega),RL ⟨by omega,by omega,by simp at hb; omega⟩]
  have l1:af false 1 A (.ptr g 0 0)=some .nilS:=io h1 (.inl rfl)
  have h1':(A++[Ent.row 4 false (xs.map cJ)])[g]?=some (.row 1 false [.nilS]):=by rw [RE hgl]; exact h1
  obtain ⟨A1,hA1⟩:∃X,X=A++[Ent.row 4 false (xs.map cJ)]:=⟨_,rfl⟩
  have s1:aC 1 A1 (.ptr g 0 0) (.sl A.length 0 xs.length)=some (A1.set g (.row 1 false [.sl A.length 0 xs.length])):=by
   rw [<-hA1] at h1'
   simp [h1']
  refine ⟨A1.set g (.row 1 false [.sl A.length 0 xs.length]),?_,⟨.sl A.length 0 xs.length,by rw [hA1,RO (by simp; omega)],.inr ⟨A.length,false,rfl,hx,hgl,?_⟩⟩,by rw [hA1]; simp,fun j hj=>?_⟩
  ·rw [<-hA1] at e1
   unfold H45
   rw [aX _ _ rfl]
   simp [ws,l1,e1,s1,-af,-aC]
  ·rw [hA1,RF (by omega)]
   simp
  ·rw [hA1,RF (by omega),RE (by omega)]
 ·have hlz:l.length≠0:=fun e=>hl (Si.1 e)
  have hidl:=(Rx.1 hr).1
  have e1:aK 4 32 A (.sl id 0 l.length) (.fs 4 (xs.map cJ))=some (.sl id 0 (l.length+xs.length),A.set id (.row 4 true (l.map cJ++xs.map cJ))):=by
   simp only [aK,dc,RR,hr]
   rw [RL ⟨trivial,by omega,by omega,by omega⟩,RL ⟨trivial,trivial,hlz⟩]
  have l1:af false 1 A (.ptr g 0 0)=some (.sl id 0 l.length):=io h1 (.inr ⟨_,_,_,rfl⟩)
  obtain ⟨A1,hA1⟩:∃X,X=A.set id (Ent.row 4 true (l.map cJ++xs.map cJ)):=⟨_,rfl⟩
  have h1':A1[g]?=some (.row 1 false [.sl id 0 l.length]):=by rw [hA1,RF (by omega)]; exact h1
  have s1:aC 1 A1 (.ptr g 0 0) (.sl id 0 (l.length+xs.length))=some (A1.set g (.row 1 false [.sl id 0 (l.length+xs.length)])):=by
   simp [h1']
  refine ⟨A1.set g (.row 1 false [.sl id 0 (l.length+xs.length)]),?_,⟨.sl id 0 (l.length+xs.length),by rw [hA1,RO (by simpa using hgl)],.inr ⟨id,true,by simp,by simp [hl],hid,?_⟩⟩,by rw [hA1]; simp,fun j hj=>?_⟩
  ·rw [<-hA1] at e1
   unfold H45
   rw [aX _ _ rfl]
   simp [ws,l1,e1,s1,-af,-aC]
  ·rw [hA1,RF (by omega),RO hidl]
   simp
  ·rw [hA1,RF (by omega),RF (by omega)]
theorem GAt.frz {g:Nat} {l:List bc} (h:GAt A g l):∃v,af false 1 A (.ptr g 0 0)=some v/\(∀k,Proofs.YtfkcoekicjjndaaGreat.frz A (k+3) v=slA 4 (l.map cJ))/\∀k,a5 A (k+3) v=true:=by
 obtain ⟨v,h1,h2⟩:=h
 rcases h2 with ⟨rfl,rfl⟩ | ⟨id,gr,rfl,hl,hid,hr⟩
 ·exact ⟨.nilS,io h1 (.inl rfl),fun k=>rfl,fun k=>rfl⟩
 ·have e:((l.map cJ).drop 0).take l.length=l.map cJ:=by
   rw [R2]
   conv=>lhs; rw [show l.length=(l.map cJ).length by simp]
   rw [Sj]
  refine ⟨_,io h1 (.inr ⟨_,_,_,rfl⟩),fun k=>?_,fun k=>?_⟩
  ·have hm:(l.map cJ).map (Proofs.YtfkcoekicjjndaaGreat.frz A (k+2))=l.map cJ:=by
    rw [Te]
    exact Sc fun x _=>by simp [cJ,Proofs.YtfkcoekicjjndaaGreat.frz]
   rw [show k+3=(k+2)+1 from rfl]
   simp only [Proofs.YtfkcoekicjjndaaGreat.frz,hr]
   rw [e,hm]
   cases l with
   | nil=>exact absurd rfl hl
   | cons x r=>rfl
  ·rw [show k+3=(k+2)+1 from rfl]
   simp only [a5,hr]
   rw [e,RZ]
   intro y hy
   obtain ⟨x,_,rfl⟩:=R1.1 hy
   simp [cJ,a5]
end Clu
namespace Clu
open Go
open Cy (GC gW cZ bJ bS cq aP bj aE bc cJ cw cy dR okA)
def nP (o:List Int) (i:Nat):Int:=if i+1<o.length then o.getD (i+1) 0 else 0
def sE (T:aU) (o:List Int) (i:Nat):bc:=
 ⟨o.getD i 0,nP o i,dC T+(if T.blades=2\/nP o i≠o.getD i 0+1 then T.travel else 0),if i+1<o.length then 0 else 1⟩
def lkT (T:aU) (o:List Int) (j:Int):Int × Int × Int:=if T.blades=2 then (j,j,1) else (j-1,j,if cZ (isI j) o<cZ (isI (j-1)) o then 1 else 0)
def t5 (T:aU) (o:List Int) (i:Nat):List bc:=
 [⟨(lkT T o (i+1)).1,(lkT T o (i+1)).2.1,dC T+(T.ch.getD i (0,0)).1,(lkT T o (i+1)).2.2⟩,
  ⟨(lkT T o (i+1)).2.1,(lkT T o (i+1)).1,-(dC T+(T.ch.getD i (0,0)).1+(T.ch.getD i (0,0)).2),-(lkT T o (i+1)).2.2⟩]
def bN (T:aU) (o:List Int):List bc:=(List.range o.length).map (sE T o)++(List.range T.ch.length).flatMap (t5 T o)
def BE (T:aU) (o:List Int):Option (List bc):=if o∈aJ T then some (bN T o) else none
theorem yq (n:Nat) (one:Bool):∀(k:Nat) (b l:List Int),l∈ext n one k b->l.length=n+1/\∃r,l=b++r/\(∀x∈r,1<=x/\x<=n)/\(b.Nodup->l.Nodup)
 | 0,b,l,h=>by simp [ext] at h
 | k+1,b,l,h=>by
  unfold ext at h
  split at h
  ·rename_i hb
   simp only [SC] at h
   subst h
   exact ⟨hb,[],by simp,by simp,id⟩
  ·rw [TN] at h
   obtain ⟨i,hi,h⟩:=h
   rw [List.mem_range'_1] at hi
   split at h
   ·rename_i hc
    obtain ⟨h1,r,rfl,h3,h4⟩:=yq n one k _ _ h
    simp only [Sf,Sy,Tk] at hc
    refine ⟨h1,(i:Int) :: r,by simp,fun x hx=>?_,fun hn=>h4 ?_⟩
    ·rcases Sx.1 hx with rfl | hx
     ·omega
     ·exact h3 x hx
    ·rw [List.nodup_append]
     refine ⟨hn,by simp,fun a ha b hb e=>?_⟩
     rw [SC] at hb
     subst hb; subst e
     exact hc.1 ha
   ·cases h
theorem cB {T:aU} (h:o∈aJ T):aZ T/\o.length=T.ch.length+1/\(∃r,o=0 :: r/\∀x∈r,1<=x/\x<=T.ch.length)/\o.Nodup:=by
 unfold aJ at h
 split at h
 ·rename_i hv
  obtain ⟨h1,r,h2,h3,h4⟩:=yq _ _ _ _ _ h
  exact ⟨hv,h1,⟨r,h2,h3⟩,h4 (by simp)⟩
 ·cases h
theorem gN {T:aU} (h:o∈aJ T):∀x∈o,0<=x/\x<=T.ch.length:=by
 obtain ⟨_,_,⟨r,rfl,h2⟩,_⟩:=cB h
 intro x hx
 rcases Sx.1 hx with rfl | hx
 ·omega
 ·have:=h2 x hx; omega
theorem iq (T:aU):(aJ T).length<=256:=by
 unfold aJ
 split
 ·rename_i hv
  have hn:=hv.2.2.2.1
  rcases tP T.ch.length (decide (T.blades=1)) hn T.ch.length [0] with h | h
  ·exact SR h (SR (Nat.pow_le_pow_right (by omega) hn) (by omega))
  ·simp at h; omega
 ·simp
theorem qc {T:aU} (h:aZ T):0<=dC T/\dC T<=30000:=by
 obtain ⟨_,⟨h1,h2,h3⟩,_⟩:=h
 unfold dC
 split <;> omega
theorem ej {a:Int} (h : -9223372036854775807<=a/\a<=9223372036854775807):rU .neg (.int .i64 a)=some (.int .i64 (-a)):=by
 simp only [rU]
 rw [show (0:Int)-a = -a by omega,eg (by unfold inI; omega)]
def mS:List (FuncId × aD):=[(15,ck 4 M14),(45,aG 4 M41),(48,aG 4 M44),(50,aG 4 M46),(95,aG 4 M67),(96,aG 4 M68),(49,H45)]
@[simp] theorem OD:aH mS 15=some (ck 4 M14):=rfl
@[simp] theorem Ox:aH mS 45=some (aG 4 M41):=rfl
@[simp] theorem Ow:aH mS 48=some (aG 4 M44):=rfl
@[simp] theorem Ou:aH mS 50=some (aG 4 M46):=rfl
@[simp] theorem Ot:aH mS 95=some (aG 4 M67):=rfl
@[simp] theorem Oq:aH mS 96=some (aG 4 M68):=rfl
@[simp] theorem Ov:aH mS 49=some H45:=rfl
theorem s5:∀f M,aH mS f=some M->ak Tryz.prog GC f M:=ae (ak.of_pureF lG 4) (ae (ak.of_pure nB 4) (ae (ak.of_pure w9 4) (ae (ak.of_pure w7 4) (ae (ak.of_pure HO 4) (ae (ak.of_pure HN 4) (ae w8 aw))))))
structure I19 (A:ac) (T:aU) (chv ov:AV) (l:List bc):Prop where
 t:A[0]?=some (.row 5 false [ay T chv])
 o:A[1]?=some (.row 1 false [ov])
 g:GAt A 2 l
theorem AG {T:aU} (hO:o∈aJ T) (ho:SlA 1 (ax o) ov) {A:ac} {l:List bc} (hI:I19 A T chv ov l) (hl:l.length<=100) (hi:i<o.length) :
  ∃B,run (ai GC mS) 300 [.code fQ] (nz (.ptr 0 0 0) (.ptr 1 0 0) (.int .i64 (dC T)) (.ptr 2 0 0) ov (.int .i64 (o.length:Int)) (.int .i64 (i:Int))) A =
   some (.normal (nz (.ptr 0 0 0) (.ptr 1 0 0) (.int .i64 (dC T)) (.ptr 2 0 0) ov (.int .i64 (o.length:Int)) (.int .i64 ((i+1:Nat):Int))) B)/\I19 B T chv ov (l++[sE T o i]):=by
 obtain ⟨hv,hol,_,_⟩:=cB hO
 have hbd:=gN hO
 have hw:=qc hv
 have hch:=hv.2.2.2.1
 have htr:=hv.2.1.2.2
 obtain ⟨ht,h1,hg⟩:=hI
 have ht0:=(Rx.1 ht).1
 have h10:=(Rx.1 h1).1
 have hlen:=ho.len
 rw [aE] at hlen
 have x1:=fun A=>ho.int (A:=A) _ _ (RD hi) .i64
 have ho1:o[i]=o.getD i 0:=by rw [RC,RD hi]; rfl
 have hb1:=hbd o[i] (RM hi)
 obtain ⟨t0,htt⟩:∃t,t=o.getD i 0:=⟨_,rfl⟩
 rw [ho1,<-htt] at x1 hb1
 obtain ⟨w,hww⟩:∃w,w=dC T:=⟨_,rfl⟩
 have ov0:∀X,af false 1 (A++X) (.ptr 1 0 0)=some ov:=fun X=>by
  have h:(A++X)[1]?=some (.row 1 false [ov]):=by rw [RE h10]; exact h1
  rcases ho with ⟨rfl,_⟩ | rfl <;> simp [h]
 obtain ⟨ch,pk,pl,tr,bd⟩:=T
 have ht:A[0]?=some (.row 5 false [.agg [chv,.int .i64 pk,.int .i64 pl,.int .i64 tr,.int .i64 bd]]):=ht
 have tl:∀X,(A++X)[0]?=some (.row 5 false [.agg [chv,.int .i64 pk,.int .i64 pl,.int .i64 tr,.int .i64 bd]]):=fun X=>by rw [RE ht0]; exact ht
 have t3:∀X,aa 3 (A++X) (.ptr 0 0 0)=some (.ptr 0 0 3):=fun X=>by simp [aa,tl X]
 have t4:∀X,aa 4 (A++X) (.ptr 0 0 0)=some (.ptr 0 0 4):=fun X=>by simp [aa,tl X]
 have l3:∀X,af false 1 (A++X) (.ptr 0 0 3)=some (.int .i64 tr):=fun X=>by simp [af,tl X,bT]
 have l4:∀X,af false 1 (A++X) (.ptr 0 0 4)=some (.int .i64 bd):=fun X=>by simp [af,tl X,bT]
 have a1:∀a b c d,aa 1 (A++[.row 4 false [.agg [a,b,c,d]]]) (.ptr A.length 0 0)=some (.ptr A.length 0 1):=fun a b c d=>pj (es:=[a,b,c,d]) (k:=4) rfl (by omega)
 have a2:∀a b c d,aa 2 (A++[.row 4 false [.agg [a,b,c,d]]]) (.ptr A.length 0 0)=some (.ptr A.length 0 2):=fun a b c d=>pj (es:=[a,b,c,d]) (k:=4) rfl (by omega)
 have a3:∀a b c d,aa 3 (A++[.row 4 false [.agg [a,b,c,d]]]) (.ptr A.length 0 0)=some (.ptr A.length 0 3):=fun a b c d=>pj (es:=[a,b,c,d]) (k:=4) rfl (by omega)
 have r1:∀a b c d,af false 1 (A++[.row 4 false [.agg [a,b,c,d]]]) (.ptr A.length 0 1)=some b:=fun a b c d=>q9 (es:=[a,b,c,d]) (k:=4) rfl rfl
 have r2:∀a b c d,af false 1 (A++[.row 4 false [.agg [a,b,c,d]]]) (.ptr A.length 0 2)=some c:=fun a b c d=>q9 (es:=[a,b,c,d]) (k:=4) rfl rfl
 have r4:∀a b c d,af true 4 (A++[.row 4 false [.agg [a,b,c,d]]]) (.ptr A.length 0 0)=some (.agg [a,b,c,d]):=fun a b c d=>Do (es:=[a,b,c,d]) (k:=4) rfl (by omega)
 have s1:∀a b c d z,aC 1 (A++[.row 4 false [.agg [a,b,c,d]]]) (.ptr A.length 0 1) (.int .i64 z)=some (A++[.row 4 false [.agg [a,.int .i64 z,c,d]]]):=fun a b c d z=>wU (es:=[a,b,c,d]) (k:=4) rfl (by omega) (by omega) rfl rfl
 have s2:∀a b c d z,aC 1 (A++[.row 4 false [.agg [a,b,c,d]]]) (.ptr A.length 0 2) (.int .i64 z)=some (A++[.row 4 false [.agg [a,b,.int .i64 z,d]]]):=fun a b c d z=>wU (es:=[a,b,c,d]) (k:=4) rfl (by omega) (by omega) rfl rfl
 have s3:∀a b c d z,aC 1 (A++[.row 4 false [.agg [a,b,c,d]]]) (.ptr A.length 0 3) (.int .i64 z)=some (A++[.row 4 false [.agg [a,b,c,.int .i64 z]]]):=fun a b c d z=>wU (es:=[a,b,c,d]) (k:=4) rfl (by omega) (by omega) rfl rfl
 have sA:∀a b c d x y z u,aC 4 (A++[.row 4 false [.agg [a,b,c,d]]]) (.ptr A.length 0 0) (.agg [.int .i64 x,.int .i64 y,.int .i64 z,.int .i64 u])=some (A++[.row 4 false [.agg [.int .i64 x,.int .i64 y,.int .i64 z,.int .i64 u]]]):=fun a b c d x y z u=>by simp [aC,bq]
 have b0:=bC i o.length .i64
 rw [RJ hi] at b0
 have b1:=bh i (by omega)
 have b2:=bC (i+1) o.length .i64
 have b3:aq .eql (.int .i64 bd) (.int .i64 2)=some (.bool (decide (bd=2))):=bE _ _
 have b4:aq .add (.int .i64 t0) (.int .i64 1)=some (.int .i64 (t0+1)):=be (by simp only at hch hb1; omega)
 have b6:aq .add (.int .i64 w) (.int .i64 tr)=some (.int .i64 (w+tr)):=be (by simp only at htr; omega)
 obtain ⟨nx,hnx⟩:∃x,x=nP o i:=⟨_,rfl⟩
 have b5:aq .neq (.int .i64 nx) (.int .i64 (t0+1))=some (.bool (decide (nx≠t0+1))):=cE _ _
 obtain ⟨ar,har⟩:∃a,a=sE ⟨ch,pk,pl,tr,bd⟩ o i:=⟨_,rfl⟩
 have hae:ar=⟨t0,nx,w+(if bd=2\/nx≠t0+1 then tr else 0),if i+1<o.length then 0 else 1⟩:=by
  rw [har,hnx,htt,hww]; rfl
 have hgX:=hg.app [.row 4 false [cJ ar]]
 obtain ⟨B,k1,k2,k3,k4⟩:=C9 (fun _ _ _=>none) hgX (xs:=[ar]) (by simp) (by simp; omega)
 refine ⟨B,?_,⟨by rw [k4 0 (by omega),RE ht0]; exact ht,by rw [k4 1 (by omega),RE h10]; exact h1,by rw [<-har]; exact k2⟩⟩
 rw [<-hww]
 have k1:H45 (fun _ _ _=>none) [.ptr 2 0 0,.fs 4 [cJ ar]] (A++[.row 4 false [cJ ar]])=some (.tup [],B):=k1
 rw [show cJ ar=.agg [.int .i64 t0,.int .i64 nx,.int .i64 (w+(if bd=2\/nx≠t0+1 then tr else 0)),.int .i64 (if i+1<o.length then 0 else 1)] by rw [hae]; rfl] at k1
 have hsl:∀x y z u:Int,bk 4 [.agg [.int .i64 x,.int .i64 y,.int .i64 z,.int .i64 u]]=some (.fs 4 [.agg [.int .i64 x,.int .i64 y,.int .i64 z,.int .i64 u]]):=fun x y z u=>rfl
 obtain ⟨N,hN⟩:∃n,n=A.length:=⟨_,rfl⟩
 obtain ⟨i1,hi1⟩:∃n,n=i+1:=⟨_,rfl⟩
 have x2:i1<o.length->∀A,au 1 A ov (.int .i64 (i1:Int))=some (.fp [.int .i64 nx]):=fun h A=>by
  have e:o[i1]?=some nx:=by rw [hnx,nP,RL (by omega),<-hi1,RC,RD h]; rfl
  exact ho.int (A:=A) _ _ e .i64
 have hnx0:¬ i1<o.length->nx=0:=fun h=>by rw [hnx,nP,RN (by omega)]
 have bx:∀z,aY 4 (.agg [.int .i64 z,.int .i64 z,.int .i64 z,.int .i64 z]) A=some (.ptr N 0 0,A++[.row 4 false [.agg [.int .i64 z,.int .i64 z,.int .i64 z,.int .i64 z]]]):=fun z=>by rw [hN]; rfl
 rw [<-hi1] at b1 b2 k1 ⊢
 rw [<-hN] at a1 a2 a3 r1 r2 r4 s1 s2 s3 sA
 obtain ⟨t1,ht1⟩:∃x,x=t0+1:=⟨_,rfl⟩
 rw [<-ht1] at b4 b5 k1
 obtain ⟨w1,hw1⟩:∃x,x=w+tr:=⟨_,rfl⟩
 rw [<-hw1] at b6
 by_cases hc:i1<o.length
 ·rw [RJ hc] at b2
  have x2:=x2 hc
  rw [RL hc] at k1
  by_cases hd:bd=2
  ·rw [RJ hd] at b3
   rw [RL (.inl hd),<-hw1] at k1
   simp [fQ,b0,b1,b2,b3,b6,x1,x2,ov0,hlen,t3,t4,l3,l4,a1,a2,a3,r2,r4,s1,s2,s3,sA,bx,hsl,k1,-aq,-af,-aC,-aa,-au,-az,-bk,-aY]
  ·rw [RH hd] at b3
   by_cases he:nx≠t1
   ·rw [RJ he] at b5
    rw [RL (.inr he),<-hw1] at k1
    simp [fQ,b0,b1,b2,b3,b4,b5,b6,x1,x2,ov0,hlen,t3,t4,l3,l4,a1,a2,a3,r1,r2,r4,s1,s2,s3,sA,bx,hsl,k1,-aq,-af,-aC,-aa,-au,-az,-bk,-aY]
   ·rw [RH he] at b5
    rw [RN (fun h=>h.elim hd he),Int.add_zero] at k1
    simp [fQ,b0,b1,b2,b3,b4,b5,x1,x2,ov0,hlen,t4,l4,a1,a3,r1,r4,s1,s3,sA,bx,hsl,k1,-aq,-af,-aC,-aa,-au,-az,-bk,-aY]
 ·rw [RH hc] at b2
  have hnx0:=hnx0 hc
  rw [RN hc] at k1
  subst hnx0
  by_cases hd:bd=2
  ·rw [RJ hd] at b3
   rw [RL (.inl hd),<-hw1] at k1
   simp [fQ,b0,b1,b2,b3,b6,x1,ov0,hlen,t3,t4,l3,l4,a2,r2,r4,s2,sA,bx,hsl,k1,-aq,-af,-aC,-aa,-au,-az,-bk,-aY]
  ·rw [RH hd] at b3
   by_cases he:(0:Int)≠t1
   ·rw [RJ he] at b5
    rw [RL (.inr he),<-hw1] at k1
    simp [fQ,b0,b1,b2,b3,b4,b5,b6,x1,ov0,hlen,t3,t4,l3,l4,a1,a2,r1,r2,r4,s2,sA,bx,hsl,k1,-aq,-af,-aC,-aa,-au,-az,-bk,-aY]
   ·rw [RH he] at b5
    rw [RN (fun h=>h.elim hd he),Int.add_zero] at k1
    simp [fQ,b0,b1,b2,b3,b4,b5,x1,ov0,hlen,t4,l4,a1,r1,r4,sA,bx,hsl,k1,-aq,-af,-aC,-aa,-au,-az,-bk,-aY]
end Clu
namespace Clu
open Go
open Cy (GC gW cZ bJ bS cq aP bj aE bc cJ cw cy dR okA)
def fnL (T:aU):AV:=if T.blades=2 then .func (.func 96) [] [] else .func (.func 95) [] []
theorem BB {T:aU} (_hv:aZ T) (ho:SlA 1 (ax o) ov) (hl:o.length<=200) (j:Int) (hj : -1000<=j/\j<=1000) (A:ac):(ai GC mS).call (fnL T) [ov,.int .i64 j] A=some (lkA (lkT T o j).1 (lkT T o j).2.1 (lkT T o j).2.2,A):=by
 have f1:∀n,frz A n ov=ov:=fun n=>ho.frz n
 unfold fnL lkT
 split
 ·have m:=La ov j
  simp [m,f1,lkA,aP,-frz]
 ·have m:=Lb ho hl hj
  simp [m,f1,lkA,aP,-frz]
theorem Cb (T:aU) (o:List Int) (j:Int):(lkT T o j).2.2=0\/(lkT T o j).2.2=1:=by
 unfold lkT
 split
 ·exact .inr rfl
 ·simp only
  split
  ·exact .inr rfl
  ·exact .inl rfl
theorem AF {T:aU} (hO:o∈aJ T) (hcv:SlA 2 (T.ch.map chA) chv) (ho:SlA 1 (ax o) ov) {A:ac} {l:List bc} (hI:I19 A T chv ov l) (hl:l.length<=100) (hi:i<T.ch.length) :
  ∃B,run (ai GC mS) 300 [.code lQ] (ny (.ptr 1 0 0) (.int .i64 (dC T)) (.ptr 2 0 0) (fnL T) chv (.int .i64 (T.ch.length:Int)) (.int .i64 (i:Int))) A =
   some (.normal (ny (.ptr 1 0 0) (.int .i64 (dC T)) (.ptr 2 0 0) (fnL T) chv (.int .i64 (T.ch.length:Int)) (.int .i64 ((i+1:Nat):Int))) B)/\I19 B T chv ov (l++t5 T o i):=by
 obtain ⟨hv,hol,_,_⟩:=cB hO
 have hw:=qc hv
 have hch:=hv.2.2.2.1
 obtain ⟨ht,h1,hg⟩:=hI
 have ht0:=(Rx.1 ht).1
 have h10:=(Rx.1 h1).1
 have hx0:T.ch.getD i (0,0)=T.ch[i]:=by rw [RC,RD hi]; rfl
 have hxv:=hv.1 _ (RM hi)
 have x1:∀A,au 2 A chv (.int .i64 (i:Int))=some (.fp [.int .i64 (T.ch.getD i (0,0)).1,.int .i64 (T.ch.getD i (0,0)).2]):=fun A=>by
  rw [hx0]
  exact hcv.index (A:=A) (x:=chA T.ch[i]) (by simp [hi]) rfl (by omega) .i64
 have cl:=BB hv ho (by omega) ((i:Int)+1) (by omega)
 have lb:=Cb T o ((i:Int)+1)
 have ha:t5 T o i=t5 T o i:=rfl
 conv at ha=>rhs; unfold t5
 rw [ha]
 obtain ⟨⟨k1,k2,k3⟩,hk⟩:∃k,k=lkT T o ((i:Int)+1):=⟨_,rfl⟩
 rw [<-hk] at cl lb ⊢
 obtain ⟨⟨tm,sy⟩,hx⟩:∃x,x=T.ch.getD i (0,0):=⟨_,rfl⟩
 rw [hx0] at hx
 rw [<-hx] at hxv
 rw [hx0,<-hx] at x1
 rw [hx0,<-hx]
 simp only [sN] at cl lb x1 hxv ⊢
 obtain ⟨w,hww⟩:∃w,w=dC T:=⟨_,rfl⟩
 rw [<-hww] at hw ⊢
 have ov0:∀X,af false 1 (A++X) (.ptr 1 0 0)=some ov:=fun X=>by
  have h:(A++X)[1]?=some (.row 1 false [ov]):=by rw [RE h10]; exact h1
  rcases ho with ⟨rfl,_⟩ | rfl <;> simp [h]
 have b0:=bC i T.ch.length .i64
 rw [RJ hi] at b0
 have b1:=bh i (by omega)
 have b2:aq .add (.int .i64 (i:Int)) (.int .i64 1)=some (.int .i64 ((i:Int)+1)):=be (by omega)
 have b3:aq .add (.int .i64 w) (.int .i64 tm)=some (.int .i64 (w+tm)):=be (by omega)
 have b4:aq .add (.int .i64 (w+tm)) (.int .i64 sy)=some (.int .i64 (w+tm+sy)):=be (by omega)
 have b5:rU .neg (.int .i64 (w+tm+sy))=some (.int .i64 (-(w+tm+sy))):=ej (by omega)
 have b6:rU .neg (.int .i64 k3)=some (.int .i64 (-k3)):=ej (by omega)
 obtain ⟨A1,hA1⟩:∃X,X=A++[Ent.row 2 false [.agg [.int .i64 tm,.int .i64 sy]]]:=⟨_,rfl⟩
 have ov1:af false 1 A1 (.ptr 1 0 0)=some ov:=by rw [hA1]; exact ov0 _
 have bx:aY 2 (.agg [.int .i64 0,.int .i64 0]) A=some (.ptr A.length 0 0,A++[.row 2 false [.agg [.int .i64 0,.int .i64 0]]]):=rfl
 have s0:aC 2 (A++[.row 2 false [.agg [.int .i64 0,.int .i64 0]]]) (.ptr A.length 0 0) (.agg [.int .i64 tm,.int .i64 sy])=some A1:=by simp [aC,bq,hA1]
 have bx1:aY 3 (.agg [.int .i64 0,.int .i64 0,.int .i64 0]) A1=some (.ptr A1.length 0 0,A1++[.row 3 false [.agg [.int .i64 0,.int .i64 0,.int .i64 0]]]):=rfl
 have s1:aC 3 (A1++[.row 3 false [.agg [.int .i64 0,.int .i64 0,.int .i64 0]]]) (.ptr A1.length 0 0) (lkA k1 k2 k3)=some (A1++[.row 3 false [lkA k1 k2 k3]]):=by simp [aC,bq,lkA]
 have hA1n:∀X,(A1++X)[A.length]?=some (Ent.row 2 false [.agg [.int .i64 tm,.int .i64 sy]]):=fun X=>by rw [RE (by rw [hA1]; simp),hA1]; simp
 have f0:∀X,aa 0 (A1++X) (.ptr A.length 0 0)=some (.ptr A.length 0 0):=fun X=>by simp [aa,hA1n X]
 have f1:∀X,aa 1 (A1++X) (.ptr A.length 0 0)=some (.ptr A.length 0 1):=fun X=>by simp [aa,hA1n X]
 have e0:∀X,af false 1 (A1++X) (.ptr A.length 0 0)=some (.int .i64 tm):=fun X=>by simp [af,hA1n X,bT]
 have e1:∀X,af false 1 (A1++X) (.ptr A.length 0 1)=some (.int .i64 sy):=fun X=>by simp [af,hA1n X,bT]
 have g0:aa 0 (A1++[.row 3 false [lkA k1 k2 k3]]) (.ptr A1.length 0 0)=some (.ptr A1.length 0 0):=pj (es:=[.int .i64 k1,.int .i64 k2,.int .i64 k3]) (k:=3) rfl (by omega)
 have g1:aa 1 (A1++[.row 3 false [lkA k1 k2 k3]]) (.ptr A1.length 0 0)=some (.ptr A1.length 0 1):=pj (es:=[.int .i64 k1,.int .i64 k2,.int .i64 k3]) (k:=3) rfl (by omega)
 have g2:aa 2 (A1++[.row 3 false [lkA k1 k2 k3]]) (.ptr A1.length 0 0)=some (.ptr A1.length 0 2):=pj (es:=[.int .i64 k1,.int .i64 k2,.int .i64 k3]) (k:=3) rfl (by omega)
 have d0:af false 1 (A1++[.row 3 false [lkA k1 k2 k3]]) (.ptr A1.length 0 0)=some (.int .i64 k1):=q9 (es:=[.int .i64 k1,.int .i64 k2,.int .i64 k3]) (k:=3) rfl rfl
 have d1:af false 1 (A1++[.row 3 false [lkA k1 k2 k3]]) (.ptr A1.length 0 1)=some (.int .i64 k2):=q9 (es:=[.int .i64 k1,.int .i64 k2,.int .i64 k3]) (k:=3) rfl rfl
 have d2:af false 1 (A1++[.row 3 false [lkA k1 k2 k3]]) (.ptr A1.length 0 2)=some (.int .i64 k3):=q9 (es:=[.int .i64 k1,.int .i64 k2,.int .i64 k3]) (k:=3) rfl rfl
 have hgX:GAt (A1++[.row 3 false [lkA k1 k2 k3]]) 2 l:=by rw [hA1]; exact (hg.app _).app _
 obtain ⟨B,q1,q2,q3,q4⟩:=C9 (fun _ _ _=>none) hgX (xs:=[⟨k1,k2,w+tm,k3⟩,⟨k2,k1,-(w+tm+sy),-k3⟩]) (by simp) (by simp; omega)
 have hA10:∀j,j<A.length->(A1++[Ent.row 3 false [lkA k1 k2 k3]])[j]?=A[j]?:=fun j hj=>by
  rw [hA1,RX,RE hj]
 refine ⟨B,?_,⟨by rw [q4 0 (by omega),hA10 0 ht0]; exact ht,by rw [q4 1 (by omega),hA10 1 h10]; exact h1,q2⟩⟩
 obtain ⟨w1,hw1⟩:∃x,x=w+tm:=⟨_,rfl⟩
 rw [<-hw1] at b3 b4 b5 q1
 obtain ⟨w2,hw2⟩:∃x,x=w1+sy:=⟨_,rfl⟩
 rw [<-hw2] at b4 b5 q1
 obtain ⟨w3,hw3⟩:∃x,x = -w2:=⟨_,rfl⟩
 rw [<-hw3] at b5 q1
 obtain ⟨k4,hk4⟩:∃x,x = -k3:=⟨_,rfl⟩
 rw [<-hk4] at b6 q1
 have q1:H45 (fun _ _ _=>none) [.ptr 2 0 0,.fs 4 [.agg [.int .i64 k1,.int .i64 k2,.int .i64 w1,.int .i64 k3],.agg [.int .i64 k2,.int .i64 k1,.int .i64 w3,.int .i64 k4]]] (A1++[.row 3 false [lkA k1 k2 k3]])=some (.tup [],B):=q1
 have hsl:bk 4 [.agg [.int .i64 k1,.int .i64 k2,.int .i64 w1,.int .i64 k3],.agg [.int .i64 k2,.int .i64 k1,.int .i64 w3,.int .i64 k4]]=some (.fs 4 [.agg [.int .i64 k1,.int .i64 k2,.int .i64 w1,.int .i64 k3],.agg [.int .i64 k2,.int .i64 k1,.int .i64 w3,.int .i64 k4]]):=rfl
 have cl:=cl A1
 obtain ⟨j1,hj1⟩:∃x,x=(i:Int)+1:=⟨_,rfl⟩
 rw [<-hj1] at b2 cl
 obtain ⟨i1,hi1⟩:∃n,n=i+1:=⟨_,rfl⟩
 have hj2:j1=(i1:Int):=by omega
 subst hj2
 rw [<-hi1] at b1 ⊢
 obtain ⟨F,hF⟩:∃F,F=fnL T:=⟨_,rfl⟩
 rw [<-hF] at cl ⊢
 obtain ⟨L,hL⟩:∃L,L=lkA k1 k2 k3:=⟨_,rfl⟩
 rw [<-hL] at cl s1 g0 g1 g2 d0 d1 d2 q1
 simp [lQ,b0,b1,b3,b4,b5,b6,x1,ov1,bx,s0,bx1,s1,f0,f1,e0,e1,g0,g1,g2,d0,d1,d2,hsl,cl,q1,-aq,-af,-aC,-aa,-au,-bk,-aY,-rU]
def M19:aI:=fun args=>evF (ai GC mS) 300 Ac 4 args
theorem uz:bs Tryz.prog GC 16 M19:=bs.of_ev (E:=ai GC mS) (ag s5) rfl Pd yT 4 fun _ _ h=>⟨300,h⟩
def KT (r:Option (List bc)):AV:=.tup [slA 4 ((r.getD []).map cJ),.int .i64 (if r.isSome then 0 else 130)]
theorem zE (T:aU) (o:List Int) (i:Nat):((List.range (i+1)).map (sE T o))=(List.range i).map (sE T o)++[sE T o i]:=by
 rw [S5,ST]; rfl
theorem sD (T:aU) (o:List Int) (i:Nat):((List.range (i+1)).flatMap (t5 T o))=(List.range i).flatMap (t5 T o)++t5 T o i:=by
 rw [S5,Tq]; simp
theorem sC (T:aU) (o:List Int) (i:Nat):((List.range i).flatMap (t5 T o)).length=2*i:=by
 induction i with
 | zero=>rfl
 | succ i ih=>rw [sD,R8,ih]; rfl
theorem FE {T:aU} (hO:o∈aJ T) (ho:SlA 1 (ax o) ov):∀(c i:Nat) (A:ac) (m:Nat),i+c=o.length->I19 A T chv ov ((List.range i).map (sE T o))->c<m ->
  ∃B,cc (evC (ai GC mS) 300 fQ) iF m (nz (.ptr 0 0 0) (.ptr 1 0 0) (.int .i64 (dC T)) (.ptr 2 0 0) ov (.int .i64 (o.length:Int)) (.int .i64 (i:Int))) A =
   some (.exit 0 ((nz (.ptr 0 0 0) (.ptr 1 0 0) (.int .i64 (dC T)) (.ptr 2 0 0) ov (.int .i64 (o.length:Int)) (.int .i64 (o.length:Int))).set 19 (.bool false)) B)/\I19 B T chv ov ((List.range o.length).map (sE T o)):=by
 obtain ⟨hv,hol,_,_⟩:=cB hO
 have hn4:=hv.2.2.2.1
 intro c
 induction c with
 | zero=>
  intro i A m hi hI hm
  obtain ⟨m,rfl⟩:∃j,m=j+1:=⟨m-1,by omega⟩
  obtain rfl:i=o.length:=by omega
  refine ⟨A,?_,hI⟩
  have b0:=bC o.length o.length .i64
  rw [RH (by omega)] at b0
  rw [aO,zi]
  simp [fQ,b0,-aq]
 | succ c ih=>
  intro i A m hi hI hm
  obtain ⟨m,rfl⟩:∃j,m=j+1:=⟨m-1,by omega⟩
  obtain ⟨B,h1,h2⟩:=AG hO ho hI (by simp; omega) (i:=i) (by omega)
  rw [<-zE] at h2
  obtain ⟨C,h3,h4⟩:=ih (i+1) B m (by omega) h2 (by omega)
  refine ⟨C,?_,h4⟩
  rw [aO,zi,h1]
  exact h3
theorem FD {T:aU} (hO:o∈aJ T) (hcv:SlA 2 (T.ch.map chA) chv) (ho:SlA 1 (ax o) ov) {l0:List bc} (hl0:l0.length<=50):∀(c i:Nat) (A:ac) (m:Nat),i+c=T.ch.length->I19 A T chv ov (l0++(List.range i).flatMap (t5 T o))->c<m ->
  ∃B,cc (evC (ai GC mS) 300 lQ) iE m (ny (.ptr 1 0 0) (.int .i64 (dC T)) (.ptr 2 0 0) (fnL T) chv (.int .i64 (T.ch.length:Int)) (.int .i64 (i:Int))) A =
   some (.exit 2 ((ny (.ptr 1 0 0) (.int .i64 (dC T)) (.ptr 2 0 0) (fnL T) chv (.int .i64 (T.ch.length:Int)) (.int .i64 (T.ch.length:Int))).set 25 (.bool false)) B)/\I19 B T chv ov (l0++(List.range T.ch.length).flatMap (t5 T o)):=by
 obtain ⟨hv,hol,_,_⟩:=cB hO
 have hn4:=hv.2.2.2.1
 intro c
 induction c with
 | zero=>
  intro i A m hi hI hm
  obtain ⟨m,rfl⟩:∃j,m=j+1:=⟨m-1,by omega⟩
  obtain rfl:i=T.ch.length:=by omega
  refine ⟨A,?_,hI⟩
  have b0:=bC T.ch.length T.ch.length .i64
  rw [RH (by omega)] at b0
  rw [aO,zh]
  simp [lQ,b0,-aq]
 | succ c ih=>
  intro i A m hi hI hm
  obtain ⟨m,rfl⟩:∃j,m=j+1:=⟨m-1,by omega⟩
  obtain ⟨B,h1,h2⟩:=AF hO hcv ho hI (by rw [R8,sC]; omega) (i:=i) (by omega)
  rw [RX,<-sD] at h2
  obtain ⟨C,h3,h4⟩:=ih (i+1) B m (by omega) h2 (by omega)
  refine ⟨C,?_,h4⟩
  rw [aO,zh,h1]
  exact h3
theorem C5 {T:aU} {chv:AV} (hcv:SlA 2 (T.ch.map chA) chv) (hl:T.ch.length<=200) (ho:SlA 1 (ax o) ov):M19 [ay T chv,ov]=some (KT (BE T o)):=by
 have m14:=vE hcv hl
 have m41:=vA ho (ll:=aJ T)
 have ft:=fun A=>bg (T:=T) (fun A n=>hcv.frz (A:=A) n) A 3
 have fo:∀A n,frz A n ov=ov:=fun A n=>ho.frz n
 have fO:∀A,frz A 4 (lK (aJ T))=lK (aJ T):=fun A=>(bo 1 _).frz 4
 have nO:bu 4 (lK (aJ T))=true:=(bo 1 _).noRef 4
 have lt:∀X,af true 5 (.row 5 false [ay T chv] :: X) (.ptr 0 0 0)=some (ay T chv):=fun X=>rfl
 have lo:∀a X,af false 1 (a :: .row 1 false [ov] :: X) (.ptr 1 0 0)=some ov:=fun a X=>by
  rcases ho with ⟨rfl,_⟩ | rfl <;> simp
 have fF:frz [.row 5 false [ay T chv],.row 1 false [ov]] 4 (.func (.func 46) [] [.ptr 1 0 0])=fnO ov:=by
  have:cellsOf ov=[ov]:=by rcases ho with ⟨rfl,_⟩ | rfl <;> rfl
  have hs:ov.solid=true:=by rcases ho with ⟨rfl,_⟩ | rfl <;> rfl
  simp [frz,this,fo,fnO,hs,-cellsOf,-AV.solid]
 have bx0:aY 5 (ay T chv) []=some (.ptr 0 0 0,[.row 5 false [ay T chv]]):=rfl
 have bx1:aY 1 ov [.row 5 false [ay T chv]]=some (.ptr 1 0 0,[.row 5 false [ay T chv],.row 1 false [ov]]):=by
  rcases ho with ⟨rfl,_⟩ | rfl <;> rfl
 have bx2:∀t:AV,aY 1 .nilS [.row 5 false [t],.row 1 false [ov]]=some (.ptr 2 0 0,[.row 5 false [t],.row 1 false [ov],.row 1 false [.nilS]]):=fun t=>rfl
 unfold M19 BE
 rw [eO _ _ rfl]
 by_cases hO:o∈aJ T
 ·obtain ⟨hv,hol,_,_⟩:=cB hO
  have hn4:=hv.2.2.2.1
  have m41:=m41 (SR (iq T) (by omega)) (fun l hl=>by have:=(cB hl).2.1; omega)
  rw [RJ hO] at m41
  rw [RL hO]
  have m44:=Lj chv hv
  have l4:∀X,aa 4 (.row 5 false [ay T chv] :: X) (.ptr 0 0 0)=some (.ptr 0 0 4):=fun X=>rfl
  have e0:∀X,aa 0 (.row 5 false [ay T chv] :: X) (.ptr 0 0 0)=some (.ptr 0 0 0):=fun X=>rfl
  obtain ⟨B1,h1,h2⟩:=FE hO ho (chv:=chv) o.length 0 [.row 5 false [ay T chv],.row 1 false [ov],.row 1 false [.nilS]] 300 (by omega) ⟨rfl,rfl,⟨.nilS,rfl,.inl ⟨rfl,rfl⟩⟩⟩ (by omega)
  have hB1:∀ {x},B1[0]?=x->B1[0]?=x:=id
  have l4b:aa 4 B1 (.ptr 0 0 0)=some (.ptr 0 0 4):=by simp [aa,h2.t]
  have l4c:af false 1 B1 (.ptr 0 0 4)=some (.int .i64 T.blades):=by simp [af,h2.t,ay,bT]
  have l0b:aa 0 B1 (.ptr 0 0 0)=some (.ptr 0 0 0):=by simp [aa,h2.t]
  have l0c:af false 1 B1 (.ptr 0 0 0)=some chv:=by simp [af,h2.t,ay,bT]
  have iv:fU false 3 1 vX (.int .i64 T.blades)=some (fnL T):=by
   rcases hv.2.2.2.2 with h | h <;> rw [h] <;> unfold fnL <;> rw [h] <;> rfl
  have hlen:=hcv.len
  rw [RR] at hlen
  have hlo:=ho.len
  rw [aE] at hlo
  have h2':I19 B1 T chv ov ((List.range o.length).map (sE T o)++(List.range 0).flatMap (t5 T o)):=by simpa using h2
  obtain ⟨B2,h3,h4⟩:=FD hO hcv ho (l0:=(List.range o.length).map (sE T o)) (by simp; omega) T.ch.length 0 B1 300 (by omega) h2' (by omega)
  obtain ⟨v,g1,g2,g3⟩:=h4.g.frz
  have g2:=g2 0
  have g3:=g3 0
  obtain ⟨R,hR⟩:∃R,R=slA 4 ((bN T o).map cJ):=⟨_,rfl⟩
  rw [show (List.range o.length).map (sE T o)++(List.range T.ch.length).flatMap (t5 T o)=bN T o from rfl,<-hR] at g2
  have hRR:KT (some (bN T o))=.tup [R,.int .i64 0]:=by rw [hR]; rfl
  rw [hRR]
  have h1:cc (evC (ai GC mS) 300 fQ) iF 300 (nz (.ptr 0 0 0) (.ptr 1 0 0) (.int .i64 (dC T)) (.ptr 2 0 0) ov (.int .i64 (o.length:Int)) (.int .i64 0)) [.row 5 false [ay T chv],.row 1 false [ov],.row 1 false [.nilS]]=_:=h1
  have h3:cc (evC (ai GC mS) 300 lQ) iE 300 (ny (.ptr 1 0 0) (.int .i64 (dC T)) (.ptr 2 0 0) (fnL T) chv (.int .i64 (T.ch.length:Int)) (.int .i64 0)) B1=_:=h3
  obtain ⟨t,htt⟩:∃t,t=ay T chv:=⟨_,rfl⟩
  obtain ⟨F,hF⟩:∃F,F=fnL T:=⟨_,rfl⟩
  obtain ⟨Q,hQ⟩:∃F,F=lK (aJ T):=⟨_,rfl⟩
  obtain ⟨w,hw⟩:∃F,F=dC T:=⟨_,rfl⟩
  rw [<-htt] at m14 ft lt fF bx0 bx1 m44 h1 ⊢
  rw [<-hF] at iv h3
  rw [<-hQ] at m14 m41 fO nO
  rw [<-hw] at m44 h1 h3
  have cb:∀x:AV,(cellsOf x).length=(cellsOf x).length:=fun _=>rfl
  have ct:(cellsOf t).length=5:=by rw [htt]; rfl
  have co:(cellsOf ov).length=1:=by rcases ho with ⟨rfl,_⟩ | rfl <;> rfl
  have fT:frz B2 4 (.tup [v,.int .i64 0])=.tup [R,.int .i64 0]:=by
   rw [<-g2]; rfl
  have rT:a5 B2 4 (.tup [v,.int .i64 0])=true:=by
   have g3:a5 B2 3 v=true:=g3
   simp [a5,g3]
  simp [Ac,bx0,bx1,bx2,fT,rT,ct,co,lt,lo,m14,m41,m44,ft,fO,nO,fF,Jy h1,Jx h3,l4b,l4c,l0b,l0c,iv,hlen,hlo,zR,g1,-aY,-af,-aa,-az,-frz,-cellsOf]
 ·have hll:(aJ T).length<=256:=iq T
  have m41:=m41 hll (fun l hl=>by have:=cB hl; have:=this.1.2.2.2.1; omega)
  rw [RH hO] at m41
  rw [RN hO]
  obtain ⟨t,htt⟩:∃t,t=ay T chv:=⟨_,rfl⟩
  obtain ⟨Q,hQ⟩:∃F,F=lK (aJ T):=⟨_,rfl⟩
  rw [<-htt] at m14 ft lt fF bx0 bx1 ⊢
  rw [<-hQ] at m14 m41 fO nO
  have ct:(cellsOf t).length=5:=by rw [htt]; rfl
  have co:(cellsOf ov).length=1:=by rcases ho with ⟨rfl,_⟩ | rfl <;> rfl
  have fT:∀A,frz A 4 (.tup [.nilS,.int .i64 130])=.tup [.nilS,.int .i64 130]:=fun A=>rfl
  have rT:∀A,a5 A 4 (.tup [.nilS,.int .i64 130])=true:=fun A=>rfl
  simp [Ac,bx0,bx1,fT,rT,ct,co,lt,m14,m41,ft,fO,nO,fF,-aY,-af,-aa,-az,-frz,-cellsOf]
  rfl
end Clu
namespace Clu
open Go
open Cy (GC gW cZ bJ bS cq aP bj aE bc cJ cw cy dR okA smM smT lvM lvT fX fC iT cC nE)
theorem uW (h:i<o.length):o.getD i 0∈o:=by
 rw [RC,RD h]; exact RM h
theorem tY {T:aU} (hO:o∈aJ T):dR (o.length:Int) (bN T o)/\∀x∈bN T o,x.inR:=by
 obtain ⟨hv,hol,_,_⟩:=cB hO
 have hbd:=gN hO
 have hw:=qc hv
 have hn1:=hv.2.2.1
 have hn4:=hv.2.2.2.1
 have htr:=hv.2.1.2.2
 have key:∀x∈bN T o,okA (o.length:Int) x:=fun x hx=>by
  rcases SW.1 hx with hx | hx
  ·obtain ⟨i,hi,rfl⟩:=R1.1 hx
   rw [SD] at hi
   have h1:=hbd _ (uW hi)
   have h2:0<=nP o i/\nP o i<=T.ch.length:=by
    unfold nP
    split
    ·rename_i h; exact hbd _ (uW h)
    ·omega
   refine ⟨?_,?_,?_,?_⟩ <;> simp only [sE] <;> (try split) <;> omega
  ·obtain ⟨i,hi,hx⟩:=TN.1 hx
   rw [SD] at hi
   have hx0:T.ch.getD i (0,0)=T.ch[i]:=by rw [RC,RD hi]; rfl
   have hxv:=hv.1 _ (RM hi)
   rw [<-hx0] at hxv
   simp only [sN] at hxv
   have lb:=Cb T o ((i:Int)+1)
   have l1:0<=(lkT T o ((i:Int)+1)).1/\(lkT T o ((i:Int)+1)).1<=o.length-1/\0<=(lkT T o ((i:Int)+1)).2.1/\(lkT T o ((i:Int)+1)).2.1<=o.length-1:=by
    unfold lkT
    split <;> simp only <;> omega
   simp only [t5,Sx,List.not_mem_nil,or_false] at hx
   rcases hx with rfl | rfl <;> refine ⟨?_,?_,?_,?_⟩ <;> simp only <;> omega
 refine ⟨⟨by omega,?_,key⟩,fun x hx=>?_⟩
 ·unfold bN
  rw [R8,sC]
  simp; omega
 ·obtain ⟨h1,h2,h3,h4⟩:=key x hx
  refine ⟨?_,?_,?_,?_⟩ <;> unfold inI <;> omega
def gu (l:List bc):AV:=slA 4 (l.map cJ)
theorem m8 {T:aU} (hO:o∈aJ T):cw (gu (bN T o))=some (bN T o):=by
 obtain ⟨h1,h2⟩:=tY hO
 exact fX (by have:=h1.2.1; omega) h2
theorem pZ {T:aU} (hO:o∈aJ T):BE T o=some (bN T o):=RL hO
def mQ (s:Option (Int × List Int)):Int:=match s with | none=>1000000 | some x=>x.1-1
def iS (T:aU) (s:Option (Int × List Int)) (o:List Int):Option (Int × List Int):=
 match smM (o.length:Int) (bN T o) 1 (mQ s) with
 | some p=>some (p,o)
 | none=>s
def tX (T:aU):Option (Int × List Int):=(aJ T).foldl (iS T) none
structure bQ where
 period:Int
 order:List Int
 starts:List Int
 proof:List Int
def oO (T:aU) (x:Int × List Int):bQ:=
 ⟨x.1,x.2,(lvM (x.2.length:Int) (bN T x.2) x.1).1,if x.1 > 1 then (lvM (x.2.length:Int) (bN T x.2) (x.1-1)).2.1 else []⟩
def eP (T:aU):Option bQ:=(tX T).map (oO T)
def oK (s:bQ):AV:=.agg [.int .i64 s.period,slA 1 (ax s.order),slA 1 (ax s.starts),slA 1 (ax s.proof)]
def q5:bQ:=⟨0,[],[],[]⟩
def qR (r:Option bQ):AV:=.tup [oK (r.getD q5),.int .i64 (if r.isSome then 0 else 130)]
def sOk (T:aU) (s:Option (Int × List Int)):Prop:=∀x,s=some x->1<=x.1/\x.1<=1000000/\x.2∈aJ T
theorem s7 {n:Nat} {l:List bc} {r:Int} (hp:cy hi) (h:smM (n:Int) l 1 hi=some r):1<=r/\r<=hi/\cC n l r/\¬ Cy.Pos l r/\∀q,1<=q->q<r->Cy.Pos l q:=by
 unfold smM at h
 rw [RL hp,RY] at h
 exact (Cy.qj (n:=n) (l:=l) hp (hi-1+2).toNat 1 (by omega)).1 r h
theorem ED {n:Nat} {l:List bc} (hp:cy hi) (hv:dR n l) (h:smM (n:Int) l 1 hi=none):∀q,1<=q->q<=hi->Cy.Pos l q:=by
 unfold smM at h
 rw [RL hp,RY] at h
 exact (Cy.qj (n:=n) (l:=l) hp (hi-1+2).toNat 1 (by omega)).2 h ⟨hv,by unfold cy; omega⟩
theorem qP {T:aU} {s:Option (Int × List Int)} (h:sOk T s) (hO:o∈aJ T):sOk T (iS T s o):=by
 have hper:cy (mQ s):=by
  unfold mQ cy
  cases s with
  | none=>simp
  | some x=>have:=h x rfl; simp only; omega
 unfold iS
 cases hm:smM (o.length:Int) (bN T o) 1 (mQ s) with
 | none=>exact h
 | some p=>
  obtain ⟨h1,h2,_⟩:=s7 hper hm
  intro x hx
  injection hx with hx; subst hx
  exact ⟨h1,by unfold cy at hper; simp only; omega,hO⟩
theorem sr {T:aU} {q:List Int}:iS T (some (1,o)) q=some (1,o):=by
 unfold iS
 have hp:cy 0:=by unfold cy; omega
 cases hm:smM (q.length:Int) (bN T q) 1 ((1:Int)-1) with
 | none=>rfl
 | some p=>
  obtain ⟨h1,h2,_⟩:=s7 (hi:=0) hp hm
  omega
theorem uZ {T:aU}:∀l:List (List Int),l.foldl (iS T) (some (1,o))=some (1,o)
 | []=>rfl
 | q :: l=>by rw [Sr,sr,uZ l]
theorem yl {T:aU}:∀(l:List (List Int)) (s:Option (Int × List Int)),(∀o∈l,o∈aJ T)->sOk T s->sOk T (l.foldl (iS T) s)
 | [],_,_,h=>h
 | q :: l,s,hl,h=>yl l _ (fun o ho=>hl o (by simp [ho])) (qP h (hl q (by simp)))
def Af:List (FuncId × aD):=[(15,ck 4 M14),(16,ck 4 M19),(40,aG 4 Cy.M23),(17,Cy.H14)]
@[simp] theorem Om:aH Af 15=some (ck 4 M14):=rfl
@[simp] theorem Ol:aH Af 16=some (ck 4 M19):=rfl
@[simp] theorem Ok:aH Af 40=some (aG 4 Cy.M23):=rfl
@[simp] theorem Oj:aH Af 17=some Cy.H14:=rfl
theorem EA:∀f M,aH Af f=some M->ak Tryz.prog GC f M:=ae (ak.of_pureF lG 4) (ae (ak.of_pureF uz 4) (ae (ak.of_pure Cy.H6 4) (ae Cy.lG aw)))
def zA:AV:=.agg [.int .i64 0,.nilS,.nilS,.nilS]
def bsA (s:Option (Int × List Int)):AV:=match s with | none=>.agg [.int .i64 0,.nilS,.nilS,.nilS] | some x=>.agg [.int .i64 x.1,slA 1 (ax x.2),.nilS,.nilS]
def bsV (T:aU) (s:Option (Int × List Int)):AV:=match s with | none=>.nilS | some x=>gu (bN T x.2)
def R22 (A:ac) (T:aU) (chv:AV) (s:Option (Int × List Int)):ac:=A++[.row 5 false [ay T chv],.row 4 false [zA],.row 4 false [bsA s]]
theorem Qj (A:ac) (T:aU) (chv:AV) (s:Option (Int × List Int)):(R22 A T chv s)[A.length]?=some (.row 5 false [ay T chv]):=by simp [R22]
theorem K6 (A:ac) (T:aU) (chv:AV) (s:Option (Int × List Int)):(R22 A T chv s)[A.length+1]?=some (.row 4 false [zA]):=by simp [R22]
theorem zO (A:ac) (T:aU) (chv:AV) (s:Option (Int × List Int)):(R22 A T chv s)[A.length+2]?=some (.row 4 false [bsA s]):=by simp [R22]
theorem G3 (A:ac) (T:aU) (chv:AV) (s s':Option (Int × List Int)):(R22 A T chv s).set (A.length+2) (.row 4 false [bsA s'])=R22 A T chv s':=by
 unfold R22
 rw [R9 _ _ (by omega),show A.length+2-A.length=2 by omega]
 rfl
def pOf (s:Option (Int × List Int)):Int:=match s with | none=>0 | some x=>x.1
theorem cS (a b:Int):aq .gtr (.int .i64 a) (.int .i64 b)=some (.bool (decide (a > b))):=by simp [aq]
theorem jT (xs:List Int):(slA 1 (ax xs)).solid=true/\cellsOf (slA 1 (ax xs))=[slA 1 (ax xs)]:=by
 cases xs <;> exact ⟨rfl,rfl⟩
theorem EQ {A:ac} {T:aU} (hcv:SlA 2 (T.ch.map chA) chF) (hz:∀X,frz (A++X) 4 (ay T chv)=ay T chF) {s:Option (Int × List Int)} (hs:sOk T s) (hi:i<(aJ T).length) :
  (mQ s<1->∃d6 d7 d8:AV,run (ai GC Af) 300 [.code fP] (nw (.ptr A.length 0 0) (.ptr (A.length+1) 0 0) (.ptr (A.length+2) 0 0) (bsV T s) (lK (aJ T)) (.int .i64 ((aJ T).length:Int)) (.int .i64 (i:Int))) (R22 A T chv s) =
   some (.exit 0 [.undef,.ptr A.length 0 0,.ptr (A.length+1) 0 0,.undef,.ptr (A.length+2) 0 0,bsV T s,d6,d7,d8,.undef,.undef,lK (aJ T),.int .i64 ((aJ T).length:Int),.int .i64 (i:Int),.bool true,.bool true,.bool true,.undef,.undef,.undef] (R22 A T chv s))) /\
  (¬ mQ s<1->run (ai GC Af) 300 [.code fP] (nw (.ptr A.length 0 0) (.ptr (A.length+1) 0 0) (.ptr (A.length+2) 0 0) (bsV T s) (lK (aJ T)) (.int .i64 ((aJ T).length:Int)) (.int .i64 (i:Int))) (R22 A T chv s) =
   some (.normal (nw (.ptr A.length 0 0) (.ptr (A.length+1) 0 0) (.ptr (A.length+2) 0 0) (bsV T (iS T s (aJ T)[i])) (lK (aJ T)) (.int .i64 ((aJ T).length:Int)) (.int .i64 ((i+1:Nat):Int))) (R22 A T chv (iS T s (aJ T)[i])))):=by
 obtain ⟨o,ho⟩:∃o,o=(aJ T)[i]:=⟨_,rfl⟩
 have hO:o∈aJ T:=by rw [ho]; exact RM hi
 obtain ⟨hv,hol,_,_⟩:=cB hO
 have hhi:mQ s<=1000000/\0<=mQ s:=by
  unfold mQ
  cases s with
  | none=>simp
  | some x=>have:=hs x rfl; simp only; omega
 have hb:=bo 1 ((aJ T).map fun l=>slA 1 (ax l))
 rw [show slA 1 ((aJ T).map fun l=>slA 1 (ax l))=lK (aJ T) from rfl] at hb
 obtain ⟨q1,q2⟩:=jT o
 have he:((aJ T).map fun l=>slA 1 (ax l))[i]?=some (slA 1 (ax o)):=by simp [hi,ho]
 have x1:=fun A=>hb.index1 (A:=A) he q1 q2 .i64
 have hos:=bo 1 (ax o)
 have hlo:=hos.len
 rw [aE] at hlo
 have m19:=C5 (T:=T) hcv (by have:=hv.2.2.2.1; omega) hos
 rw [pZ hO] at m19
 have m19:M19 [ay T chF,slA 1 (ax o)]=some (.tup [gu (bN T o),.int .i64 0]):=m19
 have m23:∀hi,Cy.M23 [.int .i64 (o.length:Int),gu (bN T o),.int .i64 1,.int .i64 hi]=some (smT (smM (o.length:Int) (bN T o) 1 hi)):=fun hi=>by
  simp only [Cy.M23,m8 hO,SE]
 have m23:=m23 (mQ s)
 have hbs:iS T s o=match smM (o.length:Int) (bN T o) 1 (mQ s) with | some p=>some (p,o) | none=>s:=rfl
 rw [<-ho,hbs]
 have b0:=bC i (aJ T).length .i64
 rw [RJ hi] at b0
 have b1:=bh i (by have:=iq T; omega)
 have b2:=cS (pOf s) 0
 have b3:aq .sub (.int .i64 (pOf s)) (.int .i64 1)=some (.int .i64 (pOf s-1)):=cf (by
  unfold pOf
  cases s with
  | none=>simp
  | some x=>have:=hs x rfl; simp only; omega)
 have hpp:(pOf s > 0->mQ s=pOf s-1)/\(¬ pOf s > 0->mQ s=1000000):=by
  unfold pOf mQ
  cases s with
  | none=>simp
  | some x=>have:=hs x rfl; simp only; exact ⟨fun _=>trivial,fun h=>by omega⟩
 have b4:=cG (mQ s) 1
 have ft:frz (R22 A T chv s) 4 (ay T chv)=ay T chF:=hz _
 have fo:∀A n,frz A n (slA 1 (ax o))=slA 1 (ax o):=fun A n=>hos.frz n
 have fa:∀A n,frz A n (gu (bN T o))=gu (bN T o):=fun A n=>(bo 4 _).frz n
 have na:bu 4 (gu (bN T o))=true:=(bo 4 _).noRef 4
 have lt:af true 5 (R22 A T chv s) (.ptr A.length 0 0)=some (ay T chv):=by simp [af,Qj,ay]
 have f0:aa 0 (R22 A T chv s) (.ptr (A.length+2) 0 0)=some (.ptr (A.length+2) 0 0):=by simp [aa,zO]
 have l0:af false 1 (R22 A T chv s) (.ptr (A.length+2) 0 0)=some (.int .i64 (pOf s)):=by
  cases s <;> simp [af,zO,bsA,pOf,bT]
 have st:∀p,aC 4 (R22 A T chv s) (.ptr (A.length+2) 0 0) (.agg [.int .i64 p,slA 1 (ax o),.nilS,.nilS])=some (R22 A T chv (some (p,o))):=fun p=>by
  rw [<-G3 A T chv s (some (p,o))]
  simp [zO,aC,bq,bsA]
 have fl:∀p,iQ [.int .i64 0,.nilS,.nilS,.nilS] [(0,(1,.int .i64 p)),(1,(1,slA 1 (ax o)))]=some [.int .i64 p,slA 1 (ax o),.nilS,.nilS]:=fun p=>by
  have c1:cellsOf (AV.int .i64 p)=[.int .i64 p]:=rfl
  have c2:(AV.int .i64 p).solid=true:=rfl
  simp [iQ,q1,q2,c1,c2,-cellsOf,-AV.solid]
 have fl2:∀x,iQ [.int .i64 0,.nilS,.nilS,.nilS] x=iQ [.int .i64 0,.nilS,.nilS,.nilS] x:=fun _=>rfl
 obtain ⟨W,hW⟩:∃W,W=slA 1 (ax o):=⟨_,rfl⟩
 rw [<-hW] at x1 hlo m19 fo st fl
 have hbv:∀p,bsV T (some (p,o))=gu (bN T o):=fun _=>rfl
 obtain ⟨sm,hsm⟩:∃sm,sm=smM (o.length:Int) (bN T o) 1 (mQ s):=⟨_,rfl⟩
 rw [<-hsm] at m23 ⊢
 obtain ⟨V,hV⟩:∃V,V=gu (bN T o):=⟨_,rfl⟩
 rw [<-hV] at m19 m23 fa na
 simp only [<-hV] at hbv
 obtain ⟨tF,htF⟩:∃t,t=ay T chF:=⟨_,rfl⟩
 rw [<-htF] at m19 ft
 obtain ⟨t,ht⟩:∃t,t=ay T chv:=⟨_,rfl⟩
 rw [<-ht] at ft lt
 obtain ⟨h,hh⟩:∃h,h=mQ s:=⟨_,rfl⟩
 rw [<-hh] at m23 b4 hpp ⊢
 obtain ⟨p,hp⟩:∃h,h=pOf s:=⟨_,rfl⟩
 rw [<-hp] at b2 b3 hpp l0
 obtain ⟨i1,hi1⟩:∃n,n=i+1:=⟨_,rfl⟩
 rw [<-hi1] at b1 ⊢
 obtain ⟨Q,hQ⟩:∃Q,Q=lK (aJ T):=⟨_,rfl⟩
 rw [<-hQ] at x1 ⊢
 obtain ⟨A0,hA0⟩:∃X,X=R22 A T chv s:=⟨_,rfl⟩
 rw [<-hA0] at lt f0 l0 st ft ⊢
 obtain ⟨n0,hn0⟩:∃n,n=A.length:=⟨_,rfl⟩
 obtain ⟨n1,hn1⟩:∃n,n=A.length+1:=⟨_,rfl⟩
 obtain ⟨n2,hn2⟩:∃n,n=A.length+2:=⟨_,rfl⟩
 rw [<-hn2] at f0 l0 st
 rw [<-hn0] at lt
 rw [<-hn1,<-hn2,<-hn0]
 obtain ⟨U,hU⟩:∃U,U=bsV T s:=⟨_,rfl⟩
 rw [<-hU]
 refine ⟨fun h1=>⟨W,V,.int .i64 h,?_⟩,fun h1=>?_⟩
 ·have hp0:p > 0:=by
   by_cases hp0:p > 0
   ·exact hp0
   ·have:=hpp.2 hp0; omega
  rw [RJ hp0] at b2
  rw [<-hpp.1 hp0] at b3
  rw [RJ h1] at b4
  simp [fP,x1,lt,ft,fo,m19,f0,l0,b0,b2,b3,b4,-aq,-af,-aa,-au,-frz]
 ·rw [RH h1] at b4
  by_cases hp0:p > 0
  ·rw [RJ hp0] at b2
   rw [<-hpp.1 hp0] at b3
   cases sm with
   | none=>
    simp only [<-hU,<-hA0]
    simp [fP,x1,lt,ft,fo,fa,aP,na,smT,m19,m23,hlo,f0,l0,b0,b1,b2,b3,b4,-aq,-af,-aa,-au,-az,-frz]
   | some r=>simp [fP,x1,lt,ft,fo,fa,aP,na,smT,m19,m23,hlo,f0,l0,b0,b1,b2,b3,b4,st,fl,hbv,-aq,-af,-aC,-aa,-au,-az,-frz,-iQ]
  ·rw [RH hp0] at b2
   obtain rfl:=hpp.2 hp0
   cases sm with
   | none=>
    simp only [<-hU,<-hA0]
    simp [fP,x1,lt,ft,fo,fa,aP,na,smT,m19,m23,hlo,f0,l0,b0,b1,b2,b4,-aq,-af,-aa,-au,-az,-frz]
   | some r=>simp [fP,x1,lt,ft,fo,fa,aP,na,smT,m19,m23,hlo,f0,l0,b0,b1,b2,b4,st,fl,hbv,-aq,-af,-aC,-aa,-au,-az,-frz,-iQ]
end Clu
namespace Clu
open Go
open Cy (GC gW cZ bJ bS cq aP bj aE bc cJ cw cy dR okA smM smT lvM lvT fX fC iT cC nE)
theorem Jd {T:aU} (hcv:SlA 2 (T.ch.map chA) chF) (hz:∀X,frz (A++X) 4 (ay T chv)=ay T chF):∀(c i:Nat) (s:Option (Int × List Int)) (m:Nat),i+c=(aJ T).length->sOk T s->c<m ->
  ∃d6 d7 d8 d13 d14 d15 d16:AV,cc (evC (ai GC Af) 300 fP) ki m (nw (.ptr A.length 0 0) (.ptr (A.length+1) 0 0) (.ptr (A.length+2) 0 0) (bsV T s) (lK (aJ T)) (.int .i64 ((aJ T).length:Int)) (.int .i64 (i:Int))) (R22 A T chv s) =
   some (.exit 0 [.undef,.ptr A.length 0 0,.ptr (A.length+1) 0 0,.undef,.ptr (A.length+2) 0 0,bsV T (((aJ T).drop i).foldl (iS T) s),d6,d7,d8,.undef,.undef,lK (aJ T),.int .i64 ((aJ T).length:Int),d13,d14,d15,d16,.undef,.undef,.undef] (R22 A T chv (((aJ T).drop i).foldl (iS T) s))):=by
 intro c
 induction c with
 | zero=>
  intro i s m hi hs hm
  obtain ⟨m,rfl⟩:∃j,m=j+1:=⟨m-1,by omega⟩
  obtain rfl:i=(aJ T).length:=by omega
  rw [TP]
  refine ⟨.undef,.undef,.undef,.int .i64 ((aJ T).length:Int),.bool false,.undef,.undef,?_⟩
  have b0:=bC (aJ T).length (aJ T).length .i64
  rw [RH (by omega)] at b0
  rw [aO,vn]
  simp [fP,b0,-aq]
 | succ c ih=>
  intro i s m hi hs hm
  obtain ⟨m,rfl⟩:∃j,m=j+1:=⟨m-1,by omega⟩
  have hil:i<(aJ T).length:=by omega
  obtain ⟨r1,r2⟩:=EQ hcv hz hs hil
  rw [SM hil,Sr]
  by_cases h1:mQ s<1
  ·obtain ⟨d6,d7,d8,hr⟩:=r1 h1
   have hone:∃o,s=some (1,o):=by
    cases s with
    | none=>unfold mQ at h1; simp at h1
    | some x=>
     have:=hs x rfl
     unfold mQ at h1
     simp only at h1
     obtain ⟨p,o⟩:=x
     exact ⟨o,by simp only at this h1; rw [show p=1 by omega]⟩
   obtain ⟨o,rfl⟩:=hone
   rw [sr,uZ]
   refine ⟨d6,d7,d8,.int .i64 (i:Int),.bool true,.bool true,.bool true,?_⟩
   rw [aO,vn,hr]
  ·have hr:=r2 h1
   obtain ⟨d6,d7,d8,d13,d14,d15,d16,h2⟩:=ih (i+1) _ m (by omega) (qP hs (RM hil)) (by omega)
   refine ⟨d6,d7,d8,d13,d14,d15,d16,?_⟩
   rw [aO,vn,hr]
   exact h2
theorem GX (T:aU):sOk T (tX T):=yl _ _ (fun _ h=>h) (fun x h=>by cases h)
def E22 (A:ac) (T:aU) (chv:AV) (r:Option bQ):ac:=A++[.row 5 false [ay T chv],.row 4 false [match r with | none=>zA | some s=>oK s],.row 4 false [match r with | none=>zA | some s=>oK s]]
def H22:aD:=fun _=>bp (ai GC Af) 300 Iq
theorem Dx:ak Tryz.prog GC 14 H22:=(aM (ag EA) rfl at22 Kz aW.nil).y
theorem LC (h:aR) {A:ac} {T:aU} (hcv:SlA 2 (T.ch.map chA) chF) (hz:∀X,frz (A++X) 4 (ay T chv)=ay T chF) (hl:T.ch.length<=200):H22 h [ay T chv] A=some (qR (eP T),E22 A T chv (eP T)):=by
 have m14:=vE hcv hl
 have hlen:az (lK (aJ T))=some (.int .i64 ((aJ T).length:Int)):=by
  have:=(bo 1 ((aJ T).map fun l=>slA 1 (ax l))).len
  rwa [RR] at this
 obtain ⟨d6,d7,d8,d13,d14,d15,d16,lp⟩:=Jd hcv hz (aJ T).length 0 none 300 (by omega) (fun x h=>by cases h) (by have:=iq T; omega)
 rw [R2,show (aJ T).foldl (iS T) none=tX T from rfl] at lp
 have hok:=GX T
 obtain ⟨A0,hA0⟩:∃X,X=A++[.row 5 false [ay T chv],.row 4 false [zA],.row 4 false [zA]]:=⟨_,rfl⟩
 rw [show R22 A T chv none=A0 from hA0.symm,show bsV T none=.nilS from rfl,show ((0:Nat):Int)=0 from rfl] at lp
 have lt:af true 5 A0 (.ptr A.length 0 0)=some (ay T chv):=by rw [hA0]; simp [af,ay]
 have ft:frz A0 4 (ay T chv)=ay T chF:=by rw [hA0]; exact hz _
 have bx0:aY 5 (ay T chv) A=some (.ptr A.length 0 0,A++[.row 5 false [ay T chv]]):=rfl
 have ct:(cellsOf (ay T chv)).length=5:=rfl
 have bx1:aY 4 (.agg [.int .i64 0,.nilS,.nilS,.nilS]) (A++[.row 5 false [ay T chv]])=some (.ptr (A.length+1) 0 0,A++[.row 5 false [ay T chv],.row 4 false [zA]]):=by simp [aY,zA]
 have bx2:aY 4 (.agg [.int .i64 0,.nilS,.nilS,.nilS]) (A++[.row 5 false [ay T chv],.row 4 false [zA]])=some (.ptr (A.length+2) 0 0,A0):=by rw [hA0]; simp [aY,zA]
 have hbm:eP T=(tX T).map (oO T):=rfl
 rw [hbm]
 obtain ⟨s,hs⟩:∃s,s=tX T:=⟨_,rfl⟩
 rw [<-hs] at lp hok ⊢
 obtain ⟨X1,hX1⟩:∃X,X=A++[Ent.row 5 false [ay T chv]]:=⟨_,rfl⟩
 obtain ⟨X2,hX2⟩:∃X,X=A++[Ent.row 5 false [ay T chv],.row 4 false [zA]]:=⟨_,rfl⟩
 rw [<-hX1] at bx0 bx1
 rw [<-hX2] at bx1 bx2
 obtain ⟨t,ht⟩:∃t,t=ay T chv:=⟨_,rfl⟩
 obtain ⟨tF,htF⟩:∃t,t=ay T chF:=⟨_,rfl⟩
 obtain ⟨Q,hQ⟩:∃Q,Q=lK (aJ T):=⟨_,rfl⟩
 obtain ⟨L,hL⟩:∃Q,Q=((aJ T).length:Int):=⟨_,rfl⟩
 have f0:aa 0 (R22 A T chv s) (.ptr (A.length+2) 0 0)=some (.ptr (A.length+2) 0 0):=by simp [aa,zO]
 have l0:af false 1 (R22 A T chv s) (.ptr (A.length+2) 0 0)=some (.int .i64 (pOf s)):=by cases s <;> simp [af,zO,bsA,pOf,bT]
 rw [<-htF] at m14 ft
 rw [<-ht] at lt bx0 ct ft ⊢
 rw [<-hQ] at m14 hlen lp
 rw [<-hL] at hlen lp
 unfold H22
 rw [aX _ _ rfl]
 cases s with
 | none=>
  have b1:=bE 0 0
  rw [RJ rfl] at b1
  have e1:E22 A T chv none=R22 A T chv none:=rfl
  have st:aC 4 (R22 A T chv none) (.ptr (A.length+1) 0 0) (.agg [.int .i64 0,.nilS,.nilS,.nilS])=some (R22 A T chv none):=by
   have:(R22 A T chv none).set (A.length+1) (.row 4 false [zA])=R22 A T chv none:=by
    unfold R22
    rw [R9 _ _ (by omega),show A.length+1-A.length=1 by omega]
    rfl
   conv=>rhs; rw [<-this]
   simp [aC,K6,bq,zA]
  have l4:af true 4 (R22 A T chv none) (.ptr (A.length+1) 0 0)=some (.agg [.int .i64 0,.nilS,.nilS,.nilS]):=by simp [af,K6,zA]
  rw [show (Option.map (oO T) none)=none from rfl,e1]
  rw [show qR none=.tup [.agg [.int .i64 0,.nilS,.nilS,.nilS],.int .i64 130] from rfl]
  obtain ⟨A1,hA1⟩:∃X,X=R22 A T chv none:=⟨_,rfl⟩
  rw [<-hA1] at lp f0 l0 st l4 ⊢
  have l0:af false 1 A1 (.ptr (A.length+2) 0 0)=some (.int .i64 0):=l0
  obtain ⟨n0,hn0⟩:∃n,n=A.length:=⟨_,rfl⟩
  obtain ⟨n1,hn1⟩:∃n,n=A.length+1:=⟨_,rfl⟩
  obtain ⟨n2,hn2⟩:∃n,n=A.length+2:=⟨_,rfl⟩
  rw [<-hn2] at lp f0 l0 bx2
  rw [<-hn1] at lp st l4 bx1
  rw [<-hn0] at lp lt bx0
  simp [Iq,bx0,bx1,bx2,ct,lt,m14,ft,hlen,yd lp,f0,l0,b1,st,l4,-aY,-af,-aC,-aa,-az,-frz,-cellsOf,-aq]
 | some x=>
  obtain ⟨p,o⟩:=x
  obtain ⟨hp1,hp2,hO⟩:=hok _ rfl
  simp only at hp1 hp2 hO
  have hos:=bo 1 (ax o)
  have hlo:=hos.len
  rw [aE] at hlo
  obtain ⟨q1,q2⟩:=jT o
  have hv:=m8 hO
  have h14:=fun A=>Cy.De (fun _ _ _=>none) (A:=A) (show frz A 4 (gu (bN T o))=gu (bN T o) from (bo 4 ((bN T o).map cJ)).frz 4) hv (o.length:Int)
  obtain ⟨st,hst⟩:∃st,st=(lvM (o.length:Int) (bN T o) p).1:=⟨_,rfl⟩
  have hl1:lvT (lvM (o.length:Int) (bN T o) p)=.tup [slA 1 (ax st),slA 1 (ax (lvM (o.length:Int) (bN T o) p).2.1),.bool (lvM (o.length:Int) (bN T o) p).2.2]:=by rw [hst]; rfl
  obtain ⟨s1,s2⟩:=jT st
  obtain ⟨RA,hRA⟩:∃R:List Int->List Int->ac,∀a b,R a b=A++[.row 5 false [ay T chv],.row 4 false [zA],.row 4 false [.agg [.int .i64 p,slA 1 (ax o),slA 1 (ax a),slA 1 (ax b)]]]:=⟨_,fun _ _=>rfl⟩
  have hR0:R22 A T chv (some (p,o))=RA [] []:=by rw [hRA]; rfl
  rw [hR0] at lp f0 l0
  have l0:af false 1 (RA [] []) (.ptr (A.length+2) 0 0)=some (.int .i64 p):=l0
  have ra1:∀a b,(RA a b)[A.length+1]?=some (.row 4 false [zA]):=fun a b=>by rw [hRA]; simp
  have ra2:∀a b,(RA a b)[A.length+2]?=some (.row 4 false [.agg [.int .i64 p,slA 1 (ax o),slA 1 (ax a),slA 1 (ax b)]]):=fun a b=>by rw [hRA]; simp
  have fa:∀j a b,j<4->aa j (RA a b) (.ptr (A.length+2) 0 0)=some (.ptr (A.length+2) 0 j):=fun j a b hj=>by simp [aa,ra2,hj]
  have la0:∀a b,af false 1 (RA a b) (.ptr (A.length+2) 0 0)=some (.int .i64 p):=fun a b=>by simp [af,ra2,bT]
  have la1:∀a b,af false 1 (RA a b) (.ptr (A.length+2) 0 1)=some (slA 1 (ax o)):=fun a b=>by simp [af,ra2,bT]
  have lall:∀a b,af true 4 (RA a b) (.ptr (A.length+2) 0 0)=some (.agg [.int .i64 p,slA 1 (ax o),slA 1 (ax a),slA 1 (ax b)]):=fun a b=>by simp [af,ra2]
  have rset:∀a b a' b',(RA a b).set (A.length+2) (.row 4 false [.agg [.int .i64 p,slA 1 (ax o),slA 1 (ax a'),slA 1 (ax b')]])=RA a' b':=fun a b a' b'=>by
   rw [hRA,hRA,R9 _ _ (by omega),show A.length+2-A.length=2 by omega]
   rfl
  have st2:∀a,aC 1 (RA [] []) (.ptr (A.length+2) 0 2) (slA 1 (ax a))=some (RA a []):=fun a=>by
   obtain ⟨z1,z2⟩:=jT a
   rw [<-rset [] [] a []]
   simp [aC,ra2,bq,z1,z2,-cellsOf,-AV.solid]
  have st3:∀a b,aC 1 (RA a []) (.ptr (A.length+2) 0 3) (slA 1 (ax b))=some (RA a b):=fun a b=>by
   obtain ⟨z1,z2⟩:=jT b
   rw [<-rset a [] a b]
   simp [aC,ra2,bq,z1,z2,-cellsOf,-AV.solid]
  obtain ⟨RB,hRB⟩:∃R:List Int->List Int->ac,∀a b,R a b=E22 A T chv (some ⟨p,o,a,b⟩):=⟨_,fun _ _=>rfl⟩
  have stB:∀a b,aC 4 (RA a b) (.ptr (A.length+1) 0 0) (.agg [.int .i64 p,slA 1 (ax o),slA 1 (ax a),slA 1 (ax b)])=some (RB a b):=fun a b=>by
   have:(RA a b).set (A.length+1) (.row 4 false [.agg [.int .i64 p,slA 1 (ax o),slA 1 (ax a),slA 1 (ax b)]])=RB a b:=by
    rw [hRA,hRB,R9 _ _ (by omega),show A.length+1-A.length=1 by omega]
    rfl
   rw [<-this]
   simp [aC,ra1,bq,zA]
  have lB:∀a b,af true 4 (RB a b) (.ptr (A.length+1) 0 0)=some (.agg [.int .i64 p,slA 1 (ax o),slA 1 (ax a),slA 1 (ax b)]):=fun a b=>by
   have:(RB a b)[A.length+1]?=some (.row 4 false [.agg [.int .i64 p,slA 1 (ax o),slA 1 (ax a),slA 1 (ax b)]]):=by rw [hRB]; simp [E22,oK]
   simp [af,this]
  have b1:=bE p 0
  rw [RH (by omega)] at b1
  have b2:=cS p 1
  have b3:aq .sub (.int .i64 p) (.int .i64 1)=some (.int .i64 (p-1)):=cf (by omega)
  have hsb:∀pr,oO T (p,o)=⟨p,o,st,pr⟩↔pr=(if p > 1 then (lvM (o.length:Int) (bN T o) (p-1)).2.1 else []):=fun pr=>by
   unfold oO
   simp only [<-hst]
   constructor
   ·intro h; injection h with _ _ _ h; exact h.symm
   ·intro h; rw [h]
  have lp:cc (evC (ai GC Af) 300 fP) ki 300 (nw (.ptr A.length 0 0) (.ptr (A.length+1) 0 0) (.ptr (A.length+2) 0 0) .nilS Q (.int .i64 L) (.int .i64 0)) A0 =
    some (.exit 0 [.undef,.ptr A.length 0 0,.ptr (A.length+1) 0 0,.undef,.ptr (A.length+2) 0 0,gu (bN T o),d6,d7,d8,.undef,.undef,Q,.int .i64 L,d13,d14,d15,d16,.undef,.undef,.undef] (RA [] [])):=lp
  have h1:=h14 (RA [] []) p
  rw [hl1] at h1
  have h2:=h14 (RA st []) (p-1)
  obtain ⟨pr,hpr⟩:∃pr,pr=(lvM (o.length:Int) (bN T o) (p-1)).2.1:=⟨_,rfl⟩
  rw [show lvT (lvM (o.length:Int) (bN T o) (p-1))=.tup [slA 1 (ax (lvM (o.length:Int) (bN T o) (p-1)).1),slA 1 (ax pr),.bool (lvM (o.length:Int) (bN T o) (p-1)).2.2] by rw [hpr]; rfl] at h2
  have k5:=st2 st
  have k7:=la0 st []
  have k8:=la1 st []
  have k9:=la1 [] []
  have f1:=fun j=>fa j [] []
  have f2:=fun j=>fa j st []
  obtain ⟨n0,hn0⟩:∃n,n=A.length:=⟨_,rfl⟩
  obtain ⟨n1,hn1⟩:∃n,n=A.length+1:=⟨_,rfl⟩
  obtain ⟨n2,hn2⟩:∃n,n=A.length+2:=⟨_,rfl⟩
  rw [<-hn2] at lp f0 l0 bx2 k5 k7 k8 k9
  simp only [<-hn2] at f1 f2
  rw [<-hn1] at lp bx1
  rw [<-hn0] at lp lt bx0
  obtain ⟨W,hW⟩:∃W,W=slA 1 (ax o):=⟨_,rfl⟩
  obtain ⟨V,hV⟩:∃V,V=gu (bN T o):=⟨_,rfl⟩
  rw [<-hV] at lp h1 h2
  obtain ⟨B0,hB0⟩:∃A,A=RA [] []:=⟨_,rfl⟩
  rw [<-hB0] at lp f0 l0 k5 k9 h1
  simp only [<-hB0] at f1
  obtain ⟨S1,hS1⟩:∃W,W=slA 1 (ax st):=⟨_,rfl⟩
  by_cases hp:p > 1
  ·rw [RJ hp] at b2
   have hsc:(Option.map (oO T) (some (p,o)))=some ⟨p,o,st,pr⟩:=by
    rw [SE,(hsb pr).2 (by rw [RL hp]; exact hpr)]
   rw [hsc,<-hRB]
   rw [show qR (some ⟨p,o,st,pr⟩)=.tup [.agg [.int .i64 p,slA 1 (ax o),slA 1 (ax st),slA 1 (ax pr)],.int .i64 0] from rfl]
   have k1:=lall st pr
   have k2:=stB st pr
   have k3:=lB st pr
   have k6:=st3 st pr
   rw [<-hn2] at k1 k6
   rw [<-hn1] at k2 k3
   obtain ⟨B1,hB1⟩:∃A,A=RA st []:=⟨_,rfl⟩
   rw [<-hB1] at k5 k6 k7 k8 h2
   simp only [<-hB1] at f2
   obtain ⟨B2,hB2⟩:∃A,A=RA st pr:=⟨_,rfl⟩
   rw [<-hB2] at k1 k2 k6
   obtain ⟨B3,hB3⟩:∃A,A=RB st pr:=⟨_,rfl⟩
   rw [<-hB3] at k2 k3 ⊢
   obtain ⟨S2,hS2⟩:∃W,W=slA 1 (ax pr):=⟨_,rfl⟩
   rw [<-hW] at k1 k2 k3 k8 k9 hlo ⊢
   rw [<-hS1] at h1 k1 k2 k3 k5 ⊢
   rw [<-hS2] at h2 k1 k2 k3 k6 ⊢
   obtain ⟨p1,hp1⟩:∃q,q=p-1:=⟨_,rfl⟩
   rw [<-hp1] at h2 b3
   simp [Iq,bx0,bx1,bx2,ct,lt,m14,ft,hlen,yd lp,f0,f1,f2,l0,b1,b2,b3,hlo,h1,h2,k1,k2,k3,k5,k6,k7,k8,k9,-aY,-af,-aC,-aa,-az,-frz,-cellsOf,-aq]
  ·rw [RH hp] at b2
   have hsc:(Option.map (oO T) (some (p,o)))=some ⟨p,o,st,[]⟩:=by
    rw [SE,(hsb []).2 (by rw [RN hp])]
   rw [hsc,<-hRB]
   rw [show qR (some ⟨p,o,st,[]⟩)=.tup [.agg [.int .i64 p,slA 1 (ax o),slA 1 (ax st),slA 1 (ax [])],.int .i64 0] from rfl]
   have k1:=lall st []
   have k2:=stB st []
   have k3:=lB st []
   rw [<-hn2] at k1
   rw [<-hn1] at k2 k3
   obtain ⟨B1,hB1⟩:∃A,A=RA st []:=⟨_,rfl⟩
   rw [<-hB1] at k1 k2 k5 k7
   simp only [<-hB1] at f2
   obtain ⟨B3,hB3⟩:∃A,A=RB st []:=⟨_,rfl⟩
   rw [<-hB3] at k2 k3 ⊢
   obtain ⟨S2,hS2⟩:∃W,W=slA 1 (ax []):=⟨_,rfl⟩
   rw [<-hW] at k1 k2 k3 k9 hlo ⊢
   rw [<-hS1] at h1 k1 k2 k3 k5 ⊢
   rw [<-hS2] at k1 k2 k3 ⊢
   simp [Iq,bx0,bx1,bx2,ct,lt,m14,ft,hlen,yd lp,f0,f1,f2,l0,b1,b2,hlo,h1,k1,k2,k3,k5,k7,k9,-aY,-af,-aC,-aa,-az,-frz,-cellsOf,-aq]
end Clu
namespace Clu
open Go
open Cy (GC gW cZ bJ bS cq aP bj aE bc cJ cw cy dR okA smM smT lvM lvT fX fC iT cC nE)
structure nb (s:bQ) (ov sv pv:AV):Prop where
 o:SlA 1 (ax s.order) ov
 st:SlA 1 (ax s.starts) sv
 pr:SlA 1 (ax s.proof) pv
 per:inI s.period
 ol:s.order.length<=9223372036854775807
 stl:s.starts.length<=9223372036854775807
 sti:∀z∈s.starts,inI z
 prl:s.proof.length<=9223372036854775807
 pri:∀z∈s.proof,inI z
def Chk (T:aU) (s:bQ):Prop:=s.order∈aJ T/\(1<=s.period/\s.period<=1000000)/\fC (s.order.length:Int) (bN T s.order) s.period s.starts /\
 (if s.period=1 then s.proof=[] else iT (s.order.length:Int) (bN T s.order) (s.period-1) s.proof)
def qy:List (FuncId × aD):=[(16,ck 4 M19),(20,aG 4 Cy.M19),(18,aG 4 Cy.M21)]
@[simp] theorem N4:aH qy 16=some (ck 4 M19):=rfl
@[simp] theorem N2:aH qy 20=some (aG 4 Cy.M19):=rfl
@[simp] theorem NY:aH qy 18=some (aG 4 Cy.M21):=rfl
theorem s4:∀f M,aH qy f=some M->ak Tryz.prog GC f M:=ae (ak.of_pureF uz 4) (ae (ak.of_pure Cy.uz 4) (ae (ak.of_pure Cy.H7 4) aw))
def M26:aI:=fun args=>evP (ai GC qy) 0 rz 4 args
theorem H4:an Tryz.prog GC 56 M26:=an.of_ev (E:=ai GC qy) (ag s4) rfl KS sh 4 fun _ _ h=>⟨0,h⟩
open Classical in
theorem vD {T:aU} (hcv:SlA 2 (T.ch.map chA) chv) (hl:T.ch.length<=200) {s:bQ} {sv pv:AV} (hs:nb s ov sv pv) :
  M26 [ay T chv,.agg [.int .i64 s.period,ov,sv,pv]]=some (.bool (decide (Chk T s))):=by
 have m19:=C5 hcv hl hs.o
 have ft:=fun A=>bg (T:=T) (fun A n=>hcv.frz (A:=A) n) A 3
 have fo:∀A n,frz A n ov=ov:=fun A n=>hs.o.frz n
 have fs:∀A n,frz A n sv=sv:=fun A n=>hs.st.frz n
 have fp:∀A n,frz A n pv=pv:=fun A n=>hs.pr.frz n
 have hlo:=hs.o.len
 rw [aE] at hlo
 have hlp:=hs.pr.len
 rw [aE] at hlp
 have iv1:lW sv=some s.starts:=rJ hs.st hs.stl hs.sti
 have iv2:lW pv=some s.proof:=rJ hs.pr hs.prl hs.pri
 obtain ⟨p,o,st,pr⟩:=s
 simp only at m19 hlo hlp iv1 iv2
 have hper:=hs.per
 simp only [inI] at hper
 have q1:ov.solid=true/\cellsOf ov=[ov]:=by rcases hs.o with ⟨rfl,_⟩ | rfl <;> exact ⟨rfl,rfl⟩
 have q2:sv.solid=true/\cellsOf sv=[sv]:=by rcases hs.st with ⟨rfl,_⟩ | rfl <;> exact ⟨rfl,rfl⟩
 have q3:pv.solid=true/\cellsOf pv=[pv]:=by rcases hs.pr with ⟨rfl,_⟩ | rfl <;> exact ⟨rfl,rfl⟩
 have bx0:aY 5 (ay T chv) []=some (.ptr 0 0 0,[.row 5 false [ay T chv]]):=rfl
 have bx1:∀t,aY 4 (.agg [.int .i64 p,ov,sv,pv]) [.row 5 false [t]]=some (.ptr 1 0 0,[.row 5 false [t],.row 4 false [.agg [.int .i64 p,ov,sv,pv]]]):=fun t=>rfl
 have ct:(cellsOf (ay T chv)).length=5:=rfl
 have ca:(cellsOf (.agg [.int .i64 p,ov,sv,pv])).length=4:=rfl
 obtain ⟨A0,hA0⟩:∃A:ac,A=[.row 5 false [ay T chv],.row 4 false [.agg [.int .i64 p,ov,sv,pv]]]:=⟨_,rfl⟩
 have lt:af true 5 A0 (.ptr 0 0 0)=some (ay T chv):=by rw [hA0]; rfl
 have fa:∀j,j<4->aa j A0 (.ptr 1 0 0)=some (.ptr 1 0 j):=fun j hj=>by rw [hA0]; simp [aa,hj]
 have l0:af false 1 A0 (.ptr 1 0 0)=some (.int .i64 p):=by rw [hA0]; rfl
 have l1:af false 1 A0 (.ptr 1 0 1)=some ov:=by rw [hA0]; rfl
 have l2:af false 1 A0 (.ptr 1 0 2)=some sv:=by rw [hA0]; rfl
 have l3:af false 1 A0 (.ptr 1 0 3)=some pv:=by rw [hA0]; rfl
 obtain ⟨t,ht⟩:∃t,t=ay T chv:=⟨_,rfl⟩
 rw [<-ht] at m19 ft bx0 ct lt hA0 ⊢
 have bx1:=bx1 t
 rw [<-hA0] at bx1
 unfold M26
 rw [aT _ _ rfl]
 by_cases hO:o∈aJ T
 rotate_left
 ·rw [RH (fun h=>hO h.1)]
  have e0:BE T o=none:=RN hO
  rw [e0] at m19
  have m19:M19 [t,ov]=some (.tup [.nilS,.int .i64 130]):=m19
  have b1:=cE 130 0
  rw [RJ (by omega)] at b1
  simp [rz,bx0,bx1,ct,ca,lt,m19,ft,fo,hlo,fa,l1,b1,-aY,-af,-aa,-az,-frz,-cellsOf,-aq,bj]
 rw [pZ hO] at m19
 have m19:M19 [t,ov]=some (.tup [gu (bN T o),.int .i64 0]):=m19
 have b1:=cE 0 0
 rw [RH (by omega)] at b1
 have b2:=cG p 1
 by_cases hp1:p<1
 ·rw [RH (fun h=>by have:=h.2.1.1; simp only at this; omega)]
  rw [RJ hp1] at b2
  simp [rz,bx0,bx1,ct,ca,lt,m19,ft,fo,hlo,fa,l0,l1,b1,b2,-aY,-af,-aa,-az,-frz,-cellsOf,-aq,bj]
 rw [RH hp1] at b2
 have b3:=cS p 1000000
 by_cases hp2:p > 1000000
 ·rw [RH (fun h=>by have:=h.2.1.2; simp only at this; omega)]
  rw [RJ hp2] at b3
  simp [rz,bx0,bx1,ct,ca,lt,m19,ft,fo,hlo,fa,l0,l1,b1,b2,b3,-aY,-af,-aa,-az,-frz,-cellsOf,-aq,bj]
 rw [RH hp2] at b3
 have mv:Cy.M19 [.int .i64 (o.length:Int),gu (bN T o),.int .i64 p,sv]=some (.bool (decide (fC (o.length:Int) (bN T o) p st))):=by
  simp only [Cy.M19,m8 hO,iv1]
 have mr:∀p,Cy.M21 [.int .i64 (o.length:Int),gu (bN T o),.int .i64 p,pv]=some (.bool (decide (iT (o.length:Int) (bN T o) p pr))):=fun p=>by
  simp only [Cy.M21,m8 hO,iv2]
 have fa':∀A n,frz A n (gu (bN T o))=gu (bN T o):=fun A n=>(bo 4 _).frz n
 obtain ⟨V,hV⟩:∃V,V=gu (bN T o):=⟨_,rfl⟩
 rw [<-hV] at m19 mv fa'
 by_cases hver:fC (o.length:Int) (bN T o) p st
 rotate_left
 ·rw [RH hver] at mv
  rw [RH (fun h=>hver h.2.2.1)]
  simp [rz,bx0,bx1,ct,ca,lt,m19,ft,fo,fs,fa',aP,mv,hlo,fa,l0,l1,l2,b1,b2,b3,-aY,-af,-aa,-az,-frz,-cellsOf,-aq,bj]
 rw [RJ hver] at mv
 have b4:=bE p 1
 by_cases hp:p=1
 ·rw [RJ hp] at b4
  have b5:aq .eql (.int .i64 (pr.length:Int)) (.int .i64 0)=some (.bool (decide (pr=[]))):=by
   rw [bE]
   congr 2
   exact TQ.2 ⟨fun h=>Si.1 (by omega),fun h=>by rw [h]; rfl⟩
  have hc:Chk T ⟨p,o,st,pr⟩↔pr=[]:=by
   constructor
   ·intro h
    have:=h.2.2.2
    simp only at this
    rwa [RL hp] at this
   ·intro h
    refine ⟨hO,⟨by simp only; omega,by simp only; omega⟩,hver,?_⟩
    simp only
    rw [RL hp]; exact h
  rw [TQ.2 hc]
  obtain ⟨d,hd⟩:∃d,d=decide (pr=[]):=⟨_,rfl⟩
  rw [<-hd] at b5 ⊢
  simp [rz,bx0,bx1,ct,ca,lt,m19,ft,fo,fs,fa',aP,mv,hlo,hlp,fa,l0,l1,l2,l3,b1,b2,b3,b4,b5,bj,-aY,-af,-aa,-az,-frz,-cellsOf,-aq]
 ·rw [RH hp] at b4
  have b6:aq .sub (.int .i64 p) (.int .i64 1)=some (.int .i64 (p-1)):=cf (by omega)
  have hc:Chk T ⟨p,o,st,pr⟩↔iT (o.length:Int) (bN T o) (p-1) pr:=by
   constructor
   ·intro h
    have:=h.2.2.2
    simp only at this
    rwa [RN hp] at this
   ·intro h
    refine ⟨hO,⟨by simp only; omega,by simp only; omega⟩,hver,?_⟩
    simp only
    rw [RN hp]; exact h
  rw [TQ.2 hc]
  have mr:=mr (p-1)
  rw [<-hV] at mr
  obtain ⟨d,hd⟩:∃d,d=decide (iT (o.length:Int) (bN T o) (p-1) pr):=⟨_,rfl⟩
  rw [<-hd] at mr ⊢
  obtain ⟨p1,hp1'⟩:∃q,q=p-1:=⟨_,rfl⟩
  rw [<-hp1'] at mr b6
  simp [rz,bx0,bx1,ct,ca,lt,m19,ft,fo,fs,fp,fa',aP,mv,mr,hlo,fa,l0,l1,l2,l3,b1,b2,b3,b4,b6,bj,-aY,-af,-aa,-az,-frz,-cellsOf,-aq]
end Clu
end Go.Proofs.YtfkcoekicjjndaaGreat
