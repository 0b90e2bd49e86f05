import Derived.Test.YtfkcoekicjjndaaGreatUB04
import Derived.Test.YtfkcoekicjjndaaGreatChecked
import Derived.KernelRfl
set_option maxRecDepth 100000
set_option maxHeartbeats 4000000
noncomputable section
namespace Go.Proofs.YtfkcoekicjjndaaGreat
namespace Cy
open Go
def WL (L:List cR) (u v j:Nat) (z:Int):Prop:=∃r,isW L u r v/\r.length=j/\iB r=z
def eX (P:Int->Prop) (y:LP):Prop:=(y=noL/\∀z,¬ P z)\/(y.2=true/\P y.1/\∀z,P z->z<=y.1)
theorem eX.congr {P Q:Int->Prop} {y:LP} (h:eX P y) (hpq:∀z,P z↔Q z):eX Q y:=by
 rcases h with ⟨h1,h2⟩ | ⟨h1,h2,h3⟩
 ·exact .inl ⟨h1,fun z hz=>h2 z ((hpq z).2 hz)⟩
 ·exact .inr ⟨h1,(hpq _).1 h2,fun z hz=>h3 z ((hpq z).2 hz)⟩
theorem wo {P Q:Int->Prop} {x y:LP} (h1:eX P x) (h2:eX Q y):eX (fun z=>P z\/Q z) (i9 x y):=by
 obtain ⟨x1,x2⟩:=x
 obtain ⟨y1,y2⟩:=y
 rcases h1 with ⟨e1,a1⟩ | ⟨e1,a1,b1⟩
 ·have:i9 (x1,x2) (y1,y2)=(y1,y2):=if_pos (.inl (by rw [e1]; rfl))
  rw [this]
  exact h2.congr fun z=>⟨.inr,fun h=>h.elim (fun h=>absurd h (a1 z)) id⟩
 ·simp only at e1 a1 b1
  rcases h2 with ⟨e2,a2⟩ | ⟨e2,a2,b2⟩
  ·have:i9 (x1,x2) (y1,y2)=(x1,x2):=if_neg (by
    rw [e2,e1]
    rintro (h | ⟨h,_⟩) <;> cases h)
   rw [this]
   exact .inr ⟨e1,.inl a1,fun z h=>h.elim (b1 z) fun h=>absurd h (a2 z)⟩
  ·simp only at e2 a2 b2
   by_cases h:y1 > x1
   ·have:i9 (x1,x2) (y1,y2)=(y1,y2):=if_pos (.inr ⟨e2,h⟩)
    rw [this]
    exact .inr ⟨e2,.inr a2,fun z hz=>hz.elim (fun hz=>by have:=b1 z hz; simp only; omega) (b2 z)⟩
   ·have:i9 (x1,x2) (y1,y2)=(x1,x2):=if_neg (by
     rw [e1]
     rintro (h' | ⟨_,h'⟩)
     ·cases h'
     ·exact h h')
    rw [this]
    exact .inr ⟨e1,.inl a1,fun z hz=>hz.elim (b1 z) fun hz=>by have:=b2 z hz; simp only; omega⟩
theorem wm {P:Int->Prop} {x:LP} (h:eX P x) (w:Int):eX (fun z=>∃z',P z'/\z=w+z') (ed x w):=by
 rcases h with ⟨e,a⟩ | ⟨e,a,b⟩
 ·rw [e]
  exact .inl ⟨rfl,fun z ⟨z',h,_⟩=>a z' h⟩
 ·have:ed x w=(x.1+w,x.2):=if_neg (by rw [e]; rintro ⟨h,_⟩; cases h)
  rw [this]
  refine .inr ⟨e,⟨_,a,by simp only; omega⟩,?_⟩
  rintro z ⟨z',h,rfl⟩
  have:=b z' h
  simp only; omega
theorem wn:eX (fun _=>False) noL:=.inl ⟨rfl,fun _ h=>h⟩
theorem o8 {L:List cR} {u v:Nat} {z:Int}:WL L u v 0 z↔u=v/\z=0:=by
 constructor
 ·rintro ⟨r,h1,h2,h3⟩
  have:r=[]:=List.length_eq_zero_iff.1 h2
  subst this
  exact ⟨h1,h3.symm⟩
 ·rintro ⟨rfl,rfl⟩
  exact ⟨[],rfl,rfl,rfl⟩
theorem wB {L:List cR} {u v j:Nat} {z:Int}:WL L u v (j+1) z↔∃a∈L,a.1=u/\∃z',WL L a.2.1 v j z'/\z=a.2.2+z':=by
 constructor
 ·rintro ⟨r,h1,h2,h3⟩
  cases r with
  | nil=>simp at h2
  | cons a r=>
   obtain ⟨k1,k2,k3⟩:=h1
   exact ⟨a,k1,k2,iB r,⟨r,k3,by simpa using h2,rfl⟩,h3.symm⟩
 ·rintro ⟨a,h1,h2,z',⟨r,k1,k2,rfl⟩,rfl⟩
  exact ⟨a :: r,⟨h1,h2,k1⟩,by simp [k2],rfl⟩
theorem uC (n v:Nat):(List.replicate n noL).getD v noL=noL:=by
 rw [List.getD_eq_getElem?_getD]
 by_cases h:v<n <;> simp [h]
theorem sg {L0:List cR} {n to j:Nat} (hok:qw n L0) {h:List LP} (hh:∀u,u<n->eX (WL L0 u to j) (h.getD u noL)):∀(L:List cR),(∀a∈L,a∈L0)->∀(next:List LP) (D:Nat->Int->Prop),next.length=n->(∀u,u<n->eX (D u) (next.getD u noL)) ->
  ∀u,u<n->eX (fun z=>D u z\/∃a∈L,a.1=u/\∃z',WL L0 a.2.1 to j z'/\z=a.2.2+z') ((L.foldl (hst h) next).getD u noL)
 | [],_,next,D,hn,hD,u,hu=>(hD u hu).congr fun z=>⟨.inl,fun h=>h.elim id fun ⟨a,h,_⟩=>by cases h⟩
 | a :: L,hL,next,D,hn,hD,u,hu=>by
  obtain ⟨o1,o2,_⟩:=hok a (hL a (by simp))
  have:=sg hok hh L (fun b hb=>hL b (by simp [hb])) (hst h next a) (fun u z=>D u z\/(a.1=u/\∃z',WL L0 a.2.1 to j z'/\z=a.2.2+z')) (by rw [rc,hn]) (fun v hv=>by
   unfold hst
   rw [jm _ _ _ _ _ (by omega)]
   by_cases hav:a.1=v
   ·rw [if_pos hav]
    subst hav
    exact (wo (hD _ o1) (wm (hh _ o2) a.2.2)).congr fun z=>by simp
   ·rw [if_neg hav]
    exact (hD v hv).congr fun z=>⟨.inl,fun h=>h.elim id fun h=>absurd h.1 hav⟩) u hu
  rw [List.foldl_cons]
  refine this.congr fun z=>?_
  constructor
  ·rintro ((h | ⟨h1,h2⟩) | ⟨b,h1,h2⟩)
   ·exact .inl h
   ·exact .inr ⟨a,by simp,h1,h2⟩
   ·exact .inr ⟨b,by simp [h1],h2⟩
  ·rintro (h | ⟨b,h1,h2⟩)
   ·exact .inl (.inl h)
   ·rcases List.mem_cons.1 h1 with rfl | h1
    ·exact .inl (.inr h2)
    ·exact .inr ⟨b,h1,h2⟩
theorem vd {L:List cR} {n to:Nat} (hok:qw n L) (hto:to<n):∀(j u:Nat),u<n->eX (WL L u to j) ((hm L n to j).getD u noL)
 | 0,u,hu=>by
  unfold hm
  rw [jm _ _ _ _ _ (by simpa using hto)]
  by_cases h:to=u
  ·rw [if_pos h]
   exact .inr ⟨rfl,o8.2 ⟨h.symm,rfl⟩,fun z hz=>by have:=(o8.1 hz).2; simp only; omega⟩
  ·rw [if_neg h,uC]
   exact .inl ⟨rfl,fun z hz=>h (o8.1 hz).1.symm⟩
 | j+1,u,hu=>by
  have:=sg hok (vd hok hto j) L (fun _ h=>h) (List.replicate n noL) (fun _ _=>False) (by simp) (fun u _=>by rw [uC]; exact wn) u hu
  refine this.congr fun z=>?_
  rw [wB]
  exact ⟨fun h=>h.elim False.elim id,.inr⟩
def pN (l:List a6):Int->List ec->Int->Prop
 | u,[],v=>u=v
 | u,x :: r,v=>x∈num l/\x.1.f=u/\pN l x.1.t r v
def il (p:Int) (xs:List ec):Int:=(xs.map fun x=>x.1.len p).sum
def jF (xs:List ec):Int:=(xs.map fun x=>x.1.k).sum
def Im (xs:List ec):Int:=(xs.map fun x=>x.1.w).sum
theorem uV (p:Int):∀xs:List ec,il p xs=Im xs-p*jF xs
 | []=>by simp [il,Im,jF]
 | x :: r=>by
  have:=uV p r
  simp only [il,Im,jF,List.map_cons,List.sum_cons,a6.len] at this ⊢
  rw [this,Int.mul_add]; omega
def yO (p:Int) (x:ec):cR:=(x.1.f.toNat,x.1.t.toNat,x.1.len p)
theorem BL {p:Int} {l:List a6} {x:ec} (h:x∈num l):yO p x∈lar p l:=by
 obtain ⟨hi,he⟩:=jJ h
 exact List.mem_map.2 ⟨x.1,by rw [<-he]; exact List.getElem_mem hi,rfl⟩
theorem uX {p:Int} {l:List a6} {a:cR} (h:a∈lar p l):∃x∈num l,yO p x=a:=by
 obtain ⟨c,hc,rfl⟩:=List.mem_map.1 h
 obtain ⟨i,hi,rfl⟩:=List.mem_iff_getElem.1 hc
 exact ⟨(l[i],i),List.mem_of_getElem? (eB l i hi),rfl⟩
theorem pC {n:Int} {l:List a6} (hv:∀x∈l,okA n x) {x:ec} (h:x∈num l):okA n x.1:=by
 obtain ⟨hi,he⟩:=jJ h
 rw [<-he]; exact hv _ (List.getElem_mem hi)
theorem LE {n p:Int} {l:List a6} (hv:∀x∈l,okA n x):∀ {xs:List ec} {u v:Int},pN l u xs v->isW (lar p l) u.toNat (xs.map (yO p)) v.toNat/\iB (xs.map (yO p))=il p xs
 | [],u,v,h=>⟨by rw [show u=v from h]; rfl,rfl⟩
 | x :: r,u,v,⟨h1,h2,h3⟩=>by
  obtain ⟨k1,k2⟩:=LE hv h3
  refine ⟨⟨BL h1,by rw [<-h2]; rfl,k1⟩,?_⟩
  simp only [List.map_cons,iB,k2,il,List.sum_cons]
  rfl
section
variable {n to:Nat} {p:Int} {l:List a6} (hv:∀x∈l,okA n x) (hn32:n<=32) (hp:bZ p) (hto:to<n)
include hv hn32 hp hto
theorem lx {j:Nat} {sum:Int} {x:ec} (hx:x∈num l):jP (hm (lar p l) n to j) p sum x=true↔∃z,WL (lar p l) x.1.t.toNat to j z/\sum+x.1.len p+z > 0:=by
 have hok:=pC hv hx
 have ht:=hok.2.1
 have hb:=vd (se hn32 hp hv) hto j x.1.t.toNat (by omega)
 unfold jP
 obtain ⟨y,hy⟩:∃y,y=(hm (lar p l) n to j).getD x.1.t.toNat noL:=⟨_,rfl⟩
 rw [<-hy] at hb ⊢
 rcases hb with ⟨e,a⟩ | ⟨e,a,b⟩
 ·rw [e]
  constructor
  ·intro h
   have:ed noL (sum+x.1.len p)=noL:=rfl
   rw [this] at h
   simp [noL] at h
  ·rintro ⟨z,hz,_⟩
   exact absurd hz (a z)
 ·have:ed y (sum+x.1.len p)=(y.1+(sum+x.1.len p),y.2):=if_neg (by rw [e]; rintro ⟨h,_⟩; cases h)
  rw [this,e]
  simp only [Bool.true_and,decide_eq_true_eq]
  constructor
  ·intro h
   exact ⟨y.1,a,by omega⟩
  ·rintro ⟨z,hz,h⟩
   have:=b z hz
   omega
theorem tR:∀(r:Nat) (v sum:Int) (out:List Int),0<=v->(∃z,WL (lar p l) v.toNat to r z/\sum+z > 0) ->
  ∃xs:List ec,nb p l (hm (lar p l) n to) r sum (kK l v.toNat) out=some (out++xs.map fun x=>(x.2:Int))/\pN l v xs (to:Int)/\xs.length=r/\sum+il p xs > 0
 | 0,v,sum,out,hv0,⟨z,h1,h2⟩=>by
  obtain ⟨h3,rfl⟩:=o8.1 h1
  exact ⟨[],by simp [nb],by show v=(to:Int); omega,rfl,by simpa [il] using h2⟩
 | r+1,v,sum,out,hv0,⟨z,h1,h2⟩=>by
  obtain ⟨a,ha,haf,z',hz',rfl⟩:=wB.1 h1
  obtain ⟨x,hx,rfl⟩:=uX ha
  have hokx:=pC hv hx
  have hxf:x.1.f=v:=by
   have:=hokx.1
   simp only [yO] at haf; omega
  have hxo:x∈kK l v.toNat:=List.mem_filter.2 ⟨hx,by simp; omega⟩
  have hg:jP (hm (lar p l) n to r) p sum x=true:=(lx hv hn32 hp hto hx).2 ⟨z',hz',by simp only [yO] at h2; omega⟩
  cases hf:(kK l v.toNat).find? (jP (hm (lar p l) n to r) p sum) with
  | none=>
   rw [List.find?_eq_none] at hf
   exact absurd hg (hf x hxo)
  | some b=>
   have hbg:=List.find?_some hf
   have hbo:=List.mem_of_find?_eq_some hf
   have hbn:=(List.mem_filter.1 hbo).1
   have hbf:=(List.mem_filter.1 hbo).2
   simp only [decide_eq_true_eq] at hbf
   have hokb:=pC hv hbn
   obtain ⟨y,hy1,hy2⟩:=(lx hv hn32 hp hto hbn).1 hbg
   obtain ⟨xs,k1,k2,k3,k4⟩:=tR r b.1.t (sum+b.1.len p) (out++[(b.2:Int)]) hokb.2.1.1 ⟨y,hy1,hy2⟩
   refine ⟨b :: xs,?_,⟨hbn,by omega,k2⟩,by simp [k3],?_⟩
   ·simp only [nb,hf,k1]
    simp
   ·simp only [il,List.map_cons,List.sum_cons] at k4 ⊢
    omega
end
section
variable {n:Nat} {p:Int} {l:List a6} (hv:∀x∈l,okA n x) (hn32:n<=32) (hp:bZ p)
include hv hn32 hp
theorem qC {k:Nat} {x:ec} (hx:x∈num l):(wk p l n (k+1) x=none/\¬ ∃z,WL (lar p l) x.1.t.toNat x.1.f.toNat k z/\x.1.len p+z > 0) \/
  ∃xs:List ec,wk p l n (k+1) x=some (xs.map fun y=>(y.2:Int))/\pN l x.1.f xs x.1.f/\xs.length=k+1/\il p xs > 0:=by
 have hok:=pC hv hx
 have hto:x.1.f.toNat<n:=by have:=hok.1; omega
 unfold wk nb
 by_cases hg:jP (hm (lar p l) n x.1.f.toNat k) p 0 x=true
 ·right
  obtain ⟨z,hz1,hz2⟩:=(lx hv hn32 hp hto hx).1 hg
  obtain ⟨xs,k1,k2,k3,k4⟩:=tR hv hn32 hp hto k x.1.t (0+x.1.len p) ([]++[(x.2:Int)]) hok.2.1.1 ⟨z,hz1,by omega⟩
  refine ⟨x :: xs,?_,⟨hx,rfl,?_⟩,by simp [k3],?_⟩
  ·simp only [List.find?_cons,hg,k1]
   simp
  ·have:((x.1.f.toNat:Nat):Int)=x.1.f:=by have:=hok.1; omega
   rw [this] at k2; exact k2
  ·simp only [il,List.map_cons,List.sum_cons] at k4 ⊢
   omega
 ·left
  refine ⟨?_,fun ⟨z,h1,h2⟩=>hg ((lx hv hn32 hp hto hx).2 ⟨z,h1,by omega⟩)⟩
  rw [Bool.not_eq_true] at hg
  simp [hg]
theorem mH {k:Nat}:dW p l n (k+1)=none↔∀u c,isW (lar p l) u c u->c.length=k+1->iB c<=0:=by
 unfold dW
 rw [List.findSome?_eq_none_iff]
 constructor
 ·intro h u c hc hl
  cases c with
  | nil=>simp at hl
  | cons a r=>
   obtain ⟨h1,h2,h3⟩:=hc
   obtain ⟨x,hx,rfl⟩:=uX h1
   rcases qC hv hn32 hp (k:=k) hx with ⟨_,h5⟩ | ⟨xs,h4,_⟩
   ·rcases Int.lt_or_le 0 (iB (yO p x :: r)) with h6 | h6
    ·refine absurd ⟨iB r,⟨r,?_,by simpa using hl,rfl⟩,?_⟩ h5
     ·have e:x.1.f.toNat=u:=h2
      rw [e]; exact h3
     ·simp only [iB,yO] at h6; omega
    ·exact h6
   ·rw [h x hx] at h4; cases h4
 ·intro h x hx
  rcases qC hv hn32 hp (k:=k) hx with ⟨h4,_⟩ | ⟨xs,h4,h5,h6,h7⟩
  ·exact h4
  ·obtain ⟨k1,k2⟩:=LE (p:=p) hv h5
   have:=h _ _ k1 (by simp [h6])
   omega
theorem rj {k:Nat} {res:List Int} (h:dW p l n (k+1)=some res):∃(u:Int) (xs:List ec),res=xs.map (fun y=>(y.2:Int))/\pN l u xs u/\xs.length=k+1/\il p xs > 0:=by
 unfold dW at h
 obtain ⟨x,hx,hw⟩:=List.exists_of_findSome?_eq_some h
 rcases qC hv hn32 hp (k:=k) hx with ⟨h4,_⟩ | ⟨xs,h4,h5,h6,h7⟩
 ·rw [h4] at hw; cases hw
 ·rw [h4] at hw
  injection hw with hw
  exact ⟨_,xs,hw.symm,h5,h6,h7⟩
theorem sC:oX p l n=none↔wI (lar p l) n:=by
 unfold oX
 rw [List.findSome?_eq_none_iff]
 constructor
 ·intro h u c hc h1 h2
  have:=(mH hv hn32 hp (k:=c.length-1)).1 (h (c.length-1) (by simp; omega)) u c hc (by omega)
  exact this
 ·intro h j hj
  rw [List.mem_range] at hj
  exact (mH hv hn32 hp).2 fun u c hc hl=>h u c hc (by omega) (by omega)
theorem sB {res:List Int} (h:oX p l n=some res):∃(u:Int) (xs:List ec),res=xs.map (fun y=>(y.2:Int))/\pN l u xs u/\1<=xs.length/\xs.length<=n/\il p xs > 0:=by
 unfold oX at h
 obtain ⟨j,hj,hw⟩:=List.exists_of_findSome?_eq_some h
 rw [List.mem_range] at hj
 obtain ⟨u,xs,h1,h2,h3,h4⟩:=rj hv hn32 hp hw
 exact ⟨u,xs,h1,h2,by omega,by omega,h4⟩
end
open Go
def Pos (l:List a6) (p:Int):Prop:=∃(u:Int) (xs:List ec),pN l u xs u/\0<il p xs
theorem lE {l:List a6} {x:ec} (h:x∈num l):rt l (x.2:Int)=x.1/\0<=(x.2:Int)/\(x.2:Int)<=(l.length:Int)-1:=by
 obtain ⟨hi,he⟩:=jJ h
 refine ⟨?_,by omega,by omega⟩
 unfold rt
 rw [Int.toNat_natCast,List.getD_eq_getElem?_getD,List.getElem?_eq_getElem hi]
 exact he
theorem zg {p:Int} {l:List a6}:∀ {xs:List ec} {u v s t:Int},pN l u xs v->exL p l (xs.map fun y=>(y.2:Int)) u s t=some (s+il p xs,t+jF xs)
 | [],u,v,s,t,_=>by simp [exL,il,jF]
 | x :: r,u,v,s,t,⟨h1,h2,h3⟩=>by
  obtain ⟨e,_⟩:=lE h1
  simp only [List.map_cons,exL,e,if_pos h2]
  rw [zg h3]
  simp only [il,jF,List.map_cons,List.sum_cons]
  congr 2 <;> omega
theorem mA {l:List a6}:∀ {xs:List ec} {u v:Int} (h:xs≠[]),pN l u xs v->(xs.getLast h).1.t=v/\xs.getLast h∈num l
 | [x],u,v,_,⟨h1,h2,h3⟩=>⟨h3,h1⟩
 | x :: y :: r,u,v,_,⟨h1,h2,h3⟩=>by
  rw [List.getLast_cons (by simp)]
  exact mA (by simp) h3
theorem vD {p:Int} {l:List a6} {u:Int} {xs:List ec} (h:pN l u xs u) (h1:1<=xs.length) (h2:xs.length<=200):exM p l (xs.map fun y=>(y.2:Int))=some (il p xs,jF xs):=by
 have hne:xs≠[]:=fun e=>by rw [e] at h1; simp at h1
 have hall:∀x∈xs,x∈num l:=by
  have:∀ {ys:List ec} {a b:Int},pN l a ys b->∀x∈ys,x∈num l:=by
   intro ys
   induction ys with
   | nil=>intro _ _ _ x hx; cases hx
   | cons y r ih=>
    rintro a b ⟨k1,_,k3⟩ x hx
    rcases List.mem_cons.1 hx with rfl | hx
    ·exact k1
    ·exact ih k3 x hx
  exact this h
 unfold exM
 rw [if_pos ⟨by simpa using ⟨h1,h2⟩,fun x hx=>by
  obtain ⟨y,hy,rfl⟩:=List.mem_map.1 hx
  exact (lE (hall y hy)).2⟩]
 obtain ⟨e1,e2⟩:=mA hne h
 have:(xs.map fun y=>(y.2:Int)).getLastD 0=((xs.getLast hne).2:Int):=by
  rw [List.getLastD_eq_getLast?,List.getLast?_map,List.getLast?_eq_some_getLast hne]; rfl
 rw [this,(lE e2).1,e1,zg h]
 simp
theorem su {p:Int} {l:List a6}:∀ {ys:List Int} {u s t:Int} {r:Int × Int},ra l ys->exL p l ys u s t=some r->∃(v:Int) (xs:List ec),ys=xs.map (fun y=>(y.2:Int))/\pN l u xs v/\r=(s+il p xs,t+jF xs)
 | [],u,s,t,r,_,h=>by
  simp only [exL,Option.some.injEq] at h
  exact ⟨u,[],rfl,rfl,by rw [<-h]; simp [il,jF]⟩
 | i :: ys,u,s,t,r,hi,h=>by
  have hi0:=hi i (by simp)
  obtain ⟨j,hj,rfl,he⟩:=o7 hi0
  simp only [exL] at h
  split at h
  ·rename_i hf
   obtain ⟨v,xs,k1,k2,k3⟩:=su (fun x hx=>hi x (by simp [hx])) h
   rw [he] at hf k2 k3
   refine ⟨v,(l[j],j) :: xs,by simp [k1],⟨List.mem_of_getElem? (eB l j hj),hf,k2⟩,?_⟩
   rw [k3]
   simp only [il,jF,List.map_cons,List.sum_cons]
   congr 1 <;> omega
  ·cases h
theorem ya {p:Int} {l:List a6} {ys:List Int} {s t:Int} (h:exM p l ys=some (s,t)):∃(u:Int) (xs:List ec),ys=xs.map (fun y=>(y.2:Int))/\pN l u xs u/\1<=xs.length/\xs.length<=200/\s=il p xs/\t=jF xs:=by
 unfold exM at h
 simp only [Option.ite_none_right_eq_some] at h
 obtain ⟨⟨h1,h2⟩,h3⟩:=h
 obtain ⟨v,xs,rfl,k2,k3⟩:=su h2 h3
 simp only [List.length_map] at h1
 have hne:xs≠[]:=fun e=>by rw [e] at h1; simp at h1
 obtain ⟨e1,e2⟩:=mA hne k2
 have:(xs.map fun y=>(y.2:Int)).getLastD 0=((xs.getLast hne).2:Int):=by
  rw [List.getLastD_eq_getLast?,List.getLast?_map,List.getLast?_eq_some_getLast hne]; rfl
 rw [this,(lE e2).1,e1] at k2
 simp only [Prod.mk.injEq,Int.zero_add] at k3
 exact ⟨v,xs,rfl,k2,h1.1,h1.2,k3.1,k3.2⟩
theorem pM {n p:Int} {l:List a6} (hv:∀x∈l,okA n x) {s:List Int} (h:jZ (lar p l) s):¬ Pos l p:=by
 rintro ⟨u,xs,h1,h2⟩
 obtain ⟨k1,k2⟩:=LE (p:=p) hv h1
 have:=ji h k1
 omega
theorem gK {n:Nat} {p:Int} {l:List a6} (hv:∀x∈l,okA n x):∀a∈lar p l,a.1<n/\a.2.1<n:=fun a ha=>by
 obtain ⟨x,hx,rfl⟩:=List.mem_map.1 ha
 obtain ⟨q1,q2,_⟩:=hv x hx
 simp only; omega
section
variable {n:Nat} {p:Int} {l:List a6} (hr:cf n l p)
include hr
theorem mw:(bX (lar p l) n).2=true↔¬ Pos l p:=by
 have hv:=hr.1.2.2
 have hn:=hr.1.1
 constructor
 ·intro h
  exact pM hv ((kw (gK hv)).2.2.2.1 h)
 ·intro h
  rw [mu (gK hv),<-sC hv (by omega) hr.2]
  cases hc:oX p l n with
  | none=>rfl
  | some res=>
   obtain ⟨u,xs,_,k2,_,_,k5⟩:=sB hv (by omega) hr.2 hc
   exact absurd ⟨u,xs,k2,k5⟩ h
theorem vI (h:¬ (bX (lar p l) n).2=true):∃(res:List Int) (u:Int) (xs:List ec),oX p l n=some res/\res=xs.map (fun y=>(y.2:Int))/\pN l u xs u/\1<=xs.length/\xs.length<=32/\0<il p xs/\exM p l res=some (il p xs,jF xs):=by
 have hv:=hr.1.2.2
 have hn:=hr.1.1
 rw [mu (gK hv),<-sC hv (by omega) hr.2] at h
 cases hc:oX p l n with
 | none=>exact absurd hc h
 | some res=>
  obtain ⟨u,xs,k1,k2,k3,k4,k5⟩:=sB hv (by omega) hr.2 hc
  exact ⟨res,u,xs,rfl,k1,k2,k3,by omega,k5,by rw [k1]; exact vD k2 k3 (by omega)⟩
end
theorem uW {n p:Int} {l:List a6} (hn:n<=32) (hp:bZ p) (hv:∀x∈l,okA n x):∀ {xs:List ec} {u v:Int},pN l u xs v->(-(3000000*(xs.length:Int))<=il p xs/\il p xs<=3000000*xs.length)/\(-(2*(xs.length:Int))<=jF xs/\jF xs<=2*xs.length)
 | [],_,_,_=>by simp [il,jF]
 | x :: r,u,v,⟨h1,h2,h3⟩=>by
  have h4:=uW hn hp hv h3
  obtain ⟨q1,q2,q3,q4⟩:=pC hv h1
  have hle:=gg (n:=32) (a:=x.1) ⟨by omega,by omega,q3,q4⟩ hp
  simp only [il,jF,List.map_cons,List.sum_cons,List.length_cons] at h4 ⊢
  omega
def smL (n:Nat) (l:List a6) (hi:Int):Nat->Int->Option Int
 | 0,_=>none
 | m+1,p=>open Classical in if p<=hi/\cf n l p then
   (if (bX (lar p l) n).2=true then some p
    else if ((exM p l ((oX p l n).getD [])).getD (0,0)).2<=0 then none
    else smL n l hi m (p+(((exM p l ((oX p l n).getD [])).getD (0,0)).1+((exM p l ((oX p l n).getD [])).getD (0,0)).2-1).tdiv ((exM p l ((oX p l n).getD [])).getD (0,0)).2))
  else none
def smM (n:Int) (l:List a6) (lo hi:Int):Option Int:=if bZ hi then smL n.toNat l hi (hi-lo+2).toNat lo else none
theorem rH {s t:Int} (hs:0<s) (ht:0<t):1<=(s+t-1).tdiv t/\(s+t-1).tdiv t<=s/\((s+t-1).tdiv t-1)*t<s/\s<=(s+t-1).tdiv t*t:=by
 rw [Int.tdiv_eq_ediv_of_nonneg (by omega)]
 have h1:=Int.ediv_mul_add_emod (s+t-1) t
 have h2:=Int.emod_nonneg (s+t-1) (show t≠0 by omega)
 have h3:=Int.emod_lt_of_pos (s+t-1) ht
 obtain ⟨d,hd⟩:∃d,d=(s+t-1) / t:=⟨_,rfl⟩
 rw [<-hd] at h1 ⊢
 have h4:1<=d:=by
  rcases Int.lt_or_le d 1 with h | h
  ·have:d*t<=0:=Int.mul_nonpos_of_nonpos_of_nonneg (by omega) (by omega)
   omega
  ·exact h
 have h5:(d-1)*t=d*t-t:=by rw [Int.sub_mul]; omega
 refine ⟨h4,?_,by omega,by omega⟩
 rcases Int.lt_or_le s d with h | h
 ·have:s*t<=(d-1)*t:=Int.mul_le_mul_of_nonneg_right (by omega) (by omega)
  have h6:s*1<=s*t:=Int.mul_le_mul_of_nonneg_left (by omega) (by omega)
  omega
 ·exact h
theorem pB {l:List a6} {p q:Int} {u:Int} {xs:List ec} (h:pN l u xs u) (hq:0<il p xs-(q-p)*jF xs):Pos l q:=by
 refine ⟨u,xs,h,?_⟩
 rw [uV] at hq ⊢
 have:(q-p)*jF xs=q*jF xs-p*jF xs:=by rw [Int.sub_mul]
 omega
theorem ow {n:Nat} {l:List a6} {hi:Int} (hhi:bZ hi):∀(m:Nat) (p:Int),hi-p+1<m ->
  (∀r,smL n l hi m p=some r->p<=r/\r<=hi/\cf n l r/\¬ Pos l r/\∀q,p<=q->q<r->Pos l q)/\(smL n l hi m p=none->cf n l p->∀q,p<=q->q<=hi->Pos l q)
 | 0,p,hm=>⟨fun r h=>(by cases h),fun _ _ q h1 h2=>by omega⟩
 | m+1,p,hm=>by
  unfold smL
  by_cases hp:p<=hi/\cf n l p
  rotate_left
  ·rw [if_neg hp]
   exact ⟨fun r h=>(by cases h),fun _ h q h1 h2=>absurd ⟨by omega,h⟩ hp⟩
  rw [if_pos hp]
  by_cases hl:(bX (lar p l) n).2=true
  ·rw [if_pos hl]
   refine ⟨fun r h=>?_,fun h=>by cases h⟩
   injection h with h; subst h
   exact ⟨Int.le_refl _,hp.1,hp.2,(mw hp.2).1 hl,fun q h1 h2=>by omega⟩
  rw [if_neg hl]
  obtain ⟨res,u,xs,k1,k2,k3,k4,k5,k6,k7⟩:=vI hp.2 hl
  rw [k1,Option.getD_some,k7,Option.getD_some]
  simp only
  by_cases ht:jF xs<=0
  ·rw [if_pos ht]
   refine ⟨fun r h=>(by cases h),fun _ _ q h1 h2=>pB k3 (p:=p) ?_⟩
   have:(q-p)*jF xs<=0:=Int.mul_nonpos_of_nonneg_of_nonpos (by omega) ht
   omega
  rw [if_neg ht]
  obtain ⟨d1,d2,d3,d4⟩:=rH k6 (show 0<jF xs by omega)
  obtain ⟨d,hd⟩:∃d,d=(il p xs+jF xs-1).tdiv (jF xs):=⟨_,rfl⟩
  rw [<-hd] at d1 d2 d3 d4 ⊢
  have hbelow:∀q,p<=q->q<p+d->Pos l q:=fun q h1 h2=>pB k3 (p:=p) (by
   have:(q-p)*jF xs<=(d-1)*jF xs:=Int.mul_le_mul_of_nonneg_right (by omega) (by omega)
   omega)
  obtain ⟨i1,i2⟩:=ow hhi m (p+d) (by omega)
  constructor
  ·intro r h
   obtain ⟨j1,j2,j3,j4,j5⟩:=i1 r h
   refine ⟨by omega,j2,j3,j4,fun q h1 h2=>?_⟩
   by_cases hq:q<p+d
   ·exact hbelow q h1 hq
   ·exact j5 q (by omega) h2
  ·intro h _ q h1 h2
   by_cases hq:q<p+d
   ·exact hbelow q h1 hq
   ·have hR:cf n l (p+d):=⟨hp.2.1,by
     have:=hp.2.2
     unfold bZ at *
     omega⟩
    exact i2 h hR q (by omega) h2
open Go
def eE (n:Int) (l:List a6) (p:Int) (c:List Int):Prop:=cf n l p/\∃s t,exM p l c=some (s,t)/\0<s
open Classical in
def M21:aG:=fun args=>match args with
 | [.int .i64 n,a,.int .i64 p,b]=>match bJ a,ev b with
  | some l,some s=>some (.bool (decide (eE n l p s)))
  | _,_=>none
 | _=>none
def H2:List (FuncId × aD):=[(51,bS 4 M25),(54,aF 4 M40)]
@[simp] theorem JS:aI H2 51=some (bS 4 M25):=rfl
@[simp] theorem JR:aI H2 54=some (aF 4 M40):=rfl
theorem Bc:∀f M,aI H2 f=some M->an Tryz.prog GC f M:=ae (an.of_pureF ot 4) (ae (an.of_pure rM 4) aw)
open Classical in
theorem yC:ak Tryz.prog GC 18 M21:=by
 refine ak.of_ev (E:=ai GC H2) (aj Bc) rfl Mt zj 1 ?_
 intro args r h
 unfold M21 at h
 split at h
 rotate_left
 ·cases h
 rename_i n a p b
 split at h
 rotate_left
 ·cases h
 rename_i l s hl hs
 injection h with h; subst h
 refine ⟨0,?_⟩
 obtain ⟨hb,_,hsl⟩:=iE hs
 have f1:∀A n,frz A n a=a:=fun A n=>dS hl A n
 have f2:∀A n,frz A n b=b:=fun A n=>hb.frz n
 have f4:=kz hs
 have m1:M25 [.int .i64 n,a,.int .i64 p]=some (if cf n l p then .tup [cB n.toNat p l,.bool true] else .tup [.nilP,.bool false]):=by simp only [M25,hl,Option.map_some]
 rw [aS _ _ rfl]
 by_cases hr:cf n l p
 rotate_left
 ·rw [if_neg hr] at m1
  rw [decide_eq_false (show ¬ eE n l p s from fun h=>hr h.1)]
  simp [DC,f1,m1,aT,bi,-frz]
 rw [if_pos hr] at m1
 obtain ⟨m,rfl⟩:∃m:Nat,n=(m:Int):=⟨n.toNat,by have:=hr.1.1; omega⟩
 rw [Int.toNat_natCast] at m1
 have m40:=sN hr hb hsl
 obtain ⟨W1,O,hW⟩:∃W1 O,cB m p l=.fp [.int .i64 (m:Int),W1,O]:=⟨_,_,rfl⟩
 rw [hW] at m1 m40
 have hfw:∀B,frz B 4 (.fp [.int .i64 (m:Int),W1,O])=.fp [.int .i64 (m:Int),W1,O]:=fun _=>rfl
 have hnr:bq 4 (.fp [.int .i64 (m:Int),W1,O])=true:=rfl
 cases he:exM p l s with
 | none=>
  rw [he] at m40
  rw [decide_eq_false (show ¬ eE m l p s from fun h=>by
   obtain ⟨_,x,y,h,_⟩:=h
   rw [he] at h; cases h)]
  simp only [exT,Option.getD_none,Option.isSome_none] at m40
  simp [DC,f1,f2,m1,m40,hfw,f4,aT,bi,-frz]
 | some st=>
  obtain ⟨x,y⟩:=st
  rw [he] at m40
  simp only [exT,Option.getD_some,Option.isSome_some] at m40
  have b1:aq .gtr (.int .i64 x) (.int .i64 0)=some (.bool (decide (x > 0))):=by simp [aq]
  have e:decide (eE m l p s)=decide (x > 0):=by
   rw [Bool.eq_iff_iff,decide_eq_true_eq,decide_eq_true_eq]
   constructor
   ·rintro ⟨_,a',b',h,h2⟩
    rw [he] at h
    injection h with h
    injection h with h h'
    omega
   ·intro h
    exact ⟨hr,x,y,he,h⟩
  rw [e]
  obtain ⟨d,hd⟩:∃d,d=decide (x > 0):=⟨_,rfl⟩
  rw [<-hd] at b1 ⊢
  simp [DC,f1,f2,m1,m40,hfw,f4,b1,aT,bi,-frz,-aq]
def vn:List (FuncId × aD):=[(51,bS 4 M25),(52,bS 4 M26),(53,aF 4 M27),(54,aF 4 M40),(90,aF 4 M41)]
@[simp] theorem JM:aI vn 51=some (bS 4 M25):=rfl
@[simp] theorem JL:aI vn 52=some (bS 4 M26):=rfl
@[simp] theorem JK:aI vn 53=some (aF 4 M27):=rfl
@[simp] theorem JJ:aI vn 54=some (aF 4 M40):=rfl
@[simp] theorem JI:aI vn 90=some (aF 4 M41):=rfl
theorem Ba:∀f M,aI vn f=some M->an Tryz.prog GC f M:=ae (an.of_pureF ot 4) (ae (an.of_pureF oq 4) (ae (an.of_pure rP 4) (ae (an.of_pure rM 4) (ae (an.of_pure nI 4) aw))))
def smT (r:Option Int):AV:=.tup [.int .i64 (r.getD 0),.bool r.isSome]
open Classical in
theorem yF (fuel:Nat) {a:AV} {l:List a6} (ha:bJ a=some l) (n:Int) {hi:Int} (hhi:bZ hi):∀(m:Nat) (p:Int),0<m->hi-p+1<m ->
  match smL n.toNat l hi m p with
  | some q=>∃v7 v8 v9 v10 v11 v12 v13 v14 v15 v16,bM (evC (ai GC vn) fuel eM) gG m (lP (.int .i64 n) a (.int .i64 hi) (.int .i64 p)) []=some (.ret [.int .i64 n,a,.undef,.int .i64 hi,.int .i64 q,.bool true,.int .i64 q,v7,v8,v9,v10,v11,v12,v13,v14,v15,v16] [])
  | none=>∃v6 v7 v8 v9 v10 v11 v12 v13 v14 v15 v16,bM (evC (ai GC vn) fuel eM) gG m (lP (.int .i64 n) a (.int .i64 hi) (.int .i64 p)) []=some (.exit 0 [.int .i64 n,a,.undef,.int .i64 hi,.undef,.undef,v6,v7,v8,v9,v10,v11,v12,v13,v14,v15,v16] [])
 | 0,p,h0,hm=>by omega
 | m+1,p,h0,hm=>by
  have f1:∀A n,frz A n a=a:=fun A n=>dS ha A n
  have m1:M25 [.int .i64 n,a,.int .i64 p]=some (if cf n l p then .tup [cB n.toNat p l,.bool true] else .tup [.nilP,.bool false]):=by simp only [M25,ha,Option.map_some]
  have b1:aq .leq (.int .i64 p) (.int .i64 hi)=some (.bool (decide (p<=hi))):=by simp [aq]
  unfold smL
  rw [aK,wc]
  by_cases hp:p<=hi
  rotate_left
  ·rw [if_neg (fun h=>hp h.1)]
   rw [decide_eq_false hp] at b1
   refine ⟨.int .i64 p,.undef,.undef,.undef,.undef,.undef,.undef,.bool false,.undef,.undef,.undef,?_⟩
   simp [eM,b1,-aq]
  rw [decide_eq_true hp] at b1
  by_cases hr:cf n l p
  rotate_left
  ·rw [if_neg (fun h=>hr (by
    have h2:=h.2
    have h3:=h2.1.1
    have:((n.toNat:Nat):Int)=n:=by omega
    rw [this] at h2; exact h2))]
   rw [if_neg hr] at m1
   refine ⟨.int .i64 p,.nilP,.bool false,.undef,.undef,.undef,.undef,.bool true,.bool true,.undef,.undef,?_⟩
   simp [eM,b1,m1,f1,aT,-frz,-aq]
  rw [if_pos hr] at m1
  obtain ⟨k,rfl⟩:∃k:Nat,n=(k:Int):=⟨n.toNat,by have:=hr.1.1; omega⟩
  rw [Int.toNat_natCast] at m1 ⊢
  rw [if_pos ⟨hp,hr⟩]
  have m2:=sP hr
  have m3:=sO hr
  obtain ⟨W1,O,hW⟩:∃W1 O,cB k p l=.fp [.int .i64 (k:Int),W1,O]:=⟨_,_,rfl⟩
  have hfw:∀B,frz B 4 (.fp [.int .i64 (k:Int),W1,O])=.fp [.int .i64 (k:Int),W1,O]:=fun _=>rfl
  have hnr:bq 4 (.fp [.int .i64 (k:Int),W1,O])=true:=rfl
  by_cases hok:(bX (lar p l) k).2=true
  ·rw [if_pos hok]
   rw [hok] at m2
   rw [hW] at m1 m2
   refine ⟨.fp [.int .i64 (k:Int),W1,O],.bool true,.bool true,.undef,.undef,.undef,.bool true,.bool false,.bool true,.undef,?_⟩
   obtain ⟨S,hS⟩:∃S,S=slA 1 (ax (bX (lar p l) k).1):=⟨_,rfl⟩
   rw [<-hS] at m2
   simp [eM,b1,m1,m2,f1,hfw,aT,-frz,-aq]
  rw [if_neg hok]
  obtain ⟨res,u,xs,k1,k2,k3,k4,k5,k6,k7⟩:=vI hr hok
  have hbd:=uW (n:=(k:Int)) (by have:=hr.1.1; omega) hr.2 hr.1.2.2 k3
  have m4:=sN hr (aR 1 (ax res)) (by rw [k2]; simp; omega)
  rw [k1,Option.getD_some] at m3
  rw [k7] at m4
  rw [k1,Option.getD_some,k7,Option.getD_some]
  simp only [exT,Option.getD_some,Option.isSome_some] at m4
  simp only
  rw [Bool.not_eq_true] at hok
  rw [hok] at m2
  rw [hW] at m1 m2 m3 m4
  obtain ⟨S,hS⟩:∃S,S=slA 1 (ax (bX (lar p l) k).1):=⟨_,rfl⟩
  rw [<-hS] at m2
  have hnc:∀n,bq n (slA 1 (ax res))=true:=fun n=>uK n 1 _
  have hfc:∀A n,frz A n (slA 1 (ax res))=slA 1 (ax res):=fun A n=>rf A n 1 _
  obtain ⟨C,hC⟩:∃C,C=slA 1 (ax res):=⟨_,rfl⟩
  rw [<-hC] at m3 m4 hnc hfc
  obtain ⟨s,hs⟩:∃s,s=il p xs:=⟨_,rfl⟩
  obtain ⟨t,ht⟩:∃t,t=jF xs:=⟨_,rfl⟩
  rw [<-hs,<-ht] at m4 hbd ⊢
  rw [<-hs] at k6
  have b2:aq .leq (.int .i64 t) (.int .i64 0)=some (.bool (decide (t<=0))):=by simp [aq]
  by_cases ht0:t<=0
  ·rw [if_pos ht0]
   rw [decide_eq_true ht0] at b2
   refine ⟨.int .i64 p,.fp [.int .i64 (k:Int),W1,O],.bool true,.bool false,.int .i64 s,.int .i64 t,.undef,.bool true,.bool false,.bool false,.bool true,?_⟩
   simp [eM,b1,b2,m1,m2,m3,m4,f1,hfw,hnc,hfc,aT,-frz,-aq]
  rw [if_neg ht0]
  rw [decide_eq_false ht0] at b2
  obtain ⟨d1,d2,d3,d4⟩:=rH k6 (show 0<t by omega)
  have hper:=hr.2
  unfold bZ at hper hhi
  have b3:aq .add (.int .i64 s) (.int .i64 t)=some (.int .i64 (s+t)):=by
   simp only [aq]; rw [if_pos trivial,dB (by unfold inI; omega)]
  have b4:aq .sub (.int .i64 (s+t)) (.int .i64 1)=some (.int .i64 (s+t-1)):=by
   simp only [aq]; rw [if_pos trivial,dB (by unfold inI; omega)]
  have b5:aq .quo (.int .i64 (s+t-1)) (.int .i64 t)=some (.int .i64 ((s+t-1).tdiv t)):=by
   simp only [aq]; rw [if_pos trivial,if_neg (show ¬ t=0 by omega),dB (by unfold inI; omega)]
  obtain ⟨d,hd⟩:∃d,d=(s+t-1).tdiv t:=⟨_,rfl⟩
  rw [<-hd] at b5 d1 d2 ⊢
  have b6:aq .add (.int .i64 p) (.int .i64 d)=some (.int .i64 (p+d)):=by
   simp only [aq]; rw [if_pos trivial,dB (by unfold inI; omega)]
  have ih:=yF fuel ha (k:Int) hhi m (p+d) (by omega) (by omega)
  rw [Int.toNat_natCast] at ih
  obtain ⟨p2,hp2⟩:∃p2,p2=p+d:=⟨_,rfl⟩
  rw [<-hp2] at b6 ih ⊢
  obtain ⟨st,hst⟩:∃st,st=s+t:=⟨_,rfl⟩
  rw [<-hst] at b3 b4 b5
  obtain ⟨st1,hst1⟩:∃st1,st1=st-1:=⟨_,rfl⟩
  rw [<-hst1] at b4 b5
  have hrun:run (ai GC vn) fuel [.code eM] (lP (.int .i64 (k:Int)) a (.int .i64 hi) (.int .i64 p)) []=some (.normal (lP (.int .i64 (k:Int)) a (.int .i64 hi) (.int .i64 p2)) []):=by
   simp [eM,b1,b2,b3,b4,b5,b6,m1,m2,m3,m4,f1,hfw,hnc,hfc,aT,-frz,-aq]
  rw [hrun]
  exact ih
def M23:aG:=fun args=>match args with
 | [.int .i64 n,a,.int .i64 lo,.int .i64 hi]=>(bJ a).map fun l=>smT (smM n l lo hi)
 | _=>none
theorem Eb:ak Tryz.prog GC 40 M23:=by
 refine ak.of_ev (E:=ai GC vn) (aj Ba) rfl at23 GU 5 ?_
 intro args r h
 unfold M23 at h
 split at h
 rotate_left
 ·cases h
 rename_i n a lo hi
 simp only [Option.map_eq_some_iff] at h
 obtain ⟨l,hl,rfl⟩:=h
 obtain ⟨m,hm⟩:∃m,m=(hi-lo+2).toNat+1:=⟨_,rfl⟩
 have m1:M41 [.int .i64 hi]=some (.bool (decide (bZ hi))):=rfl
 by_cases hp:bZ hi
 rotate_left
 ·refine ⟨0,?_⟩
  rw [decide_eq_false hp] at m1
  rw [show smM n l lo hi=none from if_neg hp]
  rw [aS _ _ rfl]
  simp [EJ,m1,smT]
 rw [decide_eq_true hp] at m1
 rw [show smM n l lo hi=smL n.toNat l hi (hi-lo+2).toNat lo from if_pos hp]
 by_cases hz:(hi-lo+2).toNat=0
 ·
  refine ⟨1,?_⟩
  rw [hz]
  have b1:aq .leq (.int .i64 lo) (.int .i64 hi)=some (.bool false):=by simp [aq]; omega
  have lp:bM (evC (ai GC vn) 1 eM) gG 1 (lP (.int .i64 n) a (.int .i64 hi) (.int .i64 lo)) []=some (.exit 0 [.int .i64 n,a,.undef,.int .i64 hi,.undef,.undef,.int .i64 lo,.undef,.undef,.undef,.undef,.undef,.undef,.bool false,.undef,.undef,.undef] []):=by
   rw [aK,wc]
   simp [eM,b1,-aq]
  rw [aS _ _ rfl]
  simp [EJ,m1,vi lp,smL,smT]
 ·obtain ⟨F,hF⟩:∃F,F=(hi-lo+2).toNat:=⟨_,rfl⟩
  have hl23:=yF F hl n hp F lo (by omega) (by omega)
  refine ⟨F,?_⟩
  rw [<-hF]
  rw [aS _ _ rfl]
  cases hs:smL n.toNat l hi F lo with
  | none=>
   rw [hs] at hl23
   obtain ⟨v6,v7,v8,v9,v10,v11,v12,v13,v14,v15,v16,lp⟩:=hl23
   simp [EJ,m1,vi lp,smT]
  | some q=>
   rw [hs] at hl23
   obtain ⟨v7,v8,v9,v10,v11,v12,v13,v14,v15,v16,lp⟩:=hl23
   simp [EJ,m1,vi lp,smT]
end Cy
namespace Clu
open Go
def wU:bC:=⟨1,7,.seq (.region [⟨some 1,.box (.var 0),none⟩,⟨some 2,.mv (.cst .nilS),none⟩]) (.seq (.seq (.region [⟨none,.load true 5 (.var 1),none⟩,⟨none,.call (.fn 41) [.tmp 0],none⟩,⟨some 6,.un .not (.tmp 1),none⟩]) (.cond (.var 6) (.seq (.region [⟨some 2,.mv (.cst .nilS),none⟩]) .ret) .skip)) (.seq (.region [⟨none,.fieldAddr 0 (.var 1),none⟩,⟨none,.load false 1 (.tmp 0),none⟩,⟨none,.lenSl (.tmp 1),none⟩,⟨some 3,.alloc 1 (.int .i64 0),none⟩,⟨none,.store 1 (.var 3) (.tmp 2),none⟩]) (.seq (.region [⟨some 4,.alloc 1 .nilS,none⟩]) (.seq (.region [⟨some 5,.alloc 1 .nilF,none⟩]) (.seq (.region [⟨none,.makeFunc (.func 42) [] [.var 3,.var 4,.var 1,.var 5],none⟩,⟨none,.store 1 (.var 5) (.tmp 0),none⟩]) (.seq (.region [⟨none,.load false 1 (.var 5),none⟩,⟨none,.buildSlice 1 [.cst (.int .i64 0)],none⟩,⟨none,.call (.tmp 0) [.tmp 1],none⟩]) (.seq (.region [⟨none,.load false 1 (.var 4),none⟩,⟨some 2,.mv (.tmp 0),none⟩]) .ret))))))),[.tmp 2]⟩
theorem vU:aB Tryz.prog Tryz.f15 1 [0,1,2,3,4,5,8] [] false ([],[])=some wU:=by kernel_rfl
theorem KS:Tryz.prog.funcs[15]?=some Tryz.f15:=by kernel_rfl
def sa:bC:=⟨1,6,.seq (.region [⟨some 1,.box (.var 0),none⟩,⟨some 2,.mv (.cst (.bool false)),none⟩]) (.seq (.region [⟨some 3,.alloc 1 .nilF,none⟩,⟨none,.store 1 (.var 3) (.fn 91),none⟩]) (.seq (.region [⟨none,.fieldAddr 0 (.var 1),none⟩,⟨none,.load false 1 (.tmp 0),none⟩,⟨none,.makeFunc (.func 93) [] [.var 3],none⟩,⟨none,.call (.fn 92) [.tmp 1,.tmp 2],none⟩,⟨some 4,.mv (.tmp 3),none⟩]) (.seq (.region [⟨none,.load false 1 (.var 3),none⟩,⟨none,.fieldAddr 1 (.var 1),none⟩,⟨none,.load false 1 (.tmp 1),none⟩,⟨none,.call (.tmp 0) [.tmp 2,.cst (.int .i64 10000)],none⟩,⟨none,.mv (.tmp 3),none⟩,⟨none,.load false 1 (.var 3),some (.tmp 4,true)⟩,⟨none,.fieldAddr 2 (.var 1),some (.tmp 4,true)⟩,⟨none,.load false 1 (.tmp 6),some (.tmp 4,true)⟩,⟨none,.call (.tmp 5) [.tmp 7,.cst (.int .i64 10000)],some (.tmp 4,true)⟩,⟨none,.pick (.tmp 4) (.tmp 8) (.cst (.bool false)),none⟩,⟨none,.mv (.tmp 9),none⟩,⟨none,.load false 1 (.var 3),some (.tmp 10,true)⟩,⟨none,.fieldAddr 3 (.var 1),some (.tmp 10,true)⟩,⟨none,.load false 1 (.tmp 12),some (.tmp 10,true)⟩,⟨none,.call (.tmp 11) [.tmp 13,.cst (.int .i64 10000)],some (.tmp 10,true)⟩,⟨none,.pick (.tmp 10) (.tmp 14) (.cst (.bool false)),none⟩,⟨some 5,.mv (.tmp 15),none⟩]) (.seq (.region [⟨none,.mv (.var 4),none⟩,⟨none,.un .not (.tmp 0),none⟩,⟨none,.mv (.tmp 1),none⟩,⟨none,.mv (.var 5),some (.tmp 2,true)⟩,⟨none,.pick (.tmp 2) (.tmp 3) (.cst (.bool false)),none⟩,⟨none,.mv (.tmp 4),none⟩,⟨none,.fieldAddr 0 (.var 1),some (.tmp 5,true)⟩,⟨none,.load false 1 (.tmp 6),some (.tmp 5,true)⟩,⟨none,.lenSl (.tmp 7),some (.tmp 5,true)⟩,⟨none,.bin .geq (.tmp 8) (.cst (.int .i64 1)),some (.tmp 5,true)⟩,⟨none,.pick (.tmp 5) (.tmp 9) (.cst (.bool false)),none⟩,⟨none,.mv (.tmp 10),none⟩,⟨none,.fieldAddr 0 (.var 1),some (.tmp 11,true)⟩,⟨none,.load false 1 (.tmp 12),some (.tmp 11,true)⟩,⟨none,.lenSl (.tmp 13),some (.tmp 11,true)⟩,⟨none,.bin .leq (.tmp 14) (.cst (.int .i64 4)),some (.tmp 11,true)⟩,⟨none,.pick (.tmp 11) (.tmp 15) (.cst (.bool false)),none⟩,⟨none,.mv (.tmp 16),none⟩,⟨none,.fieldAddr 4 (.var 1),some (.tmp 17,true)⟩,⟨none,.load false 1 (.tmp 18),some (.tmp 17,true)⟩,⟨none,.bin .eql (.tmp 19) (.cst (.int .i64 1)),some (.tmp 17,true)⟩,⟨none,.mv (.tmp 20),some (.tmp 17,true)⟩,⟨none,.fieldAddr 4 (.var 1),some (.tmp 21,false)⟩,⟨none,.load false 1 (.tmp 22),some (.tmp 21,false)⟩,⟨none,.bin .eql (.tmp 23) (.cst (.int .i64 2)),some (.tmp 21,false)⟩,⟨none,.pick (.tmp 21) (.cst (.bool true)) (.tmp 24),some (.tmp 17,true)⟩,⟨none,.pick (.tmp 17) (.tmp 25) (.cst (.bool false)),none⟩,⟨some 2,.mv (.tmp 26),none⟩]) .ret)))),[.tmp 2]⟩
theorem vT:aB Tryz.prog Tryz.f41 1 [0,1,2,3,4,5] [] true ([],[])=some sa:=by kernel_rfl
theorem KM:Tryz.prog.funcs[41]?=some Tryz.f41:=by kernel_rfl
def eO:MC:=.seq (.region [⟨some 19,.bin .lss (.var 18) (.var 17),none⟩]) (.seq (.cond (.var 19) .skip (.exit 0)) (.seq (.seq (.block 1 (.seq (.region [⟨none,.mv (.var 18),none⟩,⟨none,.indexSl 1 (.var 16) (.var 18),none⟩,⟨none,.load false 1 (.tmp 1),none⟩,⟨some 8,.mv (.tmp 0),none⟩,⟨some 9,.mv (.tmp 2),none⟩]) (.seq (.region [⟨none,.mv (.var 9),none⟩,⟨none,.mv (.var 6),none⟩,⟨none,.build [.int .i64 0,.int .i64 0,.int .i64 0,.int .i64 0] [(0,(1,.tmp 0)),(2,(1,.tmp 1)),(3,(1,.cst (.int .i64 1)))],none⟩,⟨some 10,.alloc 4 (.agg [.int .i64 0,.int .i64 0,.int .i64 0,.int .i64 0]),none⟩,⟨none,.store 4 (.var 10) (.tmp 2),none⟩]) (.seq (.seq (.region [⟨none,.mv (.var 8),none⟩,⟨none,.bin .add (.tmp 0) (.cst (.int .i64 1)),none⟩,⟨none,.load false 1 (.var 3),none⟩,⟨none,.lenSl (.tmp 2),none⟩,⟨some 20,.bin .lss (.tmp 1) (.tmp 3),none⟩]) (.cond (.var 20) (.region [⟨none,.load false 1 (.var 3),none⟩,⟨none,.mv (.var 8),none⟩,⟨none,.bin .add (.tmp 1) (.cst (.int .i64 1)),none⟩,⟨none,.indexSl 1 (.tmp 0) (.tmp 2),none⟩,⟨none,.load false 1 (.tmp 3),none⟩,⟨none,.fieldAddr 1 (.var 10),none⟩,⟨none,.store 1 (.tmp 5) (.tmp 4),none⟩,⟨none,.fieldAddr 3 (.var 10),none⟩,⟨none,.store 1 (.tmp 7) (.cst (.int .i64 0)),none⟩]) .skip)) (.seq (.seq (.region [⟨none,.fieldAddr 4 (.var 2),none⟩,⟨none,.load false 1 (.tmp 0),none⟩,⟨none,.bin .eql (.tmp 1) (.cst (.int .i64 2)),none⟩,⟨none,.mv (.tmp 2),none⟩,⟨none,.fieldAddr 1 (.var 10),some (.tmp 3,false)⟩,⟨none,.load false 1 (.tmp 4),some (.tmp 3,false)⟩,⟨none,.mv (.var 9),some (.tmp 3,false)⟩,⟨none,.bin .add (.tmp 6) (.cst (.int .i64 1)),some (.tmp 3,false)⟩,⟨none,.bin .neq (.tmp 5) (.tmp 7),some (.tmp 3,false)⟩,⟨some 21,.pick (.tmp 3) (.cst (.bool true)) (.tmp 8),none⟩]) (.cond (.var 21) (.region [⟨none,.fieldAddr 2 (.var 10),none⟩,⟨none,.load false 1 (.tmp 0),none⟩,⟨none,.fieldAddr 3 (.var 2),none⟩,⟨none,.load false 1 (.tmp 2),none⟩,⟨none,.bin .add (.tmp 1) (.tmp 3),none⟩,⟨none,.fieldAddr 2 (.var 10),none⟩,⟨none,.store 1 (.tmp 5) (.tmp 4),none⟩]) .skip)) (.region [⟨none,.load true 4 (.var 10),none⟩,⟨none,.buildF 4 [.tmp 0],none⟩,⟨none,.call (.fn 49) [.var 7,.tmp 1],none⟩])))))) (.kill [0,1,4,5,8,9,10,11,12,13,14,15,19,20,21,22,23,24,25])) (.region [⟨none,.bin .add (.var 18) (.cst (.int .i64 1)),none⟩,⟨some 18,.mv (.tmp 0),none⟩])))
def kv:MC:=.seq (.region [⟨some 25,.bin .lss (.var 24) (.var 23),none⟩]) (.seq (.cond (.var 25) .skip (.exit 2)) (.seq (.seq (.block 3 (.seq (.region [⟨none,.mv (.var 24),none⟩,⟨none,.indexSl 2 (.var 22) (.var 24),none⟩,⟨none,.load true 2 (.tmp 1),none⟩,⟨some 13,.alloc 2 (.agg [.int .i64 0,.int .i64 0]),none⟩,⟨some 12,.mv (.tmp 0),none⟩,⟨none,.store 2 (.var 13) (.tmp 2),none⟩]) (.seq (.region [⟨none,.mv (.var 11),none⟩,⟨none,.load false 1 (.var 3),none⟩,⟨none,.mv (.var 12),none⟩,⟨none,.bin .add (.tmp 2) (.cst (.int .i64 1)),none⟩,⟨none,.call (.tmp 0) [.tmp 1,.tmp 3],none⟩,⟨some 14,.alloc 3 (.agg [.int .i64 0,.int .i64 0,.int .i64 0]),none⟩,⟨none,.store 3 (.var 14) (.tmp 4),none⟩]) (.region [⟨none,.fieldAddr 0 (.var 14),none⟩,⟨none,.load false 1 (.tmp 0),none⟩,⟨none,.fieldAddr 1 (.var 14),none⟩,⟨none,.load false 1 (.tmp 2),none⟩,⟨none,.mv (.var 6),none⟩,⟨none,.fieldAddr 0 (.var 13),none⟩,⟨none,.load false 1 (.tmp 5),none⟩,⟨none,.bin .add (.tmp 4) (.tmp 6),none⟩,⟨none,.fieldAddr 2 (.var 14),none⟩,⟨none,.load false 1 (.tmp 8),none⟩,⟨none,.build [.int .i64 0,.int .i64 0,.int .i64 0,.int .i64 0] [(0,(1,.tmp 1)),(1,(1,.tmp 3)),(2,(1,.tmp 7)),(3,(1,.tmp 9))],none⟩,⟨none,.fieldAddr 1 (.var 14),none⟩,⟨none,.load false 1 (.tmp 11),none⟩,⟨none,.fieldAddr 0 (.var 14),none⟩,⟨none,.load false 1 (.tmp 13),none⟩,⟨none,.mv (.var 6),none⟩,⟨none,.fieldAddr 0 (.var 13),none⟩,⟨none,.load false 1 (.tmp 16),none⟩,⟨none,.bin .add (.tmp 15) (.tmp 17),none⟩,⟨none,.fieldAddr 1 (.var 13),none⟩,⟨none,.load false 1 (.tmp 19),none⟩,⟨none,.bin .add (.tmp 18) (.tmp 20),none⟩,⟨none,.un .neg (.tmp 21),none⟩,⟨none,.fieldAddr 2 (.var 14),none⟩,⟨none,.load false 1 (.tmp 23),none⟩,⟨none,.un .neg (.tmp 24),none⟩,⟨none,.build [.int .i64 0,.int .i64 0,.int .i64 0,.int .i64 0] [(0,(1,.tmp 12)),(1,(1,.tmp 14)),(2,(1,.tmp 22)),(3,(1,.tmp 25))],none⟩,⟨none,.buildF 4 [.tmp 10,.tmp 26],none⟩,⟨none,.call (.fn 49) [.var 7,.tmp 27],none⟩])))) (.kill [0,1,2,4,5,8,9,10,12,13,14,15,16,17,18,19,20,21,25])) (.region [⟨none,.bin .add (.var 24) (.cst (.int .i64 1)),none⟩,⟨some 24,.mv (.tmp 0),none⟩])))
def wS:bC:=⟨2,26,.seq (.region [⟨some 2,.box (.var 0),none⟩,⟨some 3,.box (.var 1),none⟩,⟨some 4,.mv (.cst .nilS),none⟩,⟨some 5,.mv (.cst (.int .i64 0)),none⟩]) (.seq (.seq (.region [⟨none,.load true 5 (.var 2),none⟩,⟨none,.call (.fn 15) [.tmp 0],none⟩,⟨none,.makeFunc (.func 46) [] [.var 3],none⟩,⟨none,.call (.fn 45) [.tmp 1,.tmp 2],none⟩,⟨some 15,.un .not (.tmp 3),none⟩]) (.cond (.var 15) (.seq (.region [⟨some 4,.mv (.cst .nilS),none⟩,⟨some 5,.mv (.cst (.int .i64 130)),none⟩]) .ret) .skip)) (.seq (.region [⟨none,.load true 5 (.var 2),none⟩,⟨none,.call (.fn 48) [.tmp 0],none⟩,⟨some 6,.mv (.tmp 1),none⟩]) (.seq (.region [⟨some 7,.alloc 1 .nilS,none⟩]) (.seq (.seq (.region [⟨some 16,.load false 1 (.var 3),none⟩,⟨some 17,.lenSl (.var 16),none⟩,⟨some 18,.mv (.cst (.int .i64 0)),none⟩]) (.seq (.block 0 (.loop [0,1,4,5,8,9,10,11,12,13,14,15,19,20,21,22,23,24,25] eO)) (.kill [0,1,4,5,8,9,10,11,12,13,14,15,16,17,18,19,20,21,22,23,24,25]))) (.seq (.region [⟨none,.call (.fn 50) [],none⟩,⟨none,.fieldAddr 4 (.var 2),none⟩,⟨none,.load false 1 (.tmp 1),none⟩,⟨none,.indexVal false 3 1 (.tmp 0) (.tmp 2),none⟩,⟨some 11,.mv (.tmp 3),none⟩]) (.seq (.seq (.region [⟨none,.fieldAddr 0 (.var 2),none⟩,⟨some 22,.load false 1 (.tmp 0),none⟩,⟨some 23,.lenSl (.var 22),none⟩,⟨some 24,.mv (.cst (.int .i64 0)),none⟩]) (.seq (.block 2 (.loop [0,1,2,4,5,8,9,10,12,13,14,15,16,17,18,19,20,21,25] kv)) (.kill [0,1,2,3,4,5,6,8,9,10,11,12,13,14,15,16,17,18,19,20,21,22,23,24,25]))) (.seq (.region [⟨none,.load false 1 (.var 7),none⟩,⟨some 4,.mv (.tmp 0),none⟩,⟨some 5,.mv (.cst (.int .i64 0)),none⟩]) .ret))))))),[.tmp 4,.tmp 5]⟩
def gI:List Nat:=[0,1,4,5,8,9,10,11,12,13,14,15,19,20,21,22,23,24,25]
abbrev lS (v2 v3 v6 v7 v16 v17 v18:AV):List AV:=[.undef,.undef,v2,v3,.undef,.undef,v6,v7,.undef,.undef,.undef,.undef,.undef,.undef,.undef,.undef,v16,v17,v18,.undef,.undef,.undef,.undef,.undef,.undef,.undef]
theorem we {d0 d1 v2 v3 d4 d5 v6 v7 d8 d9 d10 d11 d12 d13 d14 d15 v16 v17 v18 d19 d20 d21 d22 d23 d24 d25:AV}:clear gI [d0,d1,v2,v3,d4,d5,v6,v7,d8,d9,d10,d11,d12,d13,d14,d15,v16,v17,v18,d19,d20,d21,d22,d23,d24,d25]=lS v2 v3 v6 v7 v16 v17 v18:=by simp only [gI,clear,List.foldl_cons,List.foldl_nil,List.set_cons_zero,List.set_cons_succ]
theorem Z5 {E:Env} {fuel:Nat} {A:ac} {o:Out} {k:List KC} {d0 d1 v2 v3 d4 d5 v6 v7 d8 d9 d10 d11 d12 d13 d14 d15 v16 v17 v18 d19 d20 d21 d22 d23 d24 d25:AV} (h:bM (evC E fuel eO) gI fuel (lS v2 v3 v6 v7 v16 v17 v18) A=some o) :
  run E fuel (.code (.loop [0,1,4,5,8,9,10,11,12,13,14,15,19,20,21,22,23,24,25] eO) :: k) [d0,d1,v2,v3,d4,d5,v6,v7,d8,d9,d10,d11,d12,d13,d14,d15,v16,v17,v18,d19,d20,d21,d22,d23,d24,d25] A=after E fuel k o:=aU gI _ _ (by rw [we]; exact h)
def gH:List Nat:=[0,1,2,4,5,8,9,10,12,13,14,15,16,17,18,19,20,21,25]
abbrev lR (v3 v6 v7 v11 v22 v23 v24:AV):List AV:=[.undef,.undef,.undef,v3,.undef,.undef,v6,v7,.undef,.undef,.undef,v11,.undef,.undef,.undef,.undef,.undef,.undef,.undef,.undef,.undef,.undef,v22,v23,v24,.undef]
theorem wd {d0 d1 d2 v3 d4 d5 v6 v7 d8 d9 d10 v11 d12 d13 d14 d15 d16 d17 d18 d19 d20 d21 v22 v23 v24 d25:AV}:clear gH [d0,d1,d2,v3,d4,d5,v6,v7,d8,d9,d10,v11,d12,d13,d14,d15,d16,d17,d18,d19,d20,d21,v22,v23,v24,d25]=lR v3 v6 v7 v11 v22 v23 v24:=by simp only [gH,clear,List.foldl_cons,List.foldl_nil,List.set_cons_zero,List.set_cons_succ]
theorem FR {E:Env} {fuel:Nat} {A:ac} {o:Out} {k:List KC} {d0 d1 d2 v3 d4 d5 v6 v7 d8 d9 d10 v11 d12 d13 d14 d15 d16 d17 d18 d19 d20 d21 v22 v23 v24 d25:AV} (h:bM (evC E fuel kv) gH fuel (lR v3 v6 v7 v11 v22 v23 v24) A=some o) :
  run E fuel (.code (.loop [0,1,2,4,5,8,9,10,12,13,14,15,16,17,18,19,20,21,25] kv) :: k) [d0,d1,d2,v3,d4,d5,v6,v7,d8,d9,d10,v11,d12,d13,d14,d15,d16,d17,d18,d19,d20,d21,v22,v23,v24,d25] A=after E fuel k o:=aU gH _ _ (by rw [wd]; exact h)
theorem vS:aB Tryz.prog Tryz.f16 2 [0,1,2,3,4,5,6,7,8,9,10,11,12,13,14,19,22,23,24,25,36,53,69,70,71,72] [50] true ([[0,1,4,5,8,9,10,11,12,13,14,15,19,20,21,22,23,24,25],[0,1,2,4,5,8,9,10,12,13,14,15,16,17,18,19,20,21,25]],[[0,1,4,5,8,9,10,11,12,13,14,15,19,20,21,22,23,24,25],[0,1,4,5,8,9,10,11,12,13,14,15,16,17,18,19,20,21,22,23,24,25],[0,1,2,4,5,8,9,10,12,13,14,15,16,17,18,19,20,21,25],[0,1,2,3,4,5,6,8,9,10,11,12,13,14,15,16,17,18,19,20,21,22,23,24,25]])=some wS:=by kernel_rfl
theorem Kw:Tryz.prog.funcs[16]?=some Tryz.f16:=by kernel_rfl
def eN:MC:=.seq (.region [⟨some 14,.bin .lss (.var 13) (.var 12),none⟩]) (.seq (.cond (.var 14) .skip (.exit 0)) (.seq (.seq (.block 1 (.seq (.region [⟨none,.indexSl 1 (.var 11) (.var 13),none⟩,⟨none,.load false 1 (.tmp 0),none⟩,⟨some 6,.mv (.tmp 1),none⟩]) (.seq (.region [⟨none,.load true 5 (.var 1),none⟩,⟨none,.mv (.var 6),none⟩,⟨none,.call (.fn 16) [.tmp 0,.tmp 1],none⟩,⟨none,.mv (.tmp 2),none⟩,⟨none,.extract (.tmp 3) 0,none⟩,⟨none,.extract (.tmp 3) 1,none⟩,⟨some 7,.mv (.tmp 4),none⟩,⟨none,.mv (.tmp 5),none⟩]) (.seq (.region [⟨some 8,.mv (.cst (.int .i64 1000000)),none⟩]) (.seq (.seq (.region [⟨none,.fieldAddr 0 (.var 4),none⟩,⟨none,.load false 1 (.tmp 0),none⟩,⟨some 15,.bin .gtr (.tmp 1) (.cst (.int .i64 0)),none⟩]) (.cond (.var 15) (.region [⟨none,.fieldAddr 0 (.var 4),none⟩,⟨none,.load false 1 (.tmp 0),none⟩,⟨none,.bin .sub (.tmp 1) (.cst (.int .i64 1)),none⟩,⟨some 8,.mv (.tmp 2),none⟩]) .skip)) (.seq (.seq (.region [⟨none,.mv (.var 8),none⟩,⟨some 16,.bin .lss (.tmp 0) (.cst (.int .i64 1)),none⟩]) (.cond (.var 16) (.exit 0) .skip)) (.seq (.region [⟨none,.mv (.var 6),none⟩,⟨none,.lenSl (.tmp 0),none⟩,⟨none,.mv (.var 7),none⟩,⟨none,.mv (.var 8),none⟩,⟨none,.call (.fn 40) [.tmp 1,.tmp 2,.cst (.int .i64 1),.tmp 3],none⟩,⟨none,.mv (.tmp 4),none⟩,⟨none,.extract (.tmp 5) 0,none⟩,⟨none,.extract (.tmp 5) 1,none⟩,⟨some 9,.mv (.tmp 6),none⟩,⟨some 10,.mv (.tmp 7),none⟩]) (.seq (.region [⟨some 17,.mv (.var 10),none⟩]) (.cond (.var 17) (.region [⟨none,.mv (.var 9),none⟩,⟨none,.mv (.var 6),none⟩,⟨none,.build [.int .i64 0,.nilS,.nilS,.nilS] [(0,(1,.tmp 0)),(1,(1,.tmp 1))],none⟩,⟨none,.mv (.var 7),none⟩,⟨none,.store 4 (.var 4) (.tmp 2),none⟩,⟨some 5,.mv (.tmp 3),none⟩]) .skip))))))))) (.kill [0,3,6,7,8,9,10,14,15,16,17,18,19])) (.region [⟨none,.bin .add (.var 13) (.cst (.int .i64 1)),none⟩,⟨some 13,.mv (.tmp 0),none⟩])))
def DB:bC:=⟨1,20,.seq (.region [⟨some 1,.box (.var 0),none⟩,⟨some 2,.alloc 4 (.agg [.int .i64 0,.nilS,.nilS,.nilS]),none⟩,⟨some 3,.mv (.cst (.int .i64 0)),none⟩]) (.seq (.region [⟨some 4,.alloc 4 (.agg [.int .i64 0,.nilS,.nilS,.nilS]),none⟩]) (.seq (.region [⟨some 5,.mv (.cst .nilS),none⟩]) (.seq (.seq (.region [⟨none,.load true 5 (.var 1),none⟩,⟨some 11,.call (.fn 15) [.tmp 0],none⟩,⟨some 12,.lenSl (.var 11),none⟩,⟨some 13,.mv (.cst (.int .i64 0)),none⟩]) (.seq (.block 0 (.loop [0,3,6,7,8,9,10,14,15,16,17,18,19] eN)) (.kill [0,1,3,6,7,8,9,10,11,12,13,14,15,16,17,18,19]))) (.seq (.seq (.region [⟨none,.fieldAddr 0 (.var 4),none⟩,⟨none,.load false 1 (.tmp 0),none⟩,⟨some 18,.bin .eql (.tmp 1) (.cst (.int .i64 0)),none⟩]) (.cond (.var 18) (.seq (.region [⟨none,.build [.int .i64 0,.nilS,.nilS,.nilS] [],none⟩,⟨none,.store 4 (.var 2) (.tmp 0),none⟩,⟨some 3,.mv (.cst (.int .i64 130)),none⟩]) .ret) .skip)) (.seq (.region [⟨none,.fieldAddr 1 (.var 4),none⟩,⟨none,.load false 1 (.tmp 0),none⟩,⟨none,.lenSl (.tmp 1),none⟩,⟨none,.mv (.var 5),none⟩,⟨none,.fieldAddr 0 (.var 4),none⟩,⟨none,.load false 1 (.tmp 4),none⟩,⟨none,.call (.fn 17) [.tmp 2,.tmp 3,.tmp 5],none⟩,⟨none,.mv (.tmp 6),none⟩,⟨none,.extract (.tmp 7) 0,none⟩,⟨none,.extract (.tmp 7) 1,none⟩,⟨none,.extract (.tmp 7) 2,none⟩,⟨none,.fieldAddr 2 (.var 4),none⟩,⟨none,.store 1 (.tmp 11) (.tmp 8),none⟩]) (.seq (.seq (.region [⟨none,.fieldAddr 0 (.var 4),none⟩,⟨none,.load false 1 (.tmp 0),none⟩,⟨some 19,.bin .gtr (.tmp 1) (.cst (.int .i64 1)),none⟩]) (.cond (.var 19) (.region [⟨none,.fieldAddr 1 (.var 4),none⟩,⟨none,.load false 1 (.tmp 0),none⟩,⟨none,.lenSl (.tmp 1),none⟩,⟨none,.mv (.var 5),none⟩,⟨none,.fieldAddr 0 (.var 4),none⟩,⟨none,.load false 1 (.tmp 4),none⟩,⟨none,.bin .sub (.tmp 5) (.cst (.int .i64 1)),none⟩,⟨none,.call (.fn 17) [.tmp 2,.tmp 3,.tmp 6],none⟩,⟨none,.mv (.tmp 7),none⟩,⟨none,.extract (.tmp 8) 0,none⟩,⟨none,.extract (.tmp 8) 1,none⟩,⟨none,.extract (.tmp 8) 2,none⟩,⟨none,.fieldAddr 3 (.var 4),none⟩,⟨none,.store 1 (.tmp 12) (.tmp 10),none⟩]) .skip)) (.seq (.region [⟨none,.load true 4 (.var 4),none⟩,⟨none,.store 4 (.var 2) (.tmp 0),none⟩,⟨some 3,.mv (.cst (.int .i64 0)),none⟩]) .ret))))))),[.cell 2 true 4,.tmp 3]⟩
def jf:List Nat:=[0,3,6,7,8,9,10,14,15,16,17,18,19]
abbrev lQ (v1 v2 v4 v5 v11 v12 v13:AV):List AV:=[.undef,v1,v2,.undef,v4,v5,.undef,.undef,.undef,.undef,.undef,v11,v12,v13,.undef,.undef,.undef,.undef,.undef,.undef]
theorem sF {d0 v1 v2 d3 v4 v5 d6 d7 d8 d9 d10 v11 v12 v13 d14 d15 d16 d17 d18 d19:AV}:clear jf [d0,v1,v2,d3,v4,v5,d6,d7,d8,d9,d10,v11,v12,v13,d14,d15,d16,d17,d18,d19]=lQ v1 v2 v4 v5 v11 v12 v13:=rfl
theorem vj {E:Env} {fuel:Nat} {A:ac} {o:Out} {k:List KC} {d0 v1 v2 d3 v4 v5 d6 d7 d8 d9 d10 v11 v12 v13 d14 d15 d16 d17 d18 d19:AV} (h:bM (evC E fuel eN) jf fuel (lQ v1 v2 v4 v5 v11 v12 v13) A=some o) :
  run E fuel (.code (.loop [0,3,6,7,8,9,10,14,15,16,17,18,19] eN) :: k) [d0,v1,v2,d3,v4,v5,d6,d7,d8,d9,d10,v11,v12,v13,d14,d15,d16,d17,d18,d19] A=after E fuel k o:=aU jf _ _ (by rw [sF]; exact h)
theorem GV:aB Tryz.prog Tryz.f14 1 [0,1,2,3,4,5,7,8,10,11,12,14,15,16,17,28,33,42,50,66] [] true ([[0,3,6,7,8,9,10,14,15,16,17,18,19]],[[0,3,6,7,8,9,10,14,15,16,17,18,19],[0,1,3,6,7,8,9,10,11,12,13,14,15,16,17,18,19]])=some DB:=by kernel_rfl
theorem at22:Tryz.prog.funcs[14]?=some Tryz.f14:=by kernel_rfl
def pF:bC:=⟨2,10,.seq (.region [⟨some 2,.box (.var 0),none⟩,⟨some 3,.box (.var 1),none⟩,⟨some 4,.mv (.cst (.bool false)),none⟩]) (.seq (.region [⟨none,.load true 5 (.var 2),none⟩,⟨none,.fieldAddr 1 (.var 3),none⟩,⟨none,.load false 1 (.tmp 1),none⟩,⟨none,.call (.fn 16) [.tmp 0,.tmp 2],none⟩,⟨none,.mv (.tmp 3),none⟩,⟨none,.extract (.tmp 4) 0,none⟩,⟨none,.extract (.tmp 4) 1,none⟩,⟨some 5,.mv (.tmp 5),none⟩,⟨some 6,.mv (.tmp 6),none⟩]) (.seq (.region [⟨none,.fieldAddr 1 (.var 3),none⟩,⟨none,.load false 1 (.tmp 0),none⟩,⟨none,.lenSl (.tmp 1),none⟩,⟨some 7,.mv (.tmp 2),none⟩]) (.seq (.seq (.block 0 (.seq (.region [⟨none,.mv (.var 6),none⟩,⟨none,.bin .neq (.tmp 0) (.cst (.int .i64 0)),none⟩,⟨none,.mv (.tmp 1),none⟩,⟨none,.fieldAddr 0 (.var 3),some (.tmp 2,false)⟩,⟨none,.load false 1 (.tmp 3),some (.tmp 2,false)⟩,⟨none,.bin .lss (.tmp 4) (.cst (.int .i64 1)),some (.tmp 2,false)⟩,⟨none,.pick (.tmp 2) (.cst (.bool true)) (.tmp 5),none⟩,⟨none,.mv (.tmp 6),none⟩,⟨none,.fieldAddr 0 (.var 3),some (.tmp 7,false)⟩,⟨none,.load false 1 (.tmp 8),some (.tmp 7,false)⟩,⟨none,.bin .gtr (.tmp 9) (.cst (.int .i64 1000000)),some (.tmp 7,false)⟩,⟨none,.pick (.tmp 7) (.cst (.bool true)) (.tmp 10),none⟩,⟨none,.mv (.tmp 11),none⟩,⟨none,.mv (.var 7),some (.tmp 12,false)⟩,⟨none,.mv (.var 5),some (.tmp 12,false)⟩,⟨none,.fieldAddr 0 (.var 3),some (.tmp 12,false)⟩,⟨none,.load false 1 (.tmp 15),some (.tmp 12,false)⟩,⟨none,.fieldAddr 2 (.var 3),some (.tmp 12,false)⟩,⟨none,.load false 1 (.tmp 17),some (.tmp 12,false)⟩,⟨none,.call (.fn 20) [.tmp 13,.tmp 14,.tmp 16,.tmp 18],some (.tmp 12,false)⟩,⟨none,.un .not (.tmp 19),some (.tmp 12,false)⟩,⟨none,.pick (.tmp 12) (.cst (.bool true)) (.tmp 20),none⟩,⟨some 8,.mv (.tmp 21),none⟩]) (.cond (.var 8) (.seq (.region [⟨some 4,.mv (.cst (.bool false)),none⟩]) .ret) (.seq (.region [⟨none,.fieldAddr 0 (.var 3),none⟩,⟨none,.load false 1 (.tmp 0),none⟩,⟨none,.bin .eql (.tmp 1) (.cst (.int .i64 1)),none⟩,⟨some 9,.mv (.tmp 2),none⟩]) (.cond (.var 9) (.seq (.region [⟨none,.fieldAddr 3 (.var 3),none⟩,⟨none,.load false 1 (.tmp 0),none⟩,⟨none,.lenSl (.tmp 1),none⟩,⟨none,.bin .eql (.tmp 2) (.cst (.int .i64 0)),none⟩,⟨some 4,.mv (.tmp 3),none⟩]) .ret) .skip))))) (.kill [0,1,2,4,6,8,9])) (.seq (.region [⟨none,.mv (.var 7),none⟩,⟨none,.mv (.var 5),none⟩,⟨none,.fieldAddr 0 (.var 3),none⟩,⟨none,.load false 1 (.tmp 2),none⟩,⟨none,.bin .sub (.tmp 3) (.cst (.int .i64 1)),none⟩,⟨none,.fieldAddr 3 (.var 3),none⟩,⟨none,.load false 1 (.tmp 5),none⟩,⟨none,.call (.fn 18) [.tmp 0,.tmp 1,.tmp 4,.tmp 6],none⟩,⟨some 4,.mv (.tmp 7),none⟩]) .ret)))),[.tmp 4]⟩
theorem qd:aB Tryz.prog Tryz.f56 2 [0,1,2,3,4,5,6,7,18,41] [] true ([],[[0,1,2,4,6,8,9]])=some pF:=by kernel_rfl
theorem G4:Tryz.prog.funcs[56]?=some Tryz.f56:=by kernel_rfl
def ge:MC:=.seq (.seq (.region [⟨none,.mv (.var 6),none⟩,⟨none,.load false 1 (.var 1),none⟩,⟨some 8,.bin .leq (.tmp 0) (.tmp 1),none⟩]) (.cond (.var 8) .skip (.exit 0))) (.seq (.seq (.block 1 (.seq (.region [⟨none,.mv (.var 0),none⟩,⟨none,.mv (.var 6),none⟩,⟨none,.call (.fn 43) [.tmp 0,.tmp 1],none⟩,⟨none,.un .not (.tmp 2),none⟩,⟨none,.mv (.tmp 3),none⟩,⟨none,.fieldAddr 4 (.var 3),some (.tmp 4,true)⟩,⟨none,.load false 1 (.tmp 5),some (.tmp 4,true)⟩,⟨none,.bin .eql (.tmp 6) (.cst (.int .i64 1)),some (.tmp 4,true)⟩,⟨none,.mv (.tmp 7),some (.tmp 4,true)⟩,⟨none,.mv (.var 6),some (.tmp 8,false)⟩,⟨none,.mv (.var 0),some (.tmp 8,false)⟩,⟨none,.lenSl (.tmp 10),some (.tmp 8,false)⟩,⟨none,.bin .eql (.tmp 9) (.tmp 11),some (.tmp 8,false)⟩,⟨none,.pick (.tmp 8) (.cst (.bool true)) (.tmp 12),some (.tmp 4,true)⟩,⟨some 9,.pick (.tmp 4) (.tmp 13) (.cst (.bool false)),none⟩]) (.cond (.var 9) (.regionD [] [⟨none,.load false 1 (.var 4),none⟩,⟨none,.mv (.var 0),none⟩,⟨none,.call (.fn 44) [.tmp 1],none⟩,⟨none,.mv (.var 6),none⟩,⟨none,.buildF 1 [.tmp 3],none⟩,⟨none,.appendN 1 8 (.tmp 2) (.tmp 4),none⟩,⟨none,.call (.tmp 0) [.tmp 5],none⟩] [(0,2),(0,5)]) .skip))) (.kill [2,5,7,8,9])) (.region [⟨none,.mv (.var 6),none⟩,⟨none,.bin .add (.tmp 0) (.cst (.int .i64 1)),none⟩,⟨some 6,.mv (.tmp 1),none⟩]))
def BR:bC:=⟨5,10,.seq (.seq (.region [⟨none,.mv (.var 0),none⟩,⟨none,.lenSl (.tmp 0),none⟩,⟨none,.load false 1 (.var 1),none⟩,⟨none,.bin .add (.tmp 2) (.cst (.int .i64 1)),none⟩,⟨some 7,.bin .eql (.tmp 1) (.tmp 3),none⟩]) (.cond (.var 7) (.seq (.region [⟨none,.load false 1 (.var 1),none⟩,⟨none,.bin .add (.tmp 0) (.cst (.int .i64 1)),none⟩,⟨none,.makeSlice 1 8 (.int .i64 0) (.tmp 1) (.tmp 1),none⟩,⟨some 5,.mv (.tmp 2),none⟩]) (.seq (.region [⟨none,.mv (.var 5),none⟩,⟨none,.mv (.var 0),none⟩,⟨none,.copy 1 (.tmp 0) (.tmp 1),none⟩]) (.seq (.region [⟨none,.load false 1 (.var 2),none⟩,⟨none,.mv (.var 5),none⟩,⟨none,.buildSlice 1 [.tmp 1],none⟩,⟨none,.append 1 24 (.tmp 0) (.tmp 2),none⟩,⟨none,.store 1 (.var 2) (.tmp 3),none⟩]) .ret))) .skip)) (.seq (.region [⟨some 6,.mv (.cst (.int .i64 1)),none⟩]) (.seq (.block 0 (.loop [2,5,7,8,9] ge)) (.kill [0,1,2,3,4,5,6,7,8,9]))),[]⟩
def jc:List Nat:=[2,5,7,8,9]
abbrev lO (v0 v1 v3 v4 v6:AV):List AV:=[v0,v1,.undef,v3,v4,.undef,v6,.undef,.undef,.undef]
theorem vY {v0 v1 d2 v3 v4 d5 v6 d7 d8 d9:AV}:clear jc [v0,v1,d2,v3,v4,d5,v6,d7,d8,d9]=lO v0 v1 v3 v4 v6:=rfl
theorem FM {E:Env} {fuel:Nat} {A:ac} {o:Out} {k:List KC} {v0 v1 d2 v3 v4 d5 v6 d7 d8 d9:AV} (h:bM (evC E fuel ge) jc fuel (lO v0 v1 v3 v4 v6) A=some o) :
  run E fuel (.code (.loop [2,5,7,8,9] ge) :: k) [v0,v1,d2,v3,v4,d5,v6,d7,d8,d9] A=after E fuel k o:=aU jc _ _ (by rw [vY]; exact h)
theorem zi:aB Tryz.prog Tryz.f42 5 [0,1,2,3,4,6,7,12,25,42] [] false ([[2,5,7,8,9]],[[2,5,7,8,9],[0,1,2,3,4,5,6,7,8,9]])=some BR:=by kernel_rfl
theorem Ms:Tryz.prog.funcs[42]?=some Tryz.f42:=by kernel_rfl
def DA:bC:=⟨2,3,.seq (.region [⟨some 2,.mv (.cst (.bool false)),none⟩]) (.seq (.region [⟨none,.mv (.var 0),none⟩,⟨none,.mv (.var 1),none⟩,⟨none,.call (.fn 58) [.tmp 0,.tmp 1],none⟩,⟨none,.bin .geq (.tmp 2) (.cst (.int .i64 0)),none⟩,⟨some 2,.mv (.tmp 3),none⟩]) .ret),[.tmp 2]⟩
theorem vR:aB Tryz.prog Tryz.f43 2 [0,1,4] [] true ([],[])=some DA:=by kernel_rfl
theorem Kv:Tryz.prog.funcs[43]?=some Tryz.f43:=by kernel_rfl
def xN:bC:=⟨1,2,.seq (.region [⟨some 1,.mv (.cst .nilS),none⟩]) (.seq (.region [⟨none,.mv (.var 0),none⟩,⟨none,.mv (.var 0),none⟩,⟨none,.lenSl (.tmp 1),none⟩,⟨none,.mv (.var 0),none⟩,⟨none,.lenSl (.tmp 3),none⟩,⟨none,.sliceM 1 (.tmp 0) none (.tmp 2) (.tmp 4),none⟩,⟨some 1,.mv (.tmp 5),none⟩]) .ret),[.tmp 1]⟩
theorem sE:aB Tryz.prog Tryz.f44 1 [0,2] [] true ([],[])=some xN:=by kernel_rfl
theorem Ic:Tryz.prog.funcs[44]?=some Tryz.f44:=by kernel_rfl
def r9:bC:=⟨2,3,.seq (.region [⟨some 2,.mv (.cst (.bool false)),none⟩]) (.seq (.region [⟨none,.mv (.var 0),none⟩,⟨none,.bin .geq (.tmp 0) (.cst (.int .i64 0)),none⟩,⟨none,.mv (.tmp 1),none⟩,⟨none,.mv (.var 0),some (.tmp 2,true)⟩,⟨none,.mv (.var 1),some (.tmp 2,true)⟩,⟨none,.bin .leq (.tmp 3) (.tmp 4),some (.tmp 2,true)⟩,⟨none,.pick (.tmp 2) (.tmp 5) (.cst (.bool false)),none⟩,⟨some 2,.mv (.tmp 6),none⟩]) .ret),[.tmp 2]⟩
theorem vQ:aB Tryz.prog Tryz.f91 2 [0,1,4] [] true ([],[])=some r9:=by kernel_rfl
theorem Ku:Tryz.prog.funcs[91]?=some Tryz.f91:=by kernel_rfl
def II:bC:=⟨2,3,.seq (.region [⟨some 2,.mv (.cst (.bool false)),none⟩]) (.seq (.region [⟨none,.mv (.var 0),none⟩,⟨none,.mv (.var 1),none⟩,⟨none,.call (.fn 145) [.tmp 0,.tmp 1],none⟩,⟨none,.bin .geq (.tmp 2) (.cst (.int .i64 0)),none⟩,⟨some 2,.mv (.tmp 3),none⟩]) .ret),[.tmp 2]⟩
theorem GJ:aB Tryz.prog Tryz.f92 2 [0,1,4] [] true ([],[])=some II:=by kernel_rfl
theorem at39:Tryz.prog.funcs[92]?=some Tryz.f92:=by kernel_rfl
def wR:bC:=⟨2,4,.seq (.region [⟨some 2,.box (.var 0),none⟩,⟨some 3,.mv (.cst (.bool false)),none⟩]) (.seq (.region [⟨none,.load false 1 (.var 1),none⟩,⟨none,.fieldAddr 0 (.var 2),none⟩,⟨none,.load false 1 (.tmp 1),none⟩,⟨none,.call (.tmp 0) [.tmp 2,.cst (.int .i64 100000)],none⟩,⟨none,.un .not (.tmp 3),none⟩,⟨none,.mv (.tmp 4),none⟩,⟨none,.load false 1 (.var 1),some (.tmp 5,false)⟩,⟨none,.fieldAddr 1 (.var 2),some (.tmp 5,false)⟩,⟨none,.load false 1 (.tmp 7),some (.tmp 5,false)⟩,⟨none,.call (.tmp 6) [.tmp 8,.cst (.int .i64 100000)],some (.tmp 5,false)⟩,⟨none,.un .not (.tmp 9),some (.tmp 5,false)⟩,⟨none,.pick (.tmp 5) (.cst (.bool true)) (.tmp 10),none⟩,⟨some 3,.mv (.tmp 11),none⟩]) .ret),[.tmp 3]⟩
theorem vP:aB Tryz.prog Tryz.f93 2 [0,1,2,3] [] true ([],[])=some wR:=by kernel_rfl
theorem Kt:Tryz.prog.funcs[93]?=some Tryz.f93:=by kernel_rfl
def uO:bC:=⟨2,3,.seq (.region [⟨some 2,.mv (.cst (.bool false)),none⟩]) (.seq (.region [⟨none,.mv (.var 0),none⟩,⟨none,.mv (.var 1),none⟩,⟨none,.call (.fn 94) [.tmp 0,.tmp 1],none⟩,⟨none,.bin .geq (.tmp 2) (.cst (.int .i64 0)),none⟩,⟨some 2,.mv (.tmp 3),none⟩]) .ret),[.tmp 2]⟩
theorem qb:aB Tryz.prog Tryz.f45 2 [0,1,4] [] true ([],[])=some uO:=by kernel_rfl
theorem G2:Tryz.prog.funcs[45]?=some Tryz.f45:=by kernel_rfl
def uN:bC:=⟨2,3,.seq (.region [⟨some 2,.mv (.cst (.bool false)),none⟩]) (.seq (.region [⟨none,.mv (.var 0),none⟩,⟨none,.load false 1 (.var 1),none⟩,⟨none,.call (.fn 47) [.tmp 0,.tmp 1],none⟩,⟨some 2,.mv (.tmp 2),none⟩]) .ret),[.tmp 2]⟩
theorem qa:aB Tryz.prog Tryz.f46 2 [0,1,3] [] true ([],[])=some uN:=by kernel_rfl
theorem G1:Tryz.prog.funcs[46]?=some Tryz.f46:=by kernel_rfl
def dJ:MC:=.seq (.region [⟨some 7,.bin .lss (.var 6) (.var 5),none⟩]) (.seq (.cond (.var 7) .skip (.exit 0)) (.seq (.seq (.block 1 (.seq (.region [⟨none,.mv (.var 6),none⟩,⟨some 3,.mv (.tmp 0),none⟩]) (.seq (.region [⟨none,.mv (.var 0),none⟩,⟨none,.mv (.var 3),none⟩,⟨none,.indexSl 1 (.tmp 0) (.tmp 1),none⟩,⟨none,.load false 1 (.tmp 2),none⟩,⟨none,.mv (.var 1),none⟩,⟨none,.mv (.var 3),none⟩,⟨none,.indexSl 1 (.tmp 4) (.tmp 5),none⟩,⟨none,.load false 1 (.tmp 6),none⟩,⟨some 8,.bin .neq (.tmp 3) (.tmp 7),none⟩]) (.cond (.var 8) (.seq (.region [⟨some 2,.mv (.cst (.bool false)),none⟩]) .ret) .skip)))) (.kill [2,3,4,7,8])) (.region [⟨none,.bin .add (.var 6) (.cst (.int .i64 1)),none⟩,⟨some 6,.mv (.tmp 0),none⟩])))
def wQ:bC:=⟨2,9,.seq (.region [⟨some 2,.mv (.cst (.bool false)),none⟩]) (.seq (.seq (.region [⟨none,.mv (.var 0),none⟩,⟨none,.lenSl (.tmp 0),none⟩,⟨none,.mv (.var 1),none⟩,⟨none,.lenSl (.tmp 2),none⟩,⟨some 4,.bin .neq (.tmp 1) (.tmp 3),none⟩]) (.cond (.var 4) (.seq (.region [⟨some 2,.mv (.cst (.bool false)),none⟩]) .ret) .skip)) (.seq (.seq (.region [⟨none,.mv (.var 0),none⟩,⟨some 5,.lenSl (.tmp 0),none⟩,⟨some 6,.mv (.cst (.int .i64 0)),none⟩]) (.seq (.block 0 (.loop [2,3,4,7,8] dJ)) (.kill [0,1,2,3,4,5,6,7,8]))) (.seq (.region [⟨some 2,.mv (.cst (.bool true)),none⟩]) .ret))),[.tmp 2]⟩
def dh:List Nat:=[2,3,4,7,8]
abbrev ei (v0 v1 v5 v6:AV):List AV:=[v0,v1,.undef,.undef,.undef,v5,v6,.undef,.undef]
theorem mW {v0 v1 d2 d3 d4 v5 v6 d7 d8:AV}:clear dh [v0,v1,d2,d3,d4,v5,v6,d7,d8]=ei v0 v1 v5 v6:=rfl
theorem pP {E:Env} {fuel:Nat} {A:ac} {o:Out} {k:List KC} {v0 v1 d2 d3 d4 v5 v6 d7 d8:AV} (h:bM (evC E fuel dJ) dh fuel (ei v0 v1 v5 v6) A=some o) :
  run E fuel (.code (.loop [2,3,4,7,8] dJ) :: k) [v0,v1,d2,d3,d4,v5,v6,d7,d8] A=after E fuel k o:=aU dh _ _ (by rw [mW]; exact h)
theorem vO:aB Tryz.prog Tryz.f47 2 [0,1,4,5,10,12,13,14,24] [] true ([[2,3,4,7,8]],[[2,3,4,7,8],[0,1,2,3,4,5,6,7,8]])=some wQ:=by kernel_rfl
theorem Ks:Tryz.prog.funcs[47]?=some Tryz.f47:=by kernel_rfl
def xM:bC:=⟨1,4,.seq (.region [⟨some 1,.box (.var 0),none⟩,⟨some 2,.mv (.cst (.int .i64 0)),none⟩]) (.seq (.seq (.region [⟨none,.fieldAddr 4 (.var 1),none⟩,⟨none,.load false 1 (.tmp 0),none⟩,⟨some 3,.bin .eql (.tmp 1) (.cst (.int .i64 2)),none⟩]) (.cond (.var 3) (.seq (.region [⟨none,.fieldAddr 1 (.var 1),none⟩,⟨none,.load false 1 (.tmp 0),none⟩,⟨none,.fieldAddr 2 (.var 1),none⟩,⟨none,.load false 1 (.tmp 2),none⟩,⟨none,.bin .add (.tmp 1) (.tmp 3),none⟩,⟨some 2,.mv (.tmp 4),none⟩]) .ret) .skip)) (.seq (.region [⟨none,.fieldAddr 1 (.var 1),none⟩,⟨none,.load false 1 (.tmp 0),none⟩,⟨none,.fieldAddr 3 (.var 1),none⟩,⟨none,.load false 1 (.tmp 2),none⟩,⟨none,.bin .add (.tmp 1) (.tmp 3),none⟩,⟨none,.fieldAddr 2 (.var 1),none⟩,⟨none,.load false 1 (.tmp 5),none⟩,⟨none,.bin .add (.tmp 4) (.tmp 6),none⟩,⟨some 2,.mv (.tmp 7),none⟩]) .ret)),[.tmp 2]⟩
theorem vN:aB Tryz.prog Tryz.f48 1 [0,1,2,5] [] true ([],[])=some xM:=by kernel_rfl
theorem Kr:Tryz.prog.funcs[48]?=some Tryz.f48:=by kernel_rfl
def tH:bC:=⟨2,2,.region [⟨none,.mv (.var 0),none⟩,⟨none,.mv (.var 0),none⟩,⟨none,.nilCheck (.tmp 1),none⟩,⟨none,.load false 1 (.tmp 2),none⟩,⟨none,.mv (.var 1),none⟩,⟨none,.append 4 32 (.tmp 3) (.tmp 4),none⟩,⟨none,.nilCheck (.tmp 0),none⟩,⟨none,.store 1 (.tmp 6) (.tmp 5),none⟩],[]⟩
theorem sD:aB Tryz.prog Tryz.f49 2 [0,1] [] true ([],[])=some tH:=by kernel_rfl
theorem Ib:Tryz.prog.funcs[49]?=some Tryz.f49:=by kernel_rfl
def BQ:bC:=⟨0,1,.seq (.region [⟨some 0,.allocA [.nilF,.nilF,.nilF],none⟩]) (.seq (.region [⟨none,.build [.nilF,.nilF,.nilF] [(1,(1,.fn 95)),(2,(1,.fn 96))],none⟩,⟨none,.storeA 3 (.var 0) (.tmp 0),none⟩]) .ret),[.cell 0 true 3]⟩
theorem vM:aB Tryz.prog Tryz.f50 0 [0] [] true ([],[])=some BQ:=by kernel_rfl
theorem Kq:Tryz.prog.funcs[50]?=some Tryz.f50:=by kernel_rfl
def h9:MC:=.seq (.region [⟨some 6,.bin .lss (.var 5) (.var 4),none⟩]) (.seq (.cond (.var 6) .skip (.exit 0)) (.seq (.seq (.block 1 (.seq (.region [⟨none,.mv (.var 5),none⟩,⟨some 3,.mv (.tmp 0),none⟩]) (.seq (.region [⟨none,.mv (.var 1),none⟩,⟨none,.mv (.var 0),none⟩,⟨none,.mv (.var 3),none⟩,⟨none,.indexSl 1 (.tmp 1) (.tmp 2),none⟩,⟨none,.load false 1 (.tmp 3),none⟩,⟨some 7,.bin .eql (.tmp 0) (.tmp 4),none⟩]) (.cond (.var 7) (.seq (.region [⟨none,.mv (.var 3),none⟩,⟨some 2,.mv (.tmp 0),none⟩]) .ret) .skip)))) (.kill [2,3,6,7])) (.region [⟨none,.bin .add (.var 5) (.cst (.int .i64 1)),none⟩,⟨some 5,.mv (.tmp 0),none⟩])))
def HJ:bC:=⟨2,8,.seq (.region [⟨some 2,.mv (.cst (.int .i64 0)),none⟩]) (.seq (.seq (.region [⟨none,.mv (.var 0),none⟩,⟨some 4,.lenSl (.tmp 0),none⟩,⟨some 5,.mv (.cst (.int .i64 0)),none⟩]) (.seq (.block 0 (.loop [2,3,6,7] h9)) (.kill [0,1,2,3,4,5,6,7]))) (.seq (.region [⟨some 2,.mv (.cst (.int .i64 (-1))),none⟩]) .ret)),[.tmp 2]⟩
def gA:List Nat:=[2,3,6,7]
abbrev kc (v0 v1 v4 v5:AV):List AV:=[v0,v1,.undef,.undef,v4,v5,.undef,.undef]
theorem zm {v0 v1 d2 d3 v4 v5 d6 d7:AV}:clear gA [v0,v1,d2,d3,v4,v5,d6,d7]=kc v0 v1 v4 v5:=rfl
theorem yS {E:Env} {fuel:Nat} {A:ac} {o:Out} {k:List KC} {v0 v1 d2 d3 v4 v5 d6 d7:AV} (h:bM (evC E fuel h9) gA fuel (kc v0 v1 v4 v5) A=some o) :
  run E fuel (.code (.loop [2,3,6,7] h9) :: k) [v0,v1,d2,d3,v4,v5,d6,d7] A=after E fuel k o:=aU gA _ _ (by rw [zm]; exact h)
theorem GE:aB Tryz.prog Tryz.f58 2 [0,1,4,5,7,8,9,16] [] true ([[2,3,6,7]],[[2,3,6,7],[0,1,2,3,4,5,6,7]])=some HJ:=by kernel_rfl
theorem at64:Tryz.prog.funcs[58]?=some Tryz.f58:=by kernel_rfl
def hJ:MC:=.seq (.region [⟨some 6,.bin .lss (.var 5) (.var 4),none⟩]) (.seq (.cond (.var 6) .skip (.exit 0)) (.seq (.seq (.block 1 (.seq (.region [⟨none,.mv (.var 5),none⟩,⟨some 3,.mv (.tmp 0),none⟩]) (.seq (.region [⟨none,.mv (.var 1),none⟩,⟨none,.mv (.var 0),none⟩,⟨none,.mv (.var 3),none⟩,⟨none,.indexSl 2 (.tmp 1) (.tmp 2),none⟩,⟨none,.load true 2 (.tmp 3),none⟩,⟨some 7,.call (.tmp 0) [.tmp 4],none⟩]) (.cond (.var 7) (.seq (.region [⟨none,.mv (.var 3),none⟩,⟨some 2,.mv (.tmp 0),none⟩]) .ret) .skip)))) (.kill [2,3,6,7])) (.region [⟨none,.bin .add (.var 5) (.cst (.int .i64 1)),none⟩,⟨some 5,.mv (.tmp 0),none⟩])))
def HI:bC:=⟨2,8,.seq (.region [⟨some 2,.mv (.cst (.int .i64 0)),none⟩]) (.seq (.seq (.region [⟨none,.mv (.var 0),none⟩,⟨some 4,.lenSl (.tmp 0),none⟩,⟨some 5,.mv (.cst (.int .i64 0)),none⟩]) (.seq (.block 0 (.loop [2,3,6,7] hJ)) (.kill [0,1,2,3,4,5,6,7]))) (.seq (.region [⟨some 2,.mv (.cst (.int .i64 (-1))),none⟩]) .ret)),[.tmp 2]⟩
def gz:List Nat:=[2,3,6,7]
abbrev j9 (v0 v1 v4 v5:AV):List AV:=[v0,v1,.undef,.undef,v4,v5,.undef,.undef]
theorem zl {v0 v1 d2 d3 v4 v5 d6 d7:AV}:clear gz [v0,v1,d2,d3,v4,v5,d6,d7]=j9 v0 v1 v4 v5:=rfl
theorem yR {E:Env} {fuel:Nat} {A:ac} {o:Out} {k:List KC} {v0 v1 d2 d3 v4 v5 d6 d7:AV} (h:bM (evC E fuel hJ) gz fuel (j9 v0 v1 v4 v5) A=some o) :
  run E fuel (.code (.loop [2,3,6,7] hJ) :: k) [v0,v1,d2,d3,v4,v5,d6,d7] A=after E fuel k o:=aU gz _ _ (by rw [zl]; exact h)
theorem GD:aB Tryz.prog Tryz.f145 2 [0,1,4,5,7,8,9,16] [] true ([[2,3,6,7]],[[2,3,6,7],[0,1,2,3,4,5,6,7]])=some HI:=by kernel_rfl
theorem at65:Tryz.prog.funcs[145]?=some Tryz.f145:=by kernel_rfl
def g9:MC:=.seq (.region [⟨some 6,.bin .lss (.var 5) (.var 4),none⟩]) (.seq (.cond (.var 6) .skip (.exit 0)) (.seq (.seq (.block 1 (.seq (.region [⟨none,.mv (.var 5),none⟩,⟨some 3,.mv (.tmp 0),none⟩]) (.seq (.region [⟨none,.mv (.var 1),none⟩,⟨none,.mv (.var 0),none⟩,⟨none,.mv (.var 3),none⟩,⟨none,.indexSl 1 (.tmp 1) (.tmp 2),none⟩,⟨none,.load false 1 (.tmp 3),none⟩,⟨some 7,.call (.tmp 0) [.tmp 4],none⟩]) (.cond (.var 7) (.seq (.region [⟨none,.mv (.var 3),none⟩,⟨some 2,.mv (.tmp 0),none⟩]) .ret) .skip)))) (.kill [2,3,6,7])) (.region [⟨none,.bin .add (.var 5) (.cst (.int .i64 1)),none⟩,⟨some 5,.mv (.tmp 0),none⟩])))
def HH:bC:=⟨2,8,.seq (.region [⟨some 2,.mv (.cst (.int .i64 0)),none⟩]) (.seq (.seq (.region [⟨none,.mv (.var 0),none⟩,⟨some 4,.lenSl (.tmp 0),none⟩,⟨some 5,.mv (.cst (.int .i64 0)),none⟩]) (.seq (.block 0 (.loop [2,3,6,7] g9)) (.kill [0,1,2,3,4,5,6,7]))) (.seq (.region [⟨some 2,.mv (.cst (.int .i64 (-1))),none⟩]) .ret)),[.tmp 2]⟩
def gy:List Nat:=[2,3,6,7]
abbrev j8 (v0 v1 v4 v5:AV):List AV:=[v0,v1,.undef,.undef,v4,v5,.undef,.undef]
theorem zk {v0 v1 d2 d3 v4 v5 d6 d7:AV}:clear gy [v0,v1,d2,d3,v4,v5,d6,d7]=j8 v0 v1 v4 v5:=rfl
theorem yQ {E:Env} {fuel:Nat} {A:ac} {o:Out} {k:List KC} {v0 v1 d2 d3 v4 v5 d6 d7:AV} (h:bM (evC E fuel g9) gy fuel (j8 v0 v1 v4 v5) A=some o) :
  run E fuel (.code (.loop [2,3,6,7] g9) :: k) [v0,v1,d2,d3,v4,v5,d6,d7] A=after E fuel k o:=aU gy _ _ (by rw [zk]; exact h)
theorem GB:aB Tryz.prog Tryz.f94 2 [0,1,4,5,7,8,9,16] [] true ([[2,3,6,7]],[[2,3,6,7],[0,1,2,3,4,5,6,7]])=some HH:=by kernel_rfl
theorem at66:Tryz.prog.funcs[94]?=some Tryz.f94:=by kernel_rfl
def HG:bC:=⟨2,4,.seq (.region [⟨some 2,.alloc 3 (.agg [.int .i64 0,.int .i64 0,.int .i64 0]),none⟩]) (.seq (.seq (.region [⟨none,.mv (.var 0),none⟩,⟨none,.mv (.var 1),none⟩,⟨none,.call (.fn 58) [.tmp 0,.tmp 1],none⟩,⟨none,.mv (.var 0),none⟩,⟨none,.mv (.var 1),none⟩,⟨none,.bin .sub (.tmp 4) (.cst (.int .i64 1)),none⟩,⟨none,.call (.fn 58) [.tmp 3,.tmp 5],none⟩,⟨some 3,.bin .lss (.tmp 2) (.tmp 6),none⟩]) (.cond (.var 3) (.seq (.region [⟨none,.mv (.var 1),none⟩,⟨none,.bin .sub (.tmp 0) (.cst (.int .i64 1)),none⟩,⟨none,.mv (.var 1),none⟩,⟨none,.build [.int .i64 0,.int .i64 0,.int .i64 0] [(0,(1,.tmp 1)),(1,(1,.tmp 2)),(2,(1,.cst (.int .i64 1)))],none⟩,⟨none,.store 3 (.var 2) (.tmp 3),none⟩]) .ret) .skip)) (.seq (.region [⟨none,.mv (.var 1),none⟩,⟨none,.bin .sub (.tmp 0) (.cst (.int .i64 1)),none⟩,⟨none,.mv (.var 1),none⟩,⟨none,.build [.int .i64 0,.int .i64 0,.int .i64 0] [(0,(1,.tmp 1)),(1,(1,.tmp 2)),(2,(1,.cst (.int .i64 0)))],none⟩,⟨none,.store 3 (.var 2) (.tmp 3),none⟩]) .ret)),[.cell 2 true 3]⟩
theorem GA:aB Tryz.prog Tryz.f95 2 [0,1,4,12] [] true ([],[])=some HG:=by kernel_rfl
theorem at67:Tryz.prog.funcs[95]?=some Tryz.f95:=by kernel_rfl
def IG:bC:=⟨2,3,.seq (.region [⟨some 2,.alloc 3 (.agg [.int .i64 0,.int .i64 0,.int .i64 0]),none⟩]) (.seq (.region [⟨none,.mv (.var 1),none⟩,⟨none,.mv (.var 1),none⟩,⟨none,.build [.int .i64 0,.int .i64 0,.int .i64 0] [(0,(1,.tmp 0)),(1,(1,.tmp 1)),(2,(1,.cst (.int .i64 1)))],none⟩,⟨none,.store 3 (.var 2) (.tmp 2),none⟩]) .ret),[.cell 2 true 3]⟩
theorem Gz:aB Tryz.prog Tryz.f96 2 [0,1,4] [] true ([],[])=some IG:=by kernel_rfl
theorem at68:Tryz.prog.funcs[96]?=some Tryz.f96:=by kernel_rfl
end Clu
namespace Clu
open Go
open Cy (GC iR cH bu bG ce aT bi aH)
structure bb where
 ch:List (Int × Int)
 pick:Int
 place:Int
 travel:Int
 blades:Int
def chA (x:Int × Int):AV:=.agg [.int .i64 x.1,.int .i64 x.2]
def aA (T:bb) (chv:AV):AV:=.agg [chv,.int .i64 T.pick,.int .i64 T.place,.int .i64 T.travel,.int .i64 T.blades]
def qx (x:Int × Int):Prop:=(0<=x.1/\x.1<=100000)/\0<=x.2/\x.2<=100000
instance (x:Int × Int):Decidable (qx x):=inferInstanceAs (Decidable (_/\_))
def aX (T:bb):Prop:=(∀x∈T.ch,qx x)/\((0<=T.pick/\T.pick<=10000)/\(0<=T.place/\T.place<=10000)/\(0<=T.travel/\T.travel<=10000))/\1<=T.ch.length/\T.ch.length<=4/\(T.blades=1\/T.blades=2)
instance (T:bb):Decidable (aX T):=inferInstanceAs (Decidable (_/\_))
def M38:aG:=fun args=>match args with
 | [.int .i64 n,.int .i64 hi]=>some (.bool (decide (0<=n) && decide (n<=hi)))
 | _=>none
theorem nJ:ak Tryz.prog GC 91 M38:=by
 refine ak.of_ev (E:=ai GC []) (aj aw) rfl Ku vQ 1 ?_
 intro args r h
 unfold M38 at h
 split at h
 ·rename_i n hi
  injection h with h; subst h
  refine ⟨0,?_⟩
  have b1:aq .geq (.int .i64 n) (.int .i64 0)=some (.bool (decide (0<=n))):=by simp [aq]
  have b2:aq .leq (.int .i64 n) (.int .i64 hi)=some (.bool (decide (n<=hi))):=by simp [aq]
  obtain ⟨p,hp⟩:∃p,p=decide (0<=n):=⟨_,rfl⟩
  obtain ⟨q,hq⟩:∃q,q=decide (n<=hi):=⟨_,rfl⟩
  rw [<-hp] at b1 ⊢
  rw [<-hq] at b2 ⊢
  rw [aS _ _ rfl]
  cases p <;> simp [r9,b1,b2,-aq]
 ·cases h
def wY:AV:=.func (.func 91) [] []
def tM:List (FuncId × aD):=[(91,aF 4 M38)]
@[simp] theorem Jg:aI tM 91=some (aF 4 M38):=rfl
theorem qH:∀f M,aI tM f=some M->an Tryz.prog GC f M:=ae (an.of_pure nJ 4) aw
def M40:aG:=fun args=>evP (ai GC tM) 0 wR 1 args
theorem rM:ak Tryz.prog GC 93 M40:=ak.of_ev (E:=ai GC tM) (aj qH) rfl Kt vP 1 fun _ _ h=>⟨0,h⟩
theorem EH (x:Int × Int):(!decide (qx x))=(!(decide (0<=x.1) && decide (x.1<=100000)) || !(decide (0<=x.2) && decide (x.2<=100000))):=by
 unfold qx
 by_cases h1:0<=x.1 <;> by_cases h2:x.1<=100000 <;> by_cases h3:0<=x.2 <;> by_cases h4:x.2<=100000 <;> simp [h1,h2,h3,h4]
theorem sN (x:Int × Int):M40 [chA x,.fp [wY]]=some (.bool (!decide (qx x))):=by
 obtain ⟨a,b⟩:=x
 rw [EH]
 have m1:M38 [.int .i64 a,.int .i64 100000]=some (.bool (decide (0<=a) && decide (a<=100000))):=rfl
 have m2:M38 [.int .i64 b,.int .i64 100000]=some (.bool (decide (0<=b) && decide (b<=100000))):=rfl
 obtain ⟨p,hp⟩:∃p,p=(decide (0<=a) && decide (a<=100000)):=⟨_,rfl⟩
 obtain ⟨q,hq⟩:∃q,q=(decide (0<=b) && decide (b<=100000)):=⟨_,rfl⟩
 simp only
 rw [<-hp] at m1 ⊢
 rw [<-hq] at m2 ⊢
 unfold M40
 rw [aS _ _ rfl]
 cases p <;> simp [wR,chA,wY,m1,m2,frz]
def y9:List (FuncId × aD):=[(93,aF 4 M40)]
@[simp] theorem IZ:aI y9 93=some (aF 4 M40):=rfl
theorem AM:∀f M,aI y9 f=some M->an Tryz.prog GC f M:=ae (an.of_pure rM 4) aw
def M65:aG:=fun args=>evP (ai GC y9) 300 HI 1 args
theorem DX:ak Tryz.prog GC 145 M65:=ak.of_ev (E:=ai GC y9) (aj AM) rfl at65 GD 1 fun _ _ h=>⟨300,h⟩
def eg (x:Int × Int):Bool:=!decide (qx x)
def cU:AV:=.func (.func 93) [] [.fp [wY]]
theorem Hi {xs:List (Int × Int)} {b:AV} (hb:SlA 2 (xs.map chA) b) (hl:xs.length<=200):M65 [b,cU]=some (.int .i64 (cH eg xs)):=by
 have hlen:=hb.len
 rw [List.length_map] at hlen
 have round:∀(A:ac) (i:Nat) (hi:i<xs.length),run (ai GC y9) 300 [.code hJ] (j9 b cU (.int .i64 (xs.length:Int)) (.int .i64 (i:Int))) A =
   if eg xs[i]=false then some (.normal (j9 b cU (.int .i64 (xs.length:Int)) (.int .i64 ((i+1:Nat):Int))) A) else some (.ret [b,cU,.int .i64 (i:Int),.int .i64 (i:Int),.int .i64 (xs.length:Int),.int .i64 (i:Int),.bool true,.bool true] A):=fun A i hi=>by
  have he:(xs.map chA)[i]?=some (chA xs[i]):=by simp [hi]
  have x1:=hb.index (A:=A) he rfl (by decide) .i64
  have ld:af true 2 A (.fp (cellsOf (chA xs[i])))=some (chA xs[i]):=rfl
  obtain ⟨C,hC⟩:∃C,C=cellsOf (chA xs[i]):=⟨_,rfl⟩
  rw [<-hC] at x1 ld
  have m:=sN xs[i]
  have b1:=bw i xs.length .i64
  rw [decide_eq_true hi] at b1
  have b3:=aY i (by omega)
  have fz:∀A,frz A 4 (chA xs[i])=chA xs[i]:=fun A=>rfl
  have fz2:∀A,frz A 4 (.fp [wY])=.fp [wY]:=fun A=>rfl
  obtain ⟨i1,hi1⟩:∃i1:Nat,i1=i+1:=⟨_,rfl⟩
  rw [<-hi1] at b3 ⊢
  obtain ⟨d,hd⟩:∃d,d=eg xs[i]:=⟨_,rfl⟩
  rw [show (!decide (qx xs[i]))=d from hd.symm] at m
  rw [<-hd]
  obtain ⟨c,hc⟩:∃c,c=chA xs[i]:=⟨_,rfl⟩
  rw [<-hc] at m ld fz
  cases d with
  | false=>simp [hJ,cU,x1,ld,m,fz,fz2,b1,b3,-frz,-aq,-au,-ay,-af]
  | true=>simp [hJ,cU,x1,ld,m,fz,fz2,b1,-frz,-aq,-au,-ay,-af]
 unfold M65
 rw [aS _ _ rfl]
 rcases cP (E:=ai GC y9) (fuel:=300) (a:=hJ) (mask:=gz) (fun i=>j9 b cU (.int .i64 (xs.length:Int)) (.int .i64 (i:Int))) (fun _=>[]) xs.length (fun i=>¬ ∀hi:i<xs.length,eg xs[i]=false)
  (oF:=fun i=>.ret [b,cU,.int .i64 (i:Int),.int .i64 (i:Int),.int .i64 (xs.length:Int),.int .i64 (i:Int),.bool true,.bool true] []) (oE:=.exit 0 ((j9 b cU (.int .i64 (xs.length:Int)) (.int .i64 (xs.length:Int))).set 6 (.bool false)) [])
  (fun _=>zl) (fun _ _ _ h=>by cases h) (fun _ _ h=>by cases h)
  (fun i hi hp=>by
   rw [round [] i hi]
   exact if_pos (Classical.not_not.1 hp hi))
  (fun i hi hp=>by
   rw [round [] i hi]
   exact if_neg fun h=>hp fun _=>h)
  (by simp [hJ]) (show xs.length<300 by omega) with ⟨i,hi,hp,hj,lp⟩ | ⟨hp,lp⟩
 ·have lp:bM (evC (ai GC y9) 300 hJ) gz 300 (j9 b cU (.int .i64 (xs.length:Int)) (.int .i64 0)) []=_:=lp
  have e:cH eg xs=(i:Int):=bu hi (by
   cases h':eg xs[i] with
   | true=>rfl
   | false=>exact absurd (fun _=>h') hp) (fun j hj'=>Classical.not_not.1 (hj j hj') (by omega))
  rw [e]
  simp [HI,hlen,yR lp,-aq,-ay]
 ·have lp:bM (evC (ai GC y9) 300 hJ) gz 300 (j9 b cU (.int .i64 (xs.length:Int)) (.int .i64 0)) []=_:=lp
  have e:cH eg xs = -1:=bG fun i hi=>Classical.not_not.1 (hp i hi) hi
  rw [e]
  simp [HI,hlen,yR lp,-aq,-ay]
def HY:List (FuncId × aD):=[(145,aF 4 M65)]
@[simp] theorem Jj:aI HY 145=some (aF 4 M65):=rfl
theorem AZ:∀f M,aI HY f=some M->an Tryz.prog GC f M:=ae (an.of_pure DX 4) aw
def M39:aG:=fun args=>evP (ai GC HY) 0 II 1 args
theorem D5:ak Tryz.prog GC 92 M39:=ak.of_ev (E:=ai GC HY) (aj AZ) rfl at39 GJ 1 fun _ _ h=>⟨0,h⟩
theorem Hp {xs:List (Int × Int)} {b:AV} (hb:SlA 2 (xs.map chA) b) (hl:xs.length<=200):M39 [b,cU]=some (.bool (xs.any eg)):=by
 have h:=Hi hb hl
 have b1:=iR (cH eg xs)
 rw [ce] at b1
 have f1:∀A n,frz A n b=b:=fun A n=>hb.frz n
 have f2:∀A,frz A 4 cU=cU:=fun A=>rfl
 obtain ⟨z,hz⟩:∃z,z=cH eg xs:=⟨_,rfl⟩
 rw [<-hz] at h b1
 unfold M39
 rw [aS _ _ rfl]
 simp [II,h,b1,f1,f2,bi,-aq,-frz]
def wX:List (FuncId × aD):=[(91,aF 4 M38),(92,aF 4 M39)]
@[simp] theorem Ka:aI wX 91=some (aF 4 M38):=rfl
@[simp] theorem J9:aI wX 92=some (aF 4 M39):=rfl
theorem qL:∀f M,aI wX f=some M->an Tryz.prog GC f M:=ae (an.of_pure nJ 4) (ae (an.of_pure D5 4) aw)
def M16:aG:=fun args=>evP (ai GC wX) 0 sa 1 args
theorem po:ak Tryz.prog GC 41 M16:=ak.of_ev (E:=ai GC wX) (aj qL) rfl KM vT 1 fun _ _ h=>⟨0,h⟩
theorem zN (T:bb):decide (aX T)=(!(T.ch.any eg) && ((decide (0<=T.pick) && decide (T.pick<=10000)) && ((decide (0<=T.place) && decide (T.place<=10000)) && (decide (0<=T.travel) && decide (T.travel<=10000)))) && (decide (1<=T.ch.length) && (decide (T.ch.length<=4) && (decide (T.blades=1) || decide (T.blades=2))))):=by
 have e:(!(T.ch.any eg))=decide (∀x∈T.ch,qx x):=by
  rw [Bool.eq_iff_iff,decide_eq_true_eq,Bool.not_eq_true',List.any_eq_false]
  unfold eg
  simp
 rw [e]
 rw [Bool.eq_iff_iff,decide_eq_true_eq]
 unfold aX
 simp only [decide_eq_true_eq,Bool.and_eq_true,Bool.or_eq_true]
 constructor
 ·rintro ⟨h1,⟨h2,h3,h4⟩,h5,h6,h7⟩
  exact ⟨⟨h1,h2,h3,h4⟩,h5,h6,h7⟩
 ·rintro ⟨⟨h1,h2,h3,h4⟩,h5,h6,h7⟩
  exact ⟨h1,⟨h2,h3,h4⟩,h5,h6,h7⟩
theorem wM {T:bb} {chv:AV} (hb:SlA 2 (T.ch.map chA) chv) (hl:T.ch.length<=200):M16 [aA T chv]=some (.bool (decide (aX T))):=by
 obtain ⟨ch,pk,pl,tr,bl⟩:=T
 simp only at hb hl
 rw [zN]
 simp only
 have hlen:=hb.len
 rw [List.length_map] at hlen
 have m:=Hp hb hl
 have f1:∀A n,frz A n chv=chv:=fun A n=>hb.frz n
 have m1:M38 [.int .i64 pk,.int .i64 10000]=some (.bool (decide (0<=pk) && decide (pk<=10000))):=rfl
 have m2:M38 [.int .i64 pl,.int .i64 10000]=some (.bool (decide (0<=pl) && decide (pl<=10000))):=rfl
 have m3:M38 [.int .i64 tr,.int .i64 10000]=some (.bool (decide (0<=tr) && decide (tr<=10000))):=rfl
 have b1:aq .geq (.int .i64 (ch.length:Int)) (.int .i64 1)=some (.bool (decide (1<=ch.length))):=by simp [aq]; omega
 have b2:aq .leq (.int .i64 (ch.length:Int)) (.int .i64 4)=some (.bool (decide (ch.length<=4))):=by simp [aq]; omega
 have b3:aq .eql (.int .i64 bl) (.int .i64 1)=some (.bool (decide (bl=1))):=by simp [aq]
 have b4:aq .eql (.int .i64 bl) (.int .i64 2)=some (.bool (decide (bl=2))):=by simp [aq]
 have fw:∀A:ac,A[1]?=some (.row 1 false [wY])->frz A 4 (.func (.func 93) [] [.ptr 1 0 0])=cU:=fun A hA=>by simp [frz,hA,cU,wY]
 have ld0:∀A:ac,A[0]?=some (.row 5 false [.agg [chv,.int .i64 pk,.int .i64 pl,.int .i64 tr,.int .i64 bl]])->af false 1 A (.ptr 0 0 0)=some chv/\af false 1 A (.ptr 0 0 1)=some (.int .i64 pk)/\af false 1 A (.ptr 0 0 2)=some (.int .i64 pl)/\af false 1 A (.ptr 0 0 3)=some (.int .i64 tr)/\af false 1 A (.ptr 0 0 4)=some (.int .i64 bl):=fun A hA=>by
  refine ⟨?_,?_,?_,?_,?_⟩ <;> simp only [af,hA] <;> rfl
 obtain ⟨l0,l1,l2,l3,l4⟩:=ld0 [.row 5 false [.agg [chv,.int .i64 pk,.int .i64 pl,.int .i64 tr,.int .i64 bl]],.row 1 false [wY]] rfl
 have fw':=fw [.row 5 false [.agg [chv,.int .i64 pk,.int .i64 pl,.int .i64 tr,.int .i64 bl]],.row 1 false [wY]] rfl
 rw [show aA ⟨ch,pk,pl,tr,bl⟩ chv=.agg [chv,.int .i64 pk,.int .i64 pl,.int .i64 tr,.int .i64 bl] from rfl]
 unfold wY at l0 l1 l2 l3 l4 fw'
 have l5:af false 1 [.row 5 false [.agg [chv,.int .i64 pk,.int .i64 pl,.int .i64 tr,.int .i64 bl]],.row 1 false [.func (.func 91) [] []]] (.ptr 1 0 0)=some (.func (.func 91) [] []):=rfl
 obtain ⟨d0,h0⟩:∃d,d=ch.any eg:=⟨_,rfl⟩
 obtain ⟨d1,h1⟩:∃d,d=(decide (0<=pk) && decide (pk<=10000)):=⟨_,rfl⟩
 obtain ⟨d2,h2⟩:∃d,d=(decide (0<=pl) && decide (pl<=10000)):=⟨_,rfl⟩
 obtain ⟨d3,h3⟩:∃d,d=(decide (0<=tr) && decide (tr<=10000)):=⟨_,rfl⟩
 obtain ⟨d4,h4⟩:∃d,d=decide (1<=ch.length):=⟨_,rfl⟩
 obtain ⟨d5,h5⟩:∃d,d=decide (ch.length<=4):=⟨_,rfl⟩
 obtain ⟨d6,h6⟩:∃d,d=decide (bl=1):=⟨_,rfl⟩
 obtain ⟨d7,h7⟩:∃d,d=decide (bl=2):=⟨_,rfl⟩
 rw [<-h0] at m ⊢
 rw [<-h1] at m1 ⊢
 rw [<-h2] at m2 ⊢
 rw [<-h3] at m3 ⊢
 rw [<-h4] at b1 ⊢
 rw [<-h5] at b2 ⊢
 rw [<-h6] at b3 ⊢
 rw [<-h7] at b4 ⊢
 unfold M16
 rw [aS _ _ rfl]
 cases d1
 ·cases d0 <;> simp [sa,m,m1,f1,fw',l0,l1,l5,aT,bi,-frz,-aq,-ay,-af]
 cases d2
 ·cases d0 <;> simp [sa,m,m1,m2,f1,fw',l0,l1,l2,l5,aT,bi,-frz,-aq,-ay,-af]
 cases d3
 ·cases d0 <;> simp [sa,m,m1,m2,m3,f1,fw',l0,l1,l2,l3,l5,aT,bi,-frz,-aq,-ay,-af]
 cases d0
 rotate_left
 ·simp [sa,m,m1,m2,m3,f1,fw',l0,l1,l2,l3,l5,aT,bi,-frz,-aq,-ay,-af]
 cases d4
 ·simp [sa,m,m1,m2,m3,b1,hlen,f1,fw',l0,l1,l2,l3,l5,aT,bi,-frz,-aq,-ay,-af]
 cases d5
 ·simp [sa,m,m1,m2,m3,b1,b2,hlen,f1,fw',l0,l1,l2,l3,l5,aT,bi,-frz,-aq,-ay,-af]
 cases d6 <;> simp [sa,m,m1,m2,m3,b1,b2,b3,b4,hlen,f1,fw',l0,l1,l2,l3,l4,l5,aT,bi,-frz,-aq,-ay,-af]
end Clu
namespace Clu
open Go
open Cy (GC iR cH bu bG ce aT bi aH)
theorem bI (a b:Int):aq .eql (.int .i64 a) (.int .i64 b)=some (.bool (decide (a=b))):=by simp [aq]
theorem cJ (a b:Int):aq .neq (.int .i64 a) (.int .i64 b)=some (.bool (decide (a≠b))):=by simp [aq]
theorem bh {a b:Int} (h : -9223372036854775808<=a+b/\a+b<=9223372036854775807):aq .add (.int .i64 a) (.int .i64 b)=some (.int .i64 (a+b)):=by
 simp only [aq]; rw [if_pos trivial,dB h]
theorem cd {a b:Int} (h : -9223372036854775808<=a-b/\a-b<=9223372036854775807):aq .sub (.int .i64 a) (.int .i64 b)=some (.int .i64 (a-b)):=by
 simp only [aq]; rw [if_pos trivial,dB h]
theorem cj (a b:Int):aq .leq (.int .i64 a) (.int .i64 b)=some (.bool (decide (a<=b))):=by simp [aq]
theorem cC (a b:Int):aq .lss (.int .i64 a) (.int .i64 b)=some (.bool (decide (a<b))):=by simp [aq]
def M64:aG:=fun args=>evP (ai GC []) 300 HJ 1 args
theorem nH:ak Tryz.prog GC 58 M64:=ak.of_ev (E:=ai GC []) (aj aw) rfl at64 GE 1 fun _ _ h=>⟨300,h⟩
def isI (v x:Int):Bool:=decide (v=x)
theorem ir {xs:List Int} {b:AV} (hb:SlA 1 (ax xs) b) (hl:xs.length<=200) (v:Int):M64 [b,.int .i64 v]=some (.int .i64 (cH (isI v) xs)):=by
 have hlen:=hb.len
 rw [aH] at hlen
 have round:∀(A:ac) (i:Nat) (hi:i<xs.length),run (ai GC []) 300 [.code h9] (kc b (.int .i64 v) (.int .i64 (xs.length:Int)) (.int .i64 (i:Int))) A =
   if isI v xs[i]=false then some (.normal (kc b (.int .i64 v) (.int .i64 (xs.length:Int)) (.int .i64 ((i+1:Nat):Int))) A) else some (.ret [b,.int .i64 v,.int .i64 (i:Int),.int .i64 (i:Int),.int .i64 (xs.length:Int),.int .i64 (i:Int),.bool true,.bool true] A):=fun A i hi=>by
  have x1:=hb.int (A:=A) _ _ (List.getElem?_eq_getElem hi) .i64
  have m:=bI v xs[i]
  have b1:=bw i xs.length .i64
  rw [decide_eq_true hi] at b1
  have b3:=aY i (by omega)
  obtain ⟨i1,hi1⟩:∃i1:Nat,i1=i+1:=⟨_,rfl⟩
  rw [<-hi1] at b3 ⊢
  obtain ⟨d,hd⟩:∃d,d=isI v xs[i]:=⟨_,rfl⟩
  rw [show decide (v=xs[i])=d from hd.symm] at m
  rw [<-hd]
  cases d with
  | false=>simp [h9,x1,m,b1,b3,-aq,-au,-ay]
  | true=>simp [h9,x1,m,b1,-aq,-au,-ay]
 unfold M64
 rw [aS _ _ rfl]
 rcases cP (E:=ai GC []) (fuel:=300) (a:=h9) (mask:=gA) (fun i=>kc b (.int .i64 v) (.int .i64 (xs.length:Int)) (.int .i64 (i:Int))) (fun _=>[]) xs.length (fun i=>¬ ∀hi:i<xs.length,isI v xs[i]=false)
  (oF:=fun i=>.ret [b,.int .i64 v,.int .i64 (i:Int),.int .i64 (i:Int),.int .i64 (xs.length:Int),.int .i64 (i:Int),.bool true,.bool true] []) (oE:=.exit 0 ((kc b (.int .i64 v) (.int .i64 (xs.length:Int)) (.int .i64 (xs.length:Int))).set 6 (.bool false)) [])
  (fun _=>zm) (fun _ _ _ h=>by cases h) (fun _ _ h=>by cases h)
  (fun i hi hp=>by
   rw [round [] i hi]
   exact if_pos (Classical.not_not.1 hp hi))
  (fun i hi hp=>by
   rw [round [] i hi]
   exact if_neg fun h=>hp fun _=>h)
  (by simp [h9]) (show xs.length<300 by omega) with ⟨i,hi,hp,hj,lp⟩ | ⟨hp,lp⟩
 ·have lp:bM (evC (ai GC []) 300 h9) gA 300 (kc b (.int .i64 v) (.int .i64 (xs.length:Int)) (.int .i64 0)) []=_:=lp
  have e:cH (isI v) xs=(i:Int):=bu hi (by
   cases h':isI v xs[i] with
   | true=>rfl
   | false=>exact absurd (fun _=>h') hp) (fun j hj'=>Classical.not_not.1 (hj j hj') (by omega))
  rw [e]
  simp [HJ,hlen,yS lp,-aq,-ay]
 ·have lp:bM (evC (ai GC []) 300 h9) gA 300 (kc b (.int .i64 v) (.int .i64 (xs.length:Int)) (.int .i64 0)) []=_:=lp
  have e:cH (isI v) xs = -1:=bG fun i hi=>Classical.not_not.1 (hp i hi) hi
  rw [e]
  simp [HJ,hlen,yS lp,-aq,-ay]
def H0:List (FuncId × aD):=[(58,aF 4 M64)]
@[simp] theorem Jl:aI H0 58=some (aF 4 M64):=rfl
theorem A6:∀f M,aI H0 f=some M->an Tryz.prog GC f M:=ae (an.of_pure nH 4) aw
def M35:aG:=fun args=>evP (ai GC H0) 0 DA 1 args
theorem uk:ak Tryz.prog GC 43 M35:=ak.of_ev (E:=ai GC H0) (aj A6) rfl Kv vR 1 fun _ _ h=>⟨0,h⟩
theorem Ds (v:Int) (xs:List Int):xs.any (isI v)=decide (v∈xs):=by
 rw [Bool.eq_iff_iff,List.any_eq_true,decide_eq_true_eq]
 unfold isI
 constructor
 ·rintro ⟨x,hx,h⟩
  rw [of_decide_eq_true h]; exact hx
 ·exact fun h=>⟨v,h,by simp⟩
theorem Hq {xs:List Int} {b:AV} (hb:SlA 1 (ax xs) b) (hl:xs.length<=200) (v:Int):M35 [b,.int .i64 v]=some (.bool (decide (v∈xs))):=by
 have h:=ir hb hl v
 have b1:=iR (cH (isI v) xs)
 rw [ce,Ds] at b1
 have f1:∀A n,frz A n b=b:=fun A n=>hb.frz n
 obtain ⟨z,hz⟩:∃z,z=cH (isI v) xs:=⟨_,rfl⟩
 rw [<-hz] at h b1
 obtain ⟨d,hd⟩:∃d,d=decide (v∈xs):=⟨_,rfl⟩
 rw [<-hd] at b1 ⊢
 unfold M35
 rw [aS _ _ rfl]
 simp [DA,h,b1,f1,aT,bi,-aq,-frz]
def M43:aG:=fun args=>evP (ai GC []) 300 wQ 1 args
theorem D4:ak Tryz.prog GC 47 M43:=ak.of_ev (E:=ai GC []) (aj aw) rfl Ks vO 1 fun _ _ h=>⟨300,h⟩
theorem sM {xs ys:List Int} {a b:AV} (ha:SlA 1 (ax xs) a) (hb:SlA 1 (ax ys) b) (hl:xs.length<=200):M43 [a,b]=some (.bool (decide (xs=ys))):=by
 have hla:=ha.len
 have hlb:=hb.len
 rw [aH] at hla hlb
 have b0:aq .neq (.int .i64 (xs.length:Int)) (.int .i64 (ys.length:Int))=some (.bool (decide (xs.length≠ys.length))):=by
  rw [cJ]
  congr 2
  exact decide_eq_decide.2 (by omega)
 by_cases h0:xs.length≠ys.length
 ·rw [decide_eq_true h0] at b0
  rw [decide_eq_false (fun h=>h0 (by rw [h]))]
  unfold M43
  rw [aS _ _ rfl]
  simp [wQ,hla,hlb,b0,-aq,-ay]
 have h0:xs.length=ys.length:=Classical.not_not.1 h0
 rw [decide_eq_false (by omega)] at b0
 have round:∀(A:ac) (i:Nat) (hi:i<xs.length),run (ai GC []) 300 [.code dJ] (ei a b (.int .i64 (xs.length:Int)) (.int .i64 (i:Int))) A =
   if xs[i]=ys[i]'(by omega) then some (.normal (ei a b (.int .i64 (xs.length:Int)) (.int .i64 ((i+1:Nat):Int))) A) else some (.ret [a,b,.bool false,.int .i64 (i:Int),.undef,.int .i64 (xs.length:Int),.int .i64 (i:Int),.bool true,.bool true] A):=fun A i hi=>by
  have x1:=ha.int (A:=A) _ _ (List.getElem?_eq_getElem hi) .i64
  have x2:=hb.int (A:=A) _ _ (List.getElem?_eq_getElem (show i<ys.length by omega)) .i64
  have m:=cJ xs[i] (ys[i]'(by omega))
  have b1:=bw i xs.length .i64
  rw [decide_eq_true hi] at b1
  have b3:=aY i (by omega)
  obtain ⟨i1,hi1⟩:∃i1:Nat,i1=i+1:=⟨_,rfl⟩
  rw [<-hi1] at b3 ⊢
  by_cases hd:xs[i]=ys[i]'(by omega)
  ·rw [decide_eq_false (by simpa using hd)] at m
   rw [if_pos hd]
   simp [dJ,x1,x2,m,b1,b3,-aq,-au,-ay]
  ·rw [decide_eq_true (by simpa using hd)] at m
   rw [if_neg hd]
   simp [dJ,x1,x2,m,b1,-aq,-au,-ay]
 unfold M43
 rw [aS _ _ rfl]
 rcases cP (E:=ai GC []) (fuel:=300) (a:=dJ) (mask:=dh) (fun i=>ei a b (.int .i64 (xs.length:Int)) (.int .i64 (i:Int))) (fun _=>[]) xs.length (fun i=>¬ ∀(hi:i<xs.length),xs[i]=ys[i]'(by omega))
  (oF:=fun i=>.ret [a,b,.bool false,.int .i64 (i:Int),.undef,.int .i64 (xs.length:Int),.int .i64 (i:Int),.bool true,.bool true] []) (oE:=.exit 0 ((ei a b (.int .i64 (xs.length:Int)) (.int .i64 (xs.length:Int))).set 7 (.bool false)) [])
  (fun _=>mW) (fun _ _ _ h=>by cases h) (fun _ _ h=>by cases h)
  (fun i hi hp=>by
   rw [round [] i hi]
   exact if_pos (Classical.not_not.1 hp hi))
  (fun i hi hp=>by
   rw [round [] i hi]
   exact if_neg fun h=>hp fun _=>h)
  (by simp [dJ]) (show xs.length<300 by omega) with ⟨i,hi,hp,hj,lp⟩ | ⟨hp,lp⟩
 ·have lp:bM (evC (ai GC []) 300 dJ) dh 300 (ei a b (.int .i64 (xs.length:Int)) (.int .i64 0)) []=_:=lp
  rw [decide_eq_false (fun h=>hp (fun _=>by subst h; rfl))]
  simp [wQ,hla,hlb,b0,pP lp,-aq,-ay]
 ·have lp:bM (evC (ai GC []) 300 dJ) dh 300 (ei a b (.int .i64 (xs.length:Int)) (.int .i64 0)) []=_:=lp
  rw [decide_eq_true (List.ext_getElem h0 fun i h1 h2=>Classical.not_not.1 (hp i h1) h1)]
  simp [wQ,hla,hlb,b0,pP lp,-aq,-ay]
def H36:aD:=fun _=>bA (ai GC []) 0 xN
theorem rN:an Tryz.prog GC 44 H36:=(aN (aj aw) rfl Ic sE a5.nil).y
theorem Hz (h:aZ) {A:ac} {id n:Nat} {gr:Bool} {es:List AV} (hA:A[id]?=some (.row 1 gr es)):H36 h [.sl id 0 n] A=some (.csl id 0 n,A):=by
 unfold H36
 rw [bH _ _ rfl]
 have e:dk 1 A none (.int .i64 (n:Int)) (.int .i64 (n:Int)) (.sl id 0 n)=some (.csl id 0 n):=by
  simp [dk,bV,hA,cK,loB,hiB]
 simp [xN,e,-dk,eH]
def M44:aG:=fun args=>evP (ai GC []) 0 xM 1 args
theorem uj:ak Tryz.prog GC 48 M44:=ak.of_ev (E:=ai GC []) (aj aw) rfl Kr vN 1 fun _ _ h=>⟨0,h⟩
def df (T:bb):Int:=if T.blades=2 then T.pick+T.place else T.pick+T.travel+T.place
theorem Ho {T:bb} (chv:AV) (h:aX T):M44 [aA T chv]=some (.int .i64 (df T)):=by
 obtain ⟨_,⟨h1,h2,h3⟩,_⟩:=h
 obtain ⟨ch,pk,pl,tr,bl⟩:=T
 simp only at h1 h2 h3
 have b0:=bI bl 2
 have b1:=bh (a:=pk) (b:=pl) (by omega)
 have b2:=bh (a:=pk) (b:=tr) (by omega)
 have b3:=bh (a:=pk+tr) (b:=pl) (by omega)
 rw [show aA ⟨ch,pk,pl,tr,bl⟩ chv=.agg [chv,.int .i64 pk,.int .i64 pl,.int .i64 tr,.int .i64 bl] from rfl]
 have l:∀A:ac,A[0]?=some (.row 5 false [.agg [chv,.int .i64 pk,.int .i64 pl,.int .i64 tr,.int .i64 bl]])->af false 1 A (.ptr 0 0 1)=some (.int .i64 pk)/\af false 1 A (.ptr 0 0 2)=some (.int .i64 pl)/\af false 1 A (.ptr 0 0 3)=some (.int .i64 tr)/\af false 1 A (.ptr 0 0 4)=some (.int .i64 bl):=fun A hA=>by
  refine ⟨?_,?_,?_,?_⟩ <;> simp only [af,hA] <;> rfl
 obtain ⟨l1,l2,l3,l4⟩:=l [.row 5 false [.agg [chv,.int .i64 pk,.int .i64 pl,.int .i64 tr,.int .i64 bl]]] rfl
 obtain ⟨s1,hs1⟩:∃s,s=pk+pl:=⟨_,rfl⟩
 obtain ⟨s2,hs2⟩:∃s,s=pk+tr:=⟨_,rfl⟩
 obtain ⟨s3,hs3⟩:∃s,s=s2+pl:=⟨_,rfl⟩
 rw [<-hs1] at b1
 rw [<-hs2] at b2 b3
 rw [<-hs3] at b3
 have e:df ⟨ch,pk,pl,tr,bl⟩=if bl=2 then s1 else s3:=by
  unfold df; simp only; rw [hs3,hs2,hs1]
 rw [e]
 unfold M44
 rw [aS _ _ rfl]
 by_cases hb:bl=2
 ·rw [decide_eq_true hb] at b0
  rw [if_pos hb]
  simp [xM,b0,b1,l1,l2,l4,-aq,-af]
 ·rw [decide_eq_false hb] at b0
  rw [if_neg hb]
  simp [xM,b0,b2,b3,l1,l2,l3,l4,-aq,-af]
end Clu
namespace Clu
open Go
open Cy (GC iR cH bu bG ce aT bi aH)
def ext (n:Nat) (one:Bool):Nat->List Int->List (List Int)
 | 0,_=>[]
 | k+1,b=>if b.length=n+1 then [b] else (List.range' 1 n).flatMap fun (i:Nat)=>if !decide ((i:Int)∈b) && (one || decide (i=b.length)) then ext n one k (b++[(i:Int)]) else []
def aC (T:bb):List (List Int):=if aX T then ext T.ch.length (decide (T.blades=1)) (T.ch.length+1) [0] else []
theorem rk (n:Nat) (one:Bool) (hn:n<=4):∀(k:Nat) (b:List Int),(ext n one (k+1) b).length<=4 ^ k\/b.length+k<n+1
 | 0,b=>by
  unfold ext
  split
  ·left; simp
  ·by_cases h:b.length+0<n+1
   ·exact .inr h
   ·left
    rw [List.flatMap_eq_nil_iff.2 fun i _=>by split <;> rfl]
    simp
 | k+1,b=>by
  by_cases h:b.length+(k+1)<n+1
  ·exact .inr h
  left
  rw [ext]
  split
  ·have:1<=4 ^ (k+1):=Nat.one_le_pow _ _ (by omega)
   simpa using this
  ·have key:∀l:List Nat,(l.flatMap fun (i:Nat)=>if !decide ((i:Int)∈b) && (one || decide (i=b.length)) then ext n one (k+1) (b++[(i:Int)]) else []).length<=l.length*4 ^ k:=fun l=>by
    induction l with
    | nil=>simp
    | cons i l ih=>
     rw [List.flatMap_cons,List.length_append,List.length_cons,Nat.add_mul,Nat.one_mul]
     have:(if !decide ((i:Int)∈b) && (one || decide (i=b.length)) then ext n one (k+1) (b++[(i:Int)]) else []).length<=4 ^ k:=by
      split
      ·rcases rk n one hn k (b++[(i:Int)]) with h1 | h1
       ·exact h1
       ·simp at h1; omega
      ·simp
     omega
   refine Nat.le_trans (key _) ?_
   rw [List.length_range',Nat.pow_succ,Nat.mul_comm]
   exact Nat.mul_le_mul_left _ hn
def g7:Ent->Prop
 | .row _ _ (e :: _)=>(∀a b c,e≠.sl a b c)/\e≠.nilS
 | _=>False
def nC (A B:ac):Prop:=A.length<=B.length/\∀(j:Nat) (e:Ent),A[j]?=some e->g7 e->B[j]?=some e
theorem nC.refl (A:ac):nC A A:=⟨Nat.le_refl _,fun _ _ h _=>h⟩
theorem nC.trans {A B C:ac} (h:nC A B) (k:nC B C):nC A C:=⟨Nat.le_trans h.1 k.1,fun j e h1 h2=>k.2 j e (h.2 j e h1 h2) h2⟩
theorem nC.app (A:ac) (X:ac):nC A (A++X):=⟨by simp,fun j e h _=>by
 have:=(List.getElem?_eq_some_iff.1 h).1
 rw [List.getElem?_append_left this]; exact h⟩
theorem jI {l:List Int} (h:l≠[]) (s:Nat) (g:Bool):g7 (.row s g (ax l)):=by
 cases l with
 | nil=>exact absurd rfl h
 | cons x r=>simp [g7,ax]
theorem kq (s:Nat) (g:Bool) (a b c:Nat) (r:List AV):¬ g7 (.row s g (.sl a b c :: r)):=fun h=>h.1 a b c rfl
def xd (x:Nat × List Int):AV:=.sl x.1 0 x.2.length
def Dv (A:ac) (op:Nat) (v:AV) (pl:List (Nat × List Int)):Prop:=
 (∀x∈pl,x.2≠[]/\A[x.1]?=some (.row 1 false (ax x.2)))/\((v=.nilS/\pl=[])\/∃id gr,v=.sl id 0 pl.length/\id≠op/\pl≠[]/\A[id]?=some (.row 1 gr (pl.map xd)))
def iP (A:ac) (op:Nat) (ll:List (List Int)):Prop:=∃v pl,pl.map (·.2)=ll/\A[op]?=some (.row 1 false [v])/\Dv A op v pl
theorem iP.app {A:ac} {op:Nat} {ll:List (List Int)} (h:iP A op ll) (X:ac):iP (A++X) op ll:=by
 obtain ⟨v,pl,h1,h2,h3,h4⟩:=h
 have st:=(nC.app A X).2
 have hk:∀(j:Nat) (e:Ent),A[j]?=some e->(A++X)[j]?=some e:=fun j e h=>by
  rw [List.getElem?_append_left (List.getElem?_eq_some_iff.1 h).1]; exact h
 refine ⟨v,pl,h1,hk _ _ h2,fun x hx=>⟨(h3 x hx).1,hk _ _ (h3 x hx).2⟩,?_⟩
 rcases h4 with h4 | ⟨id,gr,h4,h5,h6,h7⟩
 ·exact .inl h4
 ·exact .inr ⟨id,gr,h4,h5,h6,hk _ _ h7⟩
theorem gw {A:ac} {op:Nat} {v:AV} (h:A[op]?=some (.row 1 false [v])) (hv:v=.nilS\/∃a b c,v=.sl a b c):af false 1 A (.ptr op 0 0)=some v:=by
 rcases hv with rfl | ⟨a,b,c,rfl⟩ <;> simp [h]
theorem Dv.form {A:ac} {op:Nat} {v:AV} {pl:List (Nat × List Int)} (h:Dv A op v pl):v=.nilS\/∃a b c,v=.sl a b c:=by
 rcases h.2 with h | ⟨id,gr,h,_⟩
 ·exact .inl h.1
 ·exact .inr ⟨_,_,_,h⟩
theorem iP.add {A:ac} {op:Nat} {ll:List (List Int)} (h:iP A op ll) {l:List Int} (hl:l≠[]) (hb:ll.length<=100000) {r y:Nat} (hr:A[r]?=some (.row 1 false (ax l))) (hy:A[y]?=some (.row 1 false [.sl r 0 l.length])) (hyo:y≠op) :
  ∃v id n A3,A[op]?=some (.row 1 false [v])/\(v=.nilS\/∃a b c,v=.sl a b c)/\aO 1 24 A v (.sl y 0 1)=some (.sl id 0 n,A3)/\A3[op]?=some (.row 1 false [v]) /\
   iP (A3.set op (.row 1 false [.sl id 0 n])) op (ll++[l])/\nC A (A3.set op (.row 1 false [.sl id 0 n])):=by
 obtain ⟨v,pl,h1,h2,h3⟩:=h
 have hf:=h3.form
 obtain ⟨h3,h4⟩:=h3
 have hsrc:aQ 1 A (.sl y 0 1)=some [.sl r 0 l.length]:=by simp [aQ,hy]
 have hop:op<A.length:=(List.getElem?_eq_some_iff.1 h2).1
 have hnp:¬ g7 (.row 1 false [v]):=by
  rcases hf with rfl | ⟨a,b,c,rfl⟩
  ·exact fun h=>h.2 rfl
  ·exact kq _ _ _ _ _ _
 have hne:∀j (m:List Int),m≠[]->A[j]?=some (.row 1 false (ax m))->j≠op:=fun j m hm hj e=>by
  subst e
  rw [h2] at hj
  injection hj with hj
  exact hnp (hj ▸ jI hm 1 false)
 have hll:pl.length=ll.length:=by rw [<-h1]; simp
 rcases h4 with ⟨rfl,rfl⟩ | ⟨id,gr,rfl,hid,hpl,hrow⟩
 ·have ho:(A++[Ent.row 1 false [AV.sl r 0 l.length]])[op]?=some (.row 1 false [.nilS]):=by rw [List.getElem?_append_left hop]; exact h2
  refine ⟨.nilS,A.length,1,A++[.row 1 false [.sl r 0 l.length]],h2,.inl rfl,?_,ho,?_,?_⟩
  ·unfold aO; rw [hsrc]; simp
  ·have hset:∀j,j≠op->((A++[Ent.row 1 false [AV.sl r 0 l.length]]).set op (.row 1 false [.sl A.length 0 1]))[j]?=(A++[Ent.row 1 false [AV.sl r 0 l.length]])[j]?:=fun j hj=>List.getElem?_set_ne (fun e=>hj e.symm)
   refine ⟨.sl A.length 0 1,[(r,l)],by rw [<-h1]; rfl,by rw [List.getElem?_set_self (by simp; omega)],fun x hx=>?_,.inr ⟨A.length,false,rfl,by omega,by simp,?_⟩⟩
   ·rw [List.mem_singleton] at hx
    subst hx
    refine ⟨hl,?_⟩
    rw [hset _ (hne _ _ hl hr),List.getElem?_append_left (List.getElem?_eq_some_iff.1 hr).1]
    exact hr
   ·rw [hset _ (by omega)]
    simp [xd]
  ·refine ⟨by simp,fun j e hj he=>?_⟩
   have:j≠op:=fun e'=>by
    subst e'; rw [h2] at hj; injection hj with hj; exact hnp (hj ▸ he)
   rw [List.getElem?_set_ne (fun e'=>this e'.symm),List.getElem?_append_left (List.getElem?_eq_some_iff.1 hj).1]
   exact hj
 ·have hidl:id<A.length:=(List.getElem?_eq_some_iff.1 hrow).1
  have hlen:0<pl.length:=List.length_pos_iff.2 hpl
  have hnp2:¬ g7 (.row 1 gr (pl.map xd)):=by
   cases pl with
   | nil=>exact absurd rfl hpl
   | cons x r=>exact kq _ _ _ _ _ _
  have hnid:∀j (m:List Int),m≠[]->A[j]?=some (.row 1 false (ax m))->j≠id:=fun j m hm hj e=>by
   subst e
   rw [hrow] at hj
   injection hj with hj
   exact hnp2 (hj ▸ jI hm 1 false)
  refine ⟨.sl id 0 pl.length,id,pl.length+1,A.set id (.row 1 true (pl.map xd++[.sl r 0 l.length])),h2,.inr ⟨_,_,_,rfl⟩,?_,?_,?_,?_⟩
  ·have hz:pl.length≠0:=by omega
   have hb2:(pl.length+1)*24<=140737488355328:=by omega
   unfold aO; rw [hsrc]; simp [hrow,hz,hb2]
  ·rw [List.getElem?_set_ne hid]; exact h2
  ·have hset:∀j,j≠op->j≠id->((A.set id (Ent.row 1 true (pl.map xd++[AV.sl r 0 l.length]))).set op (.row 1 false [.sl id 0 (pl.length+1)]))[j]?=A[j]?:=fun j hj hj2=>by
    rw [List.getElem?_set_ne (fun e=>hj e.symm),List.getElem?_set_ne (fun e=>hj2 e.symm)]
   refine ⟨.sl id 0 (pl.length+1),pl++[(r,l)],by rw [<-h1]; simp,by rw [List.getElem?_set_self (by simpa using hop)],fun x hx=>?_,.inr ⟨id,true,by simp,hid,by simp,?_⟩⟩
   ·rcases List.mem_append.1 hx with hx | hx
    ·have:=h3 x hx
     exact ⟨this.1,by rw [hset _ (hne _ _ this.1 this.2) (hnid _ _ this.1 this.2)]; exact this.2⟩
    ·rw [List.mem_singleton] at hx
     subst hx
     exact ⟨hl,by rw [hset _ (hne _ _ hl hr) (hnid _ _ hl hr)]; exact hr⟩
   ·rw [List.getElem?_set_ne (fun e=>hid e.symm),List.getElem?_set_self hidl,List.map_append]
    rfl
  ·refine ⟨by simp,fun j e hj he=>?_⟩
   have n1:j≠op:=fun e'=>by
    subst e'; rw [h2] at hj; injection hj with hj; exact hnp (hj ▸ he)
   have n2:j≠id:=fun e'=>by
    subst e'; rw [hrow] at hj; injection hj with hj; exact hnp2 (hj ▸ he)
   rw [List.getElem?_set_ne (fun e=>n1 e.symm),List.getElem?_set_ne (fun e=>n2 e.symm)]
   exact hj
end Clu
namespace Clu
open Go
open Cy (GC iR cH bu bG ce aT bi aH)
def km (np op cp ep:Nat):AV:=.func (.func 42) [] [.ptr np 0 0,.ptr op 0 0,.ptr cp 0 0,.ptr ep 0 0]
structure X34 (A:ac) (np op cp ep n:Nat) (T:bb) (chv:AV):Prop where
 hn:A[np]?=some (.row 1 false [.int .i64 (n:Int)])
 hc:A[cp]?=some (.row 5 false [aA T chv])
 he:A[ep]?=some (.row 1 false [km np op cp ep])
theorem X34.step {A B:ac} {np op cp ep n:Nat} {T:bb} {chv:AV} (h:X34 A np op cp ep n T chv) (s:nC A B):X34 B np op cp ep n T chv:=
 ⟨s.2 _ _ h.hn (by simp [g7]),s.2 _ _ h.hc (by simp [g7,aA]),s.2 _ _ h.he (by simp [g7,km])⟩
def re:List (FuncId × aD):=[(43,aF 4 M35),(44,H36)]
def H34:Nat->aD
 | 0=>fun h=>bA (ee GC re h) 40 BR
 | k+1=>fun h=>bA (ee GC ((42,H34 k) :: re) h) 40 BR
theorem rR:∀f M,aI re f=some M->an Tryz.prog GC f M:=ae (an.of_pure uk 4) (ae rN aw)
theorem yB:∀k,an Tryz.prog GC 42 (H34 k)
 | 0=>dE rR Ms zi
 | k+1=>dE (ae (yB k) rR) Ms zi
theorem lz {A:ac} {id:Nat} {g:Bool} {b:List Int} (h:A[id]?=some (.row 1 g (ax b))) (n:Nat):frz A (n+1) (.sl id 0 b.length)=.fs 1 (ax b):=by
 have e:((ax b).drop 0).take b.length=ax b:=by
  rw [List.drop_zero,<-aH b,List.take_length]
 have hm:∀l:List Int,(ax l).map (frz A n)=ax l:=fun l=>by
  unfold ax
  rw [List.map_map]
  exact List.map_congr_left fun x _=>aT A n .i64 x
 simp only [frz,h]
 rw [e,hm]
theorem yM (fs:List (FuncId × aD)) (h:aZ) {A:ac} {np op cp ep n id:Nat} {T:bb} {chv:AV} (hX:X34 A np op cp ep n T chv) {ll:List (List Int)} (ho:iP A op ll) {b:List Int} (hb:A[id]?=some (.row 1 false (ax b))) (hlen:b.length=n+1) (hn4:n<=4) (hll:ll.length<=100000) :
  ∃B,bA (ee GC fs h) 40 BR [.sl id 0 b.length,.ptr np 0 0,.ptr op 0 0,.ptr cp 0 0,.ptr ep 0 0] A=some (.tup [],B)/\iP B op (ll++[b])/\nC A B:=by
 have hbne:b≠[]:=fun e=>by rw [e] at hlen; simp at hlen
 have l0:af false 1 A (.ptr np 0 0)=some (.int .i64 (n:Int)):=by simp [hX.hn]
 have b1:=aY n (by omega)
 have b2:aq .eql (.int .i64 (b.length:Int)) (.int .i64 ((n+1:Nat):Int))=some (.bool true):=by rw [bI,decide_eq_true (by omega)]
 have e1:cg 1 8 (.int .i64 0) A (.int .i64 ((n+1:Nat):Int)) (.int .i64 ((n+1:Nat):Int))=some (.sl A.length 0 b.length,A++[.row 1 false (List.replicate b.length (.int .i64 0))]):=by
  rw [hlen]
  simp only [cg]
  rw [if_pos ⟨by omega,by omega,by omega,by omega,rfl,rfl,by omega⟩]
  simp
 have e2:kE 1 (A++[.row 1 false (List.replicate b.length (.int .i64 0))]) (.sl A.length 0 b.length) (.sl id 0 b.length)=some (.int .i64 (b.length:Int),A++[.row 1 false (ax b)]):=by
  have hs:aQ 1 (A++[Ent.row 1 false (List.replicate b.length (AV.int .i64 0))]) (.sl id 0 b.length)=some (ax b):=by
   rw [qG (gr:=false) (es:=ax b) (by rw [List.getElem?_append_left (List.getElem?_eq_some_iff.1 hb).1]; exact hb)]
   rw [List.drop_zero,<-aH b,List.take_length]
  simp only [kE,hs]
  rw [List.getElem?_concat_length]
  simp only
  rw [if_pos ⟨trivial,by omega,trivial⟩,aH,Nat.min_self]
  congr 2
  rw [List.set_append_right _ _ (Nat.le_refl _),Nat.sub_self]
  simp only [List.set_cons_zero,List.take_zero,List.nil_append,Nat.zero_add]
  rw [<-aH b,List.take_length,List.drop_of_length_le (by simp),List.append_nil]
 obtain ⟨A1,hA1⟩:∃X,X=A++[Ent.row 1 false (ax b)]:=⟨_,rfl⟩
 have hl1:A1.length=A.length+1:=by rw [hA1]; simp
 have e3:a8 1 [.sl A.length 0 b.length] A1=some (.sl (A.length+1) 0 1,A1++[.row 1 false [.sl A.length 0 b.length]]):=by
  simp [a8,hl1]
 have hop:op<A.length:=by obtain ⟨v,pl,_,h2,_⟩:=ho; exact (List.getElem?_eq_some_iff.1 h2).1
 have ho2:iP (A1++[.row 1 false [.sl A.length 0 b.length]]) op ll:=by rw [hA1]; exact (ho.app _).app _
 obtain ⟨v,id2,n2,A3,k1,k2,k3,k4,k5,k6⟩:=ho2.add hbne hll (r:=A.length) (y:=A.length+1) (by rw [hA1]; simp) (by rw [hA1]; simp) (by omega)
 have l1:af false 1 A1 (.ptr op 0 0)=some v:=gw (by rw [<-k1,List.getElem?_append_left (by omega)]) k2
 have e5:aE 1 A3 (.ptr op 0 0) (.sl id2 0 n2)=some (A3.set op (.row 1 false [.sl id2 0 n2])):=by
  rcases k2 with rfl | ⟨_,_,_,rfl⟩ <;> simp [k4]
 obtain ⟨A2,hA2⟩:∃X,X=A1++[Ent.row 1 false [.sl A.length 0 b.length]]:=⟨_,rfl⟩
 obtain ⟨B,hB⟩:∃X,X=A3.set op (.row 1 false [.sl id2 0 n2]):=⟨_,rfl⟩
 obtain ⟨A0,hA0⟩:∃X,X=A++[Ent.row 1 false (List.replicate b.length (AV.int .i64 0))]:=⟨_,rfl⟩
 have hst:nC A A2:=by rw [hA2,hA1,List.append_assoc]; exact nC.app _ _
 rw [<-hA2] at e3 k3 k6
 rw [<-hB] at e5 k5 k6
 rw [<-hA0] at e1 e2
 rw [<-hA1] at e2
 refine ⟨B,?_,k5,hst.trans k6⟩
 rw [bH _ _ rfl]
 obtain ⟨n1,hn1⟩:∃x,x=n+1:=⟨_,rfl⟩
 rw [<-hn1] at b1 b2 e1
 obtain ⟨bl,hbl⟩:∃x,x=b.length:=⟨_,rfl⟩
 rw [<-hbl] at b2 e1 e2 e3 ⊢
 obtain ⟨r1,hr1⟩:∃x,x=A.length:=⟨_,rfl⟩
 rw [<-hr1] at e1 e2 e3 k3
 obtain ⟨r2,hr2⟩:∃x,x=r1+1:=⟨_,rfl⟩
 rw [<-hr2] at e3 k3
 simp [BR,l0,l1,b1,b2,e1,e2,e3,k3,e5,-aq,-af,-aE,-cg,-a8]
theorem rv {A:ac} {id:Nat} {g:Bool} {b:List Int} (h:A[id]?=some (.row 1 g (ax b))) (hb:b.length<=1000) (x:Int):cF 1 8 A (.csl id 0 b.length) (.fs 1 [.int .i64 x])=some (.sl A.length 0 (b.length+1),A++[.row 1 false (ax (b++[x]))]):=by
 have e:((ax b).drop 0).take b.length=ax b:=by
  rw [List.drop_zero,<-aH b,List.take_length]
 have hb2:(b.length+1)*8<=140737488355328:=by omega
 simp only [cF,du,h,e]
 rw [if_pos ⟨trivial,by omega,by omega,by simp,by simpa using hb2⟩]
 simp [ax]
theorem Bp {h:aZ} {fs:List (FuncId × aD)} {H:aD} (hH:aI fs 42=some H) (h35:aI fs 43=some (aF 4 M35)) (h36:aI fs 44=some H36) {A:ac} {np op cp ep n id:Nat} {T:bb} {chv:AV} (hX:X34 A np op cp ep n T chv) {b:List Int} (hb:A[id]?=some (.row 1 false (ax b))) (hbl:b.length<=100) {i:Nat} (hi:i<=n) (hn4:n<=4) {B:ac}
  (hr:(!decide ((i:Int)∈b) && (decide (T.blades=1) || decide (i=b.length)))=true->H h [.sl A.length 0 (b.length+1),.ptr np 0 0,.ptr op 0 0,.ptr cp 0 0,.ptr ep 0 0] (A++[.row 1 false (ax (b++[(i:Int)]))])=some (.tup [],B))
  (hr0:(!decide ((i:Int)∈b) && (decide (T.blades=1) || decide (i=b.length)))=false->B=A) (hkeep:B[ep]?=A[ep]?) :
  run (ee GC fs h) 40 [.code ge] (lO (.sl id 0 b.length) (.ptr np 0 0) (.ptr cp 0 0) (.ptr ep 0 0) (.int .i64 (i:Int))) A=some (.normal (lO (.sl id 0 b.length) (.ptr np 0 0) (.ptr cp 0 0) (.ptr ep 0 0) (.int .i64 ((i+1:Nat):Int))) B):=by
 obtain ⟨ch,pk,pl,tr,bd⟩:=T
 have l0:af false 1 A (.ptr np 0 0)=some (.int .i64 (n:Int)):=by simp [hX.hn]
 have hc:A[cp]?=some (.row 5 false [.agg [chv,.int .i64 pk,.int .i64 pl,.int .i64 tr,.int .i64 bd]]):=hX.hc
 have l1:af false 1 A (.ptr cp 0 4)=some (.int .i64 bd):=by simp [hc]
 have l2:af false 1 A (.ptr ep 0 0)=some (km np op cp ep):=by simp [hX.he,km]
 have b0:aq .leq (.int .i64 (i:Int)) (.int .i64 (n:Int))=some (.bool true):=by rw [cj,decide_eq_true (by omega)]
 have b3:=aY i (by omega)
 have f1:=lz hb 3
 have f2:∀A,frz A 4 (.int .i64 (i:Int))=.int .i64 (i:Int):=fun A=>aT A 4 .i64 i
 have m:=Hq (xs:=b) (b:=.fs 1 (ax b)) (.inr rfl) (by omega) (i:Int)
 have b1:aq .eql (.int .i64 bd) (.int .i64 1)=some (.bool (decide (bd=1))):=bI _ _
 have b2:aq .eql (.int .i64 (i:Int)) (.int .i64 (b.length:Int))=some (.bool (decide (i=b.length))):=by
  rw [bI]; congr 2; exact decide_eq_decide.2 (by omega)
 have c1:=Hz h (n:=b.length) hb
 have c2:=rv hb (by omega) (i:Int)
 have ne1:¬ ep=A.length:=by have:=(List.getElem?_eq_some_iff.1 hX.he).1; omega
 have ne2:¬ ep=id:=fun e=>by
  have h1:=hX.he
  rw [e,hb] at h1
  injection h1 with h1
  injection h1 with _ _ h1
  cases b with
  | nil=>cases h1
  | cons x r=>injection h1 with h1; cases h1
 simp only at hr hr0
 obtain ⟨i1,hi1⟩:∃i1:Nat,i1=i+1:=⟨_,rfl⟩
 rw [<-hi1] at b3 ⊢
 obtain ⟨d1,h1⟩:∃d,d=decide ((i:Int)∈b):=⟨_,rfl⟩
 rw [<-h1] at m hr hr0
 obtain ⟨d2,h2⟩:∃d,d=decide (bd=1):=⟨_,rfl⟩
 rw [<-h2] at b1 hr hr0
 obtain ⟨d3,h3⟩:∃d,d=decide (i=b.length):=⟨_,rfl⟩
 rw [<-h3] at b2 hr hr0
 obtain ⟨A1,hA1⟩:∃X,X=A++[Ent.row 1 false (ax (b++[(i:Int)]))]:=⟨_,rfl⟩
 have k1:A1[ep]?=A[ep]?:=by rw [hA1,List.getElem?_append_left (List.getElem?_eq_some_iff.1 hX.he).1]
 rw [<-hA1] at c2 hr
 obtain ⟨r,hrr⟩:∃x,x=A.length:=⟨_,rfl⟩
 rw [<-hrr] at c2 hr
 obtain ⟨bl,hbl⟩:∃x,x=b.length:=⟨_,rfl⟩
 rw [<-hbl] at b2 c1 c2 f1 hr ⊢
 obtain ⟨bl1,hbl1⟩:∃x,x=bl+1:=⟨_,rfl⟩
 rw [<-hbl1] at c2 hr
 obtain ⟨F,hF⟩:∃x,x=AV.fs 1 (ax b):=⟨_,rfl⟩
 rw [<-hF] at m f1
 cases d1 with
 | true=>
  have:=hr0 rfl; subst this
  cases d2 <;> cases d3 <;> simp [ge,l0,b0,b3,f1,f2,h35,m,-frz,-aq,-af]
 | false=>
  cases d2 with
  | true=>
   have hr:=hr rfl
   simp [ge,l0,l1,l2,b0,b1,b3,f1,f2,h35,h36,hH,m,hc,c1,c2,hr,km,ne1,ne2,-frz,-aq,-af]
  | false=>
   cases d3 with
   | true=>
    have hr:=hr rfl
    simp [ge,l0,l1,l2,b0,b1,b2,b3,f1,f2,h35,h36,hH,m,hc,c1,c2,hr,km,ne1,ne2,-frz,-aq,-af]
   | false=>
    have:=hr0 rfl; subst this
    simp [ge,l0,l1,b0,b1,b2,b3,f1,f2,h35,m,hc,-frz,-aq,-af]
def fE (n:Nat) (one:Bool) (k:Nat) (b:List Int) (i:Nat):List (List Int):=if !decide ((i:Int)∈b) && (one || decide (i=b.length)) then ext n one k (b++[(i:Int)]) else []
theorem Mp (h:aZ) {np op cp ep n:Nat} {T:bb} {chv:AV} (hn4:n<=4) (d:Nat):∀(k:Nat) {A:ac} {ll:List (List Int)} {id:Nat} {b:List Int},b.length+k=n+1->1<=b.length->X34 A np op cp ep n T chv->iP A op ll->A[id]?=some (.row 1 false (ax b))->ll.length+4 ^ k<=100000 ->
  ∃B,H34 (d+k) h [.sl id 0 b.length,.ptr np 0 0,.ptr op 0 0,.ptr cp 0 0,.ptr ep 0 0] A=some (.tup [],B)/\iP B op (ll++ext n (decide (T.blades=1)) (k+1) b)/\nC A B
 | 0,A,ll,id,b,hk,hb1,hX,ho,hb,hll=>by
  have e:ext n (decide (T.blades=1)) (0+1) b=[b]:=by unfold ext; rw [if_pos (by omega)]
  rw [e]
  cases d with
  | zero=>exact yM _ h hX ho hb (by omega) hn4 (by omega)
  | succ d=>exact yM _ h hX ho hb (by omega) hn4 (by omega)
 | k+1,A,ll,id,b,hk,hb1,hX,ho,hb,hll=>by
  have hbne:b≠[]:=fun e=>by rw [e] at hb1; simp at hb1
  have e:ext n (decide (T.blades=1)) (k+1+1) b=(List.range' 1 n).flatMap (fE n (decide (T.blades=1)) (k+1) b):=by
   rw [ext,if_neg (by omega)]; rfl
  rw [e]
  have loop:∀(c i:Nat) (A:ac) (ll:List (List Int)) (m:Nat),i+c=n+1->X34 A np op cp ep n T chv->iP A op ll->A[id]?=some (.row 1 false (ax b))->ll.length+c*4 ^ k<=100000->c<m ->
    ∃B,bM (evC (ee GC ((42,H34 (d+k)) :: re) h) 40 ge) jc m (lO (.sl id 0 b.length) (.ptr np 0 0) (.ptr cp 0 0) (.ptr ep 0 0) (.int .i64 (i:Int))) A=some (.exit 0 ((lO (.sl id 0 b.length) (.ptr np 0 0) (.ptr cp 0 0) (.ptr ep 0 0) (.int .i64 ((n+1:Nat):Int))).set 8 (.bool false)) B) /\
     iP B op (ll++(List.range' i c).flatMap (fE n (decide (T.blades=1)) (k+1) b))/\nC A B:=by
   intro c
   induction c with
   | zero=>
    intro i A ll m hi hX ho hb hll hm
    obtain ⟨m,rfl⟩:∃j,m=j+1:=⟨m-1,by omega⟩
    refine ⟨A,?_,by simpa using ho,nC.refl _⟩
    have l0:af false 1 A (.ptr np 0 0)=some (.int .i64 (n:Int)):=by simp [hX.hn]
    have b0:aq .leq (.int .i64 ((n+1:Nat):Int)) (.int .i64 (n:Int))=some (.bool false):=by rw [cj,decide_eq_false (by omega)]
    obtain rfl:i=n+1:=by omega
    obtain ⟨i1,hi1⟩:∃i1:Nat,i1=n+1:=⟨_,rfl⟩
    rw [<-hi1] at b0 ⊢
    rw [aK,vY]
    simp [ge,l0,b0,-aq,-af]
   | succ c ihc=>
    intro i A ll m hi hX ho hb hll hm
    obtain ⟨m,rfl⟩:∃j,m=j+1:=⟨m-1,by omega⟩
    rw [Nat.add_mul,Nat.one_mul] at hll
    have hrow:∀(j:Nat) (e:Ent),A[j]?=some e->g7 e->(A++[Ent.row 1 false (ax (b++[(i:Int)]))])[j]?=some e:=(nC.app A _).2
    have hst:=nC.app A [Ent.row 1 false (ax (b++[(i:Int)]))]
    obtain ⟨B,hB1,hB2,hB3,hB4⟩:∃B,((!decide ((i:Int)∈b) && (decide (T.blades=1) || decide (i=b.length)))=true->H34 (d+k) h [.sl A.length 0 (b.length+1),.ptr np 0 0,.ptr op 0 0,.ptr cp 0 0,.ptr ep 0 0] (A++[.row 1 false (ax (b++[(i:Int)]))])=some (.tup [],B)) /\
      ((!decide ((i:Int)∈b) && (decide (T.blades=1) || decide (i=b.length)))=false->B=A)/\iP B op (ll++fE n (decide (T.blades=1)) (k+1) b i)/\nC A B:=by
     by_cases hd:(!decide ((i:Int)∈b) && (decide (T.blades=1) || decide (i=b.length)))=true
     ·obtain ⟨B,h1,h2,h3⟩:=Mp h hn4 d k (A:=A++[.row 1 false (ax (b++[(i:Int)]))]) (ll:=ll) (id:=A.length) (b:=b++[(i:Int)]) (by simp; omega) (by simp) (hX.step hst) (ho.app _) (by simp) (by omega)
      rw [List.length_append,List.length_singleton] at h1
      refine ⟨B,fun _=>h1,fun e=>(by rw [hd] at e; cases e),?_,hst.trans h3⟩
      unfold fE
      rw [if_pos hd]; exact h2
     ·refine ⟨A,fun e=>absurd e hd,fun _=>rfl,?_,nC.refl _⟩
      unfold fE
      rw [if_neg hd,List.append_nil]; exact ho
    have hX2:=hX.step hB4
    have hb2:=hB4.2 _ _ hb (jI hbne 1 false)
    have hr:=Bp (fs:=(42,H34 (d+k)) :: re) (h:=h) rfl rfl rfl hX hb (by omega) (i:=i) (by omega) hn4 hB1 hB2 (by rw [hX2.he,hX.he])
    have hfl:(fE n (decide (T.blades=1)) (k+1) b i).length<=4 ^ k:=by
     unfold fE
     split
     ·rcases rk n (decide (T.blades=1)) hn4 k (b++[(i:Int)]) with h1 | h1
      ·exact h1
      ·simp at h1; omega
     ·simp
    obtain ⟨C,c1,c2,c3⟩:=ihc (i+1) B _ m (by omega) hX2 hB3 hb2 (by rw [List.length_append]; omega) (by omega)
    refine ⟨C,?_,?_,hB4.trans c3⟩
    ·rw [aK,vY,hr]
     exact c1
    ·rw [List.range'_succ,List.flatMap_cons,<-List.append_assoc]
     exact c2
  have hp:n*4 ^ k<=4 ^ (k+1):=by
   rw [Nat.pow_succ,Nat.mul_comm]
   exact Nat.mul_le_mul_left _ hn4
  obtain ⟨B,h1,h2,h3⟩:=loop n 1 A ll 40 (by omega) hX ho hb (by omega) (by omega)
  refine ⟨B,?_,h2,h3⟩
  have l0:af false 1 A (.ptr np 0 0)=some (.int .i64 (n:Int)):=by simp [hX.hn]
  have b1:=aY n (by omega)
  have b2:aq .eql (.int .i64 (b.length:Int)) (.int .i64 ((n+1:Nat):Int))=some (.bool false):=by rw [bI,decide_eq_false (by omega)]
  obtain ⟨n1,hn1⟩:∃x,x=n+1:=⟨_,rfl⟩
  rw [<-hn1] at b1 b2 h1
  rw [show H34 (d+(k+1))=fun h=>bA (ee GC ((42,H34 (d+k)) :: re) h) 40 BR from rfl]
  simp only
  rw [bH _ _ rfl]
  have h1:bM (evC (ee GC ((42,H34 (d+k)) :: re) h) 40 ge) jc 40 (lO (.sl id 0 b.length) (.ptr np 0 0) (.ptr cp 0 0) (.ptr ep 0 0) (.int .i64 1)) A=_:=h1
  simp [BR,l0,b1,b2,FM h1,-aq,-af]
end Clu
namespace Clu
open Go
open Cy (GC iR cH bu bG ce aT bi aH)
def fG (ll:List (List Int)):AV:=slA 1 (ll.map fun l=>slA 1 (ax l))
theorem Eg {l:List Int} (h:l≠[]):slA 1 (ax l)=.fs 1 (ax l):=by
 cases l with
 | nil=>exact absurd rfl h
 | cons x r=>rfl
theorem Dv.frz {A:ac} {op:Nat} {v:AV} {pl:List (Nat × List Int)} (h:Dv A op v pl) (k:Nat):Proofs.YtfkcoekicjjndaaGreat.frz A (k+3) v=fG (pl.map (·.2)):=by
 obtain ⟨h1,h2⟩:=h
 rcases h2 with ⟨rfl,rfl⟩ | ⟨id,gr,rfl,_,hne,hr⟩
 ·rfl
 ·have e:((pl.map xd).drop 0).take pl.length=pl.map xd:=by
   rw [List.drop_zero]
   conv=>lhs; rw [show pl.length=(pl.map xd).length by simp]
   rw [List.take_length]
  have hm:(pl.map xd).map (Proofs.YtfkcoekicjjndaaGreat.frz A (k+2))=(pl.map (·.2)).map fun l=>slA 1 (ax l):=by
   rw [List.map_map,List.map_map]
   refine List.map_congr_left fun x hx=>?_
   obtain ⟨n1,n2⟩:=h1 x hx
   show Proofs.YtfkcoekicjjndaaGreat.frz A (k+1+1) (.sl x.1 0 x.2.length)=_
   rw [lz n2]
   exact (Eg n1).symm
  rw [show k+3=(k+2)+1 from rfl]
  simp only [Proofs.YtfkcoekicjjndaaGreat.frz,hr]
  rw [e,hm]
  unfold fG
  cases pl with
  | nil=>exact absurd rfl hne
  | cons x r=>rfl
theorem tj {A:ac} {id:Nat} {g:Bool} {b:List Int} (h:A[id]?=some (.row 1 g (ax b))) (n:Nat):a9 A (n+2) (.sl id 0 b.length)=true:=by
 simp only [a9,h,List.drop_zero,List.all_eq_true]
 intro x hx
 obtain ⟨y,_,rfl⟩:=List.mem_map.1 (List.mem_of_mem_take hx)
 rfl
theorem Dv.fresh {A:ac} {op:Nat} {v:AV} {pl:List (Nat × List Int)} (h:Dv A op v pl) (k:Nat):a9 A (k+4) v=true:=by
 obtain ⟨h1,h2⟩:=h
 rcases h2 with ⟨rfl,rfl⟩ | ⟨id,gr,rfl,_,hne,hr⟩
 ·rfl
 ·rw [show k+4=(k+3)+1 from rfl]
  simp only [a9,hr,List.drop_zero]
  rw [List.all_eq_true]
  intro y hy
  obtain ⟨x,hx,rfl⟩:=List.mem_map.1 (List.mem_of_mem_take hy)
  obtain ⟨n1,n2⟩:=h1 x hx
  exact tj n2 (k+1)
def vo:List (FuncId × aD):=[(41,aF 4 M16),(42,H34 4)]
@[simp] theorem Kh:aI vo 41=some (aF 4 M16):=rfl
@[simp] theorem Kd:aI vo 42=some (H34 4):=rfl
theorem qM:∀f M,aI vo f=some M->an Tryz.prog GC f M:=ae (an.of_pure po 4) (ae (yB 4) aw)
def M14:aG:=fun args=>evF (ai GC vo) 0 wU 4 args
theorem nL:br Tryz.prog GC 15 M14:=br.of_ev (E:=ai GC vo) (aj qM) rfl KS vU 4 fun _ _ h=>⟨0,h⟩
theorem a7 {T:bb} {chv:AV} (h:∀A n,frz A n chv=chv) (A:ac) (n:Nat):frz A (n+1) (aA T chv)=aA T chv:=by
 simp [aA,frz,h,aT]
theorem cn {T:bb} {chv:AV} (h:∀n,bq n chv=true) (n:Nat):bq (n+1) (aA T chv)=true:=by
 simp [aA,bq,h]
theorem _root_.Go.Proofs.YtfkcoekicjjndaaGreat.SlA.noRef {e:Nat} {xs:List AV} {a:AV} (h:SlA e xs a) (n:Nat):bq n a=true:=by
 rcases h with ⟨rfl,_⟩ | rfl <;> cases n <;> rfl
theorem wN {T:bb} {chv:AV} (hb:SlA 2 (T.ch.map chA) chv) (hl:T.ch.length<=200):M14 [aA T chv]=some (fG (aC T)):=by
 have m:=wM hb hl
 have hlen:=hb.len
 rw [List.length_map] at hlen
 have ft:=fun A=>a7 (T:=T) (fun A n=>hb.frz (A:=A) n) A 3
 have nr:=cn (T:=T) (fun n=>hb.noRef n) 3
 unfold M14 aC
 by_cases hv:aX T
 ·rw [if_pos hv]
  rw [decide_eq_true hv] at m
  have hn4:=hv.2.2.2.1
  obtain ⟨A0,hA0⟩:∃X:ac,X=[.row 5 false [aA T chv],.row 1 false [.int .i64 (T.ch.length:Int)],.row 1 false [.nilS],.row 1 false [km 1 2 0 3],.row 1 false [.int .i64 0]]:=⟨_,rfl⟩
  have hX:X34 A0 1 2 0 3 T.ch.length T chv:=by rw [hA0]; exact ⟨rfl,rfl,rfl⟩
  have ho:iP A0 2 []:=⟨.nilS,[],rfl,by rw [hA0]; rfl,fun _ h=>by simp at h,.inl ⟨rfl,rfl⟩⟩
  have hp:4 ^ T.ch.length<=4 ^ 4:=Nat.pow_le_pow_right (by omega) hn4
  obtain ⟨B,h1,⟨v,pl,h2,h3,h4⟩,h5⟩:=Mp (fun _ _ _=>none) (d:=4-T.ch.length) hn4 T.ch.length (A:=A0) (ll:=[]) (id:=4) (b:=[0]) (by simp; omega) (by simp) hX ho (by rw [hA0]; rfl) (by simp; omega)
  rw [show 4-T.ch.length+T.ch.length=4 by omega] at h1
  have lv:=gw h3 h4.form
  have hfz:=h4.frz 1
  have hfr:=h4.fresh 0
  rw [h2,List.nil_append] at hfz
  have h1:H34 4 (fun _ _ _=>none) [.sl 4 0 1,.ptr 1 0 0,.ptr 2 0 0,.ptr 0 0 0,.ptr 3 0 0] A0=some (.tup [],B):=h1
  rw [gn _ _ rfl]
  obtain ⟨ch,pk,pl2,tr,bd⟩:=T
  simp only at hlen h1 hA0 m ft hfz
  rw [show ∀c,aA ⟨ch,pk,pl2,tr,bd⟩ c=.agg [c,.int .i64 pk,.int .i64 pl2,.int .i64 tr,.int .i64 bd] from fun _=>rfl] at hA0 ft m
  rw [show ∀c,aA ⟨ch,pk,pl2,tr,bd⟩ c=.agg [c,.int .i64 pk,.int .i64 pl2,.int .i64 tr,.int .i64 bd] from fun _=>rfl]
  have lt:af true 5 [Ent.row 5 false [.agg [chv,.int .i64 pk,.int .i64 pl2,.int .i64 tr,.int .i64 bd]]] (.ptr 0 0 0)=some (.agg [chv,.int .i64 pk,.int .i64 pl2,.int .i64 tr,.int .i64 bd]):=rfl
  have le:∀k,af false 1 [Ent.row 5 false [.agg [chv,.int .i64 pk,.int .i64 pl2,.int .i64 tr,.int .i64 bd]],.row 1 false [.int .i64 k],.row 1 false [.nilS],.row 1 false [.func (.func 42) [] [.ptr 1 0 0,.ptr 2 0 0,.ptr 0 0 0,.ptr 3 0 0]]] (.ptr 3 0 0)=some (.func (.func 42) [] [.ptr 1 0 0,.ptr 2 0 0,.ptr 0 0 0,.ptr 3 0 0]):=fun k=>rfl
  have lc:af false 1 [Ent.row 5 false [.agg [chv,.int .i64 pk,.int .i64 pl2,.int .i64 tr,.int .i64 bd]]] (.ptr 0 0 0)=some chv:=rfl
  obtain ⟨k,hk⟩:∃k,k=(ch.length:Int):=⟨_,rfl⟩
  rw [<-hk] at hlen hA0
  obtain ⟨R,hR⟩:∃R,R=fG (ext ch.length (decide (bd=1)) (ch.length+1) [0]):=⟨_,rfl⟩
  rw [<-hR] at hfz ⊢
  unfold km at hA0
  rw [hA0] at h1
  simp [wU,m,ft,hlen,h1,lv,hfz,hfr,lc,lt,le,-frz,-ay,-af]
 ·rw [if_neg hv]
  rw [decide_eq_false hv] at m
  rw [gn _ _ rfl]
  obtain ⟨ch,pk,pl2,tr,bd⟩:=T
  rw [show ∀c,aA ⟨ch,pk,pl2,tr,bd⟩ c=.agg [c,.int .i64 pk,.int .i64 pl2,.int .i64 tr,.int .i64 bd] from fun _=>rfl] at ft m
  rw [show ∀c,aA ⟨ch,pk,pl2,tr,bd⟩ c=.agg [c,.int .i64 pk,.int .i64 pl2,.int .i64 tr,.int .i64 bd] from fun _=>rfl]
  simp [wU,m,ft,a9,-frz]
  rfl
def HW:List (FuncId × aD):=[(47,aF 4 M43)]
@[simp] theorem Je:aI HW 47=some (aF 4 M43):=rfl
theorem AX:∀f M,aI HW f=some M->an Tryz.prog GC f M:=ae (an.of_pure D4 4) aw
def M42:aG:=fun args=>evP (ai GC HW) 0 uN 1 args
theorem pn:ak Tryz.prog GC 46 M42:=ak.of_ev (E:=ai GC HW) (aj AX) rfl G1 qa 1 fun _ _ h=>⟨0,h⟩
theorem wK {xs ys:List Int} {a b:AV} (ha:SlA 1 (ax xs) a) (hb:SlA 1 (ax ys) b) (hl:xs.length<=200):M42 [a,.fp [b]]=some (.bool (decide (xs=ys))):=by
 have m:=sM ha hb hl
 have f1:∀A n,frz A n a=a:=fun A n=>ha.frz n
 have f2:∀A n,frz A n b=b:=fun A n=>hb.frz n
 have l1:∀A,af false 1 A (.fp [b])=some b:=fun A=>rfl
 obtain ⟨d,hd⟩:∃d,d=decide (xs=ys):=⟨_,rfl⟩
 rw [<-hd] at m ⊢
 unfold M42
 rw [aS _ _ rfl]
 simp [uN,m,f1,f2,l1,bi,-frz,-af]
def y8:List (FuncId × aD):=[(46,aF 4 M42)]
@[simp] theorem IY:aI y8 46=some (aF 4 M42):=rfl
theorem AL:∀f M,aI y8 f=some M->an Tryz.prog GC f M:=ae (an.of_pure pn 4) aw
def M66:aG:=fun args=>evP (ai GC y8) 300 HH 1 args
theorem DW:ak Tryz.prog GC 94 M66:=ak.of_ev (E:=ai GC y8) (aj AL) rfl at66 GB 1 fun _ _ h=>⟨300,h⟩
def isO (o l:List Int):Bool:=decide (l=o)
def fnO (ov:AV):AV:=.func (.func 46) [] [.fp [ov]]
theorem Hh {ll:List (List Int)} {o:List Int} {ov:AV} (ho:SlA 1 (ax o) ov) (hl:ll.length<=256) (hl2:∀l∈ll,l.length<=200):M66 [fG ll,fnO ov]=some (.int .i64 (cH (isO o) ll)):=by
 have hb:=aR 1 (ll.map fun l=>slA 1 (ax l))
 rw [show slA 1 (ll.map fun l=>slA 1 (ax l))=fG ll from rfl] at hb
 obtain ⟨b,hbv⟩:∃b,b=fG ll:=⟨_,rfl⟩
 rw [<-hbv] at hb ⊢
 have hlen:=hb.len
 rw [List.length_map] at hlen
 have round:∀(A:ac) (i:Nat) (hi:i<ll.length),run (ai GC y8) 300 [.code g9] (j8 b (fnO ov) (.int .i64 (ll.length:Int)) (.int .i64 (i:Int))) A =
   if isO o ll[i]=false then some (.normal (j8 b (fnO ov) (.int .i64 (ll.length:Int)) (.int .i64 ((i+1:Nat):Int))) A) else some (.ret [b,fnO ov,.int .i64 (i:Int),.int .i64 (i:Int),.int .i64 (ll.length:Int),.int .i64 (i:Int),.bool true,.bool true] A):=fun A i hi=>by
  have he:(ll.map fun l=>slA 1 (ax l))[i]?=some (slA 1 (ax ll[i])):=by simp [hi]
  have hs:=aR 1 (ax ll[i])
  have x1:=hb.index1 (A:=A) he (by rcases hs with ⟨h,_⟩ | h <;> rw [h] <;> rfl) (by rcases hs with ⟨h,_⟩ | h <;> rw [h] <;> rfl) .i64
  have ld:af false 1 A (.fp [slA 1 (ax ll[i])])=some (slA 1 (ax ll[i])):=by rcases hs with ⟨h,_⟩ | h <;> rw [h] <;> rfl
  have m:=wK hs ho (hl2 _ (List.getElem_mem hi))
  have b1:=bw i ll.length .i64
  rw [decide_eq_true hi] at b1
  have b3:=aY i (by omega)
  have fz:∀A,frz A 4 (slA 1 (ax ll[i]))=slA 1 (ax ll[i]):=fun A=>hs.frz 4
  have fz2:∀A,frz A 4 (.fp [ov])=.fp [ov]:=fun A=>rfl
  obtain ⟨i1,hi1⟩:∃i1:Nat,i1=i+1:=⟨_,rfl⟩
  rw [<-hi1] at b3 ⊢
  obtain ⟨d,hd⟩:∃d,d=isO o ll[i]:=⟨_,rfl⟩
  rw [show decide (ll[i]=o)=d from hd.symm] at m
  rw [<-hd]
  obtain ⟨c,hc⟩:∃c,c=slA 1 (ax ll[i]):=⟨_,rfl⟩
  rw [<-hc] at m ld fz x1
  cases d with
  | false=>simp [g9,fnO,x1,ld,m,fz,fz2,b1,b3,-frz,-aq,-au,-ay,-af]
  | true=>simp [g9,fnO,x1,ld,m,fz,fz2,b1,-frz,-aq,-au,-ay,-af]
 unfold M66
 rw [aS _ _ rfl]
 rcases cP (E:=ai GC y8) (fuel:=300) (a:=g9) (mask:=gy) (fun i=>j8 b (fnO ov) (.int .i64 (ll.length:Int)) (.int .i64 (i:Int))) (fun _=>[]) ll.length (fun i=>¬ ∀hi:i<ll.length,isO o ll[i]=false)
  (oF:=fun i=>.ret [b,fnO ov,.int .i64 (i:Int),.int .i64 (i:Int),.int .i64 (ll.length:Int),.int .i64 (i:Int),.bool true,.bool true] []) (oE:=.exit 0 ((j8 b (fnO ov) (.int .i64 (ll.length:Int)) (.int .i64 (ll.length:Int))).set 6 (.bool false)) [])
  (fun _=>zk) (fun _ _ _ h=>by cases h) (fun _ _ h=>by cases h)
  (fun i hi hp=>by
   rw [round [] i hi]
   exact if_pos (Classical.not_not.1 hp hi))
  (fun i hi hp=>by
   rw [round [] i hi]
   exact if_neg fun h=>hp fun _=>h)
  (by simp [g9]) (show ll.length<300 by omega) with ⟨i,hi,hp,hj,lp⟩ | ⟨hp,lp⟩
 ·have lp:bM (evC (ai GC y8) 300 g9) gy 300 (j8 b (fnO ov) (.int .i64 (ll.length:Int)) (.int .i64 0)) []=_:=lp
  have e:cH (isO o) ll=(i:Int):=bu hi (by
   cases h':isO o ll[i] with
   | true=>rfl
   | false=>exact absurd (fun _=>h') hp) (fun j hj'=>Classical.not_not.1 (hj j hj') (by omega))
  rw [e]
  simp [HH,hlen,yQ lp,-aq,-ay]
 ·have lp:bM (evC (ai GC y8) 300 g9) gy 300 (j8 b (fnO ov) (.int .i64 (ll.length:Int)) (.int .i64 0)) []=_:=lp
  have e:cH (isO o) ll = -1:=bG fun i hi=>Classical.not_not.1 (hp i hi) hi
  rw [e]
  simp [HH,hlen,yQ lp,-aq,-ay]
def HX:List (FuncId × aD):=[(94,aF 4 M66)]
@[simp] theorem Jf:aI HX 94=some (aF 4 M66):=rfl
theorem AY:∀f M,aI HX f=some M->an Tryz.prog GC f M:=ae (an.of_pure DW 4) aw
def M41:aG:=fun args=>evP (ai GC HX) 0 uO 1 args
theorem nI:ak Tryz.prog GC 45 M41:=ak.of_ev (E:=ai GC HX) (aj AY) rfl G2 qb 1 fun _ _ h=>⟨0,h⟩
theorem Dr (o:List Int) (ll:List (List Int)):ll.any (isO o)=decide (o∈ll):=by
 rw [Bool.eq_iff_iff,List.any_eq_true,decide_eq_true_eq]
 unfold isO
 constructor
 ·rintro ⟨x,hx,h⟩
  rw [<-of_decide_eq_true h]; exact hx
 ·exact fun h=>⟨o,h,by simp⟩
theorem wL {ll:List (List Int)} {o:List Int} {ov:AV} (ho:SlA 1 (ax o) ov) (hl:ll.length<=256) (hl2:∀l∈ll,l.length<=200):M41 [fG ll,fnO ov]=some (.bool (decide (o∈ll))):=by
 have h:=Hh ho hl hl2
 have b1:=iR (cH (isO o) ll)
 rw [ce,Dr] at b1
 have f1:∀A n,frz A n (fG ll)=fG ll:=fun A n=>(aR 1 _).frz n
 have f2:∀A,frz A 4 (fnO ov)=fnO ov:=fun A=>rfl
 obtain ⟨z,hz⟩:∃z,z=cH (isO o) ll:=⟨_,rfl⟩
 rw [<-hz] at h b1
 obtain ⟨d,hd⟩:∃d,d=decide (o∈ll):=⟨_,rfl⟩
 rw [<-hd] at b1 ⊢
 obtain ⟨b,hbv⟩:∃b,b=fG ll:=⟨_,rfl⟩
 rw [<-hbv] at h f1 ⊢
 unfold M41
 rw [aS _ _ rfl]
 simp [uO,h,b1,f1,f2,bi,-aq,-frz]
end Clu
namespace Clu
open Go
open Cy (GC iR cH bu bG ce aT bi aH a6 dp bJ bZ dq okA)
section
variable {A:ac} {es:List AV} {k:Nat}
theorem nF (_hk:es.length=k) {j:Nat} (hj:j<k):aa j (A++[.row k false [.agg es]]) (.ptr A.length 0 0)=some (.ptr A.length 0 j):=by
 simp [aa,hj]
theorem pe (_hk:es.length=k) {j:Nat} {x:AV} (hx:es[j]?=some x):af false 1 (A++[.row k false [.agg es]]) (.ptr A.length 0 j)=some x:=by
 simp [af,bv,hx]
theorem zP (_hk:es.length=k) (_hk1:k≠1):af true k (A++[.row k false [.agg es]]) (.ptr A.length 0 0)=some (.agg es):=by
 simp [af,pI]
theorem ub (hk:es.length=k) (hk1:1<k) {j:Nat} (hj:j<k) {x:AV} (hs:x.solid=true) (hc:cellsOf x=[x]):aE 1 (A++[.row k false [.agg es]]) (.ptr A.length 0 j) x=some (A++[.row k false [.agg (es.set j x)]]):=by
 have e:es.take j++[x]++es.drop (j+1)=es.set j x:=by
  rw [List.set_eq_take_append_cons_drop,if_pos (by omega)]; simp
 have e1:bs (.agg es) k j x=some (.agg (es.set j x)):=by
  unfold bs
  rw [hc,if_neg (by simp; omega)]
  simp only [List.length_singleton]
  rw [if_pos ⟨hk,by omega⟩,e]
 simp only [aE,List.getElem?_concat_length,List.getElem?_cons_zero]
 rw [if_pos ⟨trivial,hs,by rw [hc]; rfl,by omega⟩,e1]
 simp
end
@[simp] theorem yN (A:ac) (x:AV):af false 1 A (.fp [x])=some x:=rfl
@[simp] theorem L4 (A:ac) (x y:AV) (r:List AV):af true (r.length+2) A (.fp (x :: y :: r))=some (.agg (x :: y :: r)):=by simp [af]
@[simp] theorem nW (A:ac) (x y:AV):af true 2 A (.fp [x,y])=some (.agg [x,y]):=rfl
def M46:aG:=fun args=>evP (ai GC []) 0 BQ 4 args
theorem uh:ak Tryz.prog GC 50 M46:=ak.of_ev (E:=ai GC []) (aj aw) rfl Kq vM 4 fun _ _ h=>⟨0,h⟩
def tc:AV:=.agg [.nilF,.func (.func 95) [] [],.func (.func 96) [] []]
theorem wJ:M46 []=some tc:=by
 have s:dA 3 [.row 1 false [.nilF,.nilF,.nilF]] (.ptr 0 0 0) tc=some [.row 1 false [.nilF,.func (.func 95) [] [],.func (.func 96) [] []]]:=by
  simp [dA,tc,AV.solid,cellsOf]
 unfold M46
 rw [aS _ _ rfl]
 unfold tc at s
 simp [BQ,tc,s,AV.solid,cellsOf]
def HS:List (FuncId × aD):=[(58,aF 4 M64)]
@[simp] theorem IX:aI HS 58=some (aF 4 M64):=rfl
theorem AK:∀f M,aI HS f=some M->an Tryz.prog GC f M:=ae (an.of_pure nH 4) aw
def M67:aG:=fun args=>evP (ai GC HS) 0 HG 4 args
theorem DV:ak Tryz.prog GC 95 M67:=ak.of_ev (E:=ai GC HS) (aj AK) rfl at67 GA 4 fun _ _ h=>⟨0,h⟩
def lkA (a b c:Int):AV:=.agg [.int .i64 a,.int .i64 b,.int .i64 c]
theorem Hg {o:List Int} {ov:AV} (ho:SlA 1 (ax o) ov) (hl:o.length<=200) {j:Int} (hj : -1000<=j/\j<=1000):M67 [ov,.int .i64 j]=some (lkA (j-1) j (if cH (isI j) o<cH (isI (j-1)) o then 1 else 0)):=by
 have m1:=ir ho hl j
 have m2:=ir ho hl (j-1)
 have f1:∀A n,frz A n ov=ov:=fun A n=>ho.frz n
 have b1:=cd (a:=j) (b:=1) (by omega)
 have b2:=cC (cH (isI j) o) (cH (isI (j-1)) o)
 obtain ⟨j1,hj1⟩:∃x,x=j-1:=⟨_,rfl⟩
 rw [<-hj1] at m2 b1 b2 ⊢
 obtain ⟨x,hx⟩:∃x,x=cH (isI j) o:=⟨_,rfl⟩
 obtain ⟨y,hy⟩:∃x,x=cH (isI j1) o:=⟨_,rfl⟩
 rw [<-hx] at m1 b2 ⊢
 rw [<-hy] at m2 b2 ⊢
 unfold M67
 rw [aS _ _ rfl]
 by_cases h:x<y
 ·rw [decide_eq_true h] at b2
  rw [if_pos h]
  simp [HG,m1,m2,f1,b1,b2,lkA,aT,-aq,-frz]
  simp [frz]
 ·rw [decide_eq_false h] at b2
  rw [if_neg h]
  simp [HG,m1,m2,f1,b1,b2,lkA,aT,-aq,-frz]
  simp [frz]
def M68:aG:=fun args=>evP (ai GC []) 0 IG 4 args
theorem DU:ak Tryz.prog GC 96 M68:=ak.of_ev (E:=ai GC []) (aj aw) rfl at68 Gz 4 fun _ _ h=>⟨0,h⟩
theorem Hf (ov:AV) (j:Int):M68 [ov,.int .i64 j]=some (lkA j j 1):=by
 unfold M68
 rw [aS _ _ rfl]
 simp [IG,lkA]
def H45:aD:=fun _=>bA (ai GC []) 0 tH
theorem ui:an Tryz.prog GC 49 H45:=(aN (aj aw) rfl Ib sD a5.nil).y
def GAt (A:ac) (g:Nat) (l:List a6):Prop:=∃v,A[g]?=some (.row 1 false [v])/\((v=.nilS/\l=[])\/∃id gr,v=.sl id 0 l.length/\l≠[]/\g<id/\A[id]?=some (.row 4 gr (l.map dp)))
theorem GAt.app {A:ac} {g:Nat} {l:List a6} (h:GAt A g l) (X:ac):GAt (A++X) g l:=by
 obtain ⟨v,h1,h2⟩:=h
 have hk:∀(j:Nat) (e:Ent),A[j]?=some e->(A++X)[j]?=some e:=fun j e h=>by
  rw [List.getElem?_append_left (List.getElem?_eq_some_iff.1 h).1]; exact h
 refine ⟨v,hk _ _ h1,?_⟩
 rcases h2 with h2 | ⟨id,gr,e1,e2,e3,e4⟩
 ·exact .inl h2
 ·exact .inr ⟨id,gr,e1,e2,e3,hk _ _ e4⟩
theorem zE (h:aZ) {A:ac} {g:Nat} {l:List a6} (hg:GAt A g l) {xs:List a6} (hx:xs≠[]) (hb:l.length+xs.length<=1000) :
  ∃B,H45 h [.ptr g 0 0,.fs 4 (xs.map dp)] A=some (.tup [],B)/\GAt B g (l++xs)/\A.length<=B.length/\∀j,j<g->B[j]?=A[j]?:=by
 obtain ⟨v,h1,h2⟩:=hg
 have hgl:=(List.getElem?_eq_some_iff.1 h1).1
 have hxl:0<xs.length:=List.length_pos_iff.2 hx
 have hxm:xs.map dp≠[]:=fun e=>hx (List.map_eq_nil_iff.1 e)
 rcases h2 with ⟨rfl,rfl⟩ | ⟨id,gr,rfl,hl,hid,hr⟩
 ·have e1:aO 4 32 A .nilS (.fs 4 (xs.map dp))=some (.sl A.length 0 xs.length,A++[.row 4 false (xs.map dp)]):=by
   simp only [aO,du,List.length_map]
   rw [if_neg (by omega),if_pos ⟨by omega,by omega,by simp at hb; omega⟩]
  have l1:af false 1 A (.ptr g 0 0)=some .nilS:=gw h1 (.inl rfl)
  have h1':(A++[Ent.row 4 false (xs.map dp)])[g]?=some (.row 1 false [.nilS]):=by rw [List.getElem?_append_left hgl]; exact h1
  obtain ⟨A1,hA1⟩:∃X,X=A++[Ent.row 4 false (xs.map dp)]:=⟨_,rfl⟩
  have s1:aE 1 A1 (.ptr g 0 0) (.sl A.length 0 xs.length)=some (A1.set g (.row 1 false [.sl A.length 0 xs.length])):=by
   rw [<-hA1] at h1'
   simp [h1']
  refine ⟨A1.set g (.row 1 false [.sl A.length 0 xs.length]),?_,⟨.sl A.length 0 xs.length,by rw [hA1,List.getElem?_set_self (by simp; omega)],.inr ⟨A.length,false,rfl,hx,hgl,?_⟩⟩,by rw [hA1]; simp,fun j hj=>?_⟩
  ·rw [<-hA1] at e1
   unfold H45
   rw [bH _ _ rfl]
   simp [tH,l1,e1,s1,-af,-aE]
  ·rw [hA1,List.getElem?_set_ne (by omega)]
   simp
  ·rw [hA1,List.getElem?_set_ne (by omega),List.getElem?_append_left (by omega)]
 ·have hlz:l.length≠0:=fun e=>hl (List.length_eq_zero_iff.1 e)
  have hidl:=(List.getElem?_eq_some_iff.1 hr).1
  have e1:aO 4 32 A (.sl id 0 l.length) (.fs 4 (xs.map dp))=some (.sl id 0 (l.length+xs.length),A.set id (.row 4 true (l.map dp++xs.map dp))):=by
   simp only [aO,du,List.length_map,hr]
   rw [if_pos ⟨trivial,by omega,by omega,by omega⟩,if_pos ⟨trivial,trivial,hlz⟩]
  have l1:af false 1 A (.ptr g 0 0)=some (.sl id 0 l.length):=gw h1 (.inr ⟨_,_,_,rfl⟩)
  obtain ⟨A1,hA1⟩:∃X,X=A.set id (Ent.row 4 true (l.map dp++xs.map dp)):=⟨_,rfl⟩
  have h1':A1[g]?=some (.row 1 false [.sl id 0 l.length]):=by rw [hA1,List.getElem?_set_ne (by omega)]; exact h1
  have s1:aE 1 A1 (.ptr g 0 0) (.sl id 0 (l.length+xs.length))=some (A1.set g (.row 1 false [.sl id 0 (l.length+xs.length)])):=by
   simp [h1']
  refine ⟨A1.set g (.row 1 false [.sl id 0 (l.length+xs.length)]),?_,⟨.sl id 0 (l.length+xs.length),by rw [hA1,List.getElem?_set_self (by simpa using hgl)],.inr ⟨id,true,by simp,by simp [hl],hid,?_⟩⟩,by rw [hA1]; simp,fun j hj=>?_⟩
  ·rw [<-hA1] at e1
   unfold H45
   rw [bH _ _ rfl]
   simp [tH,l1,e1,s1,-af,-aE]
  ·rw [hA1,List.getElem?_set_ne (by omega),List.getElem?_set_self hidl]
   simp
  ·rw [hA1,List.getElem?_set_ne (by omega),List.getElem?_set_ne (by omega)]
theorem GAt.frz {A:ac} {g:Nat} {l:List a6} (h:GAt A g l):∃v,af false 1 A (.ptr g 0 0)=some v/\(∀k,Proofs.YtfkcoekicjjndaaGreat.frz A (k+3) v=slA 4 (l.map dp))/\∀k,a9 A (k+3) v=true:=by
 obtain ⟨v,h1,h2⟩:=h
 rcases h2 with ⟨rfl,rfl⟩ | ⟨id,gr,rfl,hl,hid,hr⟩
 ·exact ⟨.nilS,gw h1 (.inl rfl),fun k=>rfl,fun k=>rfl⟩
 ·have e:((l.map dp).drop 0).take l.length=l.map dp:=by
   rw [List.drop_zero]
   conv=>lhs; rw [show l.length=(l.map dp).length by simp]
   rw [List.take_length]
  refine ⟨_,gw h1 (.inr ⟨_,_,_,rfl⟩),fun k=>?_,fun k=>?_⟩
  ·have hm:(l.map dp).map (Proofs.YtfkcoekicjjndaaGreat.frz A (k+2))=l.map dp:=by
    rw [List.map_map]
    exact List.map_congr_left fun x _=>by simp [dp,Proofs.YtfkcoekicjjndaaGreat.frz]
   rw [show k+3=(k+2)+1 from rfl]
   simp only [Proofs.YtfkcoekicjjndaaGreat.frz,hr]
   rw [e,hm]
   cases l with
   | nil=>exact absurd rfl hl
   | cons x r=>rfl
  ·rw [show k+3=(k+2)+1 from rfl]
   simp only [a9,hr]
   rw [e,List.all_eq_true]
   intro y hy
   obtain ⟨x,_,rfl⟩:=List.mem_map.1 hy
   simp [dp,a9]
end Clu
namespace Clu
open Go
open Cy (GC iR cH bu bG ce aT bi aH a6 dp bJ bZ dq okA)
def me (o:List Int) (i:Nat):Int:=if i+1<o.length then o.getD (i+1) 0 else 0
def qq (T:bb) (o:List Int) (i:Nat):a6:=
 ⟨o.getD i 0,me o i,df T+(if T.blades=2\/me o i≠o.getD i 0+1 then T.travel else 0),if i+1<o.length then 0 else 1⟩
def lkT (T:bb) (o:List Int) (j:Int):Int × Int × Int:=if T.blades=2 then (j,j,1) else (j-1,j,if cH (isI j) o<cH (isI (j-1)) o then 1 else 0)
def ru (T:bb) (o:List Int) (i:Nat):List a6:=
 [⟨(lkT T o (i+1)).1,(lkT T o (i+1)).2.1,df T+(T.ch.getD i (0,0)).1,(lkT T o (i+1)).2.2⟩,
  ⟨(lkT T o (i+1)).2.1,(lkT T o (i+1)).1,-(df T+(T.ch.getD i (0,0)).1+(T.ch.getD i (0,0)).2),-(lkT T o (i+1)).2.2⟩]
def ba (T:bb) (o:List Int):List a6:=(List.range o.length).map (qq T o)++(List.range T.ch.length).flatMap (ru T o)
def tE (T:bb) (o:List Int):Option (List a6):=if o∈aC T then some (ba T o) else none
theorem vz (n:Nat) (one:Bool):∀(k:Nat) (b l:List Int),l∈ext n one k b->l.length=n+1/\∃r,l=b++r/\(∀x∈r,1<=x/\x<=n)/\(b.Nodup->l.Nodup)
 | 0,b,l,h=>by simp [ext] at h
 | k+1,b,l,h=>by
  unfold ext at h
  split at h
  ·rename_i hb
   simp only [List.mem_singleton] at h
   subst h
   exact ⟨hb,[],by simp,by simp,id⟩
  ·rw [List.mem_flatMap] at h
   obtain ⟨i,hi,h⟩:=h
   rw [List.mem_range'_1] at hi
   split at h
   ·rename_i hc
    obtain ⟨h1,r,rfl,h3,h4⟩:=vz n one k _ _ h
    simp only [Bool.and_eq_true,Bool.not_eq_true',decide_eq_false_iff_not] at hc
    refine ⟨h1,(i:Int) :: r,by simp,fun x hx=>?_,fun hn=>h4 ?_⟩
    ·rcases List.mem_cons.1 hx with rfl | hx
     ·omega
     ·exact h3 x hx
    ·rw [List.nodup_append]
     refine ⟨hn,by simp,fun a ha b hb e=>?_⟩
     rw [List.mem_singleton] at hb
     subst hb; subst e
     exact hc.1 ha
   ·cases h
theorem bQ {T:bb} {o:List Int} (h:o∈aC T):aX T/\o.length=T.ch.length+1/\(∃r,o=0 :: r/\∀x∈r,1<=x/\x<=T.ch.length)/\o.Nodup:=by
 unfold aC at h
 split at h
 ·rename_i hv
  obtain ⟨h1,r,h2,h3,h4⟩:=vz _ _ _ _ _ h
  exact ⟨hv,h1,⟨r,h2,h3⟩,h4 (by simp)⟩
 ·cases h
theorem fX {T:bb} {o:List Int} (h:o∈aC T):∀x∈o,0<=x/\x<=T.ch.length:=by
 obtain ⟨_,_,⟨r,rfl,h2⟩,_⟩:=bQ h
 intro x hx
 rcases List.mem_cons.1 hx with rfl | hx
 ·omega
 ·have:=h2 x hx; omega
theorem gx (T:bb):(aC T).length<=256:=by
 unfold aC
 split
 ·rename_i hv
  have hn:=hv.2.2.2.1
  rcases rk T.ch.length (decide (T.blades=1)) hn T.ch.length [0] with h | h
  ·exact Nat.le_trans h (Nat.le_trans (Nat.pow_le_pow_right (by omega) hn) (by omega))
  ·simp at h; omega
 ·simp
theorem oi {T:bb} (h:aX T):0<=df T/\df T<=30000:=by
 obtain ⟨_,⟨h1,h2,h3⟩,_⟩:=h
 unfold df
 split <;> omega
theorem gj {a:Int} (h : -9223372036854775807<=a/\a<=9223372036854775807):tz .neg (.int .i64 a)=some (.int .i64 (-a)):=by
 simp only [tz]
 rw [show (0:Int)-a = -a by omega,dB (by unfold inI; omega)]
def ly:List (FuncId × aD):=[(15,bS 4 M14),(45,aF 4 M41),(48,aF 4 M44),(50,aF 4 M46),(95,aF 4 M67),(96,aF 4 M68),(49,H45)]
@[simp] theorem J3:aI ly 15=some (bS 4 M14):=rfl
@[simp] theorem JY:aI ly 45=some (aF 4 M41):=rfl
@[simp] theorem JX:aI ly 48=some (aF 4 M44):=rfl
@[simp] theorem JV:aI ly 50=some (aF 4 M46):=rfl
@[simp] theorem JU:aI ly 95=some (aF 4 M67):=rfl
@[simp] theorem JT:aI ly 96=some (aF 4 M68):=rfl
@[simp] theorem JW:aI ly 49=some H45:=rfl
theorem qK:∀f M,aI ly f=some M->an Tryz.prog GC f M:=ae (an.of_pureF nL 4) (ae (an.of_pure nI 4) (ae (an.of_pure uj 4) (ae (an.of_pure uh 4) (ae (an.of_pure DV 4) (ae (an.of_pure DU 4) (ae ui aw))))))
structure I19 (A:ac) (T:bb) (chv ov:AV) (l:List a6):Prop where
 t:A[0]?=some (.row 5 false [aA T chv])
 o:A[1]?=some (.row 1 false [ov])
 g:GAt A 2 l
theorem xo {T:bb} {chv ov:AV} {o:List Int} (hO:o∈aC T) (ho:SlA 1 (ax o) ov) {A:ac} {l:List a6} (hI:I19 A T chv ov l) (hl:l.length<=100) {i:Nat} (hi:i<o.length) :
  ∃B,run (ai GC ly) 300 [.code eO] (lS (.ptr 0 0 0) (.ptr 1 0 0) (.int .i64 (df T)) (.ptr 2 0 0) ov (.int .i64 (o.length:Int)) (.int .i64 (i:Int))) A =
   some (.normal (lS (.ptr 0 0 0) (.ptr 1 0 0) (.int .i64 (df T)) (.ptr 2 0 0) ov (.int .i64 (o.length:Int)) (.int .i64 ((i+1:Nat):Int))) B)/\I19 B T chv ov (l++[qq T o i]):=by
 obtain ⟨hv,hol,_,_⟩:=bQ hO
 have hbd:=fX hO
 have hw:=oi hv
 have hch:=hv.2.2.2.1
 have htr:=hv.2.1.2.2
 obtain ⟨ht,h1,hg⟩:=hI
 have ht0:=(List.getElem?_eq_some_iff.1 ht).1
 have h10:=(List.getElem?_eq_some_iff.1 h1).1
 have hlen:=ho.len
 rw [aH] at hlen
 have x1:=fun A=>ho.int (A:=A) _ _ (List.getElem?_eq_getElem hi) .i64
 have ho1:o[i]=o.getD i 0:=by rw [List.getD_eq_getElem?_getD,List.getElem?_eq_getElem hi]; rfl
 have hb1:=hbd o[i] (List.getElem_mem hi)
 obtain ⟨t0,htt⟩:∃t,t=o.getD i 0:=⟨_,rfl⟩
 rw [ho1,<-htt] at x1 hb1
 obtain ⟨w,hww⟩:∃w,w=df T:=⟨_,rfl⟩
 have ov0:∀X,af false 1 (A++X) (.ptr 1 0 0)=some ov:=fun X=>by
  have h:(A++X)[1]?=some (.row 1 false [ov]):=by rw [List.getElem?_append_left h10]; exact h1
  rcases ho with ⟨rfl,_⟩ | rfl <;> simp [h]
 obtain ⟨ch,pk,pl,tr,bd⟩:=T
 have ht:A[0]?=some (.row 5 false [.agg [chv,.int .i64 pk,.int .i64 pl,.int .i64 tr,.int .i64 bd]]):=ht
 have tl:∀X,(A++X)[0]?=some (.row 5 false [.agg [chv,.int .i64 pk,.int .i64 pl,.int .i64 tr,.int .i64 bd]]):=fun X=>by rw [List.getElem?_append_left ht0]; exact ht
 have t3:∀X,aa 3 (A++X) (.ptr 0 0 0)=some (.ptr 0 0 3):=fun X=>by simp [aa,tl X]
 have t4:∀X,aa 4 (A++X) (.ptr 0 0 0)=some (.ptr 0 0 4):=fun X=>by simp [aa,tl X]
 have l3:∀X,af false 1 (A++X) (.ptr 0 0 3)=some (.int .i64 tr):=fun X=>by simp [af,tl X,bv]
 have l4:∀X,af false 1 (A++X) (.ptr 0 0 4)=some (.int .i64 bd):=fun X=>by simp [af,tl X,bv]
 have a1:∀a b c d,aa 1 (A++[.row 4 false [.agg [a,b,c,d]]]) (.ptr A.length 0 0)=some (.ptr A.length 0 1):=fun a b c d=>nF (es:=[a,b,c,d]) (k:=4) rfl (by omega)
 have a2:∀a b c d,aa 2 (A++[.row 4 false [.agg [a,b,c,d]]]) (.ptr A.length 0 0)=some (.ptr A.length 0 2):=fun a b c d=>nF (es:=[a,b,c,d]) (k:=4) rfl (by omega)
 have a3:∀a b c d,aa 3 (A++[.row 4 false [.agg [a,b,c,d]]]) (.ptr A.length 0 0)=some (.ptr A.length 0 3):=fun a b c d=>nF (es:=[a,b,c,d]) (k:=4) rfl (by omega)
 have r1:∀a b c d,af false 1 (A++[.row 4 false [.agg [a,b,c,d]]]) (.ptr A.length 0 1)=some b:=fun a b c d=>pe (es:=[a,b,c,d]) (k:=4) rfl rfl
 have r2:∀a b c d,af false 1 (A++[.row 4 false [.agg [a,b,c,d]]]) (.ptr A.length 0 2)=some c:=fun a b c d=>pe (es:=[a,b,c,d]) (k:=4) rfl rfl
 have r4:∀a b c d,af true 4 (A++[.row 4 false [.agg [a,b,c,d]]]) (.ptr A.length 0 0)=some (.agg [a,b,c,d]):=fun a b c d=>zP (es:=[a,b,c,d]) (k:=4) rfl (by omega)
 have s1:∀a b c d z,aE 1 (A++[.row 4 false [.agg [a,b,c,d]]]) (.ptr A.length 0 1) (.int .i64 z)=some (A++[.row 4 false [.agg [a,.int .i64 z,c,d]]]):=fun a b c d z=>ub (es:=[a,b,c,d]) (k:=4) rfl (by omega) (by omega) rfl rfl
 have s2:∀a b c d z,aE 1 (A++[.row 4 false [.agg [a,b,c,d]]]) (.ptr A.length 0 2) (.int .i64 z)=some (A++[.row 4 false [.agg [a,b,.int .i64 z,d]]]):=fun a b c d z=>ub (es:=[a,b,c,d]) (k:=4) rfl (by omega) (by omega) rfl rfl
 have s3:∀a b c d z,aE 1 (A++[.row 4 false [.agg [a,b,c,d]]]) (.ptr A.length 0 3) (.int .i64 z)=some (A++[.row 4 false [.agg [a,b,c,.int .i64 z]]]):=fun a b c d z=>ub (es:=[a,b,c,d]) (k:=4) rfl (by omega) (by omega) rfl rfl
 have sA:∀a b c d x y z u,aE 4 (A++[.row 4 false [.agg [a,b,c,d]]]) (.ptr A.length 0 0) (.agg [.int .i64 x,.int .i64 y,.int .i64 z,.int .i64 u])=some (A++[.row 4 false [.agg [.int .i64 x,.int .i64 y,.int .i64 z,.int .i64 u]]]):=fun a b c d x y z u=>by simp [aE,bs]
 have b0:=bw i o.length .i64
 rw [decide_eq_true hi] at b0
 have b1:=aY i (by omega)
 have b2:=bw (i+1) o.length .i64
 have b3:aq .eql (.int .i64 bd) (.int .i64 2)=some (.bool (decide (bd=2))):=bI _ _
 have b4:aq .add (.int .i64 t0) (.int .i64 1)=some (.int .i64 (t0+1)):=bh (by simp only at hch hb1; omega)
 have b6:aq .add (.int .i64 w) (.int .i64 tr)=some (.int .i64 (w+tr)):=bh (by simp only at htr; omega)
 obtain ⟨nx,hnx⟩:∃x,x=me o i:=⟨_,rfl⟩
 have b5:aq .neq (.int .i64 nx) (.int .i64 (t0+1))=some (.bool (decide (nx≠t0+1))):=cJ _ _
 obtain ⟨ar,har⟩:∃a,a=qq ⟨ch,pk,pl,tr,bd⟩ o i:=⟨_,rfl⟩
 have hae:ar=⟨t0,nx,w+(if bd=2\/nx≠t0+1 then tr else 0),if i+1<o.length then 0 else 1⟩:=by
  rw [har,hnx,htt,hww]; rfl
 have hgX:=hg.app [.row 4 false [dp ar]]
 obtain ⟨B,k1,k2,k3,k4⟩:=zE (fun _ _ _=>none) hgX (xs:=[ar]) (by simp) (by simp; omega)
 refine ⟨B,?_,⟨by rw [k4 0 (by omega),List.getElem?_append_left ht0]; exact ht,by rw [k4 1 (by omega),List.getElem?_append_left h10]; exact h1,by rw [<-har]; exact k2⟩⟩
 rw [<-hww]
 have k1:H45 (fun _ _ _=>none) [.ptr 2 0 0,.fs 4 [dp ar]] (A++[.row 4 false [dp ar]])=some (.tup [],B):=k1
 rw [show dp ar=.agg [.int .i64 t0,.int .i64 nx,.int .i64 (w+(if bd=2\/nx≠t0+1 then tr else 0)),.int .i64 (if i+1<o.length then 0 else 1)] by rw [hae]; rfl] at k1
 have hsl:∀x y z u:Int,bD 4 [.agg [.int .i64 x,.int .i64 y,.int .i64 z,.int .i64 u]]=some (.fs 4 [.agg [.int .i64 x,.int .i64 y,.int .i64 z,.int .i64 u]]):=fun x y z u=>rfl
 obtain ⟨N,hN⟩:∃n,n=A.length:=⟨_,rfl⟩
 obtain ⟨i1,hi1⟩:∃n,n=i+1:=⟨_,rfl⟩
 have x2:i1<o.length->∀A,au 1 A ov (.int .i64 (i1:Int))=some (.fp [.int .i64 nx]):=fun h A=>by
  have e:o[i1]?=some nx:=by rw [hnx,me,if_pos (by omega),<-hi1,List.getD_eq_getElem?_getD,List.getElem?_eq_getElem h]; rfl
  exact ho.int (A:=A) _ _ e .i64
 have hnx0:¬ i1<o.length->nx=0:=fun h=>by rw [hnx,me,if_neg (by omega)]
 have bx:∀z,bm 4 (.agg [.int .i64 z,.int .i64 z,.int .i64 z,.int .i64 z]) A=some (.ptr N 0 0,A++[.row 4 false [.agg [.int .i64 z,.int .i64 z,.int .i64 z,.int .i64 z]]]):=fun z=>by rw [hN]; rfl
 rw [<-hi1] at b1 b2 k1 ⊢
 rw [<-hN] at a1 a2 a3 r1 r2 r4 s1 s2 s3 sA
 obtain ⟨t1,ht1⟩:∃x,x=t0+1:=⟨_,rfl⟩
 rw [<-ht1] at b4 b5 k1
 obtain ⟨w1,hw1⟩:∃x,x=w+tr:=⟨_,rfl⟩
 rw [<-hw1] at b6
 by_cases hc:i1<o.length
 ·rw [decide_eq_true hc] at b2
  have x2:=x2 hc
  rw [if_pos hc] at k1
  by_cases hd:bd=2
  ·rw [decide_eq_true hd] at b3
   rw [if_pos (.inl hd),<-hw1] at k1
   simp [eO,b0,b1,b2,b3,b6,x1,x2,ov0,hlen,t3,t4,l3,l4,a1,a2,a3,r2,r4,s1,s2,s3,sA,bx,hsl,k1,-aq,-af,-aE,-aa,-au,-ay,-bD,-bm]
  ·rw [decide_eq_false hd] at b3
   by_cases he:nx≠t1
   ·rw [decide_eq_true he] at b5
    rw [if_pos (.inr he),<-hw1] at k1
    simp [eO,b0,b1,b2,b3,b4,b5,b6,x1,x2,ov0,hlen,t3,t4,l3,l4,a1,a2,a3,r1,r2,r4,s1,s2,s3,sA,bx,hsl,k1,-aq,-af,-aE,-aa,-au,-ay,-bD,-bm]
   ·rw [decide_eq_false he] at b5
    rw [if_neg (fun h=>h.elim hd he),Int.add_zero] at k1
    simp [eO,b0,b1,b2,b3,b4,b5,x1,x2,ov0,hlen,t4,l4,a1,a3,r1,r4,s1,s3,sA,bx,hsl,k1,-aq,-af,-aE,-aa,-au,-ay,-bD,-bm]
 ·rw [decide_eq_false hc] at b2
  have hnx0:=hnx0 hc
  rw [if_neg hc] at k1
  subst hnx0
  by_cases hd:bd=2
  ·rw [decide_eq_true hd] at b3
   rw [if_pos (.inl hd),<-hw1] at k1
   simp [eO,b0,b1,b2,b3,b6,x1,ov0,hlen,t3,t4,l3,l4,a2,r2,r4,s2,sA,bx,hsl,k1,-aq,-af,-aE,-aa,-au,-ay,-bD,-bm]
  ·rw [decide_eq_false hd] at b3
   by_cases he:(0:Int)≠t1
   ·rw [decide_eq_true he] at b5
    rw [if_pos (.inr he),<-hw1] at k1
    simp [eO,b0,b1,b2,b3,b4,b5,b6,x1,ov0,hlen,t3,t4,l3,l4,a1,a2,r1,r2,r4,s2,sA,bx,hsl,k1,-aq,-af,-aE,-aa,-au,-ay,-bD,-bm]
   ·rw [decide_eq_false he] at b5
    rw [if_neg (fun h=>h.elim hd he),Int.add_zero] at k1
    simp [eO,b0,b1,b2,b3,b4,b5,x1,ov0,hlen,t4,l4,a1,r1,r4,sA,bx,hsl,k1,-aq,-af,-aE,-aa,-au,-ay,-bD,-bm]
end Clu
namespace Clu
open Go
open Cy (GC iR cH bu bG ce aT bi aH a6 dp bJ bZ dq okA)
def fnL (T:bb):AV:=if T.blades=2 then .func (.func 96) [] [] else .func (.func 95) [] []
theorem yi {T:bb} (_hv:aX T) {o:List Int} {ov:AV} (ho:SlA 1 (ax o) ov) (hl:o.length<=200) (j:Int) (hj : -1000<=j/\j<=1000) (A:ac):(ai GC ly).call (fnL T) [ov,.int .i64 j] A=some (lkA (lkT T o j).1 (lkT T o j).2.1 (lkT T o j).2.2,A):=by
 have f1:∀n,frz A n ov=ov:=fun n=>ho.frz n
 unfold fnL lkT
 split
 ·have m:=Hf ov j
  simp [m,f1,lkA,aT,-frz]
 ·have m:=Hg ho hl hj
  simp [m,f1,lkA,aT,-frz]
theorem yK (T:bb) (o:List Int) (j:Int):(lkT T o j).2.2=0\/(lkT T o j).2.2=1:=by
 unfold lkT
 split
 ·exact .inr rfl
 ·simp only
  split
  ·exact .inr rfl
  ·exact .inl rfl
theorem xn {T:bb} {chv ov:AV} {o:List Int} (hO:o∈aC T) (hcv:SlA 2 (T.ch.map chA) chv) (ho:SlA 1 (ax o) ov) {A:ac} {l:List a6} (hI:I19 A T chv ov l) (hl:l.length<=100) {i:Nat} (hi:i<T.ch.length) :
  ∃B,run (ai GC ly) 300 [.code kv] (lR (.ptr 1 0 0) (.int .i64 (df T)) (.ptr 2 0 0) (fnL T) chv (.int .i64 (T.ch.length:Int)) (.int .i64 (i:Int))) A =
   some (.normal (lR (.ptr 1 0 0) (.int .i64 (df T)) (.ptr 2 0 0) (fnL T) chv (.int .i64 (T.ch.length:Int)) (.int .i64 ((i+1:Nat):Int))) B)/\I19 B T chv ov (l++ru T o i):=by
 obtain ⟨hv,hol,_,_⟩:=bQ hO
 have hw:=oi hv
 have hch:=hv.2.2.2.1
 obtain ⟨ht,h1,hg⟩:=hI
 have ht0:=(List.getElem?_eq_some_iff.1 ht).1
 have h10:=(List.getElem?_eq_some_iff.1 h1).1
 have hx0:T.ch.getD i (0,0)=T.ch[i]:=by rw [List.getD_eq_getElem?_getD,List.getElem?_eq_getElem hi]; rfl
 have hxv:=hv.1 _ (List.getElem_mem hi)
 have x1:∀A,au 2 A chv (.int .i64 (i:Int))=some (.fp [.int .i64 (T.ch.getD i (0,0)).1,.int .i64 (T.ch.getD i (0,0)).2]):=fun A=>by
  rw [hx0]
  exact hcv.index (A:=A) (x:=chA T.ch[i]) (by simp [hi]) rfl (by omega) .i64
 have cl:=yi hv ho (by omega) ((i:Int)+1) (by omega)
 have lb:=yK T o ((i:Int)+1)
 have ha:ru T o i=ru T o i:=rfl
 conv at ha=>rhs; unfold ru
 rw [ha]
 obtain ⟨⟨k1,k2,k3⟩,hk⟩:∃k,k=lkT T o ((i:Int)+1):=⟨_,rfl⟩
 rw [<-hk] at cl lb ⊢
 obtain ⟨⟨tm,sy⟩,hx⟩:∃x,x=T.ch.getD i (0,0):=⟨_,rfl⟩
 rw [hx0] at hx
 rw [<-hx] at hxv
 rw [hx0,<-hx] at x1
 rw [hx0,<-hx]
 simp only [qx] at cl lb x1 hxv ⊢
 obtain ⟨w,hww⟩:∃w,w=df T:=⟨_,rfl⟩
 rw [<-hww] at hw ⊢
 have ov0:∀X,af false 1 (A++X) (.ptr 1 0 0)=some ov:=fun X=>by
  have h:(A++X)[1]?=some (.row 1 false [ov]):=by rw [List.getElem?_append_left h10]; exact h1
  rcases ho with ⟨rfl,_⟩ | rfl <;> simp [h]
 have b0:=bw i T.ch.length .i64
 rw [decide_eq_true hi] at b0
 have b1:=aY i (by omega)
 have b2:aq .add (.int .i64 (i:Int)) (.int .i64 1)=some (.int .i64 ((i:Int)+1)):=bh (by omega)
 have b3:aq .add (.int .i64 w) (.int .i64 tm)=some (.int .i64 (w+tm)):=bh (by omega)
 have b4:aq .add (.int .i64 (w+tm)) (.int .i64 sy)=some (.int .i64 (w+tm+sy)):=bh (by omega)
 have b5:tz .neg (.int .i64 (w+tm+sy))=some (.int .i64 (-(w+tm+sy))):=gj (by omega)
 have b6:tz .neg (.int .i64 k3)=some (.int .i64 (-k3)):=gj (by omega)
 obtain ⟨A1,hA1⟩:∃X,X=A++[Ent.row 2 false [.agg [.int .i64 tm,.int .i64 sy]]]:=⟨_,rfl⟩
 have ov1:af false 1 A1 (.ptr 1 0 0)=some ov:=by rw [hA1]; exact ov0 _
 have bx:bm 2 (.agg [.int .i64 0,.int .i64 0]) A=some (.ptr A.length 0 0,A++[.row 2 false [.agg [.int .i64 0,.int .i64 0]]]):=rfl
 have s0:aE 2 (A++[.row 2 false [.agg [.int .i64 0,.int .i64 0]]]) (.ptr A.length 0 0) (.agg [.int .i64 tm,.int .i64 sy])=some A1:=by simp [aE,bs,hA1]
 have bx1:bm 3 (.agg [.int .i64 0,.int .i64 0,.int .i64 0]) A1=some (.ptr A1.length 0 0,A1++[.row 3 false [.agg [.int .i64 0,.int .i64 0,.int .i64 0]]]):=rfl
 have s1:aE 3 (A1++[.row 3 false [.agg [.int .i64 0,.int .i64 0,.int .i64 0]]]) (.ptr A1.length 0 0) (lkA k1 k2 k3)=some (A1++[.row 3 false [lkA k1 k2 k3]]):=by simp [aE,bs,lkA]
 have hA1n:∀X,(A1++X)[A.length]?=some (Ent.row 2 false [.agg [.int .i64 tm,.int .i64 sy]]):=fun X=>by rw [List.getElem?_append_left (by rw [hA1]; simp),hA1]; simp
 have f0:∀X,aa 0 (A1++X) (.ptr A.length 0 0)=some (.ptr A.length 0 0):=fun X=>by simp [aa,hA1n X]
 have f1:∀X,aa 1 (A1++X) (.ptr A.length 0 0)=some (.ptr A.length 0 1):=fun X=>by simp [aa,hA1n X]
 have e0:∀X,af false 1 (A1++X) (.ptr A.length 0 0)=some (.int .i64 tm):=fun X=>by simp [af,hA1n X,bv]
 have e1:∀X,af false 1 (A1++X) (.ptr A.length 0 1)=some (.int .i64 sy):=fun X=>by simp [af,hA1n X,bv]
 have g0:aa 0 (A1++[.row 3 false [lkA k1 k2 k3]]) (.ptr A1.length 0 0)=some (.ptr A1.length 0 0):=nF (es:=[.int .i64 k1,.int .i64 k2,.int .i64 k3]) (k:=3) rfl (by omega)
 have g1:aa 1 (A1++[.row 3 false [lkA k1 k2 k3]]) (.ptr A1.length 0 0)=some (.ptr A1.length 0 1):=nF (es:=[.int .i64 k1,.int .i64 k2,.int .i64 k3]) (k:=3) rfl (by omega)
 have g2:aa 2 (A1++[.row 3 false [lkA k1 k2 k3]]) (.ptr A1.length 0 0)=some (.ptr A1.length 0 2):=nF (es:=[.int .i64 k1,.int .i64 k2,.int .i64 k3]) (k:=3) rfl (by omega)
 have d0:af false 1 (A1++[.row 3 false [lkA k1 k2 k3]]) (.ptr A1.length 0 0)=some (.int .i64 k1):=pe (es:=[.int .i64 k1,.int .i64 k2,.int .i64 k3]) (k:=3) rfl rfl
 have d1:af false 1 (A1++[.row 3 false [lkA k1 k2 k3]]) (.ptr A1.length 0 1)=some (.int .i64 k2):=pe (es:=[.int .i64 k1,.int .i64 k2,.int .i64 k3]) (k:=3) rfl rfl
 have d2:af false 1 (A1++[.row 3 false [lkA k1 k2 k3]]) (.ptr A1.length 0 2)=some (.int .i64 k3):=pe (es:=[.int .i64 k1,.int .i64 k2,.int .i64 k3]) (k:=3) rfl rfl
 have hgX:GAt (A1++[.row 3 false [lkA k1 k2 k3]]) 2 l:=by rw [hA1]; exact (hg.app _).app _
 obtain ⟨B,q1,q2,q3,q4⟩:=zE (fun _ _ _=>none) hgX (xs:=[⟨k1,k2,w+tm,k3⟩,⟨k2,k1,-(w+tm+sy),-k3⟩]) (by simp) (by simp; omega)
 have hA10:∀j,j<A.length->(A1++[Ent.row 3 false [lkA k1 k2 k3]])[j]?=A[j]?:=fun j hj=>by
  rw [hA1,List.append_assoc,List.getElem?_append_left hj]
 refine ⟨B,?_,⟨by rw [q4 0 (by omega),hA10 0 ht0]; exact ht,by rw [q4 1 (by omega),hA10 1 h10]; exact h1,q2⟩⟩
 obtain ⟨w1,hw1⟩:∃x,x=w+tm:=⟨_,rfl⟩
 rw [<-hw1] at b3 b4 b5 q1
 obtain ⟨w2,hw2⟩:∃x,x=w1+sy:=⟨_,rfl⟩
 rw [<-hw2] at b4 b5 q1
 obtain ⟨w3,hw3⟩:∃x,x = -w2:=⟨_,rfl⟩
 rw [<-hw3] at b5 q1
 obtain ⟨k4,hk4⟩:∃x,x = -k3:=⟨_,rfl⟩
 rw [<-hk4] at b6 q1
 have q1:H45 (fun _ _ _=>none) [.ptr 2 0 0,.fs 4 [.agg [.int .i64 k1,.int .i64 k2,.int .i64 w1,.int .i64 k3],.agg [.int .i64 k2,.int .i64 k1,.int .i64 w3,.int .i64 k4]]] (A1++[.row 3 false [lkA k1 k2 k3]])=some (.tup [],B):=q1
 have hsl:bD 4 [.agg [.int .i64 k1,.int .i64 k2,.int .i64 w1,.int .i64 k3],.agg [.int .i64 k2,.int .i64 k1,.int .i64 w3,.int .i64 k4]]=some (.fs 4 [.agg [.int .i64 k1,.int .i64 k2,.int .i64 w1,.int .i64 k3],.agg [.int .i64 k2,.int .i64 k1,.int .i64 w3,.int .i64 k4]]):=rfl
 have cl:=cl A1
 obtain ⟨j1,hj1⟩:∃x,x=(i:Int)+1:=⟨_,rfl⟩
 rw [<-hj1] at b2 cl
 obtain ⟨i1,hi1⟩:∃n,n=i+1:=⟨_,rfl⟩
 have hj2:j1=(i1:Int):=by omega
 subst hj2
 rw [<-hi1] at b1 ⊢
 obtain ⟨F,hF⟩:∃F,F=fnL T:=⟨_,rfl⟩
 rw [<-hF] at cl ⊢
 obtain ⟨L,hL⟩:∃L,L=lkA k1 k2 k3:=⟨_,rfl⟩
 rw [<-hL] at cl s1 g0 g1 g2 d0 d1 d2 q1
 simp [kv,b0,b1,b3,b4,b5,b6,x1,ov1,bx,s0,bx1,s1,f0,f1,e0,e1,g0,g1,g2,d0,d1,d2,hsl,cl,q1,-aq,-af,-aE,-aa,-au,-bD,-bm,-tz]
def M19:aG:=fun args=>evF (ai GC ly) 300 wS 4 args
theorem nK:br Tryz.prog GC 16 M19:=br.of_ev (E:=ai GC ly) (aj qK) rfl Kw vS 4 fun _ _ h=>⟨300,h⟩
def yj (r:Option (List a6)):AV:=.tup [slA 4 ((r.getD []).map dp),.int .i64 (if r.isSome then 0 else 130)]
theorem ws (T:bb) (o:List Int) (i:Nat):((List.range (i+1)).map (qq T o))=(List.range i).map (qq T o)++[qq T o i]:=by
 rw [List.range_succ,List.map_append]; rfl
theorem qp (T:bb) (o:List Int) (i:Nat):((List.range (i+1)).flatMap (ru T o))=(List.range i).flatMap (ru T o)++ru T o i:=by
 rw [List.range_succ,List.flatMap_append]; simp
theorem qo (T:bb) (o:List Int) (i:Nat):((List.range i).flatMap (ru T o)).length=2*i:=by
 induction i with
 | zero=>rfl
 | succ i ih=>rw [qp,List.length_append,ih]; rfl
theorem Cl {T:bb} {chv ov:AV} {o:List Int} (hO:o∈aC T) (ho:SlA 1 (ax o) ov):∀(c i:Nat) (A:ac) (m:Nat),i+c=o.length->I19 A T chv ov ((List.range i).map (qq T o))->c<m ->
  ∃B,bM (evC (ai GC ly) 300 eO) gI m (lS (.ptr 0 0 0) (.ptr 1 0 0) (.int .i64 (df T)) (.ptr 2 0 0) ov (.int .i64 (o.length:Int)) (.int .i64 (i:Int))) A =
   some (.exit 0 ((lS (.ptr 0 0 0) (.ptr 1 0 0) (.int .i64 (df T)) (.ptr 2 0 0) ov (.int .i64 (o.length:Int)) (.int .i64 (o.length:Int))).set 19 (.bool false)) B)/\I19 B T chv ov ((List.range o.length).map (qq T o)):=by
 obtain ⟨hv,hol,_,_⟩:=bQ hO
 have hn4:=hv.2.2.2.1
 intro c
 induction c with
 | zero=>
  intro i A m hi hI hm
  obtain ⟨m,rfl⟩:∃j,m=j+1:=⟨m-1,by omega⟩
  obtain rfl:i=o.length:=by omega
  refine ⟨A,?_,hI⟩
  have b0:=bw o.length o.length .i64
  rw [decide_eq_false (by omega)] at b0
  rw [aK,we]
  simp [eO,b0,-aq]
 | succ c ih=>
  intro i A m hi hI hm
  obtain ⟨m,rfl⟩:∃j,m=j+1:=⟨m-1,by omega⟩
  obtain ⟨B,h1,h2⟩:=xo hO ho hI (by simp; omega) (i:=i) (by omega)
  rw [<-ws] at h2
  obtain ⟨C,h3,h4⟩:=ih (i+1) B m (by omega) h2 (by omega)
  refine ⟨C,?_,h4⟩
  rw [aK,we,h1]
  exact h3
theorem Ck {T:bb} {chv ov:AV} {o:List Int} (hO:o∈aC T) (hcv:SlA 2 (T.ch.map chA) chv) (ho:SlA 1 (ax o) ov) {l0:List a6} (hl0:l0.length<=50):∀(c i:Nat) (A:ac) (m:Nat),i+c=T.ch.length->I19 A T chv ov (l0++(List.range i).flatMap (ru T o))->c<m ->
  ∃B,bM (evC (ai GC ly) 300 kv) gH m (lR (.ptr 1 0 0) (.int .i64 (df T)) (.ptr 2 0 0) (fnL T) chv (.int .i64 (T.ch.length:Int)) (.int .i64 (i:Int))) A =
   some (.exit 2 ((lR (.ptr 1 0 0) (.int .i64 (df T)) (.ptr 2 0 0) (fnL T) chv (.int .i64 (T.ch.length:Int)) (.int .i64 (T.ch.length:Int))).set 25 (.bool false)) B)/\I19 B T chv ov (l0++(List.range T.ch.length).flatMap (ru T o)):=by
 obtain ⟨hv,hol,_,_⟩:=bQ hO
 have hn4:=hv.2.2.2.1
 intro c
 induction c with
 | zero=>
  intro i A m hi hI hm
  obtain ⟨m,rfl⟩:∃j,m=j+1:=⟨m-1,by omega⟩
  obtain rfl:i=T.ch.length:=by omega
  refine ⟨A,?_,hI⟩
  have b0:=bw T.ch.length T.ch.length .i64
  rw [decide_eq_false (by omega)] at b0
  rw [aK,wd]
  simp [kv,b0,-aq]
 | succ c ih=>
  intro i A m hi hI hm
  obtain ⟨m,rfl⟩:∃j,m=j+1:=⟨m-1,by omega⟩
  obtain ⟨B,h1,h2⟩:=xn hO hcv ho hI (by rw [List.length_append,qo]; omega) (i:=i) (by omega)
  rw [List.append_assoc,<-qp] at h2
  obtain ⟨C,h3,h4⟩:=ih (i+1) B m (by omega) h2 (by omega)
  refine ⟨C,?_,h4⟩
  rw [aK,wd,h1]
  exact h3
theorem sQ {T:bb} {chv ov:AV} {o:List Int} (hcv:SlA 2 (T.ch.map chA) chv) (hl:T.ch.length<=200) (ho:SlA 1 (ax o) ov):M19 [aA T chv,ov]=some (yj (tE T o)):=by
 have m14:=wN hcv hl
 have m41:=wL ho (ll:=aC T)
 have ft:=fun A=>a7 (T:=T) (fun A n=>hcv.frz (A:=A) n) A 3
 have fo:∀A n,frz A n ov=ov:=fun A n=>ho.frz n
 have fO:∀A,frz A 4 (fG (aC T))=fG (aC T):=fun A=>(aR 1 _).frz 4
 have nO:bq 4 (fG (aC T))=true:=(aR 1 _).noRef 4
 have lt:∀X,af true 5 (.row 5 false [aA T chv] :: X) (.ptr 0 0 0)=some (aA T chv):=fun X=>rfl
 have lo:∀a X,af false 1 (a :: .row 1 false [ov] :: X) (.ptr 1 0 0)=some ov:=fun a X=>by
  rcases ho with ⟨rfl,_⟩ | rfl <;> simp
 have fF:frz [.row 5 false [aA T chv],.row 1 false [ov]] 4 (.func (.func 46) [] [.ptr 1 0 0])=fnO ov:=by
  have:cellsOf ov=[ov]:=by rcases ho with ⟨rfl,_⟩ | rfl <;> rfl
  have hs:ov.solid=true:=by rcases ho with ⟨rfl,_⟩ | rfl <;> rfl
  simp [frz,this,fo,fnO,hs,-cellsOf,-AV.solid]
 have bx0:bm 5 (aA T chv) []=some (.ptr 0 0 0,[.row 5 false [aA T chv]]):=rfl
 have bx1:bm 1 ov [.row 5 false [aA T chv]]=some (.ptr 1 0 0,[.row 5 false [aA T chv],.row 1 false [ov]]):=by
  rcases ho with ⟨rfl,_⟩ | rfl <;> rfl
 have bx2:∀t:AV,bm 1 .nilS [.row 5 false [t],.row 1 false [ov]]=some (.ptr 2 0 0,[.row 5 false [t],.row 1 false [ov],.row 1 false [.nilS]]):=fun t=>rfl
 unfold M19 tE
 rw [gn _ _ rfl]
 by_cases hO:o∈aC T
 ·obtain ⟨hv,hol,_,_⟩:=bQ hO
  have hn4:=hv.2.2.2.1
  have m41:=m41 (Nat.le_trans (gx T) (by omega)) (fun l hl=>by have:=(bQ hl).2.1; omega)
  rw [decide_eq_true hO] at m41
  rw [if_pos hO]
  have m44:=Ho chv hv
  have l4:∀X,aa 4 (.row 5 false [aA T chv] :: X) (.ptr 0 0 0)=some (.ptr 0 0 4):=fun X=>rfl
  have e0:∀X,aa 0 (.row 5 false [aA T chv] :: X) (.ptr 0 0 0)=some (.ptr 0 0 0):=fun X=>rfl
  obtain ⟨B1,h1,h2⟩:=Cl hO ho (chv:=chv) o.length 0 [.row 5 false [aA T chv],.row 1 false [ov],.row 1 false [.nilS]] 300 (by omega) ⟨rfl,rfl,⟨.nilS,rfl,.inl ⟨rfl,rfl⟩⟩⟩ (by omega)
  have hB1:∀ {x},B1[0]?=x->B1[0]?=x:=id
  have l4b:aa 4 B1 (.ptr 0 0 0)=some (.ptr 0 0 4):=by simp [aa,h2.t]
  have l4c:af false 1 B1 (.ptr 0 0 4)=some (.int .i64 T.blades):=by simp [af,h2.t,aA,bv]
  have l0b:aa 0 B1 (.ptr 0 0 0)=some (.ptr 0 0 0):=by simp [aa,h2.t]
  have l0c:af false 1 B1 (.ptr 0 0 0)=some chv:=by simp [af,h2.t,aA,bv]
  have iv:eU false 3 1 tc (.int .i64 T.blades)=some (fnL T):=by
   rcases hv.2.2.2.2 with h | h <;> rw [h] <;> unfold fnL <;> rw [h] <;> rfl
  have hlen:=hcv.len
  rw [List.length_map] at hlen
  have hlo:=ho.len
  rw [aH] at hlo
  have h2':I19 B1 T chv ov ((List.range o.length).map (qq T o)++(List.range 0).flatMap (ru T o)):=by simpa using h2
  obtain ⟨B2,h3,h4⟩:=Ck hO hcv ho (l0:=(List.range o.length).map (qq T o)) (by simp; omega) T.ch.length 0 B1 300 (by omega) h2' (by omega)
  obtain ⟨v,g1,g2,g3⟩:=h4.g.frz
  have g2:=g2 0
  have g3:=g3 0
  obtain ⟨R,hR⟩:∃R,R=slA 4 ((ba T o).map dp):=⟨_,rfl⟩
  rw [show (List.range o.length).map (qq T o)++(List.range T.ch.length).flatMap (ru T o)=ba T o from rfl,<-hR] at g2
  have hRR:yj (some (ba T o))=.tup [R,.int .i64 0]:=by rw [hR]; rfl
  rw [hRR]
  have h1:bM (evC (ai GC ly) 300 eO) gI 300 (lS (.ptr 0 0 0) (.ptr 1 0 0) (.int .i64 (df T)) (.ptr 2 0 0) ov (.int .i64 (o.length:Int)) (.int .i64 0)) [.row 5 false [aA T chv],.row 1 false [ov],.row 1 false [.nilS]]=_:=h1
  have h3:bM (evC (ai GC ly) 300 kv) gH 300 (lR (.ptr 1 0 0) (.int .i64 (df T)) (.ptr 2 0 0) (fnL T) chv (.int .i64 (T.ch.length:Int)) (.int .i64 0)) B1=_:=h3
  obtain ⟨t,htt⟩:∃t,t=aA T chv:=⟨_,rfl⟩
  obtain ⟨F,hF⟩:∃F,F=fnL T:=⟨_,rfl⟩
  obtain ⟨Q,hQ⟩:∃F,F=fG (aC T):=⟨_,rfl⟩
  obtain ⟨w,hw⟩:∃F,F=df T:=⟨_,rfl⟩
  rw [<-htt] at m14 ft lt fF bx0 bx1 m44 h1 ⊢
  rw [<-hF] at iv h3
  rw [<-hQ] at m14 m41 fO nO
  rw [<-hw] at m44 h1 h3
  have cb:∀x:AV,(cellsOf x).length=(cellsOf x).length:=fun _=>rfl
  have ct:(cellsOf t).length=5:=by rw [htt]; rfl
  have co:(cellsOf ov).length=1:=by rcases ho with ⟨rfl,_⟩ | rfl <;> rfl
  have fT:frz B2 4 (.tup [v,.int .i64 0])=.tup [R,.int .i64 0]:=by
   rw [<-g2]; rfl
  have rT:a9 B2 4 (.tup [v,.int .i64 0])=true:=by
   have g3:a9 B2 3 v=true:=g3
   simp [a9,g3]
  simp [wS,bx0,bx1,bx2,fT,rT,ct,co,lt,lo,m14,m41,m44,ft,fO,nO,fF,Z5 h1,FR h3,l4b,l4c,l0b,l0c,iv,hlen,hlo,wJ,g1,-bm,-af,-aa,-ay,-frz,-cellsOf]
 ·have hll:(aC T).length<=256:=gx T
  have m41:=m41 hll (fun l hl=>by have:=bQ hl; have:=this.1.2.2.2.1; omega)
  rw [decide_eq_false hO] at m41
  rw [if_neg hO]
  obtain ⟨t,htt⟩:∃t,t=aA T chv:=⟨_,rfl⟩
  obtain ⟨Q,hQ⟩:∃F,F=fG (aC T):=⟨_,rfl⟩
  rw [<-htt] at m14 ft lt fF bx0 bx1 ⊢
  rw [<-hQ] at m14 m41 fO nO
  have ct:(cellsOf t).length=5:=by rw [htt]; rfl
  have co:(cellsOf ov).length=1:=by rcases ho with ⟨rfl,_⟩ | rfl <;> rfl
  have fT:∀A,frz A 4 (.tup [.nilS,.int .i64 130])=.tup [.nilS,.int .i64 130]:=fun A=>rfl
  have rT:∀A,a9 A 4 (.tup [.nilS,.int .i64 130])=true:=fun A=>rfl
  simp [wS,bx0,bx1,fT,rT,ct,co,lt,m14,m41,ft,fO,nO,fF,-bm,-af,-aa,-ay,-frz,-cellsOf]
  rfl
end Clu
namespace Clu
open Go
open Cy (GC iR cH bu bG ce aT bi aH a6 dp bJ bZ dq okA smM smT lvM lvT dx ea eE cf lT)
theorem sk {o:List Int} {i:Nat} (h:i<o.length):o.getD i 0∈o:=by
 rw [List.getD_eq_getElem?_getD,List.getElem?_eq_getElem h]; exact List.getElem_mem h
theorem jW {T:bb} {o:List Int} (hO:o∈aC T):dq (o.length:Int) (ba T o)/\∀x∈ba T o,x.inR:=by
 obtain ⟨hv,hol,_,_⟩:=bQ hO
 have hbd:=fX hO
 have hw:=oi hv
 have hn1:=hv.2.2.1
 have hn4:=hv.2.2.2.1
 have htr:=hv.2.1.2.2
 have key:∀x∈ba T o,okA (o.length:Int) x:=fun x hx=>by
  rcases List.mem_append.1 hx with hx | hx
  ·obtain ⟨i,hi,rfl⟩:=List.mem_map.1 hx
   rw [List.mem_range] at hi
   have h1:=hbd _ (sk hi)
   have h2:0<=me o i/\me o i<=T.ch.length:=by
    unfold me
    split
    ·rename_i h; exact hbd _ (sk h)
    ·omega
   refine ⟨?_,?_,?_,?_⟩ <;> simp only [qq] <;> (try split) <;> omega
  ·obtain ⟨i,hi,hx⟩:=List.mem_flatMap.1 hx
   rw [List.mem_range] at hi
   have hx0:T.ch.getD i (0,0)=T.ch[i]:=by rw [List.getD_eq_getElem?_getD,List.getElem?_eq_getElem hi]; rfl
   have hxv:=hv.1 _ (List.getElem_mem hi)
   rw [<-hx0] at hxv
   simp only [qx] at hxv
   have lb:=yK T o ((i:Int)+1)
   have l1:0<=(lkT T o ((i:Int)+1)).1/\(lkT T o ((i:Int)+1)).1<=o.length-1/\0<=(lkT T o ((i:Int)+1)).2.1/\(lkT T o ((i:Int)+1)).2.1<=o.length-1:=by
    unfold lkT
    split <;> simp only <;> omega
   simp only [ru,List.mem_cons,List.not_mem_nil,or_false] at hx
   rcases hx with rfl | rfl <;> refine ⟨?_,?_,?_,?_⟩ <;> simp only <;> omega
 refine ⟨⟨by omega,?_,key⟩,fun x hx=>?_⟩
 ·unfold ba
  rw [List.length_append,qo]
  simp; omega
 ·obtain ⟨h1,h2,h3,h4⟩:=key x hx
  refine ⟨?_,?_,?_,?_⟩ <;> unfold inI <;> omega
def dR (l:List a6):AV:=slA 4 (l.map dp)
theorem gP {T:bb} {o:List Int} (hO:o∈aC T):bJ (dR (ba T o))=some (ba T o):=by
 obtain ⟨h1,h2⟩:=jW hO
 exact dx (by have:=h1.2.1; omega) h2
theorem dT {T:bb} {o:List Int} (hO:o∈aC T):tE T o=some (ba T o):=if_pos hO
def lw (s:Option (Int × List Int)):Int:=match s with | none=>1000000 | some x=>x.1-1
def gU (T:bb) (s:Option (Int × List Int)) (o:List Int):Option (Int × List Int):=
 match smM (o.length:Int) (ba T o) 1 (lw s) with
 | some p=>some (p,o)
 | none=>s
def qk (T:bb):Option (Int × List Int):=(aC T).foldl (gU T) none
structure be where
 period:Int
 order:List Int
 starts:List Int
 proof:List Int
def nc (T:bb) (x:Int × List Int):be:=
 ⟨x.1,x.2,(lvM (x.2.length:Int) (ba T x.2) x.1).1,if x.1 > 1 then (lvM (x.2.length:Int) (ba T x.2) (x.1-1)).2.1 else []⟩
def dZ (T:bb):Option be:=(qk T).map (nc T)
def gR (s:be):AV:=.agg [.int .i64 s.period,slA 1 (ax s.order),slA 1 (ax s.starts),slA 1 (ax s.proof)]
def DL:be:=⟨0,[],[],[]⟩
def mZ (r:Option be):AV:=.tup [gR (r.getD DL),.int .i64 (if r.isSome then 0 else 130)]
def sOk (T:bb) (s:Option (Int × List Int)):Prop:=∀x,s=some x->1<=x.1/\x.1<=1000000/\x.2∈aC T
theorem qN {n:Nat} {l:List a6} {hi r:Int} (hp:bZ hi) (h:smM (n:Int) l 1 hi=some r):1<=r/\r<=hi/\cf n l r/\¬ Cy.Pos l r/\∀q,1<=q->q<r->Cy.Pos l q:=by
 unfold smM at h
 rw [if_pos hp,Int.toNat_natCast] at h
 exact (Cy.ow (n:=n) (l:=l) hp (hi-1+2).toNat 1 (by omega)).1 r h
theorem Bf {n:Nat} {l:List a6} {hi:Int} (hp:bZ hi) (hv:dq n l) (h:smM (n:Int) l 1 hi=none):∀q,1<=q->q<=hi->Cy.Pos l q:=by
 unfold smM at h
 rw [if_pos hp,Int.toNat_natCast] at h
 exact (Cy.ow (n:=n) (l:=l) hp (hi-1+2).toNat 1 (by omega)).2 h ⟨hv,by unfold bZ; omega⟩
theorem oZ {T:bb} {s:Option (Int × List Int)} (h:sOk T s) {o:List Int} (hO:o∈aC T):sOk T (gU T s o):=by
 have hper:bZ (lw s):=by
  unfold lw bZ
  cases s with
  | none=>simp
  | some x=>have:=h x rfl; simp only; omega
 unfold gU
 cases hm:smM (o.length:Int) (ba T o) 1 (lw s) with
 | none=>exact h
 | some p=>
  obtain ⟨h1,h2,_⟩:=qN hper hm
  intro x hx
  injection hx with hx; subst hx
  exact ⟨h1,by unfold bZ at hper; simp only; omega,hO⟩
theorem qi {T:bb} {o q:List Int}:gU T (some (1,o)) q=some (1,o):=by
 unfold gU
 have hp:bZ 0:=by unfold bZ; omega
 cases hm:smM (q.length:Int) (ba T q) 1 ((1:Int)-1) with
 | none=>rfl
 | some p=>
  obtain ⟨h1,h2,_⟩:=qN (hi:=0) hp hm
  omega
theorem sr {T:bb} {o:List Int}:∀l:List (List Int),l.foldl (gU T) (some (1,o))=some (1,o)
 | []=>rfl
 | q :: l=>by rw [List.foldl_cons,qi,sr l]
theorem vu {T:bb}:∀(l:List (List Int)) (s:Option (Int × List Int)),(∀o∈l,o∈aC T)->sOk T s->sOk T (l.foldl (gU T) s)
 | [],_,_,h=>h
 | q :: l,s,hl,h=>vu l _ (fun o ho=>hl o (by simp [ho])) (oZ h (hl q (by simp)))
def tN:List (FuncId × aD):=[(15,bS 4 M14),(16,bS 4 M19),(40,aF 4 Cy.M23),(17,Cy.H14)]
@[simp] theorem JQ:aI tN 15=some (bS 4 M14):=rfl
@[simp] theorem JP:aI tN 16=some (bS 4 M19):=rfl
@[simp] theorem JO:aI tN 40=some (aF 4 Cy.M23):=rfl
@[simp] theorem JN:aI tN 17=some Cy.H14:=rfl
theorem Bb:∀f M,aI tN f=some M->an Tryz.prog GC f M:=ae (an.of_pureF nL 4) (ae (an.of_pureF nK 4) (ae (an.of_pure Cy.Eb 4) (ae Cy.nL aw)))
def zA:AV:=.agg [.int .i64 0,.nilS,.nilS,.nilS]
def bsA (s:Option (Int × List Int)):AV:=match s with | none=>.agg [.int .i64 0,.nilS,.nilS,.nilS] | some x=>.agg [.int .i64 x.1,slA 1 (ax x.2),.nilS,.nilS]
def bsV (T:bb) (s:Option (Int × List Int)):AV:=match s with | none=>.nilS | some x=>dR (ba T x.2)
def R22 (A:ac) (T:bb) (chv:AV) (s:Option (Int × List Int)):ac:=A++[.row 5 false [aA T chv],.row 4 false [zA],.row 4 false [bsA s]]
theorem LD (A:ac) (T:bb) (chv:AV) (s:Option (Int × List Int)):(R22 A T chv s)[A.length]?=some (.row 5 false [aA T chv]):=by simp [R22]
theorem Hc (A:ac) (T:bb) (chv:AV) (s:Option (Int × List Int)):(R22 A T chv s)[A.length+1]?=some (.row 4 false [zA]):=by simp [R22]
theorem wH (A:ac) (T:bb) (chv:AV) (s:Option (Int × List Int)):(R22 A T chv s)[A.length+2]?=some (.row 4 false [bsA s]):=by simp [R22]
theorem Du (A:ac) (T:bb) (chv:AV) (s s':Option (Int × List Int)):(R22 A T chv s).set (A.length+2) (.row 4 false [bsA s'])=R22 A T chv s':=by
 unfold R22
 rw [List.set_append_right _ _ (by omega),show A.length+2-A.length=2 by omega]
 rfl
def pOf (s:Option (Int × List Int)):Int:=match s with | none=>0 | some x=>x.1
theorem cQ (a b:Int):aq .gtr (.int .i64 a) (.int .i64 b)=some (.bool (decide (a > b))):=by simp [aq]
theorem iV (xs:List Int):(slA 1 (ax xs)).solid=true/\cellsOf (slA 1 (ax xs))=[slA 1 (ax xs)]:=by
 cases xs <;> exact ⟨rfl,rfl⟩
theorem Br {A:ac} {T:bb} {chv chF:AV} (hcv:SlA 2 (T.ch.map chA) chF) (hz:∀X,frz (A++X) 4 (aA T chv)=aA T chF) {s:Option (Int × List Int)} (hs:sOk T s) {i:Nat} (hi:i<(aC T).length) :
  (lw s<1->∃d6 d7 d8:AV,run (ai GC tN) 300 [.code eN] (lQ (.ptr A.length 0 0) (.ptr (A.length+1) 0 0) (.ptr (A.length+2) 0 0) (bsV T s) (fG (aC T)) (.int .i64 ((aC T).length:Int)) (.int .i64 (i:Int))) (R22 A T chv s) =
   some (.exit 0 [.undef,.ptr A.length 0 0,.ptr (A.length+1) 0 0,.undef,.ptr (A.length+2) 0 0,bsV T s,d6,d7,d8,.undef,.undef,fG (aC T),.int .i64 ((aC T).length:Int),.int .i64 (i:Int),.bool true,.bool true,.bool true,.undef,.undef,.undef] (R22 A T chv s))) /\
  (¬ lw s<1->run (ai GC tN) 300 [.code eN] (lQ (.ptr A.length 0 0) (.ptr (A.length+1) 0 0) (.ptr (A.length+2) 0 0) (bsV T s) (fG (aC T)) (.int .i64 ((aC T).length:Int)) (.int .i64 (i:Int))) (R22 A T chv s) =
   some (.normal (lQ (.ptr A.length 0 0) (.ptr (A.length+1) 0 0) (.ptr (A.length+2) 0 0) (bsV T (gU T s (aC T)[i])) (fG (aC T)) (.int .i64 ((aC T).length:Int)) (.int .i64 ((i+1:Nat):Int))) (R22 A T chv (gU T s (aC T)[i])))):=by
 obtain ⟨o,ho⟩:∃o,o=(aC T)[i]:=⟨_,rfl⟩
 have hO:o∈aC T:=by rw [ho]; exact List.getElem_mem hi
 obtain ⟨hv,hol,_,_⟩:=bQ hO
 have hhi:lw s<=1000000/\0<=lw s:=by
  unfold lw
  cases s with
  | none=>simp
  | some x=>have:=hs x rfl; simp only; omega
 have hb:=aR 1 ((aC T).map fun l=>slA 1 (ax l))
 rw [show slA 1 ((aC T).map fun l=>slA 1 (ax l))=fG (aC T) from rfl] at hb
 obtain ⟨q1,q2⟩:=iV o
 have he:((aC T).map fun l=>slA 1 (ax l))[i]?=some (slA 1 (ax o)):=by simp [hi,ho]
 have x1:=fun A=>hb.index1 (A:=A) he q1 q2 .i64
 have hos:=aR 1 (ax o)
 have hlo:=hos.len
 rw [aH] at hlo
 have m19:=sQ (T:=T) hcv (by have:=hv.2.2.2.1; omega) hos
 rw [dT hO] at m19
 have m19:M19 [aA T chF,slA 1 (ax o)]=some (.tup [dR (ba T o),.int .i64 0]):=m19
 have m23:∀hi,Cy.M23 [.int .i64 (o.length:Int),dR (ba T o),.int .i64 1,.int .i64 hi]=some (smT (smM (o.length:Int) (ba T o) 1 hi)):=fun hi=>by
  simp only [Cy.M23,gP hO,Option.map_some]
 have m23:=m23 (lw s)
 have hbs:gU T s o=match smM (o.length:Int) (ba T o) 1 (lw s) with | some p=>some (p,o) | none=>s:=rfl
 rw [<-ho,hbs]
 have b0:=bw i (aC T).length .i64
 rw [decide_eq_true hi] at b0
 have b1:=aY i (by have:=gx T; omega)
 have b2:=cQ (pOf s) 0
 have b3:aq .sub (.int .i64 (pOf s)) (.int .i64 1)=some (.int .i64 (pOf s-1)):=cd (by
  unfold pOf
  cases s with
  | none=>simp
  | some x=>have:=hs x rfl; simp only; omega)
 have hpp:(pOf s > 0->lw s=pOf s-1)/\(¬ pOf s > 0->lw s=1000000):=by
  unfold pOf lw
  cases s with
  | none=>simp
  | some x=>have:=hs x rfl; simp only; exact ⟨fun _=>trivial,fun h=>by omega⟩
 have b4:=cC (lw s) 1
 have ft:frz (R22 A T chv s) 4 (aA T chv)=aA T chF:=hz _
 have fo:∀A n,frz A n (slA 1 (ax o))=slA 1 (ax o):=fun A n=>hos.frz n
 have fa:∀A n,frz A n (dR (ba T o))=dR (ba T o):=fun A n=>(aR 4 _).frz n
 have na:bq 4 (dR (ba T o))=true:=(aR 4 _).noRef 4
 have lt:af true 5 (R22 A T chv s) (.ptr A.length 0 0)=some (aA T chv):=by simp [af,LD,aA]
 have f0:aa 0 (R22 A T chv s) (.ptr (A.length+2) 0 0)=some (.ptr (A.length+2) 0 0):=by simp [aa,wH]
 have l0:af false 1 (R22 A T chv s) (.ptr (A.length+2) 0 0)=some (.int .i64 (pOf s)):=by
  cases s <;> simp [af,wH,bsA,pOf,bv]
 have st:∀p,aE 4 (R22 A T chv s) (.ptr (A.length+2) 0 0) (.agg [.int .i64 p,slA 1 (ax o),.nilS,.nilS])=some (R22 A T chv (some (p,o))):=fun p=>by
  rw [<-Du A T chv s (some (p,o))]
  simp [wH,aE,bs,bsA]
 have fl:∀p,gT [.int .i64 0,.nilS,.nilS,.nilS] [(0,(1,.int .i64 p)),(1,(1,slA 1 (ax o)))]=some [.int .i64 p,slA 1 (ax o),.nilS,.nilS]:=fun p=>by
  have c1:cellsOf (AV.int .i64 p)=[.int .i64 p]:=rfl
  have c2:(AV.int .i64 p).solid=true:=rfl
  simp [gT,q1,q2,c1,c2,-cellsOf,-AV.solid]
 have fl2:∀x,gT [.int .i64 0,.nilS,.nilS,.nilS] x=gT [.int .i64 0,.nilS,.nilS,.nilS] x:=fun _=>rfl
 obtain ⟨W,hW⟩:∃W,W=slA 1 (ax o):=⟨_,rfl⟩
 rw [<-hW] at x1 hlo m19 fo st fl
 have hbv:∀p,bsV T (some (p,o))=dR (ba T o):=fun _=>rfl
 obtain ⟨sm,hsm⟩:∃sm,sm=smM (o.length:Int) (ba T o) 1 (lw s):=⟨_,rfl⟩
 rw [<-hsm] at m23 ⊢
 obtain ⟨V,hV⟩:∃V,V=dR (ba T o):=⟨_,rfl⟩
 rw [<-hV] at m19 m23 fa na
 simp only [<-hV] at hbv
 obtain ⟨tF,htF⟩:∃t,t=aA T chF:=⟨_,rfl⟩
 rw [<-htF] at m19 ft
 obtain ⟨t,ht⟩:∃t,t=aA T chv:=⟨_,rfl⟩
 rw [<-ht] at ft lt
 obtain ⟨h,hh⟩:∃h,h=lw s:=⟨_,rfl⟩
 rw [<-hh] at m23 b4 hpp ⊢
 obtain ⟨p,hp⟩:∃h,h=pOf s:=⟨_,rfl⟩
 rw [<-hp] at b2 b3 hpp l0
 obtain ⟨i1,hi1⟩:∃n,n=i+1:=⟨_,rfl⟩
 rw [<-hi1] at b1 ⊢
 obtain ⟨Q,hQ⟩:∃Q,Q=fG (aC T):=⟨_,rfl⟩
 rw [<-hQ] at x1 ⊢
 obtain ⟨A0,hA0⟩:∃X,X=R22 A T chv s:=⟨_,rfl⟩
 rw [<-hA0] at lt f0 l0 st ft ⊢
 obtain ⟨n0,hn0⟩:∃n,n=A.length:=⟨_,rfl⟩
 obtain ⟨n1,hn1⟩:∃n,n=A.length+1:=⟨_,rfl⟩
 obtain ⟨n2,hn2⟩:∃n,n=A.length+2:=⟨_,rfl⟩
 rw [<-hn2] at f0 l0 st
 rw [<-hn0] at lt
 rw [<-hn1,<-hn2,<-hn0]
 obtain ⟨U,hU⟩:∃U,U=bsV T s:=⟨_,rfl⟩
 rw [<-hU]
 refine ⟨fun h1=>⟨W,V,.int .i64 h,?_⟩,fun h1=>?_⟩
 ·have hp0:p > 0:=by
   by_cases hp0:p > 0
   ·exact hp0
   ·have:=hpp.2 hp0; omega
  rw [decide_eq_true hp0] at b2
  rw [<-hpp.1 hp0] at b3
  rw [decide_eq_true h1] at b4
  simp [eN,x1,lt,ft,fo,m19,f0,l0,b0,b2,b3,b4,-aq,-af,-aa,-au,-frz]
 ·rw [decide_eq_false h1] at b4
  by_cases hp0:p > 0
  ·rw [decide_eq_true hp0] at b2
   rw [<-hpp.1 hp0] at b3
   cases sm with
   | none=>
    simp only [<-hU,<-hA0]
    simp [eN,x1,lt,ft,fo,fa,aT,na,smT,m19,m23,hlo,f0,l0,b0,b1,b2,b3,b4,-aq,-af,-aa,-au,-ay,-frz]
   | some r=>simp [eN,x1,lt,ft,fo,fa,aT,na,smT,m19,m23,hlo,f0,l0,b0,b1,b2,b3,b4,st,fl,hbv,-aq,-af,-aE,-aa,-au,-ay,-frz,-gT]
  ·rw [decide_eq_false hp0] at b2
   obtain rfl:=hpp.2 hp0
   cases sm with
   | none=>
    simp only [<-hU,<-hA0]
    simp [eN,x1,lt,ft,fo,fa,aT,na,smT,m19,m23,hlo,f0,l0,b0,b1,b2,b4,-aq,-af,-aa,-au,-ay,-frz]
   | some r=>simp [eN,x1,lt,ft,fo,fa,aT,na,smT,m19,m23,hlo,f0,l0,b0,b1,b2,b4,st,fl,hbv,-aq,-af,-aE,-aa,-au,-ay,-frz,-gT]
end Clu
namespace Clu
open Go
open Cy (GC iR cH bu bG ce aT bi aH a6 dp bJ bZ dq okA smM smT lvM lvT dx ea eE cf lT)
theorem Fv {A:ac} {T:bb} {chv chF:AV} (hcv:SlA 2 (T.ch.map chA) chF) (hz:∀X,frz (A++X) 4 (aA T chv)=aA T chF):∀(c i:Nat) (s:Option (Int × List Int)) (m:Nat),i+c=(aC T).length->sOk T s->c<m ->
  ∃d6 d7 d8 d13 d14 d15 d16:AV,bM (evC (ai GC tN) 300 eN) jf m (lQ (.ptr A.length 0 0) (.ptr (A.length+1) 0 0) (.ptr (A.length+2) 0 0) (bsV T s) (fG (aC T)) (.int .i64 ((aC T).length:Int)) (.int .i64 (i:Int))) (R22 A T chv s) =
   some (.exit 0 [.undef,.ptr A.length 0 0,.ptr (A.length+1) 0 0,.undef,.ptr (A.length+2) 0 0,bsV T (((aC T).drop i).foldl (gU T) s),d6,d7,d8,.undef,.undef,fG (aC T),.int .i64 ((aC T).length:Int),d13,d14,d15,d16,.undef,.undef,.undef] (R22 A T chv (((aC T).drop i).foldl (gU T) s))):=by
 intro c
 induction c with
 | zero=>
  intro i s m hi hs hm
  obtain ⟨m,rfl⟩:∃j,m=j+1:=⟨m-1,by omega⟩
  obtain rfl:i=(aC T).length:=by omega
  rw [List.drop_length]
  refine ⟨.undef,.undef,.undef,.int .i64 ((aC T).length:Int),.bool false,.undef,.undef,?_⟩
  have b0:=bw (aC T).length (aC T).length .i64
  rw [decide_eq_false (by omega)] at b0
  rw [aK,sF]
  simp [eN,b0,-aq]
 | succ c ih=>
  intro i s m hi hs hm
  obtain ⟨m,rfl⟩:∃j,m=j+1:=⟨m-1,by omega⟩
  have hil:i<(aC T).length:=by omega
  obtain ⟨r1,r2⟩:=Br hcv hz hs hil
  rw [List.drop_eq_getElem_cons hil,List.foldl_cons]
  by_cases h1:lw s<1
  ·obtain ⟨d6,d7,d8,hr⟩:=r1 h1
   have hone:∃o,s=some (1,o):=by
    cases s with
    | none=>unfold lw at h1; simp at h1
    | some x=>
     have:=hs x rfl
     unfold lw at h1
     simp only at h1
     obtain ⟨p,o⟩:=x
     exact ⟨o,by simp only at this h1; rw [show p=1 by omega]⟩
   obtain ⟨o,rfl⟩:=hone
   rw [qi,sr]
   refine ⟨d6,d7,d8,.int .i64 (i:Int),.bool true,.bool true,.bool true,?_⟩
   rw [aK,sF,hr]
  ·have hr:=r2 h1
   obtain ⟨d6,d7,d8,d13,d14,d15,d16,h2⟩:=ih (i+1) _ m (by omega) (oZ hs (List.getElem_mem hil)) (by omega)
   refine ⟨d6,d7,d8,d13,d14,d15,d16,?_⟩
   rw [aK,sF,hr]
   exact h2
theorem Do (T:bb):sOk T (qk T):=vu _ _ (fun _ h=>h) (fun x h=>by cases h)
def E22 (A:ac) (T:bb) (chv:AV) (r:Option be):ac:=A++[.row 5 false [aA T chv],.row 4 false [match r with | none=>zA | some s=>gR s],.row 4 false [match r with | none=>zA | some s=>gR s]]
def H22:aD:=fun _=>bA (ai GC tN) 300 DB
theorem HB (h:aZ) {A:ac} {T:bb} {chv chF:AV} (hcv:SlA 2 (T.ch.map chA) chF) (hz:∀X,frz (A++X) 4 (aA T chv)=aA T chF) (hl:T.ch.length<=200):H22 h [aA T chv] A=some (mZ (dZ T),E22 A T chv (dZ T)):=by
 have m14:=wN hcv hl
 have hlen:ay (fG (aC T))=some (.int .i64 ((aC T).length:Int)):=by
  have:=(aR 1 ((aC T).map fun l=>slA 1 (ax l))).len
  rwa [List.length_map] at this
 obtain ⟨d6,d7,d8,d13,d14,d15,d16,lp⟩:=Fv hcv hz (aC T).length 0 none 300 (by omega) (fun x h=>by cases h) (by have:=gx T; omega)
 rw [List.drop_zero,show (aC T).foldl (gU T) none=qk T from rfl] at lp
 have hok:=Do T
 obtain ⟨A0,hA0⟩:∃X,X=A++[.row 5 false [aA T chv],.row 4 false [zA],.row 4 false [zA]]:=⟨_,rfl⟩
 rw [show R22 A T chv none=A0 from hA0.symm,show bsV T none=.nilS from rfl,show ((0:Nat):Int)=0 from rfl] at lp
 have lt:af true 5 A0 (.ptr A.length 0 0)=some (aA T chv):=by rw [hA0]; simp [af,aA]
 have ft:frz A0 4 (aA T chv)=aA T chF:=by rw [hA0]; exact hz _
 have bx0:bm 5 (aA T chv) A=some (.ptr A.length 0 0,A++[.row 5 false [aA T chv]]):=rfl
 have ct:(cellsOf (aA T chv)).length=5:=rfl
 have bx1:bm 4 (.agg [.int .i64 0,.nilS,.nilS,.nilS]) (A++[.row 5 false [aA T chv]])=some (.ptr (A.length+1) 0 0,A++[.row 5 false [aA T chv],.row 4 false [zA]]):=by simp [bm,zA]
 have bx2:bm 4 (.agg [.int .i64 0,.nilS,.nilS,.nilS]) (A++[.row 5 false [aA T chv],.row 4 false [zA]])=some (.ptr (A.length+2) 0 0,A0):=by rw [hA0]; simp [bm,zA]
 have hbm:dZ T=(qk T).map (nc T):=rfl
 rw [hbm]
 obtain ⟨s,hs⟩:∃s,s=qk T:=⟨_,rfl⟩
 rw [<-hs] at lp hok ⊢
 obtain ⟨X1,hX1⟩:∃X,X=A++[Ent.row 5 false [aA T chv]]:=⟨_,rfl⟩
 obtain ⟨X2,hX2⟩:∃X,X=A++[Ent.row 5 false [aA T chv],.row 4 false [zA]]:=⟨_,rfl⟩
 rw [<-hX1] at bx0 bx1
 rw [<-hX2] at bx1 bx2
 obtain ⟨t,ht⟩:∃t,t=aA T chv:=⟨_,rfl⟩
 obtain ⟨tF,htF⟩:∃t,t=aA T chF:=⟨_,rfl⟩
 obtain ⟨Q,hQ⟩:∃Q,Q=fG (aC T):=⟨_,rfl⟩
 obtain ⟨L,hL⟩:∃Q,Q=((aC T).length:Int):=⟨_,rfl⟩
 have f0:aa 0 (R22 A T chv s) (.ptr (A.length+2) 0 0)=some (.ptr (A.length+2) 0 0):=by simp [aa,wH]
 have l0:af false 1 (R22 A T chv s) (.ptr (A.length+2) 0 0)=some (.int .i64 (pOf s)):=by cases s <;> simp [af,wH,bsA,pOf,bv]
 rw [<-htF] at m14 ft
 rw [<-ht] at lt bx0 ct ft ⊢
 rw [<-hQ] at m14 hlen lp
 rw [<-hL] at hlen lp
 unfold H22
 rw [bH _ _ rfl]
 cases s with
 | none=>
  have b1:=bI 0 0
  rw [decide_eq_true rfl] at b1
  have e1:E22 A T chv none=R22 A T chv none:=rfl
  have st:aE 4 (R22 A T chv none) (.ptr (A.length+1) 0 0) (.agg [.int .i64 0,.nilS,.nilS,.nilS])=some (R22 A T chv none):=by
   have:(R22 A T chv none).set (A.length+1) (.row 4 false [zA])=R22 A T chv none:=by
    unfold R22
    rw [List.set_append_right _ _ (by omega),show A.length+1-A.length=1 by omega]
    rfl
   conv=>rhs; rw [<-this]
   simp [aE,Hc,bs,zA]
  have l4:af true 4 (R22 A T chv none) (.ptr (A.length+1) 0 0)=some (.agg [.int .i64 0,.nilS,.nilS,.nilS]):=by simp [af,Hc,zA]
  rw [show (Option.map (nc T) none)=none from rfl,e1]
  rw [show mZ none=.tup [.agg [.int .i64 0,.nilS,.nilS,.nilS],.int .i64 130] from rfl]
  obtain ⟨A1,hA1⟩:∃X,X=R22 A T chv none:=⟨_,rfl⟩
  rw [<-hA1] at lp f0 l0 st l4 ⊢
  have l0:af false 1 A1 (.ptr (A.length+2) 0 0)=some (.int .i64 0):=l0
  obtain ⟨n0,hn0⟩:∃n,n=A.length:=⟨_,rfl⟩
  obtain ⟨n1,hn1⟩:∃n,n=A.length+1:=⟨_,rfl⟩
  obtain ⟨n2,hn2⟩:∃n,n=A.length+2:=⟨_,rfl⟩
  rw [<-hn2] at lp f0 l0 bx2
  rw [<-hn1] at lp st l4 bx1
  rw [<-hn0] at lp lt bx0
  simp [DB,bx0,bx1,bx2,ct,lt,m14,ft,hlen,vj lp,f0,l0,b1,st,l4,-bm,-af,-aE,-aa,-ay,-frz,-cellsOf,-aq]
 | some x=>
  obtain ⟨p,o⟩:=x
  obtain ⟨hp1,hp2,hO⟩:=hok _ rfl
  simp only at hp1 hp2 hO
  have hos:=aR 1 (ax o)
  have hlo:=hos.len
  rw [aH] at hlo
  obtain ⟨q1,q2⟩:=iV o
  have hv:=gP hO
  have h14:=fun A=>Cy.zH (fun _ _ _=>none) (A:=A) (show frz A 4 (dR (ba T o))=dR (ba T o) from (aR 4 ((ba T o).map dp)).frz 4) hv (o.length:Int)
  obtain ⟨st,hst⟩:∃st,st=(lvM (o.length:Int) (ba T o) p).1:=⟨_,rfl⟩
  have hl1:lvT (lvM (o.length:Int) (ba T o) p)=.tup [slA 1 (ax st),slA 1 (ax (lvM (o.length:Int) (ba T o) p).2.1),.bool (lvM (o.length:Int) (ba T o) p).2.2]:=by rw [hst]; rfl
  obtain ⟨s1,s2⟩:=iV st
  obtain ⟨RA,hRA⟩:∃R:List Int->List Int->ac,∀a b,R a b=A++[.row 5 false [aA T chv],.row 4 false [zA],.row 4 false [.agg [.int .i64 p,slA 1 (ax o),slA 1 (ax a),slA 1 (ax b)]]]:=⟨_,fun _ _=>rfl⟩
  have hR0:R22 A T chv (some (p,o))=RA [] []:=by rw [hRA]; rfl
  rw [hR0] at lp f0 l0
  have l0:af false 1 (RA [] []) (.ptr (A.length+2) 0 0)=some (.int .i64 p):=l0
  have ra1:∀a b,(RA a b)[A.length+1]?=some (.row 4 false [zA]):=fun a b=>by rw [hRA]; simp
  have ra2:∀a b,(RA a b)[A.length+2]?=some (.row 4 false [.agg [.int .i64 p,slA 1 (ax o),slA 1 (ax a),slA 1 (ax b)]]):=fun a b=>by rw [hRA]; simp
  have fa:∀j a b,j<4->aa j (RA a b) (.ptr (A.length+2) 0 0)=some (.ptr (A.length+2) 0 j):=fun j a b hj=>by simp [aa,ra2,hj]
  have la0:∀a b,af false 1 (RA a b) (.ptr (A.length+2) 0 0)=some (.int .i64 p):=fun a b=>by simp [af,ra2,bv]
  have la1:∀a b,af false 1 (RA a b) (.ptr (A.length+2) 0 1)=some (slA 1 (ax o)):=fun a b=>by simp [af,ra2,bv]
  have lall:∀a b,af true 4 (RA a b) (.ptr (A.length+2) 0 0)=some (.agg [.int .i64 p,slA 1 (ax o),slA 1 (ax a),slA 1 (ax b)]):=fun a b=>by simp [af,ra2]
  have rset:∀a b a' b',(RA a b).set (A.length+2) (.row 4 false [.agg [.int .i64 p,slA 1 (ax o),slA 1 (ax a'),slA 1 (ax b')]])=RA a' b':=fun a b a' b'=>by
   rw [hRA,hRA,List.set_append_right _ _ (by omega),show A.length+2-A.length=2 by omega]
   rfl
  have st2:∀a,aE 1 (RA [] []) (.ptr (A.length+2) 0 2) (slA 1 (ax a))=some (RA a []):=fun a=>by
   obtain ⟨z1,z2⟩:=iV a
   rw [<-rset [] [] a []]
   simp [aE,ra2,bs,z1,z2,-cellsOf,-AV.solid]
  have st3:∀a b,aE 1 (RA a []) (.ptr (A.length+2) 0 3) (slA 1 (ax b))=some (RA a b):=fun a b=>by
   obtain ⟨z1,z2⟩:=iV b
   rw [<-rset a [] a b]
   simp [aE,ra2,bs,z1,z2,-cellsOf,-AV.solid]
  obtain ⟨RB,hRB⟩:∃R:List Int->List Int->ac,∀a b,R a b=E22 A T chv (some ⟨p,o,a,b⟩):=⟨_,fun _ _=>rfl⟩
  have stB:∀a b,aE 4 (RA a b) (.ptr (A.length+1) 0 0) (.agg [.int .i64 p,slA 1 (ax o),slA 1 (ax a),slA 1 (ax b)])=some (RB a b):=fun a b=>by
   have:(RA a b).set (A.length+1) (.row 4 false [.agg [.int .i64 p,slA 1 (ax o),slA 1 (ax a),slA 1 (ax b)]])=RB a b:=by
    rw [hRA,hRB,List.set_append_right _ _ (by omega),show A.length+1-A.length=1 by omega]
    rfl
   rw [<-this]
   simp [aE,ra1,bs,zA]
  have lB:∀a b,af true 4 (RB a b) (.ptr (A.length+1) 0 0)=some (.agg [.int .i64 p,slA 1 (ax o),slA 1 (ax a),slA 1 (ax b)]):=fun a b=>by
   have:(RB a b)[A.length+1]?=some (.row 4 false [.agg [.int .i64 p,slA 1 (ax o),slA 1 (ax a),slA 1 (ax b)]]):=by rw [hRB]; simp [E22,gR]
   simp [af,this]
  have b1:=bI p 0
  rw [decide_eq_false (by omega)] at b1
  have b2:=cQ p 1
  have b3:aq .sub (.int .i64 p) (.int .i64 1)=some (.int .i64 (p-1)):=cd (by omega)
  have hsb:∀pr,nc T (p,o)=⟨p,o,st,pr⟩↔pr=(if p > 1 then (lvM (o.length:Int) (ba T o) (p-1)).2.1 else []):=fun pr=>by
   unfold nc
   simp only [<-hst]
   constructor
   ·intro h; injection h with _ _ _ h; exact h.symm
   ·intro h; rw [h]
  have lp:bM (evC (ai GC tN) 300 eN) jf 300 (lQ (.ptr A.length 0 0) (.ptr (A.length+1) 0 0) (.ptr (A.length+2) 0 0) .nilS Q (.int .i64 L) (.int .i64 0)) A0 =
    some (.exit 0 [.undef,.ptr A.length 0 0,.ptr (A.length+1) 0 0,.undef,.ptr (A.length+2) 0 0,dR (ba T o),d6,d7,d8,.undef,.undef,Q,.int .i64 L,d13,d14,d15,d16,.undef,.undef,.undef] (RA [] [])):=lp
  have h1:=h14 (RA [] []) p
  rw [hl1] at h1
  have h2:=h14 (RA st []) (p-1)
  obtain ⟨pr,hpr⟩:∃pr,pr=(lvM (o.length:Int) (ba T o) (p-1)).2.1:=⟨_,rfl⟩
  rw [show lvT (lvM (o.length:Int) (ba T o) (p-1))=.tup [slA 1 (ax (lvM (o.length:Int) (ba T o) (p-1)).1),slA 1 (ax pr),.bool (lvM (o.length:Int) (ba T o) (p-1)).2.2] by rw [hpr]; rfl] at h2
  have k5:=st2 st
  have k7:=la0 st []
  have k8:=la1 st []
  have k9:=la1 [] []
  have f1:=fun j=>fa j [] []
  have f2:=fun j=>fa j st []
  obtain ⟨n0,hn0⟩:∃n,n=A.length:=⟨_,rfl⟩
  obtain ⟨n1,hn1⟩:∃n,n=A.length+1:=⟨_,rfl⟩
  obtain ⟨n2,hn2⟩:∃n,n=A.length+2:=⟨_,rfl⟩
  rw [<-hn2] at lp f0 l0 bx2 k5 k7 k8 k9
  simp only [<-hn2] at f1 f2
  rw [<-hn1] at lp bx1
  rw [<-hn0] at lp lt bx0
  obtain ⟨W,hW⟩:∃W,W=slA 1 (ax o):=⟨_,rfl⟩
  obtain ⟨V,hV⟩:∃V,V=dR (ba T o):=⟨_,rfl⟩
  rw [<-hV] at lp h1 h2
  obtain ⟨B0,hB0⟩:∃A,A=RA [] []:=⟨_,rfl⟩
  rw [<-hB0] at lp f0 l0 k5 k9 h1
  simp only [<-hB0] at f1
  obtain ⟨S1,hS1⟩:∃W,W=slA 1 (ax st):=⟨_,rfl⟩
  by_cases hp:p > 1
  ·rw [decide_eq_true hp] at b2
   have hsc:(Option.map (nc T) (some (p,o)))=some ⟨p,o,st,pr⟩:=by
    rw [Option.map_some,(hsb pr).2 (by rw [if_pos hp]; exact hpr)]
   rw [hsc,<-hRB]
   rw [show mZ (some ⟨p,o,st,pr⟩)=.tup [.agg [.int .i64 p,slA 1 (ax o),slA 1 (ax st),slA 1 (ax pr)],.int .i64 0] from rfl]
   have k1:=lall st pr
   have k2:=stB st pr
   have k3:=lB st pr
   have k6:=st3 st pr
   rw [<-hn2] at k1 k6
   rw [<-hn1] at k2 k3
   obtain ⟨B1,hB1⟩:∃A,A=RA st []:=⟨_,rfl⟩
   rw [<-hB1] at k5 k6 k7 k8 h2
   simp only [<-hB1] at f2
   obtain ⟨B2,hB2⟩:∃A,A=RA st pr:=⟨_,rfl⟩
   rw [<-hB2] at k1 k2 k6
   obtain ⟨B3,hB3⟩:∃A,A=RB st pr:=⟨_,rfl⟩
   rw [<-hB3] at k2 k3 ⊢
   obtain ⟨S2,hS2⟩:∃W,W=slA 1 (ax pr):=⟨_,rfl⟩
   rw [<-hW] at k1 k2 k3 k8 k9 hlo ⊢
   rw [<-hS1] at h1 k1 k2 k3 k5 ⊢
   rw [<-hS2] at h2 k1 k2 k3 k6 ⊢
   obtain ⟨p1,hp1⟩:∃q,q=p-1:=⟨_,rfl⟩
   rw [<-hp1] at h2 b3
   simp [DB,bx0,bx1,bx2,ct,lt,m14,ft,hlen,vj lp,f0,f1,f2,l0,b1,b2,b3,hlo,h1,h2,k1,k2,k3,k5,k6,k7,k8,k9,-bm,-af,-aE,-aa,-ay,-frz,-cellsOf,-aq]
  ·rw [decide_eq_false hp] at b2
   have hsc:(Option.map (nc T) (some (p,o)))=some ⟨p,o,st,[]⟩:=by
    rw [Option.map_some,(hsb []).2 (by rw [if_neg hp])]
   rw [hsc,<-hRB]
   rw [show mZ (some ⟨p,o,st,[]⟩)=.tup [.agg [.int .i64 p,slA 1 (ax o),slA 1 (ax st),slA 1 (ax [])],.int .i64 0] from rfl]
   have k1:=lall st []
   have k2:=stB st []
   have k3:=lB st []
   rw [<-hn2] at k1
   rw [<-hn1] at k2 k3
   obtain ⟨B1,hB1⟩:∃A,A=RA st []:=⟨_,rfl⟩
   rw [<-hB1] at k1 k2 k5 k7
   simp only [<-hB1] at f2
   obtain ⟨B3,hB3⟩:∃A,A=RB st []:=⟨_,rfl⟩
   rw [<-hB3] at k2 k3 ⊢
   obtain ⟨S2,hS2⟩:∃W,W=slA 1 (ax []):=⟨_,rfl⟩
   rw [<-hW] at k1 k2 k3 k9 hlo ⊢
   rw [<-hS1] at h1 k1 k2 k3 k5 ⊢
   rw [<-hS2] at k1 k2 k3 ⊢
   simp [DB,bx0,bx1,bx2,ct,lt,m14,ft,hlen,vj lp,f0,f1,f2,l0,b1,b2,hlo,h1,k1,k2,k3,k5,k7,k9,-bm,-af,-aE,-aa,-ay,-frz,-cellsOf,-aq]
def M22:aG:=fun args=>evP (ai GC tN) 300 DB 4 args
theorem Ec:ak Tryz.prog GC 14 M22:=ak.of_ev (E:=ai GC tN) (aj Bb) rfl at22 GV 4 fun _ _ h=>⟨300,h⟩
theorem Hs {T:bb} {chv:AV} (hcv:SlA 2 (T.ch.map chA) chv) (hl:T.ch.length<=200):M22 [aA T chv]=some (mZ (dZ T)):=by
 have h:=HB (fun _ _ _=>none) (A:=[]) hcv (fun X=>a7 (T:=T) (fun A n=>hcv.frz (A:=A) n) _ 3) hl
 unfold H22 at h
 unfold M22 evP
 rw [h,Option.map_some]
 congr 1
 have k1:=fun A o=>(aR 1 (ax o)).frz (A:=A) 2
 unfold mZ
 simp only
 simp [frz,gR,k1]
end Clu
namespace Clu
open Go
open Cy (GC iR cH bu bG ce aT bi aH a6 dp bJ bZ dq okA smM smT lvM lvT dx ea eE cf lT)
structure iO (s:be) (ov sv pv:AV):Prop where
 o:SlA 1 (ax s.order) ov
 st:SlA 1 (ax s.starts) sv
 pr:SlA 1 (ax s.proof) pv
 per:inI s.period
 ol:s.order.length<=9223372036854775807
 stl:s.starts.length<=9223372036854775807
 sti:∀z∈s.starts,inI z
 prl:s.proof.length<=9223372036854775807
 pri:∀z∈s.proof,inI z
def Chk (T:bb) (s:be):Prop:=s.order∈aC T/\(1<=s.period/\s.period<=1000000)/\ea (s.order.length:Int) (ba T s.order) s.period s.starts /\
 (if s.period=1 then s.proof=[] else eE (s.order.length:Int) (ba T s.order) (s.period-1) s.proof)
def oL:List (FuncId × aD):=[(16,bS 4 M19),(20,aF 4 Cy.M19),(18,aF 4 Cy.M21)]
@[simp] theorem JB:aI oL 16=some (bS 4 M19):=rfl
@[simp] theorem JA:aI oL 20=some (aF 4 Cy.M19):=rfl
@[simp] theorem Jx:aI oL 18=some (aF 4 Cy.M21):=rfl
theorem qJ:∀f M,aI oL f=some M->an Tryz.prog GC f M:=ae (an.of_pureF nK 4) (ae (an.of_pure Cy.nK 4) (ae (an.of_pure Cy.yC 4) aw))
def M26:aG:=fun args=>evP (ai GC oL) 0 pF 4 args
theorem Ea:ak Tryz.prog GC 56 M26:=ak.of_ev (E:=ai GC oL) (aj qJ) rfl G4 qd 4 fun _ _ h=>⟨0,h⟩
open Classical in
theorem sP {T:bb} {chv:AV} (hcv:SlA 2 (T.ch.map chA) chv) (hl:T.ch.length<=200) {s:be} {ov sv pv:AV} (hs:iO s ov sv pv) :
  M26 [aA T chv,.agg [.int .i64 s.period,ov,sv,pv]]=some (.bool (decide (Chk T s))):=by
 have m19:=sQ hcv hl hs.o
 have ft:=fun A=>a7 (T:=T) (fun A n=>hcv.frz (A:=A) n) A 3
 have fo:∀A n,frz A n ov=ov:=fun A n=>hs.o.frz n
 have fs:∀A n,frz A n sv=sv:=fun A n=>hs.st.frz n
 have fp:∀A n,frz A n pv=pv:=fun A n=>hs.pr.frz n
 have hlo:=hs.o.len
 rw [aH] at hlo
 have hlp:=hs.pr.len
 rw [aH] at hlp
 have iv1:ev sv=some s.starts:=mB hs.st hs.stl hs.sti
 have iv2:ev pv=some s.proof:=mB hs.pr hs.prl hs.pri
 obtain ⟨p,o,st,pr⟩:=s
 simp only at m19 hlo hlp iv1 iv2
 have hper:=hs.per
 simp only [inI] at hper
 have q1:ov.solid=true/\cellsOf ov=[ov]:=by rcases hs.o with ⟨rfl,_⟩ | rfl <;> exact ⟨rfl,rfl⟩
 have q2:sv.solid=true/\cellsOf sv=[sv]:=by rcases hs.st with ⟨rfl,_⟩ | rfl <;> exact ⟨rfl,rfl⟩
 have q3:pv.solid=true/\cellsOf pv=[pv]:=by rcases hs.pr with ⟨rfl,_⟩ | rfl <;> exact ⟨rfl,rfl⟩
 have bx0:bm 5 (aA T chv) []=some (.ptr 0 0 0,[.row 5 false [aA T chv]]):=rfl
 have bx1:∀t,bm 4 (.agg [.int .i64 p,ov,sv,pv]) [.row 5 false [t]]=some (.ptr 1 0 0,[.row 5 false [t],.row 4 false [.agg [.int .i64 p,ov,sv,pv]]]):=fun t=>rfl
 have ct:(cellsOf (aA T chv)).length=5:=rfl
 have ca:(cellsOf (.agg [.int .i64 p,ov,sv,pv])).length=4:=rfl
 obtain ⟨A0,hA0⟩:∃A:ac,A=[.row 5 false [aA T chv],.row 4 false [.agg [.int .i64 p,ov,sv,pv]]]:=⟨_,rfl⟩
 have lt:af true 5 A0 (.ptr 0 0 0)=some (aA T chv):=by rw [hA0]; rfl
 have fa:∀j,j<4->aa j A0 (.ptr 1 0 0)=some (.ptr 1 0 j):=fun j hj=>by rw [hA0]; simp [aa,hj]
 have l0:af false 1 A0 (.ptr 1 0 0)=some (.int .i64 p):=by rw [hA0]; rfl
 have l1:af false 1 A0 (.ptr 1 0 1)=some ov:=by rw [hA0]; rfl
 have l2:af false 1 A0 (.ptr 1 0 2)=some sv:=by rw [hA0]; rfl
 have l3:af false 1 A0 (.ptr 1 0 3)=some pv:=by rw [hA0]; rfl
 obtain ⟨t,ht⟩:∃t,t=aA T chv:=⟨_,rfl⟩
 rw [<-ht] at m19 ft bx0 ct lt hA0 ⊢
 have bx1:=bx1 t
 rw [<-hA0] at bx1
 unfold M26
 rw [aS _ _ rfl]
 by_cases hO:o∈aC T
 rotate_left
 ·rw [decide_eq_false (fun h=>hO h.1)]
  have e0:tE T o=none:=if_neg hO
  rw [e0] at m19
  have m19:M19 [t,ov]=some (.tup [.nilS,.int .i64 130]):=m19
  have b1:=cJ 130 0
  rw [decide_eq_true (by omega)] at b1
  simp [pF,bx0,bx1,ct,ca,lt,m19,ft,fo,hlo,fa,l1,b1,-bm,-af,-aa,-ay,-frz,-cellsOf,-aq,bi]
 rw [dT hO] at m19
 have m19:M19 [t,ov]=some (.tup [dR (ba T o),.int .i64 0]):=m19
 have b1:=cJ 0 0
 rw [decide_eq_false (by omega)] at b1
 have b2:=cC p 1
 by_cases hp1:p<1
 ·rw [decide_eq_false (fun h=>by have:=h.2.1.1; simp only at this; omega)]
  rw [decide_eq_true hp1] at b2
  simp [pF,bx0,bx1,ct,ca,lt,m19,ft,fo,hlo,fa,l0,l1,b1,b2,-bm,-af,-aa,-ay,-frz,-cellsOf,-aq,bi]
 rw [decide_eq_false hp1] at b2
 have b3:=cQ p 1000000
 by_cases hp2:p > 1000000
 ·rw [decide_eq_false (fun h=>by have:=h.2.1.2; simp only at this; omega)]
  rw [decide_eq_true hp2] at b3
  simp [pF,bx0,bx1,ct,ca,lt,m19,ft,fo,hlo,fa,l0,l1,b1,b2,b3,-bm,-af,-aa,-ay,-frz,-cellsOf,-aq,bi]
 rw [decide_eq_false hp2] at b3
 have mv:Cy.M19 [.int .i64 (o.length:Int),dR (ba T o),.int .i64 p,sv]=some (.bool (decide (ea (o.length:Int) (ba T o) p st))):=by
  simp only [Cy.M19,gP hO,iv1]
 have mr:∀p,Cy.M21 [.int .i64 (o.length:Int),dR (ba T o),.int .i64 p,pv]=some (.bool (decide (eE (o.length:Int) (ba T o) p pr))):=fun p=>by
  simp only [Cy.M21,gP hO,iv2]
 have fa':∀A n,frz A n (dR (ba T o))=dR (ba T o):=fun A n=>(aR 4 _).frz n
 obtain ⟨V,hV⟩:∃V,V=dR (ba T o):=⟨_,rfl⟩
 rw [<-hV] at m19 mv fa'
 by_cases hver:ea (o.length:Int) (ba T o) p st
 rotate_left
 ·rw [decide_eq_false hver] at mv
  rw [decide_eq_false (fun h=>hver h.2.2.1)]
  simp [pF,bx0,bx1,ct,ca,lt,m19,ft,fo,fs,fa',aT,mv,hlo,fa,l0,l1,l2,b1,b2,b3,-bm,-af,-aa,-ay,-frz,-cellsOf,-aq,bi]
 rw [decide_eq_true hver] at mv
 have b4:=bI p 1
 by_cases hp:p=1
 ·rw [decide_eq_true hp] at b4
  have b5:aq .eql (.int .i64 (pr.length:Int)) (.int .i64 0)=some (.bool (decide (pr=[]))):=by
   rw [bI]
   congr 2
   exact decide_eq_decide.2 ⟨fun h=>List.length_eq_zero_iff.1 (by omega),fun h=>by rw [h]; rfl⟩
  have hc:Chk T ⟨p,o,st,pr⟩↔pr=[]:=by
   constructor
   ·intro h
    have:=h.2.2.2
    simp only at this
    rwa [if_pos hp] at this
   ·intro h
    refine ⟨hO,⟨by simp only; omega,by simp only; omega⟩,hver,?_⟩
    simp only
    rw [if_pos hp]; exact h
  rw [decide_eq_decide.2 hc]
  obtain ⟨d,hd⟩:∃d,d=decide (pr=[]):=⟨_,rfl⟩
  rw [<-hd] at b5 ⊢
  simp [pF,bx0,bx1,ct,ca,lt,m19,ft,fo,fs,fa',aT,mv,hlo,hlp,fa,l0,l1,l2,l3,b1,b2,b3,b4,b5,bi,-bm,-af,-aa,-ay,-frz,-cellsOf,-aq]
 ·rw [decide_eq_false hp] at b4
  have b6:aq .sub (.int .i64 p) (.int .i64 1)=some (.int .i64 (p-1)):=cd (by omega)
  have hc:Chk T ⟨p,o,st,pr⟩↔eE (o.length:Int) (ba T o) (p-1) pr:=by
   constructor
   ·intro h
    have:=h.2.2.2
    simp only at this
    rwa [if_neg hp] at this
   ·intro h
    refine ⟨hO,⟨by simp only; omega,by simp only; omega⟩,hver,?_⟩
    simp only
    rw [if_neg hp]; exact h
  rw [decide_eq_decide.2 hc]
  have mr:=mr (p-1)
  rw [<-hV] at mr
  obtain ⟨d,hd⟩:∃d,d=decide (eE (o.length:Int) (ba T o) (p-1) pr):=⟨_,rfl⟩
  rw [<-hd] at mr ⊢
  obtain ⟨p1,hp1'⟩:∃q,q=p-1:=⟨_,rfl⟩
  rw [<-hp1'] at mr b6
  simp [pF,bx0,bx1,ct,ca,lt,m19,ft,fo,fs,fp,fa',aT,mv,mr,hlo,fa,l0,l1,l2,l3,b1,b2,b3,b4,b6,bi,-bm,-af,-aa,-ay,-frz,-cellsOf,-aq]
end Clu
end Go.Proofs.YtfkcoekicjjndaaGreat
