import Derived.Test.YtkcjhljbgjpklaaVI05
import Derived.Test.YtkcjhljbgjpklaaChecked
import Derived.KernelRfl
import Derived.WalkKit
import Derived.Deep.LoopGhost
import Derived.Lib.Walk
import Derived.Lib.SliceRun
import Derived.Deep.RegionLaw
import Derived.Shelf.RegionOpenPlain
import Derived.Laws.IdiomCopy
import Derived.Below
set_option maxRecDepth 100000
set_option maxHeartbeats 4000000
noncomputable section
namespace Go.Proofs.Ytkcjhljbgjpklaa
variable {rd o inn xs:List Int} {A:ac} {free:Int} {d6 d13 d0 d5 d14 d15 d22 d1 d7 d11 d12 d18 d19 d21 v4 d2 v3 d16 d17 d20 d23 v10 d9 v8 chv d8 v9 d27 d28 d32 d3 d10 v2 d4 d24 d29 d33 d26 v7 v16 v1 v25 d30 d31 d34 d35 d36 v5 v12 d25 v30 v31 v11 v17 v20 v0 lv a:AV} {k fuel j e:Nat} {X Y:Nat->Int} {E:Env} {b:List Bool} {es:List AV}
namespace Tr
open Go
open Clu (aT aY)
open Cy (br lar kT gi cM dW okA lvM)
abbrev cO:=Int × Int
def wT (T:aT):Int:=T.pick+T.travel+T.place
def tmT (T:aT) (k:Nat):Int:=(T.ch.getD k (0,0)).1
def syT (T:aT) (k:Nat):Int:=(T.ch.getD k (0,0)).2
def btw (T:aT) (last next:Int):Int:=if next=last+1 then 0 else T.travel
def kw (T:aT) (inn:List Int) (t:cO):Option (List Int):=
 if 1<=t.1 then (if 0<=inn.getD (t.1-1).toNat 0/\inn.getD (t.1-1).toNat 0<=t.2/\t.2<=inn.getD (t.1-1).toNat 0+syT T (t.1-1).toNat then some (inn.set (t.1-1).toNat (-1)) else none) else some inn
def vR (T:aT) (inn:List Int) (t:cO):Option (List Int):=
 if t.1<inn.length then (if 0<=inn.getD t.1.toNat 0 then none else some (inn.set t.1.toNat (t.2+wT T+tmT T t.1.toNat))) else some inn
structure St where
 inn:List Int
 last:Int
 fin:Int
def eO (T:aT) (s:St) (t:cO):Option St:=
 if (0<=t.1/\t.1<=s.inn.length)/\s.fin+btw T s.last t.1<=t.2/\t.2<=1000000000 then
  (kw T s.inn t).bind fun a=>(vR T a t).map fun b=>⟨b,t.1,t.2+wT T⟩
 else none
def rF (T:aT):St->List cO->Option St
 | s,[]=>some s
 | s,t :: r=>(eO T s t).bind fun s'=>rF T s' r
def Sit (T:aT) (rd:List Int) (free:Int):Prop:=(aY T/\T.blades=1)/\rd.length=T.ch.length/\(0<=free/\free<=2000000)/\∀t∈rd,-1<=t/\t<=500000
instance (T:aT) (rd:List Int) (free:Int):Decidable (Sit T rd free):=inferInstanceAs (Decidable (_/\_))
def st0 (rd:List Int) (free:Int):St:=⟨rd,-2,free⟩
def fP (T:aT) (rd:List Int) (free:Int) (l:List cO):Option Int:=if Sit T rd free then (rF T (st0 rd free) l).map (·.fin) else none
def mvB (b:List Bool) (k:Nat):List Bool:=if k+1=b.length then b.set k false else (b.set k false).set (k+1) true
def gZ (b:List Bool) (k:Nat):Bool:=b.getD k false && (decide (k+1=b.length) || !b.getD (k+1) false)
def gF:Nat->List Bool->List (List Int)
 | 0,b=>if b.any id then [] else [[]]
 | d+1,b=>if b.any id then (List.range b.length).flatMap fun k=>if gZ b k then (gF d (mvB b k)).map (((k:Int)+1) :: ·) else [] else [[]]
def Emp:List Bool->List Int->Prop
 | b,[]=>b.any id=false
 | b,t :: r=>∃k:Nat,t=(k:Int)+1/\k<b.length/\gZ b k=true/\Emp (mvB b k) r
def mB:List Bool->Nat
 | []=>0
 | x :: r=>(if x then r.length+1 else 0)+mB r
theorem qd:∀b:List Bool,mB b=0->b.any id=false
 | [],_=>rfl
 | x :: r,h=>by
  simp only [mB] at h
  cases x
  ·simp only [List.any_cons,id,Bool.false_or]
   exact qd r (by simpa using h)
  ·simp at h
theorem J1:∀b:List Bool,b.any id=false->mB b=0
 | [],_=>rfl
 | x :: r,h=>by
  simp only [List.any_cons,id,Bool.or_eq_false_iff] at h
  simp only [mB,h.1,J1 r h.2]; rfl
theorem AH (v:Bool):∀(b:List Bool) (k:Nat),k<b.length->mB (b.set k v)+(if b.getD k false then b.length-k else 0)=mB b+(if v then b.length-k else 0)
 | [],k,h=>absurd h (Tx _)
 | x :: r,0,_=>by simp [mB]; omega
 | x :: r,k+1,h=>by
  have:=AH v r k (by simpa using h)
  simp only [SE,mB,Sm,List.getD_cons_succ,Sv,Nat.add_sub_add_right]
  omega
theorem fu (b:List Bool) (k:Nat):(mvB b k).length=b.length:=by
 unfold mvB; split <;> simp
theorem gB:gZ b k=true↔b.getD k false=true/\(k+1=b.length\/b.getD (k+1) false=false):=by
 simp [gZ]
theorem mu (b:List Bool) (i j:Nat) (v:Bool):(b.set i v).getD j false=if i=j/\i<b.length then v else b.getD j false:=by
 simp only [Rw,List.getElem?_set]
 by_cases h:i=j
 ·subst h
  by_cases h2:i<b.length
  ·simp [h2]
  ·simp [h2]
 ·simp [h]
theorem HI (hk:k<b.length) (j:Nat):(mvB b k).getD j false=if j=k then false else if j=k+1/\k+1<b.length then true else b.getD j false:=by
 unfold mvB
 split
 ·rw [mu]
  by_cases h:j=k
  ·subst h; simp [hk]
  ·rw [RK (by omega),RK h,RK (by omega)]
 ·rw [mu,mu,Sm]
  by_cases h:j=k
  ·subst h; rw [RK (by omega),RH ⟨rfl,hk⟩,RH rfl]
  ·by_cases h2:j=k+1
   ·subst h2; rw [RH ⟨rfl,by omega⟩,RK (by omega),RH ⟨rfl,by omega⟩]
   ·rw [RK (by omega),RK (by omega),RK h,RK (by omega)]
theorem wG (hk:k<b.length) (hc:gZ b k=true):mB (mvB b k)+1=mB b:=by
 obtain ⟨h1,h2⟩:=gB.1 hc
 have e1:=AH false b k hk
 rw [h1] at e1
 unfold mvB
 split
 ·simp at e1; omega
 ·rename_i h
  have e2:=AH true (b.set k false) (k+1) (by simp; omega)
  have e3:(b.set k false).getD (k+1) false=false:=by
   rw [mu,RK (by omega)]
   exact h2.resolve_left h
  rw [e3] at e2
  simp at e1 e2
  omega
theorem nq:∀ {b:List Bool} {o:List Int},Emp b o->o.length=mB b
 | b,[],h=>(J1 b h).symm
 | b,t :: r,⟨k,_,hk,hc,hr⟩=>by
  have:=nq hr
  have:=wG hk hc
  simp only [Sv]; omega
theorem Iw:b.any id=true↔∃k,k<b.length/\b.getD k false=true:=by
 rw [List.any_eq_true]
 constructor
 ·rintro ⟨x,hx,h⟩
  obtain ⟨k,hk,rfl⟩:=SD.1 hx
  exact ⟨k,hk,by rw [Rw,Rx hk]; exact h⟩
 ·rintro ⟨k,hk,h⟩
  rw [Rw,Rx hk] at h
  exact ⟨b[k],RM hk,h⟩
theorem pj (h:b.any id=false) (k:Nat):b.getD k false=false:=by
 by_cases hk:k<b.length
 ·cases e:b.getD k false
  ·rfl
  ·rw [Iw.2 ⟨k,hk,e⟩] at h; cases h
 ·rw [Rw,Sl (TY hk)]; rfl
theorem tB:∀(d:Nat) (b:List Bool) (o:List Int),mB b<=d->(o∈gF d b↔Emp b o)
 | 0,b,o,hd=>by
  have ha:=qd b (by omega)
  unfold gF
  rw [ha]
  cases o with
  | nil=>simp [Emp,ha]
  | cons t r=>
   simp only [Sc,S8,Sg,Emp]
   constructor
   ·intro h; cases h
   ·rintro ⟨k,_,_,hc,_⟩
    exact absurd (pj ha k) (by rw [(gB.1 hc).1]; decide)
 | d+1,b,o,hd=>by
  unfold gF
  cases ha:b.any id
  ·cases o with
   | nil=>simp [Emp,ha]
   | cons t r=>
    simp only [Sc,S8,Sg,Emp]
    constructor
    ·intro h; cases h
    ·rintro ⟨k,_,_,hc,_⟩
     exact absurd (pj ha k) (by rw [(gB.1 hc).1]; decide)
  ·simp only [SX,Ul,SI]
   cases o with
   | nil=>
    simp only [Emp,ha]
    constructor
    ·rintro ⟨k,_,h⟩
     split at h
     ·simp at h
     ·simp at h
    ·intro h; cases h
   | cons t r=>
    simp only [Emp]
    constructor
    ·rintro ⟨k,hk,h⟩
     split at h
     ·rename_i hc
      obtain ⟨r',hr',e⟩:=Sa.1 h
      injection e with e1 e2
      subst e2
      have:=wG hk hc
      exact ⟨k,e1.symm,hk,hc,(tB d _ _ (by omega)).1 hr'⟩
     ·cases h
    ·rintro ⟨k,rfl,hk,hc,hr⟩
     have:=wG hk hc
     refine ⟨k,hk,?_⟩
     rw [RH hc]
     exact Sa.2 ⟨r,(tB d _ _ (by omega)).2 hr,rfl⟩
theorem J2:∀b:List Bool,b.length<=4->mB b<=10
 | [],_=>by simp [mB]
 | [a],_=>by cases a <;> decide
 | [a,b],_=>by cases a <;> cases b <;> decide
 | [a,b,c],_=>by cases a <;> cases b <;> cases c <;> decide
 | [a,b,c,d],_=>by cases a <;> cases b <;> cases c <;> cases d <;> decide
 | _ :: _ :: _ :: _ :: _ :: _,h=>by simp at h
def upd (a:Nat->Option Nat) (k v:Nat):Nat->Option Nat:=fun j=>if j=k then some v else a j
def gu (T:aT) (rd:List Int) (a:Nat->Option Nat) (k:Nat):Nat × Int:=match a k with | some p=>(p,wT T+tmT T k) | none=>(0,rd.getD k 0)
def hdT (T:aT) (free:Int) (i:Nat) (last t:Int):br:=if i=0 then ⟨0,1,free+T.travel,0⟩ else ⟨i,(i:Int)+1,wT T+btw T last t,0⟩
def gh (T:aT) (rd:List Int) (free:Int):Nat->Int->(Nat->Option Nat)->List Int->List br
 | _,_,_,[]=>[]
 | i,last,a,t :: r=>hdT T free i last t :: ⟨((gu T rd a (t-1).toNat).1:Int),(i:Int)+1,(gu T rd a (t-1).toNat).2,0⟩ ::
   ⟨(i:Int)+1,((gu T rd a (t-1).toNat).1:Int),-((gu T rd a (t-1).toNat).2+syT T (t-1).toNat),0⟩ :: gh T rd free (i+1) t (upd a t.toNat (i+1)) r
def ck (T:aT) (rd:List Int) (free:Int) (o:List Int):List br:=gh T rd free 0 (-2) (fun _=>none) o
def mkX (X:Nat->Int):Nat->List Int->List cO
 | _,[]=>[]
 | i,t :: r=>(t,X (i+1)) :: mkX X (i+1) r
def KX (X:Nat->Int) (L:List br):Prop:=∀a∈L,X a.f.toNat+a.w<=X a.t.toNat
theorem kU {a:br} {L:List br}:KX X (a :: L)↔X a.f.toNat+a.w<=X a.t.toNat/\KX X L:=by simp [KX]
def RI (T:aT) (rd:List Int) (X:Nat->Int) (b:List Bool) (inn:List Int) (a:Nat->Option Nat):Prop:=
 b.length=T.ch.length/\inn.length=T.ch.length/\∀k,k<T.ch.length->(b.getD k false=true->0<=inn.getD k 0/\inn.getD k 0=X (gu T rd a k).1+(gu T rd a k).2)/\(b.getD k false=false->inn.getD k 0 = -1)
theorem dp (l:List Int) (i j:Nat) (v:Int):(l.set i v).getD j 0=if i=j/\i<l.length then v else l.getD j 0:=by
 simp only [Rw,List.getElem?_set]
 by_cases h:i=j
 ·subst h
  by_cases h2:i<l.length
  ·simp [h2]
  ·simp [h2]
 ·simp [h]
theorem di {T:aT} (hv:aY T) (k:Nat):0<=tmT T k/\tmT T k<=100000/\0<=syT T k/\syT T k<=100000:=by
 unfold tmT syT
 by_cases hk:k<T.ch.length
 ·rw [Rw,Rx hk]
  have:=hv.1 _ (RM hk)
  unfold Clu.ky at this
  simp only [Sq]
  omega
 ·rw [Rw,Sl (TY hk)]
  simp
theorem da {T:aT} (hv:aY T):(0<=T.travel/\T.travel<=10000)/\0<=wT T/\wT T<=30000:=by
 obtain ⟨_,⟨h1,h2,h3⟩,_⟩:=hv
 unfold wT; omega
theorem mN {T:aT} (hv:aY T) (a b:Int):0<=btw T a b/\btw T a b<=T.travel:=by
 have:=(da hv).1
 unfold btw; split <;> omega
theorem Dv {T:aT} {a:Nat->Option Nat} (_hv:aY T) (hR:RI T rd X b inn a) (hk:k<b.length) (hc:gZ b k=true) (i:Nat) (last e:Int) (_he:0<=e) :
  eO T ⟨inn,last,e⟩ ((k:Int)+1,X (i+1)) =
   if (e+btw T last ((k:Int)+1)<=X (i+1))/\(X (gu T rd a k).1+(gu T rd a k).2<=X (i+1)/\X (i+1)<=X (gu T rd a k).1+(gu T rd a k).2+syT T k)/\X (i+1)<=1000000000 then
    some ⟨if k+1=b.length then inn.set k (-1) else (inn.set k (-1)).set (k+1) (X (i+1)+wT T+tmT T (k+1)),(k:Int)+1,X (i+1)+wT T⟩ else none:=by
 obtain ⟨hb,hi,hA⟩:=hR
 obtain ⟨h1,h2⟩:=gB.1 hc
 obtain ⟨h3,h4⟩:=(hA k (by omega)).1 h1
 have e1:((k:Int)+1-1).toNat=k:=by omega
 have e2:((k:Int)+1).toNat=k+1:=by omega
 unfold eO kw vR
 simp only [e1,e2,<-h4]
 by_cases c1:e+btw T last ((k:Int)+1)<=X (i+1)
 rotate_left
 ·rw [RK (fun h=>c1 h.2.1),RK (fun h=>c1 h.1)]
 by_cases c4:X (i+1)<=1000000000
 rotate_left
 ·rw [RK (fun h=>c4 h.2.2),RK (fun h=>c4 h.2.2)]
 rw [RH ⟨by omega,c1,c4⟩,RH (by omega)]
 by_cases c2:inn.getD k 0<=X (i+1)/\X (i+1)<=inn.getD k 0+syT T k
 rotate_left
 ·rw [RK (fun h=>c2 h.2),RK (fun h=>c2 h.2.1)]; rfl
 rw [RH ⟨h3,c2⟩,RH ⟨c1,c2,c4⟩]
 simp only [Sn,Sm]
 by_cases c5:k+1=b.length
 ·rw [RK (by omega),RH c5]; rfl
 ·rw [RH (by omega),RK c5]
  have hn:inn.getD (k+1) 0 = -1:=(hA (k+1) (by omega)).2 (h2.resolve_left c5)
  have hn2:(inn.set k (-1)).getD (k+1) 0 = -1:=by rw [dp,RK (by omega)]; exact hn
  rw [hn2,RK (by omega)]; rfl
theorem GA {T:aT} {a:Nat->Option Nat} (hR:RI T rd X b inn a) (hk:k<b.length) (i:Nat) (h0:0<=X (i+1)+wT T+tmT T (k+1)) :
  RI T rd X (mvB b k) (if k+1=b.length then inn.set k (-1) else (inn.set k (-1)).set (k+1) (X (i+1)+wT T+tmT T (k+1))) (upd a (k+1) (i+1)):=by
 obtain ⟨hb,hi,hA⟩:=hR
 refine ⟨by rw [fu]; exact hb,by split <;> simp [hi],fun j hj=>?_⟩
 rw [HI hk]
 by_cases c5:k+1=b.length
 ·rw [RH c5,dp]
  by_cases h:j=k
  ·subst h
   rw [RH rfl,RH ⟨rfl,by omega⟩]
   exact ⟨fun h=>by simp at h,fun _=>rfl⟩
  ·rw [RK h,RK (by omega),RK (by omega)]
   have e:gu T rd (upd a (k+1) (i+1)) j=gu T rd a j:=by
    unfold gu upd; rw [RK (by omega)]
   rw [e]; exact hA j hj
 ·rw [RK c5,dp,dp,Sm]
  by_cases h:j=k
  ·subst h
   rw [RH rfl,RK (by omega),RH ⟨rfl,by omega⟩]
   exact ⟨fun h=>by simp at h,fun _=>rfl⟩
  ·by_cases h2:j=k+1
   ·subst h2
    rw [RK h,RH ⟨rfl,by omega⟩,RH ⟨rfl,by omega⟩]
    have e:gu T rd (upd a (k+1) (i+1)) (k+1)=(i+1,wT T+tmT T (k+1)):=by
     unfold gu upd; rw [RH rfl]
    rw [e]
    exact ⟨fun _=>⟨h0,by simp only; omega⟩,fun h=>by simp at h⟩
   ·rw [RK h,RK (by omega),RK (by omega),RK (by omega)]
    have e:gu T rd (upd a (k+1) (i+1)) j=gu T rd a j:=by
     unfold gu upd; rw [RK (by omega)]
    rw [e]; exact hA j hj
theorem Cw {T:aT} (hv:aY T) (hf:0<=free) (hX0:X 0=0):∀(o:List Int) (b:List Bool) (inn:List Int) (a:Nat->Option Nat) (i:Nat) (last e:Int),Emp b o->RI T rd X b inn a->0<=e->(if i=0 then e=free/\last = -2 else e=X i+wT T) ->
  ((∃s,rF T ⟨inn,last,e⟩ (mkX X i o)=some s)↔KX X (gh T rd free i last a o)/\∀j,i<j->j<=i+o.length->X j<=1000000000) /\
  ∀s,rF T ⟨inn,last,e⟩ (mkX X i o)=some s->s.fin=(if o=[] then e else X (i+o.length)+wT T)/\(∀k,s.inn.getD k 0<=0->True)/\s.inn.length=T.ch.length/\∀k,k<T.ch.length->s.inn.getD k 0 = -1
 | [],b,inn,a,i,last,e,hE,hR,he,hi=>by
  refine ⟨⟨fun _=>⟨fun a ha=>(by simp [gh] at ha),fun j h1 h2=>(by simp at h2; omega)⟩,fun _=>⟨_,rfl⟩⟩,fun s hs=>?_⟩
  injection hs with hs; subst hs
  refine ⟨by rw [RH rfl],fun _ _=>trivial,hR.2.1,fun k hk=>?_⟩
  exact (hR.2.2 k hk).2 (pj hE k)
 | t :: r,b,inn,a,i,last,e,⟨k,ht,hk,hc,hr⟩,hR,he,hi=>by
  subst ht
  have hw:=da hv
  have hb:=mN hv last ((k:Int)+1)
  have e1:((k:Int)+1-1).toNat=k:=by omega
  have e2:((k:Int)+1).toNat=k+1:=by omega
  have hs:=Dv hv hR hk hc i last e he
  have hh:(X (hdT T free i last ((k:Int)+1)).f.toNat+(hdT T free i last ((k:Int)+1)).w<=X (hdT T free i last ((k:Int)+1)).t.toNat)↔e+btw T last ((k:Int)+1)<=X (i+1):=by
   unfold hdT
   by_cases h:i=0
   ·subst h
    rw [RH rfl] at hi ⊢
    have:btw T last ((k:Int)+1)=T.travel:=by
     unfold btw; rw [RK (by omega)]
    rw [this,hi.1]
    simp only [Int.toNat_zero,hX0,Tp]
    show 0+(free+T.travel)<=X 1↔_
    omega
   ·rw [RK h] at hi ⊢
    rw [hi]
    simp only [RW]
    have:((i:Int)+1).toNat=i+1:=by omega
    rw [this]; omega
  have e3:((i:Int)+1).toNat=i+1:=by omega
  simp only [mkX,rF,gh,kU,hh,e1,e2,e3,RW,hs]
  by_cases hcond:(e+btw T last ((k:Int)+1)<=X (i+1))/\(X (gu T rd a k).1+(gu T rd a k).2<=X (i+1)/\X (i+1)<=X (gu T rd a k).1+(gu T rd a k).2+syT T k)/\X (i+1)<=1000000000
  rotate_left
  ·rw [RK hcond]
   refine ⟨⟨(by rintro ⟨s,h⟩; cases h),?_⟩,fun s h=>by cases h⟩
   rintro ⟨⟨h1,h2,h3,_⟩,h4⟩
   exact absurd ⟨h1,⟨h2,by omega⟩,h4 (i+1) (by omega) (by simp)⟩ hcond
  rw [RH hcond]
  obtain ⟨g1,g2,g3⟩:=hcond
  have hR':=GA hR hk i (by have:=(di hv (k+1)).1; omega)
  have ih:=Cw hv hf hX0 r (mvB b k) _ (upd a (k+1) (i+1)) (i+1) ((k:Int)+1) (X (i+1)+wT T) hr hR' (by omega) (by rw [RK (by omega)])
  simp only [Sn]
  refine ⟨ih.1.trans ⟨?_,?_⟩,fun s hs=>?_⟩
  ·rintro ⟨h1,h2⟩
   refine ⟨⟨g1,g2.1,by omega,h1⟩,fun j j1 j2=>?_⟩
   by_cases hj:j=i+1
   ·subst hj; exact g3
   ·exact h2 j (by omega) (by simp at j2; omega)
  ·rintro ⟨⟨_,_,_,h1⟩,h2⟩
   exact ⟨h1,fun j j1 j2=>h2 j (by omega) (by simp; omega)⟩
  ·obtain ⟨q1,q2⟩:=ih.2 s hs
   refine ⟨?_,q2⟩
   rw [q1,RK (show ¬ (((k:Int)+1) :: r=[]) by simp)]
   cases r with
   | nil=>simp
   | cons t' r'=>
    rw [RK (by simp)]
    simp only [Sv]
    rw [show i+1+(r'.length+1)=i+(r'.length+1+1) by omega]
end Tr
namespace Tr
open Go
open Clu (aT aY)
open Cy (br lar kT gi cM dW okA lvM Pos tE ew)
def b0 (rd:List Int):List Bool:=rd.map fun t=>decide (0<=t)
theorem dQ (rd:List Int):(b0 rd).length=rd.length:=by simp [b0]
theorem F4 (hk:k<rd.length):(b0 rd).getD k false=decide (0<=rd.getD k 0):=by
 simp [b0,Rx hk]
theorem wC {T:aT} (hS:Sit T rd free) (k:Nat) : -1<=rd.getD k 0/\rd.getD k 0<=500000:=by
 by_cases hk:k<rd.length
 ·rw [Rw,Rx hk]
  exact hS.2.2.2 _ (RM hk)
 ·rw [Rw,Sl (TY hk)]
  simp
theorem RI0 {T:aT} (hS:Sit T rd free) (hX:X 0=0):RI T rd X (b0 rd) rd (fun _=>none):=by
 refine ⟨by rw [dQ]; exact hS.2.1,hS.2.1,fun k hk=>?_⟩
 have hk':k<rd.length:=by rw [hS.2.1]; exact hk
 have:=wC hS k
 rw [F4 hk']
 refine ⟨fun h=>?_,fun h=>?_⟩
 ·have h:=Ue h
  refine ⟨h,?_⟩
  show _=X 0+rd.getD k 0
  omega
 ·have h:=of_decide_eq_false h
  omega
theorem mM {T:aT} {rd:List Int} {free:Int} (hS:Sit T rd free) (hX:X 0=0) (hE:Emp (b0 rd) o) :
  ((∃s,rF T (st0 rd free) (mkX X 0 o)=some s)↔KX X (ck T rd free o)/\∀j,0<j->j<=o.length->X j<=1000000000) /\
  ∀s,rF T (st0 rd free) (mkX X 0 o)=some s->s.fin=(if o=[] then free else X o.length+wT T)/\s.inn.length=T.ch.length/\∀k,k<T.ch.length->s.inn.getD k 0 = -1:=by
 have h:=Cw (T:=T) (rd:=rd) (free:=free) hS.1.1 hS.2.2.1.1 hX o (b0 rd) rd (fun _=>none) 0 (-2) free hE (RI0 hS hX) hS.2.2.1.1 (by rw [RH rfl]; exact ⟨rfl,rfl⟩)
 rw [Tp] at h
 exact ⟨h.1,fun s hs=>⟨(h.2 s hs).1,(h.2 s hs).2.2⟩⟩
theorem qX:∀ {b:List Bool} {o:List Int},Emp b o->∀t∈o,1<=t/\t<=b.length
 | _,[],_=>fun t ht=>by cases ht
 | b,t :: r,⟨k,e,hk,_,hr⟩=>fun x hx=>by
  rcases Su.1 hx with rfl | hx
  ·omega
  ·have:=qX hr x hx
   rw [fu] at this; exact this
theorem yz {T:aT} (hS:Sit T rd free) (N:Int):∀(o:List Int) (i:Nat) (last:Int) (a:Nat->Option Nat),(∀k p,a k=some p->p<=i)->(i:Int)+o.length<=N-1->(i=0->o≠[]->free+T.travel<=1000000)->∀x∈gh T rd free i last a o,okA N x/\x.k=0
 | [],i,last,a,ha,hn,hf=>fun x hx=>by cases hx
 | t :: r,i,last,a,ha,hn,hf=>fun x hx=>by
  have hw:=da hS.1.1
  have hb:=mN hS.1.1 last t
  have hc:=di hS.1.1 (t-1).toNat
  have hfr:=hS.2.2.1
  have hrd:=wC hS (t-1).toNat
  have hs:(gu T rd a (t-1).toNat).1<=i /\ -1<=(gu T rd a (t-1).toNat).2/\(gu T rd a (t-1).toNat).2<=500000:=by
   unfold gu
   split
   ·rename_i p hp
    exact ⟨ha _ _ hp,by simp only; omega,by simp only; omega⟩
   ·exact ⟨TJ _,by simp only; omega,by simp only; omega⟩
  obtain ⟨s1,s2,s3⟩:=hs
  simp only [Sv] at hn
  simp only [gh,Su] at hx
  rcases hx with rfl | rfl | rfl | hx
  ·unfold hdT
   split
   ·have:=hf (by assumption) (by simp)
    refine ⟨⟨⟨by simp,by simp only; omega⟩,⟨by simp,by simp only; omega⟩,⟨by simp only; omega,by simp only; omega⟩,by simp⟩,rfl⟩
   ·refine ⟨⟨⟨by simp,by simp only; omega⟩,⟨by simp only; omega,by simp only; omega⟩,⟨by simp only; omega,by simp only; omega⟩,by simp⟩,rfl⟩
  ·exact ⟨⟨⟨by simp,by simp only; omega⟩,⟨by simp only; omega,by simp only; omega⟩,⟨by simp only; omega,by simp only; omega⟩,by simp⟩,rfl⟩
  ·exact ⟨⟨⟨by simp only; omega,by simp only; omega⟩,⟨by simp,by simp only; omega⟩,⟨by simp only; omega,by simp only; omega⟩,by simp⟩,rfl⟩
  ·refine yz hS N r (i+1) t _ (fun k p hp=>?_) (by push_cast; omega) (fun h=>by omega) x hx
   unfold upd at hp
   split at hp
   ·injection hp with hp; omega
   ·have:=ha k p hp; omega
theorem qU (T:aT) (rd:List Int) (free:Int):∀(o:List Int) (i:Nat) (last:Int) (a:Nat->Option Nat),(gh T rd free i last a o).length=3*o.length
 | [],_,_,_=>rfl
 | t :: r,i,last,a=>by simp only [gh,Sv,qU T rd free r]; omega
theorem C5 {T:aT} (hS:Sit T rd free) (hX0:X 0=0):∀(o:List Int) (i:Nat) (last:Int) (a:Nat->Option Nat),KX X (gh T rd free i last a o)->0<=X i->∀j,i<=j->j<=i+o.length->0<=X j
 | [],i,last,a,hK,hi,j,h1,h2=>by
  have:j=i:=by simp at h2; omega
  rw [this]; exact hi
 | t :: r,i,last,a,hK,hi,j,h1,h2=>by
  by_cases hj:j=i
  ·rw [hj]; exact hi
  simp only [gh,kU] at hK
  obtain ⟨k1,_,_,k4⟩:=hK
  have hw:=da hS.1.1
  have hb:=mN hS.1.1 last t
  have hfr:=hS.2.2.1
  have:0<=X (i+1):=by
   unfold hdT at k1
   split at k1
   ·rename_i h0
    subst h0
    simp only [Int.toNat_zero] at k1
    have e:(1:Int).toNat=1:=rfl
    rw [e] at k1
    show 0<=X 1
    omega
   ·simp only [RW] at k1
    have e:((i:Int)+1).toNat=i+1:=by omega
    rw [e] at k1
    omega
  exact C5 hS hX0 r (i+1) t _ k4 this j (by omega) (by simp at h2; omega)
def lX (X:Nat->Int) (m:Nat):List Int:=(List.range m).map X
theorem AS (X:Nat->Int) {m:Nat} (h:j<m):(lX X m).getD j 0=X j:=by simp [lX,h]
theorem Kg (X:Nat->Int) (m:Nat):(lX X m).length=m:=by simp [lX]
theorem xU {n:Int} {L:List br} (hL:∀x∈L,okA n x/\x.k=0) {s:List Int} (hs:∀j:Nat,(j:Int)<n->s.getD j 0=X j):kT (lar 0 L) s↔KX X L:=by
 unfold kT KX lar
 constructor
 ·intro h a ha
  have:=h _ (Sa.2 ⟨a,ha,rfl⟩)
  obtain ⟨⟨o1,o2,_,_⟩,o3⟩:=hL a ha
  simp only [br.len,o3] at this
  rw [hs _ (by omega),hs _ (by omega)] at this
  omega
 ·intro h x hx
  obtain ⟨a,ha,rfl⟩:=Sa.1 hx
  have:=h a ha
  obtain ⟨⟨o1,o2,_,_⟩,o3⟩:=hL a ha
  simp only [br.len,o3]
  rw [hs _ (by omega),hs _ (by omega)]
  omega
def dc (T:aT) (rd:List Int) (free:Int) (o:List Int):Option (List cO):=
 if (lvM ((o.length:Int)+1) (ck T rd free o) 0).2.2=true/\(lvM ((o.length:Int)+1) (ck T rd free o) 0).1.getD 0 0=0 then
  some (mkX (fun j=>(lvM ((o.length:Int)+1) (ck T rd free o) 0).1.getD j 0) 0 o) else none
theorem vD (h4:rd.length<=4):mB (b0 rd)<=10:=J2 _ (by rw [dQ]; exact h4)
theorem gE {T:aT} (hS:Sit T rd free):1<=rd.length/\rd.length<=4:=by
 have:=hS.1.1.2.2; rw [hS.2.1]; omega
theorem ni {T:aT} (hS:Sit T rd free) (hE:Emp (b0 rd) o):o.length<=10:=by
 rw [nq hE]; exact vD (gE hS).2
theorem fM {T:aT} (hS:Sit T rd free) (hE:Emp (b0 rd) o) (hf:o≠[]->free+T.travel<=1000000):cM ((o.length:Int)+1) (ck T rd free o) 0/\∀x∈ck T rd free o,okA ((o.length:Int)+1) x/\x.k=0:=by
 have hl:=ni hS hE
 have h:=yz hS ((o.length:Int)+1) o 0 (-2) (fun _=>none) (fun k p h=>by cases h) (by push_cast; omega) (fun _=>hf)
 refine ⟨⟨⟨⟨by omega,by omega⟩,?_,fun a ha=>(h a ha).1⟩,by unfold Cy.cT; omega⟩,h⟩
 unfold ck
 rw [qU]; omega
theorem uL {T:aT} (hS:Sit T rd free) (hX:X 0=0) (hE:Emp (b0 rd) o) (hne:o≠[]) (hK:KX X (ck T rd free o)):free+T.travel<=1000000:=by
 cases o with
 | nil=>exact absurd rfl hne
 | cons t r=>
  unfold ck at hK
  simp only [gh,kU] at hK
  obtain ⟨k1,_,k3,_⟩:=hK
  have hc:=di hS.1.1 (t-1).toNat
  have hrd:=wC hS (t-1).toNat
  have e1:(1:Int).toNat=1:=rfl
  have e2:((0:Nat):Int)+1=1:=rfl
  simp only [hdT,RH,gu,Int.toNat_zero,e1,e2,RW,hX] at k1 k3
  omega
theorem Cv {T:aT} (hS:Sit T rd free) (hY:Y 0=0) (hE:Emp (b0 rd) o) (h:∃s,rF T (st0 rd free) (mkX Y 0 o)=some s) :
  cM ((o.length:Int)+1) (ck T rd free o) 0/\gi ((o.length:Int)+1) (ck T rd free o) 0 (lX Y (o.length+1)):=by
 obtain ⟨hK,hB⟩:=(mM hS hY hE).1.1 h
 obtain ⟨hR,hA⟩:=fM hS hE (fun hne=>uL hS hY hE hne hK)
 refine ⟨hR,hR,by rw [Kg]; push_cast; rfl,fun x hx=>?_,(xU hA (fun j hj=>AS Y (by omega))).2 hK⟩
 obtain ⟨j,hj,rfl⟩:=Sa.1 hx
 have hj:=SI.1 hj
 have hp:=C5 hS hY o 0 _ _ hK (by omega) j (TJ _) (by omega)
 refine ⟨hp,?_⟩
 by_cases h0:j=0
 ·rw [h0,hY]; omega
 ·exact hB j (by omega) (by omega)
theorem gM {T:aT} (hS:Sit T rd free) (hE:Emp (b0 rd) o) {l:List cO} (h:dc T rd free o=some l) :
  ∃X:Nat->Int,X 0=0/\l=mkX X 0 o/\(∃s,rF T (st0 rd free) l=some s)/\∀Y:Nat->Int,Y 0=0->(∃s,rF T (st0 rd free) (mkX Y 0 o)=some s)->∀j,j<=o.length->X j<=Y j:=by
 unfold dc at h
 split at h
 ·rename_i hc
  obtain ⟨h1,h2⟩:=hc
  injection h with h
  have hR:cM ((o.length:Int)+1) (ck T rd free o) 0:=by
   unfold lvM at h1
   split at h1
   ·assumption
   ·cases h1
  obtain ⟨_,hv,hm,hl⟩:=ew hR h1
  have hA:∀x∈ck T rd free o,okA ((o.length:Int)+1) x/\x.k=0:=by
   refine (fM hS hE (fun hne=>?_)).2
   cases o with
   | nil=>exact absurd rfl hne
   | cons t r=>
    have:=(hR.1.2.2 (hdT T free 0 (-2) t) (by unfold ck; simp [gh])).2.2.1.2
    simpa [hdT] using this
  refine ⟨_,h2,h.symm,?_,fun Y hY hYc j hj=>?_⟩
  ·rw [<-h]
   refine (mM hS h2 hE).1.2 ⟨(xU hA (fun j _=>rfl)).1 hv.2.2.2,fun j hj1 hj2=>?_⟩
   have hjl:j<(lvM ((o.length:Int)+1) (ck T rd free o) 0).1.length:=by have:=hv.2.1; omega
   have:=(hv.2.2.1 _ (RM hjl)).2
   simp only [Rw,Rx hjl,Sq]
   exact this
  ·have:=hl _ (Cv hS hY hE hYc).2 j (by omega)
   rw [AS Y (by omega)] at this
   exact this
 ·cases h
theorem yN {T:aT} (hS:Sit T rd free) (hE:Emp (b0 rd) o) (h:dc T rd free o=none) (hY:Y 0=0):rF T (st0 rd free) (mkX Y 0 o)=none:=by
 cases hc:rF T (st0 rd free) (mkX Y 0 o) with
 | none=>rfl
 | some s=>
  obtain ⟨hR,hV⟩:=Cv hS hY hE ⟨s,hc⟩
  have hok:(lvM ((o.length:Int)+1) (ck T rd free o) 0).2.2=true:=(tE hR).2 (Cy.qn hR.1.2.2 hV.2.2.2)
  obtain ⟨_,hv,_,hl⟩:=ew hR hok
  have h0:=hl _ hV 0 (by omega)
  rw [AS Y (by omega),hY] at h0
  have hz:(lvM ((o.length:Int)+1) (ck T rd free o) 0).1.getD 0 0=0:=by
   have hjl:0<(lvM ((o.length:Int)+1) (ck T rd free o) 0).1.length:=by have:=hv.2.1; omega
   have:=(hv.2.2.1 _ (RM hjl)).1
   rw [Rw,Rx hjl,Sq] at h0 ⊢
   omega
  unfold dc at h
  rw [RH ⟨hok,hz⟩] at h
  cases h
def fI (T:aT) (rd:List Int) (free:Int) (s:Option (List cO × Int)) (o:List Int):Option (List cO × Int):=
 match dc T rd free o with
 | none=>s
 | some l=>match s with
  | none=>some (l,(fP T rd free l).getD 0)
  | some x=>if (fP T rd free l).getD 0<x.2 then some (l,(fP T rd free l).getD 0) else some x
def drF (T:aT) (rd:List Int) (free:Int):Option (List cO × Int):=(gF 10 (b0 rd)).foldl (fI T rd free) none
def bV (T:aT) (rd:List Int) (free:Int):Option (List cO):=if Sit T rd free then (drF T rd free).map (·.1) else none
theorem Bs (T:aT) (rd:List Int) (free:Int):∀(os:List (List Int)) (s:Option (List cO × Int)),
  (os.foldl (fI T rd free) s=none↔s=none/\∀o∈os,dc T rd free o=none) /\
  ∀x,os.foldl (fI T rd free) s=some x->(s=some x\/∃o∈os,dc T rd free o=some x.1/\x.2=(fP T rd free x.1).getD 0)/\(∀y,s=some y->x.2<=y.2)/\∀o∈os,∀l,dc T rd free o=some l->x.2<=(fP T rd free l).getD 0
 | [],s=>⟨⟨fun h=>⟨h,fun o ho=>by cases ho⟩,fun h=>h.1⟩,fun x hx=>⟨.inl hx,fun y hy=>(by
   have hx':s=some x:=hx
   rw [hx'] at hy; injection hy with hy; rw [hy]; exact S5 _),fun o ho=>(by cases ho)⟩⟩
 | o :: os,s=>by
  have ih:=Bs T rd free os (fI T rd free s o)
  simp only [Sj]
  cases ht:dc T rd free o with
  | none=>
   have e:fI T rd free s o=s:=by unfold fI; rw [ht]
   rw [e] at ih ⊢
   refine ⟨ih.1.trans ⟨fun h=>⟨h.1,fun o' ho'=>?_⟩,fun h=>⟨h.1,fun o' ho'=>h.2 o' (SK _ ho')⟩⟩,fun x hx=>?_⟩
   ·rcases Su.1 ho' with rfl | ho'
    ·exact ht
    ·exact h.2 o' ho'
   ·obtain ⟨h1,h2,h3⟩:=ih.2 x hx
    refine ⟨h1.imp id (fun ⟨o',k1,k2⟩=>⟨o',SK _ k1,k2⟩),h2,fun o' ho' l hl=>?_⟩
    rcases Su.1 ho' with rfl | ho'
    ·rw [ht] at hl; cases hl
    ·exact h3 o' ho' l hl
  | some l=>
   obtain ⟨z,hz,hz1,hz2,hz3⟩:∃z,fI T rd free s o=some z/\(s=some z\/z.1=l/\z.2=(fP T rd free l).getD 0)/\(∀y,s=some y->z.2<=y.2)/\z.2<=(fP T rd free l).getD 0:=by
    unfold fI
    rw [ht]
    cases s with
    | none=>exact ⟨_,rfl,.inr ⟨rfl,rfl⟩,fun y hy=>(by cases hy),S5 _⟩
    | some y=>
     simp only
     split
     ·rename_i hlt
      exact ⟨_,rfl,.inr ⟨rfl,rfl⟩,fun y' hy=>(by injection hy with hy; subst hy; simp only; omega),S5 _⟩
     ·rename_i hlt
      exact ⟨_,rfl,.inl rfl,fun y' hy=>(by injection hy with hy; subst hy; exact S5 _),by omega⟩
   rw [hz] at ih ⊢
   refine ⟨⟨fun h=>(by have:=ih.1.1 h; cases this.1),fun h=>(by have:=h.2 o To; rw [ht] at this; cases this)⟩,fun x hx=>?_⟩
   obtain ⟨h1,h2,h3⟩:=ih.2 x hx
   refine ⟨?_,fun y hy=>?_,fun o' ho' l' hl'=>?_⟩
   ·rcases h1 with h1 | ⟨o',k1,k2⟩
    ·injection h1 with h1
     subst h1
     rcases hz1 with h | ⟨e1,e2⟩
     ·exact .inl h
     ·exact .inr ⟨o,To,by rw [e1]; exact ht,by rw [e1,e2]⟩
    ·exact .inr ⟨o',SK _ k1,k2⟩
   ·have:=h2 z rfl
    have:=hz2 y hy
    omega
   ·rcases Su.1 ho' with rfl | ho'
    ·rw [ht] at hl'; injection hl' with hl'
     subst hl'
     have:=h2 z rfl
     omega
    ·exact h3 o' ho' l' hl'
theorem p5 {T:aT} (hS:Sit T rd free):o∈gF 10 (b0 rd)↔Emp (b0 rd) o:=tB 10 _ _ (vD (gE hS).2)
theorem zU {T:aT} (hS:Sit T rd free) (hE:Emp (b0 rd) o) {l:List cO} (h:dc T rd free o=some l):∃e,fP T rd free l=some e:=by
 obtain ⟨X,_,_,⟨s,hs⟩,_⟩:=gM hS hE h
 exact ⟨s.fin,by unfold fP; rw [RH hS,hs]; rfl⟩
theorem sM {T:aT} {l:List cO} (h:bV T rd free=some l) :
  Sit T rd free/\∃o e,Emp (b0 rd) o/\dc T rd free o=some l/\fP T rd free l=some e/\drF T rd free=some (l,e)/\∀o' l' e',Emp (b0 rd) o'->dc T rd free o'=some l'->fP T rd free l'=some e'->e<=e':=by
 unfold bV at h
 split at h
 ·rename_i hS
  refine ⟨hS,?_⟩
  cases hd:drF T rd free with
  | none=>rw [hd] at h; cases h
  | some x=>
   rw [hd] at h
   injection h with h
   have h:x.1=l:=h
   obtain ⟨h1,_,h3⟩:=(Bs T rd free (gF 10 (b0 rd)) none).2 x hd
   rcases h1 with h1 | ⟨o,k1,k2,k3⟩
   ·cases h1
   ·have hE:=(p5 hS).1 k1
    obtain ⟨e,he⟩:=zU hS hE k2
    rw [he] at k3
    have k3:x.2=e:=k3
    rw [h] at k2 he
    refine ⟨o,e,hE,k2,he,by rw [<-h,<-k3],fun o' l' e' hE' ht' he'=>?_⟩
    have:=h3 o' ((p5 hS).2 hE') l' ht'
    rw [he'] at this
    have this:x.2<=e':=this
    omega
 ·cases h
end Tr
namespace Tr
open Go
def kn:MC:=.seq (.region [.B 27 26 25]) (.seq (.cond (.var 27) .skip (.exit 0)) (.seq (.seq (.block 1 (.seq (.region [.a 26,.c 11 0]) (.seq (.region [.a 9,.a 11,.e 2 0 1,.m 0 2,.b 1 3,.a 3,.qs 28 (.bin .geq (.tmp 4) (.tmp 5))]) (.cond (.var 28) (.region [.a 9,.a 11,.e 2 0 1,.m 0 2,.b 1 3,.i 4 1,.e 2 0 1,.m 0 6,.A 1 7 5]) .skip)))) (.kill [0,1,2,4,5,6,7,8,11,12,13,14,15,16,17,18,19,20,21,22,23,24,27,28,29,30,31,32,33,34,35,36])) (.region [.u 26 1,.c 26 0])))
def nW:MC:=.seq (.region [.B 32 31 30]) (.seq (.cond (.var 32) .skip (.exit 2)) (.seq (.seq (.block 3 (.seq (.region [.a 31,.M 1 29 31,.b 1 1,.c 13 0,.c 14 2]) (.region [.a 12,.a 13,.a 14,.X 2 0,.e 1 0 1,.A 1 4 3]))) (.kill [0,1,2,3,7,8,9,10,11,13,14,15,16,17,18,19,20,21,22,23,24,25,26,27,28,32,33,34,35,36])) (.region [.u 31 1,.c 31 0])))
def sq:MC:=.region [.ai 18 34]
def l9:MC:=.seq (.block 5 (.seq (.region [.l 5 4,.t 1 5,.t 1 6,.a 18,.Q 34 0 1 2 3,.h 4,.j 5 0,.j 5 1,.c 19 6,.c 20 7]) (.seq (.seq (.region [.a 20,.V 35 0]) (.cond (.var 35) (.exit 5) .skip)) (.seq (.region [.l 5 4,.t 1 5,.t 1 6,.a 19,.Q 17 0 1 2 3,.h 4,.j 5 0,.j 5 1,.c 21 6,.h 7]) (.seq (.region [.t 1 17,.W 0,.h 1,.n 21 2,.b1 1 16 2,.qf (.bin .lss (.tmp 3) (.tmp 4)) 2,.C 36 2 5]) (.cond (.var 36) (.region [.a 19,.a 21,.r 1 15 0,.r 1 16 1,.qn (.store 1 (.var 17) (.cst (.bool true)))]) .skip)))))) (.kill [0,1,2,3,4,5,6,7,8,9,10,11,12,13,14,15,16,17,18,19,20,21,22,23,24,25,26,27,28,29,30,31,32,33,34,35,36])
def mY:cI:=⟨4,37,.seq (.region [.D 4 0,.D 5 1,.D 6 2,.w 7,.g 8]) (.seq (.seq (.region [.l 5 4,.t 1 5,.t 1 6,.P 29 0 1 2,.W 3,.h 4,.n 3 5,.b1 1 5 5,.bc 7 5,.bm 30 6 8 5,.H 9 5,.C 22 5 10]) (.cond (.var 22) (.seq (.region [.w 7,.g 8]) .ret) .skip)) (.seq (.seq (.region [.a 3,.ae 23 0 0]) (.cond (.var 23) (.seq (.region [.d 0 4,.b 1 0,.a 3,.s 2 1,.E 31 1 3,.d 0 4,.A 1 5 4]) (.seq (.seq (.region [.d 0 4,.b 1 0,.v 1,.aj 24 2 0]) (.cond (.var 24) (.seq (.region [.w 7,.I 8]) .ret) .skip)) (.seq (.regionD [] [.l 5 4,.t 1 5,.a 3,.s 2 1,.E 32 1 3,.t 1 6,.bx 14 0 4 5,.h 6,.j 7 0,.j 7 1,.c 9 8,.c 10 9] [(0,4),(4,5)]) (.seq (.seq (.region [.a 9,.bg 25 0,.f 26 0]) (.seq (.block 0 (.loop [0,1,2,4,5,6,7,8,11,12,13,14,15,16,17,18,19,20,21,22,23,24,27,28,29,30,31,32,33,34,35,36] kn)) (.kill [0,1,2,3,4,5,6,7,8,11,12,13,14,15,16,17,18,19,20,21,22,23,24,25,26,27,28,29,30,31,32,33,34,35,36]))) (.seq (.region [.a 9,.a 10,.c 7 0,.c 8 1]) .ret))))) .skip)) (.seq (.region [.t 1 5,.v 0,.b5 1 1,.c 12 2]) (.seq (.seq (.region [.cd 29 1 5,.ab 30 29,.f 31 0]) (.seq (.block 2 (.loop [0,1,2,3,7,8,9,10,11,13,14,15,16,17,18,19,20,21,22,23,24,25,26,27,28,32,33,34,35,36] nW)) (.kill [0,1,2,3,7,8,9,10,11,13,14,15,16,17,18,19,20,21,22,23,24,25,26,27,28,29,30,31,32,33,34,35,36]))) (.seq (.region [.cs 15 1]) (.seq (.region [.a4 16 1,.qs 17 (.alloc 1 (.bool false)),.cp 1 16 0,.qn (.store 1 (.var 17) (.cst (.bool false)))]) (.seq (.seq (.region [.a 12,.qs 33 (.call (.fn 33) [.tmp 0])]) (.seq (.block 4 (.rangeFunc (.var 33) [34] sq l9)) (.kill [0,1,2,3,4,5,6,7,8,9,10,11,12,13,14,16,18,19,20,21,22,23,24,25,26,27,28,29,30,31,32,33,34,35,36]))) (.seq (.region [.t 1 15,.t 1 17,.c 7 0,.c 8 1]) .ret)))))))),[.tmp 7,.tmp 8]⟩
def jJ:List Nat:=[0,1,2,4,5,6,7,8,11,12,13,14,15,16,17,18,19,20,21,22,23,24,27,28,29,30,31,32,33,34,35,36]
abbrev nJ (v3 v9 v10 v25 v26:AV):List AV:=[.undef,.undef,.undef,v3,.undef,.undef,.undef,.undef,.undef,v9,v10,.undef,.undef,.undef,.undef,.undef,.undef,.undef,.undef,.undef,.undef,.undef,.undef,.undef,.undef,v25,v26,.undef,.undef,.undef,.undef,.undef,.undef,.undef,.undef,.undef,.undef]
theorem yr {v26:AV}:clear jJ [d0,d1,d2,v3,d4,d5,d6,d7,d8,v9,v10,d11,d12,d13,d14,d15,d16,d17,d18,d19,d20,d21,d22,d23,d24,v25,v26,d27,d28,d29,d30,d31,d32,d33,d34,d35,d36]=nJ v3 v9 v10 v25 v26:=by simp only [jJ,clear,Sj,SZ,SB,SE]
theorem KA {o:Out} {k:List KC} {v26:AV} (h:bM (evC E fuel kn) jJ fuel (nJ v3 v9 v10 v25 v26) A=some o) :
  run E fuel (.code (.loop [0,1,2,4,5,6,7,8,11,12,13,14,15,16,17,18,19,20,21,22,23,24,27,28,29,30,31,32,33,34,35,36] kn) :: k) [d0,d1,d2,v3,d4,d5,d6,d7,d8,v9,v10,d11,d12,d13,d14,d15,d16,d17,d18,d19,d20,d21,d22,d23,d24,v25,v26,d27,d28,d29,d30,d31,d32,d33,d34,d35,d36] A=after E fuel k o:=aQ jJ _ _ (by rw [yr]; exact h)
def jI:List Nat:=[0,1,2,3,7,8,9,10,11,13,14,15,16,17,18,19,20,21,22,23,24,25,26,27,28,32,33,34,35,36]
abbrev pN (v4 v5 v6 v12 v29 v30 v31:AV):List AV:=[.undef,.undef,.undef,.undef,v4,v5,v6,.undef,.undef,.undef,.undef,.undef,v12,.undef,.undef,.undef,.undef,.undef,.undef,.undef,.undef,.undef,.undef,.undef,.undef,.undef,.undef,.undef,.undef,v29,v30,v31,.undef,.undef,.undef,.undef,.undef]
theorem Cu {v6 v29:AV}:clear jI [d0,d1,d2,d3,v4,v5,v6,d7,d8,d9,d10,d11,v12,d13,d14,d15,d16,d17,d18,d19,d20,d21,d22,d23,d24,d25,d26,d27,d28,v29,v30,v31,d32,d33,d34,d35,d36]=pN v4 v5 v6 v12 v29 v30 v31:=by simp only [jI,clear,Sj,SZ,SB,SE]
theorem Kz {o:Out} {k:List KC} {v6 v29:AV} (h:bM (evC E fuel nW) jI fuel (pN v4 v5 v6 v12 v29 v30 v31) A=some o) :
  run E fuel (.code (.loop [0,1,2,3,7,8,9,10,11,13,14,15,16,17,18,19,20,21,22,23,24,25,26,27,28,32,33,34,35,36] nW) :: k) [d0,d1,d2,d3,v4,v5,v6,d7,d8,d9,d10,d11,v12,d13,d14,d15,d16,d17,d18,d19,d20,d21,d22,d23,d24,d25,d26,d27,d28,v29,v30,v31,d32,d33,d34,d35,d36] A=after E fuel k o:=aQ jI _ _ (by rw [Cu]; exact h)
theorem mK:aH Try.prog Try.f14 4 [0,1,2,3,4,5,6,8,9,10,11,12,13,14,15,16,17,18,19,20,21,22,35,37,47,59,60,61,69,84,85,86,87,98,99,109,124] [] true ([[0,1,2,4,5,6,7,8,11,12,13,14,15,16,17,18,19,20,21,22,23,24,27,28,29,30,31,32,33,34,35,36],[0,1,2,3,7,8,9,10,11,13,14,15,16,17,18,19,20,21,22,23,24,25,26,27,28,32,33,34,35,36]],[[0,1,2,4,5,6,7,8,11,12,13,14,15,16,17,18,19,20,21,22,23,24,27,28,29,30,31,32,33,34,35,36],[0,1,2,3,4,5,6,7,8,11,12,13,14,15,16,17,18,19,20,21,22,23,24,25,26,27,28,29,30,31,32,33,34,35,36],[0,1,2,3,7,8,9,10,11,13,14,15,16,17,18,19,20,21,22,23,24,25,26,27,28,32,33,34,35,36],[0,1,2,3,7,8,9,10,11,13,14,15,16,17,18,19,20,21,22,23,24,25,26,27,28,29,30,31,32,33,34,35,36],[0,1,2,3,4,5,6,7,8,9,10,11,12,13,14,15,16,17,18,19,20,21,22,23,24,25,26,27,28,29,30,31,32,33,34,35,36],[0,1,2,3,4,5,6,7,8,9,10,11,12,13,14,16,18,19,20,21,22,23,24,25,26,27,28,29,30,31,32,33,34,35,36]])=some mY:=by kernel_rfl
theorem Er:Try.prog.funcs[14]?=some Try.f14:=by kernel_rfl
def je:MC:=.seq (.region [.B 17 16 15]) (.seq (.cond (.var 17) .skip (.exit 0)) (.seq (.seq (.block 1 (.seq (.region [.M 2 14 16,.K 2 0,.ah 10 2,.r 2 10 1]) (.seq (.seq (.region [.d 0 10,.b 1 0,.a 7,.v 2,.am 30 1 3,.W 4,.h 5,.y 1 10 6,.q 1 7 6,.n 9 6,.b3 5 4 6,.n 8 6,.y 0 10 6,.q 1 12 6,.ao 41 10 11 13 6,.av 9 14 6,.ar 30 8 15 6,.H 16 6,.C 18 6 17]) (.cond (.var 18) (.seq (.region [.f 5 0,.g 6]) .ret) .skip)) (.seq (.region [.d 0 10,.b 1 0,.d 1 10,.b 1 2,.l 5 4,.J 42 4,.o 3 5,.c 8 1,.c 9 6]) (.seq (.seq (.region [.d 0 10,.b 1 0,.s 1 1,.c 11 2]) (.seq (.region [.a 11,.ad 19 0 0]) (.cond (.var 19) (.seq (.seq (.region [.a 7,.a 11,.e 1 0 1,.b 1 2,.af 3 0,.h 4,.y 1 10 5,.q 1 6 5,.n 7 5,.n 11 5,.U 1 8 9 5,.q 1 10 5,.n 7 5,.n 11 5,.U 1 12 13 5,.q 1 14 5,.y 0 4 5,.q 1 16 5,.n 11 5,.U 2 17 18 5,.b4 1 19 5,.q 1 20 5,.av 15 21 5,.ao 30 7 11 22 5,.H 23 5,.C 20 5 24]) (.cond (.var 20) (.seq (.region [.f 5 0,.g 6]) .ret) .skip)) (.region [.a 7,.a 11,.e 1 0 1,.aq 1 2 (-1)])) .skip))) (.seq (.region [.d 0 10,.b 1 0,.c 12 1]) (.seq (.region [.a 12,.a 7,.v 1,.F 21 0 2]) (.cond (.var 21) (.seq (.seq (.region [.a 7,.a 12,.e 1 0 1,.b 1 2,.ad 22 3 0]) (.cond (.var 22) (.seq (.region [.f 5 0,.g 6]) .ret) .skip)) (.region [.a 7,.a 12,.a 9,.d 0 4,.b 1 3,.a 12,.e 2 4 5,.m 0 6,.b 1 7,.o 2 8,.e 1 0 1,.A 1 10 9])) .skip)))))))) (.kill [0,1,2,3,5,6,10,11,12,13,17,18,19,20,21,22])) (.region [.u 16 1,.c 16 0])))
def J0:cI:=⟨4,23,.seq (.region [.D 4 0,.f 5 0,.g 6]) (.seq (.seq (.region [.l 5 4,.a 1,.a 2,.P 29 0 1 2,.V 13 3]) (.cond (.var 13) (.seq (.region [.f 5 0,.g 6]) .ret) .skip)) (.seq (.region [.a 1,.J 40 0,.c 7 1]) (.seq (.region [.a 2,.f 8 (-2),.c 9 0]) (.seq (.seq (.region [.ai 14 3,.ab 15 14,.f 16 0]) (.seq (.block 0 (.loop [0,1,2,3,5,6,10,11,12,13,17,18,19,20,21,22] je)) (.kill [0,1,2,3,4,5,6,7,8,10,11,12,13,14,15,16,17,18,19,20,21,22]))) (.seq (.region [.a 9,.c 5 0,.I 6]) .ret))))),[.tmp 5,.tmp 6]⟩
def il:List Nat:=[0,1,2,3,5,6,10,11,12,13,17,18,19,20,21,22]
abbrev uf (v4 v7 v8 v9 v14 v15 v16:AV):List AV:=[.undef,.undef,.undef,.undef,v4,.undef,.undef,v7,v8,v9,.undef,.undef,.undef,.undef,v14,v15,v16,.undef,.undef,.undef,.undef,.undef,.undef]
theorem Cr {v14 v15:AV}:clear il [d0,d1,d2,d3,v4,d5,d6,v7,v8,v9,d10,d11,d12,d13,v14,v15,v16,d17,d18,d19,d20,d21,d22]=uf v4 v7 v8 v9 v14 v15 v16:=rfl
theorem Fs {o:Out} {k:List KC} {v14 v15:AV} (h:bM (evC E fuel je) il fuel (uf v4 v7 v8 v9 v14 v15 v16) A=some o) :
  run E fuel (.code (.loop [0,1,2,3,5,6,10,11,12,13,17,18,19,20,21,22] je) :: k) [d0,d1,d2,d3,v4,d5,d6,v7,v8,v9,d10,d11,d12,d13,v14,v15,v16,d17,d18,d19,d20,d21,d22] A=after E fuel k o:=aQ il _ _ (by rw [Cr]; exact h)
theorem Ll:aH Try.prog Try.f17 4 [0,1,2,3,4,8,9,10,11,12,14,15,16,21,25,26,27,28,49,61,87,96,101] [30,41,42] true ([[0,1,2,3,5,6,10,11,12,13,17,18,19,20,21,22]],[[0,1,2,3,5,6,10,11,12,13,17,18,19,20,21,22],[0,1,2,3,4,5,6,7,8,10,11,12,13,14,15,16,17,18,19,20,21,22]])=some J0:=by kernel_rfl
theorem at17:Try.prog.funcs[17]?=some Try.f17:=by kernel_rfl
def l7:MC:=.seq (.seq (.region [.a 9,.a 7,.a6 14 0 1]) (.cond (.var 14) .skip (.exit 0))) (.seq (.seq (.block 1 (.seq (.region [.a 8,.a 9,.a 8,.a 9,.s 3 1,.e 1 2 4,.b 1 5,.e 1 0 1,.A 1 7 6]) (.seq (.region [.d 1 4,.b 1 0,.a 9,.E 49 1 2,.d 1 4,.b 1 4,.a 9,.s 6 1,.E 49 5 7,.F 15 3 8]) (.cond (.var 15) (.region [.a 8,.a 9,.e 1 0 1,.b 1 2,.i 3 1,.e 1 0 1,.A 1 5 4]) .skip)))) (.kill [0,1,5,6,10,11,12,13,14,15,16,17,18,19,20,21,22,23])) (.region [.a 9,.i 0 1,.c 9 1]))
def kj:MC:=.seq (.region [.B 22 21 20]) (.seq (.cond (.var 22) .skip (.exit 4)) (.seq (.seq (.block 5 (.seq (.region [.M 1 19 21,.b 1 0,.c 12 1]) (.seq (.region [.a 8,.a 12,.e 1 0 1,.b 1 2,.a 11,.a6 23 3 4]) (.cond (.var 23) (.region [.a 10,.a 12,.a 2,.d 3 3,.b 1 3,.o 2 4,.d 2 4,.b 1 6,.qn (.indexSl 1 (.tmp 7) (.cst (.int .i64 0))),.b 1 8,.ap 5 9,.a 11,.d 0 4,.b 1 12,.cy 11 13,.o 10 14,.d 2 4,.b 1 16,.a 12,.e 1 17 18,.b 1 19,.o 15 20,.bj 1 21,.cv 22,.ag 2 0 23,.c 10 24]) .skip)))) (.kill [0,1,5,6,7,9,12,13,14,15,18,22,23])) (.region [.u 21 1,.c 21 0])))
def nV:MC:=.seq (.region [.B 18 17 16]) (.seq (.cond (.var 18) .skip (.exit 2)) (.seq (.seq (.block 3 (.seq (.region [.a 17,.c 11 0]) (.seq (.region [.d 1 4,.bk 19 1 0,.ab 20 19,.f 21 0]) (.seq (.block 4 (.loop [0,1,5,6,7,9,12,13,14,15,18,22,23] kj)) (.kill [0,1,5,6,7,9,11,12,13,14,15,18,19,20,21,22,23]))))) (.kill [0,1,5,6,7,9,11,12,13,14,15,18,19,20,21,22,23])) (.region [.u 17 1,.c 17 0])))
def HN:cI:=⟨3,24,.seq (.region [.D 3 0,.D 4 1,.w 5,.f 6 0]) (.seq (.seq (.region [.l 5 3,.J 47 0,.W 1,.h 2,.b3 5 3 3,.b3 4 4 3,.ci 48 4 5 3,.H 6 3,.G 3 7,.h 8,.n 2 9,.b0 30 10 9,.H 11 9,.C 13 9 12]) (.cond (.var 13) (.seq (.region [.w 5,.f 6 140]) .ret) .skip)) (.seq (.region [.d 0 3,.b 1 0,.v 1,.c 7 2]) (.seq (.region [.a 7,.i 0 1,.al 1 1,.c 8 2]) (.seq (.seq (.region [.f 9 1]) (.seq (.block 0 (.loop [0,1,5,6,10,11,12,13,14,15,16,17,18,19,20,21,22,23] l7)) (.kill [0,1,5,6,9,10,11,12,13,14,15,16,17,18,19,20,21,22,23]))) (.seq (.region [.w 10]) (.seq (.seq (.region [.a 8,.a 7,.e 1 0 1,.b 1 2,.qs 16 (.bin .add (.tmp 3) (.cst (.int .i64 1))),.f 17 0]) (.seq (.block 2 (.loop [0,1,5,6,7,9,11,12,13,14,15,18,19,20,21,22,23] nV)) (.kill [0,1,2,3,4,5,6,7,8,9,11,12,13,14,15,16,17,18,19,20,21,22,23]))) (.seq (.region [.a 10,.c 5 0,.f 6 0]) .ret))))))),[.tmp 5,.tmp 6]⟩
def jF:List Nat:=[0,1,5,6,7,9,12,13,14,15,18,22,23]
abbrev ud (v2 v3 v4 v8 v10 v11 v16 v17 v19 v20 v21:AV):List AV:=[.undef,.undef,v2,v3,v4,.undef,.undef,.undef,v8,.undef,v10,v11,.undef,.undef,.undef,.undef,v16,v17,.undef,v19,v20,v21,.undef,.undef]
theorem Cn {v19 v21:AV}:clear jF [d0,d1,v2,v3,v4,d5,d6,d7,v8,d9,v10,v11,d12,d13,d14,d15,v16,v17,d18,v19,v20,v21,d22,d23]=ud v2 v3 v4 v8 v10 v11 v16 v17 v19 v20 v21:=rfl
theorem Kv {o:Out} {k:List KC} {v19 v21:AV} (h:bM (evC E fuel kj) jF fuel (ud v2 v3 v4 v8 v10 v11 v16 v17 v19 v20 v21) A=some o) :
  run E fuel (.code (.loop [0,1,5,6,7,9,12,13,14,15,18,22,23] kj) :: k) [d0,d1,v2,v3,v4,d5,d6,d7,v8,d9,v10,v11,d12,d13,d14,d15,v16,v17,d18,v19,v20,v21,d22,d23] A=after E fuel k o:=aQ jF _ _ (by rw [Cn]; exact h)
def lQ:List Nat:=[0,1,5,6,10,11,12,13,14,15,16,17,18,19,20,21,22,23]
abbrev xr (v2 v3 v4 v7 v8 v9:AV):List AV:=[.undef,.undef,v2,v3,v4,.undef,.undef,v7,v8,v9,.undef,.undef,.undef,.undef,.undef,.undef,.undef,.undef,.undef,.undef,.undef,.undef,.undef,.undef]
theorem Co:clear lQ [d0,d1,v2,v3,v4,d5,d6,v7,v8,v9,d10,d11,d12,d13,d14,d15,d16,d17,d18,d19,d20,d21,d22,d23]=xr v2 v3 v4 v7 v8 v9:=rfl
theorem Kw {o:Out} {k:List KC} (h:bM (evC E fuel l7) lQ fuel (xr v2 v3 v4 v7 v8 v9) A=some o) :
  run E fuel (.code (.loop [0,1,5,6,10,11,12,13,14,15,16,17,18,19,20,21,22,23] l7) :: k) [d0,d1,v2,v3,v4,d5,d6,v7,v8,v9,d10,d11,d12,d13,d14,d15,d16,d17,d18,d19,d20,d21,d22,d23] A=after E fuel k o:=aQ lQ _ _ (by rw [Co]; exact h)
def lP:List Nat:=[0,1,5,6,7,9,11,12,13,14,15,18,19,20,21,22,23]
abbrev xq (v2 v3 v4 v8 v10 v16 v17:AV):List AV:=[.undef,.undef,v2,v3,v4,.undef,.undef,.undef,v8,.undef,v10,.undef,.undef,.undef,.undef,.undef,v16,v17,.undef,.undef,.undef,.undef,.undef,.undef]
theorem Cm:clear lP [d0,d1,v2,v3,v4,d5,d6,d7,v8,d9,v10,d11,d12,d13,d14,d15,v16,v17,d18,d19,d20,d21,d22,d23]=xq v2 v3 v4 v8 v10 v16 v17:=rfl
theorem Ku {o:Out} {k:List KC} (h:bM (evC E fuel nV) lP fuel (xq v2 v3 v4 v8 v10 v16 v17) A=some o) :
  run E fuel (.code (.loop [0,1,5,6,7,9,11,12,13,14,15,18,19,20,21,22,23] nV) :: k) [d0,d1,v2,v3,v4,d5,d6,d7,v8,d9,v10,d11,d12,d13,d14,d15,v16,v17,d18,d19,d20,d21,d22,d23] A=after E fuel k o:=aQ lP _ _ (by rw [Cm]; exact h)
theorem Li:aH Try.prog Try.f24 3 [0,1,2,3,4,6,7,8,9,10,11,12,14,28,37,57,68,69,70,73,74,75,76,84] [49] true ([[0,1,5,6,10,11,12,13,14,15,16,17,18,19,20,21,22,23],[0,1,5,6,7,9,11,12,13,14,15,18,19,20,21,22,23],[0,1,5,6,7,9,12,13,14,15,18,22,23]],[[0,1,5,6,10,11,12,13,14,15,16,17,18,19,20,21,22,23],[0,1,5,6,9,10,11,12,13,14,15,16,17,18,19,20,21,22,23],[0,1,5,6,7,9,12,13,14,15,18,22,23],[0,1,5,6,7,9,11,12,13,14,15,18,19,20,21,22,23],[0,1,5,6,7,9,11,12,13,14,15,18,19,20,21,22,23],[0,1,2,3,4,5,6,7,8,9,11,12,13,14,15,16,17,18,19,20,21,22,23]])=some HN:=by kernel_rfl
theorem at24:Try.prog.funcs[24]?=some Try.f24:=by kernel_rfl
def De:cI:=⟨4,15,.seq (.region [.D 4 0,.D 5 3,.w 6,.f 7 0]) (.seq (.region [.l 5 4,.a 1,.a 2,.bx 14 0 1 2,.h 3,.j 4 0,.j 4 1,.c 8 5,.c 9 6]) (.seq (.seq (.region [.a 9,.V 13 0]) (.cond (.var 13) (.seq (.region [.w 6,.f 7 140]) .ret) .skip)) (.seq (.region [.l 5 4,.a 1,.a 2,.a 8,.Q 17 0 1 2 3,.h 4,.j 5 0,.j 5 1,.c 10 6,.h 7]) (.seq (.region [.l 5 4,.l 4 5,.a 10,.P 24 0 1 2,.h 3,.j 4 0,.j 4 1,.c 11 5,.c 12 6]) (.seq (.seq (.region [.a 12,.qs 14 (.bin .neq (.tmp 0) (.cst (.int .i64 0)))]) (.cond (.var 14) (.seq (.region [.a 12,.w 6,.c 7 0]) .ret) .skip)) (.seq (.region [.a 8,.a 11,.ag 2 0 1,.c 6 2,.f 7 0]) .ret)))))),[.tmp 6,.tmp 7]⟩
theorem BX:aH Try.prog Try.f25 4 [0,1,2,3,4,7,8,9,10,11,12,14,15,24,41] [] true ([],[])=some De:=by kernel_rfl
theorem Qb:Try.prog.funcs[25]?=some Try.f25:=by kernel_rfl
def Ns:cI:=⟨3,5,.seq (.region [.D 3 0,.g 4]) (.seq (.region [.l 5 3,.J 47 0,.h 1,.k 1 2,.aa 3 2,.O 0 3 2,.x 1 5 2,.aa 6 2,.br 4 7 2,.p 2 8,.h 9,.k 2 10,.qt (.call (.fn 30) [.tmp 11,.cst (.int .i64 0),.cst (.int .i64 2000000)]) 10,.p 10 12,.h 13,.k 1 14,.qt (.call (.fn 51) [.tmp 15,.fn 52]) 14,.a1 16 14,.p 14 17,.c 4 18]) .ret),[.tmp 4]⟩
theorem Lg:aH Try.prog Try.f29 3 [0,1,2,3,6] [] true ([],[])=some Ns:=by kernel_rfl
theorem at29:Try.prog.funcs[29]?=some Try.f29:=by kernel_rfl
def QO:cI:=⟨3,4,.seq (.region [.g 3]) (.seq (.region [.a 0,.a 1,.ck 0 1,.h 2,.k 0 3,.k 2 3,.bb 4 5 3,.p 3 6,.c 3 7]) .ret),[.tmp 3]⟩
theorem Lf:aH Try.prog Try.f30 3 [0,1,2,6] [] true ([],[])=some QO:=by kernel_rfl
theorem at30:Try.prog.funcs[30]?=some Try.f30:=by kernel_rfl
def DQ:cI:=⟨2,3,.seq (.region [.w 2]) (.seq (.region [.a 0,.J 54 0,.a 1,.a 1,.i 3 1,.P 53 1 2 4,.c 2 5]) .ret),[.tmp 2]⟩
theorem BV:aH Try.prog Try.f31 2 [0,1,4] [] true ([],[])=some DQ:=by kernel_rfl
theorem P9:Try.prog.funcs[31]?=some Try.f31:=by kernel_rfl
def IM:cI:=⟨2,3,.seq (.region [.w 2]) (.seq (.region [.a 0,.J 40 0,.a 1,.a 1,.i 3 1,.P 55 1 2 4,.c 2 5]) .ret),[.tmp 2]⟩
theorem BU:aH Try.prog Try.f32 2 [0,1,4] [] true ([],[])=some IM:=by kernel_rfl
theorem P8:Try.prog.funcs[32]?=some Try.f32:=by kernel_rfl
def IL:cI:=⟨1,3,.seq (.region [.D 1 0,.qs 2 (.mv (.cst .nilF))]) (.seq (.region [.qn (.makeFunc (.func 56) [] [.var 1]),.c 2 0]) .ret),[.tmp 2]⟩
theorem BS:aH Try.prog Try.f33 1 [0,1,2] [] true ([],[])=some IL:=by kernel_rfl
theorem P7:Try.prog.funcs[33]?=some Try.f33:=by kernel_rfl
def dV:MC:=.seq (.region [.B 26 25 24]) (.seq (.cond (.var 26) .skip (.exit 0)) (.seq (.seq (.block 1 (.seq (.region [.a 25,.M 1 23 25,.b 1 1,.c 11 0,.c 12 2]) (.seq (.seq (.region [.a 11,.aj 27 0 0]) (.cond (.var 27) (.region [.a 8,.a 2,.d 3 4,.b 1 2,.o 1 3,.a0 4,.cn 5,.az 0 6]) (.region [.a 8,.a 11,.a 11,.i 2 1,.a 10,.l 5 4,.a 3,.a 11,.s 7 1,.e 1 6 8,.b 1 9,.a 12,.P 41 5 10 11,.o 4 12,.S 1 3 13,.cn 14,.az 0 15]))) (.seq (.region [.a 12,.s 0 1,.c 13 1]) (.seq (.region [.a 1,.a 13,.e 1 0 1,.b 1 2,.f 14 0,.c 15 3]) (.seq (.seq (.region [.a 9,.a 13,.qn (.lookup 1 true (.int .i64 0) (.tmp 0) (.tmp 1)),.h 2,.j 3 0,.j 3 1,.c 16 4,.c 17 5]) (.seq (.region [.ai 28 17]) (.cond (.var 28) (.region [.a 16,.a 10,.d 0 4,.b 1 2,.a 13,.e 2 3 4,.m 0 5,.b 1 6,.o 1 7,.c 14 0,.c 15 8]) .skip))) (.seq (.region [.a 8,.a 14,.a 11,.i 2 1,.a 15,.S 1 3 4,.a 11,.i 6 1,.a 14,.a 15,.d 0 4,.b 1 10,.a 13,.e 2 11 12,.m 1 13,.b 1 14,.o 9 15,.bn 16,.S 7 8 17,.c2 5 18,.az 0 19]) (.region [.a 9,.a 12,.a 11,.i 2 1,.bu 0 1 3])))))))) (.kill [0,5,6,11,12,13,14,15,16,17,18,19,20,21,22,26,27,28,29,30,31,32,33])) (.region [.u 25 1,.c 25 0])))
def nT:MC:=.seq (.region [.B 32 33 31]) (.seq (.cond (.var 32) .skip (.exit 2)) (.seq (.seq (.block 3 (.seq (.region [.a 33,.M 1 30 33,.b 1 1,.c 21 0,.c 22 2]) (.region [.a 20,.a 22,.a 18,.a 21,.i 3 1,.e 1 2 4,.b 1 5,.bj 1 6,.cv 7,.qn (.appendN 2 16 (.tmp 0) (.tmp 8)),.c 20 9]))) (.kill [0,1,2,3,4,5,6,7,8,9,10,11,12,13,14,15,16,17,19,21,22,23,24,25,26,27,28,29,32])) (.region [.u 33 1,.c 33 0])))
def vT:cI:=⟨4,34,.seq (.region [.D 4 0,.w 5,.g 6]) (.seq (.region [.cs 7 1]) (.seq (.region [.qn (.makeFunc (.func 60) [] [.var 7]),.c 8 0]) (.seq (.region [.qn .makeMap,.c 9 0]) (.seq (.region [.l 5 4,.J 42 0,.c 10 1]) (.seq (.seq (.region [.ai 23 3,.ab 24 23,.f 25 0]) (.seq (.block 0 (.loop [0,5,6,11,12,13,14,15,16,17,18,19,20,21,22,26,27,28,29,30,31,32,33] dV)) (.kill [0,1,2,4,5,6,8,9,10,11,12,13,14,15,16,17,18,19,20,21,22,23,24,25,26,27,28,29,30,31,32,33]))) (.seq (.region [.a 3,.v 0,.i 1 1,.t 1 7,.qn (.call (.fn 46) [.tmp 2,.tmp 3,.cst (.int .i64 0)]),.h 4,.j 5 0,.j 5 1,.j 5 2,.c 18 6,.h 7,.c 19 8]) (.seq (.seq (.region [.a 19,.W 0,.h 1,.n 18 2,.qf (.indexSl 1 (.tmp 3) (.cst (.int .i64 0))) 2,.q 1 4 2,.qf (.bin .neq (.tmp 5) (.cst (.int .i64 0))) 2,.C 29 2 6]) (.cond (.var 29) (.seq (.region [.w 5,.g 6]) .ret) .skip)) (.seq (.region [.a 3,.v 0,.qn (.makeSlice 2 16 (.agg [.int .i64 0,.int .i64 0]) (.cst (.int .i64 0)) (.tmp 1)),.c 20 2]) (.seq (.seq (.region [.ai 30 3,.ab 31 30,.f 33 0]) (.seq (.block 2 (.loop [0,1,2,3,4,5,6,7,8,9,10,11,12,13,14,15,16,17,19,21,22,23,24,25,26,27,28,29,32] nT)) (.kill [0,1,2,3,4,5,6,7,8,9,10,11,12,13,14,15,16,17,18,19,21,22,23,24,25,26,27,28,29,30,31,32,33]))) (.seq (.region [.a 20,.c 5 0,.I 6]) .ret)))))))))),[.tmp 5,.tmp 6]⟩
def dR:List Nat:=[0,5,6,11,12,13,14,15,16,17,18,19,20,21,22,26,27,28,29,30,31,32,33]
abbrev iJ (v1 v2 v3 v4 v7 v8 v9 v10 v23 v24 v25:AV):List AV:=[.undef,v1,v2,v3,v4,.undef,.undef,v7,v8,v9,v10,.undef,.undef,.undef,.undef,.undef,.undef,.undef,.undef,.undef,.undef,.undef,.undef,v23,v24,v25,.undef,.undef,.undef,.undef,.undef,.undef,.undef,.undef]
theorem qP {v23 v24:AV}:clear dR [d0,v1,v2,v3,v4,d5,d6,v7,v8,v9,v10,d11,d12,d13,d14,d15,d16,d17,d18,d19,d20,d21,d22,v23,v24,v25,d26,d27,d28,d29,d30,d31,d32,d33]=iJ v1 v2 v3 v4 v7 v8 v9 v10 v23 v24 v25:=by simp only [dR,clear,Sj,SZ,SB,SE]
theorem uN {o:Out} {k:List KC} {v23 v24:AV} (h:bM (evC E fuel dV) dR fuel (iJ v1 v2 v3 v4 v7 v8 v9 v10 v23 v24 v25) A=some o) :
  run E fuel (.code (.loop [0,5,6,11,12,13,14,15,16,17,18,19,20,21,22,26,27,28,29,30,31,32,33] dV) :: k) [d0,v1,v2,v3,v4,d5,d6,v7,v8,v9,v10,d11,d12,d13,d14,d15,d16,d17,d18,d19,d20,d21,d22,v23,v24,v25,d26,d27,d28,d29,d30,d31,d32,d33] A=after E fuel k o:=aQ dR _ _ (by rw [qP]; exact h)
def jD:List Nat:=[0,1,2,3,4,5,6,7,8,9,10,11,12,13,14,15,16,17,19,21,22,23,24,25,26,27,28,29,32]
abbrev pJ (v18 v20 v30 v31 v33:AV):List AV:=[.undef,.undef,.undef,.undef,.undef,.undef,.undef,.undef,.undef,.undef,.undef,.undef,.undef,.undef,.undef,.undef,.undef,.undef,v18,.undef,v20,.undef,.undef,.undef,.undef,.undef,.undef,.undef,.undef,.undef,v30,v31,.undef,v33]
theorem Ci {v18 v33:AV}:clear jD [d0,d1,d2,d3,d4,d5,d6,d7,d8,d9,d10,d11,d12,d13,d14,d15,d16,d17,v18,d19,v20,d21,d22,d23,d24,d25,d26,d27,d28,d29,v30,v31,d32,v33]=pJ v18 v20 v30 v31 v33:=by simp only [jD,clear,Sj,SZ,SB,SE]
theorem Kq {o:Out} {k:List KC} {v18 v33:AV} (h:bM (evC E fuel nT) jD fuel (pJ v18 v20 v30 v31 v33) A=some o) :
  run E fuel (.code (.loop [0,1,2,3,4,5,6,7,8,9,10,11,12,13,14,15,16,17,19,21,22,23,24,25,26,27,28,29,32] nT) :: k) [d0,d1,d2,d3,d4,d5,d6,d7,d8,d9,d10,d11,d12,d13,d14,d15,d16,d17,v18,d19,v20,d21,d22,d23,d24,d25,d26,d27,d28,d29,v30,v31,d32,v33] A=after E fuel k o:=aQ jD _ _ (by rw [Ci]; exact h)
theorem sP:aH Try.prog Try.f34 4 [0,1,2,3,4,8,9,10,11,12,13,14,15,16,17,18,19,20,21,23,24,25,26,31,32,33,34,39,77,129,133,134,136,135] [41] true ([[0,5,6,11,12,13,14,15,16,17,18,19,20,21,22,26,27,28,29,30,31,32,33],[0,1,2,3,4,5,6,7,8,9,10,11,12,13,14,15,16,17,19,21,22,23,24,25,26,27,28,29,32]],[[0,5,6,11,12,13,14,15,16,17,18,19,20,21,22,26,27,28,29,30,31,32,33],[0,1,2,4,5,6,8,9,10,11,12,13,14,15,16,17,18,19,20,21,22,23,24,25,26,27,28,29,30,31,32,33],[0,1,2,3,4,5,6,7,8,9,10,11,12,13,14,15,16,17,19,21,22,23,24,25,26,27,28,29,32],[0,1,2,3,4,5,6,7,8,9,10,11,12,13,14,15,16,17,18,19,21,22,23,24,25,26,27,28,29,30,31,32,33]])=some vT:=by kernel_rfl
theorem IY:Try.prog.funcs[34]?=some Try.f34:=by kernel_rfl
def AF:cI:=⟨3,6,.seq (.region [.D 3 0,.f 4 0]) (.seq (.seq (.region [.a 2,.a 1,.i 1 1,.ay 5 0 2]) (.cond (.var 5) (.seq (.region [.f 4 0]) .ret) .skip)) (.seq (.region [.d 3 3,.b 1 0,.c 4 1]) .ret)),[.tmp 4]⟩
theorem vp:aH Try.prog Try.f41 3 [0,1,2,3,6,10] [] true ([],[])=some AF:=by kernel_rfl
theorem Lz:Try.prog.funcs[41]?=some Try.f41:=by kernel_rfl
def AE:cI:=⟨1,3,.seq (.region [.D 1 0,.f 2 0]) (.seq (.region [.d 1 1,.b 1 0,.d 3 1,.b 1 2,.o 1 3,.d 2 1,.b 1 5,.o 4 6,.c 2 7]) .ret),[.tmp 2]⟩
theorem vo:aH Try.prog Try.f42 1 [0,1,2] [] true ([],[])=some AE:=by kernel_rfl
theorem Ly:Try.prog.funcs[42]?=some Try.f42:=by kernel_rfl
def EV:cI:=⟨1,3,.seq (.region [.D 1 0,.g 2]) (.seq (.region [.d 4 1,.b 1 0,.bs 1 1,.h 2,.qt (.load true 5 (.var 1)) 3,.qt (.call (.fn 62) [.tmp 4]) 3,.p 3 5,.c 2 6]) .ret),[.tmp 2]⟩
theorem BM:aH Try.prog Try.f47 1 [0,1,2] [] true ([],[])=some EV:=by kernel_rfl
theorem PX:Try.prog.funcs[47]?=some Try.f47:=by kernel_rfl
def DO:cI:=⟨1,2,.seq (.region [.g 1]) (.seq (.region [.a 0,.cc 30 0,.W 1,.c 1 2]) .ret),[.tmp 1]⟩
theorem BJ:aH Try.prog Try.f52 1 [0,2] [] true ([],[])=some DO:=by kernel_rfl
theorem PV:Try.prog.funcs[52]?=some Try.f52:=by kernel_rfl
def QN:cI:=⟨3,6,.seq (.region [.w 3]) (.seq (.region [.a 0,.a 1,.a 2,.a 0,.v 3,.qn (.sliceM 2 (.tmp 0) (some (.tmp 1)) (.tmp 2) (.tmp 4))]) (.seq (.seq (.region [.a 1,.a 2,.ay 5 0 1]) (.cond (.var 5) (.seq (.region [.a 0,.c 3 0]) .ret) .skip)) (.seq (.region [.a 0,.v 0,.c 4 1]) (.seq (.region [.a 0,.a 1,.an 2 0 1,.a 0,.a 2,.bt 2 3 4,.ag 2 2 5,.c 0 6]) (.seq (.region [.a 0,.a 0,.v 1,.a 4,.qn (.sliceSl 2 (.tmp 0) (some (.tmp 2)) (some (.tmp 3))),.qn (.clear 2 (.agg [.int .i64 0,.int .i64 0]) (.tmp 4))]) (.seq (.region [.a 0,.c 3 0]) .ret)))))),[.tmp 3]⟩
theorem Lb:aH Try.prog Try.f53 3 [0,1,2,6,7,16] [] true ([],[])=some QN:=by kernel_rfl
theorem at53:Try.prog.funcs[53]?=some Try.f53:=by kernel_rfl
def MB:cI:=⟨1,3,.seq (.region [.w 1]) (.seq (.seq (.region [.a 0,.c1 2 0]) (.cond (.var 2) (.seq (.region [.w 1]) .ret) .skip)) (.seq (.region [.c3,.a 0,.ag 2 0 1,.c 1 2]) .ret)),[.tmp 1]⟩
theorem La:aH Try.prog Try.f54 1 [0,2,4] [] true ([],[])=some MB:=by kernel_rfl
theorem at54:Try.prog.funcs[54]?=some Try.f54:=by kernel_rfl
def QM:cI:=⟨3,6,.seq (.region [.w 3]) (.seq (.region [.a 0,.a 1,.a 2,.a 0,.v 3,.qn (.sliceM 1 (.tmp 0) (some (.tmp 1)) (.tmp 2) (.tmp 4))]) (.seq (.seq (.region [.a 1,.a 2,.ay 5 0 1]) (.cond (.var 5) (.seq (.region [.a 0,.c 3 0]) .ret) .skip)) (.seq (.region [.a 0,.v 0,.c 4 1]) (.seq (.region [.a 0,.a 1,.an 1 0 1,.a 0,.a 2,.bt 1 3 4,.ax 1 2 5,.c 0 6]) (.seq (.region [.a 0,.a 0,.v 1,.a 4,.qn (.sliceSl 1 (.tmp 0) (some (.tmp 2)) (some (.tmp 3))),.qn (.clear 1 (.int .i64 0) (.tmp 4))]) (.seq (.region [.a 0,.c 3 0]) .ret)))))),[.tmp 3]⟩
theorem K9:aH Try.prog Try.f55 3 [0,1,2,6,7,16] [] true ([],[])=some QM:=by kernel_rfl
theorem at55:Try.prog.funcs[55]?=some Try.f55:=by kernel_rfl
def Nq:cI:=⟨2,4,.seq (.region [.D 2 0]) (.seq (.region [.qs 3 (.alloc 1 .nilF)]) (.seq (.region [.qn (.makeFunc (.func 57) [] [.var 2,.var 3]),.r 1 3 0]) (.region [.t 1 3,.t 1 1,.qn (.call (.tmp 0) [.tmp 1,.cst .nilS])]))),[]⟩
theorem K8:aH Try.prog Try.f56 2 [0,1,2,3] [] true ([],[])=some Nq:=by kernel_rfl
theorem at56:Try.prog.funcs[56]?=some Try.f56:=by kernel_rfl
def i9:MC:=.seq (.region [.B 13 12 11]) (.seq (.cond (.var 13) .skip (.exit 0)) (.seq (.seq (.block 1 (.seq (.region [.a 12,.M 1 10 12,.b 1 1,.c 5 0,.c 6 2]) (.seq (.region [.a 5,.a 0,.v 1,.s 2 1,.qn (.bin .eql (.tmp 0) (.tmp 3)),.c 7 4]) (.seq (.seq (.region [.a 6,.W 0,.h 1,.n 7 2,.H 3 2,.cm 4 2,.k 0 5,.k 5 5,.au 7 1 5,.L 1 6 8 5,.x 1 9 5,.a3 5 10 2,.C 14 2 11]) (.cond (.var 14) (.exit 1) .skip)) (.seq (.region [.a 0,.J 59 0,.c 8 1]) (.seq (.region [.a 8,.a 5,.e 1 0 1,.co 1 2]) (.seq (.seq (.region [.a 7,.V 15 0]) (.cond (.var 15) (.region [.a 8,.a 5,.i 1 1,.e 1 0 2,.qn (.store 1 (.tmp 3) (.cst (.bool true)))]) .skip)) (.seq (.regionD [] [.t 1 3,.a 8,.a 1,.J 40 2,.a 5,.i 4 1,.cu 5,.qn (.appendN 1 8 (.tmp 3) (.tmp 6)),.cg 0 1 7,.V 16 8] [(0,3),(0,7)]) (.cond (.var 16) (.seq (.region [.g 4]) .ret) .skip))))))))) (.kill [2,4,5,6,7,8,9,13,14,15,16])) (.region [.u 12 1,.c 12 0])))
def IK:cI:=⟨4,17,.seq (.region [.g 4]) (.seq (.seq (.region [.a 0,.qn (.call (.fn 58) [.tmp 0,.cst (.bool true)]),.V 9 1]) (.cond (.var 9) (.seq (.regionD [] [.t 1 2,.a 1,.J 40 1,.az 0 2,.c 4 3] [(0,2)]) .ret) .skip)) (.seq (.seq (.region [.ai 10 0,.ab 11 10,.f 12 0]) (.seq (.block 0 (.loop [2,4,5,6,7,8,9,13,14,15,16] i9)) (.kill [0,1,2,3,4,5,6,7,8,9,10,11,12,13,14,15,16]))) (.seq (.region [.I 4]) .ret))),[.tmp 4]⟩
def lI:List Nat:=[2,4,5,6,7,8,9,13,14,15,16]
abbrev pD (v0 v1 v3 v10 v11 v12:AV):List AV:=[v0,v1,.undef,v3,.undef,.undef,.undef,.undef,.undef,.undef,v10,v11,v12,.undef,.undef,.undef,.undef]
theorem B8:clear lI [v0,v1,d2,v3,d4,d5,d6,d7,d8,d9,v10,v11,v12,d13,d14,d15,d16]=pD v0 v1 v3 v10 v11 v12:=rfl
theorem Kl {o:Out} {k:List KC} (h:bM (evC E fuel i9) lI fuel (pD v0 v1 v3 v10 v11 v12) A=some o) :
  run E fuel (.code (.loop [2,4,5,6,7,8,9,13,14,15,16] i9) :: k) [v0,v1,d2,v3,d4,d5,d6,d7,d8,d9,v10,v11,v12,d13,d14,d15,d16] A=after E fuel k o:=aQ lI _ _ (by rw [B8]; exact h)
theorem FJ:aH Try.prog Try.f57 4 [0,1,2,3,6,7,8,9,10,13,18,19,20,21,42,49,63] [] true ([[2,4,5,6,7,8,9,13,14,15,16]],[[2,4,5,6,7,8,9,13,14,15,16],[0,1,2,3,4,5,6,7,8,9,10,11,12,13,14,15,16]])=some IK:=by kernel_rfl
theorem Rn:Try.prog.funcs[57]?=some Try.f57:=by kernel_rfl
def Np:cI:=⟨2,3,.seq (.region [.g 2]) (.seq (.region [.a 0,.a 1,.E 80 0 1,.X 2 0,.c 2 3]) .ret),[.tmp 2]⟩
theorem K7:aH Try.prog Try.f58 2 [0,1,4] [] true ([],[])=some Np:=by kernel_rfl
theorem at58:Try.prog.funcs[58]?=some Try.f58:=by kernel_rfl
def JX:cI:=⟨1,3,.seq (.region [.w 1]) (.seq (.seq (.region [.a 0,.c1 2 0]) (.cond (.var 2) (.seq (.region [.w 1]) .ret) .skip)) (.seq (.region [.cl,.a 0,.qn (.append 1 1 (.tmp 0) (.tmp 1)),.c 1 2]) .ret)),[.tmp 1]⟩
theorem K6:aH Try.prog Try.f59 1 [0,2,4] [] true ([],[])=some JX:=by kernel_rfl
theorem at59:Try.prog.funcs[59]?=some Try.f59:=by kernel_rfl
def MA:cI:=⟨2,2,.region [.t 1 1,.a 0,.qn (.append 4 32 (.tmp 0) (.tmp 1)),.r 1 1 2],[]⟩
theorem K5:aH Try.prog Try.f60 2 [0,1] [] true ([],[])=some MA:=by kernel_rfl
theorem at60:Try.prog.funcs[60]?=some Try.f60:=by kernel_rfl
def lV:MC:=.seq (.region [.B 6 5 4]) (.seq (.cond (.var 6) .skip (.exit 0)) (.seq (.seq (.block 1 (.seq (.region [.a 5,.c 3 0]) (.seq (.region [.a 1,.a 0,.a 3,.e 1 1 2,.b 1 3,.qs 7 (.eqBool false (.tmp 0) (.tmp 4))]) (.cond (.var 7) (.seq (.region [.a 3,.c 2 0]) .ret) .skip)))) (.kill [2,3,6,7])) (.region [.u 5 1,.c 5 0])))
def Mv:cI:=⟨2,8,.seq (.region [.f 2 0]) (.seq (.seq (.region [.a 0,.bg 4 0,.f 5 0]) (.seq (.block 0 (.loop [2,3,6,7] lV)) (.kill [0,1,2,3,4,5,6,7]))) (.seq (.region [.f 2 (-1)]) .ret)),[.tmp 2]⟩
def jv:List Nat:=[2,3,6,7]
abbrev nz (v0 v1 v4 v5:AV):List AV:=[v0,v1,.undef,.undef,v4,v5,.undef,.undef]
theorem FN:clear jv [v0,v1,d2,d3,v4,v5,d6,d7]=nz v0 v1 v4 v5:=rfl
theorem Fd {o:Out} {k:List KC} (h:bM (evC E fuel lV) jv fuel (nz v0 v1 v4 v5) A=some o) :
  run E fuel (.code (.loop [2,3,6,7] lV) :: k) [v0,v1,d2,d3,v4,v5,d6,d7] A=after E fuel k o:=aQ jv _ _ (by rw [FN]; exact h)
theorem KU:aH Try.prog Try.f80 2 [0,1,4,5,7,8,9,16] [] true ([[2,3,6,7]],[[2,3,6,7],[0,1,2,3,4,5,6,7]])=some Mv:=by kernel_rfl
theorem at80:Try.prog.funcs[80]?=some Try.f80:=by kernel_rfl
end Tr
namespace Tr
open Go
open Cy (GC iO dw bY cd cP aM bc aA)
open Clu (aT aY af chA M16 nL oq aK aZ bD bA bL dP cK)
def iE (n lo hi:Int):Bool:=decide (lo<=n) && decide (n<=hi)
theorem cD {n lo hi:Int}:iE n lo hi=true↔lo<=n/\n<=hi:=by simp [iE]
def M30:aU:=fun args=>match args with
 | [.int .i64 n,.int .i64 lo,.int .i64 hi]=>some (.bool (iE n lo hi))
 | _=>none
theorem uh:ax Try.prog GC 30 M30:=by
 refine ax.of_ev (E:=aw GC []) (ay aB) rfl at30 Lf 1 ?_
 intro args r h
 unfold M30 at h
 split at h
 ·rename_i n lo hi
  injection h with h; subst h
  refine ⟨0,?_⟩
  have b1:ag .geq (.int .i64 n) (.int .i64 lo)=some (.bool (decide (lo<=n))):=by simp [ag]
  have b2:ag .leq (.int .i64 n) (.int .i64 hi)=some (.bool (decide (n<=hi))):=by simp [ag]
  unfold iE
  obtain ⟨p,hp⟩:∃p,p=decide (lo<=n):=⟨_,rfl⟩
  obtain ⟨q,hq⟩:∃q,q=decide (n<=hi):=⟨_,rfl⟩
  rw [<-hp] at b1 ⊢
  rw [<-hq] at b2 ⊢
  rw [aN _ _ rfl]
  cases p <;> simp [QO,b1,b2,-ag]
 ·cases h
@[simp] theorem cf (n lo hi:Int):M30 [.int .i64 n,.int .i64 lo,.int .i64 hi]=some (.bool (iE n lo hi)):=rfl
def zg:List (FuncId × aJ):=[(62,aG 4 M16)]
@[simp] theorem NX:aE zg 62=some (aG 4 M16):=rfl
def M47:aU:=fun args=>evP (aw GC zg) 0 EV 1 args
theorem xx:ax Try.prog GC 47 M47:=ax.of_ev (E:=aw GC zg) (ay (ai (au.of_pure nL 4) aB)) rfl PX BM 1 fun _ _ h=>⟨0,h⟩
def isT (T:aT):Prop:=aY T/\T.blades=1
instance (T:aT):Decidable (isT T):=inferInstanceAs (Decidable (_/\_))
theorem F9 {T:aT} (hb:SlA 2 (T.ch.map chA) chv) (hl:T.ch.length<=200):M47 [af T chv]=some (.bool (decide (isT T))):=by
 have m:=oq hb hl
 have ft:=fun A=>aK (T:=T) (fun A n=>hb.frz (A:=A) n) A 3
 have bx:aS 5 (af T chv) []=some (.ptr 0 0 0,[.row 5 false [af T chv]]):=rfl
 have ct:(cellsOf (af T chv)).length=5:=rfl
 obtain ⟨A0,hA0⟩:∃A:ac,A=[.row 5 false [af T chv]]:=⟨_,rfl⟩
 have lt:ab true 5 A0 (.ptr 0 0 0)=some (af T chv):=by rw [hA0]; rfl
 have fa:aa 4 A0 (.ptr 0 0 0)=some (.ptr 0 0 4):=by rw [hA0]; simp [aa]
 have l4:ab false 1 A0 (.ptr 0 0 4)=some (.int .i64 T.blades):=by rw [hA0]; rfl
 have b1:=bA T.blades 1
 have e:decide (isT T)=(decide (T.blades=1) && decide (aY T)):=by
  unfold isT
  by_cases h1:T.blades=1 <;> by_cases h2:aY T <;> simp [h1,h2]
 rw [e]
 obtain ⟨t,ht⟩:∃t,t=af T chv:=⟨_,rfl⟩
 rw [<-ht] at m ft bx ct lt hA0 ⊢
 rw [<-hA0] at bx
 obtain ⟨p,hp⟩:∃p,p=decide (T.blades=1):=⟨_,rfl⟩
 obtain ⟨q,hq⟩:∃q,q=decide (aY T):=⟨_,rfl⟩
 rw [<-hp] at b1 ⊢
 rw [<-hq] at m ⊢
 unfold M47
 rw [aN _ _ rfl]
 cases p <;> simp [EV,m,ft,bx,ct,lt,fa,l4,b1,bc,-aS,-ab,-aa,-frz,-cellsOf,-ag]
def sQ (x:Int):Bool:=!iE x (-1) 500000
def MH:List (FuncId × aJ):=[(30,aG 4 M30)]
@[simp] theorem NQ:aE MH 30=some (aG 4 M30):=rfl
theorem GQ:∀f M,aE MH f=some M->au Try.prog GC f M:=ai (au.of_pure uh 4) aB
def M52:aU:=fun args=>evP (aw GC MH) 0 DO 1 args
theorem z7:ax Try.prog GC 52 M52:=ax.of_ev (E:=aw GC MH) (ay GQ) rfl PV BJ 1 fun _ _ h=>⟨0,h⟩
theorem L5 (x:Int):M52 [.int .i64 x]=some (.bool (sQ x)):=by
 have m:M30 [.int .i64 x,.int .i64 (-1),.int .i64 500000]=some (.bool (iE x (-1) 500000)):=rfl
 unfold sQ
 obtain ⟨p,hp⟩:∃p,p=iE x (-1) 500000:=⟨_,rfl⟩
 rw [<-hp] at m ⊢
 unfold M52
 rw [aN _ _ rfl]
 simp [DO,m]
def jR:AV:=.func (.func 52) [] []
def Fu:List (FuncId × aJ):=[(52,aG 4 M52)]
@[simp] theorem NI:aE Fu 52=some (aG 4 M52):=rfl
theorem GL:∀f M,aE Fu f=some M->au Try.prog GC f M:=ai (au.of_pure z7 4) aB
def M79:aU:=fun args=>evP (aw GC Fu) 300 Cy.zB 1 args
theorem Jh:ax Try.prog GC 79 M79:=ax.of_ev (E:=aw GC Fu) (ay GL) rfl Cy.MZ Cy.ym 1 fun _ _ h=>⟨300,h⟩
theorem LW {b:AV} (hb:SlA 1 (aj xs) b) (hl:xs.length<=200):M79 [b,jR]=some (.int .i64 (dw sQ xs)):=by
 have hlen:=hb.len
 rw [aA] at hlen
 have round:∀(A:ac) (i:Nat) (hi:i<xs.length),run (aw GC Fu) 300 [.code Cy.eW] (Cy.gp b jR (.int .i64 (xs.length:Int)) (.int .i64 (i:Int))) A =
   if sQ xs[i]=false then some (.normal (Cy.gp b jR (.int .i64 (xs.length:Int)) (.int .i64 ((i+1:Nat):Int))) A) else some (.ret [b,jR,.int .i64 (i:Int),.int .i64 (i:Int),.int .i64 (xs.length:Int),.int .i64 (i:Int),.bool true,.bool true] A):=fun A i hi=>by
  have x1:=hb.int (A:=A) _ _ (Rx hi) .i64
  have m:=L5 xs[i]
  have b1:=a9 i xs.length .i64
  rw [RE hi] at b1
  have b3:=aV i (by omega)
  obtain ⟨i1,hi1⟩:∃i1:Nat,i1=i+1:=⟨_,rfl⟩
  rw [<-hi1] at b3 ⊢
  obtain ⟨d,hd⟩:∃d,d=sQ xs[i]:=⟨_,rfl⟩
  rw [<-hd] at m ⊢
  cases d with
  | false=>simp [Cy.eW,jR,x1,m,b1,b3,-ag,-ae,-aq]
  | true=>simp [Cy.eW,jR,x1,m,b1,-ag,-ae,-aq]
 unfold M79
 rw [aN _ _ rfl]
 rcases cY (E:=aw GC Fu) (fuel:=300) (a:=Cy.eW) (mask:=Cy.fN) (fun i=>Cy.gp b jR (.int .i64 (xs.length:Int)) (.int .i64 (i:Int))) (fun _=>[]) xs.length (fun i=>¬ ∀hi:i<xs.length,sQ xs[i]=false)
  (oF:=fun i=>.ret [b,jR,.int .i64 (i:Int),.int .i64 (i:Int),.int .i64 (xs.length:Int),.int .i64 (i:Int),.bool true,.bool true] []) (oE:=.exit 0 ((Cy.gp b jR (.int .i64 (xs.length:Int)) (.int .i64 (xs.length:Int))).set 6 (.bool false)) [])
  (fun _=>Cy.Ca) (fun _ _ _ h=>by cases h) (fun _ _ h=>by cases h)
  (fun i hi hp=>by
   rw [round [] i hi]
   exact RH (R7.1 hp hi))
  (fun i hi hp=>by
   rw [round [] i hi]
   exact RK fun h=>hp fun _=>h)
  (by simp [Cy.eW]) (show xs.length<300 by omega) with ⟨i,hi,hp,hj,lp⟩ | ⟨hp,lp⟩
 ·have lp:bM (evC (aw GC Fu) 300 Cy.eW) Cy.fN 300 (Cy.gp b jR (.int .i64 (xs.length:Int)) (.int .i64 0)) []=_:=lp
  have e:dw sQ xs=(i:Int):=bY hi (by
   cases h':sQ xs[i] with
   | true=>rfl
   | false=>exact absurd (fun _=>h') hp) (fun j hj'=>R7.1 (hj j hj') (by omega))
  rw [e]
  simp [Cy.zB,hlen,Cy.xY lp,-ag,-aq]
 ·have lp:bM (evC (aw GC Fu) 300 Cy.eW) Cy.fN 300 (Cy.gp b jR (.int .i64 (xs.length:Int)) (.int .i64 0)) []=_:=lp
  have e:dw sQ xs = -1:=cd fun i hi=>R7.1 (hp i hi) hi
  rw [e]
  simp [Cy.zB,hlen,Cy.xY lp,-ag,-aq]
def NS:List (FuncId × aJ):=[(79,aG 4 M79)]
@[simp] theorem NR:aE NS 79=some (aG 4 M79):=rfl
def M51:aU:=fun args=>evP (aw GC NS) 0 Cy.zC 1 args
theorem xw:ax Try.prog GC 51 M51:=ax.of_ev (E:=aw GC NS) (ay (ai (au.of_pure Jh 4) aB)) rfl Cy.IX Cy.sO 1 fun _ _ h=>⟨0,h⟩
theorem L6 {b:AV} (hb:SlA 1 (aj xs) b) (hl:xs.length<=200):M51 [b,jR]=some (.bool (xs.any sQ)):=by
 have h:=LW hb hl
 have b1:=iO (dw sQ xs)
 rw [cP] at b1
 have f1:∀A n,frz A n b=b:=fun A n=>hb.frz n
 have hF:∀A,frz A 4 jR=jR:=fun _=>rfl
 obtain ⟨z,hz⟩:∃z,z=dw sQ xs:=⟨_,rfl⟩
 rw [<-hz] at h b1
 obtain ⟨F,hFF⟩:∃F,F=jR:=⟨_,rfl⟩
 rw [<-hFF] at h hF ⊢
 unfold M51
 rw [aN _ _ rfl]
 simp [Cy.zC,f1,hF,h,b1,bH,bc,-ag,-frz]
def KD:List (FuncId × aJ):=[(47,aG 4 M47),(30,aG 4 M30),(51,aG 4 M51)]
@[simp] theorem Oy:aE KD 47=some (aG 4 M47):=rfl
@[simp] theorem Oz:aE KD 30=some (aG 4 M30):=rfl
@[simp] theorem Ox:aE KD 51=some (aG 4 M51):=rfl
def M29:aU:=fun args=>evP (aw GC KD) 0 Ns 1 args
theorem EJ:ax Try.prog GC 29 M29:=ax.of_ev (E:=aw GC KD) (ay (ai (au.of_pure xx 4) (ai (au.of_pure uh 4) (ai (au.of_pure xw 4) aB)))) rfl at29 Lg 1 fun _ _ h=>⟨0,h⟩
theorem JG (T:aT) (rd:List Int) (free:Int):decide (Sit T rd free)=(decide (isT T) && (decide ((rd.length:Int)=(T.ch.length:Int)) && (iE free 0 2000000 && !(rd.any sQ)))):=by
 have e:(!(rd.any sQ))=decide (∀t∈rd,-1<=t/\t<=500000):=by
  rw [Tf,Sr,SC,Tm]
  unfold sQ iE
  simp
 rw [e,Tf,Sr]
 simp only [Sd,Sr,cD]
 unfold Sit isT
 constructor
 ·rintro ⟨h1,h2,h3,h4⟩; exact ⟨h1,by omega,h3,h4⟩
 ·rintro ⟨h1,h2,h3,h4⟩; exact ⟨h1,by omega,h3,h4⟩
theorem C2 {T:aT} {rdv:AV} (hb:SlA 2 (T.ch.map chA) chv) (hl:T.ch.length<=200) (hr:SlA 1 (aj rd) rdv) (hrl:rd.length<=200) (free:Int):M29 [af T chv,rdv,.int .i64 free]=some (.bool (decide (Sit T rd free))):=by
 have m:=F9 hb hl
 have m2:=L6 hr hrl
 have m3:M30 [.int .i64 free,.int .i64 0,.int .i64 2000000]=some (.bool (iE free 0 2000000)):=rfl
 have ft:=fun A=>aK (T:=T) (fun A n=>hb.frz (A:=A) n) A 3
 have fr:∀A n,frz A n rdv=rdv:=fun A n=>hr.frz n
 have fb:∀A,frz A 4 (.func (.func 52) [] [])=jR:=fun _=>rfl
 have hl1:=hb.len
 rw [RN] at hl1
 have hl2:=hr.len
 rw [aA] at hl2
 have bx:aS 5 (af T chv) []=some (.ptr 0 0 0,[.row 5 false [af T chv]]):=rfl
 have ct:(cellsOf (af T chv)).length=5:=rfl
 obtain ⟨A0,hA0⟩:∃A:ac,A=[.row 5 false [af T chv]]:=⟨_,rfl⟩
 have lt:ab true 5 A0 (.ptr 0 0 0)=some (af T chv):=by rw [hA0]; rfl
 have fa:aa 0 A0 (.ptr 0 0 0)=some (.ptr 0 0 0):=by rw [hA0]; simp [aa]
 have l0:ab false 1 A0 (.ptr 0 0 0)=some chv:=by
  rw [hA0]
  rcases hb with ⟨rfl,_⟩ | rfl <;> rfl
 have b1:=bA (rd.length:Int) (T.ch.length:Int)
 rw [JG]
 obtain ⟨t,ht⟩:∃t,t=af T chv:=⟨_,rfl⟩
 rw [<-ht] at m ft bx ct lt hA0 ⊢
 rw [<-hA0] at bx
 obtain ⟨p,hp⟩:∃p,p=decide (isT T):=⟨_,rfl⟩
 obtain ⟨q,hq⟩:∃q,q=decide ((rd.length:Int)=(T.ch.length:Int)):=⟨_,rfl⟩
 obtain ⟨u,hu⟩:∃u,u=iE free 0 2000000:=⟨_,rfl⟩
 obtain ⟨v,hv⟩:∃v,v=rd.any sQ:=⟨_,rfl⟩
 obtain ⟨z1,hz1⟩:∃z1,z1=(rd.length:Int):=⟨_,rfl⟩
 obtain ⟨z2,hz2⟩:∃z2,z2=(T.ch.length:Int):=⟨_,rfl⟩
 rw [<-hp] at m ⊢
 rw [<-hq] at b1 ⊢
 rw [<-hu] at m3 ⊢
 rw [<-hv] at m2 ⊢
 rw [<-hz1] at hl2 b1
 rw [<-hz2] at hl1 b1
 unfold M29
 rw [aN _ _ rfl]
 cases p <;> cases q <;> cases u <;> simp [Ns,m,m2,m3,ft,fr,fb,bx,ct,lt,fa,l0,b1,hl1,hl2,bc,aM,-aS,-ab,-aa,-aq,-frz,-cellsOf,-ag,-cf]
def M42:aU:=fun args=>evP (aw GC []) 0 AE 1 args
theorem rW:ax Try.prog GC 42 M42:=ax.of_ev (E:=aw GC []) (ay aB) rfl Ly vo 1 fun _ _ h=>⟨0,h⟩
theorem yE {T:aT} (chv:AV) (hv:aY T):M42 [af T chv]=some (.int .i64 (wT T)):=by
 obtain ⟨_,⟨h1,h2,h3⟩,_⟩:=hv
 have b1:ag .add (.int .i64 T.pick) (.int .i64 T.travel)=some (.int .i64 (T.pick+T.travel)):=aZ (by omega)
 have b2:ag .add (.int .i64 (T.pick+T.travel)) (.int .i64 T.place)=some (.int .i64 (wT T)):=aZ (by omega)
 unfold M42
 rw [aN _ _ rfl]
 simp [AE,af,b1,b2,-ag]
def M41:aU:=fun args=>evP (aw GC []) 0 AF 1 args
theorem pO:ax Try.prog GC 41 M41:=ax.of_ev (E:=aw GC []) (ay aB) rfl Lz vp 1 fun _ _ h=>⟨0,h⟩
theorem yF {T:aT} (chv:AV) (a b:Int) (ha : -1000<=a/\a<=1000):M41 [af T chv,.int .i64 a,.int .i64 b]=some (.int .i64 (btw T a b)):=by
 have b1:ag .add (.int .i64 a) (.int .i64 1)=some (.int .i64 (a+1)):=aZ (by omega)
 have b2:=bA b (a+1)
 obtain ⟨a1,ha1⟩:∃a1,a1=a+1:=⟨_,rfl⟩
 unfold btw
 rw [<-ha1] at b1 b2 ⊢
 unfold M41
 rw [aN _ _ rfl]
 by_cases h:b=a1
 ·rw [RE h] at b2
  rw [RH h]
  simp [AF,af,b1,b2,-ag]
 ·rw [RD h] at b2
  rw [RK h]
  simp [AF,af,b1,b2,-ag]
end Tr
namespace Tr
open Go
open Cy (GC aM bc aA)
open Clu (aT aY af chA aK aZ bD bA bL dP cK bK ss fh)
section
variable {A:ac} {id:Nat} {xs:List Int}
theorem cE {n:Nat} {g:Bool} (h:A[id]?=some (.row 1 g es)) (hk:k<n) (kk:IntKind):ae 1 A (.sl id 0 n) (.int kk (k:Int))=some (.ptr id k 0):=by
 simp only [ae,h]
 rw [RH ⟨trivial,by omega,by omega,by omega⟩]
 simp
theorem fg (h:A[id]?=some (.row 1 false (aj xs))) (hk:k<xs.length):ab false 1 A (.ptr id k 0)=some (.int .i64 (xs.getD k 0)):=by
 have e:(aj xs)[k]?=some (.int .i64 (xs.getD k 0)):=by
  simp [aj,Rx hk]
 simp only [ab,h,e]
 rfl
theorem iH (h:A[id]?=some (.row 1 false (aj xs))) (hk:k<xs.length) (v:Int):az 1 A (.ptr id k 0) (.int .i64 v)=some (A.set id (.row 1 false (aj (xs.set k v)))):=by
 have e:(aj xs)[k]?=some (.int .i64 (xs.getD k 0)):=by
  simp [aj,Rx hk]
 have e2:(aj xs).set k (.int .i64 v)=aj (xs.set k v):=by simp [aj]
 simp only [az,h,e]
 rw [RH ⟨trivial,rfl,rfl,by omega⟩]
 simp only [bq,cellsOf]
 rw [<-e2]
 rfl
end
def aL (t:cO):AV:=.agg [.int .i64 t.1,.int .i64 t.2]
@[simp] theorem Re (A:ac) (a b:AV):aa 0 A (.fp [a,b])=some (.fp [a,b]):=rfl
@[simp] theorem Rd (A:ac) (a b:AV):aa 1 A (.fp [a,b])=some (.fp [b]):=rfl
@[simp] theorem QQ (A:ac) (a:AV) (r:List AV):ab false 1 A (.fp (a :: r))=some a:=rfl
theorem wL {T:aT} (hb:SlA 2 (T.ch.map chA) chv) (hk:k<T.ch.length) (A:ac) (kk:IntKind):ae 2 A chv (.int kk (k:Int))=some (.fp [.int .i64 (tmT T k),.int .i64 (syT T k)]):=by
 have:=hb.index (A:=A) (i:=k) (x:=chA (T.ch.getD k (0,0))) (by simp [Rx hk]) rfl (by omega) kk
 rw [this]; rfl
def oy:List (FuncId × aJ):=[(29,aG 4 M29),(30,aG 4 M30),(41,aG 4 M41),(42,aG 4 M42),(40,fun _=>cc (aw GC []) 0 Cy.qb)]
@[simp] theorem Po:aE oy 29=some (aG 4 M29):=rfl
@[simp] theorem Pn:aE oy 30=some (aG 4 M30):=rfl
@[simp] theorem Pl:aE oy 41=some (aG 4 M41):=rfl
@[simp] theorem Pk:aE oy 42=some (aG 4 M42):=rfl
@[simp] theorem Pm:aE oy 40=some (fun _=>cc (aw GC []) 0 Cy.qb):=rfl
theorem Ha:∀f M,aE oy f=some M->au Try.prog GC f M:=ai (au.of_pure EJ 4) (ai (au.of_pure uh 4) (ai (au.of_pure pO 4) (ai (au.of_pure rW 4) (ai Cy.iR aB))))
def M17:aU:=fun args=>evP (aw GC oy) 300 J0 4 args
theorem xA:ax Try.prog GC 17 M17:=ax.of_ev (E:=aw GC oy) (ay Ha) rfl at17 Ll 4 fun _ _ h=>⟨300,h⟩
def Ip:MC:=.seq (.region [.d 0 10,.b 1 0,.c 12 1]) (.seq (.region [.a 12,.a 7,.v 1,.F 21 0 2]) (.cond (.var 21) (.seq (.seq (.region [.a 7,.a 12,.e 1 0 1,.b 1 2,.ad 22 3 0]) (.cond (.var 22) (.seq (.region [.f 5 0,.g 6]) .ret) .skip)) (.region [.a 7,.a 12,.a 9,.d 0 4,.b 1 3,.a 12,.e 2 4 5,.m 0 6,.b 1 7,.o 2 8,.e 1 0 1,.A 1 10 9])) .skip))
def Dl:MC:=.seq (.seq (.region [.d 0 10,.b 1 0,.s 1 1,.c 11 2]) (.seq (.region [.a 11,.ad 19 0 0]) (.cond (.var 19) (.seq (.seq (.region [.a 7,.a 11,.e 1 0 1,.b 1 2,.af 3 0,.h 4,.y 1 10 5,.q 1 6 5,.n 7 5,.n 11 5,.U 1 8 9 5,.q 1 10 5,.n 7 5,.n 11 5,.U 1 12 13 5,.q 1 14 5,.y 0 4 5,.q 1 16 5,.n 11 5,.U 2 17 18 5,.b4 1 19 5,.q 1 20 5,.av 15 21 5,.ao 30 7 11 22 5,.H 23 5,.C 20 5 24]) (.cond (.var 20) (.seq (.region [.f 5 0,.g 6]) .ret) .skip)) (.region [.a 7,.a 11,.e 1 0 1,.aq 1 2 (-1)])) .skip))) Ip
theorem zd:je=.seq (.region [.B 17 16 15]) (.seq (.cond (.var 17) .skip (.exit 0)) (.seq (.seq (.block 1 (.seq (.region [.M 2 14 16,.K 2 0,.ah 10 2,.r 2 10 1]) (.seq (.seq (.region [.d 0 10,.b 1 0,.a 7,.v 2,.am 30 1 3,.W 4,.h 5,.y 1 10 6,.q 1 7 6,.n 9 6,.b3 5 4 6,.n 8 6,.y 0 10 6,.q 1 12 6,.ao 41 10 11 13 6,.av 9 14 6,.ar 30 8 15 6,.H 16 6,.C 18 6 17]) (.cond (.var 18) (.seq (.region [.f 5 0,.g 6]) .ret) .skip)) (.seq (.region [.d 0 10,.b 1 0,.d 1 10,.b 1 2,.l 5 4,.J 42 4,.o 3 5,.c 8 1,.c 9 6]) Dl)))) (.kill [0,1,2,3,5,6,10,11,12,13,17,18,19,20,21,22])) (.region [.u 16 1,.c 16 0]))):=rfl
structure A17 (A:ac) (T:aT) (chv:AV) (inn:List Int):Prop where
 t:A[0]?=some (.row 5 false [af T chv])
 r:A[2]?=some (.row 1 false (aj inn))
 l:2<A.length
theorem A17.set {T:aT} (h:A17 A T chv inn) (inn':List Int):A17 (A.set 2 (.row 1 false (aj inn'))) T chv inn':=
 ⟨by rw [RF (by omega)]; exact h.t,by rw [RO h.l],by rw [Sm]; exact h.l⟩
theorem A17.tool {T:aT} (h:A17 A T chv inn) (hb:SlA 2 (T.ch.map chA) chv):ab true 5 A (.ptr 0 0 0)=some (af T chv)/\aa 0 A (.ptr 0 0 0)=some (.ptr 0 0 0)/\ab false 1 A (.ptr 0 0 0)=some chv:=by
 have h1:∀B:ac,B[0]?=A[0]?->ab true 5 B (.ptr 0 0 0)=ab true 5 A (.ptr 0 0 0):=fun B e=>by simp only [ab,e]
 refine ⟨?_,?_,?_⟩
 ·simp only [ab,h.t]; rfl
 ·simp only [aa,h.t]; rfl
 ·simp only [ab,h.t]
  rcases hb with ⟨rfl,_⟩ | rfl <;> rfl
theorem g7 {p:Nat} {t:cO} (h:A[p]?=some (.row 2 false [aL t])):aa 0 A (.ptr p 0 0)=some (.ptr p 0 0)/\aa 1 A (.ptr p 0 0)=some (.ptr p 0 1)/\ab false 1 A (.ptr p 0 0)=some (.int .i64 t.1)/\ab false 1 A (.ptr p 0 1)=some (.int .i64 t.2):=by
 refine ⟨?_,?_,?_,?_⟩
 ·simp only [aa,h]; rfl
 ·simp only [aa,h]; rfl
 ·simp only [ab,h]; rfl
 ·simp only [ab,h]; rfl
abbrev s17 (n:Nat) (last fin:Int) (lv:AV) (m i:Nat):List AV:=uf (.ptr 0 0 0) (.sl 2 0 n) (.int .i64 last) (.int .i64 fin) lv (.int .i64 (m:Int)) (.int .i64 (i:Int))
section
variable {T:aT} {chv:AV} {A:ac} {inn:List Int} {n p:Nat} {tn ts:Int}
theorem Na (hb:SlA 2 (T.ch.map chA) chv) (hv:aY T) (hA:A17 A T chv inn) (hn:inn.length=T.ch.length) (hnn:n=T.ch.length) (hp:A[p]?=some (.row 2 false [aL (tn,ts)])) (h0:0<=tn) (hts:0<=ts/\ts<=1000000000)
  (v0 v1 v2 v3 v5 v6 v8 v11 v12 v13 v14 v15 v16 v17 v18 v19 v20 v21 v22:AV) :
  match vR T inn (tn,ts) with
  | some inn2=>∃e12 e21 e22 B,(∀K,run (aw GC oy) 300 (.code Ip :: K) [v0,v1,v2,v3,.ptr 0 0 0,v5,v6,.sl 2 0 n,v8,.int .i64 (ts+wT T),.ptr p 0 0,v11,v12,v13,v14,v15,v16,v17,v18,v19,v20,v21,v22] A =
    run (aw GC oy) 300 K [v0,v1,v2,v3,.ptr 0 0 0,v5,v6,.sl 2 0 n,v8,.int .i64 (ts+wT T),.ptr p 0 0,v11,e12,v13,v14,v15,v16,v17,v18,v19,v20,e21,e22] B)/\A17 B T chv inn2
  | none=>∃ σ B,(∀K,run (aw GC oy) 300 (.code Ip :: K) [v0,v1,v2,v3,.ptr 0 0 0,v5,v6,.sl 2 0 n,v8,.int .i64 (ts+wT T),.ptr p 0 0,v11,v12,v13,v14,v15,v16,v17,v18,v19,v20,v21,v22] A=some (.ret σ B))/\σ[5]?=some (.int .i64 0)/\σ[6]?=some (.bool false):=by
 obtain ⟨f0,_,l0,_⟩:=g7 hp
 simp only at l0
 obtain ⟨_,g0,g1⟩:=hA.tool hb
 have hw:=da hv
 have ln:aq (.sl 2 0 n)=some (.int .i64 (n:Int)):=rfl
 have b1:=bK tn (n:Int)
 unfold vR
 simp only
 by_cases h1:tn<(inn.length:Int)
 rotate_left
 ·rw [RK h1]
  rw [RD (by omega)] at b1
  refine ⟨.int .i64 tn,.bool false,v22,A,fun K=>?_,hA⟩
  generalize (n:Int)=N at *
  simp [Ip,f0,l0,ln,b1,-ag,-ab,-aa,-aq]
 rw [RH h1]
 rw [RE (by omega)] at b1
 obtain ⟨t,rfl⟩:∃t:Nat,tn=(t:Int):=⟨tn.toNat,by omega⟩
 rw [RW]
 have i1:=cE hA.r (n:=n) (k:=t) (by omega) .i64
 have d1:=fg hA.r (k:=t) (by omega)
 have b2:=Cy.iO (inn.getD t 0)
 have hc:=wL hb (k:=t) (by omega) A .i64
 have htm:=di hv t
 have b3:ag .add (.int .i64 (ts+wT T)) (.int .i64 (tmT T t))=some (.int .i64 (ts+wT T+tmT T t)):=aZ (by omega)
 have s1:=iH hA.r (k:=t) (by omega) (ts+wT T+tmT T t)
 obtain ⟨I,hI⟩:∃I,I=inn.getD t 0:=⟨_,rfl⟩
 rw [<-hI] at d1 b2 ⊢
 obtain ⟨E,hE⟩:∃E,E=ts+wT T+tmT T t:=⟨_,rfl⟩
 rw [<-hE] at b3 s1 ⊢
 by_cases h2:0<=I
 ·rw [RH h2]
  rw [RE h2] at b2
  refine ⟨[v0,v1,v2,v3,.ptr 0 0 0,.int .i64 0,.bool false,.sl 2 0 n,v8,.int .i64 (ts+wT T),.ptr p 0 0,v11,.int .i64 (t:Int),v13,v14,v15,v16,v17,v18,v19,v20,.bool true,.bool true],A,fun K=>?_,rfl,rfl⟩
  generalize (n:Int)=N at *
  generalize (t:Int)=TT at *
  simp [Ip,f0,l0,ln,b1,i1,d1,b2,-ag,-ab,-aa,-aq,-ae]
 ·rw [RK h2]
  rw [RD h2] at b2
  refine ⟨.int .i64 (t:Int),.bool true,.bool false,A.set 2 (.row 1 false (aj (inn.set t E))),fun K=>?_,hA.set _⟩
  generalize (n:Int)=N at *
  generalize (t:Int)=TT at *
  simp [Ip,f0,l0,ln,b1,i1,d1,b2,b3,g0,g1,hc,s1,-ag,-ab,-aa,-aq,-ae,-az]
theorem Nm (hb:SlA 2 (T.ch.map chA) chv) (hv:aY T) (hA:A17 A T chv inn) (hn:inn.length=T.ch.length) (hnn:n=T.ch.length) (hp:A[p]?=some (.row 2 false [aL (tn,ts)])) (hp2:p≠2) (h0:0<=tn/\tn<=inn.length) (hts:0<=ts/\ts<=1000000000) (hin:∀z∈inn,-1<=z/\z<=3000000000)
  (v0 v1 v2 v3 v5 v6 v8 v11 v12 v13 v14 v15 v16 v17 v18 v19 v20 v21 v22:AV) :
  match (kw T inn (tn,ts)).bind fun a=>vR T a (tn,ts) with
  | some inn2=>∃e11 e12 e19 e20 e21 e22 B,(∀K,run (aw GC oy) 300 (.code Dl :: K) [v0,v1,v2,v3,.ptr 0 0 0,v5,v6,.sl 2 0 n,v8,.int .i64 (ts+wT T),.ptr p 0 0,v11,v12,v13,v14,v15,v16,v17,v18,v19,v20,v21,v22] A =
    run (aw GC oy) 300 K [v0,v1,v2,v3,.ptr 0 0 0,v5,v6,.sl 2 0 n,v8,.int .i64 (ts+wT T),.ptr p 0 0,e11,e12,v13,v14,v15,v16,v17,v18,e19,e20,e21,e22] B)/\A17 B T chv inn2
  | none=>∃ σ B,(∀K,run (aw GC oy) 300 (.code Dl :: K) [v0,v1,v2,v3,.ptr 0 0 0,v5,v6,.sl 2 0 n,v8,.int .i64 (ts+wT T),.ptr p 0 0,v11,v12,v13,v14,v15,v16,v17,v18,v19,v20,v21,v22] A=some (.ret σ B))/\σ[5]?=some (.int .i64 0)/\σ[6]?=some (.bool false):=by
 obtain ⟨f0,f1,l0,l1⟩:=g7 hp
 simp only at l0 l1
 obtain ⟨_,g0,g1⟩:=hA.tool hb
 have hn4:=hv.2.2.2.1
 have b1:ag .sub (.int .i64 tn) (.int .i64 1)=some (.int .i64 (tn-1)):=bD (by omega)
 have b2:=Cy.iO (tn-1)
 have key:∀(inn1:List Int) (B:ac) (e11 e19 e20:AV),A17 B T chv inn1->inn1.length=T.ch.length->B[p]?=some (.row 2 false [aL (tn,ts)]) ->
   (∀K,run (aw GC oy) 300 (.code Dl :: K) [v0,v1,v2,v3,.ptr 0 0 0,v5,v6,.sl 2 0 n,v8,.int .i64 (ts+wT T),.ptr p 0 0,v11,v12,v13,v14,v15,v16,v17,v18,v19,v20,v21,v22] A =
    run (aw GC oy) 300 (.code Ip :: K) [v0,v1,v2,v3,.ptr 0 0 0,v5,v6,.sl 2 0 n,v8,.int .i64 (ts+wT T),.ptr p 0 0,e11,v12,v13,v14,v15,v16,v17,v18,e19,e20,v21,v22] B) ->
   match (some inn1).bind fun a=>vR T a (tn,ts) with
   | some inn2=>∃e11 e12 e19 e20 e21 e22 B,(∀K,run (aw GC oy) 300 (.code Dl :: K) [v0,v1,v2,v3,.ptr 0 0 0,v5,v6,.sl 2 0 n,v8,.int .i64 (ts+wT T),.ptr p 0 0,v11,v12,v13,v14,v15,v16,v17,v18,v19,v20,v21,v22] A =
     run (aw GC oy) 300 K [v0,v1,v2,v3,.ptr 0 0 0,v5,v6,.sl 2 0 n,v8,.int .i64 (ts+wT T),.ptr p 0 0,e11,e12,v13,v14,v15,v16,v17,v18,e19,e20,e21,e22] B)/\A17 B T chv inn2
   | none=>∃ σ B,(∀K,run (aw GC oy) 300 (.code Dl :: K) [v0,v1,v2,v3,.ptr 0 0 0,v5,v6,.sl 2 0 n,v8,.int .i64 (ts+wT T),.ptr p 0 0,v11,v12,v13,v14,v15,v16,v17,v18,v19,v20,v21,v22] A=some (.ret σ B))/\σ[5]?=some (.int .i64 0)/\σ[6]?=some (.bool false):=by
  intro inn1 B e11 e19 e20 hA1 hn1 hp1 hrun
  have h:=Na hb hv hA1 hn1 hnn hp1 h0.1 hts v0 v1 v2 v3 v5 v6 v8 e11 v12 v13 v14 v15 v16 v17 v18 e19 e20 v21 v22
  rw [Sn]
  cases hput:vR T inn1 (tn,ts) with
  | none=>
   rw [hput] at h
   obtain ⟨σ,B',h1,h2⟩:=h
   exact ⟨σ,B',fun K=>by rw [hrun,h1],h2⟩
  | some inn2=>
   rw [hput] at h
   obtain ⟨e12,e21,e22,B',h1,h2⟩:=h
   exact ⟨e11,e12,e19,e20,e21,e22,B',fun K=>by rw [hrun,h1],h2⟩
 unfold kw
 simp only
 by_cases h1:1<=tn
 rotate_left
 ·rw [RK h1]
  rw [RD (by omega)] at b2
  refine key inn A (.int .i64 (tn-1)) (.bool false) v20 hA hn hp fun K=>?_
  generalize tn-1=T1 at *
  simp [Dl,f0,l0,b1,b2,-ag,-ab,-aa,-aq]
 rw [RH h1]
 rw [RE (by omega)] at b2
 obtain ⟨k,hk⟩:∃k:Nat,tn-1=(k:Int):=⟨(tn-1).toNat,by omega⟩
 rw [hk,RW]
 rw [hk] at b1 b2
 have i1:=cE hA.r (n:=n) (k:=k) (by omega) .i64
 have d1:=fg hA.r (k:=k) (by omega)
 have b3:=bK (inn.getD k 0) 0
 have hc:=wL hb (k:=k) (by omega) A .i64
 have hch:=di hv k
 have hI : -1<=inn.getD k 0/\inn.getD k 0<=3000000000:=by
  rw [Rw,Rx (show k<inn.length by omega)]
  exact hin _ (RM _)
 have b4:ag .add (.int .i64 (inn.getD k 0)) (.int .i64 (syT T k))=some (.int .i64 (inn.getD k 0+syT T k)):=aZ (by omega)
 have m1:=cf ts (inn.getD k 0) (inn.getD k 0+syT T k)
 have s1:=iH hA.r (k:=k) (by omega) (-1)
 have hA1:=hA.set (inn.set k (-1))
 have hp1:(A.set 2 (.row 1 false (aj (inn.set k (-1)))))[p]?=some (.row 2 false [aL (tn,ts)]):=by rw [RF (S4 hp2)]; exact hp
 have key1:=key (inn.set k (-1)) (A.set 2 (.row 1 false (aj (inn.set k (-1))))) (.int .i64 (k:Int)) (.bool true) (.bool false) hA1 (by simp [hn]) hp1
 obtain ⟨A1,hAe⟩:∃X,X=A.set 2 (.row 1 false (aj (inn.set k (-1)))):=⟨_,rfl⟩
 rw [<-hAe] at s1 key1
 obtain ⟨I,hIe⟩:∃I,I=inn.getD k 0:=⟨_,rfl⟩
 rw [<-hIe] at d1 b3 b4 m1 hI ⊢
 obtain ⟨E,hE⟩:∃E,E=I+syT T k:=⟨_,rfl⟩
 rw [<-hE] at b4 m1 ⊢
 by_cases h2:0<=I
 rotate_left
 ·rw [RK (fun h=>h2 h.1)]
  rw [RE (by omega)] at b3
  refine ⟨[v0,v1,v2,v3,.ptr 0 0 0,.int .i64 0,.bool false,.sl 2 0 n,v8,.int .i64 (ts+wT T),.ptr p 0 0,.int .i64 (k:Int),v12,v13,v14,v15,v16,v17,v18,.bool true,.bool true,v21,v22],A,fun K=>?_,rfl,rfl⟩
  generalize (k:Int)=KK at *
  simp [Dl,f0,l0,i1,d1,b1,b2,b3,-ag,-ab,-aa,-aq,-ae]
 rw [RD (by omega)] at b3
 by_cases h3:I<=ts/\ts<=E
 rotate_left
 ·rw [RK (fun h=>h3 h.2)]
  have mb:iE ts I E=false:=by
   cases e:iE ts I E
   ·rfl
   ·exact absurd (cD.1 e) h3
  rw [mb] at m1
  refine ⟨[v0,v1,v2,v3,.ptr 0 0 0,.int .i64 0,.bool false,.sl 2 0 n,v8,.int .i64 (ts+wT T),.ptr p 0 0,.int .i64 (k:Int),v12,v13,v14,v15,v16,v17,v18,.bool true,.bool true,v21,v22],A,fun K=>?_,rfl,rfl⟩
  generalize (k:Int)=KK at *
  simp [Dl,f0,f1,l0,l1,g0,g1,hc,i1,d1,b1,b2,b3,b4,m1,-cf,-ag,-ab,-aa,-aq,-ae]
 ·rw [RH ⟨h2,h3⟩]
  rw [cD.2 h3] at m1
  refine key1 fun K=>?_
  generalize (k:Int)=KK at *
  simp [Dl,f0,f1,l0,l1,g0,g1,hc,i1,d1,b1,b2,b3,b4,m1,s1,-cf,-ag,-ab,-aa,-aq,-ae,-az]
end
structure OkS (T:aT) (x:St):Prop where
 n:x.inn.length=T.ch.length
 la : -1000<=x.last/\x.last<=1000
 fi:0<=x.fin/\x.fin<=2000000000
 inn:∀z∈x.inn,-1<=z/\z<=3000000000
theorem OkS.step {T:aT} (hv:aY T) {x y:St} (h:OkS T x) {t:cO} (hs:eO T x t=some y):OkS T y:=by
 have hw:=da hv
 have hn4:=hv.2.2.2.1
 unfold eO at hs
 split at hs
 ·rename_i hc
  obtain ⟨⟨c1,c2⟩,c3,c4⟩:=hc
  have hbt:=mN hv x.last t.1
  cases h1:kw T x.inn t with
  | none=>rw [h1] at hs; cases hs
  | some a=>
   rw [h1,Sn] at hs
   cases h2:vR T a t with
   | none=>rw [h2] at hs; cases hs
   | some b=>
    rw [h2] at hs
    injection hs with hs
    subst hs
    have ha:a.length=T.ch.length/\∀z∈a,-1<=z/\z<=3000000000:=by
     unfold kw at h1
     split at h1
     ·split at h1
      ·injection h1 with h1; subst h1
       refine ⟨by simp [h.n],fun z hz=>?_⟩
       rcases List.mem_or_eq_of_mem_set hz with hz | rfl
       ·exact h.inn z hz
       ·omega
      ·cases h1
     ·injection h1 with h1; subst h1
      exact ⟨h.n,h.inn⟩
    have hb:b.length=T.ch.length/\∀z∈b,-1<=z/\z<=3000000000:=by
     have htm:=di hv t.1.toNat
     have:=h.fi
     unfold vR at h2
     split at h2
     ·split at h2
      ·cases h2
      ·injection h2 with h2; subst h2
       refine ⟨by simp [ha.1],fun z hz=>?_⟩
       rcases List.mem_or_eq_of_mem_set hz with hz | rfl
       ·exact ha.2 z hz
       ·omega
     ·injection h2 with h2; subst h2
      exact ha
    have:=h.n
    have:=h.fi
    exact ⟨hb.1,by simp only; omega,by simp only; omega,hb.2⟩
 ·cases hs
theorem Hw {T:aT} (hb:SlA 2 (T.ch.map chA) chv) (hv:aY T) {l:List cO} (hlv:SlA 2 (l.map aL) lv) {A:ac} {x:St} (hA:A17 A T chv x.inn) (hx:OkS T x) {i:Nat} (hi:i<l.length) (hil:l.length<=200) :
  match eO T x l[i] with
  | some y=>∃B,run (aw GC oy) 300 [.code je] (s17 T.ch.length x.last x.fin lv l.length i) A=some (.normal (s17 T.ch.length y.last y.fin lv l.length (i+1)) B)/\A17 B T chv y.inn
  | none=>∃ σ B,run (aw GC oy) 300 [.code je] (s17 T.ch.length x.last x.fin lv l.length i) A=some (.ret σ B)/\σ[5]?=some (.int .i64 0)/\σ[6]?=some (.bool false):=by
 obtain ⟨inn,last,fin⟩:=x
 obtain ⟨hn,hlast,hfin,hin⟩:=hx
 simp only at hA hn hlast hfin hin ⊢
 have hw:=da hv
 have hn4:=hv.2.2.2.1
 have ft:=fun A=>aK (T:=T) (fun A n=>hb.frz (A:=A) n) A 3
 have x1:=hlv.index (A:=A) (i:=i) (x:=aL l[i]) (by simp [hi]) rfl (by omega) .i64
 have b0:=a9 i l.length .i64
 rw [RE hi] at b0
 have b9:=aV i (by omega)
 obtain ⟨⟨tn,ts⟩,hti⟩:∃t,t=l[i]:=⟨_,rfl⟩
 rw [<-hti] at x1 ⊢
 have x1:ae 2 A lv (.int .i64 (i:Int))=some (.fp [.int .i64 tn,.int .i64 ts]):=x1
 obtain ⟨B,hB⟩:∃B,B=A++[Ent.row 2 false [aL (tn,ts)]]:=⟨_,rfl⟩
 have s0:az 2 (A++[.row 2 false [.agg [.int .i64 0,.int .i64 0]]]) (.ptr A.length 0 0) (.agg [.int .i64 tn,.int .i64 ts])=some B:=by
  rw [hB]
  simp only [az,Tv,Sz]
  rw [RH ⟨trivial,rfl,rfl,by omega⟩]
  simp [bq,cellsOf,aL]
 have hAB:A17 B T chv inn:=by
  have hl:=hA.l
  rw [hB]
  exact ⟨by rw [RC (by omega)]; exact hA.t,by rw [RC (by omega)]; exact hA.r,by simp; omega⟩
 have hp:B[A.length]?=some (.row 2 false [aL (tn,ts)]):=by rw [hB]; simp
 have hp2:A.length≠2:=by have:=hA.l; omega
 obtain ⟨f0,f1,l0,l1⟩:=g7 hp
 simp only at l0 l1
 obtain ⟨lt,g0,g1⟩:=hAB.tool hb
 have ln:aq (.sl 2 0 T.ch.length)=some (.int .i64 (T.ch.length:Int)):=rfl
 have m1:=cf tn 0 (T.ch.length:Int)
 have m2:=yF (T:=T) chv last tn hlast
 have hbt:=mN hv last tn
 have b1:ag .add (.int .i64 fin) (.int .i64 (btw T last tn))=some (.int .i64 (fin+btw T last tn)):=aZ (by omega)
 have m3:=cf ts (fin+btw T last tn) 1000000000
 have m4:=yE (T:=T) chv hv
 generalize hp0:A.length=p at *
 rw [zd]
 obtain ⟨t,ht⟩:∃t,t=af T chv:=⟨_,rfl⟩
 rw [<-ht] at ft lt m2 m4
 unfold eO
 simp only
 by_cases c1:0<=tn/\tn<=(inn.length:Int)
 rotate_left
 ·rw [RK (fun h=>c1 h.1)]
  have mb:iE tn 0 (T.ch.length:Int)=false:=by
   cases e:iE tn 0 (T.ch.length:Int)
   ·rfl
   ·exact absurd (cD.1 e) (by rw [hn] at c1; exact c1)
  rw [mb] at m1
  refine ⟨[.undef,.undef,.undef,.undef,.ptr 0 0 0,.int .i64 0,.bool false,.sl 2 0 T.ch.length,.int .i64 last,.int .i64 fin,.ptr p 0 0,.undef,.undef,.undef,lv,.int .i64 (l.length:Int),.int .i64 (i:Int),.bool true,.bool true,.undef,.undef,.undef,.undef],B,?_,rfl,rfl⟩
  generalize (T.ch.length:Int)=N at *
  simp [x1,b0,s0,f0,l0,ln,m1,fh,hp0,-cf,-ag,-ab,-aa,-aq,-ae,-az]
 have mb1:iE tn 0 (T.ch.length:Int)=true:=cD.2 (by rw [hn] at c1; exact c1)
 rw [mb1] at m1
 by_cases c2:fin+btw T last tn<=ts/\ts<=1000000000
 rotate_left
 ·rw [RK (fun h=>c2 h.2)]
  have mb:iE ts (fin+btw T last tn) 1000000000=false:=by
   cases e:iE ts (fin+btw T last tn) 1000000000
   ·rfl
   ·exact absurd (cD.1 e) c2
  rw [mb] at m3
  refine ⟨[.undef,.undef,.undef,.undef,.ptr 0 0 0,.int .i64 0,.bool false,.sl 2 0 T.ch.length,.int .i64 last,.int .i64 fin,.ptr p 0 0,.undef,.undef,.undef,lv,.int .i64 (l.length:Int),.int .i64 (i:Int),.bool true,.bool true,.undef,.undef,.undef,.undef],B,?_,rfl,rfl⟩
  generalize (T.ch.length:Int)=N at *
  generalize btw T last tn=BT at *
  simp [x1,b0,s0,f0,f1,l0,l1,lt,ft,ln,m1,m2,m3,b1,fh,hp0,-cf,-ag,-ab,-aa,-aq,-ae,-az]
 have mb2:iE ts (fin+btw T last tn) 1000000000=true:=cD.2 c2
 rw [mb2] at m3
 rw [RH ⟨c1,c2⟩]
 have b2:ag .add (.int .i64 ts) (.int .i64 (wT T))=some (.int .i64 (ts+wT T)):=aZ (by omega)
 have hmid:=Nm (n:=T.ch.length) hb hv hAB hn rfl hp hp2 c1 (by omega) hin .undef .undef .undef .undef .undef .undef (.int .i64 tn) .undef .undef .undef lv (.int .i64 (l.length:Int)) (.int .i64 (i:Int)) (.bool true) (.bool false) .undef .undef .undef .undef
 cases hput:(kw T inn (tn,ts)).bind fun a=>vR T a (tn,ts) with
 | none=>
  have e:((kw T inn (tn,ts)).bind fun a=>(vR T a (tn,ts)).map fun b=>(⟨b,tn,ts+wT T⟩:St))=none:=by
   cases h1:kw T inn (tn,ts) with
   | none=>rfl
   | some a=>
    rw [h1,Sn] at hput
    rw [Sn,hput]; rfl
  rw [e]
  rw [hput] at hmid
  obtain ⟨σ,B',h1,h2⟩:=hmid
  refine ⟨σ,B',?_,h2⟩
  generalize hN:(T.ch.length:Int)=N at *
  generalize btw T last tn=BT at *
  generalize ts+wT T=EE at *
  simp [x1,b0,s0,f0,f1,l0,l1,lt,ft,ln,m1,m2,m3,m4,b1,b2,fh,hp0,h1,-cf,-ag,-ab,-aa,-aq,-ae,-az]
 | some inn2=>
  have e:((kw T inn (tn,ts)).bind fun a=>(vR T a (tn,ts)).map fun b=>(⟨b,tn,ts+wT T⟩:St))=some ⟨inn2,tn,ts+wT T⟩:=by
   cases h1:kw T inn (tn,ts) with
   | none=>rw [h1] at hput; cases hput
   | some a=>
    rw [h1,Sn] at hput
    rw [Sn,hput]; rfl
  rw [e]
  rw [hput] at hmid
  obtain ⟨e11,e12,e19,e20,e21,e22,B',h1,h2⟩:=hmid
  refine ⟨B',?_,h2⟩
  simp only
  generalize hN:(T.ch.length:Int)=N at *
  generalize btw T last tn=BT at *
  generalize ts+wT T=EE at *
  obtain ⟨i1,hi1⟩:∃i1:Nat,i1=i+1:=⟨_,rfl⟩
  rw [<-hi1] at b9 ⊢
  simp [x1,b0,b9,s0,f0,f1,l0,l1,lt,ft,ln,m1,m2,m3,m4,b1,b2,fh,hp0,h1,-cf,-ag,-ab,-aa,-aq,-ae,-az]
theorem Kd {T:aT} (hb:SlA 2 (T.ch.map chA) chv) (hv:aY T) {l:List cO} (hlv:SlA 2 (l.map aL) lv) (hil:l.length<=200):∀(c i:Nat) (A:ac) (x:St) (m:Nat),i+c=l.length->A17 A T chv x.inn->OkS T x->c<m ->
  match rF T x (l.drop i) with
  | some y=>∃B,bM (evC (aw GC oy) 300 je) il m (s17 T.ch.length x.last x.fin lv l.length i) A=some (.exit 0 ((s17 T.ch.length y.last y.fin lv l.length l.length).set 17 (.bool false)) B)
  | none=>∃ σ B,bM (evC (aw GC oy) 300 je) il m (s17 T.ch.length x.last x.fin lv l.length i) A=some (.ret σ B)/\σ[5]?=some (.int .i64 0)/\σ[6]?=some (.bool false):=by
 intro c
 induction c with
 | zero=>
  intro i A x m hi hA hx hm
  obtain ⟨m,rfl⟩:∃j,m=j+1:=⟨m-1,by omega⟩
  obtain rfl:i=l.length:=by omega
  rw [SP]
  simp only [rF]
  refine ⟨A,?_⟩
  have b0:=a9 l.length l.length .i64
  rw [RD (by omega)] at b0
  rw [aD,Cr]
  simp [je,b0,-ag]
 | succ c ih=>
  intro i A x m hi hA hx hm
  obtain ⟨m,rfl⟩:∃j,m=j+1:=⟨m-1,by omega⟩
  have hil':i<l.length:=by omega
  rw [Sw hil']
  simp only [rF]
  have hr:=Hw hb hv hlv hA hx hil' hil
  rw [aD,Cr]
  cases hs:eO T x l[i] with
  | none=>
   rw [hs] at hr
   obtain ⟨σ,B,h1,h2⟩:=hr
   rw [Um,h1]
   exact ⟨σ,B,rfl,h2⟩
  | some y=>
   rw [hs] at hr
   obtain ⟨B,h1,h2⟩:=hr
   rw [Sn,h1]
   exact ih (i+1) B y m (by omega) h2 (hx.step hv hs) (by omega)
theorem x7 (A:ac) (z:Int) (b:Bool):frz A 4 (.tup [.int .i64 z,.bool b])=.tup [.int .i64 z,.bool b]:=rfl
def Cx (r:Option Int):AV:=.tup [.int .i64 (r.getD 0),.bool r.isSome]
theorem s4 {T:aT} {rdv:AV} (hb:SlA 2 (T.ch.map chA) chv) (hl:T.ch.length<=200) (hr:SlA 1 (aj rd) rdv) (hrl:rd.length<=200) (free:Int) {l:List cO} (hlv:SlA 2 (l.map aL) lv) (hll:l.length<=200):M17 [af T chv,rdv,.int .i64 free,lv]=some (Cx (fP T rd free l)):=by
 have m:=C2 hb hl hr hrl free
 have ft:=fun A=>aK (T:=T) (fun A n=>hb.frz (A:=A) n) A 3
 have fr:∀A n,frz A n rdv=rdv:=fun A n=>hr.frz n
 have bx:aS 5 (af T chv) []=some (.ptr 0 0 0,[.row 5 false [af T chv]]):=rfl
 have ct:(cellsOf (af T chv)).length=5:=rfl
 obtain ⟨A0,hA0⟩:∃A:ac,A=[.row 5 false [af T chv]]:=⟨_,rfl⟩
 have lt:ab true 5 A0 (.ptr 0 0 0)=some (af T chv):=by rw [hA0]; rfl
 have hll2:=hlv.len
 rw [RN] at hll2
 have hA0':=hA0
 obtain ⟨t,ht⟩:∃t,t=af T chv:=⟨_,rfl⟩
 rw [<-ht] at m ft bx ct lt hA0 ⊢
 rw [<-hA0] at bx
 unfold M17
 rw [aN _ _ rfl]
 unfold fP
 by_cases hS:Sit T rd free
 rotate_left
 ·rw [RD hS] at m
  rw [RK hS]
  simp [J0,m,ft,fr,bx,ct,lt,aM,x7,dE,Cx,-aS,-ab,-aq,-frz,-cellsOf]
 rw [RE hS] at m
 rw [RH hS]
 have hv:=hS.1.1
 have hsl:=gE hS
 have hne:rd≠[]:=by intro e; rw [e] at hsl; simp at hsl
 have hcl:=Cy.MP (aw GC []) 0 (A:=A0) (a:=rdv) (xs:=rd) (.inl hr) hne (by omega)
 have hA2:A17 (A0++[.dead,.row 1 false (aj rd)]) T chv rd:=by
  rw [hA0']
  exact ⟨rfl,rfl,by simp⟩
 have hx:OkS T (st0 rd free):=⟨hS.2.1,by simp [st0],by have:=hS.2.2.1; simp only [st0]; omega,fun z hz=>by have:=hS.2.2.2 z hz; omega⟩
 have hlp:=Kd hb hv hlv hll l.length 0 _ (st0 rd free) 300 (by omega) hA2 hx (by omega)
 have hA0l:A0.length=1:=by rw [hA0]; rfl
 rw [hA0l] at hcl
 generalize hA1:A0++[.dead,.row 1 false (aj rd)]=A1 at *
 rw [RT] at hlp
 rw [hS.2.1] at hcl
 cases hc:rF T (st0 rd free) l with
 | some y=>
  rw [hc] at hlp
  obtain ⟨B,hlp⟩:=hlp
  simp only [st0] at hlp
  have hlp:bM (evC (aw GC oy) 300 je) il 300 (uf (.ptr 0 0 0) (.sl 2 0 T.ch.length) (.int .i64 (-2)) (.int .i64 free) lv (.int .i64 (l.length:Int)) (.int .i64 0)) A1=_:=hlp
  simp [J0,m,ft,fr,bx,ct,lt,hcl,hll2,Fs hlp,aM,x7,dE,Cx,-aS,-ab,-aq,-frz,-cellsOf]
 | none=>
  rw [hc] at hlp
  obtain ⟨σ,B,hlp,h5,h6⟩:=hlp
  simp only [st0] at hlp
  have hlp:bM (evC (aw GC oy) 300 je) il 300 (uf (.ptr 0 0 0) (.sl 2 0 T.ch.length) (.int .i64 (-2)) (.int .i64 free) lv (.int .i64 (l.length:Int)) (.int .i64 0)) A1=_:=hlp
  simp [J0,m,ft,fr,bx,ct,lt,hcl,hll2,Fs hlp,h5,h6,aM,x7,dE,Cx,-aS,-ab,-aq,-frz,-cellsOf]
end Tr
namespace Tr
open Go
open Cy (GC aM bc aA br db lvM lvT)
open Clu (aT aY af chA aK aZ bD bA bL dP cK bK ss fh)
structure Tl (A:ac) (T:aT) (chv chF:AV):Prop where
 h:de A 2 chv (T.ch.map chA)
 fz:∀X,frz (A++X) 4 (af T chv)=af T chF
 sF:SlA 2 (T.ch.map chA) chF
theorem cS (A X:ac):∀id,id<A.length->(A++X)[id]?=A[id]?:=fun id h=>by rw [RC h]
theorem _root_.Go.Proofs.Ytkcjhljbgjpklaa.de.app {xs:List AV} (h:de A e a xs) (X:ac):de (A++X) e a xs:=by
 rcases h with h | ⟨id,off,gr,es,rfl,h1,h2⟩
 ·exact .inl h
 ·exact .inr ⟨id,off,gr,es,rfl,by rw [cS A X id (Rv.1 h1).1,h1],h2⟩
theorem dz {id off:Nat} {g:Bool} {xs:List AV} (h:A[id]?=some (.row e g es)) (h2:(es.drop off).take xs.length=xs) (hx:∀n,∀x∈xs,frz A (n+1) x=x) (n:Nat):frz A (n+2) (.sl id off xs.length)=.fs e xs:=by
 simp only [frz,h,h2]
 congr 1
 conv=>rhs; rw [<-List.map_id xs]
 exact Sb fun x hm=>hx n x hm
theorem Tl.of {A:ac} {T:aT} (h:de A 2 chv (T.ch.map chA)):∃chF,Tl A T chv chF:=by
 rcases h with h | ⟨id,off,gr,es,rfl,h1,h2⟩
 ·exact ⟨chv,.inl h,fun X=>aK (fun A n=>h.frz (A:=A) n) _ 3,h⟩
 ·refine ⟨.fs 2 (T.ch.map chA),.inr ⟨id,off,gr,es,rfl,h1,h2⟩,fun X=>?_,.inr rfl⟩
  have h1':(A++X)[id]?=some (.row 2 gr es):=by rw [cS A X id (Rv.1 h1).1,h1]
  have e:frz (A++X) 3 (.sl id off (T.ch.map chA).length)=.fs 2 (T.ch.map chA):=dz h1' h2 (fun n x hx=>by
   obtain ⟨c,_,rfl⟩:=Sa.1 hx
   cases n <;> rfl) 1
  show AV.agg [frz (A++X) 3 (.sl id off (T.ch.map chA).length),_,_,_,_]=_
  rw [e]; rfl
theorem Tl.ix {T:aT} {chF:AV} (h:Tl A T chv chF) (hk:k<T.ch.length):∃p q,∀X,ae 2 (A++X) chv (.int .i64 (k:Int))=some p/\aa 0 (A++X) p=some p/\ab false 1 (A++X) p=some (.int .i64 (tmT T k))/\aa 1 (A++X) p=some q/\ab false 1 (A++X) q=some (.int .i64 (syT T k)):=by
 rcases h.h with h | ⟨id,off,gr,es,rfl,h1,h2⟩
 ·exact ⟨.fp [.int .i64 (tmT T k),.int .i64 (syT T k)],.fp [.int .i64 (syT T k)],fun X=>⟨wL h hk _ _,rfl,rfl,rfl,rfl⟩⟩
 ·have e:es[off+k]?=some (chA (T.ch.getD k (0,0))):=by
   have:((es.drop off).take (T.ch.map chA).length)[k]?=(T.ch.map chA)[k]?:=by rw [h2]
   rw [TH,RH (by simpa using hk),SQ] at this
   rw [this]
   simp [Rx hk]
  refine ⟨.ptr id (off+k) 0,.ptr id (off+k) 1,fun X=>?_⟩
  have h1':(A++X)[id]?=some (.row 2 gr es):=by rw [cS A X id (Rv.1 h1).1,h1]
  refine ⟨?_,?_,?_,?_,?_⟩
  ·simp only [ae,h1',RN]
   rw [RH ⟨trivial,by omega,by omega,by omega⟩]
   simp
  ·simp [aa,h1']
  ·simp only [ab,h1',e]; rfl
  ·simp [aa,h1']
  ·simp only [ab,h1',e]; rfl
def lk (k:Int):List (Int × Int)->Option Int
 | []=>none
 | x :: r=>if k=x.1 then some x.2 else lk k r
def kvU (t v:Int):List (Int × Int)->List (Int × Int)
 | []=>[(t,v)]
 | x :: r=>if t=x.1 then (t,v) :: r else x :: kvU t v r
theorem E4 (t v k:Int):∀l:List (Int × Int),lk k (kvU t v l)=if k=t then some v else lk k l
 | []=>by simp [kvU,lk]
 | x :: r=>by
  unfold kvU
  by_cases h:t=x.1
  ·rw [RH h]
   simp only [lk]
   by_cases h2:k=t
   ·rw [RH h2,RH h2]
   ·rw [RK h2,RK h2,RK (by omega)]
  ·rw [RK h]
   simp only [lk,E4 t v k r]
   by_cases h2:k=x.1
   ·rw [RH h2,RH h2,RK (by omega)]
   ·rw [RK h2,RK h2]
def kvA (x:Int × Int):AV × AV:=(.int .i64 x.1,.int .i64 x.2)
theorem tL (k:Int):∀(l:List (Int × Int)) (n:Nat),(lk k l=none/\iy (.int .i64 k) (l.map kvA) n=some none/\∀v,l++[(k,v)]=kvU k v l) \/
  ∃j v,lk k l=some v/\iy (.int .i64 k) (l.map kvA) n=some (some (n+j,.int .i64 v))/\∀w,l.set j (k,w)=kvU k w l
 | [],n=>.inl ⟨rfl,rfl,fun _=>rfl⟩
 | x :: r,n=>by
  by_cases h:k=x.1
  ·refine .inr ⟨0,x.2,by simp [lk,h],?_,fun w=>by simp [kvU,h]⟩
   simp [iy,kvA,ox,h]
  ·have hne:(k == x.1)=false:=by simpa using h
   rcases tL k r (n+1) with ⟨h1,h2,h3⟩ | ⟨j,v,h1,h2,h3⟩
   ·refine .inl ⟨by simp [lk,h,h1],?_,fun v=>by simp [kvU,h,h3 v]⟩
    simp only [SG,iy,kvA,ox,SX,hne]
    exact h2
   ·refine .inr ⟨j+1,v,by simp [lk,h,h1],?_,fun w=>by simp [kvU,h,h3 w]⟩
    simp only [SG,iy,kvA,ox,SX,hne]
    rw [show n+(j+1)=n+1+j by omega]
    exact h2
theorem HO {id:Nat} {l:List (Int × Int)} (h:A[id]?=some (.map (l.map kvA))) (k:Int):cH true (.int .i64 0) A (.map id) (.int .i64 k)=some (match lk k l with | some v=>.tup [.int .i64 v,.bool true] | none=>.tup [.int .i64 0,.bool false]):=by
 simp only [cH,h]
 rcases tL k l 0 with ⟨h1,h2,_⟩ | ⟨j,v,h1,h2,_⟩
 ·rw [h1,h2]; rfl
 ·rw [h1,h2]; rfl
theorem map_set {id:Nat} {l:List (Int × Int)} (h:A[id]?=some (.map (l.map kvA))) (k v:Int):bQ A (.map id) (.int .i64 k) (.int .i64 v)=some (A.set id (.map ((kvU k v l).map kvA))):=by
 simp only [bQ,h]
 rcases tL k l 0 with ⟨h1,h2,h3⟩ | ⟨j,w,h1,h2,h3⟩
 ·rw [h2,<-h3 v]
  simp [kvA]
 ·rw [h2,<-h3 v,Tp]
  simp [kvA]
def XA (n0:Nat) (tv:AV) (L:List br) (kvs:List (Int × Int)):ac:=
 if L=[] then [.row 5 false [tv],.row 1 false [.nilS],.map (kvs.map kvA)]
 else [.row 5 false [tv],.row 1 false [.sl (n0+3) 0 L.length],.map (kvs.map kvA),.row 4 (decide (1<L.length)) (L.map db)]
def H60:aJ:=fun _=>cc (aw GC []) 0 MA
theorem Jn:au Try.prog GC 60 H60:=(b7 (ay aB) rfl at60 K5 bG.nil).y
section
variable {A:ac} {T:aT} {chv chF tv:AV} {L:List br} {kvs:List (Int × Int)}
theorem bp (A X:ac) (i:Nat):(A++X)[A.length+i]?=X[i]?:=by
 rw [RS (by omega),Sx]
theorem xa0:(A++XA A.length tv L kvs)[A.length]?=some (.row 5 false [tv]):=by
 have:=bp A (XA A.length tv L kvs) 0
 rw [Sy] at this
 rw [this]; unfold XA; split <;> rfl
theorem xa2:(A++XA A.length tv L kvs)[A.length+2]?=some (.map (kvs.map kvA)):=by
 rw [bp]; unfold XA; split <;> rfl
theorem Gg (h:be) {xs:List br} (hx:xs≠[]) (h1:L=[]->xs.length=1) (hb:L.length+xs.length<=1000) :
  H60 h [.fs 4 (xs.map db),.ptr (A.length+1) 0 0] (A++XA A.length tv L kvs)=some (.tup [],A++XA A.length tv (L++xs) kvs):=by
 have hxl:0<xs.length:=Tn.2 hx
 have hne:L++xs≠[]:=by simp [hx]
 by_cases hL:L=[]
 ·subst hL
  have hx1:=h1 rfl
  have e0:A++XA A.length tv [] kvs=A++[.row 5 false [tv],.row 1 false [.nilS],.map (kvs.map kvA)]:=by unfold XA; rw [RH rfl]
  have e9:A++XA A.length tv ([]++xs) kvs=A++[.row 5 false [tv],.row 1 false [.sl (A.length+3) 0 xs.length],.map (kvs.map kvA),.row 4 false (xs.map db)]:=by
   unfold XA; rw [RK (by simpa using hx),S7,hx1]; rfl
  rw [e0,e9]
  obtain ⟨A0,hA0⟩:∃X,X=A++[Ent.row 5 false [tv],.row 1 false [.nilS],.map (kvs.map kvA)]:=⟨_,rfl⟩
  have hl:A0.length=A.length+3:=by rw [hA0]; simp
  have l1:ab false 1 A0 (.ptr (A.length+1) 0 0)=some .nilS:=by
   have:A0[A.length+1]?=some (.row 1 false [.nilS]):=by rw [hA0,bp]; rfl
   simp only [ab,this]; rfl
  have a1:aR 4 32 A0 .nilS (.fs 4 (xs.map db))=some (.sl (A.length+3) 0 xs.length,A0++[.row 4 false (xs.map db)]):=by
   simp only [aR,dr,RN]
   rw [RK (by omega),RH ⟨by omega,by omega,by omega⟩,hl]
  have s1:az 1 (A0++[.row 4 false (xs.map db)]) (.ptr (A.length+1) 0 0) (.sl (A.length+3) 0 xs.length)=some (A++[.row 5 false [tv],.row 1 false [.sl (A.length+3) 0 xs.length],.map (kvs.map kvA),.row 4 false (xs.map db)]):=by
   have e:A0++[Ent.row 4 false (xs.map db)]=A++[.row 5 false [tv],.row 1 false [.nilS],.map (kvs.map kvA),.row 4 false (xs.map db)]:=by rw [hA0,R1]; rfl
   rw [e]
   have:(A++[Ent.row 5 false [tv],.row 1 false [.nilS],.map (kvs.map kvA),.row 4 false (xs.map db)])[A.length+1]?=some (.row 1 false [.nilS]):=by rw [bp]; rfl
   simp only [az,this]
   simp [AV.solid,cellsOf,bq]
  rw [<-hA0]
  unfold H60
  rw [bh _ _ rfl]
  simp [MA,l1,a1,s1,-ab,-az]
 ·have hlz:L.length≠0:=fun e=>hL (Si.1 e)
  have e0:A++XA A.length tv L kvs=A++[.row 5 false [tv],.row 1 false [.sl (A.length+3) 0 L.length],.map (kvs.map kvA),.row 4 (decide (1<L.length)) (L.map db)]:=by unfold XA; rw [RK hL]
  have e9:A++XA A.length tv (L++xs) kvs=A++[.row 5 false [tv],.row 1 false [.sl (A.length+3) 0 (L.length+xs.length)],.map (kvs.map kvA),.row 4 true (L.map db++xs.map db)]:=by
   unfold XA; rw [RK hne,RU,RE (by omega),SH]
  rw [e0,e9]
  obtain ⟨A0,hA0⟩:∃X,X=A++[Ent.row 5 false [tv],.row 1 false [.sl (A.length+3) 0 L.length],.map (kvs.map kvA),.row 4 (decide (1<L.length)) (L.map db)]:=⟨_,rfl⟩
  have l1:ab false 1 A0 (.ptr (A.length+1) 0 0)=some (.sl (A.length+3) 0 L.length):=by
   have:A0[A.length+1]?=some (.row 1 false [.sl (A.length+3) 0 L.length]):=by rw [hA0,bp]; rfl
   simp only [ab,this]; rfl
  have r3:A0[A.length+3]?=some (.row 4 (decide (1<L.length)) (L.map db)):=by rw [hA0,bp]; rfl
  have a1:aR 4 32 A0 (.sl (A.length+3) 0 L.length) (.fs 4 (xs.map db))=some (.sl (A.length+3) 0 (L.length+xs.length),A0.set (A.length+3) (.row 4 true (L.map db++xs.map db))):=by
   simp only [aR,dr,RN,r3]
   rw [RH ⟨trivial,by omega,by omega,by omega⟩,RH ⟨trivial,trivial,hlz⟩]
  have eS:A0.set (A.length+3) (.row 4 true (L.map db++xs.map db))=A++[.row 5 false [tv],.row 1 false [.sl (A.length+3) 0 L.length],.map (kvs.map kvA),.row 4 true (L.map db++xs.map db)]:=by
   rw [hA0,R8 _ _ (by omega),Sx]; rfl
  have s1:az 1 (A0.set (A.length+3) (.row 4 true (L.map db++xs.map db))) (.ptr (A.length+1) 0 0) (.sl (A.length+3) 0 (L.length+xs.length))=some (A++[.row 5 false [tv],.row 1 false [.sl (A.length+3) 0 (L.length+xs.length)],.map (kvs.map kvA),.row 4 true (L.map db++xs.map db)]):=by
   rw [eS]
   have:(A++[Ent.row 5 false [tv],.row 1 false [.sl (A.length+3) 0 L.length],.map (kvs.map kvA),.row 4 true (L.map db++xs.map db)])[A.length+1]?=some (.row 1 false [.sl (A.length+3) 0 L.length]):=by rw [bp]; rfl
   simp only [az,this]
   simp [AV.solid,cellsOf,bq]
  rw [<-hA0]
  unfold H60
  rw [bh _ _ rfl]
  simp [MA,l1,a1,s1,-ab,-az]
theorem I5 (k v:Int):bQ (A++XA A.length tv L kvs) (.map (A.length+2)) (.int .i64 k) (.int .i64 v)=some (A++XA A.length tv L (kvU k v kvs)):=by
 rw [map_set xa2]
 congr 1
 rw [R8 _ _ (by omega),Sx]
 unfold XA
 split <;> rfl
theorem vW (hc:(chv=.nilS\/(∃e l,chv=.fs e l))\/∃a b c,chv=.sl a b c):ab true 5 (A++XA A.length (af T chv) L kvs) (.ptr A.length 0 0)=some (af T chv) /\
  aa 0 (A++XA A.length (af T chv) L kvs) (.ptr A.length 0 0)=some (.ptr A.length 0 0)/\ab false 1 (A++XA A.length (af T chv) L kvs) (.ptr A.length 0 0)=some chv /\
  aa 3 (A++XA A.length (af T chv) L kvs) (.ptr A.length 0 0)=some (.ptr A.length 0 3)/\ab false 1 (A++XA A.length (af T chv) L kvs) (.ptr A.length 0 3)=some (.int .i64 T.travel):=by
 have h:=xa0 (A:=A) (tv:=af T chv) (L:=L) (kvs:=kvs)
 refine ⟨?_,?_,?_,?_,?_⟩
 ·simp only [ab,h]; rfl
 ·simp only [aa,h]; rfl
 ·simp only [ab,h]
  rcases hc with (rfl | ⟨e,l,rfl⟩) | ⟨a,b,c,rfl⟩ <;> rfl
 ·simp only [aa,h]; rfl
 ·simp only [ab,h]; rfl
end
theorem _root_.Go.Proofs.Ytkcjhljbgjpklaa.de.form {xs:List AV} (h:de A e a xs):(a=.nilS\/(∃e l,a=.fs e l))\/∃x y z,a=.sl x y z:=by
 rcases h with (⟨rfl,_⟩ | rfl) | ⟨id,off,gr,es,rfl,_⟩
 ·exact .inl (.inl rfl)
 ·exact .inl (.inr ⟨_,_,rfl⟩)
 ·exact .inr ⟨_,_,_,rfl⟩
end Tr
namespace Tr
open Go
open Cy (GC aM bc aA br db lvM lvT)
open Clu (aT aY af chA aK aZ bD bA cB bL dP cK bK ss fh)
def MT:MC:=.seq (.region [.a 12,.s 0 1,.c 13 1]) (.seq (.region [.a 1,.a 13,.e 1 0 1,.b 1 2,.f 14 0,.c 15 3]) (.seq (.seq (.region [.a 9,.a 13,.qn (.lookup 1 true (.int .i64 0) (.tmp 0) (.tmp 1)),.h 2,.j 3 0,.j 3 1,.c 16 4,.c 17 5]) (.seq (.region [.ai 28 17]) (.cond (.var 28) (.region [.a 16,.a 10,.d 0 4,.b 1 2,.a 13,.e 2 3 4,.m 0 5,.b 1 6,.o 1 7,.c 14 0,.c 15 8]) .skip))) (.seq (.region [.a 8,.a 14,.a 11,.i 2 1,.a 15,.S 1 3 4,.a 11,.i 6 1,.a 14,.a 15,.d 0 4,.b 1 10,.a 13,.e 2 11 12,.m 1 13,.b 1 14,.o 9 15,.bn 16,.S 7 8 17,.c2 5 18,.az 0 19]) (.region [.a 9,.a 12,.a 11,.i 2 1,.bu 0 1 3]))))
theorem sn:dV=.seq (.region [.B 26 25 24]) (.seq (.cond (.var 26) .skip (.exit 0)) (.seq (.seq (.block 1 (.seq (.region [.a 25,.M 1 23 25,.b 1 1,.c 11 0,.c 12 2]) (.seq (.seq (.region [.a 11,.aj 27 0 0]) (.cond (.var 27) (.region [.a 8,.a 2,.d 3 4,.b 1 2,.o 1 3,.a0 4,.cn 5,.az 0 6]) (.region [.a 8,.a 11,.a 11,.i 2 1,.a 10,.l 5 4,.a 3,.a 11,.s 7 1,.e 1 6 8,.b 1 9,.a 12,.P 41 5 10 11,.o 4 12,.S 1 3 13,.cn 14,.az 0 15]))) MT))) (.kill [0,5,6,11,12,13,14,15,16,17,18,19,20,21,22,26,27,28,29,30,31,32,33])) (.region [.u 25 1,.c 25 0]))):=rfl
def wU:List (FuncId × aJ):=[(60,H60),(41,aG 4 M41),(42,aG 4 M42),(46,Cy.H14)]
@[simp] theorem Oi:aE wU 60=some H60:=rfl
@[simp] theorem Ol:aE wU 41=some (aG 4 M41):=rfl
@[simp] theorem Ok:aE wU 42=some (aG 4 M42):=rfl
@[simp] theorem Oj:aE wU 46=some Cy.H14:=rfl
theorem G2:∀f M,aE wU f=some M->au Try.prog GC f M:=ai Jn (ai (au.of_pure pO 4) (ai (au.of_pure rW 4) (ai Cy.nM aB)))
theorem pu34:bG (aw GC wU) [41]:=by
 first | exact bG.nil | (repeat (first | exact bG.nil | refine bG.cons (M:=_) rfl ?_))
def H34:aJ:=fun _=>cc (aw GC wU) 300 vT
theorem pQ:au Try.prog GC 34 H34:=(b7 (ay G2) rfl IY sP pu34).y
abbrev s34 (n0:Nat) (rdv:AV) (free:Int) (ov:AV) (W:Int) (m i:Nat):List AV:=
 iJ rdv (.int .i64 free) ov (.ptr n0 0 0) (.ptr (n0+1) 0 0) (.func (.func 60) [] [.ptr (n0+1) 0 0]) (.map (n0+2)) (.int .i64 W) ov (.int .i64 (m:Int)) (.int .i64 (i:Int))
def a1F (T:aT) (rd:List Int) (a:Nat->Option Nat) (i k:Nat):br:=⟨((gu T rd a k).1:Int),(i:Int)+1,(gu T rd a k).2,0⟩
def a2F (T:aT) (rd:List Int) (a:Nat->Option Nat) (i k:Nat):br:=⟨(i:Int)+1,((gu T rd a k).1:Int),-((gu T rd a k).2+syT T k),0⟩
section
variable {A:ac} {T:aT} {chv chF rdv:AV} {rd:List Int} {free:Int} {L:List br} {kvs:List (Int × Int)} {a:Nat->Option Nat}
theorem M9 (hT:Tl A T chv chF) (hv:aY T) (hr:de A 1 rdv (aj rd)) (hrd:∀k,-1<=rd.getD k 0/\rd.getD k 0<=500000) (hrl:rd.length=T.ch.length) {i:Nat} (hk:k<T.ch.length) (hi:i<=100) (hkv:∀k:Nat,lk k kvs=(a k).map fun p=>(p:Int)) (hL:L.length<=500) (hLne:L≠[])
  (v0 v2 v3 v5 v6 _v8 v13 v14 v15 v16 v17 v18 v19 v20 v21 v22 v23 v24 v25 v26 v27 v28 v29 v30 v31 v32 v33:AV) :
  ∃e13 e14 e15 e16 e17 e28,∀K,run (aw GC wU) 300 (.code MT :: K) [v0,rdv,v2,v3,.ptr A.length 0 0,v5,v6,.ptr (A.length+1) 0 0,.func (.func 60) [] [.ptr (A.length+1) 0 0],.map (A.length+2),.int .i64 (wT T),.int .i64 (i:Int),.int .i64 ((k:Int)+1),v13,v14,v15,v16,v17,v18,v19,v20,v21,v22,v23,v24,v25,v26,v27,v28,v29,v30,v31,v32,v33] (A++XA A.length (af T chv) L kvs) =
   run (aw GC wU) 300 K [v0,rdv,v2,v3,.ptr A.length 0 0,v5,v6,.ptr (A.length+1) 0 0,.func (.func 60) [] [.ptr (A.length+1) 0 0],.map (A.length+2),.int .i64 (wT T),.int .i64 (i:Int),.int .i64 ((k:Int)+1),e13,e14,e15,e16,e17,v18,v19,v20,v21,v22,v23,v24,v25,v26,v27,e28,v29,v30,v31,v32,v33] (A++XA A.length (af T chv) (L++[a1F T rd a i k,a2F T rd a i k]) (kvU ((k:Int)+1) ((i:Int)+1) kvs)):=by
 have hw:=da hv
 have hc:=di hv k
 obtain ⟨pr,hpr⟩:=hr.int (B:=A++XA A.length (af T chv) L kvs) (cS A _) (i:=k) (by omega) .i64
 have hrk:rd[k]'(by omega)=rd.getD k 0:=by rw [Rw,Rx (by omega)]; rfl
 rw [hrk] at hpr
 obtain ⟨r1,r2⟩:=hpr
 obtain ⟨p,q,hpq⟩:=hT.ix hk
 have hrk:=hrd k
 have t0:=fun L kvs=>vW (A:=A) (T:=T) (L:=L) (kvs:=kvs) hT.h.form
 have g1:=HO (xa2 (A:=A) (tv:=af T chv) (L:=L) (kvs:=kvs)) (k:Int)
 rw [hkv k] at g1
 have u1:=fun L=>I5 (A:=A) (tv:=af T chv) (L:=L) (kvs:=kvs) ((k:Int)+1) ((i:Int)+1)
 have b1:ag .sub (.int .i64 ((k:Int)+1)) (.int .i64 1)=some (.int .i64 (k:Int)):=by
  have:=bD (a:=(k:Int)+1) (b:=1) (by have:=hv.2.2.2.1; omega)
  rw [this,show (k:Int)+1-1=k by omega]
 have b2:ag .add (.int .i64 (i:Int)) (.int .i64 1)=some (.int .i64 ((i:Int)+1)):=aZ (by omega)
 have b3:ag .add (.int .i64 (wT T)) (.int .i64 (tmT T k))=some (.int .i64 (wT T+tmT T k)):=aZ (by omega)
 have hcall:=Gg (A:=A) (tv:=af T chv) (L:=L) (kvs:=kvs) (fun _ _ _=>none) (xs:=[a1F T rd a i k,a2F T rd a i k]) (by simp) (fun h=>absurd h hLne) (by simp; omega)
 have hc1:=hpq (XA A.length (af T chv) L kvs)
 obtain ⟨i1,f0,l0,f1,l1⟩:=hc1
 obtain ⟨_,g3,g4,_,_⟩:=t0 L kvs
 cases hak:a k with
 | none=>
  rw [hak] at g1
  have es:gu T rd a k=(0,rd.getD k 0):=by unfold gu; rw [hak]
  have b4:ag .add (.int .i64 (rd.getD k 0)) (.int .i64 (syT T k))=some (.int .i64 (rd.getD k 0+syT T k)):=aZ (by omega)
  have b5:uV .neg (.int .i64 (rd.getD k 0+syT T k))=some (.int .i64 (-(rd.getD k 0+syT T k))):=dP (by omega)
  refine ⟨.int .i64 (k:Int),.int .i64 0,.int .i64 (rd.getD k 0),.int .i64 0,.bool false,.bool false,fun K=>?_⟩
  have hcall:H60 (fun _ _ _=>none) [.fs 4 [.agg [.int .i64 0,.int .i64 ((i:Int)+1),.int .i64 (rd.getD k 0),.int .i64 0],.agg [.int .i64 ((i:Int)+1),.int .i64 0,.int .i64 (-(rd.getD k 0+syT T k)),.int .i64 0]],.ptr (A.length+1) 0 0] (A++XA A.length (af T chv) L kvs)=some (.tup [],A++XA A.length (af T chv) (L++[a1F T rd a i k,a2F T rd a i k]) kvs):=by
   have e1:a1F T rd a i k=⟨0,(i:Int)+1,rd.getD k 0,0⟩:=by unfold a1F; rw [es]; rfl
   have e2:a2F T rd a i k=⟨(i:Int)+1,0,-(rd.getD k 0+syT T k),0⟩:=by unfold a2F; rw [es]; rfl
   rw [e1,e2] at hcall ⊢
   exact hcall
  have u1:=u1 (L++[a1F T rd a i k,a2F T rd a i k])
  generalize L++[a1F T rd a i k,a2F T rd a i k]=L2 at *
  generalize kvU ((k:Int)+1) ((i:Int)+1) kvs=kv2 at *
  generalize A++XA A.length (af T chv) L kvs=B0 at *
  generalize A++XA A.length (af T chv) L2 kvs=B1 at *
  generalize A++XA A.length (af T chv) L2 kv2=B2 at *
  generalize rd.getD k 0+syT T k=z1 at *
  generalize rd.getD k 0=z0 at *
  generalize -z1=z2 at *
  generalize (k:Int)+1=K1 at *
  generalize (i:Int)+1=I1 at *
  generalize hsl:bI 4 [.agg [.int .i64 0,.int .i64 I1,.int .i64 z0,.int .i64 0],.agg [.int .i64 I1,.int .i64 0,.int .i64 z2,.int .i64 0]]=sl at *
  have hsl':sl=some (.fs 4 [.agg [.int .i64 0,.int .i64 I1,.int .i64 z0,.int .i64 0],.agg [.int .i64 I1,.int .i64 0,.int .i64 z2,.int .i64 0]]):=by rw [<-hsl]; rfl
  rw [hsl'] at hsl
  simp [MT,r1,r2,g1,g3,g4,i1,f1,l1,b1,b2,b4,b5,hcall,hsl,u1,-ag,-ab,-aa,-ae,-bI,-uV,-cH,-bQ]
 | some pp=>
  rw [hak] at g1
  have g1:cH true (.int .i64 0) (A++XA A.length (af T chv) L kvs) (.map (A.length+2)) (.int .i64 (k:Int))=some (.tup [.int .i64 (pp:Int),.bool true]):=g1
  have es:gu T rd a k=(pp,wT T+tmT T k):=by unfold gu; rw [hak]
  have b4:ag .add (.int .i64 (wT T+tmT T k)) (.int .i64 (syT T k))=some (.int .i64 (wT T+tmT T k+syT T k)):=aZ (by omega)
  have b5:uV .neg (.int .i64 (wT T+tmT T k+syT T k))=some (.int .i64 (-(wT T+tmT T k+syT T k))):=dP (by omega)
  refine ⟨.int .i64 (k:Int),.int .i64 (pp:Int),.int .i64 (wT T+tmT T k),.int .i64 (pp:Int),.bool true,.bool true,fun K=>?_⟩
  have hcall:H60 (fun _ _ _=>none) [.fs 4 [.agg [.int .i64 (pp:Int),.int .i64 ((i:Int)+1),.int .i64 (wT T+tmT T k),.int .i64 0],.agg [.int .i64 ((i:Int)+1),.int .i64 (pp:Int),.int .i64 (-(wT T+tmT T k+syT T k)),.int .i64 0]],.ptr (A.length+1) 0 0] (A++XA A.length (af T chv) L kvs)=some (.tup [],A++XA A.length (af T chv) (L++[a1F T rd a i k,a2F T rd a i k]) kvs):=by
   have e1:a1F T rd a i k=⟨(pp:Int),(i:Int)+1,wT T+tmT T k,0⟩:=by unfold a1F; rw [es]
   have e2:a2F T rd a i k=⟨(i:Int)+1,(pp:Int),-(wT T+tmT T k+syT T k),0⟩:=by unfold a2F; rw [es]
   rw [e1,e2] at hcall ⊢
   exact hcall
  have u1:=u1 (L++[a1F T rd a i k,a2F T rd a i k])
  generalize L++[a1F T rd a i k,a2F T rd a i k]=L2 at *
  generalize kvU ((k:Int)+1) ((i:Int)+1) kvs=kv2 at *
  generalize A++XA A.length (af T chv) L kvs=B0 at *
  generalize A++XA A.length (af T chv) L2 kvs=B1 at *
  generalize A++XA A.length (af T chv) L2 kv2=B2 at *
  generalize rd.getD k 0=zr at *
  generalize wT T+tmT T k+syT T k=z1 at *
  generalize wT T+tmT T k=z0 at *
  generalize wT T=zw at *
  generalize tmT T k=zt at *
  generalize -z1=z2 at *
  generalize (k:Int)+1=K1 at *
  generalize (i:Int)+1=I1 at *
  generalize (pp:Int)=P1 at *
  have hsl:bI 4 [.agg [.int .i64 P1,.int .i64 I1,.int .i64 z0,.int .i64 0],.agg [.int .i64 I1,.int .i64 P1,.int .i64 z2,.int .i64 0]]=some (.fs 4 [.agg [.int .i64 P1,.int .i64 I1,.int .i64 z0,.int .i64 0],.agg [.int .i64 I1,.int .i64 P1,.int .i64 z2,.int .i64 0]]):=rfl
  simp [MT,r1,r2,g1,g3,g4,i1,f0,f1,l0,l1,b1,b2,b3,b4,b5,hcall,hsl,u1,-ag,-ab,-aa,-ae,-bI,-uV,-cH,-bQ]
end
end Tr
namespace Tr
open Go
open Cy (GC aM bc aA br db lvM lvT)
open Clu (aT aY af chA aK aZ bD bA cB bL dP cK bK ss fh)
section
variable {A:ac} {T:aT} {chv chF rdv ov:AV} {rd o:List Int} {free:Int} {L:List br} {kvs:List (Int × Int)} {a:Nat->Option Nat}
theorem wv (hT:Tl A T chv chF) (hS:Sit T rd free) (hr:de A 1 rdv (aj rd)) (ho:de A 1 ov (aj o)) {i:Nat} (hi:i<o.length) (hol:o.length<=100) (hok:o[i]=(k:Int)+1) (hk:k<T.ch.length) {last:Int} (hlast:i≠0->o.getD (i-1) 0=last) (hlb : -1000<=last/\last<=1000)
  (hkv:∀k:Nat,lk k kvs=(a k).map fun p=>(p:Int)) (hL:L.length=3*i) :
  run (aw GC wU) 300 [.code dV] (s34 A.length rdv free ov (wT T) o.length i) (A++XA A.length (af T chv) L kvs) =
   some (.normal (s34 A.length rdv free ov (wT T) o.length (i+1)) (A++XA A.length (af T chv) (L++[hdT T free i last ((k:Int)+1)]++[a1F T rd a i k,a2F T rd a i k]) (kvU ((k:Int)+1) ((i:Int)+1) kvs))):=by
 unfold s34
 have hv:=hS.1.1
 have hw:=da hv
 have hfr:=hS.2.2.1
 obtain ⟨e13,e14,e15,e16,e17,e28,hs⟩:=M9 (A:=A) (L:=L++[hdT T free i last ((k:Int)+1)]) (kvs:=kvs) (a:=a) hT hv hr (wC hS) hS.2.1 (i:=i) hk (by omega) hkv (by simp; omega) (by simp)
  .undef (.int .i64 free) ov .undef .undef (.func (.func 60) [] [.ptr (A.length+1) 0 0]) .undef .undef .undef .undef .undef .undef .undef .undef .undef .undef ov (.int .i64 (o.length:Int)) (.int .i64 (i:Int)) (.bool true) (.bool (decide (i=0))) .undef .undef .undef .undef .undef .undef
 obtain ⟨po,hpo1,hpo2⟩:=ho.int (B:=A++XA A.length (af T chv) L kvs) (cS A _) hi .i64
 rw [hok] at hpo2
 have b0:=a9 i o.length .i64
 rw [RE hi] at b0
 have b1:=aV i (by omega)
 have hbE:=bA (i:Int) 0
 have hbE:ag .eql (.int .i64 (i:Int)) (.int .i64 0)=some (.bool (decide (i=0))):=by
  rw [hbE]; congr 2; exact Tz.2 (by omega)
 obtain ⟨g1,g3,g4,g5,g6⟩:=vW (A:=A) (T:=T) (L:=L) (kvs:=kvs) hT.h.form
 have hcall:=Gg (A:=A) (tv:=af T chv) (L:=L) (kvs:=kvs) (fun _ _ _=>none) (xs:=[hdT T free i last ((k:Int)+1)]) (by simp) (fun _=>rfl) (by simp; omega)
 by_cases h0:i=0
 ·rw [RE h0] at hbE hs
  have ehd:hdT T free i last ((k:Int)+1)=⟨0,1,free+T.travel,0⟩:=by unfold hdT; rw [RH h0]
  rw [ehd] at hcall hs ⊢
  have b2:ag .add (.int .i64 free) (.int .i64 T.travel)=some (.int .i64 (free+T.travel)):=aZ (by omega)
  generalize L++[(⟨0,1,free+T.travel,0⟩:br)]=L1 at *
  generalize L1++[a1F T rd a i k,a2F T rd a i k]=L2 at *
  generalize kvU ((k:Int)+1) ((i:Int)+1) kvs=kv2 at *
  obtain ⟨i1,hi1⟩:∃i1:Nat,i1=i+1:=⟨_,rfl⟩
  rw [<-hi1] at b1 ⊢
  generalize A++XA A.length (af T chv) L kvs=B0 at *
  generalize A++XA A.length (af T chv) L1 kvs=B1 at *
  generalize A++XA A.length (af T chv) L2 kv2=B2 at *
  have hcall:H60 (fun _ _ _=>none) [.fs 4 [.agg [.int .i64 0,.int .i64 1,.int .i64 (free+T.travel),.int .i64 0]],.ptr (A.length+1) 0 0] B0=some (.tup [],B1):=hcall
  generalize free+T.travel=z1 at *
  generalize (k:Int)+1=K1 at *
  generalize (i:Int)=I0 at *
  generalize (i1:Int)=I1 at *
  have hsl:bI 4 [.agg [.int .i64 0,.int .i64 1,.int .i64 z1,.int .i64 0]]=some (.fs 4 [.agg [.int .i64 0,.int .i64 1,.int .i64 z1,.int .i64 0]]):=rfl
  rw [sn]
  simp [hpo1,hpo2,b0,b1,b2,hbE,g5,g6,hcall,hsl,hs,-ag,-ab,-aa,-ae,-bI]
 ·rw [RD h0] at hbE hs
  have ehd:hdT T free i last ((k:Int)+1)=⟨(i:Int),(i:Int)+1,wT T+btw T last ((k:Int)+1),0⟩:=by unfold hdT; rw [RK h0]
  rw [ehd] at hcall hs ⊢
  have m:=yF (T:=T) chF last ((k:Int)+1) hlb
  have hf:=hT.fz (XA A.length (af T chv) L kvs)
  have hbt:=mN hv last ((k:Int)+1)
  obtain ⟨pl,hpl1,hpl2⟩:=ho.int (B:=A++XA A.length (af T chv) L kvs) (cS A _) (i:=i-1) (by omega) .i64
  have hlo:o[i-1]'(by omega)=last:=by
   rw [<-hlast h0,Rw,Rx (by omega)]; rfl
  rw [hlo] at hpl2
  have b3:ag .sub (.int .i64 (i:Int)) (.int .i64 1)=some (.int .i64 ((i-1:Nat):Int)):=by
   rw [bD (by omega),show ((i-1:Nat):Int)=(i:Int)-1 by omega]
  have b2:ag .add (.int .i64 (wT T)) (.int .i64 (btw T last ((k:Int)+1)))=some (.int .i64 (wT T+btw T last ((k:Int)+1))):=aZ (by omega)
  have b4:ag .add (.int .i64 (i:Int)) (.int .i64 1)=some (.int .i64 ((i:Int)+1)):=aZ (by omega)
  generalize L++[(⟨(i:Int),(i:Int)+1,wT T+btw T last ((k:Int)+1),0⟩:br)]=L1 at *
  generalize L1++[a1F T rd a i k,a2F T rd a i k]=L2 at *
  generalize kvU ((k:Int)+1) ((i:Int)+1) kvs=kv2 at *
  obtain ⟨i1,hi1⟩:∃i1:Nat,i1=i+1:=⟨_,rfl⟩
  have hi1':(i:Int)+1=(i1:Int):=by omega
  rw [<-hi1] at b1 ⊢
  generalize A++XA A.length (af T chv) L kvs=B0 at *
  generalize A++XA A.length (af T chv) L1 kvs=B1 at *
  generalize A++XA A.length (af T chv) L2 kv2=B2 at *
  have hcall:H60 (fun _ _ _=>none) [.fs 4 [.agg [.int .i64 (i:Int),.int .i64 ((i:Int)+1),.int .i64 (wT T+btw T last ((k:Int)+1)),.int .i64 0]],.ptr (A.length+1) 0 0] B0=some (.tup [],B1):=hcall
  rw [hi1'] at hcall b4
  generalize wT T+btw T last ((k:Int)+1)=z1 at *
  generalize btw T last ((k:Int)+1)=zb at *
  generalize wT T=zw at *
  generalize af T chv=tv at *
  generalize af T chF=tF at *
  generalize (k:Int)+1=K1 at *
  generalize ((i-1:Nat):Int)=J at *
  generalize (i:Int)=I0 at *
  generalize (i1:Int)=I1 at *
  have hsl:bI 4 [.agg [.int .i64 I0,.int .i64 I1,.int .i64 z1,.int .i64 0]]=some (.fs 4 [.agg [.int .i64 I0,.int .i64 I1,.int .i64 z1,.int .i64 0]]):=rfl
  rw [sn]
  simp [hpo1,hpo2,hpl1,hpl2,b0,b1,b2,b3,hbE,g1,m,hf,hcall,hsl,hs,aM,-ag,-ab,-aa,-ae,-bI,-frz]
def Fa:Nat->List (Int × Int)->List Int->List (Int × Int)
 | _,kvs,[]=>kvs
 | i,kvs,t :: r=>Fa (i+1) (kvU t ((i:Int)+1) kvs) r
theorem J6 (hT:Tl A T chv chF) (hS:Sit T rd free) (hr:de A 1 rdv (aj rd)) (ho:de A 1 ov (aj o)) (hol:o.length<=100) (hob:∀t∈o,1<=t/\t<=T.ch.length):∀(c i:Nat) (last:Int) (L:List br) (kvs:List (Int × Int)) (a:Nat->Option Nat) (m:Nat),i+c=o.length->(i≠0->o.getD (i-1) 0=last)->(-1000<=last/\last<=1000) ->
  (∀k:Nat,lk k kvs=(a k).map fun p=>(p:Int))->L.length=3*i->c<m ->
  bM (evC (aw GC wU) 300 dV) dR m (s34 A.length rdv free ov (wT T) o.length i) (A++XA A.length (af T chv) L kvs) =
   some (.exit 0 ((s34 A.length rdv free ov (wT T) o.length o.length).set 26 (.bool false)) (A++XA A.length (af T chv) (L++gh T rd free i last a (o.drop i)) (Fa i kvs (o.drop i)))):=by
 intro c
 induction c with
 | zero=>
  intro i last L kvs a m hi _ _ _ _ hm
  obtain ⟨m,rfl⟩:∃j,m=j+1:=⟨m-1,by omega⟩
  obtain rfl:i=o.length:=by omega
  rw [SP]
  simp only [gh,Fa,Sk]
  have b0:=a9 o.length o.length .i64
  rw [RD (by omega)] at b0
  rw [aD,qP]
  simp [dV,b0,-ag]
 | succ c ih=>
  intro i last L kvs a m hi h1 h2 h3 h4 hm
  obtain ⟨m,rfl⟩:∃j,m=j+1:=⟨m-1,by omega⟩
  have hil:i<o.length:=by omega
  have hb:=hob _ (RM hil)
  obtain ⟨k,hk⟩:∃k:Nat,o[i]=(k:Int)+1:=⟨(o[i]-1).toNat,by omega⟩
  have hr34:=wv (a:=a) hT hS hr ho hil hol hk (by omega) h1 h2 h3 h4
  rw [aD,qP,hr34]
  have:=ih (i+1) ((k:Int)+1) (L++[hdT T free i last ((k:Int)+1)]++[a1F T rd a i k,a2F T rd a i k]) (kvU ((k:Int)+1) ((i:Int)+1) kvs) (upd a (k+1) (i+1)) m (by omega) (fun _=>by
   rw [Nat.add_sub_cancel,Rw,Rx hil,hk]; rfl) (by have:=hS.1.1.2.2.2.1; omega) (fun j=>by
   rw [E4]
   unfold upd
   by_cases hj:j=k+1
   ·subst hj; rw [RH (by push_cast; rfl),RH rfl]; simp
   ·rw [RK (by omega),RK hj]; exact h3 j) (by simp; omega) (by omega)
  refine this.trans ?_
  have e1:((k:Int)+1-1).toNat=k:=by omega
  have e2:((k:Int)+1).toNat=k+1:=by omega
  rw [Sw hil,hk]
  simp only [gh,Fa,e1,e2]
  congr 4
  simp [a1F,a2F]
end
end Tr
namespace Tr
open Go
open Clu (aT aY)
open Cy (br)
theorem Mi {T:aT} {C:Int} (hC:0<=C) (h1:∀k,rd.getD k 0+syT T k<=C) (h2:∀k,wT T+tmT T k+syT T k<=C):∀(o:List Int) (i:Nat) (last:Int) (a:Nat->Option Nat),(∀k p,a k=some p->p<=i)->KX X (gh T rd free i last a o)->(∀p,p<=i->X p<=C*i)->∀j,j<=i+o.length->X j<=C*((i:Int)+o.length)
 | [],i,last,a,ha,hK,hi,j,hj=>by
  have:=hi j (by simpa using hj)
  simpa using this
 | t :: r,i,last,a,ha,hK,hi,j,hj=>by
  simp only [gh,kU] at hK
  obtain ⟨_,_,k3,k4⟩:=hK
  have e1:((i:Int)+1).toNat=i+1:=by omega
  simp only [e1,RW] at k3
  have hs:(gu T rd a (t-1).toNat).1<=i/\(gu T rd a (t-1).toNat).2+syT T (t-1).toNat<=C:=by
   unfold gu
   split
   ·rename_i p hp
    exact ⟨ha _ _ hp,h2 _⟩
   ·exact ⟨TJ _,h1 _⟩
  have hb:=hi _ hs.1
  have em:C*((i:Int)+1)=C*i+C:=by rw [Int.mul_add,Int.mul_one]
  have hi':∀p,p<=i+1->X p<=C*((i+1:Nat):Int):=by
   intro p hp
   push_cast
   rw [em]
   by_cases h:p=i+1
   ·subst h; omega
   ·have:=hi p (by omega); omega
  have:=Mi hC h1 h2 r (i+1) t (upd a t.toNat (i+1)) (fun k p hp=>by
   unfold upd at hp
   split at hp
   ·injection hp with hp; omega
   ·have:=ha k p hp; omega) k4 hi' j (by simp at hj; omega)
  have e2:((i+1:Nat):Int)+(r.length:Int)=(i:Int)+((t :: r).length:Int):=by push_cast [Sv]; omega
  rw [e2] at this
  exact this
theorem ub0 {T:aT} {C:Int} (hC:0<=C) (h1:∀k,rd.getD k 0+syT T k<=C) (h2:∀k,wT T+tmT T k+syT T k<=C) (hX:X 0=0) (hK:KX X (ck T rd free o)) (hj:j<=o.length):X j<=C*o.length:=by
 have:=Mi hC h1 h2 o 0 (-2) (fun _=>none) (fun k p h=>by cases h) hK (fun p hp=>by
  have:p=0:=by omega
  rw [this,hX]; simp) j (by omega)
 simpa using this
theorem Jb {T:aT} (hS:Sit T rd free) (hX:X 0=0) (hE:Emp (b0 rd) o) (hK:KX X (ck T rd free o)) (hj:j<=o.length):X j<=6000000:=by
 have:=ub0 (C:=600000) (by omega) (fun k=>by have:=wC hS k; have:=di hS.1.1 k; omega) (fun k=>by have:=da hS.1.1; have:=di hS.1.1 k; omega) hX hK hj
 have:=ni hS hE
 omega
def MQ:List Bool->List Int->Bool
 | b,[]=>!b.any id
 | b,t :: r=>decide (1<=t/\t<=b.length) && gZ b (t-1).toNat && MQ (mvB b (t-1).toNat) r
theorem wE (X:Nat->Int):∀(o:List Int) (i:Nat),(mkX X i o).map (·.1)=o
 | [],_=>rfl
 | t :: r,i=>by simp [mkX,wE X r]
theorem fW (X:Nat->Int) (o:List Int) (i:Nat):(mkX X i o).length=o.length:=by
 rw [<-RN (f:=(·.1)),wE]
theorem uA:∀(o:List Int) (i:Nat),(∀j,i<j->j<=i+o.length->X j=Y j)->mkX X i o=mkX Y i o
 | [],_,_=>rfl
 | t :: r,i,h=>by
  simp only [mkX]
  rw [h (i+1) (by omega) (by simp),uA r (i+1) fun j h1 h2=>h j (by omega) (by simp; omega)]
theorem tT {T:aT} {l:List cO} (h:bV T rd free=some l):Emp (b0 rd) (l.map (·.1)):=by
 obtain ⟨hS,o,e,k1,k2,_⟩:=sM h
 obtain ⟨X,x0,rfl,_⟩:=gM hS k1 k2
 rw [wE]; exact k1
structure Rt (T D:aT):Prop where
 pk:D.pick=T.pick
 pl:D.place=T.place
 tr:D.travel=T.travel
 len:D.ch.length=T.ch.length
 tm:∀k,tmT D k=tmT T k
 sy:∀k,syT T k<=syT D k
end Tr
namespace Tr
open Go
open Cy (GC aM bc aA br db lvM lvT)
open Clu (aT aY af chA aK aZ bD bA cB bL dP cK bK ss fh)
def OA (l:List cO):ac:=List.replicate l.length .dead++[.row 2 false (l.map aL)]
theorem CX (D:ac) (l:List cO) (t:cO) (hl:l.length<=1000):cU 2 16 (D++OA l) (.sl (D.length+l.length) 0 l.length) (.fs 2 [aL t])=some (.sl (D.length+(l.length+1)) 0 (l.length+1),D++OA (l++[t])):=by
 have h:(D++OA l)[D.length+l.length]?=some (.row 2 false (l.map aL)):=by
  rw [bp]
  unfold OA
  rw [RS (by simp)]
  simp
 have e:(D++OA l).length=D.length+(l.length+1):=by simp [OA]
 have e2:(D++OA l).set (D.length+l.length) .dead++[Ent.row 2 false ((l.map aL).take l.length++[aL t])]=D++OA (l++[t]):=by
  rw [R8 _ _ (by omega),Sx]
  unfold OA
  rw [R8 _ _ (by simp)]
  simp only [TE,Tq,SB,R1,RU,SU,SH,SG,Uy]
  rw [List.replicate_succ',R1]
  congr 3
  have:l.length=(l.map aL).length:=by simp
  rw [this,Se]
 simp only [cU,dr,h,SU,RT]
 rw [RH ⟨trivial,by omega,by omega,by omega⟩,e,e2]
theorem AC (X:Nat->Int):∀(o:List Int) (i j:Nat),(h:j<o.length)->(mkX X i o)[j]?=some (o[j],X (i+j+1))
 | t :: r,i,0,_=>rfl
 | t :: r,i,j+1,h=>by
  have:=AC X r (i+1) j (by simpa using h)
  simp only [mkX,SV,this,List.getElem_cons_succ]
  rw [show i+1+j+1=i+(j+1)+1 by omega]
section
variable {A:ac} {T:aT} {chv chF rdv ov:AV} {rd o:List Int} {free:Int}
theorem HX {D:ac} {ov sv:AV} {st:List Int} (ho:∀X,de (D++X) 1 ov (aj o)) (hs:SlA 1 (aj st) sv) (hsl:st.length=o.length+1) (hol:o.length<=100):∀(c j m:Nat),j+c=o.length->c<m ->
  bM (evC (aw GC wU) 300 nT) jD m (pJ sv (.sl (D.length+j) 0 j) ov (.int .i64 (o.length:Int)) (.int .i64 (j:Int))) (D++OA ((mkX (fun k=>st.getD k 0) 0 o).take j)) =
   some (.exit 2 ((pJ sv (.sl (D.length+o.length) 0 o.length) ov (.int .i64 (o.length:Int)) (.int .i64 (o.length:Int))).set 32 (.bool false)) (D++OA (mkX (fun k=>st.getD k 0) 0 o))):=by
 intro c
 induction c with
 | zero=>
  intro j m hj hm
  obtain ⟨m,rfl⟩:∃j,m=j+1:=⟨m-1,by omega⟩
  obtain rfl:j=o.length:=by omega
  have b0:=a9 o.length o.length .i64
  rw [RD (by omega)] at b0
  have e:(mkX (fun k=>st.getD k 0) 0 o).take o.length=mkX (fun k=>st.getD k 0) 0 o:=RX (by rw [fW]; exact RR _)
  rw [e,aD,Ci]
  simp [nT,b0,-ag]
 | succ c ih=>
  intro j m hj hm
  obtain ⟨m,rfl⟩:∃j,m=j+1:=⟨m-1,by omega⟩
  have hjl:j<o.length:=by omega
  have b0:=a9 j o.length .i64
  rw [RE hjl] at b0
  have b1:=aV j (by omega)
  obtain ⟨po,h1,h2⟩:=(ho (OA ((mkX (fun k=>st.getD k 0) 0 o).take j))).int (B:=D++OA ((mkX (fun k=>st.getD k 0) 0 o).take j)) (fun _ _=>rfl) hjl .i64
  have h3:=hs.int (A:=D++OA ((mkX (fun k=>st.getD k 0) 0 o).take j)) _ _ (Rx (show j+1<st.length by omega)) .i64
  have ht:=AC (fun k=>st.getD k 0) o 0 j hjl
  have hX:st.getD (0+j+1) 0=st[j+1]'(by omega):=by rw [Tp,Rw,Rx (by omega)]; rfl
  rw [hX] at ht
  have htl:((mkX (fun k=>st.getD k 0) 0 o).take j).length=j:=by rw [SM,fW]; omega
  have ha:=CX D ((mkX (fun k=>st.getD k 0) 0 o).take j) (o[j],st[j+1]'(by omega)) (by omega)
  rw [htl] at ha
  have e:(mkX (fun k=>st.getD k 0) 0 o).take j++[(o[j],st[j+1]'(by omega))]=(mkX (fun k=>st.getD k 0) 0 o).take (j+1):=by
   rw [List.take_add_one,ht]; rfl
  rw [e] at ha
  have hr:=ih (j+1) m (by omega) (by omega)
  rw [aD,Ci]
  have ha:cU 2 16 (D++OA ((mkX (fun k=>st.getD k 0) 0 o).take j)) (.sl (D.length+j) 0 j) (.fs 2 [.agg [.int .i64 o[j],.int .i64 (st[j+1]'(by omega))]])=_:=ha
  have hbf:bI 2 [.agg [.int .i64 o[j],.int .i64 (st[j+1]'(by omega))]]=some (.fs 2 [.agg [.int .i64 o[j],.int .i64 (st[j+1]'(by omega))]]):=rfl
  generalize D++OA ((mkX (fun k=>st.getD k 0) 0 o).take j)=B0 at *
  generalize D++OA ((mkX (fun k=>st.getD k 0) 0 o).take (j+1))=B1 at *
  generalize o[j]=oj at *
  generalize (st[j+1]'(by omega):Int)=sj at *
  obtain ⟨i1,hi1⟩:∃i1:Nat,i1=j+1:=⟨_,rfl⟩
  rw [<-hi1] at b1 h3 ha hr
  have hrun:run (aw GC wU) 300 [.code nT] (pJ sv (.sl (D.length+j) 0 j) ov (.int .i64 (o.length:Int)) (.int .i64 (j:Int))) B0 =
    some (.normal (pJ sv (.sl (D.length+i1) 0 i1) ov (.int .i64 (o.length:Int)) (.int .i64 (i1:Int))) B1):=by
   generalize (i1:Int)=I1 at *
   generalize (j:Int)=J at *
   generalize (o.length:Int)=M at *
   simp [nT,b0,b1,h1,h2,h3,ha,hbf,-ag,-ab,-ae,-bI]
  rw [hrun]
  exact hr
end
end Tr
namespace Tr
open Go
open Cy (GC)
theorem Gs (w:World):Calls Try.prog 40 #[.slice none 0 0] w fun e w'=>e=.returned (.slice none 0 0)/\w'=w:=by
 have q22:∀(w:World) (a:Option Addr) (n c n' c':Nat),(binOp .eql 25 (.slice a n c) (.slice none n' c')).run Try.prog w=.ok (.bool a.isNone) w:=fun w a n c n' c'=>Lib.run_eql_slice_nil w _ _ a n c n' c' Try.underlying25
 go_enter Try.func40,Try.ntmps40
 go_wp2
 go_ret
 exact ⟨rfl,rfl⟩
theorem Gr (a:Addr) (w:World):Calls Try.prog 40 #[.slice (some a) 0 0] w fun e w'=>∃p o,e=.returned (.slice p 0 0)/\w'=w.alloc o:=by
 have q22:∀(w:World) (a:Option Addr) (n c n' c':Nat),(binOp .eql 25 (.slice a n c) (.slice none n' c')).run Try.prog w=.ok (.bool a.isNone) w:=fun w a n c n' c'=>Lib.run_eql_slice_nil w _ _ a n c n' c' Try.underlying25
 go_enter Try.func40,Try.ntmps40
 go_wp2
 go_ret
 exact ⟨_,_,rfl,rfl⟩
def H40:aJ:=fun _h args A=>match args with
 | [.nilS]=>some (.nilS,A)
 | _=>cc (aw GC []) 0 Cy.qb args A
theorem pP:au Try.prog GC 40 H40:=by
 refine ⟨Cy.iR.1,fun ys h hs args A r A' he w OK g vs hA hI hl=>?_⟩
 unfold H40 at he
 split at he
 ·injection he with he
  injection he with h1 h2
  subst h1 h2
  match vs,hl with
  | [v],hl=>
   obtain ⟨h1,_⟩:=hl
   obtain ⟨p,rfl⟩:=h1.inv_nilS
   cases p with
   | none=>
    refine (Gs w).mono ?_
    rintro e w' ⟨rfl,rfl⟩
    exact ⟨_,OK,g,rfl,.nilS _ _,hA,Ext.refl _ _ _⟩
   | some a=>
    refine (Gr a w).mono ?_
    rintro e w' ⟨p,o,rfl,rfl⟩
    have hsz:(w.alloc o).heap.size=w.heap.size+1:=by show (w.heap.push o).size=_; exact Array.size_push ..
    refine ⟨_,OK,g,rfl,.nilS _ _,?_,?_⟩
    ·refine hA.keep (w':=w.alloc o) ?_ (fun b hb=>?_) OK (fun _ h=>h) (fun _ h=>.inl h) (fun b hb=>?_)
     ·omega
     ·exact heap_alloc_old w _ hb
     ·have:=hA.ok b hb
      omega
    ·exact ⟨rfl,rfl,rfl,by omega,fun b hb _=>heap_alloc_old w _ hb,g.le_refl,fun _ h=>h,fun id inc h=>.inl ⟨id,inc,h,rfl⟩,fun _ h=>.inl h,
      fun b r hb _=>(heap_alloc_old w _ (Sp.1 hb).1).trans hb,fun _ _ _ _=>rfl⟩
 ·exact Cy.iR.2 ys h hs args A r A' he w OK g vs hA hI hl
theorem IC (h:be) (A:ac):H40 h [.nilS] A=some (.nilS,A):=rfl
theorem Gi (h:be) (ha:de A 1 a (aj xs)) (hne:xs≠[]) (hl:xs.length<=1000):H40 h [a] A=some (.sl (A.length+1) 0 xs.length,A++[.dead,.row 1 false (aj xs)]):=by
 have:=Cy.MP (aw GC []) 0 ha hne hl
 unfold H40
 split
 ·rename_i hh
  injection hh with hh
  subst hh
  rcases ha with (⟨_,h⟩ | h) | ⟨id,off,gr,es,h,_⟩
  ·exact absurd (Tw.1 h) hne
  ·cases h
  ·cases h
 ·exact this
end Tr
namespace Tr
open Go
open Cy (GC)
theorem vy {w:World} {b o T:Nat} {c:Array Value} {fz:Nat × Nat} (P:Program) (hh:w.heap[b]?=some (.cells c T fz)) (hu:eP c fz) (vs:List Value) (hl:o+vs.length<=c.size) (h1:∀v∈vs,v.oneCell'=true):w.setCells b o vs=w.setRow b (splice c o vs):=by
 have a:=b8 P b o T fz vs 0 c w hh hu (by omega) h1
 have e:=run_storeCells_cells (P:=P) b o vs 0 w (fun j hj=>by
  rw [jp hh,R9 (by omega)]; rfl) (fun j hj=>by
  have:=hu (o+0+j) (by omega)
  unfold World.frozen?
  rw [hh]
  exact this) h1
 rw [a] at e
 injection e with e1 e2
 rw [Sy] at e2
 exact e2.symm
theorem JF:(Try.prog.info? 51).map (·.size)=some 2:=by kernel_rfl
theorem Nd:(Try.prog.info? 3).map (·.size)=some 1:=by kernel_rfl
theorem EU:Try.prog.follows .mixedOrders=true:=by kernel_rfl
theorem I7 (b ao n cap i j:Nat) (w:World) (ad:Addr) (news:List Value) (hij:i<j) (hjn:j<=n) (hn:n<=cap)
  (had:(if cap=j then some (⟨b,ao,none⟩:Addr) else some ⟨b,ao+j*2,none⟩)=some ad)
  (s1:news.length=(n-j)*2) (s0:∀t u,news[t]?=some u->w.drew.cell? (ad.add t)=some u) (s2:∀u∈news,u.oneCell'=true)
  (s3:∀t,t<news.length->(w.drew.cell? ⟨b,ao+i*2+t,none⟩).isSome=true/\w.drew.frozen? ⟨b,ao+i*2+t,none⟩=false) (W1 W2:World) (hW:W1=w.drew.setCells b (ao+i*2) news)
  (hcl:∀ty,(Builtin.clear_ #[22] ty #[.slice (some ⟨b,ao+(i+(n-j))*2,none⟩) (n-(i+(n-j))) (cap-(i+(n-j)))]).run Try.prog W1=.ok (.tuple #[]) W2) :
  Calls Try.prog 53 #[.slice (some ⟨b,ao,none⟩) n cap,.int .i64 i,.int .i64 j] w fun e w'=>e=.returned (.slice (some ⟨b,ao,none⟩) (i+(n-j)) cap)/\w'=W2:=by
 have mixed:=EU
 obtain ⟨i0,hi,hz1⟩:∃i0,Try.prog.info? 51=some i0/\i0.size=2:=by
  have h:=JF
  cases e:Try.prog.info? 51 with
  | none=>rw [e] at h; cases h
  | some i0=>rw [e] at h; injection h with h; exact ⟨i0,rfl,h⟩
 have hic:i<=cap:=by omega
 have hjc:j<=cap:=by omega
 have hW':RowKit.Hid (W1=w.drew.setCells b (ao+i*2) news):=hW
 clear hW
 go_enter Try.func53,Try.ntmps53
 go_wp2_with fail
 go_region_law_o (refine step_append_room rfl (.tmp 22) (.tmp 25) 22 rfl 51 i0 2 Try.underlying22 hi hz1 b ao i cap (by simp [Act.eval,Act.put]) ad (n-j) (cap-j) news (by simp [Act.eval,Act.put]) s1 s0 s2 (by omega) s3 ?_; rw [<-hW'.out])
 go_wp2
 go_ret
 exact ⟨rfl,rfl⟩
theorem I6 (b ao n cap i j:Nat) (w:World) (ad:Addr) (news:List Value) (hij:i<j) (hjn:j<=n) (hn:n<=cap)
  (had:(if cap=j then some (⟨b,ao,none⟩:Addr) else some ⟨b,ao+j,none⟩)=some ad)
  (s1:news.length=(n-j)*1) (s0:∀t u,news[t]?=some u->w.drew.cell? (ad.add t)=some u) (s2:∀u∈news,u.oneCell'=true)
  (s3:∀t,t<news.length->(w.drew.cell? ⟨b,ao+i*1+t,none⟩).isSome=true/\w.drew.frozen? ⟨b,ao+i*1+t,none⟩=false) (W1 W2:World) (hW:W1=w.drew.setCells b (ao+i*1) news)
  (hcl:∀ty,(Builtin.clear_ #[25] ty #[.slice (some ⟨b,ao+(i+(n-j)),none⟩) (n-(i+(n-j))) (cap-(i+(n-j)))]).run Try.prog W1=.ok (.tuple #[]) W2) :
  Calls Try.prog 55 #[.slice (some ⟨b,ao,none⟩) n cap,.int .i64 i,.int .i64 j] w fun e w'=>e=.returned (.slice (some ⟨b,ao,none⟩) (i+(n-j)) cap)/\w'=W2:=by
 have mixed:=EU
 obtain ⟨i0,hi,hz1⟩:∃i0,Try.prog.info? 3=some i0/\i0.size=1:=by
  have h:=Nd
  cases e:Try.prog.info? 3 with
  | none=>rw [e] at h; cases h
  | some i0=>rw [e] at h; injection h with h; exact ⟨i0,rfl,h⟩
 have hic:i<=cap:=by omega
 have hjc:j<=cap:=by omega
 have hW':RowKit.Hid (W1=w.drew.setCells b (ao+i*1) news):=hW
 clear hW
 go_enter Try.func55,Try.ntmps55
 go_wp2_with fail
 go_region_law_o (refine step_append_room rfl (.tmp 22) (.tmp 25) 25 rfl 3 i0 1 Try.underlying25 hi hz1 b ao i cap (by simp [Act.eval,Act.put]) ad (n-j) (cap-j) news (by simp [Act.eval,Act.put]) s1 s0 s2 (by omega) s3 ?_; rw [<-hW'.out])
 go_wp2
 go_ret
 exact ⟨rfl,rfl⟩
end Tr
namespace Tr
open Go
open Cy (GC)
def rC (es:List AV) (i:Nat) (za:AV):List AV:=es.take i++es.drop (i+1)++[za]
theorem o9 {i:Nat} (h:i<es.length) (za:AV):(rC es i za).length=es.length:=by simp [rC]; omega
theorem El {i:Nat} (h:i<es.length) (za:AV) (k:Nat) (hk:k<(rC es i za).length):(rC es i za)[k]=if h1:k<i then es[k] else if h2:k+1<es.length then es[k+1] else za:=by
 have hl:=o9 h za
 have e:(rC es i za)[k]?=some (if h1:k<i then es[k] else if h2:k+1<es.length then es[k+1] else za):=by
  unfold rC
  by_cases h1:k<i
  ·rw [UO h1,R1,RC (by simp; omega),TH,RH h1,Rx (by omega)]
  ·rw [dif_neg h1]
   by_cases h2:k+1<es.length
   ·rw [UO h2,R1,RS (by simp; omega),RC (by simp; omega),SQ]
    simp only [SM]
    rw [show i+1+(k-min i es.length)=k+1 by omega,Rx h2]
   ·rw [dif_neg h2,RS (by simp; omega)]
    have:k-(es.take i++es.drop (i+1)).length=0:=by simp; omega
    rw [this]; rfl
 rw [Rx hk] at e
 injection e
def iM (c:Array Value) (o sz n i:Nat):List Value:=(c.toList.drop (o+(i+1)*sz)).take ((n-(i+1))*sz)
def c1C (c:Array Value) (o sz n i:Nat):Array Value:=splice c (o+i*sz) (iM c o sz n i)
def c2C (c:Array Value) (o sz n i:Nat) (zs:List Value):Array Value:=splice (c1C c o sz n i) (o+(n-1)*sz) zs
section
variable {c:Array Value} {o sz n i:Nat} {zs:List Value}
theorem lD (hi:i<n) (hl:o+n*sz<=c.size):(iM c o sz n i).length=(n-(i+1))*sz:=by
 unfold iM
 rw [SM,TX,Sf]
 have:n*sz=(i+1)*sz+(n-(i+1))*sz:=by rw [<-RY]; congr 1; omega
 omega
theorem lE (q:Nat) (hq:q<(n-(i+1))*sz):(iM c o sz n i)[q]?=c[o+(i+1)*sz+q]?:=by
 unfold iM
 rw [TH,RH hq,SQ,Array.getElem?_toList]
theorem iZ (hi:i<n):n*sz=i*sz+sz+(n-(i+1))*sz/\(i+1)*sz=i*sz+sz/\(n-1)*sz=i*sz+(n-(i+1))*sz:=by
 refine ⟨?_,by rw [RY,Un],?_⟩
 ·have:n=i+1+(n-(i+1)):=by omega
  conv=>lhs; rw [this,RY,RY,Un]
 ·rw [<-RY]; congr 1; omega
theorem pg (hi:i<n) (hl:o+n*sz<=c.size):(c1C c o sz n i).size=c.size/\o+i*sz+(iM c o sz n i).length<=c.size:=by
 have h:=lD hi hl
 obtain ⟨m1,m2,m3⟩:=iZ (sz:=sz) hi
 have:o+i*sz+(iM c o sz n i).length<=c.size:=by rw [h]; omega
 exact ⟨cw _ _ _ this,this⟩
theorem tV (hi:i<n) (hl:o+n*sz<=c.size) (hz:zs.length=sz):(c2C c o sz n i zs).size=c.size/\o+(n-1)*sz+zs.length<=(c1C c o sz n i).size:=by
 obtain ⟨h1,h2⟩:=pg hi hl
 obtain ⟨m1,m2,m3⟩:=iZ (sz:=sz) hi
 have:o+(n-1)*sz+zs.length<=(c1C c o sz n i).size:=by rw [h1,hz]; omega
 exact ⟨by unfold c2C; rw [cw _ _ _ this,h1],this⟩
end
section
variable {w:World} {OK:Nat->Prop} {g:aC} {A:ac}
theorem BF (hA:cq w OK g A) {id sz:Nat} (hid:A[id]?=some (.row sz false es)) {inc:Inc} (hinc:inc∈g id) {i:Nat} (hi:i<es.length) (hpos:0<sz) {zv:Value} {za:AV} (hz:∀(w:World) (OK:Nat->Prop) (g:aC),aW w OK g zv za) (hzc:zv.cells.size=sz) (hzo:cF zv) :
  inc.esz=sz/\inc.n=es.length/\∃c T fz,w.heap[inc.b]?=some (.cells c T fz)/\eP c fz/\inc.o+es.length*sz<=c.size/\(∀u∈iM c inc.o sz es.length i,u.oneCell'=true) /\
   cq ((w.setRow inc.b (c1C c inc.o sz es.length i)).setRow inc.b (c2C c inc.o sz es.length i zv.cells.toList)) OK g (A.set id (.row sz false (rC es i za))) /\
   Ext w OK g ((w.setRow inc.b (c1C c inc.o sz es.length i)).setRow inc.b (c2C c inc.o sz es.length i zv.cells.toList)) OK g:=by
 obtain ⟨hlt',hrow⟩:=Rv.1 hid
 have hdead:A[id]?≠some Ent.dead:=by rw [hid]; simp
 have hent:=hA.ent id hlt'
 rw [hrow] at hent
 obtain ⟨h0,hinv⟩:=hent
 obtain ⟨hone,hnn⟩:=h0 rfl
 obtain ⟨hesz,hne,hnc,c,T,fz,hh,hu,hcs,hel⟩:=hinv inc hinc
 have hnn':=hnn inc hinc
 have hle:inc.o+es.length*sz<=c.size:=by
  have:es.length*sz<=inc.cap*sz:=R6 _ (by omega)
  omega
 have hzl:zv.cells.toList.length=sz:=by rw [Sf,hzc]
 obtain ⟨k1,k2⟩:=pg (c:=c) (o:=inc.o) (sz:=sz) hi hle
 obtain ⟨k3,k4⟩:=tV (c:=c) (o:=inc.o) (sz:=sz) (zs:=zv.cells.toList) hi hle hzl
 obtain ⟨m1,m2,m3⟩:=iZ (n:=es.length) (sz:=sz) hi
 have hnl:=lD (c:=c) (o:=inc.o) (sz:=sz) hi hle
 have hxe:∀x∈g id,x=inc:=fun x hx=>by
  match hgi:g id,hone,hx,hinc with
  | [],_,hx,_=>cases hx
  | [y],_,hx,hinc=>simp at hx hinc; rw [hx,hinc]
  | _ :: _ :: _,ho,_,_=>simp at ho
 have hnews:∀u∈iM c inc.o sz es.length i,u.oneCell'=true:=by
  intro u hu'
  obtain ⟨q,hq,rfl⟩:=SD.1 hu'
  have hq':q<(es.length-(i+1))*sz:=by rw [<-hnl]; exact hq
  have e:=lE (c:=c) (o:=inc.o) (sz:=sz) (n:=es.length) (i:=i) q hq'
  rw [Rx hq] at e
  have hdm:q / sz*sz+q % sz=q:=by rw [Nat.mul_comm]; exact Nat.div_add_mod q sz
  have hr:=Nat.mod_lt q hpos
  have hqd:q / sz<es.length-(i+1):=(Nat.div_lt_iff_lt_mul hpos).2 hq'
  obtain ⟨v,_,v2,v3,v4⟩:=hel (i+1+q / sz) (by omega) (by omega)
  have v4:=v4 (q % sz) hr
  have e2:inc.o+(i+1+q / sz)*sz+q % sz=inc.o+(i+1)*sz+q:=by rw [RY]; omega
  rw [e2,<-e] at v4
  have hlt:q % sz<v.cells.size:=by omega
  rw [R9 hlt] at v4
  injection v4 with v4
  rw [v4]
  exact v3 _ (by simp)
 have hhr:∀b,b≠inc.b->((w.setRow inc.b (c1C c inc.o sz es.length i)).setRow inc.b (c2C c inc.o sz es.length i zv.cells.toList)).heap[b]?=w.heap[b]?:=fun b hb=>by rw [setRow_other _ inc.b b _ hb,setRow_other w inc.b b _ hb]
 have hrow2:((w.setRow inc.b (c1C c inc.o sz es.length i)).setRow inc.b (c2C c inc.o sz es.length i zv.cells.toList)).heap[inc.b]?=some (.cells (c2C c inc.o sz es.length i zv.cells.toList) T fz):=setRow_heap _ inc.b _ _ T fz (setRow_heap w inc.b c _ T fz hh)
 refine ⟨hesz,hnn',c,T,fz,hh,hu,hle,hnews,?_⟩
 refine hA.turn (w':=(w.setRow inc.b (c1C c inc.o sz es.length i)).setRow inc.b (c2C c inc.o sz es.length i zv.cells.toList)) (g':=g) id hlt' hdead inc hinc (by simp) rfl rfl rfl hhr (fun r hr _=>by rw [hh] at hr; cases hr) g.le_refl (fun _ _=>rfl) (fun i hi=>⟨i,hi,rfl⟩)
  (fun i i' hi hi' e=>(hA.one id id i i' hdead hdead hi hi' e).2) (.row sz false (rC es i za)) (fun hokb=>?_) (fun _=>rfl)
 refine ⟨fun _=>⟨hone,fun x hx=>by rw [o9 hi]; exact hnn x hx⟩,fun x hx=>?_⟩
 obtain rfl:=hxe x hx
 refine ⟨hesz,by rw [o9 hi]; exact hne,hnc,_,T,fz,hrow2,?_,by rw [k3]; exact hcs,fun k hk hkn=>?_⟩
 ·exact bX (bX hu _ _ k2) _ _ k4
 have hk':k<es.length:=by rw [o9 hi] at hk; exact hk
 rw [El hi za k hk]
 by_cases c1:k<i
 ·rw [UO c1]
  have hks:(k+1)*sz<=i*sz:=R6 _ c1
  rw [RY,Un] at hks
  refine cz.mono (cz.splice_out (cz.splice_out (hel k hk' (by omega)) k2 (.inl (by omega))) k4 (.inl (by omega))) (fun _ h=>h) hokb g.le_refl
 ·rw [dif_neg c1]
  by_cases c2:k+1<es.length
  ·rw [UO c2]
   obtain ⟨v,v1,v2,v3,v4⟩:=hel (k+1) c2 (by omega)
   refine ⟨v,v1.mono (fun _ h=>h) hokb g g.le_refl,v2,v3,fun q hq=>?_⟩
   have e1:(k+1)*sz=k*sz+sz:=by rw [RY,Un]
   have e2:k*sz=i*sz+(k-i)*sz:=by rw [<-RY]; congr 1; omega
   have e3:(k+1)*sz<=(es.length-1)*sz:=R6 _ (by omega)
   unfold c2C
   rw [splice_out _ _ _ k4 _ (.inl (by omega))]
   have hqn:(k-i)*sz+q<(iM c x.o sz es.length i).length:=by omega
   have e5:x.o+k*sz+q=x.o+i*sz+((k-i)*sz+q):=by omega
   unfold c1C
   rw [e5,dl _ _ _ k2 _ hqn,lE _ (by omega)]
   have v4:=v4 q hq
   rw [show x.o+(i+1)*sz+((k-i)*sz+q)=x.o+(k+1)*sz+q by omega]
   exact v4
  ·rw [dif_neg c2]
   refine ⟨zv,hz _ _ _,hzc,hzo,fun q hq=>?_⟩
   unfold c2C
   have:k=es.length-1:=by omega
   subst this
   rw [dl _ _ _ k4 q (by omega)]
   simp
end
end Tr
end Go.Proofs.Ytkcjhljbgjpklaa
