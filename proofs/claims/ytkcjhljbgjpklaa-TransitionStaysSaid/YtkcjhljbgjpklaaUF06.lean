import Derived.Test.YtkcjhljbgjpklaaUF05
import Derived.Test.YtkcjhljbgjpklaaChecked
import Derived.KernelRfl
import Derived.WalkKit
import Derived.Deep.LoopGhost
import Derived.Lib.Walk
import Derived.Lib.SliceRun
import Derived.Deep.RegionLaw
import Derived.Shelf.RegionOpenPlain
import Derived.Laws.IdiomCopy
import Derived.Below
set_option maxRecDepth 100000
set_option maxHeartbeats 4000000
noncomputable section
namespace Go.Proofs.Ytkcjhljbgjpklaa
namespace Tr
open Go
open Clu (aR a6)
open Cy (a7 lar jt fB cn dP okA lvM)
abbrev cS:=Int × Int
def wT (T:aR):Int:=T.pick+T.travel+T.place
def tmT (T:aR) (k:Nat):Int:=(T.ch.getD k (0,0)).1
def syT (T:aR) (k:Nat):Int:=(T.ch.getD k (0,0)).2
def btw (T:aR) (last next:Int):Int:=if next=last+1 then 0 else T.travel
def lZ (T:aR) (inn:List Int) (t:cS):Option (List Int):=
 if 1<=t.1 then (if 0<=inn.getD (t.1-1).toNat 0/\inn.getD (t.1-1).toNat 0<=t.2/\t.2<=inn.getD (t.1-1).toNat 0+syT T (t.1-1).toNat then some (inn.set (t.1-1).toNat (-1)) else none) else some inn
def vU (T:aR) (inn:List Int) (t:cS):Option (List Int):=
 if t.1<inn.length then (if 0<=inn.getD t.1.toNat 0 then none else some (inn.set t.1.toNat (t.2+wT T+tmT T t.1.toNat))) else some inn
structure St where
 inn:List Int
 last:Int
 fin:Int
def eK (T:aR) (s:St) (t:cS):Option St:=
 if (0<=t.1/\t.1<=s.inn.length)/\s.fin+btw T s.last t.1<=t.2/\t.2<=1000000000 then
  (lZ T s.inn t).bind fun a=>(vU T a t).map fun b=>⟨b,t.1,t.2+wT T⟩
 else none
def sw (T:aR):St->List cS->Option St
 | s,[]=>some s
 | s,t :: r=>(eK T s t).bind fun s'=>sw T s' r
def Sit (T:aR) (rd:List Int) (free:Int):Prop:=(a6 T/\T.blades=1)/\rd.length=T.ch.length/\(0<=free/\free<=2000000)/\∀t∈rd,-1<=t/\t<=500000
instance (T:aR) (rd:List Int) (free:Int):Decidable (Sit T rd free):=inferInstanceAs (Decidable (_/\_))
def st0 (rd:List Int) (free:Int):St:=⟨rd,-2,free⟩
def fQ (T:aR) (rd:List Int) (free:Int) (l:List cS):Option Int:=if Sit T rd free then (sw T (st0 rd free) l).map (·.fin) else none
def mvB (b:List Bool) (k:Nat):List Bool:=if k+1=b.length then b.set k false else (b.set k false).set (k+1) true
def oT (b:List Bool) (k:Nat):Bool:=b.getD k false && (decide (k+1=b.length) || !b.getD (k+1) false)
def qz:Nat->List Bool->List (List Int)
 | 0,b=>if b.any id then [] else [[]]
 | d+1,b=>if b.any id then (List.range b.length).flatMap fun k=>if oT b k then (qz d (mvB b k)).map (((k:Int)+1) :: ·) else [] else [[]]
def Emp:List Bool->List Int->Prop
 | b,[]=>b.any id=false
 | b,t :: r=>∃k:Nat,t=(k:Int)+1/\k<b.length/\oT b k=true/\Emp (mvB b k) r
def mB:List Bool->Nat
 | []=>0
 | x :: r=>(if x then r.length+1 else 0)+mB r
theorem qD:∀b:List Bool,mB b=0->b.any id=false
 | [],_=>rfl
 | x :: r,h=>by
  simp only [mB] at h
  cases x
  ·simp only [List.any_cons,id,Bool.false_or]
   exact qD r (by simpa using h)
  ·simp at h
theorem F0:∀b:List Bool,b.any id=false->mB b=0
 | [],_=>rfl
 | x :: r,h=>by
  simp only [List.any_cons,id,Bool.or_eq_false_iff] at h
  simp only [mB,h.1,F0 r h.2]; rfl
theorem xz (v:Bool):∀(b:List Bool) (k:Nat),k<b.length->mB (b.set k v)+(if b.getD k false then b.length-k else 0)=mB b+(if v then b.length-k else 0)
 | [],k,h=>absurd h (Nat.not_lt_zero _)
 | x :: r,0,_=>by simp [mB]; omega
 | x :: r,k+1,h=>by
  have:=xz v r k (by simpa using h)
  simp only [List.set_cons_succ,mB,List.length_set,List.getD_cons_succ,List.length_cons,Nat.add_sub_add_right]
  omega
theorem qB (b:List Bool) (k:Nat):(mvB b k).length=b.length:=by
 unfold mvB; split <;> simp
theorem iu {b:List Bool} {k:Nat}:oT b k=true↔b.getD k false=true/\(k+1=b.length\/b.getD (k+1) false=false):=by
 simp [oT]
theorem j6 (b:List Bool) (i j:Nat) (v:Bool):(b.set i v).getD j false=if i=j/\i<b.length then v else b.getD j false:=by
 simp only [List.getD_eq_getElem?_getD,List.getElem?_set]
 by_cases h:i=j
 ·subst h
  by_cases h2:i<b.length
  ·simp [h2]
  ·simp [h2]
 ·simp [h]
theorem DU {b:List Bool} {k:Nat} (hk:k<b.length) (j:Nat):(mvB b k).getD j false=if j=k then false else if j=k+1/\k+1<b.length then true else b.getD j false:=by
 unfold mvB
 split
 ·rw [j6]
  by_cases h:j=k
  ·subst h; simp [hk]
  ·rw [if_neg (by omega),if_neg h,if_neg (by omega)]
 ·rw [j6,j6,List.length_set]
  by_cases h:j=k
  ·subst h; rw [if_neg (by omega),if_pos ⟨rfl,hk⟩,if_pos rfl]
  ·by_cases h2:j=k+1
   ·subst h2; rw [if_pos ⟨rfl,by omega⟩,if_neg (by omega),if_pos ⟨rfl,by omega⟩]
   ·rw [if_neg (by omega),if_neg (by omega),if_neg h,if_neg (by omega)]
theorem vY {b:List Bool} {k:Nat} (hk:k<b.length) (hc:oT b k=true):mB (mvB b k)+1=mB b:=by
 obtain ⟨h1,h2⟩:=iu.1 hc
 have e1:=xz false b k hk
 rw [h1] at e1
 unfold mvB
 split
 ·simp at e1; omega
 ·rename_i h
  have e2:=xz true (b.set k false) (k+1) (by simp; omega)
  have e3:(b.set k false).getD (k+1) false=false:=by
   rw [j6,if_neg (by omega)]
   exact h2.resolve_left h
  rw [e3] at e2
  simp at e1 e2
  omega
theorem zI:∀ {b:List Bool} {o:List Int},Emp b o->o.length=mB b
 | b,[],h=>(F0 b h).symm
 | b,t :: r,⟨k,_,hk,hc,hr⟩=>by
  have:=zI hr
  have:=vY hk hc
  simp only [List.length_cons]; omega
theorem EC {b:List Bool}:b.any id=true↔∃k,k<b.length/\b.getD k false=true:=by
 rw [List.any_eq_true]
 constructor
 ·rintro ⟨x,hx,h⟩
  obtain ⟨k,hk,rfl⟩:=List.mem_iff_getElem.1 hx
  exact ⟨k,hk,by rw [List.getD_eq_getElem?_getD,List.getElem?_eq_getElem hk]; exact h⟩
 ·rintro ⟨k,hk,h⟩
  rw [List.getD_eq_getElem?_getD,List.getElem?_eq_getElem hk] at h
  exact ⟨b[k],List.getElem_mem hk,h⟩
theorem q5 {b:List Bool} (h:b.any id=false) (k:Nat):b.getD k false=false:=by
 by_cases hk:k<b.length
 ·cases e:b.getD k false
  ·rfl
  ·rw [EC.2 ⟨k,hk,e⟩] at h; cases h
 ·rw [List.getD_eq_getElem?_getD,List.getElem?_eq_none (Nat.le_of_not_lt hk)]; rfl
theorem qy:∀(d:Nat) (b:List Bool) (o:List Int),mB b<=d->(o∈qz d b↔Emp b o)
 | 0,b,o,hd=>by
  have ha:=qD b (by omega)
  unfold qz
  rw [ha]
  cases o with
  | nil=>simp [Emp,ha]
  | cons t r=>
   simp only [Bool.false_eq_true,if_false,List.mem_singleton,Emp]
   constructor
   ·intro h; cases h
   ·rintro ⟨k,_,_,hc,_⟩
    exact absurd (q5 ha k) (by rw [(iu.1 hc).1]; decide)
 | d+1,b,o,hd=>by
  unfold qz
  cases ha:b.any id
  ·cases o with
   | nil=>simp [Emp,ha]
   | cons t r=>
    simp only [Bool.false_eq_true,if_false,List.mem_singleton,Emp]
    constructor
    ·intro h; cases h
    ·rintro ⟨k,_,_,hc,_⟩
     exact absurd (q5 ha k) (by rw [(iu.1 hc).1]; decide)
  ·simp only [if_true,List.mem_flatMap,List.mem_range]
   cases o with
   | nil=>
    simp only [Emp,ha]
    constructor
    ·rintro ⟨k,_,h⟩
     split at h
     ·simp at h
     ·simp at h
    ·intro h; cases h
   | cons t r=>
    simp only [Emp]
    constructor
    ·rintro ⟨k,hk,h⟩
     split at h
     ·rename_i hc
      obtain ⟨r',hr',e⟩:=List.mem_map.1 h
      injection e with e1 e2
      subst e2
      have:=vY hk hc
      exact ⟨k,e1.symm,hk,hc,(qy d _ _ (by omega)).1 hr'⟩
     ·cases h
    ·rintro ⟨k,rfl,hk,hc,hr⟩
     have:=vY hk hc
     refine ⟨k,hk,?_⟩
     rw [if_pos hc]
     exact List.mem_map.2 ⟨r,(qy d _ _ (by omega)).2 hr,rfl⟩
theorem F2:∀b:List Bool,b.length<=4->mB b<=10
 | [],_=>by simp [mB]
 | [a],_=>by cases a <;> decide
 | [a,b],_=>by cases a <;> cases b <;> decide
 | [a,b,c],_=>by cases a <;> cases b <;> cases c <;> decide
 | [a,b,c,d],_=>by cases a <;> cases b <;> cases c <;> cases d <;> decide
 | _ :: _ :: _ :: _ :: _ :: _,h=>by simp at h
def upd (a:Nat->Option Nat) (k v:Nat):Nat->Option Nat:=fun j=>if j=k then some v else a j
def fV (T:aR) (rd:List Int) (a:Nat->Option Nat) (k:Nat):Nat × Int:=match a k with | some p=>(p,wT T+tmT T k) | none=>(0,rd.getD k 0)
def hdT (T:aR) (free:Int) (i:Nat) (last t:Int):a7:=if i=0 then ⟨0,1,free+T.travel,0⟩ else ⟨i,(i:Int)+1,wT T+btw T last t,0⟩
def gq (T:aR) (rd:List Int) (free:Int):Nat->Int->(Nat->Option Nat)->List Int->List a7
 | _,_,_,[]=>[]
 | i,last,a,t :: r=>hdT T free i last t :: ⟨((fV T rd a (t-1).toNat).1:Int),(i:Int)+1,(fV T rd a (t-1).toNat).2,0⟩ ::
   ⟨(i:Int)+1,((fV T rd a (t-1).toNat).1:Int),-((fV T rd a (t-1).toNat).2+syT T (t-1).toNat),0⟩ :: gq T rd free (i+1) t (upd a t.toNat (i+1)) r
def cf (T:aR) (rd:List Int) (free:Int) (o:List Int):List a7:=gq T rd free 0 (-2) (fun _=>none) o
def mkX (X:Nat->Int):Nat->List Int->List cS
 | _,[]=>[]
 | i,t :: r=>(t,X (i+1)) :: mkX X (i+1) r
def KX (X:Nat->Int) (L:List a7):Prop:=∀a∈L,X a.f.toNat+a.w<=X a.t.toNat
theorem ue {X:Nat->Int} {a:a7} {L:List a7}:KX X (a :: L)↔X a.f.toNat+a.w<=X a.t.toNat/\KX X L:=by simp [KX]
def RI (T:aR) (rd:List Int) (X:Nat->Int) (b:List Bool) (inn:List Int) (a:Nat->Option Nat):Prop:=
 b.length=T.ch.length/\inn.length=T.ch.length/\∀k,k<T.ch.length->(b.getD k false=true->0<=inn.getD k 0/\inn.getD k 0=X (fV T rd a k).1+(fV T rd a k).2)/\(b.getD k false=false->inn.getD k 0 = -1)
theorem gH (l:List Int) (i j:Nat) (v:Int):(l.set i v).getD j 0=if i=j/\i<l.length then v else l.getD j 0:=by
 simp only [List.getD_eq_getElem?_getD,List.getElem?_set]
 by_cases h:i=j
 ·subst h
  by_cases h2:i<l.length
  ·simp [h2]
  ·simp [h2]
 ·simp [h]
theorem eR {T:aR} (hv:a6 T) (k:Nat):0<=tmT T k/\tmT T k<=100000/\0<=syT T k/\syT T k<=100000:=by
 unfold tmT syT
 by_cases hk:k<T.ch.length
 ·rw [List.getD_eq_getElem?_getD,List.getElem?_eq_getElem hk]
  have:=hv.1 _ (List.getElem_mem hk)
  unfold Clu.rf at this
  simp only [Option.getD_some]
  omega
 ·rw [List.getD_eq_getElem?_getD,List.getElem?_eq_none (Nat.le_of_not_lt hk)]
  simp
theorem en {T:aR} (hv:a6 T):(0<=T.travel/\T.travel<=10000)/\0<=wT T/\wT T<=30000:=by
 obtain ⟨_,⟨h1,h2,h3⟩,_⟩:=hv
 unfold wT; omega
theorem oK {T:aR} (hv:a6 T) (a b:Int):0<=btw T a b/\btw T a b<=T.travel:=by
 have:=(en hv).1
 unfold btw; split <;> omega
theorem z7 {T:aR} {rd:List Int} {X:Nat->Int} {b:List Bool} {inn:List Int} {a:Nat->Option Nat} (_hv:a6 T) (hR:RI T rd X b inn a) {k:Nat} (hk:k<b.length) (hc:oT b k=true) (i:Nat) (last e:Int) (_he:0<=e) :
  eK T ⟨inn,last,e⟩ ((k:Int)+1,X (i+1)) =
   if (e+btw T last ((k:Int)+1)<=X (i+1))/\(X (fV T rd a k).1+(fV T rd a k).2<=X (i+1)/\X (i+1)<=X (fV T rd a k).1+(fV T rd a k).2+syT T k)/\X (i+1)<=1000000000 then
    some ⟨if k+1=b.length then inn.set k (-1) else (inn.set k (-1)).set (k+1) (X (i+1)+wT T+tmT T (k+1)),(k:Int)+1,X (i+1)+wT T⟩ else none:=by
 obtain ⟨hb,hi,hA⟩:=hR
 obtain ⟨h1,h2⟩:=iu.1 hc
 obtain ⟨h3,h4⟩:=(hA k (by omega)).1 h1
 have e1:((k:Int)+1-1).toNat=k:=by omega
 have e2:((k:Int)+1).toNat=k+1:=by omega
 unfold eK lZ vU
 simp only [e1,e2,<-h4]
 by_cases c1:e+btw T last ((k:Int)+1)<=X (i+1)
 rotate_left
 ·rw [if_neg (fun h=>c1 h.2.1),if_neg (fun h=>c1 h.1)]
 by_cases c4:X (i+1)<=1000000000
 rotate_left
 ·rw [if_neg (fun h=>c4 h.2.2),if_neg (fun h=>c4 h.2.2)]
 rw [if_pos ⟨by omega,c1,c4⟩,if_pos (by omega)]
 by_cases c2:inn.getD k 0<=X (i+1)/\X (i+1)<=inn.getD k 0+syT T k
 rotate_left
 ·rw [if_neg (fun h=>c2 h.2),if_neg (fun h=>c2 h.2.1)]; rfl
 rw [if_pos ⟨h3,c2⟩,if_pos ⟨c1,c2,c4⟩]
 simp only [Option.bind_some,List.length_set]
 by_cases c5:k+1=b.length
 ·rw [if_neg (by omega),if_pos c5]; rfl
 ·rw [if_pos (by omega),if_neg c5]
  have hn:inn.getD (k+1) 0 = -1:=(hA (k+1) (by omega)).2 (h2.resolve_left c5)
  have hn2:(inn.set k (-1)).getD (k+1) 0 = -1:=by rw [gH,if_neg (by omega)]; exact hn
  rw [hn2,if_neg (by omega)]; rfl
theorem CS {T:aR} {rd:List Int} {X:Nat->Int} {b:List Bool} {inn:List Int} {a:Nat->Option Nat} (hR:RI T rd X b inn a) {k:Nat} (hk:k<b.length) (i:Nat) (h0:0<=X (i+1)+wT T+tmT T (k+1)) :
  RI T rd X (mvB b k) (if k+1=b.length then inn.set k (-1) else (inn.set k (-1)).set (k+1) (X (i+1)+wT T+tmT T (k+1))) (upd a (k+1) (i+1)):=by
 obtain ⟨hb,hi,hA⟩:=hR
 refine ⟨by rw [qB]; exact hb,by split <;> simp [hi],fun j hj=>?_⟩
 rw [DU hk]
 by_cases c5:k+1=b.length
 ·rw [if_pos c5,gH]
  by_cases h:j=k
  ·subst h
   rw [if_pos rfl,if_pos ⟨rfl,by omega⟩]
   exact ⟨fun h=>by simp at h,fun _=>rfl⟩
  ·rw [if_neg h,if_neg (by omega),if_neg (by omega)]
   have e:fV T rd (upd a (k+1) (i+1)) j=fV T rd a j:=by
    unfold fV upd; rw [if_neg (by omega)]
   rw [e]; exact hA j hj
 ·rw [if_neg c5,gH,gH,List.length_set]
  by_cases h:j=k
  ·subst h
   rw [if_pos rfl,if_neg (by omega),if_pos ⟨rfl,by omega⟩]
   exact ⟨fun h=>by simp at h,fun _=>rfl⟩
  ·by_cases h2:j=k+1
   ·subst h2
    rw [if_neg h,if_pos ⟨rfl,by omega⟩,if_pos ⟨rfl,by omega⟩]
    have e:fV T rd (upd a (k+1) (i+1)) (k+1)=(i+1,wT T+tmT T (k+1)):=by
     unfold fV upd; rw [if_pos rfl]
    rw [e]
    exact ⟨fun _=>⟨h0,by simp only; omega⟩,fun h=>by simp at h⟩
   ·rw [if_neg h,if_neg (by omega),if_neg (by omega),if_neg (by omega)]
    have e:fV T rd (upd a (k+1) (i+1)) j=fV T rd a j:=by
     unfold fV upd; rw [if_neg (by omega)]
    rw [e]; exact hA j hj
theorem yX {T:aR} {rd:List Int} {free:Int} {X:Nat->Int} (hv:a6 T) (hf:0<=free) (hX0:X 0=0):∀(o:List Int) (b:List Bool) (inn:List Int) (a:Nat->Option Nat) (i:Nat) (last e:Int),Emp b o->RI T rd X b inn a->0<=e->(if i=0 then e=free/\last = -2 else e=X i+wT T) ->
  ((∃s,sw T ⟨inn,last,e⟩ (mkX X i o)=some s)↔KX X (gq T rd free i last a o)/\∀j,i<j->j<=i+o.length->X j<=1000000000) /\
  ∀s,sw T ⟨inn,last,e⟩ (mkX X i o)=some s->s.fin=(if o=[] then e else X (i+o.length)+wT T)/\(∀k,s.inn.getD k 0<=0->True)/\s.inn.length=T.ch.length/\∀k,k<T.ch.length->s.inn.getD k 0 = -1
 | [],b,inn,a,i,last,e,hE,hR,he,hi=>by
  refine ⟨⟨fun _=>⟨fun a ha=>(by simp [gq] at ha),fun j h1 h2=>(by simp at h2; omega)⟩,fun _=>⟨_,rfl⟩⟩,fun s hs=>?_⟩
  injection hs with hs; subst hs
  refine ⟨by rw [if_pos rfl],fun _ _=>trivial,hR.2.1,fun k hk=>?_⟩
  exact (hR.2.2 k hk).2 (q5 hE k)
 | t :: r,b,inn,a,i,last,e,⟨k,ht,hk,hc,hr⟩,hR,he,hi=>by
  subst ht
  have hw:=en hv
  have hb:=oK hv last ((k:Int)+1)
  have e1:((k:Int)+1-1).toNat=k:=by omega
  have e2:((k:Int)+1).toNat=k+1:=by omega
  have hs:=z7 hv hR hk hc i last e he
  have hh:(X (hdT T free i last ((k:Int)+1)).f.toNat+(hdT T free i last ((k:Int)+1)).w<=X (hdT T free i last ((k:Int)+1)).t.toNat)↔e+btw T last ((k:Int)+1)<=X (i+1):=by
   unfold hdT
   by_cases h:i=0
   ·subst h
    rw [if_pos rfl] at hi ⊢
    have:btw T last ((k:Int)+1)=T.travel:=by
     unfold btw; rw [if_neg (by omega)]
    rw [this,hi.1]
    simp only [Int.toNat_zero,hX0,Nat.zero_add]
    show 0+(free+T.travel)<=X 1↔_
    omega
   ·rw [if_neg h] at hi ⊢
    rw [hi]
    simp only [Int.toNat_natCast]
    have:((i:Int)+1).toNat=i+1:=by omega
    rw [this]; omega
  have e3:((i:Int)+1).toNat=i+1:=by omega
  simp only [mkX,sw,gq,ue,hh,e1,e2,e3,Int.toNat_natCast,hs]
  by_cases hcond:(e+btw T last ((k:Int)+1)<=X (i+1))/\(X (fV T rd a k).1+(fV T rd a k).2<=X (i+1)/\X (i+1)<=X (fV T rd a k).1+(fV T rd a k).2+syT T k)/\X (i+1)<=1000000000
  rotate_left
  ·rw [if_neg hcond]
   refine ⟨⟨(by rintro ⟨s,h⟩; cases h),?_⟩,fun s h=>by cases h⟩
   rintro ⟨⟨h1,h2,h3,_⟩,h4⟩
   exact absurd ⟨h1,⟨h2,by omega⟩,h4 (i+1) (by omega) (by simp)⟩ hcond
  rw [if_pos hcond]
  obtain ⟨g1,g2,g3⟩:=hcond
  have hR':=CS hR hk i (by have:=(eR hv (k+1)).1; omega)
  have ih:=yX hv hf hX0 r (mvB b k) _ (upd a (k+1) (i+1)) (i+1) ((k:Int)+1) (X (i+1)+wT T) hr hR' (by omega) (by rw [if_neg (by omega)])
  simp only [Option.bind_some]
  refine ⟨ih.1.trans ⟨?_,?_⟩,fun s hs=>?_⟩
  ·rintro ⟨h1,h2⟩
   refine ⟨⟨g1,g2.1,by omega,h1⟩,fun j j1 j2=>?_⟩
   by_cases hj:j=i+1
   ·subst hj; exact g3
   ·exact h2 j (by omega) (by simp at j2; omega)
  ·rintro ⟨⟨_,_,_,h1⟩,h2⟩
   exact ⟨h1,fun j j1 j2=>h2 j (by omega) (by simp; omega)⟩
  ·obtain ⟨q1,q2⟩:=ih.2 s hs
   refine ⟨?_,q2⟩
   rw [q1,if_neg (show ¬ (((k:Int)+1) :: r=[]) by simp)]
   cases r with
   | nil=>simp
   | cons t' r'=>
    rw [if_neg (by simp)]
    simp only [List.length_cons]
    rw [show i+1+(r'.length+1)=i+(r'.length+1+1) by omega]
end Tr
namespace Tr
open Go
open Clu (aR a6)
open Cy (a7 lar jt fB cn dP okA lvM Pos rL dZ)
def b0 (rd:List Int):List Bool:=rd.map fun t=>decide (0<=t)
theorem ew (rd:List Int):(b0 rd).length=rd.length:=by simp [b0]
theorem Cp {rd:List Int} {k:Nat} (hk:k<rd.length):(b0 rd).getD k false=decide (0<=rd.getD k 0):=by
 simp [b0,List.getD_eq_getElem?_getD,List.getElem?_eq_getElem hk]
theorem xj {T:aR} {rd:List Int} {free:Int} (hS:Sit T rd free) (k:Nat) : -1<=rd.getD k 0/\rd.getD k 0<=500000:=by
 by_cases hk:k<rd.length
 ·rw [List.getD_eq_getElem?_getD,List.getElem?_eq_getElem hk]
  exact hS.2.2.2 _ (List.getElem_mem hk)
 ·rw [List.getD_eq_getElem?_getD,List.getElem?_eq_none (Nat.le_of_not_lt hk)]
  simp
theorem RI0 {T:aR} {rd:List Int} {free:Int} (hS:Sit T rd free) {X:Nat->Int} (hX:X 0=0):RI T rd X (b0 rd) rd (fun _=>none):=by
 refine ⟨by rw [ew]; exact hS.2.1,hS.2.1,fun k hk=>?_⟩
 have hk':k<rd.length:=by rw [hS.2.1]; exact hk
 have:=xj hS k
 rw [Cp hk']
 refine ⟨fun h=>?_,fun h=>?_⟩
 ·have h:=of_decide_eq_true h
  refine ⟨h,?_⟩
  show _=X 0+rd.getD k 0
  omega
 ·have h:=of_decide_eq_false h
  omega
theorem vw {T:aR} {rd:List Int} {free:Int} (hS:Sit T rd free) {X:Nat->Int} (hX:X 0=0) {o:List Int} (hE:Emp (b0 rd) o) :
  ((∃s,sw T (st0 rd free) (mkX X 0 o)=some s)↔KX X (cf T rd free o)/\∀j,0<j->j<=o.length->X j<=1000000000) /\
  ∀s,sw T (st0 rd free) (mkX X 0 o)=some s->s.fin=(if o=[] then free else X o.length+wT T)/\s.inn.length=T.ch.length/\∀k,k<T.ch.length->s.inn.getD k 0 = -1:=by
 have h:=yX (T:=T) (rd:=rd) (free:=free) hS.1.1 hS.2.2.1.1 hX o (b0 rd) rd (fun _=>none) 0 (-2) free hE (RI0 hS hX) hS.2.2.1.1 (by rw [if_pos rfl]; exact ⟨rfl,rfl⟩)
 rw [Nat.zero_add] at h
 exact ⟨h.1,fun s hs=>⟨(h.2 s hs).1,(h.2 s hs).2.2⟩⟩
theorem uh:∀ {b:List Bool} {o:List Int},Emp b o->∀t∈o,1<=t/\t<=b.length
 | _,[],_=>fun t ht=>by cases ht
 | b,t :: r,⟨k,e,hk,_,hr⟩=>fun x hx=>by
  rcases List.mem_cons.1 hx with rfl | hx
  ·omega
  ·have:=uh hr x hx
   rw [qB] at this; exact this
theorem vA {T:aR} {rd:List Int} {free:Int} (hS:Sit T rd free) (N:Int):∀(o:List Int) (i:Nat) (last:Int) (a:Nat->Option Nat),(∀k p,a k=some p->p<=i)->(i:Int)+o.length<=N-1->(i=0->o≠[]->free+T.travel<=1000000)->∀x∈gq T rd free i last a o,okA N x/\x.k=0
 | [],i,last,a,ha,hn,hf=>fun x hx=>by cases hx
 | t :: r,i,last,a,ha,hn,hf=>fun x hx=>by
  have hw:=en hS.1.1
  have hb:=oK hS.1.1 last t
  have hc:=eR hS.1.1 (t-1).toNat
  have hfr:=hS.2.2.1
  have hrd:=xj hS (t-1).toNat
  have hs:(fV T rd a (t-1).toNat).1<=i /\ -1<=(fV T rd a (t-1).toNat).2/\(fV T rd a (t-1).toNat).2<=500000:=by
   unfold fV
   split
   ·rename_i p hp
    exact ⟨ha _ _ hp,by simp only; omega,by simp only; omega⟩
   ·exact ⟨Nat.zero_le _,by simp only; omega,by simp only; omega⟩
  obtain ⟨s1,s2,s3⟩:=hs
  simp only [List.length_cons] at hn
  simp only [gq,List.mem_cons] at hx
  rcases hx with rfl | rfl | rfl | hx
  ·unfold hdT
   split
   ·have:=hf (by assumption) (by simp)
    refine ⟨⟨⟨by simp,by simp only; omega⟩,⟨by simp,by simp only; omega⟩,⟨by simp only; omega,by simp only; omega⟩,by simp⟩,rfl⟩
   ·refine ⟨⟨⟨by simp,by simp only; omega⟩,⟨by simp only; omega,by simp only; omega⟩,⟨by simp only; omega,by simp only; omega⟩,by simp⟩,rfl⟩
  ·exact ⟨⟨⟨by simp,by simp only; omega⟩,⟨by simp only; omega,by simp only; omega⟩,⟨by simp only; omega,by simp only; omega⟩,by simp⟩,rfl⟩
  ·exact ⟨⟨⟨by simp only; omega,by simp only; omega⟩,⟨by simp,by simp only; omega⟩,⟨by simp only; omega,by simp only; omega⟩,by simp⟩,rfl⟩
  ·refine vA hS N r (i+1) t _ (fun k p hp=>?_) (by push_cast; omega) (fun h=>by omega) x hx
   unfold upd at hp
   split at hp
   ·injection hp with hp; omega
   ·have:=ha k p hp; omega
theorem oM (T:aR) (rd:List Int) (free:Int):∀(o:List Int) (i:Nat) (last:Int) (a:Nat->Option Nat),(gq T rd free i last a o).length=3*o.length
 | [],_,_,_=>rfl
 | t :: r,i,last,a=>by simp only [gq,List.length_cons,oM T rd free r]; omega
theorem CD {T:aR} {rd:List Int} {free:Int} (hS:Sit T rd free) {X:Nat->Int} (hX0:X 0=0):∀(o:List Int) (i:Nat) (last:Int) (a:Nat->Option Nat),KX X (gq T rd free i last a o)->0<=X i->∀j,i<=j->j<=i+o.length->0<=X j
 | [],i,last,a,hK,hi,j,h1,h2=>by
  have:j=i:=by simp at h2; omega
  rw [this]; exact hi
 | t :: r,i,last,a,hK,hi,j,h1,h2=>by
  by_cases hj:j=i
  ·rw [hj]; exact hi
  simp only [gq,ue] at hK
  obtain ⟨k1,_,_,k4⟩:=hK
  have hw:=en hS.1.1
  have hb:=oK hS.1.1 last t
  have hfr:=hS.2.2.1
  have:0<=X (i+1):=by
   unfold hdT at k1
   split at k1
   ·rename_i h0
    subst h0
    simp only [Int.toNat_zero] at k1
    have e:(1:Int).toNat=1:=rfl
    rw [e] at k1
    show 0<=X 1
    omega
   ·simp only [Int.toNat_natCast] at k1
    have e:((i:Int)+1).toNat=i+1:=by omega
    rw [e] at k1
    omega
  exact CD hS hX0 r (i+1) t _ k4 this j (by omega) (by simp at h2; omega)
def lX (X:Nat->Int) (m:Nat):List Int:=(List.range m).map X
theorem BE (X:Nat->Int) {m j:Nat} (h:j<m):(lX X m).getD j 0=X j:=by simp [lX,List.getD_eq_getElem?_getD,h]
theorem Gf (X:Nat->Int) (m:Nat):(lX X m).length=m:=by simp [lX]
theorem uT {n:Int} {L:List a7} (hL:∀x∈L,okA n x/\x.k=0) {s:List Int} {X:Nat->Int} (hs:∀j:Nat,(j:Int)<n->s.getD j 0=X j):jt (lar 0 L) s↔KX X L:=by
 unfold jt KX lar
 constructor
 ·intro h a ha
  have:=h _ (List.mem_map.2 ⟨a,ha,rfl⟩)
  obtain ⟨⟨o1,o2,_,_⟩,o3⟩:=hL a ha
  simp only [a7.len,o3] at this
  rw [hs _ (by omega),hs _ (by omega)] at this
  omega
 ·intro h x hx
  obtain ⟨a,ha,rfl⟩:=List.mem_map.1 hx
  have:=h a ha
  obtain ⟨⟨o1,o2,_,_⟩,o3⟩:=hL a ha
  simp only [a7.len,o3]
  rw [hs _ (by omega),hs _ (by omega)]
  omega
def dp (T:aR) (rd:List Int) (free:Int) (o:List Int):Option (List cS):=
 if (lvM ((o.length:Int)+1) (cf T rd free o) 0).2.2=true/\(lvM ((o.length:Int)+1) (cf T rd free o) 0).1.getD 0 0=0 then
  some (mkX (fun j=>(lvM ((o.length:Int)+1) (cf T rd free o) 0).1.getD j 0) 0 o) else none
theorem zh {rd:List Int} (h4:rd.length<=4):mB (b0 rd)<=10:=F2 _ (by rw [ew]; exact h4)
theorem gu {T:aR} {rd:List Int} {free:Int} (hS:Sit T rd free):1<=rd.length/\rd.length<=4:=by
 have:=hS.1.1.2.2; rw [hS.2.1]; omega
theorem qT {T:aR} {rd:List Int} {free:Int} (hS:Sit T rd free) {o:List Int} (hE:Emp (b0 rd) o):o.length<=10:=by
 rw [zI hE]; exact zh (gu hS).2
theorem eY {T:aR} {rd:List Int} {free:Int} (hS:Sit T rd free) {o:List Int} (hE:Emp (b0 rd) o) (hf:o≠[]->free+T.travel<=1000000):cn ((o.length:Int)+1) (cf T rd free o) 0/\∀x∈cf T rd free o,okA ((o.length:Int)+1) x/\x.k=0:=by
 have hl:=qT hS hE
 have h:=vA hS ((o.length:Int)+1) o 0 (-2) (fun _=>none) (fun k p h=>by cases h) (by push_cast; omega) (fun _=>hf)
 refine ⟨⟨⟨⟨by omega,by omega⟩,?_,fun a ha=>(h a ha).1⟩,by unfold Cy.cz; omega⟩,h⟩
 unfold cf
 rw [oM]; omega
theorem xO {T:aR} {rd:List Int} {free:Int} (hS:Sit T rd free) {X:Nat->Int} (hX:X 0=0) {o:List Int} (hE:Emp (b0 rd) o) (hne:o≠[]) (hK:KX X (cf T rd free o)):free+T.travel<=1000000:=by
 cases o with
 | nil=>exact absurd rfl hne
 | cons t r=>
  unfold cf at hK
  simp only [gq,ue] at hK
  obtain ⟨k1,_,k3,_⟩:=hK
  have hc:=eR hS.1.1 (t-1).toNat
  have hrd:=xj hS (t-1).toNat
  have e1:(1:Int).toNat=1:=rfl
  have e2:((0:Nat):Int)+1=1:=rfl
  simp only [hdT,if_pos,fV,Int.toNat_zero,e1,e2,Int.toNat_natCast,hX] at k1 k3
  omega
theorem Eu {T:aR} {rd:List Int} {free:Int} (hS:Sit T rd free) {Y:Nat->Int} (hY:Y 0=0) {o:List Int} (hE:Emp (b0 rd) o) (h:∃s,sw T (st0 rd free) (mkX Y 0 o)=some s) :
  cn ((o.length:Int)+1) (cf T rd free o) 0/\fB ((o.length:Int)+1) (cf T rd free o) 0 (lX Y (o.length+1)):=by
 obtain ⟨hK,hB⟩:=(vw hS hY hE).1.1 h
 obtain ⟨hR,hA⟩:=eY hS hE (fun hne=>xO hS hY hE hne hK)
 refine ⟨hR,hR,by rw [Gf]; push_cast; rfl,fun x hx=>?_,(uT hA (fun j hj=>BE Y (by omega))).2 hK⟩
 obtain ⟨j,hj,rfl⟩:=List.mem_map.1 hx
 have hj:=List.mem_range.1 hj
 have hp:=CD hS hY o 0 _ _ hK (by omega) j (Nat.zero_le _) (by omega)
 refine ⟨hp,?_⟩
 by_cases h0:j=0
 ·rw [h0,hY]; omega
 ·exact hB j (by omega) (by omega)
theorem ky {T:aR} {rd:List Int} {free:Int} (hS:Sit T rd free) {o:List Int} (hE:Emp (b0 rd) o) {l:List cS} (h:dp T rd free o=some l) :
  ∃X:Nat->Int,X 0=0/\l=mkX X 0 o/\(∃s,sw T (st0 rd free) l=some s)/\∀Y:Nat->Int,Y 0=0->(∃s,sw T (st0 rd free) (mkX Y 0 o)=some s)->∀j,j<=o.length->X j<=Y j:=by
 unfold dp at h
 split at h
 ·rename_i hc
  obtain ⟨h1,h2⟩:=hc
  injection h with h
  have hR:cn ((o.length:Int)+1) (cf T rd free o) 0:=by
   unfold lvM at h1
   split at h1
   ·assumption
   ·cases h1
  obtain ⟨_,hv,hm,hl⟩:=dZ hR h1
  have hA:∀x∈cf T rd free o,okA ((o.length:Int)+1) x/\x.k=0:=by
   refine (eY hS hE (fun hne=>?_)).2
   cases o with
   | nil=>exact absurd rfl hne
   | cons t r=>
    have:=(hR.1.2.2 (hdT T free 0 (-2) t) (by unfold cf; simp [gq])).2.2.1.2
    simpa [hdT] using this
  refine ⟨_,h2,h.symm,?_,fun Y hY hYc j hj=>?_⟩
  ·rw [<-h]
   refine (vw hS h2 hE).1.2 ⟨(uT hA (fun j _=>rfl)).1 hv.2.2.2,fun j hj1 hj2=>?_⟩
   have hjl:j<(lvM ((o.length:Int)+1) (cf T rd free o) 0).1.length:=by have:=hv.2.1; omega
   have:=(hv.2.2.1 _ (List.getElem_mem hjl)).2
   simp only [List.getD_eq_getElem?_getD,List.getElem?_eq_getElem hjl,Option.getD_some]
   exact this
  ·have:=hl _ (Eu hS hY hE hYc).2 j (by omega)
   rw [BE Y (by omega)] at this
   exact this
 ·cases h
def gk (T:aR) (rd:List Int) (free:Int) (s:Option (List cS × Int)) (o:List Int):Option (List cS × Int):=
 match dp T rd free o with
 | none=>s
 | some l=>match s with
  | none=>some (l,(fQ T rd free l).getD 0)
  | some x=>if (fQ T rd free l).getD 0<x.2 then some (l,(fQ T rd free l).getD 0) else some x
def drF (T:aR) (rd:List Int) (free:Int):Option (List cS × Int):=(qz 10 (b0 rd)).foldl (gk T rd free) none
def b7 (T:aR) (rd:List Int) (free:Int):Option (List cS):=if Sit T rd free then (drF T rd free).map (·.1) else none
theorem x6 (T:aR) (rd:List Int) (free:Int):∀(os:List (List Int)) (s:Option (List cS × Int)),
  (os.foldl (gk T rd free) s=none↔s=none/\∀o∈os,dp T rd free o=none) /\
  ∀x,os.foldl (gk T rd free) s=some x->(s=some x\/∃o∈os,dp T rd free o=some x.1/\x.2=(fQ T rd free x.1).getD 0)/\(∀y,s=some y->x.2<=y.2)/\∀o∈os,∀l,dp T rd free o=some l->x.2<=(fQ T rd free l).getD 0
 | [],s=>⟨⟨fun h=>⟨h,fun o ho=>by cases ho⟩,fun h=>h.1⟩,fun x hx=>⟨.inl hx,fun y hy=>(by
   have hx':s=some x:=hx
   rw [hx'] at hy; injection hy with hy; rw [hy]; exact Int.le_refl _),fun o ho=>(by cases ho)⟩⟩
 | o :: os,s=>by
  have ih:=x6 T rd free os (gk T rd free s o)
  simp only [List.foldl_cons]
  cases ht:dp T rd free o with
  | none=>
   have e:gk T rd free s o=s:=by unfold gk; rw [ht]
   rw [e] at ih ⊢
   refine ⟨ih.1.trans ⟨fun h=>⟨h.1,fun o' ho'=>?_⟩,fun h=>⟨h.1,fun o' ho'=>h.2 o' (List.mem_cons_of_mem _ ho')⟩⟩,fun x hx=>?_⟩
   ·rcases List.mem_cons.1 ho' with rfl | ho'
    ·exact ht
    ·exact h.2 o' ho'
   ·obtain ⟨h1,h2,h3⟩:=ih.2 x hx
    refine ⟨h1.imp id (fun ⟨o',k1,k2⟩=>⟨o',List.mem_cons_of_mem _ k1,k2⟩),h2,fun o' ho' l hl=>?_⟩
    rcases List.mem_cons.1 ho' with rfl | ho'
    ·rw [ht] at hl; cases hl
    ·exact h3 o' ho' l hl
  | some l=>
   obtain ⟨z,hz,hz1,hz2,hz3⟩:∃z,gk T rd free s o=some z/\(s=some z\/z.1=l/\z.2=(fQ T rd free l).getD 0)/\(∀y,s=some y->z.2<=y.2)/\z.2<=(fQ T rd free l).getD 0:=by
    unfold gk
    rw [ht]
    cases s with
    | none=>exact ⟨_,rfl,.inr ⟨rfl,rfl⟩,fun y hy=>(by cases hy),Int.le_refl _⟩
    | some y=>
     simp only
     split
     ·rename_i hlt
      exact ⟨_,rfl,.inr ⟨rfl,rfl⟩,fun y' hy=>(by injection hy with hy; subst hy; simp only; omega),Int.le_refl _⟩
     ·rename_i hlt
      exact ⟨_,rfl,.inl rfl,fun y' hy=>(by injection hy with hy; subst hy; exact Int.le_refl _),by omega⟩
   rw [hz] at ih ⊢
   refine ⟨⟨fun h=>(by have:=ih.1.1 h; cases this.1),fun h=>(by have:=h.2 o List.mem_cons_self; rw [ht] at this; cases this)⟩,fun x hx=>?_⟩
   obtain ⟨h1,h2,h3⟩:=ih.2 x hx
   refine ⟨?_,fun y hy=>?_,fun o' ho' l' hl'=>?_⟩
   ·rcases h1 with h1 | ⟨o',k1,k2⟩
    ·injection h1 with h1
     subst h1
     rcases hz1 with h | ⟨e1,e2⟩
     ·exact .inl h
     ·exact .inr ⟨o,List.mem_cons_self,by rw [e1]; exact ht,by rw [e1,e2]⟩
    ·exact .inr ⟨o',List.mem_cons_of_mem _ k1,k2⟩
   ·have:=h2 z rfl
    have:=hz2 y hy
    omega
   ·rcases List.mem_cons.1 ho' with rfl | ho'
    ·rw [ht] at hl'; injection hl' with hl'
     subst hl'
     have:=h2 z rfl
     omega
    ·exact h3 o' ho' l' hl'
theorem tE {T:aR} {rd:List Int} {free:Int} (hS:Sit T rd free) {o:List Int}:o∈qz 10 (b0 rd)↔Emp (b0 rd) o:=qy 10 _ _ (zh (gu hS).2)
theorem wR {T:aR} {rd:List Int} {free:Int} (hS:Sit T rd free) {o:List Int} (hE:Emp (b0 rd) o) {l:List cS} (h:dp T rd free o=some l):∃e,fQ T rd free l=some e:=by
 obtain ⟨X,_,_,⟨s,hs⟩,_⟩:=ky hS hE h
 exact ⟨s.fin,by unfold fQ; rw [if_pos hS,hs]; rfl⟩
theorem qa {T:aR} {rd:List Int} {free:Int} {l:List cS} (h:b7 T rd free=some l) :
  Sit T rd free/\∃o e,Emp (b0 rd) o/\dp T rd free o=some l/\fQ T rd free l=some e/\drF T rd free=some (l,e)/\∀o' l' e',Emp (b0 rd) o'->dp T rd free o'=some l'->fQ T rd free l'=some e'->e<=e':=by
 unfold b7 at h
 split at h
 ·rename_i hS
  refine ⟨hS,?_⟩
  cases hd:drF T rd free with
  | none=>rw [hd] at h; cases h
  | some x=>
   rw [hd] at h
   injection h with h
   have h:x.1=l:=h
   obtain ⟨h1,_,h3⟩:=(x6 T rd free (qz 10 (b0 rd)) none).2 x hd
   rcases h1 with h1 | ⟨o,k1,k2,k3⟩
   ·cases h1
   ·have hE:=(tE hS).1 k1
    obtain ⟨e,he⟩:=wR hS hE k2
    rw [he] at k3
    have k3:x.2=e:=k3
    rw [h] at k2 he
    refine ⟨o,e,hE,k2,he,by rw [<-h,<-k3],fun o' l' e' hE' ht' he'=>?_⟩
    have:=h3 o' ((tE hS).2 hE') l' ht'
    rw [he'] at this
    have this:x.2<=e':=this
    omega
 ·cases h
end Tr
namespace Tr
open Go
def iS:MC:=.seq (.region [⟨some 27,.bin .lss (.var 26) (.var 25),none⟩]) (.seq (.cond (.var 27) .skip (.exit 0)) (.seq (.seq (.block 1 (.seq (.region [⟨none,.mv (.var 26),none⟩,⟨some 11,.mv (.tmp 0),none⟩]) (.seq (.region [⟨none,.mv (.var 9),none⟩,⟨none,.mv (.var 11),none⟩,⟨none,.indexSl 2 (.tmp 0) (.tmp 1),none⟩,⟨none,.fieldAddr 0 (.tmp 2),none⟩,⟨none,.load false 1 (.tmp 3),none⟩,⟨none,.mv (.var 3),none⟩,⟨some 28,.bin .geq (.tmp 4) (.tmp 5),none⟩]) (.cond (.var 28) (.region [⟨none,.mv (.var 9),none⟩,⟨none,.mv (.var 11),none⟩,⟨none,.indexSl 2 (.tmp 0) (.tmp 1),none⟩,⟨none,.fieldAddr 0 (.tmp 2),none⟩,⟨none,.load false 1 (.tmp 3),none⟩,⟨none,.bin .add (.tmp 4) (.cst (.int .i64 1)),none⟩,⟨none,.indexSl 2 (.tmp 0) (.tmp 1),none⟩,⟨none,.fieldAddr 0 (.tmp 6),none⟩,⟨none,.store 1 (.tmp 7) (.tmp 5),none⟩]) .skip)))) (.kill [0,1,2,4,5,6,7,8,11,12,13,14,15,16,17,18,19,20,21,22,23,24,27,28,29,30,31,32,33,34,35,36])) (.region [⟨none,.bin .add (.var 26) (.cst (.int .i64 1)),none⟩,⟨some 26,.mv (.tmp 0),none⟩])))
def lJ:MC:=.seq (.region [⟨some 32,.bin .lss (.var 31) (.var 30),none⟩]) (.seq (.cond (.var 32) .skip (.exit 2)) (.seq (.seq (.block 3 (.seq (.region [⟨none,.mv (.var 31),none⟩,⟨none,.indexSl 1 (.var 29) (.var 31),none⟩,⟨none,.load false 1 (.tmp 1),none⟩,⟨some 13,.mv (.tmp 0),none⟩,⟨some 14,.mv (.tmp 2),none⟩]) (.region [⟨none,.mv (.var 12),none⟩,⟨none,.mv (.var 13),none⟩,⟨none,.mv (.var 14),none⟩,⟨none,.bin .geq (.tmp 2) (.cst (.int .i64 0)),none⟩,⟨none,.indexSl 1 (.tmp 0) (.tmp 1),none⟩,⟨none,.store 1 (.tmp 4) (.tmp 3),none⟩]))) (.kill [0,1,2,3,7,8,9,10,11,13,14,15,16,17,18,19,20,21,22,23,24,25,26,27,28,32,33,34,35,36])) (.region [⟨none,.bin .add (.var 31) (.cst (.int .i64 1)),none⟩,⟨some 31,.mv (.tmp 0),none⟩])))
def pS:MC:=.region [⟨some 18,.mv (.var 34),none⟩]
def jT:MC:=.seq (.block 5 (.seq (.region [⟨none,.load true 5 (.var 4),none⟩,⟨none,.load false 1 (.var 5),none⟩,⟨none,.load false 1 (.var 6),none⟩,⟨none,.mv (.var 18),none⟩,⟨none,.call (.fn 34) [.tmp 0,.tmp 1,.tmp 2,.tmp 3],none⟩,⟨none,.mv (.tmp 4),none⟩,⟨none,.extract (.tmp 5) 0,none⟩,⟨none,.extract (.tmp 5) 1,none⟩,⟨some 19,.mv (.tmp 6),none⟩,⟨some 20,.mv (.tmp 7),none⟩]) (.seq (.seq (.region [⟨none,.mv (.var 20),none⟩,⟨some 35,.un .not (.tmp 0),none⟩]) (.cond (.var 35) (.exit 5) .skip)) (.seq (.region [⟨none,.load true 5 (.var 4),none⟩,⟨none,.load false 1 (.var 5),none⟩,⟨none,.load false 1 (.var 6),none⟩,⟨none,.mv (.var 19),none⟩,⟨none,.call (.fn 17) [.tmp 0,.tmp 1,.tmp 2,.tmp 3],none⟩,⟨none,.mv (.tmp 4),none⟩,⟨none,.extract (.tmp 5) 0,none⟩,⟨none,.extract (.tmp 5) 1,none⟩,⟨some 21,.mv (.tmp 6),none⟩,⟨none,.mv (.tmp 7),none⟩]) (.seq (.region [⟨none,.load false 1 (.var 17),none⟩,⟨none,.un .not (.tmp 0),none⟩,⟨none,.mv (.tmp 1),none⟩,⟨none,.mv (.var 21),some (.tmp 2,false)⟩,⟨none,.load false 1 (.var 16),some (.tmp 2,false)⟩,⟨none,.bin .lss (.tmp 3) (.tmp 4),some (.tmp 2,false)⟩,⟨some 36,.pick (.tmp 2) (.cst (.bool true)) (.tmp 5),none⟩]) (.cond (.var 36) (.region [⟨none,.mv (.var 19),none⟩,⟨none,.mv (.var 21),none⟩,⟨none,.store 1 (.var 15) (.tmp 0),none⟩,⟨none,.store 1 (.var 16) (.tmp 1),none⟩,⟨none,.store 1 (.var 17) (.cst (.bool true)),none⟩]) .skip)))))) (.kill [0,1,2,3,4,5,6,7,8,9,10,11,12,13,14,15,16,17,18,19,20,21,22,23,24,25,26,27,28,29,30,31,32,33,34,35,36])
def kC:cB:=⟨4,37,.seq (.region [⟨some 4,.box (.var 0),none⟩,⟨some 5,.box (.var 1),none⟩,⟨some 6,.box (.var 2),none⟩,⟨some 7,.mv (.cst .nilS),none⟩,⟨some 8,.mv (.cst (.bool false)),none⟩]) (.seq (.seq (.region [⟨none,.load true 5 (.var 4),none⟩,⟨none,.load false 1 (.var 5),none⟩,⟨none,.load false 1 (.var 6),none⟩,⟨none,.call (.fn 29) [.tmp 0,.tmp 1,.tmp 2],none⟩,⟨none,.un .not (.tmp 3),none⟩,⟨none,.mv (.tmp 4),none⟩,⟨none,.mv (.var 3),some (.tmp 5,false)⟩,⟨none,.load false 1 (.var 5),some (.tmp 5,false)⟩,⟨none,.lenSl (.tmp 7),some (.tmp 5,false)⟩,⟨none,.call (.fn 30) [.tmp 6,.cst (.int .i64 0),.tmp 8],some (.tmp 5,false)⟩,⟨none,.un .not (.tmp 9),some (.tmp 5,false)⟩,⟨some 22,.pick (.tmp 5) (.cst (.bool true)) (.tmp 10),none⟩]) (.cond (.var 22) (.seq (.region [⟨some 7,.mv (.cst .nilS),none⟩,⟨some 8,.mv (.cst (.bool false)),none⟩]) .ret) .skip)) (.seq (.seq (.region [⟨none,.mv (.var 3),none⟩,⟨some 23,.bin .gtr (.tmp 0) (.cst (.int .i64 0)),none⟩]) (.cond (.var 23) (.seq (.region [⟨none,.fieldAddr 0 (.var 4),none⟩,⟨none,.load false 1 (.tmp 0),none⟩,⟨none,.mv (.var 3),none⟩,⟨none,.bin .sub (.tmp 2) (.cst (.int .i64 1)),none⟩,⟨none,.call (.fn 31) [.tmp 1,.tmp 3],none⟩,⟨none,.fieldAddr 0 (.var 4),none⟩,⟨none,.store 1 (.tmp 5) (.tmp 4),none⟩]) (.seq (.seq (.region [⟨none,.fieldAddr 0 (.var 4),none⟩,⟨none,.load false 1 (.tmp 0),none⟩,⟨none,.lenSl (.tmp 1),none⟩,⟨some 24,.bin .eql (.tmp 2) (.cst (.int .i64 0)),none⟩]) (.cond (.var 24) (.seq (.region [⟨some 7,.mv (.cst .nilS),none⟩,⟨some 8,.mv (.cst (.bool true)),none⟩]) .ret) .skip)) (.seq (.regionD [] [⟨none,.load true 5 (.var 4),none⟩,⟨none,.load false 1 (.var 5),none⟩,⟨none,.mv (.var 3),none⟩,⟨none,.bin .sub (.tmp 2) (.cst (.int .i64 1)),none⟩,⟨none,.call (.fn 32) [.tmp 1,.tmp 3],none⟩,⟨none,.load false 1 (.var 6),none⟩,⟨none,.call (.fn 14) [.tmp 0,.tmp 4,.tmp 5,.cst (.int .i64 0)],none⟩,⟨none,.mv (.tmp 6),none⟩,⟨none,.extract (.tmp 7) 0,none⟩,⟨none,.extract (.tmp 7) 1,none⟩,⟨some 9,.mv (.tmp 8),none⟩,⟨some 10,.mv (.tmp 9),none⟩] [(0,4),(4,5)]) (.seq (.seq (.region [⟨none,.mv (.var 9),none⟩,⟨some 25,.lenSl (.tmp 0),none⟩,⟨some 26,.mv (.cst (.int .i64 0)),none⟩]) (.seq (.block 0 (.loop [0,1,2,4,5,6,7,8,11,12,13,14,15,16,17,18,19,20,21,22,23,24,27,28,29,30,31,32,33,34,35,36] iS)) (.kill [0,1,2,3,4,5,6,7,8,11,12,13,14,15,16,17,18,19,20,21,22,23,24,25,26,27,28,29,30,31,32,33,34,35,36]))) (.seq (.region [⟨none,.mv (.var 9),none⟩,⟨none,.mv (.var 10),none⟩,⟨some 7,.mv (.tmp 0),none⟩,⟨some 8,.mv (.tmp 1),none⟩]) .ret))))) .skip)) (.seq (.region [⟨none,.load false 1 (.var 5),none⟩,⟨none,.lenSl (.tmp 0),none⟩,⟨none,.makeSlice 1 1 (.bool false) (.tmp 1) (.tmp 1),none⟩,⟨some 12,.mv (.tmp 2),none⟩]) (.seq (.seq (.region [⟨some 29,.load false 1 (.var 5),none⟩,⟨some 30,.lenSl (.var 29),none⟩,⟨some 31,.mv (.cst (.int .i64 0)),none⟩]) (.seq (.block 2 (.loop [0,1,2,3,7,8,9,10,11,13,14,15,16,17,18,19,20,21,22,23,24,25,26,27,28,32,33,34,35,36] lJ)) (.kill [0,1,2,3,7,8,9,10,11,13,14,15,16,17,18,19,20,21,22,23,24,25,26,27,28,29,30,31,32,33,34,35,36]))) (.seq (.region [⟨some 15,.alloc 1 .nilS,none⟩]) (.seq (.region [⟨some 16,.alloc 1 (.int .i64 0),none⟩,⟨some 17,.alloc 1 (.bool false),none⟩,⟨none,.store 1 (.var 16) (.cst (.int .i64 0)),none⟩,⟨none,.store 1 (.var 17) (.cst (.bool false)),none⟩]) (.seq (.seq (.region [⟨none,.mv (.var 12),none⟩,⟨some 33,.call (.fn 33) [.tmp 0],none⟩]) (.seq (.block 4 (.rangeFunc (.var 33) [34] pS jT)) (.kill [0,1,2,3,4,5,6,7,8,9,10,11,12,13,14,16,18,19,20,21,22,23,24,25,26,27,28,29,30,31,32,33,34,35,36]))) (.seq (.region [⟨none,.load false 1 (.var 15),none⟩,⟨none,.load false 1 (.var 17),none⟩,⟨some 7,.mv (.tmp 0),none⟩,⟨some 8,.mv (.tmp 1),none⟩]) .ret)))))))),[.tmp 7,.tmp 8]⟩
def im:List Nat:=[0,1,2,4,5,6,7,8,11,12,13,14,15,16,17,18,19,20,21,22,23,24,27,28,29,30,31,32,33,34,35,36]
abbrev lj (v3 v9 v10 v25 v26:AV):List AV:=[.undef,.undef,.undef,v3,.undef,.undef,.undef,.undef,.undef,v9,v10,.undef,.undef,.undef,.undef,.undef,.undef,.undef,.undef,.undef,.undef,.undef,.undef,.undef,.undef,v25,v26,.undef,.undef,.undef,.undef,.undef,.undef,.undef,.undef,.undef,.undef]
theorem vu {d0 d1 d2 v3 d4 d5 d6 d7 d8 v9 v10 d11 d12 d13 d14 d15 d16 d17 d18 d19 d20 d21 d22 d23 d24 v25 v26 d27 d28 d29 d30 d31 d32 d33 d34 d35 d36:AV}:clear im [d0,d1,d2,v3,d4,d5,d6,d7,d8,v9,v10,d11,d12,d13,d14,d15,d16,d17,d18,d19,d20,d21,d22,d23,d24,v25,v26,d27,d28,d29,d30,d31,d32,d33,d34,d35,d36]=lj v3 v9 v10 v25 v26:=by simp only [im,clear,List.foldl_cons,List.foldl_nil,List.set_cons_zero,List.set_cons_succ]
theorem Gz {E:Env} {fuel:Nat} {A:aa} {o:Out} {k:List KC} {d0 d1 d2 v3 d4 d5 d6 d7 d8 v9 v10 d11 d12 d13 d14 d15 d16 d17 d18 d19 d20 d21 d22 d23 d24 v25 v26 d27 d28 d29 d30 d31 d32 d33 d34 d35 d36:AV} (h:b8 (evC E fuel iS) im fuel (lj v3 v9 v10 v25 v26) A=some o) :
  run E fuel (.code (.loop [0,1,2,4,5,6,7,8,11,12,13,14,15,16,17,18,19,20,21,22,23,24,27,28,29,30,31,32,33,34,35,36] iS) :: k) [d0,d1,d2,v3,d4,d5,d6,d7,d8,v9,v10,d11,d12,d13,d14,d15,d16,d17,d18,d19,d20,d21,d22,d23,d24,v25,v26,d27,d28,d29,d30,d31,d32,d33,d34,d35,d36] A=after E fuel k o:=aU im _ _ (by rw [vu]; exact h)
def il:List Nat:=[0,1,2,3,7,8,9,10,11,13,14,15,16,17,18,19,20,21,22,23,24,25,26,27,28,32,33,34,35,36]
abbrev nt (v4 v5 v6 v12 v29 v30 v31:AV):List AV:=[.undef,.undef,.undef,.undef,v4,v5,v6,.undef,.undef,.undef,.undef,.undef,v12,.undef,.undef,.undef,.undef,.undef,.undef,.undef,.undef,.undef,.undef,.undef,.undef,.undef,.undef,.undef,.undef,v29,v30,v31,.undef,.undef,.undef,.undef,.undef]
theorem yW {d0 d1 d2 d3 v4 v5 v6 d7 d8 d9 d10 d11 v12 d13 d14 d15 d16 d17 d18 d19 d20 d21 d22 d23 d24 d25 d26 d27 d28 v29 v30 v31 d32 d33 d34 d35 d36:AV}:clear il [d0,d1,d2,d3,v4,v5,v6,d7,d8,d9,d10,d11,v12,d13,d14,d15,d16,d17,d18,d19,d20,d21,d22,d23,d24,d25,d26,d27,d28,v29,v30,v31,d32,d33,d34,d35,d36]=nt v4 v5 v6 v12 v29 v30 v31:=by simp only [il,clear,List.foldl_cons,List.foldl_nil,List.set_cons_zero,List.set_cons_succ]
theorem Gy {E:Env} {fuel:Nat} {A:aa} {o:Out} {k:List KC} {d0 d1 d2 d3 v4 v5 v6 d7 d8 d9 d10 d11 v12 d13 d14 d15 d16 d17 d18 d19 d20 d21 d22 d23 d24 d25 d26 d27 d28 v29 v30 v31 d32 d33 d34 d35 d36:AV} (h:b8 (evC E fuel lJ) il fuel (nt v4 v5 v6 v12 v29 v30 v31) A=some o) :
  run E fuel (.code (.loop [0,1,2,3,7,8,9,10,11,13,14,15,16,17,18,19,20,21,22,23,24,25,26,27,28,32,33,34,35,36] lJ) :: k) [d0,d1,d2,d3,v4,v5,v6,d7,d8,d9,d10,d11,v12,d13,d14,d15,d16,d17,d18,d19,d20,d21,d22,d23,d24,d25,d26,d27,d28,v29,v30,v31,d32,d33,d34,d35,d36] A=after E fuel k o:=aU il _ _ (by rw [yW]; exact h)
theorem kn:aE Try.prog Try.f14 4 [0,1,2,3,4,5,6,8,9,10,11,12,13,14,15,16,17,18,19,20,21,22,35,37,47,59,60,61,69,84,85,86,87,98,99,109,124] [] true ([[0,1,2,4,5,6,7,8,11,12,13,14,15,16,17,18,19,20,21,22,23,24,27,28,29,30,31,32,33,34,35,36],[0,1,2,3,7,8,9,10,11,13,14,15,16,17,18,19,20,21,22,23,24,25,26,27,28,32,33,34,35,36]],[[0,1,2,4,5,6,7,8,11,12,13,14,15,16,17,18,19,20,21,22,23,24,27,28,29,30,31,32,33,34,35,36],[0,1,2,3,4,5,6,7,8,11,12,13,14,15,16,17,18,19,20,21,22,23,24,25,26,27,28,29,30,31,32,33,34,35,36],[0,1,2,3,7,8,9,10,11,13,14,15,16,17,18,19,20,21,22,23,24,25,26,27,28,32,33,34,35,36],[0,1,2,3,7,8,9,10,11,13,14,15,16,17,18,19,20,21,22,23,24,25,26,27,28,29,30,31,32,33,34,35,36],[0,1,2,3,4,5,6,7,8,9,10,11,12,13,14,15,16,17,18,19,20,21,22,23,24,25,26,27,28,29,30,31,32,33,34,35,36],[0,1,2,3,4,5,6,7,8,9,10,11,12,13,14,16,18,19,20,21,22,23,24,25,26,27,28,29,30,31,32,33,34,35,36]])=some kC:=by kernel_rfl
theorem A8:Try.prog.funcs[14]?=some Try.f14:=by kernel_rfl
def gF:MC:=.seq (.region [⟨some 17,.bin .lss (.var 16) (.var 15),none⟩]) (.seq (.cond (.var 17) .skip (.exit 0)) (.seq (.seq (.block 1 (.seq (.region [⟨none,.indexSl 2 (.var 14) (.var 16),none⟩,⟨none,.load true 2 (.tmp 0),none⟩,⟨some 10,.alloc 2 (.agg [.int .i64 0,.int .i64 0]),none⟩,⟨none,.store 2 (.var 10) (.tmp 1),none⟩]) (.seq (.seq (.region [⟨none,.fieldAddr 0 (.var 10),none⟩,⟨none,.load false 1 (.tmp 0),none⟩,⟨none,.mv (.var 7),none⟩,⟨none,.lenSl (.tmp 2),none⟩,⟨none,.call (.fn 30) [.tmp 1,.cst (.int .i64 0),.tmp 3],none⟩,⟨none,.un .not (.tmp 4),none⟩,⟨none,.mv (.tmp 5),none⟩,⟨none,.fieldAddr 1 (.var 10),some (.tmp 6,false)⟩,⟨none,.load false 1 (.tmp 7),some (.tmp 6,false)⟩,⟨none,.mv (.var 9),some (.tmp 6,false)⟩,⟨none,.load true 5 (.var 4),some (.tmp 6,false)⟩,⟨none,.mv (.var 8),some (.tmp 6,false)⟩,⟨none,.fieldAddr 0 (.var 10),some (.tmp 6,false)⟩,⟨none,.load false 1 (.tmp 12),some (.tmp 6,false)⟩,⟨none,.call (.fn 41) [.tmp 10,.tmp 11,.tmp 13],some (.tmp 6,false)⟩,⟨none,.bin .add (.tmp 9) (.tmp 14),some (.tmp 6,false)⟩,⟨none,.call (.fn 30) [.tmp 8,.tmp 15,.cst (.int .i64 1000000000)],some (.tmp 6,false)⟩,⟨none,.un .not (.tmp 16),some (.tmp 6,false)⟩,⟨some 18,.pick (.tmp 6) (.cst (.bool true)) (.tmp 17),none⟩]) (.cond (.var 18) (.seq (.region [⟨some 5,.mv (.cst (.int .i64 0)),none⟩,⟨some 6,.mv (.cst (.bool false)),none⟩]) .ret) .skip)) (.seq (.region [⟨none,.fieldAddr 0 (.var 10),none⟩,⟨none,.load false 1 (.tmp 0),none⟩,⟨none,.fieldAddr 1 (.var 10),none⟩,⟨none,.load false 1 (.tmp 2),none⟩,⟨none,.load true 5 (.var 4),none⟩,⟨none,.call (.fn 42) [.tmp 4],none⟩,⟨none,.bin .add (.tmp 3) (.tmp 5),none⟩,⟨some 8,.mv (.tmp 1),none⟩,⟨some 9,.mv (.tmp 6),none⟩]) (.seq (.seq (.region [⟨none,.fieldAddr 0 (.var 10),none⟩,⟨none,.load false 1 (.tmp 0),none⟩,⟨none,.bin .sub (.tmp 1) (.cst (.int .i64 1)),none⟩,⟨some 11,.mv (.tmp 2),none⟩]) (.seq (.region [⟨none,.mv (.var 11),none⟩,⟨some 19,.bin .geq (.tmp 0) (.cst (.int .i64 0)),none⟩]) (.cond (.var 19) (.seq (.seq (.region [⟨none,.mv (.var 7),none⟩,⟨none,.mv (.var 11),none⟩,⟨none,.indexSl 1 (.tmp 0) (.tmp 1),none⟩,⟨none,.load false 1 (.tmp 2),none⟩,⟨none,.bin .lss (.tmp 3) (.cst (.int .i64 0)),none⟩,⟨none,.mv (.tmp 4),none⟩,⟨none,.fieldAddr 1 (.var 10),some (.tmp 5,false)⟩,⟨none,.load false 1 (.tmp 6),some (.tmp 5,false)⟩,⟨none,.mv (.var 7),some (.tmp 5,false)⟩,⟨none,.mv (.var 11),some (.tmp 5,false)⟩,⟨none,.indexSl 1 (.tmp 8) (.tmp 9),some (.tmp 5,false)⟩,⟨none,.load false 1 (.tmp 10),some (.tmp 5,false)⟩,⟨none,.mv (.var 7),some (.tmp 5,false)⟩,⟨none,.mv (.var 11),some (.tmp 5,false)⟩,⟨none,.indexSl 1 (.tmp 12) (.tmp 13),some (.tmp 5,false)⟩,⟨none,.load false 1 (.tmp 14),some (.tmp 5,false)⟩,⟨none,.fieldAddr 0 (.var 4),some (.tmp 5,false)⟩,⟨none,.load false 1 (.tmp 16),some (.tmp 5,false)⟩,⟨none,.mv (.var 11),some (.tmp 5,false)⟩,⟨none,.indexSl 2 (.tmp 17) (.tmp 18),some (.tmp 5,false)⟩,⟨none,.fieldAddr 1 (.tmp 19),some (.tmp 5,false)⟩,⟨none,.load false 1 (.tmp 20),some (.tmp 5,false)⟩,⟨none,.bin .add (.tmp 15) (.tmp 21),some (.tmp 5,false)⟩,⟨none,.call (.fn 30) [.tmp 7,.tmp 11,.tmp 22],some (.tmp 5,false)⟩,⟨none,.un .not (.tmp 23),some (.tmp 5,false)⟩,⟨some 20,.pick (.tmp 5) (.cst (.bool true)) (.tmp 24),none⟩]) (.cond (.var 20) (.seq (.region [⟨some 5,.mv (.cst (.int .i64 0)),none⟩,⟨some 6,.mv (.cst (.bool false)),none⟩]) .ret) .skip)) (.region [⟨none,.mv (.var 7),none⟩,⟨none,.mv (.var 11),none⟩,⟨none,.indexSl 1 (.tmp 0) (.tmp 1),none⟩,⟨none,.store 1 (.tmp 2) (.cst (.int .i64 (-1))),none⟩])) .skip))) (.seq (.region [⟨none,.fieldAddr 0 (.var 10),none⟩,⟨none,.load false 1 (.tmp 0),none⟩,⟨some 12,.mv (.tmp 1),none⟩]) (.seq (.region [⟨none,.mv (.var 12),none⟩,⟨none,.mv (.var 7),none⟩,⟨none,.lenSl (.tmp 1),none⟩,⟨some 21,.bin .lss (.tmp 0) (.tmp 2),none⟩]) (.cond (.var 21) (.seq (.seq (.region [⟨none,.mv (.var 7),none⟩,⟨none,.mv (.var 12),none⟩,⟨none,.indexSl 1 (.tmp 0) (.tmp 1),none⟩,⟨none,.load false 1 (.tmp 2),none⟩,⟨some 22,.bin .geq (.tmp 3) (.cst (.int .i64 0)),none⟩]) (.cond (.var 22) (.seq (.region [⟨some 5,.mv (.cst (.int .i64 0)),none⟩,⟨some 6,.mv (.cst (.bool false)),none⟩]) .ret) .skip)) (.region [⟨none,.mv (.var 7),none⟩,⟨none,.mv (.var 12),none⟩,⟨none,.mv (.var 9),none⟩,⟨none,.fieldAddr 0 (.var 4),none⟩,⟨none,.load false 1 (.tmp 3),none⟩,⟨none,.mv (.var 12),none⟩,⟨none,.indexSl 2 (.tmp 4) (.tmp 5),none⟩,⟨none,.fieldAddr 0 (.tmp 6),none⟩,⟨none,.load false 1 (.tmp 7),none⟩,⟨none,.bin .add (.tmp 2) (.tmp 8),none⟩,⟨none,.indexSl 1 (.tmp 0) (.tmp 1),none⟩,⟨none,.store 1 (.tmp 10) (.tmp 9),none⟩])) .skip)))))))) (.kill [0,1,2,3,5,6,10,11,12,13,17,18,19,20,21,22])) (.region [⟨none,.bin .add (.var 16) (.cst (.int .i64 1)),none⟩,⟨some 16,.mv (.tmp 0),none⟩])))
def FY:cB:=⟨4,23,.seq (.region [⟨some 4,.box (.var 0),none⟩,⟨some 5,.mv (.cst (.int .i64 0)),none⟩,⟨some 6,.mv (.cst (.bool false)),none⟩]) (.seq (.seq (.region [⟨none,.load true 5 (.var 4),none⟩,⟨none,.mv (.var 1),none⟩,⟨none,.mv (.var 2),none⟩,⟨none,.call (.fn 29) [.tmp 0,.tmp 1,.tmp 2],none⟩,⟨some 13,.un .not (.tmp 3),none⟩]) (.cond (.var 13) (.seq (.region [⟨some 5,.mv (.cst (.int .i64 0)),none⟩,⟨some 6,.mv (.cst (.bool false)),none⟩]) .ret) .skip)) (.seq (.region [⟨none,.mv (.var 1),none⟩,⟨none,.call (.fn 40) [.tmp 0],none⟩,⟨some 7,.mv (.tmp 1),none⟩]) (.seq (.region [⟨none,.mv (.var 2),none⟩,⟨some 8,.mv (.cst (.int .i64 (-2))),none⟩,⟨some 9,.mv (.tmp 0),none⟩]) (.seq (.seq (.region [⟨some 14,.mv (.var 3),none⟩,⟨some 15,.lenSl (.var 14),none⟩,⟨some 16,.mv (.cst (.int .i64 0)),none⟩]) (.seq (.block 0 (.loop [0,1,2,3,5,6,10,11,12,13,17,18,19,20,21,22] gF)) (.kill [0,1,2,3,4,5,6,7,8,10,11,12,13,14,15,16,17,18,19,20,21,22]))) (.seq (.region [⟨none,.mv (.var 9),none⟩,⟨some 5,.mv (.tmp 0),none⟩,⟨some 6,.mv (.cst (.bool true)),none⟩]) .ret))))),[.tmp 5,.tmp 6]⟩
def fZ:List Nat:=[0,1,2,3,5,6,10,11,12,13,17,18,19,20,21,22]
abbrev rr (v4 v7 v8 v9 v14 v15 v16:AV):List AV:=[.undef,.undef,.undef,.undef,v4,.undef,.undef,v7,v8,v9,.undef,.undef,.undef,.undef,v14,v15,v16,.undef,.undef,.undef,.undef,.undef,.undef]
theorem yV {d0 d1 d2 d3 v4 d5 d6 v7 v8 v9 d10 d11 d12 d13 v14 v15 v16 d17 d18 d19 d20 d21 d22:AV}:clear fZ [d0,d1,d2,d3,v4,d5,d6,v7,v8,v9,d10,d11,d12,d13,v14,v15,v16,d17,d18,d19,d20,d21,d22]=rr v4 v7 v8 v9 v14 v15 v16:=rfl
theorem BQ {E:Env} {fuel:Nat} {A:aa} {o:Out} {k:List KC} {d0 d1 d2 d3 v4 d5 d6 v7 v8 v9 d10 d11 d12 d13 v14 v15 v16 d17 d18 d19 d20 d21 d22:AV} (h:b8 (evC E fuel gF) fZ fuel (rr v4 v7 v8 v9 v14 v15 v16) A=some o) :
  run E fuel (.code (.loop [0,1,2,3,5,6,10,11,12,13,17,18,19,20,21,22] gF) :: k) [d0,d1,d2,d3,v4,d5,d6,v7,v8,v9,d10,d11,d12,d13,v14,v15,v16,d17,d18,d19,d20,d21,d22] A=after E fuel k o:=aU fZ _ _ (by rw [yV]; exact h)
theorem G9:aE Try.prog Try.f17 4 [0,1,2,3,4,8,9,10,11,12,14,15,16,21,25,26,27,28,49,61,87,96,101] [30,41,42] true ([[0,1,2,3,5,6,10,11,12,13,17,18,19,20,21,22]],[[0,1,2,3,5,6,10,11,12,13,17,18,19,20,21,22],[0,1,2,3,4,5,6,7,8,10,11,12,13,14,15,16,17,18,19,20,21,22]])=some FY:=by kernel_rfl
theorem at17:Try.prog.funcs[17]?=some Try.f17:=by kernel_rfl
def jS:MC:=.seq (.seq (.region [⟨none,.mv (.var 9),none⟩,⟨none,.mv (.var 7),none⟩,⟨some 14,.bin .leq (.tmp 0) (.tmp 1),none⟩]) (.cond (.var 14) .skip (.exit 0))) (.seq (.seq (.block 1 (.seq (.region [⟨none,.mv (.var 8),none⟩,⟨none,.mv (.var 9),none⟩,⟨none,.mv (.var 8),none⟩,⟨none,.mv (.var 9),none⟩,⟨none,.bin .sub (.tmp 3) (.cst (.int .i64 1)),none⟩,⟨none,.indexSl 1 (.tmp 2) (.tmp 4),none⟩,⟨none,.load false 1 (.tmp 5),none⟩,⟨none,.indexSl 1 (.tmp 0) (.tmp 1),none⟩,⟨none,.store 1 (.tmp 7) (.tmp 6),none⟩]) (.seq (.region [⟨none,.fieldAddr 1 (.var 4),none⟩,⟨none,.load false 1 (.tmp 0),none⟩,⟨none,.mv (.var 9),none⟩,⟨none,.call (.fn 49) [.tmp 1,.tmp 2],none⟩,⟨none,.fieldAddr 1 (.var 4),none⟩,⟨none,.load false 1 (.tmp 4),none⟩,⟨none,.mv (.var 9),none⟩,⟨none,.bin .sub (.tmp 6) (.cst (.int .i64 1)),none⟩,⟨none,.call (.fn 49) [.tmp 5,.tmp 7],none⟩,⟨some 15,.bin .lss (.tmp 3) (.tmp 8),none⟩]) (.cond (.var 15) (.region [⟨none,.mv (.var 8),none⟩,⟨none,.mv (.var 9),none⟩,⟨none,.indexSl 1 (.tmp 0) (.tmp 1),none⟩,⟨none,.load false 1 (.tmp 2),none⟩,⟨none,.bin .add (.tmp 3) (.cst (.int .i64 1)),none⟩,⟨none,.indexSl 1 (.tmp 0) (.tmp 1),none⟩,⟨none,.store 1 (.tmp 5) (.tmp 4),none⟩]) .skip)))) (.kill [0,1,5,6,10,11,12,13,14,15,16,17,18,19,20,21,22,23])) (.region [⟨none,.mv (.var 9),none⟩,⟨none,.bin .add (.tmp 0) (.cst (.int .i64 1)),none⟩,⟨some 9,.mv (.tmp 1),none⟩]))
def iQ:MC:=.seq (.region [⟨some 22,.bin .lss (.var 21) (.var 20),none⟩]) (.seq (.cond (.var 22) .skip (.exit 4)) (.seq (.seq (.block 5 (.seq (.region [⟨none,.indexSl 1 (.var 19) (.var 21),none⟩,⟨none,.load false 1 (.tmp 0),none⟩,⟨some 12,.mv (.tmp 1),none⟩]) (.seq (.region [⟨none,.mv (.var 8),none⟩,⟨none,.mv (.var 12),none⟩,⟨none,.indexSl 1 (.tmp 0) (.tmp 1),none⟩,⟨none,.load false 1 (.tmp 2),none⟩,⟨none,.mv (.var 11),none⟩,⟨some 23,.bin .leq (.tmp 3) (.tmp 4),none⟩]) (.cond (.var 23) (.region [⟨none,.mv (.var 10),none⟩,⟨none,.mv (.var 12),none⟩,⟨none,.mv (.var 2),none⟩,⟨none,.fieldAddr 3 (.var 3),none⟩,⟨none,.load false 1 (.tmp 3),none⟩,⟨none,.bin .add (.tmp 2) (.tmp 4),none⟩,⟨none,.fieldAddr 2 (.var 4),none⟩,⟨none,.load false 1 (.tmp 6),none⟩,⟨none,.indexSl 1 (.tmp 7) (.cst (.int .i64 0)),none⟩,⟨none,.load false 1 (.tmp 8),none⟩,⟨none,.bin .sub (.tmp 5) (.tmp 9),none⟩,⟨none,.mv (.var 11),none⟩,⟨none,.fieldAddr 0 (.var 4),none⟩,⟨none,.load false 1 (.tmp 12),none⟩,⟨none,.bin .mul (.tmp 11) (.tmp 13),none⟩,⟨none,.bin .add (.tmp 10) (.tmp 14),none⟩,⟨none,.fieldAddr 2 (.var 4),none⟩,⟨none,.load false 1 (.tmp 16),none⟩,⟨none,.mv (.var 12),none⟩,⟨none,.indexSl 1 (.tmp 17) (.tmp 18),none⟩,⟨none,.load false 1 (.tmp 19),none⟩,⟨none,.bin .add (.tmp 15) (.tmp 20),none⟩,⟨none,.build [.int .i64 0,.int .i64 0] [(0,(1,.tmp 1)),(1,(1,.tmp 21))],none⟩,⟨none,.buildF 2 [.tmp 22],none⟩,⟨none,.append 2 16 (.tmp 0) (.tmp 23),none⟩,⟨some 10,.mv (.tmp 24),none⟩]) .skip)))) (.kill [0,1,5,6,7,9,12,13,14,15,18,22,23])) (.region [⟨none,.bin .add (.var 21) (.cst (.int .i64 1)),none⟩,⟨some 21,.mv (.tmp 0),none⟩])))
def lH:MC:=.seq (.region [⟨some 18,.bin .lss (.var 17) (.var 16),none⟩]) (.seq (.cond (.var 18) .skip (.exit 2)) (.seq (.seq (.block 3 (.seq (.region [⟨none,.mv (.var 17),none⟩,⟨some 11,.mv (.tmp 0),none⟩]) (.seq (.region [⟨none,.fieldAddr 1 (.var 4),none⟩,⟨some 19,.load false 1 (.tmp 0),none⟩,⟨some 20,.lenSl (.var 19),none⟩,⟨some 21,.mv (.cst (.int .i64 0)),none⟩]) (.seq (.block 4 (.loop [0,1,5,6,7,9,12,13,14,15,18,22,23] iQ)) (.kill [0,1,5,6,7,9,11,12,13,14,15,18,19,20,21,22,23]))))) (.kill [0,1,5,6,7,9,11,12,13,14,15,18,19,20,21,22,23])) (.region [⟨none,.bin .add (.var 17) (.cst (.int .i64 1)),none⟩,⟨some 17,.mv (.tmp 0),none⟩])))
def DY:cB:=⟨3,24,.seq (.region [⟨some 3,.box (.var 0),none⟩,⟨some 4,.box (.var 1),none⟩,⟨some 5,.mv (.cst .nilS),none⟩,⟨some 6,.mv (.cst (.int .i64 0)),none⟩]) (.seq (.seq (.region [⟨none,.load true 5 (.var 3),none⟩,⟨none,.call (.fn 47) [.tmp 0],none⟩,⟨none,.un .not (.tmp 1),none⟩,⟨none,.mv (.tmp 2),none⟩,⟨none,.load true 5 (.var 3),some (.tmp 3,false)⟩,⟨none,.load true 4 (.var 4),some (.tmp 3,false)⟩,⟨none,.call (.fn 48) [.tmp 4,.tmp 5],some (.tmp 3,false)⟩,⟨none,.un .not (.tmp 6),some (.tmp 3,false)⟩,⟨none,.pick (.tmp 3) (.cst (.bool true)) (.tmp 7),none⟩,⟨none,.mv (.tmp 8),none⟩,⟨none,.mv (.var 2),some (.tmp 9,false)⟩,⟨none,.call (.fn 30) [.tmp 10,.cst (.int .i64 0),.cst (.int .i64 2000000)],some (.tmp 9,false)⟩,⟨none,.un .not (.tmp 11),some (.tmp 9,false)⟩,⟨some 13,.pick (.tmp 9) (.cst (.bool true)) (.tmp 12),none⟩]) (.cond (.var 13) (.seq (.region [⟨some 5,.mv (.cst .nilS),none⟩,⟨some 6,.mv (.cst (.int .i64 140)),none⟩]) .ret) .skip)) (.seq (.region [⟨none,.fieldAddr 0 (.var 3),none⟩,⟨none,.load false 1 (.tmp 0),none⟩,⟨none,.lenSl (.tmp 1),none⟩,⟨some 7,.mv (.tmp 2),none⟩]) (.seq (.region [⟨none,.mv (.var 7),none⟩,⟨none,.bin .add (.tmp 0) (.cst (.int .i64 1)),none⟩,⟨none,.makeSlice 1 8 (.int .i64 0) (.tmp 1) (.tmp 1),none⟩,⟨some 8,.mv (.tmp 2),none⟩]) (.seq (.seq (.region [⟨some 9,.mv (.cst (.int .i64 1)),none⟩]) (.seq (.block 0 (.loop [0,1,5,6,10,11,12,13,14,15,16,17,18,19,20,21,22,23] jS)) (.kill [0,1,5,6,9,10,11,12,13,14,15,16,17,18,19,20,21,22,23]))) (.seq (.region [⟨some 10,.mv (.cst .nilS),none⟩]) (.seq (.seq (.region [⟨none,.mv (.var 8),none⟩,⟨none,.mv (.var 7),none⟩,⟨none,.indexSl 1 (.tmp 0) (.tmp 1),none⟩,⟨none,.load false 1 (.tmp 2),none⟩,⟨some 16,.bin .add (.tmp 3) (.cst (.int .i64 1)),none⟩,⟨some 17,.mv (.cst (.int .i64 0)),none⟩]) (.seq (.block 2 (.loop [0,1,5,6,7,9,11,12,13,14,15,18,19,20,21,22,23] lH)) (.kill [0,1,2,3,4,5,6,7,8,9,11,12,13,14,15,16,17,18,19,20,21,22,23]))) (.seq (.region [⟨none,.mv (.var 10),none⟩,⟨some 5,.mv (.tmp 0),none⟩,⟨some 6,.mv (.cst (.int .i64 0)),none⟩]) .ret))))))),[.tmp 5,.tmp 6]⟩
def hJ:List Nat:=[0,1,5,6,7,9,12,13,14,15,18,22,23]
abbrev rq (v2 v3 v4 v8 v10 v11 v16 v17 v19 v20 v21:AV):List AV:=[.undef,.undef,v2,v3,v4,.undef,.undef,.undef,v8,.undef,v10,v11,.undef,.undef,.undef,.undef,v16,v17,.undef,v19,v20,v21,.undef,.undef]
theorem yQ {d0 d1 v2 v3 v4 d5 d6 d7 v8 d9 v10 v11 d12 d13 d14 d15 v16 v17 d18 v19 v20 v21 d22 d23:AV}:clear hJ [d0,d1,v2,v3,v4,d5,d6,d7,v8,d9,v10,v11,d12,d13,d14,d15,v16,v17,d18,v19,v20,v21,d22,d23]=rq v2 v3 v4 v8 v10 v11 v16 v17 v19 v20 v21:=rfl
theorem Gu {E:Env} {fuel:Nat} {A:aa} {o:Out} {k:List KC} {d0 d1 v2 v3 v4 d5 d6 d7 v8 d9 v10 v11 d12 d13 d14 d15 v16 v17 d18 v19 v20 v21 d22 d23:AV} (h:b8 (evC E fuel iQ) hJ fuel (rq v2 v3 v4 v8 v10 v11 v16 v17 v19 v20 v21) A=some o) :
  run E fuel (.code (.loop [0,1,5,6,7,9,12,13,14,15,18,22,23] iQ) :: k) [d0,d1,v2,v3,v4,d5,d6,d7,v8,d9,v10,v11,d12,d13,d14,d15,v16,v17,d18,v19,v20,v21,d22,d23] A=after E fuel k o:=aU hJ _ _ (by rw [yQ]; exact h)
def jO:List Nat:=[0,1,5,6,10,11,12,13,14,15,16,17,18,19,20,21,22,23]
abbrev ut (v2 v3 v4 v7 v8 v9:AV):List AV:=[.undef,.undef,v2,v3,v4,.undef,.undef,v7,v8,v9,.undef,.undef,.undef,.undef,.undef,.undef,.undef,.undef,.undef,.undef,.undef,.undef,.undef,.undef]
theorem yR {d0 d1 v2 v3 v4 d5 d6 v7 v8 v9 d10 d11 d12 d13 d14 d15 d16 d17 d18 d19 d20 d21 d22 d23:AV}:clear jO [d0,d1,v2,v3,v4,d5,d6,v7,v8,v9,d10,d11,d12,d13,d14,d15,d16,d17,d18,d19,d20,d21,d22,d23]=ut v2 v3 v4 v7 v8 v9:=rfl
theorem Gv {E:Env} {fuel:Nat} {A:aa} {o:Out} {k:List KC} {d0 d1 v2 v3 v4 d5 d6 v7 v8 v9 d10 d11 d12 d13 d14 d15 d16 d17 d18 d19 d20 d21 d22 d23:AV} (h:b8 (evC E fuel jS) jO fuel (ut v2 v3 v4 v7 v8 v9) A=some o) :
  run E fuel (.code (.loop [0,1,5,6,10,11,12,13,14,15,16,17,18,19,20,21,22,23] jS) :: k) [d0,d1,v2,v3,v4,d5,d6,v7,v8,v9,d10,d11,d12,d13,d14,d15,d16,d17,d18,d19,d20,d21,d22,d23] A=after E fuel k o:=aU jO _ _ (by rw [yR]; exact h)
def jN:List Nat:=[0,1,5,6,7,9,11,12,13,14,15,18,19,20,21,22,23]
abbrev uq (v2 v3 v4 v8 v10 v16 v17:AV):List AV:=[.undef,.undef,v2,v3,v4,.undef,.undef,.undef,v8,.undef,v10,.undef,.undef,.undef,.undef,.undef,v16,v17,.undef,.undef,.undef,.undef,.undef,.undef]
theorem yP {d0 d1 v2 v3 v4 d5 d6 d7 v8 d9 v10 d11 d12 d13 d14 d15 v16 v17 d18 d19 d20 d21 d22 d23:AV}:clear jN [d0,d1,v2,v3,v4,d5,d6,d7,v8,d9,v10,d11,d12,d13,d14,d15,v16,v17,d18,d19,d20,d21,d22,d23]=uq v2 v3 v4 v8 v10 v16 v17:=rfl
theorem Gt {E:Env} {fuel:Nat} {A:aa} {o:Out} {k:List KC} {d0 d1 v2 v3 v4 d5 d6 d7 v8 d9 v10 d11 d12 d13 d14 d15 v16 v17 d18 d19 d20 d21 d22 d23:AV} (h:b8 (evC E fuel lH) jN fuel (uq v2 v3 v4 v8 v10 v16 v17) A=some o) :
  run E fuel (.code (.loop [0,1,5,6,7,9,11,12,13,14,15,18,19,20,21,22,23] lH) :: k) [d0,d1,v2,v3,v4,d5,d6,d7,v8,d9,v10,d11,d12,d13,d14,d15,v16,v17,d18,d19,d20,d21,d22,d23] A=after E fuel k o:=aU jN _ _ (by rw [yP]; exact h)
theorem G7:aE Try.prog Try.f24 3 [0,1,2,3,4,6,7,8,9,10,11,12,14,28,37,57,68,69,70,73,74,75,76,84] [49] true ([[0,1,5,6,10,11,12,13,14,15,16,17,18,19,20,21,22,23],[0,1,5,6,7,9,11,12,13,14,15,18,19,20,21,22,23],[0,1,5,6,7,9,12,13,14,15,18,22,23]],[[0,1,5,6,10,11,12,13,14,15,16,17,18,19,20,21,22,23],[0,1,5,6,9,10,11,12,13,14,15,16,17,18,19,20,21,22,23],[0,1,5,6,7,9,12,13,14,15,18,22,23],[0,1,5,6,7,9,11,12,13,14,15,18,19,20,21,22,23],[0,1,5,6,7,9,11,12,13,14,15,18,19,20,21,22,23],[0,1,2,3,4,5,6,7,8,9,11,12,13,14,15,16,17,18,19,20,21,22,23]])=some DY:=by kernel_rfl
theorem at24:Try.prog.funcs[24]?=some Try.f24:=by kernel_rfl
def zO:cB:=⟨4,15,.seq (.region [⟨some 4,.box (.var 0),none⟩,⟨some 5,.box (.var 3),none⟩,⟨some 6,.mv (.cst .nilS),none⟩,⟨some 7,.mv (.cst (.int .i64 0)),none⟩]) (.seq (.region [⟨none,.load true 5 (.var 4),none⟩,⟨none,.mv (.var 1),none⟩,⟨none,.mv (.var 2),none⟩,⟨none,.call (.fn 14) [.tmp 0,.tmp 1,.tmp 2,.cst (.int .i64 0)],none⟩,⟨none,.mv (.tmp 3),none⟩,⟨none,.extract (.tmp 4) 0,none⟩,⟨none,.extract (.tmp 4) 1,none⟩,⟨some 8,.mv (.tmp 5),none⟩,⟨some 9,.mv (.tmp 6),none⟩]) (.seq (.seq (.region [⟨none,.mv (.var 9),none⟩,⟨some 13,.un .not (.tmp 0),none⟩]) (.cond (.var 13) (.seq (.region [⟨some 6,.mv (.cst .nilS),none⟩,⟨some 7,.mv (.cst (.int .i64 140)),none⟩]) .ret) .skip)) (.seq (.region [⟨none,.load true 5 (.var 4),none⟩,⟨none,.mv (.var 1),none⟩,⟨none,.mv (.var 2),none⟩,⟨none,.mv (.var 8),none⟩,⟨none,.call (.fn 17) [.tmp 0,.tmp 1,.tmp 2,.tmp 3],none⟩,⟨none,.mv (.tmp 4),none⟩,⟨none,.extract (.tmp 5) 0,none⟩,⟨none,.extract (.tmp 5) 1,none⟩,⟨some 10,.mv (.tmp 6),none⟩,⟨none,.mv (.tmp 7),none⟩]) (.seq (.region [⟨none,.load true 5 (.var 4),none⟩,⟨none,.load true 4 (.var 5),none⟩,⟨none,.mv (.var 10),none⟩,⟨none,.call (.fn 24) [.tmp 0,.tmp 1,.tmp 2],none⟩,⟨none,.mv (.tmp 3),none⟩,⟨none,.extract (.tmp 4) 0,none⟩,⟨none,.extract (.tmp 4) 1,none⟩,⟨some 11,.mv (.tmp 5),none⟩,⟨some 12,.mv (.tmp 6),none⟩]) (.seq (.seq (.region [⟨none,.mv (.var 12),none⟩,⟨some 14,.bin .neq (.tmp 0) (.cst (.int .i64 0)),none⟩]) (.cond (.var 14) (.seq (.region [⟨none,.mv (.var 12),none⟩,⟨some 6,.mv (.cst .nilS),none⟩,⟨some 7,.mv (.tmp 0),none⟩]) .ret) .skip)) (.seq (.region [⟨none,.mv (.var 8),none⟩,⟨none,.mv (.var 11),none⟩,⟨none,.append 2 16 (.tmp 0) (.tmp 1),none⟩,⟨some 6,.mv (.tmp 2),none⟩,⟨some 7,.mv (.cst (.int .i64 0)),none⟩]) .ret)))))),[.tmp 6,.tmp 7]⟩
theorem yD:aE Try.prog Try.f25 4 [0,1,2,3,4,7,8,9,10,11,12,14,15,24,41] [] true ([],[])=some zO:=by kernel_rfl
theorem Lj:Try.prog.funcs[25]?=some Try.f25:=by kernel_rfl
def IU:cB:=⟨3,5,.seq (.region [⟨some 3,.box (.var 0),none⟩,⟨some 4,.mv (.cst (.bool false)),none⟩]) (.seq (.region [⟨none,.load true 5 (.var 3),none⟩,⟨none,.call (.fn 47) [.tmp 0],none⟩,⟨none,.mv (.tmp 1),none⟩,⟨none,.mv (.var 1),some (.tmp 2,true)⟩,⟨none,.lenSl (.tmp 3),some (.tmp 2,true)⟩,⟨none,.fieldAddr 0 (.var 3),some (.tmp 2,true)⟩,⟨none,.load false 1 (.tmp 5),some (.tmp 2,true)⟩,⟨none,.lenSl (.tmp 6),some (.tmp 2,true)⟩,⟨none,.bin .eql (.tmp 4) (.tmp 7),some (.tmp 2,true)⟩,⟨none,.pick (.tmp 2) (.tmp 8) (.cst (.bool false)),none⟩,⟨none,.mv (.tmp 9),none⟩,⟨none,.mv (.var 2),some (.tmp 10,true)⟩,⟨none,.call (.fn 30) [.tmp 11,.cst (.int .i64 0),.cst (.int .i64 2000000)],some (.tmp 10,true)⟩,⟨none,.pick (.tmp 10) (.tmp 12) (.cst (.bool false)),none⟩,⟨none,.mv (.tmp 13),none⟩,⟨none,.mv (.var 1),some (.tmp 14,true)⟩,⟨none,.call (.fn 51) [.tmp 15,.fn 52],some (.tmp 14,true)⟩,⟨none,.un .not (.tmp 16),some (.tmp 14,true)⟩,⟨none,.pick (.tmp 14) (.tmp 17) (.cst (.bool false)),none⟩,⟨some 4,.mv (.tmp 18),none⟩]) .ret),[.tmp 4]⟩
theorem G5:aE Try.prog Try.f29 3 [0,1,2,3,6] [] true ([],[])=some IU:=by kernel_rfl
theorem at29:Try.prog.funcs[29]?=some Try.f29:=by kernel_rfl
def LU:cB:=⟨3,4,.seq (.region [⟨some 3,.mv (.cst (.bool false)),none⟩]) (.seq (.region [⟨none,.mv (.var 0),none⟩,⟨none,.mv (.var 1),none⟩,⟨none,.bin .geq (.tmp 0) (.tmp 1),none⟩,⟨none,.mv (.tmp 2),none⟩,⟨none,.mv (.var 0),some (.tmp 3,true)⟩,⟨none,.mv (.var 2),some (.tmp 3,true)⟩,⟨none,.bin .leq (.tmp 4) (.tmp 5),some (.tmp 3,true)⟩,⟨none,.pick (.tmp 3) (.tmp 6) (.cst (.bool false)),none⟩,⟨some 3,.mv (.tmp 7),none⟩]) .ret),[.tmp 3]⟩
theorem G4:aE Try.prog Try.f30 3 [0,1,2,6] [] true ([],[])=some LU:=by kernel_rfl
theorem at30:Try.prog.funcs[30]?=some Try.f30:=by kernel_rfl
def At:cB:=⟨2,3,.seq (.region [⟨some 2,.mv (.cst .nilS),none⟩]) (.seq (.region [⟨none,.mv (.var 0),none⟩,⟨none,.call (.fn 54) [.tmp 0],none⟩,⟨none,.mv (.var 1),none⟩,⟨none,.mv (.var 1),none⟩,⟨none,.bin .add (.tmp 3) (.cst (.int .i64 1)),none⟩,⟨none,.call (.fn 53) [.tmp 1,.tmp 2,.tmp 4],none⟩,⟨some 2,.mv (.tmp 5),none⟩]) .ret),[.tmp 2]⟩
theorem yB:aE Try.prog Try.f31 2 [0,1,4] [] true ([],[])=some At:=by kernel_rfl
theorem Lh:Try.prog.funcs[31]?=some Try.f31:=by kernel_rfl
def EQ:cB:=⟨2,3,.seq (.region [⟨some 2,.mv (.cst .nilS),none⟩]) (.seq (.region [⟨none,.mv (.var 0),none⟩,⟨none,.call (.fn 40) [.tmp 0],none⟩,⟨none,.mv (.var 1),none⟩,⟨none,.mv (.var 1),none⟩,⟨none,.bin .add (.tmp 3) (.cst (.int .i64 1)),none⟩,⟨none,.call (.fn 55) [.tmp 1,.tmp 2,.tmp 4],none⟩,⟨some 2,.mv (.tmp 5),none⟩]) .ret),[.tmp 2]⟩
theorem yA:aE Try.prog Try.f32 2 [0,1,4] [] true ([],[])=some EQ:=by kernel_rfl
theorem Lg:Try.prog.funcs[32]?=some Try.f32:=by kernel_rfl
def EP:cB:=⟨1,3,.seq (.region [⟨some 1,.box (.var 0),none⟩,⟨some 2,.mv (.cst .nilF),none⟩]) (.seq (.region [⟨none,.makeFunc (.func 56) [] [.var 1],none⟩,⟨some 2,.mv (.tmp 0),none⟩]) .ret),[.tmp 2]⟩
theorem yz:aE Try.prog Try.f33 1 [0,1,2] [] true ([],[])=some EP:=by kernel_rfl
theorem Lf:Try.prog.funcs[33]?=some Try.f33:=by kernel_rfl
def dz:MC:=.seq (.region [⟨some 26,.bin .lss (.var 25) (.var 24),none⟩]) (.seq (.cond (.var 26) .skip (.exit 0)) (.seq (.seq (.block 1 (.seq (.region [⟨none,.mv (.var 25),none⟩,⟨none,.indexSl 1 (.var 23) (.var 25),none⟩,⟨none,.load false 1 (.tmp 1),none⟩,⟨some 11,.mv (.tmp 0),none⟩,⟨some 12,.mv (.tmp 2),none⟩]) (.seq (.seq (.region [⟨none,.mv (.var 11),none⟩,⟨some 27,.bin .eql (.tmp 0) (.cst (.int .i64 0)),none⟩]) (.cond (.var 27) (.region [⟨none,.mv (.var 8),none⟩,⟨none,.mv (.var 2),none⟩,⟨none,.fieldAddr 3 (.var 4),none⟩,⟨none,.load false 1 (.tmp 2),none⟩,⟨none,.bin .add (.tmp 1) (.tmp 3),none⟩,⟨none,.build [.int .i64 0,.int .i64 0,.int .i64 0,.int .i64 0] [(0,(1,.cst (.int .i64 0))),(1,(1,.cst (.int .i64 1))),(2,(1,.tmp 4))],none⟩,⟨none,.buildF 4 [.tmp 5],none⟩,⟨none,.call (.tmp 0) [.tmp 6],none⟩]) (.region [⟨none,.mv (.var 8),none⟩,⟨none,.mv (.var 11),none⟩,⟨none,.mv (.var 11),none⟩,⟨none,.bin .add (.tmp 2) (.cst (.int .i64 1)),none⟩,⟨none,.mv (.var 10),none⟩,⟨none,.load true 5 (.var 4),none⟩,⟨none,.mv (.var 3),none⟩,⟨none,.mv (.var 11),none⟩,⟨none,.bin .sub (.tmp 7) (.cst (.int .i64 1)),none⟩,⟨none,.indexSl 1 (.tmp 6) (.tmp 8),none⟩,⟨none,.load false 1 (.tmp 9),none⟩,⟨none,.mv (.var 12),none⟩,⟨none,.call (.fn 41) [.tmp 5,.tmp 10,.tmp 11],none⟩,⟨none,.bin .add (.tmp 4) (.tmp 12),none⟩,⟨none,.build [.int .i64 0,.int .i64 0,.int .i64 0,.int .i64 0] [(0,(1,.tmp 1)),(1,(1,.tmp 3)),(2,(1,.tmp 13))],none⟩,⟨none,.buildF 4 [.tmp 14],none⟩,⟨none,.call (.tmp 0) [.tmp 15],none⟩]))) (.seq (.region [⟨none,.mv (.var 12),none⟩,⟨none,.bin .sub (.tmp 0) (.cst (.int .i64 1)),none⟩,⟨some 13,.mv (.tmp 1),none⟩]) (.seq (.region [⟨none,.mv (.var 1),none⟩,⟨none,.mv (.var 13),none⟩,⟨none,.indexSl 1 (.tmp 0) (.tmp 1),none⟩,⟨none,.load false 1 (.tmp 2),none⟩,⟨some 14,.mv (.cst (.int .i64 0)),none⟩,⟨some 15,.mv (.tmp 3),none⟩]) (.seq (.seq (.region [⟨none,.mv (.var 9),none⟩,⟨none,.mv (.var 13),none⟩,⟨none,.lookup 1 true (.int .i64 0) (.tmp 0) (.tmp 1),none⟩,⟨none,.mv (.tmp 2),none⟩,⟨none,.extract (.tmp 3) 0,none⟩,⟨none,.extract (.tmp 3) 1,none⟩,⟨some 16,.mv (.tmp 4),none⟩,⟨some 17,.mv (.tmp 5),none⟩]) (.seq (.region [⟨some 28,.mv (.var 17),none⟩]) (.cond (.var 28) (.region [⟨none,.mv (.var 16),none⟩,⟨none,.mv (.var 10),none⟩,⟨none,.fieldAddr 0 (.var 4),none⟩,⟨none,.load false 1 (.tmp 2),none⟩,⟨none,.mv (.var 13),none⟩,⟨none,.indexSl 2 (.tmp 3) (.tmp 4),none⟩,⟨none,.fieldAddr 0 (.tmp 5),none⟩,⟨none,.load false 1 (.tmp 6),none⟩,⟨none,.bin .add (.tmp 1) (.tmp 7),none⟩,⟨some 14,.mv (.tmp 0),none⟩,⟨some 15,.mv (.tmp 8),none⟩]) .skip))) (.seq (.region [⟨none,.mv (.var 8),none⟩,⟨none,.mv (.var 14),none⟩,⟨none,.mv (.var 11),none⟩,⟨none,.bin .add (.tmp 2) (.cst (.int .i64 1)),none⟩,⟨none,.mv (.var 15),none⟩,⟨none,.build [.int .i64 0,.int .i64 0,.int .i64 0,.int .i64 0] [(0,(1,.tmp 1)),(1,(1,.tmp 3)),(2,(1,.tmp 4))],none⟩,⟨none,.mv (.var 11),none⟩,⟨none,.bin .add (.tmp 6) (.cst (.int .i64 1)),none⟩,⟨none,.mv (.var 14),none⟩,⟨none,.mv (.var 15),none⟩,⟨none,.fieldAddr 0 (.var 4),none⟩,⟨none,.load false 1 (.tmp 10),none⟩,⟨none,.mv (.var 13),none⟩,⟨none,.indexSl 2 (.tmp 11) (.tmp 12),none⟩,⟨none,.fieldAddr 1 (.tmp 13),none⟩,⟨none,.load false 1 (.tmp 14),none⟩,⟨none,.bin .add (.tmp 9) (.tmp 15),none⟩,⟨none,.un .neg (.tmp 16),none⟩,⟨none,.build [.int .i64 0,.int .i64 0,.int .i64 0,.int .i64 0] [(0,(1,.tmp 7)),(1,(1,.tmp 8)),(2,(1,.tmp 17))],none⟩,⟨none,.buildF 4 [.tmp 5,.tmp 18],none⟩,⟨none,.call (.tmp 0) [.tmp 19],none⟩]) (.region [⟨none,.mv (.var 9),none⟩,⟨none,.mv (.var 12),none⟩,⟨none,.mv (.var 11),none⟩,⟨none,.bin .add (.tmp 2) (.cst (.int .i64 1)),none⟩,⟨none,.mapUpdate 1 (.tmp 0) (.tmp 1) (.tmp 3),none⟩])))))))) (.kill [0,5,6,11,12,13,14,15,16,17,18,19,20,21,22,26,27,28,29,30,31,32,33])) (.region [⟨none,.bin .add (.var 25) (.cst (.int .i64 1)),none⟩,⟨some 25,.mv (.tmp 0),none⟩])))
def lE:MC:=.seq (.region [⟨some 32,.bin .lss (.var 33) (.var 31),none⟩]) (.seq (.cond (.var 32) .skip (.exit 2)) (.seq (.seq (.block 3 (.seq (.region [⟨none,.mv (.var 33),none⟩,⟨none,.indexSl 1 (.var 30) (.var 33),none⟩,⟨none,.load false 1 (.tmp 1),none⟩,⟨some 21,.mv (.tmp 0),none⟩,⟨some 22,.mv (.tmp 2),none⟩]) (.region [⟨none,.mv (.var 20),none⟩,⟨none,.mv (.var 22),none⟩,⟨none,.mv (.var 18),none⟩,⟨none,.mv (.var 21),none⟩,⟨none,.bin .add (.tmp 3) (.cst (.int .i64 1)),none⟩,⟨none,.indexSl 1 (.tmp 2) (.tmp 4),none⟩,⟨none,.load false 1 (.tmp 5),none⟩,⟨none,.build [.int .i64 0,.int .i64 0] [(0,(1,.tmp 1)),(1,(1,.tmp 6))],none⟩,⟨none,.buildF 2 [.tmp 7],none⟩,⟨none,.appendN 2 16 (.tmp 0) (.tmp 8),none⟩,⟨some 20,.mv (.tmp 9),none⟩]))) (.kill [0,1,2,3,4,5,6,7,8,9,10,11,12,13,14,15,16,17,19,21,22,23,24,25,26,27,28,29,32])) (.region [⟨none,.bin .add (.var 33) (.cst (.int .i64 1)),none⟩,⟨some 33,.mv (.tmp 0),none⟩])))
def sR:cB:=⟨4,34,.seq (.region [⟨some 4,.box (.var 0),none⟩,⟨some 5,.mv (.cst .nilS),none⟩,⟨some 6,.mv (.cst (.bool false)),none⟩]) (.seq (.region [⟨some 7,.alloc 1 .nilS,none⟩]) (.seq (.region [⟨none,.makeFunc (.func 60) [] [.var 7],none⟩,⟨some 8,.mv (.tmp 0),none⟩]) (.seq (.region [⟨none,.makeMap,none⟩,⟨some 9,.mv (.tmp 0),none⟩]) (.seq (.region [⟨none,.load true 5 (.var 4),none⟩,⟨none,.call (.fn 42) [.tmp 0],none⟩,⟨some 10,.mv (.tmp 1),none⟩]) (.seq (.seq (.region [⟨some 23,.mv (.var 3),none⟩,⟨some 24,.lenSl (.var 23),none⟩,⟨some 25,.mv (.cst (.int .i64 0)),none⟩]) (.seq (.block 0 (.loop [0,5,6,11,12,13,14,15,16,17,18,19,20,21,22,26,27,28,29,30,31,32,33] dz)) (.kill [0,1,2,4,5,6,8,9,10,11,12,13,14,15,16,17,18,19,20,21,22,23,24,25,26,27,28,29,30,31,32,33]))) (.seq (.region [⟨none,.mv (.var 3),none⟩,⟨none,.lenSl (.tmp 0),none⟩,⟨none,.bin .add (.tmp 1) (.cst (.int .i64 1)),none⟩,⟨none,.load false 1 (.var 7),none⟩,⟨none,.call (.fn 46) [.tmp 2,.tmp 3,.cst (.int .i64 0)],none⟩,⟨none,.mv (.tmp 4),none⟩,⟨none,.extract (.tmp 5) 0,none⟩,⟨none,.extract (.tmp 5) 1,none⟩,⟨none,.extract (.tmp 5) 2,none⟩,⟨some 18,.mv (.tmp 6),none⟩,⟨none,.mv (.tmp 7),none⟩,⟨some 19,.mv (.tmp 8),none⟩]) (.seq (.seq (.region [⟨none,.mv (.var 19),none⟩,⟨none,.un .not (.tmp 0),none⟩,⟨none,.mv (.tmp 1),none⟩,⟨none,.mv (.var 18),some (.tmp 2,false)⟩,⟨none,.indexSl 1 (.tmp 3) (.cst (.int .i64 0)),some (.tmp 2,false)⟩,⟨none,.load false 1 (.tmp 4),some (.tmp 2,false)⟩,⟨none,.bin .neq (.tmp 5) (.cst (.int .i64 0)),some (.tmp 2,false)⟩,⟨some 29,.pick (.tmp 2) (.cst (.bool true)) (.tmp 6),none⟩]) (.cond (.var 29) (.seq (.region [⟨some 5,.mv (.cst .nilS),none⟩,⟨some 6,.mv (.cst (.bool false)),none⟩]) .ret) .skip)) (.seq (.region [⟨none,.mv (.var 3),none⟩,⟨none,.lenSl (.tmp 0),none⟩,⟨none,.makeSlice 2 16 (.agg [.int .i64 0,.int .i64 0]) (.cst (.int .i64 0)) (.tmp 1),none⟩,⟨some 20,.mv (.tmp 2),none⟩]) (.seq (.seq (.region [⟨some 30,.mv (.var 3),none⟩,⟨some 31,.lenSl (.var 30),none⟩,⟨some 33,.mv (.cst (.int .i64 0)),none⟩]) (.seq (.block 2 (.loop [0,1,2,3,4,5,6,7,8,9,10,11,12,13,14,15,16,17,19,21,22,23,24,25,26,27,28,29,32] lE)) (.kill [0,1,2,3,4,5,6,7,8,9,10,11,12,13,14,15,16,17,18,19,21,22,23,24,25,26,27,28,29,30,31,32,33]))) (.seq (.region [⟨none,.mv (.var 20),none⟩,⟨some 5,.mv (.tmp 0),none⟩,⟨some 6,.mv (.cst (.bool true)),none⟩]) .ret)))))))))),[.tmp 5,.tmp 6]⟩
def du:List Nat:=[0,5,6,11,12,13,14,15,16,17,18,19,20,21,22,26,27,28,29,30,31,32,33]
abbrev gj (v1 v2 v3 v4 v7 v8 v9 v10 v23 v24 v25:AV):List AV:=[.undef,v1,v2,v3,v4,.undef,.undef,v7,v8,v9,v10,.undef,.undef,.undef,.undef,.undef,.undef,.undef,.undef,.undef,.undef,.undef,.undef,v23,v24,v25,.undef,.undef,.undef,.undef,.undef,.undef,.undef,.undef]
theorem oH {d0 v1 v2 v3 v4 d5 d6 v7 v8 v9 v10 d11 d12 d13 d14 d15 d16 d17 d18 d19 d20 d21 d22 v23 v24 v25 d26 d27 d28 d29 d30 d31 d32 d33:AV}:clear du [d0,v1,v2,v3,v4,d5,d6,v7,v8,v9,v10,d11,d12,d13,d14,d15,d16,d17,d18,d19,d20,d21,d22,v23,v24,v25,d26,d27,d28,d29,d30,d31,d32,d33]=gj v1 v2 v3 v4 v7 v8 v9 v10 v23 v24 v25:=by simp only [du,clear,List.foldl_cons,List.foldl_nil,List.set_cons_zero,List.set_cons_succ]
theorem rX {E:Env} {fuel:Nat} {A:aa} {o:Out} {k:List KC} {d0 v1 v2 v3 v4 d5 d6 v7 v8 v9 v10 d11 d12 d13 d14 d15 d16 d17 d18 d19 d20 d21 d22 v23 v24 v25 d26 d27 d28 d29 d30 d31 d32 d33:AV} (h:b8 (evC E fuel dz) du fuel (gj v1 v2 v3 v4 v7 v8 v9 v10 v23 v24 v25) A=some o) :
  run E fuel (.code (.loop [0,5,6,11,12,13,14,15,16,17,18,19,20,21,22,26,27,28,29,30,31,32,33] dz) :: k) [d0,v1,v2,v3,v4,d5,d6,v7,v8,v9,v10,d11,d12,d13,d14,d15,d16,d17,d18,d19,d20,d21,d22,v23,v24,v25,d26,d27,d28,d29,d30,d31,d32,d33] A=after E fuel k o:=aU du _ _ (by rw [oH]; exact h)
def g8:List Nat:=[0,1,2,3,4,5,6,7,8,9,10,11,12,13,14,15,16,17,19,21,22,23,24,25,26,27,28,29,32]
abbrev nj (v18 v20 v30 v31 v33:AV):List AV:=[.undef,.undef,.undef,.undef,.undef,.undef,.undef,.undef,.undef,.undef,.undef,.undef,.undef,.undef,.undef,.undef,.undef,.undef,v18,.undef,v20,.undef,.undef,.undef,.undef,.undef,.undef,.undef,.undef,.undef,v30,v31,.undef,v33]
theorem yL {d0 d1 d2 d3 d4 d5 d6 d7 d8 d9 d10 d11 d12 d13 d14 d15 d16 d17 v18 d19 v20 d21 d22 d23 d24 d25 d26 d27 d28 d29 v30 v31 d32 v33:AV}:clear g8 [d0,d1,d2,d3,d4,d5,d6,d7,d8,d9,d10,d11,d12,d13,d14,d15,d16,d17,v18,d19,v20,d21,d22,d23,d24,d25,d26,d27,d28,d29,v30,v31,d32,v33]=nj v18 v20 v30 v31 v33:=by simp only [g8,clear,List.foldl_cons,List.foldl_nil,List.set_cons_zero,List.set_cons_succ]
theorem Gp {E:Env} {fuel:Nat} {A:aa} {o:Out} {k:List KC} {d0 d1 d2 d3 d4 d5 d6 d7 d8 d9 d10 d11 d12 d13 d14 d15 d16 d17 v18 d19 v20 d21 d22 d23 d24 d25 d26 d27 d28 d29 v30 v31 d32 v33:AV} (h:b8 (evC E fuel lE) g8 fuel (nj v18 v20 v30 v31 v33) A=some o) :
  run E fuel (.code (.loop [0,1,2,3,4,5,6,7,8,9,10,11,12,13,14,15,16,17,19,21,22,23,24,25,26,27,28,29,32] lE) :: k) [d0,d1,d2,d3,d4,d5,d6,d7,d8,d9,d10,d11,d12,d13,d14,d15,d16,d17,v18,d19,v20,d21,d22,d23,d24,d25,d26,d27,d28,d29,v30,v31,d32,v33] A=after E fuel k o:=aU g8 _ _ (by rw [yL]; exact h)
theorem qc:aE Try.prog Try.f34 4 [0,1,2,3,4,8,9,10,11,12,13,14,15,16,17,18,19,20,21,23,24,25,26,31,32,33,34,39,77,129,133,134,136,135] [41] true ([[0,5,6,11,12,13,14,15,16,17,18,19,20,21,22,26,27,28,29,30,31,32,33],[0,1,2,3,4,5,6,7,8,9,10,11,12,13,14,15,16,17,19,21,22,23,24,25,26,27,28,29,32]],[[0,5,6,11,12,13,14,15,16,17,18,19,20,21,22,26,27,28,29,30,31,32,33],[0,1,2,4,5,6,8,9,10,11,12,13,14,15,16,17,18,19,20,21,22,23,24,25,26,27,28,29,30,31,32,33],[0,1,2,3,4,5,6,7,8,9,10,11,12,13,14,15,16,17,19,21,22,23,24,25,26,27,28,29,32],[0,1,2,3,4,5,6,7,8,9,10,11,12,13,14,15,16,17,18,19,21,22,23,24,25,26,27,28,29,30,31,32,33]])=some sR:=by kernel_rfl
theorem EZ:Try.prog.funcs[34]?=some Try.f34:=by kernel_rfl
def xx:cB:=⟨3,6,.seq (.region [⟨some 3,.box (.var 0),none⟩,⟨some 4,.mv (.cst (.int .i64 0)),none⟩]) (.seq (.seq (.region [⟨none,.mv (.var 2),none⟩,⟨none,.mv (.var 1),none⟩,⟨none,.bin .add (.tmp 1) (.cst (.int .i64 1)),none⟩,⟨some 5,.bin .eql (.tmp 0) (.tmp 2),none⟩]) (.cond (.var 5) (.seq (.region [⟨some 4,.mv (.cst (.int .i64 0)),none⟩]) .ret) .skip)) (.seq (.region [⟨none,.fieldAddr 3 (.var 3),none⟩,⟨none,.load false 1 (.tmp 0),none⟩,⟨some 4,.mv (.tmp 1),none⟩]) .ret)),[.tmp 4]⟩
theorem sr:aE Try.prog Try.f41 3 [0,1,2,3,6,10] [] true ([],[])=some xx:=by kernel_rfl
theorem Hl:Try.prog.funcs[41]?=some Try.f41:=by kernel_rfl
def xw:cB:=⟨1,3,.seq (.region [⟨some 1,.box (.var 0),none⟩,⟨some 2,.mv (.cst (.int .i64 0)),none⟩]) (.seq (.region [⟨none,.fieldAddr 1 (.var 1),none⟩,⟨none,.load false 1 (.tmp 0),none⟩,⟨none,.fieldAddr 3 (.var 1),none⟩,⟨none,.load false 1 (.tmp 2),none⟩,⟨none,.bin .add (.tmp 1) (.tmp 3),none⟩,⟨none,.fieldAddr 2 (.var 1),none⟩,⟨none,.load false 1 (.tmp 5),none⟩,⟨none,.bin .add (.tmp 4) (.tmp 6),none⟩,⟨some 2,.mv (.tmp 7),none⟩]) .ret),[.tmp 2]⟩
theorem sq:aE Try.prog Try.f42 1 [0,1,2] [] true ([],[])=some xw:=by kernel_rfl
theorem Hk:Try.prog.funcs[42]?=some Try.f42:=by kernel_rfl
def Bs:cB:=⟨1,3,.seq (.region [⟨some 1,.box (.var 0),none⟩,⟨some 2,.mv (.cst (.bool false)),none⟩]) (.seq (.region [⟨none,.fieldAddr 4 (.var 1),none⟩,⟨none,.load false 1 (.tmp 0),none⟩,⟨none,.bin .eql (.tmp 1) (.cst (.int .i64 1)),none⟩,⟨none,.mv (.tmp 2),none⟩,⟨none,.load true 5 (.var 1),some (.tmp 3,true)⟩,⟨none,.call (.fn 62) [.tmp 4],some (.tmp 3,true)⟩,⟨none,.pick (.tmp 3) (.tmp 5) (.cst (.bool false)),none⟩,⟨some 2,.mv (.tmp 6),none⟩]) .ret),[.tmp 2]⟩
theorem yn:aE Try.prog Try.f47 1 [0,1,2] [] true ([],[])=some Bs:=by kernel_rfl
theorem K8:Try.prog.funcs[47]?=some Try.f47:=by kernel_rfl
def Aq:cB:=⟨1,2,.seq (.region [⟨some 1,.mv (.cst (.bool false)),none⟩]) (.seq (.region [⟨none,.mv (.var 0),none⟩,⟨none,.call (.fn 30) [.tmp 0,.cst (.int .i64 (-1)),.cst (.int .i64 500000)],none⟩,⟨none,.un .not (.tmp 1),none⟩,⟨some 1,.mv (.tmp 2),none⟩]) .ret),[.tmp 1]⟩
theorem yl:aE Try.prog Try.f52 1 [0,2] [] true ([],[])=some Aq:=by kernel_rfl
theorem K6:Try.prog.funcs[52]?=some Try.f52:=by kernel_rfl
def LT:cB:=⟨3,6,.seq (.region [⟨some 3,.mv (.cst .nilS),none⟩]) (.seq (.region [⟨none,.mv (.var 0),none⟩,⟨none,.mv (.var 1),none⟩,⟨none,.mv (.var 2),none⟩,⟨none,.mv (.var 0),none⟩,⟨none,.lenSl (.tmp 3),none⟩,⟨none,.sliceM 2 (.tmp 0) (some (.tmp 1)) (.tmp 2) (.tmp 4),none⟩]) (.seq (.seq (.region [⟨none,.mv (.var 1),none⟩,⟨none,.mv (.var 2),none⟩,⟨some 5,.bin .eql (.tmp 0) (.tmp 1),none⟩]) (.cond (.var 5) (.seq (.region [⟨none,.mv (.var 0),none⟩,⟨some 3,.mv (.tmp 0),none⟩]) .ret) .skip)) (.seq (.region [⟨none,.mv (.var 0),none⟩,⟨none,.lenSl (.tmp 0),none⟩,⟨some 4,.mv (.tmp 1),none⟩]) (.seq (.region [⟨none,.mv (.var 0),none⟩,⟨none,.mv (.var 1),none⟩,⟨none,.sliceSl 2 (.tmp 0) none (some (.tmp 1)),none⟩,⟨none,.mv (.var 0),none⟩,⟨none,.mv (.var 2),none⟩,⟨none,.sliceSl 2 (.tmp 3) (some (.tmp 4)) none,none⟩,⟨none,.append 2 16 (.tmp 2) (.tmp 5),none⟩,⟨some 0,.mv (.tmp 6),none⟩]) (.seq (.region [⟨none,.mv (.var 0),none⟩,⟨none,.mv (.var 0),none⟩,⟨none,.lenSl (.tmp 1),none⟩,⟨none,.mv (.var 4),none⟩,⟨none,.sliceSl 2 (.tmp 0) (some (.tmp 2)) (some (.tmp 3)),none⟩,⟨none,.clear 2 (.agg [.int .i64 0,.int .i64 0]) (.tmp 4),none⟩]) (.seq (.region [⟨none,.mv (.var 0),none⟩,⟨some 3,.mv (.tmp 0),none⟩]) .ret)))))),[.tmp 3]⟩
theorem GY:aE Try.prog Try.f53 3 [0,1,2,6,7,16] [] true ([],[])=some LT:=by kernel_rfl
theorem at53:Try.prog.funcs[53]?=some Try.f53:=by kernel_rfl
def Ia:cB:=⟨1,3,.seq (.region [⟨some 1,.mv (.cst .nilS),none⟩]) (.seq (.seq (.region [⟨none,.mv (.var 0),none⟩,⟨some 2,.eqNil 1 false (.tmp 0),none⟩]) (.cond (.var 2) (.seq (.region [⟨some 1,.mv (.cst .nilS),none⟩]) .ret) .skip)) (.seq (.region [⟨none,.buildSlice 2 [],none⟩,⟨none,.mv (.var 0),none⟩,⟨none,.append 2 16 (.tmp 0) (.tmp 1),none⟩,⟨some 1,.mv (.tmp 2),none⟩]) .ret)),[.tmp 1]⟩
theorem GX:aE Try.prog Try.f54 1 [0,2,4] [] true ([],[])=some Ia:=by kernel_rfl
theorem at54:Try.prog.funcs[54]?=some Try.f54:=by kernel_rfl
def LS:cB:=⟨3,6,.seq (.region [⟨some 3,.mv (.cst .nilS),none⟩]) (.seq (.region [⟨none,.mv (.var 0),none⟩,⟨none,.mv (.var 1),none⟩,⟨none,.mv (.var 2),none⟩,⟨none,.mv (.var 0),none⟩,⟨none,.lenSl (.tmp 3),none⟩,⟨none,.sliceM 1 (.tmp 0) (some (.tmp 1)) (.tmp 2) (.tmp 4),none⟩]) (.seq (.seq (.region [⟨none,.mv (.var 1),none⟩,⟨none,.mv (.var 2),none⟩,⟨some 5,.bin .eql (.tmp 0) (.tmp 1),none⟩]) (.cond (.var 5) (.seq (.region [⟨none,.mv (.var 0),none⟩,⟨some 3,.mv (.tmp 0),none⟩]) .ret) .skip)) (.seq (.region [⟨none,.mv (.var 0),none⟩,⟨none,.lenSl (.tmp 0),none⟩,⟨some 4,.mv (.tmp 1),none⟩]) (.seq (.region [⟨none,.mv (.var 0),none⟩,⟨none,.mv (.var 1),none⟩,⟨none,.sliceSl 1 (.tmp 0) none (some (.tmp 1)),none⟩,⟨none,.mv (.var 0),none⟩,⟨none,.mv (.var 2),none⟩,⟨none,.sliceSl 1 (.tmp 3) (some (.tmp 4)) none,none⟩,⟨none,.append 1 8 (.tmp 2) (.tmp 5),none⟩,⟨some 0,.mv (.tmp 6),none⟩]) (.seq (.region [⟨none,.mv (.var 0),none⟩,⟨none,.mv (.var 0),none⟩,⟨none,.lenSl (.tmp 1),none⟩,⟨none,.mv (.var 4),none⟩,⟨none,.sliceSl 1 (.tmp 0) (some (.tmp 2)) (some (.tmp 3)),none⟩,⟨none,.clear 1 (.int .i64 0) (.tmp 4),none⟩]) (.seq (.region [⟨none,.mv (.var 0),none⟩,⟨some 3,.mv (.tmp 0),none⟩]) .ret)))))),[.tmp 3]⟩
theorem GW:aE Try.prog Try.f55 3 [0,1,2,6,7,16] [] true ([],[])=some LS:=by kernel_rfl
theorem at55:Try.prog.funcs[55]?=some Try.f55:=by kernel_rfl
def IR:cB:=⟨2,4,.seq (.region [⟨some 2,.box (.var 0),none⟩]) (.seq (.region [⟨some 3,.alloc 1 .nilF,none⟩]) (.seq (.region [⟨none,.makeFunc (.func 57) [] [.var 2,.var 3],none⟩,⟨none,.store 1 (.var 3) (.tmp 0),none⟩]) (.region [⟨none,.load false 1 (.var 3),none⟩,⟨none,.load false 1 (.var 1),none⟩,⟨none,.call (.tmp 0) [.tmp 1,.cst .nilS],none⟩]))),[]⟩
theorem GV:aE Try.prog Try.f56 2 [0,1,2,3] [] true ([],[])=some IR:=by kernel_rfl
theorem at56:Try.prog.funcs[56]?=some Try.f56:=by kernel_rfl
def gE:MC:=.seq (.region [⟨some 13,.bin .lss (.var 12) (.var 11),none⟩]) (.seq (.cond (.var 13) .skip (.exit 0)) (.seq (.seq (.block 1 (.seq (.region [⟨none,.mv (.var 12),none⟩,⟨none,.indexSl 1 (.var 10) (.var 12),none⟩,⟨none,.load false 1 (.tmp 1),none⟩,⟨some 5,.mv (.tmp 0),none⟩,⟨some 6,.mv (.tmp 2),none⟩]) (.seq (.region [⟨none,.mv (.var 5),none⟩,⟨none,.mv (.var 0),none⟩,⟨none,.lenSl (.tmp 1),none⟩,⟨none,.bin .sub (.tmp 2) (.cst (.int .i64 1)),none⟩,⟨none,.bin .eql (.tmp 0) (.tmp 3),none⟩,⟨some 7,.mv (.tmp 4),none⟩]) (.seq (.seq (.region [⟨none,.mv (.var 6),none⟩,⟨none,.un .not (.tmp 0),none⟩,⟨none,.mv (.tmp 1),none⟩,⟨none,.mv (.var 7),some (.tmp 2,false)⟩,⟨none,.un .not (.tmp 3),some (.tmp 2,false)⟩,⟨none,.mv (.tmp 4),some (.tmp 2,false)⟩,⟨none,.mv (.var 0),some (.tmp 5,true)⟩,⟨none,.mv (.var 5),some (.tmp 5,true)⟩,⟨none,.bin .add (.tmp 7) (.cst (.int .i64 1)),some (.tmp 5,true)⟩,⟨none,.indexSl 1 (.tmp 6) (.tmp 8),some (.tmp 5,true)⟩,⟨none,.load false 1 (.tmp 9),some (.tmp 5,true)⟩,⟨none,.pick (.tmp 5) (.tmp 10) (.cst (.bool false)),some (.tmp 2,false)⟩,⟨some 14,.pick (.tmp 2) (.cst (.bool true)) (.tmp 11),none⟩]) (.cond (.var 14) (.exit 1) .skip)) (.seq (.region [⟨none,.mv (.var 0),none⟩,⟨none,.call (.fn 59) [.tmp 0],none⟩,⟨some 8,.mv (.tmp 1),none⟩]) (.seq (.region [⟨none,.mv (.var 8),none⟩,⟨none,.mv (.var 5),none⟩,⟨none,.indexSl 1 (.tmp 0) (.tmp 1),none⟩,⟨none,.store 1 (.tmp 2) (.cst (.bool false)),none⟩]) (.seq (.seq (.region [⟨none,.mv (.var 7),none⟩,⟨some 15,.un .not (.tmp 0),none⟩]) (.cond (.var 15) (.region [⟨none,.mv (.var 8),none⟩,⟨none,.mv (.var 5),none⟩,⟨none,.bin .add (.tmp 1) (.cst (.int .i64 1)),none⟩,⟨none,.indexSl 1 (.tmp 0) (.tmp 2),none⟩,⟨none,.store 1 (.tmp 3) (.cst (.bool true)),none⟩]) .skip)) (.seq (.regionD [] [⟨none,.load false 1 (.var 3),none⟩,⟨none,.mv (.var 8),none⟩,⟨none,.mv (.var 1),none⟩,⟨none,.call (.fn 40) [.tmp 2],none⟩,⟨none,.mv (.var 5),none⟩,⟨none,.bin .add (.tmp 4) (.cst (.int .i64 1)),none⟩,⟨none,.buildF 1 [.tmp 5],none⟩,⟨none,.appendN 1 8 (.tmp 3) (.tmp 6),none⟩,⟨none,.call (.tmp 0) [.tmp 1,.tmp 7],none⟩,⟨some 16,.un .not (.tmp 8),none⟩] [(0,3),(0,7)]) (.cond (.var 16) (.seq (.region [⟨some 4,.mv (.cst (.bool false)),none⟩]) .ret) .skip))))))))) (.kill [2,4,5,6,7,8,9,13,14,15,16])) (.region [⟨none,.bin .add (.var 12) (.cst (.int .i64 1)),none⟩,⟨some 12,.mv (.tmp 0),none⟩])))
def EN:cB:=⟨4,17,.seq (.region [⟨some 4,.mv (.cst (.bool false)),none⟩]) (.seq (.seq (.region [⟨none,.mv (.var 0),none⟩,⟨none,.call (.fn 58) [.tmp 0,.cst (.bool true)],none⟩,⟨some 9,.un .not (.tmp 1),none⟩]) (.cond (.var 9) (.seq (.regionD [] [⟨none,.load false 1 (.var 2),none⟩,⟨none,.mv (.var 1),none⟩,⟨none,.call (.fn 40) [.tmp 1],none⟩,⟨none,.call (.tmp 0) [.tmp 2],none⟩,⟨some 4,.mv (.tmp 3),none⟩] [(0,2)]) .ret) .skip)) (.seq (.seq (.region [⟨some 10,.mv (.var 0),none⟩,⟨some 11,.lenSl (.var 10),none⟩,⟨some 12,.mv (.cst (.int .i64 0)),none⟩]) (.seq (.block 0 (.loop [2,4,5,6,7,8,9,13,14,15,16] gE)) (.kill [0,1,2,3,4,5,6,7,8,9,10,11,12,13,14,15,16]))) (.seq (.region [⟨some 4,.mv (.cst (.bool true)),none⟩]) .ret))),[.tmp 4]⟩
def jK:List Nat:=[2,4,5,6,7,8,9,13,14,15,16]
abbrev nf (v0 v1 v3 v10 v11 v12:AV):List AV:=[v0,v1,.undef,v3,.undef,.undef,.undef,.undef,.undef,.undef,v10,v11,v12,.undef,.undef,.undef,.undef]
theorem yI {v0 v1 d2 v3 d4 d5 d6 d7 d8 d9 v10 v11 v12 d13 d14 d15 d16:AV}:clear jK [v0,v1,d2,v3,d4,d5,d6,d7,d8,d9,v10,v11,v12,d13,d14,d15,d16]=nf v0 v1 v3 v10 v11 v12:=rfl
theorem Gk {E:Env} {fuel:Nat} {A:aa} {o:Out} {k:List KC} {v0 v1 d2 v3 d4 d5 d6 d7 d8 d9 v10 v11 v12 d13 d14 d15 d16:AV} (h:b8 (evC E fuel gE) jK fuel (nf v0 v1 v3 v10 v11 v12) A=some o) :
  run E fuel (.code (.loop [2,4,5,6,7,8,9,13,14,15,16] gE) :: k) [v0,v1,d2,v3,d4,d5,d6,d7,d8,d9,v10,v11,v12,d13,d14,d15,d16] A=after E fuel k o:=aU jK _ _ (by rw [yI]; exact h)
theorem B8:aE Try.prog Try.f57 4 [0,1,2,3,6,7,8,9,10,13,18,19,20,21,42,49,63] [] true ([[2,4,5,6,7,8,9,13,14,15,16]],[[2,4,5,6,7,8,9,13,14,15,16],[0,1,2,3,4,5,6,7,8,9,10,11,12,13,14,15,16]])=some EN:=by kernel_rfl
theorem Mo:Try.prog.funcs[57]?=some Try.f57:=by kernel_rfl
def IQ:cB:=⟨2,3,.seq (.region [⟨some 2,.mv (.cst (.bool false)),none⟩]) (.seq (.region [⟨none,.mv (.var 0),none⟩,⟨none,.mv (.var 1),none⟩,⟨none,.call (.fn 80) [.tmp 0,.tmp 1],none⟩,⟨none,.bin .geq (.tmp 2) (.cst (.int .i64 0)),none⟩,⟨some 2,.mv (.tmp 3),none⟩]) .ret),[.tmp 2]⟩
theorem GU:aE Try.prog Try.f58 2 [0,1,4] [] true ([],[])=some IQ:=by kernel_rfl
theorem at58:Try.prog.funcs[58]?=some Try.f58:=by kernel_rfl
def FU:cB:=⟨1,3,.seq (.region [⟨some 1,.mv (.cst .nilS),none⟩]) (.seq (.seq (.region [⟨none,.mv (.var 0),none⟩,⟨some 2,.eqNil 1 false (.tmp 0),none⟩]) (.cond (.var 2) (.seq (.region [⟨some 1,.mv (.cst .nilS),none⟩]) .ret) .skip)) (.seq (.region [⟨none,.buildSlice 1 [],none⟩,⟨none,.mv (.var 0),none⟩,⟨none,.append 1 1 (.tmp 0) (.tmp 1),none⟩,⟨some 1,.mv (.tmp 2),none⟩]) .ret)),[.tmp 1]⟩
theorem GT:aE Try.prog Try.f59 1 [0,2,4] [] true ([],[])=some FU:=by kernel_rfl
theorem at59:Try.prog.funcs[59]?=some Try.f59:=by kernel_rfl
def H9:cB:=⟨2,2,.region [⟨none,.load false 1 (.var 1),none⟩,⟨none,.mv (.var 0),none⟩,⟨none,.append 4 32 (.tmp 0) (.tmp 1),none⟩,⟨none,.store 1 (.var 1) (.tmp 2),none⟩],[]⟩
theorem GS:aE Try.prog Try.f60 2 [0,1] [] true ([],[])=some H9:=by kernel_rfl
theorem at60:Try.prog.funcs[60]?=some Try.f60:=by kernel_rfl
def jQ:MC:=.seq (.region [⟨some 6,.bin .lss (.var 5) (.var 4),none⟩]) (.seq (.cond (.var 6) .skip (.exit 0)) (.seq (.seq (.block 1 (.seq (.region [⟨none,.mv (.var 5),none⟩,⟨some 3,.mv (.tmp 0),none⟩]) (.seq (.region [⟨none,.mv (.var 1),none⟩,⟨none,.mv (.var 0),none⟩,⟨none,.mv (.var 3),none⟩,⟨none,.indexSl 1 (.tmp 1) (.tmp 2),none⟩,⟨none,.load false 1 (.tmp 3),none⟩,⟨some 7,.eqBool false (.tmp 0) (.tmp 4),none⟩]) (.cond (.var 7) (.seq (.region [⟨none,.mv (.var 3),none⟩,⟨some 2,.mv (.tmp 0),none⟩]) .ret) .skip)))) (.kill [2,3,6,7])) (.region [⟨none,.bin .add (.var 5) (.cst (.int .i64 1)),none⟩,⟨some 5,.mv (.tmp 0),none⟩])))
def H4:cB:=⟨2,8,.seq (.region [⟨some 2,.mv (.cst (.int .i64 0)),none⟩]) (.seq (.seq (.region [⟨none,.mv (.var 0),none⟩,⟨some 4,.lenSl (.tmp 0),none⟩,⟨some 5,.mv (.cst (.int .i64 0)),none⟩]) (.seq (.block 0 (.loop [2,3,6,7] jQ)) (.kill [0,1,2,3,4,5,6,7]))) (.seq (.region [⟨some 2,.mv (.cst (.int .i64 (-1))),none⟩]) .ret)),[.tmp 2]⟩
def gV:List Nat:=[2,3,6,7]
abbrev kT (v0 v1 v4 v5:AV):List AV:=[v0,v1,.undef,.undef,v4,v5,.undef,.undef]
theorem Cb {v0 v1 d2 d3 v4 v5 d6 d7:AV}:clear gV [v0,v1,d2,d3,v4,v5,d6,d7]=kT v0 v1 v4 v5:=rfl
theorem BH {E:Env} {fuel:Nat} {A:aa} {o:Out} {k:List KC} {v0 v1 d2 d3 v4 v5 d6 d7:AV} (h:b8 (evC E fuel jQ) gV fuel (kT v0 v1 v4 v5) A=some o) :
  run E fuel (.code (.loop [2,3,6,7] jQ) :: k) [v0,v1,d2,d3,v4,v5,d6,d7] A=after E fuel k o:=aU gV _ _ (by rw [Cb]; exact h)
theorem GM:aE Try.prog Try.f80 2 [0,1,4,5,7,8,9,16] [] true ([[2,3,6,7]],[[2,3,6,7],[0,1,2,3,4,5,6,7]])=some H4:=by kernel_rfl
theorem at80:Try.prog.funcs[80]?=some Try.f80:=by kernel_rfl
end Tr
namespace Tr
open Go
open Cy (GC iq db bL bO cq aL bc aB)
open Clu (aR a6 au chA M16 lr qk aV aS cc bz cF dA dM)
def mA (n lo hi:Int):Bool:=decide (lo<=n) && decide (n<=hi)
theorem dw {n lo hi:Int}:mA n lo hi=true↔lo<=n/\n<=hi:=by simp [mA]
def M30:aP:=fun args=>match args with
 | [.int .i64 n,.int .i64 lo,.int .i64 hi]=>some (.bool (mA n lo hi))
 | _=>none
theorem ru:aq Try.prog GC 30 M30:=by
 refine aq.of_ev (E:=ax GC []) (aw az) rfl at30 G4 1 ?_
 intro args r h
 unfold M30 at h
 split at h
 ·rename_i n lo hi
  injection h with h; subst h
  refine ⟨0,?_⟩
  have b1:ag .geq (.int .i64 n) (.int .i64 lo)=some (.bool (decide (lo<=n))):=by simp [ag]
  have b2:ag .leq (.int .i64 n) (.int .i64 hi)=some (.bool (decide (n<=hi))):=by simp [ag]
  unfold mA
  obtain ⟨p,hp⟩:∃p,p=decide (lo<=n):=⟨_,rfl⟩
  obtain ⟨q,hq⟩:∃q,q=decide (n<=hi):=⟨_,rfl⟩
  rw [<-hp] at b1 ⊢
  rw [<-hq] at b2 ⊢
  rw [aI _ _ rfl]
  cases p <;> simp [LU,b1,b2,-ag]
 ·cases h
@[simp] theorem dQ (n lo hi:Int):M30 [.int .i64 n,.int .i64 lo,.int .i64 hi]=some (.bool (mA n lo hi)):=rfl
def we:List (FuncId × aG):=[(62,aD 4 M16)]
@[simp] theorem Jn:aC we 62=some (aD 4 M16):=rfl
def M47:aP:=fun args=>evP (ax GC we) 0 Bs 1 args
theorem uw:aq Try.prog GC 47 M47:=aq.of_ev (E:=ax GC we) (aw (af (aj.of_pure lr 4) az)) rfl K8 yn 1 fun _ _ h=>⟨0,h⟩
def isT (T:aR):Prop:=a6 T/\T.blades=1
instance (T:aR):Decidable (isT T):=inferInstanceAs (Decidable (_/\_))
theorem Cv {T:aR} {chv:AV} (hb:SlA 2 (T.ch.map chA) chv) (hl:T.ch.length<=200):M47 [au T chv]=some (.bool (decide (isT T))):=by
 have m:=qk hb hl
 have ft:=fun A=>aV (T:=T) (fun A n=>hb.frz (A:=A) n) A 3
 have bx:aZ 5 (au T chv) []=some (.ptr 0 0 0,[.row 5 false [au T chv]]):=rfl
 have ct:(cellsOf (au T chv)).length=5:=rfl
 obtain ⟨A0,hA0⟩:∃A:aa,A=[.row 5 false [au T chv]]:=⟨_,rfl⟩
 have lt:ac true 5 A0 (.ptr 0 0 0)=some (au T chv):=by rw [hA0]; rfl
 have fa:ab 4 A0 (.ptr 0 0 0)=some (.ptr 0 0 4):=by rw [hA0]; simp [ab]
 have l4:ac false 1 A0 (.ptr 0 0 4)=some (.int .i64 T.blades):=by rw [hA0]; rfl
 have b1:=bz T.blades 1
 have e:decide (isT T)=(decide (T.blades=1) && decide (a6 T)):=by
  unfold isT
  by_cases h1:T.blades=1 <;> by_cases h2:a6 T <;> simp [h1,h2]
 rw [e]
 obtain ⟨t,ht⟩:∃t,t=au T chv:=⟨_,rfl⟩
 rw [<-ht] at m ft bx ct lt hA0 ⊢
 rw [<-hA0] at bx
 obtain ⟨p,hp⟩:∃p,p=decide (T.blades=1):=⟨_,rfl⟩
 obtain ⟨q,hq⟩:∃q,q=decide (a6 T):=⟨_,rfl⟩
 rw [<-hp] at b1 ⊢
 rw [<-hq] at m ⊢
 unfold M47
 rw [aI _ _ rfl]
 cases p <;> simp [Bs,m,ft,bx,ct,lt,fa,l4,b1,bc,-aZ,-ac,-ab,-frz,-cellsOf,-ag]
def sT (x:Int):Bool:=!mA x (-1) 500000
def Ie:List (FuncId × aG):=[(30,aD 4 M30)]
@[simp] theorem Jg:aC Ie 30=some (aD 4 M30):=rfl
theorem C5:∀f M,aC Ie f=some M->aj Try.prog GC f M:=af (aj.of_pure ru 4) az
def M52:aP:=fun args=>evP (ax GC Ie) 0 Aq 1 args
theorem wS:aq Try.prog GC 52 M52:=aq.of_ev (E:=ax GC Ie) (aw C5) rfl K6 yl 1 fun _ _ h=>⟨0,h⟩
theorem HH (x:Int):M52 [.int .i64 x]=some (.bool (sT x)):=by
 have m:M30 [.int .i64 x,.int .i64 (-1),.int .i64 500000]=some (.bool (mA x (-1) 500000)):=rfl
 unfold sT
 obtain ⟨p,hp⟩:∃p,p=mA x (-1) 500000:=⟨_,rfl⟩
 rw [<-hp] at m ⊢
 unfold M52
 rw [aI _ _ rfl]
 simp [Aq,m]
def iz:AV:=.func (.func 52) [] []
def BS:List (FuncId × aG):=[(52,aD 4 M52)]
@[simp] theorem I9:aC BS 52=some (aD 4 M52):=rfl
theorem C1:∀f M,aC BS f=some M->aj Try.prog GC f M:=af (aj.of_pure wS 4) az
def M79:aP:=fun args=>evP (ax GC BS) 300 Cy.wz 1 args
theorem Fd:aq Try.prog GC 79 M79:=aq.of_ev (E:=ax GC BS) (aw C1) rfl Cy.It Cy.vq 1 fun _ _ h=>⟨300,h⟩
theorem HC {xs:List Int} {b:AV} (hb:SlA 1 (ak xs) b) (hl:xs.length<=200):M79 [b,iz]=some (.int .i64 (db sT xs)):=by
 have hlen:=hb.len
 rw [aB] at hlen
 have round:∀(A:aa) (i:Nat) (hi:i<xs.length),run (ax GC BS) 300 [.code Cy.ee] (Cy.eT b iz (.int .i64 (xs.length:Int)) (.int .i64 (i:Int))) A =
   if sT xs[i]=false then some (.normal (Cy.eT b iz (.int .i64 (xs.length:Int)) (.int .i64 ((i+1:Nat):Int))) A) else some (.ret [b,iz,.int .i64 (i:Int),.int .i64 (i:Int),.int .i64 (xs.length:Int),.int .i64 (i:Int),.bool true,.bool true] A):=fun A i hi=>by
  have x1:=hb.int (A:=A) _ _ (List.getElem?_eq_getElem hi) .i64
  have m:=HH xs[i]
  have b1:=br i xs.length .i64
  rw [decide_eq_true hi] at b1
  have b3:=a9 i (by omega)
  obtain ⟨i1,hi1⟩:∃i1:Nat,i1=i+1:=⟨_,rfl⟩
  rw [<-hi1] at b3 ⊢
  obtain ⟨d,hd⟩:∃d,d=sT xs[i]:=⟨_,rfl⟩
  rw [<-hd] at m ⊢
  cases d with
  | false=>simp [Cy.ee,iz,x1,m,b1,b3,-ag,-ai,-an]
  | true=>simp [Cy.ee,iz,x1,m,b1,-ag,-ai,-an]
 unfold M79
 rw [aI _ _ rfl]
 rcases cP (E:=ax GC BS) (fuel:=300) (a:=Cy.ee) (mask:=Cy.eB) (fun i=>Cy.eT b iz (.int .i64 (xs.length:Int)) (.int .i64 (i:Int))) (fun _=>[]) xs.length (fun i=>¬ ∀hi:i<xs.length,sT xs[i]=false)
  (oF:=fun i=>.ret [b,iz,.int .i64 (i:Int),.int .i64 (i:Int),.int .i64 (xs.length:Int),.int .i64 (i:Int),.bool true,.bool true] []) (oE:=.exit 0 ((Cy.eT b iz (.int .i64 (xs.length:Int)) (.int .i64 (xs.length:Int))).set 6 (.bool false)) [])
  (fun _=>Cy.yK) (fun _ _ _ h=>by cases h) (fun _ _ h=>by cases h)
  (fun i hi hp=>by
   rw [round [] i hi]
   exact if_pos (Classical.not_not.1 hp hi))
  (fun i hi hp=>by
   rw [round [] i hi]
   exact if_neg fun h=>hp fun _=>h)
  (by simp [Cy.ee]) (show xs.length<300 by omega) with ⟨i,hi,hp,hj,lp⟩ | ⟨hp,lp⟩
 ·have lp:b8 (evC (ax GC BS) 300 Cy.ee) Cy.eB 300 (Cy.eT b iz (.int .i64 (xs.length:Int)) (.int .i64 0)) []=_:=lp
  have e:db sT xs=(i:Int):=bL hi (by
   cases h':sT xs[i] with
   | true=>rfl
   | false=>exact absurd (fun _=>h') hp) (fun j hj'=>Classical.not_not.1 (hj j hj') (by omega))
  rw [e]
  simp [Cy.wz,hlen,Cy.uW lp,-ag,-an]
 ·have lp:b8 (evC (ax GC BS) 300 Cy.ee) Cy.eB 300 (Cy.eT b iz (.int .i64 (xs.length:Int)) (.int .i64 0)) []=_:=lp
  have e:db sT xs = -1:=bO fun i hi=>Classical.not_not.1 (hp i hi) hi
  rw [e]
  simp [Cy.wz,hlen,Cy.uW lp,-ag,-an]
def Ji:List (FuncId × aG):=[(79,aD 4 M79)]
@[simp] theorem Jh:aC Ji 79=some (aD 4 M79):=rfl
def M51:aP:=fun args=>evP (ax GC Ji) 0 Cy.As 1 args
theorem uv:aq Try.prog GC 51 M51:=aq.of_ev (E:=ax GC Ji) (aw (af (aj.of_pure Fd 4) az)) rfl Cy.Iu Cy.vr 1 fun _ _ h=>⟨0,h⟩
theorem HI {xs:List Int} {b:AV} (hb:SlA 1 (ak xs) b) (hl:xs.length<=200):M51 [b,iz]=some (.bool (xs.any sT)):=by
 have h:=HC hb hl
 have b1:=iq (db sT xs)
 rw [cq] at b1
 have f1:∀A n,frz A n b=b:=fun A n=>hb.frz n
 have hF:∀A,frz A 4 iz=iz:=fun _=>rfl
 obtain ⟨z,hz⟩:∃z,z=db sT xs:=⟨_,rfl⟩
 rw [<-hz] at h b1
 obtain ⟨F,hFF⟩:∃F,F=iz:=⟨_,rfl⟩
 rw [<-hFF] at h hF ⊢
 unfold M51
 rw [aI _ _ rfl]
 simp [Cy.As,f1,hF,h,b1,bM,bc,-ag,-frz]
def GB:List (FuncId × aG):=[(47,aD 4 M47),(30,aD 4 M30),(51,aD 4 M51)]
@[simp] theorem JO:aC GB 47=some (aD 4 M47):=rfl
@[simp] theorem JP:aC GB 30=some (aD 4 M30):=rfl
@[simp] theorem JN:aC GB 51=some (aD 4 M51):=rfl
def M29:aP:=fun args=>evP (ax GC GB) 0 IU 1 args
theorem Bn:aq Try.prog GC 29 M29:=aq.of_ev (E:=ax GC GB) (aw (af (aj.of_pure uw 4) (af (aj.of_pure ru 4) (af (aj.of_pure uv 4) az)))) rfl at29 G5 1 fun _ _ h=>⟨0,h⟩
theorem IG (T:aR) (rd:List Int) (free:Int):decide (Sit T rd free)=(decide (isT T) && (decide ((rd.length:Int)=(T.ch.length:Int)) && (mA free 0 2000000 && !(rd.any sT)))):=by
 have e:(!(rd.any sT))=decide (∀t∈rd,-1<=t/\t<=500000):=by
  rw [Bool.eq_iff_iff,decide_eq_true_eq,Bool.not_eq_true',List.any_eq_false]
  unfold sT mA
  simp
 rw [e,Bool.eq_iff_iff,decide_eq_true_eq]
 simp only [Bool.and_eq_true,decide_eq_true_eq,dw]
 unfold Sit isT
 constructor
 ·rintro ⟨h1,h2,h3,h4⟩; exact ⟨h1,by omega,h3,h4⟩
 ·rintro ⟨h1,h2,h3,h4⟩; exact ⟨h1,by omega,h3,h4⟩
theorem zD {T:aR} {chv rdv:AV} (hb:SlA 2 (T.ch.map chA) chv) (hl:T.ch.length<=200) {rd:List Int} (hr:SlA 1 (ak rd) rdv) (hrl:rd.length<=200) (free:Int):M29 [au T chv,rdv,.int .i64 free]=some (.bool (decide (Sit T rd free))):=by
 have m:=Cv hb hl
 have m2:=HI hr hrl
 have m3:M30 [.int .i64 free,.int .i64 0,.int .i64 2000000]=some (.bool (mA free 0 2000000)):=rfl
 have ft:=fun A=>aV (T:=T) (fun A n=>hb.frz (A:=A) n) A 3
 have fr:∀A n,frz A n rdv=rdv:=fun A n=>hr.frz n
 have fb:∀A,frz A 4 (.func (.func 52) [] [])=iz:=fun _=>rfl
 have hl1:=hb.len
 rw [List.length_map] at hl1
 have hl2:=hr.len
 rw [aB] at hl2
 have bx:aZ 5 (au T chv) []=some (.ptr 0 0 0,[.row 5 false [au T chv]]):=rfl
 have ct:(cellsOf (au T chv)).length=5:=rfl
 obtain ⟨A0,hA0⟩:∃A:aa,A=[.row 5 false [au T chv]]:=⟨_,rfl⟩
 have lt:ac true 5 A0 (.ptr 0 0 0)=some (au T chv):=by rw [hA0]; rfl
 have fa:ab 0 A0 (.ptr 0 0 0)=some (.ptr 0 0 0):=by rw [hA0]; simp [ab]
 have l0:ac false 1 A0 (.ptr 0 0 0)=some chv:=by
  rw [hA0]
  rcases hb with ⟨rfl,_⟩ | rfl <;> rfl
 have b1:=bz (rd.length:Int) (T.ch.length:Int)
 rw [IG]
 obtain ⟨t,ht⟩:∃t,t=au T chv:=⟨_,rfl⟩
 rw [<-ht] at m ft bx ct lt hA0 ⊢
 rw [<-hA0] at bx
 obtain ⟨p,hp⟩:∃p,p=decide (isT T):=⟨_,rfl⟩
 obtain ⟨q,hq⟩:∃q,q=decide ((rd.length:Int)=(T.ch.length:Int)):=⟨_,rfl⟩
 obtain ⟨u,hu⟩:∃u,u=mA free 0 2000000:=⟨_,rfl⟩
 obtain ⟨v,hv⟩:∃v,v=rd.any sT:=⟨_,rfl⟩
 obtain ⟨z1,hz1⟩:∃z1,z1=(rd.length:Int):=⟨_,rfl⟩
 obtain ⟨z2,hz2⟩:∃z2,z2=(T.ch.length:Int):=⟨_,rfl⟩
 rw [<-hp] at m ⊢
 rw [<-hq] at b1 ⊢
 rw [<-hu] at m3 ⊢
 rw [<-hv] at m2 ⊢
 rw [<-hz1] at hl2 b1
 rw [<-hz2] at hl1 b1
 unfold M29
 rw [aI _ _ rfl]
 cases p <;> cases q <;> cases u <;> simp [IU,m,m2,m3,ft,fr,fb,bx,ct,lt,fa,l0,b1,hl1,hl2,bc,aL,-aZ,-ac,-ab,-an,-frz,-cellsOf,-ag,-dQ]
def M42:aP:=fun args=>evP (ax GC []) 0 xw 1 args
theorem pG:aq Try.prog GC 42 M42:=aq.of_ev (E:=ax GC []) (aw az) rfl Hk sq 1 fun _ _ h=>⟨0,h⟩
theorem vF {T:aR} (chv:AV) (hv:a6 T):M42 [au T chv]=some (.int .i64 (wT T)):=by
 obtain ⟨_,⟨h1,h2,h3⟩,_⟩:=hv
 have b1:ag .add (.int .i64 T.pick) (.int .i64 T.travel)=some (.int .i64 (T.pick+T.travel)):=aS (by omega)
 have b2:ag .add (.int .i64 (T.pick+T.travel)) (.int .i64 T.place)=some (.int .i64 (wT T)):=aS (by omega)
 unfold M42
 rw [aI _ _ rfl]
 simp [xw,au,b1,b2,-ag]
def M41:aP:=fun args=>evP (ax GC []) 0 xx 1 args
theorem nv:aq Try.prog GC 41 M41:=aq.of_ev (E:=ax GC []) (aw az) rfl Hl sr 1 fun _ _ h=>⟨0,h⟩
theorem vG {T:aR} (chv:AV) (a b:Int) (ha : -1000<=a/\a<=1000):M41 [au T chv,.int .i64 a,.int .i64 b]=some (.int .i64 (btw T a b)):=by
 have b1:ag .add (.int .i64 a) (.int .i64 1)=some (.int .i64 (a+1)):=aS (by omega)
 have b2:=bz b (a+1)
 obtain ⟨a1,ha1⟩:∃a1,a1=a+1:=⟨_,rfl⟩
 unfold btw
 rw [<-ha1] at b1 b2 ⊢
 unfold M41
 rw [aI _ _ rfl]
 by_cases h:b=a1
 ·rw [decide_eq_true h] at b2
  rw [if_pos h]
  simp [xx,au,b1,b2,-ag]
 ·rw [decide_eq_false h] at b2
  rw [if_neg h]
  simp [xx,au,b1,b2,-ag]
end Tr
namespace Tr
open Go
open Cy (GC aL bc aB)
open Clu (aR a6 au chA aV aS cc bz cF dA dM ce pT iT)
section
variable {A:aa} {id:Nat} {xs:List Int}
theorem eh {n:Nat} {g:Bool} {es:List AV} (h:A[id]?=some (.row 1 g es)) {k:Nat} (hk:k<n) (kk:IntKind):ai 1 A (.sl id 0 n) (.int kk (k:Int))=some (.ptr id k 0):=by
 simp only [ai,h]
 rw [if_pos ⟨trivial,by omega,by omega,by omega⟩]
 simp
theorem lM (h:A[id]?=some (.row 1 false (ak xs))) {k:Nat} (hk:k<xs.length):ac false 1 A (.ptr id k 0)=some (.int .i64 (xs.getD k 0)):=by
 have e:(ak xs)[k]?=some (.int .i64 (xs.getD k 0)):=by
  simp [ak,List.getD_eq_getElem?_getD,List.getElem?_eq_getElem hk]
 simp only [ac,h,e]
 rfl
theorem kS (h:A[id]?=some (.row 1 false (ak xs))) {k:Nat} (hk:k<xs.length) (v:Int):aA 1 A (.ptr id k 0) (.int .i64 v)=some (A.set id (.row 1 false (ak (xs.set k v)))):=by
 have e:(ak xs)[k]?=some (.int .i64 (xs.getD k 0)):=by
  simp [ak,List.getD_eq_getElem?_getD,List.getElem?_eq_getElem hk]
 have e2:(ak xs).set k (.int .i64 v)=ak (xs.set k v):=by simp [ak,List.map_set]
 simp only [aA,h,e]
 rw [if_pos ⟨trivial,rfl,rfl,by omega⟩]
 simp only [bj,cellsOf]
 rw [<-e2]
 rfl
end
def aX (t:cS):AV:=.agg [.int .i64 t.1,.int .i64 t.2]
@[simp] theorem Mg (A:aa) (a b:AV):ab 0 A (.fp [a,b])=some (.fp [a,b]):=rfl
@[simp] theorem Me (A:aa) (a b:AV):ab 1 A (.fp [a,b])=some (.fp [b]):=rfl
@[simp] theorem LW (A:aa) (a:AV) (r:List AV):ac false 1 A (.fp (a :: r))=some a:=rfl
theorem Ej {T:aR} {chv:AV} (hb:SlA 2 (T.ch.map chA) chv) {k:Nat} (hk:k<T.ch.length) (A:aa) (kk:IntKind):ai 2 A chv (.int kk (k:Int))=some (.fp [.int .i64 (tmT T k),.int .i64 (syT T k)]):=by
 have:=hb.index (A:=A) (i:=k) (x:=chA (T.ch.getD k (0,0))) (by simp [List.getD_eq_getElem?_getD,List.getElem?_eq_getElem hk]) rfl (by omega) kk
 rw [this]; rfl
def me:List (FuncId × aG):=[(29,aD 4 M29),(30,aD 4 M30),(41,aD 4 M41),(42,aD 4 M42),(40,fun _=>bV (ax GC []) 0 Cy.tH)]
@[simp] theorem Ky:aC me 29=some (aD 4 M29):=rfl
@[simp] theorem Kx:aC me 30=some (aD 4 M30):=rfl
@[simp] theorem Kv:aC me 41=some (aD 4 M41):=rfl
@[simp] theorem Ku:aC me 42=some (aD 4 M42):=rfl
@[simp] theorem Kw:aC me 40=some (fun _=>bV (ax GC []) 0 Cy.tH):=rfl
theorem Dq:∀f M,aC me f=some M->aj Try.prog GC f M:=af (aj.of_pure Bn 4) (af (aj.of_pure ru 4) (af (aj.of_pure nv 4) (af (aj.of_pure pG 4) (af Cy.lq az))))
def M17:aP:=fun args=>evP (ax GC me) 300 FY 4 args
theorem uD:aq Try.prog GC 17 M17:=aq.of_ev (E:=ax GC me) (aw Dq) rfl at17 G9 4 fun _ _ h=>⟨300,h⟩
def Ev:MC:=.seq (.region [⟨none,.fieldAddr 0 (.var 10),none⟩,⟨none,.load false 1 (.tmp 0),none⟩,⟨some 12,.mv (.tmp 1),none⟩]) (.seq (.region [⟨none,.mv (.var 12),none⟩,⟨none,.mv (.var 7),none⟩,⟨none,.lenSl (.tmp 1),none⟩,⟨some 21,.bin .lss (.tmp 0) (.tmp 2),none⟩]) (.cond (.var 21) (.seq (.seq (.region [⟨none,.mv (.var 7),none⟩,⟨none,.mv (.var 12),none⟩,⟨none,.indexSl 1 (.tmp 0) (.tmp 1),none⟩,⟨none,.load false 1 (.tmp 2),none⟩,⟨some 22,.bin .geq (.tmp 3) (.cst (.int .i64 0)),none⟩]) (.cond (.var 22) (.seq (.region [⟨some 5,.mv (.cst (.int .i64 0)),none⟩,⟨some 6,.mv (.cst (.bool false)),none⟩]) .ret) .skip)) (.region [⟨none,.mv (.var 7),none⟩,⟨none,.mv (.var 12),none⟩,⟨none,.mv (.var 9),none⟩,⟨none,.fieldAddr 0 (.var 4),none⟩,⟨none,.load false 1 (.tmp 3),none⟩,⟨none,.mv (.var 12),none⟩,⟨none,.indexSl 2 (.tmp 4) (.tmp 5),none⟩,⟨none,.fieldAddr 0 (.tmp 6),none⟩,⟨none,.load false 1 (.tmp 7),none⟩,⟨none,.bin .add (.tmp 2) (.tmp 8),none⟩,⟨none,.indexSl 1 (.tmp 0) (.tmp 1),none⟩,⟨none,.store 1 (.tmp 10) (.tmp 9),none⟩])) .skip))
def zW:MC:=.seq (.seq (.region [⟨none,.fieldAddr 0 (.var 10),none⟩,⟨none,.load false 1 (.tmp 0),none⟩,⟨none,.bin .sub (.tmp 1) (.cst (.int .i64 1)),none⟩,⟨some 11,.mv (.tmp 2),none⟩]) (.seq (.region [⟨none,.mv (.var 11),none⟩,⟨some 19,.bin .geq (.tmp 0) (.cst (.int .i64 0)),none⟩]) (.cond (.var 19) (.seq (.seq (.region [⟨none,.mv (.var 7),none⟩,⟨none,.mv (.var 11),none⟩,⟨none,.indexSl 1 (.tmp 0) (.tmp 1),none⟩,⟨none,.load false 1 (.tmp 2),none⟩,⟨none,.bin .lss (.tmp 3) (.cst (.int .i64 0)),none⟩,⟨none,.mv (.tmp 4),none⟩,⟨none,.fieldAddr 1 (.var 10),some (.tmp 5,false)⟩,⟨none,.load false 1 (.tmp 6),some (.tmp 5,false)⟩,⟨none,.mv (.var 7),some (.tmp 5,false)⟩,⟨none,.mv (.var 11),some (.tmp 5,false)⟩,⟨none,.indexSl 1 (.tmp 8) (.tmp 9),some (.tmp 5,false)⟩,⟨none,.load false 1 (.tmp 10),some (.tmp 5,false)⟩,⟨none,.mv (.var 7),some (.tmp 5,false)⟩,⟨none,.mv (.var 11),some (.tmp 5,false)⟩,⟨none,.indexSl 1 (.tmp 12) (.tmp 13),some (.tmp 5,false)⟩,⟨none,.load false 1 (.tmp 14),some (.tmp 5,false)⟩,⟨none,.fieldAddr 0 (.var 4),some (.tmp 5,false)⟩,⟨none,.load false 1 (.tmp 16),some (.tmp 5,false)⟩,⟨none,.mv (.var 11),some (.tmp 5,false)⟩,⟨none,.indexSl 2 (.tmp 17) (.tmp 18),some (.tmp 5,false)⟩,⟨none,.fieldAddr 1 (.tmp 19),some (.tmp 5,false)⟩,⟨none,.load false 1 (.tmp 20),some (.tmp 5,false)⟩,⟨none,.bin .add (.tmp 15) (.tmp 21),some (.tmp 5,false)⟩,⟨none,.call (.fn 30) [.tmp 7,.tmp 11,.tmp 22],some (.tmp 5,false)⟩,⟨none,.un .not (.tmp 23),some (.tmp 5,false)⟩,⟨some 20,.pick (.tmp 5) (.cst (.bool true)) (.tmp 24),none⟩]) (.cond (.var 20) (.seq (.region [⟨some 5,.mv (.cst (.int .i64 0)),none⟩,⟨some 6,.mv (.cst (.bool false)),none⟩]) .ret) .skip)) (.region [⟨none,.mv (.var 7),none⟩,⟨none,.mv (.var 11),none⟩,⟨none,.indexSl 1 (.tmp 0) (.tmp 1),none⟩,⟨none,.store 1 (.tmp 2) (.cst (.int .i64 (-1))),none⟩])) .skip))) Ev
theorem vZ:gF=.seq (.region [⟨some 17,.bin .lss (.var 16) (.var 15),none⟩]) (.seq (.cond (.var 17) .skip (.exit 0)) (.seq (.seq (.block 1 (.seq (.region [⟨none,.indexSl 2 (.var 14) (.var 16),none⟩,⟨none,.load true 2 (.tmp 0),none⟩,⟨some 10,.alloc 2 (.agg [.int .i64 0,.int .i64 0]),none⟩,⟨none,.store 2 (.var 10) (.tmp 1),none⟩]) (.seq (.seq (.region [⟨none,.fieldAddr 0 (.var 10),none⟩,⟨none,.load false 1 (.tmp 0),none⟩,⟨none,.mv (.var 7),none⟩,⟨none,.lenSl (.tmp 2),none⟩,⟨none,.call (.fn 30) [.tmp 1,.cst (.int .i64 0),.tmp 3],none⟩,⟨none,.un .not (.tmp 4),none⟩,⟨none,.mv (.tmp 5),none⟩,⟨none,.fieldAddr 1 (.var 10),some (.tmp 6,false)⟩,⟨none,.load false 1 (.tmp 7),some (.tmp 6,false)⟩,⟨none,.mv (.var 9),some (.tmp 6,false)⟩,⟨none,.load true 5 (.var 4),some (.tmp 6,false)⟩,⟨none,.mv (.var 8),some (.tmp 6,false)⟩,⟨none,.fieldAddr 0 (.var 10),some (.tmp 6,false)⟩,⟨none,.load false 1 (.tmp 12),some (.tmp 6,false)⟩,⟨none,.call (.fn 41) [.tmp 10,.tmp 11,.tmp 13],some (.tmp 6,false)⟩,⟨none,.bin .add (.tmp 9) (.tmp 14),some (.tmp 6,false)⟩,⟨none,.call (.fn 30) [.tmp 8,.tmp 15,.cst (.int .i64 1000000000)],some (.tmp 6,false)⟩,⟨none,.un .not (.tmp 16),some (.tmp 6,false)⟩,⟨some 18,.pick (.tmp 6) (.cst (.bool true)) (.tmp 17),none⟩]) (.cond (.var 18) (.seq (.region [⟨some 5,.mv (.cst (.int .i64 0)),none⟩,⟨some 6,.mv (.cst (.bool false)),none⟩]) .ret) .skip)) (.seq (.region [⟨none,.fieldAddr 0 (.var 10),none⟩,⟨none,.load false 1 (.tmp 0),none⟩,⟨none,.fieldAddr 1 (.var 10),none⟩,⟨none,.load false 1 (.tmp 2),none⟩,⟨none,.load true 5 (.var 4),none⟩,⟨none,.call (.fn 42) [.tmp 4],none⟩,⟨none,.bin .add (.tmp 3) (.tmp 5),none⟩,⟨some 8,.mv (.tmp 1),none⟩,⟨some 9,.mv (.tmp 6),none⟩]) zW)))) (.kill [0,1,2,3,5,6,10,11,12,13,17,18,19,20,21,22])) (.region [⟨none,.bin .add (.var 16) (.cst (.int .i64 1)),none⟩,⟨some 16,.mv (.tmp 0),none⟩]))):=rfl
structure A17 (A:aa) (T:aR) (chv:AV) (inn:List Int):Prop where
 t:A[0]?=some (.row 5 false [au T chv])
 r:A[2]?=some (.row 1 false (ak inn))
 l:2<A.length
theorem A17.set {A:aa} {T:aR} {chv:AV} {inn:List Int} (h:A17 A T chv inn) (inn':List Int):A17 (A.set 2 (.row 1 false (ak inn'))) T chv inn':=
 ⟨by rw [List.getElem?_set_ne (by omega)]; exact h.t,by rw [List.getElem?_set_self h.l],by rw [List.length_set]; exact h.l⟩
theorem A17.tool {A:aa} {T:aR} {chv:AV} {inn:List Int} (h:A17 A T chv inn) (hb:SlA 2 (T.ch.map chA) chv):ac true 5 A (.ptr 0 0 0)=some (au T chv)/\ab 0 A (.ptr 0 0 0)=some (.ptr 0 0 0)/\ac false 1 A (.ptr 0 0 0)=some chv:=by
 have h1:∀B:aa,B[0]?=A[0]?->ac true 5 B (.ptr 0 0 0)=ac true 5 A (.ptr 0 0 0):=fun B e=>by simp only [ac,e]
 refine ⟨?_,?_,?_⟩
 ·simp only [ac,h.t]; rfl
 ·simp only [ab,h.t]; rfl
 ·simp only [ac,h.t]
  rcases hb with ⟨rfl,_⟩ | rfl <;> rfl
theorem s8 {A:aa} {p:Nat} {t:cS} (h:A[p]?=some (.row 2 false [aX t])):ab 0 A (.ptr p 0 0)=some (.ptr p 0 0)/\ab 1 A (.ptr p 0 0)=some (.ptr p 0 1)/\ac false 1 A (.ptr p 0 0)=some (.int .i64 t.1)/\ac false 1 A (.ptr p 0 1)=some (.int .i64 t.2):=by
 refine ⟨?_,?_,?_,?_⟩
 ·simp only [ab,h]; rfl
 ·simp only [ab,h]; rfl
 ·simp only [ac,h]; rfl
 ·simp only [ac,h]; rfl
abbrev s17 (n:Nat) (last fin:Int) (lv:AV) (m i:Nat):List AV:=rr (.ptr 0 0 0) (.sl 2 0 n) (.int .i64 last) (.int .i64 fin) lv (.int .i64 (m:Int)) (.int .i64 (i:Int))
section
variable {T:aR} {chv:AV} {A:aa} {inn:List Int} {n p:Nat} {tn ts:Int}
theorem IC (hb:SlA 2 (T.ch.map chA) chv) (hv:a6 T) (hA:A17 A T chv inn) (hn:inn.length=T.ch.length) (hnn:n=T.ch.length) (hp:A[p]?=some (.row 2 false [aX (tn,ts)])) (h0:0<=tn) (hts:0<=ts/\ts<=1000000000)
  (v0 v1 v2 v3 v5 v6 v8 v11 v12 v13 v14 v15 v16 v17 v18 v19 v20 v21 v22:AV) :
  match vU T inn (tn,ts) with
  | some inn2=>∃e12 e21 e22 B,(∀K,run (ax GC me) 300 (.code Ev :: K) [v0,v1,v2,v3,.ptr 0 0 0,v5,v6,.sl 2 0 n,v8,.int .i64 (ts+wT T),.ptr p 0 0,v11,v12,v13,v14,v15,v16,v17,v18,v19,v20,v21,v22] A =
    run (ax GC me) 300 K [v0,v1,v2,v3,.ptr 0 0 0,v5,v6,.sl 2 0 n,v8,.int .i64 (ts+wT T),.ptr p 0 0,v11,e12,v13,v14,v15,v16,v17,v18,v19,v20,e21,e22] B)/\A17 B T chv inn2
  | none=>∃ σ B,(∀K,run (ax GC me) 300 (.code Ev :: K) [v0,v1,v2,v3,.ptr 0 0 0,v5,v6,.sl 2 0 n,v8,.int .i64 (ts+wT T),.ptr p 0 0,v11,v12,v13,v14,v15,v16,v17,v18,v19,v20,v21,v22] A=some (.ret σ B))/\σ[5]?=some (.int .i64 0)/\σ[6]?=some (.bool false):=by
 obtain ⟨f0,_,l0,_⟩:=s8 hp
 simp only at l0
 obtain ⟨_,g0,g1⟩:=hA.tool hb
 have hw:=en hv
 have ln:an (.sl 2 0 n)=some (.int .i64 (n:Int)):=rfl
 have b1:=ce tn (n:Int)
 unfold vU
 simp only
 by_cases h1:tn<(inn.length:Int)
 rotate_left
 ·rw [if_neg h1]
  rw [decide_eq_false (by omega)] at b1
  refine ⟨.int .i64 tn,.bool false,v22,A,fun K=>?_,hA⟩
  generalize (n:Int)=N at *
  simp [Ev,f0,l0,ln,b1,-ag,-ac,-ab,-an]
 rw [if_pos h1]
 rw [decide_eq_true (by omega)] at b1
 obtain ⟨t,rfl⟩:∃t:Nat,tn=(t:Int):=⟨tn.toNat,by omega⟩
 rw [Int.toNat_natCast]
 have i1:=eh hA.r (n:=n) (k:=t) (by omega) .i64
 have d1:=lM hA.r (k:=t) (by omega)
 have b2:=Cy.iq (inn.getD t 0)
 have hc:=Ej hb (k:=t) (by omega) A .i64
 have htm:=eR hv t
 have b3:ag .add (.int .i64 (ts+wT T)) (.int .i64 (tmT T t))=some (.int .i64 (ts+wT T+tmT T t)):=aS (by omega)
 have s1:=kS hA.r (k:=t) (by omega) (ts+wT T+tmT T t)
 obtain ⟨I,hI⟩:∃I,I=inn.getD t 0:=⟨_,rfl⟩
 rw [<-hI] at d1 b2 ⊢
 obtain ⟨E,hE⟩:∃E,E=ts+wT T+tmT T t:=⟨_,rfl⟩
 rw [<-hE] at b3 s1 ⊢
 by_cases h2:0<=I
 ·rw [if_pos h2]
  rw [decide_eq_true h2] at b2
  refine ⟨[v0,v1,v2,v3,.ptr 0 0 0,.int .i64 0,.bool false,.sl 2 0 n,v8,.int .i64 (ts+wT T),.ptr p 0 0,v11,.int .i64 (t:Int),v13,v14,v15,v16,v17,v18,v19,v20,.bool true,.bool true],A,fun K=>?_,rfl,rfl⟩
  generalize (n:Int)=N at *
  generalize (t:Int)=TT at *
  simp [Ev,f0,l0,ln,b1,i1,d1,b2,-ag,-ac,-ab,-an,-ai]
 ·rw [if_neg h2]
  rw [decide_eq_false h2] at b2
  refine ⟨.int .i64 (t:Int),.bool true,.bool false,A.set 2 (.row 1 false (ak (inn.set t E))),fun K=>?_,hA.set _⟩
  generalize (n:Int)=N at *
  generalize (t:Int)=TT at *
  simp [Ev,f0,l0,ln,b1,i1,d1,b2,b3,g0,g1,hc,s1,-ag,-ac,-ab,-an,-ai,-aA]
theorem Z5 (hb:SlA 2 (T.ch.map chA) chv) (hv:a6 T) (hA:A17 A T chv inn) (hn:inn.length=T.ch.length) (hnn:n=T.ch.length) (hp:A[p]?=some (.row 2 false [aX (tn,ts)])) (hp2:p≠2) (h0:0<=tn/\tn<=inn.length) (hts:0<=ts/\ts<=1000000000) (hin:∀z∈inn,-1<=z/\z<=3000000000)
  (v0 v1 v2 v3 v5 v6 v8 v11 v12 v13 v14 v15 v16 v17 v18 v19 v20 v21 v22:AV) :
  match (lZ T inn (tn,ts)).bind fun a=>vU T a (tn,ts) with
  | some inn2=>∃e11 e12 e19 e20 e21 e22 B,(∀K,run (ax GC me) 300 (.code zW :: K) [v0,v1,v2,v3,.ptr 0 0 0,v5,v6,.sl 2 0 n,v8,.int .i64 (ts+wT T),.ptr p 0 0,v11,v12,v13,v14,v15,v16,v17,v18,v19,v20,v21,v22] A =
    run (ax GC me) 300 K [v0,v1,v2,v3,.ptr 0 0 0,v5,v6,.sl 2 0 n,v8,.int .i64 (ts+wT T),.ptr p 0 0,e11,e12,v13,v14,v15,v16,v17,v18,e19,e20,e21,e22] B)/\A17 B T chv inn2
  | none=>∃ σ B,(∀K,run (ax GC me) 300 (.code zW :: K) [v0,v1,v2,v3,.ptr 0 0 0,v5,v6,.sl 2 0 n,v8,.int .i64 (ts+wT T),.ptr p 0 0,v11,v12,v13,v14,v15,v16,v17,v18,v19,v20,v21,v22] A=some (.ret σ B))/\σ[5]?=some (.int .i64 0)/\σ[6]?=some (.bool false):=by
 obtain ⟨f0,f1,l0,l1⟩:=s8 hp
 simp only at l0 l1
 obtain ⟨_,g0,g1⟩:=hA.tool hb
 have hn4:=hv.2.2.2.1
 have b1:ag .sub (.int .i64 tn) (.int .i64 1)=some (.int .i64 (tn-1)):=cc (by omega)
 have b2:=Cy.iq (tn-1)
 have key:∀(inn1:List Int) (B:aa) (e11 e19 e20:AV),A17 B T chv inn1->inn1.length=T.ch.length->B[p]?=some (.row 2 false [aX (tn,ts)]) ->
   (∀K,run (ax GC me) 300 (.code zW :: K) [v0,v1,v2,v3,.ptr 0 0 0,v5,v6,.sl 2 0 n,v8,.int .i64 (ts+wT T),.ptr p 0 0,v11,v12,v13,v14,v15,v16,v17,v18,v19,v20,v21,v22] A =
    run (ax GC me) 300 (.code Ev :: K) [v0,v1,v2,v3,.ptr 0 0 0,v5,v6,.sl 2 0 n,v8,.int .i64 (ts+wT T),.ptr p 0 0,e11,v12,v13,v14,v15,v16,v17,v18,e19,e20,v21,v22] B) ->
   match (some inn1).bind fun a=>vU T a (tn,ts) with
   | some inn2=>∃e11 e12 e19 e20 e21 e22 B,(∀K,run (ax GC me) 300 (.code zW :: K) [v0,v1,v2,v3,.ptr 0 0 0,v5,v6,.sl 2 0 n,v8,.int .i64 (ts+wT T),.ptr p 0 0,v11,v12,v13,v14,v15,v16,v17,v18,v19,v20,v21,v22] A =
     run (ax GC me) 300 K [v0,v1,v2,v3,.ptr 0 0 0,v5,v6,.sl 2 0 n,v8,.int .i64 (ts+wT T),.ptr p 0 0,e11,e12,v13,v14,v15,v16,v17,v18,e19,e20,e21,e22] B)/\A17 B T chv inn2
   | none=>∃ σ B,(∀K,run (ax GC me) 300 (.code zW :: K) [v0,v1,v2,v3,.ptr 0 0 0,v5,v6,.sl 2 0 n,v8,.int .i64 (ts+wT T),.ptr p 0 0,v11,v12,v13,v14,v15,v16,v17,v18,v19,v20,v21,v22] A=some (.ret σ B))/\σ[5]?=some (.int .i64 0)/\σ[6]?=some (.bool false):=by
  intro inn1 B e11 e19 e20 hA1 hn1 hp1 hrun
  have h:=IC hb hv hA1 hn1 hnn hp1 h0.1 hts v0 v1 v2 v3 v5 v6 v8 e11 v12 v13 v14 v15 v16 v17 v18 e19 e20 v21 v22
  rw [Option.bind_some]
  cases hput:vU T inn1 (tn,ts) with
  | none=>
   rw [hput] at h
   obtain ⟨σ,B',h1,h2⟩:=h
   exact ⟨σ,B',fun K=>by rw [hrun,h1],h2⟩
  | some inn2=>
   rw [hput] at h
   obtain ⟨e12,e21,e22,B',h1,h2⟩:=h
   exact ⟨e11,e12,e19,e20,e21,e22,B',fun K=>by rw [hrun,h1],h2⟩
 unfold lZ
 simp only
 by_cases h1:1<=tn
 rotate_left
 ·rw [if_neg h1]
  rw [decide_eq_false (by omega)] at b2
  refine key inn A (.int .i64 (tn-1)) (.bool false) v20 hA hn hp fun K=>?_
  generalize tn-1=T1 at *
  simp [zW,f0,l0,b1,b2,-ag,-ac,-ab,-an]
 rw [if_pos h1]
 rw [decide_eq_true (by omega)] at b2
 obtain ⟨k,hk⟩:∃k:Nat,tn-1=(k:Int):=⟨(tn-1).toNat,by omega⟩
 rw [hk,Int.toNat_natCast]
 rw [hk] at b1 b2
 have i1:=eh hA.r (n:=n) (k:=k) (by omega) .i64
 have d1:=lM hA.r (k:=k) (by omega)
 have b3:=ce (inn.getD k 0) 0
 have hc:=Ej hb (k:=k) (by omega) A .i64
 have hch:=eR hv k
 have hI : -1<=inn.getD k 0/\inn.getD k 0<=3000000000:=by
  rw [List.getD_eq_getElem?_getD,List.getElem?_eq_getElem (show k<inn.length by omega)]
  exact hin _ (List.getElem_mem _)
 have b4:ag .add (.int .i64 (inn.getD k 0)) (.int .i64 (syT T k))=some (.int .i64 (inn.getD k 0+syT T k)):=aS (by omega)
 have m1:=dQ ts (inn.getD k 0) (inn.getD k 0+syT T k)
 have s1:=kS hA.r (k:=k) (by omega) (-1)
 have hA1:=hA.set (inn.set k (-1))
 have hp1:(A.set 2 (.row 1 false (ak (inn.set k (-1)))))[p]?=some (.row 2 false [aX (tn,ts)]):=by rw [List.getElem?_set_ne (Ne.symm hp2)]; exact hp
 have key1:=key (inn.set k (-1)) (A.set 2 (.row 1 false (ak (inn.set k (-1))))) (.int .i64 (k:Int)) (.bool true) (.bool false) hA1 (by simp [hn]) hp1
 obtain ⟨A1,hAe⟩:∃X,X=A.set 2 (.row 1 false (ak (inn.set k (-1)))):=⟨_,rfl⟩
 rw [<-hAe] at s1 key1
 obtain ⟨I,hIe⟩:∃I,I=inn.getD k 0:=⟨_,rfl⟩
 rw [<-hIe] at d1 b3 b4 m1 hI ⊢
 obtain ⟨E,hE⟩:∃E,E=I+syT T k:=⟨_,rfl⟩
 rw [<-hE] at b4 m1 ⊢
 by_cases h2:0<=I
 rotate_left
 ·rw [if_neg (fun h=>h2 h.1)]
  rw [decide_eq_true (by omega)] at b3
  refine ⟨[v0,v1,v2,v3,.ptr 0 0 0,.int .i64 0,.bool false,.sl 2 0 n,v8,.int .i64 (ts+wT T),.ptr p 0 0,.int .i64 (k:Int),v12,v13,v14,v15,v16,v17,v18,.bool true,.bool true,v21,v22],A,fun K=>?_,rfl,rfl⟩
  generalize (k:Int)=KK at *
  simp [zW,f0,l0,i1,d1,b1,b2,b3,-ag,-ac,-ab,-an,-ai]
 rw [decide_eq_false (by omega)] at b3
 by_cases h3:I<=ts/\ts<=E
 rotate_left
 ·rw [if_neg (fun h=>h3 h.2)]
  have mb:mA ts I E=false:=by
   cases e:mA ts I E
   ·rfl
   ·exact absurd (dw.1 e) h3
  rw [mb] at m1
  refine ⟨[v0,v1,v2,v3,.ptr 0 0 0,.int .i64 0,.bool false,.sl 2 0 n,v8,.int .i64 (ts+wT T),.ptr p 0 0,.int .i64 (k:Int),v12,v13,v14,v15,v16,v17,v18,.bool true,.bool true,v21,v22],A,fun K=>?_,rfl,rfl⟩
  generalize (k:Int)=KK at *
  simp [zW,f0,f1,l0,l1,g0,g1,hc,i1,d1,b1,b2,b3,b4,m1,-dQ,-ag,-ac,-ab,-an,-ai]
 ·rw [if_pos ⟨h2,h3⟩]
  rw [dw.2 h3] at m1
  refine key1 fun K=>?_
  generalize (k:Int)=KK at *
  simp [zW,f0,f1,l0,l1,g0,g1,hc,i1,d1,b1,b2,b3,b4,m1,s1,-dQ,-ag,-ac,-ab,-an,-ai,-aA]
end
structure OkS (T:aR) (x:St):Prop where
 n:x.inn.length=T.ch.length
 la : -1000<=x.last/\x.last<=1000
 fi:0<=x.fin/\x.fin<=2000000000
 inn:∀z∈x.inn,-1<=z/\z<=3000000000
theorem OkS.step {T:aR} (hv:a6 T) {x y:St} (h:OkS T x) {t:cS} (hs:eK T x t=some y):OkS T y:=by
 have hw:=en hv
 have hn4:=hv.2.2.2.1
 unfold eK at hs
 split at hs
 ·rename_i hc
  obtain ⟨⟨c1,c2⟩,c3,c4⟩:=hc
  have hbt:=oK hv x.last t.1
  cases h1:lZ T x.inn t with
  | none=>rw [h1] at hs; cases hs
  | some a=>
   rw [h1,Option.bind_some] at hs
   cases h2:vU T a t with
   | none=>rw [h2] at hs; cases hs
   | some b=>
    rw [h2] at hs
    injection hs with hs
    subst hs
    have ha:a.length=T.ch.length/\∀z∈a,-1<=z/\z<=3000000000:=by
     unfold lZ at h1
     split at h1
     ·split at h1
      ·injection h1 with h1; subst h1
       refine ⟨by simp [h.n],fun z hz=>?_⟩
       rcases List.mem_or_eq_of_mem_set hz with hz | rfl
       ·exact h.inn z hz
       ·omega
      ·cases h1
     ·injection h1 with h1; subst h1
      exact ⟨h.n,h.inn⟩
    have hb:b.length=T.ch.length/\∀z∈b,-1<=z/\z<=3000000000:=by
     have htm:=eR hv t.1.toNat
     have:=h.fi
     unfold vU at h2
     split at h2
     ·split at h2
      ·cases h2
      ·injection h2 with h2; subst h2
       refine ⟨by simp [ha.1],fun z hz=>?_⟩
       rcases List.mem_or_eq_of_mem_set hz with hz | rfl
       ·exact ha.2 z hz
       ·omega
     ·injection h2 with h2; subst h2
      exact ha
    have:=h.n
    have:=h.fi
    exact ⟨hb.1,by simp only; omega,by simp only; omega,hb.2⟩
 ·cases hs
theorem DK {T:aR} {chv:AV} (hb:SlA 2 (T.ch.map chA) chv) (hv:a6 T) {lv:AV} {l:List cS} (hlv:SlA 2 (l.map aX) lv) {A:aa} {x:St} (hA:A17 A T chv x.inn) (hx:OkS T x) {i:Nat} (hi:i<l.length) (hil:l.length<=200) :
  match eK T x l[i] with
  | some y=>∃B,run (ax GC me) 300 [.code gF] (s17 T.ch.length x.last x.fin lv l.length i) A=some (.normal (s17 T.ch.length y.last y.fin lv l.length (i+1)) B)/\A17 B T chv y.inn
  | none=>∃ σ B,run (ax GC me) 300 [.code gF] (s17 T.ch.length x.last x.fin lv l.length i) A=some (.ret σ B)/\σ[5]?=some (.int .i64 0)/\σ[6]?=some (.bool false):=by
 obtain ⟨inn,last,fin⟩:=x
 obtain ⟨hn,hlast,hfin,hin⟩:=hx
 simp only at hA hn hlast hfin hin ⊢
 have hw:=en hv
 have hn4:=hv.2.2.2.1
 have ft:=fun A=>aV (T:=T) (fun A n=>hb.frz (A:=A) n) A 3
 have x1:=hlv.index (A:=A) (i:=i) (x:=aX l[i]) (by simp [hi]) rfl (by omega) .i64
 have b0:=br i l.length .i64
 rw [decide_eq_true hi] at b0
 have b9:=a9 i (by omega)
 obtain ⟨⟨tn,ts⟩,hti⟩:∃t,t=l[i]:=⟨_,rfl⟩
 rw [<-hti] at x1 ⊢
 have x1:ai 2 A lv (.int .i64 (i:Int))=some (.fp [.int .i64 tn,.int .i64 ts]):=x1
 obtain ⟨B,hB⟩:∃B,B=A++[Ent.row 2 false [aX (tn,ts)]]:=⟨_,rfl⟩
 have s0:aA 2 (A++[.row 2 false [.agg [.int .i64 0,.int .i64 0]]]) (.ptr A.length 0 0) (.agg [.int .i64 tn,.int .i64 ts])=some B:=by
  rw [hB]
  simp only [aA,List.getElem?_concat_length,List.getElem?_cons_zero]
  rw [if_pos ⟨trivial,rfl,rfl,by omega⟩]
  simp [bj,cellsOf,aX]
 have hAB:A17 B T chv inn:=by
  have hl:=hA.l
  rw [hB]
  exact ⟨by rw [List.getElem?_append_left (by omega)]; exact hA.t,by rw [List.getElem?_append_left (by omega)]; exact hA.r,by simp; omega⟩
 have hp:B[A.length]?=some (.row 2 false [aX (tn,ts)]):=by rw [hB]; simp
 have hp2:A.length≠2:=by have:=hA.l; omega
 obtain ⟨f0,f1,l0,l1⟩:=s8 hp
 simp only at l0 l1
 obtain ⟨lt,g0,g1⟩:=hAB.tool hb
 have ln:an (.sl 2 0 T.ch.length)=some (.int .i64 (T.ch.length:Int)):=rfl
 have m1:=dQ tn 0 (T.ch.length:Int)
 have m2:=vG (T:=T) chv last tn hlast
 have hbt:=oK hv last tn
 have b1:ag .add (.int .i64 fin) (.int .i64 (btw T last tn))=some (.int .i64 (fin+btw T last tn)):=aS (by omega)
 have m3:=dQ ts (fin+btw T last tn) 1000000000
 have m4:=vF (T:=T) chv hv
 generalize hp0:A.length=p at *
 rw [vZ]
 obtain ⟨t,ht⟩:∃t,t=au T chv:=⟨_,rfl⟩
 rw [<-ht] at ft lt m2 m4
 unfold eK
 simp only
 by_cases c1:0<=tn/\tn<=(inn.length:Int)
 rotate_left
 ·rw [if_neg (fun h=>c1 h.1)]
  have mb:mA tn 0 (T.ch.length:Int)=false:=by
   cases e:mA tn 0 (T.ch.length:Int)
   ·rfl
   ·exact absurd (dw.1 e) (by rw [hn] at c1; exact c1)
  rw [mb] at m1
  refine ⟨[.undef,.undef,.undef,.undef,.ptr 0 0 0,.int .i64 0,.bool false,.sl 2 0 T.ch.length,.int .i64 last,.int .i64 fin,.ptr p 0 0,.undef,.undef,.undef,lv,.int .i64 (l.length:Int),.int .i64 (i:Int),.bool true,.bool true,.undef,.undef,.undef,.undef],B,?_,rfl,rfl⟩
  generalize (T.ch.length:Int)=N at *
  simp [x1,b0,s0,f0,l0,ln,m1,iT,hp0,-dQ,-ag,-ac,-ab,-an,-ai,-aA]
 have mb1:mA tn 0 (T.ch.length:Int)=true:=dw.2 (by rw [hn] at c1; exact c1)
 rw [mb1] at m1
 by_cases c2:fin+btw T last tn<=ts/\ts<=1000000000
 rotate_left
 ·rw [if_neg (fun h=>c2 h.2)]
  have mb:mA ts (fin+btw T last tn) 1000000000=false:=by
   cases e:mA ts (fin+btw T last tn) 1000000000
   ·rfl
   ·exact absurd (dw.1 e) c2
  rw [mb] at m3
  refine ⟨[.undef,.undef,.undef,.undef,.ptr 0 0 0,.int .i64 0,.bool false,.sl 2 0 T.ch.length,.int .i64 last,.int .i64 fin,.ptr p 0 0,.undef,.undef,.undef,lv,.int .i64 (l.length:Int),.int .i64 (i:Int),.bool true,.bool true,.undef,.undef,.undef,.undef],B,?_,rfl,rfl⟩
  generalize (T.ch.length:Int)=N at *
  generalize btw T last tn=BT at *
  simp [x1,b0,s0,f0,f1,l0,l1,lt,ft,ln,m1,m2,m3,b1,iT,hp0,-dQ,-ag,-ac,-ab,-an,-ai,-aA]
 have mb2:mA ts (fin+btw T last tn) 1000000000=true:=dw.2 c2
 rw [mb2] at m3
 rw [if_pos ⟨c1,c2⟩]
 have b2:ag .add (.int .i64 ts) (.int .i64 (wT T))=some (.int .i64 (ts+wT T)):=aS (by omega)
 have hmid:=Z5 (n:=T.ch.length) hb hv hAB hn rfl hp hp2 c1 (by omega) hin .undef .undef .undef .undef .undef .undef (.int .i64 tn) .undef .undef .undef lv (.int .i64 (l.length:Int)) (.int .i64 (i:Int)) (.bool true) (.bool false) .undef .undef .undef .undef
 cases hput:(lZ T inn (tn,ts)).bind fun a=>vU T a (tn,ts) with
 | none=>
  have e:((lZ T inn (tn,ts)).bind fun a=>(vU T a (tn,ts)).map fun b=>(⟨b,tn,ts+wT T⟩:St))=none:=by
   cases h1:lZ T inn (tn,ts) with
   | none=>rfl
   | some a=>
    rw [h1,Option.bind_some] at hput
    rw [Option.bind_some,hput]; rfl
  rw [e]
  rw [hput] at hmid
  obtain ⟨σ,B',h1,h2⟩:=hmid
  refine ⟨σ,B',?_,h2⟩
  generalize hN:(T.ch.length:Int)=N at *
  generalize btw T last tn=BT at *
  generalize ts+wT T=EE at *
  simp [x1,b0,s0,f0,f1,l0,l1,lt,ft,ln,m1,m2,m3,m4,b1,b2,iT,hp0,h1,-dQ,-ag,-ac,-ab,-an,-ai,-aA]
 | some inn2=>
  have e:((lZ T inn (tn,ts)).bind fun a=>(vU T a (tn,ts)).map fun b=>(⟨b,tn,ts+wT T⟩:St))=some ⟨inn2,tn,ts+wT T⟩:=by
   cases h1:lZ T inn (tn,ts) with
   | none=>rw [h1] at hput; cases hput
   | some a=>
    rw [h1,Option.bind_some] at hput
    rw [Option.bind_some,hput]; rfl
  rw [e]
  rw [hput] at hmid
  obtain ⟨e11,e12,e19,e20,e21,e22,B',h1,h2⟩:=hmid
  refine ⟨B',?_,h2⟩
  simp only
  generalize hN:(T.ch.length:Int)=N at *
  generalize btw T last tn=BT at *
  generalize ts+wT T=EE at *
  obtain ⟨i1,hi1⟩:∃i1:Nat,i1=i+1:=⟨_,rfl⟩
  rw [<-hi1] at b9 ⊢
  simp [x1,b0,b9,s0,f0,f1,l0,l1,lt,ft,ln,m1,m2,m3,m4,b1,b2,iT,hp0,h1,-dQ,-ag,-ac,-ab,-an,-ai,-aA]
theorem Gc {T:aR} {chv:AV} (hb:SlA 2 (T.ch.map chA) chv) (hv:a6 T) {lv:AV} {l:List cS} (hlv:SlA 2 (l.map aX) lv) (hil:l.length<=200):∀(c i:Nat) (A:aa) (x:St) (m:Nat),i+c=l.length->A17 A T chv x.inn->OkS T x->c<m ->
  match sw T x (l.drop i) with
  | some y=>∃B,b8 (evC (ax GC me) 300 gF) fZ m (s17 T.ch.length x.last x.fin lv l.length i) A=some (.exit 0 ((s17 T.ch.length y.last y.fin lv l.length l.length).set 17 (.bool false)) B)
  | none=>∃ σ B,b8 (evC (ax GC me) 300 gF) fZ m (s17 T.ch.length x.last x.fin lv l.length i) A=some (.ret σ B)/\σ[5]?=some (.int .i64 0)/\σ[6]?=some (.bool false):=by
 intro c
 induction c with
 | zero=>
  intro i A x m hi hA hx hm
  obtain ⟨m,rfl⟩:∃j,m=j+1:=⟨m-1,by omega⟩
  obtain rfl:i=l.length:=by omega
  rw [List.drop_length]
  simp only [sw]
  refine ⟨A,?_⟩
  have b0:=br l.length l.length .i64
  rw [decide_eq_false (by omega)] at b0
  rw [aO,yV]
  simp [gF,b0,-ag]
 | succ c ih=>
  intro i A x m hi hA hx hm
  obtain ⟨m,rfl⟩:∃j,m=j+1:=⟨m-1,by omega⟩
  have hil':i<l.length:=by omega
  rw [List.drop_eq_getElem_cons hil']
  simp only [sw]
  have hr:=DK hb hv hlv hA hx hil' hil
  rw [aO,yV]
  cases hs:eK T x l[i] with
  | none=>
   rw [hs] at hr
   obtain ⟨σ,B,h1,h2⟩:=hr
   rw [Option.bind_none,h1]
   exact ⟨σ,B,rfl,h2⟩
  | some y=>
   rw [hs] at hr
   obtain ⟨B,h1,h2⟩:=hr
   rw [Option.bind_some,h1]
   exact ih (i+1) B y m (by omega) h2 (hx.step hv hs) (by omega)
theorem xX (A:aa) (z:Int) (b:Bool):frz A 4 (.tup [.int .i64 z,.bool b])=.tup [.int .i64 z,.bool b]:=rfl
def EY (r:Option Int):AV:=.tup [.int .i64 (r.getD 0),.bool r.isSome]
theorem sO {T:aR} {chv rdv:AV} (hb:SlA 2 (T.ch.map chA) chv) (hl:T.ch.length<=200) {rd:List Int} (hr:SlA 1 (ak rd) rdv) (hrl:rd.length<=200) (free:Int) {lv:AV} {l:List cS} (hlv:SlA 2 (l.map aX) lv) (hll:l.length<=200):M17 [au T chv,rdv,.int .i64 free,lv]=some (EY (fQ T rd free l)):=by
 have m:=zD hb hl hr hrl free
 have ft:=fun A=>aV (T:=T) (fun A n=>hb.frz (A:=A) n) A 3
 have fr:∀A n,frz A n rdv=rdv:=fun A n=>hr.frz n
 have bx:aZ 5 (au T chv) []=some (.ptr 0 0 0,[.row 5 false [au T chv]]):=rfl
 have ct:(cellsOf (au T chv)).length=5:=rfl
 obtain ⟨A0,hA0⟩:∃A:aa,A=[.row 5 false [au T chv]]:=⟨_,rfl⟩
 have lt:ac true 5 A0 (.ptr 0 0 0)=some (au T chv):=by rw [hA0]; rfl
 have hll2:=hlv.len
 rw [List.length_map] at hll2
 have hA0':=hA0
 obtain ⟨t,ht⟩:∃t,t=au T chv:=⟨_,rfl⟩
 rw [<-ht] at m ft bx ct lt hA0 ⊢
 rw [<-hA0] at bx
 unfold M17
 rw [aI _ _ rfl]
 unfold fQ
 by_cases hS:Sit T rd free
 rotate_left
 ·rw [decide_eq_false hS] at m
  rw [if_neg hS]
  simp [FY,m,ft,fr,bx,ct,lt,aL,xX,dS,EY,-aZ,-ac,-an,-frz,-cellsOf]
 rw [decide_eq_true hS] at m
 rw [if_pos hS]
 have hv:=hS.1.1
 have hsl:=gu hS
 have hne:rd≠[]:=by intro e; rw [e] at hsl; simp at hsl
 have hcl:=Cy.Im (ax GC []) 0 (A:=A0) (a:=rdv) (xs:=rd) (.inl hr) hne (by omega)
 have hA2:A17 (A0++[.dead,.row 1 false (ak rd)]) T chv rd:=by
  rw [hA0']
  exact ⟨rfl,rfl,by simp⟩
 have hx:OkS T (st0 rd free):=⟨hS.2.1,by simp [st0],by have:=hS.2.2.1; simp only [st0]; omega,fun z hz=>by have:=hS.2.2.2 z hz; omega⟩
 have hlp:=Gc hb hv hlv hll l.length 0 _ (st0 rd free) 300 (by omega) hA2 hx (by omega)
 have hA0l:A0.length=1:=by rw [hA0]; rfl
 rw [hA0l] at hcl
 generalize hA1:A0++[.dead,.row 1 false (ak rd)]=A1 at *
 rw [List.drop_zero] at hlp
 rw [hS.2.1] at hcl
 cases hc:sw T (st0 rd free) l with
 | some y=>
  rw [hc] at hlp
  obtain ⟨B,hlp⟩:=hlp
  simp only [st0] at hlp
  have hlp:b8 (evC (ax GC me) 300 gF) fZ 300 (rr (.ptr 0 0 0) (.sl 2 0 T.ch.length) (.int .i64 (-2)) (.int .i64 free) lv (.int .i64 (l.length:Int)) (.int .i64 0)) A1=_:=hlp
  simp [FY,m,ft,fr,bx,ct,lt,hcl,hll2,BQ hlp,aL,xX,dS,EY,-aZ,-ac,-an,-frz,-cellsOf]
 | none=>
  rw [hc] at hlp
  obtain ⟨σ,B,hlp,h5,h6⟩:=hlp
  simp only [st0] at hlp
  have hlp:b8 (evC (ax GC me) 300 gF) fZ 300 (rr (.ptr 0 0 0) (.sl 2 0 T.ch.length) (.int .i64 (-2)) (.int .i64 free) lv (.int .i64 (l.length:Int)) (.int .i64 0)) A1=_:=hlp
  simp [FY,m,ft,fr,bx,ct,lt,hcl,hll2,BQ hlp,h5,h6,aL,xX,dS,EY,-aZ,-ac,-an,-frz,-cellsOf]
end Tr
namespace Tr
open Go
open Cy (GC aL bc aB a7 cK lvM lvT)
open Clu (aR a6 au chA aV aS cc bz cF dA dM ce pT iT)
structure Tl (A:aa) (T:aR) (chv chF:AV):Prop where
 h:cM A 2 chv (T.ch.map chA)
 fz:∀X,frz (A++X) 4 (au T chv)=au T chF
 sF:SlA 2 (T.ch.map chA) chF
theorem cu (A X:aa):∀id,id<A.length->(A++X)[id]?=A[id]?:=fun id h=>by rw [List.getElem?_append_left h]
theorem _root_.Go.Proofs.Ytkcjhljbgjpklaa.cM.app {A:aa} {e:Nat} {a:AV} {xs:List AV} (h:cM A e a xs) (X:aa):cM (A++X) e a xs:=by
 rcases h with h | ⟨id,off,gr,es,rfl,h1,h2⟩
 ·exact .inl h
 ·exact .inr ⟨id,off,gr,es,rfl,by rw [cu A X id (List.getElem?_eq_some_iff.1 h1).1,h1],h2⟩
theorem dI {A:aa} {id off:Nat} {g:Bool} {es xs:List AV} {e:Nat} (h:A[id]?=some (.row e g es)) (h2:(es.drop off).take xs.length=xs) (hx:∀n,∀x∈xs,frz A (n+1) x=x) (n:Nat):frz A (n+2) (.sl id off xs.length)=.fs e xs:=by
 simp only [frz,h,h2]
 congr 1
 conv=>rhs; rw [<-List.map_id xs]
 exact List.map_congr_left fun x hm=>hx n x hm
theorem Tl.of {A:aa} {T:aR} {chv:AV} (h:cM A 2 chv (T.ch.map chA)):∃chF,Tl A T chv chF:=by
 rcases h with h | ⟨id,off,gr,es,rfl,h1,h2⟩
 ·exact ⟨chv,.inl h,fun X=>aV (fun A n=>h.frz (A:=A) n) _ 3,h⟩
 ·refine ⟨.fs 2 (T.ch.map chA),.inr ⟨id,off,gr,es,rfl,h1,h2⟩,fun X=>?_,.inr rfl⟩
  have h1':(A++X)[id]?=some (.row 2 gr es):=by rw [cu A X id (List.getElem?_eq_some_iff.1 h1).1,h1]
  have e:frz (A++X) 3 (.sl id off (T.ch.map chA).length)=.fs 2 (T.ch.map chA):=dI h1' h2 (fun n x hx=>by
   obtain ⟨c,_,rfl⟩:=List.mem_map.1 hx
   cases n <;> rfl) 1
  show AV.agg [frz (A++X) 3 (.sl id off (T.ch.map chA).length),_,_,_,_]=_
  rw [e]; rfl
theorem Tl.ix {A:aa} {T:aR} {chv chF:AV} (h:Tl A T chv chF) {k:Nat} (hk:k<T.ch.length):∃p q,∀X,ai 2 (A++X) chv (.int .i64 (k:Int))=some p/\ab 0 (A++X) p=some p/\ac false 1 (A++X) p=some (.int .i64 (tmT T k))/\ab 1 (A++X) p=some q/\ac false 1 (A++X) q=some (.int .i64 (syT T k)):=by
 rcases h.h with h | ⟨id,off,gr,es,rfl,h1,h2⟩
 ·exact ⟨.fp [.int .i64 (tmT T k),.int .i64 (syT T k)],.fp [.int .i64 (syT T k)],fun X=>⟨Ej h hk _ _,rfl,rfl,rfl,rfl⟩⟩
 ·have e:es[off+k]?=some (chA (T.ch.getD k (0,0))):=by
   have:((es.drop off).take (T.ch.map chA).length)[k]?=(T.ch.map chA)[k]?:=by rw [h2]
   rw [List.getElem?_take,if_pos (by simpa using hk),List.getElem?_drop] at this
   rw [this]
   simp [List.getD_eq_getElem?_getD,List.getElem?_eq_getElem hk]
  refine ⟨.ptr id (off+k) 0,.ptr id (off+k) 1,fun X=>?_⟩
  have h1':(A++X)[id]?=some (.row 2 gr es):=by rw [cu A X id (List.getElem?_eq_some_iff.1 h1).1,h1]
  refine ⟨?_,?_,?_,?_,?_⟩
  ·simp only [ai,h1',List.length_map]
   rw [if_pos ⟨trivial,by omega,by omega,by omega⟩]
   simp
  ·simp [ab,h1']
  ·simp only [ac,h1',e]; rfl
  ·simp [ab,h1']
  ·simp only [ac,h1',e]; rfl
def lk (k:Int):List (Int × Int)->Option Int
 | []=>none
 | x :: r=>if k=x.1 then some x.2 else lk k r
def kvU (t v:Int):List (Int × Int)->List (Int × Int)
 | []=>[(t,v)]
 | x :: r=>if t=x.1 then (t,v) :: r else x :: kvU t v r
theorem By (t v k:Int):∀l:List (Int × Int),lk k (kvU t v l)=if k=t then some v else lk k l
 | []=>by simp [kvU,lk]
 | x :: r=>by
  unfold kvU
  by_cases h:t=x.1
  ·rw [if_pos h]
   simp only [lk]
   by_cases h2:k=t
   ·rw [if_pos h2,if_pos h2]
   ·rw [if_neg h2,if_neg h2,if_neg (by omega)]
  ·rw [if_neg h]
   simp only [lk,By t v k r]
   by_cases h2:k=x.1
   ·rw [if_pos h2,if_pos h2,if_neg (by omega)]
   ·rw [if_neg h2,if_neg h2]
def kvA (x:Int × Int):AV × AV:=(.int .i64 x.1,.int .i64 x.2)
theorem qL (k:Int):∀(l:List (Int × Int)) (n:Nat),(lk k l=none/\gc (.int .i64 k) (l.map kvA) n=some none/\∀v,l++[(k,v)]=kvU k v l) \/
  ∃j v,lk k l=some v/\gc (.int .i64 k) (l.map kvA) n=some (some (n+j,.int .i64 v))/\∀w,l.set j (k,w)=kvU k w l
 | [],n=>.inl ⟨rfl,rfl,fun _=>rfl⟩
 | x :: r,n=>by
  by_cases h:k=x.1
  ·refine .inr ⟨0,x.2,by simp [lk,h],?_,fun w=>by simp [kvU,h]⟩
   simp [gc,kvA,l9,h]
  ·have hne:(k == x.1)=false:=by simpa using h
   rcases qL k r (n+1) with ⟨h1,h2,h3⟩ | ⟨j,v,h1,h2,h3⟩
   ·refine .inl ⟨by simp [lk,h,h1],?_,fun v=>by simp [kvU,h,h3 v]⟩
    simp only [List.map_cons,gc,kvA,l9,if_true,hne]
    exact h2
   ·refine .inr ⟨j+1,v,by simp [lk,h,h1],?_,fun w=>by simp [kvU,h,h3 w]⟩
    simp only [List.map_cons,gc,kvA,l9,if_true,hne]
    rw [show n+(j+1)=n+1+j by omega]
    exact h2
theorem DZ {A:aa} {id:Nat} {l:List (Int × Int)} (h:A[id]?=some (.map (l.map kvA))) (k:Int):cm true (.int .i64 0) A (.map id) (.int .i64 k)=some (match lk k l with | some v=>.tup [.int .i64 v,.bool true] | none=>.tup [.int .i64 0,.bool false]):=by
 simp only [cm,h]
 rcases qL k l 0 with ⟨h1,h2,_⟩ | ⟨j,v,h1,h2,_⟩
 ·rw [h1,h2]; rfl
 ·rw [h1,h2]; rfl
theorem map_set {A:aa} {id:Nat} {l:List (Int × Int)} (h:A[id]?=some (.map (l.map kvA))) (k v:Int):bA A (.map id) (.int .i64 k) (.int .i64 v)=some (A.set id (.map ((kvU k v l).map kvA))):=by
 simp only [bA,h]
 rcases qL k l 0 with ⟨h1,h2,h3⟩ | ⟨j,w,h1,h2,h3⟩
 ·rw [h2,<-h3 v]
  simp [kvA]
 ·rw [h2,<-h3 v,Nat.zero_add]
  simp [kvA,List.map_set]
def XA (n0:Nat) (tv:AV) (L:List a7) (kvs:List (Int × Int)):aa:=
 if L=[] then [.row 5 false [tv],.row 1 false [.nilS],.map (kvs.map kvA)]
 else [.row 5 false [tv],.row 1 false [.sl (n0+3) 0 L.length],.map (kvs.map kvA),.row 4 (decide (1<L.length)) (L.map cK)]
def H60:aG:=fun _=>bV (ax GC []) 0 H9
theorem Fi:aj Try.prog GC 60 H60:=(bS (aw az) rfl at60 GS bh.nil).y
section
variable {A:aa} {T:aR} {chv chF tv:AV} {L:List a7} {kvs:List (Int × Int)}
theorem aY (A X:aa) (i:Nat):(A++X)[A.length+i]?=X[i]?:=by
 rw [List.getElem?_append_right (by omega),Nat.add_sub_cancel_left]
theorem xa0:(A++XA A.length tv L kvs)[A.length]?=some (.row 5 false [tv]):=by
 have:=aY A (XA A.length tv L kvs) 0
 rw [Nat.add_zero] at this
 rw [this]; unfold XA; split <;> rfl
theorem xa2:(A++XA A.length tv L kvs)[A.length+2]?=some (.map (kvs.map kvA)):=by
 rw [aY]; unfold XA; split <;> rfl
theorem CE (h:aT) {xs:List a7} (hx:xs≠[]) (h1:L=[]->xs.length=1) (hb:L.length+xs.length<=1000) :
  H60 h [.fs 4 (xs.map cK),.ptr (A.length+1) 0 0] (A++XA A.length tv L kvs)=some (.tup [],A++XA A.length tv (L++xs) kvs):=by
 have hxl:0<xs.length:=List.length_pos_iff.2 hx
 have hne:L++xs≠[]:=by simp [hx]
 by_cases hL:L=[]
 ·subst hL
  have hx1:=h1 rfl
  have e0:A++XA A.length tv [] kvs=A++[.row 5 false [tv],.row 1 false [.nilS],.map (kvs.map kvA)]:=by unfold XA; rw [if_pos rfl]
  have e9:A++XA A.length tv ([]++xs) kvs=A++[.row 5 false [tv],.row 1 false [.sl (A.length+3) 0 xs.length],.map (kvs.map kvA),.row 4 false (xs.map cK)]:=by
   unfold XA; rw [if_neg (by simpa using hx),List.nil_append,hx1]; rfl
  rw [e0,e9]
  obtain ⟨A0,hA0⟩:∃X,X=A++[Ent.row 5 false [tv],.row 1 false [.nilS],.map (kvs.map kvA)]:=⟨_,rfl⟩
  have hl:A0.length=A.length+3:=by rw [hA0]; simp
  have l1:ac false 1 A0 (.ptr (A.length+1) 0 0)=some .nilS:=by
   have:A0[A.length+1]?=some (.row 1 false [.nilS]):=by rw [hA0,aY]; rfl
   simp only [ac,this]; rfl
  have a1:aM 4 32 A0 .nilS (.fs 4 (xs.map cK))=some (.sl (A.length+3) 0 xs.length,A0++[.row 4 false (xs.map cK)]):=by
   simp only [aM,cX,List.length_map]
   rw [if_neg (by omega),if_pos ⟨by omega,by omega,by omega⟩,hl]
  have s1:aA 1 (A0++[.row 4 false (xs.map cK)]) (.ptr (A.length+1) 0 0) (.sl (A.length+3) 0 xs.length)=some (A++[.row 5 false [tv],.row 1 false [.sl (A.length+3) 0 xs.length],.map (kvs.map kvA),.row 4 false (xs.map cK)]):=by
   have e:A0++[Ent.row 4 false (xs.map cK)]=A++[.row 5 false [tv],.row 1 false [.nilS],.map (kvs.map kvA),.row 4 false (xs.map cK)]:=by rw [hA0,List.append_assoc]; rfl
   rw [e]
   have:(A++[Ent.row 5 false [tv],.row 1 false [.nilS],.map (kvs.map kvA),.row 4 false (xs.map cK)])[A.length+1]?=some (.row 1 false [.nilS]):=by rw [aY]; rfl
   simp only [aA,this]
   simp [AV.solid,cellsOf,bj]
  rw [<-hA0]
  unfold H60
  rw [a8 _ _ rfl]
  simp [H9,l1,a1,s1,-ac,-aA]
 ·have hlz:L.length≠0:=fun e=>hL (List.length_eq_zero_iff.1 e)
  have e0:A++XA A.length tv L kvs=A++[.row 5 false [tv],.row 1 false [.sl (A.length+3) 0 L.length],.map (kvs.map kvA),.row 4 (decide (1<L.length)) (L.map cK)]:=by unfold XA; rw [if_neg hL]
  have e9:A++XA A.length tv (L++xs) kvs=A++[.row 5 false [tv],.row 1 false [.sl (A.length+3) 0 (L.length+xs.length)],.map (kvs.map kvA),.row 4 true (L.map cK++xs.map cK)]:=by
   unfold XA; rw [if_neg hne,List.length_append,decide_eq_true (by omega),List.map_append]
  rw [e0,e9]
  obtain ⟨A0,hA0⟩:∃X,X=A++[Ent.row 5 false [tv],.row 1 false [.sl (A.length+3) 0 L.length],.map (kvs.map kvA),.row 4 (decide (1<L.length)) (L.map cK)]:=⟨_,rfl⟩
  have l1:ac false 1 A0 (.ptr (A.length+1) 0 0)=some (.sl (A.length+3) 0 L.length):=by
   have:A0[A.length+1]?=some (.row 1 false [.sl (A.length+3) 0 L.length]):=by rw [hA0,aY]; rfl
   simp only [ac,this]; rfl
  have r3:A0[A.length+3]?=some (.row 4 (decide (1<L.length)) (L.map cK)):=by rw [hA0,aY]; rfl
  have a1:aM 4 32 A0 (.sl (A.length+3) 0 L.length) (.fs 4 (xs.map cK))=some (.sl (A.length+3) 0 (L.length+xs.length),A0.set (A.length+3) (.row 4 true (L.map cK++xs.map cK))):=by
   simp only [aM,cX,List.length_map,r3]
   rw [if_pos ⟨trivial,by omega,by omega,by omega⟩,if_pos ⟨trivial,trivial,hlz⟩]
  have eS:A0.set (A.length+3) (.row 4 true (L.map cK++xs.map cK))=A++[.row 5 false [tv],.row 1 false [.sl (A.length+3) 0 L.length],.map (kvs.map kvA),.row 4 true (L.map cK++xs.map cK)]:=by
   rw [hA0,List.set_append_right _ _ (by omega),Nat.add_sub_cancel_left]; rfl
  have s1:aA 1 (A0.set (A.length+3) (.row 4 true (L.map cK++xs.map cK))) (.ptr (A.length+1) 0 0) (.sl (A.length+3) 0 (L.length+xs.length))=some (A++[.row 5 false [tv],.row 1 false [.sl (A.length+3) 0 (L.length+xs.length)],.map (kvs.map kvA),.row 4 true (L.map cK++xs.map cK)]):=by
   rw [eS]
   have:(A++[Ent.row 5 false [tv],.row 1 false [.sl (A.length+3) 0 L.length],.map (kvs.map kvA),.row 4 true (L.map cK++xs.map cK)])[A.length+1]?=some (.row 1 false [.sl (A.length+3) 0 L.length]):=by rw [aY]; rfl
   simp only [aA,this]
   simp [AV.solid,cellsOf,bj]
  rw [<-hA0]
  unfold H60
  rw [a8 _ _ rfl]
  simp [H9,l1,a1,s1,-ac,-aA]
theorem E5 (k v:Int):bA (A++XA A.length tv L kvs) (.map (A.length+2)) (.int .i64 k) (.int .i64 v)=some (A++XA A.length tv L (kvU k v kvs)):=by
 rw [map_set xa2]
 congr 1
 rw [List.set_append_right _ _ (by omega),Nat.add_sub_cancel_left]
 unfold XA
 split <;> rfl
theorem sU (hc:(chv=.nilS\/(∃e l,chv=.fs e l))\/∃a b c,chv=.sl a b c):ac true 5 (A++XA A.length (au T chv) L kvs) (.ptr A.length 0 0)=some (au T chv) /\
  ab 0 (A++XA A.length (au T chv) L kvs) (.ptr A.length 0 0)=some (.ptr A.length 0 0)/\ac false 1 (A++XA A.length (au T chv) L kvs) (.ptr A.length 0 0)=some chv /\
  ab 3 (A++XA A.length (au T chv) L kvs) (.ptr A.length 0 0)=some (.ptr A.length 0 3)/\ac false 1 (A++XA A.length (au T chv) L kvs) (.ptr A.length 0 3)=some (.int .i64 T.travel):=by
 have h:=xa0 (A:=A) (tv:=au T chv) (L:=L) (kvs:=kvs)
 refine ⟨?_,?_,?_,?_,?_⟩
 ·simp only [ac,h]; rfl
 ·simp only [ab,h]; rfl
 ·simp only [ac,h]
  rcases hc with (rfl | ⟨e,l,rfl⟩) | ⟨a,b,c,rfl⟩ <;> rfl
 ·simp only [ab,h]; rfl
 ·simp only [ac,h]; rfl
end
theorem _root_.Go.Proofs.Ytkcjhljbgjpklaa.cM.form {A:aa} {e:Nat} {a:AV} {xs:List AV} (h:cM A e a xs):(a=.nilS\/(∃e l,a=.fs e l))\/∃x y z,a=.sl x y z:=by
 rcases h with (⟨rfl,_⟩ | rfl) | ⟨id,off,gr,es,rfl,_⟩
 ·exact .inl (.inl rfl)
 ·exact .inl (.inr ⟨_,_,rfl⟩)
 ·exact .inr ⟨_,_,_,rfl⟩
end Tr
namespace Tr
open Go
open Cy (GC aL bc aB a7 cK lvM lvT)
open Clu (aR a6 au chA aV aS cc bz da cF dA dM ce pT iT)
def Io:MC:=.seq (.region [⟨none,.mv (.var 12),none⟩,⟨none,.bin .sub (.tmp 0) (.cst (.int .i64 1)),none⟩,⟨some 13,.mv (.tmp 1),none⟩]) (.seq (.region [⟨none,.mv (.var 1),none⟩,⟨none,.mv (.var 13),none⟩,⟨none,.indexSl 1 (.tmp 0) (.tmp 1),none⟩,⟨none,.load false 1 (.tmp 2),none⟩,⟨some 14,.mv (.cst (.int .i64 0)),none⟩,⟨some 15,.mv (.tmp 3),none⟩]) (.seq (.seq (.region [⟨none,.mv (.var 9),none⟩,⟨none,.mv (.var 13),none⟩,⟨none,.lookup 1 true (.int .i64 0) (.tmp 0) (.tmp 1),none⟩,⟨none,.mv (.tmp 2),none⟩,⟨none,.extract (.tmp 3) 0,none⟩,⟨none,.extract (.tmp 3) 1,none⟩,⟨some 16,.mv (.tmp 4),none⟩,⟨some 17,.mv (.tmp 5),none⟩]) (.seq (.region [⟨some 28,.mv (.var 17),none⟩]) (.cond (.var 28) (.region [⟨none,.mv (.var 16),none⟩,⟨none,.mv (.var 10),none⟩,⟨none,.fieldAddr 0 (.var 4),none⟩,⟨none,.load false 1 (.tmp 2),none⟩,⟨none,.mv (.var 13),none⟩,⟨none,.indexSl 2 (.tmp 3) (.tmp 4),none⟩,⟨none,.fieldAddr 0 (.tmp 5),none⟩,⟨none,.load false 1 (.tmp 6),none⟩,⟨none,.bin .add (.tmp 1) (.tmp 7),none⟩,⟨some 14,.mv (.tmp 0),none⟩,⟨some 15,.mv (.tmp 8),none⟩]) .skip))) (.seq (.region [⟨none,.mv (.var 8),none⟩,⟨none,.mv (.var 14),none⟩,⟨none,.mv (.var 11),none⟩,⟨none,.bin .add (.tmp 2) (.cst (.int .i64 1)),none⟩,⟨none,.mv (.var 15),none⟩,⟨none,.build [.int .i64 0,.int .i64 0,.int .i64 0,.int .i64 0] [(0,(1,.tmp 1)),(1,(1,.tmp 3)),(2,(1,.tmp 4))],none⟩,⟨none,.mv (.var 11),none⟩,⟨none,.bin .add (.tmp 6) (.cst (.int .i64 1)),none⟩,⟨none,.mv (.var 14),none⟩,⟨none,.mv (.var 15),none⟩,⟨none,.fieldAddr 0 (.var 4),none⟩,⟨none,.load false 1 (.tmp 10),none⟩,⟨none,.mv (.var 13),none⟩,⟨none,.indexSl 2 (.tmp 11) (.tmp 12),none⟩,⟨none,.fieldAddr 1 (.tmp 13),none⟩,⟨none,.load false 1 (.tmp 14),none⟩,⟨none,.bin .add (.tmp 9) (.tmp 15),none⟩,⟨none,.un .neg (.tmp 16),none⟩,⟨none,.build [.int .i64 0,.int .i64 0,.int .i64 0,.int .i64 0] [(0,(1,.tmp 7)),(1,(1,.tmp 8)),(2,(1,.tmp 17))],none⟩,⟨none,.buildF 4 [.tmp 5,.tmp 18],none⟩,⟨none,.call (.tmp 0) [.tmp 19],none⟩]) (.region [⟨none,.mv (.var 9),none⟩,⟨none,.mv (.var 12),none⟩,⟨none,.mv (.var 11),none⟩,⟨none,.bin .add (.tmp 2) (.cst (.int .i64 1)),none⟩,⟨none,.mapUpdate 1 (.tmp 0) (.tmp 1) (.tmp 3),none⟩]))))
theorem pR:dz=.seq (.region [⟨some 26,.bin .lss (.var 25) (.var 24),none⟩]) (.seq (.cond (.var 26) .skip (.exit 0)) (.seq (.seq (.block 1 (.seq (.region [⟨none,.mv (.var 25),none⟩,⟨none,.indexSl 1 (.var 23) (.var 25),none⟩,⟨none,.load false 1 (.tmp 1),none⟩,⟨some 11,.mv (.tmp 0),none⟩,⟨some 12,.mv (.tmp 2),none⟩]) (.seq (.seq (.region [⟨none,.mv (.var 11),none⟩,⟨some 27,.bin .eql (.tmp 0) (.cst (.int .i64 0)),none⟩]) (.cond (.var 27) (.region [⟨none,.mv (.var 8),none⟩,⟨none,.mv (.var 2),none⟩,⟨none,.fieldAddr 3 (.var 4),none⟩,⟨none,.load false 1 (.tmp 2),none⟩,⟨none,.bin .add (.tmp 1) (.tmp 3),none⟩,⟨none,.build [.int .i64 0,.int .i64 0,.int .i64 0,.int .i64 0] [(0,(1,.cst (.int .i64 0))),(1,(1,.cst (.int .i64 1))),(2,(1,.tmp 4))],none⟩,⟨none,.buildF 4 [.tmp 5],none⟩,⟨none,.call (.tmp 0) [.tmp 6],none⟩]) (.region [⟨none,.mv (.var 8),none⟩,⟨none,.mv (.var 11),none⟩,⟨none,.mv (.var 11),none⟩,⟨none,.bin .add (.tmp 2) (.cst (.int .i64 1)),none⟩,⟨none,.mv (.var 10),none⟩,⟨none,.load true 5 (.var 4),none⟩,⟨none,.mv (.var 3),none⟩,⟨none,.mv (.var 11),none⟩,⟨none,.bin .sub (.tmp 7) (.cst (.int .i64 1)),none⟩,⟨none,.indexSl 1 (.tmp 6) (.tmp 8),none⟩,⟨none,.load false 1 (.tmp 9),none⟩,⟨none,.mv (.var 12),none⟩,⟨none,.call (.fn 41) [.tmp 5,.tmp 10,.tmp 11],none⟩,⟨none,.bin .add (.tmp 4) (.tmp 12),none⟩,⟨none,.build [.int .i64 0,.int .i64 0,.int .i64 0,.int .i64 0] [(0,(1,.tmp 1)),(1,(1,.tmp 3)),(2,(1,.tmp 13))],none⟩,⟨none,.buildF 4 [.tmp 14],none⟩,⟨none,.call (.tmp 0) [.tmp 15],none⟩]))) Io))) (.kill [0,5,6,11,12,13,14,15,16,17,18,19,20,21,22,26,27,28,29,30,31,32,33])) (.region [⟨none,.bin .add (.var 25) (.cst (.int .i64 1)),none⟩,⟨some 25,.mv (.tmp 0),none⟩]))):=rfl
def tS:List (FuncId × aG):=[(60,H60),(41,aD 4 M41),(42,aD 4 M42),(46,Cy.H14)]
@[simp] theorem JB:aC tS 60=some H60:=rfl
@[simp] theorem JE:aC tS 41=some (aD 4 M41):=rfl
@[simp] theorem JD:aC tS 42=some (aD 4 M42):=rfl
@[simp] theorem JC:aC tS 46=some Cy.H14:=rfl
theorem Dj:∀f M,aC tS f=some M->aj Try.prog GC f M:=af Fi (af (aj.of_pure nv 4) (af (aj.of_pure pG 4) (af Cy.lu az)))
theorem pu34:bh (ax GC tS) [41]:=by
 first | exact bh.nil | (repeat (first | exact bh.nil | refine bh.cons (M:=_) rfl ?_))
def H34:aG:=fun _=>bV (ax GC tS) 300 sR
theorem ny:aj Try.prog GC 34 H34:=(bS (aw Dj) rfl EZ qc pu34).y
abbrev s34 (n0:Nat) (rdv:AV) (free:Int) (ov:AV) (W:Int) (m i:Nat):List AV:=
 gj rdv (.int .i64 free) ov (.ptr n0 0 0) (.ptr (n0+1) 0 0) (.func (.func 60) [] [.ptr (n0+1) 0 0]) (.map (n0+2)) (.int .i64 W) ov (.int .i64 (m:Int)) (.int .i64 (i:Int))
def a1F (T:aR) (rd:List Int) (a:Nat->Option Nat) (i k:Nat):a7:=⟨((fV T rd a k).1:Int),(i:Int)+1,(fV T rd a k).2,0⟩
def a2F (T:aR) (rd:List Int) (a:Nat->Option Nat) (i k:Nat):a7:=⟨(i:Int)+1,((fV T rd a k).1:Int),-((fV T rd a k).2+syT T k),0⟩
section
variable {A:aa} {T:aR} {chv chF rdv:AV} {rd:List Int} {free:Int} {L:List a7} {kvs:List (Int × Int)} {a:Nat->Option Nat}
theorem IB (hT:Tl A T chv chF) (hv:a6 T) (hr:cM A 1 rdv (ak rd)) (hrd:∀k,-1<=rd.getD k 0/\rd.getD k 0<=500000) (hrl:rd.length=T.ch.length) {i k:Nat} (hk:k<T.ch.length) (hi:i<=100) (hkv:∀k:Nat,lk k kvs=(a k).map fun p=>(p:Int)) (hL:L.length<=500) (hLne:L≠[])
  (v0 v2 v3 v5 v6 _v8 v13 v14 v15 v16 v17 v18 v19 v20 v21 v22 v23 v24 v25 v26 v27 v28 v29 v30 v31 v32 v33:AV) :
  ∃e13 e14 e15 e16 e17 e28,∀K,run (ax GC tS) 300 (.code Io :: K) [v0,rdv,v2,v3,.ptr A.length 0 0,v5,v6,.ptr (A.length+1) 0 0,.func (.func 60) [] [.ptr (A.length+1) 0 0],.map (A.length+2),.int .i64 (wT T),.int .i64 (i:Int),.int .i64 ((k:Int)+1),v13,v14,v15,v16,v17,v18,v19,v20,v21,v22,v23,v24,v25,v26,v27,v28,v29,v30,v31,v32,v33] (A++XA A.length (au T chv) L kvs) =
   run (ax GC tS) 300 K [v0,rdv,v2,v3,.ptr A.length 0 0,v5,v6,.ptr (A.length+1) 0 0,.func (.func 60) [] [.ptr (A.length+1) 0 0],.map (A.length+2),.int .i64 (wT T),.int .i64 (i:Int),.int .i64 ((k:Int)+1),e13,e14,e15,e16,e17,v18,v19,v20,v21,v22,v23,v24,v25,v26,v27,e28,v29,v30,v31,v32,v33] (A++XA A.length (au T chv) (L++[a1F T rd a i k,a2F T rd a i k]) (kvU ((k:Int)+1) ((i:Int)+1) kvs)):=by
 have hw:=en hv
 have hc:=eR hv k
 obtain ⟨pr,hpr⟩:=hr.int (B:=A++XA A.length (au T chv) L kvs) (cu A _) (i:=k) (by omega) .i64
 have hrk:rd[k]'(by omega)=rd.getD k 0:=by rw [List.getD_eq_getElem?_getD,List.getElem?_eq_getElem (by omega)]; rfl
 rw [hrk] at hpr
 obtain ⟨r1,r2⟩:=hpr
 obtain ⟨p,q,hpq⟩:=hT.ix hk
 have hrk:=hrd k
 have t0:=fun L kvs=>sU (A:=A) (T:=T) (L:=L) (kvs:=kvs) hT.h.form
 have g1:=DZ (xa2 (A:=A) (tv:=au T chv) (L:=L) (kvs:=kvs)) (k:Int)
 rw [hkv k] at g1
 have u1:=fun L=>E5 (A:=A) (tv:=au T chv) (L:=L) (kvs:=kvs) ((k:Int)+1) ((i:Int)+1)
 have b1:ag .sub (.int .i64 ((k:Int)+1)) (.int .i64 1)=some (.int .i64 (k:Int)):=by
  have:=cc (a:=(k:Int)+1) (b:=1) (by have:=hv.2.2.2.1; omega)
  rw [this,show (k:Int)+1-1=k by omega]
 have b2:ag .add (.int .i64 (i:Int)) (.int .i64 1)=some (.int .i64 ((i:Int)+1)):=aS (by omega)
 have b3:ag .add (.int .i64 (wT T)) (.int .i64 (tmT T k))=some (.int .i64 (wT T+tmT T k)):=aS (by omega)
 have hcall:=CE (A:=A) (tv:=au T chv) (L:=L) (kvs:=kvs) (fun _ _ _=>none) (xs:=[a1F T rd a i k,a2F T rd a i k]) (by simp) (fun h=>absurd h hLne) (by simp; omega)
 have hc1:=hpq (XA A.length (au T chv) L kvs)
 obtain ⟨i1,f0,l0,f1,l1⟩:=hc1
 obtain ⟨_,g3,g4,_,_⟩:=t0 L kvs
 cases hak:a k with
 | none=>
  rw [hak] at g1
  have es:fV T rd a k=(0,rd.getD k 0):=by unfold fV; rw [hak]
  have b4:ag .add (.int .i64 (rd.getD k 0)) (.int .i64 (syT T k))=some (.int .i64 (rd.getD k 0+syT T k)):=aS (by omega)
  have b5:r9 .neg (.int .i64 (rd.getD k 0+syT T k))=some (.int .i64 (-(rd.getD k 0+syT T k))):=dA (by omega)
  refine ⟨.int .i64 (k:Int),.int .i64 0,.int .i64 (rd.getD k 0),.int .i64 0,.bool false,.bool false,fun K=>?_⟩
  have hcall:H60 (fun _ _ _=>none) [.fs 4 [.agg [.int .i64 0,.int .i64 ((i:Int)+1),.int .i64 (rd.getD k 0),.int .i64 0],.agg [.int .i64 ((i:Int)+1),.int .i64 0,.int .i64 (-(rd.getD k 0+syT T k)),.int .i64 0]],.ptr (A.length+1) 0 0] (A++XA A.length (au T chv) L kvs)=some (.tup [],A++XA A.length (au T chv) (L++[a1F T rd a i k,a2F T rd a i k]) kvs):=by
   have e1:a1F T rd a i k=⟨0,(i:Int)+1,rd.getD k 0,0⟩:=by unfold a1F; rw [es]; rfl
   have e2:a2F T rd a i k=⟨(i:Int)+1,0,-(rd.getD k 0+syT T k),0⟩:=by unfold a2F; rw [es]; rfl
   rw [e1,e2] at hcall ⊢
   exact hcall
  have u1:=u1 (L++[a1F T rd a i k,a2F T rd a i k])
  generalize L++[a1F T rd a i k,a2F T rd a i k]=L2 at *
  generalize kvU ((k:Int)+1) ((i:Int)+1) kvs=kv2 at *
  generalize A++XA A.length (au T chv) L kvs=B0 at *
  generalize A++XA A.length (au T chv) L2 kvs=B1 at *
  generalize A++XA A.length (au T chv) L2 kv2=B2 at *
  generalize rd.getD k 0+syT T k=z1 at *
  generalize rd.getD k 0=z0 at *
  generalize -z1=z2 at *
  generalize (k:Int)+1=K1 at *
  generalize (i:Int)+1=I1 at *
  generalize hsl:be 4 [.agg [.int .i64 0,.int .i64 I1,.int .i64 z0,.int .i64 0],.agg [.int .i64 I1,.int .i64 0,.int .i64 z2,.int .i64 0]]=sl at *
  have hsl':sl=some (.fs 4 [.agg [.int .i64 0,.int .i64 I1,.int .i64 z0,.int .i64 0],.agg [.int .i64 I1,.int .i64 0,.int .i64 z2,.int .i64 0]]):=by rw [<-hsl]; rfl
  rw [hsl'] at hsl
  simp [Io,r1,r2,g1,g3,g4,i1,f1,l1,b1,b2,b4,b5,hcall,hsl,u1,-ag,-ac,-ab,-ai,-be,-r9,-cm,-bA]
 | some pp=>
  rw [hak] at g1
  have g1:cm true (.int .i64 0) (A++XA A.length (au T chv) L kvs) (.map (A.length+2)) (.int .i64 (k:Int))=some (.tup [.int .i64 (pp:Int),.bool true]):=g1
  have es:fV T rd a k=(pp,wT T+tmT T k):=by unfold fV; rw [hak]
  have b4:ag .add (.int .i64 (wT T+tmT T k)) (.int .i64 (syT T k))=some (.int .i64 (wT T+tmT T k+syT T k)):=aS (by omega)
  have b5:r9 .neg (.int .i64 (wT T+tmT T k+syT T k))=some (.int .i64 (-(wT T+tmT T k+syT T k))):=dA (by omega)
  refine ⟨.int .i64 (k:Int),.int .i64 (pp:Int),.int .i64 (wT T+tmT T k),.int .i64 (pp:Int),.bool true,.bool true,fun K=>?_⟩
  have hcall:H60 (fun _ _ _=>none) [.fs 4 [.agg [.int .i64 (pp:Int),.int .i64 ((i:Int)+1),.int .i64 (wT T+tmT T k),.int .i64 0],.agg [.int .i64 ((i:Int)+1),.int .i64 (pp:Int),.int .i64 (-(wT T+tmT T k+syT T k)),.int .i64 0]],.ptr (A.length+1) 0 0] (A++XA A.length (au T chv) L kvs)=some (.tup [],A++XA A.length (au T chv) (L++[a1F T rd a i k,a2F T rd a i k]) kvs):=by
   have e1:a1F T rd a i k=⟨(pp:Int),(i:Int)+1,wT T+tmT T k,0⟩:=by unfold a1F; rw [es]
   have e2:a2F T rd a i k=⟨(i:Int)+1,(pp:Int),-(wT T+tmT T k+syT T k),0⟩:=by unfold a2F; rw [es]
   rw [e1,e2] at hcall ⊢
   exact hcall
  have u1:=u1 (L++[a1F T rd a i k,a2F T rd a i k])
  generalize L++[a1F T rd a i k,a2F T rd a i k]=L2 at *
  generalize kvU ((k:Int)+1) ((i:Int)+1) kvs=kv2 at *
  generalize A++XA A.length (au T chv) L kvs=B0 at *
  generalize A++XA A.length (au T chv) L2 kvs=B1 at *
  generalize A++XA A.length (au T chv) L2 kv2=B2 at *
  generalize rd.getD k 0=zr at *
  generalize wT T+tmT T k+syT T k=z1 at *
  generalize wT T+tmT T k=z0 at *
  generalize wT T=zw at *
  generalize tmT T k=zt at *
  generalize -z1=z2 at *
  generalize (k:Int)+1=K1 at *
  generalize (i:Int)+1=I1 at *
  generalize (pp:Int)=P1 at *
  have hsl:be 4 [.agg [.int .i64 P1,.int .i64 I1,.int .i64 z0,.int .i64 0],.agg [.int .i64 I1,.int .i64 P1,.int .i64 z2,.int .i64 0]]=some (.fs 4 [.agg [.int .i64 P1,.int .i64 I1,.int .i64 z0,.int .i64 0],.agg [.int .i64 I1,.int .i64 P1,.int .i64 z2,.int .i64 0]]):=rfl
  simp [Io,r1,r2,g1,g3,g4,i1,f0,f1,l0,l1,b1,b2,b3,b4,b5,hcall,hsl,u1,-ag,-ac,-ab,-ai,-be,-r9,-cm,-bA]
end
end Tr
namespace Tr
open Go
open Cy (GC aL bc aB a7 cK lvM lvT)
open Clu (aR a6 au chA aV aS cc bz da cF dA dM ce pT iT)
section
variable {A:aa} {T:aR} {chv chF rdv ov:AV} {rd o:List Int} {free:Int} {L:List a7} {kvs:List (Int × Int)} {a:Nat->Option Nat}
theorem tx (hT:Tl A T chv chF) (hS:Sit T rd free) (hr:cM A 1 rdv (ak rd)) (ho:cM A 1 ov (ak o)) {i k:Nat} (hi:i<o.length) (hol:o.length<=100) (hok:o[i]=(k:Int)+1) (hk:k<T.ch.length) {last:Int} (hlast:i≠0->o.getD (i-1) 0=last) (hlb : -1000<=last/\last<=1000)
  (hkv:∀k:Nat,lk k kvs=(a k).map fun p=>(p:Int)) (hL:L.length=3*i) :
  run (ax GC tS) 300 [.code dz] (s34 A.length rdv free ov (wT T) o.length i) (A++XA A.length (au T chv) L kvs) =
   some (.normal (s34 A.length rdv free ov (wT T) o.length (i+1)) (A++XA A.length (au T chv) (L++[hdT T free i last ((k:Int)+1)]++[a1F T rd a i k,a2F T rd a i k]) (kvU ((k:Int)+1) ((i:Int)+1) kvs))):=by
 unfold s34
 have hv:=hS.1.1
 have hw:=en hv
 have hfr:=hS.2.2.1
 obtain ⟨e13,e14,e15,e16,e17,e28,hs⟩:=IB (A:=A) (L:=L++[hdT T free i last ((k:Int)+1)]) (kvs:=kvs) (a:=a) hT hv hr (xj hS) hS.2.1 (i:=i) hk (by omega) hkv (by simp; omega) (by simp)
  .undef (.int .i64 free) ov .undef .undef (.func (.func 60) [] [.ptr (A.length+1) 0 0]) .undef .undef .undef .undef .undef .undef .undef .undef .undef .undef ov (.int .i64 (o.length:Int)) (.int .i64 (i:Int)) (.bool true) (.bool (decide (i=0))) .undef .undef .undef .undef .undef .undef
 obtain ⟨po,hpo1,hpo2⟩:=ho.int (B:=A++XA A.length (au T chv) L kvs) (cu A _) hi .i64
 rw [hok] at hpo2
 have b0:=br i o.length .i64
 rw [decide_eq_true hi] at b0
 have b1:=a9 i (by omega)
 have hbE:=bz (i:Int) 0
 have hbE:ag .eql (.int .i64 (i:Int)) (.int .i64 0)=some (.bool (decide (i=0))):=by
  rw [hbE]; congr 2; exact decide_eq_decide.2 (by omega)
 obtain ⟨g1,g3,g4,g5,g6⟩:=sU (A:=A) (T:=T) (L:=L) (kvs:=kvs) hT.h.form
 have hcall:=CE (A:=A) (tv:=au T chv) (L:=L) (kvs:=kvs) (fun _ _ _=>none) (xs:=[hdT T free i last ((k:Int)+1)]) (by simp) (fun _=>rfl) (by simp; omega)
 by_cases h0:i=0
 ·rw [decide_eq_true h0] at hbE hs
  have ehd:hdT T free i last ((k:Int)+1)=⟨0,1,free+T.travel,0⟩:=by unfold hdT; rw [if_pos h0]
  rw [ehd] at hcall hs ⊢
  have b2:ag .add (.int .i64 free) (.int .i64 T.travel)=some (.int .i64 (free+T.travel)):=aS (by omega)
  generalize L++[(⟨0,1,free+T.travel,0⟩:a7)]=L1 at *
  generalize L1++[a1F T rd a i k,a2F T rd a i k]=L2 at *
  generalize kvU ((k:Int)+1) ((i:Int)+1) kvs=kv2 at *
  obtain ⟨i1,hi1⟩:∃i1:Nat,i1=i+1:=⟨_,rfl⟩
  rw [<-hi1] at b1 ⊢
  generalize A++XA A.length (au T chv) L kvs=B0 at *
  generalize A++XA A.length (au T chv) L1 kvs=B1 at *
  generalize A++XA A.length (au T chv) L2 kv2=B2 at *
  have hcall:H60 (fun _ _ _=>none) [.fs 4 [.agg [.int .i64 0,.int .i64 1,.int .i64 (free+T.travel),.int .i64 0]],.ptr (A.length+1) 0 0] B0=some (.tup [],B1):=hcall
  generalize free+T.travel=z1 at *
  generalize (k:Int)+1=K1 at *
  generalize (i:Int)=I0 at *
  generalize (i1:Int)=I1 at *
  have hsl:be 4 [.agg [.int .i64 0,.int .i64 1,.int .i64 z1,.int .i64 0]]=some (.fs 4 [.agg [.int .i64 0,.int .i64 1,.int .i64 z1,.int .i64 0]]):=rfl
  rw [pR]
  simp [hpo1,hpo2,b0,b1,b2,hbE,g5,g6,hcall,hsl,hs,-ag,-ac,-ab,-ai,-be]
 ·rw [decide_eq_false h0] at hbE hs
  have ehd:hdT T free i last ((k:Int)+1)=⟨(i:Int),(i:Int)+1,wT T+btw T last ((k:Int)+1),0⟩:=by unfold hdT; rw [if_neg h0]
  rw [ehd] at hcall hs ⊢
  have m:=vG (T:=T) chF last ((k:Int)+1) hlb
  have hf:=hT.fz (XA A.length (au T chv) L kvs)
  have hbt:=oK hv last ((k:Int)+1)
  obtain ⟨pl,hpl1,hpl2⟩:=ho.int (B:=A++XA A.length (au T chv) L kvs) (cu A _) (i:=i-1) (by omega) .i64
  have hlo:o[i-1]'(by omega)=last:=by
   rw [<-hlast h0,List.getD_eq_getElem?_getD,List.getElem?_eq_getElem (by omega)]; rfl
  rw [hlo] at hpl2
  have b3:ag .sub (.int .i64 (i:Int)) (.int .i64 1)=some (.int .i64 ((i-1:Nat):Int)):=by
   rw [cc (by omega),show ((i-1:Nat):Int)=(i:Int)-1 by omega]
  have b2:ag .add (.int .i64 (wT T)) (.int .i64 (btw T last ((k:Int)+1)))=some (.int .i64 (wT T+btw T last ((k:Int)+1))):=aS (by omega)
  have b4:ag .add (.int .i64 (i:Int)) (.int .i64 1)=some (.int .i64 ((i:Int)+1)):=aS (by omega)
  generalize L++[(⟨(i:Int),(i:Int)+1,wT T+btw T last ((k:Int)+1),0⟩:a7)]=L1 at *
  generalize L1++[a1F T rd a i k,a2F T rd a i k]=L2 at *
  generalize kvU ((k:Int)+1) ((i:Int)+1) kvs=kv2 at *
  obtain ⟨i1,hi1⟩:∃i1:Nat,i1=i+1:=⟨_,rfl⟩
  have hi1':(i:Int)+1=(i1:Int):=by omega
  rw [<-hi1] at b1 ⊢
  generalize A++XA A.length (au T chv) L kvs=B0 at *
  generalize A++XA A.length (au T chv) L1 kvs=B1 at *
  generalize A++XA A.length (au T chv) L2 kv2=B2 at *
  have hcall:H60 (fun _ _ _=>none) [.fs 4 [.agg [.int .i64 (i:Int),.int .i64 ((i:Int)+1),.int .i64 (wT T+btw T last ((k:Int)+1)),.int .i64 0]],.ptr (A.length+1) 0 0] B0=some (.tup [],B1):=hcall
  rw [hi1'] at hcall b4
  generalize wT T+btw T last ((k:Int)+1)=z1 at *
  generalize btw T last ((k:Int)+1)=zb at *
  generalize wT T=zw at *
  generalize au T chv=tv at *
  generalize au T chF=tF at *
  generalize (k:Int)+1=K1 at *
  generalize ((i-1:Nat):Int)=J at *
  generalize (i:Int)=I0 at *
  generalize (i1:Int)=I1 at *
  have hsl:be 4 [.agg [.int .i64 I0,.int .i64 I1,.int .i64 z1,.int .i64 0]]=some (.fs 4 [.agg [.int .i64 I0,.int .i64 I1,.int .i64 z1,.int .i64 0]]):=rfl
  rw [pR]
  simp [hpo1,hpo2,hpl1,hpl2,b0,b1,b2,b3,hbE,g1,m,hf,hcall,hsl,hs,aL,-ag,-ac,-ab,-ai,-be,-frz]
def BF:Nat->List (Int × Int)->List Int->List (Int × Int)
 | _,kvs,[]=>kvs
 | i,kvs,t :: r=>BF (i+1) (kvU t ((i:Int)+1) kvs) r
theorem F6 (hT:Tl A T chv chF) (hS:Sit T rd free) (hr:cM A 1 rdv (ak rd)) (ho:cM A 1 ov (ak o)) (hol:o.length<=100) (hob:∀t∈o,1<=t/\t<=T.ch.length):∀(c i:Nat) (last:Int) (L:List a7) (kvs:List (Int × Int)) (a:Nat->Option Nat) (m:Nat),i+c=o.length->(i≠0->o.getD (i-1) 0=last)->(-1000<=last/\last<=1000) ->
  (∀k:Nat,lk k kvs=(a k).map fun p=>(p:Int))->L.length=3*i->c<m ->
  b8 (evC (ax GC tS) 300 dz) du m (s34 A.length rdv free ov (wT T) o.length i) (A++XA A.length (au T chv) L kvs) =
   some (.exit 0 ((s34 A.length rdv free ov (wT T) o.length o.length).set 26 (.bool false)) (A++XA A.length (au T chv) (L++gq T rd free i last a (o.drop i)) (BF i kvs (o.drop i)))):=by
 intro c
 induction c with
 | zero=>
  intro i last L kvs a m hi _ _ _ _ hm
  obtain ⟨m,rfl⟩:∃j,m=j+1:=⟨m-1,by omega⟩
  obtain rfl:i=o.length:=by omega
  rw [List.drop_length]
  simp only [gq,BF,List.append_nil]
  have b0:=br o.length o.length .i64
  rw [decide_eq_false (by omega)] at b0
  rw [aO,oH]
  simp [dz,b0,-ag]
 | succ c ih=>
  intro i last L kvs a m hi h1 h2 h3 h4 hm
  obtain ⟨m,rfl⟩:∃j,m=j+1:=⟨m-1,by omega⟩
  have hil:i<o.length:=by omega
  have hb:=hob _ (List.getElem_mem hil)
  obtain ⟨k,hk⟩:∃k:Nat,o[i]=(k:Int)+1:=⟨(o[i]-1).toNat,by omega⟩
  have hr34:=tx (a:=a) hT hS hr ho hil hol hk (by omega) h1 h2 h3 h4
  rw [aO,oH,hr34]
  have:=ih (i+1) ((k:Int)+1) (L++[hdT T free i last ((k:Int)+1)]++[a1F T rd a i k,a2F T rd a i k]) (kvU ((k:Int)+1) ((i:Int)+1) kvs) (upd a (k+1) (i+1)) m (by omega) (fun _=>by
   rw [Nat.add_sub_cancel,List.getD_eq_getElem?_getD,List.getElem?_eq_getElem hil,hk]; rfl) (by have:=hS.1.1.2.2.2.1; omega) (fun j=>by
   rw [By]
   unfold upd
   by_cases hj:j=k+1
   ·subst hj; rw [if_pos (by push_cast; rfl),if_pos rfl]; simp
   ·rw [if_neg (by omega),if_neg hj]; exact h3 j) (by simp; omega) (by omega)
  refine this.trans ?_
  have e1:((k:Int)+1-1).toNat=k:=by omega
  have e2:((k:Int)+1).toNat=k+1:=by omega
  rw [List.drop_eq_getElem_cons hil,hk]
  simp only [gq,BF,e1,e2]
  congr 4
  simp [a1F,a2F]
end
end Tr
namespace Tr
open Go
open Clu (aR a6)
open Cy (a7)
theorem tG (X:Nat->Int):∀(o:List Int) (i:Nat),(mkX X i o).map (·.1)=o
 | [],_=>rfl
 | t :: r,i=>by simp [mkX,tG X r]
theorem qC (X:Nat->Int) (o:List Int) (i:Nat):(mkX X i o).length=o.length:=by
 rw [<-List.length_map (f:=(·.1)),tG]
theorem qU {T:aR} {rd:List Int} {free:Int} {l:List cS} (h:b7 T rd free=some l):Emp (b0 rd) (l.map (·.1)):=by
 obtain ⟨hS,o,e,k1,k2,_⟩:=qa h
 obtain ⟨X,x0,rfl,_⟩:=ky hS k1 k2
 rw [tG]; exact k1
structure Mt (T D:aR):Prop where
 pk:D.pick=T.pick
 pl:D.place=T.place
 tr:D.travel=T.travel
 len:D.ch.length=T.ch.length
 tm:∀k,tmT D k=tmT T k
 sy:∀k,syT T k<=syT D k
end Tr
namespace Tr
open Go
open Cy (GC aL bc aB a7 cK lvM lvT)
open Clu (aR a6 au chA aV aS cc bz da cF dA dM ce pT iT)
def OA (l:List cS):aa:=List.replicate l.length .dead++[.row 2 false (l.map aX)]
theorem zz (D:aa) (l:List cS) (t:cS) (hl:l.length<=1000):cw 2 16 (D++OA l) (.sl (D.length+l.length) 0 l.length) (.fs 2 [aX t])=some (.sl (D.length+(l.length+1)) 0 (l.length+1),D++OA (l++[t])):=by
 have h:(D++OA l)[D.length+l.length]?=some (.row 2 false (l.map aX)):=by
  rw [aY]
  unfold OA
  rw [List.getElem?_append_right (by simp)]
  simp
 have e:(D++OA l).length=D.length+(l.length+1):=by simp [OA]
 have e2:(D++OA l).set (D.length+l.length) .dead++[Ent.row 2 false ((l.map aX).take l.length++[aX t])]=D++OA (l++[t]):=by
  rw [List.set_append_right _ _ (by omega),Nat.add_sub_cancel_left]
  unfold OA
  rw [List.set_append_right _ _ (by simp)]
  simp only [List.length_replicate,Nat.sub_self,List.set_cons_zero,List.append_assoc,List.length_append,List.length_singleton,List.map_append,List.map_cons,List.map_nil]
  rw [List.replicate_succ',List.append_assoc]
  congr 3
  have:l.length=(l.map aX).length:=by simp
  rw [this,List.take_length]
 simp only [cw,cX,h,List.length_singleton,List.drop_zero]
 rw [if_pos ⟨trivial,by omega,by omega,by omega⟩,e,e2]
theorem xr (X:Nat->Int):∀(o:List Int) (i j:Nat),(h:j<o.length)->(mkX X i o)[j]?=some (o[j],X (i+j+1))
 | t :: r,i,0,_=>rfl
 | t :: r,i,j+1,h=>by
  have:=xr X r (i+1) j (by simpa using h)
  simp only [mkX,List.getElem?_cons_succ,this,List.getElem_cons_succ]
  rw [show i+1+j+1=i+(j+1)+1 by omega]
section
variable {A:aa} {T:aR} {chv chF rdv ov:AV} {rd o:List Int} {free:Int}
theorem D5 {D:aa} {ov sv:AV} {o st:List Int} (ho:∀X,cM (D++X) 1 ov (ak o)) (hs:SlA 1 (ak st) sv) (hsl:st.length=o.length+1) (hol:o.length<=100):∀(c j m:Nat),j+c=o.length->c<m ->
  b8 (evC (ax GC tS) 300 lE) g8 m (nj sv (.sl (D.length+j) 0 j) ov (.int .i64 (o.length:Int)) (.int .i64 (j:Int))) (D++OA ((mkX (fun k=>st.getD k 0) 0 o).take j)) =
   some (.exit 2 ((nj sv (.sl (D.length+o.length) 0 o.length) ov (.int .i64 (o.length:Int)) (.int .i64 (o.length:Int))).set 32 (.bool false)) (D++OA (mkX (fun k=>st.getD k 0) 0 o))):=by
 intro c
 induction c with
 | zero=>
  intro j m hj hm
  obtain ⟨m,rfl⟩:∃j,m=j+1:=⟨m-1,by omega⟩
  obtain rfl:j=o.length:=by omega
  have b0:=br o.length o.length .i64
  rw [decide_eq_false (by omega)] at b0
  have e:(mkX (fun k=>st.getD k 0) 0 o).take o.length=mkX (fun k=>st.getD k 0) 0 o:=List.take_of_length_le (by rw [qC]; exact Nat.le_refl _)
  rw [e,aO,yL]
  simp [lE,b0,-ag]
 | succ c ih=>
  intro j m hj hm
  obtain ⟨m,rfl⟩:∃j,m=j+1:=⟨m-1,by omega⟩
  have hjl:j<o.length:=by omega
  have b0:=br j o.length .i64
  rw [decide_eq_true hjl] at b0
  have b1:=a9 j (by omega)
  obtain ⟨po,h1,h2⟩:=(ho (OA ((mkX (fun k=>st.getD k 0) 0 o).take j))).int (B:=D++OA ((mkX (fun k=>st.getD k 0) 0 o).take j)) (fun _ _=>rfl) hjl .i64
  have h3:=hs.int (A:=D++OA ((mkX (fun k=>st.getD k 0) 0 o).take j)) _ _ (List.getElem?_eq_getElem (show j+1<st.length by omega)) .i64
  have ht:=xr (fun k=>st.getD k 0) o 0 j hjl
  have hX:st.getD (0+j+1) 0=st[j+1]'(by omega):=by rw [Nat.zero_add,List.getD_eq_getElem?_getD,List.getElem?_eq_getElem (by omega)]; rfl
  rw [hX] at ht
  have htl:((mkX (fun k=>st.getD k 0) 0 o).take j).length=j:=by rw [List.length_take,qC]; omega
  have ha:=zz D ((mkX (fun k=>st.getD k 0) 0 o).take j) (o[j],st[j+1]'(by omega)) (by omega)
  rw [htl] at ha
  have e:(mkX (fun k=>st.getD k 0) 0 o).take j++[(o[j],st[j+1]'(by omega))]=(mkX (fun k=>st.getD k 0) 0 o).take (j+1):=by
   rw [List.take_add_one,ht]; rfl
  rw [e] at ha
  have hr:=ih (j+1) m (by omega) (by omega)
  rw [aO,yL]
  have ha:cw 2 16 (D++OA ((mkX (fun k=>st.getD k 0) 0 o).take j)) (.sl (D.length+j) 0 j) (.fs 2 [.agg [.int .i64 o[j],.int .i64 (st[j+1]'(by omega))]])=_:=ha
  have hbf:be 2 [.agg [.int .i64 o[j],.int .i64 (st[j+1]'(by omega))]]=some (.fs 2 [.agg [.int .i64 o[j],.int .i64 (st[j+1]'(by omega))]]):=rfl
  generalize D++OA ((mkX (fun k=>st.getD k 0) 0 o).take j)=B0 at *
  generalize D++OA ((mkX (fun k=>st.getD k 0) 0 o).take (j+1))=B1 at *
  generalize o[j]=oj at *
  generalize (st[j+1]'(by omega):Int)=sj at *
  obtain ⟨i1,hi1⟩:∃i1:Nat,i1=j+1:=⟨_,rfl⟩
  rw [<-hi1] at b1 h3 ha hr
  have hrun:run (ax GC tS) 300 [.code lE] (nj sv (.sl (D.length+j) 0 j) ov (.int .i64 (o.length:Int)) (.int .i64 (j:Int))) B0 =
    some (.normal (nj sv (.sl (D.length+i1) 0 i1) ov (.int .i64 (o.length:Int)) (.int .i64 (i1:Int))) B1):=by
   generalize (i1:Int)=I1 at *
   generalize (j:Int)=J at *
   generalize (o.length:Int)=M at *
   simp [lE,b0,b1,h1,h2,h3,ha,hbf,-ag,-ac,-ai,-be]
  rw [hrun]
  exact hr
end
end Tr
namespace Tr
open Go
open Cy (GC)
theorem CN (w:World):Calls Try.prog 40 #[.slice none 0 0] w fun e w'=>e=.returned (.slice none 0 0)/\w'=w:=by
 have q22:∀(w:World) (a:Option Addr) (n c n' c':Nat),(binOp .eql 25 (.slice a n c) (.slice none n' c')).run Try.prog w=.ok (.bool a.isNone) w:=fun w a n c n' c'=>Lib.run_eql_slice_nil w _ _ a n c n' c' Try.underlying25
 go_enter Try.func40,Try.ntmps40
 go_wp2
 go_ret
 exact ⟨rfl,rfl⟩
theorem CM (a:Addr) (w:World):Calls Try.prog 40 #[.slice (some a) 0 0] w fun e w'=>∃p o,e=.returned (.slice p 0 0)/\w'=w.alloc o:=by
 have q22:∀(w:World) (a:Option Addr) (n c n' c':Nat),(binOp .eql 25 (.slice a n c) (.slice none n' c')).run Try.prog w=.ok (.bool a.isNone) w:=fun w a n c n' c'=>Lib.run_eql_slice_nil w _ _ a n c n' c' Try.underlying25
 go_enter Try.func40,Try.ntmps40
 go_wp2
 go_ret
 exact ⟨_,_,rfl,rfl⟩
def H40:aG:=fun _h args A=>match args with
 | [.nilS]=>some (.nilS,A)
 | _=>bV (ax GC []) 0 Cy.tH args A
theorem nw:aj Try.prog GC 40 H40:=by
 refine ⟨Cy.lq.1,fun ys h hs args A r A' he w OK g vs hA hI hl=>?_⟩
 unfold H40 at he
 split at he
 ·injection he with he
  injection he with h1 h2
  subst h1 h2
  match vs,hl with
  | [v],hl=>
   obtain ⟨h1,_⟩:=hl
   obtain ⟨p,rfl⟩:=h1.inv_nilS
   cases p with
   | none=>
    refine (CN w).mono ?_
    rintro e w' ⟨rfl,rfl⟩
    exact ⟨_,OK,g,rfl,.nilS _ _,hA,Ext.refl _ _ _⟩
   | some a=>
    refine (CM a w).mono ?_
    rintro e w' ⟨p,o,rfl,rfl⟩
    have hsz:(w.alloc o).heap.size=w.heap.size+1:=by show (w.heap.push o).size=_; exact Array.size_push ..
    refine ⟨_,OK,g,rfl,.nilS _ _,?_,?_⟩
    ·refine hA.keep (w':=w.alloc o) ?_ (fun b hb=>?_) OK (fun _ h=>h) (fun _ h=>.inl h) (fun b hb=>?_)
     ·omega
     ·exact heap_alloc_old w _ hb
     ·have:=hA.ok b hb
      omega
    ·exact ⟨rfl,rfl,rfl,by omega,fun b hb _=>heap_alloc_old w _ hb,g.le_refl,fun _ h=>h,fun id inc h=>.inl ⟨id,inc,h,rfl⟩,fun _ h=>.inl h,
      fun b r hb _=>(heap_alloc_old w _ (Array.getElem?_eq_some_iff.1 hb).1).trans hb,fun _ _ _ _=>rfl⟩
 ·exact Cy.lq.2 ys h hs args A r A' he w OK g vs hA hI hl
theorem EJ (h:aT) (A:aa):H40 h [.nilS] A=some (.nilS,A):=rfl
theorem CG (h:aT) {A:aa} {a:AV} {xs:List Int} (ha:cM A 1 a (ak xs)) (hne:xs≠[]) (hl:xs.length<=1000):H40 h [a] A=some (.sl (A.length+1) 0 xs.length,A++[.dead,.row 1 false (ak xs)]):=by
 have:=Cy.Im (ax GC []) 0 ha hne hl
 unfold H40
 split
 ·rename_i hh
  injection hh with hh
  subst hh
  rcases ha with (⟨_,h⟩ | h) | ⟨id,off,gr,es,h,_⟩
  ·exact absurd (List.map_eq_nil_iff.1 h) hne
  ·cases h
  ·cases h
 ·exact this
end Tr
namespace Tr
open Go
open Cy (GC)
theorem sC {w:World} {b o T:Nat} {c:Array Value} {fz:Nat × Nat} (P:Program) (hh:w.heap[b]?=some (.cells c T fz)) (hu:dU c fz) (vs:List Value) (hl:o+vs.length<=c.size) (h1:∀v∈vs,v.oneCell'=true):w.setCells b o vs=w.setRow b (splice c o vs):=by
 have a:=bK P b o T fz vs 0 c w hh hu (by omega) h1
 have e:=run_storeCells_cells (P:=P) b o vs 0 w (fun j hj=>by
  rw [gQ hh,Array.getElem?_eq_getElem (by omega)]; rfl) (fun j hj=>by
  have:=hu (o+0+j) (by omega)
  unfold World.frozen?
  rw [hh]
  exact this) h1
 rw [a] at e
 injection e with e1 e2
 rw [Nat.add_zero] at e2
 exact e2.symm
theorem FD:(Try.prog.info? 51).map (·.size)=some 2:=by kernel_rfl
theorem IF:(Try.prog.info? 3).map (·.size)=some 1:=by kernel_rfl
theorem Br:Try.prog.follows .mixedOrders=true:=by kernel_rfl
theorem E7 (b ao n cap i j:Nat) (w:World) (ad:Addr) (news:List Value) (hij:i<j) (hjn:j<=n) (hn:n<=cap)
  (had:(if cap=j then some (⟨b,ao,none⟩:Addr) else some ⟨b,ao+j*2,none⟩)=some ad)
  (s1:news.length=(n-j)*2) (s0:∀t u,news[t]?=some u->w.drew.cell? (ad.add t)=some u) (s2:∀u∈news,u.oneCell'=true)
  (s3:∀t,t<news.length->(w.drew.cell? ⟨b,ao+i*2+t,none⟩).isSome=true/\w.drew.frozen? ⟨b,ao+i*2+t,none⟩=false) (W1 W2:World) (hW:W1=w.drew.setCells b (ao+i*2) news)
  (hcl:∀ty,(Builtin.clear_ #[22] ty #[.slice (some ⟨b,ao+(i+(n-j))*2,none⟩) (n-(i+(n-j))) (cap-(i+(n-j)))]).run Try.prog W1=.ok (.tuple #[]) W2) :
  Calls Try.prog 53 #[.slice (some ⟨b,ao,none⟩) n cap,.int .i64 i,.int .i64 j] w fun e w'=>e=.returned (.slice (some ⟨b,ao,none⟩) (i+(n-j)) cap)/\w'=W2:=by
 have mixed:=Br
 obtain ⟨i0,hi,hz1⟩:∃i0,Try.prog.info? 51=some i0/\i0.size=2:=by
  have h:=FD
  cases e:Try.prog.info? 51 with
  | none=>rw [e] at h; cases h
  | some i0=>rw [e] at h; injection h with h; exact ⟨i0,rfl,h⟩
 have hic:i<=cap:=by omega
 have hjc:j<=cap:=by omega
 have hW':RowKit.Hid (W1=w.drew.setCells b (ao+i*2) news):=hW
 clear hW
 go_enter Try.func53,Try.ntmps53
 go_wp2_with fail
 go_region_law_o (refine step_append_room rfl (.tmp 22) (.tmp 25) 22 rfl 51 i0 2 Try.underlying22 hi hz1 b ao i cap (by simp [Act.eval,Act.put]) ad (n-j) (cap-j) news (by simp [Act.eval,Act.put]) s1 s0 s2 (by omega) s3 ?_; rw [<-hW'.out])
 go_wp2
 go_ret
 exact ⟨rfl,rfl⟩
theorem E6 (b ao n cap i j:Nat) (w:World) (ad:Addr) (news:List Value) (hij:i<j) (hjn:j<=n) (hn:n<=cap)
  (had:(if cap=j then some (⟨b,ao,none⟩:Addr) else some ⟨b,ao+j,none⟩)=some ad)
  (s1:news.length=(n-j)*1) (s0:∀t u,news[t]?=some u->w.drew.cell? (ad.add t)=some u) (s2:∀u∈news,u.oneCell'=true)
  (s3:∀t,t<news.length->(w.drew.cell? ⟨b,ao+i*1+t,none⟩).isSome=true/\w.drew.frozen? ⟨b,ao+i*1+t,none⟩=false) (W1 W2:World) (hW:W1=w.drew.setCells b (ao+i*1) news)
  (hcl:∀ty,(Builtin.clear_ #[25] ty #[.slice (some ⟨b,ao+(i+(n-j)),none⟩) (n-(i+(n-j))) (cap-(i+(n-j)))]).run Try.prog W1=.ok (.tuple #[]) W2) :
  Calls Try.prog 55 #[.slice (some ⟨b,ao,none⟩) n cap,.int .i64 i,.int .i64 j] w fun e w'=>e=.returned (.slice (some ⟨b,ao,none⟩) (i+(n-j)) cap)/\w'=W2:=by
 have mixed:=Br
 obtain ⟨i0,hi,hz1⟩:∃i0,Try.prog.info? 3=some i0/\i0.size=1:=by
  have h:=IF
  cases e:Try.prog.info? 3 with
  | none=>rw [e] at h; cases h
  | some i0=>rw [e] at h; injection h with h; exact ⟨i0,rfl,h⟩
 have hic:i<=cap:=by omega
 have hjc:j<=cap:=by omega
 have hW':RowKit.Hid (W1=w.drew.setCells b (ao+i*1) news):=hW
 clear hW
 go_enter Try.func55,Try.ntmps55
 go_wp2_with fail
 go_region_law_o (refine step_append_room rfl (.tmp 22) (.tmp 25) 25 rfl 3 i0 1 Try.underlying25 hi hz1 b ao i cap (by simp [Act.eval,Act.put]) ad (n-j) (cap-j) news (by simp [Act.eval,Act.put]) s1 s0 s2 (by omega) s3 ?_; rw [<-hW'.out])
 go_wp2
 go_ret
 exact ⟨rfl,rfl⟩
end Tr
namespace Tr
open Go
open Cy (GC)
def pi (es:List AV) (i:Nat) (za:AV):List AV:=es.take i++es.drop (i+1)++[za]
theorem mS {es:List AV} {i:Nat} (h:i<es.length) (za:AV):(pi es i za).length=es.length:=by simp [pi]; omega
theorem AY {es:List AV} {i:Nat} (h:i<es.length) (za:AV) (k:Nat) (hk:k<(pi es i za).length):(pi es i za)[k]=if h1:k<i then es[k] else if h2:k+1<es.length then es[k+1] else za:=by
 have hl:=mS h za
 have e:(pi es i za)[k]?=some (if h1:k<i then es[k] else if h2:k+1<es.length then es[k+1] else za):=by
  unfold pi
  by_cases h1:k<i
  ·rw [dif_pos h1,List.append_assoc,List.getElem?_append_left (by simp; omega),List.getElem?_take,if_pos h1,List.getElem?_eq_getElem (by omega)]
  ·rw [dif_neg h1]
   by_cases h2:k+1<es.length
   ·rw [dif_pos h2,List.append_assoc,List.getElem?_append_right (by simp; omega),List.getElem?_append_left (by simp; omega),List.getElem?_drop]
    simp only [List.length_take]
    rw [show i+1+(k-min i es.length)=k+1 by omega,List.getElem?_eq_getElem h2]
   ·rw [dif_neg h2,List.getElem?_append_right (by simp; omega)]
    have:k-(es.take i++es.drop (i+1)).length=0:=by simp; omega
    rw [this]; rfl
 rw [List.getElem?_eq_getElem hk] at e
 injection e
def gn (c:Array Value) (o sz n i:Nat):List Value:=(c.toList.drop (o+(i+1)*sz)).take ((n-(i+1))*sz)
def c1C (c:Array Value) (o sz n i:Nat):Array Value:=splice c (o+i*sz) (gn c o sz n i)
def c2C (c:Array Value) (o sz n i:Nat) (zs:List Value):Array Value:=splice (c1C c o sz n i) (o+(n-1)*sz) zs
section
variable {c:Array Value} {o sz n i:Nat} {zs:List Value}
theorem jG (hi:i<n) (hl:o+n*sz<=c.size):(gn c o sz n i).length=(n-(i+1))*sz:=by
 unfold gn
 rw [List.length_take,List.length_drop,Array.length_toList]
 have:n*sz=(i+1)*sz+(n-(i+1))*sz:=by rw [<-Nat.add_mul]; congr 1; omega
 omega
theorem jH (q:Nat) (hq:q<(n-(i+1))*sz):(gn c o sz n i)[q]?=c[o+(i+1)*sz+q]?:=by
 unfold gn
 rw [List.getElem?_take,if_pos hq,List.getElem?_drop,Array.getElem?_toList]
theorem gC (hi:i<n):n*sz=i*sz+sz+(n-(i+1))*sz/\(i+1)*sz=i*sz+sz/\(n-1)*sz=i*sz+(n-(i+1))*sz:=by
 refine ⟨?_,by rw [Nat.add_mul,Nat.one_mul],?_⟩
 ·have:n=i+1+(n-(i+1)):=by omega
  conv=>lhs; rw [this,Nat.add_mul,Nat.add_mul,Nat.one_mul]
 ·rw [<-Nat.add_mul]; congr 1; omega
theorem mT (hi:i<n) (hl:o+n*sz<=c.size):(c1C c o sz n i).size=c.size/\o+i*sz+(gn c o sz n i).length<=c.size:=by
 have h:=jG hi hl
 obtain ⟨m1,m2,m3⟩:=gC (sz:=sz) hi
 have:o+i*sz+(gn c o sz n i).length<=c.size:=by rw [h]; omega
 exact ⟨bR _ _ _ this,this⟩
theorem qW (hi:i<n) (hl:o+n*sz<=c.size) (hz:zs.length=sz):(c2C c o sz n i zs).size=c.size/\o+(n-1)*sz+zs.length<=(c1C c o sz n i).size:=by
 obtain ⟨h1,h2⟩:=mT hi hl
 obtain ⟨m1,m2,m3⟩:=gC (sz:=sz) hi
 have:o+(n-1)*sz+zs.length<=(c1C c o sz n i).size:=by rw [h1,hz]; omega
 exact ⟨by unfold c2C; rw [bR _ _ _ this,h1],this⟩
end
section
variable {w:World} {OK:Nat->Prop} {g:ay} {A:aa}
theorem yg (hA:bX w OK g A) {id sz:Nat} {es:List AV} (hid:A[id]?=some (.row sz false es)) {inc:Inc} (hinc:inc∈g id) {i:Nat} (hi:i<es.length) (hpos:0<sz) {zv:Value} {za:AV} (hz:∀(w:World) (OK:Nat->Prop) (g:ay),aK w OK g zv za) (hzc:zv.cells.size=sz) (hzo:cj zv) :
  inc.esz=sz/\inc.n=es.length/\∃c T fz,w.heap[inc.b]?=some (.cells c T fz)/\dU c fz/\inc.o+es.length*sz<=c.size/\(∀u∈gn c inc.o sz es.length i,u.oneCell'=true) /\
   bX ((w.setRow inc.b (c1C c inc.o sz es.length i)).setRow inc.b (c2C c inc.o sz es.length i zv.cells.toList)) OK g (A.set id (.row sz false (pi es i za))) /\
   Ext w OK g ((w.setRow inc.b (c1C c inc.o sz es.length i)).setRow inc.b (c2C c inc.o sz es.length i zv.cells.toList)) OK g:=by
 obtain ⟨hlt',hrow⟩:=List.getElem?_eq_some_iff.1 hid
 have hdead:A[id]?≠some Ent.dead:=by rw [hid]; simp
 have hent:=hA.ent id hlt'
 rw [hrow] at hent
 obtain ⟨h0,hinv⟩:=hent
 obtain ⟨hone,hnn⟩:=h0 rfl
 obtain ⟨hesz,hne,hnc,c,T,fz,hh,hu,hcs,hel⟩:=hinv inc hinc
 have hnn':=hnn inc hinc
 have hle:inc.o+es.length*sz<=c.size:=by
  have:es.length*sz<=inc.cap*sz:=Nat.mul_le_mul_right _ (by omega)
  omega
 have hzl:zv.cells.toList.length=sz:=by rw [Array.length_toList,hzc]
 obtain ⟨k1,k2⟩:=mT (c:=c) (o:=inc.o) (sz:=sz) hi hle
 obtain ⟨k3,k4⟩:=qW (c:=c) (o:=inc.o) (sz:=sz) (zs:=zv.cells.toList) hi hle hzl
 obtain ⟨m1,m2,m3⟩:=gC (n:=es.length) (sz:=sz) hi
 have hnl:=jG (c:=c) (o:=inc.o) (sz:=sz) hi hle
 have hxe:∀x∈g id,x=inc:=fun x hx=>by
  match hgi:g id,hone,hx,hinc with
  | [],_,hx,_=>cases hx
  | [y],_,hx,hinc=>simp at hx hinc; rw [hx,hinc]
  | _ :: _ :: _,ho,_,_=>simp at ho
 have hnews:∀u∈gn c inc.o sz es.length i,u.oneCell'=true:=by
  intro u hu'
  obtain ⟨q,hq,rfl⟩:=List.mem_iff_getElem.1 hu'
  have hq':q<(es.length-(i+1))*sz:=by rw [<-hnl]; exact hq
  have e:=jH (c:=c) (o:=inc.o) (sz:=sz) (n:=es.length) (i:=i) q hq'
  rw [List.getElem?_eq_getElem hq] at e
  have hdm:q / sz*sz+q % sz=q:=by rw [Nat.mul_comm]; exact Nat.div_add_mod q sz
  have hr:=Nat.mod_lt q hpos
  have hqd:q / sz<es.length-(i+1):=(Nat.div_lt_iff_lt_mul hpos).2 hq'
  obtain ⟨v,_,v2,v3,v4⟩:=hel (i+1+q / sz) (by omega) (by omega)
  have v4:=v4 (q % sz) hr
  have e2:inc.o+(i+1+q / sz)*sz+q % sz=inc.o+(i+1)*sz+q:=by rw [Nat.add_mul]; omega
  rw [e2,<-e] at v4
  have hlt:q % sz<v.cells.size:=by omega
  rw [Array.getElem?_eq_getElem hlt] at v4
  injection v4 with v4
  rw [v4]
  exact v3 _ (by simp)
 have hhr:∀b,b≠inc.b->((w.setRow inc.b (c1C c inc.o sz es.length i)).setRow inc.b (c2C c inc.o sz es.length i zv.cells.toList)).heap[b]?=w.heap[b]?:=fun b hb=>by rw [setRow_other _ inc.b b _ hb,setRow_other w inc.b b _ hb]
 have hrow2:((w.setRow inc.b (c1C c inc.o sz es.length i)).setRow inc.b (c2C c inc.o sz es.length i zv.cells.toList)).heap[inc.b]?=some (.cells (c2C c inc.o sz es.length i zv.cells.toList) T fz):=setRow_heap _ inc.b _ _ T fz (setRow_heap w inc.b c _ T fz hh)
 refine ⟨hesz,hnn',c,T,fz,hh,hu,hle,hnews,?_⟩
 refine hA.turn (w':=(w.setRow inc.b (c1C c inc.o sz es.length i)).setRow inc.b (c2C c inc.o sz es.length i zv.cells.toList)) (g':=g) id hlt' hdead inc hinc (by simp) rfl rfl rfl hhr (fun r hr _=>by rw [hh] at hr; cases hr) g.le_refl (fun _ _=>rfl) (fun i hi=>⟨i,hi,rfl⟩)
  (fun i i' hi hi' e=>(hA.one id id i i' hdead hdead hi hi' e).2) (.row sz false (pi es i za)) (fun hokb=>?_) (fun _=>rfl)
 refine ⟨fun _=>⟨hone,fun x hx=>by rw [mS hi]; exact hnn x hx⟩,fun x hx=>?_⟩
 obtain rfl:=hxe x hx
 refine ⟨hesz,by rw [mS hi]; exact hne,hnc,_,T,fz,hrow2,?_,by rw [k3]; exact hcs,fun k hk hkn=>?_⟩
 ·exact bI (bI hu _ _ k2) _ _ k4
 have hk':k<es.length:=by rw [mS hi] at hk; exact hk
 rw [AY hi za k hk]
 by_cases c1:k<i
 ·rw [dif_pos c1]
  have hks:(k+1)*sz<=i*sz:=Nat.mul_le_mul_right _ c1
  rw [Nat.add_mul,Nat.one_mul] at hks
  refine bW.mono (bW.splice_out (bW.splice_out (hel k hk' (by omega)) k2 (.inl (by omega))) k4 (.inl (by omega))) (fun _ h=>h) hokb g.le_refl
 ·rw [dif_neg c1]
  by_cases c2:k+1<es.length
  ·rw [dif_pos c2]
   obtain ⟨v,v1,v2,v3,v4⟩:=hel (k+1) c2 (by omega)
   refine ⟨v,v1.mono (fun _ h=>h) hokb g g.le_refl,v2,v3,fun q hq=>?_⟩
   have e1:(k+1)*sz=k*sz+sz:=by rw [Nat.add_mul,Nat.one_mul]
   have e2:k*sz=i*sz+(k-i)*sz:=by rw [<-Nat.add_mul]; congr 1; omega
   have e3:(k+1)*sz<=(es.length-1)*sz:=Nat.mul_le_mul_right _ (by omega)
   unfold c2C
   rw [splice_out _ _ _ k4 _ (.inl (by omega))]
   have hqn:(k-i)*sz+q<(gn c x.o sz es.length i).length:=by omega
   have e5:x.o+k*sz+q=x.o+i*sz+((k-i)*sz+q):=by omega
   unfold c1C
   rw [e5,cV _ _ _ k2 _ hqn,jH _ (by omega)]
   have v4:=v4 q hq
   rw [show x.o+(i+1)*sz+((k-i)*sz+q)=x.o+(k+1)*sz+q by omega]
   exact v4
  ·rw [dif_neg c2]
   refine ⟨zv,hz _ _ _,hzc,hzo,fun q hq=>?_⟩
   unfold c2C
   have:k=es.length-1:=by omega
   subst this
   rw [cV _ _ _ k4 q (by omega)]
   simp
end
end Tr
end Go.Proofs.Ytkcjhljbgjpklaa
