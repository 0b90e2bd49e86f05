import Derived.Test.YtkcjhljbgjpklaaGreatVZ09
import Derived.Test.YtkcjhljbgjpklaaGreatVZ03
import Derived.Test.YtkcjhljbgjpklaaGreatChecked
import Derived.KernelRfl
set_option maxRecDepth 100000
set_option maxHeartbeats 4000000
noncomputable section
namespace Go.Proofs.YtkcjhljbgjpklaaGreat
open Tryz (prog)
variable {d0 d1 v2 d5 v7 d15 d16 d17 d18 d19 d20 chv ov d14 v8 d12 d13 d11 v3 v4 d6 d21 d22 v9 d10 d9 v10 v sv d3 d4 v6 v11 v21 v22 v23 d24 d28 d29 d8 v12 v13 yv xv:AV} {i n fuel:Nat} {A:ac} {o c:List Int} {E:Env} {p free:Int}
namespace Rc
open Go
open Cy
def gJ:List (FuncId × aJ):=[(92,aE 4 M28),(93,aE 4 M32),(94,aE 4 M39)]
@[simp] theorem P4:aD gJ 92=some (aE 4 M28):=rfl
@[simp] theorem PZ:aD gJ 93=some (aE 4 M32):=rfl
@[simp] theorem PY:aD gJ 94=some (aE 4 M39):=rfl
theorem tI:∀f M,aD gJ f=some M->au prog GC f M:=ag (au.of_pure AI 4) (ag (au.of_pure jn 4) (ag (au.of_pure AF 4) aB))
theorem m39 {n:Int} {a:bq} (hn:n<=32) (h:okA n a) (hp:cA p):M39 [.agg [.z a.f,.z a.t,.z a.w,.z a.k],.z p]=some (.z (a.len p)):=by
 have h32:okA 32 a:=by
  obtain ⟨h1,h2,h3,h4⟩:=h
  exact ⟨by omega,by omega,h3,h4⟩
 exact SA ⟨h32,hp⟩
theorem o8 (fuel:Nat) (A:ac) {s:List Int} {b:AV} (hb:SlA 1 (ak s) b) (hsl:s.length=n) (hn:n<=32) (hi:i<n) (x p:AV) :
  run (aq GC gJ) fuel [.code dM] (fZ (.z (n:Int)) x p b (.z (i:Int))) A =
   if 0<=s.getD i 0/\s.getD i 0<=1000000000 then some (.normal (fZ (.z (n:Int)) x p b (.z ((i+1:Nat):Int))) A) else some (.ret [.z (n:Int),x,p,b,.f,.u,.z (i:Int),.u,.u,.t,.t,.u,.u] A):=by
 have b1:=be i n .i64
 rw [Su hi] at b1
 have b3:=aP i (by omega)
 have x1:=hb.int (A:=A) _ _ (Sq (show i<s.length by omega)) .i64
 have hg1:s.getD i 0=s[i]:=by rw [Sr,Sq (by omega)]; rfl
 rw [<-hg1] at x1
 have m:=fC (s.getD i 0) 0 1000000000
 obtain ⟨z,hz⟩:∃z,z=s.getD i 0:=⟨_,rfl⟩
 rw [<-hz] at x1 m ⊢
 obtain ⟨i1,hi1⟩:∃i1:Nat,i1=i+1:=⟨_,rfl⟩
 rw [<-hi1] at b3 ⊢
 by_cases h:0<=z/\z<=1000000000
 ·rw [SA h]
  rw [Su h] at m
  simp [dM,b1,b3,x1,m,-af,-ae]
 ·rw [SD h]
  rw [Ss h] at m
  simp [dM,b1,x1,m,-af,-ae]
theorem o7 (fuel:Nat) (A:ac) {s:List Int} {a b:AV} {l:List bq} (ha:bT a=some l) (hb:SlA 1 (ak s) b) {n:Nat} (hsl:s.length=n) (hn:n<=32) (hp:cA p) (hv:∀x∈l,okA n x) (hs:∀x∈s,0<=x/\x<=1000000000) (hi:i<l.length) :
  run (aq GC gJ) fuel [.code eu] (fY a (.z p) b (.z (i:Int))) A =
   if s.getD l[i].f.toNat 0+l[i].len p<=s.getD l[i].t.toNat 0 then some (.normal (fY a (.z p) b (.z ((i+1:Nat):Int))) A) else some (.ret [.u,a,.z p,b,.f,.u,.u,.z (i:Int),.u,.u,.u,.t,.t] A):=by
 obtain ⟨hl,hm⟩:=eP ha
 have x1:=iF ha hi A .i64
 have b1:=be i l.length .i64
 rw [Su hi] at b1
 have b3:=aP i (by omega)
 have hok:=hv _ (SC hi)
 obtain ⟨f,hf,hfn⟩:=l8 hok.1
 obtain ⟨t,ht,htn⟩:=l8 hok.2.1
 have m:=m39 (by omega) hok hp
 have hle:=gA (n:=32) (a:=l[i]) ⟨by have:=hok.1; omega,by have:=hok.2.1; omega,hok.2.2.1,hok.2.2.2⟩ hp
 have e1:l[i].f.toNat=f:=by omega
 have e2:l[i].t.toNat=t:=by omega
 rw [e1,e2]
 rw [hf,ht] at x1 m
 have hfs:f<s.length:=by omega
 have hts:t<s.length:=by omega
 have y1:=hb.int (A:=A) _ _ (Sq hfs) .i64
 have y2:=hb.int (A:=A) _ _ (Sq hts) .i64
 have hg1:s.getD f 0=s[f]:=by rw [Sr,Sq hfs]; rfl
 have hg2:s.getD t 0=s[t]:=by rw [Sr,Sq hts]; rfl
 have h1:=hs _ (SC hfs)
 rw [<-hg1] at y1 h1
 rw [<-hg2] at y2
 obtain ⟨w,hw⟩:∃w,w=l[i].len p:=⟨_,rfl⟩
 rw [<-hw] at m hle ⊢
 have b2:=LC (a:=s.getD f 0) (b:=w) (by omega)
 have b4:=QO (s.getD t 0) (s.getD f 0+w)
 obtain ⟨z,hz⟩:∃z,z=s.getD f 0:=⟨_,rfl⟩
 obtain ⟨y,hy⟩:∃z,z=s.getD t 0:=⟨_,rfl⟩
 rw [<-hz] at y1 b2 b4 ⊢
 rw [<-hy] at y2 b4 ⊢
 obtain ⟨zw,hzw⟩:∃zw,zw=z+w:=⟨_,rfl⟩
 rw [<-hzw] at b2 b4 ⊢
 obtain ⟨i1,hi1⟩:∃i1:Nat,i1=i+1:=⟨_,rfl⟩
 rw [<-hi1] at b3 ⊢
 by_cases h:zw<=y
 ·rw [SA h]
  rw [Ss (by omega)] at b4
  simp [eu,hl,b1,b2,b3,b4,x1,y1,y2,m,-af,-ae,-aj]
 ·rw [SD h]
  rw [Su (by omega)] at b4
  simp [eu,hl,b1,b2,b4,x1,y1,y2,m,-af,-ae,-aj]
open Classical in
theorem AM:aw prog GC 59 M19:=by
 refine aw.of_ev (E:=aq GC gJ) (ax tI) rfl (by kernel_rfl) Ct 1 ?_
 intro args r h
 unfold M19 at h
 split at h
 rotate_left
 ·cases h
 rename_i n a p b
 split at h
 rotate_left
 ·cases h
 rename_i l s hl hs
 injection h with h; subst h
 refine ⟨300,?_⟩
 obtain ⟨hb,_,hsl⟩:=eJ hs
 have f1:∀A n,frz A n a=a:=fun A n=>dX hl A n
 have f3:=dS hl
 have m1:M28 [.z n,a,.z p]=some (.bool (decide (bS n l p))):=by simp only [M28,hl,Th]
 have hlen:=hb.len
 have hlen':(s.map (AV.int .i64)).length=s.length:=by simp
 rw [hlen'] at hlen
 rw [aO _ _ rfl]
 by_cases hr:bS n l p
 rotate_left
 ·rw [Ss hr] at m1
  rw [Ss (show ¬ dG n l p s from fun h=>hr h.1)]
  simp [Bk,f1,f3,m1,aM,aV,br,-frz,-aj]
 rw [Su hr] at m1
 obtain ⟨m,rfl⟩:∃m:Nat,n=(m:Int):=⟨n.toNat,by have:=hr.1.1; omega⟩
 have b1:=LA (s.length:Int) m
 by_cases h1:(s.length:Int)=(m:Int)
 rotate_left
 ·rw [Su h1] at b1
  rw [Ss (show ¬ dG m l p s from fun h=>h1 h.2.1)]
  simp [Bk,f1,f3,m1,hlen,b1,aM,aV,br,-frz,-aj,-af]
 rw [Ss (not_not_intro h1)] at b1
 have hm32:=hr.1.1
 have hsm:s.length=m:=by omega
 have lp1:=bU (E:=aq GC gJ) (fuel:=300) (a:=dM) (mask:=eE) (fun i=>fZ (.z (m:Int)) a (.z p) b (.z (i:Int))) (fun _=>[]) m (fun i=>¬ (0<=s.getD i 0/\s.getD i 0<=1000000000))
  (oF:=fun i=>.ret [.z (m:Int),a,.z p,b,.f,.u,.z (i:Int),.u,.u,.t,.t,.u,.u] []) (oE:=.exit 0 ((fZ (.z (m:Int)) a (.z p) b (.z (m:Int))).set 9 .f) [])
  (fun _=>ta) (fun _ _ _ h=>by cases h) (fun _ _ h=>by cases h)
  (fun i hi hp=>by
   rw [o8 _ [] hb hsm (by omega) hi]
   exact SA (SI.1 hp))
  (fun i hi hp=>by
   rw [o8 _ [] hb hsm (by omega) hi]
   exact SD hp)
  (by simp [dM]) (show m<300 by omega)
 have hsr:s.length<=32:=by omega
 have hrange:(∀i,i<m->¬ ¬ (0<=s.getD i 0/\s.getD i 0<=1000000000))↔∀x∈s,0<=x/\x<=1000000000:=by
  constructor
  ·intro h x hx
   obtain ⟨i,hi,rfl⟩:=Tb.1 hx
   have:=SI.1 (h i (by omega))
   rw [Sr,Sq hi] at this
   exact this
  ·intro h i hi
   refine not_not_intro ?_
   rw [Sr,Sq (by omega)]
   exact h _ (SC _)
 rcases lp1 with ⟨i,hi,hp,hj,lp1⟩ | ⟨hp,lp1⟩
 ·have lp1:bG (evC (aq GC gJ) 300 dM) eE 300 (fZ (.z (m:Int)) a (.z p) b (.z 0)) []=_:=lp1
  rw [Ss (show ¬ dG m l p s from fun h=>(hrange.2 h.2.2.1 i hi) hp)]
  simp [Bk,f1,f3,m1,hlen,b1,vr lp1,aM,aV,br,-frz,-aj,-af]
 have lp1:bG (evC (aq GC gJ) 300 dM) eE 300 (fZ (.z (m:Int)) a (.z p) b (.z 0)) []=_:=lp1
 have hin:=hrange.1 hp
 have lp2:=bU (E:=aq GC gJ) (fuel:=300) (a:=eu) (mask:=eD) (fun i=>fY a (.z p) b (.z (i:Int))) (fun _=>[]) l.length (fun i=>¬ ∀c,l[i]?=some c->s.getD c.f.toNat 0+c.len p<=s.getD c.t.toNat 0)
  (oF:=fun i=>.ret [.u,a,.z p,b,.f,.u,.u,.z (i:Int),.u,.u,.u,.t,.t] []) (oE:=.exit 2 ((fY a (.z p) b (.z (l.length:Int))).set 11 .f) [])
  (fun _=>s9) (fun _ _ _ h=>by cases h) (fun _ _ h=>by cases h)
  (fun i hi hp=>by
   rw [o7 _ [] hl hb hsm (by omega) hr.2 hr.1.2.2 hin hi]
   exact SA (SI.1 hp _ (Sq hi)))
  (fun i hi hp=>by
   rw [o7 _ [] hl hb hsm (by omega) hr.2 hr.1.2.2 hin hi]
   exact SD fun h=>hp fun c hc=>by
    rw [Sq hi] at hc
    injection hc with hc
    rw [<-hc]; exact h)
  (by simp [eu,(eP hl).1,-aj]) (show l.length<300 by have:=hr.1.2.1; omega)
 rcases lp2 with ⟨i,hi,hp2,hj,lp2⟩ | ⟨hp2,lp2⟩
 ·have lp2:bG (evC (aq GC gJ) 300 eu) eD 300 (fY a (.z p) b (.z 0)) []=_:=lp2
  rw [Ss (show ¬ dG m l p s from fun h=>hp2 fun c hc=>h.2.2.2 _ (SU.2 ⟨c,TF hc,rfl⟩))]
  simp [Bk,f1,f3,m1,hlen,b1,vr lp1,yz lp2,aM,aV,br,-frz,-aj,-af]
 ·have lp2:bG (evC (aq GC gJ) 300 eu) eD 300 (fY a (.z p) b (.z 0)) []=_:=lp2
  rw [Su (show dG m l p s from ⟨hr,h1,hin,fun x hx=>by
   obtain ⟨c,hc,rfl⟩:=SU.1 hx
   obtain ⟨i,hi,rfl⟩:=Tb.1 hc
   exact SI.1 (hp2 i hi) _ (Sq hi)⟩)]
  simp [Bk,f1,f3,m1,hlen,b1,vr lp1,yz lp2,aM,aV,br,-frz,-aj,-af]
end Rc
namespace Rc
open Go
open Cy
def rf (l:List bq):List Int->Int->Prop
 | [],_=>True
 | x :: r,at_=>(jK l x).f=at_/\rf l r (jK l x).t
def xN (p:Int) (l:List bq) (xs:List Int):Int:=(xs.map fun x=>(jK l x).len p).sum
theorem qL (p:Int) (l:List bq):∀(xs:List Int) (at_ s t:Int),(rf l xs at_/\∃t',exL p l xs at_ s t=some (s+xN p l xs,t'))\/(¬ rf l xs at_/\exL p l xs at_ s t=none)
 | [],at_,s,t=>.inl ⟨trivial,t,by simp [exL,xN]⟩
 | x :: r,at_,s,t=>by
  by_cases h:(jK l x).f=at_
  ·rcases qL p l r (jK l x).t (s+(jK l x).len p) (t+(jK l x).k) with ⟨h1,t',h2⟩ | ⟨h1,h2⟩
   ·refine .inl ⟨⟨h,h1⟩,t',?_⟩
    rw [exL,SA h,h2]
    simp only [xN,Tw,UL]
    congr 2; omega
   ·refine .inr ⟨fun h'=>h1 h'.2,?_⟩
    rw [exL,SA h,h2]
  ·refine .inr ⟨fun h'=>h h'.1,?_⟩
   rw [exL,SD h]
theorem td (l:List bq):∀(xs:List Int) (at_:Int),rf l xs at_↔(∀x,xs[0]?=some x->(jK l x).f=at_)/\∀i x y,xs[i]?=some x->xs[i+1]?=some y->(jK l y).f=(jK l x).t
 | [],at_=>by simp [rf]
 | x :: r,at_=>by
  unfold rf
  rw [td l r]
  constructor
  ·rintro ⟨h1,h2,h3⟩
   refine ⟨fun y hy=>by simp at hy; rw [<-hy]; exact h1,fun i a b ha hb=>?_⟩
   cases i with
   | zero=>
    have ha':x=a:=by simpa using ha
    have hb':r[0]?=some b:=hb
    rw [<-ha']; exact h2 b hb'
   | succ i=>exact h3 i a b (by simpa using ha) (by simpa using hb)
  ·rintro ⟨h1,h2⟩
   exact ⟨h1 x rfl,fun y hy=>h2 0 x y rfl (by simpa using hy),fun i a b ha hb=>h2 (i+1) a b (by simpa using ha) (by simpa using hb)⟩
def nxt (k i:Nat):Nat:=if i+1=k then 0 else i+1
def zC (l:List bq) (xs:List Int):Prop:=∀i x y,xs[i]?=some x->xs[nxt xs.length i]?=some y->(jK l x).t=(jK l y).f
theorem x9 (l:List bq) (xs:List Int) (h:1<=xs.length):zC l xs↔rf l xs (jK l (xs.getLastD 0)).t:=by
 rw [td]
 have hlast:xs.length-1<xs.length:=by omega
 have hgl:xs.getLastD 0=xs[xs.length-1]:=by
  rw [List.getLastD_eq_getLast?,List.getLast?_eq_getElem?,Sq hlast]; rfl
 constructor
 ·intro hr
  refine ⟨fun x hx=>?_,fun i x y hx hy=>?_⟩
  ·rw [hgl]
   exact (hr (xs.length-1) _ x (Sq hlast) (by rw [nxt,SA (by omega)]; exact hx)).symm
  ·have hi:=(Sp.1 hy).1
   exact (hr i x y hx (by rw [nxt,SD (by omega)]; exact hy)).symm
 ·rintro ⟨h1,h2⟩ i x y hx hy
  have hi:=(Sp.1 hx).1
  by_cases hk:i+1=xs.length
  ·rw [nxt,SA hk] at hy
   have:=h1 y hy
   rw [hgl] at this
   have e:xs[xs.length-1]=x:=by
    obtain ⟨_,e⟩:=Sp.1 hx
    rw [<-e]; congr 1; omega
   rw [e] at this
   exact this.symm
  ·rw [nxt,SD hk] at hy
   exact (h2 i x y hx hy).symm
theorem A6 {n:Int} {l:List bq}:ey n l p c↔bS n l p/\(1<=c.length/\c.length<=200)/\mN l c/\zC l c/\0<xN p l c:=by
 unfold ey exM
 constructor
 ·rintro ⟨hr,s,t,h1,h2⟩
  simp only [Sw] at h1
  obtain ⟨⟨h3,h4⟩,h5⟩:=h1
  rcases qL p l c (jK l (c.getLastD 0)).t 0 0 with ⟨k1,t',k2⟩ | ⟨k1,k2⟩
  ·rw [k2] at h5
   injection h5 with h5
   injection h5 with h5 h6
   exact ⟨hr,h3,h4,(x9 l c h3.1).2 k1,by omega⟩
  ·rw [k2] at h5; cases h5
 ·rintro ⟨hr,h3,h4,h5,h6⟩
  refine ⟨hr,?_⟩
  rcases qL p l c (jK l (c.getLastD 0)).t 0 0 with ⟨k1,t',k2⟩ | ⟨k1,k2⟩
  ·refine ⟨_,_,by rw [SA ⟨h3,h4⟩,k2],by omega⟩
  ·exact absurd ((x9 l c h3.1).1 h5) k1
theorem QN (k i:Nat) (h:i<k) (_hk:k<=1000):af .rem (.z ((i+1:Nat):Int)) (.z (k:Int))=some (.z ((nxt k i:Nat):Int)):=by
 simp only [af]
 rw [SA trivial,SD (show ¬ (k:Int)=0 by omega)]
 have:((i+1:Nat):Int).tmod (k:Int)=((nxt k i:Nat):Int):=by
  rw [Int.tmod_eq_emod_of_nonneg (by omega)]
  unfold nxt
  split
  ·rename_i e; rw [e]; simp
  ·rename_i e; exact Int.emod_eq_of_lt (by omega) (by omega)
 rw [this]
theorem x8 (fuel:Nat) (A:ac) {a b:AV} {l:List bq} (ha:bT a=some l) (hl200:l.length<=200) (hb:SlA 1 (ak c) b) (hc:c.length<=200) (hi:i<c.length) (p:AV) :
  run (aq GC gJ) fuel [.code dL] (fX a p b (.z (i:Int))) A =
   if 0<=c.getD i 0/\c.getD i 0<=(l.length:Int)-1 then some (.normal (fX a p b (.z ((i+1:Nat):Int))) A) else some (.ret [.u,a,p,b,.f,.u,.z (i:Int),.u,.u,.u,.u,.t,.t,.u,.u] A):=by
 obtain ⟨hl,hm⟩:=eP ha
 have hlc:=hb.len
 rw [az] at hlc
 have b1:=be i c.length .i64
 rw [Su hi] at b1
 have b3:=aP i (by omega)
 have x1:=hb.int (A:=A) _ _ (Sq hi) .i64
 have hg1:c.getD i 0=c[i]:=by rw [Sr,Sq hi]; rfl
 rw [<-hg1] at x1
 have b2:=QM (a:=(l.length:Int)) (b:=1) (by omega)
 have m:=fC (c.getD i 0) 0 ((l.length:Int)-1)
 obtain ⟨z,hz⟩:∃z,z=c.getD i 0:=⟨_,rfl⟩
 rw [<-hz] at x1 m ⊢
 obtain ⟨q,hq⟩:∃q,q=(l.length:Int)-1:=⟨_,rfl⟩
 rw [<-hq] at b2 m ⊢
 obtain ⟨i1,hi1⟩:∃i1:Nat,i1=i+1:=⟨_,rfl⟩
 rw [<-hi1] at b3 ⊢
 by_cases h:0<=z/\z<=q
 ·rw [SA h]
  rw [Su h] at m
  simp [dL,hl,hlc,b1,b2,b3,x1,m,-af,-ae,-aj]
 ·rw [SD h]
  rw [Ss h] at m
  simp [dL,hl,hlc,b1,b2,x1,m,-af,-ae,-aj]
def tG (p:Int) (l:List bq) (c:List Int) (i:Nat):Int:=xN p l (c.take i)
theorem uE (p:Int) (l:List bq) (c:List Int) (hi:i<c.length):tG p l c (i+1)=tG p l c i+(jK l c[i]).len p:=by
 unfold tG xN; rw [Tu hi,TD,List.sum_append]; simp only [Tw,U9,UL,List.sum_nil]; omega
theorem Aw {n:Int} {l:List bq} (hn:n<=32) (hp:cA p) (hv:∀x∈l,okA n x) (hin:mN l c):∀i,i<=c.length -> -(3000000*(i:Int))<=tG p l c i/\tG p l c i<=3000000*i
 | 0,_=>by simp [tG,xN]
 | i+1,h=>by
  have ih:=Aw hn hp hv hin i (by omega)
  rw [uE p l c (by omega)]
  obtain ⟨j,hj,_,he⟩:=nI (hin _ (SC (show i<c.length by omega)))
  have hok:=hv _ (SC hj)
  have hle:=gA (n:=32) (a:=l[j]) ⟨by have:=hok.1; omega,by have:=hok.2.1; omega,hok.2.2.1,hok.2.2.2⟩ hp
  rw [he]
  omega
theorem x7 (fuel:Nat) (A:ac) {a b:AV} {l:List bq} (ha:bT a=some l) {n:Int} (hn:n<=32) (hp:cA p) (hv:∀x∈l,okA n x) (hb:SlA 1 (ak c) b) (hc:c.length<=200) (hin:mN l c) (hi:i<c.length) :
  run (aq GC gJ) fuel [.code kJ] (nZ a (.z p) b (.z (tG p l c i)) (.z (i:Int))) A =
   if (jK l (c.getD i 0)).t=(jK l (c.getD (nxt c.length i) 0)).f then some (.normal (nZ a (.z p) b (.z (tG p l c (i+1))) (.z ((i+1:Nat):Int))) A) else some (.ret [.u,a,.z p,b,.f,.u,.u,.z (tG p l c i),.z (i:Int),.z (c.getD (nxt c.length i) 0),.u,.u,.u,.t,.t] A):=by
 have hlc:=hb.len
 rw [az] at hlc
 have b1:=be i c.length .i64
 rw [Su hi] at b1
 have b3:=aP i (by omega)
 have b0:=QN c.length i hi (by omega)
 have hnx:nxt c.length i<c.length:=by unfold nxt; split <;> omega
 have hbd:=Aw hn hp hv hin i (by omega)
 rw [uE p l c hi]
 have x1:=hb.int (A:=A) _ _ (Sq hi) .i64
 have x2:=hb.int (A:=A) _ _ (Sq hnx) .i64
 have hg1:c.getD i 0=c[i]:=by rw [Sr,Sq hi]; rfl
 have hg2:c.getD (nxt c.length i) 0=c[nxt c.length i]:=by rw [Sr,Sq hnx]; rfl
 rw [hg1,hg2]
 obtain ⟨j,hj,hj1,hj2⟩:=nI (hin _ (SC hi))
 obtain ⟨k,hk,hk1,hk2⟩:=nI (hin _ (SC hnx))
 rw [hj2,hk2]
 rw [hj1] at x1
 rw [hk1] at x2 ⊢
 have y1:=iF ha hj A .i64
 have y2:=iF ha hk A .i64
 have hok:=hv _ (SC hj)
 have m:=m39 hn hok hp
 have hle:=gA (n:=32) (a:=l[j]) ⟨by have:=hok.1; omega,by have:=hok.2.1; omega,hok.2.2.1,hok.2.2.2⟩ hp
 have b2:=LA l[j].t l[k].f
 obtain ⟨S,hS⟩:∃S,S=tG p l c i:=⟨_,rfl⟩
 rw [<-hS] at hbd ⊢
 obtain ⟨w,hw⟩:∃w,w=l[j].len p:=⟨_,rfl⟩
 rw [<-hw] at m hle ⊢
 have b4:=LC (a:=S) (b:=w) (by omega)
 obtain ⟨i1,hi1⟩:∃i1:Nat,i1=i+1:=⟨_,rfl⟩
 rw [<-hi1] at b3 b0 ⊢
 obtain ⟨nx,hnx1⟩:∃nx,nx=nxt c.length i:=⟨_,rfl⟩
 rw [<-hnx1] at b0 x2
 by_cases h:l[j].t=l[k].f
 ·rw [SA h]
  rw [Ss (not_not_intro h)] at b2
  simp [kJ,hlc,b0,b1,b2,b3,b4,x1,x2,y1,y2,m,-af,-ae,-aj]
 ·rw [SD h]
  rw [Su h] at b2
  simp [kJ,hlc,b0,b1,b2,b3,x1,x2,y1,y2,-af,-ae,-aj]
open Classical in
theorem p9:aw prog GC 60 M21:=by
 refine aw.of_ev (E:=aq GC gJ) (ax tI) rfl (by kernel_rfl) vU 1 ?_
 intro args r h
 unfold M21 at h
 split at h
 rotate_left
 ·cases h
 rename_i n a p b
 split at h
 rotate_left
 ·cases h
 rename_i l s hl hs
 injection h with h; subst h
 refine ⟨300,?_⟩
 obtain ⟨hb,_,hsl⟩:=eJ hs
 have f1:∀A n,frz A n a=a:=fun A n=>dX hl A n
 have f3:=dS hl
 have m1:M28 [.z n,a,.z p]=some (.bool (decide (bS n l p))):=by simp only [M28,hl,Th]
 have hlen:=hb.len
 have hlen':(s.map (AV.int .i64)).length=s.length:=by simp
 rw [hlen'] at hlen
 have m2:=fC (s.length:Int) 1 200
 rw [show decide (ey n l p s)=decide (bS n l p/\(1<=s.length/\s.length<=200)/\mN l s/\zC l s/\0<xN p l s) from by simp only [A6]]
 rw [aO _ _ rfl]
 by_cases hr:bS n l p
 rotate_left
 ·rw [Ss hr] at m1
  rw [Ss (show ¬ (bS n l p/\_) from fun h=>hr h.1)]
  simp [uW,f1,f3,m1,aM,aV,br,-frz,-aj]
 rw [Su hr] at m1
 by_cases h1:1<=s.length/\s.length<=200
 rotate_left
 ·rw [Ss (by omega)] at m2
  rw [Ss (show ¬ (bS n l p/\(1<=s.length/\s.length<=200)/\_) from fun h=>h1 h.2.1)]
  simp [uW,f1,f3,m1,hlen,m2,aM,aV,br,-frz,-aj]
 rw [Su (by omega)] at m2
 have hl200:=hr.1.2.1
 have hrange:(∀i,i<s.length->0<=s.getD i 0/\s.getD i 0<=(l.length:Int)-1)↔mN l s:=by
  constructor
  ·intro h x hx
   obtain ⟨i,hi,rfl⟩:=Tb.1 hx
   have:=h i hi
   rw [Sr,Sq hi] at this
   exact this
  ·intro h i hi
   rw [Sr,Sq hi]
   exact h _ (SC _)
 have lp1:=bU (E:=aq GC gJ) (fuel:=300) (a:=dL) (mask:=eC) (fun i=>fX a (.z p) b (.z (i:Int))) (fun _=>[]) s.length (fun i=>¬ (0<=s.getD i 0/\s.getD i 0<=(l.length:Int)-1))
  (oF:=fun i=>.ret [.u,a,.z p,b,.f,.u,.z (i:Int),.u,.u,.u,.u,.t,.t,.u,.u] []) (oE:=.exit 0 ((fX a (.z p) b (.z (s.length:Int))).set 11 .f) [])
  (fun _=>q9) (fun _ _ _ h=>by cases h) (fun _ _ h=>by cases h)
  (fun i hi hp=>by
   rw [x8 _ [] hl hl200 hb h1.2 hi]
   exact SA (SI.1 hp))
  (fun i hi hp=>by
   rw [x8 _ [] hl hl200 hb h1.2 hi]
   exact SD hp)
  (by simp [dL,hlen,-aj]) (show s.length<300 by omega)
 rcases lp1 with ⟨i,hi,hp,hj,lp1⟩ | ⟨hp,lp1⟩
 ·have lp1:bG (evC (aq GC gJ) 300 dL) eC 300 (fX a (.z p) b (.z 0)) []=_:=lp1
  rw [Ss (show ¬ (bS n l p/\(1<=s.length/\s.length<=200)/\mN l s/\_) from fun h=>hp (hrange.2 h.2.2.1 i hi))]
  simp [uW,f1,f3,m1,hlen,m2,qD lp1,aM,aV,br,-frz,-aj]
 have lp1:bG (evC (aq GC gJ) 300 dL) eC 300 (fX a (.z p) b (.z 0)) []=_:=lp1
 have hin:=hrange.1 fun i hi=>SI.1 (hp i hi)
 have lp2:=bU (E:=aq GC gJ) (fuel:=300) (a:=kJ) (mask:=j6) (fun i=>nZ a (.z p) b (.z (tG p l s i)) (.z (i:Int))) (fun _=>[]) s.length (fun i=>¬ (jK l (s.getD i 0)).t=(jK l (s.getD (nxt s.length i) 0)).f)
  (oF:=fun i=>.ret [.u,a,.z p,b,.f,.u,.u,.z (tG p l s i),.z (i:Int),.z (s.getD (nxt s.length i) 0),.u,.u,.u,.t,.t] []) (oE:=.exit 2 ((nZ a (.z p) b (.z (tG p l s s.length)) (.z (s.length:Int))).set 13 .f) [])
  (fun _=>rfl) (fun _ _ _ h=>by cases h) (fun _ _ h=>by cases h)
  (fun i hi hp=>by
   rw [x7 _ [] hl (by have:=hr.1.1; omega) hr.2 hr.1.2.2 hb h1.2 hin hi]
   exact SA (SI.1 hp))
  (fun i hi hp=>by
   rw [x7 _ [] hl (by have:=hr.1.1; omega) hr.2 hr.1.2.2 hb h1.2 hin hi]
   exact SD hp)
  (by simp [kJ,hlen,-aj]) (show s.length<300 by omega)
 have h0:tG p l s 0=0:=by simp [tG,xN]
 have hgs:∀i x,s[i]?=some x->s.getD i 0=x:=fun i x h=>by rw [Sr,h]; rfl
 rcases lp2 with ⟨i,hi,hp2,hj,lp2⟩ | ⟨hp2,lp2⟩
 ·have lp2:bG (evC (aq GC gJ) 300 kJ) j6 300 (nZ a (.z p) b (.z (tG p l s 0)) (.z 0)) []=_:=lp2
  rw [h0] at lp2
  have hnx:nxt s.length i<s.length:=by unfold nxt; split <;> omega
  rw [Ss (show ¬ (bS n l p/\(1<=s.length/\s.length<=200)/\mN l s/\zC l s/\_) from fun h=>hp2 (by
   have:=h.2.2.2.1 i s[i] s[nxt s.length i] (Sq hi) (Sq hnx)
   rw [hgs _ _ (Sq hi),hgs _ _ (Sq hnx)]; exact this))]
  simp [uW,f1,f3,m1,hlen,m2,qD lp1,F0 lp2,aM,aV,br,-frz,-aj]
 ·have lp2:bG (evC (aq GC gJ) 300 kJ) j6 300 (nZ a (.z p) b (.z (tG p l s 0)) (.z 0)) []=_:=lp2
  rw [h0] at lp2
  have hring:zC l s:=fun i x y hx hy=>by
   have hi:=(Sp.1 hx).1
   have:=SI.1 (hp2 i hi)
   rw [hgs _ _ hx,hgs _ _ hy] at this
   exact this
  have hsum:tG p l s s.length=xN p l s:=by unfold tG; rw [SX]
  rw [hsum] at lp2
  have b1:=QP (xN p l s) 0
  have e:decide (bS n l p/\(1<=s.length/\s.length<=200)/\mN l s/\zC l s/\0<xN p l s)=decide (xN p l s > 0):=by
   rw [T4,S6,S6]
   exact ⟨fun h=>h.2.2.2.2,fun h=>⟨hr,h1,hin,hring,h⟩⟩
  rw [e]
  obtain ⟨z,hz⟩:∃z,z=xN p l s:=⟨_,rfl⟩
  rw [<-hz] at lp2 b1 ⊢
  obtain ⟨d,hd⟩:∃d,d=decide (z > 0):=⟨_,rfl⟩
  rw [<-hd] at b1 ⊢
  simp [uW,f1,f3,m1,hlen,m2,b1,qD lp1,F0 lp2,aM,aV,br,-frz,-aj,-af]
end Rc
namespace Rk
open Go
open Clu
open Cy (GC bq cQ bT cA cR okA smM smT lvM lvT dG ey bS Pos aM aV az dz df bC bH)
def qE:List (FuncId × aJ):=[(105,cU 4 M15),(106,aE 4 Rc.M18)]
@[simp] theorem OQ:aD qE 105=some (cU 4 M15):=rfl
@[simp] theorem OP:aD qE 106=some (aE 4 Rc.M18):=rfl
theorem wE:∀f M,aD qE f=some M->au prog GC f M:=ag (au.of_pureF Ka 4) (ag (au.of_pure Rc.AN 4) aB)
def M47:aU:=fun args=>evP (aq GC qE) 300 zG 1 args
theorem se:aw prog GC 89 M47:=aw.of_ev (E:=aq GC qE) (ax wE) rfl (by kernel_rfl) vN 1 fun _ _ h=>⟨300,h⟩
theorem Dx {xs ys:List Int} {a b:AV} (h1:gC a=some xs) (h2:gC b=some ys):Rc.M18 [a,b]=some (.bool (decide (xs=ys))):=by
 unfold Rc.M18
 simp only [h1,h2]
theorem yZ {T:aW} (hb:SlA 2 (T.ch.map chA) chv) (hl:T.ch.length<=200) (ho:SlA 1 (ak o) ov) (hol:o.length<=200) (hoi:∀z∈o,inI z) (hv:aT T) (hb1:T.blades=1):M47 [ai T chv,ov]=some (.bool (decide (o∈aN T))):=by
 have m15:=M2 hb hl hv hb1
 have hll:=it T
 have hmem:∀l∈aN T,l.length<=200/\∀z∈l,inI z:=fun l hl'=>by
  have h1:=cd hl'
  have h2:=gx hl'
  have h3:=h1.1.2.2.2.1
  exact ⟨by have:=h1.2.1; omega,fun z hz=>by have:=h2 z hz; unfold inI; omega⟩
 have ft:=fun A=>aQ (T:=T) (fun A n=>hb.frz (A:=A) n) A 3
 have nr:=cf (T:=T) (fun n=>hb.noRef n) 3
 have fo:∀A n,frz A n ov=ov:=fun A n=>ho.frz n
 have bx:aR 5 (ai T chv) []=some (.p 0,[Ent.row 5 false [ai T chv]]):=rfl
 have ct:(cellsOf (ai T chv)).length=5:=rfl
 have lt:ab true 5 ([Ent.row 5 false [ai T chv]]) (.p 0)=some (ai T chv):=rfl
 have hio:gC ov=some o:=iA ho (by omega) hoi
 obtain ⟨ll,hlle⟩:∃l,l=aN T:=⟨_,rfl⟩
 rw [<-hlle] at m15 hll hmem ⊢
 have hbb:=aZ 1 (ll.map fun l=>slA 1 (ak l))
 rw [show slA 1 (ll.map fun l=>slA 1 (ak l))=dR ll from rfl] at hbb
 have fO:∀A,frz A 4 (dR ll)=dR ll:=fun A=>hbb.frz 4
 obtain ⟨b,hbv⟩:∃b,b=dR ll:=⟨_,rfl⟩
 rw [<-hbv] at hbb m15 fO
 have hlen:=hbb.len
 rw [SF] at hlen
 have round:∀(A:ac) (i:Nat) (hi:i<ll.length),run (aq GC qE) 300 [.code en] (fB ov b (.z (i:Int))) A =
   if isO o ll[i]=false then some (.normal (fB ov b (.z ((i+1:Nat):Int))) A) else some (.ret [.u,ov,.u,.t,b,.z (i:Int),.t,.t,.t] A):=fun A i hi=>by
  have he:(ll.map fun l=>slA 1 (ak l))[i]?=some (slA 1 (ak ll[i])):=by simp [hi]
  have hs:=aZ 1 (ak ll[i])
  have x1:=hbb.index1 (A:=A) he (by rcases hs with ⟨h,_⟩ | h <;> rw [h] <;> rfl) (by rcases hs with ⟨h,_⟩ | h <;> rw [h] <;> rfl) .i64
  have ld:ab false 1 A (.fp [slA 1 (ak ll[i])])=some (slA 1 (ak ll[i])):=by rcases hs with ⟨h,_⟩ | h <;> rw [h] <;> rfl
  have hm:=hmem _ (SC hi)
  have m:=Dx (iA hs (by have:=hm.1; omega) hm.2) hio
  have b1:=be i ll.length .i64
  rw [Su hi] at b1
  have b3:=aP i (by omega)
  have fz:∀A,frz A 4 (slA 1 (ak ll[i]))=slA 1 (ak ll[i]):=fun A=>hs.frz 4
  obtain ⟨i1,hi1⟩:∃i1:Nat,i1=i+1:=⟨_,rfl⟩
  rw [<-hi1] at b3 ⊢
  obtain ⟨d,hd⟩:∃d,d=isO o ll[i]:=⟨_,rfl⟩
  rw [show decide (ll[i]=o)=d from hd.symm] at m
  rw [<-hd]
  obtain ⟨c,hc⟩:∃c,c=slA 1 (ak ll[i]):=⟨_,rfl⟩
  rw [<-hc] at m ld fz x1
  cases d with
  | false=>simp [en,x1,ld,m,fz,fo,b1,b3,hlen,-frz,-af,-ae,-aj,-ab]
  | true=>simp [en,x1,ld,m,fz,fo,b1,hlen,-frz,-af,-ae,-aj,-ab]
 have bE:=be ll.length ll.length .i64
 rw [Ss (by omega)] at bE
 obtain ⟨B,hB⟩:∃B,B=[Ent.row 5 false [ai T chv]]:=⟨_,rfl⟩
 rw [<-hB] at bx lt
 unfold M47
 rw [aO _ _ rfl]
 obtain ⟨t,ht⟩:∃t,t=ai T chv:=⟨_,rfl⟩
 rw [<-ht] at bx ct lt ft m15 nr ⊢
 rcases bU (E:=aq GC qE) (fuel:=300) (a:=en) (mask:=dJ) (fun i=>fB ov b (.z (i:Int))) (fun _=>B) ll.length (fun i=>¬ ∀hi:i<ll.length,isO o ll[i]=false)
  (oF:=fun i=>.ret [.u,ov,.u,.t,b,.z (i:Int),.t,.t,.t] B) (oE:=.exit 0 ((fB ov b (.z (ll.length:Int))).set 7 .f) B)
  (fun _=>s7) (fun _ _ _ h=>by cases h) (fun _ _ h=>by cases h)
  (fun i hi hp=>by
   rw [round B i hi]
   exact SA (SI.1 hp hi))
  (fun i hi hp=>by
   rw [round B i hi]
   exact SD fun h=>hp fun _=>h)
  (by simp [en,hlen,bE,-af,-aj]) (show ll.length<300 by omega) with ⟨i,hi,hp,hj,lp⟩ | ⟨hp,lp⟩
 ·have lp:bG (evC (aq GC qE) 300 en) dJ 300 (fB ov b (.z 0)) B=_:=lp
  have e:decide (o∈ll)=true:=by
   rw [S6]
   cases h':isO o ll[i] with
   | true=>
    have:=UI h'
    exact this ▸ SC hi
   | false=>exact absurd (fun _=>h') hp
  rw [e]
  simp [zG,bx,ct,lt,ft,m15,vo lp,aV,-frz,-aj,-ab,-aa,-aR,-af,-cellsOf]
 ·have lp:bG (evC (aq GC qE) 300 en) dJ 300 (fB ov b (.z 0)) B=_:=lp
  have e:decide (o∈ll)=false:=by
   rw [Ue]
   intro h
   obtain ⟨i,hi,h⟩:=Tb.1 h
   have:=SI.1 (hp i hi) hi
   unfold isO at this
   rw [Su h] at this; cases this
  rw [e]
  simp [zG,bx,ct,lt,ft,m15,vo lp,aV,-frz,-aj,-ab,-aa,-aR,-af,-cellsOf]
end Rk
namespace Rk
open Go
open Clu
open Cy (GC bq cQ bT cA cR okA smM smT lvM lvT dG ey bS Pos aM aV az dz df bC bH)
def Ah:List (FuncId × aJ):=[(90,aE 4 M29),(89,aE 4 M47),(91,aE 4 M48)]
@[simp] theorem P3:aD Ah 90=some (aE 4 M29):=rfl
@[simp] theorem PX:aD Ah 89=some (aE 4 M47):=rfl
@[simp] theorem PW:aD Ah 91=some (aE 4 M48):=rfl
theorem tI:∀f M,aD Ah f=some M->au prog GC f M:=ag (au.of_pure xT 4) (ag (au.of_pure se 4) (ag (au.of_pure J6 4) aB))
def G20 (A:ac) (T:aW) (chv v:AV) (l:List bq):Prop:=
 A[0]?=some (.row 5 false [ai T chv])/\((v=.nilS/\l=[])\/∃id gr,v=.sl id 0 l.length/\l≠[]/\0<id/\A[id]?=some (.row 4 gr (l.map cQ)))
theorem G20.app {T:aW} {l:List bq} (h:G20 A T chv v l) (X:ac):G20 (A++X) T chv v l:=by
 have hk:∀(j:Nat) (e:Ent),A[j]?=some e->(A++X)[j]?=some e:=fun j e h=>by
  rw [Sy (Sp.1 h).1]; exact h
 refine ⟨hk _ _ h.1,?_⟩
 rcases h.2 with h2 | ⟨id,gr,e1,e2,e3,e4⟩
 ·exact .inl h2
 ·exact .inr ⟨id,gr,e1,e2,e3,hk _ _ e4⟩
theorem G20.add {T:aW} {l:List bq} (h:G20 A T chv v l) {xs:List bq} (hx:xs≠[]) (hb:l.length+xs.length<=1000):∃v' B,aL 4 32 A v (.fs 4 (xs.map cQ))=some (v',B)/\G20 B T chv v' (l++xs):=by
 have hxl:0<xs.length:=TI.2 hx
 have h0:=(Sp.1 h.1).1
 rcases h.2 with ⟨rfl,rfl⟩ | ⟨id,gr,rfl,hl,hid,hr⟩
 ·refine ⟨.sl A.length 0 xs.length,A++[.row 4 false (xs.map cQ)],?_,?_,.inr ⟨A.length,false,rfl,hx,h0,by simp⟩⟩
  ·simp only [aL,c9,SF]
   rw [SD (by omega),SA ⟨by omega,by omega,by simp at hb; omega⟩]
  ·rw [Sy h0]; exact h.1
 ·have hlz:l.length≠0:=fun e=>hl (S8.1 e)
  have hidl:=(Sp.1 hr).1
  refine ⟨.sl id 0 (l.length+xs.length),A.set id (.row 4 true (l.map cQ++xs.map cQ)),?_,?_,.inr ⟨id,true,by simp,by simp [hl],hid,?_⟩⟩
  ·simp only [aL,c9,SF,hr]
   rw [SA ⟨trivial,by omega,by omega,by omega⟩,SA ⟨trivial,trivial,hlz⟩]
  ·rw [Sz (by omega)]; exact h.1
  ·rw [SG hidl]; simp
theorem G20.frz {T:aW} {l:List bq} (h:G20 A T chv v l):(∀k,Proofs.YtkcjhljbgjpklaaGreat.frz A (k+3) v=slA 4 (l.map cQ))/\∀k,bA A (k+3) v=true:=by
 rcases h.2 with ⟨rfl,rfl⟩ | ⟨id,gr,rfl,hl,hid,hr⟩
 ·exact ⟨fun k=>rfl,fun k=>rfl⟩
 ·have e:((l.map cQ).drop 0).take l.length=l.map cQ:=by
   rw [SL]
   conv=>lhs; rw [show l.length=(l.map cQ).length by simp]
   rw [SX]
  refine ⟨fun k=>?_,fun k=>?_⟩
  ·have hm:(l.map cQ).map (Proofs.YtkcjhljbgjpklaaGreat.frz A (k+2))=l.map cQ:=by
    rw [Ub]
    exact S3 fun x _=>by simp [cQ,Proofs.YtkcjhljbgjpklaaGreat.frz]
   rw [show k+3=(k+2)+1 from rfl]
   simp only [Proofs.YtkcjhljbgjpklaaGreat.frz,hr]
   rw [e,hm]
   cases l with
   | nil=>exact absurd rfl hl
   | cons x r=>rfl
  ·rw [show k+3=(k+2)+1 from rfl]
   simp only [bA,hr]
   rw [e,SV]
   intro y hy
   obtain ⟨x,_,rfl⟩:=SU.1 hy
   simp [cQ,bA]
theorem o8 {T:aW} (hO:o∈aN T) (ho:SlA 1 (ak o) ov) {A:ac} {l:List bq} (hI:G20 A T chv v l) (hl:l.length<=100) (hi:i<o.length) :
  ∃v' B,run (aq GC Ah) 300 [.code dM] (fZ ov (.p 0) (.z (dt T)) v (.z (i:Int))) A =
   some (.normal (fZ ov (.p 0) (.z (dt T)) v' (.z ((i+1:Nat):Int))) B)/\G20 B T chv v' (l++[tj T o i]):=by
 obtain ⟨hv,hol,_,_⟩:=cd hO
 have hbd:=gx hO
 have hw:=lO hv
 have hch:=hv.2.2.2.1
 have htr:=hv.2.1.2.2
 have ht:=hI.1
 have ht0:=(Sp.1 ht).1
 have hlen:=ho.len
 rw [az] at hlen
 have x1:=fun A=>ho.int (A:=A) _ _ (Sq hi) .i64
 have ho1:o[i]=o.getD i 0:=by rw [Sr,Sq hi]; rfl
 have hb1:=hbd o[i] (SC hi)
 obtain ⟨t0,htt⟩:∃t,t=o.getD i 0:=⟨_,rfl⟩
 rw [ho1,<-htt] at x1 hb1
 obtain ⟨w,hww⟩:∃w,w=dt T:=⟨_,rfl⟩
 obtain ⟨ch,pk,pl,tr,bd⟩:=T
 have ht:A[0]?=some (.row 5 false [.agg [chv,.z pk,.z pl,.z tr,.z bd]]):=ht
 have tl:∀X,(A++X)[0]?=some (.row 5 false [.agg [chv,.z pk,.z pl,.z tr,.z bd]]):=fun X=>by rw [Sy ht0]; exact ht
 have t3:∀X,aa 3 (A++X) (.p 0)=some (.ptr 0 0 3):=fun X=>by simp [aa,tl X]
 have t4:∀X,aa 4 (A++X) (.p 0)=some (.ptr 0 0 4):=fun X=>by simp [aa,tl X]
 have l3:∀X,ab false 1 (A++X) (.ptr 0 0 3)=some (.z tr):=fun X=>by simp [ab,tl X,bN]
 have l4:∀X,ab false 1 (A++X) (.ptr 0 0 4)=some (.z bd):=fun X=>by simp [ab,tl X,bN]
 have a2:∀a b c d,aa 2 (A++[.row 4 false [.agg [a,b,c,d]]]) (.p A.length)=some (.ptr A.length 0 2):=fun a b c d=>jk (es:=[a,b,c,d]) (k:=4) rfl (by omega)
 have r2:∀a b c d,ab false 1 (A++[.row 4 false [.agg [a,b,c,d]]]) (.ptr A.length 0 2)=some c:=fun a b c d=>ku (es:=[a,b,c,d]) (k:=4) rfl rfl
 have r4:∀a b c d,ab true 4 (A++[.row 4 false [.agg [a,b,c,d]]]) (.p A.length)=some (.agg [a,b,c,d]):=fun a b c d=>Aq (es:=[a,b,c,d]) (k:=4) rfl (by omega)
 have s2:∀a b c d z,aA 1 (A++[.row 4 false [.agg [a,b,c,d]]]) (.ptr A.length 0 2) (.z z)=some (A++[.row 4 false [.agg [a,b,.z z,d]]]):=fun a b c d z=>xL (es:=[a,b,c,d]) (k:=4) rfl (by omega) (by omega) rfl rfl
 have sA:∀a b c d x y z u,aA 4 (A++[.row 4 false [.agg [a,b,c,d]]]) (.p A.length) (.agg [.z x,.z y,.z z,.z u])=some (A++[.row 4 false [.agg [.z x,.z y,.z z,.z u]]]):=fun a b c d x y z u=>by simp [aA,bL]
 have b0:=be i o.length .i64
 rw [Su hi] at b0
 have b1:=aP i (by omega)
 have b2:=be (i+1) o.length .i64
 have b3:af .eql (.z bd) (.z 2)=some (.bool (decide (bd=2))):=bu _ _
 have b4:af .add (.z t0) (.z 1)=some (.z (t0+1)):=aY (by simp only at hch hb1; omega)
 have b6:af .add (.z w) (.z tr)=some (.z (w+tr)):=aY (by simp only at htr; omega)
 obtain ⟨nx,hnx⟩:∃x,x=oP o i:=⟨_,rfl⟩
 have b5:af .neq (.z nx) (.z (t0+1))=some (.bool (decide (nx≠t0+1))):=cH _ _
 obtain ⟨ar,har⟩:∃a,a=tj ⟨ch,pk,pl,tr,bd⟩ o i:=⟨_,rfl⟩
 have hae:ar=⟨t0,nx,w+(if bd=2\/nx≠t0+1 then tr else 0),if i+1<o.length then 0 else 1⟩:=by
  rw [har,hnx,htt,hww]; rfl
 obtain ⟨v',B,k1,k2⟩:=(hI.app [.row 4 false [cQ ar]]).add (xs:=[ar]) (by simp) (by simp; omega)
 refine ⟨v',B,?_,by rw [<-har]; exact k2⟩
 rw [<-hww]
 have k1:aL 4 32 (A++[.row 4 false [cQ ar]]) v (.fs 4 [cQ ar])=some (v',B):=k1
 rw [show cQ ar=.agg [.z t0,.z nx,.z (w+(if bd=2\/nx≠t0+1 then tr else 0)),.z (if i+1<o.length then 0 else 1)] by rw [hae]; rfl] at k1
 have hsl:∀x y z u:Int,bp 4 [.agg [.z x,.z y,.z z,.z u]]=some (.fs 4 [.agg [.z x,.z y,.z z,.z u]]):=fun x y z u=>rfl
 obtain ⟨N,hN⟩:∃n,n=A.length:=⟨_,rfl⟩
 obtain ⟨i1,hi1⟩:∃n,n=i+1:=⟨_,rfl⟩
 have x2:i1<o.length->∀A,ae 1 A ov (.z (i1:Int))=some (.fp [.z nx]):=fun h A=>by
  have e:o[i1]?=some nx:=by rw [hnx,oP,SA (by omega),<-hi1,Sr,Sq h]; rfl
  exact ho.int (A:=A) _ _ e .i64
 have hnx0:¬ i1<o.length->nx=0:=fun h=>by rw [hnx,oP,SD (by omega)]
 have bx:∀z,aR 4 (.agg [.z z,.z z,.z z,.z z]) A=some (.p N,A++[.row 4 false [.agg [.z z,.z z,.z z,.z z]]]):=fun z=>by rw [hN]; rfl
 rw [<-hi1] at b1 b2 k1 ⊢
 rw [<-hN] at a2 r2 r4 s2 sA
 obtain ⟨t1,ht1⟩:∃x,x=t0+1:=⟨_,rfl⟩
 rw [<-ht1] at b4 b5 k1
 obtain ⟨w1,hw1⟩:∃x,x=w+tr:=⟨_,rfl⟩
 rw [<-hw1] at b6
 by_cases hc:i1<o.length
 ·rw [Su hc] at b2
  have x2:=x2 hc
  rw [SA hc] at k1
  by_cases hd:bd=2
  ·rw [Su hd] at b3
   rw [SA (.inl hd),<-hw1] at k1
   simp [dM,b0,b1,b2,b3,b6,x1,x2,hlen,t3,t4,l3,l4,a2,r2,r4,s2,sA,bx,hsl,k1,-af,-ab,-aA,-aa,-ae,-aj,-bp,-aR]
  ·rw [Ss hd] at b3
   by_cases he:nx≠t1
   ·rw [Su he] at b5
    rw [SA (.inr he),<-hw1] at k1
    simp [dM,b0,b1,b2,b3,b4,b5,b6,x1,x2,hlen,t3,t4,l3,l4,a2,r2,r4,s2,sA,bx,hsl,k1,-af,-ab,-aA,-aa,-ae,-aj,-bp,-aR]
   ·rw [Ss he] at b5
    rw [SD (fun h=>h.elim hd he),UW] at k1
    simp [dM,b0,b1,b2,b3,b4,b5,x1,x2,hlen,t4,l4,r4,sA,bx,hsl,k1,-af,-ab,-aA,-aa,-ae,-aj,-bp,-aR]
 ·rw [Ss hc] at b2
  rw [SD hc] at k1
  have hnx0:=hnx0 hc
  rw [hnx0] at b5 k1
  by_cases hd:bd=2
  ·rw [Su hd] at b3
   rw [SA (.inl hd),<-hw1] at k1
   simp [dM,b0,b1,b2,b3,b6,x1,hlen,t3,t4,l3,l4,a2,r2,r4,s2,sA,bx,hsl,k1,-af,-ab,-aA,-aa,-ae,-aj,-bp,-aR]
  ·rw [Ss hd] at b3
   by_cases he:(0:Int)≠t1
   ·rw [Su he] at b5
    rw [SA (.inr he),<-hw1] at k1
    simp [dM,b0,b1,b2,b3,b4,b5,b6,x1,hlen,t3,t4,l3,l4,a2,r2,r4,s2,sA,bx,hsl,k1,-af,-ab,-aA,-aa,-ae,-aj,-bp,-aR]
   ·rw [Ss he] at b5
    rw [SD (fun h=>h.elim hd he),UW] at k1
    simp [dM,b0,b1,b2,b3,b4,b5,x1,hlen,t4,l4,r4,sA,bx,hsl,k1,-af,-ab,-aA,-aa,-ae,-aj,-bp,-aR]
theorem o7 {T:aW} (hO:o∈aN T) (hcv:SlA 2 (T.ch.map chA) chv) (ho:SlA 1 (ak o) ov) {A:ac} {l:List bq} (hI:G20 A T chv v l) (hl:l.length<=100) (hi:i<T.ch.length) :
  ∃v' B,run (aq GC Ah) 300 [.code eu] (fY ov (.p 0) (.z (dt T)) v (.z ((i+1:Nat):Int))) A =
   some (.normal (fY ov (.p 0) (.z (dt T)) v' (.z ((i+1+1:Nat):Int))) B)/\G20 B T chv v' (l++rp T o i):=by
 obtain ⟨hv,hol,_,_⟩:=cd hO
 have hw:=lO hv
 have hch:=hv.2.2.2.1
 have ht:=hI.1
 have ht0:=(Sp.1 ht).1
 have hlen:=hcv.len
 rw [SF] at hlen
 have hx0:T.ch.getD i (0,0)=T.ch[i]:=by rw [Sr,Sq hi]; rfl
 have hxv:=hv.1 _ (SC hi)
 have x1:∀A,ae 2 A chv (.z (i:Int))=some (.fp [.z (T.ch.getD i (0,0)).1,.z (T.ch.getD i (0,0)).2]):=fun A=>by
  rw [hx0]
  exact hcv.index (A:=A) (x:=chA T.ch[i]) (by simp [hi]) rfl (by omega) .i64
 have m1:=yY ho (by omega) ((i+1:Nat):Int)
 have m2:=yY ho (by omega) (i:Int)
 have fo:∀A n,frz A n ov=ov:=fun A n=>ho.frz n
 have fi:∀(A:ac) (z:Int),frz A 4 (.z z)=.z z:=fun A z=>aM A 4 .i64 z
 have b7:=bP (df (isI ((i+1:Nat):Int)) o) (df (isI (i:Int)) o)
 obtain ⟨X,hX⟩:∃x,x=df (isI ((i+1:Nat):Int)) o:=⟨_,rfl⟩
 obtain ⟨Y,hY⟩:∃x,x=df (isI (i:Int)) o:=⟨_,rfl⟩
 have hk:lkT T o ((i:Int)+1)=if T.blades=2 then (((i+1:Nat):Int),((i+1:Nat):Int),1) else ((i:Int),((i+1:Nat):Int),if X<Y then 1 else 0):=by
  unfold lkT
  rw [show (i:Int)+1-1=(i:Int) by omega,show (i:Int)+1=((i+1:Nat):Int) by omega,hX,hY]
 rw [<-hX] at m1 b7
 rw [<-hY] at m2 b7
 obtain ⟨⟨tm,sy⟩,hx⟩:∃x,x=T.ch.getD i (0,0):=⟨_,rfl⟩
 have ha:rp T o i=[⟨(lkT T o (i+1)).1,(lkT T o (i+1)).2.1,dt T+tm,(lkT T o (i+1)).2.2⟩,⟨(lkT T o (i+1)).2.1,(lkT T o (i+1)).1,-(dt T+tm+sy),-(lkT T o (i+1)).2.2⟩]:=by
  unfold rp; rw [<-hx]
 rw [hx0] at hx
 rw [<-hx] at hxv
 rw [hx0,<-hx] at x1
 simp only [lJ] at x1 hxv
 obtain ⟨w,hww⟩:∃w,w=dt T:=⟨_,rfl⟩
 rw [<-hww] at hw ha ⊢
 have b0:af .leq (.z ((i+1:Nat):Int)) (.z (T.ch.length:Int))=some .t:=by rw [cr,Su (by omega)]
 have b1:=aP (i+1) (by omega)
 have b2:af .sub (.z ((i+1:Nat):Int)) (.z 1)=some (.z (i:Int)):=by rw [bK (by omega)]; congr 2; omega
 have b3:af .add (.z w) (.z tm)=some (.z (w+tm)):=aY (by omega)
 have b4:af .add (.z (w+tm)) (.z sy)=some (.z (w+tm+sy)):=aY (by omega)
 have b5:qM .neg (.z (w+tm+sy))=some (.z (-(w+tm+sy))):=dZ (by omega)
 have n1:qM .neg (.z 1)=some (.z (-1)):=dZ (by omega)
 have n0:qM .neg (.z 0)=some (.z 0):=dZ (a:=0) (by omega)
 have b8:af .eql (.z T.blades) (.z 2)=some (.bool (decide (T.blades=2))):=bu _ _
 have bx:aR 2 (.agg [.z 0,.z 0]) A=some (.p A.length,A++[.row 2 false [.agg [.z 0,.z 0]]]):=rfl
 obtain ⟨A1,hA1⟩:∃X,X=A++[Ent.row 2 false [.agg [.z tm,.z sy]]]:=⟨_,rfl⟩
 have s0:aA 2 (A++[.row 2 false [.agg [.z 0,.z 0]]]) (.p A.length) (.agg [.z tm,.z sy])=some A1:=by simp [aA,bL,hA1]
 have f0:aa 0 A1 (.p A.length)=some (.p A.length):=by rw [hA1]; exact jk (es:=[.z tm,.z sy]) (k:=2) rfl (by omega)
 have f1:aa 1 A1 (.p A.length)=some (.ptr A.length 0 1):=by rw [hA1]; exact jk (es:=[.z tm,.z sy]) (k:=2) rfl (by omega)
 have e0:ab false 1 A1 (.p A.length)=some (.z tm):=by rw [hA1]; exact ku (es:=[.z tm,.z sy]) (k:=2) rfl rfl
 have e1:ab false 1 A1 (.ptr A.length 0 1)=some (.z sy):=by rw [hA1]; exact ku (es:=[.z tm,.z sy]) (k:=2) rfl rfl
 have tl:∀X,(A++X)[0]?=some (.row 5 false [ai T chv]):=fun X=>by rw [Sy ht0]; exact ht
 have t0:aa 0 A (.p 0)=some (.p 0):=by simp [aa,ht]
 have l0:ab false 1 A (.p 0)=some chv:=by simp [ab,ht,ai,bN]
 have t4:aa 4 A1 (.p 0)=some (.ptr 0 0 4):=by rw [hA1]; simp only [aa,tl]; rfl
 have l4:ab false 1 A1 (.ptr 0 0 4)=some (.z T.blades):=by rw [hA1]; simp only [ab,tl]; simp [ai,bN]
 obtain ⟨v',B,q1,q2⟩:=(hI.app [Ent.row 2 false [.agg [.z tm,.z sy]]]).add (xs:=rp T o i) (by rw [ha]; simp) (by rw [ha]; simp; omega)
 refine ⟨v',B,?_,q2⟩
 rw [<-hA1,ha,hk] at q1
 obtain ⟨N,hN⟩:∃n,n=A.length:=⟨_,rfl⟩
 rw [<-hN] at bx s0 f0 f1 e0 e1
 obtain ⟨w1,hw1⟩:∃x,x=w+tm:=⟨_,rfl⟩
 rw [<-hw1] at b3 b4 b5 q1
 obtain ⟨w2,hw2⟩:∃x,x=w1+sy:=⟨_,rfl⟩
 rw [<-hw2] at b4 b5 q1
 obtain ⟨w3,hw3⟩:∃x,x = -w2:=⟨_,rfl⟩
 rw [<-hw3] at b5 q1
 obtain ⟨i2,hi2⟩:∃n,n=i+1+1:=⟨_,rfl⟩
 rw [<-hi2] at b1 ⊢
 obtain ⟨i1,hi1⟩:∃n,n=i+1:=⟨_,rfl⟩
 rw [<-hi1] at b0 b1 b2 m1 q1 ⊢
 have hsl:∀x y z u x' y' z' u':Int,bp 4 [.agg [.z x,.z y,.z z,.z u],.agg [.z x',.z y',.z z',.z u']]=some (.fs 4 [.agg [.z x,.z y,.z z,.z u],.agg [.z x',.z y',.z z',.z u']]):=fun _ _ _ _ _ _ _ _=>rfl
 by_cases hd:T.blades=2
 ·rw [Su hd] at b8
  rw [SA hd] at q1
  have q1:aL 4 32 A1 v (.fs 4 [.agg [.z (i1:Int),.z (i1:Int),.z w1,.z 1],.agg [.z (i1:Int),.z (i1:Int),.z w3,.z (-1)]])=some (v',B):=q1
  simp [eu,b0,b1,b2,b3,b4,b5,b8,n1,x1,hlen,bx,s0,f0,f1,e0,e1,t0,l0,t4,l4,hsl,q1,-af,-ab,-aA,-aa,-ae,-aj,-bp,-aR,-qM]
 ·rw [Ss hd] at b8
  rw [SD hd] at q1
  by_cases he:X<Y
  ·rw [Su he] at b7
   rw [SA he] at q1
   have q1:aL 4 32 A1 v (.fs 4 [.agg [.z (i:Int),.z (i1:Int),.z w1,.z 1],.agg [.z (i1:Int),.z (i:Int),.z w3,.z (-1)]])=some (v',B):=q1
   simp [eu,b0,b1,b2,b3,b4,b5,b7,b8,n1,m1,m2,fo,fi,x1,hlen,bx,s0,f0,f1,e0,e1,t0,l0,t4,l4,hsl,q1,-af,-ab,-aA,-aa,-ae,-aj,-bp,-aR,-qM,-frz]
  ·rw [Ss he] at b7
   rw [SD he] at q1
   have q1:aL 4 32 A1 v (.fs 4 [.agg [.z (i:Int),.z (i1:Int),.z w1,.z 0],.agg [.z (i1:Int),.z (i:Int),.z w3,.z 0]])=some (v',B):=q1
   simp [eu,b0,b1,b2,b3,b4,b5,b7,b8,n0,m1,m2,fo,fi,x1,hlen,bx,s0,f0,f1,e0,e1,t0,l0,t4,l4,hsl,q1,-af,-ab,-aA,-aa,-ae,-aj,-bp,-aR,-qM,-frz]
end Rk
namespace Rk
open Go
open Clu
open Cy (GC bq cQ bT cA cR okA smM smT lvM lvT dG ey bS Pos aM aV az dz df bC bH)
theorem Ir {T:aW} (hO:o∈aN T) (ho:SlA 1 (ak o) ov):∀(c i:Nat) (v:AV) (A:ac) (m:Nat),i+c=o.length->G20 A T chv v ((List.range i).map (tj T o))->c<m ->
  ∃v' B,bG (evC (aq GC Ah) 300 dM) eE m (fZ ov (.p 0) (.z (dt T)) v (.z (i:Int))) A =
   some (.exit 0 ((fZ ov (.p 0) (.z (dt T)) v' (.z (o.length:Int))).set 16 .f) B)/\G20 B T chv v' ((List.range o.length).map (tj T o)):=by
 obtain ⟨hv,hol,_,_⟩:=cd hO
 have hn4:=hv.2.2.2.1
 have hlen:=ho.len
 rw [az] at hlen
 intro c
 induction c with
 | zero=>
  intro i v A m hi hI hm
  obtain ⟨m,rfl⟩:∃j,m=j+1:=⟨m-1,by omega⟩
  obtain rfl:i=o.length:=by omega
  refine ⟨v,A,?_,hI⟩
  have b0:=be o.length o.length .i64
  rw [Ss (by omega)] at b0
  rw [aG,ta]
  simp [dM,b0,hlen,-af,-aj]
 | succ c ih=>
  intro i v A m hi hI hm
  obtain ⟨m,rfl⟩:∃j,m=j+1:=⟨m-1,by omega⟩
  obtain ⟨v1,B,h1,h2⟩:=o8 hO ho hI (by simp; omega) (i:=i) (by omega)
  rw [<-wh] at h2
  obtain ⟨v2,C,h3,h4⟩:=ih (i+1) v1 B m (by omega) h2 (by omega)
  refine ⟨v2,C,?_,h4⟩
  rw [aG,ta,h1]
  exact h3
theorem Iq {T:aW} (hO:o∈aN T) (hcv:SlA 2 (T.ch.map chA) chv) (ho:SlA 1 (ak o) ov) {l0:List bq} (hl0:l0.length<=50):∀(c i:Nat) (v:AV) (A:ac) (m:Nat),i+c=T.ch.length->G20 A T chv v (l0++(List.range i).flatMap (rp T o))->c<m ->
  ∃v' B,bG (evC (aq GC Ah) 300 eu) eD m (fY ov (.p 0) (.z (dt T)) v (.z ((i+1:Nat):Int))) A =
   some (.exit 2 ((fY ov (.p 0) (.z (dt T)) v' (.z ((T.ch.length+1:Nat):Int))).set 19 .f) B)/\G20 B T chv v' (l0++(List.range T.ch.length).flatMap (rp T o)):=by
 obtain ⟨hv,hol,_,_⟩:=cd hO
 have hn4:=hv.2.2.2.1
 have hlen:=hcv.len
 rw [SF] at hlen
 intro c
 induction c with
 | zero=>
  intro i v A m hi hI hm
  obtain ⟨m,rfl⟩:∃j,m=j+1:=⟨m-1,by omega⟩
  obtain rfl:i=T.ch.length:=by omega
  refine ⟨v,A,?_,hI⟩
  have t0:aa 0 A (.p 0)=some (.p 0):=by simp [aa,hI.1]
  have l0:ab false 1 A (.p 0)=some chv:=by simp [ab,hI.1,ai,bN]
  have b0:af .leq (.z ((T.ch.length+1:Nat):Int)) (.z (T.ch.length:Int))=some .f:=by rw [cr,Ss (by omega)]
  obtain ⟨i1,hi1⟩:∃n,n=T.ch.length+1:=⟨_,rfl⟩
  rw [<-hi1] at b0 ⊢
  rw [aG,s9]
  simp [eu,b0,t0,l0,hlen,-af,-ab,-aa,-aj]
 | succ c ih=>
  intro i v A m hi hI hm
  obtain ⟨m,rfl⟩:∃j,m=j+1:=⟨m-1,by omega⟩
  obtain ⟨v1,B,h1,h2⟩:=o7 hO hcv ho hI (by rw [SW,rn]; omega) (i:=i) (by omega)
  rw [SO,<-ro] at h2
  obtain ⟨v2,C,h3,h4⟩:=ih (i+1) v1 B m (by omega) h2 (by omega)
  refine ⟨v2,C,?_,h4⟩
  rw [aG,s9,h1]
  exact h3
def M20:aU:=fun args=>evF (aq GC Ah) 300 Bk 4 args
theorem AM:cm prog GC 58 M20:=cm.of_ev (E:=aq GC Ah) (ax tI) rfl (by kernel_rfl) Ct 4 fun _ _ h=>⟨300,h⟩
theorem MZ {T:aW} {chv:AV} (hcv:SlA 2 (T.ch.map chA) chv) (hl:T.ch.length<=200) (ho:SlA 1 (ak o) ov) (hol:o.length<=200) (hoi:∀z∈o,inI z) (hv:aT T) (hb1:T.blades=1):M20 [ai T chv,ov]=some (EZ (xD T o)):=by
 have m47:=yZ hcv hl ho hol hoi hv hb1
 have ft:=fun A=>aQ (T:=T) (fun A n=>hcv.frz (A:=A) n) A 3
 have fo:∀A n,frz A n ov=ov:=fun A n=>ho.frz n
 have lt:∀X,ab true 5 (.row 5 false [ai T chv] :: X) (.p 0)=some (ai T chv):=fun X=>rfl
 have bx0:aR 5 (ai T chv) []=some (.p 0,[.row 5 false [ai T chv]]):=rfl
 unfold M20 xD
 rw [fU _ _ rfl]
 by_cases hO:o∈aN T
 ·obtain ⟨hv,hol2,_,_⟩:=cd hO
  have hn4:=hv.2.2.2.1
  rw [Su hO] at m47
  rw [SA hO]
  have m29:=wm chv hv
  obtain ⟨v1,B1,h1,h2⟩:=Ir hO ho (chv:=chv) o.length 0 .nilS [.row 5 false [ai T chv]] 300 (by omega) ⟨rfl,.inl ⟨rfl,rfl⟩⟩ (by omega)
  have h2':G20 B1 T chv v1 ((List.range o.length).map (tj T o)++(List.range 0).flatMap (rp T o)):=by simpa using h2
  obtain ⟨v2,B2,h3,h4⟩:=Iq hO hcv ho (l0:=(List.range o.length).map (tj T o)) (by simp; omega) T.ch.length 0 v1 B1 300 (by omega) h2' (by omega)
  obtain ⟨g2,g3⟩:=h4.frz
  have g2:=g2 0
  have g3:=g3 0
  obtain ⟨R,hR⟩:∃R,R=slA 4 ((bM T o).map cQ):=⟨_,rfl⟩
  rw [show (List.range o.length).map (tj T o)++(List.range T.ch.length).flatMap (rp T o)=bM T o from rfl,<-hR] at g2
  have hRR:EZ (some (bM T o))=.tup [R,.z 0]:=by rw [hR]; rfl
  rw [hRR]
  have h1:bG (evC (aq GC Ah) 300 dM) eE 300 (fZ ov (.p 0) (.z (dt T)) .nilS (.z 0)) [.row 5 false [ai T chv]]=_:=h1
  have h3:bG (evC (aq GC Ah) 300 eu) eD 300 (fY ov (.p 0) (.z (dt T)) v1 (.z 1)) B1=_:=h3
  obtain ⟨t,htt⟩:∃t,t=ai T chv:=⟨_,rfl⟩
  obtain ⟨w,hw⟩:∃F,F=dt T:=⟨_,rfl⟩
  rw [<-htt] at m47 ft lt bx0 m29 h1 ⊢
  rw [<-hw] at m29 h1 h3
  have ct:(cellsOf t).length=5:=by rw [htt]; rfl
  have fT:frz B2 4 (.tup [v2,.z 0])=.tup [R,.z 0]:=by
   rw [<-g2]; rfl
  have rT:bA B2 4 (.tup [v2,.z 0])=true:=by
   have g3:bA B2 3 v2=true:=g3
   simp [bA,g3]
  simp [Bk,bx0,fT,rT,ct,lt,m47,m29,ft,fo,vr h1,yz h3,-aR,-ab,-aa,-aj,-frz,-cellsOf]
 ·rw [Ss hO] at m47
  rw [SD hO]
  obtain ⟨t,htt⟩:∃t,t=ai T chv:=⟨_,rfl⟩
  rw [<-htt] at m47 ft lt bx0 ⊢
  have ct:(cellsOf t).length=5:=by rw [htt]; rfl
  have fT:∀A,frz A 4 (.tup [.nilS,.z 130])=.tup [.nilS,.z 130]:=fun A=>rfl
  have rT:∀A,bA A 4 (.tup [.nilS,.z 130])=true:=fun A=>rfl
  simp [Bk,bx0,fT,rT,ct,lt,m47,ft,fo,-aR,-ab,-aa,-aj,-frz,-cellsOf]
  rfl
end Rk
namespace Rk
open Go
open Clu
open Cy (GC je df bC bH cW aM aV az bq cQ bT cA cR okA smM smT lvM lvT gu dG ey bS)
def ig:List (FuncId × aJ):=[(58,cU 4 M20),(59,aE 4 Cy.M19),(60,aE 4 Cy.M21)]
@[simp] theorem Pv:aD ig 58=some (cU 4 M20):=rfl
@[simp] theorem Pq:aD ig 59=some (aE 4 Cy.M19):=rfl
@[simp] theorem Pp:aD ig 60=some (aE 4 Cy.M21):=rfl
theorem nl:∀f M,aD ig f=some M->au prog GC f M:=ag (au.of_pureF AM 4) (ag (au.of_pure Rc.AM 4) (ag (au.of_pure Rc.p9 4) aB))
def M27:aU:=fun args=>evP (aq GC ig) 0 uz 4 args
theorem si:aw prog GC 27 M27:=aw.of_ev (E:=aq GC ig) (ax nl) rfl (by kernel_rfl) vS 4 fun _ _ h=>⟨0,h⟩
open Classical in
theorem tw {T:aW} (hcv:SlA 2 (T.ch.map chA) chv) (hl:T.ch.length<=200) {s:cy} {pv:AV} (hs:jf s ov sv pv) (hol:s.order.length<=200) (hoi:∀z∈s.order,inI z) (hv:aT T) (hb1:T.blades=1) :
  M27 [ai T chv,.agg [.z s.period,ov,sv,pv]]=some (.bool (decide (Chk T s))):=by
 have m19:=MZ hcv hl hs.o hol hoi hv hb1
 have ft:=fun A=>aQ (T:=T) (fun A n=>hcv.frz (A:=A) n) A 3
 have fo:∀A n,frz A n ov=ov:=fun A n=>hs.o.frz n
 have fs:∀A n,frz A n sv=sv:=fun A n=>hs.st.frz n
 have fp:∀A n,frz A n pv=pv:=fun A n=>hs.pr.frz n
 have hlo:=hs.o.len
 rw [az] at hlo
 have hlp:=hs.pr.len
 rw [az] at hlp
 have iv1:gC sv=some s.starts:=iA hs.st hs.stl hs.sti
 have iv2:gC pv=some s.proof:=iA hs.pr hs.prl hs.pri
 obtain ⟨p,o,st,pr⟩:=s
 simp only at m19 hlo hlp iv1 iv2
 have hper:=hs.per
 simp only [inI] at hper
 have q1:ov.solid=true/\cellsOf ov=[ov]:=by rcases hs.o with ⟨rfl,_⟩ | rfl <;> exact ⟨rfl,rfl⟩
 have q2:sv.solid=true/\cellsOf sv=[sv]:=by rcases hs.st with ⟨rfl,_⟩ | rfl <;> exact ⟨rfl,rfl⟩
 have q3:pv.solid=true/\cellsOf pv=[pv]:=by rcases hs.pr with ⟨rfl,_⟩ | rfl <;> exact ⟨rfl,rfl⟩
 have bx0:aR 5 (ai T chv) []=some (.p 0,[.row 5 false [ai T chv]]):=rfl
 have bx1:∀t,aR 4 (.agg [.z p,ov,sv,pv]) [.row 5 false [t]]=some (.p 1,[.row 5 false [t],.row 4 false [.agg [.z p,ov,sv,pv]]]):=fun t=>rfl
 have ct:(cellsOf (ai T chv)).length=5:=rfl
 have ca:(cellsOf (.agg [.z p,ov,sv,pv])).length=4:=rfl
 obtain ⟨A0,hA0⟩:∃A:ac,A=[.row 5 false [ai T chv],.row 4 false [.agg [.z p,ov,sv,pv]]]:=⟨_,rfl⟩
 have lt:ab true 5 A0 (.p 0)=some (ai T chv):=by rw [hA0]; rfl
 have fa:∀j,j<4->aa j A0 (.p 1)=some (.ptr 1 0 j):=fun j hj=>by rw [hA0]; simp [aa,hj]
 have l0:ab false 1 A0 (.p 1)=some (.z p):=by rw [hA0]; rfl
 have l1:ab false 1 A0 (.ptr 1 0 1)=some ov:=by rw [hA0]; rfl
 have l2:ab false 1 A0 (.ptr 1 0 2)=some sv:=by rw [hA0]; rfl
 have l3:ab false 1 A0 (.ptr 1 0 3)=some pv:=by rw [hA0]; rfl
 obtain ⟨t,ht⟩:∃t,t=ai T chv:=⟨_,rfl⟩
 rw [<-ht] at m19 ft bx0 ct lt hA0 ⊢
 have bx1:=bx1 t
 rw [<-hA0] at bx1
 unfold M27
 rw [aO _ _ rfl]
 by_cases hO:o∈aN T
 rotate_left
 ·rw [Ss (fun h=>hO h.1)]
  have e0:xD T o=none:=SD hO
  rw [e0] at m19
  have m19:M20 [t,ov]=some (.tup [.nilS,.z 130]):=m19
  have b1:=cH 130 0
  rw [Su (by omega)] at b1
  simp [uz,bx0,bx1,ct,ca,lt,m19,ft,fo,fa,l1,b1,-aR,-ab,-aa,-aj,-frz,-cellsOf,-af,aV]
 rw [nH hO] at m19
 have m19:M20 [t,ov]=some (.tup [fV (bM T o),.z 0]):=m19
 have b1:=cH 0 0
 rw [Ss (by omega)] at b1
 have b2:=bP p 1
 by_cases hp1:p<1
 ·rw [Ss (fun h=>by have:=h.2.1.1; simp only at this; omega)]
  rw [Su hp1] at b2
  simp [uz,bx0,bx1,ct,ca,lt,m19,ft,fo,fa,l0,l1,b1,b2,-aR,-ab,-aa,-aj,-frz,-cellsOf,-af,aV]
 rw [Ss hp1] at b2
 have b3:=bQ p 1000000
 by_cases hp2:p > 1000000
 ·rw [Ss (fun h=>by have:=h.2.1.2; simp only at this; omega)]
  rw [Su hp2] at b3
  simp [uz,bx0,bx1,ct,ca,lt,m19,ft,fo,fa,l0,l1,b1,b2,b3,-aR,-ab,-aa,-aj,-frz,-cellsOf,-af,aV]
 rw [Ss hp2] at b3
 have mv:Cy.M19 [.z (o.length:Int),fV (bM T o),.z p,sv]=some (.bool (decide (dG (o.length:Int) (bM T o) p st))):=by
  simp only [Cy.M19,ki hO,iv1]
 have mr:∀p,Cy.M21 [.z (o.length:Int),fV (bM T o),.z p,pv]=some (.bool (decide (ey (o.length:Int) (bM T o) p pr))):=fun p=>by
  simp only [Cy.M21,ki hO,iv2]
 have fa':∀A n,frz A n (fV (bM T o))=fV (bM T o):=fun A n=>(aZ 4 _).frz n
 obtain ⟨V,hV⟩:∃V,V=fV (bM T o):=⟨_,rfl⟩
 rw [<-hV] at m19 mv fa'
 by_cases hver:dG (o.length:Int) (bM T o) p st
 rotate_left
 ·rw [Ss hver] at mv
  rw [Ss (fun h=>hver h.2.2.1)]
  simp [uz,bx0,bx1,ct,ca,lt,m19,ft,fo,fs,fa',aM,mv,hlo,fa,l0,l1,l2,b1,b2,b3,-aR,-ab,-aa,-aj,-frz,-cellsOf,-af,aV]
 rw [Su hver] at mv
 have b4:=bu p 1
 by_cases hp:p=1
 ·rw [Su hp] at b4
  have b5:af .eql (.z (pr.length:Int)) (.z 0)=some (.bool (decide (pr=[]))):=by
   rw [bu]
   congr 2
   exact TO.2 ⟨fun h=>S8.1 (by omega),fun h=>by rw [h]; rfl⟩
  have hc:Chk T ⟨p,o,st,pr⟩↔pr=[]:=by
   constructor
   ·intro h
    have:=h.2.2.2
    simp only at this
    rwa [SA hp] at this
   ·intro h
    refine ⟨hO,⟨by simp only; omega,by simp only; omega⟩,hver,?_⟩
    simp only
    rw [SA hp]; exact h
  rw [TO.2 hc]
  obtain ⟨d,hd⟩:∃d,d=decide (pr=[]):=⟨_,rfl⟩
  rw [<-hd] at b5 ⊢
  simp [uz,bx0,bx1,ct,ca,lt,m19,ft,fo,fs,fa',aM,mv,hlo,hlp,fa,l0,l1,l2,l3,b1,b2,b3,b4,b5,aV,-aR,-ab,-aa,-aj,-frz,-cellsOf,-af]
 ·rw [Ss hp] at b4
  have b6:af .sub (.z p) (.z 1)=some (.z (p-1)):=bK (by omega)
  have hc:Chk T ⟨p,o,st,pr⟩↔ey (o.length:Int) (bM T o) (p-1) pr:=by
   constructor
   ·intro h
    have:=h.2.2.2
    simp only at this
    rwa [SD hp] at this
   ·intro h
    refine ⟨hO,⟨by simp only; omega,by simp only; omega⟩,hver,?_⟩
    simp only
    rw [SD hp]; exact h
  rw [TO.2 hc]
  have mr:=mr (p-1)
  rw [<-hV] at mr
  obtain ⟨d,hd⟩:∃d,d=decide (ey (o.length:Int) (bM T o) (p-1) pr):=⟨_,rfl⟩
  rw [<-hd] at mr ⊢
  obtain ⟨p1,hp1'⟩:∃q,q=p-1:=⟨_,rfl⟩
  rw [<-hp1'] at mr b6
  simp [uz,bx0,bx1,ct,ca,lt,m19,ft,fo,fs,fp,fa',aM,mv,mr,hlo,fa,l0,l1,l2,l3,b1,b2,b3,b4,b6,aV,-aR,-ab,-aa,-aj,-frz,-cellsOf,-af]
end Rk
namespace Sm
open Go
def xb:MC:=.r [.F 28 27 26] (.seq (.cond (.var 28) .skip (.exit 2)) (.seq (.seq (.block 3 (.r [.M 1 25 27,.b 1 0,.c 12 1] (.r [.k 5 7,.k 4 11,.a 12,.L 7 0 1 2,.i 3,.j 4 0,.j 4 1,.c 13 5,.c 14 6] (.r [.k 5 7,.k 4 11,.a 12,.L 8 0 1 2,.i 3,.j 4 0,.j 4 1,.c 15 5,.c 16 6] (.r [.k 5 7,.a 8,.a 12,.k 4 11,.X 9 0 1 2 3,.i 4,.j 5 0,.j 5 1,.c 17 6,.c 18 7] (.r [.k 5 7,.a 8,.a 12,.k 4 11,.X 10 0 1 2 3,.i 4,.j 5 0,.j 5 1,.c 19 6,.c 20 7] (.r [.a 14,.a 16,.qn (.bin .neq (.tmp 0) (.tmp 1)),.i 2,.n 13 3,.n 15 3,.bz 11 4 5 3,.G 6 3,.I 3 7,.i 8,.n 18 9,.n 20 9,.bk 10 11 9,.I 9 12,.i 13,.n 17 14,.n 19 14,.bz 11 15 16 14,.G 17 14,.x 29 14 18] (.cond (.var 29) (.r [.g 5] .ret) .skip)))))))) (.kill [0,1,3,4,5,10,12,13,14,15,16,17,18,19,20,24,28,29])) (.region [.w 27 1,.c 27 0])))
def qr:List Nat:=[0,1,3,4,5,10,12,13,14,15,16,17,18,19,20,24,28,29]
def qv:MC:=.r [.F 24 23 22] (.seq (.cond (.var 24) .skip (.exit 0)) (.seq (.seq (.block 1 (.r [.M 4 21 23,.K 4 0,.aq 11 4,.t 4 11 1] (.r [.a 9,.a 2,.qs 25 (.buildSlice 1 [.tmp 0,.tmp 1]),.ac 26 25,.f 27 0] (.seq (.block 2 (.loop qr xb)) (.kill [0,1,3,4,5,10,11,12,13,14,15,16,17,18,19,20,24,25,26,27,28,29]))))) (.kill [0,1,3,4,5,10,11,12,13,14,15,16,17,18,19,20,24,25,26,27,28,29])) (.region [.w 23 1,.c 23 0])))
def ns:List Nat:=[0,1,3,4,5,10,11,12,13,14,15,16,17,18,19,20,24,25,26,27,28,29]
def mf3:cJ:=⟨3,30,.r [.y 3 0,.y 4 1,.g 5] (.r [.c5 4,.c 6 0] (.r [.k 6 3,.H 5 0,.i 1,.j 2 0,.j 2 1,.j 2 2,.V 7 5,.t 5 7 3,.c 8 4,.c 9 5] (.r [.k 5 7,.H 6 0,.i 1,.j 2 0,.j 2 1,.aq 10 4,.t 4 10 3,.i 4] (.r [.d 1 4,.b 1 0,.d 1 4,.b 1 2,.s 3,.ay 4,.an 1 1 5,.d 1 4,.A 1 7 6] (.r [.d 2 4,.b 1 0,.d 2 4,.b 1 2,.s 3,.ay 4,.an 1 1 5,.d 2 4,.A 1 7 6] (.r [.d 3 4,.b 1 0,.d 3 4,.b 1 2,.s 3,.ay 4,.an 1 1 5,.d 3 4,.A 1 7 6] (.seq (.r [.k 4 10,.k 4 4,.qs 21 (.buildSlice 4 [.tmp 0,.tmp 1]),.ac 22 21,.f 23 0] (.seq (.block 0 (.loop ns qv)) (.kill [0,1,2,3,4,5,7,8,9,10,11,12,13,14,15,16,17,18,19,20,21,22,23,24,25,26,27,28,29]))) (.r [.a 6,.c 5 0] .ret)))))))),[.tmp 5]⟩
abbrev wD (v2 v6 v7 v8 v9 v11 v21 v22 v23 v25 v26 v27:AV):List AV:=[.u,.u,v2,.u,.u,.u,v6,v7,v8,v9,.u,v11,.u,.u,.u,.u,.u,.u,.u,.u,.u,v21,v22,v23,.u,v25,v26,v27,.u,.u]
theorem Mc {v25 v26 v27:AV}:clear qr [d0,d1,v2,d3,d4,d5,v6,v7,v8,v9,d10,v11,d12,d13,d14,d15,d16,d17,d18,d19,d20,v21,v22,v23,d24,v25,v26,v27,d28,d29]=wD v2 v6 v7 v8 v9 v11 v21 v22 v23 v25 v26 v27:=by simp only [qr,clear,Ta,TJ,Tq,Tx]
theorem Ov {o:Out} {k:List KC} {v25 v26 v27:AV} (h:bG (evC E fuel xb) qr fuel (wD v2 v6 v7 v8 v9 v11 v21 v22 v23 v25 v26 v27) A=some o) :
  run E fuel (.code (.loop qr xb) :: k) [d0,d1,v2,d3,d4,d5,v6,v7,v8,v9,d10,v11,d12,d13,d14,d15,d16,d17,d18,d19,d20,v21,v22,v23,d24,v25,v26,v27,d28,d29] A=after E fuel k o:=aK qr _ _ (by rw [Mc]; exact h)
abbrev oM (v2 v6 v7 v8 v9 v21 v22 v23:AV):List AV:=[.u,.u,v2,.u,.u,.u,v6,v7,v8,v9,.u,.u,.u,.u,.u,.u,.u,.u,.u,.u,.u,v21,v22,v23,.u,.u,.u,.u,.u,.u]
theorem EU {d25 d26 d27:AV}:clear ns [d0,d1,v2,d3,d4,d5,v6,v7,v8,v9,d10,d11,d12,d13,d14,d15,d16,d17,d18,d19,d20,v21,v22,v23,d24,d25,d26,d27,d28,d29]=oM v2 v6 v7 v8 v9 v21 v22 v23:=by simp only [ns,clear,Ta,TJ,Tq,Tx]
theorem Ou {o:Out} {k:List KC} {d25 d26 d27:AV} (h:bG (evC E fuel qv) ns fuel (oM v2 v6 v7 v8 v9 v21 v22 v23) A=some o) :
  run E fuel (.code (.loop ns qv) :: k) [d0,d1,v2,d3,d4,d5,v6,v7,v8,v9,d10,d11,d12,d13,d14,d15,d16,d17,d18,d19,d20,v21,v22,v23,d24,d25,d26,d27,d28,d29] A=after E fuel k o:=aK ns _ _ (by rw [EU]; exact h)
theorem QR:aH prog Tryz.f3 3 [0,1,2,3,4,6,7,8,9,10,11,14,16,17,18,19,20,21,22,23,24,63,64,65,66,71,72,73,74,126] [] true ([ns,qr],[qr,ns,ns,[0,1,2,3,4,5,7,8,9,10,11,12,13,14,15,16,17,18,19,20,21,22,23,24,25,26,27,28,29]])=some mf3:=by kernel_rfl
def uY:MC:=.seq (.r [.a 9,.a 7,.aa 17 0 1] (.cond (.var 17) .skip (.exit 0))) (.seq (.seq (.block 1 (.region [.a 8,.d 1 4,.b 1 1,.a 9,.e 1 2 3,.b 1 4,.a 9,.e 1 0 5,.A 1 7 6])) (.kill [0,1,5,6,10,11,12,13,14,15,16,17,18,19,20,21,22])) (.region [.a 9,.h 0 1,.c 9 1]))
def tY:MC:=.seq (.r [.a 11,.a 7,.aa 18 0 1] (.cond (.var 18) .skip (.exit 2))) (.seq (.seq (.block 3 (.r [.a 10,.a 11,.a 10,.a 11,.r 3 1,.e 1 2 4,.b 1 5,.e 1 0 1,.A 1 7 6] (.r [.a 8,.a 11,.e 1 0 1,.b 1 2,.a 8,.a 11,.r 5 1,.e 1 4 6,.b 1 7,.D 19 3 8] (.cond (.var 19) (.region [.a 10,.a 11,.e 1 0 1,.b 1 2,.h 3 1,.e 1 0 1,.A 1 5 4]) .skip)))) (.kill [0,1,5,6,9,12,13,14,15,16,17,18,19,20,21,22])) (.region [.a 11,.h 0 1,.c 11 1]))
def tX:MC:=.seq (.r [.a 14,.a 7,.aa 21 0 1] (.cond (.var 21) .skip (.exit 6))) (.seq (.seq (.block 7 (.r [.d 1 4,.b 1 0,.a 14,.e 1 1 2,.b 1 3,.c 15 4] (.r [.a 10,.a 15,.e 1 0 1,.b 1 2,.a 13,.aa 22 3 4] (.cond (.var 22) (.region [.a 12,.a 15,.a 2,.d 3 3,.b 1 3,.m 2 4,.d 2 4,.b 1 6,.cx 1 7 0,.b 1 8,.ai 5 9,.a 13,.d 0 4,.b 1 12,.b8 11 13,.m 10 14,.d 2 4,.b 1 16,.a 15,.e 1 17 18,.b 1 19,.m 15 20,.a4 1 21,.cv 22,.aw 2 0 23,.c 12 24]) .skip)))) (.kill [0,1,5,6,8,9,11,15,16,17,18,19,20,21,22])) (.region [.a 14,.h 0 1,.c 14 1]))
def qo:List Nat:=[0,1,5,6,8,9,11,15,16,17,18,19,20,21,22]
def xa:MC:=.seq (.r [.a 13,.a 10,.a 7,.e 1 1 2,.b 1 3,.aa 20 0 4] (.cond (.var 20) .skip (.exit 4))) (.seq (.seq (.block 5 (.r [.f 14 0] (.seq (.block 6 (.loop qo tX)) (.kill [0,1,5,6,8,9,11,14,15,16,17,18,19,20,21,22])))) (.kill [0,1,5,6,8,9,11,14,15,16,17,18,19,20,21,22])) (.region [.a 13,.h 0 1,.c 13 1]))
def qq:List Nat:=[0,1,5,6,10,11,12,13,14,15,16,17,18,19,20,21,22]
def qp:List Nat:=[0,1,5,6,9,12,13,14,15,16,17,18,19,20,21,22]
def qn:List Nat:=[0,1,5,6,8,9,11,14,15,16,17,18,19,20,21,22]
def mf8:cJ:=⟨3,23,.r [.y 3 0,.y 4 1,.u 5,.f 6 0] (.seq (.r [.k 5 3,.H 26 0,.Q 1,.i 2,.bh 5 3 3,.bh 4 4 3,.bz 27 4 5 3,.G 6 3,.I 3 7,.i 8,.n 2 9,.be 28 10 9,.G 11 9,.x 16 9 12] (.cond (.var 16) (.r [.u 5,.f 6 140] .ret) .skip)) (.r [.d 0 3,.b 1 0,.s 1,.c 7 2] (.r [.a 7,.h 0 1,.ad 1 1,.c 8 2] (.seq (.r [.f 9 0] (.seq (.block 0 (.loop qq uY)) (.kill [0,1,5,6,9,10,11,12,13,14,15,16,17,18,19,20,21,22]))) (.r [.a 7,.h 0 1,.ad 1 1,.c 10 2] (.seq (.r [.f 11 1] (.seq (.block 2 (.loop qp tY)) (.kill [0,1,5,6,8,9,11,12,13,14,15,16,17,18,19,20,21,22]))) (.r [.u 12] (.seq (.r [.f 13 0] (.seq (.block 4 (.loop qn xa)) (.kill [0,1,2,3,4,5,6,7,8,9,10,11,13,14,15,16,17,18,19,20,21,22]))) (.r [.a 12,.c 5 0,.f 6 0] .ret))))))))),[.tmp 5,.tmp 6]⟩
abbrev D4 (v2 v3 v4 v7 v10 v12 v13 v14:AV):List AV:=[.u,.u,v2,v3,v4,.u,.u,v7,.u,.u,v10,.u,v12,v13,v14,.u,.u,.u,.u,.u,.u,.u,.u]
theorem Oo {o:Out} {k:List KC} {v14:AV} (h:bG (evC E fuel tX) qo fuel (D4 v2 v3 v4 v7 v10 v12 v13 v14) A=some o) :
  run E fuel (.code (.loop qo tX) :: k) [d0,d1,v2,v3,v4,d5,d6,v7,d8,d9,v10,d11,v12,v13,v14,d15,d16,d17,d18,d19,d20,d21,d22] A=after E fuel k o:=aK qo _ _ h
abbrev D6 (v2 v3 v4 v7 v8 v9:AV):List AV:=[.u,.u,v2,v3,v4,.u,.u,v7,v8,v9,.u,.u,.u,.u,.u,.u,.u,.u,.u,.u,.u,.u,.u]
theorem Ot {o:Out} {k:List KC} (h:bG (evC E fuel uY) qq fuel (D6 v2 v3 v4 v7 v8 v9) A=some o) :
  run E fuel (.code (.loop qq uY) :: k) [d0,d1,v2,v3,v4,d5,d6,v7,v8,v9,d10,d11,d12,d13,d14,d15,d16,d17,d18,d19,d20,d21,d22] A=after E fuel k o:=aK qq _ _ h
abbrev D5 (v2 v3 v4 v7 v8 v10 v11:AV):List AV:=[.u,.u,v2,v3,v4,.u,.u,v7,v8,.u,v10,v11,.u,.u,.u,.u,.u,.u,.u,.u,.u,.u,.u]
theorem Oq {o:Out} {k:List KC} (h:bG (evC E fuel tY) qp fuel (D5 v2 v3 v4 v7 v8 v10 v11) A=some o) :
  run E fuel (.code (.loop qp tY) :: k) [d0,d1,v2,v3,v4,d5,d6,v7,v8,d9,v10,v11,d12,d13,d14,d15,d16,d17,d18,d19,d20,d21,d22] A=after E fuel k o:=aK qp _ _ h
abbrev DZ (v2 v3 v4 v7 v10 v12 v13:AV):List AV:=[.u,.u,v2,v3,v4,.u,.u,v7,.u,.u,v10,.u,v12,v13,.u,.u,.u,.u,.u,.u,.u,.u,.u]
theorem On {o:Out} {k:List KC} (h:bG (evC E fuel xa) qn fuel (DZ v2 v3 v4 v7 v10 v12 v13) A=some o) :
  run E fuel (.code (.loop qn xa) :: k) [d0,d1,v2,v3,v4,d5,d6,v7,d8,d9,v10,d11,v12,v13,d14,d15,d16,d17,d18,d19,d20,d21,d22] A=after E fuel k o:=aK qn _ _ h
theorem QQ:aH prog Tryz.f8 3 [0,1,2,3,4,6,7,8,9,10,11,12,13,14,15,16,30,39,55,75,87,92,105] [] true ([qq,qp,qn,qo],[qq,[0,1,5,6,9,10,11,12,13,14,15,16,17,18,19,20,21,22],qp,[0,1,5,6,8,9,11,12,13,14,15,16,17,18,19,20,21,22],qo,qn,qn,[0,1,2,3,4,5,6,7,8,9,10,11,13,14,15,16,17,18,19,20,21,22]])=some mf8:=by kernel_rfl
def RX:cJ:=⟨4,15,.r [.y 4 0,.y 5 3,.u 6,.f 7 0] (.r [.k 5 4,.a 1,.a 2,.b7 29 0 1 2,.i 3,.j 4 0,.j 4 1,.c 8 5,.c 9 6] (.seq (.r [.a 9,.N 13 0] (.cond (.var 13) (.r [.u 6,.f 7 140] .ret) .skip)) (.r [.k 5 4,.a 1,.a 2,.a 8,.X 30 0 1 2 3,.i 4,.j 5 0,.j 5 1,.c 10 6,.i 7] (.r [.k 5 4,.k 4 5,.a 10,.L 8 0 1 2,.i 3,.j 4 0,.j 4 1,.c 11 5,.c 12 6] (.seq (.r [.a 12,.cq 14 0 0] (.cond (.var 14) (.r [.a 12,.u 6,.c 7 0] .ret) .skip)) (.r [.a 8,.a 11,.aw 2 0 1,.c 6 2,.f 7 0] .ret)))))),[.tmp 6,.tmp 7]⟩
theorem L8:aH prog Tryz.f10 4 [0,1,2,3,4,7,8,9,10,11,12,14,15,24,41] [] true ([],[])=some RX:=by kernel_rfl
end Sm
namespace Sm
open Go Tr
open Cy (GC aM aV az df)
open Clu (aW aT ai chA cy Chk jf isI aQ cf aY bK cH bu bP bQ cr)
def fs8:List (FuncId × aJ):=[(26,aE 4 M61),(27,aE 4 Rk.M27),(28,aE 4 M30)]
@[simp] theorem R5:aD fs8 26=some (aE 4 M61):=rfl
@[simp] theorem R2:aD fs8 27=some (aE 4 Rk.M27):=rfl
@[simp] theorem R1:aD fs8 28=some (aE 4 M30):=rfl
theorem Kg:∀f M,aD fs8 f=some M->au prog GC f M:=ag (au.of_pure Tr.Fd 4) (ag (au.of_pure Rk.si 4) (ag (au.of_pure lR 4) aB))
def M8:aU:=fun args=>evP (aq GC fs8) 300 mf8 4 args
theorem JR:aw prog GC 8 M8:=aw.of_ev (E:=aq GC fs8) (ax Kg) rfl (by kernel_rfl) QQ 4 fun _ _ h=>⟨300,h⟩
def atF (o:List Int) (n i:Nat):List Int:=(List.range (n+1)).map fun (t:Nat)=>if pos o (t:Int)<(i:Int)/\0<=pos o (t:Int) then pos o (t:Int) else 0
theorem Df (o:List Int) (n i:Nat):(atF o n i).length=n+1:=by simp [atF]
theorem I7 (h:Ord n o) {t:Nat} (ht:t<=n):(atF o n (n+1)).getD t 0=pos o (t:Int):=by
 obtain ⟨p,hp,e⟩:=h.has ht
 have e2:=(h.pos_eq ht hp).2 e
 have:=h.len
 unfold atF
 rw [Sr,TQ,T8 (by omega)]
 show (if _ then _ else (0:Int))=_
 rw [SA (by omega)]
theorem I6 (h:Ord n o) (hi:i<o.length) {t:Nat} (ht:o.getD i 0=(t:Int)):(atF o n i).set t (i:Int)=atF o n (i+1):=by
 apply TB
 ·simp [atF]
 intro j h1 h2
 have hj:j<=n:=by simp [atF] at h2; omega
 have k:=h.pos_eq hj hi
 simp only [atF,List.getElem_set,Tk,UA]
 by_cases e:t=j
 ·subst e
  rw [SA rfl,SA (by rw [k.2 ht]; omega),k.2 ht]
 ·have hne:pos o (j:Int)≠i:=fun hh=>e (by have:=k.1 hh; omega)
  rw [SD e]
  congr 1
  exact propext ⟨fun ⟨x,y⟩=>⟨by omega,y⟩,fun ⟨x,y⟩=>⟨by omega,y⟩⟩
section
variable {T:aW} {chv:AV} {s:cy} {ov sv pv:AV} {free:Int}
abbrev B8 (T:aW) (chv:AV) (s:cy) (ov sv pv:AV) (ps:List Int):ac:=A24 (ai T chv) (bc s ov sv pv) ps
abbrev s8a (free:Int) (n i:Nat):List AV:=D6 (.z free) (.p 0) (.p 1) (.z (n:Int)) (.sl 2 0 (n+1)) (.z (i:Int))
theorem HM (hs:jf s ov sv pv) {n:Nat} (hO:Ord n s.order) (hn:n<=100) (hi:i<=n) :
  run (aq GC fs8) 300 [.code uY] (s8a free n i) (B8 T chv s ov sv pv (atF s.order n i))=some (.normal (s8a free n (i+1)) (B8 T chv s ov sv pv (atF s.order n (i+1)))):=by
 unfold s8a
 have hil:i<s.order.length:=by rw [hO.len]; omega
 have hbd:=hO.bd _ (SC hil)
 obtain ⟨t,ht⟩:∃t:Nat,s.order[i]=(t:Int):=⟨(s.order[i]).toNat,by omega⟩
 have ht':s.order.getD i 0=(t:Int):=by rw [<-ht,Sr,Sq hil]; rfl
 obtain ⟨h1,h2,_⟩:=KZ (T:=T) (chv:=chv) hs (atF s.order n i) []
 rw [show A24 (ai T chv) (bc s ov sv pv) (atF s.order n i)++[]=B8 T chv s ov sv pv (atF s.order n i) from S5 _] at h1 h2
 have hr:(B8 T chv s ov sv pv (atF s.order n i))[2]?=some (.q (ak (atF s.order n i))):=rfl
 have b0':=cr (i:Int) (n:Int)
 rw [Su (by omega)] at b0'
 have b1:=aP i (by omega)
 have x1:=hs.o.int (A:=B8 T chv s ov sv pv (atF s.order n i)) _ _ (Sq hil) .i64
 rw [ht] at x1 hbd
 have i1:=cG (n:=n+1) hr (show t<n+1 by omega) .i64
 have s1:=gw hr (show t<(atF s.order n i).length by rw [Df]; omega) (i:Int)
 rw [I6 hO hil ht',show (B8 T chv s ov sv pv (atF s.order n i)).set 2 (.q (ak (atF s.order n (i+1))))=B8 T chv s ov sv pv (atF s.order n (i+1)) from rfl] at s1
 generalize B8 T chv s ov sv pv (atF s.order n i)=B0 at *
 generalize B8 T chv s ov sv pv (atF s.order n (i+1))=B1 at *
 generalize ((i+1:Nat):Int)=I1 at *
 generalize (i:Int)=I at *
 generalize (n:Int)=N at *
 simp [uY,b0',b1,x1,i1,s1,h1,h2,-af,-ab,-aA,-ae,-aa]
theorem KJ (hs:jf s ov sv pv) (hO:Ord n s.order) (hn:n<=100) :
  bG (evC (aq GC fs8) 300 uY) qq 300 (s8a free n 0) (B8 T chv s ov sv pv (atF s.order n 0))=some (.exit 0 ((s8a free n (n+1)).set 17 .f) (B8 T chv s ov sv pv (atF s.order n (n+1)))):=by
 refine g9 (fun k=>s8a free n k) (fun k=>B8 T chv s ov sv pv (atF s.order n k)) (n+1) (fun _=>rfl) (fun _ _ h=>by cases h) (fun i hi=>HM hs hO hn (by omega)) ?_ (by omega)
 have b0':=cr ((n+1:Nat):Int) (n:Int)
 rw [Ss (by omega)] at b0'
 show run _ _ _ _ _=some _
 unfold s8a
 generalize ((n+1:Nat):Int)=N1 at *
 simp [uY,b0',-af]
abbrev s8b (free:Int) (n i:Nat):List AV:=D5 (.z free) (.p 0) (.p 1) (.z (n:Int)) (.sl 2 0 (n+1)) (.sl 3 0 (n+1)) (.z (i:Int))
abbrev C8 (T:aW) (chv:AV) (s:cy) (ov sv pv:AV) (n:Nat) (ks:List Int):ac:=B8 T chv s ov sv pv (atF s.order n (n+1))++[.q (ak ks)]
theorem HL {n:Nat} (hO:Ord n s.order) (hn:n<=100) {k:Nat} (hi:k+1<=n) :
  run (aq GC fs8) 300 [.code tY] (s8b free n (k+1)) (C8 T chv s ov sv pv n (inF s.order n (k+1)))=some (.normal (s8b free n (k+2)) (C8 T chv s ov sv pv n (inF s.order n (k+2)))):=by
 unfold s8b
 have hr:∀ks,(C8 T chv s ov sv pv n ks)[3]?=some (.q (ak ks)):=fun ks=>rfl
 have ha:∀ks,(C8 T chv s ov sv pv n ks)[2]?=some (.q (ak (atF s.order n (n+1)))):=fun ks=>rfl
 have hset:∀ks ks',(C8 T chv s ov sv pv n ks).set 3 (.q (ak ks'))=C8 T chv s ov sv pv n ks':=fun ks ks'=>rfl
 have hl:=nv s.order (n:=n) (i:=k+1) (by omega)
 have b0':=cr ((k+1:Nat):Int) (n:Int)
 rw [Su (by omega)] at b0'
 have b1:af .sub (.z ((k+1:Nat):Int)) (.z 1)=some (.z (k:Int)):=by rw [bK (by omega)]; congr 2; omega
 have b2:=aP (k+1) (by omega)
 have i1:=cG (n:=n+1) (hr (inF s.order n (k+1))) (show k<n+1 by omega) .i64
 have i2:=cG (n:=n+1) (hr (inF s.order n (k+1))) (show k+1<n+1 by omega) .i64
 have d1:=dN (hr (inF s.order n (k+1))) (show k<(inF s.order n (k+1)).length by omega)
 rw [nw s.order (by omega)] at d1
 have s1:=gw (hr (inF s.order n (k+1))) (show k+1<(inF s.order n (k+1)).length by omega) (kF s.order k)
 rw [hset] at s1
 obtain ⟨ks1,hks1⟩:∃ks1,ks1=(inF s.order n (k+1)).set (k+1) (kF s.order k):=⟨_,rfl⟩
 rw [<-hks1] at s1
 have hl1:ks1.length=n+1:=by rw [hks1,Ti,hl]
 have la:=Df s.order n (n+1)
 have j1:=cG (n:=n+1) (ha ks1) (show k+1<n+1 by omega) .i64
 have j0:=cG (n:=n+1) (ha ks1) (show k<n+1 by omega) .i64
 have m1:=dN (ha ks1) (show k+1<_ by rw [la]; omega)
 have m0:=dN (ha ks1) (show k<_ by rw [la]; omega)
 rw [I7 hO (by omega)] at m1 m0
 have b3:=bP (pos s.order ((k+1:Nat):Int)) (pos s.order (k:Int))
 have hk:=zM s.order k
 have ek:kF s.order (k+1)=kF s.order k+(if pos s.order ((k+1:Nat):Int)<pos s.order (k:Int) then 1 else 0):=by simp only [kF,hF]; push_cast; rfl
 by_cases hp:pos s.order ((k+1:Nat):Int)<pos s.order (k:Int)
 ·rw [Su hp] at b3
  rw [SA hp] at ek
  have i3:=cG (n:=n+1) (hr ks1) (show k+1<n+1 by omega) .i64
  have d3:=dN (hr ks1) (show k+1<ks1.length by omega)
  have e3:ks1.getD (k+1) 0=kF s.order k:=by rw [hks1,dh,SA ⟨rfl,by omega⟩]
  rw [e3] at d3
  have b4:af .add (.z (kF s.order k)) (.z 1)=some (.z (kF s.order (k+1))):=by rw [ek]; exact aY (by omega)
  have s3:=gw (hr ks1) (show k+1<ks1.length by omega) (kF s.order (k+1))
  rw [hset,hks1,(t5 s.order (i:=k+1) (by omega) (kF s.order k)).1,<-hks1] at s3
  generalize C8 T chv s ov sv pv n (inF s.order n (k+1))=B0 at *
  generalize C8 T chv s ov sv pv n ks1=B1 at *
  generalize C8 T chv s ov sv pv n (inF s.order n (k+1+1))=B2 at *
  generalize kF s.order (k+1)=z1 at *
  generalize kF s.order k=z0 at *
  generalize pos s.order ((k+1:Nat):Int)=p1 at *
  generalize pos s.order (k:Int)=p0 at *
  generalize ((k+1+1:Nat):Int)=K2 at *
  generalize ((k+1:Nat):Int)=K1 at *
  generalize (k:Int)=K0 at *
  generalize (n:Int)=N at *
  simp [tY,b0',b1,b2,b3,b4,i1,i2,i3,d1,d3,s1,s3,j1,j0,m1,m0,-af,-ab,-aA,-ae]
 ·rw [Ss hp] at b3
  rw [SD hp] at ek
  have e2:ks1=inF s.order n (k+1+1):=by
   rw [hks1,<-(t5 s.order (n:=n) (i:=k+1) (by omega) 0).2,ek,UW]
  rw [<-e2]
  generalize C8 T chv s ov sv pv n (inF s.order n (k+1))=B0 at *
  generalize C8 T chv s ov sv pv n ks1=B1 at *
  generalize kF s.order k=z0 at *
  generalize pos s.order ((k+1:Nat):Int)=p1 at *
  generalize pos s.order (k:Int)=p0 at *
  generalize ((k+1+1:Nat):Int)=K2 at *
  generalize ((k+1:Nat):Int)=K1 at *
  generalize (k:Int)=K0 at *
  generalize (n:Int)=N at *
  simp [tY,b0',b1,b2,b3,i1,i2,d1,s1,j1,j0,m1,m0,-af,-ab,-aA,-ae]
theorem KI (hO:Ord n s.order) (hn:n<=100) :
  bG (evC (aq GC fs8) 300 tY) qp 300 (s8b free n 1) (C8 T chv s ov sv pv n (inF s.order n 1))=some (.exit 2 ((s8b free n (n+1)).set 18 .f) (C8 T chv s ov sv pv n (inF s.order n (n+1)))):=by
 refine g9 (fun k=>s8b free n (k+1)) (fun k=>C8 T chv s ov sv pv n (inF s.order n (k+1))) n (fun _=>rfl) (fun _ _ h=>by cases h) (fun i hi=>HL hO hn (by omega)) ?_ (by omega)
 have b0':=cr ((n+1:Nat):Int) (n:Int)
 rw [Ss (by omega)] at b0'
 show run _ _ _ _ _=some _
 unfold s8b
 generalize ((n+1:Nat):Int)=N1 at *
 simp [tY,b0',-af]
end
end Sm
namespace Sm
open Go Tr
open Cy (GC aM aV az df)
open Clu (aW aT ai chA cy Chk jf isI aQ cf aY bK cH bu bP bQ cr)
def wv (l:List dc):AV:=if l=[] then .nilS else .sl 4 0 l.length
theorem Bc {B:ac} (hB:B.length=4) (l:List dc) (t:dc) (hl:l.length<=1000):aL 2 16 (B++oR l) (wv l) (.fs 2 [aX t])=some (wv (l++[t]),B++oR (l++[t])):=by
 have hne:l++[t]≠[]:=by simp
 have e1:wv (l++[t])=.sl 4 0 (l.length+1):=by unfold wv; rw [SD hne]; simp
 by_cases h:l=[]
 ·subst h
  simp [oR,wv,aL,a8,hB]
 ·have h1:0<l.length:=TI.2 h
  have e2:B++oR (l++[t])=B++[.row 2 true (l.map aX++[aX t])]:=by
   unfold oR; rw [SD hne,Su (by simp; omega)]; simp
  have e3:wv l=.sl 4 0 l.length:=by unfold wv; rw [SD h]
  have e0:oR l=[.row 2 (decide (1<l.length)) (l.map aX)]:=by unfold oR; rw [SD h]
  rw [e1,e2,e3,e0]
  have hrow:(B++[Ent.row 2 (decide (1<l.length)) (l.map aX)])[4]?=some (.row 2 (decide (1<l.length)) (l.map aX)):=by rw [<-hB]; simp
  simp only [aL,c9,hrow,SF,T5]
  rw [SA ⟨trivial,by omega,by omega,by omega⟩,SA ⟨trivial,trivial,by omega⟩]
  rw [SQ _ _ (by omega),hB]; rfl
section
variable {T:aW} {chv:AV} {s:cy} {ov sv pv:AV} {free:Int}
abbrev D8 (T:aW) (chv:AV) (s:cy) (ov sv pv:AV) (l:List dc):ac:=C8 T chv s ov sv pv T.ch.length (inF s.order T.ch.length (T.ch.length+1))++oR l
abbrev s8c (free:Int) (n:Nat) (l:List dc) (r i:Nat):List AV:=D4 (.z free) (.p 0) (.p 1) (.z (n:Int)) (.sl 3 0 (n+1)) (wv l) (.z (r:Int)) (.z (i:Int))
theorem HK (hc:Chk T s) (hv:aT T) (hs:jf s ov sv pv) (hf:0<=free/\free<=2000000) {l:List dc} (hl:l.length<=500) {r:Nat} (hr:r<=100) (hi:i<=T.ch.length) :
  ∃l',l'=(if kF s.order (s.order.getD i 0).toNat<=r then l++[tk T s free r (s.order.getD i 0)] else l) /\
  run (aq GC fs8) 300 [.code tX] (s8c free T.ch.length l r i) (D8 T chv s ov sv pv l)=some (.normal (s8c free T.ch.length l' r (i+1)) (D8 T chv s ov sv pv l')):=by
 refine ⟨_,rfl,?_⟩
 unfold s8c
 obtain ⟨c1,c2,c3,c4,c5⟩:=iY hc
 have hn4:=hv.2.2.2.1
 have hil:i<s.order.length:=by omega
 have hmem:s.order.getD i 0∈s.order:=by rw [Sr,Sq hil]; exact SC hil
 obtain ⟨t,ht⟩:∃t:Nat,s.order.getD i 0=(t:Int):=⟨(s.order.getD i 0).toNat,by have:=c5 _ hmem; omega⟩
 have htn:t<=T.ch.length:=by have:=c5 _ hmem; omega
 have hop:s.order[i]=(t:Int):=by rw [<-ht,Sr,Sq hil]; rfl
 rw [ht,SM]
 have x1:=hs.o.int (A:=D8 T chv s ov sv pv l) _ _ (Sq hil) .i64
 rw [hop] at x1
 have b0':=cr (i:Int) (T.ch.length:Int)
 rw [Su (by omega)] at b0'
 have b9:=aP i (by omega)
 obtain ⟨h1,h2,h3,h4,h5,h6,h7,h8⟩:=KZ (T:=T) (chv:=chv) hs (atF s.order T.ch.length (T.ch.length+1)) (.q (ak (inF s.order T.ch.length (T.ch.length+1))) :: oR l)
 have hD:A24 (ai T chv) (bc s ov sv pv) (atF s.order T.ch.length (T.ch.length+1))++(.q (ak (inF s.order T.ch.length (T.ch.length+1))) :: oR l)=D8 T chv s ov sv pv l:=rfl
 rw [hD] at h1 h2 h3 h4 h5 h6 h7 h8
 have hrow:(D8 T chv s ov sv pv l)[3]?=some (.q (ak (inF s.order T.ch.length (T.ch.length+1)))):=rfl
 have i1:=cG (n:=T.ch.length+1) hrow (show t<T.ch.length+1 by omega) .i64
 have d1:=dN hrow (show t<(inF s.order T.ch.length (T.ch.length+1)).length by rw [nv _ (by omega)]; omega)
 rw [nw s.order (by omega)] at d1
 have b1:=cr (kF s.order t) (r:Int)
 have y0:=hs.st.int (A:=D8 T chv s ov sv pv l) _ _ (Sq (show 0<s.starts.length by omega)) .i64
 have y1:=hs.st.int (A:=D8 T chv s ov sv pv l) _ _ (Sq (show t<s.starts.length by omega)) .i64
 have e0:s.starts[0]'(by omega)=stD s 0:=by unfold stD; rw [Sr,Sq (by omega)]; rfl
 have e1:s.starts[t]'(by omega)=stD s t:=by unfold stD; rw [Sr,Sq (by omega)]; rfl
 rw [e0] at y0
 rw [e1] at y1
 have y0:ae 1 (D8 T chv s ov sv pv l) sv (.z 0)=some (.fp [.z (stD s 0)]):=y0
 have w:=de hv
 have s0:=DY hc 0
 have st:=DY hc t
 have hmul:0<=(r:Int)*s.period/\(r:Int)*s.period<=100*1000000:=by
  refine ⟨Int.mul_nonneg (by omega) (by omega),?_⟩
  exact Int.mul_le_mul (by omega) c4.2 (by omega) (by omega)
 have b2:af .add (.z free) (.z T.travel)=some (.z (free+T.travel)):=aY (by omega)
 have b3:af .sub (.z (free+T.travel)) (.z (stD s 0))=some (.z (bsF T s free)):=bK (by omega)
 have b4:=Ml (r:Int) s.period (by unfold inI; omega)
 have b5:af .add (.z (bsF T s free)) (.z ((r:Int)*s.period))=some (.z (bsF T s free+(r:Int)*s.period)):=aY (by unfold bsF; omega)
 have b6:af .add (.z (bsF T s free+(r:Int)*s.period)) (.z (stD s t))=some (.z (bsF T s free+(r:Int)*s.period+stD s t)):=aY (by unfold bsF; omega)
 have ap:=Bc (B:=C8 T chv s ov sv pv T.ch.length (inF s.order T.ch.length (T.ch.length+1))) rfl l (tk T s free r (t:Int)) (by omega)
 have etk:tk T s free r (t:Int)=((t:Int),bsF T s free+(r:Int)*s.period+stD s t):=by simp only [tk,SM]
 rw [etk] at ap ⊢
 have ap:aL 2 16 (D8 T chv s ov sv pv l) (wv l) (.fs 2 [.agg [.z (t:Int),.z (bsF T s free+(r:Int)*s.period+stD s t)]])=_:=ap
 have hbf:bp 2 [.agg [.z (t:Int),.z (bsF T s free+(r:Int)*s.period+stD s t)]]=some (.fs 2 [.agg [.z (t:Int),.z (bsF T s free+(r:Int)*s.period+stD s t)]]):=rfl
 clear hD hrow
 by_cases hk:kF s.order t<=r
 ·rw [Su hk] at b1
  rw [SA hk]
  generalize l++[((t:Int),bsF T s free+(r:Int)*s.period+stD s t)]=l2 at *
  have ap:aL 2 16 (D8 T chv s ov sv pv l) (wv l) (.fs 2 [.agg [.z (t:Int),.z (bsF T s free+(r:Int)*s.period+stD s t)]])=some (wv l2,D8 T chv s ov sv pv l2):=ap
  generalize D8 T chv s ov sv pv l2=B1 at *
  generalize D8 T chv s ov sv pv l=B0 at *
  generalize bsF T s free+(r:Int)*s.period+stD s t=z5 at *
  generalize bsF T s free+(r:Int)*s.period=z4 at *
  generalize (r:Int)*s.period=z3 at *
  generalize bsF T s free=z2 at *
  generalize free+T.travel=z1 at *
  generalize stD s 0=y0' at *
  generalize stD s t=y1' at *
  generalize kF s.order t=z0 at *
  generalize ((i+1:Nat):Int)=P1 at *
  generalize (i:Int)=P0 at *
  simp [tX,b0',b1,b2,b3,b4,b5,b6,b9,x1,i1,d1,h1,h2,h3,h4,h5,h6,h7,h8,y0,y1,hbf,ap,-af,-ab,-ae,-aa,-bp]
 ·rw [Ss hk] at b1
  rw [SD hk]
  generalize D8 T chv s ov sv pv l=B0 at *
  generalize kF s.order t=z0 at *
  generalize ((i+1:Nat):Int)=P1 at *
  generalize (i:Int)=P0 at *
  simp [tX,b0',b1,b9,x1,i1,d1,h1,h2,-af,-ab,-ae,-aa,-bp]
theorem KH (hc:Chk T s) (hv:aT T) (hs:jf s ov sv pv) (hf:0<=free/\free<=2000000) {r:Nat} (hr:r<=100):∀(c p m:Nat) (l:List dc),p+c=s.order.length->l.length+c<=400->c<m ->
  ∃l',l'=l++((s.order.drop p).filter fun t=>decide (kF s.order t.toNat<=r)).map (tk T s free r) /\
  bG (evC (aq GC fs8) 300 tX) qo m (s8c free T.ch.length l r p) (D8 T chv s ov sv pv l)=some (.exit 6 ((s8c free T.ch.length l' r s.order.length).set 21 .f) (D8 T chv s ov sv pv l')):=by
 have c1:=(iY hc).1
 intro c
 induction c with
 | zero=>
  intro p m l hp hl hm
  obtain ⟨m,rfl⟩:∃j,m=j+1:=⟨m-1,by omega⟩
  obtain rfl:p=s.order.length:=by omega
  refine ⟨l,by rw [TN]; simp,?_⟩
  have b0':=cr (s.order.length:Int) (T.ch.length:Int)
  rw [Ss (by omega)] at b0'
  unfold s8c
  rw [UB rfl]
  simp [tX,b0',-af]
 | succ c ih=>
  intro p m l hp hl hm
  obtain ⟨m,rfl⟩:∃j,m=j+1:=⟨m-1,by omega⟩
  have hpl:p<s.order.length:=by omega
  obtain ⟨l1,h1,h2⟩:=HK (chv:=chv) hc hv hs hf (l:=l) (by omega) hr (show p<=T.ch.length by omega)
  have hl1:l1.length<=l.length+1:=by rw [h1]; split <;> simp
  obtain ⟨l',h3,h5⟩:=ih (p+1) m l1 (by omega) (by omega) (by omega)
  have hg:s.order.getD p 0=s.order[p]:=by rw [Sr,Sq hpl]; rfl
  refine ⟨l',?_,?_⟩
  ·rw [h3,h1,hg,To hpl,Uw]
   by_cases hk:kF s.order (s.order[p]).toNat<=r
   ·rw [SA hk,Su hk,SA rfl,Tw,SO]; rfl
   ·rw [SD hk,Ss hk,SD (by decide)]
  ·unfold s8c at h2 h5 ⊢
   rw [UB rfl,h2]
   exact h5
abbrev s8d (free:Int) (n:Nat) (l:List dc) (r:Nat):List AV:=DZ (.z free) (.p 0) (.p 1) (.z (n:Int)) (.sl 3 0 (n+1)) (wv l) (.z (r:Int))
theorem KG (hc:Chk T s) (hv:aT T) (hs:jf s ov sv pv) (hf:0<=free/\free<=2000000) {R:Nat} (hR:kF s.order T.ch.length+1=(R:Int)) (hR6:R<=6) :
  bG (evC (aq GC fs8) 300 xa) qn 300 (s8d free T.ch.length [] 0) (D8 T chv s ov sv pv [])=some (.exit 4 ((s8d free T.ch.length (dC T s free R) R).set 20 .f) (D8 T chv s ov sv pv (dC T s free R))):=by
 have hn4:=hv.2.2.2.1
 have c1:=(iY hc).1
 have hrow:∀l,(D8 T chv s ov sv pv l)[3]?=some (.q (ak (inF s.order T.ch.length (T.ch.length+1)))):=fun l=>rfl
 have i1:=fun l=>cG (n:=T.ch.length+1) (hrow l) (show T.ch.length<T.ch.length+1 by omega) .i64
 have d1:=fun l=>dN (hrow l) (show T.ch.length<(inF s.order T.ch.length (T.ch.length+1)).length by rw [nv _ (by omega)]; omega)
 rw [nw s.order (by omega)] at d1
 refine g9 (fun r=>s8d free T.ch.length (dC T s free r) r) (fun r=>D8 T chv s ov sv pv (dC T s free r)) R (fun _=>rfl) (fun _ _ h=>by cases h) (fun r hr=>?_) ?_ (by omega)
 ·have hll:=qK hc free r
  have hm:(T.ch.length+1)*r<=5*6:=Nat.mul_le_mul (by omega) (by omega)
  obtain ⟨l',e1,lp⟩:=KH (chv:=chv) hc hv hs hf (r:=r) (by omega) s.order.length 0 300 (dC T s free r) (by omega) (by omega) (by omega)
  have e:l'=dC T s free (r+1):=by
   rw [e1,SL]
   unfold dC cyc
   rw [T7,Uu,Uj,List.flatMap_nil,S5]
  rw [e] at lp
  have b0':=cr (r:Int) (kF s.order T.ch.length)
  rw [Su (by omega)] at b0'
  have b1:=aP r (by omega)
  have i1:=i1 (dC T s free r)
  have d1:=d1 (dC T s free r)
  show run _ _ _ _ _=some (.normal _ _)
  unfold s8c at lp
  unfold s8d
  have lp:bG (evC (aq GC fs8) 300 tX) qo 300 (D4 (.z free) (.p 0) (.p 1) (.z (T.ch.length:Int)) (.sl 3 0 (T.ch.length+1)) (wv (dC T s free r)) (.z (r:Int)) (.z 0)) _=_:=lp
  clear hrow
  generalize D8 T chv s ov sv pv (dC T s free r)=B0 at *
  generalize D8 T chv s ov sv pv (dC T s free (r+1))=B1 at *
  generalize ((r+1:Nat):Int)=r1 at *
  generalize (r:Int)=r0 at *
  generalize kF s.order T.ch.length=z at *
  generalize (T.ch.length:Int)=N at *
  simp [xa,b0',b1,i1,d1,Oo lp,-af,-ab,-ae]
 ·have b0':=cr (R:Int) (kF s.order T.ch.length)
  rw [Ss (by omega)] at b0'
  have i1:=i1 (dC T s free R)
  have d1:=d1 (dC T s free R)
  show run _ _ _ _ _=some _
  unfold s8d
  clear hrow
  generalize D8 T chv s ov sv pv (dC T s free R)=B0 at *
  generalize kF s.order T.ch.length=z at *
  generalize (T.ch.length:Int)=N at *
  simp [xa,b0',i1,d1,-af,-ab,-ae]
open Classical in
theorem MI (hb:SlA 2 (T.ch.map chA) chv) (hl:T.ch.length<=200) (hs:jf s ov sv pv) (hol:s.order.length<=200) (hoi:∀z∈s.order,inI z):∃v,M8 [ai T chv,bc s ov sv pv,.z free]=some (.tup [v,.z (zX (gE T s free))])/\SlA 2 (((gE T s free).getD []).map aX) v:=by
 have m1:=GD hb hl
 have m3:=cq free 0 2000000
 have ft:=fun A=>aQ (T:=T) (fun A n=>hb.frz (A:=A) n) A 3
 have fs:∀A,frz A 4 (bc s ov sv pv)=bc s ov sv pv:=fun A=>by
  show AV.agg [_,frz A 3 ov,frz A 3 sv,frz A 3 pv]=_
  rw [hs.o.frz,hs.st.frz,hs.pr.frz]; rfl
 have bx0:aR 5 (ai T chv) []=some (.p 0,[.row 5 false [ai T chv]]):=rfl
 have bx1:aR 4 (bc s ov sv pv) [.row 5 false [ai T chv]]=some (.p 1,[.row 5 false [ai T chv],.row 4 false [bc s ov sv pv]]):=rfl
 have ct:(cellsOf (ai T chv)).length=5:=rfl
 have cs:(cellsOf (bc s ov sv pv)).length=4:=rfl
 obtain ⟨A0,hA0⟩:∃A:ac,A=[.row 5 false [ai T chv],.row 4 false [bc s ov sv pv]]:=⟨_,rfl⟩
 have lt:ab true 5 A0 (.p 0)=some (ai T chv):=by rw [hA0]; rfl
 have lsA:ab true 4 A0 (.p 1)=some (bc s ov sv pv):=by rw [hA0]; rfl
 have fa0:aa 0 A0 (.p 0)=some (.p 0):=by rw [hA0]; rfl
 have lch:ab false 1 A0 (.p 0)=some chv:=by
  rw [hA0]
  rcases hb with ⟨rfl,_⟩ | rfl <;> rfl
 have lnc:=hb.len
 rw [SF] at lnc
 rw [<-hA0] at bx1
 unfold M8
 by_cases h1:isT T
 rotate_left
 ·have e:gE T s free=none:=SD fun k=>h1 k.1
  rw [e]
  refine ⟨.nilS,?_,.inl ⟨rfl,rfl⟩⟩
  show _=some (AV.tup [.nilS,.z 140])
  have ff:∀A:ac,frz A 4 (.tup [.nilS,.z 140])=.tup [.nilS,.z 140]:=fun _=>rfl
  rw [Ss h1] at m1
  generalize ai T chv=tv at *
  generalize bc s ov sv pv=sA at *
  rw [aO _ _ rfl]
  simp [mf8,bx0,bx1,ct,cs,lt,m1,ft,ff,dI,br,-aR,-ab,-frz,-cellsOf]
 have m2:=Rk.tw hb hl hs hol hoi h1.1 h1.2
 have hagg:(.agg [.z s.period,ov,sv,pv]:AV)=bc s ov sv pv:=rfl
 rw [hagg] at m2
 rw [Su h1] at m1
 by_cases hok:vA T s free
 rotate_left
 ·have e:gE T s free=none:=SD hok
  rw [e]
  refine ⟨.nilS,?_,.inl ⟨rfl,rfl⟩⟩
  show _=some (AV.tup [.nilS,.z 140])
  have ff:∀A:ac,frz A 4 (.tup [.nilS,.z 140])=.tup [.nilS,.z 140]:=fun _=>rfl
  generalize ai T chv=tv at *
  generalize bc s ov sv pv=sA at *
  by_cases h2:Chk T s
  rotate_left
  ·rw [Ss h2] at m2
   rw [aO _ _ rfl]
   simp [mf8,bx0,bx1,ct,cs,lt,lsA,m1,m2,ft,fs,ff,dI,br,-aR,-ab,-frz,-cellsOf]
  rw [Su h2] at m2
  have mb:iD free 0 2000000=false:=by
   cases e:iD free 0 2000000
   ·rfl
   ·exact absurd ⟨h1,h2,cP.1 e⟩ hok
  rw [mb] at m3
  rw [aO _ _ rfl]
  simp [mf8,bx0,bx1,ct,cs,lt,lsA,m1,m2,m3,ft,fs,ff,aM,dI,br,-aR,-ab,-frz,-cellsOf,-cq]
 have e:gE T s free=some (dC T s free (kF s.order T.ch.length+1).toNat):=SA hok
 rw [e]
 obtain ⟨_,h2,h3⟩:=hok
 rw [Su h2] at m2
 rw [cP.2 h3] at m3
 have hv:=h1.1
 have hn4:=hv.2.2.2.1
 have hO:=Fl h2.1
 have hk:=zM s.order T.ch.length
 obtain ⟨R,hR⟩:∃R:Nat,kF s.order T.ch.length+1=(R:Int):=⟨(kF s.order T.ch.length+1).toNat,by omega⟩
 rw [hR,SM]
 have b1:af .add (.z (T.ch.length:Int)) (.z 1)=some (.z ((T.ch.length+1:Nat):Int)):=aP _ (by omega)
 have z0:List.replicate (T.ch.length+1) (AV.int .i64 0)=ak (List.replicate (T.ch.length+1) 0):=by unfold ak; rw [UP]
 have mk0:bY 1 8 (.z 0) A0 (.z ((T.ch.length+1:Nat):Int)) (.z ((T.ch.length+1:Nat):Int))=some (.sl 2 0 (T.ch.length+1),B8 T chv s ov sv pv (atF s.order T.ch.length 0)):=by
  have e0:atF s.order T.ch.length 0=List.replicate (T.ch.length+1) 0:=by
   unfold atF
   apply TB
   ·simp
   ·intro i _ _
    rw [Tk,List.getElem_replicate,SD (by omega)]
  simp only [bY]
  rw [SA ⟨by omega,by omega,by omega,by omega,rfl,rfl,by omega⟩,SM,hA0,z0,e0]
  rfl
 have mk1:bY 1 8 (.z 0) (B8 T chv s ov sv pv (atF s.order T.ch.length (T.ch.length+1))) (.z ((T.ch.length+1:Nat):Int)) (.z ((T.ch.length+1:Nat):Int))=some (.sl 3 0 (T.ch.length+1),C8 T chv s ov sv pv T.ch.length (inF s.order T.ch.length 1)):=by
  have e0:inF s.order T.ch.length 1=List.replicate (T.ch.length+1) 0:=by
   unfold inF
   simp [kF,UK]
  simp only [bY]
  rw [SA ⟨by omega,by omega,by omega,by omega,rfl,rfl,by omega⟩,SM,z0,e0]
  rfl
 have lpa:=KJ (T:=T) (chv:=chv) (free:=free) hs hO (by omega)
 have lpb:=KI (T:=T) (chv:=chv) (free:=free) (ov:=ov) (sv:=sv) (pv:=pv) hO (by omega)
 have lpd:=KG (chv:=chv) h2 hv hs h3 hR (by omega)
 unfold s8a at lpa
 unfold s8b at lpb
 unfold s8d at lpd
 have hor:D8 T chv s ov sv pv []=C8 T chv s ov sv pv T.ch.length (inF s.order T.ch.length (T.ch.length+1)):=by
  show _++oR []=_
  unfold oR; rw [SA rfl,S5]
 rw [hor] at lpd
 have lpa:bG (evC (aq GC fs8) 300 uY) qq 300 (D6 (.z free) (.p 0) (.p 1) (.z (T.ch.length:Int)) (.sl 2 0 (T.ch.length+1)) (.z 0)) _=_:=lpa
 have lpb:bG (evC (aq GC fs8) 300 tY) qp 300 (D5 (.z free) (.p 0) (.p 1) (.z (T.ch.length:Int)) (.sl 2 0 (T.ch.length+1)) (.sl 3 0 (T.ch.length+1)) (.z 1)) _=_:=lpb
 have lpd:bG (evC (aq GC fs8) 300 xa) qn 300 (DZ (.z free) (.p 0) (.p 1) (.z (T.ch.length:Int)) (.sl 3 0 (T.ch.length+1)) .nilS (.z 0)) _=_:=lpd
 obtain ⟨l,hll⟩:∃l,l=dC T s free R:=⟨_,rfl⟩
 rw [<-hll] at lpd ⊢
 have hfz:frz (D8 T chv s ov sv pv l) 4 (.tup [wv l,.z 0])=.tup [slA 2 (l.map aX),.z 0]:=by
  show AV.tup [frz _ 3 (wv l),_]=_
  unfold wv D8 oR
  by_cases h0:l=[]
  ·rw [h0]; rfl
  ·rw [SD h0,SD h0]
   have hrw:(C8 T chv s ov sv pv T.ch.length (inF s.order T.ch.length (T.ch.length+1))++[Ent.row 2 (decide (1<l.length)) (l.map aX)])[4]?=some (.row 2 (decide (1<l.length)) (l.map aX)):=rfl
   have e:=dB (off:=0) (xs:=l.map aX) hrw (by rw [SL,SX]) (fun n x hx=>by
    obtain ⟨c,_,rfl⟩:=SU.1 hx
    cases n <;> rfl) 1
   rw [SF] at e
   rw [e]
   cases l with
   | nil=>exact absurd rfl h0
   | cons t r=>rfl
 refine ⟨slA 2 (l.map aX),?_,aZ 2 _⟩
 show _=some (AV.tup [slA 2 (l.map aX),.z 0])
 clear hor hA0
 generalize D8 T chv s ov sv pv l=B4 at *
 generalize C8 T chv s ov sv pv T.ch.length (inF s.order T.ch.length (T.ch.length+1))=B3 at *
 generalize C8 T chv s ov sv pv T.ch.length (inF s.order T.ch.length 1)=B2 at *
 generalize B8 T chv s ov sv pv (atF s.order T.ch.length (T.ch.length+1))=B1 at *
 generalize B8 T chv s ov sv pv (atF s.order T.ch.length 0)=B0 at *
 generalize ai T chv=tv at *
 generalize bc s ov sv pv=sA at *
 generalize ((T.ch.length+1:Nat):Int)=N1 at *
 generalize hN:(T.ch.length:Int)=N at *
 rw [aO _ _ rfl]
 simp [mf8,bx0,bx1,ct,cs,lt,lsA,m1,m2,m3,ft,fs,aM,fa0,lch,lnc,b1,mk0,mk1,Ot lpa,Oq lpb,On lpd,hfz,dI,br,-aR,-ab,-aa,-aj,-bY,-frz,-cellsOf,-af,-cq]
end
end Sm
namespace Sm
open Go Tr
open Cy (GC aM aV az)
open Clu (aW aT ai chA cy Chk jf aQ)
def QK:List (FuncId × aJ):=[(29,NO),(30,aE 4 M18),(8,aE 4 M8)]
def M10:aU:=fun args=>evP (aq GC QK) 0 RX 4 args
theorem Ke:aw prog GC 10 M10:=aw.of_ev (E:=aq GC QK) (ax (ag G6 (ag (au.of_pure AN 4) (ag (au.of_pure JR 4) aB)))) rfl (by kernel_rfl) L8 4 fun _ _ h=>⟨0,h⟩
theorem M4 {T:aW} {rdv:AV} {rd:List Int} {s:cy} {pv:AV} (hb:SlA 2 (T.ch.map chA) chv) (hl:T.ch.length<=200) (hr:SlA 1 (ak rd) rdv) (hrl:rd.length<=200) (hs:jf s ov sv pv) (hol:s.order.length<=200) (hoi:∀z∈s.order,inI z) :
  ∃v,M10 [ai T chv,rdv,.z free,bc s ov sv pv]=some (.tup [v,.z (zX (dP T rd free s))])/\SlA 2 (((dP T rd free s).getD []).map aX) v:=
 JO (fs:=QK) (a:=29) (b:=30) (c:=8) rfl rfl rfl hb hr hs (fun A=>Jh hb hl hr hrl A (by
  have e1:frz A 4 (ai T chv)=ai T chv:=aQ (fun A n=>hb.frz (A:=A) n) _ 3
  have e2:frz A 4 rdv=rdv:=hr.frz 4
  simp only [Tw,U9,e1,e2]; rfl)) (fun h k=>Dx hb hl hr hrl free h k) (fun e=>MI hb hl hs hol hoi)
end Sm
namespace Sm
open Go Tr
open Cy (GC aM aV az)
open Clu (aW aT ai chA cy Chk jf aQ aY bK cH bu bP bQ cr kT gq nG)
def fs3:List (FuncId × aJ):=[(4,aE 4 M11),(5,aE 4 M13),(6,aE 4 Clu.M22),(7,aE 4 M24),(8,aE 4 M8),(9,aE 4 M25),(10,aE 4 M10),(11,aE 4 M16)]
@[simp] theorem fs3_4:aD fs3 4=some (aE 4 M11):=rfl
@[simp] theorem fs3_5:aD fs3 5=some (aE 4 M13):=rfl
@[simp] theorem fs3_6:aD fs3 6=some (aE 4 Clu.M22):=rfl
@[simp] theorem fs3_7:aD fs3 7=some (aE 4 M24):=rfl
@[simp] theorem fs3_8:aD fs3 8=some (aE 4 M8):=rfl
@[simp] theorem fs3_9:aD fs3 9=some (aE 4 M25):=rfl
@[simp] theorem R8:aD fs3 10=some (aE 4 M10):=rfl
@[simp] theorem R7:aD fs3 11=some (aE 4 M16):=rfl
theorem Kh:∀f M,aD fs3 f=some M->au prog GC f M:=
 ag (au.of_pure Kd 4) (ag (au.of_pure Kb 4) (ag (au.of_pure Clu.p9 4) (ag (au.of_pure AL 4) (ag (au.of_pure JR 4) (ag (au.of_pure Ff 4) (ag (au.of_pure Ke 4) (ag (au.of_pure n8 4) aB)))))))
structure Sv (s:cy) (ov sv pv:AV):Prop where
 v:jf s ov sv pv
 ol:s.order.length<=200
 oi:∀z∈s.order,inI z
theorem rZ {T:aW} {rd:List Int} {s:cy}:((dP T rd free s).getD []).length<=200:=by
 cases h:dP T rd free s with
 | none=>simp
 | some m=>
  unfold dP at h
  obtain ⟨l,h1,h2⟩:=SB.1 h
  obtain ⟨k,h3,rfl⟩:=SE.1 h2
  have:=(qY h1).1
  have:=ub h3
  simp only [S9,SW]
  omega
theorem vz {T:aW} {s:cy}:((gE T s free).getD []).length<=200:=by
 cases h:gE T s free with
 | none=>simp
 | some m=>have:=ub h; simp only [S9]; omega
section
variable {x:XC} {s:cy} {ov sv pv:AV} {free:Int} {A:ac} {p q w:Nat}
theorem HQ (hs:Sv s ov sv pv) (hp:A[p]?=some (.row 5 false [x.tv])) (hq:A[q]?=some (.row 4 false [bc s ov sv pv])) (hw:A[w]?=some (.q (ak [x.F,free]))) (v2 v6 v9 v21 v22 v23:AV) {j:Nat} (hj:j<2) :
  run (aq GC fs3) 300 [.code xb] (wD v2 v6 (.p p) x.rv v9 (.p q) v21 v22 v23 (.sl w 0 2) (.z 2) (.z (j:Int))) A=some (.normal (wD v2 v6 (.p p) x.rv v9 (.p q) v21 v22 v23 (.sl w 0 2) (.z 2) (.z ((j+1:Nat):Int))) A):=by
 have b0:=be j 2 .i64
 rw [Su hj] at b0
 have b0:af .lss (.z (j:Int)) (.z 2)=some .t:=b0
 have b1:=aP j (by omega)
 have i1:=cG (n:=2) hw hj .i64
 have d1:=dN hw (show j < [x.F,free].length from hj)
 obtain ⟨t,ht⟩:∃t,t=[x.F,free].getD j 0:=⟨_,rfl⟩
 rw [<-ht] at d1
 have lt:ab true 5 A (.p p)=some x.tv:=by simp only [ab,hp]; rfl
 have lq:ab true 4 A (.p q)=some (bc s ov sv pv):=by simp only [ab,hq]; rfl
 have ft:=x.tfrz A
 have nt:=x.tref
 have fr:=x.rfrz A 4
 have nr:=x.rref 4
 have fS:frz A 4 (bc s ov sv pv)=bc s ov sv pv:=by
  show AV.agg [_,frz A 3 ov,frz A 3 sv,frz A 3 pv]=_
  rw [hs.v.o.frz,hs.v.st.frz,hs.v.pr.frz]; rfl
 have nS:bR 4 (bc s ov sv pv)=true:=by
  show ([_,ov,sv,pv]:List AV).all (bR 3)=true
  simp [hs.v.o.noRef,hs.v.st.noRef,hs.v.pr.noRef,bR]
 have hl:x.T.ch.length<=200:=by have:=x.nb; unfold XC.n at this; omega
 have hR:x.R.length<=200:=by have:=x.nb; simp [XC.R,rdM]; omega
 obtain ⟨a,m7,ha⟩:=Dw (T:=x.T) (free:=t) x.chS hl hs.v
 obtain ⟨b,m8,hb⟩:=MI (T:=x.T) (free:=t) x.chS hl hs.v hs.ol hs.oi
 obtain ⟨c,m9,hc⟩:=Dv (T:=x.T) (free:=t) x.chS hl x.rvS hR hs.v
 obtain ⟨d,m10,hd⟩:=M4 (T:=x.T) (free:=t) x.chS hl x.rvS hR hs.v hs.ol hs.oi
 have m11:=oL ha hb vz vz
 have m12:=oL hc hd rZ rZ
 rw [Su rfl] at m11 m12
 have e1:=cH (zX (gE x.T s t)) (zX (gE x.T s t))
 have e2:=cH (zX (dP x.T x.R t s)) (zX (dP x.T x.R t s))
 rw [Ss (by simp)] at e1 e2
 have fa:=ha.frz (A:=A) 4
 have fb:=hb.frz (A:=A) 4
 have fc:=hc.frz (A:=A) 4
 have fd:=hd.frz (A:=A) 4
 have na:=ha.noRef 4
 have nb:=hb.noRef 4
 have nc:=hc.noRef 4
 have nd:=hd.noRef 4
 have m7:M24 [x.tv,bc s ov sv pv,.z t]=_:=m7
 have m8:M8 [x.tv,bc s ov sv pv,.z t]=_:=m8
 have m9:M25 [x.tv,x.rv,.z t,bc s ov sv pv]=_:=m9
 have m10:M10 [x.tv,x.rv,.z t,bc s ov sv pv]=_:=m10
 clear ha hb hc hd hp hq hw ht
 generalize zX (gE x.T s t)=f1 at *
 generalize zX (dP x.T x.R t s)=f2 at *
 generalize bc s ov sv pv=S at *
 generalize x.tv=tv at *
 generalize x.rv=rv at *
 generalize ((j+1:Nat):Int)=J1 at *
 generalize (j:Int)=J at *
 simp [xb,b0,b1,i1,d1,lt,lq,ft,nt,fr,nr,fS,nS,m7,m8,m9,m10,m11,m12,e1,e2,fa,fb,fc,fd,na,nb,nc,nd,aM,-af,-ab,-ae,-frz]
theorem KM (hs:Sv s ov sv pv) (hp:A[p]?=some (.row 5 false [x.tv])) (hq:A[q]?=some (.row 4 false [bc s ov sv pv])) (hw:A[w]?=some (.q (ak [x.F,free]))) (v2 v6 v9 v21 v22 v23:AV) :
  bG (evC (aq GC fs3) 300 xb) qr 300 (wD v2 v6 (.p p) x.rv v9 (.p q) v21 v22 v23 (.sl w 0 2) (.z 2) (.z 0)) A=some (.exit 2 ((wD v2 v6 (.p p) x.rv v9 (.p q) v21 v22 v23 (.sl w 0 2) (.z 2) (.z 2)).set 28 .f) A):=by
 refine g9 (fun j=>wD v2 v6 (.p p) x.rv v9 (.p q) v21 v22 v23 (.sl w 0 2) (.z 2) (.z (j:Int))) (fun _=>A) 2 (fun _=>Mc) (fun _ _ h=>by cases h) (fun j hj=>HQ hs hp hq hw v2 v6 v9 v21 v22 v23 hj) ?_ (by omega)
 show run _ _ _ _ _=some _
 simp [xb]
end
end Sm
namespace Sm
open Go Tr
open Cy (GC aM aV az)
open Clu (aW aT ai chA cy Chk jf aQ aY bK cH bu bP bQ cr kT gq nG)
section
def cg1:MC:=.region [.y 3 0,.y 4 1,.g 5]
def cg2:MC:=.region [.c5 4,.c 6 0]
def cg3:MC:=.region [.k 6 3,.H 5 0,.i 1,.j 2 0,.j 2 1,.j 2 2,.V 7 5,.t 5 7 3,.c 8 4,.c 9 5]
def cg4:MC:=.region [.k 5 7,.H 6 0,.i 1,.j 2 0,.j 2 1,.aq 10 4,.t 4 10 3,.i 4]
def cg5:MC:=.region [.d 1 4,.b 1 0,.d 1 4,.b 1 2,.s 3,.ay 4,.an 1 1 5,.d 1 4,.A 1 7 6]
def cg6:MC:=.region [.d 2 4,.b 1 0,.d 2 4,.b 1 2,.s 3,.ay 4,.an 1 1 5,.d 2 4,.A 1 7 6]
def cg7:MC:=.region [.d 3 4,.b 1 0,.d 3 4,.b 1 2,.s 3,.ay 4,.an 1 1 5,.d 3 4,.A 1 7 6]
def cg8:MC:=.r [.k 4 10,.k 4 4,.qs 21 (.buildSlice 4 [.tmp 0,.tmp 1]),.ac 22 21,.f 23 0] (.seq (.block 0 (.loop ns qv)) (.kill [0,1,2,3,4,5,7,8,9,10,11,12,13,14,15,16,17,18,19,20,21,22,23,24,25,26,27,28,29]))
def cg9:MC:=.r [.a 6,.c 5 0] .ret
def C6:MC:=.seq cg1 (.seq cg2 (.seq cg3 (.seq cg4 (.seq cg5 (.seq cg6 (.seq cg7 (.seq cg8 (cg9))))))))
theorem Fs:mf3=⟨3,30,C6,[.tmp 5]⟩:=rfl
variable {K:List KC} {A B:ac} {a0 a1 a2 tv rv sv:AV} {F:Int}
abbrev zTl:AV:=.agg [.nilS,.z 0,.z 0,.z 0,.z 0]
abbrev zSd:AV:=.agg [.z 0,.nilS,.nilS,.nilS]
theorem IX (h0:a0.solid=true/\(cellsOf a0).length=6) (h1:a1.solid=true/\(cellsOf a1).length=4) :
  run (aq GC fs3) 300 (.code cg1 :: K) [a0,a1,a2,.u,.u,.u,.u,.u,.u,.u,.u,.u,.u,.u,.u,.u,.u,.u,.u,.u,.u,.u,.u,.u,.u,.u,.u,.u,.u,.u] []=run (aq GC fs3) 300 K [a0,a1,a2,.p 0,.p 1,.f,.u,.u,.u,.u,.u,.u,.u,.u,.u,.u,.u,.u,.u,.u,.u,.u,.u,.u,.u,.u,.u,.u,.u,.u] [.row 6 false [a0],.row 4 false [a1]]:=by
 simp [cg1,h0,h1,-cellsOf,-AV.solid]
theorem IW (h4:M11 []=some .t) :
  run (aq GC fs3) 300 (.code cg2 :: K) [a0,a1,a2,.p 0,.p 1,.f,.u,.u,.u,.u,.u,.u,.u,.u,.u,.u,.u,.u,.u,.u,.u,.u,.u,.u,.u,.u,.u,.u,.u,.u] A=run (aq GC fs3) 300 K [a0,a1,a2,.p 0,.p 1,.f,.t,.u,.u,.u,.u,.u,.u,.u,.u,.u,.u,.u,.u,.u,.u,.u,.u,.u,.u,.u,.u,.u,.u,.u] A:=by
 simp [cg2,h4]
theorem IV (hb:ab true 6 A (.p 0)=some a0) (f0:frz A 4 a0=a0) (n0:bR 4 a0=true) (h5:M13 [a0]=some (.tup [tv,rv,.z F])) (hs:aA 5 (A++[.row 5 false [zTl]]) (.p A.length) tv=some B) :
  run (aq GC fs3) 300 (.code cg3 :: K) [a0,a1,a2,.p 0,.p 1,.f,.t,.u,.u,.u,.u,.u,.u,.u,.u,.u,.u,.u,.u,.u,.u,.u,.u,.u,.u,.u,.u,.u,.u,.u] A=run (aq GC fs3) 300 K [a0,a1,a2,.p 0,.p 1,.f,.t,(.p A.length),rv,.z F,.u,.u,.u,.u,.u,.u,.u,.u,.u,.u,.u,.u,.u,.u,.u,.u,.u,.u,.u,.u] B:=by
 simp [cg3,hb,f0,n0,h5,hs,-ab,-aA,-frz]
theorem IU {e:Int} (hb:ab true 5 A (.p 2)=some tv) (f0:frz A 4 tv=tv) (n0:bR 4 tv=true) (h6:Clu.M22 [tv]=some (.tup [sv,.z e])) (hs:aA 4 (A++[.row 4 false [zSd]]) (.p A.length) sv=some B) :
  run (aq GC fs3) 300 (.code cg4 :: K) [a0,a1,a2,.p 0,.p 1,.f,.t,.p 2,rv,.z F,.u,.u,.u,.u,.u,.u,.u,.u,.u,.u,.u,.u,.u,.u,.u,.u,.u,.u,.u,.u] A=run (aq GC fs3) 300 K [a0,a1,a2,.p 0,.p 1,.f,.t,.p 2,rv,.z F,(.p A.length),.u,.u,.u,.u,.u,.u,.u,.u,.u,.u,.u,.u,.u,.u,.u,.u,.u,.u,.u] B:=by
 simp [cg4,hb,f0,n0,h6,hs,-ab,-aA,-frz]
theorem IT (hf:aa 1 A (.p 1)=some (.ptr 1 0 1)) (hl:ab false 1 A (.ptr 1 0 1)=some xv) (hn:aj xv=some (.z (n:Int))) (hm:dy false (.z (n:Int)) [.z 6]=some (.z ((min n 6:Nat):Int))) (hc:cB 1 A none (some (.z ((min n 6:Nat):Int))) xv=some yv) (hs:aA 1 A (.ptr 1 0 1) yv=some B) :
  run (aq GC fs3) 300 (.code cg5 :: K) [a0,a1,a2,.p 0,.p 1,.f,.t,.p 2,rv,.z F,.p 3,.u,.u,.u,.u,.u,.u,.u,.u,.u,.u,.u,.u,.u,.u,.u,.u,.u,.u,.u] A=run (aq GC fs3) 300 K [a0,a1,a2,.p 0,.p 1,.f,.t,.p 2,rv,.z F,.p 3,.u,.u,.u,.u,.u,.u,.u,.u,.u,.u,.u,.u,.u,.u,.u,.u,.u,.u,.u] B:=by
 simp [cg5,hf,hl,hn,hm,hc,hs,-ab,-aa,-aj,-dy,-cB,-aA]
theorem IS (hf:aa 2 A (.p 1)=some (.ptr 1 0 2)) (hl:ab false 1 A (.ptr 1 0 2)=some xv) (hn:aj xv=some (.z (n:Int))) (hm:dy false (.z (n:Int)) [.z 6]=some (.z ((min n 6:Nat):Int))) (hc:cB 1 A none (some (.z ((min n 6:Nat):Int))) xv=some yv) (hs:aA 1 A (.ptr 1 0 2) yv=some B) :
  run (aq GC fs3) 300 (.code cg6 :: K) [a0,a1,a2,.p 0,.p 1,.f,.t,.p 2,rv,.z F,.p 3,.u,.u,.u,.u,.u,.u,.u,.u,.u,.u,.u,.u,.u,.u,.u,.u,.u,.u,.u] A=run (aq GC fs3) 300 K [a0,a1,a2,.p 0,.p 1,.f,.t,.p 2,rv,.z F,.p 3,.u,.u,.u,.u,.u,.u,.u,.u,.u,.u,.u,.u,.u,.u,.u,.u,.u,.u,.u] B:=by
 simp [cg6,hf,hl,hn,hm,hc,hs,-ab,-aa,-aj,-dy,-cB,-aA]
theorem IR (hf:aa 3 A (.p 1)=some (.ptr 1 0 3)) (hl:ab false 1 A (.ptr 1 0 3)=some xv) (hn:aj xv=some (.z (n:Int))) (hm:dy false (.z (n:Int)) [.z 6]=some (.z ((min n 6:Nat):Int))) (hc:cB 1 A none (some (.z ((min n 6:Nat):Int))) xv=some yv) (hs:aA 1 A (.ptr 1 0 3) yv=some B) :
  run (aq GC fs3) 300 (.code cg7 :: K) [a0,a1,a2,.p 0,.p 1,.f,.t,.p 2,rv,.z F,.p 3,.u,.u,.u,.u,.u,.u,.u,.u,.u,.u,.u,.u,.u,.u,.u,.u,.u,.u,.u] A=run (aq GC fs3) 300 K [a0,a1,a2,.p 0,.p 1,.f,.t,.p 2,rv,.z F,.p 3,.u,.u,.u,.u,.u,.u,.u,.u,.u,.u,.u,.u,.u,.u,.u,.u,.u,.u,.u] B:=by
 simp [cg7,hf,hl,hn,hm,hc,hs,-ab,-aa,-aj,-dy,-cB,-aA]
theorem IQ {sa:AV} {C:ac} (hl0:ab true 4 A (.p 3)=some sv) (hl1:ab true 4 A (.p 1)=some sa) (hb:aI 4 [sv,sa] A=some (.sl 4 0 2,B)) (lp:bG (evC (aq GC fs3) 300 qv) ns 300 (oM a2 .t (.p 2) rv (.z F) (.sl 4 0 2) (.z 2) (.z 0)) B=some (.exit 0 ((oM a2 .t (.p 2) rv (.z F) (.sl 4 0 2) (.z 2) (.z 2)).set 24 .f) C)) :
  run (aq GC fs3) 300 (.code cg8 :: K) [a0,a1,a2,.p 0,.p 1,.f,.t,.p 2,rv,.z F,.p 3,.u,.u,.u,.u,.u,.u,.u,.u,.u,.u,.u,.u,.u,.u,.u,.u,.u,.u,.u] A=run (aq GC fs3) 300 K [.u,.u,.u,.u,.u,.u,.t,.u,.u,.u,.u,.u,.u,.u,.u,.u,.u,.u,.u,.u,.u,.u,.u,.u,.u,.u,.u,.u,.u,.u] C:=by
 simp [cg8,hl0,hl1,hb,Ou lp,-ab,-aI]
theorem IP:run (aq GC fs3) 300 (.code cg9 :: K) [.u,.u,.u,.u,.u,.u,.t,.u,.u,.u,.u,.u,.u,.u,.u,.u,.u,.u,.u,.u,.u,.u,.u,.u,.u,.u,.u,.u,.u,.u] A=some (.ret [.u,.u,.u,.u,.u,.t,.t,.u,.u,.u,.u,.u,.u,.u,.u,.u,.u,.u,.u,.u,.u,.u,.u,.u,.u,.u,.u,.u,.u,.u] A):=by
 simp [cg9]
end
end Sm
namespace Sm
open Go Tr
open Cy (GC aM aV az)
open Clu (aW aT ai chA cy Chk jf aQ kT gq nG i5 kS xZ)
section
variable {x:XC} {s:cy} {ov sv pv:AV} {free:Int} {A:ac} {N:Nat}
theorem AT (hs:Sv s ov sv pv) (hN:A.length=N) (hp:A[2]?=some (.row 5 false [x.tv])) (hix:ae 4 A (.sl 4 0 2) (.z (i:Int))=some (.ptr 4 i 0)) (hl:ab true 4 A (.ptr 4 i 0)=some (bc s ov sv pv)) (hi:i<2) :
  run (aq GC fs3) 300 [.code qv] (oM (.z free) .t (.p 2) x.rv (.z x.F) (.sl 4 0 2) (.z 2) (.z (i:Int))) A =
   some (.normal (oM (.z free) .t (.p 2) x.rv (.z x.F) (.sl 4 0 2) (.z 2) (.z ((i+1:Nat):Int))) (A++[.row 4 false [bc s ov sv pv],.q (ak [x.F,free])])):=by
 have b0:=be i 2 .i64
 rw [Su hi] at b0
 have b0:af .lss (.z (i:Int)) (.z 2)=some .t:=b0
 have b1:=aP i (by omega)
 have h2:2<A.length:=(Sp.1 hp).1
 have st:aA 4 (A++[.row 4 false [zSd]]) (.p N) (bc s ov sv pv)=some (A++[.row 4 false [bc s ov sv pv]]):=by
  rw [<-hN]
  simp [aA,bc]
 obtain ⟨B,hB⟩:∃B,B=A++[Ent.row 4 false [bc s ov sv pv]]:=⟨_,rfl⟩
 have hBl:B.length=N+1:=by rw [hB]; simp [hN]
 have bs:aI 1 [.z x.F,.z free] B=some (.sl (N+1) 0 2,B++[.q (ak [x.F,free])]):=by rw [<-hBl]; rfl
 have lp:=KM (x:=x) (free:=free) (A:=B++[.q (ak [x.F,free])]) (p:=2) (q:=N) (w:=N+1) hs (by rw [Sy (by omega),hB,Sy h2]; exact hp) (by rw [Sy (by omega),hB,<-hN]; simp) (by rw [<-hBl]; simp) (.z free) .t (.z x.F) (.sl 4 0 2) (.z 2) (.z (i:Int))
 have e:A++[.row 4 false [bc s ov sv pv],.q (ak [x.F,free])]=B++[.q (ak [x.F,free])]:=by rw [hB]; simp
 have ln:aj (.sl (N+1) 0 2)=some (.z 2):=rfl
 rw [e]
 rw [<-hB] at st
 clear hB e hp hs h2
 generalize B++[Ent.q (ak [x.F,free])]=C at *
 generalize bc s ov sv pv=S at *
 generalize x.F=F at *
 generalize x.rv=rv at *
 generalize ((i+1:Nat):Int)=I1 at *
 generalize (i:Int)=I at *
 simp [qv,b0,b1,hix,hl,hN,st,bs,ln,Ov lp,-af,-ab,-ae,-aA,-aI,-aj]
end
theorem IM {esz:Nat} {xs:List AV} {a:AV} (h:SlA esz xs a) (hi:Nat) (h2:hi<=xs.length):∃b,(∀A,cB esz A none (some (.z (hi:Int))) a=some b)/\SlA esz (xs.take hi) b:=by
 obtain ⟨b,hb,hs⟩:=h.cutHi (A:=[]) hi h2 .i64
 refine ⟨b,fun A=>?_,hs⟩
 rw [<-hb]
 rcases h with ⟨rfl,_⟩ | rfl <;> rfl
theorem JP {s:cy} {pv:AV} (h:jf s ov sv pv) (hoi:∀z∈s.order,inI z) {ov' sv' pv':AV} (ho:SlA 1 ((ak s.order).take (min s.order.length 6)) ov') (hs:SlA 1 ((ak s.starts).take (min s.starts.length 6)) sv') (hp:SlA 1 ((ak s.proof).take (min s.proof.length 6)) pv'):Sv ⟨s.period,s.order.take (min s.order.length 6),s.starts.take (min s.starts.length 6),s.proof.take (min s.proof.length 6)⟩ ov' sv' pv':=by
 have e:∀(l:List Int) k,(ak l).take k=ak (l.take k):=fun l k=>by unfold ak; rw [List.map_take]
 rw [e] at ho hs hp
 have hl:∀(l:List Int),(l.take (min l.length 6)).length<=200:=fun l=>by rw [TM]; omega
 refine ⟨⟨ho,hs,hp,h.per,?_,?_,fun z hz=>h.sti z (Uo hz),?_,fun z hz=>h.pri z (Uo hz)⟩,hl _,fun z hz=>hoi z (Uo hz)⟩
 ·have:=hl s.order; show (s.order.take _).length<=_; omega
 ·have:=hl s.starts; show (s.starts.take _).length<=_; omega
 ·have:=hl s.proof; show (s.proof.take _).length<=_; omega
theorem GY (T:aW):Sv ((gq T).getD Clu.tz) (slA 1 (ak ((gq T).getD Clu.tz).order)) (slA 1 (ak ((gq T).getD Clu.tz).starts)) (slA 1 (ak ((gq T).getD Clu.tz).proof)):=by
 cases h:gq T with
 | none=>exact ⟨⟨aZ _ _,aZ _ _,aZ _ _,by show inI 0; unfold inI; omega,by decide,by decide,by simp [Clu.tz],by decide,by simp [Clu.tz]⟩,by decide,by simp [Clu.tz]⟩
 | some s=>
  have hc:=i5 h
  have c:=iY hc
  have hv:aT T:=(Clu.cd hc.1 |>.1)
  refine ⟨kS hc,?_,fun z hz=>?_⟩
  ·have:=hv.2.2.2.1
   simp only [S9]
   omega
  ·have:=c.2.2.2.2 z hz
   have:=hv.2.2.2.1
   unfold inI
   omega
theorem fin3 {a0 a1 a2:AV} (h:(match run (aq GC fs3) 300 [.code C6] [a0,a1,a2,.u,.u,.u,.u,.u,.u,.u,.u,.u,.u,.u,.u,.u,.u,.u,.u,.u,.u,.u,.u,.u,.u,.u,.u,.u,.u,.u] [] with | some (.ret σ _)=>σ[5]? | _=>none)=some .t) :
  evP (aq GC fs3) 300 mf3 3 [a0,a1,a2]=some .t:=by
 rw [aO _ _ (by rw [Fs]; rfl),Fs]
 show (match run (aq GC fs3) 300 [.code C6] [a0,a1,a2,.u,.u,.u,.u,.u,.u,.u,.u,.u,.u,.u,.u,.u,.u,.u,.u,.u,.u,.u,.u,.u,.u,.u,.u,.u,.u,.u] [] with
  | some (.normal σ A')=>(hJ A' σ [.tmp 5]).map fun l=>frz A' 3 (dI l)
  | some (.ret σ A')=>(hJ A' σ [.tmp 5]).map fun l=>frz A' 3 (dI l)
  | _=>none)=_
 generalize run (aq GC fs3) 300 [.code C6] _ []=r at *
 match r,h with
 | some (.ret σ A'),h12=>
  replace h12:σ[5]?=some .t:=h12
  simp [hJ,h12]
theorem ev3 {x:XC} {rv:AV} (h:XV x yv rv) {s:cy} {pv:AV} (hs:jf s ov sv pv) (hoi:∀z∈s.order,inI z) {free:Int} :
  evP (aq GC fs3) 300 mf3 3 [x.A yv rv,bc s ov sv pv,.z free]=some .t:=by
 refine fin3 ?_
 obtain ⟨ov',c1,o1⟩:=IM hs.o (min s.order.length 6) (by rw [az]; omega)
 obtain ⟨sv',c2,o2⟩:=IM hs.st (min s.starts.length 6) (by rw [az]; omega)
 obtain ⟨pv',c3,o3⟩:=IM hs.pr (min s.proof.length 6) (by rw [az]; omega)
 have hraw:=JP hs hoi o1 o2 o3
 have hbest:=GY x.T
 obtain ⟨sb,hsb⟩:∃sb,sb=(gq x.T).getD Clu.tz:=⟨_,rfl⟩
 rw [<-hsb] at hbest
 obtain ⟨sr,hsr⟩:∃sr:cy,sr=⟨s.period,s.order.take (min s.order.length 6),s.starts.take (min s.starts.length 6),s.proof.take (min s.proof.length 6)⟩:=⟨_,rfl⟩
 rw [<-hsr] at hraw
 have hper:sr.period=s.period:=by rw [hsr]
 have m13:=M3 h
 have hl:x.T.ch.length<=200:=by have:=x.nb; unfold XC.n at this; omega
 have m6:=Clu.wn x.chS hl
 have m6:Clu.M22 [x.tv]=some (.tup [kT sb,.z (if (gq x.T).isSome then 0 else 130)]):=by rw [hsb]; exact m6
 have fx:∀A,frz A 4 (x.A yv rv)=x.A yv rv:=fun A=>by
  show AV.agg [frz A 3 yv,_,_,_,frz A 3 rv,_]=_
  rw [h.y.frz,h.r.frz]; rfl
 have nx:bR 4 (x.A yv rv)=true:=by
  show ([yv,_,_,_,rv,_]:List AV).all (bR 3)=true
  simp [h.y.noRef,h.r.noRef,bR]
 have mn:∀n:Nat,dy false (.z (n:Int)) [.z 6]=some (.z ((min n 6:Nat):Int)):=fun n=>by
  simp only [dy]
  simp [gf]
  omega
 obtain ⟨r0,hr0⟩:∃r:Ent,r=.row 6 false [x.A yv rv]:=⟨_,rfl⟩
 have lb:ab true 6 [r0,.row 4 false [bc s ov sv pv]] (.p 0)=some (x.A yv rv):=by rw [hr0]; rfl
 have s3:aA 5 ([r0,.row 4 false [bc s ov sv pv]]++[.row 5 false [zTl]]) (.p 2) x.tv=some [r0,.row 4 false [bc s ov sv pv],.row 5 false [x.tv]]:=rfl
 have s4:aA 4 ([r0,.row 4 false [bc s ov sv pv],.row 5 false [x.tv]]++[.row 4 false [zSd]]) (.p 3) (kT sb)=some [r0,.row 4 false [bc s ov sv pv],.row 5 false [x.tv],.row 4 false [kT sb]]:=rfl
 have lt:ab true 5 [r0,.row 4 false [bc s ov sv pv],.row 5 false [x.tv]] (.p 2)=some x.tv:=rfl
 have lo:=hs.o.len
 have ls:=hs.st.len
 have lp:=hs.pr.len
 rw [az] at lo ls lp
 obtain ⟨R,hR⟩:∃R:AV->AV->AV->ac,R=fun a b c=>[r0,.row 4 false [.agg [.z s.period,a,b,c]],.row 5 false [x.tv],.row 4 false [kT sb]]:=⟨_,rfl⟩
 have l1:ab false 1 (R ov sv pv) (.ptr 1 0 1)=some ov:=by rw [hR]; rcases hs.o with ⟨rfl,_⟩ | rfl <;> rfl
 have l2:ab false 1 (R ov' sv pv) (.ptr 1 0 2)=some sv:=by rw [hR]; rcases hs.st with ⟨rfl,_⟩ | rfl <;> rfl
 have l3:ab false 1 (R ov' sv' pv) (.ptr 1 0 3)=some pv:=by rw [hR]; rcases hs.pr with ⟨rfl,_⟩ | rfl <;> rfl
 have t1:aA 1 (R ov sv pv) (.ptr 1 0 1) ov'=some (R ov' sv pv):=by rw [hR]; rcases hraw.v.o with ⟨rfl,_⟩ | rfl <;> rfl
 have t2:aA 1 (R ov' sv pv) (.ptr 1 0 2) sv'=some (R ov' sv' pv):=by rw [hR]; rcases hraw.v.st with ⟨rfl,_⟩ | rfl <;> rfl
 have t3:aA 1 (R ov' sv' pv) (.ptr 1 0 3) pv'=some (R ov' sv' pv'):=by rw [hR]; rcases hraw.v.pr with ⟨rfl,_⟩ | rfl <;> rfl
 have f1:∀a b c,aa 1 (R a b c) (.p 1)=some (.ptr 1 0 1):=fun a b c=>by rw [hR]; rfl
 have f2:∀a b c,aa 2 (R a b c) (.p 1)=some (.ptr 1 0 2):=fun a b c=>by rw [hR]; rfl
 have f3:∀a b c,aa 3 (R a b c) (.p 1)=some (.ptr 1 0 3):=fun a b c=>by rw [hR]; rfl
 have hsrA:bc sr ov' sv' pv'=.agg [.z s.period,ov',sv',pv']:=by unfold bc; rw [hper]
 have lz0:ab true 4 (R ov' sv' pv') (.p 3)=some (kT sb):=by rw [hR]; rfl
 have lz1:ab true 4 (R ov' sv' pv') (.p 1)=some (bc sr ov' sv' pv'):=by rw [hR,hsrA]; rfl
 obtain ⟨B,hB⟩:∃B,B=R ov' sv' pv'++[.row 4 false [kT sb,bc sr ov' sv' pv']]:=⟨_,rfl⟩
 have bs:aI 4 [kT sb,bc sr ov' sv' pv'] (R ov' sv' pv')=some (.sl 4 0 2,B):=by rw [hB,hR]; rfl
 have hBl:B.length=5:=by rw [hB,hR]; rfl
 have hp:B[2]?=some (.row 5 false [x.tv]):=by rw [hB,hR]; rfl
 have hrow:B[4]?=some (.row 4 false [kT sb,bc sr ov' sv' pv']):=by rw [hB,hR]; rfl
 have app:∀ {Z:ac} {j:Nat} {r:Ent},B[j]?=some r->(B++Z)[j]?=some r:=fun {Z j r} h=>by
  rw [Sy (Sp.1 h).1]; exact h
 have k0:=AT (x:=x) (free:=free) hbest hBl hp (i:=0) (by simp only [ae,hrow]; rfl) (by simp only [ab,hrow]; rfl) (by omega)
 have k1:=AT (x:=x) (free:=free) (A:=B++[.row 4 false [kT sb],.q (ak [x.F,free])]) hraw (N:=7) (by simp [hBl]) (app hp) (i:=1) (by simp only [ae,app hrow]; rfl) (by simp only [ab,app hrow]; rfl) (by omega)
 have lpp:bG (evC (aq GC fs3) 300 qv) ns 300 (oM (.z free) .t (.p 2) x.rv (.z x.F) (.sl 4 0 2) (.z 2) (.z 0)) B=some (.exit 0 ((oM (.z free) .t (.p 2) x.rv (.z x.F) (.sl 4 0 2) (.z 2) (.z 2)).set 24 .f) (B++[.row 4 false [kT sb],.q (ak [x.F,free])]++[.row 4 false [bc sr ov' sv' pv'],.q (ak [x.F,free])])):=by
  have k0:run (aq GC fs3) 300 [.code qv] (oM (.z free) .t (.p 2) x.rv (.z x.F) (.sl 4 0 2) (.z 2) (.z 0)) B=some (.normal (oM (.z free) .t (.p 2) x.rv (.z x.F) (.sl 4 0 2) (.z 2) (.z 1)) (B++[.row 4 false [kT sb],.q (ak [x.F,free])])):=k0
  have k1:run (aq GC fs3) 300 [.code qv] (oM (.z free) .t (.p 2) x.rv (.z x.F) (.sl 4 0 2) (.z 2) (.z 1)) (B++[.row 4 false [kT sb],.q (ak [x.F,free])])=some (.normal (oM (.z free) .t (.p 2) x.rv (.z x.F) (.sl 4 0 2) (.z 2) (.z 2)) _):=k1
  rw [aG (n:=299),EU,k0]
  show bG _ _ 299 _ _=_
  rw [aG (n:=298),EU,k1]
  show bG _ _ 298 _ _=_
  rw [aG (n:=297),EU]
  clear k0 k1
  generalize (B++[Ent.row 4 false [kT sb],.q (ak [x.F,free])]++[.row 4 false [bc sr ov' sv' pv'],.q (ak [x.F,free])])=D
  simp [qv]
 unfold C6
 have hraw0:bc s ov sv pv=.agg [.z s.period,ov,sv,pv]:=rfl
 rw [iJ,IX ⟨rfl,rfl⟩ ⟨rfl,rfl⟩,<-hr0,iJ,IW Jf,iJ,IV (A:=[r0,.row 4 false [bc s ov sv pv]]) lb (fx _) nx m13 s3]
 show (match run _ _ _ [_,_,_,_,_,_,_,.p 2,_,_,_,_,_,_,_,_,_,_,_,_,_,_,_,_,_,_,_,_,_,_] _ with | some (.ret σ _)=>σ[5]? | _=>none)=_
 rw [iJ,IU lt (x.tfrz _) x.tref m6 s4]
 show (match run _ _ _ [_,_,_,_,_,_,_,.p 2,_,_,.p 3,_,_,_,_,_,_,_,_,_,_,_,_,_,_,_,_,_,_,_] _ with | some (.ret σ _)=>σ[5]? | _=>none)=_
 have hA:[r0,.row 4 false [bc s ov sv pv],.row 5 false [x.tv],.row 4 false [kT sb]]=R ov sv pv:=by rw [hR]; rfl
 rw [hA]
 rw [iJ,IT (f1 _ _ _) l1 lo (mn _) (c1 _) t1,iJ,IS (f2 _ _ _) l2 ls (mn _) (c2 _) t2,iJ,IR (f3 _ _ _) l3 lp (mn _) (c3 _) t3,iJ,IQ lz0 lz1 bs lpp,IP]
 rfl
end Sm
namespace Sm
open Go Tr
open Cy (GC az)
open Clu (cy jf)
theorem AQ {x:AV} {n:Nat} (h:TA prog (n+3) 28 x):∃s ov sv pv,x=bc s ov sv pv/\jf s ov sv pv/\∀z∈s.order,inI z:=by
 obtain ⟨ls,rfl,hc,hl⟩:=TA.agg (show uq prog 28=true by kernel_rfl) h
 rw [show n+3=(n+2)+1 from rfl] at hc
 unfold TC at hc
 rw [Tryz.underlying28] at hc
 simp only [TCs] at hc
 obtain ⟨a,_,rfl,ha,la,b,_,rfl,hb,lb,c,_,rfl,hc,lc,d,_,rfl,hd,ld,rfl⟩:=hc
 obtain ⟨ov,zo,rfl,o1,o2,o3⟩:=mM (n:=n+1) hb lb
 obtain ⟨sv,zs,rfl,s1,s2,s3⟩:=mM (n:=n+1) hc lc
 obtain ⟨pv,zp,rfl,p1,p2,p3⟩:=mM (n:=n+1) hd ld
 simp only [TC,Tryz.underlying3] at ha
 obtain ⟨z,rfl,hz⟩:=ha
 exact ⟨⟨z,zo,zs,zp⟩,ov,sv,pv,rfl,⟨o1,s1,p1,hz,o2,s2,s3,p2,p3⟩,o3⟩
theorem ownK:ownKnob prog.godebug=none:=by kernel_rfl
theorem Om {W:World} {OK:Nat->Prop}:DB GC W OK:=fun gl cs h=>by simp [GC] at h
def qB (os:Os):World:=World.holding prog os ⟨#[],#[],[]⟩
theorem ev3L (args:List AV) (h:ic prog 8 Tryz.f3.params.toList args):∃fuel,evP (aq GC fs3) fuel mf3 3 args=some .t:=by
 rw [Tryz.params3] at h
 obtain ⟨a0,r,rfl,t0,h⟩:=h.cons
 obtain ⟨a1,r,rfl,t1,h⟩:=h.cons
 obtain ⟨a2,r,rfl,t2,h⟩:=h.cons
 obtain rfl:=h.nil
 obtain ⟨x,yv,rv,rfl,hx⟩:=EX (n:=3) t0
 obtain ⟨s,ov,sv,pv,rfl,hs,hoi⟩:=AQ (n:=5) t1
 obtain ⟨f0,rfl,hf0⟩:=TA.i64 Tryz.underlying3 t2
 exact ⟨300,ev3 hx hs hoi⟩
end Sm
end Go.Proofs.YtkcjhljbgjpklaaGreat
