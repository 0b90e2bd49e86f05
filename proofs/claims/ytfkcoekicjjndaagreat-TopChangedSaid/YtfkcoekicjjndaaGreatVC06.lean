import Derived.Test.YtfkcoekicjjndaaGreatVC05
import Derived.Test.YtfkcoekicjjndaaGreatChecked
import Derived.KernelRfl
set_option maxRecDepth 100000
set_option maxHeartbeats 4000000
noncomputable section
namespace Go.Proofs.YtfkcoekicjjndaaGreat
variable {rd o s inn:List Int} {d6 d0 d7 d13 v4 d1 d2 d5 d14 d15 d22 v3 d11 d12 d18 d19 d21 d16 d17 d20 d23 d9 d8 v10 d3 v8 chv v9 d27 d28 d32 v5 d10 v2 v1 d4 d24 d29 d33 d26 v7 v16 v0 v25 d30 d31 d34 d35 d36 v12 d25 v30 v31 v11 v17 v20 a lv:AV} {free n p:Int} {A:ac} {E:Env} {fuel k t r e:Nat} {X:Nat->Int} {b:List Bool} {x:St} {xs:List AV}
namespace Cy
open Go
theorem qt {l:List bc} (hr:cC n l p):(lvM n l p).2.2=true↔¬ Pos l p:=by
 obtain ⟨m,rfl⟩:∃m:Nat,n=(m:Int):=⟨n.toNat,by have:=hr.1.1; omega⟩
 rw [<-nV hr]
 unfold lvM
 rw [RL hr,RY]
 split
 ·rename_i h; simp [h]
 ·rename_i h; simp [h]
theorem dH {l:List bc} {p:Int} (hr:cC n l p) (h:(lvM n l p).2.2=true):(lvM n l p).2.1=[]/\fC n l p (lvM n l p).1/\(∀x∈(lvM n l p).1,x<=100000000)/\∀x,fC n l p x->∀v:Nat,(v:Int)<n->(lvM n l p).1.getD v 0<=x.getD v 0:=by
 obtain ⟨m,rfl⟩:∃m:Nat,n=(m:Int):=⟨n.toNat,by have:=hr.1.1; omega⟩
 have hv:=hr.1.2.2
 have hn:=hr.1.1
 have e:lvM m l p=((cA (lar p l) m).1,[],true):=by
  unfold lvM at h ⊢
  rw [RL hr,RY] at h ⊢
  split
  ·rfl
  ·rename_i h'
   rw [RN h'] at h; cases h
 have hlv:(cA (lar p l) m).2=true:=by
  have:=(qt hr).1 h
  exact (nV hr).2 this
 obtain ⟨h1,h2,h3,h4,h5⟩:=lS (iI (p:=p) hv)
 rw [e]
 have key:∀x∈(cA (lar p l) m).1,0<=x/\x<=100000000:=?_
 ·refine ⟨rfl,⟨hr,by rw [h1],fun x hx=>by have:=key x hx; omega,h4 hlv⟩,fun x hx=>(key x hx).2,fun x hx v hvm=>?_⟩
  refine h5 x hx.2.2.2 (fun w hw=>?_) v (by omega)
  have hwl:w<x.length:=by have:=hx.2.1; omega
  have hg:x.getD w 0=x[w]:=by rw [RC,RD hwl]; rfl
  rw [hg]
  exact (hx.2.2.1 _ (RM hwl)).1
 intro x hx'
 obtain ⟨v,hv',rfl⟩:=Sz.1 hx'
 have hvn:v<m:=by rw [<-h1]; exact hv'
 have hg:(cA (lar p l) m).1.getD v 0=(cA (lar p l) m).1[v]:=by rw [RC,RD hv']; rfl
 have h0:=h2 v
 rw [hg] at h0
 refine ⟨h0,?_⟩
 obtain ⟨u,r,k1,k2,k3⟩:=h3 v hvn
 have hN:=(nU (iI (p:=p) hv)).1 hlv
 obtain ⟨r',j1,j2,j3⟩:=Ic (iI (p:=p) hv) hN _ r u v rfl k1 k2
 rw [hg] at k3
 have hbd:∀ {r:List df} {u v:Nat},isW (lar p l) u r v->jx r<=3000000*r.length:=by
  intro r
  induction r with
  | nil=>intro _ _ _; simp [jx]
  | cons a r ih=>
   rintro u v ⟨q1,_,q3⟩
   have:=ih q3
   have:=(uP (show m<=32 by omega) hr.2 hv a q1).2.2.2
   simp only [jx,Su]
   omega
 have:=hbd j1
 omega
theorem qu {l:List bc} (hr:cC n l p) (h:(lvM n l p).2.2=false):(lvM n l p).1=[]/\iT n l p (lvM n l p).2.1/\(lvM n l p).2.1.length<=32/\∀z∈(lvM n l p).2.1,inI z:=by
 obtain ⟨m,rfl⟩:∃m:Nat,n=(m:Int):=⟨n.toNat,by have:=hr.1.1; omega⟩
 have hlv:¬ (cA (lar p l) m).2=true:=fun h'=>by
  have:=(qt hr).2 ((nV hr).1 h')
  rw [h] at this; cases this
 obtain ⟨res,u,xs,k1,k2,k3,k4,k5,k6,k7⟩:=yD hr hlv
 have e:lvM m l p=([],res,false):=by
  unfold lvM
  rw [RL hr,RY,RN hlv,k1]; rfl
 rw [e]
 refine ⟨rfl,⟨hr,_,_,k7,k6⟩,by rw [k2]; simpa using k5,fun z hz=>?_⟩
 unfold exM at k7
 simp only [Rz] at k7
 have:=k7.1.2 z hz
 have:=hr.1.2.1
 unfold inI; omega
theorem HE {l:List bc} (h:fC n l p s):s.length<=32/\∀z∈s,inI z:=by
 obtain ⟨h1,h2,h3,_⟩:=h
 have:=h1.1.1
 refine ⟨by omega,fun z hz=>?_⟩
 have:=h3 z hz
 unfold inI; omega
theorem qe {l:List bc} (h:fC n l p s):¬ Pos l p:=rG h.1.1.2.2 h.2.2.2
theorem xz {l:List bc} {c:List Int} (h:iT n l p c):Pos l p:=by
 obtain ⟨_,s,t,h1,h2⟩:=h
 obtain ⟨u,xs,k1,k2,k3,k4,k5,k6⟩:=Be h1
 exact ⟨u,xs,k2,by omega⟩
open Classical in
theorem m19 {b:AV} {l:List bc} (ha:cw a=some l) (hb:lW b=some s):M19 [.int .i64 n,a,.int .i64 p,b]=some (.bool (decide (fC n l p s))):=by simp only [M19,ha,hb]
end Cy
namespace Clu
open Go
open Cy (GC bc cJ cw cy dR okA smM smT lvM lvT fC iT cC Pos qt dH qu qe xz)
theorem A7 {T:aU} {s:Option (Int × List Int)} (h:sOk T s):cy (mQ s):=by
 unfold mQ cy
 cases s with
 | none=>simp
 | some x=>have:=h x rfl; simp only; omega
structure BK (T:aU) (s:Option (Int × List Int)) (l:List (List Int)):Prop where
 ok:sOk T s
 no:∀x,s=some x->¬ Pos (bN T x.2) x.1/\∃l1 l2,l=l1++x.2 :: l2/\∀o∈l1,Pos (bN T o) x.1
 pos:∀o∈l,∀q,1<=q->q<=mQ s->Pos (bN T o) q
theorem BK.step {T:aU} {s:Option (Int × List Int)} {l:List (List Int)} (h:BK T s l) (hO:o∈aJ T):BK T (iS T s o) (l++[o]):=by
 have hper:=A7 h.ok
 have hok:=qP h.ok hO
 have hv:=(tY hO).1
 unfold iS at hok ⊢
 cases hm:smM (o.length:Int) (bN T o) 1 (mQ s) with
 | none=>
  rw [hm] at hok
  have hn:=ED hper hv hm
  refine ⟨h.ok,fun x hx=>?_,fun o' ho' q h1 h2=>?_⟩
  ·obtain ⟨k1,l1,l2,k2,k3⟩:=h.no x hx
   exact ⟨k1,l1,l2++[o],by rw [k2]; simp,k3⟩
  ·rcases SW.1 ho' with h3 | h3
   ·exact h.pos o' h3 q h1 h2
   ·rw [SC] at h3
    subst h3
    exact hn q h1 h2
 | some p=>
  rw [hm] at hok
  obtain ⟨k1,k2,k3,k4,k5⟩:=s7 hper hm
  refine ⟨hok,fun x hx=>?_,fun o' ho' q h1 h2=>?_⟩
  ·injection hx with hx
   subst hx
   exact ⟨k4,l,[],rfl,fun o' ho'=>h.pos o' ho' p k1 k2⟩
  ·have h2:q<=p-1:=h2
   rcases SW.1 ho' with h3 | h3
   ·exact h.pos o' h3 q h1 (by omega)
   ·rw [SC] at h3
    subst h3
    exact k5 q h1 (by omega)
theorem BK.fold {T:aU}:∀(r:List (List Int)) {s:Option (Int × List Int)} {l:List (List Int)},BK T s l->(∀o∈r,o∈aJ T)->BK T (r.foldl (iS T) s) (l++r)
 | [],s,l,h,_=>by simpa using h
 | o :: r,s,l,h,hr=>by
  have:=BK.fold r (h.step (hr o (by simp))) (fun o' ho'=>hr o' (by simp [ho']))
  rw [RX] at this
  exact this
theorem BD (T:aU):BK T (tX T) (aJ T):=by
 have:=BK.fold (T:=T) (aJ T) (s:=none) (l:=[]) ⟨fun x h=>(by cases h),fun x h=>(by cases h),fun o h=>(by cases h)⟩ (fun _ h=>h)
 rwa [S7] at this
theorem jY {T:aU} (hO:o∈aJ T) (h1 : -1000000<=p) (h2:p<=1000000):cC (o.length:Int) (bN T o) p:=⟨(tY hO).1,h1,h2⟩
theorem KF {T:aU} (hO:o∈aJ T) {p:Int} (h1:1<=p) (h2:p<=1000000) (hp:¬ Pos (bN T o) p) (hq:1<p->Pos (bN T o) (p-1)):Chk T (oO T (p,o)):=by
 have hR:=jY hO (p:=p) (by omega) h2
 have k1:=dH hR ((qt hR).2 hp)
 refine ⟨hO,⟨h1,h2⟩,k1.2.1,?_⟩
 show if p=1 then (if p > 1 then (lvM (o.length:Int) (bN T o) (p-1)).2.1 else [])=[] else _
 by_cases e:p=1
 ·rw [RL e,RN (by omega)]
 ·rw [RN e]
  have hR':=jY hO (p:=p-1) (by omega) (by omega)
  have hf:(lvM (o.length:Int) (bN T o) (p-1)).2.2=false:=by
   cases h:(lvM (o.length:Int) (bN T o) (p-1)).2.2 with
   | false=>rfl
   | true=>exact absurd (hq (by omega)) ((qt hR').1 h)
  have:=(qu hR' hf).2.1
  show iT (o.length:Int) (bN T o) (p-1) (if p > 1 then (lvM (o.length:Int) (bN T o) (p-1)).2.1 else [])
  rw [RL (by omega)]
  exact this
theorem ee {T:aU} {s:bQ} (h:eP T=some s):Chk T s:=by
 unfold eP at h
 rw [RK] at h
 obtain ⟨⟨p,o⟩,h,rfl⟩:=h
 have hB:=BD T
 rw [h] at hB
 obtain ⟨h1,h2,h3⟩:=hB.ok _ rfl
 exact KF h3 h1 h2 (hB.no _ rfl).1 fun hp=>hB.pos o h3 (p-1) (by simp only at h1; omega) (SU _)
theorem ss {T:aU} {s:bQ} (h:eP T=some s):tX T=some (s.period,s.order)/\s=oO T (s.period,s.order):=by
 unfold eP at h
 rw [RK] at h
 obtain ⟨⟨p,o⟩,h,rfl⟩:=h
 exact ⟨h,rfl⟩
end Clu
namespace Clu
open Go
open Cy (GC bc cJ cw cy dR okA smM smT lvM lvT fC iT cC Pos qt dH qu qe xz lar cA nV)
def t1:aU:=⟨[(20,12),(30,12)],1,1,2,1⟩
def t2:aU:=⟨[(20,12),(30,12)],1,1,2,2⟩
def t3:aU:=⟨[(20,9),(30,9)],1,1,2,2⟩
def ar0:List bc:=[⟨0,1,4,0⟩,⟨1,2,4,0⟩,⟨2,0,6,1⟩,⟨0,1,24,0⟩,⟨1,0,-36,0⟩,⟨1,2,34,0⟩,⟨2,1,-46,0⟩]
instance:DecidableEq bc:=fun a b=>by
 obtain ⟨a1,a2,a3,a4⟩:=a
 obtain ⟨b1,b2,b3,b4⟩:=b
 exact decidable_of_iff (a1=b1/\a2=b2/\a3=b3/\a4=b4) ⟨fun ⟨h1,h2,h3,h4⟩=>by rw [h1,h2,h3,h4],fun h=>by injection h with h1 h2 h3 h4; exact ⟨h1,h2,h3,h4⟩⟩
theorem cH:bN t1 [0,1,2]=ar0:=by decide +kernel
theorem E1 {l:List bc} {q:Int} (c:List (bc × Nat)) (u:Int) (hw:Cy.rH l u c u) (hl:0<Cy.ji q c):Pos l q:=⟨u,c,hw,hl⟩
theorem tz {l:List bc} {x:bc} {i:Nat} (h:l[i]?=some x):(x,i)∈Cy.num l:=by
 obtain ⟨hi,rfl⟩:=Rx.1 h
 exact SF (Cy.fA l i hi)
theorem pos0 {q:Int} (h:q<64):Pos ar0 q:=E1 [(⟨0,1,24,0⟩,3),(⟨1,2,34,0⟩,5),(⟨2,0,6,1⟩,2)] 0 ⟨tz rfl,rfl,tz rfl,rfl,tz rfl,rfl,rfl⟩ (by simp [Cy.ji,bc.len]; omega)
theorem At {T:aU} {s:bQ} (h:Chk T s):(s.order.length<=5/\∀z∈s.order,inI z)/\(s.starts.length<=32/\∀z∈s.starts,inI z)/\(s.proof.length<=200/\∀z∈s.proof,inI z):=by
 obtain ⟨h1,h2,h3,h4⟩:=h
 have k:=cB h1
 have kb:=gN h1
 refine ⟨⟨by have:=k.1.2.2.2.1; omega,fun z hz=>by have:=kb z hz; have:=k.1.2.2.2.1; unfold inI; omega⟩,Cy.HE h3,?_⟩
 split at h4
 ·rw [h4]; simp
 ·obtain ⟨hR,a,b,h5,_⟩:=h4
  unfold Cy.exM at h5
  simp only [Rz] at h5
  refine ⟨h5.1.1.2,fun z hz=>?_⟩
  have:=h5.1.2 z hz
  have:=hR.1.2.1
  unfold inI; omega
theorem kO {T:aU} {s:bQ} (h:Chk T s):nb s (slA 1 (ax s.order)) (slA 1 (ax s.starts)) (slA 1 (ax s.proof)):=by
 obtain ⟨⟨h1,h2⟩,⟨h3,h4⟩,h5,h6⟩:=At h
 exact ⟨bo _ _,bo _ _,bo _ _,by have:=h.2.1; unfold inI; omega,by omega,by omega,h4,by omega,h6⟩
end Clu
namespace Tr
open Go
def jh:MC:=.seq (.region [.w 27 26 25]) (.seq (.cond (.var 27) .skip (.exit 0)) (.seq (.seq (.block 1 (.seq (.region [.a 26,.c 11 0]) (.seq (.region [.a 9,.a 11,.g 2 0 1,.l 0 2,.b 1 3,.a 3,.dc 28 4 5]) (.cond (.var 28) (.region [.a 9,.a 11,.g 2 0 1,.l 0 2,.b 1 3,.t 4 1,.g 2 0 1,.l 0 6,.I 1 7 5]) .skip)))) (.kill [0,1,2,4,5,6,7,8,11,12,13,14,15,16,17,18,19,20,21,22,23,24,27,28,29,30,31,32,33,34,35,36])) (.region [.m 26 1,.c 26 0])))
def lR:MC:=.seq (.region [.w 32 31 30]) (.seq (.cond (.var 32) .skip (.exit 2)) (.seq (.seq (.block 3 (.seq (.region [.a 31,.H 1 29 31,.b 1 1,.c 13 0,.c 14 2]) (.region [.a 12,.a 13,.a 14,.P 2 0,.g 1 0 1,.I 1 4 3]))) (.kill [0,1,2,3,7,8,9,10,11,13,14,15,16,17,18,19,20,21,22,23,24,25,26,27,28,32,33,34,35,36])) (.region [.m 31 1,.c 31 0])))
def pK:MC:=.region [.T 18 34]
def kn:MC:=.seq (.block 5 (.seq (.region [.k 5 4,.o 1 5,.o 1 6,.a 18,.W 70 0 1 2 3,.h 4,.n 5 0,.n 5 1,.c 19 6,.c 20 7]) (.seq (.seq (.region [.a 20,.S 35 0]) (.cond (.var 35) (.exit 5) .skip)) (.seq (.region [.k 5 4,.o 1 5,.o 1 6,.a 19,.W 22 0 1 2 3,.h 4,.n 5 0,.n 5 1,.c 21 6,.h 7]) (.seq (.region [.o 1 17,.N 0,.h 1,.z 21 2,.ad 1 16 2,.cp 3 4 2,.G 36 2 5]) (.cond (.var 36) (.region [.a 19,.a 21,.j 1 15 0,.j 1 16 1,.qn (.store 1 (.var 17) (.cst (.bool true)))]) .skip)))))) (.kill [0,1,2,3,4,5,6,7,8,9,10,11,12,13,14,15,16,17,18,19,20,21,22,23,24,25,26,27,28,29,30,31,32,33,34,35,36])
def kR:bM:=⟨4,37,.seq (.region [.y 4 0,.y 5 1,.y 6 2,.C 7,.f 8]) (.seq (.seq (.region [.k 5 4,.o 1 5,.o 1 6,.O 64 0 1 2,.N 3,.h 4,.z 3 5,.ad 1 5 5,.al 7 5,.a6 57 6 8 5,.L 9 5,.G 22 5 10]) (.cond (.var 22) (.seq (.region [.C 7,.f 8]) .ret) .skip)) (.seq (.seq (.region [.a 3,.cs 23 0 0]) (.cond (.var 23) (.seq (.region [.d 0 4,.b 1 0,.a 3,.A 2 1,.q 67 1 3,.d 0 4,.I 1 5 4]) (.seq (.seq (.region [.d 0 4,.b 1 0,.B 1,.aa 24 2 0]) (.cond (.var 24) (.seq (.region [.C 7,.M 8]) .ret) .skip)) (.seq (.regionD [] [.k 5 4,.o 1 5,.a 3,.A 2 1,.q 68 1 3,.o 1 6,.qn (.call (.fn 24) [.tmp 0,.tmp 4,.tmp 5,.cst (.int .i64 0)]),.h 6,.n 7 0,.n 7 1,.c 9 8,.c 10 9] [(0,4),(4,5)]) (.seq (.seq (.region [.a 9,.ak 25 0,.e 26 0]) (.seq (.block 0 (.loop [0,1,2,4,5,6,7,8,11,12,13,14,15,16,17,18,19,20,21,22,23,24,27,28,29,30,31,32,33,34,35,36] jh)) (.kill [0,1,2,3,4,5,6,7,8,11,12,13,14,15,16,17,18,19,20,21,22,23,24,25,26,27,28,29,30,31,32,33,34,35,36]))) (.seq (.region [.a 9,.a 10,.c 7 0,.c 8 1]) .ret))))) .skip)) (.seq (.region [.o 1 5,.B 0,.cc 1 1,.c 12 2]) (.seq (.seq (.region [.bp 29 1 5,.R 30 29,.e 31 0]) (.seq (.block 2 (.loop [0,1,2,3,7,8,9,10,11,13,14,15,16,17,18,19,20,21,22,23,24,25,26,27,28,32,33,34,35,36] lR)) (.kill [0,1,2,3,7,8,9,10,11,13,14,15,16,17,18,19,20,21,22,23,24,25,26,27,28,29,30,31,32,33,34,35,36]))) (.seq (.region [.bm 15 1]) (.seq (.region [.ax 16 1,.qs 17 (.alloc 1 (.bool false)),.c1 1 16 0,.cz 1 17]) (.seq (.seq (.region [.a 12,.br 33 69 0]) (.seq (.block 4 (.rangeFunc (.var 33) [34] pK kn)) (.kill [0,1,2,3,4,5,6,7,8,9,10,11,12,13,14,16,18,19,20,21,22,23,24,25,26,27,28,29,30,31,32,33,34,35,36]))) (.seq (.region [.o 1 15,.o 1 17,.c 7 0,.c 8 1]) .ret)))))))),[.tmp 7,.tmp 8]⟩
def iH:List Nat:=[0,1,2,4,5,6,7,8,11,12,13,14,15,16,17,18,19,20,21,22,23,24,27,28,29,30,31,32,33,34,35,36]
abbrev lD (v3 v9 v10 v25 v26:AV):List AV:=[.undef,.undef,.undef,v3,.undef,.undef,.undef,.undef,.undef,v9,v10,.undef,.undef,.undef,.undef,.undef,.undef,.undef,.undef,.undef,.undef,.undef,.undef,.undef,.undef,v25,v26,.undef,.undef,.undef,.undef,.undef,.undef,.undef,.undef,.undef,.undef]
theorem vo {v26:AV}:clear iH [d0,d1,d2,v3,d4,d5,d6,d7,d8,v9,v10,d11,d12,d13,d14,d15,d16,d17,d18,d19,d20,d21,d22,d23,d24,v25,v26,d27,d28,d29,d30,d31,d32,d33,d34,d35,d36]=lD v3 v9 v10 v25 v26:=by simp only [iH,clear,Sr,TS,SL,S8]
theorem JA {o:Out} {k:List KC} {v26:AV} (h:cc (evC E fuel jh) iH fuel (lD v3 v9 v10 v25 v26) A=some o) :
  run E fuel (.code (.loop [0,1,2,4,5,6,7,8,11,12,13,14,15,16,17,18,19,20,21,22,23,24,27,28,29,30,31,32,33,34,35,36] jh) :: k) [d0,d1,d2,v3,d4,d5,d6,d7,d8,v9,v10,d11,d12,d13,d14,d15,d16,d17,d18,d19,d20,d21,d22,d23,d24,v25,v26,d27,d28,d29,d30,d31,d32,d33,d34,d35,d36] A=after E fuel k o:=aV iH _ _ (by rw [vo]; exact h)
def iG:List Nat:=[0,1,2,3,7,8,9,10,11,13,14,15,16,17,18,19,20,21,22,23,24,25,26,27,28,32,33,34,35,36]
abbrev nA (v4 v5 v6 v12 v29 v30 v31:AV):List AV:=[.undef,.undef,.undef,.undef,v4,v5,v6,.undef,.undef,.undef,.undef,.undef,v12,.undef,.undef,.undef,.undef,.undef,.undef,.undef,.undef,.undef,.undef,.undef,.undef,.undef,.undef,.undef,.undef,v29,v30,v31,.undef,.undef,.undef,.undef,.undef]
theorem zk {v6 v29:AV}:clear iG [d0,d1,d2,d3,v4,v5,v6,d7,d8,d9,d10,d11,v12,d13,d14,d15,d16,d17,d18,d19,d20,d21,d22,d23,d24,d25,d26,d27,d28,v29,v30,v31,d32,d33,d34,d35,d36]=nA v4 v5 v6 v12 v29 v30 v31:=by simp only [iG,clear,Sr,TS,SL,S8]
theorem Jz {o:Out} {k:List KC} {v6 v29:AV} (h:cc (evC E fuel lR) iG fuel (nA v4 v5 v6 v12 v29 v30 v31) A=some o) :
  run E fuel (.code (.loop [0,1,2,3,7,8,9,10,11,13,14,15,16,17,18,19,20,21,22,23,24,25,26,27,28,32,33,34,35,36] lR) :: k) [d0,d1,d2,d3,v4,v5,v6,d7,d8,d9,d10,d11,v12,d13,d14,d15,d16,d17,d18,d19,d20,d21,d22,d23,d24,d25,d26,d27,d28,v29,v30,v31,d32,d33,d34,d35,d36] A=after E fuel k o:=aV iG _ _ (by rw [zk]; exact h)
theorem mh:aB Tryz.prog Tryz.f24 4 [0,1,2,3,4,5,6,8,9,10,11,12,13,14,15,16,17,18,19,20,21,22,35,37,47,59,60,61,69,84,85,86,87,98,99,109,124] [] true ([[0,1,2,4,5,6,7,8,11,12,13,14,15,16,17,18,19,20,21,22,23,24,27,28,29,30,31,32,33,34,35,36],[0,1,2,3,7,8,9,10,11,13,14,15,16,17,18,19,20,21,22,23,24,25,26,27,28,32,33,34,35,36]],[[0,1,2,4,5,6,7,8,11,12,13,14,15,16,17,18,19,20,21,22,23,24,27,28,29,30,31,32,33,34,35,36],[0,1,2,3,4,5,6,7,8,11,12,13,14,15,16,17,18,19,20,21,22,23,24,25,26,27,28,29,30,31,32,33,34,35,36],[0,1,2,3,7,8,9,10,11,13,14,15,16,17,18,19,20,21,22,23,24,25,26,27,28,32,33,34,35,36],[0,1,2,3,7,8,9,10,11,13,14,15,16,17,18,19,20,21,22,23,24,25,26,27,28,29,30,31,32,33,34,35,36],[0,1,2,3,4,5,6,7,8,9,10,11,12,13,14,15,16,17,18,19,20,21,22,23,24,25,26,27,28,29,30,31,32,33,34,35,36],[0,1,2,3,4,5,6,7,8,9,10,11,12,13,14,16,18,19,20,21,22,23,24,25,26,27,28,29,30,31,32,33,34,35,36]])=some kR:=by kernel_rfl
theorem CW:Tryz.prog.funcs[24]?=some Tryz.f24:=by kernel_rfl
def gU:MC:=.seq (.region [.w 17 16 15]) (.seq (.cond (.var 17) .skip (.exit 0)) (.seq (.seq (.block 1 (.seq (.region [.H 2 14 16,.F 2 0,.ar 10 2,.j 2 10 1]) (.seq (.seq (.region [.d 0 10,.b 1 0,.a 7,.B 2,.a5 57 1 3,.N 4,.h 5,.D 1 10 6,.r 1 7 6,.z 9 6,.a9 5 4 6,.z 8 6,.D 0 10 6,.r 1 12 6,.bn 65 10 11 13 6,.az 9 14 6,.qf (.call (.fn 57) [.tmp 8,.tmp 15,.cst (.int .i64 1000000000)]) 6,.L 16 6,.G 18 6 17]) (.cond (.var 18) (.seq (.region [.e 5 0,.f 6]) .ret) .skip)) (.seq (.region [.d 0 10,.b 1 0,.d 1 10,.b 1 2,.k 5 4,.E 66 4,.v 3 5,.c 8 1,.c 9 6]) (.seq (.seq (.region [.d 0 10,.b 1 0,.A 1 1,.c 11 2]) (.seq (.region [.a 11,.an 19 0 0]) (.cond (.var 19) (.seq (.seq (.region [.a 7,.a 11,.g 1 0 1,.b 1 2,.b3 3 0,.h 4,.D 1 10 5,.r 1 6 5,.z 7 5,.z 11 5,.Y 1 8 9 5,.r 1 10 5,.z 7 5,.z 11 5,.Y 1 12 13 5,.r 1 14 5,.D 0 4 5,.r 1 16 5,.z 11 5,.Y 2 17 18 5,.cb 1 19 5,.r 1 20 5,.az 15 21 5,.bn 57 7 11 22 5,.L 23 5,.G 20 5 24]) (.cond (.var 20) (.seq (.region [.e 5 0,.f 6]) .ret) .skip)) (.region [.a 7,.a 11,.g 1 0 1,.b9 1 2 (-1)])) .skip))) (.seq (.region [.d 0 10,.b 1 0,.c 12 1]) (.seq (.region [.a 12,.a 7,.B 1,.Z 21 0 2]) (.cond (.var 21) (.seq (.seq (.region [.a 7,.a 12,.g 1 0 1,.b 1 2,.an 22 3 0]) (.cond (.var 22) (.seq (.region [.e 5 0,.f 6]) .ret) .skip)) (.region [.a 7,.a 12,.a 9,.d 0 4,.b 1 3,.a 12,.g 2 4 5,.l 0 6,.b 1 7,.v 2 8,.g 1 0 1,.I 1 10 9])) .skip)))))))) (.kill [0,1,2,3,5,6,10,11,12,13,17,18,19,20,21,22])) (.region [.m 16 1,.c 16 0])))
def Ix:bM:=⟨4,23,.seq (.region [.y 4 0,.e 5 0,.f 6]) (.seq (.seq (.region [.k 5 4,.a 1,.a 2,.O 64 0 1 2,.S 13 3]) (.cond (.var 13) (.seq (.region [.e 5 0,.f 6]) .ret) .skip)) (.seq (.region [.a 1,.E 63 0,.c 7 1]) (.seq (.region [.a 2,.e 8 (-2),.c 9 0]) (.seq (.seq (.region [.T 14 3,.R 15 14,.e 16 0]) (.seq (.block 0 (.loop [0,1,2,3,5,6,10,11,12,13,17,18,19,20,21,22] gU)) (.kill [0,1,2,3,4,5,6,7,8,10,11,12,13,14,15,16,17,18,19,20,21,22]))) (.seq (.region [.a 9,.c 5 0,.M 6]) .ret))))),[.tmp 5,.tmp 6]⟩
def gf:List Nat:=[0,1,2,3,5,6,10,11,12,13,17,18,19,20,21,22]
abbrev re (v4 v7 v8 v9 v14 v15 v16:AV):List AV:=[.undef,.undef,.undef,.undef,v4,.undef,.undef,v7,v8,v9,.undef,.undef,.undef,.undef,v14,v15,v16,.undef,.undef,.undef,.undef,.undef,.undef]
theorem zj {v14 v15:AV}:clear gf [d0,d1,d2,d3,v4,d5,d6,v7,v8,v9,d10,d11,d12,d13,v14,v15,v16,d17,d18,d19,d20,d21,d22]=re v4 v7 v8 v9 v14 v15 v16:=rfl
theorem Cu {o:Out} {k:List KC} {v14 v15:AV} (h:cc (evC E fuel gU) gf fuel (re v4 v7 v8 v9 v14 v15 v16) A=some o) :
  run E fuel (.code (.loop [0,1,2,3,5,6,10,11,12,13,17,18,19,20,21,22] gU) :: k) [d0,d1,d2,d3,v4,d5,d6,v7,v8,v9,d10,d11,d12,d13,v14,v15,v16,d17,d18,d19,d20,d21,d22] A=after E fuel k o:=aV gf _ _ (by rw [zj]; exact h)
theorem KA:aB Tryz.prog Tryz.f22 4 [0,1,2,3,4,8,9,10,11,12,14,15,16,21,25,26,27,28,49,61,87,96,101] [57,65,66] true ([[0,1,2,3,5,6,10,11,12,13,17,18,19,20,21,22]],[[0,1,2,3,5,6,10,11,12,13,17,18,19,20,21,22],[0,1,2,3,4,5,6,7,8,10,11,12,13,14,15,16,17,18,19,20,21,22]])=some Ix:=by kernel_rfl
theorem at17:Tryz.prog.funcs[22]?=some Tryz.f22:=by kernel_rfl
def km:MC:=.seq (.seq (.region [.a 9,.a 7,.bo 14 0 1]) (.cond (.var 14) .skip (.exit 0))) (.seq (.seq (.block 1 (.seq (.region [.a 8,.a 9,.a 8,.a 9,.A 3 1,.g 1 2 4,.b 1 5,.g 1 0 1,.I 1 7 6]) (.seq (.region [.d 1 4,.b 1 0,.a 9,.q 58 1 2,.d 1 4,.b 1 4,.a 9,.A 6 1,.q 58 5 7,.Z 15 3 8]) (.cond (.var 15) (.region [.a 8,.a 9,.g 1 0 1,.b 1 2,.t 3 1,.g 1 0 1,.I 1 5 4]) .skip)))) (.kill [0,1,5,6,10,11,12,13,14,15,16,17,18,19,20,21,22,23])) (.region [.a 9,.t 0 1,.c 9 1]))
def jg:MC:=.seq (.region [.w 22 21 20]) (.seq (.cond (.var 22) .skip (.exit 4)) (.seq (.seq (.block 5 (.seq (.region [.H 1 19 21,.b 1 0,.c 12 1]) (.seq (.region [.a 8,.a 12,.g 1 0 1,.b 1 2,.a 11,.bo 23 3 4]) (.cond (.var 23) (.region [.a 10,.a 12,.a 2,.d 3 3,.b 1 3,.v 2 4,.d 2 4,.b 1 6,.cy 1 7 0,.b 1 8,.cu 5 9,.a 11,.d 0 4,.b 1 12,.da 11 13,.v 10 14,.d 2 4,.b 1 16,.a 12,.g 1 17 18,.b 1 19,.v 15 20,.cq 1 21,.di 22,.ap 2 0 23,.c 10 24]) .skip)))) (.kill [0,1,5,6,7,9,12,13,14,15,18,22,23])) (.region [.m 21 1,.c 21 0])))
def lP:MC:=.seq (.region [.w 18 17 16]) (.seq (.cond (.var 18) .skip (.exit 2)) (.seq (.seq (.block 3 (.seq (.region [.a 17,.c 11 0]) (.seq (.region [.d 1 4,.am 19 1 0,.R 20 19,.e 21 0]) (.seq (.block 4 (.loop [0,1,5,6,7,9,12,13,14,15,18,22,23] jg)) (.kill [0,1,5,6,7,9,11,12,13,14,15,18,19,20,21,22,23]))))) (.kill [0,1,5,6,7,9,11,12,13,14,15,18,19,20,21,22,23])) (.region [.m 17 1,.c 17 0])))
def Fa:bM:=⟨3,24,.seq (.region [.y 3 0,.y 4 1,.C 5,.e 6 0]) (.seq (.seq (.region [.k 5 3,.E 55 0,.N 1,.h 2,.a9 5 3 3,.a9 4 4 3,.qf (.call (.fn 56) [.tmp 4,.tmp 5]) 3,.L 6 3,.K 3 7,.h 8,.z 2 9,.qf (.call (.fn 57) [.tmp 10,.cst (.int .i64 0),.cst (.int .i64 2000000)]) 9,.L 11 9,.G 13 9 12]) (.cond (.var 13) (.seq (.region [.C 5,.e 6 140]) .ret) .skip)) (.seq (.region [.d 0 3,.b 1 0,.B 1,.c 7 2]) (.seq (.region [.a 7,.t 0 1,.bl 1 1,.c 8 2]) (.seq (.seq (.region [.e 9 1]) (.seq (.block 0 (.loop [0,1,5,6,10,11,12,13,14,15,16,17,18,19,20,21,22,23] km)) (.kill [0,1,5,6,9,10,11,12,13,14,15,16,17,18,19,20,21,22,23]))) (.seq (.region [.C 10]) (.seq (.seq (.region [.a 8,.a 7,.g 1 0 1,.b 1 2,.qs 16 (.bin .add (.tmp 3) (.cst (.int .i64 1))),.e 17 0]) (.seq (.block 2 (.loop [0,1,5,6,7,9,11,12,13,14,15,18,19,20,21,22,23] lP)) (.kill [0,1,2,3,4,5,6,7,8,9,11,12,13,14,15,16,17,18,19,20,21,22,23]))) (.seq (.region [.a 10,.c 5 0,.e 6 0]) .ret))))))),[.tmp 5,.tmp 6]⟩
def iC:List Nat:=[0,1,5,6,7,9,12,13,14,15,18,22,23]
abbrev rc (v2 v3 v4 v8 v10 v11 v16 v17 v19 v20 v21:AV):List AV:=[.undef,.undef,v2,v3,v4,.undef,.undef,.undef,v8,.undef,v10,v11,.undef,.undef,.undef,.undef,v16,v17,.undef,v19,v20,v21,.undef,.undef]
theorem ze {v19 v21:AV}:clear iC [d0,d1,v2,v3,v4,d5,d6,d7,v8,d9,v10,v11,d12,d13,d14,d15,v16,v17,d18,v19,v20,v21,d22,d23]=rc v2 v3 v4 v8 v10 v11 v16 v17 v19 v20 v21:=rfl
theorem Jv {o:Out} {k:List KC} {v19 v21:AV} (h:cc (evC E fuel jg) iC fuel (rc v2 v3 v4 v8 v10 v11 v16 v17 v19 v20 v21) A=some o) :
  run E fuel (.code (.loop [0,1,5,6,7,9,12,13,14,15,18,22,23] jg) :: k) [d0,d1,v2,v3,v4,d5,d6,d7,v8,d9,v10,v11,d12,d13,d14,d15,v16,v17,d18,v19,v20,v21,d22,d23] A=after E fuel k o:=aV iC _ _ (by rw [ze]; exact h)
def kh:List Nat:=[0,1,5,6,10,11,12,13,14,15,16,17,18,19,20,21,22,23]
abbrev uk (v2 v3 v4 v7 v8 v9:AV):List AV:=[.undef,.undef,v2,v3,v4,.undef,.undef,v7,v8,v9,.undef,.undef,.undef,.undef,.undef,.undef,.undef,.undef,.undef,.undef,.undef,.undef,.undef,.undef]
theorem zf:clear kh [d0,d1,v2,v3,v4,d5,d6,v7,v8,v9,d10,d11,d12,d13,d14,d15,d16,d17,d18,d19,d20,d21,d22,d23]=uk v2 v3 v4 v7 v8 v9:=rfl
theorem Jw {o:Out} {k:List KC} (h:cc (evC E fuel km) kh fuel (uk v2 v3 v4 v7 v8 v9) A=some o) :
  run E fuel (.code (.loop [0,1,5,6,10,11,12,13,14,15,16,17,18,19,20,21,22,23] km) :: k) [d0,d1,v2,v3,v4,d5,d6,v7,v8,v9,d10,d11,d12,d13,d14,d15,d16,d17,d18,d19,d20,d21,d22,d23] A=after E fuel k o:=aV kh _ _ (by rw [zf]; exact h)
def kg:List Nat:=[0,1,5,6,7,9,11,12,13,14,15,18,19,20,21,22,23]
abbrev uj (v2 v3 v4 v8 v10 v16 v17:AV):List AV:=[.undef,.undef,v2,v3,v4,.undef,.undef,.undef,v8,.undef,v10,.undef,.undef,.undef,.undef,.undef,v16,v17,.undef,.undef,.undef,.undef,.undef,.undef]
theorem zd:clear kg [d0,d1,v2,v3,v4,d5,d6,d7,v8,d9,v10,d11,d12,d13,d14,d15,v16,v17,d18,d19,d20,d21,d22,d23]=uj v2 v3 v4 v8 v10 v16 v17:=rfl
theorem Ju {o:Out} {k:List KC} (h:cc (evC E fuel lP) kg fuel (uj v2 v3 v4 v8 v10 v16 v17) A=some o) :
  run E fuel (.code (.loop [0,1,5,6,7,9,11,12,13,14,15,18,19,20,21,22,23] lP) :: k) [d0,d1,v2,v3,v4,d5,d6,d7,v8,d9,v10,d11,d12,d13,d14,d15,v16,v17,d18,d19,d20,d21,d22,d23] A=after E fuel k o:=aV kg _ _ (by rw [zd]; exact h)
theorem Kx:aB Tryz.prog Tryz.f19 3 [0,1,2,3,4,6,7,8,9,10,11,12,14,28,37,57,68,69,70,73,74,75,76,84] [58] true ([[0,1,5,6,10,11,12,13,14,15,16,17,18,19,20,21,22,23],[0,1,5,6,7,9,11,12,13,14,15,18,19,20,21,22,23],[0,1,5,6,7,9,12,13,14,15,18,22,23]],[[0,1,5,6,10,11,12,13,14,15,16,17,18,19,20,21,22,23],[0,1,5,6,9,10,11,12,13,14,15,16,17,18,19,20,21,22,23],[0,1,5,6,7,9,12,13,14,15,18,22,23],[0,1,5,6,7,9,11,12,13,14,15,18,19,20,21,22,23],[0,1,5,6,7,9,11,12,13,14,15,18,19,20,21,22,23],[0,1,2,3,4,5,6,7,8,9,11,12,13,14,15,16,17,18,19,20,21,22,23]])=some Fa:=by kernel_rfl
theorem at24:Tryz.prog.funcs[19]?=some Tryz.f19:=by kernel_rfl
def Ab:bM:=⟨4,15,.seq (.region [.y 4 0,.y 5 3,.C 6,.e 7 0]) (.seq (.region [.k 5 4,.a 1,.a 2,.qn (.call (.fn 24) [.tmp 0,.tmp 1,.tmp 2,.cst (.int .i64 0)]),.h 3,.n 4 0,.n 4 1,.c 8 5,.c 9 6]) (.seq (.seq (.region [.a 9,.S 13 0]) (.cond (.var 13) (.seq (.region [.C 6,.e 7 140]) .ret) .skip)) (.seq (.region [.k 5 4,.a 1,.a 2,.a 8,.W 22 0 1 2 3,.h 4,.n 5 0,.n 5 1,.c 10 6,.h 7]) (.seq (.region [.k 5 4,.k 4 5,.a 10,.O 19 0 1 2,.h 3,.n 4 0,.n 4 1,.c 11 5,.c 12 6]) (.seq (.seq (.region [.a 12,.ct 14 0 0]) (.cond (.var 14) (.seq (.region [.a 12,.C 6,.c 7 0]) .ret) .skip)) (.seq (.region [.a 8,.a 11,.ap 2 0 1,.c 6 2,.e 7 0]) .ret)))))),[.tmp 6,.tmp 7]⟩
theorem yS:aB Tryz.prog Tryz.f25 4 [0,1,2,3,4,7,8,9,10,11,12,14,15,24,41] [] true ([],[])=some Ab:=by kernel_rfl
theorem Pc:Tryz.prog.funcs[25]?=some Tryz.f25:=by kernel_rfl
def MY:bM:=⟨3,5,.seq (.region [.y 3 0,.f 4]) (.seq (.region [.k 5 3,.E 55 0,.h 1,.x 1 2,.au 3 2,.s 0 3 2,.p 1 5 2,.au 6 2,.qt (.bin .eql (.tmp 4) (.tmp 7)) 2,.i 2 8,.h 9,.x 2 10,.qt (.call (.fn 57) [.tmp 11,.cst (.int .i64 0),.cst (.int .i64 2000000)]) 10,.i 10 12,.h 13,.x 1 14,.qt (.call (.fn 61) [.tmp 15,.fn 102]) 14,.ab 16 14,.i 14 17,.c 4 18]) .ret),[.tmp 4]⟩
theorem Kw:aB Tryz.prog Tryz.f64 3 [0,1,2,3,6] [] true ([],[])=some MY:=by kernel_rfl
theorem at29:Tryz.prog.funcs[64]?=some Tryz.f64:=by kernel_rfl
def QD:bM:=⟨3,4,.seq (.region [.f 3]) (.seq (.region [.a 0,.a 1,.cv 0 1,.h 2,.x 0 3,.x 2 3,.ag 4 5 3,.i 3 6,.c 3 7]) .ret),[.tmp 3]⟩
theorem Kv:aB Tryz.prog Tryz.f57 3 [0,1,2,6] [] true ([],[])=some QD:=by kernel_rfl
theorem at30:Tryz.prog.funcs[57]?=some Tryz.f57:=by kernel_rfl
def AO:bM:=⟨2,3,.seq (.region [.C 2]) (.seq (.region [.a 0,.E 104 0,.a 1,.a 1,.t 3 1,.O 103 1 2 4,.c 2 5]) .ret),[.tmp 2]⟩
theorem yQ:aB Tryz.prog Tryz.f67 2 [0,1,4] [] true ([],[])=some AO:=by kernel_rfl
theorem Pa:Tryz.prog.funcs[67]?=some Tryz.f67:=by kernel_rfl
def Hh:bM:=⟨2,3,.seq (.region [.C 2]) (.seq (.region [.a 0,.E 63 0,.a 1,.a 1,.t 3 1,.O 105 1 2 4,.c 2 5]) .ret),[.tmp 2]⟩
theorem yP:aB Tryz.prog Tryz.f68 2 [0,1,4] [] true ([],[])=some Hh:=by kernel_rfl
theorem O9:Tryz.prog.funcs[68]?=some Tryz.f68:=by kernel_rfl
def Hg:bM:=⟨1,3,.seq (.region [.y 1 0,.dh 2]) (.seq (.region [.qn (.makeFunc (.func 106) [] [.var 1]),.c 2 0]) .ret),[.tmp 2]⟩
theorem yO:aB Tryz.prog Tryz.f69 1 [0,1,2] [] true ([],[])=some Hg:=by kernel_rfl
theorem O8:Tryz.prog.funcs[69]?=some Tryz.f69:=by kernel_rfl
def dz:MC:=.seq (.region [.w 26 25 24]) (.seq (.cond (.var 26) .skip (.exit 0)) (.seq (.seq (.block 1 (.seq (.region [.a 25,.H 1 23 25,.b 1 1,.c 11 0,.c 12 2]) (.seq (.seq (.region [.a 11,.aa 27 0 0]) (.cond (.var 27) (.region [.a 8,.a 2,.d 3 4,.b 1 2,.v 1 3,.a3 4,.cx 5,.ah 0 6]) (.region [.a 8,.a 11,.a 11,.t 2 1,.a 10,.k 5 4,.a 3,.a 11,.A 7 1,.g 1 6 8,.b 1 9,.a 12,.O 65 5 10 11,.v 4 12,.Q 1 3 13,.cx 14,.ah 0 15]))) (.seq (.region [.a 12,.A 0 1,.c 13 1]) (.seq (.region [.a 1,.a 13,.g 1 0 1,.b 1 2,.e 14 0,.c 15 3]) (.seq (.seq (.region [.a 9,.a 13,.qn (.lookup 1 true (.int .i64 0) (.tmp 0) (.tmp 1)),.h 2,.n 3 0,.n 3 1,.c 16 4,.c 17 5]) (.seq (.region [.T 28 17]) (.cond (.var 28) (.region [.a 16,.a 10,.d 0 4,.b 1 2,.a 13,.g 2 3 4,.l 0 5,.b 1 6,.v 1 7,.c 14 0,.c 15 8]) .skip))) (.seq (.region [.a 8,.a 14,.a 11,.t 2 1,.a 15,.Q 1 3 4,.a 11,.t 6 1,.a 14,.a 15,.d 0 4,.b 1 10,.a 13,.g 2 11 12,.l 1 13,.b 1 14,.v 9 15,.b1 16,.Q 7 8 17,.df 5 18,.ah 0 19]) (.region [.a 9,.a 12,.a 11,.t 2 1,.b5 0 1 3])))))))) (.kill [0,5,6,11,12,13,14,15,16,17,18,19,20,21,22,26,27,28,29,30,31,32,33])) (.region [.m 25 1,.c 25 0])))
def lN:MC:=.seq (.region [.w 32 33 31]) (.seq (.cond (.var 32) .skip (.exit 2)) (.seq (.seq (.block 3 (.seq (.region [.a 33,.H 1 30 33,.b 1 1,.c 21 0,.c 22 2]) (.region [.a 20,.a 22,.a 18,.a 21,.t 3 1,.g 1 2 4,.b 1 5,.cq 1 6,.di 7,.qn (.appendN 2 16 (.tmp 0) (.tmp 8)),.c 20 9]))) (.kill [0,1,2,3,4,5,6,7,8,9,10,11,12,13,14,15,16,17,19,21,22,23,24,25,26,27,28,29,32])) (.region [.m 33 1,.c 33 0])))
def vU:bM:=⟨4,34,.seq (.region [.y 4 0,.C 5,.f 6]) (.seq (.region [.bm 7 1]) (.seq (.region [.qn (.makeFunc (.func 110) [] [.var 7]),.c 8 0]) (.seq (.region [.qn .makeMap,.c 9 0]) (.seq (.region [.k 5 4,.E 66 0,.c 10 1]) (.seq (.seq (.region [.T 23 3,.R 24 23,.e 25 0]) (.seq (.block 0 (.loop [0,5,6,11,12,13,14,15,16,17,18,19,20,21,22,26,27,28,29,30,31,32,33] dz)) (.kill [0,1,2,4,5,6,8,9,10,11,12,13,14,15,16,17,18,19,20,21,22,23,24,25,26,27,28,29,30,31,32,33]))) (.seq (.region [.a 3,.B 0,.t 1 1,.o 1 7,.qn (.call (.fn 17) [.tmp 2,.tmp 3,.cst (.int .i64 0)]),.h 4,.n 5 0,.n 5 1,.n 5 2,.c 18 6,.h 7,.c 19 8]) (.seq (.seq (.region [.a 19,.N 0,.h 1,.z 18 2,.qf (.indexSl 1 (.tmp 3) (.cst (.int .i64 0))) 2,.r 1 4 2,.qf (.bin .neq (.tmp 5) (.cst (.int .i64 0))) 2,.G 29 2 6]) (.cond (.var 29) (.seq (.region [.C 5,.f 6]) .ret) .skip)) (.seq (.region [.a 3,.B 0,.qn (.makeSlice 2 16 (.agg [.int .i64 0,.int .i64 0]) (.cst (.int .i64 0)) (.tmp 1)),.c 20 2]) (.seq (.seq (.region [.T 30 3,.R 31 30,.e 33 0]) (.seq (.block 2 (.loop [0,1,2,3,4,5,6,7,8,9,10,11,12,13,14,15,16,17,19,21,22,23,24,25,26,27,28,29,32] lN)) (.kill [0,1,2,3,4,5,6,7,8,9,10,11,12,13,14,15,16,17,18,19,21,22,23,24,25,26,27,28,29,30,31,32,33]))) (.seq (.region [.a 20,.c 5 0,.M 6]) .ret)))))))))),[.tmp 5,.tmp 6]⟩
def dr:List Nat:=[0,5,6,11,12,13,14,15,16,17,18,19,20,21,22,26,27,28,29,30,31,32,33]
abbrev gw (v1 v2 v3 v4 v7 v8 v9 v10 v23 v24 v25:AV):List AV:=[.undef,v1,v2,v3,v4,.undef,.undef,v7,v8,v9,v10,.undef,.undef,.undef,.undef,.undef,.undef,.undef,.undef,.undef,.undef,.undef,.undef,v23,v24,v25,.undef,.undef,.undef,.undef,.undef,.undef,.undef,.undef]
theorem oA {v23 v24:AV}:clear dr [d0,v1,v2,v3,v4,d5,d6,v7,v8,v9,v10,d11,d12,d13,d14,d15,d16,d17,d18,d19,d20,d21,d22,v23,v24,v25,d26,d27,d28,d29,d30,d31,d32,d33]=gw v1 v2 v3 v4 v7 v8 v9 v10 v23 v24 v25:=by simp only [dr,clear,Sr,TS,SL,S8]
theorem rM {o:Out} {k:List KC} {v23 v24:AV} (h:cc (evC E fuel dz) dr fuel (gw v1 v2 v3 v4 v7 v8 v9 v10 v23 v24 v25) A=some o) :
  run E fuel (.code (.loop [0,5,6,11,12,13,14,15,16,17,18,19,20,21,22,26,27,28,29,30,31,32,33] dz) :: k) [d0,v1,v2,v3,v4,d5,d6,v7,v8,v9,v10,d11,d12,d13,d14,d15,d16,d17,d18,d19,d20,d21,d22,v23,v24,v25,d26,d27,d28,d29,d30,d31,d32,d33] A=after E fuel k o:=aV dr _ _ (by rw [oA]; exact h)
def iA:List Nat:=[0,1,2,3,4,5,6,7,8,9,10,11,12,13,14,15,16,17,19,21,22,23,24,25,26,27,28,29,32]
abbrev nu (v18 v20 v30 v31 v33:AV):List AV:=[.undef,.undef,.undef,.undef,.undef,.undef,.undef,.undef,.undef,.undef,.undef,.undef,.undef,.undef,.undef,.undef,.undef,.undef,v18,.undef,v20,.undef,.undef,.undef,.undef,.undef,.undef,.undef,.undef,.undef,v30,v31,.undef,v33]
theorem y8 {v18 v33:AV}:clear iA [d0,d1,d2,d3,d4,d5,d6,d7,d8,d9,d10,d11,d12,d13,d14,d15,d16,d17,v18,d19,v20,d21,d22,d23,d24,d25,d26,d27,d28,d29,v30,v31,d32,v33]=nu v18 v20 v30 v31 v33:=by simp only [iA,clear,Sr,TS,SL,S8]
theorem Jr {o:Out} {k:List KC} {v18 v33:AV} (h:cc (evC E fuel lN) iA fuel (nu v18 v20 v30 v31 v33) A=some o) :
  run E fuel (.code (.loop [0,1,2,3,4,5,6,7,8,9,10,11,12,13,14,15,16,17,19,21,22,23,24,25,26,27,28,29,32] lN) :: k) [d0,d1,d2,d3,d4,d5,d6,d7,d8,d9,d10,d11,d12,d13,d14,d15,d16,d17,v18,d19,v20,d21,d22,d23,d24,d25,d26,d27,d28,d29,v30,v31,d32,v33] A=after E fuel k o:=aV iA _ _ (by rw [y8]; exact h)
theorem vl:aB Tryz.prog Tryz.f70 4 [0,1,2,3,4,8,9,10,11,12,13,14,15,16,17,18,19,20,21,23,24,25,26,31,32,33,34,39,77,129,133,134,136,135] [65] true ([[0,5,6,11,12,13,14,15,16,17,18,19,20,21,22,26,27,28,29,30,31,32,33],[0,1,2,3,4,5,6,7,8,9,10,11,12,13,14,15,16,17,19,21,22,23,24,25,26,27,28,29,32]],[[0,5,6,11,12,13,14,15,16,17,18,19,20,21,22,26,27,28,29,30,31,32,33],[0,1,2,4,5,6,8,9,10,11,12,13,14,15,16,17,18,19,20,21,22,23,24,25,26,27,28,29,30,31,32,33],[0,1,2,3,4,5,6,7,8,9,10,11,12,13,14,15,16,17,19,21,22,23,24,25,26,27,28,29,32],[0,1,2,3,4,5,6,7,8,9,10,11,12,13,14,15,16,17,18,19,21,22,23,24,25,26,27,28,29,30,31,32,33]])=some vU:=by kernel_rfl
theorem Mk:Tryz.prog.funcs[70]?=some Tryz.f70:=by kernel_rfl
def xL:bM:=⟨3,6,.seq (.region [.y 3 0,.e 4 0]) (.seq (.seq (.region [.a 2,.a 1,.t 1 1,.bc 5 0 2]) (.cond (.var 5) (.seq (.region [.e 4 0]) .ret) .skip)) (.seq (.region [.d 3 3,.b 1 0,.c 4 1]) .ret)),[.tmp 4]⟩
theorem sf:aB Tryz.prog Tryz.f65 3 [0,1,2,3,6,10] [] true ([],[])=some xL:=by kernel_rfl
theorem KQ:Tryz.prog.funcs[65]?=some Tryz.f65:=by kernel_rfl
def xK:bM:=⟨1,3,.seq (.region [.y 1 0,.e 2 0]) (.seq (.region [.d 1 1,.b 1 0,.d 3 1,.b 1 2,.v 1 3,.d 2 1,.b 1 5,.v 4 6,.c 2 7]) .ret),[.tmp 2]⟩
theorem se:aB Tryz.prog Tryz.f66 1 [0,1,2] [] true ([],[])=some xK:=by kernel_rfl
theorem KP:Tryz.prog.funcs[66]?=some Tryz.f66:=by kernel_rfl
def BY:bM:=⟨1,3,.seq (.region [.y 1 0,.f 2]) (.seq (.region [.d 4 1,.b 1 0,.ao 1 1,.h 2,.c6 5 1 3,.a8 41 4 3,.i 3 5,.c 2 6]) .ret),[.tmp 2]⟩
theorem yH:aB Tryz.prog Tryz.f55 1 [0,1,2] [] true ([],[])=some BY:=by kernel_rfl
theorem O1:Tryz.prog.funcs[55]?=some Tryz.f55:=by kernel_rfl
def AL:bM:=⟨1,2,.seq (.region [.f 1]) (.seq (.region [.a 0,.qn (.call (.fn 57) [.tmp 0,.cst (.int .i64 (-1)),.cst (.int .i64 500000)]),.N 1,.c 1 2]) .ret),[.tmp 1]⟩
theorem yF:aB Tryz.prog Tryz.f102 1 [0,2] [] true ([],[])=some AL:=by kernel_rfl
theorem OZ:Tryz.prog.funcs[102]?=some Tryz.f102:=by kernel_rfl
def QC:bM:=⟨3,6,.seq (.region [.C 3]) (.seq (.region [.a 0,.a 1,.a 2,.a 0,.B 3,.qn (.sliceM 2 (.tmp 0) (some (.tmp 1)) (.tmp 2) (.tmp 4))]) (.seq (.seq (.region [.a 1,.a 2,.bc 5 0 1]) (.cond (.var 5) (.seq (.region [.a 0,.c 3 0]) .ret) .skip)) (.seq (.region [.a 0,.B 0,.c 4 1]) (.seq (.region [.a 0,.a 1,.a1 2 0 1,.a 0,.a 2,.a2 2 3 4,.ap 2 2 5,.c 0 6]) (.seq (.region [.a 0,.a 0,.B 1,.a 4,.qn (.sliceSl 2 (.tmp 0) (some (.tmp 2)) (some (.tmp 3))),.qn (.clear 2 (.agg [.int .i64 0,.int .i64 0]) (.tmp 4))]) (.seq (.region [.a 0,.c 3 0]) .ret)))))),[.tmp 3]⟩
theorem Kp:aB Tryz.prog Tryz.f103 3 [0,1,2,6,7,16] [] true ([],[])=some QC:=by kernel_rfl
theorem at53:Tryz.prog.funcs[103]?=some Tryz.f103:=by kernel_rfl
def LO:bM:=⟨1,3,.seq (.region [.C 1]) (.seq (.seq (.region [.a 0,.c2 2 0]) (.cond (.var 2) (.seq (.region [.C 1]) .ret) .skip)) (.seq (.region [.dj,.a 0,.ap 2 0 1,.c 1 2]) .ret)),[.tmp 1]⟩
theorem Ko:aB Tryz.prog Tryz.f104 1 [0,2,4] [] true ([],[])=some LO:=by kernel_rfl
theorem at54:Tryz.prog.funcs[104]?=some Tryz.f104:=by kernel_rfl
def QB:bM:=⟨3,6,.seq (.region [.C 3]) (.seq (.region [.a 0,.a 1,.a 2,.a 0,.B 3,.qn (.sliceM 1 (.tmp 0) (some (.tmp 1)) (.tmp 2) (.tmp 4))]) (.seq (.seq (.region [.a 1,.a 2,.bc 5 0 1]) (.cond (.var 5) (.seq (.region [.a 0,.c 3 0]) .ret) .skip)) (.seq (.region [.a 0,.B 0,.c 4 1]) (.seq (.region [.a 0,.a 1,.a1 1 0 1,.a 0,.a 2,.a2 1 3 4,.ae 1 2 5,.c 0 6]) (.seq (.region [.a 0,.a 0,.B 1,.a 4,.qn (.sliceSl 1 (.tmp 0) (some (.tmp 2)) (some (.tmp 3))),.qn (.clear 1 (.int .i64 0) (.tmp 4))]) (.seq (.region [.a 0,.c 3 0]) .ret)))))),[.tmp 3]⟩
theorem Kn:aB Tryz.prog Tryz.f105 3 [0,1,2,6,7,16] [] true ([],[])=some QB:=by kernel_rfl
theorem at55:Tryz.prog.funcs[105]?=some Tryz.f105:=by kernel_rfl
def MU:bM:=⟨2,4,.seq (.region [.y 2 0]) (.seq (.region [.cn 3 1]) (.seq (.region [.qn (.makeFunc (.func 107) [] [.var 2,.var 3]),.j 1 3 0]) (.region [.o 1 3,.o 1 1,.qn (.call (.tmp 0) [.tmp 1,.cst .nilS])]))),[]⟩
theorem Km:aB Tryz.prog Tryz.f106 2 [0,1,2,3] [] true ([],[])=some MU:=by kernel_rfl
theorem at56:Tryz.prog.funcs[106]?=some Tryz.f106:=by kernel_rfl
def gT:MC:=.seq (.region [.w 13 12 11]) (.seq (.cond (.var 13) .skip (.exit 0)) (.seq (.seq (.block 1 (.seq (.region [.a 12,.H 1 10 12,.b 1 1,.c 5 0,.c 6 2]) (.seq (.region [.a 5,.a 0,.B 1,.A 2 1,.qn (.bin .eql (.tmp 0) (.tmp 3)),.c 7 4]) (.seq (.seq (.region [.a 6,.N 0,.h 1,.z 7 2,.L 3 2,.bq 4 2,.x 0 5,.x 5 5,.qt (.bin .add (.tmp 7) (.cst (.int .i64 1))) 5,.b4 1 6 8 5,.p 1 9 5,.ac 5 10 2,.G 14 2 11]) (.cond (.var 14) (.exit 1) .skip)) (.seq (.region [.a 0,.E 109 0,.c 8 1]) (.seq (.region [.a 8,.a 5,.g 1 0 1,.qn (.store 1 (.tmp 2) (.cst (.bool false)))]) (.seq (.seq (.region [.a 7,.S 15 0]) (.cond (.var 15) (.region [.a 8,.a 5,.t 1 1,.g 1 0 2,.c0 1 3]) .skip)) (.seq (.regionD [] [.o 1 3,.a 8,.a 1,.E 63 2,.a 5,.t 4 1,.bz 5,.ch 3 6,.ay 0 1 7,.S 16 8] [(0,3),(0,7)]) (.cond (.var 16) (.seq (.region [.f 4]) .ret) .skip))))))))) (.kill [2,4,5,6,7,8,9,13,14,15,16])) (.region [.m 12 1,.c 12 0])))
def He:bM:=⟨4,17,.seq (.region [.f 4]) (.seq (.seq (.region [.a 0,.qn (.call (.fn 108) [.tmp 0,.cst (.bool true)]),.S 9 1]) (.cond (.var 9) (.seq (.regionD [] [.o 1 2,.a 1,.E 63 1,.ah 0 2,.c 4 3] [(0,2)]) .ret) .skip)) (.seq (.seq (.region [.T 10 0,.R 11 10,.e 12 0]) (.seq (.block 0 (.loop [2,4,5,6,7,8,9,13,14,15,16] gT)) (.kill [0,1,2,3,4,5,6,7,8,9,10,11,12,13,14,15,16]))) (.seq (.region [.M 4]) .ret))),[.tmp 4]⟩
def kc:List Nat:=[2,4,5,6,7,8,9,13,14,15,16]
abbrev nk (v0 v1 v3 v10 v11 v12:AV):List AV:=[v0,v1,.undef,v3,.undef,.undef,.undef,.undef,.undef,.undef,v10,v11,v12,.undef,.undef,.undef,.undef]
theorem yX:clear kc [v0,v1,d2,v3,d4,d5,d6,d7,d8,d9,v10,v11,v12,d13,d14,d15,d16]=nk v0 v1 v3 v10 v11 v12:=rfl
theorem Jn {o:Out} {k:List KC} (h:cc (evC E fuel gT) kc fuel (nk v0 v1 v3 v10 v11 v12) A=some o) :
  run E fuel (.code (.loop [2,4,5,6,7,8,9,13,14,15,16] gT) :: k) [v0,v1,d2,v3,d4,d5,d6,d7,d8,d9,v10,v11,v12,d13,d14,d15,d16] A=after E fuel k o:=aV kc _ _ (by rw [yX]; exact h)
theorem CH:aB Tryz.prog Tryz.f107 4 [0,1,2,3,6,7,8,9,10,13,18,19,20,21,42,49,63] [] true ([[2,4,5,6,7,8,9,13,14,15,16]],[[2,4,5,6,7,8,9,13,14,15,16],[0,1,2,3,4,5,6,7,8,9,10,11,12,13,14,15,16]])=some He:=by kernel_rfl
theorem Q2:Tryz.prog.funcs[107]?=some Tryz.f107:=by kernel_rfl
def MT:bM:=⟨2,3,.seq (.region [.f 2]) (.seq (.region [.a 0,.a 1,.q 153 0 1,.P 2 0,.c 2 3]) .ret),[.tmp 2]⟩
theorem Kl:aB Tryz.prog Tryz.f108 2 [0,1,4] [] true ([],[])=some MT:=by kernel_rfl
theorem at58:Tryz.prog.funcs[108]?=some Tryz.f108:=by kernel_rfl
def Io:bM:=⟨1,3,.seq (.region [.C 1]) (.seq (.seq (.region [.a 0,.c2 2 0]) (.cond (.var 2) (.seq (.region [.C 1]) .ret) .skip)) (.seq (.region [.cw,.a 0,.qn (.append 1 1 (.tmp 0) (.tmp 1)),.c 1 2]) .ret)),[.tmp 1]⟩
theorem Kk:aB Tryz.prog Tryz.f109 1 [0,2,4] [] true ([],[])=some Io:=by kernel_rfl
theorem at59:Tryz.prog.funcs[109]?=some Tryz.f109:=by kernel_rfl
def LN:bM:=⟨2,2,.region [.o 1 1,.a 0,.qn (.append 4 32 (.tmp 0) (.tmp 1)),.j 1 1 2],[]⟩
theorem Kj:aB Tryz.prog Tryz.f110 2 [0,1] [] true ([],[])=some LN:=by kernel_rfl
theorem at60:Tryz.prog.funcs[110]?=some Tryz.f110:=by kernel_rfl
def kj:MC:=.seq (.region [.w 6 5 4]) (.seq (.cond (.var 6) .skip (.exit 0)) (.seq (.seq (.block 1 (.seq (.region [.a 5,.c 3 0]) (.seq (.region [.a 1,.a 0,.a 3,.g 1 1 2,.b 1 3,.qs 7 (.eqBool false (.tmp 0) (.tmp 4))]) (.cond (.var 7) (.seq (.region [.a 3,.c 2 0]) .ret) .skip)))) (.kill [2,3,6,7])) (.region [.m 5 1,.c 5 0])))
def LH:bM:=⟨2,8,.seq (.region [.e 2 0]) (.seq (.seq (.region [.a 0,.ak 4 0,.e 5 0]) (.seq (.block 0 (.loop [2,3,6,7] kj)) (.kill [0,1,2,3,4,5,6,7]))) (.seq (.region [.e 2 (-1)]) .ret)),[.tmp 2]⟩
def ir:List Nat:=[2,3,6,7]
abbrev lq (v0 v1 v4 v5:AV):List AV:=[v0,v1,.undef,.undef,v4,v5,.undef,.undef]
theorem CJ:clear ir [v0,v1,d2,d3,v4,v5,d6,d7]=lq v0 v1 v4 v5:=rfl
theorem Cl {o:Out} {k:List KC} (h:cc (evC E fuel kj) ir fuel (lq v0 v1 v4 v5) A=some o) :
  run E fuel (.code (.loop [2,3,6,7] kj) :: k) [v0,v1,d2,d3,v4,v5,d6,d7] A=after E fuel k o:=aV ir _ _ (by rw [CJ]; exact h)
theorem J8:aB Tryz.prog Tryz.f153 2 [0,1,4,5,7,8,9,16] [] true ([[2,3,6,7]],[[2,3,6,7],[0,1,2,3,4,5,6,7]])=some LH:=by kernel_rfl
theorem at80:Tryz.prog.funcs[153]?=some Tryz.f153:=by kernel_rfl
end Tr
namespace Tr
open Go
def Hj:bM:=⟨2,4,.seq (.region [.e 2 0]) (.seq (.seq (.region [.a 0,.U 3 0 0]) (.cond (.var 3) (.region [.a 0,.t 0 1,.b1 1,.c 0 2]) .skip)) (.seq (.region [.a 0,.a 1,.c9 0 1,.c 2 2]) .ret)),[.tmp 2]⟩
theorem CI:aB Tryz.prog Tryz.f21 2 [0,1,4,6] [] true ([],[])=some Hj:=by kernel_rfl
theorem Q3:Tryz.prog.funcs[21]?=some Tryz.f21:=by kernel_rfl
def dI:MC:=.seq (.seq (.region [.a 5,.a 0,.B 1,.qn (.minmax false (.tmp 2) [.cst (.int .i64 4)]),.qn (.minmax true (.cst (.int .i64 1)) [.tmp 3]),.Z 7 0 4]) (.cond (.var 7) .skip (.exit 0))) (.seq (.seq (.block 1 (.seq (.region [.qn (.build [.int .i64 0,.int .i64 0] [(0,(1,.cst (.int .i64 20))),(1,(1,.cst (.int .i64 30)))]),.ar 6 2,.j 2 6 0]) (.seq (.seq (.region [.a 5,.a 0,.B 1,.Z 8 0 2]) (.cond (.var 8) (.seq (.region [.a 0,.a 5,.g 2 0 1,.cf 2 0,.b 1 3,.ci 39 4,.d 0 6,.I 1 6 5]) (.seq (.region [.a 0,.a 5,.g 2 0 1,.cf 2 1,.b 1 3,.qn (.call (.fn 39) [.tmp 4,.cst (.int .i64 50)]),.d 1 6,.I 1 6 5]) (.seq (.region [.a 0,.a 5,.g 2 0 1,.cf 2 1,.b 1 3,.qn (.bin .quo (.tmp 4) (.cst (.int .i64 50))),.qn (.call (.fn 39) [.tmp 5,.cst (.int .i64 3)]),.aa 9 6 0]) (.cond (.var 9) (.region [.d 1 6,.b 1 0,.t 1 200,.d 1 6,.I 1 3 2]) .skip)))) .skip)) (.region [.d 0 4,.b 1 0,.k 2 6,.di 2,.ap 2 1 3,.d 0 4,.I 1 5 4])))) (.kill [1,2,6,7,8,9])) (.region [.a 5,.t 0 1,.c 5 1]))
def wt:bM:=⟨2,10,.seq (.region [.y 2 1,.X 3 5]) (.seq (.regionD [39] [.cg 2 0,.b 1 0,.qn (.call (.fn 39) [.tmp 1,.cst (.int .i64 4)]),.cg 2 1,.b 1 3,.qn (.call (.fn 39) [.tmp 4,.cst (.int .i64 4)]),.cg 2 2,.b 1 6,.qn (.call (.fn 39) [.tmp 7,.cst (.int .i64 5)]),.qn (.build [.nilS,.int .i64 0,.int .i64 0,.int .i64 0,.int .i64 0] [(4,(1,.cst (.int .i64 1))),(1,(1,.tmp 2)),(2,(1,.tmp 5)),(3,(1,.tmp 8))]),.X 4 5,.j 5 4 9] [(0,10),(1,10),(2,10),(3,10),(4,10),(5,10),(6,10),(7,10),(8,10)]) (.seq (.seq (.region [.e 5 0]) (.seq (.block 0 (.loop [1,2,6,7,8,9] dI)) (.kill [0,1,2,5,6,7,8,9]))) (.seq (.region [.k 5 4,.j 5 3 0]) .ret))),[.cell 3 true 5]⟩
def mO:List Nat:=[1,2,6,7,8,9]
abbrev pn (v0 v3 v4 v5:AV):List AV:=[v0,.undef,.undef,v3,v4,v5,.undef,.undef,.undef,.undef]
theorem zc:clear mO [v0,d1,d2,v3,v4,v5,d6,d7,d8,d9]=pn v0 v3 v4 v5:=rfl
theorem Js {o:Out} {k:List KC} (h:cc (evC E fuel dI) mO fuel (pn v0 v3 v4 v5) A=some o) :
  run E fuel (.code (.loop [1,2,6,7,8,9] dI) :: k) [v0,d1,d2,v3,v4,v5,d6,d7,d8,d9] A=after E fuel k o:=aV mO _ _ (by rw [zc]; exact h)
theorem sg:aB Tryz.prog Tryz.f13 2 [0,1,3,4,5,6,7,23,30,52] [39] true ([[1,2,6,7,8,9]],[[1,2,6,7,8,9],[0,1,2,5,6,7,8,9]])=some wt:=by kernel_rfl
theorem KR:Tryz.prog.funcs[13]?=some Tryz.f13:=by kernel_rfl
def fL:MC:=.seq (.seq (.region [.a 5,.a 4,.B 1,.Z 6 0 2]) (.cond (.var 6) .skip (.exit 0))) (.seq (.seq (.block 1 (.seq (.region [.a 4,.a 5,.g 1 0 1,.b9 1 2 (-1)]) (.seq (.region [.a 5,.a 1,.B 1,.dd 0 2,.h 3,.x 1 4,.x 5 4,.b4 1 5 6 4,.p 1 7 4,.qt (.call (.fn 39) [.tmp 8,.cst (.int .i64 4)]) 4,.b7 9 0 4,.bs 7 4 10]) (.cond (.var 7) (.region [.a 4,.a 5,.a 1,.a 5,.g 1 2 3,.b 1 4,.qn (.bin .quo (.tmp 5) (.cst (.int .i64 4))),.qn (.call (.fn 39) [.tmp 6,.cst (.int .i64 120)]),.g 1 0 1,.I 1 8 7]) .skip)))) (.kill [0,2,3,6,7])) (.region [.a 5,.t 0 1,.c 5 1]))
def Hi:bM:=⟨2,8,.seq (.region [.y 2 0,.C 3]) (.seq (.region [.d 0 2,.b 1 0,.B 1,.bl 2 2,.c 4 3]) (.seq (.seq (.region [.e 5 0]) (.seq (.block 0 (.loop [0,2,3,6,7] fL)) (.kill [0,1,2,3,5,6,7]))) (.seq (.region [.a 4,.c 3 0]) .ret))),[.tmp 3]⟩
def fd:List Nat:=[0,2,3,6,7]
abbrev jS (v1 v4 v5:AV):List AV:=[.undef,v1,.undef,.undef,v4,v5,.undef,.undef]
theorem si:clear fd [d0,v1,d2,d3,v4,v5,d6,d7]=jS v1 v4 v5:=rfl
theorem Ct {o:Out} {k:List KC} (h:cc (evC E fuel fL) fd fuel (jS v1 v4 v5) A=some o) :
  run E fuel (.code (.loop [0,2,3,6,7] fL) :: k) [d0,v1,d2,d3,v4,v5,d6,d7] A=after E fuel k o:=aV fd _ _ (by rw [si]; exact h)
theorem yR:aB Tryz.prog Tryz.f23 2 [0,1,2,4,5,6,14,31] [] true ([[0,2,3,6,7]],[[0,2,3,6,7],[0,1,2,3,5,6,7]])=some Hi:=by kernel_rfl
theorem Pb:Tryz.prog.funcs[23]?=some Tryz.f23:=by kernel_rfl
def E8:bM:=⟨2,4,.seq (.region [.e 2 0]) (.seq (.seq (.region [.a 0,.U 3 0 0]) (.cond (.var 3) (.region [.a 0,.t 0 1,.b1 1,.c 0 2]) .skip)) (.seq (.region [.a 0,.a 1,.c9 0 1,.c 2 2]) .ret)),[.tmp 2]⟩
theorem yG:aB Tryz.prog Tryz.f39 2 [0,1,4,6] [] true ([],[])=some E8:=by kernel_rfl
theorem O0:Tryz.prog.funcs[39]?=some Tryz.f39:=by kernel_rfl
end Tr
namespace Tr
open Go
open Clu (aU aZ)
open Cy (bc lar jM fC cC dR okA lvM)
abbrev cY:=Int × Int
def wT (T:aU):Int:=T.pick+T.travel+T.place
def tmT (T:aU) (k:Nat):Int:=(T.ch.getD k (0,0)).1
def syT (T:aU) (k:Nat):Int:=(T.ch.getD k (0,0)).2
def btw (T:aU) (last next:Int):Int:=if next=last+1 then 0 else T.travel
def jp (T:aU) (inn:List Int) (t:cY):Option (List Int):=
 if 1<=t.1 then (if 0<=inn.getD (t.1-1).toNat 0/\inn.getD (t.1-1).toNat 0<=t.2/\t.2<=inn.getD (t.1-1).toNat 0+syT T (t.1-1).toNat then some (inn.set (t.1-1).toNat (-1)) else none) else some inn
def sM (T:aU) (inn:List Int) (t:cY):Option (List Int):=
 if t.1<inn.length then (if 0<=inn.getD t.1.toNat 0 then none else some (inn.set t.1.toNat (t.2+wT T+tmT T t.1.toNat))) else some inn
structure St where
 inn:List Int
 last:Int
 fin:Int
def dY (T:aU) (s:St) (t:cY):Option St:=
 if (0<=t.1/\t.1<=s.inn.length)/\s.fin+btw T s.last t.1<=t.2/\t.2<=1000000000 then
  (jp T s.inn t).bind fun a=>(sM T a t).map fun b=>⟨b,t.1,t.2+wT T⟩
 else none
def mZ (T:aU):St->List cY->Option St
 | s,[]=>some s
 | s,t :: r=>(dY T s t).bind fun s'=>mZ T s' r
def Sit (T:aU) (rd:List Int) (free:Int):Prop:=(aZ T/\T.blades=1)/\rd.length=T.ch.length/\(0<=free/\free<=2000000)/\∀t∈rd,-1<=t/\t<=500000
instance (T:aU) (rd:List Int) (free:Int):Decidable (Sit T rd free):=inferInstanceAs (Decidable (_/\_))
def st0 (rd:List Int) (free:Int):St:=⟨rd,-2,free⟩
def fH (T:aU) (rd:List Int) (free:Int) (l:List cY):Option Int:=if Sit T rd free then (mZ T (st0 rd free) l).map (·.fin) else none
def mvB (b:List Bool) (k:Nat):List Bool:=if k+1=b.length then b.set k false else (b.set k false).set (k+1) true
def oM (b:List Bool) (k:Nat):Bool:=b.getD k false && (decide (k+1=b.length) || !b.getD (k+1) false)
def vQ:Nat->List Bool->List (List Int)
 | 0,b=>if b.any id then [] else [[]]
 | d+1,b=>if b.any id then (List.range b.length).flatMap fun k=>if oM b k then (vQ d (mvB b k)).map (((k:Int)+1) :: ·) else [] else [[]]
def Emp:List Bool->List Int->Prop
 | b,[]=>b.any id=false
 | b,t :: r=>∃k:Nat,t=(k:Int)+1/\k<b.length/\oM b k=true/\Emp (mvB b k) r
def mB:List Bool->Nat
 | []=>0
 | x :: r=>(if x then r.length+1 else 0)+mB r
theorem qs:∀b:List Bool,mB b=0->b.any id=false
 | [],_=>rfl
 | x :: r,h=>by
  simp only [mB] at h
  cases x
  ·simp only [List.any_cons,id,Bool.false_or]
   exact qs r (by simpa using h)
  ·simp at h
theorem I3:∀b:List Bool,b.any id=false->mB b=0
 | [],_=>rfl
 | x :: r,h=>by
  simp only [List.any_cons,id,Bool.or_eq_false_iff] at h
  simp only [mB,h.1,I3 r h.2]; rfl
theorem xN (v:Bool):∀(b:List Bool) (k:Nat),k<b.length->mB (b.set k v)+(if b.getD k false then b.length-k else 0)=mB b+(if v then b.length-k else 0)
 | [],k,h=>absurd h (Ts _)
 | x :: r,0,_=>by simp [mB]; omega
 | x :: r,k+1,h=>by
  have:=xN v r k (by simpa using h)
  simp only [S8,mB,SA,List.getD_cons_succ,Su,Nat.add_sub_add_right]
  omega
theorem qp (b:List Bool) (k:Nat):(mvB b k).length=b.length:=by
 unfold mvB; split <;> simp
theorem iN:oM b k=true↔b.getD k false=true/\(k+1=b.length\/b.getD (k+1) false=false):=by
 simp [oM]
theorem ky (b:List Bool) (i j:Nat) (v:Bool):(b.set i v).getD j false=if i=j/\i<b.length then v else b.getD j false:=by
 simp only [RC,List.getElem?_set]
 by_cases h:i=j
 ·subst h
  by_cases h2:i<b.length
  ·simp [h2]
  ·simp [h2]
 ·simp [h]
theorem E6 (hk:k<b.length) (j:Nat):(mvB b k).getD j false=if j=k then false else if j=k+1/\k+1<b.length then true else b.getD j false:=by
 unfold mvB
 split
 ·rw [ky]
  by_cases h:j=k
  ·subst h; simp [hk]
  ·rw [RN (by omega),RN h,RN (by omega)]
 ·rw [ky,ky,SA]
  by_cases h:j=k
  ·subst h; rw [RN (by omega),RL ⟨rfl,hk⟩,RL rfl]
  ·by_cases h2:j=k+1
   ·subst h2; rw [RL ⟨rfl,by omega⟩,RN (by omega),RL ⟨rfl,by omega⟩]
   ·rw [RN (by omega),RN (by omega),RN h,RN (by omega)]
theorem vV (hk:k<b.length) (hc:oM b k=true):mB (mvB b k)+1=mB b:=by
 obtain ⟨h1,h2⟩:=iN.1 hc
 have e1:=xN false b k hk
 rw [h1] at e1
 unfold mvB
 split
 ·simp at e1; omega
 ·rename_i h
  have e2:=xN true (b.set k false) (k+1) (by simp; omega)
  have e3:(b.set k false).getD (k+1) false=false:=by
   rw [ky,RN (by omega)]
   exact h2.resolve_left h
  rw [e3] at e2
  simp at e1 e2
  omega
theorem zZ:∀ {b:List Bool} {o:List Int},Emp b o->o.length=mB b
 | b,[],h=>(I3 b h).symm
 | b,t :: r,⟨k,_,hk,hc,hr⟩=>by
  have:=zZ hr
  have:=vV hk hc
  simp only [Su]; omega
theorem G1:b.any id=true↔∃k,k<b.length/\b.getD k false=true:=by
 rw [List.any_eq_true]
 constructor
 ·rintro ⟨x,hx,h⟩
  obtain ⟨k,hk,rfl⟩:=Sz.1 hx
  exact ⟨k,hk,by rw [RC,RD hk]; exact h⟩
 ·rintro ⟨k,hk,h⟩
  rw [RC,RD hk] at h
  exact ⟨b[k],RM hk,h⟩
theorem qT (h:b.any id=false) (k:Nat):b.getD k false=false:=by
 by_cases hk:k<b.length
 ·cases e:b.getD k false
  ·rfl
  ·rw [G1.2 ⟨k,hk,e⟩] at h; cases h
 ·rw [RC,Sg (TR hk)]; rfl
theorem qo:∀(d:Nat) (b:List Bool) (o:List Int),mB b<=d->(o∈vQ d b↔Emp b o)
 | 0,b,o,hd=>by
  have ha:=qs b (by omega)
  unfold vQ
  rw [ha]
  cases o with
  | nil=>simp [Emp,ha]
  | cons t r=>
   simp only [Sa,S3,SC,Emp]
   constructor
   ·intro h; cases h
   ·rintro ⟨k,_,_,hc,_⟩
    exact absurd (qT ha k) (by rw [(iN.1 hc).1]; decide)
 | d+1,b,o,hd=>by
  unfold vQ
  cases ha:b.any id
  ·cases o with
   | nil=>simp [Emp,ha]
   | cons t r=>
    simp only [Sa,S3,SC,Emp]
    constructor
    ·intro h; cases h
    ·rintro ⟨k,_,_,hc,_⟩
     exact absurd (qT ha k) (by rw [(iN.1 hc).1]; decide)
  ·simp only [SP,TN,SD]
   cases o with
   | nil=>
    simp only [Emp,ha]
    constructor
    ·rintro ⟨k,_,h⟩
     split at h
     ·simp at h
     ·simp at h
    ·intro h; cases h
   | cons t r=>
    simp only [Emp]
    constructor
    ·rintro ⟨k,hk,h⟩
     split at h
     ·rename_i hc
      obtain ⟨r',hr',e⟩:=R1.1 h
      injection e with e1 e2
      subst e2
      have:=vV hk hc
      exact ⟨k,e1.symm,hk,hc,(qo d _ _ (by omega)).1 hr'⟩
     ·cases h
    ·rintro ⟨k,rfl,hk,hc,hr⟩
     have:=vV hk hc
     refine ⟨k,hk,?_⟩
     rw [RL hc]
     exact R1.2 ⟨r,(qo d _ _ (by omega)).2 hr,rfl⟩
theorem I4:∀b:List Bool,b.length<=4->mB b<=10
 | [],_=>by simp [mB]
 | [a],_=>by cases a <;> decide
 | [a,b],_=>by cases a <;> cases b <;> decide
 | [a,b,c],_=>by cases a <;> cases b <;> cases c <;> decide
 | [a,b,c,d],_=>by cases a <;> cases b <;> cases c <;> cases d <;> decide
 | _ :: _ :: _ :: _ :: _ :: _,h=>by simp at h
def upd (a:Nat->Option Nat) (k v:Nat):Nat->Option Nat:=fun j=>if j=k then some v else a j
def fG (T:aU) (rd:List Int) (a:Nat->Option Nat) (k:Nat):Nat × Int:=match a k with | some p=>(p,wT T+tmT T k) | none=>(0,rd.getD k 0)
def hdT (T:aU) (free:Int) (i:Nat) (last t:Int):bc:=if i=0 then ⟨0,1,free+T.travel,0⟩ else ⟨i,(i:Int)+1,wT T+btw T last t,0⟩
def fY (T:aU) (rd:List Int) (free:Int):Nat->Int->(Nat->Option Nat)->List Int->List bc
 | _,_,_,[]=>[]
 | i,last,a,t :: r=>hdT T free i last t :: ⟨((fG T rd a (t-1).toNat).1:Int),(i:Int)+1,(fG T rd a (t-1).toNat).2,0⟩ ::
   ⟨(i:Int)+1,((fG T rd a (t-1).toNat).1:Int),-((fG T rd a (t-1).toNat).2+syT T (t-1).toNat),0⟩ :: fY T rd free (i+1) t (upd a t.toNat (i+1)) r
def cH (T:aU) (rd:List Int) (free:Int) (o:List Int):List bc:=fY T rd free 0 (-2) (fun _=>none) o
def mkX (X:Nat->Int):Nat->List Int->List cY
 | _,[]=>[]
 | i,t :: r=>(t,X (i+1)) :: mkX X (i+1) r
def KX (X:Nat->Int) (L:List bc):Prop:=∀a∈L,X a.f.toNat+a.w<=X a.t.toNat
theorem qW {a:bc} {L:List bc}:KX X (a :: L)↔X a.f.toNat+a.w<=X a.t.toNat/\KX X L:=by simp [KX]
def RI (T:aU) (rd:List Int) (X:Nat->Int) (b:List Bool) (inn:List Int) (a:Nat->Option Nat):Prop:=
 b.length=T.ch.length/\inn.length=T.ch.length/\∀k,k<T.ch.length->(b.getD k false=true->0<=inn.getD k 0/\inn.getD k 0=X (fG T rd a k).1+(fG T rd a k).2)/\(b.getD k false=false->inn.getD k 0 = -1)
theorem eI (l:List Int) (i j:Nat) (v:Int):(l.set i v).getD j 0=if i=j/\i<l.length then v else l.getD j 0:=by
 simp only [RC,List.getElem?_set]
 by_cases h:i=j
 ·subst h
  by_cases h2:i<l.length
  ·simp [h2]
  ·simp [h2]
 ·simp [h]
theorem eA {T:aU} (hv:aZ T) (k:Nat):0<=tmT T k/\tmT T k<=100000/\0<=syT T k/\syT T k<=100000:=by
 unfold tmT syT
 by_cases hk:k<T.ch.length
 ·rw [RC,RD hk]
  have:=hv.1 _ (RM hk)
  unfold Clu.sN at this
  simp only [So]
  omega
 ·rw [RC,Sg (TR hk)]
  simp
theorem dD {T:aU} (hv:aZ T):(0<=T.travel/\T.travel<=10000)/\0<=wT T/\wT T<=30000:=by
 obtain ⟨_,⟨h1,h2,h3⟩,_⟩:=hv
 unfold wT; omega
theorem fk {T:aU} (hv:aZ T) (a b:Int):0<=btw T a b/\btw T a b<=T.travel:=by
 have:=(dD hv).1
 unfold btw; split <;> omega
theorem Aq {T:aU} {a:Nat->Option Nat} (_hv:aZ T) (hR:RI T rd X b inn a) (hk:k<b.length) (hc:oM b k=true) (i:Nat) (last e:Int) (_he:0<=e) :
  dY T ⟨inn,last,e⟩ ((k:Int)+1,X (i+1)) =
   if (e+btw T last ((k:Int)+1)<=X (i+1))/\(X (fG T rd a k).1+(fG T rd a k).2<=X (i+1)/\X (i+1)<=X (fG T rd a k).1+(fG T rd a k).2+syT T k)/\X (i+1)<=1000000000 then
    some ⟨if k+1=b.length then inn.set k (-1) else (inn.set k (-1)).set (k+1) (X (i+1)+wT T+tmT T (k+1)),(k:Int)+1,X (i+1)+wT T⟩ else none:=by
 obtain ⟨hb,hi,hA⟩:=hR
 obtain ⟨h1,h2⟩:=iN.1 hc
 obtain ⟨h3,h4⟩:=(hA k (by omega)).1 h1
 have e1:((k:Int)+1-1).toNat=k:=by omega
 have e2:((k:Int)+1).toNat=k+1:=by omega
 unfold dY jp sM
 simp only [e1,e2,<-h4]
 by_cases c1:e+btw T last ((k:Int)+1)<=X (i+1)
 rotate_left
 ·rw [RN (fun h=>c1 h.2.1),RN (fun h=>c1 h.1)]
 by_cases c4:X (i+1)<=1000000000
 rotate_left
 ·rw [RN (fun h=>c4 h.2.2),RN (fun h=>c4 h.2.2)]
 rw [RL ⟨by omega,c1,c4⟩,RL (by omega)]
 by_cases c2:inn.getD k 0<=X (i+1)/\X (i+1)<=inn.getD k 0+syT T k
 rotate_left
 ·rw [RN (fun h=>c2 h.2),RN (fun h=>c2 h.2.1)]; rfl
 rw [RL ⟨h3,c2⟩,RL ⟨c1,c2,c4⟩]
 simp only [Sl,SA]
 by_cases c5:k+1=b.length
 ·rw [RN (by omega),RL c5]; rfl
 ·rw [RL (by omega),RN c5]
  have hn:inn.getD (k+1) 0 = -1:=(hA (k+1) (by omega)).2 (h2.resolve_left c5)
  have hn2:(inn.set k (-1)).getD (k+1) 0 = -1:=by rw [eI,RN (by omega)]; exact hn
  rw [hn2,RN (by omega)]; rfl
theorem Dp {T:aU} {a:Nat->Option Nat} (hR:RI T rd X b inn a) (hk:k<b.length) (i:Nat) (h0:0<=X (i+1)+wT T+tmT T (k+1)) :
  RI T rd X (mvB b k) (if k+1=b.length then inn.set k (-1) else (inn.set k (-1)).set (k+1) (X (i+1)+wT T+tmT T (k+1))) (upd a (k+1) (i+1)):=by
 obtain ⟨hb,hi,hA⟩:=hR
 refine ⟨by rw [qp]; exact hb,by split <;> simp [hi],fun j hj=>?_⟩
 rw [E6 hk]
 by_cases c5:k+1=b.length
 ·rw [RL c5,eI]
  by_cases h:j=k
  ·subst h
   rw [RL rfl,RL ⟨rfl,by omega⟩]
   exact ⟨fun h=>by simp at h,fun _=>rfl⟩
  ·rw [RN h,RN (by omega),RN (by omega)]
   have e:fG T rd (upd a (k+1) (i+1)) j=fG T rd a j:=by
    unfold fG upd; rw [RN (by omega)]
   rw [e]; exact hA j hj
 ·rw [RN c5,eI,eI,SA]
  by_cases h:j=k
  ·subst h
   rw [RL rfl,RN (by omega),RL ⟨rfl,by omega⟩]
   exact ⟨fun h=>by simp at h,fun _=>rfl⟩
  ·by_cases h2:j=k+1
   ·subst h2
    rw [RN h,RL ⟨rfl,by omega⟩,RL ⟨rfl,by omega⟩]
    have e:fG T rd (upd a (k+1) (i+1)) (k+1)=(i+1,wT T+tmT T (k+1)):=by
     unfold fG upd; rw [RL rfl]
    rw [e]
    exact ⟨fun _=>⟨h0,by simp only; omega⟩,fun h=>by simp at h⟩
   ·rw [RN h,RN (by omega),RN (by omega),RN (by omega)]
    have e:fG T rd (upd a (k+1) (i+1)) j=fG T rd a j:=by
     unfold fG upd; rw [RN (by omega)]
    rw [e]; exact hA j hj
theorem zl {T:aU} (hv:aZ T) (hf:0<=free) (hX0:X 0=0):∀(o:List Int) (b:List Bool) (inn:List Int) (a:Nat->Option Nat) (i:Nat) (last e:Int),Emp b o->RI T rd X b inn a->0<=e->(if i=0 then e=free/\last = -2 else e=X i+wT T) ->
  ((∃s,mZ T ⟨inn,last,e⟩ (mkX X i o)=some s)↔KX X (fY T rd free i last a o)/\∀j,i<j->j<=i+o.length->X j<=1000000000) /\
  ∀s,mZ T ⟨inn,last,e⟩ (mkX X i o)=some s->s.fin=(if o=[] then e else X (i+o.length)+wT T)/\(∀k,s.inn.getD k 0<=0->True)/\s.inn.length=T.ch.length/\∀k,k<T.ch.length->s.inn.getD k 0 = -1
 | [],b,inn,a,i,last,e,hE,hR,he,hi=>by
  refine ⟨⟨fun _=>⟨fun a ha=>(by simp [fY] at ha),fun j h1 h2=>(by simp at h2; omega)⟩,fun _=>⟨_,rfl⟩⟩,fun s hs=>?_⟩
  injection hs with hs; subst hs
  refine ⟨by rw [RL rfl],fun _ _=>trivial,hR.2.1,fun k hk=>?_⟩
  exact (hR.2.2 k hk).2 (qT hE k)
 | t :: r,b,inn,a,i,last,e,⟨k,ht,hk,hc,hr⟩,hR,he,hi=>by
  subst ht
  have hw:=dD hv
  have hb:=fk hv last ((k:Int)+1)
  have e1:((k:Int)+1-1).toNat=k:=by omega
  have e2:((k:Int)+1).toNat=k+1:=by omega
  have hs:=Aq hv hR hk hc i last e he
  have hh:(X (hdT T free i last ((k:Int)+1)).f.toNat+(hdT T free i last ((k:Int)+1)).w<=X (hdT T free i last ((k:Int)+1)).t.toNat)↔e+btw T last ((k:Int)+1)<=X (i+1):=by
   unfold hdT
   by_cases h:i=0
   ·subst h
    rw [RL rfl] at hi ⊢
    have:btw T last ((k:Int)+1)=T.travel:=by
     unfold btw; rw [RN (by omega)]
    rw [this,hi.1]
    simp only [Ub,hX0,Tb]
    show 0+(free+T.travel)<=X 1↔_
    omega
   ·rw [RN h] at hi ⊢
    rw [hi]
    simp only [RY]
    have:((i:Int)+1).toNat=i+1:=by omega
    rw [this]; omega
  have e3:((i:Int)+1).toNat=i+1:=by omega
  simp only [mkX,mZ,fY,qW,hh,e1,e2,e3,RY,hs]
  by_cases hcond:(e+btw T last ((k:Int)+1)<=X (i+1))/\(X (fG T rd a k).1+(fG T rd a k).2<=X (i+1)/\X (i+1)<=X (fG T rd a k).1+(fG T rd a k).2+syT T k)/\X (i+1)<=1000000000
  rotate_left
  ·rw [RN hcond]
   refine ⟨⟨(by rintro ⟨s,h⟩; cases h),?_⟩,fun s h=>by cases h⟩
   rintro ⟨⟨h1,h2,h3,_⟩,h4⟩
   exact absurd ⟨h1,⟨h2,by omega⟩,h4 (i+1) (by omega) (by simp)⟩ hcond
  rw [RL hcond]
  obtain ⟨g1,g2,g3⟩:=hcond
  have hR':=Dp hR hk i (by have:=(eA hv (k+1)).1; omega)
  have ih:=zl hv hf hX0 r (mvB b k) _ (upd a (k+1) (i+1)) (i+1) ((k:Int)+1) (X (i+1)+wT T) hr hR' (by omega) (by rw [RN (by omega)])
  simp only [Sl]
  refine ⟨ih.1.trans ⟨?_,?_⟩,fun s hs=>?_⟩
  ·rintro ⟨h1,h2⟩
   refine ⟨⟨g1,g2.1,by omega,h1⟩,fun j j1 j2=>?_⟩
   by_cases hj:j=i+1
   ·subst hj; exact g3
   ·exact h2 j (by omega) (by simp at j2; omega)
  ·rintro ⟨⟨_,_,_,h1⟩,h2⟩
   exact ⟨h1,fun j j1 j2=>h2 j (by omega) (by simp; omega)⟩
  ·obtain ⟨q1,q2⟩:=ih.2 s hs
   refine ⟨?_,q2⟩
   rw [q1,RN (show ¬ (((k:Int)+1) :: r=[]) by simp)]
   cases r with
   | nil=>simp
   | cons t' r'=>
    rw [RN (by simp)]
    simp only [Su]
    rw [show i+1+(r'.length+1)=i+(r'.length+1+1) by omega]
end Tr
namespace Tr
open Go
open Clu (aU aZ)
open Cy (bc lar jM fC cC dR okA lvM Pos qt dH)
def b0 (rd:List Int):List Bool:=rd.map fun t=>decide (0<=t)
theorem ey (rd:List Int):(b0 rd).length=rd.length:=by simp [b0]
theorem CV (hk:k<rd.length):(b0 rd).getD k false=decide (0<=rd.getD k 0):=by
 simp [b0,RD hk]
theorem xA {T:aU} (hS:Sit T rd free) (k:Nat) : -1<=rd.getD k 0/\rd.getD k 0<=500000:=by
 by_cases hk:k<rd.length
 ·rw [RC,RD hk]
  exact hS.2.2.2 _ (RM hk)
 ·rw [RC,Sg (TR hk)]
  simp
theorem RI0 {T:aU} (hS:Sit T rd free) (hX:X 0=0):RI T rd X (b0 rd) rd (fun _=>none):=by
 refine ⟨by rw [ey]; exact hS.2.1,hS.2.1,fun k hk=>?_⟩
 have hk':k<rd.length:=by rw [hS.2.1]; exact hk
 have:=xA hS k
 rw [CV hk']
 refine ⟨fun h=>?_,fun h=>?_⟩
 ·have h:=of_decide_eq_true h
  refine ⟨h,?_⟩
  show _=X 0+rd.getD k 0
  omega
 ·have h:=of_decide_eq_false h
  omega
theorem iM {T:aU} {rd:List Int} {free:Int} (hS:Sit T rd free) (hX:X 0=0) (hE:Emp (b0 rd) o) :
  ((∃s,mZ T (st0 rd free) (mkX X 0 o)=some s)↔KX X (cH T rd free o)/\∀j,0<j->j<=o.length->X j<=1000000000) /\
  ∀s,mZ T (st0 rd free) (mkX X 0 o)=some s->s.fin=(if o=[] then free else X o.length+wT T)/\s.inn.length=T.ch.length/\∀k,k<T.ch.length->s.inn.getD k 0 = -1:=by
 have h:=zl (T:=T) (rd:=rd) (free:=free) hS.1.1 hS.2.2.1.1 hX o (b0 rd) rd (fun _=>none) 0 (-2) free hE (RI0 hS hX) hS.2.2.1.1 (by rw [RL rfl]; exact ⟨rfl,rfl⟩)
 rw [Tb] at h
 exact ⟨h.1,fun s hs=>⟨(h.2 s hs).1,(h.2 s hs).2.2⟩⟩
theorem uc:∀ {b:List Bool} {o:List Int},Emp b o->∀t∈o,1<=t/\t<=b.length
 | _,[],_=>fun t ht=>by cases ht
 | b,t :: r,⟨k,e,hk,_,hr⟩=>fun x hx=>by
  rcases Sx.1 hx with rfl | hx
  ·omega
  ·have:=uc hr x hx
   rw [qp] at this; exact this
theorem vr {T:aU} (hS:Sit T rd free) (N:Int):∀(o:List Int) (i:Nat) (last:Int) (a:Nat->Option Nat),(∀k p,a k=some p->p<=i)->(i:Int)+o.length<=N-1->(i=0->o≠[]->free+T.travel<=1000000)->∀x∈fY T rd free i last a o,okA N x/\x.k=0
 | [],i,last,a,ha,hn,hf=>fun x hx=>by cases hx
 | t :: r,i,last,a,ha,hn,hf=>fun x hx=>by
  have hw:=dD hS.1.1
  have hb:=fk hS.1.1 last t
  have hc:=eA hS.1.1 (t-1).toNat
  have hfr:=hS.2.2.1
  have hrd:=xA hS (t-1).toNat
  have hs:(fG T rd a (t-1).toNat).1<=i /\ -1<=(fG T rd a (t-1).toNat).2/\(fG T rd a (t-1).toNat).2<=500000:=by
   unfold fG
   split
   ·rename_i p hp
    exact ⟨ha _ _ hp,by simp only; omega,by simp only; omega⟩
   ·exact ⟨TE _,by simp only; omega,by simp only; omega⟩
  obtain ⟨s1,s2,s3⟩:=hs
  simp only [Su] at hn
  simp only [fY,Sx] at hx
  rcases hx with rfl | rfl | rfl | hx
  ·unfold hdT
   split
   ·have:=hf (by assumption) (by simp)
    refine ⟨⟨⟨by simp,by simp only; omega⟩,⟨by simp,by simp only; omega⟩,⟨by simp only; omega,by simp only; omega⟩,by simp⟩,rfl⟩
   ·refine ⟨⟨⟨by simp,by simp only; omega⟩,⟨by simp only; omega,by simp only; omega⟩,⟨by simp only; omega,by simp only; omega⟩,by simp⟩,rfl⟩
  ·exact ⟨⟨⟨by simp,by simp only; omega⟩,⟨by simp only; omega,by simp only; omega⟩,⟨by simp only; omega,by simp only; omega⟩,by simp⟩,rfl⟩
  ·exact ⟨⟨⟨by simp only; omega,by simp only; omega⟩,⟨by simp,by simp only; omega⟩,⟨by simp only; omega,by simp only; omega⟩,by simp⟩,rfl⟩
  ·refine vr hS N r (i+1) t _ (fun k p hp=>?_) (by push_cast; omega) (fun h=>by omega) x hx
   unfold upd at hp
   split at hp
   ·injection hp with hp; omega
   ·have:=ha k p hp; omega
theorem oD (T:aU) (rd:List Int) (free:Int):∀(o:List Int) (i:Nat) (last:Int) (a:Nat->Option Nat),(fY T rd free i last a o).length=3*o.length
 | [],_,_,_=>rfl
 | t :: r,i,last,a=>by simp only [fY,Su,oD T rd free r]; omega
theorem C7 {T:aU} (hS:Sit T rd free) (hX0:X 0=0):∀(o:List Int) (i:Nat) (last:Int) (a:Nat->Option Nat),KX X (fY T rd free i last a o)->0<=X i->∀j,i<=j->j<=i+o.length->0<=X j
 | [],i,last,a,hK,hi,j,h1,h2=>by
  have:j=i:=by simp at h2; omega
  rw [this]; exact hi
 | t :: r,i,last,a,hK,hi,j,h1,h2=>by
  by_cases hj:j=i
  ·rw [hj]; exact hi
  simp only [fY,qW] at hK
  obtain ⟨k1,_,_,k4⟩:=hK
  have hw:=dD hS.1.1
  have hb:=fk hS.1.1 last t
  have hfr:=hS.2.2.1
  have:0<=X (i+1):=by
   unfold hdT at k1
   split at k1
   ·rename_i h0
    subst h0
    simp only [Ub] at k1
    have e:(1:Int).toNat=1:=rfl
    rw [e] at k1
    show 0<=X 1
    omega
   ·simp only [RY] at k1
    have e:((i:Int)+1).toNat=i+1:=by omega
    rw [e] at k1
    omega
  exact C7 hS hX0 r (i+1) t _ k4 this j (by omega) (by simp at h2; omega)
def lX (X:Nat->Int) (m:Nat):List Int:=(List.range m).map X
theorem Ci (X:Nat->Int) {m j:Nat} (h:j<m):(lX X m).getD j 0=X j:=by simp [lX,h]
theorem Jh (X:Nat->Int) (m:Nat):(lX X m).length=m:=by simp [lX]
theorem uR {L:List bc} (hL:∀x∈L,okA n x/\x.k=0) (hs:∀j:Nat,(j:Int)<n->s.getD j 0=X j):jM (lar 0 L) s↔KX X L:=by
 unfold jM KX lar
 constructor
 ·intro h a ha
  have:=h _ (R1.2 ⟨a,ha,rfl⟩)
  obtain ⟨⟨o1,o2,_,_⟩,o3⟩:=hL a ha
  simp only [bc.len,o3] at this
  rw [hs _ (by omega),hs _ (by omega)] at this
  omega
 ·intro h x hx
  obtain ⟨a,ha,rfl⟩:=R1.1 hx
  have:=h a ha
  obtain ⟨⟨o1,o2,_,_⟩,o3⟩:=hL a ha
  simp only [bc.len,o3]
  rw [hs _ (by omega),hs _ (by omega)]
  omega
def eh (T:aU) (rd:List Int) (free:Int) (o:List Int):Option (List cY):=
 if (lvM ((o.length:Int)+1) (cH T rd free o) 0).2.2=true/\(lvM ((o.length:Int)+1) (cH T rd free o) 0).1.getD 0 0=0 then
  some (mkX (fun j=>(lvM ((o.length:Int)+1) (cH T rd free o) 0).1.getD j 0) 0 o) else none
theorem zC (h4:rd.length<=4):mB (b0 rd)<=10:=I4 _ (by rw [ey]; exact h4)
theorem gH {T:aU} (hS:Sit T rd free):1<=rd.length/\rd.length<=4:=by
 have:=hS.1.1.2.2; rw [hS.2.1]; omega
theorem ot {T:aU} (hS:Sit T rd free) (hE:Emp (b0 rd) o):o.length<=10:=by
 rw [zZ hE]; exact zC (gH hS).2
theorem jY {T:aU} (hS:Sit T rd free) (hE:Emp (b0 rd) o) (hf:o≠[]->free+T.travel<=1000000):cC ((o.length:Int)+1) (cH T rd free o) 0/\∀x∈cH T rd free o,okA ((o.length:Int)+1) x/\x.k=0:=by
 have hl:=ot hS hE
 have h:=vr hS ((o.length:Int)+1) o 0 (-2) (fun _=>none) (fun k p h=>by cases h) (by push_cast; omega) (fun _=>hf)
 refine ⟨⟨⟨⟨by omega,by omega⟩,?_,fun a ha=>(h a ha).1⟩,by unfold Cy.cy; omega⟩,h⟩
 unfold cH
 rw [oD]; omega
theorem x9 {T:aU} (hS:Sit T rd free) (hX:X 0=0) (hE:Emp (b0 rd) o) (hne:o≠[]) (hK:KX X (cH T rd free o)):free+T.travel<=1000000:=by
 cases o with
 | nil=>exact absurd rfl hne
 | cons t r=>
  unfold cH at hK
  simp only [fY,qW] at hK
  obtain ⟨k1,_,k3,_⟩:=hK
  have hc:=eA hS.1.1 (t-1).toNat
  have hrd:=xA hS (t-1).toNat
  have e1:(1:Int).toNat=1:=rfl
  have e2:((0:Nat):Int)+1=1:=rfl
  simp only [hdT,RL,fG,Ub,e1,e2,RY,hX] at k1 k3
  omega
theorem GJ {T:aU} (hS:Sit T rd free) {Y:Nat->Int} (hY:Y 0=0) (hE:Emp (b0 rd) o) (h:∃s,mZ T (st0 rd free) (mkX Y 0 o)=some s) :
  cC ((o.length:Int)+1) (cH T rd free o) 0/\fC ((o.length:Int)+1) (cH T rd free o) 0 (lX Y (o.length+1)):=by
 obtain ⟨hK,hB⟩:=(iM hS hY hE).1.1 h
 obtain ⟨hR,hA⟩:=jY hS hE (fun hne=>x9 hS hY hE hne hK)
 refine ⟨hR,hR,by rw [Jh]; push_cast; rfl,fun x hx=>?_,(uR hA (fun j hj=>Ci Y (by omega))).2 hK⟩
 obtain ⟨j,hj,rfl⟩:=R1.1 hx
 have hj:=SD.1 hj
 have hp:=C7 hS hY o 0 _ _ hK (by omega) j (TE _) (by omega)
 refine ⟨hp,?_⟩
 by_cases h0:j=0
 ·rw [h0,hY]; omega
 ·exact hB j (by omega) (by omega)
theorem fJ {T:aU} (hS:Sit T rd free) (hE:Emp (b0 rd) o) {l:List cY} (h:eh T rd free o=some l) :
  ∃X:Nat->Int,X 0=0/\l=mkX X 0 o/\(∃s,mZ T (st0 rd free) l=some s)/\∀Y:Nat->Int,Y 0=0->(∃s,mZ T (st0 rd free) (mkX Y 0 o)=some s)->∀j,j<=o.length->X j<=Y j:=by
 unfold eh at h
 split at h
 ·rename_i hc
  obtain ⟨h1,h2⟩:=hc
  injection h with h
  have hR:cC ((o.length:Int)+1) (cH T rd free o) 0:=by
   unfold lvM at h1
   split at h1
   ·assumption
   ·cases h1
  obtain ⟨_,hv,hm,hl⟩:=dH hR h1
  have hA:∀x∈cH T rd free o,okA ((o.length:Int)+1) x/\x.k=0:=by
   refine (jY hS hE (fun hne=>?_)).2
   cases o with
   | nil=>exact absurd rfl hne
   | cons t r=>
    have:=(hR.1.2.2 (hdT T free 0 (-2) t) (by unfold cH; simp [fY])).2.2.1.2
    simpa [hdT] using this
  refine ⟨_,h2,h.symm,?_,fun Y hY hYc j hj=>?_⟩
  ·rw [<-h]
   refine (iM hS h2 hE).1.2 ⟨(uR hA (fun j _=>rfl)).1 hv.2.2.2,fun j hj1 hj2=>?_⟩
   have hjl:j<(lvM ((o.length:Int)+1) (cH T rd free o) 0).1.length:=by have:=hv.2.1; omega
   have:=(hv.2.2.1 _ (RM hjl)).2
   simp only [RC,RD hjl,So]
   exact this
  ·have:=hl _ (GJ hS hY hE hYc).2 j (by omega)
   rw [Ci Y (by omega)] at this
   exact this
 ·cases h
def ic (T:aU) (rd:List Int) (free:Int) (s:Option (List cY × Int)) (o:List Int):Option (List cY × Int):=
 match eh T rd free o with
 | none=>s
 | some l=>match s with
  | none=>some (l,(fH T rd free l).getD 0)
  | some x=>if (fH T rd free l).getD 0<x.2 then some (l,(fH T rd free l).getD 0) else some x
def drF (T:aU) (rd:List Int) (free:Int):Option (List cY × Int):=(vQ 10 (b0 rd)).foldl (ic T rd free) none
def cn (T:aU) (rd:List Int) (free:Int):Option (List cY):=if Sit T rd free then (drF T rd free).map (·.1) else none
theorem ym (T:aU) (rd:List Int) (free:Int):∀(os:List (List Int)) (s:Option (List cY × Int)),
  (os.foldl (ic T rd free) s=none↔s=none/\∀o∈os,eh T rd free o=none) /\
  ∀x,os.foldl (ic T rd free) s=some x->(s=some x\/∃o∈os,eh T rd free o=some x.1/\x.2=(fH T rd free x.1).getD 0)/\(∀y,s=some y->x.2<=y.2)/\∀o∈os,∀l,eh T rd free o=some l->x.2<=(fH T rd free l).getD 0
 | [],s=>⟨⟨fun h=>⟨h,fun o ho=>by cases ho⟩,fun h=>h.1⟩,fun x hx=>⟨.inl hx,fun y hy=>(by
   have hx':s=some x:=hx
   rw [hx'] at hy; injection hy with hy; rw [hy]; exact SU _),fun o ho=>(by cases ho)⟩⟩
 | o :: os,s=>by
  have ih:=ym T rd free os (ic T rd free s o)
  simp only [Sr]
  cases ht:eh T rd free o with
  | none=>
   have e:ic T rd free s o=s:=by unfold ic; rw [ht]
   rw [e] at ih ⊢
   refine ⟨ih.1.trans ⟨fun h=>⟨h.1,fun o' ho'=>?_⟩,fun h=>⟨h.1,fun o' ho'=>h.2 o' (SV _ ho')⟩⟩,fun x hx=>?_⟩
   ·rcases Sx.1 ho' with rfl | ho'
    ·exact ht
    ·exact h.2 o' ho'
   ·obtain ⟨h1,h2,h3⟩:=ih.2 x hx
    refine ⟨h1.imp id (fun ⟨o',k1,k2⟩=>⟨o',SV _ k1,k2⟩),h2,fun o' ho' l hl=>?_⟩
    rcases Sx.1 ho' with rfl | ho'
    ·rw [ht] at hl; cases hl
    ·exact h3 o' ho' l hl
  | some l=>
   obtain ⟨z,hz,hz1,hz2,hz3⟩:∃z,ic T rd free s o=some z/\(s=some z\/z.1=l/\z.2=(fH T rd free l).getD 0)/\(∀y,s=some y->z.2<=y.2)/\z.2<=(fH T rd free l).getD 0:=by
    unfold ic
    rw [ht]
    cases s with
    | none=>exact ⟨_,rfl,.inr ⟨rfl,rfl⟩,fun y hy=>(by cases hy),SU _⟩
    | some y=>
     simp only
     split
     ·rename_i hlt
      exact ⟨_,rfl,.inr ⟨rfl,rfl⟩,fun y' hy=>(by injection hy with hy; subst hy; simp only; omega),SU _⟩
     ·rename_i hlt
      exact ⟨_,rfl,.inl rfl,fun y' hy=>(by injection hy with hy; subst hy; exact SU _),by omega⟩
   rw [hz] at ih ⊢
   refine ⟨⟨fun h=>(by have:=ih.1.1 h; cases this.1),fun h=>(by have:=h.2 o Ty; rw [ht] at this; cases this)⟩,fun x hx=>?_⟩
   obtain ⟨h1,h2,h3⟩:=ih.2 x hx
   refine ⟨?_,fun y hy=>?_,fun o' ho' l' hl'=>?_⟩
   ·rcases h1 with h1 | ⟨o',k1,k2⟩
    ·injection h1 with h1
     subst h1
     rcases hz1 with h | ⟨e1,e2⟩
     ·exact .inl h
     ·exact .inr ⟨o,Ty,by rw [e1]; exact ht,by rw [e1,e2]⟩
    ·exact .inr ⟨o',SV _ k1,k2⟩
   ·have:=h2 z rfl
    have:=hz2 y hy
    omega
   ·rcases Sx.1 ho' with rfl | ho'
    ·rw [ht] at hl'; injection hl' with hl'
     subst hl'
     have:=h2 z rfl
     omega
    ·exact h3 o' ho' l' hl'
theorem xF {T:aU} (hS:Sit T rd free):o∈vQ 10 (b0 rd)↔Emp (b0 rd) o:=qo 10 _ _ (zC (gH hS).2)
theorem wW {T:aU} (hS:Sit T rd free) (hE:Emp (b0 rd) o) {l:List cY} (h:eh T rd free o=some l):∃e,fH T rd free l=some e:=by
 obtain ⟨X,_,_,⟨s,hs⟩,_⟩:=fJ hS hE h
 exact ⟨s.fin,by unfold fH; rw [RL hS,hs]; rfl⟩
theorem iL {T:aU} {l:List cY} (h:cn T rd free=some l) :
  Sit T rd free/\∃o e,Emp (b0 rd) o/\eh T rd free o=some l/\fH T rd free l=some e/\drF T rd free=some (l,e)/\∀o' l' e',Emp (b0 rd) o'->eh T rd free o'=some l'->fH T rd free l'=some e'->e<=e':=by
 unfold cn at h
 split at h
 ·rename_i hS
  refine ⟨hS,?_⟩
  cases hd:drF T rd free with
  | none=>rw [hd] at h; cases h
  | some x=>
   rw [hd] at h
   injection h with h
   have h:x.1=l:=h
   obtain ⟨h1,_,h3⟩:=(ym T rd free (vQ 10 (b0 rd)) none).2 x hd
   rcases h1 with h1 | ⟨o,k1,k2,k3⟩
   ·cases h1
   ·have hE:=(xF hS).1 k1
    obtain ⟨e,he⟩:=wW hS hE k2
    rw [he] at k3
    have k3:x.2=e:=k3
    rw [h] at k2 he
    refine ⟨o,e,hE,k2,he,by rw [<-h,<-k3],fun o' l' e' hE' ht' he'=>?_⟩
    have:=h3 o' ((xF hS).2 hE') l' ht'
    rw [he'] at this
    have this:x.2<=e':=this
    omega
 ·cases h
end Tr
namespace Tr
open Go
open Clu (aU aZ)
open Cy (bc)
theorem Lt {T:aU} {C:Int} (hC:0<=C) (h1:∀k,rd.getD k 0+syT T k<=C) (h2:∀k,wT T+tmT T k+syT T k<=C):∀(o:List Int) (i:Nat) (last:Int) (a:Nat->Option Nat),(∀k p,a k=some p->p<=i)->KX X (fY T rd free i last a o)->(∀p,p<=i->X p<=C*i)->∀j,j<=i+o.length->X j<=C*((i:Int)+o.length)
 | [],i,last,a,ha,hK,hi,j,hj=>by
  have:=hi j (by simpa using hj)
  simpa using this
 | t :: r,i,last,a,ha,hK,hi,j,hj=>by
  simp only [fY,qW] at hK
  obtain ⟨_,_,k3,k4⟩:=hK
  have e1:((i:Int)+1).toNat=i+1:=by omega
  simp only [e1,RY] at k3
  have hs:(fG T rd a (t-1).toNat).1<=i/\(fG T rd a (t-1).toNat).2+syT T (t-1).toNat<=C:=by
   unfold fG
   split
   ·rename_i p hp
    exact ⟨ha _ _ hp,h2 _⟩
   ·exact ⟨TE _,h1 _⟩
  have hb:=hi _ hs.1
  have em:C*((i:Int)+1)=C*i+C:=by rw [Int.mul_add,Int.mul_one]
  have hi':∀p,p<=i+1->X p<=C*((i+1:Nat):Int):=by
   intro p hp
   push_cast
   rw [em]
   by_cases h:p=i+1
   ·subst h; omega
   ·have:=hi p (by omega); omega
  have:=Lt hC h1 h2 r (i+1) t (upd a t.toNat (i+1)) (fun k p hp=>by
   unfold upd at hp
   split at hp
   ·injection hp with hp; omega
   ·have:=ha k p hp; omega) k4 hi' j (by simp at hj; omega)
  have e2:((i+1:Nat):Int)+(r.length:Int)=(i:Int)+((t :: r).length:Int):=by push_cast [Su]; omega
  rw [e2] at this
  exact this
theorem ub0 {T:aU} {C:Int} (hC:0<=C) (h1:∀k,rd.getD k 0+syT T k<=C) (h2:∀k,wT T+tmT T k+syT T k<=C) (hX:X 0=0) (hK:KX X (cH T rd free o)) {j:Nat} (hj:j<=o.length):X j<=C*o.length:=by
 have:=Lt hC h1 h2 o 0 (-2) (fun _=>none) (fun k p h=>by cases h) hK (fun p hp=>by
  have:p=0:=by omega
  rw [this,hX]; simp) j (by omega)
 simpa using this
theorem tu (X:Nat->Int):∀(o:List Int) (i:Nat),(mkX X i o).map (·.1)=o
 | [],_=>rfl
 | t :: r,i=>by simp [mkX,tu X r]
theorem qq (X:Nat->Int) (o:List Int) (i:Nat):(mkX X i o).length=o.length:=by
 rw [<-RR (f:=(·.1)),tu]
theorem qJ {T:aU} {l:List cY} (h:cn T rd free=some l):Emp (b0 rd) (l.map (·.1)):=by
 obtain ⟨hS,o,e,k1,k2,_⟩:=iL h
 obtain ⟨X,x0,rfl,_⟩:=fJ hS k1 k2
 rw [tu]; exact k1
end Tr
namespace Tr
open Go
open Clu (aU aZ Chk bQ aJ cB gN isI bN sE t5 lkT nP dC)
open Cy (bc lar jM cZ bJ)
theorem pC:∀(n:Nat) (l:List Nat),l.Nodup->(∀x∈l,x<n)->l.length<=n/\(l.length=n->∀x,x<n->x∈l)
 | 0,l,_,h=>by
  cases l with
  | nil=>exact ⟨RT _,fun _ x hx=>absurd hx (Ts _)⟩
  | cons a r=>exact absurd (h a Ty) (Ts _)
 | n+1,l,hn,h=>by
  by_cases hm:n∈l
  ·have h1:=pC n (l.erase n) (hn.erase n) fun x hx=>by
    obtain ⟨h1,h2⟩:=(hn.mem_erase_iff).1 hx
    have:=h x h2; omega
   rw [List.length_erase_of_mem hm] at h1
   have hp:0<l.length:=List.length_pos_of_mem hm
   refine ⟨by omega,fun he x hx=>?_⟩
   by_cases hx':x=n
   ·subst hx'; exact hm
   ·exact List.mem_of_mem_erase (h1.2 (by omega) x (by omega))
  ·have h1:=pC n l hn fun x hx=>by
    have:=h x hx
    have:x≠n:=fun e=>hm (e ▸ hx)
    omega
   exact ⟨by omega,fun he=>by omega⟩
def pos (o:List Int) (t:Int):Int:=cZ (isI t) o
structure Ord (n:Nat) (o:List Int):Prop where
 len:o.length=n+1
 nd:o.Nodup
 bd:∀x∈o,0<=x/\x<=n
 z:o.getD 0 0=0
theorem j6 {T:aU} (h:o∈aJ T):Ord T.ch.length o:=by
 obtain ⟨_,h2,⟨r,h3,_⟩,h4⟩:=cB h
 exact ⟨h2,h4,gN h,by rw [h3]; rfl⟩
theorem Ord.pos_get {n:Nat} (h:Ord n o) {p:Nat} (hp:p<o.length):pos o (o.getD p 0)=p:=by
 unfold pos
 rw [RC,RD hp,So]
 refine bJ hp (by simp [isI]) fun j hj=>?_
 have:=(List.nodup_iff_pairwise_ne.1 h.nd)
 rw [List.pairwise_iff_getElem] at this
 have:=this j p (by omega) hp hj
 simp only [isI,Tk]
 exact fun e=>this e.symm
theorem Ord.has {n:Nat} (h:Ord n o) (ht:t<=n):∃p,p<o.length/\o.getD p 0=(t:Int):=by
 have hnd:(o.map Int.toNat).Nodup:=by
  rw [List.nodup_iff_pairwise_ne,List.pairwise_map]
  refine List.Pairwise.imp_of_mem ?_ (List.nodup_iff_pairwise_ne.1 h.nd)
  intro a b ha hb hab
  have:=h.bd a ha
  have:=h.bd b hb
  omega
 have:=(pC (n+1) (o.map Int.toNat) hnd fun x hx=>by
  obtain ⟨y,hy,rfl⟩:=R1.1 hx
  have:=h.bd y hy
  omega).2 (by rw [RR,h.len]) t (by omega)
 obtain ⟨y,hy,e⟩:=R1.1 this
 obtain ⟨p,hp,rfl⟩:=Sz.1 hy
 refine ⟨p,hp,?_⟩
 rw [RC,RD hp,So]
 have:=h.bd _ hy
 omega
theorem Ord.pos_bd {n:Nat} (h:Ord n o) (ht:t<=n):0<=pos o t/\pos o t<=n:=by
 obtain ⟨p,hp,e⟩:=h.has ht
 rw [<-e,h.pos_get hp]
 have:=h.len
 omega
theorem Ord.pos_eq {n:Nat} (h:Ord n o) (ht:t<=n) {p:Nat} (hp:p<o.length):pos o t=p↔o.getD p 0=(t:Int):=by
 obtain ⟨q,hq,e⟩:=h.has ht
 constructor
 ·intro hh
  rw [<-e,h.pos_get hq] at hh
  rw [<-e]; congr 1; omega
 ·intro hh
  rw [<-hh,h.pos_get hp]
def hF (o:List Int) (i:Nat):Int:=if pos o ((i:Int)+1)<pos o (i:Int) then 1 else 0
def kF (o:List Int):Nat->Int
 | 0=>0
 | i+1=>kF o i+hF o i
theorem FT (o:List Int) (i:Nat):0<=hF o i/\hF o i<=1:=by unfold hF; split <;> omega
theorem vZ (o:List Int):∀i:Nat,0<=kF o i/\kF o i<=i
 | 0=>by simp [kF]
 | i+1=>by have:=vZ o i; have:=FT o i; simp only [kF]; push_cast; omega
theorem xX (o:List Int) {i:Nat}:∀ {j:Nat},i<=j->kF o i<=kF o j
 | 0,h=>by
  have:i=0:=by omega
  subst this; exact SU _
 | j+1,h=>by
  by_cases e:i=j+1
  ·subst e; exact SU _
  ·have:=xX o (i:=i) (j:=j) (by omega)
   have:=FT o j
   simp only [kF]; omega
def stD (s:bQ) (t:Nat):Int:=s.starts.getD t 0
def bsF (T:aU) (s:bQ) (free:Int):Int:=free+T.travel-stD s 0
def tk (T:aU) (s:bQ) (free:Int) (r:Nat) (t:Int):cY:=(t,bsF T s free+(r:Int)*s.period+stD s t.toNat)
def cyc (T:aU) (s:bQ) (free:Int) (r:Nat):List cY:=(s.order.filter fun t=>decide (kF s.order t.toNat<=r)).map (tk T s free r)
def dW (T:aU) (s:bQ) (free:Int) (R:Nat):List cY:=(List.range R).flatMap (cyc T s free)
theorem rk {T:aU} {s:bQ} (hc:Chk T s) (hb:T.blades=1) {p:Nat} (hp:p<T.ch.length):stD s (s.order.getD p 0).toNat+(wT T+btw T (s.order.getD p 0) (s.order.getD (p+1) 0))<=stD s (s.order.getD (p+1) 0).toNat:=by
 have hO:=j6 hc.1
 have hk:=hc.2.2.1.2.2.2
 have:=hk _ (R1.2 ⟨sE T s.order p,SW.2 (.inl (R1.2 ⟨p,SD.2 (by rw [hO.len]; omega),rfl⟩)),rfl⟩)
 have e1:dC T=wT T:=by unfold dC wT; rw [RN (by omega)]
 have e2:nP s.order p=s.order.getD (p+1) 0:=RL (by rw [hO.len]; omega)
 simp only [sE,e1,e2,bc.len] at this
 rw [RL (show p+1<s.order.length by rw [hO.len]; omega)] at this
 unfold btw stD
 by_cases h:s.order.getD (p+1) 0=s.order.getD p 0+1
 ·rw [RN (by rintro (h' | h') <;> omega)] at this
  rw [RL h]; omega
 ·rw [RL (.inr h)] at this
  rw [RN h]; omega
theorem vM {T:aU} {s:bQ} (hc:Chk T s) (hb:T.blades=1):stD s (s.order.getD T.ch.length 0).toNat+(wT T+T.travel)<=stD s 0+s.period:=by
 have hO:=j6 hc.1
 have hk:=hc.2.2.1.2.2.2
 have:=hk _ (R1.2 ⟨sE T s.order T.ch.length,SW.2 (.inl (R1.2 ⟨T.ch.length,SD.2 (by rw [hO.len]; omega),rfl⟩)),rfl⟩)
 have e1:dC T=wT T:=by unfold dC wT; rw [RN (by omega)]
 have e2:nP s.order T.ch.length=0:=RN (by rw [hO.len]; omega)
 have hmem:s.order.getD T.ch.length 0∈s.order:=by
  have:T.ch.length<s.order.length:=by rw [hO.len]; omega
  rw [RC,RD this]; exact RM this
 have:=hO.bd _ hmem
 simp only [sE,e1,e2,bc.len] at *
 rw [RN (show ¬ T.ch.length+1<s.order.length by rw [hO.len]; omega),RL (.inr (by omega))] at *
 unfold stD
 simp only [Ub] at *
 omega
theorem Au {T:aU} {s:bQ} (hc:Chk T s) (hb:T.blades=1) {i:Nat} (hi:i<T.ch.length):stD s i+wT T+tmT T i<=stD s (i+1)+s.period*hF s.order i/\stD s (i+1)+s.period*hF s.order i<=stD s i+wT T+tmT T i+syT T i:=by
 have hk:=hc.2.2.1.2.2.2
 have k1:=hk _ (R1.2 ⟨_,SW.2 (.inr (TN.2 ⟨i,SD.2 hi,Ty ..⟩)),rfl⟩)
 have k2:=hk _ (R1.2 ⟨_,SW.2 (.inr (TN.2 ⟨i,SD.2 hi,SV _ (SC.2 rfl)⟩)),rfl⟩)
 have e1:dC T=wT T:=by unfold dC wT; rw [RN (by omega)]
 have e2:lkT T s.order ((i:Int)+1)=((i:Int),(i:Int)+1,hF s.order i):=by
  unfold lkT hF pos
  rw [RN (by omega),show (i:Int)+1-1=i by omega]
 have e3:((i:Int)+1).toNat=i+1:=by omega
 simp only [e1,e2,e3,bc.len,RY,Int.mul_neg] at k1 k2
 unfold stD tmT syT
 omega
def rl (s:bQ) (r p t:Nat):Int:=if pos s.order t<p then (r:Int) else (r:Int)-1
def onF (s:bQ) (p t:Nat):Int:=if pos s.order t<p then 1 else 0
def gC (s:bQ) (r p j:Nat):Prop:=hF s.order j+onF s p j-onF s p (j+1)=1/\kF s.order j<=rl s r p j
structure FI (T:aU) (s:bQ) (free:Int) (r p:Nat) (x:St):Prop where
 len:x.inn.length=T.ch.length
 full:∀j,j<T.ch.length->gC s r p j->0<=x.inn.getD j 0/\x.inn.getD j 0=bsF T s free+rl s r p j*s.period+stD s j+wT T+tmT T j
 emp:∀j,j<T.ch.length->¬ gC s r p j->x.inn.getD j 0 = -1
 pos0:0<=x.fin
 next:p<=T.ch.length->x.fin+btw T x.last (s.order.getD p 0)<=(tk T s free r (s.order.getD p 0)).2
theorem gb {n:Nat} {s:bQ} (hO:Ord n s.order) {p:Nat} (hp:p<s.order.length) (ht:t<=n):onF s (p+1) t=if s.order.getD p 0=(t:Int) then 1 else onF s p t:=by
 have:=hO.pos_eq ht hp
 unfold onF
 by_cases h:s.order.getD p 0=(t:Int)
 ·rw [RL h,RL (by have:=this.2 h; omega)]
 ·rw [RN h]
  have:pos s.order t≠p:=fun e=>h (this.1 e)
  by_cases h2:pos s.order t<p
  ·rw [RL h2,RL (by omega)]
  ·rw [RN h2,RN (by omega)]
theorem ml (s:bQ) (r p t:Nat):rl s r p t=(r:Int)-1+onF s p t:=by
 unfold rl onF; split <;> omega
theorem uI {n:Nat} {s:bQ} (hO:Ord n s.order) {p:Nat} (hp:p<s.order.length) (ht:t<=n) (h:s.order.getD p 0=(t:Int)):onF s p t=0:=by
 unfold onF; rw [(hO.pos_eq ht hp).2 h,RN (by omega)]
theorem pD {n:Nat} {s:bQ} (hO:Ord n s.order) {p:Nat} (hp:p<s.order.length) (ht:t+1<=n):(s.order.getD p 0=(t:Int)->onF s p (t+1)=hF s.order t)/\(s.order.getD p 0=((t+1:Nat):Int)->onF s p t=1-hF s.order t):=by
 constructor
 ·intro h
  have h1:=(hO.pos_eq (by omega) hp).2 h
  unfold onF hF
  rw [h1]; push_cast; rfl
 ·intro h
  have h1:=(hO.pos_eq ht hp).2 h
  have h2:pos s.order (t:Int)≠p:=fun e=>by
   have:=(hO.pos_eq (by omega) hp).1 e
   rw [this] at h; push_cast at h; omega
  unfold onF hF
  push_cast at h1
  rw [h1]
  by_cases h3:pos s.order (t:Int)<p
  ·rw [RL h3,RN (by omega)]; rfl
  ·rw [RN h3,RL (by omega)]; rfl
theorem FI.skip {T:aU} {s:bQ} {p:Nat} (hc:Chk T s) (hb:T.blades=1) (hv:aZ T) (h:FI T s free r p x) (hp:p<=T.ch.length) (ht:s.order.getD p 0=(t:Int)) (htn:t<=T.ch.length) (hk:¬ kF s.order t<=r):FI T s free r (p+1) x:=by
 have hO:=j6 hc.1
 have hpl:p<s.order.length:=by rw [hO.len]; omega
 have hiff:∀j,j<T.ch.length->(gC s r (p+1) j↔gC s r p j)/\(gC s r p j->rl s r (p+1) j=rl s r p j):=by
  intro j hj
  have k0:kF s.order (j+1)=kF s.order j+hF s.order j:=rfl
  have hh:=FT s.order j
  unfold gC
  rw [ml,ml,gb hO hpl (show j<=T.ch.length by omega),gb hO hpl (show j+1<=T.ch.length by omega),ht]
  by_cases h1:t=j
  ·subst h1
   have a1:=uI hO hpl htn ht
   have a2:=(pD hO hpl (show t+1<=T.ch.length by omega)).1 ht
   rw [RL rfl,RN (by push_cast; omega),a1,a2]
   omega
  ·by_cases h2:t=j+1
   ·subst h2
    have a1:=uI hO hpl htn ht
    have a2:=(pD hO hpl htn).2 ht
    rw [RN (by push_cast; omega),RL rfl,a1,a2]
    omega
   ·rw [RN (by omega),RN (by push_cast; omega)]
    exact ⟨Iff.rfl,fun _=>rfl⟩
 refine ⟨h.len,fun j hj hf=>?_,fun j hj hf=>h.emp j hj fun hf'=>hf ((hiff j hj).1.2 hf'),h.pos0,fun hp1=>?_⟩
 ·have hf':=(hiff j hj).1.1 hf
  rw [(hiff j hj).2 hf']
  exact h.full j hj hf'
 ·have k1:=h.next hp
  have k2:=rk hc hb (p:=p) (by omega)
  have b1:=fk hv x.last (s.order.getD p 0)
  have b2:=fk hv x.last (s.order.getD (p+1) 0)
  have b3:=fk hv (s.order.getD p 0) (s.order.getD (p+1) 0)
  have hw:T.travel<=wT T:=by
   obtain ⟨_,⟨h1,h2,h3⟩,_⟩:=hv
   unfold wT; omega
  simp only [tk] at k1 ⊢
  omega
theorem FI.exec {T:aU} {s:bQ} {p:Nat} (hc:Chk T s) (hb:T.blades=1) (hv:aZ T) (h:FI T s free r p x) (hp:p<=T.ch.length) (ht:s.order.getD p 0=(t:Int)) (htn:t<=T.ch.length) (hk:kF s.order t<=r) (hB:(tk T s free r (t:Int)).2<=1000000000) :
  ∃y,dY T x (tk T s free r (t:Int))=some y/\FI T s free r (p+1) y:=by
 have hO:=j6 hc.1
 have hpl:p<s.order.length:=by rw [hO.len]; omega
 have hw:=dD hv
 have k1:=h.next hp
 rw [ht] at k1
 have b1:=fk hv x.last (t:Int)
 have hS:0<=(tk T s free r (t:Int)).2:=by have:=h.pos0; omega
 obtain ⟨S,hSe⟩:∃S,S=(tk T s free r (t:Int)).2:=⟨_,rfl⟩
 have hS2:S=bsF T s free+(r:Int)*s.period+stD s t:=by rw [hSe]; simp only [tk,RY]
 have etk:tk T s free r (t:Int)=((t:Int),S):=by rw [hSe]; rfl
 rw [etk] at k1 hS hB ⊢
 simp only at k1 hS hB
 have hp0:=h.pos0
 obtain ⟨inn1,ht1,hl1,hg1⟩:∃inn1,jp T x.inn ((t:Int),S)=some inn1/\inn1.length=T.ch.length/\∀j,inn1.getD j 0=if j+1=t then -1 else x.inn.getD j 0:=by
  cases t with
  | zero=>
   refine ⟨x.inn,by unfold jp; rw [RN (by simp)],h.len,fun j=>by rw [RN (by omega)]⟩
  | succ i=>
   have hi:i<T.ch.length:=by omega
   have a1:=uI hO hpl htn ht
   have a2:=(pD hO hpl htn).2 ht
   have k0:kF s.order (i+1)=kF s.order i+hF s.order i:=rfl
   have hf:gC s r p i:=by
    unfold gC
    rw [ml,a1,a2]
    omega
   obtain ⟨q1,q2⟩:=h.full i hi hf
   have c:=Au hc hb hi
   rw [ml,a2] at q2
   have e1:(((i+1:Nat):Int)-1).toNat=i:=by omega
   have em:((r:Int)-1+(1-hF s.order i))*s.period=(r:Int)*s.period-s.period*hF s.order i:=by
    rw [show (r:Int)-1+(1-hF s.order i)=(r:Int)-hF s.order i by omega,Int.sub_mul,Int.mul_comm (hF s.order i)]
   rw [em] at q2
   refine ⟨x.inn.set i (-1),?_,by simp [h.len],fun j=>?_⟩
   ·unfold jp
    simp only [e1]
    rw [RL (by push_cast; omega),RL ⟨q1,by omega,by omega⟩]
   ·rw [eI,h.len]
    by_cases hj:j=i
    ·subst hj; rw [RL ⟨rfl,hi⟩,RL rfl]
    ·rw [RN (by omega),RN (by omega)]
 obtain ⟨inn2,ht2,hl2,hg2⟩:∃inn2,sM T inn1 ((t:Int),S)=some inn2/\inn2.length=T.ch.length/\∀j,j<T.ch.length->inn2.getD j 0=if j=t then S+wT T+tmT T t else inn1.getD j 0:=by
  by_cases hlt:t<T.ch.length
  ·have a1:=uI hO hpl htn ht
   have a2:=(pD hO hpl (show t+1<=T.ch.length by omega)).1 ht
   have hf:¬ gC s r p t:=by
    unfold gC
    rw [a1,a2]; omega
   have q:=h.emp t hlt hf
   refine ⟨inn1.set t (S+wT T+tmT T t),?_,by simp [hl1],fun j hj=>?_⟩
   ·unfold sM
    simp only [RY]
    have hq:inn1.getD t 0 = -1:=by rw [hg1,RN (by omega),q]
    rw [RL (by rw [hl1]; omega),hq,RN (by omega)]
   ·rw [eI,hl1]
    by_cases hjt:j=t
    ·subst hjt; rw [RL ⟨rfl,hj⟩,RL rfl]
    ·rw [RN (by omega),RN hjt]
  ·refine ⟨inn1,by unfold sM; simp only; rw [RN (by rw [hl1]; omega)],hl1,fun j hj=>by rw [RN (by omega)]⟩
 refine ⟨⟨inn2,(t:Int),S+wT T⟩,?_,?_⟩
 ·unfold dY
  rw [RL ⟨⟨by simp only; omega,by simp only [h.len]; omega⟩,k1,hB⟩,ht1,Sl,ht2]
  rfl
 ·have htm:=fun k=>(eA hv k).1
  refine ⟨hl2,fun j hj hf=>?_,fun j hj hf=>?_,by simp only; omega,fun hp1=>?_⟩
  ·simp only
   rw [hg2 j hj,hg1]
   unfold gC at hf
   rw [ml,gb hO hpl (show j<=T.ch.length by omega),gb hO hpl (show j+1<=T.ch.length by omega),ht] at hf
   rw [ml,gb hO hpl (show j<=T.ch.length by omega),ht]
   by_cases h1:j=t
   ·subst h1
    rw [RL rfl,RL rfl]
    have:=htm j
    refine ⟨by omega,?_⟩
    rw [show (r:Int)-1+1=r by omega,hS2]
   ·rw [RN h1,RN (show ¬ ((t:Int)=(j:Int)) by omega)]
    rw [RN (show ¬ ((t:Int)=(j:Int)) by omega)] at hf
    by_cases h2:j+1=t
    ·subst h2
     rw [RL (by push_cast; rfl)] at hf
     have a2:=(pD hO hpl htn).2 ht
     rw [a2] at hf; omega
    ·rw [RN (show ¬ ((t:Int)=((j+1:Nat):Int)) by push_cast; omega)] at hf
     rw [RN h2,<-ml]
     exact h.full j hj (by unfold gC; rw [ml]; exact hf)
  ·simp only
   rw [hg2 j hj,hg1]
   unfold gC at hf
   rw [ml,gb hO hpl (show j<=T.ch.length by omega),gb hO hpl (show j+1<=T.ch.length by omega),ht] at hf
   by_cases h1:j=t
   ·subst h1
    have a2:=(pD hO hpl (show j+1<=T.ch.length by omega)).1 ht
    rw [RL rfl,RN (by push_cast; omega),a2] at hf
    omega
   ·rw [RN h1]
    rw [RN (show ¬ ((t:Int)=(j:Int)) by omega)] at hf
    by_cases h2:j+1=t
    ·rw [RL h2]
    ·rw [RN (show ¬ ((t:Int)=((j+1:Nat):Int)) by push_cast; omega)] at hf
     rw [RN h2]
     exact h.emp j hj fun hf'=>hf (by unfold gC at hf'; rw [ml] at hf'; exact hf')
  ·have k2:=rk hc hb (p:=p) (by omega)
   rw [ht,RY] at k2
   simp only [tk]
   omega
theorem FI.wrap {T:aU} {s:bQ} (hc:Chk T s) (hb:T.blades=1) (hv:aZ T) (h:FI T s free r (T.ch.length+1) x) (hf:x.fin+T.travel<=bsF T s free+(r:Int)*s.period+stD s (s.order.getD T.ch.length 0).toNat+wT T+T.travel):FI T s free (r+1) 0 x:=by
 have hO:=j6 hc.1
 have on1:∀t,t<=T.ch.length->onF s (T.ch.length+1) t=1/\onF s 0 t=0:=fun t ht=>by
  have:=hO.pos_bd ht
  unfold onF
  rw [RL (by push_cast; omega),RN (by push_cast; omega)]
  exact ⟨rfl,rfl⟩
 have hiff:∀j,j<T.ch.length->(gC s (r+1) 0 j↔gC s r (T.ch.length+1) j)/\rl s (r+1) 0 j=rl s r (T.ch.length+1) j:=by
  intro j hj
  have a:=on1 j (by omega)
  have b:=on1 (j+1) (by omega)
  have e:rl s (r+1) 0 j=rl s r (T.ch.length+1) j:=by
   rw [ml,ml,a.1,a.2]; push_cast; omega
  refine ⟨?_,e⟩
  unfold gC
  rw [e,a.1,a.2,b.1,b.2]
  omega
 refine ⟨h.len,fun j hj hf=>?_,fun j hj hf=>h.emp j hj fun hf'=>hf ((hiff j hj).1.2 hf'),h.pos0,fun _=>?_⟩
 ·rw [(hiff j hj).2]; exact h.full j hj ((hiff j hj).1.1 hf)
 ·have k:=vM hc hb
  have b:=fk hv x.last (s.order.getD 0 0)
  rw [hO.z] at b ⊢
  have em:((r+1:Nat):Int)*s.period=(r:Int)*s.period+s.period:=by push_cast; rw [Int.add_mul,Int.one_mul]
  simp only [tk,Ub,em]
  omega
theorem FI.run {T:aU} {s:bQ} (hc:Chk T s) (hb:T.blades=1) (hv:aZ T) (hB:∀t∈s.order,(tk T s free r t).2<=1000000000):∀(c p:Nat) (x:St),p+c=T.ch.length+1->FI T s free r p x ->
  (p=T.ch.length+1->x.fin<=bsF T s free+(r:Int)*s.period+stD s (s.order.getD T.ch.length 0).toNat+wT T) ->
  ∃y,mZ T x (((s.order.drop p).filter fun t=>decide (kF s.order t.toNat<=r)).map (tk T s free r))=some y/\FI T s free r (T.ch.length+1) y/\y.fin<=bsF T s free+(r:Int)*s.period+stD s (s.order.getD T.ch.length 0).toNat+wT T
 | 0,p,x,hpc,hI,hf=>by
  have hO:=j6 hc.1
  have:p=T.ch.length+1:=by omega
  subst this
  refine ⟨x,?_,hI,hf rfl⟩
  rw [List.drop_eq_nil_of_le (by rw [hO.len]; exact RT _)]; rfl
 | c+1,p,x,hpc,hI,_=>by
  have hO:=j6 hc.1
  have hpl:p<s.order.length:=by rw [hO.len]; omega
  have hmem:s.order.getD p 0∈s.order:=by
   rw [RC,RD hpl]; exact RM hpl
  obtain ⟨t,ht⟩:∃t:Nat,s.order.getD p 0=(t:Int):=⟨(s.order.getD p 0).toNat,by have:=hO.bd _ hmem; omega⟩
  have htn:t<=T.ch.length:=by have:=hO.bd _ hmem; omega
  have hd:s.order.drop p=(t:Int) :: s.order.drop (p+1):=by
   rw [SM hpl,<-ht,RC,RD hpl]; rfl
  have hw:=dD hv
  rw [hd,List.filter_cons,RY]
  by_cases hk:kF s.order t<=r
  ·rw [RJ hk,RL rfl,SH]
   obtain ⟨y,hy,hI'⟩:=hI.exec hc hb hv (by omega) ht htn hk (hB _ (by rw [<-ht]; exact hmem))
   have hyf:y.fin=(tk T s free r (t:Int)).2+wT T:=by
    unfold dY at hy
    split at hy
    ·cases h1:jp T x.inn (tk T s free r (t:Int)) with
     | none=>rw [h1] at hy; cases hy
     | some a=>
      rw [h1,Sl] at hy
      cases h2:sM T a (tk T s free r (t:Int)) with
      | none=>rw [h2] at hy; cases hy
      | some b=>
       rw [h2] at hy
       injection hy with hy
       rw [<-hy]
    ·cases hy
   obtain ⟨z,hz,hI2,hf2⟩:=FI.run hc hb hv hB c (p+1) y (by omega) hI' (fun e=>by
    have:p=T.ch.length:=by omega
    subst this
    rw [ht,RY,hyf]
    simp only [tk,RY]; omega)
   refine ⟨z,?_,hI2,hf2⟩
   simp only [mZ,hy,Sl]
   exact hz
  ·rw [RH hk,RN (by decide)]
   have hn:=hI.next (by omega)
   have hbt:=fk hv x.last (s.order.getD p 0)
   refine FI.run hc hb hv hB c (p+1) x (by omega) (hI.skip hc hb hv (by omega) ht htn hk) (fun e=>?_)
   have:p=T.ch.length:=by omega
   subst this
   simp only [tk] at hn
   omega
theorem qN (T:aU):∀(a b:List cY) (x:St),mZ T x (a++b)=(mZ T x a).bind fun y=>mZ T y b
 | [],b,x=>rfl
 | t :: a,b,x=>by
  simp only [List.cons_append,mZ]
  cases h:dY T x t with
  | none=>rfl
  | some y=>simp only [Sl,qN T a b y]
theorem yo {T:aU} {s:bQ} (hc:Chk T s) (hb:T.blades=1) (hv:aZ T):∀(R:Nat),(∀r,r<R->∀t∈s.order,(tk T s free r t).2<=1000000000)->∀x:St,x.inn.length=T.ch.length->(∀j,j<T.ch.length->x.inn.getD j 0 = -1)->x.fin=free->0<=free ->
  ∃y,mZ T x (dW T s free R)=some y/\FI T s free R 0 y
 | 0,_,x,h1,h2,h3,h4=>by
  have hO:=j6 hc.1
  refine ⟨x,rfl,h1,fun j hj hf=>?_,fun j hj _=>h2 j hj,by omega,fun _=>?_⟩
  ·have hp:=hO.pos_bd (show j<=T.ch.length by omega)
   have:=vZ s.order j
   unfold gC rl at hf
   rw [RN (by push_cast; omega)] at hf
   omega
  ·have b:=fk hv x.last (s.order.getD 0 0)
   rw [hO.z] at b ⊢
   simp only [tk,Ub,bsF]
   omega
 | R+1,hB,x,h1,h2,h3,h4=>by
  obtain ⟨y,hy,hI⟩:=yo hc hb hv R (fun r hr=>hB r (by omega)) x h1 h2 h3 h4
  obtain ⟨z,hz,hI2,hf⟩:=FI.run hc hb hv (hB R (by omega)) (T.ch.length+1) 0 y (by omega) hI (fun e=>by omega)
  refine ⟨z,?_,hI2.wrap hc hb hv (by omega)⟩
  unfold dW at hy ⊢
  rw [S5,Tq,qN,hy,Sl]
  simp only [TK,List.flatMap_nil,Sm]
  exact hz
end Tr
namespace Tr
open Go
open Cy (GC gW cZ bJ bS cq aP bj aE)
open Clu (aU aZ ay chA M16 rj zU bg be cf bE cS ej dO)
def mG (n lo hi:Int):Bool:=decide (lo<=n) && decide (n<=hi)
theorem dt {lo hi:Int}:mG n lo hi=true↔lo<=n/\n<=hi:=by simp [mG]
def M30:aI:=fun args=>match args with
 | [.int .i64 n,.int .i64 lo,.int .i64 hi]=>some (.bool (mG n lo hi))
 | _=>none
theorem ri:an Tryz.prog GC 57 M30:=by
 refine an.of_ev (E:=ai GC []) (ag aw) rfl at30 Kv 1 ?_
 intro args r h
 unfold M30 at h
 split at h
 ·rename_i n lo hi
  injection h with h; subst h
  refine ⟨0,?_⟩
  have b1:aq .geq (.int .i64 n) (.int .i64 lo)=some (.bool (decide (lo<=n))):=by simp [aq]
  have b2:aq .leq (.int .i64 n) (.int .i64 hi)=some (.bool (decide (n<=hi))):=by simp [aq]
  unfold mG
  obtain ⟨p,hp⟩:∃p,p=decide (lo<=n):=⟨_,rfl⟩
  obtain ⟨q,hq⟩:∃q,q=decide (n<=hi):=⟨_,rfl⟩
  rw [<-hp] at b1 ⊢
  rw [<-hq] at b2 ⊢
  rw [aT _ _ rfl]
  cases p <;> simp [QD,b1,b2,-aq]
 ·cases h
@[simp] theorem dS (n lo hi:Int):M30 [.int .i64 n,.int .i64 lo,.int .i64 hi]=some (.bool (mG n lo hi)):=rfl
def wa:List (FuncId × aD):=[(41,aG 4 M16)]
@[simp] theorem Np:aH wa 41=some (aG 4 M16):=rfl
def M47:aI:=fun args=>evP (ai GC wa) 0 BY 1 args
theorem ut:an Tryz.prog GC 55 M47:=an.of_ev (E:=ai GC wa) (ag (ae (ak.of_pure rj 4) aw)) rfl O1 yH 1 fun _ _ h=>⟨0,h⟩
def isT (T:aU):Prop:=aZ T/\T.blades=1
instance (T:aU):Decidable (isT T):=inferInstanceAs (Decidable (_/\_))
theorem C2 {T:aU} (hb:SlA 2 (T.ch.map chA) chv) (hl:T.ch.length<=200):M47 [ay T chv]=some (.bool (decide (isT T))):=by
 have m:=zU hb hl
 have ft:=fun A=>bg (T:=T) (fun A n=>hb.frz (A:=A) n) A 3
 have bx:aY 5 (ay T chv) []=some (.ptr 0 0 0,[.row 5 false [ay T chv]]):=rfl
 have ct:(cellsOf (ay T chv)).length=5:=rfl
 obtain ⟨A0,hA0⟩:∃A:ac,A=[.row 5 false [ay T chv]]:=⟨_,rfl⟩
 have lt:af true 5 A0 (.ptr 0 0 0)=some (ay T chv):=by rw [hA0]; rfl
 have fa:aa 4 A0 (.ptr 0 0 0)=some (.ptr 0 0 4):=by rw [hA0]; simp [aa]
 have l4:af false 1 A0 (.ptr 0 0 4)=some (.int .i64 T.blades):=by rw [hA0]; rfl
 have b1:=bE T.blades 1
 have e:decide (isT T)=(decide (T.blades=1) && decide (aZ T)):=by
  unfold isT
  by_cases h1:T.blades=1 <;> by_cases h2:aZ T <;> simp [h1,h2]
 rw [e]
 obtain ⟨t,ht⟩:∃t,t=ay T chv:=⟨_,rfl⟩
 rw [<-ht] at m ft bx ct lt hA0 ⊢
 rw [<-hA0] at bx
 obtain ⟨p,hp⟩:∃p,p=decide (T.blades=1):=⟨_,rfl⟩
 obtain ⟨q,hq⟩:∃q,q=decide (aZ T):=⟨_,rfl⟩
 rw [<-hp] at b1 ⊢
 rw [<-hq] at m ⊢
 unfold M47
 rw [aT _ _ rfl]
 cases p <;> simp [BY,m,ft,bx,ct,lt,fa,l4,b1,bj,-aY,-af,-aa,-frz,-cellsOf,-aq]
def sP (x:Int):Bool:=!mG x (-1) 500000
def LW:List (FuncId × aD):=[(57,aG 4 M30)]
@[simp] theorem Ni:aH LW 57=some (aG 4 M30):=rfl
theorem Ei:∀f M,aH LW f=some M->ak Tryz.prog GC f M:=ae (ak.of_pure ri 4) aw
def M52:aI:=fun args=>evP (ai GC LW) 0 AL 1 args
theorem w5:an Tryz.prog GC 102 M52:=an.of_ev (E:=ai GC LW) (ag Ei) rfl OZ yF 1 fun _ _ h=>⟨0,h⟩
theorem Le (x:Int):M52 [.int .i64 x]=some (.bool (sP x)):=by
 have m:M30 [.int .i64 x,.int .i64 (-1),.int .i64 500000]=some (.bool (mG x (-1) 500000)):=rfl
 unfold sP
 obtain ⟨p,hp⟩:∃p,p=mG x (-1) 500000:=⟨_,rfl⟩
 rw [<-hp] at m ⊢
 unfold M52
 rw [aT _ _ rfl]
 simp [AL,m]
def iP:AV:=.func (.func 102) [] []
def Cv:List (FuncId × aD):=[(102,aG 4 M52)]
@[simp] theorem Na:aH Cv 102=some (aG 4 M52):=rfl
theorem Ee:∀f M,aH Cv f=some M->ak Tryz.prog GC f M:=ae (ak.of_pure w5 4) aw
def M79:aI:=fun args=>evP (ai GC Cv) 300 Cy.ws 1 args
theorem HJ:an Tryz.prog GC 101 M79:=an.of_ev (E:=ai GC Cv) (ag Ee) rfl Cy.Mi Cy.vj 1 fun _ _ h=>⟨300,h⟩
theorem K9 {xs:List Int} {b:AV} (hb:SlA 1 (ax xs) b) (hl:xs.length<=200):M79 [b,iP]=some (.int .i64 (cZ sP xs)):=by
 have hlen:=hb.len
 rw [aE] at hlen
 have round:∀(A:ac) (i:Nat) (hi:i<xs.length),run (ai GC Cv) 300 [.code Cy.ei] (Cy.eU b iP (.int .i64 (xs.length:Int)) (.int .i64 (i:Int))) A =
   if sP xs[i]=false then some (.normal (Cy.eU b iP (.int .i64 (xs.length:Int)) (.int .i64 ((i+1:Nat):Int))) A) else some (.ret [b,iP,.int .i64 (i:Int),.int .i64 (i:Int),.int .i64 (xs.length:Int),.int .i64 (i:Int),.bool true,.bool true] A):=fun A i hi=>by
  have x1:=hb.int (A:=A) _ _ (RD hi) .i64
  have m:=Le xs[i]
  have b1:=bC i xs.length .i64
  rw [RJ hi] at b1
  have b3:=bh i (by omega)
  obtain ⟨i1,hi1⟩:∃i1:Nat,i1=i+1:=⟨_,rfl⟩
  rw [<-hi1] at b3 ⊢
  obtain ⟨d,hd⟩:∃d,d=sP xs[i]:=⟨_,rfl⟩
  rw [<-hd] at m ⊢
  cases d with
  | false=>simp [Cy.ei,iP,x1,m,b1,b3,-aq,-au,-az]
  | true=>simp [Cy.ei,iP,x1,m,b1,-aq,-au,-az]
 unfold M79
 rw [aT _ _ rfl]
 rcases cW (E:=ai GC Cv) (fuel:=300) (a:=Cy.ei) (mask:=Cy.eD) (fun i=>Cy.eU b iP (.int .i64 (xs.length:Int)) (.int .i64 (i:Int))) (fun _=>[]) xs.length (fun i=>¬ ∀hi:i<xs.length,sP xs[i]=false)
  (oF:=fun i=>.ret [b,iP,.int .i64 (i:Int),.int .i64 (i:Int),.int .i64 (xs.length:Int),.int .i64 (i:Int),.bool true,.bool true] []) (oE:=.exit 0 ((Cy.eU b iP (.int .i64 (xs.length:Int)) (.int .i64 (xs.length:Int))).set 6 (.bool false)) [])
  (fun _=>Cy.yZ) (fun _ _ _ h=>by cases h) (fun _ _ h=>by cases h)
  (fun i hi hp=>by
   rw [round [] i hi]
   exact RL (Se.1 hp hi))
  (fun i hi hp=>by
   rw [round [] i hi]
   exact RN fun h=>hp fun _=>h)
  (by simp [Cy.ei]) (show xs.length<300 by omega) with ⟨i,hi,hp,hj,lp⟩ | ⟨hp,lp⟩
 ·have lp:cc (evC (ai GC Cv) 300 Cy.ei) Cy.eD 300 (Cy.eU b iP (.int .i64 (xs.length:Int)) (.int .i64 0)) []=_:=lp
  have e:cZ sP xs=(i:Int):=bJ hi (by
   cases h':sP xs[i] with
   | true=>rfl
   | false=>exact absurd (fun _=>h') hp) (fun j hj'=>Se.1 (hj j hj') (by omega))
  rw [e]
  simp [Cy.ws,hlen,Cy.uU lp,-aq,-az]
 ·have lp:cc (evC (ai GC Cv) 300 Cy.ei) Cy.eD 300 (Cy.eU b iP (.int .i64 (xs.length:Int)) (.int .i64 0)) []=_:=lp
  have e:cZ sP xs = -1:=bS fun i hi=>Se.1 (hp i hi) hi
  rw [e]
  simp [Cy.ws,hlen,Cy.uU lp,-aq,-az]
def Nk:List (FuncId × aD):=[(101,aG 4 M79)]
@[simp] theorem Nj:aH Nk 101=some (aG 4 M79):=rfl
def M51:aI:=fun args=>evP (ai GC Nk) 0 Cy.AN 1 args
theorem uq:an Tryz.prog GC 61 M51:=an.of_ev (E:=ai GC Nk) (ag (ae (ak.of_pure HJ 4) aw)) rfl Cy.Mj Cy.vk 1 fun _ _ h=>⟨0,h⟩
theorem Lf {xs:List Int} {b:AV} (hb:SlA 1 (ax xs) b) (hl:xs.length<=200):M51 [b,iP]=some (.bool (xs.any sP)):=by
 have h:=K9 hb hl
 have b1:=gW (cZ sP xs)
 rw [cq] at b1
 have f1:∀A n,frz A n b=b:=fun A n=>hb.frz n
 have hF:∀A,frz A 4 iP=iP:=fun _=>rfl
 obtain ⟨z,hz⟩:∃z,z=cZ sP xs:=⟨_,rfl⟩
 rw [<-hz] at h b1
 obtain ⟨F,hFF⟩:∃F,F=iP:=⟨_,rfl⟩
 rw [<-hFF] at h hF ⊢
 unfold M51
 rw [aT _ _ rfl]
 simp [Cy.AN,f1,hF,h,b1,bP,bj,-aq,-frz]
def JC:List (FuncId × aD):=[(55,aG 4 M47),(57,aG 4 M30),(61,aG 4 M51)]
@[simp] theorem NQ:aH JC 55=some (aG 4 M47):=rfl
@[simp] theorem NR:aH JC 57=some (aG 4 M30):=rfl
@[simp] theorem NP:aH JC 61=some (aG 4 M51):=rfl
def M29:aI:=fun args=>evP (ai GC JC) 0 MY 1 args
theorem BU:an Tryz.prog GC 64 M29:=an.of_ev (E:=ai GC JC) (ag (ae (ak.of_pure ut 4) (ae (ak.of_pure ri 4) (ae (ak.of_pure uq 4) aw)))) rfl at29 Kw 1 fun _ _ h=>⟨0,h⟩
theorem MK (T:aU) (rd:List Int) (free:Int):decide (Sit T rd free)=(decide (isT T) && (decide ((rd.length:Int)=(T.ch.length:Int)) && (mG free 0 2000000 && !(rd.any sP)))):=by
 have e:(!(rd.any sP))=decide (∀t∈rd,-1<=t/\t<=500000):=by
  rw [Tf,Sq,Sy,Td]
  unfold sP mG
  simp
 rw [e,Tf,Sq]
 simp only [Sf,Sq,dt]
 unfold Sit isT
 constructor
 ·rintro ⟨h1,h2,h3,h4⟩; exact ⟨h1,by omega,h3,h4⟩
 ·rintro ⟨h1,h2,h3,h4⟩; exact ⟨h1,by omega,h3,h4⟩
theorem zS {T:aU} {rdv:AV} (hb:SlA 2 (T.ch.map chA) chv) (hl:T.ch.length<=200) (hr:SlA 1 (ax rd) rdv) (hrl:rd.length<=200) (free:Int):M29 [ay T chv,rdv,.int .i64 free]=some (.bool (decide (Sit T rd free))):=by
 have m:=C2 hb hl
 have m2:=Lf hr hrl
 have m3:M30 [.int .i64 free,.int .i64 0,.int .i64 2000000]=some (.bool (mG free 0 2000000)):=rfl
 have ft:=fun A=>bg (T:=T) (fun A n=>hb.frz (A:=A) n) A 3
 have fr:∀A n,frz A n rdv=rdv:=fun A n=>hr.frz n
 have fb:∀A,frz A 4 (.func (.func 102) [] [])=iP:=fun _=>rfl
 have hl1:=hb.len
 rw [RR] at hl1
 have hl2:=hr.len
 rw [aE] at hl2
 have bx:aY 5 (ay T chv) []=some (.ptr 0 0 0,[.row 5 false [ay T chv]]):=rfl
 have ct:(cellsOf (ay T chv)).length=5:=rfl
 obtain ⟨A0,hA0⟩:∃A:ac,A=[.row 5 false [ay T chv]]:=⟨_,rfl⟩
 have lt:af true 5 A0 (.ptr 0 0 0)=some (ay T chv):=by rw [hA0]; rfl
 have fa:aa 0 A0 (.ptr 0 0 0)=some (.ptr 0 0 0):=by rw [hA0]; simp [aa]
 have l0:af false 1 A0 (.ptr 0 0 0)=some chv:=by
  rw [hA0]
  rcases hb with ⟨rfl,_⟩ | rfl <;> rfl
 have b1:=bE (rd.length:Int) (T.ch.length:Int)
 rw [MK]
 obtain ⟨t,ht⟩:∃t,t=ay T chv:=⟨_,rfl⟩
 rw [<-ht] at m ft bx ct lt hA0 ⊢
 rw [<-hA0] at bx
 obtain ⟨p,hp⟩:∃p,p=decide (isT T):=⟨_,rfl⟩
 obtain ⟨q,hq⟩:∃q,q=decide ((rd.length:Int)=(T.ch.length:Int)):=⟨_,rfl⟩
 obtain ⟨u,hu⟩:∃u,u=mG free 0 2000000:=⟨_,rfl⟩
 obtain ⟨v,hv⟩:∃v,v=rd.any sP:=⟨_,rfl⟩
 obtain ⟨z1,hz1⟩:∃z1,z1=(rd.length:Int):=⟨_,rfl⟩
 obtain ⟨z2,hz2⟩:∃z2,z2=(T.ch.length:Int):=⟨_,rfl⟩
 rw [<-hp] at m ⊢
 rw [<-hq] at b1 ⊢
 rw [<-hu] at m3 ⊢
 rw [<-hv] at m2 ⊢
 rw [<-hz1] at hl2 b1
 rw [<-hz2] at hl1 b1
 unfold M29
 rw [aT _ _ rfl]
 cases p <;> cases q <;> cases u <;> simp [MY,m,m2,m3,ft,fr,fb,bx,ct,lt,fa,l0,b1,hl1,hl2,bj,aP,-aY,-af,-aa,-az,-frz,-cellsOf,-aq,-dS]
def M42:aI:=fun args=>evP (ai GC []) 0 xK 1 args
theorem pq:an Tryz.prog GC 66 M42:=an.of_ev (E:=ai GC []) (ag aw) rfl KP se 1 fun _ _ h=>⟨0,h⟩
theorem vz {T:aU} (chv:AV) (hv:aZ T):M42 [ay T chv]=some (.int .i64 (wT T)):=by
 obtain ⟨_,⟨h1,h2,h3⟩,_⟩:=hv
 have b1:aq .add (.int .i64 T.pick) (.int .i64 T.travel)=some (.int .i64 (T.pick+T.travel)):=be (by omega)
 have b2:aq .add (.int .i64 (T.pick+T.travel)) (.int .i64 T.place)=some (.int .i64 (wT T)):=be (by omega)
 unfold M42
 rw [aT _ _ rfl]
 simp [xK,ay,b1,b2,-aq]
def M41:aI:=fun args=>evP (ai GC []) 0 xL 1 args
theorem nB:an Tryz.prog GC 65 M41:=an.of_ev (E:=ai GC []) (ag aw) rfl KQ sf 1 fun _ _ h=>⟨0,h⟩
theorem vA {T:aU} (chv:AV) (a b:Int) (ha : -1000<=a/\a<=1000):M41 [ay T chv,.int .i64 a,.int .i64 b]=some (.int .i64 (btw T a b)):=by
 have b1:aq .add (.int .i64 a) (.int .i64 1)=some (.int .i64 (a+1)):=be (by omega)
 have b2:=bE b (a+1)
 obtain ⟨a1,ha1⟩:∃a1,a1=a+1:=⟨_,rfl⟩
 unfold btw
 rw [<-ha1] at b1 b2 ⊢
 unfold M41
 rw [aT _ _ rfl]
 by_cases h:b=a1
 ·rw [RJ h] at b2
  rw [RL h]
  simp [xL,ay,b1,b2,-aq]
 ·rw [RH h] at b2
  rw [RN h]
  simp [xL,ay,b1,b2,-aq]
end Tr
namespace Tr
open Go
open Cy (GC aP bj aE)
open Clu (aU aZ ay chA bg be cf bE cS ej dO cG pM jj)
section
variable {A:ac} {id:Nat} {xs:List Int}
theorem eH {n:Nat} {g:Bool} {es:List AV} (h:A[id]?=some (.row 1 g es)) (hk:k<n) (kk:IntKind):au 1 A (.sl id 0 n) (.int kk (k:Int))=some (.ptr id k 0):=by
 simp only [au,h]
 rw [RL ⟨trivial,by omega,by omega,by omega⟩]
 simp
theorem pL (h:A[id]?=some (.row 1 false (ax xs))) (hk:k<xs.length):af false 1 A (.ptr id k 0)=some (.int .i64 (xs.getD k 0)):=by
 have e:(ax xs)[k]?=some (.int .i64 (xs.getD k 0)):=by
  simp [ax,RD hk]
 simp only [af,h,e]
 rfl
theorem pm (h:A[id]?=some (.row 1 false (ax xs))) (hk:k<xs.length) (v:Int):aC 1 A (.ptr id k 0) (.int .i64 v)=some (A.set id (.row 1 false (ax (xs.set k v)))):=by
 have e:(ax xs)[k]?=some (.int .i64 (xs.getD k 0)):=by
  simp [ax,RD hk]
 have e2:(ax xs).set k (.int .i64 v)=ax (xs.set k v):=by simp [ax]
 simp only [aC,h,e]
 rw [RL ⟨trivial,rfl,rfl,by omega⟩]
 simp only [bq,cellsOf]
 rw [<-e2]
 rfl
end
def bn (t:cY):AV:=.agg [.int .i64 t.1,.int .i64 t.2]
@[simp] theorem QX (A:ac) (a b:AV):aa 0 A (.fp [a,b])=some (.fp [a,b]):=rfl
@[simp] theorem QW (A:ac) (a b:AV):aa 1 A (.fp [a,b])=some (.fp [b]):=rfl
@[simp] theorem QE (A:ac) (a:AV) (r:List AV):af false 1 A (.fp (a :: r))=some a:=rfl
theorem FP {T:aU} (hb:SlA 2 (T.ch.map chA) chv) (hk:k<T.ch.length) (A:ac) (kk:IntKind):au 2 A chv (.int kk (k:Int))=some (.fp [.int .i64 (tmT T k),.int .i64 (syT T k)]):=by
 have:=hb.index (A:=A) (i:=k) (x:=chA (T.ch.getD k (0,0))) (by simp [RD hk]) rfl (by omega) kk
 rw [this]; rfl
def mq:List (FuncId × aD):=[(64,aG 4 M29),(57,aG 4 M30),(65,aG 4 M41),(66,aG 4 M42),(63,fun _=>bp (ai GC []) 0 Cy.tx)]
@[simp] theorem OI:aH mq 64=some (aG 4 M29):=rfl
@[simp] theorem OH:aH mq 57=some (aG 4 M30):=rfl
@[simp] theorem OF:aH mq 65=some (aG 4 M41):=rfl
@[simp] theorem OE:aH mq 66=some (aG 4 M42):=rfl
@[simp] theorem OG:aH mq 63=some (fun _=>bp (ai GC []) 0 Cy.tx):=rfl
theorem EC:∀f M,aH mq f=some M->ak Tryz.prog GC f M:=ae (ak.of_pure BU 4) (ae (ak.of_pure ri 4) (ae (ak.of_pure nB 4) (ae (ak.of_pure pq 4) (ae Cy.lE aw))))
def M17:aI:=fun args=>evP (ai GC mq) 300 Ix 4 args
theorem xf:an Tryz.prog GC 22 M17:=an.of_ev (E:=ai GC mq) (ag EC) rfl at17 KA 4 fun _ _ h=>⟨300,h⟩
def GV:MC:=.seq (.region [.d 0 10,.b 1 0,.c 12 1]) (.seq (.region [.a 12,.a 7,.B 1,.Z 21 0 2]) (.cond (.var 21) (.seq (.seq (.region [.a 7,.a 12,.g 1 0 1,.b 1 2,.an 22 3 0]) (.cond (.var 22) (.seq (.region [.e 5 0,.f 6]) .ret) .skip)) (.region [.a 7,.a 12,.a 9,.d 0 4,.b 1 3,.a 12,.g 2 4 5,.l 0 6,.b 1 7,.v 2 8,.g 1 0 1,.I 1 10 9])) .skip))
def Aj:MC:=.seq (.seq (.region [.d 0 10,.b 1 0,.A 1 1,.c 11 2]) (.seq (.region [.a 11,.an 19 0 0]) (.cond (.var 19) (.seq (.seq (.region [.a 7,.a 11,.g 1 0 1,.b 1 2,.b3 3 0,.h 4,.D 1 10 5,.r 1 6 5,.z 7 5,.z 11 5,.Y 1 8 9 5,.r 1 10 5,.z 7 5,.z 11 5,.Y 1 12 13 5,.r 1 14 5,.D 0 4 5,.r 1 16 5,.z 11 5,.Y 2 17 18 5,.cb 1 19 5,.r 1 20 5,.az 15 21 5,.bn 57 7 11 22 5,.L 23 5,.G 20 5 24]) (.cond (.var 20) (.seq (.region [.e 5 0,.f 6]) .ret) .skip)) (.region [.a 7,.a 11,.g 1 0 1,.b9 1 2 (-1)])) .skip))) GV
theorem vW:gU=.seq (.region [.w 17 16 15]) (.seq (.cond (.var 17) .skip (.exit 0)) (.seq (.seq (.block 1 (.seq (.region [.H 2 14 16,.F 2 0,.ar 10 2,.j 2 10 1]) (.seq (.seq (.region [.d 0 10,.b 1 0,.a 7,.B 2,.a5 57 1 3,.N 4,.h 5,.D 1 10 6,.r 1 7 6,.z 9 6,.a9 5 4 6,.z 8 6,.D 0 10 6,.r 1 12 6,.bn 65 10 11 13 6,.az 9 14 6,.qf (.call (.fn 57) [.tmp 8,.tmp 15,.cst (.int .i64 1000000000)]) 6,.L 16 6,.G 18 6 17]) (.cond (.var 18) (.seq (.region [.e 5 0,.f 6]) .ret) .skip)) (.seq (.region [.d 0 10,.b 1 0,.d 1 10,.b 1 2,.k 5 4,.E 66 4,.v 3 5,.c 8 1,.c 9 6]) Aj)))) (.kill [0,1,2,3,5,6,10,11,12,13,17,18,19,20,21,22])) (.region [.m 16 1,.c 16 0]))):=rfl
structure A17 (A:ac) (T:aU) (chv:AV) (inn:List Int):Prop where
 t:A[0]?=some (.row 5 false [ay T chv])
 r:A[2]?=some (.row 1 false (ax inn))
 l:2<A.length
theorem A17.set {T:aU} (h:A17 A T chv inn) (inn':List Int):A17 (A.set 2 (.row 1 false (ax inn'))) T chv inn':=
 ⟨by rw [RF (by omega)]; exact h.t,by rw [RO h.l],by rw [SA]; exact h.l⟩
theorem A17.tool {T:aU} (h:A17 A T chv inn) (hb:SlA 2 (T.ch.map chA) chv):af true 5 A (.ptr 0 0 0)=some (ay T chv)/\aa 0 A (.ptr 0 0 0)=some (.ptr 0 0 0)/\af false 1 A (.ptr 0 0 0)=some chv:=by
 have h1:∀B:ac,B[0]?=A[0]?->af true 5 B (.ptr 0 0 0)=af true 5 A (.ptr 0 0 0):=fun B e=>by simp only [af,e]
 refine ⟨?_,?_,?_⟩
 ·simp only [af,h.t]; rfl
 ·simp only [aa,h.t]; rfl
 ·simp only [af,h.t]
  rcases hb with ⟨rfl,_⟩ | rfl <;> rfl
theorem sV {p:Nat} {t:cY} (h:A[p]?=some (.row 2 false [bn t])):aa 0 A (.ptr p 0 0)=some (.ptr p 0 0)/\aa 1 A (.ptr p 0 0)=some (.ptr p 0 1)/\af false 1 A (.ptr p 0 0)=some (.int .i64 t.1)/\af false 1 A (.ptr p 0 1)=some (.int .i64 t.2):=by
 refine ⟨?_,?_,?_,?_⟩
 ·simp only [aa,h]; rfl
 ·simp only [aa,h]; rfl
 ·simp only [af,h]; rfl
 ·simp only [af,h]; rfl
abbrev s17 (n:Nat) (last fin:Int) (lv:AV) (m i:Nat):List AV:=re (.ptr 0 0 0) (.sl 2 0 n) (.int .i64 last) (.int .i64 fin) lv (.int .i64 (m:Int)) (.int .i64 (i:Int))
section
variable {T:aU} {chv:AV} {A:ac} {inn:List Int} {n p:Nat} {tn ts:Int}
theorem MF (hb:SlA 2 (T.ch.map chA) chv) (hv:aZ T) (hA:A17 A T chv inn) (hn:inn.length=T.ch.length) (hnn:n=T.ch.length) (hp:A[p]?=some (.row 2 false [bn (tn,ts)])) (h0:0<=tn) (hts:0<=ts/\ts<=1000000000)
  (v0 v1 v2 v3 v5 v6 v8 v11 v12 v13 v14 v15 v16 v17 v18 v19 v20 v21 v22:AV) :
  match sM T inn (tn,ts) with
  | some inn2=>∃e12 e21 e22 B,(∀K,run (ai GC mq) 300 (.code GV :: K) [v0,v1,v2,v3,.ptr 0 0 0,v5,v6,.sl 2 0 n,v8,.int .i64 (ts+wT T),.ptr p 0 0,v11,v12,v13,v14,v15,v16,v17,v18,v19,v20,v21,v22] A =
    run (ai GC mq) 300 K [v0,v1,v2,v3,.ptr 0 0 0,v5,v6,.sl 2 0 n,v8,.int .i64 (ts+wT T),.ptr p 0 0,v11,e12,v13,v14,v15,v16,v17,v18,v19,v20,e21,e22] B)/\A17 B T chv inn2
  | none=>∃ σ B,(∀K,run (ai GC mq) 300 (.code GV :: K) [v0,v1,v2,v3,.ptr 0 0 0,v5,v6,.sl 2 0 n,v8,.int .i64 (ts+wT T),.ptr p 0 0,v11,v12,v13,v14,v15,v16,v17,v18,v19,v20,v21,v22] A=some (.ret σ B))/\σ[5]?=some (.int .i64 0)/\σ[6]?=some (.bool false):=by
 obtain ⟨f0,_,l0,_⟩:=sV hp
 simp only at l0
 obtain ⟨_,g0,g1⟩:=hA.tool hb
 have hw:=dD hv
 have ln:az (.sl 2 0 n)=some (.int .i64 (n:Int)):=rfl
 have b1:=cG tn (n:Int)
 unfold sM
 simp only
 by_cases h1:tn<(inn.length:Int)
 rotate_left
 ·rw [RN h1]
  rw [RH (by omega)] at b1
  refine ⟨.int .i64 tn,.bool false,v22,A,fun K=>?_,hA⟩
  generalize (n:Int)=N at *
  simp [GV,f0,l0,ln,b1,-aq,-af,-aa,-az]
 rw [RL h1]
 rw [RJ (by omega)] at b1
 obtain ⟨t,rfl⟩:∃t:Nat,tn=(t:Int):=⟨tn.toNat,by omega⟩
 rw [RY]
 have i1:=eH hA.r (n:=n) (k:=t) (by omega) .i64
 have d1:=pL hA.r (k:=t) (by omega)
 have b2:=Cy.gW (inn.getD t 0)
 have hc:=FP hb (k:=t) (by omega) A .i64
 have htm:=eA hv t
 have b3:aq .add (.int .i64 (ts+wT T)) (.int .i64 (tmT T t))=some (.int .i64 (ts+wT T+tmT T t)):=be (by omega)
 have s1:=pm hA.r (k:=t) (by omega) (ts+wT T+tmT T t)
 obtain ⟨I,hI⟩:∃I,I=inn.getD t 0:=⟨_,rfl⟩
 rw [<-hI] at d1 b2 ⊢
 obtain ⟨E,hE⟩:∃E,E=ts+wT T+tmT T t:=⟨_,rfl⟩
 rw [<-hE] at b3 s1 ⊢
 by_cases h2:0<=I
 ·rw [RL h2]
  rw [RJ h2] at b2
  refine ⟨[v0,v1,v2,v3,.ptr 0 0 0,.int .i64 0,.bool false,.sl 2 0 n,v8,.int .i64 (ts+wT T),.ptr p 0 0,v11,.int .i64 (t:Int),v13,v14,v15,v16,v17,v18,v19,v20,.bool true,.bool true],A,fun K=>?_,rfl,rfl⟩
  generalize (n:Int)=N at *
  generalize (t:Int)=TT at *
  simp [GV,f0,l0,ln,b1,i1,d1,b2,-aq,-af,-aa,-az,-au]
 ·rw [RN h2]
  rw [RH h2] at b2
  refine ⟨.int .i64 (t:Int),.bool true,.bool false,A.set 2 (.row 1 false (ax (inn.set t E))),fun K=>?_,hA.set _⟩
  generalize (n:Int)=N at *
  generalize (t:Int)=TT at *
  simp [GV,f0,l0,ln,b1,i1,d1,b2,b3,g0,g1,hc,s1,-aq,-af,-aa,-az,-au,-aC]
theorem MP (hb:SlA 2 (T.ch.map chA) chv) (hv:aZ T) (hA:A17 A T chv inn) (hn:inn.length=T.ch.length) (hnn:n=T.ch.length) (hp:A[p]?=some (.row 2 false [bn (tn,ts)])) (hp2:p≠2) (h0:0<=tn/\tn<=inn.length) (hts:0<=ts/\ts<=1000000000) (hin:∀z∈inn,-1<=z/\z<=3000000000)
  (v0 v1 v2 v3 v5 v6 v8 v11 v12 v13 v14 v15 v16 v17 v18 v19 v20 v21 v22:AV) :
  match (jp T inn (tn,ts)).bind fun a=>sM T a (tn,ts) with
  | some inn2=>∃e11 e12 e19 e20 e21 e22 B,(∀K,run (ai GC mq) 300 (.code Aj :: K) [v0,v1,v2,v3,.ptr 0 0 0,v5,v6,.sl 2 0 n,v8,.int .i64 (ts+wT T),.ptr p 0 0,v11,v12,v13,v14,v15,v16,v17,v18,v19,v20,v21,v22] A =
    run (ai GC mq) 300 K [v0,v1,v2,v3,.ptr 0 0 0,v5,v6,.sl 2 0 n,v8,.int .i64 (ts+wT T),.ptr p 0 0,e11,e12,v13,v14,v15,v16,v17,v18,e19,e20,e21,e22] B)/\A17 B T chv inn2
  | none=>∃ σ B,(∀K,run (ai GC mq) 300 (.code Aj :: K) [v0,v1,v2,v3,.ptr 0 0 0,v5,v6,.sl 2 0 n,v8,.int .i64 (ts+wT T),.ptr p 0 0,v11,v12,v13,v14,v15,v16,v17,v18,v19,v20,v21,v22] A=some (.ret σ B))/\σ[5]?=some (.int .i64 0)/\σ[6]?=some (.bool false):=by
 obtain ⟨f0,f1,l0,l1⟩:=sV hp
 simp only at l0 l1
 obtain ⟨_,g0,g1⟩:=hA.tool hb
 have hn4:=hv.2.2.2.1
 have b1:aq .sub (.int .i64 tn) (.int .i64 1)=some (.int .i64 (tn-1)):=cf (by omega)
 have b2:=Cy.gW (tn-1)
 have key:∀(inn1:List Int) (B:ac) (e11 e19 e20:AV),A17 B T chv inn1->inn1.length=T.ch.length->B[p]?=some (.row 2 false [bn (tn,ts)]) ->
   (∀K,run (ai GC mq) 300 (.code Aj :: K) [v0,v1,v2,v3,.ptr 0 0 0,v5,v6,.sl 2 0 n,v8,.int .i64 (ts+wT T),.ptr p 0 0,v11,v12,v13,v14,v15,v16,v17,v18,v19,v20,v21,v22] A =
    run (ai GC mq) 300 (.code GV :: K) [v0,v1,v2,v3,.ptr 0 0 0,v5,v6,.sl 2 0 n,v8,.int .i64 (ts+wT T),.ptr p 0 0,e11,v12,v13,v14,v15,v16,v17,v18,e19,e20,v21,v22] B) ->
   match (some inn1).bind fun a=>sM T a (tn,ts) with
   | some inn2=>∃e11 e12 e19 e20 e21 e22 B,(∀K,run (ai GC mq) 300 (.code Aj :: K) [v0,v1,v2,v3,.ptr 0 0 0,v5,v6,.sl 2 0 n,v8,.int .i64 (ts+wT T),.ptr p 0 0,v11,v12,v13,v14,v15,v16,v17,v18,v19,v20,v21,v22] A =
     run (ai GC mq) 300 K [v0,v1,v2,v3,.ptr 0 0 0,v5,v6,.sl 2 0 n,v8,.int .i64 (ts+wT T),.ptr p 0 0,e11,e12,v13,v14,v15,v16,v17,v18,e19,e20,e21,e22] B)/\A17 B T chv inn2
   | none=>∃ σ B,(∀K,run (ai GC mq) 300 (.code Aj :: K) [v0,v1,v2,v3,.ptr 0 0 0,v5,v6,.sl 2 0 n,v8,.int .i64 (ts+wT T),.ptr p 0 0,v11,v12,v13,v14,v15,v16,v17,v18,v19,v20,v21,v22] A=some (.ret σ B))/\σ[5]?=some (.int .i64 0)/\σ[6]?=some (.bool false):=by
  intro inn1 B e11 e19 e20 hA1 hn1 hp1 hrun
  have h:=MF hb hv hA1 hn1 hnn hp1 h0.1 hts v0 v1 v2 v3 v5 v6 v8 e11 v12 v13 v14 v15 v16 v17 v18 e19 e20 v21 v22
  rw [Sl]
  cases hput:sM T inn1 (tn,ts) with
  | none=>
   rw [hput] at h
   obtain ⟨σ,B',h1,h2⟩:=h
   exact ⟨σ,B',fun K=>by rw [hrun,h1],h2⟩
  | some inn2=>
   rw [hput] at h
   obtain ⟨e12,e21,e22,B',h1,h2⟩:=h
   exact ⟨e11,e12,e19,e20,e21,e22,B',fun K=>by rw [hrun,h1],h2⟩
 unfold jp
 simp only
 by_cases h1:1<=tn
 rotate_left
 ·rw [RN h1]
  rw [RH (by omega)] at b2
  refine key inn A (.int .i64 (tn-1)) (.bool false) v20 hA hn hp fun K=>?_
  generalize tn-1=T1 at *
  simp [Aj,f0,l0,b1,b2,-aq,-af,-aa,-az]
 rw [RL h1]
 rw [RJ (by omega)] at b2
 obtain ⟨k,hk⟩:∃k:Nat,tn-1=(k:Int):=⟨(tn-1).toNat,by omega⟩
 rw [hk,RY]
 rw [hk] at b1 b2
 have i1:=eH hA.r (n:=n) (k:=k) (by omega) .i64
 have d1:=pL hA.r (k:=k) (by omega)
 have b3:=cG (inn.getD k 0) 0
 have hc:=FP hb (k:=k) (by omega) A .i64
 have hch:=eA hv k
 have hI : -1<=inn.getD k 0/\inn.getD k 0<=3000000000:=by
  rw [RC,RD (show k<inn.length by omega)]
  exact hin _ (RM _)
 have b4:aq .add (.int .i64 (inn.getD k 0)) (.int .i64 (syT T k))=some (.int .i64 (inn.getD k 0+syT T k)):=be (by omega)
 have m1:=dS ts (inn.getD k 0) (inn.getD k 0+syT T k)
 have s1:=pm hA.r (k:=k) (by omega) (-1)
 have hA1:=hA.set (inn.set k (-1))
 have hp1:(A.set 2 (.row 1 false (ax (inn.set k (-1)))))[p]?=some (.row 2 false [bn (tn,ts)]):=by rw [RF (SO hp2)]; exact hp
 have key1:=key (inn.set k (-1)) (A.set 2 (.row 1 false (ax (inn.set k (-1))))) (.int .i64 (k:Int)) (.bool true) (.bool false) hA1 (by simp [hn]) hp1
 obtain ⟨A1,hAe⟩:∃X,X=A.set 2 (.row 1 false (ax (inn.set k (-1)))):=⟨_,rfl⟩
 rw [<-hAe] at s1 key1
 obtain ⟨I,hIe⟩:∃I,I=inn.getD k 0:=⟨_,rfl⟩
 rw [<-hIe] at d1 b3 b4 m1 hI ⊢
 obtain ⟨E,hE⟩:∃E,E=I+syT T k:=⟨_,rfl⟩
 rw [<-hE] at b4 m1 ⊢
 by_cases h2:0<=I
 rotate_left
 ·rw [RN (fun h=>h2 h.1)]
  rw [RJ (by omega)] at b3
  refine ⟨[v0,v1,v2,v3,.ptr 0 0 0,.int .i64 0,.bool false,.sl 2 0 n,v8,.int .i64 (ts+wT T),.ptr p 0 0,.int .i64 (k:Int),v12,v13,v14,v15,v16,v17,v18,.bool true,.bool true,v21,v22],A,fun K=>?_,rfl,rfl⟩
  generalize (k:Int)=KK at *
  simp [Aj,f0,l0,i1,d1,b1,b2,b3,-aq,-af,-aa,-az,-au]
 rw [RH (by omega)] at b3
 by_cases h3:I<=ts/\ts<=E
 rotate_left
 ·rw [RN (fun h=>h3 h.2)]
  have mb:mG ts I E=false:=by
   cases e:mG ts I E
   ·rfl
   ·exact absurd (dt.1 e) h3
  rw [mb] at m1
  refine ⟨[v0,v1,v2,v3,.ptr 0 0 0,.int .i64 0,.bool false,.sl 2 0 n,v8,.int .i64 (ts+wT T),.ptr p 0 0,.int .i64 (k:Int),v12,v13,v14,v15,v16,v17,v18,.bool true,.bool true,v21,v22],A,fun K=>?_,rfl,rfl⟩
  generalize (k:Int)=KK at *
  simp [Aj,f0,f1,l0,l1,g0,g1,hc,i1,d1,b1,b2,b3,b4,m1,-dS,-aq,-af,-aa,-az,-au]
 ·rw [RL ⟨h2,h3⟩]
  rw [dt.2 h3] at m1
  refine key1 fun K=>?_
  generalize (k:Int)=KK at *
  simp [Aj,f0,f1,l0,l1,g0,g1,hc,i1,d1,b1,b2,b3,b4,m1,s1,-dS,-aq,-af,-aa,-az,-au,-aC]
end
structure OkS (T:aU) (x:St):Prop where
 n:x.inn.length=T.ch.length
 la : -1000<=x.last/\x.last<=1000
 fi:0<=x.fin/\x.fin<=2000000000
 inn:∀z∈x.inn,-1<=z/\z<=3000000000
theorem OkS.step {T:aU} (hv:aZ T) {y:St} (h:OkS T x) {t:cY} (hs:dY T x t=some y):OkS T y:=by
 have hw:=dD hv
 have hn4:=hv.2.2.2.1
 unfold dY at hs
 split at hs
 ·rename_i hc
  obtain ⟨⟨c1,c2⟩,c3,c4⟩:=hc
  have hbt:=fk hv x.last t.1
  cases h1:jp T x.inn t with
  | none=>rw [h1] at hs; cases hs
  | some a=>
   rw [h1,Sl] at hs
   cases h2:sM T a t with
   | none=>rw [h2] at hs; cases hs
   | some b=>
    rw [h2] at hs
    injection hs with hs
    subst hs
    have ha:a.length=T.ch.length/\∀z∈a,-1<=z/\z<=3000000000:=by
     unfold jp at h1
     split at h1
     ·split at h1
      ·injection h1 with h1; subst h1
       refine ⟨by simp [h.n],fun z hz=>?_⟩
       rcases List.mem_or_eq_of_mem_set hz with hz | rfl
       ·exact h.inn z hz
       ·omega
      ·cases h1
     ·injection h1 with h1; subst h1
      exact ⟨h.n,h.inn⟩
    have hb:b.length=T.ch.length/\∀z∈b,-1<=z/\z<=3000000000:=by
     have htm:=eA hv t.1.toNat
     have:=h.fi
     unfold sM at h2
     split at h2
     ·split at h2
      ·cases h2
      ·injection h2 with h2; subst h2
       refine ⟨by simp [ha.1],fun z hz=>?_⟩
       rcases List.mem_or_eq_of_mem_set hz with hz | rfl
       ·exact ha.2 z hz
       ·omega
     ·injection h2 with h2; subst h2
      exact ha
    have:=h.n
    have:=h.fi
    exact ⟨hb.1,by simp only; omega,by simp only; omega,hb.2⟩
 ·cases hs
theorem ER {T:aU} (hb:SlA 2 (T.ch.map chA) chv) (hv:aZ T) {l:List cY} (hlv:SlA 2 (l.map bn) lv) {A:ac} {x:St} (hA:A17 A T chv x.inn) (hx:OkS T x) {i:Nat} (hi:i<l.length) (hil:l.length<=200) :
  match dY T x l[i] with
  | some y=>∃B,run (ai GC mq) 300 [.code gU] (s17 T.ch.length x.last x.fin lv l.length i) A=some (.normal (s17 T.ch.length y.last y.fin lv l.length (i+1)) B)/\A17 B T chv y.inn
  | none=>∃ σ B,run (ai GC mq) 300 [.code gU] (s17 T.ch.length x.last x.fin lv l.length i) A=some (.ret σ B)/\σ[5]?=some (.int .i64 0)/\σ[6]?=some (.bool false):=by
 obtain ⟨inn,last,fin⟩:=x
 obtain ⟨hn,hlast,hfin,hin⟩:=hx
 simp only at hA hn hlast hfin hin ⊢
 have hw:=dD hv
 have hn4:=hv.2.2.2.1
 have ft:=fun A=>bg (T:=T) (fun A n=>hb.frz (A:=A) n) A 3
 have x1:=hlv.index (A:=A) (i:=i) (x:=bn l[i]) (by simp [hi]) rfl (by omega) .i64
 have b0:=bC i l.length .i64
 rw [RJ hi] at b0
 have b9:=bh i (by omega)
 obtain ⟨⟨tn,ts⟩,hti⟩:∃t,t=l[i]:=⟨_,rfl⟩
 rw [<-hti] at x1 ⊢
 have x1:au 2 A lv (.int .i64 (i:Int))=some (.fp [.int .i64 tn,.int .i64 ts]):=x1
 obtain ⟨B,hB⟩:∃B,B=A++[Ent.row 2 false [bn (tn,ts)]]:=⟨_,rfl⟩
 have s0:aC 2 (A++[.row 2 false [.agg [.int .i64 0,.int .i64 0]]]) (.ptr A.length 0 0) (.agg [.int .i64 tn,.int .i64 ts])=some B:=by
  rw [hB]
  simp only [aC,List.getElem?_concat_length,Sw]
  rw [RL ⟨trivial,rfl,rfl,by omega⟩]
  simp [bq,cellsOf,bn]
 have hAB:A17 B T chv inn:=by
  have hl:=hA.l
  rw [hB]
  exact ⟨by rw [RE (by omega)]; exact hA.t,by rw [RE (by omega)]; exact hA.r,by simp; omega⟩
 have hp:B[A.length]?=some (.row 2 false [bn (tn,ts)]):=by rw [hB]; simp
 have hp2:A.length≠2:=by have:=hA.l; omega
 obtain ⟨f0,f1,l0,l1⟩:=sV hp
 simp only at l0 l1
 obtain ⟨lt,g0,g1⟩:=hAB.tool hb
 have ln:az (.sl 2 0 T.ch.length)=some (.int .i64 (T.ch.length:Int)):=rfl
 have m1:=dS tn 0 (T.ch.length:Int)
 have m2:=vA (T:=T) chv last tn hlast
 have hbt:=fk hv last tn
 have b1:aq .add (.int .i64 fin) (.int .i64 (btw T last tn))=some (.int .i64 (fin+btw T last tn)):=be (by omega)
 have m3:=dS ts (fin+btw T last tn) 1000000000
 have m4:=vz (T:=T) chv hv
 generalize hp0:A.length=p at *
 rw [vW]
 obtain ⟨t,ht⟩:∃t,t=ay T chv:=⟨_,rfl⟩
 rw [<-ht] at ft lt m2 m4
 unfold dY
 simp only
 by_cases c1:0<=tn/\tn<=(inn.length:Int)
 rotate_left
 ·rw [RN (fun h=>c1 h.1)]
  have mb:mG tn 0 (T.ch.length:Int)=false:=by
   cases e:mG tn 0 (T.ch.length:Int)
   ·rfl
   ·exact absurd (dt.1 e) (by rw [hn] at c1; exact c1)
  rw [mb] at m1
  refine ⟨[.undef,.undef,.undef,.undef,.ptr 0 0 0,.int .i64 0,.bool false,.sl 2 0 T.ch.length,.int .i64 last,.int .i64 fin,.ptr p 0 0,.undef,.undef,.undef,lv,.int .i64 (l.length:Int),.int .i64 (i:Int),.bool true,.bool true,.undef,.undef,.undef,.undef],B,?_,rfl,rfl⟩
  generalize (T.ch.length:Int)=N at *
  simp [x1,b0,s0,f0,l0,ln,m1,jj,hp0,-dS,-aq,-af,-aa,-az,-au,-aC]
 have mb1:mG tn 0 (T.ch.length:Int)=true:=dt.2 (by rw [hn] at c1; exact c1)
 rw [mb1] at m1
 by_cases c2:fin+btw T last tn<=ts/\ts<=1000000000
 rotate_left
 ·rw [RN (fun h=>c2 h.2)]
  have mb:mG ts (fin+btw T last tn) 1000000000=false:=by
   cases e:mG ts (fin+btw T last tn) 1000000000
   ·rfl
   ·exact absurd (dt.1 e) c2
  rw [mb] at m3
  refine ⟨[.undef,.undef,.undef,.undef,.ptr 0 0 0,.int .i64 0,.bool false,.sl 2 0 T.ch.length,.int .i64 last,.int .i64 fin,.ptr p 0 0,.undef,.undef,.undef,lv,.int .i64 (l.length:Int),.int .i64 (i:Int),.bool true,.bool true,.undef,.undef,.undef,.undef],B,?_,rfl,rfl⟩
  generalize (T.ch.length:Int)=N at *
  generalize btw T last tn=BT at *
  simp [x1,b0,s0,f0,f1,l0,l1,lt,ft,ln,m1,m2,m3,b1,jj,hp0,-dS,-aq,-af,-aa,-az,-au,-aC]
 have mb2:mG ts (fin+btw T last tn) 1000000000=true:=dt.2 c2
 rw [mb2] at m3
 rw [RL ⟨c1,c2⟩]
 have b2:aq .add (.int .i64 ts) (.int .i64 (wT T))=some (.int .i64 (ts+wT T)):=be (by omega)
 have hmid:=MP (n:=T.ch.length) hb hv hAB hn rfl hp hp2 c1 (by omega) hin .undef .undef .undef .undef .undef .undef (.int .i64 tn) .undef .undef .undef lv (.int .i64 (l.length:Int)) (.int .i64 (i:Int)) (.bool true) (.bool false) .undef .undef .undef .undef
 cases hput:(jp T inn (tn,ts)).bind fun a=>sM T a (tn,ts) with
 | none=>
  have e:((jp T inn (tn,ts)).bind fun a=>(sM T a (tn,ts)).map fun b=>(⟨b,tn,ts+wT T⟩:St))=none:=by
   cases h1:jp T inn (tn,ts) with
   | none=>rfl
   | some a=>
    rw [h1,Sl] at hput
    rw [Sl,hput]; rfl
  rw [e]
  rw [hput] at hmid
  obtain ⟨σ,B',h1,h2⟩:=hmid
  refine ⟨σ,B',?_,h2⟩
  generalize hN:(T.ch.length:Int)=N at *
  generalize btw T last tn=BT at *
  generalize ts+wT T=EE at *
  simp [x1,b0,s0,f0,f1,l0,l1,lt,ft,ln,m1,m2,m3,m4,b1,b2,jj,hp0,h1,-dS,-aq,-af,-aa,-az,-au,-aC]
 | some inn2=>
  have e:((jp T inn (tn,ts)).bind fun a=>(sM T a (tn,ts)).map fun b=>(⟨b,tn,ts+wT T⟩:St))=some ⟨inn2,tn,ts+wT T⟩:=by
   cases h1:jp T inn (tn,ts) with
   | none=>rw [h1] at hput; cases hput
   | some a=>
    rw [h1,Sl] at hput
    rw [Sl,hput]; rfl
  rw [e]
  rw [hput] at hmid
  obtain ⟨e11,e12,e19,e20,e21,e22,B',h1,h2⟩:=hmid
  refine ⟨B',?_,h2⟩
  simp only
  generalize hN:(T.ch.length:Int)=N at *
  generalize btw T last tn=BT at *
  generalize ts+wT T=EE at *
  obtain ⟨i1,hi1⟩:∃i1:Nat,i1=i+1:=⟨_,rfl⟩
  rw [<-hi1] at b9 ⊢
  simp [x1,b0,b9,s0,f0,f1,l0,l1,lt,ft,ln,m1,m2,m3,m4,b1,b2,jj,hp0,h1,-dS,-aq,-af,-aa,-az,-au,-aC]
theorem Je {T:aU} (hb:SlA 2 (T.ch.map chA) chv) (hv:aZ T) {l:List cY} (hlv:SlA 2 (l.map bn) lv) (hil:l.length<=200):∀(c i:Nat) (A:ac) (x:St) (m:Nat),i+c=l.length->A17 A T chv x.inn->OkS T x->c<m ->
  match mZ T x (l.drop i) with
  | some y=>∃B,cc (evC (ai GC mq) 300 gU) gf m (s17 T.ch.length x.last x.fin lv l.length i) A=some (.exit 0 ((s17 T.ch.length y.last y.fin lv l.length l.length).set 17 (.bool false)) B)
  | none=>∃ σ B,cc (evC (ai GC mq) 300 gU) gf m (s17 T.ch.length x.last x.fin lv l.length i) A=some (.ret σ B)/\σ[5]?=some (.int .i64 0)/\σ[6]?=some (.bool false):=by
 intro c
 induction c with
 | zero=>
  intro i A x m hi hA hx hm
  obtain ⟨m,rfl⟩:∃j,m=j+1:=⟨m-1,by omega⟩
  obtain rfl:i=l.length:=by omega
  rw [TP]
  simp only [mZ]
  refine ⟨A,?_⟩
  have b0:=bC l.length l.length .i64
  rw [RH (by omega)] at b0
  rw [aO,zj]
  simp [gU,b0,-aq]
 | succ c ih=>
  intro i A x m hi hA hx hm
  obtain ⟨m,rfl⟩:∃j,m=j+1:=⟨m-1,by omega⟩
  have hil':i<l.length:=by omega
  rw [SM hil']
  simp only [mZ]
  have hr:=ER hb hv hlv hA hx hil' hil
  rw [aO,zj]
  cases hs:dY T x l[i] with
  | none=>
   rw [hs] at hr
   obtain ⟨σ,B,h1,h2⟩:=hr
   rw [Option.bind_none,h1]
   exact ⟨σ,B,rfl,h2⟩
  | some y=>
   rw [hs] at hr
   obtain ⟨B,h1,h2⟩:=hr
   rw [Sl,h1]
   exact ih (i+1) B y m (by omega) h2 (hx.step hv hs) (by omega)
theorem yi (A:ac) (z:Int) (b:Bool):frz A 4 (.tup [.int .i64 z,.bool b])=.tup [.int .i64 z,.bool b]:=rfl
def Hp (r:Option Int):AV:=.tup [.int .i64 (r.getD 0),.bool r.isSome]
theorem zT {T:aU} {rdv:AV} (hb:SlA 2 (T.ch.map chA) chv) (hl:T.ch.length<=200) (hr:SlA 1 (ax rd) rdv) (hrl:rd.length<=200) (free:Int) {l:List cY} (hlv:SlA 2 (l.map bn) lv) (hll:l.length<=200):M17 [ay T chv,rdv,.int .i64 free,lv]=some (Hp (fH T rd free l)):=by
 have m:=zS hb hl hr hrl free
 have ft:=fun A=>bg (T:=T) (fun A n=>hb.frz (A:=A) n) A 3
 have fr:∀A n,frz A n rdv=rdv:=fun A n=>hr.frz n
 have bx:aY 5 (ay T chv) []=some (.ptr 0 0 0,[.row 5 false [ay T chv]]):=rfl
 have ct:(cellsOf (ay T chv)).length=5:=rfl
 obtain ⟨A0,hA0⟩:∃A:ac,A=[.row 5 false [ay T chv]]:=⟨_,rfl⟩
 have lt:af true 5 A0 (.ptr 0 0 0)=some (ay T chv):=by rw [hA0]; rfl
 have hll2:=hlv.len
 rw [RR] at hll2
 have hA0':=hA0
 obtain ⟨t,ht⟩:∃t,t=ay T chv:=⟨_,rfl⟩
 rw [<-ht] at m ft bx ct lt hA0 ⊢
 rw [<-hA0] at bx
 unfold M17
 rw [aT _ _ rfl]
 unfold fH
 by_cases hS:Sit T rd free
 rotate_left
 ·rw [RH hS] at m
  rw [RN hS]
  simp [Ix,m,ft,fr,bx,ct,lt,aP,yi,dw,Hp,-aY,-af,-az,-frz,-cellsOf]
 rw [RJ hS] at m
 rw [RL hS]
 have hv:=hS.1.1
 have hsl:=gH hS
 have hne:rd≠[]:=by intro e; rw [e] at hsl; simp at hsl
 have hcl:=Cy.L9 (ai GC []) 0 (A:=A0) (a:=rdv) (xs:=rd) (.inl hr) hne (by omega)
 have hA2:A17 (A0++[.dead,.row 1 false (ax rd)]) T chv rd:=by
  rw [hA0']
  exact ⟨rfl,rfl,by simp⟩
 have hx:OkS T (st0 rd free):=⟨hS.2.1,by simp [st0],by have:=hS.2.2.1; simp only [st0]; omega,fun z hz=>by have:=hS.2.2.2 z hz; omega⟩
 have hlp:=Je hb hv hlv hll l.length 0 _ (st0 rd free) 300 (by omega) hA2 hx (by omega)
 have hA0l:A0.length=1:=by rw [hA0]; rfl
 rw [hA0l] at hcl
 generalize hA1:A0++[.dead,.row 1 false (ax rd)]=A1 at *
 rw [R2] at hlp
 rw [hS.2.1] at hcl
 cases hc:mZ T (st0 rd free) l with
 | some y=>
  rw [hc] at hlp
  obtain ⟨B,hlp⟩:=hlp
  simp only [st0] at hlp
  have hlp:cc (evC (ai GC mq) 300 gU) gf 300 (re (.ptr 0 0 0) (.sl 2 0 T.ch.length) (.int .i64 (-2)) (.int .i64 free) lv (.int .i64 (l.length:Int)) (.int .i64 0)) A1=_:=hlp
  simp [Ix,m,ft,fr,bx,ct,lt,hcl,hll2,Cu hlp,aP,yi,dw,Hp,-aY,-af,-az,-frz,-cellsOf]
 | none=>
  rw [hc] at hlp
  obtain ⟨σ,B,hlp,h5,h6⟩:=hlp
  simp only [st0] at hlp
  have hlp:cc (evC (ai GC mq) 300 gU) gf 300 (re (.ptr 0 0 0) (.sl 2 0 T.ch.length) (.int .i64 (-2)) (.int .i64 free) lv (.int .i64 (l.length:Int)) (.int .i64 0)) A1=_:=hlp
  simp [Ix,m,ft,fr,bx,ct,lt,hcl,hll2,Cu hlp,h5,h6,aP,yi,dw,Hp,-aY,-af,-az,-frz,-cellsOf]
end Tr
namespace Tr
open Go
open Cy (GC aP bj aE bc cJ lvM lvT)
open Clu (aU aZ ay chA bg be cf bE cS ej dO cG pM jj)
structure Tl (A:ac) (T:aU) (chv chF:AV):Prop where
 h:cK A 2 chv (T.ch.map chA)
 fz:∀X,frz (A++X) 4 (ay T chv)=ay T chF
 sF:SlA 2 (T.ch.map chA) chF
theorem cu (A X:ac):∀id,id<A.length->(A++X)[id]?=A[id]?:=fun id h=>by rw [RE h]
theorem _root_.Go.Proofs.YtfkcoekicjjndaaGreat.cK.app (h:cK A e a xs) (X:ac):cK (A++X) e a xs:=by
 rcases h with h | ⟨id,off,gr,es,rfl,h1,h2⟩
 ·exact .inl h
 ·exact .inr ⟨id,off,gr,es,rfl,by rw [cu A X id (Rx.1 h1).1,h1],h2⟩
theorem dK {id off:Nat} {g:Bool} {es:List AV} (h:A[id]?=some (.row e g es)) (h2:(es.drop off).take xs.length=xs) (hx:∀n,∀x∈xs,frz A (n+1) x=x) (n:Nat):frz A (n+2) (.sl id off xs.length)=.fs e xs:=by
 simp only [frz,h,h2]
 congr 1
 conv=>rhs; rw [<-List.map_id xs]
 exact Sc fun x hm=>hx n x hm
theorem Tl.of {A:ac} {T:aU} (h:cK A 2 chv (T.ch.map chA)):∃chF,Tl A T chv chF:=by
 rcases h with h | ⟨id,off,gr,es,rfl,h1,h2⟩
 ·exact ⟨chv,.inl h,fun X=>bg (fun A n=>h.frz (A:=A) n) _ 3,h⟩
 ·refine ⟨.fs 2 (T.ch.map chA),.inr ⟨id,off,gr,es,rfl,h1,h2⟩,fun X=>?_,.inr rfl⟩
  have h1':(A++X)[id]?=some (.row 2 gr es):=by rw [cu A X id (Rx.1 h1).1,h1]
  have e:frz (A++X) 3 (.sl id off (T.ch.map chA).length)=.fs 2 (T.ch.map chA):=dK h1' h2 (fun n x hx=>by
   obtain ⟨c,_,rfl⟩:=R1.1 hx
   cases n <;> rfl) 1
  show AV.agg [frz (A++X) 3 (.sl id off (T.ch.map chA).length),_,_,_,_]=_
  rw [e]; rfl
theorem Tl.ix {T:aU} {chF:AV} (h:Tl A T chv chF) (hk:k<T.ch.length):∃p q,∀X,au 2 (A++X) chv (.int .i64 (k:Int))=some p/\aa 0 (A++X) p=some p/\af false 1 (A++X) p=some (.int .i64 (tmT T k))/\aa 1 (A++X) p=some q/\af false 1 (A++X) q=some (.int .i64 (syT T k)):=by
 rcases h.h with h | ⟨id,off,gr,es,rfl,h1,h2⟩
 ·exact ⟨.fp [.int .i64 (tmT T k),.int .i64 (syT T k)],.fp [.int .i64 (syT T k)],fun X=>⟨FP h hk _ _,rfl,rfl,rfl,rfl⟩⟩
 ·have e:es[off+k]?=some (chA (T.ch.getD k (0,0))):=by
   have:((es.drop off).take (T.ch.map chA).length)[k]?=(T.ch.map chA)[k]?:=by rw [h2]
   rw [TB,RL (by simpa using hk),SJ] at this
   rw [this]
   simp [RD hk]
  refine ⟨.ptr id (off+k) 0,.ptr id (off+k) 1,fun X=>?_⟩
  have h1':(A++X)[id]?=some (.row 2 gr es):=by rw [cu A X id (Rx.1 h1).1,h1]
  refine ⟨?_,?_,?_,?_,?_⟩
  ·simp only [au,h1',RR]
   rw [RL ⟨trivial,by omega,by omega,by omega⟩]
   simp
  ·simp [aa,h1']
  ·simp only [af,h1',e]; rfl
  ·simp [aa,h1']
  ·simp only [af,h1',e]; rfl
def lk (k:Int):List (Int × Int)->Option Int
 | []=>none
 | x :: r=>if k=x.1 then some x.2 else lk k r
def kvU (t v:Int):List (Int × Int)->List (Int × Int)
 | []=>[(t,v)]
 | x :: r=>if t=x.1 then (t,v) :: r else x :: kvU t v r
theorem Ca (t v k:Int):∀l:List (Int × Int),lk k (kvU t v l)=if k=t then some v else lk k l
 | []=>by simp [kvU,lk]
 | x :: r=>by
  unfold kvU
  by_cases h:t=x.1
  ·rw [RL h]
   simp only [lk]
   by_cases h2:k=t
   ·rw [RL h2,RL h2]
   ·rw [RN h2,RN h2,RN (by omega)]
  ·rw [RN h]
   simp only [lk,Ca t v k r]
   by_cases h2:k=x.1
   ·rw [RL h2,RL h2,RN (by omega)]
   ·rw [RN h2,RN h2]
def kvA (x:Int × Int):AV × AV:=(.int .i64 x.1,.int .i64 x.2)
theorem qB (k:Int):∀(l:List (Int × Int)) (n:Nat),(lk k l=none/\gp (.int .i64 k) (l.map kvA) n=some none/\∀v,l++[(k,v)]=kvU k v l) \/
  ∃j v,lk k l=some v/\gp (.int .i64 k) (l.map kvA) n=some (some (n+j,.int .i64 v))/\∀w,l.set j (k,w)=kvU k w l
 | [],n=>.inl ⟨rfl,rfl,fun _=>rfl⟩
 | x :: r,n=>by
  by_cases h:k=x.1
  ·refine .inr ⟨0,x.2,by simp [lk,h],?_,fun w=>by simp [kvU,h]⟩
   simp [gp,kvA,mp,h]
  ·have hne:(k == x.1)=false:=by simpa using h
   rcases qB k r (n+1) with ⟨h1,h2,h3⟩ | ⟨j,v,h1,h2,h3⟩
   ·refine .inl ⟨by simp [lk,h,h1],?_,fun v=>by simp [kvU,h,h3 v]⟩
    simp only [SH,gp,kvA,mp,SP,hne]
    exact h2
   ·refine .inr ⟨j+1,v,by simp [lk,h,h1],?_,fun w=>by simp [kvU,h,h3 w]⟩
    simp only [SH,gp,kvA,mp,SP,hne]
    rw [show n+(j+1)=n+1+j by omega]
    exact h2
theorem Fh {id:Nat} {l:List (Int × Int)} (h:A[id]?=some (.map (l.map kvA))) (k:Int):cm true (.int .i64 0) A (.map id) (.int .i64 k)=some (match lk k l with | some v=>.tup [.int .i64 v,.bool true] | none=>.tup [.int .i64 0,.bool false]):=by
 simp only [cm,h]
 rcases qB k l 0 with ⟨h1,h2,_⟩ | ⟨j,v,h1,h2,_⟩
 ·rw [h1,h2]; rfl
 ·rw [h1,h2]; rfl
theorem map_set {id:Nat} {l:List (Int × Int)} (h:A[id]?=some (.map (l.map kvA))) (k v:Int):bz A (.map id) (.int .i64 k) (.int .i64 v)=some (A.set id (.map ((kvU k v l).map kvA))):=by
 simp only [bz,h]
 rcases qB k l 0 with ⟨h1,h2,h3⟩ | ⟨j,w,h1,h2,h3⟩
 ·rw [h2,<-h3 v]
  simp [kvA]
 ·rw [h2,<-h3 v,Tb]
  simp [kvA]
def XA (n0:Nat) (tv:AV) (L:List bc) (kvs:List (Int × Int)):ac:=
 if L=[] then [.row 5 false [tv],.row 1 false [.nilS],.map (kvs.map kvA)]
 else [.row 5 false [tv],.row 1 false [.sl (n0+3) 0 L.length],.map (kvs.map kvA),.row 4 (decide (1<L.length)) (L.map cJ)]
def H60:aD:=fun _=>bp (ai GC []) 0 LN
theorem HS:ak Tryz.prog GC 110 H60:=(aM (ag aw) rfl at60 Kj aW.nil).y
section
variable {A:ac} {T:aU} {chv chF tv:AV} {L:List bc} {kvs:List (Int × Int)}
theorem a8 (A X:ac) (i:Nat):(A++X)[A.length+i]?=X[i]?:=by
 rw [RS (by omega),Sp]
theorem xa0:(A++XA A.length tv L kvs)[A.length]?=some (.row 5 false [tv]):=by
 have:=a8 A (XA A.length tv L kvs) 0
 rw [Ss] at this
 rw [this]; unfold XA; split <;> rfl
theorem xa2:(A++XA A.length tv L kvs)[A.length+2]?=some (.map (kvs.map kvA)):=by
 rw [a8]; unfold XA; split <;> rfl
theorem C8 (h:aR) {xs:List bc} (hx:xs≠[]) (h1:L=[]->xs.length=1) (hb:L.length+xs.length<=1000) :
  H60 h [.fs 4 (xs.map cJ),.ptr (A.length+1) 0 0] (A++XA A.length tv L kvs)=some (.tup [],A++XA A.length tv (L++xs) kvs):=by
 have hxl:0<xs.length:=TM.2 hx
 have hne:L++xs≠[]:=by simp [hx]
 by_cases hL:L=[]
 ·subst hL
  have hx1:=h1 rfl
  have e0:A++XA A.length tv [] kvs=A++[.row 5 false [tv],.row 1 false [.nilS],.map (kvs.map kvA)]:=by unfold XA; rw [RL rfl]
  have e9:A++XA A.length tv ([]++xs) kvs=A++[.row 5 false [tv],.row 1 false [.sl (A.length+3) 0 xs.length],.map (kvs.map kvA),.row 4 false (xs.map cJ)]:=by
   unfold XA; rw [RN (by simpa using hx),S7,hx1]; rfl
  rw [e0,e9]
  obtain ⟨A0,hA0⟩:∃X,X=A++[Ent.row 5 false [tv],.row 1 false [.nilS],.map (kvs.map kvA)]:=⟨_,rfl⟩
  have hl:A0.length=A.length+3:=by rw [hA0]; simp
  have l1:af false 1 A0 (.ptr (A.length+1) 0 0)=some .nilS:=by
   have:A0[A.length+1]?=some (.row 1 false [.nilS]):=by rw [hA0,a8]; rfl
   simp only [af,this]; rfl
  have a1:aK 4 32 A0 .nilS (.fs 4 (xs.map cJ))=some (.sl (A.length+3) 0 xs.length,A0++[.row 4 false (xs.map cJ)]):=by
   simp only [aK,dc,RR]
   rw [RN (by omega),RL ⟨by omega,by omega,by omega⟩,hl]
  have s1:aC 1 (A0++[.row 4 false (xs.map cJ)]) (.ptr (A.length+1) 0 0) (.sl (A.length+3) 0 xs.length)=some (A++[.row 5 false [tv],.row 1 false [.sl (A.length+3) 0 xs.length],.map (kvs.map kvA),.row 4 false (xs.map cJ)]):=by
   have e:A0++[Ent.row 4 false (xs.map cJ)]=A++[.row 5 false [tv],.row 1 false [.nilS],.map (kvs.map kvA),.row 4 false (xs.map cJ)]:=by rw [hA0,RX]; rfl
   rw [e]
   have:(A++[Ent.row 5 false [tv],.row 1 false [.nilS],.map (kvs.map kvA),.row 4 false (xs.map cJ)])[A.length+1]?=some (.row 1 false [.nilS]):=by rw [a8]; rfl
   simp only [aC,this]
   simp [AV.solid,cellsOf,bq]
  rw [<-hA0]
  unfold H60
  rw [aX _ _ rfl]
  simp [LN,l1,a1,s1,-af,-aC]
 ·have hlz:L.length≠0:=fun e=>hL (Si.1 e)
  have e0:A++XA A.length tv L kvs=A++[.row 5 false [tv],.row 1 false [.sl (A.length+3) 0 L.length],.map (kvs.map kvA),.row 4 (decide (1<L.length)) (L.map cJ)]:=by unfold XA; rw [RN hL]
  have e9:A++XA A.length tv (L++xs) kvs=A++[.row 5 false [tv],.row 1 false [.sl (A.length+3) 0 (L.length+xs.length)],.map (kvs.map kvA),.row 4 true (L.map cJ++xs.map cJ)]:=by
   unfold XA; rw [RN hne,R8,RJ (by omega),ST]
  rw [e0,e9]
  obtain ⟨A0,hA0⟩:∃X,X=A++[Ent.row 5 false [tv],.row 1 false [.sl (A.length+3) 0 L.length],.map (kvs.map kvA),.row 4 (decide (1<L.length)) (L.map cJ)]:=⟨_,rfl⟩
  have l1:af false 1 A0 (.ptr (A.length+1) 0 0)=some (.sl (A.length+3) 0 L.length):=by
   have:A0[A.length+1]?=some (.row 1 false [.sl (A.length+3) 0 L.length]):=by rw [hA0,a8]; rfl
   simp only [af,this]; rfl
  have r3:A0[A.length+3]?=some (.row 4 (decide (1<L.length)) (L.map cJ)):=by rw [hA0,a8]; rfl
  have a1:aK 4 32 A0 (.sl (A.length+3) 0 L.length) (.fs 4 (xs.map cJ))=some (.sl (A.length+3) 0 (L.length+xs.length),A0.set (A.length+3) (.row 4 true (L.map cJ++xs.map cJ))):=by
   simp only [aK,dc,RR,r3]
   rw [RL ⟨trivial,by omega,by omega,by omega⟩,RL ⟨trivial,trivial,hlz⟩]
  have eS:A0.set (A.length+3) (.row 4 true (L.map cJ++xs.map cJ))=A++[.row 5 false [tv],.row 1 false [.sl (A.length+3) 0 L.length],.map (kvs.map kvA),.row 4 true (L.map cJ++xs.map cJ)]:=by
   rw [hA0,R9 _ _ (by omega),Sp]; rfl
  have s1:aC 1 (A0.set (A.length+3) (.row 4 true (L.map cJ++xs.map cJ))) (.ptr (A.length+1) 0 0) (.sl (A.length+3) 0 (L.length+xs.length))=some (A++[.row 5 false [tv],.row 1 false [.sl (A.length+3) 0 (L.length+xs.length)],.map (kvs.map kvA),.row 4 true (L.map cJ++xs.map cJ)]):=by
   rw [eS]
   have:(A++[Ent.row 5 false [tv],.row 1 false [.sl (A.length+3) 0 L.length],.map (kvs.map kvA),.row 4 true (L.map cJ++xs.map cJ)])[A.length+1]?=some (.row 1 false [.sl (A.length+3) 0 L.length]):=by rw [a8]; rfl
   simp only [aC,this]
   simp [AV.solid,cellsOf,bq]
  rw [<-hA0]
  unfold H60
  rw [aX _ _ rfl]
  simp [LN,l1,a1,s1,-af,-aC]
theorem HA (k v:Int):bz (A++XA A.length tv L kvs) (.map (A.length+2)) (.int .i64 k) (.int .i64 v)=some (A++XA A.length tv L (kvU k v kvs)):=by
 rw [map_set xa2]
 congr 1
 rw [R9 _ _ (by omega),Sp]
 unfold XA
 split <;> rfl
theorem sR (hc:(chv=.nilS\/(∃e l,chv=.fs e l))\/∃a b c,chv=.sl a b c):af true 5 (A++XA A.length (ay T chv) L kvs) (.ptr A.length 0 0)=some (ay T chv) /\
  aa 0 (A++XA A.length (ay T chv) L kvs) (.ptr A.length 0 0)=some (.ptr A.length 0 0)/\af false 1 (A++XA A.length (ay T chv) L kvs) (.ptr A.length 0 0)=some chv /\
  aa 3 (A++XA A.length (ay T chv) L kvs) (.ptr A.length 0 0)=some (.ptr A.length 0 3)/\af false 1 (A++XA A.length (ay T chv) L kvs) (.ptr A.length 0 3)=some (.int .i64 T.travel):=by
 have h:=xa0 (A:=A) (tv:=ay T chv) (L:=L) (kvs:=kvs)
 refine ⟨?_,?_,?_,?_,?_⟩
 ·simp only [af,h]; rfl
 ·simp only [aa,h]; rfl
 ·simp only [af,h]
  rcases hc with (rfl | ⟨e,l,rfl⟩) | ⟨a,b,c,rfl⟩ <;> rfl
 ·simp only [aa,h]; rfl
 ·simp only [af,h]; rfl
end
theorem _root_.Go.Proofs.YtfkcoekicjjndaaGreat.cK.form (h:cK A e a xs):(a=.nilS\/(∃e l,a=.fs e l))\/∃x y z,a=.sl x y z:=by
 rcases h with (⟨rfl,_⟩ | rfl) | ⟨id,off,gr,es,rfl,_⟩
 ·exact .inl (.inl rfl)
 ·exact .inl (.inr ⟨_,_,rfl⟩)
 ·exact .inr ⟨_,_,_,rfl⟩
end Tr
end Go.Proofs.YtfkcoekicjjndaaGreat
