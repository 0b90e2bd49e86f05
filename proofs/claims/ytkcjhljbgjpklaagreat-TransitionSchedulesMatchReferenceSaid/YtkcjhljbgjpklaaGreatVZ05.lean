import Derived.Test.YtkcjhljbgjpklaaGreatVZ04
import Derived.Test.YtkcjhljbgjpklaaGreatChecked
import Derived.KernelRfl
set_option maxRecDepth 100000
set_option maxHeartbeats 4000000
noncomputable section
namespace Go.Proofs.YtkcjhljbgjpklaaGreat
open Tryz (prog)
variable {A B:ac} {o xs l:List Int} {chv d2 v1 d7 d8 d3 v4 v5 v0 ov v6 d9 d6 b d0 v3 d4 d5 d10 d14 d15 d19 a d1 v2 v7 d12 d13 d20 d21 d25 v11 d16 d17 d18 v chF:AV} {p n hi:Int} {op fuel id i np cp ep j:Nat} {E:Env} {ll:List (List Int)} {s:Option (Int × List Int)} {pl:List (Nat × List Int)} {g:Bool}
namespace Cy
open Go
def Pos (l:List bq) (p:Int):Prop:=∃(u:Int) (xs:List gW),xh l u xs u/\0<mI p xs
theorem um {l:List bq} {x:gW} (h:x∈num l):jK l (x.2:Int)=x.1/\0<=(x.2:Int)/\(x.2:Int)<=(l.length:Int)-1:=by
 obtain ⟨hi,he⟩:=nq h
 refine ⟨?_,by omega,by omega⟩
 unfold jK
 rw [SM,Sr,Sq hi]
 exact he
theorem Gb {l:List bq}:∀ {xs:List gW} {u v s t:Int},xh l u xs v->exL p l (xs.map fun y=>(y.2:Int)) u s t=some (s+mI p xs,t+o5 xs)
 | [],u,v,s,t,_=>by simp [exL,mI,o5]
 | x :: r,u,v,s,t,⟨h1,h2,h3⟩=>by
  obtain ⟨e,_⟩:=um h1
  simp only [Tw,exL,e,SA h2]
  rw [Gb h3]
  simp only [mI,o5,Tw,UL]
  congr 2 <;> omega
theorem vi {l:List bq}:∀ {xs:List gW} {u v:Int} (h:xs≠[]),xh l u xs v->(xs.getLast h).1.t=v/\xs.getLast h∈num l
 | [x],u,v,_,⟨h1,h2,h3⟩=>⟨h3,h1⟩
 | x :: y :: r,u,v,_,⟨h1,h2,h3⟩=>by
  rw [List.getLast_cons (by simp)]
  exact vi (by simp) h3
theorem BZ {l:List bq} {u:Int} {xs:List gW} (h:xh l u xs u) (h1:1<=xs.length) (h2:xs.length<=200):exM p l (xs.map fun y=>(y.2:Int))=some (mI p xs,o5 xs):=by
 have hne:xs≠[]:=fun e=>by rw [e] at h1; simp at h1
 have hall:∀x∈xs,x∈num l:=by
  have:∀ {ys:List gW} {a b:Int},xh l a ys b->∀x∈ys,x∈num l:=by
   intro ys
   induction ys with
   | nil=>intro _ _ _ x hx; cases hx
   | cons y r ih=>
    rintro a b ⟨k1,_,k3⟩ x hx
    rcases Tj.1 hx with rfl | hx
    ·exact k1
    ·exact ih k3 x hx
  exact this h
 unfold exM
 rw [SA ⟨by simpa using ⟨h1,h2⟩,fun x hx=>by
  obtain ⟨y,hy,rfl⟩:=SU.1 hx
  exact (um (hall y hy)).2⟩]
 obtain ⟨e1,e2⟩:=vi hne h
 have:(xs.map fun y=>(y.2:Int)).getLastD 0=((xs.getLast hne).2:Int):=by
  rw [List.getLastD_eq_getLast?,List.getLast?_map,List.getLast?_eq_some_getLast hne]; rfl
 rw [this,(um e2).1,e1,Gb h]
 simp
theorem vg {p:Int} {l:List bq} (hv:∀x∈l,okA n x) {s:List Int} (h:lE (lar p l) s):¬ Pos l p:=by
 rintro ⟨u,xs,h1,h2⟩
 obtain ⟨k1,k2⟩:=RJ (p:=p) hv h1
 have:=mJ h k1
 omega
theorem kf {n:Nat} {l:List bq} (hv:∀x∈l,okA n x):∀a∈lar p l,a.1<n/\a.2.1<n:=fun a ha=>by
 obtain ⟨x,hx,rfl⟩:=SU.1 ha
 obtain ⟨q1,q2,_⟩:=hv x hx
 simp only; omega
section
variable {n:Nat} {p:Int} {l:List bq} (hr:bS n l p)
include hr
theorem nu:(cD (lar p l) n).2=true↔¬ Pos l p:=by
 have hv:=hr.1.2.2
 have hn:=hr.1.1
 constructor
 ·intro h
  exact vg hv ((ow (kf hv)).2.2.2.1 h)
 ·intro h
  rw [qA (kf hv),<-yM hv (by omega) hr.2]
  cases hc:uh p l n with
  | none=>rfl
  | some res=>
   obtain ⟨u,xs,_,k2,_,_,k5⟩:=yL hv (by omega) hr.2 hc
   exact absurd ⟨u,xs,k2,k5⟩ h
theorem Ce (h:¬ (cD (lar p l) n).2=true):∃(res:List Int) (u:Int) (xs:List gW),uh p l n=some res/\res=xs.map (fun y=>(y.2:Int))/\xh l u xs u/\1<=xs.length/\xs.length<=32/\0<mI p xs/\exM p l res=some (mI p xs,o5 xs):=by
 have hv:=hr.1.2.2
 have hn:=hr.1.1
 rw [qA (kf hv),<-yM hv (by omega) hr.2] at h
 cases hc:uh p l n with
 | none=>exact absurd hc h
 | some res=>
  obtain ⟨u,xs,k1,k2,k3,k4,k5⟩:=yL hv (by omega) hr.2 hc
  exact ⟨res,u,xs,rfl,k1,k2,k3,by omega,k5,by rw [k1]; exact BZ k2 k3 (by omega)⟩
end
theorem Bv {n:Int} {l:List bq} (hn:n<=32) (hp:cA p) (hv:∀x∈l,okA n x):∀ {xs:List gW} {u v:Int},xh l u xs v->(-(3000000*(xs.length:Int))<=mI p xs/\mI p xs<=3000000*xs.length)/\(-(2*(xs.length:Int))<=o5 xs/\o5 xs<=2*xs.length)
 | [],_,_,_=>by simp [mI,o5]
 | x :: r,u,v,⟨h1,h2,h3⟩=>by
  have h4:=Bv hn hp hv h3
  obtain ⟨q1,q2,q3,q4⟩:=uQ hv h1
  have hle:=gA (n:=32) (a:=x.1) ⟨by omega,by omega,q3,q4⟩ hp
  simp only [mI,o5,Tw,UL,Tn] at h4 ⊢
  omega
def smL (n:Nat) (l:List bq) (hi:Int):Nat->Int->Option Int
 | 0,_=>none
 | m+1,p=>open Classical in if p<=hi/\bS n l p then
   (if (cD (lar p l) n).2=true then some p
    else if ((exM p l ((uh p l n).getD [])).getD (0,0)).2<=0 then none
    else smL n l hi m (p+(((exM p l ((uh p l n).getD [])).getD (0,0)).1+((exM p l ((uh p l n).getD [])).getD (0,0)).2-1).tdiv ((exM p l ((uh p l n).getD [])).getD (0,0)).2))
  else none
def smM (n:Int) (l:List bq) (lo hi:Int):Option Int:=if cA hi then smL n.toNat l hi (hi-lo+2).toNat lo else none
theorem xO {s t:Int} (hs:0<s) (ht:0<t):1<=(s+t-1).tdiv t/\(s+t-1).tdiv t<=s/\((s+t-1).tdiv t-1)*t<s/\s<=(s+t-1).tdiv t*t:=by
 rw [Int.tdiv_eq_ediv_of_nonneg (by omega)]
 have h1:=Int.ediv_mul_add_emod (s+t-1) t
 have h2:=Int.emod_nonneg (s+t-1) (show t≠0 by omega)
 have h3:=Int.emod_lt_of_pos (s+t-1) ht
 obtain ⟨d,hd⟩:∃d,d=(s+t-1) / t:=⟨_,rfl⟩
 rw [<-hd] at h1 ⊢
 have h4:1<=d:=by
  rcases Int.lt_or_le d 1 with h | h
  ·have:d*t<=0:=Int.mul_nonpos_of_nonpos_of_nonneg (by omega) (by omega)
   omega
  ·exact h
 have h5:(d-1)*t=d*t-t:=by rw [Int.sub_mul]; omega
 refine ⟨h4,?_,by omega,by omega⟩
 rcases Int.lt_or_le s d with h | h
 ·have:s*t<=(d-1)*t:=Int.mul_le_mul_of_nonneg_right (by omega) (by omega)
  have h6:s*1<=s*t:=Int.mul_le_mul_of_nonneg_left (by omega) (by omega)
  omega
 ·exact h
theorem uP {l:List bq} {q:Int} {u:Int} {xs:List gW} (h:xh l u xs u) (hq:0<mI p xs-(q-p)*o5 xs):Pos l q:=by
 refine ⟨u,xs,h,?_⟩
 rw [Bu] at hq ⊢
 have:(q-p)*o5 xs=q*o5 xs-p*o5 xs:=by rw [Int.sub_mul]
 omega
theorem tK {n:Nat} {l:List bq} (hhi:cA hi):∀(m:Nat) (p:Int),hi-p+1<m ->
  (∀r,smL n l hi m p=some r->p<=r/\r<=hi/\bS n l r/\¬ Pos l r/\∀q,p<=q->q<r->Pos l q)/\(smL n l hi m p=none->bS n l p->∀q,p<=q->q<=hi->Pos l q)
 | 0,p,hm=>⟨fun r h=>(by cases h),fun _ _ q h1 h2=>by omega⟩
 | m+1,p,hm=>by
  unfold smL
  by_cases hp:p<=hi/\bS n l p
  rotate_left
  ·rw [SD hp]
   exact ⟨fun r h=>(by cases h),fun _ h q h1 h2=>absurd ⟨by omega,h⟩ hp⟩
  rw [SA hp]
  by_cases hl:(cD (lar p l) n).2=true
  ·rw [SA hl]
   refine ⟨fun r h=>?_,fun h=>by cases h⟩
   injection h with h; subst h
   exact ⟨TY _,hp.1,hp.2,(nu hp.2).1 hl,fun q h1 h2=>by omega⟩
  rw [SD hl]
  obtain ⟨res,u,xs,k1,k2,k3,k4,k5,k6,k7⟩:=Ce hp.2 hl
  rw [k1,S9,k7,S9]
  simp only
  by_cases ht:o5 xs<=0
  ·rw [SA ht]
   refine ⟨fun r h=>(by cases h),fun _ _ q h1 h2=>uP k3 (p:=p) ?_⟩
   have:(q-p)*o5 xs<=0:=Int.mul_nonpos_of_nonneg_of_nonpos (by omega) ht
   omega
  rw [SD ht]
  obtain ⟨d1,d2,d3,d4⟩:=xO k6 (show 0<o5 xs by omega)
  obtain ⟨d,hd⟩:∃d,d=(mI p xs+o5 xs-1).tdiv (o5 xs):=⟨_,rfl⟩
  rw [<-hd] at d1 d2 d3 d4 ⊢
  have hbelow:∀q,p<=q->q<p+d->Pos l q:=fun q h1 h2=>uP k3 (p:=p) (by
   have:(q-p)*o5 xs<=(d-1)*o5 xs:=Int.mul_le_mul_of_nonneg_right (by omega) (by omega)
   omega)
  obtain ⟨i1,i2⟩:=tK hhi m (p+d) (by omega)
  constructor
  ·intro r h
   obtain ⟨j1,j2,j3,j4,j5⟩:=i1 r h
   refine ⟨by omega,j2,j3,j4,fun q h1 h2=>?_⟩
   by_cases hq:q<p+d
   ·exact hbelow q h1 hq
   ·exact j5 q (by omega) h2
  ·intro h _ q h1 h2
   by_cases hq:q<p+d
   ·exact hbelow q h1 hq
   ·have hR:bS n l (p+d):=⟨hp.2.1,by
     have:=hp.2.2
     unfold cA at *
     omega⟩
    exact i2 h hR q (by omega) h2
open Go
def ey (n:Int) (l:List bq) (p:Int) (c:List Int):Prop:=bS n l p/\∃s t,exM p l c=some (s,t)/\0<s
open Classical in
def M21:aU:=fun args=>match args with
 | [.int .i64 n,a,.int .i64 p,b]=>match bT a,gC b with
  | some l,some s=>some (.bool (decide (ey n l p s)))
  | _,_=>none
 | _=>none
def NA:List (FuncId × aJ):=[(51,cU 4 M25),(53,aE 4 M40)]
@[simp] theorem PV:aD NA 51=some (cU 4 M25):=rfl
@[simp] theorem PU:aD NA 53=some (aE 4 M40):=rfl
theorem Hw:∀f M,aD NA f=some M->au prog GC f M:=ag (au.of_pureF tH 4) (ag (au.of_pure p8 4) aB)
open Classical in
theorem J9:aw prog GC 56 M21:=by
 refine aw.of_ev (E:=aq GC NA) (ax Hw) rfl Sj Ge 1 ?_
 intro args r h
 unfold M21 at h
 split at h
 rotate_left
 ·cases h
 rename_i n a p b
 split at h
 rotate_left
 ·cases h
 rename_i l s hl hs
 injection h with h; subst h
 refine ⟨0,?_⟩
 obtain ⟨hb,_,hsl⟩:=eJ hs
 have f1:∀A n,frz A n a=a:=fun A n=>dX hl A n
 have f2:∀A n,frz A n b=b:=fun A n=>hb.frz n
 have f4:=oz hs
 have m1:M25 [.z n,a,.z p]=some (if bS n l p then .tup [du n.toNat p l,.t] else .tup [.nilP,.f]):=by simp only [M25,hl,Th]
 rw [aO _ _ rfl]
 by_cases hr:bS n l p
 rotate_left
 ·rw [SD hr] at m1
  rw [Ss (show ¬ ey n l p s from fun h=>hr h.1)]
  simp [Jr,f1,m1,aM,aV,-frz]
 rw [SA hr] at m1
 obtain ⟨m,rfl⟩:∃m:Nat,n=(m:Int):=⟨n.toNat,by have:=hr.1.1; omega⟩
 rw [SM] at m1
 have m40:=zd hr hb hsl
 obtain ⟨W1,O,hW⟩:∃W1 O,du m p l=.fp [.z (m:Int),W1,O]:=⟨_,_,rfl⟩
 rw [hW] at m1 m40
 have hfw:∀B,frz B 4 (.fp [.z (m:Int),W1,O])=.fp [.z (m:Int),W1,O]:=fun _=>rfl
 have hnr:bR 4 (.fp [.z (m:Int),W1,O])=true:=rfl
 cases he:exM p l s with
 | none=>
  rw [he] at m40
  rw [Ss (show ¬ ey m l p s from fun h=>by
   obtain ⟨_,x,y,h,_⟩:=h
   rw [he] at h; cases h)]
  simp only [exT,Option.getD_none,Option.isSome_none] at m40
  simp [Jr,f1,f2,m1,m40,hfw,f4,aM,aV,-frz]
 | some st=>
  obtain ⟨x,y⟩:=st
  rw [he] at m40
  simp only [exT,S9,Option.isSome_some] at m40
  have b1:af .gtr (.z x) (.z 0)=some (.bool (decide (x > 0))):=by simp [af]
  have e:decide (ey m l p s)=decide (x > 0):=by
   rw [T4,S6,S6]
   constructor
   ·rintro ⟨_,a',b',h,h2⟩
    rw [he] at h
    injection h with h
    injection h with h h'
    omega
   ·intro h
    exact ⟨hr,x,y,he,h⟩
  rw [e]
  obtain ⟨d,hd⟩:∃d,d=decide (x > 0):=⟨_,rfl⟩
  rw [<-hd] at b1 ⊢
  simp [Jr,f1,f2,m1,m40,hfw,f4,b1,aM,aV,-frz,-af]
def BN:List (FuncId × aJ):=[(51,cU 4 M25),(52,cU 4 M26),(54,aE 4 M27),(53,aE 4 M40),(50,aE 4 M41)]
@[simp] theorem PP:aD BN 51=some (cU 4 M25):=rfl
@[simp] theorem PO:aD BN 52=some (cU 4 M26):=rfl
@[simp] theorem PN:aD BN 54=some (aE 4 M27):=rfl
@[simp] theorem PM:aD BN 53=some (aE 4 M40):=rfl
@[simp] theorem PL:aD BN 50=some (aE 4 M41):=rfl
theorem Hu:∀f M,aD BN f=some M->au prog GC f M:=ag (au.of_pureF tH 4) (ag (au.of_pureF AJ 4) (ag (au.of_pure si 4) (ag (au.of_pure p8 4) (ag (au.of_pure p7 4) aB))))
def smT (r:Option Int):AV:=.tup [.z (r.getD 0),.bool r.isSome]
open Classical in
theorem Fu (fuel:Nat) {l:List bq} (ha:bT a=some l) (n:Int) (hhi:cA hi):∀(m:Nat) (p:Int),0<m->hi-p+1<m ->
  match smL n.toNat l hi m p with
  | some q=>∃v7 v8 v9 v10 v11 v12 v13 v14 v15 v16,bG (evC (aq GC BN) fuel iy) jZ m (pX (.z n) a (.z hi) (.z p)) []=some (.ret [.z n,a,.u,.z hi,.z q,.t,.z q,v7,v8,v9,v10,v11,v12,v13,v14,v15,v16] [])
  | none=>∃v6 v7 v8 v9 v10 v11 v12 v13 v14 v15 v16,bG (evC (aq GC BN) fuel iy) jZ m (pX (.z n) a (.z hi) (.z p)) []=some (.exit 0 [.z n,a,.u,.z hi,.u,.u,v6,v7,v8,v9,v10,v11,v12,v13,v14,v15,v16] [])
 | 0,p,h0,hm=>by omega
 | m+1,p,h0,hm=>by
  have f1:∀A n,frz A n a=a:=fun A n=>dX ha A n
  have m1:M25 [.z n,a,.z p]=some (if bS n l p then .tup [du n.toNat p l,.t] else .tup [.nilP,.f]):=by simp only [M25,ha,Th]
  have b1:af .leq (.z p) (.z hi)=some (.bool (decide (p<=hi))):=by simp [af]
  unfold smL
  rw [UB rfl]
  by_cases hp:p<=hi
  rotate_left
  ·rw [SD (fun h=>hp h.1)]
   rw [Ss hp] at b1
   refine ⟨.z p,.u,.u,.u,.u,.u,.u,.f,.u,.u,.u,?_⟩
   simp [iy,b1,-af]
  rw [Su hp] at b1
  by_cases hr:bS n l p
  rotate_left
  ·rw [SD (fun h=>hr (by
    have h2:=h.2
    have h3:=h2.1.1
    have:((n.toNat:Nat):Int)=n:=by omega
    rw [this] at h2; exact h2))]
   rw [SD hr] at m1
   refine ⟨.z p,.nilP,.f,.u,.u,.u,.u,.t,.t,.u,.u,?_⟩
   simp [iy,b1,m1,f1,aM,-frz,-af]
  rw [SA hr] at m1
  obtain ⟨k,rfl⟩:∃k:Nat,n=(k:Int):=⟨n.toNat,by have:=hr.1.1; omega⟩
  rw [SM] at m1 ⊢
  rw [SA ⟨hp,hr⟩]
  have m2:=tx hr
  have m3:=tw hr
  obtain ⟨W1,O,hW⟩:∃W1 O,du k p l=.fp [.z (k:Int),W1,O]:=⟨_,_,rfl⟩
  have hfw:∀B,frz B 4 (.fp [.z (k:Int),W1,O])=.fp [.z (k:Int),W1,O]:=fun _=>rfl
  have hnr:bR 4 (.fp [.z (k:Int),W1,O])=true:=rfl
  by_cases hok:(cD (lar p l) k).2=true
  ·rw [SA hok]
   rw [hok] at m2
   rw [hW] at m1 m2
   refine ⟨.fp [.z (k:Int),W1,O],.t,.t,.u,.u,.u,.t,.f,.t,.u,?_⟩
   obtain ⟨S,hS⟩:∃S,S=slA 1 (ak (cD (lar p l) k).1):=⟨_,rfl⟩
   rw [<-hS] at m2
   simp [iy,b1,m1,m2,f1,hfw,aM,-frz,-af]
  rw [SD hok]
  obtain ⟨res,u,xs,k1,k2,k3,k4,k5,k6,k7⟩:=Ce hr hok
  have hbd:=Bv (n:=(k:Int)) (by have:=hr.1.1; omega) hr.2 hr.1.2.2 k3
  have m4:=zd hr (aZ 1 (ak res)) (by rw [k2]; simp; omega)
  rw [k1,S9] at m3
  rw [k7] at m4
  rw [k1,S9,k7,S9]
  simp only [exT,S9,Option.isSome_some] at m4
  simp only
  rw [Bool.not_eq_true] at hok
  rw [hok] at m2
  rw [hW] at m1 m2 m3 m4
  obtain ⟨S,hS⟩:∃S,S=slA 1 (ak (cD (lar p l) k).1):=⟨_,rfl⟩
  rw [<-hS] at m2
  have hnc:∀n,bR n (slA 1 (ak res))=true:=fun n=>Bf n 1 _
  have hfc:∀A n,frz A n (slA 1 (ak res))=slA 1 (ak res):=fun A n=>xo A n 1 _
  obtain ⟨C,hC⟩:∃C,C=slA 1 (ak res):=⟨_,rfl⟩
  rw [<-hC] at m3 m4 hnc hfc
  obtain ⟨s,hs⟩:∃s,s=mI p xs:=⟨_,rfl⟩
  obtain ⟨t,ht⟩:∃t,t=o5 xs:=⟨_,rfl⟩
  rw [<-hs,<-ht] at m4 hbd ⊢
  rw [<-hs] at k6
  have b2:af .leq (.z t) (.z 0)=some (.bool (decide (t<=0))):=by simp [af]
  by_cases ht0:t<=0
  ·rw [SA ht0]
   rw [Su ht0] at b2
   refine ⟨.z p,.fp [.z (k:Int),W1,O],.t,.f,.z s,.z t,.u,.t,.f,.f,.t,?_⟩
   simp [iy,b1,b2,m1,m2,m3,m4,f1,hfw,hnc,hfc,aM,-frz,-af]
  rw [SD ht0]
  rw [Ss ht0] at b2
  obtain ⟨d1,d2,d3,d4⟩:=xO k6 (show 0<t by omega)
  have hper:=hr.2
  unfold cA at hper hhi
  have b3:af .add (.z s) (.z t)=some (.z (s+t)):=by
   simp only [af]; rw [SA trivial,eH (by unfold inI; omega)]
  have b4:af .sub (.z (s+t)) (.z 1)=some (.z (s+t-1)):=by
   simp only [af]; rw [SA trivial,eH (by unfold inI; omega)]
  have b5:af .quo (.z (s+t-1)) (.z t)=some (.z ((s+t-1).tdiv t)):=by
   simp only [af]; rw [SA trivial,SD (show ¬ t=0 by omega),eH (by unfold inI; omega)]
  obtain ⟨d,hd⟩:∃d,d=(s+t-1).tdiv t:=⟨_,rfl⟩
  rw [<-hd] at b5 d1 d2 ⊢
  have b6:af .add (.z p) (.z d)=some (.z (p+d)):=by
   simp only [af]; rw [SA trivial,eH (by unfold inI; omega)]
  have ih:=Fu fuel ha (k:Int) hhi m (p+d) (by omega) (by omega)
  rw [SM] at ih
  obtain ⟨p2,hp2⟩:∃p2,p2=p+d:=⟨_,rfl⟩
  rw [<-hp2] at b6 ih ⊢
  obtain ⟨st,hst⟩:∃st,st=s+t:=⟨_,rfl⟩
  rw [<-hst] at b3 b4 b5
  obtain ⟨st1,hst1⟩:∃st1,st1=st-1:=⟨_,rfl⟩
  rw [<-hst1] at b4 b5
  have hrun:run (aq GC BN) fuel [.code iy] (pX (.z (k:Int)) a (.z hi) (.z p)) []=some (.normal (pX (.z (k:Int)) a (.z hi) (.z p2)) []):=by
   simp [iy,b1,b2,b3,b4,b5,b6,m1,m2,m3,m4,f1,hfw,hnc,hfc,aM,-frz,-af]
  rw [hrun]
  exact ih
def M23:aU:=fun args=>match args with
 | [.int .i64 n,a,.int .i64 lo,.int .i64 hi]=>(bT a).map fun l=>smT (smM n l lo hi)
 | _=>none
theorem J8:aw prog GC 20 M23:=by
 refine aw.of_ev (E:=aq GC BN) (ax Hu) rfl (by kernel_rfl) L4 5 ?_
 intro args r h
 unfold M23 at h
 split at h
 rotate_left
 ·cases h
 rename_i n a lo hi
 simp only [SE] at h
 obtain ⟨l,hl,rfl⟩:=h
 obtain ⟨m,hm⟩:∃m,m=(hi-lo+2).toNat+1:=⟨_,rfl⟩
 have m1:M41 [.z hi]=some (.bool (decide (cA hi))):=rfl
 by_cases hp:cA hi
 rotate_left
 ·refine ⟨0,?_⟩
  rw [Ss hp] at m1
  rw [show smM n l lo hi=none from SD hp]
  rw [aO _ _ rfl]
  simp [KB,m1,smT]
 rw [Su hp] at m1
 rw [show smM n l lo hi=smL n.toNat l hi (hi-lo+2).toNat lo from SA hp]
 by_cases hz:(hi-lo+2).toNat=0
 ·
  refine ⟨1,?_⟩
  rw [hz]
  have b1:af .leq (.z lo) (.z hi)=some .f:=by simp [af]; omega
  have lp:bG (evC (aq GC BN) 1 iy) jZ 1 (pX (.z n) a (.z hi) (.z lo)) []=some (.exit 0 [.z n,a,.u,.z hi,.u,.u,.z lo,.u,.u,.u,.u,.u,.u,.f,.u,.u,.u] []):=by
   rw [UB rfl]
   simp [iy,b1,-af]
  rw [aO _ _ rfl]
  simp [KB,m1,BL lp,smL,smT]
 ·obtain ⟨F,hF⟩:∃F,F=(hi-lo+2).toNat:=⟨_,rfl⟩
  have hl23:=Fu F hl n hp F lo (by omega) (by omega)
  refine ⟨F,?_⟩
  rw [<-hF]
  rw [aO _ _ rfl]
  cases hs:smL n.toNat l hi F lo with
  | none=>
   rw [hs] at hl23
   obtain ⟨v6,v7,v8,v9,v10,v11,v12,v13,v14,v15,v16,lp⟩:=hl23
   simp [KB,m1,BL lp,smT]
  | some q=>
   rw [hs] at hl23
   obtain ⟨v7,v8,v9,v10,v11,v12,v13,v14,v15,v16,lp⟩:=hl23
   simp [KB,m1,BL lp,smT]
end Cy
namespace Clu
open Go
def oh:cJ:=⟨1,7,.r [.y 1 0,.u 2] (.seq (.r [.k 5 1,.H 40 0,.N 6 1] (.cond (.var 6) (.r [.u 2] .ret) .skip)) (.r [.d 0 1,.b 1 0,.s 1,.bf 3 1,.t 1 3 2] (.r [.c2 4 1] (.r [.qs 5 (.alloc 1 .nilF)] (.r [.qn (.makeFunc (.func 41) [] [.var 3,.var 4,.var 1,.var 5]),.t 1 5 0] (.r [.v 1 5,.qn (.buildSlice 1 [.cst (.z 0)]),.a9 0 1] (.r [.v 1 4,.c 2 0] .ret))))))),[.tmp 2]⟩
theorem oJ:aH prog Tryz.f18 1 [0,1,2,3,4,5,8] [] false ([],[])=some oh:=by kernel_rfl
theorem Gw:prog.funcs[18]?=some Tryz.f18:=by kernel_rfl
def sG:cJ:=⟨1,6,.r [.y 1 0,.g 2] (.r [.qs 3 (.alloc 1 .nilF),.qn (.store 1 (.var 3) (.fn 76))] (.r [.d 0 1,.b 1 0,.qn (.makeFunc (.func 78) [] [.var 3]),.B 77 1 2,.c 4 3] (.r [.v 1 3,.d 1 1,.b 1 1,.qn (.call (.tmp 0) [.tmp 2,.cst (.z 10000)]),.i 3,.qt (.load false 1 (.var 3)) 4,.R 2 1 4,.z 1 6 4,.cz 5 7 4,.q 4 8,.i 9,.qt (.load false 1 (.var 3)) 10,.R 3 1 10,.z 1 12 10,.cz 11 13 10,.q 10 14,.c 5 15] (.r [.a 4,.Q 0,.i 1,.l 5 2,.q 2 3,.i 4,.R 0 1 5,.z 1 6 5,.ah 7 5,.qt (.bin .geq (.tmp 8) (.cst (.z 1))) 5,.q 5 9,.i 10,.R 0 1 11,.z 1 12 11,.ah 13 11,.qt (.bin .leq (.tmp 14) (.cst (.z 4))) 11,.q 11 15,.i 16,.R 4 1 17,.z 1 18 17,.U 19 1 17,.c6 20 17,.C 4 1 21,.p 1 22 21,.qf (.bin .eql (.tmp 23) (.cst (.z 2))) 21,.b0 21 24 17,.q 17 25,.c 2 26] .ret)))),[.tmp 2]⟩
theorem vV:aH prog Tryz.f40 1 [0,1,2,3,4,5] [] true ([],[])=some sG:=by kernel_rfl
def iz:MC:=.r [.F 19 18 17] (.seq (.cond (.var 19) .skip (.exit 0)) (.seq (.seq (.block 1 (.r [.a 18,.M 1 16 18,.b 1 1,.c 8 0,.c 9 2] (.r [.a 9,.a 6,.qn (.build [.z 0,.z 0,.z 0,.z 0] [(0,(1,.tmp 0)),(2,(1,.tmp 1)),(3,(1,.cst (.z 1)))]),.a1 10 4,.t 4 10 2] (.seq (.r [.a 8,.h 0 1,.v 1 3,.s 2,.D 20 1 3] (.cond (.var 20) (.region [.v 1 3,.a 8,.h 1 1,.e 1 0 2,.b 1 3,.d 1 10,.A 1 5 4,.d 3 10,.az 1 7 0]) .skip)) (.seq (.r [.d 4 2,.b 1 0,.a6 1 2,.i 2,.C 1 10 3,.p 1 4 3,.n 9 3,.qf (.bin .add (.tmp 6) (.cst (.z 1))) 3,.bk 5 7 3,.x 21 3 8] (.cond (.var 21) (.region [.d 2 10,.b 1 0,.d 3 2,.b 1 2,.m 1 3,.d 2 10,.A 1 5 4]) .skip)) (.region [.k 4 10,.cd 0,.qn (.call (.fn 48) [.var 7,.tmp 1])])))))) (.kill [0,1,4,5,8,9,10,11,12,13,14,15,19,20,21,22,23,24,25])) (.region [.w 18 1,.c 18 0])))
def ot:MC:=.r [.F 25 24 23] (.seq (.cond (.var 25) .skip (.exit 2)) (.seq (.seq (.block 3 (.r [.a 24,.M 2 22 24,.K 2 1,.ag 13 2,.c 12 0,.t 2 13 2] (.r [.a 11,.v 1 3,.a 12,.h 2 1,.cn 0 1 3,.b1 14 3,.t 3 14 4] (.region [.d 0 14,.b 1 0,.d 1 14,.b 1 2,.a 6,.d 0 13,.b 1 5,.m 4 6,.d 2 14,.b 1 8,.W 1 3 7 9,.d 1 14,.b 1 11,.d 0 14,.b 1 13,.a 6,.d 0 13,.b 1 16,.m 15 17,.d 1 13,.b 1 19,.m 18 20,.bj 21,.d 2 14,.b 1 23,.bj 24,.W 12 14 22 25,.c0 10 26,.qn (.call (.fn 48) [.var 7,.tmp 27])])))) (.kill [0,1,2,4,5,8,9,10,12,13,14,15,16,17,18,19,20,21,25])) (.region [.w 24 1,.c 24 0])))
def j8:List Nat:=[0,1,4,5,8,9,10,11,12,13,14,15,19,20,21,22,23,24,25]
def j7:List Nat:=[0,1,2,4,5,8,9,10,12,13,14,15,16,17,18,19,20,21,25]
def DI:cJ:=⟨2,26,.r [.y 2 0,.y 3 1,.u 4,.f 5 0] (.seq (.r [.k 5 2,.H 18 0,.qn (.makeFunc (.func 45) [] [.var 3]),.B 44 1 2,.N 15 3] (.cond (.var 15) (.r [.u 4,.f 5 130] .ret) .skip)) (.r [.k 5 2,.H 47 0,.c 6 1] (.r [.c2 7 1] (.seq (.r [.ck 16 1 3,.ac 17 16,.f 18 0] (.seq (.block 0 (.loop j8 iz)) (.kill [0,1,4,5,8,9,10,11,12,13,14,15,16,17,18,19,20,21,22,23,24,25]))) (.r [.c5 49,.d 4 2,.b 1 1,.qn (.indexVal false 3 1 (.tmp 0) (.tmp 2)),.c 11 3] (.seq (.r [.d 0 2,.b4 22 1 0,.ac 23 22,.f 24 0] (.seq (.block 2 (.loop j7 ot)) (.kill [0,1,2,3,4,5,6,8,9,10,11,12,13,14,15,16,17,18,19,20,21,22,23,24,25]))) (.r [.v 1 7,.c 4 0,.f 5 0] .ret))))))),[.tmp 4,.tmp 5]⟩
abbrev pZ (v2 v3 v6 v7 v16 v17 v18:AV):List AV:=[.u,.u,v2,v3,.u,.u,v6,v7,.u,.u,.u,.u,.u,.u,.u,.u,v16,v17,v18,.u,.u,.u,.u,.u,.u,.u]
theorem CV {d11 v16 v17 v18 d22 d23 d24:AV}:clear j8 [d0,d1,v2,v3,d4,d5,v6,v7,d8,d9,d10,d11,d12,d13,d14,d15,v16,v17,v18,d19,d20,d21,d22,d23,d24,d25]=pZ v2 v3 v6 v7 v16 v17 v18:=by simp only [j8,clear,Ta,TJ,Tq,Tx]
theorem Ll {o:Out} {k:List KC} {d11 v16 v17 v18 d22 d23 d24:AV} (h:bG (evC E fuel iz) j8 fuel (pZ v2 v3 v6 v7 v16 v17 v18) A=some o) :
  run E fuel (.code (.loop j8 iz) :: k) [d0,d1,v2,v3,d4,d5,v6,v7,d8,d9,d10,d11,d12,d13,d14,d15,v16,v17,v18,d19,d20,d21,d22,d23,d24,d25] A=after E fuel k o:=aK j8 _ _ (by rw [CV]; exact h)
abbrev pY (v3 v6 v7 v11 v22 v23 v24:AV):List AV:=[.u,.u,.u,v3,.u,.u,v6,v7,.u,.u,.u,v11,.u,.u,.u,.u,.u,.u,.u,.u,.u,.u,v22,v23,v24,.u]
theorem CU {v22 v23 v24:AV}:clear j7 [d0,d1,d2,v3,d4,d5,v6,v7,d8,d9,d10,v11,d12,d13,d14,d15,d16,d17,d18,d19,d20,d21,v22,v23,v24,d25]=pY v3 v6 v7 v11 v22 v23 v24:=by simp only [j7,clear,Ta,TJ,Tq,Tx]
theorem Lk {o:Out} {k:List KC} {v22 v23 v24:AV} (h:bG (evC E fuel ot) j7 fuel (pY v3 v6 v7 v11 v22 v23 v24) A=some o) :
  run E fuel (.code (.loop j7 ot) :: k) [d0,d1,d2,v3,d4,d5,v6,v7,d8,d9,d10,v11,d12,d13,d14,d15,d16,d17,d18,d19,d20,d21,v22,v23,v24,d25] A=after E fuel k o:=aK j7 _ _ (by rw [CU]; exact h)
theorem Cu:aH prog Tryz.f19 2 [0,1,2,3,4,5,6,7,8,9,10,11,12,13,14,19,22,23,24,25,36,53,69,70,71,72] [49] true ([j8,j7],[j8,[0,1,4,5,8,9,10,11,12,13,14,15,16,17,18,19,20,21,22,23,24,25],j7,[0,1,2,3,4,5,6,8,9,10,11,12,13,14,15,16,17,18,19,20,21,22,23,24,25]])=some DI:=by kernel_rfl
def dL:MC:=.r [.F 14 13 12] (.seq (.cond (.var 14) .skip (.exit 0)) (.seq (.seq (.block 1 (.r [.M 1 11 13,.b 1 0,.c 6 1] (.r [.k 5 1,.a 6,.B 19 0 1,.i 2,.j 3 0,.j 3 1,.c 7 4,.i 5] (.r [.f 8 1000000] (.seq (.r [.d 0 4,.b 1 0,.al 15 1 0] (.cond (.var 15) (.region [.d 0 4,.b 1 0,.r 1 1,.c 8 2]) .skip)) (.seq (.r [.a 8,.aj 16 0 1] (.cond (.var 16) (.exit 0) .skip)) (.r [.a 6,.s 0,.a 7,.a 8,.qn (.call (.fn 20) [.tmp 1,.tmp 2,.cst (.z 1),.tmp 3]),.i 4,.j 5 0,.j 5 1,.c 9 6,.c 10 7] (.r [.am 17 10] (.cond (.var 17) (.region [.a 9,.a 6,.qn (.build [.z 0,.nilS,.nilS,.nilS] [(0,(1,.tmp 0)),(1,(1,.tmp 1))]),.a 7,.t 4 4 2,.c 5 3]) .skip))))))))) (.kill [0,3,6,7,8,9,10,14,15,16,17,18,19])) (.region [.w 13 1,.c 13 0])))
def eC:List Nat:=[0,3,6,7,8,9,10,14,15,16,17,18,19]
def uW:cJ:=⟨1,20,.r [.y 1 0,.aq 2 4,.f 3 0] (.r [.aq 4 4] (.r [.u 5] (.seq (.r [.k 5 1,.qs 11 (.call (.fn 18) [.tmp 0]),.ac 12 11,.f 13 0] (.seq (.block 0 (.loop eC dL)) (.kill [0,1,3,6,7,8,9,10,11,12,13,14,15,16,17,18,19]))) (.seq (.r [.d 0 4,.b 1 0,.ab 18 1 0] (.cond (.var 18) (.r [.qn (.build [.z 0,.nilS,.nilS,.nilS] []),.t 4 2 0,.f 3 130] .ret) .skip)) (.r [.d 1 4,.b 1 0,.s 1,.a 5,.d 0 4,.b 1 4,.L 21 2 3 5,.i 6,.j 7 0,.j 7 1,.j 7 2,.d 2 4,.A 1 11 8] (.seq (.r [.d 0 4,.b 1 0,.al 19 1 1] (.cond (.var 19) (.region [.d 1 4,.b 1 0,.s 1,.a 5,.d 0 4,.b 1 4,.r 5 1,.L 21 2 3 6,.i 7,.j 8 0,.j 8 1,.j 8 2,.d 3 4,.A 1 12 10]) .skip)) (.r [.k 4 4,.t 4 2 0,.f 3 0] .ret))))))),[.cell 2 true 4,.tmp 3]⟩
abbrev fX (v1 v2 v4 v5 v11 v12 v13:AV):List AV:=[.u,v1,v2,.u,v4,v5,.u,.u,.u,.u,.u,v11,v12,v13,.u,.u,.u,.u,.u,.u]
theorem q9 {v12 v13:AV}:clear eC [d0,v1,v2,d3,v4,v5,d6,d7,d8,d9,d10,v11,v12,v13,d14,d15,d16,d17,d18,d19]=fX v1 v2 v4 v5 v11 v12 v13:=rfl
theorem qD {o:Out} {k:List KC} {v12 v13:AV} (h:bG (evC E fuel dL) eC fuel (fX v1 v2 v4 v5 v11 v12 v13) A=some o) :
  run E fuel (.code (.loop eC dL) :: k) [d0,v1,v2,d3,v4,v5,d6,d7,d8,d9,d10,v11,v12,v13,d14,d15,d16,d17,d18,d19] A=after E fuel k o:=aK eC _ _ (by rw [q9]; exact h)
theorem vU:aH prog Tryz.f6 1 [0,1,2,3,4,5,7,8,10,11,12,14,15,16,17,28,33,42,50,66] [] true ([eC],[eC,[0,1,3,6,7,8,9,10,11,12,13,14,15,16,17,18,19]])=some uW:=by kernel_rfl
def uV:cJ:=⟨2,10,.r [.y 2 0,.y 3 1,.g 4] (.r [.k 5 2,.d 1 3,.b 1 1,.B 19 0 2,.i 3,.j 4 0,.j 4 1,.c 5 5,.c 6 6] (.r [.d 1 3,.b 1 0,.s 1,.c 7 2] (.seq (.seq (.block 0 (.r [.a 6,.qn (.bin .neq (.tmp 0) (.cst (.z 0))),.i 1,.C 0 3 2,.p 1 3 2,.bl 4 1 2,.I 2 5,.i 6,.C 0 3 7,.p 1 8 7,.Y 9 1000000 7,.I 7 10,.i 11,.n 7 12,.n 5 12,.C 0 3 12,.p 1 15 12,.C 2 3 12,.p 1 17 12,.qf (.call (.fn 55) [.tmp 13,.tmp 14,.tmp 16,.tmp 18]) 12,.G 19 12,.I 12 20,.c 8 21] (.cond (.var 8) (.r [.g 4] .ret) (.r [.d 0 3,.b 1 0,.a6 1 1,.c 9 2] (.cond (.var 9) (.r [.d 3 3,.b 1 0,.s 1,.a6 2 0,.c 4 3] .ret) .skip))))) (.kill [0,1,2,4,6,8,9])) (.r [.a 7,.a 5,.d 0 3,.b 1 2,.r 3 1,.d 3 3,.b 1 5,.X 56 0 1 4 6,.c 4 7] .ret)))),[.tmp 4]⟩
theorem vT:aH prog Tryz.f23 2 [0,1,2,3,4,5,6,7,18,41] [] true ([],[[0,1,2,4,6,8,9]])=some uV:=by kernel_rfl
def eM:MC:=.seq (.r [.a 6,.v 1 1,.aa 8 0 1] (.cond (.var 8) .skip (.exit 0))) (.seq (.seq (.block 1 (.r [.a 0,.a 6,.B 42 0 1,.Q 2,.i 3,.R 4 3 4,.z 1 5 4,.U 6 1 4,.c6 7 4,.n 6 8,.n 0 8,.ar 10 8,.qf (.bin .eql (.tmp 9) (.tmp 11)) 8,.b0 8 12 4,.af 9 4 13] (.cond (.var 9) (.regionD [] [.v 1 4,.a 0,.H 43 1,.a 6,.cu 3,.qn (.appendN 1 8 (.tmp 2) (.tmp 4)),.a9 0 5] [(0,2),(0,5)]) .skip))) (.kill [2,5,7,8,9])) (.region [.a 6,.h 0 1,.c 6 1]))
def eB:List Nat:=[2,5,7,8,9]
def tU:cJ:=⟨5,10,.seq (.r [.a 0,.s 0,.v 1 1,.h 2 1,.ap 7 1 3] (.cond (.var 7) (.r [.v 1 1,.h 0 1,.ad 1 1,.c 5 2] (.r [.a 5,.a 0,.qn (.copy 1 (.tmp 0) (.tmp 1))] (.r [.v 1 2,.a 5,.bg 1,.co 1 0 2,.t 1 2 3] .ret))) .skip)) (.r [.f 6 1] (.seq (.block 0 (.loop eB eM)) (.kill [0,1,2,3,4,5,6,7,8,9]))),[]⟩
abbrev i9 (v0 v1 v3 v4 v6:AV):List AV:=[v0,v1,.u,v3,v4,.u,v6,.u,.u,.u]
theorem q8:clear eB [v0,v1,d2,v3,v4,d5,v6,d7,d8,d9]=i9 v0 v1 v3 v4 v6:=rfl
theorem vq {o:Out} {k:List KC} (h:bG (evC E fuel eM) eB fuel (i9 v0 v1 v3 v4 v6) A=some o) :
  run E fuel (.code (.loop eB eM) :: k) [v0,v1,d2,v3,v4,d5,v6,d7,d8,d9] A=after E fuel k o:=aK eB _ _ (by rw [q8]; exact h)
theorem oI:aH prog Tryz.f41 5 [0,1,2,3,4,6,7,12,25,42] [] false ([eB],[eB,[0,1,2,3,4,5,6,7,8,9]])=some tU:=by kernel_rfl
theorem Gv:prog.funcs[41]?=some Tryz.f41:=by kernel_rfl
def w8:cJ:=⟨2,3,.r [.g 2] (.r [.a 0,.a 1,.B 25 0 1,.Z 2 0,.c 2 3] .ret),[.tmp 2]⟩
theorem vR:aH prog Tryz.f42 2 [0,1,4] [] true ([],[])=some w8:=by kernel_rfl
def z9:cJ:=⟨1,2,.r [.u 1] (.r [.a 0,.a 0,.s 1,.a 0,.s 3,.qn (.sliceM 1 (.tmp 0) none (.tmp 2) (.tmp 4)),.c 1 5] .ret),[.tmp 1]⟩
theorem s6:aH prog Tryz.f43 1 [0,2] [] true ([],[])=some z9:=by kernel_rfl
theorem JB:prog.funcs[43]?=some Tryz.f43:=by kernel_rfl
def ql:cJ:=⟨2,3,.r [.g 2] (.r [.a 0,.Z 0 0,.i 1,.l 0 2,.l 1 2,.a5 3 4 2,.q 2 5,.c 2 6] .ret),[.tmp 2]⟩
theorem s5:aH prog Tryz.f76 2 [0,1,4] [] true ([],[])=some ql:=by kernel_rfl
theorem JA:prog.funcs[76]?=some Tryz.f76:=by kernel_rfl
def zH:cJ:=⟨2,3,.r [.g 2] (.r [.a 0,.a 1,.B 97 0 1,.Z 2 0,.c 2 3] .ret),[.tmp 2]⟩
theorem vQ:aH prog Tryz.f77 2 [0,1,4] [] true ([],[])=some zH:=by kernel_rfl
def DH:cJ:=⟨2,4,.r [.y 2 0,.g 3] (.r [.v 1 1,.d 0 2,.b 1 1,.qn (.call (.tmp 0) [.tmp 2,.cst (.z 100000)]),.Q 3,.i 4,.ca 1 1 5,.C 1 2 5,.p 1 7 5,.qf (.call (.tmp 6) [.tmp 8,.cst (.z 100000)]) 5,.G 9 5,.I 5 10,.c 3 11] .ret),[.tmp 3]⟩
theorem Cm:aH prog Tryz.f78 2 [0,1,2,3] [] true ([],[])=some DH:=by kernel_rfl
def Bj:cJ:=⟨2,3,.r [.g 2] (.r [.a 0,.a 1,.B 79 0 1,.Z 2 0,.c 2 3] .ret),[.tmp 2]⟩
theorem vP:aH prog Tryz.f44 2 [0,1,4] [] true ([],[])=some Bj:=by kernel_rfl
def Bi:cJ:=⟨2,3,.r [.g 2] (.r [.a 0,.v 1 1,.B 46 0 1,.c 2 2] .ret),[.tmp 2]⟩
theorem vO:aH prog Tryz.f45 2 [0,1,3] [] true ([],[])=some Bi:=by kernel_rfl
def gc:MC:=.r [.F 7 6 5] (.seq (.cond (.var 7) .skip (.exit 0)) (.seq (.seq (.block 1 (.r [.a 6,.c 3 0] (.r [.a 0,.a 3,.e 1 0 1,.b 1 2,.a 1,.a 3,.e 1 4 5,.b 1 6,.a8 8 3 7] (.cond (.var 8) (.r [.g 2] .ret) .skip)))) (.kill [2,3,4,7,8])) (.region [.w 6 1,.c 6 0])))
def eV:List Nat:=[2,3,4,7,8]
def DG:cJ:=⟨2,9,.r [.g 2] (.seq (.r [.a 0,.s 0,.a 1,.s 2,.a8 4 1 3] (.cond (.var 4) (.r [.g 2] .ret) .skip)) (.seq (.r [.a 0,.bs 5 0,.f 6 0] (.seq (.block 0 (.loop eV gc)) (.kill [0,1,2,3,4,5,6,7,8]))) (.r [.J 2] .ret))),[.tmp 2]⟩
abbrev gN (v0 v1 v5 v6:AV):List AV:=[v0,v1,.u,.u,.u,v5,v6,.u,.u]
theorem q7:clear eV [v0,v1,d2,d3,d4,v5,v6,d7,d8]=gN v0 v1 v5 v6:=rfl
theorem vp {o:Out} {k:List KC} (h:bG (evC E fuel gc) eV fuel (gN v0 v1 v5 v6) A=some o) :
  run E fuel (.code (.loop eV gc) :: k) [v0,v1,d2,d3,d4,v5,v6,d7,d8] A=after E fuel k o:=aK eV _ _ (by rw [q7]; exact h)
theorem Cl:aH prog Tryz.f46 2 [0,1,4,5,10,12,13,14,24] [] true ([eV],[eV,[0,1,2,3,4,5,6,7,8]])=some DG:=by kernel_rfl
def Eq:cJ:=⟨1,4,.r [.y 1 0,.f 2 0] (.seq (.r [.d 4 1,.b 1 0,.ab 3 1 2] (.cond (.var 3) (.r [.d 1 1,.b 1 0,.d 2 1,.b 1 2,.m 1 3,.c 2 4] .ret) .skip)) (.r [.d 1 1,.b 1 0,.d 3 1,.b 1 2,.m 1 3,.d 2 1,.b 1 5,.m 4 6,.c 2 7] .ret)),[.tmp 2]⟩
theorem Ck:aH prog Tryz.f47 1 [0,1,2,5] [] true ([],[])=some Eq:=by kernel_rfl
def z8:cJ:=⟨2,2,.region [.a 0,.a 0,.S 1,.b 1 2,.a 1,.cp 4 3 4,.S 0,.A 1 6 5],[]⟩
theorem yN:aH prog Tryz.f48 2 [0,1] [] true ([],[])=some z8:=by kernel_rfl
theorem NK:prog.funcs[48]?=some Tryz.f48:=by kernel_rfl
def Ib:cJ:=⟨0,1,.r [.qs 0 (.allocA [.nilF,.nilF,.nilF])] (.r [.qn (.build [.nilF,.nilF,.nilF] [(1,(1,.fn 80)),(2,(1,.fn 81))]),.qn (.storeA 3 (.var 0) (.tmp 0))] .ret),[.cell 0 true 3]⟩
theorem Cj:aH prog Tryz.f49 0 [0] [] true ([],[])=some Ib:=by kernel_rfl
def kC:MC:=.r [.F 6 5 4] (.seq (.cond (.var 6) .skip (.exit 0)) (.seq (.seq (.block 1 (.r [.a 5,.c 3 0] (.r [.a 1,.a 0,.a 3,.e 1 1 2,.b 1 3,.ap 7 0 4] (.cond (.var 7) (.r [.a 3,.c 2 0] .ret) .skip)))) (.kill [2,3,6,7])) (.region [.w 5 1,.c 5 0])))
def jR:List Nat:=[2,3,6,7]
def Nn:cJ:=⟨2,8,.r [.f 2 0] (.seq (.r [.a 0,.bs 4 0,.f 5 0] (.seq (.block 0 (.loop jR kC)) (.kill [0,1,2,3,4,5,6,7]))) (.r [.f 2 (-1)] .ret)),[.tmp 2]⟩
abbrev nT (v0 v1 v4 v5:AV):List AV:=[v0,v1,.u,.u,v4,v5,.u,.u]
theorem FQ {o:Out} {k:List KC} (h:bG (evC E fuel kC) jR fuel (nT v0 v1 v4 v5) A=some o) :
  run E fuel (.code (.loop jR kC) :: k) [v0,v1,d2,d3,v4,v5,d6,d7] A=after E fuel k o:=aK jR _ _ h
theorem LN:aH prog Tryz.f25 2 [0,1,4,5,7,8,9,16] [] true ([jR],[jR,[0,1,2,3,4,5,6,7]])=some Nn:=by kernel_rfl
def kB:MC:=.r [.F 6 5 4] (.seq (.cond (.var 6) .skip (.exit 0)) (.seq (.seq (.block 1 (.r [.a 5,.c 3 0] (.r [.a 1,.a 0,.a 3,.e 2 1 2,.K 2 3,.ce 7 0 4] (.cond (.var 7) (.r [.a 3,.c 2 0] .ret) .skip)))) (.kill [2,3,6,7])) (.region [.w 5 1,.c 5 0])))
def jQ:List Nat:=[2,3,6,7]
def Nm:cJ:=⟨2,8,.r [.f 2 0] (.seq (.r [.a 0,.bs 4 0,.f 5 0] (.seq (.block 0 (.loop jQ kB)) (.kill [0,1,2,3,4,5,6,7]))) (.r [.f 2 (-1)] .ret)),[.tmp 2]⟩
abbrev nR (v0 v1 v4 v5:AV):List AV:=[v0,v1,.u,.u,v4,v5,.u,.u]
theorem FP {o:Out} {k:List KC} (h:bG (evC E fuel kB) jQ fuel (nR v0 v1 v4 v5) A=some o) :
  run E fuel (.code (.loop jQ kB) :: k) [v0,v1,d2,d3,v4,v5,d6,d7] A=after E fuel k o:=aK jQ _ _ h
theorem LM:aH prog Tryz.f97 2 [0,1,4,5,7,8,9,16] [] true ([jQ],[jQ,[0,1,2,3,4,5,6,7]])=some Nm:=by kernel_rfl
def kA:MC:=.r [.F 6 5 4] (.seq (.cond (.var 6) .skip (.exit 0)) (.seq (.seq (.block 1 (.r [.a 5,.c 3 0] (.r [.a 1,.a 0,.a 3,.e 1 1 2,.b 1 3,.ce 7 0 4] (.cond (.var 7) (.r [.a 3,.c 2 0] .ret) .skip)))) (.kill [2,3,6,7])) (.region [.w 5 1,.c 5 0])))
def jP:List Nat:=[2,3,6,7]
def Nl:cJ:=⟨2,8,.r [.f 2 0] (.seq (.r [.a 0,.bs 4 0,.f 5 0] (.seq (.block 0 (.loop jP kA)) (.kill [0,1,2,3,4,5,6,7]))) (.r [.f 2 (-1)] .ret)),[.tmp 2]⟩
abbrev nQ (v0 v1 v4 v5:AV):List AV:=[v0,v1,.u,.u,v4,v5,.u,.u]
theorem FO {o:Out} {k:List KC} (h:bG (evC E fuel kA) jP fuel (nQ v0 v1 v4 v5) A=some o) :
  run E fuel (.code (.loop jP kA) :: k) [v0,v1,d2,d3,v4,v5,d6,d7] A=after E fuel k o:=aK jP _ _ h
theorem LL:aH prog Tryz.f79 2 [0,1,4,5,7,8,9,16] [] true ([jP],[jP,[0,1,2,3,4,5,6,7]])=some Nl:=by kernel_rfl
def Nk:cJ:=⟨2,4,.r [.b1 2 3] (.seq (.r [.a 0,.a 1,.B 25 0 1,.a 0,.a 1,.r 4 1,.B 25 3 5,.D 3 2 6] (.cond (.var 3) (.r [.a 1,.r 0 1,.a 1,.bt 1 2,.t 3 2 3] .ret) .skip)) (.r [.a 1,.r 0 1,.a 1,.qn (.build [.z 0,.z 0,.z 0] [(0,(1,.tmp 1)),(1,(1,.tmp 2)),(2,(1,.cst (.z 0)))]),.t 3 2 3] .ret)),[.cell 2 true 3]⟩
theorem LK:aH prog Tryz.f80 2 [0,1,4,12] [] true ([],[])=some Nk:=by kernel_rfl
def N8:cJ:=⟨2,3,.r [.b1 2 3] (.r [.a 1,.a 1,.bt 0 1,.t 3 2 2] .ret),[.cell 2 true 3]⟩
theorem LJ:aH prog Tryz.f81 2 [0,1,4] [] true ([],[])=some N8:=by kernel_rfl
end Clu
namespace Clu
open Go
open Cy (GC je df bC bH cW aM aV az)
structure aW where
 ch:List (Int × Int)
 pick:Int
 place:Int
 travel:Int
 blades:Int
def chA (x:Int × Int):AV:=.agg [.z x.1,.z x.2]
def ai (T:aW) (chv:AV):AV:=.agg [chv,.z T.pick,.z T.place,.z T.travel,.z T.blades]
def lJ (x:Int × Int):Prop:=(0<=x.1/\x.1<=100000)/\0<=x.2/\x.2<=100000
instance (x:Int × Int):Decidable (lJ x):=inferInstanceAs (Decidable (_/\_))
def aT (T:aW):Prop:=(∀x∈T.ch,lJ x)/\((0<=T.pick/\T.pick<=10000)/\(0<=T.place/\T.place<=10000)/\(0<=T.travel/\T.travel<=10000))/\1<=T.ch.length/\T.ch.length<=4/\(T.blades=1\/T.blades=2)
instance (T:aW):Decidable (aT T):=inferInstanceAs (Decidable (_/\_))
def M38:aU:=fun args=>match args with
 | [.int .i64 n,.int .i64 hi]=>some (.bool (decide (0<=n) && decide (n<=hi)))
 | _=>none
theorem jm:aw prog GC 76 M38:=by
 refine aw.of_ev (E:=aq GC []) (ax aB) rfl JA s5 1 ?_
 intro args r h
 unfold M38 at h
 split at h
 ·rename_i n hi
  injection h with h; subst h
  refine ⟨0,?_⟩
  have b1:af .geq (.z n) (.z 0)=some (.bool (decide (0<=n))):=by simp [af]
  have b2:af .leq (.z n) (.z hi)=some (.bool (decide (n<=hi))):=by simp [af]
  obtain ⟨p,hp⟩:∃p,p=decide (0<=n):=⟨_,rfl⟩
  obtain ⟨q,hq⟩:∃q,q=decide (n<=hi):=⟨_,rfl⟩
  rw [<-hp] at b1 ⊢
  rw [<-hq] at b2 ⊢
  rw [aO _ _ rfl]
  cases p <;> simp [ql,b1,b2,-af]
 ·cases h
def DM:AV:=.func (.func 76) [] []
def Ae:List (FuncId × aJ):=[(76,aE 4 M38)]
@[simp] theorem OY:aD Ae 76=some (aE 4 M38):=rfl
theorem wF:∀f M,aD Ae f=some M->au prog GC f M:=ag (au.of_pure jm 4) aB
def M40:aU:=fun args=>evP (aq GC Ae) 0 DH 1 args
theorem p8:aw prog GC 78 M40:=aw.of_ev (E:=aq GC Ae) (ax wF) rfl (by kernel_rfl) Cm 1 fun _ _ h=>⟨0,h⟩
theorem Kz (x:Int × Int):(!decide (lJ x))=(!(decide (0<=x.1) && decide (x.1<=100000)) || !(decide (0<=x.2) && decide (x.2<=100000))):=by
 unfold lJ
 by_cases h1:0<=x.1 <;> by_cases h2:x.1<=100000 <;> by_cases h3:0<=x.2 <;> by_cases h4:x.2<=100000 <;> simp [h1,h2,h3,h4]
theorem zd (x:Int × Int):M40 [chA x,.fp [DM]]=some (.bool (!decide (lJ x))):=by
 obtain ⟨a,b⟩:=x
 rw [Kz]
 have m1:M38 [.z a,.z 100000]=some (.bool (decide (0<=a) && decide (a<=100000))):=rfl
 have m2:M38 [.z b,.z 100000]=some (.bool (decide (0<=b) && decide (b<=100000))):=rfl
 obtain ⟨p,hp⟩:∃p,p=(decide (0<=a) && decide (a<=100000)):=⟨_,rfl⟩
 obtain ⟨q,hq⟩:∃q,q=(decide (0<=b) && decide (b<=100000)):=⟨_,rfl⟩
 simp only
 rw [<-hp] at m1 ⊢
 rw [<-hq] at m2 ⊢
 unfold M40
 rw [aO _ _ rfl]
 cases p <;> simp [DH,chA,DM,m1,m2,frz]
def F6:List (FuncId × aJ):=[(78,aE 4 M40)]
@[simp] theorem Oz:aD F6 78=some (aE 4 M40):=rfl
theorem Hc:∀f M,aD F6 f=some M->au prog GC f M:=ag (au.of_pure p8 4) aB
def M65:aU:=fun args=>evP (aq GC F6) 300 Nm 1 args
theorem JW:aw prog GC 97 M65:=aw.of_ev (E:=aq GC F6) (ax Hc) rfl (by kernel_rfl) LM 1 fun _ _ h=>⟨300,h⟩
def gL (x:Int × Int):Bool:=!decide (lJ x)
def ee:AV:=.func (.func 78) [] [.fp [DM]]
theorem MP {xs:List (Int × Int)} (hb:SlA 2 (xs.map chA) b) (hl:xs.length<=200):M65 [b,ee]=some (.z (df gL xs)):=by
 have hlen:=hb.len
 rw [SF] at hlen
 have round:∀(A:ac) (i:Nat) (hi:i<xs.length),run (aq GC F6) 300 [.code kB] (nR b ee (.z (xs.length:Int)) (.z (i:Int))) A =
   if gL xs[i]=false then some (.normal (nR b ee (.z (xs.length:Int)) (.z ((i+1:Nat):Int))) A) else some (.ret [b,ee,.z (i:Int),.z (i:Int),.z (xs.length:Int),.z (i:Int),.t,.t] A):=fun A i hi=>by
  have he:(xs.map chA)[i]?=some (chA xs[i]):=by simp [hi]
  have x1:=hb.index (A:=A) he rfl (by decide) .i64
  have ld:ab true 2 A (.fp (cellsOf (chA xs[i])))=some (chA xs[i]):=rfl
  obtain ⟨C,hC⟩:∃C,C=cellsOf (chA xs[i]):=⟨_,rfl⟩
  rw [<-hC] at x1 ld
  have m:=zd xs[i]
  have b1:=be i xs.length .i64
  rw [Su hi] at b1
  have b3:=aP i (by omega)
  have fz:∀A,frz A 4 (chA xs[i])=chA xs[i]:=fun A=>rfl
  have fz2:∀A,frz A 4 (.fp [DM])=.fp [DM]:=fun A=>rfl
  obtain ⟨i1,hi1⟩:∃i1:Nat,i1=i+1:=⟨_,rfl⟩
  rw [<-hi1] at b3 ⊢
  obtain ⟨d,hd⟩:∃d,d=gL xs[i]:=⟨_,rfl⟩
  rw [show (!decide (lJ xs[i]))=d from hd.symm] at m
  rw [<-hd]
  obtain ⟨c,hc⟩:∃c,c=chA xs[i]:=⟨_,rfl⟩
  rw [<-hc] at m ld fz
  cases d with
  | false=>simp [kB,ee,x1,ld,m,fz,fz2,b1,b3,-frz,-af,-ae,-aj,-ab]
  | true=>simp [kB,ee,x1,ld,m,fz,fz2,b1,-frz,-af,-ae,-aj,-ab]
 unfold M65
 rw [aO _ _ rfl]
 rcases bU (E:=aq GC F6) (fuel:=300) (a:=kB) (mask:=jQ) (fun i=>nR b ee (.z (xs.length:Int)) (.z (i:Int))) (fun _=>[]) xs.length (fun i=>¬ ∀hi:i<xs.length,gL xs[i]=false)
  (oF:=fun i=>.ret [b,ee,.z (i:Int),.z (i:Int),.z (xs.length:Int),.z (i:Int),.t,.t] []) (oE:=.exit 0 ((nR b ee (.z (xs.length:Int)) (.z (xs.length:Int))).set 6 .f) [])
  (fun _=>rfl) (fun _ _ _ h=>by cases h) (fun _ _ h=>by cases h)
  (fun i hi hp=>by
   rw [round [] i hi]
   exact SA (SI.1 hp hi))
  (fun i hi hp=>by
   rw [round [] i hi]
   exact SD fun h=>hp fun _=>h)
  (by simp [kB]) (show xs.length<300 by omega) with ⟨i,hi,hp,hj,lp⟩ | ⟨hp,lp⟩
 ·have lp:bG (evC (aq GC F6) 300 kB) jQ 300 (nR b ee (.z (xs.length:Int)) (.z 0)) []=_:=lp
  have e:df gL xs=(i:Int):=bC hi (by
   cases h':gL xs[i] with
   | true=>rfl
   | false=>exact absurd (fun _=>h') hp) (fun j hj'=>SI.1 (hj j hj') (by omega))
  rw [e]
  simp [Nm,hlen,FP lp,-af,-aj]
 ·have lp:bG (evC (aq GC F6) 300 kB) jQ 300 (nR b ee (.z (xs.length:Int)) (.z 0)) []=_:=lp
  have e:df gL xs = -1:=bH fun i hi=>SI.1 (hp i hi) hi
  rw [e]
  simp [Nm,hlen,FP lp,-af,-aj]
def jj:List (FuncId × aJ):=[(97,aE 4 M65)]
@[simp] theorem O1:aD jj 97=some (aE 4 M65):=rfl
theorem wG:∀f M,aD jj f=some M->au prog GC f M:=ag (au.of_pure JW 4) aB
def M39:aU:=fun args=>evP (aq GC jj) 0 zH 1 args
theorem AF:aw prog GC 77 M39:=aw.of_ev (E:=aq GC jj) (ax wG) rfl (by kernel_rfl) vQ 1 fun _ _ h=>⟨0,h⟩
theorem MV {xs:List (Int × Int)} (hb:SlA 2 (xs.map chA) b) (hl:xs.length<=200):M39 [b,ee]=some (.bool (xs.any gL)):=by
 have h:=MP hb hl
 have b1:=je (df gL xs)
 rw [cW] at b1
 have f1:∀A n,frz A n b=b:=fun A n=>hb.frz n
 have f2:∀A,frz A 4 ee=ee:=fun A=>rfl
 obtain ⟨z,hz⟩:∃z,z=df gL xs:=⟨_,rfl⟩
 rw [<-hz] at h b1
 unfold M39
 rw [aO _ _ rfl]
 simp [zH,h,b1,f1,f2,aV,-af,-frz]
def BO:List (FuncId × aJ):=[(76,aE 4 M38),(77,aE 4 M39)]
@[simp] theorem Qp:aD BO 76=some (aE 4 M38):=rfl
@[simp] theorem Qo:aD BO 77=some (aE 4 M39):=rfl
theorem wK:∀f M,aD BO f=some M->au prog GC f M:=ag (au.of_pure jm 4) (ag (au.of_pure AF 4) aB)
def M16:aU:=fun args=>evP (aq GC BO) 0 sG 1 args
theorem n8:aw prog GC 40 M16:=aw.of_ev (E:=aq GC BO) (ax wK) rfl (by kernel_rfl) vV 1 fun _ _ h=>⟨0,h⟩
theorem GT (T:aW):decide (aT T)=(!(T.ch.any gL) && ((decide (0<=T.pick) && decide (T.pick<=10000)) && ((decide (0<=T.place) && decide (T.place<=10000)) && (decide (0<=T.travel) && decide (T.travel<=10000)))) && (decide (1<=T.ch.length) && (decide (T.ch.length<=4) && (decide (T.blades=1) || decide (T.blades=2))))):=by
 have e:(!(T.ch.any gL))=decide (∀x∈T.ch,lJ x):=by
  rw [T4,S6,Tt,Ui]
  unfold gL
  simp
 rw [e]
 rw [T4,S6]
 unfold aT
 simp only [S6,S4,Bool.or_eq_true]
 constructor
 ·rintro ⟨h1,⟨h2,h3,h4⟩,h5,h6,h7⟩
  exact ⟨⟨h1,h2,h3,h4⟩,h5,h6,h7⟩
 ·rintro ⟨⟨h1,h2,h3,h4⟩,h5,h6,h7⟩
  exact ⟨h1,⟨h2,h3,h4⟩,h5,h6,h7⟩
theorem oL {T:aW} (hb:SlA 2 (T.ch.map chA) chv) (hl:T.ch.length<=200):M16 [ai T chv]=some (.bool (decide (aT T))):=by
 obtain ⟨ch,pk,pl,tr,bl⟩:=T
 simp only at hb hl
 rw [GT]
 simp only
 have hlen:=hb.len
 rw [SF] at hlen
 have m:=MV hb hl
 have f1:∀A n,frz A n chv=chv:=fun A n=>hb.frz n
 have m1:M38 [.z pk,.z 10000]=some (.bool (decide (0<=pk) && decide (pk<=10000))):=rfl
 have m2:M38 [.z pl,.z 10000]=some (.bool (decide (0<=pl) && decide (pl<=10000))):=rfl
 have m3:M38 [.z tr,.z 10000]=some (.bool (decide (0<=tr) && decide (tr<=10000))):=rfl
 have b1:af .geq (.z (ch.length:Int)) (.z 1)=some (.bool (decide (1<=ch.length))):=by simp [af]; omega
 have b2:af .leq (.z (ch.length:Int)) (.z 4)=some (.bool (decide (ch.length<=4))):=by simp [af]; omega
 have b3:af .eql (.z bl) (.z 1)=some (.bool (decide (bl=1))):=by simp [af]
 have b4:af .eql (.z bl) (.z 2)=some (.bool (decide (bl=2))):=by simp [af]
 have fw:∀A:ac,A[1]?=some (.q [DM])->frz A 4 (.func (.func 78) [] [.p 1])=ee:=fun A hA=>by simp [frz,hA,ee,DM]
 have ld0:∀A:ac,A[0]?=some (.row 5 false [.agg [chv,.z pk,.z pl,.z tr,.z bl]])->ab false 1 A (.p 0)=some chv/\ab false 1 A (.ptr 0 0 1)=some (.z pk)/\ab false 1 A (.ptr 0 0 2)=some (.z pl)/\ab false 1 A (.ptr 0 0 3)=some (.z tr)/\ab false 1 A (.ptr 0 0 4)=some (.z bl):=fun A hA=>by
  refine ⟨?_,?_,?_,?_,?_⟩ <;> simp only [ab,hA] <;> rfl
 obtain ⟨l0,l1,l2,l3,l4⟩:=ld0 [.row 5 false [.agg [chv,.z pk,.z pl,.z tr,.z bl]],.q [DM]] rfl
 have fw':=fw [.row 5 false [.agg [chv,.z pk,.z pl,.z tr,.z bl]],.q [DM]] rfl
 rw [show ai ⟨ch,pk,pl,tr,bl⟩ chv=.agg [chv,.z pk,.z pl,.z tr,.z bl] from rfl]
 unfold DM at l0 l1 l2 l3 l4 fw'
 have l5:ab false 1 [.row 5 false [.agg [chv,.z pk,.z pl,.z tr,.z bl]],.q [.func (.func 76) [] []]] (.p 1)=some (.func (.func 76) [] []):=rfl
 obtain ⟨d0,h0⟩:∃d,d=ch.any gL:=⟨_,rfl⟩
 obtain ⟨d1,h1⟩:∃d,d=(decide (0<=pk) && decide (pk<=10000)):=⟨_,rfl⟩
 obtain ⟨d2,h2⟩:∃d,d=(decide (0<=pl) && decide (pl<=10000)):=⟨_,rfl⟩
 obtain ⟨d3,h3⟩:∃d,d=(decide (0<=tr) && decide (tr<=10000)):=⟨_,rfl⟩
 obtain ⟨d4,h4⟩:∃d,d=decide (1<=ch.length):=⟨_,rfl⟩
 obtain ⟨d5,h5⟩:∃d,d=decide (ch.length<=4):=⟨_,rfl⟩
 obtain ⟨d6,h6⟩:∃d,d=decide (bl=1):=⟨_,rfl⟩
 obtain ⟨d7,h7⟩:∃d,d=decide (bl=2):=⟨_,rfl⟩
 rw [<-h0] at m ⊢
 rw [<-h1] at m1 ⊢
 rw [<-h2] at m2 ⊢
 rw [<-h3] at m3 ⊢
 rw [<-h4] at b1 ⊢
 rw [<-h5] at b2 ⊢
 rw [<-h6] at b3 ⊢
 rw [<-h7] at b4 ⊢
 unfold M16
 rw [aO _ _ rfl]
 cases d1
 ·cases d0 <;> simp [sG,m,m1,f1,fw',l0,l1,l5,aM,aV,-frz,-af,-aj,-ab]
 cases d2
 ·cases d0 <;> simp [sG,m,m1,m2,f1,fw',l0,l1,l2,l5,aM,aV,-frz,-af,-aj,-ab]
 cases d3
 ·cases d0 <;> simp [sG,m,m1,m2,m3,f1,fw',l0,l1,l2,l3,l5,aM,aV,-frz,-af,-aj,-ab]
 cases d0
 rotate_left
 ·simp [sG,m,m1,m2,m3,f1,fw',l0,l1,l2,l3,l5,aM,aV,-frz,-af,-aj,-ab]
 cases d4
 ·simp [sG,m,m1,m2,m3,b1,hlen,f1,fw',l0,l1,l2,l3,l5,aM,aV,-frz,-af,-aj,-ab]
 cases d5
 ·simp [sG,m,m1,m2,m3,b1,b2,hlen,f1,fw',l0,l1,l2,l3,l5,aM,aV,-frz,-af,-aj,-ab]
 cases d6 <;> simp [sG,m,m1,m2,m3,b1,b2,b3,b4,hlen,f1,fw',l0,l1,l2,l3,l4,l5,aM,aV,-frz,-af,-aj,-ab]
end Clu
namespace Clu
open Go
open Cy (GC je df bC bH cW aM aV az)
theorem bu (a b:Int):af .eql (.z a) (.z b)=some (.bool (decide (a=b))):=by simp [af]
theorem cH (a b:Int):af .neq (.z a) (.z b)=some (.bool (decide (a≠b))):=by simp [af]
theorem aY {a b:Int} (h : -9223372036854775808<=a+b/\a+b<=9223372036854775807):af .add (.z a) (.z b)=some (.z (a+b)):=by
 simp only [af]; rw [SA trivial,eH h]
theorem bK {a b:Int} (h : -9223372036854775808<=a-b/\a-b<=9223372036854775807):af .sub (.z a) (.z b)=some (.z (a-b)):=by
 simp only [af]; rw [SA trivial,eH h]
theorem cr (a b:Int):af .leq (.z a) (.z b)=some (.bool (decide (a<=b))):=by simp [af]
theorem bP (a b:Int):af .lss (.z a) (.z b)=some (.bool (decide (a<b))):=by simp [af]
def M64:aU:=fun args=>evP (aq GC []) 300 Nn 1 args
theorem xR:aw prog GC 25 M64:=aw.of_ev (E:=aq GC []) (ax aB) rfl (by kernel_rfl) LN 1 fun _ _ h=>⟨300,h⟩
def isI (v x:Int):Bool:=decide (v=x)
theorem tu (hb:SlA 1 (ak xs) b) (hl:xs.length<=200) (v:Int):M64 [b,.z v]=some (.z (df (isI v) xs)):=by
 have hlen:=hb.len
 rw [az] at hlen
 have round:∀(A:ac) (i:Nat) (hi:i<xs.length),run (aq GC []) 300 [.code kC] (nT b (.z v) (.z (xs.length:Int)) (.z (i:Int))) A =
   if isI v xs[i]=false then some (.normal (nT b (.z v) (.z (xs.length:Int)) (.z ((i+1:Nat):Int))) A) else some (.ret [b,.z v,.z (i:Int),.z (i:Int),.z (xs.length:Int),.z (i:Int),.t,.t] A):=fun A i hi=>by
  have x1:=hb.int (A:=A) _ _ (Sq hi) .i64
  have m:=bu v xs[i]
  have b1:=be i xs.length .i64
  rw [Su hi] at b1
  have b3:=aP i (by omega)
  obtain ⟨i1,hi1⟩:∃i1:Nat,i1=i+1:=⟨_,rfl⟩
  rw [<-hi1] at b3 ⊢
  obtain ⟨d,hd⟩:∃d,d=isI v xs[i]:=⟨_,rfl⟩
  rw [show decide (v=xs[i])=d from hd.symm] at m
  rw [<-hd]
  cases d with
  | false=>simp [kC,x1,m,b1,b3,-af,-ae,-aj]
  | true=>simp [kC,x1,m,b1,-af,-ae,-aj]
 unfold M64
 rw [aO _ _ rfl]
 rcases bU (E:=aq GC []) (fuel:=300) (a:=kC) (mask:=jR) (fun i=>nT b (.z v) (.z (xs.length:Int)) (.z (i:Int))) (fun _=>[]) xs.length (fun i=>¬ ∀hi:i<xs.length,isI v xs[i]=false)
  (oF:=fun i=>.ret [b,.z v,.z (i:Int),.z (i:Int),.z (xs.length:Int),.z (i:Int),.t,.t] []) (oE:=.exit 0 ((nT b (.z v) (.z (xs.length:Int)) (.z (xs.length:Int))).set 6 .f) [])
  (fun _=>rfl) (fun _ _ _ h=>by cases h) (fun _ _ h=>by cases h)
  (fun i hi hp=>by
   rw [round [] i hi]
   exact SA (SI.1 hp hi))
  (fun i hi hp=>by
   rw [round [] i hi]
   exact SD fun h=>hp fun _=>h)
  (by simp [kC]) (show xs.length<300 by omega) with ⟨i,hi,hp,hj,lp⟩ | ⟨hp,lp⟩
 ·have lp:bG (evC (aq GC []) 300 kC) jR 300 (nT b (.z v) (.z (xs.length:Int)) (.z 0)) []=_:=lp
  have e:df (isI v) xs=(i:Int):=bC hi (by
   cases h':isI v xs[i] with
   | true=>rfl
   | false=>exact absurd (fun _=>h') hp) (fun j hj'=>SI.1 (hj j hj') (by omega))
  rw [e]
  simp [Nn,hlen,FQ lp,-af,-aj]
 ·have lp:bG (evC (aq GC []) 300 kC) jR 300 (nT b (.z v) (.z (xs.length:Int)) (.z 0)) []=_:=lp
  have e:df (isI v) xs = -1:=bH fun i hi=>SI.1 (hp i hi) hi
  rw [e]
  simp [Nn,hlen,FQ lp,-af,-aj]
def yB:List (FuncId × aJ):=[(25,aE 4 M64)]
@[simp] theorem O5:aD yB 25=some (aE 4 M64):=rfl
theorem wH:∀f M,aD yB f=some M->au prog GC f M:=ag (au.of_pure xR 4) aB
def M35:aU:=fun args=>evP (aq GC yB) 0 w8 1 args
theorem sg:aw prog GC 42 M35:=aw.of_ev (E:=aq GC yB) (ax wH) rfl (by kernel_rfl) vR 1 fun _ _ h=>⟨0,h⟩
theorem Ja (v:Int) (xs:List Int):xs.any (isI v)=decide (v∈xs):=by
 rw [T4,List.any_eq_true,S6]
 unfold isI
 constructor
 ·rintro ⟨x,hx,h⟩
  rw [UI h]; exact hx
 ·exact fun h=>⟨v,h,by simp⟩
theorem ze (hb:SlA 1 (ak xs) b) (hl:xs.length<=200) (v:Int):M35 [b,.z v]=some (.bool (decide (v∈xs))):=by
 have h:=tu hb hl v
 have b1:=je (df (isI v) xs)
 rw [cW,Ja] at b1
 have f1:∀A n,frz A n b=b:=fun A n=>hb.frz n
 obtain ⟨z,hz⟩:∃z,z=df (isI v) xs:=⟨_,rfl⟩
 rw [<-hz] at h b1
 obtain ⟨d,hd⟩:∃d,d=decide (v∈xs):=⟨_,rfl⟩
 rw [<-hd] at b1 ⊢
 unfold M35
 rw [aO _ _ rfl]
 simp [w8,h,b1,f1,aM,aV,-af,-frz]
def M43:aU:=fun args=>evP (aq GC []) 300 DG 1 args
theorem J7:aw prog GC 46 M43:=aw.of_ev (E:=aq GC []) (ax aB) rfl (by kernel_rfl) Cl 1 fun _ _ h=>⟨300,h⟩
theorem y8 {ys:List Int} {a:AV} (ha:SlA 1 (ak xs) a) (hb:SlA 1 (ak ys) b) (hl:xs.length<=200):M43 [a,b]=some (.bool (decide (xs=ys))):=by
 have hla:=ha.len
 have hlb:=hb.len
 rw [az] at hla hlb
 have b0:af .neq (.z (xs.length:Int)) (.z (ys.length:Int))=some (.bool (decide (xs.length≠ys.length))):=by
  rw [cH]
  congr 2
  exact TO.2 (by omega)
 by_cases h0:xs.length≠ys.length
 ·rw [Su h0] at b0
  rw [Ss (fun h=>h0 (by rw [h]))]
  unfold M43
  rw [aO _ _ rfl]
  simp [DG,hla,hlb,b0,-af,-aj]
 have h0:xs.length=ys.length:=SI.1 h0
 rw [Ss (by omega)] at b0
 have round:∀(A:ac) (i:Nat) (hi:i<xs.length),run (aq GC []) 300 [.code gc] (gN a b (.z (xs.length:Int)) (.z (i:Int))) A =
   if xs[i]=ys[i]'(by omega) then some (.normal (gN a b (.z (xs.length:Int)) (.z ((i+1:Nat):Int))) A) else some (.ret [a,b,.f,.z (i:Int),.u,.z (xs.length:Int),.z (i:Int),.t,.t] A):=fun A i hi=>by
  have x1:=ha.int (A:=A) _ _ (Sq hi) .i64
  have x2:=hb.int (A:=A) _ _ (Sq (show i<ys.length by omega)) .i64
  have m:=cH xs[i] (ys[i]'(by omega))
  have b1:=be i xs.length .i64
  rw [Su hi] at b1
  have b3:=aP i (by omega)
  obtain ⟨i1,hi1⟩:∃i1:Nat,i1=i+1:=⟨_,rfl⟩
  rw [<-hi1] at b3 ⊢
  by_cases hd:xs[i]=ys[i]'(by omega)
  ·rw [Ss (by simpa using hd)] at m
   rw [SA hd]
   simp [gc,x1,x2,m,b1,b3,-af,-ae,-aj]
  ·rw [Su (by simpa using hd)] at m
   rw [SD hd]
   simp [gc,x1,x2,m,b1,-af,-ae,-aj]
 unfold M43
 rw [aO _ _ rfl]
 rcases bU (E:=aq GC []) (fuel:=300) (a:=gc) (mask:=eV) (fun i=>gN a b (.z (xs.length:Int)) (.z (i:Int))) (fun _=>[]) xs.length (fun i=>¬ ∀(hi:i<xs.length),xs[i]=ys[i]'(by omega))
  (oF:=fun i=>.ret [a,b,.f,.z (i:Int),.u,.z (xs.length:Int),.z (i:Int),.t,.t] []) (oE:=.exit 0 ((gN a b (.z (xs.length:Int)) (.z (xs.length:Int))).set 7 .f) [])
  (fun _=>q7) (fun _ _ _ h=>by cases h) (fun _ _ h=>by cases h)
  (fun i hi hp=>by
   rw [round [] i hi]
   exact SA (SI.1 hp hi))
  (fun i hi hp=>by
   rw [round [] i hi]
   exact SD fun h=>hp fun _=>h)
  (by simp [gc]) (show xs.length<300 by omega) with ⟨i,hi,hp,hj,lp⟩ | ⟨hp,lp⟩
 ·have lp:bG (evC (aq GC []) 300 gc) eV 300 (gN a b (.z (xs.length:Int)) (.z 0)) []=_:=lp
  rw [Ss (fun h=>hp (fun _=>by subst h; rfl))]
  simp [DG,hla,hlb,b0,vp lp,-af,-aj]
 ·have lp:bG (evC (aq GC []) 300 gc) eV 300 (gN a b (.z (xs.length:Int)) (.z 0)) []=_:=lp
  rw [Su (TB h0 fun i h1 h2=>SI.1 (hp i h1) h1)]
  simp [DG,hla,hlb,b0,vp lp,-af,-aj]
def H36:aJ:=fun _=>bZ (aq GC []) 0 z9
theorem lR:au prog GC 43 H36:=(cj (ax aB) rfl JB s6 bO.nil).y
theorem Nb (h:bj) {n:Nat} {gr:Bool} {es:List AV} (hA:A[id]?=some (.row 1 gr es)):H36 h [.sl id 0 n] A=some (.csl id 0 n,A):=by
 unfold H36
 rw [bo _ _ rfl]
 have e:fg 1 A none (.z (n:Int)) (.z (n:Int)) (.sl id 0 n)=some (.csl id 0 n):=by
  simp [fg,cB,hA,eF,loB,hiB]
 simp [z9,e,-fg,dI]
def M44:aU:=fun args=>evP (aq GC []) 0 Eq 1 args
theorem AE:aw prog GC 47 M44:=aw.of_ev (E:=aq GC []) (ax aB) rfl (by kernel_rfl) Ck 1 fun _ _ h=>⟨0,h⟩
def dt (T:aW):Int:=if T.blades=2 then T.pick+T.place else T.pick+T.travel+T.place
theorem MU {T:aW} (chv:AV) (h:aT T):M44 [ai T chv]=some (.z (dt T)):=by
 obtain ⟨_,⟨h1,h2,h3⟩,_⟩:=h
 obtain ⟨ch,pk,pl,tr,bl⟩:=T
 simp only at h1 h2 h3
 have b0:=bu bl 2
 have b1:=aY (a:=pk) (b:=pl) (by omega)
 have b2:=aY (a:=pk) (b:=tr) (by omega)
 have b3:=aY (a:=pk+tr) (b:=pl) (by omega)
 rw [show ai ⟨ch,pk,pl,tr,bl⟩ chv=.agg [chv,.z pk,.z pl,.z tr,.z bl] from rfl]
 have l:∀A:ac,A[0]?=some (.row 5 false [.agg [chv,.z pk,.z pl,.z tr,.z bl]])->ab false 1 A (.ptr 0 0 1)=some (.z pk)/\ab false 1 A (.ptr 0 0 2)=some (.z pl)/\ab false 1 A (.ptr 0 0 3)=some (.z tr)/\ab false 1 A (.ptr 0 0 4)=some (.z bl):=fun A hA=>by
  refine ⟨?_,?_,?_,?_⟩ <;> simp only [ab,hA] <;> rfl
 obtain ⟨l1,l2,l3,l4⟩:=l [.row 5 false [.agg [chv,.z pk,.z pl,.z tr,.z bl]]] rfl
 obtain ⟨s1,hs1⟩:∃s,s=pk+pl:=⟨_,rfl⟩
 obtain ⟨s2,hs2⟩:∃s,s=pk+tr:=⟨_,rfl⟩
 obtain ⟨s3,hs3⟩:∃s,s=s2+pl:=⟨_,rfl⟩
 rw [<-hs1] at b1
 rw [<-hs2] at b2 b3
 rw [<-hs3] at b3
 have e:dt ⟨ch,pk,pl,tr,bl⟩=if bl=2 then s1 else s3:=by
  unfold dt; simp only; rw [hs3,hs2,hs1]
 rw [e]
 unfold M44
 rw [aO _ _ rfl]
 by_cases hb:bl=2
 ·rw [Su hb] at b0
  rw [SA hb]
  simp [Eq,b0,b1,l1,l2,l4,-af,-ab]
 ·rw [Ss hb] at b0
  rw [SD hb]
  simp [Eq,b0,b2,b3,l1,l2,l3,l4,-af,-ab]
end Clu
namespace Clu
open Go
open Cy (GC je df bC bH cW aM aV az)
def ext (n:Nat) (one:Bool):Nat->List Int->List (List Int)
 | 0,_=>[]
 | k+1,b=>if b.length=n+1 then [b] else (List.range' 1 n).flatMap fun (i:Nat)=>if !decide ((i:Int)∈b) && (one || decide (i=b.length)) then ext n one k (b++[(i:Int)]) else []
def aN (T:aW):List (List Int):=if aT T then ext T.ch.length (decide (T.blades=1)) (T.ch.length+1) [0] else []
theorem uc (n:Nat) (one:Bool) (hn:n<=4):∀(k:Nat) (b:List Int),(ext n one (k+1) b).length<=4 ^ k\/b.length+k<n+1
 | 0,b=>by
  unfold ext
  split
  ·left; simp
  ·by_cases h:b.length+0<n+1
   ·exact .inr h
   ·left
    rw [List.flatMap_eq_nil_iff.2 fun i _=>by split <;> rfl]
    simp
 | k+1,b=>by
  by_cases h:b.length+(k+1)<n+1
  ·exact .inr h
  left
  rw [ext]
  split
  ·have:1<=4 ^ (k+1):=Nat.one_le_pow _ _ (by omega)
   simpa using this
  ·have key:∀l:List Nat,(l.flatMap fun (i:Nat)=>if !decide ((i:Int)∈b) && (one || decide (i=b.length)) then ext n one (k+1) (b++[(i:Int)]) else []).length<=l.length*4 ^ k:=fun l=>by
    induction l with
    | nil=>simp
    | cons i l ih=>
     rw [Uj,SW,Tn,SP,US]
     have:(if !decide ((i:Int)∈b) && (one || decide (i=b.length)) then ext n one (k+1) (b++[(i:Int)]) else []).length<=4 ^ k:=by
      split
      ·rcases uc n one hn k (b++[(i:Int)]) with h1 | h1
       ·exact h1
       ·simp at h1; omega
      ·simp
     omega
   refine TK (key _) ?_
   rw [List.length_range',Nat.pow_succ,Vk]
   exact Nat.mul_le_mul_left _ hn
def ju:Ent->Prop
 | .row _ _ (e :: _)=>(∀a b c,e≠.sl a b c)/\e≠.nilS
 | _=>False
def kj (A B:ac):Prop:=A.length<=B.length/\∀(j:Nat) (e:Ent),A[j]?=some e->ju e->B[j]?=some e
theorem kj.refl (A:ac):kj A A:=⟨SK _,fun _ _ h _=>h⟩
theorem kj.trans {C:ac} (h:kj A B) (k:kj B C):kj A C:=⟨TK h.1 k.1,fun j e h1 h2=>k.2 j e (h.2 j e h1 h2) h2⟩
theorem kj.app (A:ac) (X:ac):kj A (A++X):=⟨by simp,fun j e h _=>by
 have:=(Sp.1 h).1
 rw [Sy this]; exact h⟩
theorem ir (h:l≠[]) (s:Nat) (g:Bool):ju (.row s g (ak l)):=by
 cases l with
 | nil=>exact absurd rfl h
 | cons x r=>simp [ju,ak]
theorem jw (s:Nat) (g:Bool) (a b c:Nat) (r:List AV):¬ ju (.row s g (.sl a b c :: r)):=fun h=>h.1 a b c rfl
def qb (x:Nat × List Int):AV:=.sl x.1 0 x.2.length
def GA (A:ac) (op:Nat) (v:AV) (pl:List (Nat × List Int)):Prop:=
 (∀x∈pl,x.2≠[]/\A[x.1]?=some (.q (ak x.2)))/\((v=.nilS/\pl=[])\/∃id gr,v=.sl id 0 pl.length/\id≠op/\pl≠[]/\A[id]?=some (.row 1 gr (pl.map qb)))
def lD (A:ac) (op:Nat) (ll:List (List Int)):Prop:=∃v pl,pl.map (·.2)=ll/\A[op]?=some (.q [v])/\GA A op v pl
theorem lD.app (h:lD A op ll) (X:ac):lD (A++X) op ll:=by
 obtain ⟨v,pl,h1,h2,h3,h4⟩:=h
 have st:=(kj.app A X).2
 have hk:∀(j:Nat) (e:Ent),A[j]?=some e->(A++X)[j]?=some e:=fun j e h=>by
  rw [Sy (Sp.1 h).1]; exact h
 refine ⟨v,pl,h1,hk _ _ h2,fun x hx=>⟨(h3 x hx).1,hk _ _ (h3 x hx).2⟩,?_⟩
 rcases h4 with h4 | ⟨id,gr,h4,h5,h6,h7⟩
 ·exact .inl h4
 ·exact .inr ⟨id,gr,h4,h5,h6,hk _ _ h7⟩
theorem jN (h:A[op]?=some (.q [v])) (hv:v=.nilS\/∃a b c,v=.sl a b c):ab false 1 A (.p op)=some v:=by
 rcases hv with rfl | ⟨a,b,c,rfl⟩ <;> simp [h]
theorem GA.form (h:GA A op v pl):v=.nilS\/∃a b c,v=.sl a b c:=by
 rcases h.2 with h | ⟨id,gr,h,_⟩
 ·exact .inl h.1
 ·exact .inr ⟨_,_,_,h⟩
theorem lD.add (h:lD A op ll) (hl:l≠[]) (hb:ll.length<=100000) {r y:Nat} (hr:A[r]?=some (.q (ak l))) (hy:A[y]?=some (.q [.sl r 0 l.length])) (hyo:y≠op) :
  ∃v id n A3,A[op]?=some (.q [v])/\(v=.nilS\/∃a b c,v=.sl a b c)/\aL 1 24 A v (.sl y 0 1)=some (.sl id 0 n,A3)/\A3[op]?=some (.q [v]) /\
   lD (A3.set op (.q [.sl id 0 n])) op (ll++[l])/\kj A (A3.set op (.q [.sl id 0 n])):=by
 obtain ⟨v,pl,h1,h2,h3⟩:=h
 have hf:=h3.form
 obtain ⟨h3,h4⟩:=h3
 have hsrc:a8 1 A (.sl y 0 1)=some [.sl r 0 l.length]:=by simp [a8,hy]
 have hop:op<A.length:=(Sp.1 h2).1
 have hnp:¬ ju (.q [v]):=by
  rcases hf with rfl | ⟨a,b,c,rfl⟩
  ·exact fun h=>h.2 rfl
  ·exact jw _ _ _ _ _ _
 have hne:∀j (m:List Int),m≠[]->A[j]?=some (.q (ak m))->j≠op:=fun j m hm hj e=>by
  subst e
  rw [h2] at hj
  injection hj with hj
  exact hnp (hj ▸ ir hm 1 false)
 have hll:pl.length=ll.length:=by rw [<-h1]; simp
 rcases h4 with ⟨rfl,rfl⟩ | ⟨id,gr,rfl,hid,hpl,hrow⟩
 ·have ho:(A++[Ent.q [AV.sl r 0 l.length]])[op]?=some (.q [.nilS]):=by rw [Sy hop]; exact h2
  refine ⟨.nilS,A.length,1,A++[.q [.sl r 0 l.length]],h2,.inl rfl,?_,ho,?_,?_⟩
  ·unfold aL; rw [hsrc]; simp
  ·have hset:∀j,j≠op->((A++[Ent.q [AV.sl r 0 l.length]]).set op (.q [.sl A.length 0 1]))[j]?=(A++[Ent.q [AV.sl r 0 l.length]])[j]?:=fun j hj=>Sz (fun e=>hj e.symm)
   refine ⟨.sl A.length 0 1,[(r,l)],by rw [<-h1]; rfl,by rw [SG (by simp; omega)],fun x hx=>?_,.inr ⟨A.length,false,rfl,by omega,by simp,?_⟩⟩
   ·rw [SY] at hx
    subst hx
    refine ⟨hl,?_⟩
    rw [hset _ (hne _ _ hl hr),Sy (Sp.1 hr).1]
    exact hr
   ·rw [hset _ (by omega)]
    simp [qb]
  ·refine ⟨by simp,fun j e hj he=>?_⟩
   have:j≠op:=fun e'=>by
    subst e'; rw [h2] at hj; injection hj with hj; exact hnp (hj ▸ he)
   rw [Sz (fun e'=>this e'.symm),Sy (Sp.1 hj).1]
   exact hj
 ·have hidl:id<A.length:=(Sp.1 hrow).1
  have hlen:0<pl.length:=TI.2 hpl
  have hnp2:¬ ju (.row 1 gr (pl.map qb)):=by
   cases pl with
   | nil=>exact absurd rfl hpl
   | cons x r=>exact jw _ _ _ _ _ _
  have hnid:∀j (m:List Int),m≠[]->A[j]?=some (.q (ak m))->j≠id:=fun j m hm hj e=>by
   subst e
   rw [hrow] at hj
   injection hj with hj
   exact hnp2 (hj ▸ ir hm 1 false)
  refine ⟨.sl id 0 pl.length,id,pl.length+1,A.set id (.row 1 true (pl.map qb++[.sl r 0 l.length])),h2,.inr ⟨_,_,_,rfl⟩,?_,?_,?_,?_⟩
  ·have hz:pl.length≠0:=by omega
   have hb2:(pl.length+1)*24<=140737488355328:=by omega
   unfold aL; rw [hsrc]; simp [hrow,hz,hb2]
  ·rw [Sz hid]; exact h2
  ·have hset:∀j,j≠op->j≠id->((A.set id (Ent.row 1 true (pl.map qb++[AV.sl r 0 l.length]))).set op (.q [.sl id 0 (pl.length+1)]))[j]?=A[j]?:=fun j hj hj2=>by
    rw [Sz (fun e=>hj e.symm),Sz (fun e=>hj2 e.symm)]
   refine ⟨.sl id 0 (pl.length+1),pl++[(r,l)],by rw [<-h1]; simp,by rw [SG (by simpa using hop)],fun x hx=>?_,.inr ⟨id,true,by simp,hid,by simp,?_⟩⟩
   ·rcases Uk.1 hx with hx | hx
    ·have:=h3 x hx
     exact ⟨this.1,by rw [hset _ (hne _ _ this.1 this.2) (hnid _ _ this.1 this.2)]; exact this.2⟩
    ·rw [SY] at hx
     subst hx
     exact ⟨hl,by rw [hset _ (hne _ _ hl hr) (hnid _ _ hl hr)]; exact hr⟩
   ·rw [Sz (fun e=>hid e.symm),SG hidl,TD]
    rfl
  ·refine ⟨by simp,fun j e hj he=>?_⟩
   have n1:j≠op:=fun e'=>by
    subst e'; rw [h2] at hj; injection hj with hj; exact hnp (hj ▸ he)
   have n2:j≠id:=fun e'=>by
    subst e'; rw [hrow] at hj; injection hj with hj; exact hnp2 (hj ▸ he)
   rw [Sz (fun e=>n1 e.symm),Sz (fun e=>n2 e.symm)]
   exact hj
end Clu
namespace Clu
open Go
open Cy (GC je df bC bH cW aM aV az)
def od (np op cp ep:Nat):AV:=.func (.func 41) [] [.p np,.p op,.p cp,.p ep]
structure X34 (A:ac) (np op cp ep n:Nat) (T:aW) (chv:AV):Prop where
 hn:A[np]?=some (.q [.z (n:Int)])
 hc:A[cp]?=some (.row 5 false [ai T chv])
 he:A[ep]?=some (.q [od np op cp ep])
theorem X34.step {n:Nat} {T:aW} (h:X34 A np op cp ep n T chv) (s:kj A B):X34 B np op cp ep n T chv:=
 ⟨s.2 _ _ h.hn (by simp [ju]),s.2 _ _ h.hc (by simp [ju,ai]),s.2 _ _ h.he (by simp [ju,od])⟩
def xm:List (FuncId × aJ):=[(42,aE 4 M35),(43,H36)]
def H34:Nat->aJ
 | 0=>fun h=>bZ (dU GC xm h) 40 tU
 | k+1=>fun h=>bZ (dU GC ((41,H34 k) :: xm) h) 40 tU
theorem xV:∀f M,aD xm f=some M->au prog GC f M:=ag (au.of_pure sg 4) (ag lR aB)
theorem jn:∀k,au prog GC 41 (H34 k)
 | 0=>cw xV Gv oI
 | k+1=>cw (ag (jn k) xV) Gv oI
theorem pD {b:List Int} (h:A[id]?=some (.row 1 g (ak b))) (n:Nat):frz A (n+1) (.sl id 0 b.length)=.fs 1 (ak b):=by
 have e:((ak b).drop 0).take b.length=ak b:=by
  rw [SL,<-az b,SX]
 have hm:∀l:List Int,(ak l).map (frz A n)=ak l:=fun l=>by
  unfold ak
  rw [Ub]
  exact S3 fun x _=>aM A n .i64 x
 simp only [frz,h]
 rw [e,hm]
theorem FH (fs:List (FuncId × aJ)) (h:bj) {n:Nat} {T:aW} (hX:X34 A np op cp ep n T chv) (ho:lD A op ll) {b:List Int} (hb:A[id]?=some (.q (ak b))) (hlen:b.length=n+1) (hn4:n<=4) (hll:ll.length<=100000) :
  ∃B,bZ (dU GC fs h) 40 tU [.sl id 0 b.length,.p np,.p op,.p cp,.p ep] A=some (.tup [],B)/\lD B op (ll++[b])/\kj A B:=by
 have hbne:b≠[]:=fun e=>by rw [e] at hlen; simp at hlen
 have l0:ab false 1 A (.p np)=some (.z (n:Int)):=by simp [hX.hn]
 have b1:=aP n (by omega)
 have b2:af .eql (.z (b.length:Int)) (.z ((n+1:Nat):Int))=some .t:=by rw [bu,Su (by omega)]
 have e1:bY 1 8 (.z 0) A (.z ((n+1:Nat):Int)) (.z ((n+1:Nat):Int))=some (.sl A.length 0 b.length,A++[.q (List.replicate b.length (.z 0))]):=by
  rw [hlen]
  simp only [bY]
  rw [SA ⟨by omega,by omega,by omega,by omega,rfl,rfl,by omega⟩]
  simp
 have e2:oG 1 (A++[.q (List.replicate b.length (.z 0))]) (.sl A.length 0 b.length) (.sl id 0 b.length)=some (.z (b.length:Int),A++[.q (ak b)]):=by
  have hs:a8 1 (A++[Ent.q (List.replicate b.length (AV.int .i64 0))]) (.sl id 0 b.length)=some (ak b):=by
   rw [p6 (gr:=false) (es:=ak b) (by rw [Sy (Sp.1 hb).1]; exact hb)]
   rw [SL,<-az b,SX]
  simp only [oG,hs]
  rw [Uf]
  simp only
  rw [SA ⟨trivial,by omega,trivial⟩,az,Nat.min_self]
  congr 2
  rw [SQ _ _ (SK _),Uq]
  simp only [Tq,List.take_zero,T3,Up]
  rw [<-az b,SX,List.drop_of_length_le (by simp),S5]
 obtain ⟨A1,hA1⟩:∃X,X=A++[Ent.q (ak b)]:=⟨_,rfl⟩
 have hl1:A1.length=A.length+1:=by rw [hA1]; simp
 have e3:aI 1 [.sl A.length 0 b.length] A1=some (.sl (A.length+1) 0 1,A1++[.q [.sl A.length 0 b.length]]):=by
  simp [aI,hl1]
 have hop:op<A.length:=by obtain ⟨v,pl,_,h2,_⟩:=ho; exact (Sp.1 h2).1
 have ho2:lD (A1++[.q [.sl A.length 0 b.length]]) op ll:=by rw [hA1]; exact (ho.app _).app _
 obtain ⟨v,id2,n2,A3,k1,k2,k3,k4,k5,k6⟩:=ho2.add hbne hll (r:=A.length) (y:=A.length+1) (by rw [hA1]; simp) (by rw [hA1]; simp) (by omega)
 have l1:ab false 1 A1 (.p op)=some v:=jN (by rw [<-k1,Sy (by omega)]) k2
 have e5:aA 1 A3 (.p op) (.sl id2 0 n2)=some (A3.set op (.q [.sl id2 0 n2])):=by
  rcases k2 with rfl | ⟨_,_,_,rfl⟩ <;> simp [k4]
 obtain ⟨A2,hA2⟩:∃X,X=A1++[Ent.q [.sl A.length 0 b.length]]:=⟨_,rfl⟩
 obtain ⟨B,hB⟩:∃X,X=A3.set op (.q [.sl id2 0 n2]):=⟨_,rfl⟩
 obtain ⟨A0,hA0⟩:∃X,X=A++[Ent.q (List.replicate b.length (AV.int .i64 0))]:=⟨_,rfl⟩
 have hst:kj A A2:=by rw [hA2,hA1,SO]; exact kj.app _ _
 rw [<-hA2] at e3 k3 k6
 rw [<-hB] at e5 k5 k6
 rw [<-hA0] at e1 e2
 rw [<-hA1] at e2
 refine ⟨B,?_,k5,hst.trans k6⟩
 rw [bo _ _ rfl]
 obtain ⟨n1,hn1⟩:∃x,x=n+1:=⟨_,rfl⟩
 rw [<-hn1] at b1 b2 e1
 obtain ⟨bl,hbl⟩:∃x,x=b.length:=⟨_,rfl⟩
 rw [<-hbl] at b2 e1 e2 e3 ⊢
 obtain ⟨r1,hr1⟩:∃x,x=A.length:=⟨_,rfl⟩
 rw [<-hr1] at e1 e2 e3 k3
 obtain ⟨r2,hr2⟩:∃x,x=r1+1:=⟨_,rfl⟩
 rw [<-hr2] at e3 k3
 simp [tU,l0,l1,b1,b2,e1,e2,e3,k3,e5,-af,-ab,-aA,-bY,-aI]
theorem xE {b:List Int} (h:A[id]?=some (.row 1 g (ak b))) (hb:b.length<=1000) (x:Int):db 1 8 A (.csl id 0 b.length) (.fs 1 [.z x])=some (.sl A.length 0 (b.length+1),A++[.q (ak (b++[x]))]):=by
 have e:((ak b).drop 0).take b.length=ak b:=by
  rw [SL,<-az b,SX]
 have hb2:(b.length+1)*8<=140737488355328:=by omega
 simp only [db,c9,h,e]
 rw [SA ⟨trivial,by omega,by omega,by simp,by simpa using hb2⟩]
 simp [ak]
theorem wU {h:bj} {fs:List (FuncId × aJ)} {H:aJ} (hH:aD fs 41=some H) (h35:aD fs 42=some (aE 4 M35)) (h36:aD fs 43=some H36) {n:Nat} {T:aW} (hX:X34 A np op cp ep n T chv) {b:List Int} (hb:A[id]?=some (.q (ak b))) (hbl:b.length<=100) (hi:i<=n) (hn4:n<=4)
  (hr:(!decide ((i:Int)∈b) && (decide (T.blades=1) || decide (i=b.length)))=true->H h [.sl A.length 0 (b.length+1),.p np,.p op,.p cp,.p ep] (A++[.q (ak (b++[(i:Int)]))])=some (.tup [],B))
  (hr0:(!decide ((i:Int)∈b) && (decide (T.blades=1) || decide (i=b.length)))=false->B=A) (hkeep:B[ep]?=A[ep]?) :
  run (dU GC fs h) 40 [.code eM] (i9 (.sl id 0 b.length) (.p np) (.p cp) (.p ep) (.z (i:Int))) A=some (.normal (i9 (.sl id 0 b.length) (.p np) (.p cp) (.p ep) (.z ((i+1:Nat):Int))) B):=by
 obtain ⟨ch,pk,pl,tr,bd⟩:=T
 have l0:ab false 1 A (.p np)=some (.z (n:Int)):=by simp [hX.hn]
 have hc:A[cp]?=some (.row 5 false [.agg [chv,.z pk,.z pl,.z tr,.z bd]]):=hX.hc
 have l1:ab false 1 A (.ptr cp 0 4)=some (.z bd):=by simp [hc]
 have l2:ab false 1 A (.p ep)=some (od np op cp ep):=by simp [hX.he,od]
 have b0:af .leq (.z (i:Int)) (.z (n:Int))=some .t:=by rw [cr,Su (by omega)]
 have b3:=aP i (by omega)
 have f1:=pD hb 3
 have f2:∀A,frz A 4 (.z (i:Int))=.z (i:Int):=fun A=>aM A 4 .i64 i
 have m:=ze (xs:=b) (b:=.fs 1 (ak b)) (.inr rfl) (by omega) (i:Int)
 have b1:af .eql (.z bd) (.z 1)=some (.bool (decide (bd=1))):=bu _ _
 have b2:af .eql (.z (i:Int)) (.z (b.length:Int))=some (.bool (decide (i=b.length))):=by
  rw [bu]; congr 2; exact TO.2 (by omega)
 have c1:=Nb h (n:=b.length) hb
 have c2:=xE hb (by omega) (i:Int)
 have ne1:¬ ep=A.length:=by have:=(Sp.1 hX.he).1; omega
 have ne2:¬ ep=id:=fun e=>by
  have h1:=hX.he
  rw [e,hb] at h1
  injection h1 with h1
  injection h1 with _ _ h1
  cases b with
  | nil=>cases h1
  | cons x r=>injection h1 with h1; cases h1
 simp only at hr hr0
 obtain ⟨i1,hi1⟩:∃i1:Nat,i1=i+1:=⟨_,rfl⟩
 rw [<-hi1] at b3 ⊢
 obtain ⟨d1,h1⟩:∃d,d=decide ((i:Int)∈b):=⟨_,rfl⟩
 rw [<-h1] at m hr hr0
 obtain ⟨d2,h2⟩:∃d,d=decide (bd=1):=⟨_,rfl⟩
 rw [<-h2] at b1 hr hr0
 obtain ⟨d3,h3⟩:∃d,d=decide (i=b.length):=⟨_,rfl⟩
 rw [<-h3] at b2 hr hr0
 obtain ⟨A1,hA1⟩:∃X,X=A++[Ent.q (ak (b++[(i:Int)]))]:=⟨_,rfl⟩
 have k1:A1[ep]?=A[ep]?:=by rw [hA1,Sy (Sp.1 hX.he).1]
 rw [<-hA1] at c2 hr
 obtain ⟨r,hrr⟩:∃x,x=A.length:=⟨_,rfl⟩
 rw [<-hrr] at c2 hr
 obtain ⟨bl,hbl⟩:∃x,x=b.length:=⟨_,rfl⟩
 rw [<-hbl] at b2 c1 c2 f1 hr ⊢
 obtain ⟨bl1,hbl1⟩:∃x,x=bl+1:=⟨_,rfl⟩
 rw [<-hbl1] at c2 hr
 obtain ⟨F,hF⟩:∃x,x=AV.fs 1 (ak b):=⟨_,rfl⟩
 rw [<-hF] at m f1
 cases d1 with
 | true=>
  have:=hr0 rfl; subst this
  cases d2 <;> cases d3 <;> simp [eM,l0,b0,b3,f1,f2,h35,m,-frz,-af,-ab]
 | false=>
  cases d2 with
  | true=>
   have hr:=hr rfl
   simp [eM,l0,l1,l2,b0,b1,b3,f1,f2,h35,h36,hH,m,hc,c1,c2,hr,od,ne1,ne2,-frz,-af,-ab]
  | false=>
   cases d3 with
   | true=>
    have hr:=hr rfl
    simp [eM,l0,l1,l2,b0,b1,b2,b3,f1,f2,h35,h36,hH,m,hc,c1,c2,hr,od,ne1,ne2,-frz,-af,-ab]
   | false=>
    have:=hr0 rfl; subst this
    simp [eM,l0,l1,b0,b1,b2,b3,f1,f2,h35,m,hc,-frz,-af,-ab]
def fE (n:Nat) (one:Bool) (k:Nat) (b:List Int) (i:Nat):List (List Int):=if !decide ((i:Int)∈b) && (one || decide (i=b.length)) then ext n one k (b++[(i:Int)]) else []
theorem Sc (h:bj) {n:Nat} {T:aW} (hn4:n<=4) (d:Nat):∀(k:Nat) {A:ac} {ll:List (List Int)} {id:Nat} {b:List Int},b.length+k=n+1->1<=b.length->X34 A np op cp ep n T chv->lD A op ll->A[id]?=some (.q (ak b))->ll.length+4 ^ k<=100000 ->
  ∃B,H34 (d+k) h [.sl id 0 b.length,.p np,.p op,.p cp,.p ep] A=some (.tup [],B)/\lD B op (ll++ext n (decide (T.blades=1)) (k+1) b)/\kj A B
 | 0,A,ll,id,b,hk,hb1,hX,ho,hb,hll=>by
  have e:ext n (decide (T.blades=1)) (0+1) b=[b]:=by unfold ext; rw [SA (by omega)]
  rw [e]
  cases d with
  | zero=>exact FH _ h hX ho hb (by omega) hn4 (by omega)
  | succ d=>exact FH _ h hX ho hb (by omega) hn4 (by omega)
 | k+1,A,ll,id,b,hk,hb1,hX,ho,hb,hll=>by
  have hbne:b≠[]:=fun e=>by rw [e] at hb1; simp at hb1
  have e:ext n (decide (T.blades=1)) (k+1+1) b=(List.range' 1 n).flatMap (fE n (decide (T.blades=1)) (k+1) b):=by
   rw [ext,SD (by omega)]; rfl
  rw [e]
  have loop:∀(c i:Nat) (A:ac) (ll:List (List Int)) (m:Nat),i+c=n+1->X34 A np op cp ep n T chv->lD A op ll->A[id]?=some (.q (ak b))->ll.length+c*4 ^ k<=100000->c<m ->
    ∃B,bG (evC (dU GC ((41,H34 (d+k)) :: xm) h) 40 eM) eB m (i9 (.sl id 0 b.length) (.p np) (.p cp) (.p ep) (.z (i:Int))) A=some (.exit 0 ((i9 (.sl id 0 b.length) (.p np) (.p cp) (.p ep) (.z ((n+1:Nat):Int))).set 8 .f) B) /\
     lD B op (ll++(List.range' i c).flatMap (fE n (decide (T.blades=1)) (k+1) b))/\kj A B:=by
   intro c
   induction c with
   | zero=>
    intro i A ll m hi hX ho hb hll hm
    obtain ⟨m,rfl⟩:∃j,m=j+1:=⟨m-1,by omega⟩
    refine ⟨A,?_,by simpa using ho,kj.refl _⟩
    have l0:ab false 1 A (.p np)=some (.z (n:Int)):=by simp [hX.hn]
    have b0:af .leq (.z ((n+1:Nat):Int)) (.z (n:Int))=some .f:=by rw [cr,Ss (by omega)]
    obtain rfl:i=n+1:=by omega
    obtain ⟨i1,hi1⟩:∃i1:Nat,i1=n+1:=⟨_,rfl⟩
    rw [<-hi1] at b0 ⊢
    rw [aG,q8]
    simp [eM,l0,b0,-af,-ab]
   | succ c ihc=>
    intro i A ll m hi hX ho hb hll hm
    obtain ⟨m,rfl⟩:∃j,m=j+1:=⟨m-1,by omega⟩
    rw [SP,US] at hll
    have hrow:∀(j:Nat) (e:Ent),A[j]?=some e->ju e->(A++[Ent.q (ak (b++[(i:Int)]))])[j]?=some e:=(kj.app A _).2
    have hst:=kj.app A [Ent.q (ak (b++[(i:Int)]))]
    obtain ⟨B,hB1,hB2,hB3,hB4⟩:∃B,((!decide ((i:Int)∈b) && (decide (T.blades=1) || decide (i=b.length)))=true->H34 (d+k) h [.sl A.length 0 (b.length+1),.p np,.p op,.p cp,.p ep] (A++[.q (ak (b++[(i:Int)]))])=some (.tup [],B)) /\
      ((!decide ((i:Int)∈b) && (decide (T.blades=1) || decide (i=b.length)))=false->B=A)/\lD B op (ll++fE n (decide (T.blades=1)) (k+1) b i)/\kj A B:=by
     by_cases hd:(!decide ((i:Int)∈b) && (decide (T.blades=1) || decide (i=b.length)))=true
     ·obtain ⟨B,h1,h2,h3⟩:=Sc h hn4 d k (A:=A++[.q (ak (b++[(i:Int)]))]) (ll:=ll) (id:=A.length) (b:=b++[(i:Int)]) (by simp; omega) (by simp) (hX.step hst) (ho.app _) (by simp) (by omega)
      rw [SW,T5] at h1
      refine ⟨B,fun _=>h1,fun e=>(by rw [hd] at e; cases e),?_,hst.trans h3⟩
      unfold fE
      rw [SA hd]; exact h2
     ·refine ⟨A,fun e=>absurd e hd,fun _=>rfl,?_,kj.refl _⟩
      unfold fE
      rw [SD hd,S5]; exact ho
    have hX2:=hX.step hB4
    have hb2:=hB4.2 _ _ hb (ir hbne 1 false)
    have hr:=wU (fs:=(41,H34 (d+k)) :: xm) (h:=h) rfl rfl rfl hX hb (by omega) (i:=i) (by omega) hn4 hB1 hB2 (by rw [hX2.he,hX.he])
    have hfl:(fE n (decide (T.blades=1)) (k+1) b i).length<=4 ^ k:=by
     unfold fE
     split
     ·rcases uc n (decide (T.blades=1)) hn4 k (b++[(i:Int)]) with h1 | h1
      ·exact h1
      ·simp at h1; omega
     ·simp
    obtain ⟨C,c1,c2,c3⟩:=ihc (i+1) B _ m (by omega) hX2 hB3 hb2 (by rw [SW]; omega) (by omega)
    refine ⟨C,?_,?_,hB4.trans c3⟩
    ·rw [aG,q8,hr]
     exact c1
    ·rw [U5,Uj,<-SO]
     exact c2
  have hp:n*4 ^ k<=4 ^ (k+1):=by
   rw [Nat.pow_succ,Vk]
   exact Nat.mul_le_mul_left _ hn4
  obtain ⟨B,h1,h2,h3⟩:=loop n 1 A ll 40 (by omega) hX ho hb (by omega) (by omega)
  refine ⟨B,?_,h2,h3⟩
  have l0:ab false 1 A (.p np)=some (.z (n:Int)):=by simp [hX.hn]
  have b1:=aP n (by omega)
  have b2:af .eql (.z (b.length:Int)) (.z ((n+1:Nat):Int))=some .f:=by rw [bu,Ss (by omega)]
  obtain ⟨n1,hn1⟩:∃x,x=n+1:=⟨_,rfl⟩
  rw [<-hn1] at b1 b2 h1
  rw [show H34 (d+(k+1))=fun h=>bZ (dU GC ((41,H34 (d+k)) :: xm) h) 40 tU from rfl]
  simp only
  rw [bo _ _ rfl]
  have h1:bG (evC (dU GC ((41,H34 (d+k)) :: xm) h) 40 eM) eB 40 (i9 (.sl id 0 b.length) (.p np) (.p cp) (.p ep) (.z 1)) A=_:=h1
  simp [tU,l0,b1,b2,vq h1,-af,-ab]
end Clu
namespace Clu
open Go
open Cy (GC je df bC bH cW aM aV az)
def dR (ll:List (List Int)):AV:=slA 1 (ll.map fun l=>slA 1 (ak l))
theorem xX (h:l≠[]):slA 1 (ak l)=.fs 1 (ak l):=by
 cases l with
 | nil=>exact absurd rfl h
 | cons x r=>rfl
theorem GA.frz (h:GA A op v pl) (k:Nat):Proofs.YtkcjhljbgjpklaaGreat.frz A (k+3) v=dR (pl.map (·.2)):=by
 obtain ⟨h1,h2⟩:=h
 rcases h2 with ⟨rfl,rfl⟩ | ⟨id,gr,rfl,_,hne,hr⟩
 ·rfl
 ·have e:((pl.map qb).drop 0).take pl.length=pl.map qb:=by
   rw [SL]
   conv=>lhs; rw [show pl.length=(pl.map qb).length by simp]
   rw [SX]
  have hm:(pl.map qb).map (Proofs.YtkcjhljbgjpklaaGreat.frz A (k+2))=(pl.map (·.2)).map fun l=>slA 1 (ak l):=by
   rw [Ub,Ub]
   refine S3 fun x hx=>?_
   obtain ⟨n1,n2⟩:=h1 x hx
   show Proofs.YtkcjhljbgjpklaaGreat.frz A (k+1+1) (.sl x.1 0 x.2.length)=_
   rw [pD n2]
   exact (xX n1).symm
  rw [show k+3=(k+2)+1 from rfl]
  simp only [Proofs.YtkcjhljbgjpklaaGreat.frz,hr]
  rw [e,hm]
  unfold dR
  cases pl with
  | nil=>exact absurd rfl hne
  | cons x r=>rfl
theorem ny {b:List Int} (h:A[id]?=some (.row 1 g (ak b))) (n:Nat):bA A (n+2) (.sl id 0 b.length)=true:=by
 simp only [bA,h,SL,SV]
 intro x hx
 obtain ⟨y,_,rfl⟩:=SU.1 (Uo hx)
 rfl
theorem GA.fresh (h:GA A op v pl) (k:Nat):bA A (k+4) v=true:=by
 obtain ⟨h1,h2⟩:=h
 rcases h2 with ⟨rfl,rfl⟩ | ⟨id,gr,rfl,_,hne,hr⟩
 ·rfl
 ·rw [show k+4=(k+3)+1 from rfl]
  simp only [bA,hr,SL]
  rw [SV]
  intro y hy
  obtain ⟨x,hx,rfl⟩:=SU.1 (Uo hy)
  obtain ⟨n1,n2⟩:=h1 x hx
  exact ny n2 (k+1)
def yC:List (FuncId × aJ):=[(40,aE 4 M16),(41,H34 4)]
@[simp] theorem Qz:aD yC 40=some (aE 4 M16):=rfl
@[simp] theorem Qv:aD yC 41=some (H34 4):=rfl
theorem qa:∀f M,aD yC f=some M->au prog GC f M:=ag (au.of_pure n8 4) (ag (jn 4) aB)
def M14:aU:=fun args=>evF (aq GC yC) 0 oh 4 args
theorem n9:cm prog GC 18 M14:=cm.of_ev (E:=aq GC yC) (ax qa) rfl Gw oJ 4 fun _ _ h=>⟨0,h⟩
theorem aQ {T:aW} (h:∀A n,frz A n chv=chv) (A:ac) (n:Nat):frz A (n+1) (ai T chv)=ai T chv:=by
 simp [ai,frz,h,aM]
theorem cf {T:aW} (h:∀n,bR n chv=true) (n:Nat):bR (n+1) (ai T chv)=true:=by
 simp [ai,bR,h]
theorem _root_.Go.Proofs.YtkcjhljbgjpklaaGreat.SlA.noRef {e:Nat} {xs:List AV} (h:SlA e xs a) (n:Nat):bR n a=true:=by
 rcases h with ⟨rfl,_⟩ | rfl <;> cases n <;> rfl
theorem rt {T:aW} (hb:SlA 2 (T.ch.map chA) chv) (hl:T.ch.length<=200):M14 [ai T chv]=some (dR (aN T)):=by
 have m:=oL hb hl
 have hlen:=hb.len
 rw [SF] at hlen
 have ft:=fun A=>aQ (T:=T) (fun A n=>hb.frz (A:=A) n) A 3
 have nr:=cf (T:=T) (fun n=>hb.noRef n) 3
 unfold M14 aN
 by_cases hv:aT T
 ·rw [SA hv]
  rw [Su hv] at m
  have hn4:=hv.2.2.2.1
  obtain ⟨A0,hA0⟩:∃X:ac,X=[.row 5 false [ai T chv],.q [.z (T.ch.length:Int)],.q [.nilS],.q [od 1 2 0 3],.q [.z 0]]:=⟨_,rfl⟩
  have hX:X34 A0 1 2 0 3 T.ch.length T chv:=by rw [hA0]; exact ⟨rfl,rfl,rfl⟩
  have ho:lD A0 2 []:=⟨.nilS,[],rfl,by rw [hA0]; rfl,fun _ h=>by simp at h,.inl ⟨rfl,rfl⟩⟩
  have hp:4 ^ T.ch.length<=4 ^ 4:=Nat.pow_le_pow_right (by omega) hn4
  obtain ⟨B,h1,⟨v,pl,h2,h3,h4⟩,h5⟩:=Sc (fun _ _ _=>none) (d:=4-T.ch.length) hn4 T.ch.length (A:=A0) (ll:=[]) (id:=4) (b:=[0]) (by simp; omega) (by simp) hX ho (by rw [hA0]; rfl) (by simp; omega)
  rw [show 4-T.ch.length+T.ch.length=4 by omega] at h1
  have lv:=jN h3 h4.form
  have hfz:=h4.frz 1
  have hfr:=h4.fresh 0
  rw [h2,T3] at hfz
  have h1:H34 4 (fun _ _ _=>none) [.sl 4 0 1,.p 1,.p 2,.p 0,.p 3] A0=some (.tup [],B):=h1
  rw [fU _ _ rfl]
  obtain ⟨ch,pk,pl2,tr,bd⟩:=T
  simp only at hlen h1 hA0 m ft hfz
  rw [show ∀c,ai ⟨ch,pk,pl2,tr,bd⟩ c=.agg [c,.z pk,.z pl2,.z tr,.z bd] from fun _=>rfl] at hA0 ft m
  rw [show ∀c,ai ⟨ch,pk,pl2,tr,bd⟩ c=.agg [c,.z pk,.z pl2,.z tr,.z bd] from fun _=>rfl]
  have lt:ab true 5 [Ent.row 5 false [.agg [chv,.z pk,.z pl2,.z tr,.z bd]]] (.p 0)=some (.agg [chv,.z pk,.z pl2,.z tr,.z bd]):=rfl
  have le:∀k,ab false 1 [Ent.row 5 false [.agg [chv,.z pk,.z pl2,.z tr,.z bd]],.q [.z k],.q [.nilS],.q [.func (.func 41) [] [.p 1,.p 2,.p 0,.p 3]]] (.p 3)=some (.func (.func 41) [] [.p 1,.p 2,.p 0,.p 3]):=fun k=>rfl
  have lc:ab false 1 [Ent.row 5 false [.agg [chv,.z pk,.z pl2,.z tr,.z bd]]] (.p 0)=some chv:=rfl
  obtain ⟨k,hk⟩:∃k,k=(ch.length:Int):=⟨_,rfl⟩
  rw [<-hk] at hlen hA0
  obtain ⟨R,hR⟩:∃R,R=dR (ext ch.length (decide (bd=1)) (ch.length+1) [0]):=⟨_,rfl⟩
  rw [<-hR] at hfz ⊢
  unfold od at hA0
  rw [hA0] at h1
  simp [oh,m,ft,hlen,h1,lv,hfz,hfr,lc,lt,le,-frz,-aj,-ab]
 ·rw [SD hv]
  rw [Ss hv] at m
  rw [fU _ _ rfl]
  obtain ⟨ch,pk,pl2,tr,bd⟩:=T
  rw [show ∀c,ai ⟨ch,pk,pl2,tr,bd⟩ c=.agg [c,.z pk,.z pl2,.z tr,.z bd] from fun _=>rfl] at ft m
  rw [show ∀c,ai ⟨ch,pk,pl2,tr,bd⟩ c=.agg [c,.z pk,.z pl2,.z tr,.z bd] from fun _=>rfl]
  simp [oh,m,ft,bA,-frz]
  rfl
def Nw:List (FuncId × aJ):=[(46,aE 4 M43)]
@[simp] theorem OW:aD Nw 46=some (aE 4 M43):=rfl
theorem Hm:∀f M,aD Nw f=some M->au prog GC f M:=ag (au.of_pure J7 4) aB
def M42:aU:=fun args=>evP (aq GC Nw) 0 Bi 1 args
theorem sf:aw prog GC 45 M42:=aw.of_ev (E:=aq GC Nw) (ax Hm) rfl (by kernel_rfl) vO 1 fun _ _ h=>⟨0,h⟩
theorem y9 {ys:List Int} (ha:SlA 1 (ak xs) a) (hb:SlA 1 (ak ys) b) (hl:xs.length<=200):M42 [a,.fp [b]]=some (.bool (decide (xs=ys))):=by
 have m:=y8 ha hb hl
 have f1:∀A n,frz A n a=a:=fun A n=>ha.frz n
 have f2:∀A n,frz A n b=b:=fun A n=>hb.frz n
 have l1:∀A,ab false 1 A (.fp [b])=some b:=fun A=>rfl
 obtain ⟨d,hd⟩:∃d,d=decide (xs=ys):=⟨_,rfl⟩
 rw [<-hd] at m ⊢
 unfold M42
 rw [aO _ _ rfl]
 simp [Bi,m,f1,f2,l1,aV,-frz,-ab]
def F5:List (FuncId × aJ):=[(45,aE 4 M42)]
@[simp] theorem Oy:aD F5 45=some (aE 4 M42):=rfl
theorem Hb:∀f M,aD F5 f=some M->au prog GC f M:=ag (au.of_pure sf 4) aB
def M66:aU:=fun args=>evP (aq GC F5) 300 Nl 1 args
theorem JV:aw prog GC 79 M66:=aw.of_ev (E:=aq GC F5) (ax Hb) rfl (by kernel_rfl) LL 1 fun _ _ h=>⟨300,h⟩
def isO (o l:List Int):Bool:=decide (l=o)
def fnO (ov:AV):AV:=.func (.func 45) [] [.fp [ov]]
theorem MN (ho:SlA 1 (ak o) ov) (hl:ll.length<=256) (hl2:∀l∈ll,l.length<=200):M66 [dR ll,fnO ov]=some (.z (df (isO o) ll)):=by
 have hb:=aZ 1 (ll.map fun l=>slA 1 (ak l))
 rw [show slA 1 (ll.map fun l=>slA 1 (ak l))=dR ll from rfl] at hb
 obtain ⟨b,hbv⟩:∃b,b=dR ll:=⟨_,rfl⟩
 rw [<-hbv] at hb ⊢
 have hlen:=hb.len
 rw [SF] at hlen
 have round:∀(A:ac) (i:Nat) (hi:i<ll.length),run (aq GC F5) 300 [.code kA] (nQ b (fnO ov) (.z (ll.length:Int)) (.z (i:Int))) A =
   if isO o ll[i]=false then some (.normal (nQ b (fnO ov) (.z (ll.length:Int)) (.z ((i+1:Nat):Int))) A) else some (.ret [b,fnO ov,.z (i:Int),.z (i:Int),.z (ll.length:Int),.z (i:Int),.t,.t] A):=fun A i hi=>by
  have he:(ll.map fun l=>slA 1 (ak l))[i]?=some (slA 1 (ak ll[i])):=by simp [hi]
  have hs:=aZ 1 (ak ll[i])
  have x1:=hb.index1 (A:=A) he (by rcases hs with ⟨h,_⟩ | h <;> rw [h] <;> rfl) (by rcases hs with ⟨h,_⟩ | h <;> rw [h] <;> rfl) .i64
  have ld:ab false 1 A (.fp [slA 1 (ak ll[i])])=some (slA 1 (ak ll[i])):=by rcases hs with ⟨h,_⟩ | h <;> rw [h] <;> rfl
  have m:=y9 hs ho (hl2 _ (SC hi))
  have b1:=be i ll.length .i64
  rw [Su hi] at b1
  have b3:=aP i (by omega)
  have fz:∀A,frz A 4 (slA 1 (ak ll[i]))=slA 1 (ak ll[i]):=fun A=>hs.frz 4
  have fz2:∀A,frz A 4 (.fp [ov])=.fp [ov]:=fun A=>rfl
  obtain ⟨i1,hi1⟩:∃i1:Nat,i1=i+1:=⟨_,rfl⟩
  rw [<-hi1] at b3 ⊢
  obtain ⟨d,hd⟩:∃d,d=isO o ll[i]:=⟨_,rfl⟩
  rw [show decide (ll[i]=o)=d from hd.symm] at m
  rw [<-hd]
  obtain ⟨c,hc⟩:∃c,c=slA 1 (ak ll[i]):=⟨_,rfl⟩
  rw [<-hc] at m ld fz x1
  cases d with
  | false=>simp [kA,fnO,x1,ld,m,fz,fz2,b1,b3,-frz,-af,-ae,-aj,-ab]
  | true=>simp [kA,fnO,x1,ld,m,fz,fz2,b1,-frz,-af,-ae,-aj,-ab]
 unfold M66
 rw [aO _ _ rfl]
 rcases bU (E:=aq GC F5) (fuel:=300) (a:=kA) (mask:=jP) (fun i=>nQ b (fnO ov) (.z (ll.length:Int)) (.z (i:Int))) (fun _=>[]) ll.length (fun i=>¬ ∀hi:i<ll.length,isO o ll[i]=false)
  (oF:=fun i=>.ret [b,fnO ov,.z (i:Int),.z (i:Int),.z (ll.length:Int),.z (i:Int),.t,.t] []) (oE:=.exit 0 ((nQ b (fnO ov) (.z (ll.length:Int)) (.z (ll.length:Int))).set 6 .f) [])
  (fun _=>rfl) (fun _ _ _ h=>by cases h) (fun _ _ h=>by cases h)
  (fun i hi hp=>by
   rw [round [] i hi]
   exact SA (SI.1 hp hi))
  (fun i hi hp=>by
   rw [round [] i hi]
   exact SD fun h=>hp fun _=>h)
  (by simp [kA]) (show ll.length<300 by omega) with ⟨i,hi,hp,hj,lp⟩ | ⟨hp,lp⟩
 ·have lp:bG (evC (aq GC F5) 300 kA) jP 300 (nQ b (fnO ov) (.z (ll.length:Int)) (.z 0)) []=_:=lp
  have e:df (isO o) ll=(i:Int):=bC hi (by
   cases h':isO o ll[i] with
   | true=>rfl
   | false=>exact absurd (fun _=>h') hp) (fun j hj'=>SI.1 (hj j hj') (by omega))
  rw [e]
  simp [Nl,hlen,FO lp,-af,-aj]
 ·have lp:bG (evC (aq GC F5) 300 kA) jP 300 (nQ b (fnO ov) (.z (ll.length:Int)) (.z 0)) []=_:=lp
  have e:df (isO o) ll = -1:=bH fun i hi=>SI.1 (hp i hi) hi
  rw [e]
  simp [Nl,hlen,FO lp,-af,-aj]
def Nx:List (FuncId × aJ):=[(79,aE 4 M66)]
@[simp] theorem OX:aD Nx 79=some (aE 4 M66):=rfl
theorem Hn:∀f M,aD Nx f=some M->au prog GC f M:=ag (au.of_pure JV 4) aB
def M41:aU:=fun args=>evP (aq GC Nx) 0 Bj 1 args
theorem p7:aw prog GC 44 M41:=aw.of_ev (E:=aq GC Nx) (ax Hn) rfl (by kernel_rfl) vP 1 fun _ _ h=>⟨0,h⟩
theorem I9 (o:List Int) (ll:List (List Int)):ll.any (isO o)=decide (o∈ll):=by
 rw [T4,List.any_eq_true,S6]
 unfold isO
 constructor
 ·rintro ⟨x,hx,h⟩
  rw [<-UI h]; exact hx
 ·exact fun h=>⟨o,h,by simp⟩
theorem zc (ho:SlA 1 (ak o) ov) (hl:ll.length<=256) (hl2:∀l∈ll,l.length<=200):M41 [dR ll,fnO ov]=some (.bool (decide (o∈ll))):=by
 have h:=MN ho hl hl2
 have b1:=je (df (isO o) ll)
 rw [cW,I9] at b1
 have f1:∀A n,frz A n (dR ll)=dR ll:=fun A n=>(aZ 1 _).frz n
 have f2:∀A,frz A 4 (fnO ov)=fnO ov:=fun A=>rfl
 obtain ⟨z,hz⟩:∃z,z=df (isO o) ll:=⟨_,rfl⟩
 rw [<-hz] at h b1
 obtain ⟨d,hd⟩:∃d,d=decide (o∈ll):=⟨_,rfl⟩
 rw [<-hd] at b1 ⊢
 obtain ⟨b,hbv⟩:∃b,b=dR ll:=⟨_,rfl⟩
 rw [<-hbv] at h f1 ⊢
 unfold M41
 rw [aO _ _ rfl]
 simp [Bj,h,b1,f1,f2,aV,-af,-frz]
end Clu
namespace Clu
open Go
open Cy (GC je df bC bH cW aM aV az bq cQ bT cA cR okA)
section
variable {A:ac} {es:List AV} {k:Nat}
theorem jk (_hk:es.length=k) (hj:j<k):aa j (A++[.row k false [.agg es]]) (.p A.length)=some (.ptr A.length 0 j):=by
 simp [aa,hj]
theorem ku (_hk:es.length=k) {x:AV} (hx:es[j]?=some x):ab false 1 (A++[.row k false [.agg es]]) (.ptr A.length 0 j)=some x:=by
 simp [ab,bN,hx]
theorem Aq (_hk:es.length=k) (_hk1:k≠1):ab true k (A++[.row k false [.agg es]]) (.p A.length)=some (.agg es):=by
 simp [ab,uZ]
theorem xL (hk:es.length=k) (hk1:1<k) (hj:j<k) {x:AV} (hs:x.solid=true) (hc:cellsOf x=[x]):aA 1 (A++[.row k false [.agg es]]) (.ptr A.length 0 j) x=some (A++[.row k false [.agg (es.set j x)]]):=by
 have e:es.take j++[x]++es.drop (j+1)=es.set j x:=by
  rw [List.set_eq_take_append_cons_drop,SA (by omega)]; simp
 have e1:bL (.agg es) k j x=some (.agg (es.set j x)):=by
  unfold bL
  rw [hc,SD (by simp; omega)]
  simp only [T5]
  rw [SA ⟨hk,by omega⟩,e]
 simp only [aA,Uf,Tp]
 rw [SA ⟨trivial,hs,by rw [hc]; rfl,by omega⟩,e1]
 simp
end
@[simp] theorem sL (A:ac) (x:AV):ab false 1 A (.fp [x])=some x:=rfl
@[simp] theorem RZ (A:ac) (x y:AV) (r:List AV):ab true (r.length+2) A (.fp (x :: y :: r))=some (.agg (x :: y :: r)):=by simp [ab]
@[simp] theorem fP (A:ac) (x y:AV):ab true 2 A (.fp [x,y])=some (.agg [x,y]):=rfl
def M46:aU:=fun args=>evP (aq GC []) 0 Ib 4 args
theorem AC:aw prog GC 49 M46:=aw.of_ev (E:=aq GC []) (ax aB) rfl (by kernel_rfl) Cj 4 fun _ _ h=>⟨0,h⟩
def zK:AV:=.agg [.nilF,.func (.func 80) [] [],.func (.func 81) [] []]
theorem Du:M46 []=some zK:=by
 have s:fJ 3 [.q [.nilF,.nilF,.nilF]] (.p 0) zK=some [.q [.nilF,.func (.func 80) [] [],.func (.func 81) [] []]]:=by
  simp [fJ,zK,AV.solid,cellsOf]
 unfold M46
 rw [aO _ _ rfl]
 unfold zK at s
 simp [Ib,zK,s,AV.solid,cellsOf]
def Ns:List (FuncId × aJ):=[(25,aE 4 M64)]
@[simp] theorem Ox:aD Ns 25=some (aE 4 M64):=rfl
theorem Ha:∀f M,aD Ns f=some M->au prog GC f M:=ag (au.of_pure xR 4) aB
def M67:aU:=fun args=>evP (aq GC Ns) 0 Nk 4 args
theorem JU:aw prog GC 80 M67:=aw.of_ev (E:=aq GC Ns) (ax Ha) rfl (by kernel_rfl) LK 4 fun _ _ h=>⟨0,h⟩
def lkA (a b c:Int):AV:=.agg [.z a,.z b,.z c]
theorem MM (ho:SlA 1 (ak o) ov) (hl:o.length<=200) {j:Int} (hj : -1000<=j/\j<=1000):M67 [ov,.z j]=some (lkA (j-1) j (if df (isI j) o<df (isI (j-1)) o then 1 else 0)):=by
 have m1:=tu ho hl j
 have m2:=tu ho hl (j-1)
 have f1:∀A n,frz A n ov=ov:=fun A n=>ho.frz n
 have b1:=bK (a:=j) (b:=1) (by omega)
 have b2:=bP (df (isI j) o) (df (isI (j-1)) o)
 obtain ⟨j1,hj1⟩:∃x,x=j-1:=⟨_,rfl⟩
 rw [<-hj1] at m2 b1 b2 ⊢
 obtain ⟨x,hx⟩:∃x,x=df (isI j) o:=⟨_,rfl⟩
 obtain ⟨y,hy⟩:∃x,x=df (isI j1) o:=⟨_,rfl⟩
 rw [<-hx] at m1 b2 ⊢
 rw [<-hy] at m2 b2 ⊢
 unfold M67
 rw [aO _ _ rfl]
 by_cases h:x<y
 ·rw [Su h] at b2
  rw [SA h]
  simp [Nk,m1,m2,f1,b1,b2,lkA,aM,-af,-frz]
  simp [frz]
 ·rw [Ss h] at b2
  rw [SD h]
  simp [Nk,m1,m2,f1,b1,b2,lkA,aM,-af,-frz]
  simp [frz]
def M68:aU:=fun args=>evP (aq GC []) 0 N8 4 args
theorem JT:aw prog GC 81 M68:=aw.of_ev (E:=aq GC []) (ax aB) rfl (by kernel_rfl) LJ 4 fun _ _ h=>⟨0,h⟩
theorem ML (ov:AV) (j:Int):M68 [ov,.z j]=some (lkA j j 1):=by
 unfold M68
 rw [aO _ _ rfl]
 simp [N8,lkA]
def H45:aJ:=fun _=>bZ (aq GC []) 0 z8
theorem AD:au prog GC 48 H45:=(cj (ax aB) rfl NK yN bO.nil).y
def GAt (A:ac) (g:Nat) (l:List bq):Prop:=∃v,A[g]?=some (.q [v])/\((v=.nilS/\l=[])\/∃id gr,v=.sl id 0 l.length/\l≠[]/\g<id/\A[id]?=some (.row 4 gr (l.map cQ)))
theorem GAt.app {g:Nat} {l:List bq} (h:GAt A g l) (X:ac):GAt (A++X) g l:=by
 obtain ⟨v,h1,h2⟩:=h
 have hk:∀(j:Nat) (e:Ent),A[j]?=some e->(A++X)[j]?=some e:=fun j e h=>by
  rw [Sy (Sp.1 h).1]; exact h
 refine ⟨v,hk _ _ h1,?_⟩
 rcases h2 with h2 | ⟨id,gr,e1,e2,e3,e4⟩
 ·exact .inl h2
 ·exact .inr ⟨id,gr,e1,e2,e3,hk _ _ e4⟩
theorem GJ (h:bj) {g:Nat} {l:List bq} (hg:GAt A g l) {xs:List bq} (hx:xs≠[]) (hb:l.length+xs.length<=1000) :
  ∃B,H45 h [.p g,.fs 4 (xs.map cQ)] A=some (.tup [],B)/\GAt B g (l++xs)/\A.length<=B.length/\∀j,j<g->B[j]?=A[j]?:=by
 obtain ⟨v,h1,h2⟩:=hg
 have hgl:=(Sp.1 h1).1
 have hxl:0<xs.length:=TI.2 hx
 have hxm:xs.map cQ≠[]:=fun e=>hx (UM.1 e)
 rcases h2 with ⟨rfl,rfl⟩ | ⟨id,gr,rfl,hl,hid,hr⟩
 ·have e1:aL 4 32 A .nilS (.fs 4 (xs.map cQ))=some (.sl A.length 0 xs.length,A++[.row 4 false (xs.map cQ)]):=by
   simp only [aL,c9,SF]
   rw [SD (by omega),SA ⟨by omega,by omega,by simp at hb; omega⟩]
  have l1:ab false 1 A (.p g)=some .nilS:=jN h1 (.inl rfl)
  have h1':(A++[Ent.row 4 false (xs.map cQ)])[g]?=some (.q [.nilS]):=by rw [Sy hgl]; exact h1
  obtain ⟨A1,hA1⟩:∃X,X=A++[Ent.row 4 false (xs.map cQ)]:=⟨_,rfl⟩
  have s1:aA 1 A1 (.p g) (.sl A.length 0 xs.length)=some (A1.set g (.q [.sl A.length 0 xs.length])):=by
   rw [<-hA1] at h1'
   simp [h1']
  refine ⟨A1.set g (.q [.sl A.length 0 xs.length]),?_,⟨.sl A.length 0 xs.length,by rw [hA1,SG (by simp; omega)],.inr ⟨A.length,false,rfl,hx,hgl,?_⟩⟩,by rw [hA1]; simp,fun j hj=>?_⟩
  ·rw [<-hA1] at e1
   unfold H45
   rw [bo _ _ rfl]
   simp [z8,l1,e1,s1,-ab,-aA]
  ·rw [hA1,Sz (by omega)]
   simp
  ·rw [hA1,Sz (by omega),Sy (by omega)]
 ·have hlz:l.length≠0:=fun e=>hl (S8.1 e)
  have hidl:=(Sp.1 hr).1
  have e1:aL 4 32 A (.sl id 0 l.length) (.fs 4 (xs.map cQ))=some (.sl id 0 (l.length+xs.length),A.set id (.row 4 true (l.map cQ++xs.map cQ))):=by
   simp only [aL,c9,SF,hr]
   rw [SA ⟨trivial,by omega,by omega,by omega⟩,SA ⟨trivial,trivial,hlz⟩]
  have l1:ab false 1 A (.p g)=some (.sl id 0 l.length):=jN h1 (.inr ⟨_,_,_,rfl⟩)
  obtain ⟨A1,hA1⟩:∃X,X=A.set id (Ent.row 4 true (l.map cQ++xs.map cQ)):=⟨_,rfl⟩
  have h1':A1[g]?=some (.q [.sl id 0 l.length]):=by rw [hA1,Sz (by omega)]; exact h1
  have s1:aA 1 A1 (.p g) (.sl id 0 (l.length+xs.length))=some (A1.set g (.q [.sl id 0 (l.length+xs.length)])):=by
   simp [h1']
  refine ⟨A1.set g (.q [.sl id 0 (l.length+xs.length)]),?_,⟨.sl id 0 (l.length+xs.length),by rw [hA1,SG (by simpa using hgl)],.inr ⟨id,true,by simp,by simp [hl],hid,?_⟩⟩,by rw [hA1]; simp,fun j hj=>?_⟩
  ·rw [<-hA1] at e1
   unfold H45
   rw [bo _ _ rfl]
   simp [z8,l1,e1,s1,-ab,-aA]
  ·rw [hA1,Sz (by omega),SG hidl]
   simp
  ·rw [hA1,Sz (by omega),Sz (by omega)]
theorem GAt.frz {g:Nat} {l:List bq} (h:GAt A g l):∃v,ab false 1 A (.p g)=some v/\(∀k,Proofs.YtkcjhljbgjpklaaGreat.frz A (k+3) v=slA 4 (l.map cQ))/\∀k,bA A (k+3) v=true:=by
 obtain ⟨v,h1,h2⟩:=h
 rcases h2 with ⟨rfl,rfl⟩ | ⟨id,gr,rfl,hl,hid,hr⟩
 ·exact ⟨.nilS,jN h1 (.inl rfl),fun k=>rfl,fun k=>rfl⟩
 ·have e:((l.map cQ).drop 0).take l.length=l.map cQ:=by
   rw [SL]
   conv=>lhs; rw [show l.length=(l.map cQ).length by simp]
   rw [SX]
  refine ⟨_,jN h1 (.inr ⟨_,_,_,rfl⟩),fun k=>?_,fun k=>?_⟩
  ·have hm:(l.map cQ).map (Proofs.YtkcjhljbgjpklaaGreat.frz A (k+2))=l.map cQ:=by
    rw [Ub]
    exact S3 fun x _=>by simp [cQ,Proofs.YtkcjhljbgjpklaaGreat.frz]
   rw [show k+3=(k+2)+1 from rfl]
   simp only [Proofs.YtkcjhljbgjpklaaGreat.frz,hr]
   rw [e,hm]
   cases l with
   | nil=>exact absurd rfl hl
   | cons x r=>rfl
  ·rw [show k+3=(k+2)+1 from rfl]
   simp only [bA,hr]
   rw [e,SV]
   intro y hy
   obtain ⟨x,_,rfl⟩:=SU.1 hy
   simp [cQ,bA]
end Clu
namespace Clu
open Go
open Cy (GC je df bC bH cW aM aV az bq cQ bT cA cR okA)
def oP (o:List Int) (i:Nat):Int:=if i+1<o.length then o.getD (i+1) 0 else 0
def tj (T:aW) (o:List Int) (i:Nat):bq:=
 ⟨o.getD i 0,oP o i,dt T+(if T.blades=2\/oP o i≠o.getD i 0+1 then T.travel else 0),if i+1<o.length then 0 else 1⟩
def lkT (T:aW) (o:List Int) (j:Int):Int × Int × Int:=if T.blades=2 then (j,j,1) else (j-1,j,if df (isI j) o<df (isI (j-1)) o then 1 else 0)
def rp (T:aW) (o:List Int) (i:Nat):List bq:=
 [⟨(lkT T o (i+1)).1,(lkT T o (i+1)).2.1,dt T+(T.ch.getD i (0,0)).1,(lkT T o (i+1)).2.2⟩,
  ⟨(lkT T o (i+1)).2.1,(lkT T o (i+1)).1,-(dt T+(T.ch.getD i (0,0)).1+(T.ch.getD i (0,0)).2),-(lkT T o (i+1)).2.2⟩]
def bM (T:aW) (o:List Int):List bq:=(List.range o.length).map (tj T o)++(List.range T.ch.length).flatMap (rp T o)
def xD (T:aW) (o:List Int):Option (List bq):=if o∈aN T then some (bM T o) else none
theorem BV (n:Nat) (one:Bool):∀(k:Nat) (b l:List Int),l∈ext n one k b->l.length=n+1/\∃r,l=b++r/\(∀x∈r,1<=x/\x<=n)/\(b.Nodup->l.Nodup)
 | 0,b,l,h=>by simp [ext] at h
 | k+1,b,l,h=>by
  unfold ext at h
  split at h
  ·rename_i hb
   simp only [SY] at h
   subst h
   exact ⟨hb,[],by simp,by simp,id⟩
  ·rw [U6] at h
   obtain ⟨i,hi,h⟩:=h
   rw [List.mem_range'_1] at hi
   split at h
   ·rename_i hc
    obtain ⟨h1,r,rfl,h3,h4⟩:=BV n one k _ _ h
    simp only [S4,Tt,Ue] at hc
    refine ⟨h1,(i:Int) :: r,by simp,fun x hx=>?_,fun hn=>h4 ?_⟩
    ·rcases Tj.1 hx with rfl | hx
     ·omega
     ·exact h3 x hx
    ·rw [List.nodup_append]
     refine ⟨hn,by simp,fun a ha b hb e=>?_⟩
     rw [SY] at hb
     subst hb; subst e
     exact hc.1 ha
   ·cases h
theorem cd {T:aW} (h:o∈aN T):aT T/\o.length=T.ch.length+1/\(∃r,o=0 :: r/\∀x∈r,1<=x/\x<=T.ch.length)/\o.Nodup:=by
 unfold aN at h
 split at h
 ·rename_i hv
  obtain ⟨h1,r,h2,h3,h4⟩:=BV _ _ _ _ _ h
  exact ⟨hv,h1,⟨r,h2,h3⟩,h4 (by simp)⟩
 ·cases h
theorem gx {T:aW} (h:o∈aN T):∀x∈o,0<=x/\x<=T.ch.length:=by
 obtain ⟨_,_,⟨r,rfl,h2⟩,_⟩:=cd h
 intro x hx
 rcases Tj.1 hx with rfl | hx
 ·omega
 ·have:=h2 x hx; omega
theorem it (T:aW):(aN T).length<=256:=by
 unfold aN
 split
 ·rename_i hv
  have hn:=hv.2.2.2.1
  rcases uc T.ch.length (decide (T.blades=1)) hn T.ch.length [0] with h | h
  ·exact TK h (TK (Nat.pow_le_pow_right (by omega) hn) (by omega))
  ·simp at h; omega
 ·simp
theorem lO {T:aW} (h:aT T):0<=dt T/\dt T<=30000:=by
 obtain ⟨_,⟨h1,h2,h3⟩,_⟩:=h
 unfold dt
 split <;> omega
theorem dZ {a:Int} (h : -9223372036854775807<=a/\a<=9223372036854775807):qM .neg (.z a)=some (.z (-a)):=by
 simp only [qM]
 rw [show (0:Int)-a = -a by omega,eH (by unfold inI; omega)]
def pB:List (FuncId × aJ):=[(18,cU 4 M14),(44,aE 4 M41),(47,aE 4 M44),(49,aE 4 M46),(80,aE 4 M67),(81,aE 4 M68),(48,H45)]
@[simp] theorem Qf:aD pB 18=some (cU 4 M14):=rfl
@[simp] theorem Qa:aD pB 44=some (aE 4 M41):=rfl
@[simp] theorem P9:aD pB 47=some (aE 4 M44):=rfl
@[simp] theorem P7:aD pB 49=some (aE 4 M46):=rfl
@[simp] theorem P6:aD pB 80=some (aE 4 M67):=rfl
@[simp] theorem P5:aD pB 81=some (aE 4 M68):=rfl
@[simp] theorem P8:aD pB 48=some H45:=rfl
theorem wJ:∀f M,aD pB f=some M->au prog GC f M:=ag (au.of_pureF n9 4) (ag (au.of_pure p7 4) (ag (au.of_pure AE 4) (ag (au.of_pure AC 4) (ag (au.of_pure JU 4) (ag (au.of_pure JT 4) (ag AD aB))))))
structure I19 (A:ac) (T:aW) (chv ov:AV) (l:List bq):Prop where
 t:A[0]?=some (.row 5 false [ai T chv])
 o:A[1]?=some (.q [ov])
 g:GAt A 2 l
theorem Ej {T:aW} (hO:o∈aN T) (ho:SlA 1 (ak o) ov) {A:ac} {l:List bq} (hI:I19 A T chv ov l) (hl:l.length<=100) (hi:i<o.length) :
  ∃B,run (aq GC pB) 300 [.code iz] (pZ (.p 0) (.p 1) (.z (dt T)) (.p 2) ov (.z (o.length:Int)) (.z (i:Int))) A =
   some (.normal (pZ (.p 0) (.p 1) (.z (dt T)) (.p 2) ov (.z (o.length:Int)) (.z ((i+1:Nat):Int))) B)/\I19 B T chv ov (l++[tj T o i]):=by
 obtain ⟨hv,hol,_,_⟩:=cd hO
 have hbd:=gx hO
 have hw:=lO hv
 have hch:=hv.2.2.2.1
 have htr:=hv.2.1.2.2
 obtain ⟨ht,h1,hg⟩:=hI
 have ht0:=(Sp.1 ht).1
 have h10:=(Sp.1 h1).1
 have hlen:=ho.len
 rw [az] at hlen
 have x1:=fun A=>ho.int (A:=A) _ _ (Sq hi) .i64
 have ho1:o[i]=o.getD i 0:=by rw [Sr,Sq hi]; rfl
 have hb1:=hbd o[i] (SC hi)
 obtain ⟨t0,htt⟩:∃t,t=o.getD i 0:=⟨_,rfl⟩
 rw [ho1,<-htt] at x1 hb1
 obtain ⟨w,hww⟩:∃w,w=dt T:=⟨_,rfl⟩
 have ov0:∀X,ab false 1 (A++X) (.p 1)=some ov:=fun X=>by
  have h:(A++X)[1]?=some (.q [ov]):=by rw [Sy h10]; exact h1
  rcases ho with ⟨rfl,_⟩ | rfl <;> simp [h]
 obtain ⟨ch,pk,pl,tr,bd⟩:=T
 have ht:A[0]?=some (.row 5 false [.agg [chv,.z pk,.z pl,.z tr,.z bd]]):=ht
 have tl:∀X,(A++X)[0]?=some (.row 5 false [.agg [chv,.z pk,.z pl,.z tr,.z bd]]):=fun X=>by rw [Sy ht0]; exact ht
 have t3:∀X,aa 3 (A++X) (.p 0)=some (.ptr 0 0 3):=fun X=>by simp [aa,tl X]
 have t4:∀X,aa 4 (A++X) (.p 0)=some (.ptr 0 0 4):=fun X=>by simp [aa,tl X]
 have l3:∀X,ab false 1 (A++X) (.ptr 0 0 3)=some (.z tr):=fun X=>by simp [ab,tl X,bN]
 have l4:∀X,ab false 1 (A++X) (.ptr 0 0 4)=some (.z bd):=fun X=>by simp [ab,tl X,bN]
 have a1:∀a b c d,aa 1 (A++[.row 4 false [.agg [a,b,c,d]]]) (.p A.length)=some (.ptr A.length 0 1):=fun a b c d=>jk (es:=[a,b,c,d]) (k:=4) rfl (by omega)
 have a2:∀a b c d,aa 2 (A++[.row 4 false [.agg [a,b,c,d]]]) (.p A.length)=some (.ptr A.length 0 2):=fun a b c d=>jk (es:=[a,b,c,d]) (k:=4) rfl (by omega)
 have a3:∀a b c d,aa 3 (A++[.row 4 false [.agg [a,b,c,d]]]) (.p A.length)=some (.ptr A.length 0 3):=fun a b c d=>jk (es:=[a,b,c,d]) (k:=4) rfl (by omega)
 have r1:∀a b c d,ab false 1 (A++[.row 4 false [.agg [a,b,c,d]]]) (.ptr A.length 0 1)=some b:=fun a b c d=>ku (es:=[a,b,c,d]) (k:=4) rfl rfl
 have r2:∀a b c d,ab false 1 (A++[.row 4 false [.agg [a,b,c,d]]]) (.ptr A.length 0 2)=some c:=fun a b c d=>ku (es:=[a,b,c,d]) (k:=4) rfl rfl
 have r4:∀a b c d,ab true 4 (A++[.row 4 false [.agg [a,b,c,d]]]) (.p A.length)=some (.agg [a,b,c,d]):=fun a b c d=>Aq (es:=[a,b,c,d]) (k:=4) rfl (by omega)
 have s1:∀a b c d z,aA 1 (A++[.row 4 false [.agg [a,b,c,d]]]) (.ptr A.length 0 1) (.z z)=some (A++[.row 4 false [.agg [a,.z z,c,d]]]):=fun a b c d z=>xL (es:=[a,b,c,d]) (k:=4) rfl (by omega) (by omega) rfl rfl
 have s2:∀a b c d z,aA 1 (A++[.row 4 false [.agg [a,b,c,d]]]) (.ptr A.length 0 2) (.z z)=some (A++[.row 4 false [.agg [a,b,.z z,d]]]):=fun a b c d z=>xL (es:=[a,b,c,d]) (k:=4) rfl (by omega) (by omega) rfl rfl
 have s3:∀a b c d z,aA 1 (A++[.row 4 false [.agg [a,b,c,d]]]) (.ptr A.length 0 3) (.z z)=some (A++[.row 4 false [.agg [a,b,c,.z z]]]):=fun a b c d z=>xL (es:=[a,b,c,d]) (k:=4) rfl (by omega) (by omega) rfl rfl
 have sA:∀a b c d x y z u,aA 4 (A++[.row 4 false [.agg [a,b,c,d]]]) (.p A.length) (.agg [.z x,.z y,.z z,.z u])=some (A++[.row 4 false [.agg [.z x,.z y,.z z,.z u]]]):=fun a b c d x y z u=>by simp [aA,bL]
 have b0:=be i o.length .i64
 rw [Su hi] at b0
 have b1:=aP i (by omega)
 have b2:=be (i+1) o.length .i64
 have b3:af .eql (.z bd) (.z 2)=some (.bool (decide (bd=2))):=bu _ _
 have b4:af .add (.z t0) (.z 1)=some (.z (t0+1)):=aY (by simp only at hch hb1; omega)
 have b6:af .add (.z w) (.z tr)=some (.z (w+tr)):=aY (by simp only at htr; omega)
 obtain ⟨nx,hnx⟩:∃x,x=oP o i:=⟨_,rfl⟩
 have b5:af .neq (.z nx) (.z (t0+1))=some (.bool (decide (nx≠t0+1))):=cH _ _
 obtain ⟨ar,har⟩:∃a,a=tj ⟨ch,pk,pl,tr,bd⟩ o i:=⟨_,rfl⟩
 have hae:ar=⟨t0,nx,w+(if bd=2\/nx≠t0+1 then tr else 0),if i+1<o.length then 0 else 1⟩:=by
  rw [har,hnx,htt,hww]; rfl
 have hgX:=hg.app [.row 4 false [cQ ar]]
 obtain ⟨B,k1,k2,k3,k4⟩:=GJ (fun _ _ _=>none) hgX (xs:=[ar]) (by simp) (by simp; omega)
 refine ⟨B,?_,⟨by rw [k4 0 (by omega),Sy ht0]; exact ht,by rw [k4 1 (by omega),Sy h10]; exact h1,by rw [<-har]; exact k2⟩⟩
 rw [<-hww]
 have k1:H45 (fun _ _ _=>none) [.p 2,.fs 4 [cQ ar]] (A++[.row 4 false [cQ ar]])=some (.tup [],B):=k1
 rw [show cQ ar=.agg [.z t0,.z nx,.z (w+(if bd=2\/nx≠t0+1 then tr else 0)),.z (if i+1<o.length then 0 else 1)] by rw [hae]; rfl] at k1
 have hsl:∀x y z u:Int,bp 4 [.agg [.z x,.z y,.z z,.z u]]=some (.fs 4 [.agg [.z x,.z y,.z z,.z u]]):=fun x y z u=>rfl
 obtain ⟨N,hN⟩:∃n,n=A.length:=⟨_,rfl⟩
 obtain ⟨i1,hi1⟩:∃n,n=i+1:=⟨_,rfl⟩
 have x2:i1<o.length->∀A,ae 1 A ov (.z (i1:Int))=some (.fp [.z nx]):=fun h A=>by
  have e:o[i1]?=some nx:=by rw [hnx,oP,SA (by omega),<-hi1,Sr,Sq h]; rfl
  exact ho.int (A:=A) _ _ e .i64
 have hnx0:¬ i1<o.length->nx=0:=fun h=>by rw [hnx,oP,SD (by omega)]
 have bx:∀z,aR 4 (.agg [.z z,.z z,.z z,.z z]) A=some (.p N,A++[.row 4 false [.agg [.z z,.z z,.z z,.z z]]]):=fun z=>by rw [hN]; rfl
 rw [<-hi1] at b1 b2 k1 ⊢
 rw [<-hN] at a1 a2 a3 r1 r2 r4 s1 s2 s3 sA
 obtain ⟨t1,ht1⟩:∃x,x=t0+1:=⟨_,rfl⟩
 rw [<-ht1] at b4 b5 k1
 obtain ⟨w1,hw1⟩:∃x,x=w+tr:=⟨_,rfl⟩
 rw [<-hw1] at b6
 by_cases hc:i1<o.length
 ·rw [Su hc] at b2
  have x2:=x2 hc
  rw [SA hc] at k1
  by_cases hd:bd=2
  ·rw [Su hd] at b3
   rw [SA (.inl hd),<-hw1] at k1
   simp [iz,b0,b1,b2,b3,b6,x1,x2,ov0,hlen,t3,t4,l3,l4,a1,a2,a3,r2,r4,s1,s2,s3,sA,bx,hsl,k1,-af,-ab,-aA,-aa,-ae,-aj,-bp,-aR]
  ·rw [Ss hd] at b3
   by_cases he:nx≠t1
   ·rw [Su he] at b5
    rw [SA (.inr he),<-hw1] at k1
    simp [iz,b0,b1,b2,b3,b4,b5,b6,x1,x2,ov0,hlen,t3,t4,l3,l4,a1,a2,a3,r1,r2,r4,s1,s2,s3,sA,bx,hsl,k1,-af,-ab,-aA,-aa,-ae,-aj,-bp,-aR]
   ·rw [Ss he] at b5
    rw [SD (fun h=>h.elim hd he),UW] at k1
    simp [iz,b0,b1,b2,b3,b4,b5,x1,x2,ov0,hlen,t4,l4,a1,a3,r1,r4,s1,s3,sA,bx,hsl,k1,-af,-ab,-aA,-aa,-ae,-aj,-bp,-aR]
 ·rw [Ss hc] at b2
  have hnx0:=hnx0 hc
  rw [SD hc] at k1
  subst hnx0
  by_cases hd:bd=2
  ·rw [Su hd] at b3
   rw [SA (.inl hd),<-hw1] at k1
   simp [iz,b0,b1,b2,b3,b6,x1,ov0,hlen,t3,t4,l3,l4,a2,r2,r4,s2,sA,bx,hsl,k1,-af,-ab,-aA,-aa,-ae,-aj,-bp,-aR]
  ·rw [Ss hd] at b3
   by_cases he:(0:Int)≠t1
   ·rw [Su he] at b5
    rw [SA (.inr he),<-hw1] at k1
    simp [iz,b0,b1,b2,b3,b4,b5,b6,x1,ov0,hlen,t3,t4,l3,l4,a1,a2,r1,r2,r4,s2,sA,bx,hsl,k1,-af,-ab,-aA,-aa,-ae,-aj,-bp,-aR]
   ·rw [Ss he] at b5
    rw [SD (fun h=>h.elim hd he),UW] at k1
    simp [iz,b0,b1,b2,b3,b4,b5,x1,ov0,hlen,t4,l4,a1,r1,r4,sA,bx,hsl,k1,-af,-ab,-aA,-aa,-ae,-aj,-bp,-aR]
end Clu
namespace Clu
open Go
open Cy (GC je df bC bH cW aM aV az bq cQ bT cA cR okA)
def fnL (T:aW):AV:=if T.blades=2 then .func (.func 81) [] [] else .func (.func 80) [] []
theorem EY {T:aW} (_hv:aT T) (ho:SlA 1 (ak o) ov) (hl:o.length<=200) (j:Int) (hj : -1000<=j/\j<=1000) (A:ac):(aq GC pB).call (fnL T) [ov,.z j] A=some (lkA (lkT T o j).1 (lkT T o j).2.1 (lkT T o j).2.2,A):=by
 have f1:∀n,frz A n ov=ov:=fun n=>ho.frz n
 unfold fnL lkT
 split
 ·have m:=ML ov j
  simp [m,f1,lkA,aM,-frz]
 ·have m:=MM ho hl hj
  simp [m,f1,lkA,aM,-frz]
theorem FD (T:aW) (o:List Int) (j:Int):(lkT T o j).2.2=0\/(lkT T o j).2.2=1:=by
 unfold lkT
 split
 ·exact .inr rfl
 ·simp only
  split
  ·exact .inr rfl
  ·exact .inl rfl
theorem Ei {T:aW} (hO:o∈aN T) (hcv:SlA 2 (T.ch.map chA) chv) (ho:SlA 1 (ak o) ov) {A:ac} {l:List bq} (hI:I19 A T chv ov l) (hl:l.length<=100) (hi:i<T.ch.length) :
  ∃B,run (aq GC pB) 300 [.code ot] (pY (.p 1) (.z (dt T)) (.p 2) (fnL T) chv (.z (T.ch.length:Int)) (.z (i:Int))) A =
   some (.normal (pY (.p 1) (.z (dt T)) (.p 2) (fnL T) chv (.z (T.ch.length:Int)) (.z ((i+1:Nat):Int))) B)/\I19 B T chv ov (l++rp T o i):=by
 obtain ⟨hv,hol,_,_⟩:=cd hO
 have hw:=lO hv
 have hch:=hv.2.2.2.1
 obtain ⟨ht,h1,hg⟩:=hI
 have ht0:=(Sp.1 ht).1
 have h10:=(Sp.1 h1).1
 have hx0:T.ch.getD i (0,0)=T.ch[i]:=by rw [Sr,Sq hi]; rfl
 have hxv:=hv.1 _ (SC hi)
 have x1:∀A,ae 2 A chv (.z (i:Int))=some (.fp [.z (T.ch.getD i (0,0)).1,.z (T.ch.getD i (0,0)).2]):=fun A=>by
  rw [hx0]
  exact hcv.index (A:=A) (x:=chA T.ch[i]) (by simp [hi]) rfl (by omega) .i64
 have cl:=EY hv ho (by omega) ((i:Int)+1) (by omega)
 have lb:=FD T o ((i:Int)+1)
 have ha:rp T o i=rp T o i:=rfl
 conv at ha=>rhs; unfold rp
 rw [ha]
 obtain ⟨⟨k1,k2,k3⟩,hk⟩:∃k,k=lkT T o ((i:Int)+1):=⟨_,rfl⟩
 rw [<-hk] at cl lb ⊢
 obtain ⟨⟨tm,sy⟩,hx⟩:∃x,x=T.ch.getD i (0,0):=⟨_,rfl⟩
 rw [hx0] at hx
 rw [<-hx] at hxv
 rw [hx0,<-hx] at x1
 rw [hx0,<-hx]
 simp only [lJ] at cl lb x1 hxv ⊢
 obtain ⟨w,hww⟩:∃w,w=dt T:=⟨_,rfl⟩
 rw [<-hww] at hw ⊢
 have ov0:∀X,ab false 1 (A++X) (.p 1)=some ov:=fun X=>by
  have h:(A++X)[1]?=some (.q [ov]):=by rw [Sy h10]; exact h1
  rcases ho with ⟨rfl,_⟩ | rfl <;> simp [h]
 have b0:=be i T.ch.length .i64
 rw [Su hi] at b0
 have b1:=aP i (by omega)
 have b2:af .add (.z (i:Int)) (.z 1)=some (.z ((i:Int)+1)):=aY (by omega)
 have b3:af .add (.z w) (.z tm)=some (.z (w+tm)):=aY (by omega)
 have b4:af .add (.z (w+tm)) (.z sy)=some (.z (w+tm+sy)):=aY (by omega)
 have b5:qM .neg (.z (w+tm+sy))=some (.z (-(w+tm+sy))):=dZ (by omega)
 have b6:qM .neg (.z k3)=some (.z (-k3)):=dZ (by omega)
 obtain ⟨A1,hA1⟩:∃X,X=A++[Ent.row 2 false [.agg [.z tm,.z sy]]]:=⟨_,rfl⟩
 have ov1:ab false 1 A1 (.p 1)=some ov:=by rw [hA1]; exact ov0 _
 have bx:aR 2 (.agg [.z 0,.z 0]) A=some (.p A.length,A++[.row 2 false [.agg [.z 0,.z 0]]]):=rfl
 have s0:aA 2 (A++[.row 2 false [.agg [.z 0,.z 0]]]) (.p A.length) (.agg [.z tm,.z sy])=some A1:=by simp [aA,bL,hA1]
 have bx1:aR 3 (.agg [.z 0,.z 0,.z 0]) A1=some (.p A1.length,A1++[.row 3 false [.agg [.z 0,.z 0,.z 0]]]):=rfl
 have s1:aA 3 (A1++[.row 3 false [.agg [.z 0,.z 0,.z 0]]]) (.p A1.length) (lkA k1 k2 k3)=some (A1++[.row 3 false [lkA k1 k2 k3]]):=by simp [aA,bL,lkA]
 have hA1n:∀X,(A1++X)[A.length]?=some (Ent.row 2 false [.agg [.z tm,.z sy]]):=fun X=>by rw [Sy (by rw [hA1]; simp),hA1]; simp
 have f0:∀X,aa 0 (A1++X) (.p A.length)=some (.p A.length):=fun X=>by simp [aa,hA1n X]
 have f1:∀X,aa 1 (A1++X) (.p A.length)=some (.ptr A.length 0 1):=fun X=>by simp [aa,hA1n X]
 have e0:∀X,ab false 1 (A1++X) (.p A.length)=some (.z tm):=fun X=>by simp [ab,hA1n X,bN]
 have e1:∀X,ab false 1 (A1++X) (.ptr A.length 0 1)=some (.z sy):=fun X=>by simp [ab,hA1n X,bN]
 have g0:aa 0 (A1++[.row 3 false [lkA k1 k2 k3]]) (.p A1.length)=some (.p A1.length):=jk (es:=[.z k1,.z k2,.z k3]) (k:=3) rfl (by omega)
 have g1:aa 1 (A1++[.row 3 false [lkA k1 k2 k3]]) (.p A1.length)=some (.ptr A1.length 0 1):=jk (es:=[.z k1,.z k2,.z k3]) (k:=3) rfl (by omega)
 have g2:aa 2 (A1++[.row 3 false [lkA k1 k2 k3]]) (.p A1.length)=some (.ptr A1.length 0 2):=jk (es:=[.z k1,.z k2,.z k3]) (k:=3) rfl (by omega)
 have d0:ab false 1 (A1++[.row 3 false [lkA k1 k2 k3]]) (.p A1.length)=some (.z k1):=ku (es:=[.z k1,.z k2,.z k3]) (k:=3) rfl rfl
 have d1:ab false 1 (A1++[.row 3 false [lkA k1 k2 k3]]) (.ptr A1.length 0 1)=some (.z k2):=ku (es:=[.z k1,.z k2,.z k3]) (k:=3) rfl rfl
 have d2:ab false 1 (A1++[.row 3 false [lkA k1 k2 k3]]) (.ptr A1.length 0 2)=some (.z k3):=ku (es:=[.z k1,.z k2,.z k3]) (k:=3) rfl rfl
 have hgX:GAt (A1++[.row 3 false [lkA k1 k2 k3]]) 2 l:=by rw [hA1]; exact (hg.app _).app _
 obtain ⟨B,q1,q2,q3,q4⟩:=GJ (fun _ _ _=>none) hgX (xs:=[⟨k1,k2,w+tm,k3⟩,⟨k2,k1,-(w+tm+sy),-k3⟩]) (by simp) (by simp; omega)
 have hA10:∀j,j<A.length->(A1++[Ent.row 3 false [lkA k1 k2 k3]])[j]?=A[j]?:=fun j hj=>by
  rw [hA1,SO,Sy hj]
 refine ⟨B,?_,⟨by rw [q4 0 (by omega),hA10 0 ht0]; exact ht,by rw [q4 1 (by omega),hA10 1 h10]; exact h1,q2⟩⟩
 obtain ⟨w1,hw1⟩:∃x,x=w+tm:=⟨_,rfl⟩
 rw [<-hw1] at b3 b4 b5 q1
 obtain ⟨w2,hw2⟩:∃x,x=w1+sy:=⟨_,rfl⟩
 rw [<-hw2] at b4 b5 q1
 obtain ⟨w3,hw3⟩:∃x,x = -w2:=⟨_,rfl⟩
 rw [<-hw3] at b5 q1
 obtain ⟨k4,hk4⟩:∃x,x = -k3:=⟨_,rfl⟩
 rw [<-hk4] at b6 q1
 have q1:H45 (fun _ _ _=>none) [.p 2,.fs 4 [.agg [.z k1,.z k2,.z w1,.z k3],.agg [.z k2,.z k1,.z w3,.z k4]]] (A1++[.row 3 false [lkA k1 k2 k3]])=some (.tup [],B):=q1
 have hsl:bp 4 [.agg [.z k1,.z k2,.z w1,.z k3],.agg [.z k2,.z k1,.z w3,.z k4]]=some (.fs 4 [.agg [.z k1,.z k2,.z w1,.z k3],.agg [.z k2,.z k1,.z w3,.z k4]]):=rfl
 have cl:=cl A1
 obtain ⟨j1,hj1⟩:∃x,x=(i:Int)+1:=⟨_,rfl⟩
 rw [<-hj1] at b2 cl
 obtain ⟨i1,hi1⟩:∃n,n=i+1:=⟨_,rfl⟩
 have hj2:j1=(i1:Int):=by omega
 subst hj2
 rw [<-hi1] at b1 ⊢
 obtain ⟨F,hF⟩:∃F,F=fnL T:=⟨_,rfl⟩
 rw [<-hF] at cl ⊢
 obtain ⟨L,hL⟩:∃L,L=lkA k1 k2 k3:=⟨_,rfl⟩
 rw [<-hL] at cl s1 g0 g1 g2 d0 d1 d2 q1
 simp [ot,b0,b1,b3,b4,b5,b6,x1,ov1,bx,s0,bx1,s1,f0,f1,e0,e1,g0,g1,g2,d0,d1,d2,hsl,cl,q1,-af,-ab,-aA,-aa,-ae,-bp,-aR,-qM]
def M19:aU:=fun args=>evF (aq GC pB) 300 DI 4 args
theorem xU:cm prog GC 19 M19:=cm.of_ev (E:=aq GC pB) (ax wJ) rfl (by kernel_rfl) Cu 4 fun _ _ h=>⟨300,h⟩
def EZ (r:Option (List bq)):AV:=.tup [slA 4 ((r.getD []).map cQ),.z (if r.isSome then 0 else 130)]
theorem wh (T:aW) (o:List Int) (i:Nat):((List.range (i+1)).map (tj T o))=(List.range i).map (tj T o)++[tj T o i]:=by
 rw [T7,TD]; rfl
theorem ro (T:aW) (o:List Int) (i:Nat):((List.range (i+1)).flatMap (rp T o))=(List.range i).flatMap (rp T o)++rp T o i:=by
 rw [T7,Uu]; simp
theorem rn (T:aW) (o:List Int) (i:Nat):((List.range i).flatMap (rp T o)).length=2*i:=by
 induction i with
 | zero=>rfl
 | succ i ih=>rw [ro,SW,ih]; rfl
theorem It {T:aW} (hO:o∈aN T) (ho:SlA 1 (ak o) ov):∀(c i:Nat) (A:ac) (m:Nat),i+c=o.length->I19 A T chv ov ((List.range i).map (tj T o))->c<m ->
  ∃B,bG (evC (aq GC pB) 300 iz) j8 m (pZ (.p 0) (.p 1) (.z (dt T)) (.p 2) ov (.z (o.length:Int)) (.z (i:Int))) A =
   some (.exit 0 ((pZ (.p 0) (.p 1) (.z (dt T)) (.p 2) ov (.z (o.length:Int)) (.z (o.length:Int))).set 19 .f) B)/\I19 B T chv ov ((List.range o.length).map (tj T o)):=by
 obtain ⟨hv,hol,_,_⟩:=cd hO
 have hn4:=hv.2.2.2.1
 intro c
 induction c with
 | zero=>
  intro i A m hi hI hm
  obtain ⟨m,rfl⟩:∃j,m=j+1:=⟨m-1,by omega⟩
  obtain rfl:i=o.length:=by omega
  refine ⟨A,?_,hI⟩
  have b0:=be o.length o.length .i64
  rw [Ss (by omega)] at b0
  rw [aG,CV]
  simp [iz,b0,-af]
 | succ c ih=>
  intro i A m hi hI hm
  obtain ⟨m,rfl⟩:∃j,m=j+1:=⟨m-1,by omega⟩
  obtain ⟨B,h1,h2⟩:=Ej hO ho hI (by simp; omega) (i:=i) (by omega)
  rw [<-wh] at h2
  obtain ⟨C,h3,h4⟩:=ih (i+1) B m (by omega) h2 (by omega)
  refine ⟨C,?_,h4⟩
  rw [aG,CV,h1]
  exact h3
theorem Is {T:aW} (hO:o∈aN T) (hcv:SlA 2 (T.ch.map chA) chv) (ho:SlA 1 (ak o) ov) {l0:List bq} (hl0:l0.length<=50):∀(c i:Nat) (A:ac) (m:Nat),i+c=T.ch.length->I19 A T chv ov (l0++(List.range i).flatMap (rp T o))->c<m ->
  ∃B,bG (evC (aq GC pB) 300 ot) j7 m (pY (.p 1) (.z (dt T)) (.p 2) (fnL T) chv (.z (T.ch.length:Int)) (.z (i:Int))) A =
   some (.exit 2 ((pY (.p 1) (.z (dt T)) (.p 2) (fnL T) chv (.z (T.ch.length:Int)) (.z (T.ch.length:Int))).set 25 .f) B)/\I19 B T chv ov (l0++(List.range T.ch.length).flatMap (rp T o)):=by
 obtain ⟨hv,hol,_,_⟩:=cd hO
 have hn4:=hv.2.2.2.1
 intro c
 induction c with
 | zero=>
  intro i A m hi hI hm
  obtain ⟨m,rfl⟩:∃j,m=j+1:=⟨m-1,by omega⟩
  obtain rfl:i=T.ch.length:=by omega
  refine ⟨A,?_,hI⟩
  have b0:=be T.ch.length T.ch.length .i64
  rw [Ss (by omega)] at b0
  rw [aG,CU]
  simp [ot,b0,-af]
 | succ c ih=>
  intro i A m hi hI hm
  obtain ⟨m,rfl⟩:∃j,m=j+1:=⟨m-1,by omega⟩
  obtain ⟨B,h1,h2⟩:=Ei hO hcv ho hI (by rw [SW,rn]; omega) (i:=i) (by omega)
  rw [SO,<-ro] at h2
  obtain ⟨C,h3,h4⟩:=ih (i+1) B m (by omega) h2 (by omega)
  refine ⟨C,?_,h4⟩
  rw [aG,CU,h1]
  exact h3
theorem GH {T:aW} {chv:AV} (hcv:SlA 2 (T.ch.map chA) chv) (hl:T.ch.length<=200) (ho:SlA 1 (ak o) ov):M19 [ai T chv,ov]=some (EZ (xD T o)):=by
 have m14:=rt hcv hl
 have m41:=zc ho (ll:=aN T)
 have ft:=fun A=>aQ (T:=T) (fun A n=>hcv.frz (A:=A) n) A 3
 have fo:∀A n,frz A n ov=ov:=fun A n=>ho.frz n
 have fO:∀A,frz A 4 (dR (aN T))=dR (aN T):=fun A=>(aZ 1 _).frz 4
 have nO:bR 4 (dR (aN T))=true:=(aZ 1 _).noRef 4
 have lt:∀X,ab true 5 (.row 5 false [ai T chv] :: X) (.p 0)=some (ai T chv):=fun X=>rfl
 have lo:∀a X,ab false 1 (a :: .q [ov] :: X) (.p 1)=some ov:=fun a X=>by
  rcases ho with ⟨rfl,_⟩ | rfl <;> simp
 have fF:frz [.row 5 false [ai T chv],.q [ov]] 4 (.func (.func 45) [] [.p 1])=fnO ov:=by
  have:cellsOf ov=[ov]:=by rcases ho with ⟨rfl,_⟩ | rfl <;> rfl
  have hs:ov.solid=true:=by rcases ho with ⟨rfl,_⟩ | rfl <;> rfl
  simp [frz,this,fo,fnO,hs,-cellsOf,-AV.solid]
 have bx0:aR 5 (ai T chv) []=some (.p 0,[.row 5 false [ai T chv]]):=rfl
 have bx1:aR 1 ov [.row 5 false [ai T chv]]=some (.p 1,[.row 5 false [ai T chv],.q [ov]]):=by
  rcases ho with ⟨rfl,_⟩ | rfl <;> rfl
 have bx2:∀t:AV,aR 1 .nilS [.row 5 false [t],.q [ov]]=some (.p 2,[.row 5 false [t],.q [ov],.q [.nilS]]):=fun t=>rfl
 unfold M19 xD
 rw [fU _ _ rfl]
 by_cases hO:o∈aN T
 ·obtain ⟨hv,hol,_,_⟩:=cd hO
  have hn4:=hv.2.2.2.1
  have m41:=m41 (TK (it T) (by omega)) (fun l hl=>by have:=(cd hl).2.1; omega)
  rw [Su hO] at m41
  rw [SA hO]
  have m44:=MU chv hv
  have l4:∀X,aa 4 (.row 5 false [ai T chv] :: X) (.p 0)=some (.ptr 0 0 4):=fun X=>rfl
  have e0:∀X,aa 0 (.row 5 false [ai T chv] :: X) (.p 0)=some (.p 0):=fun X=>rfl
  obtain ⟨B1,h1,h2⟩:=It hO ho (chv:=chv) o.length 0 [.row 5 false [ai T chv],.q [ov],.q [.nilS]] 300 (by omega) ⟨rfl,rfl,⟨.nilS,rfl,.inl ⟨rfl,rfl⟩⟩⟩ (by omega)
  have hB1:∀ {x},B1[0]?=x->B1[0]?=x:=id
  have l4b:aa 4 B1 (.p 0)=some (.ptr 0 0 4):=by simp [aa,h2.t]
  have l4c:ab false 1 B1 (.ptr 0 0 4)=some (.z T.blades):=by simp [ab,h2.t,ai,bN]
  have l0b:aa 0 B1 (.p 0)=some (.p 0):=by simp [aa,h2.t]
  have l0c:ab false 1 B1 (.p 0)=some chv:=by simp [ab,h2.t,ai,bN]
  have iv:iC false 3 1 zK (.z T.blades)=some (fnL T):=by
   rcases hv.2.2.2.2 with h | h <;> rw [h] <;> unfold fnL <;> rw [h] <;> rfl
  have hlen:=hcv.len
  rw [SF] at hlen
  have hlo:=ho.len
  rw [az] at hlo
  have h2':I19 B1 T chv ov ((List.range o.length).map (tj T o)++(List.range 0).flatMap (rp T o)):=by simpa using h2
  obtain ⟨B2,h3,h4⟩:=Is hO hcv ho (l0:=(List.range o.length).map (tj T o)) (by simp; omega) T.ch.length 0 B1 300 (by omega) h2' (by omega)
  obtain ⟨v,g1,g2,g3⟩:=h4.g.frz
  have g2:=g2 0
  have g3:=g3 0
  obtain ⟨R,hR⟩:∃R,R=slA 4 ((bM T o).map cQ):=⟨_,rfl⟩
  rw [show (List.range o.length).map (tj T o)++(List.range T.ch.length).flatMap (rp T o)=bM T o from rfl,<-hR] at g2
  have hRR:EZ (some (bM T o))=.tup [R,.z 0]:=by rw [hR]; rfl
  rw [hRR]
  have h1:bG (evC (aq GC pB) 300 iz) j8 300 (pZ (.p 0) (.p 1) (.z (dt T)) (.p 2) ov (.z (o.length:Int)) (.z 0)) [.row 5 false [ai T chv],.q [ov],.q [.nilS]]=_:=h1
  have h3:bG (evC (aq GC pB) 300 ot) j7 300 (pY (.p 1) (.z (dt T)) (.p 2) (fnL T) chv (.z (T.ch.length:Int)) (.z 0)) B1=_:=h3
  obtain ⟨t,htt⟩:∃t,t=ai T chv:=⟨_,rfl⟩
  obtain ⟨F,hF⟩:∃F,F=fnL T:=⟨_,rfl⟩
  obtain ⟨Q,hQ⟩:∃F,F=dR (aN T):=⟨_,rfl⟩
  obtain ⟨w,hw⟩:∃F,F=dt T:=⟨_,rfl⟩
  rw [<-htt] at m14 ft lt fF bx0 bx1 m44 h1 ⊢
  rw [<-hF] at iv h3
  rw [<-hQ] at m14 m41 fO nO
  rw [<-hw] at m44 h1 h3
  have cb:∀x:AV,(cellsOf x).length=(cellsOf x).length:=fun _=>rfl
  have ct:(cellsOf t).length=5:=by rw [htt]; rfl
  have co:(cellsOf ov).length=1:=by rcases ho with ⟨rfl,_⟩ | rfl <;> rfl
  have fT:frz B2 4 (.tup [v,.z 0])=.tup [R,.z 0]:=by
   rw [<-g2]; rfl
  have rT:bA B2 4 (.tup [v,.z 0])=true:=by
   have g3:bA B2 3 v=true:=g3
   simp [bA,g3]
  simp [DI,bx0,bx1,bx2,fT,rT,ct,co,lt,lo,m14,m41,m44,ft,fO,nO,fF,Ll h1,Lk h3,l4b,l4c,l0b,l0c,iv,hlen,hlo,Du,g1,-aR,-ab,-aa,-aj,-frz,-cellsOf]
 ·have hll:(aN T).length<=256:=it T
  have m41:=m41 hll (fun l hl=>by have:=cd hl; have:=this.1.2.2.2.1; omega)
  rw [Ss hO] at m41
  rw [SD hO]
  obtain ⟨t,htt⟩:∃t,t=ai T chv:=⟨_,rfl⟩
  obtain ⟨Q,hQ⟩:∃F,F=dR (aN T):=⟨_,rfl⟩
  rw [<-htt] at m14 ft lt fF bx0 bx1 ⊢
  rw [<-hQ] at m14 m41 fO nO
  have ct:(cellsOf t).length=5:=by rw [htt]; rfl
  have co:(cellsOf ov).length=1:=by rcases ho with ⟨rfl,_⟩ | rfl <;> rfl
  have fT:∀A,frz A 4 (.tup [.nilS,.z 130])=.tup [.nilS,.z 130]:=fun A=>rfl
  have rT:∀A,bA A 4 (.tup [.nilS,.z 130])=true:=fun A=>rfl
  simp [DI,bx0,bx1,fT,rT,ct,co,lt,m14,m41,ft,fO,nO,fF,-aR,-ab,-aa,-aj,-frz,-cellsOf]
  rfl
end Clu
namespace Clu
open Go
open Cy (GC je df bC bH cW aM aV az bq cQ bT cA cR okA smM smT lvM lvT gu dG ey bS)
theorem yA (h:i<o.length):o.getD i 0∈o:=by
 rw [Sr,Sq h]; exact SC h
theorem xC {T:aW} (hO:o∈aN T):cR (o.length:Int) (bM T o)/\∀x∈bM T o,x.inR:=by
 obtain ⟨hv,hol,_,_⟩:=cd hO
 have hbd:=gx hO
 have hw:=lO hv
 have hn1:=hv.2.2.1
 have hn4:=hv.2.2.2.1
 have htr:=hv.2.1.2.2
 have key:∀x∈bM T o,okA (o.length:Int) x:=fun x hx=>by
  rcases Uk.1 hx with hx | hx
  ·obtain ⟨i,hi,rfl⟩:=SU.1 hx
   rw [Ty] at hi
   have h1:=hbd _ (yA hi)
   have h2:0<=oP o i/\oP o i<=T.ch.length:=by
    unfold oP
    split
    ·rename_i h; exact hbd _ (yA h)
    ·omega
   refine ⟨?_,?_,?_,?_⟩ <;> simp only [tj] <;> (try split) <;> omega
  ·obtain ⟨i,hi,hx⟩:=U6.1 hx
   rw [Ty] at hi
   have hx0:T.ch.getD i (0,0)=T.ch[i]:=by rw [Sr,Sq hi]; rfl
   have hxv:=hv.1 _ (SC hi)
   rw [<-hx0] at hxv
   simp only [lJ] at hxv
   have lb:=FD T o ((i:Int)+1)
   have l1:0<=(lkT T o ((i:Int)+1)).1/\(lkT T o ((i:Int)+1)).1<=o.length-1/\0<=(lkT T o ((i:Int)+1)).2.1/\(lkT T o ((i:Int)+1)).2.1<=o.length-1:=by
    unfold lkT
    split <;> simp only <;> omega
   simp only [rp,Tj,List.not_mem_nil,or_false] at hx
   rcases hx with rfl | rfl <;> refine ⟨?_,?_,?_,?_⟩ <;> simp only <;> omega
 refine ⟨⟨by omega,?_,key⟩,fun x hx=>?_⟩
 ·unfold bM
  rw [SW,rn]
  simp; omega
 ·obtain ⟨h1,h2,h3,h4⟩:=key x hx
  refine ⟨?_,?_,?_,?_⟩ <;> unfold inI <;> omega
def fV (l:List bq):AV:=slA 4 (l.map cQ)
theorem ki {T:aW} (hO:o∈aN T):bT (fV (bM T o))=some (bM T o):=by
 obtain ⟨h1,h2⟩:=xC hO
 exact gu (by have:=h1.2.1; omega) h2
theorem nH {T:aW} (hO:o∈aN T):xD T o=some (bM T o):=SA hO
def pz (s:Option (Int × List Int)):Int:=match s with | none=>1000000 | some x=>x.1-1
def kr (T:aW) (s:Option (Int × List Int)) (o:List Int):Option (Int × List Int):=
 match smM (o.length:Int) (bM T o) 1 (pz s) with
 | some p=>some (p,o)
 | none=>s
def ul (T:aW):Option (Int × List Int):=(aN T).foldl (kr T) none
structure cy where
 period:Int
 order:List Int
 starts:List Int
 proof:List Int
def rD (T:aW) (x:Int × List Int):cy:=
 ⟨x.1,x.2,(lvM (x.2.length:Int) (bM T x.2) x.1).1,if x.1 > 1 then (lvM (x.2.length:Int) (bM T x.2) (x.1-1)).2.1 else []⟩
def gq (T:aW):Option cy:=(ul T).map (rD T)
def kT (s:cy):AV:=.agg [.z s.period,slA 1 (ak s.order),slA 1 (ak s.starts),slA 1 (ak s.proof)]
def tz:cy:=⟨0,[],[],[]⟩
def nG (r:Option cy):AV:=.tup [kT (r.getD tz),.z (if r.isSome then 0 else 130)]
def sOk (T:aW) (s:Option (Int × List Int)):Prop:=∀x,s=some x->1<=x.1/\x.1<=1000000/\x.2∈aN T
theorem wL {n:Nat} {l:List bq} {r:Int} (hp:cA hi) (h:smM (n:Int) l 1 hi=some r):1<=r/\r<=hi/\bS n l r/\¬ Cy.Pos l r/\∀q,1<=q->q<r->Cy.Pos l q:=by
 unfold smM at h
 rw [SA hp,SM] at h
 exact (Cy.tK (n:=n) (l:=l) hp (hi-1+2).toNat 1 (by omega)).1 r h
theorem HE {n:Nat} {l:List bq} (hp:cA hi) (hv:cR n l) (h:smM (n:Int) l 1 hi=none):∀q,1<=q->q<=hi->Cy.Pos l q:=by
 unfold smM at h
 rw [SA hp,SM] at h
 exact (Cy.tK (n:=n) (l:=l) hp (hi-1+2).toNat 1 (by omega)).2 h ⟨hv,by unfold cA; omega⟩
theorem uj {T:aW} (h:sOk T s) (hO:o∈aN T):sOk T (kr T s o):=by
 have hper:cA (pz s):=by
  unfold pz cA
  cases s with
  | none=>simp
  | some x=>have:=h x rfl; simp only; omega
 unfold kr
 cases hm:smM (o.length:Int) (bM T o) 1 (pz s) with
 | none=>exact h
 | some p=>
  obtain ⟨h1,h2,_⟩:=wL hper hm
  intro x hx
  injection hx with hx; subst hx
  exact ⟨h1,by unfold cA at hper; simp only; omega,hO⟩
theorem wa {T:aW} {q:List Int}:kr T (some (1,o)) q=some (1,o):=by
 unfold kr
 have hp:cA 0:=by unfold cA; omega
 cases hm:smM (q.length:Int) (bM T q) 1 ((1:Int)-1) with
 | none=>rfl
 | some p=>
  obtain ⟨h1,h2,_⟩:=wL (hi:=0) hp hm
  omega
theorem yF {T:aW}:∀l:List (List Int),l.foldl (kr T) (some (1,o))=some (1,o)
 | []=>rfl
 | q :: l=>by rw [Ta,wa,yF l]
theorem BR {T:aW}:∀(l:List (List Int)) (s:Option (Int × List Int)),(∀o∈l,o∈aN T)->sOk T s->sOk T (l.foldl (kr T) s)
 | [],_,_,h=>h
 | q :: l,s,hl,h=>BR l _ (fun o ho=>hl o (by simp [ho])) (uj h (hl q (by simp)))
def Ag:List (FuncId × aJ):=[(18,cU 4 M14),(19,cU 4 M19),(20,aE 4 Cy.M23),(21,Cy.H14)]
@[simp] theorem PT:aD Ag 18=some (cU 4 M14):=rfl
@[simp] theorem PS:aD Ag 19=some (cU 4 M19):=rfl
@[simp] theorem PR:aD Ag 20=some (aE 4 Cy.M23):=rfl
@[simp] theorem PQ:aD Ag 21=some Cy.H14:=rfl
theorem Hv:∀f M,aD Ag f=some M->au prog GC f M:=ag (au.of_pureF n9 4) (ag (au.of_pureF xU 4) (ag (au.of_pure Cy.J8 4) (ag Cy.n9 aB)))
def zA:AV:=.agg [.z 0,.nilS,.nilS,.nilS]
def bsA (s:Option (Int × List Int)):AV:=match s with | none=>.agg [.z 0,.nilS,.nilS,.nilS] | some x=>.agg [.z x.1,slA 1 (ak x.2),.nilS,.nilS]
def bsV (T:aW) (s:Option (Int × List Int)):AV:=match s with | none=>.nilS | some x=>fV (bM T x.2)
def R22 (A:ac) (T:aW) (chv:AV) (s:Option (Int × List Int)):ac:=A++[.row 5 false [ai T chv],.row 4 false [zA],.row 4 false [bsA s]]
theorem RH (A:ac) (T:aW) (chv:AV) (s:Option (Int × List Int)):(R22 A T chv s)[A.length]?=some (.row 5 false [ai T chv]):=by simp [R22]
theorem ME (A:ac) (T:aW) (chv:AV) (s:Option (Int × List Int)):(R22 A T chv s)[A.length+1]?=some (.row 4 false [zA]):=by simp [R22]
theorem Dp (A:ac) (T:aW) (chv:AV) (s:Option (Int × List Int)):(R22 A T chv s)[A.length+2]?=some (.row 4 false [bsA s]):=by simp [R22]
theorem Jd (A:ac) (T:aW) (chv:AV) (s s':Option (Int × List Int)):(R22 A T chv s).set (A.length+2) (.row 4 false [bsA s'])=R22 A T chv s':=by
 unfold R22
 rw [SQ _ _ (by omega),show A.length+2-A.length=2 by omega]
 rfl
def pOf (s:Option (Int × List Int)):Int:=match s with | none=>0 | some x=>x.1
theorem bQ (a b:Int):af .gtr (.z a) (.z b)=some (.bool (decide (a > b))):=by simp [af]
theorem jL (xs:List Int):(slA 1 (ak xs)).solid=true/\cellsOf (slA 1 (ak xs))=[slA 1 (ak xs)]:=by
 cases xs <;> exact ⟨rfl,rfl⟩
theorem HW {A:ac} {T:aW} (hcv:SlA 2 (T.ch.map chA) chF) (hz:∀X,frz (A++X) 4 (ai T chv)=ai T chF) (hs:sOk T s) (hi:i<(aN T).length) :
  (pz s<1->∃d6 d7 d8:AV,run (aq GC Ag) 300 [.code dL] (fX (.p A.length) (.p (A.length+1)) (.p (A.length+2)) (bsV T s) (dR (aN T)) (.z ((aN T).length:Int)) (.z (i:Int))) (R22 A T chv s) =
   some (.exit 0 [.u,.p A.length,.p (A.length+1),.u,.p (A.length+2),bsV T s,d6,d7,d8,.u,.u,dR (aN T),.z ((aN T).length:Int),.z (i:Int),.t,.t,.t,.u,.u,.u] (R22 A T chv s))) /\
  (¬ pz s<1->run (aq GC Ag) 300 [.code dL] (fX (.p A.length) (.p (A.length+1)) (.p (A.length+2)) (bsV T s) (dR (aN T)) (.z ((aN T).length:Int)) (.z (i:Int))) (R22 A T chv s) =
   some (.normal (fX (.p A.length) (.p (A.length+1)) (.p (A.length+2)) (bsV T (kr T s (aN T)[i])) (dR (aN T)) (.z ((aN T).length:Int)) (.z ((i+1:Nat):Int))) (R22 A T chv (kr T s (aN T)[i])))):=by
 obtain ⟨o,ho⟩:∃o,o=(aN T)[i]:=⟨_,rfl⟩
 have hO:o∈aN T:=by rw [ho]; exact SC hi
 obtain ⟨hv,hol,_,_⟩:=cd hO
 have hhi:pz s<=1000000/\0<=pz s:=by
  unfold pz
  cases s with
  | none=>simp
  | some x=>have:=hs x rfl; simp only; omega
 have hb:=aZ 1 ((aN T).map fun l=>slA 1 (ak l))
 rw [show slA 1 ((aN T).map fun l=>slA 1 (ak l))=dR (aN T) from rfl] at hb
 obtain ⟨q1,q2⟩:=jL o
 have he:((aN T).map fun l=>slA 1 (ak l))[i]?=some (slA 1 (ak o)):=by simp [hi,ho]
 have x1:=fun A=>hb.index1 (A:=A) he q1 q2 .i64
 have hos:=aZ 1 (ak o)
 have hlo:=hos.len
 rw [az] at hlo
 have m19:=GH (T:=T) hcv (by have:=hv.2.2.2.1; omega) hos
 rw [nH hO] at m19
 have m19:M19 [ai T chF,slA 1 (ak o)]=some (.tup [fV (bM T o),.z 0]):=m19
 have m23:∀hi,Cy.M23 [.z (o.length:Int),fV (bM T o),.z 1,.z hi]=some (smT (smM (o.length:Int) (bM T o) 1 hi)):=fun hi=>by
  simp only [Cy.M23,ki hO,Th]
 have m23:=m23 (pz s)
 have hbs:kr T s o=match smM (o.length:Int) (bM T o) 1 (pz s) with | some p=>some (p,o) | none=>s:=rfl
 rw [<-ho,hbs]
 have b0:=be i (aN T).length .i64
 rw [Su hi] at b0
 have b1:=aP i (by have:=it T; omega)
 have b2:=bQ (pOf s) 0
 have b3:af .sub (.z (pOf s)) (.z 1)=some (.z (pOf s-1)):=bK (by
  unfold pOf
  cases s with
  | none=>simp
  | some x=>have:=hs x rfl; simp only; omega)
 have hpp:(pOf s > 0->pz s=pOf s-1)/\(¬ pOf s > 0->pz s=1000000):=by
  unfold pOf pz
  cases s with
  | none=>simp
  | some x=>have:=hs x rfl; simp only; exact ⟨fun _=>trivial,fun h=>by omega⟩
 have b4:=bP (pz s) 1
 have ft:frz (R22 A T chv s) 4 (ai T chv)=ai T chF:=hz _
 have fo:∀A n,frz A n (slA 1 (ak o))=slA 1 (ak o):=fun A n=>hos.frz n
 have fa:∀A n,frz A n (fV (bM T o))=fV (bM T o):=fun A n=>(aZ 4 _).frz n
 have na:bR 4 (fV (bM T o))=true:=(aZ 4 _).noRef 4
 have lt:ab true 5 (R22 A T chv s) (.p A.length)=some (ai T chv):=by simp [ab,RH,ai]
 have f0:aa 0 (R22 A T chv s) (.p (A.length+2))=some (.p (A.length+2)):=by simp [aa,Dp]
 have l0:ab false 1 (R22 A T chv s) (.p (A.length+2))=some (.z (pOf s)):=by
  cases s <;> simp [ab,Dp,bsA,pOf,bN]
 have st:∀p,aA 4 (R22 A T chv s) (.p (A.length+2)) (.agg [.z p,slA 1 (ak o),.nilS,.nilS])=some (R22 A T chv (some (p,o))):=fun p=>by
  rw [<-Jd A T chv s (some (p,o))]
  simp [Dp,aA,bL,bsA]
 have fl:∀p,mT [.z 0,.nilS,.nilS,.nilS] [(0,(1,.z p)),(1,(1,slA 1 (ak o)))]=some [.z p,slA 1 (ak o),.nilS,.nilS]:=fun p=>by
  have c1:cellsOf (AV.int .i64 p)=[.z p]:=rfl
  have c2:(AV.int .i64 p).solid=true:=rfl
  simp [mT,q1,q2,c1,c2,-cellsOf,-AV.solid]
 have fl2:∀x,mT [.z 0,.nilS,.nilS,.nilS] x=mT [.z 0,.nilS,.nilS,.nilS] x:=fun _=>rfl
 obtain ⟨W,hW⟩:∃W,W=slA 1 (ak o):=⟨_,rfl⟩
 rw [<-hW] at x1 hlo m19 fo st fl
 have hbv:∀p,bsV T (some (p,o))=fV (bM T o):=fun _=>rfl
 obtain ⟨sm,hsm⟩:∃sm,sm=smM (o.length:Int) (bM T o) 1 (pz s):=⟨_,rfl⟩
 rw [<-hsm] at m23 ⊢
 obtain ⟨V,hV⟩:∃V,V=fV (bM T o):=⟨_,rfl⟩
 rw [<-hV] at m19 m23 fa na
 simp only [<-hV] at hbv
 obtain ⟨tF,htF⟩:∃t,t=ai T chF:=⟨_,rfl⟩
 rw [<-htF] at m19 ft
 obtain ⟨t,ht⟩:∃t,t=ai T chv:=⟨_,rfl⟩
 rw [<-ht] at ft lt
 obtain ⟨h,hh⟩:∃h,h=pz s:=⟨_,rfl⟩
 rw [<-hh] at m23 b4 hpp ⊢
 obtain ⟨p,hp⟩:∃h,h=pOf s:=⟨_,rfl⟩
 rw [<-hp] at b2 b3 hpp l0
 obtain ⟨i1,hi1⟩:∃n,n=i+1:=⟨_,rfl⟩
 rw [<-hi1] at b1 ⊢
 obtain ⟨Q,hQ⟩:∃Q,Q=dR (aN T):=⟨_,rfl⟩
 rw [<-hQ] at x1 ⊢
 obtain ⟨A0,hA0⟩:∃X,X=R22 A T chv s:=⟨_,rfl⟩
 rw [<-hA0] at lt f0 l0 st ft ⊢
 obtain ⟨n0,hn0⟩:∃n,n=A.length:=⟨_,rfl⟩
 obtain ⟨n1,hn1⟩:∃n,n=A.length+1:=⟨_,rfl⟩
 obtain ⟨n2,hn2⟩:∃n,n=A.length+2:=⟨_,rfl⟩
 rw [<-hn2] at f0 l0 st
 rw [<-hn0] at lt
 rw [<-hn1,<-hn2,<-hn0]
 obtain ⟨U,hU⟩:∃U,U=bsV T s:=⟨_,rfl⟩
 rw [<-hU]
 refine ⟨fun h1=>⟨W,V,.z h,?_⟩,fun h1=>?_⟩
 ·have hp0:p > 0:=by
   by_cases hp0:p > 0
   ·exact hp0
   ·have:=hpp.2 hp0; omega
  rw [Su hp0] at b2
  rw [<-hpp.1 hp0] at b3
  rw [Su h1] at b4
  simp [dL,x1,lt,ft,fo,m19,f0,l0,b0,b2,b3,b4,-af,-ab,-aa,-ae,-frz]
 ·rw [Ss h1] at b4
  by_cases hp0:p > 0
  ·rw [Su hp0] at b2
   rw [<-hpp.1 hp0] at b3
   cases sm with
   | none=>
    simp only [<-hU,<-hA0]
    simp [dL,x1,lt,ft,fo,fa,aM,na,smT,m19,m23,hlo,f0,l0,b0,b1,b2,b3,b4,-af,-ab,-aa,-ae,-aj,-frz]
   | some r=>simp [dL,x1,lt,ft,fo,fa,aM,na,smT,m19,m23,hlo,f0,l0,b0,b1,b2,b3,b4,st,fl,hbv,-af,-ab,-aA,-aa,-ae,-aj,-frz,-mT]
  ·rw [Ss hp0] at b2
   obtain rfl:=hpp.2 hp0
   cases sm with
   | none=>
    simp only [<-hU,<-hA0]
    simp [dL,x1,lt,ft,fo,fa,aM,na,smT,m19,m23,hlo,f0,l0,b0,b1,b2,b4,-af,-ab,-aa,-ae,-aj,-frz]
   | some r=>simp [dL,x1,lt,ft,fo,fa,aM,na,smT,m19,m23,hlo,f0,l0,b0,b1,b2,b4,st,fl,hbv,-af,-ab,-aA,-aa,-ae,-aj,-frz,-mT]
end Clu
namespace Clu
open Go
open Cy (GC je df bC bH cW aM aV az bq cQ bT cA cR okA smM smT lvM lvT gu dG ey bS)
theorem KT {T:aW} (hcv:SlA 2 (T.ch.map chA) chF) (hz:∀X,frz (A++X) 4 (ai T chv)=ai T chF):∀(c i:Nat) (s:Option (Int × List Int)) (m:Nat),i+c=(aN T).length->sOk T s->c<m ->
  ∃d6 d7 d8 d13 d14 d15 d16:AV,bG (evC (aq GC Ag) 300 dL) eC m (fX (.p A.length) (.p (A.length+1)) (.p (A.length+2)) (bsV T s) (dR (aN T)) (.z ((aN T).length:Int)) (.z (i:Int))) (R22 A T chv s) =
   some (.exit 0 [.u,.p A.length,.p (A.length+1),.u,.p (A.length+2),bsV T (((aN T).drop i).foldl (kr T) s),d6,d7,d8,.u,.u,dR (aN T),.z ((aN T).length:Int),d13,d14,d15,d16,.u,.u,.u] (R22 A T chv (((aN T).drop i).foldl (kr T) s))):=by
 intro c
 induction c with
 | zero=>
  intro i s m hi hs hm
  obtain ⟨m,rfl⟩:∃j,m=j+1:=⟨m-1,by omega⟩
  obtain rfl:i=(aN T).length:=by omega
  rw [TN]
  refine ⟨.u,.u,.u,.z ((aN T).length:Int),.f,.u,.u,?_⟩
  have b0:=be (aN T).length (aN T).length .i64
  rw [Ss (by omega)] at b0
  rw [aG,q9]
  simp [dL,b0,-af]
 | succ c ih=>
  intro i s m hi hs hm
  obtain ⟨m,rfl⟩:∃j,m=j+1:=⟨m-1,by omega⟩
  have hil:i<(aN T).length:=by omega
  obtain ⟨r1,r2⟩:=HW hcv hz hs hil
  rw [To hil,Ta]
  by_cases h1:pz s<1
  ·obtain ⟨d6,d7,d8,hr⟩:=r1 h1
   have hone:∃o,s=some (1,o):=by
    cases s with
    | none=>unfold pz at h1; simp at h1
    | some x=>
     have:=hs x rfl
     unfold pz at h1
     simp only at h1
     obtain ⟨p,o⟩:=x
     exact ⟨o,by simp only at this h1; rw [show p=1 by omega]⟩
   obtain ⟨o,rfl⟩:=hone
   rw [wa,yF]
   refine ⟨d6,d7,d8,.z (i:Int),.t,.t,.t,?_⟩
   rw [aG,q9,hr]
  ·have hr:=r2 h1
   obtain ⟨d6,d7,d8,d13,d14,d15,d16,h2⟩:=ih (i+1) _ m (by omega) (uj hs (SC hil)) (by omega)
   refine ⟨d6,d7,d8,d13,d14,d15,d16,?_⟩
   rw [aG,q9,hr]
   exact h2
theorem I4 (T:aW):sOk T (ul T):=BR _ _ (fun _ h=>h) (fun x h=>by cases h)
def E22 (A:ac) (T:aW) (chv:AV) (r:Option cy):ac:=A++[.row 5 false [ai T chv],.row 4 false [match r with | none=>zA | some s=>kT s],.row 4 false [match r with | none=>zA | some s=>kT s]]
def H22:aJ:=fun _=>bZ (aq GC Ag) 300 uW
theorem Nh (h:bj) {A:ac} {T:aW} (hcv:SlA 2 (T.ch.map chA) chF) (hz:∀X,frz (A++X) 4 (ai T chv)=ai T chF) (hl:T.ch.length<=200):H22 h [ai T chv] A=some (nG (gq T),E22 A T chv (gq T)):=by
 have m14:=rt hcv hl
 have hlen:aj (dR (aN T))=some (.z ((aN T).length:Int)):=by
  have:=(aZ 1 ((aN T).map fun l=>slA 1 (ak l))).len
  rwa [SF] at this
 obtain ⟨d6,d7,d8,d13,d14,d15,d16,lp⟩:=KT hcv hz (aN T).length 0 none 300 (by omega) (fun x h=>by cases h) (by have:=it T; omega)
 rw [SL,show (aN T).foldl (kr T) none=ul T from rfl] at lp
 have hok:=I4 T
 obtain ⟨A0,hA0⟩:∃X,X=A++[.row 5 false [ai T chv],.row 4 false [zA],.row 4 false [zA]]:=⟨_,rfl⟩
 rw [show R22 A T chv none=A0 from hA0.symm,show bsV T none=.nilS from rfl,show ((0:Nat):Int)=0 from rfl] at lp
 have lt:ab true 5 A0 (.p A.length)=some (ai T chv):=by rw [hA0]; simp [ab,ai]
 have ft:frz A0 4 (ai T chv)=ai T chF:=by rw [hA0]; exact hz _
 have bx0:aR 5 (ai T chv) A=some (.p A.length,A++[.row 5 false [ai T chv]]):=rfl
 have ct:(cellsOf (ai T chv)).length=5:=rfl
 have bx1:aR 4 (.agg [.z 0,.nilS,.nilS,.nilS]) (A++[.row 5 false [ai T chv]])=some (.p (A.length+1),A++[.row 5 false [ai T chv],.row 4 false [zA]]):=by simp [aR,zA]
 have bx2:aR 4 (.agg [.z 0,.nilS,.nilS,.nilS]) (A++[.row 5 false [ai T chv],.row 4 false [zA]])=some (.p (A.length+2),A0):=by rw [hA0]; simp [aR,zA]
 have hbm:gq T=(ul T).map (rD T):=rfl
 rw [hbm]
 obtain ⟨s,hs⟩:∃s,s=ul T:=⟨_,rfl⟩
 rw [<-hs] at lp hok ⊢
 obtain ⟨X1,hX1⟩:∃X,X=A++[Ent.row 5 false [ai T chv]]:=⟨_,rfl⟩
 obtain ⟨X2,hX2⟩:∃X,X=A++[Ent.row 5 false [ai T chv],.row 4 false [zA]]:=⟨_,rfl⟩
 rw [<-hX1] at bx0 bx1
 rw [<-hX2] at bx1 bx2
 obtain ⟨t,ht⟩:∃t,t=ai T chv:=⟨_,rfl⟩
 obtain ⟨tF,htF⟩:∃t,t=ai T chF:=⟨_,rfl⟩
 obtain ⟨Q,hQ⟩:∃Q,Q=dR (aN T):=⟨_,rfl⟩
 obtain ⟨L,hL⟩:∃Q,Q=((aN T).length:Int):=⟨_,rfl⟩
 have f0:aa 0 (R22 A T chv s) (.p (A.length+2))=some (.p (A.length+2)):=by simp [aa,Dp]
 have l0:ab false 1 (R22 A T chv s) (.p (A.length+2))=some (.z (pOf s)):=by cases s <;> simp [ab,Dp,bsA,pOf,bN]
 rw [<-htF] at m14 ft
 rw [<-ht] at lt bx0 ct ft ⊢
 rw [<-hQ] at m14 hlen lp
 rw [<-hL] at hlen lp
 unfold H22
 rw [bo _ _ rfl]
 cases s with
 | none=>
  have b1:=bu 0 0
  rw [Su rfl] at b1
  have e1:E22 A T chv none=R22 A T chv none:=rfl
  have st:aA 4 (R22 A T chv none) (.p (A.length+1)) (.agg [.z 0,.nilS,.nilS,.nilS])=some (R22 A T chv none):=by
   have:(R22 A T chv none).set (A.length+1) (.row 4 false [zA])=R22 A T chv none:=by
    unfold R22
    rw [SQ _ _ (by omega),show A.length+1-A.length=1 by omega]
    rfl
   conv=>rhs; rw [<-this]
   simp [aA,ME,bL,zA]
  have l4:ab true 4 (R22 A T chv none) (.p (A.length+1))=some (.agg [.z 0,.nilS,.nilS,.nilS]):=by simp [ab,ME,zA]
  rw [show (Option.map (rD T) none)=none from rfl,e1]
  rw [show nG none=.tup [.agg [.z 0,.nilS,.nilS,.nilS],.z 130] from rfl]
  obtain ⟨A1,hA1⟩:∃X,X=R22 A T chv none:=⟨_,rfl⟩
  rw [<-hA1] at lp f0 l0 st l4 ⊢
  have l0:ab false 1 A1 (.p (A.length+2))=some (.z 0):=l0
  obtain ⟨n0,hn0⟩:∃n,n=A.length:=⟨_,rfl⟩
  obtain ⟨n1,hn1⟩:∃n,n=A.length+1:=⟨_,rfl⟩
  obtain ⟨n2,hn2⟩:∃n,n=A.length+2:=⟨_,rfl⟩
  rw [<-hn2] at lp f0 l0 bx2
  rw [<-hn1] at lp st l4 bx1
  rw [<-hn0] at lp lt bx0
  simp [uW,bx0,bx1,bx2,ct,lt,m14,ft,hlen,qD lp,f0,l0,b1,st,l4,-aR,-ab,-aA,-aa,-aj,-frz,-cellsOf,-af]
 | some x=>
  obtain ⟨p,o⟩:=x
  obtain ⟨hp1,hp2,hO⟩:=hok _ rfl
  simp only at hp1 hp2 hO
  have hos:=aZ 1 (ak o)
  have hlo:=hos.len
  rw [az] at hlo
  obtain ⟨q1,q2⟩:=jL o
  have hv:=ki hO
  have h14:=fun A=>Cy.GN (fun _ _ _=>none) (A:=A) (show frz A 4 (fV (bM T o))=fV (bM T o) from (aZ 4 ((bM T o).map cQ)).frz 4) hv (o.length:Int)
  obtain ⟨st,hst⟩:∃st,st=(lvM (o.length:Int) (bM T o) p).1:=⟨_,rfl⟩
  have hl1:lvT (lvM (o.length:Int) (bM T o) p)=.tup [slA 1 (ak st),slA 1 (ak (lvM (o.length:Int) (bM T o) p).2.1),.bool (lvM (o.length:Int) (bM T o) p).2.2]:=by rw [hst]; rfl
  obtain ⟨s1,s2⟩:=jL st
  obtain ⟨RA,hRA⟩:∃R:List Int->List Int->ac,∀a b,R a b=A++[.row 5 false [ai T chv],.row 4 false [zA],.row 4 false [.agg [.z p,slA 1 (ak o),slA 1 (ak a),slA 1 (ak b)]]]:=⟨_,fun _ _=>rfl⟩
  have hR0:R22 A T chv (some (p,o))=RA [] []:=by rw [hRA]; rfl
  rw [hR0] at lp f0 l0
  have l0:ab false 1 (RA [] []) (.p (A.length+2))=some (.z p):=l0
  have ra1:∀a b,(RA a b)[A.length+1]?=some (.row 4 false [zA]):=fun a b=>by rw [hRA]; simp
  have ra2:∀a b,(RA a b)[A.length+2]?=some (.row 4 false [.agg [.z p,slA 1 (ak o),slA 1 (ak a),slA 1 (ak b)]]):=fun a b=>by rw [hRA]; simp
  have fa:∀j a b,j<4->aa j (RA a b) (.p (A.length+2))=some (.ptr (A.length+2) 0 j):=fun j a b hj=>by simp [aa,ra2,hj]
  have la0:∀a b,ab false 1 (RA a b) (.p (A.length+2))=some (.z p):=fun a b=>by simp [ab,ra2,bN]
  have la1:∀a b,ab false 1 (RA a b) (.ptr (A.length+2) 0 1)=some (slA 1 (ak o)):=fun a b=>by simp [ab,ra2,bN]
  have lall:∀a b,ab true 4 (RA a b) (.p (A.length+2))=some (.agg [.z p,slA 1 (ak o),slA 1 (ak a),slA 1 (ak b)]):=fun a b=>by simp [ab,ra2]
  have rset:∀a b a' b',(RA a b).set (A.length+2) (.row 4 false [.agg [.z p,slA 1 (ak o),slA 1 (ak a'),slA 1 (ak b')]])=RA a' b':=fun a b a' b'=>by
   rw [hRA,hRA,SQ _ _ (by omega),show A.length+2-A.length=2 by omega]
   rfl
  have st2:∀a,aA 1 (RA [] []) (.ptr (A.length+2) 0 2) (slA 1 (ak a))=some (RA a []):=fun a=>by
   obtain ⟨z1,z2⟩:=jL a
   rw [<-rset [] [] a []]
   simp [aA,ra2,bL,z1,z2,-cellsOf,-AV.solid]
  have st3:∀a b,aA 1 (RA a []) (.ptr (A.length+2) 0 3) (slA 1 (ak b))=some (RA a b):=fun a b=>by
   obtain ⟨z1,z2⟩:=jL b
   rw [<-rset a [] a b]
   simp [aA,ra2,bL,z1,z2,-cellsOf,-AV.solid]
  obtain ⟨RB,hRB⟩:∃R:List Int->List Int->ac,∀a b,R a b=E22 A T chv (some ⟨p,o,a,b⟩):=⟨_,fun _ _=>rfl⟩
  have stB:∀a b,aA 4 (RA a b) (.p (A.length+1)) (.agg [.z p,slA 1 (ak o),slA 1 (ak a),slA 1 (ak b)])=some (RB a b):=fun a b=>by
   have:(RA a b).set (A.length+1) (.row 4 false [.agg [.z p,slA 1 (ak o),slA 1 (ak a),slA 1 (ak b)]])=RB a b:=by
    rw [hRA,hRB,SQ _ _ (by omega),show A.length+1-A.length=1 by omega]
    rfl
   rw [<-this]
   simp [aA,ra1,bL,zA]
  have lB:∀a b,ab true 4 (RB a b) (.p (A.length+1))=some (.agg [.z p,slA 1 (ak o),slA 1 (ak a),slA 1 (ak b)]):=fun a b=>by
   have:(RB a b)[A.length+1]?=some (.row 4 false [.agg [.z p,slA 1 (ak o),slA 1 (ak a),slA 1 (ak b)]]):=by rw [hRB]; simp [E22,kT]
   simp [ab,this]
  have b1:=bu p 0
  rw [Ss (by omega)] at b1
  have b2:=bQ p 1
  have b3:af .sub (.z p) (.z 1)=some (.z (p-1)):=bK (by omega)
  have hsb:∀pr,rD T (p,o)=⟨p,o,st,pr⟩↔pr=(if p > 1 then (lvM (o.length:Int) (bM T o) (p-1)).2.1 else []):=fun pr=>by
   unfold rD
   simp only [<-hst]
   constructor
   ·intro h; injection h with _ _ _ h; exact h.symm
   ·intro h; rw [h]
  have lp:bG (evC (aq GC Ag) 300 dL) eC 300 (fX (.p A.length) (.p (A.length+1)) (.p (A.length+2)) .nilS Q (.z L) (.z 0)) A0 =
    some (.exit 0 [.u,.p A.length,.p (A.length+1),.u,.p (A.length+2),fV (bM T o),d6,d7,d8,.u,.u,Q,.z L,d13,d14,d15,d16,.u,.u,.u] (RA [] [])):=lp
  have h1:=h14 (RA [] []) p
  rw [hl1] at h1
  have h2:=h14 (RA st []) (p-1)
  obtain ⟨pr,hpr⟩:∃pr,pr=(lvM (o.length:Int) (bM T o) (p-1)).2.1:=⟨_,rfl⟩
  rw [show lvT (lvM (o.length:Int) (bM T o) (p-1))=.tup [slA 1 (ak (lvM (o.length:Int) (bM T o) (p-1)).1),slA 1 (ak pr),.bool (lvM (o.length:Int) (bM T o) (p-1)).2.2] by rw [hpr]; rfl] at h2
  have k5:=st2 st
  have k7:=la0 st []
  have k8:=la1 st []
  have k9:=la1 [] []
  have f1:=fun j=>fa j [] []
  have f2:=fun j=>fa j st []
  obtain ⟨n0,hn0⟩:∃n,n=A.length:=⟨_,rfl⟩
  obtain ⟨n1,hn1⟩:∃n,n=A.length+1:=⟨_,rfl⟩
  obtain ⟨n2,hn2⟩:∃n,n=A.length+2:=⟨_,rfl⟩
  rw [<-hn2] at lp f0 l0 bx2 k5 k7 k8 k9
  simp only [<-hn2] at f1 f2
  rw [<-hn1] at lp bx1
  rw [<-hn0] at lp lt bx0
  obtain ⟨W,hW⟩:∃W,W=slA 1 (ak o):=⟨_,rfl⟩
  obtain ⟨V,hV⟩:∃V,V=fV (bM T o):=⟨_,rfl⟩
  rw [<-hV] at lp h1 h2
  obtain ⟨B0,hB0⟩:∃A,A=RA [] []:=⟨_,rfl⟩
  rw [<-hB0] at lp f0 l0 k5 k9 h1
  simp only [<-hB0] at f1
  obtain ⟨S1,hS1⟩:∃W,W=slA 1 (ak st):=⟨_,rfl⟩
  by_cases hp:p > 1
  ·rw [Su hp] at b2
   have hsc:(Option.map (rD T) (some (p,o)))=some ⟨p,o,st,pr⟩:=by
    rw [Th,(hsb pr).2 (by rw [SA hp]; exact hpr)]
   rw [hsc,<-hRB]
   rw [show nG (some ⟨p,o,st,pr⟩)=.tup [.agg [.z p,slA 1 (ak o),slA 1 (ak st),slA 1 (ak pr)],.z 0] from rfl]
   have k1:=lall st pr
   have k2:=stB st pr
   have k3:=lB st pr
   have k6:=st3 st pr
   rw [<-hn2] at k1 k6
   rw [<-hn1] at k2 k3
   obtain ⟨B1,hB1⟩:∃A,A=RA st []:=⟨_,rfl⟩
   rw [<-hB1] at k5 k6 k7 k8 h2
   simp only [<-hB1] at f2
   obtain ⟨B2,hB2⟩:∃A,A=RA st pr:=⟨_,rfl⟩
   rw [<-hB2] at k1 k2 k6
   obtain ⟨B3,hB3⟩:∃A,A=RB st pr:=⟨_,rfl⟩
   rw [<-hB3] at k2 k3 ⊢
   obtain ⟨S2,hS2⟩:∃W,W=slA 1 (ak pr):=⟨_,rfl⟩
   rw [<-hW] at k1 k2 k3 k8 k9 hlo ⊢
   rw [<-hS1] at h1 k1 k2 k3 k5 ⊢
   rw [<-hS2] at h2 k1 k2 k3 k6 ⊢
   obtain ⟨p1,hp1⟩:∃q,q=p-1:=⟨_,rfl⟩
   rw [<-hp1] at h2 b3
   simp [uW,bx0,bx1,bx2,ct,lt,m14,ft,hlen,qD lp,f0,f1,f2,l0,b1,b2,b3,hlo,h1,h2,k1,k2,k3,k5,k6,k7,k8,k9,-aR,-ab,-aA,-aa,-aj,-frz,-cellsOf,-af]
  ·rw [Ss hp] at b2
   have hsc:(Option.map (rD T) (some (p,o)))=some ⟨p,o,st,[]⟩:=by
    rw [Th,(hsb []).2 (by rw [SD hp])]
   rw [hsc,<-hRB]
   rw [show nG (some ⟨p,o,st,[]⟩)=.tup [.agg [.z p,slA 1 (ak o),slA 1 (ak st),slA 1 (ak [])],.z 0] from rfl]
   have k1:=lall st []
   have k2:=stB st []
   have k3:=lB st []
   rw [<-hn2] at k1
   rw [<-hn1] at k2 k3
   obtain ⟨B1,hB1⟩:∃A,A=RA st []:=⟨_,rfl⟩
   rw [<-hB1] at k1 k2 k5 k7
   simp only [<-hB1] at f2
   obtain ⟨B3,hB3⟩:∃A,A=RB st []:=⟨_,rfl⟩
   rw [<-hB3] at k2 k3 ⊢
   obtain ⟨S2,hS2⟩:∃W,W=slA 1 (ak []):=⟨_,rfl⟩
   rw [<-hW] at k1 k2 k3 k9 hlo ⊢
   rw [<-hS1] at h1 k1 k2 k3 k5 ⊢
   rw [<-hS2] at k1 k2 k3 ⊢
   simp [uW,bx0,bx1,bx2,ct,lt,m14,ft,hlen,qD lp,f0,f1,f2,l0,b1,b2,hlo,h1,k1,k2,k3,k5,k7,k9,-aR,-ab,-aA,-aa,-aj,-frz,-cellsOf,-af]
def M22:aU:=fun args=>evP (aq GC Ag) 300 uW 4 args
theorem p9:aw prog GC 6 M22:=aw.of_ev (E:=aq GC Ag) (ax Hv) rfl (by kernel_rfl) vU 4 fun _ _ h=>⟨300,h⟩
theorem wn {T:aW} (hcv:SlA 2 (T.ch.map chA) chv) (hl:T.ch.length<=200):M22 [ai T chv]=some (nG (gq T)):=by
 have h:=Nh (fun _ _ _=>none) (A:=[]) hcv (fun X=>aQ (T:=T) (fun A n=>hcv.frz (A:=A) n) _ 3) hl
 unfold H22 at h
 unfold M22 evP
 rw [h,Th]
 congr 1
 have k1:=fun A o=>(aZ 1 (ak o)).frz (A:=A) 2
 unfold nG
 simp only
 simp [frz,kT,k1]
end Clu
namespace Clu
open Go
open Cy (GC je df bC bH cW aM aV az bq cQ bT cA cR okA smM smT lvM lvT gu dG ey bS)
structure jf (s:cy) (ov sv pv:AV):Prop where
 o:SlA 1 (ak s.order) ov
 st:SlA 1 (ak s.starts) sv
 pr:SlA 1 (ak s.proof) pv
 per:inI s.period
 ol:s.order.length<=9223372036854775807
 stl:s.starts.length<=9223372036854775807
 sti:∀z∈s.starts,inI z
 prl:s.proof.length<=9223372036854775807
 pri:∀z∈s.proof,inI z
def Chk (T:aW) (s:cy):Prop:=s.order∈aN T/\(1<=s.period/\s.period<=1000000)/\dG (s.order.length:Int) (bM T s.order) s.period s.starts /\
 (if s.period=1 then s.proof=[] else ey (s.order.length:Int) (bM T s.order) (s.period-1) s.proof)
def zO:List (FuncId × aJ):=[(19,cU 4 M19),(55,aE 4 Cy.M19),(56,aE 4 Cy.M21)]
@[simp] theorem PA:aD zO 19=some (cU 4 M19):=rfl
@[simp] theorem Pz:aD zO 55=some (aE 4 Cy.M19):=rfl
@[simp] theorem Pw:aD zO 56=some (aE 4 Cy.M21):=rfl
theorem wI:∀f M,aD zO f=some M->au prog GC f M:=ag (au.of_pureF xU 4) (ag (au.of_pure Cy.xU 4) (ag (au.of_pure Cy.J9 4) aB))
def M26:aU:=fun args=>evP (aq GC zO) 0 uV 4 args
theorem AK:aw prog GC 23 M26:=aw.of_ev (E:=aq GC zO) (ax wI) rfl (by kernel_rfl) vT 4 fun _ _ h=>⟨0,h⟩
open Classical in
theorem tx {T:aW} (hcv:SlA 2 (T.ch.map chA) chv) (hl:T.ch.length<=200) {s:cy} {sv pv:AV} (hs:jf s ov sv pv) :
  M26 [ai T chv,.agg [.z s.period,ov,sv,pv]]=some (.bool (decide (Chk T s))):=by
 have m19:=GH hcv hl hs.o
 have ft:=fun A=>aQ (T:=T) (fun A n=>hcv.frz (A:=A) n) A 3
 have fo:∀A n,frz A n ov=ov:=fun A n=>hs.o.frz n
 have fs:∀A n,frz A n sv=sv:=fun A n=>hs.st.frz n
 have fp:∀A n,frz A n pv=pv:=fun A n=>hs.pr.frz n
 have hlo:=hs.o.len
 rw [az] at hlo
 have hlp:=hs.pr.len
 rw [az] at hlp
 have iv1:gC sv=some s.starts:=iA hs.st hs.stl hs.sti
 have iv2:gC pv=some s.proof:=iA hs.pr hs.prl hs.pri
 obtain ⟨p,o,st,pr⟩:=s
 simp only at m19 hlo hlp iv1 iv2
 have hper:=hs.per
 simp only [inI] at hper
 have q1:ov.solid=true/\cellsOf ov=[ov]:=by rcases hs.o with ⟨rfl,_⟩ | rfl <;> exact ⟨rfl,rfl⟩
 have q2:sv.solid=true/\cellsOf sv=[sv]:=by rcases hs.st with ⟨rfl,_⟩ | rfl <;> exact ⟨rfl,rfl⟩
 have q3:pv.solid=true/\cellsOf pv=[pv]:=by rcases hs.pr with ⟨rfl,_⟩ | rfl <;> exact ⟨rfl,rfl⟩
 have bx0:aR 5 (ai T chv) []=some (.p 0,[.row 5 false [ai T chv]]):=rfl
 have bx1:∀t,aR 4 (.agg [.z p,ov,sv,pv]) [.row 5 false [t]]=some (.p 1,[.row 5 false [t],.row 4 false [.agg [.z p,ov,sv,pv]]]):=fun t=>rfl
 have ct:(cellsOf (ai T chv)).length=5:=rfl
 have ca:(cellsOf (.agg [.z p,ov,sv,pv])).length=4:=rfl
 obtain ⟨A0,hA0⟩:∃A:ac,A=[.row 5 false [ai T chv],.row 4 false [.agg [.z p,ov,sv,pv]]]:=⟨_,rfl⟩
 have lt:ab true 5 A0 (.p 0)=some (ai T chv):=by rw [hA0]; rfl
 have fa:∀j,j<4->aa j A0 (.p 1)=some (.ptr 1 0 j):=fun j hj=>by rw [hA0]; simp [aa,hj]
 have l0:ab false 1 A0 (.p 1)=some (.z p):=by rw [hA0]; rfl
 have l1:ab false 1 A0 (.ptr 1 0 1)=some ov:=by rw [hA0]; rfl
 have l2:ab false 1 A0 (.ptr 1 0 2)=some sv:=by rw [hA0]; rfl
 have l3:ab false 1 A0 (.ptr 1 0 3)=some pv:=by rw [hA0]; rfl
 obtain ⟨t,ht⟩:∃t,t=ai T chv:=⟨_,rfl⟩
 rw [<-ht] at m19 ft bx0 ct lt hA0 ⊢
 have bx1:=bx1 t
 rw [<-hA0] at bx1
 unfold M26
 rw [aO _ _ rfl]
 by_cases hO:o∈aN T
 rotate_left
 ·rw [Ss (fun h=>hO h.1)]
  have e0:xD T o=none:=SD hO
  rw [e0] at m19
  have m19:M19 [t,ov]=some (.tup [.nilS,.z 130]):=m19
  have b1:=cH 130 0
  rw [Su (by omega)] at b1
  simp [uV,bx0,bx1,ct,ca,lt,m19,ft,fo,hlo,fa,l1,b1,-aR,-ab,-aa,-aj,-frz,-cellsOf,-af,aV]
 rw [nH hO] at m19
 have m19:M19 [t,ov]=some (.tup [fV (bM T o),.z 0]):=m19
 have b1:=cH 0 0
 rw [Ss (by omega)] at b1
 have b2:=bP p 1
 by_cases hp1:p<1
 ·rw [Ss (fun h=>by have:=h.2.1.1; simp only at this; omega)]
  rw [Su hp1] at b2
  simp [uV,bx0,bx1,ct,ca,lt,m19,ft,fo,hlo,fa,l0,l1,b1,b2,-aR,-ab,-aa,-aj,-frz,-cellsOf,-af,aV]
 rw [Ss hp1] at b2
 have b3:=bQ p 1000000
 by_cases hp2:p > 1000000
 ·rw [Ss (fun h=>by have:=h.2.1.2; simp only at this; omega)]
  rw [Su hp2] at b3
  simp [uV,bx0,bx1,ct,ca,lt,m19,ft,fo,hlo,fa,l0,l1,b1,b2,b3,-aR,-ab,-aa,-aj,-frz,-cellsOf,-af,aV]
 rw [Ss hp2] at b3
 have mv:Cy.M19 [.z (o.length:Int),fV (bM T o),.z p,sv]=some (.bool (decide (dG (o.length:Int) (bM T o) p st))):=by
  simp only [Cy.M19,ki hO,iv1]
 have mr:∀p,Cy.M21 [.z (o.length:Int),fV (bM T o),.z p,pv]=some (.bool (decide (ey (o.length:Int) (bM T o) p pr))):=fun p=>by
  simp only [Cy.M21,ki hO,iv2]
 have fa':∀A n,frz A n (fV (bM T o))=fV (bM T o):=fun A n=>(aZ 4 _).frz n
 obtain ⟨V,hV⟩:∃V,V=fV (bM T o):=⟨_,rfl⟩
 rw [<-hV] at m19 mv fa'
 by_cases hver:dG (o.length:Int) (bM T o) p st
 rotate_left
 ·rw [Ss hver] at mv
  rw [Ss (fun h=>hver h.2.2.1)]
  simp [uV,bx0,bx1,ct,ca,lt,m19,ft,fo,fs,fa',aM,mv,hlo,fa,l0,l1,l2,b1,b2,b3,-aR,-ab,-aa,-aj,-frz,-cellsOf,-af,aV]
 rw [Su hver] at mv
 have b4:=bu p 1
 by_cases hp:p=1
 ·rw [Su hp] at b4
  have b5:af .eql (.z (pr.length:Int)) (.z 0)=some (.bool (decide (pr=[]))):=by
   rw [bu]
   congr 2
   exact TO.2 ⟨fun h=>S8.1 (by omega),fun h=>by rw [h]; rfl⟩
  have hc:Chk T ⟨p,o,st,pr⟩↔pr=[]:=by
   constructor
   ·intro h
    have:=h.2.2.2
    simp only at this
    rwa [SA hp] at this
   ·intro h
    refine ⟨hO,⟨by simp only; omega,by simp only; omega⟩,hver,?_⟩
    simp only
    rw [SA hp]; exact h
  rw [TO.2 hc]
  obtain ⟨d,hd⟩:∃d,d=decide (pr=[]):=⟨_,rfl⟩
  rw [<-hd] at b5 ⊢
  simp [uV,bx0,bx1,ct,ca,lt,m19,ft,fo,fs,fa',aM,mv,hlo,hlp,fa,l0,l1,l2,l3,b1,b2,b3,b4,b5,aV,-aR,-ab,-aa,-aj,-frz,-cellsOf,-af]
 ·rw [Ss hp] at b4
  have b6:af .sub (.z p) (.z 1)=some (.z (p-1)):=bK (by omega)
  have hc:Chk T ⟨p,o,st,pr⟩↔ey (o.length:Int) (bM T o) (p-1) pr:=by
   constructor
   ·intro h
    have:=h.2.2.2
    simp only at this
    rwa [SD hp] at this
   ·intro h
    refine ⟨hO,⟨by simp only; omega,by simp only; omega⟩,hver,?_⟩
    simp only
    rw [SD hp]; exact h
  rw [TO.2 hc]
  have mr:=mr (p-1)
  rw [<-hV] at mr
  obtain ⟨d,hd⟩:∃d,d=decide (ey (o.length:Int) (bM T o) (p-1) pr):=⟨_,rfl⟩
  rw [<-hd] at mr ⊢
  obtain ⟨p1,hp1'⟩:∃q,q=p-1:=⟨_,rfl⟩
  rw [<-hp1'] at mr b6
  simp [uV,bx0,bx1,ct,ca,lt,m19,ft,fo,fs,fp,fa',aM,mv,mr,hlo,fa,l0,l1,l2,l3,b1,b2,b3,b4,b6,aV,-aR,-ab,-aa,-aj,-frz,-cellsOf,-af]
end Clu
namespace Cy
open Go
theorem tV {l:List bq} (hr:bS n l p):(lvM n l p).2.2=true↔¬ Pos l p:=by
 obtain ⟨m,rfl⟩:∃m:Nat,n=(m:Int):=⟨n.toNat,by have:=hr.1.1; omega⟩
 rw [<-nu hr]
 unfold lvM
 rw [SA hr,SM]
 split
 ·rename_i h; simp [h]
 ·rename_i h; simp [h]
theorem eW {l:List bq} {p:Int} (hr:bS n l p) (h:(lvM n l p).2.2=true):(lvM n l p).2.1=[]/\dG n l p (lvM n l p).1/\(∀x∈(lvM n l p).1,x<=100000000)/\∀x,dG n l p x->∀v:Nat,(v:Int)<n->(lvM n l p).1.getD v 0<=x.getD v 0:=by
 obtain ⟨m,rfl⟩:∃m:Nat,n=(m:Int):=⟨n.toNat,by have:=hr.1.1; omega⟩
 have hv:=hr.1.2.2
 have hn:=hr.1.1
 have e:lvM m l p=((cD (lar p l) m).1,[],true):=by
  unfold lvM at h ⊢
  rw [SA hr,SM] at h ⊢
  split
  ·rfl
  ·rename_i h'
   rw [SD h'] at h; cases h
 have hlv:(cD (lar p l) m).2=true:=by
  have:=(tV hr).1 h
  exact (nu hr).2 this
 obtain ⟨h1,h2,h3,h4,h5⟩:=ow (kf (p:=p) hv)
 rw [e]
 have key:∀x∈(cD (lar p l) m).1,0<=x/\x<=100000000:=?_
 ·refine ⟨rfl,⟨hr,by rw [h1],fun x hx=>by have:=key x hx; omega,h4 hlv⟩,fun x hx=>(key x hx).2,fun x hx v hvm=>?_⟩
  refine h5 x hx.2.2.2 (fun w hw=>?_) v (by omega)
  have hwl:w<x.length:=by have:=hx.2.1; omega
  have hg:x.getD w 0=x[w]:=by rw [Sr,Sq hwl]; rfl
  rw [hg]
  exact (hx.2.2.1 _ (SC hwl)).1
 intro x hx'
 obtain ⟨v,hv',rfl⟩:=Tb.1 hx'
 have hvn:v<m:=by rw [<-h1]; exact hv'
 have hg:(cD (lar p l) m).1.getD v 0=(cD (lar p l) m).1[v]:=by rw [Sr,Sq hv']; rfl
 have h0:=h2 v
 rw [hg] at h0
 refine ⟨h0,?_⟩
 obtain ⟨u,r,k1,k2,k3⟩:=h3 v hvn
 have hN:=(qA (kf (p:=p) hv)).1 hlv
 obtain ⟨r',j1,j2,j3⟩:=Kk (kf (p:=p) hv) hN _ r u v rfl k1 k2
 rw [hg] at k3
 have hbd:∀ {r:List dT} {u v:Nat},isW (lar p l) u r v->kY r<=3000000*r.length:=by
  intro r
  induction r with
  | nil=>intro _ _ _; simp [kY]
  | cons a r ih=>
   rintro u v ⟨q1,_,q3⟩
   have:=ih q3
   have:=(ym (show m<=32 by omega) hr.2 hv a q1).2.2.2
   simp only [kY,Tn]
   omega
 have:=hbd j1
 omega
theorem tW {l:List bq} (hr:bS n l p) (h:(lvM n l p).2.2=false):(lvM n l p).1=[]/\ey n l p (lvM n l p).2.1/\(lvM n l p).2.1.length<=32/\∀z∈(lvM n l p).2.1,inI z:=by
 obtain ⟨m,rfl⟩:∃m:Nat,n=(m:Int):=⟨n.toNat,by have:=hr.1.1; omega⟩
 have hlv:¬ (cD (lar p l) m).2=true:=fun h'=>by
  have:=(tV hr).2 ((nu hr).1 h')
  rw [h] at this; cases this
 obtain ⟨res,u,xs,k1,k2,k3,k4,k5,k6,k7⟩:=Ce hr hlv
 have e:lvM m l p=([],res,false):=by
  unfold lvM
  rw [SA hr,SM,SD hlv,k1]; rfl
 rw [e]
 refine ⟨rfl,⟨hr,_,_,k7,k6⟩,by rw [k2]; simpa using k5,fun z hz=>?_⟩
 unfold exM at k7
 simp only [Sw] at k7
 have:=k7.1.2 z hz
 have:=hr.1.2.1
 unfold inI; omega
theorem JJ {l:List bq} {s:List Int} (h:dG n l p s):s.length<=32/\∀z∈s,inI z:=by
 obtain ⟨h1,h2,h3,_⟩:=h
 have:=h1.1.1
 refine ⟨by omega,fun z hz=>?_⟩
 have:=h3 z hz
 unfold inI; omega
open Classical in
theorem m19 {l:List bq} {s:List Int} (ha:bT a=some l) (hb:gC b=some s):M19 [.z n,a,.z p,b]=some (.bool (decide (dG n l p s))):=by simp only [M19,ha,hb]
end Cy
namespace Clu
open Go
open Cy (GC bq cQ bT cA cR okA smM smT lvM lvT dG ey bS Pos tV eW tW)
theorem EF {T:aW} (h:sOk T s):cA (pz s):=by
 unfold pz cA
 cases s with
 | none=>simp
 | some x=>have:=h x rfl; simp only; omega
structure E7 (T:aW) (s:Option (Int × List Int)) (l:List (List Int)):Prop where
 ok:sOk T s
 no:∀x,s=some x->¬ Pos (bM T x.2) x.1/\∃l1 l2,l=l1++x.2 :: l2/\∀o∈l1,Pos (bM T o) x.1
 pos:∀o∈l,∀q,1<=q->q<=pz s->Pos (bM T o) q
theorem E7.step {T:aW} {l:List (List Int)} (h:E7 T s l) (hO:o∈aN T):E7 T (kr T s o) (l++[o]):=by
 have hper:=EF h.ok
 have hok:=uj h.ok hO
 have hv:=(xC hO).1
 unfold kr at hok ⊢
 cases hm:smM (o.length:Int) (bM T o) 1 (pz s) with
 | none=>
  rw [hm] at hok
  have hn:=HE hper hv hm
  refine ⟨h.ok,fun x hx=>?_,fun o' ho' q h1 h2=>?_⟩
  ·obtain ⟨k1,l1,l2,k2,k3⟩:=h.no x hx
   exact ⟨k1,l1,l2++[o],by rw [k2]; simp,k3⟩
  ·rcases Uk.1 ho' with h3 | h3
   ·exact h.pos o' h3 q h1 h2
   ·rw [SY] at h3
    subst h3
    exact hn q h1 h2
 | some p=>
  rw [hm] at hok
  obtain ⟨k1,k2,k3,k4,k5⟩:=wL hper hm
  refine ⟨hok,fun x hx=>?_,fun o' ho' q h1 h2=>?_⟩
  ·injection hx with hx
   subst hx
   exact ⟨k4,l,[],rfl,fun o' ho'=>h.pos o' ho' p k1 k2⟩
  ·have h2:q<=p-1:=h2
   rcases Uk.1 ho' with h3 | h3
   ·exact h.pos o' h3 q h1 (by omega)
   ·rw [SY] at h3
    subst h3
    exact k5 q h1 (by omega)
theorem E7.fold {T:aW}:∀(r:List (List Int)) {s:Option (Int × List Int)} {l:List (List Int)},E7 T s l->(∀o∈r,o∈aN T)->E7 T (r.foldl (kr T) s) (l++r)
 | [],s,l,h,_=>by simpa using h
 | o :: r,s,l,h,hr=>by
  have:=E7.fold r (h.step (hr o (by simp))) (fun o' ho'=>hr o' (by simp [ho']))
  rw [SO] at this
  exact this
theorem yT (T:aW):E7 T (ul T) (aN T):=by
 have:=E7.fold (T:=T) (aN T) (s:=none) (l:=[]) ⟨fun x h=>(by cases h),fun x h=>(by cases h),fun o h=>(by cases h)⟩ (fun _ h=>h)
 rwa [T3] at this
theorem gm {T:aW} (hO:o∈aN T) (h1 : -1000000<=p) (h2:p<=1000000):bS (o.length:Int) (bM T o) p:=⟨(xC hO).1,h1,h2⟩
theorem Me {T:aW} (hO:o∈aN T) {p:Int} (h1:1<=p) (h2:p<=1000000) (hp:¬ Pos (bM T o) p) (hq:1<p->Pos (bM T o) (p-1)):Chk T (rD T (p,o)):=by
 have hR:=gm hO (p:=p) (by omega) h2
 have k1:=eW hR ((tV hR).2 hp)
 refine ⟨hO,⟨h1,h2⟩,k1.2.1,?_⟩
 show if p=1 then (if p > 1 then (lvM (o.length:Int) (bM T o) (p-1)).2.1 else [])=[] else _
 by_cases e:p=1
 ·rw [SA e,SD (by omega)]
 ·rw [SD e]
  have hR':=gm hO (p:=p-1) (by omega) (by omega)
  have hf:(lvM (o.length:Int) (bM T o) (p-1)).2.2=false:=by
   cases h:(lvM (o.length:Int) (bM T o) (p-1)).2.2 with
   | false=>rfl
   | true=>exact absurd (hq (by omega)) ((tV hR').1 h)
  have:=(tW hR' hf).2.1
  show ey (o.length:Int) (bM T o) (p-1) (if p > 1 then (lvM (o.length:Int) (bM T o) (p-1)).2.1 else [])
  rw [SA (by omega)]
  exact this
theorem i5 {T:aW} {s:cy} (h:gq T=some s):Chk T s:=by
 unfold gq at h
 rw [SE] at h
 obtain ⟨⟨p,o⟩,h,rfl⟩:=h
 have hB:=yT T
 rw [h] at hB
 obtain ⟨h1,h2,h3⟩:=hB.ok _ rfl
 exact Me h3 h1 h2 (hB.no _ rfl).1 fun hp=>hB.pos o h3 (p-1) (by simp only at h1; omega) (TY _)
theorem I5 {T:aW} (hO:o∈aN T) (h1:1<=p) (h2:p<=1000000) (hp:¬ Pos (bM T o) p) (hb:∀o'∈aN T,∀q,1<=q->q<p->Pos (bM T o') q):∃o',o'∈aN T/\¬ Pos (bM T o') p/\ul T=some (p,o'):=by
 have hB:=yT T
 cases hs:ul T with
 | none=>
  rw [hs] at hB
  exact absurd (hB.pos o hO p h1 h2) hp
 | some x=>
  obtain ⟨r,o'⟩:=x
  rw [hs] at hB
  obtain ⟨k1,k2,k3⟩:=hB.ok _ rfl
  have k4:=(hB.no _ rfl).1
  simp only at k1 k2 k3 k4
  have:r=p:=by
   rcases Int.lt_trichotomy r p with h | h | h
   ·exact absurd (hb o' k3 r k1 h) k4
   ·exact h
   ·exact absurd (hB.pos o hO p h1 (by show p<=r-1; omega)) hp
  subst this
  exact ⟨o',k3,k4,rfl⟩
end Clu
end Go.Proofs.YtkcjhljbgjpklaaGreat
