import Derived.Test.YtkcjhljbgjpklaaUF04
import Derived.Test.YtkcjhljbgjpklaaChecked
import Derived.KernelRfl
set_option maxRecDepth 100000
set_option maxHeartbeats 4000000
noncomputable section
namespace Go.Proofs.Ytkcjhljbgjpklaa
namespace Cy
open Go
def Pos (l:List a7) (p:Int):Prop:=∃(u:Int) (xs:List eM),rS l u xs u/\0<iy p xs
theorem mV {l:List a7} {x:eM} (h:x∈num l):ua l (x.2:Int)=x.1/\0<=(x.2:Int)/\(x.2:Int)<=(l.length:Int)-1:=by
 obtain ⟨hi,he⟩:=kB h
 refine ⟨?_,by omega,by omega⟩
 unfold ua
 rw [Int.toNat_natCast,List.getD_eq_getElem?_getD,List.getElem?_eq_getElem hi]
 exact he
theorem B7 {p:Int} {l:List a7}:∀ {xs:List eM} {u v s t:Int},rS l u xs v->exL p l (xs.map fun y=>(y.2:Int)) u s t=some (s+iy p xs,t+kx xs)
 | [],u,v,s,t,_=>by simp [exL,iy,kx]
 | x :: r,u,v,s,t,⟨h1,h2,h3⟩=>by
  obtain ⟨e,_⟩:=mV h1
  simp only [List.map_cons,exL,e,if_pos h2]
  rw [B7 h3]
  simp only [iy,kx,List.map_cons,List.sum_cons]
  congr 2 <;> omega
theorem n7 {l:List a7}:∀ {xs:List eM} {u v:Int} (h:xs≠[]),rS l u xs v->(xs.getLast h).1.t=v/\xs.getLast h∈num l
 | [x],u,v,_,⟨h1,h2,h3⟩=>⟨h3,h1⟩
 | x :: y :: r,u,v,_,⟨h1,h2,h3⟩=>by
  rw [List.getLast_cons (by simp)]
  exact n7 (by simp) h3
theorem yc {p:Int} {l:List a7} {u:Int} {xs:List eM} (h:rS l u xs u) (h1:1<=xs.length) (h2:xs.length<=200):exM p l (xs.map fun y=>(y.2:Int))=some (iy p xs,kx xs):=by
 have hne:xs≠[]:=fun e=>by rw [e] at h1; simp at h1
 have hall:∀x∈xs,x∈num l:=by
  have:∀ {ys:List eM} {a b:Int},rS l a ys b->∀x∈ys,x∈num l:=by
   intro ys
   induction ys with
   | nil=>intro _ _ _ x hx; cases hx
   | cons y r ih=>
    rintro a b ⟨k1,_,k3⟩ x hx
    rcases List.mem_cons.1 hx with rfl | hx
    ·exact k1
    ·exact ih k3 x hx
  exact this h
 unfold exM
 rw [if_pos ⟨by simpa using ⟨h1,h2⟩,fun x hx=>by
  obtain ⟨y,hy,rfl⟩:=List.mem_map.1 hx
  exact (mV (hall y hy)).2⟩]
 obtain ⟨e1,e2⟩:=n7 hne h
 have:(xs.map fun y=>(y.2:Int)).getLastD 0=((xs.getLast hne).2:Int):=by
  rw [List.getLastD_eq_getLast?,List.getLast?_map,List.getLast?_eq_some_getLast hne]; rfl
 rw [this,(mV e2).1,e1,B7 h]
 simp
theorem vg {p:Int} {l:List a7}:∀ {ys:List Int} {u s t:Int} {r:Int × Int},tN l ys->exL p l ys u s t=some r->∃(v:Int) (xs:List eM),ys=xs.map (fun y=>(y.2:Int))/\rS l u xs v/\r=(s+iy p xs,t+kx xs)
 | [],u,s,t,r,_,h=>by
  simp only [exL,Option.some.injEq] at h
  exact ⟨u,[],rfl,rfl,by rw [<-h]; simp [iy,kx]⟩
 | i :: ys,u,s,t,r,hi,h=>by
  have hi0:=hi i (by simp)
  obtain ⟨j,hj,rfl,he⟩:=qZ hi0
  simp only [exL] at h
  split at h
  ·rename_i hf
   obtain ⟨v,xs,k1,k2,k3⟩:=vg (fun x hx=>hi x (by simp [hx])) h
   rw [he] at hf k2 k3
   refine ⟨v,(l[j],j) :: xs,by simp [k1],⟨List.mem_of_getElem? (fu l j hj),hf,k2⟩,?_⟩
   rw [k3]
   simp only [iy,kx,List.map_cons,List.sum_cons]
   congr 1 <;> omega
  ·cases h
theorem AT {p:Int} {l:List a7} {ys:List Int} {s t:Int} (h:exM p l ys=some (s,t)):∃(u:Int) (xs:List eM),ys=xs.map (fun y=>(y.2:Int))/\rS l u xs u/\1<=xs.length/\xs.length<=200/\s=iy p xs/\t=kx xs:=by
 unfold exM at h
 simp only [Option.ite_none_right_eq_some] at h
 obtain ⟨⟨h1,h2⟩,h3⟩:=h
 obtain ⟨v,xs,rfl,k2,k3⟩:=vg h2 h3
 simp only [List.length_map] at h1
 have hne:xs≠[]:=fun e=>by rw [e] at h1; simp at h1
 obtain ⟨e1,e2⟩:=n7 hne k2
 have:(xs.map fun y=>(y.2:Int)).getLastD 0=((xs.getLast hne).2:Int):=by
  rw [List.getLastD_eq_getLast?,List.getLast?_map,List.getLast?_eq_some_getLast hne]; rfl
 rw [this,(mV e2).1,e1] at k2
 simp only [Prod.mk.injEq,Int.zero_add] at k3
 exact ⟨v,xs,rfl,k2,h1.1,h1.2,k3.1,k3.2⟩
theorem rR {n p:Int} {l:List a7} (hv:∀x∈l,okA n x) {s:List Int} (h:jt (lar p l) s):¬ Pos l p:=by
 rintro ⟨u,xs,h1,h2⟩
 obtain ⟨k1,k2⟩:=LL (p:=p) hv h1
 have:=jU h k1
 omega
theorem io {n:Nat} {p:Int} {l:List a7} (hv:∀x∈l,okA n x):∀a∈lar p l,a.1<n/\a.2.1<n:=fun a ha=>by
 obtain ⟨x,hx,rfl⟩:=List.mem_map.1 ha
 obtain ⟨q1,q2,_⟩:=hv x hx
 simp only; omega
section
variable {n:Nat} {p:Int} {l:List a7} (hr:cn n l p)
include hr
theorem kG:(bQ (lar p l) n).2=true↔¬ Pos l p:=by
 have hv:=hr.1.2.2
 have hn:=hr.1.1
 constructor
 ·intro h
  exact rR hv ((lK (io hv)).2.2.2.1 h)
 ·intro h
  rw [nW (io hv),<-vp hv (by omega) hr.2]
  cases hc:qV p l n with
  | none=>rfl
  | some res=>
   obtain ⟨u,xs,_,k2,_,_,k5⟩:=vk hv (by omega) hr.2 hc
   exact absurd ⟨u,xs,k2,k5⟩ h
theorem yh (h:¬ (bQ (lar p l) n).2=true):∃(res:List Int) (u:Int) (xs:List eM),qV p l n=some res/\res=xs.map (fun y=>(y.2:Int))/\rS l u xs u/\1<=xs.length/\xs.length<=32/\0<iy p xs/\exM p l res=some (iy p xs,kx xs):=by
 have hv:=hr.1.2.2
 have hn:=hr.1.1
 rw [nW (io hv),<-vp hv (by omega) hr.2] at h
 cases hc:qV p l n with
 | none=>exact absurd hc h
 | some res=>
  obtain ⟨u,xs,k1,k2,k3,k4,k5⟩:=vk hv (by omega) hr.2 hc
  exact ⟨res,u,xs,rfl,k1,k2,k3,by omega,k5,by rw [k1]; exact yc k2 k3 (by omega)⟩
end
theorem xE {n p:Int} {l:List a7} (hn:n<=32) (hp:cz p) (hv:∀x∈l,okA n x):∀ {xs:List eM} {u v:Int},rS l u xs v->(-(3000000*(xs.length:Int))<=iy p xs/\iy p xs<=3000000*xs.length)/\(-(2*(xs.length:Int))<=kx xs/\kx xs<=2*xs.length)
 | [],_,_,_=>by simp [iy,kx]
 | x :: r,u,v,⟨h1,h2,h3⟩=>by
  have h4:=xE hn hp hv h3
  obtain ⟨q1,q2,q3,q4⟩:=rF hv h1
  have hle:=gG (n:=32) (a:=x.1) ⟨by omega,by omega,q3,q4⟩ hp
  simp only [iy,kx,List.map_cons,List.sum_cons,List.length_cons] at h4 ⊢
  omega
def smL (n:Nat) (l:List a7) (hi:Int):Nat->Int->Option Int
 | 0,_=>none
 | m+1,p=>open Classical in if p<=hi/\cn n l p then
   (if (bQ (lar p l) n).2=true then some p
    else if ((exM p l ((qV p l n).getD [])).getD (0,0)).2<=0 then none
    else smL n l hi m (p+(((exM p l ((qV p l n).getD [])).getD (0,0)).1+((exM p l ((qV p l n).getD [])).getD (0,0)).2-1).tdiv ((exM p l ((qV p l n).getD [])).getD (0,0)).2))
  else none
def smM (n:Int) (l:List a7) (lo hi:Int):Option Int:=if cz hi then smL n.toNat l hi (hi-lo+2).toNat lo else none
theorem um {s t:Int} (hs:0<s) (ht:0<t):1<=(s+t-1).tdiv t/\(s+t-1).tdiv t<=s/\((s+t-1).tdiv t-1)*t<s/\s<=(s+t-1).tdiv t*t:=by
 rw [Int.tdiv_eq_ediv_of_nonneg (by omega)]
 have h1:=Int.ediv_mul_add_emod (s+t-1) t
 have h2:=Int.emod_nonneg (s+t-1) (show t≠0 by omega)
 have h3:=Int.emod_lt_of_pos (s+t-1) ht
 obtain ⟨d,hd⟩:∃d,d=(s+t-1) / t:=⟨_,rfl⟩
 rw [<-hd] at h1 ⊢
 have h4:1<=d:=by
  rcases Int.lt_or_le d 1 with h | h
  ·have:d*t<=0:=Int.mul_nonpos_of_nonpos_of_nonneg (by omega) (by omega)
   omega
  ·exact h
 have h5:(d-1)*t=d*t-t:=by rw [Int.sub_mul]; omega
 refine ⟨h4,?_,by omega,by omega⟩
 rcases Int.lt_or_le s d with h | h
 ·have:s*t<=(d-1)*t:=Int.mul_le_mul_of_nonneg_right (by omega) (by omega)
  have h6:s*1<=s*t:=Int.mul_le_mul_of_nonneg_left (by omega) (by omega)
  omega
 ·exact h
theorem rD {l:List a7} {p q:Int} {u:Int} {xs:List eM} (h:rS l u xs u) (hq:0<iy p xs-(q-p)*kx xs):Pos l q:=by
 refine ⟨u,xs,h,?_⟩
 rw [xD] at hq ⊢
 have:(q-p)*kx xs=q*kx xs-p*kx xs:=by rw [Int.sub_mul]
 omega
theorem qt {n:Nat} {l:List a7} {hi:Int} (hhi:cz hi):∀(m:Nat) (p:Int),hi-p+1<m ->
  (∀r,smL n l hi m p=some r->p<=r/\r<=hi/\cn n l r/\¬ Pos l r/\∀q,p<=q->q<r->Pos l q)/\(smL n l hi m p=none->cn n l p->∀q,p<=q->q<=hi->Pos l q)
 | 0,p,hm=>⟨fun r h=>(by cases h),fun _ _ q h1 h2=>by omega⟩
 | m+1,p,hm=>by
  unfold smL
  by_cases hp:p<=hi/\cn n l p
  rotate_left
  ·rw [if_neg hp]
   exact ⟨fun r h=>(by cases h),fun _ h q h1 h2=>absurd ⟨by omega,h⟩ hp⟩
  rw [if_pos hp]
  by_cases hl:(bQ (lar p l) n).2=true
  ·rw [if_pos hl]
   refine ⟨fun r h=>?_,fun h=>by cases h⟩
   injection h with h; subst h
   exact ⟨Int.le_refl _,hp.1,hp.2,(kG hp.2).1 hl,fun q h1 h2=>by omega⟩
  rw [if_neg hl]
  obtain ⟨res,u,xs,k1,k2,k3,k4,k5,k6,k7⟩:=yh hp.2 hl
  rw [k1,Option.getD_some,k7,Option.getD_some]
  simp only
  by_cases ht:kx xs<=0
  ·rw [if_pos ht]
   refine ⟨fun r h=>(by cases h),fun _ _ q h1 h2=>rD k3 (p:=p) ?_⟩
   have:(q-p)*kx xs<=0:=Int.mul_nonpos_of_nonneg_of_nonpos (by omega) ht
   omega
  rw [if_neg ht]
  obtain ⟨d1,d2,d3,d4⟩:=um k6 (show 0<kx xs by omega)
  obtain ⟨d,hd⟩:∃d,d=(iy p xs+kx xs-1).tdiv (kx xs):=⟨_,rfl⟩
  rw [<-hd] at d1 d2 d3 d4 ⊢
  have hbelow:∀q,p<=q->q<p+d->Pos l q:=fun q h1 h2=>rD k3 (p:=p) (by
   have:(q-p)*kx xs<=(d-1)*kx xs:=Int.mul_le_mul_of_nonneg_right (by omega) (by omega)
   omega)
  obtain ⟨i1,i2⟩:=qt hhi m (p+d) (by omega)
  constructor
  ·intro r h
   obtain ⟨j1,j2,j3,j4,j5⟩:=i1 r h
   refine ⟨by omega,j2,j3,j4,fun q h1 h2=>?_⟩
   by_cases hq:q<p+d
   ·exact hbelow q h1 hq
   ·exact j5 q (by omega) h2
  ·intro h _ q h1 h2
   by_cases hq:q<p+d
   ·exact hbelow q h1 hq
   ·have hR:cn n l (p+d):=⟨hp.2.1,by
     have:=hp.2.2
     unfold cz at *
     omega⟩
    exact i2 h hR q (by omega) h2
open Go
def iD (n:Int) (l:List a7) (p:Int) (c:List Int):Prop:=cn n l p/\∃s t,exM p l c=some (s,t)/\0<s
open Classical in
def M21:aP:=fun args=>match args with
 | [.int .i64 n,a,.int .i64 p,b]=>match cy a,lP b with
  | some l,some s=>some (.bool (decide (iD n l p s)))
  | _,_=>none
 | _=>none
def Il:List (FuncId × aG):=[(73,cI 4 M25),(75,aD 4 M40)]
@[simp] theorem Ki:aC Il 73=some (cI 4 M25):=rfl
@[simp] theorem Kh:aC Il 75=some (aD 4 M40):=rfl
theorem Dp:∀f M,aC Il f=some M->aj Try.prog GC f M:=af (aj.of_pureF qp 4) (af (aj.of_pure nw 4) az)
open Classical in
theorem Fw:aq Try.prog GC 78 M21:=by
 refine aq.of_ev (E:=ax GC Il) (aw Dp) rfl Mp B9 1 ?_
 intro args r h
 unfold M21 at h
 split at h
 rotate_left
 ·cases h
 rename_i n a p b
 split at h
 rotate_left
 ·cases h
 rename_i l s hl hs
 injection h with h; subst h
 refine ⟨0,?_⟩
 obtain ⟨hb,_,hsl⟩:=jf hs
 have f1:∀A n,frz A n a=a:=fun A n=>eD hl A n
 have f2:∀A n,frz A n b=b:=fun A n=>hb.frz n
 have f4:=lO hs
 have m1:M25 [.int .i64 n,a,.int .i64 p]=some (if cn n l p then .tup [cU n.toNat p l,.bool true] else .tup [.nilP,.bool false]):=by simp only [M25,hl,Option.map_some]
 rw [aI _ _ rfl]
 by_cases hr:cn n l p
 rotate_left
 ·rw [if_neg hr] at m1
  rw [decide_eq_false (show ¬ iD n l p s from fun h=>hr h.1)]
  simp [ER,f1,m1,aL,bc,-frz]
 rw [if_pos hr] at m1
 obtain ⟨m,rfl⟩:∃m:Nat,n=(m:Int):=⟨n.toNat,by have:=hr.1.1; omega⟩
 rw [Int.toNat_natCast] at m1
 have m40:=vH hr hb hsl
 obtain ⟨W1,O,hW⟩:∃W1 O,cU m p l=.fp [.int .i64 (m:Int),W1,O]:=⟨_,_,rfl⟩
 rw [hW] at m1 m40
 have hfw:∀B,frz B 4 (.fp [.int .i64 (m:Int),W1,O])=.fp [.int .i64 (m:Int),W1,O]:=fun _=>rfl
 have hnr:bq 4 (.fp [.int .i64 (m:Int),W1,O])=true:=rfl
 cases he:exM p l s with
 | none=>
  rw [he] at m40
  rw [decide_eq_false (show ¬ iD m l p s from fun h=>by
   obtain ⟨_,x,y,h,_⟩:=h
   rw [he] at h; cases h)]
  simp only [exT,Option.getD_none,Option.isSome_none] at m40
  simp [ER,f1,f2,m1,m40,hfw,f4,aL,bc,-frz]
 | some st=>
  obtain ⟨x,y⟩:=st
  rw [he] at m40
  simp only [exT,Option.getD_some,Option.isSome_some] at m40
  have b1:ag .gtr (.int .i64 x) (.int .i64 0)=some (.bool (decide (x > 0))):=by simp [ag]
  have e:decide (iD m l p s)=decide (x > 0):=by
   rw [Bool.eq_iff_iff,decide_eq_true_eq,decide_eq_true_eq]
   constructor
   ·rintro ⟨_,a',b',h,h2⟩
    rw [he] at h
    injection h with h
    injection h with h h'
    omega
   ·intro h
    exact ⟨hr,x,y,he,h⟩
  rw [e]
  obtain ⟨d,hd⟩:∃d,d=decide (x > 0):=⟨_,rfl⟩
  rw [<-hd] at b1 ⊢
  simp [ER,f1,f2,m1,m40,hfw,f4,b1,aL,bc,-frz,-ag]
def xV:List (FuncId × aG):=[(73,cI 4 M25),(74,cI 4 M26),(76,aD 4 M27),(75,aD 4 M40),(72,aD 4 M41)]
@[simp] theorem Kc:aC xV 73=some (cI 4 M25):=rfl
@[simp] theorem Kb:aC xV 74=some (cI 4 M26):=rfl
@[simp] theorem Ka:aC xV 76=some (aD 4 M27):=rfl
@[simp] theorem J9:aC xV 75=some (aD 4 M40):=rfl
@[simp] theorem J8:aC xV 72=some (aD 4 M41):=rfl
theorem Dn:∀f M,aC xV f=some M->aj Try.prog GC f M:=af (aj.of_pureF qp 4) (af (aj.of_pureF w5 4) (af (aj.of_pure uA 4) (af (aj.of_pure nw 4) (af (aj.of_pure nv 4) az))))
def smT (r:Option Int):AV:=.tup [.int .i64 (r.getD 0),.bool r.isSome]
open Classical in
theorem Bt (fuel:Nat) {a:AV} {l:List a7} (ha:cy a=some l) (n:Int) {hi:Int} (hhi:cz hi):∀(m:Nat) (p:Int),0<m->hi-p+1<m ->
  match smL n.toNat l hi m p with
  | some q=>∃v7 v8 v9 v10 v11 v12 v13 v14 v15 v16,b8 (evC (ax GC xV) fuel fI) ic m (nk (.int .i64 n) a (.int .i64 hi) (.int .i64 p)) []=some (.ret [.int .i64 n,a,.undef,.int .i64 hi,.int .i64 q,.bool true,.int .i64 q,v7,v8,v9,v10,v11,v12,v13,v14,v15,v16] [])
  | none=>∃v6 v7 v8 v9 v10 v11 v12 v13 v14 v15 v16,b8 (evC (ax GC xV) fuel fI) ic m (nk (.int .i64 n) a (.int .i64 hi) (.int .i64 p)) []=some (.exit 0 [.int .i64 n,a,.undef,.int .i64 hi,.undef,.undef,v6,v7,v8,v9,v10,v11,v12,v13,v14,v15,v16] [])
 | 0,p,h0,hm=>by omega
 | m+1,p,h0,hm=>by
  have f1:∀A n,frz A n a=a:=fun A n=>eD ha A n
  have m1:M25 [.int .i64 n,a,.int .i64 p]=some (if cn n l p then .tup [cU n.toNat p l,.bool true] else .tup [.nilP,.bool false]):=by simp only [M25,ha,Option.map_some]
  have b1:ag .leq (.int .i64 p) (.int .i64 hi)=some (.bool (decide (p<=hi))):=by simp [ag]
  unfold smL
  rw [aO,yS]
  by_cases hp:p<=hi
  rotate_left
  ·rw [if_neg (fun h=>hp h.1)]
   rw [decide_eq_false hp] at b1
   refine ⟨.int .i64 p,.undef,.undef,.undef,.undef,.undef,.undef,.bool false,.undef,.undef,.undef,?_⟩
   simp [fI,b1,-ag]
  rw [decide_eq_true hp] at b1
  by_cases hr:cn n l p
  rotate_left
  ·rw [if_neg (fun h=>hr (by
    have h2:=h.2
    have h3:=h2.1.1
    have:((n.toNat:Nat):Int)=n:=by omega
    rw [this] at h2; exact h2))]
   rw [if_neg hr] at m1
   refine ⟨.int .i64 p,.nilP,.bool false,.undef,.undef,.undef,.undef,.bool true,.bool true,.undef,.undef,?_⟩
   simp [fI,b1,m1,f1,aL,-frz,-ag]
  rw [if_pos hr] at m1
  obtain ⟨k,rfl⟩:∃k:Nat,n=(k:Int):=⟨n.toNat,by have:=hr.1.1; omega⟩
  rw [Int.toNat_natCast] at m1 ⊢
  rw [if_pos ⟨hp,hr⟩]
  have m2:=qj hr
  have m3:=vI hr
  obtain ⟨W1,O,hW⟩:∃W1 O,cU k p l=.fp [.int .i64 (k:Int),W1,O]:=⟨_,_,rfl⟩
  have hfw:∀B,frz B 4 (.fp [.int .i64 (k:Int),W1,O])=.fp [.int .i64 (k:Int),W1,O]:=fun _=>rfl
  have hnr:bq 4 (.fp [.int .i64 (k:Int),W1,O])=true:=rfl
  by_cases hok:(bQ (lar p l) k).2=true
  ·rw [if_pos hok]
   rw [hok] at m2
   rw [hW] at m1 m2
   refine ⟨.fp [.int .i64 (k:Int),W1,O],.bool true,.bool true,.undef,.undef,.undef,.bool true,.bool false,.bool true,.undef,?_⟩
   obtain ⟨S,hS⟩:∃S,S=slA 1 (ak (bQ (lar p l) k).1):=⟨_,rfl⟩
   rw [<-hS] at m2
   simp [fI,b1,m1,m2,f1,hfw,aL,-frz,-ag]
  rw [if_neg hok]
  obtain ⟨res,u,xs,k1,k2,k3,k4,k5,k6,k7⟩:=yh hr hok
  have hbd:=xE (n:=(k:Int)) (by have:=hr.1.1; omega) hr.2 hr.1.2.2 k3
  have m4:=vH hr (bg 1 (ak res)) (by rw [k2]; simp; omega)
  rw [k1,Option.getD_some] at m3
  rw [k7] at m4
  rw [k1,Option.getD_some,k7,Option.getD_some]
  simp only [exT,Option.getD_some,Option.isSome_some] at m4
  simp only
  rw [Bool.not_eq_true] at hok
  rw [hok] at m2
  rw [hW] at m1 m2 m3 m4
  obtain ⟨S,hS⟩:∃S,S=slA 1 (ak (bQ (lar p l) k).1):=⟨_,rfl⟩
  rw [<-hS] at m2
  have hnc:∀n,bq n (slA 1 (ak res))=true:=fun n=>xq n 1 _
  have hfc:∀A n,frz A n (slA 1 (ak res))=slA 1 (ak res):=fun A n=>tT A n 1 _
  obtain ⟨C,hC⟩:∃C,C=slA 1 (ak res):=⟨_,rfl⟩
  rw [<-hC] at m3 m4 hnc hfc
  obtain ⟨s,hs⟩:∃s,s=iy p xs:=⟨_,rfl⟩
  obtain ⟨t,ht⟩:∃t,t=kx xs:=⟨_,rfl⟩
  rw [<-hs,<-ht] at m4 hbd ⊢
  rw [<-hs] at k6
  have b2:ag .leq (.int .i64 t) (.int .i64 0)=some (.bool (decide (t<=0))):=by simp [ag]
  by_cases ht0:t<=0
  ·rw [if_pos ht0]
   rw [decide_eq_true ht0] at b2
   refine ⟨.int .i64 p,.fp [.int .i64 (k:Int),W1,O],.bool true,.bool false,.int .i64 s,.int .i64 t,.undef,.bool true,.bool false,.bool false,.bool true,?_⟩
   simp [fI,b1,b2,m1,m2,m3,m4,f1,hfw,hnc,hfc,aL,-frz,-ag]
  rw [if_neg ht0]
  rw [decide_eq_false ht0] at b2
  obtain ⟨d1,d2,d3,d4⟩:=um k6 (show 0<t by omega)
  have hper:=hr.2
  unfold cz at hper hhi
  have b3:ag .add (.int .i64 s) (.int .i64 t)=some (.int .i64 (s+t)):=by
   simp only [ag]; rw [if_pos trivial,dY (by unfold inI; omega)]
  have b4:ag .sub (.int .i64 (s+t)) (.int .i64 1)=some (.int .i64 (s+t-1)):=by
   simp only [ag]; rw [if_pos trivial,dY (by unfold inI; omega)]
  have b5:ag .quo (.int .i64 (s+t-1)) (.int .i64 t)=some (.int .i64 ((s+t-1).tdiv t)):=by
   simp only [ag]; rw [if_pos trivial,if_neg (show ¬ t=0 by omega),dY (by unfold inI; omega)]
  obtain ⟨d,hd⟩:∃d,d=(s+t-1).tdiv t:=⟨_,rfl⟩
  rw [<-hd] at b5 d1 d2 ⊢
  have b6:ag .add (.int .i64 p) (.int .i64 d)=some (.int .i64 (p+d)):=by
   simp only [ag]; rw [if_pos trivial,dY (by unfold inI; omega)]
  have ih:=Bt fuel ha (k:Int) hhi m (p+d) (by omega) (by omega)
  rw [Int.toNat_natCast] at ih
  obtain ⟨p2,hp2⟩:∃p2,p2=p+d:=⟨_,rfl⟩
  rw [<-hp2] at b6 ih ⊢
  obtain ⟨st,hst⟩:∃st,st=s+t:=⟨_,rfl⟩
  rw [<-hst] at b3 b4 b5
  obtain ⟨st1,hst1⟩:∃st1,st1=st-1:=⟨_,rfl⟩
  rw [<-hst1] at b4 b5
  have hrun:run (ax GC xV) fuel [.code fI] (nk (.int .i64 (k:Int)) a (.int .i64 hi) (.int .i64 p)) []=some (.normal (nk (.int .i64 (k:Int)) a (.int .i64 hi) (.int .i64 p2)) []):=by
   simp [fI,b1,b2,b3,b4,b5,b6,m1,m2,m3,m4,f1,hfw,hnc,hfc,aL,-frz,-ag]
  rw [hrun]
  exact ih
def M23:aP:=fun args=>match args with
 | [.int .i64 n,a,.int .i64 lo,.int .i64 hi]=>(cy a).map fun l=>smT (smM n l lo hi)
 | _=>none
theorem Fv:aq Try.prog GC 45 M23:=by
 refine aq.of_ev (E:=ax GC xV) (aw Dn) rfl at23 G8 5 ?_
 intro args r h
 unfold M23 at h
 split at h
 rotate_left
 ·cases h
 rename_i n a lo hi
 simp only [Option.map_eq_some_iff] at h
 obtain ⟨l,hl,rfl⟩:=h
 obtain ⟨m,hm⟩:∃m,m=(hi-lo+2).toNat+1:=⟨_,rfl⟩
 have m1:M41 [.int .i64 hi]=some (.bool (decide (cz hi))):=rfl
 by_cases hp:cz hi
 rotate_left
 ·refine ⟨0,?_⟩
  rw [decide_eq_false hp] at m1
  rw [show smM n l lo hi=none from if_neg hp]
  rw [aI _ _ rfl]
  simp [FX,m1,smT]
 rw [decide_eq_true hp] at m1
 rw [show smM n l lo hi=smL n.toNat l hi (hi-lo+2).toNat lo from if_pos hp]
 by_cases hz:(hi-lo+2).toNat=0
 ·
  refine ⟨1,?_⟩
  rw [hz]
  have b1:ag .leq (.int .i64 lo) (.int .i64 hi)=some (.bool false):=by simp [ag]; omega
  have lp:b8 (evC (ax GC xV) 1 fI) ic 1 (nk (.int .i64 n) a (.int .i64 hi) (.int .i64 lo)) []=some (.exit 0 [.int .i64 n,a,.undef,.int .i64 hi,.undef,.undef,.int .i64 lo,.undef,.undef,.undef,.undef,.undef,.undef,.bool false,.undef,.undef,.undef] []):=by
   rw [aO,yS]
   simp [fI,b1,-ag]
  rw [aI _ _ rfl]
  simp [FX,m1,xR lp,smL,smT]
 ·obtain ⟨F,hF⟩:∃F,F=(hi-lo+2).toNat:=⟨_,rfl⟩
  have hl23:=Bt F hl n hp F lo (by omega) (by omega)
  refine ⟨F,?_⟩
  rw [<-hF]
  rw [aI _ _ rfl]
  cases hs:smL n.toNat l hi F lo with
  | none=>
   rw [hs] at hl23
   obtain ⟨v6,v7,v8,v9,v10,v11,v12,v13,v14,v15,v16,lp⟩:=hl23
   simp [FX,m1,xR lp,smT]
  | some q=>
   rw [hs] at hl23
   obtain ⟨v7,v8,v9,v10,v11,v12,v13,v14,v15,v16,lp⟩:=hl23
   simp [FX,m1,xR lp,smT]
end Cy
namespace Clu
open Go
def kC:cB:=⟨1,7,.seq (.region [⟨some 1,.box (.var 0),none⟩,⟨some 2,.mv (.cst .nilS),none⟩]) (.seq (.seq (.region [⟨none,.load true 5 (.var 1),none⟩,⟨none,.call (.fn 62) [.tmp 0],none⟩,⟨some 6,.un .not (.tmp 1),none⟩]) (.cond (.var 6) (.seq (.region [⟨some 2,.mv (.cst .nilS),none⟩]) .ret) .skip)) (.seq (.region [⟨none,.fieldAddr 0 (.var 1),none⟩,⟨none,.load false 1 (.tmp 0),none⟩,⟨none,.lenSl (.tmp 1),none⟩,⟨some 3,.alloc 1 (.int .i64 0),none⟩,⟨none,.store 1 (.var 3) (.tmp 2),none⟩]) (.seq (.region [⟨some 4,.alloc 1 .nilS,none⟩]) (.seq (.region [⟨some 5,.alloc 1 .nilF,none⟩]) (.seq (.region [⟨none,.makeFunc (.func 63) [] [.var 3,.var 4,.var 1,.var 5],none⟩,⟨none,.store 1 (.var 5) (.tmp 0),none⟩]) (.seq (.region [⟨none,.load false 1 (.var 5),none⟩,⟨none,.buildSlice 1 [.cst (.int .i64 0)],none⟩,⟨none,.call (.tmp 0) [.tmp 1],none⟩]) (.seq (.region [⟨none,.load false 1 (.var 4),none⟩,⟨some 2,.mv (.tmp 0),none⟩]) .ret))))))),[.tmp 2]⟩
theorem kn:aE Try.prog Try.f43 1 [0,1,2,3,4,5,8] [] false ([],[])=some kC:=by kernel_rfl
theorem A8:Try.prog.funcs[43]?=some Try.f43:=by kernel_rfl
def pQ:cB:=⟨1,6,.seq (.region [⟨some 1,.box (.var 0),none⟩,⟨some 2,.mv (.cst (.bool false)),none⟩]) (.seq (.region [⟨some 3,.alloc 1 .nilF,none⟩,⟨none,.store 1 (.var 3) (.fn 82),none⟩]) (.seq (.region [⟨none,.fieldAddr 0 (.var 1),none⟩,⟨none,.load false 1 (.tmp 0),none⟩,⟨none,.makeFunc (.func 84) [] [.var 3],none⟩,⟨none,.call (.fn 83) [.tmp 1,.tmp 2],none⟩,⟨some 4,.mv (.tmp 3),none⟩]) (.seq (.region [⟨none,.load false 1 (.var 3),none⟩,⟨none,.fieldAddr 1 (.var 1),none⟩,⟨none,.load false 1 (.tmp 1),none⟩,⟨none,.call (.tmp 0) [.tmp 2,.cst (.int .i64 10000)],none⟩,⟨none,.mv (.tmp 3),none⟩,⟨none,.load false 1 (.var 3),some (.tmp 4,true)⟩,⟨none,.fieldAddr 2 (.var 1),some (.tmp 4,true)⟩,⟨none,.load false 1 (.tmp 6),some (.tmp 4,true)⟩,⟨none,.call (.tmp 5) [.tmp 7,.cst (.int .i64 10000)],some (.tmp 4,true)⟩,⟨none,.pick (.tmp 4) (.tmp 8) (.cst (.bool false)),none⟩,⟨none,.mv (.tmp 9),none⟩,⟨none,.load false 1 (.var 3),some (.tmp 10,true)⟩,⟨none,.fieldAddr 3 (.var 1),some (.tmp 10,true)⟩,⟨none,.load false 1 (.tmp 12),some (.tmp 10,true)⟩,⟨none,.call (.tmp 11) [.tmp 13,.cst (.int .i64 10000)],some (.tmp 10,true)⟩,⟨none,.pick (.tmp 10) (.tmp 14) (.cst (.bool false)),none⟩,⟨some 5,.mv (.tmp 15),none⟩]) (.seq (.region [⟨none,.mv (.var 4),none⟩,⟨none,.un .not (.tmp 0),none⟩,⟨none,.mv (.tmp 1),none⟩,⟨none,.mv (.var 5),some (.tmp 2,true)⟩,⟨none,.pick (.tmp 2) (.tmp 3) (.cst (.bool false)),none⟩,⟨none,.mv (.tmp 4),none⟩,⟨none,.fieldAddr 0 (.var 1),some (.tmp 5,true)⟩,⟨none,.load false 1 (.tmp 6),some (.tmp 5,true)⟩,⟨none,.lenSl (.tmp 7),some (.tmp 5,true)⟩,⟨none,.bin .geq (.tmp 8) (.cst (.int .i64 1)),some (.tmp 5,true)⟩,⟨none,.pick (.tmp 5) (.tmp 9) (.cst (.bool false)),none⟩,⟨none,.mv (.tmp 10),none⟩,⟨none,.fieldAddr 0 (.var 1),some (.tmp 11,true)⟩,⟨none,.load false 1 (.tmp 12),some (.tmp 11,true)⟩,⟨none,.lenSl (.tmp 13),some (.tmp 11,true)⟩,⟨none,.bin .leq (.tmp 14) (.cst (.int .i64 4)),some (.tmp 11,true)⟩,⟨none,.pick (.tmp 11) (.tmp 15) (.cst (.bool false)),none⟩,⟨none,.mv (.tmp 16),none⟩,⟨none,.fieldAddr 4 (.var 1),some (.tmp 17,true)⟩,⟨none,.load false 1 (.tmp 18),some (.tmp 17,true)⟩,⟨none,.bin .eql (.tmp 19) (.cst (.int .i64 1)),some (.tmp 17,true)⟩,⟨none,.mv (.tmp 20),some (.tmp 17,true)⟩,⟨none,.fieldAddr 4 (.var 1),some (.tmp 21,false)⟩,⟨none,.load false 1 (.tmp 22),some (.tmp 21,false)⟩,⟨none,.bin .eql (.tmp 23) (.cst (.int .i64 2)),some (.tmp 21,false)⟩,⟨none,.pick (.tmp 21) (.cst (.bool true)) (.tmp 24),some (.tmp 17,true)⟩,⟨none,.pick (.tmp 17) (.tmp 25) (.cst (.bool false)),none⟩,⟨some 2,.mv (.tmp 26),none⟩]) .ret)))),[.tmp 2]⟩
theorem su:aE Try.prog Try.f62 1 [0,1,2,3,4,5] [] true ([],[])=some pQ:=by kernel_rfl
theorem Hn:Try.prog.funcs[62]?=some Try.f62:=by kernel_rfl
def fK:MC:=.seq (.region [⟨some 19,.bin .lss (.var 18) (.var 17),none⟩]) (.seq (.cond (.var 19) .skip (.exit 0)) (.seq (.seq (.block 1 (.seq (.region [⟨none,.mv (.var 18),none⟩,⟨none,.indexSl 1 (.var 16) (.var 18),none⟩,⟨none,.load false 1 (.tmp 1),none⟩,⟨some 8,.mv (.tmp 0),none⟩,⟨some 9,.mv (.tmp 2),none⟩]) (.seq (.region [⟨none,.mv (.var 9),none⟩,⟨none,.mv (.var 6),none⟩,⟨none,.build [.int .i64 0,.int .i64 0,.int .i64 0,.int .i64 0] [(0,(1,.tmp 0)),(2,(1,.tmp 1)),(3,(1,.cst (.int .i64 1)))],none⟩,⟨some 10,.alloc 4 (.agg [.int .i64 0,.int .i64 0,.int .i64 0,.int .i64 0]),none⟩,⟨none,.store 4 (.var 10) (.tmp 2),none⟩]) (.seq (.seq (.region [⟨none,.mv (.var 8),none⟩,⟨none,.bin .add (.tmp 0) (.cst (.int .i64 1)),none⟩,⟨none,.load false 1 (.var 3),none⟩,⟨none,.lenSl (.tmp 2),none⟩,⟨some 20,.bin .lss (.tmp 1) (.tmp 3),none⟩]) (.cond (.var 20) (.region [⟨none,.load false 1 (.var 3),none⟩,⟨none,.mv (.var 8),none⟩,⟨none,.bin .add (.tmp 1) (.cst (.int .i64 1)),none⟩,⟨none,.indexSl 1 (.tmp 0) (.tmp 2),none⟩,⟨none,.load false 1 (.tmp 3),none⟩,⟨none,.fieldAddr 1 (.var 10),none⟩,⟨none,.store 1 (.tmp 5) (.tmp 4),none⟩,⟨none,.fieldAddr 3 (.var 10),none⟩,⟨none,.store 1 (.tmp 7) (.cst (.int .i64 0)),none⟩]) .skip)) (.seq (.seq (.region [⟨none,.fieldAddr 4 (.var 2),none⟩,⟨none,.load false 1 (.tmp 0),none⟩,⟨none,.bin .eql (.tmp 1) (.cst (.int .i64 2)),none⟩,⟨none,.mv (.tmp 2),none⟩,⟨none,.fieldAddr 1 (.var 10),some (.tmp 3,false)⟩,⟨none,.load false 1 (.tmp 4),some (.tmp 3,false)⟩,⟨none,.mv (.var 9),some (.tmp 3,false)⟩,⟨none,.bin .add (.tmp 6) (.cst (.int .i64 1)),some (.tmp 3,false)⟩,⟨none,.bin .neq (.tmp 5) (.tmp 7),some (.tmp 3,false)⟩,⟨some 21,.pick (.tmp 3) (.cst (.bool true)) (.tmp 8),none⟩]) (.cond (.var 21) (.region [⟨none,.fieldAddr 2 (.var 10),none⟩,⟨none,.load false 1 (.tmp 0),none⟩,⟨none,.fieldAddr 3 (.var 2),none⟩,⟨none,.load false 1 (.tmp 2),none⟩,⟨none,.bin .add (.tmp 1) (.tmp 3),none⟩,⟨none,.fieldAddr 2 (.var 10),none⟩,⟨none,.store 1 (.tmp 5) (.tmp 4),none⟩]) .skip)) (.region [⟨none,.load true 4 (.var 10),none⟩,⟨none,.buildF 4 [.tmp 0],none⟩,⟨none,.call (.fn 70) [.var 7,.tmp 1],none⟩])))))) (.kill [0,1,4,5,8,9,10,11,12,13,14,15,19,20,21,22,23,24,25])) (.region [⟨none,.bin .add (.var 18) (.cst (.int .i64 1)),none⟩,⟨some 18,.mv (.tmp 0),none⟩])))
def lI:MC:=.seq (.region [⟨some 25,.bin .lss (.var 24) (.var 23),none⟩]) (.seq (.cond (.var 25) .skip (.exit 2)) (.seq (.seq (.block 3 (.seq (.region [⟨none,.mv (.var 24),none⟩,⟨none,.indexSl 2 (.var 22) (.var 24),none⟩,⟨none,.load true 2 (.tmp 1),none⟩,⟨some 13,.alloc 2 (.agg [.int .i64 0,.int .i64 0]),none⟩,⟨some 12,.mv (.tmp 0),none⟩,⟨none,.store 2 (.var 13) (.tmp 2),none⟩]) (.seq (.region [⟨none,.mv (.var 11),none⟩,⟨none,.load false 1 (.var 3),none⟩,⟨none,.mv (.var 12),none⟩,⟨none,.bin .add (.tmp 2) (.cst (.int .i64 1)),none⟩,⟨none,.call (.tmp 0) [.tmp 1,.tmp 3],none⟩,⟨some 14,.alloc 3 (.agg [.int .i64 0,.int .i64 0,.int .i64 0]),none⟩,⟨none,.store 3 (.var 14) (.tmp 4),none⟩]) (.region [⟨none,.fieldAddr 0 (.var 14),none⟩,⟨none,.load false 1 (.tmp 0),none⟩,⟨none,.fieldAddr 1 (.var 14),none⟩,⟨none,.load false 1 (.tmp 2),none⟩,⟨none,.mv (.var 6),none⟩,⟨none,.fieldAddr 0 (.var 13),none⟩,⟨none,.load false 1 (.tmp 5),none⟩,⟨none,.bin .add (.tmp 4) (.tmp 6),none⟩,⟨none,.fieldAddr 2 (.var 14),none⟩,⟨none,.load false 1 (.tmp 8),none⟩,⟨none,.build [.int .i64 0,.int .i64 0,.int .i64 0,.int .i64 0] [(0,(1,.tmp 1)),(1,(1,.tmp 3)),(2,(1,.tmp 7)),(3,(1,.tmp 9))],none⟩,⟨none,.fieldAddr 1 (.var 14),none⟩,⟨none,.load false 1 (.tmp 11),none⟩,⟨none,.fieldAddr 0 (.var 14),none⟩,⟨none,.load false 1 (.tmp 13),none⟩,⟨none,.mv (.var 6),none⟩,⟨none,.fieldAddr 0 (.var 13),none⟩,⟨none,.load false 1 (.tmp 16),none⟩,⟨none,.bin .add (.tmp 15) (.tmp 17),none⟩,⟨none,.fieldAddr 1 (.var 13),none⟩,⟨none,.load false 1 (.tmp 19),none⟩,⟨none,.bin .add (.tmp 18) (.tmp 20),none⟩,⟨none,.un .neg (.tmp 21),none⟩,⟨none,.fieldAddr 2 (.var 14),none⟩,⟨none,.load false 1 (.tmp 23),none⟩,⟨none,.un .neg (.tmp 24),none⟩,⟨none,.build [.int .i64 0,.int .i64 0,.int .i64 0,.int .i64 0] [(0,(1,.tmp 12)),(1,(1,.tmp 14)),(2,(1,.tmp 22)),(3,(1,.tmp 25))],none⟩,⟨none,.buildF 4 [.tmp 10,.tmp 26],none⟩,⟨none,.call (.fn 70) [.var 7,.tmp 27],none⟩])))) (.kill [0,1,2,4,5,8,9,10,12,13,14,15,16,17,18,19,20,21,25])) (.region [⟨none,.bin .add (.var 24) (.cst (.int .i64 1)),none⟩,⟨some 24,.mv (.tmp 0),none⟩])))
def zQ:cB:=⟨2,26,.seq (.region [⟨some 2,.box (.var 0),none⟩,⟨some 3,.box (.var 1),none⟩,⟨some 4,.mv (.cst .nilS),none⟩,⟨some 5,.mv (.cst (.int .i64 0)),none⟩]) (.seq (.seq (.region [⟨none,.load true 5 (.var 2),none⟩,⟨none,.call (.fn 43) [.tmp 0],none⟩,⟨none,.makeFunc (.func 67) [] [.var 3],none⟩,⟨none,.call (.fn 66) [.tmp 1,.tmp 2],none⟩,⟨some 15,.un .not (.tmp 3),none⟩]) (.cond (.var 15) (.seq (.region [⟨some 4,.mv (.cst .nilS),none⟩,⟨some 5,.mv (.cst (.int .i64 130)),none⟩]) .ret) .skip)) (.seq (.region [⟨none,.load true 5 (.var 2),none⟩,⟨none,.call (.fn 69) [.tmp 0],none⟩,⟨some 6,.mv (.tmp 1),none⟩]) (.seq (.region [⟨some 7,.alloc 1 .nilS,none⟩]) (.seq (.seq (.region [⟨some 16,.load false 1 (.var 3),none⟩,⟨some 17,.lenSl (.var 16),none⟩,⟨some 18,.mv (.cst (.int .i64 0)),none⟩]) (.seq (.block 0 (.loop [0,1,4,5,8,9,10,11,12,13,14,15,19,20,21,22,23,24,25] fK)) (.kill [0,1,4,5,8,9,10,11,12,13,14,15,16,17,18,19,20,21,22,23,24,25]))) (.seq (.region [⟨none,.call (.fn 71) [],none⟩,⟨none,.fieldAddr 4 (.var 2),none⟩,⟨none,.load false 1 (.tmp 1),none⟩,⟨none,.indexVal false 3 1 (.tmp 0) (.tmp 2),none⟩,⟨some 11,.mv (.tmp 3),none⟩]) (.seq (.seq (.region [⟨none,.fieldAddr 0 (.var 2),none⟩,⟨some 22,.load false 1 (.tmp 0),none⟩,⟨some 23,.lenSl (.var 22),none⟩,⟨some 24,.mv (.cst (.int .i64 0)),none⟩]) (.seq (.block 2 (.loop [0,1,2,4,5,8,9,10,12,13,14,15,16,17,18,19,20,21,25] lI)) (.kill [0,1,2,3,4,5,6,8,9,10,11,12,13,14,15,16,17,18,19,20,21,22,23,24,25]))) (.seq (.region [⟨none,.load false 1 (.var 7),none⟩,⟨some 4,.mv (.tmp 0),none⟩,⟨some 5,.mv (.cst (.int .i64 0)),none⟩]) .ret))))))),[.tmp 4,.tmp 5]⟩
def ij:List Nat:=[0,1,4,5,8,9,10,11,12,13,14,15,19,20,21,22,23,24,25]
abbrev nq (v2 v3 v6 v7 v16 v17 v18:AV):List AV:=[.undef,.undef,v2,v3,.undef,.undef,v6,v7,.undef,.undef,.undef,.undef,.undef,.undef,.undef,.undef,v16,v17,v18,.undef,.undef,.undef,.undef,.undef,.undef,.undef]
theorem yU {d0 d1 v2 v3 d4 d5 v6 v7 d8 d9 d10 d11 d12 d13 d14 d15 v16 v17 v18 d19 d20 d21 d22 d23 d24 d25:AV}:clear ij [d0,d1,v2,v3,d4,d5,v6,v7,d8,d9,d10,d11,d12,d13,d14,d15,v16,v17,v18,d19,d20,d21,d22,d23,d24,d25]=nq v2 v3 v6 v7 v16 v17 v18:=by simp only [ij,clear,List.foldl_cons,List.foldl_nil,List.set_cons_zero,List.set_cons_succ]
theorem Gx {E:Env} {fuel:Nat} {A:aa} {o:Out} {k:List KC} {d0 d1 v2 v3 d4 d5 v6 v7 d8 d9 d10 d11 d12 d13 d14 d15 v16 v17 v18 d19 d20 d21 d22 d23 d24 d25:AV} (h:b8 (evC E fuel fK) ij fuel (nq v2 v3 v6 v7 v16 v17 v18) A=some o) :
  run E fuel (.code (.loop [0,1,4,5,8,9,10,11,12,13,14,15,19,20,21,22,23,24,25] fK) :: k) [d0,d1,v2,v3,d4,d5,v6,v7,d8,d9,d10,d11,d12,d13,d14,d15,v16,v17,v18,d19,d20,d21,d22,d23,d24,d25] A=after E fuel k o:=aU ij _ _ (by rw [yU]; exact h)
def ig:List Nat:=[0,1,2,4,5,8,9,10,12,13,14,15,16,17,18,19,20,21,25]
abbrev nm (v3 v6 v7 v11 v22 v23 v24:AV):List AV:=[.undef,.undef,.undef,v3,.undef,.undef,v6,v7,.undef,.undef,.undef,v11,.undef,.undef,.undef,.undef,.undef,.undef,.undef,.undef,.undef,.undef,v22,v23,v24,.undef]
theorem yT {d0 d1 d2 v3 d4 d5 v6 v7 d8 d9 d10 v11 d12 d13 d14 d15 d16 d17 d18 d19 d20 d21 v22 v23 v24 d25:AV}:clear ig [d0,d1,d2,v3,d4,d5,v6,v7,d8,d9,d10,v11,d12,d13,d14,d15,d16,d17,d18,d19,d20,d21,v22,v23,v24,d25]=nm v3 v6 v7 v11 v22 v23 v24:=by simp only [ig,clear,List.foldl_cons,List.foldl_nil,List.set_cons_zero,List.set_cons_succ]
theorem Gw {E:Env} {fuel:Nat} {A:aa} {o:Out} {k:List KC} {d0 d1 d2 v3 d4 d5 v6 v7 d8 d9 d10 v11 d12 d13 d14 d15 d16 d17 d18 d19 d20 d21 v22 v23 v24 d25:AV} (h:b8 (evC E fuel lI) ig fuel (nm v3 v6 v7 v11 v22 v23 v24) A=some o) :
  run E fuel (.code (.loop [0,1,2,4,5,8,9,10,12,13,14,15,16,17,18,19,20,21,25] lI) :: k) [d0,d1,d2,v3,d4,d5,v6,v7,d8,d9,d10,v11,d12,d13,d14,d15,d16,d17,d18,d19,d20,d21,v22,v23,v24,d25] A=after E fuel k o:=aU ig _ _ (by rw [yT]; exact h)
theorem yF:aE Try.prog Try.f44 2 [0,1,2,3,4,5,6,7,8,9,10,11,12,13,14,19,22,23,24,25,36,53,69,70,71,72] [71] true ([[0,1,4,5,8,9,10,11,12,13,14,15,19,20,21,22,23,24,25],[0,1,2,4,5,8,9,10,12,13,14,15,16,17,18,19,20,21,25]],[[0,1,4,5,8,9,10,11,12,13,14,15,19,20,21,22,23,24,25],[0,1,4,5,8,9,10,11,12,13,14,15,16,17,18,19,20,21,22,23,24,25],[0,1,2,4,5,8,9,10,12,13,14,15,16,17,18,19,20,21,25],[0,1,2,3,4,5,6,8,9,10,11,12,13,14,15,16,17,18,19,20,21,22,23,24,25]])=some zQ:=by kernel_rfl
theorem Ll:Try.prog.funcs[44]?=some Try.f44:=by kernel_rfl
def fJ:MC:=.seq (.region [⟨some 14,.bin .lss (.var 13) (.var 12),none⟩]) (.seq (.cond (.var 14) .skip (.exit 0)) (.seq (.seq (.block 1 (.seq (.region [⟨none,.indexSl 1 (.var 11) (.var 13),none⟩,⟨none,.load false 1 (.tmp 0),none⟩,⟨some 6,.mv (.tmp 1),none⟩]) (.seq (.region [⟨none,.load true 5 (.var 1),none⟩,⟨none,.mv (.var 6),none⟩,⟨none,.call (.fn 44) [.tmp 0,.tmp 1],none⟩,⟨none,.mv (.tmp 2),none⟩,⟨none,.extract (.tmp 3) 0,none⟩,⟨none,.extract (.tmp 3) 1,none⟩,⟨some 7,.mv (.tmp 4),none⟩,⟨none,.mv (.tmp 5),none⟩]) (.seq (.region [⟨some 8,.mv (.cst (.int .i64 1000000)),none⟩]) (.seq (.seq (.region [⟨none,.fieldAddr 0 (.var 4),none⟩,⟨none,.load false 1 (.tmp 0),none⟩,⟨some 15,.bin .gtr (.tmp 1) (.cst (.int .i64 0)),none⟩]) (.cond (.var 15) (.region [⟨none,.fieldAddr 0 (.var 4),none⟩,⟨none,.load false 1 (.tmp 0),none⟩,⟨none,.bin .sub (.tmp 1) (.cst (.int .i64 1)),none⟩,⟨some 8,.mv (.tmp 2),none⟩]) .skip)) (.seq (.seq (.region [⟨none,.mv (.var 8),none⟩,⟨some 16,.bin .lss (.tmp 0) (.cst (.int .i64 1)),none⟩]) (.cond (.var 16) (.exit 0) .skip)) (.seq (.region [⟨none,.mv (.var 6),none⟩,⟨none,.lenSl (.tmp 0),none⟩,⟨none,.mv (.var 7),none⟩,⟨none,.mv (.var 8),none⟩,⟨none,.call (.fn 45) [.tmp 1,.tmp 2,.cst (.int .i64 1),.tmp 3],none⟩,⟨none,.mv (.tmp 4),none⟩,⟨none,.extract (.tmp 5) 0,none⟩,⟨none,.extract (.tmp 5) 1,none⟩,⟨some 9,.mv (.tmp 6),none⟩,⟨some 10,.mv (.tmp 7),none⟩]) (.seq (.region [⟨some 17,.mv (.var 10),none⟩]) (.cond (.var 17) (.region [⟨none,.mv (.var 9),none⟩,⟨none,.mv (.var 6),none⟩,⟨none,.build [.int .i64 0,.nilS,.nilS,.nilS] [(0,(1,.tmp 0)),(1,(1,.tmp 1))],none⟩,⟨none,.mv (.var 7),none⟩,⟨none,.store 4 (.var 4) (.tmp 2),none⟩,⟨some 5,.mv (.tmp 3),none⟩]) .skip))))))))) (.kill [0,3,6,7,8,9,10,14,15,16,17,18,19])) (.region [⟨none,.bin .add (.var 13) (.cst (.int .i64 1)),none⟩,⟨some 13,.mv (.tmp 0),none⟩])))
def zP:cB:=⟨1,20,.seq (.region [⟨some 1,.box (.var 0),none⟩,⟨some 2,.alloc 4 (.agg [.int .i64 0,.nilS,.nilS,.nilS]),none⟩,⟨some 3,.mv (.cst (.int .i64 0)),none⟩]) (.seq (.region [⟨some 4,.alloc 4 (.agg [.int .i64 0,.nilS,.nilS,.nilS]),none⟩]) (.seq (.region [⟨some 5,.mv (.cst .nilS),none⟩]) (.seq (.seq (.region [⟨none,.load true 5 (.var 1),none⟩,⟨some 11,.call (.fn 43) [.tmp 0],none⟩,⟨some 12,.lenSl (.var 11),none⟩,⟨some 13,.mv (.cst (.int .i64 0)),none⟩]) (.seq (.block 0 (.loop [0,3,6,7,8,9,10,14,15,16,17,18,19] fJ)) (.kill [0,1,3,6,7,8,9,10,11,12,13,14,15,16,17,18,19]))) (.seq (.seq (.region [⟨none,.fieldAddr 0 (.var 4),none⟩,⟨none,.load false 1 (.tmp 0),none⟩,⟨some 18,.bin .eql (.tmp 1) (.cst (.int .i64 0)),none⟩]) (.cond (.var 18) (.seq (.region [⟨none,.build [.int .i64 0,.nilS,.nilS,.nilS] [],none⟩,⟨none,.store 4 (.var 2) (.tmp 0),none⟩,⟨some 3,.mv (.cst (.int .i64 130)),none⟩]) .ret) .skip)) (.seq (.region [⟨none,.fieldAddr 1 (.var 4),none⟩,⟨none,.load false 1 (.tmp 0),none⟩,⟨none,.lenSl (.tmp 1),none⟩,⟨none,.mv (.var 5),none⟩,⟨none,.fieldAddr 0 (.var 4),none⟩,⟨none,.load false 1 (.tmp 4),none⟩,⟨none,.call (.fn 46) [.tmp 2,.tmp 3,.tmp 5],none⟩,⟨none,.mv (.tmp 6),none⟩,⟨none,.extract (.tmp 7) 0,none⟩,⟨none,.extract (.tmp 7) 1,none⟩,⟨none,.extract (.tmp 7) 2,none⟩,⟨none,.fieldAddr 2 (.var 4),none⟩,⟨none,.store 1 (.tmp 11) (.tmp 8),none⟩]) (.seq (.seq (.region [⟨none,.fieldAddr 0 (.var 4),none⟩,⟨none,.load false 1 (.tmp 0),none⟩,⟨some 19,.bin .gtr (.tmp 1) (.cst (.int .i64 1)),none⟩]) (.cond (.var 19) (.region [⟨none,.fieldAddr 1 (.var 4),none⟩,⟨none,.load false 1 (.tmp 0),none⟩,⟨none,.lenSl (.tmp 1),none⟩,⟨none,.mv (.var 5),none⟩,⟨none,.fieldAddr 0 (.var 4),none⟩,⟨none,.load false 1 (.tmp 4),none⟩,⟨none,.bin .sub (.tmp 5) (.cst (.int .i64 1)),none⟩,⟨none,.call (.fn 46) [.tmp 2,.tmp 3,.tmp 6],none⟩,⟨none,.mv (.tmp 7),none⟩,⟨none,.extract (.tmp 8) 0,none⟩,⟨none,.extract (.tmp 8) 1,none⟩,⟨none,.extract (.tmp 8) 2,none⟩,⟨none,.fieldAddr 3 (.var 4),none⟩,⟨none,.store 1 (.tmp 12) (.tmp 10),none⟩]) .skip)) (.seq (.region [⟨none,.load true 4 (.var 4),none⟩,⟨none,.store 4 (.var 2) (.tmp 0),none⟩,⟨some 3,.mv (.cst (.int .i64 0)),none⟩]) .ret))))))),[.cell 2 true 4,.tmp 3]⟩
def jP:List Nat:=[0,3,6,7,8,9,10,14,15,16,17,18,19]
abbrev nl (v1 v2 v4 v5 v11 v12 v13:AV):List AV:=[.undef,v1,v2,.undef,v4,v5,.undef,.undef,.undef,.undef,.undef,v11,v12,v13,.undef,.undef,.undef,.undef,.undef,.undef]
theorem vt {d0 v1 v2 d3 v4 v5 d6 d7 d8 d9 d10 v11 v12 v13 d14 d15 d16 d17 d18 d19:AV}:clear jP [d0,v1,v2,d3,v4,v5,d6,d7,d8,d9,d10,v11,v12,v13,d14,d15,d16,d17,d18,d19]=nl v1 v2 v4 v5 v11 v12 v13:=rfl
theorem xS {E:Env} {fuel:Nat} {A:aa} {o:Out} {k:List KC} {d0 v1 v2 d3 v4 v5 d6 d7 d8 d9 d10 v11 v12 v13 d14 d15 d16 d17 d18 d19:AV} (h:b8 (evC E fuel fJ) jP fuel (nl v1 v2 v4 v5 v11 v12 v13) A=some o) :
  run E fuel (.code (.loop [0,3,6,7,8,9,10,14,15,16,17,18,19] fJ) :: k) [d0,v1,v2,d3,v4,v5,d6,d7,d8,d9,d10,v11,v12,v13,d14,d15,d16,d17,d18,d19] A=after E fuel k o:=aU jP _ _ (by rw [vt]; exact h)
theorem yE:aE Try.prog Try.f23 1 [0,1,2,3,4,5,7,8,10,11,12,14,15,16,17,28,33,42,50,66] [] true ([[0,3,6,7,8,9,10,14,15,16,17,18,19]],[[0,3,6,7,8,9,10,14,15,16,17,18,19],[0,1,3,6,7,8,9,10,11,12,13,14,15,16,17,18,19]])=some zP:=by kernel_rfl
theorem Lk:Try.prog.funcs[23]?=some Try.f23:=by kernel_rfl
def rJ:cB:=⟨2,10,.seq (.region [⟨some 2,.box (.var 0),none⟩,⟨some 3,.box (.var 1),none⟩,⟨some 4,.mv (.cst (.bool false)),none⟩]) (.seq (.region [⟨none,.load true 5 (.var 2),none⟩,⟨none,.fieldAddr 1 (.var 3),none⟩,⟨none,.load false 1 (.tmp 1),none⟩,⟨none,.call (.fn 44) [.tmp 0,.tmp 2],none⟩,⟨none,.mv (.tmp 3),none⟩,⟨none,.extract (.tmp 4) 0,none⟩,⟨none,.extract (.tmp 4) 1,none⟩,⟨some 5,.mv (.tmp 5),none⟩,⟨some 6,.mv (.tmp 6),none⟩]) (.seq (.region [⟨none,.fieldAddr 1 (.var 3),none⟩,⟨none,.load false 1 (.tmp 0),none⟩,⟨none,.lenSl (.tmp 1),none⟩,⟨some 7,.mv (.tmp 2),none⟩]) (.seq (.seq (.block 0 (.seq (.region [⟨none,.mv (.var 6),none⟩,⟨none,.bin .neq (.tmp 0) (.cst (.int .i64 0)),none⟩,⟨none,.mv (.tmp 1),none⟩,⟨none,.fieldAddr 0 (.var 3),some (.tmp 2,false)⟩,⟨none,.load false 1 (.tmp 3),some (.tmp 2,false)⟩,⟨none,.bin .lss (.tmp 4) (.cst (.int .i64 1)),some (.tmp 2,false)⟩,⟨none,.pick (.tmp 2) (.cst (.bool true)) (.tmp 5),none⟩,⟨none,.mv (.tmp 6),none⟩,⟨none,.fieldAddr 0 (.var 3),some (.tmp 7,false)⟩,⟨none,.load false 1 (.tmp 8),some (.tmp 7,false)⟩,⟨none,.bin .gtr (.tmp 9) (.cst (.int .i64 1000000)),some (.tmp 7,false)⟩,⟨none,.pick (.tmp 7) (.cst (.bool true)) (.tmp 10),none⟩,⟨none,.mv (.tmp 11),none⟩,⟨none,.mv (.var 7),some (.tmp 12,false)⟩,⟨none,.mv (.var 5),some (.tmp 12,false)⟩,⟨none,.fieldAddr 0 (.var 3),some (.tmp 12,false)⟩,⟨none,.load false 1 (.tmp 15),some (.tmp 12,false)⟩,⟨none,.fieldAddr 2 (.var 3),some (.tmp 12,false)⟩,⟨none,.load false 1 (.tmp 17),some (.tmp 12,false)⟩,⟨none,.call (.fn 77) [.tmp 13,.tmp 14,.tmp 16,.tmp 18],some (.tmp 12,false)⟩,⟨none,.un .not (.tmp 19),some (.tmp 12,false)⟩,⟨none,.pick (.tmp 12) (.cst (.bool true)) (.tmp 20),none⟩,⟨some 8,.mv (.tmp 21),none⟩]) (.cond (.var 8) (.seq (.region [⟨some 4,.mv (.cst (.bool false)),none⟩]) .ret) (.seq (.region [⟨none,.fieldAddr 0 (.var 3),none⟩,⟨none,.load false 1 (.tmp 0),none⟩,⟨none,.bin .eql (.tmp 1) (.cst (.int .i64 1)),none⟩,⟨some 9,.mv (.tmp 2),none⟩]) (.cond (.var 9) (.seq (.region [⟨none,.fieldAddr 3 (.var 3),none⟩,⟨none,.load false 1 (.tmp 0),none⟩,⟨none,.lenSl (.tmp 1),none⟩,⟨none,.bin .eql (.tmp 2) (.cst (.int .i64 0)),none⟩,⟨some 4,.mv (.tmp 3),none⟩]) .ret) .skip))))) (.kill [0,1,2,4,6,8,9])) (.seq (.region [⟨none,.mv (.var 7),none⟩,⟨none,.mv (.var 5),none⟩,⟨none,.fieldAddr 0 (.var 3),none⟩,⟨none,.load false 1 (.tmp 2),none⟩,⟨none,.bin .sub (.tmp 3) (.cst (.int .i64 1)),none⟩,⟨none,.fieldAddr 3 (.var 3),none⟩,⟨none,.load false 1 (.tmp 5),none⟩,⟨none,.call (.fn 78) [.tmp 0,.tmp 1,.tmp 4,.tmp 6],none⟩,⟨some 4,.mv (.tmp 7),none⟩]) .ret)))),[.tmp 4]⟩
theorem ss:aE Try.prog Try.f48 2 [0,1,2,3,4,5,6,7,18,41] [] true ([],[[0,1,2,4,6,8,9]])=some rJ:=by kernel_rfl
theorem Hm:Try.prog.funcs[48]?=some Try.f48:=by kernel_rfl
def dz:MC:=.seq (.seq (.region [⟨none,.mv (.var 6),none⟩,⟨none,.load false 1 (.var 1),none⟩,⟨some 8,.bin .leq (.tmp 0) (.tmp 1),none⟩]) (.cond (.var 8) .skip (.exit 0))) (.seq (.seq (.block 1 (.seq (.region [⟨none,.mv (.var 0),none⟩,⟨none,.mv (.var 6),none⟩,⟨none,.call (.fn 64) [.tmp 0,.tmp 1],none⟩,⟨none,.un .not (.tmp 2),none⟩,⟨none,.mv (.tmp 3),none⟩,⟨none,.fieldAddr 4 (.var 3),some (.tmp 4,true)⟩,⟨none,.load false 1 (.tmp 5),some (.tmp 4,true)⟩,⟨none,.bin .eql (.tmp 6) (.cst (.int .i64 1)),some (.tmp 4,true)⟩,⟨none,.mv (.tmp 7),some (.tmp 4,true)⟩,⟨none,.mv (.var 6),some (.tmp 8,false)⟩,⟨none,.mv (.var 0),some (.tmp 8,false)⟩,⟨none,.lenSl (.tmp 10),some (.tmp 8,false)⟩,⟨none,.bin .eql (.tmp 9) (.tmp 11),some (.tmp 8,false)⟩,⟨none,.pick (.tmp 8) (.cst (.bool true)) (.tmp 12),some (.tmp 4,true)⟩,⟨some 9,.pick (.tmp 4) (.tmp 13) (.cst (.bool false)),none⟩]) (.cond (.var 9) (.regionD [] [⟨none,.load false 1 (.var 4),none⟩,⟨none,.mv (.var 0),none⟩,⟨none,.call (.fn 65) [.tmp 1],none⟩,⟨none,.mv (.var 6),none⟩,⟨none,.buildF 1 [.tmp 3],none⟩,⟨none,.appendN 1 8 (.tmp 2) (.tmp 4),none⟩,⟨none,.call (.tmp 0) [.tmp 5],none⟩] [(0,2),(0,5)]) .skip))) (.kill [2,5,7,8,9])) (.region [⟨none,.mv (.var 6),none⟩,⟨none,.bin .add (.tmp 0) (.cst (.int .i64 1)),none⟩,⟨some 6,.mv (.tmp 1),none⟩]))
def sR:cB:=⟨5,10,.seq (.seq (.region [⟨none,.mv (.var 0),none⟩,⟨none,.lenSl (.tmp 0),none⟩,⟨none,.load false 1 (.var 1),none⟩,⟨none,.bin .add (.tmp 2) (.cst (.int .i64 1)),none⟩,⟨some 7,.bin .eql (.tmp 1) (.tmp 3),none⟩]) (.cond (.var 7) (.seq (.region [⟨none,.load false 1 (.var 1),none⟩,⟨none,.bin .add (.tmp 0) (.cst (.int .i64 1)),none⟩,⟨none,.makeSlice 1 8 (.int .i64 0) (.tmp 1) (.tmp 1),none⟩,⟨some 5,.mv (.tmp 2),none⟩]) (.seq (.region [⟨none,.mv (.var 5),none⟩,⟨none,.mv (.var 0),none⟩,⟨none,.copy 1 (.tmp 0) (.tmp 1),none⟩]) (.seq (.region [⟨none,.load false 1 (.var 2),none⟩,⟨none,.mv (.var 5),none⟩,⟨none,.buildSlice 1 [.tmp 1],none⟩,⟨none,.append 1 24 (.tmp 0) (.tmp 2),none⟩,⟨none,.store 1 (.var 2) (.tmp 3),none⟩]) .ret))) .skip)) (.seq (.region [⟨some 6,.mv (.cst (.int .i64 1)),none⟩]) (.seq (.block 0 (.loop [2,5,7,8,9] dz)) (.kill [0,1,2,3,4,5,6,7,8,9]))),[]⟩
def du:List Nat:=[2,5,7,8,9]
abbrev gj (v0 v1 v3 v4 v6:AV):List AV:=[v0,v1,.undef,v3,v4,.undef,v6,.undef,.undef,.undef]
theorem oH {v0 v1 d2 v3 v4 d5 v6 d7 d8 d9:AV}:clear du [v0,v1,d2,v3,v4,d5,v6,d7,d8,d9]=gj v0 v1 v3 v4 v6:=rfl
theorem rX {E:Env} {fuel:Nat} {A:aa} {o:Out} {k:List KC} {v0 v1 d2 v3 v4 d5 v6 d7 d8 d9:AV} (h:b8 (evC E fuel dz) du fuel (gj v0 v1 v3 v4 v6) A=some o) :
  run E fuel (.code (.loop [2,5,7,8,9] dz) :: k) [v0,v1,d2,v3,v4,d5,v6,d7,d8,d9] A=after E fuel k o:=aU du _ _ (by rw [oH]; exact h)
theorem qc:aE Try.prog Try.f63 5 [0,1,2,3,4,6,7,12,25,42] [] false ([[2,5,7,8,9]],[[2,5,7,8,9],[0,1,2,3,4,5,6,7,8,9]])=some sR:=by kernel_rfl
theorem EZ:Try.prog.funcs[63]?=some Try.f63:=by kernel_rfl
def EO:cB:=⟨2,3,.seq (.region [⟨some 2,.mv (.cst (.bool false)),none⟩]) (.seq (.region [⟨none,.mv (.var 0),none⟩,⟨none,.mv (.var 1),none⟩,⟨none,.call (.fn 49) [.tmp 0,.tmp 1],none⟩,⟨none,.bin .geq (.tmp 2) (.cst (.int .i64 0)),none⟩,⟨some 2,.mv (.tmp 3),none⟩]) .ret),[.tmp 2]⟩
theorem yy:aE Try.prog Try.f64 2 [0,1,4] [] true ([],[])=some EO:=by kernel_rfl
theorem Le:Try.prog.funcs[64]?=some Try.f64:=by kernel_rfl
def As:cB:=⟨1,2,.seq (.region [⟨some 1,.mv (.cst .nilS),none⟩]) (.seq (.region [⟨none,.mv (.var 0),none⟩,⟨none,.mv (.var 0),none⟩,⟨none,.lenSl (.tmp 1),none⟩,⟨none,.mv (.var 0),none⟩,⟨none,.lenSl (.tmp 3),none⟩,⟨none,.sliceM 1 (.tmp 0) none (.tmp 2) (.tmp 4),none⟩,⟨some 1,.mv (.tmp 5),none⟩]) .ret),[.tmp 1]⟩
theorem vr:aE Try.prog Try.f65 1 [0,2] [] true ([],[])=some As:=by kernel_rfl
theorem Iu:Try.prog.funcs[65]?=some Try.f65:=by kernel_rfl
def tH:cB:=⟨2,3,.seq (.region [⟨some 2,.mv (.cst (.bool false)),none⟩]) (.seq (.region [⟨none,.mv (.var 0),none⟩,⟨none,.bin .geq (.tmp 0) (.cst (.int .i64 0)),none⟩,⟨none,.mv (.tmp 1),none⟩,⟨none,.mv (.var 0),some (.tmp 2,true)⟩,⟨none,.mv (.var 1),some (.tmp 2,true)⟩,⟨none,.bin .leq (.tmp 3) (.tmp 4),some (.tmp 2,true)⟩,⟨none,.pick (.tmp 2) (.tmp 5) (.cst (.bool false)),none⟩,⟨some 2,.mv (.tmp 6),none⟩]) .ret),[.tmp 2]⟩
theorem yw:aE Try.prog Try.f82 2 [0,1,4] [] true ([],[])=some tH:=by kernel_rfl
theorem Ld:Try.prog.funcs[82]?=some Try.f82:=by kernel_rfl
def IT:cB:=⟨2,3,.seq (.region [⟨some 2,.mv (.cst (.bool false)),none⟩]) (.seq (.region [⟨none,.mv (.var 0),none⟩,⟨none,.mv (.var 1),none⟩,⟨none,.call (.fn 95) [.tmp 0,.tmp 1],none⟩,⟨none,.bin .geq (.tmp 2) (.cst (.int .i64 0)),none⟩,⟨some 2,.mv (.tmp 3),none⟩]) .ret),[.tmp 2]⟩
theorem G2:aE Try.prog Try.f83 2 [0,1,4] [] true ([],[])=some IT:=by kernel_rfl
theorem at39:Try.prog.funcs[83]?=some Try.f83:=by kernel_rfl
def zN:cB:=⟨2,4,.seq (.region [⟨some 2,.box (.var 0),none⟩,⟨some 3,.mv (.cst (.bool false)),none⟩]) (.seq (.region [⟨none,.load false 1 (.var 1),none⟩,⟨none,.fieldAddr 0 (.var 2),none⟩,⟨none,.load false 1 (.tmp 1),none⟩,⟨none,.call (.tmp 0) [.tmp 2,.cst (.int .i64 100000)],none⟩,⟨none,.un .not (.tmp 3),none⟩,⟨none,.mv (.tmp 4),none⟩,⟨none,.load false 1 (.var 1),some (.tmp 5,false)⟩,⟨none,.fieldAddr 1 (.var 2),some (.tmp 5,false)⟩,⟨none,.load false 1 (.tmp 7),some (.tmp 5,false)⟩,⟨none,.call (.tmp 6) [.tmp 8,.cst (.int .i64 100000)],some (.tmp 5,false)⟩,⟨none,.un .not (.tmp 9),some (.tmp 5,false)⟩,⟨none,.pick (.tmp 5) (.cst (.bool true)) (.tmp 10),none⟩,⟨some 3,.mv (.tmp 11),none⟩]) .ret),[.tmp 3]⟩
theorem yu:aE Try.prog Try.f84 2 [0,1,2,3] [] true ([],[])=some zN:=by kernel_rfl
theorem Lc:Try.prog.funcs[84]?=some Try.f84:=by kernel_rfl
def xx:cB:=⟨2,3,.seq (.region [⟨some 2,.mv (.cst (.bool false)),none⟩]) (.seq (.region [⟨none,.mv (.var 0),none⟩,⟨none,.mv (.var 1),none⟩,⟨none,.call (.fn 85) [.tmp 0,.tmp 1],none⟩,⟨none,.bin .geq (.tmp 2) (.cst (.int .i64 0)),none⟩,⟨some 2,.mv (.tmp 3),none⟩]) .ret),[.tmp 2]⟩
theorem sr:aE Try.prog Try.f66 2 [0,1,4] [] true ([],[])=some xx:=by kernel_rfl
theorem Hl:Try.prog.funcs[66]?=some Try.f66:=by kernel_rfl
def xw:cB:=⟨2,3,.seq (.region [⟨some 2,.mv (.cst (.bool false)),none⟩]) (.seq (.region [⟨none,.mv (.var 0),none⟩,⟨none,.load false 1 (.var 1),none⟩,⟨none,.call (.fn 68) [.tmp 0,.tmp 1],none⟩,⟨some 2,.mv (.tmp 2),none⟩]) .ret),[.tmp 2]⟩
theorem sq:aE Try.prog Try.f67 2 [0,1,3] [] true ([],[])=some xw:=by kernel_rfl
theorem Hk:Try.prog.funcs[67]?=some Try.f67:=by kernel_rfl
def ev:MC:=.seq (.region [⟨some 7,.bin .lss (.var 6) (.var 5),none⟩]) (.seq (.cond (.var 7) .skip (.exit 0)) (.seq (.seq (.block 1 (.seq (.region [⟨none,.mv (.var 6),none⟩,⟨some 3,.mv (.tmp 0),none⟩]) (.seq (.region [⟨none,.mv (.var 0),none⟩,⟨none,.mv (.var 3),none⟩,⟨none,.indexSl 1 (.tmp 0) (.tmp 1),none⟩,⟨none,.load false 1 (.tmp 2),none⟩,⟨none,.mv (.var 1),none⟩,⟨none,.mv (.var 3),none⟩,⟨none,.indexSl 1 (.tmp 4) (.tmp 5),none⟩,⟨none,.load false 1 (.tmp 6),none⟩,⟨some 8,.bin .neq (.tmp 3) (.tmp 7),none⟩]) (.cond (.var 8) (.seq (.region [⟨some 2,.mv (.cst (.bool false)),none⟩]) .ret) .skip)))) (.kill [2,3,4,7,8])) (.region [⟨none,.bin .add (.var 6) (.cst (.int .i64 1)),none⟩,⟨some 6,.mv (.tmp 0),none⟩])))
def zM:cB:=⟨2,9,.seq (.region [⟨some 2,.mv (.cst (.bool false)),none⟩]) (.seq (.seq (.region [⟨none,.mv (.var 0),none⟩,⟨none,.lenSl (.tmp 0),none⟩,⟨none,.mv (.var 1),none⟩,⟨none,.lenSl (.tmp 2),none⟩,⟨some 4,.bin .neq (.tmp 1) (.tmp 3),none⟩]) (.cond (.var 4) (.seq (.region [⟨some 2,.mv (.cst (.bool false)),none⟩]) .ret) .skip)) (.seq (.seq (.region [⟨none,.mv (.var 0),none⟩,⟨some 5,.lenSl (.tmp 0),none⟩,⟨some 6,.mv (.cst (.int .i64 0)),none⟩]) (.seq (.block 0 (.loop [2,3,4,7,8] ev)) (.kill [0,1,2,3,4,5,6,7,8]))) (.seq (.region [⟨some 2,.mv (.cst (.bool true)),none⟩]) .ret))),[.tmp 2]⟩
def dG:List Nat:=[2,3,4,7,8]
abbrev eU (v0 v1 v5 v6:AV):List AV:=[v0,v1,.undef,.undef,.undef,v5,v6,.undef,.undef]
theorem oG {v0 v1 d2 d3 d4 v5 v6 d7 d8:AV}:clear dG [v0,v1,d2,d3,d4,v5,v6,d7,d8]=eU v0 v1 v5 v6:=rfl
theorem rW {E:Env} {fuel:Nat} {A:aa} {o:Out} {k:List KC} {v0 v1 d2 d3 d4 v5 v6 d7 d8:AV} (h:b8 (evC E fuel ev) dG fuel (eU v0 v1 v5 v6) A=some o) :
  run E fuel (.code (.loop [2,3,4,7,8] ev) :: k) [v0,v1,d2,d3,d4,v5,v6,d7,d8] A=after E fuel k o:=aU dG _ _ (by rw [oG]; exact h)
theorem yr:aE Try.prog Try.f68 2 [0,1,4,5,10,12,13,14,24] [] true ([[2,3,4,7,8]],[[2,3,4,7,8],[0,1,2,3,4,5,6,7,8]])=some zM:=by kernel_rfl
theorem Lb:Try.prog.funcs[68]?=some Try.f68:=by kernel_rfl
def Ar:cB:=⟨1,4,.seq (.region [⟨some 1,.box (.var 0),none⟩,⟨some 2,.mv (.cst (.int .i64 0)),none⟩]) (.seq (.seq (.region [⟨none,.fieldAddr 4 (.var 1),none⟩,⟨none,.load false 1 (.tmp 0),none⟩,⟨some 3,.bin .eql (.tmp 1) (.cst (.int .i64 2)),none⟩]) (.cond (.var 3) (.seq (.region [⟨none,.fieldAddr 1 (.var 1),none⟩,⟨none,.load false 1 (.tmp 0),none⟩,⟨none,.fieldAddr 2 (.var 1),none⟩,⟨none,.load false 1 (.tmp 2),none⟩,⟨none,.bin .add (.tmp 1) (.tmp 3),none⟩,⟨some 2,.mv (.tmp 4),none⟩]) .ret) .skip)) (.seq (.region [⟨none,.fieldAddr 1 (.var 1),none⟩,⟨none,.load false 1 (.tmp 0),none⟩,⟨none,.fieldAddr 3 (.var 1),none⟩,⟨none,.load false 1 (.tmp 2),none⟩,⟨none,.bin .add (.tmp 1) (.tmp 3),none⟩,⟨none,.fieldAddr 2 (.var 1),none⟩,⟨none,.load false 1 (.tmp 5),none⟩,⟨none,.bin .add (.tmp 4) (.tmp 6),none⟩,⟨some 2,.mv (.tmp 7),none⟩]) .ret)),[.tmp 2]⟩
theorem yq:aE Try.prog Try.f69 1 [0,1,2,5] [] true ([],[])=some Ar:=by kernel_rfl
theorem La:Try.prog.funcs[69]?=some Try.f69:=by kernel_rfl
def wz:cB:=⟨2,2,.region [⟨none,.mv (.var 0),none⟩,⟨none,.mv (.var 0),none⟩,⟨none,.nilCheck (.tmp 1),none⟩,⟨none,.load false 1 (.tmp 2),none⟩,⟨none,.mv (.var 1),none⟩,⟨none,.append 4 32 (.tmp 3) (.tmp 4),none⟩,⟨none,.nilCheck (.tmp 0),none⟩,⟨none,.store 1 (.tmp 6) (.tmp 5),none⟩],[]⟩
theorem vq:aE Try.prog Try.f70 2 [0,1] [] true ([],[])=some wz:=by kernel_rfl
theorem It:Try.prog.funcs[70]?=some Try.f70:=by kernel_rfl
def DX:cB:=⟨0,1,.seq (.region [⟨some 0,.allocA [.nilF,.nilF,.nilF],none⟩]) (.seq (.region [⟨none,.build [.nilF,.nilF,.nilF] [(1,(1,.fn 86)),(2,(1,.fn 87))],none⟩,⟨none,.storeA 3 (.var 0) (.tmp 0),none⟩]) .ret),[.cell 0 true 3]⟩
theorem yo:aE Try.prog Try.f71 0 [0] [] true ([],[])=some DX:=by kernel_rfl
theorem K9:Try.prog.funcs[71]?=some Try.f71:=by kernel_rfl
def iK:MC:=.seq (.region [⟨some 6,.bin .lss (.var 5) (.var 4),none⟩]) (.seq (.cond (.var 6) .skip (.exit 0)) (.seq (.seq (.block 1 (.seq (.region [⟨none,.mv (.var 5),none⟩,⟨some 3,.mv (.tmp 0),none⟩]) (.seq (.region [⟨none,.mv (.var 1),none⟩,⟨none,.mv (.var 0),none⟩,⟨none,.mv (.var 3),none⟩,⟨none,.indexSl 1 (.tmp 1) (.tmp 2),none⟩,⟨none,.load false 1 (.tmp 3),none⟩,⟨some 7,.bin .eql (.tmp 0) (.tmp 4),none⟩]) (.cond (.var 7) (.seq (.region [⟨none,.mv (.var 3),none⟩,⟨some 2,.mv (.tmp 0),none⟩]) .ret) .skip)))) (.kill [2,3,6,7])) (.region [⟨none,.bin .add (.var 5) (.cst (.int .i64 1)),none⟩,⟨some 5,.mv (.tmp 0),none⟩])))
def H8:cB:=⟨2,8,.seq (.region [⟨some 2,.mv (.cst (.int .i64 0)),none⟩]) (.seq (.seq (.region [⟨none,.mv (.var 0),none⟩,⟨some 4,.lenSl (.tmp 0),none⟩,⟨some 5,.mv (.cst (.int .i64 0)),none⟩]) (.seq (.block 0 (.loop [2,3,6,7] iK)) (.kill [0,1,2,3,4,5,6,7]))) (.seq (.region [⟨some 2,.mv (.cst (.int .i64 (-1))),none⟩]) .ret)),[.tmp 2]⟩
def gY:List Nat:=[2,3,6,7]
abbrev kW (v0 v1 v4 v5:AV):List AV:=[v0,v1,.undef,.undef,v4,v5,.undef,.undef]
theorem Ce {v0 v1 d2 d3 v4 v5 d6 d7:AV}:clear gY [v0,v1,d2,d3,v4,v5,d6,d7]=kW v0 v1 v4 v5:=rfl
theorem BK {E:Env} {fuel:Nat} {A:aa} {o:Out} {k:List KC} {v0 v1 d2 d3 v4 v5 d6 d7:AV} (h:b8 (evC E fuel iK) gY fuel (kW v0 v1 v4 v5) A=some o) :
  run E fuel (.code (.loop [2,3,6,7] iK) :: k) [v0,v1,d2,d3,v4,v5,d6,d7] A=after E fuel k o:=aU gY _ _ (by rw [Ce]; exact h)
theorem GR:aE Try.prog Try.f49 2 [0,1,4,5,7,8,9,16] [] true ([[2,3,6,7]],[[2,3,6,7],[0,1,2,3,4,5,6,7]])=some H8:=by kernel_rfl
theorem at64:Try.prog.funcs[49]?=some Try.f49:=by kernel_rfl
def iJ:MC:=.seq (.region [⟨some 6,.bin .lss (.var 5) (.var 4),none⟩]) (.seq (.cond (.var 6) .skip (.exit 0)) (.seq (.seq (.block 1 (.seq (.region [⟨none,.mv (.var 5),none⟩,⟨some 3,.mv (.tmp 0),none⟩]) (.seq (.region [⟨none,.mv (.var 1),none⟩,⟨none,.mv (.var 0),none⟩,⟨none,.mv (.var 3),none⟩,⟨none,.indexSl 2 (.tmp 1) (.tmp 2),none⟩,⟨none,.load true 2 (.tmp 3),none⟩,⟨some 7,.call (.tmp 0) [.tmp 4],none⟩]) (.cond (.var 7) (.seq (.region [⟨none,.mv (.var 3),none⟩,⟨some 2,.mv (.tmp 0),none⟩]) .ret) .skip)))) (.kill [2,3,6,7])) (.region [⟨none,.bin .add (.var 5) (.cst (.int .i64 1)),none⟩,⟨some 5,.mv (.tmp 0),none⟩])))
def H7:cB:=⟨2,8,.seq (.region [⟨some 2,.mv (.cst (.int .i64 0)),none⟩]) (.seq (.seq (.region [⟨none,.mv (.var 0),none⟩,⟨some 4,.lenSl (.tmp 0),none⟩,⟨some 5,.mv (.cst (.int .i64 0)),none⟩]) (.seq (.block 0 (.loop [2,3,6,7] iJ)) (.kill [0,1,2,3,4,5,6,7]))) (.seq (.region [⟨some 2,.mv (.cst (.int .i64 (-1))),none⟩]) .ret)),[.tmp 2]⟩
def gX:List Nat:=[2,3,6,7]
abbrev kV (v0 v1 v4 v5:AV):List AV:=[v0,v1,.undef,.undef,v4,v5,.undef,.undef]
theorem Cd {v0 v1 d2 d3 v4 v5 d6 d7:AV}:clear gX [v0,v1,d2,d3,v4,v5,d6,d7]=kV v0 v1 v4 v5:=rfl
theorem BJ {E:Env} {fuel:Nat} {A:aa} {o:Out} {k:List KC} {v0 v1 d2 d3 v4 v5 d6 d7:AV} (h:b8 (evC E fuel iJ) gX fuel (kV v0 v1 v4 v5) A=some o) :
  run E fuel (.code (.loop [2,3,6,7] iJ) :: k) [v0,v1,d2,d3,v4,v5,d6,d7] A=after E fuel k o:=aU gX _ _ (by rw [Cd]; exact h)
theorem GQ:aE Try.prog Try.f95 2 [0,1,4,5,7,8,9,16] [] true ([[2,3,6,7]],[[2,3,6,7],[0,1,2,3,4,5,6,7]])=some H7:=by kernel_rfl
theorem at65:Try.prog.funcs[95]?=some Try.f95:=by kernel_rfl
def iI:MC:=.seq (.region [⟨some 6,.bin .lss (.var 5) (.var 4),none⟩]) (.seq (.cond (.var 6) .skip (.exit 0)) (.seq (.seq (.block 1 (.seq (.region [⟨none,.mv (.var 5),none⟩,⟨some 3,.mv (.tmp 0),none⟩]) (.seq (.region [⟨none,.mv (.var 1),none⟩,⟨none,.mv (.var 0),none⟩,⟨none,.mv (.var 3),none⟩,⟨none,.indexSl 1 (.tmp 1) (.tmp 2),none⟩,⟨none,.load false 1 (.tmp 3),none⟩,⟨some 7,.call (.tmp 0) [.tmp 4],none⟩]) (.cond (.var 7) (.seq (.region [⟨none,.mv (.var 3),none⟩,⟨some 2,.mv (.tmp 0),none⟩]) .ret) .skip)))) (.kill [2,3,6,7])) (.region [⟨none,.bin .add (.var 5) (.cst (.int .i64 1)),none⟩,⟨some 5,.mv (.tmp 0),none⟩])))
def H6:cB:=⟨2,8,.seq (.region [⟨some 2,.mv (.cst (.int .i64 0)),none⟩]) (.seq (.seq (.region [⟨none,.mv (.var 0),none⟩,⟨some 4,.lenSl (.tmp 0),none⟩,⟨some 5,.mv (.cst (.int .i64 0)),none⟩]) (.seq (.block 0 (.loop [2,3,6,7] iI)) (.kill [0,1,2,3,4,5,6,7]))) (.seq (.region [⟨some 2,.mv (.cst (.int .i64 (-1))),none⟩]) .ret)),[.tmp 2]⟩
def gW:List Nat:=[2,3,6,7]
abbrev kU (v0 v1 v4 v5:AV):List AV:=[v0,v1,.undef,.undef,v4,v5,.undef,.undef]
theorem Cc {v0 v1 d2 d3 v4 v5 d6 d7:AV}:clear gW [v0,v1,d2,d3,v4,v5,d6,d7]=kU v0 v1 v4 v5:=rfl
theorem BI {E:Env} {fuel:Nat} {A:aa} {o:Out} {k:List KC} {v0 v1 d2 d3 v4 v5 d6 d7:AV} (h:b8 (evC E fuel iI) gW fuel (kU v0 v1 v4 v5) A=some o) :
  run E fuel (.code (.loop [2,3,6,7] iI) :: k) [v0,v1,d2,d3,v4,v5,d6,d7] A=after E fuel k o:=aU gW _ _ (by rw [Cc]; exact h)
theorem GP:aE Try.prog Try.f85 2 [0,1,4,5,7,8,9,16] [] true ([[2,3,6,7]],[[2,3,6,7],[0,1,2,3,4,5,6,7]])=some H6:=by kernel_rfl
theorem at66:Try.prog.funcs[85]?=some Try.f85:=by kernel_rfl
def H5:cB:=⟨2,4,.seq (.region [⟨some 2,.alloc 3 (.agg [.int .i64 0,.int .i64 0,.int .i64 0]),none⟩]) (.seq (.seq (.region [⟨none,.mv (.var 0),none⟩,⟨none,.mv (.var 1),none⟩,⟨none,.call (.fn 49) [.tmp 0,.tmp 1],none⟩,⟨none,.mv (.var 0),none⟩,⟨none,.mv (.var 1),none⟩,⟨none,.bin .sub (.tmp 4) (.cst (.int .i64 1)),none⟩,⟨none,.call (.fn 49) [.tmp 3,.tmp 5],none⟩,⟨some 3,.bin .lss (.tmp 2) (.tmp 6),none⟩]) (.cond (.var 3) (.seq (.region [⟨none,.mv (.var 1),none⟩,⟨none,.bin .sub (.tmp 0) (.cst (.int .i64 1)),none⟩,⟨none,.mv (.var 1),none⟩,⟨none,.build [.int .i64 0,.int .i64 0,.int .i64 0] [(0,(1,.tmp 1)),(1,(1,.tmp 2)),(2,(1,.cst (.int .i64 1)))],none⟩,⟨none,.store 3 (.var 2) (.tmp 3),none⟩]) .ret) .skip)) (.seq (.region [⟨none,.mv (.var 1),none⟩,⟨none,.bin .sub (.tmp 0) (.cst (.int .i64 1)),none⟩,⟨none,.mv (.var 1),none⟩,⟨none,.build [.int .i64 0,.int .i64 0,.int .i64 0] [(0,(1,.tmp 1)),(1,(1,.tmp 2)),(2,(1,.cst (.int .i64 0)))],none⟩,⟨none,.store 3 (.var 2) (.tmp 3),none⟩]) .ret)),[.cell 2 true 3]⟩
theorem GO:aE Try.prog Try.f86 2 [0,1,4,12] [] true ([],[])=some H5:=by kernel_rfl
theorem at67:Try.prog.funcs[86]?=some Try.f86:=by kernel_rfl
def IP:cB:=⟨2,3,.seq (.region [⟨some 2,.alloc 3 (.agg [.int .i64 0,.int .i64 0,.int .i64 0]),none⟩]) (.seq (.region [⟨none,.mv (.var 1),none⟩,⟨none,.mv (.var 1),none⟩,⟨none,.build [.int .i64 0,.int .i64 0,.int .i64 0] [(0,(1,.tmp 0)),(1,(1,.tmp 1)),(2,(1,.cst (.int .i64 1)))],none⟩,⟨none,.store 3 (.var 2) (.tmp 2),none⟩]) .ret),[.cell 2 true 3]⟩
theorem GN:aE Try.prog Try.f87 2 [0,1,4] [] true ([],[])=some IP:=by kernel_rfl
theorem at68:Try.prog.funcs[87]?=some Try.f87:=by kernel_rfl
end Clu
namespace Clu
open Go
open Cy (GC iq db bL bO cq aL bc aB)
structure aR where
 ch:List (Int × Int)
 pick:Int
 place:Int
 travel:Int
 blades:Int
def chA (x:Int × Int):AV:=.agg [.int .i64 x.1,.int .i64 x.2]
def au (T:aR) (chv:AV):AV:=.agg [chv,.int .i64 T.pick,.int .i64 T.place,.int .i64 T.travel,.int .i64 T.blades]
def rf (x:Int × Int):Prop:=(0<=x.1/\x.1<=100000)/\0<=x.2/\x.2<=100000
instance (x:Int × Int):Decidable (rf x):=inferInstanceAs (Decidable (_/\_))
def a6 (T:aR):Prop:=(∀x∈T.ch,rf x)/\((0<=T.pick/\T.pick<=10000)/\(0<=T.place/\T.place<=10000)/\(0<=T.travel/\T.travel<=10000))/\1<=T.ch.length/\T.ch.length<=4/\(T.blades=1\/T.blades=2)
instance (T:aR):Decidable (a6 T):=inferInstanceAs (Decidable (_/\_))
def M38:aP:=fun args=>match args with
 | [.int .i64 n,.int .i64 hi]=>some (.bool (decide (0<=n) && decide (n<=hi)))
 | _=>none
theorem lq:aq Try.prog GC 82 M38:=by
 refine aq.of_ev (E:=ax GC []) (aw az) rfl Ld yw 1 ?_
 intro args r h
 unfold M38 at h
 split at h
 ·rename_i n hi
  injection h with h; subst h
  refine ⟨0,?_⟩
  have b1:ag .geq (.int .i64 n) (.int .i64 0)=some (.bool (decide (0<=n))):=by simp [ag]
  have b2:ag .leq (.int .i64 n) (.int .i64 hi)=some (.bool (decide (n<=hi))):=by simp [ag]
  obtain ⟨p,hp⟩:∃p,p=decide (0<=n):=⟨_,rfl⟩
  obtain ⟨q,hq⟩:∃q,q=decide (n<=hi):=⟨_,rfl⟩
  rw [<-hp] at b1 ⊢
  rw [<-hq] at b2 ⊢
  rw [aI _ _ rfl]
  cases p <;> simp [tH,b1,b2,-ag]
 ·cases h
def zU:AV:=.func (.func 82) [] []
def wE:List (FuncId × aG):=[(82,aD 4 M38)]
@[simp] theorem Jv:aC wE 82=some (aD 4 M38):=rfl
theorem tc:∀f M,aC wE f=some M->aj Try.prog GC f M:=af (aj.of_pure lq 4) az
def M40:aP:=fun args=>evP (ax GC wE) 0 zN 1 args
theorem nw:aq Try.prog GC 84 M40:=aq.of_ev (E:=ax GC wE) (aw tc) rfl Lc yu 1 fun _ _ h=>⟨0,h⟩
theorem Z7 (x:Int × Int):(!decide (rf x))=(!(decide (0<=x.1) && decide (x.1<=100000)) || !(decide (0<=x.2) && decide (x.2<=100000))):=by
 unfold rf
 by_cases h1:0<=x.1 <;> by_cases h2:x.1<=100000 <;> by_cases h3:0<=x.2 <;> by_cases h4:x.2<=100000 <;> simp [h1,h2,h3,h4]
theorem vH (x:Int × Int):M40 [chA x,.fp [zU]]=some (.bool (!decide (rf x))):=by
 obtain ⟨a,b⟩:=x
 rw [Z7]
 have m1:M38 [.int .i64 a,.int .i64 100000]=some (.bool (decide (0<=a) && decide (a<=100000))):=rfl
 have m2:M38 [.int .i64 b,.int .i64 100000]=some (.bool (decide (0<=b) && decide (b<=100000))):=rfl
 obtain ⟨p,hp⟩:∃p,p=(decide (0<=a) && decide (a<=100000)):=⟨_,rfl⟩
 obtain ⟨q,hq⟩:∃q,q=(decide (0<=b) && decide (b<=100000)):=⟨_,rfl⟩
 simp only
 rw [<-hp] at m1 ⊢
 rw [<-hq] at m2 ⊢
 unfold M40
 rw [aI _ _ rfl]
 cases p <;> simp [zN,chA,zU,m1,m2,frz]
def BV:List (FuncId × aG):=[(84,aD 4 M40)]
@[simp] theorem Jc:aC BV 84=some (aD 4 M40):=rfl
theorem C4:∀f M,aC BV f=some M->aj Try.prog GC f M:=af (aj.of_pure nw 4) az
def M65:aP:=fun args=>evP (ax GC BV) 300 H7 1 args
theorem Fh:aq Try.prog GC 95 M65:=aq.of_ev (E:=ax GC BV) (aw C4) rfl at65 GQ 1 fun _ _ h=>⟨300,h⟩
def eQ (x:Int × Int):Bool:=!decide (rf x)
def dk:AV:=.func (.func 84) [] [.fp [zU]]
theorem HG {xs:List (Int × Int)} {b:AV} (hb:SlA 2 (xs.map chA) b) (hl:xs.length<=200):M65 [b,dk]=some (.int .i64 (db eQ xs)):=by
 have hlen:=hb.len
 rw [List.length_map] at hlen
 have round:∀(A:aa) (i:Nat) (hi:i<xs.length),run (ax GC BV) 300 [.code iJ] (kV b dk (.int .i64 (xs.length:Int)) (.int .i64 (i:Int))) A =
   if eQ xs[i]=false then some (.normal (kV b dk (.int .i64 (xs.length:Int)) (.int .i64 ((i+1:Nat):Int))) A) else some (.ret [b,dk,.int .i64 (i:Int),.int .i64 (i:Int),.int .i64 (xs.length:Int),.int .i64 (i:Int),.bool true,.bool true] A):=fun A i hi=>by
  have he:(xs.map chA)[i]?=some (chA xs[i]):=by simp [hi]
  have x1:=hb.index (A:=A) he rfl (by decide) .i64
  have ld:ac true 2 A (.fp (cellsOf (chA xs[i])))=some (chA xs[i]):=rfl
  obtain ⟨C,hC⟩:∃C,C=cellsOf (chA xs[i]):=⟨_,rfl⟩
  rw [<-hC] at x1 ld
  have m:=vH xs[i]
  have b1:=br i xs.length .i64
  rw [decide_eq_true hi] at b1
  have b3:=a9 i (by omega)
  have fz:∀A,frz A 4 (chA xs[i])=chA xs[i]:=fun A=>rfl
  have fz2:∀A,frz A 4 (.fp [zU])=.fp [zU]:=fun A=>rfl
  obtain ⟨i1,hi1⟩:∃i1:Nat,i1=i+1:=⟨_,rfl⟩
  rw [<-hi1] at b3 ⊢
  obtain ⟨d,hd⟩:∃d,d=eQ xs[i]:=⟨_,rfl⟩
  rw [show (!decide (rf xs[i]))=d from hd.symm] at m
  rw [<-hd]
  obtain ⟨c,hc⟩:∃c,c=chA xs[i]:=⟨_,rfl⟩
  rw [<-hc] at m ld fz
  cases d with
  | false=>simp [iJ,dk,x1,ld,m,fz,fz2,b1,b3,-frz,-ag,-ai,-an,-ac]
  | true=>simp [iJ,dk,x1,ld,m,fz,fz2,b1,-frz,-ag,-ai,-an,-ac]
 unfold M65
 rw [aI _ _ rfl]
 rcases cP (E:=ax GC BV) (fuel:=300) (a:=iJ) (mask:=gX) (fun i=>kV b dk (.int .i64 (xs.length:Int)) (.int .i64 (i:Int))) (fun _=>[]) xs.length (fun i=>¬ ∀hi:i<xs.length,eQ xs[i]=false)
  (oF:=fun i=>.ret [b,dk,.int .i64 (i:Int),.int .i64 (i:Int),.int .i64 (xs.length:Int),.int .i64 (i:Int),.bool true,.bool true] []) (oE:=.exit 0 ((kV b dk (.int .i64 (xs.length:Int)) (.int .i64 (xs.length:Int))).set 6 (.bool false)) [])
  (fun _=>Cd) (fun _ _ _ h=>by cases h) (fun _ _ h=>by cases h)
  (fun i hi hp=>by
   rw [round [] i hi]
   exact if_pos (Classical.not_not.1 hp hi))
  (fun i hi hp=>by
   rw [round [] i hi]
   exact if_neg fun h=>hp fun _=>h)
  (by simp [iJ]) (show xs.length<300 by omega) with ⟨i,hi,hp,hj,lp⟩ | ⟨hp,lp⟩
 ·have lp:b8 (evC (ax GC BV) 300 iJ) gX 300 (kV b dk (.int .i64 (xs.length:Int)) (.int .i64 0)) []=_:=lp
  have e:db eQ xs=(i:Int):=bL hi (by
   cases h':eQ xs[i] with
   | true=>rfl
   | false=>exact absurd (fun _=>h') hp) (fun j hj'=>Classical.not_not.1 (hj j hj') (by omega))
  rw [e]
  simp [H7,hlen,BJ lp,-ag,-an]
 ·have lp:b8 (evC (ax GC BV) 300 iJ) gX 300 (kV b dk (.int .i64 (xs.length:Int)) (.int .i64 0)) []=_:=lp
  have e:db eQ xs = -1:=bO fun i hi=>Classical.not_not.1 (hp i hi) hi
  rw [e]
  simp [H7,hlen,BJ lp,-ag,-an]
def Ii:List (FuncId × aG):=[(95,aD 4 M65)]
@[simp] theorem Jy:aC Ii 95=some (aD 4 M65):=rfl
theorem Dg:∀f M,aC Ii f=some M->aj Try.prog GC f M:=af (aj.of_pure Fh 4) az
def M39:aP:=fun args=>evP (ax GC Ii) 0 IT 1 args
theorem Ft:aq Try.prog GC 83 M39:=aq.of_ev (E:=ax GC Ii) (aw Dg) rfl at39 G2 1 fun _ _ h=>⟨0,h⟩
theorem HN {xs:List (Int × Int)} {b:AV} (hb:SlA 2 (xs.map chA) b) (hl:xs.length<=200):M39 [b,dk]=some (.bool (xs.any eQ)):=by
 have h:=HG hb hl
 have b1:=iq (db eQ xs)
 rw [cq] at b1
 have f1:∀A n,frz A n b=b:=fun A n=>hb.frz n
 have f2:∀A,frz A 4 dk=dk:=fun A=>rfl
 obtain ⟨z,hz⟩:∃z,z=db eQ xs:=⟨_,rfl⟩
 rw [<-hz] at h b1
 unfold M39
 rw [aI _ _ rfl]
 simp [IT,h,b1,f1,f2,bc,-ag,-frz]
def xW:List (FuncId × aG):=[(82,aD 4 M38),(83,aD 4 M39)]
@[simp] theorem KA:aC xW 82=some (aD 4 M38):=rfl
@[simp] theorem Kz:aC xW 83=some (aD 4 M39):=rfl
theorem tg:∀f M,aC xW f=some M->aj Try.prog GC f M:=af (aj.of_pure lq 4) (af (aj.of_pure Ft 4) az)
def M16:aP:=fun args=>evP (ax GC xW) 0 pQ 1 args
theorem lr:aq Try.prog GC 62 M16:=aq.of_ev (E:=ax GC xW) (aw tg) rfl Hn su 1 fun _ _ h=>⟨0,h⟩
theorem CO (T:aR):decide (a6 T)=(!(T.ch.any eQ) && ((decide (0<=T.pick) && decide (T.pick<=10000)) && ((decide (0<=T.place) && decide (T.place<=10000)) && (decide (0<=T.travel) && decide (T.travel<=10000)))) && (decide (1<=T.ch.length) && (decide (T.ch.length<=4) && (decide (T.blades=1) || decide (T.blades=2))))):=by
 have e:(!(T.ch.any eQ))=decide (∀x∈T.ch,rf x):=by
  rw [Bool.eq_iff_iff,decide_eq_true_eq,Bool.not_eq_true',List.any_eq_false]
  unfold eQ
  simp
 rw [e]
 rw [Bool.eq_iff_iff,decide_eq_true_eq]
 unfold a6
 simp only [decide_eq_true_eq,Bool.and_eq_true,Bool.or_eq_true]
 constructor
 ·rintro ⟨h1,⟨h2,h3,h4⟩,h5,h6,h7⟩
  exact ⟨⟨h1,h2,h3,h4⟩,h5,h6,h7⟩
 ·rintro ⟨⟨h1,h2,h3,h4⟩,h5,h6,h7⟩
  exact ⟨h1,⟨h2,h3,h4⟩,h5,h6,h7⟩
theorem qk {T:aR} {chv:AV} (hb:SlA 2 (T.ch.map chA) chv) (hl:T.ch.length<=200):M16 [au T chv]=some (.bool (decide (a6 T))):=by
 obtain ⟨ch,pk,pl,tr,bl⟩:=T
 simp only at hb hl
 rw [CO]
 simp only
 have hlen:=hb.len
 rw [List.length_map] at hlen
 have m:=HN hb hl
 have f1:∀A n,frz A n chv=chv:=fun A n=>hb.frz n
 have m1:M38 [.int .i64 pk,.int .i64 10000]=some (.bool (decide (0<=pk) && decide (pk<=10000))):=rfl
 have m2:M38 [.int .i64 pl,.int .i64 10000]=some (.bool (decide (0<=pl) && decide (pl<=10000))):=rfl
 have m3:M38 [.int .i64 tr,.int .i64 10000]=some (.bool (decide (0<=tr) && decide (tr<=10000))):=rfl
 have b1:ag .geq (.int .i64 (ch.length:Int)) (.int .i64 1)=some (.bool (decide (1<=ch.length))):=by simp [ag]; omega
 have b2:ag .leq (.int .i64 (ch.length:Int)) (.int .i64 4)=some (.bool (decide (ch.length<=4))):=by simp [ag]; omega
 have b3:ag .eql (.int .i64 bl) (.int .i64 1)=some (.bool (decide (bl=1))):=by simp [ag]
 have b4:ag .eql (.int .i64 bl) (.int .i64 2)=some (.bool (decide (bl=2))):=by simp [ag]
 have fw:∀A:aa,A[1]?=some (.row 1 false [zU])->frz A 4 (.func (.func 84) [] [.ptr 1 0 0])=dk:=fun A hA=>by simp [frz,hA,dk,zU]
 have ld0:∀A:aa,A[0]?=some (.row 5 false [.agg [chv,.int .i64 pk,.int .i64 pl,.int .i64 tr,.int .i64 bl]])->ac false 1 A (.ptr 0 0 0)=some chv/\ac false 1 A (.ptr 0 0 1)=some (.int .i64 pk)/\ac false 1 A (.ptr 0 0 2)=some (.int .i64 pl)/\ac false 1 A (.ptr 0 0 3)=some (.int .i64 tr)/\ac false 1 A (.ptr 0 0 4)=some (.int .i64 bl):=fun A hA=>by
  refine ⟨?_,?_,?_,?_,?_⟩ <;> simp only [ac,hA] <;> rfl
 obtain ⟨l0,l1,l2,l3,l4⟩:=ld0 [.row 5 false [.agg [chv,.int .i64 pk,.int .i64 pl,.int .i64 tr,.int .i64 bl]],.row 1 false [zU]] rfl
 have fw':=fw [.row 5 false [.agg [chv,.int .i64 pk,.int .i64 pl,.int .i64 tr,.int .i64 bl]],.row 1 false [zU]] rfl
 rw [show au ⟨ch,pk,pl,tr,bl⟩ chv=.agg [chv,.int .i64 pk,.int .i64 pl,.int .i64 tr,.int .i64 bl] from rfl]
 unfold zU at l0 l1 l2 l3 l4 fw'
 have l5:ac false 1 [.row 5 false [.agg [chv,.int .i64 pk,.int .i64 pl,.int .i64 tr,.int .i64 bl]],.row 1 false [.func (.func 82) [] []]] (.ptr 1 0 0)=some (.func (.func 82) [] []):=rfl
 obtain ⟨d0,h0⟩:∃d,d=ch.any eQ:=⟨_,rfl⟩
 obtain ⟨d1,h1⟩:∃d,d=(decide (0<=pk) && decide (pk<=10000)):=⟨_,rfl⟩
 obtain ⟨d2,h2⟩:∃d,d=(decide (0<=pl) && decide (pl<=10000)):=⟨_,rfl⟩
 obtain ⟨d3,h3⟩:∃d,d=(decide (0<=tr) && decide (tr<=10000)):=⟨_,rfl⟩
 obtain ⟨d4,h4⟩:∃d,d=decide (1<=ch.length):=⟨_,rfl⟩
 obtain ⟨d5,h5⟩:∃d,d=decide (ch.length<=4):=⟨_,rfl⟩
 obtain ⟨d6,h6⟩:∃d,d=decide (bl=1):=⟨_,rfl⟩
 obtain ⟨d7,h7⟩:∃d,d=decide (bl=2):=⟨_,rfl⟩
 rw [<-h0] at m ⊢
 rw [<-h1] at m1 ⊢
 rw [<-h2] at m2 ⊢
 rw [<-h3] at m3 ⊢
 rw [<-h4] at b1 ⊢
 rw [<-h5] at b2 ⊢
 rw [<-h6] at b3 ⊢
 rw [<-h7] at b4 ⊢
 unfold M16
 rw [aI _ _ rfl]
 cases d1
 ·cases d0 <;> simp [pQ,m,m1,f1,fw',l0,l1,l5,aL,bc,-frz,-ag,-an,-ac]
 cases d2
 ·cases d0 <;> simp [pQ,m,m1,m2,f1,fw',l0,l1,l2,l5,aL,bc,-frz,-ag,-an,-ac]
 cases d3
 ·cases d0 <;> simp [pQ,m,m1,m2,m3,f1,fw',l0,l1,l2,l3,l5,aL,bc,-frz,-ag,-an,-ac]
 cases d0
 rotate_left
 ·simp [pQ,m,m1,m2,m3,f1,fw',l0,l1,l2,l3,l5,aL,bc,-frz,-ag,-an,-ac]
 cases d4
 ·simp [pQ,m,m1,m2,m3,b1,hlen,f1,fw',l0,l1,l2,l3,l5,aL,bc,-frz,-ag,-an,-ac]
 cases d5
 ·simp [pQ,m,m1,m2,m3,b1,b2,hlen,f1,fw',l0,l1,l2,l3,l5,aL,bc,-frz,-ag,-an,-ac]
 cases d6 <;> simp [pQ,m,m1,m2,m3,b1,b2,b3,b4,hlen,f1,fw',l0,l1,l2,l3,l4,l5,aL,bc,-frz,-ag,-an,-ac]
end Clu
namespace Clu
open Go
open Cy (GC iq db bL bO cq aL bc aB)
theorem bz (a b:Int):ag .eql (.int .i64 a) (.int .i64 b)=some (.bool (decide (a=b))):=by simp [ag]
theorem da (a b:Int):ag .neq (.int .i64 a) (.int .i64 b)=some (.bool (decide (a≠b))):=by simp [ag]
theorem aS {a b:Int} (h : -9223372036854775808<=a+b/\a+b<=9223372036854775807):ag .add (.int .i64 a) (.int .i64 b)=some (.int .i64 (a+b)):=by
 simp only [ag]; rw [if_pos trivial,dY h]
theorem cc {a b:Int} (h : -9223372036854775808<=a-b/\a-b<=9223372036854775807):ag .sub (.int .i64 a) (.int .i64 b)=some (.int .i64 (a-b)):=by
 simp only [ag]; rw [if_pos trivial,dY h]
theorem dM (a b:Int):ag .leq (.int .i64 a) (.int .i64 b)=some (.bool (decide (a<=b))):=by simp [ag]
theorem ce (a b:Int):ag .lss (.int .i64 a) (.int .i64 b)=some (.bool (decide (a<b))):=by simp [ag]
def M64:aP:=fun args=>evP (ax GC []) 300 H8 1 args
theorem uu:aq Try.prog GC 49 M64:=aq.of_ev (E:=ax GC []) (aw az) rfl at64 GR 1 fun _ _ h=>⟨300,h⟩
def isI (v x:Int):Bool:=decide (v=x)
theorem qi {xs:List Int} {b:AV} (hb:SlA 1 (ak xs) b) (hl:xs.length<=200) (v:Int):M64 [b,.int .i64 v]=some (.int .i64 (db (isI v) xs)):=by
 have hlen:=hb.len
 rw [aB] at hlen
 have round:∀(A:aa) (i:Nat) (hi:i<xs.length),run (ax GC []) 300 [.code iK] (kW b (.int .i64 v) (.int .i64 (xs.length:Int)) (.int .i64 (i:Int))) A =
   if isI v xs[i]=false then some (.normal (kW b (.int .i64 v) (.int .i64 (xs.length:Int)) (.int .i64 ((i+1:Nat):Int))) A) else some (.ret [b,.int .i64 v,.int .i64 (i:Int),.int .i64 (i:Int),.int .i64 (xs.length:Int),.int .i64 (i:Int),.bool true,.bool true] A):=fun A i hi=>by
  have x1:=hb.int (A:=A) _ _ (List.getElem?_eq_getElem hi) .i64
  have m:=bz v xs[i]
  have b1:=br i xs.length .i64
  rw [decide_eq_true hi] at b1
  have b3:=a9 i (by omega)
  obtain ⟨i1,hi1⟩:∃i1:Nat,i1=i+1:=⟨_,rfl⟩
  rw [<-hi1] at b3 ⊢
  obtain ⟨d,hd⟩:∃d,d=isI v xs[i]:=⟨_,rfl⟩
  rw [show decide (v=xs[i])=d from hd.symm] at m
  rw [<-hd]
  cases d with
  | false=>simp [iK,x1,m,b1,b3,-ag,-ai,-an]
  | true=>simp [iK,x1,m,b1,-ag,-ai,-an]
 unfold M64
 rw [aI _ _ rfl]
 rcases cP (E:=ax GC []) (fuel:=300) (a:=iK) (mask:=gY) (fun i=>kW b (.int .i64 v) (.int .i64 (xs.length:Int)) (.int .i64 (i:Int))) (fun _=>[]) xs.length (fun i=>¬ ∀hi:i<xs.length,isI v xs[i]=false)
  (oF:=fun i=>.ret [b,.int .i64 v,.int .i64 (i:Int),.int .i64 (i:Int),.int .i64 (xs.length:Int),.int .i64 (i:Int),.bool true,.bool true] []) (oE:=.exit 0 ((kW b (.int .i64 v) (.int .i64 (xs.length:Int)) (.int .i64 (xs.length:Int))).set 6 (.bool false)) [])
  (fun _=>Ce) (fun _ _ _ h=>by cases h) (fun _ _ h=>by cases h)
  (fun i hi hp=>by
   rw [round [] i hi]
   exact if_pos (Classical.not_not.1 hp hi))
  (fun i hi hp=>by
   rw [round [] i hi]
   exact if_neg fun h=>hp fun _=>h)
  (by simp [iK]) (show xs.length<300 by omega) with ⟨i,hi,hp,hj,lp⟩ | ⟨hp,lp⟩
 ·have lp:b8 (evC (ax GC []) 300 iK) gY 300 (kW b (.int .i64 v) (.int .i64 (xs.length:Int)) (.int .i64 0)) []=_:=lp
  have e:db (isI v) xs=(i:Int):=bL hi (by
   cases h':isI v xs[i] with
   | true=>rfl
   | false=>exact absurd (fun _=>h') hp) (fun j hj'=>Classical.not_not.1 (hj j hj') (by omega))
  rw [e]
  simp [H8,hlen,BK lp,-ag,-an]
 ·have lp:b8 (evC (ax GC []) 300 iK) gY 300 (kW b (.int .i64 v) (.int .i64 (xs.length:Int)) (.int .i64 0)) []=_:=lp
  have e:db (isI v) xs = -1:=bO fun i hi=>Classical.not_not.1 (hp i hi) hi
  rw [e]
  simp [H8,hlen,BK lp,-ag,-an]
def Ik:List (FuncId × aG):=[(49,aD 4 M64)]
@[simp] theorem JA:aC Ik 49=some (aD 4 M64):=rfl
theorem Di:∀f M,aC Ik f=some M->aj Try.prog GC f M:=af (aj.of_pure uu 4) az
def M35:aP:=fun args=>evP (ax GC Ik) 0 EO 1 args
theorem wY:aq Try.prog GC 64 M35:=aq.of_ev (E:=ax GC Ik) (aw Di) rfl Le yy 1 fun _ _ h=>⟨0,h⟩
theorem EB (v:Int) (xs:List Int):xs.any (isI v)=decide (v∈xs):=by
 rw [Bool.eq_iff_iff,List.any_eq_true,decide_eq_true_eq]
 unfold isI
 constructor
 ·rintro ⟨x,hx,h⟩
  rw [of_decide_eq_true h]; exact hx
 ·exact fun h=>⟨v,h,by simp⟩
theorem HO {xs:List Int} {b:AV} (hb:SlA 1 (ak xs) b) (hl:xs.length<=200) (v:Int):M35 [b,.int .i64 v]=some (.bool (decide (v∈xs))):=by
 have h:=qi hb hl v
 have b1:=iq (db (isI v) xs)
 rw [cq,EB] at b1
 have f1:∀A n,frz A n b=b:=fun A n=>hb.frz n
 obtain ⟨z,hz⟩:∃z,z=db (isI v) xs:=⟨_,rfl⟩
 rw [<-hz] at h b1
 obtain ⟨d,hd⟩:∃d,d=decide (v∈xs):=⟨_,rfl⟩
 rw [<-hd] at b1 ⊢
 unfold M35
 rw [aI _ _ rfl]
 simp [EO,h,b1,f1,aL,bc,-ag,-frz]
def M43:aP:=fun args=>evP (ax GC []) 300 zM 1 args
theorem Fs:aq Try.prog GC 68 M43:=aq.of_ev (E:=ax GC []) (aw az) rfl Lb yr 1 fun _ _ h=>⟨300,h⟩
theorem vE {xs ys:List Int} {a b:AV} (ha:SlA 1 (ak xs) a) (hb:SlA 1 (ak ys) b) (hl:xs.length<=200):M43 [a,b]=some (.bool (decide (xs=ys))):=by
 have hla:=ha.len
 have hlb:=hb.len
 rw [aB] at hla hlb
 have b0:ag .neq (.int .i64 (xs.length:Int)) (.int .i64 (ys.length:Int))=some (.bool (decide (xs.length≠ys.length))):=by
  rw [da]
  congr 2
  exact decide_eq_decide.2 (by omega)
 by_cases h0:xs.length≠ys.length
 ·rw [decide_eq_true h0] at b0
  rw [decide_eq_false (fun h=>h0 (by rw [h]))]
  unfold M43
  rw [aI _ _ rfl]
  simp [zM,hla,hlb,b0,-ag,-an]
 have h0:xs.length=ys.length:=Classical.not_not.1 h0
 rw [decide_eq_false (by omega)] at b0
 have round:∀(A:aa) (i:Nat) (hi:i<xs.length),run (ax GC []) 300 [.code ev] (eU a b (.int .i64 (xs.length:Int)) (.int .i64 (i:Int))) A =
   if xs[i]=ys[i]'(by omega) then some (.normal (eU a b (.int .i64 (xs.length:Int)) (.int .i64 ((i+1:Nat):Int))) A) else some (.ret [a,b,.bool false,.int .i64 (i:Int),.undef,.int .i64 (xs.length:Int),.int .i64 (i:Int),.bool true,.bool true] A):=fun A i hi=>by
  have x1:=ha.int (A:=A) _ _ (List.getElem?_eq_getElem hi) .i64
  have x2:=hb.int (A:=A) _ _ (List.getElem?_eq_getElem (show i<ys.length by omega)) .i64
  have m:=da xs[i] (ys[i]'(by omega))
  have b1:=br i xs.length .i64
  rw [decide_eq_true hi] at b1
  have b3:=a9 i (by omega)
  obtain ⟨i1,hi1⟩:∃i1:Nat,i1=i+1:=⟨_,rfl⟩
  rw [<-hi1] at b3 ⊢
  by_cases hd:xs[i]=ys[i]'(by omega)
  ·rw [decide_eq_false (by simpa using hd)] at m
   rw [if_pos hd]
   simp [ev,x1,x2,m,b1,b3,-ag,-ai,-an]
  ·rw [decide_eq_true (by simpa using hd)] at m
   rw [if_neg hd]
   simp [ev,x1,x2,m,b1,-ag,-ai,-an]
 unfold M43
 rw [aI _ _ rfl]
 rcases cP (E:=ax GC []) (fuel:=300) (a:=ev) (mask:=dG) (fun i=>eU a b (.int .i64 (xs.length:Int)) (.int .i64 (i:Int))) (fun _=>[]) xs.length (fun i=>¬ ∀(hi:i<xs.length),xs[i]=ys[i]'(by omega))
  (oF:=fun i=>.ret [a,b,.bool false,.int .i64 (i:Int),.undef,.int .i64 (xs.length:Int),.int .i64 (i:Int),.bool true,.bool true] []) (oE:=.exit 0 ((eU a b (.int .i64 (xs.length:Int)) (.int .i64 (xs.length:Int))).set 7 (.bool false)) [])
  (fun _=>oG) (fun _ _ _ h=>by cases h) (fun _ _ h=>by cases h)
  (fun i hi hp=>by
   rw [round [] i hi]
   exact if_pos (Classical.not_not.1 hp hi))
  (fun i hi hp=>by
   rw [round [] i hi]
   exact if_neg fun h=>hp fun _=>h)
  (by simp [ev]) (show xs.length<300 by omega) with ⟨i,hi,hp,hj,lp⟩ | ⟨hp,lp⟩
 ·have lp:b8 (evC (ax GC []) 300 ev) dG 300 (eU a b (.int .i64 (xs.length:Int)) (.int .i64 0)) []=_:=lp
  rw [decide_eq_false (fun h=>hp (fun _=>by subst h; rfl))]
  simp [zM,hla,hlb,b0,rW lp,-ag,-an]
 ·have lp:b8 (evC (ax GC []) 300 ev) dG 300 (eU a b (.int .i64 (xs.length:Int)) (.int .i64 0)) []=_:=lp
  rw [decide_eq_true (List.ext_getElem h0 fun i h1 h2=>Classical.not_not.1 (hp i h1) h1)]
  simp [zM,hla,hlb,b0,rW lp,-ag,-an]
def H36:aG:=fun _=>bV (ax GC []) 0 As
theorem uz:aj Try.prog GC 65 H36:=(bS (aw az) rfl Iu vr bh.nil).y
theorem HW (h:aT) {A:aa} {id n:Nat} {gr:Bool} {es:List AV} (hA:A[id]?=some (.row 1 gr es)):H36 h [.sl id 0 n] A=some (.csl id 0 n,A):=by
 unfold H36
 rw [a8 _ _ rfl]
 have e:dJ 1 A none (.int .i64 (n:Int)) (.int .i64 (n:Int)) (.sl id 0 n)=some (.csl id 0 n):=by
  simp [dJ,cZ,hA,di,loB,hiB]
 simp [As,e,-dJ,dS]
def M44:aP:=fun args=>evP (ax GC []) 0 Ar 1 args
theorem wX:aq Try.prog GC 69 M44:=aq.of_ev (E:=ax GC []) (aw az) rfl La yq 1 fun _ _ h=>⟨0,h⟩
def eF (T:aR):Int:=if T.blades=2 then T.pick+T.place else T.pick+T.travel+T.place
theorem HM {T:aR} (chv:AV) (h:a6 T):M44 [au T chv]=some (.int .i64 (eF T)):=by
 obtain ⟨_,⟨h1,h2,h3⟩,_⟩:=h
 obtain ⟨ch,pk,pl,tr,bl⟩:=T
 simp only at h1 h2 h3
 have b0:=bz bl 2
 have b1:=aS (a:=pk) (b:=pl) (by omega)
 have b2:=aS (a:=pk) (b:=tr) (by omega)
 have b3:=aS (a:=pk+tr) (b:=pl) (by omega)
 rw [show au ⟨ch,pk,pl,tr,bl⟩ chv=.agg [chv,.int .i64 pk,.int .i64 pl,.int .i64 tr,.int .i64 bl] from rfl]
 have l:∀A:aa,A[0]?=some (.row 5 false [.agg [chv,.int .i64 pk,.int .i64 pl,.int .i64 tr,.int .i64 bl]])->ac false 1 A (.ptr 0 0 1)=some (.int .i64 pk)/\ac false 1 A (.ptr 0 0 2)=some (.int .i64 pl)/\ac false 1 A (.ptr 0 0 3)=some (.int .i64 tr)/\ac false 1 A (.ptr 0 0 4)=some (.int .i64 bl):=fun A hA=>by
  refine ⟨?_,?_,?_,?_⟩ <;> simp only [ac,hA] <;> rfl
 obtain ⟨l1,l2,l3,l4⟩:=l [.row 5 false [.agg [chv,.int .i64 pk,.int .i64 pl,.int .i64 tr,.int .i64 bl]]] rfl
 obtain ⟨s1,hs1⟩:∃s,s=pk+pl:=⟨_,rfl⟩
 obtain ⟨s2,hs2⟩:∃s,s=pk+tr:=⟨_,rfl⟩
 obtain ⟨s3,hs3⟩:∃s,s=s2+pl:=⟨_,rfl⟩
 rw [<-hs1] at b1
 rw [<-hs2] at b2 b3
 rw [<-hs3] at b3
 have e:eF ⟨ch,pk,pl,tr,bl⟩=if bl=2 then s1 else s3:=by
  unfold eF; simp only; rw [hs3,hs2,hs1]
 rw [e]
 unfold M44
 rw [aI _ _ rfl]
 by_cases hb:bl=2
 ·rw [decide_eq_true hb] at b0
  rw [if_pos hb]
  simp [Ar,b0,b1,l1,l2,l4,-ag,-ac]
 ·rw [decide_eq_false hb] at b0
  rw [if_neg hb]
  simp [Ar,b0,b2,b3,l1,l2,l3,l4,-ag,-ac]
end Clu
namespace Clu
open Go
open Cy (GC iq db bL bO cq aL bc aB)
def ext (n:Nat) (one:Bool):Nat->List Int->List (List Int)
 | 0,_=>[]
 | k+1,b=>if b.length=n+1 then [b] else (List.range' 1 n).flatMap fun (i:Nat)=>if !decide ((i:Int)∈b) && (one || decide (i=b.length)) then ext n one k (b++[(i:Int)]) else []
def aH (T:aR):List (List Int):=if a6 T then ext T.ch.length (decide (T.blades=1)) (T.ch.length+1) [0] else []
theorem tX (n:Nat) (one:Bool) (hn:n<=4):∀(k:Nat) (b:List Int),(ext n one (k+1) b).length<=4 ^ k\/b.length+k<n+1
 | 0,b=>by
  unfold ext
  split
  ·left; simp
  ·by_cases h:b.length+0<n+1
   ·exact .inr h
   ·left
    rw [List.flatMap_eq_nil_iff.2 fun i _=>by split <;> rfl]
    simp
 | k+1,b=>by
  by_cases h:b.length+(k+1)<n+1
  ·exact .inr h
  left
  rw [ext]
  split
  ·have:1<=4 ^ (k+1):=Nat.one_le_pow _ _ (by omega)
   simpa using this
  ·have key:∀l:List Nat,(l.flatMap fun (i:Nat)=>if !decide ((i:Int)∈b) && (one || decide (i=b.length)) then ext n one (k+1) (b++[(i:Int)]) else []).length<=l.length*4 ^ k:=fun l=>by
    induction l with
    | nil=>simp
    | cons i l ih=>
     rw [List.flatMap_cons,List.length_append,List.length_cons,Nat.add_mul,Nat.one_mul]
     have:(if !decide ((i:Int)∈b) && (one || decide (i=b.length)) then ext n one (k+1) (b++[(i:Int)]) else []).length<=4 ^ k:=by
      split
      ·rcases tX n one hn k (b++[(i:Int)]) with h1 | h1
       ·exact h1
       ·simp at h1; omega
      ·simp
     omega
   refine Nat.le_trans (key _) ?_
   rw [List.length_range',Nat.pow_succ,Nat.mul_comm]
   exact Nat.mul_le_mul_left _ hn
def iG:Ent->Prop
 | .row _ _ (e :: _)=>(∀a b c,e≠.sl a b c)/\e≠.nilS
 | _=>False
def pw (A B:aa):Prop:=A.length<=B.length/\∀(j:Nat) (e:Ent),A[j]?=some e->iG e->B[j]?=some e
theorem pw.refl (A:aa):pw A A:=⟨Nat.le_refl _,fun _ _ h _=>h⟩
theorem pw.trans {A B C:aa} (h:pw A B) (k:pw B C):pw A C:=⟨Nat.le_trans h.1 k.1,fun j e h1 h2=>k.2 j e (h.2 j e h1 h2) h2⟩
theorem pw.app (A:aa) (X:aa):pw A (A++X):=⟨by simp,fun j e h _=>by
 have:=(List.getElem?_eq_some_iff.1 h).1
 rw [List.getElem?_append_left this]; exact h⟩
theorem kA {l:List Int} (h:l≠[]) (s:Nat) (g:Bool):iG (.row s g (ak l)):=by
 cases l with
 | nil=>exact absurd rfl h
 | cons x r=>simp [iG,ak]
theorem lC (s:Nat) (g:Bool) (a b c:Nat) (r:List AV):¬ iG (.row s g (.sl a b c :: r)):=fun h=>h.1 a b c rfl
def z9 (x:Nat × List Int):AV:=.sl x.1 0 x.2.length
def EH (A:aa) (op:Nat) (v:AV) (pl:List (Nat × List Int)):Prop:=
 (∀x∈pl,x.2≠[]/\A[x.1]?=some (.row 1 false (ak x.2)))/\((v=.nilS/\pl=[])\/∃id gr,v=.sl id 0 pl.length/\id≠op/\pl≠[]/\A[id]?=some (.row 1 gr (pl.map z9)))
def js (A:aa) (op:Nat) (ll:List (List Int)):Prop:=∃v pl,pl.map (·.2)=ll/\A[op]?=some (.row 1 false [v])/\EH A op v pl
theorem js.app {A:aa} {op:Nat} {ll:List (List Int)} (h:js A op ll) (X:aa):js (A++X) op ll:=by
 obtain ⟨v,pl,h1,h2,h3,h4⟩:=h
 have st:=(pw.app A X).2
 have hk:∀(j:Nat) (e:Ent),A[j]?=some e->(A++X)[j]?=some e:=fun j e h=>by
  rw [List.getElem?_append_left (List.getElem?_eq_some_iff.1 h).1]; exact h
 refine ⟨v,pl,h1,hk _ _ h2,fun x hx=>⟨(h3 x hx).1,hk _ _ (h3 x hx).2⟩,?_⟩
 rcases h4 with h4 | ⟨id,gr,h4,h5,h6,h7⟩
 ·exact .inl h4
 ·exact .inr ⟨id,gr,h4,h5,h6,hk _ _ h7⟩
theorem gT {A:aa} {op:Nat} {v:AV} (h:A[op]?=some (.row 1 false [v])) (hv:v=.nilS\/∃a b c,v=.sl a b c):ac false 1 A (.ptr op 0 0)=some v:=by
 rcases hv with rfl | ⟨a,b,c,rfl⟩ <;> simp [h]
theorem EH.form {A:aa} {op:Nat} {v:AV} {pl:List (Nat × List Int)} (h:EH A op v pl):v=.nilS\/∃a b c,v=.sl a b c:=by
 rcases h.2 with h | ⟨id,gr,h,_⟩
 ·exact .inl h.1
 ·exact .inr ⟨_,_,_,h⟩
theorem js.add {A:aa} {op:Nat} {ll:List (List Int)} (h:js A op ll) {l:List Int} (hl:l≠[]) (hb:ll.length<=100000) {r y:Nat} (hr:A[r]?=some (.row 1 false (ak l))) (hy:A[y]?=some (.row 1 false [.sl r 0 l.length])) (hyo:y≠op) :
  ∃v id n A3,A[op]?=some (.row 1 false [v])/\(v=.nilS\/∃a b c,v=.sl a b c)/\aM 1 24 A v (.sl y 0 1)=some (.sl id 0 n,A3)/\A3[op]?=some (.row 1 false [v]) /\
   js (A3.set op (.row 1 false [.sl id 0 n])) op (ll++[l])/\pw A (A3.set op (.row 1 false [.sl id 0 n])):=by
 obtain ⟨v,pl,h1,h2,h3⟩:=h
 have hf:=h3.form
 obtain ⟨h3,h4⟩:=h3
 have hsrc:aQ 1 A (.sl y 0 1)=some [.sl r 0 l.length]:=by simp [aQ,hy]
 have hop:op<A.length:=(List.getElem?_eq_some_iff.1 h2).1
 have hnp:¬ iG (.row 1 false [v]):=by
  rcases hf with rfl | ⟨a,b,c,rfl⟩
  ·exact fun h=>h.2 rfl
  ·exact lC _ _ _ _ _ _
 have hne:∀j (m:List Int),m≠[]->A[j]?=some (.row 1 false (ak m))->j≠op:=fun j m hm hj e=>by
  subst e
  rw [h2] at hj
  injection hj with hj
  exact hnp (hj ▸ kA hm 1 false)
 have hll:pl.length=ll.length:=by rw [<-h1]; simp
 rcases h4 with ⟨rfl,rfl⟩ | ⟨id,gr,rfl,hid,hpl,hrow⟩
 ·have ho:(A++[Ent.row 1 false [AV.sl r 0 l.length]])[op]?=some (.row 1 false [.nilS]):=by rw [List.getElem?_append_left hop]; exact h2
  refine ⟨.nilS,A.length,1,A++[.row 1 false [.sl r 0 l.length]],h2,.inl rfl,?_,ho,?_,?_⟩
  ·unfold aM; rw [hsrc]; simp
  ·have hset:∀j,j≠op->((A++[Ent.row 1 false [AV.sl r 0 l.length]]).set op (.row 1 false [.sl A.length 0 1]))[j]?=(A++[Ent.row 1 false [AV.sl r 0 l.length]])[j]?:=fun j hj=>List.getElem?_set_ne (fun e=>hj e.symm)
   refine ⟨.sl A.length 0 1,[(r,l)],by rw [<-h1]; rfl,by rw [List.getElem?_set_self (by simp; omega)],fun x hx=>?_,.inr ⟨A.length,false,rfl,by omega,by simp,?_⟩⟩
   ·rw [List.mem_singleton] at hx
    subst hx
    refine ⟨hl,?_⟩
    rw [hset _ (hne _ _ hl hr),List.getElem?_append_left (List.getElem?_eq_some_iff.1 hr).1]
    exact hr
   ·rw [hset _ (by omega)]
    simp [z9]
  ·refine ⟨by simp,fun j e hj he=>?_⟩
   have:j≠op:=fun e'=>by
    subst e'; rw [h2] at hj; injection hj with hj; exact hnp (hj ▸ he)
   rw [List.getElem?_set_ne (fun e'=>this e'.symm),List.getElem?_append_left (List.getElem?_eq_some_iff.1 hj).1]
   exact hj
 ·have hidl:id<A.length:=(List.getElem?_eq_some_iff.1 hrow).1
  have hlen:0<pl.length:=List.length_pos_iff.2 hpl
  have hnp2:¬ iG (.row 1 gr (pl.map z9)):=by
   cases pl with
   | nil=>exact absurd rfl hpl
   | cons x r=>exact lC _ _ _ _ _ _
  have hnid:∀j (m:List Int),m≠[]->A[j]?=some (.row 1 false (ak m))->j≠id:=fun j m hm hj e=>by
   subst e
   rw [hrow] at hj
   injection hj with hj
   exact hnp2 (hj ▸ kA hm 1 false)
  refine ⟨.sl id 0 pl.length,id,pl.length+1,A.set id (.row 1 true (pl.map z9++[.sl r 0 l.length])),h2,.inr ⟨_,_,_,rfl⟩,?_,?_,?_,?_⟩
  ·have hz:pl.length≠0:=by omega
   have hb2:(pl.length+1)*24<=140737488355328:=by omega
   unfold aM; rw [hsrc]; simp [hrow,hz,hb2]
  ·rw [List.getElem?_set_ne hid]; exact h2
  ·have hset:∀j,j≠op->j≠id->((A.set id (Ent.row 1 true (pl.map z9++[AV.sl r 0 l.length]))).set op (.row 1 false [.sl id 0 (pl.length+1)]))[j]?=A[j]?:=fun j hj hj2=>by
    rw [List.getElem?_set_ne (fun e=>hj e.symm),List.getElem?_set_ne (fun e=>hj2 e.symm)]
   refine ⟨.sl id 0 (pl.length+1),pl++[(r,l)],by rw [<-h1]; simp,by rw [List.getElem?_set_self (by simpa using hop)],fun x hx=>?_,.inr ⟨id,true,by simp,hid,by simp,?_⟩⟩
   ·rcases List.mem_append.1 hx with hx | hx
    ·have:=h3 x hx
     exact ⟨this.1,by rw [hset _ (hne _ _ this.1 this.2) (hnid _ _ this.1 this.2)]; exact this.2⟩
    ·rw [List.mem_singleton] at hx
     subst hx
     exact ⟨hl,by rw [hset _ (hne _ _ hl hr) (hnid _ _ hl hr)]; exact hr⟩
   ·rw [List.getElem?_set_ne (fun e=>hid e.symm),List.getElem?_set_self hidl,List.map_append]
    rfl
  ·refine ⟨by simp,fun j e hj he=>?_⟩
   have n1:j≠op:=fun e'=>by
    subst e'; rw [h2] at hj; injection hj with hj; exact hnp (hj ▸ he)
   have n2:j≠id:=fun e'=>by
    subst e'; rw [hrow] at hj; injection hj with hj; exact hnp2 (hj ▸ he)
   rw [List.getElem?_set_ne (fun e=>n1 e.symm),List.getElem?_set_ne (fun e=>n2 e.symm)]
   exact hj
end Clu
namespace Clu
open Go
open Cy (GC iq db bL bO cq aL bc aB)
def lx (np op cp ep:Nat):AV:=.func (.func 63) [] [.ptr np 0 0,.ptr op 0 0,.ptr cp 0 0,.ptr ep 0 0]
structure X34 (A:aa) (np op cp ep n:Nat) (T:aR) (chv:AV):Prop where
 hn:A[np]?=some (.row 1 false [.int .i64 (n:Int)])
 hc:A[cp]?=some (.row 5 false [au T chv])
 he:A[ep]?=some (.row 1 false [lx np op cp ep])
theorem X34.step {A B:aa} {np op cp ep n:Nat} {T:aR} {chv:AV} (h:X34 A np op cp ep n T chv) (s:pw A B):X34 B np op cp ep n T chv:=
 ⟨s.2 _ _ h.hn (by simp [iG]),s.2 _ _ h.hc (by simp [iG,au]),s.2 _ _ h.he (by simp [iG,lx])⟩
def tR:List (FuncId × aG):=[(64,aD 4 M35),(65,H36)]
def H34:Nat->aG
 | 0=>fun h=>bV (dB GC tR h) 40 sR
 | k+1=>fun h=>bV (dB GC ((63,H34 k) :: tR) h) 40 sR
theorem uF:∀f M,aC tR f=some M->aj Try.prog GC f M:=af (aj.of_pure wY 4) (af uz az)
theorem ny:∀k,aj Try.prog GC 63 (H34 k)
 | 0=>bZ uF EZ qc
 | k+1=>bZ (af (ny k) uF) EZ qc
theorem qJ {A:aa} {id:Nat} {g:Bool} {b:List Int} (h:A[id]?=some (.row 1 g (ak b))) (n:Nat):frz A (n+1) (.sl id 0 b.length)=.fs 1 (ak b):=by
 have e:((ak b).drop 0).take b.length=ak b:=by
  rw [List.drop_zero,<-aB b,List.take_length]
 have hm:∀l:List Int,(ak l).map (frz A n)=ak l:=fun l=>by
  unfold ak
  rw [List.map_map]
  exact List.map_congr_left fun x _=>aL A n .i64 x
 simp only [frz,h]
 rw [e,hm]
theorem BC (fs:List (FuncId × aG)) (h:aT) {A:aa} {np op cp ep n id:Nat} {T:aR} {chv:AV} (hX:X34 A np op cp ep n T chv) {ll:List (List Int)} (ho:js A op ll) {b:List Int} (hb:A[id]?=some (.row 1 false (ak b))) (hlen:b.length=n+1) (hn4:n<=4) (hll:ll.length<=100000) :
  ∃B,bV (dB GC fs h) 40 sR [.sl id 0 b.length,.ptr np 0 0,.ptr op 0 0,.ptr cp 0 0,.ptr ep 0 0] A=some (.tup [],B)/\js B op (ll++[b])/\pw A B:=by
 have hbne:b≠[]:=fun e=>by rw [e] at hlen; simp at hlen
 have l0:ac false 1 A (.ptr np 0 0)=some (.int .i64 (n:Int)):=by simp [hX.hn]
 have b1:=a9 n (by omega)
 have b2:ag .eql (.int .i64 (b.length:Int)) (.int .i64 ((n+1:Nat):Int))=some (.bool true):=by rw [bz,decide_eq_true (by omega)]
 have e1:cr 1 8 (.int .i64 0) A (.int .i64 ((n+1:Nat):Int)) (.int .i64 ((n+1:Nat):Int))=some (.sl A.length 0 b.length,A++[.row 1 false (List.replicate b.length (.int .i64 0))]):=by
  rw [hlen]
  simp only [cr]
  rw [if_pos ⟨by omega,by omega,by omega,by omega,rfl,rfl,by omega⟩]
  simp
 have e2:lU 1 (A++[.row 1 false (List.replicate b.length (.int .i64 0))]) (.sl A.length 0 b.length) (.sl id 0 b.length)=some (.int .i64 (b.length:Int),A++[.row 1 false (ak b)]):=by
  have hs:aQ 1 (A++[Ent.row 1 false (List.replicate b.length (AV.int .i64 0))]) (.sl id 0 b.length)=some (ak b):=by
   rw [ta (gr:=false) (es:=ak b) (by rw [List.getElem?_append_left (List.getElem?_eq_some_iff.1 hb).1]; exact hb)]
   rw [List.drop_zero,<-aB b,List.take_length]
  simp only [lU,hs]
  rw [List.getElem?_concat_length]
  simp only
  rw [if_pos ⟨trivial,by omega,trivial⟩,aB,Nat.min_self]
  congr 2
  rw [List.set_append_right _ _ (Nat.le_refl _),Nat.sub_self]
  simp only [List.set_cons_zero,List.take_zero,List.nil_append,Nat.zero_add]
  rw [<-aB b,List.take_length,List.drop_of_length_le (by simp),List.append_nil]
 obtain ⟨A1,hA1⟩:∃X,X=A++[Ent.row 1 false (ak b)]:=⟨_,rfl⟩
 have hl1:A1.length=A.length+1:=by rw [hA1]; simp
 have e3:bo 1 [.sl A.length 0 b.length] A1=some (.sl (A.length+1) 0 1,A1++[.row 1 false [.sl A.length 0 b.length]]):=by
  simp [bo,hl1]
 have hop:op<A.length:=by obtain ⟨v,pl,_,h2,_⟩:=ho; exact (List.getElem?_eq_some_iff.1 h2).1
 have ho2:js (A1++[.row 1 false [.sl A.length 0 b.length]]) op ll:=by rw [hA1]; exact (ho.app _).app _
 obtain ⟨v,id2,n2,A3,k1,k2,k3,k4,k5,k6⟩:=ho2.add hbne hll (r:=A.length) (y:=A.length+1) (by rw [hA1]; simp) (by rw [hA1]; simp) (by omega)
 have l1:ac false 1 A1 (.ptr op 0 0)=some v:=gT (by rw [<-k1,List.getElem?_append_left (by omega)]) k2
 have e5:aA 1 A3 (.ptr op 0 0) (.sl id2 0 n2)=some (A3.set op (.row 1 false [.sl id2 0 n2])):=by
  rcases k2 with rfl | ⟨_,_,_,rfl⟩ <;> simp [k4]
 obtain ⟨A2,hA2⟩:∃X,X=A1++[Ent.row 1 false [.sl A.length 0 b.length]]:=⟨_,rfl⟩
 obtain ⟨B,hB⟩:∃X,X=A3.set op (.row 1 false [.sl id2 0 n2]):=⟨_,rfl⟩
 obtain ⟨A0,hA0⟩:∃X,X=A++[Ent.row 1 false (List.replicate b.length (AV.int .i64 0))]:=⟨_,rfl⟩
 have hst:pw A A2:=by rw [hA2,hA1,List.append_assoc]; exact pw.app _ _
 rw [<-hA2] at e3 k3 k6
 rw [<-hB] at e5 k5 k6
 rw [<-hA0] at e1 e2
 rw [<-hA1] at e2
 refine ⟨B,?_,k5,hst.trans k6⟩
 rw [a8 _ _ rfl]
 obtain ⟨n1,hn1⟩:∃x,x=n+1:=⟨_,rfl⟩
 rw [<-hn1] at b1 b2 e1
 obtain ⟨bl,hbl⟩:∃x,x=b.length:=⟨_,rfl⟩
 rw [<-hbl] at b2 e1 e2 e3 ⊢
 obtain ⟨r1,hr1⟩:∃x,x=A.length:=⟨_,rfl⟩
 rw [<-hr1] at e1 e2 e3 k3
 obtain ⟨r2,hr2⟩:∃x,x=r1+1:=⟨_,rfl⟩
 rw [<-hr2] at e3 k3
 simp [sR,l0,l1,b1,b2,e1,e2,e3,k3,e5,-ag,-ac,-aA,-cr,-bo]
theorem uc {A:aa} {id:Nat} {g:Bool} {b:List Int} (h:A[id]?=some (.row 1 g (ak b))) (hb:b.length<=1000) (x:Int):cw 1 8 A (.csl id 0 b.length) (.fs 1 [.int .i64 x])=some (.sl A.length 0 (b.length+1),A++[.row 1 false (ak (b++[x]))]):=by
 have e:((ak b).drop 0).take b.length=ak b:=by
  rw [List.drop_zero,<-aB b,List.take_length]
 have hb2:(b.length+1)*8<=140737488355328:=by omega
 simp only [cw,cX,h,e]
 rw [if_pos ⟨trivial,by omega,by omega,by simp,by simpa using hb2⟩]
 simp [ak]
theorem tx {h:aT} {fs:List (FuncId × aG)} {H:aG} (hH:aC fs 63=some H) (h35:aC fs 64=some (aD 4 M35)) (h36:aC fs 65=some H36) {A:aa} {np op cp ep n id:Nat} {T:aR} {chv:AV} (hX:X34 A np op cp ep n T chv) {b:List Int} (hb:A[id]?=some (.row 1 false (ak b))) (hbl:b.length<=100) {i:Nat} (hi:i<=n) (hn4:n<=4) {B:aa}
  (hr:(!decide ((i:Int)∈b) && (decide (T.blades=1) || decide (i=b.length)))=true->H h [.sl A.length 0 (b.length+1),.ptr np 0 0,.ptr op 0 0,.ptr cp 0 0,.ptr ep 0 0] (A++[.row 1 false (ak (b++[(i:Int)]))])=some (.tup [],B))
  (hr0:(!decide ((i:Int)∈b) && (decide (T.blades=1) || decide (i=b.length)))=false->B=A) (hkeep:B[ep]?=A[ep]?) :
  run (dB GC fs h) 40 [.code dz] (gj (.sl id 0 b.length) (.ptr np 0 0) (.ptr cp 0 0) (.ptr ep 0 0) (.int .i64 (i:Int))) A=some (.normal (gj (.sl id 0 b.length) (.ptr np 0 0) (.ptr cp 0 0) (.ptr ep 0 0) (.int .i64 ((i+1:Nat):Int))) B):=by
 obtain ⟨ch,pk,pl,tr,bd⟩:=T
 have l0:ac false 1 A (.ptr np 0 0)=some (.int .i64 (n:Int)):=by simp [hX.hn]
 have hc:A[cp]?=some (.row 5 false [.agg [chv,.int .i64 pk,.int .i64 pl,.int .i64 tr,.int .i64 bd]]):=hX.hc
 have l1:ac false 1 A (.ptr cp 0 4)=some (.int .i64 bd):=by simp [hc]
 have l2:ac false 1 A (.ptr ep 0 0)=some (lx np op cp ep):=by simp [hX.he,lx]
 have b0:ag .leq (.int .i64 (i:Int)) (.int .i64 (n:Int))=some (.bool true):=by rw [dM,decide_eq_true (by omega)]
 have b3:=a9 i (by omega)
 have f1:=qJ hb 3
 have f2:∀A,frz A 4 (.int .i64 (i:Int))=.int .i64 (i:Int):=fun A=>aL A 4 .i64 i
 have m:=HO (xs:=b) (b:=.fs 1 (ak b)) (.inr rfl) (by omega) (i:Int)
 have b1:ag .eql (.int .i64 bd) (.int .i64 1)=some (.bool (decide (bd=1))):=bz _ _
 have b2:ag .eql (.int .i64 (i:Int)) (.int .i64 (b.length:Int))=some (.bool (decide (i=b.length))):=by
  rw [bz]; congr 2; exact decide_eq_decide.2 (by omega)
 have c1:=HW h (n:=b.length) hb
 have c2:=uc hb (by omega) (i:Int)
 have ne1:¬ ep=A.length:=by have:=(List.getElem?_eq_some_iff.1 hX.he).1; omega
 have ne2:¬ ep=id:=fun e=>by
  have h1:=hX.he
  rw [e,hb] at h1
  injection h1 with h1
  injection h1 with _ _ h1
  cases b with
  | nil=>cases h1
  | cons x r=>injection h1 with h1; cases h1
 simp only at hr hr0
 obtain ⟨i1,hi1⟩:∃i1:Nat,i1=i+1:=⟨_,rfl⟩
 rw [<-hi1] at b3 ⊢
 obtain ⟨d1,h1⟩:∃d,d=decide ((i:Int)∈b):=⟨_,rfl⟩
 rw [<-h1] at m hr hr0
 obtain ⟨d2,h2⟩:∃d,d=decide (bd=1):=⟨_,rfl⟩
 rw [<-h2] at b1 hr hr0
 obtain ⟨d3,h3⟩:∃d,d=decide (i=b.length):=⟨_,rfl⟩
 rw [<-h3] at b2 hr hr0
 obtain ⟨A1,hA1⟩:∃X,X=A++[Ent.row 1 false (ak (b++[(i:Int)]))]:=⟨_,rfl⟩
 have k1:A1[ep]?=A[ep]?:=by rw [hA1,List.getElem?_append_left (List.getElem?_eq_some_iff.1 hX.he).1]
 rw [<-hA1] at c2 hr
 obtain ⟨r,hrr⟩:∃x,x=A.length:=⟨_,rfl⟩
 rw [<-hrr] at c2 hr
 obtain ⟨bl,hbl⟩:∃x,x=b.length:=⟨_,rfl⟩
 rw [<-hbl] at b2 c1 c2 f1 hr ⊢
 obtain ⟨bl1,hbl1⟩:∃x,x=bl+1:=⟨_,rfl⟩
 rw [<-hbl1] at c2 hr
 obtain ⟨F,hF⟩:∃x,x=AV.fs 1 (ak b):=⟨_,rfl⟩
 rw [<-hF] at m f1
 cases d1 with
 | true=>
  have:=hr0 rfl; subst this
  cases d2 <;> cases d3 <;> simp [dz,l0,b0,b3,f1,f2,h35,m,-frz,-ag,-ac]
 | false=>
  cases d2 with
  | true=>
   have hr:=hr rfl
   simp [dz,l0,l1,l2,b0,b1,b3,f1,f2,h35,h36,hH,m,hc,c1,c2,hr,lx,ne1,ne2,-frz,-ag,-ac]
  | false=>
   cases d3 with
   | true=>
    have hr:=hr rfl
    simp [dz,l0,l1,l2,b0,b1,b2,b3,f1,f2,h35,h36,hH,m,hc,c1,c2,hr,lx,ne1,ne2,-frz,-ag,-ac]
   | false=>
    have:=hr0 rfl; subst this
    simp [dz,l0,l1,b0,b1,b2,b3,f1,f2,h35,m,hc,-frz,-ag,-ac]
def fE (n:Nat) (one:Bool) (k:Nat) (b:List Int) (i:Nat):List (List Int):=if !decide ((i:Int)∈b) && (one || decide (i=b.length)) then ext n one k (b++[(i:Int)]) else []
theorem Mi (h:aT) {np op cp ep n:Nat} {T:aR} {chv:AV} (hn4:n<=4) (d:Nat):∀(k:Nat) {A:aa} {ll:List (List Int)} {id:Nat} {b:List Int},b.length+k=n+1->1<=b.length->X34 A np op cp ep n T chv->js A op ll->A[id]?=some (.row 1 false (ak b))->ll.length+4 ^ k<=100000 ->
  ∃B,H34 (d+k) h [.sl id 0 b.length,.ptr np 0 0,.ptr op 0 0,.ptr cp 0 0,.ptr ep 0 0] A=some (.tup [],B)/\js B op (ll++ext n (decide (T.blades=1)) (k+1) b)/\pw A B
 | 0,A,ll,id,b,hk,hb1,hX,ho,hb,hll=>by
  have e:ext n (decide (T.blades=1)) (0+1) b=[b]:=by unfold ext; rw [if_pos (by omega)]
  rw [e]
  cases d with
  | zero=>exact BC _ h hX ho hb (by omega) hn4 (by omega)
  | succ d=>exact BC _ h hX ho hb (by omega) hn4 (by omega)
 | k+1,A,ll,id,b,hk,hb1,hX,ho,hb,hll=>by
  have hbne:b≠[]:=fun e=>by rw [e] at hb1; simp at hb1
  have e:ext n (decide (T.blades=1)) (k+1+1) b=(List.range' 1 n).flatMap (fE n (decide (T.blades=1)) (k+1) b):=by
   rw [ext,if_neg (by omega)]; rfl
  rw [e]
  have loop:∀(c i:Nat) (A:aa) (ll:List (List Int)) (m:Nat),i+c=n+1->X34 A np op cp ep n T chv->js A op ll->A[id]?=some (.row 1 false (ak b))->ll.length+c*4 ^ k<=100000->c<m ->
    ∃B,b8 (evC (dB GC ((63,H34 (d+k)) :: tR) h) 40 dz) du m (gj (.sl id 0 b.length) (.ptr np 0 0) (.ptr cp 0 0) (.ptr ep 0 0) (.int .i64 (i:Int))) A=some (.exit 0 ((gj (.sl id 0 b.length) (.ptr np 0 0) (.ptr cp 0 0) (.ptr ep 0 0) (.int .i64 ((n+1:Nat):Int))).set 8 (.bool false)) B) /\
     js B op (ll++(List.range' i c).flatMap (fE n (decide (T.blades=1)) (k+1) b))/\pw A B:=by
   intro c
   induction c with
   | zero=>
    intro i A ll m hi hX ho hb hll hm
    obtain ⟨m,rfl⟩:∃j,m=j+1:=⟨m-1,by omega⟩
    refine ⟨A,?_,by simpa using ho,pw.refl _⟩
    have l0:ac false 1 A (.ptr np 0 0)=some (.int .i64 (n:Int)):=by simp [hX.hn]
    have b0:ag .leq (.int .i64 ((n+1:Nat):Int)) (.int .i64 (n:Int))=some (.bool false):=by rw [dM,decide_eq_false (by omega)]
    obtain rfl:i=n+1:=by omega
    obtain ⟨i1,hi1⟩:∃i1:Nat,i1=n+1:=⟨_,rfl⟩
    rw [<-hi1] at b0 ⊢
    rw [aO,oH]
    simp [dz,l0,b0,-ag,-ac]
   | succ c ihc=>
    intro i A ll m hi hX ho hb hll hm
    obtain ⟨m,rfl⟩:∃j,m=j+1:=⟨m-1,by omega⟩
    rw [Nat.add_mul,Nat.one_mul] at hll
    have hrow:∀(j:Nat) (e:Ent),A[j]?=some e->iG e->(A++[Ent.row 1 false (ak (b++[(i:Int)]))])[j]?=some e:=(pw.app A _).2
    have hst:=pw.app A [Ent.row 1 false (ak (b++[(i:Int)]))]
    obtain ⟨B,hB1,hB2,hB3,hB4⟩:∃B,((!decide ((i:Int)∈b) && (decide (T.blades=1) || decide (i=b.length)))=true->H34 (d+k) h [.sl A.length 0 (b.length+1),.ptr np 0 0,.ptr op 0 0,.ptr cp 0 0,.ptr ep 0 0] (A++[.row 1 false (ak (b++[(i:Int)]))])=some (.tup [],B)) /\
      ((!decide ((i:Int)∈b) && (decide (T.blades=1) || decide (i=b.length)))=false->B=A)/\js B op (ll++fE n (decide (T.blades=1)) (k+1) b i)/\pw A B:=by
     by_cases hd:(!decide ((i:Int)∈b) && (decide (T.blades=1) || decide (i=b.length)))=true
     ·obtain ⟨B,h1,h2,h3⟩:=Mi h hn4 d k (A:=A++[.row 1 false (ak (b++[(i:Int)]))]) (ll:=ll) (id:=A.length) (b:=b++[(i:Int)]) (by simp; omega) (by simp) (hX.step hst) (ho.app _) (by simp) (by omega)
      rw [List.length_append,List.length_singleton] at h1
      refine ⟨B,fun _=>h1,fun e=>(by rw [hd] at e; cases e),?_,hst.trans h3⟩
      unfold fE
      rw [if_pos hd]; exact h2
     ·refine ⟨A,fun e=>absurd e hd,fun _=>rfl,?_,pw.refl _⟩
      unfold fE
      rw [if_neg hd,List.append_nil]; exact ho
    have hX2:=hX.step hB4
    have hb2:=hB4.2 _ _ hb (kA hbne 1 false)
    have hr:=tx (fs:=(63,H34 (d+k)) :: tR) (h:=h) rfl rfl rfl hX hb (by omega) (i:=i) (by omega) hn4 hB1 hB2 (by rw [hX2.he,hX.he])
    have hfl:(fE n (decide (T.blades=1)) (k+1) b i).length<=4 ^ k:=by
     unfold fE
     split
     ·rcases tX n (decide (T.blades=1)) hn4 k (b++[(i:Int)]) with h1 | h1
      ·exact h1
      ·simp at h1; omega
     ·simp
    obtain ⟨C,c1,c2,c3⟩:=ihc (i+1) B _ m (by omega) hX2 hB3 hb2 (by rw [List.length_append]; omega) (by omega)
    refine ⟨C,?_,?_,hB4.trans c3⟩
    ·rw [aO,oH,hr]
     exact c1
    ·rw [List.range'_succ,List.flatMap_cons,<-List.append_assoc]
     exact c2
  have hp:n*4 ^ k<=4 ^ (k+1):=by
   rw [Nat.pow_succ,Nat.mul_comm]
   exact Nat.mul_le_mul_left _ hn4
  obtain ⟨B,h1,h2,h3⟩:=loop n 1 A ll 40 (by omega) hX ho hb (by omega) (by omega)
  refine ⟨B,?_,h2,h3⟩
  have l0:ac false 1 A (.ptr np 0 0)=some (.int .i64 (n:Int)):=by simp [hX.hn]
  have b1:=a9 n (by omega)
  have b2:ag .eql (.int .i64 (b.length:Int)) (.int .i64 ((n+1:Nat):Int))=some (.bool false):=by rw [bz,decide_eq_false (by omega)]
  obtain ⟨n1,hn1⟩:∃x,x=n+1:=⟨_,rfl⟩
  rw [<-hn1] at b1 b2 h1
  rw [show H34 (d+(k+1))=fun h=>bV (dB GC ((63,H34 (d+k)) :: tR) h) 40 sR from rfl]
  simp only
  rw [a8 _ _ rfl]
  have h1:b8 (evC (dB GC ((63,H34 (d+k)) :: tR) h) 40 dz) du 40 (gj (.sl id 0 b.length) (.ptr np 0 0) (.ptr cp 0 0) (.ptr ep 0 0) (.int .i64 1)) A=_:=h1
  simp [sR,l0,b1,b2,rX h1,-ag,-ac]
end Clu
namespace Clu
open Go
open Cy (GC iq db bL bO cq aL bc aB)
def lz (ll:List (List Int)):AV:=slA 1 (ll.map fun l=>slA 1 (ak l))
theorem FC {l:List Int} (h:l≠[]):slA 1 (ak l)=.fs 1 (ak l):=by
 cases l with
 | nil=>exact absurd rfl h
 | cons x r=>rfl
theorem EH.frz {A:aa} {op:Nat} {v:AV} {pl:List (Nat × List Int)} (h:EH A op v pl) (k:Nat):Proofs.Ytkcjhljbgjpklaa.frz A (k+3) v=lz (pl.map (·.2)):=by
 obtain ⟨h1,h2⟩:=h
 rcases h2 with ⟨rfl,rfl⟩ | ⟨id,gr,rfl,_,hne,hr⟩
 ·rfl
 ·have e:((pl.map z9).drop 0).take pl.length=pl.map z9:=by
   rw [List.drop_zero]
   conv=>lhs; rw [show pl.length=(pl.map z9).length by simp]
   rw [List.take_length]
  have hm:(pl.map z9).map (Proofs.Ytkcjhljbgjpklaa.frz A (k+2))=(pl.map (·.2)).map fun l=>slA 1 (ak l):=by
   rw [List.map_map,List.map_map]
   refine List.map_congr_left fun x hx=>?_
   obtain ⟨n1,n2⟩:=h1 x hx
   show Proofs.Ytkcjhljbgjpklaa.frz A (k+1+1) (.sl x.1 0 x.2.length)=_
   rw [qJ n2]
   exact (FC n1).symm
  rw [show k+3=(k+2)+1 from rfl]
  simp only [Proofs.Ytkcjhljbgjpklaa.frz,hr]
  rw [e,hm]
  unfold lz
  cases pl with
  | nil=>exact absurd rfl hne
  | cons x r=>rfl
theorem wi {A:aa} {id:Nat} {g:Bool} {b:List Int} (h:A[id]?=some (.row 1 g (ak b))) (n:Nat):bb A (n+2) (.sl id 0 b.length)=true:=by
 simp only [bb,h,List.drop_zero,List.all_eq_true]
 intro x hx
 obtain ⟨y,_,rfl⟩:=List.mem_map.1 (List.mem_of_mem_take hx)
 rfl
theorem EH.fresh {A:aa} {op:Nat} {v:AV} {pl:List (Nat × List Int)} (h:EH A op v pl) (k:Nat):bb A (k+4) v=true:=by
 obtain ⟨h1,h2⟩:=h
 rcases h2 with ⟨rfl,rfl⟩ | ⟨id,gr,rfl,_,hne,hr⟩
 ·rfl
 ·rw [show k+4=(k+3)+1 from rfl]
  simp only [bb,hr,List.drop_zero]
  rw [List.all_eq_true]
  intro y hy
  obtain ⟨x,hx,rfl⟩:=List.mem_map.1 (List.mem_of_mem_take hy)
  obtain ⟨n1,n2⟩:=h1 x hx
  exact wi n2 (k+1)
def uY:List (FuncId × aG):=[(62,aD 4 M16),(63,H34 4)]
@[simp] theorem KJ:aC uY 62=some (aD 4 M16):=rfl
@[simp] theorem KF:aC uY 63=some (H34 4):=rfl
theorem nz:∀f M,aC uY f=some M->aj Try.prog GC f M:=af (aj.of_pure lr 4) (af (ny 4) az)
def M14:aP:=fun args=>evF (ax GC uY) 0 kC 4 args
theorem lu:cg Try.prog GC 43 M14:=cg.of_ev (E:=ax GC uY) (aw nz) rfl A8 kn 4 fun _ _ h=>⟨0,h⟩
theorem aV {T:aR} {chv:AV} (h:∀A n,frz A n chv=chv) (A:aa) (n:Nat):frz A (n+1) (au T chv)=au T chv:=by
 simp [au,frz,h,aL]
theorem cE {T:aR} {chv:AV} (h:∀n,bq n chv=true) (n:Nat):bq (n+1) (au T chv)=true:=by
 simp [au,bq,h]
theorem _root_.Go.Proofs.Ytkcjhljbgjpklaa.SlA.noRef {e:Nat} {xs:List AV} {a:AV} (h:SlA e xs a) (n:Nat):bq n a=true:=by
 rcases h with ⟨rfl,_⟩ | rfl <;> cases n <;> rfl
theorem lY {T:aR} {chv:AV} (hb:SlA 2 (T.ch.map chA) chv) (hl:T.ch.length<=200):M14 [au T chv]=some (lz (aH T)):=by
 have m:=qk hb hl
 have hlen:=hb.len
 rw [List.length_map] at hlen
 have ft:=fun A=>aV (T:=T) (fun A n=>hb.frz (A:=A) n) A 3
 have nr:=cE (T:=T) (fun n=>hb.noRef n) 3
 unfold M14 aH
 by_cases hv:a6 T
 ·rw [if_pos hv]
  rw [decide_eq_true hv] at m
  have hn4:=hv.2.2.2.1
  obtain ⟨A0,hA0⟩:∃X:aa,X=[.row 5 false [au T chv],.row 1 false [.int .i64 (T.ch.length:Int)],.row 1 false [.nilS],.row 1 false [lx 1 2 0 3],.row 1 false [.int .i64 0]]:=⟨_,rfl⟩
  have hX:X34 A0 1 2 0 3 T.ch.length T chv:=by rw [hA0]; exact ⟨rfl,rfl,rfl⟩
  have ho:js A0 2 []:=⟨.nilS,[],rfl,by rw [hA0]; rfl,fun _ h=>by simp at h,.inl ⟨rfl,rfl⟩⟩
  have hp:4 ^ T.ch.length<=4 ^ 4:=Nat.pow_le_pow_right (by omega) hn4
  obtain ⟨B,h1,⟨v,pl,h2,h3,h4⟩,h5⟩:=Mi (fun _ _ _=>none) (d:=4-T.ch.length) hn4 T.ch.length (A:=A0) (ll:=[]) (id:=4) (b:=[0]) (by simp; omega) (by simp) hX ho (by rw [hA0]; rfl) (by simp; omega)
  rw [show 4-T.ch.length+T.ch.length=4 by omega] at h1
  have lv:=gT h3 h4.form
  have hfz:=h4.frz 1
  have hfr:=h4.fresh 0
  rw [h2,List.nil_append] at hfz
  have h1:H34 4 (fun _ _ _=>none) [.sl 4 0 1,.ptr 1 0 0,.ptr 2 0 0,.ptr 0 0 0,.ptr 3 0 0] A0=some (.tup [],B):=h1
  rw [jk _ _ rfl]
  obtain ⟨ch,pk,pl2,tr,bd⟩:=T
  simp only at hlen h1 hA0 m ft hfz
  rw [show ∀c,au ⟨ch,pk,pl2,tr,bd⟩ c=.agg [c,.int .i64 pk,.int .i64 pl2,.int .i64 tr,.int .i64 bd] from fun _=>rfl] at hA0 ft m
  rw [show ∀c,au ⟨ch,pk,pl2,tr,bd⟩ c=.agg [c,.int .i64 pk,.int .i64 pl2,.int .i64 tr,.int .i64 bd] from fun _=>rfl]
  have lt:ac true 5 [Ent.row 5 false [.agg [chv,.int .i64 pk,.int .i64 pl2,.int .i64 tr,.int .i64 bd]]] (.ptr 0 0 0)=some (.agg [chv,.int .i64 pk,.int .i64 pl2,.int .i64 tr,.int .i64 bd]):=rfl
  have le:∀k,ac false 1 [Ent.row 5 false [.agg [chv,.int .i64 pk,.int .i64 pl2,.int .i64 tr,.int .i64 bd]],.row 1 false [.int .i64 k],.row 1 false [.nilS],.row 1 false [.func (.func 63) [] [.ptr 1 0 0,.ptr 2 0 0,.ptr 0 0 0,.ptr 3 0 0]]] (.ptr 3 0 0)=some (.func (.func 63) [] [.ptr 1 0 0,.ptr 2 0 0,.ptr 0 0 0,.ptr 3 0 0]):=fun k=>rfl
  have lc:ac false 1 [Ent.row 5 false [.agg [chv,.int .i64 pk,.int .i64 pl2,.int .i64 tr,.int .i64 bd]]] (.ptr 0 0 0)=some chv:=rfl
  obtain ⟨k,hk⟩:∃k,k=(ch.length:Int):=⟨_,rfl⟩
  rw [<-hk] at hlen hA0
  obtain ⟨R,hR⟩:∃R,R=lz (ext ch.length (decide (bd=1)) (ch.length+1) [0]):=⟨_,rfl⟩
  rw [<-hR] at hfz ⊢
  unfold lx at hA0
  rw [hA0] at h1
  simp [kC,m,ft,hlen,h1,lv,hfz,hfr,lc,lt,le,-frz,-an,-ac]
 ·rw [if_neg hv]
  rw [decide_eq_false hv] at m
  rw [jk _ _ rfl]
  obtain ⟨ch,pk,pl2,tr,bd⟩:=T
  rw [show ∀c,au ⟨ch,pk,pl2,tr,bd⟩ c=.agg [c,.int .i64 pk,.int .i64 pl2,.int .i64 tr,.int .i64 bd] from fun _=>rfl] at ft m
  rw [show ∀c,au ⟨ch,pk,pl2,tr,bd⟩ c=.agg [c,.int .i64 pk,.int .i64 pl2,.int .i64 tr,.int .i64 bd] from fun _=>rfl]
  simp [kC,m,ft,bb,-frz]
  rfl
def Ig:List (FuncId × aG):=[(68,aD 4 M43)]
@[simp] theorem Jt:aC Ig 68=some (aD 4 M43):=rfl
theorem De:∀f M,aC Ig f=some M->aj Try.prog GC f M:=af (aj.of_pure Fs 4) az
def M42:aP:=fun args=>evP (ax GC Ig) 0 xw 1 args
theorem pG:aq Try.prog GC 67 M42:=aq.of_ev (E:=ax GC Ig) (aw De) rfl Hk sq 1 fun _ _ h=>⟨0,h⟩
theorem vF {xs ys:List Int} {a b:AV} (ha:SlA 1 (ak xs) a) (hb:SlA 1 (ak ys) b) (hl:xs.length<=200):M42 [a,.fp [b]]=some (.bool (decide (xs=ys))):=by
 have m:=vE ha hb hl
 have f1:∀A n,frz A n a=a:=fun A n=>ha.frz n
 have f2:∀A n,frz A n b=b:=fun A n=>hb.frz n
 have l1:∀A,ac false 1 A (.fp [b])=some b:=fun A=>rfl
 obtain ⟨d,hd⟩:∃d,d=decide (xs=ys):=⟨_,rfl⟩
 rw [<-hd] at m ⊢
 unfold M42
 rw [aI _ _ rfl]
 simp [xw,m,f1,f2,l1,bc,-frz,-ac]
def BU:List (FuncId × aG):=[(67,aD 4 M42)]
@[simp] theorem Jb:aC BU 67=some (aD 4 M42):=rfl
theorem C3:∀f M,aC BU f=some M->aj Try.prog GC f M:=af (aj.of_pure pG 4) az
def M66:aP:=fun args=>evP (ax GC BU) 300 H6 1 args
theorem Fg:aq Try.prog GC 85 M66:=aq.of_ev (E:=ax GC BU) (aw C3) rfl at66 GP 1 fun _ _ h=>⟨300,h⟩
def isO (o l:List Int):Bool:=decide (l=o)
def fnO (ov:AV):AV:=.func (.func 67) [] [.fp [ov]]
theorem HF {ll:List (List Int)} {o:List Int} {ov:AV} (ho:SlA 1 (ak o) ov) (hl:ll.length<=256) (hl2:∀l∈ll,l.length<=200):M66 [lz ll,fnO ov]=some (.int .i64 (db (isO o) ll)):=by
 have hb:=bg 1 (ll.map fun l=>slA 1 (ak l))
 rw [show slA 1 (ll.map fun l=>slA 1 (ak l))=lz ll from rfl] at hb
 obtain ⟨b,hbv⟩:∃b,b=lz ll:=⟨_,rfl⟩
 rw [<-hbv] at hb ⊢
 have hlen:=hb.len
 rw [List.length_map] at hlen
 have round:∀(A:aa) (i:Nat) (hi:i<ll.length),run (ax GC BU) 300 [.code iI] (kU b (fnO ov) (.int .i64 (ll.length:Int)) (.int .i64 (i:Int))) A =
   if isO o ll[i]=false then some (.normal (kU b (fnO ov) (.int .i64 (ll.length:Int)) (.int .i64 ((i+1:Nat):Int))) A) else some (.ret [b,fnO ov,.int .i64 (i:Int),.int .i64 (i:Int),.int .i64 (ll.length:Int),.int .i64 (i:Int),.bool true,.bool true] A):=fun A i hi=>by
  have he:(ll.map fun l=>slA 1 (ak l))[i]?=some (slA 1 (ak ll[i])):=by simp [hi]
  have hs:=bg 1 (ak ll[i])
  have x1:=hb.index1 (A:=A) he (by rcases hs with ⟨h,_⟩ | h <;> rw [h] <;> rfl) (by rcases hs with ⟨h,_⟩ | h <;> rw [h] <;> rfl) .i64
  have ld:ac false 1 A (.fp [slA 1 (ak ll[i])])=some (slA 1 (ak ll[i])):=by rcases hs with ⟨h,_⟩ | h <;> rw [h] <;> rfl
  have m:=vF hs ho (hl2 _ (List.getElem_mem hi))
  have b1:=br i ll.length .i64
  rw [decide_eq_true hi] at b1
  have b3:=a9 i (by omega)
  have fz:∀A,frz A 4 (slA 1 (ak ll[i]))=slA 1 (ak ll[i]):=fun A=>hs.frz 4
  have fz2:∀A,frz A 4 (.fp [ov])=.fp [ov]:=fun A=>rfl
  obtain ⟨i1,hi1⟩:∃i1:Nat,i1=i+1:=⟨_,rfl⟩
  rw [<-hi1] at b3 ⊢
  obtain ⟨d,hd⟩:∃d,d=isO o ll[i]:=⟨_,rfl⟩
  rw [show decide (ll[i]=o)=d from hd.symm] at m
  rw [<-hd]
  obtain ⟨c,hc⟩:∃c,c=slA 1 (ak ll[i]):=⟨_,rfl⟩
  rw [<-hc] at m ld fz x1
  cases d with
  | false=>simp [iI,fnO,x1,ld,m,fz,fz2,b1,b3,-frz,-ag,-ai,-an,-ac]
  | true=>simp [iI,fnO,x1,ld,m,fz,fz2,b1,-frz,-ag,-ai,-an,-ac]
 unfold M66
 rw [aI _ _ rfl]
 rcases cP (E:=ax GC BU) (fuel:=300) (a:=iI) (mask:=gW) (fun i=>kU b (fnO ov) (.int .i64 (ll.length:Int)) (.int .i64 (i:Int))) (fun _=>[]) ll.length (fun i=>¬ ∀hi:i<ll.length,isO o ll[i]=false)
  (oF:=fun i=>.ret [b,fnO ov,.int .i64 (i:Int),.int .i64 (i:Int),.int .i64 (ll.length:Int),.int .i64 (i:Int),.bool true,.bool true] []) (oE:=.exit 0 ((kU b (fnO ov) (.int .i64 (ll.length:Int)) (.int .i64 (ll.length:Int))).set 6 (.bool false)) [])
  (fun _=>Cc) (fun _ _ _ h=>by cases h) (fun _ _ h=>by cases h)
  (fun i hi hp=>by
   rw [round [] i hi]
   exact if_pos (Classical.not_not.1 hp hi))
  (fun i hi hp=>by
   rw [round [] i hi]
   exact if_neg fun h=>hp fun _=>h)
  (by simp [iI]) (show ll.length<300 by omega) with ⟨i,hi,hp,hj,lp⟩ | ⟨hp,lp⟩
 ·have lp:b8 (evC (ax GC BU) 300 iI) gW 300 (kU b (fnO ov) (.int .i64 (ll.length:Int)) (.int .i64 0)) []=_:=lp
  have e:db (isO o) ll=(i:Int):=bL hi (by
   cases h':isO o ll[i] with
   | true=>rfl
   | false=>exact absurd (fun _=>h') hp) (fun j hj'=>Classical.not_not.1 (hj j hj') (by omega))
  rw [e]
  simp [H6,hlen,BI lp,-ag,-an]
 ·have lp:b8 (evC (ax GC BU) 300 iI) gW 300 (kU b (fnO ov) (.int .i64 (ll.length:Int)) (.int .i64 0)) []=_:=lp
  have e:db (isO o) ll = -1:=bO fun i hi=>Classical.not_not.1 (hp i hi) hi
  rw [e]
  simp [H6,hlen,BI lp,-ag,-an]
def Ih:List (FuncId × aG):=[(85,aD 4 M66)]
@[simp] theorem Ju:aC Ih 85=some (aD 4 M66):=rfl
theorem Df:∀f M,aC Ih f=some M->aj Try.prog GC f M:=af (aj.of_pure Fg 4) az
def M41:aP:=fun args=>evP (ax GC Ih) 0 xx 1 args
theorem nv:aq Try.prog GC 66 M41:=aq.of_ev (E:=ax GC Ih) (aw Df) rfl Hl sr 1 fun _ _ h=>⟨0,h⟩
theorem EA (o:List Int) (ll:List (List Int)):ll.any (isO o)=decide (o∈ll):=by
 rw [Bool.eq_iff_iff,List.any_eq_true,decide_eq_true_eq]
 unfold isO
 constructor
 ·rintro ⟨x,hx,h⟩
  rw [<-of_decide_eq_true h]; exact hx
 ·exact fun h=>⟨o,h,by simp⟩
theorem vG {ll:List (List Int)} {o:List Int} {ov:AV} (ho:SlA 1 (ak o) ov) (hl:ll.length<=256) (hl2:∀l∈ll,l.length<=200):M41 [lz ll,fnO ov]=some (.bool (decide (o∈ll))):=by
 have h:=HF ho hl hl2
 have b1:=iq (db (isO o) ll)
 rw [cq,EA] at b1
 have f1:∀A n,frz A n (lz ll)=lz ll:=fun A n=>(bg 1 _).frz n
 have f2:∀A,frz A 4 (fnO ov)=fnO ov:=fun A=>rfl
 obtain ⟨z,hz⟩:∃z,z=db (isO o) ll:=⟨_,rfl⟩
 rw [<-hz] at h b1
 obtain ⟨d,hd⟩:∃d,d=decide (o∈ll):=⟨_,rfl⟩
 rw [<-hd] at b1 ⊢
 obtain ⟨b,hbv⟩:∃b,b=lz ll:=⟨_,rfl⟩
 rw [<-hbv] at h f1 ⊢
 unfold M41
 rw [aI _ _ rfl]
 simp [xx,h,b1,f1,f2,bc,-ag,-frz]
end Clu
namespace Clu
open Go
open Cy (GC iq db bL bO cq aL bc aB a7 cK cy cz dP okA)
section
variable {A:aa} {es:List AV} {k:Nat}
theorem pB (_hk:es.length=k) {j:Nat} (hj:j<k):ab j (A++[.row k false [.agg es]]) (.ptr A.length 0 0)=some (.ptr A.length 0 j):=by
 simp [ab,hj]
theorem rp (_hk:es.length=k) {j:Nat} {x:AV} (hx:es[j]?=some x):ac false 1 (A++[.row k false [.agg es]]) (.ptr A.length 0 j)=some x:=by
 simp [ac,bP,hx]
theorem CR (_hk:es.length=k) (_hk1:k≠1):ac true k (A++[.row k false [.agg es]]) (.ptr A.length 0 0)=some (.agg es):=by
 simp [ac,rN]
theorem wP (hk:es.length=k) (hk1:1<k) {j:Nat} (hj:j<k) {x:AV} (hs:x.solid=true) (hc:cellsOf x=[x]):aA 1 (A++[.row k false [.agg es]]) (.ptr A.length 0 j) x=some (A++[.row k false [.agg (es.set j x)]]):=by
 have e:es.take j++[x]++es.drop (j+1)=es.set j x:=by
  rw [List.set_eq_take_append_cons_drop,if_pos (by omega)]; simp
 have e1:bj (.agg es) k j x=some (.agg (es.set j x)):=by
  unfold bj
  rw [hc,if_neg (by simp; omega)]
  simp only [List.length_singleton]
  rw [if_pos ⟨hk,by omega⟩,e]
 simp only [aA,List.getElem?_concat_length,List.getElem?_cons_zero]
 rw [if_pos ⟨trivial,hs,by rw [hc]; rfl,by omega⟩,e1]
 simp
end
@[simp] theorem pT (A:aa) (x:AV):ac false 1 A (.fp [x])=some x:=rfl
@[simp] theorem LX (A:aa) (x y:AV) (r:List AV):ac true (r.length+2) A (.fp (x :: y :: r))=some (.agg (x :: y :: r)):=by simp [ac]
@[simp] theorem iT (A:aa) (x y:AV):ac true 2 A (.fp [x,y])=some (.agg [x,y]):=rfl
def M46:aP:=fun args=>evP (ax GC []) 0 DX 4 args
theorem wV:aq Try.prog GC 71 M46:=aq.of_ev (E:=ax GC []) (aw az) rfl K9 yo 4 fun _ _ h=>⟨0,h⟩
def wa:AV:=.agg [.nilF,.func (.func 86) [] [],.func (.func 87) [] []]
theorem zC:M46 []=some wa:=by
 have s:dX 3 [.row 1 false [.nilF,.nilF,.nilF]] (.ptr 0 0 0) wa=some [.row 1 false [.nilF,.func (.func 86) [] [],.func (.func 87) [] []]]:=by
  simp [dX,wa,AV.solid,cellsOf]
 unfold M46
 rw [aI _ _ rfl]
 unfold wa at s
 simp [DX,wa,s,AV.solid,cellsOf]
def Id:List (FuncId × aG):=[(49,aD 4 M64)]
@[simp] theorem Ja:aC Id 49=some (aD 4 M64):=rfl
theorem C2:∀f M,aC Id f=some M->aj Try.prog GC f M:=af (aj.of_pure uu 4) az
def M67:aP:=fun args=>evP (ax GC Id) 0 H5 4 args
theorem Ff:aq Try.prog GC 86 M67:=aq.of_ev (E:=ax GC Id) (aw C2) rfl at67 GO 4 fun _ _ h=>⟨0,h⟩
def lkA (a b c:Int):AV:=.agg [.int .i64 a,.int .i64 b,.int .i64 c]
theorem HE {o:List Int} {ov:AV} (ho:SlA 1 (ak o) ov) (hl:o.length<=200) {j:Int} (hj : -1000<=j/\j<=1000):M67 [ov,.int .i64 j]=some (lkA (j-1) j (if db (isI j) o<db (isI (j-1)) o then 1 else 0)):=by
 have m1:=qi ho hl j
 have m2:=qi ho hl (j-1)
 have f1:∀A n,frz A n ov=ov:=fun A n=>ho.frz n
 have b1:=cc (a:=j) (b:=1) (by omega)
 have b2:=ce (db (isI j) o) (db (isI (j-1)) o)
 obtain ⟨j1,hj1⟩:∃x,x=j-1:=⟨_,rfl⟩
 rw [<-hj1] at m2 b1 b2 ⊢
 obtain ⟨x,hx⟩:∃x,x=db (isI j) o:=⟨_,rfl⟩
 obtain ⟨y,hy⟩:∃x,x=db (isI j1) o:=⟨_,rfl⟩
 rw [<-hx] at m1 b2 ⊢
 rw [<-hy] at m2 b2 ⊢
 unfold M67
 rw [aI _ _ rfl]
 by_cases h:x<y
 ·rw [decide_eq_true h] at b2
  rw [if_pos h]
  simp [H5,m1,m2,f1,b1,b2,lkA,aL,-ag,-frz]
  simp [frz]
 ·rw [decide_eq_false h] at b2
  rw [if_neg h]
  simp [H5,m1,m2,f1,b1,b2,lkA,aL,-ag,-frz]
  simp [frz]
def M68:aP:=fun args=>evP (ax GC []) 0 IP 4 args
theorem Fe:aq Try.prog GC 87 M68:=aq.of_ev (E:=ax GC []) (aw az) rfl at68 GN 4 fun _ _ h=>⟨0,h⟩
theorem HD (ov:AV) (j:Int):M68 [ov,.int .i64 j]=some (lkA j j 1):=by
 unfold M68
 rw [aI _ _ rfl]
 simp [IP,lkA]
def H45:aG:=fun _=>bV (ax GC []) 0 wz
theorem wW:aj Try.prog GC 70 H45:=(bS (aw az) rfl It vq bh.nil).y
def GAt (A:aa) (g:Nat) (l:List a7):Prop:=∃v,A[g]?=some (.row 1 false [v])/\((v=.nilS/\l=[])\/∃id gr,v=.sl id 0 l.length/\l≠[]/\g<id/\A[id]?=some (.row 4 gr (l.map cK)))
theorem GAt.app {A:aa} {g:Nat} {l:List a7} (h:GAt A g l) (X:aa):GAt (A++X) g l:=by
 obtain ⟨v,h1,h2⟩:=h
 have hk:∀(j:Nat) (e:Ent),A[j]?=some e->(A++X)[j]?=some e:=fun j e h=>by
  rw [List.getElem?_append_left (List.getElem?_eq_some_iff.1 h).1]; exact h
 refine ⟨v,hk _ _ h1,?_⟩
 rcases h2 with h2 | ⟨id,gr,e1,e2,e3,e4⟩
 ·exact .inl h2
 ·exact .inr ⟨id,gr,e1,e2,e3,hk _ _ e4⟩
theorem CF (h:aT) {A:aa} {g:Nat} {l:List a7} (hg:GAt A g l) {xs:List a7} (hx:xs≠[]) (hb:l.length+xs.length<=1000) :
  ∃B,H45 h [.ptr g 0 0,.fs 4 (xs.map cK)] A=some (.tup [],B)/\GAt B g (l++xs)/\A.length<=B.length/\∀j,j<g->B[j]?=A[j]?:=by
 obtain ⟨v,h1,h2⟩:=hg
 have hgl:=(List.getElem?_eq_some_iff.1 h1).1
 have hxl:0<xs.length:=List.length_pos_iff.2 hx
 have hxm:xs.map cK≠[]:=fun e=>hx (List.map_eq_nil_iff.1 e)
 rcases h2 with ⟨rfl,rfl⟩ | ⟨id,gr,rfl,hl,hid,hr⟩
 ·have e1:aM 4 32 A .nilS (.fs 4 (xs.map cK))=some (.sl A.length 0 xs.length,A++[.row 4 false (xs.map cK)]):=by
   simp only [aM,cX,List.length_map]
   rw [if_neg (by omega),if_pos ⟨by omega,by omega,by simp at hb; omega⟩]
  have l1:ac false 1 A (.ptr g 0 0)=some .nilS:=gT h1 (.inl rfl)
  have h1':(A++[Ent.row 4 false (xs.map cK)])[g]?=some (.row 1 false [.nilS]):=by rw [List.getElem?_append_left hgl]; exact h1
  obtain ⟨A1,hA1⟩:∃X,X=A++[Ent.row 4 false (xs.map cK)]:=⟨_,rfl⟩
  have s1:aA 1 A1 (.ptr g 0 0) (.sl A.length 0 xs.length)=some (A1.set g (.row 1 false [.sl A.length 0 xs.length])):=by
   rw [<-hA1] at h1'
   simp [h1']
  refine ⟨A1.set g (.row 1 false [.sl A.length 0 xs.length]),?_,⟨.sl A.length 0 xs.length,by rw [hA1,List.getElem?_set_self (by simp; omega)],.inr ⟨A.length,false,rfl,hx,hgl,?_⟩⟩,by rw [hA1]; simp,fun j hj=>?_⟩
  ·rw [<-hA1] at e1
   unfold H45
   rw [a8 _ _ rfl]
   simp [wz,l1,e1,s1,-ac,-aA]
  ·rw [hA1,List.getElem?_set_ne (by omega)]
   simp
  ·rw [hA1,List.getElem?_set_ne (by omega),List.getElem?_append_left (by omega)]
 ·have hlz:l.length≠0:=fun e=>hl (List.length_eq_zero_iff.1 e)
  have hidl:=(List.getElem?_eq_some_iff.1 hr).1
  have e1:aM 4 32 A (.sl id 0 l.length) (.fs 4 (xs.map cK))=some (.sl id 0 (l.length+xs.length),A.set id (.row 4 true (l.map cK++xs.map cK))):=by
   simp only [aM,cX,List.length_map,hr]
   rw [if_pos ⟨trivial,by omega,by omega,by omega⟩,if_pos ⟨trivial,trivial,hlz⟩]
  have l1:ac false 1 A (.ptr g 0 0)=some (.sl id 0 l.length):=gT h1 (.inr ⟨_,_,_,rfl⟩)
  obtain ⟨A1,hA1⟩:∃X,X=A.set id (Ent.row 4 true (l.map cK++xs.map cK)):=⟨_,rfl⟩
  have h1':A1[g]?=some (.row 1 false [.sl id 0 l.length]):=by rw [hA1,List.getElem?_set_ne (by omega)]; exact h1
  have s1:aA 1 A1 (.ptr g 0 0) (.sl id 0 (l.length+xs.length))=some (A1.set g (.row 1 false [.sl id 0 (l.length+xs.length)])):=by
   simp [h1']
  refine ⟨A1.set g (.row 1 false [.sl id 0 (l.length+xs.length)]),?_,⟨.sl id 0 (l.length+xs.length),by rw [hA1,List.getElem?_set_self (by simpa using hgl)],.inr ⟨id,true,by simp,by simp [hl],hid,?_⟩⟩,by rw [hA1]; simp,fun j hj=>?_⟩
  ·rw [<-hA1] at e1
   unfold H45
   rw [a8 _ _ rfl]
   simp [wz,l1,e1,s1,-ac,-aA]
  ·rw [hA1,List.getElem?_set_ne (by omega),List.getElem?_set_self hidl]
   simp
  ·rw [hA1,List.getElem?_set_ne (by omega),List.getElem?_set_ne (by omega)]
theorem GAt.frz {A:aa} {g:Nat} {l:List a7} (h:GAt A g l):∃v,ac false 1 A (.ptr g 0 0)=some v/\(∀k,Proofs.Ytkcjhljbgjpklaa.frz A (k+3) v=slA 4 (l.map cK))/\∀k,bb A (k+3) v=true:=by
 obtain ⟨v,h1,h2⟩:=h
 rcases h2 with ⟨rfl,rfl⟩ | ⟨id,gr,rfl,hl,hid,hr⟩
 ·exact ⟨.nilS,gT h1 (.inl rfl),fun k=>rfl,fun k=>rfl⟩
 ·have e:((l.map cK).drop 0).take l.length=l.map cK:=by
   rw [List.drop_zero]
   conv=>lhs; rw [show l.length=(l.map cK).length by simp]
   rw [List.take_length]
  refine ⟨_,gT h1 (.inr ⟨_,_,_,rfl⟩),fun k=>?_,fun k=>?_⟩
  ·have hm:(l.map cK).map (Proofs.Ytkcjhljbgjpklaa.frz A (k+2))=l.map cK:=by
    rw [List.map_map]
    exact List.map_congr_left fun x _=>by simp [cK,Proofs.Ytkcjhljbgjpklaa.frz]
   rw [show k+3=(k+2)+1 from rfl]
   simp only [Proofs.Ytkcjhljbgjpklaa.frz,hr]
   rw [e,hm]
   cases l with
   | nil=>exact absurd rfl hl
   | cons x r=>rfl
  ·rw [show k+3=(k+2)+1 from rfl]
   simp only [bb,hr]
   rw [e,List.all_eq_true]
   intro y hy
   obtain ⟨x,_,rfl⟩:=List.mem_map.1 hy
   simp [cK,bb]
end Clu
namespace Clu
open Go
open Cy (GC iq db bL bO cq aL bc aB a7 cK cy cz dP okA)
def qA (o:List Int) (i:Nat):Int:=if i+1<o.length then o.getD (i+1) 0 else 0
def wx (T:aR) (o:List Int) (i:Nat):a7:=
 ⟨o.getD i 0,qA o i,eF T+(if T.blades=2\/qA o i≠o.getD i 0+1 then T.travel else 0),if i+1<o.length then 0 else 1⟩
def lkT (T:aR) (o:List Int) (j:Int):Int × Int × Int:=if T.blades=2 then (j,j,1) else (j-1,j,if db (isI j) o<db (isI (j-1)) o then 1 else 0)
def ub (T:aR) (o:List Int) (i:Nat):List a7:=
 [⟨(lkT T o (i+1)).1,(lkT T o (i+1)).2.1,eF T+(T.ch.getD i (0,0)).1,(lkT T o (i+1)).2.2⟩,
  ⟨(lkT T o (i+1)).2.1,(lkT T o (i+1)).1,-(eF T+(T.ch.getD i (0,0)).1+(T.ch.getD i (0,0)).2),-(lkT T o (i+1)).2.2⟩]
def bu (T:aR) (o:List Int):List a7:=(List.range o.length).map (wx T o)++(List.range T.ch.length).flatMap (ub T o)
def A9 (T:aR) (o:List Int):Option (List a7):=if o∈aH T then some (bu T o) else none
theorem x8 (n:Nat) (one:Bool):∀(k:Nat) (b l:List Int),l∈ext n one k b->l.length=n+1/\∃r,l=b++r/\(∀x∈r,1<=x/\x<=n)/\(b.Nodup->l.Nodup)
 | 0,b,l,h=>by simp [ext] at h
 | k+1,b,l,h=>by
  unfold ext at h
  split at h
  ·rename_i hb
   simp only [List.mem_singleton] at h
   subst h
   exact ⟨hb,[],by simp,by simp,id⟩
  ·rw [List.mem_flatMap] at h
   obtain ⟨i,hi,h⟩:=h
   rw [List.mem_range'_1] at hi
   split at h
   ·rename_i hc
    obtain ⟨h1,r,rfl,h3,h4⟩:=x8 n one k _ _ h
    simp only [Bool.and_eq_true,Bool.not_eq_true',decide_eq_false_iff_not] at hc
    refine ⟨h1,(i:Int) :: r,by simp,fun x hx=>?_,fun hn=>h4 ?_⟩
    ·rcases List.mem_cons.1 hx with rfl | hx
     ·omega
     ·exact h3 x hx
    ·rw [List.nodup_append]
     refine ⟨hn,by simp,fun a ha b hb e=>?_⟩
     rw [List.mem_singleton] at hb
     subst hb; subst e
     exact hc.1 ha
   ·cases h
theorem cD {T:aR} {o:List Int} (h:o∈aH T):a6 T/\o.length=T.ch.length+1/\(∃r,o=0 :: r/\∀x∈r,1<=x/\x<=T.ch.length)/\o.Nodup:=by
 unfold aH at h
 split at h
 ·rename_i hv
  obtain ⟨h1,r,h2,h3,h4⟩:=x8 _ _ _ _ _ h
  exact ⟨hv,h1,⟨r,h2,h3⟩,h4 (by simp)⟩
 ·cases h
theorem gA {T:aR} {o:List Int} (h:o∈aH T):∀x∈o,0<=x/\x<=T.ch.length:=by
 obtain ⟨_,_,⟨r,rfl,h2⟩,_⟩:=cD h
 intro x hx
 rcases List.mem_cons.1 hx with rfl | hx
 ·omega
 ·have:=h2 x hx; omega
theorem gU (T:aR):(aH T).length<=256:=by
 unfold aH
 split
 ·rename_i hv
  have hn:=hv.2.2.2.1
  rcases tX T.ch.length (decide (T.blades=1)) hn T.ch.length [0] with h | h
  ·exact Nat.le_trans h (Nat.le_trans (Nat.pow_le_pow_right (by omega) hn) (by omega))
  ·simp at h; omega
 ·simp
theorem qn {T:aR} (h:a6 T):0<=eF T/\eF T<=30000:=by
 obtain ⟨_,⟨h1,h2,h3⟩,_⟩:=h
 unfold eF
 split <;> omega
theorem dA {a:Int} (h : -9223372036854775807<=a/\a<=9223372036854775807):r9 .neg (.int .i64 a)=some (.int .i64 (-a)):=by
 simp only [r9]
 rw [show (0:Int)-a = -a by omega,dY (by unfold inI; omega)]
def mP:List (FuncId × aG):=[(43,cI 4 M14),(66,aD 4 M41),(69,aD 4 M44),(71,aD 4 M46),(86,aD 4 M67),(87,aD 4 M68),(70,H45)]
@[simp] theorem Kt:aC mP 43=some (cI 4 M14):=rfl
@[simp] theorem Ko:aC mP 66=some (aD 4 M41):=rfl
@[simp] theorem Kn:aC mP 69=some (aD 4 M44):=rfl
@[simp] theorem Kl:aC mP 71=some (aD 4 M46):=rfl
@[simp] theorem Kk:aC mP 86=some (aD 4 M67):=rfl
@[simp] theorem Kj:aC mP 87=some (aD 4 M68):=rfl
@[simp] theorem Km:aC mP 70=some H45:=rfl
theorem te:∀f M,aC mP f=some M->aj Try.prog GC f M:=af (aj.of_pureF lu 4) (af (aj.of_pure nv 4) (af (aj.of_pure wX 4) (af (aj.of_pure wV 4) (af (aj.of_pure Ff 4) (af (aj.of_pure Fe 4) (af wW az))))))
structure I19 (A:aa) (T:aR) (chv ov:AV) (l:List a7):Prop where
 t:A[0]?=some (.row 5 false [au T chv])
 o:A[1]?=some (.row 1 false [ov])
 g:GAt A 2 l
theorem Al {T:aR} {chv ov:AV} {o:List Int} (hO:o∈aH T) (ho:SlA 1 (ak o) ov) {A:aa} {l:List a7} (hI:I19 A T chv ov l) (hl:l.length<=100) {i:Nat} (hi:i<o.length) :
  ∃B,run (ax GC mP) 300 [.code fK] (nq (.ptr 0 0 0) (.ptr 1 0 0) (.int .i64 (eF T)) (.ptr 2 0 0) ov (.int .i64 (o.length:Int)) (.int .i64 (i:Int))) A =
   some (.normal (nq (.ptr 0 0 0) (.ptr 1 0 0) (.int .i64 (eF T)) (.ptr 2 0 0) ov (.int .i64 (o.length:Int)) (.int .i64 ((i+1:Nat):Int))) B)/\I19 B T chv ov (l++[wx T o i]):=by
 obtain ⟨hv,hol,_,_⟩:=cD hO
 have hbd:=gA hO
 have hw:=qn hv
 have hch:=hv.2.2.2.1
 have htr:=hv.2.1.2.2
 obtain ⟨ht,h1,hg⟩:=hI
 have ht0:=(List.getElem?_eq_some_iff.1 ht).1
 have h10:=(List.getElem?_eq_some_iff.1 h1).1
 have hlen:=ho.len
 rw [aB] at hlen
 have x1:=fun A=>ho.int (A:=A) _ _ (List.getElem?_eq_getElem hi) .i64
 have ho1:o[i]=o.getD i 0:=by rw [List.getD_eq_getElem?_getD,List.getElem?_eq_getElem hi]; rfl
 have hb1:=hbd o[i] (List.getElem_mem hi)
 obtain ⟨t0,htt⟩:∃t,t=o.getD i 0:=⟨_,rfl⟩
 rw [ho1,<-htt] at x1 hb1
 obtain ⟨w,hww⟩:∃w,w=eF T:=⟨_,rfl⟩
 have ov0:∀X,ac false 1 (A++X) (.ptr 1 0 0)=some ov:=fun X=>by
  have h:(A++X)[1]?=some (.row 1 false [ov]):=by rw [List.getElem?_append_left h10]; exact h1
  rcases ho with ⟨rfl,_⟩ | rfl <;> simp [h]
 obtain ⟨ch,pk,pl,tr,bd⟩:=T
 have ht:A[0]?=some (.row 5 false [.agg [chv,.int .i64 pk,.int .i64 pl,.int .i64 tr,.int .i64 bd]]):=ht
 have tl:∀X,(A++X)[0]?=some (.row 5 false [.agg [chv,.int .i64 pk,.int .i64 pl,.int .i64 tr,.int .i64 bd]]):=fun X=>by rw [List.getElem?_append_left ht0]; exact ht
 have t3:∀X,ab 3 (A++X) (.ptr 0 0 0)=some (.ptr 0 0 3):=fun X=>by simp [ab,tl X]
 have t4:∀X,ab 4 (A++X) (.ptr 0 0 0)=some (.ptr 0 0 4):=fun X=>by simp [ab,tl X]
 have l3:∀X,ac false 1 (A++X) (.ptr 0 0 3)=some (.int .i64 tr):=fun X=>by simp [ac,tl X,bP]
 have l4:∀X,ac false 1 (A++X) (.ptr 0 0 4)=some (.int .i64 bd):=fun X=>by simp [ac,tl X,bP]
 have a1:∀a b c d,ab 1 (A++[.row 4 false [.agg [a,b,c,d]]]) (.ptr A.length 0 0)=some (.ptr A.length 0 1):=fun a b c d=>pB (es:=[a,b,c,d]) (k:=4) rfl (by omega)
 have a2:∀a b c d,ab 2 (A++[.row 4 false [.agg [a,b,c,d]]]) (.ptr A.length 0 0)=some (.ptr A.length 0 2):=fun a b c d=>pB (es:=[a,b,c,d]) (k:=4) rfl (by omega)
 have a3:∀a b c d,ab 3 (A++[.row 4 false [.agg [a,b,c,d]]]) (.ptr A.length 0 0)=some (.ptr A.length 0 3):=fun a b c d=>pB (es:=[a,b,c,d]) (k:=4) rfl (by omega)
 have r1:∀a b c d,ac false 1 (A++[.row 4 false [.agg [a,b,c,d]]]) (.ptr A.length 0 1)=some b:=fun a b c d=>rp (es:=[a,b,c,d]) (k:=4) rfl rfl
 have r2:∀a b c d,ac false 1 (A++[.row 4 false [.agg [a,b,c,d]]]) (.ptr A.length 0 2)=some c:=fun a b c d=>rp (es:=[a,b,c,d]) (k:=4) rfl rfl
 have r4:∀a b c d,ac true 4 (A++[.row 4 false [.agg [a,b,c,d]]]) (.ptr A.length 0 0)=some (.agg [a,b,c,d]):=fun a b c d=>CR (es:=[a,b,c,d]) (k:=4) rfl (by omega)
 have s1:∀a b c d z,aA 1 (A++[.row 4 false [.agg [a,b,c,d]]]) (.ptr A.length 0 1) (.int .i64 z)=some (A++[.row 4 false [.agg [a,.int .i64 z,c,d]]]):=fun a b c d z=>wP (es:=[a,b,c,d]) (k:=4) rfl (by omega) (by omega) rfl rfl
 have s2:∀a b c d z,aA 1 (A++[.row 4 false [.agg [a,b,c,d]]]) (.ptr A.length 0 2) (.int .i64 z)=some (A++[.row 4 false [.agg [a,b,.int .i64 z,d]]]):=fun a b c d z=>wP (es:=[a,b,c,d]) (k:=4) rfl (by omega) (by omega) rfl rfl
 have s3:∀a b c d z,aA 1 (A++[.row 4 false [.agg [a,b,c,d]]]) (.ptr A.length 0 3) (.int .i64 z)=some (A++[.row 4 false [.agg [a,b,c,.int .i64 z]]]):=fun a b c d z=>wP (es:=[a,b,c,d]) (k:=4) rfl (by omega) (by omega) rfl rfl
 have sA:∀a b c d x y z u,aA 4 (A++[.row 4 false [.agg [a,b,c,d]]]) (.ptr A.length 0 0) (.agg [.int .i64 x,.int .i64 y,.int .i64 z,.int .i64 u])=some (A++[.row 4 false [.agg [.int .i64 x,.int .i64 y,.int .i64 z,.int .i64 u]]]):=fun a b c d x y z u=>by simp [aA,bj]
 have b0:=br i o.length .i64
 rw [decide_eq_true hi] at b0
 have b1:=a9 i (by omega)
 have b2:=br (i+1) o.length .i64
 have b3:ag .eql (.int .i64 bd) (.int .i64 2)=some (.bool (decide (bd=2))):=bz _ _
 have b4:ag .add (.int .i64 t0) (.int .i64 1)=some (.int .i64 (t0+1)):=aS (by simp only at hch hb1; omega)
 have b6:ag .add (.int .i64 w) (.int .i64 tr)=some (.int .i64 (w+tr)):=aS (by simp only at htr; omega)
 obtain ⟨nx,hnx⟩:∃x,x=qA o i:=⟨_,rfl⟩
 have b5:ag .neq (.int .i64 nx) (.int .i64 (t0+1))=some (.bool (decide (nx≠t0+1))):=da _ _
 obtain ⟨ar,har⟩:∃a,a=wx ⟨ch,pk,pl,tr,bd⟩ o i:=⟨_,rfl⟩
 have hae:ar=⟨t0,nx,w+(if bd=2\/nx≠t0+1 then tr else 0),if i+1<o.length then 0 else 1⟩:=by
  rw [har,hnx,htt,hww]; rfl
 have hgX:=hg.app [.row 4 false [cK ar]]
 obtain ⟨B,k1,k2,k3,k4⟩:=CF (fun _ _ _=>none) hgX (xs:=[ar]) (by simp) (by simp; omega)
 refine ⟨B,?_,⟨by rw [k4 0 (by omega),List.getElem?_append_left ht0]; exact ht,by rw [k4 1 (by omega),List.getElem?_append_left h10]; exact h1,by rw [<-har]; exact k2⟩⟩
 rw [<-hww]
 have k1:H45 (fun _ _ _=>none) [.ptr 2 0 0,.fs 4 [cK ar]] (A++[.row 4 false [cK ar]])=some (.tup [],B):=k1
 rw [show cK ar=.agg [.int .i64 t0,.int .i64 nx,.int .i64 (w+(if bd=2\/nx≠t0+1 then tr else 0)),.int .i64 (if i+1<o.length then 0 else 1)] by rw [hae]; rfl] at k1
 have hsl:∀x y z u:Int,be 4 [.agg [.int .i64 x,.int .i64 y,.int .i64 z,.int .i64 u]]=some (.fs 4 [.agg [.int .i64 x,.int .i64 y,.int .i64 z,.int .i64 u]]):=fun x y z u=>rfl
 obtain ⟨N,hN⟩:∃n,n=A.length:=⟨_,rfl⟩
 obtain ⟨i1,hi1⟩:∃n,n=i+1:=⟨_,rfl⟩
 have x2:i1<o.length->∀A,ai 1 A ov (.int .i64 (i1:Int))=some (.fp [.int .i64 nx]):=fun h A=>by
  have e:o[i1]?=some nx:=by rw [hnx,qA,if_pos (by omega),<-hi1,List.getD_eq_getElem?_getD,List.getElem?_eq_getElem h]; rfl
  exact ho.int (A:=A) _ _ e .i64
 have hnx0:¬ i1<o.length->nx=0:=fun h=>by rw [hnx,qA,if_neg (by omega)]
 have bx:∀z,aZ 4 (.agg [.int .i64 z,.int .i64 z,.int .i64 z,.int .i64 z]) A=some (.ptr N 0 0,A++[.row 4 false [.agg [.int .i64 z,.int .i64 z,.int .i64 z,.int .i64 z]]]):=fun z=>by rw [hN]; rfl
 rw [<-hi1] at b1 b2 k1 ⊢
 rw [<-hN] at a1 a2 a3 r1 r2 r4 s1 s2 s3 sA
 obtain ⟨t1,ht1⟩:∃x,x=t0+1:=⟨_,rfl⟩
 rw [<-ht1] at b4 b5 k1
 obtain ⟨w1,hw1⟩:∃x,x=w+tr:=⟨_,rfl⟩
 rw [<-hw1] at b6
 by_cases hc:i1<o.length
 ·rw [decide_eq_true hc] at b2
  have x2:=x2 hc
  rw [if_pos hc] at k1
  by_cases hd:bd=2
  ·rw [decide_eq_true hd] at b3
   rw [if_pos (.inl hd),<-hw1] at k1
   simp [fK,b0,b1,b2,b3,b6,x1,x2,ov0,hlen,t3,t4,l3,l4,a1,a2,a3,r2,r4,s1,s2,s3,sA,bx,hsl,k1,-ag,-ac,-aA,-ab,-ai,-an,-be,-aZ]
  ·rw [decide_eq_false hd] at b3
   by_cases he:nx≠t1
   ·rw [decide_eq_true he] at b5
    rw [if_pos (.inr he),<-hw1] at k1
    simp [fK,b0,b1,b2,b3,b4,b5,b6,x1,x2,ov0,hlen,t3,t4,l3,l4,a1,a2,a3,r1,r2,r4,s1,s2,s3,sA,bx,hsl,k1,-ag,-ac,-aA,-ab,-ai,-an,-be,-aZ]
   ·rw [decide_eq_false he] at b5
    rw [if_neg (fun h=>h.elim hd he),Int.add_zero] at k1
    simp [fK,b0,b1,b2,b3,b4,b5,x1,x2,ov0,hlen,t4,l4,a1,a3,r1,r4,s1,s3,sA,bx,hsl,k1,-ag,-ac,-aA,-ab,-ai,-an,-be,-aZ]
 ·rw [decide_eq_false hc] at b2
  have hnx0:=hnx0 hc
  rw [if_neg hc] at k1
  subst hnx0
  by_cases hd:bd=2
  ·rw [decide_eq_true hd] at b3
   rw [if_pos (.inl hd),<-hw1] at k1
   simp [fK,b0,b1,b2,b3,b6,x1,ov0,hlen,t3,t4,l3,l4,a2,r2,r4,s2,sA,bx,hsl,k1,-ag,-ac,-aA,-ab,-ai,-an,-be,-aZ]
  ·rw [decide_eq_false hd] at b3
   by_cases he:(0:Int)≠t1
   ·rw [decide_eq_true he] at b5
    rw [if_pos (.inr he),<-hw1] at k1
    simp [fK,b0,b1,b2,b3,b4,b5,b6,x1,ov0,hlen,t3,t4,l3,l4,a1,a2,r1,r2,r4,s2,sA,bx,hsl,k1,-ag,-ac,-aA,-ab,-ai,-an,-be,-aZ]
   ·rw [decide_eq_false he] at b5
    rw [if_neg (fun h=>h.elim hd he),Int.add_zero] at k1
    simp [fK,b0,b1,b2,b3,b4,b5,x1,ov0,hlen,t4,l4,a1,r1,r4,sA,bx,hsl,k1,-ag,-ac,-aA,-ab,-ai,-an,-be,-aZ]
end Clu
namespace Clu
open Go
open Cy (GC iq db bL bO cq aL bc aB a7 cK cy cz dP okA)
def fnL (T:aR):AV:=if T.blades=2 then .func (.func 87) [] [] else .func (.func 86) [] []
theorem A7 {T:aR} (_hv:a6 T) {o:List Int} {ov:AV} (ho:SlA 1 (ak o) ov) (hl:o.length<=200) (j:Int) (hj : -1000<=j/\j<=1000) (A:aa):(ax GC mP).call (fnL T) [ov,.int .i64 j] A=some (lkA (lkT T o j).1 (lkT T o j).2.1 (lkT T o j).2.2,A):=by
 have f1:∀n,frz A n ov=ov:=fun n=>ho.frz n
 unfold fnL lkT
 split
 ·have m:=HD ov j
  simp [m,f1,lkA,aL,-frz]
 ·have m:=HE ho hl hj
  simp [m,f1,lkA,aL,-frz]
theorem Bz (T:aR) (o:List Int) (j:Int):(lkT T o j).2.2=0\/(lkT T o j).2.2=1:=by
 unfold lkT
 split
 ·exact .inr rfl
 ·simp only
  split
  ·exact .inr rfl
  ·exact .inl rfl
theorem Ak {T:aR} {chv ov:AV} {o:List Int} (hO:o∈aH T) (hcv:SlA 2 (T.ch.map chA) chv) (ho:SlA 1 (ak o) ov) {A:aa} {l:List a7} (hI:I19 A T chv ov l) (hl:l.length<=100) {i:Nat} (hi:i<T.ch.length) :
  ∃B,run (ax GC mP) 300 [.code lI] (nm (.ptr 1 0 0) (.int .i64 (eF T)) (.ptr 2 0 0) (fnL T) chv (.int .i64 (T.ch.length:Int)) (.int .i64 (i:Int))) A =
   some (.normal (nm (.ptr 1 0 0) (.int .i64 (eF T)) (.ptr 2 0 0) (fnL T) chv (.int .i64 (T.ch.length:Int)) (.int .i64 ((i+1:Nat):Int))) B)/\I19 B T chv ov (l++ub T o i):=by
 obtain ⟨hv,hol,_,_⟩:=cD hO
 have hw:=qn hv
 have hch:=hv.2.2.2.1
 obtain ⟨ht,h1,hg⟩:=hI
 have ht0:=(List.getElem?_eq_some_iff.1 ht).1
 have h10:=(List.getElem?_eq_some_iff.1 h1).1
 have hx0:T.ch.getD i (0,0)=T.ch[i]:=by rw [List.getD_eq_getElem?_getD,List.getElem?_eq_getElem hi]; rfl
 have hxv:=hv.1 _ (List.getElem_mem hi)
 have x1:∀A,ai 2 A chv (.int .i64 (i:Int))=some (.fp [.int .i64 (T.ch.getD i (0,0)).1,.int .i64 (T.ch.getD i (0,0)).2]):=fun A=>by
  rw [hx0]
  exact hcv.index (A:=A) (x:=chA T.ch[i]) (by simp [hi]) rfl (by omega) .i64
 have cl:=A7 hv ho (by omega) ((i:Int)+1) (by omega)
 have lb:=Bz T o ((i:Int)+1)
 have ha:ub T o i=ub T o i:=rfl
 conv at ha=>rhs; unfold ub
 rw [ha]
 obtain ⟨⟨k1,k2,k3⟩,hk⟩:∃k,k=lkT T o ((i:Int)+1):=⟨_,rfl⟩
 rw [<-hk] at cl lb ⊢
 obtain ⟨⟨tm,sy⟩,hx⟩:∃x,x=T.ch.getD i (0,0):=⟨_,rfl⟩
 rw [hx0] at hx
 rw [<-hx] at hxv
 rw [hx0,<-hx] at x1
 rw [hx0,<-hx]
 simp only [rf] at cl lb x1 hxv ⊢
 obtain ⟨w,hww⟩:∃w,w=eF T:=⟨_,rfl⟩
 rw [<-hww] at hw ⊢
 have ov0:∀X,ac false 1 (A++X) (.ptr 1 0 0)=some ov:=fun X=>by
  have h:(A++X)[1]?=some (.row 1 false [ov]):=by rw [List.getElem?_append_left h10]; exact h1
  rcases ho with ⟨rfl,_⟩ | rfl <;> simp [h]
 have b0:=br i T.ch.length .i64
 rw [decide_eq_true hi] at b0
 have b1:=a9 i (by omega)
 have b2:ag .add (.int .i64 (i:Int)) (.int .i64 1)=some (.int .i64 ((i:Int)+1)):=aS (by omega)
 have b3:ag .add (.int .i64 w) (.int .i64 tm)=some (.int .i64 (w+tm)):=aS (by omega)
 have b4:ag .add (.int .i64 (w+tm)) (.int .i64 sy)=some (.int .i64 (w+tm+sy)):=aS (by omega)
 have b5:r9 .neg (.int .i64 (w+tm+sy))=some (.int .i64 (-(w+tm+sy))):=dA (by omega)
 have b6:r9 .neg (.int .i64 k3)=some (.int .i64 (-k3)):=dA (by omega)
 obtain ⟨A1,hA1⟩:∃X,X=A++[Ent.row 2 false [.agg [.int .i64 tm,.int .i64 sy]]]:=⟨_,rfl⟩
 have ov1:ac false 1 A1 (.ptr 1 0 0)=some ov:=by rw [hA1]; exact ov0 _
 have bx:aZ 2 (.agg [.int .i64 0,.int .i64 0]) A=some (.ptr A.length 0 0,A++[.row 2 false [.agg [.int .i64 0,.int .i64 0]]]):=rfl
 have s0:aA 2 (A++[.row 2 false [.agg [.int .i64 0,.int .i64 0]]]) (.ptr A.length 0 0) (.agg [.int .i64 tm,.int .i64 sy])=some A1:=by simp [aA,bj,hA1]
 have bx1:aZ 3 (.agg [.int .i64 0,.int .i64 0,.int .i64 0]) A1=some (.ptr A1.length 0 0,A1++[.row 3 false [.agg [.int .i64 0,.int .i64 0,.int .i64 0]]]):=rfl
 have s1:aA 3 (A1++[.row 3 false [.agg [.int .i64 0,.int .i64 0,.int .i64 0]]]) (.ptr A1.length 0 0) (lkA k1 k2 k3)=some (A1++[.row 3 false [lkA k1 k2 k3]]):=by simp [aA,bj,lkA]
 have hA1n:∀X,(A1++X)[A.length]?=some (Ent.row 2 false [.agg [.int .i64 tm,.int .i64 sy]]):=fun X=>by rw [List.getElem?_append_left (by rw [hA1]; simp),hA1]; simp
 have f0:∀X,ab 0 (A1++X) (.ptr A.length 0 0)=some (.ptr A.length 0 0):=fun X=>by simp [ab,hA1n X]
 have f1:∀X,ab 1 (A1++X) (.ptr A.length 0 0)=some (.ptr A.length 0 1):=fun X=>by simp [ab,hA1n X]
 have e0:∀X,ac false 1 (A1++X) (.ptr A.length 0 0)=some (.int .i64 tm):=fun X=>by simp [ac,hA1n X,bP]
 have e1:∀X,ac false 1 (A1++X) (.ptr A.length 0 1)=some (.int .i64 sy):=fun X=>by simp [ac,hA1n X,bP]
 have g0:ab 0 (A1++[.row 3 false [lkA k1 k2 k3]]) (.ptr A1.length 0 0)=some (.ptr A1.length 0 0):=pB (es:=[.int .i64 k1,.int .i64 k2,.int .i64 k3]) (k:=3) rfl (by omega)
 have g1:ab 1 (A1++[.row 3 false [lkA k1 k2 k3]]) (.ptr A1.length 0 0)=some (.ptr A1.length 0 1):=pB (es:=[.int .i64 k1,.int .i64 k2,.int .i64 k3]) (k:=3) rfl (by omega)
 have g2:ab 2 (A1++[.row 3 false [lkA k1 k2 k3]]) (.ptr A1.length 0 0)=some (.ptr A1.length 0 2):=pB (es:=[.int .i64 k1,.int .i64 k2,.int .i64 k3]) (k:=3) rfl (by omega)
 have d0:ac false 1 (A1++[.row 3 false [lkA k1 k2 k3]]) (.ptr A1.length 0 0)=some (.int .i64 k1):=rp (es:=[.int .i64 k1,.int .i64 k2,.int .i64 k3]) (k:=3) rfl rfl
 have d1:ac false 1 (A1++[.row 3 false [lkA k1 k2 k3]]) (.ptr A1.length 0 1)=some (.int .i64 k2):=rp (es:=[.int .i64 k1,.int .i64 k2,.int .i64 k3]) (k:=3) rfl rfl
 have d2:ac false 1 (A1++[.row 3 false [lkA k1 k2 k3]]) (.ptr A1.length 0 2)=some (.int .i64 k3):=rp (es:=[.int .i64 k1,.int .i64 k2,.int .i64 k3]) (k:=3) rfl rfl
 have hgX:GAt (A1++[.row 3 false [lkA k1 k2 k3]]) 2 l:=by rw [hA1]; exact (hg.app _).app _
 obtain ⟨B,q1,q2,q3,q4⟩:=CF (fun _ _ _=>none) hgX (xs:=[⟨k1,k2,w+tm,k3⟩,⟨k2,k1,-(w+tm+sy),-k3⟩]) (by simp) (by simp; omega)
 have hA10:∀j,j<A.length->(A1++[Ent.row 3 false [lkA k1 k2 k3]])[j]?=A[j]?:=fun j hj=>by
  rw [hA1,List.append_assoc,List.getElem?_append_left hj]
 refine ⟨B,?_,⟨by rw [q4 0 (by omega),hA10 0 ht0]; exact ht,by rw [q4 1 (by omega),hA10 1 h10]; exact h1,q2⟩⟩
 obtain ⟨w1,hw1⟩:∃x,x=w+tm:=⟨_,rfl⟩
 rw [<-hw1] at b3 b4 b5 q1
 obtain ⟨w2,hw2⟩:∃x,x=w1+sy:=⟨_,rfl⟩
 rw [<-hw2] at b4 b5 q1
 obtain ⟨w3,hw3⟩:∃x,x = -w2:=⟨_,rfl⟩
 rw [<-hw3] at b5 q1
 obtain ⟨k4,hk4⟩:∃x,x = -k3:=⟨_,rfl⟩
 rw [<-hk4] at b6 q1
 have q1:H45 (fun _ _ _=>none) [.ptr 2 0 0,.fs 4 [.agg [.int .i64 k1,.int .i64 k2,.int .i64 w1,.int .i64 k3],.agg [.int .i64 k2,.int .i64 k1,.int .i64 w3,.int .i64 k4]]] (A1++[.row 3 false [lkA k1 k2 k3]])=some (.tup [],B):=q1
 have hsl:be 4 [.agg [.int .i64 k1,.int .i64 k2,.int .i64 w1,.int .i64 k3],.agg [.int .i64 k2,.int .i64 k1,.int .i64 w3,.int .i64 k4]]=some (.fs 4 [.agg [.int .i64 k1,.int .i64 k2,.int .i64 w1,.int .i64 k3],.agg [.int .i64 k2,.int .i64 k1,.int .i64 w3,.int .i64 k4]]):=rfl
 have cl:=cl A1
 obtain ⟨j1,hj1⟩:∃x,x=(i:Int)+1:=⟨_,rfl⟩
 rw [<-hj1] at b2 cl
 obtain ⟨i1,hi1⟩:∃n,n=i+1:=⟨_,rfl⟩
 have hj2:j1=(i1:Int):=by omega
 subst hj2
 rw [<-hi1] at b1 ⊢
 obtain ⟨F,hF⟩:∃F,F=fnL T:=⟨_,rfl⟩
 rw [<-hF] at cl ⊢
 obtain ⟨L,hL⟩:∃L,L=lkA k1 k2 k3:=⟨_,rfl⟩
 rw [<-hL] at cl s1 g0 g1 g2 d0 d1 d2 q1
 simp [lI,b0,b1,b3,b4,b5,b6,x1,ov1,bx,s0,bx1,s1,f0,f1,e0,e1,g0,g1,g2,d0,d1,d2,hsl,cl,q1,-ag,-ac,-aA,-ab,-ai,-be,-aZ,-r9]
def M19:aP:=fun args=>evF (ax GC mP) 300 zQ 4 args
theorem uC:cg Try.prog GC 44 M19:=cg.of_ev (E:=ax GC mP) (aw te) rfl Ll yF 4 fun _ _ h=>⟨300,h⟩
def Ho (r:Option (List a7)):AV:=.tup [slA 4 ((r.getD []).map cK),.int .i64 (if r.isSome then 0 else 130)]
theorem zj (T:aR) (o:List Int) (i:Nat):((List.range (i+1)).map (wx T o))=(List.range i).map (wx T o)++[wx T o i]:=by
 rw [List.range_succ,List.map_append]; rfl
theorem sJ (T:aR) (o:List Int) (i:Nat):((List.range (i+1)).flatMap (ub T o))=(List.range i).flatMap (ub T o)++ub T o i:=by
 rw [List.range_succ,List.flatMap_append]; simp
theorem sI (T:aR) (o:List Int) (i:Nat):((List.range i).flatMap (ub T o)).length=2*i:=by
 induction i with
 | zero=>rfl
 | succ i ih=>rw [sJ,List.length_append,ih]; rfl
theorem D9 {T:aR} {chv ov:AV} {o:List Int} (hO:o∈aH T) (ho:SlA 1 (ak o) ov):∀(c i:Nat) (A:aa) (m:Nat),i+c=o.length->I19 A T chv ov ((List.range i).map (wx T o))->c<m ->
  ∃B,b8 (evC (ax GC mP) 300 fK) ij m (nq (.ptr 0 0 0) (.ptr 1 0 0) (.int .i64 (eF T)) (.ptr 2 0 0) ov (.int .i64 (o.length:Int)) (.int .i64 (i:Int))) A =
   some (.exit 0 ((nq (.ptr 0 0 0) (.ptr 1 0 0) (.int .i64 (eF T)) (.ptr 2 0 0) ov (.int .i64 (o.length:Int)) (.int .i64 (o.length:Int))).set 19 (.bool false)) B)/\I19 B T chv ov ((List.range o.length).map (wx T o)):=by
 obtain ⟨hv,hol,_,_⟩:=cD hO
 have hn4:=hv.2.2.2.1
 intro c
 induction c with
 | zero=>
  intro i A m hi hI hm
  obtain ⟨m,rfl⟩:∃j,m=j+1:=⟨m-1,by omega⟩
  obtain rfl:i=o.length:=by omega
  refine ⟨A,?_,hI⟩
  have b0:=br o.length o.length .i64
  rw [decide_eq_false (by omega)] at b0
  rw [aO,yU]
  simp [fK,b0,-ag]
 | succ c ih=>
  intro i A m hi hI hm
  obtain ⟨m,rfl⟩:∃j,m=j+1:=⟨m-1,by omega⟩
  obtain ⟨B,h1,h2⟩:=Al hO ho hI (by simp; omega) (i:=i) (by omega)
  rw [<-zj] at h2
  obtain ⟨C,h3,h4⟩:=ih (i+1) B m (by omega) h2 (by omega)
  refine ⟨C,?_,h4⟩
  rw [aO,yU,h1]
  exact h3
theorem D8 {T:aR} {chv ov:AV} {o:List Int} (hO:o∈aH T) (hcv:SlA 2 (T.ch.map chA) chv) (ho:SlA 1 (ak o) ov) {l0:List a7} (hl0:l0.length<=50):∀(c i:Nat) (A:aa) (m:Nat),i+c=T.ch.length->I19 A T chv ov (l0++(List.range i).flatMap (ub T o))->c<m ->
  ∃B,b8 (evC (ax GC mP) 300 lI) ig m (nm (.ptr 1 0 0) (.int .i64 (eF T)) (.ptr 2 0 0) (fnL T) chv (.int .i64 (T.ch.length:Int)) (.int .i64 (i:Int))) A =
   some (.exit 2 ((nm (.ptr 1 0 0) (.int .i64 (eF T)) (.ptr 2 0 0) (fnL T) chv (.int .i64 (T.ch.length:Int)) (.int .i64 (T.ch.length:Int))).set 25 (.bool false)) B)/\I19 B T chv ov (l0++(List.range T.ch.length).flatMap (ub T o)):=by
 obtain ⟨hv,hol,_,_⟩:=cD hO
 have hn4:=hv.2.2.2.1
 intro c
 induction c with
 | zero=>
  intro i A m hi hI hm
  obtain ⟨m,rfl⟩:∃j,m=j+1:=⟨m-1,by omega⟩
  obtain rfl:i=T.ch.length:=by omega
  refine ⟨A,?_,hI⟩
  have b0:=br T.ch.length T.ch.length .i64
  rw [decide_eq_false (by omega)] at b0
  rw [aO,yT]
  simp [lI,b0,-ag]
 | succ c ih=>
  intro i A m hi hI hm
  obtain ⟨m,rfl⟩:∃j,m=j+1:=⟨m-1,by omega⟩
  obtain ⟨B,h1,h2⟩:=Ak hO hcv ho hI (by rw [List.length_append,sI]; omega) (i:=i) (by omega)
  rw [List.append_assoc,<-sJ] at h2
  obtain ⟨C,h3,h4⟩:=ih (i+1) B m (by omega) h2 (by omega)
  refine ⟨C,?_,h4⟩
  rw [aO,yT,h1]
  exact h3
theorem CC {T:aR} {chv ov:AV} {o:List Int} (hcv:SlA 2 (T.ch.map chA) chv) (hl:T.ch.length<=200) (ho:SlA 1 (ak o) ov):M19 [au T chv,ov]=some (Ho (A9 T o)):=by
 have m14:=lY hcv hl
 have m41:=vG ho (ll:=aH T)
 have ft:=fun A=>aV (T:=T) (fun A n=>hcv.frz (A:=A) n) A 3
 have fo:∀A n,frz A n ov=ov:=fun A n=>ho.frz n
 have fO:∀A,frz A 4 (lz (aH T))=lz (aH T):=fun A=>(bg 1 _).frz 4
 have nO:bq 4 (lz (aH T))=true:=(bg 1 _).noRef 4
 have lt:∀X,ac true 5 (.row 5 false [au T chv] :: X) (.ptr 0 0 0)=some (au T chv):=fun X=>rfl
 have lo:∀a X,ac false 1 (a :: .row 1 false [ov] :: X) (.ptr 1 0 0)=some ov:=fun a X=>by
  rcases ho with ⟨rfl,_⟩ | rfl <;> simp
 have fF:frz [.row 5 false [au T chv],.row 1 false [ov]] 4 (.func (.func 67) [] [.ptr 1 0 0])=fnO ov:=by
  have:cellsOf ov=[ov]:=by rcases ho with ⟨rfl,_⟩ | rfl <;> rfl
  have hs:ov.solid=true:=by rcases ho with ⟨rfl,_⟩ | rfl <;> rfl
  simp [frz,this,fo,fnO,hs,-cellsOf,-AV.solid]
 have bx0:aZ 5 (au T chv) []=some (.ptr 0 0 0,[.row 5 false [au T chv]]):=rfl
 have bx1:aZ 1 ov [.row 5 false [au T chv]]=some (.ptr 1 0 0,[.row 5 false [au T chv],.row 1 false [ov]]):=by
  rcases ho with ⟨rfl,_⟩ | rfl <;> rfl
 have bx2:∀t:AV,aZ 1 .nilS [.row 5 false [t],.row 1 false [ov]]=some (.ptr 2 0 0,[.row 5 false [t],.row 1 false [ov],.row 1 false [.nilS]]):=fun t=>rfl
 unfold M19 A9
 rw [jk _ _ rfl]
 by_cases hO:o∈aH T
 ·obtain ⟨hv,hol,_,_⟩:=cD hO
  have hn4:=hv.2.2.2.1
  have m41:=m41 (Nat.le_trans (gU T) (by omega)) (fun l hl=>by have:=(cD hl).2.1; omega)
  rw [decide_eq_true hO] at m41
  rw [if_pos hO]
  have m44:=HM chv hv
  have l4:∀X,ab 4 (.row 5 false [au T chv] :: X) (.ptr 0 0 0)=some (.ptr 0 0 4):=fun X=>rfl
  have e0:∀X,ab 0 (.row 5 false [au T chv] :: X) (.ptr 0 0 0)=some (.ptr 0 0 0):=fun X=>rfl
  obtain ⟨B1,h1,h2⟩:=D9 hO ho (chv:=chv) o.length 0 [.row 5 false [au T chv],.row 1 false [ov],.row 1 false [.nilS]] 300 (by omega) ⟨rfl,rfl,⟨.nilS,rfl,.inl ⟨rfl,rfl⟩⟩⟩ (by omega)
  have hB1:∀ {x},B1[0]?=x->B1[0]?=x:=id
  have l4b:ab 4 B1 (.ptr 0 0 0)=some (.ptr 0 0 4):=by simp [ab,h2.t]
  have l4c:ac false 1 B1 (.ptr 0 0 4)=some (.int .i64 T.blades):=by simp [ac,h2.t,au,bP]
  have l0b:ab 0 B1 (.ptr 0 0 0)=some (.ptr 0 0 0):=by simp [ab,h2.t]
  have l0c:ac false 1 B1 (.ptr 0 0 0)=some chv:=by simp [ac,h2.t,au,bP]
  have iv:fN false 3 1 wa (.int .i64 T.blades)=some (fnL T):=by
   rcases hv.2.2.2.2 with h | h <;> rw [h] <;> unfold fnL <;> rw [h] <;> rfl
  have hlen:=hcv.len
  rw [List.length_map] at hlen
  have hlo:=ho.len
  rw [aB] at hlo
  have h2':I19 B1 T chv ov ((List.range o.length).map (wx T o)++(List.range 0).flatMap (ub T o)):=by simpa using h2
  obtain ⟨B2,h3,h4⟩:=D8 hO hcv ho (l0:=(List.range o.length).map (wx T o)) (by simp; omega) T.ch.length 0 B1 300 (by omega) h2' (by omega)
  obtain ⟨v,g1,g2,g3⟩:=h4.g.frz
  have g2:=g2 0
  have g3:=g3 0
  obtain ⟨R,hR⟩:∃R,R=slA 4 ((bu T o).map cK):=⟨_,rfl⟩
  rw [show (List.range o.length).map (wx T o)++(List.range T.ch.length).flatMap (ub T o)=bu T o from rfl,<-hR] at g2
  have hRR:Ho (some (bu T o))=.tup [R,.int .i64 0]:=by rw [hR]; rfl
  rw [hRR]
  have h1:b8 (evC (ax GC mP) 300 fK) ij 300 (nq (.ptr 0 0 0) (.ptr 1 0 0) (.int .i64 (eF T)) (.ptr 2 0 0) ov (.int .i64 (o.length:Int)) (.int .i64 0)) [.row 5 false [au T chv],.row 1 false [ov],.row 1 false [.nilS]]=_:=h1
  have h3:b8 (evC (ax GC mP) 300 lI) ig 300 (nm (.ptr 1 0 0) (.int .i64 (eF T)) (.ptr 2 0 0) (fnL T) chv (.int .i64 (T.ch.length:Int)) (.int .i64 0)) B1=_:=h3
  obtain ⟨t,htt⟩:∃t,t=au T chv:=⟨_,rfl⟩
  obtain ⟨F,hF⟩:∃F,F=fnL T:=⟨_,rfl⟩
  obtain ⟨Q,hQ⟩:∃F,F=lz (aH T):=⟨_,rfl⟩
  obtain ⟨w,hw⟩:∃F,F=eF T:=⟨_,rfl⟩
  rw [<-htt] at m14 ft lt fF bx0 bx1 m44 h1 ⊢
  rw [<-hF] at iv h3
  rw [<-hQ] at m14 m41 fO nO
  rw [<-hw] at m44 h1 h3
  have cb:∀x:AV,(cellsOf x).length=(cellsOf x).length:=fun _=>rfl
  have ct:(cellsOf t).length=5:=by rw [htt]; rfl
  have co:(cellsOf ov).length=1:=by rcases ho with ⟨rfl,_⟩ | rfl <;> rfl
  have fT:frz B2 4 (.tup [v,.int .i64 0])=.tup [R,.int .i64 0]:=by
   rw [<-g2]; rfl
  have rT:bb B2 4 (.tup [v,.int .i64 0])=true:=by
   have g3:bb B2 3 v=true:=g3
   simp [bb,g3]
  simp [zQ,bx0,bx1,bx2,fT,rT,ct,co,lt,lo,m14,m41,m44,ft,fO,nO,fF,Gx h1,Gw h3,l4b,l4c,l0b,l0c,iv,hlen,hlo,zC,g1,-aZ,-ac,-ab,-an,-frz,-cellsOf]
 ·have hll:(aH T).length<=256:=gU T
  have m41:=m41 hll (fun l hl=>by have:=cD hl; have:=this.1.2.2.2.1; omega)
  rw [decide_eq_false hO] at m41
  rw [if_neg hO]
  obtain ⟨t,htt⟩:∃t,t=au T chv:=⟨_,rfl⟩
  obtain ⟨Q,hQ⟩:∃F,F=lz (aH T):=⟨_,rfl⟩
  rw [<-htt] at m14 ft lt fF bx0 bx1 ⊢
  rw [<-hQ] at m14 m41 fO nO
  have ct:(cellsOf t).length=5:=by rw [htt]; rfl
  have co:(cellsOf ov).length=1:=by rcases ho with ⟨rfl,_⟩ | rfl <;> rfl
  have fT:∀A,frz A 4 (.tup [.nilS,.int .i64 130])=.tup [.nilS,.int .i64 130]:=fun A=>rfl
  have rT:∀A,bb A 4 (.tup [.nilS,.int .i64 130])=true:=fun A=>rfl
  simp [zQ,bx0,bx1,fT,rT,ct,co,lt,m14,m41,ft,fO,nO,fF,-aZ,-ac,-ab,-an,-frz,-cellsOf]
  rfl
end Clu
namespace Clu
open Go
open Cy (GC iq db bL bO cq aL bc aB a7 cK cy cz dP okA smM smT lvM lvT fU fB iD cn nA)
theorem uX {o:List Int} {i:Nat} (h:i<o.length):o.getD i 0∈o:=by
 rw [List.getD_eq_getElem?_getD,List.getElem?_eq_getElem h]; exact List.getElem_mem h
theorem t9 {T:aR} {o:List Int} (hO:o∈aH T):dP (o.length:Int) (bu T o)/\∀x∈bu T o,x.inR:=by
 obtain ⟨hv,hol,_,_⟩:=cD hO
 have hbd:=gA hO
 have hw:=qn hv
 have hn1:=hv.2.2.1
 have hn4:=hv.2.2.2.1
 have htr:=hv.2.1.2.2
 have key:∀x∈bu T o,okA (o.length:Int) x:=fun x hx=>by
  rcases List.mem_append.1 hx with hx | hx
  ·obtain ⟨i,hi,rfl⟩:=List.mem_map.1 hx
   rw [List.mem_range] at hi
   have h1:=hbd _ (uX hi)
   have h2:0<=qA o i/\qA o i<=T.ch.length:=by
    unfold qA
    split
    ·rename_i h; exact hbd _ (uX h)
    ·omega
   refine ⟨?_,?_,?_,?_⟩ <;> simp only [wx] <;> (try split) <;> omega
  ·obtain ⟨i,hi,hx⟩:=List.mem_flatMap.1 hx
   rw [List.mem_range] at hi
   have hx0:T.ch.getD i (0,0)=T.ch[i]:=by rw [List.getD_eq_getElem?_getD,List.getElem?_eq_getElem hi]; rfl
   have hxv:=hv.1 _ (List.getElem_mem hi)
   rw [<-hx0] at hxv
   simp only [rf] at hxv
   have lb:=Bz T o ((i:Int)+1)
   have l1:0<=(lkT T o ((i:Int)+1)).1/\(lkT T o ((i:Int)+1)).1<=o.length-1/\0<=(lkT T o ((i:Int)+1)).2.1/\(lkT T o ((i:Int)+1)).2.1<=o.length-1:=by
    unfold lkT
    split <;> simp only <;> omega
   simp only [ub,List.mem_cons,List.not_mem_nil,or_false] at hx
   rcases hx with rfl | rfl <;> refine ⟨?_,?_,?_,?_⟩ <;> simp only <;> omega
 refine ⟨⟨by omega,?_,key⟩,fun x hx=>?_⟩
 ·unfold bu
  rw [List.length_append,sI]
  simp; omega
 ·obtain ⟨h1,h2,h3,h4⟩:=key x hx
  refine ⟨?_,?_,?_,?_⟩ <;> unfold inI <;> omega
def gh (l:List a7):AV:=slA 4 (l.map cK)
theorem mU {T:aR} {o:List Int} (hO:o∈aH T):cy (gh (bu T o))=some (bu T o):=by
 obtain ⟨h1,h2⟩:=t9 hO
 exact fU (by have:=h1.2.1; omega) h2
theorem qd {T:aR} {o:List Int} (hO:o∈aH T):A9 T o=some (bu T o):=if_pos hO
def mN (s:Option (Int × List Int)):Int:=match s with | none=>1000000 | some x=>x.1-1
def iB (T:aR) (s:Option (Int × List Int)) (o:List Int):Option (Int × List Int):=
 match smM (o.length:Int) (bu T o) 1 (mN s) with
 | some p=>some (p,o)
 | none=>s
def pq (T:aR):Option (Int × List Int):=(aH T).foldl (iB T) none
structure cH where
 period:Int
 order:List Int
 starts:List Int
 proof:List Int
def nC (T:aR) (x:Int × List Int):cH:=
 ⟨x.1,x.2,(lvM (x.2.length:Int) (bu T x.2) x.1).1,if x.1 > 1 then (lvM (x.2.length:Int) (bu T x.2) (x.1-1)).2.1 else []⟩
def iC (T:aR):Option cH:=(pq T).map (nC T)
def uH (s:cH):AV:=.agg [.int .i64 s.period,slA 1 (ak s.order),slA 1 (ak s.starts),slA 1 (ak s.proof)]
def Iy:cH:=⟨0,[],[],[]⟩
def pn (r:Option cH):AV:=.tup [uH (r.getD Iy),.int .i64 (if r.isSome then 0 else 130)]
def sOk (T:aR) (s:Option (Int × List Int)):Prop:=∀x,s=some x->1<=x.1/\x.1<=1000000/\x.2∈aH T
theorem th {n:Nat} {l:List a7} {hi r:Int} (hp:cz hi) (h:smM (n:Int) l 1 hi=some r):1<=r/\r<=hi/\cn n l r/\¬ Cy.Pos l r/\∀q,1<=q->q<r->Cy.Pos l q:=by
 unfold smM at h
 rw [if_pos hp,Int.toNat_natCast] at h
 exact (Cy.qt (n:=n) (l:=l) hp (hi-1+2).toNat 1 (by omega)).1 r h
theorem Dt {n:Nat} {l:List a7} {hi:Int} (hp:cz hi) (hv:dP n l) (h:smM (n:Int) l 1 hi=none):∀q,1<=q->q<=hi->Cy.Pos l q:=by
 unfold smM at h
 rw [if_pos hp,Int.toNat_natCast] at h
 exact (Cy.qt (n:=n) (l:=l) hp (hi-1+2).toNat 1 (by omega)).2 h ⟨hv,by unfold cz; omega⟩
theorem qX {T:aR} {s:Option (Int × List Int)} (h:sOk T s) {o:List Int} (hO:o∈aH T):sOk T (iB T s o):=by
 have hper:cz (mN s):=by
  unfold mN cz
  cases s with
  | none=>simp
  | some x=>have:=h x rfl; simp only; omega
 unfold iB
 cases hm:smM (o.length:Int) (bu T o) 1 (mN s) with
 | none=>exact h
 | some p=>
  obtain ⟨h1,h2,_⟩:=th hper hm
  intro x hx
  injection hx with hx; subst hx
  exact ⟨h1,by unfold cz at hper; simp only; omega,hO⟩
theorem sD {T:aR} {o q:List Int}:iB T (some (1,o)) q=some (1,o):=by
 unfold iB
 have hp:cz 0:=by unfold cz; omega
 cases hm:smM (q.length:Int) (bu T q) 1 ((1:Int)-1) with
 | none=>rfl
 | some p=>
  obtain ⟨h1,h2,_⟩:=th (hi:=0) hp hm
  omega
theorem u9 {T:aR} {o:List Int}:∀l:List (List Int),l.foldl (iB T) (some (1,o))=some (1,o)
 | []=>rfl
 | q :: l=>by rw [List.foldl_cons,sD,u9 l]
theorem x5 {T:aR}:∀(l:List (List Int)) (s:Option (Int × List Int)),(∀o∈l,o∈aH T)->sOk T s->sOk T (l.foldl (iB T) s)
 | [],_,_,h=>h
 | q :: l,s,hl,h=>x5 l _ (fun o ho=>hl o (by simp [ho])) (qX h (hl q (by simp)))
def wF:List (FuncId × aG):=[(43,cI 4 M14),(44,cI 4 M19),(45,aD 4 Cy.M23),(46,Cy.H14)]
@[simp] theorem Kg:aC wF 43=some (cI 4 M14):=rfl
@[simp] theorem Kf:aC wF 44=some (cI 4 M19):=rfl
@[simp] theorem Ke:aC wF 45=some (aD 4 Cy.M23):=rfl
@[simp] theorem Kd:aC wF 46=some Cy.H14:=rfl
theorem Do:∀f M,aC wF f=some M->aj Try.prog GC f M:=af (aj.of_pureF lu 4) (af (aj.of_pureF uC 4) (af (aj.of_pure Cy.Fv 4) (af Cy.lu az)))
def zA:AV:=.agg [.int .i64 0,.nilS,.nilS,.nilS]
def bsA (s:Option (Int × List Int)):AV:=match s with | none=>.agg [.int .i64 0,.nilS,.nilS,.nilS] | some x=>.agg [.int .i64 x.1,slA 1 (ak x.2),.nilS,.nilS]
def bsV (T:aR) (s:Option (Int × List Int)):AV:=match s with | none=>.nilS | some x=>gh (bu T x.2)
def R22 (A:aa) (T:aR) (chv:AV) (s:Option (Int × List Int)):aa:=A++[.row 5 false [au T chv],.row 4 false [zA],.row 4 false [bsA s]]
theorem LK (A:aa) (T:aR) (chv:AV) (s:Option (Int × List Int)):(R22 A T chv s)[A.length]?=some (.row 5 false [au T chv]):=by simp [R22]
theorem Hz (A:aa) (T:aR) (chv:AV) (s:Option (Int × List Int)):(R22 A T chv s)[A.length+1]?=some (.row 4 false [zA]):=by simp [R22]
theorem zx (A:aa) (T:aR) (chv:AV) (s:Option (Int × List Int)):(R22 A T chv s)[A.length+2]?=some (.row 4 false [bsA s]):=by simp [R22]
theorem EG (A:aa) (T:aR) (chv:AV) (s s':Option (Int × List Int)):(R22 A T chv s).set (A.length+2) (.row 4 false [bsA s'])=R22 A T chv s':=by
 unfold R22
 rw [List.set_append_right _ _ (by omega),show A.length+2-A.length=2 by omega]
 rfl
def pOf (s:Option (Int × List Int)):Int:=match s with | none=>0 | some x=>x.1
theorem cF (a b:Int):ag .gtr (.int .i64 a) (.int .i64 b)=some (.bool (decide (a > b))):=by simp [ag]
theorem gR (xs:List Int):(slA 1 (ak xs)).solid=true/\cellsOf (slA 1 (ak xs))=[slA 1 (ak xs)]:=by
 cases xs <;> exact ⟨rfl,rfl⟩
theorem DJ {A:aa} {T:aR} {chv chF:AV} (hcv:SlA 2 (T.ch.map chA) chF) (hz:∀X,frz (A++X) 4 (au T chv)=au T chF) {s:Option (Int × List Int)} (hs:sOk T s) {i:Nat} (hi:i<(aH T).length) :
  (mN s<1->∃d6 d7 d8:AV,run (ax GC wF) 300 [.code fJ] (nl (.ptr A.length 0 0) (.ptr (A.length+1) 0 0) (.ptr (A.length+2) 0 0) (bsV T s) (lz (aH T)) (.int .i64 ((aH T).length:Int)) (.int .i64 (i:Int))) (R22 A T chv s) =
   some (.exit 0 [.undef,.ptr A.length 0 0,.ptr (A.length+1) 0 0,.undef,.ptr (A.length+2) 0 0,bsV T s,d6,d7,d8,.undef,.undef,lz (aH T),.int .i64 ((aH T).length:Int),.int .i64 (i:Int),.bool true,.bool true,.bool true,.undef,.undef,.undef] (R22 A T chv s))) /\
  (¬ mN s<1->run (ax GC wF) 300 [.code fJ] (nl (.ptr A.length 0 0) (.ptr (A.length+1) 0 0) (.ptr (A.length+2) 0 0) (bsV T s) (lz (aH T)) (.int .i64 ((aH T).length:Int)) (.int .i64 (i:Int))) (R22 A T chv s) =
   some (.normal (nl (.ptr A.length 0 0) (.ptr (A.length+1) 0 0) (.ptr (A.length+2) 0 0) (bsV T (iB T s (aH T)[i])) (lz (aH T)) (.int .i64 ((aH T).length:Int)) (.int .i64 ((i+1:Nat):Int))) (R22 A T chv (iB T s (aH T)[i])))):=by
 obtain ⟨o,ho⟩:∃o,o=(aH T)[i]:=⟨_,rfl⟩
 have hO:o∈aH T:=by rw [ho]; exact List.getElem_mem hi
 obtain ⟨hv,hol,_,_⟩:=cD hO
 have hhi:mN s<=1000000/\0<=mN s:=by
  unfold mN
  cases s with
  | none=>simp
  | some x=>have:=hs x rfl; simp only; omega
 have hb:=bg 1 ((aH T).map fun l=>slA 1 (ak l))
 rw [show slA 1 ((aH T).map fun l=>slA 1 (ak l))=lz (aH T) from rfl] at hb
 obtain ⟨q1,q2⟩:=gR o
 have he:((aH T).map fun l=>slA 1 (ak l))[i]?=some (slA 1 (ak o)):=by simp [hi,ho]
 have x1:=fun A=>hb.index1 (A:=A) he q1 q2 .i64
 have hos:=bg 1 (ak o)
 have hlo:=hos.len
 rw [aB] at hlo
 have m19:=CC (T:=T) hcv (by have:=hv.2.2.2.1; omega) hos
 rw [qd hO] at m19
 have m19:M19 [au T chF,slA 1 (ak o)]=some (.tup [gh (bu T o),.int .i64 0]):=m19
 have m23:∀hi,Cy.M23 [.int .i64 (o.length:Int),gh (bu T o),.int .i64 1,.int .i64 hi]=some (smT (smM (o.length:Int) (bu T o) 1 hi)):=fun hi=>by
  simp only [Cy.M23,mU hO,Option.map_some]
 have m23:=m23 (mN s)
 have hbs:iB T s o=match smM (o.length:Int) (bu T o) 1 (mN s) with | some p=>some (p,o) | none=>s:=rfl
 rw [<-ho,hbs]
 have b0:=br i (aH T).length .i64
 rw [decide_eq_true hi] at b0
 have b1:=a9 i (by have:=gU T; omega)
 have b2:=cF (pOf s) 0
 have b3:ag .sub (.int .i64 (pOf s)) (.int .i64 1)=some (.int .i64 (pOf s-1)):=cc (by
  unfold pOf
  cases s with
  | none=>simp
  | some x=>have:=hs x rfl; simp only; omega)
 have hpp:(pOf s > 0->mN s=pOf s-1)/\(¬ pOf s > 0->mN s=1000000):=by
  unfold pOf mN
  cases s with
  | none=>simp
  | some x=>have:=hs x rfl; simp only; exact ⟨fun _=>trivial,fun h=>by omega⟩
 have b4:=ce (mN s) 1
 have ft:frz (R22 A T chv s) 4 (au T chv)=au T chF:=hz _
 have fo:∀A n,frz A n (slA 1 (ak o))=slA 1 (ak o):=fun A n=>hos.frz n
 have fa:∀A n,frz A n (gh (bu T o))=gh (bu T o):=fun A n=>(bg 4 _).frz n
 have na:bq 4 (gh (bu T o))=true:=(bg 4 _).noRef 4
 have lt:ac true 5 (R22 A T chv s) (.ptr A.length 0 0)=some (au T chv):=by simp [ac,LK,au]
 have f0:ab 0 (R22 A T chv s) (.ptr (A.length+2) 0 0)=some (.ptr (A.length+2) 0 0):=by simp [ab,zx]
 have l0:ac false 1 (R22 A T chv s) (.ptr (A.length+2) 0 0)=some (.int .i64 (pOf s)):=by
  cases s <;> simp [ac,zx,bsA,pOf,bP]
 have st:∀p,aA 4 (R22 A T chv s) (.ptr (A.length+2) 0 0) (.agg [.int .i64 p,slA 1 (ak o),.nilS,.nilS])=some (R22 A T chv (some (p,o))):=fun p=>by
  rw [<-EG A T chv s (some (p,o))]
  simp [zx,aA,bj,bsA]
 have fl:∀p,j8 [.int .i64 0,.nilS,.nilS,.nilS] [(0,(1,.int .i64 p)),(1,(1,slA 1 (ak o)))]=some [.int .i64 p,slA 1 (ak o),.nilS,.nilS]:=fun p=>by
  have c1:cellsOf (AV.int .i64 p)=[.int .i64 p]:=rfl
  have c2:(AV.int .i64 p).solid=true:=rfl
  simp [j8,q1,q2,c1,c2,-cellsOf,-AV.solid]
 have fl2:∀x,j8 [.int .i64 0,.nilS,.nilS,.nilS] x=j8 [.int .i64 0,.nilS,.nilS,.nilS] x:=fun _=>rfl
 obtain ⟨W,hW⟩:∃W,W=slA 1 (ak o):=⟨_,rfl⟩
 rw [<-hW] at x1 hlo m19 fo st fl
 have hbv:∀p,bsV T (some (p,o))=gh (bu T o):=fun _=>rfl
 obtain ⟨sm,hsm⟩:∃sm,sm=smM (o.length:Int) (bu T o) 1 (mN s):=⟨_,rfl⟩
 rw [<-hsm] at m23 ⊢
 obtain ⟨V,hV⟩:∃V,V=gh (bu T o):=⟨_,rfl⟩
 rw [<-hV] at m19 m23 fa na
 simp only [<-hV] at hbv
 obtain ⟨tF,htF⟩:∃t,t=au T chF:=⟨_,rfl⟩
 rw [<-htF] at m19 ft
 obtain ⟨t,ht⟩:∃t,t=au T chv:=⟨_,rfl⟩
 rw [<-ht] at ft lt
 obtain ⟨h,hh⟩:∃h,h=mN s:=⟨_,rfl⟩
 rw [<-hh] at m23 b4 hpp ⊢
 obtain ⟨p,hp⟩:∃h,h=pOf s:=⟨_,rfl⟩
 rw [<-hp] at b2 b3 hpp l0
 obtain ⟨i1,hi1⟩:∃n,n=i+1:=⟨_,rfl⟩
 rw [<-hi1] at b1 ⊢
 obtain ⟨Q,hQ⟩:∃Q,Q=lz (aH T):=⟨_,rfl⟩
 rw [<-hQ] at x1 ⊢
 obtain ⟨A0,hA0⟩:∃X,X=R22 A T chv s:=⟨_,rfl⟩
 rw [<-hA0] at lt f0 l0 st ft ⊢
 obtain ⟨n0,hn0⟩:∃n,n=A.length:=⟨_,rfl⟩
 obtain ⟨n1,hn1⟩:∃n,n=A.length+1:=⟨_,rfl⟩
 obtain ⟨n2,hn2⟩:∃n,n=A.length+2:=⟨_,rfl⟩
 rw [<-hn2] at f0 l0 st
 rw [<-hn0] at lt
 rw [<-hn1,<-hn2,<-hn0]
 obtain ⟨U,hU⟩:∃U,U=bsV T s:=⟨_,rfl⟩
 rw [<-hU]
 refine ⟨fun h1=>⟨W,V,.int .i64 h,?_⟩,fun h1=>?_⟩
 ·have hp0:p > 0:=by
   by_cases hp0:p > 0
   ·exact hp0
   ·have:=hpp.2 hp0; omega
  rw [decide_eq_true hp0] at b2
  rw [<-hpp.1 hp0] at b3
  rw [decide_eq_true h1] at b4
  simp [fJ,x1,lt,ft,fo,m19,f0,l0,b0,b2,b3,b4,-ag,-ac,-ab,-ai,-frz]
 ·rw [decide_eq_false h1] at b4
  by_cases hp0:p > 0
  ·rw [decide_eq_true hp0] at b2
   rw [<-hpp.1 hp0] at b3
   cases sm with
   | none=>
    simp only [<-hU,<-hA0]
    simp [fJ,x1,lt,ft,fo,fa,aL,na,smT,m19,m23,hlo,f0,l0,b0,b1,b2,b3,b4,-ag,-ac,-ab,-ai,-an,-frz]
   | some r=>simp [fJ,x1,lt,ft,fo,fa,aL,na,smT,m19,m23,hlo,f0,l0,b0,b1,b2,b3,b4,st,fl,hbv,-ag,-ac,-aA,-ab,-ai,-an,-frz,-j8]
  ·rw [decide_eq_false hp0] at b2
   obtain rfl:=hpp.2 hp0
   cases sm with
   | none=>
    simp only [<-hU,<-hA0]
    simp [fJ,x1,lt,ft,fo,fa,aL,na,smT,m19,m23,hlo,f0,l0,b0,b1,b2,b4,-ag,-ac,-ab,-ai,-an,-frz]
   | some r=>simp [fJ,x1,lt,ft,fo,fa,aL,na,smT,m19,m23,hlo,f0,l0,b0,b1,b2,b4,st,fl,hbv,-ag,-ac,-aA,-ab,-ai,-an,-frz,-j8]
end Clu
namespace Clu
open Go
open Cy (GC iq db bL bO cq aL bc aB a7 cK cy cz dP okA smM smT lvM lvT fU fB iD cn nA)
theorem Gb {A:aa} {T:aR} {chv chF:AV} (hcv:SlA 2 (T.ch.map chA) chF) (hz:∀X,frz (A++X) 4 (au T chv)=au T chF):∀(c i:Nat) (s:Option (Int × List Int)) (m:Nat),i+c=(aH T).length->sOk T s->c<m ->
  ∃d6 d7 d8 d13 d14 d15 d16:AV,b8 (evC (ax GC wF) 300 fJ) jP m (nl (.ptr A.length 0 0) (.ptr (A.length+1) 0 0) (.ptr (A.length+2) 0 0) (bsV T s) (lz (aH T)) (.int .i64 ((aH T).length:Int)) (.int .i64 (i:Int))) (R22 A T chv s) =
   some (.exit 0 [.undef,.ptr A.length 0 0,.ptr (A.length+1) 0 0,.undef,.ptr (A.length+2) 0 0,bsV T (((aH T).drop i).foldl (iB T) s),d6,d7,d8,.undef,.undef,lz (aH T),.int .i64 ((aH T).length:Int),d13,d14,d15,d16,.undef,.undef,.undef] (R22 A T chv (((aH T).drop i).foldl (iB T) s))):=by
 intro c
 induction c with
 | zero=>
  intro i s m hi hs hm
  obtain ⟨m,rfl⟩:∃j,m=j+1:=⟨m-1,by omega⟩
  obtain rfl:i=(aH T).length:=by omega
  rw [List.drop_length]
  refine ⟨.undef,.undef,.undef,.int .i64 ((aH T).length:Int),.bool false,.undef,.undef,?_⟩
  have b0:=br (aH T).length (aH T).length .i64
  rw [decide_eq_false (by omega)] at b0
  rw [aO,vt]
  simp [fJ,b0,-ag]
 | succ c ih=>
  intro i s m hi hs hm
  obtain ⟨m,rfl⟩:∃j,m=j+1:=⟨m-1,by omega⟩
  have hil:i<(aH T).length:=by omega
  obtain ⟨r1,r2⟩:=DJ hcv hz hs hil
  rw [List.drop_eq_getElem_cons hil,List.foldl_cons]
  by_cases h1:mN s<1
  ·obtain ⟨d6,d7,d8,hr⟩:=r1 h1
   have hone:∃o,s=some (1,o):=by
    cases s with
    | none=>unfold mN at h1; simp at h1
    | some x=>
     have:=hs x rfl
     unfold mN at h1
     simp only at h1
     obtain ⟨p,o⟩:=x
     exact ⟨o,by simp only at this h1; rw [show p=1 by omega]⟩
   obtain ⟨o,rfl⟩:=hone
   rw [sD,u9]
   refine ⟨d6,d7,d8,.int .i64 (i:Int),.bool true,.bool true,.bool true,?_⟩
   rw [aO,vt,hr]
  ·have hr:=r2 h1
   obtain ⟨d6,d7,d8,d13,d14,d15,d16,h2⟩:=ih (i+1) _ m (by omega) (qX hs (List.getElem_mem hil)) (by omega)
   refine ⟨d6,d7,d8,d13,d14,d15,d16,?_⟩
   rw [aO,vt,hr]
   exact h2
theorem Ex (T:aR):sOk T (pq T):=x5 _ _ (fun _ h=>h) (fun x h=>by cases h)
def E22 (A:aa) (T:aR) (chv:AV) (r:Option cH):aa:=A++[.row 5 false [au T chv],.row 4 false [match r with | none=>zA | some s=>uH s],.row 4 false [match r with | none=>zA | some s=>uH s]]
def H22:aG:=fun _=>bV (ax GC wF) 300 zP
theorem H2 (h:aT) {A:aa} {T:aR} {chv chF:AV} (hcv:SlA 2 (T.ch.map chA) chF) (hz:∀X,frz (A++X) 4 (au T chv)=au T chF) (hl:T.ch.length<=200):H22 h [au T chv] A=some (pn (iC T),E22 A T chv (iC T)):=by
 have m14:=lY hcv hl
 have hlen:an (lz (aH T))=some (.int .i64 ((aH T).length:Int)):=by
  have:=(bg 1 ((aH T).map fun l=>slA 1 (ak l))).len
  rwa [List.length_map] at this
 obtain ⟨d6,d7,d8,d13,d14,d15,d16,lp⟩:=Gb hcv hz (aH T).length 0 none 300 (by omega) (fun x h=>by cases h) (by have:=gU T; omega)
 rw [List.drop_zero,show (aH T).foldl (iB T) none=pq T from rfl] at lp
 have hok:=Ex T
 obtain ⟨A0,hA0⟩:∃X,X=A++[.row 5 false [au T chv],.row 4 false [zA],.row 4 false [zA]]:=⟨_,rfl⟩
 rw [show R22 A T chv none=A0 from hA0.symm,show bsV T none=.nilS from rfl,show ((0:Nat):Int)=0 from rfl] at lp
 have lt:ac true 5 A0 (.ptr A.length 0 0)=some (au T chv):=by rw [hA0]; simp [ac,au]
 have ft:frz A0 4 (au T chv)=au T chF:=by rw [hA0]; exact hz _
 have bx0:aZ 5 (au T chv) A=some (.ptr A.length 0 0,A++[.row 5 false [au T chv]]):=rfl
 have ct:(cellsOf (au T chv)).length=5:=rfl
 have bx1:aZ 4 (.agg [.int .i64 0,.nilS,.nilS,.nilS]) (A++[.row 5 false [au T chv]])=some (.ptr (A.length+1) 0 0,A++[.row 5 false [au T chv],.row 4 false [zA]]):=by simp [aZ,zA]
 have bx2:aZ 4 (.agg [.int .i64 0,.nilS,.nilS,.nilS]) (A++[.row 5 false [au T chv],.row 4 false [zA]])=some (.ptr (A.length+2) 0 0,A0):=by rw [hA0]; simp [aZ,zA]
 have hbm:iC T=(pq T).map (nC T):=rfl
 rw [hbm]
 obtain ⟨s,hs⟩:∃s,s=pq T:=⟨_,rfl⟩
 rw [<-hs] at lp hok ⊢
 obtain ⟨X1,hX1⟩:∃X,X=A++[Ent.row 5 false [au T chv]]:=⟨_,rfl⟩
 obtain ⟨X2,hX2⟩:∃X,X=A++[Ent.row 5 false [au T chv],.row 4 false [zA]]:=⟨_,rfl⟩
 rw [<-hX1] at bx0 bx1
 rw [<-hX2] at bx1 bx2
 obtain ⟨t,ht⟩:∃t,t=au T chv:=⟨_,rfl⟩
 obtain ⟨tF,htF⟩:∃t,t=au T chF:=⟨_,rfl⟩
 obtain ⟨Q,hQ⟩:∃Q,Q=lz (aH T):=⟨_,rfl⟩
 obtain ⟨L,hL⟩:∃Q,Q=((aH T).length:Int):=⟨_,rfl⟩
 have f0:ab 0 (R22 A T chv s) (.ptr (A.length+2) 0 0)=some (.ptr (A.length+2) 0 0):=by simp [ab,zx]
 have l0:ac false 1 (R22 A T chv s) (.ptr (A.length+2) 0 0)=some (.int .i64 (pOf s)):=by cases s <;> simp [ac,zx,bsA,pOf,bP]
 rw [<-htF] at m14 ft
 rw [<-ht] at lt bx0 ct ft ⊢
 rw [<-hQ] at m14 hlen lp
 rw [<-hL] at hlen lp
 unfold H22
 rw [a8 _ _ rfl]
 cases s with
 | none=>
  have b1:=bz 0 0
  rw [decide_eq_true rfl] at b1
  have e1:E22 A T chv none=R22 A T chv none:=rfl
  have st:aA 4 (R22 A T chv none) (.ptr (A.length+1) 0 0) (.agg [.int .i64 0,.nilS,.nilS,.nilS])=some (R22 A T chv none):=by
   have:(R22 A T chv none).set (A.length+1) (.row 4 false [zA])=R22 A T chv none:=by
    unfold R22
    rw [List.set_append_right _ _ (by omega),show A.length+1-A.length=1 by omega]
    rfl
   conv=>rhs; rw [<-this]
   simp [aA,Hz,bj,zA]
  have l4:ac true 4 (R22 A T chv none) (.ptr (A.length+1) 0 0)=some (.agg [.int .i64 0,.nilS,.nilS,.nilS]):=by simp [ac,Hz,zA]
  rw [show (Option.map (nC T) none)=none from rfl,e1]
  rw [show pn none=.tup [.agg [.int .i64 0,.nilS,.nilS,.nilS],.int .i64 130] from rfl]
  obtain ⟨A1,hA1⟩:∃X,X=R22 A T chv none:=⟨_,rfl⟩
  rw [<-hA1] at lp f0 l0 st l4 ⊢
  have l0:ac false 1 A1 (.ptr (A.length+2) 0 0)=some (.int .i64 0):=l0
  obtain ⟨n0,hn0⟩:∃n,n=A.length:=⟨_,rfl⟩
  obtain ⟨n1,hn1⟩:∃n,n=A.length+1:=⟨_,rfl⟩
  obtain ⟨n2,hn2⟩:∃n,n=A.length+2:=⟨_,rfl⟩
  rw [<-hn2] at lp f0 l0 bx2
  rw [<-hn1] at lp st l4 bx1
  rw [<-hn0] at lp lt bx0
  simp [zP,bx0,bx1,bx2,ct,lt,m14,ft,hlen,xS lp,f0,l0,b1,st,l4,-aZ,-ac,-aA,-ab,-an,-frz,-cellsOf,-ag]
 | some x=>
  obtain ⟨p,o⟩:=x
  obtain ⟨hp1,hp2,hO⟩:=hok _ rfl
  simp only at hp1 hp2 hO
  have hos:=bg 1 (ak o)
  have hlo:=hos.len
  rw [aB] at hlo
  obtain ⟨q1,q2⟩:=gR o
  have hv:=mU hO
  have h14:=fun A=>Cy.CJ (fun _ _ _=>none) (A:=A) (show frz A 4 (gh (bu T o))=gh (bu T o) from (bg 4 ((bu T o).map cK)).frz 4) hv (o.length:Int)
  obtain ⟨st,hst⟩:∃st,st=(lvM (o.length:Int) (bu T o) p).1:=⟨_,rfl⟩
  have hl1:lvT (lvM (o.length:Int) (bu T o) p)=.tup [slA 1 (ak st),slA 1 (ak (lvM (o.length:Int) (bu T o) p).2.1),.bool (lvM (o.length:Int) (bu T o) p).2.2]:=by rw [hst]; rfl
  obtain ⟨s1,s2⟩:=gR st
  obtain ⟨RA,hRA⟩:∃R:List Int->List Int->aa,∀a b,R a b=A++[.row 5 false [au T chv],.row 4 false [zA],.row 4 false [.agg [.int .i64 p,slA 1 (ak o),slA 1 (ak a),slA 1 (ak b)]]]:=⟨_,fun _ _=>rfl⟩
  have hR0:R22 A T chv (some (p,o))=RA [] []:=by rw [hRA]; rfl
  rw [hR0] at lp f0 l0
  have l0:ac false 1 (RA [] []) (.ptr (A.length+2) 0 0)=some (.int .i64 p):=l0
  have ra1:∀a b,(RA a b)[A.length+1]?=some (.row 4 false [zA]):=fun a b=>by rw [hRA]; simp
  have ra2:∀a b,(RA a b)[A.length+2]?=some (.row 4 false [.agg [.int .i64 p,slA 1 (ak o),slA 1 (ak a),slA 1 (ak b)]]):=fun a b=>by rw [hRA]; simp
  have fa:∀j a b,j<4->ab j (RA a b) (.ptr (A.length+2) 0 0)=some (.ptr (A.length+2) 0 j):=fun j a b hj=>by simp [ab,ra2,hj]
  have la0:∀a b,ac false 1 (RA a b) (.ptr (A.length+2) 0 0)=some (.int .i64 p):=fun a b=>by simp [ac,ra2,bP]
  have la1:∀a b,ac false 1 (RA a b) (.ptr (A.length+2) 0 1)=some (slA 1 (ak o)):=fun a b=>by simp [ac,ra2,bP]
  have lall:∀a b,ac true 4 (RA a b) (.ptr (A.length+2) 0 0)=some (.agg [.int .i64 p,slA 1 (ak o),slA 1 (ak a),slA 1 (ak b)]):=fun a b=>by simp [ac,ra2]
  have rset:∀a b a' b',(RA a b).set (A.length+2) (.row 4 false [.agg [.int .i64 p,slA 1 (ak o),slA 1 (ak a'),slA 1 (ak b')]])=RA a' b':=fun a b a' b'=>by
   rw [hRA,hRA,List.set_append_right _ _ (by omega),show A.length+2-A.length=2 by omega]
   rfl
  have st2:∀a,aA 1 (RA [] []) (.ptr (A.length+2) 0 2) (slA 1 (ak a))=some (RA a []):=fun a=>by
   obtain ⟨z1,z2⟩:=gR a
   rw [<-rset [] [] a []]
   simp [aA,ra2,bj,z1,z2,-cellsOf,-AV.solid]
  have st3:∀a b,aA 1 (RA a []) (.ptr (A.length+2) 0 3) (slA 1 (ak b))=some (RA a b):=fun a b=>by
   obtain ⟨z1,z2⟩:=gR b
   rw [<-rset a [] a b]
   simp [aA,ra2,bj,z1,z2,-cellsOf,-AV.solid]
  obtain ⟨RB,hRB⟩:∃R:List Int->List Int->aa,∀a b,R a b=E22 A T chv (some ⟨p,o,a,b⟩):=⟨_,fun _ _=>rfl⟩
  have stB:∀a b,aA 4 (RA a b) (.ptr (A.length+1) 0 0) (.agg [.int .i64 p,slA 1 (ak o),slA 1 (ak a),slA 1 (ak b)])=some (RB a b):=fun a b=>by
   have:(RA a b).set (A.length+1) (.row 4 false [.agg [.int .i64 p,slA 1 (ak o),slA 1 (ak a),slA 1 (ak b)]])=RB a b:=by
    rw [hRA,hRB,List.set_append_right _ _ (by omega),show A.length+1-A.length=1 by omega]
    rfl
   rw [<-this]
   simp [aA,ra1,bj,zA]
  have lB:∀a b,ac true 4 (RB a b) (.ptr (A.length+1) 0 0)=some (.agg [.int .i64 p,slA 1 (ak o),slA 1 (ak a),slA 1 (ak b)]):=fun a b=>by
   have:(RB a b)[A.length+1]?=some (.row 4 false [.agg [.int .i64 p,slA 1 (ak o),slA 1 (ak a),slA 1 (ak b)]]):=by rw [hRB]; simp [E22,uH]
   simp [ac,this]
  have b1:=bz p 0
  rw [decide_eq_false (by omega)] at b1
  have b2:=cF p 1
  have b3:ag .sub (.int .i64 p) (.int .i64 1)=some (.int .i64 (p-1)):=cc (by omega)
  have hsb:∀pr,nC T (p,o)=⟨p,o,st,pr⟩↔pr=(if p > 1 then (lvM (o.length:Int) (bu T o) (p-1)).2.1 else []):=fun pr=>by
   unfold nC
   simp only [<-hst]
   constructor
   ·intro h; injection h with _ _ _ h; exact h.symm
   ·intro h; rw [h]
  have lp:b8 (evC (ax GC wF) 300 fJ) jP 300 (nl (.ptr A.length 0 0) (.ptr (A.length+1) 0 0) (.ptr (A.length+2) 0 0) .nilS Q (.int .i64 L) (.int .i64 0)) A0 =
    some (.exit 0 [.undef,.ptr A.length 0 0,.ptr (A.length+1) 0 0,.undef,.ptr (A.length+2) 0 0,gh (bu T o),d6,d7,d8,.undef,.undef,Q,.int .i64 L,d13,d14,d15,d16,.undef,.undef,.undef] (RA [] [])):=lp
  have h1:=h14 (RA [] []) p
  rw [hl1] at h1
  have h2:=h14 (RA st []) (p-1)
  obtain ⟨pr,hpr⟩:∃pr,pr=(lvM (o.length:Int) (bu T o) (p-1)).2.1:=⟨_,rfl⟩
  rw [show lvT (lvM (o.length:Int) (bu T o) (p-1))=.tup [slA 1 (ak (lvM (o.length:Int) (bu T o) (p-1)).1),slA 1 (ak pr),.bool (lvM (o.length:Int) (bu T o) (p-1)).2.2] by rw [hpr]; rfl] at h2
  have k5:=st2 st
  have k7:=la0 st []
  have k8:=la1 st []
  have k9:=la1 [] []
  have f1:=fun j=>fa j [] []
  have f2:=fun j=>fa j st []
  obtain ⟨n0,hn0⟩:∃n,n=A.length:=⟨_,rfl⟩
  obtain ⟨n1,hn1⟩:∃n,n=A.length+1:=⟨_,rfl⟩
  obtain ⟨n2,hn2⟩:∃n,n=A.length+2:=⟨_,rfl⟩
  rw [<-hn2] at lp f0 l0 bx2 k5 k7 k8 k9
  simp only [<-hn2] at f1 f2
  rw [<-hn1] at lp bx1
  rw [<-hn0] at lp lt bx0
  obtain ⟨W,hW⟩:∃W,W=slA 1 (ak o):=⟨_,rfl⟩
  obtain ⟨V,hV⟩:∃V,V=gh (bu T o):=⟨_,rfl⟩
  rw [<-hV] at lp h1 h2
  obtain ⟨B0,hB0⟩:∃A,A=RA [] []:=⟨_,rfl⟩
  rw [<-hB0] at lp f0 l0 k5 k9 h1
  simp only [<-hB0] at f1
  obtain ⟨S1,hS1⟩:∃W,W=slA 1 (ak st):=⟨_,rfl⟩
  by_cases hp:p > 1
  ·rw [decide_eq_true hp] at b2
   have hsc:(Option.map (nC T) (some (p,o)))=some ⟨p,o,st,pr⟩:=by
    rw [Option.map_some,(hsb pr).2 (by rw [if_pos hp]; exact hpr)]
   rw [hsc,<-hRB]
   rw [show pn (some ⟨p,o,st,pr⟩)=.tup [.agg [.int .i64 p,slA 1 (ak o),slA 1 (ak st),slA 1 (ak pr)],.int .i64 0] from rfl]
   have k1:=lall st pr
   have k2:=stB st pr
   have k3:=lB st pr
   have k6:=st3 st pr
   rw [<-hn2] at k1 k6
   rw [<-hn1] at k2 k3
   obtain ⟨B1,hB1⟩:∃A,A=RA st []:=⟨_,rfl⟩
   rw [<-hB1] at k5 k6 k7 k8 h2
   simp only [<-hB1] at f2
   obtain ⟨B2,hB2⟩:∃A,A=RA st pr:=⟨_,rfl⟩
   rw [<-hB2] at k1 k2 k6
   obtain ⟨B3,hB3⟩:∃A,A=RB st pr:=⟨_,rfl⟩
   rw [<-hB3] at k2 k3 ⊢
   obtain ⟨S2,hS2⟩:∃W,W=slA 1 (ak pr):=⟨_,rfl⟩
   rw [<-hW] at k1 k2 k3 k8 k9 hlo ⊢
   rw [<-hS1] at h1 k1 k2 k3 k5 ⊢
   rw [<-hS2] at h2 k1 k2 k3 k6 ⊢
   obtain ⟨p1,hp1⟩:∃q,q=p-1:=⟨_,rfl⟩
   rw [<-hp1] at h2 b3
   simp [zP,bx0,bx1,bx2,ct,lt,m14,ft,hlen,xS lp,f0,f1,f2,l0,b1,b2,b3,hlo,h1,h2,k1,k2,k3,k5,k6,k7,k8,k9,-aZ,-ac,-aA,-ab,-an,-frz,-cellsOf,-ag]
  ·rw [decide_eq_false hp] at b2
   have hsc:(Option.map (nC T) (some (p,o)))=some ⟨p,o,st,[]⟩:=by
    rw [Option.map_some,(hsb []).2 (by rw [if_neg hp])]
   rw [hsc,<-hRB]
   rw [show pn (some ⟨p,o,st,[]⟩)=.tup [.agg [.int .i64 p,slA 1 (ak o),slA 1 (ak st),slA 1 (ak [])],.int .i64 0] from rfl]
   have k1:=lall st []
   have k2:=stB st []
   have k3:=lB st []
   rw [<-hn2] at k1
   rw [<-hn1] at k2 k3
   obtain ⟨B1,hB1⟩:∃A,A=RA st []:=⟨_,rfl⟩
   rw [<-hB1] at k1 k2 k5 k7
   simp only [<-hB1] at f2
   obtain ⟨B3,hB3⟩:∃A,A=RB st []:=⟨_,rfl⟩
   rw [<-hB3] at k2 k3 ⊢
   obtain ⟨S2,hS2⟩:∃W,W=slA 1 (ak []):=⟨_,rfl⟩
   rw [<-hW] at k1 k2 k3 k9 hlo ⊢
   rw [<-hS1] at h1 k1 k2 k3 k5 ⊢
   rw [<-hS2] at k1 k2 k3 ⊢
   simp [zP,bx0,bx1,bx2,ct,lt,m14,ft,hlen,xS lp,f0,f1,f2,l0,b1,b2,hlo,h1,k1,k2,k3,k5,k7,k9,-aZ,-ac,-aA,-ab,-an,-frz,-cellsOf,-ag]
def M22:aP:=fun args=>evP (ax GC wF) 300 zP 4 args
theorem uB:aq Try.prog GC 23 M22:=aq.of_ev (E:=ax GC wF) (aw Do) rfl Lk yE 4 fun _ _ h=>⟨300,h⟩
theorem zE {T:aR} {chv:AV} (hcv:SlA 2 (T.ch.map chA) chv) (hl:T.ch.length<=200):M22 [au T chv]=some (pn (iC T)):=by
 have h:=H2 (fun _ _ _=>none) (A:=[]) hcv (fun X=>aV (T:=T) (fun A n=>hcv.frz (A:=A) n) _ 3) hl
 unfold H22 at h
 unfold M22 evP
 rw [h,Option.map_some]
 congr 1
 have k1:=fun A o=>(bg 1 (ak o)).frz (A:=A) 2
 unfold pn
 simp only
 simp [frz,uH,k1]
end Clu
namespace Clu
open Go
open Cy (GC iq db bL bO cq aL bc aB a7 cK cy cz dP okA smM smT lvM lvT fU fB iD cn nA)
structure q8 (s:cH) (ov sv pv:AV):Prop where
 o:SlA 1 (ak s.order) ov
 st:SlA 1 (ak s.starts) sv
 pr:SlA 1 (ak s.proof) pv
 per:inI s.period
 ol:s.order.length<=9223372036854775807
 stl:s.starts.length<=9223372036854775807
 sti:∀z∈s.starts,inI z
 prl:s.proof.length<=9223372036854775807
 pri:∀z∈s.proof,inI z
def Chk (T:aR) (s:cH):Prop:=s.order∈aH T/\(1<=s.period/\s.period<=1000000)/\fB (s.order.length:Int) (bu T s.order) s.period s.starts /\
 (if s.period=1 then s.proof=[] else iD (s.order.length:Int) (bu T s.order) (s.period-1) s.proof)
def wg:List (FuncId × aG):=[(44,cI 4 M19),(77,aD 4 Cy.M19),(78,aD 4 Cy.M21)]
@[simp] theorem JY:aC wg 44=some (cI 4 M19):=rfl
@[simp] theorem JX:aC wg 77=some (aD 4 Cy.M19):=rfl
@[simp] theorem JU:aC wg 78=some (aD 4 Cy.M21):=rfl
theorem td:∀f M,aC wg f=some M->aj Try.prog GC f M:=af (aj.of_pureF uC 4) (af (aj.of_pure Cy.uC 4) (af (aj.of_pure Cy.Fw 4) az))
def M26:aP:=fun args=>evP (ax GC wg) 0 rJ 4 args
theorem w6:aq Try.prog GC 48 M26:=aq.of_ev (E:=ax GC wg) (aw td) rfl Hm ss 4 fun _ _ h=>⟨0,h⟩
open Classical in
theorem qj {T:aR} {chv:AV} (hcv:SlA 2 (T.ch.map chA) chv) (hl:T.ch.length<=200) {s:cH} {ov sv pv:AV} (hs:q8 s ov sv pv) :
  M26 [au T chv,.agg [.int .i64 s.period,ov,sv,pv]]=some (.bool (decide (Chk T s))):=by
 have m19:=CC hcv hl hs.o
 have ft:=fun A=>aV (T:=T) (fun A n=>hcv.frz (A:=A) n) A 3
 have fo:∀A n,frz A n ov=ov:=fun A n=>hs.o.frz n
 have fs:∀A n,frz A n sv=sv:=fun A n=>hs.st.frz n
 have fp:∀A n,frz A n pv=pv:=fun A n=>hs.pr.frz n
 have hlo:=hs.o.len
 rw [aB] at hlo
 have hlp:=hs.pr.len
 rw [aB] at hlp
 have iv1:lP sv=some s.starts:=rU hs.st hs.stl hs.sti
 have iv2:lP pv=some s.proof:=rU hs.pr hs.prl hs.pri
 obtain ⟨p,o,st,pr⟩:=s
 simp only at m19 hlo hlp iv1 iv2
 have hper:=hs.per
 simp only [inI] at hper
 have q1:ov.solid=true/\cellsOf ov=[ov]:=by rcases hs.o with ⟨rfl,_⟩ | rfl <;> exact ⟨rfl,rfl⟩
 have q2:sv.solid=true/\cellsOf sv=[sv]:=by rcases hs.st with ⟨rfl,_⟩ | rfl <;> exact ⟨rfl,rfl⟩
 have q3:pv.solid=true/\cellsOf pv=[pv]:=by rcases hs.pr with ⟨rfl,_⟩ | rfl <;> exact ⟨rfl,rfl⟩
 have bx0:aZ 5 (au T chv) []=some (.ptr 0 0 0,[.row 5 false [au T chv]]):=rfl
 have bx1:∀t,aZ 4 (.agg [.int .i64 p,ov,sv,pv]) [.row 5 false [t]]=some (.ptr 1 0 0,[.row 5 false [t],.row 4 false [.agg [.int .i64 p,ov,sv,pv]]]):=fun t=>rfl
 have ct:(cellsOf (au T chv)).length=5:=rfl
 have ca:(cellsOf (.agg [.int .i64 p,ov,sv,pv])).length=4:=rfl
 obtain ⟨A0,hA0⟩:∃A:aa,A=[.row 5 false [au T chv],.row 4 false [.agg [.int .i64 p,ov,sv,pv]]]:=⟨_,rfl⟩
 have lt:ac true 5 A0 (.ptr 0 0 0)=some (au T chv):=by rw [hA0]; rfl
 have fa:∀j,j<4->ab j A0 (.ptr 1 0 0)=some (.ptr 1 0 j):=fun j hj=>by rw [hA0]; simp [ab,hj]
 have l0:ac false 1 A0 (.ptr 1 0 0)=some (.int .i64 p):=by rw [hA0]; rfl
 have l1:ac false 1 A0 (.ptr 1 0 1)=some ov:=by rw [hA0]; rfl
 have l2:ac false 1 A0 (.ptr 1 0 2)=some sv:=by rw [hA0]; rfl
 have l3:ac false 1 A0 (.ptr 1 0 3)=some pv:=by rw [hA0]; rfl
 obtain ⟨t,ht⟩:∃t,t=au T chv:=⟨_,rfl⟩
 rw [<-ht] at m19 ft bx0 ct lt hA0 ⊢
 have bx1:=bx1 t
 rw [<-hA0] at bx1
 unfold M26
 rw [aI _ _ rfl]
 by_cases hO:o∈aH T
 rotate_left
 ·rw [decide_eq_false (fun h=>hO h.1)]
  have e0:A9 T o=none:=if_neg hO
  rw [e0] at m19
  have m19:M19 [t,ov]=some (.tup [.nilS,.int .i64 130]):=m19
  have b1:=da 130 0
  rw [decide_eq_true (by omega)] at b1
  simp [rJ,bx0,bx1,ct,ca,lt,m19,ft,fo,hlo,fa,l1,b1,-aZ,-ac,-ab,-an,-frz,-cellsOf,-ag,bc]
 rw [qd hO] at m19
 have m19:M19 [t,ov]=some (.tup [gh (bu T o),.int .i64 0]):=m19
 have b1:=da 0 0
 rw [decide_eq_false (by omega)] at b1
 have b2:=ce p 1
 by_cases hp1:p<1
 ·rw [decide_eq_false (fun h=>by have:=h.2.1.1; simp only at this; omega)]
  rw [decide_eq_true hp1] at b2
  simp [rJ,bx0,bx1,ct,ca,lt,m19,ft,fo,hlo,fa,l0,l1,b1,b2,-aZ,-ac,-ab,-an,-frz,-cellsOf,-ag,bc]
 rw [decide_eq_false hp1] at b2
 have b3:=cF p 1000000
 by_cases hp2:p > 1000000
 ·rw [decide_eq_false (fun h=>by have:=h.2.1.2; simp only at this; omega)]
  rw [decide_eq_true hp2] at b3
  simp [rJ,bx0,bx1,ct,ca,lt,m19,ft,fo,hlo,fa,l0,l1,b1,b2,b3,-aZ,-ac,-ab,-an,-frz,-cellsOf,-ag,bc]
 rw [decide_eq_false hp2] at b3
 have mv:Cy.M19 [.int .i64 (o.length:Int),gh (bu T o),.int .i64 p,sv]=some (.bool (decide (fB (o.length:Int) (bu T o) p st))):=by
  simp only [Cy.M19,mU hO,iv1]
 have mr:∀p,Cy.M21 [.int .i64 (o.length:Int),gh (bu T o),.int .i64 p,pv]=some (.bool (decide (iD (o.length:Int) (bu T o) p pr))):=fun p=>by
  simp only [Cy.M21,mU hO,iv2]
 have fa':∀A n,frz A n (gh (bu T o))=gh (bu T o):=fun A n=>(bg 4 _).frz n
 obtain ⟨V,hV⟩:∃V,V=gh (bu T o):=⟨_,rfl⟩
 rw [<-hV] at m19 mv fa'
 by_cases hver:fB (o.length:Int) (bu T o) p st
 rotate_left
 ·rw [decide_eq_false hver] at mv
  rw [decide_eq_false (fun h=>hver h.2.2.1)]
  simp [rJ,bx0,bx1,ct,ca,lt,m19,ft,fo,fs,fa',aL,mv,hlo,fa,l0,l1,l2,b1,b2,b3,-aZ,-ac,-ab,-an,-frz,-cellsOf,-ag,bc]
 rw [decide_eq_true hver] at mv
 have b4:=bz p 1
 by_cases hp:p=1
 ·rw [decide_eq_true hp] at b4
  have b5:ag .eql (.int .i64 (pr.length:Int)) (.int .i64 0)=some (.bool (decide (pr=[]))):=by
   rw [bz]
   congr 2
   exact decide_eq_decide.2 ⟨fun h=>List.length_eq_zero_iff.1 (by omega),fun h=>by rw [h]; rfl⟩
  have hc:Chk T ⟨p,o,st,pr⟩↔pr=[]:=by
   constructor
   ·intro h
    have:=h.2.2.2
    simp only at this
    rwa [if_pos hp] at this
   ·intro h
    refine ⟨hO,⟨by simp only; omega,by simp only; omega⟩,hver,?_⟩
    simp only
    rw [if_pos hp]; exact h
  rw [decide_eq_decide.2 hc]
  obtain ⟨d,hd⟩:∃d,d=decide (pr=[]):=⟨_,rfl⟩
  rw [<-hd] at b5 ⊢
  simp [rJ,bx0,bx1,ct,ca,lt,m19,ft,fo,fs,fa',aL,mv,hlo,hlp,fa,l0,l1,l2,l3,b1,b2,b3,b4,b5,bc,-aZ,-ac,-ab,-an,-frz,-cellsOf,-ag]
 ·rw [decide_eq_false hp] at b4
  have b6:ag .sub (.int .i64 p) (.int .i64 1)=some (.int .i64 (p-1)):=cc (by omega)
  have hc:Chk T ⟨p,o,st,pr⟩↔iD (o.length:Int) (bu T o) (p-1) pr:=by
   constructor
   ·intro h
    have:=h.2.2.2
    simp only at this
    rwa [if_neg hp] at this
   ·intro h
    refine ⟨hO,⟨by simp only; omega,by simp only; omega⟩,hver,?_⟩
    simp only
    rw [if_neg hp]; exact h
  rw [decide_eq_decide.2 hc]
  have mr:=mr (p-1)
  rw [<-hV] at mr
  obtain ⟨d,hd⟩:∃d,d=decide (iD (o.length:Int) (bu T o) (p-1) pr):=⟨_,rfl⟩
  rw [<-hd] at mr ⊢
  obtain ⟨p1,hp1'⟩:∃q,q=p-1:=⟨_,rfl⟩
  rw [<-hp1'] at mr b6
  simp [rJ,bx0,bx1,ct,ca,lt,m19,ft,fo,fs,fp,fa',aL,mv,mr,hlo,fa,l0,l1,l2,l3,b1,b2,b3,b4,b6,bc,-aZ,-ac,-ab,-an,-frz,-cellsOf,-ag]
end Clu
namespace Cy
open Go
theorem rL {n:Int} {l:List a7} {p:Int} (hr:cn n l p):(lvM n l p).2.2=true↔¬ Pos l p:=by
 obtain ⟨m,rfl⟩:∃m:Nat,n=(m:Int):=⟨n.toNat,by have:=hr.1.1; omega⟩
 rw [<-kG hr]
 unfold lvM
 rw [if_pos hr,Int.toNat_natCast]
 split
 ·rename_i h; simp [h]
 ·rename_i h; simp [h]
theorem dZ {n:Int} {l:List a7} {p:Int} (hr:cn n l p) (h:(lvM n l p).2.2=true):(lvM n l p).2.1=[]/\fB n l p (lvM n l p).1/\(∀x∈(lvM n l p).1,x<=100000000)/\∀x,fB n l p x->∀v:Nat,(v:Int)<n->(lvM n l p).1.getD v 0<=x.getD v 0:=by
 obtain ⟨m,rfl⟩:∃m:Nat,n=(m:Int):=⟨n.toNat,by have:=hr.1.1; omega⟩
 have hv:=hr.1.2.2
 have hn:=hr.1.1
 have e:lvM m l p=((bQ (lar p l) m).1,[],true):=by
  unfold lvM at h ⊢
  rw [if_pos hr,Int.toNat_natCast] at h ⊢
  split
  ·rfl
  ·rename_i h'
   rw [if_neg h'] at h; cases h
 have hlv:(bQ (lar p l) m).2=true:=by
  have:=(rL hr).1 h
  exact (kG hr).2 this
 obtain ⟨h1,h2,h3,h4,h5⟩:=lK (io (p:=p) hv)
 rw [e]
 have key:∀x∈(bQ (lar p l) m).1,0<=x/\x<=100000000:=?_
 ·refine ⟨rfl,⟨hr,by rw [h1],fun x hx=>by have:=key x hx; omega,h4 hlv⟩,fun x hx=>(key x hx).2,fun x hx v hvm=>?_⟩
  refine h5 x hx.2.2.2 (fun w hw=>?_) v (by omega)
  have hwl:w<x.length:=by have:=hx.2.1; omega
  have hg:x.getD w 0=x[w]:=by rw [List.getD_eq_getElem?_getD,List.getElem?_eq_getElem hwl]; rfl
  rw [hg]
  exact (hx.2.2.1 _ (List.getElem_mem hwl)).1
 intro x hx'
 obtain ⟨v,hv',rfl⟩:=List.mem_iff_getElem.1 hx'
 have hvn:v<m:=by rw [<-h1]; exact hv'
 have hg:(bQ (lar p l) m).1.getD v 0=(bQ (lar p l) m).1[v]:=by rw [List.getD_eq_getElem?_getD,List.getElem?_eq_getElem hv']; rfl
 have h0:=h2 v
 rw [hg] at h0
 refine ⟨h0,?_⟩
 obtain ⟨u,r,k1,k2,k3⟩:=h3 v hvn
 have hN:=(nW (io (p:=p) hv)).1 hlv
 obtain ⟨r',j1,j2,j3⟩:=FE (io (p:=p) hv) hN _ r u v rfl k1 k2
 rw [hg] at k3
 have hbd:∀ {r:List dg} {u v:Nat},isW (lar p l) u r v->jb r<=3000000*r.length:=by
  intro r
  induction r with
  | nil=>intro _ _ _; simp [jb]
  | cons a r ih=>
   rintro u v ⟨q1,_,q3⟩
   have:=ih q3
   have:=(uR (show m<=32 by omega) hr.2 hv a q1).2.2.2
   simp only [jb,List.length_cons]
   omega
 have:=hbd j1
 omega
theorem qE {n:Int} {l:List a7} {p:Int} (hr:cn n l p) (h:(lvM n l p).2.2=false):(lvM n l p).1=[]/\iD n l p (lvM n l p).2.1/\(lvM n l p).2.1.length<=32/\∀z∈(lvM n l p).2.1,inI z:=by
 obtain ⟨m,rfl⟩:∃m:Nat,n=(m:Int):=⟨n.toNat,by have:=hr.1.1; omega⟩
 have hlv:¬ (bQ (lar p l) m).2=true:=fun h'=>by
  have:=(rL hr).2 ((kG hr).1 h')
  rw [h] at this; cases this
 obtain ⟨res,u,xs,k1,k2,k3,k4,k5,k6,k7⟩:=yh hr hlv
 have e:lvM m l p=([],res,false):=by
  unfold lvM
  rw [if_pos hr,Int.toNat_natCast,if_neg hlv,k1]; rfl
 rw [e]
 refine ⟨rfl,⟨hr,_,_,k7,k6⟩,by rw [k2]; simpa using k5,fun z hz=>?_⟩
 unfold exM at k7
 simp only [Option.ite_none_right_eq_some] at k7
 have:=k7.1.2 z hz
 have:=hr.1.2.1
 unfold inI; omega
theorem E9 {n:Int} {l:List a7} {p:Int} {s:List Int} (h:fB n l p s):s.length<=32/\∀z∈s,inI z:=by
 obtain ⟨h1,h2,h3,_⟩:=h
 have:=h1.1.1
 refine ⟨by omega,fun z hz=>?_⟩
 have:=h3 z hz
 unfold inI; omega
theorem sY {n:Int} {l:List a7} {p:Int} {s:List Int} (h:fB n l p s):¬ Pos l p:=rR h.1.1.2.2 h.2.2.2
theorem xi {n:Int} {l:List a7} {p:Int} {c:List Int} (h:iD n l p c):Pos l p:=by
 obtain ⟨_,s,t,h1,h2⟩:=h
 obtain ⟨u,xs,k1,k2,k3,k4,k5,k6⟩:=AT h1
 exact ⟨u,xs,k2,by omega⟩
open Classical in
theorem m19 {n:Int} {a b:AV} {l:List a7} {p:Int} {s:List Int} (ha:cy a=some l) (hb:lP b=some s):M19 [.int .i64 n,a,.int .i64 p,b]=some (.bool (decide (fB n l p s))):=by simp only [M19,ha,hb]
end Cy
namespace Clu
open Go
open Cy (GC a7 cK cy cz dP okA smM smT lvM lvT fB iD cn Pos rL dZ qE sY xi)
theorem AL {T:aR} {s:Option (Int × List Int)} (h:sOk T s):cz (mN s):=by
 unfold mN cz
 cases s with
 | none=>simp
 | some x=>have:=h x rfl; simp only; omega
structure Bh (T:aR) (s:Option (Int × List Int)) (l:List (List Int)):Prop where
 ok:sOk T s
 no:∀x,s=some x->¬ Pos (bu T x.2) x.1/\∃l1 l2,l=l1++x.2 :: l2/\∀o∈l1,Pos (bu T o) x.1
 pos:∀o∈l,∀q,1<=q->q<=mN s->Pos (bu T o) q
theorem Bh.step {T:aR} {s:Option (Int × List Int)} {l:List (List Int)} (h:Bh T s l) {o:List Int} (hO:o∈aH T):Bh T (iB T s o) (l++[o]):=by
 have hper:=AL h.ok
 have hok:=qX h.ok hO
 have hv:=(t9 hO).1
 unfold iB at hok ⊢
 cases hm:smM (o.length:Int) (bu T o) 1 (mN s) with
 | none=>
  rw [hm] at hok
  have hn:=Dt hper hv hm
  refine ⟨h.ok,fun x hx=>?_,fun o' ho' q h1 h2=>?_⟩
  ·obtain ⟨k1,l1,l2,k2,k3⟩:=h.no x hx
   exact ⟨k1,l1,l2++[o],by rw [k2]; simp,k3⟩
  ·rcases List.mem_append.1 ho' with h3 | h3
   ·exact h.pos o' h3 q h1 h2
   ·rw [List.mem_singleton] at h3
    subst h3
    exact hn q h1 h2
 | some p=>
  rw [hm] at hok
  obtain ⟨k1,k2,k3,k4,k5⟩:=th hper hm
  refine ⟨hok,fun x hx=>?_,fun o' ho' q h1 h2=>?_⟩
  ·injection hx with hx
   subst hx
   exact ⟨k4,l,[],rfl,fun o' ho'=>h.pos o' ho' p k1 k2⟩
  ·have h2:q<=p-1:=h2
   rcases List.mem_append.1 ho' with h3 | h3
   ·exact h.pos o' h3 q h1 (by omega)
   ·rw [List.mem_singleton] at h3
    subst h3
    exact k5 q h1 (by omega)
theorem Bh.fold {T:aR}:∀(r:List (List Int)) {s:Option (Int × List Int)} {l:List (List Int)},Bh T s l->(∀o∈r,o∈aH T)->Bh T (r.foldl (iB T) s) (l++r)
 | [],s,l,h,_=>by simpa using h
 | o :: r,s,l,h,hr=>by
  have:=Bh.fold r (h.step (hr o (by simp))) (fun o' ho'=>hr o' (by simp [ho']))
  rw [List.append_assoc] at this
  exact this
theorem vz (T:aR):Bh T (pq T) (aH T):=by
 have:=Bh.fold (T:=T) (aH T) (s:=none) (l:=[]) ⟨fun x h=>(by cases h),fun x h=>(by cases h),fun o h=>(by cases h)⟩ (fun _ h=>h)
 rwa [List.nil_append] at this
theorem eY {T:aR} {o:List Int} (hO:o∈aH T) {p:Int} (h1 : -1000000<=p) (h2:p<=1000000):cn (o.length:Int) (bu T o) p:=⟨(t9 hO).1,h1,h2⟩
theorem Hf {T:aR} {o:List Int} (hO:o∈aH T) {p:Int} (h1:1<=p) (h2:p<=1000000) (hp:¬ Pos (bu T o) p) (hq:1<p->Pos (bu T o) (p-1)):Chk T (nC T (p,o)):=by
 have hR:=eY hO (p:=p) (by omega) h2
 have k1:=dZ hR ((rL hR).2 hp)
 refine ⟨hO,⟨h1,h2⟩,k1.2.1,?_⟩
 show if p=1 then (if p > 1 then (lvM (o.length:Int) (bu T o) (p-1)).2.1 else [])=[] else _
 by_cases e:p=1
 ·rw [if_pos e,if_neg (by omega)]
 ·rw [if_neg e]
  have hR':=eY hO (p:=p-1) (by omega) (by omega)
  have hf:(lvM (o.length:Int) (bu T o) (p-1)).2.2=false:=by
   cases h:(lvM (o.length:Int) (bu T o) (p-1)).2.2 with
   | false=>rfl
   | true=>exact absurd (hq (by omega)) ((rL hR').1 h)
  have:=(qE hR' hf).2.1
  show iD (o.length:Int) (bu T o) (p-1) (if p > 1 then (lvM (o.length:Int) (bu T o) (p-1)).2.1 else [])
  rw [if_pos (by omega)]
  exact this
theorem kq {T:aR} {s:cH} (h:iC T=some s):Chk T s:=by
 unfold iC at h
 rw [Option.map_eq_some_iff] at h
 obtain ⟨⟨p,o⟩,h,rfl⟩:=h
 have hB:=vz T
 rw [h] at hB
 obtain ⟨h1,h2,h3⟩:=hB.ok _ rfl
 exact Hf h3 h1 h2 (hB.no _ rfl).1 fun hp=>hB.pos o h3 (p-1) (by simp only at h1; omega) (Int.le_refl _)
theorem zd {T:aR} {s:cH} (h:iC T=some s):pq T=some (s.period,s.order)/\s=nC T (s.period,s.order):=by
 unfold iC at h
 rw [Option.map_eq_some_iff] at h
 obtain ⟨⟨p,o⟩,h,rfl⟩:=h
 exact ⟨h,rfl⟩
theorem Ey {T:aR} {p:Int} {o:List Int} (hO:o∈aH T) (h1:1<=p) (h2:p<=1000000) (hp:¬ Pos (bu T o) p) (hb:∀o'∈aH T,∀q,1<=q->q<p->Pos (bu T o') q):∃o',o'∈aH T/\¬ Pos (bu T o') p/\pq T=some (p,o'):=by
 have hB:=vz T
 cases hs:pq T with
 | none=>
  rw [hs] at hB
  exact absurd (hB.pos o hO p h1 h2) hp
 | some x=>
  obtain ⟨r,o'⟩:=x
  rw [hs] at hB
  obtain ⟨k1,k2,k3⟩:=hB.ok _ rfl
  have k4:=(hB.no _ rfl).1
  simp only at k1 k2 k3 k4
  have:r=p:=by
   rcases Int.lt_trichotomy r p with h | h | h
   ·exact absurd (hb o' k3 r k1 h) k4
   ·exact h
   ·exact absurd (hB.pos o hO p h1 (by show p<=r-1; omega)) hp
  subst this
  exact ⟨o',k3,k4,rfl⟩
end Clu
end Go.Proofs.Ytkcjhljbgjpklaa
