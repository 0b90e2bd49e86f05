import Derived.Test.YtkcjhljbgjpklaaUE04
import Derived.Test.YtkcjhljbgjpklaaChecked
import Derived.KernelRfl
set_option maxRecDepth 100000
set_option maxHeartbeats 4000000
noncomputable section
namespace Go.Proofs.Ytkcjhljbgjpklaa
namespace Cy
open Go
def Pos (l:List a8) (p:Int):Prop:=∃(u:Int) (xs:List eU),sc l u xs u/\0<iG p xs
theorem ni {l:List a8} {x:eU} (h:x∈num l):uA l (x.2:Int)=x.1/\0<=(x.2:Int)/\(x.2:Int)<=(l.length:Int)-1:=by
 obtain ⟨hi,he⟩:=kT h
 refine ⟨?_,by omega,by omega⟩
 unfold uA
 rw [Int.toNat_natCast,List.getD_eq_getElem?_getD,List.getElem?_eq_getElem hi]
 exact he
theorem Cu {p:Int} {l:List a8}:∀ {xs:List eU} {u v s t:Int},sc l u xs v->exL p l (xs.map fun y=>(y.2:Int)) u s t=some (s+iG p xs,t+kP xs)
 | [],u,v,s,t,_=>by simp [exL,iG,kP]
 | x :: r,u,v,s,t,⟨h1,h2,h3⟩=>by
  obtain ⟨e,_⟩:=ni h1
  simp only [List.map_cons,exL,e,if_pos h2]
  rw [Cu h3]
  simp only [iG,kP,List.map_cons,List.sum_cons]
  congr 2 <;> omega
theorem od {l:List a8}:∀ {xs:List eU} {u v:Int} (h:xs≠[]),sc l u xs v->(xs.getLast h).1.t=v/\xs.getLast h∈num l
 | [x],u,v,_,⟨h1,h2,h3⟩=>⟨h3,h1⟩
 | x :: y :: r,u,v,_,⟨h1,h2,h3⟩=>by
  rw [List.getLast_cons (by simp)]
  exact od (by simp) h3
theorem yE {p:Int} {l:List a8} {u:Int} {xs:List eU} (h:sc l u xs u) (h1:1<=xs.length) (h2:xs.length<=200):exM p l (xs.map fun y=>(y.2:Int))=some (iG p xs,kP xs):=by
 have hne:xs≠[]:=fun e=>by rw [e] at h1; simp at h1
 have hall:∀x∈xs,x∈num l:=by
  have:∀ {ys:List eU} {a b:Int},sc l a ys b->∀x∈ys,x∈num l:=by
   intro ys
   induction ys with
   | nil=>intro _ _ _ x hx; cases hx
   | cons y r ih=>
    rintro a b ⟨k1,_,k3⟩ x hx
    rcases List.mem_cons.1 hx with rfl | hx
    ·exact k1
    ·exact ih k3 x hx
  exact this h
 unfold exM
 rw [if_pos ⟨by simpa using ⟨h1,h2⟩,fun x hx=>by
  obtain ⟨y,hy,rfl⟩:=List.mem_map.1 hx
  exact (ni (hall y hy)).2⟩]
 obtain ⟨e1,e2⟩:=od hne h
 have:(xs.map fun y=>(y.2:Int)).getLastD 0=((xs.getLast hne).2:Int):=by
  rw [List.getLastD_eq_getLast?,List.getLast?_map,List.getLast?_eq_some_getLast hne]; rfl
 rw [this,(ni e2).1,e1,Cu h]
 simp
theorem vE {p:Int} {l:List a8}:∀ {ys:List Int} {u s t:Int} {r:Int × Int},t9 l ys->exL p l ys u s t=some r->∃(v:Int) (xs:List eU),ys=xs.map (fun y=>(y.2:Int))/\sc l u xs v/\r=(s+iG p xs,t+kP xs)
 | [],u,s,t,r,_,h=>by
  simp only [exL,Option.some.injEq] at h
  exact ⟨u,[],rfl,rfl,by rw [<-h]; simp [iG,kP]⟩
 | i :: ys,u,s,t,r,hi,h=>by
  have hi0:=hi i (by simp)
  obtain ⟨j,hj,rfl,he⟩:=rr hi0
  simp only [exL] at h
  split at h
  ·rename_i hf
   obtain ⟨v,xs,k1,k2,k3⟩:=vE (fun x hx=>hi x (by simp [hx])) h
   rw [he] at hf k2 k3
   refine ⟨v,(l[j],j) :: xs,by simp [k1],⟨List.mem_of_getElem? (fI l j hj),hf,k2⟩,?_⟩
   rw [k3]
   simp only [iG,kP,List.map_cons,List.sum_cons]
   congr 1 <;> omega
  ·cases h
theorem Bl {p:Int} {l:List a8} {ys:List Int} {s t:Int} (h:exM p l ys=some (s,t)):∃(u:Int) (xs:List eU),ys=xs.map (fun y=>(y.2:Int))/\sc l u xs u/\1<=xs.length/\xs.length<=200/\s=iG p xs/\t=kP xs:=by
 unfold exM at h
 simp only [Option.ite_none_right_eq_some] at h
 obtain ⟨⟨h1,h2⟩,h3⟩:=h
 obtain ⟨v,xs,rfl,k2,k3⟩:=vE h2 h3
 simp only [List.length_map] at h1
 have hne:xs≠[]:=fun e=>by rw [e] at h1; simp at h1
 obtain ⟨e1,e2⟩:=od hne k2
 have:(xs.map fun y=>(y.2:Int)).getLastD 0=((xs.getLast hne).2:Int):=by
  rw [List.getLastD_eq_getLast?,List.getLast?_map,List.getLast?_eq_some_getLast hne]; rfl
 rw [this,(ni e2).1,e1] at k2
 simp only [Prod.mk.injEq,Int.zero_add] at k3
 exact ⟨v,xs,rfl,k2,h1.1,h1.2,k3.1,k3.2⟩
theorem ob {n p:Int} {l:List a8} (hv:∀x∈l,okA n x) {s:List Int} (h:jB (lar p l) s):¬ Pos l p:=by
 rintro ⟨u,xs,h1,h2⟩
 obtain ⟨k1,k2⟩:=Mh (p:=p) hv h1
 have:=kg h k1
 omega
theorem iz {n:Nat} {p:Int} {l:List a8} (hv:∀x∈l,okA n x):∀a∈lar p l,a.1<n/\a.2.1<n:=fun a ha=>by
 obtain ⟨x,hx,rfl⟩:=List.mem_map.1 ha
 obtain ⟨q1,q2,_⟩:=hv x hx
 simp only; omega
section
variable {n:Nat} {p:Int} {l:List a8} (hr:ck n l p)
include hr
theorem kW:(bO (lar p l) n).2=true↔¬ Pos l p:=by
 have hv:=hr.1.2.2
 have hn:=hr.1.1
 constructor
 ·intro h
  exact ob hv ((l7 (iz hv)).2.2.2.1 h)
 ·intro h
  rw [n9 (iz hv),<-vI hv (by omega) hr.2]
  cases hc:rn p l n with
  | none=>rfl
  | some res=>
   obtain ⟨u,xs,_,k2,_,_,k5⟩:=vH hv (by omega) hr.2 hc
   exact absurd ⟨u,xs,k2,k5⟩ h
theorem yM (h:¬ (bO (lar p l) n).2=true):∃(res:List Int) (u:Int) (xs:List eU),rn p l n=some res/\res=xs.map (fun y=>(y.2:Int))/\sc l u xs u/\1<=xs.length/\xs.length<=32/\0<iG p xs/\exM p l res=some (iG p xs,kP xs):=by
 have hv:=hr.1.2.2
 have hn:=hr.1.1
 rw [n9 (iz hv),<-vI hv (by omega) hr.2] at h
 cases hc:rn p l n with
 | none=>exact absurd hc h
 | some res=>
  obtain ⟨u,xs,k1,k2,k3,k4,k5⟩:=vH hv (by omega) hr.2 hc
  exact ⟨res,u,xs,rfl,k1,k2,k3,by omega,k5,by rw [k1]; exact yE k2 k3 (by omega)⟩
end
theorem x5 {n p:Int} {l:List a8} (hn:n<=32) (hp:cw p) (hv:∀x∈l,okA n x):∀ {xs:List eU} {u v:Int},sc l u xs v->(-(3000000*(xs.length:Int))<=iG p xs/\iG p xs<=3000000*xs.length)/\(-(2*(xs.length:Int))<=kP xs/\kP xs<=2*xs.length)
 | [],_,_,_=>by simp [iG,kP]
 | x :: r,u,v,⟨h1,h2,h3⟩=>by
  have h4:=x5 hn hp hv h3
  obtain ⟨q1,q2,q3,q4⟩:=rX hv h1
  have hle:=gO (n:=32) (a:=x.1) ⟨by omega,by omega,q3,q4⟩ hp
  simp only [iG,kP,List.map_cons,List.sum_cons,List.length_cons] at h4 ⊢
  omega
def smL (n:Nat) (l:List a8) (hi:Int):Nat->Int->Option Int
 | 0,_=>none
 | m+1,p=>open Classical in if p<=hi/\ck n l p then
   (if (bO (lar p l) n).2=true then some p
    else if ((exM p l ((rn p l n).getD [])).getD (0,0)).2<=0 then none
    else smL n l hi m (p+(((exM p l ((rn p l n).getD [])).getD (0,0)).1+((exM p l ((rn p l n).getD [])).getD (0,0)).2-1).tdiv ((exM p l ((rn p l n).getD [])).getD (0,0)).2))
  else none
def smM (n:Int) (l:List a8) (lo hi:Int):Option Int:=if cw hi then smL n.toNat l hi (hi-lo+2).toNat lo else none
theorem uN {s t:Int} (hs:0<s) (ht:0<t):1<=(s+t-1).tdiv t/\(s+t-1).tdiv t<=s/\((s+t-1).tdiv t-1)*t<s/\s<=(s+t-1).tdiv t*t:=by
 rw [Int.tdiv_eq_ediv_of_nonneg (by omega)]
 have h1:=Int.ediv_mul_add_emod (s+t-1) t
 have h2:=Int.emod_nonneg (s+t-1) (show t≠0 by omega)
 have h3:=Int.emod_lt_of_pos (s+t-1) ht
 obtain ⟨d,hd⟩:∃d,d=(s+t-1) / t:=⟨_,rfl⟩
 rw [<-hd] at h1 ⊢
 have h4:1<=d:=by
  rcases Int.lt_or_le d 1 with h | h
  ·have:d*t<=0:=Int.mul_nonpos_of_nonpos_of_nonneg (by omega) (by omega)
   omega
  ·exact h
 have h5:(d-1)*t=d*t-t:=by rw [Int.sub_mul]; omega
 refine ⟨h4,?_,by omega,by omega⟩
 rcases Int.lt_or_le s d with h | h
 ·have:s*t<=(d-1)*t:=Int.mul_le_mul_of_nonneg_right (by omega) (by omega)
  have h6:s*1<=s*t:=Int.mul_le_mul_of_nonneg_left (by omega) (by omega)
  omega
 ·exact h
theorem rV {l:List a8} {p q:Int} {u:Int} {xs:List eU} (h:sc l u xs u) (hq:0<iG p xs-(q-p)*kP xs):Pos l q:=by
 refine ⟨u,xs,h,?_⟩
 rw [xZ] at hq ⊢
 have:(q-p)*kP xs=q*kP xs-p*kP xs:=by rw [Int.sub_mul]
 omega
theorem qH {n:Nat} {l:List a8} {hi:Int} (hhi:cw hi):∀(m:Nat) (p:Int),hi-p+1<m ->
  (∀r,smL n l hi m p=some r->p<=r/\r<=hi/\ck n l r/\¬ Pos l r/\∀q,p<=q->q<r->Pos l q)/\(smL n l hi m p=none->ck n l p->∀q,p<=q->q<=hi->Pos l q)
 | 0,p,hm=>⟨fun r h=>(by cases h),fun _ _ q h1 h2=>by omega⟩
 | m+1,p,hm=>by
  unfold smL
  by_cases hp:p<=hi/\ck n l p
  rotate_left
  ·rw [if_neg hp]
   exact ⟨fun r h=>(by cases h),fun _ h q h1 h2=>absurd ⟨by omega,h⟩ hp⟩
  rw [if_pos hp]
  by_cases hl:(bO (lar p l) n).2=true
  ·rw [if_pos hl]
   refine ⟨fun r h=>?_,fun h=>by cases h⟩
   injection h with h; subst h
   exact ⟨Int.le_refl _,hp.1,hp.2,(kW hp.2).1 hl,fun q h1 h2=>by omega⟩
  rw [if_neg hl]
  obtain ⟨res,u,xs,k1,k2,k3,k4,k5,k6,k7⟩:=yM hp.2 hl
  rw [k1,Option.getD_some,k7,Option.getD_some]
  simp only
  by_cases ht:kP xs<=0
  ·rw [if_pos ht]
   refine ⟨fun r h=>(by cases h),fun _ _ q h1 h2=>rV k3 (p:=p) ?_⟩
   have:(q-p)*kP xs<=0:=Int.mul_nonpos_of_nonneg_of_nonpos (by omega) ht
   omega
  rw [if_neg ht]
  obtain ⟨d1,d2,d3,d4⟩:=uN k6 (show 0<kP xs by omega)
  obtain ⟨d,hd⟩:∃d,d=(iG p xs+kP xs-1).tdiv (kP xs):=⟨_,rfl⟩
  rw [<-hd] at d1 d2 d3 d4 ⊢
  have hbelow:∀q,p<=q->q<p+d->Pos l q:=fun q h1 h2=>rV k3 (p:=p) (by
   have:(q-p)*kP xs<=(d-1)*kP xs:=Int.mul_le_mul_of_nonneg_right (by omega) (by omega)
   omega)
  obtain ⟨i1,i2⟩:=qH hhi m (p+d) (by omega)
  constructor
  ·intro r h
   obtain ⟨j1,j2,j3,j4,j5⟩:=i1 r h
   refine ⟨by omega,j2,j3,j4,fun q h1 h2=>?_⟩
   by_cases hq:q<p+d
   ·exact hbelow q h1 hq
   ·exact j5 q (by omega) h2
  ·intro h _ q h1 h2
   by_cases hq:q<p+d
   ·exact hbelow q h1 hq
   ·have hR:ck n l (p+d):=⟨hp.2.1,by
     have:=hp.2.2
     unfold cw at *
     omega⟩
    exact i2 h hR q (by omega) h2
open Go
def iL (n:Int) (l:List a8) (p:Int) (c:List Int):Prop:=ck n l p/\∃s t,exM p l c=some (s,t)/\0<s
open Classical in
def M21:aP:=fun args=>match args with
 | [.int .i64 n,a,.int .i64 p,b]=>match cr a,mh b with
  | some l,some s=>some (.bool (decide (iL n l p s)))
  | _,_=>none
 | _=>none
def IK:List (FuncId × aG):=[(73,cA 4 M25),(75,aD 4 M40)]
@[simp] theorem KI:aC IK 73=some (cA 4 M25):=rfl
@[simp] theorem KH:aC IK 75=some (aD 4 M40):=rfl
theorem DH:∀f M,aC IK f=some M->aj Try.prog GC f M:=af (aj.of_pureF qD 4) (af (aj.of_pure nG 4) aA)
open Classical in
theorem FR:au Try.prog GC 78 M21:=by
 refine au.of_ev (E:=ax GC IK) (aw DH) rfl M0 Cw 1 ?_
 intro args r h
 unfold M21 at h
 split at h
 rotate_left
 ·cases h
 rename_i n a p b
 split at h
 rotate_left
 ·cases h
 rename_i l s hl hs
 injection h with h; subst h
 refine ⟨0,?_⟩
 obtain ⟨hb,_,hsl⟩:=jn hs
 have f1:∀A n,frz A n a=a:=fun A n=>eJ hl A n
 have f2:∀A n,frz A n b=b:=fun A n=>hb.frz n
 have f4:=me hs
 have m1:M25 [.int .i64 n,a,.int .i64 p]=some (if ck n l p then .tup [cP n.toNat p l,.bool true] else .tup [.nilP,.bool false]):=by simp only [M25,hl,Option.map_some]
 rw [aK _ _ rfl]
 by_cases hr:ck n l p
 rotate_left
 ·rw [if_neg hr] at m1
  rw [decide_eq_false (show ¬ iL n l p s from fun h=>hr h.1)]
  simp [Fa,f1,m1,aJ,bb,-frz]
 rw [if_pos hr] at m1
 obtain ⟨m,rfl⟩:∃m:Nat,n=(m:Int):=⟨n.toNat,by have:=hr.1.1; omega⟩
 rw [Int.toNat_natCast] at m1
 have m40:=vY hr hb hsl
 obtain ⟨W1,O,hW⟩:∃W1 O,cP m p l=.fp [.int .i64 (m:Int),W1,O]:=⟨_,_,rfl⟩
 rw [hW] at m1 m40
 have hfw:∀B,frz B 4 (.fp [.int .i64 (m:Int),W1,O])=.fp [.int .i64 (m:Int),W1,O]:=fun _=>rfl
 have hnr:bh 4 (.fp [.int .i64 (m:Int),W1,O])=true:=rfl
 cases he:exM p l s with
 | none=>
  rw [he] at m40
  rw [decide_eq_false (show ¬ iL m l p s from fun h=>by
   obtain ⟨_,x,y,h,_⟩:=h
   rw [he] at h; cases h)]
  simp only [exT,Option.getD_none,Option.isSome_none] at m40
  simp [Fa,f1,f2,m1,m40,hfw,f4,aJ,bb,-frz]
 | some st=>
  obtain ⟨x,y⟩:=st
  rw [he] at m40
  simp only [exT,Option.getD_some,Option.isSome_some] at m40
  have b1:ai .gtr (.int .i64 x) (.int .i64 0)=some (.bool (decide (x > 0))):=by simp [ai]
  have e:decide (iL m l p s)=decide (x > 0):=by
   rw [Bool.eq_iff_iff,decide_eq_true_eq,decide_eq_true_eq]
   constructor
   ·rintro ⟨_,a',b',h,h2⟩
    rw [he] at h
    injection h with h
    injection h with h h'
    omega
   ·intro h
    exact ⟨hr,x,y,he,h⟩
  rw [e]
  obtain ⟨d,hd⟩:∃d,d=decide (x > 0):=⟨_,rfl⟩
  rw [<-hd] at b1 ⊢
  simp [Fa,f1,f2,m1,m40,hfw,f4,b1,aJ,bb,-frz,-ai]
def yo:List (FuncId × aG):=[(73,cA 4 M25),(74,cA 4 M26),(76,aD 4 M27),(75,aD 4 M40),(72,aD 4 M41)]
@[simp] theorem KB:aC yo 73=some (cA 4 M25):=rfl
@[simp] theorem KA:aC yo 74=some (cA 4 M26):=rfl
@[simp] theorem Kz:aC yo 76=some (aD 4 M27):=rfl
@[simp] theorem Ky:aC yo 75=some (aD 4 M40):=rfl
@[simp] theorem Kx:aC yo 72=some (aD 4 M41):=rfl
theorem DF:∀f M,aC yo f=some M->aj Try.prog GC f M:=af (aj.of_pureF qD 4) (af (aj.of_pureF xr 4) (af (aj.of_pure uU 4) (af (aj.of_pure nG 4) (af (aj.of_pure nF 4) aA))))
def smT (r:Option Int):AV:=.tup [.int .i64 (r.getD 0),.bool r.isSome]
open Classical in
theorem BQ (fuel:Nat) {a:AV} {l:List a8} (ha:cr a=some l) (n:Int) {hi:Int} (hhi:cw hi):∀(m:Nat) (p:Int),0<m->hi-p+1<m ->
  match smL n.toNat l hi m p with
  | some q=>∃v7 v8 v9 v10 v11 v12 v13 v14 v15 v16,bU (evC (ax GC yo) fuel fR) it m (nB (.int .i64 n) a (.int .i64 hi) (.int .i64 p)) []=some (.ret [.int .i64 n,a,.undef,.int .i64 hi,.int .i64 q,.bool true,.int .i64 q,v7,v8,v9,v10,v11,v12,v13,v14,v15,v16] [])
  | none=>∃v6 v7 v8 v9 v10 v11 v12 v13 v14 v15 v16,bU (evC (ax GC yo) fuel fR) it m (nB (.int .i64 n) a (.int .i64 hi) (.int .i64 p)) []=some (.exit 0 [.int .i64 n,a,.undef,.int .i64 hi,.undef,.undef,v6,v7,v8,v9,v10,v11,v12,v13,v14,v15,v16] [])
 | 0,p,h0,hm=>by omega
 | m+1,p,h0,hm=>by
  have f1:∀A n,frz A n a=a:=fun A n=>eJ ha A n
  have m1:M25 [.int .i64 n,a,.int .i64 p]=some (if ck n l p then .tup [cP n.toNat p l,.bool true] else .tup [.nilP,.bool false]):=by simp only [M25,ha,Option.map_some]
  have b1:ai .leq (.int .i64 p) (.int .i64 hi)=some (.bool (decide (p<=hi))):=by simp [ai]
  unfold smL
  rw [aI,zq]
  by_cases hp:p<=hi
  rotate_left
  ·rw [if_neg (fun h=>hp h.1)]
   rw [decide_eq_false hp] at b1
   refine ⟨.int .i64 p,.undef,.undef,.undef,.undef,.undef,.undef,.bool false,.undef,.undef,.undef,?_⟩
   simp [fR,b1,-ai]
  rw [decide_eq_true hp] at b1
  by_cases hr:ck n l p
  rotate_left
  ·rw [if_neg (fun h=>hr (by
    have h2:=h.2
    have h3:=h2.1.1
    have:((n.toNat:Nat):Int)=n:=by omega
    rw [this] at h2; exact h2))]
   rw [if_neg hr] at m1
   refine ⟨.int .i64 p,.nilP,.bool false,.undef,.undef,.undef,.undef,.bool true,.bool true,.undef,.undef,?_⟩
   simp [fR,b1,m1,f1,aJ,-frz,-ai]
  rw [if_pos hr] at m1
  obtain ⟨k,rfl⟩:∃k:Nat,n=(k:Int):=⟨n.toNat,by have:=hr.1.1; omega⟩
  rw [Int.toNat_natCast] at m1 ⊢
  rw [if_pos ⟨hp,hr⟩]
  have m2:=qw hr
  have m3:=vZ hr
  obtain ⟨W1,O,hW⟩:∃W1 O,cP k p l=.fp [.int .i64 (k:Int),W1,O]:=⟨_,_,rfl⟩
  have hfw:∀B,frz B 4 (.fp [.int .i64 (k:Int),W1,O])=.fp [.int .i64 (k:Int),W1,O]:=fun _=>rfl
  have hnr:bh 4 (.fp [.int .i64 (k:Int),W1,O])=true:=rfl
  by_cases hok:(bO (lar p l) k).2=true
  ·rw [if_pos hok]
   rw [hok] at m2
   rw [hW] at m1 m2
   refine ⟨.fp [.int .i64 (k:Int),W1,O],.bool true,.bool true,.undef,.undef,.undef,.bool true,.bool false,.bool true,.undef,?_⟩
   obtain ⟨S,hS⟩:∃S,S=slA 1 (ak (bO (lar p l) k).1):=⟨_,rfl⟩
   rw [<-hS] at m2
   simp [fR,b1,m1,m2,f1,hfw,aJ,-frz,-ai]
  rw [if_neg hok]
  obtain ⟨res,u,xs,k1,k2,k3,k4,k5,k6,k7⟩:=yM hr hok
  have hbd:=x5 (n:=(k:Int)) (by have:=hr.1.1; omega) hr.2 hr.1.2.2 k3
  have m4:=vY hr (be 1 (ak res)) (by rw [k2]; simp; omega)
  rw [k1,Option.getD_some] at m3
  rw [k7] at m4
  rw [k1,Option.getD_some,k7,Option.getD_some]
  simp only [exT,Option.getD_some,Option.isSome_some] at m4
  simp only
  rw [Bool.not_eq_true] at hok
  rw [hok] at m2
  rw [hW] at m1 m2 m3 m4
  obtain ⟨S,hS⟩:∃S,S=slA 1 (ak (bO (lar p l) k).1):=⟨_,rfl⟩
  rw [<-hS] at m2
  have hnc:∀n,bh n (slA 1 (ak res))=true:=fun n=>xP n 1 _
  have hfc:∀A n,frz A n (slA 1 (ak res))=slA 1 (ak res):=fun A n=>ug A n 1 _
  obtain ⟨C,hC⟩:∃C,C=slA 1 (ak res):=⟨_,rfl⟩
  rw [<-hC] at m3 m4 hnc hfc
  obtain ⟨s,hs⟩:∃s,s=iG p xs:=⟨_,rfl⟩
  obtain ⟨t,ht⟩:∃t,t=kP xs:=⟨_,rfl⟩
  rw [<-hs,<-ht] at m4 hbd ⊢
  rw [<-hs] at k6
  have b2:ai .leq (.int .i64 t) (.int .i64 0)=some (.bool (decide (t<=0))):=by simp [ai]
  by_cases ht0:t<=0
  ·rw [if_pos ht0]
   rw [decide_eq_true ht0] at b2
   refine ⟨.int .i64 p,.fp [.int .i64 (k:Int),W1,O],.bool true,.bool false,.int .i64 s,.int .i64 t,.undef,.bool true,.bool false,.bool false,.bool true,?_⟩
   simp [fR,b1,b2,m1,m2,m3,m4,f1,hfw,hnc,hfc,aJ,-frz,-ai]
  rw [if_neg ht0]
  rw [decide_eq_false ht0] at b2
  obtain ⟨d1,d2,d3,d4⟩:=uN k6 (show 0<t by omega)
  have hper:=hr.2
  unfold cw at hper hhi
  have b3:ai .add (.int .i64 s) (.int .i64 t)=some (.int .i64 (s+t)):=by
   simp only [ai]; rw [if_pos trivial,eu (by unfold inI; omega)]
  have b4:ai .sub (.int .i64 (s+t)) (.int .i64 1)=some (.int .i64 (s+t-1)):=by
   simp only [ai]; rw [if_pos trivial,eu (by unfold inI; omega)]
  have b5:ai .quo (.int .i64 (s+t-1)) (.int .i64 t)=some (.int .i64 ((s+t-1).tdiv t)):=by
   simp only [ai]; rw [if_pos trivial,if_neg (show ¬ t=0 by omega),eu (by unfold inI; omega)]
  obtain ⟨d,hd⟩:∃d,d=(s+t-1).tdiv t:=⟨_,rfl⟩
  rw [<-hd] at b5 d1 d2 ⊢
  have b6:ai .add (.int .i64 p) (.int .i64 d)=some (.int .i64 (p+d)):=by
   simp only [ai]; rw [if_pos trivial,eu (by unfold inI; omega)]
  have ih:=BQ fuel ha (k:Int) hhi m (p+d) (by omega) (by omega)
  rw [Int.toNat_natCast] at ih
  obtain ⟨p2,hp2⟩:∃p2,p2=p+d:=⟨_,rfl⟩
  rw [<-hp2] at b6 ih ⊢
  obtain ⟨st,hst⟩:∃st,st=s+t:=⟨_,rfl⟩
  rw [<-hst] at b3 b4 b5
  obtain ⟨st1,hst1⟩:∃st1,st1=st-1:=⟨_,rfl⟩
  rw [<-hst1] at b4 b5
  have hrun:run (ax GC yo) fuel [.code fR] (nB (.int .i64 (k:Int)) a (.int .i64 hi) (.int .i64 p)) []=some (.normal (nB (.int .i64 (k:Int)) a (.int .i64 hi) (.int .i64 p2)) []):=by
   simp [fR,b1,b2,b3,b4,b5,b6,m1,m2,m3,m4,f1,hfw,hnc,hfc,aJ,-frz,-ai]
  rw [hrun]
  exact ih
def M23:aP:=fun args=>match args with
 | [.int .i64 n,a,.int .i64 lo,.int .i64 hi]=>(cr a).map fun l=>smT (smM n l lo hi)
 | _=>none
theorem FQ:au Try.prog GC 45 M23:=by
 refine au.of_ev (E:=ax GC yo) (aw DF) rfl at23 Hv 5 ?_
 intro args r h
 unfold M23 at h
 split at h
 rotate_left
 ·cases h
 rename_i n a lo hi
 simp only [Option.map_eq_some_iff] at h
 obtain ⟨l,hl,rfl⟩:=h
 obtain ⟨m,hm⟩:∃m,m=(hi-lo+2).toNat+1:=⟨_,rfl⟩
 have m1:M41 [.int .i64 hi]=some (.bool (decide (cw hi))):=rfl
 by_cases hp:cw hi
 rotate_left
 ·refine ⟨0,?_⟩
  rw [decide_eq_false hp] at m1
  rw [show smM n l lo hi=none from if_neg hp]
  rw [aK _ _ rfl]
  simp [Gi,m1,smT]
 rw [decide_eq_true hp] at m1
 rw [show smM n l lo hi=smL n.toNat l hi (hi-lo+2).toNat lo from if_pos hp]
 by_cases hz:(hi-lo+2).toNat=0
 ·
  refine ⟨1,?_⟩
  rw [hz]
  have b1:ai .leq (.int .i64 lo) (.int .i64 hi)=some (.bool false):=by simp [ai]; omega
  have lp:bU (evC (ax GC yo) 1 fR) it 1 (nB (.int .i64 n) a (.int .i64 hi) (.int .i64 lo)) []=some (.exit 0 [.int .i64 n,a,.undef,.int .i64 hi,.undef,.undef,.int .i64 lo,.undef,.undef,.undef,.undef,.undef,.undef,.bool false,.undef,.undef,.undef] []):=by
   rw [aI,zq]
   simp [fR,b1,-ai]
  rw [aK _ _ rfl]
  simp [Gi,m1,yk lp,smL,smT]
 ·obtain ⟨F,hF⟩:∃F,F=(hi-lo+2).toNat:=⟨_,rfl⟩
  have hl23:=BQ F hl n hp F lo (by omega) (by omega)
  refine ⟨F,?_⟩
  rw [<-hF]
  rw [aK _ _ rfl]
  cases hs:smL n.toNat l hi F lo with
  | none=>
   rw [hs] at hl23
   obtain ⟨v6,v7,v8,v9,v10,v11,v12,v13,v14,v15,v16,lp⟩:=hl23
   simp [Gi,m1,yk lp,smT]
  | some q=>
   rw [hs] at hl23
   obtain ⟨v7,v8,v9,v10,v11,v12,v13,v14,v15,v16,lp⟩:=hl23
   simp [Gi,m1,yk lp,smT]
end Cy
namespace Clu
open Go
def kV:cu:=⟨1,7,.seq (.region [⟨some 1,.box (.var 0),none⟩,⟨some 2,.mv (.cst .nilS),none⟩]) (.seq (.seq (.region [⟨none,.load true 5 (.var 1),none⟩,⟨none,.call (.fn 62) [.tmp 0],none⟩,⟨some 6,.un .not (.tmp 1),none⟩]) (.cond (.var 6) (.seq (.region [⟨some 2,.mv (.cst .nilS),none⟩]) .ret) .skip)) (.seq (.region [⟨none,.fieldAddr 0 (.var 1),none⟩,⟨none,.load false 1 (.tmp 0),none⟩,⟨none,.lenSl (.tmp 1),none⟩,⟨some 3,.alloc 1 (.int .i64 0),none⟩,⟨none,.store 1 (.var 3) (.tmp 2),none⟩]) (.seq (.region [⟨some 4,.alloc 1 .nilS,none⟩]) (.seq (.region [⟨some 5,.alloc 1 .nilF,none⟩]) (.seq (.region [⟨none,.makeFunc (.func 63) [] [.var 3,.var 4,.var 1,.var 5],none⟩,⟨none,.store 1 (.var 5) (.tmp 0),none⟩]) (.seq (.region [⟨none,.load false 1 (.var 5),none⟩,⟨none,.buildSlice 1 [.cst (.int .i64 0)],none⟩,⟨none,.call (.tmp 0) [.tmp 1],none⟩]) (.seq (.region [⟨none,.load false 1 (.var 4),none⟩,⟨some 2,.mv (.tmp 0),none⟩]) .ret))))))),[.tmp 2]⟩
theorem kI:aE Try.prog Try.f43 1 [0,1,2,3,4,5,8] [] false ([],[])=some kV:=by kernel_rfl
theorem Bw:Try.prog.funcs[43]?=some Try.f43:=by kernel_rfl
def p5:cu:=⟨1,6,.seq (.region [⟨some 1,.box (.var 0),none⟩,⟨some 2,.mv (.cst (.bool false)),none⟩]) (.seq (.region [⟨some 3,.alloc 1 .nilF,none⟩,⟨none,.store 1 (.var 3) (.fn 82),none⟩]) (.seq (.region [⟨none,.fieldAddr 0 (.var 1),none⟩,⟨none,.load false 1 (.tmp 0),none⟩,⟨none,.makeFunc (.func 84) [] [.var 3],none⟩,⟨none,.call (.fn 83) [.tmp 1,.tmp 2],none⟩,⟨some 4,.mv (.tmp 3),none⟩]) (.seq (.region [⟨none,.load false 1 (.var 3),none⟩,⟨none,.fieldAddr 1 (.var 1),none⟩,⟨none,.load false 1 (.tmp 1),none⟩,⟨none,.call (.tmp 0) [.tmp 2,.cst (.int .i64 10000)],none⟩,⟨none,.mv (.tmp 3),none⟩,⟨none,.load false 1 (.var 3),some (.tmp 4,true)⟩,⟨none,.fieldAddr 2 (.var 1),some (.tmp 4,true)⟩,⟨none,.load false 1 (.tmp 6),some (.tmp 4,true)⟩,⟨none,.call (.tmp 5) [.tmp 7,.cst (.int .i64 10000)],some (.tmp 4,true)⟩,⟨none,.pick (.tmp 4) (.tmp 8) (.cst (.bool false)),none⟩,⟨none,.mv (.tmp 9),none⟩,⟨none,.load false 1 (.var 3),some (.tmp 10,true)⟩,⟨none,.fieldAddr 3 (.var 1),some (.tmp 10,true)⟩,⟨none,.load false 1 (.tmp 12),some (.tmp 10,true)⟩,⟨none,.call (.tmp 11) [.tmp 13,.cst (.int .i64 10000)],some (.tmp 10,true)⟩,⟨none,.pick (.tmp 10) (.tmp 14) (.cst (.bool false)),none⟩,⟨some 5,.mv (.tmp 15),none⟩]) (.seq (.region [⟨none,.mv (.var 4),none⟩,⟨none,.un .not (.tmp 0),none⟩,⟨none,.mv (.tmp 1),none⟩,⟨none,.mv (.var 5),some (.tmp 2,true)⟩,⟨none,.pick (.tmp 2) (.tmp 3) (.cst (.bool false)),none⟩,⟨none,.mv (.tmp 4),none⟩,⟨none,.fieldAddr 0 (.var 1),some (.tmp 5,true)⟩,⟨none,.load false 1 (.tmp 6),some (.tmp 5,true)⟩,⟨none,.lenSl (.tmp 7),some (.tmp 5,true)⟩,⟨none,.bin .geq (.tmp 8) (.cst (.int .i64 1)),some (.tmp 5,true)⟩,⟨none,.pick (.tmp 5) (.tmp 9) (.cst (.bool false)),none⟩,⟨none,.mv (.tmp 10),none⟩,⟨none,.fieldAddr 0 (.var 1),some (.tmp 11,true)⟩,⟨none,.load false 1 (.tmp 12),some (.tmp 11,true)⟩,⟨none,.lenSl (.tmp 13),some (.tmp 11,true)⟩,⟨none,.bin .leq (.tmp 14) (.cst (.int .i64 4)),some (.tmp 11,true)⟩,⟨none,.pick (.tmp 11) (.tmp 15) (.cst (.bool false)),none⟩,⟨none,.mv (.tmp 16),none⟩,⟨none,.fieldAddr 4 (.var 1),some (.tmp 17,true)⟩,⟨none,.load false 1 (.tmp 18),some (.tmp 17,true)⟩,⟨none,.bin .eql (.tmp 19) (.cst (.int .i64 1)),some (.tmp 17,true)⟩,⟨none,.mv (.tmp 20),some (.tmp 17,true)⟩,⟨none,.fieldAddr 4 (.var 1),some (.tmp 21,false)⟩,⟨none,.load false 1 (.tmp 22),some (.tmp 21,false)⟩,⟨none,.bin .eql (.tmp 23) (.cst (.int .i64 2)),some (.tmp 21,false)⟩,⟨none,.pick (.tmp 21) (.cst (.bool true)) (.tmp 24),some (.tmp 17,true)⟩,⟨none,.pick (.tmp 17) (.tmp 25) (.cst (.bool false)),none⟩,⟨some 2,.mv (.tmp 26),none⟩]) .ret)))),[.tmp 2]⟩
theorem sQ:aE Try.prog Try.f62 1 [0,1,2,3,4,5] [] true ([],[])=some p5:=by kernel_rfl
theorem HL:Try.prog.funcs[62]?=some Try.f62:=by kernel_rfl
def dt:MC:=.seq (.region [⟨some 19,.bin .lss (.var 18) (.var 17),none⟩]) (.seq (.cond (.var 19) .skip (.exit 0)) (.seq (.seq (.block 1 (.seq (.region [⟨none,.mv (.var 18),none⟩,⟨none,.indexSl 1 (.var 16) (.var 18),none⟩,⟨none,.load false 1 (.tmp 1),none⟩,⟨some 8,.mv (.tmp 0),none⟩,⟨some 9,.mv (.tmp 2),none⟩]) (.seq (.region [⟨none,.mv (.var 9),none⟩,⟨none,.mv (.var 6),none⟩,⟨none,.build [.int .i64 0,.int .i64 0,.int .i64 0,.int .i64 0] [(0,(1,.tmp 0)),(2,(1,.tmp 1)),(3,(1,.cst (.int .i64 1)))],none⟩,⟨some 10,.alloc 4 (.agg [.int .i64 0,.int .i64 0,.int .i64 0,.int .i64 0]),none⟩,⟨none,.store 4 (.var 10) (.tmp 2),none⟩]) (.seq (.seq (.region [⟨none,.mv (.var 8),none⟩,⟨none,.bin .add (.tmp 0) (.cst (.int .i64 1)),none⟩,⟨none,.load false 1 (.var 3),none⟩,⟨none,.lenSl (.tmp 2),none⟩,⟨some 20,.bin .lss (.tmp 1) (.tmp 3),none⟩]) (.cond (.var 20) (.region [⟨none,.load false 1 (.var 3),none⟩,⟨none,.mv (.var 8),none⟩,⟨none,.bin .add (.tmp 1) (.cst (.int .i64 1)),none⟩,⟨none,.indexSl 1 (.tmp 0) (.tmp 2),none⟩,⟨none,.load false 1 (.tmp 3),none⟩,⟨none,.fieldAddr 1 (.var 10),none⟩,⟨none,.store 1 (.tmp 5) (.tmp 4),none⟩,⟨none,.fieldAddr 3 (.var 10),none⟩,⟨none,.store 1 (.tmp 7) (.cst (.int .i64 0)),none⟩]) .skip)) (.seq (.seq (.region [⟨none,.fieldAddr 4 (.var 2),none⟩,⟨none,.load false 1 (.tmp 0),none⟩,⟨none,.bin .eql (.tmp 1) (.cst (.int .i64 2)),none⟩,⟨none,.mv (.tmp 2),none⟩,⟨none,.fieldAddr 1 (.var 10),some (.tmp 3,false)⟩,⟨none,.load false 1 (.tmp 4),some (.tmp 3,false)⟩,⟨none,.mv (.var 9),some (.tmp 3,false)⟩,⟨none,.bin .add (.tmp 6) (.cst (.int .i64 1)),some (.tmp 3,false)⟩,⟨none,.bin .neq (.tmp 5) (.tmp 7),some (.tmp 3,false)⟩,⟨some 21,.pick (.tmp 3) (.cst (.bool true)) (.tmp 8),none⟩]) (.cond (.var 21) (.region [⟨none,.fieldAddr 2 (.var 10),none⟩,⟨none,.load false 1 (.tmp 0),none⟩,⟨none,.fieldAddr 3 (.var 2),none⟩,⟨none,.load false 1 (.tmp 2),none⟩,⟨none,.bin .add (.tmp 1) (.tmp 3),none⟩,⟨none,.fieldAddr 2 (.var 10),none⟩,⟨none,.store 1 (.tmp 5) (.tmp 4),none⟩]) .skip)) (.region [⟨none,.load true 4 (.var 10),none⟩,⟨none,.buildF 4 [.tmp 0],none⟩,⟨none,.call (.fn 70) [.var 7,.tmp 1],none⟩])))))) (.kill [0,1,4,5,8,9,10,11,12,13,14,15,19,20,21,22,23,24,25])) (.region [⟨none,.bin .add (.var 18) (.cst (.int .i64 1)),none⟩,⟨some 18,.mv (.tmp 0),none⟩])))
def de:MC:=.seq (.region [⟨some 25,.bin .lss (.var 24) (.var 23),none⟩]) (.seq (.cond (.var 25) .skip (.exit 2)) (.seq (.seq (.block 3 (.seq (.region [⟨none,.mv (.var 24),none⟩,⟨none,.indexSl 2 (.var 22) (.var 24),none⟩,⟨none,.load true 2 (.tmp 1),none⟩,⟨some 13,.alloc 2 (.agg [.int .i64 0,.int .i64 0]),none⟩,⟨some 12,.mv (.tmp 0),none⟩,⟨none,.store 2 (.var 13) (.tmp 2),none⟩]) (.seq (.region [⟨none,.mv (.var 11),none⟩,⟨none,.load false 1 (.var 3),none⟩,⟨none,.mv (.var 12),none⟩,⟨none,.bin .add (.tmp 2) (.cst (.int .i64 1)),none⟩,⟨none,.call (.tmp 0) [.tmp 1,.tmp 3],none⟩,⟨some 14,.alloc 3 (.agg [.int .i64 0,.int .i64 0,.int .i64 0]),none⟩,⟨none,.store 3 (.var 14) (.tmp 4),none⟩]) (.region [⟨none,.fieldAddr 0 (.var 14),none⟩,⟨none,.load false 1 (.tmp 0),none⟩,⟨none,.fieldAddr 1 (.var 14),none⟩,⟨none,.load false 1 (.tmp 2),none⟩,⟨none,.mv (.var 6),none⟩,⟨none,.fieldAddr 0 (.var 13),none⟩,⟨none,.load false 1 (.tmp 5),none⟩,⟨none,.bin .add (.tmp 4) (.tmp 6),none⟩,⟨none,.fieldAddr 2 (.var 14),none⟩,⟨none,.load false 1 (.tmp 8),none⟩,⟨none,.build [.int .i64 0,.int .i64 0,.int .i64 0,.int .i64 0] [(0,(1,.tmp 1)),(1,(1,.tmp 3)),(2,(1,.tmp 7)),(3,(1,.tmp 9))],none⟩,⟨none,.fieldAddr 1 (.var 14),none⟩,⟨none,.load false 1 (.tmp 11),none⟩,⟨none,.fieldAddr 0 (.var 14),none⟩,⟨none,.load false 1 (.tmp 13),none⟩,⟨none,.mv (.var 6),none⟩,⟨none,.fieldAddr 0 (.var 13),none⟩,⟨none,.load false 1 (.tmp 16),none⟩,⟨none,.bin .add (.tmp 15) (.tmp 17),none⟩,⟨none,.fieldAddr 1 (.var 13),none⟩,⟨none,.load false 1 (.tmp 19),none⟩,⟨none,.bin .add (.tmp 18) (.tmp 20),none⟩,⟨none,.un .neg (.tmp 21),none⟩,⟨none,.fieldAddr 2 (.var 14),none⟩,⟨none,.load false 1 (.tmp 23),none⟩,⟨none,.un .neg (.tmp 24),none⟩,⟨none,.build [.int .i64 0,.int .i64 0,.int .i64 0,.int .i64 0] [(0,(1,.tmp 12)),(1,(1,.tmp 14)),(2,(1,.tmp 22)),(3,(1,.tmp 25))],none⟩,⟨none,.buildF 4 [.tmp 10,.tmp 26],none⟩,⟨none,.call (.fn 70) [.var 7,.tmp 27],none⟩])))) (.kill [0,1,2,4,5,8,9,10,12,13,14,15,16,17,18,19,20,21,25])) (.region [⟨none,.bin .add (.var 24) (.cst (.int .i64 1)),none⟩,⟨some 24,.mv (.tmp 0),none⟩])))
def tp:cu:=⟨2,26,.seq (.region [⟨some 2,.box (.var 0),none⟩,⟨some 3,.box (.var 1),none⟩,⟨some 4,.mv (.cst .nilS),none⟩,⟨some 5,.mv (.cst (.int .i64 0)),none⟩]) (.seq (.seq (.region [⟨none,.load true 5 (.var 2),none⟩,⟨none,.call (.fn 43) [.tmp 0],none⟩,⟨none,.makeFunc (.func 67) [] [.var 3],none⟩,⟨none,.call (.fn 66) [.tmp 1,.tmp 2],none⟩,⟨some 15,.un .not (.tmp 3),none⟩]) (.cond (.var 15) (.seq (.region [⟨some 4,.mv (.cst .nilS),none⟩,⟨some 5,.mv (.cst (.int .i64 130)),none⟩]) .ret) .skip)) (.seq (.region [⟨none,.load true 5 (.var 2),none⟩,⟨none,.call (.fn 69) [.tmp 0],none⟩,⟨some 6,.mv (.tmp 1),none⟩]) (.seq (.region [⟨some 7,.alloc 1 .nilS,none⟩]) (.seq (.seq (.region [⟨some 16,.load false 1 (.var 3),none⟩,⟨some 17,.lenSl (.var 16),none⟩,⟨some 18,.mv (.cst (.int .i64 0)),none⟩]) (.seq (.block 0 (.loop [0,1,4,5,8,9,10,11,12,13,14,15,19,20,21,22,23,24,25] dt)) (.kill [0,1,4,5,8,9,10,11,12,13,14,15,16,17,18,19,20,21,22,23,24,25]))) (.seq (.region [⟨none,.call (.fn 71) [],none⟩,⟨none,.fieldAddr 4 (.var 2),none⟩,⟨none,.load false 1 (.tmp 1),none⟩,⟨none,.indexVal false 3 1 (.tmp 0) (.tmp 2),none⟩,⟨some 11,.mv (.tmp 3),none⟩]) (.seq (.seq (.region [⟨none,.fieldAddr 0 (.var 2),none⟩,⟨some 22,.load false 1 (.tmp 0),none⟩,⟨some 23,.lenSl (.var 22),none⟩,⟨some 24,.mv (.cst (.int .i64 0)),none⟩]) (.seq (.block 2 (.loop [0,1,2,4,5,8,9,10,12,13,14,15,16,17,18,19,20,21,25] de)) (.kill [0,1,2,3,4,5,6,8,9,10,11,12,13,14,15,16,17,18,19,20,21,22,23,24,25]))) (.seq (.region [⟨none,.load false 1 (.var 7),none⟩,⟨some 4,.mv (.tmp 0),none⟩,⟨some 5,.mv (.cst (.int .i64 0)),none⟩]) .ret))))))),[.tmp 4,.tmp 5]⟩
def dJ:List Nat:=[0,1,4,5,8,9,10,11,12,13,14,15,19,20,21,22,23,24,25]
abbrev fj (v2 v3 v6 v7 v16 v17 v18:AV):List AV:=[.undef,.undef,v2,v3,.undef,.undef,v6,v7,.undef,.undef,.undef,.undef,.undef,.undef,.undef,.undef,v16,v17,v18,.undef,.undef,.undef,.undef,.undef,.undef,.undef]
theorem oO {d0 d1 v2 v3 d4 d5 v6 v7 d8 d9 d10 d11 d12 d13 d14 d15 v16 v17 v18 d19 d20 d21 d22 d23 d24 d25:AV}:clear dJ [d0,d1,v2,v3,d4,d5,v6,v7,d8,d9,d10,d11,d12,d13,d14,d15,v16,v17,v18,d19,d20,d21,d22,d23,d24,d25]=fj v2 v3 v6 v7 v16 v17 v18:=by simp only [dJ,clear,List.foldl_cons,List.foldl_nil,List.set_cons_zero,List.set_cons_succ]
theorem si {E:Env} {fuel:Nat} {A:ab} {o:Out} {k:List KC} {d0 d1 v2 v3 d4 d5 v6 v7 d8 d9 d10 d11 d12 d13 d14 d15 v16 v17 v18 d19 d20 d21 d22 d23 d24 d25:AV} (h:bU (evC E fuel dt) dJ fuel (fj v2 v3 v6 v7 v16 v17 v18) A=some o) :
  run E fuel (.code (.loop [0,1,4,5,8,9,10,11,12,13,14,15,19,20,21,22,23,24,25] dt) :: k) [d0,d1,v2,v3,d4,d5,v6,v7,d8,d9,d10,d11,d12,d13,d14,d15,v16,v17,v18,d19,d20,d21,d22,d23,d24,d25] A=after E fuel k o:=aS dJ _ _ (by rw [oO]; exact h)
def dx:List Nat:=[0,1,2,4,5,8,9,10,12,13,14,15,16,17,18,19,20,21,25]
abbrev eA (v3 v6 v7 v11 v22 v23 v24:AV):List AV:=[.undef,.undef,.undef,v3,.undef,.undef,v6,v7,.undef,.undef,.undef,v11,.undef,.undef,.undef,.undef,.undef,.undef,.undef,.undef,.undef,.undef,v22,v23,v24,.undef]
theorem kJ {d0 d1 d2 v3 d4 d5 v6 v7 d8 d9 d10 v11 d12 d13 d14 d15 d16 d17 d18 d19 d20 d21 v22 v23 v24 d25:AV}:clear dx [d0,d1,d2,v3,d4,d5,v6,v7,d8,d9,d10,v11,d12,d13,d14,d15,d16,d17,d18,d19,d20,d21,v22,v23,v24,d25]=eA v3 v6 v7 v11 v22 v23 v24:=by simp only [dx,clear,List.foldl_cons,List.foldl_nil,List.set_cons_zero,List.set_cons_succ]
theorem sh {E:Env} {fuel:Nat} {A:ab} {o:Out} {k:List KC} {d0 d1 d2 v3 d4 d5 v6 v7 d8 d9 d10 v11 d12 d13 d14 d15 d16 d17 d18 d19 d20 d21 v22 v23 v24 d25:AV} (h:bU (evC E fuel de) dx fuel (eA v3 v6 v7 v11 v22 v23 v24) A=some o) :
  run E fuel (.code (.loop [0,1,2,4,5,8,9,10,12,13,14,15,16,17,18,19,20,21,25] de) :: k) [d0,d1,d2,v3,d4,d5,v6,v7,d8,d9,d10,v11,d12,d13,d14,d15,d16,d17,d18,d19,d20,d21,v22,v23,v24,d25] A=after E fuel k o:=aS dx _ _ (by rw [kJ]; exact h)
theorem sP:aE Try.prog Try.f44 2 [0,1,2,3,4,5,6,7,8,9,10,11,12,13,14,19,22,23,24,25,36,53,69,70,71,72] [71] true ([[0,1,4,5,8,9,10,11,12,13,14,15,19,20,21,22,23,24,25],[0,1,2,4,5,8,9,10,12,13,14,15,16,17,18,19,20,21,25]],[[0,1,4,5,8,9,10,11,12,13,14,15,19,20,21,22,23,24,25],[0,1,4,5,8,9,10,11,12,13,14,15,16,17,18,19,20,21,22,23,24,25],[0,1,2,4,5,8,9,10,12,13,14,15,16,17,18,19,20,21,25],[0,1,2,3,4,5,6,8,9,10,11,12,13,14,15,16,17,18,19,20,21,22,23,24,25]])=some tp:=by kernel_rfl
theorem HK:Try.prog.funcs[44]?=some Try.f44:=by kernel_rfl
def fU:MC:=.seq (.region [⟨some 14,.bin .lss (.var 13) (.var 12),none⟩]) (.seq (.cond (.var 14) .skip (.exit 0)) (.seq (.seq (.block 1 (.seq (.region [⟨none,.indexSl 1 (.var 11) (.var 13),none⟩,⟨none,.load false 1 (.tmp 0),none⟩,⟨some 6,.mv (.tmp 1),none⟩]) (.seq (.region [⟨none,.load true 5 (.var 1),none⟩,⟨none,.mv (.var 6),none⟩,⟨none,.call (.fn 44) [.tmp 0,.tmp 1],none⟩,⟨none,.mv (.tmp 2),none⟩,⟨none,.extract (.tmp 3) 0,none⟩,⟨none,.extract (.tmp 3) 1,none⟩,⟨some 7,.mv (.tmp 4),none⟩,⟨none,.mv (.tmp 5),none⟩]) (.seq (.region [⟨some 8,.mv (.cst (.int .i64 1000000)),none⟩]) (.seq (.seq (.region [⟨none,.fieldAddr 0 (.var 4),none⟩,⟨none,.load false 1 (.tmp 0),none⟩,⟨some 15,.bin .gtr (.tmp 1) (.cst (.int .i64 0)),none⟩]) (.cond (.var 15) (.region [⟨none,.fieldAddr 0 (.var 4),none⟩,⟨none,.load false 1 (.tmp 0),none⟩,⟨none,.bin .sub (.tmp 1) (.cst (.int .i64 1)),none⟩,⟨some 8,.mv (.tmp 2),none⟩]) .skip)) (.seq (.seq (.region [⟨none,.mv (.var 8),none⟩,⟨some 16,.bin .lss (.tmp 0) (.cst (.int .i64 1)),none⟩]) (.cond (.var 16) (.exit 0) .skip)) (.seq (.region [⟨none,.mv (.var 6),none⟩,⟨none,.lenSl (.tmp 0),none⟩,⟨none,.mv (.var 7),none⟩,⟨none,.mv (.var 8),none⟩,⟨none,.call (.fn 45) [.tmp 1,.tmp 2,.cst (.int .i64 1),.tmp 3],none⟩,⟨none,.mv (.tmp 4),none⟩,⟨none,.extract (.tmp 5) 0,none⟩,⟨none,.extract (.tmp 5) 1,none⟩,⟨some 9,.mv (.tmp 6),none⟩,⟨some 10,.mv (.tmp 7),none⟩]) (.seq (.region [⟨some 17,.mv (.var 10),none⟩]) (.cond (.var 17) (.region [⟨none,.mv (.var 9),none⟩,⟨none,.mv (.var 6),none⟩,⟨none,.build [.int .i64 0,.nilS,.nilS,.nilS] [(0,(1,.tmp 0)),(1,(1,.tmp 1))],none⟩,⟨none,.mv (.var 7),none⟩,⟨none,.store 4 (.var 4) (.tmp 2),none⟩,⟨some 5,.mv (.tmp 3),none⟩]) .skip))))))))) (.kill [0,3,6,7,8,9,10,14,15,16,17,18,19])) (.region [⟨none,.bin .add (.var 13) (.cst (.int .i64 1)),none⟩,⟨some 13,.mv (.tmp 0),none⟩])))
def Ak:cu:=⟨1,20,.seq (.region [⟨some 1,.box (.var 0),none⟩,⟨some 2,.alloc 4 (.agg [.int .i64 0,.nilS,.nilS,.nilS]),none⟩,⟨some 3,.mv (.cst (.int .i64 0)),none⟩]) (.seq (.region [⟨some 4,.alloc 4 (.agg [.int .i64 0,.nilS,.nilS,.nilS]),none⟩]) (.seq (.region [⟨some 5,.mv (.cst .nilS),none⟩]) (.seq (.seq (.region [⟨none,.load true 5 (.var 1),none⟩,⟨some 11,.call (.fn 43) [.tmp 0],none⟩,⟨some 12,.lenSl (.var 11),none⟩,⟨some 13,.mv (.cst (.int .i64 0)),none⟩]) (.seq (.block 0 (.loop [0,3,6,7,8,9,10,14,15,16,17,18,19] fU)) (.kill [0,1,3,6,7,8,9,10,11,12,13,14,15,16,17,18,19]))) (.seq (.seq (.region [⟨none,.fieldAddr 0 (.var 4),none⟩,⟨none,.load false 1 (.tmp 0),none⟩,⟨some 18,.bin .eql (.tmp 1) (.cst (.int .i64 0)),none⟩]) (.cond (.var 18) (.seq (.region [⟨none,.build [.int .i64 0,.nilS,.nilS,.nilS] [],none⟩,⟨none,.store 4 (.var 2) (.tmp 0),none⟩,⟨some 3,.mv (.cst (.int .i64 130)),none⟩]) .ret) .skip)) (.seq (.region [⟨none,.fieldAddr 1 (.var 4),none⟩,⟨none,.load false 1 (.tmp 0),none⟩,⟨none,.lenSl (.tmp 1),none⟩,⟨none,.mv (.var 5),none⟩,⟨none,.fieldAddr 0 (.var 4),none⟩,⟨none,.load false 1 (.tmp 4),none⟩,⟨none,.call (.fn 46) [.tmp 2,.tmp 3,.tmp 5],none⟩,⟨none,.mv (.tmp 6),none⟩,⟨none,.extract (.tmp 7) 0,none⟩,⟨none,.extract (.tmp 7) 1,none⟩,⟨none,.extract (.tmp 7) 2,none⟩,⟨none,.fieldAddr 2 (.var 4),none⟩,⟨none,.store 1 (.tmp 11) (.tmp 8),none⟩]) (.seq (.seq (.region [⟨none,.fieldAddr 0 (.var 4),none⟩,⟨none,.load false 1 (.tmp 0),none⟩,⟨some 19,.bin .gtr (.tmp 1) (.cst (.int .i64 1)),none⟩]) (.cond (.var 19) (.region [⟨none,.fieldAddr 1 (.var 4),none⟩,⟨none,.load false 1 (.tmp 0),none⟩,⟨none,.lenSl (.tmp 1),none⟩,⟨none,.mv (.var 5),none⟩,⟨none,.fieldAddr 0 (.var 4),none⟩,⟨none,.load false 1 (.tmp 4),none⟩,⟨none,.bin .sub (.tmp 5) (.cst (.int .i64 1)),none⟩,⟨none,.call (.fn 46) [.tmp 2,.tmp 3,.tmp 6],none⟩,⟨none,.mv (.tmp 7),none⟩,⟨none,.extract (.tmp 8) 0,none⟩,⟨none,.extract (.tmp 8) 1,none⟩,⟨none,.extract (.tmp 8) 2,none⟩,⟨none,.fieldAddr 3 (.var 4),none⟩,⟨none,.store 1 (.tmp 12) (.tmp 10),none⟩]) .skip)) (.seq (.region [⟨none,.load true 4 (.var 4),none⟩,⟨none,.store 4 (.var 2) (.tmp 0),none⟩,⟨some 3,.mv (.cst (.int .i64 0)),none⟩]) .ret))))))),[.cell 2 true 4,.tmp 3]⟩
def jZ:List Nat:=[0,3,6,7,8,9,10,14,15,16,17,18,19]
abbrev nC (v1 v2 v4 v5 v11 v12 v13:AV):List AV:=[.undef,v1,v2,.undef,v4,v5,.undef,.undef,.undef,.undef,.undef,v11,v12,v13,.undef,.undef,.undef,.undef,.undef,.undef]
theorem vL {d0 v1 v2 d3 v4 v5 d6 d7 d8 d9 d10 v11 v12 v13 d14 d15 d16 d17 d18 d19:AV}:clear jZ [d0,v1,v2,d3,v4,v5,d6,d7,d8,d9,d10,v11,v12,v13,d14,d15,d16,d17,d18,d19]=nC v1 v2 v4 v5 v11 v12 v13:=rfl
theorem yl {E:Env} {fuel:Nat} {A:ab} {o:Out} {k:List KC} {d0 v1 v2 d3 v4 v5 d6 d7 d8 d9 d10 v11 v12 v13 d14 d15 d16 d17 d18 d19:AV} (h:bU (evC E fuel fU) jZ fuel (nC v1 v2 v4 v5 v11 v12 v13) A=some o) :
  run E fuel (.code (.loop [0,3,6,7,8,9,10,14,15,16,17,18,19] fU) :: k) [d0,v1,v2,d3,v4,v5,d6,d7,d8,d9,d10,v11,v12,v13,d14,d15,d16,d17,d18,d19] A=after E fuel k o:=aS jZ _ _ (by rw [vL]; exact h)
theorem zd:aE Try.prog Try.f23 1 [0,1,2,3,4,5,7,8,10,11,12,14,15,16,17,28,33,42,50,66] [] true ([[0,3,6,7,8,9,10,14,15,16,17,18,19]],[[0,3,6,7,8,9,10,14,15,16,17,18,19],[0,1,3,6,7,8,9,10,11,12,13,14,15,16,17,18,19]])=some Ak:=by kernel_rfl
theorem LM:Try.prog.funcs[23]?=some Try.f23:=by kernel_rfl
def r6:cu:=⟨2,10,.seq (.region [⟨some 2,.box (.var 0),none⟩,⟨some 3,.box (.var 1),none⟩,⟨some 4,.mv (.cst (.bool false)),none⟩]) (.seq (.region [⟨none,.load true 5 (.var 2),none⟩,⟨none,.fieldAddr 1 (.var 3),none⟩,⟨none,.load false 1 (.tmp 1),none⟩,⟨none,.call (.fn 44) [.tmp 0,.tmp 2],none⟩,⟨none,.mv (.tmp 3),none⟩,⟨none,.extract (.tmp 4) 0,none⟩,⟨none,.extract (.tmp 4) 1,none⟩,⟨some 5,.mv (.tmp 5),none⟩,⟨some 6,.mv (.tmp 6),none⟩]) (.seq (.region [⟨none,.fieldAddr 1 (.var 3),none⟩,⟨none,.load false 1 (.tmp 0),none⟩,⟨none,.lenSl (.tmp 1),none⟩,⟨some 7,.mv (.tmp 2),none⟩]) (.seq (.seq (.block 0 (.seq (.region [⟨none,.mv (.var 6),none⟩,⟨none,.bin .neq (.tmp 0) (.cst (.int .i64 0)),none⟩,⟨none,.mv (.tmp 1),none⟩,⟨none,.fieldAddr 0 (.var 3),some (.tmp 2,false)⟩,⟨none,.load false 1 (.tmp 3),some (.tmp 2,false)⟩,⟨none,.bin .lss (.tmp 4) (.cst (.int .i64 1)),some (.tmp 2,false)⟩,⟨none,.pick (.tmp 2) (.cst (.bool true)) (.tmp 5),none⟩,⟨none,.mv (.tmp 6),none⟩,⟨none,.fieldAddr 0 (.var 3),some (.tmp 7,false)⟩,⟨none,.load false 1 (.tmp 8),some (.tmp 7,false)⟩,⟨none,.bin .gtr (.tmp 9) (.cst (.int .i64 1000000)),some (.tmp 7,false)⟩,⟨none,.pick (.tmp 7) (.cst (.bool true)) (.tmp 10),none⟩,⟨none,.mv (.tmp 11),none⟩,⟨none,.mv (.var 7),some (.tmp 12,false)⟩,⟨none,.mv (.var 5),some (.tmp 12,false)⟩,⟨none,.fieldAddr 0 (.var 3),some (.tmp 12,false)⟩,⟨none,.load false 1 (.tmp 15),some (.tmp 12,false)⟩,⟨none,.fieldAddr 2 (.var 3),some (.tmp 12,false)⟩,⟨none,.load false 1 (.tmp 17),some (.tmp 12,false)⟩,⟨none,.call (.fn 77) [.tmp 13,.tmp 14,.tmp 16,.tmp 18],some (.tmp 12,false)⟩,⟨none,.un .not (.tmp 19),some (.tmp 12,false)⟩,⟨none,.pick (.tmp 12) (.cst (.bool true)) (.tmp 20),none⟩,⟨some 8,.mv (.tmp 21),none⟩]) (.cond (.var 8) (.seq (.region [⟨some 4,.mv (.cst (.bool false)),none⟩]) .ret) (.seq (.region [⟨none,.fieldAddr 0 (.var 3),none⟩,⟨none,.load false 1 (.tmp 0),none⟩,⟨none,.bin .eql (.tmp 1) (.cst (.int .i64 1)),none⟩,⟨some 9,.mv (.tmp 2),none⟩]) (.cond (.var 9) (.seq (.region [⟨none,.fieldAddr 3 (.var 3),none⟩,⟨none,.load false 1 (.tmp 0),none⟩,⟨none,.lenSl (.tmp 1),none⟩,⟨none,.bin .eql (.tmp 2) (.cst (.int .i64 0)),none⟩,⟨some 4,.mv (.tmp 3),none⟩]) .ret) .skip))))) (.kill [0,1,2,4,6,8,9])) (.seq (.region [⟨none,.mv (.var 7),none⟩,⟨none,.mv (.var 5),none⟩,⟨none,.fieldAddr 0 (.var 3),none⟩,⟨none,.load false 1 (.tmp 2),none⟩,⟨none,.bin .sub (.tmp 3) (.cst (.int .i64 1)),none⟩,⟨none,.fieldAddr 3 (.var 3),none⟩,⟨none,.load false 1 (.tmp 5),none⟩,⟨none,.call (.fn 78) [.tmp 0,.tmp 1,.tmp 4,.tmp 6],none⟩,⟨some 4,.mv (.tmp 7),none⟩]) .ret)))),[.tmp 4]⟩
theorem sO:aE Try.prog Try.f48 2 [0,1,2,3,4,5,6,7,18,41] [] true ([],[[0,1,2,4,6,8,9]])=some r6:=by kernel_rfl
theorem HJ:Try.prog.funcs[48]?=some Try.f48:=by kernel_rfl
def dB:MC:=.seq (.seq (.region [⟨none,.mv (.var 6),none⟩,⟨none,.load false 1 (.var 1),none⟩,⟨some 8,.bin .leq (.tmp 0) (.tmp 1),none⟩]) (.cond (.var 8) .skip (.exit 0))) (.seq (.seq (.block 1 (.seq (.region [⟨none,.mv (.var 0),none⟩,⟨none,.mv (.var 6),none⟩,⟨none,.call (.fn 64) [.tmp 0,.tmp 1],none⟩,⟨none,.un .not (.tmp 2),none⟩,⟨none,.mv (.tmp 3),none⟩,⟨none,.fieldAddr 4 (.var 3),some (.tmp 4,true)⟩,⟨none,.load false 1 (.tmp 5),some (.tmp 4,true)⟩,⟨none,.bin .eql (.tmp 6) (.cst (.int .i64 1)),some (.tmp 4,true)⟩,⟨none,.mv (.tmp 7),some (.tmp 4,true)⟩,⟨none,.mv (.var 6),some (.tmp 8,false)⟩,⟨none,.mv (.var 0),some (.tmp 8,false)⟩,⟨none,.lenSl (.tmp 10),some (.tmp 8,false)⟩,⟨none,.bin .eql (.tmp 9) (.tmp 11),some (.tmp 8,false)⟩,⟨none,.pick (.tmp 8) (.cst (.bool true)) (.tmp 12),some (.tmp 4,true)⟩,⟨some 9,.pick (.tmp 4) (.tmp 13) (.cst (.bool false)),none⟩]) (.cond (.var 9) (.regionD [] [⟨none,.load false 1 (.var 4),none⟩,⟨none,.mv (.var 0),none⟩,⟨none,.call (.fn 65) [.tmp 1],none⟩,⟨none,.mv (.var 6),none⟩,⟨none,.buildF 1 [.tmp 3],none⟩,⟨none,.appendN 1 8 (.tmp 2) (.tmp 4),none⟩,⟨none,.call (.tmp 0) [.tmp 5],none⟩] [(0,2),(0,5)]) .skip))) (.kill [2,5,7,8,9])) (.region [⟨none,.mv (.var 6),none⟩,⟨none,.bin .add (.tmp 0) (.cst (.int .i64 1)),none⟩,⟨some 6,.mv (.tmp 1),none⟩]))
def tj:cu:=⟨5,10,.seq (.seq (.region [⟨none,.mv (.var 0),none⟩,⟨none,.lenSl (.tmp 0),none⟩,⟨none,.load false 1 (.var 1),none⟩,⟨none,.bin .add (.tmp 2) (.cst (.int .i64 1)),none⟩,⟨some 7,.bin .eql (.tmp 1) (.tmp 3),none⟩]) (.cond (.var 7) (.seq (.region [⟨none,.load false 1 (.var 1),none⟩,⟨none,.bin .add (.tmp 0) (.cst (.int .i64 1)),none⟩,⟨none,.makeSlice 1 8 (.int .i64 0) (.tmp 1) (.tmp 1),none⟩,⟨some 5,.mv (.tmp 2),none⟩]) (.seq (.region [⟨none,.mv (.var 5),none⟩,⟨none,.mv (.var 0),none⟩,⟨none,.copy 1 (.tmp 0) (.tmp 1),none⟩]) (.seq (.region [⟨none,.load false 1 (.var 2),none⟩,⟨none,.mv (.var 5),none⟩,⟨none,.buildSlice 1 [.tmp 1],none⟩,⟨none,.append 1 24 (.tmp 0) (.tmp 2),none⟩,⟨none,.store 1 (.var 2) (.tmp 3),none⟩]) .ret))) .skip)) (.seq (.region [⟨some 6,.mv (.cst (.int .i64 1)),none⟩]) (.seq (.block 0 (.loop [2,5,7,8,9] dB)) (.kill [0,1,2,3,4,5,6,7,8,9]))),[]⟩
def dw:List Nat:=[2,5,7,8,9]
abbrev gv (v0 v1 v3 v4 v6:AV):List AV:=[v0,v1,.undef,v3,v4,.undef,v6,.undef,.undef,.undef]
theorem oN {v0 v1 d2 v3 v4 d5 v6 d7 d8 d9:AV}:clear dw [v0,v1,d2,v3,v4,d5,v6,d7,d8,d9]=gv v0 v1 v3 v4 v6:=rfl
theorem sg {E:Env} {fuel:Nat} {A:ab} {o:Out} {k:List KC} {v0 v1 d2 v3 v4 d5 v6 d7 d8 d9:AV} (h:bU (evC E fuel dB) dw fuel (gv v0 v1 v3 v4 v6) A=some o) :
  run E fuel (.code (.loop [2,5,7,8,9] dB) :: k) [v0,v1,d2,v3,v4,d5,v6,d7,d8,d9] A=after E fuel k o:=aS dw _ _ (by rw [oN]; exact h)
theorem qo:aE Try.prog Try.f63 5 [0,1,2,3,4,6,7,12,25,42] [] false ([[2,5,7,8,9]],[[2,5,7,8,9],[0,1,2,3,4,5,6,7,8,9]])=some tj:=by kernel_rfl
theorem Fi:Try.prog.funcs[63]?=some Try.f63:=by kernel_rfl
def E7:cu:=⟨2,3,.seq (.region [⟨some 2,.mv (.cst (.bool false)),none⟩]) (.seq (.region [⟨none,.mv (.var 0),none⟩,⟨none,.mv (.var 1),none⟩,⟨none,.call (.fn 49) [.tmp 0,.tmp 1],none⟩,⟨none,.bin .geq (.tmp 2) (.cst (.int .i64 0)),none⟩,⟨some 2,.mv (.tmp 3),none⟩]) .ret),[.tmp 2]⟩
theorem yX:aE Try.prog Try.f64 2 [0,1,4] [] true ([],[])=some E7:=by kernel_rfl
theorem LG:Try.prog.funcs[64]?=some Try.f64:=by kernel_rfl
def AR:cu:=⟨1,2,.seq (.region [⟨some 1,.mv (.cst .nilS),none⟩]) (.seq (.region [⟨none,.mv (.var 0),none⟩,⟨none,.mv (.var 0),none⟩,⟨none,.lenSl (.tmp 1),none⟩,⟨none,.mv (.var 0),none⟩,⟨none,.lenSl (.tmp 3),none⟩,⟨none,.sliceM 1 (.tmp 0) none (.tmp 2) (.tmp 4),none⟩,⟨some 1,.mv (.tmp 5),none⟩]) .ret),[.tmp 1]⟩
theorem vK:aE Try.prog Try.f65 1 [0,2] [] true ([],[])=some AR:=by kernel_rfl
theorem IT:Try.prog.funcs[65]?=some Try.f65:=by kernel_rfl
def tX:cu:=⟨2,3,.seq (.region [⟨some 2,.mv (.cst (.bool false)),none⟩]) (.seq (.region [⟨none,.mv (.var 0),none⟩,⟨none,.bin .geq (.tmp 0) (.cst (.int .i64 0)),none⟩,⟨none,.mv (.tmp 1),none⟩,⟨none,.mv (.var 0),some (.tmp 2,true)⟩,⟨none,.mv (.var 1),some (.tmp 2,true)⟩,⟨none,.bin .leq (.tmp 3) (.tmp 4),some (.tmp 2,true)⟩,⟨none,.pick (.tmp 2) (.tmp 5) (.cst (.bool false)),none⟩,⟨some 2,.mv (.tmp 6),none⟩]) .ret),[.tmp 2]⟩
theorem yW:aE Try.prog Try.f82 2 [0,1,4] [] true ([],[])=some tX:=by kernel_rfl
theorem LF:Try.prog.funcs[82]?=some Try.f82:=by kernel_rfl
def Jk:cu:=⟨2,3,.seq (.region [⟨some 2,.mv (.cst (.bool false)),none⟩]) (.seq (.region [⟨none,.mv (.var 0),none⟩,⟨none,.mv (.var 1),none⟩,⟨none,.call (.fn 95) [.tmp 0,.tmp 1],none⟩,⟨none,.bin .geq (.tmp 2) (.cst (.int .i64 0)),none⟩,⟨some 2,.mv (.tmp 3),none⟩]) .ret),[.tmp 2]⟩
theorem Hp:aE Try.prog Try.f83 2 [0,1,4] [] true ([],[])=some Jk:=by kernel_rfl
theorem at39:Try.prog.funcs[83]?=some Try.f83:=by kernel_rfl
def Ai:cu:=⟨2,4,.seq (.region [⟨some 2,.box (.var 0),none⟩,⟨some 3,.mv (.cst (.bool false)),none⟩]) (.seq (.region [⟨none,.load false 1 (.var 1),none⟩,⟨none,.fieldAddr 0 (.var 2),none⟩,⟨none,.load false 1 (.tmp 1),none⟩,⟨none,.call (.tmp 0) [.tmp 2,.cst (.int .i64 100000)],none⟩,⟨none,.un .not (.tmp 3),none⟩,⟨none,.mv (.tmp 4),none⟩,⟨none,.load false 1 (.var 1),some (.tmp 5,false)⟩,⟨none,.fieldAddr 1 (.var 2),some (.tmp 5,false)⟩,⟨none,.load false 1 (.tmp 7),some (.tmp 5,false)⟩,⟨none,.call (.tmp 6) [.tmp 8,.cst (.int .i64 100000)],some (.tmp 5,false)⟩,⟨none,.un .not (.tmp 9),some (.tmp 5,false)⟩,⟨none,.pick (.tmp 5) (.cst (.bool true)) (.tmp 10),none⟩,⟨some 3,.mv (.tmp 11),none⟩]) .ret),[.tmp 3]⟩
theorem yV:aE Try.prog Try.f84 2 [0,1,2,3] [] true ([],[])=some Ai:=by kernel_rfl
theorem LE:Try.prog.funcs[84]?=some Try.f84:=by kernel_rfl
def xT:cu:=⟨2,3,.seq (.region [⟨some 2,.mv (.cst (.bool false)),none⟩]) (.seq (.region [⟨none,.mv (.var 0),none⟩,⟨none,.mv (.var 1),none⟩,⟨none,.call (.fn 85) [.tmp 0,.tmp 1],none⟩,⟨none,.bin .geq (.tmp 2) (.cst (.int .i64 0)),none⟩,⟨some 2,.mv (.tmp 3),none⟩]) .ret),[.tmp 2]⟩
theorem sN:aE Try.prog Try.f66 2 [0,1,4] [] true ([],[])=some xT:=by kernel_rfl
theorem HI:Try.prog.funcs[66]?=some Try.f66:=by kernel_rfl
def xS:cu:=⟨2,3,.seq (.region [⟨some 2,.mv (.cst (.bool false)),none⟩]) (.seq (.region [⟨none,.mv (.var 0),none⟩,⟨none,.load false 1 (.var 1),none⟩,⟨none,.call (.fn 68) [.tmp 0,.tmp 1],none⟩,⟨some 2,.mv (.tmp 2),none⟩]) .ret),[.tmp 2]⟩
theorem sM:aE Try.prog Try.f67 2 [0,1,3] [] true ([],[])=some xS:=by kernel_rfl
theorem HH:Try.prog.funcs[67]?=some Try.f67:=by kernel_rfl
def eC:MC:=.seq (.region [⟨some 7,.bin .lss (.var 6) (.var 5),none⟩]) (.seq (.cond (.var 7) .skip (.exit 0)) (.seq (.seq (.block 1 (.seq (.region [⟨none,.mv (.var 6),none⟩,⟨some 3,.mv (.tmp 0),none⟩]) (.seq (.region [⟨none,.mv (.var 0),none⟩,⟨none,.mv (.var 3),none⟩,⟨none,.indexSl 1 (.tmp 0) (.tmp 1),none⟩,⟨none,.load false 1 (.tmp 2),none⟩,⟨none,.mv (.var 1),none⟩,⟨none,.mv (.var 3),none⟩,⟨none,.indexSl 1 (.tmp 4) (.tmp 5),none⟩,⟨none,.load false 1 (.tmp 6),none⟩,⟨some 8,.bin .neq (.tmp 3) (.tmp 7),none⟩]) (.cond (.var 8) (.seq (.region [⟨some 2,.mv (.cst (.bool false)),none⟩]) .ret) .skip)))) (.kill [2,3,4,7,8])) (.region [⟨none,.bin .add (.var 6) (.cst (.int .i64 1)),none⟩,⟨some 6,.mv (.tmp 0),none⟩])))
def Ah:cu:=⟨2,9,.seq (.region [⟨some 2,.mv (.cst (.bool false)),none⟩]) (.seq (.seq (.region [⟨none,.mv (.var 0),none⟩,⟨none,.lenSl (.tmp 0),none⟩,⟨none,.mv (.var 1),none⟩,⟨none,.lenSl (.tmp 2),none⟩,⟨some 4,.bin .neq (.tmp 1) (.tmp 3),none⟩]) (.cond (.var 4) (.seq (.region [⟨some 2,.mv (.cst (.bool false)),none⟩]) .ret) .skip)) (.seq (.seq (.region [⟨none,.mv (.var 0),none⟩,⟨some 5,.lenSl (.tmp 0),none⟩,⟨some 6,.mv (.cst (.int .i64 0)),none⟩]) (.seq (.block 0 (.loop [2,3,4,7,8] eC)) (.kill [0,1,2,3,4,5,6,7,8]))) (.seq (.region [⟨some 2,.mv (.cst (.bool true)),none⟩]) .ret))),[.tmp 2]⟩
def dI:List Nat:=[2,3,4,7,8]
abbrev fh (v0 v1 v5 v6:AV):List AV:=[v0,v1,.undef,.undef,.undef,v5,v6,.undef,.undef]
theorem oM {v0 v1 d2 d3 d4 v5 v6 d7 d8:AV}:clear dI [v0,v1,d2,d3,d4,v5,v6,d7,d8]=fh v0 v1 v5 v6:=rfl
theorem sf {E:Env} {fuel:Nat} {A:ab} {o:Out} {k:List KC} {v0 v1 d2 d3 d4 v5 v6 d7 d8:AV} (h:bU (evC E fuel eC) dI fuel (fh v0 v1 v5 v6) A=some o) :
  run E fuel (.code (.loop [2,3,4,7,8] eC) :: k) [v0,v1,d2,d3,d4,v5,v6,d7,d8] A=after E fuel k o:=aS dI _ _ (by rw [oM]; exact h)
theorem yU:aE Try.prog Try.f68 2 [0,1,4,5,10,12,13,14,24] [] true ([[2,3,4,7,8]],[[2,3,4,7,8],[0,1,2,3,4,5,6,7,8]])=some Ah:=by kernel_rfl
theorem LD:Try.prog.funcs[68]?=some Try.f68:=by kernel_rfl
def AQ:cu:=⟨1,4,.seq (.region [⟨some 1,.box (.var 0),none⟩,⟨some 2,.mv (.cst (.int .i64 0)),none⟩]) (.seq (.seq (.region [⟨none,.fieldAddr 4 (.var 1),none⟩,⟨none,.load false 1 (.tmp 0),none⟩,⟨some 3,.bin .eql (.tmp 1) (.cst (.int .i64 2)),none⟩]) (.cond (.var 3) (.seq (.region [⟨none,.fieldAddr 1 (.var 1),none⟩,⟨none,.load false 1 (.tmp 0),none⟩,⟨none,.fieldAddr 2 (.var 1),none⟩,⟨none,.load false 1 (.tmp 2),none⟩,⟨none,.bin .add (.tmp 1) (.tmp 3),none⟩,⟨some 2,.mv (.tmp 4),none⟩]) .ret) .skip)) (.seq (.region [⟨none,.fieldAddr 1 (.var 1),none⟩,⟨none,.load false 1 (.tmp 0),none⟩,⟨none,.fieldAddr 3 (.var 1),none⟩,⟨none,.load false 1 (.tmp 2),none⟩,⟨none,.bin .add (.tmp 1) (.tmp 3),none⟩,⟨none,.fieldAddr 2 (.var 1),none⟩,⟨none,.load false 1 (.tmp 5),none⟩,⟨none,.bin .add (.tmp 4) (.tmp 6),none⟩,⟨some 2,.mv (.tmp 7),none⟩]) .ret)),[.tmp 2]⟩
theorem yT:aE Try.prog Try.f69 1 [0,1,2,5] [] true ([],[])=some AQ:=by kernel_rfl
theorem LC:Try.prog.funcs[69]?=some Try.f69:=by kernel_rfl
def wS:cu:=⟨2,2,.region [⟨none,.mv (.var 0),none⟩,⟨none,.mv (.var 0),none⟩,⟨none,.nilCheck (.tmp 1),none⟩,⟨none,.load false 1 (.tmp 2),none⟩,⟨none,.mv (.var 1),none⟩,⟨none,.append 4 32 (.tmp 3) (.tmp 4),none⟩,⟨none,.nilCheck (.tmp 0),none⟩,⟨none,.store 1 (.tmp 6) (.tmp 5),none⟩],[]⟩
theorem vJ:aE Try.prog Try.f70 2 [0,1] [] true ([],[])=some wS:=by kernel_rfl
theorem IS:Try.prog.funcs[70]?=some Try.f70:=by kernel_rfl
def Ek:cu:=⟨0,1,.seq (.region [⟨some 0,.allocA [.nilF,.nilF,.nilF],none⟩]) (.seq (.region [⟨none,.build [.nilF,.nilF,.nilF] [(1,(1,.fn 86)),(2,(1,.fn 87))],none⟩,⟨none,.storeA 3 (.var 0) (.tmp 0),none⟩]) .ret),[.cell 0 true 3]⟩
theorem yS:aE Try.prog Try.f71 0 [0] [] true ([],[])=some Ek:=by kernel_rfl
theorem LB:Try.prog.funcs[71]?=some Try.f71:=by kernel_rfl
def iS:MC:=.seq (.region [⟨some 6,.bin .lss (.var 5) (.var 4),none⟩]) (.seq (.cond (.var 6) .skip (.exit 0)) (.seq (.seq (.block 1 (.seq (.region [⟨none,.mv (.var 5),none⟩,⟨some 3,.mv (.tmp 0),none⟩]) (.seq (.region [⟨none,.mv (.var 1),none⟩,⟨none,.mv (.var 0),none⟩,⟨none,.mv (.var 3),none⟩,⟨none,.indexSl 1 (.tmp 1) (.tmp 2),none⟩,⟨none,.load false 1 (.tmp 3),none⟩,⟨some 7,.bin .eql (.tmp 0) (.tmp 4),none⟩]) (.cond (.var 7) (.seq (.region [⟨none,.mv (.var 3),none⟩,⟨some 2,.mv (.tmp 0),none⟩]) .ret) .skip)))) (.kill [2,3,6,7])) (.region [⟨none,.bin .add (.var 5) (.cst (.int .i64 1)),none⟩,⟨some 5,.mv (.tmp 0),none⟩])))
def Ix:cu:=⟨2,8,.seq (.region [⟨some 2,.mv (.cst (.int .i64 0)),none⟩]) (.seq (.seq (.region [⟨none,.mv (.var 0),none⟩,⟨some 4,.lenSl (.tmp 0),none⟩,⟨some 5,.mv (.cst (.int .i64 0)),none⟩]) (.seq (.block 0 (.loop [2,3,6,7] iS)) (.kill [0,1,2,3,4,5,6,7]))) (.seq (.region [⟨some 2,.mv (.cst (.int .i64 (-1))),none⟩]) .ret)),[.tmp 2]⟩
def ig:List Nat:=[2,3,6,7]
abbrev lE (v0 v1 v4 v5:AV):List AV:=[v0,v1,.undef,.undef,v4,v5,.undef,.undef]
theorem CB {v0 v1 d2 d3 v4 v5 d6 d7:AV}:clear ig [v0,v1,d2,d3,v4,v5,d6,d7]=lE v0 v1 v4 v5:=rfl
theorem Cd {E:Env} {fuel:Nat} {A:ab} {o:Out} {k:List KC} {v0 v1 d2 d3 v4 v5 d6 d7:AV} (h:bU (evC E fuel iS) ig fuel (lE v0 v1 v4 v5) A=some o) :
  run E fuel (.code (.loop [2,3,6,7] iS) :: k) [v0,v1,d2,d3,v4,v5,d6,d7] A=after E fuel k o:=aS ig _ _ (by rw [CB]; exact h)
theorem He:aE Try.prog Try.f49 2 [0,1,4,5,7,8,9,16] [] true ([[2,3,6,7]],[[2,3,6,7],[0,1,2,3,4,5,6,7]])=some Ix:=by kernel_rfl
theorem at64:Try.prog.funcs[49]?=some Try.f49:=by kernel_rfl
def iR:MC:=.seq (.region [⟨some 6,.bin .lss (.var 5) (.var 4),none⟩]) (.seq (.cond (.var 6) .skip (.exit 0)) (.seq (.seq (.block 1 (.seq (.region [⟨none,.mv (.var 5),none⟩,⟨some 3,.mv (.tmp 0),none⟩]) (.seq (.region [⟨none,.mv (.var 1),none⟩,⟨none,.mv (.var 0),none⟩,⟨none,.mv (.var 3),none⟩,⟨none,.indexSl 2 (.tmp 1) (.tmp 2),none⟩,⟨none,.load true 2 (.tmp 3),none⟩,⟨some 7,.call (.tmp 0) [.tmp 4],none⟩]) (.cond (.var 7) (.seq (.region [⟨none,.mv (.var 3),none⟩,⟨some 2,.mv (.tmp 0),none⟩]) .ret) .skip)))) (.kill [2,3,6,7])) (.region [⟨none,.bin .add (.var 5) (.cst (.int .i64 1)),none⟩,⟨some 5,.mv (.tmp 0),none⟩])))
def Iw:cu:=⟨2,8,.seq (.region [⟨some 2,.mv (.cst (.int .i64 0)),none⟩]) (.seq (.seq (.region [⟨none,.mv (.var 0),none⟩,⟨some 4,.lenSl (.tmp 0),none⟩,⟨some 5,.mv (.cst (.int .i64 0)),none⟩]) (.seq (.block 0 (.loop [2,3,6,7] iR)) (.kill [0,1,2,3,4,5,6,7]))) (.seq (.region [⟨some 2,.mv (.cst (.int .i64 (-1))),none⟩]) .ret)),[.tmp 2]⟩
def ic:List Nat:=[2,3,6,7]
abbrev lD (v0 v1 v4 v5:AV):List AV:=[v0,v1,.undef,.undef,v4,v5,.undef,.undef]
theorem CA {v0 v1 d2 d3 v4 v5 d6 d7:AV}:clear ic [v0,v1,d2,d3,v4,v5,d6,d7]=lD v0 v1 v4 v5:=rfl
theorem Cc {E:Env} {fuel:Nat} {A:ab} {o:Out} {k:List KC} {v0 v1 d2 d3 v4 v5 d6 d7:AV} (h:bU (evC E fuel iR) ic fuel (lD v0 v1 v4 v5) A=some o) :
  run E fuel (.code (.loop [2,3,6,7] iR) :: k) [v0,v1,d2,d3,v4,v5,d6,d7] A=after E fuel k o:=aS ic _ _ (by rw [CA]; exact h)
theorem Hc:aE Try.prog Try.f95 2 [0,1,4,5,7,8,9,16] [] true ([[2,3,6,7]],[[2,3,6,7],[0,1,2,3,4,5,6,7]])=some Iw:=by kernel_rfl
theorem at65:Try.prog.funcs[95]?=some Try.f95:=by kernel_rfl
def iQ:MC:=.seq (.region [⟨some 6,.bin .lss (.var 5) (.var 4),none⟩]) (.seq (.cond (.var 6) .skip (.exit 0)) (.seq (.seq (.block 1 (.seq (.region [⟨none,.mv (.var 5),none⟩,⟨some 3,.mv (.tmp 0),none⟩]) (.seq (.region [⟨none,.mv (.var 1),none⟩,⟨none,.mv (.var 0),none⟩,⟨none,.mv (.var 3),none⟩,⟨none,.indexSl 1 (.tmp 1) (.tmp 2),none⟩,⟨none,.load false 1 (.tmp 3),none⟩,⟨some 7,.call (.tmp 0) [.tmp 4],none⟩]) (.cond (.var 7) (.seq (.region [⟨none,.mv (.var 3),none⟩,⟨some 2,.mv (.tmp 0),none⟩]) .ret) .skip)))) (.kill [2,3,6,7])) (.region [⟨none,.bin .add (.var 5) (.cst (.int .i64 1)),none⟩,⟨some 5,.mv (.tmp 0),none⟩])))
def Iv:cu:=⟨2,8,.seq (.region [⟨some 2,.mv (.cst (.int .i64 0)),none⟩]) (.seq (.seq (.region [⟨none,.mv (.var 0),none⟩,⟨some 4,.lenSl (.tmp 0),none⟩,⟨some 5,.mv (.cst (.int .i64 0)),none⟩]) (.seq (.block 0 (.loop [2,3,6,7] iQ)) (.kill [0,1,2,3,4,5,6,7]))) (.seq (.region [⟨some 2,.mv (.cst (.int .i64 (-1))),none⟩]) .ret)),[.tmp 2]⟩
def hJ:List Nat:=[2,3,6,7]
abbrev lC (v0 v1 v4 v5:AV):List AV:=[v0,v1,.undef,.undef,v4,v5,.undef,.undef]
theorem Cz {v0 v1 d2 d3 v4 v5 d6 d7:AV}:clear hJ [v0,v1,d2,d3,v4,v5,d6,d7]=lC v0 v1 v4 v5:=rfl
theorem Cb {E:Env} {fuel:Nat} {A:ab} {o:Out} {k:List KC} {v0 v1 d2 d3 v4 v5 d6 d7:AV} (h:bU (evC E fuel iQ) hJ fuel (lC v0 v1 v4 v5) A=some o) :
  run E fuel (.code (.loop [2,3,6,7] iQ) :: k) [v0,v1,d2,d3,v4,v5,d6,d7] A=after E fuel k o:=aS hJ _ _ (by rw [Cz]; exact h)
theorem Hb:aE Try.prog Try.f85 2 [0,1,4,5,7,8,9,16] [] true ([[2,3,6,7]],[[2,3,6,7],[0,1,2,3,4,5,6,7]])=some Iv:=by kernel_rfl
theorem at66:Try.prog.funcs[85]?=some Try.f85:=by kernel_rfl
def Iu:cu:=⟨2,4,.seq (.region [⟨some 2,.alloc 3 (.agg [.int .i64 0,.int .i64 0,.int .i64 0]),none⟩]) (.seq (.seq (.region [⟨none,.mv (.var 0),none⟩,⟨none,.mv (.var 1),none⟩,⟨none,.call (.fn 49) [.tmp 0,.tmp 1],none⟩,⟨none,.mv (.var 0),none⟩,⟨none,.mv (.var 1),none⟩,⟨none,.bin .sub (.tmp 4) (.cst (.int .i64 1)),none⟩,⟨none,.call (.fn 49) [.tmp 3,.tmp 5],none⟩,⟨some 3,.bin .lss (.tmp 2) (.tmp 6),none⟩]) (.cond (.var 3) (.seq (.region [⟨none,.mv (.var 1),none⟩,⟨none,.bin .sub (.tmp 0) (.cst (.int .i64 1)),none⟩,⟨none,.mv (.var 1),none⟩,⟨none,.build [.int .i64 0,.int .i64 0,.int .i64 0] [(0,(1,.tmp 1)),(1,(1,.tmp 2)),(2,(1,.cst (.int .i64 1)))],none⟩,⟨none,.store 3 (.var 2) (.tmp 3),none⟩]) .ret) .skip)) (.seq (.region [⟨none,.mv (.var 1),none⟩,⟨none,.bin .sub (.tmp 0) (.cst (.int .i64 1)),none⟩,⟨none,.mv (.var 1),none⟩,⟨none,.build [.int .i64 0,.int .i64 0,.int .i64 0] [(0,(1,.tmp 1)),(1,(1,.tmp 2)),(2,(1,.cst (.int .i64 0)))],none⟩,⟨none,.store 3 (.var 2) (.tmp 3),none⟩]) .ret)),[.cell 2 true 3]⟩
theorem Ha:aE Try.prog Try.f86 2 [0,1,4,12] [] true ([],[])=some Iu:=by kernel_rfl
theorem at67:Try.prog.funcs[86]?=some Try.f86:=by kernel_rfl
def Jg:cu:=⟨2,3,.seq (.region [⟨some 2,.alloc 3 (.agg [.int .i64 0,.int .i64 0,.int .i64 0]),none⟩]) (.seq (.region [⟨none,.mv (.var 1),none⟩,⟨none,.mv (.var 1),none⟩,⟨none,.build [.int .i64 0,.int .i64 0,.int .i64 0] [(0,(1,.tmp 0)),(1,(1,.tmp 1)),(2,(1,.cst (.int .i64 1)))],none⟩,⟨none,.store 3 (.var 2) (.tmp 2),none⟩]) .ret),[.cell 2 true 3]⟩
theorem G9:aE Try.prog Try.f87 2 [0,1,4] [] true ([],[])=some Jg:=by kernel_rfl
theorem at68:Try.prog.funcs[87]?=some Try.f87:=by kernel_rfl
end Clu
namespace Clu
open Go
open Cy (GC iA c9 bJ bM cm aJ bb aB)
structure aR where
 ch:List (Int × Int)
 pick:Int
 place:Int
 travel:Int
 blades:Int
def chA (x:Int × Int):AV:=.agg [.int .i64 x.1,.int .i64 x.2]
def an (T:aR) (chv:AV):AV:=.agg [chv,.int .i64 T.pick,.int .i64 T.place,.int .i64 T.travel,.int .i64 T.blades]
def pV (x:Int × Int):Prop:=(0<=x.1/\x.1<=100000)/\0<=x.2/\x.2<=100000
instance (x:Int × Int):Decidable (pV x):=inferInstanceAs (Decidable (_/\_))
def aZ (T:aR):Prop:=(∀x∈T.ch,pV x)/\((0<=T.pick/\T.pick<=10000)/\(0<=T.place/\T.place<=10000)/\(0<=T.travel/\T.travel<=10000))/\1<=T.ch.length/\T.ch.length<=4/\(T.blades=1\/T.blades=2)
instance (T:aR):Decidable (aZ T):=inferInstanceAs (Decidable (_/\_))
def M38:aP:=fun args=>match args with
 | [.int .i64 n,.int .i64 hi]=>some (.bool (decide (0<=n) && decide (n<=hi)))
 | _=>none
theorem lM:au Try.prog GC 82 M38:=by
 refine au.of_ev (E:=ax GC []) (aw aA) rfl LF yW 1 ?_
 intro args r h
 unfold M38 at h
 split at h
 ·rename_i n hi
  injection h with h; subst h
  refine ⟨0,?_⟩
  have b1:ai .geq (.int .i64 n) (.int .i64 0)=some (.bool (decide (0<=n))):=by simp [ai]
  have b2:ai .leq (.int .i64 n) (.int .i64 hi)=some (.bool (decide (n<=hi))):=by simp [ai]
  obtain ⟨p,hp⟩:∃p,p=decide (0<=n):=⟨_,rfl⟩
  obtain ⟨q,hq⟩:∃q,q=decide (n<=hi):=⟨_,rfl⟩
  rw [<-hp] at b1 ⊢
  rw [<-hq] at b2 ⊢
  rw [aK _ _ rfl]
  cases p <;> simp [tX,b1,b2,-ai]
 ·cases h
def An:AV:=.func (.func 82) [] []
def wX:List (FuncId × aG):=[(82,aD 4 M38)]
@[simp] theorem JU:aC wX 82=some (aD 4 M38):=rfl
theorem tD:∀f M,aC wX f=some M->aj Try.prog GC f M:=af (aj.of_pure lM 4) aA
def M40:aP:=fun args=>evP (ax GC wX) 0 Ai 1 args
theorem nG:au Try.prog GC 84 M40:=au.of_ev (E:=ax GC wX) (aw tD) rfl LE yV 1 fun _ _ h=>⟨0,h⟩
theorem Gg (x:Int × Int):(!decide (pV x))=(!(decide (0<=x.1) && decide (x.1<=100000)) || !(decide (0<=x.2) && decide (x.2<=100000))):=by
 unfold pV
 by_cases h1:0<=x.1 <;> by_cases h2:x.1<=100000 <;> by_cases h3:0<=x.2 <;> by_cases h4:x.2<=100000 <;> simp [h1,h2,h3,h4]
theorem vY (x:Int × Int):M40 [chA x,.fp [An]]=some (.bool (!decide (pV x))):=by
 obtain ⟨a,b⟩:=x
 rw [Gg]
 have m1:M38 [.int .i64 a,.int .i64 100000]=some (.bool (decide (0<=a) && decide (a<=100000))):=rfl
 have m2:M38 [.int .i64 b,.int .i64 100000]=some (.bool (decide (0<=b) && decide (b<=100000))):=rfl
 obtain ⟨p,hp⟩:∃p,p=(decide (0<=a) && decide (a<=100000)):=⟨_,rfl⟩
 obtain ⟨q,hq⟩:∃q,q=(decide (0<=b) && decide (b<=100000)):=⟨_,rfl⟩
 simp only
 rw [<-hp] at m1 ⊢
 rw [<-hq] at m2 ⊢
 unfold M40
 rw [aK _ _ rfl]
 cases p <;> simp [Ai,chA,An,m1,m2,frz]
def Co:List (FuncId × aG):=[(84,aD 4 M40)]
@[simp] theorem JB:aC Co 84=some (aD 4 M40):=rfl
theorem Dn:∀f M,aC Co f=some M->aj Try.prog GC f M:=af (aj.of_pure nG 4) aA
def M65:aP:=fun args=>evP (ax GC Co) 300 Iw 1 args
theorem FD:au Try.prog GC 95 M65:=au.of_ev (E:=ax GC Co) (aw Dn) rfl at65 Hc 1 fun _ _ h=>⟨300,h⟩
def eY (x:Int × Int):Bool:=!decide (pV x)
def dn:AV:=.func (.func 84) [] [.fp [An]]
theorem H6 {xs:List (Int × Int)} {b:AV} (hb:SlA 2 (xs.map chA) b) (hl:xs.length<=200):M65 [b,dn]=some (.int .i64 (c9 eY xs)):=by
 have hlen:=hb.len
 rw [List.length_map] at hlen
 have round:∀(A:ab) (i:Nat) (hi:i<xs.length),run (ax GC Co) 300 [.code iR] (lD b dn (.int .i64 (xs.length:Int)) (.int .i64 (i:Int))) A =
   if eY xs[i]=false then some (.normal (lD b dn (.int .i64 (xs.length:Int)) (.int .i64 ((i+1:Nat):Int))) A) else some (.ret [b,dn,.int .i64 (i:Int),.int .i64 (i:Int),.int .i64 (xs.length:Int),.int .i64 (i:Int),.bool true,.bool true] A):=fun A i hi=>by
  have he:(xs.map chA)[i]?=some (chA xs[i]):=by simp [hi]
  have x1:=hb.index (A:=A) he rfl (by decide) .i64
  have ld:ac true 2 A (.fp (cellsOf (chA xs[i])))=some (chA xs[i]):=rfl
  obtain ⟨C,hC⟩:∃C,C=cellsOf (chA xs[i]):=⟨_,rfl⟩
  rw [<-hC] at x1 ld
  have m:=vY xs[i]
  have b1:=bj i xs.length .i64
  rw [decide_eq_true hi] at b1
  have b3:=aY i (by omega)
  have fz:∀A,frz A 4 (chA xs[i])=chA xs[i]:=fun A=>rfl
  have fz2:∀A,frz A 4 (.fp [An])=.fp [An]:=fun A=>rfl
  obtain ⟨i1,hi1⟩:∃i1:Nat,i1=i+1:=⟨_,rfl⟩
  rw [<-hi1] at b3 ⊢
  obtain ⟨d,hd⟩:∃d,d=eY xs[i]:=⟨_,rfl⟩
  rw [show (!decide (pV xs[i]))=d from hd.symm] at m
  rw [<-hd]
  obtain ⟨c,hc⟩:∃c,c=chA xs[i]:=⟨_,rfl⟩
  rw [<-hc] at m ld fz
  cases d with
  | false=>simp [iR,dn,x1,ld,m,fz,fz2,b1,b3,-frz,-ai,-ag,-aq,-ac]
  | true=>simp [iR,dn,x1,ld,m,fz,fz2,b1,-frz,-ai,-ag,-aq,-ac]
 unfold M65
 rw [aK _ _ rfl]
 rcases cI (E:=ax GC Co) (fuel:=300) (a:=iR) (mask:=ic) (fun i=>lD b dn (.int .i64 (xs.length:Int)) (.int .i64 (i:Int))) (fun _=>[]) xs.length (fun i=>¬ ∀hi:i<xs.length,eY xs[i]=false)
  (oF:=fun i=>.ret [b,dn,.int .i64 (i:Int),.int .i64 (i:Int),.int .i64 (xs.length:Int),.int .i64 (i:Int),.bool true,.bool true] []) (oE:=.exit 0 ((lD b dn (.int .i64 (xs.length:Int)) (.int .i64 (xs.length:Int))).set 6 (.bool false)) [])
  (fun _=>CA) (fun _ _ _ h=>by cases h) (fun _ _ h=>by cases h)
  (fun i hi hp=>by
   rw [round [] i hi]
   exact if_pos (Classical.not_not.1 hp hi))
  (fun i hi hp=>by
   rw [round [] i hi]
   exact if_neg fun h=>hp fun _=>h)
  (by simp [iR]) (show xs.length<300 by omega) with ⟨i,hi,hp,hj,lp⟩ | ⟨hp,lp⟩
 ·have lp:bU (evC (ax GC Co) 300 iR) ic 300 (lD b dn (.int .i64 (xs.length:Int)) (.int .i64 0)) []=_:=lp
  have e:c9 eY xs=(i:Int):=bJ hi (by
   cases h':eY xs[i] with
   | true=>rfl
   | false=>exact absurd (fun _=>h') hp) (fun j hj'=>Classical.not_not.1 (hj j hj') (by omega))
  rw [e]
  simp [Iw,hlen,Cc lp,-ai,-aq]
 ·have lp:bU (evC (ax GC Co) 300 iR) ic 300 (lD b dn (.int .i64 (xs.length:Int)) (.int .i64 0)) []=_:=lp
  have e:c9 eY xs = -1:=bM fun i hi=>Classical.not_not.1 (hp i hi) hi
  rw [e]
  simp [Iw,hlen,Cc lp,-ai,-aq]
def IH:List (FuncId × aG):=[(95,aD 4 M65)]
@[simp] theorem JX:aC IH 95=some (aD 4 M65):=rfl
theorem Dy:∀f M,aC IH f=some M->aj Try.prog GC f M:=af (aj.of_pure FD 4) aA
def M39:aP:=fun args=>evP (ax GC IH) 0 Jk 1 args
theorem FO:au Try.prog GC 83 M39:=au.of_ev (E:=ax GC IH) (aw Dy) rfl at39 Hp 1 fun _ _ h=>⟨0,h⟩
theorem Id {xs:List (Int × Int)} {b:AV} (hb:SlA 2 (xs.map chA) b) (hl:xs.length<=200):M39 [b,dn]=some (.bool (xs.any eY)):=by
 have h:=H6 hb hl
 have b1:=iA (c9 eY xs)
 rw [cm] at b1
 have f1:∀A n,frz A n b=b:=fun A n=>hb.frz n
 have f2:∀A,frz A 4 dn=dn:=fun A=>rfl
 obtain ⟨z,hz⟩:∃z,z=c9 eY xs:=⟨_,rfl⟩
 rw [<-hz] at h b1
 unfold M39
 rw [aK _ _ rfl]
 simp [Jk,h,b1,f1,f2,bb,-ai,-frz]
def yq:List (FuncId × aG):=[(82,aD 4 M38),(83,aD 4 M39)]
@[simp] theorem K7:aC yq 82=some (aD 4 M38):=rfl
@[simp] theorem K6:aC yq 83=some (aD 4 M39):=rfl
theorem tH:∀f M,aC yq f=some M->aj Try.prog GC f M:=af (aj.of_pure lM 4) (af (aj.of_pure FO 4) aA)
def M16:aP:=fun args=>evP (ax GC yq) 0 p5 1 args
theorem lN:au Try.prog GC 62 M16:=au.of_ev (E:=ax GC yq) (aw tH) rfl HL sQ 1 fun _ _ h=>⟨0,h⟩
theorem C9 (T:aR):decide (aZ T)=(!(T.ch.any eY) && ((decide (0<=T.pick) && decide (T.pick<=10000)) && ((decide (0<=T.place) && decide (T.place<=10000)) && (decide (0<=T.travel) && decide (T.travel<=10000)))) && (decide (1<=T.ch.length) && (decide (T.ch.length<=4) && (decide (T.blades=1) || decide (T.blades=2))))):=by
 have e:(!(T.ch.any eY))=decide (∀x∈T.ch,pV x):=by
  rw [Bool.eq_iff_iff,decide_eq_true_eq,Bool.not_eq_true',List.any_eq_false]
  unfold eY
  simp
 rw [e]
 rw [Bool.eq_iff_iff,decide_eq_true_eq]
 unfold aZ
 simp only [decide_eq_true_eq,Bool.and_eq_true,Bool.or_eq_true]
 constructor
 ·rintro ⟨h1,⟨h2,h3,h4⟩,h5,h6,h7⟩
  exact ⟨⟨h1,h2,h3,h4⟩,h5,h6,h7⟩
 ·rintro ⟨⟨h1,h2,h3,h4⟩,h5,h6,h7⟩
  exact ⟨h1,⟨h2,h3,h4⟩,h5,h6,h7⟩
theorem qy {T:aR} {chv:AV} (hb:SlA 2 (T.ch.map chA) chv) (hl:T.ch.length<=200):M16 [an T chv]=some (.bool (decide (aZ T))):=by
 obtain ⟨ch,pk,pl,tr,bl⟩:=T
 simp only at hb hl
 rw [C9]
 simp only
 have hlen:=hb.len
 rw [List.length_map] at hlen
 have m:=Id hb hl
 have f1:∀A n,frz A n chv=chv:=fun A n=>hb.frz n
 have m1:M38 [.int .i64 pk,.int .i64 10000]=some (.bool (decide (0<=pk) && decide (pk<=10000))):=rfl
 have m2:M38 [.int .i64 pl,.int .i64 10000]=some (.bool (decide (0<=pl) && decide (pl<=10000))):=rfl
 have m3:M38 [.int .i64 tr,.int .i64 10000]=some (.bool (decide (0<=tr) && decide (tr<=10000))):=rfl
 have b1:ai .geq (.int .i64 (ch.length:Int)) (.int .i64 1)=some (.bool (decide (1<=ch.length))):=by simp [ai]; omega
 have b2:ai .leq (.int .i64 (ch.length:Int)) (.int .i64 4)=some (.bool (decide (ch.length<=4))):=by simp [ai]; omega
 have b3:ai .eql (.int .i64 bl) (.int .i64 1)=some (.bool (decide (bl=1))):=by simp [ai]
 have b4:ai .eql (.int .i64 bl) (.int .i64 2)=some (.bool (decide (bl=2))):=by simp [ai]
 have fw:∀A:ab,A[1]?=some (.row 1 false [An])->frz A 4 (.func (.func 84) [] [.ptr 1 0 0])=dn:=fun A hA=>by simp [frz,hA,dn,An]
 have ld0:∀A:ab,A[0]?=some (.row 5 false [.agg [chv,.int .i64 pk,.int .i64 pl,.int .i64 tr,.int .i64 bl]])->ac false 1 A (.ptr 0 0 0)=some chv/\ac false 1 A (.ptr 0 0 1)=some (.int .i64 pk)/\ac false 1 A (.ptr 0 0 2)=some (.int .i64 pl)/\ac false 1 A (.ptr 0 0 3)=some (.int .i64 tr)/\ac false 1 A (.ptr 0 0 4)=some (.int .i64 bl):=fun A hA=>by
  refine ⟨?_,?_,?_,?_,?_⟩ <;> simp only [ac,hA] <;> rfl
 obtain ⟨l0,l1,l2,l3,l4⟩:=ld0 [.row 5 false [.agg [chv,.int .i64 pk,.int .i64 pl,.int .i64 tr,.int .i64 bl]],.row 1 false [An]] rfl
 have fw':=fw [.row 5 false [.agg [chv,.int .i64 pk,.int .i64 pl,.int .i64 tr,.int .i64 bl]],.row 1 false [An]] rfl
 rw [show an ⟨ch,pk,pl,tr,bl⟩ chv=.agg [chv,.int .i64 pk,.int .i64 pl,.int .i64 tr,.int .i64 bl] from rfl]
 unfold An at l0 l1 l2 l3 l4 fw'
 have l5:ac false 1 [.row 5 false [.agg [chv,.int .i64 pk,.int .i64 pl,.int .i64 tr,.int .i64 bl]],.row 1 false [.func (.func 82) [] []]] (.ptr 1 0 0)=some (.func (.func 82) [] []):=rfl
 obtain ⟨d0,h0⟩:∃d,d=ch.any eY:=⟨_,rfl⟩
 obtain ⟨d1,h1⟩:∃d,d=(decide (0<=pk) && decide (pk<=10000)):=⟨_,rfl⟩
 obtain ⟨d2,h2⟩:∃d,d=(decide (0<=pl) && decide (pl<=10000)):=⟨_,rfl⟩
 obtain ⟨d3,h3⟩:∃d,d=(decide (0<=tr) && decide (tr<=10000)):=⟨_,rfl⟩
 obtain ⟨d4,h4⟩:∃d,d=decide (1<=ch.length):=⟨_,rfl⟩
 obtain ⟨d5,h5⟩:∃d,d=decide (ch.length<=4):=⟨_,rfl⟩
 obtain ⟨d6,h6⟩:∃d,d=decide (bl=1):=⟨_,rfl⟩
 obtain ⟨d7,h7⟩:∃d,d=decide (bl=2):=⟨_,rfl⟩
 rw [<-h0] at m ⊢
 rw [<-h1] at m1 ⊢
 rw [<-h2] at m2 ⊢
 rw [<-h3] at m3 ⊢
 rw [<-h4] at b1 ⊢
 rw [<-h5] at b2 ⊢
 rw [<-h6] at b3 ⊢
 rw [<-h7] at b4 ⊢
 unfold M16
 rw [aK _ _ rfl]
 cases d1
 ·cases d0 <;> simp [p5,m,m1,f1,fw',l0,l1,l5,aJ,bb,-frz,-ai,-aq,-ac]
 cases d2
 ·cases d0 <;> simp [p5,m,m1,m2,f1,fw',l0,l1,l2,l5,aJ,bb,-frz,-ai,-aq,-ac]
 cases d3
 ·cases d0 <;> simp [p5,m,m1,m2,m3,f1,fw',l0,l1,l2,l3,l5,aJ,bb,-frz,-ai,-aq,-ac]
 cases d0
 rotate_left
 ·simp [p5,m,m1,m2,m3,f1,fw',l0,l1,l2,l3,l5,aJ,bb,-frz,-ai,-aq,-ac]
 cases d4
 ·simp [p5,m,m1,m2,m3,b1,hlen,f1,fw',l0,l1,l2,l3,l5,aJ,bb,-frz,-ai,-aq,-ac]
 cases d5
 ·simp [p5,m,m1,m2,m3,b1,b2,hlen,f1,fw',l0,l1,l2,l3,l5,aJ,bb,-frz,-ai,-aq,-ac]
 cases d6 <;> simp [p5,m,m1,m2,m3,b1,b2,b3,b4,hlen,f1,fw',l0,l1,l2,l3,l4,l5,aJ,bb,-frz,-ai,-aq,-ac]
end Clu
namespace Clu
open Go
open Cy (GC iA c9 bJ bM cm aJ bb aB)
theorem br (a b:Int):ai .eql (.int .i64 a) (.int .i64 b)=some (.bool (decide (a=b))):=by simp [ai]
theorem cM (a b:Int):ai .neq (.int .i64 a) (.int .i64 b)=some (.bool (decide (a≠b))):=by simp [ai]
theorem a7 {a b:Int} (h : -9223372036854775808<=a+b/\a+b<=9223372036854775807):ai .add (.int .i64 a) (.int .i64 b)=some (.int .i64 (a+b)):=by
 simp only [ai]; rw [if_pos trivial,eu h]
theorem bV {a b:Int} (h : -9223372036854775808<=a-b/\a-b<=9223372036854775807):ai .sub (.int .i64 a) (.int .i64 b)=some (.int .i64 (a-b)):=by
 simp only [ai]; rw [if_pos trivial,eu h]
theorem cT (a b:Int):ai .leq (.int .i64 a) (.int .i64 b)=some (.bool (decide (a<=b))):=by simp [ai]
theorem ce (a b:Int):ai .lss (.int .i64 a) (.int .i64 b)=some (.bool (decide (a<b))):=by simp [ai]
def M64:aP:=fun args=>evP (ax GC []) 300 Ix 1 args
theorem uQ:au Try.prog GC 49 M64:=au.of_ev (E:=ax GC []) (aw aA) rfl at64 He 1 fun _ _ h=>⟨300,h⟩
def isI (v x:Int):Bool:=decide (v=x)
theorem qv {xs:List Int} {b:AV} (hb:SlA 1 (ak xs) b) (hl:xs.length<=200) (v:Int):M64 [b,.int .i64 v]=some (.int .i64 (c9 (isI v) xs)):=by
 have hlen:=hb.len
 rw [aB] at hlen
 have round:∀(A:ab) (i:Nat) (hi:i<xs.length),run (ax GC []) 300 [.code iS] (lE b (.int .i64 v) (.int .i64 (xs.length:Int)) (.int .i64 (i:Int))) A =
   if isI v xs[i]=false then some (.normal (lE b (.int .i64 v) (.int .i64 (xs.length:Int)) (.int .i64 ((i+1:Nat):Int))) A) else some (.ret [b,.int .i64 v,.int .i64 (i:Int),.int .i64 (i:Int),.int .i64 (xs.length:Int),.int .i64 (i:Int),.bool true,.bool true] A):=fun A i hi=>by
  have x1:=hb.int (A:=A) _ _ (List.getElem?_eq_getElem hi) .i64
  have m:=br v xs[i]
  have b1:=bj i xs.length .i64
  rw [decide_eq_true hi] at b1
  have b3:=aY i (by omega)
  obtain ⟨i1,hi1⟩:∃i1:Nat,i1=i+1:=⟨_,rfl⟩
  rw [<-hi1] at b3 ⊢
  obtain ⟨d,hd⟩:∃d,d=isI v xs[i]:=⟨_,rfl⟩
  rw [show decide (v=xs[i])=d from hd.symm] at m
  rw [<-hd]
  cases d with
  | false=>simp [iS,x1,m,b1,b3,-ai,-ag,-aq]
  | true=>simp [iS,x1,m,b1,-ai,-ag,-aq]
 unfold M64
 rw [aK _ _ rfl]
 rcases cI (E:=ax GC []) (fuel:=300) (a:=iS) (mask:=ig) (fun i=>lE b (.int .i64 v) (.int .i64 (xs.length:Int)) (.int .i64 (i:Int))) (fun _=>[]) xs.length (fun i=>¬ ∀hi:i<xs.length,isI v xs[i]=false)
  (oF:=fun i=>.ret [b,.int .i64 v,.int .i64 (i:Int),.int .i64 (i:Int),.int .i64 (xs.length:Int),.int .i64 (i:Int),.bool true,.bool true] []) (oE:=.exit 0 ((lE b (.int .i64 v) (.int .i64 (xs.length:Int)) (.int .i64 (xs.length:Int))).set 6 (.bool false)) [])
  (fun _=>CB) (fun _ _ _ h=>by cases h) (fun _ _ h=>by cases h)
  (fun i hi hp=>by
   rw [round [] i hi]
   exact if_pos (Classical.not_not.1 hp hi))
  (fun i hi hp=>by
   rw [round [] i hi]
   exact if_neg fun h=>hp fun _=>h)
  (by simp [iS]) (show xs.length<300 by omega) with ⟨i,hi,hp,hj,lp⟩ | ⟨hp,lp⟩
 ·have lp:bU (evC (ax GC []) 300 iS) ig 300 (lE b (.int .i64 v) (.int .i64 (xs.length:Int)) (.int .i64 0)) []=_:=lp
  have e:c9 (isI v) xs=(i:Int):=bJ hi (by
   cases h':isI v xs[i] with
   | true=>rfl
   | false=>exact absurd (fun _=>h') hp) (fun j hj'=>Classical.not_not.1 (hj j hj') (by omega))
  rw [e]
  simp [Ix,hlen,Cd lp,-ai,-aq]
 ·have lp:bU (evC (ax GC []) 300 iS) ig 300 (lE b (.int .i64 v) (.int .i64 (xs.length:Int)) (.int .i64 0)) []=_:=lp
  have e:c9 (isI v) xs = -1:=bM fun i hi=>Classical.not_not.1 (hp i hi) hi
  rw [e]
  simp [Ix,hlen,Cd lp,-ai,-aq]
def IJ:List (FuncId × aG):=[(49,aD 4 M64)]
@[simp] theorem JZ:aC IJ 49=some (aD 4 M64):=rfl
theorem DA:∀f M,aC IJ f=some M->aj Try.prog GC f M:=af (aj.of_pure uQ 4) aA
def M35:aP:=fun args=>evP (ax GC IJ) 0 E7 1 args
theorem xo:au Try.prog GC 64 M35:=au.of_ev (E:=ax GC IJ) (aw DA) rfl LG yX 1 fun _ _ h=>⟨0,h⟩
theorem EU (v:Int) (xs:List Int):xs.any (isI v)=decide (v∈xs):=by
 rw [Bool.eq_iff_iff,List.any_eq_true,decide_eq_true_eq]
 unfold isI
 constructor
 ·rintro ⟨x,hx,h⟩
  rw [of_decide_eq_true h]; exact hx
 ·exact fun h=>⟨v,h,by simp⟩
theorem Ie {xs:List Int} {b:AV} (hb:SlA 1 (ak xs) b) (hl:xs.length<=200) (v:Int):M35 [b,.int .i64 v]=some (.bool (decide (v∈xs))):=by
 have h:=qv hb hl v
 have b1:=iA (c9 (isI v) xs)
 rw [cm,EU] at b1
 have f1:∀A n,frz A n b=b:=fun A n=>hb.frz n
 obtain ⟨z,hz⟩:∃z,z=c9 (isI v) xs:=⟨_,rfl⟩
 rw [<-hz] at h b1
 obtain ⟨d,hd⟩:∃d,d=decide (v∈xs):=⟨_,rfl⟩
 rw [<-hd] at b1 ⊢
 unfold M35
 rw [aK _ _ rfl]
 simp [E7,h,b1,f1,aJ,bb,-ai,-frz]
def M43:aP:=fun args=>evP (ax GC []) 300 Ah 1 args
theorem FN:au Try.prog GC 68 M43:=au.of_ev (E:=ax GC []) (aw aA) rfl LD yU 1 fun _ _ h=>⟨300,h⟩
theorem vV {xs ys:List Int} {a b:AV} (ha:SlA 1 (ak xs) a) (hb:SlA 1 (ak ys) b) (hl:xs.length<=200):M43 [a,b]=some (.bool (decide (xs=ys))):=by
 have hla:=ha.len
 have hlb:=hb.len
 rw [aB] at hla hlb
 have b0:ai .neq (.int .i64 (xs.length:Int)) (.int .i64 (ys.length:Int))=some (.bool (decide (xs.length≠ys.length))):=by
  rw [cM]
  congr 2
  exact decide_eq_decide.2 (by omega)
 by_cases h0:xs.length≠ys.length
 ·rw [decide_eq_true h0] at b0
  rw [decide_eq_false (fun h=>h0 (by rw [h]))]
  unfold M43
  rw [aK _ _ rfl]
  simp [Ah,hla,hlb,b0,-ai,-aq]
 have h0:xs.length=ys.length:=Classical.not_not.1 h0
 rw [decide_eq_false (by omega)] at b0
 have round:∀(A:ab) (i:Nat) (hi:i<xs.length),run (ax GC []) 300 [.code eC] (fh a b (.int .i64 (xs.length:Int)) (.int .i64 (i:Int))) A =
   if xs[i]=ys[i]'(by omega) then some (.normal (fh a b (.int .i64 (xs.length:Int)) (.int .i64 ((i+1:Nat):Int))) A) else some (.ret [a,b,.bool false,.int .i64 (i:Int),.undef,.int .i64 (xs.length:Int),.int .i64 (i:Int),.bool true,.bool true] A):=fun A i hi=>by
  have x1:=ha.int (A:=A) _ _ (List.getElem?_eq_getElem hi) .i64
  have x2:=hb.int (A:=A) _ _ (List.getElem?_eq_getElem (show i<ys.length by omega)) .i64
  have m:=cM xs[i] (ys[i]'(by omega))
  have b1:=bj i xs.length .i64
  rw [decide_eq_true hi] at b1
  have b3:=aY i (by omega)
  obtain ⟨i1,hi1⟩:∃i1:Nat,i1=i+1:=⟨_,rfl⟩
  rw [<-hi1] at b3 ⊢
  by_cases hd:xs[i]=ys[i]'(by omega)
  ·rw [decide_eq_false (by simpa using hd)] at m
   rw [if_pos hd]
   simp [eC,x1,x2,m,b1,b3,-ai,-ag,-aq]
  ·rw [decide_eq_true (by simpa using hd)] at m
   rw [if_neg hd]
   simp [eC,x1,x2,m,b1,-ai,-ag,-aq]
 unfold M43
 rw [aK _ _ rfl]
 rcases cI (E:=ax GC []) (fuel:=300) (a:=eC) (mask:=dI) (fun i=>fh a b (.int .i64 (xs.length:Int)) (.int .i64 (i:Int))) (fun _=>[]) xs.length (fun i=>¬ ∀(hi:i<xs.length),xs[i]=ys[i]'(by omega))
  (oF:=fun i=>.ret [a,b,.bool false,.int .i64 (i:Int),.undef,.int .i64 (xs.length:Int),.int .i64 (i:Int),.bool true,.bool true] []) (oE:=.exit 0 ((fh a b (.int .i64 (xs.length:Int)) (.int .i64 (xs.length:Int))).set 7 (.bool false)) [])
  (fun _=>oM) (fun _ _ _ h=>by cases h) (fun _ _ h=>by cases h)
  (fun i hi hp=>by
   rw [round [] i hi]
   exact if_pos (Classical.not_not.1 hp hi))
  (fun i hi hp=>by
   rw [round [] i hi]
   exact if_neg fun h=>hp fun _=>h)
  (by simp [eC]) (show xs.length<300 by omega) with ⟨i,hi,hp,hj,lp⟩ | ⟨hp,lp⟩
 ·have lp:bU (evC (ax GC []) 300 eC) dI 300 (fh a b (.int .i64 (xs.length:Int)) (.int .i64 0)) []=_:=lp
  rw [decide_eq_false (fun h=>hp (fun _=>by subst h; rfl))]
  simp [Ah,hla,hlb,b0,sf lp,-ai,-aq]
 ·have lp:bU (evC (ax GC []) 300 eC) dI 300 (fh a b (.int .i64 (xs.length:Int)) (.int .i64 0)) []=_:=lp
  rw [decide_eq_true (List.ext_getElem h0 fun i h1 h2=>Classical.not_not.1 (hp i h1) h1)]
  simp [Ah,hla,hlb,b0,sf lp,-ai,-aq]
def H36:aG:=fun _=>bS (ax GC []) 0 AR
theorem uT:aj Try.prog GC 65 H36:=(bQ (aw aA) rfl IT vK bg.nil).y
theorem Im (h:aU) {A:ab} {id n:Nat} {gr:Bool} {es:List AV} (hA:A[id]?=some (.row 1 gr es)):H36 h [.sl id 0 n] A=some (.csl id 0 n,A):=by
 unfold H36
 rw [a9 _ _ rfl]
 have e:dN 1 A none (.int .i64 (n:Int)) (.int .i64 (n:Int)) (.sl id 0 n)=some (.csl id 0 n):=by
  simp [dN,cY,hA,dk,loB,hiB]
 simp [AR,e,-dN,dZ]
def M44:aP:=fun args=>evP (ax GC []) 0 AQ 1 args
theorem xn:au Try.prog GC 69 M44:=au.of_ev (E:=ax GC []) (aw aA) rfl LC yT 1 fun _ _ h=>⟨0,h⟩
def eM (T:aR):Int:=if T.blades=2 then T.pick+T.place else T.pick+T.travel+T.place
theorem Ic {T:aR} (chv:AV) (h:aZ T):M44 [an T chv]=some (.int .i64 (eM T)):=by
 obtain ⟨_,⟨h1,h2,h3⟩,_⟩:=h
 obtain ⟨ch,pk,pl,tr,bl⟩:=T
 simp only at h1 h2 h3
 have b0:=br bl 2
 have b1:=a7 (a:=pk) (b:=pl) (by omega)
 have b2:=a7 (a:=pk) (b:=tr) (by omega)
 have b3:=a7 (a:=pk+tr) (b:=pl) (by omega)
 rw [show an ⟨ch,pk,pl,tr,bl⟩ chv=.agg [chv,.int .i64 pk,.int .i64 pl,.int .i64 tr,.int .i64 bl] from rfl]
 have l:∀A:ab,A[0]?=some (.row 5 false [.agg [chv,.int .i64 pk,.int .i64 pl,.int .i64 tr,.int .i64 bl]])->ac false 1 A (.ptr 0 0 1)=some (.int .i64 pk)/\ac false 1 A (.ptr 0 0 2)=some (.int .i64 pl)/\ac false 1 A (.ptr 0 0 3)=some (.int .i64 tr)/\ac false 1 A (.ptr 0 0 4)=some (.int .i64 bl):=fun A hA=>by
  refine ⟨?_,?_,?_,?_⟩ <;> simp only [ac,hA] <;> rfl
 obtain ⟨l1,l2,l3,l4⟩:=l [.row 5 false [.agg [chv,.int .i64 pk,.int .i64 pl,.int .i64 tr,.int .i64 bl]]] rfl
 obtain ⟨s1,hs1⟩:∃s,s=pk+pl:=⟨_,rfl⟩
 obtain ⟨s2,hs2⟩:∃s,s=pk+tr:=⟨_,rfl⟩
 obtain ⟨s3,hs3⟩:∃s,s=s2+pl:=⟨_,rfl⟩
 rw [<-hs1] at b1
 rw [<-hs2] at b2 b3
 rw [<-hs3] at b3
 have e:eM ⟨ch,pk,pl,tr,bl⟩=if bl=2 then s1 else s3:=by
  unfold eM; simp only; rw [hs3,hs2,hs1]
 rw [e]
 unfold M44
 rw [aK _ _ rfl]
 by_cases hb:bl=2
 ·rw [decide_eq_true hb] at b0
  rw [if_pos hb]
  simp [AQ,b0,b1,l1,l2,l4,-ai,-ac]
 ·rw [decide_eq_false hb] at b0
  rw [if_neg hb]
  simp [AQ,b0,b2,b3,l1,l2,l3,l4,-ai,-ac]
end Clu
namespace Clu
open Go
open Cy (GC iA c9 bJ bM cm aJ bb aB)
def ext (n:Nat) (one:Bool):Nat->List Int->List (List Int)
 | 0,_=>[]
 | k+1,b=>if b.length=n+1 then [b] else (List.range' 1 n).flatMap fun (i:Nat)=>if !decide ((i:Int)∈b) && (one || decide (i=b.length)) then ext n one k (b++[(i:Int)]) else []
def aH (T:aR):List (List Int):=if aZ T then ext T.ch.length (decide (T.blades=1)) (T.ch.length+1) [0] else []
theorem ul (n:Nat) (one:Bool) (hn:n<=4):∀(k:Nat) (b:List Int),(ext n one (k+1) b).length<=4 ^ k\/b.length+k<n+1
 | 0,b=>by
  unfold ext
  split
  ·left; simp
  ·by_cases h:b.length+0<n+1
   ·exact .inr h
   ·left
    rw [List.flatMap_eq_nil_iff.2 fun i _=>by split <;> rfl]
    simp
 | k+1,b=>by
  by_cases h:b.length+(k+1)<n+1
  ·exact .inr h
  left
  rw [ext]
  split
  ·have:1<=4 ^ (k+1):=Nat.one_le_pow _ _ (by omega)
   simpa using this
  ·have key:∀l:List Nat,(l.flatMap fun (i:Nat)=>if !decide ((i:Int)∈b) && (one || decide (i=b.length)) then ext n one (k+1) (b++[(i:Int)]) else []).length<=l.length*4 ^ k:=fun l=>by
    induction l with
    | nil=>simp
    | cons i l ih=>
     rw [List.flatMap_cons,List.length_append,List.length_cons,Nat.add_mul,Nat.one_mul]
     have:(if !decide ((i:Int)∈b) && (one || decide (i=b.length)) then ext n one (k+1) (b++[(i:Int)]) else []).length<=4 ^ k:=by
      split
      ·rcases ul n one hn k (b++[(i:Int)]) with h1 | h1
       ·exact h1
       ·simp at h1; omega
      ·simp
     omega
   refine Nat.le_trans (key _) ?_
   rw [List.length_range',Nat.pow_succ,Nat.mul_comm]
   exact Nat.mul_le_mul_left _ hn
def iO:Ent->Prop
 | .row _ _ (e :: _)=>(∀a b c,e≠.sl a b c)/\e≠.nilS
 | _=>False
def pE (A B:ab):Prop:=A.length<=B.length/\∀(j:Nat) (e:Ent),A[j]?=some e->iO e->B[j]?=some e
theorem pE.refl (A:ab):pE A A:=⟨Nat.le_refl _,fun _ _ h _=>h⟩
theorem pE.trans {A B C:ab} (h:pE A B) (k:pE B C):pE A C:=⟨Nat.le_trans h.1 k.1,fun j e h1 h2=>k.2 j e (h.2 j e h1 h2) h2⟩
theorem pE.app (A:ab) (X:ab):pE A (A++X):=⟨by simp,fun j e h _=>by
 have:=(List.getElem?_eq_some_iff.1 h).1
 rw [List.getElem?_append_left this]; exact h⟩
theorem kS {l:List Int} (h:l≠[]) (s:Nat) (g:Bool):iO (.row s g (ak l)):=by
 cases l with
 | nil=>exact absurd rfl h
 | cons x r=>simp [iO,ak]
theorem lT (s:Nat) (g:Bool) (a b c:Nat) (r:List AV):¬ iO (.row s g (.sl a b c :: r)):=fun h=>h.1 a b c rfl
def Av (x:Nat × List Int):AV:=.sl x.1 0 x.2.length
def EZ (A:ab) (op:Nat) (v:AV) (pl:List (Nat × List Int)):Prop:=
 (∀x∈pl,x.2≠[]/\A[x.1]?=some (.row 1 false (ak x.2)))/\((v=.nilS/\pl=[])\/∃id gr,v=.sl id 0 pl.length/\id≠op/\pl≠[]/\A[id]?=some (.row 1 gr (pl.map Av)))
def jA (A:ab) (op:Nat) (ll:List (List Int)):Prop:=∃v pl,pl.map (·.2)=ll/\A[op]?=some (.row 1 false [v])/\EZ A op v pl
theorem jA.app {A:ab} {op:Nat} {ll:List (List Int)} (h:jA A op ll) (X:ab):jA (A++X) op ll:=by
 obtain ⟨v,pl,h1,h2,h3,h4⟩:=h
 have st:=(pE.app A X).2
 have hk:∀(j:Nat) (e:Ent),A[j]?=some e->(A++X)[j]?=some e:=fun j e h=>by
  rw [List.getElem?_append_left (List.getElem?_eq_some_iff.1 h).1]; exact h
 refine ⟨v,pl,h1,hk _ _ h2,fun x hx=>⟨(h3 x hx).1,hk _ _ (h3 x hx).2⟩,?_⟩
 rcases h4 with h4 | ⟨id,gr,h4,h5,h6,h7⟩
 ·exact .inl h4
 ·exact .inr ⟨id,gr,h4,h5,h6,hk _ _ h7⟩
theorem g7 {A:ab} {op:Nat} {v:AV} (h:A[op]?=some (.row 1 false [v])) (hv:v=.nilS\/∃a b c,v=.sl a b c):ac false 1 A (.ptr op 0 0)=some v:=by
 rcases hv with rfl | ⟨a,b,c,rfl⟩ <;> simp [h]
theorem EZ.form {A:ab} {op:Nat} {v:AV} {pl:List (Nat × List Int)} (h:EZ A op v pl):v=.nilS\/∃a b c,v=.sl a b c:=by
 rcases h.2 with h | ⟨id,gr,h,_⟩
 ·exact .inl h.1
 ·exact .inr ⟨_,_,_,h⟩
theorem jA.add {A:ab} {op:Nat} {ll:List (List Int)} (h:jA A op ll) {l:List Int} (hl:l≠[]) (hb:ll.length<=100000) {r y:Nat} (hr:A[r]?=some (.row 1 false (ak l))) (hy:A[y]?=some (.row 1 false [.sl r 0 l.length])) (hyo:y≠op) :
  ∃v id n A3,A[op]?=some (.row 1 false [v])/\(v=.nilS\/∃a b c,v=.sl a b c)/\aN 1 24 A v (.sl y 0 1)=some (.sl id 0 n,A3)/\A3[op]?=some (.row 1 false [v]) /\
   jA (A3.set op (.row 1 false [.sl id 0 n])) op (ll++[l])/\pE A (A3.set op (.row 1 false [.sl id 0 n])):=by
 obtain ⟨v,pl,h1,h2,h3⟩:=h
 have hf:=h3.form
 obtain ⟨h3,h4⟩:=h3
 have hsrc:aQ 1 A (.sl y 0 1)=some [.sl r 0 l.length]:=by simp [aQ,hy]
 have hop:op<A.length:=(List.getElem?_eq_some_iff.1 h2).1
 have hnp:¬ iO (.row 1 false [v]):=by
  rcases hf with rfl | ⟨a,b,c,rfl⟩
  ·exact fun h=>h.2 rfl
  ·exact lT _ _ _ _ _ _
 have hne:∀j (m:List Int),m≠[]->A[j]?=some (.row 1 false (ak m))->j≠op:=fun j m hm hj e=>by
  subst e
  rw [h2] at hj
  injection hj with hj
  exact hnp (hj ▸ kS hm 1 false)
 have hll:pl.length=ll.length:=by rw [<-h1]; simp
 rcases h4 with ⟨rfl,rfl⟩ | ⟨id,gr,rfl,hid,hpl,hrow⟩
 ·have ho:(A++[Ent.row 1 false [AV.sl r 0 l.length]])[op]?=some (.row 1 false [.nilS]):=by rw [List.getElem?_append_left hop]; exact h2
  refine ⟨.nilS,A.length,1,A++[.row 1 false [.sl r 0 l.length]],h2,.inl rfl,?_,ho,?_,?_⟩
  ·unfold aN; rw [hsrc]; simp
  ·have hset:∀j,j≠op->((A++[Ent.row 1 false [AV.sl r 0 l.length]]).set op (.row 1 false [.sl A.length 0 1]))[j]?=(A++[Ent.row 1 false [AV.sl r 0 l.length]])[j]?:=fun j hj=>List.getElem?_set_ne (fun e=>hj e.symm)
   refine ⟨.sl A.length 0 1,[(r,l)],by rw [<-h1]; rfl,by rw [List.getElem?_set_self (by simp; omega)],fun x hx=>?_,.inr ⟨A.length,false,rfl,by omega,by simp,?_⟩⟩
   ·rw [List.mem_singleton] at hx
    subst hx
    refine ⟨hl,?_⟩
    rw [hset _ (hne _ _ hl hr),List.getElem?_append_left (List.getElem?_eq_some_iff.1 hr).1]
    exact hr
   ·rw [hset _ (by omega)]
    simp [Av]
  ·refine ⟨by simp,fun j e hj he=>?_⟩
   have:j≠op:=fun e'=>by
    subst e'; rw [h2] at hj; injection hj with hj; exact hnp (hj ▸ he)
   rw [List.getElem?_set_ne (fun e'=>this e'.symm),List.getElem?_append_left (List.getElem?_eq_some_iff.1 hj).1]
   exact hj
 ·have hidl:id<A.length:=(List.getElem?_eq_some_iff.1 hrow).1
  have hlen:0<pl.length:=List.length_pos_iff.2 hpl
  have hnp2:¬ iO (.row 1 gr (pl.map Av)):=by
   cases pl with
   | nil=>exact absurd rfl hpl
   | cons x r=>exact lT _ _ _ _ _ _
  have hnid:∀j (m:List Int),m≠[]->A[j]?=some (.row 1 false (ak m))->j≠id:=fun j m hm hj e=>by
   subst e
   rw [hrow] at hj
   injection hj with hj
   exact hnp2 (hj ▸ kS hm 1 false)
  refine ⟨.sl id 0 pl.length,id,pl.length+1,A.set id (.row 1 true (pl.map Av++[.sl r 0 l.length])),h2,.inr ⟨_,_,_,rfl⟩,?_,?_,?_,?_⟩
  ·have hz:pl.length≠0:=by omega
   have hb2:(pl.length+1)*24<=140737488355328:=by omega
   unfold aN; rw [hsrc]; simp [hrow,hz,hb2]
  ·rw [List.getElem?_set_ne hid]; exact h2
  ·have hset:∀j,j≠op->j≠id->((A.set id (Ent.row 1 true (pl.map Av++[AV.sl r 0 l.length]))).set op (.row 1 false [.sl id 0 (pl.length+1)]))[j]?=A[j]?:=fun j hj hj2=>by
    rw [List.getElem?_set_ne (fun e=>hj e.symm),List.getElem?_set_ne (fun e=>hj2 e.symm)]
   refine ⟨.sl id 0 (pl.length+1),pl++[(r,l)],by rw [<-h1]; simp,by rw [List.getElem?_set_self (by simpa using hop)],fun x hx=>?_,.inr ⟨id,true,by simp,hid,by simp,?_⟩⟩
   ·rcases List.mem_append.1 hx with hx | hx
    ·have:=h3 x hx
     exact ⟨this.1,by rw [hset _ (hne _ _ this.1 this.2) (hnid _ _ this.1 this.2)]; exact this.2⟩
    ·rw [List.mem_singleton] at hx
     subst hx
     exact ⟨hl,by rw [hset _ (hne _ _ hl hr) (hnid _ _ hl hr)]; exact hr⟩
   ·rw [List.getElem?_set_ne (fun e=>hid e.symm),List.getElem?_set_self hidl,List.map_append]
    rfl
  ·refine ⟨by simp,fun j e hj he=>?_⟩
   have n1:j≠op:=fun e'=>by
    subst e'; rw [h2] at hj; injection hj with hj; exact hnp (hj ▸ he)
   have n2:j≠id:=fun e'=>by
    subst e'; rw [hrow] at hj; injection hj with hj; exact hnp2 (hj ▸ he)
   rw [List.getElem?_set_ne (fun e=>n1 e.symm),List.getElem?_set_ne (fun e=>n2 e.symm)]
   exact hj
end Clu
namespace Clu
open Go
open Cy (GC iA c9 bJ bM cm aJ bb aB)
def lQ (np op cp ep:Nat):AV:=.func (.func 63) [] [.ptr np 0 0,.ptr op 0 0,.ptr cp 0 0,.ptr ep 0 0]
structure X34 (A:ab) (np op cp ep n:Nat) (T:aR) (chv:AV):Prop where
 hn:A[np]?=some (.row 1 false [.int .i64 (n:Int)])
 hc:A[cp]?=some (.row 5 false [an T chv])
 he:A[ep]?=some (.row 1 false [lQ np op cp ep])
theorem X34.step {A B:ab} {np op cp ep n:Nat} {T:aR} {chv:AV} (h:X34 A np op cp ep n T chv) (s:pE A B):X34 B np op cp ep n T chv:=
 ⟨s.2 _ _ h.hn (by simp [iO]),s.2 _ _ h.hc (by simp [iO,an]),s.2 _ _ h.he (by simp [iO,lQ])⟩
def ud:List (FuncId × aG):=[(64,aD 4 M35),(65,H36)]
def H34:Nat->aG
 | 0=>fun h=>bS (dD GC ud h) 40 tj
 | k+1=>fun h=>bS (dD GC ((63,H34 k) :: ud) h) 40 tj
theorem uX:∀f M,aC ud f=some M->aj Try.prog GC f M:=af (aj.of_pure xo 4) (af uT aA)
theorem nH:∀k,aj Try.prog GC 63 (H34 k)
 | 0=>b8 uX Fi qo
 | k+1=>b8 (af (nH k) uX) Fi qo
theorem qY {A:ab} {id:Nat} {g:Bool} {b:List Int} (h:A[id]?=some (.row 1 g (ak b))) (n:Nat):frz A (n+1) (.sl id 0 b.length)=.fs 1 (ak b):=by
 have e:((ak b).drop 0).take b.length=ak b:=by
  rw [List.drop_zero,<-aB b,List.take_length]
 have hm:∀l:List Int,(ak l).map (frz A n)=ak l:=fun l=>by
  unfold ak
  rw [List.map_map]
  exact List.map_congr_left fun x _=>aJ A n .i64 x
 simp only [frz,h]
 rw [e,hm]
theorem B6 (fs:List (FuncId × aG)) (h:aU) {A:ab} {np op cp ep n id:Nat} {T:aR} {chv:AV} (hX:X34 A np op cp ep n T chv) {ll:List (List Int)} (ho:jA A op ll) {b:List Int} (hb:A[id]?=some (.row 1 false (ak b))) (hlen:b.length=n+1) (hn4:n<=4) (hll:ll.length<=100000) :
  ∃B,bS (dD GC fs h) 40 tj [.sl id 0 b.length,.ptr np 0 0,.ptr op 0 0,.ptr cp 0 0,.ptr ep 0 0] A=some (.tup [],B)/\jA B op (ll++[b])/\pE A B:=by
 have hbne:b≠[]:=fun e=>by rw [e] at hlen; simp at hlen
 have l0:ac false 1 A (.ptr np 0 0)=some (.int .i64 (n:Int)):=by simp [hX.hn]
 have b1:=aY n (by omega)
 have b2:ai .eql (.int .i64 (b.length:Int)) (.int .i64 ((n+1:Nat):Int))=some (.bool true):=by rw [br,decide_eq_true (by omega)]
 have e1:bZ 1 8 (.int .i64 0) A (.int .i64 ((n+1:Nat):Int)) (.int .i64 ((n+1:Nat):Int))=some (.sl A.length 0 b.length,A++[.row 1 false (List.replicate b.length (.int .i64 0))]):=by
  rw [hlen]
  simp only [bZ]
  rw [if_pos ⟨by omega,by omega,by omega,by omega,rfl,rfl,by omega⟩]
  simp
 have e2:mt 1 (A++[.row 1 false (List.replicate b.length (.int .i64 0))]) (.sl A.length 0 b.length) (.sl id 0 b.length)=some (.int .i64 (b.length:Int),A++[.row 1 false (ak b)]):=by
  have hs:aQ 1 (A++[Ent.row 1 false (List.replicate b.length (AV.int .i64 0))]) (.sl id 0 b.length)=some (ak b):=by
   rw [tC (gr:=false) (es:=ak b) (by rw [List.getElem?_append_left (List.getElem?_eq_some_iff.1 hb).1]; exact hb)]
   rw [List.drop_zero,<-aB b,List.take_length]
  simp only [mt,hs]
  rw [List.getElem?_concat_length]
  simp only
  rw [if_pos ⟨trivial,by omega,trivial⟩,aB,Nat.min_self]
  congr 2
  rw [List.set_append_right _ _ (Nat.le_refl _),Nat.sub_self]
  simp only [List.set_cons_zero,List.take_zero,List.nil_append,Nat.zero_add]
  rw [<-aB b,List.take_length,List.drop_of_length_le (by simp),List.append_nil]
 obtain ⟨A1,hA1⟩:∃X,X=A++[Ent.row 1 false (ak b)]:=⟨_,rfl⟩
 have hl1:A1.length=A.length+1:=by rw [hA1]; simp
 have e3:cj 1 [.sl A.length 0 b.length] A1=some (.sl (A.length+1) 0 1,A1++[.row 1 false [.sl A.length 0 b.length]]):=by
  simp [cj,hl1]
 have hop:op<A.length:=by obtain ⟨v,pl,_,h2,_⟩:=ho; exact (List.getElem?_eq_some_iff.1 h2).1
 have ho2:jA (A1++[.row 1 false [.sl A.length 0 b.length]]) op ll:=by rw [hA1]; exact (ho.app _).app _
 obtain ⟨v,id2,n2,A3,k1,k2,k3,k4,k5,k6⟩:=ho2.add hbne hll (r:=A.length) (y:=A.length+1) (by rw [hA1]; simp) (by rw [hA1]; simp) (by omega)
 have l1:ac false 1 A1 (.ptr op 0 0)=some v:=g7 (by rw [<-k1,List.getElem?_append_left (by omega)]) k2
 have e5:az 1 A3 (.ptr op 0 0) (.sl id2 0 n2)=some (A3.set op (.row 1 false [.sl id2 0 n2])):=by
  rcases k2 with rfl | ⟨_,_,_,rfl⟩ <;> simp [k4]
 obtain ⟨A2,hA2⟩:∃X,X=A1++[Ent.row 1 false [.sl A.length 0 b.length]]:=⟨_,rfl⟩
 obtain ⟨B,hB⟩:∃X,X=A3.set op (.row 1 false [.sl id2 0 n2]):=⟨_,rfl⟩
 obtain ⟨A0,hA0⟩:∃X,X=A++[Ent.row 1 false (List.replicate b.length (AV.int .i64 0))]:=⟨_,rfl⟩
 have hst:pE A A2:=by rw [hA2,hA1,List.append_assoc]; exact pE.app _ _
 rw [<-hA2] at e3 k3 k6
 rw [<-hB] at e5 k5 k6
 rw [<-hA0] at e1 e2
 rw [<-hA1] at e2
 refine ⟨B,?_,k5,hst.trans k6⟩
 rw [a9 _ _ rfl]
 obtain ⟨n1,hn1⟩:∃x,x=n+1:=⟨_,rfl⟩
 rw [<-hn1] at b1 b2 e1
 obtain ⟨bl,hbl⟩:∃x,x=b.length:=⟨_,rfl⟩
 rw [<-hbl] at b2 e1 e2 e3 ⊢
 obtain ⟨r1,hr1⟩:∃x,x=A.length:=⟨_,rfl⟩
 rw [<-hr1] at e1 e2 e3 k3
 obtain ⟨r2,hr2⟩:∃x,x=r1+1:=⟨_,rfl⟩
 rw [<-hr2] at e3 k3
 simp [tj,l0,l1,b1,b2,e1,e2,e3,k3,e5,-ai,-ac,-az,-bZ,-cj]
theorem uC {A:ab} {id:Nat} {g:Bool} {b:List Int} (h:A[id]?=some (.row 1 g (ak b))) (hb:b.length<=1000) (x:Int):cq 1 8 A (.csl id 0 b.length) (.fs 1 [.int .i64 x])=some (.sl A.length 0 (b.length+1),A++[.row 1 false (ak (b++[x]))]):=by
 have e:((ak b).drop 0).take b.length=ak b:=by
  rw [List.drop_zero,<-aB b,List.take_length]
 have hb2:(b.length+1)*8<=140737488355328:=by omega
 simp only [cq,cU,h,e]
 rw [if_pos ⟨trivial,by omega,by omega,by simp,by simpa using hb2⟩]
 simp [ak]
theorem tP {h:aU} {fs:List (FuncId × aG)} {H:aG} (hH:aC fs 63=some H) (h35:aC fs 64=some (aD 4 M35)) (h36:aC fs 65=some H36) {A:ab} {np op cp ep n id:Nat} {T:aR} {chv:AV} (hX:X34 A np op cp ep n T chv) {b:List Int} (hb:A[id]?=some (.row 1 false (ak b))) (hbl:b.length<=100) {i:Nat} (hi:i<=n) (hn4:n<=4) {B:ab}
  (hr:(!decide ((i:Int)∈b) && (decide (T.blades=1) || decide (i=b.length)))=true->H h [.sl A.length 0 (b.length+1),.ptr np 0 0,.ptr op 0 0,.ptr cp 0 0,.ptr ep 0 0] (A++[.row 1 false (ak (b++[(i:Int)]))])=some (.tup [],B))
  (hr0:(!decide ((i:Int)∈b) && (decide (T.blades=1) || decide (i=b.length)))=false->B=A) (hkeep:B[ep]?=A[ep]?) :
  run (dD GC fs h) 40 [.code dB] (gv (.sl id 0 b.length) (.ptr np 0 0) (.ptr cp 0 0) (.ptr ep 0 0) (.int .i64 (i:Int))) A=some (.normal (gv (.sl id 0 b.length) (.ptr np 0 0) (.ptr cp 0 0) (.ptr ep 0 0) (.int .i64 ((i+1:Nat):Int))) B):=by
 obtain ⟨ch,pk,pl,tr,bd⟩:=T
 have l0:ac false 1 A (.ptr np 0 0)=some (.int .i64 (n:Int)):=by simp [hX.hn]
 have hc:A[cp]?=some (.row 5 false [.agg [chv,.int .i64 pk,.int .i64 pl,.int .i64 tr,.int .i64 bd]]):=hX.hc
 have l1:ac false 1 A (.ptr cp 0 4)=some (.int .i64 bd):=by simp [hc]
 have l2:ac false 1 A (.ptr ep 0 0)=some (lQ np op cp ep):=by simp [hX.he,lQ]
 have b0:ai .leq (.int .i64 (i:Int)) (.int .i64 (n:Int))=some (.bool true):=by rw [cT,decide_eq_true (by omega)]
 have b3:=aY i (by omega)
 have f1:=qY hb 3
 have f2:∀A,frz A 4 (.int .i64 (i:Int))=.int .i64 (i:Int):=fun A=>aJ A 4 .i64 i
 have m:=Ie (xs:=b) (b:=.fs 1 (ak b)) (.inr rfl) (by omega) (i:Int)
 have b1:ai .eql (.int .i64 bd) (.int .i64 1)=some (.bool (decide (bd=1))):=br _ _
 have b2:ai .eql (.int .i64 (i:Int)) (.int .i64 (b.length:Int))=some (.bool (decide (i=b.length))):=by
  rw [br]; congr 2; exact decide_eq_decide.2 (by omega)
 have c1:=Im h (n:=b.length) hb
 have c2:=uC hb (by omega) (i:Int)
 have ne1:¬ ep=A.length:=by have:=(List.getElem?_eq_some_iff.1 hX.he).1; omega
 have ne2:¬ ep=id:=fun e=>by
  have h1:=hX.he
  rw [e,hb] at h1
  injection h1 with h1
  injection h1 with _ _ h1
  cases b with
  | nil=>cases h1
  | cons x r=>injection h1 with h1; cases h1
 simp only at hr hr0
 obtain ⟨i1,hi1⟩:∃i1:Nat,i1=i+1:=⟨_,rfl⟩
 rw [<-hi1] at b3 ⊢
 obtain ⟨d1,h1⟩:∃d,d=decide ((i:Int)∈b):=⟨_,rfl⟩
 rw [<-h1] at m hr hr0
 obtain ⟨d2,h2⟩:∃d,d=decide (bd=1):=⟨_,rfl⟩
 rw [<-h2] at b1 hr hr0
 obtain ⟨d3,h3⟩:∃d,d=decide (i=b.length):=⟨_,rfl⟩
 rw [<-h3] at b2 hr hr0
 obtain ⟨A1,hA1⟩:∃X,X=A++[Ent.row 1 false (ak (b++[(i:Int)]))]:=⟨_,rfl⟩
 have k1:A1[ep]?=A[ep]?:=by rw [hA1,List.getElem?_append_left (List.getElem?_eq_some_iff.1 hX.he).1]
 rw [<-hA1] at c2 hr
 obtain ⟨r,hrr⟩:∃x,x=A.length:=⟨_,rfl⟩
 rw [<-hrr] at c2 hr
 obtain ⟨bl,hbl⟩:∃x,x=b.length:=⟨_,rfl⟩
 rw [<-hbl] at b2 c1 c2 f1 hr ⊢
 obtain ⟨bl1,hbl1⟩:∃x,x=bl+1:=⟨_,rfl⟩
 rw [<-hbl1] at c2 hr
 obtain ⟨F,hF⟩:∃x,x=AV.fs 1 (ak b):=⟨_,rfl⟩
 rw [<-hF] at m f1
 cases d1 with
 | true=>
  have:=hr0 rfl; subst this
  cases d2 <;> cases d3 <;> simp [dB,l0,b0,b3,f1,f2,h35,m,-frz,-ai,-ac]
 | false=>
  cases d2 with
  | true=>
   have hr:=hr rfl
   simp [dB,l0,l1,l2,b0,b1,b3,f1,f2,h35,h36,hH,m,hc,c1,c2,hr,lQ,ne1,ne2,-frz,-ai,-ac]
  | false=>
   cases d3 with
   | true=>
    have hr:=hr rfl
    simp [dB,l0,l1,l2,b0,b1,b2,b3,f1,f2,h35,h36,hH,m,hc,c1,c2,hr,lQ,ne1,ne2,-frz,-ai,-ac]
   | false=>
    have:=hr0 rfl; subst this
    simp [dB,l0,l1,b0,b1,b2,b3,f1,f2,h35,m,hc,-frz,-ai,-ac]
def fE (n:Nat) (one:Bool) (k:Nat) (b:List Int) (i:Nat):List (List Int):=if !decide ((i:Int)∈b) && (one || decide (i=b.length)) then ext n one k (b++[(i:Int)]) else []
theorem MS (h:aU) {np op cp ep n:Nat} {T:aR} {chv:AV} (hn4:n<=4) (d:Nat):∀(k:Nat) {A:ab} {ll:List (List Int)} {id:Nat} {b:List Int},b.length+k=n+1->1<=b.length->X34 A np op cp ep n T chv->jA A op ll->A[id]?=some (.row 1 false (ak b))->ll.length+4 ^ k<=100000 ->
  ∃B,H34 (d+k) h [.sl id 0 b.length,.ptr np 0 0,.ptr op 0 0,.ptr cp 0 0,.ptr ep 0 0] A=some (.tup [],B)/\jA B op (ll++ext n (decide (T.blades=1)) (k+1) b)/\pE A B
 | 0,A,ll,id,b,hk,hb1,hX,ho,hb,hll=>by
  have e:ext n (decide (T.blades=1)) (0+1) b=[b]:=by unfold ext; rw [if_pos (by omega)]
  rw [e]
  cases d with
  | zero=>exact B6 _ h hX ho hb (by omega) hn4 (by omega)
  | succ d=>exact B6 _ h hX ho hb (by omega) hn4 (by omega)
 | k+1,A,ll,id,b,hk,hb1,hX,ho,hb,hll=>by
  have hbne:b≠[]:=fun e=>by rw [e] at hb1; simp at hb1
  have e:ext n (decide (T.blades=1)) (k+1+1) b=(List.range' 1 n).flatMap (fE n (decide (T.blades=1)) (k+1) b):=by
   rw [ext,if_neg (by omega)]; rfl
  rw [e]
  have loop:∀(c i:Nat) (A:ab) (ll:List (List Int)) (m:Nat),i+c=n+1->X34 A np op cp ep n T chv->jA A op ll->A[id]?=some (.row 1 false (ak b))->ll.length+c*4 ^ k<=100000->c<m ->
    ∃B,bU (evC (dD GC ((63,H34 (d+k)) :: ud) h) 40 dB) dw m (gv (.sl id 0 b.length) (.ptr np 0 0) (.ptr cp 0 0) (.ptr ep 0 0) (.int .i64 (i:Int))) A=some (.exit 0 ((gv (.sl id 0 b.length) (.ptr np 0 0) (.ptr cp 0 0) (.ptr ep 0 0) (.int .i64 ((n+1:Nat):Int))).set 8 (.bool false)) B) /\
     jA B op (ll++(List.range' i c).flatMap (fE n (decide (T.blades=1)) (k+1) b))/\pE A B:=by
   intro c
   induction c with
   | zero=>
    intro i A ll m hi hX ho hb hll hm
    obtain ⟨m,rfl⟩:∃j,m=j+1:=⟨m-1,by omega⟩
    refine ⟨A,?_,by simpa using ho,pE.refl _⟩
    have l0:ac false 1 A (.ptr np 0 0)=some (.int .i64 (n:Int)):=by simp [hX.hn]
    have b0:ai .leq (.int .i64 ((n+1:Nat):Int)) (.int .i64 (n:Int))=some (.bool false):=by rw [cT,decide_eq_false (by omega)]
    obtain rfl:i=n+1:=by omega
    obtain ⟨i1,hi1⟩:∃i1:Nat,i1=n+1:=⟨_,rfl⟩
    rw [<-hi1] at b0 ⊢
    rw [aI,oN]
    simp [dB,l0,b0,-ai,-ac]
   | succ c ihc=>
    intro i A ll m hi hX ho hb hll hm
    obtain ⟨m,rfl⟩:∃j,m=j+1:=⟨m-1,by omega⟩
    rw [Nat.add_mul,Nat.one_mul] at hll
    have hrow:∀(j:Nat) (e:Ent),A[j]?=some e->iO e->(A++[Ent.row 1 false (ak (b++[(i:Int)]))])[j]?=some e:=(pE.app A _).2
    have hst:=pE.app A [Ent.row 1 false (ak (b++[(i:Int)]))]
    obtain ⟨B,hB1,hB2,hB3,hB4⟩:∃B,((!decide ((i:Int)∈b) && (decide (T.blades=1) || decide (i=b.length)))=true->H34 (d+k) h [.sl A.length 0 (b.length+1),.ptr np 0 0,.ptr op 0 0,.ptr cp 0 0,.ptr ep 0 0] (A++[.row 1 false (ak (b++[(i:Int)]))])=some (.tup [],B)) /\
      ((!decide ((i:Int)∈b) && (decide (T.blades=1) || decide (i=b.length)))=false->B=A)/\jA B op (ll++fE n (decide (T.blades=1)) (k+1) b i)/\pE A B:=by
     by_cases hd:(!decide ((i:Int)∈b) && (decide (T.blades=1) || decide (i=b.length)))=true
     ·obtain ⟨B,h1,h2,h3⟩:=MS h hn4 d k (A:=A++[.row 1 false (ak (b++[(i:Int)]))]) (ll:=ll) (id:=A.length) (b:=b++[(i:Int)]) (by simp; omega) (by simp) (hX.step hst) (ho.app _) (by simp) (by omega)
      rw [List.length_append,List.length_singleton] at h1
      refine ⟨B,fun _=>h1,fun e=>(by rw [hd] at e; cases e),?_,hst.trans h3⟩
      unfold fE
      rw [if_pos hd]; exact h2
     ·refine ⟨A,fun e=>absurd e hd,fun _=>rfl,?_,pE.refl _⟩
      unfold fE
      rw [if_neg hd,List.append_nil]; exact ho
    have hX2:=hX.step hB4
    have hb2:=hB4.2 _ _ hb (kS hbne 1 false)
    have hr:=tP (fs:=(63,H34 (d+k)) :: ud) (h:=h) rfl rfl rfl hX hb (by omega) (i:=i) (by omega) hn4 hB1 hB2 (by rw [hX2.he,hX.he])
    have hfl:(fE n (decide (T.blades=1)) (k+1) b i).length<=4 ^ k:=by
     unfold fE
     split
     ·rcases ul n (decide (T.blades=1)) hn4 k (b++[(i:Int)]) with h1 | h1
      ·exact h1
      ·simp at h1; omega
     ·simp
    obtain ⟨C,c1,c2,c3⟩:=ihc (i+1) B _ m (by omega) hX2 hB3 hb2 (by rw [List.length_append]; omega) (by omega)
    refine ⟨C,?_,?_,hB4.trans c3⟩
    ·rw [aI,oN,hr]
     exact c1
    ·rw [List.range'_succ,List.flatMap_cons,<-List.append_assoc]
     exact c2
  have hp:n*4 ^ k<=4 ^ (k+1):=by
   rw [Nat.pow_succ,Nat.mul_comm]
   exact Nat.mul_le_mul_left _ hn4
  obtain ⟨B,h1,h2,h3⟩:=loop n 1 A ll 40 (by omega) hX ho hb (by omega) (by omega)
  refine ⟨B,?_,h2,h3⟩
  have l0:ac false 1 A (.ptr np 0 0)=some (.int .i64 (n:Int)):=by simp [hX.hn]
  have b1:=aY n (by omega)
  have b2:ai .eql (.int .i64 (b.length:Int)) (.int .i64 ((n+1:Nat):Int))=some (.bool false):=by rw [br,decide_eq_false (by omega)]
  obtain ⟨n1,hn1⟩:∃x,x=n+1:=⟨_,rfl⟩
  rw [<-hn1] at b1 b2 h1
  rw [show H34 (d+(k+1))=fun h=>bS (dD GC ((63,H34 (d+k)) :: ud) h) 40 tj from rfl]
  simp only
  rw [a9 _ _ rfl]
  have h1:bU (evC (dD GC ((63,H34 (d+k)) :: ud) h) 40 dB) dw 40 (gv (.sl id 0 b.length) (.ptr np 0 0) (.ptr cp 0 0) (.ptr ep 0 0) (.int .i64 1)) A=_:=h1
  simp [tj,l0,b1,b2,sg h1,-ai,-ac]
end Clu
namespace Clu
open Go
open Cy (GC iA c9 bJ bM cm aJ bb aB)
def lS (ll:List (List Int)):AV:=slA 1 (ll.map fun l=>slA 1 (ak l))
theorem FZ {l:List Int} (h:l≠[]):slA 1 (ak l)=.fs 1 (ak l):=by
 cases l with
 | nil=>exact absurd rfl h
 | cons x r=>rfl
theorem EZ.frz {A:ab} {op:Nat} {v:AV} {pl:List (Nat × List Int)} (h:EZ A op v pl) (k:Nat):Proofs.Ytkcjhljbgjpklaa.frz A (k+3) v=lS (pl.map (·.2)):=by
 obtain ⟨h1,h2⟩:=h
 rcases h2 with ⟨rfl,rfl⟩ | ⟨id,gr,rfl,_,hne,hr⟩
 ·rfl
 ·have e:((pl.map Av).drop 0).take pl.length=pl.map Av:=by
   rw [List.drop_zero]
   conv=>lhs; rw [show pl.length=(pl.map Av).length by simp]
   rw [List.take_length]
  have hm:(pl.map Av).map (Proofs.Ytkcjhljbgjpklaa.frz A (k+2))=(pl.map (·.2)).map fun l=>slA 1 (ak l):=by
   rw [List.map_map,List.map_map]
   refine List.map_congr_left fun x hx=>?_
   obtain ⟨n1,n2⟩:=h1 x hx
   show Proofs.Ytkcjhljbgjpklaa.frz A (k+1+1) (.sl x.1 0 x.2.length)=_
   rw [qY n2]
   exact (FZ n1).symm
  rw [show k+3=(k+2)+1 from rfl]
  simp only [Proofs.Ytkcjhljbgjpklaa.frz,hr]
  rw [e,hm]
  unfold lS
  cases pl with
  | nil=>exact absurd rfl hne
  | cons x r=>rfl
theorem wC {A:ab} {id:Nat} {g:Bool} {b:List Int} (h:A[id]?=some (.row 1 g (ak b))) (n:Nat):ba A (n+2) (.sl id 0 b.length)=true:=by
 simp only [ba,h,List.drop_zero,List.all_eq_true]
 intro x hx
 obtain ⟨y,_,rfl⟩:=List.mem_map.1 (List.mem_of_mem_take hx)
 rfl
theorem EZ.fresh {A:ab} {op:Nat} {v:AV} {pl:List (Nat × List Int)} (h:EZ A op v pl) (k:Nat):ba A (k+4) v=true:=by
 obtain ⟨h1,h2⟩:=h
 rcases h2 with ⟨rfl,rfl⟩ | ⟨id,gr,rfl,_,hne,hr⟩
 ·rfl
 ·rw [show k+4=(k+3)+1 from rfl]
  simp only [ba,hr,List.drop_zero]
  rw [List.all_eq_true]
  intro y hy
  obtain ⟨x,hx,rfl⟩:=List.mem_map.1 (List.mem_of_mem_take hy)
  obtain ⟨n1,n2⟩:=h1 x hx
  exact wC n2 (k+1)
def vz:List (FuncId × aG):=[(62,aD 4 M16),(63,H34 4)]
@[simp] theorem Lf:aC vz 62=some (aD 4 M16):=rfl
@[simp] theorem Lb:aC vz 63=some (H34 4):=rfl
theorem nI:∀f M,aC vz f=some M->aj Try.prog GC f M:=af (aj.of_pure lN 4) (af (nH 4) aA)
def M14:aP:=fun args=>evF (ax GC vz) 0 kV 4 args
theorem lO:cc Try.prog GC 43 M14:=cc.of_ev (E:=ax GC vz) (aw nI) rfl Bw kI 4 fun _ _ h=>⟨0,h⟩
theorem aT {T:aR} {chv:AV} (h:∀A n,frz A n chv=chv) (A:ab) (n:Nat):frz A (n+1) (an T chv)=an T chv:=by
 simp [an,frz,h,aJ]
theorem bX {T:aR} {chv:AV} (h:∀n,bh n chv=true) (n:Nat):bh (n+1) (an T chv)=true:=by
 simp [an,bh,h]
theorem _root_.Go.Proofs.Ytkcjhljbgjpklaa.SlA.noRef {e:Nat} {xs:List AV} {a:AV} (h:SlA e xs a) (n:Nat):bh n a=true:=by
 rcases h with ⟨rfl,_⟩ | rfl <;> cases n <;> rfl
theorem my {T:aR} {chv:AV} (hb:SlA 2 (T.ch.map chA) chv) (hl:T.ch.length<=200):M14 [an T chv]=some (lS (aH T)):=by
 have m:=qy hb hl
 have hlen:=hb.len
 rw [List.length_map] at hlen
 have ft:=fun A=>aT (T:=T) (fun A n=>hb.frz (A:=A) n) A 3
 have nr:=bX (T:=T) (fun n=>hb.noRef n) 3
 unfold M14 aH
 by_cases hv:aZ T
 ·rw [if_pos hv]
  rw [decide_eq_true hv] at m
  have hn4:=hv.2.2.2.1
  obtain ⟨A0,hA0⟩:∃X:ab,X=[.row 5 false [an T chv],.row 1 false [.int .i64 (T.ch.length:Int)],.row 1 false [.nilS],.row 1 false [lQ 1 2 0 3],.row 1 false [.int .i64 0]]:=⟨_,rfl⟩
  have hX:X34 A0 1 2 0 3 T.ch.length T chv:=by rw [hA0]; exact ⟨rfl,rfl,rfl⟩
  have ho:jA A0 2 []:=⟨.nilS,[],rfl,by rw [hA0]; rfl,fun _ h=>by simp at h,.inl ⟨rfl,rfl⟩⟩
  have hp:4 ^ T.ch.length<=4 ^ 4:=Nat.pow_le_pow_right (by omega) hn4
  obtain ⟨B,h1,⟨v,pl,h2,h3,h4⟩,h5⟩:=MS (fun _ _ _=>none) (d:=4-T.ch.length) hn4 T.ch.length (A:=A0) (ll:=[]) (id:=4) (b:=[0]) (by simp; omega) (by simp) hX ho (by rw [hA0]; rfl) (by simp; omega)
  rw [show 4-T.ch.length+T.ch.length=4 by omega] at h1
  have lv:=g7 h3 h4.form
  have hfz:=h4.frz 1
  have hfr:=h4.fresh 0
  rw [h2,List.nil_append] at hfz
  have h1:H34 4 (fun _ _ _=>none) [.sl 4 0 1,.ptr 1 0 0,.ptr 2 0 0,.ptr 0 0 0,.ptr 3 0 0] A0=some (.tup [],B):=h1
  rw [jt _ _ rfl]
  obtain ⟨ch,pk,pl2,tr,bd⟩:=T
  simp only at hlen h1 hA0 m ft hfz
  rw [show ∀c,an ⟨ch,pk,pl2,tr,bd⟩ c=.agg [c,.int .i64 pk,.int .i64 pl2,.int .i64 tr,.int .i64 bd] from fun _=>rfl] at hA0 ft m
  rw [show ∀c,an ⟨ch,pk,pl2,tr,bd⟩ c=.agg [c,.int .i64 pk,.int .i64 pl2,.int .i64 tr,.int .i64 bd] from fun _=>rfl]
  have lt:ac true 5 [Ent.row 5 false [.agg [chv,.int .i64 pk,.int .i64 pl2,.int .i64 tr,.int .i64 bd]]] (.ptr 0 0 0)=some (.agg [chv,.int .i64 pk,.int .i64 pl2,.int .i64 tr,.int .i64 bd]):=rfl
  have le:∀k,ac false 1 [Ent.row 5 false [.agg [chv,.int .i64 pk,.int .i64 pl2,.int .i64 tr,.int .i64 bd]],.row 1 false [.int .i64 k],.row 1 false [.nilS],.row 1 false [.func (.func 63) [] [.ptr 1 0 0,.ptr 2 0 0,.ptr 0 0 0,.ptr 3 0 0]]] (.ptr 3 0 0)=some (.func (.func 63) [] [.ptr 1 0 0,.ptr 2 0 0,.ptr 0 0 0,.ptr 3 0 0]):=fun k=>rfl
  have lc:ac false 1 [Ent.row 5 false [.agg [chv,.int .i64 pk,.int .i64 pl2,.int .i64 tr,.int .i64 bd]]] (.ptr 0 0 0)=some chv:=rfl
  obtain ⟨k,hk⟩:∃k,k=(ch.length:Int):=⟨_,rfl⟩
  rw [<-hk] at hlen hA0
  obtain ⟨R,hR⟩:∃R,R=lS (ext ch.length (decide (bd=1)) (ch.length+1) [0]):=⟨_,rfl⟩
  rw [<-hR] at hfz ⊢
  unfold lQ at hA0
  rw [hA0] at h1
  simp [kV,m,ft,hlen,h1,lv,hfz,hfr,lc,lt,le,-frz,-aq,-ac]
 ·rw [if_neg hv]
  rw [decide_eq_false hv] at m
  rw [jt _ _ rfl]
  obtain ⟨ch,pk,pl2,tr,bd⟩:=T
  rw [show ∀c,an ⟨ch,pk,pl2,tr,bd⟩ c=.agg [c,.int .i64 pk,.int .i64 pl2,.int .i64 tr,.int .i64 bd] from fun _=>rfl] at ft m
  rw [show ∀c,an ⟨ch,pk,pl2,tr,bd⟩ c=.agg [c,.int .i64 pk,.int .i64 pl2,.int .i64 tr,.int .i64 bd] from fun _=>rfl]
  simp [kV,m,ft,ba,-frz]
  rfl
def IF:List (FuncId × aG):=[(68,aD 4 M43)]
@[simp] theorem JS:aC IF 68=some (aD 4 M43):=rfl
theorem Dw:∀f M,aC IF f=some M->aj Try.prog GC f M:=af (aj.of_pure FN 4) aA
def M42:aP:=fun args=>evP (ax GC IF) 0 xS 1 args
theorem pN:au Try.prog GC 67 M42:=au.of_ev (E:=ax GC IF) (aw Dw) rfl HH sM 1 fun _ _ h=>⟨0,h⟩
theorem vW {xs ys:List Int} {a b:AV} (ha:SlA 1 (ak xs) a) (hb:SlA 1 (ak ys) b) (hl:xs.length<=200):M42 [a,.fp [b]]=some (.bool (decide (xs=ys))):=by
 have m:=vV ha hb hl
 have f1:∀A n,frz A n a=a:=fun A n=>ha.frz n
 have f2:∀A n,frz A n b=b:=fun A n=>hb.frz n
 have l1:∀A,ac false 1 A (.fp [b])=some b:=fun A=>rfl
 obtain ⟨d,hd⟩:∃d,d=decide (xs=ys):=⟨_,rfl⟩
 rw [<-hd] at m ⊢
 unfold M42
 rw [aK _ _ rfl]
 simp [xS,m,f1,f2,l1,bb,-frz,-ac]
def Cn:List (FuncId × aG):=[(67,aD 4 M42)]
@[simp] theorem JA:aC Cn 67=some (aD 4 M42):=rfl
theorem Dm:∀f M,aC Cn f=some M->aj Try.prog GC f M:=af (aj.of_pure pN 4) aA
def M66:aP:=fun args=>evP (ax GC Cn) 300 Iv 1 args
theorem FC:au Try.prog GC 85 M66:=au.of_ev (E:=ax GC Cn) (aw Dm) rfl at66 Hb 1 fun _ _ h=>⟨300,h⟩
def isO (o l:List Int):Bool:=decide (l=o)
def fnO (ov:AV):AV:=.func (.func 67) [] [.fp [ov]]
theorem H5 {ll:List (List Int)} {o:List Int} {ov:AV} (ho:SlA 1 (ak o) ov) (hl:ll.length<=256) (hl2:∀l∈ll,l.length<=200):M66 [lS ll,fnO ov]=some (.int .i64 (c9 (isO o) ll)):=by
 have hb:=be 1 (ll.map fun l=>slA 1 (ak l))
 rw [show slA 1 (ll.map fun l=>slA 1 (ak l))=lS ll from rfl] at hb
 obtain ⟨b,hbv⟩:∃b,b=lS ll:=⟨_,rfl⟩
 rw [<-hbv] at hb ⊢
 have hlen:=hb.len
 rw [List.length_map] at hlen
 have round:∀(A:ab) (i:Nat) (hi:i<ll.length),run (ax GC Cn) 300 [.code iQ] (lC b (fnO ov) (.int .i64 (ll.length:Int)) (.int .i64 (i:Int))) A =
   if isO o ll[i]=false then some (.normal (lC b (fnO ov) (.int .i64 (ll.length:Int)) (.int .i64 ((i+1:Nat):Int))) A) else some (.ret [b,fnO ov,.int .i64 (i:Int),.int .i64 (i:Int),.int .i64 (ll.length:Int),.int .i64 (i:Int),.bool true,.bool true] A):=fun A i hi=>by
  have he:(ll.map fun l=>slA 1 (ak l))[i]?=some (slA 1 (ak ll[i])):=by simp [hi]
  have hs:=be 1 (ak ll[i])
  have x1:=hb.index1 (A:=A) he (by rcases hs with ⟨h,_⟩ | h <;> rw [h] <;> rfl) (by rcases hs with ⟨h,_⟩ | h <;> rw [h] <;> rfl) .i64
  have ld:ac false 1 A (.fp [slA 1 (ak ll[i])])=some (slA 1 (ak ll[i])):=by rcases hs with ⟨h,_⟩ | h <;> rw [h] <;> rfl
  have m:=vW hs ho (hl2 _ (List.getElem_mem hi))
  have b1:=bj i ll.length .i64
  rw [decide_eq_true hi] at b1
  have b3:=aY i (by omega)
  have fz:∀A,frz A 4 (slA 1 (ak ll[i]))=slA 1 (ak ll[i]):=fun A=>hs.frz 4
  have fz2:∀A,frz A 4 (.fp [ov])=.fp [ov]:=fun A=>rfl
  obtain ⟨i1,hi1⟩:∃i1:Nat,i1=i+1:=⟨_,rfl⟩
  rw [<-hi1] at b3 ⊢
  obtain ⟨d,hd⟩:∃d,d=isO o ll[i]:=⟨_,rfl⟩
  rw [show decide (ll[i]=o)=d from hd.symm] at m
  rw [<-hd]
  obtain ⟨c,hc⟩:∃c,c=slA 1 (ak ll[i]):=⟨_,rfl⟩
  rw [<-hc] at m ld fz x1
  cases d with
  | false=>simp [iQ,fnO,x1,ld,m,fz,fz2,b1,b3,-frz,-ai,-ag,-aq,-ac]
  | true=>simp [iQ,fnO,x1,ld,m,fz,fz2,b1,-frz,-ai,-ag,-aq,-ac]
 unfold M66
 rw [aK _ _ rfl]
 rcases cI (E:=ax GC Cn) (fuel:=300) (a:=iQ) (mask:=hJ) (fun i=>lC b (fnO ov) (.int .i64 (ll.length:Int)) (.int .i64 (i:Int))) (fun _=>[]) ll.length (fun i=>¬ ∀hi:i<ll.length,isO o ll[i]=false)
  (oF:=fun i=>.ret [b,fnO ov,.int .i64 (i:Int),.int .i64 (i:Int),.int .i64 (ll.length:Int),.int .i64 (i:Int),.bool true,.bool true] []) (oE:=.exit 0 ((lC b (fnO ov) (.int .i64 (ll.length:Int)) (.int .i64 (ll.length:Int))).set 6 (.bool false)) [])
  (fun _=>Cz) (fun _ _ _ h=>by cases h) (fun _ _ h=>by cases h)
  (fun i hi hp=>by
   rw [round [] i hi]
   exact if_pos (Classical.not_not.1 hp hi))
  (fun i hi hp=>by
   rw [round [] i hi]
   exact if_neg fun h=>hp fun _=>h)
  (by simp [iQ]) (show ll.length<300 by omega) with ⟨i,hi,hp,hj,lp⟩ | ⟨hp,lp⟩
 ·have lp:bU (evC (ax GC Cn) 300 iQ) hJ 300 (lC b (fnO ov) (.int .i64 (ll.length:Int)) (.int .i64 0)) []=_:=lp
  have e:c9 (isO o) ll=(i:Int):=bJ hi (by
   cases h':isO o ll[i] with
   | true=>rfl
   | false=>exact absurd (fun _=>h') hp) (fun j hj'=>Classical.not_not.1 (hj j hj') (by omega))
  rw [e]
  simp [Iv,hlen,Cb lp,-ai,-aq]
 ·have lp:bU (evC (ax GC Cn) 300 iQ) hJ 300 (lC b (fnO ov) (.int .i64 (ll.length:Int)) (.int .i64 0)) []=_:=lp
  have e:c9 (isO o) ll = -1:=bM fun i hi=>Classical.not_not.1 (hp i hi) hi
  rw [e]
  simp [Iv,hlen,Cb lp,-ai,-aq]
def IG:List (FuncId × aG):=[(85,aD 4 M66)]
@[simp] theorem JT:aC IG 85=some (aD 4 M66):=rfl
theorem Dx:∀f M,aC IG f=some M->aj Try.prog GC f M:=af (aj.of_pure FC 4) aA
def M41:aP:=fun args=>evP (ax GC IG) 0 xT 1 args
theorem nF:au Try.prog GC 66 M41:=au.of_ev (E:=ax GC IG) (aw Dx) rfl HI sN 1 fun _ _ h=>⟨0,h⟩
theorem ET (o:List Int) (ll:List (List Int)):ll.any (isO o)=decide (o∈ll):=by
 rw [Bool.eq_iff_iff,List.any_eq_true,decide_eq_true_eq]
 unfold isO
 constructor
 ·rintro ⟨x,hx,h⟩
  rw [<-of_decide_eq_true h]; exact hx
 ·exact fun h=>⟨o,h,by simp⟩
theorem vX {ll:List (List Int)} {o:List Int} {ov:AV} (ho:SlA 1 (ak o) ov) (hl:ll.length<=256) (hl2:∀l∈ll,l.length<=200):M41 [lS ll,fnO ov]=some (.bool (decide (o∈ll))):=by
 have h:=H5 ho hl hl2
 have b1:=iA (c9 (isO o) ll)
 rw [cm,ET] at b1
 have f1:∀A n,frz A n (lS ll)=lS ll:=fun A n=>(be 1 _).frz n
 have f2:∀A,frz A 4 (fnO ov)=fnO ov:=fun A=>rfl
 obtain ⟨z,hz⟩:∃z,z=c9 (isO o) ll:=⟨_,rfl⟩
 rw [<-hz] at h b1
 obtain ⟨d,hd⟩:∃d,d=decide (o∈ll):=⟨_,rfl⟩
 rw [<-hd] at b1 ⊢
 obtain ⟨b,hbv⟩:∃b,b=lS ll:=⟨_,rfl⟩
 rw [<-hbv] at h f1 ⊢
 unfold M41
 rw [aK _ _ rfl]
 simp [xT,h,b1,f1,f2,bb,-ai,-frz]
end Clu
namespace Clu
open Go
open Cy (GC iA c9 bJ bM cm aJ bb aB a8 cF cr cw dS okA)
section
variable {A:ab} {es:List AV} {k:Nat}
theorem pH (_hk:es.length=k) {j:Nat} (hj:j<k):aa j (A++[.row k false [.agg es]]) (.ptr A.length 0 0)=some (.ptr A.length 0 j):=by
 simp [aa,hj]
theorem rK (_hk:es.length=k) {j:Nat} {x:AV} (hx:es[j]?=some x):ac false 1 (A++[.row k false [.agg es]]) (.ptr A.length 0 j)=some x:=by
 simp [ac,bN,hx]
theorem Dc (_hk:es.length=k) (_hk1:k≠1):ac true k (A++[.row k false [.agg es]]) (.ptr A.length 0 0)=some (.agg es):=by
 simp [ac,r8]
theorem xd (hk:es.length=k) (hk1:1<k) {j:Nat} (hj:j<k) {x:AV} (hs:x.solid=true) (hc:cellsOf x=[x]):az 1 (A++[.row k false [.agg es]]) (.ptr A.length 0 j) x=some (A++[.row k false [.agg (es.set j x)]]):=by
 have e:es.take j++[x]++es.drop (j+1)=es.set j x:=by
  rw [List.set_eq_take_append_cons_drop,if_pos (by omega)]; simp
 have e1:bn (.agg es) k j x=some (.agg (es.set j x)):=by
  unfold bn
  rw [hc,if_neg (by simp; omega)]
  simp only [List.length_singleton]
  rw [if_pos ⟨hk,by omega⟩,e]
 simp only [az,List.getElem?_concat_length,List.getElem?_cons_zero]
 rw [if_pos ⟨trivial,hs,by rw [hc]; rfl,by omega⟩,e1]
 simp
end
@[simp] theorem p9 (A:ab) (x:AV):ac false 1 A (.fp [x])=some x:=rfl
@[simp] theorem Ms (A:ab) (x y:AV) (r:List AV):ac true (r.length+2) A (.fp (x :: y :: r))=some (.agg (x :: y :: r)):=by simp [ac]
@[simp] theorem i6 (A:ab) (x y:AV):ac true 2 A (.fp [x,y])=some (.agg [x,y]):=rfl
def M46:aP:=fun args=>evP (ax GC []) 0 Ek 4 args
theorem xk:au Try.prog GC 71 M46:=au.of_ev (E:=ax GC []) (aw aA) rfl LB yS 4 fun _ _ h=>⟨0,h⟩
def ww:AV:=.agg [.nilF,.func (.func 86) [] [],.func (.func 87) [] []]
theorem z7:M46 []=some ww:=by
 have s:eo 3 [.row 1 false [.nilF,.nilF,.nilF]] (.ptr 0 0 0) ww=some [.row 1 false [.nilF,.func (.func 86) [] [],.func (.func 87) [] []]]:=by
  simp [eo,ww,AV.solid,cellsOf]
 unfold M46
 rw [aK _ _ rfl]
 unfold ww at s
 simp [Ek,ww,s,AV.solid,cellsOf]
def IC:List (FuncId × aG):=[(49,aD 4 M64)]
@[simp] theorem Jz:aC IC 49=some (aD 4 M64):=rfl
theorem Dl:∀f M,aC IC f=some M->aj Try.prog GC f M:=af (aj.of_pure uQ 4) aA
def M67:aP:=fun args=>evP (ax GC IC) 0 Iu 4 args
theorem FB:au Try.prog GC 86 M67:=au.of_ev (E:=ax GC IC) (aw Dl) rfl at67 Ha 4 fun _ _ h=>⟨0,h⟩
def lkA (a b c:Int):AV:=.agg [.int .i64 a,.int .i64 b,.int .i64 c]
theorem H4 {o:List Int} {ov:AV} (ho:SlA 1 (ak o) ov) (hl:o.length<=200) {j:Int} (hj : -1000<=j/\j<=1000):M67 [ov,.int .i64 j]=some (lkA (j-1) j (if c9 (isI j) o<c9 (isI (j-1)) o then 1 else 0)):=by
 have m1:=qv ho hl j
 have m2:=qv ho hl (j-1)
 have f1:∀A n,frz A n ov=ov:=fun A n=>ho.frz n
 have b1:=bV (a:=j) (b:=1) (by omega)
 have b2:=ce (c9 (isI j) o) (c9 (isI (j-1)) o)
 obtain ⟨j1,hj1⟩:∃x,x=j-1:=⟨_,rfl⟩
 rw [<-hj1] at m2 b1 b2 ⊢
 obtain ⟨x,hx⟩:∃x,x=c9 (isI j) o:=⟨_,rfl⟩
 obtain ⟨y,hy⟩:∃x,x=c9 (isI j1) o:=⟨_,rfl⟩
 rw [<-hx] at m1 b2 ⊢
 rw [<-hy] at m2 b2 ⊢
 unfold M67
 rw [aK _ _ rfl]
 by_cases h:x<y
 ·rw [decide_eq_true h] at b2
  rw [if_pos h]
  simp [Iu,m1,m2,f1,b1,b2,lkA,aJ,-ai,-frz]
  simp [frz]
 ·rw [decide_eq_false h] at b2
  rw [if_neg h]
  simp [Iu,m1,m2,f1,b1,b2,lkA,aJ,-ai,-frz]
  simp [frz]
def M68:aP:=fun args=>evP (ax GC []) 0 Jg 4 args
theorem FA:au Try.prog GC 87 M68:=au.of_ev (E:=ax GC []) (aw aA) rfl at68 G9 4 fun _ _ h=>⟨0,h⟩
theorem H3 (ov:AV) (j:Int):M68 [ov,.int .i64 j]=some (lkA j j 1):=by
 unfold M68
 rw [aK _ _ rfl]
 simp [Jg,lkA]
def H45:aG:=fun _=>bS (ax GC []) 0 wS
theorem xm:aj Try.prog GC 70 H45:=(bQ (aw aA) rfl IS vJ bg.nil).y
def GAt (A:ab) (g:Nat) (l:List a8):Prop:=∃v,A[g]?=some (.row 1 false [v])/\((v=.nilS/\l=[])\/∃id gr,v=.sl id 0 l.length/\l≠[]/\g<id/\A[id]?=some (.row 4 gr (l.map cF)))
theorem GAt.app {A:ab} {g:Nat} {l:List a8} (h:GAt A g l) (X:ab):GAt (A++X) g l:=by
 obtain ⟨v,h1,h2⟩:=h
 have hk:∀(j:Nat) (e:Ent),A[j]?=some e->(A++X)[j]?=some e:=fun j e h=>by
  rw [List.getElem?_append_left (List.getElem?_eq_some_iff.1 h).1]; exact h
 refine ⟨v,hk _ _ h1,?_⟩
 rcases h2 with h2 | ⟨id,gr,e1,e2,e3,e4⟩
 ·exact .inl h2
 ·exact .inr ⟨id,gr,e1,e2,e3,hk _ _ e4⟩
theorem C1 (h:aU) {A:ab} {g:Nat} {l:List a8} (hg:GAt A g l) {xs:List a8} (hx:xs≠[]) (hb:l.length+xs.length<=1000) :
  ∃B,H45 h [.ptr g 0 0,.fs 4 (xs.map cF)] A=some (.tup [],B)/\GAt B g (l++xs)/\A.length<=B.length/\∀j,j<g->B[j]?=A[j]?:=by
 obtain ⟨v,h1,h2⟩:=hg
 have hgl:=(List.getElem?_eq_some_iff.1 h1).1
 have hxl:0<xs.length:=List.length_pos_iff.2 hx
 have hxm:xs.map cF≠[]:=fun e=>hx (List.map_eq_nil_iff.1 e)
 rcases h2 with ⟨rfl,rfl⟩ | ⟨id,gr,rfl,hl,hid,hr⟩
 ·have e1:aN 4 32 A .nilS (.fs 4 (xs.map cF))=some (.sl A.length 0 xs.length,A++[.row 4 false (xs.map cF)]):=by
   simp only [aN,cU,List.length_map]
   rw [if_neg (by omega),if_pos ⟨by omega,by omega,by simp at hb; omega⟩]
  have l1:ac false 1 A (.ptr g 0 0)=some .nilS:=g7 h1 (.inl rfl)
  have h1':(A++[Ent.row 4 false (xs.map cF)])[g]?=some (.row 1 false [.nilS]):=by rw [List.getElem?_append_left hgl]; exact h1
  obtain ⟨A1,hA1⟩:∃X,X=A++[Ent.row 4 false (xs.map cF)]:=⟨_,rfl⟩
  have s1:az 1 A1 (.ptr g 0 0) (.sl A.length 0 xs.length)=some (A1.set g (.row 1 false [.sl A.length 0 xs.length])):=by
   rw [<-hA1] at h1'
   simp [h1']
  refine ⟨A1.set g (.row 1 false [.sl A.length 0 xs.length]),?_,⟨.sl A.length 0 xs.length,by rw [hA1,List.getElem?_set_self (by simp; omega)],.inr ⟨A.length,false,rfl,hx,hgl,?_⟩⟩,by rw [hA1]; simp,fun j hj=>?_⟩
  ·rw [<-hA1] at e1
   unfold H45
   rw [a9 _ _ rfl]
   simp [wS,l1,e1,s1,-ac,-az]
  ·rw [hA1,List.getElem?_set_ne (by omega)]
   simp
  ·rw [hA1,List.getElem?_set_ne (by omega),List.getElem?_append_left (by omega)]
 ·have hlz:l.length≠0:=fun e=>hl (List.length_eq_zero_iff.1 e)
  have hidl:=(List.getElem?_eq_some_iff.1 hr).1
  have e1:aN 4 32 A (.sl id 0 l.length) (.fs 4 (xs.map cF))=some (.sl id 0 (l.length+xs.length),A.set id (.row 4 true (l.map cF++xs.map cF))):=by
   simp only [aN,cU,List.length_map,hr]
   rw [if_pos ⟨trivial,by omega,by omega,by omega⟩,if_pos ⟨trivial,trivial,hlz⟩]
  have l1:ac false 1 A (.ptr g 0 0)=some (.sl id 0 l.length):=g7 h1 (.inr ⟨_,_,_,rfl⟩)
  obtain ⟨A1,hA1⟩:∃X,X=A.set id (Ent.row 4 true (l.map cF++xs.map cF)):=⟨_,rfl⟩
  have h1':A1[g]?=some (.row 1 false [.sl id 0 l.length]):=by rw [hA1,List.getElem?_set_ne (by omega)]; exact h1
  have s1:az 1 A1 (.ptr g 0 0) (.sl id 0 (l.length+xs.length))=some (A1.set g (.row 1 false [.sl id 0 (l.length+xs.length)])):=by
   simp [h1']
  refine ⟨A1.set g (.row 1 false [.sl id 0 (l.length+xs.length)]),?_,⟨.sl id 0 (l.length+xs.length),by rw [hA1,List.getElem?_set_self (by simpa using hgl)],.inr ⟨id,true,by simp,by simp [hl],hid,?_⟩⟩,by rw [hA1]; simp,fun j hj=>?_⟩
  ·rw [<-hA1] at e1
   unfold H45
   rw [a9 _ _ rfl]
   simp [wS,l1,e1,s1,-ac,-az]
  ·rw [hA1,List.getElem?_set_ne (by omega),List.getElem?_set_self hidl]
   simp
  ·rw [hA1,List.getElem?_set_ne (by omega),List.getElem?_set_ne (by omega)]
theorem GAt.frz {A:ab} {g:Nat} {l:List a8} (h:GAt A g l):∃v,ac false 1 A (.ptr g 0 0)=some v/\(∀k,Proofs.Ytkcjhljbgjpklaa.frz A (k+3) v=slA 4 (l.map cF))/\∀k,ba A (k+3) v=true:=by
 obtain ⟨v,h1,h2⟩:=h
 rcases h2 with ⟨rfl,rfl⟩ | ⟨id,gr,rfl,hl,hid,hr⟩
 ·exact ⟨.nilS,g7 h1 (.inl rfl),fun k=>rfl,fun k=>rfl⟩
 ·have e:((l.map cF).drop 0).take l.length=l.map cF:=by
   rw [List.drop_zero]
   conv=>lhs; rw [show l.length=(l.map cF).length by simp]
   rw [List.take_length]
  refine ⟨_,g7 h1 (.inr ⟨_,_,_,rfl⟩),fun k=>?_,fun k=>?_⟩
  ·have hm:(l.map cF).map (Proofs.Ytkcjhljbgjpklaa.frz A (k+2))=l.map cF:=by
    rw [List.map_map]
    exact List.map_congr_left fun x _=>by simp [cF,Proofs.Ytkcjhljbgjpklaa.frz]
   rw [show k+3=(k+2)+1 from rfl]
   simp only [Proofs.Ytkcjhljbgjpklaa.frz,hr]
   rw [e,hm]
   cases l with
   | nil=>exact absurd rfl hl
   | cons x r=>rfl
  ·rw [show k+3=(k+2)+1 from rfl]
   simp only [ba,hr]
   rw [e,List.all_eq_true]
   intro y hy
   obtain ⟨x,_,rfl⟩:=List.mem_map.1 hy
   simp [cF,ba]
end Clu
namespace Clu
open Go
open Cy (GC iA c9 bJ bM cm aJ bb aB a8 cF cr cw dS okA)
def qP (o:List Int) (i:Nat):Int:=if i+1<o.length then o.getD (i+1) 0 else 0
def wP (T:aR) (o:List Int) (i:Nat):a8:=
 ⟨o.getD i 0,qP o i,eM T+(if T.blades=2\/qP o i≠o.getD i 0+1 then T.travel else 0),if i+1<o.length then 0 else 1⟩
def lkT (T:aR) (o:List Int) (j:Int):Int × Int × Int:=if T.blades=2 then (j,j,1) else (j-1,j,if c9 (isI j) o<c9 (isI (j-1)) o then 1 else 0)
def uB (T:aR) (o:List Int) (i:Nat):List a8:=
 [⟨(lkT T o (i+1)).1,(lkT T o (i+1)).2.1,eM T+(T.ch.getD i (0,0)).1,(lkT T o (i+1)).2.2⟩,
  ⟨(lkT T o (i+1)).2.1,(lkT T o (i+1)).1,-(eM T+(T.ch.getD i (0,0)).1+(T.ch.getD i (0,0)).2),-(lkT T o (i+1)).2.2⟩]
def bp (T:aR) (o:List Int):List a8:=(List.range o.length).map (wP T o)++(List.range T.ch.length).flatMap (uB T o)
def Bx (T:aR) (o:List Int):Option (List a8):=if o∈aH T then some (bp T o) else none
theorem yA (n:Nat) (one:Bool):∀(k:Nat) (b l:List Int),l∈ext n one k b->l.length=n+1/\∃r,l=b++r/\(∀x∈r,1<=x/\x<=n)/\(b.Nodup->l.Nodup)
 | 0,b,l,h=>by simp [ext] at h
 | k+1,b,l,h=>by
  unfold ext at h
  split at h
  ·rename_i hb
   simp only [List.mem_singleton] at h
   subst h
   exact ⟨hb,[],by simp,by simp,id⟩
  ·rw [List.mem_flatMap] at h
   obtain ⟨i,hi,h⟩:=h
   rw [List.mem_range'_1] at hi
   split at h
   ·rename_i hc
    obtain ⟨h1,r,rfl,h3,h4⟩:=yA n one k _ _ h
    simp only [Bool.and_eq_true,Bool.not_eq_true',decide_eq_false_iff_not] at hc
    refine ⟨h1,(i:Int) :: r,by simp,fun x hx=>?_,fun hn=>h4 ?_⟩
    ·rcases List.mem_cons.1 hx with rfl | hx
     ·omega
     ·exact h3 x hx
    ·rw [List.nodup_append]
     refine ⟨hn,by simp,fun a ha b hb e=>?_⟩
     rw [List.mem_singleton] at hb
     subst hb; subst e
     exact hc.1 ha
   ·cases h
theorem cz {T:aR} {o:List Int} (h:o∈aH T):aZ T/\o.length=T.ch.length+1/\(∃r,o=0 :: r/\∀x∈r,1<=x/\x<=T.ch.length)/\o.Nodup:=by
 unfold aH at h
 split at h
 ·rename_i hv
  obtain ⟨h1,r,h2,h3,h4⟩:=yA _ _ _ _ _ h
  exact ⟨hv,h1,⟨r,h2,h3⟩,h4 (by simp)⟩
 ·cases h
theorem gI {T:aR} {o:List Int} (h:o∈aH T):∀x∈o,0<=x/\x<=T.ch.length:=by
 obtain ⟨_,_,⟨r,rfl,h2⟩,_⟩:=cz h
 intro x hx
 rcases List.mem_cons.1 hx with rfl | hx
 ·omega
 ·have:=h2 x hx; omega
theorem g8 (T:aR):(aH T).length<=256:=by
 unfold aH
 split
 ·rename_i hv
  have hn:=hv.2.2.2.1
  rcases ul T.ch.length (decide (T.blades=1)) hn T.ch.length [0] with h | h
  ·exact Nat.le_trans h (Nat.le_trans (Nat.pow_le_pow_right (by omega) hn) (by omega))
  ·simp at h; omega
 ·simp
theorem qB {T:aR} (h:aZ T):0<=eM T/\eM T<=30000:=by
 obtain ⟨_,⟨h1,h2,h3⟩,_⟩:=h
 unfold eM
 split <;> omega
theorem dm {a:Int} (h : -9223372036854775807<=a/\a<=9223372036854775807):su .neg (.int .i64 a)=some (.int .i64 (-a)):=by
 simp only [su]
 rw [show (0:Int)-a = -a by omega,eu (by unfold inI; omega)]
def m9:List (FuncId × aG):=[(43,cA 4 M14),(66,aD 4 M41),(69,aD 4 M44),(71,aD 4 M46),(86,aD 4 M67),(87,aD 4 M68),(70,H45)]
@[simp] theorem KW:aC m9 43=some (cA 4 M14):=rfl
@[simp] theorem KR:aC m9 66=some (aD 4 M41):=rfl
@[simp] theorem KQ:aC m9 69=some (aD 4 M44):=rfl
@[simp] theorem KO:aC m9 71=some (aD 4 M46):=rfl
@[simp] theorem KN:aC m9 86=some (aD 4 M67):=rfl
@[simp] theorem KM:aC m9 87=some (aD 4 M68):=rfl
@[simp] theorem KP:aC m9 70=some H45:=rfl
theorem tG:∀f M,aC m9 f=some M->aj Try.prog GC f M:=af (aj.of_pureF lO 4) (af (aj.of_pure nF 4) (af (aj.of_pure xn 4) (af (aj.of_pure xk 4) (af (aj.of_pure FB 4) (af (aj.of_pure FA 4) (af xm aA))))))
structure I19 (A:ab) (T:aR) (chv ov:AV) (l:List a8):Prop where
 t:A[0]?=some (.row 5 false [an T chv])
 o:A[1]?=some (.row 1 false [ov])
 g:GAt A 2 l
theorem AK {T:aR} {chv ov:AV} {o:List Int} (hO:o∈aH T) (ho:SlA 1 (ak o) ov) {A:ab} {l:List a8} (hI:I19 A T chv ov l) (hl:l.length<=100) {i:Nat} (hi:i<o.length) :
  ∃B,run (ax GC m9) 300 [.code dt] (fj (.ptr 0 0 0) (.ptr 1 0 0) (.int .i64 (eM T)) (.ptr 2 0 0) ov (.int .i64 (o.length:Int)) (.int .i64 (i:Int))) A =
   some (.normal (fj (.ptr 0 0 0) (.ptr 1 0 0) (.int .i64 (eM T)) (.ptr 2 0 0) ov (.int .i64 (o.length:Int)) (.int .i64 ((i+1:Nat):Int))) B)/\I19 B T chv ov (l++[wP T o i]):=by
 obtain ⟨hv,hol,_,_⟩:=cz hO
 have hbd:=gI hO
 have hw:=qB hv
 have hch:=hv.2.2.2.1
 have htr:=hv.2.1.2.2
 obtain ⟨ht,h1,hg⟩:=hI
 have ht0:=(List.getElem?_eq_some_iff.1 ht).1
 have h10:=(List.getElem?_eq_some_iff.1 h1).1
 have hlen:=ho.len
 rw [aB] at hlen
 have x1:=fun A=>ho.int (A:=A) _ _ (List.getElem?_eq_getElem hi) .i64
 have ho1:o[i]=o.getD i 0:=by rw [List.getD_eq_getElem?_getD,List.getElem?_eq_getElem hi]; rfl
 have hb1:=hbd o[i] (List.getElem_mem hi)
 obtain ⟨t0,htt⟩:∃t,t=o.getD i 0:=⟨_,rfl⟩
 rw [ho1,<-htt] at x1 hb1
 obtain ⟨w,hww⟩:∃w,w=eM T:=⟨_,rfl⟩
 have ov0:∀X,ac false 1 (A++X) (.ptr 1 0 0)=some ov:=fun X=>by
  have h:(A++X)[1]?=some (.row 1 false [ov]):=by rw [List.getElem?_append_left h10]; exact h1
  rcases ho with ⟨rfl,_⟩ | rfl <;> simp [h]
 obtain ⟨ch,pk,pl,tr,bd⟩:=T
 have ht:A[0]?=some (.row 5 false [.agg [chv,.int .i64 pk,.int .i64 pl,.int .i64 tr,.int .i64 bd]]):=ht
 have tl:∀X,(A++X)[0]?=some (.row 5 false [.agg [chv,.int .i64 pk,.int .i64 pl,.int .i64 tr,.int .i64 bd]]):=fun X=>by rw [List.getElem?_append_left ht0]; exact ht
 have t3:∀X,aa 3 (A++X) (.ptr 0 0 0)=some (.ptr 0 0 3):=fun X=>by simp [aa,tl X]
 have t4:∀X,aa 4 (A++X) (.ptr 0 0 0)=some (.ptr 0 0 4):=fun X=>by simp [aa,tl X]
 have l3:∀X,ac false 1 (A++X) (.ptr 0 0 3)=some (.int .i64 tr):=fun X=>by simp [ac,tl X,bN]
 have l4:∀X,ac false 1 (A++X) (.ptr 0 0 4)=some (.int .i64 bd):=fun X=>by simp [ac,tl X,bN]
 have a1:∀a b c d,aa 1 (A++[.row 4 false [.agg [a,b,c,d]]]) (.ptr A.length 0 0)=some (.ptr A.length 0 1):=fun a b c d=>pH (es:=[a,b,c,d]) (k:=4) rfl (by omega)
 have a2:∀a b c d,aa 2 (A++[.row 4 false [.agg [a,b,c,d]]]) (.ptr A.length 0 0)=some (.ptr A.length 0 2):=fun a b c d=>pH (es:=[a,b,c,d]) (k:=4) rfl (by omega)
 have a3:∀a b c d,aa 3 (A++[.row 4 false [.agg [a,b,c,d]]]) (.ptr A.length 0 0)=some (.ptr A.length 0 3):=fun a b c d=>pH (es:=[a,b,c,d]) (k:=4) rfl (by omega)
 have r1:∀a b c d,ac false 1 (A++[.row 4 false [.agg [a,b,c,d]]]) (.ptr A.length 0 1)=some b:=fun a b c d=>rK (es:=[a,b,c,d]) (k:=4) rfl rfl
 have r2:∀a b c d,ac false 1 (A++[.row 4 false [.agg [a,b,c,d]]]) (.ptr A.length 0 2)=some c:=fun a b c d=>rK (es:=[a,b,c,d]) (k:=4) rfl rfl
 have r4:∀a b c d,ac true 4 (A++[.row 4 false [.agg [a,b,c,d]]]) (.ptr A.length 0 0)=some (.agg [a,b,c,d]):=fun a b c d=>Dc (es:=[a,b,c,d]) (k:=4) rfl (by omega)
 have s1:∀a b c d z,az 1 (A++[.row 4 false [.agg [a,b,c,d]]]) (.ptr A.length 0 1) (.int .i64 z)=some (A++[.row 4 false [.agg [a,.int .i64 z,c,d]]]):=fun a b c d z=>xd (es:=[a,b,c,d]) (k:=4) rfl (by omega) (by omega) rfl rfl
 have s2:∀a b c d z,az 1 (A++[.row 4 false [.agg [a,b,c,d]]]) (.ptr A.length 0 2) (.int .i64 z)=some (A++[.row 4 false [.agg [a,b,.int .i64 z,d]]]):=fun a b c d z=>xd (es:=[a,b,c,d]) (k:=4) rfl (by omega) (by omega) rfl rfl
 have s3:∀a b c d z,az 1 (A++[.row 4 false [.agg [a,b,c,d]]]) (.ptr A.length 0 3) (.int .i64 z)=some (A++[.row 4 false [.agg [a,b,c,.int .i64 z]]]):=fun a b c d z=>xd (es:=[a,b,c,d]) (k:=4) rfl (by omega) (by omega) rfl rfl
 have sA:∀a b c d x y z u,az 4 (A++[.row 4 false [.agg [a,b,c,d]]]) (.ptr A.length 0 0) (.agg [.int .i64 x,.int .i64 y,.int .i64 z,.int .i64 u])=some (A++[.row 4 false [.agg [.int .i64 x,.int .i64 y,.int .i64 z,.int .i64 u]]]):=fun a b c d x y z u=>by simp [az,bn]
 have b0:=bj i o.length .i64
 rw [decide_eq_true hi] at b0
 have b1:=aY i (by omega)
 have b2:=bj (i+1) o.length .i64
 have b3:ai .eql (.int .i64 bd) (.int .i64 2)=some (.bool (decide (bd=2))):=br _ _
 have b4:ai .add (.int .i64 t0) (.int .i64 1)=some (.int .i64 (t0+1)):=a7 (by simp only at hch hb1; omega)
 have b6:ai .add (.int .i64 w) (.int .i64 tr)=some (.int .i64 (w+tr)):=a7 (by simp only at htr; omega)
 obtain ⟨nx,hnx⟩:∃x,x=qP o i:=⟨_,rfl⟩
 have b5:ai .neq (.int .i64 nx) (.int .i64 (t0+1))=some (.bool (decide (nx≠t0+1))):=cM _ _
 obtain ⟨ar,har⟩:∃a,a=wP ⟨ch,pk,pl,tr,bd⟩ o i:=⟨_,rfl⟩
 have hae:ar=⟨t0,nx,w+(if bd=2\/nx≠t0+1 then tr else 0),if i+1<o.length then 0 else 1⟩:=by
  rw [har,hnx,htt,hww]; rfl
 have hgX:=hg.app [.row 4 false [cF ar]]
 obtain ⟨B,k1,k2,k3,k4⟩:=C1 (fun _ _ _=>none) hgX (xs:=[ar]) (by simp) (by simp; omega)
 refine ⟨B,?_,⟨by rw [k4 0 (by omega),List.getElem?_append_left ht0]; exact ht,by rw [k4 1 (by omega),List.getElem?_append_left h10]; exact h1,by rw [<-har]; exact k2⟩⟩
 rw [<-hww]
 have k1:H45 (fun _ _ _=>none) [.ptr 2 0 0,.fs 4 [cF ar]] (A++[.row 4 false [cF ar]])=some (.tup [],B):=k1
 rw [show cF ar=.agg [.int .i64 t0,.int .i64 nx,.int .i64 (w+(if bd=2\/nx≠t0+1 then tr else 0)),.int .i64 (if i+1<o.length then 0 else 1)] by rw [hae]; rfl] at k1
 have hsl:∀x y z u:Int,a6 4 [.agg [.int .i64 x,.int .i64 y,.int .i64 z,.int .i64 u]]=some (.fs 4 [.agg [.int .i64 x,.int .i64 y,.int .i64 z,.int .i64 u]]):=fun x y z u=>rfl
 obtain ⟨N,hN⟩:∃n,n=A.length:=⟨_,rfl⟩
 obtain ⟨i1,hi1⟩:∃n,n=i+1:=⟨_,rfl⟩
 have x2:i1<o.length->∀A,ag 1 A ov (.int .i64 (i1:Int))=some (.fp [.int .i64 nx]):=fun h A=>by
  have e:o[i1]?=some nx:=by rw [hnx,qP,if_pos (by omega),<-hi1,List.getD_eq_getElem?_getD,List.getElem?_eq_getElem h]; rfl
  exact ho.int (A:=A) _ _ e .i64
 have hnx0:¬ i1<o.length->nx=0:=fun h=>by rw [hnx,qP,if_neg (by omega)]
 have bx:∀z,aX 4 (.agg [.int .i64 z,.int .i64 z,.int .i64 z,.int .i64 z]) A=some (.ptr N 0 0,A++[.row 4 false [.agg [.int .i64 z,.int .i64 z,.int .i64 z,.int .i64 z]]]):=fun z=>by rw [hN]; rfl
 rw [<-hi1] at b1 b2 k1 ⊢
 rw [<-hN] at a1 a2 a3 r1 r2 r4 s1 s2 s3 sA
 obtain ⟨t1,ht1⟩:∃x,x=t0+1:=⟨_,rfl⟩
 rw [<-ht1] at b4 b5 k1
 obtain ⟨w1,hw1⟩:∃x,x=w+tr:=⟨_,rfl⟩
 rw [<-hw1] at b6
 by_cases hc:i1<o.length
 ·rw [decide_eq_true hc] at b2
  have x2:=x2 hc
  rw [if_pos hc] at k1
  by_cases hd:bd=2
  ·rw [decide_eq_true hd] at b3
   rw [if_pos (.inl hd),<-hw1] at k1
   simp [dt,b0,b1,b2,b3,b6,x1,x2,ov0,hlen,t3,t4,l3,l4,a1,a2,a3,r2,r4,s1,s2,s3,sA,bx,hsl,k1,-ai,-ac,-az,-aa,-ag,-aq,-a6,-aX]
  ·rw [decide_eq_false hd] at b3
   by_cases he:nx≠t1
   ·rw [decide_eq_true he] at b5
    rw [if_pos (.inr he),<-hw1] at k1
    simp [dt,b0,b1,b2,b3,b4,b5,b6,x1,x2,ov0,hlen,t3,t4,l3,l4,a1,a2,a3,r1,r2,r4,s1,s2,s3,sA,bx,hsl,k1,-ai,-ac,-az,-aa,-ag,-aq,-a6,-aX]
   ·rw [decide_eq_false he] at b5
    rw [if_neg (fun h=>h.elim hd he),Int.add_zero] at k1
    simp [dt,b0,b1,b2,b3,b4,b5,x1,x2,ov0,hlen,t4,l4,a1,a3,r1,r4,s1,s3,sA,bx,hsl,k1,-ai,-ac,-az,-aa,-ag,-aq,-a6,-aX]
 ·rw [decide_eq_false hc] at b2
  have hnx0:=hnx0 hc
  rw [if_neg hc] at k1
  subst hnx0
  by_cases hd:bd=2
  ·rw [decide_eq_true hd] at b3
   rw [if_pos (.inl hd),<-hw1] at k1
   simp [dt,b0,b1,b2,b3,b6,x1,ov0,hlen,t3,t4,l3,l4,a2,r2,r4,s2,sA,bx,hsl,k1,-ai,-ac,-az,-aa,-ag,-aq,-a6,-aX]
  ·rw [decide_eq_false hd] at b3
   by_cases he:(0:Int)≠t1
   ·rw [decide_eq_true he] at b5
    rw [if_pos (.inr he),<-hw1] at k1
    simp [dt,b0,b1,b2,b3,b4,b5,b6,x1,ov0,hlen,t3,t4,l3,l4,a1,a2,r1,r2,r4,s2,sA,bx,hsl,k1,-ai,-ac,-az,-aa,-ag,-aq,-a6,-aX]
   ·rw [decide_eq_false he] at b5
    rw [if_neg (fun h=>h.elim hd he),Int.add_zero] at k1
    simp [dt,b0,b1,b2,b3,b4,b5,x1,ov0,hlen,t4,l4,a1,r1,r4,sA,bx,hsl,k1,-ai,-ac,-az,-aa,-ag,-aq,-a6,-aX]
end Clu
namespace Clu
open Go
open Cy (GC iA c9 bJ bM cm aJ bb aB a8 cF cr cw dS okA)
def fnL (T:aR):AV:=if T.blades=2 then .func (.func 87) [] [] else .func (.func 86) [] []
theorem Bv {T:aR} (_hv:aZ T) {o:List Int} {ov:AV} (ho:SlA 1 (ak o) ov) (hl:o.length<=200) (j:Int) (hj : -1000<=j/\j<=1000) (A:ab):(ax GC m9).call (fnL T) [ov,.int .i64 j] A=some (lkA (lkT T o j).1 (lkT T o j).2.1 (lkT T o j).2.2,A):=by
 have f1:∀n,frz A n ov=ov:=fun n=>ho.frz n
 unfold fnL lkT
 split
 ·have m:=H3 ov j
  simp [m,f1,lkA,aJ,-frz]
 ·have m:=H4 ho hl hj
  simp [m,f1,lkA,aJ,-frz]
theorem BX (T:aR) (o:List Int) (j:Int):(lkT T o j).2.2=0\/(lkT T o j).2.2=1:=by
 unfold lkT
 split
 ·exact .inr rfl
 ·simp only
  split
  ·exact .inr rfl
  ·exact .inl rfl
theorem qL {T:aR} {chv ov:AV} {o:List Int} (hO:o∈aH T) (hcv:SlA 2 (T.ch.map chA) chv) (ho:SlA 1 (ak o) ov) {A:ab} {l:List a8} (hI:I19 A T chv ov l) (hl:l.length<=100) {i:Nat} (hi:i<T.ch.length) :
  ∃B,run (ax GC m9) 300 [.code de] (eA (.ptr 1 0 0) (.int .i64 (eM T)) (.ptr 2 0 0) (fnL T) chv (.int .i64 (T.ch.length:Int)) (.int .i64 (i:Int))) A =
   some (.normal (eA (.ptr 1 0 0) (.int .i64 (eM T)) (.ptr 2 0 0) (fnL T) chv (.int .i64 (T.ch.length:Int)) (.int .i64 ((i+1:Nat):Int))) B)/\I19 B T chv ov (l++uB T o i):=by
 obtain ⟨hv,hol,_,_⟩:=cz hO
 have hw:=qB hv
 have hch:=hv.2.2.2.1
 obtain ⟨ht,h1,hg⟩:=hI
 have ht0:=(List.getElem?_eq_some_iff.1 ht).1
 have h10:=(List.getElem?_eq_some_iff.1 h1).1
 have hx0:T.ch.getD i (0,0)=T.ch[i]:=by rw [List.getD_eq_getElem?_getD,List.getElem?_eq_getElem hi]; rfl
 have hxv:=hv.1 _ (List.getElem_mem hi)
 have x1:∀A,ag 2 A chv (.int .i64 (i:Int))=some (.fp [.int .i64 (T.ch.getD i (0,0)).1,.int .i64 (T.ch.getD i (0,0)).2]):=fun A=>by
  rw [hx0]
  exact hcv.index (A:=A) (x:=chA T.ch[i]) (by simp [hi]) rfl (by omega) .i64
 have cl:=Bv hv ho (by omega) ((i:Int)+1) (by omega)
 have lb:=BX T o ((i:Int)+1)
 have ha:uB T o i=uB T o i:=rfl
 conv at ha=>rhs; unfold uB
 rw [ha]
 obtain ⟨⟨k1,k2,k3⟩,hk⟩:∃k,k=lkT T o ((i:Int)+1):=⟨_,rfl⟩
 rw [<-hk] at cl lb ⊢
 obtain ⟨⟨tm,sy⟩,hx⟩:∃x,x=T.ch.getD i (0,0):=⟨_,rfl⟩
 rw [hx0] at hx
 rw [<-hx] at hxv
 rw [hx0,<-hx] at x1
 rw [hx0,<-hx]
 simp only [pV] at cl lb x1 hxv ⊢
 obtain ⟨w,hww⟩:∃w,w=eM T:=⟨_,rfl⟩
 rw [<-hww] at hw ⊢
 have ov0:∀X,ac false 1 (A++X) (.ptr 1 0 0)=some ov:=fun X=>by
  have h:(A++X)[1]?=some (.row 1 false [ov]):=by rw [List.getElem?_append_left h10]; exact h1
  rcases ho with ⟨rfl,_⟩ | rfl <;> simp [h]
 have b0:=bj i T.ch.length .i64
 rw [decide_eq_true hi] at b0
 have b1:=aY i (by omega)
 have b2:ai .add (.int .i64 (i:Int)) (.int .i64 1)=some (.int .i64 ((i:Int)+1)):=a7 (by omega)
 have b3:ai .add (.int .i64 w) (.int .i64 tm)=some (.int .i64 (w+tm)):=a7 (by omega)
 have b4:ai .add (.int .i64 (w+tm)) (.int .i64 sy)=some (.int .i64 (w+tm+sy)):=a7 (by omega)
 have b5:su .neg (.int .i64 (w+tm+sy))=some (.int .i64 (-(w+tm+sy))):=dm (by omega)
 have b6:su .neg (.int .i64 k3)=some (.int .i64 (-k3)):=dm (by omega)
 obtain ⟨A1,hA1⟩:∃X,X=A++[Ent.row 2 false [.agg [.int .i64 tm,.int .i64 sy]]]:=⟨_,rfl⟩
 have ov1:ac false 1 A1 (.ptr 1 0 0)=some ov:=by rw [hA1]; exact ov0 _
 have bx:aX 2 (.agg [.int .i64 0,.int .i64 0]) A=some (.ptr A.length 0 0,A++[.row 2 false [.agg [.int .i64 0,.int .i64 0]]]):=rfl
 have s0:az 2 (A++[.row 2 false [.agg [.int .i64 0,.int .i64 0]]]) (.ptr A.length 0 0) (.agg [.int .i64 tm,.int .i64 sy])=some A1:=by simp [az,bn,hA1]
 have bx1:aX 3 (.agg [.int .i64 0,.int .i64 0,.int .i64 0]) A1=some (.ptr A1.length 0 0,A1++[.row 3 false [.agg [.int .i64 0,.int .i64 0,.int .i64 0]]]):=rfl
 have s1:az 3 (A1++[.row 3 false [.agg [.int .i64 0,.int .i64 0,.int .i64 0]]]) (.ptr A1.length 0 0) (lkA k1 k2 k3)=some (A1++[.row 3 false [lkA k1 k2 k3]]):=by simp [az,bn,lkA]
 have hA1n:∀X,(A1++X)[A.length]?=some (Ent.row 2 false [.agg [.int .i64 tm,.int .i64 sy]]):=fun X=>by rw [List.getElem?_append_left (by rw [hA1]; simp),hA1]; simp
 have f0:∀X,aa 0 (A1++X) (.ptr A.length 0 0)=some (.ptr A.length 0 0):=fun X=>by simp [aa,hA1n X]
 have f1:∀X,aa 1 (A1++X) (.ptr A.length 0 0)=some (.ptr A.length 0 1):=fun X=>by simp [aa,hA1n X]
 have e0:∀X,ac false 1 (A1++X) (.ptr A.length 0 0)=some (.int .i64 tm):=fun X=>by simp [ac,hA1n X,bN]
 have e1:∀X,ac false 1 (A1++X) (.ptr A.length 0 1)=some (.int .i64 sy):=fun X=>by simp [ac,hA1n X,bN]
 have g0:aa 0 (A1++[.row 3 false [lkA k1 k2 k3]]) (.ptr A1.length 0 0)=some (.ptr A1.length 0 0):=pH (es:=[.int .i64 k1,.int .i64 k2,.int .i64 k3]) (k:=3) rfl (by omega)
 have g1:aa 1 (A1++[.row 3 false [lkA k1 k2 k3]]) (.ptr A1.length 0 0)=some (.ptr A1.length 0 1):=pH (es:=[.int .i64 k1,.int .i64 k2,.int .i64 k3]) (k:=3) rfl (by omega)
 have g2:aa 2 (A1++[.row 3 false [lkA k1 k2 k3]]) (.ptr A1.length 0 0)=some (.ptr A1.length 0 2):=pH (es:=[.int .i64 k1,.int .i64 k2,.int .i64 k3]) (k:=3) rfl (by omega)
 have d0:ac false 1 (A1++[.row 3 false [lkA k1 k2 k3]]) (.ptr A1.length 0 0)=some (.int .i64 k1):=rK (es:=[.int .i64 k1,.int .i64 k2,.int .i64 k3]) (k:=3) rfl rfl
 have d1:ac false 1 (A1++[.row 3 false [lkA k1 k2 k3]]) (.ptr A1.length 0 1)=some (.int .i64 k2):=rK (es:=[.int .i64 k1,.int .i64 k2,.int .i64 k3]) (k:=3) rfl rfl
 have d2:ac false 1 (A1++[.row 3 false [lkA k1 k2 k3]]) (.ptr A1.length 0 2)=some (.int .i64 k3):=rK (es:=[.int .i64 k1,.int .i64 k2,.int .i64 k3]) (k:=3) rfl rfl
 have hgX:GAt (A1++[.row 3 false [lkA k1 k2 k3]]) 2 l:=by rw [hA1]; exact (hg.app _).app _
 obtain ⟨B,q1,q2,q3,q4⟩:=C1 (fun _ _ _=>none) hgX (xs:=[⟨k1,k2,w+tm,k3⟩,⟨k2,k1,-(w+tm+sy),-k3⟩]) (by simp) (by simp; omega)
 have hA10:∀j,j<A.length->(A1++[Ent.row 3 false [lkA k1 k2 k3]])[j]?=A[j]?:=fun j hj=>by
  rw [hA1,List.append_assoc,List.getElem?_append_left hj]
 refine ⟨B,?_,⟨by rw [q4 0 (by omega),hA10 0 ht0]; exact ht,by rw [q4 1 (by omega),hA10 1 h10]; exact h1,q2⟩⟩
 obtain ⟨w1,hw1⟩:∃x,x=w+tm:=⟨_,rfl⟩
 rw [<-hw1] at b3 b4 b5 q1
 obtain ⟨w2,hw2⟩:∃x,x=w1+sy:=⟨_,rfl⟩
 rw [<-hw2] at b4 b5 q1
 obtain ⟨w3,hw3⟩:∃x,x = -w2:=⟨_,rfl⟩
 rw [<-hw3] at b5 q1
 obtain ⟨k4,hk4⟩:∃x,x = -k3:=⟨_,rfl⟩
 rw [<-hk4] at b6 q1
 have q1:H45 (fun _ _ _=>none) [.ptr 2 0 0,.fs 4 [.agg [.int .i64 k1,.int .i64 k2,.int .i64 w1,.int .i64 k3],.agg [.int .i64 k2,.int .i64 k1,.int .i64 w3,.int .i64 k4]]] (A1++[.row 3 false [lkA k1 k2 k3]])=some (.tup [],B):=q1
 have hsl:a6 4 [.agg [.int .i64 k1,.int .i64 k2,.int .i64 w1,.int .i64 k3],.agg [.int .i64 k2,.int .i64 k1,.int .i64 w3,.int .i64 k4]]=some (.fs 4 [.agg [.int .i64 k1,.int .i64 k2,.int .i64 w1,.int .i64 k3],.agg [.int .i64 k2,.int .i64 k1,.int .i64 w3,.int .i64 k4]]):=rfl
 have cl:=cl A1
 obtain ⟨j1,hj1⟩:∃x,x=(i:Int)+1:=⟨_,rfl⟩
 rw [<-hj1] at b2 cl
 obtain ⟨i1,hi1⟩:∃n,n=i+1:=⟨_,rfl⟩
 have hj2:j1=(i1:Int):=by omega
 subst hj2
 rw [<-hi1] at b1 ⊢
 obtain ⟨F,hF⟩:∃F,F=fnL T:=⟨_,rfl⟩
 rw [<-hF] at cl ⊢
 obtain ⟨L,hL⟩:∃L,L=lkA k1 k2 k3:=⟨_,rfl⟩
 rw [<-hL] at cl s1 g0 g1 g2 d0 d1 d2 q1
 simp [de,b0,b1,b3,b4,b5,b6,x1,ov1,bx,s0,bx1,s1,f0,f1,e0,e1,g0,g1,g2,d0,d1,d2,hsl,cl,q1,-ai,-ac,-az,-aa,-ag,-a6,-aX,-su]
def M19:aP:=fun args=>evF (ax GC m9) 300 tp 4 args
theorem pO:cc Try.prog GC 44 M19:=cc.of_ev (E:=ax GC m9) (aw tG) rfl HK sP 4 fun _ _ h=>⟨300,h⟩
def HM (r:Option (List a8)):AV:=.tup [slA 4 ((r.getD []).map cF),.int .i64 (if r.isSome then 0 else 130)]
theorem zO (T:aR) (o:List Int) (i:Nat):((List.range (i+1)).map (wP T o))=(List.range i).map (wP T o)++[wP T o i]:=by
 rw [List.range_succ,List.map_append]; rfl
theorem sZ (T:aR) (o:List Int) (i:Nat):((List.range (i+1)).flatMap (uB T o))=(List.range i).flatMap (uB T o)++uB T o i:=by
 rw [List.range_succ,List.flatMap_append]; simp
theorem sY (T:aR) (o:List Int) (i:Nat):((List.range i).flatMap (uB T o)).length=2*i:=by
 induction i with
 | zero=>rfl
 | succ i ih=>rw [sZ,List.length_append,ih]; rfl
theorem t5 {T:aR} {chv ov:AV} {o:List Int} (hO:o∈aH T) (ho:SlA 1 (ak o) ov):∀(c i:Nat) (A:ab) (m:Nat),i+c=o.length->I19 A T chv ov ((List.range i).map (wP T o))->c<m ->
  ∃B,bU (evC (ax GC m9) 300 dt) dJ m (fj (.ptr 0 0 0) (.ptr 1 0 0) (.int .i64 (eM T)) (.ptr 2 0 0) ov (.int .i64 (o.length:Int)) (.int .i64 (i:Int))) A =
   some (.exit 0 ((fj (.ptr 0 0 0) (.ptr 1 0 0) (.int .i64 (eM T)) (.ptr 2 0 0) ov (.int .i64 (o.length:Int)) (.int .i64 (o.length:Int))).set 19 (.bool false)) B)/\I19 B T chv ov ((List.range o.length).map (wP T o)):=by
 obtain ⟨hv,hol,_,_⟩:=cz hO
 have hn4:=hv.2.2.2.1
 intro c
 induction c with
 | zero=>
  intro i A m hi hI hm
  obtain ⟨m,rfl⟩:∃j,m=j+1:=⟨m-1,by omega⟩
  obtain rfl:i=o.length:=by omega
  refine ⟨A,?_,hI⟩
  have b0:=bj o.length o.length .i64
  rw [decide_eq_false (by omega)] at b0
  rw [aI,oO]
  simp [dt,b0,-ai]
 | succ c ih=>
  intro i A m hi hI hm
  obtain ⟨m,rfl⟩:∃j,m=j+1:=⟨m-1,by omega⟩
  obtain ⟨B,h1,h2⟩:=AK hO ho hI (by simp; omega) (i:=i) (by omega)
  rw [<-zO] at h2
  obtain ⟨C,h3,h4⟩:=ih (i+1) B m (by omega) h2 (by omega)
  refine ⟨C,?_,h4⟩
  rw [aI,oO,h1]
  exact h3
theorem tZ {T:aR} {chv ov:AV} {o:List Int} (hO:o∈aH T) (hcv:SlA 2 (T.ch.map chA) chv) (ho:SlA 1 (ak o) ov) {l0:List a8} (hl0:l0.length<=50):∀(c i:Nat) (A:ab) (m:Nat),i+c=T.ch.length->I19 A T chv ov (l0++(List.range i).flatMap (uB T o))->c<m ->
  ∃B,bU (evC (ax GC m9) 300 de) dx m (eA (.ptr 1 0 0) (.int .i64 (eM T)) (.ptr 2 0 0) (fnL T) chv (.int .i64 (T.ch.length:Int)) (.int .i64 (i:Int))) A =
   some (.exit 2 ((eA (.ptr 1 0 0) (.int .i64 (eM T)) (.ptr 2 0 0) (fnL T) chv (.int .i64 (T.ch.length:Int)) (.int .i64 (T.ch.length:Int))).set 25 (.bool false)) B)/\I19 B T chv ov (l0++(List.range T.ch.length).flatMap (uB T o)):=by
 obtain ⟨hv,hol,_,_⟩:=cz hO
 have hn4:=hv.2.2.2.1
 intro c
 induction c with
 | zero=>
  intro i A m hi hI hm
  obtain ⟨m,rfl⟩:∃j,m=j+1:=⟨m-1,by omega⟩
  obtain rfl:i=T.ch.length:=by omega
  refine ⟨A,?_,hI⟩
  have b0:=bj T.ch.length T.ch.length .i64
  rw [decide_eq_false (by omega)] at b0
  rw [aI,kJ]
  simp [de,b0,-ai]
 | succ c ih=>
  intro i A m hi hI hm
  obtain ⟨m,rfl⟩:∃j,m=j+1:=⟨m-1,by omega⟩
  obtain ⟨B,h1,h2⟩:=qL hO hcv ho hI (by rw [List.length_append,sY]; omega) (i:=i) (by omega)
  rw [List.append_assoc,<-sZ] at h2
  obtain ⟨C,h3,h4⟩:=ih (i+1) B m (by omega) h2 (by omega)
  refine ⟨C,?_,h4⟩
  rw [aI,kJ,h1]
  exact h3
theorem te {T:aR} {chv ov:AV} {o:List Int} (hcv:SlA 2 (T.ch.map chA) chv) (hl:T.ch.length<=200) (ho:SlA 1 (ak o) ov):M19 [an T chv,ov]=some (HM (Bx T o)):=by
 have m14:=my hcv hl
 have m41:=vX ho (ll:=aH T)
 have ft:=fun A=>aT (T:=T) (fun A n=>hcv.frz (A:=A) n) A 3
 have fo:∀A n,frz A n ov=ov:=fun A n=>ho.frz n
 have fO:∀A,frz A 4 (lS (aH T))=lS (aH T):=fun A=>(be 1 _).frz 4
 have nO:bh 4 (lS (aH T))=true:=(be 1 _).noRef 4
 have lt:∀X,ac true 5 (.row 5 false [an T chv] :: X) (.ptr 0 0 0)=some (an T chv):=fun X=>rfl
 have lo:∀a X,ac false 1 (a :: .row 1 false [ov] :: X) (.ptr 1 0 0)=some ov:=fun a X=>by
  rcases ho with ⟨rfl,_⟩ | rfl <;> simp
 have fF:frz [.row 5 false [an T chv],.row 1 false [ov]] 4 (.func (.func 67) [] [.ptr 1 0 0])=fnO ov:=by
  have:cellsOf ov=[ov]:=by rcases ho with ⟨rfl,_⟩ | rfl <;> rfl
  have hs:ov.solid=true:=by rcases ho with ⟨rfl,_⟩ | rfl <;> rfl
  simp [frz,this,fo,fnO,hs,-cellsOf,-AV.solid]
 have bx0:aX 5 (an T chv) []=some (.ptr 0 0 0,[.row 5 false [an T chv]]):=rfl
 have bx1:aX 1 ov [.row 5 false [an T chv]]=some (.ptr 1 0 0,[.row 5 false [an T chv],.row 1 false [ov]]):=by
  rcases ho with ⟨rfl,_⟩ | rfl <;> rfl
 have bx2:∀t:AV,aX 1 .nilS [.row 5 false [t],.row 1 false [ov]]=some (.ptr 2 0 0,[.row 5 false [t],.row 1 false [ov],.row 1 false [.nilS]]):=fun t=>rfl
 unfold M19 Bx
 rw [jt _ _ rfl]
 by_cases hO:o∈aH T
 ·obtain ⟨hv,hol,_,_⟩:=cz hO
  have hn4:=hv.2.2.2.1
  have m41:=m41 (Nat.le_trans (g8 T) (by omega)) (fun l hl=>by have:=(cz hl).2.1; omega)
  rw [decide_eq_true hO] at m41
  rw [if_pos hO]
  have m44:=Ic chv hv
  have l4:∀X,aa 4 (.row 5 false [an T chv] :: X) (.ptr 0 0 0)=some (.ptr 0 0 4):=fun X=>rfl
  have e0:∀X,aa 0 (.row 5 false [an T chv] :: X) (.ptr 0 0 0)=some (.ptr 0 0 0):=fun X=>rfl
  obtain ⟨B1,h1,h2⟩:=t5 hO ho (chv:=chv) o.length 0 [.row 5 false [an T chv],.row 1 false [ov],.row 1 false [.nilS]] 300 (by omega) ⟨rfl,rfl,⟨.nilS,rfl,.inl ⟨rfl,rfl⟩⟩⟩ (by omega)
  have hB1:∀ {x},B1[0]?=x->B1[0]?=x:=id
  have l4b:aa 4 B1 (.ptr 0 0 0)=some (.ptr 0 0 4):=by simp [aa,h2.t]
  have l4c:ac false 1 B1 (.ptr 0 0 4)=some (.int .i64 T.blades):=by simp [ac,h2.t,an,bN]
  have l0b:aa 0 B1 (.ptr 0 0 0)=some (.ptr 0 0 0):=by simp [aa,h2.t]
  have l0c:ac false 1 B1 (.ptr 0 0 0)=some chv:=by simp [ac,h2.t,an,bN]
  have iv:fX false 3 1 ww (.int .i64 T.blades)=some (fnL T):=by
   rcases hv.2.2.2.2 with h | h <;> rw [h] <;> unfold fnL <;> rw [h] <;> rfl
  have hlen:=hcv.len
  rw [List.length_map] at hlen
  have hlo:=ho.len
  rw [aB] at hlo
  have h2':I19 B1 T chv ov ((List.range o.length).map (wP T o)++(List.range 0).flatMap (uB T o)):=by simpa using h2
  obtain ⟨B2,h3,h4⟩:=tZ hO hcv ho (l0:=(List.range o.length).map (wP T o)) (by simp; omega) T.ch.length 0 B1 300 (by omega) h2' (by omega)
  obtain ⟨v,g1,g2,g3⟩:=h4.g.frz
  have g2:=g2 0
  have g3:=g3 0
  obtain ⟨R,hR⟩:∃R,R=slA 4 ((bp T o).map cF):=⟨_,rfl⟩
  rw [show (List.range o.length).map (wP T o)++(List.range T.ch.length).flatMap (uB T o)=bp T o from rfl,<-hR] at g2
  have hRR:HM (some (bp T o))=.tup [R,.int .i64 0]:=by rw [hR]; rfl
  rw [hRR]
  have h1:bU (evC (ax GC m9) 300 dt) dJ 300 (fj (.ptr 0 0 0) (.ptr 1 0 0) (.int .i64 (eM T)) (.ptr 2 0 0) ov (.int .i64 (o.length:Int)) (.int .i64 0)) [.row 5 false [an T chv],.row 1 false [ov],.row 1 false [.nilS]]=_:=h1
  have h3:bU (evC (ax GC m9) 300 de) dx 300 (eA (.ptr 1 0 0) (.int .i64 (eM T)) (.ptr 2 0 0) (fnL T) chv (.int .i64 (T.ch.length:Int)) (.int .i64 0)) B1=_:=h3
  obtain ⟨t,htt⟩:∃t,t=an T chv:=⟨_,rfl⟩
  obtain ⟨F,hF⟩:∃F,F=fnL T:=⟨_,rfl⟩
  obtain ⟨Q,hQ⟩:∃F,F=lS (aH T):=⟨_,rfl⟩
  obtain ⟨w,hw⟩:∃F,F=eM T:=⟨_,rfl⟩
  rw [<-htt] at m14 ft lt fF bx0 bx1 m44 h1 ⊢
  rw [<-hF] at iv h3
  rw [<-hQ] at m14 m41 fO nO
  rw [<-hw] at m44 h1 h3
  have cb:∀x:AV,(cellsOf x).length=(cellsOf x).length:=fun _=>rfl
  have ct:(cellsOf t).length=5:=by rw [htt]; rfl
  have co:(cellsOf ov).length=1:=by rcases ho with ⟨rfl,_⟩ | rfl <;> rfl
  have fT:frz B2 4 (.tup [v,.int .i64 0])=.tup [R,.int .i64 0]:=by
   rw [<-g2]; rfl
  have rT:ba B2 4 (.tup [v,.int .i64 0])=true:=by
   have g3:ba B2 3 v=true:=g3
   simp [ba,g3]
  simp [tp,bx0,bx1,bx2,fT,rT,ct,co,lt,lo,m14,m41,m44,ft,fO,nO,fF,si h1,sh h3,l4b,l4c,l0b,l0c,iv,hlen,hlo,z7,g1,-aX,-ac,-aa,-aq,-frz,-cellsOf]
 ·have hll:(aH T).length<=256:=g8 T
  have m41:=m41 hll (fun l hl=>by have:=cz hl; have:=this.1.2.2.2.1; omega)
  rw [decide_eq_false hO] at m41
  rw [if_neg hO]
  obtain ⟨t,htt⟩:∃t,t=an T chv:=⟨_,rfl⟩
  obtain ⟨Q,hQ⟩:∃F,F=lS (aH T):=⟨_,rfl⟩
  rw [<-htt] at m14 ft lt fF bx0 bx1 ⊢
  rw [<-hQ] at m14 m41 fO nO
  have ct:(cellsOf t).length=5:=by rw [htt]; rfl
  have co:(cellsOf ov).length=1:=by rcases ho with ⟨rfl,_⟩ | rfl <;> rfl
  have fT:∀A,frz A 4 (.tup [.nilS,.int .i64 130])=.tup [.nilS,.int .i64 130]:=fun A=>rfl
  have rT:∀A,ba A 4 (.tup [.nilS,.int .i64 130])=true:=fun A=>rfl
  simp [tp,bx0,bx1,fT,rT,ct,co,lt,m14,m41,ft,fO,nO,fF,-aX,-ac,-aa,-aq,-frz,-cellsOf]
  rfl
end Clu
namespace Clu
open Go
open Cy (GC iA c9 bJ bM cm aJ bb aB a8 cF cr cw dS okA smM smT lvM lvT f6 fK iL ck nJ)
theorem vy {o:List Int} {i:Nat} (h:i<o.length):o.getD i 0∈o:=by
 rw [List.getD_eq_getElem?_getD,List.getElem?_eq_getElem h]; exact List.getElem_mem h
theorem uz {T:aR} {o:List Int} (hO:o∈aH T):dS (o.length:Int) (bp T o)/\∀x∈bp T o,x.inR:=by
 obtain ⟨hv,hol,_,_⟩:=cz hO
 have hbd:=gI hO
 have hw:=qB hv
 have hn1:=hv.2.2.1
 have hn4:=hv.2.2.2.1
 have htr:=hv.2.1.2.2
 have key:∀x∈bp T o,okA (o.length:Int) x:=fun x hx=>by
  rcases List.mem_append.1 hx with hx | hx
  ·obtain ⟨i,hi,rfl⟩:=List.mem_map.1 hx
   rw [List.mem_range] at hi
   have h1:=hbd _ (vy hi)
   have h2:0<=qP o i/\qP o i<=T.ch.length:=by
    unfold qP
    split
    ·rename_i h; exact hbd _ (vy h)
    ·omega
   refine ⟨?_,?_,?_,?_⟩ <;> simp only [wP] <;> (try split) <;> omega
  ·obtain ⟨i,hi,hx⟩:=List.mem_flatMap.1 hx
   rw [List.mem_range] at hi
   have hx0:T.ch.getD i (0,0)=T.ch[i]:=by rw [List.getD_eq_getElem?_getD,List.getElem?_eq_getElem hi]; rfl
   have hxv:=hv.1 _ (List.getElem_mem hi)
   rw [<-hx0] at hxv
   simp only [pV] at hxv
   have lb:=BX T o ((i:Int)+1)
   have l1:0<=(lkT T o ((i:Int)+1)).1/\(lkT T o ((i:Int)+1)).1<=o.length-1/\0<=(lkT T o ((i:Int)+1)).2.1/\(lkT T o ((i:Int)+1)).2.1<=o.length-1:=by
    unfold lkT
    split <;> simp only <;> omega
   simp only [uB,List.mem_cons,List.not_mem_nil,or_false] at hx
   rcases hx with rfl | rfl <;> refine ⟨?_,?_,?_,?_⟩ <;> simp only <;> omega
 refine ⟨⟨by omega,?_,key⟩,fun x hx=>?_⟩
 ·unfold bp
  rw [List.length_append,sY]
  simp; omega
 ·obtain ⟨h1,h2,h3,h4⟩:=key x hx
  refine ⟨?_,?_,?_,?_⟩ <;> unfold inI <;> omega
def gt (l:List a8):AV:=slA 4 (l.map cF)
theorem nh {T:aR} {o:List Int} (hO:o∈aH T):cr (gt (bp T o))=some (bp T o):=by
 obtain ⟨h1,h2⟩:=uz hO
 exact f6 (by have:=h1.2.1; omega) h2
theorem qq {T:aR} {o:List Int} (hO:o∈aH T):Bx T o=some (bp T o):=if_pos hO
def m7 (s:Option (Int × List Int)):Int:=match s with | none=>1000000 | some x=>x.1-1
def iJ (T:aR) (s:Option (Int × List Int)) (o:List Int):Option (Int × List Int):=
 match smM (o.length:Int) (bp T o) 1 (m7 s) with
 | some p=>some (p,o)
 | none=>s
def pC (T:aR):Option (Int × List Int):=(aH T).foldl (iJ T) none
structure cD where
 period:Int
 order:List Int
 starts:List Int
 proof:List Int
def nL (T:aR) (x:Int × List Int):cD:=
 ⟨x.1,x.2,(lvM (x.2.length:Int) (bp T x.2) x.1).1,if x.1 > 1 then (lvM (x.2.length:Int) (bp T x.2) (x.1-1)).2.1 else []⟩
def iK (T:aR):Option cD:=(pC T).map (nL T)
def uZ (s:cD):AV:=.agg [.int .i64 s.period,slA 1 (ak s.order),slA 1 (ak s.starts),slA 1 (ak s.proof)]
def IX:cD:=⟨0,[],[],[]⟩
def pB (r:Option cD):AV:=.tup [uZ (r.getD IX),.int .i64 (if r.isSome then 0 else 130)]
def sOk (T:aR) (s:Option (Int × List Int)):Prop:=∀x,s=some x->1<=x.1/\x.1<=1000000/\x.2∈aH T
theorem tI {n:Nat} {l:List a8} {hi r:Int} (hp:cw hi) (h:smM (n:Int) l 1 hi=some r):1<=r/\r<=hi/\ck n l r/\¬ Cy.Pos l r/\∀q,1<=q->q<r->Cy.Pos l q:=by
 unfold smM at h
 rw [if_pos hp,Int.toNat_natCast] at h
 exact (Cy.qH (n:=n) (l:=l) hp (hi-1+2).toNat 1 (by omega)).1 r h
theorem DM {n:Nat} {l:List a8} {hi:Int} (hp:cw hi) (hv:dS n l) (h:smM (n:Int) l 1 hi=none):∀q,1<=q->q<=hi->Cy.Pos l q:=by
 unfold smM at h
 rw [if_pos hp,Int.toNat_natCast] at h
 exact (Cy.qH (n:=n) (l:=l) hp (hi-1+2).toNat 1 (by omega)).2 h ⟨hv,by unfold cw; omega⟩
theorem rp {T:aR} {s:Option (Int × List Int)} (h:sOk T s) {o:List Int} (hO:o∈aH T):sOk T (iJ T s o):=by
 have hper:cw (m7 s):=by
  unfold m7 cw
  cases s with
  | none=>simp
  | some x=>have:=h x rfl; simp only; omega
 unfold iJ
 cases hm:smM (o.length:Int) (bp T o) 1 (m7 s) with
 | none=>exact h
 | some p=>
  obtain ⟨h1,h2,_⟩:=tI hper hm
  intro x hx
  injection hx with hx; subst hx
  exact ⟨h1,by unfold cw at hper; simp only; omega,hO⟩
theorem sT {T:aR} {o q:List Int}:iJ T (some (1,o)) q=some (1,o):=by
 unfold iJ
 have hp:cw 0:=by unfold cw; omega
 cases hm:smM (q.length:Int) (bp T q) 1 ((1:Int)-1) with
 | none=>rfl
 | some p=>
  obtain ⟨h1,h2,_⟩:=tI (hi:=0) hp hm
  omega
theorem vB {T:aR} {o:List Int}:∀l:List (List Int),l.foldl (iJ T) (some (1,o))=some (1,o)
 | []=>rfl
 | q :: l=>by rw [List.foldl_cons,sT,vB l]
theorem yy {T:aR}:∀(l:List (List Int)) (s:Option (Int × List Int)),(∀o∈l,o∈aH T)->sOk T s->sOk T (l.foldl (iJ T) s)
 | [],_,_,h=>h
 | q :: l,s,hl,h=>yy l _ (fun o ho=>hl o (by simp [ho])) (rp h (hl q (by simp)))
def wY:List (FuncId × aG):=[(43,cA 4 M14),(44,cA 4 M19),(45,aD 4 Cy.M23),(46,Cy.H14)]
@[simp] theorem KG:aC wY 43=some (cA 4 M14):=rfl
@[simp] theorem KF:aC wY 44=some (cA 4 M19):=rfl
@[simp] theorem KE:aC wY 45=some (aD 4 Cy.M23):=rfl
@[simp] theorem KD:aC wY 46=some Cy.H14:=rfl
theorem DG:∀f M,aC wY f=some M->aj Try.prog GC f M:=af (aj.of_pureF lO 4) (af (aj.of_pureF pO 4) (af (aj.of_pure Cy.FQ 4) (af Cy.lO aA)))
def zA:AV:=.agg [.int .i64 0,.nilS,.nilS,.nilS]
def bsA (s:Option (Int × List Int)):AV:=match s with | none=>.agg [.int .i64 0,.nilS,.nilS,.nilS] | some x=>.agg [.int .i64 x.1,slA 1 (ak x.2),.nilS,.nilS]
def bsV (T:aR) (s:Option (Int × List Int)):AV:=match s with | none=>.nilS | some x=>gt (bp T x.2)
def R22 (A:ab) (T:aR) (chv:AV) (s:Option (Int × List Int)):ab:=A++[.row 5 false [an T chv],.row 4 false [zA],.row 4 false [bsA s]]
theorem Mg (A:ab) (T:aR) (chv:AV) (s:Option (Int × List Int)):(R22 A T chv s)[A.length]?=some (.row 5 false [an T chv]):=by simp [R22]
theorem HY (A:ab) (T:aR) (chv:AV) (s:Option (Int × List Int)):(R22 A T chv s)[A.length+1]?=some (.row 4 false [zA]):=by simp [R22]
theorem zY (A:ab) (T:aR) (chv:AV) (s:Option (Int × List Int)):(R22 A T chv s)[A.length+2]?=some (.row 4 false [bsA s]):=by simp [R22]
theorem EY (A:ab) (T:aR) (chv:AV) (s s':Option (Int × List Int)):(R22 A T chv s).set (A.length+2) (.row 4 false [bsA s'])=R22 A T chv s':=by
 unfold R22
 rw [List.set_append_right _ _ (by omega),show A.length+2-A.length=2 by omega]
 rfl
def pOf (s:Option (Int × List Int)):Int:=match s with | none=>0 | some x=>x.1
theorem cB (a b:Int):ai .gtr (.int .i64 a) (.int .i64 b)=some (.bool (decide (a > b))):=by simp [ai]
theorem gY (xs:List Int):(slA 1 (ak xs)).solid=true/\cellsOf (slA 1 (ak xs))=[slA 1 (ak xs)]:=by
 cases xs <;> exact ⟨rfl,rfl⟩
theorem D4 {A:ab} {T:aR} {chv chF:AV} (hcv:SlA 2 (T.ch.map chA) chF) (hz:∀X,frz (A++X) 4 (an T chv)=an T chF) {s:Option (Int × List Int)} (hs:sOk T s) {i:Nat} (hi:i<(aH T).length) :
  (m7 s<1->∃d6 d7 d8:AV,run (ax GC wY) 300 [.code fU] (nC (.ptr A.length 0 0) (.ptr (A.length+1) 0 0) (.ptr (A.length+2) 0 0) (bsV T s) (lS (aH T)) (.int .i64 ((aH T).length:Int)) (.int .i64 (i:Int))) (R22 A T chv s) =
   some (.exit 0 [.undef,.ptr A.length 0 0,.ptr (A.length+1) 0 0,.undef,.ptr (A.length+2) 0 0,bsV T s,d6,d7,d8,.undef,.undef,lS (aH T),.int .i64 ((aH T).length:Int),.int .i64 (i:Int),.bool true,.bool true,.bool true,.undef,.undef,.undef] (R22 A T chv s))) /\
  (¬ m7 s<1->run (ax GC wY) 300 [.code fU] (nC (.ptr A.length 0 0) (.ptr (A.length+1) 0 0) (.ptr (A.length+2) 0 0) (bsV T s) (lS (aH T)) (.int .i64 ((aH T).length:Int)) (.int .i64 (i:Int))) (R22 A T chv s) =
   some (.normal (nC (.ptr A.length 0 0) (.ptr (A.length+1) 0 0) (.ptr (A.length+2) 0 0) (bsV T (iJ T s (aH T)[i])) (lS (aH T)) (.int .i64 ((aH T).length:Int)) (.int .i64 ((i+1:Nat):Int))) (R22 A T chv (iJ T s (aH T)[i])))):=by
 obtain ⟨o,ho⟩:∃o,o=(aH T)[i]:=⟨_,rfl⟩
 have hO:o∈aH T:=by rw [ho]; exact List.getElem_mem hi
 obtain ⟨hv,hol,_,_⟩:=cz hO
 have hhi:m7 s<=1000000/\0<=m7 s:=by
  unfold m7
  cases s with
  | none=>simp
  | some x=>have:=hs x rfl; simp only; omega
 have hb:=be 1 ((aH T).map fun l=>slA 1 (ak l))
 rw [show slA 1 ((aH T).map fun l=>slA 1 (ak l))=lS (aH T) from rfl] at hb
 obtain ⟨q1,q2⟩:=gY o
 have he:((aH T).map fun l=>slA 1 (ak l))[i]?=some (slA 1 (ak o)):=by simp [hi,ho]
 have x1:=fun A=>hb.index1 (A:=A) he q1 q2 .i64
 have hos:=be 1 (ak o)
 have hlo:=hos.len
 rw [aB] at hlo
 have m19:=te (T:=T) hcv (by have:=hv.2.2.2.1; omega) hos
 rw [qq hO] at m19
 have m19:M19 [an T chF,slA 1 (ak o)]=some (.tup [gt (bp T o),.int .i64 0]):=m19
 have m23:∀hi,Cy.M23 [.int .i64 (o.length:Int),gt (bp T o),.int .i64 1,.int .i64 hi]=some (smT (smM (o.length:Int) (bp T o) 1 hi)):=fun hi=>by
  simp only [Cy.M23,nh hO,Option.map_some]
 have m23:=m23 (m7 s)
 have hbs:iJ T s o=match smM (o.length:Int) (bp T o) 1 (m7 s) with | some p=>some (p,o) | none=>s:=rfl
 rw [<-ho,hbs]
 have b0:=bj i (aH T).length .i64
 rw [decide_eq_true hi] at b0
 have b1:=aY i (by have:=g8 T; omega)
 have b2:=cB (pOf s) 0
 have b3:ai .sub (.int .i64 (pOf s)) (.int .i64 1)=some (.int .i64 (pOf s-1)):=bV (by
  unfold pOf
  cases s with
  | none=>simp
  | some x=>have:=hs x rfl; simp only; omega)
 have hpp:(pOf s > 0->m7 s=pOf s-1)/\(¬ pOf s > 0->m7 s=1000000):=by
  unfold pOf m7
  cases s with
  | none=>simp
  | some x=>have:=hs x rfl; simp only; exact ⟨fun _=>trivial,fun h=>by omega⟩
 have b4:=ce (m7 s) 1
 have ft:frz (R22 A T chv s) 4 (an T chv)=an T chF:=hz _
 have fo:∀A n,frz A n (slA 1 (ak o))=slA 1 (ak o):=fun A n=>hos.frz n
 have fa:∀A n,frz A n (gt (bp T o))=gt (bp T o):=fun A n=>(be 4 _).frz n
 have na:bh 4 (gt (bp T o))=true:=(be 4 _).noRef 4
 have lt:ac true 5 (R22 A T chv s) (.ptr A.length 0 0)=some (an T chv):=by simp [ac,Mg,an]
 have f0:aa 0 (R22 A T chv s) (.ptr (A.length+2) 0 0)=some (.ptr (A.length+2) 0 0):=by simp [aa,zY]
 have l0:ac false 1 (R22 A T chv s) (.ptr (A.length+2) 0 0)=some (.int .i64 (pOf s)):=by
  cases s <;> simp [ac,zY,bsA,pOf,bN]
 have st:∀p,az 4 (R22 A T chv s) (.ptr (A.length+2) 0 0) (.agg [.int .i64 p,slA 1 (ak o),.nilS,.nilS])=some (R22 A T chv (some (p,o))):=fun p=>by
  rw [<-EY A T chv s (some (p,o))]
  simp [zY,az,bn,bsA]
 have fl:∀p,kw [.int .i64 0,.nilS,.nilS,.nilS] [(0,(1,.int .i64 p)),(1,(1,slA 1 (ak o)))]=some [.int .i64 p,slA 1 (ak o),.nilS,.nilS]:=fun p=>by
  have c1:cellsOf (AV.int .i64 p)=[.int .i64 p]:=rfl
  have c2:(AV.int .i64 p).solid=true:=rfl
  simp [kw,q1,q2,c1,c2,-cellsOf,-AV.solid]
 have fl2:∀x,kw [.int .i64 0,.nilS,.nilS,.nilS] x=kw [.int .i64 0,.nilS,.nilS,.nilS] x:=fun _=>rfl
 obtain ⟨W,hW⟩:∃W,W=slA 1 (ak o):=⟨_,rfl⟩
 rw [<-hW] at x1 hlo m19 fo st fl
 have hbv:∀p,bsV T (some (p,o))=gt (bp T o):=fun _=>rfl
 obtain ⟨sm,hsm⟩:∃sm,sm=smM (o.length:Int) (bp T o) 1 (m7 s):=⟨_,rfl⟩
 rw [<-hsm] at m23 ⊢
 obtain ⟨V,hV⟩:∃V,V=gt (bp T o):=⟨_,rfl⟩
 rw [<-hV] at m19 m23 fa na
 simp only [<-hV] at hbv
 obtain ⟨tF,htF⟩:∃t,t=an T chF:=⟨_,rfl⟩
 rw [<-htF] at m19 ft
 obtain ⟨t,ht⟩:∃t,t=an T chv:=⟨_,rfl⟩
 rw [<-ht] at ft lt
 obtain ⟨h,hh⟩:∃h,h=m7 s:=⟨_,rfl⟩
 rw [<-hh] at m23 b4 hpp ⊢
 obtain ⟨p,hp⟩:∃h,h=pOf s:=⟨_,rfl⟩
 rw [<-hp] at b2 b3 hpp l0
 obtain ⟨i1,hi1⟩:∃n,n=i+1:=⟨_,rfl⟩
 rw [<-hi1] at b1 ⊢
 obtain ⟨Q,hQ⟩:∃Q,Q=lS (aH T):=⟨_,rfl⟩
 rw [<-hQ] at x1 ⊢
 obtain ⟨A0,hA0⟩:∃X,X=R22 A T chv s:=⟨_,rfl⟩
 rw [<-hA0] at lt f0 l0 st ft ⊢
 obtain ⟨n0,hn0⟩:∃n,n=A.length:=⟨_,rfl⟩
 obtain ⟨n1,hn1⟩:∃n,n=A.length+1:=⟨_,rfl⟩
 obtain ⟨n2,hn2⟩:∃n,n=A.length+2:=⟨_,rfl⟩
 rw [<-hn2] at f0 l0 st
 rw [<-hn0] at lt
 rw [<-hn1,<-hn2,<-hn0]
 obtain ⟨U,hU⟩:∃U,U=bsV T s:=⟨_,rfl⟩
 rw [<-hU]
 refine ⟨fun h1=>⟨W,V,.int .i64 h,?_⟩,fun h1=>?_⟩
 ·have hp0:p > 0:=by
   by_cases hp0:p > 0
   ·exact hp0
   ·have:=hpp.2 hp0; omega
  rw [decide_eq_true hp0] at b2
  rw [<-hpp.1 hp0] at b3
  rw [decide_eq_true h1] at b4
  simp [fU,x1,lt,ft,fo,m19,f0,l0,b0,b2,b3,b4,-ai,-ac,-aa,-ag,-frz]
 ·rw [decide_eq_false h1] at b4
  by_cases hp0:p > 0
  ·rw [decide_eq_true hp0] at b2
   rw [<-hpp.1 hp0] at b3
   cases sm with
   | none=>
    simp only [<-hU,<-hA0]
    simp [fU,x1,lt,ft,fo,fa,aJ,na,smT,m19,m23,hlo,f0,l0,b0,b1,b2,b3,b4,-ai,-ac,-aa,-ag,-aq,-frz]
   | some r=>simp [fU,x1,lt,ft,fo,fa,aJ,na,smT,m19,m23,hlo,f0,l0,b0,b1,b2,b3,b4,st,fl,hbv,-ai,-ac,-az,-aa,-ag,-aq,-frz,-kw]
  ·rw [decide_eq_false hp0] at b2
   obtain rfl:=hpp.2 hp0
   cases sm with
   | none=>
    simp only [<-hU,<-hA0]
    simp [fU,x1,lt,ft,fo,fa,aJ,na,smT,m19,m23,hlo,f0,l0,b0,b1,b2,b4,-ai,-ac,-aa,-ag,-aq,-frz]
   | some r=>simp [fU,x1,lt,ft,fo,fa,aJ,na,smT,m19,m23,hlo,f0,l0,b0,b1,b2,b4,st,fl,hbv,-ai,-ac,-az,-aa,-ag,-aq,-frz,-kw]
end Clu
namespace Clu
open Go
open Cy (GC iA c9 bJ bM cm aJ bb aB a8 cF cr cw dS okA smM smT lvM lvT f6 fK iL ck nJ)
theorem Gu {A:ab} {T:aR} {chv chF:AV} (hcv:SlA 2 (T.ch.map chA) chF) (hz:∀X,frz (A++X) 4 (an T chv)=an T chF):∀(c i:Nat) (s:Option (Int × List Int)) (m:Nat),i+c=(aH T).length->sOk T s->c<m ->
  ∃d6 d7 d8 d13 d14 d15 d16:AV,bU (evC (ax GC wY) 300 fU) jZ m (nC (.ptr A.length 0 0) (.ptr (A.length+1) 0 0) (.ptr (A.length+2) 0 0) (bsV T s) (lS (aH T)) (.int .i64 ((aH T).length:Int)) (.int .i64 (i:Int))) (R22 A T chv s) =
   some (.exit 0 [.undef,.ptr A.length 0 0,.ptr (A.length+1) 0 0,.undef,.ptr (A.length+2) 0 0,bsV T (((aH T).drop i).foldl (iJ T) s),d6,d7,d8,.undef,.undef,lS (aH T),.int .i64 ((aH T).length:Int),d13,d14,d15,d16,.undef,.undef,.undef] (R22 A T chv (((aH T).drop i).foldl (iJ T) s))):=by
 intro c
 induction c with
 | zero=>
  intro i s m hi hs hm
  obtain ⟨m,rfl⟩:∃j,m=j+1:=⟨m-1,by omega⟩
  obtain rfl:i=(aH T).length:=by omega
  rw [List.drop_length]
  refine ⟨.undef,.undef,.undef,.int .i64 ((aH T).length:Int),.bool false,.undef,.undef,?_⟩
  have b0:=bj (aH T).length (aH T).length .i64
  rw [decide_eq_false (by omega)] at b0
  rw [aI,vL]
  simp [fU,b0,-ai]
 | succ c ih=>
  intro i s m hi hs hm
  obtain ⟨m,rfl⟩:∃j,m=j+1:=⟨m-1,by omega⟩
  have hil:i<(aH T).length:=by omega
  obtain ⟨r1,r2⟩:=D4 hcv hz hs hil
  rw [List.drop_eq_getElem_cons hil,List.foldl_cons]
  by_cases h1:m7 s<1
  ·obtain ⟨d6,d7,d8,hr⟩:=r1 h1
   have hone:∃o,s=some (1,o):=by
    cases s with
    | none=>unfold m7 at h1; simp at h1
    | some x=>
     have:=hs x rfl
     unfold m7 at h1
     simp only at h1
     obtain ⟨p,o⟩:=x
     exact ⟨o,by simp only at this h1; rw [show p=1 by omega]⟩
   obtain ⟨o,rfl⟩:=hone
   rw [sT,vB]
   refine ⟨d6,d7,d8,.int .i64 (i:Int),.bool true,.bool true,.bool true,?_⟩
   rw [aI,vL,hr]
  ·have hr:=r2 h1
   obtain ⟨d6,d7,d8,d13,d14,d15,d16,h2⟩:=ih (i+1) _ m (by omega) (rp hs (List.getElem_mem hil)) (by omega)
   refine ⟨d6,d7,d8,d13,d14,d15,d16,?_⟩
   rw [aI,vL,hr]
   exact h2
theorem EQ (T:aR):sOk T (pC T):=yy _ _ (fun _ h=>h) (fun x h=>by cases h)
def E22 (A:ab) (T:aR) (chv:AV) (r:Option cD):ab:=A++[.row 5 false [an T chv],.row 4 false [match r with | none=>zA | some s=>uZ s],.row 4 false [match r with | none=>zA | some s=>uZ s]]
def H22:aG:=fun _=>bS (ax GC wY) 300 Ak
theorem Ir (h:aU) {A:ab} {T:aR} {chv chF:AV} (hcv:SlA 2 (T.ch.map chA) chF) (hz:∀X,frz (A++X) 4 (an T chv)=an T chF) (hl:T.ch.length<=200):H22 h [an T chv] A=some (pB (iK T),E22 A T chv (iK T)):=by
 have m14:=my hcv hl
 have hlen:aq (lS (aH T))=some (.int .i64 ((aH T).length:Int)):=by
  have:=(be 1 ((aH T).map fun l=>slA 1 (ak l))).len
  rwa [List.length_map] at this
 obtain ⟨d6,d7,d8,d13,d14,d15,d16,lp⟩:=Gu hcv hz (aH T).length 0 none 300 (by omega) (fun x h=>by cases h) (by have:=g8 T; omega)
 rw [List.drop_zero,show (aH T).foldl (iJ T) none=pC T from rfl] at lp
 have hok:=EQ T
 obtain ⟨A0,hA0⟩:∃X,X=A++[.row 5 false [an T chv],.row 4 false [zA],.row 4 false [zA]]:=⟨_,rfl⟩
 rw [show R22 A T chv none=A0 from hA0.symm,show bsV T none=.nilS from rfl,show ((0:Nat):Int)=0 from rfl] at lp
 have lt:ac true 5 A0 (.ptr A.length 0 0)=some (an T chv):=by rw [hA0]; simp [ac,an]
 have ft:frz A0 4 (an T chv)=an T chF:=by rw [hA0]; exact hz _
 have bx0:aX 5 (an T chv) A=some (.ptr A.length 0 0,A++[.row 5 false [an T chv]]):=rfl
 have ct:(cellsOf (an T chv)).length=5:=rfl
 have bx1:aX 4 (.agg [.int .i64 0,.nilS,.nilS,.nilS]) (A++[.row 5 false [an T chv]])=some (.ptr (A.length+1) 0 0,A++[.row 5 false [an T chv],.row 4 false [zA]]):=by simp [aX,zA]
 have bx2:aX 4 (.agg [.int .i64 0,.nilS,.nilS,.nilS]) (A++[.row 5 false [an T chv],.row 4 false [zA]])=some (.ptr (A.length+2) 0 0,A0):=by rw [hA0]; simp [aX,zA]
 have hbm:iK T=(pC T).map (nL T):=rfl
 rw [hbm]
 obtain ⟨s,hs⟩:∃s,s=pC T:=⟨_,rfl⟩
 rw [<-hs] at lp hok ⊢
 obtain ⟨X1,hX1⟩:∃X,X=A++[Ent.row 5 false [an T chv]]:=⟨_,rfl⟩
 obtain ⟨X2,hX2⟩:∃X,X=A++[Ent.row 5 false [an T chv],.row 4 false [zA]]:=⟨_,rfl⟩
 rw [<-hX1] at bx0 bx1
 rw [<-hX2] at bx1 bx2
 obtain ⟨t,ht⟩:∃t,t=an T chv:=⟨_,rfl⟩
 obtain ⟨tF,htF⟩:∃t,t=an T chF:=⟨_,rfl⟩
 obtain ⟨Q,hQ⟩:∃Q,Q=lS (aH T):=⟨_,rfl⟩
 obtain ⟨L,hL⟩:∃Q,Q=((aH T).length:Int):=⟨_,rfl⟩
 have f0:aa 0 (R22 A T chv s) (.ptr (A.length+2) 0 0)=some (.ptr (A.length+2) 0 0):=by simp [aa,zY]
 have l0:ac false 1 (R22 A T chv s) (.ptr (A.length+2) 0 0)=some (.int .i64 (pOf s)):=by cases s <;> simp [ac,zY,bsA,pOf,bN]
 rw [<-htF] at m14 ft
 rw [<-ht] at lt bx0 ct ft ⊢
 rw [<-hQ] at m14 hlen lp
 rw [<-hL] at hlen lp
 unfold H22
 rw [a9 _ _ rfl]
 cases s with
 | none=>
  have b1:=br 0 0
  rw [decide_eq_true rfl] at b1
  have e1:E22 A T chv none=R22 A T chv none:=rfl
  have st:az 4 (R22 A T chv none) (.ptr (A.length+1) 0 0) (.agg [.int .i64 0,.nilS,.nilS,.nilS])=some (R22 A T chv none):=by
   have:(R22 A T chv none).set (A.length+1) (.row 4 false [zA])=R22 A T chv none:=by
    unfold R22
    rw [List.set_append_right _ _ (by omega),show A.length+1-A.length=1 by omega]
    rfl
   conv=>rhs; rw [<-this]
   simp [az,HY,bn,zA]
  have l4:ac true 4 (R22 A T chv none) (.ptr (A.length+1) 0 0)=some (.agg [.int .i64 0,.nilS,.nilS,.nilS]):=by simp [ac,HY,zA]
  rw [show (Option.map (nL T) none)=none from rfl,e1]
  rw [show pB none=.tup [.agg [.int .i64 0,.nilS,.nilS,.nilS],.int .i64 130] from rfl]
  obtain ⟨A1,hA1⟩:∃X,X=R22 A T chv none:=⟨_,rfl⟩
  rw [<-hA1] at lp f0 l0 st l4 ⊢
  have l0:ac false 1 A1 (.ptr (A.length+2) 0 0)=some (.int .i64 0):=l0
  obtain ⟨n0,hn0⟩:∃n,n=A.length:=⟨_,rfl⟩
  obtain ⟨n1,hn1⟩:∃n,n=A.length+1:=⟨_,rfl⟩
  obtain ⟨n2,hn2⟩:∃n,n=A.length+2:=⟨_,rfl⟩
  rw [<-hn2] at lp f0 l0 bx2
  rw [<-hn1] at lp st l4 bx1
  rw [<-hn0] at lp lt bx0
  simp [Ak,bx0,bx1,bx2,ct,lt,m14,ft,hlen,yl lp,f0,l0,b1,st,l4,-aX,-ac,-az,-aa,-aq,-frz,-cellsOf,-ai]
 | some x=>
  obtain ⟨p,o⟩:=x
  obtain ⟨hp1,hp2,hO⟩:=hok _ rfl
  simp only at hp1 hp2 hO
  have hos:=be 1 (ak o)
  have hlo:=hos.len
  rw [aB] at hlo
  obtain ⟨q1,q2⟩:=gY o
  have hv:=nh hO
  have h14:=fun A=>Cy.C4 (fun _ _ _=>none) (A:=A) (show frz A 4 (gt (bp T o))=gt (bp T o) from (be 4 ((bp T o).map cF)).frz 4) hv (o.length:Int)
  obtain ⟨st,hst⟩:∃st,st=(lvM (o.length:Int) (bp T o) p).1:=⟨_,rfl⟩
  have hl1:lvT (lvM (o.length:Int) (bp T o) p)=.tup [slA 1 (ak st),slA 1 (ak (lvM (o.length:Int) (bp T o) p).2.1),.bool (lvM (o.length:Int) (bp T o) p).2.2]:=by rw [hst]; rfl
  obtain ⟨s1,s2⟩:=gY st
  obtain ⟨RA,hRA⟩:∃R:List Int->List Int->ab,∀a b,R a b=A++[.row 5 false [an T chv],.row 4 false [zA],.row 4 false [.agg [.int .i64 p,slA 1 (ak o),slA 1 (ak a),slA 1 (ak b)]]]:=⟨_,fun _ _=>rfl⟩
  have hR0:R22 A T chv (some (p,o))=RA [] []:=by rw [hRA]; rfl
  rw [hR0] at lp f0 l0
  have l0:ac false 1 (RA [] []) (.ptr (A.length+2) 0 0)=some (.int .i64 p):=l0
  have ra1:∀a b,(RA a b)[A.length+1]?=some (.row 4 false [zA]):=fun a b=>by rw [hRA]; simp
  have ra2:∀a b,(RA a b)[A.length+2]?=some (.row 4 false [.agg [.int .i64 p,slA 1 (ak o),slA 1 (ak a),slA 1 (ak b)]]):=fun a b=>by rw [hRA]; simp
  have fa:∀j a b,j<4->aa j (RA a b) (.ptr (A.length+2) 0 0)=some (.ptr (A.length+2) 0 j):=fun j a b hj=>by simp [aa,ra2,hj]
  have la0:∀a b,ac false 1 (RA a b) (.ptr (A.length+2) 0 0)=some (.int .i64 p):=fun a b=>by simp [ac,ra2,bN]
  have la1:∀a b,ac false 1 (RA a b) (.ptr (A.length+2) 0 1)=some (slA 1 (ak o)):=fun a b=>by simp [ac,ra2,bN]
  have lall:∀a b,ac true 4 (RA a b) (.ptr (A.length+2) 0 0)=some (.agg [.int .i64 p,slA 1 (ak o),slA 1 (ak a),slA 1 (ak b)]):=fun a b=>by simp [ac,ra2]
  have rset:∀a b a' b',(RA a b).set (A.length+2) (.row 4 false [.agg [.int .i64 p,slA 1 (ak o),slA 1 (ak a'),slA 1 (ak b')]])=RA a' b':=fun a b a' b'=>by
   rw [hRA,hRA,List.set_append_right _ _ (by omega),show A.length+2-A.length=2 by omega]
   rfl
  have st2:∀a,az 1 (RA [] []) (.ptr (A.length+2) 0 2) (slA 1 (ak a))=some (RA a []):=fun a=>by
   obtain ⟨z1,z2⟩:=gY a
   rw [<-rset [] [] a []]
   simp [az,ra2,bn,z1,z2,-cellsOf,-AV.solid]
  have st3:∀a b,az 1 (RA a []) (.ptr (A.length+2) 0 3) (slA 1 (ak b))=some (RA a b):=fun a b=>by
   obtain ⟨z1,z2⟩:=gY b
   rw [<-rset a [] a b]
   simp [az,ra2,bn,z1,z2,-cellsOf,-AV.solid]
  obtain ⟨RB,hRB⟩:∃R:List Int->List Int->ab,∀a b,R a b=E22 A T chv (some ⟨p,o,a,b⟩):=⟨_,fun _ _=>rfl⟩
  have stB:∀a b,az 4 (RA a b) (.ptr (A.length+1) 0 0) (.agg [.int .i64 p,slA 1 (ak o),slA 1 (ak a),slA 1 (ak b)])=some (RB a b):=fun a b=>by
   have:(RA a b).set (A.length+1) (.row 4 false [.agg [.int .i64 p,slA 1 (ak o),slA 1 (ak a),slA 1 (ak b)]])=RB a b:=by
    rw [hRA,hRB,List.set_append_right _ _ (by omega),show A.length+1-A.length=1 by omega]
    rfl
   rw [<-this]
   simp [az,ra1,bn,zA]
  have lB:∀a b,ac true 4 (RB a b) (.ptr (A.length+1) 0 0)=some (.agg [.int .i64 p,slA 1 (ak o),slA 1 (ak a),slA 1 (ak b)]):=fun a b=>by
   have:(RB a b)[A.length+1]?=some (.row 4 false [.agg [.int .i64 p,slA 1 (ak o),slA 1 (ak a),slA 1 (ak b)]]):=by rw [hRB]; simp [E22,uZ]
   simp [ac,this]
  have b1:=br p 0
  rw [decide_eq_false (by omega)] at b1
  have b2:=cB p 1
  have b3:ai .sub (.int .i64 p) (.int .i64 1)=some (.int .i64 (p-1)):=bV (by omega)
  have hsb:∀pr,nL T (p,o)=⟨p,o,st,pr⟩↔pr=(if p > 1 then (lvM (o.length:Int) (bp T o) (p-1)).2.1 else []):=fun pr=>by
   unfold nL
   simp only [<-hst]
   constructor
   ·intro h; injection h with _ _ _ h; exact h.symm
   ·intro h; rw [h]
  have lp:bU (evC (ax GC wY) 300 fU) jZ 300 (nC (.ptr A.length 0 0) (.ptr (A.length+1) 0 0) (.ptr (A.length+2) 0 0) .nilS Q (.int .i64 L) (.int .i64 0)) A0 =
    some (.exit 0 [.undef,.ptr A.length 0 0,.ptr (A.length+1) 0 0,.undef,.ptr (A.length+2) 0 0,gt (bp T o),d6,d7,d8,.undef,.undef,Q,.int .i64 L,d13,d14,d15,d16,.undef,.undef,.undef] (RA [] [])):=lp
  have h1:=h14 (RA [] []) p
  rw [hl1] at h1
  have h2:=h14 (RA st []) (p-1)
  obtain ⟨pr,hpr⟩:∃pr,pr=(lvM (o.length:Int) (bp T o) (p-1)).2.1:=⟨_,rfl⟩
  rw [show lvT (lvM (o.length:Int) (bp T o) (p-1))=.tup [slA 1 (ak (lvM (o.length:Int) (bp T o) (p-1)).1),slA 1 (ak pr),.bool (lvM (o.length:Int) (bp T o) (p-1)).2.2] by rw [hpr]; rfl] at h2
  have k5:=st2 st
  have k7:=la0 st []
  have k8:=la1 st []
  have k9:=la1 [] []
  have f1:=fun j=>fa j [] []
  have f2:=fun j=>fa j st []
  obtain ⟨n0,hn0⟩:∃n,n=A.length:=⟨_,rfl⟩
  obtain ⟨n1,hn1⟩:∃n,n=A.length+1:=⟨_,rfl⟩
  obtain ⟨n2,hn2⟩:∃n,n=A.length+2:=⟨_,rfl⟩
  rw [<-hn2] at lp f0 l0 bx2 k5 k7 k8 k9
  simp only [<-hn2] at f1 f2
  rw [<-hn1] at lp bx1
  rw [<-hn0] at lp lt bx0
  obtain ⟨W,hW⟩:∃W,W=slA 1 (ak o):=⟨_,rfl⟩
  obtain ⟨V,hV⟩:∃V,V=gt (bp T o):=⟨_,rfl⟩
  rw [<-hV] at lp h1 h2
  obtain ⟨B0,hB0⟩:∃A,A=RA [] []:=⟨_,rfl⟩
  rw [<-hB0] at lp f0 l0 k5 k9 h1
  simp only [<-hB0] at f1
  obtain ⟨S1,hS1⟩:∃W,W=slA 1 (ak st):=⟨_,rfl⟩
  by_cases hp:p > 1
  ·rw [decide_eq_true hp] at b2
   have hsc:(Option.map (nL T) (some (p,o)))=some ⟨p,o,st,pr⟩:=by
    rw [Option.map_some,(hsb pr).2 (by rw [if_pos hp]; exact hpr)]
   rw [hsc,<-hRB]
   rw [show pB (some ⟨p,o,st,pr⟩)=.tup [.agg [.int .i64 p,slA 1 (ak o),slA 1 (ak st),slA 1 (ak pr)],.int .i64 0] from rfl]
   have k1:=lall st pr
   have k2:=stB st pr
   have k3:=lB st pr
   have k6:=st3 st pr
   rw [<-hn2] at k1 k6
   rw [<-hn1] at k2 k3
   obtain ⟨B1,hB1⟩:∃A,A=RA st []:=⟨_,rfl⟩
   rw [<-hB1] at k5 k6 k7 k8 h2
   simp only [<-hB1] at f2
   obtain ⟨B2,hB2⟩:∃A,A=RA st pr:=⟨_,rfl⟩
   rw [<-hB2] at k1 k2 k6
   obtain ⟨B3,hB3⟩:∃A,A=RB st pr:=⟨_,rfl⟩
   rw [<-hB3] at k2 k3 ⊢
   obtain ⟨S2,hS2⟩:∃W,W=slA 1 (ak pr):=⟨_,rfl⟩
   rw [<-hW] at k1 k2 k3 k8 k9 hlo ⊢
   rw [<-hS1] at h1 k1 k2 k3 k5 ⊢
   rw [<-hS2] at h2 k1 k2 k3 k6 ⊢
   obtain ⟨p1,hp1⟩:∃q,q=p-1:=⟨_,rfl⟩
   rw [<-hp1] at h2 b3
   simp [Ak,bx0,bx1,bx2,ct,lt,m14,ft,hlen,yl lp,f0,f1,f2,l0,b1,b2,b3,hlo,h1,h2,k1,k2,k3,k5,k6,k7,k8,k9,-aX,-ac,-az,-aa,-aq,-frz,-cellsOf,-ai]
  ·rw [decide_eq_false hp] at b2
   have hsc:(Option.map (nL T) (some (p,o)))=some ⟨p,o,st,[]⟩:=by
    rw [Option.map_some,(hsb []).2 (by rw [if_neg hp])]
   rw [hsc,<-hRB]
   rw [show pB (some ⟨p,o,st,[]⟩)=.tup [.agg [.int .i64 p,slA 1 (ak o),slA 1 (ak st),slA 1 (ak [])],.int .i64 0] from rfl]
   have k1:=lall st []
   have k2:=stB st []
   have k3:=lB st []
   rw [<-hn2] at k1
   rw [<-hn1] at k2 k3
   obtain ⟨B1,hB1⟩:∃A,A=RA st []:=⟨_,rfl⟩
   rw [<-hB1] at k1 k2 k5 k7
   simp only [<-hB1] at f2
   obtain ⟨B3,hB3⟩:∃A,A=RB st []:=⟨_,rfl⟩
   rw [<-hB3] at k2 k3 ⊢
   obtain ⟨S2,hS2⟩:∃W,W=slA 1 (ak []):=⟨_,rfl⟩
   rw [<-hW] at k1 k2 k3 k9 hlo ⊢
   rw [<-hS1] at h1 k1 k2 k3 k5 ⊢
   rw [<-hS2] at k1 k2 k3 ⊢
   simp [Ak,bx0,bx1,bx2,ct,lt,m14,ft,hlen,yl lp,f0,f1,f2,l0,b1,b2,hlo,h1,k1,k2,k3,k5,k7,k9,-aX,-ac,-az,-aa,-aq,-frz,-cellsOf,-ai]
def M22:aP:=fun args=>evP (ax GC wY) 300 Ak 4 args
theorem rP:au Try.prog GC 23 M22:=au.of_ev (E:=ax GC wY) (aw DG) rfl LM zd 4 fun _ _ h=>⟨300,h⟩
theorem z9 {T:aR} {chv:AV} (hcv:SlA 2 (T.ch.map chA) chv) (hl:T.ch.length<=200):M22 [an T chv]=some (pB (iK T)):=by
 have h:=Ir (fun _ _ _=>none) (A:=[]) hcv (fun X=>aT (T:=T) (fun A n=>hcv.frz (A:=A) n) _ 3) hl
 unfold H22 at h
 unfold M22 evP
 rw [h,Option.map_some]
 congr 1
 have k1:=fun A o=>(be 1 (ak o)).frz (A:=A) 2
 unfold pB
 simp only
 simp [frz,uZ,k1]
end Clu
namespace Clu
open Go
open Cy (GC iA c9 bJ bM cm aJ bb aB a8 cF cr cw dS okA smM smT lvM lvT f6 fK iL ck nJ)
structure rA (s:cD) (ov sv pv:AV):Prop where
 o:SlA 1 (ak s.order) ov
 st:SlA 1 (ak s.starts) sv
 pr:SlA 1 (ak s.proof) pv
 per:inI s.period
 ol:s.order.length<=9223372036854775807
 stl:s.starts.length<=9223372036854775807
 sti:∀z∈s.starts,inI z
 prl:s.proof.length<=9223372036854775807
 pri:∀z∈s.proof,inI z
def Chk (T:aR) (s:cD):Prop:=s.order∈aH T/\(1<=s.period/\s.period<=1000000)/\fK (s.order.length:Int) (bp T s.order) s.period s.starts /\
 (if s.period=1 then s.proof=[] else iL (s.order.length:Int) (bp T s.order) (s.period-1) s.proof)
def wz:List (FuncId × aG):=[(44,cA 4 M19),(77,aD 4 Cy.M19),(78,aD 4 Cy.M21)]
@[simp] theorem Kn:aC wz 44=some (cA 4 M19):=rfl
@[simp] theorem Km:aC wz 77=some (aD 4 Cy.M19):=rfl
@[simp] theorem Kj:aC wz 78=some (aD 4 Cy.M21):=rfl
theorem tE:∀f M,aC wz f=some M->aj Try.prog GC f M:=af (aj.of_pureF pO 4) (af (aj.of_pure Cy.pO 4) (af (aj.of_pure Cy.FR 4) aA))
def M26:aP:=fun args=>evP (ax GC wz) 0 r6 4 args
theorem xu:au Try.prog GC 48 M26:=au.of_ev (E:=ax GC wz) (aw tE) rfl HJ sO 4 fun _ _ h=>⟨0,h⟩
open Classical in
theorem qw {T:aR} {chv:AV} (hcv:SlA 2 (T.ch.map chA) chv) (hl:T.ch.length<=200) {s:cD} {ov sv pv:AV} (hs:rA s ov sv pv) :
  M26 [an T chv,.agg [.int .i64 s.period,ov,sv,pv]]=some (.bool (decide (Chk T s))):=by
 have m19:=te hcv hl hs.o
 have ft:=fun A=>aT (T:=T) (fun A n=>hcv.frz (A:=A) n) A 3
 have fo:∀A n,frz A n ov=ov:=fun A n=>hs.o.frz n
 have fs:∀A n,frz A n sv=sv:=fun A n=>hs.st.frz n
 have fp:∀A n,frz A n pv=pv:=fun A n=>hs.pr.frz n
 have hlo:=hs.o.len
 rw [aB] at hlo
 have hlp:=hs.pr.len
 rw [aB] at hlp
 have iv1:mh sv=some s.starts:=sd hs.st hs.stl hs.sti
 have iv2:mh pv=some s.proof:=sd hs.pr hs.prl hs.pri
 obtain ⟨p,o,st,pr⟩:=s
 simp only at m19 hlo hlp iv1 iv2
 have hper:=hs.per
 simp only [inI] at hper
 have q1:ov.solid=true/\cellsOf ov=[ov]:=by rcases hs.o with ⟨rfl,_⟩ | rfl <;> exact ⟨rfl,rfl⟩
 have q2:sv.solid=true/\cellsOf sv=[sv]:=by rcases hs.st with ⟨rfl,_⟩ | rfl <;> exact ⟨rfl,rfl⟩
 have q3:pv.solid=true/\cellsOf pv=[pv]:=by rcases hs.pr with ⟨rfl,_⟩ | rfl <;> exact ⟨rfl,rfl⟩
 have bx0:aX 5 (an T chv) []=some (.ptr 0 0 0,[.row 5 false [an T chv]]):=rfl
 have bx1:∀t,aX 4 (.agg [.int .i64 p,ov,sv,pv]) [.row 5 false [t]]=some (.ptr 1 0 0,[.row 5 false [t],.row 4 false [.agg [.int .i64 p,ov,sv,pv]]]):=fun t=>rfl
 have ct:(cellsOf (an T chv)).length=5:=rfl
 have ca:(cellsOf (.agg [.int .i64 p,ov,sv,pv])).length=4:=rfl
 obtain ⟨A0,hA0⟩:∃A:ab,A=[.row 5 false [an T chv],.row 4 false [.agg [.int .i64 p,ov,sv,pv]]]:=⟨_,rfl⟩
 have lt:ac true 5 A0 (.ptr 0 0 0)=some (an T chv):=by rw [hA0]; rfl
 have fa:∀j,j<4->aa j A0 (.ptr 1 0 0)=some (.ptr 1 0 j):=fun j hj=>by rw [hA0]; simp [aa,hj]
 have l0:ac false 1 A0 (.ptr 1 0 0)=some (.int .i64 p):=by rw [hA0]; rfl
 have l1:ac false 1 A0 (.ptr 1 0 1)=some ov:=by rw [hA0]; rfl
 have l2:ac false 1 A0 (.ptr 1 0 2)=some sv:=by rw [hA0]; rfl
 have l3:ac false 1 A0 (.ptr 1 0 3)=some pv:=by rw [hA0]; rfl
 obtain ⟨t,ht⟩:∃t,t=an T chv:=⟨_,rfl⟩
 rw [<-ht] at m19 ft bx0 ct lt hA0 ⊢
 have bx1:=bx1 t
 rw [<-hA0] at bx1
 unfold M26
 rw [aK _ _ rfl]
 by_cases hO:o∈aH T
 rotate_left
 ·rw [decide_eq_false (fun h=>hO h.1)]
  have e0:Bx T o=none:=if_neg hO
  rw [e0] at m19
  have m19:M19 [t,ov]=some (.tup [.nilS,.int .i64 130]):=m19
  have b1:=cM 130 0
  rw [decide_eq_true (by omega)] at b1
  simp [r6,bx0,bx1,ct,ca,lt,m19,ft,fo,hlo,fa,l1,b1,-aX,-ac,-aa,-aq,-frz,-cellsOf,-ai,bb]
 rw [qq hO] at m19
 have m19:M19 [t,ov]=some (.tup [gt (bp T o),.int .i64 0]):=m19
 have b1:=cM 0 0
 rw [decide_eq_false (by omega)] at b1
 have b2:=ce p 1
 by_cases hp1:p<1
 ·rw [decide_eq_false (fun h=>by have:=h.2.1.1; simp only at this; omega)]
  rw [decide_eq_true hp1] at b2
  simp [r6,bx0,bx1,ct,ca,lt,m19,ft,fo,hlo,fa,l0,l1,b1,b2,-aX,-ac,-aa,-aq,-frz,-cellsOf,-ai,bb]
 rw [decide_eq_false hp1] at b2
 have b3:=cB p 1000000
 by_cases hp2:p > 1000000
 ·rw [decide_eq_false (fun h=>by have:=h.2.1.2; simp only at this; omega)]
  rw [decide_eq_true hp2] at b3
  simp [r6,bx0,bx1,ct,ca,lt,m19,ft,fo,hlo,fa,l0,l1,b1,b2,b3,-aX,-ac,-aa,-aq,-frz,-cellsOf,-ai,bb]
 rw [decide_eq_false hp2] at b3
 have mv:Cy.M19 [.int .i64 (o.length:Int),gt (bp T o),.int .i64 p,sv]=some (.bool (decide (fK (o.length:Int) (bp T o) p st))):=by
  simp only [Cy.M19,nh hO,iv1]
 have mr:∀p,Cy.M21 [.int .i64 (o.length:Int),gt (bp T o),.int .i64 p,pv]=some (.bool (decide (iL (o.length:Int) (bp T o) p pr))):=fun p=>by
  simp only [Cy.M21,nh hO,iv2]
 have fa':∀A n,frz A n (gt (bp T o))=gt (bp T o):=fun A n=>(be 4 _).frz n
 obtain ⟨V,hV⟩:∃V,V=gt (bp T o):=⟨_,rfl⟩
 rw [<-hV] at m19 mv fa'
 by_cases hver:fK (o.length:Int) (bp T o) p st
 rotate_left
 ·rw [decide_eq_false hver] at mv
  rw [decide_eq_false (fun h=>hver h.2.2.1)]
  simp [r6,bx0,bx1,ct,ca,lt,m19,ft,fo,fs,fa',aJ,mv,hlo,fa,l0,l1,l2,b1,b2,b3,-aX,-ac,-aa,-aq,-frz,-cellsOf,-ai,bb]
 rw [decide_eq_true hver] at mv
 have b4:=br p 1
 by_cases hp:p=1
 ·rw [decide_eq_true hp] at b4
  have b5:ai .eql (.int .i64 (pr.length:Int)) (.int .i64 0)=some (.bool (decide (pr=[]))):=by
   rw [br]
   congr 2
   exact decide_eq_decide.2 ⟨fun h=>List.length_eq_zero_iff.1 (by omega),fun h=>by rw [h]; rfl⟩
  have hc:Chk T ⟨p,o,st,pr⟩↔pr=[]:=by
   constructor
   ·intro h
    have:=h.2.2.2
    simp only at this
    rwa [if_pos hp] at this
   ·intro h
    refine ⟨hO,⟨by simp only; omega,by simp only; omega⟩,hver,?_⟩
    simp only
    rw [if_pos hp]; exact h
  rw [decide_eq_decide.2 hc]
  obtain ⟨d,hd⟩:∃d,d=decide (pr=[]):=⟨_,rfl⟩
  rw [<-hd] at b5 ⊢
  simp [r6,bx0,bx1,ct,ca,lt,m19,ft,fo,fs,fa',aJ,mv,hlo,hlp,fa,l0,l1,l2,l3,b1,b2,b3,b4,b5,bb,-aX,-ac,-aa,-aq,-frz,-cellsOf,-ai]
 ·rw [decide_eq_false hp] at b4
  have b6:ai .sub (.int .i64 p) (.int .i64 1)=some (.int .i64 (p-1)):=bV (by omega)
  have hc:Chk T ⟨p,o,st,pr⟩↔iL (o.length:Int) (bp T o) (p-1) pr:=by
   constructor
   ·intro h
    have:=h.2.2.2
    simp only at this
    rwa [if_neg hp] at this
   ·intro h
    refine ⟨hO,⟨by simp only; omega,by simp only; omega⟩,hver,?_⟩
    simp only
    rw [if_neg hp]; exact h
  rw [decide_eq_decide.2 hc]
  have mr:=mr (p-1)
  rw [<-hV] at mr
  obtain ⟨d,hd⟩:∃d,d=decide (iL (o.length:Int) (bp T o) (p-1) pr):=⟨_,rfl⟩
  rw [<-hd] at mr ⊢
  obtain ⟨p1,hp1'⟩:∃q,q=p-1:=⟨_,rfl⟩
  rw [<-hp1'] at mr b6
  simp [r6,bx0,bx1,ct,ca,lt,m19,ft,fo,fs,fp,fa',aJ,mv,mr,hlo,fa,l0,l1,l2,l3,b1,b2,b3,b4,b6,bb,-aX,-ac,-aa,-aq,-frz,-cellsOf,-ai]
end Clu
namespace Cy
open Go
theorem qS {n:Int} {l:List a8} {p:Int} (hr:ck n l p):(lvM n l p).2.2=true↔¬ Pos l p:=by
 obtain ⟨m,rfl⟩:∃m:Nat,n=(m:Int):=⟨n.toNat,by have:=hr.1.1; omega⟩
 rw [<-kW hr]
 unfold lvM
 rw [if_pos hr,Int.toNat_natCast]
 split
 ·rename_i h; simp [h]
 ·rename_i h; simp [h]
theorem dK {n:Int} {l:List a8} {p:Int} (hr:ck n l p) (h:(lvM n l p).2.2=true):(lvM n l p).2.1=[]/\fK n l p (lvM n l p).1/\(∀x∈(lvM n l p).1,x<=100000000)/\∀x,fK n l p x->∀v:Nat,(v:Int)<n->(lvM n l p).1.getD v 0<=x.getD v 0:=by
 obtain ⟨m,rfl⟩:∃m:Nat,n=(m:Int):=⟨n.toNat,by have:=hr.1.1; omega⟩
 have hv:=hr.1.2.2
 have hn:=hr.1.1
 have e:lvM m l p=((bO (lar p l) m).1,[],true):=by
  unfold lvM at h ⊢
  rw [if_pos hr,Int.toNat_natCast] at h ⊢
  split
  ·rfl
  ·rename_i h'
   rw [if_neg h'] at h; cases h
 have hlv:(bO (lar p l) m).2=true:=by
  have:=(qS hr).1 h
  exact (kW hr).2 this
 obtain ⟨h1,h2,h3,h4,h5⟩:=l7 (iz (p:=p) hv)
 rw [e]
 have key:∀x∈(bO (lar p l) m).1,0<=x/\x<=100000000:=?_
 ·refine ⟨rfl,⟨hr,by rw [h1],fun x hx=>by have:=key x hx; omega,h4 hlv⟩,fun x hx=>(key x hx).2,fun x hx v hvm=>?_⟩
  refine h5 x hx.2.2.2 (fun w hw=>?_) v (by omega)
  have hwl:w<x.length:=by have:=hx.2.1; omega
  have hg:x.getD w 0=x[w]:=by rw [List.getD_eq_getElem?_getD,List.getElem?_eq_getElem hwl]; rfl
  rw [hg]
  exact (hx.2.2.1 _ (List.getElem_mem hwl)).1
 intro x hx'
 obtain ⟨v,hv',rfl⟩:=List.mem_iff_getElem.1 hx'
 have hvn:v<m:=by rw [<-h1]; exact hv'
 have hg:(bO (lar p l) m).1.getD v 0=(bO (lar p l) m).1[v]:=by rw [List.getD_eq_getElem?_getD,List.getElem?_eq_getElem hv']; rfl
 have h0:=h2 v
 rw [hg] at h0
 refine ⟨h0,?_⟩
 obtain ⟨u,r,k1,k2,k3⟩:=h3 v hvn
 have hN:=(n9 (iz (p:=p) hv)).1 hlv
 obtain ⟨r',j1,j2,j3⟩:=F2 (iz (p:=p) hv) hN _ r u v rfl k1 k2
 rw [hg] at k3
 have hbd:∀ {r:List dh} {u v:Nat},isW (lar p l) u r v->jk r<=3000000*r.length:=by
  intro r
  induction r with
  | nil=>intro _ _ _; simp [jk]
  | cons a r ih=>
   rintro u v ⟨q1,_,q3⟩
   have:=ih q3
   have:=(vq (show m<=32 by omega) hr.2 hv a q1).2.2.2
   simp only [jk,List.length_cons]
   omega
 have:=hbd j1
 omega
theorem qT {n:Int} {l:List a8} {p:Int} (hr:ck n l p) (h:(lvM n l p).2.2=false):(lvM n l p).1=[]/\iL n l p (lvM n l p).2.1/\(lvM n l p).2.1.length<=32/\∀z∈(lvM n l p).2.1,inI z:=by
 obtain ⟨m,rfl⟩:∃m:Nat,n=(m:Int):=⟨n.toNat,by have:=hr.1.1; omega⟩
 have hlv:¬ (bO (lar p l) m).2=true:=fun h'=>by
  have:=(qS hr).2 ((kW hr).1 h')
  rw [h] at this; cases this
 obtain ⟨res,u,xs,k1,k2,k3,k4,k5,k6,k7⟩:=yM hr hlv
 have e:lvM m l p=([],res,false):=by
  unfold lvM
  rw [if_pos hr,Int.toNat_natCast,if_neg hlv,k1]; rfl
 rw [e]
 refine ⟨rfl,⟨hr,_,_,k7,k6⟩,by rw [k2]; simpa using k5,fun z hz=>?_⟩
 unfold exM at k7
 simp only [Option.ite_none_right_eq_some] at k7
 have:=k7.1.2 z hz
 have:=hr.1.2.1
 unfold inI; omega
theorem Ft {n:Int} {l:List a8} {p:Int} {s:List Int} (h:fK n l p s):s.length<=32/\∀z∈s,inI z:=by
 obtain ⟨h1,h2,h3,_⟩:=h
 have:=h1.1.1
 refine ⟨by omega,fun z hz=>?_⟩
 have:=h3 z hz
 unfold inI; omega
theorem tA {n:Int} {l:List a8} {p:Int} {s:List Int} (h:fK n l p s):¬ Pos l p:=ob h.1.1.2.2 h.2.2.2
theorem xJ {n:Int} {l:List a8} {p:Int} {c:List Int} (h:iL n l p c):Pos l p:=by
 obtain ⟨_,s,t,h1,h2⟩:=h
 obtain ⟨u,xs,k1,k2,k3,k4,k5,k6⟩:=Bl h1
 exact ⟨u,xs,k2,by omega⟩
open Classical in
theorem m19 {n:Int} {a b:AV} {l:List a8} {p:Int} {s:List Int} (ha:cr a=some l) (hb:mh b=some s):M19 [.int .i64 n,a,.int .i64 p,b]=some (.bool (decide (fK n l p s))):=by simp only [M19,ha,hb]
end Cy
namespace Clu
open Go
open Cy (GC a8 cF cr cw dS okA smM smT lvM lvT fK iL ck Pos qS dK qT tA xJ)
theorem Bc {T:aR} {s:Option (Int × List Int)} (h:sOk T s):cw (m7 s):=by
 unfold m7 cw
 cases s with
 | none=>simp
 | some x=>have:=h x rfl; simp only; omega
structure BE (T:aR) (s:Option (Int × List Int)) (l:List (List Int)):Prop where
 ok:sOk T s
 no:∀x,s=some x->¬ Pos (bp T x.2) x.1/\∃l1 l2,l=l1++x.2 :: l2/\∀o∈l1,Pos (bp T o) x.1
 pos:∀o∈l,∀q,1<=q->q<=m7 s->Pos (bp T o) q
theorem BE.step {T:aR} {s:Option (Int × List Int)} {l:List (List Int)} (h:BE T s l) {o:List Int} (hO:o∈aH T):BE T (iJ T s o) (l++[o]):=by
 have hper:=Bc h.ok
 have hok:=rp h.ok hO
 have hv:=(uz hO).1
 unfold iJ at hok ⊢
 cases hm:smM (o.length:Int) (bp T o) 1 (m7 s) with
 | none=>
  rw [hm] at hok
  have hn:=DM hper hv hm
  refine ⟨h.ok,fun x hx=>?_,fun o' ho' q h1 h2=>?_⟩
  ·obtain ⟨k1,l1,l2,k2,k3⟩:=h.no x hx
   exact ⟨k1,l1,l2++[o],by rw [k2]; simp,k3⟩
  ·rcases List.mem_append.1 ho' with h3 | h3
   ·exact h.pos o' h3 q h1 h2
   ·rw [List.mem_singleton] at h3
    subst h3
    exact hn q h1 h2
 | some p=>
  rw [hm] at hok
  obtain ⟨k1,k2,k3,k4,k5⟩:=tI hper hm
  refine ⟨hok,fun x hx=>?_,fun o' ho' q h1 h2=>?_⟩
  ·injection hx with hx
   subst hx
   exact ⟨k4,l,[],rfl,fun o' ho'=>h.pos o' ho' p k1 k2⟩
  ·have h2:q<=p-1:=h2
   rcases List.mem_append.1 ho' with h3 | h3
   ·exact h.pos o' h3 q h1 (by omega)
   ·rw [List.mem_singleton] at h3
    subst h3
    exact k5 q h1 (by omega)
theorem BE.fold {T:aR}:∀(r:List (List Int)) {s:Option (Int × List Int)} {l:List (List Int)},BE T s l->(∀o∈r,o∈aH T)->BE T (r.foldl (iJ T) s) (l++r)
 | [],s,l,h,_=>by simpa using h
 | o :: r,s,l,h,hr=>by
  have:=BE.fold r (h.step (hr o (by simp))) (fun o' ho'=>hr o' (by simp [ho']))
  rw [List.append_assoc] at this
  exact this
theorem vQ (T:aR):BE T (pC T) (aH T):=by
 have:=BE.fold (T:=T) (aH T) (s:=none) (l:=[]) ⟨fun x h=>(by cases h),fun x h=>(by cases h),fun o h=>(by cases h)⟩ (fun _ h=>h)
 rwa [List.nil_append] at this
theorem fu {T:aR} {o:List Int} (hO:o∈aH T) {p:Int} (h1 : -1000000<=p) (h2:p<=1000000):ck (o.length:Int) (bp T o) p:=⟨(uz hO).1,h1,h2⟩
theorem HC {T:aR} {o:List Int} (hO:o∈aH T) {p:Int} (h1:1<=p) (h2:p<=1000000) (hp:¬ Pos (bp T o) p) (hq:1<p->Pos (bp T o) (p-1)):Chk T (nL T (p,o)):=by
 have hR:=fu hO (p:=p) (by omega) h2
 have k1:=dK hR ((qS hR).2 hp)
 refine ⟨hO,⟨h1,h2⟩,k1.2.1,?_⟩
 show if p=1 then (if p > 1 then (lvM (o.length:Int) (bp T o) (p-1)).2.1 else [])=[] else _
 by_cases e:p=1
 ·rw [if_pos e,if_neg (by omega)]
 ·rw [if_neg e]
  have hR':=fu hO (p:=p-1) (by omega) (by omega)
  have hf:(lvM (o.length:Int) (bp T o) (p-1)).2.2=false:=by
   cases h:(lvM (o.length:Int) (bp T o) (p-1)).2.2 with
   | false=>rfl
   | true=>exact absurd (hq (by omega)) ((qS hR').1 h)
  have:=(qT hR' hf).2.1
  show iL (o.length:Int) (bp T o) (p-1) (if p > 1 then (lvM (o.length:Int) (bp T o) (p-1)).2.1 else [])
  rw [if_pos (by omega)]
  exact this
theorem kK {T:aR} {s:cD} (h:iK T=some s):Chk T s:=by
 unfold iK at h
 rw [Option.map_eq_some_iff] at h
 obtain ⟨⟨p,o⟩,h,rfl⟩:=h
 have hB:=vQ T
 rw [h] at hB
 obtain ⟨h1,h2,h3⟩:=hB.ok _ rfl
 exact HC h3 h1 h2 (hB.no _ rfl).1 fun hp=>hB.pos o h3 (p-1) (by simp only at h1; omega) (Int.le_refl _)
theorem zI {T:aR} {s:cD} (h:iK T=some s):pC T=some (s.period,s.order)/\s=nL T (s.period,s.order):=by
 unfold iK at h
 rw [Option.map_eq_some_iff] at h
 obtain ⟨⟨p,o⟩,h,rfl⟩:=h
 exact ⟨h,rfl⟩
theorem ER {T:aR} {p:Int} {o:List Int} (hO:o∈aH T) (h1:1<=p) (h2:p<=1000000) (hp:¬ Pos (bp T o) p) (hb:∀o'∈aH T,∀q,1<=q->q<p->Pos (bp T o') q):∃o',o'∈aH T/\¬ Pos (bp T o') p/\pC T=some (p,o'):=by
 have hB:=vQ T
 cases hs:pC T with
 | none=>
  rw [hs] at hB
  exact absurd (hB.pos o hO p h1 h2) hp
 | some x=>
  obtain ⟨r,o'⟩:=x
  rw [hs] at hB
  obtain ⟨k1,k2,k3⟩:=hB.ok _ rfl
  have k4:=(hB.no _ rfl).1
  simp only at k1 k2 k3 k4
  have:r=p:=by
   rcases Int.lt_trichotomy r p with h | h | h
   ·exact absurd (hb o' k3 r k1 h) k4
   ·exact h
   ·exact absurd (hB.pos o hO p h1 (by show p<=r-1; omega)) hp
  subst this
  exact ⟨o',k3,k4,rfl⟩
end Clu
end Go.Proofs.Ytkcjhljbgjpklaa
