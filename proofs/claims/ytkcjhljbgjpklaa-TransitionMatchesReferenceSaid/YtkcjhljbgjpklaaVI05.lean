import Derived.Test.YtkcjhljbgjpklaaVI04
import Derived.Test.YtkcjhljbgjpklaaChecked
import Derived.KernelRfl
set_option maxRecDepth 100000
set_option maxHeartbeats 4000000
noncomputable section
namespace Go.Proofs.Ytkcjhljbgjpklaa
variable {A B:ac} {o s xs ys l:List Int} {chv d2 v1 d7 d8 d3 v4 v5 v0 ov v6 d9 d6 b d0 v3 d4 d5 d10 d14 d15 d19 a d1 v2 v7 d12 d13 d20 d21 d25 v11 d16 d17 d18 v chF:AV} {p n hi:Int} {op fuel id i np cp ep j:Nat} {E:Env} {ll:List (List Int)} {pl:List (Nat × List Int)} {g:Bool}
namespace Cy
open Go
def Pos (l:List br) (p:Int):Prop:=∃(u:Int) (xs:List ge),uI l u xs u/\0<jQ p xs
theorem pi {l:List br} {x:ge} (h:x∈num l):xa l (x.2:Int)=x.1/\0<=(x.2:Int)/\(x.2:Int)<=(l.length:Int)-1:=by
 obtain ⟨hi,he⟩:=mX h
 refine ⟨?_,by omega,by omega⟩
 unfold xa
 rw [RW,Rw,Rx hi]
 exact he
theorem FG {l:List br}:∀ {xs:List ge} {u v s t:Int},uI l u xs v->exL p l (xs.map fun y=>(y.2:Int)) u s t=some (s+jQ p xs,t+mT xs)
 | [],u,v,s,t,_=>by simp [exL,jQ,mT]
 | x :: r,u,v,s,t,⟨h1,h2,h3⟩=>by
  obtain ⟨e,_⟩:=pi h1
  simp only [SG,exL,e,RH h2]
  rw [FG h3]
  simp only [jQ,mT,SG,Ud]
  congr 2 <;> omega
theorem qp {l:List br}:∀ {xs:List ge} {u v:Int} (h:xs≠[]),uI l u xs v->(xs.getLast h).1.t=v/\xs.getLast h∈num l
 | [x],u,v,_,⟨h1,h2,h3⟩=>⟨h3,h1⟩
 | x :: y :: r,u,v,_,⟨h1,h2,h3⟩=>by
  rw [List.getLast_cons (by simp)]
  exact qp (by simp) h3
theorem By {l:List br} {u:Int} {xs:List ge} (h:uI l u xs u) (h1:1<=xs.length) (h2:xs.length<=200):exM p l (xs.map fun y=>(y.2:Int))=some (jQ p xs,mT xs):=by
 have hne:xs≠[]:=fun e=>by rw [e] at h1; simp at h1
 have hall:∀x∈xs,x∈num l:=by
  have:∀ {ys:List ge} {a b:Int},uI l a ys b->∀x∈ys,x∈num l:=by
   intro ys
   induction ys with
   | nil=>intro _ _ _ x hx; cases hx
   | cons y r ih=>
    rintro a b ⟨k1,_,k3⟩ x hx
    rcases Su.1 hx with rfl | hx
    ·exact k1
    ·exact ih k3 x hx
  exact this h
 unfold exM
 rw [RH ⟨by simpa using ⟨h1,h2⟩,fun x hx=>by
  obtain ⟨y,hy,rfl⟩:=Sa.1 hx
  exact (pi (hall y hy)).2⟩]
 obtain ⟨e1,e2⟩:=qp hne h
 have:(xs.map fun y=>(y.2:Int)).getLastD 0=((xs.getLast hne).2:Int):=by
  rw [List.getLastD_eq_getLast?,List.getLast?_map,List.getLast?_eq_some_getLast hne]; rfl
 rw [this,(pi e2).1,e1,FG h]
 simp
theorem yg {l:List br}:∀ {ys:List Int} {u s t:Int} {r:Int × Int},wO l ys->exL p l ys u s t=some r->∃(v:Int) (xs:List ge),ys=xs.map (fun y=>(y.2:Int))/\uI l u xs v/\r=(s+jQ p xs,t+mT xs)
 | [],u,s,t,r,_,h=>by
  simp only [exL,Rz] at h
  exact ⟨u,[],rfl,rfl,by rw [<-h]; simp [jQ,mT]⟩
 | i :: ys,u,s,t,r,hi,h=>by
  have hi0:=hi i (by simp)
  obtain ⟨j,hj,rfl,he⟩:=tY hi0
  simp only [exL] at h
  split at h
  ·rename_i hf
   obtain ⟨v,xs,k1,k2,k3⟩:=yg (fun x hx=>hi x (by simp [hx])) h
   rw [he] at hf k2 k3
   refine ⟨v,(l[j],j) :: xs,by simp [k1],⟨SL (gG l j hj),hf,k2⟩,?_⟩
   rw [k3]
   simp only [jQ,mT,SG,Ud]
   congr 1 <;> omega
  ·cases h
theorem Eh {l:List br} {s t:Int} (h:exM p l ys=some (s,t)):∃(u:Int) (xs:List ge),ys=xs.map (fun y=>(y.2:Int))/\uI l u xs u/\1<=xs.length/\xs.length<=200/\s=jQ p xs/\t=mT xs:=by
 unfold exM at h
 simp only [Ry] at h
 obtain ⟨⟨h1,h2⟩,h3⟩:=h
 obtain ⟨v,xs,rfl,k2,k3⟩:=yg h2 h3
 simp only [RN] at h1
 have hne:xs≠[]:=fun e=>by rw [e] at h1; simp at h1
 obtain ⟨e1,e2⟩:=qp hne k2
 have:(xs.map fun y=>(y.2:Int)).getLastD 0=((xs.getLast hne).2:Int):=by
  rw [List.getLastD_eq_getLast?,List.getLast?_map,List.getLast?_eq_some_getLast hne]; rfl
 rw [this,(pi e2).1,e1] at k2
 simp only [RQ,Int.zero_add] at k3
 exact ⟨v,xs,rfl,k2,h1.1,h1.2,k3.1,k3.2⟩
theorem qn {p:Int} {l:List br} (hv:∀x∈l,okA n x) (h:kT (lar p l) s):¬ Pos l p:=by
 rintro ⟨u,xs,h1,h2⟩
 obtain ⟨k1,k2⟩:=QE (p:=p) hv h1
 have:=mh h k1
 omega
theorem jK {n:Nat} {l:List br} (hv:∀x∈l,okA n x):∀a∈lar p l,a.1<n/\a.2.1<n:=fun a ha=>by
 obtain ⟨x,hx,rfl⟩:=Sa.1 ha
 obtain ⟨q1,q2,_⟩:=hv x hx
 simp only; omega
section
variable {n:Nat} {p:Int} {l:List br} (hr:cM n l p)
include hr
theorem m6:(cr (lar p l) n).2=true↔¬ Pos l p:=by
 have hv:=hr.1.2.2
 have hn:=hr.1.1
 constructor
 ·intro h
  exact qn hv ((nY (jK hv)).2.2.2.1 h)
 ·intro h
  rw [ql (jK hv),<-yl hv (by omega) hr.2]
  cases hc:tU p l n with
  | none=>rfl
  | some res=>
   obtain ⟨u,xs,_,k2,_,_,k5⟩:=yk hv (by omega) hr.2 hc
   exact absurd ⟨u,xs,k2,k5⟩ h
theorem BG (h:¬ (cr (lar p l) n).2=true):∃(res:List Int) (u:Int) (xs:List ge),tU p l n=some res/\res=xs.map (fun y=>(y.2:Int))/\uI l u xs u/\1<=xs.length/\xs.length<=32/\0<jQ p xs/\exM p l res=some (jQ p xs,mT xs):=by
 have hv:=hr.1.2.2
 have hn:=hr.1.1
 rw [ql (jK hv),<-yl hv (by omega) hr.2] at h
 cases hc:tU p l n with
 | none=>exact absurd hc h
 | some res=>
  obtain ⟨u,xs,k1,k2,k3,k4,k5⟩:=yk hv (by omega) hr.2 hc
  exact ⟨res,u,xs,rfl,k1,k2,k3,by omega,k5,by rw [k1]; exact By k2 k3 (by omega)⟩
end
theorem AO {n:Int} {l:List br} (hn:n<=32) (hp:cT p) (hv:∀x∈l,okA n x):∀ {xs:List ge} {u v:Int},uI l u xs v->(-(3000000*(xs.length:Int))<=jQ p xs/\jQ p xs<=3000000*xs.length)/\(-(2*(xs.length:Int))<=mT xs/\mT xs<=2*xs.length)
 | [],_,_,_=>by simp [jQ,mT]
 | x :: r,u,v,⟨h1,h2,h3⟩=>by
  have h4:=AO hn hp hv h3
  obtain ⟨q1,q2,q3,q4⟩:=uv hv h1
  have hle:=jf (n:=32) (a:=x.1) ⟨by omega,by omega,q3,q4⟩ hp
  simp only [jQ,mT,SG,Ud,Sv] at h4 ⊢
  omega
def smL (n:Nat) (l:List br) (hi:Int):Nat->Int->Option Int
 | 0,_=>none
 | m+1,p=>open Classical in if p<=hi/\cM n l p then
   (if (cr (lar p l) n).2=true then some p
    else if ((exM p l ((tU p l n).getD [])).getD (0,0)).2<=0 then none
    else smL n l hi m (p+(((exM p l ((tU p l n).getD [])).getD (0,0)).1+((exM p l ((tU p l n).getD [])).getD (0,0)).2-1).tdiv ((exM p l ((tU p l n).getD [])).getD (0,0)).2))
  else none
def smM (n:Int) (l:List br) (lo hi:Int):Option Int:=if cT hi then smL n.toNat l hi (hi-lo+2).toNat lo else none
theorem xo {s t:Int} (hs:0<s) (ht:0<t):1<=(s+t-1).tdiv t/\(s+t-1).tdiv t<=s/\((s+t-1).tdiv t-1)*t<s/\s<=(s+t-1).tdiv t*t:=by
 rw [Int.tdiv_eq_ediv_of_nonneg (by omega)]
 have h1:=Int.ediv_mul_add_emod (s+t-1) t
 have h2:=Int.emod_nonneg (s+t-1) (show t≠0 by omega)
 have h3:=Int.emod_lt_of_pos (s+t-1) ht
 obtain ⟨d,hd⟩:∃d,d=(s+t-1) / t:=⟨_,rfl⟩
 rw [<-hd] at h1 ⊢
 have h4:1<=d:=by
  rcases Int.lt_or_le d 1 with h | h
  ·have:d*t<=0:=Int.mul_nonpos_of_nonpos_of_nonneg (by omega) (by omega)
   omega
  ·exact h
 have h5:(d-1)*t=d*t-t:=by rw [Int.sub_mul]; omega
 refine ⟨h4,?_,by omega,by omega⟩
 rcases Int.lt_or_le s d with h | h
 ·have:s*t<=(d-1)*t:=Int.mul_le_mul_of_nonneg_right (by omega) (by omega)
  have h6:s*1<=s*t:=Int.mul_le_mul_of_nonneg_left (by omega) (by omega)
  omega
 ·exact h
theorem ut {l:List br} {q:Int} {u:Int} {xs:List ge} (h:uI l u xs u) (hq:0<jQ p xs-(q-p)*mT xs):Pos l q:=by
 refine ⟨u,xs,h,?_⟩
 rw [AN] at hq ⊢
 have:(q-p)*mT xs=q*mT xs-p*mT xs:=by rw [Int.sub_mul]
 omega
theorem tj {n:Nat} {l:List br} (hhi:cT hi):∀(m:Nat) (p:Int),hi-p+1<m ->
  (∀r,smL n l hi m p=some r->p<=r/\r<=hi/\cM n l r/\¬ Pos l r/\∀q,p<=q->q<r->Pos l q)/\(smL n l hi m p=none->cM n l p->∀q,p<=q->q<=hi->Pos l q)
 | 0,p,hm=>⟨fun r h=>(by cases h),fun _ _ q h1 h2=>by omega⟩
 | m+1,p,hm=>by
  unfold smL
  by_cases hp:p<=hi/\cM n l p
  rotate_left
  ·rw [RK hp]
   exact ⟨fun r h=>(by cases h),fun _ h q h1 h2=>absurd ⟨by omega,h⟩ hp⟩
  rw [RH hp]
  by_cases hl:(cr (lar p l) n).2=true
  ·rw [RH hl]
   refine ⟨fun r h=>?_,fun h=>by cases h⟩
   injection h with h; subst h
   exact ⟨S5 _,hp.1,hp.2,(m6 hp.2).1 hl,fun q h1 h2=>by omega⟩
  rw [RK hl]
  obtain ⟨res,u,xs,k1,k2,k3,k4,k5,k6,k7⟩:=BG hp.2 hl
  rw [k1,Sq,k7,Sq]
  simp only
  by_cases ht:mT xs<=0
  ·rw [RH ht]
   refine ⟨fun r h=>(by cases h),fun _ _ q h1 h2=>ut k3 (p:=p) ?_⟩
   have:(q-p)*mT xs<=0:=Int.mul_nonpos_of_nonneg_of_nonpos (by omega) ht
   omega
  rw [RK ht]
  obtain ⟨d1,d2,d3,d4⟩:=xo k6 (show 0<mT xs by omega)
  obtain ⟨d,hd⟩:∃d,d=(jQ p xs+mT xs-1).tdiv (mT xs):=⟨_,rfl⟩
  rw [<-hd] at d1 d2 d3 d4 ⊢
  have hbelow:∀q,p<=q->q<p+d->Pos l q:=fun q h1 h2=>ut k3 (p:=p) (by
   have:(q-p)*mT xs<=(d-1)*mT xs:=Int.mul_le_mul_of_nonneg_right (by omega) (by omega)
   omega)
  obtain ⟨i1,i2⟩:=tj hhi m (p+d) (by omega)
  constructor
  ·intro r h
   obtain ⟨j1,j2,j3,j4,j5⟩:=i1 r h
   refine ⟨by omega,j2,j3,j4,fun q h1 h2=>?_⟩
   by_cases hq:q<p+d
   ·exact hbelow q h1 hq
   ·exact j5 q (by omega) h2
  ·intro h _ q h1 h2
   by_cases hq:q<p+d
   ·exact hbelow q h1 hq
   ·have hR:cM n l (p+d):=⟨hp.2.1,by
     have:=hp.2.2
     unfold cT at *
     omega⟩
    exact i2 h hR q (by omega) h2
open Go
def jq (n:Int) (l:List br) (p:Int) (c:List Int):Prop:=cM n l p/\∃s t,exM p l c=some (s,t)/\0<s
open Classical in
def M21:aU:=fun args=>match args with
 | [.int .i64 n,a,.int .i64 p,b]=>match cR a,n8 b with
  | some l,some s=>some (.bool (decide (jq n l p s)))
  | _,_=>none
 | _=>none
def MN:List (FuncId × aJ):=[(73,cJ 4 M25),(75,aG 4 M40)]
@[simp] theorem O5:aE MN 73=some (cJ 4 M25):=rfl
@[simp] theorem O4:aE MN 75=some (aG 4 M40):=rfl
theorem G8:∀f M,aE MN f=some M->au Try.prog GC f M:=ai (au.of_pureF ta 4) (ai (au.of_pure pP 4) aB)
open Classical in
theorem Jy:ax Try.prog GC 78 M21:=by
 refine ax.of_ev (E:=aw GC MN) (ay G8) rfl Ro FK 1 ?_
 intro args r h
 unfold M21 at h
 split at h
 rotate_left
 ·cases h
 rename_i n a p b
 split at h
 rotate_left
 ·cases h
 rename_i l s hl hs
 injection h with h; subst h
 refine ⟨0,?_⟩
 obtain ⟨hb,_,hsl⟩:=kH hs
 have f1:∀A n,frz A n a=a:=fun A n=>fR hl A n
 have f2:∀A n,frz A n b=b:=fun A n=>hb.frz n
 have f4:=n7 hs
 have m1:M25 [.int .i64 n,a,.int .i64 p]=some (if cM n l p then .tup [dk n.toNat p l,.bool true] else .tup [.nilP,.bool false]):=by simp only [M25,hl,Ss]
 rw [aN _ _ rfl]
 by_cases hr:cM n l p
 rotate_left
 ·rw [RK hr] at m1
  rw [RD (show ¬ jq n l p s from fun h=>hr h.1)]
  simp [IN,f1,m1,aM,bc,-frz]
 rw [RH hr] at m1
 obtain ⟨m,rfl⟩:∃m:Nat,n=(m:Int):=⟨n.toNat,by have:=hr.1.1; omega⟩
 rw [RW] at m1
 have m40:=yG hr hb hsl
 obtain ⟨W1,O,hW⟩:∃W1 O,dk m p l=.fp [.int .i64 (m:Int),W1,O]:=⟨_,_,rfl⟩
 rw [hW] at m1 m40
 have hfw:∀B,frz B 4 (.fp [.int .i64 (m:Int),W1,O])=.fp [.int .i64 (m:Int),W1,O]:=fun _=>rfl
 have hnr:bu 4 (.fp [.int .i64 (m:Int),W1,O])=true:=rfl
 cases he:exM p l s with
 | none=>
  rw [he] at m40
  rw [RD (show ¬ jq m l p s from fun h=>by
   obtain ⟨_,x,y,h,_⟩:=h
   rw [he] at h; cases h)]
  simp only [exT,Option.getD_none,Option.isSome_none] at m40
  simp [IN,f1,f2,m1,m40,hfw,f4,aM,bc,-frz]
 | some st=>
  obtain ⟨x,y⟩:=st
  rw [he] at m40
  simp only [exT,Sq,Option.isSome_some] at m40
  have b1:ag .gtr (.int .i64 x) (.int .i64 0)=some (.bool (decide (x > 0))):=by simp [ag]
  have e:decide (jq m l p s)=decide (x > 0):=by
   rw [Tf,Sr,Sr]
   constructor
   ·rintro ⟨_,a',b',h,h2⟩
    rw [he] at h
    injection h with h
    injection h with h h'
    omega
   ·intro h
    exact ⟨hr,x,y,he,h⟩
  rw [e]
  obtain ⟨d,hd⟩:∃d,d=decide (x > 0):=⟨_,rfl⟩
  rw [<-hd] at b1 ⊢
  simp [IN,f1,f2,m1,m40,hfw,f4,b1,aM,bc,-frz,-ag]
def Bl:List (FuncId × aJ):=[(73,cJ 4 M25),(74,cJ 4 M26),(76,aG 4 M27),(75,aG 4 M40),(72,aG 4 M41)]
@[simp] theorem OZ:aE Bl 73=some (cJ 4 M25):=rfl
@[simp] theorem OY:aE Bl 74=some (cJ 4 M26):=rfl
@[simp] theorem OX:aE Bl 76=some (aG 4 M27):=rfl
@[simp] theorem OW:aE Bl 75=some (aG 4 M40):=rfl
@[simp] theorem OU:aE Bl 72=some (aG 4 M41):=rfl
theorem G6:∀f M,aE Bl f=some M->au Try.prog GC f M:=ai (au.of_pureF ta 4) (ai (au.of_pureF Ae 4) (ai (au.of_pure xz 4) (ai (au.of_pure pP 4) (ai (au.of_pure pO 4) aB))))
def smT (r:Option Int):AV:=.tup [.int .i64 (r.getD 0),.bool r.isSome]
open Classical in
theorem EX (fuel:Nat) {l:List br} (ha:cR a=some l) (n:Int) (hhi:cT hi):∀(m:Nat) (p:Int),0<m->hi-p+1<m ->
  match smL n.toNat l hi m p with
  | some q=>∃v7 v8 v9 v10 v11 v12 v13 v14 v15 v16,bM (evC (aw GC Bl) fuel gQ) jG m (pK (.int .i64 n) a (.int .i64 hi) (.int .i64 p)) []=some (.ret [.int .i64 n,a,.undef,.int .i64 hi,.int .i64 q,.bool true,.int .i64 q,v7,v8,v9,v10,v11,v12,v13,v14,v15,v16] [])
  | none=>∃v6 v7 v8 v9 v10 v11 v12 v13 v14 v15 v16,bM (evC (aw GC Bl) fuel gQ) jG m (pK (.int .i64 n) a (.int .i64 hi) (.int .i64 p)) []=some (.exit 0 [.int .i64 n,a,.undef,.int .i64 hi,.undef,.undef,v6,v7,v8,v9,v10,v11,v12,v13,v14,v15,v16] [])
 | 0,p,h0,hm=>by omega
 | m+1,p,h0,hm=>by
  have f1:∀A n,frz A n a=a:=fun A n=>fR ha A n
  have m1:M25 [.int .i64 n,a,.int .i64 p]=some (if cM n l p then .tup [dk n.toNat p l,.bool true] else .tup [.nilP,.bool false]):=by simp only [M25,ha,Ss]
  have b1:ag .leq (.int .i64 p) (.int .i64 hi)=some (.bool (decide (p<=hi))):=by simp [ag]
  unfold smL
  rw [aD,Cp]
  by_cases hp:p<=hi
  rotate_left
  ·rw [RK (fun h=>hp h.1)]
   rw [RD hp] at b1
   refine ⟨.int .i64 p,.undef,.undef,.undef,.undef,.undef,.undef,.bool false,.undef,.undef,.undef,?_⟩
   simp [gQ,b1,-ag]
  rw [RE hp] at b1
  by_cases hr:cM n l p
  rotate_left
  ·rw [RK (fun h=>hr (by
    have h2:=h.2
    have h3:=h2.1.1
    have:((n.toNat:Nat):Int)=n:=by omega
    rw [this] at h2; exact h2))]
   rw [RK hr] at m1
   refine ⟨.int .i64 p,.nilP,.bool false,.undef,.undef,.undef,.undef,.bool true,.bool true,.undef,.undef,?_⟩
   simp [gQ,b1,m1,f1,aM,-frz,-ag]
  rw [RH hr] at m1
  obtain ⟨k,rfl⟩:∃k:Nat,n=(k:Int):=⟨n.toNat,by have:=hr.1.1; omega⟩
  rw [RW] at m1 ⊢
  rw [RH ⟨hp,hr⟩]
  have m2:=sZ hr
  have m3:=yH hr
  obtain ⟨W1,O,hW⟩:∃W1 O,dk k p l=.fp [.int .i64 (k:Int),W1,O]:=⟨_,_,rfl⟩
  have hfw:∀B,frz B 4 (.fp [.int .i64 (k:Int),W1,O])=.fp [.int .i64 (k:Int),W1,O]:=fun _=>rfl
  have hnr:bu 4 (.fp [.int .i64 (k:Int),W1,O])=true:=rfl
  by_cases hok:(cr (lar p l) k).2=true
  ·rw [RH hok]
   rw [hok] at m2
   rw [hW] at m1 m2
   refine ⟨.fp [.int .i64 (k:Int),W1,O],.bool true,.bool true,.undef,.undef,.undef,.bool true,.bool false,.bool true,.undef,?_⟩
   obtain ⟨S,hS⟩:∃S,S=slA 1 (aj (cr (lar p l) k).1):=⟨_,rfl⟩
   rw [<-hS] at m2
   simp [gQ,b1,m1,m2,f1,hfw,aM,-frz,-ag]
  rw [RK hok]
  obtain ⟨res,u,xs,k1,k2,k3,k4,k5,k6,k7⟩:=BG hr hok
  have hbd:=AO (n:=(k:Int)) (by have:=hr.1.1; omega) hr.2 hr.1.2.2 k3
  have m4:=yG hr (ba 1 (aj res)) (by rw [k2]; simp; omega)
  rw [k1,Sq] at m3
  rw [k7] at m4
  rw [k1,Sq,k7,Sq]
  simp only [exT,Sq,Option.isSome_some] at m4
  simp only
  rw [Bool.not_eq_true] at hok
  rw [hok] at m2
  rw [hW] at m1 m2 m3 m4
  obtain ⟨S,hS⟩:∃S,S=slA 1 (aj (cr (lar p l) k).1):=⟨_,rfl⟩
  rw [<-hS] at m2
  have hnc:∀n,bu n (slA 1 (aj res))=true:=fun n=>AB n 1 _
  have hfc:∀A n,frz A n (slA 1 (aj res))=slA 1 (aj res):=fun A n=>wV A n 1 _
  obtain ⟨C,hC⟩:∃C,C=slA 1 (aj res):=⟨_,rfl⟩
  rw [<-hC] at m3 m4 hnc hfc
  obtain ⟨s,hs⟩:∃s,s=jQ p xs:=⟨_,rfl⟩
  obtain ⟨t,ht⟩:∃t,t=mT xs:=⟨_,rfl⟩
  rw [<-hs,<-ht] at m4 hbd ⊢
  rw [<-hs] at k6
  have b2:ag .leq (.int .i64 t) (.int .i64 0)=some (.bool (decide (t<=0))):=by simp [ag]
  by_cases ht0:t<=0
  ·rw [RH ht0]
   rw [RE ht0] at b2
   refine ⟨.int .i64 p,.fp [.int .i64 (k:Int),W1,O],.bool true,.bool false,.int .i64 s,.int .i64 t,.undef,.bool true,.bool false,.bool false,.bool true,?_⟩
   simp [gQ,b1,b2,m1,m2,m3,m4,f1,hfw,hnc,hfc,aM,-frz,-ag]
  rw [RK ht0]
  rw [RD ht0] at b2
  obtain ⟨d1,d2,d3,d4⟩:=xo k6 (show 0<t by omega)
  have hper:=hr.2
  unfold cT at hper hhi
  have b3:ag .add (.int .i64 s) (.int .i64 t)=some (.int .i64 (s+t)):=by
   simp only [ag]; rw [RH trivial,eV (by unfold inI; omega)]
  have b4:ag .sub (.int .i64 (s+t)) (.int .i64 1)=some (.int .i64 (s+t-1)):=by
   simp only [ag]; rw [RH trivial,eV (by unfold inI; omega)]
  have b5:ag .quo (.int .i64 (s+t-1)) (.int .i64 t)=some (.int .i64 ((s+t-1).tdiv t)):=by
   simp only [ag]; rw [RH trivial,RK (show ¬ t=0 by omega),eV (by unfold inI; omega)]
  obtain ⟨d,hd⟩:∃d,d=(s+t-1).tdiv t:=⟨_,rfl⟩
  rw [<-hd] at b5 d1 d2 ⊢
  have b6:ag .add (.int .i64 p) (.int .i64 d)=some (.int .i64 (p+d)):=by
   simp only [ag]; rw [RH trivial,eV (by unfold inI; omega)]
  have ih:=EX fuel ha (k:Int) hhi m (p+d) (by omega) (by omega)
  rw [RW] at ih
  obtain ⟨p2,hp2⟩:∃p2,p2=p+d:=⟨_,rfl⟩
  rw [<-hp2] at b6 ih ⊢
  obtain ⟨st,hst⟩:∃st,st=s+t:=⟨_,rfl⟩
  rw [<-hst] at b3 b4 b5
  obtain ⟨st1,hst1⟩:∃st1,st1=st-1:=⟨_,rfl⟩
  rw [<-hst1] at b4 b5
  have hrun:run (aw GC Bl) fuel [.code gQ] (pK (.int .i64 (k:Int)) a (.int .i64 hi) (.int .i64 p)) []=some (.normal (pK (.int .i64 (k:Int)) a (.int .i64 hi) (.int .i64 p2)) []):=by
   simp [gQ,b1,b2,b3,b4,b5,b6,m1,m2,m3,m4,f1,hfw,hnc,hfc,aM,-frz,-ag]
  rw [hrun]
  exact ih
def M23:aU:=fun args=>match args with
 | [.int .i64 n,a,.int .i64 lo,.int .i64 hi]=>(cR a).map fun l=>smT (smM n l lo hi)
 | _=>none
theorem Jx:ax Try.prog GC 45 M23:=by
 refine ax.of_ev (E:=aw GC Bl) (ay G6) rfl at23 Lj 5 ?_
 intro args r h
 unfold M23 at h
 split at h
 rotate_left
 ·cases h
 rename_i n a lo hi
 simp only [RJ] at h
 obtain ⟨l,hl,rfl⟩:=h
 obtain ⟨m,hm⟩:∃m,m=(hi-lo+2).toNat+1:=⟨_,rfl⟩
 have m1:M41 [.int .i64 hi]=some (.bool (decide (cT hi))):=rfl
 by_cases hp:cT hi
 rotate_left
 ·refine ⟨0,?_⟩
  rw [RD hp] at m1
  rw [show smM n l lo hi=none from RK hp]
  rw [aN _ _ rfl]
  simp [JY,m1,smT]
 rw [RE hp] at m1
 rw [show smM n l lo hi=smL n.toNat l hi (hi-lo+2).toNat lo from RH hp]
 by_cases hz:(hi-lo+2).toNat=0
 ·
  refine ⟨1,?_⟩
  rw [hz]
  have b1:ag .leq (.int .i64 lo) (.int .i64 hi)=some (.bool false):=by simp [ag]; omega
  have lp:bM (evC (aw GC Bl) 1 gQ) jG 1 (pK (.int .i64 n) a (.int .i64 hi) (.int .i64 lo)) []=some (.exit 0 [.int .i64 n,a,.undef,.int .i64 hi,.undef,.undef,.int .i64 lo,.undef,.undef,.undef,.undef,.undef,.undef,.bool false,.undef,.undef,.undef] []):=by
   rw [aD,Cp]
   simp [gQ,b1,-ag]
  rw [aN _ _ rfl]
  simp [JY,m1,Bh lp,smL,smT]
 ·obtain ⟨F,hF⟩:∃F,F=(hi-lo+2).toNat:=⟨_,rfl⟩
  have hl23:=EX F hl n hp F lo (by omega) (by omega)
  refine ⟨F,?_⟩
  rw [<-hF]
  rw [aN _ _ rfl]
  cases hs:smL n.toNat l hi F lo with
  | none=>
   rw [hs] at hl23
   obtain ⟨v6,v7,v8,v9,v10,v11,v12,v13,v14,v15,v16,lp⟩:=hl23
   simp [JY,m1,Bh lp,smT]
  | some q=>
   rw [hs] at hl23
   obtain ⟨v7,v8,v9,v10,v11,v12,v13,v14,v15,v16,lp⟩:=hl23
   simp [JY,m1,Bh lp,smT]
end Cy
namespace Clu
open Go
def mY:cI:=⟨1,7,.seq (.region [.D 1 0,.w 2]) (.seq (.seq (.region [.l 5 1,.J 62 0,.V 6 1]) (.cond (.var 6) (.seq (.region [.w 2]) .ret) .skip)) (.seq (.region [.d 0 1,.b 1 0,.v 1,.a4 3 1,.r 1 3 2]) (.seq (.region [.cs 4 1]) (.seq (.region [.qs 5 (.alloc 1 .nilF)]) (.seq (.region [.qn (.makeFunc (.func 63) [] [.var 3,.var 4,.var 1,.var 5]),.r 1 5 0]) (.seq (.region [.t 1 5,.qn (.buildSlice 1 [.cst (.int .i64 0)]),.az 0 1]) (.seq (.region [.t 1 4,.c 2 0]) .ret))))))),[.tmp 2]⟩
theorem mK:aH Try.prog Try.f43 1 [0,1,2,3,4,5,8] [] false ([],[])=some mY:=by kernel_rfl
theorem Er:Try.prog.funcs[43]?=some Try.f43:=by kernel_rfl
def si:cI:=⟨1,6,.seq (.region [.D 1 0,.g 2]) (.seq (.region [.qs 3 (.alloc 1 .nilF),.qn (.store 1 (.var 3) (.fn 82))]) (.seq (.region [.d 0 1,.b 1 0,.qn (.makeFunc (.func 84) [] [.var 3]),.E 83 1 2,.c 4 3]) (.seq (.region [.t 1 3,.d 1 1,.b 1 1,.qn (.call (.tmp 0) [.tmp 2,.cst (.int .i64 10000)]),.h 3,.qt (.load false 1 (.var 3)) 4,.O 2 1 4,.x 1 6 4,.cq 5 7 4,.p 4 8,.h 9,.qt (.load false 1 (.var 3)) 10,.O 3 1 10,.x 1 12 10,.cq 11 13 10,.p 10 14,.c 5 15]) (.seq (.region [.a 4,.W 0,.h 1,.k 5 2,.p 2 3,.h 4,.O 0 1 5,.x 1 6 5,.aa 7 5,.qt (.bin .geq (.tmp 8) (.cst (.int .i64 1))) 5,.p 5 9,.h 10,.O 0 1 11,.x 1 12 11,.aa 13 11,.qt (.bin .leq (.tmp 14) (.cst (.int .i64 4))) 11,.p 11 15,.h 16,.O 4 1 17,.x 1 18 17,.T 19 1 17,.c0 20 17,.y 4 1 21,.q 1 22 21,.qf (.bin .eql (.tmp 23) (.cst (.int .i64 2))) 21,.bo 21 24 17,.p 17 25,.c 2 26]) .ret)))),[.tmp 2]⟩
theorem vu:aH Try.prog Try.f62 1 [0,1,2,3,4,5] [] true ([],[])=some si:=by kernel_rfl
theorem LD:Try.prog.funcs[62]?=some Try.f62:=by kernel_rfl
def dN:MC:=.seq (.region [.B 19 18 17]) (.seq (.cond (.var 19) .skip (.exit 0)) (.seq (.seq (.block 1 (.seq (.region [.a 18,.M 1 16 18,.b 1 1,.c 8 0,.c 9 2]) (.seq (.region [.a 9,.a 6,.qn (.build [.int .i64 0,.int .i64 0,.int .i64 0,.int .i64 0] [(0,(1,.tmp 0)),(2,(1,.tmp 1)),(3,(1,.cst (.int .i64 1)))]),.bf 10 4,.r 4 10 2]) (.seq (.seq (.region [.a 8,.i 0 1,.t 1 3,.v 2,.F 20 1 3]) (.cond (.var 20) (.region [.t 1 3,.a 8,.i 1 1,.e 1 0 2,.b 1 3,.d 1 10,.A 1 5 4,.d 3 10,.aq 1 7 0]) .skip)) (.seq (.seq (.region [.d 4 2,.b 1 0,.bs 1 2,.h 2,.y 1 10 3,.q 1 4 3,.n 9 3,.qf (.bin .add (.tmp 6) (.cst (.int .i64 1))) 3,.ch 5 7 3,.C 21 3 8]) (.cond (.var 21) (.region [.d 2 10,.b 1 0,.d 3 2,.b 1 2,.o 1 3,.d 2 10,.A 1 5 4]) .skip)) (.region [.l 4 10,.cn 0,.qn (.call (.fn 70) [.var 7,.tmp 1])])))))) (.kill [0,1,4,5,8,9,10,11,12,13,14,15,19,20,21,22,23,24,25])) (.region [.u 18 1,.c 18 0])))
def dC:MC:=.seq (.region [.B 25 24 23]) (.seq (.cond (.var 25) .skip (.exit 2)) (.seq (.seq (.block 3 (.seq (.region [.a 24,.M 2 22 24,.K 2 1,.ah 13 2,.c 12 0,.r 2 13 2]) (.seq (.region [.a 11,.t 1 3,.a 12,.i 2 1,.cg 0 1 3,.bp 14 3,.r 3 14 4]) (.region [.d 0 14,.b 1 0,.d 1 14,.b 1 2,.a 6,.d 0 13,.b 1 5,.o 4 6,.d 2 14,.b 1 8,.a7 1 3 7 9,.d 1 14,.b 1 11,.d 0 14,.b 1 13,.a 6,.d 0 13,.b 1 16,.o 15 17,.d 1 13,.b 1 19,.o 18 20,.bn 21,.d 2 14,.b 1 23,.bn 24,.a7 12 14 22 25,.c2 10 26,.qn (.call (.fn 70) [.var 7,.tmp 27])])))) (.kill [0,1,2,4,5,8,9,10,12,13,14,15,16,17,18,19,20,21,25])) (.region [.u 24 1,.c 24 0])))
def vU:cI:=⟨2,26,.seq (.region [.D 2 0,.D 3 1,.w 4,.f 5 0]) (.seq (.seq (.region [.l 5 2,.J 43 0,.qn (.makeFunc (.func 67) [] [.var 3]),.E 66 1 2,.V 15 3]) (.cond (.var 15) (.seq (.region [.w 4,.f 5 130]) .ret) .skip)) (.seq (.region [.l 5 2,.J 69 0,.c 6 1]) (.seq (.region [.cs 7 1]) (.seq (.seq (.region [.cd 16 1 3,.ab 17 16,.f 18 0]) (.seq (.block 0 (.loop [0,1,4,5,8,9,10,11,12,13,14,15,19,20,21,22,23,24,25] dN)) (.kill [0,1,4,5,8,9,10,11,12,13,14,15,16,17,18,19,20,21,22,23,24,25]))) (.seq (.region [.qn (.call (.fn 71) []),.d 4 2,.b 1 1,.qn (.indexVal false 3 1 (.tmp 0) (.tmp 2)),.c 11 3]) (.seq (.seq (.region [.d 0 2,.bk 22 1 0,.ab 23 22,.f 24 0]) (.seq (.block 2 (.loop [0,1,2,4,5,8,9,10,12,13,14,15,16,17,18,19,20,21,25] dC)) (.kill [0,1,2,3,4,5,6,8,9,10,11,12,13,14,15,16,17,18,19,20,21,22,23,24,25]))) (.seq (.region [.t 1 7,.c 4 0,.f 5 0]) .ret))))))),[.tmp 4,.tmp 5]⟩
def en:List Nat:=[0,1,4,5,8,9,10,11,12,13,14,15,19,20,21,22,23,24,25]
abbrev gt (v2 v3 v6 v7 v16 v17 v18:AV):List AV:=[.undef,.undef,v2,v3,.undef,.undef,v6,v7,.undef,.undef,.undef,.undef,.undef,.undef,.undef,.undef,v16,v17,v18,.undef,.undef,.undef,.undef,.undef,.undef,.undef]
theorem qQ {d11 v16 v17 v18 d22 d23 d24:AV}:clear en [d0,d1,v2,v3,d4,d5,v6,v7,d8,d9,d10,d11,d12,d13,d14,d15,v16,v17,v18,d19,d20,d21,d22,d23,d24,d25]=gt v2 v3 v6 v7 v16 v17 v18:=by simp only [en,clear,Sj,SZ,SB,SE]
theorem uP {o:Out} {k:List KC} {d11 v16 v17 v18 d22 d23 d24:AV} (h:bM (evC E fuel dN) en fuel (gt v2 v3 v6 v7 v16 v17 v18) A=some o) :
  run E fuel (.code (.loop [0,1,4,5,8,9,10,11,12,13,14,15,19,20,21,22,23,24,25] dN) :: k) [d0,d1,v2,v3,d4,d5,v6,v7,d8,d9,d10,d11,d12,d13,d14,d15,v16,v17,v18,d19,d20,d21,d22,d23,d24,d25] A=after E fuel k o:=aQ en _ _ (by rw [qQ]; exact h)
def dS:List Nat:=[0,1,2,4,5,8,9,10,12,13,14,15,16,17,18,19,20,21,25]
abbrev fD (v3 v6 v7 v11 v22 v23 v24:AV):List AV:=[.undef,.undef,.undef,v3,.undef,.undef,v6,v7,.undef,.undef,.undef,v11,.undef,.undef,.undef,.undef,.undef,.undef,.undef,.undef,.undef,.undef,v22,v23,v24,.undef]
theorem mL {v22 v23 v24:AV}:clear dS [d0,d1,d2,v3,d4,d5,v6,v7,d8,d9,d10,v11,d12,d13,d14,d15,d16,d17,d18,d19,d20,d21,v22,v23,v24,d25]=fD v3 v6 v7 v11 v22 v23 v24:=by simp only [dS,clear,Sj,SZ,SB,SE]
theorem uO {o:Out} {k:List KC} {v22 v23 v24:AV} (h:bM (evC E fuel dC) dS fuel (fD v3 v6 v7 v11 v22 v23 v24) A=some o) :
  run E fuel (.code (.loop [0,1,2,4,5,8,9,10,12,13,14,15,16,17,18,19,20,21,25] dC) :: k) [d0,d1,d2,v3,d4,d5,v6,v7,d8,d9,d10,v11,d12,d13,d14,d15,d16,d17,d18,d19,d20,d21,v22,v23,v24,d25] A=after E fuel k o:=aQ dS _ _ (by rw [mL]; exact h)
theorem vt:aH Try.prog Try.f44 2 [0,1,2,3,4,5,6,7,8,9,10,11,12,13,14,19,22,23,24,25,36,53,69,70,71,72] [71] true ([[0,1,4,5,8,9,10,11,12,13,14,15,19,20,21,22,23,24,25],[0,1,2,4,5,8,9,10,12,13,14,15,16,17,18,19,20,21,25]],[[0,1,4,5,8,9,10,11,12,13,14,15,19,20,21,22,23,24,25],[0,1,4,5,8,9,10,11,12,13,14,15,16,17,18,19,20,21,22,23,24,25],[0,1,2,4,5,8,9,10,12,13,14,15,16,17,18,19,20,21,25],[0,1,2,3,4,5,6,8,9,10,11,12,13,14,15,16,17,18,19,20,21,22,23,24,25]])=some vU:=by kernel_rfl
theorem LC:Try.prog.funcs[44]?=some Try.f44:=by kernel_rfl
def gR:MC:=.seq (.region [.B 14 13 12]) (.seq (.cond (.var 14) .skip (.exit 0)) (.seq (.seq (.block 1 (.seq (.region [.M 1 11 13,.b 1 0,.c 6 1]) (.seq (.region [.l 5 1,.a 6,.E 44 0 1,.h 2,.j 3 0,.j 3 1,.c 7 4,.h 5]) (.seq (.region [.f 8 1000000]) (.seq (.seq (.region [.d 0 4,.b 1 0,.ae 15 1 0]) (.cond (.var 15) (.region [.d 0 4,.b 1 0,.s 1 1,.c 8 2]) .skip)) (.seq (.seq (.region [.a 8,.ac 16 0 1]) (.cond (.var 16) (.exit 0) .skip)) (.seq (.region [.a 6,.v 0,.a 7,.a 8,.qn (.call (.fn 45) [.tmp 1,.tmp 2,.cst (.int .i64 1),.tmp 3]),.h 4,.j 5 0,.j 5 1,.c 9 6,.c 10 7]) (.seq (.region [.ai 17 10]) (.cond (.var 17) (.region [.a 9,.a 6,.qn (.build [.int .i64 0,.nilS,.nilS,.nilS] [(0,(1,.tmp 0)),(1,(1,.tmp 1))]),.a 7,.r 4 4 2,.c 5 3]) .skip))))))))) (.kill [0,3,6,7,8,9,10,14,15,16,17,18,19])) (.region [.u 13 1,.c 13 0])))
def Df:cI:=⟨1,20,.seq (.region [.D 1 0,.b2 2 4,.f 3 0]) (.seq (.region [.b2 4 4]) (.seq (.region [.w 5]) (.seq (.seq (.region [.l 5 1,.qs 11 (.call (.fn 43) [.tmp 0]),.ab 12 11,.f 13 0]) (.seq (.block 0 (.loop [0,3,6,7,8,9,10,14,15,16,17,18,19] gR)) (.kill [0,1,3,6,7,8,9,10,11,12,13,14,15,16,17,18,19]))) (.seq (.seq (.region [.d 0 4,.b 1 0,.aj 18 1 0]) (.cond (.var 18) (.seq (.region [.qn (.build [.int .i64 0,.nilS,.nilS,.nilS] []),.r 4 2 0,.f 3 130]) .ret) .skip)) (.seq (.region [.d 1 4,.b 1 0,.v 1,.a 5,.d 0 4,.b 1 4,.P 46 2 3 5,.h 6,.j 7 0,.j 7 1,.j 7 2,.d 2 4,.A 1 11 8]) (.seq (.seq (.region [.d 0 4,.b 1 0,.ae 19 1 1]) (.cond (.var 19) (.region [.d 1 4,.b 1 0,.v 1,.a 5,.d 0 4,.b 1 4,.s 5 1,.P 46 2 3 6,.h 7,.j 8 0,.j 8 1,.j 8 2,.d 3 4,.A 1 12 10]) .skip)) (.seq (.region [.l 4 4,.r 4 2 0,.f 3 0]) .ret))))))),[.cell 2 true 4,.tmp 3]⟩
def lR:List Nat:=[0,3,6,7,8,9,10,14,15,16,17,18,19]
abbrev pL (v1 v2 v4 v5 v11 v12 v13:AV):List AV:=[.undef,v1,v2,.undef,v4,v5,.undef,.undef,.undef,.undef,.undef,v11,v12,v13,.undef,.undef,.undef,.undef,.undef,.undef]
theorem yq {v12 v13:AV}:clear lR [d0,v1,v2,d3,v4,v5,d6,d7,d8,d9,d10,v11,v12,v13,d14,d15,d16,d17,d18,d19]=pL v1 v2 v4 v5 v11 v12 v13:=rfl
theorem Bi {o:Out} {k:List KC} {v12 v13:AV} (h:bM (evC E fuel gR) lR fuel (pL v1 v2 v4 v5 v11 v12 v13) A=some o) :
  run E fuel (.code (.loop [0,3,6,7,8,9,10,14,15,16,17,18,19] gR) :: k) [d0,v1,v2,d3,v4,v5,d6,d7,d8,d9,d10,v11,v12,v13,d14,d15,d16,d17,d18,d19] A=after E fuel k o:=aQ lR _ _ (by rw [yq]; exact h)
theorem BY:aH Try.prog Try.f23 1 [0,1,2,3,4,5,7,8,10,11,12,14,15,16,17,28,33,42,50,66] [] true ([[0,3,6,7,8,9,10,14,15,16,17,18,19]],[[0,3,6,7,8,9,10,14,15,16,17,18,19],[0,1,3,6,7,8,9,10,11,12,13,14,15,16,17,18,19]])=some Df:=by kernel_rfl
theorem Qc:Try.prog.funcs[23]?=some Try.f23:=by kernel_rfl
def uC:cI:=⟨2,10,.seq (.region [.D 2 0,.D 3 1,.g 4]) (.seq (.region [.l 5 2,.d 1 3,.b 1 1,.E 44 0 2,.h 3,.j 4 0,.j 4 1,.c 5 5,.c 6 6]) (.seq (.region [.d 1 3,.b 1 0,.v 1,.c 7 2]) (.seq (.seq (.block 0 (.seq (.region [.a 6,.qn (.bin .neq (.tmp 0) (.cst (.int .i64 0))),.h 1,.y 0 3 2,.q 1 3 2,.bv 4 1 2,.G 2 5,.h 6,.y 0 3 7,.q 1 8 7,.Y 9 1000000 7,.G 7 10,.h 11,.n 7 12,.n 5 12,.y 0 3 12,.q 1 15 12,.y 2 3 12,.q 1 17 12,.qf (.call (.fn 77) [.tmp 13,.tmp 14,.tmp 16,.tmp 18]) 12,.H 19 12,.G 12 20,.c 8 21]) (.cond (.var 8) (.seq (.region [.g 4]) .ret) (.seq (.region [.d 0 3,.b 1 0,.bs 1 1,.c 9 2]) (.cond (.var 9) (.seq (.region [.d 3 3,.b 1 0,.v 1,.bs 2 0,.c 4 3]) .ret) .skip))))) (.kill [0,1,2,4,6,8,9])) (.seq (.region [.a 7,.a 5,.d 0 3,.b 1 2,.s 3 1,.d 3 3,.b 1 5,.Q 78 0 1 4 6,.c 4 7]) .ret)))),[.tmp 4]⟩
theorem vr:aH Try.prog Try.f48 2 [0,1,2,3,4,5,6,7,18,41] [] true ([],[[0,1,2,4,6,8,9]])=some uC:=by kernel_rfl
theorem LB:Try.prog.funcs[48]?=some Try.f48:=by kernel_rfl
def dV:MC:=.seq (.seq (.region [.a 6,.t 1 1,.a6 8 0 1]) (.cond (.var 8) .skip (.exit 0))) (.seq (.seq (.block 1 (.seq (.region [.a 0,.a 6,.E 64 0 1,.W 2,.h 3,.O 4 3 4,.x 1 5 4,.T 6 1 4,.c0 7 4,.n 6 8,.n 0 8,.bc 10 8,.qf (.bin .eql (.tmp 9) (.tmp 11)) 8,.bo 8 12 4,.Z 9 4 13]) (.cond (.var 9) (.regionD [] [.t 1 4,.a 0,.J 65 1,.a 6,.cu 3,.qn (.appendN 1 8 (.tmp 2) (.tmp 4)),.az 0 5] [(0,2),(0,5)]) .skip))) (.kill [2,5,7,8,9])) (.region [.a 6,.i 0 1,.c 6 1]))
def vT:cI:=⟨5,10,.seq (.seq (.region [.a 0,.v 0,.t 1 1,.i 2 1,.ay 7 1 3]) (.cond (.var 7) (.seq (.region [.t 1 1,.i 0 1,.al 1 1,.c 5 2]) (.seq (.region [.a 5,.a 0,.qn (.copy 1 (.tmp 0) (.tmp 1))]) (.seq (.region [.t 1 2,.a 5,.b6 1,.cw 1 0 2,.r 1 2 3]) .ret))) .skip)) (.seq (.region [.f 6 1]) (.seq (.block 0 (.loop [2,5,7,8,9] dV)) (.kill [0,1,2,3,4,5,6,7,8,9]))),[]⟩
def dR:List Nat:=[2,5,7,8,9]
abbrev iJ (v0 v1 v3 v4 v6:AV):List AV:=[v0,v1,.undef,v3,v4,.undef,v6,.undef,.undef,.undef]
theorem qP:clear dR [v0,v1,d2,v3,v4,d5,v6,d7,d8,d9]=iJ v0 v1 v3 v4 v6:=rfl
theorem uN {o:Out} {k:List KC} (h:bM (evC E fuel dV) dR fuel (iJ v0 v1 v3 v4 v6) A=some o) :
  run E fuel (.code (.loop [2,5,7,8,9] dV) :: k) [v0,v1,d2,v3,v4,d5,v6,d7,d8,d9] A=after E fuel k o:=aQ dR _ _ (by rw [qP]; exact h)
theorem sP:aH Try.prog Try.f63 5 [0,1,2,3,4,6,7,12,25,42] [] false ([[2,5,7,8,9]],[[2,5,7,8,9],[0,1,2,3,4,5,6,7,8,9]])=some vT:=by kernel_rfl
theorem IY:Try.prog.funcs[63]?=some Try.f63:=by kernel_rfl
def wF:cI:=⟨2,3,.seq (.region [.g 2]) (.seq (.region [.a 0,.a 1,.E 49 0 1,.X 2 0,.c 2 3]) .ret),[.tmp 2]⟩
theorem vq:aH Try.prog Try.f64 2 [0,1,4] [] true ([],[])=some wF:=by kernel_rfl
theorem LA:Try.prog.funcs[64]?=some Try.f64:=by kernel_rfl
def zC:cI:=⟨1,2,.seq (.region [.w 1]) (.seq (.region [.a 0,.a 0,.v 1,.a 0,.v 3,.qn (.sliceM 1 (.tmp 0) none (.tmp 2) (.tmp 4)),.c 1 5]) .ret),[.tmp 1]⟩
theorem sO:aH Try.prog Try.f65 1 [0,2] [] true ([],[])=some zC:=by kernel_rfl
theorem IX:Try.prog.funcs[65]?=some Try.f65:=by kernel_rfl
def qb:cI:=⟨2,3,.seq (.region [.g 2]) (.seq (.region [.a 0,.X 0 0,.h 1,.k 0 2,.k 1 2,.bb 3 4 2,.p 2 5,.c 2 6]) .ret),[.tmp 2]⟩
theorem sN:aH Try.prog Try.f82 2 [0,1,4] [] true ([],[])=some qb:=by kernel_rfl
theorem IW:Try.prog.funcs[82]?=some Try.f82:=by kernel_rfl
def AG:cI:=⟨2,3,.seq (.region [.g 2]) (.seq (.region [.a 0,.a 1,.E 95 0 1,.X 2 0,.c 2 3]) .ret),[.tmp 2]⟩
theorem yn:aH Try.prog Try.f83 2 [0,1,4] [] true ([],[])=some AG:=by kernel_rfl
theorem M2:Try.prog.funcs[83]?=some Try.f83:=by kernel_rfl
def Dd:cI:=⟨2,4,.seq (.region [.D 2 0,.g 3]) (.seq (.region [.t 1 1,.d 0 2,.b 1 1,.qn (.call (.tmp 0) [.tmp 2,.cst (.int .i64 100000)]),.W 3,.h 4,.b1 1 1 5,.y 1 2 5,.q 1 7 5,.qf (.call (.tmp 6) [.tmp 8,.cst (.int .i64 100000)]) 5,.H 9 5,.G 5 10,.c 3 11]) .ret),[.tmp 3]⟩
theorem BQ:aH Try.prog Try.f84 2 [0,1,2,3] [] true ([],[])=some Dd:=by kernel_rfl
theorem P5:Try.prog.funcs[84]?=some Try.f84:=by kernel_rfl
def AF:cI:=⟨2,3,.seq (.region [.g 2]) (.seq (.region [.a 0,.a 1,.E 85 0 1,.X 2 0,.c 2 3]) .ret),[.tmp 2]⟩
theorem vp:aH Try.prog Try.f66 2 [0,1,4] [] true ([],[])=some AF:=by kernel_rfl
theorem Lz:Try.prog.funcs[66]?=some Try.f66:=by kernel_rfl
def AE:cI:=⟨2,3,.seq (.region [.g 2]) (.seq (.region [.a 0,.t 1 1,.E 68 0 1,.c 2 2]) .ret),[.tmp 2]⟩
theorem vo:aH Try.prog Try.f67 2 [0,1,3] [] true ([],[])=some AE:=by kernel_rfl
theorem Ly:Try.prog.funcs[67]?=some Try.f67:=by kernel_rfl
def fH:MC:=.seq (.region [.B 7 6 5]) (.seq (.cond (.var 7) .skip (.exit 0)) (.seq (.seq (.block 1 (.seq (.region [.a 6,.c 3 0]) (.seq (.region [.a 0,.a 3,.e 1 0 1,.b 1 2,.a 1,.a 3,.e 1 4 5,.b 1 6,.bz 8 3 7]) (.cond (.var 8) (.seq (.region [.g 2]) .ret) .skip)))) (.kill [2,3,4,7,8])) (.region [.u 6 1,.c 6 0])))
def Dc:cI:=⟨2,9,.seq (.region [.g 2]) (.seq (.seq (.region [.a 0,.v 0,.a 1,.v 2,.bz 4 1 3]) (.cond (.var 4) (.seq (.region [.g 2]) .ret) .skip)) (.seq (.seq (.region [.a 0,.bg 5 0,.f 6 0]) (.seq (.block 0 (.loop [2,3,4,7,8] fH)) (.kill [0,1,2,3,4,5,6,7,8]))) (.seq (.region [.I 2]) .ret))),[.tmp 2]⟩
def ej:List Nat:=[2,3,4,7,8]
abbrev gq (v0 v1 v5 v6:AV):List AV:=[v0,v1,.undef,.undef,.undef,v5,v6,.undef,.undef]
theorem qN:clear ej [v0,v1,d2,d3,d4,v5,v6,d7,d8]=gq v0 v1 v5 v6:=rfl
theorem uM {o:Out} {k:List KC} (h:bM (evC E fuel fH) ej fuel (gq v0 v1 v5 v6) A=some o) :
  run E fuel (.code (.loop [2,3,4,7,8] fH) :: k) [v0,v1,d2,d3,d4,v5,v6,d7,d8] A=after E fuel k o:=aQ ej _ _ (by rw [qN]; exact h)
theorem BP:aH Try.prog Try.f68 2 [0,1,4,5,10,12,13,14,24] [] true ([[2,3,4,7,8]],[[2,3,4,7,8],[0,1,2,3,4,5,6,7,8]])=some Dc:=by kernel_rfl
theorem P4:Try.prog.funcs[68]?=some Try.f68:=by kernel_rfl
def DP:cI:=⟨1,4,.seq (.region [.D 1 0,.f 2 0]) (.seq (.seq (.region [.d 4 1,.b 1 0,.aj 3 1 2]) (.cond (.var 3) (.seq (.region [.d 1 1,.b 1 0,.d 2 1,.b 1 2,.o 1 3,.c 2 4]) .ret) .skip)) (.seq (.region [.d 1 1,.b 1 0,.d 3 1,.b 1 2,.o 1 3,.d 2 1,.b 1 5,.o 4 6,.c 2 7]) .ret)),[.tmp 2]⟩
theorem BO:aH Try.prog Try.f69 1 [0,1,2,5] [] true ([],[])=some DP:=by kernel_rfl
theorem PZ:Try.prog.funcs[69]?=some Try.f69:=by kernel_rfl
def zB:cI:=⟨2,2,.region [.a 0,.a 0,.R 1,.b 1 2,.a 1,.qn (.append 4 32 (.tmp 3) (.tmp 4)),.R 0,.A 1 6 5],[]⟩
theorem ym:aH Try.prog Try.f70 2 [0,1] [] true ([],[])=some zB:=by kernel_rfl
theorem MZ:Try.prog.funcs[70]?=some Try.f70:=by kernel_rfl
def HM:cI:=⟨0,1,.seq (.region [.qs 0 (.allocA [.nilF,.nilF,.nilF])]) (.seq (.region [.qn (.build [.nilF,.nilF,.nilF] [(1,(1,.fn 86)),(2,(1,.fn 87))]),.qn (.storeA 3 (.var 0) (.tmp 0))]) .ret),[.cell 0 true 3]⟩
theorem BN:aH Try.prog Try.f71 0 [0] [] true ([],[])=some HM:=by kernel_rfl
theorem PY:Try.prog.funcs[71]?=some Try.f71:=by kernel_rfl
def kc:MC:=.seq (.region [.B 6 5 4]) (.seq (.cond (.var 6) .skip (.exit 0)) (.seq (.seq (.block 1 (.seq (.region [.a 5,.c 3 0]) (.seq (.region [.a 1,.a 0,.a 3,.e 1 1 2,.b 1 3,.ay 7 0 4]) (.cond (.var 7) (.seq (.region [.a 3,.c 2 0]) .ret) .skip)))) (.kill [2,3,6,7])) (.region [.u 5 1,.c 5 0])))
def Mz:cI:=⟨2,8,.seq (.region [.f 2 0]) (.seq (.seq (.region [.a 0,.bg 4 0,.f 5 0]) (.seq (.block 0 (.loop [2,3,6,7] kc)) (.kill [0,1,2,3,4,5,6,7]))) (.seq (.region [.f 2 (-1)]) .ret)),[.tmp 2]⟩
def jy:List Nat:=[2,3,6,7]
abbrev nC (v0 v1 v4 v5:AV):List AV:=[v0,v1,.undef,.undef,v4,v5,.undef,.undef]
theorem FQ:clear jy [v0,v1,d2,d3,v4,v5,d6,d7]=nC v0 v1 v4 v5:=rfl
theorem Fg {o:Out} {k:List KC} (h:bM (evC E fuel kc) jy fuel (nC v0 v1 v4 v5) A=some o) :
  run E fuel (.code (.loop [2,3,6,7] kc) :: k) [v0,v1,d2,d3,v4,v5,d6,d7] A=after E fuel k o:=aQ jy _ _ (by rw [FQ]; exact h)
theorem K3:aH Try.prog Try.f49 2 [0,1,4,5,7,8,9,16] [] true ([[2,3,6,7]],[[2,3,6,7],[0,1,2,3,4,5,6,7]])=some Mz:=by kernel_rfl
theorem at64:Try.prog.funcs[49]?=some Try.f49:=by kernel_rfl
def j9:MC:=.seq (.region [.B 6 5 4]) (.seq (.cond (.var 6) .skip (.exit 0)) (.seq (.seq (.block 1 (.seq (.region [.a 5,.c 3 0]) (.seq (.region [.a 1,.a 0,.a 3,.e 2 1 2,.K 2 3,.b7 7 0 4]) (.cond (.var 7) (.seq (.region [.a 3,.c 2 0]) .ret) .skip)))) (.kill [2,3,6,7])) (.region [.u 5 1,.c 5 0])))
def My:cI:=⟨2,8,.seq (.region [.f 2 0]) (.seq (.seq (.region [.a 0,.bg 4 0,.f 5 0]) (.seq (.block 0 (.loop [2,3,6,7] j9)) (.kill [0,1,2,3,4,5,6,7]))) (.seq (.region [.f 2 (-1)]) .ret)),[.tmp 2]⟩
def jx:List Nat:=[2,3,6,7]
abbrev nB (v0 v1 v4 v5:AV):List AV:=[v0,v1,.undef,.undef,v4,v5,.undef,.undef]
theorem FP:clear jx [v0,v1,d2,d3,v4,v5,d6,d7]=nB v0 v1 v4 v5:=rfl
theorem Ff {o:Out} {k:List KC} (h:bM (evC E fuel j9) jx fuel (nB v0 v1 v4 v5) A=some o) :
  run E fuel (.code (.loop [2,3,6,7] j9) :: k) [v0,v1,d2,d3,v4,v5,d6,d7] A=after E fuel k o:=aQ jx _ _ (by rw [FP]; exact h)
theorem KZ:aH Try.prog Try.f95 2 [0,1,4,5,7,8,9,16] [] true ([[2,3,6,7]],[[2,3,6,7],[0,1,2,3,4,5,6,7]])=some My:=by kernel_rfl
theorem at65:Try.prog.funcs[95]?=some Try.f95:=by kernel_rfl
def j8:MC:=.seq (.region [.B 6 5 4]) (.seq (.cond (.var 6) .skip (.exit 0)) (.seq (.seq (.block 1 (.seq (.region [.a 5,.c 3 0]) (.seq (.region [.a 1,.a 0,.a 3,.e 1 1 2,.b 1 3,.b7 7 0 4]) (.cond (.var 7) (.seq (.region [.a 3,.c 2 0]) .ret) .skip)))) (.kill [2,3,6,7])) (.region [.u 5 1,.c 5 0])))
def Mx:cI:=⟨2,8,.seq (.region [.f 2 0]) (.seq (.seq (.region [.a 0,.bg 4 0,.f 5 0]) (.seq (.block 0 (.loop [2,3,6,7] j8)) (.kill [0,1,2,3,4,5,6,7]))) (.seq (.region [.f 2 (-1)]) .ret)),[.tmp 2]⟩
def jw:List Nat:=[2,3,6,7]
abbrev nA (v0 v1 v4 v5:AV):List AV:=[v0,v1,.undef,.undef,v4,v5,.undef,.undef]
theorem FO:clear jw [v0,v1,d2,d3,v4,v5,d6,d7]=nA v0 v1 v4 v5:=rfl
theorem Fe {o:Out} {k:List KC} (h:bM (evC E fuel j8) jw fuel (nA v0 v1 v4 v5) A=some o) :
  run E fuel (.code (.loop [2,3,6,7] j8) :: k) [v0,v1,d2,d3,v4,v5,d6,d7] A=after E fuel k o:=aQ jw _ _ (by rw [FO]; exact h)
theorem KY:aH Try.prog Try.f85 2 [0,1,4,5,7,8,9,16] [] true ([[2,3,6,7]],[[2,3,6,7],[0,1,2,3,4,5,6,7]])=some Mx:=by kernel_rfl
theorem at66:Try.prog.funcs[85]?=some Try.f85:=by kernel_rfl
def Mw:cI:=⟨2,4,.seq (.region [.bp 2 3]) (.seq (.seq (.region [.a 0,.a 1,.E 49 0 1,.a 0,.a 1,.s 4 1,.E 49 3 5,.F 3 2 6]) (.cond (.var 3) (.seq (.region [.a 1,.s 0 1,.a 1,.bh 1 2,.r 3 2 3]) .ret) .skip)) (.seq (.region [.a 1,.s 0 1,.a 1,.qn (.build [.int .i64 0,.int .i64 0,.int .i64 0] [(0,(1,.tmp 1)),(1,(1,.tmp 2)),(2,(1,.cst (.int .i64 0)))]),.r 3 2 3]) .ret)),[.cell 2 true 3]⟩
theorem KW:aH Try.prog Try.f86 2 [0,1,4,12] [] true ([],[])=some Mw:=by kernel_rfl
theorem at67:Try.prog.funcs[86]?=some Try.f86:=by kernel_rfl
def Nn:cI:=⟨2,3,.seq (.region [.bp 2 3]) (.seq (.region [.a 1,.a 1,.bh 0 1,.r 3 2 2]) .ret),[.cell 2 true 3]⟩
theorem KV:aH Try.prog Try.f87 2 [0,1,4] [] true ([],[])=some Nn:=by kernel_rfl
theorem at68:Try.prog.funcs[87]?=some Try.f87:=by kernel_rfl
end Clu
namespace Clu
open Go
open Cy (GC iO dw bY cd cP aM bc aA)
structure aT where
 ch:List (Int × Int)
 pick:Int
 place:Int
 travel:Int
 blades:Int
def chA (x:Int × Int):AV:=.agg [.int .i64 x.1,.int .i64 x.2]
def af (T:aT) (chv:AV):AV:=.agg [chv,.int .i64 T.pick,.int .i64 T.place,.int .i64 T.travel,.int .i64 T.blades]
def ky (x:Int × Int):Prop:=(0<=x.1/\x.1<=100000)/\0<=x.2/\x.2<=100000
instance (x:Int × Int):Decidable (ky x):=inferInstanceAs (Decidable (_/\_))
def aY (T:aT):Prop:=(∀x∈T.ch,ky x)/\((0<=T.pick/\T.pick<=10000)/\(0<=T.place/\T.place<=10000)/\(0<=T.travel/\T.travel<=10000))/\1<=T.ch.length/\T.ch.length<=4/\(T.blades=1\/T.blades=2)
instance (T:aT):Decidable (aY T):=inferInstanceAs (Decidable (_/\_))
def M38:aU:=fun args=>match args with
 | [.int .i64 n,.int .i64 hi]=>some (.bool (decide (0<=n) && decide (n<=hi)))
 | _=>none
theorem iR:ax Try.prog GC 82 M38:=by
 refine ax.of_ev (E:=aw GC []) (ay aB) rfl IW sN 1 ?_
 intro args r h
 unfold M38 at h
 split at h
 ·rename_i n hi
  injection h with h; subst h
  refine ⟨0,?_⟩
  have b1:ag .geq (.int .i64 n) (.int .i64 0)=some (.bool (decide (0<=n))):=by simp [ag]
  have b2:ag .leq (.int .i64 n) (.int .i64 hi)=some (.bool (decide (n<=hi))):=by simp [ag]
  obtain ⟨p,hp⟩:∃p,p=decide (0<=n):=⟨_,rfl⟩
  obtain ⟨q,hq⟩:∃q,q=decide (n<=hi):=⟨_,rfl⟩
  rw [<-hp] at b1 ⊢
  rw [<-hq] at b2 ⊢
  rw [aN _ _ rfl]
  cases p <;> simp [qb,b1,b2,-ag]
 ·cases h
def Di:AV:=.func (.func 82) [] []
def zG:List (FuncId × aJ):=[(82,aG 4 M38)]
@[simp] theorem N7:aE zG 82=some (aG 4 M38):=rfl
theorem wd:∀f M,aE zG f=some M->au Try.prog GC f M:=ai (au.of_pure iR 4) aB
def M40:aU:=fun args=>evP (aw GC zG) 0 Dd 1 args
theorem pP:ax Try.prog GC 84 M40:=ax.of_ev (E:=aw GC zG) (ay wd) rfl P5 BQ 1 fun _ _ h=>⟨0,h⟩
theorem JW (x:Int × Int):(!decide (ky x))=(!(decide (0<=x.1) && decide (x.1<=100000)) || !(decide (0<=x.2) && decide (x.2<=100000))):=by
 unfold ky
 by_cases h1:0<=x.1 <;> by_cases h2:x.1<=100000 <;> by_cases h3:0<=x.2 <;> by_cases h4:x.2<=100000 <;> simp [h1,h2,h3,h4]
theorem yG (x:Int × Int):M40 [chA x,.fp [Di]]=some (.bool (!decide (ky x))):=by
 obtain ⟨a,b⟩:=x
 rw [JW]
 have m1:M38 [.int .i64 a,.int .i64 100000]=some (.bool (decide (0<=a) && decide (a<=100000))):=rfl
 have m2:M38 [.int .i64 b,.int .i64 100000]=some (.bool (decide (0<=b) && decide (b<=100000))):=rfl
 obtain ⟨p,hp⟩:∃p,p=(decide (0<=a) && decide (a<=100000)):=⟨_,rfl⟩
 obtain ⟨q,hq⟩:∃q,q=(decide (0<=b) && decide (b<=100000)):=⟨_,rfl⟩
 simp only
 rw [<-hp] at m1 ⊢
 rw [<-hq] at m2 ⊢
 unfold M40
 rw [aN _ _ rfl]
 cases p <;> simp [Dd,chA,Di,m1,m2,frz]
def Fw:List (FuncId × aJ):=[(84,aG 4 M40)]
@[simp] theorem NL:aE Fw 84=some (aG 4 M40):=rfl
theorem GO:∀f M,aE Fw f=some M->au Try.prog GC f M:=ai (au.of_pure pP 4) aB
def M65:aU:=fun args=>evP (aw GC Fw) 300 My 1 args
theorem Jl:ax Try.prog GC 95 M65:=ax.of_ev (E:=aw GC Fw) (ay GO) rfl at65 KZ 1 fun _ _ h=>⟨300,h⟩
def gj (x:Int × Int):Bool:=!decide (ky x)
def dI:AV:=.func (.func 84) [] [.fp [Di]]
theorem L3 {xs:List (Int × Int)} (hb:SlA 2 (xs.map chA) b) (hl:xs.length<=200):M65 [b,dI]=some (.int .i64 (dw gj xs)):=by
 have hlen:=hb.len
 rw [RN] at hlen
 have round:∀(A:ac) (i:Nat) (hi:i<xs.length),run (aw GC Fw) 300 [.code j9] (nB b dI (.int .i64 (xs.length:Int)) (.int .i64 (i:Int))) A =
   if gj xs[i]=false then some (.normal (nB b dI (.int .i64 (xs.length:Int)) (.int .i64 ((i+1:Nat):Int))) A) else some (.ret [b,dI,.int .i64 (i:Int),.int .i64 (i:Int),.int .i64 (xs.length:Int),.int .i64 (i:Int),.bool true,.bool true] A):=fun A i hi=>by
  have he:(xs.map chA)[i]?=some (chA xs[i]):=by simp [hi]
  have x1:=hb.index (A:=A) he rfl (by decide) .i64
  have ld:ab true 2 A (.fp (cellsOf (chA xs[i])))=some (chA xs[i]):=rfl
  obtain ⟨C,hC⟩:∃C,C=cellsOf (chA xs[i]):=⟨_,rfl⟩
  rw [<-hC] at x1 ld
  have m:=yG xs[i]
  have b1:=a9 i xs.length .i64
  rw [RE hi] at b1
  have b3:=aV i (by omega)
  have fz:∀A,frz A 4 (chA xs[i])=chA xs[i]:=fun A=>rfl
  have fz2:∀A,frz A 4 (.fp [Di])=.fp [Di]:=fun A=>rfl
  obtain ⟨i1,hi1⟩:∃i1:Nat,i1=i+1:=⟨_,rfl⟩
  rw [<-hi1] at b3 ⊢
  obtain ⟨d,hd⟩:∃d,d=gj xs[i]:=⟨_,rfl⟩
  rw [show (!decide (ky xs[i]))=d from hd.symm] at m
  rw [<-hd]
  obtain ⟨c,hc⟩:∃c,c=chA xs[i]:=⟨_,rfl⟩
  rw [<-hc] at m ld fz
  cases d with
  | false=>simp [j9,dI,x1,ld,m,fz,fz2,b1,b3,-frz,-ag,-ae,-aq,-ab]
  | true=>simp [j9,dI,x1,ld,m,fz,fz2,b1,-frz,-ag,-ae,-aq,-ab]
 unfold M65
 rw [aN _ _ rfl]
 rcases cY (E:=aw GC Fw) (fuel:=300) (a:=j9) (mask:=jx) (fun i=>nB b dI (.int .i64 (xs.length:Int)) (.int .i64 (i:Int))) (fun _=>[]) xs.length (fun i=>¬ ∀hi:i<xs.length,gj xs[i]=false)
  (oF:=fun i=>.ret [b,dI,.int .i64 (i:Int),.int .i64 (i:Int),.int .i64 (xs.length:Int),.int .i64 (i:Int),.bool true,.bool true] []) (oE:=.exit 0 ((nB b dI (.int .i64 (xs.length:Int)) (.int .i64 (xs.length:Int))).set 6 (.bool false)) [])
  (fun _=>FP) (fun _ _ _ h=>by cases h) (fun _ _ h=>by cases h)
  (fun i hi hp=>by
   rw [round [] i hi]
   exact RH (R7.1 hp hi))
  (fun i hi hp=>by
   rw [round [] i hi]
   exact RK fun h=>hp fun _=>h)
  (by simp [j9]) (show xs.length<300 by omega) with ⟨i,hi,hp,hj,lp⟩ | ⟨hp,lp⟩
 ·have lp:bM (evC (aw GC Fw) 300 j9) jx 300 (nB b dI (.int .i64 (xs.length:Int)) (.int .i64 0)) []=_:=lp
  have e:dw gj xs=(i:Int):=bY hi (by
   cases h':gj xs[i] with
   | true=>rfl
   | false=>exact absurd (fun _=>h') hp) (fun j hj'=>R7.1 (hj j hj') (by omega))
  rw [e]
  simp [My,hlen,Ff lp,-ag,-aq]
 ·have lp:bM (evC (aw GC Fw) 300 j9) jx 300 (nB b dI (.int .i64 (xs.length:Int)) (.int .i64 0)) []=_:=lp
  have e:dw gj xs = -1:=cd fun i hi=>R7.1 (hp i hi) hi
  rw [e]
  simp [My,hlen,Ff lp,-ag,-aq]
def ir:List (FuncId × aJ):=[(95,aG 4 M65)]
@[simp] theorem Oa:aE ir 95=some (aG 4 M65):=rfl
theorem tc:∀f M,aE ir f=some M->au Try.prog GC f M:=ai (au.of_pure Jl 4) aB
def M39:aU:=fun args=>evP (aw GC ir) 0 AG 1 args
theorem EI:ax Try.prog GC 83 M39:=ax.of_ev (E:=aw GC ir) (ay tc) rfl M2 yn 1 fun _ _ h=>⟨0,h⟩
theorem Mb {xs:List (Int × Int)} (hb:SlA 2 (xs.map chA) b) (hl:xs.length<=200):M39 [b,dI]=some (.bool (xs.any gj)):=by
 have h:=L3 hb hl
 have b1:=iO (dw gj xs)
 rw [cP] at b1
 have f1:∀A n,frz A n b=b:=fun A n=>hb.frz n
 have f2:∀A,frz A 4 dI=dI:=fun A=>rfl
 obtain ⟨z,hz⟩:∃z,z=dw gj xs:=⟨_,rfl⟩
 rw [<-hz] at h b1
 unfold M39
 rw [aN _ _ rfl]
 simp [AG,h,b1,f1,f2,bc,-ag,-frz]
def Bo:List (FuncId × aJ):=[(82,aG 4 M38),(83,aG 4 M39)]
@[simp] theorem Pq:aE Bo 82=some (aG 4 M38):=rfl
@[simp] theorem Pp:aE Bo 83=some (aG 4 M39):=rfl
theorem wi:∀f M,aE Bo f=some M->au Try.prog GC f M:=ai (au.of_pure iR 4) (ai (au.of_pure EI 4) aB)
def M16:aU:=fun args=>evP (aw GC Bo) 0 si 1 args
theorem nL:ax Try.prog GC 62 M16:=ax.of_ev (E:=aw GC Bo) (ay wi) rfl LD vu 1 fun _ _ h=>⟨0,h⟩
theorem Gt (T:aT):decide (aY T)=(!(T.ch.any gj) && ((decide (0<=T.pick) && decide (T.pick<=10000)) && ((decide (0<=T.place) && decide (T.place<=10000)) && (decide (0<=T.travel) && decide (T.travel<=10000)))) && (decide (1<=T.ch.length) && (decide (T.ch.length<=4) && (decide (T.blades=1) || decide (T.blades=2))))):=by
 have e:(!(T.ch.any gj))=decide (∀x∈T.ch,ky x):=by
  rw [Tf,Sr,SC,Tm]
  unfold gj
  simp
 rw [e]
 rw [Tf,Sr]
 unfold aY
 simp only [Sr,Sd,Bool.or_eq_true]
 constructor
 ·rintro ⟨h1,⟨h2,h3,h4⟩,h5,h6,h7⟩
  exact ⟨⟨h1,h2,h3,h4⟩,h5,h6,h7⟩
 ·rintro ⟨⟨h1,h2,h3,h4⟩,h5,h6,h7⟩
  exact ⟨h1,⟨h2,h3,h4⟩,h5,h6,h7⟩
theorem oq {T:aT} (hb:SlA 2 (T.ch.map chA) chv) (hl:T.ch.length<=200):M16 [af T chv]=some (.bool (decide (aY T))):=by
 obtain ⟨ch,pk,pl,tr,bl⟩:=T
 simp only at hb hl
 rw [Gt]
 simp only
 have hlen:=hb.len
 rw [RN] at hlen
 have m:=Mb hb hl
 have f1:∀A n,frz A n chv=chv:=fun A n=>hb.frz n
 have m1:M38 [.int .i64 pk,.int .i64 10000]=some (.bool (decide (0<=pk) && decide (pk<=10000))):=rfl
 have m2:M38 [.int .i64 pl,.int .i64 10000]=some (.bool (decide (0<=pl) && decide (pl<=10000))):=rfl
 have m3:M38 [.int .i64 tr,.int .i64 10000]=some (.bool (decide (0<=tr) && decide (tr<=10000))):=rfl
 have b1:ag .geq (.int .i64 (ch.length:Int)) (.int .i64 1)=some (.bool (decide (1<=ch.length))):=by simp [ag]; omega
 have b2:ag .leq (.int .i64 (ch.length:Int)) (.int .i64 4)=some (.bool (decide (ch.length<=4))):=by simp [ag]; omega
 have b3:ag .eql (.int .i64 bl) (.int .i64 1)=some (.bool (decide (bl=1))):=by simp [ag]
 have b4:ag .eql (.int .i64 bl) (.int .i64 2)=some (.bool (decide (bl=2))):=by simp [ag]
 have fw:∀A:ac,A[1]?=some (.row 1 false [Di])->frz A 4 (.func (.func 84) [] [.ptr 1 0 0])=dI:=fun A hA=>by simp [frz,hA,dI,Di]
 have ld0:∀A:ac,A[0]?=some (.row 5 false [.agg [chv,.int .i64 pk,.int .i64 pl,.int .i64 tr,.int .i64 bl]])->ab false 1 A (.ptr 0 0 0)=some chv/\ab false 1 A (.ptr 0 0 1)=some (.int .i64 pk)/\ab false 1 A (.ptr 0 0 2)=some (.int .i64 pl)/\ab false 1 A (.ptr 0 0 3)=some (.int .i64 tr)/\ab false 1 A (.ptr 0 0 4)=some (.int .i64 bl):=fun A hA=>by
  refine ⟨?_,?_,?_,?_,?_⟩ <;> simp only [ab,hA] <;> rfl
 obtain ⟨l0,l1,l2,l3,l4⟩:=ld0 [.row 5 false [.agg [chv,.int .i64 pk,.int .i64 pl,.int .i64 tr,.int .i64 bl]],.row 1 false [Di]] rfl
 have fw':=fw [.row 5 false [.agg [chv,.int .i64 pk,.int .i64 pl,.int .i64 tr,.int .i64 bl]],.row 1 false [Di]] rfl
 rw [show af ⟨ch,pk,pl,tr,bl⟩ chv=.agg [chv,.int .i64 pk,.int .i64 pl,.int .i64 tr,.int .i64 bl] from rfl]
 unfold Di at l0 l1 l2 l3 l4 fw'
 have l5:ab false 1 [.row 5 false [.agg [chv,.int .i64 pk,.int .i64 pl,.int .i64 tr,.int .i64 bl]],.row 1 false [.func (.func 82) [] []]] (.ptr 1 0 0)=some (.func (.func 82) [] []):=rfl
 obtain ⟨d0,h0⟩:∃d,d=ch.any gj:=⟨_,rfl⟩
 obtain ⟨d1,h1⟩:∃d,d=(decide (0<=pk) && decide (pk<=10000)):=⟨_,rfl⟩
 obtain ⟨d2,h2⟩:∃d,d=(decide (0<=pl) && decide (pl<=10000)):=⟨_,rfl⟩
 obtain ⟨d3,h3⟩:∃d,d=(decide (0<=tr) && decide (tr<=10000)):=⟨_,rfl⟩
 obtain ⟨d4,h4⟩:∃d,d=decide (1<=ch.length):=⟨_,rfl⟩
 obtain ⟨d5,h5⟩:∃d,d=decide (ch.length<=4):=⟨_,rfl⟩
 obtain ⟨d6,h6⟩:∃d,d=decide (bl=1):=⟨_,rfl⟩
 obtain ⟨d7,h7⟩:∃d,d=decide (bl=2):=⟨_,rfl⟩
 rw [<-h0] at m ⊢
 rw [<-h1] at m1 ⊢
 rw [<-h2] at m2 ⊢
 rw [<-h3] at m3 ⊢
 rw [<-h4] at b1 ⊢
 rw [<-h5] at b2 ⊢
 rw [<-h6] at b3 ⊢
 rw [<-h7] at b4 ⊢
 unfold M16
 rw [aN _ _ rfl]
 cases d1
 ·cases d0 <;> simp [si,m,m1,f1,fw',l0,l1,l5,aM,bc,-frz,-ag,-aq,-ab]
 cases d2
 ·cases d0 <;> simp [si,m,m1,m2,f1,fw',l0,l1,l2,l5,aM,bc,-frz,-ag,-aq,-ab]
 cases d3
 ·cases d0 <;> simp [si,m,m1,m2,m3,f1,fw',l0,l1,l2,l3,l5,aM,bc,-frz,-ag,-aq,-ab]
 cases d0
 rotate_left
 ·simp [si,m,m1,m2,m3,f1,fw',l0,l1,l2,l3,l5,aM,bc,-frz,-ag,-aq,-ab]
 cases d4
 ·simp [si,m,m1,m2,m3,b1,hlen,f1,fw',l0,l1,l2,l3,l5,aM,bc,-frz,-ag,-aq,-ab]
 cases d5
 ·simp [si,m,m1,m2,m3,b1,b2,hlen,f1,fw',l0,l1,l2,l3,l5,aM,bc,-frz,-ag,-aq,-ab]
 cases d6 <;> simp [si,m,m1,m2,m3,b1,b2,b3,b4,hlen,f1,fw',l0,l1,l2,l3,l4,l5,aM,bc,-frz,-ag,-aq,-ab]
end Clu
namespace Clu
open Go
open Cy (GC iO dw bY cd cP aM bc aA)
theorem bA (a b:Int):ag .eql (.int .i64 a) (.int .i64 b)=some (.bool (decide (a=b))):=by simp [ag]
theorem cB (a b:Int):ag .neq (.int .i64 a) (.int .i64 b)=some (.bool (decide (a≠b))):=by simp [ag]
theorem aZ {a b:Int} (h : -9223372036854775808<=a+b/\a+b<=9223372036854775807):ag .add (.int .i64 a) (.int .i64 b)=some (.int .i64 (a+b)):=by
 simp only [ag]; rw [RH trivial,eV h]
theorem bD {a b:Int} (h : -9223372036854775808<=a-b/\a-b<=9223372036854775807):ag .sub (.int .i64 a) (.int .i64 b)=some (.int .i64 (a-b)):=by
 simp only [ag]; rw [RH trivial,eV h]
theorem cK (a b:Int):ag .leq (.int .i64 a) (.int .i64 b)=some (.bool (decide (a<=b))):=by simp [ag]
theorem bK (a b:Int):ag .lss (.int .i64 a) (.int .i64 b)=some (.bool (decide (a<b))):=by simp [ag]
def M64:aU:=fun args=>evP (aw GC []) 300 Mz 1 args
theorem xu:ax Try.prog GC 49 M64:=ax.of_ev (E:=aw GC []) (ay aB) rfl at64 K3 1 fun _ _ h=>⟨300,h⟩
def isI (v x:Int):Bool:=decide (v=x)
theorem sY (hb:SlA 1 (aj xs) b) (hl:xs.length<=200) (v:Int):M64 [b,.int .i64 v]=some (.int .i64 (dw (isI v) xs)):=by
 have hlen:=hb.len
 rw [aA] at hlen
 have round:∀(A:ac) (i:Nat) (hi:i<xs.length),run (aw GC []) 300 [.code kc] (nC b (.int .i64 v) (.int .i64 (xs.length:Int)) (.int .i64 (i:Int))) A =
   if isI v xs[i]=false then some (.normal (nC b (.int .i64 v) (.int .i64 (xs.length:Int)) (.int .i64 ((i+1:Nat):Int))) A) else some (.ret [b,.int .i64 v,.int .i64 (i:Int),.int .i64 (i:Int),.int .i64 (xs.length:Int),.int .i64 (i:Int),.bool true,.bool true] A):=fun A i hi=>by
  have x1:=hb.int (A:=A) _ _ (Rx hi) .i64
  have m:=bA v xs[i]
  have b1:=a9 i xs.length .i64
  rw [RE hi] at b1
  have b3:=aV i (by omega)
  obtain ⟨i1,hi1⟩:∃i1:Nat,i1=i+1:=⟨_,rfl⟩
  rw [<-hi1] at b3 ⊢
  obtain ⟨d,hd⟩:∃d,d=isI v xs[i]:=⟨_,rfl⟩
  rw [show decide (v=xs[i])=d from hd.symm] at m
  rw [<-hd]
  cases d with
  | false=>simp [kc,x1,m,b1,b3,-ag,-ae,-aq]
  | true=>simp [kc,x1,m,b1,-ag,-ae,-aq]
 unfold M64
 rw [aN _ _ rfl]
 rcases cY (E:=aw GC []) (fuel:=300) (a:=kc) (mask:=jy) (fun i=>nC b (.int .i64 v) (.int .i64 (xs.length:Int)) (.int .i64 (i:Int))) (fun _=>[]) xs.length (fun i=>¬ ∀hi:i<xs.length,isI v xs[i]=false)
  (oF:=fun i=>.ret [b,.int .i64 v,.int .i64 (i:Int),.int .i64 (i:Int),.int .i64 (xs.length:Int),.int .i64 (i:Int),.bool true,.bool true] []) (oE:=.exit 0 ((nC b (.int .i64 v) (.int .i64 (xs.length:Int)) (.int .i64 (xs.length:Int))).set 6 (.bool false)) [])
  (fun _=>FQ) (fun _ _ _ h=>by cases h) (fun _ _ h=>by cases h)
  (fun i hi hp=>by
   rw [round [] i hi]
   exact RH (R7.1 hp hi))
  (fun i hi hp=>by
   rw [round [] i hi]
   exact RK fun h=>hp fun _=>h)
  (by simp [kc]) (show xs.length<300 by omega) with ⟨i,hi,hp,hj,lp⟩ | ⟨hp,lp⟩
 ·have lp:bM (evC (aw GC []) 300 kc) jy 300 (nC b (.int .i64 v) (.int .i64 (xs.length:Int)) (.int .i64 0)) []=_:=lp
  have e:dw (isI v) xs=(i:Int):=bY hi (by
   cases h':isI v xs[i] with
   | true=>rfl
   | false=>exact absurd (fun _=>h') hp) (fun j hj'=>R7.1 (hj j hj') (by omega))
  rw [e]
  simp [Mz,hlen,Fg lp,-ag,-aq]
 ·have lp:bM (evC (aw GC []) 300 kc) jy 300 (nC b (.int .i64 v) (.int .i64 (xs.length:Int)) (.int .i64 0)) []=_:=lp
  have e:dw (isI v) xs = -1:=cd fun i hi=>R7.1 (hp i hi) hi
  rw [e]
  simp [Mz,hlen,Fg lp,-ag,-aq]
def x5:List (FuncId × aJ):=[(49,aG 4 M64)]
@[simp] theorem Of:aE x5 49=some (aG 4 M64):=rfl
theorem we:∀f M,aE x5 f=some M->au Try.prog GC f M:=ai (au.of_pure xu 4) aB
def M35:aU:=fun args=>evP (aw GC x5) 0 wF 1 args
theorem rX:ax Try.prog GC 64 M35:=ax.of_ev (E:=aw GC x5) (ay we) rfl LA vq 1 fun _ _ h=>⟨0,h⟩
theorem Iv (v:Int) (xs:List Int):xs.any (isI v)=decide (v∈xs):=by
 rw [Tf,List.any_eq_true,Sr]
 unfold isI
 constructor
 ·rintro ⟨x,hx,h⟩
  rw [Ue h]; exact hx
 ·exact fun h=>⟨v,h,by simp⟩
theorem vN (hb:SlA 1 (aj xs) b) (hl:xs.length<=200) (v:Int):M35 [b,.int .i64 v]=some (.bool (decide (v∈xs))):=by
 have h:=sY hb hl v
 have b1:=iO (dw (isI v) xs)
 rw [cP,Iv] at b1
 have f1:∀A n,frz A n b=b:=fun A n=>hb.frz n
 obtain ⟨z,hz⟩:∃z,z=dw (isI v) xs:=⟨_,rfl⟩
 rw [<-hz] at h b1
 obtain ⟨d,hd⟩:∃d,d=decide (v∈xs):=⟨_,rfl⟩
 rw [<-hd] at b1 ⊢
 unfold M35
 rw [aN _ _ rfl]
 simp [wF,h,b1,f1,aM,bc,-ag,-frz]
def M43:aU:=fun args=>evP (aw GC []) 300 Dc 1 args
theorem Jv:ax Try.prog GC 68 M43:=ax.of_ev (E:=aw GC []) (ay aB) rfl P4 BP 1 fun _ _ h=>⟨300,h⟩
theorem yD {a:AV} (ha:SlA 1 (aj xs) a) (hb:SlA 1 (aj ys) b) (hl:xs.length<=200):M43 [a,b]=some (.bool (decide (xs=ys))):=by
 have hla:=ha.len
 have hlb:=hb.len
 rw [aA] at hla hlb
 have b0:ag .neq (.int .i64 (xs.length:Int)) (.int .i64 (ys.length:Int))=some (.bool (decide (xs.length≠ys.length))):=by
  rw [cB]
  congr 2
  exact Tz.2 (by omega)
 by_cases h0:xs.length≠ys.length
 ·rw [RE h0] at b0
  rw [RD (fun h=>h0 (by rw [h]))]
  unfold M43
  rw [aN _ _ rfl]
  simp [Dc,hla,hlb,b0,-ag,-aq]
 have h0:xs.length=ys.length:=R7.1 h0
 rw [RD (by omega)] at b0
 have round:∀(A:ac) (i:Nat) (hi:i<xs.length),run (aw GC []) 300 [.code fH] (gq a b (.int .i64 (xs.length:Int)) (.int .i64 (i:Int))) A =
   if xs[i]=ys[i]'(by omega) then some (.normal (gq a b (.int .i64 (xs.length:Int)) (.int .i64 ((i+1:Nat):Int))) A) else some (.ret [a,b,.bool false,.int .i64 (i:Int),.undef,.int .i64 (xs.length:Int),.int .i64 (i:Int),.bool true,.bool true] A):=fun A i hi=>by
  have x1:=ha.int (A:=A) _ _ (Rx hi) .i64
  have x2:=hb.int (A:=A) _ _ (Rx (show i<ys.length by omega)) .i64
  have m:=cB xs[i] (ys[i]'(by omega))
  have b1:=a9 i xs.length .i64
  rw [RE hi] at b1
  have b3:=aV i (by omega)
  obtain ⟨i1,hi1⟩:∃i1:Nat,i1=i+1:=⟨_,rfl⟩
  rw [<-hi1] at b3 ⊢
  by_cases hd:xs[i]=ys[i]'(by omega)
  ·rw [RD (by simpa using hd)] at m
   rw [RH hd]
   simp [fH,x1,x2,m,b1,b3,-ag,-ae,-aq]
  ·rw [RE (by simpa using hd)] at m
   rw [RK hd]
   simp [fH,x1,x2,m,b1,-ag,-ae,-aq]
 unfold M43
 rw [aN _ _ rfl]
 rcases cY (E:=aw GC []) (fuel:=300) (a:=fH) (mask:=ej) (fun i=>gq a b (.int .i64 (xs.length:Int)) (.int .i64 (i:Int))) (fun _=>[]) xs.length (fun i=>¬ ∀(hi:i<xs.length),xs[i]=ys[i]'(by omega))
  (oF:=fun i=>.ret [a,b,.bool false,.int .i64 (i:Int),.undef,.int .i64 (xs.length:Int),.int .i64 (i:Int),.bool true,.bool true] []) (oE:=.exit 0 ((gq a b (.int .i64 (xs.length:Int)) (.int .i64 (xs.length:Int))).set 7 (.bool false)) [])
  (fun _=>qN) (fun _ _ _ h=>by cases h) (fun _ _ h=>by cases h)
  (fun i hi hp=>by
   rw [round [] i hi]
   exact RH (R7.1 hp hi))
  (fun i hi hp=>by
   rw [round [] i hi]
   exact RK fun h=>hp fun _=>h)
  (by simp [fH]) (show xs.length<300 by omega) with ⟨i,hi,hp,hj,lp⟩ | ⟨hp,lp⟩
 ·have lp:bM (evC (aw GC []) 300 fH) ej 300 (gq a b (.int .i64 (xs.length:Int)) (.int .i64 0)) []=_:=lp
  rw [RD (fun h=>hp (fun _=>by subst h; rfl))]
  simp [Dc,hla,hlb,b0,uM lp,-ag,-aq]
 ·have lp:bM (evC (aw GC []) 300 fH) ej 300 (gq a b (.int .i64 (xs.length:Int)) (.int .i64 0)) []=_:=lp
  rw [RE (SO h0 fun i h1 h2=>R7.1 (hp i h1) h1)]
  simp [Dc,hla,hlb,b0,uM lp,-ag,-aq]
def H36:aJ:=fun _=>cc (aw GC []) 0 zC
theorem nK:au Try.prog GC 65 H36:=(b7 (ay aB) rfl IX sO bG.nil).y
theorem Mm (h:be) {n:Nat} {gr:Bool} {es:List AV} (hA:A[id]?=some (.row 1 gr es)):H36 h [.sl id 0 n] A=some (.csl id 0 n,A):=by
 unfold H36
 rw [bh _ _ rfl]
 have e:eA 1 A none (.int .i64 (n:Int)) (.int .i64 (n:Int)) (.sl id 0 n)=some (.csl id 0 n):=by
  simp [eA,ce,hA,du,loB,hiB]
 simp [zC,e,-eA,dE]
def M44:aU:=fun args=>evP (aw GC []) 0 DP 1 args
theorem Ab:ax Try.prog GC 69 M44:=ax.of_ev (E:=aw GC []) (ay aB) rfl PZ BO 1 fun _ _ h=>⟨0,h⟩
def fV (T:aT):Int:=if T.blades=2 then T.pick+T.place else T.pick+T.travel+T.place
theorem Ma {T:aT} (chv:AV) (h:aY T):M44 [af T chv]=some (.int .i64 (fV T)):=by
 obtain ⟨_,⟨h1,h2,h3⟩,_⟩:=h
 obtain ⟨ch,pk,pl,tr,bl⟩:=T
 simp only at h1 h2 h3
 have b0:=bA bl 2
 have b1:=aZ (a:=pk) (b:=pl) (by omega)
 have b2:=aZ (a:=pk) (b:=tr) (by omega)
 have b3:=aZ (a:=pk+tr) (b:=pl) (by omega)
 rw [show af ⟨ch,pk,pl,tr,bl⟩ chv=.agg [chv,.int .i64 pk,.int .i64 pl,.int .i64 tr,.int .i64 bl] from rfl]
 have l:∀A:ac,A[0]?=some (.row 5 false [.agg [chv,.int .i64 pk,.int .i64 pl,.int .i64 tr,.int .i64 bl]])->ab false 1 A (.ptr 0 0 1)=some (.int .i64 pk)/\ab false 1 A (.ptr 0 0 2)=some (.int .i64 pl)/\ab false 1 A (.ptr 0 0 3)=some (.int .i64 tr)/\ab false 1 A (.ptr 0 0 4)=some (.int .i64 bl):=fun A hA=>by
  refine ⟨?_,?_,?_,?_⟩ <;> simp only [ab,hA] <;> rfl
 obtain ⟨l1,l2,l3,l4⟩:=l [.row 5 false [.agg [chv,.int .i64 pk,.int .i64 pl,.int .i64 tr,.int .i64 bl]]] rfl
 obtain ⟨s1,hs1⟩:∃s,s=pk+pl:=⟨_,rfl⟩
 obtain ⟨s2,hs2⟩:∃s,s=pk+tr:=⟨_,rfl⟩
 obtain ⟨s3,hs3⟩:∃s,s=s2+pl:=⟨_,rfl⟩
 rw [<-hs1] at b1
 rw [<-hs2] at b2 b3
 rw [<-hs3] at b3
 have e:fV ⟨ch,pk,pl,tr,bl⟩=if bl=2 then s1 else s3:=by
  unfold fV; simp only; rw [hs3,hs2,hs1]
 rw [e]
 unfold M44
 rw [aN _ _ rfl]
 by_cases hb:bl=2
 ·rw [RE hb] at b0
  rw [RH hb]
  simp [DP,b0,b1,l1,l2,l4,-ag,-ab]
 ·rw [RD hb] at b0
  rw [RK hb]
  simp [DP,b0,b2,b3,l1,l2,l3,l4,-ag,-ab]
end Clu
namespace Clu
open Go
open Cy (GC iO dw bY cd cP aM bc aA)
def ext (n:Nat) (one:Bool):Nat->List Int->List (List Int)
 | 0,_=>[]
 | k+1,b=>if b.length=n+1 then [b] else (List.range' 1 n).flatMap fun (i:Nat)=>if !decide ((i:Int)∈b) && (one || decide (i=b.length)) then ext n one k (b++[(i:Int)]) else []
def aP (T:aT):List (List Int):=if aY T then ext T.ch.length (decide (T.blades=1)) (T.ch.length+1) [0] else []
theorem wZ (n:Nat) (one:Bool) (hn:n<=4):∀(k:Nat) (b:List Int),(ext n one (k+1) b).length<=4 ^ k\/b.length+k<n+1
 | 0,b=>by
  unfold ext
  split
  ·left; simp
  ·by_cases h:b.length+0<n+1
   ·exact .inr h
   ·left
    rw [List.flatMap_eq_nil_iff.2 fun i _=>by split <;> rfl]
    simp
 | k+1,b=>by
  by_cases h:b.length+(k+1)<n+1
  ·exact .inr h
  left
  rw [ext]
  split
  ·have:1<=4 ^ (k+1):=Nat.one_le_pow _ _ (by omega)
   simpa using this
  ·have key:∀l:List Nat,(l.flatMap fun (i:Nat)=>if !decide ((i:Int)∈b) && (one || decide (i=b.length)) then ext n one (k+1) (b++[(i:Int)]) else []).length<=l.length*4 ^ k:=fun l=>by
    induction l with
    | nil=>simp
    | cons i l ih=>
     rw [TQ,RU,Sv,RY,Un]
     have:(if !decide ((i:Int)∈b) && (one || decide (i=b.length)) then ext n one (k+1) (b++[(i:Int)]) else []).length<=4 ^ k:=by
      split
      ·rcases wZ n one hn k (b++[(i:Int)]) with h1 | h1
       ·exact h1
       ·simp at h1; omega
      ·simp
     omega
   refine ST (key _) ?_
   rw [List.length_range',Nat.pow_succ,Nat.mul_comm]
   exact Nat.mul_le_mul_left _ hn
def jZ:Ent->Prop
 | .row _ _ (e :: _)=>(∀a b c,e≠.sl a b c)/\e≠.nilS
 | _=>False
def rL (A B:ac):Prop:=A.length<=B.length/\∀(j:Nat) (e:Ent),A[j]?=some e->jZ e->B[j]?=some e
theorem rL.refl (A:ac):rL A A:=⟨RR _,fun _ _ h _=>h⟩
theorem rL.trans {C:ac} (h:rL A B) (k:rL B C):rL A C:=⟨ST h.1 k.1,fun j e h1 h2=>k.2 j e (h.2 j e h1 h2) h2⟩
theorem rL.app (A:ac) (X:ac):rL A (A++X):=⟨by simp,fun j e h _=>by
 have:=(Rv.1 h).1
 rw [RC this]; exact h⟩
theorem mW (h:l≠[]) (s:Nat) (g:Bool):jZ (.row s g (aj l)):=by
 cases l with
 | nil=>exact absurd rfl h
 | cons x r=>simp [jZ,aj]
theorem nR (s:Nat) (g:Bool) (a b c:Nat) (r:List AV):¬ jZ (.row s g (.sl a b c :: r)):=fun h=>h.1 a b c rfl
def tp (x:Nat × List Int):AV:=.sl x.1 0 x.2.length
def Iz (A:ac) (op:Nat) (v:AV) (pl:List (Nat × List Int)):Prop:=
 (∀x∈pl,x.2≠[]/\A[x.1]?=some (.row 1 false (aj x.2)))/\((v=.nilS/\pl=[])\/∃id gr,v=.sl id 0 pl.length/\id≠op/\pl≠[]/\A[id]?=some (.row 1 gr (pl.map tp)))
def kS (A:ac) (op:Nat) (ll:List (List Int)):Prop:=∃v pl,pl.map (·.2)=ll/\A[op]?=some (.row 1 false [v])/\Iz A op v pl
theorem kS.app (h:kS A op ll) (X:ac):kS (A++X) op ll:=by
 obtain ⟨v,pl,h1,h2,h3,h4⟩:=h
 have st:=(rL.app A X).2
 have hk:∀(j:Nat) (e:Ent),A[j]?=some e->(A++X)[j]?=some e:=fun j e h=>by
  rw [RC (Rv.1 h).1]; exact h
 refine ⟨v,pl,h1,hk _ _ h2,fun x hx=>⟨(h3 x hx).1,hk _ _ (h3 x hx).2⟩,?_⟩
 rcases h4 with h4 | ⟨id,gr,h4,h5,h6,h7⟩
 ·exact .inl h4
 ·exact .inr ⟨id,gr,h4,h5,h6,hk _ _ h7⟩
theorem jt (h:A[op]?=some (.row 1 false [v])) (hv:v=.nilS\/∃a b c,v=.sl a b c):ab false 1 A (.ptr op 0 0)=some v:=by
 rcases hv with rfl | ⟨a,b,c,rfl⟩ <;> simp [h]
theorem Iz.form (h:Iz A op v pl):v=.nilS\/∃a b c,v=.sl a b c:=by
 rcases h.2 with h | ⟨id,gr,h,_⟩
 ·exact .inl h.1
 ·exact .inr ⟨_,_,_,h⟩
theorem kS.add (h:kS A op ll) (hl:l≠[]) (hb:ll.length<=100000) {r y:Nat} (hr:A[r]?=some (.row 1 false (aj l))) (hy:A[y]?=some (.row 1 false [.sl r 0 l.length])) (hyo:y≠op) :
  ∃v id n A3,A[op]?=some (.row 1 false [v])/\(v=.nilS\/∃a b c,v=.sl a b c)/\aR 1 24 A v (.sl y 0 1)=some (.sl id 0 n,A3)/\A3[op]?=some (.row 1 false [v]) /\
   kS (A3.set op (.row 1 false [.sl id 0 n])) op (ll++[l])/\rL A (A3.set op (.row 1 false [.sl id 0 n])):=by
 obtain ⟨v,pl,h1,h2,h3⟩:=h
 have hf:=h3.form
 obtain ⟨h3,h4⟩:=h3
 have hsrc:a8 1 A (.sl y 0 1)=some [.sl r 0 l.length]:=by simp [a8,hy]
 have hop:op<A.length:=(Rv.1 h2).1
 have hnp:¬ jZ (.row 1 false [v]):=by
  rcases hf with rfl | ⟨a,b,c,rfl⟩
  ·exact fun h=>h.2 rfl
  ·exact nR _ _ _ _ _ _
 have hne:∀j (m:List Int),m≠[]->A[j]?=some (.row 1 false (aj m))->j≠op:=fun j m hm hj e=>by
  subst e
  rw [h2] at hj
  injection hj with hj
  exact hnp (hj ▸ mW hm 1 false)
 have hll:pl.length=ll.length:=by rw [<-h1]; simp
 rcases h4 with ⟨rfl,rfl⟩ | ⟨id,gr,rfl,hid,hpl,hrow⟩
 ·have ho:(A++[Ent.row 1 false [AV.sl r 0 l.length]])[op]?=some (.row 1 false [.nilS]):=by rw [RC hop]; exact h2
  refine ⟨.nilS,A.length,1,A++[.row 1 false [.sl r 0 l.length]],h2,.inl rfl,?_,ho,?_,?_⟩
  ·unfold aR; rw [hsrc]; simp
  ·have hset:∀j,j≠op->((A++[Ent.row 1 false [AV.sl r 0 l.length]]).set op (.row 1 false [.sl A.length 0 1]))[j]?=(A++[Ent.row 1 false [AV.sl r 0 l.length]])[j]?:=fun j hj=>RF (fun e=>hj e.symm)
   refine ⟨.sl A.length 0 1,[(r,l)],by rw [<-h1]; rfl,by rw [RO (by simp; omega)],fun x hx=>?_,.inr ⟨A.length,false,rfl,by omega,by simp,?_⟩⟩
   ·rw [Sg] at hx
    subst hx
    refine ⟨hl,?_⟩
    rw [hset _ (hne _ _ hl hr),RC (Rv.1 hr).1]
    exact hr
   ·rw [hset _ (by omega)]
    simp [tp]
  ·refine ⟨by simp,fun j e hj he=>?_⟩
   have:j≠op:=fun e'=>by
    subst e'; rw [h2] at hj; injection hj with hj; exact hnp (hj ▸ he)
   rw [RF (fun e'=>this e'.symm),RC (Rv.1 hj).1]
   exact hj
 ·have hidl:id<A.length:=(Rv.1 hrow).1
  have hlen:0<pl.length:=Tn.2 hpl
  have hnp2:¬ jZ (.row 1 gr (pl.map tp)):=by
   cases pl with
   | nil=>exact absurd rfl hpl
   | cons x r=>exact nR _ _ _ _ _ _
  have hnid:∀j (m:List Int),m≠[]->A[j]?=some (.row 1 false (aj m))->j≠id:=fun j m hm hj e=>by
   subst e
   rw [hrow] at hj
   injection hj with hj
   exact hnp2 (hj ▸ mW hm 1 false)
  refine ⟨.sl id 0 pl.length,id,pl.length+1,A.set id (.row 1 true (pl.map tp++[.sl r 0 l.length])),h2,.inr ⟨_,_,_,rfl⟩,?_,?_,?_,?_⟩
  ·have hz:pl.length≠0:=by omega
   have hb2:(pl.length+1)*24<=140737488355328:=by omega
   unfold aR; rw [hsrc]; simp [hrow,hz,hb2]
  ·rw [RF hid]; exact h2
  ·have hset:∀j,j≠op->j≠id->((A.set id (Ent.row 1 true (pl.map tp++[AV.sl r 0 l.length]))).set op (.row 1 false [.sl id 0 (pl.length+1)]))[j]?=A[j]?:=fun j hj hj2=>by
    rw [RF (fun e=>hj e.symm),RF (fun e=>hj2 e.symm)]
   refine ⟨.sl id 0 (pl.length+1),pl++[(r,l)],by rw [<-h1]; simp,by rw [RO (by simpa using hop)],fun x hx=>?_,.inr ⟨id,true,by simp,hid,by simp,?_⟩⟩
   ·rcases TN.1 hx with hx | hx
    ·have:=h3 x hx
     exact ⟨this.1,by rw [hset _ (hne _ _ this.1 this.2) (hnid _ _ this.1 this.2)]; exact this.2⟩
    ·rw [Sg] at hx
     subst hx
     exact ⟨hl,by rw [hset _ (hne _ _ hl hr) (hnid _ _ hl hr)]; exact hr⟩
   ·rw [RF (fun e=>hid e.symm),RO hidl,SH]
    rfl
  ·refine ⟨by simp,fun j e hj he=>?_⟩
   have n1:j≠op:=fun e'=>by
    subst e'; rw [h2] at hj; injection hj with hj; exact hnp (hj ▸ he)
   have n2:j≠id:=fun e'=>by
    subst e'; rw [hrow] at hj; injection hj with hj; exact hnp2 (hj ▸ he)
   rw [RF (fun e=>n1 e.symm),RF (fun e=>n2 e.symm)]
   exact hj
end Clu
namespace Clu
open Go
open Cy (GC iO dw bY cd cP aM bc aA)
def nP (np op cp ep:Nat):AV:=.func (.func 63) [] [.ptr np 0 0,.ptr op 0 0,.ptr cp 0 0,.ptr ep 0 0]
structure X34 (A:ac) (np op cp ep n:Nat) (T:aT) (chv:AV):Prop where
 hn:A[np]?=some (.row 1 false [.int .i64 (n:Int)])
 hc:A[cp]?=some (.row 5 false [af T chv])
 he:A[ep]?=some (.row 1 false [nP np op cp ep])
theorem X34.step {n:Nat} {T:aT} (h:X34 A np op cp ep n T chv) (s:rL A B):X34 B np op cp ep n T chv:=
 ⟨s.2 _ _ h.hn (by simp [jZ]),s.2 _ _ h.hc (by simp [jZ,af]),s.2 _ _ h.he (by simp [jZ,nP])⟩
def wS:List (FuncId × aJ):=[(64,aG 4 M35),(65,H36)]
def H34:Nat->aJ
 | 0=>fun h=>cc (dX GC wS h) 40 vT
 | k+1=>fun h=>cc (dX GC ((63,H34 k) :: wS) h) 40 vT
theorem xC:∀f M,aE wS f=some M->au Try.prog GC f M:=ai (au.of_pure rX 4) (ai nK aB)
theorem pQ:∀k,au Try.prog GC 63 (H34 k)
 | 0=>cC xC IY sP
 | k+1=>cC (ai (pQ k) xC) IY sP
theorem mw {b:List Int} (h:A[id]?=some (.row 1 g (aj b))) (n:Nat):frz A (n+1) (.sl id 0 b.length)=.fs 1 (aj b):=by
 have e:((aj b).drop 0).take b.length=aj b:=by
  rw [RT,<-aA b,Se]
 have hm:∀l:List Int,(aj l).map (frz A n)=aj l:=fun l=>by
  unfold aj
  rw [Tc]
  exact Sb fun x _=>aM A n .i64 x
 simp only [frz,h]
 rw [e,hm]
theorem E8 (fs:List (FuncId × aJ)) (h:be) {n:Nat} {T:aT} (hX:X34 A np op cp ep n T chv) (ho:kS A op ll) {b:List Int} (hb:A[id]?=some (.row 1 false (aj b))) (hlen:b.length=n+1) (hn4:n<=4) (hll:ll.length<=100000) :
  ∃B,cc (dX GC fs h) 40 vT [.sl id 0 b.length,.ptr np 0 0,.ptr op 0 0,.ptr cp 0 0,.ptr ep 0 0] A=some (.tup [],B)/\kS B op (ll++[b])/\rL A B:=by
 have hbne:b≠[]:=fun e=>by rw [e] at hlen; simp at hlen
 have l0:ab false 1 A (.ptr np 0 0)=some (.int .i64 (n:Int)):=by simp [hX.hn]
 have b1:=aV n (by omega)
 have b2:ag .eql (.int .i64 (b.length:Int)) (.int .i64 ((n+1:Nat):Int))=some (.bool true):=by rw [bA,RE (by omega)]
 have e1:bU 1 8 (.int .i64 0) A (.int .i64 ((n+1:Nat):Int)) (.int .i64 ((n+1:Nat):Int))=some (.sl A.length 0 b.length,A++[.row 1 false (List.replicate b.length (.int .i64 0))]):=by
  rw [hlen]
  simp only [bU]
  rw [RH ⟨by omega,by omega,by omega,by omega,rfl,rfl,by omega⟩]
  simp
 have e2:oe 1 (A++[.row 1 false (List.replicate b.length (.int .i64 0))]) (.sl A.length 0 b.length) (.sl id 0 b.length)=some (.int .i64 (b.length:Int),A++[.row 1 false (aj b)]):=by
  have hs:a8 1 (A++[Ent.row 1 false (List.replicate b.length (AV.int .i64 0))]) (.sl id 0 b.length)=some (aj b):=by
   rw [wc (gr:=false) (es:=aj b) (by rw [RC (Rv.1 hb).1]; exact hb)]
   rw [RT,<-aA b,Se]
  simp only [oe,hs]
  rw [Tv]
  simp only
  rw [RH ⟨trivial,by omega,trivial⟩,aA,Nat.min_self]
  congr 2
  rw [R8 _ _ (RR _),Tq]
  simp only [SB,List.take_zero,S7,Tp]
  rw [<-aA b,Se,List.drop_of_length_le (by simp),Sk]
 obtain ⟨A1,hA1⟩:∃X,X=A++[Ent.row 1 false (aj b)]:=⟨_,rfl⟩
 have hl1:A1.length=A.length+1:=by rw [hA1]; simp
 have e3:aI 1 [.sl A.length 0 b.length] A1=some (.sl (A.length+1) 0 1,A1++[.row 1 false [.sl A.length 0 b.length]]):=by
  simp [aI,hl1]
 have hop:op<A.length:=by obtain ⟨v,pl,_,h2,_⟩:=ho; exact (Rv.1 h2).1
 have ho2:kS (A1++[.row 1 false [.sl A.length 0 b.length]]) op ll:=by rw [hA1]; exact (ho.app _).app _
 obtain ⟨v,id2,n2,A3,k1,k2,k3,k4,k5,k6⟩:=ho2.add hbne hll (r:=A.length) (y:=A.length+1) (by rw [hA1]; simp) (by rw [hA1]; simp) (by omega)
 have l1:ab false 1 A1 (.ptr op 0 0)=some v:=jt (by rw [<-k1,RC (by omega)]) k2
 have e5:az 1 A3 (.ptr op 0 0) (.sl id2 0 n2)=some (A3.set op (.row 1 false [.sl id2 0 n2])):=by
  rcases k2 with rfl | ⟨_,_,_,rfl⟩ <;> simp [k4]
 obtain ⟨A2,hA2⟩:∃X,X=A1++[Ent.row 1 false [.sl A.length 0 b.length]]:=⟨_,rfl⟩
 obtain ⟨B,hB⟩:∃X,X=A3.set op (.row 1 false [.sl id2 0 n2]):=⟨_,rfl⟩
 obtain ⟨A0,hA0⟩:∃X,X=A++[Ent.row 1 false (List.replicate b.length (AV.int .i64 0))]:=⟨_,rfl⟩
 have hst:rL A A2:=by rw [hA2,hA1,R1]; exact rL.app _ _
 rw [<-hA2] at e3 k3 k6
 rw [<-hB] at e5 k5 k6
 rw [<-hA0] at e1 e2
 rw [<-hA1] at e2
 refine ⟨B,?_,k5,hst.trans k6⟩
 rw [bh _ _ rfl]
 obtain ⟨n1,hn1⟩:∃x,x=n+1:=⟨_,rfl⟩
 rw [<-hn1] at b1 b2 e1
 obtain ⟨bl,hbl⟩:∃x,x=b.length:=⟨_,rfl⟩
 rw [<-hbl] at b2 e1 e2 e3 ⊢
 obtain ⟨r1,hr1⟩:∃x,x=A.length:=⟨_,rfl⟩
 rw [<-hr1] at e1 e2 e3 k3
 obtain ⟨r2,hr2⟩:∃x,x=r1+1:=⟨_,rfl⟩
 rw [<-hr2] at e3 k3
 simp [vT,l0,l1,b1,b2,e1,e2,e3,k3,e5,-ag,-ab,-az,-bU,-aI]
theorem xc {b:List Int} (h:A[id]?=some (.row 1 g (aj b))) (hb:b.length<=1000) (x:Int):cU 1 8 A (.csl id 0 b.length) (.fs 1 [.int .i64 x])=some (.sl A.length 0 (b.length+1),A++[.row 1 false (aj (b++[x]))]):=by
 have e:((aj b).drop 0).take b.length=aj b:=by
  rw [RT,<-aA b,Se]
 have hb2:(b.length+1)*8<=140737488355328:=by omega
 simp only [cU,dr,h,e]
 rw [RH ⟨trivial,by omega,by omega,by simp,by simpa using hb2⟩]
 simp [aj]
theorem wv {h:be} {fs:List (FuncId × aJ)} {H:aJ} (hH:aE fs 63=some H) (h35:aE fs 64=some (aG 4 M35)) (h36:aE fs 65=some H36) {n:Nat} {T:aT} (hX:X34 A np op cp ep n T chv) {b:List Int} (hb:A[id]?=some (.row 1 false (aj b))) (hbl:b.length<=100) (hi:i<=n) (hn4:n<=4)
  (hr:(!decide ((i:Int)∈b) && (decide (T.blades=1) || decide (i=b.length)))=true->H h [.sl A.length 0 (b.length+1),.ptr np 0 0,.ptr op 0 0,.ptr cp 0 0,.ptr ep 0 0] (A++[.row 1 false (aj (b++[(i:Int)]))])=some (.tup [],B))
  (hr0:(!decide ((i:Int)∈b) && (decide (T.blades=1) || decide (i=b.length)))=false->B=A) (hkeep:B[ep]?=A[ep]?) :
  run (dX GC fs h) 40 [.code dV] (iJ (.sl id 0 b.length) (.ptr np 0 0) (.ptr cp 0 0) (.ptr ep 0 0) (.int .i64 (i:Int))) A=some (.normal (iJ (.sl id 0 b.length) (.ptr np 0 0) (.ptr cp 0 0) (.ptr ep 0 0) (.int .i64 ((i+1:Nat):Int))) B):=by
 obtain ⟨ch,pk,pl,tr,bd⟩:=T
 have l0:ab false 1 A (.ptr np 0 0)=some (.int .i64 (n:Int)):=by simp [hX.hn]
 have hc:A[cp]?=some (.row 5 false [.agg [chv,.int .i64 pk,.int .i64 pl,.int .i64 tr,.int .i64 bd]]):=hX.hc
 have l1:ab false 1 A (.ptr cp 0 4)=some (.int .i64 bd):=by simp [hc]
 have l2:ab false 1 A (.ptr ep 0 0)=some (nP np op cp ep):=by simp [hX.he,nP]
 have b0:ag .leq (.int .i64 (i:Int)) (.int .i64 (n:Int))=some (.bool true):=by rw [cK,RE (by omega)]
 have b3:=aV i (by omega)
 have f1:=mw hb 3
 have f2:∀A,frz A 4 (.int .i64 (i:Int))=.int .i64 (i:Int):=fun A=>aM A 4 .i64 i
 have m:=vN (xs:=b) (b:=.fs 1 (aj b)) (.inr rfl) (by omega) (i:Int)
 have b1:ag .eql (.int .i64 bd) (.int .i64 1)=some (.bool (decide (bd=1))):=bA _ _
 have b2:ag .eql (.int .i64 (i:Int)) (.int .i64 (b.length:Int))=some (.bool (decide (i=b.length))):=by
  rw [bA]; congr 2; exact Tz.2 (by omega)
 have c1:=Mm h (n:=b.length) hb
 have c2:=xc hb (by omega) (i:Int)
 have ne1:¬ ep=A.length:=by have:=(Rv.1 hX.he).1; omega
 have ne2:¬ ep=id:=fun e=>by
  have h1:=hX.he
  rw [e,hb] at h1
  injection h1 with h1
  injection h1 with _ _ h1
  cases b with
  | nil=>cases h1
  | cons x r=>injection h1 with h1; cases h1
 simp only at hr hr0
 obtain ⟨i1,hi1⟩:∃i1:Nat,i1=i+1:=⟨_,rfl⟩
 rw [<-hi1] at b3 ⊢
 obtain ⟨d1,h1⟩:∃d,d=decide ((i:Int)∈b):=⟨_,rfl⟩
 rw [<-h1] at m hr hr0
 obtain ⟨d2,h2⟩:∃d,d=decide (bd=1):=⟨_,rfl⟩
 rw [<-h2] at b1 hr hr0
 obtain ⟨d3,h3⟩:∃d,d=decide (i=b.length):=⟨_,rfl⟩
 rw [<-h3] at b2 hr hr0
 obtain ⟨A1,hA1⟩:∃X,X=A++[Ent.row 1 false (aj (b++[(i:Int)]))]:=⟨_,rfl⟩
 have k1:A1[ep]?=A[ep]?:=by rw [hA1,RC (Rv.1 hX.he).1]
 rw [<-hA1] at c2 hr
 obtain ⟨r,hrr⟩:∃x,x=A.length:=⟨_,rfl⟩
 rw [<-hrr] at c2 hr
 obtain ⟨bl,hbl⟩:∃x,x=b.length:=⟨_,rfl⟩
 rw [<-hbl] at b2 c1 c2 f1 hr ⊢
 obtain ⟨bl1,hbl1⟩:∃x,x=bl+1:=⟨_,rfl⟩
 rw [<-hbl1] at c2 hr
 obtain ⟨F,hF⟩:∃x,x=AV.fs 1 (aj b):=⟨_,rfl⟩
 rw [<-hF] at m f1
 cases d1 with
 | true=>
  have:=hr0 rfl; subst this
  cases d2 <;> cases d3 <;> simp [dV,l0,b0,b3,f1,f2,h35,m,-frz,-ag,-ab]
 | false=>
  cases d2 with
  | true=>
   have hr:=hr rfl
   simp [dV,l0,l1,l2,b0,b1,b3,f1,f2,h35,h36,hH,m,hc,c1,c2,hr,nP,ne1,ne2,-frz,-ag,-ab]
  | false=>
   cases d3 with
   | true=>
    have hr:=hr rfl
    simp [dV,l0,l1,l2,b0,b1,b2,b3,f1,f2,h35,h36,hH,m,hc,c1,c2,hr,nP,ne1,ne2,-frz,-ag,-ab]
   | false=>
    have:=hr0 rfl; subst this
    simp [dV,l0,l1,b0,b1,b2,b3,f1,f2,h35,m,hc,-frz,-ag,-ab]
def fE (n:Nat) (one:Bool) (k:Nat) (b:List Int) (i:Nat):List (List Int):=if !decide ((i:Int)∈b) && (one || decide (i=b.length)) then ext n one k (b++[(i:Int)]) else []
theorem Rg (h:be) {n:Nat} {T:aT} (hn4:n<=4) (d:Nat):∀(k:Nat) {A:ac} {ll:List (List Int)} {id:Nat} {b:List Int},b.length+k=n+1->1<=b.length->X34 A np op cp ep n T chv->kS A op ll->A[id]?=some (.row 1 false (aj b))->ll.length+4 ^ k<=100000 ->
  ∃B,H34 (d+k) h [.sl id 0 b.length,.ptr np 0 0,.ptr op 0 0,.ptr cp 0 0,.ptr ep 0 0] A=some (.tup [],B)/\kS B op (ll++ext n (decide (T.blades=1)) (k+1) b)/\rL A B
 | 0,A,ll,id,b,hk,hb1,hX,ho,hb,hll=>by
  have e:ext n (decide (T.blades=1)) (0+1) b=[b]:=by unfold ext; rw [RH (by omega)]
  rw [e]
  cases d with
  | zero=>exact E8 _ h hX ho hb (by omega) hn4 (by omega)
  | succ d=>exact E8 _ h hX ho hb (by omega) hn4 (by omega)
 | k+1,A,ll,id,b,hk,hb1,hX,ho,hb,hll=>by
  have hbne:b≠[]:=fun e=>by rw [e] at hb1; simp at hb1
  have e:ext n (decide (T.blades=1)) (k+1+1) b=(List.range' 1 n).flatMap (fE n (decide (T.blades=1)) (k+1) b):=by
   rw [ext,RK (by omega)]; rfl
  rw [e]
  have loop:∀(c i:Nat) (A:ac) (ll:List (List Int)) (m:Nat),i+c=n+1->X34 A np op cp ep n T chv->kS A op ll->A[id]?=some (.row 1 false (aj b))->ll.length+c*4 ^ k<=100000->c<m ->
    ∃B,bM (evC (dX GC ((63,H34 (d+k)) :: wS) h) 40 dV) dR m (iJ (.sl id 0 b.length) (.ptr np 0 0) (.ptr cp 0 0) (.ptr ep 0 0) (.int .i64 (i:Int))) A=some (.exit 0 ((iJ (.sl id 0 b.length) (.ptr np 0 0) (.ptr cp 0 0) (.ptr ep 0 0) (.int .i64 ((n+1:Nat):Int))).set 8 (.bool false)) B) /\
     kS B op (ll++(List.range' i c).flatMap (fE n (decide (T.blades=1)) (k+1) b))/\rL A B:=by
   intro c
   induction c with
   | zero=>
    intro i A ll m hi hX ho hb hll hm
    obtain ⟨m,rfl⟩:∃j,m=j+1:=⟨m-1,by omega⟩
    refine ⟨A,?_,by simpa using ho,rL.refl _⟩
    have l0:ab false 1 A (.ptr np 0 0)=some (.int .i64 (n:Int)):=by simp [hX.hn]
    have b0:ag .leq (.int .i64 ((n+1:Nat):Int)) (.int .i64 (n:Int))=some (.bool false):=by rw [cK,RD (by omega)]
    obtain rfl:i=n+1:=by omega
    obtain ⟨i1,hi1⟩:∃i1:Nat,i1=n+1:=⟨_,rfl⟩
    rw [<-hi1] at b0 ⊢
    rw [aD,qP]
    simp [dV,l0,b0,-ag,-ab]
   | succ c ihc=>
    intro i A ll m hi hX ho hb hll hm
    obtain ⟨m,rfl⟩:∃j,m=j+1:=⟨m-1,by omega⟩
    rw [RY,Un] at hll
    have hrow:∀(j:Nat) (e:Ent),A[j]?=some e->jZ e->(A++[Ent.row 1 false (aj (b++[(i:Int)]))])[j]?=some e:=(rL.app A _).2
    have hst:=rL.app A [Ent.row 1 false (aj (b++[(i:Int)]))]
    obtain ⟨B,hB1,hB2,hB3,hB4⟩:∃B,((!decide ((i:Int)∈b) && (decide (T.blades=1) || decide (i=b.length)))=true->H34 (d+k) h [.sl A.length 0 (b.length+1),.ptr np 0 0,.ptr op 0 0,.ptr cp 0 0,.ptr ep 0 0] (A++[.row 1 false (aj (b++[(i:Int)]))])=some (.tup [],B)) /\
      ((!decide ((i:Int)∈b) && (decide (T.blades=1) || decide (i=b.length)))=false->B=A)/\kS B op (ll++fE n (decide (T.blades=1)) (k+1) b i)/\rL A B:=by
     by_cases hd:(!decide ((i:Int)∈b) && (decide (T.blades=1) || decide (i=b.length)))=true
     ·obtain ⟨B,h1,h2,h3⟩:=Rg h hn4 d k (A:=A++[.row 1 false (aj (b++[(i:Int)]))]) (ll:=ll) (id:=A.length) (b:=b++[(i:Int)]) (by simp; omega) (by simp) (hX.step hst) (ho.app _) (by simp) (by omega)
      rw [RU,SU] at h1
      refine ⟨B,fun _=>h1,fun e=>(by rw [hd] at e; cases e),?_,hst.trans h3⟩
      unfold fE
      rw [RH hd]; exact h2
     ·refine ⟨A,fun e=>absurd e hd,fun _=>rfl,?_,rL.refl _⟩
      unfold fE
      rw [RK hd,Sk]; exact ho
    have hX2:=hX.step hB4
    have hb2:=hB4.2 _ _ hb (mW hbne 1 false)
    have hr:=wv (fs:=(63,H34 (d+k)) :: wS) (h:=h) rfl rfl rfl hX hb (by omega) (i:=i) (by omega) hn4 hB1 hB2 (by rw [hX2.he,hX.he])
    have hfl:(fE n (decide (T.blades=1)) (k+1) b i).length<=4 ^ k:=by
     unfold fE
     split
     ·rcases wZ n (decide (T.blades=1)) hn4 k (b++[(i:Int)]) with h1 | h1
      ·exact h1
      ·simp at h1; omega
     ·simp
    obtain ⟨C,c1,c2,c3⟩:=ihc (i+1) B _ m (by omega) hX2 hB3 hb2 (by rw [RU]; omega) (by omega)
    refine ⟨C,?_,?_,hB4.trans c3⟩
    ·rw [aD,qP,hr]
     exact c1
    ·rw [List.range'_succ,TQ,<-R1]
     exact c2
  have hp:n*4 ^ k<=4 ^ (k+1):=by
   rw [Nat.pow_succ,Nat.mul_comm]
   exact Nat.mul_le_mul_left _ hn4
  obtain ⟨B,h1,h2,h3⟩:=loop n 1 A ll 40 (by omega) hX ho hb (by omega) (by omega)
  refine ⟨B,?_,h2,h3⟩
  have l0:ab false 1 A (.ptr np 0 0)=some (.int .i64 (n:Int)):=by simp [hX.hn]
  have b1:=aV n (by omega)
  have b2:ag .eql (.int .i64 (b.length:Int)) (.int .i64 ((n+1:Nat):Int))=some (.bool false):=by rw [bA,RD (by omega)]
  obtain ⟨n1,hn1⟩:∃x,x=n+1:=⟨_,rfl⟩
  rw [<-hn1] at b1 b2 h1
  rw [show H34 (d+(k+1))=fun h=>cc (dX GC ((63,H34 (d+k)) :: wS) h) 40 vT from rfl]
  simp only
  rw [bh _ _ rfl]
  have h1:bM (evC (dX GC ((63,H34 (d+k)) :: wS) h) 40 dV) dR 40 (iJ (.sl id 0 b.length) (.ptr np 0 0) (.ptr cp 0 0) (.ptr ep 0 0) (.int .i64 1)) A=_:=h1
  simp [vT,l0,b1,b2,uN h1,-ag,-ab]
end Clu
namespace Clu
open Go
open Cy (GC iO dw bY cd cP aM bc aA)
def dM (ll:List (List Int)):AV:=slA 1 (ll.map fun l=>slA 1 (aj l))
theorem xD (h:l≠[]):slA 1 (aj l)=.fs 1 (aj l):=by
 cases l with
 | nil=>exact absurd rfl h
 | cons x r=>rfl
theorem Iz.frz (h:Iz A op v pl) (k:Nat):Proofs.Ytkcjhljbgjpklaa.frz A (k+3) v=dM (pl.map (·.2)):=by
 obtain ⟨h1,h2⟩:=h
 rcases h2 with ⟨rfl,rfl⟩ | ⟨id,gr,rfl,_,hne,hr⟩
 ·rfl
 ·have e:((pl.map tp).drop 0).take pl.length=pl.map tp:=by
   rw [RT]
   conv=>lhs; rw [show pl.length=(pl.map tp).length by simp]
   rw [Se]
  have hm:(pl.map tp).map (Proofs.Ytkcjhljbgjpklaa.frz A (k+2))=(pl.map (·.2)).map fun l=>slA 1 (aj l):=by
   rw [Tc,Tc]
   refine Sb fun x hx=>?_
   obtain ⟨n1,n2⟩:=h1 x hx
   show Proofs.Ytkcjhljbgjpklaa.frz A (k+1+1) (.sl x.1 0 x.2.length)=_
   rw [mw n2]
   exact (xD n1).symm
  rw [show k+3=(k+2)+1 from rfl]
  simp only [Proofs.Ytkcjhljbgjpklaa.frz,hr]
  rw [e,hm]
  unfold dM
  cases pl with
  | nil=>exact absurd rfl hne
  | cons x r=>rfl
theorem m8 {b:List Int} (h:A[id]?=some (.row 1 g (aj b))) (n:Nat):bo A (n+2) (.sl id 0 b.length)=true:=by
 simp only [bo,h,RT,RZ]
 intro x hx
 obtain ⟨y,_,rfl⟩:=Sa.1 (List.mem_of_mem_take hx)
 rfl
theorem Iz.fresh (h:Iz A op v pl) (k:Nat):bo A (k+4) v=true:=by
 obtain ⟨h1,h2⟩:=h
 rcases h2 with ⟨rfl,rfl⟩ | ⟨id,gr,rfl,_,hne,hr⟩
 ·rfl
 ·rw [show k+4=(k+3)+1 from rfl]
  simp only [bo,hr,RT]
  rw [RZ]
  intro y hy
  obtain ⟨x,hx,rfl⟩:=Sa.1 (List.mem_of_mem_take hy)
  obtain ⟨n1,n2⟩:=h1 x hx
  exact m8 n2 (k+1)
def x6:List (FuncId × aJ):=[(62,aG 4 M16),(63,H34 4)]
@[simp] theorem PC:aE x6 62=some (aG 4 M16):=rfl
@[simp] theorem Px:aE x6 63=some (H34 4):=rfl
theorem pR:∀f M,aE x6 f=some M->au Try.prog GC f M:=ai (au.of_pure nL 4) (ai (pQ 4) aB)
def M14:aU:=fun args=>evF (aw GC x6) 0 mY 4 args
theorem nM:cm Try.prog GC 43 M14:=cm.of_ev (E:=aw GC x6) (ay pR) rfl Er mK 4 fun _ _ h=>⟨0,h⟩
theorem aK {T:aT} (h:∀A n,frz A n chv=chv) (A:ac) (n:Nat):frz A (n+1) (af T chv)=af T chv:=by
 simp [af,frz,h,aM]
theorem bC {T:aT} (h:∀n,bu n chv=true) (n:Nat):bu (n+1) (af T chv)=true:=by
 simp [af,bu,h]
theorem _root_.Go.Proofs.Ytkcjhljbgjpklaa.SlA.noRef {e:Nat} {xs:List AV} (h:SlA e xs a) (n:Nat):bu n a=true:=by
 rcases h with ⟨rfl,_⟩ | rfl <;> cases n <;> rfl
theorem ot {T:aT} (hb:SlA 2 (T.ch.map chA) chv) (hl:T.ch.length<=200):M14 [af T chv]=some (dM (aP T)):=by
 have m:=oq hb hl
 have hlen:=hb.len
 rw [RN] at hlen
 have ft:=fun A=>aK (T:=T) (fun A n=>hb.frz (A:=A) n) A 3
 have nr:=bC (T:=T) (fun n=>hb.noRef n) 3
 unfold M14 aP
 by_cases hv:aY T
 ·rw [RH hv]
  rw [RE hv] at m
  have hn4:=hv.2.2.2.1
  obtain ⟨A0,hA0⟩:∃X:ac,X=[.row 5 false [af T chv],.row 1 false [.int .i64 (T.ch.length:Int)],.row 1 false [.nilS],.row 1 false [nP 1 2 0 3],.row 1 false [.int .i64 0]]:=⟨_,rfl⟩
  have hX:X34 A0 1 2 0 3 T.ch.length T chv:=by rw [hA0]; exact ⟨rfl,rfl,rfl⟩
  have ho:kS A0 2 []:=⟨.nilS,[],rfl,by rw [hA0]; rfl,fun _ h=>by simp at h,.inl ⟨rfl,rfl⟩⟩
  have hp:4 ^ T.ch.length<=4 ^ 4:=Nat.pow_le_pow_right (by omega) hn4
  obtain ⟨B,h1,⟨v,pl,h2,h3,h4⟩,h5⟩:=Rg (fun _ _ _=>none) (d:=4-T.ch.length) hn4 T.ch.length (A:=A0) (ll:=[]) (id:=4) (b:=[0]) (by simp; omega) (by simp) hX ho (by rw [hA0]; rfl) (by simp; omega)
  rw [show 4-T.ch.length+T.ch.length=4 by omega] at h1
  have lv:=jt h3 h4.form
  have hfz:=h4.frz 1
  have hfr:=h4.fresh 0
  rw [h2,S7] at hfz
  have h1:H34 4 (fun _ _ _=>none) [.sl 4 0 1,.ptr 1 0 0,.ptr 2 0 0,.ptr 0 0 0,.ptr 3 0 0] A0=some (.tup [],B):=h1
  rw [gI _ _ rfl]
  obtain ⟨ch,pk,pl2,tr,bd⟩:=T
  simp only at hlen h1 hA0 m ft hfz
  rw [show ∀c,af ⟨ch,pk,pl2,tr,bd⟩ c=.agg [c,.int .i64 pk,.int .i64 pl2,.int .i64 tr,.int .i64 bd] from fun _=>rfl] at hA0 ft m
  rw [show ∀c,af ⟨ch,pk,pl2,tr,bd⟩ c=.agg [c,.int .i64 pk,.int .i64 pl2,.int .i64 tr,.int .i64 bd] from fun _=>rfl]
  have lt:ab true 5 [Ent.row 5 false [.agg [chv,.int .i64 pk,.int .i64 pl2,.int .i64 tr,.int .i64 bd]]] (.ptr 0 0 0)=some (.agg [chv,.int .i64 pk,.int .i64 pl2,.int .i64 tr,.int .i64 bd]):=rfl
  have le:∀k,ab false 1 [Ent.row 5 false [.agg [chv,.int .i64 pk,.int .i64 pl2,.int .i64 tr,.int .i64 bd]],.row 1 false [.int .i64 k],.row 1 false [.nilS],.row 1 false [.func (.func 63) [] [.ptr 1 0 0,.ptr 2 0 0,.ptr 0 0 0,.ptr 3 0 0]]] (.ptr 3 0 0)=some (.func (.func 63) [] [.ptr 1 0 0,.ptr 2 0 0,.ptr 0 0 0,.ptr 3 0 0]):=fun k=>rfl
  have lc:ab false 1 [Ent.row 5 false [.agg [chv,.int .i64 pk,.int .i64 pl2,.int .i64 tr,.int .i64 bd]]] (.ptr 0 0 0)=some chv:=rfl
  obtain ⟨k,hk⟩:∃k,k=(ch.length:Int):=⟨_,rfl⟩
  rw [<-hk] at hlen hA0
  obtain ⟨R,hR⟩:∃R,R=dM (ext ch.length (decide (bd=1)) (ch.length+1) [0]):=⟨_,rfl⟩
  rw [<-hR] at hfz ⊢
  unfold nP at hA0
  rw [hA0] at h1
  simp [mY,m,ft,hlen,h1,lv,hfz,hfr,lc,lt,le,-frz,-aq,-ab]
 ·rw [RK hv]
  rw [RD hv] at m
  rw [gI _ _ rfl]
  obtain ⟨ch,pk,pl2,tr,bd⟩:=T
  rw [show ∀c,af ⟨ch,pk,pl2,tr,bd⟩ c=.agg [c,.int .i64 pk,.int .i64 pl2,.int .i64 tr,.int .i64 bd] from fun _=>rfl] at ft m
  rw [show ∀c,af ⟨ch,pk,pl2,tr,bd⟩ c=.agg [c,.int .i64 pk,.int .i64 pl2,.int .i64 tr,.int .i64 bd] from fun _=>rfl]
  simp [mY,m,ft,bo,-frz]
  rfl
def MK:List (FuncId × aJ):=[(68,aG 4 M43)]
@[simp] theorem N5:aE MK 68=some (aG 4 M43):=rfl
theorem GY:∀f M,aE MK f=some M->au Try.prog GC f M:=ai (au.of_pure Jv 4) aB
def M42:aU:=fun args=>evP (aw GC MK) 0 AE 1 args
theorem rW:ax Try.prog GC 67 M42:=ax.of_ev (E:=aw GC MK) (ay GY) rfl Ly vo 1 fun _ _ h=>⟨0,h⟩
theorem yE (ha:SlA 1 (aj xs) a) (hb:SlA 1 (aj ys) b) (hl:xs.length<=200):M42 [a,.fp [b]]=some (.bool (decide (xs=ys))):=by
 have m:=yD ha hb hl
 have f1:∀A n,frz A n a=a:=fun A n=>ha.frz n
 have f2:∀A n,frz A n b=b:=fun A n=>hb.frz n
 have l1:∀A,ab false 1 A (.fp [b])=some b:=fun A=>rfl
 obtain ⟨d,hd⟩:∃d,d=decide (xs=ys):=⟨_,rfl⟩
 rw [<-hd] at m ⊢
 unfold M42
 rw [aN _ _ rfl]
 simp [AE,m,f1,f2,l1,bc,-frz,-ab]
def Fv:List (FuncId × aJ):=[(67,aG 4 M42)]
@[simp] theorem NK:aE Fv 67=some (aG 4 M42):=rfl
theorem GN:∀f M,aE Fv f=some M->au Try.prog GC f M:=ai (au.of_pure rW 4) aB
def M66:aU:=fun args=>evP (aw GC Fv) 300 Mx 1 args
theorem Jk:ax Try.prog GC 85 M66:=ax.of_ev (E:=aw GC Fv) (ay GN) rfl at66 KY 1 fun _ _ h=>⟨300,h⟩
def isO (o l:List Int):Bool:=decide (l=o)
def fnO (ov:AV):AV:=.func (.func 67) [] [.fp [ov]]
theorem LZ (ho:SlA 1 (aj o) ov) (hl:ll.length<=256) (hl2:∀l∈ll,l.length<=200):M66 [dM ll,fnO ov]=some (.int .i64 (dw (isO o) ll)):=by
 have hb:=ba 1 (ll.map fun l=>slA 1 (aj l))
 rw [show slA 1 (ll.map fun l=>slA 1 (aj l))=dM ll from rfl] at hb
 obtain ⟨b,hbv⟩:∃b,b=dM ll:=⟨_,rfl⟩
 rw [<-hbv] at hb ⊢
 have hlen:=hb.len
 rw [RN] at hlen
 have round:∀(A:ac) (i:Nat) (hi:i<ll.length),run (aw GC Fv) 300 [.code j8] (nA b (fnO ov) (.int .i64 (ll.length:Int)) (.int .i64 (i:Int))) A =
   if isO o ll[i]=false then some (.normal (nA b (fnO ov) (.int .i64 (ll.length:Int)) (.int .i64 ((i+1:Nat):Int))) A) else some (.ret [b,fnO ov,.int .i64 (i:Int),.int .i64 (i:Int),.int .i64 (ll.length:Int),.int .i64 (i:Int),.bool true,.bool true] A):=fun A i hi=>by
  have he:(ll.map fun l=>slA 1 (aj l))[i]?=some (slA 1 (aj ll[i])):=by simp [hi]
  have hs:=ba 1 (aj ll[i])
  have x1:=hb.index1 (A:=A) he (by rcases hs with ⟨h,_⟩ | h <;> rw [h] <;> rfl) (by rcases hs with ⟨h,_⟩ | h <;> rw [h] <;> rfl) .i64
  have ld:ab false 1 A (.fp [slA 1 (aj ll[i])])=some (slA 1 (aj ll[i])):=by rcases hs with ⟨h,_⟩ | h <;> rw [h] <;> rfl
  have m:=yE hs ho (hl2 _ (RM hi))
  have b1:=a9 i ll.length .i64
  rw [RE hi] at b1
  have b3:=aV i (by omega)
  have fz:∀A,frz A 4 (slA 1 (aj ll[i]))=slA 1 (aj ll[i]):=fun A=>hs.frz 4
  have fz2:∀A,frz A 4 (.fp [ov])=.fp [ov]:=fun A=>rfl
  obtain ⟨i1,hi1⟩:∃i1:Nat,i1=i+1:=⟨_,rfl⟩
  rw [<-hi1] at b3 ⊢
  obtain ⟨d,hd⟩:∃d,d=isO o ll[i]:=⟨_,rfl⟩
  rw [show decide (ll[i]=o)=d from hd.symm] at m
  rw [<-hd]
  obtain ⟨c,hc⟩:∃c,c=slA 1 (aj ll[i]):=⟨_,rfl⟩
  rw [<-hc] at m ld fz x1
  cases d with
  | false=>simp [j8,fnO,x1,ld,m,fz,fz2,b1,b3,-frz,-ag,-ae,-aq,-ab]
  | true=>simp [j8,fnO,x1,ld,m,fz,fz2,b1,-frz,-ag,-ae,-aq,-ab]
 unfold M66
 rw [aN _ _ rfl]
 rcases cY (E:=aw GC Fv) (fuel:=300) (a:=j8) (mask:=jw) (fun i=>nA b (fnO ov) (.int .i64 (ll.length:Int)) (.int .i64 (i:Int))) (fun _=>[]) ll.length (fun i=>¬ ∀hi:i<ll.length,isO o ll[i]=false)
  (oF:=fun i=>.ret [b,fnO ov,.int .i64 (i:Int),.int .i64 (i:Int),.int .i64 (ll.length:Int),.int .i64 (i:Int),.bool true,.bool true] []) (oE:=.exit 0 ((nA b (fnO ov) (.int .i64 (ll.length:Int)) (.int .i64 (ll.length:Int))).set 6 (.bool false)) [])
  (fun _=>FO) (fun _ _ _ h=>by cases h) (fun _ _ h=>by cases h)
  (fun i hi hp=>by
   rw [round [] i hi]
   exact RH (R7.1 hp hi))
  (fun i hi hp=>by
   rw [round [] i hi]
   exact RK fun h=>hp fun _=>h)
  (by simp [j8]) (show ll.length<300 by omega) with ⟨i,hi,hp,hj,lp⟩ | ⟨hp,lp⟩
 ·have lp:bM (evC (aw GC Fv) 300 j8) jw 300 (nA b (fnO ov) (.int .i64 (ll.length:Int)) (.int .i64 0)) []=_:=lp
  have e:dw (isO o) ll=(i:Int):=bY hi (by
   cases h':isO o ll[i] with
   | true=>rfl
   | false=>exact absurd (fun _=>h') hp) (fun j hj'=>R7.1 (hj j hj') (by omega))
  rw [e]
  simp [Mx,hlen,Fe lp,-ag,-aq]
 ·have lp:bM (evC (aw GC Fv) 300 j8) jw 300 (nA b (fnO ov) (.int .i64 (ll.length:Int)) (.int .i64 0)) []=_:=lp
  have e:dw (isO o) ll = -1:=cd fun i hi=>R7.1 (hp i hi) hi
  rw [e]
  simp [Mx,hlen,Fe lp,-ag,-aq]
def ML:List (FuncId × aJ):=[(85,aG 4 M66)]
@[simp] theorem N6:aE ML 85=some (aG 4 M66):=rfl
theorem GZ:∀f M,aE ML f=some M->au Try.prog GC f M:=ai (au.of_pure Jk 4) aB
def M41:aU:=fun args=>evP (aw GC ML) 0 AF 1 args
theorem pO:ax Try.prog GC 66 M41:=ax.of_ev (E:=aw GC ML) (ay GZ) rfl Lz vp 1 fun _ _ h=>⟨0,h⟩
theorem Iu (o:List Int) (ll:List (List Int)):ll.any (isO o)=decide (o∈ll):=by
 rw [Tf,List.any_eq_true,Sr]
 unfold isO
 constructor
 ·rintro ⟨x,hx,h⟩
  rw [<-Ue h]; exact hx
 ·exact fun h=>⟨o,h,by simp⟩
theorem yF (ho:SlA 1 (aj o) ov) (hl:ll.length<=256) (hl2:∀l∈ll,l.length<=200):M41 [dM ll,fnO ov]=some (.bool (decide (o∈ll))):=by
 have h:=LZ ho hl hl2
 have b1:=iO (dw (isO o) ll)
 rw [cP,Iu] at b1
 have f1:∀A n,frz A n (dM ll)=dM ll:=fun A n=>(ba 1 _).frz n
 have f2:∀A,frz A 4 (fnO ov)=fnO ov:=fun A=>rfl
 obtain ⟨z,hz⟩:∃z,z=dw (isO o) ll:=⟨_,rfl⟩
 rw [<-hz] at h b1
 obtain ⟨d,hd⟩:∃d,d=decide (o∈ll):=⟨_,rfl⟩
 rw [<-hd] at b1 ⊢
 obtain ⟨b,hbv⟩:∃b,b=dM ll:=⟨_,rfl⟩
 rw [<-hbv] at h f1 ⊢
 unfold M41
 rw [aN _ _ rfl]
 simp [AF,h,b1,f1,f2,bc,-ag,-frz]
end Clu
namespace Clu
open Go
open Cy (GC iO dw bY cd cP aM bc aA br db cR cT dW okA)
section
variable {A:ac} {es:List AV} {k:Nat}
theorem nw (_hk:es.length=k) (hj:j<k):aa j (A++[.row k false [.agg es]]) (.ptr A.length 0 0)=some (.ptr A.length 0 j):=by
 simp [aa,hj]
theorem pz (_hk:es.length=k) {x:AV} (hx:es[j]?=some x):ab false 1 (A++[.row k false [.agg es]]) (.ptr A.length 0 j)=some x:=by
 simp [ab,cn,hx]
theorem Gx (_hk:es.length=k) (_hk1:k≠1):ab true k (A++[.row k false [.agg es]]) (.ptr A.length 0 0)=some (.agg es):=by
 simp [ab,uE]
theorem zR (hk:es.length=k) (hk1:1<k) (hj:j<k) {x:AV} (hs:x.solid=true) (hc:cellsOf x=[x]):az 1 (A++[.row k false [.agg es]]) (.ptr A.length 0 j) x=some (A++[.row k false [.agg (es.set j x)]]):=by
 have e:es.take j++[x]++es.drop (j+1)=es.set j x:=by
  rw [List.set_eq_take_append_cons_drop,RH (by omega)]; simp
 have e1:bq (.agg es) k j x=some (.agg (es.set j x)):=by
  unfold bq
  rw [hc,RK (by simp; omega)]
  simp only [SU]
  rw [RH ⟨hk,by omega⟩,e]
 simp only [az,Tv,Sz]
 rw [RH ⟨trivial,hs,by rw [hc]; rfl,by omega⟩,e1]
 simp
end
@[simp] theorem ss (A:ac) (x:AV):ab false 1 A (.fp [x])=some x:=rfl
@[simp] theorem QR (A:ac) (x y:AV) (r:List AV):ab true (r.length+2) A (.fp (x :: y :: r))=some (.agg (x :: y :: r)):=by simp [ab]
@[simp] theorem fh (A:ac) (x y:AV):ab true 2 A (.fp [x,y])=some (.agg [x,y]):=rfl
def M46:aU:=fun args=>evP (aw GC []) 0 HM 4 args
theorem z9:ax Try.prog GC 71 M46:=ax.of_ev (E:=aw GC []) (ay aB) rfl PY BN 4 fun _ _ h=>⟨0,h⟩
def ze:AV:=.agg [.nilF,.func (.func 86) [] [],.func (.func 87) [] []]
theorem CZ:M46 []=some ze:=by
 have s:eU 3 [.row 1 false [.nilF,.nilF,.nilF]] (.ptr 0 0 0) ze=some [.row 1 false [.nilF,.func (.func 86) [] [],.func (.func 87) [] []]]:=by
  simp [eU,ze,AV.solid,cellsOf]
 unfold M46
 rw [aN _ _ rfl]
 unfold ze at s
 simp [HM,ze,s,AV.solid,cellsOf]
def MF:List (FuncId × aJ):=[(49,aG 4 M64)]
@[simp] theorem NJ:aE MF 49=some (aG 4 M64):=rfl
theorem GM:∀f M,aE MF f=some M->au Try.prog GC f M:=ai (au.of_pure xu 4) aB
def M67:aU:=fun args=>evP (aw GC MF) 0 Mw 4 args
theorem Jj:ax Try.prog GC 86 M67:=ax.of_ev (E:=aw GC MF) (ay GM) rfl at67 KW 4 fun _ _ h=>⟨0,h⟩
def lkA (a b c:Int):AV:=.agg [.int .i64 a,.int .i64 b,.int .i64 c]
theorem LY (ho:SlA 1 (aj o) ov) (hl:o.length<=200) {j:Int} (hj : -1000<=j/\j<=1000):M67 [ov,.int .i64 j]=some (lkA (j-1) j (if dw (isI j) o<dw (isI (j-1)) o then 1 else 0)):=by
 have m1:=sY ho hl j
 have m2:=sY ho hl (j-1)
 have f1:∀A n,frz A n ov=ov:=fun A n=>ho.frz n
 have b1:=bD (a:=j) (b:=1) (by omega)
 have b2:=bK (dw (isI j) o) (dw (isI (j-1)) o)
 obtain ⟨j1,hj1⟩:∃x,x=j-1:=⟨_,rfl⟩
 rw [<-hj1] at m2 b1 b2 ⊢
 obtain ⟨x,hx⟩:∃x,x=dw (isI j) o:=⟨_,rfl⟩
 obtain ⟨y,hy⟩:∃x,x=dw (isI j1) o:=⟨_,rfl⟩
 rw [<-hx] at m1 b2 ⊢
 rw [<-hy] at m2 b2 ⊢
 unfold M67
 rw [aN _ _ rfl]
 by_cases h:x<y
 ·rw [RE h] at b2
  rw [RH h]
  simp [Mw,m1,m2,f1,b1,b2,lkA,aM,-ag,-frz]
  simp [frz]
 ·rw [RD h] at b2
  rw [RK h]
  simp [Mw,m1,m2,f1,b1,b2,lkA,aM,-ag,-frz]
  simp [frz]
def M68:aU:=fun args=>evP (aw GC []) 0 Nn 4 args
theorem Ji:ax Try.prog GC 87 M68:=ax.of_ev (E:=aw GC []) (ay aB) rfl at68 KV 4 fun _ _ h=>⟨0,h⟩
theorem LX (ov:AV) (j:Int):M68 [ov,.int .i64 j]=some (lkA j j 1):=by
 unfold M68
 rw [aN _ _ rfl]
 simp [Nn,lkA]
def H45:aJ:=fun _=>cc (aw GC []) 0 zB
theorem Aa:au Try.prog GC 70 H45:=(b7 (ay aB) rfl MZ ym bG.nil).y
def GAt (A:ac) (g:Nat) (l:List br):Prop:=∃v,A[g]?=some (.row 1 false [v])/\((v=.nilS/\l=[])\/∃id gr,v=.sl id 0 l.length/\l≠[]/\g<id/\A[id]?=some (.row 4 gr (l.map db)))
theorem GAt.app {g:Nat} {l:List br} (h:GAt A g l) (X:ac):GAt (A++X) g l:=by
 obtain ⟨v,h1,h2⟩:=h
 have hk:∀(j:Nat) (e:Ent),A[j]?=some e->(A++X)[j]?=some e:=fun j e h=>by
  rw [RC (Rv.1 h).1]; exact h
 refine ⟨v,hk _ _ h1,?_⟩
 rcases h2 with h2 | ⟨id,gr,e1,e2,e3,e4⟩
 ·exact .inl h2
 ·exact .inr ⟨id,gr,e1,e2,e3,hk _ _ e4⟩
theorem Gh (h:be) {g:Nat} {l:List br} (hg:GAt A g l) {xs:List br} (hx:xs≠[]) (hb:l.length+xs.length<=1000) :
  ∃B,H45 h [.ptr g 0 0,.fs 4 (xs.map db)] A=some (.tup [],B)/\GAt B g (l++xs)/\A.length<=B.length/\∀j,j<g->B[j]?=A[j]?:=by
 obtain ⟨v,h1,h2⟩:=hg
 have hgl:=(Rv.1 h1).1
 have hxl:0<xs.length:=Tn.2 hx
 have hxm:xs.map db≠[]:=fun e=>hx (Tw.1 e)
 rcases h2 with ⟨rfl,rfl⟩ | ⟨id,gr,rfl,hl,hid,hr⟩
 ·have e1:aR 4 32 A .nilS (.fs 4 (xs.map db))=some (.sl A.length 0 xs.length,A++[.row 4 false (xs.map db)]):=by
   simp only [aR,dr,RN]
   rw [RK (by omega),RH ⟨by omega,by omega,by simp at hb; omega⟩]
  have l1:ab false 1 A (.ptr g 0 0)=some .nilS:=jt h1 (.inl rfl)
  have h1':(A++[Ent.row 4 false (xs.map db)])[g]?=some (.row 1 false [.nilS]):=by rw [RC hgl]; exact h1
  obtain ⟨A1,hA1⟩:∃X,X=A++[Ent.row 4 false (xs.map db)]:=⟨_,rfl⟩
  have s1:az 1 A1 (.ptr g 0 0) (.sl A.length 0 xs.length)=some (A1.set g (.row 1 false [.sl A.length 0 xs.length])):=by
   rw [<-hA1] at h1'
   simp [h1']
  refine ⟨A1.set g (.row 1 false [.sl A.length 0 xs.length]),?_,⟨.sl A.length 0 xs.length,by rw [hA1,RO (by simp; omega)],.inr ⟨A.length,false,rfl,hx,hgl,?_⟩⟩,by rw [hA1]; simp,fun j hj=>?_⟩
  ·rw [<-hA1] at e1
   unfold H45
   rw [bh _ _ rfl]
   simp [zB,l1,e1,s1,-ab,-az]
  ·rw [hA1,RF (by omega)]
   simp
  ·rw [hA1,RF (by omega),RC (by omega)]
 ·have hlz:l.length≠0:=fun e=>hl (Si.1 e)
  have hidl:=(Rv.1 hr).1
  have e1:aR 4 32 A (.sl id 0 l.length) (.fs 4 (xs.map db))=some (.sl id 0 (l.length+xs.length),A.set id (.row 4 true (l.map db++xs.map db))):=by
   simp only [aR,dr,RN,hr]
   rw [RH ⟨trivial,by omega,by omega,by omega⟩,RH ⟨trivial,trivial,hlz⟩]
  have l1:ab false 1 A (.ptr g 0 0)=some (.sl id 0 l.length):=jt h1 (.inr ⟨_,_,_,rfl⟩)
  obtain ⟨A1,hA1⟩:∃X,X=A.set id (Ent.row 4 true (l.map db++xs.map db)):=⟨_,rfl⟩
  have h1':A1[g]?=some (.row 1 false [.sl id 0 l.length]):=by rw [hA1,RF (by omega)]; exact h1
  have s1:az 1 A1 (.ptr g 0 0) (.sl id 0 (l.length+xs.length))=some (A1.set g (.row 1 false [.sl id 0 (l.length+xs.length)])):=by
   simp [h1']
  refine ⟨A1.set g (.row 1 false [.sl id 0 (l.length+xs.length)]),?_,⟨.sl id 0 (l.length+xs.length),by rw [hA1,RO (by simpa using hgl)],.inr ⟨id,true,by simp,by simp [hl],hid,?_⟩⟩,by rw [hA1]; simp,fun j hj=>?_⟩
  ·rw [<-hA1] at e1
   unfold H45
   rw [bh _ _ rfl]
   simp [zB,l1,e1,s1,-ab,-az]
  ·rw [hA1,RF (by omega),RO hidl]
   simp
  ·rw [hA1,RF (by omega),RF (by omega)]
theorem GAt.frz {g:Nat} {l:List br} (h:GAt A g l):∃v,ab false 1 A (.ptr g 0 0)=some v/\(∀k,Proofs.Ytkcjhljbgjpklaa.frz A (k+3) v=slA 4 (l.map db))/\∀k,bo A (k+3) v=true:=by
 obtain ⟨v,h1,h2⟩:=h
 rcases h2 with ⟨rfl,rfl⟩ | ⟨id,gr,rfl,hl,hid,hr⟩
 ·exact ⟨.nilS,jt h1 (.inl rfl),fun k=>rfl,fun k=>rfl⟩
 ·have e:((l.map db).drop 0).take l.length=l.map db:=by
   rw [RT]
   conv=>lhs; rw [show l.length=(l.map db).length by simp]
   rw [Se]
  refine ⟨_,jt h1 (.inr ⟨_,_,_,rfl⟩),fun k=>?_,fun k=>?_⟩
  ·have hm:(l.map db).map (Proofs.Ytkcjhljbgjpklaa.frz A (k+2))=l.map db:=by
    rw [Tc]
    exact Sb fun x _=>by simp [db,Proofs.Ytkcjhljbgjpklaa.frz]
   rw [show k+3=(k+2)+1 from rfl]
   simp only [Proofs.Ytkcjhljbgjpklaa.frz,hr]
   rw [e,hm]
   cases l with
   | nil=>exact absurd rfl hl
   | cons x r=>rfl
  ·rw [show k+3=(k+2)+1 from rfl]
   simp only [bo,hr]
   rw [e,RZ]
   intro y hy
   obtain ⟨x,_,rfl⟩:=Sa.1 hy
   simp [db,bo]
end Clu
namespace Clu
open Go
open Cy (GC iO dw bY cd cP aM bc aA br db cR cT dW okA)
def tD (o:List Int) (i:Nat):Int:=if i+1<o.length then o.getD (i+1) 0 else 0
def zy (T:aT) (o:List Int) (i:Nat):br:=
 ⟨o.getD i 0,tD o i,fV T+(if T.blades=2\/tD o i≠o.getD i 0+1 then T.travel else 0),if i+1<o.length then 0 else 1⟩
def lkT (T:aT) (o:List Int) (j:Int):Int × Int × Int:=if T.blades=2 then (j,j,1) else (j-1,j,if dw (isI j) o<dw (isI (j-1)) o then 1 else 0)
def xb (T:aT) (o:List Int) (i:Nat):List br:=
 [⟨(lkT T o (i+1)).1,(lkT T o (i+1)).2.1,fV T+(T.ch.getD i (0,0)).1,(lkT T o (i+1)).2.2⟩,
  ⟨(lkT T o (i+1)).2.1,(lkT T o (i+1)).1,-(fV T+(T.ch.getD i (0,0)).1+(T.ch.getD i (0,0)).2),-(lkT T o (i+1)).2.2⟩]
def bO (T:aT) (o:List Int):List br:=(List.range o.length).map (zy T o)++(List.range T.ch.length).flatMap (xb T o)
def Es (T:aT) (o:List Int):Option (List br):=if o∈aP T then some (bO T o) else none
theorem Bu (n:Nat) (one:Bool):∀(k:Nat) (b l:List Int),l∈ext n one k b->l.length=n+1/\∃r,l=b++r/\(∀x∈r,1<=x/\x<=n)/\(b.Nodup->l.Nodup)
 | 0,b,l,h=>by simp [ext] at h
 | k+1,b,l,h=>by
  unfold ext at h
  split at h
  ·rename_i hb
   simp only [Sg] at h
   subst h
   exact ⟨hb,[],by simp,by simp,id⟩
  ·rw [Ul] at h
   obtain ⟨i,hi,h⟩:=h
   rw [List.mem_range'_1] at hi
   split at h
   ·rename_i hc
    obtain ⟨h1,r,rfl,h3,h4⟩:=Bu n one k _ _ h
    simp only [Sd,SC,TU] at hc
    refine ⟨h1,(i:Int) :: r,by simp,fun x hx=>?_,fun hn=>h4 ?_⟩
    ·rcases Su.1 hx with rfl | hx
     ·omega
     ·exact h3 x hx
    ·rw [List.nodup_append]
     refine ⟨hn,by simp,fun a ha b hb e=>?_⟩
     rw [Sg] at hb
     subst hb; subst e
     exact hc.1 ha
   ·cases h
theorem cW {T:aT} (h:o∈aP T):aY T/\o.length=T.ch.length+1/\(∃r,o=0 :: r/\∀x∈r,1<=x/\x<=T.ch.length)/\o.Nodup:=by
 unfold aP at h
 split at h
 ·rename_i hv
  obtain ⟨h1,r,h2,h3,h4⟩:=Bu _ _ _ _ _ h
  exact ⟨hv,h1,⟨r,h2,h3⟩,h4 (by simp)⟩
 ·cases h
theorem iX {T:aT} (h:o∈aP T):∀x∈o,0<=x/\x<=T.ch.length:=by
 obtain ⟨_,_,⟨r,rfl,h2⟩,_⟩:=cW h
 intro x hx
 rcases Su.1 hx with rfl | hx
 ·omega
 ·have:=h2 x hx; omega
theorem ju (T:aT):(aP T).length<=256:=by
 unfold aP
 split
 ·rename_i hv
  have hn:=hv.2.2.2.1
  rcases wZ T.ch.length (decide (T.blades=1)) hn T.ch.length [0] with h | h
  ·exact ST h (ST (Nat.pow_le_pow_right (by omega) hn) (by omega))
  ·simp at h; omega
 ·simp
theorem s7 {T:aT} (h:aY T):0<=fV T/\fV T<=30000:=by
 obtain ⟨_,⟨h1,h2,h3⟩,_⟩:=h
 unfold fV
 split <;> omega
theorem dP {a:Int} (h : -9223372036854775807<=a/\a<=9223372036854775807):uV .neg (.int .i64 a)=some (.int .i64 (-a)):=by
 simp only [uV]
 rw [show (0:Int)-a = -a by omega,eV (by unfold inI; omega)]
def oZ:List (FuncId × aJ):=[(43,cJ 4 M14),(66,aG 4 M41),(69,aG 4 M44),(71,aG 4 M46),(86,aG 4 M67),(87,aG 4 M68),(70,H45)]
@[simp] theorem Pg:aE oZ 43=some (cJ 4 M14):=rfl
@[simp] theorem Pb:aE oZ 66=some (aG 4 M41):=rfl
@[simp] theorem Pa:aE oZ 69=some (aG 4 M44):=rfl
@[simp] theorem O8:aE oZ 71=some (aG 4 M46):=rfl
@[simp] theorem O7:aE oZ 86=some (aG 4 M67):=rfl
@[simp] theorem O6:aE oZ 87=some (aG 4 M68):=rfl
@[simp] theorem O9:aE oZ 70=some H45:=rfl
theorem wh:∀f M,aE oZ f=some M->au Try.prog GC f M:=ai (au.of_pureF nM 4) (ai (au.of_pure pO 4) (ai (au.of_pure Ab 4) (ai (au.of_pure z9 4) (ai (au.of_pure Jj 4) (ai (au.of_pure Ji 4) (ai Aa aB))))))
structure I19 (A:ac) (T:aT) (chv ov:AV) (l:List br):Prop where
 t:A[0]?=some (.row 5 false [af T chv])
 o:A[1]?=some (.row 1 false [ov])
 g:GAt A 2 l
theorem DH {T:aT} (hO:o∈aP T) (ho:SlA 1 (aj o) ov) {A:ac} {l:List br} (hI:I19 A T chv ov l) (hl:l.length<=100) (hi:i<o.length) :
  ∃B,run (aw GC oZ) 300 [.code dN] (gt (.ptr 0 0 0) (.ptr 1 0 0) (.int .i64 (fV T)) (.ptr 2 0 0) ov (.int .i64 (o.length:Int)) (.int .i64 (i:Int))) A =
   some (.normal (gt (.ptr 0 0 0) (.ptr 1 0 0) (.int .i64 (fV T)) (.ptr 2 0 0) ov (.int .i64 (o.length:Int)) (.int .i64 ((i+1:Nat):Int))) B)/\I19 B T chv ov (l++[zy T o i]):=by
 obtain ⟨hv,hol,_,_⟩:=cW hO
 have hbd:=iX hO
 have hw:=s7 hv
 have hch:=hv.2.2.2.1
 have htr:=hv.2.1.2.2
 obtain ⟨ht,h1,hg⟩:=hI
 have ht0:=(Rv.1 ht).1
 have h10:=(Rv.1 h1).1
 have hlen:=ho.len
 rw [aA] at hlen
 have x1:=fun A=>ho.int (A:=A) _ _ (Rx hi) .i64
 have ho1:o[i]=o.getD i 0:=by rw [Rw,Rx hi]; rfl
 have hb1:=hbd o[i] (RM hi)
 obtain ⟨t0,htt⟩:∃t,t=o.getD i 0:=⟨_,rfl⟩
 rw [ho1,<-htt] at x1 hb1
 obtain ⟨w,hww⟩:∃w,w=fV T:=⟨_,rfl⟩
 have ov0:∀X,ab false 1 (A++X) (.ptr 1 0 0)=some ov:=fun X=>by
  have h:(A++X)[1]?=some (.row 1 false [ov]):=by rw [RC h10]; exact h1
  rcases ho with ⟨rfl,_⟩ | rfl <;> simp [h]
 obtain ⟨ch,pk,pl,tr,bd⟩:=T
 have ht:A[0]?=some (.row 5 false [.agg [chv,.int .i64 pk,.int .i64 pl,.int .i64 tr,.int .i64 bd]]):=ht
 have tl:∀X,(A++X)[0]?=some (.row 5 false [.agg [chv,.int .i64 pk,.int .i64 pl,.int .i64 tr,.int .i64 bd]]):=fun X=>by rw [RC ht0]; exact ht
 have t3:∀X,aa 3 (A++X) (.ptr 0 0 0)=some (.ptr 0 0 3):=fun X=>by simp [aa,tl X]
 have t4:∀X,aa 4 (A++X) (.ptr 0 0 0)=some (.ptr 0 0 4):=fun X=>by simp [aa,tl X]
 have l3:∀X,ab false 1 (A++X) (.ptr 0 0 3)=some (.int .i64 tr):=fun X=>by simp [ab,tl X,cn]
 have l4:∀X,ab false 1 (A++X) (.ptr 0 0 4)=some (.int .i64 bd):=fun X=>by simp [ab,tl X,cn]
 have a1:∀a b c d,aa 1 (A++[.row 4 false [.agg [a,b,c,d]]]) (.ptr A.length 0 0)=some (.ptr A.length 0 1):=fun a b c d=>nw (es:=[a,b,c,d]) (k:=4) rfl (by omega)
 have a2:∀a b c d,aa 2 (A++[.row 4 false [.agg [a,b,c,d]]]) (.ptr A.length 0 0)=some (.ptr A.length 0 2):=fun a b c d=>nw (es:=[a,b,c,d]) (k:=4) rfl (by omega)
 have a3:∀a b c d,aa 3 (A++[.row 4 false [.agg [a,b,c,d]]]) (.ptr A.length 0 0)=some (.ptr A.length 0 3):=fun a b c d=>nw (es:=[a,b,c,d]) (k:=4) rfl (by omega)
 have r1:∀a b c d,ab false 1 (A++[.row 4 false [.agg [a,b,c,d]]]) (.ptr A.length 0 1)=some b:=fun a b c d=>pz (es:=[a,b,c,d]) (k:=4) rfl rfl
 have r2:∀a b c d,ab false 1 (A++[.row 4 false [.agg [a,b,c,d]]]) (.ptr A.length 0 2)=some c:=fun a b c d=>pz (es:=[a,b,c,d]) (k:=4) rfl rfl
 have r4:∀a b c d,ab true 4 (A++[.row 4 false [.agg [a,b,c,d]]]) (.ptr A.length 0 0)=some (.agg [a,b,c,d]):=fun a b c d=>Gx (es:=[a,b,c,d]) (k:=4) rfl (by omega)
 have s1:∀a b c d z,az 1 (A++[.row 4 false [.agg [a,b,c,d]]]) (.ptr A.length 0 1) (.int .i64 z)=some (A++[.row 4 false [.agg [a,.int .i64 z,c,d]]]):=fun a b c d z=>zR (es:=[a,b,c,d]) (k:=4) rfl (by omega) (by omega) rfl rfl
 have s2:∀a b c d z,az 1 (A++[.row 4 false [.agg [a,b,c,d]]]) (.ptr A.length 0 2) (.int .i64 z)=some (A++[.row 4 false [.agg [a,b,.int .i64 z,d]]]):=fun a b c d z=>zR (es:=[a,b,c,d]) (k:=4) rfl (by omega) (by omega) rfl rfl
 have s3:∀a b c d z,az 1 (A++[.row 4 false [.agg [a,b,c,d]]]) (.ptr A.length 0 3) (.int .i64 z)=some (A++[.row 4 false [.agg [a,b,c,.int .i64 z]]]):=fun a b c d z=>zR (es:=[a,b,c,d]) (k:=4) rfl (by omega) (by omega) rfl rfl
 have sA:∀a b c d x y z u,az 4 (A++[.row 4 false [.agg [a,b,c,d]]]) (.ptr A.length 0 0) (.agg [.int .i64 x,.int .i64 y,.int .i64 z,.int .i64 u])=some (A++[.row 4 false [.agg [.int .i64 x,.int .i64 y,.int .i64 z,.int .i64 u]]]):=fun a b c d x y z u=>by simp [az,bq]
 have b0:=a9 i o.length .i64
 rw [RE hi] at b0
 have b1:=aV i (by omega)
 have b2:=a9 (i+1) o.length .i64
 have b3:ag .eql (.int .i64 bd) (.int .i64 2)=some (.bool (decide (bd=2))):=bA _ _
 have b4:ag .add (.int .i64 t0) (.int .i64 1)=some (.int .i64 (t0+1)):=aZ (by simp only at hch hb1; omega)
 have b6:ag .add (.int .i64 w) (.int .i64 tr)=some (.int .i64 (w+tr)):=aZ (by simp only at htr; omega)
 obtain ⟨nx,hnx⟩:∃x,x=tD o i:=⟨_,rfl⟩
 have b5:ag .neq (.int .i64 nx) (.int .i64 (t0+1))=some (.bool (decide (nx≠t0+1))):=cB _ _
 obtain ⟨ar,har⟩:∃a,a=zy ⟨ch,pk,pl,tr,bd⟩ o i:=⟨_,rfl⟩
 have hae:ar=⟨t0,nx,w+(if bd=2\/nx≠t0+1 then tr else 0),if i+1<o.length then 0 else 1⟩:=by
  rw [har,hnx,htt,hww]; rfl
 have hgX:=hg.app [.row 4 false [db ar]]
 obtain ⟨B,k1,k2,k3,k4⟩:=Gh (fun _ _ _=>none) hgX (xs:=[ar]) (by simp) (by simp; omega)
 refine ⟨B,?_,⟨by rw [k4 0 (by omega),RC ht0]; exact ht,by rw [k4 1 (by omega),RC h10]; exact h1,by rw [<-har]; exact k2⟩⟩
 rw [<-hww]
 have k1:H45 (fun _ _ _=>none) [.ptr 2 0 0,.fs 4 [db ar]] (A++[.row 4 false [db ar]])=some (.tup [],B):=k1
 rw [show db ar=.agg [.int .i64 t0,.int .i64 nx,.int .i64 (w+(if bd=2\/nx≠t0+1 then tr else 0)),.int .i64 (if i+1<o.length then 0 else 1)] by rw [hae]; rfl] at k1
 have hsl:∀x y z u:Int,bI 4 [.agg [.int .i64 x,.int .i64 y,.int .i64 z,.int .i64 u]]=some (.fs 4 [.agg [.int .i64 x,.int .i64 y,.int .i64 z,.int .i64 u]]):=fun x y z u=>rfl
 obtain ⟨N,hN⟩:∃n,n=A.length:=⟨_,rfl⟩
 obtain ⟨i1,hi1⟩:∃n,n=i+1:=⟨_,rfl⟩
 have x2:i1<o.length->∀A,ae 1 A ov (.int .i64 (i1:Int))=some (.fp [.int .i64 nx]):=fun h A=>by
  have e:o[i1]?=some nx:=by rw [hnx,tD,RH (by omega),<-hi1,Rw,Rx h]; rfl
  exact ho.int (A:=A) _ _ e .i64
 have hnx0:¬ i1<o.length->nx=0:=fun h=>by rw [hnx,tD,RK (by omega)]
 have bx:∀z,aS 4 (.agg [.int .i64 z,.int .i64 z,.int .i64 z,.int .i64 z]) A=some (.ptr N 0 0,A++[.row 4 false [.agg [.int .i64 z,.int .i64 z,.int .i64 z,.int .i64 z]]]):=fun z=>by rw [hN]; rfl
 rw [<-hi1] at b1 b2 k1 ⊢
 rw [<-hN] at a1 a2 a3 r1 r2 r4 s1 s2 s3 sA
 obtain ⟨t1,ht1⟩:∃x,x=t0+1:=⟨_,rfl⟩
 rw [<-ht1] at b4 b5 k1
 obtain ⟨w1,hw1⟩:∃x,x=w+tr:=⟨_,rfl⟩
 rw [<-hw1] at b6
 by_cases hc:i1<o.length
 ·rw [RE hc] at b2
  have x2:=x2 hc
  rw [RH hc] at k1
  by_cases hd:bd=2
  ·rw [RE hd] at b3
   rw [RH (.inl hd),<-hw1] at k1
   simp [dN,b0,b1,b2,b3,b6,x1,x2,ov0,hlen,t3,t4,l3,l4,a1,a2,a3,r2,r4,s1,s2,s3,sA,bx,hsl,k1,-ag,-ab,-az,-aa,-ae,-aq,-bI,-aS]
  ·rw [RD hd] at b3
   by_cases he:nx≠t1
   ·rw [RE he] at b5
    rw [RH (.inr he),<-hw1] at k1
    simp [dN,b0,b1,b2,b3,b4,b5,b6,x1,x2,ov0,hlen,t3,t4,l3,l4,a1,a2,a3,r1,r2,r4,s1,s2,s3,sA,bx,hsl,k1,-ag,-ab,-az,-aa,-ae,-aq,-bI,-aS]
   ·rw [RD he] at b5
    rw [RK (fun h=>h.elim hd he),Int.add_zero] at k1
    simp [dN,b0,b1,b2,b3,b4,b5,x1,x2,ov0,hlen,t4,l4,a1,a3,r1,r4,s1,s3,sA,bx,hsl,k1,-ag,-ab,-az,-aa,-ae,-aq,-bI,-aS]
 ·rw [RD hc] at b2
  have hnx0:=hnx0 hc
  rw [RK hc] at k1
  subst hnx0
  by_cases hd:bd=2
  ·rw [RE hd] at b3
   rw [RH (.inl hd),<-hw1] at k1
   simp [dN,b0,b1,b2,b3,b6,x1,ov0,hlen,t3,t4,l3,l4,a2,r2,r4,s2,sA,bx,hsl,k1,-ag,-ab,-az,-aa,-ae,-aq,-bI,-aS]
  ·rw [RD hd] at b3
   by_cases he:(0:Int)≠t1
   ·rw [RE he] at b5
    rw [RH (.inr he),<-hw1] at k1
    simp [dN,b0,b1,b2,b3,b4,b5,b6,x1,ov0,hlen,t3,t4,l3,l4,a1,a2,r1,r2,r4,s2,sA,bx,hsl,k1,-ag,-ab,-az,-aa,-ae,-aq,-bI,-aS]
   ·rw [RD he] at b5
    rw [RK (fun h=>h.elim hd he),Int.add_zero] at k1
    simp [dN,b0,b1,b2,b3,b4,b5,x1,ov0,hlen,t4,l4,a1,r1,r4,sA,bx,hsl,k1,-ag,-ab,-az,-aa,-ae,-aq,-bI,-aS]
end Clu
namespace Clu
open Go
open Cy (GC iO dw bY cd cP aM bc aA br db cR cT dW okA)
def fnL (T:aT):AV:=if T.blades=2 then .func (.func 87) [] [] else .func (.func 86) [] []
theorem Eq {T:aT} (_hv:aY T) (ho:SlA 1 (aj o) ov) (hl:o.length<=200) (j:Int) (hj : -1000<=j/\j<=1000) (A:ac):(aw GC oZ).call (fnL T) [ov,.int .i64 j] A=some (lkA (lkT T o j).1 (lkT T o j).2.1 (lkT T o j).2.2,A):=by
 have f1:∀n,frz A n ov=ov:=fun n=>ho.frz n
 unfold fnL lkT
 split
 ·have m:=LX ov j
  simp [m,f1,lkA,aM,-frz]
 ·have m:=LY ho hl hj
  simp [m,f1,lkA,aM,-frz]
theorem E5 (T:aT) (o:List Int) (j:Int):(lkT T o j).2.2=0\/(lkT T o j).2.2=1:=by
 unfold lkT
 split
 ·exact .inr rfl
 ·simp only
  split
  ·exact .inr rfl
  ·exact .inl rfl
theorem tx {T:aT} (hO:o∈aP T) (hcv:SlA 2 (T.ch.map chA) chv) (ho:SlA 1 (aj o) ov) {A:ac} {l:List br} (hI:I19 A T chv ov l) (hl:l.length<=100) (hi:i<T.ch.length) :
  ∃B,run (aw GC oZ) 300 [.code dC] (fD (.ptr 1 0 0) (.int .i64 (fV T)) (.ptr 2 0 0) (fnL T) chv (.int .i64 (T.ch.length:Int)) (.int .i64 (i:Int))) A =
   some (.normal (fD (.ptr 1 0 0) (.int .i64 (fV T)) (.ptr 2 0 0) (fnL T) chv (.int .i64 (T.ch.length:Int)) (.int .i64 ((i+1:Nat):Int))) B)/\I19 B T chv ov (l++xb T o i):=by
 obtain ⟨hv,hol,_,_⟩:=cW hO
 have hw:=s7 hv
 have hch:=hv.2.2.2.1
 obtain ⟨ht,h1,hg⟩:=hI
 have ht0:=(Rv.1 ht).1
 have h10:=(Rv.1 h1).1
 have hx0:T.ch.getD i (0,0)=T.ch[i]:=by rw [Rw,Rx hi]; rfl
 have hxv:=hv.1 _ (RM hi)
 have x1:∀A,ae 2 A chv (.int .i64 (i:Int))=some (.fp [.int .i64 (T.ch.getD i (0,0)).1,.int .i64 (T.ch.getD i (0,0)).2]):=fun A=>by
  rw [hx0]
  exact hcv.index (A:=A) (x:=chA T.ch[i]) (by simp [hi]) rfl (by omega) .i64
 have cl:=Eq hv ho (by omega) ((i:Int)+1) (by omega)
 have lb:=E5 T o ((i:Int)+1)
 have ha:xb T o i=xb T o i:=rfl
 conv at ha=>rhs; unfold xb
 rw [ha]
 obtain ⟨⟨k1,k2,k3⟩,hk⟩:∃k,k=lkT T o ((i:Int)+1):=⟨_,rfl⟩
 rw [<-hk] at cl lb ⊢
 obtain ⟨⟨tm,sy⟩,hx⟩:∃x,x=T.ch.getD i (0,0):=⟨_,rfl⟩
 rw [hx0] at hx
 rw [<-hx] at hxv
 rw [hx0,<-hx] at x1
 rw [hx0,<-hx]
 simp only [ky] at cl lb x1 hxv ⊢
 obtain ⟨w,hww⟩:∃w,w=fV T:=⟨_,rfl⟩
 rw [<-hww] at hw ⊢
 have ov0:∀X,ab false 1 (A++X) (.ptr 1 0 0)=some ov:=fun X=>by
  have h:(A++X)[1]?=some (.row 1 false [ov]):=by rw [RC h10]; exact h1
  rcases ho with ⟨rfl,_⟩ | rfl <;> simp [h]
 have b0:=a9 i T.ch.length .i64
 rw [RE hi] at b0
 have b1:=aV i (by omega)
 have b2:ag .add (.int .i64 (i:Int)) (.int .i64 1)=some (.int .i64 ((i:Int)+1)):=aZ (by omega)
 have b3:ag .add (.int .i64 w) (.int .i64 tm)=some (.int .i64 (w+tm)):=aZ (by omega)
 have b4:ag .add (.int .i64 (w+tm)) (.int .i64 sy)=some (.int .i64 (w+tm+sy)):=aZ (by omega)
 have b5:uV .neg (.int .i64 (w+tm+sy))=some (.int .i64 (-(w+tm+sy))):=dP (by omega)
 have b6:uV .neg (.int .i64 k3)=some (.int .i64 (-k3)):=dP (by omega)
 obtain ⟨A1,hA1⟩:∃X,X=A++[Ent.row 2 false [.agg [.int .i64 tm,.int .i64 sy]]]:=⟨_,rfl⟩
 have ov1:ab false 1 A1 (.ptr 1 0 0)=some ov:=by rw [hA1]; exact ov0 _
 have bx:aS 2 (.agg [.int .i64 0,.int .i64 0]) A=some (.ptr A.length 0 0,A++[.row 2 false [.agg [.int .i64 0,.int .i64 0]]]):=rfl
 have s0:az 2 (A++[.row 2 false [.agg [.int .i64 0,.int .i64 0]]]) (.ptr A.length 0 0) (.agg [.int .i64 tm,.int .i64 sy])=some A1:=by simp [az,bq,hA1]
 have bx1:aS 3 (.agg [.int .i64 0,.int .i64 0,.int .i64 0]) A1=some (.ptr A1.length 0 0,A1++[.row 3 false [.agg [.int .i64 0,.int .i64 0,.int .i64 0]]]):=rfl
 have s1:az 3 (A1++[.row 3 false [.agg [.int .i64 0,.int .i64 0,.int .i64 0]]]) (.ptr A1.length 0 0) (lkA k1 k2 k3)=some (A1++[.row 3 false [lkA k1 k2 k3]]):=by simp [az,bq,lkA]
 have hA1n:∀X,(A1++X)[A.length]?=some (Ent.row 2 false [.agg [.int .i64 tm,.int .i64 sy]]):=fun X=>by rw [RC (by rw [hA1]; simp),hA1]; simp
 have f0:∀X,aa 0 (A1++X) (.ptr A.length 0 0)=some (.ptr A.length 0 0):=fun X=>by simp [aa,hA1n X]
 have f1:∀X,aa 1 (A1++X) (.ptr A.length 0 0)=some (.ptr A.length 0 1):=fun X=>by simp [aa,hA1n X]
 have e0:∀X,ab false 1 (A1++X) (.ptr A.length 0 0)=some (.int .i64 tm):=fun X=>by simp [ab,hA1n X,cn]
 have e1:∀X,ab false 1 (A1++X) (.ptr A.length 0 1)=some (.int .i64 sy):=fun X=>by simp [ab,hA1n X,cn]
 have g0:aa 0 (A1++[.row 3 false [lkA k1 k2 k3]]) (.ptr A1.length 0 0)=some (.ptr A1.length 0 0):=nw (es:=[.int .i64 k1,.int .i64 k2,.int .i64 k3]) (k:=3) rfl (by omega)
 have g1:aa 1 (A1++[.row 3 false [lkA k1 k2 k3]]) (.ptr A1.length 0 0)=some (.ptr A1.length 0 1):=nw (es:=[.int .i64 k1,.int .i64 k2,.int .i64 k3]) (k:=3) rfl (by omega)
 have g2:aa 2 (A1++[.row 3 false [lkA k1 k2 k3]]) (.ptr A1.length 0 0)=some (.ptr A1.length 0 2):=nw (es:=[.int .i64 k1,.int .i64 k2,.int .i64 k3]) (k:=3) rfl (by omega)
 have d0:ab false 1 (A1++[.row 3 false [lkA k1 k2 k3]]) (.ptr A1.length 0 0)=some (.int .i64 k1):=pz (es:=[.int .i64 k1,.int .i64 k2,.int .i64 k3]) (k:=3) rfl rfl
 have d1:ab false 1 (A1++[.row 3 false [lkA k1 k2 k3]]) (.ptr A1.length 0 1)=some (.int .i64 k2):=pz (es:=[.int .i64 k1,.int .i64 k2,.int .i64 k3]) (k:=3) rfl rfl
 have d2:ab false 1 (A1++[.row 3 false [lkA k1 k2 k3]]) (.ptr A1.length 0 2)=some (.int .i64 k3):=pz (es:=[.int .i64 k1,.int .i64 k2,.int .i64 k3]) (k:=3) rfl rfl
 have hgX:GAt (A1++[.row 3 false [lkA k1 k2 k3]]) 2 l:=by rw [hA1]; exact (hg.app _).app _
 obtain ⟨B,q1,q2,q3,q4⟩:=Gh (fun _ _ _=>none) hgX (xs:=[⟨k1,k2,w+tm,k3⟩,⟨k2,k1,-(w+tm+sy),-k3⟩]) (by simp) (by simp; omega)
 have hA10:∀j,j<A.length->(A1++[Ent.row 3 false [lkA k1 k2 k3]])[j]?=A[j]?:=fun j hj=>by
  rw [hA1,R1,RC hj]
 refine ⟨B,?_,⟨by rw [q4 0 (by omega),hA10 0 ht0]; exact ht,by rw [q4 1 (by omega),hA10 1 h10]; exact h1,q2⟩⟩
 obtain ⟨w1,hw1⟩:∃x,x=w+tm:=⟨_,rfl⟩
 rw [<-hw1] at b3 b4 b5 q1
 obtain ⟨w2,hw2⟩:∃x,x=w1+sy:=⟨_,rfl⟩
 rw [<-hw2] at b4 b5 q1
 obtain ⟨w3,hw3⟩:∃x,x = -w2:=⟨_,rfl⟩
 rw [<-hw3] at b5 q1
 obtain ⟨k4,hk4⟩:∃x,x = -k3:=⟨_,rfl⟩
 rw [<-hk4] at b6 q1
 have q1:H45 (fun _ _ _=>none) [.ptr 2 0 0,.fs 4 [.agg [.int .i64 k1,.int .i64 k2,.int .i64 w1,.int .i64 k3],.agg [.int .i64 k2,.int .i64 k1,.int .i64 w3,.int .i64 k4]]] (A1++[.row 3 false [lkA k1 k2 k3]])=some (.tup [],B):=q1
 have hsl:bI 4 [.agg [.int .i64 k1,.int .i64 k2,.int .i64 w1,.int .i64 k3],.agg [.int .i64 k2,.int .i64 k1,.int .i64 w3,.int .i64 k4]]=some (.fs 4 [.agg [.int .i64 k1,.int .i64 k2,.int .i64 w1,.int .i64 k3],.agg [.int .i64 k2,.int .i64 k1,.int .i64 w3,.int .i64 k4]]):=rfl
 have cl:=cl A1
 obtain ⟨j1,hj1⟩:∃x,x=(i:Int)+1:=⟨_,rfl⟩
 rw [<-hj1] at b2 cl
 obtain ⟨i1,hi1⟩:∃n,n=i+1:=⟨_,rfl⟩
 have hj2:j1=(i1:Int):=by omega
 subst hj2
 rw [<-hi1] at b1 ⊢
 obtain ⟨F,hF⟩:∃F,F=fnL T:=⟨_,rfl⟩
 rw [<-hF] at cl ⊢
 obtain ⟨L,hL⟩:∃L,L=lkA k1 k2 k3:=⟨_,rfl⟩
 rw [<-hL] at cl s1 g0 g1 g2 d0 d1 d2 q1
 simp [dC,b0,b1,b3,b4,b5,b6,x1,ov1,bx,s0,bx1,s1,f0,f1,e0,e1,g0,g1,g2,d0,d1,d2,hsl,cl,q1,-ag,-ab,-az,-aa,-ae,-bI,-aS,-uV]
def M19:aU:=fun args=>evF (aw GC oZ) 300 vU 4 args
theorem ui:cm Try.prog GC 44 M19:=cm.of_ev (E:=aw GC oZ) (ay wh) rfl LC vt 4 fun _ _ h=>⟨300,h⟩
def LE (r:Option (List br)):AV:=.tup [slA 4 ((r.getD []).map db),.int .i64 (if r.isSome then 0 else 130)]
theorem CM (T:aT) (o:List Int) (i:Nat):((List.range (i+1)).map (zy T o))=(List.range i).map (zy T o)++[zy T o i]:=by
 rw [Te,SH]; rfl
theorem vI (T:aT) (o:List Int) (i:Nat):((List.range (i+1)).flatMap (xb T o))=(List.range i).flatMap (xb T o)++xb T o i:=by
 rw [Te,TW]; simp
theorem vH (T:aT) (o:List Int) (i:Nat):((List.range i).flatMap (xb T o)).length=2*i:=by
 induction i with
 | zero=>rfl
 | succ i ih=>rw [vI,RU,ih]; rfl
theorem wI {T:aT} (hO:o∈aP T) (ho:SlA 1 (aj o) ov):∀(c i:Nat) (A:ac) (m:Nat),i+c=o.length->I19 A T chv ov ((List.range i).map (zy T o))->c<m ->
  ∃B,bM (evC (aw GC oZ) 300 dN) en m (gt (.ptr 0 0 0) (.ptr 1 0 0) (.int .i64 (fV T)) (.ptr 2 0 0) ov (.int .i64 (o.length:Int)) (.int .i64 (i:Int))) A =
   some (.exit 0 ((gt (.ptr 0 0 0) (.ptr 1 0 0) (.int .i64 (fV T)) (.ptr 2 0 0) ov (.int .i64 (o.length:Int)) (.int .i64 (o.length:Int))).set 19 (.bool false)) B)/\I19 B T chv ov ((List.range o.length).map (zy T o)):=by
 obtain ⟨hv,hol,_,_⟩:=cW hO
 have hn4:=hv.2.2.2.1
 intro c
 induction c with
 | zero=>
  intro i A m hi hI hm
  obtain ⟨m,rfl⟩:∃j,m=j+1:=⟨m-1,by omega⟩
  obtain rfl:i=o.length:=by omega
  refine ⟨A,?_,hI⟩
  have b0:=a9 o.length o.length .i64
  rw [RD (by omega)] at b0
  rw [aD,qQ]
  simp [dN,b0,-ag]
 | succ c ih=>
  intro i A m hi hI hm
  obtain ⟨m,rfl⟩:∃j,m=j+1:=⟨m-1,by omega⟩
  obtain ⟨B,h1,h2⟩:=DH hO ho hI (by simp; omega) (i:=i) (by omega)
  rw [<-CM] at h2
  obtain ⟨C,h3,h4⟩:=ih (i+1) B m (by omega) h2 (by omega)
  refine ⟨C,?_,h4⟩
  rw [aD,qQ,h1]
  exact h3
theorem wH {T:aT} (hO:o∈aP T) (hcv:SlA 2 (T.ch.map chA) chv) (ho:SlA 1 (aj o) ov) {l0:List br} (hl0:l0.length<=50):∀(c i:Nat) (A:ac) (m:Nat),i+c=T.ch.length->I19 A T chv ov (l0++(List.range i).flatMap (xb T o))->c<m ->
  ∃B,bM (evC (aw GC oZ) 300 dC) dS m (fD (.ptr 1 0 0) (.int .i64 (fV T)) (.ptr 2 0 0) (fnL T) chv (.int .i64 (T.ch.length:Int)) (.int .i64 (i:Int))) A =
   some (.exit 2 ((fD (.ptr 1 0 0) (.int .i64 (fV T)) (.ptr 2 0 0) (fnL T) chv (.int .i64 (T.ch.length:Int)) (.int .i64 (T.ch.length:Int))).set 25 (.bool false)) B)/\I19 B T chv ov (l0++(List.range T.ch.length).flatMap (xb T o)):=by
 obtain ⟨hv,hol,_,_⟩:=cW hO
 have hn4:=hv.2.2.2.1
 intro c
 induction c with
 | zero=>
  intro i A m hi hI hm
  obtain ⟨m,rfl⟩:∃j,m=j+1:=⟨m-1,by omega⟩
  obtain rfl:i=T.ch.length:=by omega
  refine ⟨A,?_,hI⟩
  have b0:=a9 T.ch.length T.ch.length .i64
  rw [RD (by omega)] at b0
  rw [aD,mL]
  simp [dC,b0,-ag]
 | succ c ih=>
  intro i A m hi hI hm
  obtain ⟨m,rfl⟩:∃j,m=j+1:=⟨m-1,by omega⟩
  obtain ⟨B,h1,h2⟩:=tx hO hcv ho hI (by rw [RU,vH]; omega) (i:=i) (by omega)
  rw [R1,<-vI] at h2
  obtain ⟨C,h3,h4⟩:=ih (i+1) B m (by omega) h2 (by omega)
  refine ⟨C,?_,h4⟩
  rw [aD,mL,h1]
  exact h3
theorem C3 {T:aT} {chv:AV} (hcv:SlA 2 (T.ch.map chA) chv) (hl:T.ch.length<=200) (ho:SlA 1 (aj o) ov):M19 [af T chv,ov]=some (LE (Es T o)):=by
 have m14:=ot hcv hl
 have m41:=yF ho (ll:=aP T)
 have ft:=fun A=>aK (T:=T) (fun A n=>hcv.frz (A:=A) n) A 3
 have fo:∀A n,frz A n ov=ov:=fun A n=>ho.frz n
 have fO:∀A,frz A 4 (dM (aP T))=dM (aP T):=fun A=>(ba 1 _).frz 4
 have nO:bu 4 (dM (aP T))=true:=(ba 1 _).noRef 4
 have lt:∀X,ab true 5 (.row 5 false [af T chv] :: X) (.ptr 0 0 0)=some (af T chv):=fun X=>rfl
 have lo:∀a X,ab false 1 (a :: .row 1 false [ov] :: X) (.ptr 1 0 0)=some ov:=fun a X=>by
  rcases ho with ⟨rfl,_⟩ | rfl <;> simp
 have fF:frz [.row 5 false [af T chv],.row 1 false [ov]] 4 (.func (.func 67) [] [.ptr 1 0 0])=fnO ov:=by
  have:cellsOf ov=[ov]:=by rcases ho with ⟨rfl,_⟩ | rfl <;> rfl
  have hs:ov.solid=true:=by rcases ho with ⟨rfl,_⟩ | rfl <;> rfl
  simp [frz,this,fo,fnO,hs,-cellsOf,-AV.solid]
 have bx0:aS 5 (af T chv) []=some (.ptr 0 0 0,[.row 5 false [af T chv]]):=rfl
 have bx1:aS 1 ov [.row 5 false [af T chv]]=some (.ptr 1 0 0,[.row 5 false [af T chv],.row 1 false [ov]]):=by
  rcases ho with ⟨rfl,_⟩ | rfl <;> rfl
 have bx2:∀t:AV,aS 1 .nilS [.row 5 false [t],.row 1 false [ov]]=some (.ptr 2 0 0,[.row 5 false [t],.row 1 false [ov],.row 1 false [.nilS]]):=fun t=>rfl
 unfold M19 Es
 rw [gI _ _ rfl]
 by_cases hO:o∈aP T
 ·obtain ⟨hv,hol,_,_⟩:=cW hO
  have hn4:=hv.2.2.2.1
  have m41:=m41 (ST (ju T) (by omega)) (fun l hl=>by have:=(cW hl).2.1; omega)
  rw [RE hO] at m41
  rw [RH hO]
  have m44:=Ma chv hv
  have l4:∀X,aa 4 (.row 5 false [af T chv] :: X) (.ptr 0 0 0)=some (.ptr 0 0 4):=fun X=>rfl
  have e0:∀X,aa 0 (.row 5 false [af T chv] :: X) (.ptr 0 0 0)=some (.ptr 0 0 0):=fun X=>rfl
  obtain ⟨B1,h1,h2⟩:=wI hO ho (chv:=chv) o.length 0 [.row 5 false [af T chv],.row 1 false [ov],.row 1 false [.nilS]] 300 (by omega) ⟨rfl,rfl,⟨.nilS,rfl,.inl ⟨rfl,rfl⟩⟩⟩ (by omega)
  have hB1:∀ {x},B1[0]?=x->B1[0]?=x:=id
  have l4b:aa 4 B1 (.ptr 0 0 0)=some (.ptr 0 0 4):=by simp [aa,h2.t]
  have l4c:ab false 1 B1 (.ptr 0 0 4)=some (.int .i64 T.blades):=by simp [ab,h2.t,af,cn]
  have l0b:aa 0 B1 (.ptr 0 0 0)=some (.ptr 0 0 0):=by simp [aa,h2.t]
  have l0c:ab false 1 B1 (.ptr 0 0 0)=some chv:=by simp [ab,h2.t,af,cn]
  have iv:gU false 3 1 ze (.int .i64 T.blades)=some (fnL T):=by
   rcases hv.2.2.2.2 with h | h <;> rw [h] <;> unfold fnL <;> rw [h] <;> rfl
  have hlen:=hcv.len
  rw [RN] at hlen
  have hlo:=ho.len
  rw [aA] at hlo
  have h2':I19 B1 T chv ov ((List.range o.length).map (zy T o)++(List.range 0).flatMap (xb T o)):=by simpa using h2
  obtain ⟨B2,h3,h4⟩:=wH hO hcv ho (l0:=(List.range o.length).map (zy T o)) (by simp; omega) T.ch.length 0 B1 300 (by omega) h2' (by omega)
  obtain ⟨v,g1,g2,g3⟩:=h4.g.frz
  have g2:=g2 0
  have g3:=g3 0
  obtain ⟨R,hR⟩:∃R,R=slA 4 ((bO T o).map db):=⟨_,rfl⟩
  rw [show (List.range o.length).map (zy T o)++(List.range T.ch.length).flatMap (xb T o)=bO T o from rfl,<-hR] at g2
  have hRR:LE (some (bO T o))=.tup [R,.int .i64 0]:=by rw [hR]; rfl
  rw [hRR]
  have h1:bM (evC (aw GC oZ) 300 dN) en 300 (gt (.ptr 0 0 0) (.ptr 1 0 0) (.int .i64 (fV T)) (.ptr 2 0 0) ov (.int .i64 (o.length:Int)) (.int .i64 0)) [.row 5 false [af T chv],.row 1 false [ov],.row 1 false [.nilS]]=_:=h1
  have h3:bM (evC (aw GC oZ) 300 dC) dS 300 (fD (.ptr 1 0 0) (.int .i64 (fV T)) (.ptr 2 0 0) (fnL T) chv (.int .i64 (T.ch.length:Int)) (.int .i64 0)) B1=_:=h3
  obtain ⟨t,htt⟩:∃t,t=af T chv:=⟨_,rfl⟩
  obtain ⟨F,hF⟩:∃F,F=fnL T:=⟨_,rfl⟩
  obtain ⟨Q,hQ⟩:∃F,F=dM (aP T):=⟨_,rfl⟩
  obtain ⟨w,hw⟩:∃F,F=fV T:=⟨_,rfl⟩
  rw [<-htt] at m14 ft lt fF bx0 bx1 m44 h1 ⊢
  rw [<-hF] at iv h3
  rw [<-hQ] at m14 m41 fO nO
  rw [<-hw] at m44 h1 h3
  have cb:∀x:AV,(cellsOf x).length=(cellsOf x).length:=fun _=>rfl
  have ct:(cellsOf t).length=5:=by rw [htt]; rfl
  have co:(cellsOf ov).length=1:=by rcases ho with ⟨rfl,_⟩ | rfl <;> rfl
  have fT:frz B2 4 (.tup [v,.int .i64 0])=.tup [R,.int .i64 0]:=by
   rw [<-g2]; rfl
  have rT:bo B2 4 (.tup [v,.int .i64 0])=true:=by
   have g3:bo B2 3 v=true:=g3
   simp [bo,g3]
  simp [vU,bx0,bx1,bx2,fT,rT,ct,co,lt,lo,m14,m41,m44,ft,fO,nO,fF,uP h1,uO h3,l4b,l4c,l0b,l0c,iv,hlen,hlo,CZ,g1,-aS,-ab,-aa,-aq,-frz,-cellsOf]
 ·have hll:(aP T).length<=256:=ju T
  have m41:=m41 hll (fun l hl=>by have:=cW hl; have:=this.1.2.2.2.1; omega)
  rw [RD hO] at m41
  rw [RK hO]
  obtain ⟨t,htt⟩:∃t,t=af T chv:=⟨_,rfl⟩
  obtain ⟨Q,hQ⟩:∃F,F=dM (aP T):=⟨_,rfl⟩
  rw [<-htt] at m14 ft lt fF bx0 bx1 ⊢
  rw [<-hQ] at m14 m41 fO nO
  have ct:(cellsOf t).length=5:=by rw [htt]; rfl
  have co:(cellsOf ov).length=1:=by rcases ho with ⟨rfl,_⟩ | rfl <;> rfl
  have fT:∀A,frz A 4 (.tup [.nilS,.int .i64 130])=.tup [.nilS,.int .i64 130]:=fun A=>rfl
  have rT:∀A,bo A 4 (.tup [.nilS,.int .i64 130])=true:=fun A=>rfl
  simp [vU,bx0,bx1,fT,rT,ct,co,lt,m14,m41,ft,fO,nO,fF,-aS,-ab,-aa,-aq,-frz,-cellsOf]
  rfl
end Clu
namespace Clu
open Go
open Cy (GC iO dw bY cd cP aM bc aA br db cR cT dW okA smM smT lvM lvT gY gi jq cM pS)
theorem xZ (h:i<o.length):o.getD i 0∈o:=by
 rw [Rw,Rx h]; exact RM h
theorem w9 {T:aT} (hO:o∈aP T):dW (o.length:Int) (bO T o)/\∀x∈bO T o,x.inR:=by
 obtain ⟨hv,hol,_,_⟩:=cW hO
 have hbd:=iX hO
 have hw:=s7 hv
 have hn1:=hv.2.2.1
 have hn4:=hv.2.2.2.1
 have htr:=hv.2.1.2.2
 have key:∀x∈bO T o,okA (o.length:Int) x:=fun x hx=>by
  rcases TN.1 hx with hx | hx
  ·obtain ⟨i,hi,rfl⟩:=Sa.1 hx
   rw [SI] at hi
   have h1:=hbd _ (xZ hi)
   have h2:0<=tD o i/\tD o i<=T.ch.length:=by
    unfold tD
    split
    ·rename_i h; exact hbd _ (xZ h)
    ·omega
   refine ⟨?_,?_,?_,?_⟩ <;> simp only [zy] <;> (try split) <;> omega
  ·obtain ⟨i,hi,hx⟩:=Ul.1 hx
   rw [SI] at hi
   have hx0:T.ch.getD i (0,0)=T.ch[i]:=by rw [Rw,Rx hi]; rfl
   have hxv:=hv.1 _ (RM hi)
   rw [<-hx0] at hxv
   simp only [ky] at hxv
   have lb:=E5 T o ((i:Int)+1)
   have l1:0<=(lkT T o ((i:Int)+1)).1/\(lkT T o ((i:Int)+1)).1<=o.length-1/\0<=(lkT T o ((i:Int)+1)).2.1/\(lkT T o ((i:Int)+1)).2.1<=o.length-1:=by
    unfold lkT
    split <;> simp only <;> omega
   simp only [xb,Su,List.not_mem_nil,or_false] at hx
   rcases hx with rfl | rfl <;> refine ⟨?_,?_,?_,?_⟩ <;> simp only <;> omega
 refine ⟨⟨by omega,?_,key⟩,fun x hx=>?_⟩
 ·unfold bO
  rw [RU,vH]
  simp; omega
 ·obtain ⟨h1,h2,h3,h4⟩:=key x hx
  refine ⟨?_,?_,?_,?_⟩ <;> unfold inI <;> omega
def iF (l:List br):AV:=slA 4 (l.map db)
theorem ph {T:aT} (hO:o∈aP T):cR (iF (bO T o))=some (bO T o):=by
 obtain ⟨h1,h2⟩:=w9 hO
 exact gY (by have:=h1.2.1; omega) h2
theorem sR {T:aT} (hO:o∈aP T):Es T o=some (bO T o):=RH hO
def oX (s:Option (Int × List Int)):Int:=match s with | none=>1000000 | some x=>x.1-1
def jT (T:aT) (s:Option (Int × List Int)) (o:List Int):Option (Int × List Int):=
 match smM (o.length:Int) (bO T o) 1 (oX s) with
 | some p=>some (p,o)
 | none=>s
def rH (T:aT):Option (Int × List Int):=(aP T).foldl (jT T) none
structure c9 where
 period:Int
 order:List Int
 starts:List Int
 proof:List Int
def pU (T:aT) (x:Int × List Int):c9:=
 ⟨x.1,x.2,(lvM (x.2.length:Int) (bO T x.2) x.1).1,if x.1 > 1 then (lvM (x.2.length:Int) (bO T x.2) (x.1-1)).2.1 else []⟩
def jU (T:aT):Option c9:=(rH T).map (pU T)
def xF (s:c9):AV:=.agg [.int .i64 s.period,slA 1 (aj s.order),slA 1 (aj s.starts),slA 1 (aj s.proof)]
def M6:c9:=⟨0,[],[],[]⟩
def rG (r:Option c9):AV:=.tup [xF (r.getD M6),.int .i64 (if r.isSome then 0 else 130)]
def sOk (T:aT) (s:Option (Int × List Int)):Prop:=∀x,s=some x->1<=x.1/\x.1<=1000000/\x.2∈aP T
theorem wj {n:Nat} {l:List br} {r:Int} (hp:cT hi) (h:smM (n:Int) l 1 hi=some r):1<=r/\r<=hi/\cM n l r/\¬ Cy.Pos l r/\∀q,1<=q->q<r->Cy.Pos l q:=by
 unfold smM at h
 rw [RH hp,RW] at h
 exact (Cy.tj (n:=n) (l:=l) hp (hi-1+2).toNat 1 (by omega)).1 r h
theorem Hf {n:Nat} {l:List br} (hp:cT hi) (hv:dW n l) (h:smM (n:Int) l 1 hi=none):∀q,1<=q->q<=hi->Cy.Pos l q:=by
 unfold smM at h
 rw [RH hp,RW] at h
 exact (Cy.tj (n:=n) (l:=l) hp (hi-1+2).toNat 1 (by omega)).2 h ⟨hv,by unfold cT; omega⟩
theorem tW {T:aT} {s:Option (Int × List Int)} (h:sOk T s) (hO:o∈aP T):sOk T (jT T s o):=by
 have hper:cT (oX s):=by
  unfold oX cT
  cases s with
  | none=>simp
  | some x=>have:=h x rfl; simp only; omega
 unfold jT
 cases hm:smM (o.length:Int) (bO T o) 1 (oX s) with
 | none=>exact h
 | some p=>
  obtain ⟨h1,h2,_⟩:=wj hper hm
  intro x hx
  injection hx with hx; subst hx
  exact ⟨h1,by unfold cT at hper; simp only; omega,hO⟩
theorem vB {T:aT} {q:List Int}:jT T (some (1,o)) q=some (1,o):=by
 unfold jT
 have hp:cT 0:=by unfold cT; omega
 cases hm:smM (q.length:Int) (bO T q) 1 ((1:Int)-1) with
 | none=>rfl
 | some p=>
  obtain ⟨h1,h2,_⟩:=wj (hi:=0) hp hm
  omega
theorem x9 {T:aT}:∀l:List (List Int),l.foldl (jT T) (some (1,o))=some (1,o)
 | []=>rfl
 | q :: l=>by rw [Sj,vB,x9 l]
theorem Br {T:aT}:∀(l:List (List Int)) (s:Option (Int × List Int)),(∀o∈l,o∈aP T)->sOk T s->sOk T (l.foldl (jT T) s)
 | [],_,_,h=>h
 | q :: l,s,hl,h=>Br l _ (fun o ho=>hl o (by simp [ho])) (tW h (hl q (by simp)))
def zH:List (FuncId × aJ):=[(43,cJ 4 M14),(44,cJ 4 M19),(45,aG 4 Cy.M23),(46,Cy.H14)]
@[simp] theorem O3:aE zH 43=some (cJ 4 M14):=rfl
@[simp] theorem O2:aE zH 44=some (cJ 4 M19):=rfl
@[simp] theorem O1:aE zH 45=some (aG 4 Cy.M23):=rfl
@[simp] theorem O0:aE zH 46=some Cy.H14:=rfl
theorem G7:∀f M,aE zH f=some M->au Try.prog GC f M:=ai (au.of_pureF nM 4) (ai (au.of_pureF ui 4) (ai (au.of_pure Cy.Jx 4) (ai Cy.nM aB)))
def zA:AV:=.agg [.int .i64 0,.nilS,.nilS,.nilS]
def bsA (s:Option (Int × List Int)):AV:=match s with | none=>.agg [.int .i64 0,.nilS,.nilS,.nilS] | some x=>.agg [.int .i64 x.1,slA 1 (aj x.2),.nilS,.nilS]
def bsV (T:aT) (s:Option (Int × List Int)):AV:=match s with | none=>.nilS | some x=>iF (bO T x.2)
def R22 (A:ac) (T:aT) (chv:AV) (s:Option (Int × List Int)):ac:=A++[.row 5 false [af T chv],.row 4 false [zA],.row 4 false [bsA s]]
theorem QD (A:ac) (T:aT) (chv:AV) (s:Option (Int × List Int)):(R22 A T chv s)[A.length]?=some (.row 5 false [af T chv]):=by simp [R22]
theorem LR (A:ac) (T:aT) (chv:AV) (s:Option (Int × List Int)):(R22 A T chv s)[A.length+1]?=some (.row 4 false [zA]):=by simp [R22]
theorem CV (A:ac) (T:aT) (chv:AV) (s:Option (Int × List Int)):(R22 A T chv s)[A.length+2]?=some (.row 4 false [bsA s]):=by simp [R22]
theorem Iy (A:ac) (T:aT) (chv:AV) (s s':Option (Int × List Int)):(R22 A T chv s).set (A.length+2) (.row 4 false [bsA s'])=R22 A T chv s':=by
 unfold R22
 rw [R8 _ _ (by omega),show A.length+2-A.length=2 by omega]
 rfl
def pOf (s:Option (Int × List Int)):Int:=match s with | none=>0 | some x=>x.1
theorem bL (a b:Int):ag .gtr (.int .i64 a) (.int .i64 b)=some (.bool (decide (a > b))):=by simp [ag]
theorem jr (xs:List Int):(slA 1 (aj xs)).solid=true/\cellsOf (slA 1 (aj xs))=[slA 1 (aj xs)]:=by
 cases xs <;> exact ⟨rfl,rfl⟩
theorem Hu {A:ac} {T:aT} (hcv:SlA 2 (T.ch.map chA) chF) (hz:∀X,frz (A++X) 4 (af T chv)=af T chF) {s:Option (Int × List Int)} (hs:sOk T s) (hi:i<(aP T).length) :
  (oX s<1->∃d6 d7 d8:AV,run (aw GC zH) 300 [.code gR] (pL (.ptr A.length 0 0) (.ptr (A.length+1) 0 0) (.ptr (A.length+2) 0 0) (bsV T s) (dM (aP T)) (.int .i64 ((aP T).length:Int)) (.int .i64 (i:Int))) (R22 A T chv s) =
   some (.exit 0 [.undef,.ptr A.length 0 0,.ptr (A.length+1) 0 0,.undef,.ptr (A.length+2) 0 0,bsV T s,d6,d7,d8,.undef,.undef,dM (aP T),.int .i64 ((aP T).length:Int),.int .i64 (i:Int),.bool true,.bool true,.bool true,.undef,.undef,.undef] (R22 A T chv s))) /\
  (¬ oX s<1->run (aw GC zH) 300 [.code gR] (pL (.ptr A.length 0 0) (.ptr (A.length+1) 0 0) (.ptr (A.length+2) 0 0) (bsV T s) (dM (aP T)) (.int .i64 ((aP T).length:Int)) (.int .i64 (i:Int))) (R22 A T chv s) =
   some (.normal (pL (.ptr A.length 0 0) (.ptr (A.length+1) 0 0) (.ptr (A.length+2) 0 0) (bsV T (jT T s (aP T)[i])) (dM (aP T)) (.int .i64 ((aP T).length:Int)) (.int .i64 ((i+1:Nat):Int))) (R22 A T chv (jT T s (aP T)[i])))):=by
 obtain ⟨o,ho⟩:∃o,o=(aP T)[i]:=⟨_,rfl⟩
 have hO:o∈aP T:=by rw [ho]; exact RM hi
 obtain ⟨hv,hol,_,_⟩:=cW hO
 have hhi:oX s<=1000000/\0<=oX s:=by
  unfold oX
  cases s with
  | none=>simp
  | some x=>have:=hs x rfl; simp only; omega
 have hb:=ba 1 ((aP T).map fun l=>slA 1 (aj l))
 rw [show slA 1 ((aP T).map fun l=>slA 1 (aj l))=dM (aP T) from rfl] at hb
 obtain ⟨q1,q2⟩:=jr o
 have he:((aP T).map fun l=>slA 1 (aj l))[i]?=some (slA 1 (aj o)):=by simp [hi,ho]
 have x1:=fun A=>hb.index1 (A:=A) he q1 q2 .i64
 have hos:=ba 1 (aj o)
 have hlo:=hos.len
 rw [aA] at hlo
 have m19:=C3 (T:=T) hcv (by have:=hv.2.2.2.1; omega) hos
 rw [sR hO] at m19
 have m19:M19 [af T chF,slA 1 (aj o)]=some (.tup [iF (bO T o),.int .i64 0]):=m19
 have m23:∀hi,Cy.M23 [.int .i64 (o.length:Int),iF (bO T o),.int .i64 1,.int .i64 hi]=some (smT (smM (o.length:Int) (bO T o) 1 hi)):=fun hi=>by
  simp only [Cy.M23,ph hO,Ss]
 have m23:=m23 (oX s)
 have hbs:jT T s o=match smM (o.length:Int) (bO T o) 1 (oX s) with | some p=>some (p,o) | none=>s:=rfl
 rw [<-ho,hbs]
 have b0:=a9 i (aP T).length .i64
 rw [RE hi] at b0
 have b1:=aV i (by have:=ju T; omega)
 have b2:=bL (pOf s) 0
 have b3:ag .sub (.int .i64 (pOf s)) (.int .i64 1)=some (.int .i64 (pOf s-1)):=bD (by
  unfold pOf
  cases s with
  | none=>simp
  | some x=>have:=hs x rfl; simp only; omega)
 have hpp:(pOf s > 0->oX s=pOf s-1)/\(¬ pOf s > 0->oX s=1000000):=by
  unfold pOf oX
  cases s with
  | none=>simp
  | some x=>have:=hs x rfl; simp only; exact ⟨fun _=>trivial,fun h=>by omega⟩
 have b4:=bK (oX s) 1
 have ft:frz (R22 A T chv s) 4 (af T chv)=af T chF:=hz _
 have fo:∀A n,frz A n (slA 1 (aj o))=slA 1 (aj o):=fun A n=>hos.frz n
 have fa:∀A n,frz A n (iF (bO T o))=iF (bO T o):=fun A n=>(ba 4 _).frz n
 have na:bu 4 (iF (bO T o))=true:=(ba 4 _).noRef 4
 have lt:ab true 5 (R22 A T chv s) (.ptr A.length 0 0)=some (af T chv):=by simp [ab,QD,af]
 have f0:aa 0 (R22 A T chv s) (.ptr (A.length+2) 0 0)=some (.ptr (A.length+2) 0 0):=by simp [aa,CV]
 have l0:ab false 1 (R22 A T chv s) (.ptr (A.length+2) 0 0)=some (.int .i64 (pOf s)):=by
  cases s <;> simp [ab,CV,bsA,pOf,cn]
 have st:∀p,az 4 (R22 A T chv s) (.ptr (A.length+2) 0 0) (.agg [.int .i64 p,slA 1 (aj o),.nilS,.nilS])=some (R22 A T chv (some (p,o))):=fun p=>by
  rw [<-Iy A T chv s (some (p,o))]
  simp [CV,az,bq,bsA]
 have fl:∀p,my [.int .i64 0,.nilS,.nilS,.nilS] [(0,(1,.int .i64 p)),(1,(1,slA 1 (aj o)))]=some [.int .i64 p,slA 1 (aj o),.nilS,.nilS]:=fun p=>by
  have c1:cellsOf (AV.int .i64 p)=[.int .i64 p]:=rfl
  have c2:(AV.int .i64 p).solid=true:=rfl
  simp [my,q1,q2,c1,c2,-cellsOf,-AV.solid]
 have fl2:∀x,my [.int .i64 0,.nilS,.nilS,.nilS] x=my [.int .i64 0,.nilS,.nilS,.nilS] x:=fun _=>rfl
 obtain ⟨W,hW⟩:∃W,W=slA 1 (aj o):=⟨_,rfl⟩
 rw [<-hW] at x1 hlo m19 fo st fl
 have hbv:∀p,bsV T (some (p,o))=iF (bO T o):=fun _=>rfl
 obtain ⟨sm,hsm⟩:∃sm,sm=smM (o.length:Int) (bO T o) 1 (oX s):=⟨_,rfl⟩
 rw [<-hsm] at m23 ⊢
 obtain ⟨V,hV⟩:∃V,V=iF (bO T o):=⟨_,rfl⟩
 rw [<-hV] at m19 m23 fa na
 simp only [<-hV] at hbv
 obtain ⟨tF,htF⟩:∃t,t=af T chF:=⟨_,rfl⟩
 rw [<-htF] at m19 ft
 obtain ⟨t,ht⟩:∃t,t=af T chv:=⟨_,rfl⟩
 rw [<-ht] at ft lt
 obtain ⟨h,hh⟩:∃h,h=oX s:=⟨_,rfl⟩
 rw [<-hh] at m23 b4 hpp ⊢
 obtain ⟨p,hp⟩:∃h,h=pOf s:=⟨_,rfl⟩
 rw [<-hp] at b2 b3 hpp l0
 obtain ⟨i1,hi1⟩:∃n,n=i+1:=⟨_,rfl⟩
 rw [<-hi1] at b1 ⊢
 obtain ⟨Q,hQ⟩:∃Q,Q=dM (aP T):=⟨_,rfl⟩
 rw [<-hQ] at x1 ⊢
 obtain ⟨A0,hA0⟩:∃X,X=R22 A T chv s:=⟨_,rfl⟩
 rw [<-hA0] at lt f0 l0 st ft ⊢
 obtain ⟨n0,hn0⟩:∃n,n=A.length:=⟨_,rfl⟩
 obtain ⟨n1,hn1⟩:∃n,n=A.length+1:=⟨_,rfl⟩
 obtain ⟨n2,hn2⟩:∃n,n=A.length+2:=⟨_,rfl⟩
 rw [<-hn2] at f0 l0 st
 rw [<-hn0] at lt
 rw [<-hn1,<-hn2,<-hn0]
 obtain ⟨U,hU⟩:∃U,U=bsV T s:=⟨_,rfl⟩
 rw [<-hU]
 refine ⟨fun h1=>⟨W,V,.int .i64 h,?_⟩,fun h1=>?_⟩
 ·have hp0:p > 0:=by
   by_cases hp0:p > 0
   ·exact hp0
   ·have:=hpp.2 hp0; omega
  rw [RE hp0] at b2
  rw [<-hpp.1 hp0] at b3
  rw [RE h1] at b4
  simp [gR,x1,lt,ft,fo,m19,f0,l0,b0,b2,b3,b4,-ag,-ab,-aa,-ae,-frz]
 ·rw [RD h1] at b4
  by_cases hp0:p > 0
  ·rw [RE hp0] at b2
   rw [<-hpp.1 hp0] at b3
   cases sm with
   | none=>
    simp only [<-hU,<-hA0]
    simp [gR,x1,lt,ft,fo,fa,aM,na,smT,m19,m23,hlo,f0,l0,b0,b1,b2,b3,b4,-ag,-ab,-aa,-ae,-aq,-frz]
   | some r=>simp [gR,x1,lt,ft,fo,fa,aM,na,smT,m19,m23,hlo,f0,l0,b0,b1,b2,b3,b4,st,fl,hbv,-ag,-ab,-az,-aa,-ae,-aq,-frz,-my]
  ·rw [RD hp0] at b2
   obtain rfl:=hpp.2 hp0
   cases sm with
   | none=>
    simp only [<-hU,<-hA0]
    simp [gR,x1,lt,ft,fo,fa,aM,na,smT,m19,m23,hlo,f0,l0,b0,b1,b2,b4,-ag,-ab,-aa,-ae,-aq,-frz]
   | some r=>simp [gR,x1,lt,ft,fo,fa,aM,na,smT,m19,m23,hlo,f0,l0,b0,b1,b2,b4,st,fl,hbv,-ag,-ab,-az,-aa,-ae,-aq,-frz,-my]
end Clu
namespace Clu
open Go
open Cy (GC iO dw bY cd cP aM bc aA br db cR cT dW okA smM smT lvM lvT gY gi jq cM pS)
theorem Kb {T:aT} (hcv:SlA 2 (T.ch.map chA) chF) (hz:∀X,frz (A++X) 4 (af T chv)=af T chF):∀(c i:Nat) (s:Option (Int × List Int)) (m:Nat),i+c=(aP T).length->sOk T s->c<m ->
  ∃d6 d7 d8 d13 d14 d15 d16:AV,bM (evC (aw GC zH) 300 gR) lR m (pL (.ptr A.length 0 0) (.ptr (A.length+1) 0 0) (.ptr (A.length+2) 0 0) (bsV T s) (dM (aP T)) (.int .i64 ((aP T).length:Int)) (.int .i64 (i:Int))) (R22 A T chv s) =
   some (.exit 0 [.undef,.ptr A.length 0 0,.ptr (A.length+1) 0 0,.undef,.ptr (A.length+2) 0 0,bsV T (((aP T).drop i).foldl (jT T) s),d6,d7,d8,.undef,.undef,dM (aP T),.int .i64 ((aP T).length:Int),d13,d14,d15,d16,.undef,.undef,.undef] (R22 A T chv (((aP T).drop i).foldl (jT T) s))):=by
 intro c
 induction c with
 | zero=>
  intro i s m hi hs hm
  obtain ⟨m,rfl⟩:∃j,m=j+1:=⟨m-1,by omega⟩
  obtain rfl:i=(aP T).length:=by omega
  rw [SP]
  refine ⟨.undef,.undef,.undef,.int .i64 ((aP T).length:Int),.bool false,.undef,.undef,?_⟩
  have b0:=a9 (aP T).length (aP T).length .i64
  rw [RD (by omega)] at b0
  rw [aD,yq]
  simp [gR,b0,-ag]
 | succ c ih=>
  intro i s m hi hs hm
  obtain ⟨m,rfl⟩:∃j,m=j+1:=⟨m-1,by omega⟩
  have hil:i<(aP T).length:=by omega
  obtain ⟨r1,r2⟩:=Hu hcv hz hs hil
  rw [Sw hil,Sj]
  by_cases h1:oX s<1
  ·obtain ⟨d6,d7,d8,hr⟩:=r1 h1
   have hone:∃o,s=some (1,o):=by
    cases s with
    | none=>unfold oX at h1; simp at h1
    | some x=>
     have:=hs x rfl
     unfold oX at h1
     simp only at h1
     obtain ⟨p,o⟩:=x
     exact ⟨o,by simp only at this h1; rw [show p=1 by omega]⟩
   obtain ⟨o,rfl⟩:=hone
   rw [vB,x9]
   refine ⟨d6,d7,d8,.int .i64 (i:Int),.bool true,.bool true,.bool true,?_⟩
   rw [aD,yq,hr]
  ·have hr:=r2 h1
   obtain ⟨d6,d7,d8,d13,d14,d15,d16,h2⟩:=ih (i+1) _ m (by omega) (tW hs (RM hil)) (by omega)
   refine ⟨d6,d7,d8,d13,d14,d15,d16,?_⟩
   rw [aD,yq,hr]
   exact h2
theorem Ir (T:aT):sOk T (rH T):=Br _ _ (fun _ h=>h) (fun x h=>by cases h)
def E22 (A:ac) (T:aT) (chv:AV) (r:Option c9):ac:=A++[.row 5 false [af T chv],.row 4 false [match r with | none=>zA | some s=>xF s],.row 4 false [match r with | none=>zA | some s=>xF s]]
def H22:aJ:=fun _=>cc (aw GC zH) 300 Df
theorem Mr (h:be) {A:ac} {T:aT} (hcv:SlA 2 (T.ch.map chA) chF) (hz:∀X,frz (A++X) 4 (af T chv)=af T chF) (hl:T.ch.length<=200):H22 h [af T chv] A=some (rG (jU T),E22 A T chv (jU T)):=by
 have m14:=ot hcv hl
 have hlen:aq (dM (aP T))=some (.int .i64 ((aP T).length:Int)):=by
  have:=(ba 1 ((aP T).map fun l=>slA 1 (aj l))).len
  rwa [RN] at this
 obtain ⟨d6,d7,d8,d13,d14,d15,d16,lp⟩:=Kb hcv hz (aP T).length 0 none 300 (by omega) (fun x h=>by cases h) (by have:=ju T; omega)
 rw [RT,show (aP T).foldl (jT T) none=rH T from rfl] at lp
 have hok:=Ir T
 obtain ⟨A0,hA0⟩:∃X,X=A++[.row 5 false [af T chv],.row 4 false [zA],.row 4 false [zA]]:=⟨_,rfl⟩
 rw [show R22 A T chv none=A0 from hA0.symm,show bsV T none=.nilS from rfl,show ((0:Nat):Int)=0 from rfl] at lp
 have lt:ab true 5 A0 (.ptr A.length 0 0)=some (af T chv):=by rw [hA0]; simp [ab,af]
 have ft:frz A0 4 (af T chv)=af T chF:=by rw [hA0]; exact hz _
 have bx0:aS 5 (af T chv) A=some (.ptr A.length 0 0,A++[.row 5 false [af T chv]]):=rfl
 have ct:(cellsOf (af T chv)).length=5:=rfl
 have bx1:aS 4 (.agg [.int .i64 0,.nilS,.nilS,.nilS]) (A++[.row 5 false [af T chv]])=some (.ptr (A.length+1) 0 0,A++[.row 5 false [af T chv],.row 4 false [zA]]):=by simp [aS,zA]
 have bx2:aS 4 (.agg [.int .i64 0,.nilS,.nilS,.nilS]) (A++[.row 5 false [af T chv],.row 4 false [zA]])=some (.ptr (A.length+2) 0 0,A0):=by rw [hA0]; simp [aS,zA]
 have hbm:jU T=(rH T).map (pU T):=rfl
 rw [hbm]
 obtain ⟨s,hs⟩:∃s,s=rH T:=⟨_,rfl⟩
 rw [<-hs] at lp hok ⊢
 obtain ⟨X1,hX1⟩:∃X,X=A++[Ent.row 5 false [af T chv]]:=⟨_,rfl⟩
 obtain ⟨X2,hX2⟩:∃X,X=A++[Ent.row 5 false [af T chv],.row 4 false [zA]]:=⟨_,rfl⟩
 rw [<-hX1] at bx0 bx1
 rw [<-hX2] at bx1 bx2
 obtain ⟨t,ht⟩:∃t,t=af T chv:=⟨_,rfl⟩
 obtain ⟨tF,htF⟩:∃t,t=af T chF:=⟨_,rfl⟩
 obtain ⟨Q,hQ⟩:∃Q,Q=dM (aP T):=⟨_,rfl⟩
 obtain ⟨L,hL⟩:∃Q,Q=((aP T).length:Int):=⟨_,rfl⟩
 have f0:aa 0 (R22 A T chv s) (.ptr (A.length+2) 0 0)=some (.ptr (A.length+2) 0 0):=by simp [aa,CV]
 have l0:ab false 1 (R22 A T chv s) (.ptr (A.length+2) 0 0)=some (.int .i64 (pOf s)):=by cases s <;> simp [ab,CV,bsA,pOf,cn]
 rw [<-htF] at m14 ft
 rw [<-ht] at lt bx0 ct ft ⊢
 rw [<-hQ] at m14 hlen lp
 rw [<-hL] at hlen lp
 unfold H22
 rw [bh _ _ rfl]
 cases s with
 | none=>
  have b1:=bA 0 0
  rw [RE rfl] at b1
  have e1:E22 A T chv none=R22 A T chv none:=rfl
  have st:az 4 (R22 A T chv none) (.ptr (A.length+1) 0 0) (.agg [.int .i64 0,.nilS,.nilS,.nilS])=some (R22 A T chv none):=by
   have:(R22 A T chv none).set (A.length+1) (.row 4 false [zA])=R22 A T chv none:=by
    unfold R22
    rw [R8 _ _ (by omega),show A.length+1-A.length=1 by omega]
    rfl
   conv=>rhs; rw [<-this]
   simp [az,LR,bq,zA]
  have l4:ab true 4 (R22 A T chv none) (.ptr (A.length+1) 0 0)=some (.agg [.int .i64 0,.nilS,.nilS,.nilS]):=by simp [ab,LR,zA]
  rw [show (Option.map (pU T) none)=none from rfl,e1]
  rw [show rG none=.tup [.agg [.int .i64 0,.nilS,.nilS,.nilS],.int .i64 130] from rfl]
  obtain ⟨A1,hA1⟩:∃X,X=R22 A T chv none:=⟨_,rfl⟩
  rw [<-hA1] at lp f0 l0 st l4 ⊢
  have l0:ab false 1 A1 (.ptr (A.length+2) 0 0)=some (.int .i64 0):=l0
  obtain ⟨n0,hn0⟩:∃n,n=A.length:=⟨_,rfl⟩
  obtain ⟨n1,hn1⟩:∃n,n=A.length+1:=⟨_,rfl⟩
  obtain ⟨n2,hn2⟩:∃n,n=A.length+2:=⟨_,rfl⟩
  rw [<-hn2] at lp f0 l0 bx2
  rw [<-hn1] at lp st l4 bx1
  rw [<-hn0] at lp lt bx0
  simp [Df,bx0,bx1,bx2,ct,lt,m14,ft,hlen,Bi lp,f0,l0,b1,st,l4,-aS,-ab,-az,-aa,-aq,-frz,-cellsOf,-ag]
 | some x=>
  obtain ⟨p,o⟩:=x
  obtain ⟨hp1,hp2,hO⟩:=hok _ rfl
  simp only at hp1 hp2 hO
  have hos:=ba 1 (aj o)
  have hlo:=hos.len
  rw [aA] at hlo
  obtain ⟨q1,q2⟩:=jr o
  have hv:=ph hO
  have h14:=fun A=>Cy.Gl (fun _ _ _=>none) (A:=A) (show frz A 4 (iF (bO T o))=iF (bO T o) from (ba 4 ((bO T o).map db)).frz 4) hv (o.length:Int)
  obtain ⟨st,hst⟩:∃st,st=(lvM (o.length:Int) (bO T o) p).1:=⟨_,rfl⟩
  have hl1:lvT (lvM (o.length:Int) (bO T o) p)=.tup [slA 1 (aj st),slA 1 (aj (lvM (o.length:Int) (bO T o) p).2.1),.bool (lvM (o.length:Int) (bO T o) p).2.2]:=by rw [hst]; rfl
  obtain ⟨s1,s2⟩:=jr st
  obtain ⟨RA,hRA⟩:∃R:List Int->List Int->ac,∀a b,R a b=A++[.row 5 false [af T chv],.row 4 false [zA],.row 4 false [.agg [.int .i64 p,slA 1 (aj o),slA 1 (aj a),slA 1 (aj b)]]]:=⟨_,fun _ _=>rfl⟩
  have hR0:R22 A T chv (some (p,o))=RA [] []:=by rw [hRA]; rfl
  rw [hR0] at lp f0 l0
  have l0:ab false 1 (RA [] []) (.ptr (A.length+2) 0 0)=some (.int .i64 p):=l0
  have ra1:∀a b,(RA a b)[A.length+1]?=some (.row 4 false [zA]):=fun a b=>by rw [hRA]; simp
  have ra2:∀a b,(RA a b)[A.length+2]?=some (.row 4 false [.agg [.int .i64 p,slA 1 (aj o),slA 1 (aj a),slA 1 (aj b)]]):=fun a b=>by rw [hRA]; simp
  have fa:∀j a b,j<4->aa j (RA a b) (.ptr (A.length+2) 0 0)=some (.ptr (A.length+2) 0 j):=fun j a b hj=>by simp [aa,ra2,hj]
  have la0:∀a b,ab false 1 (RA a b) (.ptr (A.length+2) 0 0)=some (.int .i64 p):=fun a b=>by simp [ab,ra2,cn]
  have la1:∀a b,ab false 1 (RA a b) (.ptr (A.length+2) 0 1)=some (slA 1 (aj o)):=fun a b=>by simp [ab,ra2,cn]
  have lall:∀a b,ab true 4 (RA a b) (.ptr (A.length+2) 0 0)=some (.agg [.int .i64 p,slA 1 (aj o),slA 1 (aj a),slA 1 (aj b)]):=fun a b=>by simp [ab,ra2]
  have rset:∀a b a' b',(RA a b).set (A.length+2) (.row 4 false [.agg [.int .i64 p,slA 1 (aj o),slA 1 (aj a'),slA 1 (aj b')]])=RA a' b':=fun a b a' b'=>by
   rw [hRA,hRA,R8 _ _ (by omega),show A.length+2-A.length=2 by omega]
   rfl
  have st2:∀a,az 1 (RA [] []) (.ptr (A.length+2) 0 2) (slA 1 (aj a))=some (RA a []):=fun a=>by
   obtain ⟨z1,z2⟩:=jr a
   rw [<-rset [] [] a []]
   simp [az,ra2,bq,z1,z2,-cellsOf,-AV.solid]
  have st3:∀a b,az 1 (RA a []) (.ptr (A.length+2) 0 3) (slA 1 (aj b))=some (RA a b):=fun a b=>by
   obtain ⟨z1,z2⟩:=jr b
   rw [<-rset a [] a b]
   simp [az,ra2,bq,z1,z2,-cellsOf,-AV.solid]
  obtain ⟨RB,hRB⟩:∃R:List Int->List Int->ac,∀a b,R a b=E22 A T chv (some ⟨p,o,a,b⟩):=⟨_,fun _ _=>rfl⟩
  have stB:∀a b,az 4 (RA a b) (.ptr (A.length+1) 0 0) (.agg [.int .i64 p,slA 1 (aj o),slA 1 (aj a),slA 1 (aj b)])=some (RB a b):=fun a b=>by
   have:(RA a b).set (A.length+1) (.row 4 false [.agg [.int .i64 p,slA 1 (aj o),slA 1 (aj a),slA 1 (aj b)]])=RB a b:=by
    rw [hRA,hRB,R8 _ _ (by omega),show A.length+1-A.length=1 by omega]
    rfl
   rw [<-this]
   simp [az,ra1,bq,zA]
  have lB:∀a b,ab true 4 (RB a b) (.ptr (A.length+1) 0 0)=some (.agg [.int .i64 p,slA 1 (aj o),slA 1 (aj a),slA 1 (aj b)]):=fun a b=>by
   have:(RB a b)[A.length+1]?=some (.row 4 false [.agg [.int .i64 p,slA 1 (aj o),slA 1 (aj a),slA 1 (aj b)]]):=by rw [hRB]; simp [E22,xF]
   simp [ab,this]
  have b1:=bA p 0
  rw [RD (by omega)] at b1
  have b2:=bL p 1
  have b3:ag .sub (.int .i64 p) (.int .i64 1)=some (.int .i64 (p-1)):=bD (by omega)
  have hsb:∀pr,pU T (p,o)=⟨p,o,st,pr⟩↔pr=(if p > 1 then (lvM (o.length:Int) (bO T o) (p-1)).2.1 else []):=fun pr=>by
   unfold pU
   simp only [<-hst]
   constructor
   ·intro h; injection h with _ _ _ h; exact h.symm
   ·intro h; rw [h]
  have lp:bM (evC (aw GC zH) 300 gR) lR 300 (pL (.ptr A.length 0 0) (.ptr (A.length+1) 0 0) (.ptr (A.length+2) 0 0) .nilS Q (.int .i64 L) (.int .i64 0)) A0 =
    some (.exit 0 [.undef,.ptr A.length 0 0,.ptr (A.length+1) 0 0,.undef,.ptr (A.length+2) 0 0,iF (bO T o),d6,d7,d8,.undef,.undef,Q,.int .i64 L,d13,d14,d15,d16,.undef,.undef,.undef] (RA [] [])):=lp
  have h1:=h14 (RA [] []) p
  rw [hl1] at h1
  have h2:=h14 (RA st []) (p-1)
  obtain ⟨pr,hpr⟩:∃pr,pr=(lvM (o.length:Int) (bO T o) (p-1)).2.1:=⟨_,rfl⟩
  rw [show lvT (lvM (o.length:Int) (bO T o) (p-1))=.tup [slA 1 (aj (lvM (o.length:Int) (bO T o) (p-1)).1),slA 1 (aj pr),.bool (lvM (o.length:Int) (bO T o) (p-1)).2.2] by rw [hpr]; rfl] at h2
  have k5:=st2 st
  have k7:=la0 st []
  have k8:=la1 st []
  have k9:=la1 [] []
  have f1:=fun j=>fa j [] []
  have f2:=fun j=>fa j st []
  obtain ⟨n0,hn0⟩:∃n,n=A.length:=⟨_,rfl⟩
  obtain ⟨n1,hn1⟩:∃n,n=A.length+1:=⟨_,rfl⟩
  obtain ⟨n2,hn2⟩:∃n,n=A.length+2:=⟨_,rfl⟩
  rw [<-hn2] at lp f0 l0 bx2 k5 k7 k8 k9
  simp only [<-hn2] at f1 f2
  rw [<-hn1] at lp bx1
  rw [<-hn0] at lp lt bx0
  obtain ⟨W,hW⟩:∃W,W=slA 1 (aj o):=⟨_,rfl⟩
  obtain ⟨V,hV⟩:∃V,V=iF (bO T o):=⟨_,rfl⟩
  rw [<-hV] at lp h1 h2
  obtain ⟨B0,hB0⟩:∃A,A=RA [] []:=⟨_,rfl⟩
  rw [<-hB0] at lp f0 l0 k5 k9 h1
  simp only [<-hB0] at f1
  obtain ⟨S1,hS1⟩:∃W,W=slA 1 (aj st):=⟨_,rfl⟩
  by_cases hp:p > 1
  ·rw [RE hp] at b2
   have hsc:(Option.map (pU T) (some (p,o)))=some ⟨p,o,st,pr⟩:=by
    rw [Ss,(hsb pr).2 (by rw [RH hp]; exact hpr)]
   rw [hsc,<-hRB]
   rw [show rG (some ⟨p,o,st,pr⟩)=.tup [.agg [.int .i64 p,slA 1 (aj o),slA 1 (aj st),slA 1 (aj pr)],.int .i64 0] from rfl]
   have k1:=lall st pr
   have k2:=stB st pr
   have k3:=lB st pr
   have k6:=st3 st pr
   rw [<-hn2] at k1 k6
   rw [<-hn1] at k2 k3
   obtain ⟨B1,hB1⟩:∃A,A=RA st []:=⟨_,rfl⟩
   rw [<-hB1] at k5 k6 k7 k8 h2
   simp only [<-hB1] at f2
   obtain ⟨B2,hB2⟩:∃A,A=RA st pr:=⟨_,rfl⟩
   rw [<-hB2] at k1 k2 k6
   obtain ⟨B3,hB3⟩:∃A,A=RB st pr:=⟨_,rfl⟩
   rw [<-hB3] at k2 k3 ⊢
   obtain ⟨S2,hS2⟩:∃W,W=slA 1 (aj pr):=⟨_,rfl⟩
   rw [<-hW] at k1 k2 k3 k8 k9 hlo ⊢
   rw [<-hS1] at h1 k1 k2 k3 k5 ⊢
   rw [<-hS2] at h2 k1 k2 k3 k6 ⊢
   obtain ⟨p1,hp1⟩:∃q,q=p-1:=⟨_,rfl⟩
   rw [<-hp1] at h2 b3
   simp [Df,bx0,bx1,bx2,ct,lt,m14,ft,hlen,Bi lp,f0,f1,f2,l0,b1,b2,b3,hlo,h1,h2,k1,k2,k3,k5,k6,k7,k8,k9,-aS,-ab,-az,-aa,-aq,-frz,-cellsOf,-ag]
  ·rw [RD hp] at b2
   have hsc:(Option.map (pU T) (some (p,o)))=some ⟨p,o,st,[]⟩:=by
    rw [Ss,(hsb []).2 (by rw [RK hp])]
   rw [hsc,<-hRB]
   rw [show rG (some ⟨p,o,st,[]⟩)=.tup [.agg [.int .i64 p,slA 1 (aj o),slA 1 (aj st),slA 1 (aj [])],.int .i64 0] from rfl]
   have k1:=lall st []
   have k2:=stB st []
   have k3:=lB st []
   rw [<-hn2] at k1
   rw [<-hn1] at k2 k3
   obtain ⟨B1,hB1⟩:∃A,A=RA st []:=⟨_,rfl⟩
   rw [<-hB1] at k1 k2 k5 k7
   simp only [<-hB1] at f2
   obtain ⟨B3,hB3⟩:∃A,A=RB st []:=⟨_,rfl⟩
   rw [<-hB3] at k2 k3 ⊢
   obtain ⟨S2,hS2⟩:∃W,W=slA 1 (aj []):=⟨_,rfl⟩
   rw [<-hW] at k1 k2 k3 k9 hlo ⊢
   rw [<-hS1] at h1 k1 k2 k3 k5 ⊢
   rw [<-hS2] at k1 k2 k3 ⊢
   simp [Df,bx0,bx1,bx2,ct,lt,m14,ft,hlen,Bi lp,f0,f1,f2,l0,b1,b2,hlo,h1,k1,k2,k3,k5,k7,k9,-aS,-ab,-az,-aa,-aq,-frz,-cellsOf,-ag]
def M22:aU:=fun args=>evP (aw GC zH) 300 Df 4 args
theorem rY:ax Try.prog GC 23 M22:=ax.of_ev (E:=aw GC zH) (ay G7) rfl Qc BY 4 fun _ _ h=>⟨300,h⟩
theorem yI {T:aT} (hcv:SlA 2 (T.ch.map chA) chv) (hl:T.ch.length<=200):M22 [af T chv]=some (rG (jU T)):=by
 have h:=Mr (fun _ _ _=>none) (A:=[]) hcv (fun X=>aK (T:=T) (fun A n=>hcv.frz (A:=A) n) _ 3) hl
 unfold H22 at h
 unfold M22 evP
 rw [h,Ss]
 congr 1
 have k1:=fun A o=>(ba 1 (aj o)).frz (A:=A) 2
 unfold rG
 simp only
 simp [frz,xF,k1]
end Clu
namespace Clu
open Go
open Cy (GC iO dw bY cd cP aM bc aA br db cR cT dW okA smM smT lvM lvT gY gi jq cM pS)
structure t6 (s:c9) (ov sv pv:AV):Prop where
 o:SlA 1 (aj s.order) ov
 st:SlA 1 (aj s.starts) sv
 pr:SlA 1 (aj s.proof) pv
 per:inI s.period
 ol:s.order.length<=9223372036854775807
 stl:s.starts.length<=9223372036854775807
 sti:∀z∈s.starts,inI z
 prl:s.proof.length<=9223372036854775807
 pri:∀z∈s.proof,inI z
def Chk (T:aT) (s:c9):Prop:=s.order∈aP T/\(1<=s.period/\s.period<=1000000)/\gi (s.order.length:Int) (bO T s.order) s.period s.starts /\
 (if s.period=1 then s.proof=[] else jq (s.order.length:Int) (bO T s.order) (s.period-1) s.proof)
def zi:List (FuncId × aJ):=[(44,cJ 4 M19),(77,aG 4 Cy.M19),(78,aG 4 Cy.M21)]
@[simp] theorem OJ:aE zi 44=some (cJ 4 M19):=rfl
@[simp] theorem OI:aE zi 77=some (aG 4 Cy.M19):=rfl
@[simp] theorem OF:aE zi 78=some (aG 4 Cy.M21):=rfl
theorem wg:∀f M,aE zi f=some M->au Try.prog GC f M:=ai (au.of_pureF ui 4) (ai (au.of_pure Cy.ui 4) (ai (au.of_pure Cy.Jy 4) aB))
def M26:aU:=fun args=>evP (aw GC zi) 0 uC 4 args
theorem Af:ax Try.prog GC 48 M26:=ax.of_ev (E:=aw GC zi) (ay wg) rfl LB vr 4 fun _ _ h=>⟨0,h⟩
open Classical in
theorem sZ {T:aT} (hcv:SlA 2 (T.ch.map chA) chv) (hl:T.ch.length<=200) {s:c9} {sv pv:AV} (hs:t6 s ov sv pv) :
  M26 [af T chv,.agg [.int .i64 s.period,ov,sv,pv]]=some (.bool (decide (Chk T s))):=by
 have m19:=C3 hcv hl hs.o
 have ft:=fun A=>aK (T:=T) (fun A n=>hcv.frz (A:=A) n) A 3
 have fo:∀A n,frz A n ov=ov:=fun A n=>hs.o.frz n
 have fs:∀A n,frz A n sv=sv:=fun A n=>hs.st.frz n
 have fp:∀A n,frz A n pv=pv:=fun A n=>hs.pr.frz n
 have hlo:=hs.o.len
 rw [aA] at hlo
 have hlp:=hs.pr.len
 rw [aA] at hlp
 have iv1:n8 sv=some s.starts:=uJ hs.st hs.stl hs.sti
 have iv2:n8 pv=some s.proof:=uJ hs.pr hs.prl hs.pri
 obtain ⟨p,o,st,pr⟩:=s
 simp only at m19 hlo hlp iv1 iv2
 have hper:=hs.per
 simp only [inI] at hper
 have q1:ov.solid=true/\cellsOf ov=[ov]:=by rcases hs.o with ⟨rfl,_⟩ | rfl <;> exact ⟨rfl,rfl⟩
 have q2:sv.solid=true/\cellsOf sv=[sv]:=by rcases hs.st with ⟨rfl,_⟩ | rfl <;> exact ⟨rfl,rfl⟩
 have q3:pv.solid=true/\cellsOf pv=[pv]:=by rcases hs.pr with ⟨rfl,_⟩ | rfl <;> exact ⟨rfl,rfl⟩
 have bx0:aS 5 (af T chv) []=some (.ptr 0 0 0,[.row 5 false [af T chv]]):=rfl
 have bx1:∀t,aS 4 (.agg [.int .i64 p,ov,sv,pv]) [.row 5 false [t]]=some (.ptr 1 0 0,[.row 5 false [t],.row 4 false [.agg [.int .i64 p,ov,sv,pv]]]):=fun t=>rfl
 have ct:(cellsOf (af T chv)).length=5:=rfl
 have ca:(cellsOf (.agg [.int .i64 p,ov,sv,pv])).length=4:=rfl
 obtain ⟨A0,hA0⟩:∃A:ac,A=[.row 5 false [af T chv],.row 4 false [.agg [.int .i64 p,ov,sv,pv]]]:=⟨_,rfl⟩
 have lt:ab true 5 A0 (.ptr 0 0 0)=some (af T chv):=by rw [hA0]; rfl
 have fa:∀j,j<4->aa j A0 (.ptr 1 0 0)=some (.ptr 1 0 j):=fun j hj=>by rw [hA0]; simp [aa,hj]
 have l0:ab false 1 A0 (.ptr 1 0 0)=some (.int .i64 p):=by rw [hA0]; rfl
 have l1:ab false 1 A0 (.ptr 1 0 1)=some ov:=by rw [hA0]; rfl
 have l2:ab false 1 A0 (.ptr 1 0 2)=some sv:=by rw [hA0]; rfl
 have l3:ab false 1 A0 (.ptr 1 0 3)=some pv:=by rw [hA0]; rfl
 obtain ⟨t,ht⟩:∃t,t=af T chv:=⟨_,rfl⟩
 rw [<-ht] at m19 ft bx0 ct lt hA0 ⊢
 have bx1:=bx1 t
 rw [<-hA0] at bx1
 unfold M26
 rw [aN _ _ rfl]
 by_cases hO:o∈aP T
 rotate_left
 ·rw [RD (fun h=>hO h.1)]
  have e0:Es T o=none:=RK hO
  rw [e0] at m19
  have m19:M19 [t,ov]=some (.tup [.nilS,.int .i64 130]):=m19
  have b1:=cB 130 0
  rw [RE (by omega)] at b1
  simp [uC,bx0,bx1,ct,ca,lt,m19,ft,fo,hlo,fa,l1,b1,-aS,-ab,-aa,-aq,-frz,-cellsOf,-ag,bc]
 rw [sR hO] at m19
 have m19:M19 [t,ov]=some (.tup [iF (bO T o),.int .i64 0]):=m19
 have b1:=cB 0 0
 rw [RD (by omega)] at b1
 have b2:=bK p 1
 by_cases hp1:p<1
 ·rw [RD (fun h=>by have:=h.2.1.1; simp only at this; omega)]
  rw [RE hp1] at b2
  simp [uC,bx0,bx1,ct,ca,lt,m19,ft,fo,hlo,fa,l0,l1,b1,b2,-aS,-ab,-aa,-aq,-frz,-cellsOf,-ag,bc]
 rw [RD hp1] at b2
 have b3:=bL p 1000000
 by_cases hp2:p > 1000000
 ·rw [RD (fun h=>by have:=h.2.1.2; simp only at this; omega)]
  rw [RE hp2] at b3
  simp [uC,bx0,bx1,ct,ca,lt,m19,ft,fo,hlo,fa,l0,l1,b1,b2,b3,-aS,-ab,-aa,-aq,-frz,-cellsOf,-ag,bc]
 rw [RD hp2] at b3
 have mv:Cy.M19 [.int .i64 (o.length:Int),iF (bO T o),.int .i64 p,sv]=some (.bool (decide (gi (o.length:Int) (bO T o) p st))):=by
  simp only [Cy.M19,ph hO,iv1]
 have mr:∀p,Cy.M21 [.int .i64 (o.length:Int),iF (bO T o),.int .i64 p,pv]=some (.bool (decide (jq (o.length:Int) (bO T o) p pr))):=fun p=>by
  simp only [Cy.M21,ph hO,iv2]
 have fa':∀A n,frz A n (iF (bO T o))=iF (bO T o):=fun A n=>(ba 4 _).frz n
 obtain ⟨V,hV⟩:∃V,V=iF (bO T o):=⟨_,rfl⟩
 rw [<-hV] at m19 mv fa'
 by_cases hver:gi (o.length:Int) (bO T o) p st
 rotate_left
 ·rw [RD hver] at mv
  rw [RD (fun h=>hver h.2.2.1)]
  simp [uC,bx0,bx1,ct,ca,lt,m19,ft,fo,fs,fa',aM,mv,hlo,fa,l0,l1,l2,b1,b2,b3,-aS,-ab,-aa,-aq,-frz,-cellsOf,-ag,bc]
 rw [RE hver] at mv
 have b4:=bA p 1
 by_cases hp:p=1
 ·rw [RE hp] at b4
  have b5:ag .eql (.int .i64 (pr.length:Int)) (.int .i64 0)=some (.bool (decide (pr=[]))):=by
   rw [bA]
   congr 2
   exact Tz.2 ⟨fun h=>Si.1 (by omega),fun h=>by rw [h]; rfl⟩
  have hc:Chk T ⟨p,o,st,pr⟩↔pr=[]:=by
   constructor
   ·intro h
    have:=h.2.2.2
    simp only at this
    rwa [RH hp] at this
   ·intro h
    refine ⟨hO,⟨by simp only; omega,by simp only; omega⟩,hver,?_⟩
    simp only
    rw [RH hp]; exact h
  rw [Tz.2 hc]
  obtain ⟨d,hd⟩:∃d,d=decide (pr=[]):=⟨_,rfl⟩
  rw [<-hd] at b5 ⊢
  simp [uC,bx0,bx1,ct,ca,lt,m19,ft,fo,fs,fa',aM,mv,hlo,hlp,fa,l0,l1,l2,l3,b1,b2,b3,b4,b5,bc,-aS,-ab,-aa,-aq,-frz,-cellsOf,-ag]
 ·rw [RD hp] at b4
  have b6:ag .sub (.int .i64 p) (.int .i64 1)=some (.int .i64 (p-1)):=bD (by omega)
  have hc:Chk T ⟨p,o,st,pr⟩↔jq (o.length:Int) (bO T o) (p-1) pr:=by
   constructor
   ·intro h
    have:=h.2.2.2
    simp only at this
    rwa [RK hp] at this
   ·intro h
    refine ⟨hO,⟨by simp only; omega,by simp only; omega⟩,hver,?_⟩
    simp only
    rw [RK hp]; exact h
  rw [Tz.2 hc]
  have mr:=mr (p-1)
  rw [<-hV] at mr
  obtain ⟨d,hd⟩:∃d,d=decide (jq (o.length:Int) (bO T o) (p-1) pr):=⟨_,rfl⟩
  rw [<-hd] at mr ⊢
  obtain ⟨p1,hp1'⟩:∃q,q=p-1:=⟨_,rfl⟩
  rw [<-hp1'] at mr b6
  simp [uC,bx0,bx1,ct,ca,lt,m19,ft,fo,fs,fp,fa',aM,mv,mr,hlo,fa,l0,l1,l2,l3,b1,b2,b3,b4,b6,bc,-aS,-ab,-aa,-aq,-frz,-cellsOf,-ag]
end Clu
namespace Cy
open Go
theorem tE {l:List br} (hr:cM n l p):(lvM n l p).2.2=true↔¬ Pos l p:=by
 obtain ⟨m,rfl⟩:∃m:Nat,n=(m:Int):=⟨n.toNat,by have:=hr.1.1; omega⟩
 rw [<-m6 hr]
 unfold lvM
 rw [RH hr,RW]
 split
 ·rename_i h; simp [h]
 ·rename_i h; simp [h]
theorem ew {l:List br} {p:Int} (hr:cM n l p) (h:(lvM n l p).2.2=true):(lvM n l p).2.1=[]/\gi n l p (lvM n l p).1/\(∀x∈(lvM n l p).1,x<=100000000)/\∀x,gi n l p x->∀v:Nat,(v:Int)<n->(lvM n l p).1.getD v 0<=x.getD v 0:=by
 obtain ⟨m,rfl⟩:∃m:Nat,n=(m:Int):=⟨n.toNat,by have:=hr.1.1; omega⟩
 have hv:=hr.1.2.2
 have hn:=hr.1.1
 have e:lvM m l p=((cr (lar p l) m).1,[],true):=by
  unfold lvM at h ⊢
  rw [RH hr,RW] at h ⊢
  split
  ·rfl
  ·rename_i h'
   rw [RK h'] at h; cases h
 have hlv:(cr (lar p l) m).2=true:=by
  have:=(tE hr).1 h
  exact (m6 hr).2 this
 obtain ⟨h1,h2,h3,h4,h5⟩:=nY (jK (p:=p) hv)
 rw [e]
 have key:∀x∈(cr (lar p l) m).1,0<=x/\x<=100000000:=?_
 ·refine ⟨rfl,⟨hr,by rw [h1],fun x hx=>by have:=key x hx; omega,h4 hlv⟩,fun x hx=>(key x hx).2,fun x hx v hvm=>?_⟩
  refine h5 x hx.2.2.2 (fun w hw=>?_) v (by omega)
  have hwl:w<x.length:=by have:=hx.2.1; omega
  have hg:x.getD w 0=x[w]:=by rw [Rw,Rx hwl]; rfl
  rw [hg]
  exact (hx.2.2.1 _ (RM hwl)).1
 intro x hx'
 obtain ⟨v,hv',rfl⟩:=SD.1 hx'
 have hvn:v<m:=by rw [<-h1]; exact hv'
 have hg:(cr (lar p l) m).1.getD v 0=(cr (lar p l) m).1[v]:=by rw [Rw,Rx hv']; rfl
 have h0:=h2 v
 rw [hg] at h0
 refine ⟨h0,?_⟩
 obtain ⟨u,r,k1,k2,k3⟩:=h3 v hvn
 have hN:=(ql (jK (p:=p) hv)).1 hlv
 obtain ⟨r',j1,j2,j3⟩:=JH (jK (p:=p) hv) hN _ r u v rfl k1 k2
 rw [hg] at k3
 have hbd:∀ {r:List dD} {u v:Nat},isW (lar p l) u r v->kD r<=3000000*r.length:=by
  intro r
  induction r with
  | nil=>intro _ _ _; simp [kD]
  | cons a r ih=>
   rintro u v ⟨q1,_,q3⟩
   have:=ih q3
   have:=(xS (show m<=32 by omega) hr.2 hv a q1).2.2.2
   simp only [kD,Sv]
   omega
 have:=hbd j1
 omega
theorem tG {l:List br} (hr:cM n l p) (h:(lvM n l p).2.2=false):(lvM n l p).1=[]/\jq n l p (lvM n l p).2.1/\(lvM n l p).2.1.length<=32/\∀z∈(lvM n l p).2.1,inI z:=by
 obtain ⟨m,rfl⟩:∃m:Nat,n=(m:Int):=⟨n.toNat,by have:=hr.1.1; omega⟩
 have hlv:¬ (cr (lar p l) m).2=true:=fun h'=>by
  have:=(tE hr).2 ((m6 hr).1 h')
  rw [h] at this; cases this
 obtain ⟨res,u,xs,k1,k2,k3,k4,k5,k6,k7⟩:=BG hr hlv
 have e:lvM m l p=([],res,false):=by
  unfold lvM
  rw [RH hr,RW,RK hlv,k1]; rfl
 rw [e]
 refine ⟨rfl,⟨hr,_,_,k7,k6⟩,by rw [k2]; simpa using k5,fun z hz=>?_⟩
 unfold exM at k7
 simp only [Ry] at k7
 have:=k7.1.2 z hz
 have:=hr.1.2.1
 unfold inI; omega
theorem I9 {l:List br} (h:gi n l p s):s.length<=32/\∀z∈s,inI z:=by
 obtain ⟨h1,h2,h3,_⟩:=h
 have:=h1.1.1
 refine ⟨by omega,fun z hz=>?_⟩
 have:=h3 z hz
 unfold inI; omega
theorem vZ {l:List br} (h:gi n l p s):¬ Pos l p:=qn h.1.1.2.2 h.2.2.2
theorem Ar {l:List br} {c:List Int} (h:jq n l p c):Pos l p:=by
 obtain ⟨_,s,t,h1,h2⟩:=h
 obtain ⟨u,xs,k1,k2,k3,k4,k5,k6⟩:=Eh h1
 exact ⟨u,xs,k2,by omega⟩
open Classical in
theorem m19 {l:List br} (ha:cR a=some l) (hb:n8 b=some s):M19 [.int .i64 n,a,.int .i64 p,b]=some (.bool (decide (gi n l p s))):=by simp only [M19,ha,hb]
end Cy
namespace Clu
open Go
open Cy (GC br db cR cT dW okA smM smT lvM lvT gi jq cM Pos tE ew tG vZ Ar)
theorem D9 {T:aT} {s:Option (Int × List Int)} (h:sOk T s):cT (oX s):=by
 unfold oX cT
 cases s with
 | none=>simp
 | some x=>have:=h x rfl; simp only; omega
structure EB (T:aT) (s:Option (Int × List Int)) (l:List (List Int)):Prop where
 ok:sOk T s
 no:∀x,s=some x->¬ Pos (bO T x.2) x.1/\∃l1 l2,l=l1++x.2 :: l2/\∀o∈l1,Pos (bO T o) x.1
 pos:∀o∈l,∀q,1<=q->q<=oX s->Pos (bO T o) q
theorem EB.step {T:aT} {s:Option (Int × List Int)} {l:List (List Int)} (h:EB T s l) (hO:o∈aP T):EB T (jT T s o) (l++[o]):=by
 have hper:=D9 h.ok
 have hok:=tW h.ok hO
 have hv:=(w9 hO).1
 unfold jT at hok ⊢
 cases hm:smM (o.length:Int) (bO T o) 1 (oX s) with
 | none=>
  rw [hm] at hok
  have hn:=Hf hper hv hm
  refine ⟨h.ok,fun x hx=>?_,fun o' ho' q h1 h2=>?_⟩
  ·obtain ⟨k1,l1,l2,k2,k3⟩:=h.no x hx
   exact ⟨k1,l1,l2++[o],by rw [k2]; simp,k3⟩
  ·rcases TN.1 ho' with h3 | h3
   ·exact h.pos o' h3 q h1 h2
   ·rw [Sg] at h3
    subst h3
    exact hn q h1 h2
 | some p=>
  rw [hm] at hok
  obtain ⟨k1,k2,k3,k4,k5⟩:=wj hper hm
  refine ⟨hok,fun x hx=>?_,fun o' ho' q h1 h2=>?_⟩
  ·injection hx with hx
   subst hx
   exact ⟨k4,l,[],rfl,fun o' ho'=>h.pos o' ho' p k1 k2⟩
  ·have h2:q<=p-1:=h2
   rcases TN.1 ho' with h3 | h3
   ·exact h.pos o' h3 q h1 (by omega)
   ·rw [Sg] at h3
    subst h3
    exact k5 q h1 (by omega)
theorem EB.fold {T:aT}:∀(r:List (List Int)) {s:Option (Int × List Int)} {l:List (List Int)},EB T s l->(∀o∈r,o∈aP T)->EB T (r.foldl (jT T) s) (l++r)
 | [],s,l,h,_=>by simpa using h
 | o :: r,s,l,h,hr=>by
  have:=EB.fold r (h.step (hr o (by simp))) (fun o' ho'=>hr o' (by simp [ho']))
  rw [R1] at this
  exact this
theorem yy (T:aT):EB T (rH T) (aP T):=by
 have:=EB.fold (T:=T) (aP T) (s:=none) (l:=[]) ⟨fun x h=>(by cases h),fun x h=>(by cases h),fun o h=>(by cases h)⟩ (fun _ h=>h)
 rwa [S7] at this
theorem fM {T:aT} (hO:o∈aP T) (h1 : -1000000<=p) (h2:p<=1000000):cM (o.length:Int) (bO T o) p:=⟨(w9 hO).1,h1,h2⟩
theorem Lq {T:aT} (hO:o∈aP T) {p:Int} (h1:1<=p) (h2:p<=1000000) (hp:¬ Pos (bO T o) p) (hq:1<p->Pos (bO T o) (p-1)):Chk T (pU T (p,o)):=by
 have hR:=fM hO (p:=p) (by omega) h2
 have k1:=ew hR ((tE hR).2 hp)
 refine ⟨hO,⟨h1,h2⟩,k1.2.1,?_⟩
 show if p=1 then (if p > 1 then (lvM (o.length:Int) (bO T o) (p-1)).2.1 else [])=[] else _
 by_cases e:p=1
 ·rw [RH e,RK (by omega)]
 ·rw [RK e]
  have hR':=fM hO (p:=p-1) (by omega) (by omega)
  have hf:(lvM (o.length:Int) (bO T o) (p-1)).2.2=false:=by
   cases h:(lvM (o.length:Int) (bO T o) (p-1)).2.2 with
   | false=>rfl
   | true=>exact absurd (hq (by omega)) ((tE hR').1 h)
  have:=(tG hR' hf).2.1
  show jq (o.length:Int) (bO T o) (p-1) (if p > 1 then (lvM (o.length:Int) (bO T o) (p-1)).2.1 else [])
  rw [RH (by omega)]
  exact this
theorem mO {T:aT} {s:c9} (h:jU T=some s):Chk T s:=by
 unfold jU at h
 rw [RJ] at h
 obtain ⟨⟨p,o⟩,h,rfl⟩:=h
 have hB:=yy T
 rw [h] at hB
 obtain ⟨h1,h2,h3⟩:=hB.ok _ rfl
 exact Lq h3 h1 h2 (hB.no _ rfl).1 fun hp=>hB.pos o h3 (p-1) (by simp only at h1; omega) (S5 _)
theorem CF {T:aT} {s:c9} (h:jU T=some s):rH T=some (s.period,s.order)/\s=pU T (s.period,s.order):=by
 unfold jU at h
 rw [RJ] at h
 obtain ⟨⟨p,o⟩,h,rfl⟩:=h
 exact ⟨h,rfl⟩
theorem Is {T:aT} (hO:o∈aP T) (h1:1<=p) (h2:p<=1000000) (hp:¬ Pos (bO T o) p) (hb:∀o'∈aP T,∀q,1<=q->q<p->Pos (bO T o') q):∃o',o'∈aP T/\¬ Pos (bO T o') p/\rH T=some (p,o'):=by
 have hB:=yy T
 cases hs:rH T with
 | none=>
  rw [hs] at hB
  exact absurd (hB.pos o hO p h1 h2) hp
 | some x=>
  obtain ⟨r,o'⟩:=x
  rw [hs] at hB
  obtain ⟨k1,k2,k3⟩:=hB.ok _ rfl
  have k4:=(hB.no _ rfl).1
  simp only at k1 k2 k3 k4
  have:r=p:=by
   rcases Int.lt_trichotomy r p with h | h | h
   ·exact absurd (hb o' k3 r k1 h) k4
   ·exact h
   ·exact absurd (hB.pos o hO p h1 (by show p<=r-1; omega)) hp
  subst this
  exact ⟨o',k3,k4,rfl⟩
end Clu
end Go.Proofs.Ytkcjhljbgjpklaa
