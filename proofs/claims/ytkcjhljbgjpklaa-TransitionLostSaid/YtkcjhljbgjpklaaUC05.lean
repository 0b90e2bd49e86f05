import Derived.Test.YtkcjhljbgjpklaaUC04
import Derived.Test.YtkcjhljbgjpklaaChecked
import Derived.KernelRfl
set_option maxRecDepth 100000
set_option maxHeartbeats 4000000
noncomputable section
namespace Go.Proofs.Ytkcjhljbgjpklaa
namespace Cy
open Go
def Pos (l:List aZ) (p:Int):Prop:=∃(u:Int) (xs:List eE),rF l u xs u/\0<iw p xs
theorem mR {l:List aZ} {x:eE} (h:x∈num l):tN l (x.2:Int)=x.1/\0<=(x.2:Int)/\(x.2:Int)<=(l.length:Int)-1:=by
 obtain ⟨hi,he⟩:=kD h
 refine ⟨?_,by omega,by omega⟩
 unfold tN
 rw [Int.toNat_natCast,List.getD_eq_getElem?_getD,List.getElem?_eq_getElem hi]
 exact he
theorem BM {p:Int} {l:List aZ}:∀ {xs:List eE} {u v s t:Int},rF l u xs v->exL p l (xs.map fun y=>(y.2:Int)) u s t=some (s+iw p xs,t+kz xs)
 | [],u,v,s,t,_=>by simp [exL,iw,kz]
 | x :: r,u,v,s,t,⟨h1,h2,h3⟩=>by
  obtain ⟨e,_⟩:=mR h1
  simp only [List.map_cons,exL,e,if_pos h2]
  rw [BM h3]
  simp only [iw,kz,List.map_cons,List.sum_cons]
  congr 2 <;> omega
theorem nQ {l:List aZ}:∀ {xs:List eE} {u v:Int} (h:xs≠[]),rF l u xs v->(xs.getLast h).1.t=v/\xs.getLast h∈num l
 | [x],u,v,_,⟨h1,h2,h3⟩=>⟨h3,h1⟩
 | x :: y :: r,u,v,_,⟨h1,h2,h3⟩=>by
  rw [List.getLast_cons (by simp)]
  exact nQ (by simp) h3
theorem xP {p:Int} {l:List aZ} {u:Int} {xs:List eE} (h:rF l u xs u) (h1:1<=xs.length) (h2:xs.length<=200):exM p l (xs.map fun y=>(y.2:Int))=some (iw p xs,kz xs):=by
 have hne:xs≠[]:=fun e=>by rw [e] at h1; simp at h1
 have hall:∀x∈xs,x∈num l:=by
  have:∀ {ys:List eE} {a b:Int},rF l a ys b->∀x∈ys,x∈num l:=by
   intro ys
   induction ys with
   | nil=>intro _ _ _ x hx; cases hx
   | cons y r ih=>
    rintro a b ⟨k1,_,k3⟩ x hx
    rcases List.mem_cons.1 hx with rfl | hx
    ·exact k1
    ·exact ih k3 x hx
  exact this h
 unfold exM
 rw [if_pos ⟨by simpa using ⟨h1,h2⟩,fun x hx=>by
  obtain ⟨y,hy,rfl⟩:=List.mem_map.1 hx
  exact (mR (hall y hy)).2⟩]
 obtain ⟨e1,e2⟩:=nQ hne h
 have:(xs.map fun y=>(y.2:Int)).getLastD 0=((xs.getLast hne).2:Int):=by
  rw [List.getLastD_eq_getLast?,List.getLast?_map,List.getLast?_eq_some_getLast hne]; rfl
 rw [this,(mR e2).1,e1,BM h]
 simp
theorem uM {p:Int} {l:List aZ}:∀ {ys:List Int} {u s t:Int} {r:Int × Int},tt l ys->exL p l ys u s t=some r->∃(v:Int) (xs:List eE),ys=xs.map (fun y=>(y.2:Int))/\rF l u xs v/\r=(s+iw p xs,t+kz xs)
 | [],u,s,t,r,_,h=>by
  simp only [exL,Option.some.injEq] at h
  exact ⟨u,[],rfl,rfl,by rw [<-h]; simp [iw,kz]⟩
 | i :: ys,u,s,t,r,hi,h=>by
  have hi0:=hi i (by simp)
  obtain ⟨j,hj,rfl,he⟩:=qM hi0
  simp only [exL] at h
  split at h
  ·rename_i hf
   obtain ⟨v,xs,k1,k2,k3⟩:=uM (fun x hx=>hi x (by simp [hx])) h
   rw [he] at hf k2 k3
   refine ⟨v,(l[j],j) :: xs,by simp [k1],⟨List.mem_of_getElem? (eY l j hj),hf,k2⟩,?_⟩
   rw [k3]
   simp only [iw,kz,List.map_cons,List.sum_cons]
   congr 1 <;> omega
  ·cases h
theorem AC {p:Int} {l:List aZ} {ys:List Int} {s t:Int} (h:exM p l ys=some (s,t)):∃(u:Int) (xs:List eE),ys=xs.map (fun y=>(y.2:Int))/\rF l u xs u/\1<=xs.length/\xs.length<=200/\s=iw p xs/\t=kz xs:=by
 unfold exM at h
 simp only [Option.ite_none_right_eq_some] at h
 obtain ⟨⟨h1,h2⟩,h3⟩:=h
 obtain ⟨v,xs,rfl,k2,k3⟩:=uM h2 h3
 simp only [List.length_map] at h1
 have hne:xs≠[]:=fun e=>by rw [e] at h1; simp at h1
 obtain ⟨e1,e2⟩:=nQ hne k2
 have:(xs.map fun y=>(y.2:Int)).getLastD 0=((xs.getLast hne).2:Int):=by
  rw [List.getLastD_eq_getLast?,List.getLast?_map,List.getLast?_eq_some_getLast hne]; rfl
 rw [this,(mR e2).1,e1] at k2
 simp only [Prod.mk.injEq,Int.zero_add] at k3
 exact ⟨v,xs,rfl,k2,h1.1,h1.2,k3.1,k3.2⟩
theorem rE {n p:Int} {l:List aZ} (hv:∀x∈l,okA n x) {s:List Int} (h:js (lar p l) s):¬ Pos l p:=by
 rintro ⟨u,xs,h1,h2⟩
 obtain ⟨k1,k2⟩:=Lv (p:=p) hv h1
 have:=jT h k1
 omega
theorem im {n:Nat} {p:Int} {l:List aZ} (hv:∀x∈l,okA n x):∀a∈lar p l,a.1<n/\a.2.1<n:=fun a ha=>by
 obtain ⟨x,hx,rfl⟩:=List.mem_map.1 ha
 obtain ⟨q1,q2,_⟩:=hv x hx
 simp only; omega
section
variable {n:Nat} {p:Int} {l:List aZ} (hr:ce n l p)
include hr
theorem kG:(bM (lar p l) n).2=true↔¬ Pos l p:=by
 have hv:=hr.1.2.2
 have hn:=hr.1.1
 constructor
 ·intro h
  exact rE hv ((lJ (im hv)).2.2.2.1 h)
 ·intro h
  rw [nM (im hv),<-uQ hv (by omega) hr.2]
  cases hc:qI p l n with
  | none=>rfl
  | some res=>
   obtain ⟨u,xs,_,k2,_,_,k5⟩:=uP hv (by omega) hr.2 hc
   exact absurd ⟨u,xs,k2,k5⟩ h
theorem xU (h:¬ (bM (lar p l) n).2=true):∃(res:List Int) (u:Int) (xs:List eE),qI p l n=some res/\res=xs.map (fun y=>(y.2:Int))/\rF l u xs u/\1<=xs.length/\xs.length<=32/\0<iw p xs/\exM p l res=some (iw p xs,kz xs):=by
 have hv:=hr.1.2.2
 have hn:=hr.1.1
 rw [nM (im hv),<-uQ hv (by omega) hr.2] at h
 cases hc:qI p l n with
 | none=>exact absurd hc h
 | some res=>
  obtain ⟨u,xs,k1,k2,k3,k4,k5⟩:=uP hv (by omega) hr.2 hc
  exact ⟨res,u,xs,rfl,k1,k2,k3,by omega,k5,by rw [k1]; exact xP k2 k3 (by omega)⟩
end
theorem xi {n p:Int} {l:List aZ} (hn:n<=32) (hp:cn p) (hv:∀x∈l,okA n x):∀ {xs:List eE} {u v:Int},rF l u xs v->(-(3000000*(xs.length:Int))<=iw p xs/\iw p xs<=3000000*xs.length)/\(-(2*(xs.length:Int))<=kz xs/\kz xs<=2*xs.length)
 | [],_,_,_=>by simp [iw,kz]
 | x :: r,u,v,⟨h1,h2,h3⟩=>by
  have h4:=xi hn hp hv h3
  obtain ⟨q1,q2,q3,q4⟩:=rn hv h1
  have hle:=gE (n:=32) (a:=x.1) ⟨by omega,by omega,q3,q4⟩ hp
  simp only [iw,kz,List.map_cons,List.sum_cons,List.length_cons] at h4 ⊢
  omega
def smL (n:Nat) (l:List aZ) (hi:Int):Nat->Int->Option Int
 | 0,_=>none
 | m+1,p=>open Classical in if p<=hi/\ce n l p then
   (if (bM (lar p l) n).2=true then some p
    else if ((exM p l ((qI p l n).getD [])).getD (0,0)).2<=0 then none
    else smL n l hi m (p+(((exM p l ((qI p l n).getD [])).getD (0,0)).1+((exM p l ((qI p l n).getD [])).getD (0,0)).2-1).tdiv ((exM p l ((qI p l n).getD [])).getD (0,0)).2))
  else none
def smM (n:Int) (l:List aZ) (lo hi:Int):Option Int:=if cn hi then smL n.toNat l hi (hi-lo+2).toNat lo else none
theorem tZ {s t:Int} (hs:0<s) (ht:0<t):1<=(s+t-1).tdiv t/\(s+t-1).tdiv t<=s/\((s+t-1).tdiv t-1)*t<s/\s<=(s+t-1).tdiv t*t:=by
 rw [Int.tdiv_eq_ediv_of_nonneg (by omega)]
 have h1:=Int.ediv_mul_add_emod (s+t-1) t
 have h2:=Int.emod_nonneg (s+t-1) (show t≠0 by omega)
 have h3:=Int.emod_lt_of_pos (s+t-1) ht
 obtain ⟨d,hd⟩:∃d,d=(s+t-1) / t:=⟨_,rfl⟩
 rw [<-hd] at h1 ⊢
 have h4:1<=d:=by
  rcases Int.lt_or_le d 1 with h | h
  ·have:d*t<=0:=Int.mul_nonpos_of_nonpos_of_nonneg (by omega) (by omega)
   omega
  ·exact h
 have h5:(d-1)*t=d*t-t:=by rw [Int.sub_mul]; omega
 refine ⟨h4,?_,by omega,by omega⟩
 rcases Int.lt_or_le s d with h | h
 ·have:s*t<=(d-1)*t:=Int.mul_le_mul_of_nonneg_right (by omega) (by omega)
  have h6:s*1<=s*t:=Int.mul_le_mul_of_nonneg_left (by omega) (by omega)
  omega
 ·exact h
theorem rh {l:List aZ} {p q:Int} {u:Int} {xs:List eE} (h:rF l u xs u) (hq:0<iw p xs-(q-p)*kz xs):Pos l q:=by
 refine ⟨u,xs,h,?_⟩
 rw [xh] at hq ⊢
 have:(q-p)*kz xs=q*kz xs-p*kz xs:=by rw [Int.sub_mul]
 omega
theorem qh {n:Nat} {l:List aZ} {hi:Int} (hhi:cn hi):∀(m:Nat) (p:Int),hi-p+1<m ->
  (∀r,smL n l hi m p=some r->p<=r/\r<=hi/\ce n l r/\¬ Pos l r/\∀q,p<=q->q<r->Pos l q)/\(smL n l hi m p=none->ce n l p->∀q,p<=q->q<=hi->Pos l q)
 | 0,p,hm=>⟨fun r h=>(by cases h),fun _ _ q h1 h2=>by omega⟩
 | m+1,p,hm=>by
  unfold smL
  by_cases hp:p<=hi/\ce n l p
  rotate_left
  ·rw [if_neg hp]
   exact ⟨fun r h=>(by cases h),fun _ h q h1 h2=>absurd ⟨by omega,h⟩ hp⟩
  rw [if_pos hp]
  by_cases hl:(bM (lar p l) n).2=true
  ·rw [if_pos hl]
   refine ⟨fun r h=>?_,fun h=>by cases h⟩
   injection h with h; subst h
   exact ⟨Int.le_refl _,hp.1,hp.2,(kG hp.2).1 hl,fun q h1 h2=>by omega⟩
  rw [if_neg hl]
  obtain ⟨res,u,xs,k1,k2,k3,k4,k5,k6,k7⟩:=xU hp.2 hl
  rw [k1,Option.getD_some,k7,Option.getD_some]
  simp only
  by_cases ht:kz xs<=0
  ·rw [if_pos ht]
   refine ⟨fun r h=>(by cases h),fun _ _ q h1 h2=>rh k3 (p:=p) ?_⟩
   have:(q-p)*kz xs<=0:=Int.mul_nonpos_of_nonneg_of_nonpos (by omega) ht
   omega
  rw [if_neg ht]
  obtain ⟨d1,d2,d3,d4⟩:=tZ k6 (show 0<kz xs by omega)
  obtain ⟨d,hd⟩:∃d,d=(iw p xs+kz xs-1).tdiv (kz xs):=⟨_,rfl⟩
  rw [<-hd] at d1 d2 d3 d4 ⊢
  have hbelow:∀q,p<=q->q<p+d->Pos l q:=fun q h1 h2=>rh k3 (p:=p) (by
   have:(q-p)*kz xs<=(d-1)*kz xs:=Int.mul_le_mul_of_nonneg_right (by omega) (by omega)
   omega)
  obtain ⟨i1,i2⟩:=qh hhi m (p+d) (by omega)
  constructor
  ·intro r h
   obtain ⟨j1,j2,j3,j4,j5⟩:=i1 r h
   refine ⟨by omega,j2,j3,j4,fun q h1 h2=>?_⟩
   by_cases hq:q<p+d
   ·exact hbelow q h1 hq
   ·exact j5 q (by omega) h2
  ·intro h _ q h1 h2
   by_cases hq:q<p+d
   ·exact hbelow q h1 hq
   ·have hR:ce n l (p+d):=⟨hp.2.1,by
     have:=hp.2.2
     unfold cn at *
     omega⟩
    exact i2 h hR q (by omega) h2
open Go
def iC (n:Int) (l:List aZ) (p:Int) (c:List Int):Prop:=ce n l p/\∃s t,exM p l c=some (s,t)/\0<s
open Classical in
def M21:aP:=fun args=>match args with
 | [.int .i64 n,a,.int .i64 p,b]=>match cm a,lN b with
  | some l,some s=>some (.bool (decide (iC n l p s)))
  | _,_=>none
 | _=>none
def H0:List (FuncId × aG):=[(73,cz 4 M25),(75,aD 4 M40)]
@[simp] theorem J1:aC H0 73=some (cz 4 M25):=rfl
@[simp] theorem J0:aC H0 75=some (aD 4 M40):=rfl
theorem C7:∀f M,aC H0 f=some M->ak Try.prog GC f M:=af (ak.of_pureF qd 4) (af (ak.of_pure nj 4) az)
open Classical in
theorem Fb:an Try.prog GC 78 M21:=by
 refine an.of_ev (E:=ax GC H0) (aq C7) rfl Ma BO 1 ?_
 intro args r h
 unfold M21 at h
 split at h
 rotate_left
 ·cases h
 rename_i n a p b
 split at h
 rotate_left
 ·cases h
 rename_i l s hl hs
 injection h with h; subst h
 refine ⟨0,?_⟩
 obtain ⟨hb,_,hsl⟩:=je hs
 have f1:∀A n,frz A n a=a:=fun A n=>ew hl A n
 have f2:∀A n,frz A n b=b:=fun A n=>hb.frz n
 have f4:=lM hs
 have m1:M25 [.int .i64 n,a,.int .i64 p]=some (if ce n l p then .tup [cJ n.toNat p l,.bool true] else .tup [.nilP,.bool false]):=by simp only [M25,hl,Option.map_some]
 rw [aK _ _ rfl]
 by_cases hr:ce n l p
 rotate_left
 ·rw [if_neg hr] at m1
  rw [decide_eq_false (show ¬ iC n l p s from fun h=>hr h.1)]
  simp [Ew,f1,m1,aM,be,-frz]
 rw [if_pos hr] at m1
 obtain ⟨m,rfl⟩:∃m:Nat,n=(m:Int):=⟨n.toNat,by have:=hr.1.1; omega⟩
 rw [Int.toNat_natCast] at m1
 have m40:=vo hr hb hsl
 obtain ⟨W1,O,hW⟩:∃W1 O,cJ m p l=.fp [.int .i64 (m:Int),W1,O]:=⟨_,_,rfl⟩
 rw [hW] at m1 m40
 have hfw:∀B,frz B 4 (.fp [.int .i64 (m:Int),W1,O])=.fp [.int .i64 (m:Int),W1,O]:=fun _=>rfl
 have hnr:bk 4 (.fp [.int .i64 (m:Int),W1,O])=true:=rfl
 cases he:exM p l s with
 | none=>
  rw [he] at m40
  rw [decide_eq_false (show ¬ iC m l p s from fun h=>by
   obtain ⟨_,x,y,h,_⟩:=h
   rw [he] at h; cases h)]
  simp only [exT,Option.getD_none,Option.isSome_none] at m40
  simp [Ew,f1,f2,m1,m40,hfw,f4,aM,be,-frz]
 | some st=>
  obtain ⟨x,y⟩:=st
  rw [he] at m40
  simp only [exT,Option.getD_some,Option.isSome_some] at m40
  have b1:ag .gtr (.int .i64 x) (.int .i64 0)=some (.bool (decide (x > 0))):=by simp [ag]
  have e:decide (iC m l p s)=decide (x > 0):=by
   rw [Bool.eq_iff_iff,decide_eq_true_eq,decide_eq_true_eq]
   constructor
   ·rintro ⟨_,a',b',h,h2⟩
    rw [he] at h
    injection h with h
    injection h with h h'
    omega
   ·intro h
    exact ⟨hr,x,y,he,h⟩
  rw [e]
  obtain ⟨d,hd⟩:∃d,d=decide (x > 0):=⟨_,rfl⟩
  rw [<-hd] at b1 ⊢
  simp [Ew,f1,f2,m1,m40,hfw,f4,b1,aM,be,-frz,-ag]
def xD:List (FuncId × aG):=[(73,cz 4 M25),(74,cz 4 M26),(76,aD 4 M27),(75,aD 4 M40),(72,aD 4 M41)]
@[simp] theorem JV:aC xD 73=some (cz 4 M25):=rfl
@[simp] theorem JU:aC xD 74=some (cz 4 M26):=rfl
@[simp] theorem JT:aC xD 76=some (aD 4 M27):=rfl
@[simp] theorem JS:aC xD 75=some (aD 4 M40):=rfl
@[simp] theorem JR:aC xD 72=some (aD 4 M41):=rfl
theorem C5:∀f M,aC xD f=some M->ak Try.prog GC f M:=af (ak.of_pureF qd 4) (af (ak.of_pureF wI 4) (af (ak.of_pure ub 4) (af (ak.of_pure nj 4) (af (ak.of_pure ni 4) az))))
def smT (r:Option Int):AV:=.tup [.int .i64 (r.getD 0),.bool r.isSome]
open Classical in
theorem Bf (fuel:Nat) {a:AV} {l:List aZ} (ha:cm a=some l) (n:Int) {hi:Int} (hhi:cn hi):∀(m:Nat) (p:Int),0<m->hi-p+1<m ->
  match smL n.toNat l hi m p with
  | some q=>∃v7 v8 v9 v10 v11 v12 v13 v14 v15 v16,bZ (evC (ax GC xD) fuel fu) hJ m (nc (.int .i64 n) a (.int .i64 hi) (.int .i64 p)) []=some (.ret [.int .i64 n,a,.undef,.int .i64 hi,.int .i64 q,.bool true,.int .i64 q,v7,v8,v9,v10,v11,v12,v13,v14,v15,v16] [])
  | none=>∃v6 v7 v8 v9 v10 v11 v12 v13 v14 v15 v16,bZ (evC (ax GC xD) fuel fu) hJ m (nc (.int .i64 n) a (.int .i64 hi) (.int .i64 p)) []=some (.exit 0 [.int .i64 n,a,.undef,.int .i64 hi,.undef,.undef,v6,v7,v8,v9,v10,v11,v12,v13,v14,v15,v16] [])
 | 0,p,h0,hm=>by omega
 | m+1,p,h0,hm=>by
  have f1:∀A n,frz A n a=a:=fun A n=>ew ha A n
  have m1:M25 [.int .i64 n,a,.int .i64 p]=some (if ce n l p then .tup [cJ n.toNat p l,.bool true] else .tup [.nilP,.bool false]):=by simp only [M25,ha,Option.map_some]
  have b1:ag .leq (.int .i64 p) (.int .i64 hi)=some (.bool (decide (p<=hi))):=by simp [ag]
  unfold smL
  rw [aQ,yA]
  by_cases hp:p<=hi
  rotate_left
  ·rw [if_neg (fun h=>hp h.1)]
   rw [decide_eq_false hp] at b1
   refine ⟨.int .i64 p,.undef,.undef,.undef,.undef,.undef,.undef,.bool false,.undef,.undef,.undef,?_⟩
   simp [fu,b1,-ag]
  rw [decide_eq_true hp] at b1
  by_cases hr:ce n l p
  rotate_left
  ·rw [if_neg (fun h=>hr (by
    have h2:=h.2
    have h3:=h2.1.1
    have:((n.toNat:Nat):Int)=n:=by omega
    rw [this] at h2; exact h2))]
   rw [if_neg hr] at m1
   refine ⟨.int .i64 p,.nilP,.bool false,.undef,.undef,.undef,.undef,.bool true,.bool true,.undef,.undef,?_⟩
   simp [fu,b1,m1,f1,aM,-frz,-ag]
  rw [if_pos hr] at m1
  obtain ⟨k,rfl⟩:∃k:Nat,n=(k:Int):=⟨n.toNat,by have:=hr.1.1; omega⟩
  rw [Int.toNat_natCast] at m1 ⊢
  rw [if_pos ⟨hp,hr⟩]
  have m2:=p8 hr
  have m3:=vp hr
  obtain ⟨W1,O,hW⟩:∃W1 O,cJ k p l=.fp [.int .i64 (k:Int),W1,O]:=⟨_,_,rfl⟩
  have hfw:∀B,frz B 4 (.fp [.int .i64 (k:Int),W1,O])=.fp [.int .i64 (k:Int),W1,O]:=fun _=>rfl
  have hnr:bk 4 (.fp [.int .i64 (k:Int),W1,O])=true:=rfl
  by_cases hok:(bM (lar p l) k).2=true
  ·rw [if_pos hok]
   rw [hok] at m2
   rw [hW] at m1 m2
   refine ⟨.fp [.int .i64 (k:Int),W1,O],.bool true,.bool true,.undef,.undef,.undef,.bool true,.bool false,.bool true,.undef,?_⟩
   obtain ⟨S,hS⟩:∃S,S=slA 1 (aj (bM (lar p l) k).1):=⟨_,rfl⟩
   rw [<-hS] at m2
   simp [fu,b1,m1,m2,f1,hfw,aM,-frz,-ag]
  rw [if_neg hok]
  obtain ⟨res,u,xs,k1,k2,k3,k4,k5,k6,k7⟩:=xU hr hok
  have hbd:=xi (n:=(k:Int)) (by have:=hr.1.1; omega) hr.2 hr.1.2.2 k3
  have m4:=vo hr (bb 1 (aj res)) (by rw [k2]; simp; omega)
  rw [k1,Option.getD_some] at m3
  rw [k7] at m4
  rw [k1,Option.getD_some,k7,Option.getD_some]
  simp only [exT,Option.getD_some,Option.isSome_some] at m4
  simp only
  rw [Bool.not_eq_true] at hok
  rw [hok] at m2
  rw [hW] at m1 m2 m3 m4
  obtain ⟨S,hS⟩:∃S,S=slA 1 (aj (bM (lar p l) k).1):=⟨_,rfl⟩
  rw [<-hS] at m2
  have hnc:∀n,bk n (slA 1 (aj res))=true:=fun n=>w7 n 1 _
  have hfc:∀A n,frz A n (slA 1 (aj res))=slA 1 (aj res):=fun A n=>tB A n 1 _
  obtain ⟨C,hC⟩:∃C,C=slA 1 (aj res):=⟨_,rfl⟩
  rw [<-hC] at m3 m4 hnc hfc
  obtain ⟨s,hs⟩:∃s,s=iw p xs:=⟨_,rfl⟩
  obtain ⟨t,ht⟩:∃t,t=kz xs:=⟨_,rfl⟩
  rw [<-hs,<-ht] at m4 hbd ⊢
  rw [<-hs] at k6
  have b2:ag .leq (.int .i64 t) (.int .i64 0)=some (.bool (decide (t<=0))):=by simp [ag]
  by_cases ht0:t<=0
  ·rw [if_pos ht0]
   rw [decide_eq_true ht0] at b2
   refine ⟨.int .i64 p,.fp [.int .i64 (k:Int),W1,O],.bool true,.bool false,.int .i64 s,.int .i64 t,.undef,.bool true,.bool false,.bool false,.bool true,?_⟩
   simp [fu,b1,b2,m1,m2,m3,m4,f1,hfw,hnc,hfc,aM,-frz,-ag]
  rw [if_neg ht0]
  rw [decide_eq_false ht0] at b2
  obtain ⟨d1,d2,d3,d4⟩:=tZ k6 (show 0<t by omega)
  have hper:=hr.2
  unfold cn at hper hhi
  have b3:ag .add (.int .i64 s) (.int .i64 t)=some (.int .i64 (s+t)):=by
   simp only [ag]; rw [if_pos trivial,dQ (by unfold inI; omega)]
  have b4:ag .sub (.int .i64 (s+t)) (.int .i64 1)=some (.int .i64 (s+t-1)):=by
   simp only [ag]; rw [if_pos trivial,dQ (by unfold inI; omega)]
  have b5:ag .quo (.int .i64 (s+t-1)) (.int .i64 t)=some (.int .i64 ((s+t-1).tdiv t)):=by
   simp only [ag]; rw [if_pos trivial,if_neg (show ¬ t=0 by omega),dQ (by unfold inI; omega)]
  obtain ⟨d,hd⟩:∃d,d=(s+t-1).tdiv t:=⟨_,rfl⟩
  rw [<-hd] at b5 d1 d2 ⊢
  have b6:ag .add (.int .i64 p) (.int .i64 d)=some (.int .i64 (p+d)):=by
   simp only [ag]; rw [if_pos trivial,dQ (by unfold inI; omega)]
  have ih:=Bf fuel ha (k:Int) hhi m (p+d) (by omega) (by omega)
  rw [Int.toNat_natCast] at ih
  obtain ⟨p2,hp2⟩:∃p2,p2=p+d:=⟨_,rfl⟩
  rw [<-hp2] at b6 ih ⊢
  obtain ⟨st,hst⟩:∃st,st=s+t:=⟨_,rfl⟩
  rw [<-hst] at b3 b4 b5
  obtain ⟨st1,hst1⟩:∃st1,st1=st-1:=⟨_,rfl⟩
  rw [<-hst1] at b4 b5
  have hrun:run (ax GC xD) fuel [.code fu] (nc (.int .i64 (k:Int)) a (.int .i64 hi) (.int .i64 p)) []=some (.normal (nc (.int .i64 (k:Int)) a (.int .i64 hi) (.int .i64 p2)) []):=by
   simp [fu,b1,b2,b3,b4,b5,b6,m1,m2,m3,m4,f1,hfw,hnc,hfc,aM,-frz,-ag]
  rw [hrun]
  exact ih
def M23:aP:=fun args=>match args with
 | [.int .i64 n,a,.int .i64 lo,.int .i64 hi]=>(cm a).map fun l=>smT (smM n l lo hi)
 | _=>none
theorem Fa:an Try.prog GC 45 M23:=by
 refine an.of_ev (E:=ax GC xD) (aq C5) rfl at23 GO 5 ?_
 intro args r h
 unfold M23 at h
 split at h
 rotate_left
 ·cases h
 rename_i n a lo hi
 simp only [Option.map_eq_some_iff] at h
 obtain ⟨l,hl,rfl⟩:=h
 obtain ⟨m,hm⟩:∃m,m=(hi-lo+2).toNat+1:=⟨_,rfl⟩
 have m1:M41 [.int .i64 hi]=some (.bool (decide (cn hi))):=rfl
 by_cases hp:cn hi
 rotate_left
 ·refine ⟨0,?_⟩
  rw [decide_eq_false hp] at m1
  rw [show smM n l lo hi=none from if_neg hp]
  rw [aK _ _ rfl]
  simp [FB,m1,smT]
 rw [decide_eq_true hp] at m1
 rw [show smM n l lo hi=smL n.toNat l hi (hi-lo+2).toNat lo from if_pos hp]
 by_cases hz:(hi-lo+2).toNat=0
 ·
  refine ⟨1,?_⟩
  rw [hz]
  have b1:ag .leq (.int .i64 lo) (.int .i64 hi)=some (.bool false):=by simp [ag]; omega
  have lp:bZ (evC (ax GC xD) 1 fu) hJ 1 (nc (.int .i64 n) a (.int .i64 hi) (.int .i64 lo)) []=some (.exit 0 [.int .i64 n,a,.undef,.int .i64 hi,.undef,.undef,.int .i64 lo,.undef,.undef,.undef,.undef,.undef,.undef,.bool false,.undef,.undef,.undef] []):=by
   rw [aQ,yA]
   simp [fu,b1,-ag]
  rw [aK _ _ rfl]
  simp [FB,m1,xz lp,smL,smT]
 ·obtain ⟨F,hF⟩:∃F,F=(hi-lo+2).toNat:=⟨_,rfl⟩
  have hl23:=Bf F hl n hp F lo (by omega) (by omega)
  refine ⟨F,?_⟩
  rw [<-hF]
  rw [aK _ _ rfl]
  cases hs:smL n.toNat l hi F lo with
  | none=>
   rw [hs] at hl23
   obtain ⟨v6,v7,v8,v9,v10,v11,v12,v13,v14,v15,v16,lp⟩:=hl23
   simp [FB,m1,xz lp,smT]
  | some q=>
   rw [hs] at hl23
   obtain ⟨v7,v8,v9,v10,v11,v12,v13,v14,v15,v16,lp⟩:=hl23
   simp [FB,m1,xz lp,smT]
end Cy
namespace Clu
open Go
def kE:cr:=⟨1,7,.seq (.region [⟨some 1,.box (.var 0),none⟩,⟨some 2,.mv (.cst .nilS),none⟩]) (.seq (.seq (.region [⟨none,.load true 5 (.var 1),none⟩,⟨none,.call (.fn 62) [.tmp 0],none⟩,⟨some 6,.un .not (.tmp 1),none⟩]) (.cond (.var 6) (.seq (.region [⟨some 2,.mv (.cst .nilS),none⟩]) .ret) .skip)) (.seq (.region [⟨none,.fieldAddr 0 (.var 1),none⟩,⟨none,.load false 1 (.tmp 0),none⟩,⟨none,.lenSl (.tmp 1),none⟩,⟨some 3,.alloc 1 (.int .i64 0),none⟩,⟨none,.store 1 (.var 3) (.tmp 2),none⟩]) (.seq (.region [⟨some 4,.alloc 1 .nilS,none⟩]) (.seq (.region [⟨some 5,.alloc 1 .nilF,none⟩]) (.seq (.region [⟨none,.makeFunc (.func 63) [] [.var 3,.var 4,.var 1,.var 5],none⟩,⟨none,.store 1 (.var 5) (.tmp 0),none⟩]) (.seq (.region [⟨none,.load false 1 (.var 5),none⟩,⟨none,.buildSlice 1 [.cst (.int .i64 0)],none⟩,⟨none,.call (.tmp 0) [.tmp 1],none⟩]) (.seq (.region [⟨none,.load false 1 (.var 4),none⟩,⟨some 2,.mv (.tmp 0),none⟩]) .ret))))))),[.tmp 2]⟩
theorem kq:aE Try.prog Try.f43 1 [0,1,2,3,4,5,8] [] false ([],[])=some kE:=by kernel_rfl
theorem AN:Try.prog.funcs[43]?=some Try.f43:=by kernel_rfl
def pF:cr:=⟨1,6,.seq (.region [⟨some 1,.box (.var 0),none⟩,⟨some 2,.mv (.cst (.bool false)),none⟩]) (.seq (.region [⟨some 3,.alloc 1 .nilF,none⟩,⟨none,.store 1 (.var 3) (.fn 82),none⟩]) (.seq (.region [⟨none,.fieldAddr 0 (.var 1),none⟩,⟨none,.load false 1 (.tmp 0),none⟩,⟨none,.makeFunc (.func 84) [] [.var 3],none⟩,⟨none,.call (.fn 83) [.tmp 1,.tmp 2],none⟩,⟨some 4,.mv (.tmp 3),none⟩]) (.seq (.region [⟨none,.load false 1 (.var 3),none⟩,⟨none,.fieldAddr 1 (.var 1),none⟩,⟨none,.load false 1 (.tmp 1),none⟩,⟨none,.call (.tmp 0) [.tmp 2,.cst (.int .i64 10000)],none⟩,⟨none,.mv (.tmp 3),none⟩,⟨none,.load false 1 (.var 3),some (.tmp 4,true)⟩,⟨none,.fieldAddr 2 (.var 1),some (.tmp 4,true)⟩,⟨none,.load false 1 (.tmp 6),some (.tmp 4,true)⟩,⟨none,.call (.tmp 5) [.tmp 7,.cst (.int .i64 10000)],some (.tmp 4,true)⟩,⟨none,.pick (.tmp 4) (.tmp 8) (.cst (.bool false)),none⟩,⟨none,.mv (.tmp 9),none⟩,⟨none,.load false 1 (.var 3),some (.tmp 10,true)⟩,⟨none,.fieldAddr 3 (.var 1),some (.tmp 10,true)⟩,⟨none,.load false 1 (.tmp 12),some (.tmp 10,true)⟩,⟨none,.call (.tmp 11) [.tmp 13,.cst (.int .i64 10000)],some (.tmp 10,true)⟩,⟨none,.pick (.tmp 10) (.tmp 14) (.cst (.bool false)),none⟩,⟨some 5,.mv (.tmp 15),none⟩]) (.seq (.region [⟨none,.mv (.var 4),none⟩,⟨none,.un .not (.tmp 0),none⟩,⟨none,.mv (.tmp 1),none⟩,⟨none,.mv (.var 5),some (.tmp 2,true)⟩,⟨none,.pick (.tmp 2) (.tmp 3) (.cst (.bool false)),none⟩,⟨none,.mv (.tmp 4),none⟩,⟨none,.fieldAddr 0 (.var 1),some (.tmp 5,true)⟩,⟨none,.load false 1 (.tmp 6),some (.tmp 5,true)⟩,⟨none,.lenSl (.tmp 7),some (.tmp 5,true)⟩,⟨none,.bin .geq (.tmp 8) (.cst (.int .i64 1)),some (.tmp 5,true)⟩,⟨none,.pick (.tmp 5) (.tmp 9) (.cst (.bool false)),none⟩,⟨none,.mv (.tmp 10),none⟩,⟨none,.fieldAddr 0 (.var 1),some (.tmp 11,true)⟩,⟨none,.load false 1 (.tmp 12),some (.tmp 11,true)⟩,⟨none,.lenSl (.tmp 13),some (.tmp 11,true)⟩,⟨none,.bin .leq (.tmp 14) (.cst (.int .i64 4)),some (.tmp 11,true)⟩,⟨none,.pick (.tmp 11) (.tmp 15) (.cst (.bool false)),none⟩,⟨none,.mv (.tmp 16),none⟩,⟨none,.fieldAddr 4 (.var 1),some (.tmp 17,true)⟩,⟨none,.load false 1 (.tmp 18),some (.tmp 17,true)⟩,⟨none,.bin .eql (.tmp 19) (.cst (.int .i64 1)),some (.tmp 17,true)⟩,⟨none,.mv (.tmp 20),some (.tmp 17,true)⟩,⟨none,.fieldAddr 4 (.var 1),some (.tmp 21,false)⟩,⟨none,.load false 1 (.tmp 22),some (.tmp 21,false)⟩,⟨none,.bin .eql (.tmp 23) (.cst (.int .i64 2)),some (.tmp 21,false)⟩,⟨none,.pick (.tmp 21) (.cst (.bool true)) (.tmp 24),some (.tmp 17,true)⟩,⟨none,.pick (.tmp 17) (.tmp 25) (.cst (.bool false)),none⟩,⟨some 2,.mv (.tmp 26),none⟩]) .ret)))),[.tmp 2]⟩
theorem sb:aE Try.prog Try.f62 1 [0,1,2,3,4,5] [] true ([],[])=some pF:=by kernel_rfl
theorem G2:Try.prog.funcs[62]?=some Try.f62:=by kernel_rfl
def fB:MC:=.seq (.region [⟨some 19,.bin .lss (.var 18) (.var 17),none⟩]) (.seq (.cond (.var 19) .skip (.exit 0)) (.seq (.seq (.block 1 (.seq (.region [⟨none,.mv (.var 18),none⟩,⟨none,.indexSl 1 (.var 16) (.var 18),none⟩,⟨none,.load false 1 (.tmp 1),none⟩,⟨some 8,.mv (.tmp 0),none⟩,⟨some 9,.mv (.tmp 2),none⟩]) (.seq (.region [⟨none,.mv (.var 9),none⟩,⟨none,.mv (.var 6),none⟩,⟨none,.build [.int .i64 0,.int .i64 0,.int .i64 0,.int .i64 0] [(0,(1,.tmp 0)),(2,(1,.tmp 1)),(3,(1,.cst (.int .i64 1)))],none⟩,⟨some 10,.alloc 4 (.agg [.int .i64 0,.int .i64 0,.int .i64 0,.int .i64 0]),none⟩,⟨none,.store 4 (.var 10) (.tmp 2),none⟩]) (.seq (.seq (.region [⟨none,.mv (.var 8),none⟩,⟨none,.bin .add (.tmp 0) (.cst (.int .i64 1)),none⟩,⟨none,.load false 1 (.var 3),none⟩,⟨none,.lenSl (.tmp 2),none⟩,⟨some 20,.bin .lss (.tmp 1) (.tmp 3),none⟩]) (.cond (.var 20) (.region [⟨none,.load false 1 (.var 3),none⟩,⟨none,.mv (.var 8),none⟩,⟨none,.bin .add (.tmp 1) (.cst (.int .i64 1)),none⟩,⟨none,.indexSl 1 (.tmp 0) (.tmp 2),none⟩,⟨none,.load false 1 (.tmp 3),none⟩,⟨none,.fieldAddr 1 (.var 10),none⟩,⟨none,.store 1 (.tmp 5) (.tmp 4),none⟩,⟨none,.fieldAddr 3 (.var 10),none⟩,⟨none,.store 1 (.tmp 7) (.cst (.int .i64 0)),none⟩]) .skip)) (.seq (.seq (.region [⟨none,.fieldAddr 4 (.var 2),none⟩,⟨none,.load false 1 (.tmp 0),none⟩,⟨none,.bin .eql (.tmp 1) (.cst (.int .i64 2)),none⟩,⟨none,.mv (.tmp 2),none⟩,⟨none,.fieldAddr 1 (.var 10),some (.tmp 3,false)⟩,⟨none,.load false 1 (.tmp 4),some (.tmp 3,false)⟩,⟨none,.mv (.var 9),some (.tmp 3,false)⟩,⟨none,.bin .add (.tmp 6) (.cst (.int .i64 1)),some (.tmp 3,false)⟩,⟨none,.bin .neq (.tmp 5) (.tmp 7),some (.tmp 3,false)⟩,⟨some 21,.pick (.tmp 3) (.cst (.bool true)) (.tmp 8),none⟩]) (.cond (.var 21) (.region [⟨none,.fieldAddr 2 (.var 10),none⟩,⟨none,.load false 1 (.tmp 0),none⟩,⟨none,.fieldAddr 3 (.var 2),none⟩,⟨none,.load false 1 (.tmp 2),none⟩,⟨none,.bin .add (.tmp 1) (.tmp 3),none⟩,⟨none,.fieldAddr 2 (.var 10),none⟩,⟨none,.store 1 (.tmp 5) (.tmp 4),none⟩]) .skip)) (.region [⟨none,.load true 4 (.var 10),none⟩,⟨none,.buildF 4 [.tmp 0],none⟩,⟨none,.call (.fn 70) [.var 7,.tmp 1],none⟩])))))) (.kill [0,1,4,5,8,9,10,11,12,13,14,15,19,20,21,22,23,24,25])) (.region [⟨none,.bin .add (.var 18) (.cst (.int .i64 1)),none⟩,⟨some 18,.mv (.tmp 0),none⟩])))
def lH:MC:=.seq (.region [⟨some 25,.bin .lss (.var 24) (.var 23),none⟩]) (.seq (.cond (.var 25) .skip (.exit 2)) (.seq (.seq (.block 3 (.seq (.region [⟨none,.mv (.var 24),none⟩,⟨none,.indexSl 2 (.var 22) (.var 24),none⟩,⟨none,.load true 2 (.tmp 1),none⟩,⟨some 13,.alloc 2 (.agg [.int .i64 0,.int .i64 0]),none⟩,⟨some 12,.mv (.tmp 0),none⟩,⟨none,.store 2 (.var 13) (.tmp 2),none⟩]) (.seq (.region [⟨none,.mv (.var 11),none⟩,⟨none,.load false 1 (.var 3),none⟩,⟨none,.mv (.var 12),none⟩,⟨none,.bin .add (.tmp 2) (.cst (.int .i64 1)),none⟩,⟨none,.call (.tmp 0) [.tmp 1,.tmp 3],none⟩,⟨some 14,.alloc 3 (.agg [.int .i64 0,.int .i64 0,.int .i64 0]),none⟩,⟨none,.store 3 (.var 14) (.tmp 4),none⟩]) (.region [⟨none,.fieldAddr 0 (.var 14),none⟩,⟨none,.load false 1 (.tmp 0),none⟩,⟨none,.fieldAddr 1 (.var 14),none⟩,⟨none,.load false 1 (.tmp 2),none⟩,⟨none,.mv (.var 6),none⟩,⟨none,.fieldAddr 0 (.var 13),none⟩,⟨none,.load false 1 (.tmp 5),none⟩,⟨none,.bin .add (.tmp 4) (.tmp 6),none⟩,⟨none,.fieldAddr 2 (.var 14),none⟩,⟨none,.load false 1 (.tmp 8),none⟩,⟨none,.build [.int .i64 0,.int .i64 0,.int .i64 0,.int .i64 0] [(0,(1,.tmp 1)),(1,(1,.tmp 3)),(2,(1,.tmp 7)),(3,(1,.tmp 9))],none⟩,⟨none,.fieldAddr 1 (.var 14),none⟩,⟨none,.load false 1 (.tmp 11),none⟩,⟨none,.fieldAddr 0 (.var 14),none⟩,⟨none,.load false 1 (.tmp 13),none⟩,⟨none,.mv (.var 6),none⟩,⟨none,.fieldAddr 0 (.var 13),none⟩,⟨none,.load false 1 (.tmp 16),none⟩,⟨none,.bin .add (.tmp 15) (.tmp 17),none⟩,⟨none,.fieldAddr 1 (.var 13),none⟩,⟨none,.load false 1 (.tmp 19),none⟩,⟨none,.bin .add (.tmp 18) (.tmp 20),none⟩,⟨none,.un .neg (.tmp 21),none⟩,⟨none,.fieldAddr 2 (.var 14),none⟩,⟨none,.load false 1 (.tmp 23),none⟩,⟨none,.un .neg (.tmp 24),none⟩,⟨none,.build [.int .i64 0,.int .i64 0,.int .i64 0,.int .i64 0] [(0,(1,.tmp 12)),(1,(1,.tmp 14)),(2,(1,.tmp 22)),(3,(1,.tmp 25))],none⟩,⟨none,.buildF 4 [.tmp 10,.tmp 26],none⟩,⟨none,.call (.fn 70) [.var 7,.tmp 27],none⟩])))) (.kill [0,1,2,4,5,8,9,10,12,13,14,15,16,17,18,19,20,21,25])) (.region [⟨none,.bin .add (.var 24) (.cst (.int .i64 1)),none⟩,⟨some 24,.mv (.tmp 0),none⟩])))
def zu:cr:=⟨2,26,.seq (.region [⟨some 2,.box (.var 0),none⟩,⟨some 3,.box (.var 1),none⟩,⟨some 4,.mv (.cst .nilS),none⟩,⟨some 5,.mv (.cst (.int .i64 0)),none⟩]) (.seq (.seq (.region [⟨none,.load true 5 (.var 2),none⟩,⟨none,.call (.fn 43) [.tmp 0],none⟩,⟨none,.makeFunc (.func 67) [] [.var 3],none⟩,⟨none,.call (.fn 66) [.tmp 1,.tmp 2],none⟩,⟨some 15,.un .not (.tmp 3),none⟩]) (.cond (.var 15) (.seq (.region [⟨some 4,.mv (.cst .nilS),none⟩,⟨some 5,.mv (.cst (.int .i64 130)),none⟩]) .ret) .skip)) (.seq (.region [⟨none,.load true 5 (.var 2),none⟩,⟨none,.call (.fn 69) [.tmp 0],none⟩,⟨some 6,.mv (.tmp 1),none⟩]) (.seq (.region [⟨some 7,.alloc 1 .nilS,none⟩]) (.seq (.seq (.region [⟨some 16,.load false 1 (.var 3),none⟩,⟨some 17,.lenSl (.var 16),none⟩,⟨some 18,.mv (.cst (.int .i64 0)),none⟩]) (.seq (.block 0 (.loop [0,1,4,5,8,9,10,11,12,13,14,15,19,20,21,22,23,24,25] fB)) (.kill [0,1,4,5,8,9,10,11,12,13,14,15,16,17,18,19,20,21,22,23,24,25]))) (.seq (.region [⟨none,.call (.fn 71) [],none⟩,⟨none,.fieldAddr 4 (.var 2),none⟩,⟨none,.load false 1 (.tmp 1),none⟩,⟨none,.indexVal false 3 1 (.tmp 0) (.tmp 2),none⟩,⟨some 11,.mv (.tmp 3),none⟩]) (.seq (.seq (.region [⟨none,.fieldAddr 0 (.var 2),none⟩,⟨some 22,.load false 1 (.tmp 0),none⟩,⟨some 23,.lenSl (.var 22),none⟩,⟨some 24,.mv (.cst (.int .i64 0)),none⟩]) (.seq (.block 2 (.loop [0,1,2,4,5,8,9,10,12,13,14,15,16,17,18,19,20,21,25] lH)) (.kill [0,1,2,3,4,5,6,8,9,10,11,12,13,14,15,16,17,18,19,20,21,22,23,24,25]))) (.seq (.region [⟨none,.load false 1 (.var 7),none⟩,⟨some 4,.mv (.tmp 0),none⟩,⟨some 5,.mv (.cst (.int .i64 0)),none⟩]) .ret))))))),[.tmp 4,.tmp 5]⟩
def ig:List Nat:=[0,1,4,5,8,9,10,11,12,13,14,15,19,20,21,22,23,24,25]
abbrev ng (v2 v3 v6 v7 v16 v17 v18:AV):List AV:=[.undef,.undef,v2,v3,.undef,.undef,v6,v7,.undef,.undef,.undef,.undef,.undef,.undef,.undef,.undef,v16,v17,v18,.undef,.undef,.undef,.undef,.undef,.undef,.undef]
theorem yC {d0 d1 v2 v3 d4 d5 v6 v7 d8 d9 d10 d11 d12 d13 d14 d15 v16 v17 v18 d19 d20 d21 d22 d23 d24 d25:AV}:clear ig [d0,d1,v2,v3,d4,d5,v6,v7,d8,d9,d10,d11,d12,d13,d14,d15,v16,v17,v18,d19,d20,d21,d22,d23,d24,d25]=ng v2 v3 v6 v7 v16 v17 v18:=by simp only [ig,clear,List.foldl_cons,List.foldl_nil,List.set_cons_zero,List.set_cons_succ]
theorem Gb {E:Env} {fuel:Nat} {A:aa} {o:Out} {k:List KC} {d0 d1 v2 v3 d4 d5 v6 v7 d8 d9 d10 d11 d12 d13 d14 d15 v16 v17 v18 d19 d20 d21 d22 d23 d24 d25:AV} (h:bZ (evC E fuel fB) ig fuel (ng v2 v3 v6 v7 v16 v17 v18) A=some o) :
  run E fuel (.code (.loop [0,1,4,5,8,9,10,11,12,13,14,15,19,20,21,22,23,24,25] fB) :: k) [d0,d1,v2,v3,d4,d5,v6,v7,d8,d9,d10,d11,d12,d13,d14,d15,v16,v17,v18,d19,d20,d21,d22,d23,d24,d25] A=after E fuel k o:=aU ig _ _ (by rw [yC]; exact h)
def ic:List Nat:=[0,1,2,4,5,8,9,10,12,13,14,15,16,17,18,19,20,21,25]
abbrev nf (v3 v6 v7 v11 v22 v23 v24:AV):List AV:=[.undef,.undef,.undef,v3,.undef,.undef,v6,v7,.undef,.undef,.undef,v11,.undef,.undef,.undef,.undef,.undef,.undef,.undef,.undef,.undef,.undef,v22,v23,v24,.undef]
theorem yB {d0 d1 d2 v3 d4 d5 v6 v7 d8 d9 d10 v11 d12 d13 d14 d15 d16 d17 d18 d19 d20 d21 v22 v23 v24 d25:AV}:clear ic [d0,d1,d2,v3,d4,d5,v6,v7,d8,d9,d10,v11,d12,d13,d14,d15,d16,d17,d18,d19,d20,d21,v22,v23,v24,d25]=nf v3 v6 v7 v11 v22 v23 v24:=by simp only [ic,clear,List.foldl_cons,List.foldl_nil,List.set_cons_zero,List.set_cons_succ]
theorem Ga {E:Env} {fuel:Nat} {A:aa} {o:Out} {k:List KC} {d0 d1 d2 v3 d4 d5 v6 v7 d8 d9 d10 v11 d12 d13 d14 d15 d16 d17 d18 d19 d20 d21 v22 v23 v24 d25:AV} (h:bZ (evC E fuel lH) ic fuel (nf v3 v6 v7 v11 v22 v23 v24) A=some o) :
  run E fuel (.code (.loop [0,1,2,4,5,8,9,10,12,13,14,15,16,17,18,19,20,21,25] lH) :: k) [d0,d1,d2,v3,d4,d5,v6,v7,d8,d9,d10,v11,d12,d13,d14,d15,d16,d17,d18,d19,d20,d21,v22,v23,v24,d25] A=after E fuel k o:=aU ic _ _ (by rw [yB]; exact h)
theorem yh:aE Try.prog Try.f44 2 [0,1,2,3,4,5,6,7,8,9,10,11,12,13,14,19,22,23,24,25,36,53,69,70,71,72] [71] true ([[0,1,4,5,8,9,10,11,12,13,14,15,19,20,21,22,23,24,25],[0,1,2,4,5,8,9,10,12,13,14,15,16,17,18,19,20,21,25]],[[0,1,4,5,8,9,10,11,12,13,14,15,19,20,21,22,23,24,25],[0,1,4,5,8,9,10,11,12,13,14,15,16,17,18,19,20,21,22,23,24,25],[0,1,2,4,5,8,9,10,12,13,14,15,16,17,18,19,20,21,25],[0,1,2,3,4,5,6,8,9,10,11,12,13,14,15,16,17,18,19,20,21,22,23,24,25]])=some zu:=by kernel_rfl
theorem K5:Try.prog.funcs[44]?=some Try.f44:=by kernel_rfl
def fA:MC:=.seq (.region [⟨some 14,.bin .lss (.var 13) (.var 12),none⟩]) (.seq (.cond (.var 14) .skip (.exit 0)) (.seq (.seq (.block 1 (.seq (.region [⟨none,.indexSl 1 (.var 11) (.var 13),none⟩,⟨none,.load false 1 (.tmp 0),none⟩,⟨some 6,.mv (.tmp 1),none⟩]) (.seq (.region [⟨none,.load true 5 (.var 1),none⟩,⟨none,.mv (.var 6),none⟩,⟨none,.call (.fn 44) [.tmp 0,.tmp 1],none⟩,⟨none,.mv (.tmp 2),none⟩,⟨none,.extract (.tmp 3) 0,none⟩,⟨none,.extract (.tmp 3) 1,none⟩,⟨some 7,.mv (.tmp 4),none⟩,⟨none,.mv (.tmp 5),none⟩]) (.seq (.region [⟨some 8,.mv (.cst (.int .i64 1000000)),none⟩]) (.seq (.seq (.region [⟨none,.fieldAddr 0 (.var 4),none⟩,⟨none,.load false 1 (.tmp 0),none⟩,⟨some 15,.bin .gtr (.tmp 1) (.cst (.int .i64 0)),none⟩]) (.cond (.var 15) (.region [⟨none,.fieldAddr 0 (.var 4),none⟩,⟨none,.load false 1 (.tmp 0),none⟩,⟨none,.bin .sub (.tmp 1) (.cst (.int .i64 1)),none⟩,⟨some 8,.mv (.tmp 2),none⟩]) .skip)) (.seq (.seq (.region [⟨none,.mv (.var 8),none⟩,⟨some 16,.bin .lss (.tmp 0) (.cst (.int .i64 1)),none⟩]) (.cond (.var 16) (.exit 0) .skip)) (.seq (.region [⟨none,.mv (.var 6),none⟩,⟨none,.lenSl (.tmp 0),none⟩,⟨none,.mv (.var 7),none⟩,⟨none,.mv (.var 8),none⟩,⟨none,.call (.fn 45) [.tmp 1,.tmp 2,.cst (.int .i64 1),.tmp 3],none⟩,⟨none,.mv (.tmp 4),none⟩,⟨none,.extract (.tmp 5) 0,none⟩,⟨none,.extract (.tmp 5) 1,none⟩,⟨some 9,.mv (.tmp 6),none⟩,⟨some 10,.mv (.tmp 7),none⟩]) (.seq (.region [⟨some 17,.mv (.var 10),none⟩]) (.cond (.var 17) (.region [⟨none,.mv (.var 9),none⟩,⟨none,.mv (.var 6),none⟩,⟨none,.build [.int .i64 0,.nilS,.nilS,.nilS] [(0,(1,.tmp 0)),(1,(1,.tmp 1))],none⟩,⟨none,.mv (.var 7),none⟩,⟨none,.store 4 (.var 4) (.tmp 2),none⟩,⟨some 5,.mv (.tmp 3),none⟩]) .skip))))))))) (.kill [0,3,6,7,8,9,10,14,15,16,17,18,19])) (.region [⟨none,.bin .add (.var 13) (.cst (.int .i64 1)),none⟩,⟨some 13,.mv (.tmp 0),none⟩])))
def zq:cr:=⟨1,20,.seq (.region [⟨some 1,.box (.var 0),none⟩,⟨some 2,.alloc 4 (.agg [.int .i64 0,.nilS,.nilS,.nilS]),none⟩,⟨some 3,.mv (.cst (.int .i64 0)),none⟩]) (.seq (.region [⟨some 4,.alloc 4 (.agg [.int .i64 0,.nilS,.nilS,.nilS]),none⟩]) (.seq (.region [⟨some 5,.mv (.cst .nilS),none⟩]) (.seq (.seq (.region [⟨none,.load true 5 (.var 1),none⟩,⟨some 11,.call (.fn 43) [.tmp 0],none⟩,⟨some 12,.lenSl (.var 11),none⟩,⟨some 13,.mv (.cst (.int .i64 0)),none⟩]) (.seq (.block 0 (.loop [0,3,6,7,8,9,10,14,15,16,17,18,19] fA)) (.kill [0,1,3,6,7,8,9,10,11,12,13,14,15,16,17,18,19]))) (.seq (.seq (.region [⟨none,.fieldAddr 0 (.var 4),none⟩,⟨none,.load false 1 (.tmp 0),none⟩,⟨some 18,.bin .eql (.tmp 1) (.cst (.int .i64 0)),none⟩]) (.cond (.var 18) (.seq (.region [⟨none,.build [.int .i64 0,.nilS,.nilS,.nilS] [],none⟩,⟨none,.store 4 (.var 2) (.tmp 0),none⟩,⟨some 3,.mv (.cst (.int .i64 130)),none⟩]) .ret) .skip)) (.seq (.region [⟨none,.fieldAddr 1 (.var 4),none⟩,⟨none,.load false 1 (.tmp 0),none⟩,⟨none,.lenSl (.tmp 1),none⟩,⟨none,.mv (.var 5),none⟩,⟨none,.fieldAddr 0 (.var 4),none⟩,⟨none,.load false 1 (.tmp 4),none⟩,⟨none,.call (.fn 46) [.tmp 2,.tmp 3,.tmp 5],none⟩,⟨none,.mv (.tmp 6),none⟩,⟨none,.extract (.tmp 7) 0,none⟩,⟨none,.extract (.tmp 7) 1,none⟩,⟨none,.extract (.tmp 7) 2,none⟩,⟨none,.fieldAddr 2 (.var 4),none⟩,⟨none,.store 1 (.tmp 11) (.tmp 8),none⟩]) (.seq (.seq (.region [⟨none,.fieldAddr 0 (.var 4),none⟩,⟨none,.load false 1 (.tmp 0),none⟩,⟨some 19,.bin .gtr (.tmp 1) (.cst (.int .i64 1)),none⟩]) (.cond (.var 19) (.region [⟨none,.fieldAddr 1 (.var 4),none⟩,⟨none,.load false 1 (.tmp 0),none⟩,⟨none,.lenSl (.tmp 1),none⟩,⟨none,.mv (.var 5),none⟩,⟨none,.fieldAddr 0 (.var 4),none⟩,⟨none,.load false 1 (.tmp 4),none⟩,⟨none,.bin .sub (.tmp 5) (.cst (.int .i64 1)),none⟩,⟨none,.call (.fn 46) [.tmp 2,.tmp 3,.tmp 6],none⟩,⟨none,.mv (.tmp 7),none⟩,⟨none,.extract (.tmp 8) 0,none⟩,⟨none,.extract (.tmp 8) 1,none⟩,⟨none,.extract (.tmp 8) 2,none⟩,⟨none,.fieldAddr 3 (.var 4),none⟩,⟨none,.store 1 (.tmp 12) (.tmp 10),none⟩]) .skip)) (.seq (.region [⟨none,.load true 4 (.var 4),none⟩,⟨none,.store 4 (.var 2) (.tmp 0),none⟩,⟨some 3,.mv (.cst (.int .i64 0)),none⟩]) .ret))))))),[.cell 2 true 4,.tmp 3]⟩
def jO:List Nat:=[0,3,6,7,8,9,10,14,15,16,17,18,19]
abbrev ne (v1 v2 v4 v5 v11 v12 v13:AV):List AV:=[.undef,v1,v2,.undef,v4,v5,.undef,.undef,.undef,.undef,.undef,v11,v12,v13,.undef,.undef,.undef,.undef,.undef,.undef]
theorem uT {d0 v1 v2 d3 v4 v5 d6 d7 d8 d9 d10 v11 v12 v13 d14 d15 d16 d17 d18 d19:AV}:clear jO [d0,v1,v2,d3,v4,v5,d6,d7,d8,d9,d10,v11,v12,v13,d14,d15,d16,d17,d18,d19]=ne v1 v2 v4 v5 v11 v12 v13:=rfl
theorem xA {E:Env} {fuel:Nat} {A:aa} {o:Out} {k:List KC} {d0 v1 v2 d3 v4 v5 d6 d7 d8 d9 d10 v11 v12 v13 d14 d15 d16 d17 d18 d19:AV} (h:bZ (evC E fuel fA) jO fuel (ne v1 v2 v4 v5 v11 v12 v13) A=some o) :
  run E fuel (.code (.loop [0,3,6,7,8,9,10,14,15,16,17,18,19] fA) :: k) [d0,v1,v2,d3,v4,v5,d6,d7,d8,d9,d10,v11,v12,v13,d14,d15,d16,d17,d18,d19] A=after E fuel k o:=aU jO _ _ (by rw [uT]; exact h)
theorem yg:aE Try.prog Try.f23 1 [0,1,2,3,4,5,7,8,10,11,12,14,15,16,17,28,33,42,50,66] [] true ([[0,3,6,7,8,9,10,14,15,16,17,18,19]],[[0,3,6,7,8,9,10,14,15,16,17,18,19],[0,1,3,6,7,8,9,10,11,12,13,14,15,16,17,18,19]])=some zq:=by kernel_rfl
theorem K4:Try.prog.funcs[23]?=some Try.f23:=by kernel_rfl
def rq:cr:=⟨2,10,.seq (.region [⟨some 2,.box (.var 0),none⟩,⟨some 3,.box (.var 1),none⟩,⟨some 4,.mv (.cst (.bool false)),none⟩]) (.seq (.region [⟨none,.load true 5 (.var 2),none⟩,⟨none,.fieldAddr 1 (.var 3),none⟩,⟨none,.load false 1 (.tmp 1),none⟩,⟨none,.call (.fn 44) [.tmp 0,.tmp 2],none⟩,⟨none,.mv (.tmp 3),none⟩,⟨none,.extract (.tmp 4) 0,none⟩,⟨none,.extract (.tmp 4) 1,none⟩,⟨some 5,.mv (.tmp 5),none⟩,⟨some 6,.mv (.tmp 6),none⟩]) (.seq (.region [⟨none,.fieldAddr 1 (.var 3),none⟩,⟨none,.load false 1 (.tmp 0),none⟩,⟨none,.lenSl (.tmp 1),none⟩,⟨some 7,.mv (.tmp 2),none⟩]) (.seq (.seq (.block 0 (.seq (.region [⟨none,.mv (.var 6),none⟩,⟨none,.bin .neq (.tmp 0) (.cst (.int .i64 0)),none⟩,⟨none,.mv (.tmp 1),none⟩,⟨none,.fieldAddr 0 (.var 3),some (.tmp 2,false)⟩,⟨none,.load false 1 (.tmp 3),some (.tmp 2,false)⟩,⟨none,.bin .lss (.tmp 4) (.cst (.int .i64 1)),some (.tmp 2,false)⟩,⟨none,.pick (.tmp 2) (.cst (.bool true)) (.tmp 5),none⟩,⟨none,.mv (.tmp 6),none⟩,⟨none,.fieldAddr 0 (.var 3),some (.tmp 7,false)⟩,⟨none,.load false 1 (.tmp 8),some (.tmp 7,false)⟩,⟨none,.bin .gtr (.tmp 9) (.cst (.int .i64 1000000)),some (.tmp 7,false)⟩,⟨none,.pick (.tmp 7) (.cst (.bool true)) (.tmp 10),none⟩,⟨none,.mv (.tmp 11),none⟩,⟨none,.mv (.var 7),some (.tmp 12,false)⟩,⟨none,.mv (.var 5),some (.tmp 12,false)⟩,⟨none,.fieldAddr 0 (.var 3),some (.tmp 12,false)⟩,⟨none,.load false 1 (.tmp 15),some (.tmp 12,false)⟩,⟨none,.fieldAddr 2 (.var 3),some (.tmp 12,false)⟩,⟨none,.load false 1 (.tmp 17),some (.tmp 12,false)⟩,⟨none,.call (.fn 77) [.tmp 13,.tmp 14,.tmp 16,.tmp 18],some (.tmp 12,false)⟩,⟨none,.un .not (.tmp 19),some (.tmp 12,false)⟩,⟨none,.pick (.tmp 12) (.cst (.bool true)) (.tmp 20),none⟩,⟨some 8,.mv (.tmp 21),none⟩]) (.cond (.var 8) (.seq (.region [⟨some 4,.mv (.cst (.bool false)),none⟩]) .ret) (.seq (.region [⟨none,.fieldAddr 0 (.var 3),none⟩,⟨none,.load false 1 (.tmp 0),none⟩,⟨none,.bin .eql (.tmp 1) (.cst (.int .i64 1)),none⟩,⟨some 9,.mv (.tmp 2),none⟩]) (.cond (.var 9) (.seq (.region [⟨none,.fieldAddr 3 (.var 3),none⟩,⟨none,.load false 1 (.tmp 0),none⟩,⟨none,.lenSl (.tmp 1),none⟩,⟨none,.bin .eql (.tmp 2) (.cst (.int .i64 0)),none⟩,⟨some 4,.mv (.tmp 3),none⟩]) .ret) .skip))))) (.kill [0,1,2,4,6,8,9])) (.seq (.region [⟨none,.mv (.var 7),none⟩,⟨none,.mv (.var 5),none⟩,⟨none,.fieldAddr 0 (.var 3),none⟩,⟨none,.load false 1 (.tmp 2),none⟩,⟨none,.bin .sub (.tmp 3) (.cst (.int .i64 1)),none⟩,⟨none,.fieldAddr 3 (.var 3),none⟩,⟨none,.load false 1 (.tmp 5),none⟩,⟨none,.call (.fn 78) [.tmp 0,.tmp 1,.tmp 4,.tmp 6],none⟩,⟨some 4,.mv (.tmp 7),none⟩]) .ret)))),[.tmp 4]⟩
theorem sa:aE Try.prog Try.f48 2 [0,1,2,3,4,5,6,7,18,41] [] true ([],[[0,1,2,4,6,8,9]])=some rq:=by kernel_rfl
theorem G1:Try.prog.funcs[48]?=some Try.f48:=by kernel_rfl
def dp:MC:=.seq (.seq (.region [⟨none,.mv (.var 6),none⟩,⟨none,.load false 1 (.var 1),none⟩,⟨some 8,.bin .leq (.tmp 0) (.tmp 1),none⟩]) (.cond (.var 8) .skip (.exit 0))) (.seq (.seq (.block 1 (.seq (.region [⟨none,.mv (.var 0),none⟩,⟨none,.mv (.var 6),none⟩,⟨none,.call (.fn 64) [.tmp 0,.tmp 1],none⟩,⟨none,.un .not (.tmp 2),none⟩,⟨none,.mv (.tmp 3),none⟩,⟨none,.fieldAddr 4 (.var 3),some (.tmp 4,true)⟩,⟨none,.load false 1 (.tmp 5),some (.tmp 4,true)⟩,⟨none,.bin .eql (.tmp 6) (.cst (.int .i64 1)),some (.tmp 4,true)⟩,⟨none,.mv (.tmp 7),some (.tmp 4,true)⟩,⟨none,.mv (.var 6),some (.tmp 8,false)⟩,⟨none,.mv (.var 0),some (.tmp 8,false)⟩,⟨none,.lenSl (.tmp 10),some (.tmp 8,false)⟩,⟨none,.bin .eql (.tmp 9) (.tmp 11),some (.tmp 8,false)⟩,⟨none,.pick (.tmp 8) (.cst (.bool true)) (.tmp 12),some (.tmp 4,true)⟩,⟨some 9,.pick (.tmp 4) (.tmp 13) (.cst (.bool false)),none⟩]) (.cond (.var 9) (.regionD [] [⟨none,.load false 1 (.var 4),none⟩,⟨none,.mv (.var 0),none⟩,⟨none,.call (.fn 65) [.tmp 1],none⟩,⟨none,.mv (.var 6),none⟩,⟨none,.buildF 1 [.tmp 3],none⟩,⟨none,.appendN 1 8 (.tmp 2) (.tmp 4),none⟩,⟨none,.call (.tmp 0) [.tmp 5],none⟩] [(0,2),(0,5)]) .skip))) (.kill [2,5,7,8,9])) (.region [⟨none,.mv (.var 6),none⟩,⟨none,.bin .add (.tmp 0) (.cst (.int .i64 1)),none⟩,⟨some 6,.mv (.tmp 1),none⟩]))
def sB:cr:=⟨5,10,.seq (.seq (.region [⟨none,.mv (.var 0),none⟩,⟨none,.lenSl (.tmp 0),none⟩,⟨none,.load false 1 (.var 1),none⟩,⟨none,.bin .add (.tmp 2) (.cst (.int .i64 1)),none⟩,⟨some 7,.bin .eql (.tmp 1) (.tmp 3),none⟩]) (.cond (.var 7) (.seq (.region [⟨none,.load false 1 (.var 1),none⟩,⟨none,.bin .add (.tmp 0) (.cst (.int .i64 1)),none⟩,⟨none,.makeSlice 1 8 (.int .i64 0) (.tmp 1) (.tmp 1),none⟩,⟨some 5,.mv (.tmp 2),none⟩]) (.seq (.region [⟨none,.mv (.var 5),none⟩,⟨none,.mv (.var 0),none⟩,⟨none,.copy 1 (.tmp 0) (.tmp 1),none⟩]) (.seq (.region [⟨none,.load false 1 (.var 2),none⟩,⟨none,.mv (.var 5),none⟩,⟨none,.buildSlice 1 [.tmp 1],none⟩,⟨none,.append 1 24 (.tmp 0) (.tmp 2),none⟩,⟨none,.store 1 (.var 2) (.tmp 3),none⟩]) .ret))) .skip)) (.seq (.region [⟨some 6,.mv (.cst (.int .i64 1)),none⟩]) (.seq (.block 0 (.loop [2,5,7,8,9] dp)) (.kill [0,1,2,3,4,5,6,7,8,9]))),[]⟩
def dk:List Nat:=[2,5,7,8,9]
abbrev ge (v0 v1 v3 v4 v6:AV):List AV:=[v0,v1,.undef,v3,v4,.undef,v6,.undef,.undef,.undef]
theorem ot {v0 v1 d2 v3 v4 d5 v6 d7 d8 d9:AV}:clear dk [v0,v1,d2,v3,v4,d5,v6,d7,d8,d9]=ge v0 v1 v3 v4 v6:=rfl
theorem rK {E:Env} {fuel:Nat} {A:aa} {o:Out} {k:List KC} {v0 v1 d2 v3 v4 d5 v6 d7 d8 d9:AV} (h:bZ (evC E fuel dp) dk fuel (ge v0 v1 v3 v4 v6) A=some o) :
  run E fuel (.code (.loop [2,5,7,8,9] dp) :: k) [v0,v1,d2,v3,v4,d5,v6,d7,d8,d9] A=after E fuel k o:=aU dk _ _ (by rw [ot]; exact h)
theorem pW:aE Try.prog Try.f63 5 [0,1,2,3,4,6,7,12,25,42] [] false ([[2,5,7,8,9]],[[2,5,7,8,9],[0,1,2,3,4,5,6,7,8,9]])=some sB:=by kernel_rfl
theorem EF:Try.prog.funcs[63]?=some Try.f63:=by kernel_rfl
def Et:cr:=⟨2,3,.seq (.region [⟨some 2,.mv (.cst (.bool false)),none⟩]) (.seq (.region [⟨none,.mv (.var 0),none⟩,⟨none,.mv (.var 1),none⟩,⟨none,.call (.fn 49) [.tmp 0,.tmp 1],none⟩,⟨none,.bin .geq (.tmp 2) (.cst (.int .i64 0)),none⟩,⟨some 2,.mv (.tmp 3),none⟩]) .ret),[.tmp 2]⟩
theorem ya:aE Try.prog Try.f64 2 [0,1,4] [] true ([],[])=some Et:=by kernel_rfl
theorem KU:Try.prog.funcs[64]?=some Try.f64:=by kernel_rfl
def Aa:cr:=⟨1,2,.seq (.region [⟨some 1,.mv (.cst .nilS),none⟩]) (.seq (.region [⟨none,.mv (.var 0),none⟩,⟨none,.mv (.var 0),none⟩,⟨none,.lenSl (.tmp 1),none⟩,⟨none,.mv (.var 0),none⟩,⟨none,.lenSl (.tmp 3),none⟩,⟨none,.sliceM 1 (.tmp 0) none (.tmp 2) (.tmp 4),none⟩,⟨some 1,.mv (.tmp 5),none⟩]) .ret),[.tmp 1]⟩
theorem uS:aE Try.prog Try.f65 1 [0,2] [] true ([],[])=some Aa:=by kernel_rfl
theorem Ia:Try.prog.funcs[65]?=some Try.f65:=by kernel_rfl
def tg:cr:=⟨2,3,.seq (.region [⟨some 2,.mv (.cst (.bool false)),none⟩]) (.seq (.region [⟨none,.mv (.var 0),none⟩,⟨none,.bin .geq (.tmp 0) (.cst (.int .i64 0)),none⟩,⟨none,.mv (.tmp 1),none⟩,⟨none,.mv (.var 0),some (.tmp 2,true)⟩,⟨none,.mv (.var 1),some (.tmp 2,true)⟩,⟨none,.bin .leq (.tmp 3) (.tmp 4),some (.tmp 2,true)⟩,⟨none,.pick (.tmp 2) (.tmp 5) (.cst (.bool false)),none⟩,⟨some 2,.mv (.tmp 6),none⟩]) .ret),[.tmp 2]⟩
theorem x9:aE Try.prog Try.f82 2 [0,1,4] [] true ([],[])=some tg:=by kernel_rfl
theorem KT:Try.prog.funcs[82]?=some Try.f82:=by kernel_rfl
def Iz:cr:=⟨2,3,.seq (.region [⟨some 2,.mv (.cst (.bool false)),none⟩]) (.seq (.region [⟨none,.mv (.var 0),none⟩,⟨none,.mv (.var 1),none⟩,⟨none,.call (.fn 95) [.tmp 0,.tmp 1],none⟩,⟨none,.bin .geq (.tmp 2) (.cst (.int .i64 0)),none⟩,⟨some 2,.mv (.tmp 3),none⟩]) .ret),[.tmp 2]⟩
theorem GI:aE Try.prog Try.f83 2 [0,1,4] [] true ([],[])=some Iz:=by kernel_rfl
theorem at39:Try.prog.funcs[83]?=some Try.f83:=by kernel_rfl
def zo:cr:=⟨2,4,.seq (.region [⟨some 2,.box (.var 0),none⟩,⟨some 3,.mv (.cst (.bool false)),none⟩]) (.seq (.region [⟨none,.load false 1 (.var 1),none⟩,⟨none,.fieldAddr 0 (.var 2),none⟩,⟨none,.load false 1 (.tmp 1),none⟩,⟨none,.call (.tmp 0) [.tmp 2,.cst (.int .i64 100000)],none⟩,⟨none,.un .not (.tmp 3),none⟩,⟨none,.mv (.tmp 4),none⟩,⟨none,.load false 1 (.var 1),some (.tmp 5,false)⟩,⟨none,.fieldAddr 1 (.var 2),some (.tmp 5,false)⟩,⟨none,.load false 1 (.tmp 7),some (.tmp 5,false)⟩,⟨none,.call (.tmp 6) [.tmp 8,.cst (.int .i64 100000)],some (.tmp 5,false)⟩,⟨none,.un .not (.tmp 9),some (.tmp 5,false)⟩,⟨none,.pick (.tmp 5) (.cst (.bool true)) (.tmp 10),none⟩,⟨some 3,.mv (.tmp 11),none⟩]) .ret),[.tmp 3]⟩
theorem x8:aE Try.prog Try.f84 2 [0,1,2,3] [] true ([],[])=some zo:=by kernel_rfl
theorem KS:Try.prog.funcs[84]?=some Try.f84:=by kernel_rfl
def xb:cr:=⟨2,3,.seq (.region [⟨some 2,.mv (.cst (.bool false)),none⟩]) (.seq (.region [⟨none,.mv (.var 0),none⟩,⟨none,.mv (.var 1),none⟩,⟨none,.call (.fn 85) [.tmp 0,.tmp 1],none⟩,⟨none,.bin .geq (.tmp 2) (.cst (.int .i64 0)),none⟩,⟨some 2,.mv (.tmp 3),none⟩]) .ret),[.tmp 2]⟩
theorem r9:aE Try.prog Try.f66 2 [0,1,4] [] true ([],[])=some xb:=by kernel_rfl
theorem G0:Try.prog.funcs[66]?=some Try.f66:=by kernel_rfl
def xa:cr:=⟨2,3,.seq (.region [⟨some 2,.mv (.cst (.bool false)),none⟩]) (.seq (.region [⟨none,.mv (.var 0),none⟩,⟨none,.load false 1 (.var 1),none⟩,⟨none,.call (.fn 68) [.tmp 0,.tmp 1],none⟩,⟨some 2,.mv (.tmp 2),none⟩]) .ret),[.tmp 2]⟩
theorem r8:aE Try.prog Try.f67 2 [0,1,3] [] true ([],[])=some xa:=by kernel_rfl
theorem GZ:Try.prog.funcs[67]?=some Try.f67:=by kernel_rfl
def ee:MC:=.seq (.region [⟨some 7,.bin .lss (.var 6) (.var 5),none⟩]) (.seq (.cond (.var 7) .skip (.exit 0)) (.seq (.seq (.block 1 (.seq (.region [⟨none,.mv (.var 6),none⟩,⟨some 3,.mv (.tmp 0),none⟩]) (.seq (.region [⟨none,.mv (.var 0),none⟩,⟨none,.mv (.var 3),none⟩,⟨none,.indexSl 1 (.tmp 0) (.tmp 1),none⟩,⟨none,.load false 1 (.tmp 2),none⟩,⟨none,.mv (.var 1),none⟩,⟨none,.mv (.var 3),none⟩,⟨none,.indexSl 1 (.tmp 4) (.tmp 5),none⟩,⟨none,.load false 1 (.tmp 6),none⟩,⟨some 8,.bin .neq (.tmp 3) (.tmp 7),none⟩]) (.cond (.var 8) (.seq (.region [⟨some 2,.mv (.cst (.bool false)),none⟩]) .ret) .skip)))) (.kill [2,3,4,7,8])) (.region [⟨none,.bin .add (.var 6) (.cst (.int .i64 1)),none⟩,⟨some 6,.mv (.tmp 0),none⟩])))
def zn:cr:=⟨2,9,.seq (.region [⟨some 2,.mv (.cst (.bool false)),none⟩]) (.seq (.seq (.region [⟨none,.mv (.var 0),none⟩,⟨none,.lenSl (.tmp 0),none⟩,⟨none,.mv (.var 1),none⟩,⟨none,.lenSl (.tmp 2),none⟩,⟨some 4,.bin .neq (.tmp 1) (.tmp 3),none⟩]) (.cond (.var 4) (.seq (.region [⟨some 2,.mv (.cst (.bool false)),none⟩]) .ret) .skip)) (.seq (.seq (.region [⟨none,.mv (.var 0),none⟩,⟨some 5,.lenSl (.tmp 0),none⟩,⟨some 6,.mv (.cst (.int .i64 0)),none⟩]) (.seq (.block 0 (.loop [2,3,4,7,8] ee)) (.kill [0,1,2,3,4,5,6,7,8]))) (.seq (.region [⟨some 2,.mv (.cst (.bool true)),none⟩]) .ret))),[.tmp 2]⟩
def dx:List Nat:=[2,3,4,7,8]
abbrev eK (v0 v1 v5 v6:AV):List AV:=[v0,v1,.undef,.undef,.undef,v5,v6,.undef,.undef]
theorem oq {v0 v1 d2 d3 d4 v5 v6 d7 d8:AV}:clear dx [v0,v1,d2,d3,d4,v5,v6,d7,d8]=eK v0 v1 v5 v6:=rfl
theorem rJ {E:Env} {fuel:Nat} {A:aa} {o:Out} {k:List KC} {v0 v1 d2 d3 d4 v5 v6 d7 d8:AV} (h:bZ (evC E fuel ee) dx fuel (eK v0 v1 v5 v6) A=some o) :
  run E fuel (.code (.loop [2,3,4,7,8] ee) :: k) [v0,v1,d2,d3,d4,v5,v6,d7,d8] A=after E fuel k o:=aU dx _ _ (by rw [oq]; exact h)
theorem x7:aE Try.prog Try.f68 2 [0,1,4,5,10,12,13,14,24] [] true ([[2,3,4,7,8]],[[2,3,4,7,8],[0,1,2,3,4,5,6,7,8]])=some zn:=by kernel_rfl
theorem KR:Try.prog.funcs[68]?=some Try.f68:=by kernel_rfl
def z9:cr:=⟨1,4,.seq (.region [⟨some 1,.box (.var 0),none⟩,⟨some 2,.mv (.cst (.int .i64 0)),none⟩]) (.seq (.seq (.region [⟨none,.fieldAddr 4 (.var 1),none⟩,⟨none,.load false 1 (.tmp 0),none⟩,⟨some 3,.bin .eql (.tmp 1) (.cst (.int .i64 2)),none⟩]) (.cond (.var 3) (.seq (.region [⟨none,.fieldAddr 1 (.var 1),none⟩,⟨none,.load false 1 (.tmp 0),none⟩,⟨none,.fieldAddr 2 (.var 1),none⟩,⟨none,.load false 1 (.tmp 2),none⟩,⟨none,.bin .add (.tmp 1) (.tmp 3),none⟩,⟨some 2,.mv (.tmp 4),none⟩]) .ret) .skip)) (.seq (.region [⟨none,.fieldAddr 1 (.var 1),none⟩,⟨none,.load false 1 (.tmp 0),none⟩,⟨none,.fieldAddr 3 (.var 1),none⟩,⟨none,.load false 1 (.tmp 2),none⟩,⟨none,.bin .add (.tmp 1) (.tmp 3),none⟩,⟨none,.fieldAddr 2 (.var 1),none⟩,⟨none,.load false 1 (.tmp 5),none⟩,⟨none,.bin .add (.tmp 4) (.tmp 6),none⟩,⟨some 2,.mv (.tmp 7),none⟩]) .ret)),[.tmp 2]⟩
theorem x6:aE Try.prog Try.f69 1 [0,1,2,5] [] true ([],[])=some z9:=by kernel_rfl
theorem KQ:Try.prog.funcs[69]?=some Try.f69:=by kernel_rfl
def wd:cr:=⟨2,2,.region [⟨none,.mv (.var 0),none⟩,⟨none,.mv (.var 0),none⟩,⟨none,.nilCheck (.tmp 1),none⟩,⟨none,.load false 1 (.tmp 2),none⟩,⟨none,.mv (.var 1),none⟩,⟨none,.append 4 32 (.tmp 3) (.tmp 4),none⟩,⟨none,.nilCheck (.tmp 0),none⟩,⟨none,.store 1 (.tmp 6) (.tmp 5),none⟩],[]⟩
theorem uR:aE Try.prog Try.f70 2 [0,1] [] true ([],[])=some wd:=by kernel_rfl
theorem H9:Try.prog.funcs[70]?=some Try.f70:=by kernel_rfl
def DF:cr:=⟨0,1,.seq (.region [⟨some 0,.allocA [.nilF,.nilF,.nilF],none⟩]) (.seq (.region [⟨none,.build [.nilF,.nilF,.nilF] [(1,(1,.fn 86)),(2,(1,.fn 87))],none⟩,⟨none,.storeA 3 (.var 0) (.tmp 0),none⟩]) .ret),[.cell 0 true 3]⟩
theorem x5:aE Try.prog Try.f71 0 [0] [] true ([],[])=some DF:=by kernel_rfl
theorem KP:Try.prog.funcs[71]?=some Try.f71:=by kernel_rfl
def iJ:MC:=.seq (.region [⟨some 6,.bin .lss (.var 5) (.var 4),none⟩]) (.seq (.cond (.var 6) .skip (.exit 0)) (.seq (.seq (.block 1 (.seq (.region [⟨none,.mv (.var 5),none⟩,⟨some 3,.mv (.tmp 0),none⟩]) (.seq (.region [⟨none,.mv (.var 1),none⟩,⟨none,.mv (.var 0),none⟩,⟨none,.mv (.var 3),none⟩,⟨none,.indexSl 1 (.tmp 1) (.tmp 2),none⟩,⟨none,.load false 1 (.tmp 3),none⟩,⟨some 7,.bin .eql (.tmp 0) (.tmp 4),none⟩]) (.cond (.var 7) (.seq (.region [⟨none,.mv (.var 3),none⟩,⟨some 2,.mv (.tmp 0),none⟩]) .ret) .skip)))) (.kill [2,3,6,7])) (.region [⟨none,.bin .add (.var 5) (.cst (.int .i64 1)),none⟩,⟨some 5,.mv (.tmp 0),none⟩])))
def HM:cr:=⟨2,8,.seq (.region [⟨some 2,.mv (.cst (.int .i64 0)),none⟩]) (.seq (.seq (.region [⟨none,.mv (.var 0),none⟩,⟨some 4,.lenSl (.tmp 0),none⟩,⟨some 5,.mv (.cst (.int .i64 0)),none⟩]) (.seq (.block 0 (.loop [2,3,6,7] iJ)) (.kill [0,1,2,3,4,5,6,7]))) (.seq (.region [⟨some 2,.mv (.cst (.int .i64 (-1))),none⟩]) .ret)),[.tmp 2]⟩
def gX:List Nat:=[2,3,6,7]
abbrev kV (v0 v1 v4 v5:AV):List AV:=[v0,v1,.undef,.undef,v4,v5,.undef,.undef]
theorem BS {v0 v1 d2 d3 v4 v5 d6 d7:AV}:clear gX [v0,v1,d2,d3,v4,v5,d6,d7]=kV v0 v1 v4 v5:=rfl
theorem Bw {E:Env} {fuel:Nat} {A:aa} {o:Out} {k:List KC} {v0 v1 d2 d3 v4 v5 d6 d7:AV} (h:bZ (evC E fuel iJ) gX fuel (kV v0 v1 v4 v5) A=some o) :
  run E fuel (.code (.loop [2,3,6,7] iJ) :: k) [v0,v1,d2,d3,v4,v5,d6,d7] A=after E fuel k o:=aU gX _ _ (by rw [BS]; exact h)
theorem Gw:aE Try.prog Try.f49 2 [0,1,4,5,7,8,9,16] [] true ([[2,3,6,7]],[[2,3,6,7],[0,1,2,3,4,5,6,7]])=some HM:=by kernel_rfl
theorem at64:Try.prog.funcs[49]?=some Try.f49:=by kernel_rfl
def iI:MC:=.seq (.region [⟨some 6,.bin .lss (.var 5) (.var 4),none⟩]) (.seq (.cond (.var 6) .skip (.exit 0)) (.seq (.seq (.block 1 (.seq (.region [⟨none,.mv (.var 5),none⟩,⟨some 3,.mv (.tmp 0),none⟩]) (.seq (.region [⟨none,.mv (.var 1),none⟩,⟨none,.mv (.var 0),none⟩,⟨none,.mv (.var 3),none⟩,⟨none,.indexSl 2 (.tmp 1) (.tmp 2),none⟩,⟨none,.load true 2 (.tmp 3),none⟩,⟨some 7,.call (.tmp 0) [.tmp 4],none⟩]) (.cond (.var 7) (.seq (.region [⟨none,.mv (.var 3),none⟩,⟨some 2,.mv (.tmp 0),none⟩]) .ret) .skip)))) (.kill [2,3,6,7])) (.region [⟨none,.bin .add (.var 5) (.cst (.int .i64 1)),none⟩,⟨some 5,.mv (.tmp 0),none⟩])))
def HL:cr:=⟨2,8,.seq (.region [⟨some 2,.mv (.cst (.int .i64 0)),none⟩]) (.seq (.seq (.region [⟨none,.mv (.var 0),none⟩,⟨some 4,.lenSl (.tmp 0),none⟩,⟨some 5,.mv (.cst (.int .i64 0)),none⟩]) (.seq (.block 0 (.loop [2,3,6,7] iI)) (.kill [0,1,2,3,4,5,6,7]))) (.seq (.region [⟨some 2,.mv (.cst (.int .i64 (-1))),none⟩]) .ret)),[.tmp 2]⟩
def gW:List Nat:=[2,3,6,7]
abbrev kU (v0 v1 v4 v5:AV):List AV:=[v0,v1,.undef,.undef,v4,v5,.undef,.undef]
theorem BR {v0 v1 d2 d3 v4 v5 d6 d7:AV}:clear gW [v0,v1,d2,d3,v4,v5,d6,d7]=kU v0 v1 v4 v5:=rfl
theorem Bv {E:Env} {fuel:Nat} {A:aa} {o:Out} {k:List KC} {v0 v1 d2 d3 v4 v5 d6 d7:AV} (h:bZ (evC E fuel iI) gW fuel (kU v0 v1 v4 v5) A=some o) :
  run E fuel (.code (.loop [2,3,6,7] iI) :: k) [v0,v1,d2,d3,v4,v5,d6,d7] A=after E fuel k o:=aU gW _ _ (by rw [BR]; exact h)
theorem Gv:aE Try.prog Try.f95 2 [0,1,4,5,7,8,9,16] [] true ([[2,3,6,7]],[[2,3,6,7],[0,1,2,3,4,5,6,7]])=some HL:=by kernel_rfl
theorem at65:Try.prog.funcs[95]?=some Try.f95:=by kernel_rfl
def iH:MC:=.seq (.region [⟨some 6,.bin .lss (.var 5) (.var 4),none⟩]) (.seq (.cond (.var 6) .skip (.exit 0)) (.seq (.seq (.block 1 (.seq (.region [⟨none,.mv (.var 5),none⟩,⟨some 3,.mv (.tmp 0),none⟩]) (.seq (.region [⟨none,.mv (.var 1),none⟩,⟨none,.mv (.var 0),none⟩,⟨none,.mv (.var 3),none⟩,⟨none,.indexSl 1 (.tmp 1) (.tmp 2),none⟩,⟨none,.load false 1 (.tmp 3),none⟩,⟨some 7,.call (.tmp 0) [.tmp 4],none⟩]) (.cond (.var 7) (.seq (.region [⟨none,.mv (.var 3),none⟩,⟨some 2,.mv (.tmp 0),none⟩]) .ret) .skip)))) (.kill [2,3,6,7])) (.region [⟨none,.bin .add (.var 5) (.cst (.int .i64 1)),none⟩,⟨some 5,.mv (.tmp 0),none⟩])))
def HK:cr:=⟨2,8,.seq (.region [⟨some 2,.mv (.cst (.int .i64 0)),none⟩]) (.seq (.seq (.region [⟨none,.mv (.var 0),none⟩,⟨some 4,.lenSl (.tmp 0),none⟩,⟨some 5,.mv (.cst (.int .i64 0)),none⟩]) (.seq (.block 0 (.loop [2,3,6,7] iH)) (.kill [0,1,2,3,4,5,6,7]))) (.seq (.region [⟨some 2,.mv (.cst (.int .i64 (-1))),none⟩]) .ret)),[.tmp 2]⟩
def gV:List Nat:=[2,3,6,7]
abbrev kT (v0 v1 v4 v5:AV):List AV:=[v0,v1,.undef,.undef,v4,v5,.undef,.undef]
theorem BQ {v0 v1 d2 d3 v4 v5 d6 d7:AV}:clear gV [v0,v1,d2,d3,v4,v5,d6,d7]=kT v0 v1 v4 v5:=rfl
theorem Bu {E:Env} {fuel:Nat} {A:aa} {o:Out} {k:List KC} {v0 v1 d2 d3 v4 v5 d6 d7:AV} (h:bZ (evC E fuel iH) gV fuel (kT v0 v1 v4 v5) A=some o) :
  run E fuel (.code (.loop [2,3,6,7] iH) :: k) [v0,v1,d2,d3,v4,v5,d6,d7] A=after E fuel k o:=aU gV _ _ (by rw [BQ]; exact h)
theorem Gu:aE Try.prog Try.f85 2 [0,1,4,5,7,8,9,16] [] true ([[2,3,6,7]],[[2,3,6,7],[0,1,2,3,4,5,6,7]])=some HK:=by kernel_rfl
theorem at66:Try.prog.funcs[85]?=some Try.f85:=by kernel_rfl
def HJ:cr:=⟨2,4,.seq (.region [⟨some 2,.alloc 3 (.agg [.int .i64 0,.int .i64 0,.int .i64 0]),none⟩]) (.seq (.seq (.region [⟨none,.mv (.var 0),none⟩,⟨none,.mv (.var 1),none⟩,⟨none,.call (.fn 49) [.tmp 0,.tmp 1],none⟩,⟨none,.mv (.var 0),none⟩,⟨none,.mv (.var 1),none⟩,⟨none,.bin .sub (.tmp 4) (.cst (.int .i64 1)),none⟩,⟨none,.call (.fn 49) [.tmp 3,.tmp 5],none⟩,⟨some 3,.bin .lss (.tmp 2) (.tmp 6),none⟩]) (.cond (.var 3) (.seq (.region [⟨none,.mv (.var 1),none⟩,⟨none,.bin .sub (.tmp 0) (.cst (.int .i64 1)),none⟩,⟨none,.mv (.var 1),none⟩,⟨none,.build [.int .i64 0,.int .i64 0,.int .i64 0] [(0,(1,.tmp 1)),(1,(1,.tmp 2)),(2,(1,.cst (.int .i64 1)))],none⟩,⟨none,.store 3 (.var 2) (.tmp 3),none⟩]) .ret) .skip)) (.seq (.region [⟨none,.mv (.var 1),none⟩,⟨none,.bin .sub (.tmp 0) (.cst (.int .i64 1)),none⟩,⟨none,.mv (.var 1),none⟩,⟨none,.build [.int .i64 0,.int .i64 0,.int .i64 0] [(0,(1,.tmp 1)),(1,(1,.tmp 2)),(2,(1,.cst (.int .i64 0)))],none⟩,⟨none,.store 3 (.var 2) (.tmp 3),none⟩]) .ret)),[.cell 2 true 3]⟩
theorem Gt:aE Try.prog Try.f86 2 [0,1,4,12] [] true ([],[])=some HJ:=by kernel_rfl
theorem at67:Try.prog.funcs[86]?=some Try.f86:=by kernel_rfl
def Iv:cr:=⟨2,3,.seq (.region [⟨some 2,.alloc 3 (.agg [.int .i64 0,.int .i64 0,.int .i64 0]),none⟩]) (.seq (.region [⟨none,.mv (.var 1),none⟩,⟨none,.mv (.var 1),none⟩,⟨none,.build [.int .i64 0,.int .i64 0,.int .i64 0] [(0,(1,.tmp 0)),(1,(1,.tmp 1)),(2,(1,.cst (.int .i64 1)))],none⟩,⟨none,.store 3 (.var 2) (.tmp 2),none⟩]) .ret),[.cell 2 true 3]⟩
theorem Gs:aE Try.prog Try.f87 2 [0,1,4] [] true ([],[])=some Iv:=by kernel_rfl
theorem at68:Try.prog.funcs[87]?=some Try.f87:=by kernel_rfl
end Clu
namespace Clu
open Go
open Cy (GC io cV bH bK cf aM be aA)
structure aR where
 ch:List (Int × Int)
 pick:Int
 place:Int
 travel:Int
 blades:Int
def chA (x:Int × Int):AV:=.agg [.int .i64 x.1,.int .i64 x.2]
def au (T:aR) (chv:AV):AV:=.agg [chv,.int .i64 T.pick,.int .i64 T.place,.int .i64 T.travel,.int .i64 T.blades]
def sw (x:Int × Int):Prop:=(0<=x.1/\x.1<=100000)/\0<=x.2/\x.2<=100000
instance (x:Int × Int):Decidable (sw x):=inferInstanceAs (Decidable (_/\_))
def a0 (T:aR):Prop:=(∀x∈T.ch,sw x)/\((0<=T.pick/\T.pick<=10000)/\(0<=T.place/\T.place<=10000)/\(0<=T.travel/\T.travel<=10000))/\1<=T.ch.length/\T.ch.length<=4/\(T.blades=1\/T.blades=2)
instance (T:aR):Decidable (a0 T):=inferInstanceAs (Decidable (_/\_))
def M38:aP:=fun args=>match args with
 | [.int .i64 n,.int .i64 hi]=>some (.bool (decide (0<=n) && decide (n<=hi)))
 | _=>none
theorem lj:an Try.prog GC 82 M38:=by
 refine an.of_ev (E:=ax GC []) (aq az) rfl KT x9 1 ?_
 intro args r h
 unfold M38 at h
 split at h
 ·rename_i n hi
  injection h with h; subst h
  refine ⟨0,?_⟩
  have b1:ag .geq (.int .i64 n) (.int .i64 0)=some (.bool (decide (0<=n))):=by simp [ag]
  have b2:ag .leq (.int .i64 n) (.int .i64 hi)=some (.bool (decide (n<=hi))):=by simp [ag]
  obtain ⟨p,hp⟩:∃p,p=decide (0<=n):=⟨_,rfl⟩
  obtain ⟨q,hq⟩:∃q,q=decide (n<=hi):=⟨_,rfl⟩
  rw [<-hp] at b1 ⊢
  rw [<-hq] at b2 ⊢
  rw [aK _ _ rfl]
  cases p <;> simp [tg,b1,b2,-ag]
 ·cases h
def zz:AV:=.func (.func 82) [] []
def wi:List (FuncId × aG):=[(82,aD 4 M38)]
@[simp] theorem Je:aC wi 82=some (aD 4 M38):=rfl
theorem sM:∀f M,aC wi f=some M->ak Try.prog GC f M:=af (ak.of_pure lj 4) az
def M40:aP:=fun args=>evP (ax GC wi) 0 zo 1 args
theorem nj:an Try.prog GC 84 M40:=an.of_ev (E:=ax GC wi) (aq sM) rfl KS x8 1 fun _ _ h=>⟨0,h⟩
theorem Fz (x:Int × Int):(!decide (sw x))=(!(decide (0<=x.1) && decide (x.1<=100000)) || !(decide (0<=x.2) && decide (x.2<=100000))):=by
 unfold sw
 by_cases h1:0<=x.1 <;> by_cases h2:x.1<=100000 <;> by_cases h3:0<=x.2 <;> by_cases h4:x.2<=100000 <;> simp [h1,h2,h3,h4]
theorem vo (x:Int × Int):M40 [chA x,.fp [zz]]=some (.bool (!decide (sw x))):=by
 obtain ⟨a,b⟩:=x
 rw [Fz]
 have m1:M38 [.int .i64 a,.int .i64 100000]=some (.bool (decide (0<=a) && decide (a<=100000))):=rfl
 have m2:M38 [.int .i64 b,.int .i64 100000]=some (.bool (decide (0<=b) && decide (b<=100000))):=rfl
 obtain ⟨p,hp⟩:∃p,p=(decide (0<=a) && decide (a<=100000)):=⟨_,rfl⟩
 obtain ⟨q,hq⟩:∃q,q=(decide (0<=b) && decide (b<=100000)):=⟨_,rfl⟩
 simp only
 rw [<-hp] at m1 ⊢
 rw [<-hq] at m2 ⊢
 unfold M40
 rw [aK _ _ rfl]
 cases p <;> simp [zo,chA,zz,m1,m2,frz]
def BG:List (FuncId × aG):=[(84,aD 4 M40)]
@[simp] theorem IT:aC BG 84=some (aD 4 M40):=rfl
theorem CM:∀f M,aC BG f=some M->ak Try.prog GC f M:=af (ak.of_pure nj 4) az
def M65:aP:=fun args=>evP (ax GC BG) 300 HL 1 args
theorem EW:an Try.prog GC 95 M65:=an.of_ev (E:=ax GC BG) (aq CM) rfl at65 Gv 1 fun _ _ h=>⟨300,h⟩
def eH (x:Int × Int):Bool:=!decide (sw x)
def de:AV:=.func (.func 84) [] [.fp [zz]]
theorem Hm {xs:List (Int × Int)} {b:AV} (hb:SlA 2 (xs.map chA) b) (hl:xs.length<=200):M65 [b,de]=some (.int .i64 (cV eH xs)):=by
 have hlen:=hb.len
 rw [List.length_map] at hlen
 have round:∀(A:aa) (i:Nat) (hi:i<xs.length),run (ax GC BG) 300 [.code iI] (kU b de (.int .i64 (xs.length:Int)) (.int .i64 (i:Int))) A =
   if eH xs[i]=false then some (.normal (kU b de (.int .i64 (xs.length:Int)) (.int .i64 ((i+1:Nat):Int))) A) else some (.ret [b,de,.int .i64 (i:Int),.int .i64 (i:Int),.int .i64 (xs.length:Int),.int .i64 (i:Int),.bool true,.bool true] A):=fun A i hi=>by
  have he:(xs.map chA)[i]?=some (chA xs[i]):=by simp [hi]
  have x1:=hb.index (A:=A) he rfl (by decide) .i64
  have ld:ac true 2 A (.fp (cellsOf (chA xs[i])))=some (chA xs[i]):=rfl
  obtain ⟨C,hC⟩:∃C,C=cellsOf (chA xs[i]):=⟨_,rfl⟩
  rw [<-hC] at x1 ld
  have m:=vo xs[i]
  have b1:=bp i xs.length .i64
  rw [decide_eq_true hi] at b1
  have b3:=a9 i (by omega)
  have fz:∀A,frz A 4 (chA xs[i])=chA xs[i]:=fun A=>rfl
  have fz2:∀A,frz A 4 (.fp [zz])=.fp [zz]:=fun A=>rfl
  obtain ⟨i1,hi1⟩:∃i1:Nat,i1=i+1:=⟨_,rfl⟩
  rw [<-hi1] at b3 ⊢
  obtain ⟨d,hd⟩:∃d,d=eH xs[i]:=⟨_,rfl⟩
  rw [show (!decide (sw xs[i]))=d from hd.symm] at m
  rw [<-hd]
  obtain ⟨c,hc⟩:∃c,c=chA xs[i]:=⟨_,rfl⟩
  rw [<-hc] at m ld fz
  cases d with
  | false=>simp [iI,de,x1,ld,m,fz,fz2,b1,b3,-frz,-ag,-ai,-aw,-ac]
  | true=>simp [iI,de,x1,ld,m,fz,fz2,b1,-frz,-ag,-ai,-aw,-ac]
 unfold M65
 rw [aK _ _ rfl]
 rcases cE (E:=ax GC BG) (fuel:=300) (a:=iI) (mask:=gW) (fun i=>kU b de (.int .i64 (xs.length:Int)) (.int .i64 (i:Int))) (fun _=>[]) xs.length (fun i=>¬ ∀hi:i<xs.length,eH xs[i]=false)
  (oF:=fun i=>.ret [b,de,.int .i64 (i:Int),.int .i64 (i:Int),.int .i64 (xs.length:Int),.int .i64 (i:Int),.bool true,.bool true] []) (oE:=.exit 0 ((kU b de (.int .i64 (xs.length:Int)) (.int .i64 (xs.length:Int))).set 6 (.bool false)) [])
  (fun _=>BR) (fun _ _ _ h=>by cases h) (fun _ _ h=>by cases h)
  (fun i hi hp=>by
   rw [round [] i hi]
   exact if_pos (Classical.not_not.1 hp hi))
  (fun i hi hp=>by
   rw [round [] i hi]
   exact if_neg fun h=>hp fun _=>h)
  (by simp [iI]) (show xs.length<300 by omega) with ⟨i,hi,hp,hj,lp⟩ | ⟨hp,lp⟩
 ·have lp:bZ (evC (ax GC BG) 300 iI) gW 300 (kU b de (.int .i64 (xs.length:Int)) (.int .i64 0)) []=_:=lp
  have e:cV eH xs=(i:Int):=bH hi (by
   cases h':eH xs[i] with
   | true=>rfl
   | false=>exact absurd (fun _=>h') hp) (fun j hj'=>Classical.not_not.1 (hj j hj') (by omega))
  rw [e]
  simp [HL,hlen,Bv lp,-ag,-aw]
 ·have lp:bZ (evC (ax GC BG) 300 iI) gW 300 (kU b de (.int .i64 (xs.length:Int)) (.int .i64 0)) []=_:=lp
  have e:cV eH xs = -1:=bK fun i hi=>Classical.not_not.1 (hp i hi) hi
  rw [e]
  simp [HL,hlen,Bv lp,-ag,-aw]
def HX:List (FuncId × aG):=[(95,aD 4 M65)]
@[simp] theorem Jh:aC HX 95=some (aD 4 M65):=rfl
theorem CX:∀f M,aC HX f=some M->ak Try.prog GC f M:=af (ak.of_pure EW 4) az
def M39:aP:=fun args=>evP (ax GC HX) 0 Iz 1 args
theorem E8:an Try.prog GC 83 M39:=an.of_ev (E:=ax GC HX) (aq CX) rfl at39 GI 1 fun _ _ h=>⟨0,h⟩
theorem Ht {xs:List (Int × Int)} {b:AV} (hb:SlA 2 (xs.map chA) b) (hl:xs.length<=200):M39 [b,de]=some (.bool (xs.any eH)):=by
 have h:=Hm hb hl
 have b1:=io (cV eH xs)
 rw [cf] at b1
 have f1:∀A n,frz A n b=b:=fun A n=>hb.frz n
 have f2:∀A,frz A 4 de=de:=fun A=>rfl
 obtain ⟨z,hz⟩:∃z,z=cV eH xs:=⟨_,rfl⟩
 rw [<-hz] at h b1
 unfold M39
 rw [aK _ _ rfl]
 simp [Iz,h,b1,f1,f2,be,-ag,-frz]
def xE:List (FuncId × aG):=[(82,aD 4 M38),(83,aD 4 M39)]
@[simp] theorem Kj:aC xE 82=some (aD 4 M38):=rfl
@[simp] theorem Ki:aC xE 83=some (aD 4 M39):=rfl
theorem sP:∀f M,aC xE f=some M->ak Try.prog GC f M:=af (ak.of_pure lj 4) (af (ak.of_pure E8 4) az)
def M16:aP:=fun args=>evP (ax GC xE) 0 pF 1 args
theorem lq:an Try.prog GC 62 M16:=an.of_ev (E:=ax GC xE) (aq sP) rfl G2 sb 1 fun _ _ h=>⟨0,h⟩
theorem Cw (T:aR):decide (a0 T)=(!(T.ch.any eH) && ((decide (0<=T.pick) && decide (T.pick<=10000)) && ((decide (0<=T.place) && decide (T.place<=10000)) && (decide (0<=T.travel) && decide (T.travel<=10000)))) && (decide (1<=T.ch.length) && (decide (T.ch.length<=4) && (decide (T.blades=1) || decide (T.blades=2))))):=by
 have e:(!(T.ch.any eH))=decide (∀x∈T.ch,sw x):=by
  rw [Bool.eq_iff_iff,decide_eq_true_eq,Bool.not_eq_true',List.any_eq_false]
  unfold eH
  simp
 rw [e]
 rw [Bool.eq_iff_iff,decide_eq_true_eq]
 unfold a0
 simp only [decide_eq_true_eq,Bool.and_eq_true,Bool.or_eq_true]
 constructor
 ·rintro ⟨h1,⟨h2,h3,h4⟩,h5,h6,h7⟩
  exact ⟨⟨h1,h2,h3,h4⟩,h5,h6,h7⟩
 ·rintro ⟨⟨h1,h2,h3,h4⟩,h5,h6,h7⟩
  exact ⟨h1,⟨h2,h3,h4⟩,h5,h6,h7⟩
theorem oC {T:aR} {chv:AV} (hb:SlA 2 (T.ch.map chA) chv) (hl:T.ch.length<=200):M16 [au T chv]=some (.bool (decide (a0 T))):=by
 obtain ⟨ch,pk,pl,tr,bl⟩:=T
 simp only at hb hl
 rw [Cw]
 simp only
 have hlen:=hb.len
 rw [List.length_map] at hlen
 have m:=Ht hb hl
 have f1:∀A n,frz A n chv=chv:=fun A n=>hb.frz n
 have m1:M38 [.int .i64 pk,.int .i64 10000]=some (.bool (decide (0<=pk) && decide (pk<=10000))):=rfl
 have m2:M38 [.int .i64 pl,.int .i64 10000]=some (.bool (decide (0<=pl) && decide (pl<=10000))):=rfl
 have m3:M38 [.int .i64 tr,.int .i64 10000]=some (.bool (decide (0<=tr) && decide (tr<=10000))):=rfl
 have b1:ag .geq (.int .i64 (ch.length:Int)) (.int .i64 1)=some (.bool (decide (1<=ch.length))):=by simp [ag]; omega
 have b2:ag .leq (.int .i64 (ch.length:Int)) (.int .i64 4)=some (.bool (decide (ch.length<=4))):=by simp [ag]; omega
 have b3:ag .eql (.int .i64 bl) (.int .i64 1)=some (.bool (decide (bl=1))):=by simp [ag]
 have b4:ag .eql (.int .i64 bl) (.int .i64 2)=some (.bool (decide (bl=2))):=by simp [ag]
 have fw:∀A:aa,A[1]?=some (.row 1 false [zz])->frz A 4 (.func (.func 84) [] [.ptr 1 0 0])=de:=fun A hA=>by simp [frz,hA,de,zz]
 have ld0:∀A:aa,A[0]?=some (.row 5 false [.agg [chv,.int .i64 pk,.int .i64 pl,.int .i64 tr,.int .i64 bl]])->ac false 1 A (.ptr 0 0 0)=some chv/\ac false 1 A (.ptr 0 0 1)=some (.int .i64 pk)/\ac false 1 A (.ptr 0 0 2)=some (.int .i64 pl)/\ac false 1 A (.ptr 0 0 3)=some (.int .i64 tr)/\ac false 1 A (.ptr 0 0 4)=some (.int .i64 bl):=fun A hA=>by
  refine ⟨?_,?_,?_,?_,?_⟩ <;> simp only [ac,hA] <;> rfl
 obtain ⟨l0,l1,l2,l3,l4⟩:=ld0 [.row 5 false [.agg [chv,.int .i64 pk,.int .i64 pl,.int .i64 tr,.int .i64 bl]],.row 1 false [zz]] rfl
 have fw':=fw [.row 5 false [.agg [chv,.int .i64 pk,.int .i64 pl,.int .i64 tr,.int .i64 bl]],.row 1 false [zz]] rfl
 rw [show au ⟨ch,pk,pl,tr,bl⟩ chv=.agg [chv,.int .i64 pk,.int .i64 pl,.int .i64 tr,.int .i64 bl] from rfl]
 unfold zz at l0 l1 l2 l3 l4 fw'
 have l5:ac false 1 [.row 5 false [.agg [chv,.int .i64 pk,.int .i64 pl,.int .i64 tr,.int .i64 bl]],.row 1 false [.func (.func 82) [] []]] (.ptr 1 0 0)=some (.func (.func 82) [] []):=rfl
 obtain ⟨d0,h0⟩:∃d,d=ch.any eH:=⟨_,rfl⟩
 obtain ⟨d1,h1⟩:∃d,d=(decide (0<=pk) && decide (pk<=10000)):=⟨_,rfl⟩
 obtain ⟨d2,h2⟩:∃d,d=(decide (0<=pl) && decide (pl<=10000)):=⟨_,rfl⟩
 obtain ⟨d3,h3⟩:∃d,d=(decide (0<=tr) && decide (tr<=10000)):=⟨_,rfl⟩
 obtain ⟨d4,h4⟩:∃d,d=decide (1<=ch.length):=⟨_,rfl⟩
 obtain ⟨d5,h5⟩:∃d,d=decide (ch.length<=4):=⟨_,rfl⟩
 obtain ⟨d6,h6⟩:∃d,d=decide (bl=1):=⟨_,rfl⟩
 obtain ⟨d7,h7⟩:∃d,d=decide (bl=2):=⟨_,rfl⟩
 rw [<-h0] at m ⊢
 rw [<-h1] at m1 ⊢
 rw [<-h2] at m2 ⊢
 rw [<-h3] at m3 ⊢
 rw [<-h4] at b1 ⊢
 rw [<-h5] at b2 ⊢
 rw [<-h6] at b3 ⊢
 rw [<-h7] at b4 ⊢
 unfold M16
 rw [aK _ _ rfl]
 cases d1
 ·cases d0 <;> simp [pF,m,m1,f1,fw',l0,l1,l5,aM,be,-frz,-ag,-aw,-ac]
 cases d2
 ·cases d0 <;> simp [pF,m,m1,m2,f1,fw',l0,l1,l2,l5,aM,be,-frz,-ag,-aw,-ac]
 cases d3
 ·cases d0 <;> simp [pF,m,m1,m2,m3,f1,fw',l0,l1,l2,l3,l5,aM,be,-frz,-ag,-aw,-ac]
 cases d0
 rotate_left
 ·simp [pF,m,m1,m2,m3,f1,fw',l0,l1,l2,l3,l5,aM,be,-frz,-ag,-aw,-ac]
 cases d4
 ·simp [pF,m,m1,m2,m3,b1,hlen,f1,fw',l0,l1,l2,l3,l5,aM,be,-frz,-ag,-aw,-ac]
 cases d5
 ·simp [pF,m,m1,m2,m3,b1,b2,hlen,f1,fw',l0,l1,l2,l3,l5,aM,be,-frz,-ag,-aw,-ac]
 cases d6 <;> simp [pF,m,m1,m2,m3,b1,b2,b3,b4,hlen,f1,fw',l0,l1,l2,l3,l4,l5,aM,be,-frz,-ag,-aw,-ac]
end Clu
namespace Clu
open Go
open Cy (GC io cV bH bK cf aM be aA)
theorem bD (a b:Int):ag .eql (.int .i64 a) (.int .i64 b)=some (.bool (decide (a=b))):=by simp [ag]
theorem cT (a b:Int):ag .neq (.int .i64 a) (.int .i64 b)=some (.bool (decide (a≠b))):=by simp [ag]
theorem a7 {a b:Int} (h : -9223372036854775808<=a+b/\a+b<=9223372036854775807):ag .add (.int .i64 a) (.int .i64 b)=some (.int .i64 (a+b)):=by
 simp only [ag]; rw [if_pos trivial,dQ h]
theorem b8 {a b:Int} (h : -9223372036854775808<=a-b/\a-b<=9223372036854775807):ag .sub (.int .i64 a) (.int .i64 b)=some (.int .i64 (a-b)):=by
 simp only [ag]; rw [if_pos trivial,dQ h]
theorem dU (a b:Int):ag .leq (.int .i64 a) (.int .i64 b)=some (.bool (decide (a<=b))):=by simp [ag]
theorem cH (a b:Int):ag .lss (.int .i64 a) (.int .i64 b)=some (.bool (decide (a<b))):=by simp [ag]
def M64:aP:=fun args=>evP (ax GC []) 300 HM 1 args
theorem t7:an Try.prog GC 49 M64:=an.of_ev (E:=ax GC []) (aq az) rfl at64 Gw 1 fun _ _ h=>⟨300,h⟩
def isI (v x:Int):Bool:=decide (v=x)
theorem p7 {xs:List Int} {b:AV} (hb:SlA 1 (aj xs) b) (hl:xs.length<=200) (v:Int):M64 [b,.int .i64 v]=some (.int .i64 (cV (isI v) xs)):=by
 have hlen:=hb.len
 rw [aA] at hlen
 have round:∀(A:aa) (i:Nat) (hi:i<xs.length),run (ax GC []) 300 [.code iJ] (kV b (.int .i64 v) (.int .i64 (xs.length:Int)) (.int .i64 (i:Int))) A =
   if isI v xs[i]=false then some (.normal (kV b (.int .i64 v) (.int .i64 (xs.length:Int)) (.int .i64 ((i+1:Nat):Int))) A) else some (.ret [b,.int .i64 v,.int .i64 (i:Int),.int .i64 (i:Int),.int .i64 (xs.length:Int),.int .i64 (i:Int),.bool true,.bool true] A):=fun A i hi=>by
  have x1:=hb.int (A:=A) _ _ (List.getElem?_eq_getElem hi) .i64
  have m:=bD v xs[i]
  have b1:=bp i xs.length .i64
  rw [decide_eq_true hi] at b1
  have b3:=a9 i (by omega)
  obtain ⟨i1,hi1⟩:∃i1:Nat,i1=i+1:=⟨_,rfl⟩
  rw [<-hi1] at b3 ⊢
  obtain ⟨d,hd⟩:∃d,d=isI v xs[i]:=⟨_,rfl⟩
  rw [show decide (v=xs[i])=d from hd.symm] at m
  rw [<-hd]
  cases d with
  | false=>simp [iJ,x1,m,b1,b3,-ag,-ai,-aw]
  | true=>simp [iJ,x1,m,b1,-ag,-ai,-aw]
 unfold M64
 rw [aK _ _ rfl]
 rcases cE (E:=ax GC []) (fuel:=300) (a:=iJ) (mask:=gX) (fun i=>kV b (.int .i64 v) (.int .i64 (xs.length:Int)) (.int .i64 (i:Int))) (fun _=>[]) xs.length (fun i=>¬ ∀hi:i<xs.length,isI v xs[i]=false)
  (oF:=fun i=>.ret [b,.int .i64 v,.int .i64 (i:Int),.int .i64 (i:Int),.int .i64 (xs.length:Int),.int .i64 (i:Int),.bool true,.bool true] []) (oE:=.exit 0 ((kV b (.int .i64 v) (.int .i64 (xs.length:Int)) (.int .i64 (xs.length:Int))).set 6 (.bool false)) [])
  (fun _=>BS) (fun _ _ _ h=>by cases h) (fun _ _ h=>by cases h)
  (fun i hi hp=>by
   rw [round [] i hi]
   exact if_pos (Classical.not_not.1 hp hi))
  (fun i hi hp=>by
   rw [round [] i hi]
   exact if_neg fun h=>hp fun _=>h)
  (by simp [iJ]) (show xs.length<300 by omega) with ⟨i,hi,hp,hj,lp⟩ | ⟨hp,lp⟩
 ·have lp:bZ (evC (ax GC []) 300 iJ) gX 300 (kV b (.int .i64 v) (.int .i64 (xs.length:Int)) (.int .i64 0)) []=_:=lp
  have e:cV (isI v) xs=(i:Int):=bH hi (by
   cases h':isI v xs[i] with
   | true=>rfl
   | false=>exact absurd (fun _=>h') hp) (fun j hj'=>Classical.not_not.1 (hj j hj') (by omega))
  rw [e]
  simp [HM,hlen,Bw lp,-ag,-aw]
 ·have lp:bZ (evC (ax GC []) 300 iJ) gX 300 (kV b (.int .i64 v) (.int .i64 (xs.length:Int)) (.int .i64 0)) []=_:=lp
  have e:cV (isI v) xs = -1:=bK fun i hi=>Classical.not_not.1 (hp i hi) hi
  rw [e]
  simp [HM,hlen,Bw lp,-ag,-aw]
def HZ:List (FuncId × aG):=[(49,aD 4 M64)]
@[simp] theorem Jj:aC HZ 49=some (aD 4 M64):=rfl
theorem CZ:∀f M,aC HZ f=some M->ak Try.prog GC f M:=af (ak.of_pure t7 4) az
def M35:aP:=fun args=>evP (ax GC HZ) 0 Et 1 args
theorem wF:an Try.prog GC 64 M35:=an.of_ev (E:=ax GC HZ) (aq CZ) rfl KU ya 1 fun _ _ h=>⟨0,h⟩
theorem Ei (v:Int) (xs:List Int):xs.any (isI v)=decide (v∈xs):=by
 rw [Bool.eq_iff_iff,List.any_eq_true,decide_eq_true_eq]
 unfold isI
 constructor
 ·rintro ⟨x,hx,h⟩
  rw [of_decide_eq_true h]; exact hx
 ·exact fun h=>⟨v,h,by simp⟩
theorem Hu {xs:List Int} {b:AV} (hb:SlA 1 (aj xs) b) (hl:xs.length<=200) (v:Int):M35 [b,.int .i64 v]=some (.bool (decide (v∈xs))):=by
 have h:=p7 hb hl v
 have b1:=io (cV (isI v) xs)
 rw [cf,Ei] at b1
 have f1:∀A n,frz A n b=b:=fun A n=>hb.frz n
 obtain ⟨z,hz⟩:∃z,z=cV (isI v) xs:=⟨_,rfl⟩
 rw [<-hz] at h b1
 obtain ⟨d,hd⟩:∃d,d=decide (v∈xs):=⟨_,rfl⟩
 rw [<-hd] at b1 ⊢
 unfold M35
 rw [aK _ _ rfl]
 simp [Et,h,b1,f1,aM,be,-ag,-frz]
def M43:aP:=fun args=>evP (ax GC []) 300 zn 1 args
theorem E7:an Try.prog GC 68 M43:=an.of_ev (E:=ax GC []) (aq az) rfl KR x7 1 fun _ _ h=>⟨300,h⟩
theorem vi {xs ys:List Int} {a b:AV} (ha:SlA 1 (aj xs) a) (hb:SlA 1 (aj ys) b) (hl:xs.length<=200):M43 [a,b]=some (.bool (decide (xs=ys))):=by
 have hla:=ha.len
 have hlb:=hb.len
 rw [aA] at hla hlb
 have b0:ag .neq (.int .i64 (xs.length:Int)) (.int .i64 (ys.length:Int))=some (.bool (decide (xs.length≠ys.length))):=by
  rw [cT]
  congr 2
  exact decide_eq_decide.2 (by omega)
 by_cases h0:xs.length≠ys.length
 ·rw [decide_eq_true h0] at b0
  rw [decide_eq_false (fun h=>h0 (by rw [h]))]
  unfold M43
  rw [aK _ _ rfl]
  simp [zn,hla,hlb,b0,-ag,-aw]
 have h0:xs.length=ys.length:=Classical.not_not.1 h0
 rw [decide_eq_false (by omega)] at b0
 have round:∀(A:aa) (i:Nat) (hi:i<xs.length),run (ax GC []) 300 [.code ee] (eK a b (.int .i64 (xs.length:Int)) (.int .i64 (i:Int))) A =
   if xs[i]=ys[i]'(by omega) then some (.normal (eK a b (.int .i64 (xs.length:Int)) (.int .i64 ((i+1:Nat):Int))) A) else some (.ret [a,b,.bool false,.int .i64 (i:Int),.undef,.int .i64 (xs.length:Int),.int .i64 (i:Int),.bool true,.bool true] A):=fun A i hi=>by
  have x1:=ha.int (A:=A) _ _ (List.getElem?_eq_getElem hi) .i64
  have x2:=hb.int (A:=A) _ _ (List.getElem?_eq_getElem (show i<ys.length by omega)) .i64
  have m:=cT xs[i] (ys[i]'(by omega))
  have b1:=bp i xs.length .i64
  rw [decide_eq_true hi] at b1
  have b3:=a9 i (by omega)
  obtain ⟨i1,hi1⟩:∃i1:Nat,i1=i+1:=⟨_,rfl⟩
  rw [<-hi1] at b3 ⊢
  by_cases hd:xs[i]=ys[i]'(by omega)
  ·rw [decide_eq_false (by simpa using hd)] at m
   rw [if_pos hd]
   simp [ee,x1,x2,m,b1,b3,-ag,-ai,-aw]
  ·rw [decide_eq_true (by simpa using hd)] at m
   rw [if_neg hd]
   simp [ee,x1,x2,m,b1,-ag,-ai,-aw]
 unfold M43
 rw [aK _ _ rfl]
 rcases cE (E:=ax GC []) (fuel:=300) (a:=ee) (mask:=dx) (fun i=>eK a b (.int .i64 (xs.length:Int)) (.int .i64 (i:Int))) (fun _=>[]) xs.length (fun i=>¬ ∀(hi:i<xs.length),xs[i]=ys[i]'(by omega))
  (oF:=fun i=>.ret [a,b,.bool false,.int .i64 (i:Int),.undef,.int .i64 (xs.length:Int),.int .i64 (i:Int),.bool true,.bool true] []) (oE:=.exit 0 ((eK a b (.int .i64 (xs.length:Int)) (.int .i64 (xs.length:Int))).set 7 (.bool false)) [])
  (fun _=>oq) (fun _ _ _ h=>by cases h) (fun _ _ h=>by cases h)
  (fun i hi hp=>by
   rw [round [] i hi]
   exact if_pos (Classical.not_not.1 hp hi))
  (fun i hi hp=>by
   rw [round [] i hi]
   exact if_neg fun h=>hp fun _=>h)
  (by simp [ee]) (show xs.length<300 by omega) with ⟨i,hi,hp,hj,lp⟩ | ⟨hp,lp⟩
 ·have lp:bZ (evC (ax GC []) 300 ee) dx 300 (eK a b (.int .i64 (xs.length:Int)) (.int .i64 0)) []=_:=lp
  rw [decide_eq_false (fun h=>hp (fun _=>by subst h; rfl))]
  simp [zn,hla,hlb,b0,rJ lp,-ag,-aw]
 ·have lp:bZ (evC (ax GC []) 300 ee) dx 300 (eK a b (.int .i64 (xs.length:Int)) (.int .i64 0)) []=_:=lp
  rw [decide_eq_true (List.ext_getElem h0 fun i h1 h2=>Classical.not_not.1 (hp i h1) h1)]
  simp [zn,hla,hlb,b0,rJ lp,-ag,-aw]
def H36:aG:=fun _=>bR (ax GC []) 0 Aa
theorem ua:ak Try.prog GC 65 H36:=(bP (aq az) rfl Ia uS bc.nil).y
theorem HB (h:aS) {A:aa} {id n:Nat} {gr:Bool} {es:List AV} (hA:A[id]?=some (.row 1 gr es)):H36 h [.sl id 0 n] A=some (.csl id 0 n,A):=by
 unfold H36
 rw [a6 _ _ rfl]
 have e:dA 1 A none (.int .i64 (n:Int)) (.int .i64 (n:Int)) (.sl id 0 n)=some (.csl id 0 n):=by
  simp [dA,bW,hA,cR,loB,hiB]
 simp [Aa,e,-dA,dK]
def M44:aP:=fun args=>evP (ax GC []) 0 z9 1 args
theorem wE:an Try.prog GC 69 M44:=an.of_ev (E:=ax GC []) (aq az) rfl KQ x6 1 fun _ _ h=>⟨0,h⟩
def ey (T:aR):Int:=if T.blades=2 then T.pick+T.place else T.pick+T.travel+T.place
theorem Hs {T:aR} (chv:AV) (h:a0 T):M44 [au T chv]=some (.int .i64 (ey T)):=by
 obtain ⟨_,⟨h1,h2,h3⟩,_⟩:=h
 obtain ⟨ch,pk,pl,tr,bl⟩:=T
 simp only at h1 h2 h3
 have b0:=bD bl 2
 have b1:=a7 (a:=pk) (b:=pl) (by omega)
 have b2:=a7 (a:=pk) (b:=tr) (by omega)
 have b3:=a7 (a:=pk+tr) (b:=pl) (by omega)
 rw [show au ⟨ch,pk,pl,tr,bl⟩ chv=.agg [chv,.int .i64 pk,.int .i64 pl,.int .i64 tr,.int .i64 bl] from rfl]
 have l:∀A:aa,A[0]?=some (.row 5 false [.agg [chv,.int .i64 pk,.int .i64 pl,.int .i64 tr,.int .i64 bl]])->ac false 1 A (.ptr 0 0 1)=some (.int .i64 pk)/\ac false 1 A (.ptr 0 0 2)=some (.int .i64 pl)/\ac false 1 A (.ptr 0 0 3)=some (.int .i64 tr)/\ac false 1 A (.ptr 0 0 4)=some (.int .i64 bl):=fun A hA=>by
  refine ⟨?_,?_,?_,?_⟩ <;> simp only [ac,hA] <;> rfl
 obtain ⟨l1,l2,l3,l4⟩:=l [.row 5 false [.agg [chv,.int .i64 pk,.int .i64 pl,.int .i64 tr,.int .i64 bl]]] rfl
 obtain ⟨s1,hs1⟩:∃s,s=pk+pl:=⟨_,rfl⟩
 obtain ⟨s2,hs2⟩:∃s,s=pk+tr:=⟨_,rfl⟩
 obtain ⟨s3,hs3⟩:∃s,s=s2+pl:=⟨_,rfl⟩
 rw [<-hs1] at b1
 rw [<-hs2] at b2 b3
 rw [<-hs3] at b3
 have e:ey ⟨ch,pk,pl,tr,bl⟩=if bl=2 then s1 else s3:=by
  unfold ey; simp only; rw [hs3,hs2,hs1]
 rw [e]
 unfold M44
 rw [aK _ _ rfl]
 by_cases hb:bl=2
 ·rw [decide_eq_true hb] at b0
  rw [if_pos hb]
  simp [z9,b0,b1,l1,l2,l4,-ag,-ac]
 ·rw [decide_eq_false hb] at b0
  rw [if_neg hb]
  simp [z9,b0,b2,b3,l1,l2,l3,l4,-ag,-ac]
end Clu
namespace Clu
open Go
open Cy (GC io cV bH bK cf aM be aA)
def ext (n:Nat) (one:Bool):Nat->List Int->List (List Int)
 | 0,_=>[]
 | k+1,b=>if b.length=n+1 then [b] else (List.range' 1 n).flatMap fun (i:Nat)=>if !decide ((i:Int)∈b) && (one || decide (i=b.length)) then ext n one k (b++[(i:Int)]) else []
def aH (T:aR):List (List Int):=if a0 T then ext T.ch.length (decide (T.blades=1)) (T.ch.length+1) [0] else []
theorem tG (n:Nat) (one:Bool) (hn:n<=4):∀(k:Nat) (b:List Int),(ext n one (k+1) b).length<=4 ^ k\/b.length+k<n+1
 | 0,b=>by
  unfold ext
  split
  ·left; simp
  ·by_cases h:b.length+0<n+1
   ·exact .inr h
   ·left
    rw [List.flatMap_eq_nil_iff.2 fun i _=>by split <;> rfl]
    simp
 | k+1,b=>by
  by_cases h:b.length+(k+1)<n+1
  ·exact .inr h
  left
  rw [ext]
  split
  ·have:1<=4 ^ (k+1):=Nat.one_le_pow _ _ (by omega)
   simpa using this
  ·have key:∀l:List Nat,(l.flatMap fun (i:Nat)=>if !decide ((i:Int)∈b) && (one || decide (i=b.length)) then ext n one (k+1) (b++[(i:Int)]) else []).length<=l.length*4 ^ k:=fun l=>by
    induction l with
    | nil=>simp
    | cons i l ih=>
     rw [List.flatMap_cons,List.length_append,List.length_cons,Nat.add_mul,Nat.one_mul]
     have:(if !decide ((i:Int)∈b) && (one || decide (i=b.length)) then ext n one (k+1) (b++[(i:Int)]) else []).length<=4 ^ k:=by
      split
      ·rcases tG n one hn k (b++[(i:Int)]) with h1 | h1
       ·exact h1
       ·simp at h1; omega
      ·simp
     omega
   refine Nat.le_trans (key _) ?_
   rw [List.length_range',Nat.pow_succ,Nat.mul_comm]
   exact Nat.mul_le_mul_left _ hn
def iF:Ent->Prop
 | .row _ _ (e :: _)=>(∀a b c,e≠.sl a b c)/\e≠.nilS
 | _=>False
def pa (A B:aa):Prop:=A.length<=B.length/\∀(j:Nat) (e:Ent),A[j]?=some e->iF e->B[j]?=some e
theorem pa.refl (A:aa):pa A A:=⟨Nat.le_refl _,fun _ _ h _=>h⟩
theorem pa.trans {A B C:aa} (h:pa A B) (k:pa B C):pa A C:=⟨Nat.le_trans h.1 k.1,fun j e h1 h2=>k.2 j e (h.2 j e h1 h2) h2⟩
theorem pa.app (A:aa) (X:aa):pa A (A++X):=⟨by simp,fun j e h _=>by
 have:=(List.getElem?_eq_some_iff.1 h).1
 rw [List.getElem?_append_left this]; exact h⟩
theorem kC {l:List Int} (h:l≠[]) (s:Nat) (g:Bool):iF (.row s g (aj l)):=by
 cases l with
 | nil=>exact absurd rfl h
 | cons x r=>simp [iF,aj]
theorem lz (s:Nat) (g:Bool) (a b c:Nat) (r:List AV):¬ iF (.row s g (.sl a b c :: r)):=fun h=>h.1 a b c rfl
def zK (x:Nat × List Int):AV:=.sl x.1 0 x.2.length
def En (A:aa) (op:Nat) (v:AV) (pl:List (Nat × List Int)):Prop:=
 (∀x∈pl,x.2≠[]/\A[x.1]?=some (.row 1 false (aj x.2)))/\((v=.nilS/\pl=[])\/∃id gr,v=.sl id 0 pl.length/\id≠op/\pl≠[]/\A[id]?=some (.row 1 gr (pl.map zK)))
def jr (A:aa) (op:Nat) (ll:List (List Int)):Prop:=∃v pl,pl.map (·.2)=ll/\A[op]?=some (.row 1 false [v])/\En A op v pl
theorem jr.app {A:aa} {op:Nat} {ll:List (List Int)} (h:jr A op ll) (X:aa):jr (A++X) op ll:=by
 obtain ⟨v,pl,h1,h2,h3,h4⟩:=h
 have st:=(pa.app A X).2
 have hk:∀(j:Nat) (e:Ent),A[j]?=some e->(A++X)[j]?=some e:=fun j e h=>by
  rw [List.getElem?_append_left (List.getElem?_eq_some_iff.1 h).1]; exact h
 refine ⟨v,pl,h1,hk _ _ h2,fun x hx=>⟨(h3 x hx).1,hk _ _ (h3 x hx).2⟩,?_⟩
 rcases h4 with h4 | ⟨id,gr,h4,h5,h6,h7⟩
 ·exact .inl h4
 ·exact .inr ⟨id,gr,h4,h5,h6,hk _ _ h7⟩
theorem gS {A:aa} {op:Nat} {v:AV} (h:A[op]?=some (.row 1 false [v])) (hv:v=.nilS\/∃a b c,v=.sl a b c):ac false 1 A (.ptr op 0 0)=some v:=by
 rcases hv with rfl | ⟨a,b,c,rfl⟩ <;> simp [h]
theorem En.form {A:aa} {op:Nat} {v:AV} {pl:List (Nat × List Int)} (h:En A op v pl):v=.nilS\/∃a b c,v=.sl a b c:=by
 rcases h.2 with h | ⟨id,gr,h,_⟩
 ·exact .inl h.1
 ·exact .inr ⟨_,_,_,h⟩
theorem jr.add {A:aa} {op:Nat} {ll:List (List Int)} (h:jr A op ll) {l:List Int} (hl:l≠[]) (hb:ll.length<=100000) {r y:Nat} (hr:A[r]?=some (.row 1 false (aj l))) (hy:A[y]?=some (.row 1 false [.sl r 0 l.length])) (hyo:y≠op) :
  ∃v id n A3,A[op]?=some (.row 1 false [v])/\(v=.nilS\/∃a b c,v=.sl a b c)/\aN 1 24 A v (.sl y 0 1)=some (.sl id 0 n,A3)/\A3[op]?=some (.row 1 false [v]) /\
   jr (A3.set op (.row 1 false [.sl id 0 n])) op (ll++[l])/\pa A (A3.set op (.row 1 false [.sl id 0 n])):=by
 obtain ⟨v,pl,h1,h2,h3⟩:=h
 have hf:=h3.form
 obtain ⟨h3,h4⟩:=h3
 have hsrc:aO 1 A (.sl y 0 1)=some [.sl r 0 l.length]:=by simp [aO,hy]
 have hop:op<A.length:=(List.getElem?_eq_some_iff.1 h2).1
 have hnp:¬ iF (.row 1 false [v]):=by
  rcases hf with rfl | ⟨a,b,c,rfl⟩
  ·exact fun h=>h.2 rfl
  ·exact lz _ _ _ _ _ _
 have hne:∀j (m:List Int),m≠[]->A[j]?=some (.row 1 false (aj m))->j≠op:=fun j m hm hj e=>by
  subst e
  rw [h2] at hj
  injection hj with hj
  exact hnp (hj ▸ kC hm 1 false)
 have hll:pl.length=ll.length:=by rw [<-h1]; simp
 rcases h4 with ⟨rfl,rfl⟩ | ⟨id,gr,rfl,hid,hpl,hrow⟩
 ·have ho:(A++[Ent.row 1 false [AV.sl r 0 l.length]])[op]?=some (.row 1 false [.nilS]):=by rw [List.getElem?_append_left hop]; exact h2
  refine ⟨.nilS,A.length,1,A++[.row 1 false [.sl r 0 l.length]],h2,.inl rfl,?_,ho,?_,?_⟩
  ·unfold aN; rw [hsrc]; simp
  ·have hset:∀j,j≠op->((A++[Ent.row 1 false [AV.sl r 0 l.length]]).set op (.row 1 false [.sl A.length 0 1]))[j]?=(A++[Ent.row 1 false [AV.sl r 0 l.length]])[j]?:=fun j hj=>List.getElem?_set_ne (fun e=>hj e.symm)
   refine ⟨.sl A.length 0 1,[(r,l)],by rw [<-h1]; rfl,by rw [List.getElem?_set_self (by simp; omega)],fun x hx=>?_,.inr ⟨A.length,false,rfl,by omega,by simp,?_⟩⟩
   ·rw [List.mem_singleton] at hx
    subst hx
    refine ⟨hl,?_⟩
    rw [hset _ (hne _ _ hl hr),List.getElem?_append_left (List.getElem?_eq_some_iff.1 hr).1]
    exact hr
   ·rw [hset _ (by omega)]
    simp [zK]
  ·refine ⟨by simp,fun j e hj he=>?_⟩
   have:j≠op:=fun e'=>by
    subst e'; rw [h2] at hj; injection hj with hj; exact hnp (hj ▸ he)
   rw [List.getElem?_set_ne (fun e'=>this e'.symm),List.getElem?_append_left (List.getElem?_eq_some_iff.1 hj).1]
   exact hj
 ·have hidl:id<A.length:=(List.getElem?_eq_some_iff.1 hrow).1
  have hlen:0<pl.length:=List.length_pos_iff.2 hpl
  have hnp2:¬ iF (.row 1 gr (pl.map zK)):=by
   cases pl with
   | nil=>exact absurd rfl hpl
   | cons x r=>exact lz _ _ _ _ _ _
  have hnid:∀j (m:List Int),m≠[]->A[j]?=some (.row 1 false (aj m))->j≠id:=fun j m hm hj e=>by
   subst e
   rw [hrow] at hj
   injection hj with hj
   exact hnp2 (hj ▸ kC hm 1 false)
  refine ⟨.sl id 0 pl.length,id,pl.length+1,A.set id (.row 1 true (pl.map zK++[.sl r 0 l.length])),h2,.inr ⟨_,_,_,rfl⟩,?_,?_,?_,?_⟩
  ·have hz:pl.length≠0:=by omega
   have hb2:(pl.length+1)*24<=140737488355328:=by omega
   unfold aN; rw [hsrc]; simp [hrow,hz,hb2]
  ·rw [List.getElem?_set_ne hid]; exact h2
  ·have hset:∀j,j≠op->j≠id->((A.set id (Ent.row 1 true (pl.map zK++[AV.sl r 0 l.length]))).set op (.row 1 false [.sl id 0 (pl.length+1)]))[j]?=A[j]?:=fun j hj hj2=>by
    rw [List.getElem?_set_ne (fun e=>hj e.symm),List.getElem?_set_ne (fun e=>hj2 e.symm)]
   refine ⟨.sl id 0 (pl.length+1),pl++[(r,l)],by rw [<-h1]; simp,by rw [List.getElem?_set_self (by simpa using hop)],fun x hx=>?_,.inr ⟨id,true,by simp,hid,by simp,?_⟩⟩
   ·rcases List.mem_append.1 hx with hx | hx
    ·have:=h3 x hx
     exact ⟨this.1,by rw [hset _ (hne _ _ this.1 this.2) (hnid _ _ this.1 this.2)]; exact this.2⟩
    ·rw [List.mem_singleton] at hx
     subst hx
     exact ⟨hl,by rw [hset _ (hne _ _ hl hr) (hnid _ _ hl hr)]; exact hr⟩
   ·rw [List.getElem?_set_ne (fun e=>hid e.symm),List.getElem?_set_self hidl,List.map_append]
    rfl
  ·refine ⟨by simp,fun j e hj he=>?_⟩
   have n1:j≠op:=fun e'=>by
    subst e'; rw [h2] at hj; injection hj with hj; exact hnp (hj ▸ he)
   have n2:j≠id:=fun e'=>by
    subst e'; rw [hrow] at hj; injection hj with hj; exact hnp2 (hj ▸ he)
   rw [List.getElem?_set_ne (fun e=>n1 e.symm),List.getElem?_set_ne (fun e=>n2 e.symm)]
   exact hj
end Clu
namespace Clu
open Go
open Cy (GC io cV bH bK cf aM be aA)
def lw (np op cp ep:Nat):AV:=.func (.func 63) [] [.ptr np 0 0,.ptr op 0 0,.ptr cp 0 0,.ptr ep 0 0]
structure X34 (A:aa) (np op cp ep n:Nat) (T:aR) (chv:AV):Prop where
 hn:A[np]?=some (.row 1 false [.int .i64 (n:Int)])
 hc:A[cp]?=some (.row 5 false [au T chv])
 he:A[ep]?=some (.row 1 false [lw np op cp ep])
theorem X34.step {A B:aa} {np op cp ep n:Nat} {T:aR} {chv:AV} (h:X34 A np op cp ep n T chv) (s:pa A B):X34 B np op cp ep n T chv:=
 ⟨s.2 _ _ h.hn (by simp [iF]),s.2 _ _ h.hc (by simp [iF,au]),s.2 _ _ h.he (by simp [iF,lw])⟩
def tz:List (FuncId × aG):=[(64,aD 4 M35),(65,H36)]
def H34:Nat->aG
 | 0=>fun h=>bR (dq GC tz h) 40 sB
 | k+1=>fun h=>bR (dq GC ((63,H34 k) :: tz) h) 40 sB
theorem ug:∀f M,aC tz f=some M->ak Try.prog GC f M:=af (ak.of_pure wF 4) (af ua az)
theorem nk:∀k,ak Try.prog GC 63 (H34 k)
 | 0=>bV ug EF pW
 | k+1=>bV (af (nk k) ug) EF pW
theorem j7 {A:aa} {id:Nat} {g:Bool} {b:List Int} (h:A[id]?=some (.row 1 g (aj b))) (n:Nat):frz A (n+1) (.sl id 0 b.length)=.fs 1 (aj b):=by
 have e:((aj b).drop 0).take b.length=aj b:=by
  rw [List.drop_zero,<-aA b,List.take_length]
 have hm:∀l:List Int,(aj l).map (frz A n)=aj l:=fun l=>by
  unfold aj
  rw [List.map_map]
  exact List.map_congr_left fun x _=>aM A n .i64 x
 simp only [frz,h]
 rw [e,hm]
theorem Bo (fs:List (FuncId × aG)) (h:aS) {A:aa} {np op cp ep n id:Nat} {T:aR} {chv:AV} (hX:X34 A np op cp ep n T chv) {ll:List (List Int)} (ho:jr A op ll) {b:List Int} (hb:A[id]?=some (.row 1 false (aj b))) (hlen:b.length=n+1) (hn4:n<=4) (hll:ll.length<=100000) :
  ∃B,bR (dq GC fs h) 40 sB [.sl id 0 b.length,.ptr np 0 0,.ptr op 0 0,.ptr cp 0 0,.ptr ep 0 0] A=some (.tup [],B)/\jr B op (ll++[b])/\pa A B:=by
 have hbne:b≠[]:=fun e=>by rw [e] at hlen; simp at hlen
 have l0:ac false 1 A (.ptr np 0 0)=some (.int .i64 (n:Int)):=by simp [hX.hn]
 have b1:=a9 n (by omega)
 have b2:ag .eql (.int .i64 (b.length:Int)) (.int .i64 ((n+1:Nat):Int))=some (.bool true):=by rw [bD,decide_eq_true (by omega)]
 have e1:cg 1 8 (.int .i64 0) A (.int .i64 ((n+1:Nat):Int)) (.int .i64 ((n+1:Nat):Int))=some (.sl A.length 0 b.length,A++[.row 1 false (List.replicate b.length (.int .i64 0))]):=by
  rw [hlen]
  simp only [cg]
  rw [if_pos ⟨by omega,by omega,by omega,by omega,rfl,rfl,by omega⟩]
  simp
 have e2:lS 1 (A++[.row 1 false (List.replicate b.length (.int .i64 0))]) (.sl A.length 0 b.length) (.sl id 0 b.length)=some (.int .i64 (b.length:Int),A++[.row 1 false (aj b)]):=by
  have hs:aO 1 (A++[Ent.row 1 false (List.replicate b.length (AV.int .i64 0))]) (.sl id 0 b.length)=some (aj b):=by
   rw [sL (gr:=false) (es:=aj b) (by rw [List.getElem?_append_left (List.getElem?_eq_some_iff.1 hb).1]; exact hb)]
   rw [List.drop_zero,<-aA b,List.take_length]
  simp only [lS,hs]
  rw [List.getElem?_concat_length]
  simp only
  rw [if_pos ⟨trivial,by omega,trivial⟩,aA,Nat.min_self]
  congr 2
  rw [List.set_append_right _ _ (Nat.le_refl _),Nat.sub_self]
  simp only [List.set_cons_zero,List.take_zero,List.nil_append,Nat.zero_add]
  rw [<-aA b,List.take_length,List.drop_of_length_le (by simp),List.append_nil]
 obtain ⟨A1,hA1⟩:∃X,X=A++[Ent.row 1 false (aj b)]:=⟨_,rfl⟩
 have hl1:A1.length=A.length+1:=by rw [hA1]; simp
 have e3:bj 1 [.sl A.length 0 b.length] A1=some (.sl (A.length+1) 0 1,A1++[.row 1 false [.sl A.length 0 b.length]]):=by
  simp [bj,hl1]
 have hop:op<A.length:=by obtain ⟨v,pl,_,h2,_⟩:=ho; exact (List.getElem?_eq_some_iff.1 h2).1
 have ho2:jr (A1++[.row 1 false [.sl A.length 0 b.length]]) op ll:=by rw [hA1]; exact (ho.app _).app _
 obtain ⟨v,id2,n2,A3,k1,k2,k3,k4,k5,k6⟩:=ho2.add hbne hll (r:=A.length) (y:=A.length+1) (by rw [hA1]; simp) (by rw [hA1]; simp) (by omega)
 have l1:ac false 1 A1 (.ptr op 0 0)=some v:=gS (by rw [<-k1,List.getElem?_append_left (by omega)]) k2
 have e5:aB 1 A3 (.ptr op 0 0) (.sl id2 0 n2)=some (A3.set op (.row 1 false [.sl id2 0 n2])):=by
  rcases k2 with rfl | ⟨_,_,_,rfl⟩ <;> simp [k4]
 obtain ⟨A2,hA2⟩:∃X,X=A1++[Ent.row 1 false [.sl A.length 0 b.length]]:=⟨_,rfl⟩
 obtain ⟨B,hB⟩:∃X,X=A3.set op (.row 1 false [.sl id2 0 n2]):=⟨_,rfl⟩
 obtain ⟨A0,hA0⟩:∃X,X=A++[Ent.row 1 false (List.replicate b.length (AV.int .i64 0))]:=⟨_,rfl⟩
 have hst:pa A A2:=by rw [hA2,hA1,List.append_assoc]; exact pa.app _ _
 rw [<-hA2] at e3 k3 k6
 rw [<-hB] at e5 k5 k6
 rw [<-hA0] at e1 e2
 rw [<-hA1] at e2
 refine ⟨B,?_,k5,hst.trans k6⟩
 rw [a6 _ _ rfl]
 obtain ⟨n1,hn1⟩:∃x,x=n+1:=⟨_,rfl⟩
 rw [<-hn1] at b1 b2 e1
 obtain ⟨bl,hbl⟩:∃x,x=b.length:=⟨_,rfl⟩
 rw [<-hbl] at b2 e1 e2 e3 ⊢
 obtain ⟨r1,hr1⟩:∃x,x=A.length:=⟨_,rfl⟩
 rw [<-hr1] at e1 e2 e3 k3
 obtain ⟨r2,hr2⟩:∃x,x=r1+1:=⟨_,rfl⟩
 rw [<-hr2] at e3 k3
 simp [sB,l0,l1,b1,b2,e1,e2,e3,k3,e5,-ag,-ac,-aB,-cg,-bj]
theorem tP {A:aa} {id:Nat} {g:Bool} {b:List Int} (h:A[id]?=some (.row 1 g (aj b))) (hb:b.length<=1000) (x:Int):ck 1 8 A (.csl id 0 b.length) (.fs 1 [.int .i64 x])=some (.sl A.length 0 (b.length+1),A++[.row 1 false (aj (b++[x]))]):=by
 have e:((aj b).drop 0).take b.length=aj b:=by
  rw [List.drop_zero,<-aA b,List.take_length]
 have hb2:(b.length+1)*8<=140737488355328:=by omega
 simp only [ck,cY,h,e]
 rw [if_pos ⟨trivial,by omega,by omega,by simp,by simpa using hb2⟩]
 simp [aj]
theorem sY {h:aS} {fs:List (FuncId × aG)} {H:aG} (hH:aC fs 63=some H) (h35:aC fs 64=some (aD 4 M35)) (h36:aC fs 65=some H36) {A:aa} {np op cp ep n id:Nat} {T:aR} {chv:AV} (hX:X34 A np op cp ep n T chv) {b:List Int} (hb:A[id]?=some (.row 1 false (aj b))) (hbl:b.length<=100) {i:Nat} (hi:i<=n) (hn4:n<=4) {B:aa}
  (hr:(!decide ((i:Int)∈b) && (decide (T.blades=1) || decide (i=b.length)))=true->H h [.sl A.length 0 (b.length+1),.ptr np 0 0,.ptr op 0 0,.ptr cp 0 0,.ptr ep 0 0] (A++[.row 1 false (aj (b++[(i:Int)]))])=some (.tup [],B))
  (hr0:(!decide ((i:Int)∈b) && (decide (T.blades=1) || decide (i=b.length)))=false->B=A) (hkeep:B[ep]?=A[ep]?) :
  run (dq GC fs h) 40 [.code dp] (ge (.sl id 0 b.length) (.ptr np 0 0) (.ptr cp 0 0) (.ptr ep 0 0) (.int .i64 (i:Int))) A=some (.normal (ge (.sl id 0 b.length) (.ptr np 0 0) (.ptr cp 0 0) (.ptr ep 0 0) (.int .i64 ((i+1:Nat):Int))) B):=by
 obtain ⟨ch,pk,pl,tr,bd⟩:=T
 have l0:ac false 1 A (.ptr np 0 0)=some (.int .i64 (n:Int)):=by simp [hX.hn]
 have hc:A[cp]?=some (.row 5 false [.agg [chv,.int .i64 pk,.int .i64 pl,.int .i64 tr,.int .i64 bd]]):=hX.hc
 have l1:ac false 1 A (.ptr cp 0 4)=some (.int .i64 bd):=by simp [hc]
 have l2:ac false 1 A (.ptr ep 0 0)=some (lw np op cp ep):=by simp [hX.he,lw]
 have b0:ag .leq (.int .i64 (i:Int)) (.int .i64 (n:Int))=some (.bool true):=by rw [dU,decide_eq_true (by omega)]
 have b3:=a9 i (by omega)
 have f1:=j7 hb 3
 have f2:∀A,frz A 4 (.int .i64 (i:Int))=.int .i64 (i:Int):=fun A=>aM A 4 .i64 i
 have m:=Hu (xs:=b) (b:=.fs 1 (aj b)) (.inr rfl) (by omega) (i:Int)
 have b1:ag .eql (.int .i64 bd) (.int .i64 1)=some (.bool (decide (bd=1))):=bD _ _
 have b2:ag .eql (.int .i64 (i:Int)) (.int .i64 (b.length:Int))=some (.bool (decide (i=b.length))):=by
  rw [bD]; congr 2; exact decide_eq_decide.2 (by omega)
 have c1:=HB h (n:=b.length) hb
 have c2:=tP hb (by omega) (i:Int)
 have ne1:¬ ep=A.length:=by have:=(List.getElem?_eq_some_iff.1 hX.he).1; omega
 have ne2:¬ ep=id:=fun e=>by
  have h1:=hX.he
  rw [e,hb] at h1
  injection h1 with h1
  injection h1 with _ _ h1
  cases b with
  | nil=>cases h1
  | cons x r=>injection h1 with h1; cases h1
 simp only at hr hr0
 obtain ⟨i1,hi1⟩:∃i1:Nat,i1=i+1:=⟨_,rfl⟩
 rw [<-hi1] at b3 ⊢
 obtain ⟨d1,h1⟩:∃d,d=decide ((i:Int)∈b):=⟨_,rfl⟩
 rw [<-h1] at m hr hr0
 obtain ⟨d2,h2⟩:∃d,d=decide (bd=1):=⟨_,rfl⟩
 rw [<-h2] at b1 hr hr0
 obtain ⟨d3,h3⟩:∃d,d=decide (i=b.length):=⟨_,rfl⟩
 rw [<-h3] at b2 hr hr0
 obtain ⟨A1,hA1⟩:∃X,X=A++[Ent.row 1 false (aj (b++[(i:Int)]))]:=⟨_,rfl⟩
 have k1:A1[ep]?=A[ep]?:=by rw [hA1,List.getElem?_append_left (List.getElem?_eq_some_iff.1 hX.he).1]
 rw [<-hA1] at c2 hr
 obtain ⟨r,hrr⟩:∃x,x=A.length:=⟨_,rfl⟩
 rw [<-hrr] at c2 hr
 obtain ⟨bl,hbl⟩:∃x,x=b.length:=⟨_,rfl⟩
 rw [<-hbl] at b2 c1 c2 f1 hr ⊢
 obtain ⟨bl1,hbl1⟩:∃x,x=bl+1:=⟨_,rfl⟩
 rw [<-hbl1] at c2 hr
 obtain ⟨F,hF⟩:∃x,x=AV.fs 1 (aj b):=⟨_,rfl⟩
 rw [<-hF] at m f1
 cases d1 with
 | true=>
  have:=hr0 rfl; subst this
  cases d2 <;> cases d3 <;> simp [dp,l0,b0,b3,f1,f2,h35,m,-frz,-ag,-ac]
 | false=>
  cases d2 with
  | true=>
   have hr:=hr rfl
   simp [dp,l0,l1,l2,b0,b1,b3,f1,f2,h35,h36,hH,m,hc,c1,c2,hr,lw,ne1,ne2,-frz,-ag,-ac]
  | false=>
   cases d3 with
   | true=>
    have hr:=hr rfl
    simp [dp,l0,l1,l2,b0,b1,b2,b3,f1,f2,h35,h36,hH,m,hc,c1,c2,hr,lw,ne1,ne2,-frz,-ag,-ac]
   | false=>
    have:=hr0 rfl; subst this
    simp [dp,l0,l1,b0,b1,b2,b3,f1,f2,h35,m,hc,-frz,-ag,-ac]
def fE (n:Nat) (one:Bool) (k:Nat) (b:List Int) (i:Nat):List (List Int):=if !decide ((i:Int)∈b) && (one || decide (i=b.length)) then ext n one k (b++[(i:Int)]) else []
theorem L3 (h:aS) {np op cp ep n:Nat} {T:aR} {chv:AV} (hn4:n<=4) (d:Nat):∀(k:Nat) {A:aa} {ll:List (List Int)} {id:Nat} {b:List Int},b.length+k=n+1->1<=b.length->X34 A np op cp ep n T chv->jr A op ll->A[id]?=some (.row 1 false (aj b))->ll.length+4 ^ k<=100000 ->
  ∃B,H34 (d+k) h [.sl id 0 b.length,.ptr np 0 0,.ptr op 0 0,.ptr cp 0 0,.ptr ep 0 0] A=some (.tup [],B)/\jr B op (ll++ext n (decide (T.blades=1)) (k+1) b)/\pa A B
 | 0,A,ll,id,b,hk,hb1,hX,ho,hb,hll=>by
  have e:ext n (decide (T.blades=1)) (0+1) b=[b]:=by unfold ext; rw [if_pos (by omega)]
  rw [e]
  cases d with
  | zero=>exact Bo _ h hX ho hb (by omega) hn4 (by omega)
  | succ d=>exact Bo _ h hX ho hb (by omega) hn4 (by omega)
 | k+1,A,ll,id,b,hk,hb1,hX,ho,hb,hll=>by
  have hbne:b≠[]:=fun e=>by rw [e] at hb1; simp at hb1
  have e:ext n (decide (T.blades=1)) (k+1+1) b=(List.range' 1 n).flatMap (fE n (decide (T.blades=1)) (k+1) b):=by
   rw [ext,if_neg (by omega)]; rfl
  rw [e]
  have loop:∀(c i:Nat) (A:aa) (ll:List (List Int)) (m:Nat),i+c=n+1->X34 A np op cp ep n T chv->jr A op ll->A[id]?=some (.row 1 false (aj b))->ll.length+c*4 ^ k<=100000->c<m ->
    ∃B,bZ (evC (dq GC ((63,H34 (d+k)) :: tz) h) 40 dp) dk m (ge (.sl id 0 b.length) (.ptr np 0 0) (.ptr cp 0 0) (.ptr ep 0 0) (.int .i64 (i:Int))) A=some (.exit 0 ((ge (.sl id 0 b.length) (.ptr np 0 0) (.ptr cp 0 0) (.ptr ep 0 0) (.int .i64 ((n+1:Nat):Int))).set 8 (.bool false)) B) /\
     jr B op (ll++(List.range' i c).flatMap (fE n (decide (T.blades=1)) (k+1) b))/\pa A B:=by
   intro c
   induction c with
   | zero=>
    intro i A ll m hi hX ho hb hll hm
    obtain ⟨m,rfl⟩:∃j,m=j+1:=⟨m-1,by omega⟩
    refine ⟨A,?_,by simpa using ho,pa.refl _⟩
    have l0:ac false 1 A (.ptr np 0 0)=some (.int .i64 (n:Int)):=by simp [hX.hn]
    have b0:ag .leq (.int .i64 ((n+1:Nat):Int)) (.int .i64 (n:Int))=some (.bool false):=by rw [dU,decide_eq_false (by omega)]
    obtain rfl:i=n+1:=by omega
    obtain ⟨i1,hi1⟩:∃i1:Nat,i1=n+1:=⟨_,rfl⟩
    rw [<-hi1] at b0 ⊢
    rw [aQ,ot]
    simp [dp,l0,b0,-ag,-ac]
   | succ c ihc=>
    intro i A ll m hi hX ho hb hll hm
    obtain ⟨m,rfl⟩:∃j,m=j+1:=⟨m-1,by omega⟩
    rw [Nat.add_mul,Nat.one_mul] at hll
    have hrow:∀(j:Nat) (e:Ent),A[j]?=some e->iF e->(A++[Ent.row 1 false (aj (b++[(i:Int)]))])[j]?=some e:=(pa.app A _).2
    have hst:=pa.app A [Ent.row 1 false (aj (b++[(i:Int)]))]
    obtain ⟨B,hB1,hB2,hB3,hB4⟩:∃B,((!decide ((i:Int)∈b) && (decide (T.blades=1) || decide (i=b.length)))=true->H34 (d+k) h [.sl A.length 0 (b.length+1),.ptr np 0 0,.ptr op 0 0,.ptr cp 0 0,.ptr ep 0 0] (A++[.row 1 false (aj (b++[(i:Int)]))])=some (.tup [],B)) /\
      ((!decide ((i:Int)∈b) && (decide (T.blades=1) || decide (i=b.length)))=false->B=A)/\jr B op (ll++fE n (decide (T.blades=1)) (k+1) b i)/\pa A B:=by
     by_cases hd:(!decide ((i:Int)∈b) && (decide (T.blades=1) || decide (i=b.length)))=true
     ·obtain ⟨B,h1,h2,h3⟩:=L3 h hn4 d k (A:=A++[.row 1 false (aj (b++[(i:Int)]))]) (ll:=ll) (id:=A.length) (b:=b++[(i:Int)]) (by simp; omega) (by simp) (hX.step hst) (ho.app _) (by simp) (by omega)
      rw [List.length_append,List.length_singleton] at h1
      refine ⟨B,fun _=>h1,fun e=>(by rw [hd] at e; cases e),?_,hst.trans h3⟩
      unfold fE
      rw [if_pos hd]; exact h2
     ·refine ⟨A,fun e=>absurd e hd,fun _=>rfl,?_,pa.refl _⟩
      unfold fE
      rw [if_neg hd,List.append_nil]; exact ho
    have hX2:=hX.step hB4
    have hb2:=hB4.2 _ _ hb (kC hbne 1 false)
    have hr:=sY (fs:=(63,H34 (d+k)) :: tz) (h:=h) rfl rfl rfl hX hb (by omega) (i:=i) (by omega) hn4 hB1 hB2 (by rw [hX2.he,hX.he])
    have hfl:(fE n (decide (T.blades=1)) (k+1) b i).length<=4 ^ k:=by
     unfold fE
     split
     ·rcases tG n (decide (T.blades=1)) hn4 k (b++[(i:Int)]) with h1 | h1
      ·exact h1
      ·simp at h1; omega
     ·simp
    obtain ⟨C,c1,c2,c3⟩:=ihc (i+1) B _ m (by omega) hX2 hB3 hb2 (by rw [List.length_append]; omega) (by omega)
    refine ⟨C,?_,?_,hB4.trans c3⟩
    ·rw [aQ,ot,hr]
     exact c1
    ·rw [List.range'_succ,List.flatMap_cons,<-List.append_assoc]
     exact c2
  have hp:n*4 ^ k<=4 ^ (k+1):=by
   rw [Nat.pow_succ,Nat.mul_comm]
   exact Nat.mul_le_mul_left _ hn4
  obtain ⟨B,h1,h2,h3⟩:=loop n 1 A ll 40 (by omega) hX ho hb (by omega) (by omega)
  refine ⟨B,?_,h2,h3⟩
  have l0:ac false 1 A (.ptr np 0 0)=some (.int .i64 (n:Int)):=by simp [hX.hn]
  have b1:=a9 n (by omega)
  have b2:ag .eql (.int .i64 (b.length:Int)) (.int .i64 ((n+1:Nat):Int))=some (.bool false):=by rw [bD,decide_eq_false (by omega)]
  obtain ⟨n1,hn1⟩:∃x,x=n+1:=⟨_,rfl⟩
  rw [<-hn1] at b1 b2 h1
  rw [show H34 (d+(k+1))=fun h=>bR (dq GC ((63,H34 (d+k)) :: tz) h) 40 sB from rfl]
  simp only
  rw [a6 _ _ rfl]
  have h1:bZ (evC (dq GC ((63,H34 (d+k)) :: tz) h) 40 dp) dk 40 (ge (.sl id 0 b.length) (.ptr np 0 0) (.ptr cp 0 0) (.ptr ep 0 0) (.int .i64 1)) A=_:=h1
  simp [sB,l0,b1,b2,rK h1,-ag,-ac]
end Clu
namespace Clu
open Go
open Cy (GC io cV bH bK cf aM be aA)
def ly (ll:List (List Int)):AV:=slA 1 (ll.map fun l=>slA 1 (aj l))
theorem Ff {l:List Int} (h:l≠[]):slA 1 (aj l)=.fs 1 (aj l):=by
 cases l with
 | nil=>exact absurd rfl h
 | cons x r=>rfl
theorem En.frz {A:aa} {op:Nat} {v:AV} {pl:List (Nat × List Int)} (h:En A op v pl) (k:Nat):Proofs.Ytkcjhljbgjpklaa.frz A (k+3) v=ly (pl.map (·.2)):=by
 obtain ⟨h1,h2⟩:=h
 rcases h2 with ⟨rfl,rfl⟩ | ⟨id,gr,rfl,_,hne,hr⟩
 ·rfl
 ·have e:((pl.map zK).drop 0).take pl.length=pl.map zK:=by
   rw [List.drop_zero]
   conv=>lhs; rw [show pl.length=(pl.map zK).length by simp]
   rw [List.take_length]
  have hm:(pl.map zK).map (Proofs.Ytkcjhljbgjpklaa.frz A (k+2))=(pl.map (·.2)).map fun l=>slA 1 (aj l):=by
   rw [List.map_map,List.map_map]
   refine List.map_congr_left fun x hx=>?_
   obtain ⟨n1,n2⟩:=h1 x hx
   show Proofs.Ytkcjhljbgjpklaa.frz A (k+1+1) (.sl x.1 0 x.2.length)=_
   rw [j7 n2]
   exact (Ff n1).symm
  rw [show k+3=(k+2)+1 from rfl]
  simp only [Proofs.Ytkcjhljbgjpklaa.frz,hr]
  rw [e,hm]
  unfold ly
  cases pl with
  | nil=>exact absurd rfl hne
  | cons x r=>rfl
theorem vP {A:aa} {id:Nat} {g:Bool} {b:List Int} (h:A[id]?=some (.row 1 g (aj b))) (n:Nat):a8 A (n+2) (.sl id 0 b.length)=true:=by
 simp only [a8,h,List.drop_zero,List.all_eq_true]
 intro x hx
 obtain ⟨y,_,rfl⟩:=List.mem_map.1 (List.mem_of_mem_take hx)
 rfl
theorem En.fresh {A:aa} {op:Nat} {v:AV} {pl:List (Nat × List Int)} (h:En A op v pl) (k:Nat):a8 A (k+4) v=true:=by
 obtain ⟨h1,h2⟩:=h
 rcases h2 with ⟨rfl,rfl⟩ | ⟨id,gr,rfl,_,hne,hr⟩
 ·rfl
 ·rw [show k+4=(k+3)+1 from rfl]
  simp only [a8,hr,List.drop_zero]
  rw [List.all_eq_true]
  intro y hy
  obtain ⟨x,hx,rfl⟩:=List.mem_map.1 (List.mem_of_mem_take hy)
  obtain ⟨n1,n2⟩:=h1 x hx
  exact vP n2 (k+1)
def uH:List (FuncId × aG):=[(62,aD 4 M16),(63,H34 4)]
@[simp] theorem Kr:aC uH 62=some (aD 4 M16):=rfl
@[simp] theorem Kn:aC uH 63=some (H34 4):=rfl
theorem nl:∀f M,aC uH f=some M->ak Try.prog GC f M:=af (ak.of_pure lq 4) (af (nk 4) az)
def M14:aP:=fun args=>evF (ax GC uH) 0 kE 4 args
theorem lr:bY Try.prog GC 43 M14:=bY.of_ev (E:=ax GC uH) (aq nl) rfl AN kq 4 fun _ _ h=>⟨0,h⟩
theorem aX {T:aR} {chv:AV} (h:∀A n,frz A n chv=chv) (A:aa) (n:Nat):frz A (n+1) (au T chv)=au T chv:=by
 simp [au,frz,h,aM]
theorem cP {T:aR} {chv:AV} (h:∀n,bk n chv=true) (n:Nat):bk (n+1) (au T chv)=true:=by
 simp [au,bk,h]
theorem _root_.Go.Proofs.Ytkcjhljbgjpklaa.SlA.noRef {e:Nat} {xs:List AV} {a:AV} (h:SlA e xs a) (n:Nat):bk n a=true:=by
 rcases h with ⟨rfl,_⟩ | rfl <;> cases n <;> rfl
theorem lV {T:aR} {chv:AV} (hb:SlA 2 (T.ch.map chA) chv) (hl:T.ch.length<=200):M14 [au T chv]=some (ly (aH T)):=by
 have m:=oC hb hl
 have hlen:=hb.len
 rw [List.length_map] at hlen
 have ft:=fun A=>aX (T:=T) (fun A n=>hb.frz (A:=A) n) A 3
 have nr:=cP (T:=T) (fun n=>hb.noRef n) 3
 unfold M14 aH
 by_cases hv:a0 T
 ·rw [if_pos hv]
  rw [decide_eq_true hv] at m
  have hn4:=hv.2.2.2.1
  obtain ⟨A0,hA0⟩:∃X:aa,X=[.row 5 false [au T chv],.row 1 false [.int .i64 (T.ch.length:Int)],.row 1 false [.nilS],.row 1 false [lw 1 2 0 3],.row 1 false [.int .i64 0]]:=⟨_,rfl⟩
  have hX:X34 A0 1 2 0 3 T.ch.length T chv:=by rw [hA0]; exact ⟨rfl,rfl,rfl⟩
  have ho:jr A0 2 []:=⟨.nilS,[],rfl,by rw [hA0]; rfl,fun _ h=>by simp at h,.inl ⟨rfl,rfl⟩⟩
  have hp:4 ^ T.ch.length<=4 ^ 4:=Nat.pow_le_pow_right (by omega) hn4
  obtain ⟨B,h1,⟨v,pl,h2,h3,h4⟩,h5⟩:=L3 (fun _ _ _=>none) (d:=4-T.ch.length) hn4 T.ch.length (A:=A0) (ll:=[]) (id:=4) (b:=[0]) (by simp; omega) (by simp) hX ho (by rw [hA0]; rfl) (by simp; omega)
  rw [show 4-T.ch.length+T.ch.length=4 by omega] at h1
  have lv:=gS h3 h4.form
  have hfz:=h4.frz 1
  have hfr:=h4.fresh 0
  rw [h2,List.nil_append] at hfz
  have h1:H34 4 (fun _ _ _=>none) [.sl 4 0 1,.ptr 1 0 0,.ptr 2 0 0,.ptr 0 0 0,.ptr 3 0 0] A0=some (.tup [],B):=h1
  rw [jj _ _ rfl]
  obtain ⟨ch,pk,pl2,tr,bd⟩:=T
  simp only at hlen h1 hA0 m ft hfz
  rw [show ∀c,au ⟨ch,pk,pl2,tr,bd⟩ c=.agg [c,.int .i64 pk,.int .i64 pl2,.int .i64 tr,.int .i64 bd] from fun _=>rfl] at hA0 ft m
  rw [show ∀c,au ⟨ch,pk,pl2,tr,bd⟩ c=.agg [c,.int .i64 pk,.int .i64 pl2,.int .i64 tr,.int .i64 bd] from fun _=>rfl]
  have lt:ac true 5 [Ent.row 5 false [.agg [chv,.int .i64 pk,.int .i64 pl2,.int .i64 tr,.int .i64 bd]]] (.ptr 0 0 0)=some (.agg [chv,.int .i64 pk,.int .i64 pl2,.int .i64 tr,.int .i64 bd]):=rfl
  have le:∀k,ac false 1 [Ent.row 5 false [.agg [chv,.int .i64 pk,.int .i64 pl2,.int .i64 tr,.int .i64 bd]],.row 1 false [.int .i64 k],.row 1 false [.nilS],.row 1 false [.func (.func 63) [] [.ptr 1 0 0,.ptr 2 0 0,.ptr 0 0 0,.ptr 3 0 0]]] (.ptr 3 0 0)=some (.func (.func 63) [] [.ptr 1 0 0,.ptr 2 0 0,.ptr 0 0 0,.ptr 3 0 0]):=fun k=>rfl
  have lc:ac false 1 [Ent.row 5 false [.agg [chv,.int .i64 pk,.int .i64 pl2,.int .i64 tr,.int .i64 bd]]] (.ptr 0 0 0)=some chv:=rfl
  obtain ⟨k,hk⟩:∃k,k=(ch.length:Int):=⟨_,rfl⟩
  rw [<-hk] at hlen hA0
  obtain ⟨R,hR⟩:∃R,R=ly (ext ch.length (decide (bd=1)) (ch.length+1) [0]):=⟨_,rfl⟩
  rw [<-hR] at hfz ⊢
  unfold lw at hA0
  rw [hA0] at h1
  simp [kE,m,ft,hlen,h1,lv,hfz,hfr,lc,lt,le,-frz,-aw,-ac]
 ·rw [if_neg hv]
  rw [decide_eq_false hv] at m
  rw [jj _ _ rfl]
  obtain ⟨ch,pk,pl2,tr,bd⟩:=T
  rw [show ∀c,au ⟨ch,pk,pl2,tr,bd⟩ c=.agg [c,.int .i64 pk,.int .i64 pl2,.int .i64 tr,.int .i64 bd] from fun _=>rfl] at ft m
  rw [show ∀c,au ⟨ch,pk,pl2,tr,bd⟩ c=.agg [c,.int .i64 pk,.int .i64 pl2,.int .i64 tr,.int .i64 bd] from fun _=>rfl]
  simp [kE,m,ft,a8,-frz]
  rfl
def HV:List (FuncId × aG):=[(68,aD 4 M43)]
@[simp] theorem Jc:aC HV 68=some (aD 4 M43):=rfl
theorem CV:∀f M,aC HV f=some M->ak Try.prog GC f M:=af (ak.of_pure E7 4) az
def M42:aP:=fun args=>evP (ax GC HV) 0 xa 1 args
theorem pn:an Try.prog GC 67 M42:=an.of_ev (E:=ax GC HV) (aq CV) rfl GZ r8 1 fun _ _ h=>⟨0,h⟩
theorem vj {xs ys:List Int} {a b:AV} (ha:SlA 1 (aj xs) a) (hb:SlA 1 (aj ys) b) (hl:xs.length<=200):M42 [a,.fp [b]]=some (.bool (decide (xs=ys))):=by
 have m:=vi ha hb hl
 have f1:∀A n,frz A n a=a:=fun A n=>ha.frz n
 have f2:∀A n,frz A n b=b:=fun A n=>hb.frz n
 have l1:∀A,ac false 1 A (.fp [b])=some b:=fun A=>rfl
 obtain ⟨d,hd⟩:∃d,d=decide (xs=ys):=⟨_,rfl⟩
 rw [<-hd] at m ⊢
 unfold M42
 rw [aK _ _ rfl]
 simp [xa,m,f1,f2,l1,be,-frz,-ac]
def BF:List (FuncId × aG):=[(67,aD 4 M42)]
@[simp] theorem IS:aC BF 67=some (aD 4 M42):=rfl
theorem CL:∀f M,aC BF f=some M->ak Try.prog GC f M:=af (ak.of_pure pn 4) az
def M66:aP:=fun args=>evP (ax GC BF) 300 HK 1 args
theorem EV:an Try.prog GC 85 M66:=an.of_ev (E:=ax GC BF) (aq CL) rfl at66 Gu 1 fun _ _ h=>⟨300,h⟩
def isO (o l:List Int):Bool:=decide (l=o)
def fnO (ov:AV):AV:=.func (.func 67) [] [.fp [ov]]
theorem Hl {ll:List (List Int)} {o:List Int} {ov:AV} (ho:SlA 1 (aj o) ov) (hl:ll.length<=256) (hl2:∀l∈ll,l.length<=200):M66 [ly ll,fnO ov]=some (.int .i64 (cV (isO o) ll)):=by
 have hb:=bb 1 (ll.map fun l=>slA 1 (aj l))
 rw [show slA 1 (ll.map fun l=>slA 1 (aj l))=ly ll from rfl] at hb
 obtain ⟨b,hbv⟩:∃b,b=ly ll:=⟨_,rfl⟩
 rw [<-hbv] at hb ⊢
 have hlen:=hb.len
 rw [List.length_map] at hlen
 have round:∀(A:aa) (i:Nat) (hi:i<ll.length),run (ax GC BF) 300 [.code iH] (kT b (fnO ov) (.int .i64 (ll.length:Int)) (.int .i64 (i:Int))) A =
   if isO o ll[i]=false then some (.normal (kT b (fnO ov) (.int .i64 (ll.length:Int)) (.int .i64 ((i+1:Nat):Int))) A) else some (.ret [b,fnO ov,.int .i64 (i:Int),.int .i64 (i:Int),.int .i64 (ll.length:Int),.int .i64 (i:Int),.bool true,.bool true] A):=fun A i hi=>by
  have he:(ll.map fun l=>slA 1 (aj l))[i]?=some (slA 1 (aj ll[i])):=by simp [hi]
  have hs:=bb 1 (aj ll[i])
  have x1:=hb.index1 (A:=A) he (by rcases hs with ⟨h,_⟩ | h <;> rw [h] <;> rfl) (by rcases hs with ⟨h,_⟩ | h <;> rw [h] <;> rfl) .i64
  have ld:ac false 1 A (.fp [slA 1 (aj ll[i])])=some (slA 1 (aj ll[i])):=by rcases hs with ⟨h,_⟩ | h <;> rw [h] <;> rfl
  have m:=vj hs ho (hl2 _ (List.getElem_mem hi))
  have b1:=bp i ll.length .i64
  rw [decide_eq_true hi] at b1
  have b3:=a9 i (by omega)
  have fz:∀A,frz A 4 (slA 1 (aj ll[i]))=slA 1 (aj ll[i]):=fun A=>hs.frz 4
  have fz2:∀A,frz A 4 (.fp [ov])=.fp [ov]:=fun A=>rfl
  obtain ⟨i1,hi1⟩:∃i1:Nat,i1=i+1:=⟨_,rfl⟩
  rw [<-hi1] at b3 ⊢
  obtain ⟨d,hd⟩:∃d,d=isO o ll[i]:=⟨_,rfl⟩
  rw [show decide (ll[i]=o)=d from hd.symm] at m
  rw [<-hd]
  obtain ⟨c,hc⟩:∃c,c=slA 1 (aj ll[i]):=⟨_,rfl⟩
  rw [<-hc] at m ld fz x1
  cases d with
  | false=>simp [iH,fnO,x1,ld,m,fz,fz2,b1,b3,-frz,-ag,-ai,-aw,-ac]
  | true=>simp [iH,fnO,x1,ld,m,fz,fz2,b1,-frz,-ag,-ai,-aw,-ac]
 unfold M66
 rw [aK _ _ rfl]
 rcases cE (E:=ax GC BF) (fuel:=300) (a:=iH) (mask:=gV) (fun i=>kT b (fnO ov) (.int .i64 (ll.length:Int)) (.int .i64 (i:Int))) (fun _=>[]) ll.length (fun i=>¬ ∀hi:i<ll.length,isO o ll[i]=false)
  (oF:=fun i=>.ret [b,fnO ov,.int .i64 (i:Int),.int .i64 (i:Int),.int .i64 (ll.length:Int),.int .i64 (i:Int),.bool true,.bool true] []) (oE:=.exit 0 ((kT b (fnO ov) (.int .i64 (ll.length:Int)) (.int .i64 (ll.length:Int))).set 6 (.bool false)) [])
  (fun _=>BQ) (fun _ _ _ h=>by cases h) (fun _ _ h=>by cases h)
  (fun i hi hp=>by
   rw [round [] i hi]
   exact if_pos (Classical.not_not.1 hp hi))
  (fun i hi hp=>by
   rw [round [] i hi]
   exact if_neg fun h=>hp fun _=>h)
  (by simp [iH]) (show ll.length<300 by omega) with ⟨i,hi,hp,hj,lp⟩ | ⟨hp,lp⟩
 ·have lp:bZ (evC (ax GC BF) 300 iH) gV 300 (kT b (fnO ov) (.int .i64 (ll.length:Int)) (.int .i64 0)) []=_:=lp
  have e:cV (isO o) ll=(i:Int):=bH hi (by
   cases h':isO o ll[i] with
   | true=>rfl
   | false=>exact absurd (fun _=>h') hp) (fun j hj'=>Classical.not_not.1 (hj j hj') (by omega))
  rw [e]
  simp [HK,hlen,Bu lp,-ag,-aw]
 ·have lp:bZ (evC (ax GC BF) 300 iH) gV 300 (kT b (fnO ov) (.int .i64 (ll.length:Int)) (.int .i64 0)) []=_:=lp
  have e:cV (isO o) ll = -1:=bK fun i hi=>Classical.not_not.1 (hp i hi) hi
  rw [e]
  simp [HK,hlen,Bu lp,-ag,-aw]
def HW:List (FuncId × aG):=[(85,aD 4 M66)]
@[simp] theorem Jd:aC HW 85=some (aD 4 M66):=rfl
theorem CW:∀f M,aC HW f=some M->ak Try.prog GC f M:=af (ak.of_pure EV 4) az
def M41:aP:=fun args=>evP (ax GC HW) 0 xb 1 args
theorem ni:an Try.prog GC 66 M41:=an.of_ev (E:=ax GC HW) (aq CW) rfl G0 r9 1 fun _ _ h=>⟨0,h⟩
theorem Eh (o:List Int) (ll:List (List Int)):ll.any (isO o)=decide (o∈ll):=by
 rw [Bool.eq_iff_iff,List.any_eq_true,decide_eq_true_eq]
 unfold isO
 constructor
 ·rintro ⟨x,hx,h⟩
  rw [<-of_decide_eq_true h]; exact hx
 ·exact fun h=>⟨o,h,by simp⟩
theorem vk {ll:List (List Int)} {o:List Int} {ov:AV} (ho:SlA 1 (aj o) ov) (hl:ll.length<=256) (hl2:∀l∈ll,l.length<=200):M41 [ly ll,fnO ov]=some (.bool (decide (o∈ll))):=by
 have h:=Hl ho hl hl2
 have b1:=io (cV (isO o) ll)
 rw [cf,Eh] at b1
 have f1:∀A n,frz A n (ly ll)=ly ll:=fun A n=>(bb 1 _).frz n
 have f2:∀A,frz A 4 (fnO ov)=fnO ov:=fun A=>rfl
 obtain ⟨z,hz⟩:∃z,z=cV (isO o) ll:=⟨_,rfl⟩
 rw [<-hz] at h b1
 obtain ⟨d,hd⟩:∃d,d=decide (o∈ll):=⟨_,rfl⟩
 rw [<-hd] at b1 ⊢
 obtain ⟨b,hbv⟩:∃b,b=ly ll:=⟨_,rfl⟩
 rw [<-hbv] at h f1 ⊢
 unfold M41
 rw [aK _ _ rfl]
 simp [xb,h,b1,f1,f2,be,-ag,-frz]
end Clu
namespace Clu
open Go
open Cy (GC io cV bH bK cf aM be aA aZ cA cm cn dF okA)
section
variable {A:aa} {es:List AV} {k:Nat}
theorem ph (_hk:es.length=k) {j:Nat} (hj:j<k):ab j (A++[.row k false [.agg es]]) (.ptr A.length 0 0)=some (.ptr A.length 0 j):=by
 simp [ab,hj]
theorem qX (_hk:es.length=k) {j:Nat} {x:AV} (hx:es[j]?=some x):ac false 1 (A++[.row k false [.agg es]]) (.ptr A.length 0 j)=some x:=by
 simp [ac,bL,hx]
theorem CA (_hk:es.length=k) (_hk1:k≠1):ac true k (A++[.row k false [.agg es]]) (.ptr A.length 0 0)=some (.agg es):=by
 simp [ac,rA]
theorem ww (hk:es.length=k) (hk1:1<k) {j:Nat} (hj:j<k) {x:AV} (hs:x.solid=true) (hc:cellsOf x=[x]):aB 1 (A++[.row k false [.agg es]]) (.ptr A.length 0 j) x=some (A++[.row k false [.agg (es.set j x)]]):=by
 have e:es.take j++[x]++es.drop (j+1)=es.set j x:=by
  rw [List.set_eq_take_append_cons_drop,if_pos (by omega)]; simp
 have e1:bg (.agg es) k j x=some (.agg (es.set j x)):=by
  unfold bg
  rw [hc,if_neg (by simp; omega)]
  simp only [List.length_singleton]
  rw [if_pos ⟨hk,by omega⟩,e]
 simp only [aB,List.getElem?_concat_length,List.getElem?_cons_zero]
 rw [if_pos ⟨trivial,hs,by rw [hc]; rfl,by omega⟩,e1]
 simp
end
@[simp] theorem pJ (A:aa) (x:AV):ac false 1 A (.fp [x])=some x:=rfl
@[simp] theorem LG (A:aa) (x y:AV) (r:List AV):ac true (r.length+2) A (.fp (x :: y :: r))=some (.agg (x :: y :: r)):=by simp [ac]
@[simp] theorem iS (A:aa) (x y:AV):ac true 2 A (.fp [x,y])=some (.agg [x,y]):=rfl
def M46:aP:=fun args=>evP (ax GC []) 0 DF 4 args
theorem wC:an Try.prog GC 71 M46:=an.of_ev (E:=ax GC []) (aq az) rfl KP x5 4 fun _ _ h=>⟨0,h⟩
def vK:AV:=.agg [.nilF,.func (.func 86) [] [],.func (.func 87) [] []]
theorem ze:M46 []=some vK:=by
 have s:dP 3 [.row 1 false [.nilF,.nilF,.nilF]] (.ptr 0 0 0) vK=some [.row 1 false [.nilF,.func (.func 86) [] [],.func (.func 87) [] []]]:=by
  simp [dP,vK,AV.solid,cellsOf]
 unfold M46
 rw [aK _ _ rfl]
 unfold vK at s
 simp [DF,vK,s,AV.solid,cellsOf]
def HR:List (FuncId × aG):=[(49,aD 4 M64)]
@[simp] theorem IQ:aC HR 49=some (aD 4 M64):=rfl
theorem CK:∀f M,aC HR f=some M->ak Try.prog GC f M:=af (ak.of_pure t7 4) az
def M67:aP:=fun args=>evP (ax GC HR) 0 HJ 4 args
theorem EU:an Try.prog GC 86 M67:=an.of_ev (E:=ax GC HR) (aq CK) rfl at67 Gt 4 fun _ _ h=>⟨0,h⟩
def lkA (a b c:Int):AV:=.agg [.int .i64 a,.int .i64 b,.int .i64 c]
theorem Hk {o:List Int} {ov:AV} (ho:SlA 1 (aj o) ov) (hl:o.length<=200) {j:Int} (hj : -1000<=j/\j<=1000):M67 [ov,.int .i64 j]=some (lkA (j-1) j (if cV (isI j) o<cV (isI (j-1)) o then 1 else 0)):=by
 have m1:=p7 ho hl j
 have m2:=p7 ho hl (j-1)
 have f1:∀A n,frz A n ov=ov:=fun A n=>ho.frz n
 have b1:=b8 (a:=j) (b:=1) (by omega)
 have b2:=cH (cV (isI j) o) (cV (isI (j-1)) o)
 obtain ⟨j1,hj1⟩:∃x,x=j-1:=⟨_,rfl⟩
 rw [<-hj1] at m2 b1 b2 ⊢
 obtain ⟨x,hx⟩:∃x,x=cV (isI j) o:=⟨_,rfl⟩
 obtain ⟨y,hy⟩:∃x,x=cV (isI j1) o:=⟨_,rfl⟩
 rw [<-hx] at m1 b2 ⊢
 rw [<-hy] at m2 b2 ⊢
 unfold M67
 rw [aK _ _ rfl]
 by_cases h:x<y
 ·rw [decide_eq_true h] at b2
  rw [if_pos h]
  simp [HJ,m1,m2,f1,b1,b2,lkA,aM,-ag,-frz]
  simp [frz]
 ·rw [decide_eq_false h] at b2
  rw [if_neg h]
  simp [HJ,m1,m2,f1,b1,b2,lkA,aM,-ag,-frz]
  simp [frz]
def M68:aP:=fun args=>evP (ax GC []) 0 Iv 4 args
theorem ET:an Try.prog GC 87 M68:=an.of_ev (E:=ax GC []) (aq az) rfl at68 Gs 4 fun _ _ h=>⟨0,h⟩
theorem Hj (ov:AV) (j:Int):M68 [ov,.int .i64 j]=some (lkA j j 1):=by
 unfold M68
 rw [aK _ _ rfl]
 simp [Iv,lkA]
def H45:aG:=fun _=>bR (ax GC []) 0 wd
theorem wD:ak Try.prog GC 70 H45:=(bP (aq az) rfl H9 uR bc.nil).y
def GAt (A:aa) (g:Nat) (l:List aZ):Prop:=∃v,A[g]?=some (.row 1 false [v])/\((v=.nilS/\l=[])\/∃id gr,v=.sl id 0 l.length/\l≠[]/\g<id/\A[id]?=some (.row 4 gr (l.map cA)))
theorem GAt.app {A:aa} {g:Nat} {l:List aZ} (h:GAt A g l) (X:aa):GAt (A++X) g l:=by
 obtain ⟨v,h1,h2⟩:=h
 have hk:∀(j:Nat) (e:Ent),A[j]?=some e->(A++X)[j]?=some e:=fun j e h=>by
  rw [List.getElem?_append_left (List.getElem?_eq_some_iff.1 h).1]; exact h
 refine ⟨v,hk _ _ h1,?_⟩
 rcases h2 with h2 | ⟨id,gr,e1,e2,e3,e4⟩
 ·exact .inl h2
 ·exact .inr ⟨id,gr,e1,e2,e3,hk _ _ e4⟩
theorem Co (h:aS) {A:aa} {g:Nat} {l:List aZ} (hg:GAt A g l) {xs:List aZ} (hx:xs≠[]) (hb:l.length+xs.length<=1000) :
  ∃B,H45 h [.ptr g 0 0,.fs 4 (xs.map cA)] A=some (.tup [],B)/\GAt B g (l++xs)/\A.length<=B.length/\∀j,j<g->B[j]?=A[j]?:=by
 obtain ⟨v,h1,h2⟩:=hg
 have hgl:=(List.getElem?_eq_some_iff.1 h1).1
 have hxl:0<xs.length:=List.length_pos_iff.2 hx
 have hxm:xs.map cA≠[]:=fun e=>hx (List.map_eq_nil_iff.1 e)
 rcases h2 with ⟨rfl,rfl⟩ | ⟨id,gr,rfl,hl,hid,hr⟩
 ·have e1:aN 4 32 A .nilS (.fs 4 (xs.map cA))=some (.sl A.length 0 xs.length,A++[.row 4 false (xs.map cA)]):=by
   simp only [aN,cY,List.length_map]
   rw [if_neg (by omega),if_pos ⟨by omega,by omega,by simp at hb; omega⟩]
  have l1:ac false 1 A (.ptr g 0 0)=some .nilS:=gS h1 (.inl rfl)
  have h1':(A++[Ent.row 4 false (xs.map cA)])[g]?=some (.row 1 false [.nilS]):=by rw [List.getElem?_append_left hgl]; exact h1
  obtain ⟨A1,hA1⟩:∃X,X=A++[Ent.row 4 false (xs.map cA)]:=⟨_,rfl⟩
  have s1:aB 1 A1 (.ptr g 0 0) (.sl A.length 0 xs.length)=some (A1.set g (.row 1 false [.sl A.length 0 xs.length])):=by
   rw [<-hA1] at h1'
   simp [h1']
  refine ⟨A1.set g (.row 1 false [.sl A.length 0 xs.length]),?_,⟨.sl A.length 0 xs.length,by rw [hA1,List.getElem?_set_self (by simp; omega)],.inr ⟨A.length,false,rfl,hx,hgl,?_⟩⟩,by rw [hA1]; simp,fun j hj=>?_⟩
  ·rw [<-hA1] at e1
   unfold H45
   rw [a6 _ _ rfl]
   simp [wd,l1,e1,s1,-ac,-aB]
  ·rw [hA1,List.getElem?_set_ne (by omega)]
   simp
  ·rw [hA1,List.getElem?_set_ne (by omega),List.getElem?_append_left (by omega)]
 ·have hlz:l.length≠0:=fun e=>hl (List.length_eq_zero_iff.1 e)
  have hidl:=(List.getElem?_eq_some_iff.1 hr).1
  have e1:aN 4 32 A (.sl id 0 l.length) (.fs 4 (xs.map cA))=some (.sl id 0 (l.length+xs.length),A.set id (.row 4 true (l.map cA++xs.map cA))):=by
   simp only [aN,cY,List.length_map,hr]
   rw [if_pos ⟨trivial,by omega,by omega,by omega⟩,if_pos ⟨trivial,trivial,hlz⟩]
  have l1:ac false 1 A (.ptr g 0 0)=some (.sl id 0 l.length):=gS h1 (.inr ⟨_,_,_,rfl⟩)
  obtain ⟨A1,hA1⟩:∃X,X=A.set id (Ent.row 4 true (l.map cA++xs.map cA)):=⟨_,rfl⟩
  have h1':A1[g]?=some (.row 1 false [.sl id 0 l.length]):=by rw [hA1,List.getElem?_set_ne (by omega)]; exact h1
  have s1:aB 1 A1 (.ptr g 0 0) (.sl id 0 (l.length+xs.length))=some (A1.set g (.row 1 false [.sl id 0 (l.length+xs.length)])):=by
   simp [h1']
  refine ⟨A1.set g (.row 1 false [.sl id 0 (l.length+xs.length)]),?_,⟨.sl id 0 (l.length+xs.length),by rw [hA1,List.getElem?_set_self (by simpa using hgl)],.inr ⟨id,true,by simp,by simp [hl],hid,?_⟩⟩,by rw [hA1]; simp,fun j hj=>?_⟩
  ·rw [<-hA1] at e1
   unfold H45
   rw [a6 _ _ rfl]
   simp [wd,l1,e1,s1,-ac,-aB]
  ·rw [hA1,List.getElem?_set_ne (by omega),List.getElem?_set_self hidl]
   simp
  ·rw [hA1,List.getElem?_set_ne (by omega),List.getElem?_set_ne (by omega)]
theorem GAt.frz {A:aa} {g:Nat} {l:List aZ} (h:GAt A g l):∃v,ac false 1 A (.ptr g 0 0)=some v/\(∀k,Proofs.Ytkcjhljbgjpklaa.frz A (k+3) v=slA 4 (l.map cA))/\∀k,a8 A (k+3) v=true:=by
 obtain ⟨v,h1,h2⟩:=h
 rcases h2 with ⟨rfl,rfl⟩ | ⟨id,gr,rfl,hl,hid,hr⟩
 ·exact ⟨.nilS,gS h1 (.inl rfl),fun k=>rfl,fun k=>rfl⟩
 ·have e:((l.map cA).drop 0).take l.length=l.map cA:=by
   rw [List.drop_zero]
   conv=>lhs; rw [show l.length=(l.map cA).length by simp]
   rw [List.take_length]
  refine ⟨_,gS h1 (.inr ⟨_,_,_,rfl⟩),fun k=>?_,fun k=>?_⟩
  ·have hm:(l.map cA).map (Proofs.Ytkcjhljbgjpklaa.frz A (k+2))=l.map cA:=by
    rw [List.map_map]
    exact List.map_congr_left fun x _=>by simp [cA,Proofs.Ytkcjhljbgjpklaa.frz]
   rw [show k+3=(k+2)+1 from rfl]
   simp only [Proofs.Ytkcjhljbgjpklaa.frz,hr]
   rw [e,hm]
   cases l with
   | nil=>exact absurd rfl hl
   | cons x r=>rfl
  ·rw [show k+3=(k+2)+1 from rfl]
   simp only [a8,hr]
   rw [e,List.all_eq_true]
   intro y hy
   obtain ⟨x,_,rfl⟩:=List.mem_map.1 hy
   simp [cA,a8]
end Clu
namespace Clu
open Go
open Cy (GC io cV bH bK cf aM be aA aZ cA cm cn dF okA)
def qo (o:List Int) (i:Nat):Int:=if i+1<o.length then o.getD (i+1) 0 else 0
def vZ (T:aR) (o:List Int) (i:Nat):aZ:=
 ⟨o.getD i 0,qo o i,ey T+(if T.blades=2\/qo o i≠o.getD i 0+1 then T.travel else 0),if i+1<o.length then 0 else 1⟩
def lkT (T:aR) (o:List Int) (j:Int):Int × Int × Int:=if T.blades=2 then (j,j,1) else (j-1,j,if cV (isI j) o<cV (isI (j-1)) o then 1 else 0)
def tO (T:aR) (o:List Int) (i:Nat):List aZ:=
 [⟨(lkT T o (i+1)).1,(lkT T o (i+1)).2.1,ey T+(T.ch.getD i (0,0)).1,(lkT T o (i+1)).2.2⟩,
  ⟨(lkT T o (i+1)).2.1,(lkT T o (i+1)).1,-(ey T+(T.ch.getD i (0,0)).1+(T.ch.getD i (0,0)).2),-(lkT T o (i+1)).2.2⟩]
def bn (T:aR) (o:List Int):List aZ:=(List.range o.length).map (vZ T o)++(List.range T.ch.length).flatMap (tO T o)
def AO (T:aR) (o:List Int):Option (List aZ):=if o∈aH T then some (bn T o) else none
theorem xL (n:Nat) (one:Bool):∀(k:Nat) (b l:List Int),l∈ext n one k b->l.length=n+1/\∃r,l=b++r/\(∀x∈r,1<=x/\x<=n)/\(b.Nodup->l.Nodup)
 | 0,b,l,h=>by simp [ext] at h
 | k+1,b,l,h=>by
  unfold ext at h
  split at h
  ·rename_i hb
   simp only [List.mem_singleton] at h
   subst h
   exact ⟨hb,[],by simp,by simp,id⟩
  ·rw [List.mem_flatMap] at h
   obtain ⟨i,hi,h⟩:=h
   rw [List.mem_range'_1] at hi
   split at h
   ·rename_i hc
    obtain ⟨h1,r,rfl,h3,h4⟩:=xL n one k _ _ h
    simp only [Bool.and_eq_true,Bool.not_eq_true',decide_eq_false_iff_not] at hc
    refine ⟨h1,(i:Int) :: r,by simp,fun x hx=>?_,fun hn=>h4 ?_⟩
    ·rcases List.mem_cons.1 hx with rfl | hx
     ·omega
     ·exact h3 x hx
    ·rw [List.nodup_append]
     refine ⟨hn,by simp,fun a ha b hb e=>?_⟩
     rw [List.mem_singleton] at hb
     subst hb; subst e
     exact hc.1 ha
   ·cases h
theorem cu {T:aR} {o:List Int} (h:o∈aH T):a0 T/\o.length=T.ch.length+1/\(∃r,o=0 :: r/\∀x∈r,1<=x/\x<=T.ch.length)/\o.Nodup:=by
 unfold aH at h
 split at h
 ·rename_i hv
  obtain ⟨h1,r,h2,h3,h4⟩:=xL _ _ _ _ _ h
  exact ⟨hv,h1,⟨r,h2,h3⟩,h4 (by simp)⟩
 ·cases h
theorem gy {T:aR} {o:List Int} (h:o∈aH T):∀x∈o,0<=x/\x<=T.ch.length:=by
 obtain ⟨_,_,⟨r,rfl,h2⟩,_⟩:=cu h
 intro x hx
 rcases List.mem_cons.1 hx with rfl | hx
 ·omega
 ·have:=h2 x hx; omega
theorem gT (T:aR):(aH T).length<=256:=by
 unfold aH
 split
 ·rename_i hv
  have hn:=hv.2.2.2.1
  rcases tG T.ch.length (decide (T.blades=1)) hn T.ch.length [0] with h | h
  ·exact Nat.le_trans h (Nat.le_trans (Nat.pow_le_pow_right (by omega) hn) (by omega))
  ·simp at h; omega
 ·simp
theorem qb {T:aR} (h:a0 T):0<=ey T/\ey T<=30000:=by
 obtain ⟨_,⟨h1,h2,h3⟩,_⟩:=h
 unfold ey
 split <;> omega
theorem dI {a:Int} (h : -9223372036854775807<=a/\a<=9223372036854775807):rQ .neg (.int .i64 a)=some (.int .i64 (-a)):=by
 simp only [rQ]
 rw [show (0:Int)-a = -a by omega,dQ (by unfold inI; omega)]
def mL:List (FuncId × aG):=[(43,cz 4 M14),(66,aD 4 M41),(69,aD 4 M44),(71,aD 4 M46),(86,aD 4 M67),(87,aD 4 M68),(70,H45)]
@[simp] theorem Kc:aC mL 43=some (cz 4 M14):=rfl
@[simp] theorem J7:aC mL 66=some (aD 4 M41):=rfl
@[simp] theorem J6:aC mL 69=some (aD 4 M44):=rfl
@[simp] theorem J4:aC mL 71=some (aD 4 M46):=rfl
@[simp] theorem J3:aC mL 86=some (aD 4 M67):=rfl
@[simp] theorem J2:aC mL 87=some (aD 4 M68):=rfl
@[simp] theorem J5:aC mL 70=some H45:=rfl
theorem sO:∀f M,aC mL f=some M->ak Try.prog GC f M:=af (ak.of_pureF lr 4) (af (ak.of_pure ni 4) (af (ak.of_pure wE 4) (af (ak.of_pure wC 4) (af (ak.of_pure EU 4) (af (ak.of_pure ET 4) (af wD az))))))
structure I19 (A:aa) (T:aR) (chv ov:AV) (l:List aZ):Prop where
 t:A[0]?=some (.row 5 false [au T chv])
 o:A[1]?=some (.row 1 false [ov])
 g:GAt A 2 l
theorem zX {T:aR} {chv ov:AV} {o:List Int} (hO:o∈aH T) (ho:SlA 1 (aj o) ov) {A:aa} {l:List aZ} (hI:I19 A T chv ov l) (hl:l.length<=100) {i:Nat} (hi:i<o.length) :
  ∃B,run (ax GC mL) 300 [.code fB] (ng (.ptr 0 0 0) (.ptr 1 0 0) (.int .i64 (ey T)) (.ptr 2 0 0) ov (.int .i64 (o.length:Int)) (.int .i64 (i:Int))) A =
   some (.normal (ng (.ptr 0 0 0) (.ptr 1 0 0) (.int .i64 (ey T)) (.ptr 2 0 0) ov (.int .i64 (o.length:Int)) (.int .i64 ((i+1:Nat):Int))) B)/\I19 B T chv ov (l++[vZ T o i]):=by
 obtain ⟨hv,hol,_,_⟩:=cu hO
 have hbd:=gy hO
 have hw:=qb hv
 have hch:=hv.2.2.2.1
 have htr:=hv.2.1.2.2
 obtain ⟨ht,h1,hg⟩:=hI
 have ht0:=(List.getElem?_eq_some_iff.1 ht).1
 have h10:=(List.getElem?_eq_some_iff.1 h1).1
 have hlen:=ho.len
 rw [aA] at hlen
 have x1:=fun A=>ho.int (A:=A) _ _ (List.getElem?_eq_getElem hi) .i64
 have ho1:o[i]=o.getD i 0:=by rw [List.getD_eq_getElem?_getD,List.getElem?_eq_getElem hi]; rfl
 have hb1:=hbd o[i] (List.getElem_mem hi)
 obtain ⟨t0,htt⟩:∃t,t=o.getD i 0:=⟨_,rfl⟩
 rw [ho1,<-htt] at x1 hb1
 obtain ⟨w,hww⟩:∃w,w=ey T:=⟨_,rfl⟩
 have ov0:∀X,ac false 1 (A++X) (.ptr 1 0 0)=some ov:=fun X=>by
  have h:(A++X)[1]?=some (.row 1 false [ov]):=by rw [List.getElem?_append_left h10]; exact h1
  rcases ho with ⟨rfl,_⟩ | rfl <;> simp [h]
 obtain ⟨ch,pk,pl,tr,bd⟩:=T
 have ht:A[0]?=some (.row 5 false [.agg [chv,.int .i64 pk,.int .i64 pl,.int .i64 tr,.int .i64 bd]]):=ht
 have tl:∀X,(A++X)[0]?=some (.row 5 false [.agg [chv,.int .i64 pk,.int .i64 pl,.int .i64 tr,.int .i64 bd]]):=fun X=>by rw [List.getElem?_append_left ht0]; exact ht
 have t3:∀X,ab 3 (A++X) (.ptr 0 0 0)=some (.ptr 0 0 3):=fun X=>by simp [ab,tl X]
 have t4:∀X,ab 4 (A++X) (.ptr 0 0 0)=some (.ptr 0 0 4):=fun X=>by simp [ab,tl X]
 have l3:∀X,ac false 1 (A++X) (.ptr 0 0 3)=some (.int .i64 tr):=fun X=>by simp [ac,tl X,bL]
 have l4:∀X,ac false 1 (A++X) (.ptr 0 0 4)=some (.int .i64 bd):=fun X=>by simp [ac,tl X,bL]
 have a1:∀a b c d,ab 1 (A++[.row 4 false [.agg [a,b,c,d]]]) (.ptr A.length 0 0)=some (.ptr A.length 0 1):=fun a b c d=>ph (es:=[a,b,c,d]) (k:=4) rfl (by omega)
 have a2:∀a b c d,ab 2 (A++[.row 4 false [.agg [a,b,c,d]]]) (.ptr A.length 0 0)=some (.ptr A.length 0 2):=fun a b c d=>ph (es:=[a,b,c,d]) (k:=4) rfl (by omega)
 have a3:∀a b c d,ab 3 (A++[.row 4 false [.agg [a,b,c,d]]]) (.ptr A.length 0 0)=some (.ptr A.length 0 3):=fun a b c d=>ph (es:=[a,b,c,d]) (k:=4) rfl (by omega)
 have r1:∀a b c d,ac false 1 (A++[.row 4 false [.agg [a,b,c,d]]]) (.ptr A.length 0 1)=some b:=fun a b c d=>qX (es:=[a,b,c,d]) (k:=4) rfl rfl
 have r2:∀a b c d,ac false 1 (A++[.row 4 false [.agg [a,b,c,d]]]) (.ptr A.length 0 2)=some c:=fun a b c d=>qX (es:=[a,b,c,d]) (k:=4) rfl rfl
 have r4:∀a b c d,ac true 4 (A++[.row 4 false [.agg [a,b,c,d]]]) (.ptr A.length 0 0)=some (.agg [a,b,c,d]):=fun a b c d=>CA (es:=[a,b,c,d]) (k:=4) rfl (by omega)
 have s1:∀a b c d z,aB 1 (A++[.row 4 false [.agg [a,b,c,d]]]) (.ptr A.length 0 1) (.int .i64 z)=some (A++[.row 4 false [.agg [a,.int .i64 z,c,d]]]):=fun a b c d z=>ww (es:=[a,b,c,d]) (k:=4) rfl (by omega) (by omega) rfl rfl
 have s2:∀a b c d z,aB 1 (A++[.row 4 false [.agg [a,b,c,d]]]) (.ptr A.length 0 2) (.int .i64 z)=some (A++[.row 4 false [.agg [a,b,.int .i64 z,d]]]):=fun a b c d z=>ww (es:=[a,b,c,d]) (k:=4) rfl (by omega) (by omega) rfl rfl
 have s3:∀a b c d z,aB 1 (A++[.row 4 false [.agg [a,b,c,d]]]) (.ptr A.length 0 3) (.int .i64 z)=some (A++[.row 4 false [.agg [a,b,c,.int .i64 z]]]):=fun a b c d z=>ww (es:=[a,b,c,d]) (k:=4) rfl (by omega) (by omega) rfl rfl
 have sA:∀a b c d x y z u,aB 4 (A++[.row 4 false [.agg [a,b,c,d]]]) (.ptr A.length 0 0) (.agg [.int .i64 x,.int .i64 y,.int .i64 z,.int .i64 u])=some (A++[.row 4 false [.agg [.int .i64 x,.int .i64 y,.int .i64 z,.int .i64 u]]]):=fun a b c d x y z u=>by simp [aB,bg]
 have b0:=bp i o.length .i64
 rw [decide_eq_true hi] at b0
 have b1:=a9 i (by omega)
 have b2:=bp (i+1) o.length .i64
 have b3:ag .eql (.int .i64 bd) (.int .i64 2)=some (.bool (decide (bd=2))):=bD _ _
 have b4:ag .add (.int .i64 t0) (.int .i64 1)=some (.int .i64 (t0+1)):=a7 (by simp only at hch hb1; omega)
 have b6:ag .add (.int .i64 w) (.int .i64 tr)=some (.int .i64 (w+tr)):=a7 (by simp only at htr; omega)
 obtain ⟨nx,hnx⟩:∃x,x=qo o i:=⟨_,rfl⟩
 have b5:ag .neq (.int .i64 nx) (.int .i64 (t0+1))=some (.bool (decide (nx≠t0+1))):=cT _ _
 obtain ⟨ar,har⟩:∃a,a=vZ ⟨ch,pk,pl,tr,bd⟩ o i:=⟨_,rfl⟩
 have hae:ar=⟨t0,nx,w+(if bd=2\/nx≠t0+1 then tr else 0),if i+1<o.length then 0 else 1⟩:=by
  rw [har,hnx,htt,hww]; rfl
 have hgX:=hg.app [.row 4 false [cA ar]]
 obtain ⟨B,k1,k2,k3,k4⟩:=Co (fun _ _ _=>none) hgX (xs:=[ar]) (by simp) (by simp; omega)
 refine ⟨B,?_,⟨by rw [k4 0 (by omega),List.getElem?_append_left ht0]; exact ht,by rw [k4 1 (by omega),List.getElem?_append_left h10]; exact h1,by rw [<-har]; exact k2⟩⟩
 rw [<-hww]
 have k1:H45 (fun _ _ _=>none) [.ptr 2 0 0,.fs 4 [cA ar]] (A++[.row 4 false [cA ar]])=some (.tup [],B):=k1
 rw [show cA ar=.agg [.int .i64 t0,.int .i64 nx,.int .i64 (w+(if bd=2\/nx≠t0+1 then tr else 0)),.int .i64 (if i+1<o.length then 0 else 1)] by rw [hae]; rfl] at k1
 have hsl:∀x y z u:Int,ba 4 [.agg [.int .i64 x,.int .i64 y,.int .i64 z,.int .i64 u]]=some (.fs 4 [.agg [.int .i64 x,.int .i64 y,.int .i64 z,.int .i64 u]]):=fun x y z u=>rfl
 obtain ⟨N,hN⟩:∃n,n=A.length:=⟨_,rfl⟩
 obtain ⟨i1,hi1⟩:∃n,n=i+1:=⟨_,rfl⟩
 have x2:i1<o.length->∀A,ai 1 A ov (.int .i64 (i1:Int))=some (.fp [.int .i64 nx]):=fun h A=>by
  have e:o[i1]?=some nx:=by rw [hnx,qo,if_pos (by omega),<-hi1,List.getD_eq_getElem?_getD,List.getElem?_eq_getElem h]; rfl
  exact ho.int (A:=A) _ _ e .i64
 have hnx0:¬ i1<o.length->nx=0:=fun h=>by rw [hnx,qo,if_neg (by omega)]
 have bx:∀z,aY 4 (.agg [.int .i64 z,.int .i64 z,.int .i64 z,.int .i64 z]) A=some (.ptr N 0 0,A++[.row 4 false [.agg [.int .i64 z,.int .i64 z,.int .i64 z,.int .i64 z]]]):=fun z=>by rw [hN]; rfl
 rw [<-hi1] at b1 b2 k1 ⊢
 rw [<-hN] at a1 a2 a3 r1 r2 r4 s1 s2 s3 sA
 obtain ⟨t1,ht1⟩:∃x,x=t0+1:=⟨_,rfl⟩
 rw [<-ht1] at b4 b5 k1
 obtain ⟨w1,hw1⟩:∃x,x=w+tr:=⟨_,rfl⟩
 rw [<-hw1] at b6
 by_cases hc:i1<o.length
 ·rw [decide_eq_true hc] at b2
  have x2:=x2 hc
  rw [if_pos hc] at k1
  by_cases hd:bd=2
  ·rw [decide_eq_true hd] at b3
   rw [if_pos (.inl hd),<-hw1] at k1
   simp [fB,b0,b1,b2,b3,b6,x1,x2,ov0,hlen,t3,t4,l3,l4,a1,a2,a3,r2,r4,s1,s2,s3,sA,bx,hsl,k1,-ag,-ac,-aB,-ab,-ai,-aw,-ba,-aY]
  ·rw [decide_eq_false hd] at b3
   by_cases he:nx≠t1
   ·rw [decide_eq_true he] at b5
    rw [if_pos (.inr he),<-hw1] at k1
    simp [fB,b0,b1,b2,b3,b4,b5,b6,x1,x2,ov0,hlen,t3,t4,l3,l4,a1,a2,a3,r1,r2,r4,s1,s2,s3,sA,bx,hsl,k1,-ag,-ac,-aB,-ab,-ai,-aw,-ba,-aY]
   ·rw [decide_eq_false he] at b5
    rw [if_neg (fun h=>h.elim hd he),Int.add_zero] at k1
    simp [fB,b0,b1,b2,b3,b4,b5,x1,x2,ov0,hlen,t4,l4,a1,a3,r1,r4,s1,s3,sA,bx,hsl,k1,-ag,-ac,-aB,-ab,-ai,-aw,-ba,-aY]
 ·rw [decide_eq_false hc] at b2
  have hnx0:=hnx0 hc
  rw [if_neg hc] at k1
  subst hnx0
  by_cases hd:bd=2
  ·rw [decide_eq_true hd] at b3
   rw [if_pos (.inl hd),<-hw1] at k1
   simp [fB,b0,b1,b2,b3,b6,x1,ov0,hlen,t3,t4,l3,l4,a2,r2,r4,s2,sA,bx,hsl,k1,-ag,-ac,-aB,-ab,-ai,-aw,-ba,-aY]
  ·rw [decide_eq_false hd] at b3
   by_cases he:(0:Int)≠t1
   ·rw [decide_eq_true he] at b5
    rw [if_pos (.inr he),<-hw1] at k1
    simp [fB,b0,b1,b2,b3,b4,b5,b6,x1,ov0,hlen,t3,t4,l3,l4,a1,a2,r1,r2,r4,s2,sA,bx,hsl,k1,-ag,-ac,-aB,-ab,-ai,-aw,-ba,-aY]
   ·rw [decide_eq_false he] at b5
    rw [if_neg (fun h=>h.elim hd he),Int.add_zero] at k1
    simp [fB,b0,b1,b2,b3,b4,b5,x1,ov0,hlen,t4,l4,a1,r1,r4,sA,bx,hsl,k1,-ag,-ac,-aB,-ab,-ai,-aw,-ba,-aY]
end Clu
namespace Clu
open Go
open Cy (GC io cV bH bK cf aM be aA aZ cA cm cn dF okA)
def fnL (T:aR):AV:=if T.blades=2 then .func (.func 87) [] [] else .func (.func 86) [] []
theorem AM {T:aR} (_hv:a0 T) {o:List Int} {ov:AV} (ho:SlA 1 (aj o) ov) (hl:o.length<=200) (j:Int) (hj : -1000<=j/\j<=1000) (A:aa):(ax GC mL).call (fnL T) [ov,.int .i64 j] A=some (lkA (lkT T o j).1 (lkT T o j).2.1 (lkT T o j).2.2,A):=by
 have f1:∀n,frz A n ov=ov:=fun n=>ho.frz n
 unfold fnL lkT
 split
 ·have m:=Hj ov j
  simp [m,f1,lkA,aM,-frz]
 ·have m:=Hk ho hl hj
  simp [m,f1,lkA,aM,-frz]
theorem Bl (T:aR) (o:List Int) (j:Int):(lkT T o j).2.2=0\/(lkT T o j).2.2=1:=by
 unfold lkT
 split
 ·exact .inr rfl
 ·simp only
  split
  ·exact .inr rfl
  ·exact .inl rfl
theorem zW {T:aR} {chv ov:AV} {o:List Int} (hO:o∈aH T) (hcv:SlA 2 (T.ch.map chA) chv) (ho:SlA 1 (aj o) ov) {A:aa} {l:List aZ} (hI:I19 A T chv ov l) (hl:l.length<=100) {i:Nat} (hi:i<T.ch.length) :
  ∃B,run (ax GC mL) 300 [.code lH] (nf (.ptr 1 0 0) (.int .i64 (ey T)) (.ptr 2 0 0) (fnL T) chv (.int .i64 (T.ch.length:Int)) (.int .i64 (i:Int))) A =
   some (.normal (nf (.ptr 1 0 0) (.int .i64 (ey T)) (.ptr 2 0 0) (fnL T) chv (.int .i64 (T.ch.length:Int)) (.int .i64 ((i+1:Nat):Int))) B)/\I19 B T chv ov (l++tO T o i):=by
 obtain ⟨hv,hol,_,_⟩:=cu hO
 have hw:=qb hv
 have hch:=hv.2.2.2.1
 obtain ⟨ht,h1,hg⟩:=hI
 have ht0:=(List.getElem?_eq_some_iff.1 ht).1
 have h10:=(List.getElem?_eq_some_iff.1 h1).1
 have hx0:T.ch.getD i (0,0)=T.ch[i]:=by rw [List.getD_eq_getElem?_getD,List.getElem?_eq_getElem hi]; rfl
 have hxv:=hv.1 _ (List.getElem_mem hi)
 have x1:∀A,ai 2 A chv (.int .i64 (i:Int))=some (.fp [.int .i64 (T.ch.getD i (0,0)).1,.int .i64 (T.ch.getD i (0,0)).2]):=fun A=>by
  rw [hx0]
  exact hcv.index (A:=A) (x:=chA T.ch[i]) (by simp [hi]) rfl (by omega) .i64
 have cl:=AM hv ho (by omega) ((i:Int)+1) (by omega)
 have lb:=Bl T o ((i:Int)+1)
 have ha:tO T o i=tO T o i:=rfl
 conv at ha=>rhs; unfold tO
 rw [ha]
 obtain ⟨⟨k1,k2,k3⟩,hk⟩:∃k,k=lkT T o ((i:Int)+1):=⟨_,rfl⟩
 rw [<-hk] at cl lb ⊢
 obtain ⟨⟨tm,sy⟩,hx⟩:∃x,x=T.ch.getD i (0,0):=⟨_,rfl⟩
 rw [hx0] at hx
 rw [<-hx] at hxv
 rw [hx0,<-hx] at x1
 rw [hx0,<-hx]
 simp only [sw] at cl lb x1 hxv ⊢
 obtain ⟨w,hww⟩:∃w,w=ey T:=⟨_,rfl⟩
 rw [<-hww] at hw ⊢
 have ov0:∀X,ac false 1 (A++X) (.ptr 1 0 0)=some ov:=fun X=>by
  have h:(A++X)[1]?=some (.row 1 false [ov]):=by rw [List.getElem?_append_left h10]; exact h1
  rcases ho with ⟨rfl,_⟩ | rfl <;> simp [h]
 have b0:=bp i T.ch.length .i64
 rw [decide_eq_true hi] at b0
 have b1:=a9 i (by omega)
 have b2:ag .add (.int .i64 (i:Int)) (.int .i64 1)=some (.int .i64 ((i:Int)+1)):=a7 (by omega)
 have b3:ag .add (.int .i64 w) (.int .i64 tm)=some (.int .i64 (w+tm)):=a7 (by omega)
 have b4:ag .add (.int .i64 (w+tm)) (.int .i64 sy)=some (.int .i64 (w+tm+sy)):=a7 (by omega)
 have b5:rQ .neg (.int .i64 (w+tm+sy))=some (.int .i64 (-(w+tm+sy))):=dI (by omega)
 have b6:rQ .neg (.int .i64 k3)=some (.int .i64 (-k3)):=dI (by omega)
 obtain ⟨A1,hA1⟩:∃X,X=A++[Ent.row 2 false [.agg [.int .i64 tm,.int .i64 sy]]]:=⟨_,rfl⟩
 have ov1:ac false 1 A1 (.ptr 1 0 0)=some ov:=by rw [hA1]; exact ov0 _
 have bx:aY 2 (.agg [.int .i64 0,.int .i64 0]) A=some (.ptr A.length 0 0,A++[.row 2 false [.agg [.int .i64 0,.int .i64 0]]]):=rfl
 have s0:aB 2 (A++[.row 2 false [.agg [.int .i64 0,.int .i64 0]]]) (.ptr A.length 0 0) (.agg [.int .i64 tm,.int .i64 sy])=some A1:=by simp [aB,bg,hA1]
 have bx1:aY 3 (.agg [.int .i64 0,.int .i64 0,.int .i64 0]) A1=some (.ptr A1.length 0 0,A1++[.row 3 false [.agg [.int .i64 0,.int .i64 0,.int .i64 0]]]):=rfl
 have s1:aB 3 (A1++[.row 3 false [.agg [.int .i64 0,.int .i64 0,.int .i64 0]]]) (.ptr A1.length 0 0) (lkA k1 k2 k3)=some (A1++[.row 3 false [lkA k1 k2 k3]]):=by simp [aB,bg,lkA]
 have hA1n:∀X,(A1++X)[A.length]?=some (Ent.row 2 false [.agg [.int .i64 tm,.int .i64 sy]]):=fun X=>by rw [List.getElem?_append_left (by rw [hA1]; simp),hA1]; simp
 have f0:∀X,ab 0 (A1++X) (.ptr A.length 0 0)=some (.ptr A.length 0 0):=fun X=>by simp [ab,hA1n X]
 have f1:∀X,ab 1 (A1++X) (.ptr A.length 0 0)=some (.ptr A.length 0 1):=fun X=>by simp [ab,hA1n X]
 have e0:∀X,ac false 1 (A1++X) (.ptr A.length 0 0)=some (.int .i64 tm):=fun X=>by simp [ac,hA1n X,bL]
 have e1:∀X,ac false 1 (A1++X) (.ptr A.length 0 1)=some (.int .i64 sy):=fun X=>by simp [ac,hA1n X,bL]
 have g0:ab 0 (A1++[.row 3 false [lkA k1 k2 k3]]) (.ptr A1.length 0 0)=some (.ptr A1.length 0 0):=ph (es:=[.int .i64 k1,.int .i64 k2,.int .i64 k3]) (k:=3) rfl (by omega)
 have g1:ab 1 (A1++[.row 3 false [lkA k1 k2 k3]]) (.ptr A1.length 0 0)=some (.ptr A1.length 0 1):=ph (es:=[.int .i64 k1,.int .i64 k2,.int .i64 k3]) (k:=3) rfl (by omega)
 have g2:ab 2 (A1++[.row 3 false [lkA k1 k2 k3]]) (.ptr A1.length 0 0)=some (.ptr A1.length 0 2):=ph (es:=[.int .i64 k1,.int .i64 k2,.int .i64 k3]) (k:=3) rfl (by omega)
 have d0:ac false 1 (A1++[.row 3 false [lkA k1 k2 k3]]) (.ptr A1.length 0 0)=some (.int .i64 k1):=qX (es:=[.int .i64 k1,.int .i64 k2,.int .i64 k3]) (k:=3) rfl rfl
 have d1:ac false 1 (A1++[.row 3 false [lkA k1 k2 k3]]) (.ptr A1.length 0 1)=some (.int .i64 k2):=qX (es:=[.int .i64 k1,.int .i64 k2,.int .i64 k3]) (k:=3) rfl rfl
 have d2:ac false 1 (A1++[.row 3 false [lkA k1 k2 k3]]) (.ptr A1.length 0 2)=some (.int .i64 k3):=qX (es:=[.int .i64 k1,.int .i64 k2,.int .i64 k3]) (k:=3) rfl rfl
 have hgX:GAt (A1++[.row 3 false [lkA k1 k2 k3]]) 2 l:=by rw [hA1]; exact (hg.app _).app _
 obtain ⟨B,q1,q2,q3,q4⟩:=Co (fun _ _ _=>none) hgX (xs:=[⟨k1,k2,w+tm,k3⟩,⟨k2,k1,-(w+tm+sy),-k3⟩]) (by simp) (by simp; omega)
 have hA10:∀j,j<A.length->(A1++[Ent.row 3 false [lkA k1 k2 k3]])[j]?=A[j]?:=fun j hj=>by
  rw [hA1,List.append_assoc,List.getElem?_append_left hj]
 refine ⟨B,?_,⟨by rw [q4 0 (by omega),hA10 0 ht0]; exact ht,by rw [q4 1 (by omega),hA10 1 h10]; exact h1,q2⟩⟩
 obtain ⟨w1,hw1⟩:∃x,x=w+tm:=⟨_,rfl⟩
 rw [<-hw1] at b3 b4 b5 q1
 obtain ⟨w2,hw2⟩:∃x,x=w1+sy:=⟨_,rfl⟩
 rw [<-hw2] at b4 b5 q1
 obtain ⟨w3,hw3⟩:∃x,x = -w2:=⟨_,rfl⟩
 rw [<-hw3] at b5 q1
 obtain ⟨k4,hk4⟩:∃x,x = -k3:=⟨_,rfl⟩
 rw [<-hk4] at b6 q1
 have q1:H45 (fun _ _ _=>none) [.ptr 2 0 0,.fs 4 [.agg [.int .i64 k1,.int .i64 k2,.int .i64 w1,.int .i64 k3],.agg [.int .i64 k2,.int .i64 k1,.int .i64 w3,.int .i64 k4]]] (A1++[.row 3 false [lkA k1 k2 k3]])=some (.tup [],B):=q1
 have hsl:ba 4 [.agg [.int .i64 k1,.int .i64 k2,.int .i64 w1,.int .i64 k3],.agg [.int .i64 k2,.int .i64 k1,.int .i64 w3,.int .i64 k4]]=some (.fs 4 [.agg [.int .i64 k1,.int .i64 k2,.int .i64 w1,.int .i64 k3],.agg [.int .i64 k2,.int .i64 k1,.int .i64 w3,.int .i64 k4]]):=rfl
 have cl:=cl A1
 obtain ⟨j1,hj1⟩:∃x,x=(i:Int)+1:=⟨_,rfl⟩
 rw [<-hj1] at b2 cl
 obtain ⟨i1,hi1⟩:∃n,n=i+1:=⟨_,rfl⟩
 have hj2:j1=(i1:Int):=by omega
 subst hj2
 rw [<-hi1] at b1 ⊢
 obtain ⟨F,hF⟩:∃F,F=fnL T:=⟨_,rfl⟩
 rw [<-hF] at cl ⊢
 obtain ⟨L,hL⟩:∃L,L=lkA k1 k2 k3:=⟨_,rfl⟩
 rw [<-hL] at cl s1 g0 g1 g2 d0 d1 d2 q1
 simp [lH,b0,b1,b3,b4,b5,b6,x1,ov1,bx,s0,bx1,s1,f0,f1,e0,e1,g0,g1,g2,d0,d1,d2,hsl,cl,q1,-ag,-ac,-aB,-ab,-ai,-ba,-aY,-rQ]
def M19:aP:=fun args=>evF (ax GC mL) 300 zu 4 args
theorem ud:bY Try.prog GC 44 M19:=bY.of_ev (E:=ax GC mL) (aq sO) rfl K5 yh 4 fun _ _ h=>⟨300,h⟩
def G3 (r:Option (List aZ)):AV:=.tup [slA 4 ((r.getD []).map cA),.int .i64 (if r.isSome then 0 else 130)]
theorem yS (T:aR) (o:List Int) (i:Nat):((List.range (i+1)).map (vZ T o))=(List.range i).map (vZ T o)++[vZ T o i]:=by
 rw [List.range_succ,List.map_append]; rfl
theorem si (T:aR) (o:List Int) (i:Nat):((List.range (i+1)).flatMap (tO T o))=(List.range i).flatMap (tO T o)++tO T o i:=by
 rw [List.range_succ,List.flatMap_append]; simp
theorem sh (T:aR) (o:List Int) (i:Nat):((List.range i).flatMap (tO T o)).length=2*i:=by
 induction i with
 | zero=>rfl
 | succ i ih=>rw [si,List.length_append,ih]; rfl
theorem DN {T:aR} {chv ov:AV} {o:List Int} (hO:o∈aH T) (ho:SlA 1 (aj o) ov):∀(c i:Nat) (A:aa) (m:Nat),i+c=o.length->I19 A T chv ov ((List.range i).map (vZ T o))->c<m ->
  ∃B,bZ (evC (ax GC mL) 300 fB) ig m (ng (.ptr 0 0 0) (.ptr 1 0 0) (.int .i64 (ey T)) (.ptr 2 0 0) ov (.int .i64 (o.length:Int)) (.int .i64 (i:Int))) A =
   some (.exit 0 ((ng (.ptr 0 0 0) (.ptr 1 0 0) (.int .i64 (ey T)) (.ptr 2 0 0) ov (.int .i64 (o.length:Int)) (.int .i64 (o.length:Int))).set 19 (.bool false)) B)/\I19 B T chv ov ((List.range o.length).map (vZ T o)):=by
 obtain ⟨hv,hol,_,_⟩:=cu hO
 have hn4:=hv.2.2.2.1
 intro c
 induction c with
 | zero=>
  intro i A m hi hI hm
  obtain ⟨m,rfl⟩:∃j,m=j+1:=⟨m-1,by omega⟩
  obtain rfl:i=o.length:=by omega
  refine ⟨A,?_,hI⟩
  have b0:=bp o.length o.length .i64
  rw [decide_eq_false (by omega)] at b0
  rw [aQ,yC]
  simp [fB,b0,-ag]
 | succ c ih=>
  intro i A m hi hI hm
  obtain ⟨m,rfl⟩:∃j,m=j+1:=⟨m-1,by omega⟩
  obtain ⟨B,h1,h2⟩:=zX hO ho hI (by simp; omega) (i:=i) (by omega)
  rw [<-yS] at h2
  obtain ⟨C,h3,h4⟩:=ih (i+1) B m (by omega) h2 (by omega)
  refine ⟨C,?_,h4⟩
  rw [aQ,yC,h1]
  exact h3
theorem DM {T:aR} {chv ov:AV} {o:List Int} (hO:o∈aH T) (hcv:SlA 2 (T.ch.map chA) chv) (ho:SlA 1 (aj o) ov) {l0:List aZ} (hl0:l0.length<=50):∀(c i:Nat) (A:aa) (m:Nat),i+c=T.ch.length->I19 A T chv ov (l0++(List.range i).flatMap (tO T o))->c<m ->
  ∃B,bZ (evC (ax GC mL) 300 lH) ic m (nf (.ptr 1 0 0) (.int .i64 (ey T)) (.ptr 2 0 0) (fnL T) chv (.int .i64 (T.ch.length:Int)) (.int .i64 (i:Int))) A =
   some (.exit 2 ((nf (.ptr 1 0 0) (.int .i64 (ey T)) (.ptr 2 0 0) (fnL T) chv (.int .i64 (T.ch.length:Int)) (.int .i64 (T.ch.length:Int))).set 25 (.bool false)) B)/\I19 B T chv ov (l0++(List.range T.ch.length).flatMap (tO T o)):=by
 obtain ⟨hv,hol,_,_⟩:=cu hO
 have hn4:=hv.2.2.2.1
 intro c
 induction c with
 | zero=>
  intro i A m hi hI hm
  obtain ⟨m,rfl⟩:∃j,m=j+1:=⟨m-1,by omega⟩
  obtain rfl:i=T.ch.length:=by omega
  refine ⟨A,?_,hI⟩
  have b0:=bp T.ch.length T.ch.length .i64
  rw [decide_eq_false (by omega)] at b0
  rw [aQ,yB]
  simp [lH,b0,-ag]
 | succ c ih=>
  intro i A m hi hI hm
  obtain ⟨m,rfl⟩:∃j,m=j+1:=⟨m-1,by omega⟩
  obtain ⟨B,h1,h2⟩:=zW hO hcv ho hI (by rw [List.length_append,sh]; omega) (i:=i) (by omega)
  rw [List.append_assoc,<-si] at h2
  obtain ⟨C,h3,h4⟩:=ih (i+1) B m (by omega) h2 (by omega)
  refine ⟨C,?_,h4⟩
  rw [aQ,yB,h1]
  exact h3
theorem Cl {T:aR} {chv ov:AV} {o:List Int} (hcv:SlA 2 (T.ch.map chA) chv) (hl:T.ch.length<=200) (ho:SlA 1 (aj o) ov):M19 [au T chv,ov]=some (G3 (AO T o)):=by
 have m14:=lV hcv hl
 have m41:=vk ho (ll:=aH T)
 have ft:=fun A=>aX (T:=T) (fun A n=>hcv.frz (A:=A) n) A 3
 have fo:∀A n,frz A n ov=ov:=fun A n=>ho.frz n
 have fO:∀A,frz A 4 (ly (aH T))=ly (aH T):=fun A=>(bb 1 _).frz 4
 have nO:bk 4 (ly (aH T))=true:=(bb 1 _).noRef 4
 have lt:∀X,ac true 5 (.row 5 false [au T chv] :: X) (.ptr 0 0 0)=some (au T chv):=fun X=>rfl
 have lo:∀a X,ac false 1 (a :: .row 1 false [ov] :: X) (.ptr 1 0 0)=some ov:=fun a X=>by
  rcases ho with ⟨rfl,_⟩ | rfl <;> simp
 have fF:frz [.row 5 false [au T chv],.row 1 false [ov]] 4 (.func (.func 67) [] [.ptr 1 0 0])=fnO ov:=by
  have:cellsOf ov=[ov]:=by rcases ho with ⟨rfl,_⟩ | rfl <;> rfl
  have hs:ov.solid=true:=by rcases ho with ⟨rfl,_⟩ | rfl <;> rfl
  simp [frz,this,fo,fnO,hs,-cellsOf,-AV.solid]
 have bx0:aY 5 (au T chv) []=some (.ptr 0 0 0,[.row 5 false [au T chv]]):=rfl
 have bx1:aY 1 ov [.row 5 false [au T chv]]=some (.ptr 1 0 0,[.row 5 false [au T chv],.row 1 false [ov]]):=by
  rcases ho with ⟨rfl,_⟩ | rfl <;> rfl
 have bx2:∀t:AV,aY 1 .nilS [.row 5 false [t],.row 1 false [ov]]=some (.ptr 2 0 0,[.row 5 false [t],.row 1 false [ov],.row 1 false [.nilS]]):=fun t=>rfl
 unfold M19 AO
 rw [jj _ _ rfl]
 by_cases hO:o∈aH T
 ·obtain ⟨hv,hol,_,_⟩:=cu hO
  have hn4:=hv.2.2.2.1
  have m41:=m41 (Nat.le_trans (gT T) (by omega)) (fun l hl=>by have:=(cu hl).2.1; omega)
  rw [decide_eq_true hO] at m41
  rw [if_pos hO]
  have m44:=Hs chv hv
  have l4:∀X,ab 4 (.row 5 false [au T chv] :: X) (.ptr 0 0 0)=some (.ptr 0 0 4):=fun X=>rfl
  have e0:∀X,ab 0 (.row 5 false [au T chv] :: X) (.ptr 0 0 0)=some (.ptr 0 0 0):=fun X=>rfl
  obtain ⟨B1,h1,h2⟩:=DN hO ho (chv:=chv) o.length 0 [.row 5 false [au T chv],.row 1 false [ov],.row 1 false [.nilS]] 300 (by omega) ⟨rfl,rfl,⟨.nilS,rfl,.inl ⟨rfl,rfl⟩⟩⟩ (by omega)
  have hB1:∀ {x},B1[0]?=x->B1[0]?=x:=id
  have l4b:ab 4 B1 (.ptr 0 0 0)=some (.ptr 0 0 4):=by simp [ab,h2.t]
  have l4c:ac false 1 B1 (.ptr 0 0 4)=some (.int .i64 T.blades):=by simp [ac,h2.t,au,bL]
  have l0b:ab 0 B1 (.ptr 0 0 0)=some (.ptr 0 0 0):=by simp [ab,h2.t]
  have l0c:ac false 1 B1 (.ptr 0 0 0)=some chv:=by simp [ac,h2.t,au,bL]
  have iv:fG false 3 1 vK (.int .i64 T.blades)=some (fnL T):=by
   rcases hv.2.2.2.2 with h | h <;> rw [h] <;> unfold fnL <;> rw [h] <;> rfl
  have hlen:=hcv.len
  rw [List.length_map] at hlen
  have hlo:=ho.len
  rw [aA] at hlo
  have h2':I19 B1 T chv ov ((List.range o.length).map (vZ T o)++(List.range 0).flatMap (tO T o)):=by simpa using h2
  obtain ⟨B2,h3,h4⟩:=DM hO hcv ho (l0:=(List.range o.length).map (vZ T o)) (by simp; omega) T.ch.length 0 B1 300 (by omega) h2' (by omega)
  obtain ⟨v,g1,g2,g3⟩:=h4.g.frz
  have g2:=g2 0
  have g3:=g3 0
  obtain ⟨R,hR⟩:∃R,R=slA 4 ((bn T o).map cA):=⟨_,rfl⟩
  rw [show (List.range o.length).map (vZ T o)++(List.range T.ch.length).flatMap (tO T o)=bn T o from rfl,<-hR] at g2
  have hRR:G3 (some (bn T o))=.tup [R,.int .i64 0]:=by rw [hR]; rfl
  rw [hRR]
  have h1:bZ (evC (ax GC mL) 300 fB) ig 300 (ng (.ptr 0 0 0) (.ptr 1 0 0) (.int .i64 (ey T)) (.ptr 2 0 0) ov (.int .i64 (o.length:Int)) (.int .i64 0)) [.row 5 false [au T chv],.row 1 false [ov],.row 1 false [.nilS]]=_:=h1
  have h3:bZ (evC (ax GC mL) 300 lH) ic 300 (nf (.ptr 1 0 0) (.int .i64 (ey T)) (.ptr 2 0 0) (fnL T) chv (.int .i64 (T.ch.length:Int)) (.int .i64 0)) B1=_:=h3
  obtain ⟨t,htt⟩:∃t,t=au T chv:=⟨_,rfl⟩
  obtain ⟨F,hF⟩:∃F,F=fnL T:=⟨_,rfl⟩
  obtain ⟨Q,hQ⟩:∃F,F=ly (aH T):=⟨_,rfl⟩
  obtain ⟨w,hw⟩:∃F,F=ey T:=⟨_,rfl⟩
  rw [<-htt] at m14 ft lt fF bx0 bx1 m44 h1 ⊢
  rw [<-hF] at iv h3
  rw [<-hQ] at m14 m41 fO nO
  rw [<-hw] at m44 h1 h3
  have cb:∀x:AV,(cellsOf x).length=(cellsOf x).length:=fun _=>rfl
  have ct:(cellsOf t).length=5:=by rw [htt]; rfl
  have co:(cellsOf ov).length=1:=by rcases ho with ⟨rfl,_⟩ | rfl <;> rfl
  have fT:frz B2 4 (.tup [v,.int .i64 0])=.tup [R,.int .i64 0]:=by
   rw [<-g2]; rfl
  have rT:a8 B2 4 (.tup [v,.int .i64 0])=true:=by
   have g3:a8 B2 3 v=true:=g3
   simp [a8,g3]
  simp [zu,bx0,bx1,bx2,fT,rT,ct,co,lt,lo,m14,m41,m44,ft,fO,nO,fF,Gb h1,Ga h3,l4b,l4c,l0b,l0c,iv,hlen,hlo,ze,g1,-aY,-ac,-ab,-aw,-frz,-cellsOf]
 ·have hll:(aH T).length<=256:=gT T
  have m41:=m41 hll (fun l hl=>by have:=cu hl; have:=this.1.2.2.2.1; omega)
  rw [decide_eq_false hO] at m41
  rw [if_neg hO]
  obtain ⟨t,htt⟩:∃t,t=au T chv:=⟨_,rfl⟩
  obtain ⟨Q,hQ⟩:∃F,F=ly (aH T):=⟨_,rfl⟩
  rw [<-htt] at m14 ft lt fF bx0 bx1 ⊢
  rw [<-hQ] at m14 m41 fO nO
  have ct:(cellsOf t).length=5:=by rw [htt]; rfl
  have co:(cellsOf ov).length=1:=by rcases ho with ⟨rfl,_⟩ | rfl <;> rfl
  have fT:∀A,frz A 4 (.tup [.nilS,.int .i64 130])=.tup [.nilS,.int .i64 130]:=fun A=>rfl
  have rT:∀A,a8 A 4 (.tup [.nilS,.int .i64 130])=true:=fun A=>rfl
  simp [zu,bx0,bx1,fT,rT,ct,co,lt,m14,m41,ft,fO,nO,fF,-aY,-ac,-ab,-aw,-frz,-cellsOf]
  rfl
end Clu
namespace Clu
open Go
open Cy (GC io cV bH bK cf aM be aA aZ cA cm cn dF okA smM smT lvM lvT fJ fg iC ce nm)
theorem uG {o:List Int} {i:Nat} (h:i<o.length):o.getD i 0∈o:=by
 rw [List.getD_eq_getElem?_getD,List.getElem?_eq_getElem h]; exact List.getElem_mem h
theorem tM {T:aR} {o:List Int} (hO:o∈aH T):dF (o.length:Int) (bn T o)/\∀x∈bn T o,x.inR:=by
 obtain ⟨hv,hol,_,_⟩:=cu hO
 have hbd:=gy hO
 have hw:=qb hv
 have hn1:=hv.2.2.1
 have hn4:=hv.2.2.2.1
 have htr:=hv.2.1.2.2
 have key:∀x∈bn T o,okA (o.length:Int) x:=fun x hx=>by
  rcases List.mem_append.1 hx with hx | hx
  ·obtain ⟨i,hi,rfl⟩:=List.mem_map.1 hx
   rw [List.mem_range] at hi
   have h1:=hbd _ (uG hi)
   have h2:0<=qo o i/\qo o i<=T.ch.length:=by
    unfold qo
    split
    ·rename_i h; exact hbd _ (uG h)
    ·omega
   refine ⟨?_,?_,?_,?_⟩ <;> simp only [vZ] <;> (try split) <;> omega
  ·obtain ⟨i,hi,hx⟩:=List.mem_flatMap.1 hx
   rw [List.mem_range] at hi
   have hx0:T.ch.getD i (0,0)=T.ch[i]:=by rw [List.getD_eq_getElem?_getD,List.getElem?_eq_getElem hi]; rfl
   have hxv:=hv.1 _ (List.getElem_mem hi)
   rw [<-hx0] at hxv
   simp only [sw] at hxv
   have lb:=Bl T o ((i:Int)+1)
   have l1:0<=(lkT T o ((i:Int)+1)).1/\(lkT T o ((i:Int)+1)).1<=o.length-1/\0<=(lkT T o ((i:Int)+1)).2.1/\(lkT T o ((i:Int)+1)).2.1<=o.length-1:=by
    unfold lkT
    split <;> simp only <;> omega
   simp only [tO,List.mem_cons,List.not_mem_nil,or_false] at hx
   rcases hx with rfl | rfl <;> refine ⟨?_,?_,?_,?_⟩ <;> simp only <;> omega
 refine ⟨⟨by omega,?_,key⟩,fun x hx=>?_⟩
 ·unfold bn
  rw [List.length_append,sh]
  simp; omega
 ·obtain ⟨h1,h2,h3,h4⟩:=key x hx
  refine ⟨?_,?_,?_,?_⟩ <;> unfold inI <;> omega
def f9 (l:List aZ):AV:=slA 4 (l.map cA)
theorem mQ {T:aR} {o:List Int} (hO:o∈aH T):cm (f9 (bn T o))=some (bn T o):=by
 obtain ⟨h1,h2⟩:=tM hO
 exact fJ (by have:=h1.2.1; omega) h2
theorem pX {T:aR} {o:List Int} (hO:o∈aH T):AO T o=some (bn T o):=if_pos hO
def mJ (s:Option (Int × List Int)):Int:=match s with | none=>1000000 | some x=>x.1-1
def iA (T:aR) (s:Option (Int × List Int)) (o:List Int):Option (Int × List Int):=
 match smM (o.length:Int) (bn T o) 1 (mJ s) with
 | some p=>some (p,o)
 | none=>s
def o8 (T:aR):Option (Int × List Int):=(aH T).foldl (iA T) none
structure cy where
 period:Int
 order:List Int
 starts:List Int
 proof:List Int
def nt (T:aR) (x:Int × List Int):cy:=
 ⟨x.1,x.2,(lvM (x.2.length:Int) (bn T x.2) x.1).1,if x.1 > 1 then (lvM (x.2.length:Int) (bn T x.2) (x.1-1)).2.1 else []⟩
def iB (T:aR):Option cy:=(o8 T).map (nt T)
def ui (s:cy):AV:=.agg [.int .i64 s.period,slA 1 (aj s.order),slA 1 (aj s.starts),slA 1 (aj s.proof)]
def Ie:cy:=⟨0,[],[],[]⟩
def o7 (r:Option cy):AV:=.tup [ui (r.getD Ie),.int .i64 (if r.isSome then 0 else 130)]
def sOk (T:aR) (s:Option (Int × List Int)):Prop:=∀x,s=some x->1<=x.1/\x.1<=1000000/\x.2∈aH T
theorem sQ {n:Nat} {l:List aZ} {hi r:Int} (hp:cn hi) (h:smM (n:Int) l 1 hi=some r):1<=r/\r<=hi/\ce n l r/\¬ Cy.Pos l r/\∀q,1<=q->q<r->Cy.Pos l q:=by
 unfold smM at h
 rw [if_pos hp,Int.toNat_natCast] at h
 exact (Cy.qh (n:=n) (l:=l) hp (hi-1+2).toNat 1 (by omega)).1 r h
theorem Dc {n:Nat} {l:List aZ} {hi:Int} (hp:cn hi) (hv:dF n l) (h:smM (n:Int) l 1 hi=none):∀q,1<=q->q<=hi->Cy.Pos l q:=by
 unfold smM at h
 rw [if_pos hp,Int.toNat_natCast] at h
 exact (Cy.qh (n:=n) (l:=l) hp (hi-1+2).toNat 1 (by omega)).2 h ⟨hv,by unfold cn; omega⟩
theorem qK {T:aR} {s:Option (Int × List Int)} (h:sOk T s) {o:List Int} (hO:o∈aH T):sOk T (iA T s o):=by
 have hper:cn (mJ s):=by
  unfold mJ cn
  cases s with
  | none=>simp
  | some x=>have:=h x rfl; simp only; omega
 unfold iA
 cases hm:smM (o.length:Int) (bn T o) 1 (mJ s) with
 | none=>exact h
 | some p=>
  obtain ⟨h1,h2,_⟩:=sQ hper hm
  intro x hx
  injection hx with hx; subst hx
  exact ⟨h1,by unfold cn at hper; simp only; omega,hO⟩
theorem sd {T:aR} {o q:List Int}:iA T (some (1,o)) q=some (1,o):=by
 unfold iA
 have hp:cn 0:=by unfold cn; omega
 cases hm:smM (q.length:Int) (bn T q) 1 ((1:Int)-1) with
 | none=>rfl
 | some p=>
  obtain ⟨h1,h2,_⟩:=sQ (hi:=0) hp hm
  omega
theorem uJ {T:aR} {o:List Int}:∀l:List (List Int),l.foldl (iA T) (some (1,o))=some (1,o)
 | []=>rfl
 | q :: l=>by rw [List.foldl_cons,sd,uJ l]
theorem xI {T:aR}:∀(l:List (List Int)) (s:Option (Int × List Int)),(∀o∈l,o∈aH T)->sOk T s->sOk T (l.foldl (iA T) s)
 | [],_,_,h=>h
 | q :: l,s,hl,h=>xI l _ (fun o ho=>hl o (by simp [ho])) (qK h (hl q (by simp)))
def wj:List (FuncId × aG):=[(43,cz 4 M14),(44,cz 4 M19),(45,aD 4 Cy.M23),(46,Cy.H14)]
@[simp] theorem JZ:aC wj 43=some (cz 4 M14):=rfl
@[simp] theorem JY:aC wj 44=some (cz 4 M19):=rfl
@[simp] theorem JX:aC wj 45=some (aD 4 Cy.M23):=rfl
@[simp] theorem JW:aC wj 46=some Cy.H14:=rfl
theorem C6:∀f M,aC wj f=some M->ak Try.prog GC f M:=af (ak.of_pureF lr 4) (af (ak.of_pureF ud 4) (af (ak.of_pure Cy.Fa 4) (af Cy.lr az)))
def zA:AV:=.agg [.int .i64 0,.nilS,.nilS,.nilS]
def bsA (s:Option (Int × List Int)):AV:=match s with | none=>.agg [.int .i64 0,.nilS,.nilS,.nilS] | some x=>.agg [.int .i64 x.1,slA 1 (aj x.2),.nilS,.nilS]
def bsV (T:aR) (s:Option (Int × List Int)):AV:=match s with | none=>.nilS | some x=>f9 (bn T x.2)
def R22 (A:aa) (T:aR) (chv:AV) (s:Option (Int × List Int)):aa:=A++[.row 5 false [au T chv],.row 4 false [zA],.row 4 false [bsA s]]
theorem Lu (A:aa) (T:aR) (chv:AV) (s:Option (Int × List Int)):(R22 A T chv s)[A.length]?=some (.row 5 false [au T chv]):=by simp [R22]
theorem Hf (A:aa) (T:aR) (chv:AV) (s:Option (Int × List Int)):(R22 A T chv s)[A.length+1]?=some (.row 4 false [zA]):=by simp [R22]
theorem y9 (A:aa) (T:aR) (chv:AV) (s:Option (Int × List Int)):(R22 A T chv s)[A.length+2]?=some (.row 4 false [bsA s]):=by simp [R22]
theorem Em (A:aa) (T:aR) (chv:AV) (s s':Option (Int × List Int)):(R22 A T chv s).set (A.length+2) (.row 4 false [bsA s'])=R22 A T chv s':=by
 unfold R22
 rw [List.set_append_right _ _ (by omega),show A.length+2-A.length=2 by omega]
 rfl
def pOf (s:Option (Int × List Int)):Int:=match s with | none=>0 | some x=>x.1
theorem cO (a b:Int):ag .gtr (.int .i64 a) (.int .i64 b)=some (.bool (decide (a > b))):=by simp [ag]
theorem gQ (xs:List Int):(slA 1 (aj xs)).solid=true/\cellsOf (slA 1 (aj xs))=[slA 1 (aj xs)]:=by
 cases xs <;> exact ⟨rfl,rfl⟩
theorem Dr {A:aa} {T:aR} {chv chF:AV} (hcv:SlA 2 (T.ch.map chA) chF) (hz:∀X,frz (A++X) 4 (au T chv)=au T chF) {s:Option (Int × List Int)} (hs:sOk T s) {i:Nat} (hi:i<(aH T).length) :
  (mJ s<1->∃d6 d7 d8:AV,run (ax GC wj) 300 [.code fA] (ne (.ptr A.length 0 0) (.ptr (A.length+1) 0 0) (.ptr (A.length+2) 0 0) (bsV T s) (ly (aH T)) (.int .i64 ((aH T).length:Int)) (.int .i64 (i:Int))) (R22 A T chv s) =
   some (.exit 0 [.undef,.ptr A.length 0 0,.ptr (A.length+1) 0 0,.undef,.ptr (A.length+2) 0 0,bsV T s,d6,d7,d8,.undef,.undef,ly (aH T),.int .i64 ((aH T).length:Int),.int .i64 (i:Int),.bool true,.bool true,.bool true,.undef,.undef,.undef] (R22 A T chv s))) /\
  (¬ mJ s<1->run (ax GC wj) 300 [.code fA] (ne (.ptr A.length 0 0) (.ptr (A.length+1) 0 0) (.ptr (A.length+2) 0 0) (bsV T s) (ly (aH T)) (.int .i64 ((aH T).length:Int)) (.int .i64 (i:Int))) (R22 A T chv s) =
   some (.normal (ne (.ptr A.length 0 0) (.ptr (A.length+1) 0 0) (.ptr (A.length+2) 0 0) (bsV T (iA T s (aH T)[i])) (ly (aH T)) (.int .i64 ((aH T).length:Int)) (.int .i64 ((i+1:Nat):Int))) (R22 A T chv (iA T s (aH T)[i])))):=by
 obtain ⟨o,ho⟩:∃o,o=(aH T)[i]:=⟨_,rfl⟩
 have hO:o∈aH T:=by rw [ho]; exact List.getElem_mem hi
 obtain ⟨hv,hol,_,_⟩:=cu hO
 have hhi:mJ s<=1000000/\0<=mJ s:=by
  unfold mJ
  cases s with
  | none=>simp
  | some x=>have:=hs x rfl; simp only; omega
 have hb:=bb 1 ((aH T).map fun l=>slA 1 (aj l))
 rw [show slA 1 ((aH T).map fun l=>slA 1 (aj l))=ly (aH T) from rfl] at hb
 obtain ⟨q1,q2⟩:=gQ o
 have he:((aH T).map fun l=>slA 1 (aj l))[i]?=some (slA 1 (aj o)):=by simp [hi,ho]
 have x1:=fun A=>hb.index1 (A:=A) he q1 q2 .i64
 have hos:=bb 1 (aj o)
 have hlo:=hos.len
 rw [aA] at hlo
 have m19:=Cl (T:=T) hcv (by have:=hv.2.2.2.1; omega) hos
 rw [pX hO] at m19
 have m19:M19 [au T chF,slA 1 (aj o)]=some (.tup [f9 (bn T o),.int .i64 0]):=m19
 have m23:∀hi,Cy.M23 [.int .i64 (o.length:Int),f9 (bn T o),.int .i64 1,.int .i64 hi]=some (smT (smM (o.length:Int) (bn T o) 1 hi)):=fun hi=>by
  simp only [Cy.M23,mQ hO,Option.map_some]
 have m23:=m23 (mJ s)
 have hbs:iA T s o=match smM (o.length:Int) (bn T o) 1 (mJ s) with | some p=>some (p,o) | none=>s:=rfl
 rw [<-ho,hbs]
 have b0:=bp i (aH T).length .i64
 rw [decide_eq_true hi] at b0
 have b1:=a9 i (by have:=gT T; omega)
 have b2:=cO (pOf s) 0
 have b3:ag .sub (.int .i64 (pOf s)) (.int .i64 1)=some (.int .i64 (pOf s-1)):=b8 (by
  unfold pOf
  cases s with
  | none=>simp
  | some x=>have:=hs x rfl; simp only; omega)
 have hpp:(pOf s > 0->mJ s=pOf s-1)/\(¬ pOf s > 0->mJ s=1000000):=by
  unfold pOf mJ
  cases s with
  | none=>simp
  | some x=>have:=hs x rfl; simp only; exact ⟨fun _=>trivial,fun h=>by omega⟩
 have b4:=cH (mJ s) 1
 have ft:frz (R22 A T chv s) 4 (au T chv)=au T chF:=hz _
 have fo:∀A n,frz A n (slA 1 (aj o))=slA 1 (aj o):=fun A n=>hos.frz n
 have fa:∀A n,frz A n (f9 (bn T o))=f9 (bn T o):=fun A n=>(bb 4 _).frz n
 have na:bk 4 (f9 (bn T o))=true:=(bb 4 _).noRef 4
 have lt:ac true 5 (R22 A T chv s) (.ptr A.length 0 0)=some (au T chv):=by simp [ac,Lu,au]
 have f0:ab 0 (R22 A T chv s) (.ptr (A.length+2) 0 0)=some (.ptr (A.length+2) 0 0):=by simp [ab,y9]
 have l0:ac false 1 (R22 A T chv s) (.ptr (A.length+2) 0 0)=some (.int .i64 (pOf s)):=by
  cases s <;> simp [ac,y9,bsA,pOf,bL]
 have st:∀p,aB 4 (R22 A T chv s) (.ptr (A.length+2) 0 0) (.agg [.int .i64 p,slA 1 (aj o),.nilS,.nilS])=some (R22 A T chv (some (p,o))):=fun p=>by
  rw [<-Em A T chv s (some (p,o))]
  simp [y9,aB,bg,bsA]
 have fl:∀p,j8 [.int .i64 0,.nilS,.nilS,.nilS] [(0,(1,.int .i64 p)),(1,(1,slA 1 (aj o)))]=some [.int .i64 p,slA 1 (aj o),.nilS,.nilS]:=fun p=>by
  have c1:cellsOf (AV.int .i64 p)=[.int .i64 p]:=rfl
  have c2:(AV.int .i64 p).solid=true:=rfl
  simp [j8,q1,q2,c1,c2,-cellsOf,-AV.solid]
 have fl2:∀x,j8 [.int .i64 0,.nilS,.nilS,.nilS] x=j8 [.int .i64 0,.nilS,.nilS,.nilS] x:=fun _=>rfl
 obtain ⟨W,hW⟩:∃W,W=slA 1 (aj o):=⟨_,rfl⟩
 rw [<-hW] at x1 hlo m19 fo st fl
 have hbv:∀p,bsV T (some (p,o))=f9 (bn T o):=fun _=>rfl
 obtain ⟨sm,hsm⟩:∃sm,sm=smM (o.length:Int) (bn T o) 1 (mJ s):=⟨_,rfl⟩
 rw [<-hsm] at m23 ⊢
 obtain ⟨V,hV⟩:∃V,V=f9 (bn T o):=⟨_,rfl⟩
 rw [<-hV] at m19 m23 fa na
 simp only [<-hV] at hbv
 obtain ⟨tF,htF⟩:∃t,t=au T chF:=⟨_,rfl⟩
 rw [<-htF] at m19 ft
 obtain ⟨t,ht⟩:∃t,t=au T chv:=⟨_,rfl⟩
 rw [<-ht] at ft lt
 obtain ⟨h,hh⟩:∃h,h=mJ s:=⟨_,rfl⟩
 rw [<-hh] at m23 b4 hpp ⊢
 obtain ⟨p,hp⟩:∃h,h=pOf s:=⟨_,rfl⟩
 rw [<-hp] at b2 b3 hpp l0
 obtain ⟨i1,hi1⟩:∃n,n=i+1:=⟨_,rfl⟩
 rw [<-hi1] at b1 ⊢
 obtain ⟨Q,hQ⟩:∃Q,Q=ly (aH T):=⟨_,rfl⟩
 rw [<-hQ] at x1 ⊢
 obtain ⟨A0,hA0⟩:∃X,X=R22 A T chv s:=⟨_,rfl⟩
 rw [<-hA0] at lt f0 l0 st ft ⊢
 obtain ⟨n0,hn0⟩:∃n,n=A.length:=⟨_,rfl⟩
 obtain ⟨n1,hn1⟩:∃n,n=A.length+1:=⟨_,rfl⟩
 obtain ⟨n2,hn2⟩:∃n,n=A.length+2:=⟨_,rfl⟩
 rw [<-hn2] at f0 l0 st
 rw [<-hn0] at lt
 rw [<-hn1,<-hn2,<-hn0]
 obtain ⟨U,hU⟩:∃U,U=bsV T s:=⟨_,rfl⟩
 rw [<-hU]
 refine ⟨fun h1=>⟨W,V,.int .i64 h,?_⟩,fun h1=>?_⟩
 ·have hp0:p > 0:=by
   by_cases hp0:p > 0
   ·exact hp0
   ·have:=hpp.2 hp0; omega
  rw [decide_eq_true hp0] at b2
  rw [<-hpp.1 hp0] at b3
  rw [decide_eq_true h1] at b4
  simp [fA,x1,lt,ft,fo,m19,f0,l0,b0,b2,b3,b4,-ag,-ac,-ab,-ai,-frz]
 ·rw [decide_eq_false h1] at b4
  by_cases hp0:p > 0
  ·rw [decide_eq_true hp0] at b2
   rw [<-hpp.1 hp0] at b3
   cases sm with
   | none=>
    simp only [<-hU,<-hA0]
    simp [fA,x1,lt,ft,fo,fa,aM,na,smT,m19,m23,hlo,f0,l0,b0,b1,b2,b3,b4,-ag,-ac,-ab,-ai,-aw,-frz]
   | some r=>simp [fA,x1,lt,ft,fo,fa,aM,na,smT,m19,m23,hlo,f0,l0,b0,b1,b2,b3,b4,st,fl,hbv,-ag,-ac,-aB,-ab,-ai,-aw,-frz,-j8]
  ·rw [decide_eq_false hp0] at b2
   obtain rfl:=hpp.2 hp0
   cases sm with
   | none=>
    simp only [<-hU,<-hA0]
    simp [fA,x1,lt,ft,fo,fa,aM,na,smT,m19,m23,hlo,f0,l0,b0,b1,b2,b4,-ag,-ac,-ab,-ai,-aw,-frz]
   | some r=>simp [fA,x1,lt,ft,fo,fa,aM,na,smT,m19,m23,hlo,f0,l0,b0,b1,b2,b4,st,fl,hbv,-ag,-ac,-aB,-ab,-ai,-aw,-frz,-j8]
end Clu
namespace Clu
open Go
open Cy (GC io cV bH bK cf aM be aA aZ cA cm cn dF okA smM smT lvM lvT fJ fg iC ce nm)
theorem FN {A:aa} {T:aR} {chv chF:AV} (hcv:SlA 2 (T.ch.map chA) chF) (hz:∀X,frz (A++X) 4 (au T chv)=au T chF):∀(c i:Nat) (s:Option (Int × List Int)) (m:Nat),i+c=(aH T).length->sOk T s->c<m ->
  ∃d6 d7 d8 d13 d14 d15 d16:AV,bZ (evC (ax GC wj) 300 fA) jO m (ne (.ptr A.length 0 0) (.ptr (A.length+1) 0 0) (.ptr (A.length+2) 0 0) (bsV T s) (ly (aH T)) (.int .i64 ((aH T).length:Int)) (.int .i64 (i:Int))) (R22 A T chv s) =
   some (.exit 0 [.undef,.ptr A.length 0 0,.ptr (A.length+1) 0 0,.undef,.ptr (A.length+2) 0 0,bsV T (((aH T).drop i).foldl (iA T) s),d6,d7,d8,.undef,.undef,ly (aH T),.int .i64 ((aH T).length:Int),d13,d14,d15,d16,.undef,.undef,.undef] (R22 A T chv (((aH T).drop i).foldl (iA T) s))):=by
 intro c
 induction c with
 | zero=>
  intro i s m hi hs hm
  obtain ⟨m,rfl⟩:∃j,m=j+1:=⟨m-1,by omega⟩
  obtain rfl:i=(aH T).length:=by omega
  rw [List.drop_length]
  refine ⟨.undef,.undef,.undef,.int .i64 ((aH T).length:Int),.bool false,.undef,.undef,?_⟩
  have b0:=bp (aH T).length (aH T).length .i64
  rw [decide_eq_false (by omega)] at b0
  rw [aQ,uT]
  simp [fA,b0,-ag]
 | succ c ih=>
  intro i s m hi hs hm
  obtain ⟨m,rfl⟩:∃j,m=j+1:=⟨m-1,by omega⟩
  have hil:i<(aH T).length:=by omega
  obtain ⟨r1,r2⟩:=Dr hcv hz hs hil
  rw [List.drop_eq_getElem_cons hil,List.foldl_cons]
  by_cases h1:mJ s<1
  ·obtain ⟨d6,d7,d8,hr⟩:=r1 h1
   have hone:∃o,s=some (1,o):=by
    cases s with
    | none=>unfold mJ at h1; simp at h1
    | some x=>
     have:=hs x rfl
     unfold mJ at h1
     simp only at h1
     obtain ⟨p,o⟩:=x
     exact ⟨o,by simp only at this h1; rw [show p=1 by omega]⟩
   obtain ⟨o,rfl⟩:=hone
   rw [sd,uJ]
   refine ⟨d6,d7,d8,.int .i64 (i:Int),.bool true,.bool true,.bool true,?_⟩
   rw [aQ,uT,hr]
  ·have hr:=r2 h1
   obtain ⟨d6,d7,d8,d13,d14,d15,d16,h2⟩:=ih (i+1) _ m (by omega) (qK hs (List.getElem_mem hil)) (by omega)
   refine ⟨d6,d7,d8,d13,d14,d15,d16,?_⟩
   rw [aQ,uT,hr]
   exact h2
theorem Ee (T:aR):sOk T (o8 T):=xI _ _ (fun _ h=>h) (fun x h=>by cases h)
def E22 (A:aa) (T:aR) (chv:AV) (r:Option cy):aa:=A++[.row 5 false [au T chv],.row 4 false [match r with | none=>zA | some s=>ui s],.row 4 false [match r with | none=>zA | some s=>ui s]]
def H22:aG:=fun _=>bR (ax GC wj) 300 zq
theorem HG (h:aS) {A:aa} {T:aR} {chv chF:AV} (hcv:SlA 2 (T.ch.map chA) chF) (hz:∀X,frz (A++X) 4 (au T chv)=au T chF) (hl:T.ch.length<=200):H22 h [au T chv] A=some (o7 (iB T),E22 A T chv (iB T)):=by
 have m14:=lV hcv hl
 have hlen:aw (ly (aH T))=some (.int .i64 ((aH T).length:Int)):=by
  have:=(bb 1 ((aH T).map fun l=>slA 1 (aj l))).len
  rwa [List.length_map] at this
 obtain ⟨d6,d7,d8,d13,d14,d15,d16,lp⟩:=FN hcv hz (aH T).length 0 none 300 (by omega) (fun x h=>by cases h) (by have:=gT T; omega)
 rw [List.drop_zero,show (aH T).foldl (iA T) none=o8 T from rfl] at lp
 have hok:=Ee T
 obtain ⟨A0,hA0⟩:∃X,X=A++[.row 5 false [au T chv],.row 4 false [zA],.row 4 false [zA]]:=⟨_,rfl⟩
 rw [show R22 A T chv none=A0 from hA0.symm,show bsV T none=.nilS from rfl,show ((0:Nat):Int)=0 from rfl] at lp
 have lt:ac true 5 A0 (.ptr A.length 0 0)=some (au T chv):=by rw [hA0]; simp [ac,au]
 have ft:frz A0 4 (au T chv)=au T chF:=by rw [hA0]; exact hz _
 have bx0:aY 5 (au T chv) A=some (.ptr A.length 0 0,A++[.row 5 false [au T chv]]):=rfl
 have ct:(cellsOf (au T chv)).length=5:=rfl
 have bx1:aY 4 (.agg [.int .i64 0,.nilS,.nilS,.nilS]) (A++[.row 5 false [au T chv]])=some (.ptr (A.length+1) 0 0,A++[.row 5 false [au T chv],.row 4 false [zA]]):=by simp [aY,zA]
 have bx2:aY 4 (.agg [.int .i64 0,.nilS,.nilS,.nilS]) (A++[.row 5 false [au T chv],.row 4 false [zA]])=some (.ptr (A.length+2) 0 0,A0):=by rw [hA0]; simp [aY,zA]
 have hbm:iB T=(o8 T).map (nt T):=rfl
 rw [hbm]
 obtain ⟨s,hs⟩:∃s,s=o8 T:=⟨_,rfl⟩
 rw [<-hs] at lp hok ⊢
 obtain ⟨X1,hX1⟩:∃X,X=A++[Ent.row 5 false [au T chv]]:=⟨_,rfl⟩
 obtain ⟨X2,hX2⟩:∃X,X=A++[Ent.row 5 false [au T chv],.row 4 false [zA]]:=⟨_,rfl⟩
 rw [<-hX1] at bx0 bx1
 rw [<-hX2] at bx1 bx2
 obtain ⟨t,ht⟩:∃t,t=au T chv:=⟨_,rfl⟩
 obtain ⟨tF,htF⟩:∃t,t=au T chF:=⟨_,rfl⟩
 obtain ⟨Q,hQ⟩:∃Q,Q=ly (aH T):=⟨_,rfl⟩
 obtain ⟨L,hL⟩:∃Q,Q=((aH T).length:Int):=⟨_,rfl⟩
 have f0:ab 0 (R22 A T chv s) (.ptr (A.length+2) 0 0)=some (.ptr (A.length+2) 0 0):=by simp [ab,y9]
 have l0:ac false 1 (R22 A T chv s) (.ptr (A.length+2) 0 0)=some (.int .i64 (pOf s)):=by cases s <;> simp [ac,y9,bsA,pOf,bL]
 rw [<-htF] at m14 ft
 rw [<-ht] at lt bx0 ct ft ⊢
 rw [<-hQ] at m14 hlen lp
 rw [<-hL] at hlen lp
 unfold H22
 rw [a6 _ _ rfl]
 cases s with
 | none=>
  have b1:=bD 0 0
  rw [decide_eq_true rfl] at b1
  have e1:E22 A T chv none=R22 A T chv none:=rfl
  have st:aB 4 (R22 A T chv none) (.ptr (A.length+1) 0 0) (.agg [.int .i64 0,.nilS,.nilS,.nilS])=some (R22 A T chv none):=by
   have:(R22 A T chv none).set (A.length+1) (.row 4 false [zA])=R22 A T chv none:=by
    unfold R22
    rw [List.set_append_right _ _ (by omega),show A.length+1-A.length=1 by omega]
    rfl
   conv=>rhs; rw [<-this]
   simp [aB,Hf,bg,zA]
  have l4:ac true 4 (R22 A T chv none) (.ptr (A.length+1) 0 0)=some (.agg [.int .i64 0,.nilS,.nilS,.nilS]):=by simp [ac,Hf,zA]
  rw [show (Option.map (nt T) none)=none from rfl,e1]
  rw [show o7 none=.tup [.agg [.int .i64 0,.nilS,.nilS,.nilS],.int .i64 130] from rfl]
  obtain ⟨A1,hA1⟩:∃X,X=R22 A T chv none:=⟨_,rfl⟩
  rw [<-hA1] at lp f0 l0 st l4 ⊢
  have l0:ac false 1 A1 (.ptr (A.length+2) 0 0)=some (.int .i64 0):=l0
  obtain ⟨n0,hn0⟩:∃n,n=A.length:=⟨_,rfl⟩
  obtain ⟨n1,hn1⟩:∃n,n=A.length+1:=⟨_,rfl⟩
  obtain ⟨n2,hn2⟩:∃n,n=A.length+2:=⟨_,rfl⟩
  rw [<-hn2] at lp f0 l0 bx2
  rw [<-hn1] at lp st l4 bx1
  rw [<-hn0] at lp lt bx0
  simp [zq,bx0,bx1,bx2,ct,lt,m14,ft,hlen,xA lp,f0,l0,b1,st,l4,-aY,-ac,-aB,-ab,-aw,-frz,-cellsOf,-ag]
 | some x=>
  obtain ⟨p,o⟩:=x
  obtain ⟨hp1,hp2,hO⟩:=hok _ rfl
  simp only at hp1 hp2 hO
  have hos:=bb 1 (aj o)
  have hlo:=hos.len
  rw [aA] at hlo
  obtain ⟨q1,q2⟩:=gQ o
  have hv:=mQ hO
  have h14:=fun A=>Cy.Cr (fun _ _ _=>none) (A:=A) (show frz A 4 (f9 (bn T o))=f9 (bn T o) from (bb 4 ((bn T o).map cA)).frz 4) hv (o.length:Int)
  obtain ⟨st,hst⟩:∃st,st=(lvM (o.length:Int) (bn T o) p).1:=⟨_,rfl⟩
  have hl1:lvT (lvM (o.length:Int) (bn T o) p)=.tup [slA 1 (aj st),slA 1 (aj (lvM (o.length:Int) (bn T o) p).2.1),.bool (lvM (o.length:Int) (bn T o) p).2.2]:=by rw [hst]; rfl
  obtain ⟨s1,s2⟩:=gQ st
  obtain ⟨RA,hRA⟩:∃R:List Int->List Int->aa,∀a b,R a b=A++[.row 5 false [au T chv],.row 4 false [zA],.row 4 false [.agg [.int .i64 p,slA 1 (aj o),slA 1 (aj a),slA 1 (aj b)]]]:=⟨_,fun _ _=>rfl⟩
  have hR0:R22 A T chv (some (p,o))=RA [] []:=by rw [hRA]; rfl
  rw [hR0] at lp f0 l0
  have l0:ac false 1 (RA [] []) (.ptr (A.length+2) 0 0)=some (.int .i64 p):=l0
  have ra1:∀a b,(RA a b)[A.length+1]?=some (.row 4 false [zA]):=fun a b=>by rw [hRA]; simp
  have ra2:∀a b,(RA a b)[A.length+2]?=some (.row 4 false [.agg [.int .i64 p,slA 1 (aj o),slA 1 (aj a),slA 1 (aj b)]]):=fun a b=>by rw [hRA]; simp
  have fa:∀j a b,j<4->ab j (RA a b) (.ptr (A.length+2) 0 0)=some (.ptr (A.length+2) 0 j):=fun j a b hj=>by simp [ab,ra2,hj]
  have la0:∀a b,ac false 1 (RA a b) (.ptr (A.length+2) 0 0)=some (.int .i64 p):=fun a b=>by simp [ac,ra2,bL]
  have la1:∀a b,ac false 1 (RA a b) (.ptr (A.length+2) 0 1)=some (slA 1 (aj o)):=fun a b=>by simp [ac,ra2,bL]
  have lall:∀a b,ac true 4 (RA a b) (.ptr (A.length+2) 0 0)=some (.agg [.int .i64 p,slA 1 (aj o),slA 1 (aj a),slA 1 (aj b)]):=fun a b=>by simp [ac,ra2]
  have rset:∀a b a' b',(RA a b).set (A.length+2) (.row 4 false [.agg [.int .i64 p,slA 1 (aj o),slA 1 (aj a'),slA 1 (aj b')]])=RA a' b':=fun a b a' b'=>by
   rw [hRA,hRA,List.set_append_right _ _ (by omega),show A.length+2-A.length=2 by omega]
   rfl
  have st2:∀a,aB 1 (RA [] []) (.ptr (A.length+2) 0 2) (slA 1 (aj a))=some (RA a []):=fun a=>by
   obtain ⟨z1,z2⟩:=gQ a
   rw [<-rset [] [] a []]
   simp [aB,ra2,bg,z1,z2,-cellsOf,-AV.solid]
  have st3:∀a b,aB 1 (RA a []) (.ptr (A.length+2) 0 3) (slA 1 (aj b))=some (RA a b):=fun a b=>by
   obtain ⟨z1,z2⟩:=gQ b
   rw [<-rset a [] a b]
   simp [aB,ra2,bg,z1,z2,-cellsOf,-AV.solid]
  obtain ⟨RB,hRB⟩:∃R:List Int->List Int->aa,∀a b,R a b=E22 A T chv (some ⟨p,o,a,b⟩):=⟨_,fun _ _=>rfl⟩
  have stB:∀a b,aB 4 (RA a b) (.ptr (A.length+1) 0 0) (.agg [.int .i64 p,slA 1 (aj o),slA 1 (aj a),slA 1 (aj b)])=some (RB a b):=fun a b=>by
   have:(RA a b).set (A.length+1) (.row 4 false [.agg [.int .i64 p,slA 1 (aj o),slA 1 (aj a),slA 1 (aj b)]])=RB a b:=by
    rw [hRA,hRB,List.set_append_right _ _ (by omega),show A.length+1-A.length=1 by omega]
    rfl
   rw [<-this]
   simp [aB,ra1,bg,zA]
  have lB:∀a b,ac true 4 (RB a b) (.ptr (A.length+1) 0 0)=some (.agg [.int .i64 p,slA 1 (aj o),slA 1 (aj a),slA 1 (aj b)]):=fun a b=>by
   have:(RB a b)[A.length+1]?=some (.row 4 false [.agg [.int .i64 p,slA 1 (aj o),slA 1 (aj a),slA 1 (aj b)]]):=by rw [hRB]; simp [E22,ui]
   simp [ac,this]
  have b1:=bD p 0
  rw [decide_eq_false (by omega)] at b1
  have b2:=cO p 1
  have b3:ag .sub (.int .i64 p) (.int .i64 1)=some (.int .i64 (p-1)):=b8 (by omega)
  have hsb:∀pr,nt T (p,o)=⟨p,o,st,pr⟩↔pr=(if p > 1 then (lvM (o.length:Int) (bn T o) (p-1)).2.1 else []):=fun pr=>by
   unfold nt
   simp only [<-hst]
   constructor
   ·intro h; injection h with _ _ _ h; exact h.symm
   ·intro h; rw [h]
  have lp:bZ (evC (ax GC wj) 300 fA) jO 300 (ne (.ptr A.length 0 0) (.ptr (A.length+1) 0 0) (.ptr (A.length+2) 0 0) .nilS Q (.int .i64 L) (.int .i64 0)) A0 =
    some (.exit 0 [.undef,.ptr A.length 0 0,.ptr (A.length+1) 0 0,.undef,.ptr (A.length+2) 0 0,f9 (bn T o),d6,d7,d8,.undef,.undef,Q,.int .i64 L,d13,d14,d15,d16,.undef,.undef,.undef] (RA [] [])):=lp
  have h1:=h14 (RA [] []) p
  rw [hl1] at h1
  have h2:=h14 (RA st []) (p-1)
  obtain ⟨pr,hpr⟩:∃pr,pr=(lvM (o.length:Int) (bn T o) (p-1)).2.1:=⟨_,rfl⟩
  rw [show lvT (lvM (o.length:Int) (bn T o) (p-1))=.tup [slA 1 (aj (lvM (o.length:Int) (bn T o) (p-1)).1),slA 1 (aj pr),.bool (lvM (o.length:Int) (bn T o) (p-1)).2.2] by rw [hpr]; rfl] at h2
  have k5:=st2 st
  have k7:=la0 st []
  have k8:=la1 st []
  have k9:=la1 [] []
  have f1:=fun j=>fa j [] []
  have f2:=fun j=>fa j st []
  obtain ⟨n0,hn0⟩:∃n,n=A.length:=⟨_,rfl⟩
  obtain ⟨n1,hn1⟩:∃n,n=A.length+1:=⟨_,rfl⟩
  obtain ⟨n2,hn2⟩:∃n,n=A.length+2:=⟨_,rfl⟩
  rw [<-hn2] at lp f0 l0 bx2 k5 k7 k8 k9
  simp only [<-hn2] at f1 f2
  rw [<-hn1] at lp bx1
  rw [<-hn0] at lp lt bx0
  obtain ⟨W,hW⟩:∃W,W=slA 1 (aj o):=⟨_,rfl⟩
  obtain ⟨V,hV⟩:∃V,V=f9 (bn T o):=⟨_,rfl⟩
  rw [<-hV] at lp h1 h2
  obtain ⟨B0,hB0⟩:∃A,A=RA [] []:=⟨_,rfl⟩
  rw [<-hB0] at lp f0 l0 k5 k9 h1
  simp only [<-hB0] at f1
  obtain ⟨S1,hS1⟩:∃W,W=slA 1 (aj st):=⟨_,rfl⟩
  by_cases hp:p > 1
  ·rw [decide_eq_true hp] at b2
   have hsc:(Option.map (nt T) (some (p,o)))=some ⟨p,o,st,pr⟩:=by
    rw [Option.map_some,(hsb pr).2 (by rw [if_pos hp]; exact hpr)]
   rw [hsc,<-hRB]
   rw [show o7 (some ⟨p,o,st,pr⟩)=.tup [.agg [.int .i64 p,slA 1 (aj o),slA 1 (aj st),slA 1 (aj pr)],.int .i64 0] from rfl]
   have k1:=lall st pr
   have k2:=stB st pr
   have k3:=lB st pr
   have k6:=st3 st pr
   rw [<-hn2] at k1 k6
   rw [<-hn1] at k2 k3
   obtain ⟨B1,hB1⟩:∃A,A=RA st []:=⟨_,rfl⟩
   rw [<-hB1] at k5 k6 k7 k8 h2
   simp only [<-hB1] at f2
   obtain ⟨B2,hB2⟩:∃A,A=RA st pr:=⟨_,rfl⟩
   rw [<-hB2] at k1 k2 k6
   obtain ⟨B3,hB3⟩:∃A,A=RB st pr:=⟨_,rfl⟩
   rw [<-hB3] at k2 k3 ⊢
   obtain ⟨S2,hS2⟩:∃W,W=slA 1 (aj pr):=⟨_,rfl⟩
   rw [<-hW] at k1 k2 k3 k8 k9 hlo ⊢
   rw [<-hS1] at h1 k1 k2 k3 k5 ⊢
   rw [<-hS2] at h2 k1 k2 k3 k6 ⊢
   obtain ⟨p1,hp1⟩:∃q,q=p-1:=⟨_,rfl⟩
   rw [<-hp1] at h2 b3
   simp [zq,bx0,bx1,bx2,ct,lt,m14,ft,hlen,xA lp,f0,f1,f2,l0,b1,b2,b3,hlo,h1,h2,k1,k2,k3,k5,k6,k7,k8,k9,-aY,-ac,-aB,-ab,-aw,-frz,-cellsOf,-ag]
  ·rw [decide_eq_false hp] at b2
   have hsc:(Option.map (nt T) (some (p,o)))=some ⟨p,o,st,[]⟩:=by
    rw [Option.map_some,(hsb []).2 (by rw [if_neg hp])]
   rw [hsc,<-hRB]
   rw [show o7 (some ⟨p,o,st,[]⟩)=.tup [.agg [.int .i64 p,slA 1 (aj o),slA 1 (aj st),slA 1 (aj [])],.int .i64 0] from rfl]
   have k1:=lall st []
   have k2:=stB st []
   have k3:=lB st []
   rw [<-hn2] at k1
   rw [<-hn1] at k2 k3
   obtain ⟨B1,hB1⟩:∃A,A=RA st []:=⟨_,rfl⟩
   rw [<-hB1] at k1 k2 k5 k7
   simp only [<-hB1] at f2
   obtain ⟨B3,hB3⟩:∃A,A=RB st []:=⟨_,rfl⟩
   rw [<-hB3] at k2 k3 ⊢
   obtain ⟨S2,hS2⟩:∃W,W=slA 1 (aj []):=⟨_,rfl⟩
   rw [<-hW] at k1 k2 k3 k9 hlo ⊢
   rw [<-hS1] at h1 k1 k2 k3 k5 ⊢
   rw [<-hS2] at k1 k2 k3 ⊢
   simp [zq,bx0,bx1,bx2,ct,lt,m14,ft,hlen,xA lp,f0,f1,f2,l0,b1,b2,hlo,h1,k1,k2,k3,k5,k7,k9,-aY,-ac,-aB,-ab,-aw,-frz,-cellsOf,-ag]
def M22:aP:=fun args=>evP (ax GC wj) 300 zq 4 args
theorem uc:an Try.prog GC 23 M22:=an.of_ev (E:=ax GC wj) (aq C6) rfl K4 yg 4 fun _ _ h=>⟨300,h⟩
theorem Ck {T:aR} {chv:AV} (hcv:SlA 2 (T.ch.map chA) chv) (hl:T.ch.length<=200):M22 [au T chv]=some (o7 (iB T)):=by
 have h:=HG (fun _ _ _=>none) (A:=[]) hcv (fun X=>aX (T:=T) (fun A n=>hcv.frz (A:=A) n) _ 3) hl
 unfold H22 at h
 unfold M22 evP
 rw [h,Option.map_some]
 congr 1
 have k1:=fun A o=>(bb 1 (aj o)).frz (A:=A) 2
 unfold o7
 simp only
 simp [frz,ui,k1]
end Clu
namespace Clu
open Go
open Cy (GC io cV bH bK cf aM be aA aZ cA cm cn dF okA smM smT lvM lvT fJ fg iC ce nm)
structure qQ (s:cy) (ov sv pv:AV):Prop where
 o:SlA 1 (aj s.order) ov
 st:SlA 1 (aj s.starts) sv
 pr:SlA 1 (aj s.proof) pv
 per:inI s.period
 ol:s.order.length<=9223372036854775807
 stl:s.starts.length<=9223372036854775807
 sti:∀z∈s.starts,inI z
 prl:s.proof.length<=9223372036854775807
 pri:∀z∈s.proof,inI z
def Chk (T:aR) (s:cy):Prop:=s.order∈aH T/\(1<=s.period/\s.period<=1000000)/\fg (s.order.length:Int) (bn T s.order) s.period s.starts /\
 (if s.period=1 then s.proof=[] else iC (s.order.length:Int) (bn T s.order) (s.period-1) s.proof)
def vN:List (FuncId × aG):=[(44,cz 4 M19),(77,aD 4 Cy.M19),(78,aD 4 Cy.M21)]
@[simp] theorem JH:aC vN 44=some (cz 4 M19):=rfl
@[simp] theorem JG:aC vN 77=some (aD 4 Cy.M19):=rfl
@[simp] theorem JD:aC vN 78=some (aD 4 Cy.M21):=rfl
theorem sN:∀f M,aC vN f=some M->ak Try.prog GC f M:=af (ak.of_pureF ud 4) (af (ak.of_pure Cy.ud 4) (af (ak.of_pure Cy.Fb 4) az))
def M26:aP:=fun args=>evP (ax GC vN) 0 rq 4 args
theorem wJ:an Try.prog GC 48 M26:=an.of_ev (E:=ax GC vN) (aq sN) rfl G1 sa 4 fun _ _ h=>⟨0,h⟩
open Classical in
theorem p8 {T:aR} {chv:AV} (hcv:SlA 2 (T.ch.map chA) chv) (hl:T.ch.length<=200) {s:cy} {ov sv pv:AV} (hs:qQ s ov sv pv) :
  M26 [au T chv,.agg [.int .i64 s.period,ov,sv,pv]]=some (.bool (decide (Chk T s))):=by
 have m19:=Cl hcv hl hs.o
 have ft:=fun A=>aX (T:=T) (fun A n=>hcv.frz (A:=A) n) A 3
 have fo:∀A n,frz A n ov=ov:=fun A n=>hs.o.frz n
 have fs:∀A n,frz A n sv=sv:=fun A n=>hs.st.frz n
 have fp:∀A n,frz A n pv=pv:=fun A n=>hs.pr.frz n
 have hlo:=hs.o.len
 rw [aA] at hlo
 have hlp:=hs.pr.len
 rw [aA] at hlp
 have iv1:lN sv=some s.starts:=rG hs.st hs.stl hs.sti
 have iv2:lN pv=some s.proof:=rG hs.pr hs.prl hs.pri
 obtain ⟨p,o,st,pr⟩:=s
 simp only at m19 hlo hlp iv1 iv2
 have hper:=hs.per
 simp only [inI] at hper
 have q1:ov.solid=true/\cellsOf ov=[ov]:=by rcases hs.o with ⟨rfl,_⟩ | rfl <;> exact ⟨rfl,rfl⟩
 have q2:sv.solid=true/\cellsOf sv=[sv]:=by rcases hs.st with ⟨rfl,_⟩ | rfl <;> exact ⟨rfl,rfl⟩
 have q3:pv.solid=true/\cellsOf pv=[pv]:=by rcases hs.pr with ⟨rfl,_⟩ | rfl <;> exact ⟨rfl,rfl⟩
 have bx0:aY 5 (au T chv) []=some (.ptr 0 0 0,[.row 5 false [au T chv]]):=rfl
 have bx1:∀t,aY 4 (.agg [.int .i64 p,ov,sv,pv]) [.row 5 false [t]]=some (.ptr 1 0 0,[.row 5 false [t],.row 4 false [.agg [.int .i64 p,ov,sv,pv]]]):=fun t=>rfl
 have ct:(cellsOf (au T chv)).length=5:=rfl
 have ca:(cellsOf (.agg [.int .i64 p,ov,sv,pv])).length=4:=rfl
 obtain ⟨A0,hA0⟩:∃A:aa,A=[.row 5 false [au T chv],.row 4 false [.agg [.int .i64 p,ov,sv,pv]]]:=⟨_,rfl⟩
 have lt:ac true 5 A0 (.ptr 0 0 0)=some (au T chv):=by rw [hA0]; rfl
 have fa:∀j,j<4->ab j A0 (.ptr 1 0 0)=some (.ptr 1 0 j):=fun j hj=>by rw [hA0]; simp [ab,hj]
 have l0:ac false 1 A0 (.ptr 1 0 0)=some (.int .i64 p):=by rw [hA0]; rfl
 have l1:ac false 1 A0 (.ptr 1 0 1)=some ov:=by rw [hA0]; rfl
 have l2:ac false 1 A0 (.ptr 1 0 2)=some sv:=by rw [hA0]; rfl
 have l3:ac false 1 A0 (.ptr 1 0 3)=some pv:=by rw [hA0]; rfl
 obtain ⟨t,ht⟩:∃t,t=au T chv:=⟨_,rfl⟩
 rw [<-ht] at m19 ft bx0 ct lt hA0 ⊢
 have bx1:=bx1 t
 rw [<-hA0] at bx1
 unfold M26
 rw [aK _ _ rfl]
 by_cases hO:o∈aH T
 rotate_left
 ·rw [decide_eq_false (fun h=>hO h.1)]
  have e0:AO T o=none:=if_neg hO
  rw [e0] at m19
  have m19:M19 [t,ov]=some (.tup [.nilS,.int .i64 130]):=m19
  have b1:=cT 130 0
  rw [decide_eq_true (by omega)] at b1
  simp [rq,bx0,bx1,ct,ca,lt,m19,ft,fo,hlo,fa,l1,b1,-aY,-ac,-ab,-aw,-frz,-cellsOf,-ag,be]
 rw [pX hO] at m19
 have m19:M19 [t,ov]=some (.tup [f9 (bn T o),.int .i64 0]):=m19
 have b1:=cT 0 0
 rw [decide_eq_false (by omega)] at b1
 have b2:=cH p 1
 by_cases hp1:p<1
 ·rw [decide_eq_false (fun h=>by have:=h.2.1.1; simp only at this; omega)]
  rw [decide_eq_true hp1] at b2
  simp [rq,bx0,bx1,ct,ca,lt,m19,ft,fo,hlo,fa,l0,l1,b1,b2,-aY,-ac,-ab,-aw,-frz,-cellsOf,-ag,be]
 rw [decide_eq_false hp1] at b2
 have b3:=cO p 1000000
 by_cases hp2:p > 1000000
 ·rw [decide_eq_false (fun h=>by have:=h.2.1.2; simp only at this; omega)]
  rw [decide_eq_true hp2] at b3
  simp [rq,bx0,bx1,ct,ca,lt,m19,ft,fo,hlo,fa,l0,l1,b1,b2,b3,-aY,-ac,-ab,-aw,-frz,-cellsOf,-ag,be]
 rw [decide_eq_false hp2] at b3
 have mv:Cy.M19 [.int .i64 (o.length:Int),f9 (bn T o),.int .i64 p,sv]=some (.bool (decide (fg (o.length:Int) (bn T o) p st))):=by
  simp only [Cy.M19,mQ hO,iv1]
 have mr:∀p,Cy.M21 [.int .i64 (o.length:Int),f9 (bn T o),.int .i64 p,pv]=some (.bool (decide (iC (o.length:Int) (bn T o) p pr))):=fun p=>by
  simp only [Cy.M21,mQ hO,iv2]
 have fa':∀A n,frz A n (f9 (bn T o))=f9 (bn T o):=fun A n=>(bb 4 _).frz n
 obtain ⟨V,hV⟩:∃V,V=f9 (bn T o):=⟨_,rfl⟩
 rw [<-hV] at m19 mv fa'
 by_cases hver:fg (o.length:Int) (bn T o) p st
 rotate_left
 ·rw [decide_eq_false hver] at mv
  rw [decide_eq_false (fun h=>hver h.2.2.1)]
  simp [rq,bx0,bx1,ct,ca,lt,m19,ft,fo,fs,fa',aM,mv,hlo,fa,l0,l1,l2,b1,b2,b3,-aY,-ac,-ab,-aw,-frz,-cellsOf,-ag,be]
 rw [decide_eq_true hver] at mv
 have b4:=bD p 1
 by_cases hp:p=1
 ·rw [decide_eq_true hp] at b4
  have b5:ag .eql (.int .i64 (pr.length:Int)) (.int .i64 0)=some (.bool (decide (pr=[]))):=by
   rw [bD]
   congr 2
   exact decide_eq_decide.2 ⟨fun h=>List.length_eq_zero_iff.1 (by omega),fun h=>by rw [h]; rfl⟩
  have hc:Chk T ⟨p,o,st,pr⟩↔pr=[]:=by
   constructor
   ·intro h
    have:=h.2.2.2
    simp only at this
    rwa [if_pos hp] at this
   ·intro h
    refine ⟨hO,⟨by simp only; omega,by simp only; omega⟩,hver,?_⟩
    simp only
    rw [if_pos hp]; exact h
  rw [decide_eq_decide.2 hc]
  obtain ⟨d,hd⟩:∃d,d=decide (pr=[]):=⟨_,rfl⟩
  rw [<-hd] at b5 ⊢
  simp [rq,bx0,bx1,ct,ca,lt,m19,ft,fo,fs,fa',aM,mv,hlo,hlp,fa,l0,l1,l2,l3,b1,b2,b3,b4,b5,be,-aY,-ac,-ab,-aw,-frz,-cellsOf,-ag]
 ·rw [decide_eq_false hp] at b4
  have b6:ag .sub (.int .i64 p) (.int .i64 1)=some (.int .i64 (p-1)):=b8 (by omega)
  have hc:Chk T ⟨p,o,st,pr⟩↔iC (o.length:Int) (bn T o) (p-1) pr:=by
   constructor
   ·intro h
    have:=h.2.2.2
    simp only at this
    rwa [if_neg hp] at this
   ·intro h
    refine ⟨hO,⟨by simp only; omega,by simp only; omega⟩,hver,?_⟩
    simp only
    rw [if_neg hp]; exact h
  rw [decide_eq_decide.2 hc]
  have mr:=mr (p-1)
  rw [<-hV] at mr
  obtain ⟨d,hd⟩:∃d,d=decide (iC (o.length:Int) (bn T o) (p-1) pr):=⟨_,rfl⟩
  rw [<-hd] at mr ⊢
  obtain ⟨p1,hp1'⟩:∃q,q=p-1:=⟨_,rfl⟩
  rw [<-hp1'] at mr b6
  simp [rq,bx0,bx1,ct,ca,lt,m19,ft,fo,fs,fp,fa',aM,mv,mr,hlo,fa,l0,l1,l2,l3,b1,b2,b3,b4,b6,be,-aY,-ac,-ab,-aw,-frz,-cellsOf,-ag]
end Clu
namespace Cy
open Go
theorem ru {n:Int} {l:List aZ} {p:Int} (hr:ce n l p):(lvM n l p).2.2=true↔¬ Pos l p:=by
 obtain ⟨m,rfl⟩:∃m:Nat,n=(m:Int):=⟨n.toNat,by have:=hr.1.1; omega⟩
 rw [<-kG hr]
 unfold lvM
 rw [if_pos hr,Int.toNat_natCast]
 split
 ·rename_i h; simp [h]
 ·rename_i h; simp [h]
theorem dR {n:Int} {l:List aZ} {p:Int} (hr:ce n l p) (h:(lvM n l p).2.2=true):(lvM n l p).2.1=[]/\fg n l p (lvM n l p).1/\(∀x∈(lvM n l p).1,x<=100000000)/\∀x,fg n l p x->∀v:Nat,(v:Int)<n->(lvM n l p).1.getD v 0<=x.getD v 0:=by
 obtain ⟨m,rfl⟩:∃m:Nat,n=(m:Int):=⟨n.toNat,by have:=hr.1.1; omega⟩
 have hv:=hr.1.2.2
 have hn:=hr.1.1
 have e:lvM m l p=((bM (lar p l) m).1,[],true):=by
  unfold lvM at h ⊢
  rw [if_pos hr,Int.toNat_natCast] at h ⊢
  split
  ·rfl
  ·rename_i h'
   rw [if_neg h'] at h; cases h
 have hlv:(bM (lar p l) m).2=true:=by
  have:=(ru hr).1 h
  exact (kG hr).2 this
 obtain ⟨h1,h2,h3,h4,h5⟩:=lJ (im (p:=p) hv)
 rw [e]
 have key:∀x∈(bM (lar p l) m).1,0<=x/\x<=100000000:=?_
 ·refine ⟨rfl,⟨hr,by rw [h1],fun x hx=>by have:=key x hx; omega,h4 hlv⟩,fun x hx=>(key x hx).2,fun x hx v hvm=>?_⟩
  refine h5 x hx.2.2.2 (fun w hw=>?_) v (by omega)
  have hwl:w<x.length:=by have:=hx.2.1; omega
  have hg:x.getD w 0=x[w]:=by rw [List.getD_eq_getElem?_getD,List.getElem?_eq_getElem hwl]; rfl
  rw [hg]
  exact (hx.2.2.1 _ (List.getElem_mem hwl)).1
 intro x hx'
 obtain ⟨v,hv',rfl⟩:=List.mem_iff_getElem.1 hx'
 have hvn:v<m:=by rw [<-h1]; exact hv'
 have hg:(bM (lar p l) m).1.getD v 0=(bM (lar p l) m).1[v]:=by rw [List.getD_eq_getElem?_getD,List.getElem?_eq_getElem hv']; rfl
 have h0:=h2 v
 rw [hg] at h0
 refine ⟨h0,?_⟩
 obtain ⟨u,r,k1,k2,k3⟩:=h3 v hvn
 have hN:=(nM (im (p:=p) hv)).1 hlv
 obtain ⟨r',j1,j2,j3⟩:=Fh (im (p:=p) hv) hN _ r u v rfl k1 k2
 rw [hg] at k3
 have hbd:∀ {r:List da} {u v:Nat},isW (lar p l) u r v->i9 r<=3000000*r.length:=by
  intro r
  induction r with
  | nil=>intro _ _ _; simp [i9]
  | cons a r ih=>
   rintro u v ⟨q1,_,q3⟩
   have:=ih q3
   have:=(uA (show m<=32 by omega) hr.2 hv a q1).2.2.2
   simp only [i9,List.length_cons]
   omega
 have:=hbd j1
 omega
theorem qs {n:Int} {l:List aZ} {p:Int} (hr:ce n l p) (h:(lvM n l p).2.2=false):(lvM n l p).1=[]/\iC n l p (lvM n l p).2.1/\(lvM n l p).2.1.length<=32/\∀z∈(lvM n l p).2.1,inI z:=by
 obtain ⟨m,rfl⟩:∃m:Nat,n=(m:Int):=⟨n.toNat,by have:=hr.1.1; omega⟩
 have hlv:¬ (bM (lar p l) m).2=true:=fun h'=>by
  have:=(ru hr).2 ((kG hr).1 h')
  rw [h] at this; cases this
 obtain ⟨res,u,xs,k1,k2,k3,k4,k5,k6,k7⟩:=xU hr hlv
 have e:lvM m l p=([],res,false):=by
  unfold lvM
  rw [if_pos hr,Int.toNat_natCast,if_neg hlv,k1]; rfl
 rw [e]
 refine ⟨rfl,⟨hr,_,_,k7,k6⟩,by rw [k2]; simpa using k5,fun z hz=>?_⟩
 unfold exM at k7
 simp only [Option.ite_none_right_eq_some] at k7
 have:=k7.1.2 z hz
 have:=hr.1.2.1
 unfold inI; omega
theorem EO {n:Int} {l:List aZ} {p:Int} {s:List Int} (h:fg n l p s):s.length<=32/\∀z∈s,inI z:=by
 obtain ⟨h1,h2,h3,_⟩:=h
 have:=h1.1.1
 refine ⟨by omega,fun z hz=>?_⟩
 have:=h3 z hz
 unfold inI; omega
theorem sI {n:Int} {l:List aZ} {p:Int} {s:List Int} (h:fg n l p s):¬ Pos l p:=rE h.1.1.2.2 h.2.2.2
theorem wW {n:Int} {l:List aZ} {p:Int} {c:List Int} (h:iC n l p c):Pos l p:=by
 obtain ⟨_,s,t,h1,h2⟩:=h
 obtain ⟨u,xs,k1,k2,k3,k4,k5,k6⟩:=AC h1
 exact ⟨u,xs,k2,by omega⟩
open Classical in
theorem m19 {n:Int} {a b:AV} {l:List aZ} {p:Int} {s:List Int} (ha:cm a=some l) (hb:lN b=some s):M19 [.int .i64 n,a,.int .i64 p,b]=some (.bool (decide (fg n l p s))):=by simp only [M19,ha,hb]
end Cy
namespace Clu
open Go
open Cy (GC aZ cA cm cn dF okA smM smT lvM lvT fg iC ce Pos ru dR qs sI wW)
theorem Ar {T:aR} {s:Option (Int × List Int)} (h:sOk T s):cn (mJ s):=by
 unfold mJ cn
 cases s with
 | none=>simp
 | some x=>have:=h x rfl; simp only; omega
structure AW (T:aR) (s:Option (Int × List Int)) (l:List (List Int)):Prop where
 ok:sOk T s
 no:∀x,s=some x->¬ Pos (bn T x.2) x.1/\∃l1 l2,l=l1++x.2 :: l2/\∀o∈l1,Pos (bn T o) x.1
 pos:∀o∈l,∀q,1<=q->q<=mJ s->Pos (bn T o) q
theorem AW.step {T:aR} {s:Option (Int × List Int)} {l:List (List Int)} (h:AW T s l) {o:List Int} (hO:o∈aH T):AW T (iA T s o) (l++[o]):=by
 have hper:=Ar h.ok
 have hok:=qK h.ok hO
 have hv:=(tM hO).1
 unfold iA at hok ⊢
 cases hm:smM (o.length:Int) (bn T o) 1 (mJ s) with
 | none=>
  rw [hm] at hok
  have hn:=Dc hper hv hm
  refine ⟨h.ok,fun x hx=>?_,fun o' ho' q h1 h2=>?_⟩
  ·obtain ⟨k1,l1,l2,k2,k3⟩:=h.no x hx
   exact ⟨k1,l1,l2++[o],by rw [k2]; simp,k3⟩
  ·rcases List.mem_append.1 ho' with h3 | h3
   ·exact h.pos o' h3 q h1 h2
   ·rw [List.mem_singleton] at h3
    subst h3
    exact hn q h1 h2
 | some p=>
  rw [hm] at hok
  obtain ⟨k1,k2,k3,k4,k5⟩:=sQ hper hm
  refine ⟨hok,fun x hx=>?_,fun o' ho' q h1 h2=>?_⟩
  ·injection hx with hx
   subst hx
   exact ⟨k4,l,[],rfl,fun o' ho'=>h.pos o' ho' p k1 k2⟩
  ·have h2:q<=p-1:=h2
   rcases List.mem_append.1 ho' with h3 | h3
   ·exact h.pos o' h3 q h1 (by omega)
   ·rw [List.mem_singleton] at h3
    subst h3
    exact k5 q h1 (by omega)
theorem AW.fold {T:aR}:∀(r:List (List Int)) {s:Option (Int × List Int)} {l:List (List Int)},AW T s l->(∀o∈r,o∈aH T)->AW T (r.foldl (iA T) s) (l++r)
 | [],s,l,h,_=>by simpa using h
 | o :: r,s,l,h,hr=>by
  have:=AW.fold r (h.step (hr o (by simp))) (fun o' ho'=>hr o' (by simp [ho']))
  rw [List.append_assoc] at this
  exact this
theorem uZ (T:aR):AW T (o8 T) (aH T):=by
 have:=AW.fold (T:=T) (aH T) (s:=none) (l:=[]) ⟨fun x h=>(by cases h),fun x h=>(by cases h),fun o h=>(by cases h)⟩ (fun _ h=>h)
 rwa [List.nil_append] at this
theorem eP {T:aR} {o:List Int} (hO:o∈aH T) {p:Int} (h1 : -1000000<=p) (h2:p<=1000000):ce (o.length:Int) (bn T o) p:=⟨(tM hO).1,h1,h2⟩
theorem GU {T:aR} {o:List Int} (hO:o∈aH T) {p:Int} (h1:1<=p) (h2:p<=1000000) (hp:¬ Pos (bn T o) p) (hq:1<p->Pos (bn T o) (p-1)):Chk T (nt T (p,o)):=by
 have hR:=eP hO (p:=p) (by omega) h2
 have k1:=dR hR ((ru hR).2 hp)
 refine ⟨hO,⟨h1,h2⟩,k1.2.1,?_⟩
 show if p=1 then (if p > 1 then (lvM (o.length:Int) (bn T o) (p-1)).2.1 else [])=[] else _
 by_cases e:p=1
 ·rw [if_pos e,if_neg (by omega)]
 ·rw [if_neg e]
  have hR':=eP hO (p:=p-1) (by omega) (by omega)
  have hf:(lvM (o.length:Int) (bn T o) (p-1)).2.2=false:=by
   cases h:(lvM (o.length:Int) (bn T o) (p-1)).2.2 with
   | false=>rfl
   | true=>exact absurd (hq (by omega)) ((ru hR').1 h)
  have:=(qs hR' hf).2.1
  show iC (o.length:Int) (bn T o) (p-1) (if p > 1 then (lvM (o.length:Int) (bn T o) (p-1)).2.1 else [])
  rw [if_pos (by omega)]
  exact this
theorem kr {T:aR} {s:cy} (h:iB T=some s):Chk T s:=by
 unfold iB at h
 rw [Option.map_eq_some_iff] at h
 obtain ⟨⟨p,o⟩,h,rfl⟩:=h
 have hB:=uZ T
 rw [h] at hB
 obtain ⟨h1,h2,h3⟩:=hB.ok _ rfl
 exact GU h3 h1 h2 (hB.no _ rfl).1 fun hp=>hB.pos o h3 (p-1) (by simp only at h1; omega) (Int.le_refl _)
theorem yM {T:aR} {s:cy} (h:iB T=some s):o8 T=some (s.period,s.order)/\s=nt T (s.period,s.order):=by
 unfold iB at h
 rw [Option.map_eq_some_iff] at h
 obtain ⟨⟨p,o⟩,h,rfl⟩:=h
 exact ⟨h,rfl⟩
theorem Ef {T:aR} {p:Int} {o:List Int} (hO:o∈aH T) (h1:1<=p) (h2:p<=1000000) (hp:¬ Pos (bn T o) p) (hb:∀o'∈aH T,∀q,1<=q->q<p->Pos (bn T o') q):∃o',o'∈aH T/\¬ Pos (bn T o') p/\o8 T=some (p,o'):=by
 have hB:=uZ T
 cases hs:o8 T with
 | none=>
  rw [hs] at hB
  exact absurd (hB.pos o hO p h1 h2) hp
 | some x=>
  obtain ⟨r,o'⟩:=x
  rw [hs] at hB
  obtain ⟨k1,k2,k3⟩:=hB.ok _ rfl
  have k4:=(hB.no _ rfl).1
  simp only at k1 k2 k3 k4
  have:r=p:=by
   rcases Int.lt_trichotomy r p with h | h | h
   ·exact absurd (hb o' k3 r k1 h) k4
   ·exact h
   ·exact absurd (hB.pos o hO p h1 (by show p<=r-1; omega)) hp
  subst this
  exact ⟨o',k3,k4,rfl⟩
end Clu
end Go.Proofs.Ytkcjhljbgjpklaa
