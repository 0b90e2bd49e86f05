import Derived.Test.YtkcjhljbgjpklaaVI08
import Derived.Test.YtkcjhljbgjpklaaVI06
import Derived.Test.YtkcjhljbgjpklaaVI07
import Derived.Test.YtkcjhljbgjpklaaVI09
import Derived.Test.YtkcjhljbgjpklaaChecked
import Derived.KernelRfl
set_option maxRecDepth 100000
set_option maxHeartbeats 4000000
noncomputable section
namespace Go.Proofs.Ytkcjhljbgjpklaa
variable {d5 d13 v2 chv v4 d8 d11 d12 d6 d7 d0 rv d1 v3 d9 d10 v1 d3 d14 d15 d16 d17 d18 d19 v9 v10 v lv v0 v6 v7 v8 v11 v12 d4 x:AV} {A:ac} {rd:List Int} {E:Env} {fuel k n esz:Nat} {o:Out} {free lost:Int} {pl:List (Nat × List Int)} {b:List Bool} {os:List (List Int)} {xs:List AV}
namespace Tr
open Go
open Cy (GC aM bc aA dH)
open Clu (aT aY ky af chA aZ bD dP bK cB bA bL cK aK bC)
def lj:List Bool->List Int->Option (List Bool)
 | b,[]=>some b
 | b,t :: r=>if (1<=t/\t<=b.length)/\gZ b (t-1).toNat=true then lj (mvB b (t-1).toNat) r else none
theorem sK:∀(o:List Int) (b:List Bool),MQ b o=((lj b o).map fun c=>!c.any id).getD false
 | [],b=>rfl
 | t :: r,b=>by
  unfold MQ lj
  rw [sK r]
  by_cases h:(1<=t/\t<=b.length)/\gZ b (t-1).toNat=true
  ·rw [RH h,RE h.1,h.2,Bool.true_and,Bool.true_and]
  ·rw [RK h]
   by_cases h1:1<=t/\t<=b.length
   ·rw [show gZ b (t-1).toNat=false from Bool.eq_false_iff.2 fun h2=>h ⟨h1,h2⟩]; simp
   ·rw [RD h1]; simp
def eL (b:List Bool):List Bool:=false :: (b++[false])
theorem vf (b:List Bool):(eL b).length=b.length+2:=by simp [eL]
theorem BD (b:List Bool) (k:Nat):(eL b).getD (k+1) false=b.getD k false:=by
 unfold eL
 rw [Rw,Rw,SV]
 by_cases h:k<b.length
 ·rw [RC h]
 ·rw [RS (by omega),Sl (l:=b) (by omega)]
  by_cases h2:k=b.length
  ·subst h2; simp
  ·rw [Sl (by simp; omega)]
theorem BC (b:List Bool) (h:k<b.length) (v:Bool):(eL b).set (k+1) v=eL (b.set k v):=by
 unfold eL
 rw [SE,Th _ _ h]
theorem KQ (b:List Bool):(eL b).set (b.length+1) false=eL b:=by
 unfold eL
 rw [SE,R8 _ _ (by omega)]
 simp
def eF (g:Nat->Bool) (n i:Nat):List Bool:=eL ((List.range n).map fun j=>if j<i then g j else false)
theorem KS (g:Nat->Bool) (n i:Nat):(eF g n i).length=n+2:=by simp [eF,eL]
theorem KR (g:Nat->Bool) {i:Nat} (h:i<n):(eF g n i).set (i+1) (g i)=eF g n (i+1):=by
 unfold eF
 rw [BC _ (by simpa using h)]
 have:=As g (fun _=>false) h
 unfold rJ at this
 rw [this]
theorem Ih (g:Nat->Bool) (n:Nat):eF g n 0=List.replicate (n+2) false:=by
 unfold eF eL
 have:((List.range n).map fun j=>if j<0 then g j else false)=List.replicate n false:=by
  apply SO
  ·simp
  ·intro i _ _; simp
 rw [this,<-List.replicate_succ',<-TS]
theorem Ii (rd:List Int):eF (fun j=>decide (0<=rd.getD j 0)) rd.length rd.length=eL (b0 rd):=by
 unfold eF
 congr 1
 apply SO
 ·simp [b0]
 ·intro i h1 h2
  have hi:i<rd.length:=by simpa using h1
  simp [b0,hi]
def A19 (tv:AV) (L:List Bool):ac:=[.row 5 false [tv],.row 1 false (aO L)]
theorem gc (tv:AV) (L:List Bool):(A19 tv L)[1]?=some (.row 1 false (aO L)):=rfl
theorem xg (tv:AV) (L L':List Bool):(A19 tv L).set 1 (.row 1 false (aO L'))=A19 tv L':=rfl
section
variable {tv:AV} {n:Nat}
theorem wI (hr:SlA 1 (aj rd) rv) (hn:rd.length=n) (hn2:n<=1000) (v2:AV):∀(c i m:Nat),i+c=n->c<m ->
  bM (evC (aw GC []) 300 dN) en m (gt rv v2 (.int .i64 (n:Int)) (.sl 1 0 (n+2)) (.int .i64 (i:Int))) (A19 tv (eF (fun j=>decide (0<=rd.getD j 0)) n i)) =
   some (.exit 0 ((gt rv v2 (.int .i64 (n:Int)) (.sl 1 0 (n+2)) (.int .i64 (n:Int))).set 11 (.bool false)) (A19 tv (eF (fun j=>decide (0<=rd.getD j 0)) n n))):=by
 intro c
 induction c with
 | zero=>
  intro i m hi hm
  obtain ⟨m,rfl⟩:∃j,m=j+1:=⟨m-1,by omega⟩
  obtain rfl:i=n:=by omega
  have b2:=a9 i i .i64
  rw [RD (by omega)] at b2
  rw [aD,qQ]
  simp [dN,b2,-ag]
 | succ c ih=>
  intro i m hi hm
  obtain ⟨m,rfl⟩:∃j,m=j+1:=⟨m-1,by omega⟩
  have ih:=ih (i+1) m (by omega) (by omega)
  have b0:=a9 i n .i64
  rw [RE (by omega)] at b0
  have b1:=aV i (by omega)
  have hin:i<rd.length:=by omega
  have x0:∀A,ae 1 A rv (.int .i64 (i:Int))=some (.fp [.int .i64 (rd.getD i 0)]):=fun A=>by
   have e:rd.getD i 0=rd[i]:=by rw [Rw,Rx hin]; rfl
   rw [e]
   exact hr.index1 (A:=A) (x:=.int .i64 rd[i]) (i:=i) (by simp [aj,hin]) rfl rfl .i64
  have x1:∀A z,ab false 1 A (.fp [.int .i64 z])=some (.int .i64 z):=fun _ _=>rfl
  have b3:ag .geq (.int .i64 (rd.getD i 0)) (.int .i64 0)=some (.bool (decide (0<=rd.getD i 0))):=by simp [ag]
  have i0:=cE (n:=n+2) (gc tv (eF (fun j=>decide (0<=rd.getD j 0)) n i)) (show i+1<n+2 by omega) .i64
  have s0:=gD (gc tv (eF (fun j=>decide (0<=rd.getD j 0)) n i)) (show i+1<(eF (fun j=>decide (0<=rd.getD j 0)) n i).length by rw [KS]; omega) (decide (0<=rd.getD i 0))
  rw [xg,KR (fun j=>decide (0<=rd.getD j 0)) (show i<n by omega)] at s0
  rw [aD,qQ]
  obtain ⟨j,hj⟩:∃j,j=i+1:=⟨_,rfl⟩
  rw [<-hj] at ih b1 i0 s0
  have e:run (aw GC []) 300 [.code dN] (gt rv v2 (.int .i64 (n:Int)) (.sl 1 0 (n+2)) (.int .i64 (i:Int))) (A19 tv (eF (fun j=>decide (0<=rd.getD j 0)) n i))=some (.normal (gt rv v2 (.int .i64 (n:Int)) (.sl 1 0 (n+2)) (.int .i64 (j:Int))) (A19 tv (eF (fun j=>decide (0<=rd.getD j 0)) n j))):=by
   generalize A19 tv (eF (fun j=>decide (0<=rd.getD j 0)) n i)=B0 at *
   generalize A19 tv (eF (fun j=>decide (0<=rd.getD j 0)) n j)=B1 at *
   generalize decide (0<=rd.getD i 0)=d at *
   generalize rd.getD i 0=z at *
   simp [dN,b0,b1,x0,x1,b3,i0,s0,-ag,-ab,-az,-ae]
  rw [e]
  exact ih
abbrev r19 (lv:AV) (n:Nat) (v8 v9 v12 v13:AV):List AV:=[.undef,.undef,lv,.undef,.bool false,.int .i64 (n:Int),.sl 1 0 (n+2),.undef,v8,v9,.undef,.undef,v12,v13,.undef,.undef]
theorem tx {l:List cO} (hl:SlA 2 (l.map aL) lv) (hll:l.length<=1000) (hn1:1<=n) (hn2:n<=1000) {b:List Bool} (hb:b.length=n) {i:Nat} {t:cO} (ht:l[i]?=some t) :
  ((¬ ((1<=t.1/\t.1<=b.length)/\gZ b (t.1-1).toNat=true))->∃v8 v9 v12 v13 A,run (aw GC []) 300 [.code dC] (fD lv (.int .i64 (n:Int)) (.sl 1 0 (n+2)) (.int .i64 (i:Int))) (A19 tv (eL b))=some (.ret (r19 lv n v8 v9 v12 v13) A)) /\
  ((1<=t.1/\t.1<=b.length)/\gZ b (t.1-1).toNat=true->run (aw GC []) 300 [.code dC] (fD lv (.int .i64 (n:Int)) (.sl 1 0 (n+2)) (.int .i64 (i:Int))) (A19 tv (eL b))=some (.normal (fD lv (.int .i64 (n:Int)) (.sl 1 0 (n+2)) (.int .i64 ((i+1:Nat):Int))) (A19 tv (eL (mvB b (t.1-1).toNat))))):=by
 have hil:=(Rv.1 ht).1
 have b0:=a9 i l.length .i64
 rw [RE hil] at b0
 have hlv:=hl.len
 rw [RN] at hlv
 have b1:=aV i (by omega)
 have x0:∀A,ae 2 A lv (.int .i64 (i:Int))=some (.fp [.int .i64 t.1,.int .i64 t.2]):=fun A=>hl.index (A:=A) (x:=aL t) (i:=i) (by rw [SY,ht]; rfl) rfl (by omega) .i64
 have x1:∀A u v,aa 0 A (.fp [u,v])=some (.fp [u,v]):=fun _ _ _=>rfl
 have x2:∀A z v,ab false 1 A (.fp [.int .i64 z,v])=some (.int .i64 z):=fun _ _ _=>rfl
 obtain ⟨k,hk⟩:∃k,k=t.1:=⟨_,rfl⟩
 obtain ⟨i1,hi1⟩:∃j,j=i+1:=⟨_,rfl⟩
 rw [<-hi1] at b1 ⊢
 rw [<-hk] at x0 ⊢
 generalize t.2=t2 at *
 have c0:=bK k 1
 have c1:=bL k (n:Int)
 by_cases h1:1<=k
 case neg=>
  refine ⟨fun _=>⟨.int .i64 (i:Int),.int .i64 k,.bool true,.bool true,A19 tv (eL b),?_⟩,fun h=>absurd h.1.1 h1⟩
  rw [RE (by omega)] at c0
  generalize A19 tv (eL b)=B at *
  simp [dC,b0,hlv,x0,x1,x2,c0,-ag,-ab,-az,-ae,-aa,-aq]
 by_cases h2:k<=n
 case neg=>
  refine ⟨fun _=>⟨.int .i64 (i:Int),.int .i64 k,.bool true,.bool true,A19 tv (eL b),?_⟩,fun h=>absurd h.1.2 (by omega)⟩
  rw [RD (by omega)] at c0
  rw [RE (by omega)] at c1
  generalize A19 tv (eL b)=B at *
  simp [dC,b0,hlv,x0,x1,x2,c0,c1,-ag,-ab,-az,-ae,-aa,-aq]
 rw [RD (by omega)] at c0
 rw [RD (by omega)] at c1
 obtain ⟨q,hq⟩:∃q:Nat,k=((q+1:Nat):Int):=⟨(k-1).toNat,by omega⟩
 subst hq
 have eq:(((q+1:Nat):Int)-1).toNat=q:=by omega
 rw [eq]
 have hqn:q<b.length:=by omega
 have i0:=cE (n:=n+2) (gc tv (eL b)) (show q+1<n+2 by omega) .i64
 have d0:=m7 (gc tv (eL b)) (show q+1<(eL b).length by rw [vf]; omega)
 rw [BD] at d0
 have c2:=a9 (q+1) n .i64
 have c3:=aV (q+1) (by omega)
 have i1':=cE (n:=n+2) (gc tv (eL b)) (show q+1+1<n+2 by omega) .i64
 have d1:=m7 (gc tv (eL b)) (show q+1+1<(eL b).length by rw [vf]; omega)
 rw [BD] at d1
 have s0:=gD (gc tv (eL b)) (show q+1<(eL b).length by rw [vf]; omega) false
 rw [xg,BC b hqn] at s0
 have i2:=cE (n:=n+2) (gc tv (eL (b.set q false))) (show q+1+1<n+2 by omega) .i64
 have s1:=gD (gc tv (eL (b.set q false))) (show q+1+1<(eL (b.set q false)).length by rw [vf,Sm]; omega) (decide (q+1<n))
 rw [xg] at s1
 have hmv:(eL (b.set q false)).set (q+1+1) (decide (q+1<n))=eL (mvB b q):=by
  unfold mvB
  by_cases h:q+1=b.length
  ·rw [RH h,RD (by omega)]
   have:=KQ (b.set q false)
   rw [Sm,<-h] at this
   exact this
  ·rw [RK h,RE (by omega),BC _ (by rw [Sm]; omega)]
 rw [hmv] at s1
 have hcan:=gB (b:=b) (k:=q)
 have hcb:gZ b q=(b.getD q false && (decide (q+1=b.length) || !b.getD (q+1) false)):=rfl
 have hc5:decide (q+1<n)=!decide (q+1=b.length):=by
  by_cases h:q+1=b.length
  ·rw [RD (by omega),RE h]; rfl
  ·rw [RE (by omega),RD h]; rfl
 have hlo:((1:Int)<=((q+1:Nat):Int)/\((q+1:Nat):Int)<=b.length):=by omega
 clear hcan hmv eq hk hi1 hl ht
 rw [hcb]
 clear hcb
 generalize hBm:A19 tv (eL (mvB b q))=Bm at *
 generalize A19 tv (eL (b.set q false))=B1 at *
 generalize A19 tv (eL b)=B at *
 generalize ((q+1+1:Nat):Int)=q2 at *
 generalize ((q+1:Nat):Int)=q1 at *
 rw [hc5] at c2 s1
 generalize decide (q+1=b.length)=dd at *
 generalize b.getD q false=g0 at *
 generalize b.getD (q+1) false=g1 at *
 cases g0
 ·refine ⟨fun _=>⟨.int .i64 (i:Int),.int .i64 q1,.bool true,.bool true,B,?_⟩,fun h=>by simp at h⟩
  simp [dC,b0,hlv,x0,x1,x2,c0,c1,i0,d0,-ag,-ab,-az,-ae,-aa,-aq]
 cases dd
 ·cases g1
  ·refine ⟨fun h=>absurd ⟨hlo,by simp⟩ h,fun _=>?_⟩
   rw [Bool.not_false] at c2 s1
   simp [dC,b0,hlv,x0,x1,x2,c0,c1,c2,c3,i0,d0,i1',d1,s0,i2,s1,b1,-ag,-ab,-az,-ae,-aa,-aq]
  ·refine ⟨fun _=>⟨.int .i64 (i:Int),.int .i64 q1,.bool true,.bool true,B,?_⟩,fun h=>by simp at h⟩
   simp [dC,b0,hlv,x0,x1,x2,c0,c1,c2,c3,i0,d0,i1',d1,-ag,-ab,-az,-ae,-aa,-aq]
 ·refine ⟨fun h=>absurd ⟨hlo,by simp⟩ h,fun _=>?_⟩
  rw [Ub] at c2 s1
  simp [dC,b0,hlv,x0,x1,x2,c0,c1,c2,c3,i0,d0,s0,i2,s1,b1,-ag,-ab,-az,-ae,-aa,-aq]
theorem rO:∀ {o:List Int} {b b':List Bool},lj b o=some b'->b'.length=b.length
 | [],b,b',h=>by injection h with h; rw [h]
 | t :: r,b,b',h=>by
  unfold lj at h
  split at h
  ·rw [rO h,fu]
  ·cases h
theorem wH {l:List cO} (hl:SlA 2 (l.map aL) lv) (hll:l.length<=1000) (hn1:1<=n) (hn2:n<=1000):∀(c i m:Nat) (b:List Bool),i+c=l.length->c<m->b.length=n ->
  (∀b',lj b ((l.drop i).map (·.1))=some b'->bM (evC (aw GC []) 300 dC) dS m (fD lv (.int .i64 (n:Int)) (.sl 1 0 (n+2)) (.int .i64 (i:Int))) (A19 tv (eL b))=some (.exit 2 ((fD lv (.int .i64 (n:Int)) (.sl 1 0 (n+2)) (.int .i64 (l.length:Int))).set 12 (.bool false)) (A19 tv (eL b')))) /\
  (lj b ((l.drop i).map (·.1))=none->∃v8 v9 v12 v13 A,bM (evC (aw GC []) 300 dC) dS m (fD lv (.int .i64 (n:Int)) (.sl 1 0 (n+2)) (.int .i64 (i:Int))) (A19 tv (eL b))=some (.ret (r19 lv n v8 v9 v12 v13) A)):=by
 intro c
 induction c with
 | zero=>
  intro i m b hi hm hb
  obtain ⟨m,rfl⟩:∃j,m=j+1:=⟨m-1,by omega⟩
  obtain rfl:i=l.length:=by omega
  rw [SP]
  refine ⟨fun b' h=>?_,fun h=>by cases h⟩
  injection h with h
  subst h
  have hlv:=hl.len
  rw [RN] at hlv
  have b2:=a9 l.length l.length .i64
  rw [RD (by omega)] at b2
  rw [aD,mL]
  generalize A19 tv (eL b)=B at *
  simp [dC,b2,hlv,-ag,-aq]
 | succ c ih=>
  intro i m b hi hm hb
  obtain ⟨m,rfl⟩:∃j,m=j+1:=⟨m-1,by omega⟩
  have hil:i<l.length:=by omega
  obtain ⟨t,ht⟩:∃t,t=l[i]:=⟨_,rfl⟩
  have ht':l[i]?=some t:=by rw [ht]; exact Rx hil
  obtain ⟨r1,r2⟩:=tx (tv:=tv) hl hll hn1 hn2 hb ht'
  rw [Sw hil,<-ht,SG]
  unfold lj
  by_cases hc:(1<=t.1/\t.1<=b.length)/\gZ b (t.1-1).toNat=true
  ·rw [RH hc]
   obtain ⟨k1,k2⟩:=ih (i+1) m (mvB b (t.1-1).toNat) (by omega) (by omega) (by rw [fu]; exact hb)
   have r2:=r2 hc
   refine ⟨fun b' h=>?_,fun h=>?_⟩
   ·rw [aD,mL,r2]
    exact k1 b' h
   ·obtain ⟨v8,v9,v12,v13,A,e⟩:=k2 h
    refine ⟨v8,v9,v12,v13,A,?_⟩
    rw [aD,mL,r2]
    exact e
  ·rw [RK hc]
   refine ⟨fun b' h=>(by cases h),fun _=>?_⟩
   obtain ⟨v8,v9,v12,v13,A,e⟩:=r1 hc
   refine ⟨v8,v9,v12,v13,A,?_⟩
   rw [aD,mL,e]
abbrev r19c (n:Nat) (v10 v14 v15:AV):List AV:=[.undef,.undef,.undef,.undef,.bool false,.int .i64 (n:Int),.sl 1 0 (n+2),.undef,.undef,.undef,v10,.undef,.undef,.undef,v14,v15]
theorem H0 (hn2:n<=1000) (hb:b.length=n):∀(c i m:Nat),i+c=n->c<m ->
  ((b.drop i).any id=false->bM (evC (aw GC []) 300 l8) lS m (pM (.int .i64 (n:Int)) (.sl 1 0 (n+2)) (.int .i64 ((i+1:Nat):Int))) (A19 tv (eL b))=some (.exit 4 ((pM (.int .i64 (n:Int)) (.sl 1 0 (n+2)) (.int .i64 ((n+1:Nat):Int))).set 14 (.bool false)) (A19 tv (eL b)))) /\
  ((b.drop i).any id=true->∃v10 v14 v15,bM (evC (aw GC []) 300 l8) lS m (pM (.int .i64 (n:Int)) (.sl 1 0 (n+2)) (.int .i64 ((i+1:Nat):Int))) (A19 tv (eL b))=some (.ret (r19c n v10 v14 v15) (A19 tv (eL b)))):=by
 intro c
 induction c with
 | zero=>
  intro i m hi hm
  obtain ⟨m,rfl⟩:∃j,m=j+1:=⟨m-1,by omega⟩
  obtain rfl:i=n:=by omega
  have hd:b.drop i=[]:=by rw [<-hb]; exact SP
  rw [hd]
  refine ⟨fun _=>?_,fun h=>by cases h⟩
  have b2:=cK ((i+1:Nat):Int) (i:Int)
  rw [RD (by omega)] at b2
  rw [aD,vx]
  generalize A19 tv (eL b)=B at *
  generalize ((i+1:Nat):Int)=i1 at *
  simp [l8,b2,-ag]
 | succ c ih=>
  intro i m hi hm
  obtain ⟨m,rfl⟩:∃j,m=j+1:=⟨m-1,by omega⟩
  have hin:i<b.length:=by omega
  obtain ⟨k1,k2⟩:=ih (i+1) m (by omega) (by omega)
  have b0:=cK ((i+1:Nat):Int) (n:Int)
  rw [RE (by omega)] at b0
  have b1:=aV (i+1) (by omega)
  have i0:=cE (n:=n+2) (gc tv (eL b)) (show i+1<n+2 by omega) .i64
  have d0:=m7 (gc tv (eL b)) (show i+1<(eL b).length by rw [vf]; omega)
  rw [BD] at d0
  have eg:b.getD i false=b[i]:=by rw [Rw,Rx hin]; rfl
  rw [eg] at d0
  rw [Sw hin,List.any_cons]
  obtain ⟨g,hg⟩:∃g,g=b[i]:=⟨_,rfl⟩
  rw [<-hg] at d0 ⊢
  generalize A19 tv (eL b)=B at *
  obtain ⟨w,hw⟩:∃w,w=((i+1+1:Nat):Int):=⟨_,rfl⟩
  rw [<-hw] at b1 k1 k2
  cases g
  ·have e:run (aw GC []) 300 [.code l8] (pM (.int .i64 (n:Int)) (.sl 1 0 (n+2)) (.int .i64 ((i+1:Nat):Int))) B=some (.normal (pM (.int .i64 (n:Int)) (.sl 1 0 (n+2)) (.int .i64 w)) B):=by
    generalize ((i+1:Nat):Int)=i1 at *
    simp [l8,b0,b1,i0,d0,-ag,-ab,-ae]
   refine ⟨fun h=>?_,fun h=>?_⟩
   ·rw [aD,vx,e]
    exact k1 (by simpa using h)
   ·obtain ⟨v10,v14,v15,h2⟩:=k2 (by simpa using h)
    refine ⟨v10,v14,v15,?_⟩
    rw [aD,vx,e]
    exact h2
  ·refine ⟨fun h=>by simp at h,fun _=>⟨.int .i64 ((i+1:Nat):Int),.bool true,.bool true,?_⟩⟩
   rw [aD,vx]
   generalize ((i+1:Nat):Int)=i1 at *
   simp [l8,b0,i0,d0,-ag,-ab,-ae]
end
def M19:aU:=fun args=>evP (aw GC []) 300 vU 4 args
theorem ui:ax Try.prog GC 19 M19:=ax.of_ev (E:=aw GC []) (ay aB) rfl LC vt 4 fun _ _ h=>⟨300,h⟩
theorem C3 {T:aT} (hcv:SlA 2 (T.ch.map chA) chv) (hn1:1<=T.ch.length) (hn2:T.ch.length<=200) {rdv:AV} (hr:SlA 1 (aj rd) rdv) (hrl:rd.length=T.ch.length) {l:List cO} (hl:SlA 2 (l.map aL) lv) (hll:l.length<=200) :
  M19 [af T chv,rdv,lv]=some (.bool (MQ (b0 rd) (l.map (·.1)))):=by
 have bx:aS 5 (af T chv) []=some (.ptr 0 0 0,[.row 5 false [af T chv]]):=rfl
 have ct:(cellsOf (af T chv)).length=5:=rfl
 have lnc:=hcv.len
 rw [RN] at lnc
 have fa:aa 0 [.row 5 false [af T chv]] (.ptr 0 0 0)=some (.ptr 0 0 0):=rfl
 have la:ab false 1 [.row 5 false [af T chv]] (.ptr 0 0 0)=some chv:=me (k:=5) (es:=[chv,.int .i64 T.pick,.int .i64 T.place,.int .i64 T.travel,.int .i64 T.blades]) rfl rfl
 obtain ⟨n,hn⟩:∃n,n=T.ch.length:=⟨_,rfl⟩
 rw [<-hn] at lnc hn1 hn2 hrl
 have b1:ag .add (.int .i64 (n:Int)) (.int .i64 2)=some (.int .i64 ((n+2:Nat):Int)):=by rw [aZ (by omega)]; congr 2
 have mk:bU 1 1 (.bool false) [.row 5 false [af T chv]] (.int .i64 ((n+2:Nat):Int)) (.int .i64 ((n+2:Nat):Int))=some (.sl 1 0 (n+2),A19 (af T chv) (eF (fun j=>decide (0<=rd.getD j 0)) n 0)):=by
  simp only [bU]
  rw [RH ⟨by omega,by omega,by omega,by omega,rfl,rfl,by omega⟩,RW,Ih]
  unfold A19 aO
  rw [T6]; rfl
 have lp0:=wI (tv:=af T chv) hr hrl (by omega) lv n 0 300 (by omega) (by omega)
 have ef:=Ii rd
 rw [hrl] at ef
 rw [ef,show ((0:Nat):Int)=0 from rfl] at lp0
 have hbl:(b0 rd).length=n:=by rw [dQ,hrl]
 obtain ⟨k1,k2⟩:=wH (tv:=af T chv) (n:=n) hl (by omega) hn1 (by omega) l.length 0 300 (b0 rd) (by omega) (by omega) hbl
 rw [RT,show ((0:Nat):Int)=0 from rfl] at k1 k2
 rw [sK]
 have fz:∀A b,frz A 4 (.bool b)=.bool b:=fun A b=>bc _ _ _
 unfold M19
 cases hst:lj (b0 rd) (l.map (·.1)) with
 | none=>
  obtain ⟨v8,v9,v12,v13,A,e⟩:=k2 hst
  clear hst k1 k2 lnc ef
  have lnc:=hcv.len
  rw [RN,<-hn] at lnc
  generalize A19 (af T chv) (eF (fun j=>decide (0<=rd.getD j 0)) n 0)=B0 at *
  generalize A19 (af T chv) (eL (b0 rd))=B1 at *
  generalize af T chv=tv at *
  generalize ((n+2:Nat):Int)=n2 at *
  rw [aN _ _ rfl]
  simp [vU,bx,ct,fa,la,lnc,b1,mk,uP lp0,uO e,fz,-aS,-ab,-aa,-aq,-bU,-frz,-cellsOf,-ag]
 | some b'=>
  have e:=k1 b' hst
  have hbl':b'.length=n:=by rw [rO hst,hbl]
  obtain ⟨j1,j2⟩:=H0 (tv:=af T chv) (n:=n) (by omega) hbl' n 0 300 (by omega) (by omega)
  rw [RT,show ((0+1:Nat):Int)=1 from rfl] at j1 j2
  clear hst k1 k2 ef
  cases ha:b'.any id with
  | false=>
   have e2:=j1 ha
   rw [show ((some b').map fun c:List Bool=>!c.any id).getD false=!b'.any id from rfl,ha,Bool.not_false]
   clear j1 j2 ha hbl'
   generalize A19 (af T chv) (eF (fun j=>decide (0<=rd.getD j 0)) n 0)=B0 at *
   generalize A19 (af T chv) (eL (b0 rd))=B1 at *
   generalize A19 (af T chv) (eL b')=B2 at *
   generalize af T chv=tv at *
   generalize ((n+2:Nat):Int)=n2 at *
   rw [aN _ _ rfl]
   simp [vU,bx,ct,fa,la,lnc,b1,mk,uP lp0,uO e,Fq e2,fz,-aS,-ab,-aa,-aq,-bU,-frz,-cellsOf,-ag]
  | true=>
   obtain ⟨v10,v14,v15,e2⟩:=j2 ha
   rw [show ((some b').map fun c:List Bool=>!c.any id).getD false=!b'.any id from rfl,ha,Ub]
   clear j1 j2 ha hbl'
   generalize A19 (af T chv) (eF (fun j=>decide (0<=rd.getD j 0)) n 0)=B0 at *
   generalize A19 (af T chv) (eL (b0 rd))=B1 at *
   generalize A19 (af T chv) (eL b')=B2 at *
   generalize af T chv=tv at *
   generalize ((n+2:Nat):Int)=n2 at *
   rw [aN _ _ rfl]
   simp [vU,bx,ct,fa,la,lnc,b1,mk,uP lp0,uO e,Fq e2,fz,-aS,-ab,-aa,-aq,-bU,-frz,-cellsOf,-ag]
end Tr
namespace Tr
open Go
def qi:MC:=.seq (.seq (.region [.a 7,.a 6,.v 1,.F 12 0 2]) (.cond (.var 12) .skip (.exit 2))) (.seq (.seq (.block 3 (.region [.a 2,.a 4,.i 1 1,.b6 2,.a 6,.a 7,.e 1 4 5,.b 1 6,.ax 1 3 7,.b6 8,.cw 1 0 9,.c 2 10])) (.kill [1,5,8,9,10,11,12,13])) (.region [.a 7,.i 0 1,.c 7 1]))
def fY:MC:=.seq (.seq (.region [.a 4,.a 0,.v 1,.F 8 0 2]) (.cond (.var 8) .skip (.exit 0))) (.seq (.seq (.block 1 (.seq (.seq (.region [.a 0,.a 4,.e 1 0 1,.b 1 2,.V 9 3]) (.cond (.var 9) (.exit 1) .skip)) (.seq (.region [.g 3]) (.seq (.seq (.region [.a 4,.i 0 1,.a 0,.v 2,.cz 1 3,.h 4,.k 0 5,.k 4 5,.au 7 1 5,.L 1 6 8 5,.x 1 9 5,.Z 10 5 10]) (.cond (.var 10) (.exit 1) .skip)) (.seq (.region [.cl,.a 0,.qn (.append 1 1 (.tmp 0) (.tmp 1)),.c 5 2]) (.seq (.region [.a 5,.a 4,.e 1 0 1,.co 1 2]) (.seq (.seq (.region [.a 4,.i 0 1,.a 0,.v 2,.F 11 1 3]) (.cond (.var 11) (.region [.a 5,.a 4,.i 1 1,.e 1 0 2,.qn (.store 1 (.tmp 3) (.cst (.bool true)))]) .skip)) (.seq (.region [.a 5,.J 38 0,.c 6 1]) (.seq (.region [.f 7 0]) (.seq (.block 2 (.loop [1,5,8,9,10,11,12,13] qi)) (.kill [1,5,6,7,8,9,10,11,12,13]))))))))))) (.kill [1,5,6,7,8,9,10,11,12,13])) (.region [.a 4,.i 0 1,.c 4 1]))
def qb:cI:=⟨1,14,.seq (.region [.w 1]) (.seq (.region [.w 2]) (.seq (.region [.I 3]) (.seq (.seq (.region [.f 4 0]) (.seq (.block 0 (.loop [1,5,6,7,8,9,10,11,12,13] fY)) (.kill [0,1,4,5,6,7,8,9,10,11,12,13]))) (.seq (.seq (.region [.ai 13 3]) (.cond (.var 13) (.seq (.region [.qn (.buildSlice 1 [.cst .nilS]),.c 1 0]) .ret) .skip)) (.seq (.region [.a 2,.c 1 0]) .ret))))),[.tmp 1]⟩
def oQ:List Nat:=[1,5,8,9,10,11,12,13]
abbrev rQ (v0 v2 v3 v4 v6 v7:AV):List AV:=[v0,.undef,v2,v3,v4,.undef,v6,v7,.undef,.undef,.undef,.undef,.undef,.undef]
theorem Ch:clear oQ [v0,d1,v2,v3,v4,d5,v6,v7,d8,d9,d10,d11,d12,d13]=rQ v0 v2 v3 v4 v6 v7:=rfl
theorem Fl {k:List KC} (h:bM (evC E fuel qi) oQ fuel (rQ v0 v2 v3 v4 v6 v7) A=some o) :
  run E fuel (.code (.loop [1,5,8,9,10,11,12,13] qi) :: k) [v0,d1,v2,v3,v4,d5,v6,v7,d8,d9,d10,d11,d12,d13] A=after E fuel k o:=aQ oQ _ _ (by rw [Ch]; exact h)
def jC:List Nat:=[1,5,6,7,8,9,10,11,12,13]
abbrev fC (v0 v2 v3 v4:AV):List AV:=[v0,.undef,v2,v3,v4,.undef,.undef,.undef,.undef,.undef,.undef,.undef,.undef,.undef]
theorem Cg:clear jC [v0,d1,v2,v3,v4,d5,d6,d7,d8,d9,d10,d11,d12,d13]=fC v0 v2 v3 v4:=rfl
theorem Be {k:List KC} (h:bM (evC E fuel fY) jC fuel (fC v0 v2 v3 v4) A=some o) :
  run E fuel (.code (.loop [1,5,6,7,8,9,10,11,12,13] fY) :: k) [v0,d1,v2,v3,v4,d5,d6,d7,d8,d9,d10,d11,d12,d13] A=after E fuel k o:=aQ jC _ _ (by rw [Cg]; exact h)
theorem sN:aH Try.prog Try.f38 1 [0,2,3,4,5,6,7,8,12,19,31,42,52,66] [] false ([[1,5,6,7,8,9,10,11,12,13],[1,5,8,9,10,11,12,13]],[[1,5,8,9,10,11,12,13],[1,5,6,7,8,9,10,11,12,13],[1,5,6,7,8,9,10,11,12,13],[0,1,4,5,6,7,8,9,10,11,12,13]])=some qb:=by kernel_rfl
theorem IW:Try.prog.funcs[38]?=some Try.f38:=by kernel_rfl
end Tr
namespace Tr
open Go
open Cy (GC aM bc aA)
open Clu (aT aY af chA aZ bD cB bA bK bL cK dM tp xD m8)
def LP (A:ac) (v:AV) (pl:List (Nat × List Int)):Prop:=
 (∀x∈pl,x.2≠[]/\∃g,A[x.1]?=some (.row 1 g (aj x.2)))/\((v=.nilS/\pl=[])\/∃id gr,v=.sl id 0 pl.length/\pl≠[]/\A[id]?=some (.row 1 gr (pl.map tp)))
theorem LP.keep {B:ac} (h:LP A v pl) (hk:∀j,j<A.length->B[j]?=A[j]?):LP B v pl:=by
 have hk:∀(j:Nat) (e:Ent),A[j]?=some e->B[j]?=some e:=fun j e h=>by rw [hk j (Rv.1 h).1]; exact h
 refine ⟨fun x hx=>⟨(h.1 x hx).1,?_⟩,?_⟩
 ·obtain ⟨g,hg⟩:=(h.1 x hx).2
  exact ⟨g,hk _ _ hg⟩
 ·rcases h.2 with h4 | ⟨id,gr,h4,h5,h6⟩
  ·exact .inl h4
  ·exact .inr ⟨id,gr,h4,h5,hk _ _ h6⟩
theorem LP.add (h:LP A v pl) {l:List Int} (hl:l≠[]) (hb:pl.length<=100000) {r y:Nat} {g:Bool} (hr:A[r]?=some (.row 1 g (aj l))) (hy:A[y]?=some (.row 1 false [.sl r 0 l.length])) :
  ∃v' A',aR 1 24 A v (.sl y 0 1)=some (v',A')/\LP A' v' (pl++[(r,l)]):=by
 obtain ⟨h3,h4⟩:=h
 have hsrc:a8 1 A (.sl y 0 1)=some [.sl r 0 l.length]:=by simp [a8,hy]
 rcases h4 with ⟨rfl,rfl⟩ | ⟨id,gr,rfl,hpl,hrow⟩
 ·refine ⟨.sl A.length 0 1,A++[.row 1 false [.sl r 0 l.length]],?_,⟨fun x hx=>?_,.inr ⟨A.length,false,by simp,by simp,by simp [tp]⟩⟩⟩
  ·unfold aR; rw [hsrc]; simp
  ·simp only [S7,Sg] at hx
   subst hx
   exact ⟨hl,g,by rw [RC (Rv.1 hr).1]; exact hr⟩
 ·have hidl:id<A.length:=(Rv.1 hrow).1
  have hlen:0<pl.length:=Tn.2 hpl
  have hne:∀(m:List Int) g',m≠[]->(Ent.row 1 gr (pl.map tp))≠.row 1 g' (aj m):=fun m g' hm e=>by
   cases pl with
   | nil=>exact absurd rfl hpl
   | cons x r=>
    cases m with
    | nil=>exact hm rfl
    | cons y t=>simp [tp,aj] at e
  have hnid:∀j (m:List Int) g',m≠[]->A[j]?=some (.row 1 g' (aj m))->j≠id:=fun j m g' hm hj e=>by
   subst e
   rw [hrow] at hj
   injection hj with hj
   exact hne m g' hm hj
  refine ⟨.sl id 0 (pl.length+1),A.set id (.row 1 true (pl.map tp++[.sl r 0 l.length])),?_,⟨fun x hx=>?_,.inr ⟨id,true,by simp,by simp,?_⟩⟩⟩
  ·have hz:pl.length≠0:=by omega
   have hb2:(pl.length+1)*24<=140737488355328:=by omega
   unfold aR; rw [hsrc]; simp [hrow,hz,hb2]
  ·rcases TN.1 hx with hx | hx
   ·obtain ⟨k1,g',k2⟩:=h3 x hx
    exact ⟨k1,g',by rw [RF (fun e=>hnid _ _ _ k1 k2 e.symm)]; exact k2⟩
   ·rw [Sg] at hx
    subst hx
    exact ⟨hl,g,by rw [RF (fun e=>hnid _ _ _ hl hr e.symm)]; exact hr⟩
  ·rw [RO hidl,SH]; rfl
theorem LP.frz (h:LP A v pl) (k:Nat):Go.Proofs.Ytkcjhljbgjpklaa.frz A (k+3) v=dM (pl.map (·.2)):=by
 obtain ⟨h1,h2⟩:=h
 rcases h2 with ⟨rfl,rfl⟩ | ⟨id,gr,rfl,hne,hr⟩
 ·rfl
 ·have e:((pl.map tp).drop 0).take pl.length=pl.map tp:=by
   rw [RT]
   exact RX (by simp)
  have hm:(pl.map tp).map (Go.Proofs.Ytkcjhljbgjpklaa.frz A (k+2))=(pl.map (·.2)).map fun l=>slA 1 (aj l):=by
   rw [Tc,Tc]
   refine Sb fun x hx=>?_
   obtain ⟨n1,g,n2⟩:=h1 x hx
   show Go.Proofs.Ytkcjhljbgjpklaa.frz A (k+1+1) (.sl x.1 0 x.2.length)=_
   rw [mw n2 rfl]
   exact (xD n1).symm
  rw [show k+3=(k+2)+1 from rfl]
  simp only [Go.Proofs.Ytkcjhljbgjpklaa.frz,hr]
  rw [e,hm]
  unfold dM
  cases pl with
  | nil=>exact absurd rfl hne
  | cons x r=>rfl
theorem LP.fresh (h:LP A v pl) (k:Nat):bo A (k+4) v=true:=by
 obtain ⟨h1,h2⟩:=h
 rcases h2 with ⟨rfl,rfl⟩ | ⟨id,gr,rfl,hne,hr⟩
 ·rfl
 ·rw [show k+4=(k+3)+1 from rfl]
  simp only [bo,hr,RT]
  rw [RZ]
  intro y hy
  obtain ⟨x,hx,rfl⟩:=Sa.1 (List.mem_of_mem_take hy)
  obtain ⟨n1,g,n2⟩:=h1 x hx
  exact m8 n2 (k+1)
section
variable {M:aU}
abbrev zh (M:aU):List (FuncId × aJ):=[(38,cJ 4 M)]
@[simp] theorem Oc:aE (zh M) 38=some (cJ 4 M):=rfl
theorem AJ (hos:os.length<=1100) (hlo:∀o∈os,o.length<=1000) (hk:k<=100) (v0 v3:AV):∀(c j m:Nat) (A:ac) (v:AV) (pl:List (Nat × List Int)),j+c=os.length->c<m->LP A v pl->pl.length+c<=90000 ->
  ∃v' B pl',bM (evC (aw GC (zh M)) 1200 qi) oQ m (rQ v0 v v3 (.int .i64 (k:Int)) (dM os) (.int .i64 (j:Int))) A=some (.exit 2 ((rQ v0 v' v3 (.int .i64 (k:Int)) (dM os) (.int .i64 (os.length:Int))).set 12 (.bool false)) B)/\LP B v' pl'/\pl'.map (·.2)=pl.map (·.2)++(os.drop j).map (((k:Int)+1) :: ·)/\pl'.length=pl.length+c:=by
 have hO:SlA 1 (os.map fun l=>slA 1 (aj l)) (dM os):=ba _ _
 have hlen:=hO.len
 rw [RN] at hlen
 intro c
 induction c with
 | zero=>
  intro j m A v pl hj hm hL hpl
  obtain ⟨m,rfl⟩:∃j,m=j+1:=⟨m-1,by omega⟩
  obtain rfl:j=os.length:=by omega
  refine ⟨v,A,pl,?_,hL,by rw [SP]; simp,rfl⟩
  have b0:=a9 os.length os.length .i64
  rw [RD (by omega)] at b0
  rw [aD,Ch]
  generalize dM os=OV1 at *
  simp [qi,b0,hlen,-ag,-aq]
 | succ c ih=>
  intro j m A v pl hj hm hL hpl
  obtain ⟨m,rfl⟩:∃j,m=j+1:=⟨m-1,by omega⟩
  have hjl:j<os.length:=by omega
  have b0:=a9 j os.length .i64
  rw [RE hjl] at b0
  have b9:=aV j (by omega)
  have bk:ag .add (.int .i64 (k:Int)) (.int .i64 1)=some (.int .i64 ((k:Int)+1)):=aZ (by omega)
  obtain ⟨o,ho⟩:∃o,o=os[j]:=⟨_,rfl⟩
  have hol:o.length<=1000:=by rw [ho]; exact hlo _ (RM hjl)
  have hsol:(slA 1 (aj o)).solid=true/\cellsOf (slA 1 (aj o))=[slA 1 (aj o)]:=jX (ba 1 (aj o))
  have x1:∀A,ae 1 A (dM os) (.int .i64 (j:Int))=some (.fp [slA 1 (aj o)]):=fun A=>by
   rw [ho]
   exact hO.index1 (x:=slA 1 (aj os[j])) (i:=j) (by simp [hjl]) (by rw [<-ho]; exact hsol.1) (by rw [<-ho]; exact hsol.2) .i64
  have l1:∀A,ab false 1 A (.fp [slA 1 (aj o)])=some (slA 1 (aj o)):=fun A=>by
   rcases ba 1 (aj o) with ⟨e,_⟩ | e <;> rw [e] <;> rfl
  obtain ⟨N,hN⟩:∃N,N=A.length:=⟨_,rfl⟩
  have bs1:aI 1 [.int .i64 ((k:Int)+1)] A=some (.sl N 0 1,A++[.row 1 false [.int .i64 ((k:Int)+1)]]):=by simp [aI,hN]
  obtain ⟨A1,hA1⟩:∃A1,A1=A++[Ent.row 1 true (aj (((k:Int)+1) :: o))]:=⟨_,rfl⟩
  have ap1:aR 1 8 (A++[.row 1 false [.int .i64 ((k:Int)+1)]]) (.sl N 0 1) (slA 1 (aj o))=some (.sl N 0 (1+o.length),A1):=by
   have hs:=(ba 1 (aj o)).src (A:=A++[.row 1 false [.int .i64 ((k:Int)+1)]])
   have hr:(A++[Ent.row 1 false [.int .i64 ((k:Int)+1)]])[N]?=some (.row 1 false [.int .i64 ((k:Int)+1)]):=by rw [hN]; simp
   simp only [aR,hs,hr,aA]
   rw [RH ⟨trivial,by omega,by omega,by omega⟩,RH ⟨trivial,rfl,by omega⟩,hA1,hN]
   simp [aj]
  have hA1l:A1.length=N+1:=by rw [hA1,hN]; simp
  have bs2:aI 1 [.sl N 0 (1+o.length)] A1=some (.sl (N+1) 0 1,A1++[.row 1 false [.sl N 0 (1+o.length)]]):=by simp [aI,hA1l]
  obtain ⟨v1,B1,ap2,hL1⟩:=(hL.keep (B:=A1++[.row 1 false [.sl N 0 (1+o.length)]]) (fun j hj=>by rw [hA1,R1,RC hj])).add (l:=((k:Int)+1) :: o) (by simp) (by omega) (r:=N) (y:=N+1) (g:=true) (by
    rw [RC (by omega),hA1,hN]; simp) (by
    rw [RS (by omega),hA1l,Tq,Nat.add_comm]; rfl)
  obtain ⟨v2,B2,pl2,g1,g2,g3,g4⟩:=ih (j+1) m B1 v1 (pl++[(N,((k:Int)+1) :: o)]) (by omega) (by omega) hL1 (by simp; omega)
  refine ⟨v2,B2,pl2,?_,g2,?_,by rw [g4]; simp; omega⟩
  ·rw [aD,Ch]
   obtain ⟨w,hw⟩:∃w,w=((j+1:Nat):Int):=⟨_,rfl⟩
   rw [<-hw] at b9 g1
   have e:run (aw GC (zh M)) 1200 [.code qi] (rQ v0 v v3 (.int .i64 (k:Int)) (dM os) (.int .i64 (j:Int))) A=some (.normal (rQ v0 v1 v3 (.int .i64 (k:Int)) (dM os) (.int .i64 w)) B1):=by
    clear g1 ih hL1 hL hO hsol
    generalize slA 1 (aj o)=ov at *
    generalize dM os=OV1 at *
    generalize A1++[Ent.row 1 false [.sl N 0 (1+o.length)]]=A3 at *
    generalize A++[Ent.row 1 false [.int .i64 ((k:Int)+1)]]=A2 at *
    generalize 1+o.length=ol at *
    generalize (k:Int)+1=k1 at *
    simp [qi,b0,b9,bk,hlen,x1,l1,bs1,ap1,bs2,ap2,-ag,-aq,-ab,-ae,-aI]
   rw [e]
   exact g1
  ·rw [g3,Sw hjl,<-ho]
   simp
def IJ (os:Nat->List (List Int)) (b:List Bool) (i:Nat):List (List Int):=(List.range i).flatMap fun k=>if gZ b k then (os k).map (((k:Int)+1) :: ·) else []
theorem Az (os:Nat->List (List Int)) (b:List Bool) (i:Nat):IJ os b (i+1)=IJ os b i++(if gZ b i then (os i).map (((i:Int)+1) :: ·) else []):=by
 unfold IJ
 rw [Te,TW]
 simp
theorem Ew (h:k<b.length):(b.take (k+1)).any id=((b.take k).any id || b.getD k false):=by
 rw [List.take_add_one,List.any_append,Rx h,Rw,Rx h]
 simp
theorem AI {bv:AV} (hb:SlA 1 (aO b) bv) (hn:b.length<=4) {os:Nat->List (List Int)} (hM:∀k,k<b.length->gZ b k=true->M [.fs 1 (aO (mvB b k))]=some (dM (os k))/\(os k).length<=1100/\∀o∈os k,o.length<=1000):∀(c k m:Nat) (A:ac) (v:AV) (pl:List (Nat × List Int)),k+c=b.length->c<m->LP A v pl->pl.map (·.2)=IJ os b k->pl.length<=1200*k ->
  ∃v' B pl',bM (evC (aw GC (zh M)) 1200 fY) jC m (fC bv v (.bool (!(b.take k).any id)) (.int .i64 (k:Int))) A=some (.exit 0 ((fC bv v' (.bool (!b.any id)) (.int .i64 (b.length:Int))).set 8 (.bool false)) B)/\LP B v' pl'/\pl'.map (·.2)=IJ os b b.length:=by
 have hlen:=hb.len
 rw [cQ] at hlen
 intro c
 induction c with
 | zero=>
  intro k m A v pl hk hm hL hp hpl
  obtain ⟨m,rfl⟩:∃j,m=j+1:=⟨m-1,by omega⟩
  obtain rfl:k=b.length:=by omega
  refine ⟨v,A,pl,?_,hL,hp⟩
  rw [Se]
  have b0:=a9 b.length b.length .i64
  rw [RD (by omega)] at b0
  rw [aD,Cg]
  generalize b.any id=an at *
  simp [fY,b0,hlen,-ag,-aq]
 | succ c ih=>
  intro k m A v pl hk hm hL hp hpl
  obtain ⟨m,rfl⟩:∃j,m=j+1:=⟨m-1,by omega⟩
  have hkl:k<b.length:=by omega
  have b0:=a9 k b.length .i64
  rw [RE hkl] at b0
  have b9:=aV k (by omega)
  have gk:b.getD k false=b[k]:=by rw [Rw,Rx hkl]; rfl
  have x1:∀A,ae 1 A bv (.int .i64 (k:Int))=some (.fp [.bool (b.getD k false)]):=fun A=>by rw [gk]; exact wM hb hkl .i64
  have l1:∀A z,ab false 1 A (.fp [.bool z])=some (.bool z):=fun _ _=>rfl
  have hat:=Ew hkl
  have b1:=a9 (k+1) b.length .i64
  have hcan:gZ b k=(b.getD k false && (decide (k+1=b.length) || !b.getD (k+1) false)):=rfl
  have hps:=Az os b k
  have ihn:=ih (k+1) m
  rw [hat] at ihn
  rw [aD,Cg]
  generalize (b.take k).any id=fl at *
  obtain ⟨w,hw⟩:∃w,w=((k+1:Nat):Int):=⟨_,rfl⟩
  rw [<-hw] at b9 b1 ihn
  cases hg:b.getD k false with
  | false=>
   rw [hg] at x1 hcan ihn
   have hc:gZ b k=false:=by rw [hcan]; rfl
   rw [hc] at hps
   simp only [Sc,S8,Sk] at hps
   rw [Bool.or_false] at ihn
   obtain ⟨v',B,pl',g1,g2,g3⟩:=ihn A v pl (by omega) (by omega) hL (by rw [hp,hps]) (by omega)
   refine ⟨v',B,pl',?_,g2,g3⟩
   have e:run (aw GC (zh M)) 1200 [.code fY] (fC bv v (.bool (!fl)) (.int .i64 (k:Int))) A=some (.normal (fC bv v (.bool (!fl)) (.int .i64 w)) A):=by
    clear g1 ihn ih hM hb hL
    generalize (!fl)=nf at *
    simp [fY,b0,b9,hlen,x1,l1,-ag,-aq,-ab,-ae]
   rw [e]
   exact g1
  | true=>
   rw [hg] at x1 hcan ihn
   rw [Bool.or_true,Ub] at ihn
   by_cases hk1:k+1<b.length
   ·rw [RE hk1] at b1
    have gk1:b.getD (k+1) false=b[k+1]:=by rw [Rw,Rx hk1]; rfl
    have x2:∀A,ae 1 A bv (.int .i64 w)=some (.fp [.bool (b.getD (k+1) false)]):=fun A=>by rw [gk1,hw]; exact wM hb hk1 .i64
    cases hg1:b.getD (k+1) false with
    | true=>
     rw [hg1] at x2 hcan
     have hc:gZ b k=false:=by rw [hcan,RD (by omega)]; rfl
     rw [hc] at hps
     simp only [Sc,S8,Sk] at hps
     obtain ⟨v',B,pl',g1,g2,g3⟩:=ihn A v pl (by omega) (by omega) hL (by rw [hp,hps]) (by omega)
     refine ⟨v',B,pl',?_,g2,g3⟩
     have e:run (aw GC (zh M)) 1200 [.code fY] (fC bv v (.bool (!fl)) (.int .i64 (k:Int))) A=some (.normal (fC bv v (.bool false) (.int .i64 w)) A):=by
      clear g1 ihn ih hM hb hL
      generalize (!fl)=nf at *
      simp [fY,b0,b9,b1,hlen,x1,x2,l1,-ag,-aq,-ab,-ae]
     rw [e]
     exact g1
    | false=>
     rw [hg1] at x2 hcan
     have hc:gZ b k=true:=by rw [hcan]; simp
     rw [hc,RH rfl] at hps
     obtain ⟨m38,hol,hool⟩:=hM k hkl hc
     obtain ⟨N,hN⟩:∃N,N=A.length:=⟨_,rfl⟩
     have bs:aI 1 [] A=some (.sl N 0 0,A++[.row 1 false []]):=by simp [aI,hN]
     have ap:=gW (esz:=1) (bytes:=1) (by omega) (by omega) hN hb (by rw [cQ]; omega)
     rw [cQ] at ap
     have hrow:∀c,(A++[Ent.dead,.row 1 false (aO c)])[N+1]?=some (.row 1 false (aO c)):=fun c=>by rw [RS (by omega),hN,show A.length+1-A.length=1 by omega]; rfl
     have hset:∀c c',(A++[Ent.dead,.row 1 false (aO c)]).set (N+1) (.row 1 false (aO c'))=A++[.dead,.row 1 false (aO c')]:=fun c c'=>by rw [R8 _ _ (by omega),hN,show A.length+1-A.length=1 by omega]; rfl
     have i0:=cE (n:=b.length) (hrow b) hkl .i64
     have s0:=gD (hrow b) hkl false
     rw [hset] at s0
     have i1:=cE (n:=b.length) (hrow (b.set k false)) hk1 .i64
     rw [<-hw] at i1
     have s1:=gD (hrow (b.set k false)) (show k+1<(b.set k false).length by rw [Sm]; exact hk1) true
     rw [hset,show (b.set k false).set (k+1) true=mvB b k by unfold mvB; rw [RK (by omega)]] at s1
     have fz:frz (A++[.dead,.row 1 false (aO (mvB b k))]) 4 (.sl (N+1) 0 b.length)=.fs 1 (aO (mvB b k)):=by
      have e:=dz (off:=0) (xs:=aO (mvB b k)) (hrow (mvB b k)) (by rw [RT,Se]) (fun k x hx=>by
       obtain ⟨c,_,rfl⟩:=Sa.1 hx
       exact bc _ _ _) 2
      rw [cQ,fu] at e
      exact e
     obtain ⟨v1,B1,pl1,q1,q2,q3,q4⟩:=AJ (M:=M) hol hool (k:=k) (by omega) bv (.bool false) (os k).length 0 1200 (A++[.dead,.row 1 false (aO (mvB b k))]) v pl (by omega) (by omega) (hL.keep fun j hj=>by rw [RC hj]) (by omega)
     rw [RT] at q3
     rw [show ((0:Nat):Int)=0 from rfl] at q1
     obtain ⟨v',B,pl',g1,g2,g3⟩:=ihn B1 v1 pl1 (by omega) (by omega) q2 (by rw [q3,hp,hps]) (by omega)
     refine ⟨v',B,pl',?_,g2,g3⟩
     have e:run (aw GC (zh M)) 1200 [.code fY] (fC bv v (.bool (!fl)) (.int .i64 (k:Int))) A=some (.normal (fC bv v1 (.bool false) (.int .i64 w)) B1):=by
      clear g1 ihn ih hM hb hL hrow hset
      generalize (!fl)=nf at *
      generalize A++[Ent.dead,.row 1 false (aO (mvB b k))]=A3 at *
      generalize A++[Ent.dead,.row 1 false (aO (b.set k false))]=A2 at *
      generalize A++[Ent.dead,.row 1 false (aO b)]=A1 at *
      generalize A++[Ent.row 1 false []]=A0 at *
      generalize aO (mvB b k)=bm at *
      generalize dM (os k)=ok at *
      simp [fY,b0,b9,b1,hlen,x1,x2,l1,bs,ap,i0,s0,i1,s1,fz,m38,Fl q1,-ag,-aq,-ab,-ae,-az,-aI,-frz]
     rw [e]
     exact g1
   ·
    rw [RD hk1] at b1
    have hkn:k+1=b.length:=by omega
    have hc:gZ b k=true:=by rw [hcan,RE hkn]; rfl
    rw [hc,RH rfl] at hps
    obtain ⟨m38,hol,hool⟩:=hM k hkl hc
    obtain ⟨N,hN⟩:∃N,N=A.length:=⟨_,rfl⟩
    have bs:aI 1 [] A=some (.sl N 0 0,A++[.row 1 false []]):=by simp [aI,hN]
    have ap:=gW (esz:=1) (bytes:=1) (by omega) (by omega) hN hb (by rw [cQ]; omega)
    rw [cQ] at ap
    have hrow:∀c,(A++[Ent.dead,.row 1 false (aO c)])[N+1]?=some (.row 1 false (aO c)):=fun c=>by rw [RS (by omega),hN,show A.length+1-A.length=1 by omega]; rfl
    have hset:∀c c',(A++[Ent.dead,.row 1 false (aO c)]).set (N+1) (.row 1 false (aO c'))=A++[.dead,.row 1 false (aO c')]:=fun c c'=>by rw [R8 _ _ (by omega),hN,show A.length+1-A.length=1 by omega]; rfl
    have i0:=cE (n:=b.length) (hrow b) hkl .i64
    have s0:=gD (hrow b) hkl false
    rw [hset,show b.set k false=mvB b k by unfold mvB; rw [RH hkn]] at s0
    have fz:frz (A++[.dead,.row 1 false (aO (mvB b k))]) 4 (.sl (N+1) 0 b.length)=.fs 1 (aO (mvB b k)):=by
     have e:=dz (off:=0) (xs:=aO (mvB b k)) (hrow (mvB b k)) (by rw [RT,Se]) (fun k x hx=>by
      obtain ⟨c,_,rfl⟩:=Sa.1 hx
      exact bc _ _ _) 2
     rw [cQ,fu] at e
     exact e
    obtain ⟨v1,B1,pl1,q1,q2,q3,q4⟩:=AJ (M:=M) hol hool (k:=k) (by omega) bv (.bool false) (os k).length 0 1200 (A++[.dead,.row 1 false (aO (mvB b k))]) v pl (by omega) (by omega) (hL.keep fun j hj=>by rw [RC hj]) (by omega)
    rw [RT] at q3
    rw [show ((0:Nat):Int)=0 from rfl] at q1
    obtain ⟨v',B,pl',g1,g2,g3⟩:=ihn B1 v1 pl1 (by omega) (by omega) q2 (by rw [q3,hp,hps]) (by omega)
    refine ⟨v',B,pl',?_,g2,g3⟩
    have e:run (aw GC (zh M)) 1200 [.code fY] (fC bv v (.bool (!fl)) (.int .i64 (k:Int))) A=some (.normal (fC bv v1 (.bool false) (.int .i64 w)) B1):=by
     clear g1 ihn ih hM hb hL hrow hset
     generalize (!fl)=nf at *
     generalize A++[Ent.dead,.row 1 false (aO (mvB b k))]=A3 at *
     generalize A++[Ent.dead,.row 1 false (aO b)]=A1 at *
     generalize A++[Ent.row 1 false []]=A0 at *
     generalize aO (mvB b k)=bm at *
     generalize dM (os k)=ok at *
     simp [fY,b0,b9,b1,hlen,x1,l1,bs,ap,i0,s0,fz,m38,Fl q1,-ag,-aq,-ab,-ae,-az,-aI,-frz]
    rw [e]
    exact g1
end
theorem In:∀b:List Bool,b.length<=4->((List.range b.length).filter (gZ b)).length<=2
 | [],_=>by decide
 | [a],_=>by revert a; decide
 | [a,b],_=>by revert a b; decide
 | [a,b,c],_=>by revert a b c; decide
 | [a,b,c,d],_=>by revert a b c d; decide
 | _ :: _ :: _ :: _ :: _ :: _,h=>by simp at h
theorem yc {α:Type} (f:Nat->List α) (p:Nat->Bool) (K:Nat) (hf:∀k,(f k).length<=K):∀l:List Nat,(l.flatMap fun k=>if p k then f k else []).length<=(l.filter p).length*K
 | []=>by simp
 | a :: r=>by
  have ih:=yc f p K hf r
  rw [TQ,RU,TZ]
  by_cases h:p a=true
  ·rw [RH h,RH h,Sv,Nat.succ_mul]
   have:=hf a
   omega
  ·rw [RK h,RK h]; simpa using ih
theorem tC:∀(d:Nat) (b:List Bool),b.length<=4->(gF d b).length<=2 ^ d/\∀o∈gF d b,o.length<=d
 | 0,b,h=>by
  unfold gF
  split <;> simp
 | d+1,b,h=>by
  unfold gF
  split
  ·have ih:∀k,(gF d (mvB b k)).length<=2 ^ d/\∀o∈gF d (mvB b k),o.length<=d:=fun k=>tC d (mvB b k) (by rw [fu]; exact h)
   refine ⟨?_,fun o ho=>?_⟩
   ·have h1:=yc (fun k=>(gF d (mvB b k)).map (((k:Int)+1) :: ·)) (gZ b) (2 ^ d) (fun k=>by rw [RN]; exact (ih k).1) (List.range b.length)
    have h2:=In b h
    refine ST h1 ?_
    rw [Nat.pow_succ,Nat.mul_comm (2 ^ d) 2]
    exact R6 _ h2
   ·obtain ⟨k,_,hk⟩:=Ul.1 ho
    split at hk
    ·obtain ⟨o',ho',rfl⟩:=Sa.1 hk
     have:=(ih k).2 o' ho'
     simp; omega
    ·cases hk
  ·have:=Nat.one_le_two_pow (n:=d+1)
   simp
   omega
def M38:Nat->aU
 | 0=>fun args=>evF (aw GC []) 0 qb 4 args
 | d+1=>fun args=>evF (aw GC (zh (M38 d))) 1200 qb 4 args
theorem iR:∀d,cm Try.prog GC 38 (M38 d)
 | 0=>cm.of_ev (E:=aw GC []) (ay aB) rfl IW sN 4 fun _ _ h=>⟨0,h⟩
 | d+1=>cm.of_ev (E:=aw GC (zh (M38 d))) (ay (ai (au.of_pureF (iR d) 4) aB)) rfl IW sN 4 fun _ _ h=>⟨1200,h⟩
theorem Mc:∀(d:Nat) (b:List Bool) (bv:AV),d<=10->b.length<=4->mB b<=d->SlA 1 (aO b) bv->M38 (d+1) [bv]=some (dM (gF d b)):=by
 intro d
 induction d with
 | zero=>
  intro b bv hd hn hm hb
  have ha:=qd b (by omega)
  obtain ⟨v',B,pl',g1,g2,g3⟩:=AI (M:=M38 0) hb hn (os:=fun _=>[]) (fun k hk hc=>by
   have:=(gB.1 hc).1
   rw [pj ha k] at this
   cases this) b.length 0 1200 [] .nilS [] (by omega) (by omega) ⟨fun x hx=>(by cases hx),.inl ⟨rfl,rfl⟩⟩ rfl (by simp)
  rw [ha,show ((0:Nat):Int)=0 from rfl] at g1
  have g1':bM (evC (aw GC (zh (M38 0))) 1200 fY) jC 1200 (fC bv .nilS (.bool true) (.int .i64 0)) []=some (.exit 0 ((fC bv v' (.bool true) (.int .i64 (b.length:Int))).set 8 (.bool false)) B):=g1
  have eo:gF 0 b=[[]]:=by unfold gF; rw [ha]; rfl
  rw [eo]
  obtain ⟨N,hN⟩:∃N,N=B.length:=⟨_,rfl⟩
  have bs:aI 1 [.nilS] B=some (.sl N 0 1,B++[.row 1 false [.nilS]]):=by simp [aI,hN]
  have hr:(B++[Ent.row 1 false [.nilS]])[N]?=some (.row 1 false [.nilS]):=by rw [hN]; simp
  have fz:frz (B++[.row 1 false [.nilS]]) 4 (.sl N 0 1)=dM [[]]:=by simp only [frz,hr]; rfl
  have fb:bo (B++[.row 1 false [.nilS]]) 4 (.sl N 0 1)=true:=by simp only [bo,hr]; rfl
  unfold M38
  clear g1 g2 g3 hr eo hN
  generalize M38 0=M0 at *
  generalize B++[Ent.row 1 false [.nilS]]=B1 at *
  rw [gI _ _ rfl]
  simp [qb,Be g1',bs,fz,fb,dE,-aI,-frz]
 | succ d ih=>
  intro b bv hd hn hm hb
  have hpow:2 ^ d<=2 ^ 9:=Nat.pow_le_pow_right (by omega) (by omega)
  obtain ⟨v',B,pl',g1,g2,g3⟩:=AI (M:=M38 (d+1)) hb hn (os:=fun k=>gF d (mvB b k)) (fun k hk hc=>by
   have h1:=wG hk hc
   have h2:=tC d (mvB b k) (by rw [fu]; exact hn)
   have hml:0<(mvB b k).length:=by rw [fu]; omega
   have hS:SlA 1 (aO (mvB b k)) (.fs 1 (aO (mvB b k))):=.inr rfl
   exact ⟨ih (mvB b k) _ (by omega) (by rw [fu]; exact hn) (by omega) hS,by omega,fun o ho=>by have:=h2.2 o ho; omega⟩) b.length 0 1200 [] .nilS [] (by omega) (by omega) ⟨fun x hx=>(by cases hx),.inl ⟨rfl,rfl⟩⟩ rfl (by simp)
  rw [show ((0:Nat):Int)=0 from rfl] at g1
  have g1':bM (evC (aw GC (zh (M38 (d+1)))) 1200 fY) jC 1200 (fC bv .nilS (.bool true) (.int .i64 0)) []=some (.exit 0 ((fC bv v' (.bool (!b.any id)) (.int .i64 (b.length:Int))).set 8 (.bool false)) B):=g1
  rw [show M38 (d+1+1) [bv]=evF (aw GC (zh (M38 (d+1)))) 1200 qb 4 [bv] from rfl]
  cases ha:b.any id with
  | false=>
   rw [ha] at g1'
   have eo:gF (d+1) b=[[]]:=by unfold gF; rw [ha]; rfl
   rw [eo]
   obtain ⟨N,hN⟩:∃N,N=B.length:=⟨_,rfl⟩
   have bs:aI 1 [.nilS] B=some (.sl N 0 1,B++[.row 1 false [.nilS]]):=by simp [aI,hN]
   have hr:(B++[Ent.row 1 false [.nilS]])[N]?=some (.row 1 false [.nilS]):=by rw [hN]; simp
   have fz:frz (B++[.row 1 false [.nilS]]) 4 (.sl N 0 1)=dM [[]]:=by simp only [frz,hr]; rfl
   have fb:bo (B++[.row 1 false [.nilS]]) 4 (.sl N 0 1)=true:=by simp only [bo,hr]; rfl
   rw [Bool.not_false] at g1'
   clear g1 g2 g3 hr eo hN ih
   generalize M38 (d+1)=M0 at *
   generalize B++[Ent.row 1 false [.nilS]]=B1 at *
   rw [gI _ _ rfl]
   simp [qb,Be g1',bs,fz,fb,dE,-aI,-frz]
  | true=>
   rw [ha,Ub] at g1'
   have eo:gF (d+1) b=IJ (fun k=>gF d (mvB b k)) b b.length:=by
    conv=>lhs; unfold gF
    rw [ha]; rfl
   have fz:=g2.frz 1
   have fb:=g2.fresh 0
   rw [g3,<-eo] at fz
   clear g1 g2 g3 eo ih
   generalize M38 (d+1)=M0 at *
   rw [gI _ _ rfl]
   simp [qb,Be g1',fz,fb,dE,-aI,-frz]
end Tr
namespace Tr
open Go
open Clu (aT aY)
def iN (l:List cO):Int:=(l.getD (l.length-1) (0,0)).2
def drR (T:aT) (rd:List Int) (free:Int) (s:Option (List cO)) (o:List Int):Option (List cO):=
 match xJ T rd free o with
 | none=>s
 | some l=>match s with
  | none=>some l
  | some b=>if 0<l.length/\iN l<iN b then some l else some b
theorem oN {T:aT} {o:List Int} {l:List cO} (h:xJ T rd free o=some l):l.length=o.length:=by
 unfold xJ at h
 rw [RJ] at h
 obtain ⟨xs,_,rfl⟩:=h
 rw [fW]
theorem FH {T:aT} (hS:Sit T rd free) {o:List Int} (hE:Emp (b0 rd) o) {l:List cO} (h:dc T rd free o=some l):(fP T rd free l).getD 0=if l.length=0 then free else iN l+wT T:=by
 obtain ⟨X,x0,hl,⟨s,hs⟩,_⟩:=gM hS hE h
 have hll:l.length=o.length:=by rw [hl,fW]
 rw [hl] at hs
 have hf:=((mM hS x0 hE).2 s hs).1
 unfold fP
 rw [RH hS,hl,hs]
 show s.fin=_
 rw [hf]
 by_cases h0:o=[]
 ·subst h0
  rw [RH rfl,RH (by rw [fW]; rfl)]
 ·have hpos:0<o.length:=Tn.2 h0
  rw [RK h0,RK (by rw [fW]; omega)]
  unfold iN
  have:(mkX X 0 o)[(mkX X 0 o).length-1]?=some (o.getD (o.length-1) 0,X o.length):=by
   have key:∀(o:List Int) (i j:Nat),j<o.length->(mkX X i o)[j]?=some (o.getD j 0,X (i+1+j)):=by
    intro o
    induction o with
    | nil=>intro i j h; simp at h
    | cons t r ih=>
     intro i j h
     cases j with
     | zero=>rfl
     | succ j=>
      have:=ih (i+1) j (by simpa using h)
      simp only [mkX,SV,List.getD_cons_succ]
      rw [this,show i+1+1+j=i+1+(j+1) by omega]
   have:=key o 0 (o.length-1) (by omega)
   rw [fW,this,show 0+1+(o.length-1)=o.length by omega]
  rw [Rw,this]; rfl
theorem ya {T:aT} (hS:Sit T rd free):∀(os:List (List Int)) (s:Option (List cO × Int)),(∀o∈os,Emp (b0 rd) o)->(∀x,s=some x->∃o,Emp (b0 rd) o/\dc T rd free o=some x.1/\x.2=(fP T rd free x.1).getD 0) ->
  os.foldl (drR T rd free) (s.map (·.1))=(os.foldl (fI T rd free) s).map (·.1)
 | [],s,_,_=>rfl
 | o :: r,s,ho,hs=>by
  have hE:=ho o (by simp)
  have hr:∀o∈r,Emp (b0 rd) o:=fun o h=>ho o (SK _ h)
  rw [Sj,Sj]
  have e:drR T rd free (s.map (·.1)) o=(fI T rd free s o).map (·.1)/\∀x,fI T rd free s o=some x->∃o,Emp (b0 rd) o/\dc T rd free o=some x.1/\x.2=(fP T rd free x.1).getD 0:=by
   unfold drR fI
   rw [wB hS hE]
   cases ht:dc T rd free o with
   | none=>exact ⟨rfl,hs⟩
   | some l=>
    cases s with
    | none=>exact ⟨rfl,fun x hx=>by injection hx with hx; subst hx; exact ⟨o,hE,ht,rfl⟩⟩
    | some x=>
     obtain ⟨o2,h1,h2,h3⟩:=hs x rfl
     have e1:=FH hS hE ht
     have e2:=FH hS h1 h2
     have l1:l.length=mB (b0 rd):=by
      rw [<-wB hS hE] at ht
      rw [oN ht,nq hE]
     have l2:x.1.length=mB (b0 rd):=by
      rw [<-wB hS h1] at h2
      rw [oN h2,nq h1]
     have key:(0<l.length/\iN l<iN x.1)↔(fP T rd free l).getD 0<x.2:=by
      rw [h3,e1,e2,l1,l2]
      by_cases h0:mB (b0 rd)=0
      ·rw [RH h0,RH h0]; omega
      ·rw [RK h0,RK h0]; omega
     simp only [Ss]
     by_cases hc:0<l.length/\iN l<iN x.1
     ·rw [RH hc,RH (key.1 hc)]
      exact ⟨rfl,fun y hy=>by injection hy with hy; subst hy; exact ⟨o,hE,ht,rfl⟩⟩
     ·rw [RK hc,RK (fun k=>hc (key.2 k))]
      exact ⟨rfl,hs⟩
  rw [e.1]
  exact ya hS r _ hr e.2
theorem BE {T:aT} (hS:Sit T rd free):(gF 10 (b0 rd)).foldl (drR T rd free) none=bV T rd free:=by
 have:=ya hS (gF 10 (b0 rd)) none (fun o ho=>(p5 hS).1 ho) (fun x h=>by cases h)
 unfold bV drF
 rw [RH hS,<-this]; rfl
end Tr
namespace Tr
open Go
def qk:MC:=.seq (.seq (.region [.a 8,.a 1,.v 1,.F 17 0 2]) (.cond (.var 17) .skip (.exit 0))) (.seq (.seq (.block 1 (.region [.a 7,.a 8,.a 1,.a 8,.e 1 2 3,.b 1 4,.X 5 0,.e 1 0 1,.A 1 7 6])) (.kill [0,3,5,6,9,10,11,12,13,14,15,16,17,18,19])) (.region [.a 8,.i 0 1,.c 8 1]))
def iK:MC:=.seq (.seq (.region [.a 12,.a 9,.v 1,.F 18 0 2]) (.cond (.var 18) .skip (.exit 2))) (.seq (.seq (.block 3 (.seq (.region [.l 5 4,.a 1,.a 2,.a 9,.a 12,.e 1 3 4,.b 1 5,.Q 39 0 1 2 6,.h 7,.j 8 0,.j 8 1,.c 13 9,.c 14 10]) (.seq (.region [.a 14,.h 0,.k 11 1,.a1 2 1,.c0 3 1,.n 13 4,.bc 5 4,.Y 6 0 4,.cm 7 4,.k 13 8,.k 13 8,.aa 10 8,.a9 11 1 8,.L 2 9 12 8,.ak 1 13 8,.x 1 14 8,.k 10 8,.k 10 8,.aa 17 8,.a9 18 1 8,.L 2 16 19 8,.ak 1 20 8,.x 1 21 8,.cj 15 22 8,.a3 8 23 4,.bo 4 24 1,.Z 19 1 25]) (.cond (.var 19) (.seq (.region [.a 13,.c 10 0]) (.region [.I 11])) .skip)))) (.kill [0,3,5,6,7,8,13,14,15,16,17,18,19])) (.region [.a 12,.i 0 1,.c 12 1]))
def EW:cI:=⟨4,20,.seq (.region [.D 4 0,.w 5,.g 6]) (.seq (.seq (.region [.l 5 4,.a 1,.a 2,.P 35 0 1 2,.W 3,.h 4,.n 3 5,.n 1 5,.bc 7 5,.bm 36 6 8 5,.H 9 5,.C 15 5 10]) (.cond (.var 15) (.seq (.region [.w 5,.g 6]) .ret) .skip)) (.seq (.seq (.region [.a 3,.ae 16 0 0]) (.cond (.var 16) (.seq (.region [.l 5 4,.a 1,.a 2,.a 3,.Q 37 0 1 2 3,.j 4 0,.j 4 1,.c 5 5,.c 6 6]) .ret) .skip)) (.seq (.region [.a 1,.v 0,.b5 1 1,.c 7 2]) (.seq (.seq (.region [.f 8 0]) (.seq (.block 0 (.loop [0,3,5,6,9,10,11,12,13,14,15,16,17,18,19] qk)) (.kill [0,3,5,6,8,9,10,11,12,13,14,15,16,17,18,19]))) (.seq (.region [.a 7,.J 38 0,.c 9 1]) (.seq (.region [.w 10]) (.seq (.region [.g 11]) (.seq (.seq (.region [.f 12 0]) (.seq (.block 2 (.loop [0,3,5,6,7,8,13,14,15,16,17,18,19] iK)) (.kill [0,1,2,3,4,5,6,7,8,9,12,13,14,15,16,17,18,19]))) (.seq (.region [.a 10,.a 11,.c 5 0,.c 6 1]) .ret))))))))),[.tmp 5,.tmp 6]⟩
def oV:List Nat:=[0,3,5,6,9,10,11,12,13,14,15,16,17,18,19]
abbrev rV (v1 v2 v4 v7 v8:AV):List AV:=[.undef,v1,v2,.undef,v4,.undef,.undef,v7,v8,.undef,.undef,.undef,.undef,.undef,.undef,.undef,.undef,.undef,.undef,.undef]
theorem Ct:clear oV [d0,v1,v2,d3,v4,d5,d6,v7,v8,d9,d10,d11,d12,d13,d14,d15,d16,d17,d18,d19]=rV v1 v2 v4 v7 v8:=rfl
theorem Ky {k:List KC} (h:bM (evC E fuel qk) oV fuel (rV v1 v2 v4 v7 v8) A=some o) :
  run E fuel (.code (.loop [0,3,5,6,9,10,11,12,13,14,15,16,17,18,19] qk) :: k) [d0,v1,v2,d3,v4,d5,d6,v7,v8,d9,d10,d11,d12,d13,d14,d15,d16,d17,d18,d19] A=after E fuel k o:=aQ oV _ _ (by rw [Ct]; exact h)
def lU:List Nat:=[0,3,5,6,7,8,13,14,15,16,17,18,19]
abbrev gN (v1 v2 v4 v9 v10 v11 v12:AV):List AV:=[.undef,v1,v2,.undef,v4,.undef,.undef,.undef,.undef,v9,v10,v11,v12,.undef,.undef,.undef,.undef,.undef,.undef,.undef]
theorem Cs:clear lU [d0,v1,v2,d3,v4,d5,d6,d7,d8,v9,v10,v11,v12,d13,d14,d15,d16,d17,d18,d19]=gN v1 v2 v4 v9 v10 v11 v12:=rfl
theorem Kx {k:List KC} (h:bM (evC E fuel iK) lU fuel (gN v1 v2 v4 v9 v10 v11 v12) A=some o) :
  run E fuel (.code (.loop [0,3,5,6,7,8,13,14,15,16,17,18,19] iK) :: k) [d0,v1,v2,d3,v4,d5,d6,d7,d8,v9,v10,v11,v12,d13,d14,d15,d16,d17,d18,d19] A=after E fuel k o:=aQ lU _ _ (by rw [Cs]; exact h)
theorem FL:aH Try.prog Try.f15 4 [0,1,2,3,4,8,9,10,11,12,13,14,15,16,17,29,31,45,61,101] [] true ([[0,3,5,6,9,10,11,12,13,14,15,16,17,18,19],[0,3,5,6,7,8,13,14,15,16,17,18,19]],[[0,3,5,6,9,10,11,12,13,14,15,16,17,18,19],[0,3,5,6,8,9,10,11,12,13,14,15,16,17,18,19],[0,3,5,6,7,8,13,14,15,16,17,18,19],[0,1,2,3,4,5,6,7,8,9,12,13,14,15,16,17,18,19]])=some EW:=by kernel_rfl
theorem Rp:Try.prog.funcs[15]?=some Try.f15:=by kernel_rfl
def ex:MC:=.seq (.seq (.region [.a 10,.a 8,.v 1,.F 12 0 2]) (.cond (.var 12) .skip (.exit 0))) (.seq (.seq (.block 1 (.seq (.region [.a 8,.a 10,.e 2 0 1,.m 0 2,.b 1 3,.a 3,.qs 13 (.bin .geq (.tmp 4) (.tmp 5))]) (.cond (.var 13) (.region [.a 8,.a 10,.e 2 0 1,.m 0 2,.b 1 3,.i 4 1,.e 2 0 1,.m 0 6,.A 1 7 5]) .skip))) (.kill [0,1,2,4,5,6,7,11,12,13])) (.region [.a 10,.i 0 1,.c 10 1]))
def vS:cI:=⟨4,14,.seq (.region [.D 4 0,.w 5,.g 6]) (.seq (.region [.l 5 4,.N 7 5,.r 5 7 0]) (.seq (.regionD [] [.c3,.d 0 4,.b 1 1,.a 3,.s 3 1,.an 2 2 4,.ag 2 0 5,.d 0 4,.b 1 7,.a 3,.bt 2 8 9,.ag 2 6 10,.d 0 7,.A 1 12 11] [(0,1),(0,2),(0,5),(0,7),(6,7),(0,8),(6,8),(0,10),(6,10)]) (.seq (.seq (.region [.d 0 7,.b 1 0,.v 1,.aj 11 2 0]) (.cond (.var 11) (.seq (.region [.w 5,.I 6]) .ret) .skip)) (.seq (.regionD [] [.l 5 7,.cl,.a 1,.a 3,.s 3 1,.an 1 2 4,.ax 1 1 5,.a 1,.a 3,.bt 1 7 8,.ax 1 6 9,.a 2,.bx 15 0 10 11,.h 12,.j 13 0,.j 13 1,.c 8 14,.c 9 15] [(0,1),(1,5),(0,6),(1,9),(6,9),(0,10)]) (.seq (.seq (.region [.f 10 0]) (.seq (.block 0 (.loop [0,1,2,4,5,6,7,11,12,13] ex)) (.kill [0,1,2,3,4,5,6,7,10,11,12,13]))) (.seq (.region [.a 8,.a 9,.c 5 0,.c 6 1]) .ret)))))),[.tmp 5,.tmp 6]⟩
def eT:List Nat:=[0,1,2,4,5,6,7,11,12,13]
abbrev eI (v3 v8 v9 v10:AV):List AV:=[.undef,.undef,.undef,v3,.undef,.undef,.undef,.undef,v8,v9,v10,.undef,.undef,.undef]
theorem qO {d2:AV}:clear eT [d0,d1,d2,v3,d4,d5,d6,d7,v8,v9,v10,d11,d12,d13]=eI v3 v8 v9 v10:=rfl
theorem Bf {k:List KC} {d2:AV} (h:bM (evC E fuel ex) eT fuel (eI v3 v8 v9 v10) A=some o) :
  run E fuel (.code (.loop [0,1,2,4,5,6,7,11,12,13] ex) :: k) [d0,d1,d2,v3,d4,d5,d6,d7,v8,v9,v10,d11,d12,d13] A=after E fuel k o:=aQ eT _ _ (by rw [qO]; exact h)
theorem BR:aH Try.prog Try.f37 4 [0,1,2,3,4,8,9,10,11,12,13,31,51,60] [] true ([[0,1,2,4,5,6,7,11,12,13]],[[0,1,2,4,5,6,7,11,12,13],[0,1,2,3,4,5,6,7,10,11,12,13]])=some vS:=by kernel_rfl
theorem P6:Try.prog.funcs[37]?=some Try.f37:=by kernel_rfl
end Tr
namespace Tr
open Go
open Cy (GC aM bc aA)
open Clu (aT aY af chA aK aZ bD cB bA bK bL cK dM tp xD)
def fsz:List (FuncId × aJ):=[(35,aG 4 M35),(36,aG 4 M30),(38,cJ 4 (M38 11)),(39,H39)]
theorem EM:∀f M,aE fsz f=some M->au Try.prog GC f M:=ai (au.of_pure rX 4) (ai (au.of_pure nK 4) (ai (au.of_pureF (iR 11) 4) (ai GG aB)))
def A15 (tv:AV) (L:List Bool):ac:=[.row 5 false [tv],.row 1 false (aO L)]
theorem IG (tv:AV) (L:List Bool):(A15 tv L)[1]?=some (.row 1 false (aO L)):=rfl
theorem QG (tv:AV) (L L':List Bool):(A15 tv L).set 1 (.row 1 false (aO L'))=A15 tv L':=rfl
theorem LS {e lo:Nat} {l:List cO} (he:e=2) (h:OV e lo A v (l.map aL)):RdV A.length A v l:=by
 subst he
 rcases h with ⟨rfl,e⟩ | ⟨id,g,rfl,_,_,hr⟩
 ·exact .inl (.inl ⟨rfl,e⟩)
 ·exact .inr ⟨id,g,by rw [RN],(Rv.1 hr).1,hr⟩
section
variable {fs:List (FuncId × aJ)} {T:aT} {chv rv:AV} {rd:List Int} {free:Int}
theorem H3 (hr:SlA 1 (aj rd) rv) (hl:rd.length<=200) {tv:AV} (v2 v4:AV):∀(c i m:Nat),i+c=rd.length->c<m ->
  bM (evC (aw GC fs) 1200 qk) oV m (rV rv v2 v4 (.sl 1 0 rd.length) (.int .i64 (i:Int))) (A15 tv (rJ (fun j=>decide (0<=rd.getD j 0)) (fun _=>false) rd.length i))=some (.exit 0 ((rV rv v2 v4 (.sl 1 0 rd.length) (.int .i64 (rd.length:Int))).set 17 (.bool false)) (A15 tv (b0 rd))):=by
 have hlr:=hr.len
 rw [aA] at hlr
 intro c
 induction c with
 | zero=>
  intro i m hi hm
  obtain ⟨m,rfl⟩:∃j,m=j+1:=⟨m-1,by omega⟩
  obtain rfl:i=rd.length:=by omega
  have e:rJ (fun j=>decide (0<=rd.getD j 0)) (fun _=>false) rd.length rd.length=b0 rd:=by
   rw [ER]
   apply SO
   ·simp [b0]
   ·intro i h1 h2
    have hi:i<rd.length:=by simpa using h1
    simp [b0,hi]
  rw [e]
  have b0':=a9 rd.length rd.length .i64
  rw [RD (by omega)] at b0'
  rw [aD,Ct]
  generalize A15 tv (b0 rd)=A at *
  simp [qk,b0',hlr,-ag,-aq]
 | succ c ih=>
  intro i m hi hm
  obtain ⟨m,rfl⟩:∃j,m=j+1:=⟨m-1,by omega⟩
  have hil:i<rd.length:=by omega
  have ih:=ih (i+1) m (by omega) (by omega)
  have b0':=a9 i rd.length .i64
  rw [RE hil] at b0'
  have b9:=aV i (by omega)
  have y1:∀A,ae 1 A rv (.int .i64 (i:Int))=some (.fp [.int .i64 (rd.getD i 0)]):=fun A=>by
   have e:rd.getD i 0=rd[i]:=by rw [Rw,Rx hil]; rfl
   rw [e]
   exact hr.index1 (x:=.int .i64 rd[i]) (i:=i) (by simp [aj,hil]) rfl rfl .i64
  have l1:∀A z,ab false 1 A (.fp [.int .i64 z])=some (.int .i64 z):=fun _ _=>rfl
  have b1:ag .geq (.int .i64 (rd.getD i 0)) (.int .i64 0)=some (.bool (decide (0<=rd.getD i 0))):=by simp [ag]
  have i1:=cE (n:=rd.length) (IG tv (rJ (fun j=>decide (0<=rd.getD j 0)) (fun _=>false) rd.length i)) hil .i64
  have s1:=gD (IG tv (rJ (fun j=>decide (0<=rd.getD j 0)) (fun _=>false) rd.length i)) (show i<_ by rw [EQ]; exact hil) (decide (0<=rd.getD i 0))
  rw [QG,As (fun j=>decide (0<=rd.getD j 0)) (fun _=>false) hil] at s1
  rw [aD,Ct]
  obtain ⟨w,hw⟩:∃w,w=((i+1:Nat):Int):=⟨_,rfl⟩
  rw [<-hw] at b9 ih
  have e:run (aw GC fs) 1200 [.code qk] (rV rv v2 v4 (.sl 1 0 rd.length) (.int .i64 (i:Int))) (A15 tv (rJ (fun j=>decide (0<=rd.getD j 0)) (fun _=>false) rd.length i))=some (.normal (rV rv v2 v4 (.sl 1 0 rd.length) (.int .i64 w)) (A15 tv (rJ (fun j=>decide (0<=rd.getD j 0)) (fun _=>false) rd.length (i+1)))):=by
   clear ih
   generalize A15 tv (rJ (fun j=>decide (0<=rd.getD j 0)) (fun _=>false) rd.length (i+1))=B at *
   generalize A15 tv (rJ (fun j=>decide (0<=rd.getD j 0)) (fun _=>false) rd.length i)=A at *
   generalize decide (0<=rd.getD i 0)=d at *
   generalize rd.getD i 0=z at *
   simp [qk,b0',b9,hlr,y1,l1,b1,i1,s1,-ag,-aq,-ab,-ae,-az]
  rw [e]
  exact ih
abbrev s15 (rv:AV) (free:Int) (os:List (List Int)) (bv:AV) (fd:Bool) (i:Nat):List AV:=gN rv (.int .i64 free) (.ptr 0 0 0) (dM os) bv (.bool fd) (.int .i64 (i:Int))
theorem Hx (h39:aE fs 39=some H39) (hS:Sit T rd free) (hcv:SlA 2 (T.ch.map chA) chv) (hr:SlA 1 (aj rd) rv) (hos:os.length<=1100) (hE:∀o∈os,Emp (b0 rd) o) {s:Option (List cO)} (hs10:∀b,s=some b->b.length<=10/\(0<b.length\/∀o∈os,o.length=0)) {A:ac} {bv:AV} (hA0:A[0]?=some (.row 5 false [af T chv])) (hbv:OV 2 1 A bv ((s.getD []).map aL)) {i:Nat} (hi:i<os.length) :
  ∃bv' B,run (aw GC fs) 1200 [.code iK] (s15 rv free os bv s.isSome i) A=some (.normal (s15 rv free os bv' (drR T rd free s os[i]).isSome (i+1)) B)/\B[0]?=A[0]?/\OV 2 1 B bv' (((drR T rd free s os[i]).getD []).map aL):=by
 have hO:SlA 1 (os.map fun l=>slA 1 (aj l)) (dM os):=ba _ _
 have hlen:=hO.len
 rw [RN] at hlen
 have b0':=a9 i os.length .i64
 rw [RE hi] at b0'
 have b9:=aV i (by omega)
 have hA1:0<A.length:=(Rv.1 hA0).1
 obtain ⟨o,ho⟩:∃o,o=os[i]:=⟨_,rfl⟩
 have hoE:Emp (b0 rd) o:=by rw [ho]; exact hE _ (RM hi)
 rw [<-ho]
 have hsol:=jX (ba 1 (aj o))
 have x1:∀A,ae 1 A (dM os) (.int .i64 (i:Int))=some (.fp [slA 1 (aj o)]):=fun A=>by
  rw [ho]
  exact hO.index1 (x:=slA 1 (aj os[i])) (i:=i) (by simp [hi]) (by rw [<-ho]; exact hsol.1) (by rw [<-ho]; exact hsol.2) .i64
 have l1:∀A,ab false 1 A (.fp [slA 1 (aj o)])=some (slA 1 (aj o)):=fun A=>by
  rcases ba 1 (aj o) with ⟨e,_⟩ | e <;> rw [e] <;> rfl
 have lt:ab true 5 A (.ptr 0 0 0)=some (af T chv):=by simp only [ab,hA0]; rfl
 have ft:frz A 4 (af T chv)=af T chv:=aK (fun A n=>hcv.frz (A:=A) n) A 3
 have fr:frz A 4 rv=rv:=hr.frz 4
 have fo:frz A 4 (slA 1 (aj o))=slA 1 (aj o):=(ba 1 (aj o)).frz 4
 have hin:yJ T rd free o:=by
  have hn:=qX hoE
  refine ⟨hS.1.1,hS.2.2.1,hS.2.1,wC hS,fun t ht=>?_,ni hS hoE⟩
  have:=hn t ht
  rw [dQ,hS.2.1] at this
  exact this
 have hargs:([af T chv,rv,.int .i64 free,slA 1 (aj o)]:List AV).map (frz A 4)=[af T chv,rv,.int .i64 free,slA 1 (aj o)]:=by
  simp only [SG,Uy,ft,fr,fo]
  rfl
 obtain ⟨v,X,h1,h2⟩:=Gk hin hcv hr (ba 1 (aj o)) (fun _ _ _=>none) A hargs
 have h1':∀hh,H39 hh [af T chv,rv,.int .i64 free,slA 1 (aj o)] A=some (.tup [v,.bool (xJ T rd free o).isSome],A++X):=fun hh=>by
  obtain ⟨v',X',k1,_⟩:=Gk hin hcv hr (ba 1 (aj o)) hh A hargs
  have:H39 hh [af T chv,rv,.int .i64 free,slA 1 (aj o)] A=H39 (fun _ _ _=>none) [af T chv,rv,.int .i64 free,slA 1 (aj o)] A:=rfl
  rw [this,h1]
 have hB0:(A++X)[0]?=A[0]?:=by rw [RC hA1]
 have hbv2:OV 2 1 (A++X) bv ((s.getD []).map aL):=hbv.keep fun j _ hj=>by rw [RC hj]
 have h2':OV 2 1 (A++X) v (((xJ T rd free o).getD []).map aL):=by
  rcases h2 with h2 | ⟨id,g,k1,k2,k3,k4⟩
  ·exact .inl h2
  ·exact .inr ⟨id,g,k1,k2,by omega,k4⟩
 have hlv:=h2.len
 rw [RN] at hlv
 unfold s15
 obtain ⟨w,hw⟩:∃w,w=((i+1:Nat):Int):=⟨_,rfl⟩
 rw [<-hw] at b9 ⊢
 unfold drR
 cases hre:xJ T rd free o with
 | none=>
  rw [hre] at h1' hlv
  refine ⟨bv,A++X,?_,hB0,hbv2⟩
  have h1a:∀hh,H39 hh [af T chv,rv,.int .i64 free,slA 1 (aj o)] A=some (.tup [v,.bool false],A++X):=h1'
  show run _ _ _ _ _=some (.normal (gN rv (.int .i64 free) (.ptr 0 0 0) (dM os) bv (.bool s.isSome) (.int .i64 w)) (A++X))
  clear h1 h1' h2 h2' hbv hbv2 hB0 hO hsol hs10 hA0 hargs
  generalize s.isSome=sd at *
  generalize A++X=B at *
  generalize dM os=OV1 at *
  generalize slA 1 (aj o)=ov at *
  generalize af T chv=tv at *
  simp [iK,h39,b0',b9,hlen,x1,l1,lt,h1a,-ag,-aq,-ab,-ae,-frz]
 | some l=>
  have hll:l.length=o.length:=oN hre
  have hl10:l.length<=10:=by rw [hll]; exact hin.m
  rw [hre] at h1' hlv h2 h2'
  have h1a:∀hh,H39 hh [af T chv,rv,.int .i64 free,slA 1 (aj o)] A=some (.tup [v,.bool true],A++X):=h1'
  have hlv':aq v=some (.int .i64 (l.length:Int)):=hlv
  have h2b:OV 2 1 (A++X) v (l.map aL):=h2'
  cases s with
  | none=>
   refine ⟨v,A++X,?_,hB0,h2b⟩
   show run _ _ _ _ _=some (.normal (gN rv (.int .i64 free) (.ptr 0 0 0) (dM os) v (.bool true) (.int .i64 w)) (A++X))
   show run _ _ _ (gN rv (.int .i64 free) (.ptr 0 0 0) (dM os) bv (.bool false) (.int .i64 (i:Int))) _=_
   clear h1 h1' h2 h2' h2b hbv hbv2 hB0 hO hsol hs10 hA0 hargs hlv
   generalize A++X=B at *
   generalize dM os=OV1 at *
   generalize slA 1 (aj o)=ov at *
   generalize af T chv=tv at *
   simp [iK,h39,b0',b9,hlen,x1,l1,lt,h1a,-ag,-aq,-ab,-ae,-frz]
  | some b=>
   obtain ⟨hb10,hbo⟩:=hs10 b rfl
   have hbv3:OV 2 1 (A++X) bv (b.map aL):=hbv2
   have b1:=bL (l.length:Int) 0
   simp only [Option.isSome_some]
   by_cases hl0:0<l.length
   rotate_left
   ·rw [RD (by omega)] at b1
    rw [RK (fun k=>hl0 k.1)]
    refine ⟨bv,A++X,?_,hB0,hbv3⟩
    show run _ _ _ (gN rv (.int .i64 free) (.ptr 0 0 0) (dM os) bv (.bool true) (.int .i64 (i:Int))) _=some (.normal (gN rv (.int .i64 free) (.ptr 0 0 0) (dM os) bv (.bool true) (.int .i64 w)) (A++X))
    clear h1 h1' h2 h2' h2b hbv hbv2 hbv3 hB0 hO hsol hs10 hA0 hargs hlv
    generalize A++X=B at *
    generalize dM os=OV1 at *
    generalize slA 1 (aj o)=ov at *
    generalize af T chv=tv at *
    simp [iK,h39,b0',b9,hlen,x1,l1,lt,h1a,hlv',b1,-ag,-aq,-ab,-ae,-frz]
   rw [RE (by omega)] at b1
   have hb0:0<b.length:=by
    rcases hbo with k | k
    ·exact k
    ·have:=k o (by rw [ho]; exact RM hi)
     omega
   have gl:l[l.length-1]?=some (l.getD (l.length-1) (0,0)):=by rw [Rw,Rx (by omega)]; rfl
   have gb:b[b.length-1]?=some (b.getD (b.length-1) (0,0)):=by rw [Rw,Rx (by omega)]; rfl
   obtain ⟨p,_,p1,y0,_,_,y3,y4⟩:=(LS rfl h2b).get gl (by omega)
   obtain ⟨q,_,q1,z0,_,_,z3,z4⟩:=(LS rfl hbv3).get gb (by omega)
   have hlb:=hbv3.len
   rw [RN] at hlb
   have c1:ag .sub (.int .i64 (l.length:Int)) (.int .i64 1)=some (.int .i64 ((l.length-1:Nat):Int)):=by rw [bD (by omega)]; congr 2; omega
   have c2:ag .sub (.int .i64 (b.length:Int)) (.int .i64 1)=some (.int .i64 ((b.length-1:Nat):Int)):=by rw [bD (by omega)]; congr 2; omega
   have c3:=bK (iN l) (iN b)
   have y4':ab false 1 (A++X) p1=some (.int .i64 (iN l)):=y4
   have z4':ab false 1 (A++X) q1=some (.int .i64 (iN b)):=z4
   by_cases hc:iN l<iN b
   ·rw [RE hc] at c3
    rw [RH ⟨hl0,hc⟩]
    refine ⟨v,A++X,?_,hB0,h2b⟩
    show run _ _ _ (gN rv (.int .i64 free) (.ptr 0 0 0) (dM os) bv (.bool true) (.int .i64 (i:Int))) _=some (.normal (gN rv (.int .i64 free) (.ptr 0 0 0) (dM os) v (.bool true) (.int .i64 w)) (A++X))
    clear h1 h1' h2 h2' h2b hbv hbv2 hbv3 hB0 hO hsol hs10 hA0 hargs hlv y4 z4 gl gb
    generalize A++X=B at *
    generalize dM os=OV1 at *
    generalize slA 1 (aj o)=ov at *
    generalize af T chv=tv at *
    generalize ((l.length-1:Nat):Int)=lm at *
    generalize ((b.length-1:Nat):Int)=bm at *
    generalize (l.length:Int)=ln at *
    generalize (b.length:Int)=bn at *
    generalize iN l=la at *
    generalize iN b=lb at *
    simp [iK,h39,b0',b9,hlen,x1,l1,lt,h1a,hlv',hlb,b1,c1,c2,c3,y0,y3,y4',z0,z3,z4',-ag,-aq,-ab,-ae,-aa,-frz]
   ·rw [RD hc] at c3
    rw [RK (fun k=>hc k.2)]
    refine ⟨bv,A++X,?_,hB0,hbv3⟩
    show run _ _ _ (gN rv (.int .i64 free) (.ptr 0 0 0) (dM os) bv (.bool true) (.int .i64 (i:Int))) _=some (.normal (gN rv (.int .i64 free) (.ptr 0 0 0) (dM os) bv (.bool true) (.int .i64 w)) (A++X))
    clear h1 h1' h2 h2' h2b hbv hbv2 hbv3 hB0 hO hsol hs10 hA0 hargs hlv y4 z4 gl gb
    generalize A++X=B at *
    generalize dM os=OV1 at *
    generalize slA 1 (aj o)=ov at *
    generalize af T chv=tv at *
    generalize ((l.length-1:Nat):Int)=lm at *
    generalize ((b.length-1:Nat):Int)=bm at *
    generalize (l.length:Int)=ln at *
    generalize (b.length:Int)=bn at *
    generalize iN l=la at *
    generalize iN b=lb at *
    simp [iK,h39,b0',b9,hlen,x1,l1,lt,h1a,hlv',hlb,b1,c1,c2,c3,y0,y3,y4',z0,z3,z4',-ag,-aq,-ab,-ae,-aa,-frz]
end
section
variable {fs:List (FuncId × aJ)} {T:aT} {chv rv:AV} {rd:List Int} {free:Int}
theorem Ij {o:List Int} {s:Option (List cO)} (h:∀b,s=some b->b.length=mB (b0 rd)) (hE:Emp (b0 rd) o):∀b,drR T rd free s o=some b->b.length=mB (b0 rd):=by
 intro b hb
 unfold drR at hb
 split at hb
 ·exact h b hb
 ·rename_i l hl
  have hll:l.length=mB (b0 rd):=by rw [oN hl,nq hE]
  split at hb
  ·injection hb with hb; rw [<-hb]; exact hll
  ·rename_i b'
   split at hb
   ·injection hb with hb; rw [<-hb]; exact hll
   ·injection hb with hb; rw [<-hb]; exact h b' rfl
theorem H2 (h39:aE fs 39=some H39) (hS:Sit T rd free) (hcv:SlA 2 (T.ch.map chA) chv) (hr:SlA 1 (aj rd) rv) (hos:os.length<=1100) (hE:∀o∈os,Emp (b0 rd) o):∀(c i m:Nat) (s:Option (List cO)) (A:ac) (bv:AV),i+c=os.length->c<m->(∀b,s=some b->b.length=mB (b0 rd))->A[0]?=some (.row 5 false [af T chv])->OV 2 1 A bv ((s.getD []).map aL) ->
  ∃bv' B,bM (evC (aw GC fs) 1200 iK) lU m (s15 rv free os bv s.isSome i) A=some (.exit 2 ((s15 rv free os bv' ((os.drop i).foldl (drR T rd free) s).isSome os.length).set 18 (.bool false)) B)/\OV 2 1 B bv' ((((os.drop i).foldl (drR T rd free) s).getD []).map aL):=by
 have hO:SlA 1 (os.map fun l=>slA 1 (aj l)) (dM os):=ba _ _
 have hlen:=hO.len
 rw [RN] at hlen
 intro c
 induction c with
 | zero=>
  intro i m s A bv hi hm hs hA hb
  obtain ⟨m,rfl⟩:∃j,m=j+1:=⟨m-1,by omega⟩
  obtain rfl:i=os.length:=by omega
  rw [SP]
  refine ⟨bv,A,?_,hb⟩
  have b0':=a9 os.length os.length .i64
  rw [RD (by omega)] at b0'
  unfold s15
  rw [aD,Cs]
  simp only [SZ]
  generalize s.isSome=sd at *
  generalize dM os=OV1 at *
  simp [iK,b0',hlen,-ag,-aq]
 | succ c ih=>
  intro i m s A bv hi hm hs hA hb
  obtain ⟨m,rfl⟩:∃j,m=j+1:=⟨m-1,by omega⟩
  have hil:i<os.length:=by omega
  have hm10:=vD (gE hS).2
  obtain ⟨bv1,B1,g1,g2,g3⟩:=Hx h39 hS hcv hr hos hE (s:=s) (fun b h=>by
   have hbl:=hs b h
   refine ⟨by omega,?_⟩
   by_cases h0:0<b.length
   ·exact .inl h0
   ·exact .inr fun o ho=>by rw [nq (hE o ho)]; omega) hA hb hil
  obtain ⟨bv2,B2,k1,k2⟩:=ih (i+1) m (drR T rd free s os[i]) B1 bv1 (by omega) (by omega) (Ij hs (hE _ (RM hil))) (by rw [g2]; exact hA) g3
  rw [Sw hil,Sj]
  refine ⟨bv2,B2,?_,k2⟩
  unfold s15 at g1 k1 ⊢
  rw [aD,Cs,g1]
  exact k1
theorem EP (h35:aE fs 35=some (aG 4 M35)) (h36:aE fs 36=some (aG 4 M30)) (h38:aE fs 38=some (cJ 4 (M38 11))) (h39:aE fs 39=some H39) (hcv:SlA 2 (T.ch.map chA) chv) (hTl:T.ch.length<=200) (hr:SlA 1 (aj rd) rv) (hrl:rd.length<=200) (hl:lost=0\/¬ (Sit T rd free/\0<=lost/\lost<=rd.length)) :
  ∃v B,cc (aw GC fs) 1200 EW [af T chv,rv,.int .i64 free,.int .i64 lost] []=some (.tup [v,.bool (cu T rd free lost).isSome],B)/\OV 2 1 B v (((cu T rd free lost).getD []).map aL):=by
 have m35:=vN hcv hTl hr hrl free
 have m36:=cf lost 0 (rd.length:Int)
 have ft:=fun A=>aK (T:=T) (fun A n=>hcv.frz (A:=A) n) A 3
 have fr:∀A n,frz A n rv=rv:=fun A n=>hr.frz n
 have bx:aS 5 (af T chv) []=some (.ptr 0 0 0,[.row 5 false [af T chv]]):=rfl
 have ct:(cellsOf (af T chv)).length=5:=rfl
 have lt:ab true 5 [.row 5 false [af T chv]] (.ptr 0 0 0)=some (af T chv):=rfl
 have hlr:=hr.len
 rw [aA] at hlr
 obtain ⟨A0,hA0⟩:∃A:ac,A=[.row 5 false [af T chv]]:=⟨_,rfl⟩
 rw [<-hA0] at bx lt
 by_cases hok:Sit T rd free/\0<=lost/\lost<=rd.length
 rotate_left
 ·have e:cu T rd free lost=none:=by unfold cu; rw [RK hok]
  rw [e]
  refine ⟨.nilS,A0,?_,.inl ⟨rfl,rfl⟩⟩
  show cc _ _ _ _ _=some (.tup [.nilS,.bool false],A0)
  by_cases hS:Sit T rd free
  ·rw [RE hS] at m35
   have mb:iE lost 0 (rd.length:Int)=false:=by
    cases e:iE lost 0 (rd.length:Int)
    ·rfl
    ·exact absurd ⟨hS,cD.1 e⟩ hok
   rw [mb] at m36
   clear hA0
   generalize (rd.length:Int)=rl at *
   generalize af T chv=tv at *
   rw [bh _ _ rfl]
   simp [EW,bx,ct,lt,h35,h36,m35,m36,ft,fr,hlr,aM,dE,bH,-aS,-ab,-aq,-frz,-cellsOf,-cf]
  ·rw [RD hS] at m35
   clear hA0
   generalize (rd.length:Int)=rl at *
   generalize af T chv=tv at *
   rw [bh _ _ rfl]
   simp [EW,bx,ct,lt,h35,m35,ft,fr,aM,dE,bH,-aS,-ab,-aq,-frz,-cellsOf,-cf]
 have hl0:lost=0:=hl.resolve_right (fun k=>k hok)
 subst hl0
 have hS:=hok.1
 rw [RE hS] at m35
 rw [cD.2 hok.2] at m36
 rw [iC,<-BE hS]
 obtain ⟨hn1,hn4⟩:=gE hS
 have bg:=bL 0 0
 rw [RD (by omega)] at bg
 have mk:bU 1 1 (.bool false) A0 (.int .i64 (rd.length:Int)) (.int .i64 (rd.length:Int))=some (.sl 1 0 rd.length,A15 (af T chv) (rJ (fun j=>decide (0<=rd.getD j 0)) (fun _=>false) rd.length 0)):=by
  have ez:rJ (fun j=>decide (0<=rd.getD j 0)) (fun _=>false) rd.length 0=List.replicate rd.length false:=by
   apply SO
   ·simp [rJ]
   ·intro i _ _; simp [rJ]
  simp only [bU]
  rw [RH ⟨by omega,by omega,by omega,by omega,rfl,rfl,by omega⟩,RW,ez,hA0]
  unfold A15 aO
  rw [T6]; rfl
 have lpa:=H3 (fs:=fs) hr hrl (tv:=af T chv) (.int .i64 free) (.ptr 0 0 0) rd.length 0 1200 (by omega) (by omega)
 rw [show ((0:Nat):Int)=0 from rfl] at lpa
 have m38:=Mc 10 (b0 rd) (.fs 1 (aO (b0 rd))) (by omega) (by rw [dQ]; exact hn4) (vD hn4) (.inr rfl)
 have fb:frz (A15 (af T chv) (b0 rd)) 4 (.sl 1 0 rd.length)=.fs 1 (aO (b0 rd)):=by
  have e:=dz (off:=0) (xs:=aO (b0 rd)) (IG (af T chv) (b0 rd)) (by rw [RT,Se]) (fun k x hx=>by
   obtain ⟨c,_,rfl⟩:=Sa.1 hx
   exact bc _ _ _) 2
  rw [cQ,dQ] at e
  exact e
 have hol:=(tC 10 (b0 rd) (by rw [dQ]; exact hn4)).1
 obtain ⟨bv,B,q1,q2⟩:=H2 h39 hS hcv hr (os:=gF 10 (b0 rd)) (by omega) (fun o ho=>(p5 hS).1 ho) (gF 10 (b0 rd)).length 0 1200 none (A15 (af T chv) (b0 rd)) .nilS (by omega) (by omega) (fun b h=>by cases h) rfl (.inl ⟨rfl,rfl⟩)
 rw [RT] at q1 q2
 unfold s15 at q1
 rw [show ((0:Nat):Int)=0 from rfl] at q1
 have q1':bM (evC (aw GC fs) 1200 iK) lU 1200 (gN rv (.int .i64 free) (.ptr 0 0 0) (dM (gF 10 (b0 rd))) .nilS (.bool false) (.int .i64 0)) (A15 (af T chv) (b0 rd))=_:=q1
 refine ⟨bv,B,?_,q2⟩
 clear q1 q2 hA0 hok hl hol
 generalize ((gF 10 (b0 rd)).foldl (drR T rd free) none).isSome=ok at *
 generalize (gF 10 (b0 rd)).length=ol at *
 generalize dM (gF 10 (b0 rd))=OV1 at *
 generalize aO (b0 rd)=bb at *
 generalize A15 (af T chv) (rJ (fun j=>decide (0<=rd.getD j 0)) (fun _=>false) rd.length 0)=A1 at *
 generalize A15 (af T chv) (b0 rd)=A2 at *
 generalize rd.length=rl at *
 generalize af T chv=tv at *
 rw [bh _ _ rfl]
 simp [EW,bx,ct,lt,h35,h36,h38,m35,m36,m38,ft,fr,fb,hlr,bg,mk,Ky lpa,Kx q1',aM,dE,bH,-aS,-ab,-aq,-bU,-frz,-cellsOf,-cf,-ag]
end
def Ms:aJ:=Ds 4 (cc (aw GC fsz) 1200 EW)
theorem GH:au Try.prog GC 15 Ms:=au.thaw (b7 (ay EM) rfl Rp FL bG.nil) 4
end Tr
namespace Tr
open Go
end Tr
namespace Tr
open Go
open Cy (GC aM bc aA dH)
open Clu (aT aY ky c9 Chk t6 af chA aZ bD dP bK cB bA bL cK aK bC)
theorem mU {bytes:Nat} (he:0<esz) (hb:0<bytes) {N:Nat} (hN:N=A.length) {ys:List AV} {yv:AV} (h:SlA esz ys yv) (hl:(xs.length+ys.length)*bytes<=140737488355328) :
  ∃id g B,aR esz bytes (A++[.dead,.row esz false xs]) (.sl (N+1) 0 xs.length) yv=some (.sl id 0 (xs.length+ys.length),B)/\B[id]?=some (.row esz g (xs++ys))/\(∀j,j<N->B[j]?=A[j]?)/\N<id/\B.length=(if xs.length=0 then N+3 else N+2):=by
 subst hN
 have hs:a8 esz (A++[.dead,.row esz false xs]) yv=some ys:=by
  rcases h with ⟨rfl,rfl⟩ | rfl
  ·rfl
  ·simp [a8]
 have hr:(A++[Ent.dead,Ent.row esz false xs])[A.length+1]?=some (.row esz false xs):=by
  rw [RS (by omega)]; simp
 simp only [aR,hs,hr]
 rw [RH ⟨trivial,he,hb,hl⟩]
 by_cases h0:xs.length=0
 ·rw [RK (by simp [h0]),RH h0]
  have hx:xs=[]:=Si.1 h0
  subst hx
  refine ⟨_,false,_,rfl,?_,fun j hj=>?_,?_,?_⟩
  ·rw [RS (by simp)]; simp
  ·rw [RC (by simp; omega),RF (by omega),RC hj]
  ·simp
  ·simp
 ·rw [RH ⟨trivial,trivial,h0⟩,RK h0]
  refine ⟨_,true,_,rfl,?_,fun j hj=>?_,by omega,by simp⟩
  ·rw [RO (by simp)]
  ·rw [RF (by omega),RC hj]
theorem BI {a:AV} (h:SlA esz xs a) (lo:Nat) (h2:lo<=xs.length):∃b,(∀A,ce esz A (some (.int .i64 (lo:Int))) none a=some b)/\SlA esz (xs.drop lo) b:=by
 rcases h with ⟨rfl,rfl⟩ | rfl
 ·refine ⟨.nilS,fun A=>?_,.inl ⟨rfl,by simp⟩⟩
  have:lo=0:=by simpa using h2
  subst this
  rfl
 ·refine ⟨.fs esz (xs.drop lo),fun A=>?_,.inr rfl⟩
  have e:du xs.length (some (.int .i64 (lo:Int))) none=some (lo,xs.length):=by simp [du,hiB,loB,h2]
  simp only [ce,SX,e,Ss]
  rw [RX (by simp)]
end Tr
namespace Tr
open Go
open Cy (GC aM bc aA iO)
open Clu (aT aY af chA aK bC aZ bD cB bA bK bL cK)
theorem ID {T:aT} {free:Int} (hcv:SlA 2 (T.ch.map chA) chv) (hTl:T.ch.length<=200) (hr:SlA 1 (aj rd) rv) (hrl:rd.length<=200) {args:List AV} (A:ac) (hargs:args.map (frz A 4)=[af T chv,rv,.int .i64 free,.int .i64 0]) :
  ∃v X,(∀hh,Ms hh args A=some (.tup [v,.bool (bV T rd free).isSome],A++X))/\RV A.length (A++X) v ((bV T rd free).getD []):=by
 obtain ⟨v,B,h1,h2⟩:=EP (fs:=fsz) (free:=free) rfl rfl rfl rfl hcv hTl hr hrl (lost:=0) (.inl rfl)
 rw [iC] at h1 h2
 obtain ⟨v',X,h3,h4⟩:=zW (L:=A.length) h2 (bV T rd free).isSome
 refine ⟨v',X,fun hh=>?_,(h4 A rfl).1⟩
 unfold Ms
 rw [xm,hargs,h1,Sn]
 simp only [h3,Ss]
def FC:List (FuncId × aJ):=[(15,Ms)]
@[simp] theorem Od:aE FC 15=some Ms:=rfl
theorem G0:∀f M,aE FC f=some M->au Try.prog GC f M:=ai GH aB
def M37:aU:=fun args=>evP (aw GC FC) 300 vS 4 args
theorem xy:ax Try.prog GC 37 M37:=ax.of_ev (E:=aw GC FC) (ay G0) rfl P6 BR 4 fun _ _ h=>⟨300,h⟩
theorem J4 {l:List cO} (hl:l.length<=100) (hb:∀t∈l,-1000<=t.1/\t.1<=1000) {R:Nat} (ok:AV):∀(c j m:Nat) (B:ac),j+c=l.length->B[R]?=some (.row 2 false ((fB lost l j).map aL))->c<m ->
  ∃B',bM (evC (aw GC FC) 300 ex) eT m (eI (.int .i64 lost) (.sl R 0 l.length) ok (.int .i64 (j:Int))) B =
   some (.exit 0 ((eI (.int .i64 lost) (.sl R 0 l.length) ok (.int .i64 (l.length:Int))).set 12 (.bool false)) B')/\B'[R]?=some (.row 2 false ((l.map (gJ lost)).map aL)):=by
 intro c
 induction c with
 | zero=>
  intro j m B hj hB hm
  obtain ⟨m,rfl⟩:∃j,m=j+1:=⟨m-1,by omega⟩
  obtain rfl:j=l.length:=by omega
  have b0':=a9 l.length l.length .i64
  rw [RD (by omega)] at b0'
  have e:fB lost l l.length=l.map (gJ lost):=by unfold fB; rw [Se,SP,Sk]
  rw [e] at hB
  refine ⟨B,?_,hB⟩
  rw [aD,qO]
  simp [ex,b0',-ag]
 | succ c ih=>
  intro j m B hj hB hm
  obtain ⟨m,rfl⟩:∃j,m=j+1:=⟨m-1,by omega⟩
  have hjl:j<l.length:=by omega
  have hil:=(Rv.1 hB).1
  have b0':=a9 j l.length .i64
  rw [RE hjl] at b0'
  have b1:=aV j (by omega)
  have i1:=AU (n:=l.length) hB hjl .i64
  have hg:=vA lost hjl
  obtain ⟨f0,l0⟩:=AP hB hg
  have s1:=zZ hB hg (l[j].1+1)
  have hbj:=hb _ (RM hjl)
  have b2:ag .geq (.int .i64 l[j].1) (.int .i64 lost)=some (.bool (decide (lost<=l[j].1))):=by simp [ag]
  have b3:ag .add (.int .i64 l[j].1) (.int .i64 1)=some (.int .i64 (l[j].1+1)):=aZ (by omega)
  have hset:=vz lost hjl
  rw [aD,qO]
  obtain ⟨w,hw⟩:∃w,w=((j+1:Nat):Int):=⟨_,rfl⟩
  by_cases hc:lost<=l[j].1
  ·rw [RE hc] at b2
   have ht:gJ lost l[j]=(l[j].1+1,l[j].2):=by unfold gJ; rw [RH hc]
   rw [ht] at hset
   rw [hset] at s1
   obtain ⟨B',g1,g2⟩:=ih (j+1) m (B.set R (.row 2 false ((fB lost l (j+1)).map aL))) (by omega) (by rw [RO hil]) (by omega)
   refine ⟨B',?_,g2⟩
   rw [<-hw] at b1 g1
   have e:run (aw GC FC) 300 [.code ex] (eI (.int .i64 lost) (.sl R 0 l.length) ok (.int .i64 (j:Int))) B=some (.normal (eI (.int .i64 lost) (.sl R 0 l.length) ok (.int .i64 w)) (B.set R (.row 2 false ((fB lost l (j+1)).map aL)))):=by
    clear g1 ih hB hg hset ht
    generalize B.set R (.row 2 false ((fB lost l (j+1)).map aL))=B2 at *
    generalize l[j].1+1=z1 at *
    generalize l[j].1=z0 at *
    generalize l.length=ln at *
    simp [ex,b0',b1,i1,f0,l0,b2,b3,s1,-ag,-ab,-az,-ae,-aa]
   rw [e]
   exact g1
  ·rw [RD hc] at b2
   have ht:gJ lost l[j]=l[j]:=by unfold gJ; rw [RK hc]
   rw [ht] at hset
   have hB2:B[R]?=some (.row 2 false ((fB lost l (j+1)).map aL)):=by
    rw [<-hset,hB]
    congr 4
    have hl':=Rv.1 hg
    obtain ⟨h1,h2⟩:=hl'
    rw [<-h2,List.set_getElem_self]
   obtain ⟨B',g1,g2⟩:=ih (j+1) m B (by omega) hB2 (by omega)
   refine ⟨B',?_,g2⟩
   rw [<-hw] at b1 g1
   have e:run (aw GC FC) 300 [.code ex] (eI (.int .i64 lost) (.sl R 0 l.length) ok (.int .i64 (j:Int))) B=some (.normal (eI (.int .i64 lost) (.sl R 0 l.length) ok (.int .i64 w)) B):=by
    clear g1 ih hB hg hset ht hB2 s1
    generalize l[j].1+1=z1 at *
    generalize l[j].1=z0 at *
    generalize l.length=ln at *
    simp [ex,b0',b1,i1,f0,l0,b2,-ag,-ab,-az,-ae,-aa]
   rw [e]
   exact g1
theorem Md {T:aT} {rd:List Int} {free:Int} (hS:Sit T rd free) (hcv:SlA 2 (T.ch.map chA) chv) (hr:SlA 1 (aj rd) rv) {k0:Nat} (hk:k0<T.ch.length) :
  ∃v,M37 [af T chv,rv,.int .i64 free,.int .i64 ((k0:Int)+1)]=some (.tup [v,.bool (cu T rd free ((k0:Int)+1)).isSome])/\SlA 2 (((cu T rd free ((k0:Int)+1)).getD []).map aL) v:=by
 have hv:=hS.1.1
 have hn4:=hv.2.2.2.1
 have hRl:=hS.2.1
 have etn:((k0:Int)+1-1).toNat=k0:=by omega
 have eD:cu T rd free ((k0:Int)+1)=if T.ch.length=1 then some [] else (bV (jN T k0) (jS rd k0) free).map fun l=>l.map (gJ ((k0:Int)+1)):=by
  unfold cu
  rw [RH ⟨hS,by omega,by omega⟩,RK (by omega),etn]
 have etv:af T chv=.agg [chv,.int .i64 T.pick,.int .i64 T.place,.int .i64 T.travel,.int .i64 T.blades]:=rfl
 have tf:∀A,frz A 4 (af T chv)=af T chv:=fun A=>aK (fun A n=>hcv.frz (A:=A) n) A 3
 have rf:∀A n,frz A n rv=rv:=fun A n=>hr.frz n
 have bx:aS 5 (af T chv) []=some (.ptr 0 0 0,[.row 5 false [af T chv]]):=rfl
 have ct:(cellsOf (af T chv)).length=5:=rfl
 have lt0:ab true 5 [.row 5 false [af T chv]] (.ptr 0 0 0)=some (af T chv):=rfl
 have lt0z:ab true 5 [.row 5 false [af T chv],.row 5 false [zT]] (.ptr 0 0 0)=some (af T chv):=rfl
 have bz:aS 5 zT [.row 5 false [af T chv]]=some (.ptr 1 0 0,[.row 5 false [af T chv],.row 5 false [zT]]):=rfl
 have hch1:=jX hcv
 have bt:az 5 [.row 5 false [af T chv],.row 5 false [zT]] (.ptr 1 0 0) (af T chv)=some [.row 5 false [af T chv],.row 5 false [af T chv]]:=by
  rw [etv]
  rcases hcv with ⟨rfl,_⟩ | rfl <;> rfl
 obtain ⟨D,hD⟩:∃D:ac,D=[.row 5 false [af T chv],.row 5 false [af T chv]]:=⟨_,rfl⟩
 rw [<-hD] at bt
 have hDl:D.length=2:=by rw [hD]; rfl
 have hD0:D[0]?=some (.row 5 false [af T chv]):=by rw [hD]; rfl
 have hD1:D[1]?=some (.row 5 false [af T chv]):=by rw [hD]; rfl
 have bs2:aI 2 [] D=some (.sl 2 0 0,D++[.row 2 false []]):=by simp [aI,hDl]
 have bk:ag .sub (.int .i64 ((k0:Int)+1)) (.int .i64 1)=some (.int .i64 (k0:Int)):=by rw [bD (by omega)]; congr 2; omega
 obtain ⟨xs,hxs⟩:∃xs:List (Int × Int),xs=T.ch.take k0:=⟨_,rfl⟩
 obtain ⟨ys,hys⟩:∃ys:List (Int × Int),ys=T.ch.drop (k0+1):=⟨_,rfl⟩
 have hxl:xs.length=k0:=by rw [hxs,SM]; omega
 have hyl:ys.length=T.ch.length-(k0+1):=by rw [hys,TX]
 obtain ⟨c1,hc1,hc1s⟩:=Il hcv k0 (by rw [RN]; omega)
 obtain ⟨c2,hc2,hc2s⟩:=BI hcv (k0+1) (by rw [RN]; omega)
 rw [<-List.map_take,<-hxs] at hc1s
 rw [<-List.map_drop,<-hys] at hc2s
 rw [show (((k0+1:Nat):Nat):Int)=(k0:Int)+1 by omega] at hc2
 have ap2:=gW (esz:=2) (bytes:=16) (by omega) (by omega) hDl.symm hc1s (by rw [RN]; omega)
 obtain ⟨ida,ga,Ba,ap3,hBa,hBo,hida,hBal⟩:=mU (esz:=2) (bytes:=16) (A:=D) (xs:=xs.map chA) (by omega) (by omega) hDl.symm hc2s (by rw [RN,RN]; omega)
 have fr0:∀X,aa 0 (D++X) (.ptr 0 0 0)=some (.ptr 0 0 0):=fun X=>by
  have:(D++X)[0]?=some (.row 5 false [af T chv]):=by rw [RC (by omega)]; exact hD0
  simp [aa,this]
 have lr0:∀X,ab false 1 (D++X) (.ptr 0 0 0)=some chv:=fun X=>by
  refine me (k:=5) (es:=[chv,.int .i64 T.pick,.int .i64 T.place,.int .i64 T.travel,.int .i64 T.blades]) ?_ rfl
  rw [RC (by omega)]; exact hD0
 have fr0a:=fr0 [.row 2 false []]
 have lr0a:=lr0 [.row 2 false []]
 have fr0b:=fr0 [.dead,.row 2 false (xs.map chA)]
 have lr0b:=lr0 [.dead,.row 2 false (xs.map chA)]
 have hBa1:Ba[1]?=some (.row 5 false [af T chv]):=by rw [hBo 1 (by omega)]; exact hD1
 have fa1:aa 0 Ba (.ptr 1 0 0)=some (.ptr 1 0 0):=by simp [aa,hBa1]
 obtain ⟨n3,hn3⟩:∃n,n=(xs.map chA).length+(ys.map chA).length:=⟨_,rfl⟩
 rw [<-hn3] at ap3
 have hn3':n3=(xs++ys).length:=by rw [hn3]; simp
 obtain ⟨E,hE⟩:∃E,E=Ba.set 1 (.row 5 false [.agg [.sl ida 0 n3,.int .i64 T.pick,.int .i64 T.place,.int .i64 T.travel,.int .i64 T.blades]]):=⟨_,rfl⟩
 have st1:az 1 Ba (.ptr 1 0 0) (.sl ida 0 n3)=some E:=by
  rw [hE]
  rw [etv] at hBa1
  simp [az,hBa1,bq]
 have hBl1:1<Ba.length:=by rw [hBal]; split <;> omega
 have hidl:ida<Ba.length:=(Rv.1 hBa).1
 have hE1:E[1]?=some (.row 5 false [.agg [.sl ida 0 n3,.int .i64 T.pick,.int .i64 T.place,.int .i64 T.travel,.int .i64 T.blades]]):=by rw [hE,RO hBl1]
 have hEi:E[ida]?=some (.row 2 ga ((xs++ys).map chA)):=by rw [hE,RF (by omega),hBa,SH]
 have fe1:aa 0 E (.ptr 1 0 0)=some (.ptr 1 0 0):=by simp [aa,hE1]
 have le1:ab false 1 E (.ptr 1 0 0)=some (.sl ida 0 n3):=me (k:=5) (es:=[.sl ida 0 n3,.int .i64 T.pick,.int .i64 T.place,.int .i64 T.travel,.int .i64 T.blades]) hE1 rfl
 have ln3:aq (.sl ida 0 n3)=some (.int .i64 (n3:Int)):=rfl
 have bn3:=bA (n3:Int) 0
 have ids0:∀ {e:Nat} {l:List AV} {v:AV},SlA e l v->bj v=[]:=fun h=>by rcases h with ⟨rfl,_⟩ | rfl <;> rfl
 have ids1:=ids0 hcv
 have ids2:=ids0 hr
 have ids3:=ids0 hc1s
 have ids4:=ids0 hc2s
 have ids7:∀a b c,bj (.sl a b c)=[a]:=fun _ _ _=>rfl
 have ids8:∀a b c,bj (.ptr a b c)=[a]:=fun _ _ _=>rfl
 have ids9:∀k z,bj (.int k z)=[]:=fun _ _=>rfl
 have hD2l:¬ (D++[Ent.row 2 false []]).length=0:=by simp [hDl]
 have hD2l1:¬ (D++[Ent.row 2 false []]).length=1:=by simp [hDl]
 by_cases h1:T.ch.length=1
 ·rw [RH h1] at eD
  rw [eD]
  refine ⟨.nilS,?_,.inl ⟨rfl,rfl⟩⟩
  show M37 _=some (.tup [.nilS,.bool true])
  have hn30:n3=0:=by rw [hn3',RU]; omega
  rw [RE (by omega)] at bn3
  have fz:∀A:ac,frz A 4 (.tup [.nilS,.bool true])=.tup [.nilS,.bool true]:=fun _=>rfl
  unfold M37
  clear hBa hBo hBal hBa1 hD0 hD1 hD hxs hys hc1s hc2s fr0 lr0 etv hn3 hn3' hxl hyl hE hE1 hEi eD ids0 hn30 hch1
  generalize [Ent.row 5 false [af T chv],.row 5 false [zT]]=C1 at *
  generalize [Ent.row 5 false [af T chv]]=C0 at *
  generalize D++[.dead,.row 2 false (xs.map chA)]=D1 at *
  generalize D++[.row 2 false []]=D2 at *
  generalize (xs.map chA).length=nx at *
  generalize (k0:Int)+1=LO at *
  generalize (k0:Int)=KO at *
  generalize af T chv=tv at *
  rw [aN _ _ rfl]
  simp [vS,bx,ct,lt0,bz,bt,bs2,fr0a,lr0a,bk,hc1,ap2,fr0b,lr0b,hc2,ap3,fa1,st1,fe1,le1,ln3,bn3,hDl,hD2l,ids1,ids3,ids4,ids7,ids8,fz,dE,-bj,-aS,-az,-ab,-aa,-ce,-frz,-cellsOf,-aq,-ag,-aI]
 rw [RK h1] at eD
 have hn30:n3≠0:=by rw [hn3',RU]; omega
 rw [RD (by omega)] at bn3
 have le5:ab true 5 E (.ptr 1 0 0)=some (.agg [.sl ida 0 n3,.int .i64 T.pick,.int .i64 T.place,.int .i64 T.travel,.int .i64 T.blades]):=by simp [ab,hE1]
 obtain ⟨L,hL⟩:∃L,L=E.length:=⟨_,rfl⟩
 have hEl:E.length=Ba.length:=by rw [hE,Sm]
 have hL1:1<L:=by omega
 have hLi:ida<L:=by omega
 have bs3:aI 1 [] E=some (.sl L 0 0,E++[.row 1 false []]):=by simp [aI,hL]
 obtain ⟨us,hus⟩:∃us:List Int,us=rd.take k0:=⟨_,rfl⟩
 obtain ⟨vs,hvs⟩:∃vs:List Int,vs=rd.drop (k0+1):=⟨_,rfl⟩
 have hul:us.length=k0:=by rw [hus,SM]; omega
 have hvl:vs.length=rd.length-(k0+1):=by rw [hvs,TX]
 obtain ⟨d1,hd1,hd1s⟩:=Il hr k0 (by rw [aA]; omega)
 obtain ⟨d2,hd2,hd2s⟩:=BI hr (k0+1) (by rw [aA]; omega)
 have hd1s:SlA 1 (aj us) d1:=by rw [hus]; unfold aj at hd1s ⊢; rw [List.map_take]; exact hd1s
 have hd2s:SlA 1 (aj vs) d2:=by rw [hvs]; unfold aj at hd2s ⊢; rw [List.map_drop]; exact hd2s
 rw [show (((k0+1:Nat):Nat):Int)=(k0:Int)+1 by omega] at hd2
 have ap4:=gW (esz:=1) (bytes:=8) (by omega) (by omega) hL hd1s (by rw [aA]; omega)
 obtain ⟨idb,gb,Bb,ap5,hBb,hBbo,hidb,_⟩:=mU (esz:=1) (bytes:=8) (A:=E) (xs:=aj us) (by omega) (by omega) hL hd2s (by rw [aA,aA]; omega)
 obtain ⟨n4,hn4'⟩:∃n,n=(aj us).length+(aj vs).length:=⟨_,rfl⟩
 rw [<-hn4'] at ap5
 have hcutR:us++vs=jS rd k0:=by rw [hus,hvs]; rfl
 have hcutT:xs++ys=(jN T k0).ch:=by rw [hxs,hys]; rfl
 have hBbi:Bb[idb]?=some (.row 1 gb (aj (jS rd k0))):=by rw [hBb,<-hcutR]; unfold aj; rw [SH]
 have fzR:frz Bb 4 (.sl idb 0 n4)=.fs 1 (aj (jS rd k0)):=mw hBbi (by rw [hn4',<-hcutR,aA,aA,RU]) 2
 have hBbI:Bb[ida]?=some (.row 2 ga ((jN T k0).ch.map chA)):=by rw [hBbo ida hLi,<-hcutT]; exact hEi
 have fzT:frz Bb 4 (.agg [.sl ida 0 n3,.int .i64 T.pick,.int .i64 T.place,.int .i64 T.travel,.int .i64 T.blades])=af (jN T k0) (.fs 2 ((jN T k0).ch.map chA)):=by
  have:=If hBbI (n:=n3) (by rw [hn3',hcutT]) 0
  show AV.agg [frz Bb 3 _,_,_,_,_]=_
  rw [this]; rfl
 have hcl:(jN T k0).ch.length<=200:=by rw [<-hcutT,RU]; omega
 have hargs:([.agg [.sl ida 0 n3,.int .i64 T.pick,.int .i64 T.place,.int .i64 T.travel,.int .i64 T.blades],.sl idb 0 n4,.int .i64 free,.int .i64 0]:List AV).map (frz Bb 4)=[af (jN T k0) (.fs 2 ((jN T k0).ch.map chA)),.fs 1 (aj (jS rd k0)),.int .i64 free,.int .i64 0]:=by
  simp only [SG,Uy,fzT,fzR]
  rfl
 obtain ⟨v,X,h15,hRV⟩:=ID (T:=jN T k0) (rd:=jS rd k0) (free:=free) (.inr rfl) hcl (.inr rfl) (by rw [<-hcutR,RU]; omega) Bb hargs
 obtain ⟨l,hl⟩:∃l,l=(bV (jN T k0) (jS rd k0) free).getD []:=⟨_,rfl⟩
 have hlb:l.length<=10/\∀t∈l,-1000<=t.1/\t.1<=1000:=by
  rw [hl]
  cases hdr:bV (jN T k0) (jS rd k0) free with
  | none=>exact ⟨by simp,fun t ht=>by cases ht⟩
  | some d=>
   obtain ⟨q1,q2⟩:=mI hdr
   refine ⟨q1,fun t ht=>?_⟩
   have:=q2 t ht
   rw [<-hcutT,RU] at this
   omega
 rw [<-hl] at hRV
 have hres:(cu T rd free ((k0:Int)+1)).isSome=(bV (jN T k0) (jS rd k0) free).isSome/\(cu T rd free ((k0:Int)+1)).getD []=l.map (gJ ((k0:Int)+1)):=by
  rw [eD,hl]
  cases bV (jN T k0) (jS rd k0) free <;> exact ⟨rfl,rfl⟩
 rw [hres.1,hres.2]
 generalize (bV (jN T k0) (jS rd k0) free).isSome=ok at *
 obtain ⟨Y,hY⟩:∃Y,Y=Bb++X:=⟨_,rfl⟩
 rw [<-hY] at h15 hRV
 have lv:aq v=some (.int .i64 (l.length:Int)):=by
  rcases hRV with ⟨rfl,e⟩ | ⟨i,_,rfl,_⟩
  ·rw [e]; rfl
  ·rfl
 obtain ⟨B',lp,hfin⟩:∃B',bM (evC (aw GC FC) 300 ex) eT 300 (eI (.int .i64 ((k0:Int)+1)) v (.bool ok) (.int .i64 0)) Y=some (.exit 0 ((eI (.int .i64 ((k0:Int)+1)) v (.bool ok) (.int .i64 (l.length:Int))).set 12 (.bool false)) B')/\SlA 2 ((l.map (gJ ((k0:Int)+1))).map aL) (frz B' 3 v):=by
  rcases hRV with ⟨rfl,hnil⟩ | ⟨R,_,rfl,hrow⟩
  ·rw [hnil]
   have b0':=a9 0 0 .i64
   rw [RD (by omega)] at b0'
   have b0'':ag .lss (.int .i64 0) (.int .i64 0)=some (.bool false):=b0'
   refine ⟨Y,?_,.inl ⟨rfl,rfl⟩⟩
   rw [show (300:Nat)=299+1 from rfl,aD,qO]
   simp [ex,b0'',-ag]
  ·have e0:fB ((k0:Int)+1) l 0=l:=by simp [fB]
   obtain ⟨B',g1,g2⟩:=J4 (lost:=(k0:Int)+1) (by omega) hlb.2 (R:=R) (.bool ok) l.length 0 300 Y (by omega) (by rw [e0]; exact hrow) (by omega)
   refine ⟨B',g1,?_⟩
   have:=o6 g2
   rw [RN] at this
   rw [this]
   exact .inr rfl
 refine ⟨frz B' 3 v,?_,hfin⟩
 have fz:frz B' 4 (.tup [v,.bool ok])=.tup [frz B' 3 v,.bool ok]:=rfl
 have ids5:=ids0 hd1s
 have ids6:=ids0 hd2s
 have hEL:E.length=L:=hL.symm
 have hEa:¬ 1=E.length:=by omega
 have hEb:¬ 1=(E++[Ent.row 1 false []]).length:=by rw [RU,SU]; omega
 have hEc:¬ 1=(E++[Ent.dead,.row 1 false (aj us)]).length:=by rw [RU,Sv,SU]; omega
 have hEd:¬ 1=L:=by omega
 have hL0n:¬ L=0:=by omega
 have hL1n:¬ L=1:=by omega
 have hLin:¬ L=ida:=by omega
 unfold M37
 clear hfin hRV lv hY hargs fzT fzR hBbI hBbi hcutT hcutR hBb hBbo hidb hEi hE1 hE hEl hL hEL hBa hBo hBal hBa1 hD0 hD1 hD hxs hys hc1s hc2s hd1s hd2s fr0 lr0 etv hn3 hn3' hn4' hxl hyl hul hvl hus hvs eD ids0 hn30 hch1 hl hlb hres
 generalize E++[.dead,.row 1 false (aj us)]=E1 at *
 generalize E++[.row 1 false []]=E2 at *
 generalize (aj us).length=nu at *
 generalize [Ent.row 5 false [af T chv],.row 5 false [zT]]=C1 at *
 generalize [Ent.row 5 false [af T chv]]=C0 at *
 generalize D++[.dead,.row 2 false (xs.map chA)]=D1 at *
 generalize D++[.row 2 false []]=D2 at *
 generalize (xs.map chA).length=nx at *
 generalize (k0:Int)+1=LO at *
 generalize (k0:Int)=KO at *
 generalize af T chv=tv at *
 generalize AV.agg [.sl ida 0 n3,.int .i64 T.pick,.int .i64 T.place,.int .i64 T.travel,.int .i64 T.blades]=tw at *
 rw [aN _ _ rfl]
 simp [vS,bx,ct,lt0,bz,bt,bs2,fr0a,lr0a,bk,hc1,ap2,fr0b,lr0b,hc2,ap3,fa1,st1,fe1,le1,le5,ln3,bn3,bs3,hd1,ap4,hd2,ap5,h15,Bf lp,hDl,hD2l,hL0n,ids1,ids2,ids3,ids4,ids5,ids6,ids7,ids8,hEa,hEb,hEc,hEd,fz,dE,-bj,-aS,-az,-ab,-aa,-ce,-frz,-cellsOf,-aq,-ag,-aI]
end Tr
namespace Tr
open Go
open Cy (GC aM bc aA)
open Clu (aT aY af chA aK bC aZ bD cB bA bK bL cK)
def Ie:List (FuncId × aJ):=(37,aG 4 M37) :: fsz
@[simp] theorem Pw:aE Ie 35=some (aG 4 M35):=rfl
@[simp] theorem Pv:aE Ie 36=some (aG 4 M30):=rfl
@[simp] theorem Pu:aE Ie 37=some (aG 4 M37):=rfl
theorem Hb:∀f M,aE Ie f=some M->au Try.prog GC f M:=ai (au.of_pure xy 4) EM
def M15:aU:=fun args=>evP (aw GC Ie) 1200 EW 4 args
theorem JA:ax Try.prog GC 15 M15:=ax.of_ev (E:=aw GC Ie) (ay Hb) rfl Rp FL 4 fun _ _ h=>⟨1200,h⟩
theorem Gf {T:aT} {free:Int} (hcv:SlA 2 (T.ch.map chA) chv) (hTl:T.ch.length<=200) (hr:SlA 1 (aj rd) rv) (hrl:rd.length<=200) :
  ∃v,M15 [af T chv,rv,.int .i64 free,.int .i64 lost]=some (.tup [v,.bool (cu T rd free lost).isSome])/\SlA 2 (((cu T rd free lost).getD []).map aL) v:=by
 by_cases hc:lost=0\/¬ (Sit T rd free/\0<=lost/\lost<=rd.length)
 ·obtain ⟨v,B,h1,h2⟩:=EP (fs:=Ie) (free:=free) rfl rfl rfl rfl hcv hTl hr hrl hc
  have hfz:=h2.frz 2 (fun x hx=>by
   obtain ⟨t,_,rfl⟩:=Sa.1 hx
   simp [aL,frz])
  refine ⟨frz B 3 v,?_,hfz⟩
  unfold M15 evP
  rw [h1]
  rfl
 ·have hl0:lost≠0:=fun h=>hc (.inl h)
  obtain ⟨hS,h0,h1⟩:=R7.1 (fun h=>hc (.inr h))
  obtain ⟨k0,hk⟩:∃k0:Nat,lost=(k0:Int)+1:=⟨(lost-1).toNat,by omega⟩
  subst hk
  obtain ⟨v,m37,hv⟩:=Md (free:=free) hS hcv hr (k0:=k0) (by rw [<-hS.2.1]; omega)
  refine ⟨v,?_,hv⟩
  have m35:=vN hcv hTl hr hrl free
  rw [RE hS] at m35
  have m36:=cf ((k0:Int)+1) 0 (rd.length:Int)
  rw [cD.2 ⟨h0,h1⟩] at m36
  have ft:=fun A=>aK (T:=T) (fun A n=>hcv.frz (A:=A) n) A 3
  have tn:bu 4 (af T chv)=true:=bC (fun n=>hcv.noRef n) 3
  have fr:∀A n,frz A n rv=rv:=fun A n=>hr.frz n
  have rn:∀n,bu n rv=true:=fun n=>hr.noRef n
  have bx:aS 5 (af T chv) []=some (.ptr 0 0 0,[.row 5 false [af T chv]]):=rfl
  have ct:(cellsOf (af T chv)).length=5:=rfl
  have lt:ab true 5 [.row 5 false [af T chv]] (.ptr 0 0 0)=some (af T chv):=rfl
  have hlr:=hr.len
  rw [aA] at hlr
  have bg:=bL ((k0:Int)+1) 0
  rw [RE (by omega)] at bg
  have fv:∀A b,frz A 4 (.tup [v,.bool b])=.tup [v,.bool b]:=fun A b=>by
   show AV.tup [frz A 3 v,.bool b]=_
   rw [hv.frz 3]
  unfold M15
  clear hv hc
  generalize (cu T rd free ((k0:Int)+1)).isSome=ok at *
  generalize (k0:Int)+1=LO at *
  generalize (rd.length:Int)=rl at *
  generalize [Ent.row 5 false [af T chv]]=A0 at *
  generalize af T chv=tv at *
  rw [aN _ _ rfl]
  simp [EW,bx,ct,lt,m35,m36,m37,ft,tn,fr,rn,fv,hlr,bg,aM,dE,bH,-aS,-ab,-aq,-frz,-cellsOf,-cf,-ag]
end Tr
namespace Tr
open Go
def mZ:MC:=.seq (.region [.B 34 33 32]) (.seq (.cond (.var 34) .skip (.exit 0)) (.seq (.seq (.block 1 (.seq (.region [.M 1 31 33,.b 1 0,.c 21 1]) (.seq (.region [.l 5 6,.a 1,.a 2,.a 21,.Q 17 0 1 2 3,.h 4,.j 5 0,.j 5 1,.c 22 6,.c 23 7]) (.seq (.region [.l 5 6,.a 1,.a 2,.a 21,.Q 18 0 1 2 3,.h 4,.j 5 0,.j 5 1,.c 24 6,.c 25 7]) (.seq (.region [.l 5 10,.a 11,.a 12,.a 21,.Q 17 0 1 2 3,.h 4,.j 5 0,.j 5 1,.c 26 6,.c 27 7]) (.seq (.region [.l 5 10,.a 11,.a 12,.a 21,.Q 18 0 1 2 3,.h 4,.j 5 0,.j 5 1,.c 28 6,.c 29 7]) (.seq (.region [.a 22,.a 24,.qn (.bin .neq (.tmp 0) (.tmp 1)),.h 2,.n 23 3,.n 25 3,.cb 4 5 3,.G 3 6,.h 7,.n 26 8,.n 28 8,.ch 9 10 8,.G 8 11,.h 12,.n 27 13,.n 29 13,.cb 14 15 13,.C 35 13 16]) (.cond (.var 35) (.seq (.region [.g 8]) .ret) .skip)))))))) (.kill [0,3,4,5,7,8,13,14,15,16,17,18,19,20,21,22,23,24,25,26,27,28,29,30,34,35])) (.region [.u 33 1,.c 33 0])))
def mf3:cI:=⟨6,36,.seq (.region [.D 6 0,.D 7 5,.g 8]) (.seq (.region [.qn (.call (.fn 11) []),.c 9 0]) (.seq (.region [.l 5 6,.J 12 0,.r 5 6 1]) (.seq (.region [.a 1,.a 1,.v 1,.qn (.minmax false (.tmp 2) [.cst (.int .i64 5)]),.an 1 0 3,.c 1 4]) (.seq (.region [.a 3,.a 3,.v 1,.qn (.minmax false (.tmp 2) [.cst (.int .i64 12)]),.an 2 0 3,.c 3 4]) (.seq (.region [.l 6 7,.J 13 0,.h 1,.j 2 0,.j 2 1,.j 2 2,.N 10 5,.r 5 10 3,.c 11 4,.c 12 5]) (.seq (.region [.l 5 6,.a 1,.a 2,.a 4,.Q 14 0 1 2 3,.h 4,.j 5 0,.j 5 1,.c 13 6,.c 14 7]) (.seq (.region [.l 5 6,.a 1,.a 2,.a 4,.Q 15 0 1 2 3,.h 4,.j 5 0,.j 5 1,.c 15 6,.c 16 7]) (.seq (.region [.l 5 10,.a 11,.a 12,.a 4,.Q 14 0 1 2 3,.h 4,.j 5 0,.j 5 1,.c 17 6,.c 18 7]) (.seq (.region [.l 5 10,.a 11,.a 12,.a 4,.Q 15 0 1 2 3,.h 4,.j 5 0,.j 5 1,.c 19 6,.c 20 7]) (.seq (.seq (.region [.a 14,.a 16,.qn (.eqBool true (.tmp 0) (.tmp 1)),.h 2,.n 13 3,.n 15 3,.ci 16 4 5 3,.H 6 3,.G 3 7,.h 8,.n 18 9,.n 20 9,.cb 10 11 9,.G 9 12,.h 13,.n 17 14,.n 19 14,.ci 16 15 16 14,.H 17 14,.C 30 14 18]) (.cond (.var 30) (.seq (.region [.g 8]) .ret) .skip)) (.seq (.seq (.region [.a 3,.a 15,.a 19,.c3,.a 19,.ag 2 3 4,.a 3,.ag 2 5 6,.qs 31 (.buildSlice 1 [.tmp 0,.tmp 1,.tmp 2,.tmp 7]),.ab 32 31,.f 33 0]) (.seq (.block 0 (.loop [0,3,4,5,7,8,13,14,15,16,17,18,19,20,21,22,23,24,25,26,27,28,29,30,34,35] mZ)) (.kill [0,1,2,3,4,5,6,7,8,10,11,12,13,14,15,16,17,18,19,20,21,22,23,24,25,26,27,28,29,30,31,32,33,34,35]))) (.seq (.region [.a 9,.c 8 0]) .ret)))))))))))),[.tmp 8]⟩
def i6:List Nat:=[0,3,4,5,7,8,13,14,15,16,17,18,19,20,21,22,23,24,25,26,27,28,29,30,34,35]
abbrev jP (v1 v2 v6 v9 v10 v11 v12 v31 v32 v33:AV):List AV:=[.undef,v1,v2,.undef,.undef,.undef,v6,.undef,.undef,v9,v10,v11,v12,.undef,.undef,.undef,.undef,.undef,.undef,.undef,.undef,.undef,.undef,.undef,.undef,.undef,.undef,.undef,.undef,.undef,.undef,v31,v32,v33,.undef,.undef]
theorem Lo {d20 d21 d22 d23 d24 d25 d26 d27 d28 d29 d30 v31 v32 v33 d34 d35:AV}:clear i6 [d0,v1,v2,d3,d4,d5,v6,d7,d8,v9,v10,v11,v12,d13,d14,d15,d16,d17,d18,d19,d20,d21,d22,d23,d24,d25,d26,d27,d28,d29,d30,v31,v32,v33,d34,d35]=jP v1 v2 v6 v9 v10 v11 v12 v31 v32 v33:=by simp only [i6,clear,Sj,SZ,SB,SE]
theorem NH {k:List KC} {d20 d21 d22 d23 d24 d25 d26 d27 d28 d29 d30 v31 v32 v33 d34 d35:AV} (h:bM (evC E fuel mZ) i6 fuel (jP v1 v2 v6 v9 v10 v11 v12 v31 v32 v33) A=some o) :
  run E fuel (.code (.loop [0,3,4,5,7,8,13,14,15,16,17,18,19,20,21,22,23,24,25,26,27,28,29,30,34,35] mZ) :: k) [d0,v1,v2,d3,d4,d5,v6,d7,d8,v9,v10,v11,v12,d13,d14,d15,d16,d17,d18,d19,d20,d21,d22,d23,d24,d25,d26,d27,d28,d29,d30,v31,v32,v33,d34,d35] A=after E fuel k o:=aQ i6 _ _ (by rw [Lo]; exact h)
theorem PQ:aH Try.prog Try.f3 6 [0,1,2,3,4,5,6,11,12,13,14,15,16,17,18,19,20,21,22,23,24,26,27,28,29,30,31,32,33,34,105,114,115,116,117,169] [] true ([[0,3,4,5,7,8,13,14,15,16,17,18,19,20,21,22,23,24,25,26,27,28,29,30,34,35]],[[0,3,4,5,7,8,13,14,15,16,17,18,19,20,21,22,23,24,25,26,27,28,29,30,34,35],[0,1,2,3,4,5,6,7,8,10,11,12,13,14,15,16,17,18,19,20,21,22,23,24,25,26,27,28,29,30,31,32,33,34,35]])=some mf3:=by kernel_rfl
theorem at3:Try.prog.funcs[3]?=some Try.f3:=by kernel_rfl
end Tr
namespace Tr
open Go
open Cy (GC aM bc aA dH)
open Clu (aT aY af chA aK bC aZ bD cB bA bK bL cK)
theorem HK (a n:Nat):dq false (.int .i64 (a:Int)) [.int .i64 (n:Int)]=some (.int .i64 ((min a n:Nat):Int)):=by
 by_cases h:(n:Int)<(a:Int)
 ·rw [show min a n=n by omega]
  simp [dq,fj]; omega
 ·rw [show min a n=a by omega]
  simp [dq,fj]; omega
theorem PP {a:AV} (h:SlA esz xs a) (n:Nat):∃b,(∀A,ce esz A none (some (.int .i64 ((min xs.length n:Nat):Int))) a=some b)/\SlA esz (xs.take n) b:=by
 obtain ⟨b,h1,h2⟩:=Il h (min xs.length n) (by omega)
 refine ⟨b,h1,?_⟩
 rw [show xs.take n=xs.take (min xs.length n) by rw [List.take_eq_take_iff]; omega]
 exact h2
def F12:aU:=fun args=>evP (aw GC []) 0 DS 4 args
theorem GD:ax Try.prog GC 12 F12:=ax.of_ev (E:=aw GC []) (ay aB) rfl Qd BZ 4 fun _ _ h=>⟨0,h⟩
theorem Mt {T:aT} (hcv:SlA 2 (T.ch.map chA) chv):∃chv',SlA 2 ((T.ch.take 5).map chA) chv'/\F12 [af T chv]=some (af {T with ch:=T.ch.take 5} chv'):=by
 obtain ⟨chv',sx,h1⟩:=PP hcv 5
 rw [<-List.map_take] at h1
 refine ⟨chv',h1,?_⟩
 have hlen:=hcv.len
 rw [RN] at hlen sx
 have mn:dq false (.int .i64 (T.ch.length:Int)) [.int .i64 5]=some (.int .i64 ((min T.ch.length 5:Nat):Int)):=HK T.ch.length 5
 obtain ⟨ch,pk,pl,tr,bd⟩:=T
 simp only at hlen mn sx h1 ⊢
 obtain ⟨q,hq⟩:∃q,q=min ch.length 5:=⟨_,rfl⟩
 rw [<-hq] at mn sx
 have fA:∀(c:AV) X,aa 0 (.row 5 false [.agg [c,.int .i64 pk,.int .i64 pl,.int .i64 tr,.int .i64 bd]] :: X) (.ptr 0 0 0)=some (.ptr 0 0 0):=fun c X=>rfl
 have ld:∀X,ab false 1 (.row 5 false [.agg [chv,.int .i64 pk,.int .i64 pl,.int .i64 tr,.int .i64 bd]] :: X) (.ptr 0 0 0)=some chv:=fun X=>rfl
 have st:∀X,az 1 (.row 5 false [.agg [chv,.int .i64 pk,.int .i64 pl,.int .i64 tr,.int .i64 bd]] :: X) (.ptr 0 0 0) chv'=some (.row 5 false [.agg [chv',.int .i64 pk,.int .i64 pl,.int .i64 tr,.int .i64 bd]] :: X):=fun X=>by
  rcases h1 with ⟨rfl,_⟩ | rfl <;> simp [az,bq]
 have lT:∀X,ab true 5 (.row 5 false [.agg [chv',.int .i64 pk,.int .i64 pl,.int .i64 tr,.int .i64 bd]] :: X) (.ptr 0 0 0)=some (.agg [chv',.int .i64 pk,.int .i64 pl,.int .i64 tr,.int .i64 bd]):=fun X=>rfl
 have bx0:aS 5 (af ⟨ch,pk,pl,tr,bd⟩ chv) []=some (.ptr 0 0 0,[.row 5 false [.agg [chv,.int .i64 pk,.int .i64 pl,.int .i64 tr,.int .i64 bd]]]):=rfl
 have ct:(cellsOf (af ⟨ch,pk,pl,tr,bd⟩ chv)).length=5:=rfl
 have bx2:∀a,aS 5 (.agg [.nilS,.int .i64 0,.int .i64 0,.int .i64 0,.int .i64 0]) [a]=some (.ptr 1 0 0,[a,.row 5 false [.agg [.nilS,.int .i64 0,.int .i64 0,.int .i64 0,.int .i64 0]]]):=fun a=>rfl
 have sT:∀a,az 5 [a,.row 5 false [.agg [.nilS,.int .i64 0,.int .i64 0,.int .i64 0,.int .i64 0]]] (.ptr 1 0 0) (.agg [chv',.int .i64 pk,.int .i64 pl,.int .i64 tr,.int .i64 bd])=some [a,.row 5 false [.agg [chv',.int .i64 pk,.int .i64 pl,.int .i64 tr,.int .i64 bd]]]:=fun a=>by
  rcases h1 with ⟨rfl,_⟩ | rfl <;> simp [az,bq]
 have r2:∀a,ab true 5 [a,.row 5 false [.agg [chv',.int .i64 pk,.int .i64 pl,.int .i64 tr,.int .i64 bd]]] (.ptr 1 0 0)=some (.agg [chv',.int .i64 pk,.int .i64 pl,.int .i64 tr,.int .i64 bd]):=fun a=>rfl
 have fT:∀A,frz A 4 (.agg [chv',.int .i64 pk,.int .i64 pl,.int .i64 tr,.int .i64 bd])=.agg [chv',.int .i64 pk,.int .i64 pl,.int .i64 tr,.int .i64 bd]:=fun A=>by
  have h2:=fun n=>h1.frz (A:=A) n
  simp [frz,h2]
 rw [show af ⟨ch.take 5,pk,pl,tr,bd⟩ chv'=.agg [chv',.int .i64 pk,.int .i64 pl,.int .i64 tr,.int .i64 bd] from rfl]
 obtain ⟨t,ht⟩:∃t,t=af ⟨ch,pk,pl,tr,bd⟩ chv:=⟨_,rfl⟩
 rw [<-ht] at bx0 ct ⊢
 unfold F12
 rw [aN _ _ rfl]
 simp [DS,ct,bx0,bx2,fA,ld,hlen,mn,sx,st,lT,sT,r2,fT,-ag,-ab,-az,-aa,-aS,-aq,-ce,-dq,-frz,-cellsOf]
theorem Lr (h:TA Try.prog (n+2) 51 x):∃y:Int × Int,x=chA y/\inI y.1/\inI y.2:=by
 obtain ⟨ls,rfl,hc,hl⟩:=TA.agg (show q7 Try.prog 51=true by kernel_rfl) h
 unfold TC at hc
 rw [Try.underlying51] at hc
 simp only [TCs] at hc
 obtain ⟨a,_,rfl,ha,la,b,_,rfl,hb,lb,rfl⟩:=hc
 simp only [TC,Try.underlying3] at ha hb
 obtain ⟨z,rfl,hz⟩:=ha
 obtain ⟨w,rfl,hw⟩:=hb
 exact ⟨(z,w),rfl,hz,hw⟩
theorem Dt (h:TA Try.prog (n+2) 48 x):∃y:cO,x=aL y/\inI y.1/\inI y.2:=by
 obtain ⟨ls,rfl,hc,hl⟩:=TA.agg (show q7 Try.prog 48=true by kernel_rfl) h
 unfold TC at hc
 rw [Try.underlying48] at hc
 simp only [TCs] at hc
 obtain ⟨a,_,rfl,ha,la,b,_,rfl,hb,lb,rfl⟩:=hc
 simp only [TC,Try.underlying3] at ha hb
 obtain ⟨z,rfl,hz⟩:=ha
 obtain ⟨w,rfl,hw⟩:=hb
 exact ⟨(z,w),rfl,hz,hw⟩
theorem zY {raw:AV} {n:Nat} (h:TA Try.prog (n+3) 26 raw):∃ys:List cO,SlA 2 (ys.map aL) raw:=by
 obtain ⟨es,h1,h2,h3⟩:=TA.sl Try.underlying26 h
 rw [show Try.prog.cellsOf 48=2 by kernel_rfl] at h1
 obtain ⟨ys,rfl,hy⟩:=eu (f:=aL) (p:=fun y=>inI y.1/\inI y.2) fun x hx=>Dt (n:=n) (h3 x hx)
 exact ⟨ys,h1⟩
theorem Dr {n:Nat} (h:TA Try.prog (n+4) 24 x):∃T chv,x=af T chv/\SlA 2 (T.ch.map chA) chv:=by
 obtain ⟨ls,rfl,hc,hl⟩:=TA.agg (show q7 Try.prog 24=true by kernel_rfl) h
 rw [show n+4=(n+3)+1 from rfl] at hc
 unfold TC at hc
 rw [Try.underlying24] at hc
 simp only [TCs] at hc
 obtain ⟨a,_,rfl,ha,la,b,_,rfl,hb,lb,c,_,rfl,hc,lc,d,_,rfl,hd,ld,e,_,rfl,he,le,rfl⟩:=hc
 rw [show Try.prog.cellsOf 22=1 by kernel_rfl] at la
 obtain ⟨chv,rfl⟩:=List.length_eq_one_iff.1 la
 obtain ⟨es,h1,h2,h3⟩:=TA.sl Try.underlying22 (n:=n+2) (a:=chv) ⟨[chv],ha,by rw [show Try.prog.cellsOf 22=1 by kernel_rfl]; rfl,by
  unfold gm
  rw [RK (by rw [show q7 Try.prog 22=false by kernel_rfl]; simp)]; rfl⟩
 rw [show Try.prog.cellsOf 51=2 by kernel_rfl] at h1
 obtain ⟨ys,rfl,hy⟩:=eu (f:=chA) (p:=fun y=>inI y.1/\inI y.2) fun x hx=>Lr (n:=n) (h3 x hx)
 simp only [TC,Try.underlying3] at hb hc hd he
 obtain ⟨z1,rfl,_⟩:=hb
 obtain ⟨z2,rfl,_⟩:=hc
 obtain ⟨z3,rfl,_⟩:=hd
 obtain ⟨z4,rfl,_⟩:=he
 exact ⟨⟨ys,z1,z2,z3,z4⟩,chv,rfl,h1⟩
theorem oh {T:aT} {rd:List Int} {free:Int}:((cu T rd free lost).getD []).length<=10:=by
 unfold cu
 split
 ·split
  ·exact qJ
  ·split
   ·simp
   ·have h:=qJ (T:=jN T (lost-1).toNat) (rd:=jS rd (lost-1).toNat) (free:=free)
    cases hd:bV (jN T (lost-1).toNat) (jS rd (lost-1).toNat) free with
    | none=>simp
    | some d=>
     rw [hd] at h
     simpa using h
 ·simp
def fs3:List (FuncId × aJ):=(12,aG 4 F12) :: (15,aG 4 M15) :: (18,aG 4 M18) :: fsL
@[simp] theorem Rc:aE fs3 11=some (aG 4 M11):=rfl
@[simp] theorem Rb:aE fs3 12=some (aG 4 F12):=rfl
@[simp] theorem Ra:aE fs3 13=some (aG 4 M13):=rfl
@[simp] theorem Q9:aE fs3 14=some (cJ 4 IB):=rfl
@[simp] theorem Q8:aE fs3 15=some (aG 4 M15):=rfl
@[simp] theorem Q7:aE fs3 16=some (aG 4 M16):=rfl
@[simp] theorem Q6:aE fs3 17=some (aG 4 M17):=rfl
@[simp] theorem Q5:aE fs3 18=some (aG 4 M18):=rfl
theorem JE:∀f M,aE fs3 f=some M->au Try.prog GC f M:=ai (au.of_pure GD 4) (ai (au.of_pure JA 4) (ai (au.of_pure Jz 4) JD))
theorem xI {D:ac} {T:aT} (hcv:SlA 2 (T.ch.map chA) chv) (hTl:T.ch.length<=200) (hr:SlA 1 (aj rd) rv) (hrl:rd.length<=200) (x:XC)
  (l0:ab true 5 D (.ptr 0 0 0)=some (af T chv)) (l2:ab true 5 D (.ptr 2 0 0)=some x.tv) {v9 sv ev:AV} {i:Nat} (hi:i<4) {l:List cO} (hl:l.length<=200) {N:Nat} (ix:ae 1 D sv (.int .i64 (i:Int))=some (.ptr N i 0)) (le:ab false 1 D (.ptr N i 0)=some ev) (fe:frz D 4 ev=.fs 2 (l.map aL)\/(frz D 4 ev=.nilS/\l=[])) :
  run (aw GC fs3) 300 [.code mZ] (jP rv (.int .i64 free) (.ptr 0 0 0) v9 (.ptr 2 0 0) x.rv (.int .i64 x.F) sv (.int .i64 4) (.int .i64 (i:Int))) D=some (.normal (jP rv (.int .i64 free) (.ptr 0 0 0) v9 (.ptr 2 0 0) x.rv (.int .i64 x.F) sv (.int .i64 4) (.int .i64 ((i+1:Nat):Int))) D):=by
 obtain ⟨w,hw⟩:∃w,w=frz D 4 ev:=⟨_,rfl⟩
 have hsw:SlA 2 (l.map aL) w:=by
  rw [hw]
  rcases fe with h | ⟨h,rfl⟩
  ·exact .inr h
  ·exact .inl ⟨h,rfl⟩
 have m17:=s4 hcv hTl hr hrl free hsw hl
 have m18:=Ge hcv hTl hr hrl free hsw hl
 have xrl:x.R.length<=200:=x.Rl
 have k17:=s4 x.chS x.chl x.rvS xrl x.F hsw hl
 have k18:=Ge x.chS x.chl x.rvS xrl x.F hsw hl
 have k17:M17 [x.tv,x.rv,.int .i64 x.F,w]=some (Cx (fP x.T x.R x.F l)):=k17
 have k18:M18 [x.tv,x.rv,.int .i64 x.F,w]=some (Cx (fP x.T x.R x.F l)):=k18
 have ft:=fun A=>aK (T:=T) (fun A n=>hcv.frz (A:=A) n) A 3
 have tn:bu 4 (af T chv)=true:=bC (fun n=>hcv.noRef n) 3
 have fr:∀A n,frz A n rv=rv:=fun A n=>hr.frz n
 have rn:∀n,bu n rv=true:=fun n=>hr.noRef n
 have fx:∀A,frz A 4 x.tv=x.tv:=x.tfrz
 have fxr:∀A n,frz A n x.rv=x.rv:=x.rfrz
 have xn:=x.tref
 have xrn:=x.rref
 have wn:bu 4 w=true:=hsw.noRef 4
 have b0:=a9 i 4 .i64
 rw [RE hi] at b0
 have b0:ag .lss (.int .i64 (i:Int)) (.int .i64 4)=some (.bool true):=b0
 have b1:=aV i (by omega)
 unfold Cx at m17 m18 k17 k18
 generalize (fP T rd free l).getD 0=r1 at *
 generalize (fP T rd free l).isSome=r2 at *
 generalize (fP x.T x.R x.F l).getD 0=r3 at *
 generalize (fP x.T x.R x.F l).isSome=r4 at *
 have e1:=cB r1 r1
 rw [RD (by simp)] at e1
 have e3:=cB r3 r3
 rw [RD (by simp)] at e3
 clear hcv hr hsw fe
 obtain ⟨i1,hi1⟩:∃j,j=i+1:=⟨_,rfl⟩
 rw [<-hi1] at b1 ⊢
 obtain ⟨iz,hiz⟩:∃z:Int,z=(i:Int):=⟨_,rfl⟩
 rw [<-hiz] at b0 b1 ix ⊢
 generalize af T chv=TV at *
 generalize x.tv=XT at *
 generalize x.rv=XR at *
 generalize x.F=XF at *
 cases r2 <;> cases r4 <;> simp [mZ,b0,b1,ix,le,l0,l2,ft,tn,fr,rn,fx,fxr,xn,xrn,<-hw,m17,m18,k17,k18,e1,e3,aM,-aS,-ab,-aq,-frz,-cellsOf,-ag,-ae]
end Tr
namespace Tr
open Go
open Cy (GC aM bc aA dH)
open Clu (aT aY af chA aK bC aZ bD cB bA bK bL cK)
theorem Nw {D:ac} {T:aT} {free:Int} (hcv:SlA 2 (T.ch.map chA) chv) (hTl:T.ch.length<=200) (hr:SlA 1 (aj rd) rv) (hrl:rd.length<=200) (x:XC)
  (l0:ab true 5 D (.ptr 0 0 0)=some (af T chv)) (l2:ab true 5 D (.ptr 2 0 0)=some x.tv) {v9:AV} {N:Nat} {e0 e1 e2 e3:AV} (hD:D[N]?=some (.row 1 false [e0,e1,e2,e3]))
  {a b c d:List cO} (ha:a.length<=200) (hb:b.length<=200) (hc:c.length<=200) (hd:d.length<=200) (s0:SlA 2 (a.map aL) e0) (s1:SlA 2 (b.map aL) e1) (s2:SlA 2 (c.map aL) e2) {M:Nat} {g:Bool} (h3:e3=.sl M 0 d.length) (hM:D[M]?=some (.row 2 g (d.map aL))) :
  bM (evC (aw GC fs3) 300 mZ) i6 300 (jP rv (.int .i64 free) (.ptr 0 0 0) v9 (.ptr 2 0 0) x.rv (.int .i64 x.F) (.sl N 0 4) (.int .i64 4) (.int .i64 0)) D=some (.exit 0 ((jP rv (.int .i64 free) (.ptr 0 0 0) v9 (.ptr 2 0 0) x.rv (.int .i64 x.F) (.sl N 0 4) (.int .i64 4) (.int .i64 4)).set 34 (.bool false)) D):=by
 have ix:∀i:Nat,i<4->ae 1 D (.sl N 0 4) (.int .i64 (i:Int))=some (.ptr N i 0):=fun i hi=>by simp [ae,hD]; omega
 have hfz:∀ {e:AV} {l:List cO},SlA 2 (l.map aL) e->frz D 4 e=.fs 2 (l.map aL)\/(frz D 4 e=.nilS/\l=[]):=fun {e l} h=>by
  rw [h.frz 4]
  rcases h with ⟨h1,h2⟩ | h
  ·exact .inr ⟨h1,Tw.1 h2⟩
  ·exact .inl h
 have sc:∀ {e:AV} {l:List cO},SlA 2 (l.map aL) e->cA e 1 0 false 1=some e:=fun {e l} h=>by
  rcases h with ⟨rfl,_⟩ | rfl <;> rfl
 have le0:ab false 1 D (.ptr N 0 0)=some e0:=by simp only [ab,hD]; exact sc s0
 have le1:ab false 1 D (.ptr N 1 0)=some e1:=by simp only [ab,hD]; exact sc s1
 have le2:ab false 1 D (.ptr N 2 0)=some e2:=by simp only [ab,hD]; exact sc s2
 have le3:ab false 1 D (.ptr N 3 0)=some e3:=by simp only [ab,hD]; rw [h3]; rfl
 have r0:=xI hcv hTl hr hrl x l0 l2 (v9:=v9) (free:=free) (i:=0) (by omega) ha (ix 0 (by omega)) le0 (hfz s0)
 have r1:=xI hcv hTl hr hrl x l0 l2 (v9:=v9) (free:=free) (i:=1) (by omega) hb (ix 1 (by omega)) le1 (hfz s1)
 have r2:=xI hcv hTl hr hrl x l0 l2 (v9:=v9) (free:=free) (i:=2) (by omega) hc (ix 2 (by omega)) le2 (hfz s2)
 have r3:=xI hcv hTl hr hrl x l0 l2 (v9:=v9) (free:=free) (i:=3) (by omega) hd (ix 3 (by omega)) le3 (.inl (by rw [h3]; exact qq hM))
 clear le0 le1 le2 le3 s0 s1 s2 ix hfz sc
 have r0:run (aw GC fs3) 300 [.code mZ] (jP rv (.int .i64 free) (.ptr 0 0 0) v9 (.ptr 2 0 0) x.rv (.int .i64 x.F) (.sl N 0 4) (.int .i64 4) (.int .i64 0)) D=some (.normal (jP rv (.int .i64 free) (.ptr 0 0 0) v9 (.ptr 2 0 0) x.rv (.int .i64 x.F) (.sl N 0 4) (.int .i64 4) (.int .i64 1)) D):=r0
 have r1:run (aw GC fs3) 300 [.code mZ] (jP rv (.int .i64 free) (.ptr 0 0 0) v9 (.ptr 2 0 0) x.rv (.int .i64 x.F) (.sl N 0 4) (.int .i64 4) (.int .i64 1)) D=some (.normal (jP rv (.int .i64 free) (.ptr 0 0 0) v9 (.ptr 2 0 0) x.rv (.int .i64 x.F) (.sl N 0 4) (.int .i64 4) (.int .i64 2)) D):=r1
 have r2:run (aw GC fs3) 300 [.code mZ] (jP rv (.int .i64 free) (.ptr 0 0 0) v9 (.ptr 2 0 0) x.rv (.int .i64 x.F) (.sl N 0 4) (.int .i64 4) (.int .i64 2)) D=some (.normal (jP rv (.int .i64 free) (.ptr 0 0 0) v9 (.ptr 2 0 0) x.rv (.int .i64 x.F) (.sl N 0 4) (.int .i64 4) (.int .i64 3)) D):=r2
 have r3:run (aw GC fs3) 300 [.code mZ] (jP rv (.int .i64 free) (.ptr 0 0 0) v9 (.ptr 2 0 0) x.rv (.int .i64 x.F) (.sl N 0 4) (.int .i64 4) (.int .i64 3)) D=some (.normal (jP rv (.int .i64 free) (.ptr 0 0 0) v9 (.ptr 2 0 0) x.rv (.int .i64 x.F) (.sl N 0 4) (.int .i64 4) (.int .i64 4)) D):=r3
 have b0:ag .lss (.int .i64 4) (.int .i64 4)=some (.bool false):=by rw [bK]; rfl
 generalize hst:x.rv=XR at *
 generalize x.F=XF at *
 have cl:∀(v33:AV),clear i6 (jP rv (.int .i64 free) (.ptr 0 0 0) v9 (.ptr 2 0 0) XR (.int .i64 XF) (.sl N 0 4) (.int .i64 4) v33)=jP rv (.int .i64 free) (.ptr 0 0 0) v9 (.ptr 2 0 0) XR (.int .i64 XF) (.sl N 0 4) (.int .i64 4) v33:=fun v33=>Lo
 rw [show (bM (evC (aw GC fs3) 300 mZ) i6 300)=bM (evC (aw GC fs3) 300 mZ) i6 (295+1+1+1+1+1) from rfl]
 rw [aD,cl,r0]
 simp only
 rw [aD,cl,r1]
 simp only
 rw [aD,cl,r2]
 simp only
 rw [aD,cl,r3]
 simp only
 rw [aD,cl]
 simp [mZ,b0,-ag]
theorem ev3 {T:aT} {rdv:AV} {rd:List Int} {l:List cO} {x:XC} {yv:AV} (free lost:Int) (hcv:SlA 2 (T.ch.map chA) chv) (hrd:SlA 1 (aj rd) rdv) (hlv:SlA 2 (l.map aL) lv) (h:XV x yv rv) :
  evP (aw GC fs3) 300 mf3 1 [af T chv,rdv,.int .i64 free,lv,.int .i64 lost,x.A yv rv]=some (.bool true):=by
 obtain ⟨cv5,h5,f12⟩:=Mt hcv
 obtain ⟨T5,hT5⟩:∃T',T'=({T with ch:=T.ch.take 5}:aT):=⟨_,rfl⟩
 have h5:SlA 2 (T5.ch.map chA) cv5:=by rw [hT5]; exact h5
 have hl5:T5.ch.length<=200:=by rw [hT5]; simp; omega
 rw [<-hT5] at f12
 obtain ⟨r5,c5,hr5⟩:=PP hrd 5
 have hr5:SlA 1 (aj (rd.take 5)) r5:=by
  have e:(aj rd).take 5=aj (rd.take 5):=by unfold aj; rw [List.map_take]
  rw [<-e]; exact hr5
 obtain ⟨R5,hR5⟩:∃R,R=rd.take 5:=⟨_,rfl⟩
 have hR5l:R5.length<=200:=by rw [hR5]; simp; omega
 rw [<-hR5] at hr5
 obtain ⟨l12,c12,hl12⟩:=PP hlv 12
 rw [<-List.map_take] at hl12
 obtain ⟨L,hL⟩:∃L,L=l.take 12:=⟨_,rfl⟩
 have hLl:L.length<=200:=by rw [hL]; simp; omega
 rw [<-hL] at hl12
 have hrl:=hrd.len
 have hll:=hlv.len
 have m5:dq false (.int .i64 ((aj rd).length:Int)) [.int .i64 5]=_:=HK (aj rd).length 5
 have m12:dq false (.int .i64 ((l.map aL).length:Int)) [.int .i64 12]=_:=HK (l.map aL).length 12
 generalize min (aj rd).length 5=q5 at *
 generalize min (l.map aL).length 12=q12 at *
 generalize (aj rd).length=n5 at *
 generalize (l.map aL).length=n12 at *
 have m13:=Mg h
 have xrl:x.R.length<=200:=x.Rl
 obtain ⟨av,m14,sa⟩:=C4 (free:=free) (lost:=lost) h5 hr5 hl5 hR5l
 obtain ⟨bv,m15,sb⟩:=Gf (free:=free) (lost:=lost) h5 hl5 hr5 hR5l
 obtain ⟨dv,k14,sd⟩:=C4 (free:=x.F) (lost:=lost) x.chS x.rvS x.chl xrl
 obtain ⟨fv,k15,sf⟩:=Gf (free:=x.F) (lost:=lost) x.chS x.chl x.rvS xrl
 have k14:IB [x.tv,x.rv,.int .i64 x.F,.int .i64 lost]=_:=k14
 have k15:M15 [x.tv,x.rv,.int .i64 x.F,.int .i64 lost]=_:=k15
 have q1:=oh (T:=T5) (rd:=R5) (free:=free) (lost:=lost)
 have q2:=oh (T:=x.T) (rd:=x.R) (free:=x.F) (lost:=lost)
 generalize (cu T5 R5 free lost).isSome=o1 at *
 generalize (cu x.T x.R x.F lost).isSome=o2 at *
 generalize (cu T5 R5 free lost).getD []=d1 at *
 generalize (cu x.T x.R x.F lost).getD []=d2 at *
 have m16:=oq sa sb (by omega) (by omega)
 have k16:=oq sd sf (by omega) (by omega)
 rw [RE rfl] at m16 k16
 have ft:=fun A=>aK (T:=T) (fun A n=>hcv.frz (A:=A) n) A 3
 have tn:bu 4 (af T chv)=true:=bC (fun n=>hcv.noRef n) 3
 have f5:=fun A=>aK (T:=T5) (fun A n=>h5.frz (A:=A) n) A 3
 have n5r:bu 4 (af T5 cv5)=true:=bC (fun n=>h5.noRef n) 3
 have fx:∀A,frz A 4 x.tv=x.tv:=x.tfrz
 have fxr:∀A n,frz A n x.rv=x.rv:=x.rfrz
 have xn:=x.tref
 have xrn:=x.rref
 have fX:=LH h
 have nX:=LG h
 have fr:∀A n,frz A n r5=r5:=fun A n=>hr5.frz n
 have rn:∀n,bu n r5=true:=fun n=>hr5.noRef n
 have fa:∀A n,frz A n av=av:=fun A n=>sa.frz n
 have fb:∀A n,frz A n bv=bv:=fun A n=>sb.frz n
 have fd:∀A n,frz A n dv=dv:=fun A n=>sd.frz n
 have ff:∀A n,frz A n fv=fv:=fun A n=>sf.frz n
 have na:∀n,bu n av=true:=fun n=>sa.noRef n
 have nb:∀n,bu n bv=true:=fun n=>sb.noRef n
 have nd:∀n,bu n dv=true:=fun n=>sd.noRef n
 have nf:∀n,bu n fv=true:=fun n=>sf.noRef n
 have bx0:aS 5 (af T chv) []=some (.ptr 0 0 0,[.row 5 false [af T chv]]):=rfl
 have bx1:aS 6 (x.A yv rv) [.row 5 false [af T chv]]=some (.ptr 1 0 0,[.row 5 false [af T chv],.row 6 false [x.A yv rv]]):=rfl
 have ld0:ab true 5 [.row 5 false [af T chv],.row 6 false [x.A yv rv]] (.ptr 0 0 0)=some (af T chv):=rfl
 have st0:az 5 [.row 5 false [af T chv],.row 6 false [x.A yv rv]] (.ptr 0 0 0) (af T5 cv5)=some [.row 5 false [af T5 cv5],.row 6 false [x.A yv rv]]:=by
  rcases h5 with ⟨rfl,_⟩ | rfl <;> simp [az,bq,af]
 have ld1:ab true 6 [.row 5 false [af T5 cv5],.row 6 false [x.A yv rv]] (.ptr 1 0 0)=some (x.A yv rv):=rfl
 have bx2:aS 5 zT [.row 5 false [af T5 cv5],.row 6 false [x.A yv rv]]=some (.ptr 2 0 0,[.row 5 false [af T5 cv5],.row 6 false [x.A yv rv],.row 5 false [zT]]):=rfl
 have st2:az 5 [.row 5 false [af T5 cv5],.row 6 false [x.A yv rv],.row 5 false [zT]] (.ptr 2 0 0) x.tv=some [.row 5 false [af T5 cv5],.row 6 false [x.A yv rv],.row 5 false [x.tv]]:=by
  have et:x.tv=.agg [x.ch,.int .i64 x.T.pick,.int .i64 x.T.place,.int .i64 x.T.travel,.int .i64 x.T.blades]:=rfl
  obtain ⟨c1,c2⟩:=jX x.chS
  rw [et]
  rcases x.chS with ⟨h1,_⟩ | h1 <;> rw [h1] <;> simp [az,bq]
 obtain ⟨D0,hD0⟩:∃D:ac,D=[.row 5 false [af T5 cv5],.row 6 false [x.A yv rv],.row 5 false [x.tv]]:=⟨_,rfl⟩
 have hD0l:D0.length=3:=by rw [hD0]; rfl
 have l0:ab true 5 D0 (.ptr 0 0 0)=some (af T5 cv5):=by rw [hD0]; rfl
 have l2:ab true 5 D0 (.ptr 2 0 0)=some x.tv:=by rw [hD0]; rfl
 have g0:D0[0]?=some (.row 5 false [af T5 cv5]):=by rw [hD0]; rfl
 have g2:D0[2]?=some (.row 5 false [x.tv]):=by rw [hD0]; rfl
 rw [<-hD0] at st2
 have bs0:aI 2 [] D0=some (.sl 3 0 0,D0++[.row 2 false []]):=by simp [aI,hD0l]
 have ap1:=gW (esz:=2) (bytes:=16) (by omega) (by omega) hD0l.symm sf (by rw [RN]; omega)
 obtain ⟨id,g,B,ap2,hBi,hBj,hid,hBl⟩:=mU (esz:=2) (bytes:=16) (by omega) (by omega) hD0l.symm (xs:=d2.map aL) hl12 (by rw [RN,RN]; omega)
 rw [<-SH] at hBi
 rw [RN,RN,<-RU] at ap2
 rw [RN] at ap1
 have idB:id<B.length:=(Rv.1 hBi).1
 have lB0:ab true 5 B (.ptr 0 0 0)=some (af T5 cv5):=by
  have:B[0]?=some (.row 5 false [af T5 cv5]):=by rw [hBj 0 (by omega)]; exact g0
  simp only [ab,this]; rfl
 obtain ⟨D,hD⟩:∃D,D=B++[Ent.row 1 false [l12,bv,fv,.sl id 0 (d2++L).length]]:=⟨_,rfl⟩
 have bs1:aI 1 [l12,bv,fv,.sl id 0 (d2++L).length] B=some (.sl B.length 0 4,D):=by
  rw [hD]
  rcases hl12 with ⟨h1,_⟩ | h1 <;> rcases sb with ⟨h2,_⟩ | h2 <;> rcases sf with ⟨h3,_⟩ | h3 <;> rw [h1,h2,h3] <;> rfl
 have hDj:∀j,j<B.length->D[j]?=B[j]?:=fun j hj=>by rw [hD,RC hj]
 have hB3:3<B.length:=by omega
 have lD0:ab true 5 D (.ptr 0 0 0)=some (af T5 cv5):=by
  have:D[0]?=some (.row 5 false [af T5 cv5]):=by rw [hDj 0 (by omega),hBj 0 (by omega)]; exact g0
  simp only [ab,this]; rfl
 have lD2:ab true 5 D (.ptr 2 0 0)=some x.tv:=by
  have:D[2]?=some (.row 5 false [x.tv]):=by rw [hDj 2 (by omega),hBj 2 (by omega)]; exact g2
  simp only [ab,this]; rfl
 have lp:=Nw h5 hl5 hr5 hR5l x lD0 lD2 (v9:=.bool true) (free:=free) (N:=B.length) (e0:=l12) (e1:=bv) (e2:=fv) (e3:=.sl id 0 (d2++L).length) (by rw [hD,RS (RR _),Tq]; rfl) hLl (by omega) (by omega) (d:=d2++L) (by rw [RU,hL,SM]; omega) hl12 sb sf (M:=id) (g:=g) rfl (by rw [hDj id idB]; exact hBi)
 have ln4:∀N:Nat,aq (.sl N 0 4)=some (.int .i64 4):=fun _=>rfl
 have ct:(cellsOf (af T chv)).length=5:=rfl
 have ct5:(cellsOf (af T5 cv5)).length=5:=rfl
 have cX:(cellsOf (x.A yv rv)).length=6:=rfl
 have cx5:(cellsOf x.tv).length=5:=rfl
 unfold y9 at m13
 clear hcv hrd hlv h5 hr5 hl12 sa sb sd sf hBi hBj hD hDj hBl hD0 g0 g2 hT5 hR5 hL lB0
 generalize (d2++L).length=LN at *
 generalize D0++[Ent.row 2 false []]=D1 at *
 generalize D0++[Ent.dead,Ent.row 2 false (d2.map aL)]=D2 at *
 generalize [Ent.row 5 false [af T5 cv5],.row 6 false [x.A yv rv],.row 5 false [zT]]=P3 at *
 generalize [Ent.row 5 false [af T5 cv5],.row 6 false [x.A yv rv]]=P2 at *
 generalize [Ent.row 5 false [af T chv],.row 6 false [x.A yv rv]]=P1 at *
 generalize [Ent.row 5 false [af T chv]]=P0 at *
 generalize d2.length=DL at *
 generalize af T chv=TV at *
 generalize af T5 cv5=TV5 at *
 generalize x.A yv rv=XA at *
 generalize x.tv=XT at *
 generalize x.rv=XR at *
 generalize x.F=XF at *
 generalize B.length=BL at *
 rw [aN _ _ rfl]
 cases o1 <;> cases o2 <;> simp [mf3,bx0,bx1,bx2,ld0,st0,ld1,st2,l0,l2,bs0,ap1,ap2,bs1,hrl,hll,m5,m12,c5,c12,f12,m13,m14,m15,k14,k15,m16,k16,ft,tn,f5,n5r,fx,fxr,xn,xrn,fX,nX,fr,rn,fa,fb,fd,ff,na,nb,nd,nf,ln4,ct,cX,NH lp,aM,bc,-aS,-ab,-az,-aq,-frz,-cellsOf,-ag,-ae,-ce,-dq,-aI]
theorem ev3L (args:List AV) (h:gK Try.prog 8 Try.f3.params.toList args):∃fuel,evP (aw GC fs3) fuel mf3 1 args=some (.bool true):=by
 rw [Try.params3] at h
 obtain ⟨a,r,rfl,h0,h⟩:=h.cons
 obtain ⟨b,r,rfl,h1,h⟩:=h.cons
 obtain ⟨c,r,rfl,h2,h⟩:=h.cons
 obtain ⟨d,r,rfl,h3,h⟩:=h.cons
 obtain ⟨e,r,rfl,h4,h⟩:=h.cons
 obtain ⟨f,r,rfl,h6,h⟩:=h.cons
 obtain rfl:=h.nil
 obtain ⟨T,chv,rfl,hcv⟩:=Dr (n:=4) h0
 obtain ⟨rd,hrd,_,_⟩:=xV (n:=7) h1
 obtain ⟨z,rfl,_⟩:=TA.int Try.underlying3 h2
 obtain ⟨l,hl⟩:=zY (n:=5) h3
 obtain ⟨z2,rfl,_⟩:=TA.int Try.underlying3 h4
 obtain ⟨x,yv,rv,rfl,hx⟩:=Ep (n:=3) h6
 exact ⟨300,ev3 z z2 hcv hrd hl hx⟩
end Tr
end Go.Proofs.Ytkcjhljbgjpklaa
