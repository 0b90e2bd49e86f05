import Derived.Test.YtkcjhljbgjpklaaGreatVZ08
import Derived.Test.YtkcjhljbgjpklaaGreatVZ03
import Derived.Test.YtkcjhljbgjpklaaGreatVZ06
import Derived.Test.YtkcjhljbgjpklaaGreatChecked
import Derived.KernelRfl
import Derived.Test.YtkcjhljbgjpklaaGreatVZ05
set_option maxRecDepth 100000
set_option maxHeartbeats 4000000
noncomputable section
namespace Go.Proofs.YtkcjhljbgjpklaaGreat
open Tryz (prog)
variable {A B:ac} {v1 d5 d4 v2 v3 d8 d9 d10 d0 d6 d7 v0 d12 v bv d2 d3 v6 d11 v4 v5 d13 d14 v7 d15 d16 d17 d18 d19 d20 d21 chv a:AV} {E:Env} {fuel i K k n:Nat} {o:Out} {rd b xs:List Int} {pl:List (Nat × List Int)} {free:Int} {os:List (List Int)}
namespace Tr
open Go
open Cy (GC aM aV az)
open Clu (aW aT ai chA aQ aY bK cH bu bP bQ cr)
def Mi:MC:=.r [.a 15,.al 25 0 0] (.cond (.var 25) (.r [.a 9,.a 15,.r 1 1,.e 1 0 2,.b 1 3,.a 7,.m 4 5,.d 3 4,.b 1 7,.m 6 8,.c 16 9] (.r [.a 3,.a 15,.e 1 0 1,.b 1 2,.a 3,.a 15,.r 5 1,.e 1 4 6,.b 1 7,.h 8 1,.ap 26 3 9] (.cond (.var 26) (.region [.a 9,.a 15,.r 1 1,.e 1 0 2,.b 1 3,.a 7,.m 4 5,.c 16 6]) .skip))) .skip)
def Jy:MC:=.r [.a 10,.a 15,.e 1 0 1,.b 1 2,.aj 27 3 0] (.cond (.var 27) (.r [.a 16,.a 1,.a 17,.e 1 1 2,.b 1 3,.bq 0 4,.c 16 5] (.r [.a 9,.a 15,.e 1 0 1,.b 1 2,.a 16,.bq 3 4,.a 1,.a 17,.e 1 6 7,.b 1 8,.d 0 4,.b 1 10,.a 17,.e 2 11 12,.o 1 13,.b 1 14,.m 9 15,.bv 28 5 16] (.cond (.var 28) (.r [.u 5,.g 6] .ret) .skip))) (.region [.a 16,.a 9,.a 10,.a 15,.e 1 2 3,.b 1 4,.e 1 1 5,.b 1 6,.a 7,.m 7 8,.d 0 4,.b 1 10,.a 17,.e 2 11 12,.o 0 13,.b 1 14,.m 9 15,.bq 0 16,.c 16 17]))
def NE:MC:=.r [.a 16,.a 9,.a 15,.e 1 1 2,.b 1 3,.bv 29 0 4] (.cond (.var 29) (.r [.a 9,.a 15,.a 16,.e 1 0 1,.A 1 3 2] (.region [.J 14])) .skip)
def Mh:MC:=.r [.a 10,.a 15,.e 1 0 1,.b 1 2,.Z 3 0,.i 4,.l 9 5,.l 10 5,.l 15 5,.P 1 7 8 5,.z 1 9 5,.P 1 6 10 5,.z 1 11 5,.l 9 5,.l 15 5,.P 1 13 14 5,.z 1 15 5,.l 7 5,.a7 16 17 5,.R 0 4 5,.z 1 19 5,.l 17 5,.P 2 20 21 5,.av 0 22 5,.z 1 23 5,.a7 18 24 5,.R 0 4 5,.z 1 26 5,.l 17 5,.P 2 27 28 5,.av 1 29 5,.z 1 30 5,.a7 25 31 5,.cr 12 32 5,.af 30 5 33] (.cond (.var 30) (.r [.a 9,.a 10,.a 15,.e 1 1 2,.b 1 3,.a 9,.a 15,.e 1 5 6,.b 1 7,.a 7,.ai 8 9,.d 0 4,.b 1 11,.a 17,.e 2 12 13,.o 0 14,.b 1 15,.ai 10 16,.d 0 4,.b 1 18,.a 17,.e 2 19 20,.o 1 21,.b 1 22,.ai 17 23,.e 1 0 4,.A 1 25 24] (.region [.J 14])) .skip)
theorem sH:jA=.seq (.r [.a 15,.a 8,.D 24 0 1] (.cond (.var 24) .skip (.exit 6))) (.seq (.seq (.block 7 (.r [.a 2,.d 3 4,.b 1 1,.m 0 2,.c 16 3] (.seq Mi (.r [.a 3,.a 15,.e 1 0 1,.b 1 2,.r 3 1,.c 17 4] (.seq Jy (.seq NE Mh)))))) (.kill [0,5,6,11,12,16,17,18,19,20,21,22,23,24,25,26,27,28,29,30,31,32])) (.region [.a 15,.h 0 1,.c 15 1])):=rfl
def jj:List (FuncId × aJ):=[(65,aE 4 M22)]
@[simp] theorem O2:aD jj 65=some (aE 4 M22):=rfl
theorem wG:∀f M,aD jj f=some M->au prog GC f M:=ag (au.of_pure p9 4) aB
def Bd (K:Nat) (xs:List Int):Prop:=∀j,0<=xs.getD j 0/\xs.getD j 0<=3000000*(K:Int)
theorem Bd.set (h:Bd K xs) {v:Int} (hv:0<=v/\v<=3000000*((K+1:Nat):Int)):Bd (K+1) (xs.set i v):=fun j=>by
 rw [dh]
 split
 ·exact hv
 ·have:=h j; omega
theorem Bd.mono (h:Bd K xs):Bd (K+1) xs:=fun j=>by have:=h j; omega
theorem Bd.set2 (h:Bd K xs) {v:Int} (hv:0<=v/\v<=3000000*(K:Int)):Bd K (xs.set i v):=fun j=>by
 rw [dh]
 split
 ·exact hv
 ·exact h j
structure zg (T:aW) (rd:List Int) (free:Int) (o:List Int):Prop where
 v:aT T
 f:0<=free/\free<=2000000
 r:rd.length=T.ch.length
 rb:∀k,-1<=rd.getD k 0/\rd.getD k 0<=500000
 ob:∀t∈o,1<=t/\t<=T.ch.length
 m:o.length<=10
theorem zg.og {T:aW} {o:List Int} (h:zg T rd free o) (hi:i<o.length):1<=o.getD i 0/\o.getD i 0<=T.ch.length:=by
 rw [Sr,Sq hi]; exact h.ob _ (SC hi)
theorem zg.w {T:aW} {o:List Int} (h:zg T rd free o) (i:Nat) (_hi:i<o.length):0<=(cu T rd free o).hd i/\(cu T rd free o).hd i<=2100000 /\ -1<=(cu T rd free o).dn i/\(cu T rd free o).dn i<=500000/\0<=(cu T rd free o).st i/\(cu T rd free o).st i<=100000:=by
 have hw:=de h.v
 have hc:=dp h.v (o.getD i 0-1).toNat
 have hr:=h.rb (o.getD i 0-1).toNat
 have hb:=nh h.v (o.getD (i-1) 0) (o.getD i 0)
 have hf:=h.f
 unfold cu
 simp only
 refine ⟨?_,?_,?_,?_,by omega,by omega⟩
 ·split <;> omega
 ·split <;> omega
 ·split <;> omega
 ·split <;> omega
theorem GZ {T:aW} {o:List Int} (h:zg T rd free o) {s s':List Int × Bool} (hb:Bd K s.1) (hl:s.1.length=o.length) (hi:i<o.length) (hs:(cu T rd free o).step s i=some s'):Bd (K+1) s'.1/\s'.1.length=o.length:=by
 have hw:=JM T rd free o
 refine ⟨?_,(TP.step_spec hw hl hi hs).1⟩
 obtain ⟨a1,a2,a3,a4,a5,a6⟩:=h.w i hi
 have hpv:0<=TP.pv s.1 i/\TP.pv s.1 i<=3000000*(K:Int):=by
  unfold TP.pv
  split
  ·omega
  ·exact hb _
 have b1:=hb i
 unfold TP.step at hs
 split at hs
 ·split at hs
  ·cases hs
  ·injection hs with hs
   rw [<-hs]
   unfold TP.up
   split
   ·exact hb.set ⟨by omega,by omega⟩
   ·exact hb.mono
 ·injection hs with hs
  have b2:=hb ((cu T rd free o).bf i).toNat
  have u1:Bd (K+1) (TP.up s i (max (TP.pv s.1 i+(cu T rd free o).hd i) (s.1.getD ((cu T rd free o).bf i).toNat 0+(cu T rd free o).dn i))).1:=by
   unfold TP.up
   split
   ·exact hb.set ⟨by omega,by omega⟩
   ·exact hb.mono
  generalize TP.up s i (max (TP.pv s.1 i+(cu T rd free o).hd i) (s.1.getD ((cu T rd free o).bf i).toNat 0+(cu T rd free o).dn i))=s1 at *
  rw [<-hs]
  unfold TP.up
  have c1:=u1 i
  have c2:=u1 ((cu T rd free o).bf i).toNat
  split
  ·refine u1.set2 ⟨by omega,?_⟩
   by_cases hd0:0<=(cu T rd free o).dn i
   ·omega
   ·
    rename_i hn _
    have:(cu T rd free o).dn i=wT T+tmT T (o.getD i 0-1).toNat:=SD hn
    have:=de h.v
    have:=dp h.v (o.getD i 0-1).toNat
    omega
  ·exact u1
def A39 (tv:AV) (xs bs:List Int):ac:=[.row 5 false [tv],.q (ak xs),.q (ak bs)]
theorem lH (tv:AV) (xs bs:List Int):(A39 tv xs bs)[1]?=some (.q (ak xs)):=rfl
theorem ws (tv:AV) (xs bs:List Int):(A39 tv xs bs)[2]?=some (.q (ak bs)):=rfl
theorem GQ (tv:AV) (xs xs' bs:List Int):(A39 tv xs bs).set 1 (.q (ak xs'))=A39 tv xs' bs:=rfl
theorem GP (tv:AV) (xs bs bs':List Int):(A39 tv xs bs).set 2 (.q (ak bs'))=A39 tv xs bs':=rfl
def bfL (o:List Int):List Int:=(List.range o.length).map fun j=>bfK o (o.getD j 0-1) j
theorem C9 (o:List Int):(bfL o).length=o.length:=by simp [bfL]
theorem Da (o:List Int) (h:i<o.length):(bfL o).getD i 0=bfK o (o.getD i 0-1) i:=by
 unfold bfL
 rw [Sr,TQ,T8 h]; rfl
section
variable {T:aW} {chv rv ov:AV} {rd o xs:List Int} {free:Int} {i K:Nat} {ch:Bool} {v13:AV}
theorem pa39 (h:zg T rd free o) (ho:SlA 1 (ak o) ov) (hi:i<o.length) (hx:xs.length=o.length) (hb:Bd K xs) (hK:K<=1000) :
  ∃e25 e26,∀KK,run (aq GC jj) 300 (.code Mi :: KK) (.u :: rv :: .z free :: ov :: .p 0 :: .u :: .u :: .z (wT T) :: .z (o.length:Int) :: .sl 1 0 o.length :: .sl 2 0 o.length :: .u :: .u :: v13 :: .bool ch :: .z (i:Int) :: .z (free+T.travel) :: .u :: .u :: .u :: .u :: .u :: .u :: .u :: .t :: .u :: .u :: .u :: .u :: .u :: .u :: .u :: .u :: []) (A39 (ai T chv) xs (bfL o))=run (aq GC jj) 300 KK (.u :: rv :: .z free :: ov :: .p 0 :: .u :: .u :: .z (wT T) :: .z (o.length:Int) :: .sl 1 0 o.length :: .sl 2 0 o.length :: .u :: .u :: v13 :: .bool ch :: .z (i:Int) :: .z (TP.pv xs i+(cu T rd free o).hd i) :: .u :: .u :: .u :: .u :: .u :: .u :: .u :: .t :: e25 :: e26 :: .u :: .u :: .u :: .u :: .u :: .u :: []) (A39 (ai T chv) xs (bfL o)):=by
 have b1:=bQ (i:Int) 0
 have hw:=de h.v
 have hhd:(cu T rd free o).hd i=if i=0 then free+T.travel else wT T+btw T (o.getD (i-1) 0) (o.getD i 0):=rfl
 by_cases h0:i=0
 ·rw [Ss (by omega)] at b1
  have e:TP.pv xs i+(cu T rd free o).hd i=free+T.travel:=by
   unfold TP.pv
   rw [hhd,SA h0,SA h0,Int.zero_add]
  rw [e]
  refine ⟨.f,.u,fun KK=>?_⟩
  generalize A39 (ai T chv) xs (bfL o)=A at *
  generalize free+T.travel=FT at *
  generalize (o.length:Int)=M at *
  simp [Mi,b1,-af]
 rw [Su (by omega)] at b1
 have hpv:TP.pv xs i=xs.getD (i-1) 0:=SD h0
 rw [hpv,hhd,SD h0]
 have b2:af .sub (.z (i:Int)) (.z 1)=some (.z ((i-1:Nat):Int)):=by rw [bK (by have:=h.m; omega)]; congr 2; omega
 have i1:=cG (n:=o.length) (lH (ai T chv) xs (bfL o)) (show i-1<o.length by omega) .i64
 have d1:=dN (lH (ai T chv) xs (bfL o)) (show i-1<xs.length by omega)
 have hbx:=hb (i-1)
 have hog:=h.og (show i-1<o.length by omega)
 have hn4:=h.v.2.2.2.1
 obtain ⟨z,hz⟩:∃z,z=xs.getD (i-1) 0:=⟨_,rfl⟩
 rw [<-hz] at d1 hbx ⊢
 have b3:af .add (.z z) (.z (wT T))=some (.z (z+wT T)):=aY (by omega)
 have b4:af .add (.z (z+wT T)) (.z T.travel)=some (.z (z+wT T+T.travel)):=aY (by omega)
 obtain ⟨u0,_,_,_,u3⟩:=pN (A:=A39 (ai T chv) xs (bfL o)) (id:=0) (T:=T) (chv:=chv) rfl
 have u03:=u0 3 (by omega)
 have x1:∀j,j<o.length->ae 1 (A39 (ai T chv) xs (bfL o)) ov (.z (j:Int))=some (.fp [.z (o.getD j 0)]):=fun j hj=>by
  have e:o.getD j 0=o[j]:=by rw [Sr,Sq hj]; rfl
  rw [e]
  exact ho.index1 (x:=.z o[j]) (i:=j) (by simp [ak,hj]) rfl rfl .i64
 have y1:=x1 i hi
 have y2:=x1 (i-1) (by omega)
 have l1:∀A z,ab false 1 A (.fp [.z z])=some (.z z):=fun _ _=>rfl
 have b5:af .add (.z (o.getD (i-1) 0)) (.z 1)=some (.z (o.getD (i-1) 0+1)):=aY (by omega)
 have b6:=bu (o.getD i 0) (o.getD (i-1) 0+1)
 have hbt:btw T (o.getD (i-1) 0) (o.getD i 0)=if o.getD i 0=o.getD (i-1) 0+1 then 0 else T.travel:=rfl
 rw [hbt]
 clear x1 u0
 by_cases hc:o.getD i 0=o.getD (i-1) 0+1
 ·rw [Su hc] at b6
  rw [SA hc,UW]
  refine ⟨.t,.t,fun KK=>?_⟩
  generalize A39 (ai T chv) xs (bfL o)=A at *
  generalize free+T.travel=FT at *
  generalize z+wT T+T.travel=z2 at *
  generalize z+wT T=z1 at *
  generalize o.getD (i-1) 0+1=o2 at *
  generalize o.getD (i-1) 0=o1 at *
  generalize o.getD i 0=o0 at *
  generalize ((i-1:Nat):Int)=im at *
  generalize (o.length:Int)=M at *
  simp [Mi,b1,b2,i1,d1,b3,b4,u03,u3,y1,y2,l1,b5,b6,-af,-ab,-ae,-aa]
 ·rw [Ss hc] at b6
  rw [SD hc,<-Int.add_assoc]
  refine ⟨.t,.f,fun KK=>?_⟩
  generalize A39 (ai T chv) xs (bfL o)=A at *
  generalize free+T.travel=FT at *
  generalize z+wT T+T.travel=z2 at *
  generalize z+wT T=z1 at *
  generalize o.getD (i-1) 0+1=o2 at *
  generalize o.getD (i-1) 0=o1 at *
  generalize o.getD i 0=o0 at *
  generalize ((i-1:Nat):Int)=im at *
  generalize (o.length:Int)=M at *
  simp [Mi,b1,b2,i1,d1,b3,b4,u03,u3,y1,y2,l1,b5,b6,-af,-ab,-ae,-aa]
theorem Od (a b:Int):dy true (.z a) [.z b]=some (.z (max a b)):=by
 simp only [dy,gf]
 by_cases h:a<=b
 ·rw [show max a b=b by omega]; simp; omega
 ·rw [show max a b=a by omega]; simp; omega
def l1T (t:TP) (xs:List Int) (i:Nat):Int:=max (TP.pv xs i+t.hd i) (if t.bf i<0 then t.dn i else xs.getD (t.bf i).toNat 0+t.dn i)
theorem pb39 (h:zg T rd free o) (hcv:SlA 2 (T.ch.map chA) chv) (hr:SlA 1 (ak rd) rv) (hi:i<o.length) (hx:xs.length=o.length) (hb:Bd K xs) (hK:K<=1000) {kk:Nat} (hk:o.getD i 0-1=(kk:Int)) (e25 e26:AV) :
  (((cu T rd free o).bf i<0/\max (xs.getD i 0) (l1T (cu T rd free o) xs i) > (cu T rd free o).dn i+(cu T rd free o).st i)->∃ σ B,(∀KK,run (aq GC jj) 300 (.code Jy :: KK) (.u :: rv :: .z free :: ov :: .p 0 :: .u :: .u :: .z (wT T) :: .z (o.length:Int) :: .sl 1 0 o.length :: .sl 2 0 o.length :: .u :: .u :: v13 :: .bool ch :: .z (i:Int) :: .z (TP.pv xs i+(cu T rd free o).hd i) :: .z (kk:Int) :: .u :: .u :: .u :: .u :: .u :: .u :: .t :: e25 :: e26 :: .u :: .u :: .u :: .u :: .u :: .u :: []) (A39 (ai T chv) xs (bfL o))=some (.ret σ B))/\σ[5]?=some .nilS/\σ[6]?=some .f) /\
  (¬ ((cu T rd free o).bf i<0/\max (xs.getD i 0) (l1T (cu T rd free o) xs i) > (cu T rd free o).dn i+(cu T rd free o).st i)->∃e27 e28,∀KK,run (aq GC jj) 300 (.code Jy :: KK) (.u :: rv :: .z free :: ov :: .p 0 :: .u :: .u :: .z (wT T) :: .z (o.length:Int) :: .sl 1 0 o.length :: .sl 2 0 o.length :: .u :: .u :: v13 :: .bool ch :: .z (i:Int) :: .z (TP.pv xs i+(cu T rd free o).hd i) :: .z (kk:Int) :: .u :: .u :: .u :: .u :: .u :: .u :: .t :: e25 :: e26 :: .u :: .u :: .u :: .u :: .u :: .u :: []) (A39 (ai T chv) xs (bfL o))=run (aq GC jj) 300 KK (.u :: rv :: .z free :: ov :: .p 0 :: .u :: .u :: .z (wT T) :: .z (o.length:Int) :: .sl 1 0 o.length :: .sl 2 0 o.length :: .u :: .u :: v13 :: .bool ch :: .z (i:Int) :: .z (l1T (cu T rd free o) xs i) :: .z (kk:Int) :: .u :: .u :: .u :: .u :: .u :: .u :: .t :: e25 :: e26 :: e27 :: e28 :: .u :: .u :: .u :: .u :: []) (A39 (ai T chv) xs (bfL o))):=by
 have hw:=de h.v
 have hn4:=h.v.2.2.2.1
 obtain ⟨a1,a2,a3,a4,a5,a6⟩:=h.w i hi
 have i2:=cG (n:=o.length) (ws (ai T chv) xs (bfL o)) hi .i64
 have d2:=dN (ws (ai T chv) xs (bfL o)) (show i<(bfL o).length by rw [C9]; exact hi)
 rw [Da o hi] at d2
 have hbf:(cu T rd free o).bf i=bfK o (o.getD i 0-1) i:=rfl
 have hdn:(cu T rd free o).dn i=if bfK o (o.getD i 0-1) i<0 then rd.getD (o.getD i 0-1).toNat 0 else wT T+tmT T (o.getD i 0-1).toNat:=rfl
 have hst:(cu T rd free o).st i=syT T (o.getD i 0-1).toNat:=rfl
 have hbd:=wc o (o.getD i 0-1) i
 have hog:=h.og hi
 have hkl:kk<rd.length:=by rw [h.r]; omega
 rw [<-hbf] at d2 hdn hbd
 rw [hk,SM] at hdn hst
 unfold l1T
 have b1:=bP ((cu T rd free o).bf i) 0
 have hpvb:0<=TP.pv xs i/\TP.pv xs i<=3000000*(K:Int):=by
  unfold TP.pv
  split
  ·omega
  ·exact hb _
 obtain ⟨u0,u1,_,_,u3⟩:=pN (A:=A39 (ai T chv) xs (bfL o)) (id:=0) (T:=T) (chv:=chv) rfl
 have u00:=u0 0 (by omega)
 have hc:=xf hcv (k:=kk) (by rw [<-h.r]; exact hkl) (A39 (ai T chv) xs (bfL o)) .i64
 have hch:=dp h.v kk
 have y0:∀A u v,aa 0 A (.fp [u,v])=some (.fp [u,v]):=fun _ _ _=>rfl
 have y1:∀A u v,aa 1 A (.fp [u,v])=some (.fp [v]):=fun _ _ _=>rfl
 have z0:∀A z v,ab false 1 A (.fp [.z z,v])=some (.z z):=fun _ _ _=>rfl
 have z1:∀A z,ab false 1 A (.fp [.z z])=some (.z z):=fun _ _=>rfl
 obtain ⟨b,hbb⟩:∃b,b=(cu T rd free o).bf i:=⟨_,rfl⟩
 rw [<-hbb] at d2 hdn hbd b1 ⊢
 obtain ⟨l0,hl0⟩:∃l0,l0=TP.pv xs i+(cu T rd free o).hd i:=⟨_,rfl⟩
 have hl0b:0<=l0/\l0<=3100000000:=by omega
 rw [<-hl0]
 by_cases hn:b<0
 ·rw [Su hn] at b1
  rw [SA hn] at hdn ⊢
  have x1:ae 1 (A39 (ai T chv) xs (bfL o)) rv (.z (kk:Int))=some (.fp [.z (rd.getD kk 0)]):=by
   have e:rd.getD kk 0=rd[kk]:=by rw [Sr,Sq hkl]; rfl
   rw [e]
   exact hr.index1 (x:=.z rd[kk]) (i:=kk) (by simp [ak,hkl]) rfl rfl .i64
  rw [<-hdn] at x1
  have m1:=Od l0 ((cu T rd free o).dn i)
  have i1:=cG (n:=o.length) (lH (ai T chv) xs (bfL o)) hi .i64
  have d1:=dN (lH (ai T chv) xs (bfL o)) (show i<xs.length by omega)
  have m2:=Od (xs.getD i 0) (max l0 ((cu T rd free o).dn i))
  have b2:af .add (.z ((cu T rd free o).dn i)) (.z (syT T kk))=some (.z ((cu T rd free o).dn i+(cu T rd free o).st i)):=by rw [hst]; exact aY (by omega)
  have b3:=bQ (max (xs.getD i 0) (max l0 ((cu T rd free o).dn i))) ((cu T rd free o).dn i+(cu T rd free o).st i)
  clear u0
  refine ⟨fun hh=>?_,fun hh=>?_⟩
  ·rw [Su hh.2] at b3
   refine ⟨(.u :: rv :: .z free :: ov :: .p 0 :: .nilS :: .f :: .z (wT T) :: .z (o.length:Int) :: .sl 1 0 o.length :: .sl 2 0 o.length :: .u :: .u :: v13 :: .bool ch :: .z (i:Int) :: .z (max l0 ((cu T rd free o).dn i)) :: .z (kk:Int) :: .u :: .u :: .u :: .u :: .u :: .u :: .t :: e25 :: e26 :: .t :: .t :: .u :: .u :: .u :: .u :: []),A39 (ai T chv) xs (bfL o),fun KK=>?_,rfl,rfl⟩
   generalize A39 (ai T chv) xs (bfL o)=A at *
   generalize max (xs.getD i 0) (max l0 ((cu T rd free o).dn i))=q1 at *
   generalize max l0 ((cu T rd free o).dn i)=q2 at *
   generalize (cu T rd free o).dn i+(cu T rd free o).st i=q3 at *
   generalize xs.getD i 0=xi at *
   generalize (o.length:Int)=M at *
   simp [Jy,i2,d2,b1,x1,z1,m1,i1,d1,m2,u00,u1,hc,y1,b2,b3,-af,-ab,-ae,-aa,-dy,-gf]
  ·rw [Ss (fun k=>hh ⟨hn,k⟩)] at b3
   refine ⟨.t,.f,fun KK=>?_⟩
   generalize A39 (ai T chv) xs (bfL o)=A at *
   generalize max (xs.getD i 0) (max l0 ((cu T rd free o).dn i))=q1 at *
   generalize max l0 ((cu T rd free o).dn i)=q2 at *
   generalize (cu T rd free o).dn i+(cu T rd free o).st i=q3 at *
   generalize xs.getD i 0=xi at *
   generalize (o.length:Int)=M at *
   simp [Jy,i2,d2,b1,x1,z1,m1,i1,d1,m2,u00,u1,hc,y1,b2,b3,-af,-ab,-ae,-aa,-dy,-gf]
 ·rw [Ss hn] at b1
  rw [SD hn] at hdn ⊢
  refine ⟨fun hh=>absurd hh.1 hn,fun _=>?_⟩
  obtain ⟨p,hp⟩:∃p:Nat,b=(p:Int):=⟨b.toNat,by omega⟩
  rw [hp] at d2 b1 hbd ⊢
  rw [SM]
  have i1:=cG (n:=o.length) (lH (ai T chv) xs (bfL o)) (show p<o.length by omega) .i64
  have d1:=dN (lH (ai T chv) xs (bfL o)) (show p<xs.length by omega)
  have hbx:=hb p
  have b2:af .add (.z (xs.getD p 0)) (.z (wT T))=some (.z (xs.getD p 0+wT T)):=aY (by omega)
  have b3:af .add (.z (xs.getD p 0+wT T)) (.z (tmT T kk))=some (.z (xs.getD p 0+(cu T rd free o).dn i)):=by rw [aY (by omega),hdn,Int.add_assoc]
  have m1:=Od l0 (xs.getD p 0+(cu T rd free o).dn i)
  clear u0
  refine ⟨.f,.u,fun KK=>?_⟩
  generalize A39 (ai T chv) xs (bfL o)=A at *
  generalize max l0 (xs.getD p 0+(cu T rd free o).dn i)=q2 at *
  generalize xs.getD p 0+(cu T rd free o).dn i=q3 at *
  generalize xs.getD p 0+wT T=q4 at *
  generalize xs.getD p 0=xp at *
  generalize (p:Int)=pI at *
  generalize (o.length:Int)=M at *
  simp [Jy,i2,d2,b1,i1,d1,b2,b3,m1,u00,u1,hc,y0,z0,-af,-ab,-ae,-aa,-dy,-gf]
theorem pc39 (hi:i<o.length) (hx:xs.length=o.length) (l:Int) (x17 e25 e26 e27 e28:AV) :
  ∃e29,∀KK,run (aq GC jj) 300 (.code NE :: KK) (.u :: rv :: .z free :: ov :: .p 0 :: .u :: .u :: .z (wT T) :: .z (o.length:Int) :: .sl 1 0 o.length :: .sl 2 0 o.length :: .u :: .u :: v13 :: .bool ch :: .z (i:Int) :: .z l :: x17 :: .u :: .u :: .u :: .u :: .u :: .u :: .t :: e25 :: e26 :: e27 :: e28 :: .u :: .u :: .u :: .u :: []) (A39 (ai T chv) xs (bfL o))=run (aq GC jj) 300 KK (.u :: rv :: .z free :: ov :: .p 0 :: .u :: .u :: .z (wT T) :: .z (o.length:Int) :: .sl 1 0 o.length :: .sl 2 0 o.length :: .u :: .u :: v13 :: .bool (TP.up (xs,ch) i l).2 :: .z (i:Int) :: .z l :: x17 :: .u :: .u :: .u :: .u :: .u :: .u :: .t :: e25 :: e26 :: e27 :: e28 :: e29 :: .u :: .u :: .u :: []) (A39 (ai T chv) (TP.up (xs,ch) i l).1 (bfL o)):=by
 have i1:=cG (n:=o.length) (lH (ai T chv) xs (bfL o)) hi .i64
 have d1:=dN (lH (ai T chv) xs (bfL o)) (show i<xs.length by omega)
 have b1:=bQ l (xs.getD i 0)
 have s1:=gw (lH (ai T chv) xs (bfL o)) (show i<xs.length by omega) l
 rw [GQ] at s1
 unfold TP.up
 simp only
 by_cases h:l > xs.getD i 0
 ·rw [SA h]
  rw [Su h] at b1
  refine ⟨.t,fun KK=>?_⟩
  generalize A39 (ai T chv) xs (bfL o)=A at *
  generalize A39 (ai T chv) (xs.set i l) (bfL o)=B at *
  generalize xs.getD i 0=xi at *
  generalize (o.length:Int)=M at *
  simp [NE,i1,d1,b1,s1,-af,-ab,-ae,-aA]
 ·rw [SD h]
  rw [Ss h] at b1
  refine ⟨.f,fun KK=>?_⟩
  generalize A39 (ai T chv) xs (bfL o)=A at *
  generalize xs.getD i 0=xi at *
  generalize (o.length:Int)=M at *
  simp [NE,i1,d1,b1,-af,-ab,-ae,-aA]
theorem pd39 (h:zg T rd free o) (hcv:SlA 2 (T.ch.map chA) chv) (hi:i<o.length) (hx:xs.length=o.length) (hb:Bd K xs) (hK:K<=1000) {kk:Nat} (hk:o.getD i 0-1=(kk:Int)) (x16 e25 e26 e27 e28 e29:AV) :
  ∃e30,∀KK,run (aq GC jj) 300 (.code Mh :: KK) (.u :: rv :: .z free :: ov :: .p 0 :: .u :: .u :: .z (wT T) :: .z (o.length:Int) :: .sl 1 0 o.length :: .sl 2 0 o.length :: .u :: .u :: v13 :: .bool ch :: .z (i:Int) :: x16 :: .z (kk:Int) :: .u :: .u :: .u :: .u :: .u :: .u :: .t :: e25 :: e26 :: e27 :: e28 :: e29 :: .u :: .u :: .u :: []) (A39 (ai T chv) xs (bfL o))=run (aq GC jj) 300 KK (.u :: rv :: .z free :: ov :: .p 0 :: .u :: .u :: .z (wT T) :: .z (o.length:Int) :: .sl 1 0 o.length :: .sl 2 0 o.length :: .u :: .u :: v13 :: .bool (if (cu T rd free o).bf i<0 then (xs,ch) else TP.up (xs,ch) ((cu T rd free o).bf i).toNat (xs.getD i 0-(cu T rd free o).dn i-(cu T rd free o).st i)).2 :: .z (i:Int) :: x16 :: .z (kk:Int) :: .u :: .u :: .u :: .u :: .u :: .u :: .t :: e25 :: e26 :: e27 :: e28 :: e29 :: e30 :: .u :: .u :: []) (A39 (ai T chv) (if (cu T rd free o).bf i<0 then (xs,ch) else TP.up (xs,ch) ((cu T rd free o).bf i).toNat (xs.getD i 0-(cu T rd free o).dn i-(cu T rd free o).st i)).1 (bfL o)):=by
 have hw:=de h.v
 have hn4:=h.v.2.2.2.1
 have i2:=cG (n:=o.length) (ws (ai T chv) xs (bfL o)) hi .i64
 have d2:=dN (ws (ai T chv) xs (bfL o)) (show i<(bfL o).length by rw [C9]; exact hi)
 rw [Da o hi] at d2
 have hbf:(cu T rd free o).bf i=bfK o (o.getD i 0-1) i:=rfl
 have hdn:(cu T rd free o).dn i=if bfK o (o.getD i 0-1) i<0 then rd.getD (o.getD i 0-1).toNat 0 else wT T+tmT T (o.getD i 0-1).toNat:=rfl
 have hst:(cu T rd free o).st i=syT T (o.getD i 0-1).toNat:=rfl
 have hbd:=wc o (o.getD i 0-1) i
 have hog:=h.og hi
 rw [<-hbf] at d2 hdn hbd
 rw [hk,SM] at hdn hst
 obtain ⟨b,hbb⟩:∃b,b=(cu T rd free o).bf i:=⟨_,rfl⟩
 rw [<-hbb] at d2 hdn hbd ⊢
 have b1:=Cy.je b
 by_cases hn:b<0
 ·rw [SA hn]
  rw [Ss (by omega)] at b1
  refine ⟨.f,fun KK=>?_⟩
  generalize A39 (ai T chv) xs (bfL o)=A at *
  generalize (o.length:Int)=M at *
  simp [Mh,i2,d2,b1,-af,-ab,-ae,-aA]
 rw [SD hn] at hdn ⊢
 rw [Su (by omega)] at b1
 obtain ⟨p,hp⟩:∃p:Nat,b=(p:Int):=⟨b.toNat,by omega⟩
 rw [hp] at d2 b1 hbd ⊢
 rw [SM]
 have i1:=cG (n:=o.length) (lH (ai T chv) xs (bfL o)) (show p<o.length by omega) .i64
 have d1:=dN (lH (ai T chv) xs (bfL o)) (show p<xs.length by omega)
 have i3:=cG (n:=o.length) (lH (ai T chv) xs (bfL o)) hi .i64
 have d3:=dN (lH (ai T chv) xs (bfL o)) (show i<xs.length by omega)
 have hbx:=hb i
 obtain ⟨u0,u1,_,_,_⟩:=pN (A:=A39 (ai T chv) xs (bfL o)) (id:=0) (T:=T) (chv:=chv) rfl
 have u00:=u0 0 (by omega)
 have hc:=xf hcv (k:=kk) (by omega) (A39 (ai T chv) xs (bfL o)) .i64
 have hch:=dp h.v kk
 have y0:∀A u v,aa 0 A (.fp [u,v])=some (.fp [u,v]):=fun _ _ _=>rfl
 have y1:∀A u v,aa 1 A (.fp [u,v])=some (.fp [v]):=fun _ _ _=>rfl
 have z0:∀A z v,ab false 1 A (.fp [.z z,v])=some (.z z):=fun _ _ _=>rfl
 have z1:∀A z,ab false 1 A (.fp [.z z])=some (.z z):=fun _ _=>rfl
 have b2:af .sub (.z (xs.getD i 0)) (.z (wT T))=some (.z (xs.getD i 0-wT T)):=bK (by omega)
 have b3:af .sub (.z (xs.getD i 0-wT T)) (.z (tmT T kk))=some (.z (xs.getD i 0-(cu T rd free o).dn i)):=by rw [bK (by omega),hdn]; congr 2; omega
 have b4:af .sub (.z (xs.getD i 0-(cu T rd free o).dn i)) (.z (syT T kk))=some (.z (xs.getD i 0-(cu T rd free o).dn i-(cu T rd free o).st i)):=by rw [hst]; exact bK (by omega)
 obtain ⟨l,hl⟩:∃l,l=xs.getD i 0-(cu T rd free o).dn i-(cu T rd free o).st i:=⟨_,rfl⟩
 rw [<-hl] at b4 ⊢
 have b5:=bP (xs.getD p 0) l
 have s1:=gw (lH (ai T chv) xs (bfL o)) (show p<xs.length by omega) l
 rw [GQ] at s1
 clear u0
 unfold TP.up
 simp only
 by_cases hg:l > xs.getD p 0
 ·rw [SA hg]
  rw [Su (by omega)] at b5
  refine ⟨.t,fun KK=>?_⟩
  generalize A39 (ai T chv) (xs.set p l) (bfL o)=B at *
  generalize A39 (ai T chv) xs (bfL o)=A at *
  generalize xs.getD i 0-(cu T rd free o).dn i=q1 at *
  generalize xs.getD i 0-wT T=q2 at *
  generalize xs.getD p 0=q3 at *
  generalize xs.getD i 0=q4 at *
  generalize (p:Int)=pI at *
  generalize (o.length:Int)=M at *
  simp [Mh,i2,d2,b1,i1,d1,i3,d3,u00,u1,hc,y0,y1,z0,z1,b2,b3,b4,b5,s1,-af,-ab,-ae,-aA,-aa]
 ·rw [SD hg]
  rw [Ss (by omega)] at b5
  refine ⟨.f,fun KK=>?_⟩
  generalize A39 (ai T chv) xs (bfL o)=A at *
  generalize xs.getD i 0-(cu T rd free o).dn i=q1 at *
  generalize xs.getD i 0-wT T=q2 at *
  generalize xs.getD p 0=q3 at *
  generalize xs.getD i 0=q4 at *
  generalize (p:Int)=pI at *
  generalize (o.length:Int)=M at *
  simp [Mh,i2,d2,b1,i1,d1,i3,d3,u00,u1,hc,y0,y1,z0,z1,b2,b3,b4,b5,-af,-ab,-ae,-aA,-aa]
end
end Tr
namespace Tr
open Go
open Cy (GC aM aV az)
open Clu (aW aT ai chA aQ aY bK cH bu bP bQ cr)
theorem DW (t:TP) (s:List Int × Bool) (i:Nat):t.step s i=if t.bf i<0/\max (s.1.getD i 0) (l1T t s.1 i) > t.dn i+t.st i then none else some (if t.bf i<0 then TP.up s i (l1T t s.1 i) else TP.up (TP.up s i (l1T t s.1 i)) (t.bf i).toNat ((TP.up s i (l1T t s.1 i)).1.getD i 0-t.dn i-t.st i)):=by
 unfold TP.step l1T
 by_cases h:t.bf i<0
 ·rw [SA h,SA h,SA h]
  by_cases h2:max (s.1.getD i 0) (max (TP.pv s.1 i+t.hd i) (t.dn i)) > t.dn i+t.st i
  ·rw [SA h2,SA ⟨h,h2⟩]
  ·rw [SD h2,SD (fun k=>h2 k.2)]
 ·rw [SD h,SD h,SD h,SD (fun k=>h k.1)]
section
variable {T:aW} {chv rv ov:AV} {rd o xs:List Int} {free:Int} {i K:Nat} {ch:Bool} {v13:AV}
abbrev wN (T:aW) (rv:AV) (free:Int) (ov:AV) (m:Nat) (v13:AV) (ch:Bool) (i:Nat):List AV:=Az rv (.z free) ov (.p 0) (.z (wT T)) (.z (m:Int)) (.sl 1 0 m) (.sl 2 0 m) v13 (.bool ch) (.z (i:Int))
theorem HR (h:zg T rd free o) (hcv:SlA 2 (T.ch.map chA) chv) (hr:SlA 1 (ak rd) rv) (ho:SlA 1 (ak o) ov) (hi:i<o.length) (hx:xs.length=o.length) (hb:Bd K xs) (hK:K<=900) :
  match (cu T rd free o).step (xs,ch) i with
  | some s=>run (aq GC jj) 300 [.code jA] (wN T rv free ov o.length v13 ch i) (A39 (ai T chv) xs (bfL o))=some (.normal (wN T rv free ov o.length v13 s.2 (i+1)) (A39 (ai T chv) s.1 (bfL o)))
  | none=>∃ σ B,run (aq GC jj) 300 [.code jA] (wN T rv free ov o.length v13 ch i) (A39 (ai T chv) xs (bfL o))=some (.ret σ B)/\σ[5]?=some .nilS/\σ[6]?=some .f:=by
 have hw:=de h.v
 have hf:=h.f
 have hm:=h.m
 have hog:=h.og hi
 have hn4:=h.v.2.2.2.1
 obtain ⟨kk,hk⟩:∃kk:Nat,o.getD i 0-1=(kk:Int):=⟨(o.getD i 0-1).toNat,by omega⟩
 have b0':=be i o.length .i64
 rw [Su hi] at b0'
 have b9:=aP i (by omega)
 obtain ⟨u0,_,_,_,u3⟩:=pN (A:=A39 (ai T chv) xs (bfL o)) (id:=0) (T:=T) (chv:=chv) rfl
 have u03:=u0 3 (by omega)
 have bF:af .add (.z free) (.z T.travel)=some (.z (free+T.travel)):=aY (by omega)
 obtain ⟨e25,e26,pa⟩:=pa39 (chv:=chv) (rv:=rv) (ch:=ch) (v13:=v13) h ho hi hx hb (by omega)
 have y1:ae 1 (A39 (ai T chv) xs (bfL o)) ov (.z (i:Int))=some (.fp [.z (o.getD i 0)]):=by
  have e:o.getD i 0=o[i]:=by rw [Sr,Sq hi]; rfl
  rw [e]
  exact ho.index1 (x:=.z o[i]) (i:=i) (by simp [ak,hi]) rfl rfl .i64
 have l1:∀A z,ab false 1 A (.fp [.z z])=some (.z z):=fun _ _=>rfl
 have bk:af .sub (.z (o.getD i 0)) (.z 1)=some (.z (kk:Int)):=by rw [bK (by omega),hk]
 obtain ⟨pb1,pb2⟩:=pb39 (ov:=ov) (ch:=ch) (v13:=v13) h hcv hr hi hx hb (by omega) hk e25 e26
 rw [DW]
 clear u0
 by_cases hc:(cu T rd free o).bf i<0/\max (xs.getD i 0) (l1T (cu T rd free o) xs i) > (cu T rd free o).dn i+(cu T rd free o).st i
 ·rw [SA hc]
  obtain ⟨σ,B,q1,q2⟩:=pb1 hc
  refine ⟨σ,B,?_,q2⟩
  clear pb1 pb2 hc
  unfold wN
  rw [sH]
  generalize A39 (ai T chv) xs (bfL o)=A at *
  generalize TP.pv xs i+(cu T rd free o).hd i=L0 at *
  generalize free+T.travel=FT at *
  generalize T.travel=tr at *
  generalize o.getD i 0=oi at *
  generalize wT T=wt at *
  generalize o.length=M at *
  simp [b0',u03,u3,bF,pa,y1,l1,bk,q1,-af,-ab,-ae,-aa]
 rw [SD hc]
 obtain ⟨e27,e28,pb⟩:=pb2 hc
 clear pb1 pb2 hc
 obtain ⟨e29,pc⟩:=pc39 (T:=T) (chv:=chv) (rv:=rv) (ov:=ov) (free:=free) (v13:=v13) (ch:=ch) hi hx (l1T (cu T rd free o) xs i) (.z (kk:Int)) e25 e26 e27 e28
 obtain ⟨s1,hs1⟩:∃s1,s1=TP.up (xs,ch) i (l1T (cu T rd free o) xs i):=⟨_,rfl⟩
 have hl1:s1.1.length=o.length:=by rw [hs1,TP.up_len]; exact hx
 have hB1:Bd (K+1) s1.1:=by
  obtain ⟨a1,a2,a3,a4,a5,a6⟩:=h.w i hi
  have hpv:0<=TP.pv xs i/\TP.pv xs i<=3000000*(K:Int):=by
   unfold TP.pv
   split
   ·omega
   ·exact hb _
  have b2:=hb ((cu T rd free o).bf i).toNat
  rw [hs1]
  unfold TP.up
  split
  ·refine hb.set ?_
   unfold l1T
   split <;> constructor <;> omega
  ·exact hb.mono
 obtain ⟨e30,pd⟩:=pd39 (chv:=chv) (rv:=rv) (ov:=ov) (v13:=v13) (ch:=s1.2) h hcv hi hl1 hB1 (by omega) hk (.z (l1T (cu T rd free o) xs i)) e25 e26 e27 e28 e29
 rw [<-hs1] at pc
 show run (aq GC jj) 300 [.code jA] (wN T rv free ov o.length v13 ch i) (A39 (ai T chv) xs (bfL o))=some (.normal (wN T rv free ov o.length v13 (if (cu T rd free o).bf i<0 then TP.up (xs,ch) i (l1T (cu T rd free o) xs i) else TP.up (TP.up (xs,ch) i (l1T (cu T rd free o) xs i)) ((cu T rd free o).bf i).toNat ((TP.up (xs,ch) i (l1T (cu T rd free o) xs i)).1.getD i 0-(cu T rd free o).dn i-(cu T rd free o).st i)).2 (i+1)) (A39 (ai T chv) (if (cu T rd free o).bf i<0 then TP.up (xs,ch) i (l1T (cu T rd free o) xs i) else TP.up (TP.up (xs,ch) i (l1T (cu T rd free o) xs i)) ((cu T rd free o).bf i).toNat ((TP.up (xs,ch) i (l1T (cu T rd free o) xs i)).1.getD i 0-(cu T rd free o).dn i-(cu T rd free o).st i)).1 (bfL o)))
 rw [<-hs1]
 generalize (if (cu T rd free o).bf i<0 then (s1.1,s1.2) else TP.up (s1.1,s1.2) ((cu T rd free o).bf i).toNat (s1.1.getD i 0-(cu T rd free o).dn i-(cu T rd free o).st i))=s2 at *
 show run (aq GC jj) 300 [.code jA] (wN T rv free ov o.length v13 ch i) (A39 (ai T chv) xs (bfL o))=some (.normal (wN T rv free ov o.length v13 s2.2 (i+1)) (A39 (ai T chv) s2.1 (bfL o)))
 unfold wN
 rw [sH]
 obtain ⟨i1,hi1⟩:∃j,j=i+1:=⟨_,rfl⟩
 rw [<-hi1] at b9 ⊢
 clear hs1 hl1 hB1
 generalize A39 (ai T chv) xs (bfL o)=A at *
 generalize A39 (ai T chv) s1.1 (bfL o)=A1 at *
 generalize A39 (ai T chv) s2.1 (bfL o)=A2 at *
 generalize TP.pv xs i+(cu T rd free o).hd i=L0 at *
 generalize l1T (cu T rd free o) xs i=L1 at *
 generalize s1.2=ch1 at *
 generalize s2.2=ch2 at *
 generalize free+T.travel=FT at *
 generalize T.travel=tr at *
 generalize o.getD i 0=oi at *
 generalize wT T=wt at *
 generalize o.length=M at *
 simp [b0',b9,u03,u3,bF,pa,y1,l1,bk,pb,pc,pd,-af,-ab,-ae,-aa]
end
end Tr
open Go
def Av (L:Nat) (B:ac):AV->Option (AV × ac)
 | .nilS=>some (.nilS,[])
 | .sl id off k=>match B[id]? with
  | some (.row e _ es)=>if off=0/\k=es.length/\es.all (br 4)=true then some (.sl L 0 k,[.row e false es]) else none
  | _=>none
 | .tup [.nilS,s]=>if br 4 s=true then some (.tup [.nilS,s],[]) else none
 | .tup [.sl id off k,s]=>match B[id]? with
  | some (.row e _ es)=>if off=0/\k=es.length/\br 4 s=true/\es.all (br 4)=true then some (.tup [.sl L 0 k,s],[.row e false es]) else none
  | _=>none
 | _=>none
def GX (n:Nat) (M:List AV->ac->Option (AV × ac)):List AV->ac->Option (AV × ac):=fun args A=>
 (M (args.map (frz A n)) []).bind fun x=>(Av A.length x.2 x.1).map fun y=>(y.1,A++y.2)
def DV (n:Nat) (M:List AV->ac->Option (AV × ac)):aJ:=fun _=>GX n M
section
variable {P:Program} {G:Nat->Option (List AV)} {w w':World} {OK OK':Nat->Prop} {g g':aC} {A B:ac}
theorem cM.over (hA:cM w OK g A) (hB:cM w' OK' g' B) (hs:w.heap.size<=w'.heap.size) (hb:∀b,b<w.heap.size->w'.heap[b]?=w.heap[b]?)
  (hf:∀id inc,inc∈g' id->w.heap.size<=inc.b) {id:Nat} {e:Nat} {gr:Bool} {es:List AV} (hid:B[id]?=some (.row e gr es)) (hes:es.all (br 4)=true) {i0:Inc} (hi0:i0∈g' id) (hn0:i0.n=es.length) :
  cM w' OK (fun k=>if k=A.length then [i0] else g k) (A++[.row e false es]):=by
 obtain ⟨hlt,hrow⟩:=Sp.1 hid
 have hgl:g.le (fun k=>if k=A.length then [i0] else g k):=fun k inc hi=>by
  refine ⟨inc.n,SK _,?_⟩
  by_cases hk:k=A.length
  ·subst hk; rw [hA.out _ (SK _)] at hi; cases hi
  ·show inc∈(if k=A.length then [i0] else g k)
   rw [SD hk]; exact hi
 have hlow:∀k inc,inc∈g k->inc.b<w.heap.size:=hA.low
 refine ⟨fun k hk=>?_,fun k hk=>?_,fun k k' inc inc' h1 h2 i1 i2 hbb=>?_,fun k inc hi ho=>?_,fun k inc hi=>?_,fun b hb'=>TU (hA.ok b hb') hs⟩
 ·by_cases hkA:k<A.length
  ·rw [SS hkA]
   show rX w' OK _ (if k=A.length then [i0] else g k) _
   rw [SD (by omega)]
   exact (hA.ent k hkA).mono (fun _ h=>h) (fun b hb'=>hb b (hA.ok b hb')) hgl (fun inc hi=>hb _ (hA.low k inc hi))
  ·have hkl:k=A.length:=by simp at hk; omega
   subst hkl
   rw [Td (SK _)]
   simp only [Uq,List.getElem_cons_zero,TS]
   have hent:=hB.ent id hlt
   rw [hrow] at hent
   rw [SV] at hes
   refine ⟨fun _=>⟨SK _,fun inc hi=>by rw [SY.1 hi]; exact hn0⟩,fun inc hi=>?_⟩
   obtain ⟨h1,h2,h3,c,T,fz,h4,h5,h6,h7⟩:=hent.2 inc (by rw [SY.1 hi]; exact hi0)
   refine ⟨h1,h2,h3,c,T,fz,h4,h5,h6,fun i hi hn'=>?_⟩
   obtain ⟨v,k1,k2,k3⟩:=h7 i hi hn'
   exact ⟨v,iH 4 _ _ (hes _ (SC _)) k1,k2,k3⟩
 ·rw [SW] at hk
  simp at hk
  show (if k=A.length then [i0] else g k)=[]
  rw [SD (by omega)]
  exact hA.out k (by omega)
 ·have i1:inc∈(if k=A.length then [i0] else g k):=i1
  have i2:inc'∈(if k'=A.length then [i0] else g k'):=i2
  have old:∀j i,i∈g j->j<A.length:=fun j i hi=>by
   by_cases h:j<A.length
   ·exact h
   ·rw [hA.out j (by omega)] at hi; cases hi
  have live:∀j,j<A.length->(A++[Ent.row e false es])[j]?≠some .dead->A[j]?≠some .dead:=fun j hj h=>by rwa [Sy hj] at h
  by_cases hk:k=A.length
  ·rw [SA hk] at i1
   by_cases hk':k'=A.length
   ·rw [SA hk'] at i2
    exact ⟨by rw [hk,hk'],by rw [SY.1 i1,SY.1 i2]⟩
   ·rw [SD hk'] at i2
    have:=hf id inc (by rw [SY.1 i1]; exact hi0)
    have:=hA.low k' inc' i2
    omega
  ·rw [SD hk] at i1
   by_cases hk':k'=A.length
   ·rw [SA hk'] at i2
    have:=hf id inc' (by rw [SY.1 i2]; exact hi0)
    have:=hA.low k inc i1
    omega
   ·rw [SD hk'] at i2
    exact hA.one k k' inc inc' (live k (old k inc i1) h1) (live k' (old k' inc' i2) h2) i1 i2 hbb
 ·have hi:inc∈(if k=A.length then [i0] else g k):=hi
  by_cases hk:k=A.length
  ·rw [SA hk] at hi
   have h1:=hf id inc (by rw [SY.1 hi]; exact hi0)
   have:=hA.ok _ ho
   omega
  ·rw [SD hk] at hi
   exact hA.apart k inc hi ho
 ·have hi:inc∈(if k=A.length then [i0] else g k):=hi
  by_cases hk:k=A.length
  ·rw [SA hk] at hi
   exact hB.low id inc (by rw [SY.1 hi]; exact hi0)
  ·rw [SD hk] at hi
   exact TU (hA.low k inc hi) hs
theorem At {v:Value} {id:Nat} (h:a9 w' OK' g' v (.sl id 0 k)) (hB:cM w' OK' g' B) {e:Nat} {gr:Bool} {es:List AV} (hid:B[id]?=some (.row e gr es)) (hk:k=es.length) (L:Nat) (g:aC):∃i0,i0∈g' id/\i0.n=es.length/\a9 w' OK (fun j=>if j=L then [i0] else g j) v (.sl L 0 k):=by
 cases h with
 | sl _ _ _ _ cap ao inc hi hl hn hcap ha=>
  obtain ⟨hlt,hrow⟩:=Sp.1 hid
  have hent:=hB.ent id hlt
  rw [hrow] at hent
  have h2:=(hent.2 inc hi).2.1
  exact ⟨inc,hi,by omega,.sl _ L 0 k cap ao inc (by show inc∈(if L=L then [inc] else g L); rw [SA rfl]; exact SY.2 rfl) hl hn hcap ha⟩
theorem gH.thaw {f:FuncId} {M:List AV->ac->Option (AV × ac)} (h:gH P G f M) (n:Nat):gH P G f (GX n M):=by
 refine ⟨h.1,?_⟩
 intro args A r A' he w OK g vs hA hG hl
 unfold GX at he
 rw [SB] at he
 obtain ⟨⟨r0,B⟩,hM,he⟩:=he
 rw [SE] at he
 obtain ⟨⟨r1,X⟩,ht,he⟩:=he
 injection he with e1 e2
 simp only at e1 e2 ht
 subst e1
 subst e2
 have hok2:∀b,(OK b\/∃id inc,inc∈g id/\inc.b=b)->b<w.heap.size:=fun b hb=>by
  rcases hb with hb | ⟨id,inc,hi,rfl⟩
  ·exact hA.ok b hb
  ·exact hA.low id inc hi
 have hl2:bW w (fun b=>OK b\/∃id inc,inc∈g id/\inc.b=b) aC.none vs (args.map (frz A n)):=hl.map fun v a _ hv=>mS hA (fun b hb=>Or.inl hb) (fun id inc _ hi=>Or.inr ⟨id,inc,hi,rfl⟩) n a v hv
 refine (h.2 _ _ _ _ hM w (fun b=>OK b\/∃id inc,inc∈g id/\inc.b=b) aC.none vs (cM.nil hok2) (hG.mono (fun b hb=>.inl hb) (fun _ _=>rfl)) hl2).mono ?_
 rintro e w' ⟨v,OK',g',rfl,hv,hB,hx⟩
 have hb:∀b,b<w.heap.size->w'.heap[b]?=w.heap[b]?:=fun b hb=>hx.blk b hb (fun _ _ (hi:_∈[])=>by cases hi)
 have hf:∀id inc,inc∈g' id->w.heap.size<=inc.b:=fun id inc hi=>by
  rcases hx.fresh id inc hi with ⟨_,_,h0,_⟩ | h0
  ·cases h0
  ·exact h0
 have noRow:∀r1,a9 w' OK g v r1->∃OKn gn,a9 w' OKn gn v r1/\cM w' OKn gn (A++[])/\Ext w OK g w' OKn gn:=fun r1 hv1=>by
  refine ⟨OK,g,hv1,?_,hx.os,hx.tape,hx.output,hx.size,fun b hb' _=>hb b hb',g.le_refl,fun _ h=>h,fun id inc hi=>.inl ⟨id,inc,hi,rfl⟩,fun _ h=>.inl h,hx.loops,fun _ _ _ _=>rfl⟩
  rw [S5]
  exact hA.keep hx.size hb OK (fun _ h=>h) (fun _ h=>.inl h) (fun b hb'=>TU (hA.ok b hb') hx.size)
 have oneRow:∀(id:Nat) (e:Nat) (gr:Bool) (es:List AV) r1,B[id]?=some (.row e gr es)->es.all (br 4)=true->(∃i0,i0∈g' id/\i0.n=es.length/\a9 w' OK (fun j=>if j=A.length then [i0] else g j) v r1)->∃OKn gn,a9 w' OKn gn v r1/\cM w' OKn gn (A++[.row e false es])/\Ext w OK g w' OKn gn:=fun id e gr es r1 hid hes ⟨i0,hi0,hn0,hv1⟩=>by
  refine ⟨OK,fun j=>if j=A.length then [i0] else g j,hv1,hA.over hB hx.size hb hf hid hes hi0 hn0,hx.os,hx.tape,hx.output,hx.size,fun b hb' _=>hb b hb',fun k inc hi=>?_,fun _ h=>h,fun k inc hi=>?_,fun _ h=>.inl h,hx.loops,fun k inc hi _=>?_⟩
  ·refine ⟨inc.n,SK _,?_⟩
   by_cases hk:k=A.length
   ·subst hk; rw [hA.out _ (SK _)] at hi; cases hi
   ·show inc∈(if k=A.length then [i0] else g k)
    rw [SD hk]; exact hi
  ·have hi:inc∈(if k=A.length then [i0] else g k):=hi
   by_cases hk:k=A.length
   ·rw [SA hk] at hi; exact .inr (hf id inc (by rw [SY.1 hi]; exact hi0))
   ·rw [SD hk] at hi; exact .inl ⟨k,inc,hi,rfl⟩
  ·show (if k=A.length then [i0] else g k)=g k
   by_cases hk:k=A.length
   ·subst hk; rw [hA.out _ (SK _)] at hi; cases hi
   ·rw [SD hk]
 suffices hh:∃OKn gn,a9 w' OKn gn v r1/\cM w' OKn gn (A++X)/\Ext w OK g w' OKn gn by
  obtain ⟨OKn,gn,h1,h2,h3⟩:=hh
  exact ⟨v,OKn,gn,rfl,h1,h2,h3⟩
 unfold Av at ht
 split at ht
 ·injection ht with ht
  injection ht with h1 h2
  subst h1; subst h2
  refine noRow _ ?_
  cases hv with
  | nilS _ p=>exact .nilS _ p
 ·rename_i id off k
  split at ht
  ·rename_i e gr es hid
   split at ht
   ·rename_i hes
    injection ht with ht
    injection ht with h1 h2
    subst h1; subst h2
    obtain ⟨rfl,hk,hes⟩:=hes
    exact oneRow id e _ es _ hid hes (At hv hB hid hk _ _)
   ·cases ht
  ·cases ht
 ·rename_i s
  split at ht
  ·rename_i hsc
   injection ht with ht
   injection ht with h1 h2
   subst h1; subst h2
   refine noRow _ ?_
   obtain ⟨vs,vals,rfl,hl,hg,hv⟩:=hv.inv_tup
   refine .tup _ vs _ hl vals hg (fun i hi=>?_)
   have hvi:=hv i hi
   have hi2:i<2:=hi
   rcases (show i=0\/i=1 by omega) with rfl | rfl
   ·have hvi:a9 w' OK' g' (vals 0) .nilS:=hvi
    show a9 w' OK g (vals 0) .nilS
    generalize vals 0=v0 at *
    cases hvi with
    | nilS _ p=>exact .nilS _ p
   ·exact iH 4 s _ hsc hvi
  ·cases ht
 ·rename_i id off k s
  split at ht
  ·rename_i e gr es hid
   split at ht
   ·rename_i hes
    injection ht with ht
    injection ht with h1 h2
    subst h1; subst h2
    obtain ⟨rfl,hk,hsc,hes⟩:=hes
    refine oneRow id e _ es _ hid hes ?_
    obtain ⟨vs,vals,rfl,hl,hg,hv⟩:=hv.inv_tup
    obtain ⟨i0,q1,q2,q3⟩:=At (OK:=OK) (hv 0 (by simp)) hB hid hk A.length g
    refine ⟨i0,q1,q2,.tup _ vs _ hl vals hg (fun i hi=>?_)⟩
    have hvi:=hv i hi
    have hi2:i<2:=hi
    rcases (show i=0\/i=1 by omega) with rfl | rfl
    ·exact q3
    ·exact iH 4 s _ hsc hvi
   ·cases ht
  ·cases ht
 ·cases ht
theorem au.thaw {f:FuncId} {M:List AV->ac->Option (AV × ac)} (h:gH P G f M) (n:Nat):au P G f (DV n M):=(h.thaw n).y
@[simp] theorem xM (n:Nat) (M:List AV->ac->Option (AV × ac)) (h:bj) (args:List AV) (A:ac):DV n M h args A=(M (args.map (frz A n)) []).bind fun x=>(Av A.length x.2 x.1).map fun y=>(y.1,A++y.2):=rfl
end
namespace Tr
open Cy (GC aM aV az)
open Clu (aW aT ai chA aQ aY bK cH bu bP bQ cr)
theorem RN (T:aW) (rd:List Int) (free:Int) (o:List Int):(cu T rd free o).m=o.length:=rfl
section
variable {T:aW} {chv rv ov:AV} {rd o:List Int} {free:Int}
theorem Ik (h:zg T rd free o) (hcv:SlA 2 (T.ch.map chA) chv) (hr:SlA 1 (ak rd) rv) (ho:SlA 1 (ak o) ov) (v13:AV):∀(c i m:Nat) (s:List Int × Bool) (K:Nat),i+c=o.length->c<m->s.1.length=o.length->Bd K s.1->K+c<=900 ->
  match (cu T rd free o).rnd c s with
  | some s'=>bG (evC (aq GC jj) 300 jA) jU m (wN T rv free ov o.length v13 s.2 i) (A39 (ai T chv) s.1 (bfL o))=some (.exit 6 ((wN T rv free ov o.length v13 s'.2 o.length).set 24 .f) (A39 (ai T chv) s'.1 (bfL o)))/\s'.1.length=o.length/\Bd (K+c) s'.1
  | none=>∃ σ B,bG (evC (aq GC jj) 300 jA) jU m (wN T rv free ov o.length v13 s.2 i) (A39 (ai T chv) s.1 (bfL o))=some (.ret σ B)/\σ[5]?=some .nilS/\σ[6]?=some .f:=by
 intro c
 induction c with
 | zero=>
  intro i m s K hi hm hl hb hK
  obtain ⟨m,rfl⟩:∃j,m=j+1:=⟨m-1,by omega⟩
  obtain rfl:i=o.length:=by omega
  simp only [TP.rnd]
  refine ⟨?_,hl,hb⟩
  have b0:=be o.length o.length .i64
  rw [Ss (by omega)] at b0
  unfold wN
  rw [aG,CF]
  generalize A39 (ai T chv) s.1 (bfL o)=A at *
  simp [jA,b0,-af]
 | succ c ih=>
  intro i m s K hi hm hl hb hK
  obtain ⟨m,rfl⟩:∃j,m=j+1:=⟨m-1,by omega⟩
  have hil:i<o.length:=by omega
  have hr1:=HR (v13:=v13) (ch:=s.2) h hcv hr ho hil hl hb (by omega)
  have e:(cu T rd free o).m-(c+1)=i:=by rw [RN]; omega
  simp only [TP.rnd,e]
  unfold wN at hr1 ⊢
  rw [aG,CF]
  have es:((s.1,s.2):List Int × Bool)=s:=rfl
  rw [es] at hr1
  cases hst:(cu T rd free o).step s i with
  | none=>
   rw [hst] at hr1
   obtain ⟨σ,B,q1,q2⟩:=hr1
   rw [U7,q1]
   exact ⟨σ,B,rfl,q2⟩
  | some s1=>
   rw [hst] at hr1
   obtain ⟨b1,b2⟩:=GZ h hb hl hil hst
   rw [Te,hr1]
   have:=ih (i+1) m s1 (K+1) (by omega) (by omega) b2 b1 (by omega)
   rw [show K+1+c=K+(c+1) by omega] at this
   exact this
theorem Fp (X:Nat->Int):∀(o:List Int) (i j:Nat),j<o.length->(mkX X i o)[j]?=some (o.getD j 0,X (i+1+j))
 | [],_,_,h=>by simp at h
 | t :: r,i,0,_=>rfl
 | t :: r,i,j+1,h=>by
  have:=Fp X r (i+1) j (by simpa using h)
  simp only [mkX,T6,List.getD_cons_succ]
  rw [this,show i+1+1+j=i+1+(j+1) by omega]
abbrev Kn (ov:AV) (m:Nat) (v:AV) (i:Nat):List AV:=uF ov (.z (m:Int)) (.sl 1 0 m) v (.z (i:Int))
theorem Ij (hm10:o.length<=10) (ho:SlA 1 (ak o) ov) {bs:List Int} (hx:xs.length=o.length):∀(c i m:Nat) (A:ac) (v:AV),i+c=o.length->c<m->A[1]?=some (.q (ak xs))->3<=A.length->OV 2 3 A v (((mkX (nX xs) 0 o).take i).map aX) ->
  ∃v' B,bG (evC (aq GC jj) 300 qw) mi m (Kn ov o.length v i) A=some (.exit 8 ((Kn ov o.length v' o.length).set 32 .f) B)/\OV 2 3 B v' ((mkX (nX xs) 0 o).map aX):=by
 intro c
 induction c with
 | zero=>
  intro i m A v hi hm h1 hA hv
  obtain ⟨m,rfl⟩:∃j,m=j+1:=⟨m-1,by omega⟩
  obtain rfl:i=o.length:=by omega
  rw [SR (by rw [gy]; omega)] at hv
  refine ⟨v,A,?_,hv⟩
  have b0:=be o.length o.length .i64
  rw [Ss (by omega)] at b0
  unfold Kn
  rw [aG,CE]
  simp [qw,b0,-af]
 | succ c ih=>
  intro i m A v hi hm h1 hA hv
  obtain ⟨m,rfl⟩:∃j,m=j+1:=⟨m-1,by omega⟩
  have hil:i<o.length:=by omega
  have b0:=be i o.length .i64
  rw [Su hil] at b0
  have b9:=aP i (by omega)
  have y1:ae 1 A ov (.z (i:Int))=some (.fp [.z (o.getD i 0)]):=by
   have e:o.getD i 0=o[i]:=by rw [Sr,Sq hil]; rfl
   rw [e]
   exact ho.index1 (x:=.z o[i]) (i:=i) (by simp [ak,hil]) rfl rfl .i64
  have l1:∀A z,ab false 1 A (.fp [.z z])=some (.z z):=fun _ _=>rfl
  have i1:=cG (n:=o.length) h1 hil .i64
  have d1:=dN h1 (show i<xs.length by omega)
  have hlt:((mkX (nX xs) 0 o).take i).length=i:=by rw [TM,gy]; omega
  obtain ⟨v1,B1,ap,a1,a2,a3⟩:=Dq (e:=2) (bytes:=16) (by omega) (by omega) hv hA (aX (o.getD i 0,xs.getD i 0)) (by rw [SF,hlt]; omega)
  have ap':aL 2 16 A v (.fs 2 [.agg [.z (o.getD i 0),.z (xs.getD i 0)]])=some (v1,B1):=ap
  have et:((mkX (nX xs) 0 o).take i).map aX++[aX (o.getD i 0,xs.getD i 0)]=((mkX (nX xs) 0 o).take (i+1)).map aX:=by
   have hg:=Fp (nX xs) o 0 i hil
   rw [List.take_add_one,hg,TD]
   have:nX xs (0+1+i)=xs.getD i 0:=by unfold nX; rw [SD (by omega),show 0+1+i-1=i by omega]
   rw [this]; rfl
  rw [et] at a1
  obtain ⟨v2,B2,g1,g2⟩:=ih (i+1) m B1 v1 (by omega) (by omega) (by rw [a2 1 (by omega)]; exact h1) (by omega) a1
  refine ⟨v2,B2,?_,g2⟩
  unfold Kn at g1 ⊢
  rw [aG,CE]
  obtain ⟨w,hw⟩:∃w,w=((i+1:Nat):Int):=⟨_,rfl⟩
  rw [<-hw] at b9 g1
  have e:run (aq GC jj) 300 [.code qw] (uF ov (.z (o.length:Int)) (.sl 1 0 o.length) v (.z (i:Int))) A=some (.normal (uF ov (.z (o.length:Int)) (.sl 1 0 o.length) v1 (.z w)) B1):=by
   clear g1 ih ap et a1 a2 hv hlt
   generalize o.getD i 0=oi at *
   generalize xs.getD i 0=xi at *
   simp [qw,b0,b9,y1,l1,i1,d1,ap',-af,-ab,-ae]
  rw [e]
  exact g1
abbrev Fg (T:aW) (rv:AV) (free:Int) (ov:AV) (m r:Nat):List AV:=pT rv (.z free) ov (.p 0) (.z (wT T)) (.z (m:Int)) (.sl 1 0 m) (.sl 2 0 m) (.z (r:Int))
theorem Ii (h:zg T rd free o) (hcv:SlA 2 (T.ch.map chA) chv) (hr:SlA 1 (ak rd) rv) (ho:SlA 1 (ak o) ov):∀(c r m:Nat) (xs:List Int) (K:Nat),r+c=o.length+2->c<m->xs.length=o.length->Bd K xs->K+c*o.length<=900 ->
  match (cu T rd free o).ref c xs with
  | some ys=>∃ σ B v,bG (evC (aq GC jj) 300 iw) iO m (Fg T rv free ov o.length r) (A39 (ai T chv) xs (bfL o))=some (.ret σ B)/\σ[5]?=some v/\σ[6]?=some .t/\OV 2 3 B v ((mkX (nX ys) 0 o).map aX)
  | none=>(∃ σ B,bG (evC (aq GC jj) 300 iw) iO m (Fg T rv free ov o.length r) (A39 (ai T chv) xs (bfL o))=some (.ret σ B)/\σ[5]?=some .nilS/\σ[6]?=some .f) \/
   ∃r' B,bG (evC (aq GC jj) 300 iw) iO m (Fg T rv free ov o.length r) (A39 (ai T chv) xs (bfL o))=some (.exit 4 ((Fg T rv free ov o.length r').set 23 .f) B):=by
 have hm:=h.m
 intro c
 induction c with
 | zero=>
  intro r m xs K hi hm' hl hb hK
  obtain ⟨m,rfl⟩:∃j,m=j+1:=⟨m-1,by omega⟩
  simp only [TP.ref]
  right
  refine ⟨r,A39 (ai T chv) xs (bfL o),?_⟩
  have b1:af .add (.z (o.length:Int)) (.z 1)=some (.z ((o.length+1:Nat):Int)):=aP _ (by omega)
  have b0:=cr (r:Int) ((o.length+1:Nat):Int)
  rw [Ss (by omega)] at b0
  unfold Fg
  rw [aG,CD]
  generalize A39 (ai T chv) xs (bfL o)=A at *
  generalize ((o.length+1:Nat):Int)=m1 at *
  simp [iw,b0,b1,-af]
 | succ c ih=>
  intro r m xs K hi hm' hl hb hK
  obtain ⟨m,rfl⟩:∃j,m=j+1:=⟨m-1,by omega⟩
  have b1:af .add (.z (o.length:Int)) (.z 1)=some (.z ((o.length+1:Nat):Int)):=aP _ (by omega)
  have b0:=cr (r:Int) ((o.length+1:Nat):Int)
  rw [Su (by omega)] at b0
  have b9:=aP r (by omega)
  rw [Nat.succ_mul] at hK
  have lc:=Ik h hcv hr ho (.z (r:Int)) o.length 0 300 (xs,false) K (by omega) (by omega) hl hb (by omega)
  simp only at lc
  unfold wN at lc
  rw [show ((0:Nat):Int)=0 from rfl] at lc
  simp only [TP.ref,RN]
  unfold Fg
  rw [aG,CD]
  cases hs:(cu T rd free o).rnd o.length (xs,false) with
  | none=>
   rw [hs] at lc
   obtain ⟨σ,B,q1,q2⟩:=lc
   rw [U7]
   left
   refine ⟨σ,B,?_,q2⟩
   have e:run (aq GC jj) 300 [.code iw] (pT rv (.z free) ov (.p 0) (.z (wT T)) (.z (o.length:Int)) (.sl 1 0 o.length) (.sl 2 0 o.length) (.z (r:Int))) (A39 (ai T chv) xs (bfL o))=some (.ret σ B):=by
    clear hs ih
    generalize A39 (ai T chv) xs (bfL o)=A at *
    generalize ((o.length+1:Nat):Int)=m1 at *
    simp [iw,b0,b1,BH q1,-af]
   rw [e]
  | some s=>
   rw [hs] at lc
   obtain ⟨q1,q2,q3⟩:=lc
   rw [Te]
   cases hs2:s.2 with
   | true=>
    rw [hs2] at q1
    have:=ih (r+1) m s.1 (K+o.length) (by omega) (by omega) q2 q3 (by omega)
    rw [SA rfl]
    unfold Fg at this
    obtain ⟨w,hw⟩:∃w,w=((r+1:Nat):Int):=⟨_,rfl⟩
    rw [<-hw] at b9 this
    have e:run (aq GC jj) 300 [.code iw] (pT rv (.z free) ov (.p 0) (.z (wT T)) (.z (o.length:Int)) (.sl 1 0 o.length) (.sl 2 0 o.length) (.z (r:Int))) (A39 (ai T chv) xs (bfL o))=some (.normal (pT rv (.z free) ov (.p 0) (.z (wT T)) (.z (o.length:Int)) (.sl 1 0 o.length) (.sl 2 0 o.length) (.z w)) (A39 (ai T chv) s.1 (bfL o))):=by
     clear hs ih this
     generalize A39 (ai T chv) xs (bfL o)=A at *
     generalize A39 (ai T chv) s.1 (bfL o)=B at *
     generalize ((o.length+1:Nat):Int)=m1 at *
     simp [iw,b0,b1,b9,BH q1,-af]
    rw [e]
    exact this
   | false=>
    rw [hs2] at q1
    rw [SD (by decide)]
    obtain ⟨v,B,g1,g2⟩:=Ij (bs:=bfL o) hm ho q2 o.length 0 300 (A39 (ai T chv) s.1 (bfL o)) .nilS (by omega) (by omega) (lH _ _ _) (by simp [A39]) (.inl ⟨rfl,by simp⟩)
    unfold Kn at g1
    rw [show ((0:Nat):Int)=0 from rfl] at g1
    refine ⟨[.u,.u,.u,.u,.u,v,.t,.u,.u,.u,.u,.u,.u,.u,.u,.u,.u,.u,v,.u,.u,.u,.u,.u,.u,.u,.u,.u,.u,.u,.u,.u,.u],B,v,?_,rfl,rfl,g2⟩
    have e:run (aq GC jj) 300 [.code iw] (pT rv (.z free) ov (.p 0) (.z (wT T)) (.z (o.length:Int)) (.sl 1 0 o.length) (.sl 2 0 o.length) (.z (r:Int))) (A39 (ai T chv) xs (bfL o))=some (.ret [.u,.u,.u,.u,.u,v,.t,.u,.u,.u,.u,.u,.u,.u,.u,.u,.u,.u,v,.u,.u,.u,.u,.u,.u,.u,.u,.u,.u,.u,.u,.u,.u] B):=by
     clear hs ih g2
     generalize A39 (ai T chv) xs (bfL o)=A at *
     generalize A39 (ai T chv) s.1 (bfL o)=A2 at *
     generalize ((o.length+1:Nat):Int)=m1 at *
     simp [iw,b0,b1,BH q1,La g1,-af]
    rw [e]
def bJ (o:List Int) (i:Nat):List Int:=rJ (fun j=>bfK o (o.getD j 0-1) j) (fun _=>0) o.length i
theorem De (o:List Int) (i:Nat):(bJ o i).length=o.length:=Fj _ _ _ _
theorem Im (hm10:o.length<=10) (hob:∀t∈o,1<=t/\t<=1000) (ho:SlA 1 (ak o) ov) {tv:AV} {i:Nat} (hi:i<o.length) (v1 v2 v4 v7 v9:AV):∀(c k m:Nat) (bs:List Int),k+c=i->c<m->bs.length=o.length->bs.getD i 0=bfK o (o.getD i 0-1) k ->
  bG (evC (aq GC jj) 300 mC) mp m (nW v1 v2 ov v4 v7 (.z (o.length:Int)) v9 (.sl 2 0 o.length) (.z (i:Int)) (.z (k:Int))) (A39 tv xs bs)=some (.exit 2 ((nW v1 v2 ov v4 v7 (.z (o.length:Int)) v9 (.sl 2 0 o.length) (.z (i:Int)) (.z (i:Int))).set 21 .f) (A39 tv xs (bs.set i (bfK o (o.getD i 0-1) i)))):=by
 intro c
 induction c with
 | zero=>
  intro k m bs hk hm hl hb
  obtain ⟨m,rfl⟩:∃j,m=j+1:=⟨m-1,by omega⟩
  obtain rfl:k=i:=by omega
  have e:bs.set k (bfK o (o.getD k 0-1) k)=bs:=by
   rw [<-hb,Sr,Sq (by omega),S9,List.set_getElem_self]
  rw [e]
  have b0:=be k k .i64
  rw [Ss (by omega)] at b0
  rw [aG,CI]
  generalize A39 tv xs bs=A at *
  simp [mC,b0,-af]
 | succ c ih=>
  intro k m bs hk hm hl hb
  obtain ⟨m,rfl⟩:∃j,m=j+1:=⟨m-1,by omega⟩
  have b0:=be k i .i64
  rw [Su (by omega)] at b0
  have b9:=aP k (by omega)
  have x1:∀j,j<o.length->ae 1 (A39 tv xs bs) ov (.z (j:Int))=some (.fp [.z (o.getD j 0)])/\1<=o.getD j 0/\o.getD j 0<=1000:=fun j hj=>by
   have e:o.getD j 0=o[j]:=by rw [Sr,Sq hj]; rfl
   rw [e]
   exact ⟨ho.index1 (x:=.z o[j]) (i:=j) (by simp [ak,hj]) rfl rfl .i64,hob _ (SC hj)⟩
  obtain ⟨y1,_⟩:=x1 k (by omega)
  obtain ⟨y2,z1,z2⟩:=x1 i hi
  have l1:∀A z,ab false 1 A (.fp [.z z])=some (.z z):=fun _ _=>rfl
  have b1:af .sub (.z (o.getD i 0)) (.z 1)=some (.z (o.getD i 0-1)):=bK (by omega)
  have b2:=bu (o.getD k 0) (o.getD i 0-1)
  have i2:=cG (n:=o.length) (ws tv xs bs) hi .i64
  have s2:=gw (ws tv xs bs) (show i<bs.length by omega) (k:Int)
  rw [GP] at s2
  have eK:bfK o (o.getD i 0-1) (k+1)=if o.getD k 0=o.getD i 0-1 then (k:Int) else bfK o (o.getD i 0-1) k:=rfl
  rw [aG,CI]
  clear x1
  obtain ⟨w,hw⟩:∃w,w=((k+1:Nat):Int):=⟨_,rfl⟩
  by_cases hc:o.getD k 0=o.getD i 0-1
  ·rw [SA hc] at eK
   rw [Su hc] at b2
   have:=ih (k+1) m (bs.set i (k:Int)) (by omega) (by omega) (by rw [Ti]; exact hl) (by rw [dh,SA ⟨rfl,by omega⟩,eK])
   rw [UV] at this
   rw [<-hw] at b9 this
   have e:run (aq GC jj) 300 [.code mC] (nW v1 v2 ov v4 v7 (.z (o.length:Int)) v9 (.sl 2 0 o.length) (.z (i:Int)) (.z (k:Int))) (A39 tv xs bs)=some (.normal (nW v1 v2 ov v4 v7 (.z (o.length:Int)) v9 (.sl 2 0 o.length) (.z (i:Int)) (.z w)) (A39 tv xs (bs.set i (k:Int)))):=by
    clear this ih hb eK
    generalize A39 tv xs (bs.set i (k:Int))=B at *
    generalize A39 tv xs bs=A at *
    generalize o.getD i 0-1=o1 at *
    generalize o.getD i 0=oi at *
    generalize o.getD k 0=ok at *
    simp [mC,b0,b9,y1,y2,l1,b1,b2,i2,s2,-af,-ab,-ae,-aA]
   rw [e]
   exact this
  ·rw [SD hc] at eK
   rw [Ss hc] at b2
   have:=ih (k+1) m bs (by omega) (by omega) hl (by rw [hb,eK])
   rw [<-hw] at b9 this
   have e:run (aq GC jj) 300 [.code mC] (nW v1 v2 ov v4 v7 (.z (o.length:Int)) v9 (.sl 2 0 o.length) (.z (i:Int)) (.z (k:Int))) (A39 tv xs bs)=some (.normal (nW v1 v2 ov v4 v7 (.z (o.length:Int)) v9 (.sl 2 0 o.length) (.z (i:Int)) (.z w)) (A39 tv xs bs)):=by
    clear this ih hb eK
    generalize A39 tv xs bs=A at *
    generalize o.getD i 0-1=o1 at *
    generalize o.getD i 0=oi at *
    generalize o.getD k 0=ok at *
    simp [mC,b0,b9,y1,y2,l1,b1,b2,-af,-ab,-ae,-aA]
   rw [e]
   exact this
theorem Il (hm10:o.length<=10) (hob:∀t∈o,1<=t/\t<=1000) (ho:SlA 1 (ak o) ov) {tv:AV} {xs:List Int} (v1 v2 v4 v7 v9:AV):∀(c i m:Nat),i+c=o.length->c<m ->
  bG (evC (aq GC jj) 300 qx) mj m (r6 v1 v2 ov v4 v7 (.z (o.length:Int)) v9 (.sl 2 0 o.length) (.z (i:Int))) (A39 tv xs (bJ o i))=some (.exit 0 ((r6 v1 v2 ov v4 v7 (.z (o.length:Int)) v9 (.sl 2 0 o.length) (.z (o.length:Int))).set 20 .f) (A39 tv xs (bfL o))):=by
 intro c
 induction c with
 | zero=>
  intro i m hi hm
  obtain ⟨m,rfl⟩:∃j,m=j+1:=⟨m-1,by omega⟩
  obtain rfl:i=o.length:=by omega
  rw [show bJ o o.length=bfL o from Fk _ _ _]
  have b0:=be o.length o.length .i64
  rw [Ss (by omega)] at b0
  rw [aG,CG]
  generalize A39 tv xs (bfL o)=A at *
  simp [qx,b0,-af]
 | succ c ih=>
  intro i m hi hm
  obtain ⟨m,rfl⟩:∃j,m=j+1:=⟨m-1,by omega⟩
  have hil:i<o.length:=by omega
  have ih:=ih (i+1) m (by omega) (by omega)
  have b0:=be i o.length .i64
  rw [Su hil] at b0
  have b9:=aP i (by omega)
  have i2:=cG (n:=o.length) (ws tv xs (bJ o i)) hil .i64
  have s2:=gw (ws tv xs (bJ o i)) (show i<(bJ o i).length by rw [De]; exact hil) (-1)
  rw [GP] at s2
  have lp:=Im hm10 hob ho (tv:=tv) (xs:=xs) hil v1 v2 v4 v7 v9 i 0 300 ((bJ o i).set i (-1)) (by omega) (by omega) (by rw [Ti,De]) (by rw [dh,SA ⟨rfl,by rw [De]; exact hil⟩]; rfl)
  rw [UV,show (bJ o i).set i (bfK o (o.getD i 0-1) i)=bJ o (i+1) from Fi (fun j=>bfK o (o.getD j 0-1) j) (fun _=>0) hil,show ((0:Nat):Int)=0 from rfl] at lp
  rw [aG,CG]
  obtain ⟨w,hw⟩:∃w,w=((i+1:Nat):Int):=⟨_,rfl⟩
  rw [<-hw] at b9 ih
  have e:run (aq GC jj) 300 [.code qx] (r6 v1 v2 ov v4 v7 (.z (o.length:Int)) v9 (.sl 2 0 o.length) (.z (i:Int))) (A39 tv xs (bJ o i))=some (.normal (r6 v1 v2 ov v4 v7 (.z (o.length:Int)) v9 (.sl 2 0 o.length) (.z w)) (A39 tv xs (bJ o (i+1)))):=by
   clear ih
   generalize A39 tv xs (bJ o (i+1))=C at *
   generalize A39 tv xs ((bJ o i).set i (-1))=B at *
   generalize A39 tv xs (bJ o i)=A at *
   simp [qx,b0,b9,i2,s2,Lb lp,-af,-ae,-aA]
  rw [e]
  exact ih
theorem Je (h:zg T rd free o) (hcv:SlA 2 (T.ch.map chA) chv) (hr:SlA 1 (ak rd) rv) (ho:SlA 1 (ak o) ov):∃v B,bZ (aq GC jj) 300 zH [ai T chv,rv,.z free,ov] []=some (.tup [v,.bool (ya T rd free o).isSome],B)/\OV 2 3 B v (((ya T rd free o).getD []).map aX):=by
 have hm:=h.m
 have hn4:=h.v.2.2.2.1
 have ft:=fun A=>aQ (T:=T) (fun A n=>hcv.frz (A:=A) n) A 3
 have tn:bR 4 (ai T chv)=true:=Clu.cf (fun n=>hcv.noRef n) 3
 have bx:aR 5 (ai T chv) []=some (.p 0,[.row 5 false [ai T chv]]):=rfl
 have ct:(cellsOf (ai T chv)).length=5:=rfl
 have lt:ab true 5 [.row 5 false [ai T chv]] (.p 0)=some (ai T chv):=rfl
 have m22:=wn chv h.v
 have lno:=ho.len
 rw [az] at lno
 obtain ⟨A0,hA0⟩:∃A:ac,A=[.row 5 false [ai T chv]]:=⟨_,rfl⟩
 rw [<-hA0] at bx lt
 have mk1:bY 1 8 (.z 0) A0 (.z (o.length:Int)) (.z (o.length:Int))=some (.sl 1 0 o.length,A0++[.q (ak (List.replicate o.length 0))]):=by
  simp only [bY]
  rw [SA ⟨by omega,by omega,by omega,by omega,rfl,rfl,by omega⟩,SM,hA0]
  unfold ak
  rw [UP]; rfl
 have ebz:bJ o 0=List.replicate o.length 0:=by
  apply TB
  ·simp [bJ,rJ]
  ·intro i _ _; simp [bJ,rJ]
 have mk2:bY 1 8 (.z 0) (A0++[.q (ak (List.replicate o.length 0))]) (.z (o.length:Int)) (.z (o.length:Int))=some (.sl 2 0 o.length,A39 (ai T chv) (List.replicate o.length 0) (bJ o 0)):=by
  simp only [bY]
  rw [SA ⟨by omega,by omega,by omega,by omega,rfl,rfl,by omega⟩,SM,ebz,hA0]
  unfold A39 ak
  rw [UP]; rfl
 have lpb:=Il hm (fun t ht=>by have:=h.ob t ht; omega) ho (tv:=ai T chv) (xs:=List.replicate o.length 0) rv (.z free) (.p 0) (.z (wT T)) (.sl 1 0 o.length) o.length 0 300 (by omega) (by omega)
 rw [show ((0:Nat):Int)=0 from rfl] at lpb
 have lpe:=Ii h hcv hr ho (o.length+2) 0 300 (List.replicate o.length 0) 0 (by omega) (by omega) (by simp) (fun j=>by
  rw [Sr,TL]
  split <;> simp) (by have:(o.length+2)*o.length<=12*10:=Nat.mul_le_mul (by omega) hm; omega)
 unfold ya
 unfold Fg at lpe
 rw [show ((0:Nat):Int)=0 from rfl] at lpe
 clear hA0 ebz
 cases hre:(cu T rd free o).ref (o.length+2) (List.replicate o.length 0) with
 | none=>
  rw [hre] at lpe
  rcases lpe with ⟨σ,B,q1,q2,q3⟩ | ⟨r',B,q1⟩
  ·clear hre
   refine ⟨.nilS,B,?_,.inl ⟨rfl,rfl⟩⟩
   show bZ _ _ _ _ _=some (.tup [.nilS,.f],B)
   generalize A39 (ai T chv) (List.replicate o.length 0) (bJ o 0)=A2 at *
   generalize A39 (ai T chv) (List.replicate o.length 0) (bfL o)=A3 at *
   generalize A0++[Ent.q (ak (List.replicate o.length 0))]=A1 at *
   generalize ai T chv=tv at *
   generalize wT T=w at *
   rw [bo _ _ rfl]
   simp [zH,bx,ct,lt,ft,tn,m22,lno,mk1,mk2,BI lpb,BG q1,q2,q3,dI,-aR,-ab,-bY,-aj,-frz,-cellsOf]
  ·clear hre
   refine ⟨.nilS,B,?_,.inl ⟨rfl,rfl⟩⟩
   show bZ _ _ _ _ _=some (.tup [.nilS,.f],B)
   generalize A39 (ai T chv) (List.replicate o.length 0) (bJ o 0)=A2 at *
   generalize A39 (ai T chv) (List.replicate o.length 0) (bfL o)=A3 at *
   generalize A0++[Ent.q (ak (List.replicate o.length 0))]=A1 at *
   generalize ai T chv=tv at *
   generalize wT T=w at *
   rw [bo _ _ rfl]
   simp [zH,bx,ct,lt,ft,tn,m22,lno,mk1,mk2,BI lpb,BG q1,dI,-aR,-ab,-bY,-aj,-frz,-cellsOf]
 | some ys=>
  rw [hre] at lpe
  obtain ⟨σ,B,v,q1,q2,q3,q4⟩:=lpe
  refine ⟨v,B,?_,q4⟩
  show bZ _ _ _ _ _=some (.tup [v,.t],B)
  clear hre q4
  generalize A39 (ai T chv) (List.replicate o.length 0) (bJ o 0)=A2 at *
  generalize A39 (ai T chv) (List.replicate o.length 0) (bfL o)=A3 at *
  generalize A0++[Ent.q (ak (List.replicate o.length 0))]=A1 at *
  generalize ai T chv=tv at *
  generalize wT T=w at *
  rw [bo _ _ rfl]
  simp [zH,bx,ct,lt,ft,tn,m22,lno,mk1,mk2,BI lpb,BG q1,q2,q3,dI,-aR,-ab,-bY,-aj,-frz,-cellsOf]
end
theorem Au {lo L:Nat} {l:List dc} (h:OV 2 lo B v (l.map aX)) (b:Bool):∃v' X,Av L B (.tup [v,.bool b])=some (.tup [v',.bool b],X)/\∀A:ac,A.length=L->RV L (A++X) v' l/\OV 2 L (A++X) v' (l.map aX):=by
 rcases h with ⟨rfl,e⟩ | ⟨id,g,rfl,hne,_,hr⟩
 ·exact ⟨.nilS,[],rfl,fun A _=>⟨.inl ⟨rfl,UM.1 e⟩,.inl ⟨rfl,e⟩⟩⟩
 ·refine ⟨.sl L 0 (l.map aX).length,[.row 2 false (l.map aX)],?_,fun A hA=>⟨.inr ⟨L,SK _,by rw [SF],by rw [<-hA]; simp⟩,.inr ⟨L,false,rfl,hne,SK _,by rw [<-hA]; simp⟩⟩⟩
  unfold Av
  simp only [hr]
  rw [SA]
  refine ⟨trivial,trivial,rfl,?_⟩
  rw [SV]
  intro x hx
  obtain ⟨t,_,rfl⟩:=SU.1 hx
  rfl
def H39:aJ:=DV 4 (bZ (aq GC jj) 300 zH)
theorem G5:au prog GC 64 H39:=au.thaw (cj (ax wG) rfl (by kernel_rfl) vQ bO.nil) 4
theorem GM {T:aW} {rv ov:AV} {o:List Int} (h:zg T rd free o) (hcv:SlA 2 (T.ch.map chA) chv) (hr:SlA 1 (ak rd) rv) (ho:SlA 1 (ak o) ov) (hh:bj) {args:List AV} (A:ac) (hargs:args.map (frz A 4)=[ai T chv,rv,.z free,ov]) :
  ∃v X,H39 hh args A=some (.tup [v,.bool (ya T rd free o).isSome],A++X)/\OV 2 A.length (A++X) v (((ya T rd free o).getD []).map aX):=by
 obtain ⟨v,B,h1,h2⟩:=Je h hcv hr ho
 obtain ⟨v',X,h3,h4⟩:=Au (L:=A.length) h2 (ya T rd free o).isSome
 refine ⟨v',X,?_,(h4 A rfl).2⟩
 unfold H39
 rw [xM,hargs,h1,Te]
 simp only [h3,Th]
end Tr
namespace Tr
open Cy (GC aM aV az)
open Clu (aW aT ai chA aY bK cH bu bP bQ cr dR qb xX ny)
def LP (A:ac) (v:AV) (pl:List (Nat × List Int)):Prop:=
 (∀x∈pl,x.2≠[]/\∃g,A[x.1]?=some (.row 1 g (ak x.2)))/\((v=.nilS/\pl=[])\/∃id gr,v=.sl id 0 pl.length/\pl≠[]/\A[id]?=some (.row 1 gr (pl.map qb)))
theorem LP.keep (h:LP A v pl) (hk:∀j,j<A.length->B[j]?=A[j]?):LP B v pl:=by
 have hk:∀(j:Nat) (e:Ent),A[j]?=some e->B[j]?=some e:=fun j e h=>by rw [hk j (Sp.1 h).1]; exact h
 refine ⟨fun x hx=>⟨(h.1 x hx).1,?_⟩,?_⟩
 ·obtain ⟨g,hg⟩:=(h.1 x hx).2
  exact ⟨g,hk _ _ hg⟩
 ·rcases h.2 with h4 | ⟨id,gr,h4,h5,h6⟩
  ·exact .inl h4
  ·exact .inr ⟨id,gr,h4,h5,hk _ _ h6⟩
theorem LP.add (h:LP A v pl) {l:List Int} (hl:l≠[]) (hb:pl.length<=100000) {r y:Nat} {g:Bool} (hr:A[r]?=some (.row 1 g (ak l))) (hy:A[y]?=some (.q [.sl r 0 l.length])) :
  ∃v' A',aL 1 24 A v (.sl y 0 1)=some (v',A')/\LP A' v' (pl++[(r,l)]):=by
 obtain ⟨h3,h4⟩:=h
 have hsrc:a8 1 A (.sl y 0 1)=some [.sl r 0 l.length]:=by simp [a8,hy]
 rcases h4 with ⟨rfl,rfl⟩ | ⟨id,gr,rfl,hpl,hrow⟩
 ·refine ⟨.sl A.length 0 1,A++[.q [.sl r 0 l.length]],?_,⟨fun x hx=>?_,.inr ⟨A.length,false,by simp,by simp,by simp [qb]⟩⟩⟩
  ·unfold aL; rw [hsrc]; simp
  ·simp only [T3,SY] at hx
   subst hx
   exact ⟨hl,g,by rw [Sy (Sp.1 hr).1]; exact hr⟩
 ·have hidl:id<A.length:=(Sp.1 hrow).1
  have hlen:0<pl.length:=TI.2 hpl
  have hne:∀(m:List Int) g',m≠[]->(Ent.row 1 gr (pl.map qb))≠.row 1 g' (ak m):=fun m g' hm e=>by
   cases pl with
   | nil=>exact absurd rfl hpl
   | cons x r=>
    cases m with
    | nil=>exact hm rfl
    | cons y t=>simp [qb,ak] at e
  have hnid:∀j (m:List Int) g',m≠[]->A[j]?=some (.row 1 g' (ak m))->j≠id:=fun j m g' hm hj e=>by
   subst e
   rw [hrow] at hj
   injection hj with hj
   exact hne m g' hm hj
  refine ⟨.sl id 0 (pl.length+1),A.set id (.row 1 true (pl.map qb++[.sl r 0 l.length])),?_,⟨fun x hx=>?_,.inr ⟨id,true,by simp,by simp,?_⟩⟩⟩
  ·have hz:pl.length≠0:=by omega
   have hb2:(pl.length+1)*24<=140737488355328:=by omega
   unfold aL; rw [hsrc]; simp [hrow,hz,hb2]
  ·rcases Uk.1 hx with hx | hx
   ·obtain ⟨k1,g',k2⟩:=h3 x hx
    exact ⟨k1,g',by rw [Sz (fun e=>hnid _ _ _ k1 k2 e.symm)]; exact k2⟩
   ·rw [SY] at hx
    subst hx
    exact ⟨hl,g,by rw [Sz (fun e=>hnid _ _ _ hl hr e.symm)]; exact hr⟩
  ·rw [SG hidl,TD]; rfl
theorem LP.frz (h:LP A v pl) (k:Nat):Go.Proofs.YtkcjhljbgjpklaaGreat.frz A (k+3) v=dR (pl.map (·.2)):=by
 obtain ⟨h1,h2⟩:=h
 rcases h2 with ⟨rfl,rfl⟩ | ⟨id,gr,rfl,hne,hr⟩
 ·rfl
 ·have e:((pl.map qb).drop 0).take pl.length=pl.map qb:=by
   rw [SL]
   exact SR (by simp)
  have hm:(pl.map qb).map (Go.Proofs.YtkcjhljbgjpklaaGreat.frz A (k+2))=(pl.map (·.2)).map fun l=>slA 1 (ak l):=by
   rw [Ub,Ub]
   refine S3 fun x hx=>?_
   obtain ⟨n1,g,n2⟩:=h1 x hx
   show Go.Proofs.YtkcjhljbgjpklaaGreat.frz A (k+1+1) (.sl x.1 0 x.2.length)=_
   rw [pD n2 rfl]
   exact (xX n1).symm
  rw [show k+3=(k+2)+1 from rfl]
  simp only [Go.Proofs.YtkcjhljbgjpklaaGreat.frz,hr]
  rw [e,hm]
  unfold dR
  cases pl with
  | nil=>exact absurd rfl hne
  | cons x r=>rfl
theorem LP.fresh (h:LP A v pl) (k:Nat):bA A (k+4) v=true:=by
 obtain ⟨h1,h2⟩:=h
 rcases h2 with ⟨rfl,rfl⟩ | ⟨id,gr,rfl,hne,hr⟩
 ·rfl
 ·rw [show k+4=(k+3)+1 from rfl]
  simp only [bA,hr,SL]
  rw [SV]
  intro y hy
  obtain ⟨x,hx,rfl⟩:=SU.1 (Uo hy)
  obtain ⟨n1,g,n2⟩:=h1 x hx
  exact ny n2 (k+1)
section
variable {M:aU}
abbrev zN (M:aU):List (FuncId × aJ):=[(63,cU 4 M)]
@[simp] theorem O3:aD (zN M) 63=some (cU 4 M):=rfl
theorem Bq (hos:os.length<=1100) (hlo:∀o∈os,o.length<=1000) (hk:k<=100) (v0 v3:AV):∀(c j m:Nat) (A:ac) (v:AV) (pl:List (Nat × List Int)),j+c=os.length->c<m->LP A v pl->pl.length+c<=90000 ->
  ∃v' B pl',bG (evC (aq GC (zN M)) 1200 qy) pj m (r7 v0 v v3 (.z (k:Int)) (dR os) (.z (j:Int))) A=some (.exit 2 ((r7 v0 v' v3 (.z (k:Int)) (dR os) (.z (os.length:Int))).set 12 .f) B)/\LP B v' pl'/\pl'.map (·.2)=pl.map (·.2)++(os.drop j).map (((k:Int)+1) :: ·)/\pl'.length=pl.length+c:=by
 have hO:SlA 1 (os.map fun l=>slA 1 (ak l)) (dR os):=aZ _ _
 have hlen:=hO.len
 rw [SF] at hlen
 intro c
 induction c with
 | zero=>
  intro j m A v pl hj hm hL hpl
  obtain ⟨m,rfl⟩:∃j,m=j+1:=⟨m-1,by omega⟩
  obtain rfl:j=os.length:=by omega
  refine ⟨v,A,pl,?_,hL,by rw [TN]; simp,rfl⟩
  have b0:=be os.length os.length .i64
  rw [Ss (by omega)] at b0
  rw [UB rfl]
  generalize dR os=OV1 at *
  simp [qy,b0,hlen,-af,-aj]
 | succ c ih=>
  intro j m A v pl hj hm hL hpl
  obtain ⟨m,rfl⟩:∃j,m=j+1:=⟨m-1,by omega⟩
  have hjl:j<os.length:=by omega
  have b0:=be j os.length .i64
  rw [Su hjl] at b0
  have b9:=aP j (by omega)
  have bk:af .add (.z (k:Int)) (.z 1)=some (.z ((k:Int)+1)):=aY (by omega)
  obtain ⟨o,ho⟩:∃o,o=os[j]:=⟨_,rfl⟩
  have hol:o.length<=1000:=by rw [ho]; exact hlo _ (SC hjl)
  have hsol:(slA 1 (ak o)).solid=true/\cellsOf (slA 1 (ak o))=[slA 1 (ak o)]:=oa (aZ 1 (ak o))
  have x1:∀A,ae 1 A (dR os) (.z (j:Int))=some (.fp [slA 1 (ak o)]):=fun A=>by
   rw [ho]
   exact hO.index1 (x:=slA 1 (ak os[j])) (i:=j) (by simp [hjl]) (by rw [<-ho]; exact hsol.1) (by rw [<-ho]; exact hsol.2) .i64
  have l1:∀A,ab false 1 A (.fp [slA 1 (ak o)])=some (slA 1 (ak o)):=fun A=>by
   rcases aZ 1 (ak o) with ⟨e,_⟩ | e <;> rw [e] <;> rfl
  obtain ⟨N,hN⟩:∃N,N=A.length:=⟨_,rfl⟩
  have bs1:aI 1 [.z ((k:Int)+1)] A=some (.sl N 0 1,A++[.q [.z ((k:Int)+1)]]):=by simp [aI,hN]
  obtain ⟨A1,hA1⟩:∃A1,A1=A++[Ent.row 1 true (ak (((k:Int)+1) :: o))]:=⟨_,rfl⟩
  have ap1:aL 1 8 (A++[.q [.z ((k:Int)+1)]]) (.sl N 0 1) (slA 1 (ak o))=some (.sl N 0 (1+o.length),A1):=by
   have hs:=(aZ 1 (ak o)).src (A:=A++[.q [.z ((k:Int)+1)]])
   have hr:(A++[Ent.q [.z ((k:Int)+1)]])[N]?=some (.q [.z ((k:Int)+1)]):=by rw [hN]; simp
   simp only [aL,hs,hr,az]
   rw [SA ⟨trivial,by omega,by omega,by omega⟩,SA ⟨trivial,rfl,by omega⟩,hA1,hN]
   simp [ak]
  have hA1l:A1.length=N+1:=by rw [hA1,hN]; simp
  have bs2:aI 1 [.sl N 0 (1+o.length)] A1=some (.sl (N+1) 0 1,A1++[.q [.sl N 0 (1+o.length)]]):=by simp [aI,hA1l]
  obtain ⟨v1,B1,ap2,hL1⟩:=(hL.keep (B:=A1++[.q [.sl N 0 (1+o.length)]]) (fun j hj=>by rw [hA1,SO,Sy hj])).add (l:=((k:Int)+1) :: o) (by simp) (by omega) (r:=N) (y:=N+1) (g:=true) (by
    rw [Sy (by omega),hA1,hN]; simp) (by
    rw [SJ (by omega),hA1l,Uq,Nat.add_comm]; rfl)
  obtain ⟨v2,B2,pl2,g1,g2,g3,g4⟩:=ih (j+1) m B1 v1 (pl++[(N,((k:Int)+1) :: o)]) (by omega) (by omega) hL1 (by simp; omega)
  refine ⟨v2,B2,pl2,?_,g2,?_,by rw [g4]; simp; omega⟩
  ·rw [UB rfl]
   obtain ⟨w,hw⟩:∃w,w=((j+1:Nat):Int):=⟨_,rfl⟩
   rw [<-hw] at b9 g1
   have e:run (aq GC (zN M)) 1200 [.code qy] (r7 v0 v v3 (.z (k:Int)) (dR os) (.z (j:Int))) A=some (.normal (r7 v0 v1 v3 (.z (k:Int)) (dR os) (.z w)) B1):=by
    clear g1 ih hL1 hL hO hsol
    generalize slA 1 (ak o)=ov at *
    generalize dR os=OV1 at *
    generalize A1++[Ent.q [.sl N 0 (1+o.length)]]=A3 at *
    generalize A++[Ent.q [.z ((k:Int)+1)]]=A2 at *
    generalize 1+o.length=ol at *
    generalize (k:Int)+1=k1 at *
    simp [qy,b0,b9,bk,hlen,x1,l1,bs1,ap1,bs2,ap2,-af,-aj,-ab,-ae,-aI]
   rw [e]
   exact g1
  ·rw [g3,To hjl,<-ho]
   simp
def Jm (os:Nat->List (List Int)) (b:List Bool) (i:Nat):List (List Int):=(List.range i).flatMap fun k=>if kP b k then (os k).map (((k:Int)+1) :: ·) else []
theorem Bb (os:Nat->List (List Int)) (b:List Bool) (i:Nat):Jm os b (i+1)=Jm os b i++(if kP b i then (os i).map (((i:Int)+1) :: ·) else []):=by
 unfold Jm
 rw [T7,Uu]
 simp
theorem E2 {b:List Bool} (h:k<b.length):(b.take (k+1)).any id=((b.take k).any id || b.getD k false):=by
 rw [List.take_add_one,List.any_append,Sq h,Sr,Sq h]
 simp
theorem Bp {b:List Bool} (hb:SlA 1 (aS b) bv) (hn:b.length<=4) {os:Nat->List (List Int)} (hM:∀k,k<b.length->kP b k=true->M [.fs 1 (aS (mvB b k))]=some (dR (os k))/\(os k).length<=1100/\∀o∈os k,o.length<=1000):∀(c k m:Nat) (A:ac) (v:AV) (pl:List (Nat × List Int)),k+c=b.length->c<m->LP A v pl->pl.map (·.2)=Jm os b k->pl.length<=1200*k ->
  ∃v' B pl',bG (evC (aq GC (zN M)) 1200 gz) jV m (fW bv v (.bool (!(b.take k).any id)) (.z (k:Int))) A=some (.exit 0 ((fW bv v' (.bool (!b.any id)) (.z (b.length:Int))).set 8 .f) B)/\LP B v' pl'/\pl'.map (·.2)=Jm os b b.length:=by
 have hlen:=hb.len
 rw [cZ] at hlen
 intro c
 induction c with
 | zero=>
  intro k m A v pl hk hm hL hp hpl
  obtain ⟨m,rfl⟩:∃j,m=j+1:=⟨m-1,by omega⟩
  obtain rfl:k=b.length:=by omega
  refine ⟨v,A,pl,?_,hL,hp⟩
  rw [SX]
  have b0:=be b.length b.length .i64
  rw [Ss (by omega)] at b0
  rw [UB rfl]
  generalize b.any id=an at *
  simp [gz,b0,hlen,-af,-aj]
 | succ c ih=>
  intro k m A v pl hk hm hL hp hpl
  obtain ⟨m,rfl⟩:∃j,m=j+1:=⟨m-1,by omega⟩
  have hkl:k<b.length:=by omega
  have b0:=be k b.length .i64
  rw [Su hkl] at b0
  have b9:=aP k (by omega)
  have gk:b.getD k false=b[k]:=by rw [Sr,Sq hkl]; rfl
  have x1:∀A,ae 1 A bv (.z (k:Int))=some (.fp [.bool (b.getD k false)]):=fun A=>by rw [gk]; exact xg hb hkl .i64
  have l1:∀A z,ab false 1 A (.fp [.bool z])=some (.bool z):=fun _ _=>rfl
  have hat:=E2 hkl
  have b1:=be (k+1) b.length .i64
  have hcan:kP b k=(b.getD k false && (decide (k+1=b.length) || !b.getD (k+1) false)):=rfl
  have hps:=Bb os b k
  have ihn:=ih (k+1) m
  rw [hat] at ihn
  rw [UB rfl]
  generalize (b.take k).any id=fl at *
  obtain ⟨w,hw⟩:∃w,w=((k+1:Nat):Int):=⟨_,rfl⟩
  rw [<-hw] at b9 b1 ihn
  cases hg:b.getD k false with
  | false=>
   rw [hg] at x1 hcan ihn
   have hc:kP b k=false:=by rw [hcan]; rfl
   rw [hc] at hps
   simp only [SZ,Uc,S5] at hps
   rw [Bool.or_false] at ihn
   obtain ⟨v',B,pl',g1,g2,g3⟩:=ihn A v pl (by omega) (by omega) hL (by rw [hp,hps]) (by omega)
   refine ⟨v',B,pl',?_,g2,g3⟩
   have e:run (aq GC (zN M)) 1200 [.code gz] (fW bv v (.bool (!fl)) (.z (k:Int))) A=some (.normal (fW bv v (.bool (!fl)) (.z w)) A):=by
    clear g1 ihn ih hM hb hL
    generalize (!fl)=nf at *
    simp [gz,b0,b9,hlen,x1,l1,-af,-aj,-ab,-ae]
   rw [e]
   exact g1
  | true=>
   rw [hg] at x1 hcan ihn
   rw [Bool.or_true,Bool.not_true] at ihn
   by_cases hk1:k+1<b.length
   ·rw [Su hk1] at b1
    have gk1:b.getD (k+1) false=b[k+1]:=by rw [Sr,Sq hk1]; rfl
    have x2:∀A,ae 1 A bv (.z w)=some (.fp [.bool (b.getD (k+1) false)]):=fun A=>by rw [gk1,hw]; exact xg hb hk1 .i64
    cases hg1:b.getD (k+1) false with
    | true=>
     rw [hg1] at x2 hcan
     have hc:kP b k=false:=by rw [hcan,Ss (by omega)]; rfl
     rw [hc] at hps
     simp only [SZ,Uc,S5] at hps
     obtain ⟨v',B,pl',g1,g2,g3⟩:=ihn A v pl (by omega) (by omega) hL (by rw [hp,hps]) (by omega)
     refine ⟨v',B,pl',?_,g2,g3⟩
     have e:run (aq GC (zN M)) 1200 [.code gz] (fW bv v (.bool (!fl)) (.z (k:Int))) A=some (.normal (fW bv v .f (.z w)) A):=by
      clear g1 ihn ih hM hb hL
      generalize (!fl)=nf at *
      simp [gz,b0,b9,b1,hlen,x1,x2,l1,-af,-aj,-ab,-ae]
     rw [e]
     exact g1
    | false=>
     rw [hg1] at x2 hcan
     have hc:kP b k=true:=by rw [hcan]; simp
     rw [hc,SA rfl] at hps
     obtain ⟨m38,hol,hool⟩:=hM k hkl hc
     obtain ⟨N,hN⟩:∃N,N=A.length:=⟨_,rfl⟩
     have bs:aI 1 [] A=some (.sl N 0 0,A++[.q []]):=by simp [aI,hN]
     have ap:=q5 (esz:=1) (bytes:=1) (by omega) (by omega) hN hb (by rw [cZ]; omega)
     rw [cZ] at ap
     have hrow:∀c,(A++[Ent.dead,.q (aS c)])[N+1]?=some (.q (aS c)):=fun c=>by rw [SJ (by omega),hN,show A.length+1-A.length=1 by omega]; rfl
     have hset:∀c c',(A++[Ent.dead,.q (aS c)]).set (N+1) (.q (aS c'))=A++[.dead,.q (aS c')]:=fun c c'=>by rw [SQ _ _ (by omega),hN,show A.length+1-A.length=1 by omega]; rfl
     have i0:=cG (n:=b.length) (hrow b) hkl .i64
     have s0:=kR (hrow b) hkl false
     rw [hset] at s0
     have i1:=cG (n:=b.length) (hrow (b.set k false)) hk1 .i64
     rw [<-hw] at i1
     have s1:=kR (hrow (b.set k false)) (show k+1<(b.set k false).length by rw [Ti]; exact hk1) true
     rw [hset,show (b.set k false).set (k+1) true=mvB b k by unfold mvB; rw [SD (by omega)]] at s1
     have fz:frz (A++[.dead,.q (aS (mvB b k))]) 4 (.sl (N+1) 0 b.length)=.fs 1 (aS (mvB b k)):=by
      have e:=dB (off:=0) (xs:=aS (mvB b k)) (hrow (mvB b k)) (by rw [SL,SX]) (fun k x hx=>by
       obtain ⟨c,_,rfl⟩:=SU.1 hx
       exact aV _ _ _) 2
      rw [cZ,g8] at e
      exact e
     obtain ⟨v1,B1,pl1,q1,q2,q3,q4⟩:=Bq (M:=M) hol hool (k:=k) (by omega) bv .f (os k).length 0 1200 (A++[.dead,.q (aS (mvB b k))]) v pl (by omega) (by omega) (hL.keep fun j hj=>by rw [Sy hj]) (by omega)
     rw [SL] at q3
     rw [show ((0:Nat):Int)=0 from rfl] at q1
     obtain ⟨v',B,pl',g1,g2,g3⟩:=ihn B1 v1 pl1 (by omega) (by omega) q2 (by rw [q3,hp,hps]) (by omega)
     refine ⟨v',B,pl',?_,g2,g3⟩
     have e:run (aq GC (zN M)) 1200 [.code gz] (fW bv v (.bool (!fl)) (.z (k:Int))) A=some (.normal (fW bv v1 .f (.z w)) B1):=by
      clear g1 ihn ih hM hb hL hrow hset
      generalize (!fl)=nf at *
      generalize A++[Ent.dead,.q (aS (mvB b k))]=A3 at *
      generalize A++[Ent.dead,.q (aS (b.set k false))]=A2 at *
      generalize A++[Ent.dead,.q (aS b)]=A1 at *
      generalize A++[Ent.q []]=A0 at *
      generalize aS (mvB b k)=bm at *
      generalize dR (os k)=ok at *
      simp [gz,b0,b9,b1,hlen,x1,x2,l1,bs,ap,i0,s0,i1,s1,fz,m38,FX q1,-af,-aj,-ab,-ae,-aA,-aI,-frz]
     rw [e]
     exact g1
   ·
    rw [Ss hk1] at b1
    have hkn:k+1=b.length:=by omega
    have hc:kP b k=true:=by rw [hcan,Su hkn]; rfl
    rw [hc,SA rfl] at hps
    obtain ⟨m38,hol,hool⟩:=hM k hkl hc
    obtain ⟨N,hN⟩:∃N,N=A.length:=⟨_,rfl⟩
    have bs:aI 1 [] A=some (.sl N 0 0,A++[.q []]):=by simp [aI,hN]
    have ap:=q5 (esz:=1) (bytes:=1) (by omega) (by omega) hN hb (by rw [cZ]; omega)
    rw [cZ] at ap
    have hrow:∀c,(A++[Ent.dead,.q (aS c)])[N+1]?=some (.q (aS c)):=fun c=>by rw [SJ (by omega),hN,show A.length+1-A.length=1 by omega]; rfl
    have hset:∀c c',(A++[Ent.dead,.q (aS c)]).set (N+1) (.q (aS c'))=A++[.dead,.q (aS c')]:=fun c c'=>by rw [SQ _ _ (by omega),hN,show A.length+1-A.length=1 by omega]; rfl
    have i0:=cG (n:=b.length) (hrow b) hkl .i64
    have s0:=kR (hrow b) hkl false
    rw [hset,show b.set k false=mvB b k by unfold mvB; rw [SA hkn]] at s0
    have fz:frz (A++[.dead,.q (aS (mvB b k))]) 4 (.sl (N+1) 0 b.length)=.fs 1 (aS (mvB b k)):=by
     have e:=dB (off:=0) (xs:=aS (mvB b k)) (hrow (mvB b k)) (by rw [SL,SX]) (fun k x hx=>by
      obtain ⟨c,_,rfl⟩:=SU.1 hx
      exact aV _ _ _) 2
     rw [cZ,g8] at e
     exact e
    obtain ⟨v1,B1,pl1,q1,q2,q3,q4⟩:=Bq (M:=M) hol hool (k:=k) (by omega) bv .f (os k).length 0 1200 (A++[.dead,.q (aS (mvB b k))]) v pl (by omega) (by omega) (hL.keep fun j hj=>by rw [Sy hj]) (by omega)
    rw [SL] at q3
    rw [show ((0:Nat):Int)=0 from rfl] at q1
    obtain ⟨v',B,pl',g1,g2,g3⟩:=ihn B1 v1 pl1 (by omega) (by omega) q2 (by rw [q3,hp,hps]) (by omega)
    refine ⟨v',B,pl',?_,g2,g3⟩
    have e:run (aq GC (zN M)) 1200 [.code gz] (fW bv v (.bool (!fl)) (.z (k:Int))) A=some (.normal (fW bv v1 .f (.z w)) B1):=by
     clear g1 ihn ih hM hb hL hrow hset
     generalize (!fl)=nf at *
     generalize A++[Ent.dead,.q (aS (mvB b k))]=A3 at *
     generalize A++[Ent.dead,.q (aS b)]=A1 at *
     generalize A++[Ent.q []]=A0 at *
     generalize aS (mvB b k)=bm at *
     generalize dR (os k)=ok at *
     simp [gz,b0,b9,b1,hlen,x1,l1,bs,ap,i0,s0,fz,m38,FX q1,-af,-aj,-ab,-ae,-aA,-aI,-frz]
    rw [e]
    exact g1
end
theorem IY:∀b:List Bool,b.length<=4->((List.range b.length).filter (kP b)).length<=2
 | [],_=>by decide
 | [a],_=>by revert a; decide
 | [a,b],_=>by revert a b; decide
 | [a,b,c],_=>by revert a b c; decide
 | [a,b,c,d],_=>by revert a b c d; decide
 | _ :: _ :: _ :: _ :: _ :: _,h=>by simp at h
theorem yH {α:Type} (f:Nat->List α) (p:Nat->Bool) (K:Nat) (hf:∀k,(f k).length<=K):∀l:List Nat,(l.flatMap fun k=>if p k then f k else []).length<=(l.filter p).length*K
 | []=>by simp
 | a :: r=>by
  have ih:=yH f p K hf r
  rw [Uj,SW,Uw]
  by_cases h:p a=true
  ·rw [SA h,SA h,Tn,Nat.succ_mul]
   have:=hf a
   omega
  ·rw [SD h,SD h]; simpa using ih
theorem tS:∀(d:Nat) (b:List Bool),b.length<=4->(gZ d b).length<=2 ^ d/\∀o∈gZ d b,o.length<=d
 | 0,b,h=>by
  unfold gZ
  split <;> simp
 | d+1,b,h=>by
  unfold gZ
  split
  ·have ih:∀k,(gZ d (mvB b k)).length<=2 ^ d/\∀o∈gZ d (mvB b k),o.length<=d:=fun k=>tS d (mvB b k) (by rw [g8]; exact h)
   refine ⟨?_,fun o ho=>?_⟩
   ·have h1:=yH (fun k=>(gZ d (mvB b k)).map (((k:Int)+1) :: ·)) (kP b) (2 ^ d) (fun k=>by rw [SF]; exact (ih k).1) (List.range b.length)
    have h2:=IY b h
    refine TK h1 ?_
    rw [Nat.pow_succ,Vk (2 ^ d) 2]
    exact ST _ h2
   ·obtain ⟨k,_,hk⟩:=U6.1 ho
    split at hk
    ·obtain ⟨o',ho',rfl⟩:=SU.1 hk
     have:=(ih k).2 o' ho'
     simp; omega
    ·cases hk
  ·have:=Nat.one_le_two_pow (n:=d+1)
   simp
   omega
def M38:Nat->aU
 | 0=>fun args=>evF (aq GC []) 0 ql 4 args
 | d+1=>fun args=>evF (aq GC (zN (M38 d))) 1200 ql 4 args
theorem jm:∀d,cm prog GC 63 (M38 d)
 | 0=>cm.of_ev (E:=aq GC []) (ax aB) rfl JA s5 4 fun _ _ h=>⟨0,h⟩
 | d+1=>cm.of_ev (E:=aq GC (zN (M38 d))) (ax (ag (au.of_pureF (jm d) 4) aB)) rfl JA s5 4 fun _ _ h=>⟨1200,h⟩
theorem MW:∀(d:Nat) (b:List Bool) (bv:AV),d<=10->b.length<=4->mB b<=d->SlA 1 (aS b) bv->M38 (d+1) [bv]=some (dR (gZ d b)):=by
 intro d
 induction d with
 | zero=>
  intro b bv hd hn hm hb
  have ha:=qs b (by omega)
  obtain ⟨v',B,pl',g1,g2,g3⟩:=Bp (M:=M38 0) hb hn (os:=fun _=>[]) (fun k hk hc=>by
   have:=(iZ.1 hc).1
   rw [pH ha k] at this
   cases this) b.length 0 1200 [] .nilS [] (by omega) (by omega) ⟨fun x hx=>(by cases hx),.inl ⟨rfl,rfl⟩⟩ rfl (by simp)
  rw [ha,show ((0:Nat):Int)=0 from rfl] at g1
  have g1':bG (evC (aq GC (zN (M38 0))) 1200 gz) jV 1200 (fW bv .nilS .t (.z 0)) []=some (.exit 0 ((fW bv v' .t (.z (b.length:Int))).set 8 .f) B):=g1
  have eo:gZ 0 b=[[]]:=by unfold gZ; rw [ha]; rfl
  rw [eo]
  obtain ⟨N,hN⟩:∃N,N=B.length:=⟨_,rfl⟩
  have bs:aI 1 [.nilS] B=some (.sl N 0 1,B++[.q [.nilS]]):=by simp [aI,hN]
  have hr:(B++[Ent.q [.nilS]])[N]?=some (.q [.nilS]):=by rw [hN]; simp
  have fz:frz (B++[.q [.nilS]]) 4 (.sl N 0 1)=dR [[]]:=by simp only [frz,hr]; rfl
  have fb:bA (B++[.q [.nilS]]) 4 (.sl N 0 1)=true:=by simp only [bA,hr]; rfl
  unfold M38
  clear g1 g2 g3 hr eo hN
  generalize M38 0=M0 at *
  generalize B++[Ent.q [.nilS]]=B1 at *
  rw [fU _ _ rfl]
  simp [ql,BJ g1',bs,fz,fb,dI,-aI,-frz]
 | succ d ih=>
  intro b bv hd hn hm hb
  have hpow:2 ^ d<=2 ^ 9:=Nat.pow_le_pow_right (by omega) (by omega)
  obtain ⟨v',B,pl',g1,g2,g3⟩:=Bp (M:=M38 (d+1)) hb hn (os:=fun k=>gZ d (mvB b k)) (fun k hk hc=>by
   have h1:=w9 hk hc
   have h2:=tS d (mvB b k) (by rw [g8]; exact hn)
   have hml:0<(mvB b k).length:=by rw [g8]; omega
   have hS:SlA 1 (aS (mvB b k)) (.fs 1 (aS (mvB b k))):=.inr rfl
   exact ⟨ih (mvB b k) _ (by omega) (by rw [g8]; exact hn) (by omega) hS,by omega,fun o ho=>by have:=h2.2 o ho; omega⟩) b.length 0 1200 [] .nilS [] (by omega) (by omega) ⟨fun x hx=>(by cases hx),.inl ⟨rfl,rfl⟩⟩ rfl (by simp)
  rw [show ((0:Nat):Int)=0 from rfl] at g1
  have g1':bG (evC (aq GC (zN (M38 (d+1)))) 1200 gz) jV 1200 (fW bv .nilS .t (.z 0)) []=some (.exit 0 ((fW bv v' (.bool (!b.any id)) (.z (b.length:Int))).set 8 .f) B):=g1
  rw [show M38 (d+1+1) [bv]=evF (aq GC (zN (M38 (d+1)))) 1200 ql 4 [bv] from rfl]
  cases ha:b.any id with
  | false=>
   rw [ha] at g1'
   have eo:gZ (d+1) b=[[]]:=by unfold gZ; rw [ha]; rfl
   rw [eo]
   obtain ⟨N,hN⟩:∃N,N=B.length:=⟨_,rfl⟩
   have bs:aI 1 [.nilS] B=some (.sl N 0 1,B++[.q [.nilS]]):=by simp [aI,hN]
   have hr:(B++[Ent.q [.nilS]])[N]?=some (.q [.nilS]):=by rw [hN]; simp
   have fz:frz (B++[.q [.nilS]]) 4 (.sl N 0 1)=dR [[]]:=by simp only [frz,hr]; rfl
   have fb:bA (B++[.q [.nilS]]) 4 (.sl N 0 1)=true:=by simp only [bA,hr]; rfl
   rw [Bool.not_false] at g1'
   clear g1 g2 g3 hr eo hN ih
   generalize M38 (d+1)=M0 at *
   generalize B++[Ent.q [.nilS]]=B1 at *
   rw [fU _ _ rfl]
   simp [ql,BJ g1',bs,fz,fb,dI,-aI,-frz]
  | true=>
   rw [ha,Bool.not_true] at g1'
   have eo:gZ (d+1) b=Jm (fun k=>gZ d (mvB b k)) b b.length:=by
    conv=>lhs; unfold gZ
    rw [ha]; rfl
   have fz:=g2.frz 1
   have fb:=g2.fresh 0
   rw [g3,<-eo] at fz
   clear g1 g2 g3 eo ih
   generalize M38 (d+1)=M0 at *
   rw [fU _ _ rfl]
   simp [ql,BJ g1',fz,fb,dI,-aI,-frz]
end Tr
namespace Tr
open Clu (aW aT)
def ji (l:List dc):Int:=(l.getD (l.length-1) (0,0)).2
def drR (T:aW) (rd:List Int) (free:Int) (s:Option (List dc)) (o:List Int):Option (List dc):=
 match ya T rd free o with
 | none=>s
 | some l=>match s with
  | none=>some l
  | some b=>if 0<l.length/\ji l<ji b then some l else some b
theorem pg {T:aW} {o:List Int} {l:List dc} (h:ya T rd free o=some l):l.length=o.length:=by
 unfold ya at h
 rw [SE] at h
 obtain ⟨xs,_,rfl⟩:=h
 rw [gy]
theorem Gc {T:aW} (hS:Sit T rd free) {o:List Int} (hE:Emp (b0 rd) o) {l:List dc} (h:dg T rd free o=some l):(gV T rd free l).getD 0=if l.length=0 then free else ji l+wT T:=by
 obtain ⟨X,x0,hl,⟨s,hs⟩,_⟩:=il hS hE h
 have hll:l.length=o.length:=by rw [hl,gy]
 rw [hl] at hs
 have hf:=((ng hS x0 hE).2 s hs).1
 unfold gV
 rw [SA hS,hl,hs]
 show s.fin=_
 rw [hf]
 by_cases h0:o=[]
 ·subst h0
  rw [SA rfl,SA (by rw [gy]; rfl)]
 ·have hpos:0<o.length:=TI.2 h0
  rw [SD h0,SD (by rw [gy]; omega)]
  unfold ji
  have:(mkX X 0 o)[(mkX X 0 o).length-1]?=some (o.getD (o.length-1) 0,X o.length):=by
   have key:∀(o:List Int) (i j:Nat),j<o.length->(mkX X i o)[j]?=some (o.getD j 0,X (i+1+j)):=by
    intro o
    induction o with
    | nil=>intro i j h; simp at h
    | cons t r ih=>
     intro i j h
     cases j with
     | zero=>rfl
     | succ j=>
      have:=ih (i+1) j (by simpa using h)
      simp only [mkX,T6,List.getD_cons_succ]
      rw [this,show i+1+1+j=i+1+(j+1) by omega]
   have:=key o 0 (o.length-1) (by omega)
   rw [gy,this,show 0+1+(o.length-1)=o.length by omega]
  rw [Sr,this]; rfl
theorem yG {T:aW} (hS:Sit T rd free):∀(os:List (List Int)) (s:Option (List dc × Int)),(∀o∈os,Emp (b0 rd) o)->(∀x,s=some x->∃o,Emp (b0 rd) o/\dg T rd free o=some x.1/\x.2=(gV T rd free x.1).getD 0) ->
  os.foldl (drR T rd free) (s.map (·.1))=(os.foldl (gg T rd free) s).map (·.1)
 | [],s,_,_=>rfl
 | o :: r,s,ho,hs=>by
  have hE:=ho o (by simp)
  have hr:∀o∈r,Emp (b0 rd) o:=fun o h=>ho o (TE _ h)
  rw [Ta,Ta]
  have e:drR T rd free (s.map (·.1)) o=(gg T rd free s o).map (·.1)/\∀x,gg T rd free s o=some x->∃o,Emp (b0 rd) o/\dg T rd free o=some x.1/\x.2=(gV T rd free x.1).getD 0:=by
   unfold drR gg
   rw [wZ hS hE]
   cases ht:dg T rd free o with
   | none=>exact ⟨rfl,hs⟩
   | some l=>
    cases s with
    | none=>exact ⟨rfl,fun x hx=>by injection hx with hx; subst hx; exact ⟨o,hE,ht,rfl⟩⟩
    | some x=>
     obtain ⟨o2,h1,h2,h3⟩:=hs x rfl
     have e1:=Gc hS hE ht
     have e2:=Gc hS h1 h2
     have l1:l.length=mB (b0 rd):=by
      rw [<-wZ hS hE] at ht
      rw [pg ht,nK hE]
     have l2:x.1.length=mB (b0 rd):=by
      rw [<-wZ hS h1] at h2
      rw [pg h2,nK h1]
     have key:(0<l.length/\ji l<ji x.1)↔(gV T rd free l).getD 0<x.2:=by
      rw [h3,e1,e2,l1,l2]
      by_cases h0:mB (b0 rd)=0
      ·rw [SA h0,SA h0]; omega
      ·rw [SD h0,SD h0]; omega
     simp only [Th]
     by_cases hc:0<l.length/\ji l<ji x.1
     ·rw [SA hc,SA (key.1 hc)]
      exact ⟨rfl,fun y hy=>by injection hy with hy; subst hy; exact ⟨o,hE,ht,rfl⟩⟩
     ·rw [SD hc,SD (fun k=>hc (key.2 k))]
      exact ⟨rfl,hs⟩
  rw [e.1]
  exact yG hS r _ hr e.2
theorem Cc {T:aW} (hS:Sit T rd free):(gZ 10 (b0 rd)).foldl (drR T rd free) none=cK T rd free:=by
 have:=yG hS (gZ 10 (b0 rd)) none (fun o ho=>(qi hS).1 ho) (fun x h=>by cases h)
 unfold cK drF
 rw [SA hS,<-this]; rfl
end Tr
namespace Tr
open Cy (GC aM aV az)
open Clu (aW aT ai chA aQ aY bK cH bu bP bQ cr dR qb xX)
def fsz:List (FuncId × aJ):=[(61,aE 4 M35),(28,aE 4 M30),(63,cU 4 (M38 11)),(64,H39)]
theorem Kf:∀f M,aD fsz f=some M->au prog GC f M:=ag (au.of_pure sg 4) (ag (au.of_pure lR 4) (ag (au.of_pureF (jm 11) 4) (ag G5 aB)))
def A15 (tv:AV) (L:List Bool):ac:=[.row 5 false [tv],.q (aS L)]
theorem Jk (tv:AV) (L:List Bool):(A15 tv L)[1]?=some (.q (aS L)):=rfl
theorem RM (tv:AV) (L L':List Bool):(A15 tv L).set 1 (.q (aS L'))=A15 tv L':=rfl
theorem MG {e lo:Nat} {l:List dc} (he:e=2) (h:OV e lo A v (l.map aX)):RdV A.length A v l:=by
 subst he
 rcases h with ⟨rfl,e⟩ | ⟨id,g,rfl,_,_,hr⟩
 ·exact .inl (.inl ⟨rfl,e⟩)
 ·exact .inr ⟨id,g,by rw [SF],(Sp.1 hr).1,hr⟩
section
variable {fs:List (FuncId × aJ)} {T:aW} {chv rv:AV} {rd:List Int} {free:Int}
theorem Iv (hr:SlA 1 (ak rd) rv) (hl:rd.length<=200) {tv:AV} (v2 v4:AV):∀(c i m:Nat),i+c=rd.length->c<m ->
  bG (evC (aq GC fs) 1200 jB) gT m (lQ rv v2 v4 (.sl 1 0 rd.length) (.z (i:Int))) (A15 tv (rJ (fun j=>decide (0<=rd.getD j 0)) (fun _=>false) rd.length i))=some (.exit 0 ((lQ rv v2 v4 (.sl 1 0 rd.length) (.z (rd.length:Int))).set 17 .f) (A15 tv (b0 rd))):=by
 have hlr:=hr.len
 rw [az] at hlr
 intro c
 induction c with
 | zero=>
  intro i m hi hm
  obtain ⟨m,rfl⟩:∃j,m=j+1:=⟨m-1,by omega⟩
  obtain rfl:i=rd.length:=by omega
  have e:rJ (fun j=>decide (0<=rd.getD j 0)) (fun _=>false) rd.length rd.length=b0 rd:=by
   rw [Fk]
   apply TB
   ·simp [b0]
   ·intro i h1 h2
    have hi:i<rd.length:=by simpa using h1
    simp [b0,hi]
  rw [e]
  have b0':=be rd.length rd.length .i64
  rw [Ss (by omega)] at b0'
  rw [aG,vY]
  generalize A15 tv (b0 rd)=A at *
  simp [jB,b0',hlr,-af,-aj]
 | succ c ih=>
  intro i m hi hm
  obtain ⟨m,rfl⟩:∃j,m=j+1:=⟨m-1,by omega⟩
  have hil:i<rd.length:=by omega
  have ih:=ih (i+1) m (by omega) (by omega)
  have b0':=be i rd.length .i64
  rw [Su hil] at b0'
  have b9:=aP i (by omega)
  have y1:∀A,ae 1 A rv (.z (i:Int))=some (.fp [.z (rd.getD i 0)]):=fun A=>by
   have e:rd.getD i 0=rd[i]:=by rw [Sr,Sq hil]; rfl
   rw [e]
   exact hr.index1 (x:=.z rd[i]) (i:=i) (by simp [ak,hil]) rfl rfl .i64
  have l1:∀A z,ab false 1 A (.fp [.z z])=some (.z z):=fun _ _=>rfl
  have b1:af .geq (.z (rd.getD i 0)) (.z 0)=some (.bool (decide (0<=rd.getD i 0))):=by simp [af]
  have i1:=cG (n:=rd.length) (Jk tv (rJ (fun j=>decide (0<=rd.getD j 0)) (fun _=>false) rd.length i)) hil .i64
  have s1:=kR (Jk tv (rJ (fun j=>decide (0<=rd.getD j 0)) (fun _=>false) rd.length i)) (show i<_ by rw [Fj]; exact hil) (decide (0<=rd.getD i 0))
  rw [RM,Fi (fun j=>decide (0<=rd.getD j 0)) (fun _=>false) hil] at s1
  rw [aG,vY]
  obtain ⟨w,hw⟩:∃w,w=((i+1:Nat):Int):=⟨_,rfl⟩
  rw [<-hw] at b9 ih
  have e:run (aq GC fs) 1200 [.code jB] (lQ rv v2 v4 (.sl 1 0 rd.length) (.z (i:Int))) (A15 tv (rJ (fun j=>decide (0<=rd.getD j 0)) (fun _=>false) rd.length i))=some (.normal (lQ rv v2 v4 (.sl 1 0 rd.length) (.z w)) (A15 tv (rJ (fun j=>decide (0<=rd.getD j 0)) (fun _=>false) rd.length (i+1)))):=by
   clear ih
   generalize A15 tv (rJ (fun j=>decide (0<=rd.getD j 0)) (fun _=>false) rd.length (i+1))=B at *
   generalize A15 tv (rJ (fun j=>decide (0<=rd.getD j 0)) (fun _=>false) rd.length i)=A at *
   generalize decide (0<=rd.getD i 0)=d at *
   generalize rd.getD i 0=z at *
   simp [jB,b0',b9,hlr,y1,l1,b1,i1,s1,-af,-aj,-ab,-ae,-aA]
  rw [e]
  exact ih
abbrev s15 (rv:AV) (free:Int) (os:List (List Int)) (bv:AV) (fd:Bool) (i:Nat):List AV:=iq rv (.z free) (.p 0) (dR os) bv (.bool fd) (.z (i:Int))
theorem HX (h39:aD fs 64=some H39) (hS:Sit T rd free) (hcv:SlA 2 (T.ch.map chA) chv) (hr:SlA 1 (ak rd) rv) (hos:os.length<=1100) (hE:∀o∈os,Emp (b0 rd) o) {s:Option (List dc)} (hs10:∀b,s=some b->b.length<=10/\(0<b.length\/∀o∈os,o.length=0)) {A:ac} (hA0:A[0]?=some (.row 5 false [ai T chv])) (hbv:OV 2 1 A bv ((s.getD []).map aX)) {i:Nat} (hi:i<os.length) :
  ∃bv' B,run (aq GC fs) 1200 [.code jb] (s15 rv free os bv s.isSome i) A=some (.normal (s15 rv free os bv' (drR T rd free s os[i]).isSome (i+1)) B)/\B[0]?=A[0]?/\OV 2 1 B bv' (((drR T rd free s os[i]).getD []).map aX):=by
 have hO:SlA 1 (os.map fun l=>slA 1 (ak l)) (dR os):=aZ _ _
 have hlen:=hO.len
 rw [SF] at hlen
 have b0':=be i os.length .i64
 rw [Su hi] at b0'
 have b9:=aP i (by omega)
 have hA1:0<A.length:=(Sp.1 hA0).1
 obtain ⟨o,ho⟩:∃o,o=os[i]:=⟨_,rfl⟩
 have hoE:Emp (b0 rd) o:=by rw [ho]; exact hE _ (SC hi)
 rw [<-ho]
 have hsol:=oa (aZ 1 (ak o))
 have x1:∀A,ae 1 A (dR os) (.z (i:Int))=some (.fp [slA 1 (ak o)]):=fun A=>by
  rw [ho]
  exact hO.index1 (x:=slA 1 (ak os[i])) (i:=i) (by simp [hi]) (by rw [<-ho]; exact hsol.1) (by rw [<-ho]; exact hsol.2) .i64
 have l1:∀A,ab false 1 A (.fp [slA 1 (ak o)])=some (slA 1 (ak o)):=fun A=>by
  rcases aZ 1 (ak o) with ⟨e,_⟩ | e <;> rw [e] <;> rfl
 have lt:ab true 5 A (.p 0)=some (ai T chv):=by simp only [ab,hA0]; rfl
 have ft:frz A 4 (ai T chv)=ai T chv:=aQ (fun A n=>hcv.frz (A:=A) n) A 3
 have fr:frz A 4 rv=rv:=hr.frz 4
 have fo:frz A 4 (slA 1 (ak o))=slA 1 (ak o):=(aZ 1 (ak o)).frz 4
 have hin:zg T rd free o:=by
  have hn:=ru hoE
  refine ⟨hS.1.1,hS.2.2.1,hS.2.1,w4 hS,fun t ht=>?_,nE hS hoE⟩
  have:=hn t ht
  rw [eO,hS.2.1] at this
  exact this
 have hargs:([ai T chv,rv,.z free,slA 1 (ak o)]:List AV).map (frz A 4)=[ai T chv,rv,.z free,slA 1 (ak o)]:=by
  simp only [Tw,U9,ft,fr,fo]
  rfl
 obtain ⟨v,X,h1,h2⟩:=GM hin hcv hr (aZ 1 (ak o)) (fun _ _ _=>none) A hargs
 have h1':∀hh,H39 hh [ai T chv,rv,.z free,slA 1 (ak o)] A=some (.tup [v,.bool (ya T rd free o).isSome],A++X):=fun hh=>by
  obtain ⟨v',X',k1,_⟩:=GM hin hcv hr (aZ 1 (ak o)) hh A hargs
  have:H39 hh [ai T chv,rv,.z free,slA 1 (ak o)] A=H39 (fun _ _ _=>none) [ai T chv,rv,.z free,slA 1 (ak o)] A:=rfl
  rw [this,h1]
 have hB0:(A++X)[0]?=A[0]?:=by rw [Sy hA1]
 have hbv2:OV 2 1 (A++X) bv ((s.getD []).map aX):=hbv.keep fun j _ hj=>by rw [Sy hj]
 have h2':OV 2 1 (A++X) v (((ya T rd free o).getD []).map aX):=by
  rcases h2 with h2 | ⟨id,g,k1,k2,k3,k4⟩
  ·exact .inl h2
  ·exact .inr ⟨id,g,k1,k2,by omega,k4⟩
 have hlv:=h2.len
 rw [SF] at hlv
 unfold s15
 obtain ⟨w,hw⟩:∃w,w=((i+1:Nat):Int):=⟨_,rfl⟩
 rw [<-hw] at b9 ⊢
 unfold drR
 cases hre:ya T rd free o with
 | none=>
  rw [hre] at h1' hlv
  refine ⟨bv,A++X,?_,hB0,hbv2⟩
  have h1a:∀hh,H39 hh [ai T chv,rv,.z free,slA 1 (ak o)] A=some (.tup [v,.f],A++X):=h1'
  show run _ _ _ _ _=some (.normal (iq rv (.z free) (.p 0) (dR os) bv (.bool s.isSome) (.z w)) (A++X))
  clear h1 h1' h2 h2' hbv hbv2 hB0 hO hsol hs10 hA0 hargs
  generalize s.isSome=sd at *
  generalize A++X=B at *
  generalize dR os=OV1 at *
  generalize slA 1 (ak o)=ov at *
  generalize ai T chv=tv at *
  simp [jb,h39,b0',b9,hlen,x1,l1,lt,h1a,-af,-aj,-ab,-ae,-frz]
 | some l=>
  have hll:l.length=o.length:=pg hre
  have hl10:l.length<=10:=by rw [hll]; exact hin.m
  rw [hre] at h1' hlv h2 h2'
  have h1a:∀hh,H39 hh [ai T chv,rv,.z free,slA 1 (ak o)] A=some (.tup [v,.t],A++X):=h1'
  have hlv':aj v=some (.z (l.length:Int)):=hlv
  have h2b:OV 2 1 (A++X) v (l.map aX):=h2'
  cases s with
  | none=>
   refine ⟨v,A++X,?_,hB0,h2b⟩
   show run _ _ _ _ _=some (.normal (iq rv (.z free) (.p 0) (dR os) v .t (.z w)) (A++X))
   show run _ _ _ (iq rv (.z free) (.p 0) (dR os) bv .f (.z (i:Int))) _=_
   clear h1 h1' h2 h2' h2b hbv hbv2 hB0 hO hsol hs10 hA0 hargs hlv
   generalize A++X=B at *
   generalize dR os=OV1 at *
   generalize slA 1 (ak o)=ov at *
   generalize ai T chv=tv at *
   simp [jb,h39,b0',b9,hlen,x1,l1,lt,h1a,-af,-aj,-ab,-ae,-frz]
  | some b=>
   obtain ⟨hb10,hbo⟩:=hs10 b rfl
   have hbv3:OV 2 1 (A++X) bv (b.map aX):=hbv2
   have b1:=bQ (l.length:Int) 0
   simp only [Option.isSome_some]
   by_cases hl0:0<l.length
   rotate_left
   ·rw [Ss (by omega)] at b1
    rw [SD (fun k=>hl0 k.1)]
    refine ⟨bv,A++X,?_,hB0,hbv3⟩
    show run _ _ _ (iq rv (.z free) (.p 0) (dR os) bv .t (.z (i:Int))) _=some (.normal (iq rv (.z free) (.p 0) (dR os) bv .t (.z w)) (A++X))
    clear h1 h1' h2 h2' h2b hbv hbv2 hbv3 hB0 hO hsol hs10 hA0 hargs hlv
    generalize A++X=B at *
    generalize dR os=OV1 at *
    generalize slA 1 (ak o)=ov at *
    generalize ai T chv=tv at *
    simp [jb,h39,b0',b9,hlen,x1,l1,lt,h1a,hlv',b1,-af,-aj,-ab,-ae,-frz]
   rw [Su (by omega)] at b1
   have hb0:0<b.length:=by
    rcases hbo with k | k
    ·exact k
    ·have:=k o (by rw [ho]; exact SC hi)
     omega
   have gl:l[l.length-1]?=some (l.getD (l.length-1) (0,0)):=by rw [Sr,Sq (by omega)]; rfl
   have gb:b[b.length-1]?=some (b.getD (b.length-1) (0,0)):=by rw [Sr,Sq (by omega)]; rfl
   obtain ⟨p,_,p1,y0,_,_,y3,y4⟩:=(MG rfl h2b).get gl (by omega)
   obtain ⟨q,_,q1,z0,_,_,z3,z4⟩:=(MG rfl hbv3).get gb (by omega)
   have hlb:=hbv3.len
   rw [SF] at hlb
   have c1:af .sub (.z (l.length:Int)) (.z 1)=some (.z ((l.length-1:Nat):Int)):=by rw [bK (by omega)]; congr 2; omega
   have c2:af .sub (.z (b.length:Int)) (.z 1)=some (.z ((b.length-1:Nat):Int)):=by rw [bK (by omega)]; congr 2; omega
   have c3:=bP (ji l) (ji b)
   have y4':ab false 1 (A++X) p1=some (.z (ji l)):=y4
   have z4':ab false 1 (A++X) q1=some (.z (ji b)):=z4
   by_cases hc:ji l<ji b
   ·rw [Su hc] at c3
    rw [SA ⟨hl0,hc⟩]
    refine ⟨v,A++X,?_,hB0,h2b⟩
    show run _ _ _ (iq rv (.z free) (.p 0) (dR os) bv .t (.z (i:Int))) _=some (.normal (iq rv (.z free) (.p 0) (dR os) v .t (.z w)) (A++X))
    clear h1 h1' h2 h2' h2b hbv hbv2 hbv3 hB0 hO hsol hs10 hA0 hargs hlv y4 z4 gl gb
    generalize A++X=B at *
    generalize dR os=OV1 at *
    generalize slA 1 (ak o)=ov at *
    generalize ai T chv=tv at *
    generalize ((l.length-1:Nat):Int)=lm at *
    generalize ((b.length-1:Nat):Int)=bm at *
    generalize (l.length:Int)=ln at *
    generalize (b.length:Int)=bn at *
    generalize ji l=la at *
    generalize ji b=lb at *
    simp [jb,h39,b0',b9,hlen,x1,l1,lt,h1a,hlv',hlb,b1,c1,c2,c3,y0,y3,y4',z0,z3,z4',-af,-aj,-ab,-ae,-aa,-frz]
   ·rw [Ss hc] at c3
    rw [SD (fun k=>hc k.2)]
    refine ⟨bv,A++X,?_,hB0,hbv3⟩
    show run _ _ _ (iq rv (.z free) (.p 0) (dR os) bv .t (.z (i:Int))) _=some (.normal (iq rv (.z free) (.p 0) (dR os) bv .t (.z w)) (A++X))
    clear h1 h1' h2 h2' h2b hbv hbv2 hbv3 hB0 hO hsol hs10 hA0 hargs hlv y4 z4 gl gb
    generalize A++X=B at *
    generalize dR os=OV1 at *
    generalize slA 1 (ak o)=ov at *
    generalize ai T chv=tv at *
    generalize ((l.length-1:Nat):Int)=lm at *
    generalize ((b.length-1:Nat):Int)=bm at *
    generalize (l.length:Int)=ln at *
    generalize (b.length:Int)=bn at *
    generalize ji l=la at *
    generalize ji b=lb at *
    simp [jb,h39,b0',b9,hlen,x1,l1,lt,h1a,hlv',hlb,b1,c1,c2,c3,y0,y3,y4',z0,z3,z4',-af,-aj,-ab,-ae,-aa,-frz]
end
section
variable {fs:List (FuncId × aJ)} {T:aW} {chv rv:AV} {rd:List Int} {free:Int}
theorem IK {o:List Int} {s:Option (List dc)} (h:∀b,s=some b->b.length=mB (b0 rd)) (hE:Emp (b0 rd) o):∀b,drR T rd free s o=some b->b.length=mB (b0 rd):=by
 intro b hb
 unfold drR at hb
 split at hb
 ·exact h b hb
 ·rename_i l hl
  have hll:l.length=mB (b0 rd):=by rw [pg hl,nK hE]
  split at hb
  ·injection hb with hb; rw [<-hb]; exact hll
  ·rename_i b'
   split at hb
   ·injection hb with hb; rw [<-hb]; exact hll
   ·injection hb with hb; rw [<-hb]; exact h b' rfl
theorem Iu (h39:aD fs 64=some H39) (hS:Sit T rd free) (hcv:SlA 2 (T.ch.map chA) chv) (hr:SlA 1 (ak rd) rv) (hos:os.length<=1100) (hE:∀o∈os,Emp (b0 rd) o):∀(c i m:Nat) (s:Option (List dc)) (A:ac) (bv:AV),i+c=os.length->c<m->(∀b,s=some b->b.length=mB (b0 rd))->A[0]?=some (.row 5 false [ai T chv])->OV 2 1 A bv ((s.getD []).map aX) ->
  ∃bv' B,bG (evC (aq GC fs) 1200 jb) mz m (s15 rv free os bv s.isSome i) A=some (.exit 2 ((s15 rv free os bv' ((os.drop i).foldl (drR T rd free) s).isSome os.length).set 18 .f) B)/\OV 2 1 B bv' ((((os.drop i).foldl (drR T rd free) s).getD []).map aX):=by
 have hO:SlA 1 (os.map fun l=>slA 1 (ak l)) (dR os):=aZ _ _
 have hlen:=hO.len
 rw [SF] at hlen
 intro c
 induction c with
 | zero=>
  intro i m s A bv hi hm hs hA hb
  obtain ⟨m,rfl⟩:∃j,m=j+1:=⟨m-1,by omega⟩
  obtain rfl:i=os.length:=by omega
  rw [TN]
  refine ⟨bv,A,?_,hb⟩
  have b0':=be os.length os.length .i64
  rw [Ss (by omega)] at b0'
  unfold s15
  rw [UB rfl]
  simp only [TJ]
  generalize s.isSome=sd at *
  generalize dR os=OV1 at *
  simp [jb,b0',hlen,-af,-aj]
 | succ c ih=>
  intro i m s A bv hi hm hs hA hb
  obtain ⟨m,rfl⟩:∃j,m=j+1:=⟨m-1,by omega⟩
  have hil:i<os.length:=by omega
  have hm10:=wd (gY hS).2
  obtain ⟨bv1,B1,g1,g2,g3⟩:=HX h39 hS hcv hr hos hE (s:=s) (fun b h=>by
   have hbl:=hs b h
   refine ⟨by omega,?_⟩
   by_cases h0:0<b.length
   ·exact .inl h0
   ·exact .inr fun o ho=>by rw [nK (hE o ho)]; omega) hA hb hil
  obtain ⟨bv2,B2,k1,k2⟩:=ih (i+1) m (drR T rd free s os[i]) B1 bv1 (by omega) (by omega) (IK hs (hE _ (SC hil))) (by rw [g2]; exact hA) g3
  rw [To hil,Ta]
  refine ⟨bv2,B2,?_,k2⟩
  unfold s15 at g1 k1 ⊢
  rw [UB rfl,g1]
  exact k1
theorem Kp (h35:aD fs 61=some (aE 4 M35)) (h36:aD fs 28=some (aE 4 M30)) (h38:aD fs 63=some (cU 4 (M38 11))) (h39:aD fs 64=some H39) (hcv:SlA 2 (T.ch.map chA) chv) (hTl:T.ch.length<=200) (hr:SlA 1 (ak rd) rv) (hrl:rd.length<=200) {lost:Int} (hl:lost=0\/¬ (Sit T rd free/\0<=lost/\lost<=rd.length)) :
  ∃v B,bZ (aq GC fs) 1200 DJ [ai T chv,rv,.z free,.z lost] []=some (.tup [v,.bool (dO T rd free lost).isSome],B)/\OV 2 1 B v (((dO T rd free lost).getD []).map aX):=by
 have m35:=ze hcv hTl hr hrl free
 have m36:=cq lost 0 (rd.length:Int)
 have ft:=fun A=>aQ (T:=T) (fun A n=>hcv.frz (A:=A) n) A 3
 have fr:∀A n,frz A n rv=rv:=fun A n=>hr.frz n
 have bx:aR 5 (ai T chv) []=some (.p 0,[.row 5 false [ai T chv]]):=rfl
 have ct:(cellsOf (ai T chv)).length=5:=rfl
 have lt:ab true 5 [.row 5 false [ai T chv]] (.p 0)=some (ai T chv):=rfl
 have hlr:=hr.len
 rw [az] at hlr
 obtain ⟨A0,hA0⟩:∃A:ac,A=[.row 5 false [ai T chv]]:=⟨_,rfl⟩
 rw [<-hA0] at bx lt
 by_cases hok:Sit T rd free/\0<=lost/\lost<=rd.length
 rotate_left
 ·have e:dO T rd free lost=none:=by unfold dO; rw [SD hok]
  rw [e]
  refine ⟨.nilS,A0,?_,.inl ⟨rfl,rfl⟩⟩
  show bZ _ _ _ _ _=some (.tup [.nilS,.f],A0)
  by_cases hS:Sit T rd free
  ·rw [Su hS] at m35
   have mb:iD lost 0 (rd.length:Int)=false:=by
    cases e:iD lost 0 (rd.length:Int)
    ·rfl
    ·exact absurd ⟨hS,cP.1 e⟩ hok
   rw [mb] at m36
   clear hA0
   generalize (rd.length:Int)=rl at *
   generalize ai T chv=tv at *
   rw [bo _ _ rfl]
   simp [DJ,bx,ct,lt,h35,h36,m35,m36,ft,fr,hlr,aM,dI,br,-aR,-ab,-aj,-frz,-cellsOf,-cq]
  ·rw [Ss hS] at m35
   clear hA0
   generalize (rd.length:Int)=rl at *
   generalize ai T chv=tv at *
   rw [bo _ _ rfl]
   simp [DJ,bx,ct,lt,h35,m35,ft,fr,aM,dI,br,-aR,-ab,-aj,-frz,-cellsOf,-cq]
 have hl0:lost=0:=hl.resolve_right (fun k=>k hok)
 subst hl0
 have hS:=hok.1
 rw [Su hS] at m35
 rw [cP.2 hok.2] at m36
 rw [iW,<-Cc hS]
 obtain ⟨hn1,hn4⟩:=gY hS
 have bg:=bQ 0 0
 rw [Ss (by omega)] at bg
 have mk:bY 1 1 .f A0 (.z (rd.length:Int)) (.z (rd.length:Int))=some (.sl 1 0 rd.length,A15 (ai T chv) (rJ (fun j=>decide (0<=rd.getD j 0)) (fun _=>false) rd.length 0)):=by
  have ez:rJ (fun j=>decide (0<=rd.getD j 0)) (fun _=>false) rd.length 0=List.replicate rd.length false:=by
   apply TB
   ·simp [rJ]
   ·intro i _ _; simp [rJ]
  simp only [bY]
  rw [SA ⟨by omega,by omega,by omega,by omega,rfl,rfl,by omega⟩,SM,ez,hA0]
  unfold A15 aS
  rw [UP]; rfl
 have lpa:=Iv (fs:=fs) hr hrl (tv:=ai T chv) (.z free) (.p 0) rd.length 0 1200 (by omega) (by omega)
 rw [show ((0:Nat):Int)=0 from rfl] at lpa
 have m38:=MW 10 (b0 rd) (.fs 1 (aS (b0 rd))) (by omega) (by rw [eO]; exact hn4) (wd hn4) (.inr rfl)
 have fb:frz (A15 (ai T chv) (b0 rd)) 4 (.sl 1 0 rd.length)=.fs 1 (aS (b0 rd)):=by
  have e:=dB (off:=0) (xs:=aS (b0 rd)) (Jk (ai T chv) (b0 rd)) (by rw [SL,SX]) (fun k x hx=>by
   obtain ⟨c,_,rfl⟩:=SU.1 hx
   exact aV _ _ _) 2
  rw [cZ,eO] at e
  exact e
 have hol:=(tS 10 (b0 rd) (by rw [eO]; exact hn4)).1
 obtain ⟨bv,B,q1,q2⟩:=Iu h39 hS hcv hr (os:=gZ 10 (b0 rd)) (by omega) (fun o ho=>(qi hS).1 ho) (gZ 10 (b0 rd)).length 0 1200 none (A15 (ai T chv) (b0 rd)) .nilS (by omega) (by omega) (fun b h=>by cases h) rfl (.inl ⟨rfl,rfl⟩)
 rw [SL] at q1 q2
 unfold s15 at q1
 rw [show ((0:Nat):Int)=0 from rfl] at q1
 have q1':bG (evC (aq GC fs) 1200 jb) mz 1200 (iq rv (.z free) (.p 0) (dR (gZ 10 (b0 rd))) .nilS .f (.z 0)) (A15 (ai T chv) (b0 rd))=_:=q1
 refine ⟨bv,B,?_,q2⟩
 clear q1 q2 hA0 hok hl hol
 generalize ((gZ 10 (b0 rd)).foldl (drR T rd free) none).isSome=ok at *
 generalize (gZ 10 (b0 rd)).length=ol at *
 generalize dR (gZ 10 (b0 rd))=OV1 at *
 generalize aS (b0 rd)=bb at *
 generalize A15 (ai T chv) (rJ (fun j=>decide (0<=rd.getD j 0)) (fun _=>false) rd.length 0)=A1 at *
 generalize A15 (ai T chv) (b0 rd)=A2 at *
 generalize rd.length=rl at *
 generalize ai T chv=tv at *
 rw [bo _ _ rfl]
 simp [DJ,bx,ct,lt,h35,h36,h38,m35,m36,m38,ft,fr,fb,hlr,bg,mk,F3 lpa,Lm q1',aM,dI,br,-aR,-ab,-aj,-bY,-frz,-cellsOf,-cq,-af]
end
def NO:aJ:=DV 4 (bZ (aq GC fsz) 1200 DJ)
theorem G6:au prog GC 29 NO:=au.thaw (cj (ax Kf) rfl (by kernel_rfl) Cx bO.nil) 4
end Tr
namespace Tr
open Cy (GC aM aV az je)
open Clu (aW aT ai chA aQ cf aY bK cH bu bP bQ cr)
theorem Jh {T:aW} {rv:AV} {free:Int} (hcv:SlA 2 (T.ch.map chA) chv) (hTl:T.ch.length<=200) (hr:SlA 1 (ak rd) rv) (hrl:rd.length<=200) {args:List AV} (A:ac) (hargs:args.map (frz A 4)=[ai T chv,rv,.z free,.z 0]) :
  ∃v X,(∀hh,NO hh args A=some (.tup [v,.bool (cK T rd free).isSome],A++X))/\RV A.length (A++X) v ((cK T rd free).getD []):=by
 obtain ⟨v,B,h1,h2⟩:=Kp (fs:=fsz) (free:=free) rfl rfl rfl rfl hcv hTl hr hrl (lost:=0) (.inl rfl)
 rw [iW] at h1 h2
 obtain ⟨v',X,h3,h4⟩:=Au (L:=A.length) h2 (cK T rd free).isSome
 refine ⟨v',X,fun hh=>?_,(h4 A rfl).1⟩
 unfold NO
 rw [xM,hargs,h1,Te]
 simp only [h3,Th]
end Tr
namespace Rk
def Ft:cJ:=⟨1,4,.r [.y 1 0,.f 2 0] (.seq (.r [.d 4 1,.b 1 0,.ab 3 1 2] (.cond (.var 3) (.r [.d 1 1,.b 1 0,.d 2 1,.b 1 2,.m 1 3,.c 2 4] .ret) .skip)) (.r [.d 1 1,.b 1 0,.d 3 1,.b 1 2,.m 1 3,.d 2 1,.b 1 5,.m 4 6,.c 2 7] .ret)),[.tmp 2]⟩
theorem Cq:aH prog Tryz.f90 1 [0,1,2,5] [] true ([],[])=some Ft:=by kernel_rfl
def jB:MC:=.seq (.r [.a 4,.d 0 1,.b 1 1,.s 2,.aa 7 0 3] (.cond (.var 7) .skip (.exit 0))) (.seq (.seq (.block 1 (.region [.a 3,.a 4,.cu 1,.ao 1 0 2,.c 3 3])) (.kill [0,2,5,6,7])) (.region [.a 4,.h 0 1,.c 4 1]))
def gT:List Nat:=[0,2,5,6,7]
def DJ:cJ:=⟨1,8,.r [.y 1 0,.u 2] (.seq (.r [.k 5 1,.H 57 0,.N 5 1] (.cond (.var 5) (.r [.u 2] .ret) .skip)) (.seq (.r [.d 4 1,.b 1 0,.ab 6 1 2] (.cond (.var 6) (.r [.u 3] (.seq (.r [.f 4 0] (.seq (.block 0 (.loop gT jB)) (.kill [0,1,2,4,5,6,7]))) (.r [.a 3,.bg 0,.c 2 1] .ret))) .skip)) (.r [.d 0 1,.b 1 0,.s 1,.qn (.buildF 1 [.cst (.z 0)]),.qn (.call (.fn 110) [.tmp 2,.tmp 3,.cst .nilS]),.c 2 4] .ret))),[.tmp 2]⟩
abbrev lQ (v1 v3 v4:AV):List AV:=[.u,v1,.u,v3,v4,.u,.u,.u]
theorem vY:clear gT [d0,v1,d2,v3,v4,d5,d6,d7]=lQ v1 v3 v4:=rfl
theorem F3 {k:List KC} (h:bG (evC E fuel jB) gT fuel (lQ v1 v3 v4) A=some o) :
  run E fuel (.code (.loop gT jB) :: k) [d0,v1,d2,v3,v4,d5,d6,d7] A=after E fuel k o:=aK gT _ _ (by rw [vY]; exact h)
theorem Cx:aH prog Tryz.f105 1 [0,1,2,3,4,7,10,15] [] true ([gT],[gT,[0,1,2,4,5,6,7]])=some DJ:=by kernel_rfl
def dM:MC:=.seq (.r [.a 7,.a 1,.s 1,.D 16 0 2] (.cond (.var 16) .skip (.exit 0))) (.seq (.seq (.block 1 (.r [.f 8 0] (.r [.f 9 1] (.seq (.r [.a 7,.h 0 1,.a 1,.s 2,.D 17 1 3] (.cond (.var 17) (.r [.a 1,.a 7,.h 1 1,.e 1 0 2,.b 1 3,.c 8 4] (.region [.f 9 0])) .skip)) (.r [.a 1,.a 7,.e 1 0 1,.b 1 2,.a 8,.a 5,.a 9,.W 3 4 5 6,.a1 10 4,.t 4 10 7] (.seq (.r [.d 4 2,.b 1 0,.a6 1 2,.i 2,.n 8 3,.n 1 3,.n 7 3,.O 1 5 6 3,.p 1 7 3,.qf (.bin .add (.tmp 8) (.cst (.z 1))) 3,.bk 4 9 3,.x 18 3 10] (.cond (.var 18) (.region [.d 2 10,.b 1 0,.d 3 2,.b 1 2,.m 1 3,.d 2 10,.A 1 5 4]) .skip)) (.region [.a 6,.k 4 10,.cd 1,.cp 4 0 2,.c 6 3]))))))) (.kill [0,3,4,8,9,10,11,12,13,14,15,16,17,18,19,20,21])) (.region [.a 7,.h 0 1,.c 7 1]))
def eu:MC:=.seq (.r [.a 11,.d 0 2,.b 1 1,.s 2,.aa 19 0 3] (.cond (.var 19) .skip (.exit 2))) (.seq (.seq (.block 3 (.r [.d 0 2,.b 1 0,.a 11,.r 2 1,.e 2 1 3,.K 2 4,.ag 12 2,.t 2 12 5] (.r [.a 11,.r 0 1,.c 13 1] (.r [.f 14 0] (.seq (.r [.d 4 2,.b 1 0,.ab 20 1 2] (.cond (.var 20) (.r [.a 11,.c 13 0] (.region [.f 14 1])) (.r [.a 1,.a 11,.B 91 0 1,.a 1,.a 11,.r 4 1,.B 91 3 5,.D 21 2 6] (.cond (.var 21) (.region [.f 14 1]) .skip)))) (.region [.a 6,.a 13,.a 11,.a 5,.d 0 12,.b 1 4,.m 3 5,.a 14,.W 1 2 6 7,.a 11,.a 13,.a 5,.d 0 12,.b 1 12,.m 11 13,.d 1 12,.b 1 15,.m 14 16,.bj 17,.a 14,.bj 19,.W 9 10 18 20,.c0 8 21,.cp 4 0 22,.c 6 23])))))) (.kill [0,3,4,7,8,9,10,12,13,14,15,16,17,18,19,20,21])) (.region [.a 11,.h 0 1,.c 11 1]))
def eE:List Nat:=[0,3,4,8,9,10,11,12,13,14,15,16,17,18,19,20,21]
def eD:List Nat:=[0,3,4,7,8,9,10,12,13,14,15,16,17,18,19,20,21]
def Bk:cJ:=⟨2,22,.r [.y 2 0,.u 3,.f 4 0] (.seq (.r [.k 5 2,.a 1,.B 89 0 1,.N 15 2] (.cond (.var 15) (.r [.u 3,.f 4 130] .ret) .skip)) (.r [.k 5 2,.H 90 0,.c 5 1] (.r [.u 6] (.seq (.r [.f 7 0] (.seq (.block 0 (.loop eE dM)) (.kill [0,3,4,7,8,9,10,11,12,13,14,15,16,17,18,19,20,21]))) (.seq (.r [.f 11 1] (.seq (.block 2 (.loop eD eu)) (.kill [0,1,2,3,4,5,7,8,9,10,11,12,13,14,15,16,17,18,19,20,21]))) (.r [.a 6,.c 3 0,.f 4 0] .ret)))))),[.tmp 3,.tmp 4]⟩
abbrev fZ (v1 v2 v5 v6 v7:AV):List AV:=[.u,v1,v2,.u,.u,v5,v6,v7,.u,.u,.u,.u,.u,.u,.u,.u,.u,.u,.u,.u,.u,.u]
theorem ta:clear eE [d0,v1,v2,d3,d4,v5,v6,v7,d8,d9,d10,d11,d12,d13,d14,d15,d16,d17,d18,d19,d20,d21]=fZ v1 v2 v5 v6 v7:=rfl
theorem vr {k:List KC} (h:bG (evC E fuel dM) eE fuel (fZ v1 v2 v5 v6 v7) A=some o) :
  run E fuel (.code (.loop eE dM) :: k) [d0,v1,v2,d3,d4,v5,v6,v7,d8,d9,d10,d11,d12,d13,d14,d15,d16,d17,d18,d19,d20,d21] A=after E fuel k o:=aK eE _ _ (by rw [ta]; exact h)
abbrev fY (v1 v2 v5 v6 v11:AV):List AV:=[.u,v1,v2,.u,.u,v5,v6,.u,.u,.u,.u,v11,.u,.u,.u,.u,.u,.u,.u,.u,.u,.u]
theorem s9 {v11:AV}:clear eD [d0,v1,v2,d3,d4,v5,v6,d7,d8,d9,d10,v11,d12,d13,d14,d15,d16,d17,d18,d19,d20,d21]=fY v1 v2 v5 v6 v11:=rfl
theorem yz {k:List KC} {v11:AV} (h:bG (evC E fuel eu) eD fuel (fY v1 v2 v5 v6 v11) A=some o) :
  run E fuel (.code (.loop eD eu) :: k) [d0,v1,v2,d3,d4,v5,v6,d7,d8,d9,d10,v11,d12,d13,d14,d15,d16,d17,d18,d19,d20,d21] A=after E fuel k o:=aK eD _ _ (by rw [s9]; exact h)
theorem Ct:aH prog Tryz.f58 2 [0,1,2,4,5,6,7,8,9,10,11,12,13,14,15,19,25,32,57,72,85,94] [] true ([eE,eD],[eE,[0,3,4,7,8,9,10,11,12,13,14,15,16,17,18,19,20,21],eD,[0,1,2,3,4,5,7,8,9,10,11,12,13,14,15,16,17,18,19,20,21]])=some Bk:=by kernel_rfl
def ge:MC:=.seq (.r [.a 6,.a 1,.s 1,.D 9 0 2] (.cond (.var 9) .skip (.exit 2))) (.seq (.seq (.block 3 (.region [.a 5,.i 0,.n 1 1,.n 6 1,.O 1 2 3 1,.p 1 4 1,.n 4 1,.qf (.bin .eql (.tmp 5) (.tmp 6)) 1,.I 1 7,.c 5 8])) (.kill [3,7,8,9,10])) (.region [.a 6,.h 0 1,.c 6 1]))
def fI:List Nat:=[3,7,8,9,10]
def mD:MC:=.seq (.r [.a 4,.a 0,.aa 8 0 1] (.cond (.var 8) .skip (.exit 0))) (.seq (.seq (.block 1 (.r [.g 5] (.seq (.r [.f 6 0] (.seq (.block 2 (.loop fI ge)) (.kill [3,6,7,8,9,10]))) (.r [.a 5,.N 10 0] (.cond (.var 10) (.region [.a 0,.cc,.a 1,.ao 1 1 2,.a 4,.bg 4,.ao 1 3 5,.a 2,.L 110 0 6 7,.c 2 8]) .skip))))) (.kill [3,5,6,7,8,9,10])) (.region [.a 4,.h 0 1,.c 4 1]))
def mq:List Nat:=[3,5,6,7,8,9,10]
def tT:cJ:=⟨3,11,.r [.u 3] (.seq (.r [.a 1,.s 0,.a 0,.h 2 1,.ap 7 1 3] (.cond (.var 7) (.r [.a 2,.cc,.a 1,.ao 1 1 2,.bg 3,.co 1 0 4,.c 3 5] .ret) .skip)) (.seq (.r [.f 4 1] (.seq (.block 0 (.loop mq mD)) (.kill [0,1,3,4,5,6,7,8,9,10]))) (.r [.a 2,.c 3 0] .ret))),[.tmp 3]⟩
abbrev io (v0 v1 v2 v4 v5 v6:AV):List AV:=[v0,v1,v2,.u,v4,v5,v6,.u,.u,.u,.u]
theorem s8:clear fI [v0,v1,v2,d3,v4,v5,v6,d7,d8,d9,d10]=io v0 v1 v2 v4 v5 v6:=rfl
theorem yy {k:List KC} (h:bG (evC E fuel ge) fI fuel (io v0 v1 v2 v4 v5 v6) A=some o) :
  run E fuel (.code (.loop fI ge) :: k) [v0,v1,v2,d3,v4,v5,v6,d7,d8,d9,d10] A=after E fuel k o:=aK fI _ _ (by rw [s8]; exact h)
abbrev pU (v0 v1 v2 v4:AV):List AV:=[v0,v1,v2,.u,v4,.u,.u,.u,.u,.u,.u]
theorem Lc {k:List KC} (h:bG (evC E fuel mD) mq fuel (pU v0 v1 v2 v4) A=some o) :
  run E fuel (.code (.loop mq mD) :: k) [v0,v1,v2,d3,v4,d5,d6,d7,d8,d9,d10] A=after E fuel k o:=aK mq _ _ h
theorem yO:aH prog Tryz.f110 3 [0,1,2,6,7,8,9,14,23,29,42] [] false ([mq,fI],[fI,[3,6,7,8,9,10],mq,[0,1,3,4,5,6,7,8,9,10]])=some tT:=by kernel_rfl
theorem NL:prog.funcs[110]?=some Tryz.f110:=by kernel_rfl
def en:MC:=.seq (.r [.a 5,.a 4,.s 1,.D 7 0 2] (.cond (.var 7) .skip (.exit 0))) (.seq (.seq (.block 1 (.r [.a 4,.a 5,.e 1 0 1,.b 1 2,.a 1,.B 106 3 4,.c 6 5] (.r [.am 8 6] (.cond (.var 8) (.r [.J 3] .ret) .skip)))) (.kill [0,2,3,6,7,8])) (.region [.a 5,.h 0 1,.c 5 1]))
def dJ:List Nat:=[0,2,3,6,7,8]
def zG:cJ:=⟨2,9,.r [.y 2 0,.g 3] (.r [.k 5 2,.H 105 0,.c 4 1] (.seq (.r [.f 5 0] (.seq (.block 0 (.loop dJ en)) (.kill [0,1,2,3,4,5,6,7,8]))) (.r [.g 3] .ret))),[.tmp 3]⟩
abbrev fB (v1 v4 v5:AV):List AV:=[.u,v1,.u,.u,v4,v5,.u,.u,.u]
theorem s7:clear dJ [d0,v1,d2,d3,v4,v5,d6,d7,d8]=fB v1 v4 v5:=rfl
theorem vo {k:List KC} (h:bG (evC E fuel en) dJ fuel (fB v1 v4 v5) A=some o) :
  run E fuel (.code (.loop dJ en) :: k) [d0,v1,d2,d3,v4,v5,d6,d7,d8] A=after E fuel k o:=aK dJ _ _ (by rw [s7]; exact h)
theorem vN:aH prog Tryz.f89 2 [0,1,2,4,5,6,7,13,22] [] true ([dJ],[dJ,[0,1,2,3,4,5,6,7,8]])=some zG:=by kernel_rfl
def eY:MC:=.seq (.r [.a 3,.a 0,.s 1,.D 4 0 2] (.cond (.var 4) .skip (.exit 0))) (.seq (.seq (.block 1 (.r [.a 0,.a 3,.e 1 0 1,.b 1 2,.a 1,.ap 5 3 4] (.cond (.var 5) (.r [.a 3,.c 2 0] .ret) .skip))) (.kill [2,4,5])) (.region [.a 3,.h 0 1,.c 3 1]))
def eA:List Nat:=[2,4,5]
def Fr:cJ:=⟨2,6,.r [.f 2 0] (.seq (.r [.f 3 0] (.seq (.block 0 (.loop eA eY)) (.kill [0,1,2,3,4,5]))) (.r [.f 2 (-1)] .ret)),[.tmp 2]⟩
abbrev fK (v0 v1 v3:AV):List AV:=[v0,v1,.u,v3,.u,.u]
theorem vW:clear eA [v0,v1,d2,v3,d4,d5]=fK v0 v1 v3:=rfl
theorem yu {k:List KC} (h:bG (evC E fuel eY) eA fuel (fK v0 v1 v3) A=some o) :
  run E fuel (.code (.loop eA eY) :: k) [v0,v1,d2,v3,d4,d5] A=after E fuel k o:=aK eA _ _ (by rw [vW]; exact h)
theorem Ci:aH prog Tryz.f91 2 [0,1,4,5,9,17] [] true ([eA],[eA,[0,1,2,3,4,5]])=some Fr:=by kernel_rfl
def uz:cJ:=⟨2,12,.r [.y 2 0,.y 3 1,.g 4] (.r [.k 5 2,.d 1 3,.b 1 1,.B 58 0 2,.i 3,.j 4 0,.j 4 1,.c 5 5,.c 6 6] (.seq (.r [.a 6,.qn (.bin .neq (.tmp 0) (.cst (.z 0))),.i 1,.C 0 3 2,.p 1 3 2,.bl 4 1 2,.I 2 5,.i 6,.C 0 3 7,.p 1 8 7,.Y 9 1000000 7,.x 9 7 10] (.cond (.var 9) (.r [.g 4] .ret) .skip)) (.r [.d 1 3,.b 1 0,.s 1,.c 7 2] (.r [.a 7,.a 5,.d 0 3,.b 1 2,.d 2 3,.b 1 4,.X 59 0 1 3 5,.c 8 6] (.seq (.r [.a 8,.N 10 0] (.cond (.var 10) (.r [.g 4] .ret) .skip)) (.seq (.r [.d 0 3,.b 1 0,.ab 11 1 1] (.cond (.var 11) (.r [.d 3 3,.b 1 0,.s 1,.a6 2 0,.c 4 3] .ret) .skip)) (.r [.a 7,.a 5,.d 0 3,.b 1 2,.r 3 1,.d 3 3,.b 1 5,.X 60 0 1 4 6,.c 4 7] .ret))))))),[.tmp 4]⟩
theorem vS:aH prog Tryz.f27 2 [0,1,2,3,4,5,6,7,8,27,39,42] [] true ([],[])=some uz:=by kernel_rfl
end Rk
namespace Rk
open Clu
open Cy (GC bq cQ bT cA cR okA smM smT lvM lvT dG ey bS Pos aM aV az dz)
def M29:aU:=fun args=>evP (aq GC []) 0 Ft 1 args
theorem xT:aw prog GC 90 M29:=aw.of_ev (E:=aq GC []) (ax aB) rfl (by kernel_rfl) Cq 1 fun _ _ h=>⟨0,h⟩
theorem wm {T:aW} (chv:AV) (h:aT T):M29 [ai T chv]=some (.z (dt T)):=by
 obtain ⟨_,⟨h1,h2,h3⟩,_⟩:=h
 obtain ⟨ch,pk,pl,tr,bl⟩:=T
 simp only at h1 h2 h3
 have b0:=bu bl 2
 have b1:=aY (a:=pk) (b:=pl) (by omega)
 have b2:=aY (a:=pk) (b:=tr) (by omega)
 have b3:=aY (a:=pk+tr) (b:=pl) (by omega)
 rw [show ai ⟨ch,pk,pl,tr,bl⟩ chv=.agg [chv,.z pk,.z pl,.z tr,.z bl] from rfl]
 have l:∀A:ac,A[0]?=some (.row 5 false [.agg [chv,.z pk,.z pl,.z tr,.z bl]])->ab false 1 A (.ptr 0 0 1)=some (.z pk)/\ab false 1 A (.ptr 0 0 2)=some (.z pl)/\ab false 1 A (.ptr 0 0 3)=some (.z tr)/\ab false 1 A (.ptr 0 0 4)=some (.z bl):=fun A hA=>by
  refine ⟨?_,?_,?_,?_⟩ <;> simp only [ab,hA] <;> rfl
 obtain ⟨l1,l2,l3,l4⟩:=l [.row 5 false [.agg [chv,.z pk,.z pl,.z tr,.z bl]]] rfl
 obtain ⟨s1,hs1⟩:∃s,s=pk+pl:=⟨_,rfl⟩
 obtain ⟨s2,hs2⟩:∃s,s=pk+tr:=⟨_,rfl⟩
 obtain ⟨s3,hs3⟩:∃s,s=s2+pl:=⟨_,rfl⟩
 rw [<-hs1] at b1
 rw [<-hs2] at b2 b3
 rw [<-hs3] at b3
 have e:dt ⟨ch,pk,pl,tr,bl⟩=if bl=2 then s1 else s3:=by
  unfold dt; simp only; rw [hs3,hs2,hs1]
 rw [e]
 unfold M29
 rw [aO _ _ rfl]
 by_cases hb:bl=2
 ·rw [Su hb] at b0
  rw [SA hb]
  simp [Ft,b0,b1,l1,l2,l4,-af,-ab]
 ·rw [Ss hb] at b0
  rw [SD hb]
  simp [Ft,b0,b2,b3,l1,l2,l3,l4,-af,-ab]
end Rk
namespace Rk
open Clu
open Cy (GC bq cQ bT cA cR okA smM smT lvM lvT dG ey bS Pos aM aV az dz df bC bH)
def M48:aU:=fun args=>evP (aq GC []) 300 Fr 1 args
theorem J6:aw prog GC 91 M48:=aw.of_ev (E:=aq GC []) (ax aB) rfl (by kernel_rfl) Ci 1 fun _ _ h=>⟨300,h⟩
theorem yY {b:AV} (hb:SlA 1 (ak xs) b) (hl:xs.length<=200) (v:Int):M48 [b,.z v]=some (.z (df (isI v) xs)):=by
 have hlen:=hb.len
 rw [az] at hlen
 have round:∀(A:ac) (i:Nat) (hi:i<xs.length),run (aq GC []) 300 [.code eY] (fK b (.z v) (.z (i:Int))) A =
   if isI v xs[i]=false then some (.normal (fK b (.z v) (.z ((i+1:Nat):Int))) A) else some (.ret [b,.z v,.z (i:Int),.z (i:Int),.t,.t] A):=fun A i hi=>by
  have x1:=hb.int (A:=A) _ _ (Sq hi) .i64
  have m:af .eql (.z xs[i]) (.z v)=some (.bool (isI v xs[i])):=by
   rw [bu]; congr 2; unfold isI; exact TO.2 eq_comm
  have b1:=be i xs.length .i64
  rw [Su hi] at b1
  have b3:=aP i (by omega)
  obtain ⟨i1,hi1⟩:∃i1:Nat,i1=i+1:=⟨_,rfl⟩
  rw [<-hi1] at b3 ⊢
  obtain ⟨d,hd⟩:∃d,d=isI v xs[i]:=⟨_,rfl⟩
  rw [<-hd] at m ⊢
  cases d with
  | false=>simp [eY,x1,m,b1,b3,hlen,-af,-ae,-aj]
  | true=>simp [eY,x1,m,b1,hlen,-af,-ae,-aj]
 have bE:=be xs.length xs.length .i64
 rw [Ss (by omega)] at bE
 unfold M48
 rw [aO _ _ rfl]
 rcases bU (E:=aq GC []) (fuel:=300) (a:=eY) (mask:=eA) (fun i=>fK b (.z v) (.z (i:Int))) (fun _=>[]) xs.length (fun i=>¬ ∀hi:i<xs.length,isI v xs[i]=false)
  (oF:=fun i=>.ret [b,.z v,.z (i:Int),.z (i:Int),.t,.t] []) (oE:=.exit 0 ((fK b (.z v) (.z (xs.length:Int))).set 4 .f) [])
  (fun _=>vW) (fun _ _ _ h=>by cases h) (fun _ _ h=>by cases h)
  (fun i hi hp=>by
   rw [round [] i hi]
   exact SA (SI.1 hp hi))
  (fun i hi hp=>by
   rw [round [] i hi]
   exact SD fun h=>hp fun _=>h)
  (by simp [eY,hlen,bE,-af,-aj]) (show xs.length<300 by omega) with ⟨i,hi,hp,hj,lp⟩ | ⟨hp,lp⟩
 ·have lp:bG (evC (aq GC []) 300 eY) eA 300 (fK b (.z v) (.z 0)) []=_:=lp
  have e:df (isI v) xs=(i:Int):=bC hi (by
   cases h':isI v xs[i] with
   | true=>rfl
   | false=>exact absurd (fun _=>h') hp) (fun j hj'=>SI.1 (hj j hj') (by omega))
  rw [e]
  simp [Fr,yu lp,-af,-aj]
 ·have lp:bG (evC (aq GC []) 300 eY) eA 300 (fK b (.z v) (.z 0)) []=_:=lp
  have e:df (isI v) xs = -1:=bH fun i hi=>SI.1 (hp i hi) hi
  rw [e]
  simp [Fr,yu lp,-af,-aj]
end Rk
namespace Rk
open Clu
open Cy (GC bq cQ bT cA cR okA smM smT lvM lvT dG ey bS Pos aM aV az dz df bC bH)
def wx (A:ac) (v:AV) (pl:List (Nat × List Int)):Prop:=
 (∀x∈pl,x.2≠[]/\A[x.1]?=some (.q (ak x.2)))/\((v=.nilS/\pl=[])\/∃id gr,v=.sl id 0 pl.length/\pl≠[]/\A[id]?=some (.row 1 gr (pl.map qb)))
theorem wx.app (h:wx A v pl) (X:ac):wx (A++X) v pl:=by
 have hk:∀(j:Nat) (e:Ent),A[j]?=some e->(A++X)[j]?=some e:=fun j e h=>by
  rw [Sy (Sp.1 h).1]; exact h
 refine ⟨fun x hx=>⟨(h.1 x hx).1,hk _ _ (h.1 x hx).2⟩,?_⟩
 rcases h.2 with h4 | ⟨id,gr,h4,h5,h6⟩
 ·exact .inl h4
 ·exact .inr ⟨id,gr,h4,h5,hk _ _ h6⟩
theorem wx.add (h:wx A v pl) {l:List Int} (hl:l≠[]) (hb:pl.length<=100000) {r y:Nat} (hr:A[r]?=some (.q (ak l))) (hy:A[y]?=some (.q [.sl r 0 l.length])) :
  ∃v' A',aL 1 24 A v (.sl y 0 1)=some (v',A')/\wx A' v' (pl++[(r,l)])/\kj A A':=by
 obtain ⟨h3,h4⟩:=h
 have hsrc:a8 1 A (.sl y 0 1)=some [.sl r 0 l.length]:=by simp [a8,hy]
 rcases h4 with ⟨rfl,rfl⟩ | ⟨id,gr,rfl,hpl,hrow⟩
 ·refine ⟨.sl A.length 0 1,A++[.q [.sl r 0 l.length]],?_,⟨fun x hx=>?_,.inr ⟨A.length,false,by simp,by simp,by simp [qb]⟩⟩,kj.app _ _⟩
  ·unfold aL; rw [hsrc]; simp
  ·simp only [T3,SY] at hx
   subst hx
   exact ⟨hl,by rw [Sy (Sp.1 hr).1]; exact hr⟩
 ·have hidl:id<A.length:=(Sp.1 hrow).1
  have hlen:0<pl.length:=TI.2 hpl
  have hnp2:¬ ju (.row 1 gr (pl.map qb)):=by
   cases pl with
   | nil=>exact absurd rfl hpl
   | cons x r=>exact jw _ _ _ _ _ _
  have hnid:∀j (m:List Int),m≠[]->A[j]?=some (.q (ak m))->j≠id:=fun j m hm hj e=>by
   subst e
   rw [hrow] at hj
   injection hj with hj
   exact hnp2 (hj ▸ ir hm 1 false)
  refine ⟨.sl id 0 (pl.length+1),A.set id (.row 1 true (pl.map qb++[.sl r 0 l.length])),?_,⟨fun x hx=>?_,.inr ⟨id,true,by simp,by simp,?_⟩⟩,by simp,fun j e hj he=>?_⟩
  ·have hz:pl.length≠0:=by omega
   have hb2:(pl.length+1)*24<=140737488355328:=by omega
   unfold aL; rw [hsrc]; simp [hrow,hz,hb2]
  ·rcases Uk.1 hx with hx | hx
   ·have:=h3 x hx
    exact ⟨this.1,by rw [Sz (fun e=>hnid _ _ this.1 this.2 e.symm)]; exact this.2⟩
   ·rw [SY] at hx
    subst hx
    exact ⟨hl,by rw [Sz (fun e=>hnid _ _ hl hr e.symm)]; exact hr⟩
  ·rw [SG hidl,TD]; rfl
  ·have n2:j≠id:=fun e'=>by
    subst e'; rw [hrow] at hj; injection hj with hj; exact hnp2 (hj ▸ he)
   rw [Sz (fun e=>n2 e.symm)]
   exact hj
theorem wx.frz (h:wx A v pl) (k:Nat):Proofs.YtkcjhljbgjpklaaGreat.frz A (k+3) v=dR (pl.map (·.2))/\bA A (k+4) v=true:=by
 have hP:GA A A.length v pl:=⟨h.1,by
  rcases h.2 with h2 | ⟨id,gr,h2,h3,h4⟩
  ·exact .inl h2
  ·exact .inr ⟨id,gr,h2,by have:=(Sp.1 h4).1; omega,h3,h4⟩⟩
 exact ⟨hP.frz k,hP.fresh k⟩
def HB (A:ac) (bv:AV) (b:List Int):Prop:=b≠[]/\(bv=.fs 1 (ak b)\/∃id gr,bv=.sl id 0 b.length/\A[id]?=some (.row 1 gr (ak b)))
theorem HB.step (h:HB A bv b) (s:kj A B):HB B bv b:=by
 refine ⟨h.1,?_⟩
 rcases h.2 with h2 | ⟨id,gr,h2,h3⟩
 ·exact .inl h2
 ·exact .inr ⟨id,gr,h2,s.2 _ _ h3 (ir h.1 1 gr)⟩
theorem HB.len (h:HB A bv b):aj bv=some (.z (b.length:Int)):=by
 rcases h.2 with rfl | ⟨id,gr,rfl,h3⟩
 ·simp [aj,ak]
 ·rfl
theorem HB.src (h:HB A bv b):a8 1 A bv=some (ak b):=by
 rcases h.2 with rfl | ⟨id,gr,rfl,h3⟩
 ·simp
 ·rw [p6 h3,<-az b,SL,SX]
theorem HB.at {A:ac} (h:HB A bv b) (hi:i<b.length):∃p,ae 1 A bv (.z (i:Int))=some p/\ab false 1 A p=some (.z b[i]):=by
 rcases h.2 with rfl | ⟨id,gr,rfl,h3⟩
 ·exact ⟨.fp [.z b[i]],(show SlA 1 (ak b) (.fs 1 (ak b)) from Or.inr rfl).int (A:=A) _ _ (Sq hi) .i64,rfl⟩
 ·refine ⟨.ptr id i 0,by simp [ae,h3,hi],?_⟩
  simp [ab,h3,ak,hi]
theorem LG (h:HB A bv b) (hl:b.length<=1000):aI 1 [] A=some (.sl A.length 0 0,A++[.q []])/\aL 1 8 (A++[.q []]) (.sl A.length 0 0) bv=some (.sl (A.length+1) 0 b.length,A++[.dead,.q (ak b)]):=by
 refine ⟨rfl,?_⟩
 have hs:=(h.step (kj.app A [.q []])).src
 have e:(ak b).length=b.length:=az b
 have hb:b.length*8<=140737488355328:=by omega
 have hset:(A++[Ent.q []]).set A.length .dead=A++[.dead]:=by
  rw [SQ _ _ (SK _),Uq]; rfl
 simp only [aL,hs]
 rw [Uf]
 simp only [e]
 rw [SA ⟨trivial,by omega,by omega,by omega⟩,SD (by omega),hset]
 simp
def H37:Nat->aJ
 | 0=>fun h=>bZ (dU GC [] h) 300 tT
 | k+1=>fun h=>bZ (dU GC [(110,H37 k)] h) 300 tT
theorem uH:∀k,au prog GC 110 (H37 k)
 | 0=>cw aB NL yO
 | k+1=>cw (ag (uH k) aB) NL yO
theorem FG (fs:List (FuncId × aJ)) (h:bj) (hB:HB A bv b) (ho:wx A v pl) (hlen:b.length=n+1) (hn4:n<=4) (hll:pl.length<=100000) :
  ∃v' B r,bZ (dU GC fs h) 300 tT [.z (n:Int),bv,v] A=some (v',B)/\wx B v' (pl++[(r,b)])/\kj A B:=by
 have hl:=hB.len
 obtain ⟨c1,c2⟩:=LG hB (by omega)
 have b1:=aP n (by omega)
 have b2:af .eql (.z (b.length:Int)) (.z ((n+1:Nat):Int))=some .t:=by rw [bu,Su (by omega)]
 obtain ⟨A1,hA1⟩:∃X,X=A++[Ent.dead,.q (ak b)]:=⟨_,rfl⟩
 have hl1:A1.length=A.length+2:=by rw [hA1]; simp
 have c3:aI 1 [.sl (A.length+1) 0 b.length] A1=some (.sl (A.length+2) 0 1,A1++[.q [.sl (A.length+1) 0 b.length]]):=by
  simp [aI,hl1]
 obtain ⟨v',B,k1,k2,k3⟩:=((ho.app [.dead,.q (ak b)]).app [.q [.sl (A.length+1) 0 b.length]]).add hB.1 hll (r:=A.length+1) (y:=A.length+2) (by
   rw [SO,SJ (by omega)]; simp) (by
   rw [SJ (by simp)]; simp)
 rw [<-hA1] at k1 k3 c2
 refine ⟨v',B,A.length+1,?_,k2,((kj.app A _).trans (by rw [<-hA1]; exact kj.app A1 _)).trans k3⟩
 obtain ⟨A2,hA2⟩:∃X,X=A1++[Ent.q [.sl (A.length+1) 0 b.length]]:=⟨_,rfl⟩
 rw [<-hA2] at c3 k1
 obtain ⟨A3,hA3⟩:∃X,X=A++[Ent.q []]:=⟨_,rfl⟩
 rw [<-hA3] at c1 c2
 rw [bo _ _ rfl]
 obtain ⟨r0,hr0⟩:∃x,x=A.length:=⟨_,rfl⟩
 rw [<-hr0] at c1 c2 c3 k1
 obtain ⟨r1,hr1⟩:∃x,x=r0+1:=⟨_,rfl⟩
 rw [<-hr1] at c2 c3
 obtain ⟨r2,hr2⟩:∃x,x=r0+2:=⟨_,rfl⟩
 rw [<-hr2] at c3 k1
 obtain ⟨n1,hn1⟩:∃x,x=n+1:=⟨_,rfl⟩
 rw [<-hn1] at b1 b2
 obtain ⟨bl,hbl⟩:∃x,x=b.length:=⟨_,rfl⟩
 rw [<-hbl] at hl c2 c3 b2
 simp [tT,hl,b1,b2,c1,c2,c3,k1,-af,-aj,-aI]
end Rk
namespace Rk
open Clu
open Cy (GC bq cQ bT cA cR okA smM smT lvM lvT dG ey bS Pos aM aV az dz df bC bH)
theorem in37 (fs:List (FuncId × aJ)) (h:bj) (hB:HB A bv b) (hb:b.length<=5) (i:Nat):∀(c j m:Nat),j+c=b.length->c<m ->
  bG (evC (dU GC fs h) 300 ge) fI m (io v0 bv v2 (.z (i:Int)) (.bool (decide ((i:Int)∈b.take j))) (.z (j:Int))) A=some (.exit 2 ((io v0 bv v2 (.z (i:Int)) (.bool (decide ((i:Int)∈b))) (.z (b.length:Int))).set 9 .f) A):=by
 have hl:=hB.len
 intro c
 induction c with
 | zero=>
  intro j m hj hm
  obtain ⟨m,rfl⟩:∃k,m=k+1:=⟨m-1,by omega⟩
  obtain rfl:j=b.length:=by omega
  rw [SX]
  have b0:af .lss (.z (b.length:Int)) (.z (b.length:Int))=some .f:=by rw [bP,Ss (by omega)]
  rw [aG,s8]
  simp [ge,hl,b0,-af,-aj]
 | succ c ih=>
  intro j m hj hm
  obtain ⟨m,rfl⟩:∃k,m=k+1:=⟨m-1,by omega⟩
  have hjl:j<b.length:=by omega
  obtain ⟨p,p1,p2⟩:=hB.at hjl
  have b0:af .lss (.z (j:Int)) (.z (b.length:Int))=some .t:=by rw [bP,Su (by omega)]
  have b1:af .eql (.z b[j]) (.z (i:Int))=some (.bool (decide (b[j]=(i:Int)))):=bu _ _
  have b3:=aP j (by omega)
  have e:decide ((i:Int)∈b.take (j+1))=(decide ((i:Int)∈b.take j) || decide (b[j]=(i:Int))):=by
   have:(i:Int)∈b.take (j+1)↔((i:Int)∈b.take j\/b[j]=(i:Int)):=by
    rw [Tu hjl,Uk,SY]
    exact or_congr Iff.rfl eq_comm
   rw [TO.2 this,Bool.decide_or]
  have:=ih (j+1) m (by omega) (by omega)
  rw [e] at this
  rw [aG,s8]
  obtain ⟨j1,hj1⟩:∃j1:Nat,j1=j+1:=⟨_,rfl⟩
  rw [<-hj1] at b3 this
  obtain ⟨d1,h1⟩:∃d,d=decide ((i:Int)∈b.take j):=⟨_,rfl⟩
  rw [<-h1] at this ⊢
  obtain ⟨d2,h2⟩:∃d,d=decide (b[j]=(i:Int)):=⟨_,rfl⟩
  rw [<-h2] at b1 this
  obtain ⟨x,hx⟩:∃x,x=b[j]:=⟨_,rfl⟩
  rw [<-hx] at p2 b1
  obtain ⟨bl,hbl⟩:∃x,x=b.length:=⟨_,rfl⟩
  rw [<-hbl] at b0 hl this ⊢
  cases d1 with
  | true=>simpa [ge,hl,b0,b3,-af,-aj] using this
  | false=>simpa [ge,hl,b0,b1,b3,p1,p2,-af,-aj,-ae,-ab] using this
theorem NW (hb0:b≠[]) (hl:b.length<=1000) (i:Int):aI 1 [.z i] (A++[.dead,.q (ak b)])=some (.sl (A.length+2) 0 1,A++[.dead,.q (ak b),.q [.z i]]) /\
  aL 1 8 (A++[.dead,.q (ak b),.q [.z i]]) (.sl (A.length+1) 0 b.length) (.sl (A.length+2) 0 1)=some (.sl (A.length+1) 0 (b.length+1),A++[.dead,.row 1 true (ak (b++[i])),.q [.z i]]):=by
 refine ⟨by simp [aI],?_⟩
 obtain ⟨A2,hA2⟩:∃X,X=A++[.dead,.q (ak b),.q [.z i]]:=⟨_,rfl⟩
 rw [<-hA2]
 have g1:A2[A.length+1]?=some (.q (ak b)):=by rw [hA2,SJ (by omega)]; simp
 have g2:A2[A.length+2]?=some (.q [.z i]):=by rw [hA2,SJ (by omega)]; simp
 have hsrc:a8 1 A2 (.sl (A.length+2) 0 1)=some [.z i]:=by simp [a8,g2]
 have hlen:0<b.length:=TI.2 hb0
 have hz:b.length≠0:=by omega
 have hb2:(b.length+1)*8<=140737488355328:=by omega
 have hne:ak b≠[]:=by unfold ak; simpa using hb0
 have hil:=az b
 have hset:A2.set (A.length+1) (.row 1 true (ak b++[.z i]))=A++[.dead,.row 1 true (ak (b++[i])),.q [.z i]]:=by
  rw [hA2,SQ _ _ (by omega),show A.length+1-A.length=1 by omega]
  simp [ak]
 unfold aL
 rw [hsrc]
 simp [g1,hz,hb2,hil,hset]
theorem wS {h:bj} {fs:List (FuncId × aJ)} {H:aJ} (hH:aD fs 110=some H) {A:ac} (hB:HB A bv b) (hbn:b.length<=5) (hi:i<=n) (hn4:n<=4) {v':AV}
  (hr:(i:Int) ∉ b->H h [.z (n:Int),.sl (A.length+1) 0 (b.length+1),v] (A++[.dead,.row 1 true (ak (b++[(i:Int)])),.q [.z (i:Int)]])=some (v',B))
  (hr0:(i:Int)∈b->B=A/\v'=v) :
  run (dU GC fs h) 300 [.code mD] (pU (.z (n:Int)) bv v (.z (i:Int))) A=some (.normal (pU (.z (n:Int)) bv v' (.z ((i+1:Nat):Int))) B):=by
 have b0:af .leq (.z (i:Int)) (.z (n:Int))=some .t:=by rw [cr,Su (by omega)]
 have b3:=aP i (by omega)
 obtain ⟨c1,c2⟩:=LG hB (by omega)
 obtain ⟨c3,c4⟩:=NW (A:=A) hB.1 (by omega) (i:Int)
 have hin:bG (evC (dU GC fs h) 300 ge) fI 300 (io (.z (n:Int)) bv v (.z (i:Int)) .f (.z 0)) A=_:=in37 fs h hB hbn i b.length 0 300 (by omega) (by omega)
 obtain ⟨i1,hi1⟩:∃i1:Nat,i1=i+1:=⟨_,rfl⟩
 rw [<-hi1] at b3 ⊢
 obtain ⟨A1,hA1⟩:∃X,X=A++[Ent.q []]:=⟨_,rfl⟩
 rw [<-hA1] at c1 c2
 obtain ⟨A2,hA2⟩:∃X,X=A++[Ent.dead,.q (ak b)]:=⟨_,rfl⟩
 rw [<-hA2] at c2 c3
 obtain ⟨A3,hA3⟩:∃X,X=A++[Ent.dead,.q (ak b),.q [.z (i:Int)]]:=⟨_,rfl⟩
 rw [<-hA3] at c3 c4
 obtain ⟨A4,hA4⟩:∃X,X=A++[Ent.dead,.row 1 true (ak (b++[(i:Int)])),.q [.z (i:Int)]]:=⟨_,rfl⟩
 rw [<-hA4] at c4 hr
 obtain ⟨r1,hr1⟩:∃x,x=A.length+1:=⟨_,rfl⟩
 rw [<-hr1] at c2 c4 hr
 obtain ⟨r2,hr2⟩:∃x,x=A.length+2:=⟨_,rfl⟩
 rw [<-hr2] at c3 c4
 obtain ⟨r0,hr00⟩:∃x,x=A.length:=⟨_,rfl⟩
 rw [<-hr00] at c1 c2
 obtain ⟨bl1,hbl1⟩:∃x,x=b.length+1:=⟨_,rfl⟩
 rw [<-hbl1] at c4 hr
 obtain ⟨bl,hbl⟩:∃x,x=b.length:=⟨_,rfl⟩
 rw [<-hbl] at c2 c4 hin
 by_cases hd:(i:Int)∈b
 ·obtain ⟨rfl,rfl⟩:=hr0 hd
  rw [Su hd] at hin
  simp [mD,b0,b3,yy hin,-af]
 ·have hr:=hr hd
  rw [Ss hd] at hin
  simp [mD,b0,b3,yy hin,c1,c2,c3,c4,hH,hr,-af,-aI]
end Rk
namespace Rk
open Clu
open Cy (GC bq cQ bT cA cR okA smM smT lvM lvT dG ey bS Pos aM aV az dz df bC bH)
theorem Ie {pl':List (Nat × List Int)} {l:List (List Int)} (h:pl'.map (·.2)=pl.map (·.2)++l):pl'.length=pl.length+l.length:=by
 have:=Vc List.length h
 simpa using this
theorem NC (h:bj) (hn4:n<=4) (d:Nat):∀(k:Nat) {A:ac} {v bv:AV} {b:List Int} {pl:List (Nat × List Int)},b.length+k=n+1->HB A bv b->wx A v pl->pl.length+4 ^ k<=100000 ->
  ∃v' B pl',H37 (d+k) h [.z (n:Int),bv,v] A=some (v',B)/\wx B v' pl'/\pl'.map (·.2)=pl.map (·.2)++ext n true (k+1) b/\kj A B
 | 0,A,v,bv,b,pl,hk,hB,ho,hll=>by
  have e:ext n true (0+1) b=[b]:=by unfold ext; rw [SA (by omega)]
  rw [e]
  cases d with
  | zero=>
   obtain ⟨v',B,r,h1,h2,h3⟩:=FG [] h hB ho (by omega) hn4 (by omega)
   exact ⟨v',B,_,h1,h2,by simp,h3⟩
  | succ d=>
   obtain ⟨v',B,r,h1,h2,h3⟩:=FG [(110,H37 d)] h hB ho (by omega) hn4 (by omega)
   exact ⟨v',B,_,h1,h2,by simp,h3⟩
 | k+1,A,v,bv,b,pl,hk,hB,ho,hll=>by
  have e:ext n true (k+1+1) b=(List.range' 1 n).flatMap (fE n true (k+1) b):=by
   rw [ext,SD (by omega)]; rfl
  rw [e]
  have loop:∀(c i:Nat) (A:ac) (v:AV) (pl:List (Nat × List Int)) (m:Nat),i+c=n+1->HB A bv b->wx A v pl->pl.length+c*4 ^ k<=100000->c<m ->
    ∃v' B pl',bG (evC (dU GC [(110,H37 (d+k))] h) 300 mD) mq m (pU (.z (n:Int)) bv v (.z (i:Int))) A=some (.exit 0 ((pU (.z (n:Int)) bv v' (.z ((n+1:Nat):Int))).set 8 .f) B) /\
     wx B v' pl'/\pl'.map (·.2)=pl.map (·.2)++(List.range' i c).flatMap (fE n true (k+1) b)/\kj A B:=by
   intro c
   induction c with
   | zero=>
    intro i A v pl m hi hB ho hll hm
    obtain ⟨m,rfl⟩:∃j,m=j+1:=⟨m-1,by omega⟩
    refine ⟨v,A,pl,?_,ho,by simp,kj.refl _⟩
    have b0:af .leq (.z ((n+1:Nat):Int)) (.z (n:Int))=some .f:=by rw [cr,Ss (by omega)]
    obtain rfl:i=n+1:=by omega
    obtain ⟨i1,hi1⟩:∃i1:Nat,i1=n+1:=⟨_,rfl⟩
    rw [<-hi1] at b0 ⊢
    rw [UB rfl]
    simp [mD,b0,-af]
   | succ c ihc=>
    intro i A v pl m hi hB ho hll hm
    obtain ⟨m,rfl⟩:∃j,m=j+1:=⟨m-1,by omega⟩
    rw [SP,US] at hll
    obtain ⟨v1,B,pl1,hB1,hB2,hB3,hB4,hB5⟩:∃v1 B pl1,((i:Int) ∉ b->H37 (d+k) h [.z (n:Int),.sl (A.length+1) 0 (b.length+1),v] (A++[.dead,.row 1 true (ak (b++[(i:Int)])),.q [.z (i:Int)]])=some (v1,B)) /\
      ((i:Int)∈b->B=A/\v1=v)/\wx B v1 pl1/\pl1.map (·.2)=pl.map (·.2)++fE n true (k+1) b i/\kj A B:=by
     by_cases hd:(i:Int)∈b
     ·refine ⟨v,A,pl,fun e=>absurd hd e,fun _=>⟨rfl,rfl⟩,ho,?_,kj.refl _⟩
      unfold fE
      rw [SD (by simp [hd]),S5]
     ·obtain ⟨v1,B,pl1,h1,h2,h3,h4⟩:=NC h hn4 d k (A:=A++[.dead,.row 1 true (ak (b++[(i:Int)])),.q [.z (i:Int)]]) (v:=v) (bv:=.sl (A.length+1) 0 (b.length+1)) (b:=b++[(i:Int)]) (pl:=pl) (by simp; omega) ⟨by simp,.inr ⟨A.length+1,true,by simp,by rw [SJ (by omega)]; simp⟩⟩ (ho.app _) (by omega)
      refine ⟨v1,B,pl1,fun _=>h1,fun e=>absurd e hd,h2,?_,(kj.app A _).trans h4⟩
      unfold fE
      rw [SA (by simp [hd])]; exact h3
    have hr:=wS (fs:=[(110,H37 (d+k))]) (h:=h) rfl hB (by omega) (i:=i) (by omega) hn4 hB1 hB2
    have hfl:(fE n true (k+1) b i).length<=4 ^ k:=by
     unfold fE
     split
     ·rcases uc n true hn4 k (b++[(i:Int)]) with h1 | h1
      ·exact h1
      ·simp at h1; omega
     ·simp
    obtain ⟨v2,C,pl2,c1,c2,c3,c4⟩:=ihc (i+1) B v1 pl1 m (by omega) (hB.step hB5) hB3 (by rw [Ie hB4]; omega) (by omega)
    refine ⟨v2,C,pl2,?_,c2,?_,hB5.trans c4⟩
    ·rw [UB rfl,hr]
     exact c1
    ·rw [U5,Uj,<-SO,c3,hB4]
  have hp:n*4 ^ k<=4 ^ (k+1):=by
   rw [Nat.pow_succ,Vk]
   exact Nat.mul_le_mul_left _ hn4
  obtain ⟨v',B,pl',h1,h2,h3,h4⟩:=loop n 1 A v pl 300 (by omega) hB ho (by omega) (by omega)
  refine ⟨v',B,pl',?_,h2,h3,h4⟩
  have hl:=hB.len
  have b1:=aP n (by omega)
  have b2:af .eql (.z (b.length:Int)) (.z ((n+1:Nat):Int))=some .f:=by rw [bu,Ss (by omega)]
  obtain ⟨n1,hn1⟩:∃x,x=n+1:=⟨_,rfl⟩
  rw [<-hn1] at b1 b2 h1
  obtain ⟨bl,hbl⟩:∃x,x=b.length:=⟨_,rfl⟩
  rw [<-hbl] at hl b2
  rw [show H37 (d+(k+1))=fun h=>bZ (dU GC [(110,H37 (d+k))] h) 300 tT from rfl]
  simp only
  rw [bo _ _ rfl]
  have h1:bG (evC (dU GC [(110,H37 (d+k))] h) 300 mD) mq 300 (pU (.z (n:Int)) bv v (.z 1)) A=_:=h1
  simp [tT,hl,b1,b2,Lc h1,-af,-aj]
end Rk
namespace Rk
open Clu
open Cy (GC bq cQ bT cA cR okA smM smT lvM lvT dG ey bS Pos aM aV az dz df bC bH)
def Lt:List (FuncId × aJ):=[(57,aE 4 Tr.M81),(110,H37 4)]
@[simp] theorem Qu:aD Lt 57=some (aE 4 Tr.M81):=rfl
@[simp] theorem Qt:aD Lt 110=some (H37 4):=rfl
theorem Hz:∀f M,aD Lt f=some M->au prog GC f M:=ag (au.of_pure Tr.Fc 4) (ag (uH 4) aB)
def M15:aU:=fun args=>evF (aq GC Lt) 300 DJ 4 args
theorem Ka:cm prog GC 105 M15:=cm.of_ev (E:=aq GC Lt) (ax Hz) rfl (by kernel_rfl) Cx 4 fun _ _ h=>⟨300,h⟩
theorem M2 {T:aW} (hb:SlA 2 (T.ch.map chA) chv) (hl:T.ch.length<=200) (hv:aT T) (hb1:T.blades=1):M15 [ai T chv]=some (dR (aN T)):=by
 have m:=Tr.GB hb hl
 rw [Su hv] at m
 have hlen:=hb.len
 rw [SF] at hlen
 have ft:=fun A=>aQ (T:=T) (fun A n=>hb.frz (A:=A) n) A 3
 have nr:=cf (T:=T) (fun n=>hb.noRef n) 3
 obtain ⟨B0,hB0⟩:∃B,B=[Ent.row 5 false [ai T chv]]:=⟨_,rfl⟩
 have bx:aR 5 (ai T chv) []=some (.p 0,B0):=by rw [hB0]; rfl
 have ct:(cellsOf (ai T chv)).length=5:=rfl
 have ct1:(cellsOf (.z 0)).length=1:=rfl
 have lt:ab true 5 B0 (.p 0)=some (ai T chv):=by rw [hB0]; rfl
 have f4:aa 4 B0 (.p 0)=some (.ptr 0 0 4):=by rw [hB0]; rfl
 have f0:aa 0 B0 (.p 0)=some (.p 0):=by rw [hB0]; rfl
 have l4:ab false 1 B0 (.ptr 0 0 4)=some (.z T.blades):=by rw [hB0]; rfl
 have l0:ab false 1 B0 (.p 0)=some chv:=by rw [hB0]; rfl
 have b0:=bu T.blades 2
 rw [Ss (by omega)] at b0
 have hn4:=hv.2.2.2.1
 have ho:wx B0 .nilS []:=⟨fun _ h=>by simp at h,.inl ⟨rfl,rfl⟩⟩
 have hp4:4 ^ T.ch.length<=4 ^ 4:=Nat.pow_le_pow_right (by omega) hn4
 obtain ⟨v',B,pl,h1,h2,h3,h4⟩:=NC (fun _ _ _=>none) (d:=4-T.ch.length) hn4 T.ch.length (A:=B0) (v:=.nilS) (bv:=.fs 1 [.z 0]) (b:=[0]) (pl:=[]) (by simp; omega) ⟨by simp,.inl rfl⟩ ho (by simp; omega)
 rw [show 4-T.ch.length+T.ch.length=4 by omega] at h1
 have he:pl.map (·.2)=aN T:=by rw [h3]; unfold aN; rw [SA hv,Su hb1]; rfl
 have hf:=(h2.frz 1).1
 have hg:=(h2.frz 0).2
 rw [he] at hf
 unfold M15
 clear hB0 h2 h3 h4 ho
 generalize ai T chv=t at *
 rw [fU _ _ rfl]
 simp [DJ,bx,ct,ct1,lt,ft,m,f4,f0,l0,l4,b0,hlen,h1,hf,hg,dI,-frz,-aj,-ab,-aa,-aR,-af,-aI,-cellsOf]
end Rk
namespace Rc
def dE:MC:=.seq (.r [.a 3,.a 1,.s 1,.D 5 0 2] (.cond (.var 5) .skip (.exit 0))) (.seq (.seq (.block 1 (.r [.a 1,.a 3,.e 4 0 1,.o 0 2,.b 1 3,.a 0,.r 5 1,.ae 93 4 6,.Q 7,.i 8,.n 1 9,.n 3 9,.O 4 10 11 9,.a2 1 12 9,.p 1 13 9,.n 0 9,.qf (.bin .sub (.tmp 15) (.cst (.z 1))) 9,.bc 93 14 16 9,.G 17 9,.I 9 18,.i 19,.n 1 20,.n 3 20,.O 4 21 22 20,.a2 2 23 20,.p 1 24 20,.bx 93 25 20,.G 26 20,.I 20 27,.i 28,.n 1 29,.n 3 29,.O 4 30 31 29,.a2 3 32 29,.p 1 33 29,.cb 93 34 29,.G 35 29,.x 6 29 36] (.cond (.var 6) (.r [.g 2] .ret) .skip))) (.kill [2,4,5,6])) (.region [.a 3,.h 0 1,.c 3 1]))
def dK:List Nat:=[2,4,5,6]
def Aa:cJ:=⟨2,7,.r [.g 2] (.seq (.r [.a 0,.cw 93 0,.Q 1,.i 2,.n 1 3,.ar 4 3,.Y 5 200 3,.x 4 3 6] (.cond (.var 4) (.r [.g 2] .ret) .skip)) (.seq (.r [.f 3 0] (.seq (.block 0 (.loop dK dE)) (.kill [0,1,2,3,4,5,6]))) (.r [.J 2] .ret))),[.tmp 2]⟩
abbrev gO (v0 v1 v3:AV):List AV:=[v0,v1,.u,v3,.u,.u,.u]
theorem tc:clear dK [v0,v1,d2,v3,d4,d5,d6]=gO v0 v1 v3:=rfl
theorem vu {k:List KC} (h:bG (evC E fuel dE) dK fuel (gO v0 v1 v3) A=some o) :
  run E fuel (.code (.loop dK dE) :: k) [v0,v1,d2,v3,d4,d5,d6] A=after E fuel k o:=aK dK _ _ (by rw [tc]; exact h)
theorem Cw:aH prog Tryz.f107 2 [0,1,4,5,13,17,57] [] true ([dK],[dK,[0,1,2,3,4,5,6]])=some Aa:=by kernel_rfl
def ev:MC:=.seq (.r [.a 3,.a 0,.s 1,.D 5 0 2] (.cond (.var 5) .skip (.exit 0))) (.seq (.seq (.block 1 (.r [.a 0,.a 3,.e 1 0 1,.b 1 2,.a 1,.a 3,.e 1 4 5,.b 1 6,.a8 6 3 7] (.cond (.var 6) (.r [.g 2] .ret) .skip))) (.kill [2,4,5,6])) (.region [.a 3,.h 0 1,.c 3 1]))
def dW:List Nat:=[2,4,5,6]
def Bl:cJ:=⟨2,7,.r [.g 2] (.seq (.r [.a 0,.s 0,.a 1,.s 2,.a8 4 1 3] (.cond (.var 4) (.r [.g 2] .ret) .skip)) (.seq (.r [.f 3 0] (.seq (.block 0 (.loop dW ev)) (.kill [0,1,2,3,4,5,6]))) (.r [.J 2] .ret))),[.tmp 2]⟩
abbrev fL (v0 v1 v3:AV):List AV:=[v0,v1,.u,v3,.u,.u,.u]
theorem re:clear dW [v0,v1,d2,v3,d4,d5,d6]=fL v0 v1 v3:=rfl
theorem vt {k:List KC} (h:bG (evC E fuel ev) dW fuel (fL v0 v1 v3) A=some o) :
  run E fuel (.code (.loop dW ev) :: k) [v0,v1,d2,v3,d4,d5,d6] A=after E fuel k o:=aK dW _ _ (by rw [re]; exact h)
theorem Cv:aH prog Tryz.f106 2 [0,1,4,5,10,14,25] [] true ([dW],[dW,[0,1,2,3,4,5,6]])=some Bl:=by kernel_rfl
def Jq:cJ:=⟨3,5,.r [.g 3] (.r [.a 0,.a 1,.B 107 0 1,.c 4 2] (.r [.a 4,.i 0,.l 2 1,.qt (.call (.fn 93) [.tmp 2,.cst (.z (-1000000)),.cst (.z 1000000)]) 1,.q 1 3,.c 3 4] .ret)),[.tmp 3]⟩
theorem Cr:aH prog Tryz.f92 3 [0,1,2,6,7] [] true ([],[])=some Jq:=by kernel_rfl
def tU:cJ:=⟨3,4,.r [.g 3] (.r [.a 0,.a 1,.b9 0 1,.i 2,.l 0 3,.l 2 3,.a5 4 5 3,.q 3 6,.c 3 7] .ret),[.tmp 3]⟩
theorem oI:aH prog Tryz.f93 3 [0,1,2,6] [] true ([],[])=some tU:=by kernel_rfl
theorem Gv:prog.funcs[93]?=some Tryz.f93:=by kernel_rfl
def zH:cJ:=⟨2,4,.r [.y 2 0,.f 3 0] (.r [.d 2 2,.b 1 0,.a 1,.d 3 2,.b 1 3,.b8 2 4,.ai 1 5,.c 3 6] .ret),[.tmp 3]⟩
theorem vQ:aH prog Tryz.f94 2 [0,1,2,4] [] true ([],[])=some zH:=by kernel_rfl
def dM:MC:=.seq (.r [.a 6,.a 0,.D 9 0 1] (.cond (.var 9) .skip (.exit 0))) (.seq (.seq (.block 1 (.r [.a 3,.a 6,.e 1 0 1,.b 1 2,.cf 93 3,.N 10 4] (.cond (.var 10) (.r [.g 4] .ret) .skip))) (.kill [4,5,7,8,9,10,11,12])) (.region [.a 6,.h 0 1,.c 6 1]))
def eu:MC:=.seq (.r [.a 7,.a 1,.s 1,.D 11 0 2] (.cond (.var 11) .skip (.exit 2))) (.seq (.seq (.block 3 (.r [.a 3,.a 1,.a 7,.e 4 1 2,.o 1 3,.b 1 4,.e 1 0 5,.b 1 6,.a 3,.a 1,.a 7,.e 4 9 10,.o 0 11,.b 1 12,.e 1 8 13,.b 1 14,.a 1,.a 7,.e 4 16 17,.K 4 18,.a 2,.B 94 19 20,.m 15 21,.D 12 7 22] (.cond (.var 12) (.r [.g 4] .ret) .skip))) (.kill [0,4,5,6,8,9,10,11,12])) (.region [.a 7,.h 0 1,.c 7 1]))
def eE:List Nat:=[4,5,7,8,9,10,11,12]
def eD:List Nat:=[0,4,5,6,8,9,10,11,12]
def Bk:cJ:=⟨4,13,.r [.g 4] (.r [.a 0,.a 1,.a 2,.L 92 0 1 2,.c 5 3] (.seq (.r [.a 5,.Q 0,.i 1,.n 3 2,.ar 3 2,.n 0 2,.bk 4 5 2,.x 8 2 6] (.cond (.var 8) (.r [.g 4] .ret) .skip)) (.seq (.r [.f 6 0] (.seq (.block 0 (.loop eE dM)) (.kill [0,4,5,6,7,8,9,10,11,12]))) (.seq (.r [.f 7 0] (.seq (.block 2 (.loop eD eu)) (.kill [0,1,2,3,4,5,6,7,8,9,10,11,12]))) (.r [.J 4] .ret))))),[.tmp 4]⟩
abbrev fZ (v0 v1 v2 v3 v6:AV):List AV:=[v0,v1,v2,v3,.u,.u,v6,.u,.u,.u,.u,.u,.u]
theorem ta:clear eE [v0,v1,v2,v3,d4,d5,v6,d7,d8,d9,d10,d11,d12]=fZ v0 v1 v2 v3 v6:=rfl
theorem vr {k:List KC} (h:bG (evC E fuel dM) eE fuel (fZ v0 v1 v2 v3 v6) A=some o) :
  run E fuel (.code (.loop eE dM) :: k) [v0,v1,v2,v3,d4,d5,v6,d7,d8,d9,d10,d11,d12] A=after E fuel k o:=aK eE _ _ (by rw [ta]; exact h)
abbrev fY (v1 v2 v3 v7:AV):List AV:=[.u,v1,v2,v3,.u,.u,.u,v7,.u,.u,.u,.u,.u]
theorem s9:clear eD [d0,v1,v2,v3,d4,d5,d6,v7,d8,d9,d10,d11,d12]=fY v1 v2 v3 v7:=rfl
theorem yz {k:List KC} (h:bG (evC E fuel eu) eD fuel (fY v1 v2 v3 v7) A=some o) :
  run E fuel (.code (.loop eD eu) :: k) [d0,v1,v2,v3,d4,d5,d6,v7,d8,d9,d10,d11,d12] A=after E fuel k o:=aK eD _ _ (by rw [s9]; exact h)
theorem Ct:aH prog Tryz.f59 4 [0,1,2,3,8,9,10,11,23,26,34,38,64] [94] true ([eE,eD],[eE,[0,4,5,6,7,8,9,10,11,12],eD,[0,1,2,3,4,5,6,7,8,9,10,11,12]])=some Bk:=by kernel_rfl
def dL:MC:=.seq (.r [.a 6,.a 3,.s 1,.D 11 0 2] (.cond (.var 11) .skip (.exit 0))) (.seq (.seq (.block 1 (.r [.a 3,.a 6,.e 1 0 1,.b 1 2,.a 1,.s 4,.r 5 1,.ae 93 3 6,.N 12 7] (.cond (.var 12) (.r [.g 4] .ret) .skip))) (.kill [0,4,5,7,8,9,10,11,12,13,14])) (.region [.a 6,.h 0 1,.c 6 1]))
def kJ:MC:=.seq (.r [.a 8,.a 3,.s 1,.D 13 0 2] (.cond (.var 13) .skip (.exit 2))) (.seq (.seq (.block 3 (.r [.a 3,.a 8,.h 1 1,.a 3,.s 3,.ct 2 4,.e 1 0 5,.b 1 6,.c 9 7] (.seq (.r [.a 1,.a 3,.a 8,.e 1 1 2,.b 1 3,.e 4 0 4,.o 1 5,.b 1 6,.a 1,.a 9,.e 4 8 9,.o 0 10,.b 1 11,.a8 14 7 12] (.cond (.var 14) (.r [.g 4] .ret) .skip)) (.region [.a 7,.a 1,.a 3,.a 8,.e 1 2 3,.b 1 4,.e 4 1 5,.K 4 6,.a 2,.B 94 7 8,.m 0 9,.c 7 10])))) (.kill [0,4,5,6,9,10,11,12,13,14])) (.region [.a 8,.h 0 1,.c 8 1]))
def eC:List Nat:=[0,4,5,7,8,9,10,11,12,13,14]
def j6:List Nat:=[0,4,5,6,9,10,11,12,13,14]
def uW:cJ:=⟨4,15,.r [.g 4] (.r [.a 0,.a 1,.a 2,.L 92 0 1 2,.c 5 3] (.seq (.r [.a 5,.Q 0,.i 1,.n 3 2,.ar 3 2,.qf (.call (.fn 93) [.tmp 4,.cst (.z 1),.cst (.z 200)]) 2,.G 5 2,.x 10 2 6] (.cond (.var 10) (.r [.g 4] .ret) .skip)) (.seq (.r [.f 6 0] (.seq (.block 0 (.loop eC dL)) (.kill [0,4,5,6,7,8,9,10,11,12,13,14]))) (.r [.f 7 0] (.seq (.r [.f 8 0] (.seq (.block 2 (.loop j6 kJ)) (.kill [0,1,2,3,4,5,6,8,9,10,11,12,13,14]))) (.r [.a 7,.cs 0 0,.c 4 1] .ret)))))),[.tmp 4]⟩
abbrev fX (v1 v2 v3 v6:AV):List AV:=[.u,v1,v2,v3,.u,.u,v6,.u,.u,.u,.u,.u,.u,.u,.u]
theorem q9:clear eC [d0,v1,v2,v3,d4,d5,v6,d7,d8,d9,d10,d11,d12,d13,d14]=fX v1 v2 v3 v6:=rfl
theorem qD {k:List KC} (h:bG (evC E fuel dL) eC fuel (fX v1 v2 v3 v6) A=some o) :
  run E fuel (.code (.loop eC dL) :: k) [d0,v1,v2,v3,d4,d5,v6,d7,d8,d9,d10,d11,d12,d13,d14] A=after E fuel k o:=aK eC _ _ (by rw [q9]; exact h)
abbrev nZ (v1 v2 v3 v7 v8:AV):List AV:=[.u,v1,v2,v3,.u,.u,.u,v7,v8,.u,.u,.u,.u,.u,.u]
theorem F0 {k:List KC} {v8:AV} (h:bG (evC E fuel kJ) j6 fuel (nZ v1 v2 v3 v7 v8) A=some o) :
  run E fuel (.code (.loop j6 kJ) :: k) [d0,v1,v2,v3,d4,d5,d6,v7,v8,d9,d10,d11,d12,d13,d14] A=after E fuel k o:=aK j6 _ _ h
theorem vU:aH prog Tryz.f60 4 [0,1,2,3,8,9,10,11,12,13,25,29,40,44,68] [] true ([eC,j6],[eC,[0,4,5,6,7,8,9,10,11,12,13,14],j6,[0,1,2,3,4,5,6,8,9,10,11,12,13,14]])=some uW:=by kernel_rfl
end Rc
namespace Rc
open Cy
section
variable {a:AV} {l:List bq}
end
theorem jn:aw prog GC 93 M32:=by
 refine aw.of_ev (E:=aq GC []) (ax aB) rfl Gv oI 1 ?_
 intro args r h
 unfold M32 at h
 split at h
 ·rename_i n lo hi
  injection h with h; subst h
  refine ⟨0,?_⟩
  have b1:af .geq (.z n) (.z lo)=some (.bool (decide (lo<=n))):=by simp [af]
  have b2:af .leq (.z n) (.z hi)=some (.bool (decide (n<=hi))):=by simp [af]
  rw [tC]
  obtain ⟨p,hp⟩:∃p,p=decide (lo<=n):=⟨_,rfl⟩
  obtain ⟨q,hq⟩:∃q,q=decide (n<=hi):=⟨_,rfl⟩
  rw [<-hp] at b1 ⊢
  rw [<-hq] at b2 ⊢
  rw [aO _ _ rfl]
  cases p <;> simp [tU,b1,b2,-af]
 ·cases h
def fsW:List (FuncId × aJ):=[(82,aE 4 M32),(93,aE 4 M32)]
@[simp] theorem Lr:aD fsW 82=some (aE 4 M32):=rfl
@[simp] theorem Lq:aD fsW 93=some (aE 4 M32):=rfl
theorem sk:∀f M,aD fsW f=some M->au prog GC f M:=ag (au.of_pure sh 4) (ag (au.of_pure jn 4) aB)
end Rc
namespace Rc
open Cy
theorem tO (fuel:Nat) (A:ac) {l:List bq} (ha:bT a=some l) {n:Int} (hn:1<=n/\n<=32) (hi:i<l.length) :
  run (aq GC fsW) fuel [.code dE] (gO (.z n) a (.z (i:Int))) A =
   if dD n l[i]=false then some (.normal (gO (.z n) a (.z ((i+1:Nat):Int))) A) else some (.ret [.z n,a,.f,.z (i:Int),.u,.t,.t] A):=by
 obtain ⟨hl,hm⟩:=eP ha
 have x1:=iF ha hi A .i64
 rw [xI]
 have m1:=fC l[i].f 0 (n-1)
 have m2:=fC l[i].t 0 (n-1)
 have m3:=fC l[i].w (-1000000) 1000000
 have m4:=fC l[i].k (-2) 2
 have b:af .sub (.z n) (.z 1)=some (.z (n-1)):=by
  simp only [af]; rw [SA trivial,eH (by unfold inI; omega)]
 have b1:=be i l.length .i64
 rw [Su hi] at b1
 have b3:=aP i (by omega)
 obtain ⟨i1,hi1⟩:∃i1:Nat,i1=i+1:=⟨_,rfl⟩
 rw [<-hi1] at b3 ⊢
 obtain ⟨p1,hp1⟩:∃p,p=decide (0<=l[i].f/\l[i].f<=n-1):=⟨_,rfl⟩
 obtain ⟨p2,hp2⟩:∃p,p=decide (0<=l[i].t/\l[i].t<=n-1):=⟨_,rfl⟩
 obtain ⟨p3,hp3⟩:∃p,p=decide (-1000000<=l[i].w/\l[i].w<=1000000):=⟨_,rfl⟩
 obtain ⟨p4,hp4⟩:∃p,p=decide (-2<=l[i].k/\l[i].k<=2):=⟨_,rfl⟩
 rw [<-hp1] at m1 ⊢
 rw [<-hp2] at m2 ⊢
 rw [<-hp3] at m3 ⊢
 rw [<-hp4] at m4 ⊢
 obtain ⟨n1,hn1⟩:∃n1,n1=n-1:=⟨_,rfl⟩
 rw [<-hn1] at b m1 m2
 cases p1
 ·simp [dE,hl,x1,b,b1,m1,-af,-ae,-aj]
 ·cases p2
  ·simp [dE,hl,x1,b,b1,m1,m2,-af,-ae,-aj]
  ·cases p3
   ·simp [dE,hl,x1,b,b1,m1,m2,m3,-af,-ae,-aj]
   ·cases p4
    ·simp [dE,hl,x1,b,b1,m1,m2,m3,m4,-af,-ae,-aj]
    ·simp [dE,hl,x1,b,b1,b3,m1,m2,m3,m4,-af,-ae,-aj]
open Classical in
theorem ev17 {a:AV} {l:List bq} (ha:bT a=some l) (n:Int):evP (aq GC fsW) (l.length+1) Aa 1 [.z n,a]=some (.bool (decide (cR n l))):=by
 obtain ⟨hl,hm⟩:=eP ha
 have m1:=fC n 1 32
 have b1:af .gtr (.z (l.length:Int)) (.z 200)=some (.bool (decide (200<l.length))):=by simp [af]; omega
 rw [aO _ _ rfl]
 by_cases h1:1<=n/\n<=32
 rotate_left
 ·rw [Ss h1] at m1
  rw [Ss (show ¬ cR n l from fun h=>h1 h.1)]
  simp [Aa,m1,-af,-aj]
 rw [Su h1] at m1
 by_cases h2:200<l.length
 ·rw [Su h2] at b1
  rw [Ss (show ¬ cR n l from fun h=>by have:=h.2.1; omega)]
  simp [Aa,m1,hl,b1,-af,-aj]
 rw [Ss h2] at b1
 rcases bU (E:=aq GC fsW) (fuel:=l.length+1) (a:=dE) (mask:=dK) (fun i=>gO (.z n) a (.z (i:Int))) (fun _=>[]) l.length (fun i=>¬ ∀hi:i<l.length,dD n l[i]=false)
  (oF:=fun i=>.ret [.z n,a,.f,.z (i:Int),.u,.t,.t] []) (oE:=.exit 0 ((gO (.z n) a (.z (l.length:Int))).set 5 .f) [])
  (fun _=>tc) (fun _ _ _ h=>by cases h) (fun _ _ h=>by cases h)
  (fun i hi hp=>by
   rw [tO _ [] ha h1 hi]
   exact SA (SI.1 hp hi))
  (fun i hi hp=>by
   rw [tO _ [] ha h1 hi]
   exact SD fun h=>hp fun _=>h)
  (by simp [dE,hl,-aj]) (Nat.lt_succ_self _) with ⟨i,hi,hp,hj,lp⟩ | ⟨hp,lp⟩
 ·have lp:bG (evC (aq GC fsW) (l.length+1) dE) dK (l.length+1) (gO (.z n) a (.z 0)) []=_:=lp
  rw [Ss (show ¬ cR n l from fun h=>hp fun _=>by
   have:=h.2.2 _ (SC hi)
   simp [dD,this])]
  simp [Aa,m1,hl,b1,vu lp,-af,-aj]
 ·have lp:bG (evC (aq GC fsW) (l.length+1) dE) dK (l.length+1) (gO (.z n) a (.z 0)) []=_:=lp
  rw [Su (show cR n l from ⟨h1,by omega,fun x hx=>by
   obtain ⟨i,hi,rfl⟩:=Tb.1 hx
   have:=SI.1 (hp i hi) hi
   simpa [dD] using this⟩)]
  simp [Aa,m1,hl,b1,vu lp,-af,-aj]
theorem uJ:aw prog GC 107 M16:=by
 refine aw.of_ev (E:=aq GC fsW) (ax sk) rfl (by kernel_rfl) Cw 1 ?_
 intro args r h
 unfold M16 at h
 split at h
 ·simp only [SE] at h
  obtain ⟨l,hl,rfl⟩:=h
  exact ⟨_,ev17 hl _⟩
 ·cases h
open Classical in
def M28:aU:=fun args=>match args with
 | [.int .i64 n,a,.int .i64 p]=>(bT a).map fun l=>.bool (decide (bS n l p))
 | _=>none
def Nz:List (FuncId × aJ):=[(107,aE 4 M16),(93,aE 4 M32)]
@[simp] theorem Po:aD Nz 107=some (aE 4 M16):=rfl
@[simp] theorem Pn:aD Nz 93=some (aE 4 M32):=rfl
theorem Hr:∀f M,aD Nz f=some M->au prog GC f M:=ag (au.of_pure uJ 4) (ag (au.of_pure jn 4) aB)
open Classical in
theorem AI:aw prog GC 92 M28:=by
 refine aw.of_ev (E:=aq GC Nz) (ax Hr) rfl (by kernel_rfl) Cr 1 ?_
 intro args r h
 unfold M28 at h
 split at h
 ·rename_i n a p
  simp only [SE] at h
  obtain ⟨l,hl,rfl⟩:=h
  refine ⟨0,?_⟩
  have m1:M16 [.z n,a]=some (.bool (decide (cR n l))):=by simp only [M16,hl,Th]
  have m2:=fC p (-1000000) 1000000
  have f1:=dX hl
  have f2:=dS hl
  have e:decide (bS n l p)=(decide (cR n l) && decide (-1000000<=p/\p<=1000000)):=by
   rw [T4,S6,S4,S6,S6]; exact Iff.rfl
  rw [e]
  obtain ⟨x,hx⟩:∃x,x=decide (cR n l):=⟨_,rfl⟩
  obtain ⟨y,hy⟩:∃y,y=decide (-1000000<=p/\p<=1000000):=⟨_,rfl⟩
  rw [<-hx] at m1 ⊢
  rw [<-hy] at m2 ⊢
  rw [aO _ _ rfl]
  cases x <;> simp [Jq,m1,m2,f1,f2]
 ·cases h
def M39:aU:=fun args=>match args with
 | [.agg [.int .i64 f,.int .i64 t,.int .i64 w,.int .i64 k],.int .i64 p]=>if okA 32 ⟨f,t,w,k⟩/\cA p then some (.z (bq.len ⟨f,t,w,k⟩ p)) else none
 | _=>none
theorem AF:aw prog GC 94 M39:=by
 refine aw.of_ev (E:=aq GC []) (ax aB) rfl (by kernel_rfl) vQ 1 ?_
 intro args r h
 unfold M39 at h
 split at h
 ·rename_i f t w k p
  simp only [Sw,Sx] at h
  obtain ⟨⟨h1,h2⟩,rfl⟩:=h
  refine ⟨0,?_⟩
  obtain ⟨k1,k2,k3,k4⟩:=gA h1 h2
  have b1:af .mul (.z p) (.z k)=some (.z (p*k)):=by
   simp only [af]; rw [SA trivial,eH (by simp only at k3 k4; unfold inI; omega)]
  have b2:af .sub (.z w) (.z (p*k))=some (.z (bq.len ⟨f,t,w,k⟩ p)):=by
   simp only [af]; rw [SA trivial,eH (by simp only [bq.len] at k1 k2; unfold inI; omega)]; rfl
  obtain ⟨pk,hpk⟩:∃pk,pk=p*k:=⟨_,rfl⟩
  rw [<-hpk] at b1 b2
  rw [aO _ _ rfl]
  simp [zH,b1,b2,-af]
 ·cases h
end Rc
namespace Rc
open Cy
theorem qd (E:Env) (fuel:Nat) (A:ac) {b:AV} {ys:List Int} (ha:SlA 1 (ak xs) a) (hb:SlA 1 (ak ys) b) (hm:xs.length<=9223372036854775807) (hi:i<xs.length) (hj:i<ys.length) :
  run E fuel [.code ev] (fL a b (.z (i:Int))) A =
   if xs[i]=ys[i] then some (.normal (fL a b (.z ((i+1:Nat):Int))) A) else some (.ret (((fL a b (.z (i:Int))).set 5 .t).set 6 .t |>.set 2 .f) A):=by
 have hl:=ha.len
 simp only [ak,SF] at hl
 have x1:=ha.int (A:=A) _ _ (Sq hi) .i64
 have x2:=hb.int (A:=A) _ _ (Sq hj) .i64
 have b1:af .lss (.z (i:Int)) (.z (xs.length:Int))=some .t:=by simp [af]; omega
 have b2:af .neq (.z xs[i]) (.z ys[i])=some (.bool (decide (xs[i]≠ys[i]))):=by simp [af]
 have b3:=aP i (by omega)
 obtain ⟨i1,hi1⟩:∃i1:Nat,i1=i+1:=⟨_,rfl⟩
 rw [<-hi1] at b3 ⊢
 by_cases h:xs[i]=ys[i]
 ·rw [SA h]
  rw [Ss (not_not_intro h)] at b2
  simp [ev,hl,x1,x2,b1,b2,b3,-af,-ae,-aj]
 ·rw [SD h]
  rw [Su h] at b2
  simp [ev,hl,x1,x2,b1,b2,-af,-ae,-aj]
theorem ev18 (E:Env) {b:AV} {ys:List Int} (ha:SlA 1 (ak xs) a) (hb:SlA 1 (ak ys) b) (hm:xs.length<=9223372036854775807):evP E (xs.length+1) Bl 1 [a,b]=some (.bool (decide (xs=ys))):=by
 have hl:=ha.len
 have hl2:=hb.len
 simp only [ak,SF] at hl hl2
 rw [aO _ _ rfl]
 by_cases he:xs.length=ys.length
 ·have b0:af .neq (.z (xs.length:Int)) (.z (ys.length:Int))=some .f:=by simp [af]; omega
  by_cases hd:∃i,∃h:i<xs.length,xs[i]≠ys[i]'(by omega)
  ·obtain ⟨n,⟨hn,hne⟩,hmin⟩:=least hd
   have lp:bG (evC E (xs.length+1) ev) dW (xs.length+1) (fL a b (.z 0)) []=some (.ret (((fL a b (.z (n:Int))).set 5 .t).set 6 .t |>.set 2 .f) []):=by
    refine g9 (fun i=>fL a b (.z (i:Int))) (fun _=>[]) n (fun _=>re) (fun _ _ h=>by cases h) (fun i hi=>?_) ?_ (by omega)
    ·rw [qd E _ [] ha hb hm (by omega) (by omega)]
     exact SA (SI.1 fun h=>hmin i hi ⟨by omega,h⟩)
    ·rw [qd E _ [] ha hb hm hn (by omega)]
     exact SD hne
   have hx:xs≠ys:=fun h=>hne (by subst h; rfl)
   simp [Bl,hl,hl2,b0,vt lp,hx,-af,-aj]
  ·have lp:bG (evC E (xs.length+1) ev) dW (xs.length+1) (fL a b (.z 0)) []=some (.exit 0 ((fL a b (.z (xs.length:Int))).set 5 .f) []):=by
    refine g9 (fun i=>fL a b (.z (i:Int))) (fun _=>[]) xs.length (fun _=>re) (fun _ _ h=>by cases h) (fun i hi=>?_) ?_ (by omega)
    ·rw [qd E _ [] ha hb hm (by omega) (by omega)]
     exact SA (SI.1 fun h=>hd ⟨i,by omega,h⟩)
    ·simp [ev,hl,-aj]
   have hx:xs=ys:=TB he fun i h1 h2=>SI.1 fun h=>hd ⟨i,h1,h⟩
   rw [Su hx]
   simp [Bl,hl,hl2,b0,vt lp,-af,-aj]
 ·have b0:af .neq (.z (xs.length:Int)) (.z (ys.length:Int))=some .t:=by simp [af]; omega
  have hx:xs≠ys:=fun h=>he (by rw [h])
  simp [Bl,hl,hl2,b0,hx,-af,-aj]
def M18:aU:=fun args=>match args with
 | [a,b]=>match gC a,gC b with
  | some xs,some ys=>some (.bool (decide (xs=ys)))
  | _,_=>none
 | _=>none
theorem AN:aw prog GC 106 M18:=by
 refine aw.of_ev (E:=aq GC []) (ax aB) rfl (by kernel_rfl) Cv 1 ?_
 intro args r h
 unfold M18 at h
 split at h
 ·split at h
  ·rename_i xs ys h1 h2
   injection h with h; subst h
   obtain ⟨k1,k2,k3⟩:=eJ h1
   obtain ⟨l1,l2,l3⟩:=eJ h2
   exact ⟨_,ev18 _ k1 l1 k3⟩
  ·cases h
 ·cases h
end Rc
namespace Rc
open Cy
theorem LC {a b:Int} (h : -9223372036854775808<=a+b/\a+b<=9223372036854775807):af .add (.z a) (.z b)=some (.z (a+b)):=by
 simp only [af]; rw [SA trivial,eH h]
theorem QM {a b:Int} (h : -9223372036854775808<=a-b/\a-b<=9223372036854775807):af .sub (.z a) (.z b)=some (.z (a-b)):=by
 simp only [af]; rw [SA trivial,eH h]
theorem QP (a b:Int):af .gtr (.z a) (.z b)=some (.bool (decide (a > b))):=by simp [af]
theorem QO (a b:Int):af .lss (.z a) (.z b)=some (.bool (decide (a<b))):=by simp [af]
theorem LA (a b:Int):af .neq (.z a) (.z b)=some (.bool (decide (a≠b))):=by simp [af]
section
variable {sz:Nat} {A B:ac} {s:AV} {xs:List AV}
end
end Rc
end Go.Proofs.YtkcjhljbgjpklaaGreat
