import Derived.Test.YtkcjhljbgjpklaaGreatVZ03
set_option maxRecDepth 100000
set_option maxHeartbeats 4000000
noncomputable section
namespace Go.Proofs.YtkcjhljbgjpklaaGreat
open Tryz (prog)
variable {p c1 c3 c4 c5 c6 z hi w sum c2:Int} {n i k j to lid u v id t kb:Nat} {A B X:ac} {s xs:List Int} {v6 v10 v7 v12 v13 a v14 v15 v16 W v8 c:AV} {G:Int->AV} {P:Int->Prop}
namespace Cy
open Go
def GC:Nat->Option (List AV):=fun _=>none
structure bq where
 f:Int
 t:Int
 w:Int
 k:Int
def cQ (a:bq):AV:=.agg [.z a.f,.z a.t,.z a.w,.z a.k]
def bq.inR (a:bq):Prop:=inI a.f/\inI a.t/\inI a.w/\inI a.k
open Classical in
def E1:AV->Option bq
 | .agg [.int .i64 f,.int .i64 t,.int .i64 w,.int .i64 k]=>if bq.inR ⟨f,t,w,k⟩ then some ⟨f,t,w,k⟩ else none
 | _=>none
theorem th {x:AV} {a:bq} (h:E1 x=some a):x=cQ a/\a.inR:=by
 unfold E1 at h
 split at h
 ·simp only [Sw,Sx] at h
  obtain ⟨h1,rfl⟩:=h
  exact ⟨rfl,h1⟩
 ·cases h
theorem E0 {a:bq} (h:a.inR):E1 (cQ a)=some a:=SA h
def IB {α:Type} (s:Nat) (f:AV->Option α):AV->Option (List α)
 | .nilS=>some []
 | .fs s' es=>if s'=s/\es.length<=9223372036854775807 then xF f es else none
 | _=>none
def bT (a:AV):Option (List bq):=IB 4 E1 a
theorem i6 {l:List bq} (h:bT a=some l):SlA 4 (l.map cQ) a/\l.length<=9223372036854775807/\∀x∈l,x.inR:=by
 unfold bT IB at h
 split at h
 ·injection h with h; subst h
  exact ⟨.inl ⟨rfl,rfl⟩,by simp,by simp⟩
 ·rename_i s' es
  simp only [Sw] at h
  obtain ⟨⟨rfl,hl⟩,h⟩:=h
  obtain ⟨h1,h2⟩:=nJ h
  have e:es=l.map cQ:=TB (by simpa using h1) fun i k1 k2=>by
   rw [(th (h2 i k1 (by omega))).1]; simp
  subst e
  refine ⟨.inr rfl,by simpa using hl,fun x hx=>?_⟩
  obtain ⟨i,hi,rfl⟩:=Tb.1 hx
  have:=h2 i (by simpa using hi) hi
  exact (th this).2
 ·cases h
theorem Dg {l:List bq} (h:SlA 4 (l.map cQ) a) (hl:l.length<=9223372036854775807) (hr:∀x∈l,x.inR):bT a=some l:=by
 unfold bT IB
 rcases h with ⟨rfl,h⟩ | rfl
 ·have:l=[]:=by simpa using h
  subst this; rfl
 ·simp only [SF]
  rw [SA ⟨trivial,hl⟩]
  exact rq fun x hx=>E0 (hr x hx)
section
variable {a:AV} {l:List bq}
theorem eP (h:bT a=some l):aj a=some (.z (l.length:Int))/\l.length<=9223372036854775807:=by
 obtain ⟨h1,h2,_⟩:=i6 h
 have:=h1.len
 simp only [SF] at this
 exact ⟨this,h2⟩
theorem iF (h:bT a=some l) (hi:i<l.length):∀A k,ae 4 A a (.int k (i:Int))=some (.fp [.z l[i].f,.z l[i].t,.z l[i].w,.z l[i].k]):=fun A k=>by
 obtain ⟨h1,h2,_⟩:=i6 h
 have hx:(l.map cQ)[i]?=some (cQ l[i]):=by simp [hi]
 exact h1.index (A:=A) hx rfl (by simp) k
theorem dX (h:bT a=some l) (A:ac) (n:Nat):frz A n a=a:=(i6 h).1.frz n
theorem dS (h:bT a=some l) (n:Nat):bR n a=true:=by
 rcases (i6 h).1 with ⟨rfl,_⟩ | rfl <;> cases n <;> rfl
end
theorem gu {l:List bq} (hl:l.length<=9223372036854775807) (h:∀x∈l,x.inR):bT (slA 4 (l.map cQ))=some l:=Dg (aZ _ _) hl h
def M32:aU:=fun args=>match args with
 | [.int .i64 n,.int .i64 lo,.int .i64 hi]=>some (.bool (decide (lo<=n/\n<=hi)))
 | _=>none
theorem fC (n lo hi:Int):M32 [.z n,.z lo,.z hi]=some (.bool (decide (lo<=n/\n<=hi))):=rfl
theorem tC (n lo hi:Int):decide (lo<=n/\n<=hi)=(decide (lo<=n) && decide (n<=hi)):=by
 rw [T4,S6,S4,S6,S6]
theorem sh:aw prog GC 82 M32:=by
 refine aw.of_ev (E:=aq GC []) (ax aB) rfl (by kernel_rfl) Co 1 ?_
 intro args r h
 unfold M32 at h
 split at h
 ·rename_i n lo hi
  injection h with h; subst h
  refine ⟨0,?_⟩
  have b1:af .geq (.z n) (.z lo)=some (.bool (decide (lo<=n))):=by simp [af]
  have b2:af .leq (.z n) (.z hi)=some (.bool (decide (n<=hi))):=by simp [af]
  rw [tC]
  obtain ⟨p,hp⟩:∃p,p=decide (lo<=n):=⟨_,rfl⟩
  obtain ⟨q,hq⟩:∃q,q=decide (n<=hi):=⟨_,rfl⟩
  rw [<-hp] at b1 ⊢
  rw [<-hq] at b2 ⊢
  rw [aO _ _ rfl]
  cases p <;> simp [Jp,b1,b2,-af]
 ·cases h
theorem jn:aw prog GC 28 M32:=by
 refine aw.of_ev (E:=aq GC []) (ax aB) rfl Gv oI 1 ?_
 intro args r h
 unfold M32 at h
 split at h
 ·rename_i n lo hi
  injection h with h; subst h
  refine ⟨0,?_⟩
  have b1:af .geq (.z n) (.z lo)=some (.bool (decide (lo<=n))):=by simp [af]
  have b2:af .leq (.z n) (.z hi)=some (.bool (decide (n<=hi))):=by simp [af]
  rw [tC]
  obtain ⟨p,hp⟩:∃p,p=decide (lo<=n):=⟨_,rfl⟩
  obtain ⟨q,hq⟩:∃q,q=decide (n<=hi):=⟨_,rfl⟩
  rw [<-hp] at b1 ⊢
  rw [<-hq] at b2 ⊢
  rw [aO _ _ rfl]
  cases p <;> simp [tU,b1,b2,-af]
 ·cases h
def cA (p:Int):Prop:=-1000000<=p/\p<=1000000
instance (p:Int):Decidable (cA p):=inferInstanceAs (Decidable (_/\_))
def M41:aU:=fun args=>match args with
 | [.int .i64 p]=>some (.bool (decide (cA p)))
 | _=>none
def fsW:List (FuncId × aJ):=[(82,aE 4 M32),(28,aE 4 M32)]
@[simp] theorem Lr:aD fsW 82=some (aE 4 M32):=rfl
@[simp] theorem Lq:aD fsW 28=some (aE 4 M32):=rfl
theorem sk:∀f M,aD fsW f=some M->au prog GC f M:=ag (au.of_pure sh 4) (ag (au.of_pure jn 4) aB)
theorem p7:aw prog GC 50 M41:=by
 refine aw.of_ev (E:=aq GC fsW) (ax sk) rfl (by kernel_rfl) vP 1 ?_
 intro args r h
 unfold M41 at h
 split at h
 ·rename_i p
  injection h with h; subst h
  refine ⟨0,?_⟩
  have m:=fC p (-1000000) 1000000
  rw [show decide (-1000000<=p/\p<=1000000)=decide (cA p) from rfl] at m
  rw [aO _ _ rfl]
  simp [Bj,m]
 ·cases h
def okA (n:Int) (a:bq):Prop:=(0<=a.f/\a.f<=n-1)/\(0<=a.t/\a.t<=n-1)/\(-1000000<=a.w/\a.w<=1000000)/\(-2<=a.k/\a.k<=2)
instance (n:Int) (a:bq):Decidable (okA n a):=inferInstanceAs (Decidable (_/\_))
def dD (n:Int) (a:bq):Bool:=!decide (okA n a)
theorem xI (n:Int) (a:bq):dD n a=(!decide (0<=a.f/\a.f<=n-1) || !decide (0<=a.t/\a.t<=n-1) || !decide (-1000000<=a.w/\a.w<=1000000) || !decide (-2<=a.k/\a.k<=2)):=by
 unfold dD okA
 by_cases h1:0<=a.f/\a.f<=n-1 <;> by_cases h2:0<=a.t/\a.t<=n-1 <;> by_cases h3 : -1000000<=a.w/\a.w<=1000000 <;> by_cases h4 : -2<=a.k/\a.k<=2 <;> simp [h1,h2,h3,h4]
def M31:aU:=fun args=>match args with
 | [.agg [.int .i64 f,.int .i64 t,.int .i64 w,.int .i64 k],.fp [.int .i64 n]]=>if 1<=n/\n<=32 then some (.bool (dD n ⟨f,t,w,k⟩)) else none
 | _=>none
theorem AH:aw prog GC 98 M31:=by
 refine aw.of_ev (E:=aq GC fsW) (ax sk) rfl (by kernel_rfl) Cp 1 ?_
 intro args r h
 unfold M31 at h
 split at h
 ·rename_i f t w k n
  simp only [Sw,Sx] at h
  obtain ⟨hn,rfl⟩:=h
  refine ⟨0,?_⟩
  rw [xI]
  have m1:=fC f 0 (n-1)
  have m2:=fC t 0 (n-1)
  have m3:=fC w (-1000000) 1000000
  have m4:=fC k (-2) 2
  have b:af .sub (.z n) (.z 1)=some (.z (n-1)):=by
   simp only [af]; rw [SA trivial,eH (by unfold inI; omega)]
  simp only
  obtain ⟨p1,hp1⟩:∃p,p=decide (0<=f/\f<=n-1):=⟨_,rfl⟩
  obtain ⟨p2,hp2⟩:∃p,p=decide (0<=t/\t<=n-1):=⟨_,rfl⟩
  obtain ⟨p3,hp3⟩:∃p,p=decide (-1000000<=w/\w<=1000000):=⟨_,rfl⟩
  obtain ⟨p4,hp4⟩:∃p,p=decide (-2<=k/\k<=2):=⟨_,rfl⟩
  rw [<-hp1] at m1 ⊢
  rw [<-hp2] at m2 ⊢
  rw [<-hp3] at m3 ⊢
  rw [<-hp4] at m4 ⊢
  obtain ⟨n1,hn1⟩:∃n1,n1=n-1:=⟨_,rfl⟩
  rw [<-hn1] at b m1 m2
  rw [aO _ _ rfl]
  cases p1
  ·simp [Er,b,m1,-af]
  ·cases p2
   ·simp [Er,b,m1,m2,-af]
   ·cases p3
    ·simp [Er,b,m1,m2,m3,-af]
    ·simp [Er,b,m1,m2,m3,m4,-af]
 ·cases h
open Go
def BU (n:Int):AV:=.func (.func 98) [] [.fp [.z n]]
def F8:List (FuncId × aJ):=[(98,aE 4 M31)]
@[simp] theorem OT:aD F8 98=some (aE 4 M31):=rfl
theorem Hk:∀f M,aD F8 f=some M->au prog GC f M:=ag (au.of_pure AH 4) aB
def df {α:Type} (p:α->Bool) (l:List α):Int:=match l.findIdx? p with
 | some i=>i
 | none=>-1
theorem bC {α:Type} {p:α->Bool} {l:List α} (hi:i<l.length) (h1:p l[i]=true) (h2:∀j (hj:j<i),p (l[j]'(by omega))=false):df p l=(i:Int):=by
 have:l.findIdx? p=some i:=List.findIdx?_eq_some_iff_getElem.2 ⟨hi,h1,fun j hj=>by simpa using h2 j hj⟩
 unfold df; rw [this]
theorem bH {α:Type} {p:α->Bool} {l:List α} (h:∀i (hi:i<l.length),p l[i]=false):df p l = -1:=by
 have:l.findIdx? p=none:=by
  rw [List.findIdx?_eq_none_iff]
  intro x hx
  obtain ⟨i,hi,rfl⟩:=Tb.1 hx
  exact h i hi
 unfold df; rw [this]
theorem cW {α:Type} (p:α->Bool) (l:List α):decide (0<=df p l)=l.any p:=by
 unfold df
 cases h:l.findIdx? p with
 | some i=>
  obtain ⟨hi,h1,_⟩:=List.findIdx?_eq_some_iff_getElem.1 h
  show decide (0<=(i:Int))=_
  rw [Su (by omega),eq_comm,List.any_eq_true]
  exact ⟨_,SC hi,h1⟩
 | none=>
  rw [List.findIdx?_eq_none_iff] at h
  show decide (0<=(-1:Int))=_
  rw [Ss (by omega),eq_comm,Ui]
  intro x hx; rw [h x hx]; simp
theorem ev44 {a:AV} {l:List bq} (ha:bT a=some l) {n:Int} (hn:1<=n/\n<=32):evP (aq GC F8) (l.length+1) Eq 1 [a,BU n]=some (.z (df (dD n) l)):=by
 obtain ⟨hl,hm⟩:=eP ha
 have round:∀(A:ac) (i:Nat) (hi:i<l.length),run (aq GC F8) (l.length+1) [.code kE] (nV a (BU n) (.z (l.length:Int)) (.z (i:Int))) A =
   if dD n l[i]=false then some (.normal (nV a (BU n) (.z (l.length:Int)) (.z ((i+1:Nat):Int))) A) else some (.ret [a,BU n,.z (i:Int),.z (i:Int),.z (l.length:Int),.z (i:Int),.t,.t] A):=fun A i hi=>by
  have x1:=iF ha hi A .i64
  have m:M31 [.agg [.z l[i].f,.z l[i].t,.z l[i].w,.z l[i].k],.fp [.z n]]=some (.bool (dD n l[i])):=SA hn
  have b1:=be i l.length .i64
  rw [Su hi] at b1
  have b3:=aP i (by omega)
  obtain ⟨i1,hi1⟩:∃i1:Nat,i1=i+1:=⟨_,rfl⟩
  rw [<-hi1] at b3 ⊢
  obtain ⟨d,hd⟩:∃d,d=dD n l[i]:=⟨_,rfl⟩
  rw [<-hd] at m ⊢
  cases d with
  | false=>simp [kE,BU,x1,m,frz,b1,b3,-af,-ae,-aj]
  | true=>simp [kE,BU,x1,m,frz,b1,-af,-ae,-aj]
 rw [aO _ _ rfl]
 rcases bU (E:=aq GC F8) (fuel:=l.length+1) (a:=kE) (mask:=jT) (fun i=>nV a (BU n) (.z (l.length:Int)) (.z (i:Int))) (fun _=>[]) l.length (fun i=>¬ ∀hi:i<l.length,dD n l[i]=false)
  (oF:=fun i=>.ret [a,BU n,.z (i:Int),.z (i:Int),.z (l.length:Int),.z (i:Int),.t,.t] []) (oE:=.exit 0 ((nV a (BU n) (.z (l.length:Int)) (.z (l.length:Int))).set 6 .f) [])
  (fun _=>rfl) (fun _ _ _ h=>by cases h) (fun _ _ h=>by cases h)
  (fun i hi hp=>by
   rw [round [] i hi]
   exact SA (SI.1 hp hi))
  (fun i hi hp=>by
   rw [round [] i hi]
   exact SD fun h=>hp fun _=>h)
  (by simp [kE]) (Nat.lt_succ_self _) with ⟨i,hi,hp,hj,lp⟩ | ⟨hp,lp⟩
 ·have lp:bG (evC (aq GC F8) (l.length+1) kE) jT (l.length+1) (nV a (BU n) (.z (l.length:Int)) (.z 0)) []=_:=lp
  have e:df (dD n) l=(i:Int):=bC hi (by
   cases h:dD n l[i] with
   | true=>rfl
   | false=>exact absurd (fun _=>h) hp) (fun j hj'=>SI.1 (hj j hj') (by omega))
  rw [e]
  simp [Eq,hl,Z5 lp,-af,-aj]
 ·have lp:bG (evC (aq GC F8) (l.length+1) kE) jT (l.length+1) (nV a (BU n) (.z (l.length:Int)) (.z 0)) []=_:=lp
  have e:df (dD n) l = -1:=bH fun i hi=>SI.1 (hp i hi) hi
  rw [e]
  simp [Eq,hl,Z5 lp,-af,-aj]
def M44:aU:=fun args=>match args with
 | [a,.func (.func 98) [] [.fp [.int .i64 n]]]=>if 1<=n/\n<=32 then (bT a).map fun l=>.z (df (dD n) l) else none
 | _=>none
theorem AE:aw prog GC 108 M44:=by
 refine aw.of_ev (E:=aq GC F8) (ax Hk) rfl (by kernel_rfl) Ck 1 ?_
 intro args r h
 unfold M44 at h
 split at h
 ·simp only [Sw,SE] at h
  obtain ⟨hn,l,hl,rfl⟩:=h
  exact ⟨_,ev44 hl hn⟩
 ·cases h
def M33:aU:=fun args=>match args with
 | [a,.func (.func 98) [] [.fp [.int .i64 n]]]=>if 1<=n/\n<=32 then (bT a).map fun l=>.bool (l.any (dD n)) else none
 | _=>none
def Pd:List (FuncId × aJ):=[(108,aE 4 M44)]
@[simp] theorem Pc:aD Pd 108=some (aE 4 M44):=rfl
theorem Hq:∀f M,aD Pd f=some M->au prog GC f M:=ag (au.of_pure AE 4) aB
theorem je (z:Int):af .geq (.z z) (.z 0)=some (.bool (decide (0<=z))):=by simp [af]
theorem AG:aw prog GC 99 M33:=by
 refine aw.of_ev (E:=aq GC Pd) (ax Hq) rfl (by kernel_rfl) Cn 1 ?_
 intro args r h
 unfold M33 at h
 split at h
 ·rename_i a n
  simp only [Sw,SE] at h
  obtain ⟨hn,l,hl,rfl⟩:=h
  refine ⟨0,?_⟩
  have m:M44 [a,.func (.func 98) [] [.fp [.z n]]]=some (.z (df (dD n) l)):=by
   simp only [M44,hl,Th]; exact SA hn
  have b:=je (df (dD n) l)
  rw [cW] at b
  have f1:=dX hl
  have f2:=dS hl
  obtain ⟨z,hz⟩:∃z,z=df (dD n) l:=⟨_,rfl⟩
  rw [<-hz] at m b
  rw [aO _ _ rfl]
  simp [Jo,m,b,f1,f2,frz,-af]
 ·cases h
def cR (n:Int) (l:List bq):Prop:=(1<=n/\n<=32)/\l.length<=200/\∀a∈l,okA n a
theorem Di (n:Int) (l:List bq):l.any (dD n)=false↔∀a∈l,okA n a:=by
 rw [Ui]
 unfold dD
 simp
open Classical in
def M16:aU:=fun args=>match args with
 | [.int .i64 n,a]=>(bT a).map fun l=>.bool (decide (cR n l))
 | _=>none
def BO:List (FuncId × aJ):=[(82,aE 4 M32),(99,aE 4 M33),(28,aE 4 M32)]
@[simp] theorem Qs:aD BO 82=some (aE 4 M32):=rfl
@[simp] theorem Qr:aD BO 99=some (aE 4 M33):=rfl
@[simp] theorem Qq:aD BO 28=some (aE 4 M32):=rfl
theorem wK:∀f M,aD BO f=some M->au prog GC f M:=ag (au.of_pure sh 4) (ag (au.of_pure AG 4) (ag (au.of_pure jn 4) aB))
open Classical in
theorem n8:aw prog GC 83 M16:=by
 refine aw.of_ev (E:=aq GC BO) (ax wK) rfl (by kernel_rfl) vV 1 ?_
 intro args r h
 unfold M16 at h
 split at h
 ·rename_i n a
  simp only [SE] at h
  obtain ⟨l,hl,rfl⟩:=h
  refine ⟨0,?_⟩
  have m1:=fC n 1 32
  have hlen:=(eP hl).1
  have f1:=dX hl
  have f2:=dS hl
  have b1:af .leq (.z (l.length:Int)) (.z 200)=some (.bool (decide (l.length<=200))):=by simp [af]; omega
  rw [aO _ _ rfl]
  by_cases h1:1<=n/\n<=32
  rotate_left
  ·rw [Ss h1] at m1
   rw [Ss (show ¬ cR n l from fun h=>h1 h.1)]
   simp [sG,m1,-af,-aj]
  rw [Su h1] at m1
  by_cases h2:l.length<=200
  rotate_left
  ·rw [Ss h2] at b1
   rw [Ss (show ¬ cR n l from fun h=>h2 h.2.1)]
   simp [sG,m1,hlen,b1,-af,-aj]
  rw [Su h2] at b1
  have m2:M33 [a,.func (.func 98) [] [.fp [.z n]]]=some (.bool (l.any (dD n))):=by
   simp only [M33,hl,Th]; exact SA h1
  have e:decide (cR n l)=!(l.any (dD n)):=by
   rw [T4,S6,Tt,Di]
   exact ⟨fun h=>h.2.2,fun h=>⟨h1,h2,h⟩⟩
  rw [e]
  obtain ⟨d,hd⟩:∃d,d=l.any (dD n):=⟨_,rfl⟩
  rw [<-hd] at m2 ⊢
  simp [sG,m1,m2,hlen,b1,f1,f2,frz,-af,-aj]
 ·cases h
def bS (n:Int) (l:List bq) (p:Int):Prop:=cR n l/\cA p
def bq.len (a:bq) (p:Int):Int:=a.w-p*a.k
theorem gA {n:Int} {a:bq} (h:okA n a) (hp:cA p) : -3000000<=a.len p/\a.len p<=3000000 /\ -2000000<=p*a.k/\p*a.k<=2000000:=by
 obtain ⟨_,_,h3,h4⟩:=h
 unfold cA at hp
 unfold bq.len
 have h5:a.k = -2\/a.k = -1\/a.k=0\/a.k=1\/a.k=2:=by omega
 rcases h5 with h | h | h | h | h <;> rw [h] <;> omega
open Go
theorem Sd (E:Env) (a n:Int) (ha:inI a) (hn:0<n):evP E 0 KD 1 [.z a,.z n]=some (.z (pick a n)):=by
 have h3:n≠0:=by omega
 rw [aO _ _ rfl]
 by_cases h:a<0
 ·have h1:IntKind.i64.wrap (a+1)=a+1:=eH (by unfold inI at *; omega)
  have h2:IntKind.i64.wrap (-(a+1)) = -(a+1):=eH (by unfold inI at *; omega)
  simp [KD,h,h1,h2,h3,pick]
 ·simp [KD,h,h3,pick]
def M12:aU:=fun args=>match args with
 | [.int .i64 a,.int .i64 n]=>if (-9223372036854775808<=a/\a<=9223372036854775807)/\0<n then some (.z (pick a n)) else none
 | _=>none
theorem dz {a n:Int} (ha:inI a) (hn:0<n):M12 [.z a,.z n]=some (.z (pick a n)):=SA ⟨ha,hn⟩
theorem Kc:aw prog GC 17 M12:=by
 refine aw.of_ev (E:=aq GC []) (ax aB) rfl (by kernel_rfl) L6 1 ?_
 intro args r h
 unfold M12 at h
 split at h
 ·simp only [Sw,Sx] at h
  obtain ⟨⟨h1,h2⟩,rfl⟩:=h
  exact ⟨0,Sd _ _ _ h1 h2⟩
 ·cases h
open Go
abbrev gW:=bq × Nat
def num (l:List bq):List gW:=l.zipIdx
def wA (p:Int) (x:gW):AV:=.agg [.z x.1.f,.z x.1.t,.z x.1.w,.z x.1.k,.z (x.2:Int),.z (x.1.len p)]
def oO (l:List bq) (v:Nat):List gW:=(num l).filter fun x=>decide (x.1.f=(v:Int))
def wAs (p:Int) (l:List gW):List AV:=l.map (wA p)
theorem yh (l:List bq) (i:Nat) (hi:i<l.length):num (l.take (i+1))=num (l.take i)++[(l[i],i)]:=by
 unfold num
 rw [Tu hi,List.zipIdx_append]
 simp
 omega
theorem kV (l:List bq):(num l).length=l.length:=by simp [num]
theorem iL (l:List bq) (i:Nat) (hi:i<l.length):(num l)[i]?=some (l[i],i):=by
 simp [num,hi]
theorem nq {l:List bq} {x:gW} (h:x∈num l):∃hi:x.2<l.length,l[x.2]=x.1:=by
 obtain ⟨i,hi,rfl⟩:=Tb.1 h
 rw [kV] at hi
 have:=iL l i hi
 have h2:(num l)[i]'(by rw [kV]; exact hi)=(l[i],i):=by
  rw [Sq (by rw [kV]; exact hi)] at this
  exact Ud this
 rw [h2]
 exact ⟨hi,rfl⟩
theorem Ba (l:List bq) (i v:Nat) (hi:i<l.length):oO (l.take (i+1)) v=if l[i].f=(v:Int) then oO (l.take i) v++[(l[i],i)] else oO (l.take i) v:=by
 unfold oO
 rw [yh l i hi,List.filter_append]
 by_cases h:l[i].f=(v:Int) <;> simp [h]
theorem ye (l:List bq) (v:Nat):(oO l v).length<=l.length:=by
 unfold oO
 have:=List.length_filter_le (fun x:gW=>decide (x.1.f=(v:Int))) (num l)
 rw [kV] at this
 exact this
def uu (A:ac) (s:AV) (xs:List AV):Prop:=(s=.nilS/\xs=[])\/∃id gr,s=.sl id 0 xs.length/\xs≠[]/\2<=id/\A[id]?=some (.row 6 gr xs)
theorem uu.keep {s:AV} {xs:List AV} (h:uu A s xs) (hAB:∀id,id∈bI s->B[id]?=A[id]?):uu B s xs:=by
 rcases h with h | ⟨id,gr,rfl,h1,h2,h3⟩
 ·exact .inl h
 ·exact .inr ⟨id,gr,rfl,h1,h2,by rw [hAB id (by simp [bI]),h3]⟩
theorem uu.low {s:AV} {xs:List AV} (h:uu A s xs):∀id,id∈bI s->2<=id/\id<A.length:=by
 rcases h with ⟨rfl,_⟩ | ⟨id,gr,rfl,h1,h2,h3⟩
 ·intro id h; simp [bI] at h
 ·intro j hj
  simp only [bI,SY] at hj
  subst hj
  exact ⟨h2,(Sp.1 h3).1⟩
theorem uu.append {s:AV} {xs:List AV} (h:uu A s xs) (x:AV) (hA:2<=A.length) (hl:xs.length<=1000) :
  ∃s' k A',aL 6 48 A s (.fs 6 [x])=some (.sl s' 0 k,A')/\uu A' (.sl s' 0 k) (xs++[x])/\A.length<=A'.length/\(∀j,j<A.length->j ∉ bI s->A'[j]?=A[j]?)/\(s'∈bI s\/s'=A.length):=by
 rcases h with ⟨rfl,rfl⟩ | ⟨id,gr,rfl,h1,h2,h3⟩
 ·refine ⟨A.length,1,A++[.row 6 false [x]],by simp [aL,a8],.inr ⟨A.length,false,rfl,by simp,hA,by simp⟩,by simp,fun j hj _=>by rw [Sy hj],.inr rfl⟩
 ·have hid:=(Sp.1 h3).1
  refine ⟨id,(xs++[x]).length,A.set id (.row 6 true (xs++[x])),?_,.inr ⟨id,true,rfl,by simp,h2,by simp [hid]⟩,by simp,fun j hj hn=>?_,.inl (by simp [bI])⟩
  ·simp only [aL,a8,h3]
   simp [h1]
   omega
  ·rw [Sz (fun e=>hn (by simp [bI,e]))]
theorem F9 (A:ac) (p:Int) (x:gW) (n:Nat):frz A (n+1) (wA p x)=wA p x:=by
 cases n <;> simp [frz,wA]
theorem uu.frz {s:AV} {l:List gW} (h:uu A s (wAs p l)) (n:Nat):frz A (n+2) s=slA 6 (wAs p l):=by
 have e:(wAs p l).map (Proofs.YtkcjhljbgjpklaaGreat.frz A (n+1))=wAs p l:=by
  unfold wAs
  rw [Ub]
  apply S3
  intro x _
  exact F9 A p x n
 rcases h with ⟨rfl,h⟩ | ⟨id,gr,rfl,h1,h2,h3⟩
 ·rw [h]; rfl
 ·show Proofs.YtkcjhljbgjpklaaGreat.frz A (n+1+1) _=_
  simp only [Proofs.YtkcjhljbgjpklaaGreat.frz,h3]
  rw [SL,SR (SK _),e]
  cases hw:wAs p l with
  | nil=>exact absurd hw h1
  | cons y r=>rfl
theorem EJ (A:ac) (p:Int) (x:gW) (n:Nat):bA A (n+1) (wA p x)=true:=by
 cases n <;> simp [bA,wA]
theorem uu.fresh {s:AV} {l:List gW} (h:uu A s (wAs p l)) (n:Nat):bA A (n+2) s=true:=by
 rcases h with ⟨rfl,h⟩ | ⟨id,gr,rfl,h1,h2,h3⟩
 ·rfl
 ·show bA A (n+1+1) _=_
  simp only [bA,h3]
  rw [SL,SR (SK _),SV]
  intro y hy
  obtain ⟨x,_,rfl⟩:=SU.1 hy
  exact EJ A p x n
def RG:MC:=.region [.a 12,.M 4 10 12,.K 4 1,.a1 7 4,.c 6 0,.t 4 7 2]
def RF:MC:=.region [.k 4 7,.a 6,.d 2 7,.b 1 2,.a 2,.d 3 7,.b 1 5,.b8 4 6,.ai 3 7,.bd 0 1 8,.E 8 6,.t 6 8 9]
def RE:MC:=.region [.a 5,.a 5,.S 1,.o 1 2,.b 1 3,.k 6 8,.c3 5,.cm 6 4 6,.S 0,.o 1 8,.A 1 9 7]
def NN:MC:=.regionD [] [.a 5,.S 0,.o 2 1,.b 1 2,.d 0 7,.b 1 4,.a 5,.S 6,.o 2 7,.b 1 8,.d 0 7,.b 1 10,.e 1 9 11,.b 1 12,.k 6 8,.c3 14,.cm 6 13 15,.e 1 3 5,.A 1 17 16] [(2,16),(3,16),(4,16),(5,16)]
theorem MD:oo=.r [.F 13 12 11] (.seq (.cond (.var 13) .skip (.exit 0)) (.seq (.seq (.block 1 (.seq RG (.seq RF (.seq RE NN)))) (.kill [0,1,3,4,6,7,8,9,13])) (.region [.w 12 1,.c 12 0]))):=rfl
theorem N0 (E:Env) (fuel:Nat) (K:List KC) (A:ac) {l:List bq} (ha:bT a=some l) (hp:cA p) (hi:i<l.length) (hv:okA 32 l[i]) (w v13:AV) (X:MC) :
  run E fuel (.code RG :: .code (.seq RF X) :: K) [.u,.u,.z p,.u,.u,w,.u,.u,.u,.u,a,.z (l.length:Int),.z (i:Int),v13] A =
   run E fuel (.code X :: K) [.u,.u,.z p,.u,.u,w,.z (i:Int),.p A.length,.p (A.length+1),.u,a,.z (l.length:Int),.z (i:Int),v13] (A++[.row 4 false [cQ l[i]],.row 6 false [wA p (l[i],i)]]):=by
 have x1:=iF ha hi A .i64
 obtain ⟨k1,k2,k3,k4⟩:=gA hv hp
 obtain ⟨_,_,h3,h4⟩:=hv
 have b1:af .mul (.z p) (.z l[i].k)=some (.z (p*l[i].k)):=by
  simp only [af]; rw [SA trivial,eH (by unfold inI; omega)]
 have b2:af .sub (.z l[i].w) (.z (p*l[i].k))=some (.z (l[i].len p)):=by
  simp only [af]; rw [SA trivial,eH (by unfold bq.len at k1 k2; unfold inI; omega)]; rfl
 unfold cQ wA
 simp only []
 obtain ⟨pk,hpk⟩:∃pk,pk=p*l[i].k:=⟨_,rfl⟩
 rw [<-hpk] at b1 b2
 simp [RG,RF,x1,b1,b2,-af,-ae]
theorem r25c (E:Env) (fuel:Nat) (K:List KC) {B2:ac} {v2 v11 n va os:AV} {i8:Nat}
  (h1:B[1]?=some (.row 3 false [.agg [n,va,os]])) (h8:B[i8]?=some (.row 6 false [.agg [.z c1,.z c2,.z c3,.z c4,.z c5,.z c6]])) (ap:aL 6 48 B va (.fs 6 [.agg [.z c1,.z c2,.z c3,.z c4,.z c5,.z c6]])=some (.sl j 0 k,B2)) (h1':B2[1]?=some (.row 3 false [.agg [n,va,os]])) :
  run E fuel (.code RE :: K) [.u,.u,v2,.u,.u,.p 1,v6,v7,.p i8,.u,v10,v11,v12,v13] B =
   run E fuel K [.u,.u,v2,.u,.u,.p 1,v6,v7,.p i8,.u,v10,v11,v12,v13] (B2.set 1 (.row 3 false [.agg [n,.sl j 0 k,os]])):=by
 simp [RE,h1,h8,ap,h1']
theorem r25d (E:Env) (fuel:Nat) (K:List KC) {B2:ac} {v2 v11 n va o:AV} {i7 i8 f m:Nat} {os:List AV} {a:bq}
  (h1:B[1]?=some (.row 3 false [.agg [n,va,.sl 0 0 m]])) (h7:B[i7]?=some (.row 4 false [cQ a])) (h8:B[i8]?=some (.row 6 false [.agg [.z c1,.z c2,.z c3,.z c4,.z c5,.z c6]])) (haf:a.f=(f:Int)) (hfm:f<m)
  (h0:B[0]?=some (.row 1 false os)) (ho:os[f]?=some o) (hs:o=.nilS\/∃i k,o=.sl i 0 k)
  (ap:aL 6 48 B o (.fs 6 [.agg [.z c1,.z c2,.z c3,.z c4,.z c5,.z c6]])=some (.sl j 0 k,B2)) (h0':B2[0]?=some (.row 1 false os)) (hid:∀j∈bI o,j≠1/\j≠i7) (hB1:B.length≠1) (hB7:B.length≠i7) :
  run E fuel (.code NN :: K) [.u,.u,v2,.u,.u,.p 1,v6,.p i7,.p i8,.u,v10,v11,v12,v13] B =
   run E fuel K [.u,.u,v2,.u,.u,.p 1,v6,.p i7,.p i8,.u,v10,v11,v12,v13] (B2.set 0 (.q (os.set f (.sl j 0 k)))):=by
 have hB1':¬ 1=B.length:=fun e=>hB1 e.symm
 have hB7':¬ i7=B.length:=fun e=>hB7 e.symm
 simp only [cQ,haf] at h7
 rcases hs with rfl | ⟨i,q,rfl⟩
 ·simp [NN,h1,h7,h8,h0,ho,ap,h0',hB1',hB7',hfm]
 ·obtain ⟨hi1,hi7⟩:=hid i (by simp [bI])
  have hi1':¬ 1=i:=fun e=>hi1 e.symm
  have hi7':¬ i7=i:=fun e=>hi7 e.symm
  simp [NN,h1,h7,h8,h0,ho,ap,h0',hB1',hB7',hfm,hi1',hi7']
def Dn (n:Nat) (p:Int) (l:List bq) (i:Nat) (A:ac):Prop:=∃(va:AV) (os:List AV),A[0]?=some (.row 1 false os)/\A[1]?=some (.row 3 false [.agg [.z (n:Int),va,.sl 0 0 n]])/\os.length=n/\uu A va (wAs p (num (l.take i))) /\
 (∀(v:Nat) (o:AV),os[v]?=some o->uu A o (wAs p (oO (l.take i) v)))/\(∀(v:Nat) (o:AV) (j:Nat),os[v]?=some o->j∈bI o->j ∉ bI va)/\(∀(u v:Nat) (o q:AV) (j:Nat),u≠v->os[u]?=some o->os[v]?=some q->j∈bI o->j ∉ bI q)
theorem l8 {n:Int} (h:0<=z/\z<=n-1):∃m:Nat,z=(m:Int)/\(m:Int)<n:=⟨z.toNat,by omega,by omega⟩
theorem uu.form2 {s:AV} {xs:List AV} (h:uu A s xs):s=.nilS\/∃i k,s=.sl i 0 k:=by
 rcases h with ⟨rfl,_⟩ | ⟨id,gr,rfl,_⟩
 ·exact .inl rfl
 ·exact .inr ⟨_,_,rfl⟩
theorem HU (E:Env) (fuel:Nat) (A:ac) {a:AV} {l:List bq} (ha:bT a=some l) (hp:cA p) {n:Nat} (hn:n<=32) (hl200:l.length<=200) (hv:∀x∈l,okA n x) (hi:i<l.length) (hI:Dn n p l i A) :
  ∃A',run E fuel [.code oo] (nY (.z p) (.p 1) a (.z (l.length:Int)) (.z (i:Int))) A=some (.normal (nY (.z p) (.p 1) a (.z (l.length:Int)) (.z ((i+1:Nat):Int))) A')/\Dn n p l (i+1) A':=by
 obtain ⟨va,os,g0,g1,hos,gs,go,gd1,gd2⟩:=hI
 have hmem:=hv _ (SC hi)
 obtain ⟨f,hf,hfn⟩:=l8 hmem.1
 have hv32:okA 32 l[i]:=by
  obtain ⟨h1,h2,h3,h4⟩:=hmem
  exact ⟨by omega,by omega,h3,h4⟩
 have hA2:2<=A.length:=(Sp.1 g1).1
 obtain ⟨B,hB⟩:∃B,B=A++[.row 4 false [cQ l[i]],.row 6 false [wA p (l[i],i)]]:=⟨_,rfl⟩
 have hAB:∀id,id<A.length->B[id]?=A[id]?:=fun id hid=>by rw [hB,Sy hid]
 have h7:B[A.length]?=some (.row 4 false [cQ l[i]]):=by rw [hB]; simp
 have h8:B[A.length+1]?=some (.row 6 false [wA p (l[i],i)]):=by rw [hB,SJ (by omega)]; simp
 have hBl:B.length=A.length+2:=by rw [hB]; simp
 have k0:=(hAB 0 (by omega)).trans g0
 have k1:=(hAB 1 (by omega)).trans g1
 have gsB:uu B va (wAs p (num (l.take i))):=gs.keep fun id h=>hAB id (gs.low id h).2
 have hnl:(wAs p (num (l.take i))).length<=1000:=by simp [wAs,kV]; omega
 obtain ⟨ja,ka,B2,ap1,s1,len1,keep1,ids1⟩:=gsB.append (wA p (l[i],i)) (by omega) hnl
 have hva:=gs.low
 have q1:=(keep1 1 (by omega) fun h=>by have:=(hva 1 h).1; omega).trans k1
 obtain ⟨B3,hB3⟩:∃B3,B3=B2.set 1 (.row 3 false [.agg [.z (n:Int),(.sl ja 0 ka),.sl 0 0 n]]):=⟨_,rfl⟩
 have hB3l:B3.length=B2.length:=by rw [hB3]; simp
 have c1:B3[1]?=some (.row 3 false [.agg [.z (n:Int),(.sl ja 0 ka),.sl 0 0 n]]):=by rw [hB3]; exact SG (by omega)
 have hB23:∀id,id≠1->B3[id]?=B2[id]?:=fun id h=>by rw [hB3,Sz (TX h)]
 have c0:=((hB23 0 (by omega)).trans (keep1 0 (by omega) fun h=>by have:=(hva 0 h).1; omega)).trans k0
 have c7:=((hB23 A.length (by omega)).trans (keep1 A.length (by omega) fun h=>by have:=(hva _ h).2; omega)).trans h7
 have c8:=((hB23 (A.length+1) (by omega)).trans (keep1 (A.length+1) (by omega) fun h=>by have:=(hva _ h).2; omega)).trans h8
 have s1':uu B3 (.sl ja 0 ka) (wAs p (num (l.take i))++[wA p (l[i],i)]):=s1.keep fun id h=>hB23 id (by have:=(s1.low id h).1; omega)
 obtain ⟨o,ho⟩:∃o,os[f]?=some o:=⟨os[f]'(by omega),Sq _⟩
 have keepO:∀v q,os[v]?=some q->uu B3 q (wAs p (oO (l.take i) v)):=fun v q hq=>(go v q hq).keep fun id h=>by
  have:=(go v q hq).low id h
  rw [hB23 id (by omega),keep1 id (by omega) (gd1 v q id hq h),hAB id this.2]
 have so:=keepO f o ho
 have hol:(wAs p (oO (l.take i) f)).length<=1000:=by
  have:=ye (l.take i) f
  simp only [wAs,SF]
  simp at this; omega
 obtain ⟨jo,ko,B4,ap2,s2,len2,keep2,ids2⟩:=so.append (wA p (l[i],i)) (by omega) hol
 have hoi:=(go f o ho).low
 have d0:=(keep2 0 (by omega) fun h=>by have:=(hoi 0 h).1; omega).trans c0
 obtain ⟨B5,hB5⟩:∃B5,B5=B4.set 0 (.q (os.set f (.sl jo 0 ko))):=⟨_,rfl⟩
 have hB45:∀id,id≠0->B5[id]?=B4[id]?:=fun id h=>by rw [hB5,Sz (TX h)]
 have ids1':∀x,x∈bI (.sl ja 0 ka)->x∈bI va\/x=B.length:=fun x hx=>by
  simp only [bI,SY] at hx
  rw [hx]; exact ids1
 have ids2':∀x,x∈bI (.sl jo 0 ko)->x∈bI o\/x=B3.length:=fun x hx=>by
  simp only [bI,SY] at hx
  rw [hx]; exact ids2
 refine ⟨B5,?_,.sl ja 0 ka,os.set f (.sl jo 0 ko),?_,?_,?_,?_,?_,?_,?_⟩
 ·have r1:=fun K X=>N0 E fuel K A ha hp hi hv32 (.p 1) .t X
  rw [<-hB] at r1
  have r2:=fun K=>r25c E fuel K (B:=B) (B2:=B2) (v2:=.z p) (v6:=.z (i:Int)) (v7:=.p A.length) (v10:=a) (v11:=.z (l.length:Int)) (v12:=.z (i:Int)) (v13:=.t) (n:=.z (n:Int)) (va:=va) (j:=ja) (k:=ka) (os:=.sl 0 0 n) (i8:=A.length+1) k1 h8 ap1 q1
  rw [<-hB3] at r2
  have r3:=fun K=>r25d E fuel K (B:=B3) (B2:=B4) (v2:=.z p) (v6:=.z (i:Int)) (i7:=A.length) (v10:=a) (v11:=.z (l.length:Int)) (v12:=.z (i:Int)) (v13:=.t) (n:=.z (n:Int)) (va:=.sl ja 0 ka) (o:=o) (j:=jo) (k:=ko) (os:=os) (m:=n) (f:=f) (a:=l[i]) (i8:=A.length+1) c1 c7 c8 hf (by omega) c0 ho so.form2 ap2 d0 (fun j hj=>⟨by have:=(hoi j hj).1; omega,by have:=(hoi j hj).2; omega⟩) (by omega) (by omega)
  rw [<-hB5] at r3
  have b1:=be i l.length .i64
  rw [Su hi] at b1
  have b3:=aP i (by omega)
  obtain ⟨i1,hi1⟩:∃i1:Nat,i1=i+1:=⟨_,rfl⟩
  rw [<-hi1] at b3 ⊢
  rw [MD]
  simp [b1,b3,r1,r2,r3,-af]
 ·rw [hB5]; exact SG (by omega)
 ·rw [hB45 1 (by omega),keep2 1 (by omega) fun h=>by have:=(hoi 1 h).1; omega]
  exact c1
 ·simp [hos]
 ·rw [yh l i hi,show wAs p (num (l.take i)++[(l[i],i)])=wAs p (num (l.take i))++[wA p (l[i],i)] by simp [wAs]]
  refine s1'.keep fun id h=>?_
  have h1:=s1'.low id h
  rw [hB45 id (by omega),keep2 id h1.2 fun h2=>?_]
  rcases ids1' id h with h3 | h3
  ·exact gd1 f o id ho h2 h3
  ·have:=(hoi id h2).2; omega
 ·intro v q hq
  rw [Ba l i v hi]
  by_cases hvf:v=f
  ·subst hvf
   rw [SG (by omega)] at hq
   injection hq with hq; subst hq
   rw [SA hf,show wAs p (oO (l.take i) v++[(l[i],i)])=wAs p (oO (l.take i) v)++[wA p (l[i],i)] by simp [wAs]]
   exact s2.keep fun id h=>hB45 id (by have:=(s2.low id h).1; omega)
  ·rw [Sz (TX hvf)] at hq
   rw [SD (by rw [hf]; omega)]
   refine (keepO v q hq).keep fun id h=>?_
   have h1:=(keepO v q hq).low id h
   rw [hB45 id (by omega),keep2 id h1.2 (gd2 v f q o id hvf hq ho h)]
 ·intro v q j hq hj hj2
  have hnew:j∈bI va\/j=B.length:=ids1' j hj2
  by_cases hvf:v=f
  ·subst hvf
   rw [SG (by omega)] at hq
   injection hq with hq; subst hq
   have h5:=(s1.low j hj2).2
   rcases ids2' j hj with h3 | h3
   ·have:=(hoi j h3).2
    rcases hnew with h4 | h4
    ·exact gd1 v o j ho h3 h4
    ·omega
   ·omega
  ·rw [Sz (TX hvf)] at hq
   have:=((go v q hq).low j hj).2
   rcases hnew with h4 | h4
   ·exact gd1 v q j hq hj h4
   ·omega
 ·intro u v q r j huv hq hr hj hj2
  by_cases huf:u=f
  ·subst huf
   rw [SG (by omega)] at hq
   injection hq with hq; subst hq
   rw [Sz huv] at hr
   have:=((go v r hr).low j hj2).2
   rcases ids2' j hj with h3 | h3
   ·exact gd2 u v o r j huv ho hr h3 hj2
   ·omega
  ·rw [Sz (TX huf)] at hq
   have:=((go u q hq).low j hj).2
   by_cases hvf:v=f
   ·subst hvf
    rw [SG (by omega)] at hr
    injection hr with hr; subst hr
    rcases ids2' j hj2 with h3 | h3
    ·exact gd2 u v q o j huv hq ho hj h3
    ·omega
   ·rw [Sz (TX hvf)] at hr
    exact gd2 u v q r j huv hq hr hj hj2
theorem aM (A:ac) (n:Nat) (k:IntKind) (z:Int):frz A n (.int k z)=.int k z:=by cases n <;> rfl
def du (n:Nat) (p:Int) (l:List bq):AV:=.fp [.z (n:Int),slA 6 (wAs p (num l)),.fs 1 ((List.range n).map fun v=>slA 6 (wAs p (oO l v)))]
theorem Dn.frz {l:List bq} (h:Dn n p l l.length A) (k:Nat):Proofs.YtkcjhljbgjpklaaGreat.frz A (k+4) (.p 1)=du n p l:=by
 obtain ⟨va,os,g0,g1,hos,gs,go,_,_⟩:=h
 rw [SX] at gs go
 show Proofs.YtkcjhljbgjpklaaGreat.frz A (k+3+1) _=_
 simp only [Proofs.YtkcjhljbgjpklaaGreat.frz,g1,Tp]
 rw [SA ⟨rfl,by simp [cellsOf]⟩]
 have e2:Proofs.YtkcjhljbgjpklaaGreat.frz A (k+3) (.sl 0 0 n)=.fs 1 ((List.range n).map fun v=>slA 6 (wAs p (oO l v))):=by
  show Proofs.YtkcjhljbgjpklaaGreat.frz A (k+2+1) _=_
  simp only [Proofs.YtkcjhljbgjpklaaGreat.frz,g0]
  rw [SL,SR (by omega)]
  congr 1
  apply TB (by simp [hos])
  intro v h1 h2
  simp only [Tk,UA]
  exact (go v _ (Sq (by simpa using h1))).frz k
 simp only [cellsOf,SL,Tw,U9,e2]
 rw [show Proofs.YtkcjhljbgjpklaaGreat.frz A (k+3) va=slA 6 (wAs p (num l)) from gs.frz (k+1)]
 simp [du,Proofs.YtkcjhljbgjpklaaGreat.frz]
theorem Dn.fresh {l:List bq} (h:Dn n p l l.length A) (k:Nat):bA A (k+4) (.p 1)=true:=by
 obtain ⟨va,os,g0,g1,hos,gs,go,_,_⟩:=h
 rw [SX] at gs go
 have e2:bA A (k+3) (.sl 0 0 n)=true:=by
  show bA A (k+2+1) _=_
  simp only [bA,g0]
  rw [SL,SR (by omega),SV]
  intro x hx
  obtain ⟨v,hv,rfl⟩:=Tb.1 hx
  exact (go v _ (Sq hv)).fresh k
 have e1:bA A (k+3) va=true:=gs.fresh (k+1)
 show bA A (k+3+1) _=_
 simp only [bA,g1,Tp,cellsOf,AV.solid,List.all_cons,List.all_nil,Bool.and_true,Bool.true_and,Tn,UG]
 simp only [bA] at e1 e2
 rw [e1,e2]; rfl
theorem KR (E:Env) (fuel:Nat) (A:ac) {a:AV} {l:List bq} (ha:bT a=some l) (hp:cA p) (hn:n<=32) (hl200:l.length<=200) (hv:∀x∈l,okA n x) (hI:Dn n p l 0 A) :
  ∃A',Dn n p l l.length A'/\bG (evC E fuel oo) mu (l.length+1) (nY (.z p) (.p 1) a (.z (l.length:Int)) (.z 0)) A=some (.exit 0 ((nY (.z p) (.p 1) a (.z (l.length:Int)) (.z (l.length:Int))).set 13 .f) A'):=by
 obtain ⟨o,h1,A',h2,h3⟩:=iR (E:=E) (fuel:=fuel) (a:=oo) (mask:=mu) (fun k σ A=>∃i,i+k=l.length/\σ=nY (.z p) (.p 1) a (.z (l.length:Int)) (.z (i:Int))/\Dn n p l i A)
  (fun o=>∃A',Dn n p l l.length A'/\o=.exit 0 ((nY (.z p) (.p 1) a (.z (l.length:Int)) (.z (l.length:Int))).set 13 .f) A')
  (by
   rintro k σ A ⟨i,hik,rfl,hI⟩
   rw [Gq]
   by_cases hi:i<l.length
   ·obtain ⟨A',h1,h2⟩:=HU E fuel A ha hp hn hl200 hv hi hI
    exact .inl ⟨_,_,h1,k-1,by omega,i+1,by omega,rfl,h2⟩
   ·obtain rfl:i=l.length:=by omega
    refine .inr ⟨_,?_,?_,A,hI,rfl⟩
    ·simp [oo]
    ·intro _ _ h; cases h)
  (l.length+1) l.length _ A (by omega) ⟨0,by omega,rfl,hI⟩
 exact ⟨A',h2,by rw [<-h3]; exact h1⟩
open Classical in
def M25:aU:=fun args=>match args with
 | [.int .i64 n,a,.int .i64 p]=>(bT a).map fun l=>if bS n l p then .tup [du n.toNat p l,.t] else .tup [.nilP,.f]
 | _=>none
def Af:List (FuncId × aJ):=[(83,aE 4 M16),(50,aE 4 M41)]
@[simp] theorem PF:aD Af 83=some (aE 4 M16):=rfl
@[simp] theorem PC:aD Af 50=some (aE 4 M41):=rfl
theorem Hs:∀f M,aD Af f=some M->au prog GC f M:=ag (au.of_pure n8 4) (ag (au.of_pure p7 4) aB)
open Classical in
theorem tH:cm prog GC 51 M25:=by
 refine cm.of_ev (E:=aq GC Af) (ax Hs) rfl (by kernel_rfl) Cs 5 ?_
 intro args r h
 unfold M25 at h
 split at h
 ·rename_i n a p
  simp only [SE] at h
  obtain ⟨l,hl,rfl⟩:=h
  refine ⟨l.length+1,?_⟩
  have m1:M16 [.z n,a]=some (.bool (decide (cR n l))):=by simp only [M16,hl,Th]
  have m2:M41 [.z p]=some (.bool (decide (cA p))):=rfl
  have f1:=dX hl
  have f2:=dS hl
  have hlen:=(eP hl).1
  rw [fU _ _ rfl]
  by_cases h1:cR n l
  rotate_left
  ·rw [SD (fun h=>h1 h.1)]
   rw [Ss h1] at m1
   simp [Ic,m1,f1,f2,frz,bA,dI]
  rw [Su h1] at m1
  by_cases h2:cA p
  rotate_left
  ·rw [SD (fun h=>h2 h.2)]
   rw [Ss h2] at m2
   simp [Ic,m1,m2,f1,f2,frz,bA,dI]
  rw [Su h2] at m2
  rw [SA ⟨h1,h2⟩]
  obtain ⟨m,rfl⟩:∃m:Nat,n=(m:Int):=⟨n.toNat,by have:=h1.1; omega⟩
  have hm:1<=m/\m<=32:=by have:=h1.1; omega
  have hI:Dn m p l 0 [.q (List.replicate m .nilS),.row 3 false [.agg [.z (m:Int),.nilS,.sl 0 0 m]]]:=by
   refine ⟨.nilS,List.replicate m .nilS,rfl,rfl,by simp,.inl ⟨rfl,rfl⟩,fun v o ho=>?_,fun v o j ho hj=>?_,fun u v o q j _ ho _ hj=>?_⟩
   ·rw [TL] at ho
    split at ho
    ·injection ho with ho; subst ho
     exact .inl ⟨rfl,rfl⟩
    ·cases ho
   ·simp [bI]
   ·rw [TL] at ho
    split at ho
    ·injection ho with ho; subst ho
     simp [bI] at hj
    ·cases ho
  obtain ⟨A',hW,lp⟩:=KR (aq GC Af) (l.length+1) _ hl h2 hm.2 h1.2.1 h1.2.2 hI
  have z1:frz A' 5 (.tup [.p 1,.t])=.tup [du m p l,.t]:=by
   have:=hW.frz 0
   show AV.tup [frz A' 4 (.p 1),frz A' 4 .t]=_
   rw [this]; rfl
  have z2:bA A' 5 (.tup [.p 1,.t])=true:=by
   have:=hW.fresh 0
   show [AV.ptr 1 0 0,.t].all (bA A' 4)=true
   simp only [List.all_cons,this]; rfl
  have p1:dI [.p 1,.t]=.tup [.p 1,.t]:=rfl
  have e1:(m:Int).toNat=m:=by omega
  have hm0:¬ m=0:=by omega
  have mk:bY 1 24 .nilS [] (.z (m:Int)) (.z (m:Int))=some (.sl 0 0 m,[.q (List.replicate m .nilS)]):=by
   simp [bY]; omega
  rw [e1]
  simp [Ic,m1,m2,f1,f2,hlen,Lg lp,mk,aM,z1,z2,-aj,-bY,-frz]
 ·cases h
open Go
abbrev dT:=Nat × Nat × Int
def isW (L:List dT):Nat->List dT->Nat->Prop
 | u,[],v=>u=v
 | u,a :: r,v=>a∈L/\a.1=u/\isW L a.2.1 r v
def kY:List dT->Int
 | []=>0
 | a :: r=>a.2.2+kY r
def Jx:Nat->List dT->Nat
 | u,[]=>u
 | _,a :: r=>Jx a.2.1 r
section
variable {L:List dT}
theorem iQ:∀(r s:List dT),kY (r++s)=kY r+kY s
 | [],s=>by simp [kY]
 | a :: r,s=>by
  simp only [List.cons_append,kY,iQ r s]
  omega
theorem lg:∀ {r s:List dT} {u v:Nat},isW L u (r++s) v↔∃m,isW L u r m/\isW L m s v
 | [],s,u,v=>⟨fun h=>⟨u,rfl,h⟩,by rintro ⟨m,rfl,h⟩; exact h⟩
 | a :: r,s,u,v=>by
  simp only [List.cons_append,isW,lg (r:=r) (s:=s)]
  constructor
  ·rintro ⟨h1,h2,m,h3,h4⟩; exact ⟨m,⟨h1,h2,h3⟩,h4⟩
  ·rintro ⟨m,⟨h1,h2,h3⟩,h4⟩; exact ⟨h1,h2,m,h3,h4⟩
theorem qC:∀ {r:List dT} {u v:Nat},isW L u r v->Jx u r=v
 | [],_,_,h=>h
 | a :: r,_,_,⟨_,_,h⟩=>qC (r:=r) (u:=a.2.1) h
theorem Cb (hL:∀a∈L,a.1<n/\a.2.1<n):∀ {r:List dT} {u v:Nat},u<n->isW L u r v->v<n
 | [],_,_,h,e=>e ▸ h
 | _ :: _,_,_,_,⟨h1,_,h3⟩=>Cb hL (hL _ h1).2 h3
theorem sw:∀(n:Nat) (s:Nat->Nat),(∀i,i<=n->s i<n)->∃i j,i<j/\j<=n/\s i=s j
 | 0,s,h=>absurd (h 0 (SK _)) (by omega)
 | n+1,s,h=>by
  by_cases hx:∃i,i<=n/\s i=s (n+1)
  ·obtain ⟨i,hi,he⟩:=hx
   exact ⟨i,n+1,by omega,SK _,he⟩
  ·have hx':∀i,i<=n->s i≠s (n+1):=fun i hi he=>hx ⟨i,hi,he⟩
   obtain ⟨i,j,h1,h2,h3⟩:=sw n (fun i=>if s i=n then s (n+1) else s i) (fun i hi=>by
    have a1:=h i (by omega)
    have a2:=h (n+1) (SK _)
    have a3:=hx' i hi
    show (if s i=n then s (n+1) else s i)<n
    split <;> omega)
   refine ⟨i,j,h1,by omega,?_⟩
   have a1:=hx' i (by omega)
   have a2:=hx' j (by omega)
   have h3:(if s i=n then s (n+1) else s i)=(if s j=n then s (n+1) else s j):=h3
   split at h3 <;> split at h3 <;> omega
theorem Ig (hL:∀a∈L,a.1<n/\a.2.1<n) {r:List dT} (hu:u<n) (h:isW L u r v) (hn:n<=r.length) :
  ∃p c q m,r=p++c++q/\isW L u p m/\isW L m c m/\isW L m q v/\1<=c.length/\c.length<=n:=by
 have key:∀i,i<=r.length->∃m,isW L u (r.take i) m/\isW L m (r.drop i) v:=fun i _=>by
  have h':=h
  rw [<-Ua i r] at h'
  exact lg.1 h'
 obtain ⟨i,j,hij,hj,he⟩:=sw n (fun i=>Jx u (r.take i)) (fun i hi=>by
  obtain ⟨m,h1,_⟩:=key i (by omega)
  show Jx u (r.take i)<n
  rw [qC h1]
  exact Cb hL hu h1)
 obtain ⟨m1,a1,b1⟩:=key i (by omega)
 obtain ⟨m2,a2,b2⟩:=key j (by omega)
 have e1:=qC a1
 have e2:=qC a2
 have he:Jx u (r.take i)=Jx u (r.take j):=he
 have e3:m1=m2:=by rw [<-e1,<-e2,he]
 subst e3
 have hs:r.drop i=(r.drop i).take (j-i)++r.drop j:=by
  conv=>lhs; rw [<-Ua (j-i) (r.drop i)]
  rw [List.drop_drop]
  congr 2; omega
 have hs2:r.take j=r.take i++(r.drop i).take (j-i):=by
  have:j=i+(j-i):=by omega
  conv=>lhs; rw [this]
  rw [List.take_add]
 rw [hs2] at a2
 obtain ⟨m,c1,c2⟩:=lg.1 a2
 have e4:m=m1:=by rw [<-qC c1,e1]
 subst e4
 refine ⟨r.take i,(r.drop i).take (j-i),r.drop j,m,?_,a1,c2,b2,?_,?_⟩
 ·rw [SO,<-hs,Ua]
 ·simp; omega
 ·simp; omega
def Ds (L:List dT) (n:Nat):Prop:=∀u c,isW L u c u->1<=c.length->c.length<=n->kY c<=0
theorem Kk (hL:∀a∈L,a.1<n/\a.2.1<n) (hN:Ds L n):∀(k:Nat) (r:List dT) (u v:Nat),r.length=k->u<n->isW L u r v->∃r',isW L u r' v/\r'.length<n/\kY r<=kY r':=by
 intro k
 induction k using Nat.strongRecOn with
 | ind k ih=>
  intro r u v hk hu h
  by_cases hn:r.length<n
  ·exact ⟨r,h,hn,TY _⟩
  ·obtain ⟨p,c,q,m,hr,h1,h2,h3,h4,h5⟩:=Ig hL hu h (by omega)
   have hc:=hN m c h2 h4 h5
   obtain ⟨r',k1,k2,k3⟩:=ih (p++q).length (by rw [<-hk,hr]; simp; omega) (p++q) u v rfl hu (lg.2 ⟨m,h1,h3⟩)
   refine ⟨r',k1,k2,?_⟩
   rw [hr,iQ,iQ]
   rw [iQ] at k3
   omega
def lE (L:List dT) (s:List Int):Prop:=∀a∈L,s.getD a.1 0+a.2.2<=s.getD a.2.1 0
theorem mJ (h:lE L s):∀ {r:List dT} {u v:Nat},isW L u r v->s.getD u 0+kY r<=s.getD v 0
 | [],u,v,e=>by rw [show u=v from e]; simp [kY]
 | a :: r,u,v,⟨h1,h2,h3⟩=>by
  have k1:=h a h1
  have k2:=mJ h h3
  rw [h2] at k1
  simp only [kY]
  omega
theorem xe (h:lE L s) (n:Nat):Ds L n:=fun u c hc _ _=>by
 have:=mJ h hc
 omega
def rB (s:List Int) (a:dT):List Int:=if s.getD a.1 0+a.2.2 > s.getD a.2.1 0 then s.set a.2.1 (s.getD a.1 0+a.2.2) else s
def lI (L:List dT) (s:List Int):List Int:=L.foldl rB s
def upL:List dT->List Int->Bool
 | [],_=>false
 | a :: L,s=>decide (s.getD a.1 0+a.2.2 > s.getD a.2.1 0) || upL L (rB s a)
theorem o9 (s:List Int) (a:dT):(rB s a).length=s.length:=by unfold rB; split <;> simp
theorem gj:∀(L:List dT) (s:List Int),(lI L s).length=s.length
 | [],_=>rfl
 | a :: L,s=>by
  have:=gj L (rB s a)
  simp only [lI,Ta] at this ⊢
  rw [this,o9]
theorem EG (s:List Int) (i j:Nat) (x:Int) (hi:i<s.length):(s.set i x).getD j 0=if i=j then x else s.getD j 0:=by
 rw [Sr,Sr]
 by_cases h:i=j
 ·subst h
  rw [SG hi,SA rfl]; rfl
 ·rw [Sz h,SD h]
theorem tQ {a:dT} (ha:a.2.1<s.length) (v:Nat):(rB s a).getD v 0=if a.2.1=v then max (s.getD v 0) (s.getD a.1 0+a.2.2) else s.getD v 0:=by
 unfold rB
 by_cases h:s.getD a.1 0+a.2.2 > s.getD a.2.1 0
 ·rw [SA h,EG _ _ _ _ ha]
  split
  ·rename_i e
   subst e
   omega
  ·rfl
 ·rw [SD h]
  split
  ·rename_i e
   subst e
   omega
  ·rfl
theorem ik:∀ {L:List dT} {s:List Int},upL L s=false->lI L s=s/\lE L s
 | [],s,_=>⟨rfl,fun a h=>by cases h⟩
 | a :: L,s,h=>by
  simp only [upL,Bool.or_eq_false_iff,Ue] at h
  obtain ⟨h1,h2⟩:=h
  have e:rB s a=s:=by unfold rB; rw [SD h1]
  rw [e] at h2
  obtain ⟨k1,k2⟩:=ik h2
  refine ⟨?_,fun b hb=>?_⟩
  ·simp only [lI,Ta,e]; exact k1
  ·rcases Tj.1 hb with rfl | hb
   ·omega
   ·exact k2 b hb
theorem pM:∀ {L:List dT} {s:List Int},lE L s->upL L s=false
 | [],_,_=>rfl
 | a :: L,s,h=>by
  have h1:=h a (by simp)
  have e:rB s a=s:=by unfold rB; rw [SD (by omega)]
  simp only [upL,e,Bool.or_eq_false_iff,Ue]
  exact ⟨by omega,pM fun b hb=>h b (by simp [hb])⟩
theorem wY:∀ {L:List dT} {s:List Int},s.length=n->(∀a∈L,a.2.1<n)->(∀v,s.getD v 0<=(lI L s).getD v 0)/\∀a∈L,s.getD a.1 0+a.2.2<=(lI L s).getD a.2.1 0
 | [],s,_,_=>⟨fun v=>TY _,fun a h=>by cases h⟩
 | a :: L,s,hs,hL=>by
  have ha:=hL a (by simp)
  obtain ⟨k1,k2⟩:=wY (L:=L) (s:=rB s a) (by rw [o9,hs]) (fun b hb=>hL b (by simp [hb]))
  have e:lI (a :: L) s=lI L (rB s a):=rfl
  rw [e]
  have g:=fun v=>tQ (s:=s) (a:=a) (by omega) v
  have g1:∀v,s.getD v 0<=(rB s a).getD v 0:=fun v=>by
   rw [g]; split <;> omega
  refine ⟨fun v=>Vm (g1 v) (k1 v),fun b hb=>?_⟩
  rcases Tj.1 hb with rfl | hb
  ·refine Vm ?_ (k1 _)
   rw [g,SA rfl]; omega
  ·have:=k2 b hb
   have h0:=g1 b.1
   omega
def E4 (L:List dT) (n:Nat) (s:List Int):Prop:=∀v,v<n->∃u r,u<n/\isW L u r v/\kY r=s.getD v 0
theorem AZ {L:List dT} (hL:∀a∈L,a.1<n/\a.2.1<n) (hs:s.length=n) (hw:E4 L n s) {a:dT} (ha:a∈L):E4 L n (rB s a):=fun v hv=>by
 rw [tQ (by have:=(hL a ha).2; omega)]
 by_cases h:a.2.1=v
 ·rw [SA h]
  by_cases hm:s.getD a.1 0+a.2.2<=s.getD v 0
  ·obtain ⟨u,r,h1,h2,h3⟩:=hw v hv
   exact ⟨u,r,h1,h2,by omega⟩
  ·obtain ⟨u,r,h1,h2,h3⟩:=hw a.1 (hL a ha).1
   refine ⟨u,r++[a],h1,lg.2 ⟨a.1,h2,ha,rfl,h⟩,?_⟩
   rw [iQ,h3]
   simp only [kY]
   omega
 ·rw [SD h]; exact hw v hv
theorem qe {L0:List dT} (hL:∀a∈L0,a.1<n/\a.2.1<n):∀ {L:List dT} {s:List Int},(∀a∈L,a∈L0)->s.length=n->E4 L0 n s->E4 L0 n (lI L s)
 | [],_,_,_,h=>h
 | a :: L,s,hs0,hs,hw=>qe hL (L:=L) (s:=rB s a) (fun b hb=>hs0 b (by simp [hb])) (by rw [o9,hs]) (AZ hL hs hw (hs0 a (by simp)))
def lev (L:List dT):Nat->List Int->List Int × Bool
 | 0,s=>(s,!upL L s)
 | m+1,s=>if upL L s=false then (s,true) else lev L m (lI L s)
def cD (L:List dT) (n:Nat):List Int × Bool:=lev L n (List.replicate n 0)
theorem xc {L:List dT} (hL:∀a∈L,a.1<n/\a.2.1<n):∀(m:Nat) (s:List Int),s.length=n->E4 L n s->(∀v,0<=s.getD v 0) ->
  (lev L m s).1.length=n/\E4 L n (lev L m s).1/\(∀v,0<=(lev L m s).1.getD v 0)/\((lev L m s).2=true->lE L (lev L m s).1)
 | 0,s,hs,hw,h0=>⟨hs,hw,h0,fun h=>(ik (by simpa [lev] using h)).2⟩
 | m+1,s,hs,hw,h0=>by
  unfold lev
  by_cases h:upL L s=false
  ·rw [SA h]
   exact ⟨hs,hw,h0,fun _=>(ik h).2⟩
  ·rw [SD h]
   exact xc hL m _ (by rw [gj,hs]) (qe hL (fun _ h=>h) hs hw) fun v=>Vm (h0 v) ((wY hs (fun a ha=>(hL a ha).2)).1 v)
theorem pK (L:List dT) (n:Nat):E4 L n (List.replicate n 0):=fun v hv=>⟨v,[],hv,rfl,by simp [kY,hv]⟩
theorem lM (n v:Nat):(List.replicate n (0:Int)).getD v 0=0:=by
 rw [Sr]
 by_cases h:v<n <;> simp [h]
theorem KY {L:List dT} (hL:∀a∈L,a.1<n/\a.2.1<n) (hN:Ds L n):∀(m k:Nat) (s:List Int),m+k=n->s.length=n->E4 L n s->(∀v,0<=s.getD v 0)->(∀r u v,isW L u r v->u<n->r.length<=k->kY r<=s.getD v 0)->(lev L m s).2=true:=by
 intro m
 induction m with
 | zero=>
  intro k s hk hs hw h0 hr
  have:lE L s:=fun a ha=>by
   obtain ⟨h1,h2⟩:=hL a ha
   obtain ⟨u,r,k1,k2,k3⟩:=hw a.1 h1
   obtain ⟨r',q1,q2,q3⟩:=Kk hL hN _ (r++[a]) u a.2.1 rfl k1 (lg.2 ⟨a.1,k2,ha,rfl,rfl⟩)
   have:=hr r' u a.2.1 q1 k1 (by omega)
   rw [iQ] at q3
   simp only [kY] at q3
   omega
  simp [lev,pM this]
 | succ m ih=>
  intro k s hk hs hw h0 hr
  unfold lev
  by_cases h:upL L s=false
  ·rw [SA h]
  ·rw [SD h]
   have hge:=wY hs (fun a ha=>(hL a ha).2)
   refine ih (k+1) _ (by omega) (by rw [gj,hs]) (qe hL (fun _ h=>h) hs hw) (fun v=>Vm (h0 v) (hge.1 v)) fun r u v hw' hu hl=>?_
   by_cases he:r=[]
   ·subst he
    have:u=v:=hw'
    subst this
    exact Vm (by simpa [kY] using h0 u) (hge.1 u)
   ·obtain ⟨q,a,rfl⟩:∃q a,r=q++[a]:=⟨r.dropLast,r.getLast he,(List.dropLast_concat_getLast he).symm⟩
    obtain ⟨m',k1,k2,k3,k4⟩:=lg.1 hw'
    have e:a.2.1=v:=k4
    subst e
    have h1:=hr q u m' k1 hu (by simp at hl; omega)
    have h2:=hge.2 a k2
    rw [<-k3] at h1
    rw [iQ]
    simp only [kY]
    omega
theorem qA {L:List dT} (hL:∀a∈L,a.1<n/\a.2.1<n):(cD L n).2=true↔Ds L n:=by
 constructor
 ·intro h
  exact xe ((xc hL n _ (by simp) (pK L n) (fun v=>by rw [lM]; exact TY _)).2.2.2 h) n
 ·intro h
  refine KY hL h n 0 _ (by omega) (by simp) (pK L n) (fun v=>by rw [lM]; exact TY _) fun r u v hw _ hl=>?_
  have:r=[]:=S8.1 (by omega)
  subst this
  rw [lM]; simp [kY]
theorem ow {L:List dT} (hL:∀a∈L,a.1<n/\a.2.1<n):(cD L n).1.length=n/\(∀v,0<=(cD L n).1.getD v 0)/\E4 L n (cD L n).1/\((cD L n).2=true->lE L (cD L n).1) /\
  ∀x:List Int,lE L x->(∀v,v<n->0<=x.getD v 0)->∀v,v<n->(cD L n).1.getD v 0<=x.getD v 0:=by
 obtain ⟨h1,h2,h3,h4⟩:=xc hL n _ (by simp) (pK L n) (fun v=>by rw [lM]; exact TY _)
 refine ⟨h1,h3,h2,h4,fun x hx h0 v hv=>?_⟩
 obtain ⟨u,r,k1,k2,k3⟩:=h2 v hv
 have:=mJ hx k2
 have:=h0 u k1
 unfold cD
 omega
end
open Go
def lar (p:Int) (l:List bq):List dT:=l.map fun a=>(a.f.toNat,a.t.toNat,a.len p)
theorem tD (p:Int) (l:List bq):(wAs p (num l)).length=l.length:=by simp [wAs,kV]
theorem JI (p:Int) {l:List bq} (hi:i<l.length):(wAs p (num l))[i]?=some (wA p (l[i],i)):=by
 simp [wAs,iL l i hi]
theorem uD (p:Int) {l:List bq} (hi:i<l.length) (A:ac) (k:IntKind):ae 6 A (slA 6 (wAs p (num l))) (.int k (i:Int))=some (.fp [.z l[i].f,.z l[i].t,.z l[i].w,.z l[i].k,.z (i:Int),.z (l[i].len p)]):=
 (aZ 6 (wAs p (num l))).index (A:=A) (JI p hi) rfl (by omega) k
theorem vj (h:i<s.length):(ak s)[i]?=some (.z (s.getD i 0)):=by
 simp [ak,h]
def Bd (lo hi:Int) (s:List Int):Prop:=∀v,v<s.length->lo<=s.getD v 0/\s.getD v 0<=hi
theorem A5 {lo:Int} {a:dT} (h:Bd lo hi s) (hf:a.1<s.length) (ht:a.2.1<s.length) (hw:a.2.2<=3000000):Bd lo (hi+3000000) (rB s a):=fun v hv=>by
 rw [o9] at hv
 rw [tQ ht]
 have h1:=h v hv
 have h2:=h _ hf
 split <;> omega
theorem Bx {l:List bq} (hi:i<l.length):(lar p l)[i]?=some (l[i].f.toNat,l[i].t.toNat,l[i].len p):=by simp [lar,hi]
theorem qf {L:List dT} {a:dT} (h:L[i]?=some a) (s:List Int):lI (L.take (i+1)) s=rB (lI (L.take i) s) a:=by
 obtain ⟨hi,rfl⟩:=Sp.1 h
 unfold lI
 rw [Tu hi,List.foldl_append]
 rfl
theorem xK:∀ {L:List dT} {i:Nat} {a:dT},L[i]?=some a->∀s,upL (L.take (i+1)) s=(upL (L.take i) s || decide ((lI (L.take i) s).getD a.1 0+a.2.2 > (lI (L.take i) s).getD a.2.1 0))
 | [],i,a,h,s=>by simp at h
 | b :: L,0,a,h,s=>by
  simp at h; subst h
  simp [upL,lI]
 | b :: L,i+1,a,h,s=>by
  simp only [T6] at h
  have:=xK h (rB s b)
  simp only [List.take_succ_cons,upL,this,Bool.or_assoc]
  rfl
def RD:MC:=.region [.M 6 5 7,.K 6 0,.E 3 6,.t 6 3 1]
def RC:MC:=.region [.a 1,.d 0 3,.o 0 1,.b 1 2,.e 1 0 3,.b 1 4,.d 5 3,.b 1 6,.m 5 7,.c 4 8]
def Rz:MC:=.region [.a 4,.a 1,.d 0 3,.o 1 2,.b 1 3,.e 1 1 4,.b 1 5,.bv 9 0 6]
def Ry:MC:=.region [.a 1,.d 0 3,.o 1 1,.b 1 2,.a 4,.e 1 0 3,.A 1 5 4,.J 2]
theorem Gz:ge=.r [.F 8 7 6] (.seq (.cond (.var 8) .skip (.exit 0)) (.seq (.seq (.block 1 (.seq RD (.seq RC (.seq Rz (.cond (.var 9) Ry .skip))))) (.kill [0,3,4,8,9])) (.region [.w 7 1,.c 7 0]))):=rfl
theorem r37a (E:Env) (fuel:Nat) (K:List KC) (A:ac) (X:MC) {l:List bq} (hi:i<l.length) (v1 v2 v6 v8:AV) :
  run E fuel (.code (.seq RD X) :: K) [.u,v1,v2,.u,.u,slA 6 (wAs p (num l)),v6,.z (i:Int),v8,.u] A =
   run E fuel (.code X :: K) [.u,v1,v2,.p A.length,.u,slA 6 (wAs p (num l)),v6,.z (i:Int),v8,.u] (A++[.row 6 false [wA p (l[i],i)]]):=by
 have x1:=uD p hi A .i64
 obtain ⟨W,hW⟩:∃W,W=slA 6 (wAs p (num l)):=⟨_,rfl⟩
 rw [<-hW] at x1 ⊢
 simp [RD,x1,wA,-ae]
def Gx (A0:ac) (id:Nat) (s:List Int) (A:ac):Prop:=A[id]?=some (.q (ak s))/\A0.length<=A.length/\∀j,j≠id->j<A0.length->A[j]?=A0[j]?
theorem BA (s:List Int) (i:Nat) (z:Int):(ak s).set i (.z z)=ak (s.set i z):=by
 unfold ak; rw [Va]
theorem wS (E:Env) (fuel:Nat) {A0:ac} {s:List Int} {p:Int} {l:List bq} (hn:s.length=n) (hp:cA p) (hv:∀x∈l,okA n x) (hn32:n<=32) (hl200:l.length<=200) {i:Nat} (hi:i<l.length) {b:Bool} (hb:Bd (-100000000000000) 100000000000000 s) (_hid:id<A0.length) (hI:Gx A0 id s A) :
  ∃A',run E fuel [.code ge] (io (.sl id 0 n) (.bool b) (slA 6 (wAs p (num l))) (.z (l.length:Int)) (.z (i:Int))) A=some (.normal (io (.sl id 0 n) (.bool (b || decide (s.getD l[i].f.toNat 0+l[i].len p > s.getD l[i].t.toNat 0))) (slA 6 (wAs p (num l))) (.z (l.length:Int)) (.z ((i+1:Nat):Int))) A')/\Gx A0 id (rB s (l[i].f.toNat,l[i].t.toNat,l[i].len p)) A':=by
 obtain ⟨g1,g2,g3⟩:=hI
 have hmem:=hv _ (SC hi)
 obtain ⟨f,hf,hfn⟩:=l8 hmem.1
 obtain ⟨t,ht,htn⟩:=l8 hmem.2.1
 have hv32:okA 32 l[i]:=by
  obtain ⟨h1,h2,h3,h4⟩:=hmem
  exact ⟨by omega,by omega,h3,h4⟩
 obtain ⟨k1,k2,_,_⟩:=gA hv32 hp
 obtain ⟨w,hw⟩:∃w,w=l[i].len p:=⟨_,rfl⟩
 obtain ⟨B,hB⟩:∃B,B=A++[.row 6 false [wA p (l[i],i)]]:=⟨_,rfl⟩
 have r1:=fun K X=>r37a E fuel K A X (p:=p) hi (.sl id 0 n) (.bool b) (.z (l.length:Int)) .t
 rw [<-hB] at r1
 have hidA:id<A.length:=(Sp.1 g1).1
 have c1:B[id]?=some (.q (ak s)):=by rw [hB,Sy hidA]; exact g1
 have c8:B[A.length]?=some (.row 6 false [.agg [.z (f:Int),.z (t:Int),.z l[i].w,.z l[i].k,.z (i:Int),.z w]]):=by
  rw [hB,hw]; simp [wA,hf,ht]
 obtain ⟨i8,hi8⟩:∃i8,i8=A.length:=⟨_,rfl⟩
 rw [<-hi8] at r1 c8
 have hBl:A0.length<=B.length:=by rw [hB]; simp; omega
 have hBo:∀j,j≠id->j<A0.length->B[j]?=A0[j]?:=fun j hj hl=>by rw [hB,Sy (by omega)]; exact g3 j hj hl
 have ef:=vj (s:=s) (i:=f) (by omega)
 have et:=vj (s:=s) (i:=t) (by omega)
 have bf:=hb f (by omega)
 have bt:=hb t (by omega)
 rw [<-hw] at k1 k2
 have e1:l[i].f.toNat=f:=by omega
 have e2:l[i].t.toNat=t:=by omega
 rw [e1,e2,<-hw]
 obtain ⟨x,hx⟩:∃x,x=s.getD f 0:=⟨_,rfl⟩
 obtain ⟨y,hy⟩:∃y,y=s.getD t 0:=⟨_,rfl⟩
 rw [<-hx] at ef bf ⊢
 rw [<-hy] at et bt ⊢
 have b2:af .add (.z x) (.z w)=some (.z (x+w)):=by
  simp only [af]; rw [SA trivial,eH (by unfold inI; omega)]
 have b4:af .gtr (.z (x+w)) (.z y)=some (.bool (decide (x+w > y))):=by simp [af]
 have b1:=be i l.length .i64
 rw [Su hi] at b1
 have b3:=aP i (by omega)
 obtain ⟨i1,hi1⟩:∃i1:Nat,i1=i+1:=⟨_,rfl⟩
 rw [<-hi1] at b3 ⊢
 have er:rB s (f,t,w)=if x+w > y then s.set t (x+w) else s:=by unfold rB; rw [hx,hy]
 rw [er]
 obtain ⟨z,hz⟩:∃z,z=x+w:=⟨_,rfl⟩
 rw [<-hz] at b2 b4 ⊢
 obtain ⟨W,hW⟩:∃W,W=slA 6 (wAs p (num l)):=⟨_,rfl⟩
 rw [<-hW] at r1 ⊢
 have hfn':f<n:=by omega
 have htn':t<n:=by omega
 by_cases hc:z > y
 ·rw [SA hc]
  rw [Su hc] at b4 ⊢
  refine ⟨B.set id (.q (ak (s.set t z))),?_,?_,?_,?_⟩
  ·rw [<-BA]
   rw [Gz]
   simp [b1,b3,r1,RC,Rz,Ry,c1,c8,ef,et,b2,b4,hfn',htn',-af]
  ·exact SG (by rw [hB]; simp; omega)
  ·simp; omega
  ·intro j hj hl
   rw [Sz (TX hj)]; exact hBo j hj hl
 ·rw [SD hc]
  rw [Ss hc] at b4 ⊢
  refine ⟨B,?_,c1,hBl,hBo⟩
  rw [Gz]
  simp [b1,b3,r1,RC,Rz,Ry,c1,c8,ef,et,b2,b4,hfn',htn',-af]
theorem NC {E:Env} {n:Nat} {s:List Int} {p:Int} {l:List bq} (hn:s.length=n) (hp:cA p) (hv:∀x∈l,okA n x) (hn32:n<=32) (hl200:l.length<=200) (hb:Bd (-1000000000000) hi s) (hhi:hi<=1000000000000) (hid:A[id]?=some (.q (ak s))) :
  ∃A',bZ E 300 tT [du n p l,.sl id 0 n] A=some (.bool (upL (lar p l) s),A')/\Gx A id (lI (lar p l) s) A':=by
 have hlt:=(Sp.1 hid).1
 have hlen:(lar p l).length=l.length:=by simp [lar]
 have bd:∀i,i<=l.length->Bd (-1000000000000) (hi+3000000*i) (lI ((lar p l).take i) s):=by
  intro i
  induction i with
  | zero=>intro _; simpa [lI] using hb
  | succ i ih=>
   intro hi'
   have h1:=ih (by omega)
   have h2:=Bx (p:=p) (l:=l) (i:=i) (by omega)
   rw [qf h2]
   have hmem:=hv _ (SC (show i<l.length by omega))
   obtain ⟨q1,q2,q3,q4⟩:=hmem
   have hle:=gA (n:=32) (a:=l[i]) ⟨by omega,by omega,q3,q4⟩ hp
   have:=A5 (a:=(l[i].f.toNat,l[i].t.toNat,l[i].len p)) h1 (by rw [gj]; simp only; omega) (by rw [gj]; simp only; omega) (by simp only; omega)
   intro v hv'
   have:=this v hv'
   omega
 obtain ⟨o,h1,A',h2,h3⟩:=iR (E:=E) (fuel:=300) (a:=ge) (mask:=fI) (fun k σ B=>∃i,i+k=l.length/\σ=io (.sl id 0 n) (.bool (upL ((lar p l).take i) s)) (slA 6 (wAs p (num l))) (.z (l.length:Int)) (.z (i:Int))/\Gx A id (lI ((lar p l).take i) s) B)
  (fun o=>∃A',Gx A id (lI (lar p l) s) A'/\o=.exit 0 ((io (.sl id 0 n) (.bool (upL (lar p l) s)) (slA 6 (wAs p (num l))) (.z (l.length:Int)) (.z (l.length:Int))).set 8 .f) A')
  (by
   rintro k σ B ⟨i,hik,rfl,hI⟩
   rw [s8]
   by_cases hi':i<l.length
   ·have hb':=bd i (by omega)
    have h2:=Bx (p:=p) hi'
    obtain ⟨B',h1,h3⟩:=wS E 300 (s:=lI ((lar p l).take i) s) (n:=n) (b:=upL ((lar p l).take i) s) (by rw [gj,hn]) hp hv hn32 hl200 hi' (fun v hv'=>by have:=hb' v hv'; omega) hlt hI
    refine .inl ⟨_,_,h1,k-1,by omega,i+1,by omega,?_,?_⟩
    ·rw [xK h2]
    ·rw [qf h2]; exact h3
   ·obtain rfl:i=l.length:=by omega
    rw [SR (by omega)] at hI ⊢
    refine .inr ⟨_,?_,?_,B,hI,rfl⟩
    ·simp [ge]
    ·intro _ _ h; cases h)
  300 l.length (io (.sl id 0 n) .f (slA 6 (wAs p (num l))) (.z (l.length:Int)) (.z 0)) A (by omega) ⟨0,by omega,by simp [upL],by simpa [lI] using ⟨hid,SK _,fun _ _ _=>rfl⟩⟩
 refine ⟨A',?_,h2⟩
 subst h3
 rw [bo _ _ rfl]
 have hlen2:aj (slA 6 (wAs p (num l)))=some (.z (l.length:Int)):=by rw [tZ,tD]
 unfold du
 obtain ⟨W,hW⟩:∃W,W=slA 6 (wAs p (num l)):=⟨_,rfl⟩
 rw [<-hW] at h1 hlen2 ⊢
 simp [tT,hlen2,yy h1,dI,-aj]
theorem uH:au prog GC 84 (fun _=>bZ (aq GC []) 300 tT):=(cj (ax aB) rfl NL yO bO.nil).y
open Go
theorem az (xs:List Int):(ak xs).length=xs.length:=by simp [ak]
theorem NB (E:Env) (fuel:Nat) (h:dj A 1 a (ak xs)) (hne:xs≠[]) (hl:xs.length<=1000):bZ E fuel ql [a] A=some (.sl (A.length+1) 0 xs.length,A++[.dead,.q (ak xs)]):=by
 have hne':ak xs≠[]:=by simpa [ak] using hne
 have hlen:(ak xs).length=xs.length:=by simp [ak]
 rw [bo _ _ rfl]
 obtain ⟨es,hes⟩:∃es,es=ak xs:=⟨_,rfl⟩
 rw [<-hes] at h hne' hlen ⊢
 rw [<-hlen] at hl ⊢
 have hb:es.length*8<=140737488355328:=by omega
 rcases h with h | ⟨id,off,gr,rs,rfl,h1,h2⟩
 ·rcases h with ⟨_,h⟩ | rfl
  ·exact absurd h hne'
  ·simp [ql,dI,aL,a8,hb]
 ·have hid:=(Sp.1 h1).1
  have h1':∀T,(A++T)[id]?=some (.row 1 gr rs):=fun T=>by rw [Sy hid,h1]
  simp [ql,dI,aL,a8,h1',h2,hb]
theorem jm:au prog GC 36 (fun _=>bZ (aq GC []) 0 ql):=(cj (ax aB) rfl JA s5 bO.nil).y
def zO:List (FuncId × aJ):=[(84,fun _=>bZ (aq GC []) 300 tT),(36,fun _=>bZ (aq GC []) 0 ql)]
@[simp] theorem Py:aD zO 84=some (fun _=>bZ (aq GC []) 300 tT):=rfl
@[simp] theorem Px:aD zO 36=some (fun _=>bZ (aq GC []) 0 ql):=rfl
theorem wI:∀f M,aD zO f=some M->au prog GC f M:=ag uH (ag jm aB)
def M26:aU:=fun args=>evF (aq GC zO) 300 uV 5 args
theorem AJ:cm prog GC 52 M26:=cm.of_ev (E:=aq GC zO) (ax wI) rfl (by kernel_rfl) vT 5 fun _ _ h=>⟨300,h⟩
theorem HY {n:Nat} {p:Int} {l:List bq} (hp:cA p) (hv:∀x∈l,okA n x) (hn32:n<=32) (hl200:l.length<=200) {lo:Int} (hs:s.length=n) (hb:Bd lo hi s):Bd lo (hi+600000000) (lI (lar p l) s):=by
 have hlen:(lar p l).length=l.length:=by simp [lar]
 have bd:∀i,i<=l.length->Bd lo (hi+3000000*i) (lI ((lar p l).take i) s):=by
  intro i
  induction i with
  | zero=>intro _; simpa [lI] using hb
  | succ i ih=>
   intro hi'
   have h1:=ih (by omega)
   have h2:=Bx (p:=p) (l:=l) (i:=i) (by omega)
   rw [qf h2]
   have hmem:=hv _ (SC (show i<l.length by omega))
   obtain ⟨q1,q2,q3,q4⟩:=hmem
   have hle:=gA (n:=32) (a:=l[i]) ⟨by omega,by omega,q3,q4⟩ hp
   have:=A5 (a:=(l[i].f.toNat,l[i].t.toNat,l[i].len p)) h1 (by rw [gj]; simp only; omega) (by rw [gj]; simp only; omega) (by simp only; omega)
   intro v hv'
   have:=this v hv'
   omega
 have:=bd l.length (SK _)
 rw [SR (by omega)] at this
 intro v hv'
 have:=this v hv'
 omega
theorem C2 {l:List bq} (hn:s.length=n) (hp:cA p) (hv:∀x∈l,okA n x) (hn32:n<=32) (hl200:l.length<=200) (hb:Bd (-1000000000000) hi s) (hhi:hi<=1000000000000) (hid:A[id]?=some (.q (ak s))) :
  ∃A',bZ (aq GC []) 300 tT [du n p l,.sl id 0 n] A=some (.bool (upL (lar p l) s),A')/\Gx A id (lI (lar p l) s) A':=NC hn hp hv hn32 hl200 hb hhi hid
def gR (L:List dT):Nat->List Int->List Int
 | 0,s=>s
 | k+1,s=>lI L (gR L k s)
theorem fH (L:List dT) (s:List Int):∀k,(gR L k s).length=s.length
 | 0=>rfl
 | k+1=>by rw [gR,gj,fH L s k]
theorem AY {L:List dT} (h:upL L s=false):∀k,gR L k s=s
 | 0=>rfl
 | k+1=>by rw [gR,AY h k,(ik h).1]
theorem lU (L:List dT) (s:List Int):∀k,gR L (k+1) s=gR L k (lI L s)
 | 0=>rfl
 | k+1=>by rw [gR,lU L s k]; rfl
theorem FE (L:List dT):∀(m:Nat) (s:List Int),lev L m s=if _h:∃k,k<m/\upL L (gR L k s)=false then (gR L m s,true) else (gR L m s,!upL L (gR L m s))
 | 0,s=>by
  rw [dif_neg (by rintro ⟨k,h,_⟩; omega)]; rfl
 | m+1,s=>by
  unfold lev
  by_cases h:upL L s=false
  ·rw [SA h,Vz ⟨0,by omega,h⟩,AY h]
  ·rw [SD h,FE L m,lU]
   by_cases h2:∃k,k<m/\upL L (gR L k (lI L s))=false
   ·rw [Vz h2]
    obtain ⟨k,hk,h3⟩:=h2
    rw [Vz ⟨k+1,by omega,by rw [lU]; exact h3⟩]
   ·rw [dif_neg h2,dif_neg]
    rintro ⟨k,hk,h3⟩
    cases k with
    | zero=>exact h h3
    | succ k=>exact h2 ⟨k,by omega,by rw [lU] at h3; exact h3⟩
theorem tx {l:List bq} (hr:bS n l p):M26 [du n p l]=some (.tup [slA 1 (ak (cD (lar p l) n).1),.bool (cD (lar p l) n).2]):=by
 obtain ⟨⟨hn,hl200,hv⟩,hp⟩:=hr
 have hn32:n<=32:=by omega
 obtain ⟨L,hL⟩:∃L,L=lar p l:=⟨_,rfl⟩
 obtain ⟨z,hz⟩:∃z,z=List.replicate n (0:Int):=⟨_,rfl⟩
 have hzl:z.length=n:=by rw [hz]; simp
 have hbd:∀k:Nat,Bd (-1000000000000) (600000000*k) (gR L k z):=by
  intro k
  induction k with
  | zero=>
   intro v hv'
   have:(gR L 0 z).getD v 0=0:=by rw [gR,hz]; exact lM n v
   rw [this]; omega
  | succ k ih=>
   rw [gR]
   have:=HY hp hv hn32 hl200 (by rw [fH]; exact hzl) ih
   rw [<-hL] at this
   intro v hv'
   have:=this v hv'
   omega
 have h37:∀(A:ac) (k:Nat),k<=33->A[0]?=some (.q (ak (gR L k z)))->∃A',bZ (aq GC []) 300 tT [du n p l,.sl 0 0 n] A=some (.bool (upL L (gR L k z)),A')/\Gx A 0 (gR L (k+1) z) A':=fun A k hk hA=>by
  have:=C2 (s:=gR L k z) (by rw [fH]; exact hzl) hp hv hn32 hl200 (hbd k) (by omega) hA
  rw [<-hL] at this
  exact this
 obtain ⟨W1,O,hW⟩:∃W1 O,du n p l=.fp [.z (n:Int),W1,O]:=⟨_,_,rfl⟩
 obtain ⟨o,h1,h2⟩:=iR (E:=aq GC zO) (fuel:=300) (a:=qz) (mask:=pq) (fun k σ A=>∃i,i+k=n/\σ=sc (du n p l) (.sl 0 0 n) (.z (n:Int)) (.z (i:Int))/\A[0]?=some (.q (ak (gR L i z)))/\∀j,j<i->upL L (gR L j z)=true)
  (fun o=>(∃A' i d6 d7 ,i<n/\upL L (gR L i z)=false/\(∀j,j<i->upL L (gR L j z)=true)/\A'[0]?=some (.q (ak (gR L (i+1) z)))/\o=.ret [du n p l,.sl 0 0 n,.t,.sl 0 0 n,.z (n:Int),.z (i:Int),d6,d7] A') \/
   (∃A',(∀j,j<n->upL L (gR L j z)=true)/\A'[0]?=some (.q (ak (gR L n z)))/\o=.exit 0 ((sc (du n p l) (.sl 0 0 n) (.z (n:Int)) (.z (n:Int))).set 6 .f) A'))
  (by
   rintro k σ A ⟨i,hik,rfl,hA,hup⟩
   rw [Gp]
   rw [hW] at h37 ⊢
   by_cases hi':i<n
   ·obtain ⟨A',c1,c2⟩:=h37 A i (by omega) hA
    have b1:=be i n .i64
    rw [Su hi'] at b1
    have b3:=aP i (by omega)
    obtain ⟨i1,hi1⟩:∃i1:Nat,i1=i+1:=⟨_,rfl⟩
    rw [<-hi1] at b3
    cases hu:upL L (gR L i z) with
    | true=>
     rw [hu] at c1
     refine .inl ⟨sc (.fp [.z (n:Int),W1,O]) (.sl 0 0 n) (.z (n:Int)) (.z ((i+1:Nat):Int)),A',?_,k-1,by omega,i+1,by omega,rfl,c2.1,fun j hj=>?_⟩
     ·rw [<-hi1]
      simp [qz,b1,b3,c1,-af]
     ·by_cases hji:j=i
      ·rw [hji]; exact hu
      ·exact hup j (by omega)
    | false=>
     rw [hu] at c1
     refine .inr ⟨.ret [.fp [.z (n:Int),W1,O],.sl 0 0 n,.t,.sl 0 0 n,.z (n:Int),.z (i:Int),.t,.t] A',?_,(fun _ _ h=>by cases h),.inl ⟨A',i,_,_,hi',hu,hup,c2.1,rfl⟩⟩
     simp [qz,b1,c1,-af]
   ·obtain rfl:i=n:=by omega
    refine .inr ⟨_,?_,?_,.inr ⟨A,hup,hA,rfl⟩⟩
    ·simp [qz]
    ·intro _ _ h; cases h)
  300 n (sc (du n p l) (.sl 0 0 n) (.z (n:Int)) (.z 0)) [.q (ak z)] (by omega) ⟨0,by omega,rfl,rfl,fun j hj=>by omega⟩
 have mk:bY 1 8 (.z 0) [] (.z (n:Int)) (.z (n:Int))=some (.sl 0 0 n,[.q (ak z)]):=by
  have:ak z=List.replicate n (.z 0):=by rw [hz]; simp [ak]
  rw [this]; simp [bY]; omega
 have hfz:∀(A:ac) (s:List Int),s.length=n->A[0]?=some (.q (ak s))->frz A 4 (.sl 0 0 n)=slA 1 (ak s)/\bA A 4 (.sl 0 0 n)=true:=fun A s hs h0=>by
  constructor
  ·show frz A (3+1) _=_
   simp only [frz,h0,SL]
   rw [SR (by simp [ak]; omega),vx]
   cases s with
   | nil=>simp at hs; omega
   | cons x r=>rfl
  ·show bA A (3+1) _=_
   simp only [bA,h0,SL]
   rw [SR (by simp [ak]; omega)]
   exact wi _ _ _
 have hf5:∀(A:ac) (s:List Int) (b:Bool),s.length=n->A[0]?=some (.q (ak s))->frz A 5 (.tup [.sl 0 0 n,.bool b])=.tup [slA 1 (ak s),.bool b]/\bA A 5 (.tup [.sl 0 0 n,.bool b])=true:=fun A s b hs h0=>by
  obtain ⟨q1,q2⟩:=hfz A s hs h0
  constructor
  ·show AV.tup [frz A 4 (.sl 0 0 n),frz A 4 (.bool b)]=_
   rw [q1]; rfl
  ·show [AV.sl 0 0 n,.bool b].all (bA A 4)=true
   simp only [List.all_cons,q2]; rfl
 have p1:∀b,dI [.sl 0 0 n,.bool b]=.tup [.sl 0 0 n,.bool b]:=fun _=>rfl
 have hlev:cD (lar p l) n=lev L n z:=by unfold cD; rw [hL,hz]
 rw [hlev,FE]
 unfold M26
 rw [fU _ _ rfl]
 rcases h2 with ⟨A',i,d6,d7,hin,hu,hup,hA',rfl⟩ | ⟨A',hup,hA',rfl⟩
 ·rw [Vz ⟨i,hin,hu⟩]
  have hst:gR L n z=gR L (i+1) z:=by
   have e:∀k,gR L (i+k) z=gR L i z:=fun k=>by
    induction k with
    | zero=>rfl
    | succ k ih=>rw [show i+(k+1)=(i+k)+1 by omega,gR,ih,(ik hu).1]
   have h3:=e (n-i)
   have h4:=e 1
   rw [show i+(n-i)=n by omega] at h3
   rw [h3,h4]
  rw [hst]
  obtain ⟨q1,q2⟩:=hf5 A' _ true (by rw [fH]; exact hzl) hA'
  rw [hW] at h1 ⊢
  simp [uV,mk,FZ h1,q1,q2,-frz,-bY]
 ·rw [dif_neg (by
   rintro ⟨k,hk,h⟩
   rw [hup k hk] at h; cases h)]
  obtain ⟨A2,c1,c2⟩:∃A2,bZ (aq GC []) 300 tT [du n p l,.sl (A'.length+1) 0 n] (A'++[.dead,.q (ak (gR L n z))])=some (.bool (upL L (gR L n z)),A2)/\Gx (A'++[.dead,.q (ak (gR L n z))]) (A'.length+1) (gR L (n+1) z) A2:=by
   have:=C2 (A:=A'++[.dead,.q (ak (gR L n z))]) (id:=A'.length+1) (s:=gR L n z) (by rw [fH]; exact hzl) hp hv hn32 hl200 (hbd n) (by omega) (by rw [SJ (by omega)]; simp)
   rw [<-hL] at this
   exact this
  have hlt:=(Sp.1 hA').1
  have h38:=NB (aq GC []) 0 (A:=A') (a:=.sl 0 0 n) (xs:=gR L n z) (.inr ⟨0,0,false,ak (gR L n z),by rw [az,fH,hzl],hA',by rw [SL,SX]⟩) (by
   intro h
   have:=Vc List.length h
   rw [fH,hzl] at this
   simp at this; omega) (by rw [fH,hzl]; omega)
  rw [fH,hzl] at h38
  have hA2:A2[0]?=some (.q (ak (gR L n z))):=by
   rw [c2.2.2 0 (by omega) (by simp),Sy hlt,hA']
  obtain ⟨q1,q2⟩:=hf5 A2 _ (!upL L (gR L n z)) (by rw [fH]; exact hzl) hA2
  rw [hW] at h1 c1 ⊢
  simp [uV,mk,FZ h1,h38,c1,q1,q2,-frz,-bY]
open Go
abbrev LP:=Int × Bool
def lA (x:LP):AV:=.agg [.z x.1,.bool x.2]
def gI (x:LP) (n:Int):LP:=if x.2=false/\x.1=0 then x else (x.1+n,x.2)
def l9 (x y:LP):LP:=if x.2=false\/(y.2=true/\y.1 > x.1) then y else x
def M51:aU:=fun args=>match args with
 | [.agg [.int .i64 x,.bool b],.int .i64 n]=>if -9223372036854775808<=x+n/\x+n<=9223372036854775807 then some (lA (gI (x,b) n)) else none
 | _=>none
theorem xS:aw prog GC 104 M51:=by
 refine aw.of_ev (E:=aq GC []) (ax aB) rfl (by kernel_rfl) LX 2 ?_
 intro args r h
 unfold M51 at h
 split at h
 ·rename_i x b n
  simp only [Sw,Sx] at h
  obtain ⟨h1,rfl⟩:=h
  refine ⟨0,?_⟩
  have b1:af .add (.z x) (.z n)=some (.z (x+n)):=by
   simp only [af]; rw [SA trivial,eH h1]
  obtain ⟨z,hz⟩:∃z,z=x+n:=⟨_,rfl⟩
  rw [<-hz] at b1
  rw [aO _ _ rfl]
  unfold gI lA
  simp only [<-hz]
  cases b with
  | true=>simp [Nq,b1,-af]
  | false=>
   by_cases hx:x=0
   ·subst hx
    simp [Nq,-af]
   ·simp [Nq,b1,hx,-af]
 ·cases h
def M52:aU:=fun args=>match args with
 | [.agg [.int .i64 x,.bool b],.agg [.int .i64 y,.bool c]]=>some (lA (l9 (x,b) (y,c)))
 | _=>none
theorem AA:aw prog GC 109 M52:=by
 refine aw.of_ev (E:=aq GC []) (ax aB) rfl (by kernel_rfl) Cg 2 ?_
 intro args r h
 unfold M52 at h
 split at h
 ·rename_i x b y c
  injection h with h; subst h
  refine ⟨0,?_⟩
  have b1:af .gtr (.z y) (.z x)=some (.bool (decide (y > x))):=by simp [af]
  rw [aO _ _ rfl]
  unfold l9 lA
  cases b with
  | false=>simp [Ep,-af]
  | true=>
   cases c with
   | false=>simp [Ep,-af]
   | true=>
    by_cases hxy:y > x
    ·rw [Su hxy] at b1
     simp [Ep,b1,hxy,-af]
    ·rw [Ss hxy] at b1
     simp [Ep,b1,hxy,-af]
 ·cases h
open Go
def noL:LP:=(0,false)
def hst (h:List LP) (next:List LP) (a:dT):List LP:=next.set a.1 (l9 (next.getD a.1 noL) (gI (h.getD a.2.1 noL) a.2.2))
def mO (L:List dT) (h:List LP) (n:Nat):List LP:=L.foldl (hst h) (List.replicate n noL)
def hm (L:List dT) (n to:Nat):Nat->List LP
 | 0=>(List.replicate n noL).set to (0,true)
 | j+1=>mO L (hm L n to j) n
def Ac (L:List dT) (n to k:Nat):List AV:=(List.range (k+1)).map fun j=>.fs 2 ((hm L n to j).map lA)
theorem xk (h next:List LP) (a:dT):(hst h next a).length=next.length:=by simp [hst]
theorem iS (h:List LP):∀(L:List dT) (next:List LP),(L.foldl (hst h) next).length=next.length
 | [],_=>rfl
 | a :: L,next=>by rw [Ta,iS h L,xk]
theorem yr (L:List dT) (n to:Nat):∀j,(hm L n to j).length=n
 | 0=>by simp [hm]
 | j+1=>by simp [hm,mO,iS]
def PB (B:Int) (h:List LP):Prop:=∀v,-B<=(h.getD v noL).1/\(h.getD v noL).1<=B
theorem mP {α:Type} (s:List α) (i j:Nat) (x d:α) (hi:i<s.length):(s.set i x).getD j d=if i=j then x else s.getD j d:=by
 rw [Sr,Sr]
 by_cases h:i=j
 ·subst h
  rw [SG hi,SA rfl]; rfl
 ·rw [Sz h,SD h]
theorem H9 {B:Int} {x y:LP} (h1 : -B<=x.1/\x.1<=B) (h2 : -B<=y.1/\y.1<=B) : -B<=(l9 x y).1/\(l9 x y).1<=B:=by
 unfold l9; split
 ·exact h2
 ·exact h1
theorem H4 {B:Int} {x:LP} (h1 : -B<=x.1/\x.1<=B) (h2 : -3000000<=w/\w<=3000000) : -(B+3000000)<=(gI x w).1/\(gI x w).1<=B+3000000:=by
 unfold gI; split
 ·omega
 ·simp only; omega
theorem K7 {B:Int} {h next:List LP} {a:dT} (h1:PB B h) (h2:PB (B+3000000) next) (hw : -3000000<=a.2.2/\a.2.2<=3000000) (hf:a.1<next.length):PB (B+3000000) (hst h next a):=fun v=>by
 unfold hst
 rw [mP _ _ _ _ _ hf]
 split
 ·exact H9 (h2 _) (H4 (h1 _) hw)
 ·exact h2 v
theorem AW {B:Int} (hB:0<=B) (n:Nat):PB B (List.replicate n noL):=fun v=>by
 have:(List.replicate n noL).getD v noL=noL:=by
  rw [Sr]
  by_cases h:v<n <;> simp [h]
 rw [this]; simp [noL]; omega
def wq (n:Nat) (L:List dT):Prop:=∀a∈L,a.1<n/\a.2.1<n /\ -3000000<=a.2.2/\a.2.2<=3000000
theorem ym {n:Nat} {l:List bq} (hn:n<=32) (hp:cA p) (hv:∀x∈l,okA n x):wq n (lar p l):=fun a ha=>by
 obtain ⟨x,hx,rfl⟩:=SU.1 ha
 obtain ⟨q1,q2,q3,q4⟩:=hv x hx
 have hle:=gA (n:=32) (a:=x) ⟨by omega,by omega,q3,q4⟩ hp
 simp only
 omega
theorem yE {B:Int} {h:List LP} (h1:PB B h):∀ {L:List dT} {next:List LP},wq n L->next.length=n->PB (B+3000000) next->PB (B+3000000) (L.foldl (hst h) next)
 | [],_,_,_,h2=>h2
 | a :: L,next,hL,hn,h2=>by
  rw [Ta]
  obtain ⟨q1,q2,q3⟩:=hL a (by simp)
  exact yE h1 (fun b hb=>hL b (by simp [hb])) (by rw [xk,hn]) (K7 h1 h2 q3 (by omega))
theorem IG {L:List dT} (hL:wq n L) (to:Nat):∀j:Nat,PB (3000000*j) (hm L n to j)
 | 0=>fun v=>by
  unfold hm
  by_cases h:to<n
  ·rw [mP _ _ _ _ _ (by simpa using h)]
   split
   ·simp
   ·have:=AW (B:=0) (by omega) n v
    omega
  ·rw [List.set_eq_of_length_le (by simp; omega)]
   have:=AW (B:=0) (by omega) n v
   omega
 | j+1=>by
  have h1:=IG hL to j
  have:=yE h1 hL (next:=List.replicate n noL) (by simp) (AW (by omega) n)
  intro v
  have:=this v
  simp only [hm,mO]
  omega
theorem Bz {h:List LP} (hi:i<h.length):(h.map lA)[i]?=some (.agg [.z (h.getD i noL).1,.bool (h.getD i noL).2]):=by
 simp [hi,lA]
def Rh:MC:=.region [.M 6 11 13,.K 6 0,.E 7 6,.t 6 7 1]
def Sl:MC:=.region [.a 6,.d 0 7,.o 0 1,.b 1 2,.a 6,.d 0 7,.o 0 5,.b 1 6,.e 2 4 7,.K 2 8,.a 5,.d 0 7,.o 1 11,.b 1 12,.e 2 10 13,.K 2 14,.d 5 7,.b 1 16,.B 104 15 17,.B 109 9 18,.e 2 0 3,.A 2 20 19]
theorem Mx:eY=.r [.F 14 13 12] (.seq (.cond (.var 14) .skip (.exit 2)) (.seq (.seq (.block 3 (.seq Rh Sl)) (.kill [1,2,3,7,10,14])) (.region [.w 13 1,.c 13 0]))):=rfl
def BM:List (FuncId × aJ):=[(104,aE 4 M51),(109,aE 4 M52)]
@[simp] theorem OM:aD BM 104=some (aE 4 M51):=rfl
@[simp] theorem OL:aD BM 109=some (aE 4 M52):=rfl
theorem Hi:∀f M,aD BM f=some M->au prog GC f M:=ag (au.of_pure xS 4) (ag (au.of_pure AA 4) aB)
theorem r48a (E:Env) (fuel:Nat) (K:List KC) (A:ac) (X:MC) {l:List bq} (hi:i<l.length) (v0 v4 v5 v6 v8 v9 v12 v14:AV) :
  run E fuel (.code (.seq Rh X) :: K) [v0,.u,.u,.u,v4,v5,v6,.u,v8,v9,.u,slA 6 (wAs p (num l)),v12,.z (i:Int),v14] A =
   run E fuel (.code X :: K) [v0,.u,.u,.u,v4,v5,v6,.p A.length,v8,v9,.u,slA 6 (wAs p (num l)),v12,.z (i:Int),v14] (A++[.row 6 false [wA p (l[i],i)]]):=by
 have x1:=uD p hi A .i64
 obtain ⟨W,hW⟩:∃W,W=slA 6 (wAs p (num l)):=⟨_,rfl⟩
 rw [<-hW] at x1 ⊢
 simp [Rh,x1,wA,-ae]
def M5 (A0:ac) (id:Nat) (A:ac):Prop:=A0.length<=A.length/\∀j,j≠id->j<A0.length->A[j]?=A0[j]?
theorem K4 (h:List LP) (i:Nat) (z:LP):(h.map lA).set i (lA z)=(h.set i z).map lA:=by rw [Va]
theorem HO (fuel:Nat) {A0:ac} {idL idN:Nat} {h nx:List LP} {p:Int} {l:List bq} (hn:h.length=n) (hx:nx.length=n) (hp:cA p) (hv:∀x∈l,okA n x) (hn32:n<=32) (hl200:l.length<=200) {i:Nat} (hi:i<l.length) (hb:PB 1000000000 h) (hLN:idL≠idN) (hid:idN<A0.length) (hidL:idL<A0.length) (hL:A0[idL]?=some (.row 2 false (h.map lA))) (hN:A[idN]?=some (.row 2 false (nx.map lA))) (hK:M5 A0 idN A) (v0 v4 v8 v9:AV) :
  ∃A',run (aq GC BM) fuel [.code eY] (fK v0 v4 (.sl idL 0 n) (.sl idN 0 n) v8 v9 (slA 6 (wAs p (num l))) (.z (l.length:Int)) (.z (i:Int))) A=some (.normal (fK v0 v4 (.sl idL 0 n) (.sl idN 0 n) v8 v9 (slA 6 (wAs p (num l))) (.z (l.length:Int)) (.z ((i+1:Nat):Int))) A') /\
   A'[idN]?=some (.row 2 false ((hst h nx (l[i].f.toNat,l[i].t.toNat,l[i].len p)).map lA))/\M5 A0 idN A':=by
 obtain ⟨g2,g3⟩:=hK
 have hmem:=hv _ (SC hi)
 obtain ⟨f,hf,hfn⟩:=l8 hmem.1
 obtain ⟨t,ht,htn⟩:=l8 hmem.2.1
 have hv32:okA 32 l[i]:=by
  obtain ⟨h1,h2,h3,h4⟩:=hmem
  exact ⟨by omega,by omega,h3,h4⟩
 obtain ⟨k1,k2,_,_⟩:=gA hv32 hp
 obtain ⟨w,hw⟩:∃w,w=l[i].len p:=⟨_,rfl⟩
 obtain ⟨B,hB⟩:∃B,B=A++[.row 6 false [wA p (l[i],i)]]:=⟨_,rfl⟩
 have r1:=fun K X=>r48a (aq GC BM) fuel K A X (p:=p) hi v0 v4 (.sl idL 0 n) (.sl idN 0 n) v8 v9 (.z (l.length:Int)) .t
 rw [<-hB] at r1
 have cN:B[idN]?=some (.row 2 false (nx.map lA)):=by rw [hB,Sy (by omega)]; exact hN
 have cL:B[idL]?=some (.row 2 false (h.map lA)):=by rw [hB,Sy (by omega),g3 idL hLN hidL]; exact hL
 have c8:B[A.length]?=some (.row 6 false [.agg [.z (f:Int),.z (t:Int),.z l[i].w,.z l[i].k,.z (i:Int),.z w]]):=by
  rw [hB,hw]; simp [wA,hf,ht]
 obtain ⟨i8,hi8⟩:∃i8,i8=A.length:=⟨_,rfl⟩
 rw [<-hi8] at r1 c8
 have hBl:A0.length<=B.length:=by rw [hB]; simp; omega
 have hBo:∀j,j≠idN->j<A0.length->B[j]?=A0[j]?:=fun j hj hl=>by rw [hB,Sy (by omega)]; exact g3 j hj hl
 rw [<-hw] at k1 k2
 have e1:l[i].f.toNat=f:=by omega
 have e2:l[i].t.toNat=t:=by omega
 rw [e1,e2,<-hw]
 have ef:=Bz (h:=nx) (i:=f) (by omega)
 have et:=Bz (h:=h) (i:=t) (by omega)
 have bt:=hb t
 unfold hst
 simp only
 obtain ⟨x,hx1⟩:∃x,x=nx.getD f noL:=⟨_,rfl⟩
 obtain ⟨y,hy1⟩:∃y,y=h.getD t noL:=⟨_,rfl⟩
 rw [<-hx1] at ef ⊢
 rw [<-hy1] at et bt ⊢
 have m1:M51 [.agg [.z y.1,.bool y.2],.z w]=some (.agg [.z (gI y w).1,.bool (gI y w).2]):=SA (by omega)
 have m2:M52 [.agg [.z x.1,.bool x.2],.agg [.z (gI y w).1,.bool (gI y w).2]]=some (.agg [.z (l9 x (gI y w)).1,.bool (l9 x (gI y w)).2]):=rfl
 have b1:=be i l.length .i64
 rw [Su hi] at b1
 have b3:=aP i (by omega)
 obtain ⟨i1,hi1⟩:∃i1:Nat,i1=i+1:=⟨_,rfl⟩
 rw [<-hi1] at b3 ⊢
 rw [<-K4]
 obtain ⟨q,hq⟩:∃q,q=gI y w:=⟨_,rfl⟩
 rw [<-hq] at m1 m2 ⊢
 obtain ⟨z,hz⟩:∃z,z=l9 x q:=⟨_,rfl⟩
 rw [<-hz] at m2 ⊢
 obtain ⟨q1,q2⟩:=q
 obtain ⟨z1,z2⟩:=z
 obtain ⟨x1,x2⟩:=x
 obtain ⟨y1,y2⟩:=y
 simp only at m1 m2 ef et
 obtain ⟨W,hW⟩:∃W,W=slA 6 (wAs p (num l)):=⟨_,rfl⟩
 rw [<-hW] at r1 ⊢
 obtain ⟨nxa,hnxa⟩:∃nxa,nxa=nx.map lA:=⟨_,rfl⟩
 obtain ⟨ha,hha⟩:∃ha,ha=h.map lA:=⟨_,rfl⟩
 rw [<-hnxa] at cN ef ⊢
 rw [<-hha] at cL et
 have hfn':f<n:=by omega
 have htn':t<n:=by omega
 refine ⟨B.set idN (.row 2 false (nxa.set f (lA (z1,z2)))),?_,?_,?_,?_⟩
 ·rw [Mx]
  simp [b1,b3,r1,Sl,cN,cL,c8,ef,et,m1,m2,hfn',htn',lA,-af]
 ·exact SG (by omega)
 ·simp; omega
 ·intro j hj hl
  rw [Sz (TX hj)]; exact hBo j hj hl
theorem KL (fuel:Nat) {n idL idN:Nat} {h:List LP} {l:List bq} (hn:h.length=n) (hp:cA p) (hv:∀x∈l,okA n x) (hn32:n<=32) (hl200:l.length<=200) (hf:200<fuel) (hb:PB 1000000000 h) (hLN:idL≠idN) (hL:A[idL]?=some (.row 2 false (h.map lA))) (hN:A[idN]?=some (.row 2 false ((List.replicate n noL).map lA))) (v0 v4 v8 v9:AV) :
  ∃A',bG (evC (aq GC BM) fuel eY) eA fuel (fK v0 v4 (.sl idL 0 n) (.sl idN 0 n) v8 v9 (slA 6 (wAs p (num l))) (.z (l.length:Int)) (.z 0)) A=some (.exit 2 ((fK v0 v4 (.sl idL 0 n) (.sl idN 0 n) v8 v9 (slA 6 (wAs p (num l))) (.z (l.length:Int)) (.z (l.length:Int))).set 14 .f) A') /\
   A'[idN]?=some (.row 2 false ((mO (lar p l) h n).map lA))/\M5 A idN A':=by
 have hidN:=(Sp.1 hN).1
 have hidL:=(Sp.1 hL).1
 have hlen:(lar p l).length=l.length:=by simp [lar]
 obtain ⟨o,h1,A',h2,h3,h4⟩:=iR (E:=aq GC BM) (fuel:=fuel) (a:=eY) (mask:=eA) (fun k σ B=>∃i,i+k=l.length/\σ=fK v0 v4 (.sl idL 0 n) (.sl idN 0 n) v8 v9 (slA 6 (wAs p (num l))) (.z (l.length:Int)) (.z (i:Int))/\B[idN]?=some (.row 2 false ((((lar p l).take i).foldl (hst h) (List.replicate n noL)).map lA))/\M5 A idN B)
  (fun o=>∃A',A'[idN]?=some (.row 2 false ((mO (lar p l) h n).map lA))/\M5 A idN A'/\o=.exit 2 ((fK v0 v4 (.sl idL 0 n) (.sl idN 0 n) v8 v9 (slA 6 (wAs p (num l))) (.z (l.length:Int)) (.z (l.length:Int))).set 14 .f) A')
  (by
   rintro k σ B ⟨i,hik,rfl,hN',hK⟩
   rw [vW]
   by_cases hi':i<l.length
   ·obtain ⟨B',c1,c2,c3⟩:=HO fuel (n:=n) hn (by rw [iS]; simp) hp hv hn32 hl200 hi' hb hLN hidN hidL hL hN' hK v0 v4 v8 v9
    refine .inl ⟨_,_,c1,k-1,by omega,i+1,by omega,rfl,?_,c3⟩
    rw [c2,Tu (by omega),List.foldl_append]
    simp [lar]
   ·obtain rfl:i=l.length:=by omega
    refine .inr ⟨_,?_,?_,B,?_,hK,rfl⟩
    ·simp [eY]
    ·intro _ _ h; cases h
    ·rw [hN',SR (by omega)]; rfl)
  fuel l.length _ A (by omega) ⟨0,by omega,rfl,by simpa using hN,SK _,fun _ _ _=>rfl⟩
 exact ⟨A',by rw [<-h4]; exact h1,h2,h3⟩
def JC (L:List dT) (n to i:Nat) (A:ac):Prop:=∃(gr:Bool) (os:List AV),A[1]?=some (.row 1 gr os)/\os.length=i+1/\∀j,j<=i->∃id,os[j]?=some (.sl id 0 n)/\id≠1/\A[id]?=some (.row 2 false ((hm L n to j).map lA))
theorem Ef (fuel:Nat) {A:ac} {n:Nat} {l:List bq} (h1n:1<=n) (hp:cA p) (hv:∀x∈l,okA n x) (hn32:n<=32) (hl200:l.length<=200) (hf:200<fuel) (hi:i<k) (hk:k<=32) (hI:JC (lar p l) n to i A) :
  ∃A',run (aq GC BM) fuel [.code qt] (pR (du n p l) (.sl 1 0 (i+1)) (.z (k:Int)) (.z (i:Int))) A=some (.normal (pR (du n p l) (.sl 1 0 (i+1+1)) (.z (k:Int)) (.z ((i+1:Nat):Int))) A')/\JC (lar p l) n to (i+1) A':=by
 obtain ⟨gr,os,g1,g2,g3⟩:=hI
 obtain ⟨id,hid,hid1,hrow⟩:=g3 i (SK _)
 have hid2:=(Sp.1 hrow).1
 have h1A:=(Sp.1 g1).1
 obtain ⟨B,hB⟩:∃B,B=A++[.row 2 false ((List.replicate n noL).map lA)]:=⟨_,rfl⟩
 have hBN:B[A.length]?=some (.row 2 false ((List.replicate n noL).map lA)):=by rw [hB]; simp
 have hBo:∀j,j<A.length->B[j]?=A[j]?:=fun j hj=>by rw [hB,Sy hj]
 have hBl:B.length=A.length+1:=by rw [hB]; simp
 have hok:=ym hn32 hp hv
 have hpb:=IG hok to i
 have hpb':PB 1000000000 (hm (lar p l) n to i):=fun v=>by have:=hpb v; omega
 have mk:bY 2 16 (.agg [.z 0,.f]) A (.z (n:Int)) (.z (n:Int))=some (.sl A.length 0 n,B):=by
  rw [hB]; simp [bY,lA,noL]; omega
 obtain ⟨C,c1,c2,c3⟩:=KL fuel (A:=B) (n:=n) (idL:=id) (idN:=A.length) (yr _ n to i) hp hv hn32 hl200 hf hpb' (by omega) (by rw [hBo id hid2]; exact hrow) hBN (du n p l) (.sl 1 0 (i+1)) (.z (k:Int)) (.z (i:Int))
 have hC1:C[1]?=some (.row 1 gr os):=by rw [c3.2 1 (by omega) (by omega),hBo 1 h1A]; exact g1
 obtain ⟨nid,hnid⟩:∃nid,nid=A.length:=⟨_,rfl⟩
 have hC1l:=(Sp.1 hC1).1
 obtain ⟨D,hD⟩:∃D,D=C++[.q [.sl A.length 0 n]]:=⟨_,rfl⟩
 have hDo:∀j,j<C.length->D[j]?=C[j]?:=fun j hj=>by rw [hD,Sy hj]
 have hDl:D.length=C.length+1:=by rw [hD]; simp
 have hDn:D[C.length]?=some (.q [.sl A.length 0 n]):=by rw [hD]; simp
 have ap:aL 1 24 D (.sl 1 0 (i+1)) (.sl C.length 0 1)=some (.sl 1 0 (i+1+1),D.set 1 (.row 1 true (os++[.sl A.length 0 n]))):=by
  simp [aL,a8,hDn,hDo 1 hC1l,hC1,g2]
  omega
 have b0:af .sub (.z ((i+1:Nat):Int)) (.z 1)=some (.z (i:Int)):=by
  simp only [af]; rw [SA trivial,eH (by unfold inI; omega)]; congr 2; omega
 have b1:=be i k .i64
 rw [Su hi] at b1
 have b3:=aP i (by omega)
 have hlen2:aj (slA 6 (wAs p (num l)))=some (.z (l.length:Int)):=by rw [tZ,tD]
 have hne:¬ 1=A.length:=by omega
 refine ⟨D.set 1 (.row 1 true (os++[.sl A.length 0 n])),?_,true,os++[.sl A.length 0 n],?_,?_,?_⟩
 ·obtain ⟨W1,hW⟩:∃W1,W1=slA 6 (wAs p (num l)):=⟨_,rfl⟩
  obtain ⟨O,hO⟩:∃O,du n p l=.fp [.z (n:Int),W1,O]:=⟨_,by rw [hW]; rfl⟩
  rw [<-hW] at c1 hlen2
  rw [hO] at c1 ⊢
  rw [hD] at ap ⊢
  rw [<-hnid] at c1 ap hne mk ⊢
  obtain ⟨i1,hi1⟩:∃i1:Nat,i1=i+1:=⟨_,rfl⟩
  rw [<-hi1] at b0 b3 c1 ap ⊢
  have hii:i<i1:=by omega
  have hls:aj (.sl 1 0 i1)=some (.z (i1:Int)):=rfl
  simp [qt,hls,b0,b1,b3,g1,hid,mk,yu c1,ap,hlen2,hne,hii,hnid.symm,-af,-bY,-aj]
 ·exact SG (by omega)
 ·simp [g2]
 ·intro j hj
  have hcl:=c3.1
  by_cases hji:j=i+1
  ·subst hji
   refine ⟨A.length,by simp [<-g2],by omega,?_⟩
   rw [Sz (by omega),hDo _ (by omega)]; exact c2
  ·obtain ⟨jd,q1,q2,q3⟩:=g3 j (by omega)
   have hjd:=(Sp.1 q3).1
   refine ⟨jd,by rw [Sy (by omega)]; exact q1,q2,?_⟩
   rw [Sz (TX q2),hDo jd (by omega),c3.2 jd (by omega) (by omega),hBo jd hjd]; exact q3
def M48:aU:=fun args=>evF (aq GC BM) 300 Fr 5 args
theorem G3:cm prog GC 101 M48:=cm.of_ev (E:=aq GC BM) (ax Hi) rfl (by kernel_rfl) Ci 5 fun _ _ h=>⟨300,h⟩
theorem Lu (A:ac) (n:Nat) (h:List LP):(h.map lA).map (frz A (n+1))=h.map lA:=by
 rw [Ub]; apply S3; intro x _; cases n <;> rfl
theorem JC.frz {L:List dT} (h:JC L n to i A) (k:Nat):Proofs.YtkcjhljbgjpklaaGreat.frz A (k+3) (.sl 1 0 (i+1))=.fs 1 (Ac L n to i)/\bA A (k+3) (.sl 1 0 (i+1))=true:=by
 obtain ⟨gr,os,g1,g2,g3⟩:=h
 constructor
 ·show Proofs.YtkcjhljbgjpklaaGreat.frz A (k+2+1) _=_
  simp only [Proofs.YtkcjhljbgjpklaaGreat.frz,g1,SL]
  rw [SR (by omega)]
  congr 1
  apply TB (by simp [g2,Ac])
  intro j h1 h2
  obtain ⟨id,q1,q2,q3⟩:=g3 j (by simp [Ac] at h2; omega)
  have e:os[j]'(by simpa using h1)=.sl id 0 n:=by
   rw [Sq (by simpa using h1)] at q1; exact Ud q1
  simp only [Tk,e,Ac,UA]
  show Proofs.YtkcjhljbgjpklaaGreat.frz A (k+1+1) _=_
  simp only [Proofs.YtkcjhljbgjpklaaGreat.frz,q3,SL]
  rw [SR (by simp [yr]),Lu]
 ·show bA A (k+2+1) _=_
  simp only [bA,g1,SL]
  rw [SR (by omega),SV]
  intro x hx
  obtain ⟨j,hj,rfl⟩:=Tb.1 hx
  obtain ⟨id,q1,q2,q3⟩:=g3 j (by omega)
  have e:os[j]=.sl id 0 n:=by
   rw [Sq hj] at q1; exact Ud q1
  rw [e]
  show bA A (k+1+1) _=_
  simp only [bA,q3,SL]
  rw [SR (by simp [yr]),SV]
  intro y hy
  obtain ⟨z,_,rfl⟩:=SU.1 hy
  cases k <;> simp [lA,bA]
theorem yY {l:List bq} (hr:bS n l p) (hto:to<n) (hk:k<=32):M48 [du n p l,.z (to:Int),.z (k:Int)]=some (.fs 1 (Ac (lar p l) n to k)):=by
 obtain ⟨⟨hn,hl200,hv⟩,hp⟩:=hr
 have hn32:n<=32:=by omega
 obtain ⟨z,hz⟩:∃z,z=(List.replicate n noL).map lA:=⟨_,rfl⟩
 have mk:bY 2 16 (.agg [.z 0,.f]) [] (.z (n:Int)) (.z (n:Int))=some (.sl 0 0 n,[.row 2 false z]):=by
  rw [hz]; simp [bY,lA,noL]; omega
 have hz2:z.set to (.agg [.z 0,.t])=(hm (lar p l) n to 0).map lA:=by
  rw [hz]; unfold hm; rw [Va]; rfl
 have hzl:z.length=n:=by rw [hz]; simp
 have hz3:z[to]?=some (.agg [.z 0,.f]):=by
  rw [hz]; simp [hto,lA,noL]
 obtain ⟨o,h1,A',h2,rfl⟩:=iR (E:=aq GC BM) (fuel:=300) (a:=qt) (mask:=ph) (fun m σ A=>∃i,i+m=k/\σ=pR (du n p l) (.sl 1 0 (i+1)) (.z (k:Int)) (.z (i:Int))/\JC (lar p l) n to i A)
  (fun o=>∃A',JC (lar p l) n to k A'/\o=.exit 0 ((pR (du n p l) (.sl 1 0 (k+1)) (.z (k:Int)) (.z (k:Int))).set 10 .f) A')
  (by
   rintro m σ A ⟨i,him,rfl,hI⟩
   rw [Gl]
   by_cases hi':i<k
   ·obtain ⟨A',c1,c2⟩:=Ef 300 (by omega) hp hv hn32 hl200 (by omega) hi' hk hI
    exact .inl ⟨_,_,c1,m-1,by omega,i+1,by omega,rfl,c2⟩
   ·obtain rfl:i=k:=by omega
    refine .inr ⟨_,?_,?_,A,hI,rfl⟩
    ·simp [qt]
    ·intro _ _ h; cases h)
  300 k (pR (du n p l) (.sl 1 0 1) (.z (k:Int)) (.z 0)) [.row 2 false ((hm (lar p l) n to 0).map lA),.q [.sl 0 0 n]] (by omega) ⟨0,by omega,rfl,false,[.sl 0 0 n],rfl,rfl,fun j hj=>by
   obtain rfl:j=0:=by omega
   exact ⟨0,rfl,by omega,rfl⟩⟩
 obtain ⟨q1,q2⟩:=h2.frz 2
 unfold M48
 rw [fU _ _ rfl]
 rw [<-hz2] at h1
 have p1:dI [.sl 1 0 (k+1)]=.sl 1 0 (k+1):=rfl
 obtain ⟨W1,O,hO⟩:∃W1 O,du n p l=.fp [.z (n:Int),W1,O]:=⟨_,_,rfl⟩
 rw [hO] at h1 ⊢
 simp [Fr,mk,hz3,hto,K9 h1,q1,q2,-frz,-bY]
open Go
def lK (h:List LP) (p sum:Int) (x:gW):Bool:=(gI (h.getD x.1.t.toNat noL) (sum+x.1.len p)).2 && decide ((gI (h.getD x.1.t.toNat noL) (sum+x.1.len p)).1 > 0)
def Nv:List (FuncId × aJ):=[(104,aE 4 M51)]
@[simp] theorem OI:aD Nv 104=some (aE 4 M51):=rfl
theorem Hg:∀f M,aD Nv f=some M->au prog GC f M:=ag (au.of_pure xS 4) aB
def M50:aU:=fun args=>evP (aq GC Nv) 0 Ia 1 args
theorem AB:aw prog GC 103 M50:=aw.of_ev (E:=aq GC Nv) (ax Hg) rfl (by kernel_rfl) Ch 1 fun _ _ h=>⟨0,h⟩
def Ab (hs:List (List LP)):AV:=.fs 1 (hs.map fun h=>.fs 2 (h.map lA))
def Lw (hs:List (List LP)) (left sum:Int):AV:=.func (.func 103) [] [.fp [Ab hs],.fp [.z left],.fp [.z sum]]
theorem MS {hs:List (List LP)} {left:Nat} {h:List LP} {x:gW} (hh:hs[left]?=some h) (ht:x.1.t=(t:Int)) (hth:t<h.length) (hpb:PB 1000000000 h) (hs1 : -1000000000<=sum/\sum<=1000000000) (hw : -3000000<=x.1.len p/\x.1.len p<=3000000) :
  M50 [wA p x,.fp [Ab hs],.fp [.z left],.fp [.z sum]]=some (.bool (lK h p sum x)):=by
 unfold lK
 have e1:x.1.t.toNat=t:=by omega
 rw [e1]
 have et:=Bz hth
 have bt:=hpb t
 obtain ⟨y,hy1⟩:∃y,y=h.getD t noL:=⟨_,rfl⟩
 rw [<-hy1] at et bt ⊢
 obtain ⟨w,hw1⟩:∃w,w=x.1.len p:=⟨_,rfl⟩
 rw [<-hw1] at hw ⊢
 have m1:M51 [.agg [.z y.1,.bool y.2],.z (sum+w)]=some (.agg [.z (gI y (sum+w)).1,.bool (gI y (sum+w)).2]):=SA (by omega)
 have b2:af .add (.z sum) (.z w)=some (.z (sum+w)):=by
  simp only [af]; rw [SA trivial,eH (by unfold inI; omega)]
 have hx:wA p x=.agg [.z x.1.f,.z (t:Int),.z x.1.w,.z x.1.k,.z (x.2:Int),.z w]:=by unfold wA; rw [ht,hw1]
 rw [hx]
 have hix:∀A,ae 1 A (Ab hs) (.z (left:Int))=some (.fp [.fs 2 (h.map lA)]):=fun A=>
  (show SlA 1 (hs.map fun h=>.fs 2 (h.map lA)) (Ab hs) from .inr rfl).index1 (A:=A) (by simp [hh]) rfl rfl .i64
 have hix2:∀A,ae 2 A (.fs 2 (h.map lA)) (.z (t:Int))=some (.fp [.z y.1,.bool y.2]):=fun A=>
  (show SlA 2 (h.map lA) (.fs 2 (h.map lA)) from .inr rfl).index (A:=A) (i:=t) et rfl (by omega) .i64
 obtain ⟨HT,hHT⟩:∃HT,Ab hs=.fs 1 HT:=⟨_,rfl⟩
 rw [hHT] at hix ⊢
 obtain ⟨s,hs'⟩:∃s,s=sum+w:=⟨_,rfl⟩
 rw [<-hs'] at m1 b2 ⊢
 obtain ⟨q,hq⟩:∃q,q=gI y s:=⟨_,rfl⟩
 rw [<-hq] at m1 ⊢
 have b3:af .gtr (.z q.1) (.z 0)=some (.bool (decide (q.1 > 0))):=by simp [af]
 obtain ⟨q1,q2⟩:=q
 obtain ⟨y1,y2⟩:=y
 simp only at m1 b3 hix2
 unfold M50
 rw [aO _ _ rfl]
 cases q2
 ·simp [Ia,hix,hix2,b2,m1,-af,-ae]
 ·simp [Ia,hix,hix2,b2,b3,m1,-af,-ae]
def F7:List (FuncId × aJ):=[(103,aE 4 M50)]
@[simp] theorem OJ:aD F7 103=some (aE 4 M50):=rfl
theorem Hh:∀f M,aD F7 f=some M->au prog GC f M:=ag (au.of_pure AB 4) aB
def M49:aU:=fun args=>evP (aq GC F7) 300 Nr 1 args
theorem J5:aw prog GC 102 M49:=aw.of_ev (E:=aq GC F7) (ax Hh) rfl (by kernel_rfl) LY 1 fun _ _ h=>⟨300,h⟩
theorem MT {hs:List (List LP)} {left:Nat} {h:List LP} {p:Int} {xs:List gW} {ch:AV} (hch:SlA 6 (wAs p xs) ch) (hl:xs.length<=200) (hh:hs[left]?=some h) (ht:∀x∈xs,0<=x.1.t/\x.1.t<(h.length:Int)) (hpb:PB 1000000000 h) (hs1 : -1000000000<=sum/\sum<=1000000000) (hw:∀x∈xs,-3000000<=x.1.len p/\x.1.len p<=3000000) :
  M49 [ch,Lw hs left sum]=some (.z (df (lK h p sum) xs)):=by
 have hlen:=hch.len
 have hlen':(wAs p xs).length=xs.length:=by simp [wAs]
 rw [hlen'] at hlen
 obtain ⟨F,hF⟩:∃F,F=Lw hs left sum:=⟨_,rfl⟩
 have round:∀(A:ac) (i:Nat) (hi:i<xs.length),run (aq GC F7) 300 [.code kD] (nU ch F (.z (xs.length:Int)) (.z (i:Int))) A =
   if lK h p sum xs[i]=false then some (.normal (nU ch F (.z (xs.length:Int)) (.z ((i+1:Nat):Int))) A) else some (.ret [ch,F,.z (i:Int),.z (i:Int),.z (xs.length:Int),.z (i:Int),.t,.t] A):=fun A i hi=>by
  have hmem:=SC hi
  obtain ⟨t,ht1,ht2⟩:∃t:Nat,xs[i].1.t=(t:Int)/\t<h.length:=by
   have:=ht _ hmem
   exact ⟨xs[i].1.t.toNat,by omega,by omega⟩
  have x1:ae 6 A ch (.z (i:Int))=some (.fp [.z xs[i].1.f,.z xs[i].1.t,.z xs[i].1.w,.z xs[i].1.k,.z (xs[i].2:Int),.z (xs[i].1.len p)]):=
   hch.index (A:=A) (i:=i) (x:=wA p xs[i]) (by simp [wAs,hi]) rfl (by omega) .i64
  have m:=MS (p:=p) hh ht1 ht2 hpb hs1 (hw _ hmem)
  unfold wA at m
  have b1:=be i xs.length .i64
  rw [Su hi] at b1
  have b3:=aP i (by omega)
  obtain ⟨i1,hi1⟩:∃i1:Nat,i1=i+1:=⟨_,rfl⟩
  rw [<-hi1] at b3 ⊢
  obtain ⟨d,hd⟩:∃d,d=lK h p sum xs[i]:=⟨_,rfl⟩
  rw [<-hd] at m ⊢
  rw [hF]
  obtain ⟨HT,hHT⟩:∃HT,Ab hs=.fs 1 HT:=⟨_,rfl⟩
  have fz:∀B n,frz B n (.fs 1 HT)=.fs 1 HT:=fun B n=>by cases n <;> rfl
  unfold Lw
  rw [hHT] at m ⊢
  cases d with
  | false=>simp [kD,x1,m,b1,b3,-af,-ae,-aj]
  | true=>simp [kD,x1,m,b1,-af,-ae,-aj]
 unfold M49
 rw [aO _ _ rfl,<-hF]
 rcases bU (E:=aq GC F7) (fuel:=300) (a:=kD) (mask:=jS) (fun i=>nU ch F (.z (xs.length:Int)) (.z (i:Int))) (fun _=>[]) xs.length (fun i=>¬ ∀hi:i<xs.length,lK h p sum xs[i]=false)
  (oF:=fun i=>.ret [ch,F,.z (i:Int),.z (i:Int),.z (xs.length:Int),.z (i:Int),.t,.t] []) (oE:=.exit 0 ((nU ch F (.z (xs.length:Int)) (.z (xs.length:Int))).set 6 .f) [])
  (fun _=>rfl) (fun _ _ _ h=>by cases h) (fun _ _ h=>by cases h)
  (fun i hi hp=>by
   rw [round [] i hi]
   exact SA (SI.1 hp hi))
  (fun i hi hp=>by
   rw [round [] i hi]
   exact SD fun h=>hp fun _=>h)
  (by simp [kD]) (show xs.length<300 by omega) with ⟨i,hi,hp,hj,lp⟩ | ⟨hp,lp⟩
 ·have lp:bG (evC (aq GC F7) 300 kD) jS 300 (nU ch F (.z (xs.length:Int)) (.z 0)) []=_:=lp
  have e:df (lK h p sum) xs=(i:Int):=bC hi (by
   cases h':lK h p sum xs[i] with
   | true=>rfl
   | false=>exact absurd (fun _=>h') hp) (fun j hj'=>SI.1 (hj j hj') (by omega))
  rw [e]
  simp [Nr,hlen,FR lp,-af,-aj]
 ·have lp:bG (evC (aq GC F7) 300 kD) jS 300 (nU ch F (.z (xs.length:Int)) (.z 0)) []=_:=lp
  have e:df (lK h p sum) xs = -1:=bH fun i hi=>SI.1 (hp i hi) hi
  rw [e]
  simp [Nr,hlen,FR lp,-af,-aj]
open Go
def rC (p:Int) (l:List bq) (hs:Nat->List LP):Nat->Int->List gW->List Int->Option (List Int)
 | 0,_,_,out=>some out
 | r+1,sum,ch,out=>match ch.find? (lK (hs r) p sum) with
  | none=>none
  | some b=>rC p l hs r (sum+b.1.len p) (oO l b.1.t.toNat) (out++[(b.2:Int)])
def lC (A:ac) (s:AV) (xs:List Int):Prop:=(s=.nilS/\xs=[])\/∃id gr,s=.sl id 0 xs.length/\xs≠[]/\5<=id/\A[id]?=some (.row 1 gr (ak xs))
theorem lC.keep {s:AV} (h:lC A s xs) (hAB:∀id,id∈bI s->B[id]?=A[id]?):lC B s xs:=by
 rcases h with h | ⟨id,gr,rfl,h1,h2,h3⟩
 ·exact .inl h
 ·exact .inr ⟨id,gr,rfl,h1,h2,by rw [hAB id (by simp [bI]),h3]⟩
theorem lC.low {s:AV} (h:lC A s xs):∀id,id∈bI s->5<=id/\id<A.length:=by
 rcases h with ⟨rfl,_⟩ | ⟨id,gr,rfl,h1,h2,h3⟩
 ·intro id h; simp [bI] at h
 ·intro j hj
  simp only [bI,SY] at hj
  subst hj
  exact ⟨h2,(Sp.1 h3).1⟩
theorem lC.form2 {s:AV} (h:lC A s xs):s=.nilS\/∃i k,s=.sl i 0 k:=by
 rcases h with ⟨rfl,_⟩ | ⟨id,gr,rfl,_⟩
 ·exact .inl rfl
 ·exact .inr ⟨_,_,rfl⟩
theorem lC.append {s:AV} (h:lC A s xs) (z:Int) (hA:5<=A.length) (hl:xs.length<=1000) :
  ∃s' k A',aL 1 8 A s (.fs 1 [.z z])=some (.sl s' 0 k,A')/\lC A' (.sl s' 0 k) (xs++[z])/\A.length<=A'.length/\(∀j,j<A.length->j ∉ bI s->A'[j]?=A[j]?)/\(s'∈bI s\/s'=A.length):=by
 rcases h with ⟨rfl,rfl⟩ | ⟨id,gr,rfl,h1,h2,h3⟩
 ·refine ⟨A.length,1,A++[.q [.z z]],by simp [aL,a8],.inr ⟨A.length,false,rfl,by simp,hA,by simp [ak]⟩,by simp,fun j hj _=>by rw [Sy hj],.inr rfl⟩
 ·have hid:=(Sp.1 h3).1
  refine ⟨id,(xs++[z]).length,A.set id (.row 1 true (ak (xs++[z]))),?_,.inr ⟨id,true,rfl,by simp,h2,by simp [hid]⟩,by simp,fun j hj hn=>?_,.inl (by simp [bI])⟩
  ·simp only [aL,a8,h3]
   simp [h1,ak]
   omega
  ·rw [Sz (fun e=>hn (by simp [bI,e]))]
theorem lC.out {s:AV} (h:lC A s xs) (k:Nat):frz A (k+1) s=slA 1 (ak xs)/\bA A (k+1) s=true:=by
 rcases h with ⟨rfl,rfl⟩ | ⟨id,gr,rfl,h1,h2,h3⟩
 ·exact ⟨rfl,rfl⟩
 ·constructor
  ·simp only [frz,h3,SL]
   rw [SR (by simp [ak]),vx]
   cases xs with
   | nil=>exact absurd rfl h1
   | cons x r=>rfl
  ·simp only [bA,h3,SL]
   rw [SR (by simp [ak])]
   exact wi _ _ _
def Chs (A:ac) (v:AV) (xs:List AV):Prop:=SlA 6 xs v\/(v=.sl 3 0 xs.length/\A[3]?=some (.row 6 false xs))
def Ad:List (FuncId × aJ):=[(102,aE 4 M49)]
@[simp] theorem OU:aD Ad 102=some (aE 4 M49):=rfl
theorem Hl:∀f M,aD Ad f=some M->au prog GC f M:=ag (au.of_pure J5 4) aB
def Rs:MC:=.region [.v 1 11,.ak 14 0 0]
def Rr:MC:=.region [.a 10,.qn (.makeFunc (.func 103) [] [.var 5,.var 11,.var 9]),.B 102 0 1,.c 12 2]
def Rq:MC:=.region [.a 12,.aj 15 0 0]
def Sn:MC:=.region [.u 6,.g 7]
def Rp:MC:=.region [.a 10,.a 12,.e 6 0 1,.K 6 2,.E 13 6,.t 6 13 3]
def NM:MC:=.regionD [] [.a 8,.d 4 13,.b 1 1,.cu 2,.ao 1 0 3,.v 1 9,.d 5 13,.b 1 6,.m 5 7,.a 0,.S 9,.o 2 10,.b 1 11,.d 0 13,.o 1 13,.b 1 14,.e 1 12 15,.b 1 16,.c 8 4,.t 1 9 8,.c 10 17] [(4,5),(4,6),(4,7),(4,11),(4,12),(4,13),(4,14),(4,15),(4,16),(4,17),(11,19),(12,19),(13,19),(14,19),(15,19),(16,19),(17,19)]
def Ro:MC:=.region [.ck 16 1 11]
def Rn:MC:=.region [.bf 11 1,.c1 1 11 16]
def Rm:MC:=.region [.v 1 11,.r 0 1,.t 1 11 1]
theorem Do:gc=.seq (.seq Rs (.cond (.var 14) .skip (.exit 0))) (.seq (.seq (.block 1 (.seq Rr (.seq (.seq Rq (.cond (.var 15) (.seq Sn .ret) .skip)) (.seq Rp NM)))) (.kill [1,2,3,4,6,7,12,13,14,15,16])) (.seq (.seq Ro Rn) Rm)):=rfl
abbrev s43 (W v6 v7 v8 v10 v12 v13 v14 v15 v16:AV) (lid:Nat):List AV:=[W,.u,.u,.u,.u,.p 1,v6,v7,v8,.p 2,v10,.p lid,v12,v13,v14,v15,v16]
theorem RR (E:Env) (fuel:Nat) (K:List KC) {left:Int} (h:A[lid]?=some (.q [.z left])) :
  run E fuel (.code Rs :: K) (s43 W v6 v7 v8 v10 v12 v13 v14 v15 v16 lid) A=run E fuel K (s43 W v6 v7 v8 v10 v12 v13 (.bool (decide (0<=left))) v15 v16 lid) A:=by
 have b:=je left
 simp [Rs,h,b,-af]
theorem r43b (fuel:Nat) (K:List KC) (X Y:MC) {ch F:AV} (h1:frz A 4 v10=ch) (h2:frz A 4 (.func (.func 103) [] [.p 1,.p lid,.p 2])=F) (h3:M49 [ch,F]=some (.z z)) :
  run (aq GC Ad) fuel (.code Rr :: .code (.seq (.seq Rq X) Y) :: K) (s43 W v6 v7 v8 v10 v12 v13 v14 v15 v16 lid) A=run (aq GC Ad) fuel (.code X :: .code Y :: K) (s43 W v6 v7 v8 v10 (.z z) v13 v14 (.bool (decide (z<0))) v16 lid) A:=by
 have b:af .lss (.z z) (.z 0)=some (.bool (decide (z<0))):=by simp [af]
 simp [Rr,Rq,h1,h2,h3,b,-af,-frz]
theorem r43e (E:Env) (fuel:Nat) (K:List KC) {q:AV} (h:ae 6 A v10 (.z (i:Int))=some q) (hq:ab true 6 A q=some (.agg [.z c1,.z c2,.z c3,.z c4,.z c5,.z c6])) :
  run E fuel (.code Rp :: K) (s43 W v6 v7 v8 v10 (.z (i:Int)) v13 v14 v15 v16 lid) A=run E fuel K (s43 W v6 v7 v8 v10 (.z (i:Int)) (.p A.length) v14 v15 v16 lid) (A++[.row 6 false [.agg [.z c1,.z c2,.z c3,.z c4,.z c5,.z c6]]]):=by
 simp [Rp,h,hq,-ae,-ab]
theorem r43f (E:Env) (fuel:Nat) (K:List KC) {A:ac} {W1 so x:AV} {bid jo ko:Nat} {os:List AV} {n:Int} (hb:A[bid]?=some (.row 6 false [.agg [.z c1,.z (t:Int),.z c3,.z c4,.z c5,.z c6]]))
  (ap:aL 1 8 A so (.fs 1 [.z c5])=some (.sl jo 0 ko,B)) (hb':B[bid]?=some (.row 6 false [.agg [.z c1,.z (t:Int),.z c3,.z c4,.z c5,.z c6]])) (h2:B[2]?=some (.q [.z sum])) (hs:so=.nilS\/∃i k,so=.sl i 0 k) (hid:∀j∈bI so,j≠2/\j≠bid) (hA2:A.length≠2) (hAb:A.length≠bid) (hb2:bid≠2)
  (hsum : -1000000000<=sum/\sum<=1000000000) (hc6 : -3000000<=c6/\c6<=3000000) (ho:os[t]?=some x) (hx:x.solid=true) (hx2:cellsOf x=[x]) :
  run E fuel (.code NM :: K) (s43 (.fp [.z n,W1,.fs 1 os]) v6 v7 so v10 v12 (.p bid) v14 v15 v16 lid) A=run E fuel K (s43 (.fp [.z n,W1,.fs 1 os]) v6 v7 (.sl jo 0 ko) x v12 (.p bid) v14 v15 v16 lid) (B.set 2 (.q [.z (sum+c6)])):=by
 have b2:af .add (.z sum) (.z c6)=some (.z (sum+c6)):=by
  simp only [af]; rw [SA trivial,eH (by unfold inI; omega)]
 have hix:∀C,ae 1 C (.fs 1 os) (.z (t:Int))=some (.fp [x]):=fun C=>(show SlA 1 os (.fs 1 os) from .inr rfl).index1 (A:=C) ho hx hx2 .i64
 have hA2':¬ 2=A.length:=fun e=>hA2 e.symm
 have hAb':¬ bid=A.length:=fun e=>hAb e.symm
 have hb2':¬ 2=bid:=fun e=>hb2 e.symm
 obtain ⟨s,hs'⟩:∃s,s=sum+c6:=⟨_,rfl⟩
 rw [<-hs'] at b2 ⊢
 rcases hs with rfl | ⟨i,k,rfl⟩
 ·simp [NM,hb,ap,hb',h2,b2,hix,hA2,hAb,hb2,-af,-ae]
 ·obtain ⟨q1,q2⟩:=hid i (by simp [bI])
  have q1':¬ 2=i:=fun e=>q1 e.symm
  have q2':¬ bid=i:=fun e=>q2 e.symm
  simp [NM,hb,ap,hb',h2,b2,hix,hA2,hAb,hb2,q1,q2,-af,-ae]
theorem r43i (E:Env) (fuel:Nat) (K:List KC) {left:Int} (h:A[lid]?=some (.q [.z left])) (hl:0<=left/\left<=100) :
  run E fuel (.code (.seq (.seq Ro Rn) Rm) :: K) (s43 W v6 v7 v8 v10 v12 v13 v14 v15 v16 lid) A=run E fuel K (s43 W v6 v7 v8 v10 v12 v13 v14 v15 (.z left) A.length) (A++[.q [.z (left-1)]]):=by
 have b2:af .sub (.z left) (.z 1)=some (.z (left-1)):=by
  simp only [af]; rw [SA trivial,eH (by unfold inI; omega)]
 obtain ⟨s,hs'⟩:∃s,s=left-1:=⟨_,rfl⟩
 rw [<-hs'] at b2 ⊢
 simp [Ro,Rn,Rm,h,b2,-af]
theorem EK {α:Type} (q:α->Bool) (l:List α):(l.find? q=none/\df q l = -1)\/∃(i:Nat) (hi:i<l.length),l.find? q=some l[i]/\df q l=(i:Int)/\q l[i]=true:=by
 unfold df
 cases h:l.findIdx? q with
 | none=>
  left
  refine ⟨?_,rfl⟩
  rw [List.findIdx?_eq_none_iff] at h
  rw [List.find?_eq_none]
  intro x hx; rw [h x hx]; simp
 | some i=>
  right
  obtain ⟨hi,h1,h2⟩:=List.findIdx?_eq_some_iff_getElem.1 h
  refine ⟨i,hi,?_,rfl,h1⟩
  rw [List.find?_eq_some_iff_getElem]
  exact ⟨h1,i,hi,rfl,fun j hj=>by simpa using h2 j hj⟩
theorem qJo {v:AV} {xs:List gW} (h:Chs A v (wAs p xs)):SlA 6 (wAs p xs) (frz A 4 v):=by
 rcases h with h | ⟨rfl,h3⟩
 ·rw [h.frz]; exact h
 ·right
  show frz A (3+1) _=_
  simp only [frz,h3,SL]
  rw [SR (SK _)]
  congr 1
  unfold wAs
  rw [Ub]
  apply S3
  intro x _
  exact F9 A p x 2
theorem Md {A:ac} {v:AV} {xs:List gW} (h:Chs A v (wAs p xs)) (hi:i<xs.length):∃q,ae 6 A v (.z (i:Int))=some q/\ab true 6 A q=some (wA p xs[i]):=by
 have hx:(wAs p xs)[i]?=some (wA p xs[i]):=by simp [wAs,hi]
 rcases h with h | ⟨rfl,h3⟩
 ·exact ⟨_,h.index (A:=A) hx rfl (by omega) .i64,by simp [ab,wA,cellsOf]⟩
 ·refine ⟨.ptr 3 i 0,?_,?_⟩
  ·simp [ae,h3]
   simp [wAs]; omega
  ·simp only [ab,h3,hx]; rfl
structure So (p:Int) (hs:List (List LP)) (r:Nat) (sum:Int) (ch:List gW) (out:List Int) (so v10:AV) (lid:Nat) (A:ac):Prop where
 a1:A[1]?=some (.q [Ab hs])
 a2:A[2]?=some (.q [.z sum])
 al:A[lid]?=some (.q [.z ((r:Int)-1)])
 lid4:4<=lid
 so_:lC A so out
 lso:lid ∉ bI so
 chs:Chs A v10 (wAs p ch)
theorem DS {l:List bq} (ht:t<n):((List.range n).map fun v=>slA 6 (wAs p (oO l v)))[t]?=some (slA 6 (wAs p (oO l t))):=by simp [ht]
theorem Ak {n:Nat} {p:Int} {l:List bq} (hp:cA p) (hv:∀x∈l,okA n x) (hn32:n<=32) (hl200:l.length<=200) (hsL:List (List LP)) (hs:Nat->List LP) (hk:k<=32) (hhs:∀r,r<k->hsL[r]?=some (hs r)/\(hs r).length=n/\PB 1000000000 (hs r)) :
  ∀(r:Nat) (sum:Int) (ch:List gW) (out:List Int) (so v10:AV) (lid:Nat) (A:ac) (m:Nat),r<m->r<=k -> -(3000000*((k:Int)-r))<=sum/\sum<=3000000*((k:Int)-r)->out.length<=k-r->(∀x∈ch,x∈num l)->ch.length<=200->So p hsL r sum ch out so v10 lid A ->
   ∃o,bG (evC (aq GC Ad) 300 gc) eV m (gN (du n p l) (.p 1) so (.p 2) v10 (.p lid)) A=some o /\
    match rC p l hs r sum ch out with
    | none=>∃so' v10' lid' v12 v13 v14 v15 v16 A',o=.ret (s43 (du n p l) .nilS .f so' v10' v12 v13 v14 v15 v16 lid') A'
    | some res=>∃so' v10' lid' A',o=.exit 0 ((gN (du n p l) (.p 1) so' (.p 2) v10' (.p lid')).set 14 .f) A'/\lC A' so' res:=by
 intro r
 induction r with
 | zero=>
  intro sum ch out so v10 lid A m hm _ _ _ _ _ hI
  obtain ⟨m,rfl⟩:∃j,m=j+1:=⟨m-1,by omega⟩
  have r1:=fun K=>RR (aq GC Ad) 300 K (W:=du n p l) (v6:=.u) (v7:=.u) (v8:=so) (v10:=v10) (v12:=.u) (v13:=.u) (v14:=.u) (v15:=.u) (v16:=.u) hI.al
  simp only [Int.natCast_zero,Int.zero_sub,s43] at r1
  refine ⟨.exit 0 ((gN (du n p l) (.p 1) so (.p 2) v10 (.p lid)).set 14 .f) A,?_,so,v10,lid,A,rfl,hI.so_⟩
  rw [aG,q7,Do]
  obtain ⟨W,hW⟩:∃W,W=du n p l:=⟨_,rfl⟩
  rw [<-hW] at r1 ⊢
  simp [r1]
 | succ r ih=>
  intro sum ch out so v10 lid A m hm hrk hsum hout hch hcl hI
  obtain ⟨m,rfl⟩:∃j,m=j+1:=⟨m-1,by omega⟩
  obtain ⟨hh1,hh2,hh3⟩:=hhs r (by omega)
  have hleft:(((r+1:Nat):Int)-1)=(r:Int):=by omega
  have hal:=hI.al
  rw [hleft] at hal
  have r1:=fun K=>RR (aq GC Ad) 300 K (W:=du n p l) (v6:=.u) (v7:=.u) (v8:=so) (v10:=v10) (v12:=.u) (v13:=.u) (v14:=.u) (v15:=.u) (v16:=.u) hal
  rw [Su (show (0:Int)<=(r:Int) by omega)] at r1
  have h49:=MT (p:=p) (sum:=sum) (qJo hI.chs) hcl hh1 (fun x hx=>by
   obtain ⟨hi,e⟩:=nq (hch x hx)
   have:=hv _ (SC hi)
   rw [e] at this
   have h2:=this.2.1
   omega) hh3 (by omega) (fun x hx=>by
   obtain ⟨hi,e⟩:=nq (hch x hx)
   have:=hv _ (SC hi)
   rw [e] at this
   obtain ⟨q1,q2,q3,q4⟩:=this
   have:=gA (n:=32) (a:=x.1) ⟨by omega,by omega,q3,q4⟩ hp
   omega)
  have hfn:frz A 4 (.func (.func 103) [] [.p 1,.p lid,.p 2])=Lw hsL r sum:=by
   have a1:=hI.a1
   have a2:=hI.a2
   unfold Lw Ab at *
   simp [frz,a1,a2,hal]
  have r2:=fun K X Y=>r43b 300 K X Y (W:=du n p l) (v6:=.u) (v7:=.u) (v8:=so) (v10:=v10) (v12:=.u) (v13:=.u) (v14:=.t) (v15:=.u) (v16:=.u) rfl hfn h49
  rw [aG,q7,Do]
  unfold rC
  rcases EK (lK (hs r) p sum) ch with ⟨q1,q2⟩ | ⟨i,hi,q1,q2,q3⟩
  ·rw [q1]
   rw [q2] at r2
   rw [Su (show (-1:Int)<0 by omega)] at r2
   refine ⟨.ret (s43 (du n p l) .nilS .f so v10 (.z (-1)) .u .t .t .u lid) A,?_,so,v10,lid,_,_,_,_,_,A,rfl⟩
   obtain ⟨W,hW⟩:∃W,W=du n p l:=⟨_,rfl⟩
   rw [<-hW] at r1 r2 ⊢
   simp only [s43] at r1 r2
   simp [r1,r2,Sn]
  ·rw [q1]
   rw [q2] at r2
   rw [Ss (show ¬ (i:Int)<0 by omega)] at r2
   obtain ⟨b,hb⟩:∃b,b=ch[i]:=⟨_,rfl⟩
   have hbm:=hch _ (SC hi)
   rw [<-hb] at hbm
   obtain ⟨hbi,hbe⟩:=nq hbm
   have hok:=hv _ (SC hbi)
   rw [hbe] at hok
   obtain ⟨o1,o2,o3,o4⟩:=hok
   obtain ⟨t,ht1,ht2⟩:=l8 o2
   have hw:=gA (n:=32) (a:=b.1) ⟨by omega,by omega,o3,o4⟩ hp
   obtain ⟨q,e1,e2⟩:=Md hI.chs hi
   rw [<-hb] at e2
   have hwb:wA p b=.agg [.z b.1.f,.z (t:Int),.z b.1.w,.z b.1.k,.z (b.2:Int),.z (b.1.len p)]:=by unfold wA; rw [ht1]
   rw [hwb] at e2
   have r3:=fun K=>r43e (aq GC Ad) 300 K (W:=du n p l) (v6:=.u) (v7:=.u) (v8:=so) (v13:=.u) (v14:=.t) (v15:=.f) (v16:=.u) (lid:=lid) e1 e2
   rw [<-hwb] at r3
   obtain ⟨B,hB⟩:∃B,B=A++[.row 6 false [wA p b]]:=⟨_,rfl⟩
   rw [<-hB] at r3
   have hBo:∀j,j<A.length->B[j]?=A[j]?:=fun j hj=>by rw [hB,Sy hj]
   have hBl:B.length=A.length+1:=by rw [hB]; simp
   have hBb:B[A.length]?=some (.row 6 false [wA p b]):=by rw [hB]; simp
   have hlA:=(Sp.1 hal).1
   have hl4:=hI.lid4
   have hso:=hI.so_.low
   have soB:lC B so out:=hI.so_.keep fun j hj=>hBo j (hso j hj).2
   obtain ⟨jo,ko,C,ap,s2,c1,c2,c3⟩:=soB.append (b.2:Int) (by omega) (by omega)
   have hCo:∀j,j<A.length->j ∉ bI so->C[j]?=A[j]?:=fun j hj hn=>by rw [c2 j (by omega) hn,hBo j hj]
   have h2so:2 ∉ bI so:=fun h=>by have:=hso 2 h; omega
   have hC2:=(hCo 2 (by omega) h2so).trans hI.a2
   have hbso:A.length ∉ bI so:=fun h=>by have:=hso _ h; omega
   have hCb:=(c2 A.length (by omega) hbso).trans hBb
   rw [hwb] at hBb hCb
   have r4:=fun K=>r43f (aq GC Ad) 300 K (A:=B) (B:=C) (W1:=slA 6 (wAs p (num l))) (v6:=.u) (v7:=.u) (so:=so) (v10:=v10) (v12:=.z (i:Int)) (v14:=.t) (v15:=.f) (v16:=.u) (x:=slA 6 (wAs p (oO l t))) (lid:=lid) (bid:=A.length) (n:=(n:Int)) hBb ap hCb hC2 soB.form2 (fun j hj=>⟨by have:=(hso j hj).1; omega,by have:=(hso j hj).2; omega⟩) (by omega) (by omega) (by omega) (by omega) (by omega) (DS (p:=p) (l:=l) (show t<n by omega)) (AP _ _) (xA _ _)
   obtain ⟨D,hD⟩:∃D,D=C.set 2 (.q [.z (sum+b.1.len p)]):=⟨_,rfl⟩
   have hDo:∀j,j≠2->D[j]?=C[j]?:=fun j hj=>by rw [hD,Sz (TX hj)]
   have hDl:D.length=C.length:=by rw [hD]; simp
   rw [<-hD] at r4
   have hDlid:D[lid]?=some (.q [.z (r:Int)]):=by rw [hDo lid (by omega),hCo lid hlA hI.lso]; exact hal
   have r5:=fun K=>r43i (aq GC Ad) 300 K (A:=D) (W:=du n p l) (v6:=.u) (v7:=.u) (v8:=.sl jo 0 ko) (v10:=slA 6 (wAs p (oO l t))) (v12:=.u) (v13:=.u) (v14:=.u) (v15:=.u) (v16:=.u) hDlid (by omega)
   obtain ⟨F,hF⟩:∃F,F=D++[.q [.z ((r:Int)-1)]]:=⟨_,rfl⟩
   rw [<-hF] at r5
   have hFo:∀j,j<D.length->F[j]?=D[j]?:=fun j hj=>by rw [hF,Sy hj]
   have htt:b.1.t.toNat=t:=by omega
   have hs2:=s2.low
   have hIH:=ih (sum+b.1.len p) (oO l t) (out++[(b.2:Int)]) (.sl jo 0 ko) (slA 6 (wAs p (oO l t))) D.length F m (by omega) (by omega) (by omega) (by simp; omega) (fun x hx=>(Ut.1 hx).1) (TK (ye l t) hl200) {
    a1:=by
     rw [hFo 1 (by omega),hDo 1 (by omega),hCo 1 (by omega) (fun h=>by have:=hso 1 h; omega)]; exact hI.a1
    a2:=by rw [hFo 2 (by omega),hD]; exact SG (by omega)
    al:=by rw [hF]; simp
    lid4:=by omega
    so_:=s2.keep fun j hj=>by
     have:=hs2 j hj
     rw [hFo j (by omega),hDo j (by omega)]
    lso:=fun h=>by have:=hs2 _ h; omega
    chs:=.inl (aZ _ _)}
   obtain ⟨o,k1,k2⟩:=hIH
   simp only [<-hb,htt]
   refine ⟨o,?_,k2⟩
   obtain ⟨O,hO⟩:∃O,O=(List.range n).map fun v=>slA 6 (wAs p (oO l v)):=⟨_,rfl⟩
   obtain ⟨W1,hW1⟩:∃W1,W1=slA 6 (wAs p (num l)):=⟨_,rfl⟩
   have hW:du n p l=.fp [.z (n:Int),W1,.fs 1 O]:=by rw [hO,hW1]; rfl
   rw [<-hO,<-hW1] at r4
   rw [hW] at r1 r2 r3 r5 k1 ⊢
   obtain ⟨Z,hZ⟩:∃Z,Z=slA 6 (wAs p (oO l t)):=⟨_,rfl⟩
   rw [<-hZ] at r4 r5 k1
   simp only [s43] at r1 r2 r3 r4 r5
   simp [r1,r2,r3,r4,r5]
   rw [<-Do,sN,q7]; exact k1
def M43:aU:=fun args=>evF (aq GC Ad) 300 DG 5 args
theorem G4:cm prog GC 87 M43:=cm.of_ev (E:=aq GC Ad) (ax Hl) rfl (by kernel_rfl) Cl 5 fun _ _ h=>⟨300,h⟩
def FL (L:List dT) (n to k:Nat):List (List LP):=(List.range (k+1)).map fun j=>hm L n to j
theorem IF (L:List dT) (n to k:Nat):.fs 1 (Ac L n to k)=Ab (FL L n to k):=by
 unfold Ac Ab FL; rw [Ub]; rfl
theorem ED (L:List dT) (n to:Nat) {r:Nat} (h:r<=k):(FL L n to k)[r]?=some (hm L n to r):=by
 unfold FL; rw [TQ,T8 (by omega)]; rfl
def Am (r:Option (List Int)):AV:=match r with
 | none=>.tup [.nilS,.f]
 | some xs=>.tup [slA 1 (ak xs),.t]
theorem y8 {l:List bq} (hr:bS n l p) (hk1:1<=k) (hk:k<=32) {a:gW} (ha:a∈num l) :
  M43 [du n p l,wA p a,.fs 1 (Ac (lar p l) n to k),.z (k:Int)]=some (Am (rC p l (hm (lar p l) n to) k 0 [a] [])):=by
 obtain ⟨⟨hn,hl200,hv⟩,hp⟩:=hr
 have hn32:n<=32:=by omega
 have hok:=ym hn32 hp hv
 rw [IF]
 have b0:af .sub (.z (k:Int)) (.z 1)=some (.z ((k:Int)-1)):=by
  simp only [af]; rw [SA trivial,eH (by unfold inI; omega)]
 have hI:So p (FL (lar p l) n to k) k 0 [a] [] .nilS (.sl 3 0 1) 4 [.row 6 false [wA p a],.q [Ab (FL (lar p l) n to k)],.q [.z 0],.row 6 false [wA p a],.q [.z ((k:Int)-1)]]:=
  {a1:=rfl,a2:=rfl,al:=rfl,lid4:=by omega,so_:=.inl ⟨rfl,rfl⟩,lso:=by simp [bI],chs:=.inr ⟨rfl,rfl⟩}
 obtain ⟨o,h1,h2⟩:=Ak hp hv hn32 hl200 (FL (lar p l) n to k) (hm (lar p l) n to) hk (fun r hr=>⟨ED _ _ _ (by omega),yr _ _ _ _,fun v=>by
  have:=IG hok to r v
  omega⟩) k 0 [a] [] .nilS (.sl 3 0 1) 4 _ 300 (by omega) (SK _) (by omega) (by simp) (fun x hx=>by
  have:x=a:=by simpa using hx
  rw [this]; exact ha) (by simp) hI
 unfold M43
 rw [fU _ _ rfl]
 obtain ⟨W,hW⟩:∃W,W=du n p l:=⟨_,rfl⟩
 obtain ⟨HT,hHT⟩:∃HT,Ab (FL (lar p l) n to k)=.fs 1 HT:=⟨_,rfl⟩
 rw [hHT] at h1 ⊢
 rw [<-hW] at h1 h2 ⊢
 unfold wA at h1 ⊢
 obtain ⟨k1,hk1'⟩:∃k1,k1=(k:Int)-1:=⟨_,rfl⟩
 rw [<-hk1'] at b0 h1
 cases hw:rC p l (hm (lar p l) n to) k 0 [a] [] with
 | none=>
  rw [hw] at h2
  obtain ⟨so',v10',lid',v12,v13,v14,v15,v16,A',rfl⟩:=h2
  simp [DG,b0,vp h1,Am,dI,bA,frz,-af]
 | some xs=>
  rw [hw] at h2
  obtain ⟨so',v10',lid',A',rfl,hs⟩:=h2
  obtain ⟨q1,q2⟩:=hs.out 3
  have z1:frz A' 5 (.tup [so',.t])=.tup [slA 1 (ak xs),.t]:=by
   show AV.tup [frz A' 4 so',frz A' 4 .t]=_
   rw [q1]; rfl
  have z2:bA A' 5 (.tup [so',.t])=true:=by
   show [so',.t].all (bA A' 4)=true
   simp only [List.all_cons,q2]; rfl
  have p1:dI [so',.t]=.tup [so',.t]:=rfl
  simp [DG,b0,vp h1,Am,z1,z2,-af,-frz]
open Go
def sQ (p:Int) (l:List bq) (n k:Nat) (f:Int):AV:=.fs 1 (Ac (lar p l) n f.toNat k)
def nm (l:List bq):List Int:=l.foldl (fun s a=>if a.f∈s then s else s++[a.f]) []
theorem zu (l:List bq) (i:Nat) (hi:i<l.length):nm (l.take (i+1))=if l[i].f∈nm (l.take i) then nm (l.take i) else nm (l.take i)++[l[i].f]:=by
 unfold nm
 rw [Tu hi,List.foldl_append]
 rfl
def ww (G:Int->AV) (s:List Int):List (AV × AV):=s.map fun w=>(.z w,G w)
theorem yI (G:Int->AV) (w:Int):∀(s:List Int) (i:Nat),w∈s->∃q,iU (.z w) (ww G s) i=some (some (q,G w))
 | [],_,h=>by cases h
 | x :: s,i,h=>by
  by_cases hx:x=w
  ·subst hx
   exact ⟨i,by simp [ww,iU,oQ]⟩
  ·have hw:w∈s:=by
    rcases Tj.1 h with e | e
    ·exact absurd e.symm hx
    ·exact e
   obtain ⟨q,h1⟩:=yI G w s (i+1) hw
   refine ⟨q,?_⟩
   simp only [ww,Tw,iU,oQ] at h1 ⊢
   simp only [TS,Uh.2 (TX hx)]
   exact h1
theorem qJ (G:Int->AV) (w:Int):∀(s:List Int) (i:Nat),w ∉ s->iU (.z w) (ww G s) i=some none
 | [],_,_=>rfl
 | x :: s,i,h=>by
  have hx:¬ w=x:=fun e=>h (by simp [e])
  have:=qJ G w s (i+1) (fun e=>h (by simp [e]))
  simp only [ww,Tw,iU,oQ] at this ⊢
  simp only [TS,Uh.2 hx]
  exact this
theorem yl {M:Nat} (hB:B[M]?=some (.map (ww G s))) (h:w∈s) (ok:Bool):cX ok .nilS B (.map M) (.z w)=some (if ok then .tup [G w,.t] else G w):=by
 obtain ⟨q,h1⟩:=yI G w s 0 h
 simp only [cX,hB,h1]
theorem Br {M:Nat} (hB:B[M]?=some (.map (ww G s))) (h:w ∉ s) (ok:Bool):cX ok .nilS B (.map M) (.z w)=some (if ok then .tup [.nilS,.f] else .nilS):=by
 simp only [cX,hB,qJ G w s 0 h]
theorem DT {M:Nat} (hB:B[M]?=some (.map (ww G s))) (h:w ∉ s):bV B (.map M) (.z w) (G w)=some (B.set M (.map (ww G (s++[w])))):=by
 simp only [bV,hB,qJ G w s 0 h]
 simp [ww]
def TT (p:Int) (l:List bq) (i:Nat):ac:=((num l).take i).flatMap fun x=>[.row 6 false [wA p x],.row 6 false [wA p x]]
theorem Jc (p:Int) (l:List bq) (i:Nat) (hi:i<l.length):TT p l (i+1)=TT p l i++[.row 6 false [wA p (l[i],i)],.row 6 false [wA p (l[i],i)]]:=by
 unfold TT
 have h:=iL l i hi
 obtain ⟨h1,h2⟩:=Sp.1 h
 rw [Tu h1,Uu,h2]
 rfl
theorem bO.consF {G:Nat->Option (List AV)} {fs:List (FuncId × aJ)} {h0:bj} {f:FuncId} {pu:List FuncId} {M:aU} (h:aD fs f=some (cU 4 M)) (hr:bO (dU G fs h0) pu):bO (dU G fs h0) (f :: pu):=by
 intro k hk hh args A r A' he
 rcases Tj.1 hk with rfl | hk
 ·simp only [dU,lz,h,cU,El,T3,S5] at he ⊢
  rw [SE] at he
  obtain ⟨r',hM,he⟩:=he
  simp only [SH] at he
  obtain ⟨rfl,rfl⟩:=he
  refine ⟨rfl,fun hn B=>?_⟩
  have hm:args.map (frz B 4)=args.map (frz A 4):=S3 fun x hx=>uR 4 x (SV.1 hn x hx)
  rw [hm,hM]; rfl
 ·exact hr k hk hh args A r A' he
def qE:List (FuncId × aJ):=[(101,cU 4 M48)]
@[simp] theorem OO:aD qE 101=some (cU 4 M48):=rfl
theorem wE:∀f M,aD qE f=some M->au prog GC f M:=ag (au.of_pureF G3 4) aB
def H47:aJ:=fun hd=>bZ (dU GC qE hd) 300 zG
theorem se:au prog GC 100 H47:=cw wE (by kernel_rfl) vN (bO.consF (M:=M48) rfl bO.nil)
def H42:aJ:=fun hd=>bZ (dU GC [] hd) 0 Bi
theorem sf:au prog GC 86 H42:=cw aB (by kernel_rfl) vO
theorem ev42 (h:bj) (w:List AV) (k:Int) (A:ac):H42 h [.fp w,.z k] A=some (.func (.func 100) [] [.p A.length,.p (A.length+1)],A++[.q [.fp w],.q [.z k]]):=by
 unfold H42
 rw [bo _ _ rfl]
 simp [Bi]
def Rj:MC:=.region [.M 6 6 8,.K 6 0,.E 4 6,.t 6 4 1]
def MB:MC:=.region [.a 3,.d 0 4,.o 0 1,.b 1 2,.qn (.lookup 1 true .nilS (.tmp 0) (.tmp 3)),.i 4,.j 5 0,.j 5 1,.i 6,.c 5 7]
def MA:MC:=.region [.a 5,.N 10 0]
def Ri:MC:=.region [.a 3,.d 0 4,.o 0 1,.b 1 2,.v 1 1,.d 0 4,.o 0 5,.b 1 6,.v 1 2,.L 101 4 7 8,.b5 0 3 9]
def Mz:MC:=.region [.a 0,.k 6 4,.a 3,.d 0 4,.o 0 3,.b 1 4,.qn (.lookup 1 false .nilS (.tmp 2) (.tmp 5)),.cn 0 1 6,.N 11 7]
def My:MC:=.region [.w 8 1,.c 8 0]
theorem yX:en=.r [.F 9 8 7] (.seq (.cond (.var 9) .skip (.exit 0)) (.seq (.seq (.block 1 (.seq Rj (.seq (.seq MB (.seq MA (.cond (.var 10) Ri .skip))) (.seq Mz (.cond (.var 11) .ret .skip))))) (.kill [4,5,9,10,11])) My)):=rfl
def A47 (p:Int) (l:List bq) (n k:Nat) (X:ac) (i:Nat):ac:=X ++ .map (ww (sQ p l n k) (nm (l.take i))) :: TT p l i
def P47 (p:Int) (l:List bq) (n k:Nat) (X:ac) (i:Nat) (a:bq):ac:=X ++ .map (ww (sQ p l n k) (nm (l.take (i+1)))) :: (TT p l i++[.row 6 false [wA p (a,i)]])
theorem r47a (E:Env) (fuel:Nat) (K:List KC) (A:ac) {l:List bq} (hi:i<l.length) (v0 v1 v2 v3 v4 v5 v7 v9 v10 v11:AV) :
  run E fuel (.code Rj :: K) [v0,v1,v2,v3,v4,v5,slA 6 (wAs p (num l)),v7,.z (i:Int),v9,v10,v11] A =
   run E fuel K [v0,v1,v2,v3,.p A.length,v5,slA 6 (wAs p (num l)),v7,.z (i:Int),v9,v10,v11] (A++[.row 6 false [wA p (l[i],i)]]):=by
 have x1:=uD p hi A .i64
 obtain ⟨W,hW⟩:∃W,W=slA 6 (wAs p (num l)):=⟨_,rfl⟩
 rw [<-hW] at x1 ⊢
 simp [Rj,x1,wA,-ae]
theorem wR (h:bj) (L:Nat) {wp kp:Nat} {p:Int} {l:List bq} (hr:bS n l p) (hk:k<=32) (hw:X[wp]?=some (.q [du n p l])) (hkp:X[kp]?=some (.q [.z (k:Int)])) (hi:i<l.length) {b:Bool} {A':ac}
  (hy:h (.func (.yield L) [] []) [wA p (l[i],i),sQ p l n k l[i].f] (P47 p l n k X i l[i])=some (.bool b,A')) :
  ∃d4 d5 d9 d10 d11,run (dU GC qE h) 300 [.code en] (fB (.func (.yield L) [] []) (.p wp) (.p kp) (.map X.length) (slA 6 (wAs p (num l))) (.z (l.length:Int)) (.z (i:Int))) (A47 p l n k X i) =
   if b=true then some (.normal (fB (.func (.yield L) [] []) (.p wp) (.p kp) (.map X.length) (slA 6 (wAs p (num l))) (.z (l.length:Int)) (.z ((i+1:Nat):Int))) A')
   else some (.ret [.func (.yield L) [] [],.p wp,.p kp,.map X.length,d4,d5,slA 6 (wAs p (num l)),.z (l.length:Int),.z (i:Int),d9,d10,d11] A'):=by
 have hmem:=hr.1.2.2 _ (SC hi)
 obtain ⟨f,hf,hfn⟩:=l8 hmem.1
 have hl200:=hr.1.2.1
 have hn32:=hr.1.1
 obtain ⟨B,hB⟩:∃B,B=A47 p l n k X i++[.row 6 false [wA p (l[i],i)]]:=⟨_,rfl⟩
 have hBX:∀j,j<X.length->B[j]?=X[j]?:=fun j hj=>by rw [hB,A47,SO,Sy hj]
 have hwl:=(Sp.1 hw).1
 have hkl:=(Sp.1 hkp).1
 have hBw:=(hBX wp hwl).trans hw
 have hBk:=(hBX kp hkl).trans hkp
 have hBM:B[X.length]?=some (.map (ww (sQ p l n k) (nm (l.take i)))):=by
  rw [hB,A47,SO,SJ (SK _)]; simp
 obtain ⟨M,hM⟩:∃M,M=X.length:=⟨_,rfl⟩
 obtain ⟨i8,hi8⟩:∃i8,i8=(A47 p l n k X i).length:=⟨_,rfl⟩
 have hlow:M<i8:=by rw [hi8,hM]; simp [A47]
 have hB8:B[i8]?=some (.row 6 false [wA p (l[i],i)]):=by rw [hB,hi8]; simp
 have r1:=fun K=>r47a (dU GC qE h) 300 K (A47 p l n k X i) (p:=p) hi (.func (.yield L) [] []) (.p wp) (.p kp) (.map X.length) .u .u (.z (l.length:Int)) .t .u .u
 rw [<-hB,<-hi8,<-hM] at r1
 rw [<-hM] at hBM ⊢
 have hst:=zu l i hi
 rw [hf] at hst hy
 obtain ⟨G,hG⟩:∃G,G=sQ p l n k:=⟨_,rfl⟩
 have m48:M48 [du n p l,.z (f:Int),.z (k:Int)]=some (G (f:Int)):=by
  rw [yY hr (by omega) hk,hG]; unfold sQ; rw [SM]
 have hGf:∃T,G (f:Int)=.fs 1 T:=⟨Ac (lar p l) n f k,by rw [hG]; unfold sQ; rw [SM]⟩
 have b1:=be i l.length .i64
 rw [Su hi] at b1
 have b3:=aP i (by omega)
 obtain ⟨i1,hi1⟩:∃i1:Nat,i1=i+1:=⟨_,rfl⟩
 rw [<-hi1] at b3 ⊢
 rw [<-hG] at hBM hy
 obtain ⟨T,hT⟩:=hGf
 have hnw:wA p (l[i],i)=.agg [.z (f:Int),.z l[i].t,.z l[i].w,.z l[i].k,.z (i:Int),.z (l[i].len p)]:=by unfold wA; rw [hf]
 rw [hnw] at hB8 hy
 obtain ⟨A1,hA1⟩:∃A1,A1=A47 p l n k X i:=⟨_,rfl⟩
 rw [<-hA1] at r1 ⊢
 obtain ⟨W1,O,hW,hW1⟩:∃W1 O,du n p l=.fp [.z (n:Int),W1,O]/\W1=slA 6 (wAs p (num l)):=⟨_,_,rfl,rfl⟩
 have hWfz:∀B n,frz B n W1=W1:=fun B n=>by rw [hW1]; exact xo B n 6 _
 rw [<-hW1] at r1 ⊢
 by_cases hs:(f:Int)∈nm (l.take i)
 ·rw [SA hs] at hst
  have hP:P47 p l n k X i l[i]=B:=by
   rw [hB,P47,A47,hst]; simp
  rw [hP] at hy
  have lk:=fun ok=>yl hBM hs ok
  have lk1:=lk true
  have lk2:=lk false
  simp only [TS,SZ,Uc] at lk1 lk2
  cases b with
  | true=>
   refine ⟨.u,.u,.u,.u,.u,?_⟩
   rw [yX]
   simp [b1,b3,r1,MB,MA,Mz,My,hB8,lk1,lk2,hy,-af,-cX]
  | false=>
   refine ⟨.p i8,.t,.t,.f,.t,?_⟩
   rw [yX]
   simp [b1,r1,MB,MA,Mz,My,hB8,lk1,lk2,hy,-af,-cX]
 ·rw [SD hs] at hst
  have up:=DT hBM hs
  obtain ⟨C,hC⟩:∃C,C=B.set M (.map (ww G (nm (l.take i)++[(f:Int)]))):=⟨_,rfl⟩
  have hP:P47 p l n k X i l[i]=C:=by
   rw [hC,hB,P47,A47,hst,hM,SO,SQ _ _ (SK _),<-hG]; simp
  rw [hP] at hy
  rw [<-hC] at up
  have hCM:C[M]?=some (.map (ww G (nm (l.take i)++[(f:Int)]))):=by rw [hC]; exact SG (Sp.1 hBM).1
  have hC8:=(show C[i8]?=B[i8]? by rw [hC,Sz (by omega)]).trans hB8
  have lk1:=Br hBM hs true
  have lk2:=yl hCM (show (f:Int)∈nm (l.take i)++[(f:Int)] by simp) false
  simp only [TS,SZ,Uc] at lk1 lk2
  rw [hW] at hBw m48
  rw [hT] at up lk2 m48 hy
  have hfz1:∀B,frz B 4 (.fp [.z (n:Int),W1,O])=.fp [.z (n:Int),W1,O]:=fun _=>rfl
  cases b with
  | true=>
   refine ⟨.u,.u,.u,.u,.u,?_⟩
   rw [yX]
   simp [b1,b3,r1,MB,MA,Ri,Mz,My,hB8,hC8,hBw,hBk,lk1,lk2,m48,up,hy,-af,-cX,-bV]
  | false=>
   refine ⟨.p i8,.f,.t,.t,.t,?_⟩
   rw [yX]
   simp [b1,r1,MB,MA,Ri,Mz,My,hB8,hC8,hBw,hBk,lk1,lk2,m48,up,hy,-af,-cX,-bV]
theorem zi (p:Int) (l:List bq) (n k:Nat) (X:ac):A47 p l n k X 0=X++[.map []]:=by
 simp [A47,TT,nm,ww]
theorem ev47 (h:bj) (L:Nat) {wp kp:Nat} {l:List bq} (hr:bS n l p) (hk:k<=32) (hw:X[wp]?=some (.q [du n p l])) (hkp:X[kp]?=some (.q [.z (k:Int)])) (m:Nat) (hm:m<=l.length)
  (hno:∀i (hi:i<l.length),i<m->h (.func (.yield L) [] []) [wA p (l[i],i),sQ p l n k l[i].f] (P47 p l n k X i l[i])=some (.t,A47 p l n k X (i+1)))
  (Z:ac) (hyes:∀hi:m<l.length,h (.func (.yield L) [] []) [wA p (l[m],m),sQ p l n k l[m].f] (P47 p l n k X m l[m])=some (.f,Z)) :
  H47 h [.func (.yield L) [] [],.p wp,.p kp] X=some (.tup [],if m<l.length then Z else A47 p l n k X l.length):=by
 have hl200:=hr.1.2.1
 have hwl:=(Sp.1 hw).1
 have hw':(X++[Ent.map []])[wp]?=some (.q [du n p l]):=by rw [Sy hwl]; exact hw
 have hlen2:aj (slA 6 (wAs p (num l)))=some (.z (l.length:Int)):=by rw [tZ,tD]
 unfold H47
 rw [bo _ _ rfl]
 obtain ⟨W1,O,hW,hW1⟩:∃W1 O,du n p l=.fp [.z (n:Int),W1,O]/\W1=slA 6 (wAs p (num l)):=⟨_,_,rfl,rfl⟩
 by_cases hml:m<l.length
 ·rw [SA hml]
  obtain ⟨d4,d5,d9,d10,d11,hlast⟩:=wR h L hr hk hw hkp hml (hyes hml)
  rw [SD (by simp)] at hlast
  have lp:=g9 (E:=dU GC qE h) (fuel:=300) (a:=en) (mask:=dJ) (fun i=>fB (.func (.yield L) [] []) (.p wp) (.p kp) (.map X.length) (slA 6 (wAs p (num l))) (.z (l.length:Int)) (.z (i:Int))) (fun i=>A47 p l n k X i) m
   (fun _=>s7) (fun _ _ h=>by cases h) (fun i hi=>by
    obtain ⟨_,_,_,_,_,hl⟩:=wR h L hr hk hw hkp (show i<l.length by omega) (hno i (by omega) hi)
    rw [SA rfl] at hl
    exact hl) hlast (show m<300 by omega)
  have lp:bG (evC (dU GC qE h) 300 en) dJ 300 (fB (.func (.yield L) [] []) (.p wp) (.p kp) (.map X.length) (slA 6 (wAs p (num l))) (.z (l.length:Int)) (.z 0)) (A47 p l n k X 0)=_:=lp
  rw [zi] at lp
  rw [hW] at hw'
  rw [<-hW1] at lp hlen2
  simp [zG,hw',hlen2,vo lp,dI,-aj]
 ·rw [SD hml]
  have hml':m=l.length:=by omega
  have lp:=g9 (E:=dU GC qE h) (fuel:=300) (a:=en) (mask:=dJ) (fun i=>fB (.func (.yield L) [] []) (.p wp) (.p kp) (.map X.length) (slA 6 (wAs p (num l))) (.z (l.length:Int)) (.z (i:Int))) (fun i=>A47 p l n k X i) l.length
   (o:=.exit 0 ((fB (.func (.yield L) [] []) (.p wp) (.p kp) (.map X.length) (slA 6 (wAs p (num l))) (.z (l.length:Int)) (.z (l.length:Int))).set 9 .f) (A47 p l n k X l.length))
   (fun _=>s7) (fun _ _ h=>by cases h) (fun i hi=>by
    obtain ⟨_,_,_,_,_,hl⟩:=wR h L hr hk hw hkp hi (hno i hi (by omega))
    rw [SA rfl] at hl
    exact hl) (by simp [en]) (show l.length<300 by omega)
  have lp:bG (evC (dU GC qE h) 300 en) dJ 300 (fB (.func (.yield L) [] []) (.p wp) (.p kp) (.map X.length) (slA 6 (wAs p (num l))) (.z (l.length:Int)) (.z 0)) (A47 p l n k X 0)=_:=lp
  rw [zi] at lp
  rw [hW] at hw'
  rw [<-hW1] at lp hlen2
  simp [zG,hw',hlen2,vo lp,dI,-aj]
open Go
def wk (p:Int) (l:List bq) (n k:Nat) (x:gW):Option (List Int):=rC p l (hm (lar p l) n x.1.f.toNat) k 0 [x] []
def gD (p:Int) (l:List bq) (n k:Nat):Option (List Int):=(num l).findSome? (wk p l n k)
def uh (p:Int) (l:List bq) (n:Nat):Option (List Int):=(List.range n).findSome? fun j=>gD p l n (j+1)
def ig:List (FuncId × aJ):=[(86,H42),(87,cU 4 M43),(100,H47)]
@[simp] theorem Pu:aD ig 86=some H42:=rfl
@[simp] theorem Pt:aD ig 87=some (cU 4 M43):=rfl
@[simp] theorem Ps:aD ig 100=some H47:=rfl
theorem nl:∀f M,aD ig f=some M->au prog GC f M:=ag sf (ag (au.of_pureF G4 4) (ag se aB))
theorem C7 (h0:bj) {Q:ac} {wb rb vid:Nat} {l:List bq} (hr:bS n l p) (hk1:1<=k) (hk:k<=32) (hw:Q[wb]?=some (.q [du n p l])) (hkp:Q[kb]?=some (.q [.z (k:Int)])) (hi:i<l.length) (hv:Q[vid]?=some (.row 6 false [wA p (l[i],i)]))
  (hn:wk p l n k (l[i],i)=none) (v0 v6 v7 v8 v9 v10 v11 v12 v13:AV) :
  ∃ σ,run (dU GC ig h0) 300 [.code kH] [v0,.p wb,.p rb,.p kb,.p vid,sQ p l n k l[i].f,v6,v7,v8,v9,v10,v11,v12,v13] Q=some (.normal σ Q):=by
 have m:=y8 hr hk1 hk (a:=(l[i],i)) (show (l[i],i)∈num l from TF (iL l i hi)) (to:=l[i].f.toNat)
 unfold wk at hn
 rw [hn] at m
 have hH:∃T,sQ p l n k l[i].f=.fs 1 T/\T=Ac (lar p l) n l[i].f.toNat k:=⟨_,rfl,rfl⟩
 obtain ⟨T,hT,hT2⟩:=hH
 rw [<-hT2] at m
 rw [hT]
 obtain ⟨W1,O,hW⟩:∃W1 O,du n p l=.fp [.z (n:Int),W1,O]:=⟨_,_,rfl⟩
 rw [hW] at hw m
 unfold wA at hv m
 simp only [Am] at m hv
 simp [kH,hw,hkp,hv,m]
theorem zZ (h0:bj) {Q:ac} {wb rb vid:Nat} {e2:AV} {l:List bq} (hr:bS n l p) (hk1:1<=k) (hk:k<=32) (hw:Q[wb]?=some (.q [du n p l])) (hkp:Q[kb]?=some (.q [.z (k:Int)])) (hrb:Q[rb]?=some (.q [e2])) (hi:i<l.length) (hv:Q[vid]?=some (.row 6 false [wA p (l[i],i)]))
  {res:List Int} (hn:wk p l n k (l[i],i)=some res) (v0 v6 v7 v8 v9 v10 v11 v12 v13:AV) :
  ∃ σ,run (dU GC ig h0) 300 [.code kH] [v0,.p wb,.p rb,.p kb,.p vid,sQ p l n k l[i].f,v6,v7,v8,v9,v10,v11,v12,v13] Q=some (.ret σ (Q.set rb (.q [slA 1 (ak res)]))):=by
 have m:=y8 hr hk1 hk (a:=(l[i],i)) (show (l[i],i)∈num l from TF (iL l i hi)) (to:=l[i].f.toNat)
 unfold wk at hn
 rw [hn] at m
 have hH:∃T,sQ p l n k l[i].f=.fs 1 T/\T=Ac (lar p l) n l[i].f.toNat k:=⟨_,rfl,rfl⟩
 obtain ⟨T,hT,hT2⟩:=hH
 rw [<-hT2] at m
 rw [hT]
 obtain ⟨W1,O,hW⟩:∃W1 O,du n p l=.fp [.z (n:Int),W1,O]:=⟨_,_,rfl⟩
 rw [hW] at hw m
 unfold wA at hv m
 obtain ⟨R,hR⟩:∃R,R=slA 1 (ak res):=⟨_,rfl⟩
 have hR2:R=.nilS\/∃T,R=.fs 1 T:=by
  rw [hR]; cases ak res with
  | nil=>exact .inl rfl
  | cons x r=>exact .inr ⟨_,rfl⟩
 simp only [Am,<-hR] at m hv
 rw [<-hR]
 rcases hR2 with rfl | ⟨T2,rfl⟩
 ·simp [kH,hw,hkp,hv,hrb,m]
 ·simp [kH,hw,hkp,hv,hrb,m]
theorem Jj (p:Int) (l:List bq) (n k:Nat) (X:ac) (hi:i<l.length):P47 p l n k X i l[i]++[.row 6 false [wA p (l[i],i)]]=A47 p l n k X (i+1):=by
 unfold P47 A47
 rw [Jc p l i hi]
 simp
theorem rA (p:Int) (l:List bq) (n k:Nat) (i:Nat) (hj:j<X.length):(A47 p l n k X i)[j]?=X[j]?:=by
 unfold A47; rw [Sy hj]
theorem rz (p:Int) (l:List bq) (n k:Nat) (i:Nat) (hj:j<X.length) (e:Ent):(A47 p l n k X i).set j e=A47 p l n k (X.set j e) i:=by
 unfold A47; rw [Un _ _ hj]
theorem tM {e:Ent} (h:A[n]?=some e) (x:Ent):(A.set n x).set n e=A:=by
 rw [UV]
 apply UH
 intro i
 by_cases hi:n=i
 ·subst hi; rw [SG (Sp.1 h).1,h]
 ·rw [Sz hi]
section
variable {h0:bj} {X:ac} {r:Loop} {L n k wb rb kb:Nat} {e2:AV} {p:Int} {l:List bq}
theorem Aj (hr:bS n l p) (hk1:1<=k) (hk:k<=32) (hw:X[wb]?=some (.q [du n p l])) (hkp:X[kb]?=some (.q [.z (k:Int)])) (hrb:X[rb]?=some (.q [e2])) (hi:i<l.length) (v0 v4 v5 v6 v7 v8 v9 v10 v11 v12 v13:AV) :
  gv X.length L r [v0,.p wb,.p rb,.p kb,v4,v5,v6,v7,v8,v9,v10,v11,v12,v13] [10,11] (evC (dU GC ig h0) 300 fN) (evC (dU GC ig h0) 300 kH) h0 (.func (.yield L) [] []) [wA p (l[i],i),sQ p l n k l[i].f] (P47 p l n k (X++[Ent.loop r 0]) i l[i]) =
   match wk p l n k (l[i],i) with
   | none=>some (.t,A47 p l n k (X++[Ent.loop r 0]) (i+1))
   | some res=>some (.f,A47 p l n k ((X++[Ent.loop r 1]).set rb (.q [slA 1 (ak res)])) (i+1)):=by
 have hwl:=(Sp.1 hw).1
 have hkl:=(Sp.1 hkp).1
 have hrl:=(Sp.1 hrb).1
 obtain ⟨P,hP⟩:∃P,P=P47 p l n k (X++[Ent.loop r 0]) i l[i]:=⟨_,rfl⟩
 have hQ:=Jj p l n k (X++[Ent.loop r 0]) hi
 rw [<-hP] at hQ ⊢
 have hPn:P[X.length]?=some (.loop r 0):=by rw [hP,P47,Sy (by simp)]; simp
 obtain ⟨Q,hQ'⟩:∃Q,Q=P++[.row 6 false [wA p (l[i],i)]]:=⟨_,rfl⟩
 have hPl:X.length<P.length:=(Sp.1 hPn).1
 have hQn:Q[X.length]?=some (.loop r 0):=by rw [hQ',Sy hPl]; exact hPn
 have hQo:∀j,j<X.length->(Q.set X.length .dead)[j]?=X[j]?:=fun j hj=>by
  rw [Sz (by omega),hQ',hQ,rA _ _ _ _ _ (by simp; omega),Sy hj]
 have hQv:(Q.set X.length .dead)[P.length]?=some (.row 6 false [wA p (l[i],i)]):=by
  rw [Sz (by omega),hQ']; simp
 have hasg:∀v0 v1 v2 v3 v4 v5 v6 v7 v8 v9 v12 v13,run (dU GC ig h0) 300 [.code fN] [v0,v1,v2,v3,v4,v5,v6,v7,v8,v9,wA p (l[i],i),sQ p l n k l[i].f,v12,v13] P=some (.normal [v0,v1,v2,v3,.p P.length,sQ p l n k l[i].f,v6,v7,v8,v9,wA p (l[i],i),sQ p l n k l[i].f,v12,v13] Q):=by
  intros
  rw [hQ']
  obtain ⟨H,hH⟩:∃H,H=sQ p l n k l[i].f:=⟨_,rfl⟩
  rw [<-hH]
  unfold wA
  simp [fN]
 cases hwk:wk p l n k (l[i],i) with
 | none=>
  obtain ⟨σ,hb⟩:=C7 h0 (Q:=Q.set X.length .dead) hr hk1 hk ((hQo wb hwl).trans hw) ((hQo kb hkl).trans hkp) (rb:=rb) hi hQv hwk v0 v6 v7 v8 v9 (wA p (l[i],i)) (sQ p l n k l[i].f) v12 v13
  unfold gv
  simp [hPn,jp,qU,hasg,hb,hQn,tM hQn]
  rw [hQ',hQ]
 | some res=>
  obtain ⟨σ,hb⟩:=zZ h0 (Q:=Q.set X.length .dead) hr hk1 hk ((hQo wb hwl).trans hw) ((hQo kb hkl).trans hkp) ((hQo rb hrl).trans hrb) hi hQv hwk v0 v6 v7 v8 v9 (wA p (l[i],i)) (sQ p l n k l[i].f) v12 v13
  unfold gv
  simp [hPn,jp,qU,hasg,hb,hQn]
  rw [hQ',hQ,rz _ _ _ _ _ (by simp),rz _ _ _ _ _ (by simp; omega),rz _ _ _ _ _ (by simp)]
  congr 1
  rw [Uz _ _ (by omega)]
  congr 1
  simp
end
section
variable {X:ac} {n k wb rb kb wp kp:Nat} {e2:AV} {p:Int} {l:List bq}
theorem HZ (hr:bS n l p) (hk1:1<=k) (hk:k<=32) (hw:X[wb]?=some (.q [du n p l])) (hkp:X[kb]?=some (.q [.z (k:Int)])) (hrb:X[rb]?=some (.q [e2])) (hw2:X[wp]?=some (.q [du n p l])) (hk2:X[kp]?=some (.q [.z (k:Int)])) (m:Nat) (hm:m<=l.length)
  (hno:∀i (hi:i<l.length),i<m->wk p l n k (l[i],i)=none) (res:List Int) (hyes:∀hi:m<l.length,wk p l n k (l[m],m)=some res) (v0 v4 v5 v6 v7 v8 v10 v11 v12 v13:AV) (K:List KC) :
  run (aq GC ig) 300 (.code (.rangeFunc (.var 9) [10,11] fN kH) :: K) [v0,.p wb,.p rb,.p kb,v4,v5,v6,v7,v8,.func (.func 100) [] [.p wp,.p kp],v10,v11,v12,v13] X =
   after (aq GC ig) 300 K (if m<l.length then .ret [v0,.p wb,.p rb,.p kb,v4,v5,v6,v7,v8,.func (.func 100) [] [.p wp,.p kp],v10,v11,v12,v13] (A47 p l n k ((X++[Ent.dead]).set rb (.q [slA 1 (ak res)])) (m+1))
    else .normal [v0,.p wb,.p rb,.p kb,v4,v5,v6,v7,v8,.func (.func 100) [] [.p wp,.p kp],v10,v11,v12,v13] (A47 p l n k (X++[Ent.dead]) l.length)):=by
 refine lT _ _ _ _ _ fun L r=>?_
 have hrl:=(Sp.1 hrb).1
 have old:∀ {q:Nat} {e:Ent},X[q]?=some e->(X++[Ent.loop r 0])[q]?=some e:=fun {q} {e} h=>by rw [Sy (Sp.1 h).1]; exact h
 have hc:=ev47 (gv X.length L r [v0,.p wb,.p rb,.p kb,v4,v5,v6,v7,v8,.func (.func 100) [] [.p wp,.p kp],v10,v11,v12,v13] [10,11] (evC (dU GC ig fun _ _ _=>none) 300 fN) (evC (dU GC ig fun _ _ _=>none) 300 kH) fun _ _ _=>none) L (X:=X++[Ent.loop r 0]) hr hk (old hw2) (old hk2) m hm
  (fun i hi him=>by rw [Aj hr hk1 hk hw hkp hrb hi,hno i hi him]) (A47 p l n k ((X++[Ent.loop r 1]).set rb (.q [slA 1 (ak res)])) (m+1)) (fun hi=>by rw [Aj hr hk1 hk hw hkp hrb hi,hyes hi])
 have hcall:lz ig (gv X.length L r [v0,.p wb,.p rb,.p kb,v4,v5,v6,v7,v8,.func (.func 100) [] [.p wp,.p kp],v10,v11,v12,v13] [10,11] (evC (dU GC ig fun _ _ _=>none) 300 fN) (evC (dU GC ig fun _ _ _=>none) 300 kH) fun _ _ _=>none)
   (.func (.func 100) [] [.p wp,.p kp]) [.func (.yield L) [] []] (X++[Ent.loop r 0])=_:=hc
 show (match lz ig _ (.func (.func 100) [] [.p wp,.p kp]) [.func (.yield L) [] []] (X++[Ent.loop r 0]) with
  | some (_,A')=>nj X.length _ A'
  | none=>none)=_
 erw [hcall]
 by_cases hml:m<l.length
 ·simp only [SA hml]
  have e1:(A47 p l n k ((X++[Ent.loop r 1]).set rb (.q [slA 1 (ak res)])) (m+1))[X.length]?=some (.loop r 1):=by
   rw [rA _ _ _ _ _ (by simp),Sz (by omega)]; simp
  simp only [nj,e1]
  rw [rz _ _ _ _ _ (by simp),Uz _ _ (by omega)]
  have e2:(X++[Ent.loop r 1]).set X.length .dead=X++[Ent.dead]:=by simp
  rw [e2]; rfl
 ·simp only [SD hml]
  have e1:(A47 p l n k (X++[Ent.loop r 0]) l.length)[X.length]?=some (.loop r 0):=by
   rw [rA _ _ _ _ _ (by simp)]; simp
  simp only [nj,e1]
  rw [rz _ _ _ _ _ (by simp)]
  have e2:(X++[Ent.loop r 0]).set X.length .dead=X++[Ent.dead]:=by simp
  rw [e2]; rfl
end
theorem qH {α β:Type} (f:α->Option β) (xs:List α):(xs.findSome? f=none/\∀x∈xs,f x=none)\/∃(m:Nat) (hm:m<xs.length) (r:β),xs.findSome? f=some r/\f xs[m]=some r/\∀i (hi:i<m),f (xs[i]'(by omega))=none:=by
 induction xs with
 | nil=>exact .inl ⟨rfl,by simp⟩
 | cons x xs ih=>
  cases hx:f x with
  | some r=>
   exact .inr ⟨0,by simp,r,by simp [hx],hx,fun i hi=>by omega⟩
  | none=>
   rcases ih with ⟨h1,h2⟩ | ⟨m,hm,r,h1,h2,h3⟩
   ·refine .inl ⟨by simp [hx,h1],fun y hy=>?_⟩
    rcases Tj.1 hy with rfl | hy
    ·exact hx
    ·exact h2 y hy
   ·refine .inr ⟨m+1,by simp; omega,r,by simp [hx,h1],by simpa using h2,fun i hi=>?_⟩
    cases i with
    | zero=>exact hx
    | succ i=>simpa using h3 i (by omega)
open Go
def M27:aU:=fun args=>evP (aq GC ig) 300 uz 5 args
theorem si:aw prog GC 54 M27:=aw.of_ev (E:=aq GC ig) (ax nl) rfl (by kernel_rfl) vS 5 fun _ _ h=>⟨300,h⟩
def NP (n:Nat) (p:Int) (l:List bq) (k kb:Nat) (A:ac):Prop:=A[0]?=some (.q [du n p l])/\A[1]?=some (.q [.nilS])/\A[kb]?=some (.q [.z (k:Int)])/\2<=kb
theorem wV {l:List bq} (hI:NP n p l k kb A) (hk:n<k):run (aq GC ig) 300 [.code kG] (kw (.p 0) (.p 1) (.p kb)) A=some (.exit 0 ((kw (.p 0) (.p 1) (.p kb)).set 8 .f) A):=by
 obtain ⟨h0,h1,h2,h3⟩:=hI
 obtain ⟨W1,O,hW⟩:∃W1 O,du n p l=.fp [.z (n:Int),W1,O]:=⟨_,_,rfl⟩
 rw [hW] at h0
 have b:af .leq (.z (k:Int)) (.z (n:Int))=some .f:=by simp [af]; omega
 simp [kG,h0,h2,b,-af]
theorem wW {l:List bq} {kb:Nat} (hr:bS n l p) (hI:NP n p l k kb A) (hk1:1<=k) (hk:k<=n) :
  (gD p l n k=none/\∃A' kb' σ',run (aq GC ig) 300 [.code kG] (kw (.p 0) (.p 1) (.p kb)) A=some (.normal σ' A')/\clear jX σ'=kw (.p 0) (.p 1) (.p kb')/\NP n p l (k+1) kb' A') \/
  (∃res,gD p l n k=some res/\∃A' v0 v3 v4 v5 v6 v7 v8 v9 v10 v11 v12 v13,run (aq GC ig) 300 [.code kG] (kw (.p 0) (.p 1) (.p kb)) A=some (.ret [v0,.p 0,.p 1,v3,v4,v5,v6,v7,v8,v9,v10,v11,v12,v13] A')/\A'[1]?=some (.q [slA 1 (ak res)])):=by
 obtain ⟨h0,h1,h2,h3⟩:=hI
 have hn32:=hr.1.1
 have h1l:=(Sp.1 h1).1
 have h2l:=(Sp.1 h2).1
 obtain ⟨X,hX⟩:∃X,X=A++[.q [du n p l],.q [.z (k:Int)]]:=⟨_,rfl⟩
 have hXo:∀j,j<A.length->X[j]?=A[j]?:=fun j hj=>by rw [hX,Sy hj]
 have x0:=(hXo 0 (by omega)).trans h0
 have x1:=(hXo 1 h1l).trans h1
 have x2:=(hXo kb h2l).trans h2
 have x3:X[A.length]?=some (.q [du n p l]):=by rw [hX]; simp
 have x4:X[A.length+1]?=some (.q [.z (k:Int)]):=by rw [hX,SJ (by omega)]; simp
 have hXl:X.length=A.length+2:=by rw [hX]; simp
 have b:af .leq (.z (k:Int)) (.z (n:Int))=some .t:=by simp [af]; omega
 have c42:H42 (fun _ _ _=>none) [du n p l,.z (k:Int)] A=some (.func (.func 100) [] [.p A.length,.p (A.length+1)],X):=by
  rw [hX]; exact ev42 _ _ _ _
 have rg:=fun m hm hno res hyes=>HZ (X:=X) (wb:=0) (rb:=1) (kb:=kb) (wp:=A.length) (kp:=A.length+1) hr hk1 (by omega) x0 x2 x1 x3 x4 m hm hno res hyes .u .u .u .u .u .t .u .u .u .u
 have b3:=aP k (by omega)
 obtain ⟨k1,hk1'⟩:∃k1:Nat,k1=k+1:=⟨_,rfl⟩
 rw [<-hk1'] at b3 ⊢
 obtain ⟨W1,O,hW⟩:∃W1 O,du n p l=.fp [.z (n:Int),W1,O]:=⟨_,_,rfl⟩
 have hlk:aD ig 86=some H42:=rfl
 have hnl:=kV l
 rcases qH (wk p l n k) (num l) with ⟨q1,q2⟩ | ⟨m,hm,res,q1,q2,q3⟩
 ·left
  refine ⟨q1,?_⟩
  have rg1:=rg l.length (SK _) (fun i hi _=>q2 _ (TF (iL l i hi))) [] (fun h=>absurd h (Nat.lt_irrefl _))
  rw [SD (Nat.lt_irrefl _)] at rg1
  obtain ⟨D,hD⟩:∃D,D=A47 p l n k (X++[Ent.dead]) l.length:=⟨_,rfl⟩
  rw [<-hD] at rg1
  have hDo:∀j,j<X.length->D[j]?=X[j]?:=fun j hj=>by rw [hD,rA _ _ _ _ _ (by simp; omega),Sy hj]
  have hDl:X.length<=D.length:=by rw [hD]; simp [A47]
  have d2:=(hDo kb (by omega)).trans x2
  refine ⟨D++[.q [.z (k1:Int)]],D.length,[.u,.p 0,.p 1,.p D.length,.u,.u,.u,.u,.u,.u,.u,.u,.u,.z (k:Int)],?_,CO,?_,?_,?_,by omega⟩
  ·rw [hW] at h0 c42
   obtain ⟨Z,hZ⟩:∃Z,Z=A.length+1:=⟨_,rfl⟩
   obtain ⟨Y,hY⟩:∃Y,Y=A.length:=⟨_,rfl⟩
   rw [<-hZ,<-hY] at c42 rg1
   simp [kG,h0,h2,b,c42,rg1,d2,b3,-af]
  ·rw [Sy (by omega),hDo 0 (by omega)]; exact x0
  ·rw [Sy (by omega),hDo 1 (by omega)]; exact x1
  ·simp
 ·right
  refine ⟨res,q1,?_⟩
  rw [hnl] at hm
  have hnm:∀i (hi:i<l.length),(num l)[i]'(by omega)=(l[i],i):=fun i hi=>by
   have:=iL l i hi
   rw [Sq (by omega)] at this
   exact Ud this
  have rg1:=rg m (by omega) (fun i hi him=>by rw [<-hnm i hi]; exact q3 i him) res (fun hi=>by rw [<-hnm m hi]; exact q2)
  rw [SA hm] at rg1
  obtain ⟨D,hD⟩:∃D,D=A47 p l n k ((X++[Ent.dead]).set 1 (.q [slA 1 (ak res)])) (m+1):=⟨_,rfl⟩
  rw [<-hD] at rg1
  refine ⟨D,.u,.p kb,.u,.u,.u,.u,.t,.func (.func 100) [] [.p A.length,.p (A.length+1)],.u,.u,.u,.u,?_,?_⟩
  ·rw [hW] at h0 c42
   obtain ⟨Z,hZ⟩:∃Z,Z=A.length+1:=⟨_,rfl⟩
   obtain ⟨Y,hY⟩:∃Y,Y=A.length:=⟨_,rfl⟩
   rw [<-hZ,<-hY] at c42 rg1 ⊢
   simp [kG,h0,h2,b,c42,rg1,-af]
  ·rw [hD,rA _ _ _ _ _ (by simp; omega),SG (by simp; omega)]
theorem tw {l:List bq} (hr:bS n l p):M27 [du n p l]=some (slA 1 (ak ((uh p l n).getD []))):=by
 have hn32:=hr.1.1
 obtain ⟨o,h1,h2⟩:=iR (E:=aq GC ig) (fuel:=300) (a:=kG) (mask:=jX)
  (fun κ σ A=>∃k kb,k+κ=n+1/\1<=k/\clear jX σ=kw (.p 0) (.p 1) (.p kb)/\NP n p l k kb A/\∀j,j+1<k->gD p l n (j+1)=none)
  (fun o=>(∃k res A' v0 v3 v4 v5 v6 v7 v8 v9 v10 v11 v12 v13,k<n/\gD p l n (k+1)=some res/\(∀j,j<k->gD p l n (j+1)=none)/\o=.ret [v0,.p 0,.p 1,v3,v4,v5,v6,v7,v8,v9,v10,v11,v12,v13] A'/\A'[1]?=some (.q [slA 1 (ak res)])) \/
   ((∀j,j<n->gD p l n (j+1)=none)/\∃kb A',o=.exit 0 ((kw (.p 0) (.p 1) (.p kb)).set 8 .f) A'/\A'[1]?=some (.q [.nilS])))
  (by
   rintro κ σ A ⟨k,kb,hk,hk1,hσ,hI,hno⟩
   rw [hσ]
   by_cases hkn:k<=n
   ·rcases wW hr hI hk1 hkn with ⟨q1,A',kb',σ',c1,c2,c3⟩ | ⟨res,q1,A',v0,v3,v4,v5,v6,v7,v8,v9,v10,v11,v12,v13,c1,c2⟩
    ·refine .inl ⟨σ',A',c1,κ-1,by omega,k+1,kb',by omega,by omega,c2,c3,fun j hj=>?_⟩
     by_cases hjk:j+1=k
     ·rw [hjk]; exact q1
     ·exact hno j (by omega)
    ·refine .inr ⟨_,c1,(fun _ _ h=>by cases h),.inl ⟨k-1,res,A',v0,v3,v4,v5,v6,v7,v8,v9,v10,v11,v12,v13,by omega,by rw [show k-1+1=k by omega]; exact q1,fun j hj=>hno j (by omega),rfl,c2⟩⟩
   ·refine .inr ⟨_,wV hI (by omega),(fun _ _ h=>by cases h),.inr ⟨fun j hj=>hno j (by omega),kb,A,rfl,hI.2.1⟩⟩)
  300 n (kw (.p 0) (.p 1) (.p 2)) [.q [du n p l],.q [.nilS],.q [.z 1]] (by omega) ⟨1,2,by omega,by omega,CO,⟨rfl,rfl,rfl,by omega⟩,fun j hj=>by omega⟩
 have hc:∀k res,k<n->gD p l n (k+1)=some res->(∀j,j<k->gD p l n (j+1)=none)->uh p l n=some res:=fun k res hk h1 h2=>by
  unfold uh
  rcases qH (fun j=>gD p l n (j+1)) (List.range n) with ⟨q1,q2⟩ | ⟨m,hm,r,q1,q2,q3⟩
  ·have:=q2 k (by simp; omega)
   rw [h1] at this; cases this
  ·simp only [UA] at q2 q3
   simp only [List.length_range] at hm
   rw [q1]
   rcases Nat.lt_trichotomy m k with h | h | h
   ·rw [h2 m h] at q2; cases q2
   ·rw [h] at q2; rw [h1] at q2; exact q2.symm
   ·rw [q3 k h] at h1; cases h1
 have hc2:(∀j,j<n->gD p l n (j+1)=none)->uh p l n=none:=fun h=>by
  unfold uh
  rw [List.findSome?_eq_none_iff]
  intro j hj
  exact h j (by simpa using hj)
 obtain ⟨W1,O,hW⟩:∃W1 O,du n p l=.fp [.z (n:Int),W1,O]:=⟨_,_,rfl⟩
 unfold M27
 rw [aO _ _ rfl]
 rw [hW] at h1 ⊢
 rcases h2 with ⟨k,res,A',v0,v3,v4,v5,v6,v7,v8,v9,v10,v11,v12,v13,hk,q1,q2,rfl,q3⟩ | ⟨q1,kb,A',rfl,q3⟩
 ·rw [hc k res hk q1 q2]
  simp only [S9]
  have hfz:frz A' 5 (slA 1 (ak res))=slA 1 (ak res):=xo _ _ _ _
  have hR2:slA 1 (ak res)=.nilS\/∃T,slA 1 (ak res)=.fs 1 T:=by
   cases ak res with
   | nil=>exact .inl rfl
   | cons x r=>exact .inr ⟨_,rfl⟩
  rcases hR2 with e | ⟨T,e⟩
  ·rw [e] at q3 ⊢
   simp [uz,BK h1,q3]
  ·rw [e] at q3 ⊢
   simp [uz,BK h1,q3]
 ·rw [hc2 q1]
  have hset:(A'.set 1 (.q [.nilS]))[1]?=some (.q [.nilS]):=SG (Sp.1 q3).1
  simp [uz,BK h1,q3,hset,slA,ak]
def yC:List (FuncId × aJ):=[(51,cU 4 M25),(52,cU 4 M26),(54,aE 4 M27)]
@[simp] theorem Qy:aD yC 51=some (cU 4 M25):=rfl
@[simp] theorem Qx:aD yC 52=some (cU 4 M26):=rfl
@[simp] theorem Qw:aD yC 54=some (aE 4 M27):=rfl
theorem qa:∀f M,aD yC f=some M->au prog GC f M:=ag (au.of_pureF tH 4) (ag (au.of_pureF AJ 4) (ag (au.of_pure si 4) aB))
def H14:aJ:=fun _=>bZ (aq GC yC) 0 oh
theorem n9:au prog GC 21 H14:=(cj (ax qa) rfl Gw oJ bO.nil).y
open Classical in
def lvM (n:Int) (l:List bq) (p:Int):List Int × List Int × Bool:=
 if bS n l p then (if (cD (lar p l) n.toNat).2=true then ((cD (lar p l) n.toNat).1,[],true) else ([],(uh p l n.toNat).getD [],false)) else ([],[],false)
def lvT (r:List Int × List Int × Bool):AV:=.tup [slA 1 (ak r.1),slA 1 (ak r.2.1),.bool r.2.2]
open Classical in
theorem GN (h:bj) {a':AV} {l:List bq} (ha:frz A 4 a=a') (hl:bT a'=some l) (n p:Int):H14 h [.z n,a,.z p] A=some (lvT (lvM n l p),A):=by
 have m1:M25 [.z n,a',.z p]=some (if bS n l p then .tup [du n.toNat p l,.t] else .tup [.nilP,.f]):=by simp only [M25,hl,Th]
 unfold H14
 rw [bo _ _ rfl]
 by_cases hr:bS n l p
 rotate_left
 ·rw [SD hr] at m1
  have e:lvM n l p=([],[],false):=SD hr
  rw [e]
  simp [oh,ha,m1,aM,dI,lvT,slA,ak,-frz]
 rw [SA hr] at m1
 obtain ⟨m,rfl⟩:∃m:Nat,n=(m:Int):=⟨n.toNat,by have:=hr.1.1; omega⟩
 rw [SM] at m1
 have m2:=tx hr
 have m3:=tw hr
 obtain ⟨W1,O,hW⟩:∃W1 O,du m p l=.fp [.z (m:Int),W1,O]:=⟨_,_,rfl⟩
 rw [hW] at m1 m2 m3
 have hfw:∀B,frz B 4 (.fp [.z (m:Int),W1,O])=.fp [.z (m:Int),W1,O]:=fun _=>rfl
 have hnr:bR 4 (.fp [.z (m:Int),W1,O])=true:=rfl
 by_cases hok:(cD (lar p l) m).2=true
 ·have e:lvM m l p=((cD (lar p l) m).1,[],true):=by
   unfold lvM; rw [SA hr,SM,SA hok]
  rw [e]
  rw [hok] at m2
  obtain ⟨xs,hxs⟩:∃xs,xs=(cD (lar p l) m).1:=⟨_,rfl⟩
  rw [<-hxs] at m2 ⊢
  obtain ⟨T,hT⟩:∃T,T=slA 1 (ak xs):=⟨_,rfl⟩
  rw [<-hT] at m2
  simp [oh,ha,m1,m2,aM,hfw,dI,lvT,<-hT,-frz]
  simp [slA,ak]
 ·have e:lvM m l p=([],(uh p l m).getD [],false):=by
   unfold lvM; rw [SA hr,SM,SD hok]
  rw [e]
  rw [Bool.not_eq_true] at hok
  rw [hok] at m2
  obtain ⟨S,hS⟩:∃S,S=slA 1 (ak (cD (lar p l) m).1):=⟨_,rfl⟩
  rw [<-hS] at m2
  obtain ⟨T,hT⟩:∃T,T=slA 1 (ak ((uh p l m).getD [])):=⟨_,rfl⟩
  rw [<-hT] at m3
  simp [oh,ha,m1,m2,m3,aM,hfw,dI,lvT,<-hT,-frz]
  simp [slA,ak]
open Go
theorem aV (A:ac) (n:Nat) (b:Bool):frz A n (.bool b)=.bool b:=by cases n <;> rfl
def nL (x:Int):Bool:=!decide (0<=x/\x<=1000000000)
def M35:aU:=fun args=>match args with
 | [.int .i64 x]=>some (.bool (nL x))
 | _=>none
theorem sg:aw prog GC 88 M35:=by
 refine aw.of_ev (E:=aq GC fsW) (ax sk) rfl (by kernel_rfl) vR 1 ?_
 intro args r h
 unfold M35 at h
 split at h
 ·rename_i x
  injection h with h; subst h
  refine ⟨0,?_⟩
  have m:=fC x 0 1000000000
  unfold nL
  obtain ⟨d,hd⟩:∃d,d=decide (0<=x/\x<=1000000000):=⟨_,rfl⟩
  rw [<-hd] at m ⊢
  rw [aO _ _ rfl]
  simp [w8,m,-af]
 ·cases h
def nM (n:Nat) (x:Int):Bool:=!decide (0<=x/\x<=(n:Int)-1)
def M46:aU:=fun args=>evP (aq GC fsW) 0 Ib 1 args
theorem AC:aw prog GC 85 M46:=aw.of_ev (E:=aq GC fsW) (ax sk) rfl (by kernel_rfl) Cj 1 fun _ _ h=>⟨0,h⟩
theorem Du {l:List bq} (hl:l.length<=200) (x:Int):M46 [.z x,.fp [du n p l]]=some (.bool (nM l.length x)):=by
 have m:=fC x 0 ((l.length:Int)-1)
 have hlen2:aj (slA 6 (wAs p (num l)))=some (.z (l.length:Int)):=by rw [tZ,tD]
 have b0:af .sub (.z (l.length:Int)) (.z 1)=some (.z ((l.length:Int)-1)):=by
  simp only [af]; rw [SA trivial,eH (by unfold inI; omega)]
 obtain ⟨W1,O,hW,hW1⟩:∃W1 O,du n p l=.fp [.z (n:Int),W1,O]/\W1=slA 6 (wAs p (num l)):=⟨_,_,rfl,rfl⟩
 rw [<-hW1] at hlen2
 rw [hW]
 unfold nM
 obtain ⟨k,hk⟩:∃k,k=(l.length:Int)-1:=⟨_,rfl⟩
 rw [<-hk] at m b0 ⊢
 obtain ⟨d,hd⟩:∃d,d=decide (0<=x/\x<=k):=⟨_,rfl⟩
 rw [<-hd] at m ⊢
 unfold M46
 rw [aO _ _ rfl]
 simp [Ib,hlen2,b0,m,-af,-aj]
def DL:List (FuncId × aJ):=[(88,aE 4 M35),(85,aE 4 M46)]
@[simp] theorem OS:aD DL 88=some (aE 4 M35):=rfl
@[simp] theorem OR:aD DL 85=some (aE 4 M46):=rfl
theorem Hj:∀f M,aD DL f=some M->au prog GC f M:=ag (au.of_pure sg 4) (ag (au.of_pure AC 4) aB)
def M45:aU:=fun args=>evP (aq GC DL) 300 z8 1 args
theorem AD:aw prog GC 95 M45:=aw.of_ev (E:=aq GC DL) (ax Hj) rfl NK yN 1 fun _ _ h=>⟨300,h⟩
theorem GF {f:FuncId} {cap:List AV} {Mf:aU} (hlk:aD DL f=some (aE 4 Mf)) {q:Int->Bool} (hm:∀x∈xs,∀A,Mf (.z x :: cap.map (frz A 4))=some (.bool (q x))) {b:AV} (hb:SlA 1 (ak xs) b) (hl:xs.length<=200) :
  M45 [b,.func (.func f) [] cap]=some (.z (df q xs)):=by
 have hlen:=hb.len
 rw [az] at hlen
 have round:∀(A:ac) (i:Nat) (hi:i<xs.length),run (aq GC DL) 300 [.code fM] (gM b (.func (.func f) [] cap) (.z (xs.length:Int)) (.z (i:Int))) A =
   if q xs[i]=false then some (.normal (gM b (.func (.func f) [] cap) (.z (xs.length:Int)) (.z ((i+1:Nat):Int))) A) else some (.ret [b,.func (.func f) [] cap,.z (i:Int),.z (i:Int),.z (xs.length:Int),.z (i:Int),.t,.t] A):=fun A i hi=>by
  have x1:=hb.int (A:=A) _ _ (Sq hi) .i64
  have m:=hm _ (SC hi) A
  have b1:=be i xs.length .i64
  rw [Su hi] at b1
  have b3:=aP i (by omega)
  obtain ⟨i1,hi1⟩:∃i1:Nat,i1=i+1:=⟨_,rfl⟩
  rw [<-hi1] at b3 ⊢
  obtain ⟨d,hd⟩:∃d,d=q xs[i]:=⟨_,rfl⟩
  rw [<-hd] at m ⊢
  cases d with
  | false=>simp [fM,x1,hlk,m,b1,b3,-af,-ae,-aj]
  | true=>simp [fM,x1,hlk,m,b1,-af,-ae,-aj]
 unfold M45
 rw [aO _ _ rfl]
 rcases bU (E:=aq GC DL) (fuel:=300) (a:=fM) (mask:=gp) (fun i=>gM b (.func (.func f) [] cap) (.z (xs.length:Int)) (.z (i:Int))) (fun _=>[]) xs.length (fun i=>¬ ∀hi:i<xs.length,q xs[i]=false)
  (oF:=fun i=>.ret [b,.func (.func f) [] cap,.z (i:Int),.z (i:Int),.z (xs.length:Int),.z (i:Int),.t,.t] []) (oE:=.exit 0 ((gM b (.func (.func f) [] cap) (.z (xs.length:Int)) (.z (xs.length:Int))).set 6 .f) [])
  (fun _=>rfl) (fun _ _ _ h=>by cases h) (fun _ _ h=>by cases h)
  (fun i hi hp=>by
   rw [round [] i hi]
   exact SA (SI.1 hp hi))
  (fun i hi hp=>by
   rw [round [] i hi]
   exact SD fun h=>hp fun _=>h)
  (by simp [fM]) (show xs.length<300 by omega) with ⟨i,hi,hp,hj,lp⟩ | ⟨hp,lp⟩
 ·have lp:bG (evC (aq GC DL) 300 fM) gp 300 (gM b (.func (.func f) [] cap) (.z (xs.length:Int)) (.z 0)) []=_:=lp
  have e:df q xs=(i:Int):=bC hi (by
   cases h':q xs[i] with
   | true=>rfl
   | false=>exact absurd (fun _=>h') hp) (fun j hj'=>SI.1 (hj j hj') (by omega))
  rw [e]
  simp [z8,hlen,yw lp,-af,-aj]
 ·have lp:bG (evC (aq GC DL) 300 fM) gp 300 (gM b (.func (.func f) [] cap) (.z (xs.length:Int)) (.z 0)) []=_:=lp
  have e:df q xs = -1:=bH fun i hi=>SI.1 (hp i hi) hi
  rw [e]
  simp [z8,hlen,yw lp,-af,-aj]
def Ny:List (FuncId × aJ):=[(95,aE 4 M45)]
@[simp] theorem O4:aD Ny 95=some (aE 4 M45):=rfl
theorem Ho:∀f M,aD Ny f=some M->au prog GC f M:=ag (au.of_pure AD 4) aB
def M36:aU:=fun args=>evP (aq GC Ny) 0 z9 1 args
theorem lR:aw prog GC 66 M36:=aw.of_ev (E:=aq GC Ny) (ax Ho) rfl JB s6 1 fun _ _ h=>⟨0,h⟩
theorem GG {F:AV} {q:Int->Bool} {b:AV} (hb:SlA 1 (ak xs) b) (hF:∀A,frz A 4 F=F) (h:M45 [b,F]=some (.z (df q xs))):M36 [b,F]=some (.bool (xs.any q)):=by
 have b1:=je (df q xs)
 rw [cW] at b1
 have f1:∀A n,frz A n b=b:=fun A n=>hb.frz n
 obtain ⟨z,hz⟩:∃z,z=df q xs:=⟨_,rfl⟩
 rw [<-hz] at h b1
 unfold M36
 rw [aO _ _ rfl]
 simp [z9,f1,hF,h,b1,br,aV,-af,-frz]
open Go
def dG (n:Int) (l:List bq) (p:Int) (s:List Int):Prop:=bS n l p/\(s.length:Int)=n/\(∀x∈s,0<=x/\x<=1000000000)/\lE (lar p l) s
open Classical in
def M19:aU:=fun args=>match args with
 | [.int .i64 n,a,.int .i64 p,b]=>match bT a,gC b with
  | some l,some s=>some (.bool (decide (dG n l p s)))
  | _,_=>none
 | _=>none
def pB:List (FuncId × aJ):=[(51,cU 4 M25),(66,aE 4 M36),(84,fun _=>bZ (aq GC []) 300 tT),(36,fun _=>bZ (aq GC []) 0 ql)]
@[simp] theorem Qe:aD pB 51=some (cU 4 M25):=rfl
@[simp] theorem Qd:aD pB 66=some (aE 4 M36):=rfl
@[simp] theorem Qc:aD pB 84=some (fun _=>bZ (aq GC []) 300 tT):=rfl
@[simp] theorem Qb:aD pB 36=some (fun _=>bZ (aq GC []) 0 ql):=rfl
theorem wJ:∀f M,aD pB f=some M->au prog GC f M:=ag (au.of_pureF tH 4) (ag (au.of_pure lR 4) (ag uH (ag jm aB)))
theorem BP (A:ac):frz A 4 (.func (.func 88) [] [])=.func (.func 88) [] []:=rfl
theorem tp (s:List Int):s.any nL=false↔∀x∈s,0<=x/\x<=1000000000:=by
 rw [Ui]; unfold nL; simp
open Classical in
theorem xU:aw prog GC 55 M19:=by
 refine aw.of_ev (E:=aq GC pB) (ax wJ) rfl (by kernel_rfl) Cu 1 ?_
 intro args r h
 unfold M19 at h
 split at h
 rotate_left
 ·cases h
 rename_i n a p b
 split at h
 rotate_left
 ·cases h
 rename_i l s hl hs
 injection h with h; subst h
 refine ⟨0,?_⟩
 obtain ⟨hb,_,hsl⟩:=eJ hs
 have f1:∀A n,frz A n a=a:=fun A n=>dX hl A n
 have f2:∀A n,frz A n b=b:=fun A n=>hb.frz n
 have f3:=dS hl
 have f4:=oz hs
 have m1:M25 [.z n,a,.z p]=some (if bS n l p then .tup [du n.toNat p l,.t] else .tup [.nilP,.f]):=by simp only [M25,hl,Th]
 have hlen:=hb.len
 have hlen':(s.map (AV.int .i64)).length=s.length:=by simp
 rw [hlen'] at hlen
 rw [aO _ _ rfl]
 by_cases hr:bS n l p
 rotate_left
 ·rw [SD hr] at m1
  rw [Ss (show ¬ dG n l p s from fun h=>hr h.1)]
  simp [DI,f1,m1,aM,aV,-frz,-aj]
 rw [SA hr] at m1
 have b1:af .eql (.z (s.length:Int)) (.z n)=some (.bool (decide ((s.length:Int)=n))):=by simp [af]
 obtain ⟨m,rfl⟩:∃m:Nat,n=(m:Int):=⟨n.toNat,by have:=hr.1.1; omega⟩
 rw [SM] at m1
 obtain ⟨W1,O,hW⟩:∃W1 O,du m p l=.fp [.z (m:Int),W1,O]:=⟨_,_,rfl⟩
 by_cases h1:(s.length:Int)=(m:Int)
 rotate_left
 ·rw [Ss h1] at b1
  rw [Ss (show ¬ dG m l p s from fun h=>h1 h.2.1)]
  rw [hW] at m1
  simp [DI,f1,m1,hlen,b1,aM,aV,-frz,-aj,-af]
 rw [Su h1] at b1
 have hm32:=hr.1.1
 have m45:=GF (f:=88) (cap:=[]) (Mf:=M35) rfl (q:=nL) (xs:=s) (fun x _ A=>rfl) hb (by omega)
 have m36:=GG (q:=nL) hb (fun A=>rfl) m45
 by_cases h2:∀x∈s,0<=x/\x<=1000000000
 rotate_left
 ·have h2':s.any nL=true:=by
   cases h:s.any nL with
   | true=>rfl
   | false=>exact absurd ((tp s).1 h) h2
  rw [h2'] at m36
  rw [Ss (show ¬ dG m l p s from fun h=>h2 h.2.2.1)]
  rw [hW] at m1
  simp [DI,f1,f2,m1,hlen,b1,m36,aM,aV,br,BP,-frz,-aj,-af]
 rw [(tp s).2 h2] at m36
 have hsm:s.length=m:=by omega
 have hne:s≠[]:=by
  intro h
  rw [h] at hsm
  simp at hsm; omega
 have c38:=NB (aq GC []) 0 (A:=[]) (a:=b) (xs:=s) (.inl hb) hne (by omega)
 obtain ⟨A',c37,_⟩:=C2 (A:=[.dead,.q (ak s)]) (id:=1) hsm hr.2 hr.1.2.2 (by omega) hr.1.2.1 (hi:=1000000000) (fun v hv=>by
  have:s.getD v 0∈s:=by rw [Sr,Sq hv]; simp
  have:=h2 _ this
  omega) (by omega) rfl
 have e:decide (dG m l p s)=!upL (lar p l) s:=by
  cases hu:upL (lar p l) s with
  | true=>
   exact Ss fun h=>by rw [pM h.2.2.2] at hu; cases hu
  | false=>
   exact Su ⟨hr,h1,h2,(ik hu).2⟩
 rw [e]
 rw [hsm] at c38
 rw [hW] at m1 c37
 simp at c38
 simp [DI,f1,f2,m1,hlen,b1,m36,c38,c37,aM,aV,br,BP,-frz,-aj,-af]
open Go
def jK (l:List bq) (i:Int):bq:=l.getD i.toNat ⟨0,0,0,0⟩
def exL (p:Int) (l:List bq):List Int->Int->Int->Int->Option (Int × Int)
 | [],_,s,t=>some (s,t)
 | i :: r,at_,s,t=>if (jK l i).f=at_ then exL p l r (jK l i).t (s+(jK l i).len p) (t+(jK l i).k) else none
def mN (l:List bq) (xs:List Int):Prop:=∀x∈xs,0<=x/\x<=(l.length:Int)-1
instance (l:List bq) (xs:List Int):Decidable (mN l xs):=inferInstanceAs (Decidable (∀x∈xs,_))
def exM (p:Int) (l:List bq) (xs:List Int):Option (Int × Int):=if (1<=xs.length/\xs.length<=200)/\mN l xs then exL p l xs (jK l (xs.getLastD 0)).t 0 0 else none
theorem tq (l:List bq) (s:List Int):s.any (nM l.length)=false↔mN l s:=by
 rw [Ui]; unfold nM mN; simp
theorem nI {l:List bq} {x:Int} (h:0<=x/\x<=(l.length:Int)-1):∃(j:Nat) (hj:j<l.length),x=(j:Int)/\jK l x=l[j]:=by
 refine ⟨x.toNat,by omega,by omega,?_⟩
 unfold jK
 rw [Sr,Sq (by omega)]; rfl
def Rx:MC:=.region [.M 1 12 14,.b 1 0,.c 8 1]
def Rw:MC:=.region [.v 1 2,.S 0,.o 1 1,.b 1 2,.a 8,.e 6 3 4,.K 6 5,.E 9 6,.t 6 9 6]
def Rv:MC:=.region [.d 0 9,.o 0 0,.b 1 1,.a 7,.a8 16 2 3]
def Ru:MC:=.region [.f 3 0,.f 4 0,.g 5]
def Rt:MC:=.region [.a 3,.d 5 9,.b 1 1,.m 0 2,.a 4,.d 0 9,.o 3 5,.b 1 6,.m 4 7,.d 0 9,.o 1 9,.b 1 10,.c 3 3,.c 4 8,.c 7 11]
theorem Gy:qu=.r [.F 15 14 13] (.seq (.cond (.var 15) .skip (.exit 0)) (.seq (.seq (.block 1 (.seq Rx (.seq Rw (.seq (.seq Rv (.cond (.var 16) (.seq Ru .ret) .skip)) Rt)))) (.kill [0,1,5,6,8,9,10,11,15,16])) (.region [.w 14 1,.c 14 0]))):=rfl
theorem NZ (E:Env) (fuel:Nat) (K:List KC) (X:MC) {A:ac} {l:List bq} (hc:SlA 1 (ak xs) c) (hi:i<xs.length) (hx:xs[i]=(j:Int)) (hj:j<l.length) (hA:A[0]?=some (.q [du n p l])) (v3 v4 v7 v13 v15 v16:AV) :
  run E fuel (.code (.seq Rx (.seq Rw X)) :: K) [.u,.u,.p 0,v3,v4,.u,.u,v7,.u,.u,.u,.u,c,v13,.z (i:Int),v15,v16] A =
   run E fuel (.code X :: K) [.u,.u,.p 0,v3,v4,.u,.u,v7,.z (j:Int),.p A.length,.u,.u,c,v13,.z (i:Int),v15,v16] (A++[.row 6 false [wA p (l[j],j)]]):=by
 have x1:=hc.int (A:=A) _ _ (Sq hi) .i64
 rw [hx] at x1
 have x2:=uD p hj A .i64
 obtain ⟨W1,O,hW,hW1⟩:∃W1 O,du n p l=.fp [.z (n:Int),W1,O]/\W1=slA 6 (wAs p (num l)):=⟨_,_,rfl,rfl⟩
 rw [<-hW1] at x2
 rw [hW] at hA
 simp [Rx,Rw,x1,x2,hA,wA,-ae]
theorem HP (E:Env) (fuel:Nat) {n:Nat} {l:List bq} (hr:bS n l p) (hc:SlA 1 (ak xs) c) (hl:xs.length<=200) (hin:mN l xs) (hi:i<xs.length) (hA:A[0]?=some (.q [du n p l])) {s t at_:Int} (hs : -(3000000*(i:Int))<=s/\s<=3000000*i) (ht : -(2*(i:Int))<=t/\t<=2*i) :
  ∃A',A'[0]?=some (.q [du n p l])/\∃v8 v9 v15 v16,run E fuel [.code qu] (pS (.p 0) (.z s) (.z t) (.z at_) c (.z (xs.length:Int)) (.z (i:Int))) A =
   if (jK l xs[i]).f=at_ then some (.normal (pS (.p 0) (.z (s+(jK l xs[i]).len p)) (.z (t+(jK l xs[i]).k)) (.z (jK l xs[i]).t) c (.z (xs.length:Int)) (.z ((i+1:Nat):Int))) A')
   else some (.ret [.u,.u,.p 0,.z 0,.z 0,.f,.u,.z at_,v8,v9,.u,.u,c,.z (xs.length:Int),.z (i:Int),v15,v16] A'):=by
 obtain ⟨j,hj,hx,he⟩:=nI (hin _ (SC hi))
 rw [he]
 have hmem:=hr.1.2.2 _ (SC hj)
 have hn32:=hr.1.1
 have hlen:=gA (n:=32) (a:=l[j]) ⟨⟨by have:=hmem.1; omega,by have:=hmem.1; omega⟩,⟨by have:=hmem.2.1; omega,by have:=hmem.2.1; omega⟩,hmem.2.2.1,hmem.2.2.2⟩ hr.2
 have htok:=hmem.2.2.2
 have r1:=fun K X=>NZ E fuel K X hc hi hx hj hA (.z s) (.z t) (.z at_) (.z (xs.length:Int)) .t .u
 obtain ⟨B,hB⟩:∃B,B=A++[.row 6 false [wA p (l[j],j)]]:=⟨_,rfl⟩
 have hBv:B[A.length]?=some (.row 6 false [wA p (l[j],j)]):=by rw [hB]; simp
 have hB0:B[0]?=some (.q [du n p l]):=by rw [hB,Sy (Sp.1 hA).1]; exact hA
 rw [<-hB] at r1
 unfold wA at hBv
 simp only at hBv
 have b1:=be i xs.length .i64
 rw [Su hi] at b1
 have b3:=aP i (by omega)
 obtain ⟨i1,hi1⟩:∃i1:Nat,i1=i+1:=⟨_,rfl⟩
 rw [<-hi1] at b3 ⊢
 have b2:af .neq (.z l[j].f) (.z at_)=some (.bool (decide (l[j].f≠at_))):=by simp [af]
 obtain ⟨w,hw⟩:∃w,w=l[j].len p:=⟨_,rfl⟩
 rw [<-hw] at hlen hBv ⊢
 have b4:af .add (.z s) (.z w)=some (.z (s+w)):=by
  simp only [af]; rw [SA trivial,eH (by unfold inI; omega)]
 have b5:af .add (.z t) (.z l[j].k)=some (.z (t+l[j].k)):=by
  simp only [af]; rw [SA trivial,eH (by unfold inI; omega)]
 obtain ⟨vid,hvid⟩:∃vid,vid=A.length:=⟨_,rfl⟩
 rw [<-hvid] at r1 hBv
 refine ⟨B,hB0,.z (j:Int),.p vid,.t,.t,?_⟩
 by_cases h:l[j].f=at_
 ·rw [SA h]
  rw [Ss (not_not_intro h)] at b2
  rw [Gy]
  simp [b1,b3,r1,Rv,Ru,Rt,hBv,b2,b4,b5,-af]
 ·rw [SD h]
  rw [Su h] at b2
  rw [Gy]
  simp [b1,r1,Rv,Ru,Rt,hBv,b2,-af]
def Ae:List (FuncId × aJ):=[(82,aE 4 M32),(66,aE 4 M36)]
@[simp] theorem O0:aD Ae 82=some (aE 4 M32):=rfl
@[simp] theorem OZ:aD Ae 66=some (aE 4 M36):=rfl
theorem wF:∀f M,aD Ae f=some M->au prog GC f M:=ag (au.of_pure sh 4) (ag (au.of_pure lR 4) aB)
def M40:aU:=fun args=>evP (aq GC Ae) 300 DH 5 args
theorem p8:aw prog GC 53 M40:=aw.of_ev (E:=aq GC Ae) (ax wF) rfl (by kernel_rfl) Cm 5 fun _ _ h=>⟨300,h⟩
def exT (r:Option (Int × Int)):AV:=.tup [.z (r.getD (0,0)).1,.z (r.getD (0,0)).2,.bool r.isSome]
theorem zd {n:Nat} {l:List bq} (hr:bS n l p) {xs:List Int} (hc:SlA 1 (ak xs) c) (hmx:xs.length<=9223372036854775807):M40 [du n p l,c]=some (exT (exM p l xs)):=by
 have hlen:=hc.len
 rw [az] at hlen
 have m32:=fC (xs.length:Int) 1 200
 have f1:∀A n,frz A n c=c:=fun A n=>hc.frz n
 unfold M40
 rw [aO _ _ rfl]
 obtain ⟨W1,O,hW,hW1⟩:∃W1 O,du n p l=.fp [.z (n:Int),W1,O]/\W1=slA 6 (wAs p (num l)):=⟨_,_,rfl,rfl⟩
 by_cases h1:1<=xs.length/\xs.length<=200
 rotate_left
 ·rw [Ss (by omega)] at m32
  have e:exM p l xs=none:=SD fun h=>h1 h.1
  rw [e,hW]
  simp [DH,hlen,m32,exT,-aj]
 rw [Su (by omega)] at m32
 have m45:=GF (f:=85) (cap:=[.fp [du n p l]]) (Mf:=M46) rfl (q:=nM l.length) (xs:=xs) (fun x _ A=>Du hr.1.2.1 x) hc h1.2
 have m36:=GG (q:=nM l.length) hc (fun A=>rfl) m45
 have hfz:frz [.q [du n p l]] 4 (.func (.func 85) [] [.p 0])=.func (.func 85) [] [.fp [du n p l]]:=rfl
 by_cases h2:mN l xs
 rotate_left
 ·have h2':xs.any (nM l.length)=true:=by
   cases h:xs.any (nM l.length) with
   | true=>rfl
   | false=>exact absurd ((tq l xs).1 h) h2
  rw [h2'] at m36
  have e:exM p l xs=none:=SD fun h=>h2 h.2
  rw [e]
  rw [hW] at m36 hfz ⊢
  simp [DH,hlen,m32,f1,hfz,m36,exT,br,aM,-aj,-frz]
  simp [frz]
 rw [(tq l xs).2 h2] at m36
 have hex:exM p l xs=exL p l xs (jK l (xs.getLastD 0)).t 0 0:=SA ⟨h1,h2⟩
 have hlast:xs.length-1<xs.length:=by omega
 obtain ⟨j,hj,hx,he⟩:=nI (h2 _ (SC hlast))
 have hgl:xs.getLastD 0=xs[xs.length-1]:=by
  rw [List.getLastD_eq_getLast?,List.getLast?_eq_getElem?,Sq hlast]; rfl
 rw [hgl,he] at hex
 have x1:∀A,ae 1 A c (.z ((xs.length-1:Nat):Int))=some (.fp [.z (j:Int)]):=fun A=>by
  have:=hc.int (A:=A) _ _ (Sq hlast) .i64
  rwa [hx] at this
 have x2:=fun A=>uD p hj A .i64
 have b0:af .sub (.z (xs.length:Int)) (.z 1)=some (.z ((xs.length-1:Nat):Int)):=by
  simp only [af]; rw [SA trivial,eH (by unfold inI; omega)]; congr 2; omega
 obtain ⟨o,lp,ho⟩:=iR (E:=aq GC Ae) (fuel:=300) (a:=qu) (mask:=pi)
  (fun κ σ A=>∃(i:Nat) (s t at_:Int),i+κ=xs.length/\σ=pS (.p 0) (.z s) (.z t) (.z at_) c (.z (xs.length:Int)) (.z (i:Int))/\A[0]?=some (.q [du n p l])/\exL p l xs l[j].t 0 0=exL p l (xs.drop i) at_ s t/\(-(3000000*(i:Int))<=s/\s<=3000000*i)/\(-(2*(i:Int))<=t/\t<=2*i))
  (fun o=>(∃s t at_ A',exL p l xs l[j].t 0 0=some (s,t)/\o=.exit 0 ((pS (.p 0) (.z s) (.z t) (.z at_) c (.z (xs.length:Int)) (.z (xs.length:Int))).set 15 .f) A') \/
   (exL p l xs l[j].t 0 0=none/\∃v7 v8 v9 v14 v15 v16 A',o=.ret [.u,.u,.p 0,.z 0,.z 0,.f,.u,v7,v8,v9,.u,.u,c,.z (xs.length:Int),v14,v15,v16] A'))
  (by
   rintro κ σ A ⟨i,s,t,at_,hik,rfl,hA,hexi,hs,ht⟩
   rw [Gn]
   by_cases hi:i<xs.length
   ·obtain ⟨A',hA',v8,v9,v15,v16,hrun⟩:=HP (aq GC Ae) 300 hr hc h1.2 h2 hi hA (at_:=at_) hs ht
    have hd:xs.drop i=xs[i] :: xs.drop (i+1):=To hi
    by_cases hf:(jK l xs[i]).f=at_
    ·rw [SA hf] at hrun
     rw [hd,exL,SA hf] at hexi
     obtain ⟨j2,hj2,hx2,he2⟩:=nI (h2 _ (SC hi))
     have hmem:=hr.1.2.2 _ (SC hj2)
     have hn32:=hr.1.1
     have hlen2:=gA (n:=32) (a:=l[j2]) ⟨⟨by have:=hmem.1; omega,by have:=hmem.1; omega⟩,⟨by have:=hmem.2.1; omega,by have:=hmem.2.1; omega⟩,hmem.2.2.1,hmem.2.2.2⟩ hr.2
     have htok:=hmem.2.2.2
     rw [he2] at hrun hexi
     exact .inl ⟨_,_,hrun,κ-1,by omega,i+1,_,_,_,by omega,rfl,hA',hexi,by omega,by omega⟩
    ·rw [SD hf] at hrun
     rw [hd,exL,SD hf] at hexi
     exact .inr ⟨_,hrun,(fun _ _ h=>by cases h),.inr ⟨hexi,_,_,_,_,_,_,_,rfl⟩⟩
   ·obtain rfl:i=xs.length:=by omega
    rw [TN,exL] at hexi
    refine .inr ⟨_,?_,?_,.inl ⟨s,t,at_,A,hexi,rfl⟩⟩
    ·simp [qu]
    ·intro _ _ h; cases h)
  300 xs.length (pS (.p 0) (.z 0) (.z 0) (.z l[j].t) c (.z (xs.length:Int)) (.z 0)) [.q [du n p l]] (by omega) ⟨0,0,0,_,by omega,rfl,rfl,rfl,by omega,by omega⟩
 rw [hex]
 rw [<-hW1] at x2
 rw [hW] at m36 hfz lp ⊢
 obtain ⟨q,hq⟩:∃q,q=xs.length-1:=⟨_,rfl⟩
 rw [<-hq] at x1 b0
 rcases ho with ⟨s,t,at_,A',he1,rfl⟩ | ⟨he1,v7,v8,v9,v14,v15,v16,A',rfl⟩
 ·rw [he1]
  simp [DH,hlen,m32,f1,hfz,m36,b0,x1,x2,FU lp,exT,br,aM,-aj,-frz,-af,-ae]
  simp [frz]
 ·rw [he1]
  simp [DH,hlen,m32,f1,hfz,m36,b0,x1,x2,FU lp,exT,br,aM,-aj,-frz,-af,-ae]
  simp [frz]
open Go
def WL (L:List dT) (u v j:Nat) (z:Int):Prop:=∃r,isW L u r v/\r.length=j/\kY r=z
def iE (P:Int->Prop) (y:LP):Prop:=(y=noL/\∀z,¬ P z)\/(y.2=true/\P y.1/\∀z,P z->z<=y.1)
theorem iE.congr {Q:Int->Prop} {y:LP} (h:iE P y) (hpq:∀z,P z↔Q z):iE Q y:=by
 rcases h with ⟨h1,h2⟩ | ⟨h1,h2,h3⟩
 ·exact .inl ⟨h1,fun z hz=>h2 z ((hpq z).2 hz)⟩
 ·exact .inr ⟨h1,(hpq _).1 h2,fun z hz=>h3 z ((hpq z).2 hz)⟩
theorem Dd {Q:Int->Prop} {x y:LP} (h1:iE P x) (h2:iE Q y):iE (fun z=>P z\/Q z) (l9 x y):=by
 obtain ⟨x1,x2⟩:=x
 obtain ⟨y1,y2⟩:=y
 rcases h1 with ⟨e1,a1⟩ | ⟨e1,a1,b1⟩
 ·have:l9 (x1,x2) (y1,y2)=(y1,y2):=SA (.inl (by rw [e1]; rfl))
  rw [this]
  exact h2.congr fun z=>⟨.inr,fun h=>h.elim (fun h=>absurd h (a1 z)) id⟩
 ·simp only at e1 a1 b1
  rcases h2 with ⟨e2,a2⟩ | ⟨e2,a2,b2⟩
  ·have:l9 (x1,x2) (y1,y2)=(x1,x2):=SD (by
    rw [e2,e1]
    rintro (h | ⟨h,_⟩) <;> cases h)
   rw [this]
   exact .inr ⟨e1,.inl a1,fun z h=>h.elim (b1 z) fun h=>absurd h (a2 z)⟩
  ·simp only at e2 a2 b2
   by_cases h:y1 > x1
   ·have:l9 (x1,x2) (y1,y2)=(y1,y2):=SA (.inr ⟨e2,h⟩)
    rw [this]
    exact .inr ⟨e2,.inr a2,fun z hz=>hz.elim (fun hz=>by have:=b1 z hz; simp only; omega) (b2 z)⟩
   ·have:l9 (x1,x2) (y1,y2)=(x1,x2):=SD (by
     rw [e1]
     rintro (h' | ⟨_,h'⟩)
     ·cases h'
     ·exact h h')
    rw [this]
    exact .inr ⟨e1,.inl a1,fun z hz=>hz.elim (b1 z) fun hz=>by have:=b2 z hz; simp only; omega⟩
theorem Db {x:LP} (h:iE P x) (w:Int):iE (fun z=>∃z',P z'/\z=w+z') (gI x w):=by
 rcases h with ⟨e,a⟩ | ⟨e,a,b⟩
 ·rw [e]
  exact .inl ⟨rfl,fun z ⟨z',h,_⟩=>a z' h⟩
 ·have:gI x w=(x.1+w,x.2):=SD (by rw [e]; rintro ⟨h,_⟩; cases h)
  rw [this]
  refine .inr ⟨e,⟨_,a,by simp only; omega⟩,?_⟩
  rintro z ⟨z',h,rfl⟩
  have:=b z' h
  simp only; omega
theorem Dc:iE (fun _=>False) noL:=.inl ⟨rfl,fun _ h=>h⟩
theorem ut {L:List dT}:WL L u v 0 z↔u=v/\z=0:=by
 constructor
 ·rintro ⟨r,h1,h2,h3⟩
  have:r=[]:=S8.1 h2
  subst this
  exact ⟨h1,h3.symm⟩
 ·rintro ⟨rfl,rfl⟩
  exact ⟨[],rfl,rfl,rfl⟩
theorem Dm {L:List dT}:WL L u v (j+1) z↔∃a∈L,a.1=u/\∃z',WL L a.2.1 v j z'/\z=a.2.2+z':=by
 constructor
 ·rintro ⟨r,h1,h2,h3⟩
  cases r with
  | nil=>simp at h2
  | cons a r=>
   obtain ⟨k1,k2,k3⟩:=h1
   exact ⟨a,k1,k2,kY r,⟨r,k3,by simpa using h2,rfl⟩,h3.symm⟩
 ·rintro ⟨a,h1,h2,z',⟨r,k1,k2,rfl⟩,rfl⟩
  exact ⟨a :: r,⟨h1,h2,k1⟩,by simp [k2],rfl⟩
theorem AX (n v:Nat):(List.replicate n noL).getD v noL=noL:=by
 rw [Sr]
 by_cases h:v<n <;> simp [h]
theorem yq {L0:List dT} (hok:wq n L0) {h:List LP} (hh:∀u,u<n->iE (WL L0 u to j) (h.getD u noL)):∀(L:List dT),(∀a∈L,a∈L0)->∀(next:List LP) (D:Nat->Int->Prop),next.length=n->(∀u,u<n->iE (D u) (next.getD u noL)) ->
  ∀u,u<n->iE (fun z=>D u z\/∃a∈L,a.1=u/\∃z',WL L0 a.2.1 to j z'/\z=a.2.2+z') ((L.foldl (hst h) next).getD u noL)
 | [],_,next,D,hn,hD,u,hu=>(hD u hu).congr fun z=>⟨.inl,fun h=>h.elim id fun ⟨a,h,_⟩=>by cases h⟩
 | a :: L,hL,next,D,hn,hD,u,hu=>by
  obtain ⟨o1,o2,_⟩:=hok a (hL a (by simp))
  have:=yq hok hh L (fun b hb=>hL b (by simp [hb])) (hst h next a) (fun u z=>D u z\/(a.1=u/\∃z',WL L0 a.2.1 to j z'/\z=a.2.2+z')) (by rw [xk,hn]) (fun v hv=>by
   unfold hst
   rw [mP _ _ _ _ _ (by omega)]
   by_cases hav:a.1=v
   ·rw [SA hav]
    subst hav
    exact (Dd (hD _ o1) (Db (hh _ o2) a.2.2)).congr fun z=>by simp
   ·rw [SD hav]
    exact (hD v hv).congr fun z=>⟨.inl,fun h=>h.elim id fun h=>absurd h.1 hav⟩) u hu
  rw [Ta]
  refine this.congr fun z=>?_
  constructor
  ·rintro ((h | ⟨h1,h2⟩) | ⟨b,h1,h2⟩)
   ·exact .inl h
   ·exact .inr ⟨a,by simp,h1,h2⟩
   ·exact .inr ⟨b,by simp [h1],h2⟩
  ·rintro (h | ⟨b,h1,h2⟩)
   ·exact .inl (.inl h)
   ·rcases Tj.1 h1 with rfl | h1
    ·exact .inl (.inr h2)
    ·exact .inr ⟨b,h1,h2⟩
theorem BC {L:List dT} (hok:wq n L) (hto:to<n):∀(j u:Nat),u<n->iE (WL L u to j) ((hm L n to j).getD u noL)
 | 0,u,hu=>by
  unfold hm
  rw [mP _ _ _ _ _ (by simpa using hto)]
  by_cases h:to=u
  ·rw [SA h]
   exact .inr ⟨rfl,ut.2 ⟨h.symm,rfl⟩,fun z hz=>by have:=(ut.1 hz).2; simp only; omega⟩
  ·rw [SD h,AX]
   exact .inl ⟨rfl,fun z hz=>h (ut.1 hz).1.symm⟩
 | j+1,u,hu=>by
  have:=yq hok (BC hok hto j) L (fun _ h=>h) (List.replicate n noL) (fun _ _=>False) (by simp) (fun u _=>by rw [AX]; exact Dc) u hu
  refine this.congr fun z=>?_
  rw [Dm]
  exact ⟨fun h=>h.elim False.elim id,.inr⟩
def xh (l:List bq):Int->List gW->Int->Prop
 | u,[],v=>u=v
 | u,x :: r,v=>x∈num l/\x.1.f=u/\xh l x.1.t r v
def mI (p:Int) (xs:List gW):Int:=(xs.map fun x=>x.1.len p).sum
def o5 (xs:List gW):Int:=(xs.map fun x=>x.1.k).sum
def NQ (xs:List gW):Int:=(xs.map fun x=>x.1.w).sum
theorem Bu (p:Int):∀xs:List gW,mI p xs=NQ xs-p*o5 xs
 | []=>by simp [mI,NQ,o5]
 | x :: r=>by
  have:=Bu p r
  simp only [mI,NQ,o5,Tw,UL,bq.len] at this ⊢
  rw [this,Int.mul_add]; omega
def FJ (p:Int) (x:gW):dT:=(x.1.f.toNat,x.1.t.toNat,x.1.len p)
theorem H5 {l:List bq} {x:gW} (h:x∈num l):FJ p x∈lar p l:=by
 obtain ⟨hi,he⟩:=nq h
 exact SU.2 ⟨x.1,by rw [<-he]; exact SC hi,rfl⟩
theorem Bw {l:List bq} {a:dT} (h:a∈lar p l):∃x∈num l,FJ p x=a:=by
 obtain ⟨c,hc,rfl⟩:=SU.1 h
 obtain ⟨i,hi,rfl⟩:=Tb.1 hc
 exact ⟨(l[i],i),TF (iL l i hi),rfl⟩
theorem uQ {n:Int} {l:List bq} (hv:∀x∈l,okA n x) {x:gW} (h:x∈num l):okA n x.1:=by
 obtain ⟨hi,he⟩:=nq h
 rw [<-he]; exact hv _ (SC hi)
theorem RJ {n:Int} {l:List bq} (hv:∀x∈l,okA n x):∀ {xs:List gW} {u v:Int},xh l u xs v->isW (lar p l) u.toNat (xs.map (FJ p)) v.toNat/\kY (xs.map (FJ p))=mI p xs
 | [],u,v,h=>⟨by rw [show u=v from h]; rfl,rfl⟩
 | x :: r,u,v,⟨h1,h2,h3⟩=>by
  obtain ⟨k1,k2⟩:=RJ hv h3
  refine ⟨⟨H5 h1,by rw [<-h2]; rfl,k1⟩,?_⟩
  simp only [Tw,kY,k2,mI,UL]
  rfl
section
variable {n to:Nat} {p:Int} {l:List bq} (hv:∀x∈l,okA n x) (hn32:n<=32) (hp:cA p) (hto:to<n)
include hv hn32 hp hto
theorem pA {x:gW} (hx:x∈num l):lK (hm (lar p l) n to j) p sum x=true↔∃z,WL (lar p l) x.1.t.toNat to j z/\sum+x.1.len p+z > 0:=by
 have hok:=uQ hv hx
 have ht:=hok.2.1
 have hb:=BC (ym hn32 hp hv) hto j x.1.t.toNat (by omega)
 unfold lK
 obtain ⟨y,hy⟩:∃y,y=(hm (lar p l) n to j).getD x.1.t.toNat noL:=⟨_,rfl⟩
 rw [<-hy] at hb ⊢
 rcases hb with ⟨e,a⟩ | ⟨e,a,b⟩
 ·rw [e]
  constructor
  ·intro h
   have:gI noL (sum+x.1.len p)=noL:=rfl
   rw [this] at h
   simp [noL] at h
  ·rintro ⟨z,hz,_⟩
   exact absurd hz (a z)
 ·have:gI y (sum+x.1.len p)=(y.1+(sum+x.1.len p),y.2):=SD (by rw [e]; rintro ⟨h,_⟩; cases h)
  rw [this,e]
  simp only [Bool.true_and,S6]
  constructor
  ·intro h
   exact ⟨y.1,a,by omega⟩
  ·rintro ⟨z,hz,h⟩
   have:=b z hz
   omega
theorem Al:∀(r:Nat) (v sum:Int) (out:List Int),0<=v->(∃z,WL (lar p l) v.toNat to r z/\sum+z > 0) ->
  ∃xs:List gW,rC p l (hm (lar p l) n to) r sum (oO l v.toNat) out=some (out++xs.map fun x=>(x.2:Int))/\xh l v xs (to:Int)/\xs.length=r/\sum+mI p xs > 0
 | 0,v,sum,out,hv0,⟨z,h1,h2⟩=>by
  obtain ⟨h3,rfl⟩:=ut.1 h1
  exact ⟨[],by simp [rC],by show v=(to:Int); omega,rfl,by simpa [mI] using h2⟩
 | r+1,v,sum,out,hv0,⟨z,h1,h2⟩=>by
  obtain ⟨a,ha,haf,z',hz',rfl⟩:=Dm.1 h1
  obtain ⟨x,hx,rfl⟩:=Bw ha
  have hokx:=uQ hv hx
  have hxf:x.1.f=v:=by
   have:=hokx.1
   simp only [FJ] at haf; omega
  have hxo:x∈oO l v.toNat:=Ut.2 ⟨hx,by simp; omega⟩
  have hg:lK (hm (lar p l) n to r) p sum x=true:=(pA hv hn32 hp hto hx).2 ⟨z',hz',by simp only [FJ] at h2; omega⟩
  cases hf:(oO l v.toNat).find? (lK (hm (lar p l) n to r) p sum) with
  | none=>
   rw [List.find?_eq_none] at hf
   exact absurd hg (hf x hxo)
  | some b=>
   have hbg:=List.find?_some hf
   have hbo:=List.mem_of_find?_eq_some hf
   have hbn:=(Ut.1 hbo).1
   have hbf:=(Ut.1 hbo).2
   simp only [S6] at hbf
   have hokb:=uQ hv hbn
   obtain ⟨y,hy1,hy2⟩:=(pA hv hn32 hp hto hbn).1 hbg
   obtain ⟨xs,k1,k2,k3,k4⟩:=Al r b.1.t (sum+b.1.len p) (out++[(b.2:Int)]) hokb.2.1.1 ⟨y,hy1,hy2⟩
   refine ⟨b :: xs,?_,⟨hbn,by omega,k2⟩,by simp [k3],?_⟩
   ·simp only [rC,hf,k1]
    simp
   ·simp only [mI,Tw,UL] at k4 ⊢
    omega
end
section
variable {n:Nat} {p:Int} {l:List bq} (hv:∀x∈l,okA n x) (hn32:n<=32) (hp:cA p)
include hv hn32 hp
theorem wB {x:gW} (hx:x∈num l):(wk p l n (k+1) x=none/\¬ ∃z,WL (lar p l) x.1.t.toNat x.1.f.toNat k z/\x.1.len p+z > 0) \/
  ∃xs:List gW,wk p l n (k+1) x=some (xs.map fun y=>(y.2:Int))/\xh l x.1.f xs x.1.f/\xs.length=k+1/\mI p xs > 0:=by
 have hok:=uQ hv hx
 have hto:x.1.f.toNat<n:=by have:=hok.1; omega
 unfold wk rC
 by_cases hg:lK (hm (lar p l) n x.1.f.toNat k) p 0 x=true
 ·right
  obtain ⟨z,hz1,hz2⟩:=(pA hv hn32 hp hto hx).1 hg
  obtain ⟨xs,k1,k2,k3,k4⟩:=Al hv hn32 hp hto k x.1.t (0+x.1.len p) ([]++[(x.2:Int)]) hok.2.1.1 ⟨z,hz1,by omega⟩
  refine ⟨x :: xs,?_,⟨hx,rfl,?_⟩,by simp [k3],?_⟩
  ·simp only [List.find?_cons,hg,k1]
   simp
  ·have:((x.1.f.toNat:Nat):Int)=x.1.f:=by have:=hok.1; omega
   rw [this] at k2; exact k2
  ·simp only [mI,Tw,UL] at k4 ⊢
   omega
 ·left
  refine ⟨?_,fun ⟨z,h1,h2⟩=>hg ((pA hv hn32 hp hto hx).2 ⟨z,h1,by omega⟩)⟩
  rw [Bool.not_eq_true] at hg
  simp [hg]
theorem qI {k:Nat}:gD p l n (k+1)=none↔∀u c,isW (lar p l) u c u->c.length=k+1->kY c<=0:=by
 unfold gD
 rw [List.findSome?_eq_none_iff]
 constructor
 ·intro h u c hc hl
  cases c with
  | nil=>simp at hl
  | cons a r=>
   obtain ⟨h1,h2,h3⟩:=hc
   obtain ⟨x,hx,rfl⟩:=Bw h1
   rcases wB hv hn32 hp (k:=k) hx with ⟨_,h5⟩ | ⟨xs,h4,_⟩
   ·rcases Int.lt_or_le 0 (kY (FJ p x :: r)) with h6 | h6
    ·refine absurd ⟨kY r,⟨r,?_,by simpa using hl,rfl⟩,?_⟩ h5
     ·have e:x.1.f.toNat=u:=h2
      rw [e]; exact h3
     ·simp only [kY,FJ] at h6; omega
    ·exact h6
   ·rw [h x hx] at h4; cases h4
 ·intro h x hx
  rcases wB hv hn32 hp (k:=k) hx with ⟨h4,_⟩ | ⟨xs,h4,h5,h6,h7⟩
  ·exact h4
  ·obtain ⟨k1,k2⟩:=RJ (p:=p) hv h5
   have:=h _ _ k1 (by simp [h6])
   omega
theorem xu {k:Nat} {res:List Int} (h:gD p l n (k+1)=some res):∃(u:Int) (xs:List gW),res=xs.map (fun y=>(y.2:Int))/\xh l u xs u/\xs.length=k+1/\mI p xs > 0:=by
 unfold gD at h
 obtain ⟨x,hx,hw⟩:=List.exists_of_findSome?_eq_some h
 rcases wB hv hn32 hp (k:=k) hx with ⟨h4,_⟩ | ⟨xs,h4,h5,h6,h7⟩
 ·rw [h4] at hw; cases hw
 ·rw [h4] at hw
  injection hw with hw
  exact ⟨_,xs,hw.symm,h5,h6,h7⟩
theorem yM:uh p l n=none↔Ds (lar p l) n:=by
 unfold uh
 rw [List.findSome?_eq_none_iff]
 constructor
 ·intro h u c hc h1 h2
  have:=(qI hv hn32 hp (k:=c.length-1)).1 (h (c.length-1) (by simp; omega)) u c hc (by omega)
  exact this
 ·intro h j hj
  rw [Ty] at hj
  exact (qI hv hn32 hp).2 fun u c hc hl=>h u c hc (by omega) (by omega)
theorem yL {res:List Int} (h:uh p l n=some res):∃(u:Int) (xs:List gW),res=xs.map (fun y=>(y.2:Int))/\xh l u xs u/\1<=xs.length/\xs.length<=n/\mI p xs > 0:=by
 unfold uh at h
 obtain ⟨j,hj,hw⟩:=List.exists_of_findSome?_eq_some h
 rw [Ty] at hj
 obtain ⟨u,xs,h1,h2,h3,h4⟩:=xu hv hn32 hp hw
 exact ⟨u,xs,h1,h2,by omega,by omega,h4⟩
end
end Cy
end Go.Proofs.YtkcjhljbgjpklaaGreat
