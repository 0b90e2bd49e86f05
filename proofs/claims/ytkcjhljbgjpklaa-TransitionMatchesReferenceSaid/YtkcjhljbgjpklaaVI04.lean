import Derived.Test.YtkcjhljbgjpklaaVI03
set_option maxRecDepth 100000
set_option maxHeartbeats 4000000
noncomputable section
namespace Go.Proofs.Ytkcjhljbgjpklaa
variable {p c1 c3 c4 c5 c6 z hi w sum c2:Int} {n i k j to lid u v id t kb:Nat} {A B X:ac} {s xs:List Int} {v6 v10 v7 v12 v13 a v14 v15 v16 W v8 c:AV} {G:Int->AV} {P:Int->Prop}
namespace Cy
open Go
def GC:Nat->Option (List AV):=fun _=>none
structure br where
 f:Int
 t:Int
 w:Int
 k:Int
def db (a:br):AV:=.agg [.int .i64 a.f,.int .i64 a.t,.int .i64 a.w,.int .i64 a.k]
def br.inR (a:br):Prop:=inI a.f/\inI a.t/\inI a.w/\inI a.k
open Classical in
def Eu:AV->Option br
 | .agg [.int .i64 f,.int .i64 t,.int .i64 w,.int .i64 k]=>if br.inR ⟨f,t,w,k⟩ then some ⟨f,t,w,k⟩ else none
 | _=>none
theorem sS {x:AV} {a:br} (h:Eu x=some a):x=db a/\a.inR:=by
 unfold Eu at h
 split at h
 ·simp only [Ry,Rz] at h
  obtain ⟨h1,rfl⟩:=h
  exact ⟨rfl,h1⟩
 ·cases h
theorem Et {a:br} (h:a.inR):Eu (db a)=some a:=RH h
def H9 {α:Type} (s:Nat) (f:AV->Option α):AV->Option (List α)
 | .nilS=>some []
 | .fs s' es=>if s'=s/\es.length<=9223372036854775807 then xd f es else none
 | _=>none
def cR (a:AV):Option (List br):=H9 4 Eu a
theorem iG {l:List br} (h:cR a=some l):SlA 4 (l.map db) a/\l.length<=9223372036854775807/\∀x∈l,x.inR:=by
 unfold cR H9 at h
 split at h
 ·injection h with h; subst h
  exact ⟨.inl ⟨rfl,rfl⟩,by simp,by simp⟩
 ·rename_i s' es
  simp only [Ry] at h
  obtain ⟨⟨rfl,hl⟩,h⟩:=h
  obtain ⟨h1,h2⟩:=nl h
  have e:es=l.map db:=SO (by simpa using h1) fun i k1 k2=>by
   rw [(sS (h2 i k1 (by omega))).1]; simp
  subst e
  refine ⟨.inr rfl,by simpa using hl,fun x hx=>?_⟩
  obtain ⟨i,hi,rfl⟩:=SD.1 hx
  have:=h2 i (by simpa using hi) hi
  exact (sS this).2
 ·cases h
theorem CL {l:List br} (h:SlA 4 (l.map db) a) (hl:l.length<=9223372036854775807) (hr:∀x∈l,x.inR):cR a=some l:=by
 unfold cR H9
 rcases h with ⟨rfl,h⟩ | rfl
 ·have:l=[]:=by simpa using h
  subst this; rfl
 ·simp only [RN]
  rw [RH ⟨trivial,hl⟩]
  exact qV fun x hx=>Et (hr x hx)
section
variable {a:AV} {l:List br}
theorem nk (h:cR a=some l):aq a=some (.int .i64 (l.length:Int))/\l.length<=9223372036854775807:=by
 obtain ⟨h1,h2,_⟩:=iG h
 have:=h1.len
 simp only [RN] at this
 exact ⟨this,h2⟩
theorem vG (h:cR a=some l) (hi:i<l.length):∀A k,ae 4 A a (.int k (i:Int))=some (.fp [.int .i64 l[i].f,.int .i64 l[i].t,.int .i64 l[i].w,.int .i64 l[i].k]):=fun A k=>by
 obtain ⟨h1,h2,_⟩:=iG h
 have hx:(l.map db)[i]?=some (db l[i]):=by simp [hi]
 exact h1.index (A:=A) hx rfl (by simp) k
theorem fR (h:cR a=some l) (A:ac) (n:Nat):frz A n a=a:=(iG h).1.frz n
theorem gC (h:cR a=some l) (n:Nat):bu n a=true:=by
 rcases (iG h).1 with ⟨rfl,_⟩ | rfl <;> cases n <;> rfl
end
theorem gY {l:List br} (hl:l.length<=9223372036854775807) (h:∀x∈l,x.inR):cR (slA 4 (l.map db))=some l:=CL (ba _ _) hl h
def M32:aU:=fun args=>match args with
 | [.int .i64 n,.int .i64 lo,.int .i64 hi]=>some (.bool (decide (lo<=n/\n<=hi)))
 | _=>none
theorem mS (n lo hi:Int):M32 [.int .i64 n,.int .i64 lo,.int .i64 hi]=some (.bool (decide (lo<=n/\n<=hi))):=rfl
theorem xh (n lo hi:Int):decide (lo<=n/\n<=hi)=(decide (lo<=n) && decide (n<=hi)):=by
 rw [Tf,Sr,Sd,Sr,Sr]
theorem ug:ax Try.prog GC 88 M32:=by
 refine ax.of_ev (E:=aw GC []) (ay aB) rfl P8 BU 1 ?_
 intro args r h
 unfold M32 at h
 split at h
 ·rename_i n lo hi
  injection h with h; subst h
  refine ⟨0,?_⟩
  have b1:ag .geq (.int .i64 n) (.int .i64 lo)=some (.bool (decide (lo<=n))):=by simp [ag]
  have b2:ag .leq (.int .i64 n) (.int .i64 hi)=some (.bool (decide (n<=hi))):=by simp [ag]
  rw [xh]
  obtain ⟨p,hp⟩:∃p,p=decide (lo<=n):=⟨_,rfl⟩
  obtain ⟨q,hq⟩:∃q,q=decide (n<=hi):=⟨_,rfl⟩
  rw [<-hp] at b1 ⊢
  rw [<-hq] at b2 ⊢
  rw [aN _ _ rfl]
  cases p <;> simp [IM,b1,b2,-ag]
 ·cases h
theorem pQ:ax Try.prog GC 36 M32:=by
 refine ax.of_ev (E:=aw GC []) (ay aB) rfl IY sP 1 ?_
 intro args r h
 unfold M32 at h
 split at h
 ·rename_i n lo hi
  injection h with h; subst h
  refine ⟨0,?_⟩
  have b1:ag .geq (.int .i64 n) (.int .i64 lo)=some (.bool (decide (lo<=n))):=by simp [ag]
  have b2:ag .leq (.int .i64 n) (.int .i64 hi)=some (.bool (decide (n<=hi))):=by simp [ag]
  rw [xh]
  obtain ⟨p,hp⟩:∃p,p=decide (lo<=n):=⟨_,rfl⟩
  obtain ⟨q,hq⟩:∃q,q=decide (n<=hi):=⟨_,rfl⟩
  rw [<-hp] at b1 ⊢
  rw [<-hq] at b2 ⊢
  rw [aN _ _ rfl]
  cases p <;> simp [vT,b1,b2,-ag]
 ·cases h
def cT (p:Int):Prop:=-1000000<=p/\p<=1000000
instance (p:Int):Decidable (cT p):=inferInstanceAs (Decidable (_/\_))
def M41:aU:=fun args=>match args with
 | [.int .i64 p]=>some (.bool (decide (cT p)))
 | _=>none
def fsW:List (FuncId × aJ):=[(88,aG 4 M32),(36,aG 4 M32)]
@[simp] theorem QT:aE fsW 88=some (aG 4 M32):=rfl
@[simp] theorem QS:aE fsW 36=some (aG 4 M32):=rfl
theorem xB:∀f M,aE fsW f=some M->au Try.prog GC f M:=ai (au.of_pure ug 4) (ai (au.of_pure pQ 4) aB)
theorem pO:ax Try.prog GC 72 M41:=by
 refine ax.of_ev (E:=aw GC fsW) (ay xB) rfl Lz vp 1 ?_
 intro args r h
 unfold M41 at h
 split at h
 ·rename_i p
  injection h with h; subst h
  refine ⟨0,?_⟩
  have m:=mS p (-1000000) 1000000
  rw [show decide (-1000000<=p/\p<=1000000)=decide (cT p) from rfl] at m
  rw [aN _ _ rfl]
  simp [AF,m]
 ·cases h
def okA (n:Int) (a:br):Prop:=(0<=a.f/\a.f<=n-1)/\(0<=a.t/\a.t<=n-1)/\(-1000000<=a.w/\a.w<=1000000)/\(-2<=a.k/\a.k<=2)
instance (n:Int) (a:br):Decidable (okA n a):=inferInstanceAs (Decidable (_/\_))
def dK (n:Int) (a:br):Bool:=!decide (okA n a)
theorem Dn (n:Int) (a:br):dK n a=(!decide (0<=a.f/\a.f<=n-1) || !decide (0<=a.t/\a.t<=n-1) || !decide (-1000000<=a.w/\a.w<=1000000) || !decide (-2<=a.k/\a.k<=2)):=by
 unfold dK okA
 by_cases h1:0<=a.f/\a.f<=n-1 <;> by_cases h2:0<=a.t/\a.t<=n-1 <;> by_cases h3 : -1000000<=a.w/\a.w<=1000000 <;> by_cases h4 : -2<=a.k/\a.k<=2 <;> simp [h1,h2,h3,h4]
def M31:aU:=fun args=>match args with
 | [.agg [.int .i64 f,.int .i64 t,.int .i64 w,.int .i64 k],.fp [.int .i64 n]]=>if 1<=n/\n<=32 then some (.bool (dK n ⟨f,t,w,k⟩)) else none
 | _=>none
theorem Ad:ax Try.prog GC 96 M31:=by
 refine ax.of_ev (E:=aw GC fsW) (ay xB) rfl P9 BV 1 ?_
 intro args r h
 unfold M31 at h
 split at h
 ·rename_i f t w k n
  simp only [Ry,Rz] at h
  obtain ⟨hn,rfl⟩:=h
  refine ⟨0,?_⟩
  rw [Dn]
  have m1:=mS f 0 (n-1)
  have m2:=mS t 0 (n-1)
  have m3:=mS w (-1000000) 1000000
  have m4:=mS k (-2) 2
  have b:ag .sub (.int .i64 n) (.int .i64 1)=some (.int .i64 (n-1)):=by
   simp only [ag]; rw [RH trivial,eV (by unfold inI; omega)]
  simp only
  obtain ⟨p1,hp1⟩:∃p,p=decide (0<=f/\f<=n-1):=⟨_,rfl⟩
  obtain ⟨p2,hp2⟩:∃p,p=decide (0<=t/\t<=n-1):=⟨_,rfl⟩
  obtain ⟨p3,hp3⟩:∃p,p=decide (-1000000<=w/\w<=1000000):=⟨_,rfl⟩
  obtain ⟨p4,hp4⟩:∃p,p=decide (-2<=k/\k<=2):=⟨_,rfl⟩
  rw [<-hp1] at m1 ⊢
  rw [<-hp2] at m2 ⊢
  rw [<-hp3] at m3 ⊢
  rw [<-hp4] at m4 ⊢
  obtain ⟨n1,hn1⟩:∃n1,n1=n-1:=⟨_,rfl⟩
  rw [<-hn1] at b m1 m2
  rw [aN _ _ rfl]
  cases p1
  ·simp [DQ,b,m1,-ag]
  ·cases p2
   ·simp [DQ,b,m1,m2,-ag]
   ·cases p3
    ·simp [DQ,b,m1,m2,m3,-ag]
    ·simp [DQ,b,m1,m2,m3,m4,-ag]
 ·cases h
open Go
def Bt (n:Int):AV:=.func (.func 96) [] [.fp [.int .i64 n]]
def FA:List (FuncId × aJ):=[(96,aG 4 M31)]
@[simp] theorem N2:aE FA 96=some (aG 4 M31):=rfl
theorem GW:∀f M,aE FA f=some M->au Try.prog GC f M:=ai (au.of_pure Ad 4) aB
def dw {α:Type} (p:α->Bool) (l:List α):Int:=match l.findIdx? p with
 | some i=>i
 | none=>-1
theorem bY {α:Type} {p:α->Bool} {l:List α} (hi:i<l.length) (h1:p l[i]=true) (h2:∀j (hj:j<i),p (l[j]'(by omega))=false):dw p l=(i:Int):=by
 have:l.findIdx? p=some i:=List.findIdx?_eq_some_iff_getElem.2 ⟨hi,h1,fun j hj=>by simpa using h2 j hj⟩
 unfold dw; rw [this]
theorem cd {α:Type} {p:α->Bool} {l:List α} (h:∀i (hi:i<l.length),p l[i]=false):dw p l = -1:=by
 have:l.findIdx? p=none:=by
  rw [List.findIdx?_eq_none_iff]
  intro x hx
  obtain ⟨i,hi,rfl⟩:=SD.1 hx
  exact h i hi
 unfold dw; rw [this]
theorem cP {α:Type} (p:α->Bool) (l:List α):decide (0<=dw p l)=l.any p:=by
 unfold dw
 cases h:l.findIdx? p with
 | some i=>
  obtain ⟨hi,h1,_⟩:=List.findIdx?_eq_some_iff_getElem.1 h
  show decide (0<=(i:Int))=_
  rw [RE (by omega),eq_comm,List.any_eq_true]
  exact ⟨_,RM hi,h1⟩
 | none=>
  rw [List.findIdx?_eq_none_iff] at h
  show decide (0<=(-1:Int))=_
  rw [RD (by omega),eq_comm,Tm]
  intro x hx; rw [h x hx]; simp
theorem ev44 {a:AV} {l:List br} (ha:cR a=some l) {n:Int} (hn:1<=n/\n<=32):evP (aw GC FA) (l.length+1) DP 1 [a,Bt n]=some (.int .i64 (dw (dK n) l)):=by
 obtain ⟨hl,hm⟩:=nk ha
 have round:∀(A:ac) (i:Nat) (hi:i<l.length),run (aw GC FA) (l.length+1) [.code kg] (nF a (Bt n) (.int .i64 (l.length:Int)) (.int .i64 (i:Int))) A =
   if dK n l[i]=false then some (.normal (nF a (Bt n) (.int .i64 (l.length:Int)) (.int .i64 ((i+1:Nat):Int))) A) else some (.ret [a,Bt n,.int .i64 (i:Int),.int .i64 (i:Int),.int .i64 (l.length:Int),.int .i64 (i:Int),.bool true,.bool true] A):=fun A i hi=>by
  have x1:=vG ha hi A .i64
  have m:M31 [.agg [.int .i64 l[i].f,.int .i64 l[i].t,.int .i64 l[i].w,.int .i64 l[i].k],.fp [.int .i64 n]]=some (.bool (dK n l[i])):=RH hn
  have b1:=a9 i l.length .i64
  rw [RE hi] at b1
  have b3:=aV i (by omega)
  obtain ⟨i1,hi1⟩:∃i1:Nat,i1=i+1:=⟨_,rfl⟩
  rw [<-hi1] at b3 ⊢
  obtain ⟨d,hd⟩:∃d,d=dK n l[i]:=⟨_,rfl⟩
  rw [<-hd] at m ⊢
  cases d with
  | false=>simp [kg,Bt,x1,m,frz,b1,b3,-ag,-ae,-aq]
  | true=>simp [kg,Bt,x1,m,frz,b1,-ag,-ae,-aq]
 rw [aN _ _ rfl]
 rcases cY (E:=aw GC FA) (fuel:=l.length+1) (a:=kg) (mask:=jA) (fun i=>nF a (Bt n) (.int .i64 (l.length:Int)) (.int .i64 (i:Int))) (fun _=>[]) l.length (fun i=>¬ ∀hi:i<l.length,dK n l[i]=false)
  (oF:=fun i=>.ret [a,Bt n,.int .i64 (i:Int),.int .i64 (i:Int),.int .i64 (l.length:Int),.int .i64 (i:Int),.bool true,.bool true] []) (oE:=.exit 0 ((nF a (Bt n) (.int .i64 (l.length:Int)) (.int .i64 (l.length:Int))).set 6 (.bool false)) [])
  (fun _=>FX) (fun _ _ _ h=>by cases h) (fun _ _ h=>by cases h)
  (fun i hi hp=>by
   rw [round [] i hi]
   exact RH (R7.1 hp hi))
  (fun i hi hp=>by
   rw [round [] i hi]
   exact RK fun h=>hp fun _=>h)
  (by simp [kg]) (Nat.lt_succ_self _) with ⟨i,hi,hp,hj,lp⟩ | ⟨hp,lp⟩
 ·have lp:bM (evC (aw GC FA) (l.length+1) kg) jA (l.length+1) (nF a (Bt n) (.int .i64 (l.length:Int)) (.int .i64 0)) []=_:=lp
  have e:dw (dK n) l=(i:Int):=bY hi (by
   cases h:dK n l[i] with
   | true=>rfl
   | false=>exact absurd (fun _=>h) hp) (fun j hj'=>R7.1 (hj j hj') (by omega))
  rw [e]
  simp [DP,hl,Fj lp,-ag,-aq]
 ·have lp:bM (evC (aw GC FA) (l.length+1) kg) jA (l.length+1) (nF a (Bt n) (.int .i64 (l.length:Int)) (.int .i64 0)) []=_:=lp
  have e:dw (dK n) l = -1:=cd fun i hi=>R7.1 (hp i hi) hi
  rw [e]
  simp [DP,hl,Fj lp,-ag,-aq]
def M44:aU:=fun args=>match args with
 | [a,.func (.func 96) [] [.fp [.int .i64 n]]]=>if 1<=n/\n<=32 then (cR a).map fun l=>.int .i64 (dw (dK n) l) else none
 | _=>none
theorem Ab:ax Try.prog GC 103 M44:=by
 refine ax.of_ev (E:=aw GC FA) (ay GW) rfl PZ BO 1 ?_
 intro args r h
 unfold M44 at h
 split at h
 ·simp only [Ry,RJ] at h
  obtain ⟨hn,l,hl,rfl⟩:=h
  exact ⟨_,ev44 hl hn⟩
 ·cases h
def M33:aU:=fun args=>match args with
 | [a,.func (.func 96) [] [.fp [.int .i64 n]]]=>if 1<=n/\n<=32 then (cR a).map fun l=>.bool (l.any (dK n)) else none
 | _=>none
def On:List (FuncId × aJ):=[(103,aG 4 M44)]
@[simp] theorem Om:aE On 103=some (aG 4 M44):=rfl
theorem G3:∀f M,aE On f=some M->au Try.prog GC f M:=ai (au.of_pure Ab 4) aB
theorem iO (z:Int):ag .geq (.int .i64 z) (.int .i64 0)=some (.bool (decide (0<=z))):=by simp [ag]
theorem Ac:ax Try.prog GC 97 M33:=by
 refine ax.of_ev (E:=aw GC On) (ay G3) rfl P7 BS 1 ?_
 intro args r h
 unfold M33 at h
 split at h
 ·rename_i a n
  simp only [Ry,RJ] at h
  obtain ⟨hn,l,hl,rfl⟩:=h
  refine ⟨0,?_⟩
  have m:M44 [a,.func (.func 96) [] [.fp [.int .i64 n]]]=some (.int .i64 (dw (dK n) l)):=by
   simp only [M44,hl,Ss]; exact RH hn
  have b:=iO (dw (dK n) l)
  rw [cP] at b
  have f1:=fR hl
  have f2:=gC hl
  obtain ⟨z,hz⟩:∃z,z=dw (dK n) l:=⟨_,rfl⟩
  rw [<-hz] at m b
  rw [aN _ _ rfl]
  simp [IL,m,b,f1,f2,frz,-ag]
 ·cases h
def dW (n:Int) (l:List br):Prop:=(1<=n/\n<=32)/\l.length<=200/\∀a∈l,okA n a
theorem CO (n:Int) (l:List br):l.any (dK n)=false↔∀a∈l,okA n a:=by
 rw [Tm]
 unfold dK
 simp
open Classical in
def M16:aU:=fun args=>match args with
 | [.int .i64 n,a]=>(cR a).map fun l=>.bool (decide (dW n l))
 | _=>none
def Bo:List (FuncId × aJ):=[(88,aG 4 M32),(97,aG 4 M33),(36,aG 4 M32)]
@[simp] theorem Pt:aE Bo 88=some (aG 4 M32):=rfl
@[simp] theorem Ps:aE Bo 97=some (aG 4 M33):=rfl
@[simp] theorem Pr:aE Bo 36=some (aG 4 M32):=rfl
theorem wi:∀f M,aE Bo f=some M->au Try.prog GC f M:=ai (au.of_pure ug 4) (ai (au.of_pure Ac 4) (ai (au.of_pure pQ 4) aB))
open Classical in
theorem nL:ax Try.prog GC 89 M16:=by
 refine ax.of_ev (E:=aw GC Bo) (ay wi) rfl LD vu 1 ?_
 intro args r h
 unfold M16 at h
 split at h
 ·rename_i n a
  simp only [RJ] at h
  obtain ⟨l,hl,rfl⟩:=h
  refine ⟨0,?_⟩
  have m1:=mS n 1 32
  have hlen:=(nk hl).1
  have f1:=fR hl
  have f2:=gC hl
  have b1:ag .leq (.int .i64 (l.length:Int)) (.int .i64 200)=some (.bool (decide (l.length<=200))):=by simp [ag]; omega
  rw [aN _ _ rfl]
  by_cases h1:1<=n/\n<=32
  rotate_left
  ·rw [RD h1] at m1
   rw [RD (show ¬ dW n l from fun h=>h1 h.1)]
   simp [si,m1,-ag,-aq]
  rw [RE h1] at m1
  by_cases h2:l.length<=200
  rotate_left
  ·rw [RD h2] at b1
   rw [RD (show ¬ dW n l from fun h=>h2 h.2.1)]
   simp [si,m1,hlen,b1,-ag,-aq]
  rw [RE h2] at b1
  have m2:M33 [a,.func (.func 96) [] [.fp [.int .i64 n]]]=some (.bool (l.any (dK n))):=by
   simp only [M33,hl,Ss]; exact RH h1
  have e:decide (dW n l)=!(l.any (dK n)):=by
   rw [Tf,Sr,SC,CO]
   exact ⟨fun h=>h.2.2,fun h=>⟨h1,h2,h⟩⟩
  rw [e]
  obtain ⟨d,hd⟩:∃d,d=l.any (dK n):=⟨_,rfl⟩
  rw [<-hd] at m2 ⊢
  simp [si,m1,m2,hlen,b1,f1,f2,frz,-ag,-aq]
 ·cases h
def cM (n:Int) (l:List br) (p:Int):Prop:=dW n l/\cT p
def br.len (a:br) (p:Int):Int:=a.w-p*a.k
theorem jf {n:Int} {a:br} (h:okA n a) (hp:cT p) : -3000000<=a.len p/\a.len p<=3000000 /\ -2000000<=p*a.k/\p*a.k<=2000000:=by
 obtain ⟨_,_,h3,h4⟩:=h
 unfold cT at hp
 unfold br.len
 have h5:a.k = -2\/a.k = -1\/a.k=0\/a.k=1\/a.k=2:=by omega
 rcases h5 with h | h | h | h | h <;> rw [h] <;> omega
open Go
theorem Rh (E:Env) (a n:Int) (ha:inI a) (hn:0<n):evP E 0 DS 1 [.int .i64 a,.int .i64 n]=some (.int .i64 (pick a n)):=by
 have h3:n≠0:=by omega
 rw [aN _ _ rfl]
 by_cases h:a<0
 ·have h1:IntKind.i64.wrap (a+1)=a+1:=eV (by unfold inI at *; omega)
  have h2:IntKind.i64.wrap (-(a+1)) = -(a+1):=eV (by unfold inI at *; omega)
  simp [DS,h,h1,h2,h3,pick]
 ·simp [DS,h,h3,pick]
def M12:aU:=fun args=>match args with
 | [.int .i64 a,.int .i64 n]=>if (-9223372036854775808<=a/\a<=9223372036854775807)/\0<n then some (.int .i64 (pick a n)) else none
 | _=>none
theorem dH {a n:Int} (ha:inI a) (hn:0<n):M12 [.int .i64 a,.int .i64 n]=some (.int .i64 (pick a n)):=RH ⟨ha,hn⟩
theorem EL:ax Try.prog GC 21 M12:=by
 refine ax.of_ev (E:=aw GC []) (ay aB) rfl Qd BZ 1 ?_
 intro args r h
 unfold M12 at h
 split at h
 ·simp only [Ry,Rz] at h
  obtain ⟨⟨h1,h2⟩,rfl⟩:=h
  exact ⟨0,Rh _ _ _ h1 h2⟩
 ·cases h
open Go
abbrev ge:=br × Nat
def num (l:List br):List ge:=l.zipIdx
def wA (p:Int) (x:ge):AV:=.agg [.int .i64 x.1.f,.int .i64 x.1.t,.int .i64 x.1.w,.int .i64 x.1.k,.int .i64 (x.2:Int),.int .i64 (x.1.len p)]
def ow (l:List br) (v:Nat):List ge:=(num l).filter fun x=>decide (x.1.f=(v:Int))
def wAs (p:Int) (l:List ge):List AV:=l.map (wA p)
theorem xO (l:List br) (i:Nat) (hi:i<l.length):num (l.take (i+1))=num (l.take i)++[(l[i],i)]:=by
 unfold num
 rw [SS hi,List.zipIdx_append]
 simp
 omega
theorem kA (l:List br):(num l).length=l.length:=by simp [num]
theorem gG (l:List br) (i:Nat) (hi:i<l.length):(num l)[i]?=some (l[i],i):=by
 simp [num,hi]
theorem mX {l:List br} {x:ge} (h:x∈num l):∃hi:x.2<l.length,l[x.2]=x.1:=by
 obtain ⟨i,hi,rfl⟩:=SD.1 h
 rw [kA] at hi
 have:=gG l i hi
 have h2:(num l)[i]'(by rw [kA]; exact hi)=(l[i],i):=by
  rw [Rx (by rw [kA]; exact hi)] at this
  exact Td this
 rw [h2]
 exact ⟨hi,rfl⟩
theorem Aw (l:List br) (i v:Nat) (hi:i<l.length):ow (l.take (i+1)) v=if l[i].f=(v:Int) then ow (l.take i) v++[(l[i],i)] else ow (l.take i) v:=by
 unfold ow
 rw [xO l i hi,List.filter_append]
 by_cases h:l[i].f=(v:Int) <;> simp [h]
theorem xM (l:List br) (v:Nat):(ow l v).length<=l.length:=by
 unfold ow
 have:=List.length_filter_le (fun x:ge=>decide (x.1.f=(v:Int))) (num l)
 rw [kA] at this
 exact this
def t5 (A:ac) (s:AV) (xs:List AV):Prop:=(s=.nilS/\xs=[])\/∃id gr,s=.sl id 0 xs.length/\xs≠[]/\2<=id/\A[id]?=some (.row 6 gr xs)
theorem t5.keep {s:AV} {xs:List AV} (h:t5 A s xs) (hAB:∀id,id∈bj s->B[id]?=A[id]?):t5 B s xs:=by
 rcases h with h | ⟨id,gr,rfl,h1,h2,h3⟩
 ·exact .inl h
 ·exact .inr ⟨id,gr,rfl,h1,h2,by rw [hAB id (by simp [bj]),h3]⟩
theorem t5.low {s:AV} {xs:List AV} (h:t5 A s xs):∀id,id∈bj s->2<=id/\id<A.length:=by
 rcases h with ⟨rfl,_⟩ | ⟨id,gr,rfl,h1,h2,h3⟩
 ·intro id h; simp [bj] at h
 ·intro j hj
  simp only [bj,Sg] at hj
  subst hj
  exact ⟨h2,(Rv.1 h3).1⟩
theorem t5.append {s:AV} {xs:List AV} (h:t5 A s xs) (x:AV) (hA:2<=A.length) (hl:xs.length<=1000) :
  ∃s' k A',aR 6 48 A s (.fs 6 [x])=some (.sl s' 0 k,A')/\t5 A' (.sl s' 0 k) (xs++[x])/\A.length<=A'.length/\(∀j,j<A.length->j ∉ bj s->A'[j]?=A[j]?)/\(s'∈bj s\/s'=A.length):=by
 rcases h with ⟨rfl,rfl⟩ | ⟨id,gr,rfl,h1,h2,h3⟩
 ·refine ⟨A.length,1,A++[.row 6 false [x]],by simp [aR,a8],.inr ⟨A.length,false,rfl,by simp,hA,by simp⟩,by simp,fun j hj _=>by rw [RC hj],.inr rfl⟩
 ·have hid:=(Rv.1 h3).1
  refine ⟨id,(xs++[x]).length,A.set id (.row 6 true (xs++[x])),?_,.inr ⟨id,true,rfl,by simp,h2,by simp [hid]⟩,by simp,fun j hj hn=>?_,.inl (by simp [bj])⟩
  ·simp only [aR,a8,h3]
   simp [h1]
   omega
  ·rw [RF (fun e=>hn (by simp [bj,e]))]
theorem FD (A:ac) (p:Int) (x:ge) (n:Nat):frz A (n+1) (wA p x)=wA p x:=by
 cases n <;> simp [frz,wA]
theorem t5.frz {s:AV} {l:List ge} (h:t5 A s (wAs p l)) (n:Nat):frz A (n+2) s=slA 6 (wAs p l):=by
 have e:(wAs p l).map (Proofs.Ytkcjhljbgjpklaa.frz A (n+1))=wAs p l:=by
  unfold wAs
  rw [Tc]
  apply Sb
  intro x _
  exact FD A p x n
 rcases h with ⟨rfl,h⟩ | ⟨id,gr,rfl,h1,h2,h3⟩
 ·rw [h]; rfl
 ·show Proofs.Ytkcjhljbgjpklaa.frz A (n+1+1) _=_
  simp only [Proofs.Ytkcjhljbgjpklaa.frz,h3]
  rw [RT,RX (RR _),e]
  cases hw:wAs p l with
  | nil=>exact absurd hw h1
  | cons y r=>rfl
theorem Ed (A:ac) (p:Int) (x:ge) (n:Nat):bo A (n+1) (wA p x)=true:=by
 cases n <;> simp [bo,wA]
theorem t5.fresh {s:AV} {l:List ge} (h:t5 A s (wAs p l)) (n:Nat):bo A (n+2) s=true:=by
 rcases h with ⟨rfl,h⟩ | ⟨id,gr,rfl,h1,h2,h3⟩
 ·rfl
 ·show bo A (n+1+1) _=_
  simp only [bo,h3]
  rw [RT,RX (RR _),RZ]
  intro y hy
  obtain ⟨x,_,rfl⟩:=Sa.1 hy
  exact Ed A p x n
def QC:MC:=.region [.a 12,.M 4 10 12,.K 4 1,.bf 7 4,.c 6 0,.r 4 7 2]
def QB:MC:=.region [.l 4 7,.a 6,.d 2 7,.b 1 2,.a 2,.d 3 7,.b 1 5,.cy 4 6,.ap 3 7,.a2 0 1 8,.z 8 6,.r 6 8 9]
def QA:MC:=.region [.a 5,.a 5,.R 1,.m 1 2,.b 1 3,.l 6 8,.ct 5,.cf 6 4 6,.R 0,.m 1 8,.A 1 9 7]
def M4:MC:=.regionD [] [.a 5,.R 0,.m 2 1,.b 1 2,.d 0 7,.b 1 4,.a 5,.R 6,.m 2 7,.b 1 8,.d 0 7,.b 1 10,.e 1 9 11,.b 1 12,.l 6 8,.ct 14,.cf 6 13 15,.e 1 3 5,.A 1 17 16] [(2,16),(3,16),(4,16),(5,16)]
theorem LQ:nU=.seq (.region [.B 13 12 11]) (.seq (.cond (.var 13) .skip (.exit 0)) (.seq (.seq (.block 1 (.seq QC (.seq QB (.seq QA M4)))) (.kill [0,1,3,4,6,7,8,9,13])) (.region [.u 12 1,.c 12 0]))):=rfl
theorem Nh (E:Env) (fuel:Nat) (K:List KC) (A:ac) {l:List br} (ha:cR a=some l) (hp:cT p) (hi:i<l.length) (hv:okA 32 l[i]) (w v13:AV) (X:MC) :
  run E fuel (.code QC :: .code (.seq QB X) :: K) [.undef,.undef,.int .i64 p,.undef,.undef,w,.undef,.undef,.undef,.undef,a,.int .i64 (l.length:Int),.int .i64 (i:Int),v13] A =
   run E fuel (.code X :: K) [.undef,.undef,.int .i64 p,.undef,.undef,w,.int .i64 (i:Int),.ptr A.length 0 0,.ptr (A.length+1) 0 0,.undef,a,.int .i64 (l.length:Int),.int .i64 (i:Int),v13] (A++[.row 4 false [db l[i]],.row 6 false [wA p (l[i],i)]]):=by
 have x1:=vG ha hi A .i64
 obtain ⟨k1,k2,k3,k4⟩:=jf hv hp
 obtain ⟨_,_,h3,h4⟩:=hv
 have b1:ag .mul (.int .i64 p) (.int .i64 l[i].k)=some (.int .i64 (p*l[i].k)):=by
  simp only [ag]; rw [RH trivial,eV (by unfold inI; omega)]
 have b2:ag .sub (.int .i64 l[i].w) (.int .i64 (p*l[i].k))=some (.int .i64 (l[i].len p)):=by
  simp only [ag]; rw [RH trivial,eV (by unfold br.len at k1 k2; unfold inI; omega)]; rfl
 unfold db wA
 simp only []
 obtain ⟨pk,hpk⟩:∃pk,pk=p*l[i].k:=⟨_,rfl⟩
 rw [<-hpk] at b1 b2
 simp [QC,QB,x1,b1,b2,-ag,-ae]
theorem r25c (E:Env) (fuel:Nat) (K:List KC) {B2:ac} {v2 v11 n va os:AV} {i8:Nat}
  (h1:B[1]?=some (.row 3 false [.agg [n,va,os]])) (h8:B[i8]?=some (.row 6 false [.agg [.int .i64 c1,.int .i64 c2,.int .i64 c3,.int .i64 c4,.int .i64 c5,.int .i64 c6]])) (ap:aR 6 48 B va (.fs 6 [.agg [.int .i64 c1,.int .i64 c2,.int .i64 c3,.int .i64 c4,.int .i64 c5,.int .i64 c6]])=some (.sl j 0 k,B2)) (h1':B2[1]?=some (.row 3 false [.agg [n,va,os]])) :
  run E fuel (.code QA :: K) [.undef,.undef,v2,.undef,.undef,.ptr 1 0 0,v6,v7,.ptr i8 0 0,.undef,v10,v11,v12,v13] B =
   run E fuel K [.undef,.undef,v2,.undef,.undef,.ptr 1 0 0,v6,v7,.ptr i8 0 0,.undef,v10,v11,v12,v13] (B2.set 1 (.row 3 false [.agg [n,.sl j 0 k,os]])):=by
 simp [QA,h1,h8,ap,h1']
theorem r25d (E:Env) (fuel:Nat) (K:List KC) {B2:ac} {v2 v11 n va o:AV} {i7 i8 f m:Nat} {os:List AV} {a:br}
  (h1:B[1]?=some (.row 3 false [.agg [n,va,.sl 0 0 m]])) (h7:B[i7]?=some (.row 4 false [db a])) (h8:B[i8]?=some (.row 6 false [.agg [.int .i64 c1,.int .i64 c2,.int .i64 c3,.int .i64 c4,.int .i64 c5,.int .i64 c6]])) (haf:a.f=(f:Int)) (hfm:f<m)
  (h0:B[0]?=some (.row 1 false os)) (ho:os[f]?=some o) (hs:o=.nilS\/∃i k,o=.sl i 0 k)
  (ap:aR 6 48 B o (.fs 6 [.agg [.int .i64 c1,.int .i64 c2,.int .i64 c3,.int .i64 c4,.int .i64 c5,.int .i64 c6]])=some (.sl j 0 k,B2)) (h0':B2[0]?=some (.row 1 false os)) (hid:∀j∈bj o,j≠1/\j≠i7) (hB1:B.length≠1) (hB7:B.length≠i7) :
  run E fuel (.code M4 :: K) [.undef,.undef,v2,.undef,.undef,.ptr 1 0 0,v6,.ptr i7 0 0,.ptr i8 0 0,.undef,v10,v11,v12,v13] B =
   run E fuel K [.undef,.undef,v2,.undef,.undef,.ptr 1 0 0,v6,.ptr i7 0 0,.ptr i8 0 0,.undef,v10,v11,v12,v13] (B2.set 0 (.row 1 false (os.set f (.sl j 0 k)))):=by
 have hB1':¬ 1=B.length:=fun e=>hB1 e.symm
 have hB7':¬ i7=B.length:=fun e=>hB7 e.symm
 simp only [db,haf] at h7
 rcases hs with rfl | ⟨i,q,rfl⟩
 ·simp [M4,h1,h7,h8,h0,ho,ap,h0',hB1',hB7',hfm]
 ·obtain ⟨hi1,hi7⟩:=hid i (by simp [bj])
  have hi1':¬ 1=i:=fun e=>hi1 e.symm
  have hi7':¬ i7=i:=fun e=>hi7 e.symm
  simp [M4,h1,h7,h8,h0,ho,ap,h0',hB1',hB7',hfm,hi1',hi7']
def CT (n:Nat) (p:Int) (l:List br) (i:Nat) (A:ac):Prop:=∃(va:AV) (os:List AV),A[0]?=some (.row 1 false os)/\A[1]?=some (.row 3 false [.agg [.int .i64 (n:Int),va,.sl 0 0 n]])/\os.length=n/\t5 A va (wAs p (num (l.take i))) /\
 (∀(v:Nat) (o:AV),os[v]?=some o->t5 A o (wAs p (ow (l.take i) v)))/\(∀(v:Nat) (o:AV) (j:Nat),os[v]?=some o->j∈bj o->j ∉ bj va)/\(∀(u v:Nat) (o q:AV) (j:Nat),u≠v->os[u]?=some o->os[v]?=some q->j∈bj o->j ∉ bj q)
theorem qa {n:Int} (h:0<=z/\z<=n-1):∃m:Nat,z=(m:Int)/\(m:Int)<n:=⟨z.toNat,by omega,by omega⟩
theorem t5.form2 {s:AV} {xs:List AV} (h:t5 A s xs):s=.nilS\/∃i k,s=.sl i 0 k:=by
 rcases h with ⟨rfl,_⟩ | ⟨id,gr,rfl,_⟩
 ·exact .inl rfl
 ·exact .inr ⟨_,_,rfl⟩
theorem Hs (E:Env) (fuel:Nat) (A:ac) {a:AV} {l:List br} (ha:cR a=some l) (hp:cT p) {n:Nat} (hn:n<=32) (hl200:l.length<=200) (hv:∀x∈l,okA n x) (hi:i<l.length) (hI:CT n p l i A) :
  ∃A',run E fuel [.code nU] (nH (.int .i64 p) (.ptr 1 0 0) a (.int .i64 (l.length:Int)) (.int .i64 (i:Int))) A=some (.normal (nH (.int .i64 p) (.ptr 1 0 0) a (.int .i64 (l.length:Int)) (.int .i64 ((i+1:Nat):Int))) A')/\CT n p l (i+1) A':=by
 obtain ⟨va,os,g0,g1,hos,gs,go,gd1,gd2⟩:=hI
 have hmem:=hv _ (RM hi)
 obtain ⟨f,hf,hfn⟩:=qa hmem.1
 have hv32:okA 32 l[i]:=by
  obtain ⟨h1,h2,h3,h4⟩:=hmem
  exact ⟨by omega,by omega,h3,h4⟩
 have hA2:2<=A.length:=(Rv.1 g1).1
 obtain ⟨B,hB⟩:∃B,B=A++[.row 4 false [db l[i]],.row 6 false [wA p (l[i],i)]]:=⟨_,rfl⟩
 have hAB:∀id,id<A.length->B[id]?=A[id]?:=fun id hid=>by rw [hB,RC hid]
 have h7:B[A.length]?=some (.row 4 false [db l[i]]):=by rw [hB]; simp
 have h8:B[A.length+1]?=some (.row 6 false [wA p (l[i],i)]):=by rw [hB,RS (by omega)]; simp
 have hBl:B.length=A.length+2:=by rw [hB]; simp
 have k0:=(hAB 0 (by omega)).trans g0
 have k1:=(hAB 1 (by omega)).trans g1
 have gsB:t5 B va (wAs p (num (l.take i))):=gs.keep fun id h=>hAB id (gs.low id h).2
 have hnl:(wAs p (num (l.take i))).length<=1000:=by simp [wAs,kA]; omega
 obtain ⟨ja,ka,B2,ap1,s1,len1,keep1,ids1⟩:=gsB.append (wA p (l[i],i)) (by omega) hnl
 have hva:=gs.low
 have q1:=(keep1 1 (by omega) fun h=>by have:=(hva 1 h).1; omega).trans k1
 obtain ⟨B3,hB3⟩:∃B3,B3=B2.set 1 (.row 3 false [.agg [.int .i64 (n:Int),(.sl ja 0 ka),.sl 0 0 n]]):=⟨_,rfl⟩
 have hB3l:B3.length=B2.length:=by rw [hB3]; simp
 have c1:B3[1]?=some (.row 3 false [.agg [.int .i64 (n:Int),(.sl ja 0 ka),.sl 0 0 n]]):=by rw [hB3]; exact RO (by omega)
 have hB23:∀id,id≠1->B3[id]?=B2[id]?:=fun id h=>by rw [hB3,RF (S4 h)]
 have c0:=((hB23 0 (by omega)).trans (keep1 0 (by omega) fun h=>by have:=(hva 0 h).1; omega)).trans k0
 have c7:=((hB23 A.length (by omega)).trans (keep1 A.length (by omega) fun h=>by have:=(hva _ h).2; omega)).trans h7
 have c8:=((hB23 (A.length+1) (by omega)).trans (keep1 (A.length+1) (by omega) fun h=>by have:=(hva _ h).2; omega)).trans h8
 have s1':t5 B3 (.sl ja 0 ka) (wAs p (num (l.take i))++[wA p (l[i],i)]):=s1.keep fun id h=>hB23 id (by have:=(s1.low id h).1; omega)
 obtain ⟨o,ho⟩:∃o,os[f]?=some o:=⟨os[f]'(by omega),Rx _⟩
 have keepO:∀v q,os[v]?=some q->t5 B3 q (wAs p (ow (l.take i) v)):=fun v q hq=>(go v q hq).keep fun id h=>by
  have:=(go v q hq).low id h
  rw [hB23 id (by omega),keep1 id (by omega) (gd1 v q id hq h),hAB id this.2]
 have so:=keepO f o ho
 have hol:(wAs p (ow (l.take i) f)).length<=1000:=by
  have:=xM (l.take i) f
  simp only [wAs,RN]
  simp at this; omega
 obtain ⟨jo,ko,B4,ap2,s2,len2,keep2,ids2⟩:=so.append (wA p (l[i],i)) (by omega) hol
 have hoi:=(go f o ho).low
 have d0:=(keep2 0 (by omega) fun h=>by have:=(hoi 0 h).1; omega).trans c0
 obtain ⟨B5,hB5⟩:∃B5,B5=B4.set 0 (.row 1 false (os.set f (.sl jo 0 ko))):=⟨_,rfl⟩
 have hB45:∀id,id≠0->B5[id]?=B4[id]?:=fun id h=>by rw [hB5,RF (S4 h)]
 have ids1':∀x,x∈bj (.sl ja 0 ka)->x∈bj va\/x=B.length:=fun x hx=>by
  simp only [bj,Sg] at hx
  rw [hx]; exact ids1
 have ids2':∀x,x∈bj (.sl jo 0 ko)->x∈bj o\/x=B3.length:=fun x hx=>by
  simp only [bj,Sg] at hx
  rw [hx]; exact ids2
 refine ⟨B5,?_,.sl ja 0 ka,os.set f (.sl jo 0 ko),?_,?_,?_,?_,?_,?_,?_⟩
 ·have r1:=fun K X=>Nh E fuel K A ha hp hi hv32 (.ptr 1 0 0) (.bool true) X
  rw [<-hB] at r1
  have r2:=fun K=>r25c E fuel K (B:=B) (B2:=B2) (v2:=.int .i64 p) (v6:=.int .i64 (i:Int)) (v7:=.ptr A.length 0 0) (v10:=a) (v11:=.int .i64 (l.length:Int)) (v12:=.int .i64 (i:Int)) (v13:=.bool true) (n:=.int .i64 (n:Int)) (va:=va) (j:=ja) (k:=ka) (os:=.sl 0 0 n) (i8:=A.length+1) k1 h8 ap1 q1
  rw [<-hB3] at r2
  have r3:=fun K=>r25d E fuel K (B:=B3) (B2:=B4) (v2:=.int .i64 p) (v6:=.int .i64 (i:Int)) (i7:=A.length) (v10:=a) (v11:=.int .i64 (l.length:Int)) (v12:=.int .i64 (i:Int)) (v13:=.bool true) (n:=.int .i64 (n:Int)) (va:=.sl ja 0 ka) (o:=o) (j:=jo) (k:=ko) (os:=os) (m:=n) (f:=f) (a:=l[i]) (i8:=A.length+1) c1 c7 c8 hf (by omega) c0 ho so.form2 ap2 d0 (fun j hj=>⟨by have:=(hoi j hj).1; omega,by have:=(hoi j hj).2; omega⟩) (by omega) (by omega)
  rw [<-hB5] at r3
  have b1:=a9 i l.length .i64
  rw [RE hi] at b1
  have b3:=aV i (by omega)
  obtain ⟨i1,hi1⟩:∃i1:Nat,i1=i+1:=⟨_,rfl⟩
  rw [<-hi1] at b3 ⊢
  rw [LQ]
  simp [b1,b3,r1,r2,r3,-ag]
 ·rw [hB5]; exact RO (by omega)
 ·rw [hB45 1 (by omega),keep2 1 (by omega) fun h=>by have:=(hoi 1 h).1; omega]
  exact c1
 ·simp [hos]
 ·rw [xO l i hi,show wAs p (num (l.take i)++[(l[i],i)])=wAs p (num (l.take i))++[wA p (l[i],i)] by simp [wAs]]
  refine s1'.keep fun id h=>?_
  have h1:=s1'.low id h
  rw [hB45 id (by omega),keep2 id h1.2 fun h2=>?_]
  rcases ids1' id h with h3 | h3
  ·exact gd1 f o id ho h2 h3
  ·have:=(hoi id h2).2; omega
 ·intro v q hq
  rw [Aw l i v hi]
  by_cases hvf:v=f
  ·subst hvf
   rw [RO (by omega)] at hq
   injection hq with hq; subst hq
   rw [RH hf,show wAs p (ow (l.take i) v++[(l[i],i)])=wAs p (ow (l.take i) v)++[wA p (l[i],i)] by simp [wAs]]
   exact s2.keep fun id h=>hB45 id (by have:=(s2.low id h).1; omega)
  ·rw [RF (S4 hvf)] at hq
   rw [RK (by rw [hf]; omega)]
   refine (keepO v q hq).keep fun id h=>?_
   have h1:=(keepO v q hq).low id h
   rw [hB45 id (by omega),keep2 id h1.2 (gd2 v f q o id hvf hq ho h)]
 ·intro v q j hq hj hj2
  have hnew:j∈bj va\/j=B.length:=ids1' j hj2
  by_cases hvf:v=f
  ·subst hvf
   rw [RO (by omega)] at hq
   injection hq with hq; subst hq
   have h5:=(s1.low j hj2).2
   rcases ids2' j hj with h3 | h3
   ·have:=(hoi j h3).2
    rcases hnew with h4 | h4
    ·exact gd1 v o j ho h3 h4
    ·omega
   ·omega
  ·rw [RF (S4 hvf)] at hq
   have:=((go v q hq).low j hj).2
   rcases hnew with h4 | h4
   ·exact gd1 v q j hq hj h4
   ·omega
 ·intro u v q r j huv hq hr hj hj2
  by_cases huf:u=f
  ·subst huf
   rw [RO (by omega)] at hq
   injection hq with hq; subst hq
   rw [RF huv] at hr
   have:=((go v r hr).low j hj2).2
   rcases ids2' j hj with h3 | h3
   ·exact gd2 u v o r j huv ho hr h3 hj2
   ·omega
  ·rw [RF (S4 huf)] at hq
   have:=((go u q hq).low j hj).2
   by_cases hvf:v=f
   ·subst hvf
    rw [RO (by omega)] at hr
    injection hr with hr; subst hr
    rcases ids2' j hj2 with h3 | h3
    ·exact gd2 u v q o j huv hq ho hj h3
    ·omega
   ·rw [RF (S4 hvf)] at hr
    exact gd2 u v q r j huv hq hr hj hj2
theorem aM (A:ac) (n:Nat) (k:IntKind) (z:Int):frz A n (.int k z)=.int k z:=by cases n <;> rfl
def dk (n:Nat) (p:Int) (l:List br):AV:=.fp [.int .i64 (n:Int),slA 6 (wAs p (num l)),.fs 1 ((List.range n).map fun v=>slA 6 (wAs p (ow l v)))]
theorem CT.frz {l:List br} (h:CT n p l l.length A) (k:Nat):Proofs.Ytkcjhljbgjpklaa.frz A (k+4) (.ptr 1 0 0)=dk n p l:=by
 obtain ⟨va,os,g0,g1,hos,gs,go,_,_⟩:=h
 rw [Se] at gs go
 show Proofs.Ytkcjhljbgjpklaa.frz A (k+3+1) _=_
 simp only [Proofs.Ytkcjhljbgjpklaa.frz,g1,Sz]
 rw [RH ⟨rfl,by simp [cellsOf]⟩]
 have e2:Proofs.Ytkcjhljbgjpklaa.frz A (k+3) (.sl 0 0 n)=.fs 1 ((List.range n).map fun v=>slA 6 (wAs p (ow l v))):=by
  show Proofs.Ytkcjhljbgjpklaa.frz A (k+2+1) _=_
  simp only [Proofs.Ytkcjhljbgjpklaa.frz,g0]
  rw [RT,RX (by omega)]
  congr 1
  apply SO (by simp [hos])
  intro v h1 h2
  simp only [SA,T4]
  exact (go v _ (Rx (by simpa using h1))).frz k
 simp only [cellsOf,RT,SG,Uy,e2]
 rw [show Proofs.Ytkcjhljbgjpklaa.frz A (k+3) va=slA 6 (wAs p (num l)) from gs.frz (k+1)]
 simp [dk,Proofs.Ytkcjhljbgjpklaa.frz]
theorem CT.fresh {l:List br} (h:CT n p l l.length A) (k:Nat):bo A (k+4) (.ptr 1 0 0)=true:=by
 obtain ⟨va,os,g0,g1,hos,gs,go,_,_⟩:=h
 rw [Se] at gs go
 have e2:bo A (k+3) (.sl 0 0 n)=true:=by
  show bo A (k+2+1) _=_
  simp only [bo,g0]
  rw [RT,RX (by omega),RZ]
  intro x hx
  obtain ⟨v,hv,rfl⟩:=SD.1 hx
  exact (go v _ (Rx hv)).fresh k
 have e1:bo A (k+3) va=true:=gs.fresh (k+1)
 show bo A (k+3+1) _=_
 simp only [bo,g1,Sz,cellsOf,AV.solid,List.all_cons,List.all_nil,Bool.and_true,Bool.true_and,Sv,TM]
 simp only [bo] at e1 e2
 rw [e1,e2]; rfl
theorem J9 (E:Env) (fuel:Nat) (A:ac) {a:AV} {l:List br} (ha:cR a=some l) (hp:cT p) (hn:n<=32) (hl200:l.length<=200) (hv:∀x∈l,okA n x) (hI:CT n p l 0 A) :
  ∃A',CT n p l l.length A'/\bM (evC E fuel nU) lO (l.length+1) (nH (.int .i64 p) (.ptr 1 0 0) a (.int .i64 (l.length:Int)) (.int .i64 0)) A=some (.exit 0 ((nH (.int .i64 p) (.ptr 1 0 0) a (.int .i64 (l.length:Int)) (.int .i64 (l.length:Int))).set 13 (.bool false)) A'):=by
 obtain ⟨o,h1,A',h2,h3⟩:=iq (E:=E) (fuel:=fuel) (a:=nU) (mask:=lO) (fun k σ A=>∃i,i+k=l.length/\σ=nH (.int .i64 p) (.ptr 1 0 0) a (.int .i64 (l.length:Int)) (.int .i64 (i:Int))/\CT n p l i A)
  (fun o=>∃A',CT n p l l.length A'/\o=.exit 0 ((nH (.int .i64 p) (.ptr 1 0 0) a (.int .i64 (l.length:Int)) (.int .i64 (l.length:Int))).set 13 (.bool false)) A')
  (by
   rintro k σ A ⟨i,hik,rfl,hI⟩
   rw [F0]
   by_cases hi:i<l.length
   ·obtain ⟨A',h1,h2⟩:=Hs E fuel A ha hp hn hl200 hv hi hI
    exact .inl ⟨_,_,h1,k-1,by omega,i+1,by omega,rfl,h2⟩
   ·obtain rfl:i=l.length:=by omega
    refine .inr ⟨_,?_,?_,A,hI,rfl⟩
    ·simp [nU]
    ·intro _ _ h; cases h)
  (l.length+1) l.length _ A (by omega) ⟨0,by omega,rfl,hI⟩
 exact ⟨A',h2,by rw [<-h3]; exact h1⟩
open Classical in
def M25:aU:=fun args=>match args with
 | [.int .i64 n,a,.int .i64 p]=>(cR a).map fun l=>if cM n l p then .tup [dk n.toNat p l,.bool true] else .tup [.nilP,.bool false]
 | _=>none
def Bk:List (FuncId × aJ):=[(89,aG 4 M16),(72,aG 4 M41)]
@[simp] theorem OO:aE Bk 89=some (aG 4 M16):=rfl
@[simp] theorem OL:aE Bk 72=some (aG 4 M41):=rfl
theorem G4:∀f M,aE Bk f=some M->au Try.prog GC f M:=ai (au.of_pure nL 4) (ai (au.of_pure pO 4) aB)
open Classical in
theorem ta:cm Try.prog GC 73 M25:=by
 refine cm.of_ev (E:=aw GC Bk) (ay G4) rfl Qb BX 5 ?_
 intro args r h
 unfold M25 at h
 split at h
 ·rename_i n a p
  simp only [RJ] at h
  obtain ⟨l,hl,rfl⟩:=h
  refine ⟨l.length+1,?_⟩
  have m1:M16 [.int .i64 n,a]=some (.bool (decide (dW n l))):=by simp only [M16,hl,Ss]
  have m2:M41 [.int .i64 p]=some (.bool (decide (cT p))):=rfl
  have f1:=fR hl
  have f2:=gC hl
  have hlen:=(nk hl).1
  rw [gI _ _ rfl]
  by_cases h1:dW n l
  rotate_left
  ·rw [RK (fun h=>h1 h.1)]
   rw [RD h1] at m1
   simp [De,m1,f1,f2,frz,bo,dE]
  rw [RE h1] at m1
  by_cases h2:cT p
  rotate_left
  ·rw [RK (fun h=>h2 h.2)]
   rw [RD h2] at m2
   simp [De,m1,m2,f1,f2,frz,bo,dE]
  rw [RE h2] at m2
  rw [RH ⟨h1,h2⟩]
  obtain ⟨m,rfl⟩:∃m:Nat,n=(m:Int):=⟨n.toNat,by have:=h1.1; omega⟩
  have hm:1<=m/\m<=32:=by have:=h1.1; omega
  have hI:CT m p l 0 [.row 1 false (List.replicate m .nilS),.row 3 false [.agg [.int .i64 (m:Int),.nilS,.sl 0 0 m]]]:=by
   refine ⟨.nilS,List.replicate m .nilS,rfl,rfl,by simp,.inl ⟨rfl,rfl⟩,fun v o ho=>?_,fun v o j ho hj=>?_,fun u v o q j _ ho _ hj=>?_⟩
   ·rw [SW] at ho
    split at ho
    ·injection ho with ho; subst ho
     exact .inl ⟨rfl,rfl⟩
    ·cases ho
   ·simp [bj]
   ·rw [SW] at ho
    split at ho
    ·injection ho with ho; subst ho
     simp [bj] at hj
    ·cases ho
  obtain ⟨A',hW,lp⟩:=J9 (aw GC Bk) (l.length+1) _ hl h2 hm.2 h1.2.1 h1.2.2 hI
  have z1:frz A' 5 (.tup [.ptr 1 0 0,.bool true])=.tup [dk m p l,.bool true]:=by
   have:=hW.frz 0
   show AV.tup [frz A' 4 (.ptr 1 0 0),frz A' 4 (.bool true)]=_
   rw [this]; rfl
  have z2:bo A' 5 (.tup [.ptr 1 0 0,.bool true])=true:=by
   have:=hW.fresh 0
   show [AV.ptr 1 0 0,.bool true].all (bo A' 4)=true
   simp only [List.all_cons,this]; rfl
  have p1:dE [.ptr 1 0 0,.bool true]=.tup [.ptr 1 0 0,.bool true]:=rfl
  have e1:(m:Int).toNat=m:=by omega
  have hm0:¬ m=0:=by omega
  have mk:bU 1 24 .nilS [] (.int .i64 (m:Int)) (.int .i64 (m:Int))=some (.sl 0 0 m,[.row 1 false (List.replicate m .nilS)]):=by
   simp [bU]; omega
  rw [e1]
  simp [De,m1,m2,f1,f2,hlen,Kt lp,mk,aM,z1,z2,-aq,-bU,-frz]
 ·cases h
open Go
abbrev dD:=Nat × Nat × Int
def isW (L:List dD):Nat->List dD->Nat->Prop
 | u,[],v=>u=v
 | u,a :: r,v=>a∈L/\a.1=u/\isW L a.2.1 r v
def kD:List dD->Int
 | []=>0
 | a :: r=>a.2.2+kD r
def IT:Nat->List dD->Nat
 | u,[]=>u
 | _,a :: r=>IT a.2.1 r
section
variable {L:List dD}
theorem io:∀(r s:List dD),kD (r++s)=kD r+kD s
 | [],s=>by simp [kD]
 | a :: r,s=>by
  simp only [List.cons_append,kD,io r s]
  omega
theorem kG:∀ {r s:List dD} {u v:Nat},isW L u (r++s) v↔∃m,isW L u r m/\isW L m s v
 | [],s,u,v=>⟨fun h=>⟨u,rfl,h⟩,by rintro ⟨m,rfl,h⟩; exact h⟩
 | a :: r,s,u,v=>by
  simp only [List.cons_append,isW,kG (r:=r) (s:=s)]
  constructor
  ·rintro ⟨h1,h2,m,h3,h4⟩; exact ⟨m,⟨h1,h2,h3⟩,h4⟩
  ·rintro ⟨m,⟨h1,h2,h3⟩,h4⟩; exact ⟨h1,h2,m,h3,h4⟩
theorem qo:∀ {r:List dD} {u v:Nat},isW L u r v->IT u r=v
 | [],_,_,h=>h
 | a :: r,_,_,⟨_,_,h⟩=>qo (r:=r) (u:=a.2.1) h
theorem BB (hL:∀a∈L,a.1<n/\a.2.1<n):∀ {r:List dD} {u v:Nat},u<n->isW L u r v->v<n
 | [],_,_,h,e=>e ▸ h
 | _ :: _,_,_,_,⟨h1,_,h3⟩=>BB hL (hL _ h1).2 h3
theorem uu:∀(n:Nat) (s:Nat->Nat),(∀i,i<=n->s i<n)->∃i j,i<j/\j<=n/\s i=s j
 | 0,s,h=>absurd (h 0 (RR _)) (by omega)
 | n+1,s,h=>by
  by_cases hx:∃i,i<=n/\s i=s (n+1)
  ·obtain ⟨i,hi,he⟩:=hx
   exact ⟨i,n+1,by omega,RR _,he⟩
  ·have hx':∀i,i<=n->s i≠s (n+1):=fun i hi he=>hx ⟨i,hi,he⟩
   obtain ⟨i,j,h1,h2,h3⟩:=uu n (fun i=>if s i=n then s (n+1) else s i) (fun i hi=>by
    have a1:=h i (by omega)
    have a2:=h (n+1) (RR _)
    have a3:=hx' i hi
    show (if s i=n then s (n+1) else s i)<n
    split <;> omega)
   refine ⟨i,j,h1,by omega,?_⟩
   have a1:=hx' i (by omega)
   have a2:=hx' j (by omega)
   have h3:(if s i=n then s (n+1) else s i)=(if s j=n then s (n+1) else s j):=h3
   split at h3 <;> split at h3 <;> omega
theorem HP (hL:∀a∈L,a.1<n/\a.2.1<n) {r:List dD} (hu:u<n) (h:isW L u r v) (hn:n<=r.length) :
  ∃p c q m,r=p++c++q/\isW L u p m/\isW L m c m/\isW L m q v/\1<=c.length/\c.length<=n:=by
 have key:∀i,i<=r.length->∃m,isW L u (r.take i) m/\isW L m (r.drop i) v:=fun i _=>by
  have h':=h
  rw [<-Tb i r] at h'
  exact kG.1 h'
 obtain ⟨i,j,hij,hj,he⟩:=uu n (fun i=>IT u (r.take i)) (fun i hi=>by
  obtain ⟨m,h1,_⟩:=key i (by omega)
  show IT u (r.take i)<n
  rw [qo h1]
  exact BB hL hu h1)
 obtain ⟨m1,a1,b1⟩:=key i (by omega)
 obtain ⟨m2,a2,b2⟩:=key j (by omega)
 have e1:=qo a1
 have e2:=qo a2
 have he:IT u (r.take i)=IT u (r.take j):=he
 have e3:m1=m2:=by rw [<-e1,<-e2,he]
 subst e3
 have hs:r.drop i=(r.drop i).take (j-i)++r.drop j:=by
  conv=>lhs; rw [<-Tb (j-i) (r.drop i)]
  rw [List.drop_drop]
  congr 2; omega
 have hs2:r.take j=r.take i++(r.drop i).take (j-i):=by
  have:j=i+(j-i):=by omega
  conv=>lhs; rw [this]
  rw [List.take_add]
 rw [hs2] at a2
 obtain ⟨m,c1,c2⟩:=kG.1 a2
 have e4:m=m1:=by rw [<-qo c1,e1]
 subst e4
 refine ⟨r.take i,(r.drop i).take (j-i),r.drop j,m,?_,a1,c2,b2,?_,?_⟩
 ·rw [R1,<-hs,Tb]
 ·simp; omega
 ·simp; omega
def CY (L:List dD) (n:Nat):Prop:=∀u c,isW L u c u->1<=c.length->c.length<=n->kD c<=0
theorem JH (hL:∀a∈L,a.1<n/\a.2.1<n) (hN:CY L n):∀(k:Nat) (r:List dD) (u v:Nat),r.length=k->u<n->isW L u r v->∃r',isW L u r' v/\r'.length<n/\kD r<=kD r':=by
 intro k
 induction k using Nat.strongRecOn with
 | ind k ih=>
  intro r u v hk hu h
  by_cases hn:r.length<n
  ·exact ⟨r,h,hn,S5 _⟩
  ·obtain ⟨p,c,q,m,hr,h1,h2,h3,h4,h5⟩:=HP hL hu h (by omega)
   have hc:=hN m c h2 h4 h5
   obtain ⟨r',k1,k2,k3⟩:=ih (p++q).length (by rw [<-hk,hr]; simp; omega) (p++q) u v rfl hu (kG.2 ⟨m,h1,h3⟩)
   refine ⟨r',k1,k2,?_⟩
   rw [hr,io,io]
   rw [io] at k3
   omega
def kT (L:List dD) (s:List Int):Prop:=∀a∈L,s.getD a.1 0+a.2.2<=s.getD a.2.1 0
theorem mh (h:kT L s):∀ {r:List dD} {u v:Nat},isW L u r v->s.getD u 0+kD r<=s.getD v 0
 | [],u,v,e=>by rw [show u=v from e]; simp [kD]
 | a :: r,u,v,⟨h1,h2,h3⟩=>by
  have k1:=h a h1
  have k2:=mh h h3
  rw [h2] at k1
  simp only [kD]
  omega
theorem wK (h:kT L s) (n:Nat):CY L n:=fun u c hc _ _=>by
 have:=mh h hc
 omega
def q6 (s:List Int) (a:dD):List Int:=if s.getD a.1 0+a.2.2 > s.getD a.2.1 0 then s.set a.2.1 (s.getD a.1 0+a.2.2) else s
def kW (L:List dD) (s:List Int):List Int:=L.foldl q6 s
def upL:List dD->List Int->Bool
 | [],_=>false
 | a :: L,s=>decide (s.getD a.1 0+a.2.2 > s.getD a.2.1 0) || upL L (q6 s a)
theorem oM (s:List Int) (a:dD):(q6 s a).length=s.length:=by unfold q6; split <;> simp
theorem fL:∀(L:List dD) (s:List Int),(kW L s).length=s.length
 | [],_=>rfl
 | a :: L,s=>by
  have:=fL L (q6 s a)
  simp only [kW,Sj] at this ⊢
  rw [this,oM]
theorem Ea (s:List Int) (i j:Nat) (x:Int) (hi:i<s.length):(s.set i x).getD j 0=if i=j then x else s.getD j 0:=by
 rw [Rw,Rw]
 by_cases h:i=j
 ·subst h
  rw [RO hi,RH rfl]; rfl
 ·rw [RF h,RK h]
theorem tA {a:dD} (ha:a.2.1<s.length) (v:Nat):(q6 s a).getD v 0=if a.2.1=v then max (s.getD v 0) (s.getD a.1 0+a.2.2) else s.getD v 0:=by
 unfold q6
 by_cases h:s.getD a.1 0+a.2.2 > s.getD a.2.1 0
 ·rw [RH h,Ea _ _ _ _ ha]
  split
  ·rename_i e
   subst e
   omega
  ·rfl
 ·rw [RK h]
  split
  ·rename_i e
   subst e
   omega
  ·rfl
theorem gL:∀ {L:List dD} {s:List Int},upL L s=false->kW L s=s/\kT L s
 | [],s,_=>⟨rfl,fun a h=>by cases h⟩
 | a :: L,s,h=>by
  simp only [upL,Bool.or_eq_false_iff,TU] at h
  obtain ⟨h1,h2⟩:=h
  have e:q6 s a=s:=by unfold q6; rw [RK h1]
  rw [e] at h2
  obtain ⟨k1,k2⟩:=gL h2
  refine ⟨?_,fun b hb=>?_⟩
  ·simp only [kW,Sj,e]; exact k1
  ·rcases Su.1 hb with rfl | hb
   ·omega
   ·exact k2 b hb
theorem pw:∀ {L:List dD} {s:List Int},kT L s->upL L s=false
 | [],_,_=>rfl
 | a :: L,s,h=>by
  have h1:=h a (by simp)
  have e:q6 s a=s:=by unfold q6; rw [RK (by omega)]
  simp only [upL,e,Bool.or_eq_false_iff,TU]
  exact ⟨by omega,pw fun b hb=>h b (by simp [hb])⟩
theorem wz:∀ {L:List dD} {s:List Int},s.length=n->(∀a∈L,a.2.1<n)->(∀v,s.getD v 0<=(kW L s).getD v 0)/\∀a∈L,s.getD a.1 0+a.2.2<=(kW L s).getD a.2.1 0
 | [],s,_,_=>⟨fun v=>S5 _,fun a h=>by cases h⟩
 | a :: L,s,hs,hL=>by
  have ha:=hL a (by simp)
  obtain ⟨k1,k2⟩:=wz (L:=L) (s:=q6 s a) (by rw [oM,hs]) (fun b hb=>hL b (by simp [hb]))
  have e:kW (a :: L) s=kW L (q6 s a):=rfl
  rw [e]
  have g:=fun v=>tA (s:=s) (a:=a) (by omega) v
  have g1:∀v,s.getD v 0<=(q6 s a).getD v 0:=fun v=>by
   rw [g]; split <;> omega
  refine ⟨fun v=>UA (g1 v) (k1 v),fun b hb=>?_⟩
  rcases Su.1 hb with rfl | hb
  ·refine UA ?_ (k1 _)
   rw [g,RH rfl]; omega
  ·have:=k2 b hb
   have h0:=g1 b.1
   omega
def Ey (L:List dD) (n:Nat) (s:List Int):Prop:=∀v,v<n->∃u r,u<n/\isW L u r v/\kD r=s.getD v 0
theorem Ap {L:List dD} (hL:∀a∈L,a.1<n/\a.2.1<n) (hs:s.length=n) (hw:Ey L n s) {a:dD} (ha:a∈L):Ey L n (q6 s a):=fun v hv=>by
 rw [tA (by have:=(hL a ha).2; omega)]
 by_cases h:a.2.1=v
 ·rw [RH h]
  by_cases hm:s.getD a.1 0+a.2.2<=s.getD v 0
  ·obtain ⟨u,r,h1,h2,h3⟩:=hw v hv
   exact ⟨u,r,h1,h2,by omega⟩
  ·obtain ⟨u,r,h1,h2,h3⟩:=hw a.1 (hL a ha).1
   refine ⟨u,r++[a],h1,kG.2 ⟨a.1,h2,ha,rfl,h⟩,?_⟩
   rw [io,h3]
   simp only [kD]
   omega
 ·rw [RK h]; exact hw v hv
theorem pW {L0:List dD} (hL:∀a∈L0,a.1<n/\a.2.1<n):∀ {L:List dD} {s:List Int},(∀a∈L,a∈L0)->s.length=n->Ey L0 n s->Ey L0 n (kW L s)
 | [],_,_,_,h=>h
 | a :: L,s,hs0,hs,hw=>pW hL (L:=L) (s:=q6 s a) (fun b hb=>hs0 b (by simp [hb])) (by rw [oM,hs]) (Ap hL hs hw (hs0 a (by simp)))
def lev (L:List dD):Nat->List Int->List Int × Bool
 | 0,s=>(s,!upL L s)
 | m+1,s=>if upL L s=false then (s,true) else lev L m (kW L s)
def cr (L:List dD) (n:Nat):List Int × Bool:=lev L n (List.replicate n 0)
theorem wJ {L:List dD} (hL:∀a∈L,a.1<n/\a.2.1<n):∀(m:Nat) (s:List Int),s.length=n->Ey L n s->(∀v,0<=s.getD v 0) ->
  (lev L m s).1.length=n/\Ey L n (lev L m s).1/\(∀v,0<=(lev L m s).1.getD v 0)/\((lev L m s).2=true->kT L (lev L m s).1)
 | 0,s,hs,hw,h0=>⟨hs,hw,h0,fun h=>(gL (by simpa [lev] using h)).2⟩
 | m+1,s,hs,hw,h0=>by
  unfold lev
  by_cases h:upL L s=false
  ·rw [RH h]
   exact ⟨hs,hw,h0,fun _=>(gL h).2⟩
  ·rw [RK h]
   exact wJ hL m _ (by rw [fL,hs]) (pW hL (fun _ h=>h) hs hw) fun v=>UA (h0 v) ((wz hs (fun a ha=>(hL a ha).2)).1 v)
theorem pn (L:List dD) (n:Nat):Ey L n (List.replicate n 0):=fun v hv=>⟨v,[],hv,rfl,by simp [kD,hv]⟩
theorem kZ (n v:Nat):(List.replicate n (0:Int)).getD v 0=0:=by
 rw [Rw]
 by_cases h:v<n <;> simp [h]
theorem Kf {L:List dD} (hL:∀a∈L,a.1<n/\a.2.1<n) (hN:CY L n):∀(m k:Nat) (s:List Int),m+k=n->s.length=n->Ey L n s->(∀v,0<=s.getD v 0)->(∀r u v,isW L u r v->u<n->r.length<=k->kD r<=s.getD v 0)->(lev L m s).2=true:=by
 intro m
 induction m with
 | zero=>
  intro k s hk hs hw h0 hr
  have:kT L s:=fun a ha=>by
   obtain ⟨h1,h2⟩:=hL a ha
   obtain ⟨u,r,k1,k2,k3⟩:=hw a.1 h1
   obtain ⟨r',q1,q2,q3⟩:=JH hL hN _ (r++[a]) u a.2.1 rfl k1 (kG.2 ⟨a.1,k2,ha,rfl,rfl⟩)
   have:=hr r' u a.2.1 q1 k1 (by omega)
   rw [io] at q3
   simp only [kD] at q3
   omega
  simp [lev,pw this]
 | succ m ih=>
  intro k s hk hs hw h0 hr
  unfold lev
  by_cases h:upL L s=false
  ·rw [RH h]
  ·rw [RK h]
   have hge:=wz hs (fun a ha=>(hL a ha).2)
   refine ih (k+1) _ (by omega) (by rw [fL,hs]) (pW hL (fun _ h=>h) hs hw) (fun v=>UA (h0 v) (hge.1 v)) fun r u v hw' hu hl=>?_
   by_cases he:r=[]
   ·subst he
    have:u=v:=hw'
    subst this
    exact UA (by simpa [kD] using h0 u) (hge.1 u)
   ·obtain ⟨q,a,rfl⟩:∃q a,r=q++[a]:=⟨r.dropLast,r.getLast he,(List.dropLast_concat_getLast he).symm⟩
    obtain ⟨m',k1,k2,k3,k4⟩:=kG.1 hw'
    have e:a.2.1=v:=k4
    subst e
    have h1:=hr q u m' k1 hu (by simp at hl; omega)
    have h2:=hge.2 a k2
    rw [<-k3] at h1
    rw [io]
    simp only [kD]
    omega
theorem ql {L:List dD} (hL:∀a∈L,a.1<n/\a.2.1<n):(cr L n).2=true↔CY L n:=by
 constructor
 ·intro h
  exact wK ((wJ hL n _ (by simp) (pn L n) (fun v=>by rw [kZ]; exact S5 _)).2.2.2 h) n
 ·intro h
  refine Kf hL h n 0 _ (by omega) (by simp) (pn L n) (fun v=>by rw [kZ]; exact S5 _) fun r u v hw _ hl=>?_
  have:r=[]:=Si.1 (by omega)
  subst this
  rw [kZ]; simp [kD]
theorem nY {L:List dD} (hL:∀a∈L,a.1<n/\a.2.1<n):(cr L n).1.length=n/\(∀v,0<=(cr L n).1.getD v 0)/\Ey L n (cr L n).1/\((cr L n).2=true->kT L (cr L n).1) /\
  ∀x:List Int,kT L x->(∀v,v<n->0<=x.getD v 0)->∀v,v<n->(cr L n).1.getD v 0<=x.getD v 0:=by
 obtain ⟨h1,h2,h3,h4⟩:=wJ hL n _ (by simp) (pn L n) (fun v=>by rw [kZ]; exact S5 _)
 refine ⟨h1,h3,h2,h4,fun x hx h0 v hv=>?_⟩
 obtain ⟨u,r,k1,k2,k3⟩:=h2 v hv
 have:=mh hx k2
 have:=h0 u k1
 unfold cr
 omega
end
open Go
def lar (p:Int) (l:List br):List dD:=l.map fun a=>(a.f.toNat,a.t.toNat,a.len p)
theorem s8 (p:Int) (l:List br):(wAs p (num l)).length=l.length:=by simp [wAs,kA]
theorem I8 (p:Int) {l:List br} (hi:i<l.length):(wAs p (num l))[i]?=some (wA p (l[i],i)):=by
 simp [wAs,gG l i hi]
theorem ub (p:Int) {l:List br} (hi:i<l.length) (A:ac) (k:IntKind):ae 6 A (slA 6 (wAs p (num l))) (.int k (i:Int))=some (.fp [.int .i64 l[i].f,.int .i64 l[i].t,.int .i64 l[i].w,.int .i64 l[i].k,.int .i64 (i:Int),.int .i64 (l[i].len p)]):=
 (ba 6 (wAs p (num l))).index (A:=A) (I8 p hi) rfl (by omega) k
theorem uK (h:i<s.length):(aj s)[i]?=some (.int .i64 (s.getD i 0)):=by
 simp [aj,h]
def Bd (lo hi:Int) (s:List Int):Prop:=∀v,v<s.length->lo<=s.getD v 0/\s.getD v 0<=hi
theorem Aq {lo:Int} {a:dD} (h:Bd lo hi s) (hf:a.1<s.length) (ht:a.2.1<s.length) (hw:a.2.2<=3000000):Bd lo (hi+3000000) (q6 s a):=fun v hv=>by
 rw [oM] at hv
 rw [tA ht]
 have h1:=h v hv
 have h2:=h _ hf
 split <;> omega
theorem AR {l:List br} (hi:i<l.length):(lar p l)[i]?=some (l[i].f.toNat,l[i].t.toNat,l[i].len p):=by simp [lar,hi]
theorem pX {L:List dD} {a:dD} (h:L[i]?=some a) (s:List Int):kW (L.take (i+1)) s=q6 (kW (L.take i) s) a:=by
 obtain ⟨hi,rfl⟩:=Rv.1 h
 unfold kW
 rw [SS hi,List.foldl_append]
 rfl
theorem xk:∀ {L:List dD} {i:Nat} {a:dD},L[i]?=some a->∀s,upL (L.take (i+1)) s=(upL (L.take i) s || decide ((kW (L.take i) s).getD a.1 0+a.2.2 > (kW (L.take i) s).getD a.2.1 0))
 | [],i,a,h,s=>by simp at h
 | b :: L,0,a,h,s=>by
  simp at h; subst h
  simp [upL,kW]
 | b :: L,i+1,a,h,s=>by
  simp only [SV] at h
  have:=xk h (q6 s b)
  simp only [List.take_succ_cons,upL,this,Bool.or_assoc]
  rfl
def Qz:MC:=.region [.M 6 5 7,.K 6 0,.z 3 6,.r 6 3 1]
def Qy:MC:=.region [.a 1,.d 0 3,.m 0 1,.b 1 2,.e 1 0 3,.b 1 4,.d 5 3,.b 1 6,.o 5 7,.c 4 8]
def Qx:MC:=.region [.a 4,.a 1,.d 0 3,.m 1 2,.b 1 3,.e 1 1 4,.b 1 5,.bl 9 0 6]
def Qw:MC:=.region [.a 1,.d 0 3,.m 1 1,.b 1 2,.a 4,.e 1 0 3,.A 1 5 4,.I 2]
theorem F7:ex=.seq (.region [.B 8 7 6]) (.seq (.cond (.var 8) .skip (.exit 0)) (.seq (.seq (.block 1 (.seq Qz (.seq Qy (.seq Qx (.cond (.var 9) Qw .skip))))) (.kill [0,3,4,8,9])) (.region [.u 7 1,.c 7 0]))):=rfl
theorem r37a (E:Env) (fuel:Nat) (K:List KC) (A:ac) (X:MC) {l:List br} (hi:i<l.length) (v1 v2 v6 v8:AV) :
  run E fuel (.code (.seq Qz X) :: K) [.undef,v1,v2,.undef,.undef,slA 6 (wAs p (num l)),v6,.int .i64 (i:Int),v8,.undef] A =
   run E fuel (.code X :: K) [.undef,v1,v2,.ptr A.length 0 0,.undef,slA 6 (wAs p (num l)),v6,.int .i64 (i:Int),v8,.undef] (A++[.row 6 false [wA p (l[i],i)]]):=by
 have x1:=ub p hi A .i64
 obtain ⟨W,hW⟩:∃W,W=slA 6 (wAs p (num l)):=⟨_,rfl⟩
 rw [<-hW] at x1 ⊢
 simp [Qz,x1,wA,-ae]
def F5 (A0:ac) (id:Nat) (s:List Int) (A:ac):Prop:=A[id]?=some (.row 1 false (aj s))/\A0.length<=A.length/\∀j,j≠id->j<A0.length->A[j]?=A0[j]?
theorem AX (s:List Int) (i:Nat) (z:Int):(aj s).set i (.int .i64 z)=aj (s.set i z):=by
 unfold aj; rw [Up]
theorem Hq (E:Env) (fuel:Nat) {A0:ac} {s:List Int} {p:Int} {l:List br} (hn:s.length=n) (hp:cT p) (hv:∀x∈l,okA n x) (hn32:n<=32) (hl200:l.length<=200) {i:Nat} (hi:i<l.length) {b:Bool} (hb:Bd (-100000000000000) 100000000000000 s) (_hid:id<A0.length) (hI:F5 A0 id s A) :
  ∃A',run E fuel [.code ex] (eI (.sl id 0 n) (.bool b) (slA 6 (wAs p (num l))) (.int .i64 (l.length:Int)) (.int .i64 (i:Int))) A=some (.normal (eI (.sl id 0 n) (.bool (b || decide (s.getD l[i].f.toNat 0+l[i].len p > s.getD l[i].t.toNat 0))) (slA 6 (wAs p (num l))) (.int .i64 (l.length:Int)) (.int .i64 ((i+1:Nat):Int))) A')/\F5 A0 id (q6 s (l[i].f.toNat,l[i].t.toNat,l[i].len p)) A':=by
 obtain ⟨g1,g2,g3⟩:=hI
 have hmem:=hv _ (RM hi)
 obtain ⟨f,hf,hfn⟩:=qa hmem.1
 obtain ⟨t,ht,htn⟩:=qa hmem.2.1
 have hv32:okA 32 l[i]:=by
  obtain ⟨h1,h2,h3,h4⟩:=hmem
  exact ⟨by omega,by omega,h3,h4⟩
 obtain ⟨k1,k2,_,_⟩:=jf hv32 hp
 obtain ⟨w,hw⟩:∃w,w=l[i].len p:=⟨_,rfl⟩
 obtain ⟨B,hB⟩:∃B,B=A++[.row 6 false [wA p (l[i],i)]]:=⟨_,rfl⟩
 have r1:=fun K X=>r37a E fuel K A X (p:=p) hi (.sl id 0 n) (.bool b) (.int .i64 (l.length:Int)) (.bool true)
 rw [<-hB] at r1
 have hidA:id<A.length:=(Rv.1 g1).1
 have c1:B[id]?=some (.row 1 false (aj s)):=by rw [hB,RC hidA]; exact g1
 have c8:B[A.length]?=some (.row 6 false [.agg [.int .i64 (f:Int),.int .i64 (t:Int),.int .i64 l[i].w,.int .i64 l[i].k,.int .i64 (i:Int),.int .i64 w]]):=by
  rw [hB,hw]; simp [wA,hf,ht]
 obtain ⟨i8,hi8⟩:∃i8,i8=A.length:=⟨_,rfl⟩
 rw [<-hi8] at r1 c8
 have hBl:A0.length<=B.length:=by rw [hB]; simp; omega
 have hBo:∀j,j≠id->j<A0.length->B[j]?=A0[j]?:=fun j hj hl=>by rw [hB,RC (by omega)]; exact g3 j hj hl
 have ef:=uK (s:=s) (i:=f) (by omega)
 have et:=uK (s:=s) (i:=t) (by omega)
 have bf:=hb f (by omega)
 have bt:=hb t (by omega)
 rw [<-hw] at k1 k2
 have e1:l[i].f.toNat=f:=by omega
 have e2:l[i].t.toNat=t:=by omega
 rw [e1,e2,<-hw]
 obtain ⟨x,hx⟩:∃x,x=s.getD f 0:=⟨_,rfl⟩
 obtain ⟨y,hy⟩:∃y,y=s.getD t 0:=⟨_,rfl⟩
 rw [<-hx] at ef bf ⊢
 rw [<-hy] at et bt ⊢
 have b2:ag .add (.int .i64 x) (.int .i64 w)=some (.int .i64 (x+w)):=by
  simp only [ag]; rw [RH trivial,eV (by unfold inI; omega)]
 have b4:ag .gtr (.int .i64 (x+w)) (.int .i64 y)=some (.bool (decide (x+w > y))):=by simp [ag]
 have b1:=a9 i l.length .i64
 rw [RE hi] at b1
 have b3:=aV i (by omega)
 obtain ⟨i1,hi1⟩:∃i1:Nat,i1=i+1:=⟨_,rfl⟩
 rw [<-hi1] at b3 ⊢
 have er:q6 s (f,t,w)=if x+w > y then s.set t (x+w) else s:=by unfold q6; rw [hx,hy]
 rw [er]
 obtain ⟨z,hz⟩:∃z,z=x+w:=⟨_,rfl⟩
 rw [<-hz] at b2 b4 ⊢
 obtain ⟨W,hW⟩:∃W,W=slA 6 (wAs p (num l)):=⟨_,rfl⟩
 rw [<-hW] at r1 ⊢
 have hfn':f<n:=by omega
 have htn':t<n:=by omega
 by_cases hc:z > y
 ·rw [RH hc]
  rw [RE hc] at b4 ⊢
  refine ⟨B.set id (.row 1 false (aj (s.set t z))),?_,?_,?_,?_⟩
  ·rw [<-AX]
   rw [F7]
   simp [b1,b3,r1,Qy,Qx,Qw,c1,c8,ef,et,b2,b4,hfn',htn',-ag]
  ·exact RO (by rw [hB]; simp; omega)
  ·simp; omega
  ·intro j hj hl
   rw [RF (S4 hj)]; exact hBo j hj hl
 ·rw [RK hc]
  rw [RD hc] at b4 ⊢
  refine ⟨B,?_,c1,hBl,hBo⟩
  rw [F7]
  simp [b1,b3,r1,Qy,Qx,Qw,c1,c8,ef,et,b2,b4,hfn',htn',-ag]
theorem ev37 {E:Env} {n:Nat} {s:List Int} {p:Int} {l:List br} (hn:s.length=n) (hp:cT p) (hv:∀x∈l,okA n x) (hn32:n<=32) (hl200:l.length<=200) (hb:Bd (-1000000000000) hi s) (hhi:hi<=1000000000000) (hid:A[id]?=some (.row 1 false (aj s))) :
  ∃A',cc E 300 vS [dk n p l,.sl id 0 n] A=some (.bool (upL (lar p l) s),A')/\F5 A id (kW (lar p l) s) A':=by
 have hlt:=(Rv.1 hid).1
 have hlen:(lar p l).length=l.length:=by simp [lar]
 have bd:∀i,i<=l.length->Bd (-1000000000000) (hi+3000000*i) (kW ((lar p l).take i) s):=by
  intro i
  induction i with
  | zero=>intro _; simpa [kW] using hb
  | succ i ih=>
   intro hi'
   have h1:=ih (by omega)
   have h2:=AR (p:=p) (l:=l) (i:=i) (by omega)
   rw [pX h2]
   have hmem:=hv _ (RM (show i<l.length by omega))
   obtain ⟨q1,q2,q3,q4⟩:=hmem
   have hle:=jf (n:=32) (a:=l[i]) ⟨by omega,by omega,q3,q4⟩ hp
   have:=Aq (a:=(l[i].f.toNat,l[i].t.toNat,l[i].len p)) h1 (by rw [fL]; simp only; omega) (by rw [fL]; simp only; omega) (by simp only; omega)
   intro v hv'
   have:=this v hv'
   omega
 obtain ⟨o,h1,A',h2,h3⟩:=iq (E:=E) (fuel:=300) (a:=ex) (mask:=eT) (fun k σ B=>∃i,i+k=l.length/\σ=eI (.sl id 0 n) (.bool (upL ((lar p l).take i) s)) (slA 6 (wAs p (num l))) (.int .i64 (l.length:Int)) (.int .i64 (i:Int))/\F5 A id (kW ((lar p l).take i) s) B)
  (fun o=>∃A',F5 A id (kW (lar p l) s) A'/\o=.exit 0 ((eI (.sl id 0 n) (.bool (upL (lar p l) s)) (slA 6 (wAs p (num l))) (.int .i64 (l.length:Int)) (.int .i64 (l.length:Int))).set 8 (.bool false)) A')
  (by
   rintro k σ B ⟨i,hik,rfl,hI⟩
   rw [qO]
   by_cases hi':i<l.length
   ·have hb':=bd i (by omega)
    have h2:=AR (p:=p) hi'
    obtain ⟨B',h1,h3⟩:=Hq E 300 (s:=kW ((lar p l).take i) s) (n:=n) (b:=upL ((lar p l).take i) s) (by rw [fL,hn]) hp hv hn32 hl200 hi' (fun v hv'=>by have:=hb' v hv'; omega) hlt hI
    refine .inl ⟨_,_,h1,k-1,by omega,i+1,by omega,?_,?_⟩
    ·rw [xk h2]
    ·rw [pX h2]; exact h3
   ·obtain rfl:i=l.length:=by omega
    rw [RX (by omega)] at hI ⊢
    refine .inr ⟨_,?_,?_,B,hI,rfl⟩
    ·simp [ex]
    ·intro _ _ h; cases h)
  300 l.length (eI (.sl id 0 n) (.bool false) (slA 6 (wAs p (num l))) (.int .i64 (l.length:Int)) (.int .i64 0)) A (by omega) ⟨0,by omega,by simp [upL],by simpa [kW] using ⟨hid,RR _,fun _ _ _=>rfl⟩⟩
 refine ⟨A',?_,h2⟩
 subst h3
 rw [bh _ _ rfl]
 have hlen2:aq (slA 6 (wAs p (num l)))=some (.int .i64 (l.length:Int)):=by rw [tH,s8]
 unfold dk
 obtain ⟨W,hW⟩:∃W,W=slA 6 (wAs p (num l)):=⟨_,rfl⟩
 rw [<-hW] at h1 hlen2 ⊢
 simp [vS,hlen2,Bf h1,dE,-aq]
theorem xy:au Try.prog GC 90 (fun _=>cc (aw GC []) 300 vS):=(b7 (ay aB) rfl P6 BR bG.nil).y
open Go
theorem aA (xs:List Int):(aj xs).length=xs.length:=by simp [aj]
theorem MP (E:Env) (fuel:Nat) (h:de A 1 a (aj xs)) (hne:xs≠[]) (hl:xs.length<=1000):cc E fuel qb [a] A=some (.sl (A.length+1) 0 xs.length,A++[.dead,.row 1 false (aj xs)]):=by
 have hne':aj xs≠[]:=by simpa [aj] using hne
 have hlen:(aj xs).length=xs.length:=by simp [aj]
 rw [bh _ _ rfl]
 obtain ⟨es,hes⟩:∃es,es=aj xs:=⟨_,rfl⟩
 rw [<-hes] at h hne' hlen ⊢
 rw [<-hlen] at hl ⊢
 have hb:es.length*8<=140737488355328:=by omega
 rcases h with h | ⟨id,off,gr,rs,rfl,h1,h2⟩
 ·rcases h with ⟨_,h⟩ | rfl
  ·exact absurd h hne'
  ·simp [qb,dE,aR,a8,hb]
 ·have hid:=(Rv.1 h1).1
  have h1':∀T,(A++T)[id]?=some (.row 1 gr rs):=fun T=>by rw [RC hid,h1]
  simp [qb,dE,aR,a8,h1',h2,hb]
theorem iR:au Try.prog GC 40 (fun _=>cc (aw GC []) 0 qb):=(b7 (ay aB) rfl IW sN bG.nil).y
def zi:List (FuncId × aJ):=[(90,fun _=>cc (aw GC []) 300 vS),(40,fun _=>cc (aw GC []) 0 qb)]
@[simp] theorem OH:aE zi 90=some (fun _=>cc (aw GC []) 300 vS):=rfl
@[simp] theorem OG:aE zi 40=some (fun _=>cc (aw GC []) 0 qb):=rfl
theorem wg:∀f M,aE zi f=some M->au Try.prog GC f M:=ai xy (ai iR aB)
def M26:aU:=fun args=>evF (aw GC zi) 300 uC 5 args
theorem Ae:cm Try.prog GC 74 M26:=cm.of_ev (E:=aw GC zi) (ay wg) rfl LB vr 5 fun _ _ h=>⟨300,h⟩
theorem Hy {n:Nat} {p:Int} {l:List br} (hp:cT p) (hv:∀x∈l,okA n x) (hn32:n<=32) (hl200:l.length<=200) {lo:Int} (hs:s.length=n) (hb:Bd lo hi s):Bd lo (hi+600000000) (kW (lar p l) s):=by
 have hlen:(lar p l).length=l.length:=by simp [lar]
 have bd:∀i,i<=l.length->Bd lo (hi+3000000*i) (kW ((lar p l).take i) s):=by
  intro i
  induction i with
  | zero=>intro _; simpa [kW] using hb
  | succ i ih=>
   intro hi'
   have h1:=ih (by omega)
   have h2:=AR (p:=p) (l:=l) (i:=i) (by omega)
   rw [pX h2]
   have hmem:=hv _ (RM (show i<l.length by omega))
   obtain ⟨q1,q2,q3,q4⟩:=hmem
   have hle:=jf (n:=32) (a:=l[i]) ⟨by omega,by omega,q3,q4⟩ hp
   have:=Aq (a:=(l[i].f.toNat,l[i].t.toNat,l[i].len p)) h1 (by rw [fL]; simp only; omega) (by rw [fL]; simp only; omega) (by simp only; omega)
   intro v hv'
   have:=this v hv'
   omega
 have:=bd l.length (RR _)
 rw [RX (by omega)] at this
 intro v hv'
 have:=this v hv'
 omega
theorem CA {l:List br} (hn:s.length=n) (hp:cT p) (hv:∀x∈l,okA n x) (hn32:n<=32) (hl200:l.length<=200) (hb:Bd (-1000000000000) hi s) (hhi:hi<=1000000000000) (hid:A[id]?=some (.row 1 false (aj s))) :
  ∃A',cc (aw GC []) 300 vS [dk n p l,.sl id 0 n] A=some (.bool (upL (lar p l) s),A')/\F5 A id (kW (lar p l) s) A':=ev37 hn hp hv hn32 hl200 hb hhi hid
def gw (L:List dD):Nat->List Int->List Int
 | 0,s=>s
 | k+1,s=>kW L (gw L k s)
theorem eR (L:List dD) (s:List Int):∀k,(gw L k s).length=s.length
 | 0=>rfl
 | k+1=>by rw [gw,fL,eR L s k]
theorem Ao {L:List dD} (h:upL L s=false):∀k,gw L k s=s
 | 0=>rfl
 | k+1=>by rw [gw,Ao h k,(gL h).1]
theorem lx (L:List dD) (s:List Int):∀k,gw L (k+1) s=gw L k (kW L s)
 | 0=>rfl
 | k+1=>by rw [gw,lx L s k]; rfl
theorem E6 (L:List dD):∀(m:Nat) (s:List Int),lev L m s=if _h:∃k,k<m/\upL L (gw L k s)=false then (gw L m s,true) else (gw L m s,!upL L (gw L m s))
 | 0,s=>by
  rw [dif_neg (by rintro ⟨k,h,_⟩; omega)]; rfl
 | m+1,s=>by
  unfold lev
  by_cases h:upL L s=false
  ·rw [RH h,UO ⟨0,by omega,h⟩,Ao h]
  ·rw [RK h,E6 L m,lx]
   by_cases h2:∃k,k<m/\upL L (gw L k (kW L s))=false
   ·rw [UO h2]
    obtain ⟨k,hk,h3⟩:=h2
    rw [UO ⟨k+1,by omega,by rw [lx]; exact h3⟩]
   ·rw [dif_neg h2,dif_neg]
    rintro ⟨k,hk,h3⟩
    cases k with
    | zero=>exact h h3
    | succ k=>exact h2 ⟨k,by omega,by rw [lx] at h3; exact h3⟩
theorem sZ {l:List br} (hr:cM n l p):M26 [dk n p l]=some (.tup [slA 1 (aj (cr (lar p l) n).1),.bool (cr (lar p l) n).2]):=by
 obtain ⟨⟨hn,hl200,hv⟩,hp⟩:=hr
 have hn32:n<=32:=by omega
 obtain ⟨L,hL⟩:∃L,L=lar p l:=⟨_,rfl⟩
 obtain ⟨z,hz⟩:∃z,z=List.replicate n (0:Int):=⟨_,rfl⟩
 have hzl:z.length=n:=by rw [hz]; simp
 have hbd:∀k:Nat,Bd (-1000000000000) (600000000*k) (gw L k z):=by
  intro k
  induction k with
  | zero=>
   intro v hv'
   have:(gw L 0 z).getD v 0=0:=by rw [gw,hz]; exact kZ n v
   rw [this]; omega
  | succ k ih=>
   rw [gw]
   have:=Hy hp hv hn32 hl200 (by rw [eR]; exact hzl) ih
   rw [<-hL] at this
   intro v hv'
   have:=this v hv'
   omega
 have h37:∀(A:ac) (k:Nat),k<=33->A[0]?=some (.row 1 false (aj (gw L k z)))->∃A',cc (aw GC []) 300 vS [dk n p l,.sl 0 0 n] A=some (.bool (upL L (gw L k z)),A')/\F5 A 0 (gw L (k+1) z) A':=fun A k hk hA=>by
  have:=CA (s:=gw L k z) (by rw [eR]; exact hzl) hp hv hn32 hl200 (hbd k) (by omega) hA
  rw [<-hL] at this
  exact this
 obtain ⟨W1,O,hW⟩:∃W1 O,dk n p l=.fp [.int .i64 (n:Int),W1,O]:=⟨_,_,rfl⟩
 obtain ⟨o,h1,h2⟩:=iq (E:=aw GC zi) (fuel:=300) (a:=qj) (mask:=oU) (fun k σ A=>∃i,i+k=n/\σ=rU (dk n p l) (.sl 0 0 n) (.int .i64 (n:Int)) (.int .i64 (i:Int))/\A[0]?=some (.row 1 false (aj (gw L i z)))/\∀j,j<i->upL L (gw L j z)=true)
  (fun o=>(∃A' i d6 d7 ,i<n/\upL L (gw L i z)=false/\(∀j,j<i->upL L (gw L j z)=true)/\A'[0]?=some (.row 1 false (aj (gw L (i+1) z)))/\o=.ret [dk n p l,.sl 0 0 n,.bool true,.sl 0 0 n,.int .i64 (n:Int),.int .i64 (i:Int),d6,d7] A') \/
   (∃A',(∀j,j<n->upL L (gw L j z)=true)/\A'[0]?=some (.row 1 false (aj (gw L n z)))/\o=.exit 0 ((rU (dk n p l) (.sl 0 0 n) (.int .i64 (n:Int)) (.int .i64 (n:Int))).set 6 (.bool false)) A'))
  (by
   rintro k σ A ⟨i,hik,rfl,hA,hup⟩
   rw [FZ]
   rw [hW] at h37 ⊢
   by_cases hi':i<n
   ·obtain ⟨A',c1,c2⟩:=h37 A i (by omega) hA
    have b1:=a9 i n .i64
    rw [RE hi'] at b1
    have b3:=aV i (by omega)
    obtain ⟨i1,hi1⟩:∃i1:Nat,i1=i+1:=⟨_,rfl⟩
    rw [<-hi1] at b3
    cases hu:upL L (gw L i z) with
    | true=>
     rw [hu] at c1
     refine .inl ⟨rU (.fp [.int .i64 (n:Int),W1,O]) (.sl 0 0 n) (.int .i64 (n:Int)) (.int .i64 ((i+1:Nat):Int)),A',?_,k-1,by omega,i+1,by omega,rfl,c2.1,fun j hj=>?_⟩
     ·rw [<-hi1]
      simp [qj,b1,b3,c1,-ag]
     ·by_cases hji:j=i
      ·rw [hji]; exact hu
      ·exact hup j (by omega)
    | false=>
     rw [hu] at c1
     refine .inr ⟨.ret [.fp [.int .i64 (n:Int),W1,O],.sl 0 0 n,.bool true,.sl 0 0 n,.int .i64 (n:Int),.int .i64 (i:Int),.bool true,.bool true] A',?_,(fun _ _ h=>by cases h),.inl ⟨A',i,_,_,hi',hu,hup,c2.1,rfl⟩⟩
     simp [qj,b1,c1,-ag]
   ·obtain rfl:i=n:=by omega
    refine .inr ⟨_,?_,?_,.inr ⟨A,hup,hA,rfl⟩⟩
    ·simp [qj]
    ·intro _ _ h; cases h)
  300 n (rU (dk n p l) (.sl 0 0 n) (.int .i64 (n:Int)) (.int .i64 0)) [.row 1 false (aj z)] (by omega) ⟨0,by omega,rfl,rfl,fun j hj=>by omega⟩
 have mk:bU 1 8 (.int .i64 0) [] (.int .i64 (n:Int)) (.int .i64 (n:Int))=some (.sl 0 0 n,[.row 1 false (aj z)]):=by
  have:aj z=List.replicate n (.int .i64 0):=by rw [hz]; simp [aj]
  rw [this]; simp [bU]; omega
 have hfz:∀(A:ac) (s:List Int),s.length=n->A[0]?=some (.row 1 false (aj s))->frz A 4 (.sl 0 0 n)=slA 1 (aj s)/\bo A 4 (.sl 0 0 n)=true:=fun A s hs h0=>by
  constructor
  ·show frz A (3+1) _=_
   simp only [frz,h0,RT]
   rw [RX (by simp [aj]; omega),uR]
   cases s with
   | nil=>simp at hs; omega
   | cons x r=>rfl
  ·show bo A (3+1) _=_
   simp only [bo,h0,RT]
   rw [RX (by simp [aj]; omega)]
   exact vJ _ _ _
 have hf5:∀(A:ac) (s:List Int) (b:Bool),s.length=n->A[0]?=some (.row 1 false (aj s))->frz A 5 (.tup [.sl 0 0 n,.bool b])=.tup [slA 1 (aj s),.bool b]/\bo A 5 (.tup [.sl 0 0 n,.bool b])=true:=fun A s b hs h0=>by
  obtain ⟨q1,q2⟩:=hfz A s hs h0
  constructor
  ·show AV.tup [frz A 4 (.sl 0 0 n),frz A 4 (.bool b)]=_
   rw [q1]; rfl
  ·show [AV.sl 0 0 n,.bool b].all (bo A 4)=true
   simp only [List.all_cons,q2]; rfl
 have p1:∀b,dE [.sl 0 0 n,.bool b]=.tup [.sl 0 0 n,.bool b]:=fun _=>rfl
 have hlev:cr (lar p l) n=lev L n z:=by unfold cr; rw [hL,hz]
 rw [hlev,E6]
 unfold M26
 rw [gI _ _ rfl]
 rcases h2 with ⟨A',i,d6,d7,hin,hu,hup,hA',rfl⟩ | ⟨A',hup,hA',rfl⟩
 ·rw [UO ⟨i,hin,hu⟩]
  have hst:gw L n z=gw L (i+1) z:=by
   have e:∀k,gw L (i+k) z=gw L i z:=fun k=>by
    induction k with
    | zero=>rfl
    | succ k ih=>rw [show i+(k+1)=(i+k)+1 by omega,gw,ih,(gL hu).1]
   have h3:=e (n-i)
   have h4:=e 1
   rw [show i+(n-i)=n by omega] at h3
   rw [h3,h4]
  rw [hst]
  obtain ⟨q1,q2⟩:=hf5 A' _ true (by rw [eR]; exact hzl) hA'
  rw [hW] at h1 ⊢
  simp [uC,mk,Fp h1,q1,q2,-frz,-bU]
 ·rw [dif_neg (by
   rintro ⟨k,hk,h⟩
   rw [hup k hk] at h; cases h)]
  obtain ⟨A2,c1,c2⟩:∃A2,cc (aw GC []) 300 vS [dk n p l,.sl (A'.length+1) 0 n] (A'++[.dead,.row 1 false (aj (gw L n z))])=some (.bool (upL L (gw L n z)),A2)/\F5 (A'++[.dead,.row 1 false (aj (gw L n z))]) (A'.length+1) (gw L (n+1) z) A2:=by
   have:=CA (A:=A'++[.dead,.row 1 false (aj (gw L n z))]) (id:=A'.length+1) (s:=gw L n z) (by rw [eR]; exact hzl) hp hv hn32 hl200 (hbd n) (by omega) (by rw [RS (by omega)]; simp)
   rw [<-hL] at this
   exact this
  have hlt:=(Rv.1 hA').1
  have h38:=MP (aw GC []) 0 (A:=A') (a:=.sl 0 0 n) (xs:=gw L n z) (.inr ⟨0,0,false,aj (gw L n z),by rw [aA,eR,hzl],hA',by rw [RT,Se]⟩) (by
   intro h
   have:=Uk List.length h
   rw [eR,hzl] at this
   simp at this; omega) (by rw [eR,hzl]; omega)
  rw [eR,hzl] at h38
  have hA2:A2[0]?=some (.row 1 false (aj (gw L n z))):=by
   rw [c2.2.2 0 (by omega) (by simp),RC hlt,hA']
  obtain ⟨q1,q2⟩:=hf5 A2 _ (!upL L (gw L n z)) (by rw [eR]; exact hzl) hA2
  rw [hW] at h1 c1 ⊢
  simp [uC,mk,Fp h1,h38,c1,q1,q2,-frz,-bU]
open Go
abbrev LP:=Int × Bool
def lA (x:LP):AV:=.agg [.int .i64 x.1,.bool x.2]
def gf (x:LP) (n:Int):LP:=if x.2=false/\x.1=0 then x else (x.1+n,x.2)
def lG (x y:LP):LP:=if x.2=false\/(y.2=true/\y.1 > x.1) then y else x
def M51:aU:=fun args=>match args with
 | [.agg [.int .i64 x,.bool b],.int .i64 n]=>if -9223372036854775808<=x+n/\x+n<=9223372036854775807 then some (lA (gf (x,b) n)) else none
 | _=>none
theorem xw:ax Try.prog GC 102 M51:=by
 refine ax.of_ev (E:=aw GC []) (ay aB) rfl at51 Lc 2 ?_
 intro args r h
 unfold M51 at h
 split at h
 ·rename_i x b n
  simp only [Ry,Rz] at h
  obtain ⟨h1,rfl⟩:=h
  refine ⟨0,?_⟩
  have b1:ag .add (.int .i64 x) (.int .i64 n)=some (.int .i64 (x+n)):=by
   simp only [ag]; rw [RH trivial,eV h1]
  obtain ⟨z,hz⟩:∃z,z=x+n:=⟨_,rfl⟩
  rw [<-hz] at b1
  rw [aN _ _ rfl]
  unfold gf lA
  simp only [<-hz]
  cases b with
  | true=>simp [MD,b1,-ag]
  | false=>
   by_cases hx:x=0
   ·subst hx
    simp [MD,-ag]
   ·simp [MD,b1,hx,-ag]
 ·cases h
def M52:aU:=fun args=>match args with
 | [.agg [.int .i64 x,.bool b],.agg [.int .i64 y,.bool c]]=>some (lA (lG (x,b) (y,c)))
 | _=>none
theorem z7:ax Try.prog GC 104 M52:=by
 refine ax.of_ev (E:=aw GC []) (ay aB) rfl PV BJ 2 ?_
 intro args r h
 unfold M52 at h
 split at h
 ·rename_i x b y c
  injection h with h; subst h
  refine ⟨0,?_⟩
  have b1:ag .gtr (.int .i64 y) (.int .i64 x)=some (.bool (decide (y > x))):=by simp [ag]
  rw [aN _ _ rfl]
  unfold lG lA
  cases b with
  | false=>simp [DO,-ag]
  | true=>
   cases c with
   | false=>simp [DO,-ag]
   | true=>
    by_cases hxy:y > x
    ·rw [RE hxy] at b1
     simp [DO,b1,hxy,-ag]
    ·rw [RD hxy] at b1
     simp [DO,b1,hxy,-ag]
 ·cases h
open Go
def noL:LP:=(0,false)
def hst (h:List LP) (next:List LP) (a:dD):List LP:=next.set a.1 (lG (next.getD a.1 noL) (gf (h.getD a.2.1 noL) a.2.2))
def mp (L:List dD) (h:List LP) (n:Nat):List LP:=L.foldl (hst h) (List.replicate n noL)
def hm (L:List dD) (n to:Nat):Nat->List LP
 | 0=>(List.replicate n noL).set to (0,true)
 | j+1=>mp L (hm L n to j) n
def zE (L:List dD) (n to k:Nat):List AV:=(List.range (k+1)).map fun j=>.fs 2 ((hm L n to j).map lA)
theorem wR (h next:List LP) (a:dD):(hst h next a).length=next.length:=by simp [hst]
theorem iu (h:List LP):∀(L:List dD) (next:List LP),(L.foldl (hst h) next).length=next.length
 | [],_=>rfl
 | a :: L,next=>by rw [Sj,iu h L,wR]
theorem xX (L:List dD) (n to:Nat):∀j,(hm L n to j).length=n
 | 0=>by simp [hm]
 | j+1=>by simp [hm,mp,iu]
def PB (B:Int) (h:List LP):Prop:=∀v,-B<=(h.getD v noL).1/\(h.getD v noL).1<=B
theorem mq {α:Type} (s:List α) (i j:Nat) (x d:α) (hi:i<s.length):(s.set i x).getD j d=if i=j then x else s.getD j d:=by
 rw [Rw,Rw]
 by_cases h:i=j
 ·subst h
  rw [RO hi,RH rfl]; rfl
 ·rw [RF h,RK h]
theorem HJ {B:Int} {x y:LP} (h1 : -B<=x.1/\x.1<=B) (h2 : -B<=y.1/\y.1<=B) : -B<=(lG x y).1/\(lG x y).1<=B:=by
 unfold lG; split
 ·exact h2
 ·exact h1
theorem HE {B:Int} {x:LP} (h1 : -B<=x.1/\x.1<=B) (h2 : -3000000<=w/\w<=3000000) : -(B+3000000)<=(gf x w).1/\(gf x w).1<=B+3000000:=by
 unfold gf; split
 ·omega
 ·simp only; omega
theorem Kk {B:Int} {h next:List LP} {a:dD} (h1:PB B h) (h2:PB (B+3000000) next) (hw : -3000000<=a.2.2/\a.2.2<=3000000) (hf:a.1<next.length):PB (B+3000000) (hst h next a):=fun v=>by
 unfold hst
 rw [mq _ _ _ _ _ hf]
 split
 ·exact HJ (h2 _) (HE (h1 _) hw)
 ·exact h2 v
theorem Am {B:Int} (hB:0<=B) (n:Nat):PB B (List.replicate n noL):=fun v=>by
 have:(List.replicate n noL).getD v noL=noL:=by
  rw [Rw]
  by_cases h:v<n <;> simp [h]
 rw [this]; simp [noL]; omega
def vP (n:Nat) (L:List dD):Prop:=∀a∈L,a.1<n/\a.2.1<n /\ -3000000<=a.2.2/\a.2.2<=3000000
theorem xS {n:Nat} {l:List br} (hn:n<=32) (hp:cT p) (hv:∀x∈l,okA n x):vP n (lar p l):=fun a ha=>by
 obtain ⟨x,hx,rfl⟩:=Sa.1 ha
 obtain ⟨q1,q2,q3,q4⟩:=hv x hx
 have hle:=jf (n:=32) (a:=x) ⟨by omega,by omega,q3,q4⟩ hp
 simp only
 omega
theorem x8 {B:Int} {h:List LP} (h1:PB B h):∀ {L:List dD} {next:List LP},vP n L->next.length=n->PB (B+3000000) next->PB (B+3000000) (L.foldl (hst h) next)
 | [],_,_,_,h2=>h2
 | a :: L,next,hL,hn,h2=>by
  rw [Sj]
  obtain ⟨q1,q2,q3⟩:=hL a (by simp)
  exact x8 h1 (fun b hb=>hL b (by simp [hb])) (by rw [wR,hn]) (Kk h1 h2 q3 (by omega))
theorem Ic {L:List dD} (hL:vP n L) (to:Nat):∀j:Nat,PB (3000000*j) (hm L n to j)
 | 0=>fun v=>by
  unfold hm
  by_cases h:to<n
  ·rw [mq _ _ _ _ _ (by simpa using h)]
   split
   ·simp
   ·have:=Am (B:=0) (by omega) n v
    omega
  ·rw [List.set_eq_of_length_le (by simp; omega)]
   have:=Am (B:=0) (by omega) n v
   omega
 | j+1=>by
  have h1:=Ic hL to j
  have:=x8 h1 hL (next:=List.replicate n noL) (by simp) (Am (by omega) n)
  intro v
  have:=this v
  simp only [hm,mp]
  omega
theorem AT {h:List LP} (hi:i<h.length):(h.map lA)[i]?=some (.agg [.int .i64 (h.getD i noL).1,.bool (h.getD i noL).2]):=by
 simp [hi,lA]
def Qh:MC:=.region [.M 6 11 13,.K 6 0,.z 7 6,.r 6 7 1]
def Rr:MC:=.region [.a 6,.d 0 7,.m 0 1,.b 1 2,.a 6,.d 0 7,.m 0 5,.b 1 6,.e 2 4 7,.K 2 8,.a 5,.d 0 7,.m 1 11,.b 1 12,.e 2 10 13,.K 2 14,.d 5 7,.b 1 16,.E 102 15 17,.E 104 9 18,.e 2 0 3,.A 2 20 19]
theorem LI:nS=.seq (.region [.B 14 13 12]) (.seq (.cond (.var 14) .skip (.exit 2)) (.seq (.seq (.block 3 (.seq Qh Rr)) (.kill [1,2,3,7,10,14])) (.region [.u 13 1,.c 13 0]))):=rfl
def Bj:List (FuncId × aJ):=[(102,aG 4 M51),(104,aG 4 M52)]
@[simp] theorem NW:aE Bj 102=some (aG 4 M51):=rfl
@[simp] theorem NV:aE Bj 104=some (aG 4 M52):=rfl
theorem GT:∀f M,aE Bj f=some M->au Try.prog GC f M:=ai (au.of_pure xw 4) (ai (au.of_pure z7 4) aB)
theorem r48a (E:Env) (fuel:Nat) (K:List KC) (A:ac) (X:MC) {l:List br} (hi:i<l.length) (v0 v4 v5 v6 v8 v9 v12 v14:AV) :
  run E fuel (.code (.seq Qh X) :: K) [v0,.undef,.undef,.undef,v4,v5,v6,.undef,v8,v9,.undef,slA 6 (wAs p (num l)),v12,.int .i64 (i:Int),v14] A =
   run E fuel (.code X :: K) [v0,.undef,.undef,.undef,v4,v5,v6,.ptr A.length 0 0,v8,v9,.undef,slA 6 (wAs p (num l)),v12,.int .i64 (i:Int),v14] (A++[.row 6 false [wA p (l[i],i)]]):=by
 have x1:=ub p hi A .i64
 obtain ⟨W,hW⟩:∃W,W=slA 6 (wAs p (num l)):=⟨_,rfl⟩
 rw [<-hW] at x1 ⊢
 simp [Qh,x1,wA,-ae]
def Mh (A0:ac) (id:Nat) (A:ac):Prop:=A0.length<=A.length/\∀j,j≠id->j<A0.length->A[j]?=A0[j]?
theorem Kh (h:List LP) (i:Nat) (z:LP):(h.map lA).set i (lA z)=(h.set i z).map lA:=by rw [Up]
theorem Hn (fuel:Nat) {A0:ac} {idL idN:Nat} {h nx:List LP} {p:Int} {l:List br} (hn:h.length=n) (hx:nx.length=n) (hp:cT p) (hv:∀x∈l,okA n x) (hn32:n<=32) (hl200:l.length<=200) {i:Nat} (hi:i<l.length) (hb:PB 1000000000 h) (hLN:idL≠idN) (hid:idN<A0.length) (hidL:idL<A0.length) (hL:A0[idL]?=some (.row 2 false (h.map lA))) (hN:A[idN]?=some (.row 2 false (nx.map lA))) (hK:Mh A0 idN A) (v0 v4 v8 v9:AV) :
  ∃A',run (aw GC Bj) fuel [.code nS] (nE v0 v4 (.sl idL 0 n) (.sl idN 0 n) v8 v9 (slA 6 (wAs p (num l))) (.int .i64 (l.length:Int)) (.int .i64 (i:Int))) A=some (.normal (nE v0 v4 (.sl idL 0 n) (.sl idN 0 n) v8 v9 (slA 6 (wAs p (num l))) (.int .i64 (l.length:Int)) (.int .i64 ((i+1:Nat):Int))) A') /\
   A'[idN]?=some (.row 2 false ((hst h nx (l[i].f.toNat,l[i].t.toNat,l[i].len p)).map lA))/\Mh A0 idN A':=by
 obtain ⟨g2,g3⟩:=hK
 have hmem:=hv _ (RM hi)
 obtain ⟨f,hf,hfn⟩:=qa hmem.1
 obtain ⟨t,ht,htn⟩:=qa hmem.2.1
 have hv32:okA 32 l[i]:=by
  obtain ⟨h1,h2,h3,h4⟩:=hmem
  exact ⟨by omega,by omega,h3,h4⟩
 obtain ⟨k1,k2,_,_⟩:=jf hv32 hp
 obtain ⟨w,hw⟩:∃w,w=l[i].len p:=⟨_,rfl⟩
 obtain ⟨B,hB⟩:∃B,B=A++[.row 6 false [wA p (l[i],i)]]:=⟨_,rfl⟩
 have r1:=fun K X=>r48a (aw GC Bj) fuel K A X (p:=p) hi v0 v4 (.sl idL 0 n) (.sl idN 0 n) v8 v9 (.int .i64 (l.length:Int)) (.bool true)
 rw [<-hB] at r1
 have cN:B[idN]?=some (.row 2 false (nx.map lA)):=by rw [hB,RC (by omega)]; exact hN
 have cL:B[idL]?=some (.row 2 false (h.map lA)):=by rw [hB,RC (by omega),g3 idL hLN hidL]; exact hL
 have c8:B[A.length]?=some (.row 6 false [.agg [.int .i64 (f:Int),.int .i64 (t:Int),.int .i64 l[i].w,.int .i64 l[i].k,.int .i64 (i:Int),.int .i64 w]]):=by
  rw [hB,hw]; simp [wA,hf,ht]
 obtain ⟨i8,hi8⟩:∃i8,i8=A.length:=⟨_,rfl⟩
 rw [<-hi8] at r1 c8
 have hBl:A0.length<=B.length:=by rw [hB]; simp; omega
 have hBo:∀j,j≠idN->j<A0.length->B[j]?=A0[j]?:=fun j hj hl=>by rw [hB,RC (by omega)]; exact g3 j hj hl
 rw [<-hw] at k1 k2
 have e1:l[i].f.toNat=f:=by omega
 have e2:l[i].t.toNat=t:=by omega
 rw [e1,e2,<-hw]
 have ef:=AT (h:=nx) (i:=f) (by omega)
 have et:=AT (h:=h) (i:=t) (by omega)
 have bt:=hb t
 unfold hst
 simp only
 obtain ⟨x,hx1⟩:∃x,x=nx.getD f noL:=⟨_,rfl⟩
 obtain ⟨y,hy1⟩:∃y,y=h.getD t noL:=⟨_,rfl⟩
 rw [<-hx1] at ef ⊢
 rw [<-hy1] at et bt ⊢
 have m1:M51 [.agg [.int .i64 y.1,.bool y.2],.int .i64 w]=some (.agg [.int .i64 (gf y w).1,.bool (gf y w).2]):=RH (by omega)
 have m2:M52 [.agg [.int .i64 x.1,.bool x.2],.agg [.int .i64 (gf y w).1,.bool (gf y w).2]]=some (.agg [.int .i64 (lG x (gf y w)).1,.bool (lG x (gf y w)).2]):=rfl
 have b1:=a9 i l.length .i64
 rw [RE hi] at b1
 have b3:=aV i (by omega)
 obtain ⟨i1,hi1⟩:∃i1:Nat,i1=i+1:=⟨_,rfl⟩
 rw [<-hi1] at b3 ⊢
 rw [<-Kh]
 obtain ⟨q,hq⟩:∃q,q=gf y w:=⟨_,rfl⟩
 rw [<-hq] at m1 m2 ⊢
 obtain ⟨z,hz⟩:∃z,z=lG x q:=⟨_,rfl⟩
 rw [<-hz] at m2 ⊢
 obtain ⟨q1,q2⟩:=q
 obtain ⟨z1,z2⟩:=z
 obtain ⟨x1,x2⟩:=x
 obtain ⟨y1,y2⟩:=y
 simp only at m1 m2 ef et
 obtain ⟨W,hW⟩:∃W,W=slA 6 (wAs p (num l)):=⟨_,rfl⟩
 rw [<-hW] at r1 ⊢
 obtain ⟨nxa,hnxa⟩:∃nxa,nxa=nx.map lA:=⟨_,rfl⟩
 obtain ⟨ha,hha⟩:∃ha,ha=h.map lA:=⟨_,rfl⟩
 rw [<-hnxa] at cN ef ⊢
 rw [<-hha] at cL et
 have hfn':f<n:=by omega
 have htn':t<n:=by omega
 refine ⟨B.set idN (.row 2 false (nxa.set f (lA (z1,z2)))),?_,?_,?_,?_⟩
 ·rw [LI]
  simp [b1,b3,r1,Rr,cN,cL,c8,ef,et,m1,m2,hfn',htn',lA,-ag]
 ·exact RO (by omega)
 ·simp; omega
 ·intro j hj hl
  rw [RF (S4 hj)]; exact hBo j hj hl
theorem J3 (fuel:Nat) {n idL idN:Nat} {h:List LP} {l:List br} (hn:h.length=n) (hp:cT p) (hv:∀x∈l,okA n x) (hn32:n<=32) (hl200:l.length<=200) (hf:200<fuel) (hb:PB 1000000000 h) (hLN:idL≠idN) (hL:A[idL]?=some (.row 2 false (h.map lA))) (hN:A[idN]?=some (.row 2 false ((List.replicate n noL).map lA))) (v0 v4 v8 v9:AV) :
  ∃A',bM (evC (aw GC Bj) fuel nS) lJ fuel (nE v0 v4 (.sl idL 0 n) (.sl idN 0 n) v8 v9 (slA 6 (wAs p (num l))) (.int .i64 (l.length:Int)) (.int .i64 0)) A=some (.exit 2 ((nE v0 v4 (.sl idL 0 n) (.sl idN 0 n) v8 v9 (slA 6 (wAs p (num l))) (.int .i64 (l.length:Int)) (.int .i64 (l.length:Int))).set 14 (.bool false)) A') /\
   A'[idN]?=some (.row 2 false ((mp (lar p l) h n).map lA))/\Mh A idN A':=by
 have hidN:=(Rv.1 hN).1
 have hidL:=(Rv.1 hL).1
 have hlen:(lar p l).length=l.length:=by simp [lar]
 obtain ⟨o,h1,A',h2,h3,h4⟩:=iq (E:=aw GC Bj) (fuel:=fuel) (a:=nS) (mask:=lJ) (fun k σ B=>∃i,i+k=l.length/\σ=nE v0 v4 (.sl idL 0 n) (.sl idN 0 n) v8 v9 (slA 6 (wAs p (num l))) (.int .i64 (l.length:Int)) (.int .i64 (i:Int))/\B[idN]?=some (.row 2 false ((((lar p l).take i).foldl (hst h) (List.replicate n noL)).map lA))/\Mh A idN B)
  (fun o=>∃A',A'[idN]?=some (.row 2 false ((mp (lar p l) h n).map lA))/\Mh A idN A'/\o=.exit 2 ((nE v0 v4 (.sl idL 0 n) (.sl idN 0 n) v8 v9 (slA 6 (wAs p (num l))) (.int .i64 (l.length:Int)) (.int .i64 (l.length:Int))).set 14 (.bool false)) A')
  (by
   rintro k σ B ⟨i,hik,rfl,hN',hK⟩
   rw [FU]
   by_cases hi':i<l.length
   ·obtain ⟨B',c1,c2,c3⟩:=Hn fuel (n:=n) hn (by rw [iu]; simp) hp hv hn32 hl200 hi' hb hLN hidN hidL hL hN' hK v0 v4 v8 v9
    refine .inl ⟨_,_,c1,k-1,by omega,i+1,by omega,rfl,?_,c3⟩
    rw [c2,SS (by omega),List.foldl_append]
    simp [lar]
   ·obtain rfl:i=l.length:=by omega
    refine .inr ⟨_,?_,?_,B,?_,hK,rfl⟩
    ·simp [nS]
    ·intro _ _ h; cases h
    ·rw [hN',RX (by omega)]; rfl)
  fuel l.length _ A (by omega) ⟨0,by omega,rfl,by simpa using hN,RR _,fun _ _ _=>rfl⟩
 exact ⟨A',by rw [<-h4]; exact h1,h2,h3⟩
def IZ (L:List dD) (n to i:Nat) (A:ac):Prop:=∃(gr:Bool) (os:List AV),A[1]?=some (.row 1 gr os)/\os.length=i+1/\∀j,j<=i->∃id,os[j]?=some (.sl id 0 n)/\id≠1/\A[id]?=some (.row 2 false ((hm L n to j).map lA))
theorem DE (fuel:Nat) {A:ac} {n:Nat} {l:List br} (h1n:1<=n) (hp:cT p) (hv:∀x∈l,okA n x) (hn32:n<=32) (hl200:l.length<=200) (hf:200<fuel) (hi:i<k) (hk:k<=32) (hI:IZ (lar p l) n to i A) :
  ∃A',run (aw GC Bj) fuel [.code qe] (pE (dk n p l) (.sl 1 0 (i+1)) (.int .i64 (k:Int)) (.int .i64 (i:Int))) A=some (.normal (pE (dk n p l) (.sl 1 0 (i+1+1)) (.int .i64 (k:Int)) (.int .i64 ((i+1:Nat):Int))) A')/\IZ (lar p l) n to (i+1) A':=by
 obtain ⟨gr,os,g1,g2,g3⟩:=hI
 obtain ⟨id,hid,hid1,hrow⟩:=g3 i (RR _)
 have hid2:=(Rv.1 hrow).1
 have h1A:=(Rv.1 g1).1
 obtain ⟨B,hB⟩:∃B,B=A++[.row 2 false ((List.replicate n noL).map lA)]:=⟨_,rfl⟩
 have hBN:B[A.length]?=some (.row 2 false ((List.replicate n noL).map lA)):=by rw [hB]; simp
 have hBo:∀j,j<A.length->B[j]?=A[j]?:=fun j hj=>by rw [hB,RC hj]
 have hBl:B.length=A.length+1:=by rw [hB]; simp
 have hok:=xS hn32 hp hv
 have hpb:=Ic hok to i
 have hpb':PB 1000000000 (hm (lar p l) n to i):=fun v=>by have:=hpb v; omega
 have mk:bU 2 16 (.agg [.int .i64 0,.bool false]) A (.int .i64 (n:Int)) (.int .i64 (n:Int))=some (.sl A.length 0 n,B):=by
  rw [hB]; simp [bU,lA,noL]; omega
 obtain ⟨C,c1,c2,c3⟩:=J3 fuel (A:=B) (n:=n) (idL:=id) (idN:=A.length) (xX _ n to i) hp hv hn32 hl200 hf hpb' (by omega) (by rw [hBo id hid2]; exact hrow) hBN (dk n p l) (.sl 1 0 (i+1)) (.int .i64 (k:Int)) (.int .i64 (i:Int))
 have hC1:C[1]?=some (.row 1 gr os):=by rw [c3.2 1 (by omega) (by omega),hBo 1 h1A]; exact g1
 obtain ⟨nid,hnid⟩:∃nid,nid=A.length:=⟨_,rfl⟩
 have hC1l:=(Rv.1 hC1).1
 obtain ⟨D,hD⟩:∃D,D=C++[.row 1 false [.sl A.length 0 n]]:=⟨_,rfl⟩
 have hDo:∀j,j<C.length->D[j]?=C[j]?:=fun j hj=>by rw [hD,RC hj]
 have hDl:D.length=C.length+1:=by rw [hD]; simp
 have hDn:D[C.length]?=some (.row 1 false [.sl A.length 0 n]):=by rw [hD]; simp
 have ap:aR 1 24 D (.sl 1 0 (i+1)) (.sl C.length 0 1)=some (.sl 1 0 (i+1+1),D.set 1 (.row 1 true (os++[.sl A.length 0 n]))):=by
  simp [aR,a8,hDn,hDo 1 hC1l,hC1,g2]
  omega
 have b0:ag .sub (.int .i64 ((i+1:Nat):Int)) (.int .i64 1)=some (.int .i64 (i:Int)):=by
  simp only [ag]; rw [RH trivial,eV (by unfold inI; omega)]; congr 2; omega
 have b1:=a9 i k .i64
 rw [RE hi] at b1
 have b3:=aV i (by omega)
 have hlen2:aq (slA 6 (wAs p (num l)))=some (.int .i64 (l.length:Int)):=by rw [tH,s8]
 have hne:¬ 1=A.length:=by omega
 refine ⟨D.set 1 (.row 1 true (os++[.sl A.length 0 n])),?_,true,os++[.sl A.length 0 n],?_,?_,?_⟩
 ·obtain ⟨W1,hW⟩:∃W1,W1=slA 6 (wAs p (num l)):=⟨_,rfl⟩
  obtain ⟨O,hO⟩:∃O,dk n p l=.fp [.int .i64 (n:Int),W1,O]:=⟨_,by rw [hW]; rfl⟩
  rw [<-hW] at c1 hlen2
  rw [hO] at c1 ⊢
  rw [hD] at ap ⊢
  rw [<-hnid] at c1 ap hne mk ⊢
  obtain ⟨i1,hi1⟩:∃i1:Nat,i1=i+1:=⟨_,rfl⟩
  rw [<-hi1] at b0 b3 c1 ap ⊢
  have hii:i<i1:=by omega
  have hls:aq (.sl 1 0 i1)=some (.int .i64 (i1:Int)):=rfl
  simp [qe,hls,b0,b1,b3,g1,hid,mk,Kn c1,ap,hlen2,hne,hii,hnid.symm,-ag,-bU,-aq]
 ·exact RO (by omega)
 ·simp [g2]
 ·intro j hj
  have hcl:=c3.1
  by_cases hji:j=i+1
  ·subst hji
   refine ⟨A.length,by simp [<-g2],by omega,?_⟩
   rw [RF (by omega),hDo _ (by omega)]; exact c2
  ·obtain ⟨jd,q1,q2,q3⟩:=g3 j (by omega)
   have hjd:=(Rv.1 q3).1
   refine ⟨jd,by rw [RC (by omega)]; exact q1,q2,?_⟩
   rw [RF (S4 q2),hDo jd (by omega),c3.2 jd (by omega) (by omega),hBo jd hjd]; exact q3
def M48:aU:=fun args=>evF (aw GC Bj) 300 Nr 5 args
theorem GE:cm Try.prog GC 99 M48:=cm.of_ev (E:=aw GC Bj) (ay GT) rfl at48 Le 5 fun _ _ h=>⟨300,h⟩
theorem KE (A:ac) (n:Nat) (h:List LP):(h.map lA).map (frz A (n+1))=h.map lA:=by
 rw [Tc]; apply Sb; intro x _; cases n <;> rfl
theorem IZ.frz {L:List dD} (h:IZ L n to i A) (k:Nat):Proofs.Ytkcjhljbgjpklaa.frz A (k+3) (.sl 1 0 (i+1))=.fs 1 (zE L n to i)/\bo A (k+3) (.sl 1 0 (i+1))=true:=by
 obtain ⟨gr,os,g1,g2,g3⟩:=h
 constructor
 ·show Proofs.Ytkcjhljbgjpklaa.frz A (k+2+1) _=_
  simp only [Proofs.Ytkcjhljbgjpklaa.frz,g1,RT]
  rw [RX (by omega)]
  congr 1
  apply SO (by simp [g2,zE])
  intro j h1 h2
  obtain ⟨id,q1,q2,q3⟩:=g3 j (by simp [zE] at h2; omega)
  have e:os[j]'(by simpa using h1)=.sl id 0 n:=by
   rw [Rx (by simpa using h1)] at q1; exact Td q1
  simp only [SA,e,zE,T4]
  show Proofs.Ytkcjhljbgjpklaa.frz A (k+1+1) _=_
  simp only [Proofs.Ytkcjhljbgjpklaa.frz,q3,RT]
  rw [RX (by simp [xX]),KE]
 ·show bo A (k+2+1) _=_
  simp only [bo,g1,RT]
  rw [RX (by omega),RZ]
  intro x hx
  obtain ⟨j,hj,rfl⟩:=SD.1 hx
  obtain ⟨id,q1,q2,q3⟩:=g3 j (by omega)
  have e:os[j]=.sl id 0 n:=by
   rw [Rx hj] at q1; exact Td q1
  rw [e]
  show bo A (k+1+1) _=_
  simp only [bo,q3,RT]
  rw [RX (by simp [xX]),RZ]
  intro y hy
  obtain ⟨z,_,rfl⟩:=Sa.1 hy
  cases k <;> simp [lA,bo]
theorem L9 {l:List br} (hr:cM n l p) (hto:to<n) (hk:k<=32):M48 [dk n p l,.int .i64 (to:Int),.int .i64 (k:Int)]=some (.fs 1 (zE (lar p l) n to k)):=by
 obtain ⟨⟨hn,hl200,hv⟩,hp⟩:=hr
 have hn32:n<=32:=by omega
 obtain ⟨z,hz⟩:∃z,z=(List.replicate n noL).map lA:=⟨_,rfl⟩
 have mk:bU 2 16 (.agg [.int .i64 0,.bool false]) [] (.int .i64 (n:Int)) (.int .i64 (n:Int))=some (.sl 0 0 n,[.row 2 false z]):=by
  rw [hz]; simp [bU,lA,noL]; omega
 have hz2:z.set to (.agg [.int .i64 0,.bool true])=(hm (lar p l) n to 0).map lA:=by
  rw [hz]; unfold hm; rw [Up]; rfl
 have hzl:z.length=n:=by rw [hz]; simp
 have hz3:z[to]?=some (.agg [.int .i64 0,.bool false]):=by
  rw [hz]; simp [hto,lA,noL]
 obtain ⟨o,h1,A',h2,rfl⟩:=iq (E:=aw GC Bj) (fuel:=300) (a:=qe) (mask:=oO) (fun m σ A=>∃i,i+m=k/\σ=pE (dk n p l) (.sl 1 0 (i+1)) (.int .i64 (k:Int)) (.int .i64 (i:Int))/\IZ (lar p l) n to i A)
  (fun o=>∃A',IZ (lar p l) n to k A'/\o=.exit 0 ((pE (dk n p l) (.sl 1 0 (k+1)) (.int .i64 (k:Int)) (.int .i64 (k:Int))).set 10 (.bool false)) A')
  (by
   rintro m σ A ⟨i,him,rfl,hI⟩
   rw [Z7]
   by_cases hi':i<k
   ·obtain ⟨A',c1,c2⟩:=DE 300 (by omega) hp hv hn32 hl200 (by omega) hi' hk hI
    exact .inl ⟨_,_,c1,m-1,by omega,i+1,by omega,rfl,c2⟩
   ·obtain rfl:i=k:=by omega
    refine .inr ⟨_,?_,?_,A,hI,rfl⟩
    ·simp [qe]
    ·intro _ _ h; cases h)
  300 k (pE (dk n p l) (.sl 1 0 1) (.int .i64 (k:Int)) (.int .i64 0)) [.row 2 false ((hm (lar p l) n to 0).map lA),.row 1 false [.sl 0 0 n]] (by omega) ⟨0,by omega,rfl,false,[.sl 0 0 n],rfl,rfl,fun j hj=>by
   obtain rfl:j=0:=by omega
   exact ⟨0,rfl,by omega,rfl⟩⟩
 obtain ⟨q1,q2⟩:=h2.frz 2
 unfold M48
 rw [gI _ _ rfl]
 rw [<-hz2] at h1
 have p1:dE [.sl 1 0 (k+1)]=.sl 1 0 (k+1):=rfl
 obtain ⟨W1,O,hO⟩:∃W1 O,dk n p l=.fp [.int .i64 (n:Int),W1,O]:=⟨_,_,rfl⟩
 rw [hO] at h1 ⊢
 simp [Nr,mk,hz3,hto,Km h1,q1,q2,-frz,-bU]
open Go
def kX (h:List LP) (p sum:Int) (x:ge):Bool:=(gf (h.getD x.1.t.toNat noL) (sum+x.1.len p)).2 && decide ((gf (h.getD x.1.t.toNat noL) (sum+x.1.len p)).1 > 0)
def MJ:List (FuncId × aJ):=[(102,aG 4 M51)]
@[simp] theorem NT:aE MJ 102=some (aG 4 M51):=rfl
theorem GR:∀f M,aE MJ f=some M->au Try.prog GC f M:=ai (au.of_pure xw 4) aB
def M50:aU:=fun args=>evP (aw GC MJ) 0 HL 1 args
theorem z8:ax Try.prog GC 101 M50:=ax.of_ev (E:=aw GC MJ) (ay GR) rfl PW BK 1 fun _ _ h=>⟨0,h⟩
def zD (hs:List (List LP)):AV:=.fs 1 (hs.map fun h=>.fs 2 (h.map lA))
def KG (hs:List (List LP)) (left sum:Int):AV:=.func (.func 101) [] [.fp [zD hs],.fp [.int .i64 left],.fp [.int .i64 sum]]
theorem L7 {hs:List (List LP)} {left:Nat} {h:List LP} {x:ge} (hh:hs[left]?=some h) (ht:x.1.t=(t:Int)) (hth:t<h.length) (hpb:PB 1000000000 h) (hs1 : -1000000000<=sum/\sum<=1000000000) (hw : -3000000<=x.1.len p/\x.1.len p<=3000000) :
  M50 [wA p x,.fp [zD hs],.fp [.int .i64 left],.fp [.int .i64 sum]]=some (.bool (kX h p sum x)):=by
 unfold kX
 have e1:x.1.t.toNat=t:=by omega
 rw [e1]
 have et:=AT hth
 have bt:=hpb t
 obtain ⟨y,hy1⟩:∃y,y=h.getD t noL:=⟨_,rfl⟩
 rw [<-hy1] at et bt ⊢
 obtain ⟨w,hw1⟩:∃w,w=x.1.len p:=⟨_,rfl⟩
 rw [<-hw1] at hw ⊢
 have m1:M51 [.agg [.int .i64 y.1,.bool y.2],.int .i64 (sum+w)]=some (.agg [.int .i64 (gf y (sum+w)).1,.bool (gf y (sum+w)).2]):=RH (by omega)
 have b2:ag .add (.int .i64 sum) (.int .i64 w)=some (.int .i64 (sum+w)):=by
  simp only [ag]; rw [RH trivial,eV (by unfold inI; omega)]
 have hx:wA p x=.agg [.int .i64 x.1.f,.int .i64 (t:Int),.int .i64 x.1.w,.int .i64 x.1.k,.int .i64 (x.2:Int),.int .i64 w]:=by unfold wA; rw [ht,hw1]
 rw [hx]
 have hix:∀A,ae 1 A (zD hs) (.int .i64 (left:Int))=some (.fp [.fs 2 (h.map lA)]):=fun A=>
  (show SlA 1 (hs.map fun h=>.fs 2 (h.map lA)) (zD hs) from .inr rfl).index1 (A:=A) (by simp [hh]) rfl rfl .i64
 have hix2:∀A,ae 2 A (.fs 2 (h.map lA)) (.int .i64 (t:Int))=some (.fp [.int .i64 y.1,.bool y.2]):=fun A=>
  (show SlA 2 (h.map lA) (.fs 2 (h.map lA)) from .inr rfl).index (A:=A) (i:=t) et rfl (by omega) .i64
 obtain ⟨HT,hHT⟩:∃HT,zD hs=.fs 1 HT:=⟨_,rfl⟩
 rw [hHT] at hix ⊢
 obtain ⟨s,hs'⟩:∃s,s=sum+w:=⟨_,rfl⟩
 rw [<-hs'] at m1 b2 ⊢
 obtain ⟨q,hq⟩:∃q,q=gf y s:=⟨_,rfl⟩
 rw [<-hq] at m1 ⊢
 have b3:ag .gtr (.int .i64 q.1) (.int .i64 0)=some (.bool (decide (q.1 > 0))):=by simp [ag]
 obtain ⟨q1,q2⟩:=q
 obtain ⟨y1,y2⟩:=y
 simp only at m1 b3 hix2
 unfold M50
 rw [aN _ _ rfl]
 cases q2
 ·simp [HL,hix,hix2,b2,m1,-ag,-ae]
 ·simp [HL,hix,hix2,b2,b3,m1,-ag,-ae]
def Fz:List (FuncId × aJ):=[(101,aG 4 M50)]
@[simp] theorem NU:aE Fz 101=some (aG 4 M50):=rfl
theorem GS:∀f M,aE Fz f=some M->au Try.prog GC f M:=ai (au.of_pure z8 4) aB
def M49:aU:=fun args=>evP (aw GC Fz) 300 ME 1 args
theorem Ju:ax Try.prog GC 100 M49:=ax.of_ev (E:=aw GC Fz) (ay GS) rfl at49 Ld 1 fun _ _ h=>⟨300,h⟩
theorem L8 {hs:List (List LP)} {left:Nat} {h:List LP} {p:Int} {xs:List ge} {ch:AV} (hch:SlA 6 (wAs p xs) ch) (hl:xs.length<=200) (hh:hs[left]?=some h) (ht:∀x∈xs,0<=x.1.t/\x.1.t<(h.length:Int)) (hpb:PB 1000000000 h) (hs1 : -1000000000<=sum/\sum<=1000000000) (hw:∀x∈xs,-3000000<=x.1.len p/\x.1.len p<=3000000) :
  M49 [ch,KG hs left sum]=some (.int .i64 (dw (kX h p sum) xs)):=by
 have hlen:=hch.len
 have hlen':(wAs p xs).length=xs.length:=by simp [wAs]
 rw [hlen'] at hlen
 obtain ⟨F,hF⟩:∃F,F=KG hs left sum:=⟨_,rfl⟩
 have round:∀(A:ac) (i:Nat) (hi:i<xs.length),run (aw GC Fz) 300 [.code ke] (nD ch F (.int .i64 (xs.length:Int)) (.int .i64 (i:Int))) A =
   if kX h p sum xs[i]=false then some (.normal (nD ch F (.int .i64 (xs.length:Int)) (.int .i64 ((i+1:Nat):Int))) A) else some (.ret [ch,F,.int .i64 (i:Int),.int .i64 (i:Int),.int .i64 (xs.length:Int),.int .i64 (i:Int),.bool true,.bool true] A):=fun A i hi=>by
  have hmem:=RM hi
  obtain ⟨t,ht1,ht2⟩:∃t:Nat,xs[i].1.t=(t:Int)/\t<h.length:=by
   have:=ht _ hmem
   exact ⟨xs[i].1.t.toNat,by omega,by omega⟩
  have x1:ae 6 A ch (.int .i64 (i:Int))=some (.fp [.int .i64 xs[i].1.f,.int .i64 xs[i].1.t,.int .i64 xs[i].1.w,.int .i64 xs[i].1.k,.int .i64 (xs[i].2:Int),.int .i64 (xs[i].1.len p)]):=
   hch.index (A:=A) (i:=i) (x:=wA p xs[i]) (by simp [wAs,hi]) rfl (by omega) .i64
  have m:=L7 (p:=p) hh ht1 ht2 hpb hs1 (hw _ hmem)
  unfold wA at m
  have b1:=a9 i xs.length .i64
  rw [RE hi] at b1
  have b3:=aV i (by omega)
  obtain ⟨i1,hi1⟩:∃i1:Nat,i1=i+1:=⟨_,rfl⟩
  rw [<-hi1] at b3 ⊢
  obtain ⟨d,hd⟩:∃d,d=kX h p sum xs[i]:=⟨_,rfl⟩
  rw [<-hd] at m ⊢
  rw [hF]
  obtain ⟨HT,hHT⟩:∃HT,zD hs=.fs 1 HT:=⟨_,rfl⟩
  have fz:∀B n,frz B n (.fs 1 HT)=.fs 1 HT:=fun B n=>by cases n <;> rfl
  unfold KG
  rw [hHT] at m ⊢
  cases d with
  | false=>simp [ke,x1,m,b1,b3,-ag,-ae,-aq]
  | true=>simp [ke,x1,m,b1,-ag,-ae,-aq]
 unfold M49
 rw [aN _ _ rfl,<-hF]
 rcases cY (E:=aw GC Fz) (fuel:=300) (a:=ke) (mask:=jz) (fun i=>nD ch F (.int .i64 (xs.length:Int)) (.int .i64 (i:Int))) (fun _=>[]) xs.length (fun i=>¬ ∀hi:i<xs.length,kX h p sum xs[i]=false)
  (oF:=fun i=>.ret [ch,F,.int .i64 (i:Int),.int .i64 (i:Int),.int .i64 (xs.length:Int),.int .i64 (i:Int),.bool true,.bool true] []) (oE:=.exit 0 ((nD ch F (.int .i64 (xs.length:Int)) (.int .i64 (xs.length:Int))).set 6 (.bool false)) [])
  (fun _=>FR) (fun _ _ _ h=>by cases h) (fun _ _ h=>by cases h)
  (fun i hi hp=>by
   rw [round [] i hi]
   exact RH (R7.1 hp hi))
  (fun i hi hp=>by
   rw [round [] i hi]
   exact RK fun h=>hp fun _=>h)
  (by simp [ke]) (show xs.length<300 by omega) with ⟨i,hi,hp,hj,lp⟩ | ⟨hp,lp⟩
 ·have lp:bM (evC (aw GC Fz) 300 ke) jz 300 (nD ch F (.int .i64 (xs.length:Int)) (.int .i64 0)) []=_:=lp
  have e:dw (kX h p sum) xs=(i:Int):=bY hi (by
   cases h':kX h p sum xs[i] with
   | true=>rfl
   | false=>exact absurd (fun _=>h') hp) (fun j hj'=>R7.1 (hj j hj') (by omega))
  rw [e]
  simp [ME,hlen,Fh lp,-ag,-aq]
 ·have lp:bM (evC (aw GC Fz) 300 ke) jz 300 (nD ch F (.int .i64 (xs.length:Int)) (.int .i64 0)) []=_:=lp
  have e:dw (kX h p sum) xs = -1:=cd fun i hi=>R7.1 (hp i hi) hi
  rw [e]
  simp [ME,hlen,Fh lp,-ag,-aq]
open Go
def q8 (p:Int) (l:List br) (hs:Nat->List LP):Nat->Int->List ge->List Int->Option (List Int)
 | 0,_,_,out=>some out
 | r+1,sum,ch,out=>match ch.find? (kX (hs r) p sum) with
  | none=>none
  | some b=>q8 p l hs r (sum+b.1.len p) (ow l b.1.t.toNat) (out++[(b.2:Int)])
def kR (A:ac) (s:AV) (xs:List Int):Prop:=(s=.nilS/\xs=[])\/∃id gr,s=.sl id 0 xs.length/\xs≠[]/\5<=id/\A[id]?=some (.row 1 gr (aj xs))
theorem kR.keep {s:AV} (h:kR A s xs) (hAB:∀id,id∈bj s->B[id]?=A[id]?):kR B s xs:=by
 rcases h with h | ⟨id,gr,rfl,h1,h2,h3⟩
 ·exact .inl h
 ·exact .inr ⟨id,gr,rfl,h1,h2,by rw [hAB id (by simp [bj]),h3]⟩
theorem kR.low {s:AV} (h:kR A s xs):∀id,id∈bj s->5<=id/\id<A.length:=by
 rcases h with ⟨rfl,_⟩ | ⟨id,gr,rfl,h1,h2,h3⟩
 ·intro id h; simp [bj] at h
 ·intro j hj
  simp only [bj,Sg] at hj
  subst hj
  exact ⟨h2,(Rv.1 h3).1⟩
theorem kR.form2 {s:AV} (h:kR A s xs):s=.nilS\/∃i k,s=.sl i 0 k:=by
 rcases h with ⟨rfl,_⟩ | ⟨id,gr,rfl,_⟩
 ·exact .inl rfl
 ·exact .inr ⟨_,_,rfl⟩
theorem kR.append {s:AV} (h:kR A s xs) (z:Int) (hA:5<=A.length) (hl:xs.length<=1000) :
  ∃s' k A',aR 1 8 A s (.fs 1 [.int .i64 z])=some (.sl s' 0 k,A')/\kR A' (.sl s' 0 k) (xs++[z])/\A.length<=A'.length/\(∀j,j<A.length->j ∉ bj s->A'[j]?=A[j]?)/\(s'∈bj s\/s'=A.length):=by
 rcases h with ⟨rfl,rfl⟩ | ⟨id,gr,rfl,h1,h2,h3⟩
 ·refine ⟨A.length,1,A++[.row 1 false [.int .i64 z]],by simp [aR,a8],.inr ⟨A.length,false,rfl,by simp,hA,by simp [aj]⟩,by simp,fun j hj _=>by rw [RC hj],.inr rfl⟩
 ·have hid:=(Rv.1 h3).1
  refine ⟨id,(xs++[z]).length,A.set id (.row 1 true (aj (xs++[z]))),?_,.inr ⟨id,true,rfl,by simp,h2,by simp [hid]⟩,by simp,fun j hj hn=>?_,.inl (by simp [bj])⟩
  ·simp only [aR,a8,h3]
   simp [h1,aj]
   omega
  ·rw [RF (fun e=>hn (by simp [bj,e]))]
theorem kR.out {s:AV} (h:kR A s xs) (k:Nat):frz A (k+1) s=slA 1 (aj xs)/\bo A (k+1) s=true:=by
 rcases h with ⟨rfl,rfl⟩ | ⟨id,gr,rfl,h1,h2,h3⟩
 ·exact ⟨rfl,rfl⟩
 ·constructor
  ·simp only [frz,h3,RT]
   rw [RX (by simp [aj]),uR]
   cases xs with
   | nil=>exact absurd rfl h1
   | cons x r=>rfl
  ·simp only [bo,h3,RT]
   rw [RX (by simp [aj])]
   exact vJ _ _ _
def Chs (A:ac) (v:AV) (xs:List AV):Prop:=SlA 6 xs v\/(v=.sl 3 0 xs.length/\A[3]?=some (.row 6 false xs))
def zF:List (FuncId × aJ):=[(100,aG 4 M49)]
@[simp] theorem N4:aE zF 100=some (aG 4 M49):=rfl
theorem GX:∀f M,aE zF f=some M->au Try.prog GC f M:=ai (au.of_pure Ju 4) aB
def Qq:MC:=.region [.t 1 11,.ad 14 0 0]
def Qp:MC:=.region [.a 10,.qn (.makeFunc (.func 101) [] [.var 5,.var 11,.var 9]),.E 100 0 1,.c 12 2]
def Qo:MC:=.region [.a 12,.ac 15 0 0]
def Rs:MC:=.region [.w 6,.g 7]
def Qn:MC:=.region [.a 10,.a 12,.e 6 0 1,.K 6 2,.z 13 6,.r 6 13 3]
def M3:MC:=.regionD [] [.a 8,.d 4 13,.b 1 1,.cu 2,.ax 1 0 3,.t 1 9,.d 5 13,.b 1 6,.o 5 7,.a 0,.R 9,.m 2 10,.b 1 11,.d 0 13,.m 1 13,.b 1 14,.e 1 12 15,.b 1 16,.c 8 4,.r 1 9 8,.c 10 17] [(4,5),(4,6),(4,7),(4,11),(4,12),(4,13),(4,14),(4,15),(4,16),(4,17),(11,19),(12,19),(13,19),(14,19),(15,19),(16,19),(17,19)]
def Qm:MC:=.region [.cd 16 1 11]
def Ql:MC:=.region [.a4 11 1,.cr 1 11 16]
def Qk:MC:=.region [.t 1 11,.s 0 1,.r 1 11 1]
theorem CU:fH=.seq (.seq Qq (.cond (.var 14) .skip (.exit 0))) (.seq (.seq (.block 1 (.seq Qp (.seq (.seq Qo (.cond (.var 15) (.seq Rs .ret) .skip)) (.seq Qn M3)))) (.kill [1,2,3,4,6,7,12,13,14,15,16])) (.seq (.seq Qm Ql) Qk)):=rfl
abbrev s43 (W v6 v7 v8 v10 v12 v13 v14 v15 v16:AV) (lid:Nat):List AV:=[W,.undef,.undef,.undef,.undef,.ptr 1 0 0,v6,v7,v8,.ptr 2 0 0,v10,.ptr lid 0 0,v12,v13,v14,v15,v16]
theorem QL (E:Env) (fuel:Nat) (K:List KC) {left:Int} (h:A[lid]?=some (.row 1 false [.int .i64 left])) :
  run E fuel (.code Qq :: K) (s43 W v6 v7 v8 v10 v12 v13 v14 v15 v16 lid) A=run E fuel K (s43 W v6 v7 v8 v10 v12 v13 (.bool (decide (0<=left))) v15 v16 lid) A:=by
 have b:=iO left
 simp [Qq,h,b,-ag]
theorem r43b (fuel:Nat) (K:List KC) (X Y:MC) {ch F:AV} (h1:frz A 4 v10=ch) (h2:frz A 4 (.func (.func 101) [] [.ptr 1 0 0,.ptr lid 0 0,.ptr 2 0 0])=F) (h3:M49 [ch,F]=some (.int .i64 z)) :
  run (aw GC zF) fuel (.code Qp :: .code (.seq (.seq Qo X) Y) :: K) (s43 W v6 v7 v8 v10 v12 v13 v14 v15 v16 lid) A=run (aw GC zF) fuel (.code X :: .code Y :: K) (s43 W v6 v7 v8 v10 (.int .i64 z) v13 v14 (.bool (decide (z<0))) v16 lid) A:=by
 have b:ag .lss (.int .i64 z) (.int .i64 0)=some (.bool (decide (z<0))):=by simp [ag]
 simp [Qp,Qo,h1,h2,h3,b,-ag,-frz]
theorem r43e (E:Env) (fuel:Nat) (K:List KC) {q:AV} (h:ae 6 A v10 (.int .i64 (i:Int))=some q) (hq:ab true 6 A q=some (.agg [.int .i64 c1,.int .i64 c2,.int .i64 c3,.int .i64 c4,.int .i64 c5,.int .i64 c6])) :
  run E fuel (.code Qn :: K) (s43 W v6 v7 v8 v10 (.int .i64 (i:Int)) v13 v14 v15 v16 lid) A=run E fuel K (s43 W v6 v7 v8 v10 (.int .i64 (i:Int)) (.ptr A.length 0 0) v14 v15 v16 lid) (A++[.row 6 false [.agg [.int .i64 c1,.int .i64 c2,.int .i64 c3,.int .i64 c4,.int .i64 c5,.int .i64 c6]]]):=by
 simp [Qn,h,hq,-ae,-ab]
theorem r43f (E:Env) (fuel:Nat) (K:List KC) {A:ac} {W1 so x:AV} {bid jo ko:Nat} {os:List AV} {n:Int} (hb:A[bid]?=some (.row 6 false [.agg [.int .i64 c1,.int .i64 (t:Int),.int .i64 c3,.int .i64 c4,.int .i64 c5,.int .i64 c6]]))
  (ap:aR 1 8 A so (.fs 1 [.int .i64 c5])=some (.sl jo 0 ko,B)) (hb':B[bid]?=some (.row 6 false [.agg [.int .i64 c1,.int .i64 (t:Int),.int .i64 c3,.int .i64 c4,.int .i64 c5,.int .i64 c6]])) (h2:B[2]?=some (.row 1 false [.int .i64 sum])) (hs:so=.nilS\/∃i k,so=.sl i 0 k) (hid:∀j∈bj so,j≠2/\j≠bid) (hA2:A.length≠2) (hAb:A.length≠bid) (hb2:bid≠2)
  (hsum : -1000000000<=sum/\sum<=1000000000) (hc6 : -3000000<=c6/\c6<=3000000) (ho:os[t]?=some x) (hx:x.solid=true) (hx2:cellsOf x=[x]) :
  run E fuel (.code M3 :: K) (s43 (.fp [.int .i64 n,W1,.fs 1 os]) v6 v7 so v10 v12 (.ptr bid 0 0) v14 v15 v16 lid) A=run E fuel K (s43 (.fp [.int .i64 n,W1,.fs 1 os]) v6 v7 (.sl jo 0 ko) x v12 (.ptr bid 0 0) v14 v15 v16 lid) (B.set 2 (.row 1 false [.int .i64 (sum+c6)])):=by
 have b2:ag .add (.int .i64 sum) (.int .i64 c6)=some (.int .i64 (sum+c6)):=by
  simp only [ag]; rw [RH trivial,eV (by unfold inI; omega)]
 have hix:∀C,ae 1 C (.fs 1 os) (.int .i64 (t:Int))=some (.fp [x]):=fun C=>(show SlA 1 os (.fs 1 os) from .inr rfl).index1 (A:=C) ho hx hx2 .i64
 have hA2':¬ 2=A.length:=fun e=>hA2 e.symm
 have hAb':¬ bid=A.length:=fun e=>hAb e.symm
 have hb2':¬ 2=bid:=fun e=>hb2 e.symm
 obtain ⟨s,hs'⟩:∃s,s=sum+c6:=⟨_,rfl⟩
 rw [<-hs'] at b2 ⊢
 rcases hs with rfl | ⟨i,k,rfl⟩
 ·simp [M3,hb,ap,hb',h2,b2,hix,hA2,hAb,hb2,-ag,-ae]
 ·obtain ⟨q1,q2⟩:=hid i (by simp [bj])
  have q1':¬ 2=i:=fun e=>q1 e.symm
  have q2':¬ bid=i:=fun e=>q2 e.symm
  simp [M3,hb,ap,hb',h2,b2,hix,hA2,hAb,hb2,q1,q2,-ag,-ae]
theorem r43i (E:Env) (fuel:Nat) (K:List KC) {left:Int} (h:A[lid]?=some (.row 1 false [.int .i64 left])) (hl:0<=left/\left<=100) :
  run E fuel (.code (.seq (.seq Qm Ql) Qk) :: K) (s43 W v6 v7 v8 v10 v12 v13 v14 v15 v16 lid) A=run E fuel K (s43 W v6 v7 v8 v10 v12 v13 v14 v15 (.int .i64 left) A.length) (A++[.row 1 false [.int .i64 (left-1)]]):=by
 have b2:ag .sub (.int .i64 left) (.int .i64 1)=some (.int .i64 (left-1)):=by
  simp only [ag]; rw [RH trivial,eV (by unfold inI; omega)]
 obtain ⟨s,hs'⟩:∃s,s=left-1:=⟨_,rfl⟩
 rw [<-hs'] at b2 ⊢
 simp [Qm,Ql,Qk,h,b2,-ag]
theorem Ee {α:Type} (q:α->Bool) (l:List α):(l.find? q=none/\dw q l = -1)\/∃(i:Nat) (hi:i<l.length),l.find? q=some l[i]/\dw q l=(i:Int)/\q l[i]=true:=by
 unfold dw
 cases h:l.findIdx? q with
 | none=>
  left
  refine ⟨?_,rfl⟩
  rw [List.findIdx?_eq_none_iff] at h
  rw [List.find?_eq_none]
  intro x hx; rw [h x hx]; simp
 | some i=>
  right
  obtain ⟨hi,h1,h2⟩:=List.findIdx?_eq_some_iff_getElem.1 h
  refine ⟨i,hi,?_,rfl,h1⟩
  rw [List.find?_eq_some_iff_getElem]
  exact ⟨h1,i,hi,rfl,fun j hj=>by simpa using h2 j hj⟩
theorem Im {v:AV} {xs:List ge} (h:Chs A v (wAs p xs)):SlA 6 (wAs p xs) (frz A 4 v):=by
 rcases h with h | ⟨rfl,h3⟩
 ·rw [h.frz]; exact h
 ·right
  show frz A (3+1) _=_
  simp only [frz,h3,RT]
  rw [RX (RR _)]
  congr 1
  unfold wAs
  rw [Tc]
  apply Sb
  intro x _
  exact FD A p x 2
theorem Lp {A:ac} {v:AV} {xs:List ge} (h:Chs A v (wAs p xs)) (hi:i<xs.length):∃q,ae 6 A v (.int .i64 (i:Int))=some q/\ab true 6 A q=some (wA p xs[i]):=by
 have hx:(wAs p xs)[i]?=some (wA p xs[i]):=by simp [wAs,hi]
 rcases h with h | ⟨rfl,h3⟩
 ·exact ⟨_,h.index (A:=A) hx rfl (by omega) .i64,by simp [ab,wA,cellsOf]⟩
 ·refine ⟨.ptr 3 i 0,?_,?_⟩
  ·simp [ae,h3]
   simp [wAs]; omega
  ·simp only [ab,h3,hx]; rfl
structure Ru (p:Int) (hs:List (List LP)) (r:Nat) (sum:Int) (ch:List ge) (out:List Int) (so v10:AV) (lid:Nat) (A:ac):Prop where
 a1:A[1]?=some (.row 1 false [zD hs])
 a2:A[2]?=some (.row 1 false [.int .i64 sum])
 al:A[lid]?=some (.row 1 false [.int .i64 ((r:Int)-1)])
 lid4:4<=lid
 so_:kR A so out
 lso:lid ∉ bj so
 chs:Chs A v10 (wAs p ch)
theorem Do {l:List br} (ht:t<n):((List.range n).map fun v=>slA 6 (wAs p (ow l v)))[t]?=some (slA 6 (wAs p (ow l t))):=by simp [ht]
theorem zK {n:Nat} {p:Int} {l:List br} (hp:cT p) (hv:∀x∈l,okA n x) (hn32:n<=32) (hl200:l.length<=200) (hsL:List (List LP)) (hs:Nat->List LP) (hk:k<=32) (hhs:∀r,r<k->hsL[r]?=some (hs r)/\(hs r).length=n/\PB 1000000000 (hs r)) :
  ∀(r:Nat) (sum:Int) (ch:List ge) (out:List Int) (so v10:AV) (lid:Nat) (A:ac) (m:Nat),r<m->r<=k -> -(3000000*((k:Int)-r))<=sum/\sum<=3000000*((k:Int)-r)->out.length<=k-r->(∀x∈ch,x∈num l)->ch.length<=200->Ru p hsL r sum ch out so v10 lid A ->
   ∃o,bM (evC (aw GC zF) 300 fH) ej m (gq (dk n p l) (.ptr 1 0 0) so (.ptr 2 0 0) v10 (.ptr lid 0 0)) A=some o /\
    match q8 p l hs r sum ch out with
    | none=>∃so' v10' lid' v12 v13 v14 v15 v16 A',o=.ret (s43 (dk n p l) .nilS (.bool false) so' v10' v12 v13 v14 v15 v16 lid') A'
    | some res=>∃so' v10' lid' A',o=.exit 0 ((gq (dk n p l) (.ptr 1 0 0) so' (.ptr 2 0 0) v10' (.ptr lid' 0 0)).set 14 (.bool false)) A'/\kR A' so' res:=by
 intro r
 induction r with
 | zero=>
  intro sum ch out so v10 lid A m hm _ _ _ _ _ hI
  obtain ⟨m,rfl⟩:∃j,m=j+1:=⟨m-1,by omega⟩
  have r1:=fun K=>QL (aw GC zF) 300 K (W:=dk n p l) (v6:=.undef) (v7:=.undef) (v8:=so) (v10:=v10) (v12:=.undef) (v13:=.undef) (v14:=.undef) (v15:=.undef) (v16:=.undef) hI.al
  simp only [Int.natCast_zero,Int.zero_sub,s43] at r1
  refine ⟨.exit 0 ((gq (dk n p l) (.ptr 1 0 0) so (.ptr 2 0 0) v10 (.ptr lid 0 0)).set 14 (.bool false)) A,?_,so,v10,lid,A,rfl,hI.so_⟩
  rw [aD,qN,CU]
  obtain ⟨W,hW⟩:∃W,W=dk n p l:=⟨_,rfl⟩
  rw [<-hW] at r1 ⊢
  simp [r1]
 | succ r ih=>
  intro sum ch out so v10 lid A m hm hrk hsum hout hch hcl hI
  obtain ⟨m,rfl⟩:∃j,m=j+1:=⟨m-1,by omega⟩
  obtain ⟨hh1,hh2,hh3⟩:=hhs r (by omega)
  have hleft:(((r+1:Nat):Int)-1)=(r:Int):=by omega
  have hal:=hI.al
  rw [hleft] at hal
  have r1:=fun K=>QL (aw GC zF) 300 K (W:=dk n p l) (v6:=.undef) (v7:=.undef) (v8:=so) (v10:=v10) (v12:=.undef) (v13:=.undef) (v14:=.undef) (v15:=.undef) (v16:=.undef) hal
  rw [RE (show (0:Int)<=(r:Int) by omega)] at r1
  have h49:=L8 (p:=p) (sum:=sum) (Im hI.chs) hcl hh1 (fun x hx=>by
   obtain ⟨hi,e⟩:=mX (hch x hx)
   have:=hv _ (RM hi)
   rw [e] at this
   have h2:=this.2.1
   omega) hh3 (by omega) (fun x hx=>by
   obtain ⟨hi,e⟩:=mX (hch x hx)
   have:=hv _ (RM hi)
   rw [e] at this
   obtain ⟨q1,q2,q3,q4⟩:=this
   have:=jf (n:=32) (a:=x.1) ⟨by omega,by omega,q3,q4⟩ hp
   omega)
  have hfn:frz A 4 (.func (.func 101) [] [.ptr 1 0 0,.ptr lid 0 0,.ptr 2 0 0])=KG hsL r sum:=by
   have a1:=hI.a1
   have a2:=hI.a2
   unfold KG zD at *
   simp [frz,a1,a2,hal]
  have r2:=fun K X Y=>r43b 300 K X Y (W:=dk n p l) (v6:=.undef) (v7:=.undef) (v8:=so) (v10:=v10) (v12:=.undef) (v13:=.undef) (v14:=.bool true) (v15:=.undef) (v16:=.undef) rfl hfn h49
  rw [aD,qN,CU]
  unfold q8
  rcases Ee (kX (hs r) p sum) ch with ⟨q1,q2⟩ | ⟨i,hi,q1,q2,q3⟩
  ·rw [q1]
   rw [q2] at r2
   rw [RE (show (-1:Int)<0 by omega)] at r2
   refine ⟨.ret (s43 (dk n p l) .nilS (.bool false) so v10 (.int .i64 (-1)) .undef (.bool true) (.bool true) .undef lid) A,?_,so,v10,lid,_,_,_,_,_,A,rfl⟩
   obtain ⟨W,hW⟩:∃W,W=dk n p l:=⟨_,rfl⟩
   rw [<-hW] at r1 r2 ⊢
   simp only [s43] at r1 r2
   simp [r1,r2,Rs]
  ·rw [q1]
   rw [q2] at r2
   rw [RD (show ¬ (i:Int)<0 by omega)] at r2
   obtain ⟨b,hb⟩:∃b,b=ch[i]:=⟨_,rfl⟩
   have hbm:=hch _ (RM hi)
   rw [<-hb] at hbm
   obtain ⟨hbi,hbe⟩:=mX hbm
   have hok:=hv _ (RM hbi)
   rw [hbe] at hok
   obtain ⟨o1,o2,o3,o4⟩:=hok
   obtain ⟨t,ht1,ht2⟩:=qa o2
   have hw:=jf (n:=32) (a:=b.1) ⟨by omega,by omega,o3,o4⟩ hp
   obtain ⟨q,e1,e2⟩:=Lp hI.chs hi
   rw [<-hb] at e2
   have hwb:wA p b=.agg [.int .i64 b.1.f,.int .i64 (t:Int),.int .i64 b.1.w,.int .i64 b.1.k,.int .i64 (b.2:Int),.int .i64 (b.1.len p)]:=by unfold wA; rw [ht1]
   rw [hwb] at e2
   have r3:=fun K=>r43e (aw GC zF) 300 K (W:=dk n p l) (v6:=.undef) (v7:=.undef) (v8:=so) (v13:=.undef) (v14:=.bool true) (v15:=.bool false) (v16:=.undef) (lid:=lid) e1 e2
   rw [<-hwb] at r3
   obtain ⟨B,hB⟩:∃B,B=A++[.row 6 false [wA p b]]:=⟨_,rfl⟩
   rw [<-hB] at r3
   have hBo:∀j,j<A.length->B[j]?=A[j]?:=fun j hj=>by rw [hB,RC hj]
   have hBl:B.length=A.length+1:=by rw [hB]; simp
   have hBb:B[A.length]?=some (.row 6 false [wA p b]):=by rw [hB]; simp
   have hlA:=(Rv.1 hal).1
   have hl4:=hI.lid4
   have hso:=hI.so_.low
   have soB:kR B so out:=hI.so_.keep fun j hj=>hBo j (hso j hj).2
   obtain ⟨jo,ko,C,ap,s2,c1,c2,c3⟩:=soB.append (b.2:Int) (by omega) (by omega)
   have hCo:∀j,j<A.length->j ∉ bj so->C[j]?=A[j]?:=fun j hj hn=>by rw [c2 j (by omega) hn,hBo j hj]
   have h2so:2 ∉ bj so:=fun h=>by have:=hso 2 h; omega
   have hC2:=(hCo 2 (by omega) h2so).trans hI.a2
   have hbso:A.length ∉ bj so:=fun h=>by have:=hso _ h; omega
   have hCb:=(c2 A.length (by omega) hbso).trans hBb
   rw [hwb] at hBb hCb
   have r4:=fun K=>r43f (aw GC zF) 300 K (A:=B) (B:=C) (W1:=slA 6 (wAs p (num l))) (v6:=.undef) (v7:=.undef) (so:=so) (v10:=v10) (v12:=.int .i64 (i:Int)) (v14:=.bool true) (v15:=.bool false) (v16:=.undef) (x:=slA 6 (wAs p (ow l t))) (lid:=lid) (bid:=A.length) (n:=(n:Int)) hBb ap hCb hC2 soB.form2 (fun j hj=>⟨by have:=(hso j hj).1; omega,by have:=(hso j hj).2; omega⟩) (by omega) (by omega) (by omega) (by omega) (by omega) (Do (p:=p) (l:=l) (show t<n by omega)) (Ai _ _) (w7 _ _)
   obtain ⟨D,hD⟩:∃D,D=C.set 2 (.row 1 false [.int .i64 (sum+b.1.len p)]):=⟨_,rfl⟩
   have hDo:∀j,j≠2->D[j]?=C[j]?:=fun j hj=>by rw [hD,RF (S4 hj)]
   have hDl:D.length=C.length:=by rw [hD]; simp
   rw [<-hD] at r4
   have hDlid:D[lid]?=some (.row 1 false [.int .i64 (r:Int)]):=by rw [hDo lid (by omega),hCo lid hlA hI.lso]; exact hal
   have r5:=fun K=>r43i (aw GC zF) 300 K (A:=D) (W:=dk n p l) (v6:=.undef) (v7:=.undef) (v8:=.sl jo 0 ko) (v10:=slA 6 (wAs p (ow l t))) (v12:=.undef) (v13:=.undef) (v14:=.undef) (v15:=.undef) (v16:=.undef) hDlid (by omega)
   obtain ⟨F,hF⟩:∃F,F=D++[.row 1 false [.int .i64 ((r:Int)-1)]]:=⟨_,rfl⟩
   rw [<-hF] at r5
   have hFo:∀j,j<D.length->F[j]?=D[j]?:=fun j hj=>by rw [hF,RC hj]
   have htt:b.1.t.toNat=t:=by omega
   have hs2:=s2.low
   have hIH:=ih (sum+b.1.len p) (ow l t) (out++[(b.2:Int)]) (.sl jo 0 ko) (slA 6 (wAs p (ow l t))) D.length F m (by omega) (by omega) (by omega) (by simp; omega) (fun x hx=>(Tu.1 hx).1) (ST (xM l t) hl200) {
    a1:=by
     rw [hFo 1 (by omega),hDo 1 (by omega),hCo 1 (by omega) (fun h=>by have:=hso 1 h; omega)]; exact hI.a1
    a2:=by rw [hFo 2 (by omega),hD]; exact RO (by omega)
    al:=by rw [hF]; simp
    lid4:=by omega
    so_:=s2.keep fun j hj=>by
     have:=hs2 j hj
     rw [hFo j (by omega),hDo j (by omega)]
    lso:=fun h=>by have:=hs2 _ h; omega
    chs:=.inl (ba _ _)}
   obtain ⟨o,k1,k2⟩:=hIH
   simp only [<-hb,htt]
   refine ⟨o,?_,k2⟩
   obtain ⟨O,hO⟩:∃O,O=(List.range n).map fun v=>slA 6 (wAs p (ow l v)):=⟨_,rfl⟩
   obtain ⟨W1,hW1⟩:∃W1,W1=slA 6 (wAs p (num l)):=⟨_,rfl⟩
   have hW:dk n p l=.fp [.int .i64 (n:Int),W1,.fs 1 O]:=by rw [hO,hW1]; rfl
   rw [<-hO,<-hW1] at r4
   rw [hW] at r1 r2 r3 r5 k1 ⊢
   obtain ⟨Z,hZ⟩:∃Z,Z=slA 6 (wAs p (ow l t)):=⟨_,rfl⟩
   rw [<-hZ] at r4 r5 k1
   simp only [s43] at r1 r2 r3 r4 r5
   simp [r1,r2,r3,r4,r5]
   rw [<-CU,sw,qN]; exact k1
def M43:aU:=fun args=>evF (aw GC zF) 300 Dc 5 args
theorem GF:cm Try.prog GC 93 M43:=cm.of_ev (E:=aw GC zF) (ay GX) rfl P4 BP 5 fun _ _ h=>⟨300,h⟩
def Fb (L:List dD) (n to k:Nat):List (List LP):=(List.range (k+1)).map fun j=>hm L n to j
theorem Ib (L:List dD) (n to k:Nat):.fs 1 (zE L n to k)=zD (Fb L n to k):=by
 unfold zE zD Fb; rw [Tc]; rfl
theorem D8 (L:List dD) (n to:Nat) {r:Nat} (h:r<=k):(Fb L n to k)[r]?=some (hm L n to r):=by
 unfold Fb; rw [SY,Tj (by omega)]; rfl
def zM (r:Option (List Int)):AV:=match r with
 | none=>.tup [.nilS,.bool false]
 | some xs=>.tup [slA 1 (aj xs),.bool true]
theorem yD {l:List br} (hr:cM n l p) (hk1:1<=k) (hk:k<=32) {a:ge} (ha:a∈num l) :
  M43 [dk n p l,wA p a,.fs 1 (zE (lar p l) n to k),.int .i64 (k:Int)]=some (zM (q8 p l (hm (lar p l) n to) k 0 [a] [])):=by
 obtain ⟨⟨hn,hl200,hv⟩,hp⟩:=hr
 have hn32:n<=32:=by omega
 have hok:=xS hn32 hp hv
 rw [Ib]
 have b0:ag .sub (.int .i64 (k:Int)) (.int .i64 1)=some (.int .i64 ((k:Int)-1)):=by
  simp only [ag]; rw [RH trivial,eV (by unfold inI; omega)]
 have hI:Ru p (Fb (lar p l) n to k) k 0 [a] [] .nilS (.sl 3 0 1) 4 [.row 6 false [wA p a],.row 1 false [zD (Fb (lar p l) n to k)],.row 1 false [.int .i64 0],.row 6 false [wA p a],.row 1 false [.int .i64 ((k:Int)-1)]]:=
  {a1:=rfl,a2:=rfl,al:=rfl,lid4:=by omega,so_:=.inl ⟨rfl,rfl⟩,lso:=by simp [bj],chs:=.inr ⟨rfl,rfl⟩}
 obtain ⟨o,h1,h2⟩:=zK hp hv hn32 hl200 (Fb (lar p l) n to k) (hm (lar p l) n to) hk (fun r hr=>⟨D8 _ _ _ (by omega),xX _ _ _ _,fun v=>by
  have:=Ic hok to r v
  omega⟩) k 0 [a] [] .nilS (.sl 3 0 1) 4 _ 300 (by omega) (RR _) (by omega) (by simp) (fun x hx=>by
  have:x=a:=by simpa using hx
  rw [this]; exact ha) (by simp) hI
 unfold M43
 rw [gI _ _ rfl]
 obtain ⟨W,hW⟩:∃W,W=dk n p l:=⟨_,rfl⟩
 obtain ⟨HT,hHT⟩:∃HT,zD (Fb (lar p l) n to k)=.fs 1 HT:=⟨_,rfl⟩
 rw [hHT] at h1 ⊢
 rw [<-hW] at h1 h2 ⊢
 unfold wA at h1 ⊢
 obtain ⟨k1,hk1'⟩:∃k1,k1=(k:Int)-1:=⟨_,rfl⟩
 rw [<-hk1'] at b0 h1
 cases hw:q8 p l (hm (lar p l) n to) k 0 [a] [] with
 | none=>
  rw [hw] at h2
  obtain ⟨so',v10',lid',v12,v13,v14,v15,v16,A',rfl⟩:=h2
  simp [Dc,b0,uM h1,zM,dE,bo,frz,-ag]
 | some xs=>
  rw [hw] at h2
  obtain ⟨so',v10',lid',A',rfl,hs⟩:=h2
  obtain ⟨q1,q2⟩:=hs.out 3
  have z1:frz A' 5 (.tup [so',.bool true])=.tup [slA 1 (aj xs),.bool true]:=by
   show AV.tup [frz A' 4 so',frz A' 4 (.bool true)]=_
   rw [q1]; rfl
  have z2:bo A' 5 (.tup [so',.bool true])=true:=by
   show [so',.bool true].all (bo A' 4)=true
   simp only [List.all_cons,q2]; rfl
  have p1:dE [so',.bool true]=.tup [so',.bool true]:=rfl
  simp [Dc,b0,uM h1,zM,z1,z2,-ag,-frz]
open Go
def sD (p:Int) (l:List br) (n k:Nat) (f:Int):AV:=.fs 1 (zE (lar p l) n f.toNat k)
def mV (l:List br):List Int:=l.foldl (fun s a=>if a.f∈s then s else s++[a.f]) []
theorem yT (l:List br) (i:Nat) (hi:i<l.length):mV (l.take (i+1))=if l[i].f∈mV (l.take i) then mV (l.take i) else mV (l.take i)++[l[i].f]:=by
 unfold mV
 rw [SS hi,List.foldl_append]
 rfl
def vV (G:Int->AV) (s:List Int):List (AV × AV):=s.map fun w=>(.int .i64 w,G w)
theorem yd (G:Int->AV) (w:Int):∀(s:List Int) (i:Nat),w∈s->∃q,iy (.int .i64 w) (vV G s) i=some (some (q,G w))
 | [],_,h=>by cases h
 | x :: s,i,h=>by
  by_cases hx:x=w
  ·subst hx
   exact ⟨i,by simp [vV,iy,ox]⟩
  ·have hw:w∈s:=by
    rcases Su.1 h with e | e
    ·exact absurd e.symm hx
    ·exact e
   obtain ⟨q,h1⟩:=yd G w s (i+1) hw
   refine ⟨q,?_⟩
   simp only [vV,SG,iy,ox] at h1 ⊢
   simp only [SX,Tk.2 (S4 hx)]
   exact h1
theorem qv (G:Int->AV) (w:Int):∀(s:List Int) (i:Nat),w ∉ s->iy (.int .i64 w) (vV G s) i=some none
 | [],_,_=>rfl
 | x :: s,i,h=>by
  have hx:¬ w=x:=fun e=>h (by simp [e])
  have:=qv G w s (i+1) (fun e=>h (by simp [e]))
  simp only [vV,SG,iy,ox] at this ⊢
  simp only [SX,Tk.2 hx]
  exact this
theorem xR {M:Nat} (hB:B[M]?=some (.map (vV G s))) (h:w∈s) (ok:Bool):cH ok .nilS B (.map M) (.int .i64 w)=some (if ok then .tup [G w,.bool true] else G w):=by
 obtain ⟨q,h1⟩:=yd G w s 0 h
 simp only [cH,hB,h1]
theorem AK {M:Nat} (hB:B[M]?=some (.map (vV G s))) (h:w ∉ s) (ok:Bool):cH ok .nilS B (.map M) (.int .i64 w)=some (if ok then .tup [.nilS,.bool false] else .nilS):=by
 simp only [cH,hB,qv G w s 0 h]
theorem Dp {M:Nat} (hB:B[M]?=some (.map (vV G s))) (h:w ∉ s):bQ B (.map M) (.int .i64 w) (G w)=some (B.set M (.map (vV G (s++[w])))):=by
 simp only [bQ,hB,qv G w s 0 h]
 simp [vV]
def TT (p:Int) (l:List br) (i:Nat):ac:=((num l).take i).flatMap fun x=>[.row 6 false [wA p x],.row 6 false [wA p x]]
theorem Ix (p:Int) (l:List br) (i:Nat) (hi:i<l.length):TT p l (i+1)=TT p l i++[.row 6 false [wA p (l[i],i)],.row 6 false [wA p (l[i],i)]]:=by
 unfold TT
 have h:=gG l i hi
 obtain ⟨h1,h2⟩:=Rv.1 h
 rw [SS h1,TW,h2]
 rfl
theorem bG.consF {G:Nat->Option (List AV)} {fs:List (FuncId × aJ)} {h0:be} {f:FuncId} {pu:List FuncId} {M:aU} (h:aE fs f=some (cJ 4 M)) (hr:bG (dX G fs h0) pu):bG (dX G fs h0) (f :: pu):=by
 intro k hk hh args A r A' he
 rcases Su.1 hk with rfl | hk
 ·simp only [dX,kQ,h,cJ,DJ,S7,Sk] at he ⊢
  rw [RJ] at he
  obtain ⟨r',hM,he⟩:=he
  simp only [RQ] at he
  obtain ⟨rfl,rfl⟩:=he
  refine ⟨rfl,fun hn B=>?_⟩
  have hm:args.map (frz B 4)=args.map (frz A 4):=Sb fun x hx=>uw 4 x (RZ.1 hn x hx)
  rw [hm,hM]; rfl
 ·exact hr k hk hh args A r A' he
def zg:List (FuncId × aJ):=[(99,cJ 4 M48)]
@[simp] theorem NY:aE zg 99=some (cJ 4 M48):=rfl
theorem GU:∀f M,aE zg f=some M->au Try.prog GC f M:=ai (au.of_pureF GE 4) aB
def H47:aJ:=fun hd=>cc (dX GC zg hd) 300 EV
theorem xx:au Try.prog GC 98 H47:=cC GU PX BM (bG.consF (M:=M48) rfl bG.nil)
def H42:aJ:=fun hd=>cc (dX GC [] hd) 0 AE
theorem rW:au Try.prog GC 92 H42:=cC aB Ly vo
theorem ev42 (h:be) (w:List AV) (k:Int) (A:ac):H42 h [.fp w,.int .i64 k] A=some (.func (.func 98) [] [.ptr A.length 0 0,.ptr (A.length+1) 0 0],A++[.row 1 false [.fp w],.row 1 false [.int .i64 k]]):=by
 unfold H42
 rw [bh _ _ rfl]
 simp [AE]
def Qj:MC:=.region [.M 6 6 8,.K 6 0,.z 4 6,.r 6 4 1]
def LM:MC:=.region [.a 3,.d 0 4,.m 0 1,.b 1 2,.qn (.lookup 1 true .nilS (.tmp 0) (.tmp 3)),.h 4,.j 5 0,.j 5 1,.h 6,.c 5 7]
def LL:MC:=.region [.a 5,.V 10 0]
def Qi:MC:=.region [.a 3,.d 0 4,.m 0 1,.b 1 2,.t 1 1,.d 0 4,.m 0 5,.b 1 6,.t 1 2,.P 99 4 7 8,.bu 0 3 9]
def LK:MC:=.region [.a 0,.l 6 4,.a 3,.d 0 4,.m 0 3,.b 1 4,.qn (.lookup 1 false .nilS (.tmp 2) (.tmp 5)),.cg 0 1 6,.V 11 7]
def LJ:MC:=.region [.u 8 1,.c 8 0]
theorem yB:kf=.seq (.region [.B 9 8 7]) (.seq (.cond (.var 9) .skip (.exit 0)) (.seq (.seq (.block 1 (.seq Qj (.seq (.seq LM (.seq LL (.cond (.var 10) Qi .skip))) (.seq LK (.cond (.var 11) .ret .skip))))) (.kill [4,5,9,10,11])) LJ)):=rfl
def A47 (p:Int) (l:List br) (n k:Nat) (X:ac) (i:Nat):ac:=X ++ .map (vV (sD p l n k) (mV (l.take i))) :: TT p l i
def P47 (p:Int) (l:List br) (n k:Nat) (X:ac) (i:Nat) (a:br):ac:=X ++ .map (vV (sD p l n k) (mV (l.take (i+1)))) :: (TT p l i++[.row 6 false [wA p (a,i)]])
theorem r47a (E:Env) (fuel:Nat) (K:List KC) (A:ac) {l:List br} (hi:i<l.length) (v0 v1 v2 v3 v4 v5 v7 v9 v10 v11:AV) :
  run E fuel (.code Qj :: K) [v0,v1,v2,v3,v4,v5,slA 6 (wAs p (num l)),v7,.int .i64 (i:Int),v9,v10,v11] A =
   run E fuel K [v0,v1,v2,v3,.ptr A.length 0 0,v5,slA 6 (wAs p (num l)),v7,.int .i64 (i:Int),v9,v10,v11] (A++[.row 6 false [wA p (l[i],i)]]):=by
 have x1:=ub p hi A .i64
 obtain ⟨W,hW⟩:∃W,W=slA 6 (wAs p (num l)):=⟨_,rfl⟩
 rw [<-hW] at x1 ⊢
 simp [Qj,x1,wA,-ae]
theorem wu (h:be) (L:Nat) {wp kp:Nat} {p:Int} {l:List br} (hr:cM n l p) (hk:k<=32) (hw:X[wp]?=some (.row 1 false [dk n p l])) (hkp:X[kp]?=some (.row 1 false [.int .i64 (k:Int)])) (hi:i<l.length) {b:Bool} {A':ac}
  (hy:h (.func (.yield L) [] []) [wA p (l[i],i),sD p l n k l[i].f] (P47 p l n k X i l[i])=some (.bool b,A')) :
  ∃d4 d5 d9 d10 d11,run (dX GC zg h) 300 [.code kf] (lq (.func (.yield L) [] []) (.ptr wp 0 0) (.ptr kp 0 0) (.map X.length) (slA 6 (wAs p (num l))) (.int .i64 (l.length:Int)) (.int .i64 (i:Int))) (A47 p l n k X i) =
   if b=true then some (.normal (lq (.func (.yield L) [] []) (.ptr wp 0 0) (.ptr kp 0 0) (.map X.length) (slA 6 (wAs p (num l))) (.int .i64 (l.length:Int)) (.int .i64 ((i+1:Nat):Int))) A')
   else some (.ret [.func (.yield L) [] [],.ptr wp 0 0,.ptr kp 0 0,.map X.length,d4,d5,slA 6 (wAs p (num l)),.int .i64 (l.length:Int),.int .i64 (i:Int),d9,d10,d11] A'):=by
 have hmem:=hr.1.2.2 _ (RM hi)
 obtain ⟨f,hf,hfn⟩:=qa hmem.1
 have hl200:=hr.1.2.1
 have hn32:=hr.1.1
 obtain ⟨B,hB⟩:∃B,B=A47 p l n k X i++[.row 6 false [wA p (l[i],i)]]:=⟨_,rfl⟩
 have hBX:∀j,j<X.length->B[j]?=X[j]?:=fun j hj=>by rw [hB,A47,R1,RC hj]
 have hwl:=(Rv.1 hw).1
 have hkl:=(Rv.1 hkp).1
 have hBw:=(hBX wp hwl).trans hw
 have hBk:=(hBX kp hkl).trans hkp
 have hBM:B[X.length]?=some (.map (vV (sD p l n k) (mV (l.take i)))):=by
  rw [hB,A47,R1,RS (RR _)]; simp
 obtain ⟨M,hM⟩:∃M,M=X.length:=⟨_,rfl⟩
 obtain ⟨i8,hi8⟩:∃i8,i8=(A47 p l n k X i).length:=⟨_,rfl⟩
 have hlow:M<i8:=by rw [hi8,hM]; simp [A47]
 have hB8:B[i8]?=some (.row 6 false [wA p (l[i],i)]):=by rw [hB,hi8]; simp
 have r1:=fun K=>r47a (dX GC zg h) 300 K (A47 p l n k X i) (p:=p) hi (.func (.yield L) [] []) (.ptr wp 0 0) (.ptr kp 0 0) (.map X.length) .undef .undef (.int .i64 (l.length:Int)) (.bool true) .undef .undef
 rw [<-hB,<-hi8,<-hM] at r1
 rw [<-hM] at hBM ⊢
 have hst:=yT l i hi
 rw [hf] at hst hy
 obtain ⟨G,hG⟩:∃G,G=sD p l n k:=⟨_,rfl⟩
 have m48:M48 [dk n p l,.int .i64 (f:Int),.int .i64 (k:Int)]=some (G (f:Int)):=by
  rw [L9 hr (by omega) hk,hG]; unfold sD; rw [RW]
 have hGf:∃T,G (f:Int)=.fs 1 T:=⟨zE (lar p l) n f k,by rw [hG]; unfold sD; rw [RW]⟩
 have b1:=a9 i l.length .i64
 rw [RE hi] at b1
 have b3:=aV i (by omega)
 obtain ⟨i1,hi1⟩:∃i1:Nat,i1=i+1:=⟨_,rfl⟩
 rw [<-hi1] at b3 ⊢
 rw [<-hG] at hBM hy
 obtain ⟨T,hT⟩:=hGf
 have hnw:wA p (l[i],i)=.agg [.int .i64 (f:Int),.int .i64 l[i].t,.int .i64 l[i].w,.int .i64 l[i].k,.int .i64 (i:Int),.int .i64 (l[i].len p)]:=by unfold wA; rw [hf]
 rw [hnw] at hB8 hy
 obtain ⟨A1,hA1⟩:∃A1,A1=A47 p l n k X i:=⟨_,rfl⟩
 rw [<-hA1] at r1 ⊢
 obtain ⟨W1,O,hW,hW1⟩:∃W1 O,dk n p l=.fp [.int .i64 (n:Int),W1,O]/\W1=slA 6 (wAs p (num l)):=⟨_,_,rfl,rfl⟩
 have hWfz:∀B n,frz B n W1=W1:=fun B n=>by rw [hW1]; exact wV B n 6 _
 rw [<-hW1] at r1 ⊢
 by_cases hs:(f:Int)∈mV (l.take i)
 ·rw [RH hs] at hst
  have hP:P47 p l n k X i l[i]=B:=by
   rw [hB,P47,A47,hst]; simp
  rw [hP] at hy
  have lk:=fun ok=>xR hBM hs ok
  have lk1:=lk true
  have lk2:=lk false
  simp only [SX,Sc,S8] at lk1 lk2
  cases b with
  | true=>
   refine ⟨.undef,.undef,.undef,.undef,.undef,?_⟩
   rw [yB]
   simp [b1,b3,r1,LM,LL,LK,LJ,hB8,lk1,lk2,hy,-ag,-cH]
  | false=>
   refine ⟨.ptr i8 0 0,.bool true,.bool true,.bool false,.bool true,?_⟩
   rw [yB]
   simp [b1,r1,LM,LL,LK,LJ,hB8,lk1,lk2,hy,-ag,-cH]
 ·rw [RK hs] at hst
  have up:=Dp hBM hs
  obtain ⟨C,hC⟩:∃C,C=B.set M (.map (vV G (mV (l.take i)++[(f:Int)]))):=⟨_,rfl⟩
  have hP:P47 p l n k X i l[i]=C:=by
   rw [hC,hB,P47,A47,hst,hM,R1,R8 _ _ (RR _),<-hG]; simp
  rw [hP] at hy
  rw [<-hC] at up
  have hCM:C[M]?=some (.map (vV G (mV (l.take i)++[(f:Int)]))):=by rw [hC]; exact RO (Rv.1 hBM).1
  have hC8:=(show C[i8]?=B[i8]? by rw [hC,RF (by omega)]).trans hB8
  have lk1:=AK hBM hs true
  have lk2:=xR hCM (show (f:Int)∈mV (l.take i)++[(f:Int)] by simp) false
  simp only [SX,Sc,S8] at lk1 lk2
  rw [hW] at hBw m48
  rw [hT] at up lk2 m48 hy
  have hfz1:∀B,frz B 4 (.fp [.int .i64 (n:Int),W1,O])=.fp [.int .i64 (n:Int),W1,O]:=fun _=>rfl
  cases b with
  | true=>
   refine ⟨.undef,.undef,.undef,.undef,.undef,?_⟩
   rw [yB]
   simp [b1,b3,r1,LM,LL,Qi,LK,LJ,hB8,hC8,hBw,hBk,lk1,lk2,m48,up,hy,-ag,-cH,-bQ]
  | false=>
   refine ⟨.ptr i8 0 0,.bool false,.bool true,.bool true,.bool true,?_⟩
   rw [yB]
   simp [b1,r1,LM,LL,Qi,LK,LJ,hB8,hC8,hBw,hBk,lk1,lk2,m48,up,hy,-ag,-cH,-bQ]
theorem yM (p:Int) (l:List br) (n k:Nat) (X:ac):A47 p l n k X 0=X++[.map []]:=by
 simp [A47,TT,mV,vV]
theorem ev47 (h:be) (L:Nat) {wp kp:Nat} {l:List br} (hr:cM n l p) (hk:k<=32) (hw:X[wp]?=some (.row 1 false [dk n p l])) (hkp:X[kp]?=some (.row 1 false [.int .i64 (k:Int)])) (m:Nat) (hm:m<=l.length)
  (hno:∀i (hi:i<l.length),i<m->h (.func (.yield L) [] []) [wA p (l[i],i),sD p l n k l[i].f] (P47 p l n k X i l[i])=some (.bool true,A47 p l n k X (i+1)))
  (Z:ac) (hyes:∀hi:m<l.length,h (.func (.yield L) [] []) [wA p (l[m],m),sD p l n k l[m].f] (P47 p l n k X m l[m])=some (.bool false,Z)) :
  H47 h [.func (.yield L) [] [],.ptr wp 0 0,.ptr kp 0 0] X=some (.tup [],if m<l.length then Z else A47 p l n k X l.length):=by
 have hl200:=hr.1.2.1
 have hwl:=(Rv.1 hw).1
 have hw':(X++[Ent.map []])[wp]?=some (.row 1 false [dk n p l]):=by rw [RC hwl]; exact hw
 have hlen2:aq (slA 6 (wAs p (num l)))=some (.int .i64 (l.length:Int)):=by rw [tH,s8]
 unfold H47
 rw [bh _ _ rfl]
 obtain ⟨W1,O,hW,hW1⟩:∃W1 O,dk n p l=.fp [.int .i64 (n:Int),W1,O]/\W1=slA 6 (wAs p (num l)):=⟨_,_,rfl,rfl⟩
 by_cases hml:m<l.length
 ·rw [RH hml]
  obtain ⟨d4,d5,d9,d10,d11,hlast⟩:=wu h L hr hk hw hkp hml (hyes hml)
  rw [RK (by simp)] at hlast
  have lp:=tI (E:=dX GC zg h) (fuel:=300) (a:=kf) (mask:=ig) (fun i=>lq (.func (.yield L) [] []) (.ptr wp 0 0) (.ptr kp 0 0) (.map X.length) (slA 6 (wAs p (num l))) (.int .i64 (l.length:Int)) (.int .i64 (i:Int))) (fun i=>A47 p l n k X i) m
   (fun _=>B9) (fun _ _ h=>by cases h) (fun i hi=>by
    obtain ⟨_,_,_,_,_,hl⟩:=wu h L hr hk hw hkp (show i<l.length by omega) (hno i (by omega) hi)
    rw [RH rfl] at hl
    exact hl) hlast (show m<300 by omega)
  have lp:bM (evC (dX GC zg h) 300 kf) ig 300 (lq (.func (.yield L) [] []) (.ptr wp 0 0) (.ptr kp 0 0) (.map X.length) (slA 6 (wAs p (num l))) (.int .i64 (l.length:Int)) (.int .i64 0)) (A47 p l n k X 0)=_:=lp
  rw [yM] at lp
  rw [hW] at hw'
  rw [<-hW1] at lp hlen2
  simp [EV,hw',hlen2,Fi lp,dE,-aq]
 ·rw [RK hml]
  have hml':m=l.length:=by omega
  have lp:=tI (E:=dX GC zg h) (fuel:=300) (a:=kf) (mask:=ig) (fun i=>lq (.func (.yield L) [] []) (.ptr wp 0 0) (.ptr kp 0 0) (.map X.length) (slA 6 (wAs p (num l))) (.int .i64 (l.length:Int)) (.int .i64 (i:Int))) (fun i=>A47 p l n k X i) l.length
   (o:=.exit 0 ((lq (.func (.yield L) [] []) (.ptr wp 0 0) (.ptr kp 0 0) (.map X.length) (slA 6 (wAs p (num l))) (.int .i64 (l.length:Int)) (.int .i64 (l.length:Int))).set 9 (.bool false)) (A47 p l n k X l.length))
   (fun _=>B9) (fun _ _ h=>by cases h) (fun i hi=>by
    obtain ⟨_,_,_,_,_,hl⟩:=wu h L hr hk hw hkp hi (hno i hi (by omega))
    rw [RH rfl] at hl
    exact hl) (by simp [kf]) (show l.length<300 by omega)
  have lp:bM (evC (dX GC zg h) 300 kf) ig 300 (lq (.func (.yield L) [] []) (.ptr wp 0 0) (.ptr kp 0 0) (.map X.length) (slA 6 (wAs p (num l))) (.int .i64 (l.length:Int)) (.int .i64 0)) (A47 p l n k X 0)=_:=lp
  rw [yM] at lp
  rw [hW] at hw'
  rw [<-hW1] at lp hlen2
  simp [EV,hw',hlen2,Fi lp,dE,-aq]
open Go
def wk (p:Int) (l:List br) (n k:Nat) (x:ge):Option (List Int):=q8 p l (hm (lar p l) n x.1.f.toNat) k 0 [x] []
def f7 (p:Int) (l:List br) (n k:Nat):Option (List Int):=(num l).findSome? (wk p l n k)
def tU (p:Int) (l:List br) (n:Nat):Option (List Int):=(List.range n).findSome? fun j=>f7 p l n (j+1)
def jg:List (FuncId × aJ):=[(92,H42),(93,cJ 4 M43),(98,H47)]
@[simp] theorem OE:aE jg 92=some H42:=rfl
@[simp] theorem OD:aE jg 93=some (cJ 4 M43):=rfl
@[simp] theorem OC:aE jg 98=some H47:=rfl
theorem td:∀f M,aE jg f=some M->au Try.prog GC f M:=ai rW (ai (au.of_pureF GF 4) (ai xx aB))
theorem CC (h0:be) {Q:ac} {wb rb vid:Nat} {l:List br} (hr:cM n l p) (hk1:1<=k) (hk:k<=32) (hw:Q[wb]?=some (.row 1 false [dk n p l])) (hkp:Q[kb]?=some (.row 1 false [.int .i64 (k:Int)])) (hi:i<l.length) (hv:Q[vid]?=some (.row 6 false [wA p (l[i],i)]))
  (hn:wk p l n k (l[i],i)=none) (v0 v6 v7 v8 v9 v10 v11 v12 v13:AV) :
  ∃ σ,run (dX GC jg h0) 300 [.code ki] [v0,.ptr wb 0 0,.ptr rb 0 0,.ptr kb 0 0,.ptr vid 0 0,sD p l n k l[i].f,v6,v7,v8,v9,v10,v11,v12,v13] Q=some (.normal σ Q):=by
 have m:=yD hr hk1 hk (a:=(l[i],i)) (show (l[i],i)∈num l from SL (gG l i hi)) (to:=l[i].f.toNat)
 unfold wk at hn
 rw [hn] at m
 have hH:∃T,sD p l n k l[i].f=.fs 1 T/\T=zE (lar p l) n l[i].f.toNat k:=⟨_,rfl,rfl⟩
 obtain ⟨T,hT,hT2⟩:=hH
 rw [<-hT2] at m
 rw [hT]
 obtain ⟨W1,O,hW⟩:∃W1 O,dk n p l=.fp [.int .i64 (n:Int),W1,O]:=⟨_,_,rfl⟩
 rw [hW] at hw m
 unfold wA at hv m
 simp only [zM] at m hv
 simp [ki,hw,hkp,hv,m]
theorem zx (h0:be) {Q:ac} {wb rb vid:Nat} {e2:AV} {l:List br} (hr:cM n l p) (hk1:1<=k) (hk:k<=32) (hw:Q[wb]?=some (.row 1 false [dk n p l])) (hkp:Q[kb]?=some (.row 1 false [.int .i64 (k:Int)])) (hrb:Q[rb]?=some (.row 1 false [e2])) (hi:i<l.length) (hv:Q[vid]?=some (.row 6 false [wA p (l[i],i)]))
  {res:List Int} (hn:wk p l n k (l[i],i)=some res) (v0 v6 v7 v8 v9 v10 v11 v12 v13:AV) :
  ∃ σ,run (dX GC jg h0) 300 [.code ki] [v0,.ptr wb 0 0,.ptr rb 0 0,.ptr kb 0 0,.ptr vid 0 0,sD p l n k l[i].f,v6,v7,v8,v9,v10,v11,v12,v13] Q=some (.ret σ (Q.set rb (.row 1 false [slA 1 (aj res)]))):=by
 have m:=yD hr hk1 hk (a:=(l[i],i)) (show (l[i],i)∈num l from SL (gG l i hi)) (to:=l[i].f.toNat)
 unfold wk at hn
 rw [hn] at m
 have hH:∃T,sD p l n k l[i].f=.fs 1 T/\T=zE (lar p l) n l[i].f.toNat k:=⟨_,rfl,rfl⟩
 obtain ⟨T,hT,hT2⟩:=hH
 rw [<-hT2] at m
 rw [hT]
 obtain ⟨W1,O,hW⟩:∃W1 O,dk n p l=.fp [.int .i64 (n:Int),W1,O]:=⟨_,_,rfl⟩
 rw [hW] at hw m
 unfold wA at hv m
 obtain ⟨R,hR⟩:∃R,R=slA 1 (aj res):=⟨_,rfl⟩
 have hR2:R=.nilS\/∃T,R=.fs 1 T:=by
  rw [hR]; cases aj res with
  | nil=>exact .inl rfl
  | cons x r=>exact .inr ⟨_,rfl⟩
 simp only [zM,<-hR] at m hv
 rw [<-hR]
 rcases hR2 with rfl | ⟨T2,rfl⟩
 ·simp [ki,hw,hkp,hv,hrb,m]
 ·simp [ki,hw,hkp,hv,hrb,m]
theorem IF (p:Int) (l:List br) (n k:Nat) (X:ac) (hi:i<l.length):P47 p l n k X i l[i]++[.row 6 false [wA p (l[i],i)]]=A47 p l n k X (i+1):=by
 unfold P47 A47
 rw [Ix p l i hi]
 simp
theorem qZ (p:Int) (l:List br) (n k:Nat) (i:Nat) (hj:j<X.length):(A47 p l n k X i)[j]?=X[j]?:=by
 unfold A47; rw [RC hj]
theorem qY (p:Int) (l:List br) (n k:Nat) (i:Nat) (hj:j<X.length) (e:Ent):(A47 p l n k X i).set j e=A47 p l n k (X.set j e) i:=by
 unfold A47; rw [Th _ _ hj]
theorem tt {e:Ent} (h:A[n]?=some e) (x:Ent):(A.set n x).set n e=A:=by
 rw [Ua]
 apply TO
 intro i
 by_cases hi:n=i
 ·subst hi; rw [RO (Rv.1 h).1,h]
 ·rw [RF hi]
section
variable {h0:be} {X:ac} {r:Loop} {L n k wb rb kb:Nat} {e2:AV} {p:Int} {l:List br}
theorem zJ (hr:cM n l p) (hk1:1<=k) (hk:k<=32) (hw:X[wb]?=some (.row 1 false [dk n p l])) (hkp:X[kb]?=some (.row 1 false [.int .i64 (k:Int)])) (hrb:X[rb]?=some (.row 1 false [e2])) (hi:i<l.length) (v0 v4 v5 v6 v7 v8 v9 v10 v11 v12 v13:AV) :
  fU X.length L r [v0,.ptr wb 0 0,.ptr rb 0 0,.ptr kb 0 0,v4,v5,v6,v7,v8,v9,v10,v11,v12,v13] [10,11] (evC (dX GC jg h0) 300 eY) (evC (dX GC jg h0) 300 ki) h0 (.func (.yield L) [] []) [wA p (l[i],i),sD p l n k l[i].f] (P47 p l n k (X++[Ent.loop r 0]) i l[i]) =
   match wk p l n k (l[i],i) with
   | none=>some (.bool true,A47 p l n k (X++[Ent.loop r 0]) (i+1))
   | some res=>some (.bool false,A47 p l n k ((X++[Ent.loop r 1]).set rb (.row 1 false [slA 1 (aj res)])) (i+1)):=by
 have hwl:=(Rv.1 hw).1
 have hkl:=(Rv.1 hkp).1
 have hrl:=(Rv.1 hrb).1
 obtain ⟨P,hP⟩:∃P,P=P47 p l n k (X++[Ent.loop r 0]) i l[i]:=⟨_,rfl⟩
 have hQ:=IF p l n k (X++[Ent.loop r 0]) hi
 rw [<-hP] at hQ ⊢
 have hPn:P[X.length]?=some (.loop r 0):=by rw [hP,P47,RC (by simp)]; simp
 obtain ⟨Q,hQ'⟩:∃Q,Q=P++[.row 6 false [wA p (l[i],i)]]:=⟨_,rfl⟩
 have hPl:X.length<P.length:=(Rv.1 hPn).1
 have hQn:Q[X.length]?=some (.loop r 0):=by rw [hQ',RC hPl]; exact hPn
 have hQo:∀j,j<X.length->(Q.set X.length .dead)[j]?=X[j]?:=fun j hj=>by
  rw [RF (by omega),hQ',hQ,qZ _ _ _ _ _ (by simp; omega),RC hj]
 have hQv:(Q.set X.length .dead)[P.length]?=some (.row 6 false [wA p (l[i],i)]):=by
  rw [RF (by omega),hQ']; simp
 have hasg:∀v0 v1 v2 v3 v4 v5 v6 v7 v8 v9 v12 v13,run (dX GC jg h0) 300 [.code eY] [v0,v1,v2,v3,v4,v5,v6,v7,v8,v9,wA p (l[i],i),sD p l n k l[i].f,v12,v13] P=some (.normal [v0,v1,v2,v3,.ptr P.length 0 0,sD p l n k l[i].f,v6,v7,v8,v9,wA p (l[i],i),sD p l n k l[i].f,v12,v13] Q):=by
  intros
  rw [hQ']
  obtain ⟨H,hH⟩:∃H,H=sD p l n k l[i].f:=⟨_,rfl⟩
  rw [<-hH]
  unfold wA
  simp [eY]
 cases hwk:wk p l n k (l[i],i) with
 | none=>
  obtain ⟨σ,hb⟩:=CC h0 (Q:=Q.set X.length .dead) hr hk1 hk ((hQo wb hwl).trans hw) ((hQo kb hkl).trans hkp) (rb:=rb) hi hQv hwk v0 v6 v7 v8 v9 (wA p (l[i],i)) (sD p l n k l[i].f) v12 v13
  unfold fU
  simp [hPn,iS,qF,hasg,hb,hQn,tt hQn]
  rw [hQ',hQ]
 | some res=>
  obtain ⟨σ,hb⟩:=zx h0 (Q:=Q.set X.length .dead) hr hk1 hk ((hQo wb hwl).trans hw) ((hQo kb hkl).trans hkp) ((hQo rb hrl).trans hrb) hi hQv hwk v0 v6 v7 v8 v9 (wA p (l[i],i)) (sD p l n k l[i].f) v12 v13
  unfold fU
  simp [hPn,iS,qF,hasg,hb,hQn]
  rw [hQ',hQ,qY _ _ _ _ _ (by simp),qY _ _ _ _ _ (by simp; omega),qY _ _ _ _ _ (by simp)]
  congr 1
  rw [TF _ _ (by omega)]
  congr 1
  simp
end
section
variable {X:ac} {n k wb rb kb wp kp:Nat} {e2:AV} {p:Int} {l:List br}
theorem HA (hr:cM n l p) (hk1:1<=k) (hk:k<=32) (hw:X[wb]?=some (.row 1 false [dk n p l])) (hkp:X[kb]?=some (.row 1 false [.int .i64 (k:Int)])) (hrb:X[rb]?=some (.row 1 false [e2])) (hw2:X[wp]?=some (.row 1 false [dk n p l])) (hk2:X[kp]?=some (.row 1 false [.int .i64 (k:Int)])) (m:Nat) (hm:m<=l.length)
  (hno:∀i (hi:i<l.length),i<m->wk p l n k (l[i],i)=none) (res:List Int) (hyes:∀hi:m<l.length,wk p l n k (l[m],m)=some res) (v0 v4 v5 v6 v7 v8 v10 v11 v12 v13:AV) (K:List KC) :
  run (aw GC jg) 300 (.code (.rangeFunc (.var 9) [10,11] eY ki) :: K) [v0,.ptr wb 0 0,.ptr rb 0 0,.ptr kb 0 0,v4,v5,v6,v7,v8,.func (.func 98) [] [.ptr wp 0 0,.ptr kp 0 0],v10,v11,v12,v13] X =
   after (aw GC jg) 300 K (if m<l.length then .ret [v0,.ptr wb 0 0,.ptr rb 0 0,.ptr kb 0 0,v4,v5,v6,v7,v8,.func (.func 98) [] [.ptr wp 0 0,.ptr kp 0 0],v10,v11,v12,v13] (A47 p l n k ((X++[Ent.dead]).set rb (.row 1 false [slA 1 (aj res)])) (m+1))
    else .normal [v0,.ptr wb 0 0,.ptr rb 0 0,.ptr kb 0 0,v4,v5,v6,v7,v8,.func (.func 98) [] [.ptr wp 0 0,.ptr kp 0 0],v10,v11,v12,v13] (A47 p l n k (X++[Ent.dead]) l.length)):=by
 refine lw _ _ _ _ _ fun L r=>?_
 have hrl:=(Rv.1 hrb).1
 have old:∀ {q:Nat} {e:Ent},X[q]?=some e->(X++[Ent.loop r 0])[q]?=some e:=fun {q} {e} h=>by rw [RC (Rv.1 h).1]; exact h
 have hc:=ev47 (fU X.length L r [v0,.ptr wb 0 0,.ptr rb 0 0,.ptr kb 0 0,v4,v5,v6,v7,v8,.func (.func 98) [] [.ptr wp 0 0,.ptr kp 0 0],v10,v11,v12,v13] [10,11] (evC (dX GC jg fun _ _ _=>none) 300 eY) (evC (dX GC jg fun _ _ _=>none) 300 ki) fun _ _ _=>none) L (X:=X++[Ent.loop r 0]) hr hk (old hw2) (old hk2) m hm
  (fun i hi him=>by rw [zJ hr hk1 hk hw hkp hrb hi,hno i hi him]) (A47 p l n k ((X++[Ent.loop r 1]).set rb (.row 1 false [slA 1 (aj res)])) (m+1)) (fun hi=>by rw [zJ hr hk1 hk hw hkp hrb hi,hyes hi])
 have hcall:kQ jg (fU X.length L r [v0,.ptr wb 0 0,.ptr rb 0 0,.ptr kb 0 0,v4,v5,v6,v7,v8,.func (.func 98) [] [.ptr wp 0 0,.ptr kp 0 0],v10,v11,v12,v13] [10,11] (evC (dX GC jg fun _ _ _=>none) 300 eY) (evC (dX GC jg fun _ _ _=>none) 300 ki) fun _ _ _=>none)
   (.func (.func 98) [] [.ptr wp 0 0,.ptr kp 0 0]) [.func (.yield L) [] []] (X++[Ent.loop r 0])=_:=hc
 show (match kQ jg _ (.func (.func 98) [] [.ptr wp 0 0,.ptr kp 0 0]) [.func (.yield L) [] []] (X++[Ent.loop r 0]) with
  | some (_,A')=>mQ X.length _ A'
  | none=>none)=_
 erw [hcall]
 by_cases hml:m<l.length
 ·simp only [RH hml]
  have e1:(A47 p l n k ((X++[Ent.loop r 1]).set rb (.row 1 false [slA 1 (aj res)])) (m+1))[X.length]?=some (.loop r 1):=by
   rw [qZ _ _ _ _ _ (by simp),RF (by omega)]; simp
  simp only [mQ,e1]
  rw [qY _ _ _ _ _ (by simp),TF _ _ (by omega)]
  have e2:(X++[Ent.loop r 1]).set X.length .dead=X++[Ent.dead]:=by simp
  rw [e2]; rfl
 ·simp only [RK hml]
  have e1:(A47 p l n k (X++[Ent.loop r 0]) l.length)[X.length]?=some (.loop r 0):=by
   rw [qZ _ _ _ _ _ (by simp)]; simp
  simp only [mQ,e1]
  rw [qY _ _ _ _ _ (by simp)]
  have e2:(X++[Ent.loop r 0]).set X.length .dead=X++[Ent.dead]:=by simp
  rw [e2]; rfl
end
theorem qt {α β:Type} (f:α->Option β) (xs:List α):(xs.findSome? f=none/\∀x∈xs,f x=none)\/∃(m:Nat) (hm:m<xs.length) (r:β),xs.findSome? f=some r/\f xs[m]=some r/\∀i (hi:i<m),f (xs[i]'(by omega))=none:=by
 induction xs with
 | nil=>exact .inl ⟨rfl,by simp⟩
 | cons x xs ih=>
  cases hx:f x with
  | some r=>
   exact .inr ⟨0,by simp,r,by simp [hx],hx,fun i hi=>by omega⟩
  | none=>
   rcases ih with ⟨h1,h2⟩ | ⟨m,hm,r,h1,h2,h3⟩
   ·refine .inl ⟨by simp [hx,h1],fun y hy=>?_⟩
    rcases Su.1 hy with rfl | hy
    ·exact hx
    ·exact h2 y hy
   ·refine .inr ⟨m+1,by simp; omega,r,by simp [hx,h1],by simpa using h2,fun i hi=>?_⟩
    cases i with
    | zero=>exact hx
    | succ i=>simpa using h3 i (by omega)
open Go
def M27:aU:=fun args=>evP (aw GC jg) 300 DR 5 args
theorem xz:ax Try.prog GC 76 M27:=ax.of_ev (E:=aw GC jg) (ay td) rfl Qa BW 5 fun _ _ h=>⟨300,h⟩
def M5 (n:Nat) (p:Int) (l:List br) (k kb:Nat) (A:ac):Prop:=A[0]?=some (.row 1 false [dk n p l])/\A[1]?=some (.row 1 false [.nilS])/\A[kb]?=some (.row 1 false [.int .i64 (k:Int)])/\2<=kb
theorem ww {l:List br} (hI:M5 n p l k kb A) (hk:n<k):run (aw GC jg) 300 [.code kh] (jW (.ptr 0 0 0) (.ptr 1 0 0) (.ptr kb 0 0)) A=some (.exit 0 ((jW (.ptr 0 0 0) (.ptr 1 0 0) (.ptr kb 0 0)).set 8 (.bool false)) A):=by
 obtain ⟨h0,h1,h2,h3⟩:=hI
 obtain ⟨W1,O,hW⟩:∃W1 O,dk n p l=.fp [.int .i64 (n:Int),W1,O]:=⟨_,_,rfl⟩
 rw [hW] at h0
 have b:ag .leq (.int .i64 (k:Int)) (.int .i64 (n:Int))=some (.bool false):=by simp [ag]; omega
 simp [kh,h0,h2,b,-ag]
theorem wx {l:List br} {kb:Nat} (hr:cM n l p) (hI:M5 n p l k kb A) (hk1:1<=k) (hk:k<=n) :
  (f7 p l n k=none/\∃A' kb' σ',run (aw GC jg) 300 [.code kh] (jW (.ptr 0 0 0) (.ptr 1 0 0) (.ptr kb 0 0)) A=some (.normal σ' A')/\clear jE σ'=jW (.ptr 0 0 0) (.ptr 1 0 0) (.ptr kb' 0 0)/\M5 n p l (k+1) kb' A') \/
  (∃res,f7 p l n k=some res/\∃A' v0 v3 v4 v5 v6 v7 v8 v9 v10 v11 v12 v13,run (aw GC jg) 300 [.code kh] (jW (.ptr 0 0 0) (.ptr 1 0 0) (.ptr kb 0 0)) A=some (.ret [v0,.ptr 0 0 0,.ptr 1 0 0,v3,v4,v5,v6,v7,v8,v9,v10,v11,v12,v13] A')/\A'[1]?=some (.row 1 false [slA 1 (aj res)])):=by
 obtain ⟨h0,h1,h2,h3⟩:=hI
 have hn32:=hr.1.1
 have h1l:=(Rv.1 h1).1
 have h2l:=(Rv.1 h2).1
 obtain ⟨X,hX⟩:∃X,X=A++[.row 1 false [dk n p l],.row 1 false [.int .i64 (k:Int)]]:=⟨_,rfl⟩
 have hXo:∀j,j<A.length->X[j]?=A[j]?:=fun j hj=>by rw [hX,RC hj]
 have x0:=(hXo 0 (by omega)).trans h0
 have x1:=(hXo 1 h1l).trans h1
 have x2:=(hXo kb h2l).trans h2
 have x3:X[A.length]?=some (.row 1 false [dk n p l]):=by rw [hX]; simp
 have x4:X[A.length+1]?=some (.row 1 false [.int .i64 (k:Int)]):=by rw [hX,RS (by omega)]; simp
 have hXl:X.length=A.length+2:=by rw [hX]; simp
 have b:ag .leq (.int .i64 (k:Int)) (.int .i64 (n:Int))=some (.bool true):=by simp [ag]; omega
 have c42:H42 (fun _ _ _=>none) [dk n p l,.int .i64 (k:Int)] A=some (.func (.func 98) [] [.ptr A.length 0 0,.ptr (A.length+1) 0 0],X):=by
  rw [hX]; exact ev42 _ _ _ _
 have rg:=fun m hm hno res hyes=>HA (X:=X) (wb:=0) (rb:=1) (kb:=kb) (wp:=A.length) (kp:=A.length+1) hr hk1 (by omega) x0 x2 x1 x3 x4 m hm hno res hyes .undef .undef .undef .undef .undef (.bool true) .undef .undef .undef .undef
 have b3:=aV k (by omega)
 obtain ⟨k1,hk1'⟩:∃k1:Nat,k1=k+1:=⟨_,rfl⟩
 rw [<-hk1'] at b3 ⊢
 obtain ⟨W1,O,hW⟩:∃W1 O,dk n p l=.fp [.int .i64 (n:Int),W1,O]:=⟨_,_,rfl⟩
 have hlk:aE jg 92=some H42:=rfl
 have hnl:=kA l
 rcases qt (wk p l n k) (num l) with ⟨q1,q2⟩ | ⟨m,hm,res,q1,q2,q3⟩
 ·left
  refine ⟨q1,?_⟩
  have rg1:=rg l.length (RR _) (fun i hi _=>q2 _ (SL (gG l i hi))) [] (fun h=>absurd h (Nat.lt_irrefl _))
  rw [RK (Nat.lt_irrefl _)] at rg1
  obtain ⟨D,hD⟩:∃D,D=A47 p l n k (X++[Ent.dead]) l.length:=⟨_,rfl⟩
  rw [<-hD] at rg1
  have hDo:∀j,j<X.length->D[j]?=X[j]?:=fun j hj=>by rw [hD,qZ _ _ _ _ _ (by simp; omega),RC hj]
  have hDl:X.length<=D.length:=by rw [hD]; simp [A47]
  have d2:=(hDo kb (by omega)).trans x2
  refine ⟨D++[.row 1 false [.int .i64 (k1:Int)]],D.length,[.undef,.ptr 0 0 0,.ptr 1 0 0,.ptr D.length 0 0,.undef,.undef,.undef,.undef,.undef,.undef,.undef,.undef,.undef,.int .i64 (k:Int)],?_,Ck,?_,?_,?_,by omega⟩
  ·rw [hW] at h0 c42
   obtain ⟨Z,hZ⟩:∃Z,Z=A.length+1:=⟨_,rfl⟩
   obtain ⟨Y,hY⟩:∃Y,Y=A.length:=⟨_,rfl⟩
   rw [<-hZ,<-hY] at c42 rg1
   simp [kh,h0,h2,b,c42,rg1,d2,b3,-ag]
  ·rw [RC (by omega),hDo 0 (by omega)]; exact x0
  ·rw [RC (by omega),hDo 1 (by omega)]; exact x1
  ·simp
 ·right
  refine ⟨res,q1,?_⟩
  rw [hnl] at hm
  have hnm:∀i (hi:i<l.length),(num l)[i]'(by omega)=(l[i],i):=fun i hi=>by
   have:=gG l i hi
   rw [Rx (by omega)] at this
   exact Td this
  have rg1:=rg m (by omega) (fun i hi him=>by rw [<-hnm i hi]; exact q3 i him) res (fun hi=>by rw [<-hnm m hi]; exact q2)
  rw [RH hm] at rg1
  obtain ⟨D,hD⟩:∃D,D=A47 p l n k ((X++[Ent.dead]).set 1 (.row 1 false [slA 1 (aj res)])) (m+1):=⟨_,rfl⟩
  rw [<-hD] at rg1
  refine ⟨D,.undef,.ptr kb 0 0,.undef,.undef,.undef,.undef,.bool true,.func (.func 98) [] [.ptr A.length 0 0,.ptr (A.length+1) 0 0],.undef,.undef,.undef,.undef,?_,?_⟩
  ·rw [hW] at h0 c42
   obtain ⟨Z,hZ⟩:∃Z,Z=A.length+1:=⟨_,rfl⟩
   obtain ⟨Y,hY⟩:∃Y,Y=A.length:=⟨_,rfl⟩
   rw [<-hZ,<-hY] at c42 rg1 ⊢
   simp [kh,h0,h2,b,c42,rg1,-ag]
  ·rw [hD,qZ _ _ _ _ _ (by simp; omega),RO (by simp; omega)]
theorem yH {l:List br} (hr:cM n l p):M27 [dk n p l]=some (slA 1 (aj ((tU p l n).getD []))):=by
 have hn32:=hr.1.1
 obtain ⟨o,h1,h2⟩:=iq (E:=aw GC jg) (fuel:=300) (a:=kh) (mask:=jE)
  (fun κ σ A=>∃k kb,k+κ=n+1/\1<=k/\clear jE σ=jW (.ptr 0 0 0) (.ptr 1 0 0) (.ptr kb 0 0)/\M5 n p l k kb A/\∀j,j+1<k->f7 p l n (j+1)=none)
  (fun o=>(∃k res A' v0 v3 v4 v5 v6 v7 v8 v9 v10 v11 v12 v13,k<n/\f7 p l n (k+1)=some res/\(∀j,j<k->f7 p l n (j+1)=none)/\o=.ret [v0,.ptr 0 0 0,.ptr 1 0 0,v3,v4,v5,v6,v7,v8,v9,v10,v11,v12,v13] A'/\A'[1]?=some (.row 1 false [slA 1 (aj res)])) \/
   ((∀j,j<n->f7 p l n (j+1)=none)/\∃kb A',o=.exit 0 ((jW (.ptr 0 0 0) (.ptr 1 0 0) (.ptr kb 0 0)).set 8 (.bool false)) A'/\A'[1]?=some (.row 1 false [.nilS])))
  (by
   rintro κ σ A ⟨k,kb,hk,hk1,hσ,hI,hno⟩
   rw [hσ]
   by_cases hkn:k<=n
   ·rcases wx hr hI hk1 hkn with ⟨q1,A',kb',σ',c1,c2,c3⟩ | ⟨res,q1,A',v0,v3,v4,v5,v6,v7,v8,v9,v10,v11,v12,v13,c1,c2⟩
    ·refine .inl ⟨σ',A',c1,κ-1,by omega,k+1,kb',by omega,by omega,c2,c3,fun j hj=>?_⟩
     by_cases hjk:j+1=k
     ·rw [hjk]; exact q1
     ·exact hno j (by omega)
    ·refine .inr ⟨_,c1,(fun _ _ h=>by cases h),.inl ⟨k-1,res,A',v0,v3,v4,v5,v6,v7,v8,v9,v10,v11,v12,v13,by omega,by rw [show k-1+1=k by omega]; exact q1,fun j hj=>hno j (by omega),rfl,c2⟩⟩
   ·refine .inr ⟨_,ww hI (by omega),(fun _ _ h=>by cases h),.inr ⟨fun j hj=>hno j (by omega),kb,A,rfl,hI.2.1⟩⟩)
  300 n (jW (.ptr 0 0 0) (.ptr 1 0 0) (.ptr 2 0 0)) [.row 1 false [dk n p l],.row 1 false [.nilS],.row 1 false [.int .i64 1]] (by omega) ⟨1,2,by omega,by omega,Ck,⟨rfl,rfl,rfl,by omega⟩,fun j hj=>by omega⟩
 have hc:∀k res,k<n->f7 p l n (k+1)=some res->(∀j,j<k->f7 p l n (j+1)=none)->tU p l n=some res:=fun k res hk h1 h2=>by
  unfold tU
  rcases qt (fun j=>f7 p l n (j+1)) (List.range n) with ⟨q1,q2⟩ | ⟨m,hm,r,q1,q2,q3⟩
  ·have:=q2 k (by simp; omega)
   rw [h1] at this; cases this
  ·simp only [T4] at q2 q3
   simp only [List.length_range] at hm
   rw [q1]
   rcases Nat.lt_trichotomy m k with h | h | h
   ·rw [h2 m h] at q2; cases q2
   ·rw [h] at q2; rw [h1] at q2; exact q2.symm
   ·rw [q3 k h] at h1; cases h1
 have hc2:(∀j,j<n->f7 p l n (j+1)=none)->tU p l n=none:=fun h=>by
  unfold tU
  rw [List.findSome?_eq_none_iff]
  intro j hj
  exact h j (by simpa using hj)
 obtain ⟨W1,O,hW⟩:∃W1 O,dk n p l=.fp [.int .i64 (n:Int),W1,O]:=⟨_,_,rfl⟩
 unfold M27
 rw [aN _ _ rfl]
 rw [hW] at h1 ⊢
 rcases h2 with ⟨k,res,A',v0,v3,v4,v5,v6,v7,v8,v9,v10,v11,v12,v13,hk,q1,q2,rfl,q3⟩ | ⟨q1,kb,A',rfl,q3⟩
 ·rw [hc k res hk q1 q2]
  simp only [Sq]
  have hfz:frz A' 5 (slA 1 (aj res))=slA 1 (aj res):=wV _ _ _ _
  have hR2:slA 1 (aj res)=.nilS\/∃T,slA 1 (aj res)=.fs 1 T:=by
   cases aj res with
   | nil=>exact .inl rfl
   | cons x r=>exact .inr ⟨_,rfl⟩
  rcases hR2 with e | ⟨T,e⟩
  ·rw [e] at q3 ⊢
   simp [DR,Bg h1,q3]
  ·rw [e] at q3 ⊢
   simp [DR,Bg h1,q3]
 ·rw [hc2 q1]
  have hset:(A'.set 1 (.row 1 false [.nilS]))[1]?=some (.row 1 false [.nilS]):=RO (Rv.1 q3).1
  simp [DR,Bg h1,q3,hset,slA,aj]
def x6:List (FuncId × aJ):=[(73,cJ 4 M25),(74,cJ 4 M26),(76,aG 4 M27)]
@[simp] theorem PA:aE x6 73=some (cJ 4 M25):=rfl
@[simp] theorem Pz:aE x6 74=some (cJ 4 M26):=rfl
@[simp] theorem Py:aE x6 76=some (aG 4 M27):=rfl
theorem pR:∀f M,aE x6 f=some M->au Try.prog GC f M:=ai (au.of_pureF ta 4) (ai (au.of_pureF Ae 4) (ai (au.of_pure xz 4) aB))
def H14:aJ:=fun _=>cc (aw GC x6) 0 mY
theorem nM:au Try.prog GC 46 H14:=(b7 (ay pR) rfl Er mK bG.nil).y
open Classical in
def lvM (n:Int) (l:List br) (p:Int):List Int × List Int × Bool:=
 if cM n l p then (if (cr (lar p l) n.toNat).2=true then ((cr (lar p l) n.toNat).1,[],true) else ([],(tU p l n.toNat).getD [],false)) else ([],[],false)
def lvT (r:List Int × List Int × Bool):AV:=.tup [slA 1 (aj r.1),slA 1 (aj r.2.1),.bool r.2.2]
theorem pS (xs:List Int):slA 1 (aj xs)=.nilS\/∃T,slA 1 (aj xs)=.fs 1 T:=by
 cases xs with
 | nil=>exact .inl rfl
 | cons x r=>exact .inr ⟨_,rfl⟩
open Classical in
theorem Gl (h:be) {a':AV} {l:List br} (ha:frz A 4 a=a') (hl:cR a'=some l) (n p:Int):H14 h [.int .i64 n,a,.int .i64 p] A=some (lvT (lvM n l p),A):=by
 have m1:M25 [.int .i64 n,a',.int .i64 p]=some (if cM n l p then .tup [dk n.toNat p l,.bool true] else .tup [.nilP,.bool false]):=by simp only [M25,hl,Ss]
 unfold H14
 rw [bh _ _ rfl]
 by_cases hr:cM n l p
 rotate_left
 ·rw [RK hr] at m1
  have e:lvM n l p=([],[],false):=RK hr
  rw [e]
  simp [mY,ha,m1,aM,dE,lvT,slA,aj,-frz]
 rw [RH hr] at m1
 obtain ⟨m,rfl⟩:∃m:Nat,n=(m:Int):=⟨n.toNat,by have:=hr.1.1; omega⟩
 rw [RW] at m1
 have m2:=sZ hr
 have m3:=yH hr
 obtain ⟨W1,O,hW⟩:∃W1 O,dk m p l=.fp [.int .i64 (m:Int),W1,O]:=⟨_,_,rfl⟩
 rw [hW] at m1 m2 m3
 have hfw:∀B,frz B 4 (.fp [.int .i64 (m:Int),W1,O])=.fp [.int .i64 (m:Int),W1,O]:=fun _=>rfl
 have hnr:bu 4 (.fp [.int .i64 (m:Int),W1,O])=true:=rfl
 by_cases hok:(cr (lar p l) m).2=true
 ·have e:lvM m l p=((cr (lar p l) m).1,[],true):=by
   unfold lvM; rw [RH hr,RW,RH hok]
  rw [e]
  rw [hok] at m2
  obtain ⟨xs,hxs⟩:∃xs,xs=(cr (lar p l) m).1:=⟨_,rfl⟩
  rw [<-hxs] at m2 ⊢
  obtain ⟨T,hT⟩:∃T,T=slA 1 (aj xs):=⟨_,rfl⟩
  rw [<-hT] at m2
  simp [mY,ha,m1,m2,aM,hfw,dE,lvT,<-hT,-frz]
  simp [slA,aj]
 ·have e:lvM m l p=([],(tU p l m).getD [],false):=by
   unfold lvM; rw [RH hr,RW,RK hok]
  rw [e]
  rw [Bool.not_eq_true] at hok
  rw [hok] at m2
  obtain ⟨S,hS⟩:∃S,S=slA 1 (aj (cr (lar p l) m).1):=⟨_,rfl⟩
  rw [<-hS] at m2
  obtain ⟨T,hT⟩:∃T,T=slA 1 (aj ((tU p l m).getD [])):=⟨_,rfl⟩
  rw [<-hT] at m3
  simp [mY,ha,m1,m2,m3,aM,hfw,dE,lvT,<-hT,-frz]
  simp [slA,aj]
open Go
theorem bc (A:ac) (n:Nat) (b:Bool):frz A n (.bool b)=.bool b:=by cases n <;> rfl
def nt (x:Int):Bool:=!decide (0<=x/\x<=1000000000)
def M35:aU:=fun args=>match args with
 | [.int .i64 x]=>some (.bool (nt x))
 | _=>none
theorem rX:ax Try.prog GC 94 M35:=by
 refine ax.of_ev (E:=aw GC fsW) (ay xB) rfl LA vq 1 ?_
 intro args r h
 unfold M35 at h
 split at h
 ·rename_i x
  injection h with h; subst h
  refine ⟨0,?_⟩
  have m:=mS x 0 1000000000
  unfold nt
  obtain ⟨d,hd⟩:∃d,d=decide (0<=x/\x<=1000000000):=⟨_,rfl⟩
  rw [<-hd] at m ⊢
  rw [aN _ _ rfl]
  simp [wF,m,-ag]
 ·cases h
def nv (n:Nat) (x:Int):Bool:=!decide (0<=x/\x<=(n:Int)-1)
def M46:aU:=fun args=>evP (aw GC fsW) 0 HM 1 args
theorem z9:ax Try.prog GC 91 M46:=ax.of_ev (E:=aw GC fsW) (ay xB) rfl PY BN 1 fun _ _ h=>⟨0,h⟩
theorem CZ {l:List br} (hl:l.length<=200) (x:Int):M46 [.int .i64 x,.fp [dk n p l]]=some (.bool (nv l.length x)):=by
 have m:=mS x 0 ((l.length:Int)-1)
 have hlen2:aq (slA 6 (wAs p (num l)))=some (.int .i64 (l.length:Int)):=by rw [tH,s8]
 have b0:ag .sub (.int .i64 (l.length:Int)) (.int .i64 1)=some (.int .i64 ((l.length:Int)-1)):=by
  simp only [ag]; rw [RH trivial,eV (by unfold inI; omega)]
 obtain ⟨W1,O,hW,hW1⟩:∃W1 O,dk n p l=.fp [.int .i64 (n:Int),W1,O]/\W1=slA 6 (wAs p (num l)):=⟨_,_,rfl,rfl⟩
 rw [<-hW1] at hlen2
 rw [hW]
 unfold nv
 obtain ⟨k,hk⟩:∃k,k=(l.length:Int)-1:=⟨_,rfl⟩
 rw [<-hk] at m b0 ⊢
 obtain ⟨d,hd⟩:∃d,d=decide (0<=x/\x<=k):=⟨_,rfl⟩
 rw [<-hd] at m ⊢
 unfold M46
 rw [aN _ _ rfl]
 simp [HM,hlen2,b0,m,-ag,-aq]
def Dh:List (FuncId × aJ):=[(94,aG 4 M35),(91,aG 4 M46)]
@[simp] theorem N0:aE Dh 94=some (aG 4 M35):=rfl
@[simp] theorem NZ:aE Dh 91=some (aG 4 M46):=rfl
theorem GV:∀f M,aE Dh f=some M->au Try.prog GC f M:=ai (au.of_pure rX 4) (ai (au.of_pure z9 4) aB)
def M45:aU:=fun args=>evP (aw GC Dh) 300 zB 1 args
theorem Aa:ax Try.prog GC 79 M45:=ax.of_ev (E:=aw GC Dh) (ay GV) rfl MZ ym 1 fun _ _ h=>⟨300,h⟩
theorem Ga {f:FuncId} {cap:List AV} {Mf:aU} (hlk:aE Dh f=some (aG 4 Mf)) {q:Int->Bool} (hm:∀x∈xs,∀A,Mf (.int .i64 x :: cap.map (frz A 4))=some (.bool (q x))) {b:AV} (hb:SlA 1 (aj xs) b) (hl:xs.length<=200) :
  M45 [b,.func (.func f) [] cap]=some (.int .i64 (dw q xs)):=by
 have hlen:=hb.len
 rw [aA] at hlen
 have round:∀(A:ac) (i:Nat) (hi:i<xs.length),run (aw GC Dh) 300 [.code eW] (gp b (.func (.func f) [] cap) (.int .i64 (xs.length:Int)) (.int .i64 (i:Int))) A =
   if q xs[i]=false then some (.normal (gp b (.func (.func f) [] cap) (.int .i64 (xs.length:Int)) (.int .i64 ((i+1:Nat):Int))) A) else some (.ret [b,.func (.func f) [] cap,.int .i64 (i:Int),.int .i64 (i:Int),.int .i64 (xs.length:Int),.int .i64 (i:Int),.bool true,.bool true] A):=fun A i hi=>by
  have x1:=hb.int (A:=A) _ _ (Rx hi) .i64
  have m:=hm _ (RM hi) A
  have b1:=a9 i xs.length .i64
  rw [RE hi] at b1
  have b3:=aV i (by omega)
  obtain ⟨i1,hi1⟩:∃i1:Nat,i1=i+1:=⟨_,rfl⟩
  rw [<-hi1] at b3 ⊢
  obtain ⟨d,hd⟩:∃d,d=q xs[i]:=⟨_,rfl⟩
  rw [<-hd] at m ⊢
  cases d with
  | false=>simp [eW,x1,hlk,m,b1,b3,-ag,-ae,-aq]
  | true=>simp [eW,x1,hlk,m,b1,-ag,-ae,-aq]
 unfold M45
 rw [aN _ _ rfl]
 rcases cY (E:=aw GC Dh) (fuel:=300) (a:=eW) (mask:=fN) (fun i=>gp b (.func (.func f) [] cap) (.int .i64 (xs.length:Int)) (.int .i64 (i:Int))) (fun _=>[]) xs.length (fun i=>¬ ∀hi:i<xs.length,q xs[i]=false)
  (oF:=fun i=>.ret [b,.func (.func f) [] cap,.int .i64 (i:Int),.int .i64 (i:Int),.int .i64 (xs.length:Int),.int .i64 (i:Int),.bool true,.bool true] []) (oE:=.exit 0 ((gp b (.func (.func f) [] cap) (.int .i64 (xs.length:Int)) (.int .i64 (xs.length:Int))).set 6 (.bool false)) [])
  (fun _=>Ca) (fun _ _ _ h=>by cases h) (fun _ _ h=>by cases h)
  (fun i hi hp=>by
   rw [round [] i hi]
   exact RH (R7.1 hp hi))
  (fun i hi hp=>by
   rw [round [] i hi]
   exact RK fun h=>hp fun _=>h)
  (by simp [eW]) (show xs.length<300 by omega) with ⟨i,hi,hp,hj,lp⟩ | ⟨hp,lp⟩
 ·have lp:bM (evC (aw GC Dh) 300 eW) fN 300 (gp b (.func (.func f) [] cap) (.int .i64 (xs.length:Int)) (.int .i64 0)) []=_:=lp
  have e:dw q xs=(i:Int):=bY hi (by
   cases h':q xs[i] with
   | true=>rfl
   | false=>exact absurd (fun _=>h') hp) (fun j hj'=>R7.1 (hj j hj') (by omega))
  rw [e]
  simp [zB,hlen,xY lp,-ag,-aq]
 ·have lp:bM (evC (aw GC Dh) 300 eW) fN 300 (gp b (.func (.func f) [] cap) (.int .i64 (xs.length:Int)) (.int .i64 0)) []=_:=lp
  have e:dw q xs = -1:=cd fun i hi=>R7.1 (hp i hi) hi
  rw [e]
  simp [zB,hlen,xY lp,-ag,-aq]
def MM:List (FuncId × aJ):=[(79,aG 4 M45)]
@[simp] theorem Oe:aE MM 79=some (aG 4 M45):=rfl
theorem G1:∀f M,aE MM f=some M->au Try.prog GC f M:=ai (au.of_pure Aa 4) aB
def M36:aU:=fun args=>evP (aw GC MM) 0 zC 1 args
theorem nK:ax Try.prog GC 51 M36:=ax.of_ev (E:=aw GC MM) (ay G1) rfl IX sO 1 fun _ _ h=>⟨0,h⟩
theorem Gb {F:AV} {q:Int->Bool} {b:AV} (hb:SlA 1 (aj xs) b) (hF:∀A,frz A 4 F=F) (h:M45 [b,F]=some (.int .i64 (dw q xs))):M36 [b,F]=some (.bool (xs.any q)):=by
 have b1:=iO (dw q xs)
 rw [cP] at b1
 have f1:∀A n,frz A n b=b:=fun A n=>hb.frz n
 obtain ⟨z,hz⟩:∃z,z=dw q xs:=⟨_,rfl⟩
 rw [<-hz] at h b1
 unfold M36
 rw [aN _ _ rfl]
 simp [zC,f1,hF,h,b1,bH,bc,-ag,-frz]
open Go
def gi (n:Int) (l:List br) (p:Int) (s:List Int):Prop:=cM n l p/\(s.length:Int)=n/\(∀x∈s,0<=x/\x<=1000000000)/\kT (lar p l) s
open Classical in
def M19:aU:=fun args=>match args with
 | [.int .i64 n,a,.int .i64 p,b]=>match cR a,n8 b with
  | some l,some s=>some (.bool (decide (gi n l p s)))
  | _,_=>none
 | _=>none
def oZ:List (FuncId × aJ):=[(73,cJ 4 M25),(51,aG 4 M36),(90,fun _=>cc (aw GC []) 300 vS),(40,fun _=>cc (aw GC []) 0 qb)]
@[simp] theorem Pf:aE oZ 73=some (cJ 4 M25):=rfl
@[simp] theorem Pe:aE oZ 51=some (aG 4 M36):=rfl
@[simp] theorem Pd:aE oZ 90=some (fun _=>cc (aw GC []) 300 vS):=rfl
@[simp] theorem Pc:aE oZ 40=some (fun _=>cc (aw GC []) 0 qb):=rfl
theorem wh:∀f M,aE oZ f=some M->au Try.prog GC f M:=ai (au.of_pureF ta 4) (ai (au.of_pure nK 4) (ai xy (ai iR aB)))
theorem Bp (A:ac):frz A 4 (.func (.func 94) [] [])=.func (.func 94) [] []:=rfl
theorem sU (s:List Int):s.any nt=false↔∀x∈s,0<=x/\x<=1000000000:=by
 rw [Tm]; unfold nt; simp
open Classical in
theorem ui:ax Try.prog GC 77 M19:=by
 refine ax.of_ev (E:=aw GC oZ) (ay wh) rfl LC vt 1 ?_
 intro args r h
 unfold M19 at h
 split at h
 rotate_left
 ·cases h
 rename_i n a p b
 split at h
 rotate_left
 ·cases h
 rename_i l s hl hs
 injection h with h; subst h
 refine ⟨0,?_⟩
 obtain ⟨hb,_,hsl⟩:=kH hs
 have f1:∀A n,frz A n a=a:=fun A n=>fR hl A n
 have f2:∀A n,frz A n b=b:=fun A n=>hb.frz n
 have f3:=gC hl
 have f4:=n7 hs
 have m1:M25 [.int .i64 n,a,.int .i64 p]=some (if cM n l p then .tup [dk n.toNat p l,.bool true] else .tup [.nilP,.bool false]):=by simp only [M25,hl,Ss]
 have hlen:=hb.len
 have hlen':(s.map (AV.int .i64)).length=s.length:=by simp
 rw [hlen'] at hlen
 rw [aN _ _ rfl]
 by_cases hr:cM n l p
 rotate_left
 ·rw [RK hr] at m1
  rw [RD (show ¬ gi n l p s from fun h=>hr h.1)]
  simp [vU,f1,m1,aM,bc,-frz,-aq]
 rw [RH hr] at m1
 have b1:ag .eql (.int .i64 (s.length:Int)) (.int .i64 n)=some (.bool (decide ((s.length:Int)=n))):=by simp [ag]
 obtain ⟨m,rfl⟩:∃m:Nat,n=(m:Int):=⟨n.toNat,by have:=hr.1.1; omega⟩
 rw [RW] at m1
 obtain ⟨W1,O,hW⟩:∃W1 O,dk m p l=.fp [.int .i64 (m:Int),W1,O]:=⟨_,_,rfl⟩
 by_cases h1:(s.length:Int)=(m:Int)
 rotate_left
 ·rw [RD h1] at b1
  rw [RD (show ¬ gi m l p s from fun h=>h1 h.2.1)]
  rw [hW] at m1
  simp [vU,f1,m1,hlen,b1,aM,bc,-frz,-aq,-ag]
 rw [RE h1] at b1
 have hm32:=hr.1.1
 have m45:=Ga (f:=94) (cap:=[]) (Mf:=M35) rfl (q:=nt) (xs:=s) (fun x _ A=>rfl) hb (by omega)
 have m36:=Gb (q:=nt) hb (fun A=>rfl) m45
 by_cases h2:∀x∈s,0<=x/\x<=1000000000
 rotate_left
 ·have h2':s.any nt=true:=by
   cases h:s.any nt with
   | true=>rfl
   | false=>exact absurd ((sU s).1 h) h2
  rw [h2'] at m36
  rw [RD (show ¬ gi m l p s from fun h=>h2 h.2.2.1)]
  rw [hW] at m1
  simp [vU,f1,f2,m1,hlen,b1,m36,aM,bc,bH,Bp,-frz,-aq,-ag]
 rw [(sU s).2 h2] at m36
 have hsm:s.length=m:=by omega
 have hne:s≠[]:=by
  intro h
  rw [h] at hsm
  simp at hsm; omega
 have c38:=MP (aw GC []) 0 (A:=[]) (a:=b) (xs:=s) (.inl hb) hne (by omega)
 obtain ⟨A',c37,_⟩:=CA (A:=[.dead,.row 1 false (aj s)]) (id:=1) hsm hr.2 hr.1.2.2 (by omega) hr.1.2.1 (hi:=1000000000) (fun v hv=>by
  have:s.getD v 0∈s:=by rw [Rw,Rx hv]; simp
  have:=h2 _ this
  omega) (by omega) rfl
 have e:decide (gi m l p s)=!upL (lar p l) s:=by
  cases hu:upL (lar p l) s with
  | true=>
   exact RD fun h=>by rw [pw h.2.2.2] at hu; cases hu
  | false=>
   exact RE ⟨hr,h1,h2,(gL hu).2⟩
 rw [e]
 rw [hsm] at c38
 rw [hW] at m1 c37
 simp at c38
 simp [vU,f1,f2,m1,hlen,b1,m36,c38,c37,aM,bc,bH,Bp,-frz,-aq,-ag]
open Go
def xa (l:List br) (i:Int):br:=l.getD i.toNat ⟨0,0,0,0⟩
def exL (p:Int) (l:List br):List Int->Int->Int->Int->Option (Int × Int)
 | [],_,s,t=>some (s,t)
 | i :: r,at_,s,t=>if (xa l i).f=at_ then exL p l r (xa l i).t (s+(xa l i).len p) (t+(xa l i).k) else none
def wO (l:List br) (xs:List Int):Prop:=∀x∈xs,0<=x/\x<=(l.length:Int)-1
instance (l:List br) (xs:List Int):Decidable (wO l xs):=inferInstanceAs (Decidable (∀x∈xs,_))
def exM (p:Int) (l:List br) (xs:List Int):Option (Int × Int):=if (1<=xs.length/\xs.length<=200)/\wO l xs then exL p l xs (xa l (xs.getLastD 0)).t 0 0 else none
theorem sW (l:List br) (s:List Int):s.any (nv l.length)=false↔wO l s:=by
 rw [Tm]; unfold nv wO; simp
theorem tY {l:List br} {x:Int} (h:0<=x/\x<=(l.length:Int)-1):∃(j:Nat) (hj:j<l.length),x=(j:Int)/\xa l x=l[j]:=by
 refine ⟨x.toNat,by omega,by omega,?_⟩
 unfold xa
 rw [Rw,Rx (by omega)]; rfl
def Qv:MC:=.region [.M 1 12 14,.b 1 0,.c 8 1]
def Qu:MC:=.region [.t 1 2,.R 0,.m 1 1,.b 1 2,.a 8,.e 6 3 4,.K 6 5,.z 9 6,.r 6 9 6]
def Qt:MC:=.region [.d 0 9,.m 0 0,.b 1 1,.a 7,.bz 16 2 3]
def Qs:MC:=.region [.f 3 0,.f 4 0,.g 5]
def Qr:MC:=.region [.a 3,.d 5 9,.b 1 1,.o 0 2,.a 4,.d 0 9,.m 3 5,.b 1 6,.o 4 7,.d 0 9,.m 1 9,.b 1 10,.c 3 3,.c 4 8,.c 7 11]
theorem F6:qf=.seq (.region [.B 15 14 13]) (.seq (.cond (.var 15) .skip (.exit 0)) (.seq (.seq (.block 1 (.seq Qv (.seq Qu (.seq (.seq Qt (.cond (.var 16) (.seq Qs .ret) .skip)) Qr)))) (.kill [0,1,5,6,8,9,10,11,15,16])) (.region [.u 14 1,.c 14 0]))):=rfl
theorem Ng (E:Env) (fuel:Nat) (K:List KC) (X:MC) {A:ac} {l:List br} (hc:SlA 1 (aj xs) c) (hi:i<xs.length) (hx:xs[i]=(j:Int)) (hj:j<l.length) (hA:A[0]?=some (.row 1 false [dk n p l])) (v3 v4 v7 v13 v15 v16:AV) :
  run E fuel (.code (.seq Qv (.seq Qu X)) :: K) [.undef,.undef,.ptr 0 0 0,v3,v4,.undef,.undef,v7,.undef,.undef,.undef,.undef,c,v13,.int .i64 (i:Int),v15,v16] A =
   run E fuel (.code X :: K) [.undef,.undef,.ptr 0 0 0,v3,v4,.undef,.undef,v7,.int .i64 (j:Int),.ptr A.length 0 0,.undef,.undef,c,v13,.int .i64 (i:Int),v15,v16] (A++[.row 6 false [wA p (l[j],j)]]):=by
 have x1:=hc.int (A:=A) _ _ (Rx hi) .i64
 rw [hx] at x1
 have x2:=ub p hj A .i64
 obtain ⟨W1,O,hW,hW1⟩:∃W1 O,dk n p l=.fp [.int .i64 (n:Int),W1,O]/\W1=slA 6 (wAs p (num l)):=⟨_,_,rfl,rfl⟩
 rw [<-hW1] at x2
 rw [hW] at hA
 simp [Qv,Qu,x1,x2,hA,wA,-ae]
theorem Ho (E:Env) (fuel:Nat) {n:Nat} {l:List br} (hr:cM n l p) (hc:SlA 1 (aj xs) c) (hl:xs.length<=200) (hin:wO l xs) (hi:i<xs.length) (hA:A[0]?=some (.row 1 false [dk n p l])) {s t at_:Int} (hs : -(3000000*(i:Int))<=s/\s<=3000000*i) (ht : -(2*(i:Int))<=t/\t<=2*i) :
  ∃A',A'[0]?=some (.row 1 false [dk n p l])/\∃v8 v9 v15 v16,run E fuel [.code qf] (pF (.ptr 0 0 0) (.int .i64 s) (.int .i64 t) (.int .i64 at_) c (.int .i64 (xs.length:Int)) (.int .i64 (i:Int))) A =
   if (xa l xs[i]).f=at_ then some (.normal (pF (.ptr 0 0 0) (.int .i64 (s+(xa l xs[i]).len p)) (.int .i64 (t+(xa l xs[i]).k)) (.int .i64 (xa l xs[i]).t) c (.int .i64 (xs.length:Int)) (.int .i64 ((i+1:Nat):Int))) A')
   else some (.ret [.undef,.undef,.ptr 0 0 0,.int .i64 0,.int .i64 0,.bool false,.undef,.int .i64 at_,v8,v9,.undef,.undef,c,.int .i64 (xs.length:Int),.int .i64 (i:Int),v15,v16] A'):=by
 obtain ⟨j,hj,hx,he⟩:=tY (hin _ (RM hi))
 rw [he]
 have hmem:=hr.1.2.2 _ (RM hj)
 have hn32:=hr.1.1
 have hlen:=jf (n:=32) (a:=l[j]) ⟨⟨by have:=hmem.1; omega,by have:=hmem.1; omega⟩,⟨by have:=hmem.2.1; omega,by have:=hmem.2.1; omega⟩,hmem.2.2.1,hmem.2.2.2⟩ hr.2
 have htok:=hmem.2.2.2
 have r1:=fun K X=>Ng E fuel K X hc hi hx hj hA (.int .i64 s) (.int .i64 t) (.int .i64 at_) (.int .i64 (xs.length:Int)) (.bool true) .undef
 obtain ⟨B,hB⟩:∃B,B=A++[.row 6 false [wA p (l[j],j)]]:=⟨_,rfl⟩
 have hBv:B[A.length]?=some (.row 6 false [wA p (l[j],j)]):=by rw [hB]; simp
 have hB0:B[0]?=some (.row 1 false [dk n p l]):=by rw [hB,RC (Rv.1 hA).1]; exact hA
 rw [<-hB] at r1
 unfold wA at hBv
 simp only at hBv
 have b1:=a9 i xs.length .i64
 rw [RE hi] at b1
 have b3:=aV i (by omega)
 obtain ⟨i1,hi1⟩:∃i1:Nat,i1=i+1:=⟨_,rfl⟩
 rw [<-hi1] at b3 ⊢
 have b2:ag .neq (.int .i64 l[j].f) (.int .i64 at_)=some (.bool (decide (l[j].f≠at_))):=by simp [ag]
 obtain ⟨w,hw⟩:∃w,w=l[j].len p:=⟨_,rfl⟩
 rw [<-hw] at hlen hBv ⊢
 have b4:ag .add (.int .i64 s) (.int .i64 w)=some (.int .i64 (s+w)):=by
  simp only [ag]; rw [RH trivial,eV (by unfold inI; omega)]
 have b5:ag .add (.int .i64 t) (.int .i64 l[j].k)=some (.int .i64 (t+l[j].k)):=by
  simp only [ag]; rw [RH trivial,eV (by unfold inI; omega)]
 obtain ⟨vid,hvid⟩:∃vid,vid=A.length:=⟨_,rfl⟩
 rw [<-hvid] at r1 hBv
 refine ⟨B,hB0,.int .i64 (j:Int),.ptr vid 0 0,.bool true,.bool true,?_⟩
 by_cases h:l[j].f=at_
 ·rw [RH h]
  rw [RD (not_not_intro h)] at b2
  rw [F6]
  simp [b1,b3,r1,Qt,Qs,Qr,hBv,b2,b4,b5,-ag]
 ·rw [RK h]
  rw [RE h] at b2
  rw [F6]
  simp [b1,r1,Qt,Qs,Qr,hBv,b2,-ag]
def zG:List (FuncId × aJ):=[(88,aG 4 M32),(51,aG 4 M36)]
@[simp] theorem N9:aE zG 88=some (aG 4 M32):=rfl
@[simp] theorem N8:aE zG 51=some (aG 4 M36):=rfl
theorem wd:∀f M,aE zG f=some M->au Try.prog GC f M:=ai (au.of_pure ug 4) (ai (au.of_pure nK 4) aB)
def M40:aU:=fun args=>evP (aw GC zG) 300 Dd 5 args
theorem pP:ax Try.prog GC 75 M40:=ax.of_ev (E:=aw GC zG) (ay wd) rfl P5 BQ 5 fun _ _ h=>⟨300,h⟩
def exT (r:Option (Int × Int)):AV:=.tup [.int .i64 (r.getD (0,0)).1,.int .i64 (r.getD (0,0)).2,.bool r.isSome]
theorem yG {n:Nat} {l:List br} (hr:cM n l p) {xs:List Int} (hc:SlA 1 (aj xs) c) (hmx:xs.length<=9223372036854775807):M40 [dk n p l,c]=some (exT (exM p l xs)):=by
 have hlen:=hc.len
 rw [aA] at hlen
 have m32:=mS (xs.length:Int) 1 200
 have f1:∀A n,frz A n c=c:=fun A n=>hc.frz n
 unfold M40
 rw [aN _ _ rfl]
 obtain ⟨W1,O,hW,hW1⟩:∃W1 O,dk n p l=.fp [.int .i64 (n:Int),W1,O]/\W1=slA 6 (wAs p (num l)):=⟨_,_,rfl,rfl⟩
 by_cases h1:1<=xs.length/\xs.length<=200
 rotate_left
 ·rw [RD (by omega)] at m32
  have e:exM p l xs=none:=RK fun h=>h1 h.1
  rw [e,hW]
  simp [Dd,hlen,m32,exT,-aq]
 rw [RE (by omega)] at m32
 have m45:=Ga (f:=91) (cap:=[.fp [dk n p l]]) (Mf:=M46) rfl (q:=nv l.length) (xs:=xs) (fun x _ A=>CZ hr.1.2.1 x) hc h1.2
 have m36:=Gb (q:=nv l.length) hc (fun A=>rfl) m45
 have hfz:frz [.row 1 false [dk n p l]] 4 (.func (.func 91) [] [.ptr 0 0 0])=.func (.func 91) [] [.fp [dk n p l]]:=rfl
 by_cases h2:wO l xs
 rotate_left
 ·have h2':xs.any (nv l.length)=true:=by
   cases h:xs.any (nv l.length) with
   | true=>rfl
   | false=>exact absurd ((sW l xs).1 h) h2
  rw [h2'] at m36
  have e:exM p l xs=none:=RK fun h=>h2 h.2
  rw [e]
  rw [hW] at m36 hfz ⊢
  simp [Dd,hlen,m32,f1,hfz,m36,exT,bH,aM,-aq,-frz]
  simp [frz]
 rw [(sW l xs).2 h2] at m36
 have hex:exM p l xs=exL p l xs (xa l (xs.getLastD 0)).t 0 0:=RH ⟨h1,h2⟩
 have hlast:xs.length-1<xs.length:=by omega
 obtain ⟨j,hj,hx,he⟩:=tY (h2 _ (RM hlast))
 have hgl:xs.getLastD 0=xs[xs.length-1]:=by
  rw [List.getLastD_eq_getLast?,List.getLast?_eq_getElem?,Rx hlast]; rfl
 rw [hgl,he] at hex
 have x1:∀A,ae 1 A c (.int .i64 ((xs.length-1:Nat):Int))=some (.fp [.int .i64 (j:Int)]):=fun A=>by
  have:=hc.int (A:=A) _ _ (Rx hlast) .i64
  rwa [hx] at this
 have x2:=fun A=>ub p hj A .i64
 have b0:ag .sub (.int .i64 (xs.length:Int)) (.int .i64 1)=some (.int .i64 ((xs.length-1:Nat):Int)):=by
  simp only [ag]; rw [RH trivial,eV (by unfold inI; omega)]; congr 2; omega
 obtain ⟨o,lp,ho⟩:=iq (E:=aw GC zG) (fuel:=300) (a:=qf) (mask:=oP)
  (fun κ σ A=>∃(i:Nat) (s t at_:Int),i+κ=xs.length/\σ=pF (.ptr 0 0 0) (.int .i64 s) (.int .i64 t) (.int .i64 at_) c (.int .i64 (xs.length:Int)) (.int .i64 (i:Int))/\A[0]?=some (.row 1 false [dk n p l])/\exL p l xs l[j].t 0 0=exL p l (xs.drop i) at_ s t/\(-(3000000*(i:Int))<=s/\s<=3000000*i)/\(-(2*(i:Int))<=t/\t<=2*i))
  (fun o=>(∃s t at_ A',exL p l xs l[j].t 0 0=some (s,t)/\o=.exit 0 ((pF (.ptr 0 0 0) (.int .i64 s) (.int .i64 t) (.int .i64 at_) c (.int .i64 (xs.length:Int)) (.int .i64 (xs.length:Int))).set 15 (.bool false)) A') \/
   (exL p l xs l[j].t 0 0=none/\∃v7 v8 v9 v14 v15 v16 A',o=.ret [.undef,.undef,.ptr 0 0 0,.int .i64 0,.int .i64 0,.bool false,.undef,v7,v8,v9,.undef,.undef,c,.int .i64 (xs.length:Int),v14,v15,v16] A'))
  (by
   rintro κ σ A ⟨i,s,t,at_,hik,rfl,hA,hexi,hs,ht⟩
   rw [FY]
   by_cases hi:i<xs.length
   ·obtain ⟨A',hA',v8,v9,v15,v16,hrun⟩:=Ho (aw GC zG) 300 hr hc h1.2 h2 hi hA (at_:=at_) hs ht
    have hd:xs.drop i=xs[i] :: xs.drop (i+1):=Sw hi
    by_cases hf:(xa l xs[i]).f=at_
    ·rw [RH hf] at hrun
     rw [hd,exL,RH hf] at hexi
     obtain ⟨j2,hj2,hx2,he2⟩:=tY (h2 _ (RM hi))
     have hmem:=hr.1.2.2 _ (RM hj2)
     have hn32:=hr.1.1
     have hlen2:=jf (n:=32) (a:=l[j2]) ⟨⟨by have:=hmem.1; omega,by have:=hmem.1; omega⟩,⟨by have:=hmem.2.1; omega,by have:=hmem.2.1; omega⟩,hmem.2.2.1,hmem.2.2.2⟩ hr.2
     have htok:=hmem.2.2.2
     rw [he2] at hrun hexi
     exact .inl ⟨_,_,hrun,κ-1,by omega,i+1,_,_,_,by omega,rfl,hA',hexi,by omega,by omega⟩
    ·rw [RK hf] at hrun
     rw [hd,exL,RK hf] at hexi
     exact .inr ⟨_,hrun,(fun _ _ h=>by cases h),.inr ⟨hexi,_,_,_,_,_,_,_,rfl⟩⟩
   ·obtain rfl:i=xs.length:=by omega
    rw [SP,exL] at hexi
    refine .inr ⟨_,?_,?_,.inl ⟨s,t,at_,A,hexi,rfl⟩⟩
    ·simp [qf]
    ·intro _ _ h; cases h)
  300 xs.length (pF (.ptr 0 0 0) (.int .i64 0) (.int .i64 0) (.int .i64 l[j].t) c (.int .i64 (xs.length:Int)) (.int .i64 0)) [.row 1 false [dk n p l]] (by omega) ⟨0,0,0,_,by omega,rfl,rfl,rfl,by omega,by omega⟩
 rw [hex]
 rw [<-hW1] at x2
 rw [hW] at m36 hfz lp ⊢
 obtain ⟨q,hq⟩:∃q,q=xs.length-1:=⟨_,rfl⟩
 rw [<-hq] at x1 b0
 rcases ho with ⟨s,t,at_,A',he1,rfl⟩ | ⟨he1,v7,v8,v9,v14,v15,v16,A',rfl⟩
 ·rw [he1]
  simp [Dd,hlen,m32,f1,hfz,m36,b0,x1,x2,Fk lp,exT,bH,aM,-aq,-frz,-ag,-ae]
  simp [frz]
 ·rw [he1]
  simp [Dd,hlen,m32,f1,hfz,m36,b0,x1,x2,Fk lp,exT,bH,aM,-aq,-frz,-ag,-ae]
  simp [frz]
open Go
def WL (L:List dD) (u v j:Nat) (z:Int):Prop:=∃r,isW L u r v/\r.length=j/\kD r=z
def gX (P:Int->Prop) (y:LP):Prop:=(y=noL/\∀z,¬ P z)\/(y.2=true/\P y.1/\∀z,P z->z<=y.1)
theorem gX.congr {Q:Int->Prop} {y:LP} (h:gX P y) (hpq:∀z,P z↔Q z):gX Q y:=by
 rcases h with ⟨h1,h2⟩ | ⟨h1,h2,h3⟩
 ·exact .inl ⟨h1,fun z hz=>h2 z ((hpq z).2 hz)⟩
 ·exact .inr ⟨h1,(hpq _).1 h2,fun z hz=>h3 z ((hpq z).2 hz)⟩
theorem CJ {Q:Int->Prop} {x y:LP} (h1:gX P x) (h2:gX Q y):gX (fun z=>P z\/Q z) (lG x y):=by
 obtain ⟨x1,x2⟩:=x
 obtain ⟨y1,y2⟩:=y
 rcases h1 with ⟨e1,a1⟩ | ⟨e1,a1,b1⟩
 ·have:lG (x1,x2) (y1,y2)=(y1,y2):=RH (.inl (by rw [e1]; rfl))
  rw [this]
  exact h2.congr fun z=>⟨.inr,fun h=>h.elim (fun h=>absurd h (a1 z)) id⟩
 ·simp only at e1 a1 b1
  rcases h2 with ⟨e2,a2⟩ | ⟨e2,a2,b2⟩
  ·have:lG (x1,x2) (y1,y2)=(x1,x2):=RK (by
    rw [e2,e1]
    rintro (h | ⟨h,_⟩) <;> cases h)
   rw [this]
   exact .inr ⟨e1,.inl a1,fun z h=>h.elim (b1 z) fun h=>absurd h (a2 z)⟩
  ·simp only at e2 a2 b2
   by_cases h:y1 > x1
   ·have:lG (x1,x2) (y1,y2)=(y1,y2):=RH (.inr ⟨e2,h⟩)
    rw [this]
    exact .inr ⟨e2,.inr a2,fun z hz=>hz.elim (fun hz=>by have:=b1 z hz; simp only; omega) (b2 z)⟩
   ·have:lG (x1,x2) (y1,y2)=(x1,x2):=RK (by
     rw [e1]
     rintro (h' | ⟨_,h'⟩)
     ·cases h'
     ·exact h h')
    rw [this]
    exact .inr ⟨e1,.inl a1,fun z hz=>hz.elim (b1 z) fun hz=>by have:=b2 z hz; simp only; omega⟩
theorem CG {x:LP} (h:gX P x) (w:Int):gX (fun z=>∃z',P z'/\z=w+z') (gf x w):=by
 rcases h with ⟨e,a⟩ | ⟨e,a,b⟩
 ·rw [e]
  exact .inl ⟨rfl,fun z ⟨z',h,_⟩=>a z' h⟩
 ·have:gf x w=(x.1+w,x.2):=RK (by rw [e]; rintro ⟨h,_⟩; cases h)
  rw [this]
  refine .inr ⟨e,⟨_,a,by simp only; omega⟩,?_⟩
  rintro z ⟨z',h,rfl⟩
  have:=b z' h
  simp only; omega
theorem CI:gX (fun _=>False) noL:=.inl ⟨rfl,fun _ h=>h⟩
theorem tZ {L:List dD}:WL L u v 0 z↔u=v/\z=0:=by
 constructor
 ·rintro ⟨r,h1,h2,h3⟩
  have:r=[]:=Si.1 h2
  subst this
  exact ⟨h1,h3.symm⟩
 ·rintro ⟨rfl,rfl⟩
  exact ⟨[],rfl,rfl,rfl⟩
theorem CS {L:List dD}:WL L u v (j+1) z↔∃a∈L,a.1=u/\∃z',WL L a.2.1 v j z'/\z=a.2.2+z':=by
 constructor
 ·rintro ⟨r,h1,h2,h3⟩
  cases r with
  | nil=>simp at h2
  | cons a r=>
   obtain ⟨k1,k2,k3⟩:=h1
   exact ⟨a,k1,k2,kD r,⟨r,k3,by simpa using h2,rfl⟩,h3.symm⟩
 ·rintro ⟨a,h1,h2,z',⟨r,k1,k2,rfl⟩,rfl⟩
  exact ⟨a :: r,⟨h1,h2,k1⟩,by simp [k2],rfl⟩
theorem An (n v:Nat):(List.replicate n noL).getD v noL=noL:=by
 rw [Rw]
 by_cases h:v<n <;> simp [h]
theorem xW {L0:List dD} (hok:vP n L0) {h:List LP} (hh:∀u,u<n->gX (WL L0 u to j) (h.getD u noL)):∀(L:List dD),(∀a∈L,a∈L0)->∀(next:List LP) (D:Nat->Int->Prop),next.length=n->(∀u,u<n->gX (D u) (next.getD u noL)) ->
  ∀u,u<n->gX (fun z=>D u z\/∃a∈L,a.1=u/\∃z',WL L0 a.2.1 to j z'/\z=a.2.2+z') ((L.foldl (hst h) next).getD u noL)
 | [],_,next,D,hn,hD,u,hu=>(hD u hu).congr fun z=>⟨.inl,fun h=>h.elim id fun ⟨a,h,_⟩=>by cases h⟩
 | a :: L,hL,next,D,hn,hD,u,hu=>by
  obtain ⟨o1,o2,_⟩:=hok a (hL a (by simp))
  have:=xW hok hh L (fun b hb=>hL b (by simp [hb])) (hst h next a) (fun u z=>D u z\/(a.1=u/\∃z',WL L0 a.2.1 to j z'/\z=a.2.2+z')) (by rw [wR,hn]) (fun v hv=>by
   unfold hst
   rw [mq _ _ _ _ _ (by omega)]
   by_cases hav:a.1=v
   ·rw [RH hav]
    subst hav
    exact (CJ (hD _ o1) (CG (hh _ o2) a.2.2)).congr fun z=>by simp
   ·rw [RK hav]
    exact (hD v hv).congr fun z=>⟨.inl,fun h=>h.elim id fun h=>absurd h.1 hav⟩) u hu
  rw [Sj]
  refine this.congr fun z=>?_
  constructor
  ·rintro ((h | ⟨h1,h2⟩) | ⟨b,h1,h2⟩)
   ·exact .inl h
   ·exact .inr ⟨a,by simp,h1,h2⟩
   ·exact .inr ⟨b,by simp [h1],h2⟩
  ·rintro (h | ⟨b,h1,h2⟩)
   ·exact .inl (.inl h)
   ·rcases Su.1 h1 with rfl | h1
    ·exact .inl (.inr h2)
    ·exact .inr ⟨b,h1,h2⟩
theorem A4 {L:List dD} (hok:vP n L) (hto:to<n):∀(j u:Nat),u<n->gX (WL L u to j) ((hm L n to j).getD u noL)
 | 0,u,hu=>by
  unfold hm
  rw [mq _ _ _ _ _ (by simpa using hto)]
  by_cases h:to=u
  ·rw [RH h]
   exact .inr ⟨rfl,tZ.2 ⟨h.symm,rfl⟩,fun z hz=>by have:=(tZ.1 hz).2; simp only; omega⟩
  ·rw [RK h,An]
   exact .inl ⟨rfl,fun z hz=>h (tZ.1 hz).1.symm⟩
 | j+1,u,hu=>by
  have:=xW hok (A4 hok hto j) L (fun _ h=>h) (List.replicate n noL) (fun _ _=>False) (by simp) (fun u _=>by rw [An]; exact CI) u hu
  refine this.congr fun z=>?_
  rw [CS]
  exact ⟨fun h=>h.elim False.elim id,.inr⟩
def uI (l:List br):Int->List ge->Int->Prop
 | u,[],v=>u=v
 | u,x :: r,v=>x∈num l/\x.1.f=u/\uI l x.1.t r v
def jQ (p:Int) (xs:List ge):Int:=(xs.map fun x=>x.1.len p).sum
def mT (xs:List ge):Int:=(xs.map fun x=>x.1.k).sum
def M7 (xs:List ge):Int:=(xs.map fun x=>x.1.w).sum
theorem AN (p:Int):∀xs:List ge,jQ p xs=M7 xs-p*mT xs
 | []=>by simp [jQ,M7,mT]
 | x :: r=>by
  have:=AN p r
  simp only [jQ,M7,mT,SG,Ud,br.len] at this ⊢
  rw [this,Int.mul_add]; omega
def E9 (p:Int) (x:ge):dD:=(x.1.f.toNat,x.1.t.toNat,x.1.len p)
theorem HF {l:List br} {x:ge} (h:x∈num l):E9 p x∈lar p l:=by
 obtain ⟨hi,he⟩:=mX h
 exact Sa.2 ⟨x.1,by rw [<-he]; exact RM hi,rfl⟩
theorem AQ {l:List br} {a:dD} (h:a∈lar p l):∃x∈num l,E9 p x=a:=by
 obtain ⟨c,hc,rfl⟩:=Sa.1 h
 obtain ⟨i,hi,rfl⟩:=SD.1 hc
 exact ⟨(l[i],i),SL (gG l i hi),rfl⟩
theorem uv {n:Int} {l:List br} (hv:∀x∈l,okA n x) {x:ge} (h:x∈num l):okA n x.1:=by
 obtain ⟨hi,he⟩:=mX h
 rw [<-he]; exact hv _ (RM hi)
theorem QE {n:Int} {l:List br} (hv:∀x∈l,okA n x):∀ {xs:List ge} {u v:Int},uI l u xs v->isW (lar p l) u.toNat (xs.map (E9 p)) v.toNat/\kD (xs.map (E9 p))=jQ p xs
 | [],u,v,h=>⟨by rw [show u=v from h]; rfl,rfl⟩
 | x :: r,u,v,⟨h1,h2,h3⟩=>by
  obtain ⟨k1,k2⟩:=QE hv h3
  refine ⟨⟨HF h1,by rw [<-h2]; rfl,k1⟩,?_⟩
  simp only [SG,kD,k2,jQ,Ud]
  rfl
section
variable {n to:Nat} {p:Int} {l:List br} (hv:∀x∈l,okA n x) (hn32:n<=32) (hp:cT p) (hto:to<n)
include hv hn32 hp hto
theorem oY {x:ge} (hx:x∈num l):kX (hm (lar p l) n to j) p sum x=true↔∃z,WL (lar p l) x.1.t.toNat to j z/\sum+x.1.len p+z > 0:=by
 have hok:=uv hv hx
 have ht:=hok.2.1
 have hb:=A4 (xS hn32 hp hv) hto j x.1.t.toNat (by omega)
 unfold kX
 obtain ⟨y,hy⟩:∃y,y=(hm (lar p l) n to j).getD x.1.t.toNat noL:=⟨_,rfl⟩
 rw [<-hy] at hb ⊢
 rcases hb with ⟨e,a⟩ | ⟨e,a,b⟩
 ·rw [e]
  constructor
  ·intro h
   have:gf noL (sum+x.1.len p)=noL:=rfl
   rw [this] at h
   simp [noL] at h
  ·rintro ⟨z,hz,_⟩
   exact absurd hz (a z)
 ·have:gf y (sum+x.1.len p)=(y.1+(sum+x.1.len p),y.2):=RK (by rw [e]; rintro ⟨h,_⟩; cases h)
  rw [this,e]
  simp only [Bool.true_and,Sr]
  constructor
  ·intro h
   exact ⟨y.1,a,by omega⟩
  ·rintro ⟨z,hz,h⟩
   have:=b z hz
   omega
theorem zL:∀(r:Nat) (v sum:Int) (out:List Int),0<=v->(∃z,WL (lar p l) v.toNat to r z/\sum+z > 0) ->
  ∃xs:List ge,q8 p l (hm (lar p l) n to) r sum (ow l v.toNat) out=some (out++xs.map fun x=>(x.2:Int))/\uI l v xs (to:Int)/\xs.length=r/\sum+jQ p xs > 0
 | 0,v,sum,out,hv0,⟨z,h1,h2⟩=>by
  obtain ⟨h3,rfl⟩:=tZ.1 h1
  exact ⟨[],by simp [q8],by show v=(to:Int); omega,rfl,by simpa [jQ] using h2⟩
 | r+1,v,sum,out,hv0,⟨z,h1,h2⟩=>by
  obtain ⟨a,ha,haf,z',hz',rfl⟩:=CS.1 h1
  obtain ⟨x,hx,rfl⟩:=AQ ha
  have hokx:=uv hv hx
  have hxf:x.1.f=v:=by
   have:=hokx.1
   simp only [E9] at haf; omega
  have hxo:x∈ow l v.toNat:=Tu.2 ⟨hx,by simp; omega⟩
  have hg:kX (hm (lar p l) n to r) p sum x=true:=(oY hv hn32 hp hto hx).2 ⟨z',hz',by simp only [E9] at h2; omega⟩
  cases hf:(ow l v.toNat).find? (kX (hm (lar p l) n to r) p sum) with
  | none=>
   rw [List.find?_eq_none] at hf
   exact absurd hg (hf x hxo)
  | some b=>
   have hbg:=List.find?_some hf
   have hbo:=List.mem_of_find?_eq_some hf
   have hbn:=(Tu.1 hbo).1
   have hbf:=(Tu.1 hbo).2
   simp only [Sr] at hbf
   have hokb:=uv hv hbn
   obtain ⟨y,hy1,hy2⟩:=(oY hv hn32 hp hto hbn).1 hbg
   obtain ⟨xs,k1,k2,k3,k4⟩:=zL r b.1.t (sum+b.1.len p) (out++[(b.2:Int)]) hokb.2.1.1 ⟨y,hy1,hy2⟩
   refine ⟨b :: xs,?_,⟨hbn,by omega,k2⟩,by simp [k3],?_⟩
   ·simp only [q8,hf,k1]
    simp
   ·simp only [jQ,SG,Ud] at k4 ⊢
    omega
end
section
variable {n:Nat} {p:Int} {l:List br} (hv:∀x∈l,okA n x) (hn32:n<=32) (hp:cT p)
include hv hn32 hp
theorem vY {x:ge} (hx:x∈num l):(wk p l n (k+1) x=none/\¬ ∃z,WL (lar p l) x.1.t.toNat x.1.f.toNat k z/\x.1.len p+z > 0) \/
  ∃xs:List ge,wk p l n (k+1) x=some (xs.map fun y=>(y.2:Int))/\uI l x.1.f xs x.1.f/\xs.length=k+1/\jQ p xs > 0:=by
 have hok:=uv hv hx
 have hto:x.1.f.toNat<n:=by have:=hok.1; omega
 unfold wk q8
 by_cases hg:kX (hm (lar p l) n x.1.f.toNat k) p 0 x=true
 ·right
  obtain ⟨z,hz1,hz2⟩:=(oY hv hn32 hp hto hx).1 hg
  obtain ⟨xs,k1,k2,k3,k4⟩:=zL hv hn32 hp hto k x.1.t (0+x.1.len p) ([]++[(x.2:Int)]) hok.2.1.1 ⟨z,hz1,by omega⟩
  refine ⟨x :: xs,?_,⟨hx,rfl,?_⟩,by simp [k3],?_⟩
  ·simp only [List.find?_cons,hg,k1]
   simp
  ·have:((x.1.f.toNat:Nat):Int)=x.1.f:=by have:=hok.1; omega
   rw [this] at k2; exact k2
  ·simp only [jQ,SG,Ud] at k4 ⊢
   omega
 ·left
  refine ⟨?_,fun ⟨z,h1,h2⟩=>hg ((oY hv hn32 hp hto hx).2 ⟨z,h1,by omega⟩)⟩
  rw [Bool.not_eq_true] at hg
  simp [hg]
theorem qu {k:Nat}:f7 p l n (k+1)=none↔∀u c,isW (lar p l) u c u->c.length=k+1->kD c<=0:=by
 unfold f7
 rw [List.findSome?_eq_none_iff]
 constructor
 ·intro h u c hc hl
  cases c with
  | nil=>simp at hl
  | cons a r=>
   obtain ⟨h1,h2,h3⟩:=hc
   obtain ⟨x,hx,rfl⟩:=AQ h1
   rcases vY hv hn32 hp (k:=k) hx with ⟨_,h5⟩ | ⟨xs,h4,_⟩
   ·rcases Int.lt_or_le 0 (kD (E9 p x :: r)) with h6 | h6
    ·refine absurd ⟨kD r,⟨r,?_,by simpa using hl,rfl⟩,?_⟩ h5
     ·have e:x.1.f.toNat=u:=h2
      rw [e]; exact h3
     ·simp only [kD,E9] at h6; omega
    ·exact h6
   ·rw [h x hx] at h4; cases h4
 ·intro h x hx
  rcases vY hv hn32 hp (k:=k) hx with ⟨h4,_⟩ | ⟨xs,h4,h5,h6,h7⟩
  ·exact h4
  ·obtain ⟨k1,k2⟩:=QE (p:=p) hv h5
   have:=h _ _ k1 (by simp [h6])
   omega
theorem wY {k:Nat} {res:List Int} (h:f7 p l n (k+1)=some res):∃(u:Int) (xs:List ge),res=xs.map (fun y=>(y.2:Int))/\uI l u xs u/\xs.length=k+1/\jQ p xs > 0:=by
 unfold f7 at h
 obtain ⟨x,hx,hw⟩:=List.exists_of_findSome?_eq_some h
 rcases vY hv hn32 hp (k:=k) hx with ⟨h4,_⟩ | ⟨xs,h4,h5,h6,h7⟩
 ·rw [h4] at hw; cases hw
 ·rw [h4] at hw
  injection hw with hw
  exact ⟨_,xs,hw.symm,h5,h6,h7⟩
theorem yl:tU p l n=none↔CY (lar p l) n:=by
 unfold tU
 rw [List.findSome?_eq_none_iff]
 constructor
 ·intro h u c hc h1 h2
  have:=(qu hv hn32 hp (k:=c.length-1)).1 (h (c.length-1) (by simp; omega)) u c hc (by omega)
  exact this
 ·intro h j hj
  rw [SI] at hj
  exact (qu hv hn32 hp).2 fun u c hc hl=>h u c hc (by omega) (by omega)
theorem yk {res:List Int} (h:tU p l n=some res):∃(u:Int) (xs:List ge),res=xs.map (fun y=>(y.2:Int))/\uI l u xs u/\1<=xs.length/\xs.length<=n/\jQ p xs > 0:=by
 unfold tU at h
 obtain ⟨j,hj,hw⟩:=List.exists_of_findSome?_eq_some h
 rw [SI] at hj
 obtain ⟨u,xs,h1,h2,h3,h4⟩:=wY hv hn32 hp hw
 exact ⟨u,xs,h1,h2,by omega,by omega,h4⟩
end
end Cy
end Go.Proofs.Ytkcjhljbgjpklaa
