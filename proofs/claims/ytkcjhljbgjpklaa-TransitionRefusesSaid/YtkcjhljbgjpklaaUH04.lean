import Derived.Test.YtkcjhljbgjpklaaUH03
set_option maxRecDepth 100000
set_option maxHeartbeats 4000000
noncomputable section
namespace Go.Proofs.Ytkcjhljbgjpklaa
namespace Cy
open Go
def GC:Nat->Option (List AV):=fun _=>none
structure a8 where
 f:Int
 t:Int
 w:Int
 k:Int
def cE (a:a8):AV:=.agg [.int .i64 a.f,.int .i64 a.t,.int .i64 a.w,.int .i64 a.k]
def a8.inR (a:a8):Prop:=inI a.f/\inI a.t/\inI a.w/\inI a.k
open Classical in
def A9:AV->Option a8
 | .agg [.int .i64 f,.int .i64 t,.int .i64 w,.int .i64 k]=>if a8.inR ⟨f,t,w,k⟩ then some ⟨f,t,w,k⟩ else none
 | _=>none
theorem qc {x:AV} {a:a8} (h:A9 x=some a):x=cE a/\a.inR:=by
 unfold A9 at h
 split at h
 ·simp only [Option.ite_none_right_eq_some,Option.some.injEq] at h
  obtain ⟨h1,rfl⟩:=h
  exact ⟨rfl,h1⟩
 ·cases h
theorem A8 {a:a8} (h:a.inR):A9 (cE a)=some a:=if_pos h
def D8 {α:Type} (s:Nat) (f:AV->Option α):AV->Option (List α)
 | .nilS=>some []
 | .fs s' es=>if s'=s/\es.length<=9223372036854775807 then ua f es else none
 | _=>none
def cu (a:AV):Option (List a8):=D8 4 A9 a
theorem gm {a:AV} {l:List a8} (h:cu a=some l):SlA 4 (l.map cE) a/\l.length<=9223372036854775807/\∀x∈l,x.inR:=by
 unfold cu D8 at h
 split at h
 ·injection h with h; subst h
  exact ⟨.inl ⟨rfl,rfl⟩,by simp,by simp⟩
 ·rename_i s' es
  simp only [Option.ite_none_right_eq_some] at h
  obtain ⟨⟨rfl,hl⟩,h⟩:=h
  obtain ⟨h1,h2⟩:=kY h
  have e:es=l.map cE:=List.ext_getElem (by simpa using h1) fun i k1 k2=>by
   rw [(qc (h2 i k1 (by omega))).1]; simp
  subst e
  refine ⟨.inr rfl,by simpa using hl,fun x hx=>?_⟩
  obtain ⟨i,hi,rfl⟩:=List.mem_iff_getElem.1 hx
  have:=h2 i (by simpa using hi) hi
  exact (qc this).2
 ·cases h
theorem zg {a:AV} {l:List a8} (h:SlA 4 (l.map cE) a) (hl:l.length<=9223372036854775807) (hr:∀x∈l,x.inR):cu a=some l:=by
 unfold cu D8
 rcases h with ⟨rfl,h⟩ | rfl
 ·have:l=[]:=by simpa using h
  subst this; rfl
 ·simp only [List.length_map]
  rw [if_pos ⟨trivial,hl⟩]
  exact oH fun x hx=>A8 (hr x hx)
section
variable {a:AV} {l:List a8}
theorem kX (h:cu a=some l):aq a=some (.int .i64 (l.length:Int))/\l.length<=9223372036854775807:=by
 obtain ⟨h1,h2,_⟩:=gm h
 have:=h1.len
 simp only [List.length_map] at this
 exact ⟨this,h2⟩
theorem sB (h:cu a=some l) {i:Nat} (hi:i<l.length):∀A k,ai 4 A a (.int k (i:Int))=some (.fp [.int .i64 l[i].f,.int .i64 l[i].t,.int .i64 l[i].w,.int .i64 l[i].k]):=fun A k=>by
 obtain ⟨h1,h2,_⟩:=gm h
 have hx:(l.map cE)[i]?=some (cE l[i]):=by simp [hi]
 exact h1.index (A:=A) hx rfl (by simp) k
theorem ez (h:cu a=some l) (A:aa) (n:Nat):frz A n a=a:=(gm h).1.frz n
theorem fj (h:cu a=some l) (n:Nat):bo n a=true:=by
 rcases (gm h).1 with ⟨rfl,_⟩ | rfl <;> cases n <;> rfl
end
theorem fU {l:List a8} (hl:l.length<=9223372036854775807) (h:∀x∈l,x.inR):cu (slA 4 (l.map cE))=some l:=zg (a9 _ _) hl h
def M32:aO:=fun args=>match args with
 | [.int .i64 n,.int .i64 lo,.int .i64 hi]=>some (.bool (decide (lo<=n/\n<=hi)))
 | _=>none
theorem kE (n lo hi:Int):M32 [.int .i64 n,.int .i64 lo,.int .i64 hi]=some (.bool (decide (lo<=n/\n<=hi))):=rfl
theorem ug (n lo hi:Int):decide (lo<=n/\n<=hi)=(decide (lo<=n) && decide (n<=hi)):=by
 rw [Bool.eq_iff_iff,decide_eq_true_eq,Bool.and_eq_true,decide_eq_true_eq,decide_eq_true_eq]
theorem rk:aw Try.prog GC 88 M32:=by
 refine aw.of_ev (E:=ax GC []) (au aA) rfl Lk yz 1 ?_
 intro args r h
 unfold M32 at h
 split at h
 ·rename_i n lo hi
  injection h with h; subst h
  refine ⟨0,?_⟩
  have b1:ag .geq (.int .i64 n) (.int .i64 lo)=some (.bool (decide (lo<=n))):=by simp [ag]
  have b2:ag .leq (.int .i64 n) (.int .i64 hi)=some (.bool (decide (n<=hi))):=by simp [ag]
  rw [ug]
  obtain ⟨p,hp⟩:∃p,p=decide (lo<=n):=⟨_,rfl⟩
  obtain ⟨q,hq⟩:∃q,q=decide (n<=hi):=⟨_,rfl⟩
  rw [<-hp] at b1 ⊢
  rw [<-hq] at b2 ⊢
  rw [aJ _ _ rfl]
  cases p <;> simp [EL,b1,b2,-ag]
 ·cases h
theorem nB:aw Try.prog GC 36 M32:=by
 refine aw.of_ev (E:=ax GC []) (au aA) rfl ET qa 1 ?_
 intro args r h
 unfold M32 at h
 split at h
 ·rename_i n lo hi
  injection h with h; subst h
  refine ⟨0,?_⟩
  have b1:ag .geq (.int .i64 n) (.int .i64 lo)=some (.bool (decide (lo<=n))):=by simp [ag]
  have b2:ag .leq (.int .i64 n) (.int .i64 hi)=some (.bool (decide (n<=hi))):=by simp [ag]
  rw [ug]
  obtain ⟨p,hp⟩:∃p,p=decide (lo<=n):=⟨_,rfl⟩
  obtain ⟨q,hq⟩:∃q,q=decide (n<=hi):=⟨_,rfl⟩
  rw [<-hp] at b1 ⊢
  rw [<-hq] at b2 ⊢
  rw [aJ _ _ rfl]
  cases p <;> simp [sN,b1,b2,-ag]
 ·cases h
def cw (p:Int):Prop:=-1000000<=p/\p<=1000000
instance (p:Int):Decidable (cw p):=inferInstanceAs (Decidable (_/\_))
def M41:aO:=fun args=>match args with
 | [.int .i64 p]=>some (.bool (decide (cw p)))
 | _=>none
def fsW:List (FuncId × aG):=[(88,aD 4 M32),(36,aD 4 M32)]
@[simp] theorem L6:aC fsW 88=some (aD 4 M32):=rfl
@[simp] theorem L5:aC fsW 36=some (aD 4 M32):=rfl
theorem uA:∀f M,aC fsW f=some M->aj Try.prog GC f M:=ae (aj.of_pure rk 4) (ae (aj.of_pure nB 4) aA)
theorem nz:aw Try.prog GC 72 M41:=by
 refine aw.of_ev (E:=ax GC fsW) (au uA) rfl Hj sh 1 ?_
 intro args r h
 unfold M41 at h
 split at h
 ·rename_i p
  injection h with h; subst h
  refine ⟨0,?_⟩
  have m:=kE p (-1000000) 1000000
  rw [show decide (-1000000<=p/\p<=1000000)=decide (cw p) from rfl] at m
  rw [aJ _ _ rfl]
  simp [xy,m]
 ·cases h
def okA (n:Int) (a:a8):Prop:=(0<=a.f/\a.f<=n-1)/\(0<=a.t/\a.t<=n-1)/\(-1000000<=a.w/\a.w<=1000000)/\(-2<=a.k/\a.k<=2)
instance (n:Int) (a:a8):Decidable (okA n a):=inferInstanceAs (Decidable (_/\_))
def dk (n:Int) (a:a8):Bool:=!decide (okA n a)
theorem zV (n:Int) (a:a8):dk n a=(!decide (0<=a.f/\a.f<=n-1) || !decide (0<=a.t/\a.t<=n-1) || !decide (-1000000<=a.w/\a.w<=1000000) || !decide (-2<=a.k/\a.k<=2)):=by
 unfold dk okA
 by_cases h1:0<=a.f/\a.f<=n-1 <;> by_cases h2:0<=a.t/\a.t<=n-1 <;> by_cases h3 : -1000000<=a.w/\a.w<=1000000 <;> by_cases h4 : -2<=a.k/\a.k<=2 <;> simp [h1,h2,h3,h4]
def M31:aO:=fun args=>match args with
 | [.agg [.int .i64 f,.int .i64 t,.int .i64 w,.int .i64 k],.fp [.int .i64 n]]=>if 1<=n/\n<=32 then some (.bool (dk n ⟨f,t,w,k⟩)) else none
 | _=>none
theorem wY:aw Try.prog GC 96 M31:=by
 refine aw.of_ev (E:=ax GC fsW) (au uA) rfl Ll yA 1 ?_
 intro args r h
 unfold M31 at h
 split at h
 ·rename_i f t w k n
  simp only [Option.ite_none_right_eq_some,Option.some.injEq] at h
  obtain ⟨hn,rfl⟩:=h
  refine ⟨0,?_⟩
  rw [zV]
  have m1:=kE f 0 (n-1)
  have m2:=kE t 0 (n-1)
  have m3:=kE w (-1000000) 1000000
  have m4:=kE k (-2) 2
  have b:ag .sub (.int .i64 n) (.int .i64 1)=some (.int .i64 (n-1)):=by
   simp only [ag]; rw [if_pos trivial,dV (by unfold inI; omega)]
  simp only
  obtain ⟨p1,hp1⟩:∃p,p=decide (0<=f/\f<=n-1):=⟨_,rfl⟩
  obtain ⟨p2,hp2⟩:∃p,p=decide (0<=t/\t<=n-1):=⟨_,rfl⟩
  obtain ⟨p3,hp3⟩:∃p,p=decide (-1000000<=w/\w<=1000000):=⟨_,rfl⟩
  obtain ⟨p4,hp4⟩:∃p,p=decide (-2<=k/\k<=2):=⟨_,rfl⟩
  rw [<-hp1] at m1 ⊢
  rw [<-hp2] at m2 ⊢
  rw [<-hp3] at m3 ⊢
  rw [<-hp4] at m4 ⊢
  obtain ⟨n1,hn1⟩:∃n1,n1=n-1:=⟨_,rfl⟩
  rw [<-hn1] at b m1 m2
  rw [aJ _ _ rfl]
  cases p1
  ·simp [Ar,b,m1,-ag]
  ·cases p2
   ·simp [Ar,b,m1,m2,-ag]
   ·cases p3
    ·simp [Ar,b,m1,m2,m3,-ag]
    ·simp [Ar,b,m1,m2,m3,m4,-ag]
 ·cases h
open Go
def x7 (n:Int):AV:=.func (.func 96) [] [.fp [.int .i64 n]]
def BX:List (FuncId × aG):=[(96,aD 4 M31)]
@[simp] theorem Jp:aC BX 96=some (aD 4 M31):=rfl
theorem C8:∀f M,aC BX f=some M->aj Try.prog GC f M:=ae (aj.of_pure wY 4) aA
def cW {α:Type} (p:α->Bool) (l:List α):Int:=match l.findIdx? p with
 | some i=>i
 | none=>-1
theorem bL {α:Type} {p:α->Bool} {l:List α} {i:Nat} (hi:i<l.length) (h1:p l[i]=true) (h2:∀j (hj:j<i),p (l[j]'(by omega))=false):cW p l=(i:Int):=by
 have:l.findIdx? p=some i:=List.findIdx?_eq_some_iff_getElem.2 ⟨hi,h1,fun j hj=>by simpa using h2 j hj⟩
 unfold cW; rw [this]
theorem bO {α:Type} {p:α->Bool} {l:List α} (h:∀i (hi:i<l.length),p l[i]=false):cW p l = -1:=by
 have:l.findIdx? p=none:=by
  rw [List.findIdx?_eq_none_iff]
  intro x hx
  obtain ⟨i,hi,rfl⟩:=List.mem_iff_getElem.1 hx
  exact h i hi
 unfold cW; rw [this]
theorem cj {α:Type} (p:α->Bool) (l:List α):decide (0<=cW p l)=l.any p:=by
 unfold cW
 cases h:l.findIdx? p with
 | some i=>
  obtain ⟨hi,h1,_⟩:=List.findIdx?_eq_some_iff_getElem.1 h
  show decide (0<=(i:Int))=_
  rw [decide_eq_true (by omega),eq_comm,List.any_eq_true]
  exact ⟨_,List.getElem_mem hi,h1⟩
 | none=>
  rw [List.findIdx?_eq_none_iff] at h
  show decide (0<=(-1:Int))=_
  rw [decide_eq_false (by omega),eq_comm,List.any_eq_false]
  intro x hx; rw [h x hx]; simp
theorem ev44 {a:AV} {l:List a8} (ha:cu a=some l) {n:Int} (hn:1<=n/\n<=32):evP (ax GC BX) (l.length+1) Ap 1 [a,x7 n]=some (.int .i64 (cW (dk n) l)):=by
 obtain ⟨hl,hm⟩:=kX ha
 have round:∀(A:aa) (i:Nat) (hi:i<l.length),run (ax GC BX) (l.length+1) [.code iT] (ly a (x7 n) (.int .i64 (l.length:Int)) (.int .i64 (i:Int))) A =
   if dk n l[i]=false then some (.normal (ly a (x7 n) (.int .i64 (l.length:Int)) (.int .i64 ((i+1:Nat):Int))) A) else some (.ret [a,x7 n,.int .i64 (i:Int),.int .i64 (i:Int),.int .i64 (l.length:Int),.int .i64 (i:Int),.bool true,.bool true] A):=fun A i hi=>by
  have x1:=sB ha hi A .i64
  have m:M31 [.agg [.int .i64 l[i].f,.int .i64 l[i].t,.int .i64 l[i].w,.int .i64 l[i].k],.fp [.int .i64 n]]=some (.bool (dk n l[i])):=if_pos hn
  have b1:=bu i l.length .i64
  rw [decide_eq_true hi] at b1
  have b3:=bc i (by omega)
  obtain ⟨i1,hi1⟩:∃i1:Nat,i1=i+1:=⟨_,rfl⟩
  rw [<-hi1] at b3 ⊢
  obtain ⟨d,hd⟩:∃d,d=dk n l[i]:=⟨_,rfl⟩
  rw [<-hd] at m ⊢
  cases d with
  | false=>simp [iT,x7,x1,m,frz,b1,b3,-ag,-ai,-aq]
  | true=>simp [iT,x7,x1,m,frz,b1,-ag,-ai,-aq]
 rw [aJ _ _ rfl]
 rcases cI (E:=ax GC BX) (fuel:=l.length+1) (a:=iT) (mask:=ig) (fun i=>ly a (x7 n) (.int .i64 (l.length:Int)) (.int .i64 (i:Int))) (fun _=>[]) l.length (fun i=>¬ ∀hi:i<l.length,dk n l[i]=false)
  (oF:=fun i=>.ret [a,x7 n,.int .i64 (i:Int),.int .i64 (i:Int),.int .i64 (l.length:Int),.int .i64 (i:Int),.bool true,.bool true] []) (oE:=.exit 0 ((ly a (x7 n) (.int .i64 (l.length:Int)) (.int .i64 (l.length:Int))).set 6 (.bool false)) [])
  (fun _=>Ci) (fun _ _ _ h=>by cases h) (fun _ _ h=>by cases h)
  (fun i hi hp=>by
   rw [round [] i hi]
   exact if_pos (Classical.not_not.1 hp hi))
  (fun i hi hp=>by
   rw [round [] i hi]
   exact if_neg fun h=>hp fun _=>h)
  (by simp [iT]) (Nat.lt_succ_self _) with ⟨i,hi,hp,hj,lp⟩ | ⟨hp,lp⟩
 ·have lp:cc (evC (ax GC BX) (l.length+1) iT) ig (l.length+1) (ly a (x7 n) (.int .i64 (l.length:Int)) (.int .i64 0)) []=_:=lp
  have e:cW (dk n) l=(i:Int):=bL hi (by
   cases h:dk n l[i] with
   | true=>rfl
   | false=>exact absurd (fun _=>h) hp) (fun j hj'=>Classical.not_not.1 (hj j hj') (by omega))
  rw [e]
  simp [Ap,hl,BN lp,-ag,-aq]
 ·have lp:cc (evC (ax GC BX) (l.length+1) iT) ig (l.length+1) (ly a (x7 n) (.int .i64 (l.length:Int)) (.int .i64 0)) []=_:=lp
  have e:cW (dk n) l = -1:=bO fun i hi=>Classical.not_not.1 (hp i hi) hi
  rw [e]
  simp [Ap,hl,BN lp,-ag,-aq]
def M44:aO:=fun args=>match args with
 | [a,.func (.func 96) [] [.fp [.int .i64 n]]]=>if 1<=n/\n<=32 then (cu a).map fun l=>.int .i64 (cW (dk n) l) else none
 | _=>none
theorem wV:aw Try.prog GC 103 M44:=by
 refine aw.of_ev (E:=ax GC BX) (au C8) rfl Le yo 1 ?_
 intro args r h
 unfold M44 at h
 split at h
 ·simp only [Option.ite_none_right_eq_some,Option.map_eq_some_iff] at h
  obtain ⟨hn,l,hl,rfl⟩:=h
  exact ⟨_,ev44 hl hn⟩
 ·cases h
def M33:aO:=fun args=>match args with
 | [a,.func (.func 96) [] [.fp [.int .i64 n]]]=>if 1<=n/\n<=32 then (cu a).map fun l=>.bool (l.any (dk n)) else none
 | _=>none
def JE:List (FuncId × aG):=[(103,aD 4 M44)]
@[simp] theorem JD:aC JE 103=some (aD 4 M44):=rfl
theorem Dg:∀f M,aC JE f=some M->aj Try.prog GC f M:=ae (aj.of_pure wV 4) aA
theorem gM (z:Int):ag .geq (.int .i64 z) (.int .i64 0)=some (.bool (decide (0<=z))):=by simp [ag]
theorem wX:aw Try.prog GC 97 M33:=by
 refine aw.of_ev (E:=ax GC JE) (au Dg) rfl Lj yy 1 ?_
 intro args r h
 unfold M33 at h
 split at h
 ·rename_i a n
  simp only [Option.ite_none_right_eq_some,Option.map_eq_some_iff] at h
  obtain ⟨hn,l,hl,rfl⟩:=h
  refine ⟨0,?_⟩
  have m:M44 [a,.func (.func 96) [] [.fp [.int .i64 n]]]=some (.int .i64 (cW (dk n) l)):=by
   simp only [M44,hl,Option.map_some]; exact if_pos hn
  have b:=gM (cW (dk n) l)
  rw [cj] at b
  have f1:=ez hl
  have f2:=fj hl
  obtain ⟨z,hz⟩:∃z,z=cW (dk n) l:=⟨_,rfl⟩
  rw [<-hz] at m b
  rw [aJ _ _ rfl]
  simp [EK,m,b,f1,f2,frz,-ag]
 ·cases h
def dL (n:Int) (l:List a8):Prop:=(1<=n/\n<=32)/\l.length<=200/\∀a∈l,okA n a
theorem zj (n:Int) (l:List a8):l.any (dk n)=false↔∀a∈l,okA n a:=by
 rw [List.any_eq_false]
 unfold dk
 simp
open Classical in
def M16:aO:=fun args=>match args with
 | [.int .i64 n,a]=>(cu a).map fun l=>.bool (decide (dL n l))
 | _=>none
def xW:List (FuncId × aG):=[(88,aD 4 M32),(97,aD 4 M33),(36,aD 4 M32)]
@[simp] theorem KB:aC xW 88=some (aD 4 M32):=rfl
@[simp] theorem KA:aC xW 97=some (aD 4 M33):=rfl
@[simp] theorem Kz:aC xW 36=some (aD 4 M32):=rfl
theorem ta:∀f M,aC xW f=some M->aj Try.prog GC f M:=ae (aj.of_pure rk 4) (ae (aj.of_pure wX 4) (ae (aj.of_pure nB 4) aA))
open Classical in
theorem lG:aw Try.prog GC 89 M16:=by
 refine aw.of_ev (E:=ax GC xW) (au ta) rfl Hl sk 1 ?_
 intro args r h
 unfold M16 at h
 split at h
 ·rename_i n a
  simp only [Option.map_eq_some_iff] at h
  obtain ⟨l,hl,rfl⟩:=h
  refine ⟨0,?_⟩
  have m1:=kE n 1 32
  have hlen:=(kX hl).1
  have f1:=ez hl
  have f2:=fj hl
  have b1:ag .leq (.int .i64 (l.length:Int)) (.int .i64 200)=some (.bool (decide (l.length<=200))):=by simp [ag]; omega
  rw [aJ _ _ rfl]
  by_cases h1:1<=n/\n<=32
  rotate_left
  ·rw [decide_eq_false h1] at m1
   rw [decide_eq_false (show ¬ dL n l from fun h=>h1 h.1)]
   simp [pL,m1,-ag,-aq]
  rw [decide_eq_true h1] at m1
  by_cases h2:l.length<=200
  rotate_left
  ·rw [decide_eq_false h2] at b1
   rw [decide_eq_false (show ¬ dL n l from fun h=>h2 h.2.1)]
   simp [pL,m1,hlen,b1,-ag,-aq]
  rw [decide_eq_true h2] at b1
  have m2:M33 [a,.func (.func 96) [] [.fp [.int .i64 n]]]=some (.bool (l.any (dk n))):=by
   simp only [M33,hl,Option.map_some]; exact if_pos h1
  have e:decide (dL n l)=!(l.any (dk n)):=by
   rw [Bool.eq_iff_iff,decide_eq_true_eq,Bool.not_eq_true',zj]
   exact ⟨fun h=>h.2.2,fun h=>⟨h1,h2,h⟩⟩
  rw [e]
  obtain ⟨d,hd⟩:∃d,d=l.any (dk n):=⟨_,rfl⟩
  rw [<-hd] at m2 ⊢
  simp [pL,m1,m2,hlen,b1,f1,f2,frz,-ag,-aq]
 ·cases h
def cg (n:Int) (l:List a8) (p:Int):Prop:=dL n l/\cw p
def a8.len (a:a8) (p:Int):Int:=a.w-p*a.k
theorem gK {n p:Int} {a:a8} (h:okA n a) (hp:cw p) : -3000000<=a.len p/\a.len p<=3000000 /\ -2000000<=p*a.k/\p*a.k<=2000000:=by
 obtain ⟨_,_,h3,h4⟩:=h
 unfold cw at hp
 unfold a8.len
 have h5:a.k = -2\/a.k = -1\/a.k=0\/a.k=1\/a.k=2:=by omega
 rcases h5 with h | h | h | h | h <;> rw [h] <;> omega
open Go
theorem Mn (E:Env) (a n:Int) (ha:inI a) (hn:0<n):evP E 0 Z7 1 [.int .i64 a,.int .i64 n]=some (.int .i64 (pick a n)):=by
 have h3:n≠0:=by omega
 rw [aJ _ _ rfl]
 by_cases h:a<0
 ·have h1:IntKind.i64.wrap (a+1)=a+1:=dV (by unfold inI at *; omega)
  have h2:IntKind.i64.wrap (-(a+1)) = -(a+1):=dV (by unfold inI at *; omega)
  simp [Z7,h,h1,h2,h3,pick]
 ·simp [Z7,h,h3,pick]
def M12:aO:=fun args=>match args with
 | [.int .i64 a,.int .i64 n]=>if (-9223372036854775808<=a/\a<=9223372036854775807)/\0<n then some (.int .i64 (pick a n)) else none
 | _=>none
theorem cO {a n:Int} (ha:inI a) (hn:0<n):M12 [.int .i64 a,.int .i64 n]=some (.int .i64 (pick a n)):=if_pos ⟨ha,hn⟩
theorem w6:aw Try.prog GC 21 M12:=by
 refine aw.of_ev (E:=ax GC []) (au aA) rfl at12 G8 1 ?_
 intro args r h
 unfold M12 at h
 split at h
 ·simp only [Option.ite_none_right_eq_some,Option.some.injEq] at h
  obtain ⟨⟨h1,h2⟩,rfl⟩:=h
  exact ⟨0,Mn _ _ _ h1 h2⟩
 ·cases h
open Go
abbrev eJ:=a8 × Nat
def num (l:List a8):List eJ:=l.zipIdx
def wA (p:Int) (x:eJ):AV:=.agg [.int .i64 x.1.f,.int .i64 x.1.t,.int .i64 x.1.w,.int .i64 x.1.k,.int .i64 (x.2:Int),.int .i64 (x.1.len p)]
def mt (l:List a8) (v:Nat):List eJ:=(num l).filter fun x=>decide (x.1.f=(v:Int))
def wAs (p:Int) (l:List eJ):List AV:=l.map (wA p)
theorem uI (l:List a8) (i:Nat) (hi:i<l.length):num (l.take (i+1))=num (l.take i)++[(l[i],i)]:=by
 unfold num
 rw [List.take_succ_eq_append_getElem hi,List.zipIdx_append]
 simp
 omega
theorem jg (l:List a8):(num l).length=l.length:=by simp [num]
theorem fq (l:List a8) (i:Nat) (hi:i<l.length):(num l)[i]?=some (l[i],i):=by
 simp [num,hi]
theorem kL {l:List a8} {x:eJ} (h:x∈num l):∃hi:x.2<l.length,l[x.2]=x.1:=by
 obtain ⟨i,hi,rfl⟩:=List.mem_iff_getElem.1 h
 rw [jg] at hi
 have:=fq l i hi
 have h2:(num l)[i]'(by rw [jg]; exact hi)=(l[i],i):=by
  rw [List.getElem?_eq_getElem (by rw [jg]; exact hi)] at this
  exact Option.some.inj this
 rw [h2]
 exact ⟨hi,rfl⟩
theorem xp (l:List a8) (i v:Nat) (hi:i<l.length):mt (l.take (i+1)) v=if l[i].f=(v:Int) then mt (l.take i) v++[(l[i],i)] else mt (l.take i) v:=by
 unfold mt
 rw [uI l i hi,List.filter_append]
 by_cases h:l[i].f=(v:Int) <;> simp [h]
theorem uG (l:List a8) (v:Nat):(mt l v).length<=l.length:=by
 unfold mt
 have:=List.length_filter_le (fun x:eJ=>decide (x.1.f=(v:Int))) (num l)
 rw [jg] at this
 exact this
def qX (A:aa) (s:AV) (xs:List AV):Prop:=(s=.nilS/\xs=[])\/∃id gr,s=.sl id 0 xs.length/\xs≠[]/\2<=id/\A[id]?=some (.row 6 gr xs)
theorem qX.keep {A B:aa} {s:AV} {xs:List AV} (h:qX A s xs) (hAB:∀id,id∈aX s->B[id]?=A[id]?):qX B s xs:=by
 rcases h with h | ⟨id,gr,rfl,h1,h2,h3⟩
 ·exact .inl h
 ·exact .inr ⟨id,gr,rfl,h1,h2,by rw [hAB id (by simp [aX]),h3]⟩
theorem qX.low {A:aa} {s:AV} {xs:List AV} (h:qX A s xs):∀id,id∈aX s->2<=id/\id<A.length:=by
 rcases h with ⟨rfl,_⟩ | ⟨id,gr,rfl,h1,h2,h3⟩
 ·intro id h; simp [aX] at h
 ·intro j hj
  simp only [aX,List.mem_singleton] at hj
  subst hj
  exact ⟨h2,(List.getElem?_eq_some_iff.1 h3).1⟩
theorem qX.append {A:aa} {s:AV} {xs:List AV} (h:qX A s xs) (x:AV) (hA:2<=A.length) (hl:xs.length<=1000) :
  ∃s' k A',aM 6 48 A s (.fs 6 [x])=some (.sl s' 0 k,A')/\qX A' (.sl s' 0 k) (xs++[x])/\A.length<=A'.length/\(∀j,j<A.length->j ∉ aX s->A'[j]?=A[j]?)/\(s'∈aX s\/s'=A.length):=by
 rcases h with ⟨rfl,rfl⟩ | ⟨id,gr,rfl,h1,h2,h3⟩
 ·refine ⟨A.length,1,A++[.row 6 false [x]],by simp [aM,aS],.inr ⟨A.length,false,rfl,by simp,hA,by simp⟩,by simp,fun j hj _=>by rw [List.getElem?_append_left hj],.inr rfl⟩
 ·have hid:=(List.getElem?_eq_some_iff.1 h3).1
  refine ⟨id,(xs++[x]).length,A.set id (.row 6 true (xs++[x])),?_,.inr ⟨id,true,rfl,by simp,h2,by simp [hid]⟩,by simp,fun j hj hn=>?_,.inl (by simp [aX])⟩
  ·simp only [aM,aS,h3]
   simp [h1]
   omega
  ·rw [List.getElem?_set_ne (fun e=>hn (by simp [aX,e]))]
theorem BY (A:aa) (p:Int) (x:eJ) (n:Nat):frz A (n+1) (wA p x)=wA p x:=by
 cases n <;> simp [frz,wA]
theorem qX.frz {A:aa} {s:AV} {p:Int} {l:List eJ} (h:qX A s (wAs p l)) (n:Nat):frz A (n+2) s=slA 6 (wAs p l):=by
 have e:(wAs p l).map (Proofs.Ytkcjhljbgjpklaa.frz A (n+1))=wAs p l:=by
  unfold wAs
  rw [List.map_map]
  apply List.map_congr_left
  intro x _
  exact BY A p x n
 rcases h with ⟨rfl,h⟩ | ⟨id,gr,rfl,h1,h2,h3⟩
 ·rw [h]; rfl
 ·show Proofs.Ytkcjhljbgjpklaa.frz A (n+1+1) _=_
  simp only [Proofs.Ytkcjhljbgjpklaa.frz,h3]
  rw [List.drop_zero,List.take_of_length_le (Nat.le_refl _),e]
  cases hw:wAs p l with
  | nil=>exact absurd hw h1
  | cons y r=>rfl
theorem AM (A:aa) (p:Int) (x:eJ) (n:Nat):aW A (n+1) (wA p x)=true:=by
 cases n <;> simp [aW,wA]
theorem qX.fresh {A:aa} {s:AV} {p:Int} {l:List eJ} (h:qX A s (wAs p l)) (n:Nat):aW A (n+2) s=true:=by
 rcases h with ⟨rfl,h⟩ | ⟨id,gr,rfl,h1,h2,h3⟩
 ·rfl
 ·show aW A (n+1+1) _=_
  simp only [aW,h3]
  rw [List.drop_zero,List.take_of_length_le (Nat.le_refl _),List.all_eq_true]
  intro y hy
  obtain ⟨x,_,rfl⟩:=List.mem_map.1 hy
  exact AM A p x n
def LM:MC:=.region [⟨none,.mv (.var 12),none⟩,⟨none,.indexSl 4 (.var 10) (.var 12),none⟩,⟨none,.load true 4 (.tmp 1),none⟩,⟨some 7,.alloc 4 (.agg [.int .i64 0,.int .i64 0,.int .i64 0,.int .i64 0]),none⟩,⟨some 6,.mv (.tmp 0),none⟩,⟨none,.store 4 (.var 7) (.tmp 2),none⟩]
def LL:MC:=.region [⟨none,.load true 4 (.var 7),none⟩,⟨none,.mv (.var 6),none⟩,⟨none,.fieldAddr 2 (.var 7),none⟩,⟨none,.load false 1 (.tmp 2),none⟩,⟨none,.mv (.var 2),none⟩,⟨none,.fieldAddr 3 (.var 7),none⟩,⟨none,.load false 1 (.tmp 5),none⟩,⟨none,.bin .mul (.tmp 4) (.tmp 6),none⟩,⟨none,.bin .sub (.tmp 3) (.tmp 7),none⟩,⟨none,.build [.int .i64 0,.int .i64 0,.int .i64 0,.int .i64 0,.int .i64 0,.int .i64 0] [(0,(4,.tmp 0)),(4,(1,.tmp 1)),(5,(1,.tmp 8))],none⟩,⟨some 8,.alloc 6 (.agg [.int .i64 0,.int .i64 0,.int .i64 0,.int .i64 0,.int .i64 0,.int .i64 0]),none⟩,⟨none,.store 6 (.var 8) (.tmp 9),none⟩]
def LK:MC:=.region [⟨none,.mv (.var 5),none⟩,⟨none,.mv (.var 5),none⟩,⟨none,.nilCheck (.tmp 1),none⟩,⟨none,.fieldAddr 1 (.tmp 2),none⟩,⟨none,.load false 1 (.tmp 3),none⟩,⟨none,.load true 6 (.var 8),none⟩,⟨none,.buildF 6 [.tmp 5],none⟩,⟨none,.append 6 48 (.tmp 4) (.tmp 6),none⟩,⟨none,.nilCheck (.tmp 0),none⟩,⟨none,.fieldAddr 1 (.tmp 8),none⟩,⟨none,.store 1 (.tmp 9) (.tmp 7),none⟩]
def Iy:MC:=.regionD [] [⟨none,.mv (.var 5),none⟩,⟨none,.nilCheck (.tmp 0),none⟩,⟨none,.fieldAddr 2 (.tmp 1),none⟩,⟨none,.load false 1 (.tmp 2),none⟩,⟨none,.fieldAddr 0 (.var 7),none⟩,⟨none,.load false 1 (.tmp 4),none⟩,⟨none,.mv (.var 5),none⟩,⟨none,.nilCheck (.tmp 6),none⟩,⟨none,.fieldAddr 2 (.tmp 7),none⟩,⟨none,.load false 1 (.tmp 8),none⟩,⟨none,.fieldAddr 0 (.var 7),none⟩,⟨none,.load false 1 (.tmp 10),none⟩,⟨none,.indexSl 1 (.tmp 9) (.tmp 11),none⟩,⟨none,.load false 1 (.tmp 12),none⟩,⟨none,.load true 6 (.var 8),none⟩,⟨none,.buildF 6 [.tmp 14],none⟩,⟨none,.append 6 48 (.tmp 13) (.tmp 15),none⟩,⟨none,.indexSl 1 (.tmp 3) (.tmp 5),none⟩,⟨none,.store 1 (.tmp 17) (.tmp 16),none⟩] [(2,16),(3,16),(4,16),(5,16)]
theorem Hv:lP=.seq (.region [⟨some 13,.bin .lss (.var 12) (.var 11),none⟩]) (.seq (.cond (.var 13) .skip (.exit 0)) (.seq (.seq (.block 1 (.seq LM (.seq LL (.seq LK Iy)))) (.kill [0,1,3,4,6,7,8,9,13])) (.region [⟨none,.bin .add (.var 12) (.cst (.int .i64 1)),none⟩,⟨some 12,.mv (.tmp 0),none⟩]))):=rfl
theorem IK (E:Env) (fuel:Nat) (K:List KC) (A:aa) {a:AV} {l:List a8} (ha:cu a=some l) {p:Int} (hp:cw p) {i:Nat} (hi:i<l.length) (hv:okA 32 l[i]) (w v13:AV) (X:MC) :
  run E fuel (.code LM :: .code (.seq LL X) :: K) [.undef,.undef,.int .i64 p,.undef,.undef,w,.undef,.undef,.undef,.undef,a,.int .i64 (l.length:Int),.int .i64 (i:Int),v13] A =
   run E fuel (.code X :: K) [.undef,.undef,.int .i64 p,.undef,.undef,w,.int .i64 (i:Int),.ptr A.length 0 0,.ptr (A.length+1) 0 0,.undef,a,.int .i64 (l.length:Int),.int .i64 (i:Int),v13] (A++[.row 4 false [cE l[i]],.row 6 false [wA p (l[i],i)]]):=by
 have x1:=sB ha hi A .i64
 obtain ⟨k1,k2,k3,k4⟩:=gK hv hp
 obtain ⟨_,_,h3,h4⟩:=hv
 have b1:ag .mul (.int .i64 p) (.int .i64 l[i].k)=some (.int .i64 (p*l[i].k)):=by
  simp only [ag]; rw [if_pos trivial,dV (by unfold inI; omega)]
 have b2:ag .sub (.int .i64 l[i].w) (.int .i64 (p*l[i].k))=some (.int .i64 (l[i].len p)):=by
  simp only [ag]; rw [if_pos trivial,dV (by unfold a8.len at k1 k2; unfold inI; omega)]; rfl
 unfold cE wA
 simp only []
 obtain ⟨pk,hpk⟩:∃pk,pk=p*l[i].k:=⟨_,rfl⟩
 rw [<-hpk] at b1 b2
 simp [LM,LL,x1,b1,b2,-ag,-ai]
theorem r25c (E:Env) (fuel:Nat) (K:List KC) {B B2:aa} {v2 v6 v7 v10 v11 v12 v13 n va os:AV} {i8 j k:Nat} {c1 c2 c3 c4 c5 c6:Int}
  (h1:B[1]?=some (.row 3 false [.agg [n,va,os]])) (h8:B[i8]?=some (.row 6 false [.agg [.int .i64 c1,.int .i64 c2,.int .i64 c3,.int .i64 c4,.int .i64 c5,.int .i64 c6]])) (ap:aM 6 48 B va (.fs 6 [.agg [.int .i64 c1,.int .i64 c2,.int .i64 c3,.int .i64 c4,.int .i64 c5,.int .i64 c6]])=some (.sl j 0 k,B2)) (h1':B2[1]?=some (.row 3 false [.agg [n,va,os]])) :
  run E fuel (.code LK :: K) [.undef,.undef,v2,.undef,.undef,.ptr 1 0 0,v6,v7,.ptr i8 0 0,.undef,v10,v11,v12,v13] B =
   run E fuel K [.undef,.undef,v2,.undef,.undef,.ptr 1 0 0,v6,v7,.ptr i8 0 0,.undef,v10,v11,v12,v13] (B2.set 1 (.row 3 false [.agg [n,.sl j 0 k,os]])):=by
 simp [LK,h1,h8,ap,h1']
theorem r25d (E:Env) (fuel:Nat) (K:List KC) {B B2:aa} {v2 v6 v10 v11 v12 v13 n va o:AV} {i7 i8 f m j k:Nat} {os:List AV} {a:a8} {c1 c2 c3 c4 c5 c6:Int}
  (h1:B[1]?=some (.row 3 false [.agg [n,va,.sl 0 0 m]])) (h7:B[i7]?=some (.row 4 false [cE a])) (h8:B[i8]?=some (.row 6 false [.agg [.int .i64 c1,.int .i64 c2,.int .i64 c3,.int .i64 c4,.int .i64 c5,.int .i64 c6]])) (haf:a.f=(f:Int)) (hfm:f<m)
  (h0:B[0]?=some (.row 1 false os)) (ho:os[f]?=some o) (hs:o=.nilS\/∃i k,o=.sl i 0 k)
  (ap:aM 6 48 B o (.fs 6 [.agg [.int .i64 c1,.int .i64 c2,.int .i64 c3,.int .i64 c4,.int .i64 c5,.int .i64 c6]])=some (.sl j 0 k,B2)) (h0':B2[0]?=some (.row 1 false os)) (hid:∀j∈aX o,j≠1/\j≠i7) (hB1:B.length≠1) (hB7:B.length≠i7) :
  run E fuel (.code Iy :: K) [.undef,.undef,v2,.undef,.undef,.ptr 1 0 0,v6,.ptr i7 0 0,.ptr i8 0 0,.undef,v10,v11,v12,v13] B =
   run E fuel K [.undef,.undef,v2,.undef,.undef,.ptr 1 0 0,v6,.ptr i7 0 0,.ptr i8 0 0,.undef,v10,v11,v12,v13] (B2.set 0 (.row 1 false (os.set f (.sl j 0 k)))):=by
 have hB1':¬ 1=B.length:=fun e=>hB1 e.symm
 have hB7':¬ i7=B.length:=fun e=>hB7 e.symm
 simp only [cE,haf] at h7
 rcases hs with rfl | ⟨i,q,rfl⟩
 ·simp [Iy,h1,h7,h8,h0,ho,ap,h0',hB1',hB7',hfm]
 ·obtain ⟨hi1,hi7⟩:=hid i (by simp [aX])
  have hi1':¬ 1=i:=fun e=>hi1 e.symm
  have hi7':¬ i7=i:=fun e=>hi7 e.symm
  simp [Iy,h1,h7,h8,h0,ho,ap,h0',hB1',hB7',hfm,hi1',hi7']
def zo (n:Nat) (p:Int) (l:List a8) (i:Nat) (A:aa):Prop:=∃(va:AV) (os:List AV),A[0]?=some (.row 1 false os)/\A[1]?=some (.row 3 false [.agg [.int .i64 (n:Int),va,.sl 0 0 n]])/\os.length=n/\qX A va (wAs p (num (l.take i))) /\
 (∀(v:Nat) (o:AV),os[v]?=some o->qX A o (wAs p (mt (l.take i) v)))/\(∀(v:Nat) (o:AV) (j:Nat),os[v]?=some o->j∈aX o->j ∉ aX va)/\(∀(u v:Nat) (o q:AV) (j:Nat),u≠v->os[u]?=some o->os[v]?=some q->j∈aX o->j ∉ aX q)
theorem nR {z:Int} {n:Int} (h:0<=z/\z<=n-1):∃m:Nat,z=(m:Int)/\(m:Int)<n:=⟨z.toNat,by omega,by omega⟩
theorem qX.form2 {A:aa} {s:AV} {xs:List AV} (h:qX A s xs):s=.nilS\/∃i k,s=.sl i 0 k:=by
 rcases h with ⟨rfl,_⟩ | ⟨id,gr,rfl,_⟩
 ·exact .inl rfl
 ·exact .inr ⟨_,_,rfl⟩
theorem DA (E:Env) (fuel:Nat) (A:aa) {a:AV} {l:List a8} (ha:cu a=some l) {p:Int} (hp:cw p) {n:Nat} (hn:n<=32) (hl200:l.length<=200) (hv:∀x∈l,okA n x) {i:Nat} (hi:i<l.length) (hI:zo n p l i A) :
  ∃A',run E fuel [.code lP] (lz (.int .i64 p) (.ptr 1 0 0) a (.int .i64 (l.length:Int)) (.int .i64 (i:Int))) A=some (.normal (lz (.int .i64 p) (.ptr 1 0 0) a (.int .i64 (l.length:Int)) (.int .i64 ((i+1:Nat):Int))) A')/\zo n p l (i+1) A':=by
 obtain ⟨va,os,g0,g1,hos,gs,go,gd1,gd2⟩:=hI
 have hmem:=hv _ (List.getElem_mem hi)
 obtain ⟨f,hf,hfn⟩:=nR hmem.1
 have hv32:okA 32 l[i]:=by
  obtain ⟨h1,h2,h3,h4⟩:=hmem
  exact ⟨by omega,by omega,h3,h4⟩
 have hA2:2<=A.length:=(List.getElem?_eq_some_iff.1 g1).1
 obtain ⟨B,hB⟩:∃B,B=A++[.row 4 false [cE l[i]],.row 6 false [wA p (l[i],i)]]:=⟨_,rfl⟩
 have hAB:∀id,id<A.length->B[id]?=A[id]?:=fun id hid=>by rw [hB,List.getElem?_append_left hid]
 have h7:B[A.length]?=some (.row 4 false [cE l[i]]):=by rw [hB]; simp
 have h8:B[A.length+1]?=some (.row 6 false [wA p (l[i],i)]):=by rw [hB,List.getElem?_append_right (by omega)]; simp
 have hBl:B.length=A.length+2:=by rw [hB]; simp
 have k0:=(hAB 0 (by omega)).trans g0
 have k1:=(hAB 1 (by omega)).trans g1
 have gsB:qX B va (wAs p (num (l.take i))):=gs.keep fun id h=>hAB id (gs.low id h).2
 have hnl:(wAs p (num (l.take i))).length<=1000:=by simp [wAs,jg]; omega
 obtain ⟨ja,ka,B2,ap1,s1,len1,keep1,ids1⟩:=gsB.append (wA p (l[i],i)) (by omega) hnl
 have hva:=gs.low
 have q1:=(keep1 1 (by omega) fun h=>by have:=(hva 1 h).1; omega).trans k1
 obtain ⟨B3,hB3⟩:∃B3,B3=B2.set 1 (.row 3 false [.agg [.int .i64 (n:Int),(.sl ja 0 ka),.sl 0 0 n]]):=⟨_,rfl⟩
 have hB3l:B3.length=B2.length:=by rw [hB3]; simp
 have c1:B3[1]?=some (.row 3 false [.agg [.int .i64 (n:Int),(.sl ja 0 ka),.sl 0 0 n]]):=by rw [hB3]; exact List.getElem?_set_self (by omega)
 have hB23:∀id,id≠1->B3[id]?=B2[id]?:=fun id h=>by rw [hB3,List.getElem?_set_ne (Ne.symm h)]
 have c0:=((hB23 0 (by omega)).trans (keep1 0 (by omega) fun h=>by have:=(hva 0 h).1; omega)).trans k0
 have c7:=((hB23 A.length (by omega)).trans (keep1 A.length (by omega) fun h=>by have:=(hva _ h).2; omega)).trans h7
 have c8:=((hB23 (A.length+1) (by omega)).trans (keep1 (A.length+1) (by omega) fun h=>by have:=(hva _ h).2; omega)).trans h8
 have s1':qX B3 (.sl ja 0 ka) (wAs p (num (l.take i))++[wA p (l[i],i)]):=s1.keep fun id h=>hB23 id (by have:=(s1.low id h).1; omega)
 obtain ⟨o,ho⟩:∃o,os[f]?=some o:=⟨os[f]'(by omega),List.getElem?_eq_getElem _⟩
 have keepO:∀v q,os[v]?=some q->qX B3 q (wAs p (mt (l.take i) v)):=fun v q hq=>(go v q hq).keep fun id h=>by
  have:=(go v q hq).low id h
  rw [hB23 id (by omega),keep1 id (by omega) (gd1 v q id hq h),hAB id this.2]
 have so:=keepO f o ho
 have hol:(wAs p (mt (l.take i) f)).length<=1000:=by
  have:=uG (l.take i) f
  simp only [wAs,List.length_map]
  simp at this; omega
 obtain ⟨jo,ko,B4,ap2,s2,len2,keep2,ids2⟩:=so.append (wA p (l[i],i)) (by omega) hol
 have hoi:=(go f o ho).low
 have d0:=(keep2 0 (by omega) fun h=>by have:=(hoi 0 h).1; omega).trans c0
 obtain ⟨B5,hB5⟩:∃B5,B5=B4.set 0 (.row 1 false (os.set f (.sl jo 0 ko))):=⟨_,rfl⟩
 have hB45:∀id,id≠0->B5[id]?=B4[id]?:=fun id h=>by rw [hB5,List.getElem?_set_ne (Ne.symm h)]
 have ids1':∀x,x∈aX (.sl ja 0 ka)->x∈aX va\/x=B.length:=fun x hx=>by
  simp only [aX,List.mem_singleton] at hx
  rw [hx]; exact ids1
 have ids2':∀x,x∈aX (.sl jo 0 ko)->x∈aX o\/x=B3.length:=fun x hx=>by
  simp only [aX,List.mem_singleton] at hx
  rw [hx]; exact ids2
 refine ⟨B5,?_,.sl ja 0 ka,os.set f (.sl jo 0 ko),?_,?_,?_,?_,?_,?_,?_⟩
 ·have r1:=fun K X=>IK E fuel K A ha hp hi hv32 (.ptr 1 0 0) (.bool true) X
  rw [<-hB] at r1
  have r2:=fun K=>r25c E fuel K (B:=B) (B2:=B2) (v2:=.int .i64 p) (v6:=.int .i64 (i:Int)) (v7:=.ptr A.length 0 0) (v10:=a) (v11:=.int .i64 (l.length:Int)) (v12:=.int .i64 (i:Int)) (v13:=.bool true) (n:=.int .i64 (n:Int)) (va:=va) (j:=ja) (k:=ka) (os:=.sl 0 0 n) (i8:=A.length+1) k1 h8 ap1 q1
  rw [<-hB3] at r2
  have r3:=fun K=>r25d E fuel K (B:=B3) (B2:=B4) (v2:=.int .i64 p) (v6:=.int .i64 (i:Int)) (i7:=A.length) (v10:=a) (v11:=.int .i64 (l.length:Int)) (v12:=.int .i64 (i:Int)) (v13:=.bool true) (n:=.int .i64 (n:Int)) (va:=.sl ja 0 ka) (o:=o) (j:=jo) (k:=ko) (os:=os) (m:=n) (f:=f) (a:=l[i]) (i8:=A.length+1) c1 c7 c8 hf (by omega) c0 ho so.form2 ap2 d0 (fun j hj=>⟨by have:=(hoi j hj).1; omega,by have:=(hoi j hj).2; omega⟩) (by omega) (by omega)
  rw [<-hB5] at r3
  have b1:=bu i l.length .i64
  rw [decide_eq_true hi] at b1
  have b3:=bc i (by omega)
  obtain ⟨i1,hi1⟩:∃i1:Nat,i1=i+1:=⟨_,rfl⟩
  rw [<-hi1] at b3 ⊢
  rw [Hv]
  simp [b1,b3,r1,r2,r3,-ag]
 ·rw [hB5]; exact List.getElem?_set_self (by omega)
 ·rw [hB45 1 (by omega),keep2 1 (by omega) fun h=>by have:=(hoi 1 h).1; omega]
  exact c1
 ·simp [hos]
 ·rw [uI l i hi,show wAs p (num (l.take i)++[(l[i],i)])=wAs p (num (l.take i))++[wA p (l[i],i)] by simp [wAs]]
  refine s1'.keep fun id h=>?_
  have h1:=s1'.low id h
  rw [hB45 id (by omega),keep2 id h1.2 fun h2=>?_]
  rcases ids1' id h with h3 | h3
  ·exact gd1 f o id ho h2 h3
  ·have:=(hoi id h2).2; omega
 ·intro v q hq
  rw [xp l i v hi]
  by_cases hvf:v=f
  ·subst hvf
   rw [List.getElem?_set_self (by omega)] at hq
   injection hq with hq; subst hq
   rw [if_pos hf,show wAs p (mt (l.take i) v++[(l[i],i)])=wAs p (mt (l.take i) v)++[wA p (l[i],i)] by simp [wAs]]
   exact s2.keep fun id h=>hB45 id (by have:=(s2.low id h).1; omega)
  ·rw [List.getElem?_set_ne (Ne.symm hvf)] at hq
   rw [if_neg (by rw [hf]; omega)]
   refine (keepO v q hq).keep fun id h=>?_
   have h1:=(keepO v q hq).low id h
   rw [hB45 id (by omega),keep2 id h1.2 (gd2 v f q o id hvf hq ho h)]
 ·intro v q j hq hj hj2
  have hnew:j∈aX va\/j=B.length:=ids1' j hj2
  by_cases hvf:v=f
  ·subst hvf
   rw [List.getElem?_set_self (by omega)] at hq
   injection hq with hq; subst hq
   have h5:=(s1.low j hj2).2
   rcases ids2' j hj with h3 | h3
   ·have:=(hoi j h3).2
    rcases hnew with h4 | h4
    ·exact gd1 v o j ho h3 h4
    ·omega
   ·omega
  ·rw [List.getElem?_set_ne (Ne.symm hvf)] at hq
   have:=((go v q hq).low j hj).2
   rcases hnew with h4 | h4
   ·exact gd1 v q j hq hj h4
   ·omega
 ·intro u v q r j huv hq hr hj hj2
  by_cases huf:u=f
  ·subst huf
   rw [List.getElem?_set_self (by omega)] at hq
   injection hq with hq; subst hq
   rw [List.getElem?_set_ne huv] at hr
   have:=((go v r hr).low j hj2).2
   rcases ids2' j hj with h3 | h3
   ·exact gd2 u v o r j huv ho hr h3 hj2
   ·omega
  ·rw [List.getElem?_set_ne (Ne.symm huf)] at hq
   have:=((go u q hq).low j hj).2
   by_cases hvf:v=f
   ·subst hvf
    rw [List.getElem?_set_self (by omega)] at hr
    injection hr with hr; subst hr
    rcases ids2' j hj2 with h3 | h3
    ·exact gd2 u v q o j huv hq ho hj h3
    ·omega
   ·rw [List.getElem?_set_ne (Ne.symm hvf)] at hr
    exact gd2 u v q r j huv hq hr hj hj2
theorem aI (A:aa) (n:Nat) (k:IntKind) (z:Int):frz A n (.int k z)=.int k z:=by cases n <;> rfl
def cQ (n:Nat) (p:Int) (l:List a8):AV:=.fp [.int .i64 (n:Int),slA 6 (wAs p (num l)),.fs 1 ((List.range n).map fun v=>slA 6 (wAs p (mt l v)))]
theorem zo.frz {n:Nat} {p:Int} {l:List a8} {A:aa} (h:zo n p l l.length A) (k:Nat):Proofs.Ytkcjhljbgjpklaa.frz A (k+4) (.ptr 1 0 0)=cQ n p l:=by
 obtain ⟨va,os,g0,g1,hos,gs,go,_,_⟩:=h
 rw [List.take_length] at gs go
 show Proofs.Ytkcjhljbgjpklaa.frz A (k+3+1) _=_
 simp only [Proofs.Ytkcjhljbgjpklaa.frz,g1,List.getElem?_cons_zero]
 rw [if_pos ⟨rfl,by simp [cellsOf]⟩]
 have e2:Proofs.Ytkcjhljbgjpklaa.frz A (k+3) (.sl 0 0 n)=.fs 1 ((List.range n).map fun v=>slA 6 (wAs p (mt l v))):=by
  show Proofs.Ytkcjhljbgjpklaa.frz A (k+2+1) _=_
  simp only [Proofs.Ytkcjhljbgjpklaa.frz,g0]
  rw [List.drop_zero,List.take_of_length_le (by omega)]
  congr 1
  apply List.ext_getElem (by simp [hos])
  intro v h1 h2
  simp only [List.getElem_map,List.getElem_range]
  exact (go v _ (List.getElem?_eq_getElem (by simpa using h1))).frz k
 simp only [cellsOf,List.drop_zero,List.map_cons,List.map_nil,e2]
 rw [show Proofs.Ytkcjhljbgjpklaa.frz A (k+3) va=slA 6 (wAs p (num l)) from gs.frz (k+1)]
 simp [cQ,Proofs.Ytkcjhljbgjpklaa.frz]
theorem zo.fresh {n:Nat} {p:Int} {l:List a8} {A:aa} (h:zo n p l l.length A) (k:Nat):aW A (k+4) (.ptr 1 0 0)=true:=by
 obtain ⟨va,os,g0,g1,hos,gs,go,_,_⟩:=h
 rw [List.take_length] at gs go
 have e2:aW A (k+3) (.sl 0 0 n)=true:=by
  show aW A (k+2+1) _=_
  simp only [aW,g0]
  rw [List.drop_zero,List.take_of_length_le (by omega),List.all_eq_true]
  intro x hx
  obtain ⟨v,hv,rfl⟩:=List.mem_iff_getElem.1 hx
  exact (go v _ (List.getElem?_eq_getElem hv)).fresh k
 have e1:aW A (k+3) va=true:=gs.fresh (k+1)
 show aW A (k+3+1) _=_
 simp only [aW,g1,List.getElem?_cons_zero,cellsOf,AV.solid,List.all_cons,List.all_nil,Bool.and_true,Bool.true_and,List.length_cons,List.length_nil]
 simp only [aW] at e1 e2
 rw [e1,e2]; rfl
theorem F0 (E:Env) (fuel:Nat) (A:aa) {a:AV} {l:List a8} (ha:cu a=some l) {p:Int} (hp:cw p) {n:Nat} (hn:n<=32) (hl200:l.length<=200) (hv:∀x∈l,okA n x) (hI:zo n p l 0 A) :
  ∃A',zo n p l l.length A'/\cc (evC E fuel lP) jT (l.length+1) (lz (.int .i64 p) (.ptr 1 0 0) a (.int .i64 (l.length:Int)) (.int .i64 0)) A=some (.exit 0 ((lz (.int .i64 p) (.ptr 1 0 0) a (.int .i64 (l.length:Int)) (.int .i64 (l.length:Int))).set 13 (.bool false)) A'):=by
 obtain ⟨o,h1,A',h2,h3⟩:=f8 (E:=E) (fuel:=fuel) (a:=lP) (mask:=jT) (fun k σ A=>∃i,i+k=l.length/\σ=lz (.int .i64 p) (.ptr 1 0 0) a (.int .i64 (l.length:Int)) (.int .i64 (i:Int))/\zo n p l i A)
  (fun o=>∃A',zo n p l l.length A'/\o=.exit 0 ((lz (.int .i64 p) (.ptr 1 0 0) a (.int .i64 (l.length:Int)) (.int .i64 (l.length:Int))).set 13 (.bool false)) A')
  (by
   rintro k σ A ⟨i,hik,rfl,hI⟩
   rw [Cm]
   by_cases hi:i<l.length
   ·obtain ⟨A',h1,h2⟩:=DA E fuel A ha hp hn hl200 hv hi hI
    exact .inl ⟨_,_,h1,k-1,by omega,i+1,by omega,rfl,h2⟩
   ·obtain rfl:i=l.length:=by omega
    refine .inr ⟨_,?_,?_,A,hI,rfl⟩
    ·simp [lP]
    ·intro _ _ h; cases h)
  (l.length+1) l.length _ A (by omega) ⟨0,by omega,rfl,hI⟩
 exact ⟨A',h2,by rw [<-h3]; exact h1⟩
open Classical in
def M25:aO:=fun args=>match args with
 | [.int .i64 n,a,.int .i64 p]=>(cu a).map fun l=>if cg n l p then .tup [cQ n.toNat p l,.bool true] else .tup [.nilP,.bool false]
 | _=>none
def wa:List (FuncId × aG):=[(89,aD 4 M16),(72,aD 4 M41)]
@[simp] theorem J0:aC wa 89=some (aD 4 M16):=rfl
@[simp] theorem JX:aC wa 72=some (aD 4 M41):=rfl
theorem Dh:∀f M,aC wa f=some M->aj Try.prog GC f M:=ae (aj.of_pure lG 4) (ae (aj.of_pure nz 4) aA)
open Classical in
theorem kI:bT Try.prog GC 73 M25:=by
 refine bT.of_ev (E:=ax GC wa) (au Dh) rfl Iw vo 5 ?_
 intro args r h
 unfold M25 at h
 split at h
 ·rename_i n a p
  simp only [Option.map_eq_some_iff] at h
  obtain ⟨l,hl,rfl⟩:=h
  refine ⟨l.length+1,?_⟩
  have m1:M16 [.int .i64 n,a]=some (.bool (decide (dL n l))):=by simp only [M16,hl,Option.map_some]
  have m2:M41 [.int .i64 p]=some (.bool (decide (cw p))):=rfl
  have f1:=ez hl
  have f2:=fj hl
  have hlen:=(kX hl).1
  rw [fA _ _ rfl]
  by_cases h1:dL n l
  rotate_left
  ·rw [if_neg (fun h=>h1 h.1)]
   rw [decide_eq_false h1] at m1
   simp [uK,m1,f1,f2,frz,aW,dB]
  rw [decide_eq_true h1] at m1
  by_cases h2:cw p
  rotate_left
  ·rw [if_neg (fun h=>h2 h.2)]
   rw [decide_eq_false h2] at m2
   simp [uK,m1,m2,f1,f2,frz,aW,dB]
  rw [decide_eq_true h2] at m2
  rw [if_pos ⟨h1,h2⟩]
  obtain ⟨m,rfl⟩:∃m:Nat,n=(m:Int):=⟨n.toNat,by have:=h1.1; omega⟩
  have hm:1<=m/\m<=32:=by have:=h1.1; omega
  have hI:zo m p l 0 [.row 1 false (List.replicate m .nilS),.row 3 false [.agg [.int .i64 (m:Int),.nilS,.sl 0 0 m]]]:=by
   refine ⟨.nilS,List.replicate m .nilS,rfl,rfl,by simp,.inl ⟨rfl,rfl⟩,fun v o ho=>?_,fun v o j ho hj=>?_,fun u v o q j _ ho _ hj=>?_⟩
   ·rw [List.getElem?_replicate] at ho
    split at ho
    ·injection ho with ho; subst ho
     exact .inl ⟨rfl,rfl⟩
    ·cases ho
   ·simp [aX]
   ·rw [List.getElem?_replicate] at ho
    split at ho
    ·injection ho with ho; subst ho
     simp [aX] at hj
    ·cases ho
  obtain ⟨A',hW,lp⟩:=F0 (ax GC wa) (l.length+1) _ hl h2 hm.2 h1.2.1 h1.2.2 hI
  have z1:frz A' 5 (.tup [.ptr 1 0 0,.bool true])=.tup [cQ m p l,.bool true]:=by
   have:=hW.frz 0
   show AV.tup [frz A' 4 (.ptr 1 0 0),frz A' 4 (.bool true)]=_
   rw [this]; rfl
  have z2:aW A' 5 (.tup [.ptr 1 0 0,.bool true])=true:=by
   have:=hW.fresh 0
   show [AV.ptr 1 0 0,.bool true].all (aW A' 4)=true
   simp only [List.all_cons,this]; rfl
  have p1:dB [.ptr 1 0 0,.bool true]=.tup [.ptr 1 0 0,.bool true]:=rfl
  have e1:(m:Int).toNat=m:=by omega
  have hm0:¬ m=0:=by omega
  have mk:ck 1 24 .nilS [] (.int .i64 (m:Int)) (.int .i64 (m:Int))=some (.sl 0 0 m,[.row 1 false (List.replicate m .nilS)]):=by
   simp [ck]; omega
  rw [e1]
  simp [uK,m1,m2,f1,f2,hlen,Gk lp,mk,aI,z1,z2,-aq,-ck,-frz]
 ·cases h
open Go
abbrev dc:=Nat × Nat × Int
def isW (L:List dc):Nat->List dc->Nat->Prop
 | u,[],v=>u=v
 | u,a :: r,v=>a∈L/\a.1=u/\isW L a.2.1 r v
def jj:List dc->Int
 | []=>0
 | a :: r=>a.2.2+jj r
def ES:Nat->List dc->Nat
 | u,[]=>u
 | _,a :: r=>ES a.2.1 r
section
variable {L:List dc}
theorem f7:∀(r s:List dc),jj (r++s)=jj r+jj s
 | [],s=>by simp [jj]
 | a :: r,s=>by
  simp only [List.cons_append,jj,f7 r s]
  omega
theorem jl:∀ {r s:List dc} {u v:Nat},isW L u (r++s) v↔∃m,isW L u r m/\isW L m s v
 | [],s,u,v=>⟨fun h=>⟨u,rfl,h⟩,by rintro ⟨m,rfl,h⟩; exact h⟩
 | a :: r,s,u,v=>by
  simp only [List.cons_append,isW,jl (r:=r) (s:=s)]
  constructor
  ·rintro ⟨h1,h2,m,h3,h4⟩; exact ⟨m,⟨h1,h2,h3⟩,h4⟩
  ·rintro ⟨m,⟨h1,h2,h3⟩,h4⟩; exact ⟨h1,h2,m,h3,h4⟩
theorem nZ:∀ {r:List dc} {u v:Nat},isW L u r v->ES u r=v
 | [],_,_,h=>h
 | a :: r,_,_,⟨_,_,h⟩=>nZ (r:=r) (u:=a.2.1) h
theorem yf {n:Nat} (hL:∀a∈L,a.1<n/\a.2.1<n):∀ {r:List dc} {u v:Nat},u<n->isW L u r v->v<n
 | [],_,_,h,e=>e ▸ h
 | _ :: _,_,_,_,⟨h1,_,h3⟩=>yf hL (hL _ h1).2 h3
theorem rA:∀(n:Nat) (s:Nat->Nat),(∀i,i<=n->s i<n)->∃i j,i<j/\j<=n/\s i=s j
 | 0,s,h=>absurd (h 0 (Nat.le_refl _)) (by omega)
 | n+1,s,h=>by
  by_cases hx:∃i,i<=n/\s i=s (n+1)
  ·obtain ⟨i,hi,he⟩:=hx
   exact ⟨i,n+1,by omega,Nat.le_refl _,he⟩
  ·have hx':∀i,i<=n->s i≠s (n+1):=fun i hi he=>hx ⟨i,hi,he⟩
   obtain ⟨i,j,h1,h2,h3⟩:=rA n (fun i=>if s i=n then s (n+1) else s i) (fun i hi=>by
    have a1:=h i (by omega)
    have a2:=h (n+1) (Nat.le_refl _)
    have a3:=hx' i hi
    show (if s i=n then s (n+1) else s i)<n
    split <;> omega)
   refine ⟨i,j,h1,by omega,?_⟩
   have a1:=hx' i (by omega)
   have a2:=hx' j (by omega)
   have h3:(if s i=n then s (n+1) else s i)=(if s j=n then s (n+1) else s j):=h3
   split at h3 <;> split at h3 <;> omega
theorem DT {n:Nat} (hL:∀a∈L,a.1<n/\a.2.1<n) {r:List dc} {u v:Nat} (hu:u<n) (h:isW L u r v) (hn:n<=r.length) :
  ∃p c q m,r=p++c++q/\isW L u p m/\isW L m c m/\isW L m q v/\1<=c.length/\c.length<=n:=by
 have key:∀i,i<=r.length->∃m,isW L u (r.take i) m/\isW L m (r.drop i) v:=fun i _=>by
  have h':=h
  rw [<-List.take_append_drop i r] at h'
  exact jl.1 h'
 obtain ⟨i,j,hij,hj,he⟩:=rA n (fun i=>ES u (r.take i)) (fun i hi=>by
  obtain ⟨m,h1,_⟩:=key i (by omega)
  show ES u (r.take i)<n
  rw [nZ h1]
  exact yf hL hu h1)
 obtain ⟨m1,a1,b1⟩:=key i (by omega)
 obtain ⟨m2,a2,b2⟩:=key j (by omega)
 have e1:=nZ a1
 have e2:=nZ a2
 have he:ES u (r.take i)=ES u (r.take j):=he
 have e3:m1=m2:=by rw [<-e1,<-e2,he]
 subst e3
 have hs:r.drop i=(r.drop i).take (j-i)++r.drop j:=by
  conv=>lhs; rw [<-List.take_append_drop (j-i) (r.drop i)]
  rw [List.drop_drop]
  congr 2; omega
 have hs2:r.take j=r.take i++(r.drop i).take (j-i):=by
  have:j=i+(j-i):=by omega
  conv=>lhs; rw [this]
  rw [List.take_add]
 rw [hs2] at a2
 obtain ⟨m,c1,c2⟩:=jl.1 a2
 have e4:m=m1:=by rw [<-nZ c1,e1]
 subst e4
 refine ⟨r.take i,(r.drop i).take (j-i),r.drop j,m,?_,a1,c2,b2,?_,?_⟩
 ·rw [List.append_assoc,<-hs,List.take_append_drop]
 ·simp; omega
 ·simp; omega
def zx (L:List dc) (n:Nat):Prop:=∀u c,isW L u c u->1<=c.length->c.length<=n->jj c<=0
theorem FB {n:Nat} (hL:∀a∈L,a.1<n/\a.2.1<n) (hN:zx L n):∀(k:Nat) (r:List dc) (u v:Nat),r.length=k->u<n->isW L u r v->∃r',isW L u r' v/\r'.length<n/\jj r<=jj r':=by
 intro k
 induction k using Nat.strongRecOn with
 | ind k ih=>
  intro r u v hk hu h
  by_cases hn:r.length<n
  ·exact ⟨r,h,hn,Int.le_refl _⟩
  ·obtain ⟨p,c,q,m,hr,h1,h2,h3,h4,h5⟩:=DT hL hu h (by omega)
   have hc:=hN m c h2 h4 h5
   obtain ⟨r',k1,k2,k3⟩:=ih (p++q).length (by rw [<-hk,hr]; simp; omega) (p++q) u v rfl hu (jl.2 ⟨m,h1,h3⟩)
   refine ⟨r',k1,k2,?_⟩
   rw [hr,f7,f7]
   rw [f7] at k3
   omega
def jA (L:List dc) (s:List Int):Prop:=∀a∈L,s.getD a.1 0+a.2.2<=s.getD a.2.1 0
theorem j6 {s:List Int} (h:jA L s):∀ {r:List dc} {u v:Nat},isW L u r v->s.getD u 0+jj r<=s.getD v 0
 | [],u,v,e=>by rw [show u=v from e]; simp [jj]
 | a :: r,u,v,⟨h1,h2,h3⟩=>by
  have k1:=h a h1
  have k2:=j6 h h3
  rw [h2] at k1
  simp only [jj]
  omega
theorem tI {s:List Int} (h:jA L s) (n:Nat):zx L n:=fun u c hc _ _=>by
 have:=j6 h hc
 omega
def oL (s:List Int) (a:dc):List Int:=if s.getD a.1 0+a.2.2 > s.getD a.2.1 0 then s.set a.2.1 (s.getD a.1 0+a.2.2) else s
def jB (L:List dc) (s:List Int):List Int:=L.foldl oL s
def upL:List dc->List Int->Bool
 | [],_=>false
 | a :: L,s=>decide (s.getD a.1 0+a.2.2 > s.getD a.2.1 0) || upL L (oL s a)
theorem mN (s:List Int) (a:dc):(oL s a).length=s.length:=by unfold oL; split <;> simp
theorem ew:∀(L:List dc) (s:List Int),(jB L s).length=s.length
 | [],_=>rfl
 | a :: L,s=>by
  have:=ew L (oL s a)
  simp only [jB,List.foldl_cons] at this ⊢
  rw [this,mN]
theorem AJ (s:List Int) (i j:Nat) (x:Int) (hi:i<s.length):(s.set i x).getD j 0=if i=j then x else s.getD j 0:=by
 rw [List.getD_eq_getElem?_getD,List.getD_eq_getElem?_getD]
 by_cases h:i=j
 ·subst h
  rw [List.getElem?_set_self hi,if_pos rfl]; rfl
 ·rw [List.getElem?_set_ne h,if_neg h]
theorem qu {s:List Int} {a:dc} (ha:a.2.1<s.length) (v:Nat):(oL s a).getD v 0=if a.2.1=v then max (s.getD v 0) (s.getD a.1 0+a.2.2) else s.getD v 0:=by
 unfold oL
 by_cases h:s.getD a.1 0+a.2.2 > s.getD a.2.1 0
 ·rw [if_pos h,AJ _ _ _ _ ha]
  split
  ·rename_i e
   subst e
   omega
  ·rfl
 ·rw [if_neg h]
  split
  ·rename_i e
   subst e
   omega
  ·rfl
theorem fG:∀ {L:List dc} {s:List Int},upL L s=false->jB L s=s/\jA L s
 | [],s,_=>⟨rfl,fun a h=>by cases h⟩
 | a :: L,s,h=>by
  simp only [upL,Bool.or_eq_false_iff,decide_eq_false_iff_not] at h
  obtain ⟨h1,h2⟩:=h
  have e:oL s a=s:=by unfold oL; rw [if_neg h1]
  rw [e] at h2
  obtain ⟨k1,k2⟩:=fG h2
  refine ⟨?_,fun b hb=>?_⟩
  ·simp only [jB,List.foldl_cons,e]; exact k1
  ·rcases List.mem_cons.1 hb with rfl | hb
   ·omega
   ·exact k2 b hb
theorem nf:∀ {L:List dc} {s:List Int},jA L s->upL L s=false
 | [],_,_=>rfl
 | a :: L,s,h=>by
  have h1:=h a (by simp)
  have e:oL s a=s:=by unfold oL; rw [if_neg (by omega)]
  simp only [upL,e,Bool.or_eq_false_iff,decide_eq_false_iff_not]
  exact ⟨by omega,nf fun b hb=>h b (by simp [hb])⟩
theorem tx {n:Nat}:∀ {L:List dc} {s:List Int},s.length=n->(∀a∈L,a.2.1<n)->(∀v,s.getD v 0<=(jB L s).getD v 0)/\∀a∈L,s.getD a.1 0+a.2.2<=(jB L s).getD a.2.1 0
 | [],s,_,_=>⟨fun v=>Int.le_refl _,fun a h=>by cases h⟩
 | a :: L,s,hs,hL=>by
  have ha:=hL a (by simp)
  obtain ⟨k1,k2⟩:=tx (L:=L) (s:=oL s a) (by rw [mN,hs]) (fun b hb=>hL b (by simp [hb]))
  have e:jB (a :: L) s=jB L (oL s a):=rfl
  rw [e]
  have g:=fun v=>qu (s:=s) (a:=a) (by omega) v
  have g1:∀v,s.getD v 0<=(oL s a).getD v 0:=fun v=>by
   rw [g]; split <;> omega
  refine ⟨fun v=>Int.le_trans (g1 v) (k1 v),fun b hb=>?_⟩
  rcases List.mem_cons.1 hb with rfl | hb
  ·refine Int.le_trans ?_ (k1 _)
   rw [g,if_pos rfl]; omega
  ·have:=k2 b hb
   have h0:=g1 b.1
   omega
def Bb (L:List dc) (n:Nat) (s:List Int):Prop:=∀v,v<n->∃u r,u<n/\isW L u r v/\jj r=s.getD v 0
theorem xi {n:Nat} {L:List dc} (hL:∀a∈L,a.1<n/\a.2.1<n) {s:List Int} (hs:s.length=n) (hw:Bb L n s) {a:dc} (ha:a∈L):Bb L n (oL s a):=fun v hv=>by
 rw [qu (by have:=(hL a ha).2; omega)]
 by_cases h:a.2.1=v
 ·rw [if_pos h]
  by_cases hm:s.getD a.1 0+a.2.2<=s.getD v 0
  ·obtain ⟨u,r,h1,h2,h3⟩:=hw v hv
   exact ⟨u,r,h1,h2,by omega⟩
  ·obtain ⟨u,r,h1,h2,h3⟩:=hw a.1 (hL a ha).1
   refine ⟨u,r++[a],h1,jl.2 ⟨a.1,h2,ha,rfl,h⟩,?_⟩
   rw [f7,h3]
   simp only [jj]
   omega
 ·rw [if_neg h]; exact hw v hv
theorem nH {n:Nat} {L0:List dc} (hL:∀a∈L0,a.1<n/\a.2.1<n):∀ {L:List dc} {s:List Int},(∀a∈L,a∈L0)->s.length=n->Bb L0 n s->Bb L0 n (jB L s)
 | [],_,_,_,h=>h
 | a :: L,s,hs0,hs,hw=>nH hL (L:=L) (s:=oL s a) (fun b hb=>hs0 b (by simp [hb])) (by rw [mN,hs]) (xi hL hs hw (hs0 a (by simp)))
def lev (L:List dc):Nat->List Int->List Int × Bool
 | 0,s=>(s,!upL L s)
 | m+1,s=>if upL L s=false then (s,true) else lev L m (jB L s)
def bQ (L:List dc) (n:Nat):List Int × Bool:=lev L n (List.replicate n 0)
theorem tG {n:Nat} {L:List dc} (hL:∀a∈L,a.1<n/\a.2.1<n):∀(m:Nat) (s:List Int),s.length=n->Bb L n s->(∀v,0<=s.getD v 0) ->
  (lev L m s).1.length=n/\Bb L n (lev L m s).1/\(∀v,0<=(lev L m s).1.getD v 0)/\((lev L m s).2=true->jA L (lev L m s).1)
 | 0,s,hs,hw,h0=>⟨hs,hw,h0,fun h=>(fG (by simpa [lev] using h)).2⟩
 | m+1,s,hs,hw,h0=>by
  unfold lev
  by_cases h:upL L s=false
  ·rw [if_pos h]
   exact ⟨hs,hw,h0,fun _=>(fG h).2⟩
  ·rw [if_neg h]
   exact tG hL m _ (by rw [ew,hs]) (nH hL (fun _ h=>h) hs hw) fun v=>Int.le_trans (h0 v) ((tx hs (fun a ha=>(hL a ha).2)).1 v)
theorem nc (L:List dc) (n:Nat):Bb L n (List.replicate n 0):=fun v hv=>⟨v,[],hv,rfl,by simp [jj,List.getD_eq_getElem?_getD,hv]⟩
theorem jD (n v:Nat):(List.replicate n (0:Int)).getD v 0=0:=by
 rw [List.getD_eq_getElem?_getD]
 by_cases h:v<n <;> simp [h]
theorem F7 {n:Nat} {L:List dc} (hL:∀a∈L,a.1<n/\a.2.1<n) (hN:zx L n):∀(m k:Nat) (s:List Int),m+k=n->s.length=n->Bb L n s->(∀v,0<=s.getD v 0)->(∀r u v,isW L u r v->u<n->r.length<=k->jj r<=s.getD v 0)->(lev L m s).2=true:=by
 intro m
 induction m with
 | zero=>
  intro k s hk hs hw h0 hr
  have:jA L s:=fun a ha=>by
   obtain ⟨h1,h2⟩:=hL a ha
   obtain ⟨u,r,k1,k2,k3⟩:=hw a.1 h1
   obtain ⟨r',q1,q2,q3⟩:=FB hL hN _ (r++[a]) u a.2.1 rfl k1 (jl.2 ⟨a.1,k2,ha,rfl,rfl⟩)
   have:=hr r' u a.2.1 q1 k1 (by omega)
   rw [f7] at q3
   simp only [jj] at q3
   omega
  simp [lev,nf this]
 | succ m ih=>
  intro k s hk hs hw h0 hr
  unfold lev
  by_cases h:upL L s=false
  ·rw [if_pos h]
  ·rw [if_neg h]
   have hge:=tx hs (fun a ha=>(hL a ha).2)
   refine ih (k+1) _ (by omega) (by rw [ew,hs]) (nH hL (fun _ h=>h) hs hw) (fun v=>Int.le_trans (h0 v) (hge.1 v)) fun r u v hw' hu hl=>?_
   by_cases he:r=[]
   ·subst he
    have:u=v:=hw'
    subst this
    exact Int.le_trans (by simpa [jj] using h0 u) (hge.1 u)
   ·obtain ⟨q,a,rfl⟩:∃q a,r=q++[a]:=⟨r.dropLast,r.getLast he,(List.dropLast_concat_getLast he).symm⟩
    obtain ⟨m',k1,k2,k3,k4⟩:=jl.1 hw'
    have e:a.2.1=v:=k4
    subst e
    have h1:=hr q u m' k1 hu (by simp at hl; omega)
    have h2:=hge.2 a k2
    rw [<-k3] at h1
    rw [f7]
    simp only [jj]
    omega
theorem nX {n:Nat} {L:List dc} (hL:∀a∈L,a.1<n/\a.2.1<n):(bQ L n).2=true↔zx L n:=by
 constructor
 ·intro h
  exact tI ((tG hL n _ (by simp) (nc L n) (fun v=>by rw [jD]; exact Int.le_refl _)).2.2.2 h) n
 ·intro h
  refine F7 hL h n 0 _ (by omega) (by simp) (nc L n) (fun v=>by rw [jD]; exact Int.le_refl _) fun r u v hw _ hl=>?_
  have:r=[]:=List.length_eq_zero_iff.1 (by omega)
  subst this
  rw [jD]; simp [jj]
theorem lU {n:Nat} {L:List dc} (hL:∀a∈L,a.1<n/\a.2.1<n):(bQ L n).1.length=n/\(∀v,0<=(bQ L n).1.getD v 0)/\Bb L n (bQ L n).1/\((bQ L n).2=true->jA L (bQ L n).1) /\
  ∀x:List Int,jA L x->(∀v,v<n->0<=x.getD v 0)->∀v,v<n->(bQ L n).1.getD v 0<=x.getD v 0:=by
 obtain ⟨h1,h2,h3,h4⟩:=tG hL n _ (by simp) (nc L n) (fun v=>by rw [jD]; exact Int.le_refl _)
 refine ⟨h1,h3,h2,h4,fun x hx h0 v hv=>?_⟩
 obtain ⟨u,r,k1,k2,k3⟩:=h2 v hv
 have:=j6 hx k2
 have:=h0 u k1
 unfold bQ
 omega
end
open Go
def lar (p:Int) (l:List a8):List dc:=l.map fun a=>(a.f.toNat,a.t.toNat,a.len p)
theorem qn (p:Int) (l:List a8):(wAs p (num l)).length=l.length:=by simp [wAs,jg]
theorem E3 (p:Int) {l:List a8} {i:Nat} (hi:i<l.length):(wAs p (num l))[i]?=some (wA p (l[i],i)):=by
 simp [wAs,fq l i hi]
theorem q9 (p:Int) {l:List a8} {i:Nat} (hi:i<l.length) (A:aa) (k:IntKind):ai 6 A (slA 6 (wAs p (num l))) (.int k (i:Int))=some (.fp [.int .i64 l[i].f,.int .i64 l[i].t,.int .i64 l[i].w,.int .i64 l[i].k,.int .i64 (i:Int),.int .i64 (l[i].len p)]):=
 (a9 6 (wAs p (num l))).index (A:=A) (E3 p hi) rfl (by omega) k
theorem rQ {s:List Int} {i:Nat} (h:i<s.length):(ak s)[i]?=some (.int .i64 (s.getD i 0)):=by
 simp [ak,h]
def Bd (lo hi:Int) (s:List Int):Prop:=∀v,v<s.length->lo<=s.getD v 0/\s.getD v 0<=hi
theorem xj {lo hi:Int} {s:List Int} {a:dc} (h:Bd lo hi s) (hf:a.1<s.length) (ht:a.2.1<s.length) (hw:a.2.2<=3000000):Bd lo (hi+3000000) (oL s a):=fun v hv=>by
 rw [mN] at hv
 rw [qu ht]
 have h1:=h v hv
 have h2:=h _ hf
 split <;> omega
theorem xH {p:Int} {l:List a8} {i:Nat} (hi:i<l.length):(lar p l)[i]?=some (l[i].f.toNat,l[i].t.toNat,l[i].len p):=by simp [lar,hi]
theorem nJ {L:List dc} {i:Nat} {a:dc} (h:L[i]?=some a) (s:List Int):jB (L.take (i+1)) s=oL (jB (L.take i) s) a:=by
 obtain ⟨hi,rfl⟩:=List.getElem?_eq_some_iff.1 h
 unfold jB
 rw [List.take_succ_eq_append_getElem hi,List.foldl_append]
 rfl
theorem ui:∀ {L:List dc} {i:Nat} {a:dc},L[i]?=some a->∀s,upL (L.take (i+1)) s=(upL (L.take i) s || decide ((jB (L.take i) s).getD a.1 0+a.2.2 > (jB (L.take i) s).getD a.2.1 0))
 | [],i,a,h,s=>by simp at h
 | b :: L,0,a,h,s=>by
  simp at h; subst h
  simp [upL,jB]
 | b :: L,i+1,a,h,s=>by
  simp only [List.getElem?_cons_succ] at h
  have:=ui h (oL s b)
  simp only [List.take_succ_cons,upL,this,Bool.or_assoc]
  rfl
def LJ:MC:=.region [⟨none,.indexSl 6 (.var 5) (.var 7),none⟩,⟨none,.load true 6 (.tmp 0),none⟩,⟨some 3,.alloc 6 (.agg [.int .i64 0,.int .i64 0,.int .i64 0,.int .i64 0,.int .i64 0,.int .i64 0]),none⟩,⟨none,.store 6 (.var 3) (.tmp 1),none⟩]
def LI:MC:=.region [⟨none,.mv (.var 1),none⟩,⟨none,.fieldAddr 0 (.var 3),none⟩,⟨none,.fieldAddr 0 (.tmp 1),none⟩,⟨none,.load false 1 (.tmp 2),none⟩,⟨none,.indexSl 1 (.tmp 0) (.tmp 3),none⟩,⟨none,.load false 1 (.tmp 4),none⟩,⟨none,.fieldAddr 5 (.var 3),none⟩,⟨none,.load false 1 (.tmp 6),none⟩,⟨none,.bin .add (.tmp 5) (.tmp 7),none⟩,⟨some 4,.mv (.tmp 8),none⟩]
def LH:MC:=.region [⟨none,.mv (.var 4),none⟩,⟨none,.mv (.var 1),none⟩,⟨none,.fieldAddr 0 (.var 3),none⟩,⟨none,.fieldAddr 1 (.tmp 2),none⟩,⟨none,.load false 1 (.tmp 3),none⟩,⟨none,.indexSl 1 (.tmp 1) (.tmp 4),none⟩,⟨none,.load false 1 (.tmp 5),none⟩,⟨some 9,.bin .gtr (.tmp 0) (.tmp 6),none⟩]
def LG:MC:=.region [⟨none,.mv (.var 1),none⟩,⟨none,.fieldAddr 0 (.var 3),none⟩,⟨none,.fieldAddr 1 (.tmp 1),none⟩,⟨none,.load false 1 (.tmp 2),none⟩,⟨none,.mv (.var 4),none⟩,⟨none,.indexSl 1 (.tmp 0) (.tmp 3),none⟩,⟨none,.store 1 (.tmp 5) (.tmp 4),none⟩,⟨some 2,.mv (.cst (.bool true)),none⟩]
theorem Cs:nV=.seq (.region [⟨some 8,.bin .lss (.var 7) (.var 6),none⟩]) (.seq (.cond (.var 8) .skip (.exit 0)) (.seq (.seq (.block 1 (.seq LJ (.seq LI (.seq LH (.cond (.var 9) LG .skip))))) (.kill [0,3,4,8,9])) (.region [⟨none,.bin .add (.var 7) (.cst (.int .i64 1)),none⟩,⟨some 7,.mv (.tmp 0),none⟩]))):=rfl
theorem r37a (E:Env) (fuel:Nat) (K:List KC) (A:aa) (X:MC) {p:Int} {l:List a8} {i:Nat} (hi:i<l.length) (v1 v2 v6 v8:AV) :
  run E fuel (.code (.seq LJ X) :: K) [.undef,v1,v2,.undef,.undef,slA 6 (wAs p (num l)),v6,.int .i64 (i:Int),v8,.undef] A =
   run E fuel (.code X :: K) [.undef,v1,v2,.ptr A.length 0 0,.undef,slA 6 (wAs p (num l)),v6,.int .i64 (i:Int),v8,.undef] (A++[.row 6 false [wA p (l[i],i)]]):=by
 have x1:=q9 p hi A .i64
 obtain ⟨W,hW⟩:∃W,W=slA 6 (wAs p (num l)):=⟨_,rfl⟩
 rw [<-hW] at x1 ⊢
 simp [LJ,x1,wA,-ai]
def Cq (A0:aa) (id:Nat) (s:List Int) (A:aa):Prop:=A[id]?=some (.row 1 false (ak s))/\A0.length<=A.length/\∀j,j≠id->j<A0.length->A[j]?=A0[j]?
theorem xK (s:List Int) (i:Nat) (z:Int):(ak s).set i (.int .i64 z)=ak (s.set i z):=by
 unfold ak; rw [List.map_set]
theorem Dz (E:Env) (fuel:Nat) {A0 A:aa} {id n:Nat} {s:List Int} {p:Int} {l:List a8} (hn:s.length=n) (hp:cw p) (hv:∀x∈l,okA n x) (hn32:n<=32) (hl200:l.length<=200) {i:Nat} (hi:i<l.length) {b:Bool} (hb:Bd (-100000000000000) 100000000000000 s) (_hid:id<A0.length) (hI:Cq A0 id s A) :
  ∃A',run E fuel [.code nV] (nm (.sl id 0 n) (.bool b) (slA 6 (wAs p (num l))) (.int .i64 (l.length:Int)) (.int .i64 (i:Int))) A=some (.normal (nm (.sl id 0 n) (.bool (b || decide (s.getD l[i].f.toNat 0+l[i].len p > s.getD l[i].t.toNat 0))) (slA 6 (wAs p (num l))) (.int .i64 (l.length:Int)) (.int .i64 ((i+1:Nat):Int))) A')/\Cq A0 id (oL s (l[i].f.toNat,l[i].t.toNat,l[i].len p)) A':=by
 obtain ⟨g1,g2,g3⟩:=hI
 have hmem:=hv _ (List.getElem_mem hi)
 obtain ⟨f,hf,hfn⟩:=nR hmem.1
 obtain ⟨t,ht,htn⟩:=nR hmem.2.1
 have hv32:okA 32 l[i]:=by
  obtain ⟨h1,h2,h3,h4⟩:=hmem
  exact ⟨by omega,by omega,h3,h4⟩
 obtain ⟨k1,k2,_,_⟩:=gK hv32 hp
 obtain ⟨w,hw⟩:∃w,w=l[i].len p:=⟨_,rfl⟩
 obtain ⟨B,hB⟩:∃B,B=A++[.row 6 false [wA p (l[i],i)]]:=⟨_,rfl⟩
 have r1:=fun K X=>r37a E fuel K A X (p:=p) hi (.sl id 0 n) (.bool b) (.int .i64 (l.length:Int)) (.bool true)
 rw [<-hB] at r1
 have hidA:id<A.length:=(List.getElem?_eq_some_iff.1 g1).1
 have c1:B[id]?=some (.row 1 false (ak s)):=by rw [hB,List.getElem?_append_left hidA]; exact g1
 have c8:B[A.length]?=some (.row 6 false [.agg [.int .i64 (f:Int),.int .i64 (t:Int),.int .i64 l[i].w,.int .i64 l[i].k,.int .i64 (i:Int),.int .i64 w]]):=by
  rw [hB,hw]; simp [wA,hf,ht]
 obtain ⟨i8,hi8⟩:∃i8,i8=A.length:=⟨_,rfl⟩
 rw [<-hi8] at r1 c8
 have hBl:A0.length<=B.length:=by rw [hB]; simp; omega
 have hBo:∀j,j≠id->j<A0.length->B[j]?=A0[j]?:=fun j hj hl=>by rw [hB,List.getElem?_append_left (by omega)]; exact g3 j hj hl
 have ef:=rQ (s:=s) (i:=f) (by omega)
 have et:=rQ (s:=s) (i:=t) (by omega)
 have bf:=hb f (by omega)
 have bt:=hb t (by omega)
 rw [<-hw] at k1 k2
 have e1:l[i].f.toNat=f:=by omega
 have e2:l[i].t.toNat=t:=by omega
 rw [e1,e2,<-hw]
 obtain ⟨x,hx⟩:∃x,x=s.getD f 0:=⟨_,rfl⟩
 obtain ⟨y,hy⟩:∃y,y=s.getD t 0:=⟨_,rfl⟩
 rw [<-hx] at ef bf ⊢
 rw [<-hy] at et bt ⊢
 have b2:ag .add (.int .i64 x) (.int .i64 w)=some (.int .i64 (x+w)):=by
  simp only [ag]; rw [if_pos trivial,dV (by unfold inI; omega)]
 have b4:ag .gtr (.int .i64 (x+w)) (.int .i64 y)=some (.bool (decide (x+w > y))):=by simp [ag]
 have b1:=bu i l.length .i64
 rw [decide_eq_true hi] at b1
 have b3:=bc i (by omega)
 obtain ⟨i1,hi1⟩:∃i1:Nat,i1=i+1:=⟨_,rfl⟩
 rw [<-hi1] at b3 ⊢
 have er:oL s (f,t,w)=if x+w > y then s.set t (x+w) else s:=by unfold oL; rw [hx,hy]
 rw [er]
 obtain ⟨z,hz⟩:∃z,z=x+w:=⟨_,rfl⟩
 rw [<-hz] at b2 b4 ⊢
 obtain ⟨W,hW⟩:∃W,W=slA 6 (wAs p (num l)):=⟨_,rfl⟩
 rw [<-hW] at r1 ⊢
 have hfn':f<n:=by omega
 have htn':t<n:=by omega
 by_cases hc:z > y
 ·rw [if_pos hc]
  rw [decide_eq_true hc] at b4 ⊢
  refine ⟨B.set id (.row 1 false (ak (s.set t z))),?_,?_,?_,?_⟩
  ·rw [<-xK]
   rw [Cs]
   simp [b1,b3,r1,LI,LH,LG,c1,c8,ef,et,b2,b4,hfn',htn',-ag]
  ·exact List.getElem?_set_self (by rw [hB]; simp; omega)
  ·simp; omega
  ·intro j hj hl
   rw [List.getElem?_set_ne (Ne.symm hj)]; exact hBo j hj hl
 ·rw [if_neg hc]
  rw [decide_eq_false hc] at b4 ⊢
  refine ⟨B,?_,c1,hBl,hBo⟩
  rw [Cs]
  simp [b1,b3,r1,LI,LH,LG,c1,c8,ef,et,b2,b4,hfn',htn',-ag]
theorem ev37 {E:Env} {A:aa} {id n:Nat} {s:List Int} {p:Int} {l:List a8} (hn:s.length=n) (hp:cw p) (hv:∀x∈l,okA n x) (hn32:n<=32) (hl200:l.length<=200) {hi:Int} (hb:Bd (-1000000000000) hi s) (hhi:hi<=1000000000000) (hid:A[id]?=some (.row 1 false (ak s))) :
  ∃A',bM E 300 xz [cQ n p l,.sl id 0 n] A=some (.bool (upL (lar p l) s),A')/\Cq A id (jB (lar p l) s) A':=by
 have hlt:=(List.getElem?_eq_some_iff.1 hid).1
 have hlen:(lar p l).length=l.length:=by simp [lar]
 have bd:∀i,i<=l.length->Bd (-1000000000000) (hi+3000000*i) (jB ((lar p l).take i) s):=by
  intro i
  induction i with
  | zero=>intro _; simpa [jB] using hb
  | succ i ih=>
   intro hi'
   have h1:=ih (by omega)
   have h2:=xH (p:=p) (l:=l) (i:=i) (by omega)
   rw [nJ h2]
   have hmem:=hv _ (List.getElem_mem (show i<l.length by omega))
   obtain ⟨q1,q2,q3,q4⟩:=hmem
   have hle:=gK (n:=32) (a:=l[i]) ⟨by omega,by omega,q3,q4⟩ hp
   have:=xj (a:=(l[i].f.toNat,l[i].t.toNat,l[i].len p)) h1 (by rw [ew]; simp only; omega) (by rw [ew]; simp only; omega) (by simp only; omega)
   intro v hv'
   have:=this v hv'
   omega
 obtain ⟨o,h1,A',h2,h3⟩:=f8 (E:=E) (fuel:=300) (a:=nV) (mask:=mQ) (fun k σ B=>∃i,i+k=l.length/\σ=nm (.sl id 0 n) (.bool (upL ((lar p l).take i) s)) (slA 6 (wAs p (num l))) (.int .i64 (l.length:Int)) (.int .i64 (i:Int))/\Cq A id (jB ((lar p l).take i) s) B)
  (fun o=>∃A',Cq A id (jB (lar p l) s) A'/\o=.exit 0 ((nm (.sl id 0 n) (.bool (upL (lar p l) s)) (slA 6 (wAs p (num l))) (.int .i64 (l.length:Int)) (.int .i64 (l.length:Int))).set 8 (.bool false)) A')
  (by
   rintro k σ B ⟨i,hik,rfl,hI⟩
   rw [Ck]
   by_cases hi':i<l.length
   ·have hb':=bd i (by omega)
    have h2:=xH (p:=p) hi'
    obtain ⟨B',h1,h3⟩:=Dz E 300 (s:=jB ((lar p l).take i) s) (n:=n) (b:=upL ((lar p l).take i) s) (by rw [ew,hn]) hp hv hn32 hl200 hi' (fun v hv'=>by have:=hb' v hv'; omega) hlt hI
    refine .inl ⟨_,_,h1,k-1,by omega,i+1,by omega,?_,?_⟩
    ·rw [ui h2]
    ·rw [nJ h2]; exact h3
   ·obtain rfl:i=l.length:=by omega
    rw [List.take_of_length_le (by omega)] at hI ⊢
    refine .inr ⟨_,?_,?_,B,hI,rfl⟩
    ·simp [nV]
    ·intro _ _ h; cases h)
  300 l.length (nm (.sl id 0 n) (.bool false) (slA 6 (wAs p (num l))) (.int .i64 (l.length:Int)) (.int .i64 0)) A (by omega) ⟨0,by omega,by simp [upL],by simpa [jB] using ⟨hid,Nat.le_refl _,fun _ _ _=>rfl⟩⟩
 refine ⟨A',?_,h2⟩
 subst h3
 rw [aZ _ _ rfl]
 have hlen2:aq (slA 6 (wAs p (num l)))=some (.int .i64 (l.length:Int)):=by rw [qC,qn]
 unfold cQ
 obtain ⟨W,hW⟩:∃W,W=slA 6 (wAs p (num l)):=⟨_,rfl⟩
 rw [<-hW] at h1 hlen2 ⊢
 simp [xz,hlen2,Gg h1,dB,-aq]
theorem Bl:aj Try.prog GC 90 (fun _=>bM (ax GC []) 300 xz):=(bJ (au aA) rfl at37 G2 bj.nil).y
open Go
theorem aB (xs:List Int):(ak xs).length=xs.length:=by simp [ak]
theorem In (E:Env) (fuel:Nat) {A:aa} {a:AV} {xs:List Int} (h:cG A 1 a (ak xs)) (hne:xs≠[]) (hl:xs.length<=1000):bM E fuel tE [a] A=some (.sl (A.length+1) 0 xs.length,A++[.dead,.row 1 false (ak xs)]):=by
 have hne':ak xs≠[]:=by simpa [ak] using hne
 have hlen:(ak xs).length=xs.length:=by simp [ak]
 rw [aZ _ _ rfl]
 obtain ⟨es,hes⟩:∃es,es=ak xs:=⟨_,rfl⟩
 rw [<-hes] at h hne' hlen ⊢
 rw [<-hlen] at hl ⊢
 have hb:es.length*8<=140737488355328:=by omega
 rcases h with h | ⟨id,off,gr,rs,rfl,h1,h2⟩
 ·rcases h with ⟨_,h⟩ | rfl
  ·exact absurd h hne'
  ·simp [tE,dB,aM,aS,hb]
 ·have hid:=(List.getElem?_eq_some_iff.1 h1).1
  have h1':∀T,(A++T)[id]?=some (.row 1 gr rs):=fun T=>by rw [List.getElem?_append_left hid,h1]
  simp [tE,dB,aM,aS,h1',h2,hb]
theorem lE:aj Try.prog GC 40 (fun _=>bM (ax GC []) 0 tE):=(bJ (au aA) rfl Lh yu bj.nil).y
def vZ:List (FuncId × aG):=[(90,fun _=>bM (ax GC []) 300 xz),(40,fun _=>bM (ax GC []) 0 tE)]
@[simp] theorem JU:aC vZ 90=some (fun _=>bM (ax GC []) 300 xz):=rfl
@[simp] theorem JT:aC vZ 40=some (fun _=>bM (ax GC []) 0 tE):=rfl
theorem sZ:∀f M,aC vZ f=some M->aj Try.prog GC f M:=ae Bl (ae lE aA)
def M26:aO:=fun args=>evF (ax GC vZ) 300 rF 5 args
theorem wZ:bT Try.prog GC 74 M26:=bT.of_ev (E:=ax GC vZ) (au sZ) rfl Hk si 5 fun _ _ h=>⟨300,h⟩
theorem DE {n:Nat} {p:Int} {l:List a8} (hp:cw p) (hv:∀x∈l,okA n x) (hn32:n<=32) (hl200:l.length<=200) {lo hi:Int} {s:List Int} (hs:s.length=n) (hb:Bd lo hi s):Bd lo (hi+600000000) (jB (lar p l) s):=by
 have hlen:(lar p l).length=l.length:=by simp [lar]
 have bd:∀i,i<=l.length->Bd lo (hi+3000000*i) (jB ((lar p l).take i) s):=by
  intro i
  induction i with
  | zero=>intro _; simpa [jB] using hb
  | succ i ih=>
   intro hi'
   have h1:=ih (by omega)
   have h2:=xH (p:=p) (l:=l) (i:=i) (by omega)
   rw [nJ h2]
   have hmem:=hv _ (List.getElem_mem (show i<l.length by omega))
   obtain ⟨q1,q2,q3,q4⟩:=hmem
   have hle:=gK (n:=32) (a:=l[i]) ⟨by omega,by omega,q3,q4⟩ hp
   have:=xj (a:=(l[i].f.toNat,l[i].t.toNat,l[i].len p)) h1 (by rw [ew]; simp only; omega) (by rw [ew]; simp only; omega) (by simp only; omega)
   intro v hv'
   have:=this v hv'
   omega
 have:=bd l.length (Nat.le_refl _)
 rw [List.take_of_length_le (by omega)] at this
 intro v hv'
 have:=this v hv'
 omega
theorem yW {A:aa} {id n:Nat} {s:List Int} {p:Int} {l:List a8} (hn:s.length=n) (hp:cw p) (hv:∀x∈l,okA n x) (hn32:n<=32) (hl200:l.length<=200) {hi:Int} (hb:Bd (-1000000000000) hi s) (hhi:hi<=1000000000000) (hid:A[id]?=some (.row 1 false (ak s))) :
  ∃A',bM (ax GC []) 300 xz [cQ n p l,.sl id 0 n] A=some (.bool (upL (lar p l) s),A')/\Cq A id (jB (lar p l) s) A':=ev37 hn hp hv hn32 hl200 hb hhi hid
def eU (L:List dc):Nat->List Int->List Int
 | 0,s=>s
 | k+1,s=>jB L (eU L k s)
theorem dS (L:List dc) (s:List Int):∀k,(eU L k s).length=s.length
 | 0=>rfl
 | k+1=>by rw [eU,ew,dS L s k]
theorem xh {L:List dc} {s:List Int} (h:upL L s=false):∀k,eU L k s=s
 | 0=>rfl
 | k+1=>by rw [eU,xh h k,(fG h).1]
theorem jJ (L:List dc) (s:List Int):∀k,eU L (k+1) s=eU L k (jB L s)
 | 0=>rfl
 | k+1=>by rw [eU,jJ L s k]; rfl
theorem BA (L:List dc):∀(m:Nat) (s:List Int),lev L m s=if _h:∃k,k<m/\upL L (eU L k s)=false then (eU L m s,true) else (eU L m s,!upL L (eU L m s))
 | 0,s=>by
  rw [dif_neg (by rintro ⟨k,h,_⟩; omega)]; rfl
 | m+1,s=>by
  unfold lev
  by_cases h:upL L s=false
  ·rw [if_pos h,dif_pos ⟨0,by omega,h⟩,xh h]
  ·rw [if_neg h,BA L m,jJ]
   by_cases h2:∃k,k<m/\upL L (eU L k (jB L s))=false
   ·rw [dif_pos h2]
    obtain ⟨k,hk,h3⟩:=h2
    rw [dif_pos ⟨k+1,by omega,by rw [jJ]; exact h3⟩]
   ·rw [dif_neg h2,dif_neg]
    rintro ⟨k,hk,h3⟩
    cases k with
    | zero=>exact h h3
    | succ k=>exact h2 ⟨k,by omega,by rw [jJ] at h3; exact h3⟩
theorem qh {n:Nat} {p:Int} {l:List a8} (hr:cg n l p):M26 [cQ n p l]=some (.tup [slA 1 (ak (bQ (lar p l) n).1),.bool (bQ (lar p l) n).2]):=by
 obtain ⟨⟨hn,hl200,hv⟩,hp⟩:=hr
 have hn32:n<=32:=by omega
 obtain ⟨L,hL⟩:∃L,L=lar p l:=⟨_,rfl⟩
 obtain ⟨z,hz⟩:∃z,z=List.replicate n (0:Int):=⟨_,rfl⟩
 have hzl:z.length=n:=by rw [hz]; simp
 have hbd:∀k:Nat,Bd (-1000000000000) (600000000*k) (eU L k z):=by
  intro k
  induction k with
  | zero=>
   intro v hv'
   have:(eU L 0 z).getD v 0=0:=by rw [eU,hz]; exact jD n v
   rw [this]; omega
  | succ k ih=>
   rw [eU]
   have:=DE hp hv hn32 hl200 (by rw [dS]; exact hzl) ih
   rw [<-hL] at this
   intro v hv'
   have:=this v hv'
   omega
 have h37:∀(A:aa) (k:Nat),k<=33->A[0]?=some (.row 1 false (ak (eU L k z)))->∃A',bM (ax GC []) 300 xz [cQ n p l,.sl 0 0 n] A=some (.bool (upL L (eU L k z)),A')/\Cq A 0 (eU L (k+1) z) A':=fun A k hk hA=>by
  have:=yW (s:=eU L k z) (by rw [dS]; exact hzl) hp hv hn32 hl200 (hbd k) (by omega) hA
  rw [<-hL] at this
  exact this
 obtain ⟨W1,O,hW⟩:∃W1 O,cQ n p l=.fp [.int .i64 (n:Int),W1,O]:=⟨_,_,rfl⟩
 obtain ⟨o,h1,h2⟩:=f8 (E:=ax GC vZ) (fuel:=300) (a:=nW) (mask:=mS) (fun k σ A=>∃i,i+k=n/\σ=pt (cQ n p l) (.sl 0 0 n) (.int .i64 (n:Int)) (.int .i64 (i:Int))/\A[0]?=some (.row 1 false (ak (eU L i z)))/\∀j,j<i->upL L (eU L j z)=true)
  (fun o=>(∃A' i d6 d7 ,i<n/\upL L (eU L i z)=false/\(∀j,j<i->upL L (eU L j z)=true)/\A'[0]?=some (.row 1 false (ak (eU L (i+1) z)))/\o=.ret [cQ n p l,.sl 0 0 n,.bool true,.sl 0 0 n,.int .i64 (n:Int),.int .i64 (i:Int),d6,d7] A') \/
   (∃A',(∀j,j<n->upL L (eU L j z)=true)/\A'[0]?=some (.row 1 false (ak (eU L n z)))/\o=.exit 0 ((pt (cQ n p l) (.sl 0 0 n) (.int .i64 (n:Int)) (.int .i64 (n:Int))).set 6 (.bool false)) A'))
  (by
   rintro k σ A ⟨i,hik,rfl,hA,hup⟩
   rw [Cl]
   rw [hW] at h37 ⊢
   by_cases hi':i<n
   ·obtain ⟨A',c1,c2⟩:=h37 A i (by omega) hA
    have b1:=bu i n .i64
    rw [decide_eq_true hi'] at b1
    have b3:=bc i (by omega)
    obtain ⟨i1,hi1⟩:∃i1:Nat,i1=i+1:=⟨_,rfl⟩
    rw [<-hi1] at b3
    cases hu:upL L (eU L i z) with
    | true=>
     rw [hu] at c1
     refine .inl ⟨pt (.fp [.int .i64 (n:Int),W1,O]) (.sl 0 0 n) (.int .i64 (n:Int)) (.int .i64 ((i+1:Nat):Int)),A',?_,k-1,by omega,i+1,by omega,rfl,c2.1,fun j hj=>?_⟩
     ·rw [<-hi1]
      simp [nW,b1,b3,c1,-ag]
     ·by_cases hji:j=i
      ·rw [hji]; exact hu
      ·exact hup j (by omega)
    | false=>
     rw [hu] at c1
     refine .inr ⟨.ret [.fp [.int .i64 (n:Int),W1,O],.sl 0 0 n,.bool true,.sl 0 0 n,.int .i64 (n:Int),.int .i64 (i:Int),.bool true,.bool true] A',?_,(fun _ _ h=>by cases h),.inl ⟨A',i,_,_,hi',hu,hup,c2.1,rfl⟩⟩
     simp [nW,b1,c1,-ag]
   ·obtain rfl:i=n:=by omega
    refine .inr ⟨_,?_,?_,.inr ⟨A,hup,hA,rfl⟩⟩
    ·simp [nW]
    ·intro _ _ h; cases h)
  300 n (pt (cQ n p l) (.sl 0 0 n) (.int .i64 (n:Int)) (.int .i64 0)) [.row 1 false (ak z)] (by omega) ⟨0,by omega,rfl,rfl,fun j hj=>by omega⟩
 have mk:ck 1 8 (.int .i64 0) [] (.int .i64 (n:Int)) (.int .i64 (n:Int))=some (.sl 0 0 n,[.row 1 false (ak z)]):=by
  have:ak z=List.replicate n (.int .i64 0):=by rw [hz]; simp [ak]
  rw [this]; simp [ck]; omega
 have hfz:∀(A:aa) (s:List Int),s.length=n->A[0]?=some (.row 1 false (ak s))->frz A 4 (.sl 0 0 n)=slA 1 (ak s)/\aW A 4 (.sl 0 0 n)=true:=fun A s hs h0=>by
  constructor
  ·show frz A (3+1) _=_
   simp only [frz,h0,List.drop_zero]
   rw [List.take_of_length_le (by simp [ak]; omega),rV]
   cases s with
   | nil=>simp at hs; omega
   | cons x r=>rfl
  ·show aW A (3+1) _=_
   simp only [aW,h0,List.drop_zero]
   rw [List.take_of_length_le (by simp [ak]; omega)]
   exact sE _ _ _
 have hf5:∀(A:aa) (s:List Int) (b:Bool),s.length=n->A[0]?=some (.row 1 false (ak s))->frz A 5 (.tup [.sl 0 0 n,.bool b])=.tup [slA 1 (ak s),.bool b]/\aW A 5 (.tup [.sl 0 0 n,.bool b])=true:=fun A s b hs h0=>by
  obtain ⟨q1,q2⟩:=hfz A s hs h0
  constructor
  ·show AV.tup [frz A 4 (.sl 0 0 n),frz A 4 (.bool b)]=_
   rw [q1]; rfl
  ·show [AV.sl 0 0 n,.bool b].all (aW A 4)=true
   simp only [List.all_cons,q2]; rfl
 have p1:∀b,dB [.sl 0 0 n,.bool b]=.tup [.sl 0 0 n,.bool b]:=fun _=>rfl
 have hlev:bQ (lar p l) n=lev L n z:=by unfold bQ; rw [hL,hz]
 rw [hlev,BA]
 unfold M26
 rw [fA _ _ rfl]
 rcases h2 with ⟨A',i,d6,d7,hin,hu,hup,hA',rfl⟩ | ⟨A',hup,hA',rfl⟩
 ·rw [dif_pos ⟨i,hin,hu⟩]
  have hst:eU L n z=eU L (i+1) z:=by
   have e:∀k,eU L (i+k) z=eU L i z:=fun k=>by
    induction k with
    | zero=>rfl
    | succ k ih=>rw [show i+(k+1)=(i+k)+1 by omega,eU,ih,(fG hu).1]
   have h3:=e (n-i)
   have h4:=e 1
   rw [show i+(n-i)=n by omega] at h3
   rw [h3,h4]
  rw [hst]
  obtain ⟨q1,q2⟩:=hf5 A' _ true (by rw [dS]; exact hzl) hA'
  rw [hW] at h1 ⊢
  simp [rF,mk,BP h1,q1,q2,-frz,-ck]
 ·rw [dif_neg (by
   rintro ⟨k,hk,h⟩
   rw [hup k hk] at h; cases h)]
  obtain ⟨A2,c1,c2⟩:∃A2,bM (ax GC []) 300 xz [cQ n p l,.sl (A'.length+1) 0 n] (A'++[.dead,.row 1 false (ak (eU L n z))])=some (.bool (upL L (eU L n z)),A2)/\Cq (A'++[.dead,.row 1 false (ak (eU L n z))]) (A'.length+1) (eU L (n+1) z) A2:=by
   have:=yW (A:=A'++[.dead,.row 1 false (ak (eU L n z))]) (id:=A'.length+1) (s:=eU L n z) (by rw [dS]; exact hzl) hp hv hn32 hl200 (hbd n) (by omega) (by rw [List.getElem?_append_right (by omega)]; simp)
   rw [<-hL] at this
   exact this
  have hlt:=(List.getElem?_eq_some_iff.1 hA').1
  have h38:=In (ax GC []) 0 (A:=A') (a:=.sl 0 0 n) (xs:=eU L n z) (.inr ⟨0,0,false,ak (eU L n z),by rw [aB,dS,hzl],hA',by rw [List.drop_zero,List.take_length]⟩) (by
   intro h
   have:=congrArg List.length h
   rw [dS,hzl] at this
   simp at this; omega) (by rw [dS,hzl]; omega)
  rw [dS,hzl] at h38
  have hA2:A2[0]?=some (.row 1 false (ak (eU L n z))):=by
   rw [c2.2.2 0 (by omega) (by simp),List.getElem?_append_left hlt,hA']
  obtain ⟨q1,q2⟩:=hf5 A2 _ (!upL L (eU L n z)) (by rw [dS]; exact hzl) hA2
  rw [hW] at h1 c1 ⊢
  simp [rF,mk,BP h1,h38,c1,q1,q2,-frz,-ck]
open Go
abbrev LP:=Int × Bool
def lA (x:LP):AV:=.agg [.int .i64 x.1,.bool x.2]
def eK (x:LP) (n:Int):LP:=if x.2=false/\x.1=0 then x else (x.1+n,x.2)
def jP (x y:LP):LP:=if x.2=false\/(y.2=true/\y.1 > x.1) then y else x
def M51:aO:=fun args=>match args with
 | [.agg [.int .i64 x,.bool b],.int .i64 n]=>if -9223372036854775808<=x+n/\x+n<=9223372036854775807 then some (lA (eK (x,b) n)) else none
 | _=>none
theorem uq:aw Try.prog GC 102 M51:=by
 refine aw.of_ev (E:=ax GC []) (au aA) rfl at51 GY 2 ?_
 intro args r h
 unfold M51 at h
 split at h
 ·rename_i x b n
  simp only [Option.ite_none_right_eq_some,Option.some.injEq] at h
  obtain ⟨h1,rfl⟩:=h
  refine ⟨0,?_⟩
  have b1:ag .add (.int .i64 x) (.int .i64 n)=some (.int .i64 (x+n)):=by
   simp only [ag]; rw [if_pos trivial,dV h1]
  obtain ⟨z,hz⟩:∃z,z=x+n:=⟨_,rfl⟩
  rw [<-hz] at b1
  rw [aJ _ _ rfl]
  unfold eK lA
  simp only [<-hz]
  cases b with
  | true=>simp [H8,b1,-ag]
  | false=>
   by_cases hx:x=0
   ·subst hx
    simp [H8,-ag]
   ·simp [H8,b1,hx,-ag]
 ·cases h
def M52:aO:=fun args=>match args with
 | [.agg [.int .i64 x,.bool b],.agg [.int .i64 y,.bool c]]=>some (lA (jP (x,b) (y,c)))
 | _=>none
theorem wQ:aw Try.prog GC 104 M52:=by
 refine aw.of_ev (E:=ax GC []) (au aA) rfl La yk 2 ?_
 intro args r h
 unfold M52 at h
 split at h
 ·rename_i x b y c
  injection h with h; subst h
  refine ⟨0,?_⟩
  have b1:ag .gtr (.int .i64 y) (.int .i64 x)=some (.bool (decide (y > x))):=by simp [ag]
  rw [aJ _ _ rfl]
  unfold jP lA
  cases b with
  | false=>simp [Ao,-ag]
  | true=>
   cases c with
   | false=>simp [Ao,-ag]
   | true=>
    by_cases hxy:y > x
    ·rw [decide_eq_true hxy] at b1
     simp [Ao,b1,hxy,-ag]
    ·rw [decide_eq_false hxy] at b1
     simp [Ao,b1,hxy,-ag]
 ·cases h
open Go
def noL:LP:=(0,false)
def hst (h:List LP) (next:List LP) (a:dc):List LP:=next.set a.1 (jP (next.getD a.1 noL) (eK (h.getD a.2.1 noL) a.2.2))
def j9 (L:List dc) (h:List LP) (n:Nat):List LP:=L.foldl (hst h) (List.replicate n noL)
def hm (L:List dc) (n to:Nat):Nat->List LP
 | 0=>(List.replicate n noL).set to (0,true)
 | j+1=>j9 L (hm L n to j) n
def wz (L:List dc) (n to k:Nat):List AV:=(List.range (k+1)).map fun j=>.fs 2 ((hm L n to j).map lA)
theorem tN (h next:List LP) (a:dc):(hst h next a).length=next.length:=by simp [hst]
theorem gb (h:List LP):∀(L:List dc) (next:List LP),(L.foldl (hst h) next).length=next.length
 | [],_=>rfl
 | a :: L,next=>by rw [List.foldl_cons,gb h L,tN]
theorem uR (L:List dc) (n to:Nat):∀j,(hm L n to j).length=n
 | 0=>by simp [hm]
 | j+1=>by simp [hm,j9,gb]
def PB (B:Int) (h:List LP):Prop:=∀v,-B<=(h.getD v noL).1/\(h.getD v noL).1<=B
theorem kc {α:Type} (s:List α) (i j:Nat) (x d:α) (hi:i<s.length):(s.set i x).getD j d=if i=j then x else s.getD j d:=by
 rw [List.getD_eq_getElem?_getD,List.getD_eq_getElem?_getD]
 by_cases h:i=j
 ·subst h
  rw [List.getElem?_set_self hi,if_pos rfl]; rfl
 ·rw [List.getElem?_set_ne h,if_neg h]
theorem DO {B:Int} {x y:LP} (h1 : -B<=x.1/\x.1<=B) (h2 : -B<=y.1/\y.1<=B) : -B<=(jP x y).1/\(jP x y).1<=B:=by
 unfold jP; split
 ·exact h2
 ·exact h1
theorem DJ {B w:Int} {x:LP} (h1 : -B<=x.1/\x.1<=B) (h2 : -3000000<=w/\w<=3000000) : -(B+3000000)<=(eK x w).1/\(eK x w).1<=B+3000000:=by
 unfold eK; split
 ·omega
 ·simp only; omega
theorem Gc {B:Int} {h next:List LP} {a:dc} (h1:PB B h) (h2:PB (B+3000000) next) (hw : -3000000<=a.2.2/\a.2.2<=3000000) (hf:a.1<next.length):PB (B+3000000) (hst h next a):=fun v=>by
 unfold hst
 rw [kc _ _ _ _ _ hf]
 split
 ·exact DO (h2 _) (DJ (h1 _) hw)
 ·exact h2 v
theorem xf {B:Int} (hB:0<=B) (n:Nat):PB B (List.replicate n noL):=fun v=>by
 have:(List.replicate n noL).getD v noL=noL:=by
  rw [List.getD_eq_getElem?_getD]
  by_cases h:v<n <;> simp [h]
 rw [this]; simp [noL]; omega
def sM (n:Nat) (L:List dc):Prop:=∀a∈L,a.1<n/\a.2.1<n /\ -3000000<=a.2.2/\a.2.2<=3000000
theorem uN {n:Nat} {p:Int} {l:List a8} (hn:n<=32) (hp:cw p) (hv:∀x∈l,okA n x):sM n (lar p l):=fun a ha=>by
 obtain ⟨x,hx,rfl⟩:=List.mem_map.1 ha
 obtain ⟨q1,q2,q3,q4⟩:=hv x hx
 have hle:=gK (n:=32) (a:=x) ⟨by omega,by omega,q3,q4⟩ hp
 simp only
 omega
theorem uV {n:Nat} {B:Int} {h:List LP} (h1:PB B h):∀ {L:List dc} {next:List LP},sM n L->next.length=n->PB (B+3000000) next->PB (B+3000000) (L.foldl (hst h) next)
 | [],_,_,_,h2=>h2
 | a :: L,next,hL,hn,h2=>by
  rw [List.foldl_cons]
  obtain ⟨q1,q2,q3⟩:=hL a (by simp)
  exact uV h1 (fun b hb=>hL b (by simp [hb])) (by rw [tN,hn]) (Gc h1 h2 q3 (by omega))
theorem Ef {n:Nat} {L:List dc} (hL:sM n L) (to:Nat):∀j:Nat,PB (3000000*j) (hm L n to j)
 | 0=>fun v=>by
  unfold hm
  by_cases h:to<n
  ·rw [kc _ _ _ _ _ (by simpa using h)]
   split
   ·simp
   ·have:=xf (B:=0) (by omega) n v
    omega
  ·rw [List.set_eq_of_length_le (by simp; omega)]
   have:=xf (B:=0) (by omega) n v
   omega
 | j+1=>by
  have h1:=Ef hL to j
  have:=uV h1 hL (next:=List.replicate n noL) (by simp) (xf (by omega) n)
  intro v
  have:=this v
  simp only [hm,j9]
  omega
theorem xI {h:List LP} {i:Nat} (hi:i<h.length):(h.map lA)[i]?=some (.agg [.int .i64 (h.getD i noL).1,.bool (h.getD i noL).2]):=by
 simp [hi,lA]
def Lr:MC:=.region [⟨none,.indexSl 6 (.var 11) (.var 13),none⟩,⟨none,.load true 6 (.tmp 0),none⟩,⟨some 7,.alloc 6 (.agg [.int .i64 0,.int .i64 0,.int .i64 0,.int .i64 0,.int .i64 0,.int .i64 0]),none⟩,⟨none,.store 6 (.var 7) (.tmp 1),none⟩]
def Mw:MC:=.region [⟨none,.mv (.var 6),none⟩,⟨none,.fieldAddr 0 (.var 7),none⟩,⟨none,.fieldAddr 0 (.tmp 1),none⟩,⟨none,.load false 1 (.tmp 2),none⟩,⟨none,.mv (.var 6),none⟩,⟨none,.fieldAddr 0 (.var 7),none⟩,⟨none,.fieldAddr 0 (.tmp 5),none⟩,⟨none,.load false 1 (.tmp 6),none⟩,⟨none,.indexSl 2 (.tmp 4) (.tmp 7),none⟩,⟨none,.load true 2 (.tmp 8),none⟩,⟨none,.mv (.var 5),none⟩,⟨none,.fieldAddr 0 (.var 7),none⟩,⟨none,.fieldAddr 1 (.tmp 11),none⟩,⟨none,.load false 1 (.tmp 12),none⟩,⟨none,.indexSl 2 (.tmp 10) (.tmp 13),none⟩,⟨none,.load true 2 (.tmp 14),none⟩,⟨none,.fieldAddr 5 (.var 7),none⟩,⟨none,.load false 1 (.tmp 16),none⟩,⟨none,.call (.fn 102) [.tmp 15,.tmp 17],none⟩,⟨none,.call (.fn 104) [.tmp 9,.tmp 18],none⟩,⟨none,.indexSl 2 (.tmp 0) (.tmp 3),none⟩,⟨none,.store 2 (.tmp 20) (.tmp 19),none⟩]
theorem Hq:lN=.seq (.region [⟨some 14,.bin .lss (.var 13) (.var 12),none⟩]) (.seq (.cond (.var 14) .skip (.exit 2)) (.seq (.seq (.block 3 (.seq Lr Mw)) (.kill [1,2,3,7,10,14])) (.region [⟨none,.bin .add (.var 13) (.cst (.int .i64 1)),none⟩,⟨some 13,.mv (.tmp 0),none⟩]))):=rfl
def xU:List (FuncId × aG):=[(102,aD 4 M51),(104,aD 4 M52)]
@[simp] theorem Jk:aC xU 102=some (aD 4 M51):=rfl
@[simp] theorem Jj:aC xU 104=some (aD 4 M52):=rfl
theorem C4:∀f M,aC xU f=some M->aj Try.prog GC f M:=ae (aj.of_pure uq 4) (ae (aj.of_pure wQ 4) aA)
theorem r48a (E:Env) (fuel:Nat) (K:List KC) (A:aa) (X:MC) {p:Int} {l:List a8} {i:Nat} (hi:i<l.length) (v0 v4 v5 v6 v8 v9 v12 v14:AV) :
  run E fuel (.code (.seq Lr X) :: K) [v0,.undef,.undef,.undef,v4,v5,v6,.undef,v8,v9,.undef,slA 6 (wAs p (num l)),v12,.int .i64 (i:Int),v14] A =
   run E fuel (.code X :: K) [v0,.undef,.undef,.undef,v4,v5,v6,.ptr A.length 0 0,v8,v9,.undef,slA 6 (wAs p (num l)),v12,.int .i64 (i:Int),v14] (A++[.row 6 false [wA p (l[i],i)]]):=by
 have x1:=q9 p hi A .i64
 obtain ⟨W,hW⟩:∃W,W=slA 6 (wAs p (num l)):=⟨_,rfl⟩
 rw [<-hW] at x1 ⊢
 simp [Lr,x1,wA,-ai]
def HM (A0:aa) (id:Nat) (A:aa):Prop:=A0.length<=A.length/\∀j,j≠id->j<A0.length->A[j]?=A0[j]?
theorem F9 (h:List LP) (i:Nat) (z:LP):(h.map lA).set i (lA z)=(h.set i z).map lA:=by rw [List.map_set]
theorem Dx (fuel:Nat) {A0 A:aa} {n idL idN:Nat} {h nx:List LP} {p:Int} {l:List a8} (hn:h.length=n) (hx:nx.length=n) (hp:cw p) (hv:∀x∈l,okA n x) (hn32:n<=32) (hl200:l.length<=200) {i:Nat} (hi:i<l.length) (hb:PB 1000000000 h) (hLN:idL≠idN) (hid:idN<A0.length) (hidL:idL<A0.length) (hL:A0[idL]?=some (.row 2 false (h.map lA))) (hN:A[idN]?=some (.row 2 false (nx.map lA))) (hK:HM A0 idN A) (v0 v4 v8 v9:AV) :
  ∃A',run (ax GC xU) fuel [.code lN] (lx v0 v4 (.sl idL 0 n) (.sl idN 0 n) v8 v9 (slA 6 (wAs p (num l))) (.int .i64 (l.length:Int)) (.int .i64 (i:Int))) A=some (.normal (lx v0 v4 (.sl idL 0 n) (.sl idN 0 n) v8 v9 (slA 6 (wAs p (num l))) (.int .i64 (l.length:Int)) (.int .i64 ((i+1:Nat):Int))) A') /\
   A'[idN]?=some (.row 2 false ((hst h nx (l[i].f.toNat,l[i].t.toNat,l[i].len p)).map lA))/\HM A0 idN A':=by
 obtain ⟨g2,g3⟩:=hK
 have hmem:=hv _ (List.getElem_mem hi)
 obtain ⟨f,hf,hfn⟩:=nR hmem.1
 obtain ⟨t,ht,htn⟩:=nR hmem.2.1
 have hv32:okA 32 l[i]:=by
  obtain ⟨h1,h2,h3,h4⟩:=hmem
  exact ⟨by omega,by omega,h3,h4⟩
 obtain ⟨k1,k2,_,_⟩:=gK hv32 hp
 obtain ⟨w,hw⟩:∃w,w=l[i].len p:=⟨_,rfl⟩
 obtain ⟨B,hB⟩:∃B,B=A++[.row 6 false [wA p (l[i],i)]]:=⟨_,rfl⟩
 have r1:=fun K X=>r48a (ax GC xU) fuel K A X (p:=p) hi v0 v4 (.sl idL 0 n) (.sl idN 0 n) v8 v9 (.int .i64 (l.length:Int)) (.bool true)
 rw [<-hB] at r1
 have cN:B[idN]?=some (.row 2 false (nx.map lA)):=by rw [hB,List.getElem?_append_left (by omega)]; exact hN
 have cL:B[idL]?=some (.row 2 false (h.map lA)):=by rw [hB,List.getElem?_append_left (by omega),g3 idL hLN hidL]; exact hL
 have c8:B[A.length]?=some (.row 6 false [.agg [.int .i64 (f:Int),.int .i64 (t:Int),.int .i64 l[i].w,.int .i64 l[i].k,.int .i64 (i:Int),.int .i64 w]]):=by
  rw [hB,hw]; simp [wA,hf,ht]
 obtain ⟨i8,hi8⟩:∃i8,i8=A.length:=⟨_,rfl⟩
 rw [<-hi8] at r1 c8
 have hBl:A0.length<=B.length:=by rw [hB]; simp; omega
 have hBo:∀j,j≠idN->j<A0.length->B[j]?=A0[j]?:=fun j hj hl=>by rw [hB,List.getElem?_append_left (by omega)]; exact g3 j hj hl
 rw [<-hw] at k1 k2
 have e1:l[i].f.toNat=f:=by omega
 have e2:l[i].t.toNat=t:=by omega
 rw [e1,e2,<-hw]
 have ef:=xI (h:=nx) (i:=f) (by omega)
 have et:=xI (h:=h) (i:=t) (by omega)
 have bt:=hb t
 unfold hst
 simp only
 obtain ⟨x,hx1⟩:∃x,x=nx.getD f noL:=⟨_,rfl⟩
 obtain ⟨y,hy1⟩:∃y,y=h.getD t noL:=⟨_,rfl⟩
 rw [<-hx1] at ef ⊢
 rw [<-hy1] at et bt ⊢
 have m1:M51 [.agg [.int .i64 y.1,.bool y.2],.int .i64 w]=some (.agg [.int .i64 (eK y w).1,.bool (eK y w).2]):=if_pos (by omega)
 have m2:M52 [.agg [.int .i64 x.1,.bool x.2],.agg [.int .i64 (eK y w).1,.bool (eK y w).2]]=some (.agg [.int .i64 (jP x (eK y w)).1,.bool (jP x (eK y w)).2]):=rfl
 have b1:=bu i l.length .i64
 rw [decide_eq_true hi] at b1
 have b3:=bc i (by omega)
 obtain ⟨i1,hi1⟩:∃i1:Nat,i1=i+1:=⟨_,rfl⟩
 rw [<-hi1] at b3 ⊢
 rw [<-F9]
 obtain ⟨q,hq⟩:∃q,q=eK y w:=⟨_,rfl⟩
 rw [<-hq] at m1 m2 ⊢
 obtain ⟨z,hz⟩:∃z,z=jP x q:=⟨_,rfl⟩
 rw [<-hz] at m2 ⊢
 obtain ⟨q1,q2⟩:=q
 obtain ⟨z1,z2⟩:=z
 obtain ⟨x1,x2⟩:=x
 obtain ⟨y1,y2⟩:=y
 simp only at m1 m2 ef et
 obtain ⟨W,hW⟩:∃W,W=slA 6 (wAs p (num l)):=⟨_,rfl⟩
 rw [<-hW] at r1 ⊢
 obtain ⟨nxa,hnxa⟩:∃nxa,nxa=nx.map lA:=⟨_,rfl⟩
 obtain ⟨ha,hha⟩:∃ha,ha=h.map lA:=⟨_,rfl⟩
 rw [<-hnxa] at cN ef ⊢
 rw [<-hha] at cL et
 have hfn':f<n:=by omega
 have htn':t<n:=by omega
 refine ⟨B.set idN (.row 2 false (nxa.set f (lA (z1,z2)))),?_,?_,?_,?_⟩
 ·rw [Hq]
  simp [b1,b3,r1,Mw,cN,cL,c8,ef,et,m1,m2,hfn',htn',lA,-ag]
 ·exact List.getElem?_set_self (by omega)
 ·simp; omega
 ·intro j hj hl
  rw [List.getElem?_set_ne (Ne.symm hj)]; exact hBo j hj hl
theorem FX (fuel:Nat) {A:aa} {n idL idN:Nat} {h:List LP} {p:Int} {l:List a8} (hn:h.length=n) (hp:cw p) (hv:∀x∈l,okA n x) (hn32:n<=32) (hl200:l.length<=200) (hf:200<fuel) (hb:PB 1000000000 h) (hLN:idL≠idN) (hL:A[idL]?=some (.row 2 false (h.map lA))) (hN:A[idN]?=some (.row 2 false ((List.replicate n noL).map lA))) (v0 v4 v8 v9:AV) :
  ∃A',cc (evC (ax GC xU) fuel lN) jR fuel (lx v0 v4 (.sl idL 0 n) (.sl idN 0 n) v8 v9 (slA 6 (wAs p (num l))) (.int .i64 (l.length:Int)) (.int .i64 0)) A=some (.exit 2 ((lx v0 v4 (.sl idL 0 n) (.sl idN 0 n) v8 v9 (slA 6 (wAs p (num l))) (.int .i64 (l.length:Int)) (.int .i64 (l.length:Int))).set 14 (.bool false)) A') /\
   A'[idN]?=some (.row 2 false ((j9 (lar p l) h n).map lA))/\HM A idN A':=by
 have hidN:=(List.getElem?_eq_some_iff.1 hN).1
 have hidL:=(List.getElem?_eq_some_iff.1 hL).1
 have hlen:(lar p l).length=l.length:=by simp [lar]
 obtain ⟨o,h1,A',h2,h3,h4⟩:=f8 (E:=ax GC xU) (fuel:=fuel) (a:=lN) (mask:=jR) (fun k σ B=>∃i,i+k=l.length/\σ=lx v0 v4 (.sl idL 0 n) (.sl idN 0 n) v8 v9 (slA 6 (wAs p (num l))) (.int .i64 (l.length:Int)) (.int .i64 (i:Int))/\B[idN]?=some (.row 2 false ((((lar p l).take i).foldl (hst h) (List.replicate n noL)).map lA))/\HM A idN B)
  (fun o=>∃A',A'[idN]?=some (.row 2 false ((j9 (lar p l) h n).map lA))/\HM A idN A'/\o=.exit 2 ((lx v0 v4 (.sl idL 0 n) (.sl idN 0 n) v8 v9 (slA 6 (wAs p (num l))) (.int .i64 (l.length:Int)) (.int .i64 (l.length:Int))).set 14 (.bool false)) A')
  (by
   rintro k σ B ⟨i,hik,rfl,hN',hK⟩
   rw [Ch]
   by_cases hi':i<l.length
   ·obtain ⟨B',c1,c2,c3⟩:=Dx fuel (n:=n) hn (by rw [gb]; simp) hp hv hn32 hl200 hi' hb hLN hidN hidL hL hN' hK v0 v4 v8 v9
    refine .inl ⟨_,_,c1,k-1,by omega,i+1,by omega,rfl,?_,c3⟩
    rw [c2,List.take_succ_eq_append_getElem (by omega),List.foldl_append]
    simp [lar]
   ·obtain rfl:i=l.length:=by omega
    refine .inr ⟨_,?_,?_,B,?_,hK,rfl⟩
    ·simp [lN]
    ·intro _ _ h; cases h
    ·rw [hN',List.take_of_length_le (by omega)]; rfl)
  fuel l.length _ A (by omega) ⟨0,by omega,rfl,by simpa using hN,Nat.le_refl _,fun _ _ _=>rfl⟩
 exact ⟨A',by rw [<-h4]; exact h1,h2,h3⟩
def EV (L:List dc) (n to i:Nat) (A:aa):Prop:=∃(gr:Bool) (os:List AV),A[1]?=some (.row 1 gr os)/\os.length=i+1/\∀j,j<=i->∃id,os[j]?=some (.sl id 0 n)/\id≠1/\A[id]?=some (.row 2 false ((hm L n to j).map lA))
theorem Af (fuel:Nat) {A:aa} {n to i:Nat} {p:Int} {l:List a8} (h1n:1<=n) (hp:cw p) (hv:∀x∈l,okA n x) (hn32:n<=32) (hl200:l.length<=200) (hf:200<fuel) {k:Nat} (hi:i<k) (hk:k<=32) (hI:EV (lar p l) n to i A) :
  ∃A',run (ax GC xU) fuel [.code nT] (nk (cQ n p l) (.sl 1 0 (i+1)) (.int .i64 (k:Int)) (.int .i64 (i:Int))) A=some (.normal (nk (cQ n p l) (.sl 1 0 (i+1+1)) (.int .i64 (k:Int)) (.int .i64 ((i+1:Nat):Int))) A')/\EV (lar p l) n to (i+1) A':=by
 obtain ⟨gr,os,g1,g2,g3⟩:=hI
 obtain ⟨id,hid,hid1,hrow⟩:=g3 i (Nat.le_refl _)
 have hid2:=(List.getElem?_eq_some_iff.1 hrow).1
 have h1A:=(List.getElem?_eq_some_iff.1 g1).1
 obtain ⟨B,hB⟩:∃B,B=A++[.row 2 false ((List.replicate n noL).map lA)]:=⟨_,rfl⟩
 have hBN:B[A.length]?=some (.row 2 false ((List.replicate n noL).map lA)):=by rw [hB]; simp
 have hBo:∀j,j<A.length->B[j]?=A[j]?:=fun j hj=>by rw [hB,List.getElem?_append_left hj]
 have hBl:B.length=A.length+1:=by rw [hB]; simp
 have hok:=uN hn32 hp hv
 have hpb:=Ef hok to i
 have hpb':PB 1000000000 (hm (lar p l) n to i):=fun v=>by have:=hpb v; omega
 have mk:ck 2 16 (.agg [.int .i64 0,.bool false]) A (.int .i64 (n:Int)) (.int .i64 (n:Int))=some (.sl A.length 0 n,B):=by
  rw [hB]; simp [ck,lA,noL]; omega
 obtain ⟨C,c1,c2,c3⟩:=FX fuel (A:=B) (n:=n) (idL:=id) (idN:=A.length) (uR _ n to i) hp hv hn32 hl200 hf hpb' (by omega) (by rw [hBo id hid2]; exact hrow) hBN (cQ n p l) (.sl 1 0 (i+1)) (.int .i64 (k:Int)) (.int .i64 (i:Int))
 have hC1:C[1]?=some (.row 1 gr os):=by rw [c3.2 1 (by omega) (by omega),hBo 1 h1A]; exact g1
 obtain ⟨nid,hnid⟩:∃nid,nid=A.length:=⟨_,rfl⟩
 have hC1l:=(List.getElem?_eq_some_iff.1 hC1).1
 obtain ⟨D,hD⟩:∃D,D=C++[.row 1 false [.sl A.length 0 n]]:=⟨_,rfl⟩
 have hDo:∀j,j<C.length->D[j]?=C[j]?:=fun j hj=>by rw [hD,List.getElem?_append_left hj]
 have hDl:D.length=C.length+1:=by rw [hD]; simp
 have hDn:D[C.length]?=some (.row 1 false [.sl A.length 0 n]):=by rw [hD]; simp
 have ap:aM 1 24 D (.sl 1 0 (i+1)) (.sl C.length 0 1)=some (.sl 1 0 (i+1+1),D.set 1 (.row 1 true (os++[.sl A.length 0 n]))):=by
  simp [aM,aS,hDn,hDo 1 hC1l,hC1,g2]
  omega
 have b0:ag .sub (.int .i64 ((i+1:Nat):Int)) (.int .i64 1)=some (.int .i64 (i:Int)):=by
  simp only [ag]; rw [if_pos trivial,dV (by unfold inI; omega)]; congr 2; omega
 have b1:=bu i k .i64
 rw [decide_eq_true hi] at b1
 have b3:=bc i (by omega)
 have hlen2:aq (slA 6 (wAs p (num l)))=some (.int .i64 (l.length:Int)):=by rw [qC,qn]
 have hne:¬ 1=A.length:=by omega
 refine ⟨D.set 1 (.row 1 true (os++[.sl A.length 0 n])),?_,true,os++[.sl A.length 0 n],?_,?_,?_⟩
 ·obtain ⟨W1,hW⟩:∃W1,W1=slA 6 (wAs p (num l)):=⟨_,rfl⟩
  obtain ⟨O,hO⟩:∃O,cQ n p l=.fp [.int .i64 (n:Int),W1,O]:=⟨_,by rw [hW]; rfl⟩
  rw [<-hW] at c1 hlen2
  rw [hO] at c1 ⊢
  rw [hD] at ap ⊢
  rw [<-hnid] at c1 ap hne mk ⊢
  obtain ⟨i1,hi1⟩:∃i1:Nat,i1=i+1:=⟨_,rfl⟩
  rw [<-hi1] at b0 b3 c1 ap ⊢
  have hii:i<i1:=by omega
  have hls:aq (.sl 1 0 i1)=some (.int .i64 (i1:Int)):=rfl
  simp [nT,hls,b0,b1,b3,g1,hid,mk,Gf c1,ap,hlen2,hne,hii,hnid.symm,-ag,-ck,-aq]
 ·exact List.getElem?_set_self (by omega)
 ·simp [g2]
 ·intro j hj
  have hcl:=c3.1
  by_cases hji:j=i+1
  ·subst hji
   refine ⟨A.length,by simp [<-g2],by omega,?_⟩
   rw [List.getElem?_set_ne (by omega),hDo _ (by omega)]; exact c2
  ·obtain ⟨jd,q1,q2,q3⟩:=g3 j (by omega)
   have hjd:=(List.getElem?_eq_some_iff.1 q3).1
   refine ⟨jd,by rw [List.getElem?_append_left (by omega)]; exact q1,q2,?_⟩
   rw [List.getElem?_set_ne (Ne.symm q2),hDo jd (by omega),c3.2 jd (by omega) (by omega),hBo jd hjd]; exact q3
def M48:aO:=fun args=>evF (ax GC xU) 300 IS 5 args
theorem CQ:bT Try.prog GC 99 M48:=bT.of_ev (E:=ax GC xU) (au C4) rfl at48 G0 5 fun _ _ h=>⟨300,h⟩
theorem Gv (A:aa) (n:Nat) (h:List LP):(h.map lA).map (frz A (n+1))=h.map lA:=by
 rw [List.map_map]; apply List.map_congr_left; intro x _; cases n <;> rfl
theorem EV.frz {L:List dc} {n to i:Nat} {A:aa} (h:EV L n to i A) (k:Nat):Proofs.Ytkcjhljbgjpklaa.frz A (k+3) (.sl 1 0 (i+1))=.fs 1 (wz L n to i)/\aW A (k+3) (.sl 1 0 (i+1))=true:=by
 obtain ⟨gr,os,g1,g2,g3⟩:=h
 constructor
 ·show Proofs.Ytkcjhljbgjpklaa.frz A (k+2+1) _=_
  simp only [Proofs.Ytkcjhljbgjpklaa.frz,g1,List.drop_zero]
  rw [List.take_of_length_le (by omega)]
  congr 1
  apply List.ext_getElem (by simp [g2,wz])
  intro j h1 h2
  obtain ⟨id,q1,q2,q3⟩:=g3 j (by simp [wz] at h2; omega)
  have e:os[j]'(by simpa using h1)=.sl id 0 n:=by
   rw [List.getElem?_eq_getElem (by simpa using h1)] at q1; exact Option.some.inj q1
  simp only [List.getElem_map,e,wz,List.getElem_range]
  show Proofs.Ytkcjhljbgjpklaa.frz A (k+1+1) _=_
  simp only [Proofs.Ytkcjhljbgjpklaa.frz,q3,List.drop_zero]
  rw [List.take_of_length_le (by simp [uR]),Gv]
 ·show aW A (k+2+1) _=_
  simp only [aW,g1,List.drop_zero]
  rw [List.take_of_length_le (by omega),List.all_eq_true]
  intro x hx
  obtain ⟨j,hj,rfl⟩:=List.mem_iff_getElem.1 hx
  obtain ⟨id,q1,q2,q3⟩:=g3 j (by omega)
  have e:os[j]=.sl id 0 n:=by
   rw [List.getElem?_eq_getElem hj] at q1; exact Option.some.inj q1
  rw [e]
  show aW A (k+1+1) _=_
  simp only [aW,q3,List.drop_zero]
  rw [List.take_of_length_le (by simp [uR]),List.all_eq_true]
  intro y hy
  obtain ⟨z,_,rfl⟩:=List.mem_map.1 hy
  cases k <;> simp [lA,aW]
theorem HI {n to:Nat} {p:Int} {l:List a8} (hr:cg n l p) (hto:to<n) {k:Nat} (hk:k<=32):M48 [cQ n p l,.int .i64 (to:Int),.int .i64 (k:Int)]=some (.fs 1 (wz (lar p l) n to k)):=by
 obtain ⟨⟨hn,hl200,hv⟩,hp⟩:=hr
 have hn32:n<=32:=by omega
 obtain ⟨z,hz⟩:∃z,z=(List.replicate n noL).map lA:=⟨_,rfl⟩
 have mk:ck 2 16 (.agg [.int .i64 0,.bool false]) [] (.int .i64 (n:Int)) (.int .i64 (n:Int))=some (.sl 0 0 n,[.row 2 false z]):=by
  rw [hz]; simp [ck,lA,noL]; omega
 have hz2:z.set to (.agg [.int .i64 0,.bool true])=(hm (lar p l) n to 0).map lA:=by
  rw [hz]; unfold hm; rw [List.map_set]; rfl
 have hzl:z.length=n:=by rw [hz]; simp
 have hz3:z[to]?=some (.agg [.int .i64 0,.bool false]):=by
  rw [hz]; simp [hto,lA,noL]
 obtain ⟨o,h1,A',h2,rfl⟩:=f8 (E:=ax GC xU) (fuel:=300) (a:=nT) (mask:=mO) (fun m σ A=>∃i,i+m=k/\σ=nk (cQ n p l) (.sl 1 0 (i+1)) (.int .i64 (k:Int)) (.int .i64 (i:Int))/\EV (lar p l) n to i A)
  (fun o=>∃A',EV (lar p l) n to k A'/\o=.exit 0 ((nk (cQ n p l) (.sl 1 0 (k+1)) (.int .i64 (k:Int)) (.int .i64 (k:Int))).set 10 (.bool false)) A')
  (by
   rintro m σ A ⟨i,him,rfl,hI⟩
   rw [Cg]
   by_cases hi':i<k
   ·obtain ⟨A',c1,c2⟩:=Af 300 (by omega) hp hv hn32 hl200 (by omega) hi' hk hI
    exact .inl ⟨_,_,c1,m-1,by omega,i+1,by omega,rfl,c2⟩
   ·obtain rfl:i=k:=by omega
    refine .inr ⟨_,?_,?_,A,hI,rfl⟩
    ·simp [nT]
    ·intro _ _ h; cases h)
  300 k (nk (cQ n p l) (.sl 1 0 1) (.int .i64 (k:Int)) (.int .i64 0)) [.row 2 false ((hm (lar p l) n to 0).map lA),.row 1 false [.sl 0 0 n]] (by omega) ⟨0,by omega,rfl,false,[.sl 0 0 n],rfl,rfl,fun j hj=>by
   obtain rfl:j=0:=by omega
   exact ⟨0,rfl,by omega,rfl⟩⟩
 obtain ⟨q1,q2⟩:=h2.frz 2
 unfold M48
 rw [fA _ _ rfl]
 rw [<-hz2] at h1
 have p1:dB [.sl 1 0 (k+1)]=.sl 1 0 (k+1):=rfl
 obtain ⟨W1,O,hO⟩:∃W1 O,cQ n p l=.fp [.int .i64 (n:Int),W1,O]:=⟨_,_,rfl⟩
 rw [hO] at h1 ⊢
 simp [IS,mk,hz3,hto,Ge h1,q1,q2,-frz,-ck]
open Go
def kO (h:List LP) (p sum:Int) (x:eJ):Bool:=(eK (h.getD x.1.t.toNat noL) (sum+x.1.len p)).2 && decide ((eK (h.getD x.1.t.toNat noL) (sum+x.1.len p)).1 > 0)
def Id:List (FuncId × aG):=[(102,aD 4 M51)]
@[simp] theorem Jh:aC Id 102=some (aD 4 M51):=rfl
theorem C2:∀f M,aC Id f=some M->aj Try.prog GC f M:=ae (aj.of_pure uq 4) aA
def M50:aO:=fun args=>evP (ax GC Id) 0 DP 1 args
theorem wR:aw Try.prog GC 101 M50:=aw.of_ev (E:=ax GC Id) (au C2) rfl Lb yl 1 fun _ _ h=>⟨0,h⟩
def wy (hs:List (List LP)):AV:=.fs 1 (hs.map fun h=>.fs 2 (h.map lA))
def Gw (hs:List (List LP)) (left sum:Int):AV:=.func (.func 101) [] [.fp [wy hs],.fp [.int .i64 left],.fp [.int .i64 sum]]
theorem HG {hs:List (List LP)} {left t:Nat} {h:List LP} {p sum:Int} {x:eJ} (hh:hs[left]?=some h) (ht:x.1.t=(t:Int)) (hth:t<h.length) (hpb:PB 1000000000 h) (hs1 : -1000000000<=sum/\sum<=1000000000) (hw : -3000000<=x.1.len p/\x.1.len p<=3000000) :
  M50 [wA p x,.fp [wy hs],.fp [.int .i64 left],.fp [.int .i64 sum]]=some (.bool (kO h p sum x)):=by
 unfold kO
 have e1:x.1.t.toNat=t:=by omega
 rw [e1]
 have et:=xI hth
 have bt:=hpb t
 obtain ⟨y,hy1⟩:∃y,y=h.getD t noL:=⟨_,rfl⟩
 rw [<-hy1] at et bt ⊢
 obtain ⟨w,hw1⟩:∃w,w=x.1.len p:=⟨_,rfl⟩
 rw [<-hw1] at hw ⊢
 have m1:M51 [.agg [.int .i64 y.1,.bool y.2],.int .i64 (sum+w)]=some (.agg [.int .i64 (eK y (sum+w)).1,.bool (eK y (sum+w)).2]):=if_pos (by omega)
 have b2:ag .add (.int .i64 sum) (.int .i64 w)=some (.int .i64 (sum+w)):=by
  simp only [ag]; rw [if_pos trivial,dV (by unfold inI; omega)]
 have hx:wA p x=.agg [.int .i64 x.1.f,.int .i64 (t:Int),.int .i64 x.1.w,.int .i64 x.1.k,.int .i64 (x.2:Int),.int .i64 w]:=by unfold wA; rw [ht,hw1]
 rw [hx]
 have hix:∀A,ai 1 A (wy hs) (.int .i64 (left:Int))=some (.fp [.fs 2 (h.map lA)]):=fun A=>
  (show SlA 1 (hs.map fun h=>.fs 2 (h.map lA)) (wy hs) from .inr rfl).index1 (A:=A) (by simp [hh]) rfl rfl .i64
 have hix2:∀A,ai 2 A (.fs 2 (h.map lA)) (.int .i64 (t:Int))=some (.fp [.int .i64 y.1,.bool y.2]):=fun A=>
  (show SlA 2 (h.map lA) (.fs 2 (h.map lA)) from .inr rfl).index (A:=A) (i:=t) et rfl (by omega) .i64
 obtain ⟨HT,hHT⟩:∃HT,wy hs=.fs 1 HT:=⟨_,rfl⟩
 rw [hHT] at hix ⊢
 obtain ⟨s,hs'⟩:∃s,s=sum+w:=⟨_,rfl⟩
 rw [<-hs'] at m1 b2 ⊢
 obtain ⟨q,hq⟩:∃q,q=eK y s:=⟨_,rfl⟩
 rw [<-hq] at m1 ⊢
 have b3:ag .gtr (.int .i64 q.1) (.int .i64 0)=some (.bool (decide (q.1 > 0))):=by simp [ag]
 obtain ⟨q1,q2⟩:=q
 obtain ⟨y1,y2⟩:=y
 simp only at m1 b3 hix2
 unfold M50
 rw [aJ _ _ rfl]
 cases q2
 ·simp [DP,hix,hix2,b2,m1,-ag,-ai]
 ·simp [DP,hix,hix2,b2,b3,m1,-ag,-ai]
def BW:List (FuncId × aG):=[(101,aD 4 M50)]
@[simp] theorem Ji:aC BW 101=some (aD 4 M50):=rfl
theorem C3:∀f M,aC BW f=some M->aj Try.prog GC f M:=ae (aj.of_pure wR 4) aA
def M49:aO:=fun args=>evP (ax GC BW) 300 H9 1 args
theorem Fo:aw Try.prog GC 100 M49:=aw.of_ev (E:=ax GC BW) (au C3) rfl at49 GZ 1 fun _ _ h=>⟨300,h⟩
theorem HH {hs:List (List LP)} {left:Nat} {h:List LP} {p sum:Int} {xs:List eJ} {ch:AV} (hch:SlA 6 (wAs p xs) ch) (hl:xs.length<=200) (hh:hs[left]?=some h) (ht:∀x∈xs,0<=x.1.t/\x.1.t<(h.length:Int)) (hpb:PB 1000000000 h) (hs1 : -1000000000<=sum/\sum<=1000000000) (hw:∀x∈xs,-3000000<=x.1.len p/\x.1.len p<=3000000) :
  M49 [ch,Gw hs left sum]=some (.int .i64 (cW (kO h p sum) xs)):=by
 have hlen:=hch.len
 have hlen':(wAs p xs).length=xs.length:=by simp [wAs]
 rw [hlen'] at hlen
 obtain ⟨F,hF⟩:∃F,F=Gw hs left sum:=⟨_,rfl⟩
 have round:∀(A:aa) (i:Nat) (hi:i<xs.length),run (ax GC BW) 300 [.code iR] (lu ch F (.int .i64 (xs.length:Int)) (.int .i64 (i:Int))) A =
   if kO h p sum xs[i]=false then some (.normal (lu ch F (.int .i64 (xs.length:Int)) (.int .i64 ((i+1:Nat):Int))) A) else some (.ret [ch,F,.int .i64 (i:Int),.int .i64 (i:Int),.int .i64 (xs.length:Int),.int .i64 (i:Int),.bool true,.bool true] A):=fun A i hi=>by
  have hmem:=List.getElem_mem hi
  obtain ⟨t,ht1,ht2⟩:∃t:Nat,xs[i].1.t=(t:Int)/\t<h.length:=by
   have:=ht _ hmem
   exact ⟨xs[i].1.t.toNat,by omega,by omega⟩
  have x1:ai 6 A ch (.int .i64 (i:Int))=some (.fp [.int .i64 xs[i].1.f,.int .i64 xs[i].1.t,.int .i64 xs[i].1.w,.int .i64 xs[i].1.k,.int .i64 (xs[i].2:Int),.int .i64 (xs[i].1.len p)]):=
   hch.index (A:=A) (i:=i) (x:=wA p xs[i]) (by simp [wAs,hi]) rfl (by omega) .i64
  have m:=HG (p:=p) hh ht1 ht2 hpb hs1 (hw _ hmem)
  unfold wA at m
  have b1:=bu i xs.length .i64
  rw [decide_eq_true hi] at b1
  have b3:=bc i (by omega)
  obtain ⟨i1,hi1⟩:∃i1:Nat,i1=i+1:=⟨_,rfl⟩
  rw [<-hi1] at b3 ⊢
  obtain ⟨d,hd⟩:∃d,d=kO h p sum xs[i]:=⟨_,rfl⟩
  rw [<-hd] at m ⊢
  rw [hF]
  obtain ⟨HT,hHT⟩:∃HT,wy hs=.fs 1 HT:=⟨_,rfl⟩
  have fz:∀B n,frz B n (.fs 1 HT)=.fs 1 HT:=fun B n=>by cases n <;> rfl
  unfold Gw
  rw [hHT] at m ⊢
  cases d with
  | false=>simp [iR,x1,m,b1,b3,-ag,-ai,-aq]
  | true=>simp [iR,x1,m,b1,-ag,-ai,-aq]
 unfold M49
 rw [aJ _ _ rfl,<-hF]
 rcases cI (E:=ax GC BW) (fuel:=300) (a:=iR) (mask:=ic) (fun i=>lu ch F (.int .i64 (xs.length:Int)) (.int .i64 (i:Int))) (fun _=>[]) xs.length (fun i=>¬ ∀hi:i<xs.length,kO h p sum xs[i]=false)
  (oF:=fun i=>.ret [ch,F,.int .i64 (i:Int),.int .i64 (i:Int),.int .i64 (xs.length:Int),.int .i64 (i:Int),.bool true,.bool true] []) (oE:=.exit 0 ((lu ch F (.int .i64 (xs.length:Int)) (.int .i64 (xs.length:Int))).set 6 (.bool false)) [])
  (fun _=>Cf) (fun _ _ _ h=>by cases h) (fun _ _ h=>by cases h)
  (fun i hi hp=>by
   rw [round [] i hi]
   exact if_pos (Classical.not_not.1 hp hi))
  (fun i hi hp=>by
   rw [round [] i hi]
   exact if_neg fun h=>hp fun _=>h)
  (by simp [iR]) (show xs.length<300 by omega) with ⟨i,hi,hp,hj,lp⟩ | ⟨hp,lp⟩
 ·have lp:cc (evC (ax GC BW) 300 iR) ic 300 (lu ch F (.int .i64 (xs.length:Int)) (.int .i64 0)) []=_:=lp
  have e:cW (kO h p sum) xs=(i:Int):=bL hi (by
   cases h':kO h p sum xs[i] with
   | true=>rfl
   | false=>exact absurd (fun _=>h') hp) (fun j hj'=>Classical.not_not.1 (hj j hj') (by omega))
  rw [e]
  simp [H9,hlen,BL lp,-ag,-aq]
 ·have lp:cc (evC (ax GC BW) 300 iR) ic 300 (lu ch F (.int .i64 (xs.length:Int)) (.int .i64 0)) []=_:=lp
  have e:cW (kO h p sum) xs = -1:=bO fun i hi=>Classical.not_not.1 (hp i hi) hi
  rw [e]
  simp [H9,hlen,BL lp,-ag,-aq]
open Go
def oO (p:Int) (l:List a8) (hs:Nat->List LP):Nat->Int->List eJ->List Int->Option (List Int)
 | 0,_,_,out=>some out
 | r+1,sum,ch,out=>match ch.find? (kO (hs r) p sum) with
  | none=>none
  | some b=>oO p l hs r (sum+b.1.len p) (mt l b.1.t.toNat) (out++[(b.2:Int)])
def jy (A:aa) (s:AV) (xs:List Int):Prop:=(s=.nilS/\xs=[])\/∃id gr,s=.sl id 0 xs.length/\xs≠[]/\5<=id/\A[id]?=some (.row 1 gr (ak xs))
theorem jy.keep {A B:aa} {s:AV} {xs:List Int} (h:jy A s xs) (hAB:∀id,id∈aX s->B[id]?=A[id]?):jy B s xs:=by
 rcases h with h | ⟨id,gr,rfl,h1,h2,h3⟩
 ·exact .inl h
 ·exact .inr ⟨id,gr,rfl,h1,h2,by rw [hAB id (by simp [aX]),h3]⟩
theorem jy.low {A:aa} {s:AV} {xs:List Int} (h:jy A s xs):∀id,id∈aX s->5<=id/\id<A.length:=by
 rcases h with ⟨rfl,_⟩ | ⟨id,gr,rfl,h1,h2,h3⟩
 ·intro id h; simp [aX] at h
 ·intro j hj
  simp only [aX,List.mem_singleton] at hj
  subst hj
  exact ⟨h2,(List.getElem?_eq_some_iff.1 h3).1⟩
theorem jy.form2 {A:aa} {s:AV} {xs:List Int} (h:jy A s xs):s=.nilS\/∃i k,s=.sl i 0 k:=by
 rcases h with ⟨rfl,_⟩ | ⟨id,gr,rfl,_⟩
 ·exact .inl rfl
 ·exact .inr ⟨_,_,rfl⟩
theorem jy.append {A:aa} {s:AV} {xs:List Int} (h:jy A s xs) (z:Int) (hA:5<=A.length) (hl:xs.length<=1000) :
  ∃s' k A',aM 1 8 A s (.fs 1 [.int .i64 z])=some (.sl s' 0 k,A')/\jy A' (.sl s' 0 k) (xs++[z])/\A.length<=A'.length/\(∀j,j<A.length->j ∉ aX s->A'[j]?=A[j]?)/\(s'∈aX s\/s'=A.length):=by
 rcases h with ⟨rfl,rfl⟩ | ⟨id,gr,rfl,h1,h2,h3⟩
 ·refine ⟨A.length,1,A++[.row 1 false [.int .i64 z]],by simp [aM,aS],.inr ⟨A.length,false,rfl,by simp,hA,by simp [ak]⟩,by simp,fun j hj _=>by rw [List.getElem?_append_left hj],.inr rfl⟩
 ·have hid:=(List.getElem?_eq_some_iff.1 h3).1
  refine ⟨id,(xs++[z]).length,A.set id (.row 1 true (ak (xs++[z]))),?_,.inr ⟨id,true,rfl,by simp,h2,by simp [hid]⟩,by simp,fun j hj hn=>?_,.inl (by simp [aX])⟩
  ·simp only [aM,aS,h3]
   simp [h1,ak]
   omega
  ·rw [List.getElem?_set_ne (fun e=>hn (by simp [aX,e]))]
theorem jy.out {A:aa} {s:AV} {xs:List Int} (h:jy A s xs) (k:Nat):frz A (k+1) s=slA 1 (ak xs)/\aW A (k+1) s=true:=by
 rcases h with ⟨rfl,rfl⟩ | ⟨id,gr,rfl,h1,h2,h3⟩
 ·exact ⟨rfl,rfl⟩
 ·constructor
  ·simp only [frz,h3,List.drop_zero]
   rw [List.take_of_length_le (by simp [ak]),rV]
   cases xs with
   | nil=>exact absurd rfl h1
   | cons x r=>rfl
  ·simp only [aW,h3,List.drop_zero]
   rw [List.take_of_length_le (by simp [ak])]
   exact sE _ _ _
def Chs (A:aa) (v:AV) (xs:List AV):Prop:=SlA 6 xs v\/(v=.sl 3 0 xs.length/\A[3]?=some (.row 6 false xs))
def wB:List (FuncId × aG):=[(100,aD 4 M49)]
@[simp] theorem Jq:aC wB 100=some (aD 4 M49):=rfl
theorem C9:∀f M,aC wB f=some M->aj Try.prog GC f M:=ae (aj.of_pure Fo 4) aA
def LA:MC:=.region [⟨none,.load false 1 (.var 11),none⟩,⟨some 14,.bin .geq (.tmp 0) (.cst (.int .i64 0)),none⟩]
def Lz:MC:=.region [⟨none,.mv (.var 10),none⟩,⟨none,.makeFunc (.func 101) [] [.var 5,.var 11,.var 9],none⟩,⟨none,.call (.fn 100) [.tmp 0,.tmp 1],none⟩,⟨some 12,.mv (.tmp 2),none⟩]
def Ly:MC:=.region [⟨none,.mv (.var 12),none⟩,⟨some 15,.bin .lss (.tmp 0) (.cst (.int .i64 0)),none⟩]
def Mx:MC:=.region [⟨some 6,.mv (.cst .nilS),none⟩,⟨some 7,.mv (.cst (.bool false)),none⟩]
def Lx:MC:=.region [⟨none,.mv (.var 10),none⟩,⟨none,.mv (.var 12),none⟩,⟨none,.indexSl 6 (.tmp 0) (.tmp 1),none⟩,⟨none,.load true 6 (.tmp 2),none⟩,⟨some 13,.alloc 6 (.agg [.int .i64 0,.int .i64 0,.int .i64 0,.int .i64 0,.int .i64 0,.int .i64 0]),none⟩,⟨none,.store 6 (.var 13) (.tmp 3),none⟩]
def Ix:MC:=.regionD [] [⟨none,.mv (.var 8),none⟩,⟨none,.fieldAddr 4 (.var 13),none⟩,⟨none,.load false 1 (.tmp 1),none⟩,⟨none,.buildF 1 [.tmp 2],none⟩,⟨none,.append 1 8 (.tmp 0) (.tmp 3),none⟩,⟨none,.load false 1 (.var 9),none⟩,⟨none,.fieldAddr 5 (.var 13),none⟩,⟨none,.load false 1 (.tmp 6),none⟩,⟨none,.bin .add (.tmp 5) (.tmp 7),none⟩,⟨none,.mv (.var 0),none⟩,⟨none,.nilCheck (.tmp 9),none⟩,⟨none,.fieldAddr 2 (.tmp 10),none⟩,⟨none,.load false 1 (.tmp 11),none⟩,⟨none,.fieldAddr 0 (.var 13),none⟩,⟨none,.fieldAddr 1 (.tmp 13),none⟩,⟨none,.load false 1 (.tmp 14),none⟩,⟨none,.indexSl 1 (.tmp 12) (.tmp 15),none⟩,⟨none,.load false 1 (.tmp 16),none⟩,⟨some 8,.mv (.tmp 4),none⟩,⟨none,.store 1 (.var 9) (.tmp 8),none⟩,⟨some 10,.mv (.tmp 17),none⟩] [(4,5),(4,6),(4,7),(4,11),(4,12),(4,13),(4,14),(4,15),(4,16),(4,17),(11,19),(12,19),(13,19),(14,19),(15,19),(16,19),(17,19)]
def Lw:MC:=.region [⟨some 16,.load false 1 (.var 11),none⟩]
def Lv:MC:=.region [⟨some 11,.alloc 1 (.int .i64 0),none⟩,⟨none,.store 1 (.var 11) (.var 16),none⟩]
def Lu:MC:=.region [⟨none,.load false 1 (.var 11),none⟩,⟨none,.bin .sub (.tmp 0) (.cst (.int .i64 1)),none⟩,⟨none,.store 1 (.var 11) (.tmp 1),none⟩]
theorem zp:en=.seq (.seq LA (.cond (.var 14) .skip (.exit 0))) (.seq (.seq (.block 1 (.seq Lz (.seq (.seq Ly (.cond (.var 15) (.seq Mx .ret) .skip)) (.seq Lx Ix)))) (.kill [1,2,3,4,6,7,12,13,14,15,16])) (.seq (.seq Lw Lv) Lu)):=rfl
abbrev s43 (W v6 v7 v8 v10 v12 v13 v14 v15 v16:AV) (lid:Nat):List AV:=[W,.undef,.undef,.undef,.undef,.ptr 1 0 0,v6,v7,v8,.ptr 2 0 0,v10,.ptr lid 0 0,v12,v13,v14,v15,v16]
theorem LV (E:Env) (fuel:Nat) (K:List KC) {A:aa} {W v6 v7 v8 v10 v12 v13 v14 v15 v16:AV} {lid:Nat} {left:Int} (h:A[lid]?=some (.row 1 false [.int .i64 left])) :
  run E fuel (.code LA :: K) (s43 W v6 v7 v8 v10 v12 v13 v14 v15 v16 lid) A=run E fuel K (s43 W v6 v7 v8 v10 v12 v13 (.bool (decide (0<=left))) v15 v16 lid) A:=by
 have b:=gM left
 simp [LA,h,b,-ag]
theorem r43b (fuel:Nat) (K:List KC) (X Y:MC) {A:aa} {W v6 v7 v8 v10 v12 v13 v14 v15 v16 ch F:AV} {lid:Nat} {z:Int} (h1:frz A 4 v10=ch) (h2:frz A 4 (.func (.func 101) [] [.ptr 1 0 0,.ptr lid 0 0,.ptr 2 0 0])=F) (h3:M49 [ch,F]=some (.int .i64 z)) :
  run (ax GC wB) fuel (.code Lz :: .code (.seq (.seq Ly X) Y) :: K) (s43 W v6 v7 v8 v10 v12 v13 v14 v15 v16 lid) A=run (ax GC wB) fuel (.code X :: .code Y :: K) (s43 W v6 v7 v8 v10 (.int .i64 z) v13 v14 (.bool (decide (z<0))) v16 lid) A:=by
 have b:ag .lss (.int .i64 z) (.int .i64 0)=some (.bool (decide (z<0))):=by simp [ag]
 simp [Lz,Ly,h1,h2,h3,b,-ag,-frz]
theorem r43e (E:Env) (fuel:Nat) (K:List KC) {A:aa} {W q v6 v7 v8 v10 v13 v14 v15 v16:AV} {lid i:Nat} {c1 c2 c3 c4 c5 c6:Int} (h:ai 6 A v10 (.int .i64 (i:Int))=some q) (hq:ac true 6 A q=some (.agg [.int .i64 c1,.int .i64 c2,.int .i64 c3,.int .i64 c4,.int .i64 c5,.int .i64 c6])) :
  run E fuel (.code Lx :: K) (s43 W v6 v7 v8 v10 (.int .i64 (i:Int)) v13 v14 v15 v16 lid) A=run E fuel K (s43 W v6 v7 v8 v10 (.int .i64 (i:Int)) (.ptr A.length 0 0) v14 v15 v16 lid) (A++[.row 6 false [.agg [.int .i64 c1,.int .i64 c2,.int .i64 c3,.int .i64 c4,.int .i64 c5,.int .i64 c6]]]):=by
 simp [Lx,h,hq,-ai,-ac]
theorem r43f (E:Env) (fuel:Nat) (K:List KC) {A B:aa} {W1 v6 v7 so v10 v12 v14 v15 v16 x:AV} {lid bid jo ko t:Nat} {os:List AV} {n c1 c3 c4 c5 c6 sum:Int} (hb:A[bid]?=some (.row 6 false [.agg [.int .i64 c1,.int .i64 (t:Int),.int .i64 c3,.int .i64 c4,.int .i64 c5,.int .i64 c6]]))
  (ap:aM 1 8 A so (.fs 1 [.int .i64 c5])=some (.sl jo 0 ko,B)) (hb':B[bid]?=some (.row 6 false [.agg [.int .i64 c1,.int .i64 (t:Int),.int .i64 c3,.int .i64 c4,.int .i64 c5,.int .i64 c6]])) (h2:B[2]?=some (.row 1 false [.int .i64 sum])) (hs:so=.nilS\/∃i k,so=.sl i 0 k) (hid:∀j∈aX so,j≠2/\j≠bid) (hA2:A.length≠2) (hAb:A.length≠bid) (hb2:bid≠2)
  (hsum : -1000000000<=sum/\sum<=1000000000) (hc6 : -3000000<=c6/\c6<=3000000) (ho:os[t]?=some x) (hx:x.solid=true) (hx2:cellsOf x=[x]) :
  run E fuel (.code Ix :: K) (s43 (.fp [.int .i64 n,W1,.fs 1 os]) v6 v7 so v10 v12 (.ptr bid 0 0) v14 v15 v16 lid) A=run E fuel K (s43 (.fp [.int .i64 n,W1,.fs 1 os]) v6 v7 (.sl jo 0 ko) x v12 (.ptr bid 0 0) v14 v15 v16 lid) (B.set 2 (.row 1 false [.int .i64 (sum+c6)])):=by
 have b2:ag .add (.int .i64 sum) (.int .i64 c6)=some (.int .i64 (sum+c6)):=by
  simp only [ag]; rw [if_pos trivial,dV (by unfold inI; omega)]
 have hix:∀C,ai 1 C (.fs 1 os) (.int .i64 (t:Int))=some (.fp [x]):=fun C=>(show SlA 1 os (.fs 1 os) from .inr rfl).index1 (A:=C) ho hx hx2 .i64
 have hA2':¬ 2=A.length:=fun e=>hA2 e.symm
 have hAb':¬ bid=A.length:=fun e=>hAb e.symm
 have hb2':¬ 2=bid:=fun e=>hb2 e.symm
 obtain ⟨s,hs'⟩:∃s,s=sum+c6:=⟨_,rfl⟩
 rw [<-hs'] at b2 ⊢
 rcases hs with rfl | ⟨i,k,rfl⟩
 ·simp [Ix,hb,ap,hb',h2,b2,hix,hA2,hAb,hb2,-ag,-ai]
 ·obtain ⟨q1,q2⟩:=hid i (by simp [aX])
  have q1':¬ 2=i:=fun e=>q1 e.symm
  have q2':¬ bid=i:=fun e=>q2 e.symm
  simp [Ix,hb,ap,hb',h2,b2,hix,hA2,hAb,hb2,q1,q2,-ag,-ai]
theorem r43i (E:Env) (fuel:Nat) (K:List KC) {A:aa} {W v6 v7 v8 v10 v12 v13 v14 v15 v16:AV} {lid:Nat} {left:Int} (h:A[lid]?=some (.row 1 false [.int .i64 left])) (hl:0<=left/\left<=100) :
  run E fuel (.code (.seq (.seq Lw Lv) Lu) :: K) (s43 W v6 v7 v8 v10 v12 v13 v14 v15 v16 lid) A=run E fuel K (s43 W v6 v7 v8 v10 v12 v13 v14 v15 (.int .i64 left) A.length) (A++[.row 1 false [.int .i64 (left-1)]]):=by
 have b2:ag .sub (.int .i64 left) (.int .i64 1)=some (.int .i64 (left-1)):=by
  simp only [ag]; rw [if_pos trivial,dV (by unfold inI; omega)]
 obtain ⟨s,hs'⟩:∃s,s=left-1:=⟨_,rfl⟩
 rw [<-hs'] at b2 ⊢
 simp [Lw,Lv,Lu,h,b2,-ag]
theorem AN {α:Type} (q:α->Bool) (l:List α):(l.find? q=none/\cW q l = -1)\/∃(i:Nat) (hi:i<l.length),l.find? q=some l[i]/\cW q l=(i:Int)/\q l[i]=true:=by
 unfold cW
 cases h:l.findIdx? q with
 | none=>
  left
  refine ⟨?_,rfl⟩
  rw [List.findIdx?_eq_none_iff] at h
  rw [List.find?_eq_none]
  intro x hx; rw [h x hx]; simp
 | some i=>
  right
  obtain ⟨hi,h1,h2⟩:=List.findIdx?_eq_some_iff_getElem.1 h
  refine ⟨i,hi,?_,rfl,h1⟩
  rw [List.find?_eq_some_iff_getElem]
  exact ⟨h1,i,hi,rfl,fun j hj=>by simpa using h2 j hj⟩
theorem Ek {A:aa} {v:AV} {p:Int} {xs:List eJ} (h:Chs A v (wAs p xs)):SlA 6 (wAs p xs) (frz A 4 v):=by
 rcases h with h | ⟨rfl,h3⟩
 ·rw [h.frz]; exact h
 ·right
  show frz A (3+1) _=_
  simp only [frz,h3,List.drop_zero]
  rw [List.take_of_length_le (Nat.le_refl _)]
  congr 1
  unfold wAs
  rw [List.map_map]
  apply List.map_congr_left
  intro x _
  exact BY A p x 2
theorem Hb {A:aa} {v:AV} {p:Int} {xs:List eJ} (h:Chs A v (wAs p xs)) {i:Nat} (hi:i<xs.length):∃q,ai 6 A v (.int .i64 (i:Int))=some q/\ac true 6 A q=some (wA p xs[i]):=by
 have hx:(wAs p xs)[i]?=some (wA p xs[i]):=by simp [wAs,hi]
 rcases h with h | ⟨rfl,h3⟩
 ·exact ⟨_,h.index (A:=A) hx rfl (by omega) .i64,by simp [ac,wA,cellsOf]⟩
 ·refine ⟨.ptr 3 i 0,?_,?_⟩
  ·simp [ai,h3]
   simp [wAs]; omega
  ·simp only [ac,h3,hx]; rfl
structure Mz (p:Int) (hs:List (List LP)) (r:Nat) (sum:Int) (ch:List eJ) (out:List Int) (so v10:AV) (lid:Nat) (A:aa):Prop where
 a1:A[1]?=some (.row 1 false [wy hs])
 a2:A[2]?=some (.row 1 false [.int .i64 sum])
 al:A[lid]?=some (.row 1 false [.int .i64 ((r:Int)-1)])
 lid4:4<=lid
 so_:jy A so out
 lso:lid ∉ aX so
 chs:Chs A v10 (wAs p ch)
theorem zW {n:Nat} {p:Int} {l:List a8} {t:Nat} (ht:t<n):((List.range n).map fun v=>slA 6 (wAs p (mt l v)))[t]?=some (slA 6 (wAs p (mt l t))):=by simp [ht]
theorem wG {n:Nat} {p:Int} {l:List a8} (hp:cw p) (hv:∀x∈l,okA n x) (hn32:n<=32) (hl200:l.length<=200) (hsL:List (List LP)) (hs:Nat->List LP) {k:Nat} (hk:k<=32) (hhs:∀r,r<k->hsL[r]?=some (hs r)/\(hs r).length=n/\PB 1000000000 (hs r)) :
  ∀(r:Nat) (sum:Int) (ch:List eJ) (out:List Int) (so v10:AV) (lid:Nat) (A:aa) (m:Nat),r<m->r<=k -> -(3000000*((k:Int)-r))<=sum/\sum<=3000000*((k:Int)-r)->out.length<=k-r->(∀x∈ch,x∈num l)->ch.length<=200->Mz p hsL r sum ch out so v10 lid A ->
   ∃o,cc (evC (ax GC wB) 300 en) dC m (eR (cQ n p l) (.ptr 1 0 0) so (.ptr 2 0 0) v10 (.ptr lid 0 0)) A=some o /\
    match oO p l hs r sum ch out with
    | none=>∃so' v10' lid' v12 v13 v14 v15 v16 A',o=.ret (s43 (cQ n p l) .nilS (.bool false) so' v10' v12 v13 v14 v15 v16 lid') A'
    | some res=>∃so' v10' lid' A',o=.exit 0 ((eR (cQ n p l) (.ptr 1 0 0) so' (.ptr 2 0 0) v10' (.ptr lid' 0 0)).set 14 (.bool false)) A'/\jy A' so' res:=by
 intro r
 induction r with
 | zero=>
  intro sum ch out so v10 lid A m hm _ _ _ _ _ hI
  obtain ⟨m,rfl⟩:∃j,m=j+1:=⟨m-1,by omega⟩
  have r1:=fun K=>LV (ax GC wB) 300 K (W:=cQ n p l) (v6:=.undef) (v7:=.undef) (v8:=so) (v10:=v10) (v12:=.undef) (v13:=.undef) (v14:=.undef) (v15:=.undef) (v16:=.undef) hI.al
  simp only [Int.natCast_zero,Int.zero_sub,s43] at r1
  refine ⟨.exit 0 ((eR (cQ n p l) (.ptr 1 0 0) so (.ptr 2 0 0) v10 (.ptr lid 0 0)).set 14 (.bool false)) A,?_,so,v10,lid,A,rfl,hI.so_⟩
  rw [aQ,oz,zp]
  obtain ⟨W,hW⟩:∃W,W=cQ n p l:=⟨_,rfl⟩
  rw [<-hW] at r1 ⊢
  simp [r1]
 | succ r ih=>
  intro sum ch out so v10 lid A m hm hrk hsum hout hch hcl hI
  obtain ⟨m,rfl⟩:∃j,m=j+1:=⟨m-1,by omega⟩
  obtain ⟨hh1,hh2,hh3⟩:=hhs r (by omega)
  have hleft:(((r+1:Nat):Int)-1)=(r:Int):=by omega
  have hal:=hI.al
  rw [hleft] at hal
  have r1:=fun K=>LV (ax GC wB) 300 K (W:=cQ n p l) (v6:=.undef) (v7:=.undef) (v8:=so) (v10:=v10) (v12:=.undef) (v13:=.undef) (v14:=.undef) (v15:=.undef) (v16:=.undef) hal
  rw [decide_eq_true (show (0:Int)<=(r:Int) by omega)] at r1
  have h49:=HH (p:=p) (sum:=sum) (Ek hI.chs) hcl hh1 (fun x hx=>by
   obtain ⟨hi,e⟩:=kL (hch x hx)
   have:=hv _ (List.getElem_mem hi)
   rw [e] at this
   have h2:=this.2.1
   omega) hh3 (by omega) (fun x hx=>by
   obtain ⟨hi,e⟩:=kL (hch x hx)
   have:=hv _ (List.getElem_mem hi)
   rw [e] at this
   obtain ⟨q1,q2,q3,q4⟩:=this
   have:=gK (n:=32) (a:=x.1) ⟨by omega,by omega,q3,q4⟩ hp
   omega)
  have hfn:frz A 4 (.func (.func 101) [] [.ptr 1 0 0,.ptr lid 0 0,.ptr 2 0 0])=Gw hsL r sum:=by
   have a1:=hI.a1
   have a2:=hI.a2
   unfold Gw wy at *
   simp [frz,a1,a2,hal]
  have r2:=fun K X Y=>r43b 300 K X Y (W:=cQ n p l) (v6:=.undef) (v7:=.undef) (v8:=so) (v10:=v10) (v12:=.undef) (v13:=.undef) (v14:=.bool true) (v15:=.undef) (v16:=.undef) rfl hfn h49
  rw [aQ,oz,zp]
  unfold oO
  rcases AN (kO (hs r) p sum) ch with ⟨q1,q2⟩ | ⟨i,hi,q1,q2,q3⟩
  ·rw [q1]
   rw [q2] at r2
   rw [decide_eq_true (show (-1:Int)<0 by omega)] at r2
   refine ⟨.ret (s43 (cQ n p l) .nilS (.bool false) so v10 (.int .i64 (-1)) .undef (.bool true) (.bool true) .undef lid) A,?_,so,v10,lid,_,_,_,_,_,A,rfl⟩
   obtain ⟨W,hW⟩:∃W,W=cQ n p l:=⟨_,rfl⟩
   rw [<-hW] at r1 r2 ⊢
   simp only [s43] at r1 r2
   simp [r1,r2,Mx]
  ·rw [q1]
   rw [q2] at r2
   rw [decide_eq_false (show ¬ (i:Int)<0 by omega)] at r2
   obtain ⟨b,hb⟩:∃b,b=ch[i]:=⟨_,rfl⟩
   have hbm:=hch _ (List.getElem_mem hi)
   rw [<-hb] at hbm
   obtain ⟨hbi,hbe⟩:=kL hbm
   have hok:=hv _ (List.getElem_mem hbi)
   rw [hbe] at hok
   obtain ⟨o1,o2,o3,o4⟩:=hok
   obtain ⟨t,ht1,ht2⟩:=nR o2
   have hw:=gK (n:=32) (a:=b.1) ⟨by omega,by omega,o3,o4⟩ hp
   obtain ⟨q,e1,e2⟩:=Hb hI.chs hi
   rw [<-hb] at e2
   have hwb:wA p b=.agg [.int .i64 b.1.f,.int .i64 (t:Int),.int .i64 b.1.w,.int .i64 b.1.k,.int .i64 (b.2:Int),.int .i64 (b.1.len p)]:=by unfold wA; rw [ht1]
   rw [hwb] at e2
   have r3:=fun K=>r43e (ax GC wB) 300 K (W:=cQ n p l) (v6:=.undef) (v7:=.undef) (v8:=so) (v13:=.undef) (v14:=.bool true) (v15:=.bool false) (v16:=.undef) (lid:=lid) e1 e2
   rw [<-hwb] at r3
   obtain ⟨B,hB⟩:∃B,B=A++[.row 6 false [wA p b]]:=⟨_,rfl⟩
   rw [<-hB] at r3
   have hBo:∀j,j<A.length->B[j]?=A[j]?:=fun j hj=>by rw [hB,List.getElem?_append_left hj]
   have hBl:B.length=A.length+1:=by rw [hB]; simp
   have hBb:B[A.length]?=some (.row 6 false [wA p b]):=by rw [hB]; simp
   have hlA:=(List.getElem?_eq_some_iff.1 hal).1
   have hl4:=hI.lid4
   have hso:=hI.so_.low
   have soB:jy B so out:=hI.so_.keep fun j hj=>hBo j (hso j hj).2
   obtain ⟨jo,ko,C,ap,s2,c1,c2,c3⟩:=soB.append (b.2:Int) (by omega) (by omega)
   have hCo:∀j,j<A.length->j ∉ aX so->C[j]?=A[j]?:=fun j hj hn=>by rw [c2 j (by omega) hn,hBo j hj]
   have h2so:2 ∉ aX so:=fun h=>by have:=hso 2 h; omega
   have hC2:=(hCo 2 (by omega) h2so).trans hI.a2
   have hbso:A.length ∉ aX so:=fun h=>by have:=hso _ h; omega
   have hCb:=(c2 A.length (by omega) hbso).trans hBb
   rw [hwb] at hBb hCb
   have r4:=fun K=>r43f (ax GC wB) 300 K (A:=B) (B:=C) (W1:=slA 6 (wAs p (num l))) (v6:=.undef) (v7:=.undef) (so:=so) (v10:=v10) (v12:=.int .i64 (i:Int)) (v14:=.bool true) (v15:=.bool false) (v16:=.undef) (x:=slA 6 (wAs p (mt l t))) (lid:=lid) (bid:=A.length) (n:=(n:Int)) hBb ap hCb hC2 soB.form2 (fun j hj=>⟨by have:=(hso j hj).1; omega,by have:=(hso j hj).2; omega⟩) (by omega) (by omega) (by omega) (by omega) (by omega) (zW (p:=p) (l:=l) (show t<n by omega)) (w8 _ _) (tZ _ _)
   obtain ⟨D,hD⟩:∃D,D=C.set 2 (.row 1 false [.int .i64 (sum+b.1.len p)]):=⟨_,rfl⟩
   have hDo:∀j,j≠2->D[j]?=C[j]?:=fun j hj=>by rw [hD,List.getElem?_set_ne (Ne.symm hj)]
   have hDl:D.length=C.length:=by rw [hD]; simp
   rw [<-hD] at r4
   have hDlid:D[lid]?=some (.row 1 false [.int .i64 (r:Int)]):=by rw [hDo lid (by omega),hCo lid hlA hI.lso]; exact hal
   have r5:=fun K=>r43i (ax GC wB) 300 K (A:=D) (W:=cQ n p l) (v6:=.undef) (v7:=.undef) (v8:=.sl jo 0 ko) (v10:=slA 6 (wAs p (mt l t))) (v12:=.undef) (v13:=.undef) (v14:=.undef) (v15:=.undef) (v16:=.undef) hDlid (by omega)
   obtain ⟨F,hF⟩:∃F,F=D++[.row 1 false [.int .i64 ((r:Int)-1)]]:=⟨_,rfl⟩
   rw [<-hF] at r5
   have hFo:∀j,j<D.length->F[j]?=D[j]?:=fun j hj=>by rw [hF,List.getElem?_append_left hj]
   have htt:b.1.t.toNat=t:=by omega
   have hs2:=s2.low
   have hIH:=ih (sum+b.1.len p) (mt l t) (out++[(b.2:Int)]) (.sl jo 0 ko) (slA 6 (wAs p (mt l t))) D.length F m (by omega) (by omega) (by omega) (by simp; omega) (fun x hx=>(List.mem_filter.1 hx).1) (Nat.le_trans (uG l t) hl200) {
    a1:=by
     rw [hFo 1 (by omega),hDo 1 (by omega),hCo 1 (by omega) (fun h=>by have:=hso 1 h; omega)]; exact hI.a1
    a2:=by rw [hFo 2 (by omega),hD]; exact List.getElem?_set_self (by omega)
    al:=by rw [hF]; simp
    lid4:=by omega
    so_:=s2.keep fun j hj=>by
     have:=hs2 j hj
     rw [hFo j (by omega),hDo j (by omega)]
    lso:=fun h=>by have:=hs2 _ h; omega
    chs:=.inl (a9 _ _)}
   obtain ⟨o,k1,k2⟩:=hIH
   simp only [<-hb,htt]
   refine ⟨o,?_,k2⟩
   obtain ⟨O,hO⟩:∃O,O=(List.range n).map fun v=>slA 6 (wAs p (mt l v)):=⟨_,rfl⟩
   obtain ⟨W1,hW1⟩:∃W1,W1=slA 6 (wAs p (num l)):=⟨_,rfl⟩
   have hW:cQ n p l=.fp [.int .i64 (n:Int),W1,.fs 1 O]:=by rw [hO,hW1]; rfl
   rw [<-hO,<-hW1] at r4
   rw [hW] at r1 r2 r3 r5 k1 ⊢
   obtain ⟨Z,hZ⟩:∃Z,Z=slA 6 (wAs p (mt l t)):=⟨_,rfl⟩
   rw [<-hZ] at r4 r5 k1
   simp only [s43] at r1 r2 r3 r4 r5
   simp [r1,r2,r3,r4,r5]
   rw [<-zp,pS,oz]; exact k1
def M43:aO:=fun args=>evF (ax GC wB) 300 zK 5 args
theorem CR:bT Try.prog GC 93 M43:=bT.of_ev (E:=ax GC wB) (au C9) rfl Lf yq 5 fun _ _ h=>⟨300,h⟩
def BG (L:List dc) (n to k:Nat):List (List LP):=(List.range (k+1)).map fun j=>hm L n to j
theorem Ee (L:List dc) (n to k:Nat):.fs 1 (wz L n to k)=wy (BG L n to k):=by
 unfold wz wy BG; rw [List.map_map]; rfl
theorem AH (L:List dc) (n to:Nat) {k r:Nat} (h:r<=k):(BG L n to k)[r]?=some (hm L n to r):=by
 unfold BG; rw [List.getElem?_map,List.getElem?_range (by omega)]; rfl
def wI (r:Option (List Int)):AV:=match r with
 | none=>.tup [.nilS,.bool false]
 | some xs=>.tup [slA 1 (ak xs),.bool true]
theorem vB {n to:Nat} {p:Int} {l:List a8} (hr:cg n l p) {k:Nat} (hk1:1<=k) (hk:k<=32) {a:eJ} (ha:a∈num l) :
  M43 [cQ n p l,wA p a,.fs 1 (wz (lar p l) n to k),.int .i64 (k:Int)]=some (wI (oO p l (hm (lar p l) n to) k 0 [a] [])):=by
 obtain ⟨⟨hn,hl200,hv⟩,hp⟩:=hr
 have hn32:n<=32:=by omega
 have hok:=uN hn32 hp hv
 rw [Ee]
 have b0:ag .sub (.int .i64 (k:Int)) (.int .i64 1)=some (.int .i64 ((k:Int)-1)):=by
  simp only [ag]; rw [if_pos trivial,dV (by unfold inI; omega)]
 have hI:Mz p (BG (lar p l) n to k) k 0 [a] [] .nilS (.sl 3 0 1) 4 [.row 6 false [wA p a],.row 1 false [wy (BG (lar p l) n to k)],.row 1 false [.int .i64 0],.row 6 false [wA p a],.row 1 false [.int .i64 ((k:Int)-1)]]:=
  {a1:=rfl,a2:=rfl,al:=rfl,lid4:=by omega,so_:=.inl ⟨rfl,rfl⟩,lso:=by simp [aX],chs:=.inr ⟨rfl,rfl⟩}
 obtain ⟨o,h1,h2⟩:=wG hp hv hn32 hl200 (BG (lar p l) n to k) (hm (lar p l) n to) hk (fun r hr=>⟨AH _ _ _ (by omega),uR _ _ _ _,fun v=>by
  have:=Ef hok to r v
  omega⟩) k 0 [a] [] .nilS (.sl 3 0 1) 4 _ 300 (by omega) (Nat.le_refl _) (by omega) (by simp) (fun x hx=>by
  have:x=a:=by simpa using hx
  rw [this]; exact ha) (by simp) hI
 unfold M43
 rw [fA _ _ rfl]
 obtain ⟨W,hW⟩:∃W,W=cQ n p l:=⟨_,rfl⟩
 obtain ⟨HT,hHT⟩:∃HT,wy (BG (lar p l) n to k)=.fs 1 HT:=⟨_,rfl⟩
 rw [hHT] at h1 ⊢
 rw [<-hW] at h1 h2 ⊢
 unfold wA at h1 ⊢
 obtain ⟨k1,hk1'⟩:∃k1,k1=(k:Int)-1:=⟨_,rfl⟩
 rw [<-hk1'] at b0 h1
 cases hw:oO p l (hm (lar p l) n to) k 0 [a] [] with
 | none=>
  rw [hw] at h2
  obtain ⟨so',v10',lid',v12,v13,v14,v15,v16,A',rfl⟩:=h2
  simp [zK,b0,rR h1,wI,dB,aW,frz,-ag]
 | some xs=>
  rw [hw] at h2
  obtain ⟨so',v10',lid',A',rfl,hs⟩:=h2
  obtain ⟨q1,q2⟩:=hs.out 3
  have z1:frz A' 5 (.tup [so',.bool true])=.tup [slA 1 (ak xs),.bool true]:=by
   show AV.tup [frz A' 4 so',frz A' 4 (.bool true)]=_
   rw [q1]; rfl
  have z2:aW A' 5 (.tup [so',.bool true])=true:=by
   show [so',.bool true].all (aW A' 4)=true
   simp only [List.all_cons,q2]; rfl
  have p1:dB [so',.bool true]=.tup [so',.bool true]:=rfl
  simp [zK,b0,rR h1,wI,z1,z2,-ag,-frz]
open Go
def pV (p:Int) (l:List a8) (n k:Nat) (f:Int):AV:=.fs 1 (wz (lar p l) n f.toNat k)
def kJ (l:List a8):List Int:=l.foldl (fun s a=>if a.f∈s then s else s++[a.f]) []
theorem vM (l:List a8) (i:Nat) (hi:i<l.length):kJ (l.take (i+1))=if l[i].f∈kJ (l.take i) then kJ (l.take i) else kJ (l.take i)++[l[i].f]:=by
 unfold kJ
 rw [List.take_succ_eq_append_getElem hi,List.foldl_append]
 rfl
def sO (G:Int->AV) (s:List Int):List (AV × AV):=s.map fun w=>(.int .i64 w,G w)
theorem uX (G:Int->AV) (w:Int):∀(s:List Int) (i:Nat),w∈s->∃q,ge (.int .i64 w) (sO G s) i=some (some (q,G w))
 | [],_,h=>by cases h
 | x :: s,i,h=>by
  by_cases hx:x=w
  ·subst hx
   exact ⟨i,by simp [sO,ge,mu]⟩
  ·have hw:w∈s:=by
    rcases List.mem_cons.1 h with e | e
    ·exact absurd e.symm hx
    ·exact e
   obtain ⟨q,h1⟩:=uX G w s (i+1) hw
   refine ⟨q,?_⟩
   simp only [sO,List.map_cons,ge,mu] at h1 ⊢
   simp only [if_true,beq_eq_false_iff_ne.2 (Ne.symm hx)]
   exact h1
theorem oa (G:Int->AV) (w:Int):∀(s:List Int) (i:Nat),w ∉ s->ge (.int .i64 w) (sO G s) i=some none
 | [],_,_=>rfl
 | x :: s,i,h=>by
  have hx:¬ w=x:=fun e=>h (by simp [e])
  have:=oa G w s (i+1) (fun e=>h (by simp [e]))
  simp only [sO,List.map_cons,ge,mu] at this ⊢
  simp only [if_true,beq_eq_false_iff_ne.2 hx]
  exact this
theorem uM {G:Int->AV} {s:List Int} {w:Int} {B:aa} {M:Nat} (hB:B[M]?=some (.map (sO G s))) (h:w∈s) (ok:Bool):ce ok .nilS B (.map M) (.int .i64 w)=some (if ok then .tup [G w,.bool true] else G w):=by
 obtain ⟨q,h1⟩:=uX G w s 0 h
 simp only [ce,hB,h1]
theorem xB {G:Int->AV} {s:List Int} {w:Int} {B:aa} {M:Nat} (hB:B[M]?=some (.map (sO G s))) (h:w ∉ s) (ok:Bool):ce ok .nilS B (.map M) (.int .i64 w)=some (if ok then .tup [.nilS,.bool false] else .nilS):=by
 simp only [ce,hB,oa G w s 0 h]
theorem zX {G:Int->AV} {s:List Int} {w:Int} {B:aa} {M:Nat} (hB:B[M]?=some (.map (sO G s))) (h:w ∉ s):bv B (.map M) (.int .i64 w) (G w)=some (B.set M (.map (sO G (s++[w])))):=by
 simp only [bv,hB,oa G w s 0 h]
 simp [sO]
def TT (p:Int) (l:List a8) (i:Nat):aa:=((num l).take i).flatMap fun x=>[.row 6 false [wA p x],.row 6 false [wA p x]]
theorem Ex (p:Int) (l:List a8) (i:Nat) (hi:i<l.length):TT p l (i+1)=TT p l i++[.row 6 false [wA p (l[i],i)],.row 6 false [wA p (l[i],i)]]:=by
 unfold TT
 have h:=fq l i hi
 obtain ⟨h1,h2⟩:=List.getElem?_eq_some_iff.1 h
 rw [List.take_succ_eq_append_getElem h1,List.flatMap_append,h2]
 rfl
theorem bj.consF {G:Nat->Option (List AV)} {fs:List (FuncId × aG)} {h0:aU} {f:FuncId} {pu:List FuncId} {M:aO} (h:aC fs f=some (cq 4 M)) (hr:bj (dw G fs h0) pu):bj (dw G fs h0) (f :: pu):=by
 intro k hk hh args A r A' he
 rcases List.mem_cons.1 hk with rfl | hk
 ·simp only [dw,jx,h,cq,Al,List.nil_append,List.append_nil] at he ⊢
  rw [Option.map_eq_some_iff] at he
  obtain ⟨r',hM,he⟩:=he
  simp only [Prod.mk.injEq] at he
  obtain ⟨rfl,rfl⟩:=he
  refine ⟨rfl,fun hn B=>?_⟩
  have hm:args.map (frz B 4)=args.map (frz A 4):=List.map_congr_left fun x hx=>rC 4 x (List.all_eq_true.1 hn x hx)
  rw [hm,hM]; rfl
 ·exact hr k hk hh args A r A' he
def vY:List (FuncId × aG):=[(99,cq 4 M48)]
@[simp] theorem Jm:aC vY 99=some (cq 4 M48):=rfl
theorem C5:∀f M,aC vY f=some M->aj Try.prog GC f M:=ae (aj.of_pureF CQ 4) aA
def H47:aG:=fun hd=>bM (dw GC vY hd) 300 Bs
theorem ut:aj Try.prog GC 98 H47:=bX C5 Lc ym (bj.consF (M:=M48) rfl bj.nil)
def H42:aG:=fun hd=>bM (dw GC [] hd) 0 xx
theorem pA:aj Try.prog GC 92 H42:=bX aA Hi sg
theorem ev42 (h:aU) (w:List AV) (k:Int) (A:aa):H42 h [.fp w,.int .i64 k] A=some (.func (.func 98) [] [.ptr A.length 0 0,.ptr (A.length+1) 0 0],A++[.row 1 false [.fp w],.row 1 false [.int .i64 k]]):=by
 unfold H42
 rw [aZ _ _ rfl]
 simp [xx]
def Lt:MC:=.region [⟨none,.indexSl 6 (.var 6) (.var 8),none⟩,⟨none,.load true 6 (.tmp 0),none⟩,⟨some 4,.alloc 6 (.agg [.int .i64 0,.int .i64 0,.int .i64 0,.int .i64 0,.int .i64 0,.int .i64 0]),none⟩,⟨none,.store 6 (.var 4) (.tmp 1),none⟩]
def Hu:MC:=.region [⟨none,.mv (.var 3),none⟩,⟨none,.fieldAddr 0 (.var 4),none⟩,⟨none,.fieldAddr 0 (.tmp 1),none⟩,⟨none,.load false 1 (.tmp 2),none⟩,⟨none,.lookup 1 true .nilS (.tmp 0) (.tmp 3),none⟩,⟨none,.mv (.tmp 4),none⟩,⟨none,.extract (.tmp 5) 0,none⟩,⟨none,.extract (.tmp 5) 1,none⟩,⟨none,.mv (.tmp 6),none⟩,⟨some 5,.mv (.tmp 7),none⟩]
def Ht:MC:=.region [⟨none,.mv (.var 5),none⟩,⟨some 10,.un .not (.tmp 0),none⟩]
def Ls:MC:=.region [⟨none,.mv (.var 3),none⟩,⟨none,.fieldAddr 0 (.var 4),none⟩,⟨none,.fieldAddr 0 (.tmp 1),none⟩,⟨none,.load false 1 (.tmp 2),none⟩,⟨none,.load false 1 (.var 1),none⟩,⟨none,.fieldAddr 0 (.var 4),none⟩,⟨none,.fieldAddr 0 (.tmp 5),none⟩,⟨none,.load false 1 (.tmp 6),none⟩,⟨none,.load false 1 (.var 2),none⟩,⟨none,.call (.fn 99) [.tmp 4,.tmp 7,.tmp 8],none⟩,⟨none,.mapUpdate 1 (.tmp 0) (.tmp 3) (.tmp 9),none⟩]
def Hs:MC:=.region [⟨none,.mv (.var 0),none⟩,⟨none,.load true 6 (.var 4),none⟩,⟨none,.mv (.var 3),none⟩,⟨none,.fieldAddr 0 (.var 4),none⟩,⟨none,.fieldAddr 0 (.tmp 3),none⟩,⟨none,.load false 1 (.tmp 4),none⟩,⟨none,.lookup 1 false .nilS (.tmp 2) (.tmp 5),none⟩,⟨none,.call (.tmp 0) [.tmp 1,.tmp 6],none⟩,⟨some 11,.un .not (.tmp 7),none⟩]
def Hr:MC:=.region [⟨none,.bin .add (.var 8) (.cst (.int .i64 1)),none⟩,⟨some 8,.mv (.tmp 0),none⟩]
theorem vz:iS=.seq (.region [⟨some 9,.bin .lss (.var 8) (.var 7),none⟩]) (.seq (.cond (.var 9) .skip (.exit 0)) (.seq (.seq (.block 1 (.seq Lt (.seq (.seq Hu (.seq Ht (.cond (.var 10) Ls .skip))) (.seq Hs (.cond (.var 11) .ret .skip))))) (.kill [4,5,9,10,11])) Hr)):=rfl
def A47 (p:Int) (l:List a8) (n k:Nat) (X:aa) (i:Nat):aa:=X ++ .map (sO (pV p l n k) (kJ (l.take i))) :: TT p l i
def P47 (p:Int) (l:List a8) (n k:Nat) (X:aa) (i:Nat) (a:a8):aa:=X ++ .map (sO (pV p l n k) (kJ (l.take (i+1)))) :: (TT p l i++[.row 6 false [wA p (a,i)]])
theorem r47a (E:Env) (fuel:Nat) (K:List KC) (A:aa) {p:Int} {l:List a8} {i:Nat} (hi:i<l.length) (v0 v1 v2 v3 v4 v5 v7 v9 v10 v11:AV) :
  run E fuel (.code Lt :: K) [v0,v1,v2,v3,v4,v5,slA 6 (wAs p (num l)),v7,.int .i64 (i:Int),v9,v10,v11] A =
   run E fuel K [v0,v1,v2,v3,.ptr A.length 0 0,v5,slA 6 (wAs p (num l)),v7,.int .i64 (i:Int),v9,v10,v11] (A++[.row 6 false [wA p (l[i],i)]]):=by
 have x1:=q9 p hi A .i64
 obtain ⟨W,hW⟩:∃W,W=slA 6 (wAs p (num l)):=⟨_,rfl⟩
 rw [<-hW] at x1 ⊢
 simp [Lt,x1,wA,-ai]
theorem tp (h:aU) (L:Nat) {X:aa} {n k wp kp:Nat} {p:Int} {l:List a8} (hr:cg n l p) (hk:k<=32) (hw:X[wp]?=some (.row 1 false [cQ n p l])) (hkp:X[kp]?=some (.row 1 false [.int .i64 (k:Int)])) {i:Nat} (hi:i<l.length) {b:Bool} {A':aa}
  (hy:h (.func (.yield L) [] []) [wA p (l[i],i),pV p l n k l[i].f] (P47 p l n k X i l[i])=some (.bool b,A')) :
  ∃d4 d5 d9 d10 d11,run (dw GC vY h) 300 [.code iS] (jG (.func (.yield L) [] []) (.ptr wp 0 0) (.ptr kp 0 0) (.map X.length) (slA 6 (wAs p (num l))) (.int .i64 (l.length:Int)) (.int .i64 (i:Int))) (A47 p l n k X i) =
   if b=true then some (.normal (jG (.func (.yield L) [] []) (.ptr wp 0 0) (.ptr kp 0 0) (.map X.length) (slA 6 (wAs p (num l))) (.int .i64 (l.length:Int)) (.int .i64 ((i+1:Nat):Int))) A')
   else some (.ret [.func (.yield L) [] [],.ptr wp 0 0,.ptr kp 0 0,.map X.length,d4,d5,slA 6 (wAs p (num l)),.int .i64 (l.length:Int),.int .i64 (i:Int),d9,d10,d11] A'):=by
 have hmem:=hr.1.2.2 _ (List.getElem_mem hi)
 obtain ⟨f,hf,hfn⟩:=nR hmem.1
 have hl200:=hr.1.2.1
 have hn32:=hr.1.1
 obtain ⟨B,hB⟩:∃B,B=A47 p l n k X i++[.row 6 false [wA p (l[i],i)]]:=⟨_,rfl⟩
 have hBX:∀j,j<X.length->B[j]?=X[j]?:=fun j hj=>by rw [hB,A47,List.append_assoc,List.getElem?_append_left hj]
 have hwl:=(List.getElem?_eq_some_iff.1 hw).1
 have hkl:=(List.getElem?_eq_some_iff.1 hkp).1
 have hBw:=(hBX wp hwl).trans hw
 have hBk:=(hBX kp hkl).trans hkp
 have hBM:B[X.length]?=some (.map (sO (pV p l n k) (kJ (l.take i)))):=by
  rw [hB,A47,List.append_assoc,List.getElem?_append_right (Nat.le_refl _)]; simp
 obtain ⟨M,hM⟩:∃M,M=X.length:=⟨_,rfl⟩
 obtain ⟨i8,hi8⟩:∃i8,i8=(A47 p l n k X i).length:=⟨_,rfl⟩
 have hlow:M<i8:=by rw [hi8,hM]; simp [A47]
 have hB8:B[i8]?=some (.row 6 false [wA p (l[i],i)]):=by rw [hB,hi8]; simp
 have r1:=fun K=>r47a (dw GC vY h) 300 K (A47 p l n k X i) (p:=p) hi (.func (.yield L) [] []) (.ptr wp 0 0) (.ptr kp 0 0) (.map X.length) .undef .undef (.int .i64 (l.length:Int)) (.bool true) .undef .undef
 rw [<-hB,<-hi8,<-hM] at r1
 rw [<-hM] at hBM ⊢
 have hst:=vM l i hi
 rw [hf] at hst hy
 obtain ⟨G,hG⟩:∃G,G=pV p l n k:=⟨_,rfl⟩
 have m48:M48 [cQ n p l,.int .i64 (f:Int),.int .i64 (k:Int)]=some (G (f:Int)):=by
  rw [HI hr (by omega) hk,hG]; unfold pV; rw [Int.toNat_natCast]
 have hGf:∃T,G (f:Int)=.fs 1 T:=⟨wz (lar p l) n f k,by rw [hG]; unfold pV; rw [Int.toNat_natCast]⟩
 have b1:=bu i l.length .i64
 rw [decide_eq_true hi] at b1
 have b3:=bc i (by omega)
 obtain ⟨i1,hi1⟩:∃i1:Nat,i1=i+1:=⟨_,rfl⟩
 rw [<-hi1] at b3 ⊢
 rw [<-hG] at hBM hy
 obtain ⟨T,hT⟩:=hGf
 have hnw:wA p (l[i],i)=.agg [.int .i64 (f:Int),.int .i64 l[i].t,.int .i64 l[i].w,.int .i64 l[i].k,.int .i64 (i:Int),.int .i64 (l[i].len p)]:=by unfold wA; rw [hf]
 rw [hnw] at hB8 hy
 obtain ⟨A1,hA1⟩:∃A1,A1=A47 p l n k X i:=⟨_,rfl⟩
 rw [<-hA1] at r1 ⊢
 obtain ⟨W1,O,hW,hW1⟩:∃W1 O,cQ n p l=.fp [.int .i64 (n:Int),W1,O]/\W1=slA 6 (wAs p (num l)):=⟨_,_,rfl,rfl⟩
 have hWfz:∀B n,frz B n W1=W1:=fun B n=>by rw [hW1]; exact tQ B n 6 _
 rw [<-hW1] at r1 ⊢
 by_cases hs:(f:Int)∈kJ (l.take i)
 ·rw [if_pos hs] at hst
  have hP:P47 p l n k X i l[i]=B:=by
   rw [hB,P47,A47,hst]; simp
  rw [hP] at hy
  have lk:=fun ok=>uM hBM hs ok
  have lk1:=lk true
  have lk2:=lk false
  simp only [if_true,Bool.false_eq_true,if_false] at lk1 lk2
  cases b with
  | true=>
   refine ⟨.undef,.undef,.undef,.undef,.undef,?_⟩
   rw [vz]
   simp [b1,b3,r1,Hu,Ht,Hs,Hr,hB8,lk1,lk2,hy,-ag,-ce]
  | false=>
   refine ⟨.ptr i8 0 0,.bool true,.bool true,.bool false,.bool true,?_⟩
   rw [vz]
   simp [b1,r1,Hu,Ht,Hs,Hr,hB8,lk1,lk2,hy,-ag,-ce]
 ·rw [if_neg hs] at hst
  have up:=zX hBM hs
  obtain ⟨C,hC⟩:∃C,C=B.set M (.map (sO G (kJ (l.take i)++[(f:Int)]))):=⟨_,rfl⟩
  have hP:P47 p l n k X i l[i]=C:=by
   rw [hC,hB,P47,A47,hst,hM,List.append_assoc,List.set_append_right _ _ (Nat.le_refl _),<-hG]; simp
  rw [hP] at hy
  rw [<-hC] at up
  have hCM:C[M]?=some (.map (sO G (kJ (l.take i)++[(f:Int)]))):=by rw [hC]; exact List.getElem?_set_self (List.getElem?_eq_some_iff.1 hBM).1
  have hC8:=(show C[i8]?=B[i8]? by rw [hC,List.getElem?_set_ne (by omega)]).trans hB8
  have lk1:=xB hBM hs true
  have lk2:=uM hCM (show (f:Int)∈kJ (l.take i)++[(f:Int)] by simp) false
  simp only [if_true,Bool.false_eq_true,if_false] at lk1 lk2
  rw [hW] at hBw m48
  rw [hT] at up lk2 m48 hy
  have hfz1:∀B,frz B 4 (.fp [.int .i64 (n:Int),W1,O])=.fp [.int .i64 (n:Int),W1,O]:=fun _=>rfl
  cases b with
  | true=>
   refine ⟨.undef,.undef,.undef,.undef,.undef,?_⟩
   rw [vz]
   simp [b1,b3,r1,Hu,Ht,Ls,Hs,Hr,hB8,hC8,hBw,hBk,lk1,lk2,m48,up,hy,-ag,-ce,-bv]
  | false=>
   refine ⟨.ptr i8 0 0,.bool false,.bool true,.bool true,.bool true,?_⟩
   rw [vz]
   simp [b1,r1,Hu,Ht,Ls,Hs,Hr,hB8,hC8,hBw,hBk,lk1,lk2,m48,up,hy,-ag,-ce,-bv]
theorem vI (p:Int) (l:List a8) (n k:Nat) (X:aa):A47 p l n k X 0=X++[.map []]:=by
 simp [A47,TT,kJ,sO]
theorem ev47 (h:aU) (L:Nat) {X:aa} {n k wp kp:Nat} {p:Int} {l:List a8} (hr:cg n l p) (hk:k<=32) (hw:X[wp]?=some (.row 1 false [cQ n p l])) (hkp:X[kp]?=some (.row 1 false [.int .i64 (k:Int)])) (m:Nat) (hm:m<=l.length)
  (hno:∀i (hi:i<l.length),i<m->h (.func (.yield L) [] []) [wA p (l[i],i),pV p l n k l[i].f] (P47 p l n k X i l[i])=some (.bool true,A47 p l n k X (i+1)))
  (Z:aa) (hyes:∀hi:m<l.length,h (.func (.yield L) [] []) [wA p (l[m],m),pV p l n k l[m].f] (P47 p l n k X m l[m])=some (.bool false,Z)) :
  H47 h [.func (.yield L) [] [],.ptr wp 0 0,.ptr kp 0 0] X=some (.tup [],if m<l.length then Z else A47 p l n k X l.length):=by
 have hl200:=hr.1.2.1
 have hwl:=(List.getElem?_eq_some_iff.1 hw).1
 have hw':(X++[Ent.map []])[wp]?=some (.row 1 false [cQ n p l]):=by rw [List.getElem?_append_left hwl]; exact hw
 have hlen2:aq (slA 6 (wAs p (num l)))=some (.int .i64 (l.length:Int)):=by rw [qC,qn]
 unfold H47
 rw [aZ _ _ rfl]
 obtain ⟨W1,O,hW,hW1⟩:∃W1 O,cQ n p l=.fp [.int .i64 (n:Int),W1,O]/\W1=slA 6 (wAs p (num l)):=⟨_,_,rfl,rfl⟩
 by_cases hml:m<l.length
 ·rw [if_pos hml]
  obtain ⟨d4,d5,d9,d10,d11,hlast⟩:=tp h L hr hk hw hkp hml (hyes hml)
  rw [if_neg (by simp)] at hlast
  have lp:=qD (E:=dw GC vY h) (fuel:=300) (a:=iS) (mask:=fY) (fun i=>jG (.func (.yield L) [] []) (.ptr wp 0 0) (.ptr kp 0 0) (.map X.length) (slA 6 (wAs p (num l))) (.int .i64 (l.length:Int)) (.int .i64 (i:Int))) (fun i=>A47 p l n k X i) m
   (fun _=>yH) (fun _ _ h=>by cases h) (fun i hi=>by
    obtain ⟨_,_,_,_,_,hl⟩:=tp h L hr hk hw hkp (show i<l.length by omega) (hno i (by omega) hi)
    rw [if_pos rfl] at hl
    exact hl) hlast (show m<300 by omega)
  have lp:cc (evC (dw GC vY h) 300 iS) fY 300 (jG (.func (.yield L) [] []) (.ptr wp 0 0) (.ptr kp 0 0) (.map X.length) (slA 6 (wAs p (num l))) (.int .i64 (l.length:Int)) (.int .i64 0)) (A47 p l n k X 0)=_:=lp
  rw [vI] at lp
  rw [hW] at hw'
  rw [<-hW1] at lp hlen2
  simp [Bs,hw',hlen2,BM lp,dB,-aq]
 ·rw [if_neg hml]
  have hml':m=l.length:=by omega
  have lp:=qD (E:=dw GC vY h) (fuel:=300) (a:=iS) (mask:=fY) (fun i=>jG (.func (.yield L) [] []) (.ptr wp 0 0) (.ptr kp 0 0) (.map X.length) (slA 6 (wAs p (num l))) (.int .i64 (l.length:Int)) (.int .i64 (i:Int))) (fun i=>A47 p l n k X i) l.length
   (o:=.exit 0 ((jG (.func (.yield L) [] []) (.ptr wp 0 0) (.ptr kp 0 0) (.map X.length) (slA 6 (wAs p (num l))) (.int .i64 (l.length:Int)) (.int .i64 (l.length:Int))).set 9 (.bool false)) (A47 p l n k X l.length))
   (fun _=>yH) (fun _ _ h=>by cases h) (fun i hi=>by
    obtain ⟨_,_,_,_,_,hl⟩:=tp h L hr hk hw hkp hi (hno i hi (by omega))
    rw [if_pos rfl] at hl
    exact hl) (by simp [iS]) (show l.length<300 by omega)
  have lp:cc (evC (dw GC vY h) 300 iS) fY 300 (jG (.func (.yield L) [] []) (.ptr wp 0 0) (.ptr kp 0 0) (.map X.length) (slA 6 (wAs p (num l))) (.int .i64 (l.length:Int)) (.int .i64 0)) (A47 p l n k X 0)=_:=lp
  rw [vI] at lp
  rw [hW] at hw'
  rw [<-hW1] at lp hlen2
  simp [Bs,hw',hlen2,BM lp,dB,-aq]
open Go
def wk (p:Int) (l:List a8) (n k:Nat) (x:eJ):Option (List Int):=oO p l (hm (lar p l) n x.1.f.toNat) k 0 [x] []
def eE (p:Int) (l:List a8) (n k:Nat):Option (List Int):=(num l).findSome? (wk p l n k)
def qQ (p:Int) (l:List a8) (n:Nat):Option (List Int):=(List.range n).findSome? fun j=>eE p l n (j+1)
def f9:List (FuncId × aG):=[(92,H42),(93,cq 4 M43),(98,H47)]
@[simp] theorem JR:aC f9 92=some H42:=rfl
@[simp] theorem JQ:aC f9 93=some (cq 4 M43):=rfl
@[simp] theorem JP:aC f9 98=some H47:=rfl
theorem nC:∀f M,aC f9 f=some M->aj Try.prog GC f M:=ae pA (ae (aj.of_pureF CR 4) (ae ut aA))
theorem y8 (h0:aU) {Q:aa} {n k wb rb kb vid:Nat} {p:Int} {l:List a8} (hr:cg n l p) (hk1:1<=k) (hk:k<=32) (hw:Q[wb]?=some (.row 1 false [cQ n p l])) (hkp:Q[kb]?=some (.row 1 false [.int .i64 (k:Int)])) {i:Nat} (hi:i<l.length) (hv:Q[vid]?=some (.row 6 false [wA p (l[i],i)]))
  (hn:wk p l n k (l[i],i)=none) (v0 v6 v7 v8 v9 v10 v11 v12 v13:AV) :
  ∃ σ,run (dw GC f9 h0) 300 [.code iV] [v0,.ptr wb 0 0,.ptr rb 0 0,.ptr kb 0 0,.ptr vid 0 0,pV p l n k l[i].f,v6,v7,v8,v9,v10,v11,v12,v13] Q=some (.normal σ Q):=by
 have m:=vB hr hk1 hk (a:=(l[i],i)) (show (l[i],i)∈num l from List.mem_of_getElem? (fq l i hi)) (to:=l[i].f.toNat)
 unfold wk at hn
 rw [hn] at m
 have hH:∃T,pV p l n k l[i].f=.fs 1 T/\T=wz (lar p l) n l[i].f.toNat k:=⟨_,rfl,rfl⟩
 obtain ⟨T,hT,hT2⟩:=hH
 rw [<-hT2] at m
 rw [hT]
 obtain ⟨W1,O,hW⟩:∃W1 O,cQ n p l=.fp [.int .i64 (n:Int),W1,O]:=⟨_,_,rfl⟩
 rw [hW] at hw m
 unfold wA at hv m
 simp only [wI] at m hv
 simp [iV,hw,hkp,hv,m]
theorem ws (h0:aU) {Q:aa} {n k wb rb kb vid:Nat} {e2:AV} {p:Int} {l:List a8} (hr:cg n l p) (hk1:1<=k) (hk:k<=32) (hw:Q[wb]?=some (.row 1 false [cQ n p l])) (hkp:Q[kb]?=some (.row 1 false [.int .i64 (k:Int)])) (hrb:Q[rb]?=some (.row 1 false [e2])) {i:Nat} (hi:i<l.length) (hv:Q[vid]?=some (.row 6 false [wA p (l[i],i)]))
  {res:List Int} (hn:wk p l n k (l[i],i)=some res) (v0 v6 v7 v8 v9 v10 v11 v12 v13:AV) :
  ∃ σ,run (dw GC f9 h0) 300 [.code iV] [v0,.ptr wb 0 0,.ptr rb 0 0,.ptr kb 0 0,.ptr vid 0 0,pV p l n k l[i].f,v6,v7,v8,v9,v10,v11,v12,v13] Q=some (.ret σ (Q.set rb (.row 1 false [slA 1 (ak res)]))):=by
 have m:=vB hr hk1 hk (a:=(l[i],i)) (show (l[i],i)∈num l from List.mem_of_getElem? (fq l i hi)) (to:=l[i].f.toNat)
 unfold wk at hn
 rw [hn] at m
 have hH:∃T,pV p l n k l[i].f=.fs 1 T/\T=wz (lar p l) n l[i].f.toNat k:=⟨_,rfl,rfl⟩
 obtain ⟨T,hT,hT2⟩:=hH
 rw [<-hT2] at m
 rw [hT]
 obtain ⟨W1,O,hW⟩:∃W1 O,cQ n p l=.fp [.int .i64 (n:Int),W1,O]:=⟨_,_,rfl⟩
 rw [hW] at hw m
 unfold wA at hv m
 obtain ⟨R,hR⟩:∃R,R=slA 1 (ak res):=⟨_,rfl⟩
 have hR2:R=.nilS\/∃T,R=.fs 1 T:=by
  rw [hR]; cases ak res with
  | nil=>exact .inl rfl
  | cons x r=>exact .inr ⟨_,rfl⟩
 simp only [wI,<-hR] at m hv
 rw [<-hR]
 rcases hR2 with rfl | ⟨T2,rfl⟩
 ·simp [iV,hw,hkp,hv,hrb,m]
 ·simp [iV,hw,hkp,hv,hrb,m]
theorem EG (p:Int) (l:List a8) (n k:Nat) (X:aa) {i:Nat} (hi:i<l.length):P47 p l n k X i l[i]++[.row 6 false [wA p (l[i],i)]]=A47 p l n k X (i+1):=by
 unfold P47 A47
 rw [Ex p l i hi]
 simp
theorem oK (p:Int) (l:List a8) (n k:Nat) {X:aa} (i:Nat) {j:Nat} (hj:j<X.length):(A47 p l n k X i)[j]?=X[j]?:=by
 unfold A47; rw [List.getElem?_append_left hj]
theorem oJ (p:Int) (l:List a8) (n k:Nat) {X:aa} (i:Nat) {j:Nat} (hj:j<X.length) (e:Ent):(A47 p l n k X i).set j e=A47 p l n k (X.set j e) i:=by
 unfold A47; rw [List.set_append_left _ _ hj]
theorem qs {A:aa} {n:Nat} {e:Ent} (h:A[n]?=some e) (x:Ent):(A.set n x).set n e=A:=by
 rw [List.set_set]
 apply List.ext_getElem?
 intro i
 by_cases hi:n=i
 ·subst hi; rw [List.getElem?_set_self (List.getElem?_eq_some_iff.1 h).1,h]
 ·rw [List.getElem?_set_ne hi]
section
variable {h0:aU} {X:aa} {r:Loop} {L n k wb rb kb:Nat} {e2:AV} {p:Int} {l:List a8}
theorem wF (hr:cg n l p) (hk1:1<=k) (hk:k<=32) (hw:X[wb]?=some (.row 1 false [cQ n p l])) (hkp:X[kb]?=some (.row 1 false [.int .i64 (k:Int)])) (hrb:X[rb]?=some (.row 1 false [e2])) {i:Nat} (hi:i<l.length) (v0 v4 v5 v6 v7 v8 v9 v10 v11 v12 v13:AV) :
  eA X.length L r [v0,.ptr wb 0 0,.ptr rb 0 0,.ptr kb 0 0,v4,v5,v6,v7,v8,v9,v10,v11,v12,v13] [10,11] (evC (dw GC f9 h0) 300 dZ) (evC (dw GC f9 h0) 300 iV) h0 (.func (.yield L) [] []) [wA p (l[i],i),pV p l n k l[i].f] (P47 p l n k (X++[Ent.loop r 0]) i l[i]) =
   match wk p l n k (l[i],i) with
   | none=>some (.bool true,A47 p l n k (X++[Ent.loop r 0]) (i+1))
   | some res=>some (.bool false,A47 p l n k ((X++[Ent.loop r 1]).set rb (.row 1 false [slA 1 (ak res)])) (i+1)):=by
 have hwl:=(List.getElem?_eq_some_iff.1 hw).1
 have hkl:=(List.getElem?_eq_some_iff.1 hkp).1
 have hrl:=(List.getElem?_eq_some_iff.1 hrb).1
 obtain ⟨P,hP⟩:∃P,P=P47 p l n k (X++[Ent.loop r 0]) i l[i]:=⟨_,rfl⟩
 have hQ:=EG p l n k (X++[Ent.loop r 0]) hi
 rw [<-hP] at hQ ⊢
 have hPn:P[X.length]?=some (.loop r 0):=by rw [hP,P47,List.getElem?_append_left (by simp)]; simp
 obtain ⟨Q,hQ'⟩:∃Q,Q=P++[.row 6 false [wA p (l[i],i)]]:=⟨_,rfl⟩
 have hPl:X.length<P.length:=(List.getElem?_eq_some_iff.1 hPn).1
 have hQn:Q[X.length]?=some (.loop r 0):=by rw [hQ',List.getElem?_append_left hPl]; exact hPn
 have hQo:∀j,j<X.length->(Q.set X.length .dead)[j]?=X[j]?:=fun j hj=>by
  rw [List.getElem?_set_ne (by omega),hQ',hQ,oK _ _ _ _ _ (by simp; omega),List.getElem?_append_left hj]
 have hQv:(Q.set X.length .dead)[P.length]?=some (.row 6 false [wA p (l[i],i)]):=by
  rw [List.getElem?_set_ne (by omega),hQ']; simp
 have hasg:∀v0 v1 v2 v3 v4 v5 v6 v7 v8 v9 v12 v13,run (dw GC f9 h0) 300 [.code dZ] [v0,v1,v2,v3,v4,v5,v6,v7,v8,v9,wA p (l[i],i),pV p l n k l[i].f,v12,v13] P=some (.normal [v0,v1,v2,v3,.ptr P.length 0 0,pV p l n k l[i].f,v6,v7,v8,v9,wA p (l[i],i),pV p l n k l[i].f,v12,v13] Q):=by
  intros
  rw [hQ']
  obtain ⟨H,hH⟩:∃H,H=pV p l n k l[i].f:=⟨_,rfl⟩
  rw [<-hH]
  unfold wA
  simp [dZ]
 cases hwk:wk p l n k (l[i],i) with
 | none=>
  obtain ⟨σ,hb⟩:=y8 h0 (Q:=Q.set X.length .dead) hr hk1 hk ((hQo wb hwl).trans hw) ((hQo kb hkl).trans hkp) (rb:=rb) hi hQv hwk v0 v6 v7 v8 v9 (wA p (l[i],i)) (pV p l n k l[i].f) v12 v13
  unfold eA
  simp [hPn,gz,oo,hasg,hb,hQn,qs hQn]
  rw [hQ',hQ]
 | some res=>
  obtain ⟨σ,hb⟩:=ws h0 (Q:=Q.set X.length .dead) hr hk1 hk ((hQo wb hwl).trans hw) ((hQo kb hkl).trans hkp) ((hQo rb hrl).trans hrb) hi hQv hwk v0 v6 v7 v8 v9 (wA p (l[i],i)) (pV p l n k l[i].f) v12 v13
  unfold eA
  simp [hPn,gz,oo,hasg,hb,hQn]
  rw [hQ',hQ,oJ _ _ _ _ _ (by simp),oJ _ _ _ _ _ (by simp; omega),oJ _ _ _ _ _ (by simp)]
  congr 1
  rw [List.set_comm _ _ (by omega)]
  congr 1
  simp
end
section
variable {X:aa} {n k wb rb kb wp kp:Nat} {e2:AV} {p:Int} {l:List a8}
theorem DF (hr:cg n l p) (hk1:1<=k) (hk:k<=32) (hw:X[wb]?=some (.row 1 false [cQ n p l])) (hkp:X[kb]?=some (.row 1 false [.int .i64 (k:Int)])) (hrb:X[rb]?=some (.row 1 false [e2])) (hw2:X[wp]?=some (.row 1 false [cQ n p l])) (hk2:X[kp]?=some (.row 1 false [.int .i64 (k:Int)])) (m:Nat) (hm:m<=l.length)
  (hno:∀i (hi:i<l.length),i<m->wk p l n k (l[i],i)=none) (res:List Int) (hyes:∀hi:m<l.length,wk p l n k (l[m],m)=some res) (v0 v4 v5 v6 v7 v8 v10 v11 v12 v13:AV) (K:List KC) :
  run (ax GC f9) 300 (.code (.rangeFunc (.var 9) [10,11] dZ iV) :: K) [v0,.ptr wb 0 0,.ptr rb 0 0,.ptr kb 0 0,v4,v5,v6,v7,v8,.func (.func 98) [] [.ptr wp 0 0,.ptr kp 0 0],v10,v11,v12,v13] X =
   after (ax GC f9) 300 K (if m<l.length then .ret [v0,.ptr wb 0 0,.ptr rb 0 0,.ptr kb 0 0,v4,v5,v6,v7,v8,.func (.func 98) [] [.ptr wp 0 0,.ptr kp 0 0],v10,v11,v12,v13] (A47 p l n k ((X++[Ent.dead]).set rb (.row 1 false [slA 1 (ak res)])) (m+1))
    else .normal [v0,.ptr wb 0 0,.ptr rb 0 0,.ptr kb 0 0,v4,v5,v6,v7,v8,.func (.func 98) [] [.ptr wp 0 0,.ptr kp 0 0],v10,v11,v12,v13] (A47 p l n k (X++[Ent.dead]) l.length)):=by
 refine jI _ _ _ _ _ fun L r=>?_
 have hrl:=(List.getElem?_eq_some_iff.1 hrb).1
 have old:∀ {q:Nat} {e:Ent},X[q]?=some e->(X++[Ent.loop r 0])[q]?=some e:=fun {q} {e} h=>by rw [List.getElem?_append_left (List.getElem?_eq_some_iff.1 h).1]; exact h
 have hc:=ev47 (eA X.length L r [v0,.ptr wb 0 0,.ptr rb 0 0,.ptr kb 0 0,v4,v5,v6,v7,v8,.func (.func 98) [] [.ptr wp 0 0,.ptr kp 0 0],v10,v11,v12,v13] [10,11] (evC (dw GC f9 fun _ _ _=>none) 300 dZ) (evC (dw GC f9 fun _ _ _=>none) 300 iV) fun _ _ _=>none) L (X:=X++[Ent.loop r 0]) hr hk (old hw2) (old hk2) m hm
  (fun i hi him=>by rw [wF hr hk1 hk hw hkp hrb hi,hno i hi him]) (A47 p l n k ((X++[Ent.loop r 1]).set rb (.row 1 false [slA 1 (ak res)])) (m+1)) (fun hi=>by rw [wF hr hk1 hk hw hkp hrb hi,hyes hi])
 have hcall:jx f9 (eA X.length L r [v0,.ptr wb 0 0,.ptr rb 0 0,.ptr kb 0 0,v4,v5,v6,v7,v8,.func (.func 98) [] [.ptr wp 0 0,.ptr kp 0 0],v10,v11,v12,v13] [10,11] (evC (dw GC f9 fun _ _ _=>none) 300 dZ) (evC (dw GC f9 fun _ _ _=>none) 300 iV) fun _ _ _=>none)
   (.func (.func 98) [] [.ptr wp 0 0,.ptr kp 0 0]) [.func (.yield L) [] []] (X++[Ent.loop r 0])=_:=hc
 show (match jx f9 _ (.func (.func 98) [] [.ptr wp 0 0,.ptr kp 0 0]) [.func (.yield L) [] []] (X++[Ent.loop r 0]) with
  | some (_,A')=>kC X.length _ A'
  | none=>none)=_
 erw [hcall]
 by_cases hml:m<l.length
 ·simp only [if_pos hml]
  have e1:(A47 p l n k ((X++[Ent.loop r 1]).set rb (.row 1 false [slA 1 (ak res)])) (m+1))[X.length]?=some (.loop r 1):=by
   rw [oK _ _ _ _ _ (by simp),List.getElem?_set_ne (by omega)]; simp
  simp only [kC,e1]
  rw [oJ _ _ _ _ _ (by simp),List.set_comm _ _ (by omega)]
  have e2:(X++[Ent.loop r 1]).set X.length .dead=X++[Ent.dead]:=by simp
  rw [e2]; rfl
 ·simp only [if_neg hml]
  have e1:(A47 p l n k (X++[Ent.loop r 0]) l.length)[X.length]?=some (.loop r 0):=by
   rw [oK _ _ _ _ _ (by simp)]; simp
  simp only [kC,e1]
  rw [oJ _ _ _ _ _ (by simp)]
  have e2:(X++[Ent.loop r 0]).set X.length .dead=X++[Ent.dead]:=by simp
  rw [e2]; rfl
end
theorem n8 {α β:Type} (f:α->Option β) (xs:List α):(xs.findSome? f=none/\∀x∈xs,f x=none)\/∃(m:Nat) (hm:m<xs.length) (r:β),xs.findSome? f=some r/\f xs[m]=some r/\∀i (hi:i<m),f (xs[i]'(by omega))=none:=by
 induction xs with
 | nil=>exact .inl ⟨rfl,by simp⟩
 | cons x xs ih=>
  cases hx:f x with
  | some r=>
   exact .inr ⟨0,by simp,r,by simp [hx],hx,fun i hi=>by omega⟩
  | none=>
   rcases ih with ⟨h1,h2⟩ | ⟨m,hm,r,h1,h2,h3⟩
   ·refine .inl ⟨by simp [hx,h1],fun y hy=>?_⟩
    rcases List.mem_cons.1 hy with rfl | hy
    ·exact hx
    ·exact h2 y hy
   ·refine .inr ⟨m+1,by simp; omega,r,by simp [hx,h1],by simpa using h2,fun i hi=>?_⟩
    cases i with
    | zero=>exact hx
    | succ i=>simpa using h3 i (by omega)
open Go
def M27:aO:=fun args=>evP (ax GC f9) 300 As 5 args
theorem ro:aw Try.prog GC 76 M27:=aw.of_ev (E:=ax GC f9) (au nC) rfl Lm yB 5 fun _ _ h=>⟨300,h⟩
def Iz (n:Nat) (p:Int) (l:List a8) (k kb:Nat) (A:aa):Prop:=A[0]?=some (.row 1 false [cQ n p l])/\A[1]?=some (.row 1 false [.nilS])/\A[kb]?=some (.row 1 false [.int .i64 (k:Int)])/\2<=kb
theorem tu {n:Nat} {p:Int} {l:List a8} {k kb:Nat} {A:aa} (hI:Iz n p l k kb A) (hk:n<k):run (ax GC f9) 300 [.code iU] (iK (.ptr 0 0 0) (.ptr 1 0 0) (.ptr kb 0 0)) A=some (.exit 0 ((iK (.ptr 0 0 0) (.ptr 1 0 0) (.ptr kb 0 0)).set 8 (.bool false)) A):=by
 obtain ⟨h0,h1,h2,h3⟩:=hI
 obtain ⟨W1,O,hW⟩:∃W1 O,cQ n p l=.fp [.int .i64 (n:Int),W1,O]:=⟨_,_,rfl⟩
 rw [hW] at h0
 have b:ag .leq (.int .i64 (k:Int)) (.int .i64 (n:Int))=some (.bool false):=by simp [ag]; omega
 simp [iU,h0,h2,b,-ag]
theorem tw {n:Nat} {p:Int} {l:List a8} {k kb:Nat} {A:aa} (hr:cg n l p) (hI:Iz n p l k kb A) (hk1:1<=k) (hk:k<=n) :
  (eE p l n k=none/\∃A' kb' σ',run (ax GC f9) 300 [.code iU] (iK (.ptr 0 0 0) (.ptr 1 0 0) (.ptr kb 0 0)) A=some (.normal σ' A')/\clear ik σ'=iK (.ptr 0 0 0) (.ptr 1 0 0) (.ptr kb' 0 0)/\Iz n p l (k+1) kb' A') \/
  (∃res,eE p l n k=some res/\∃A' v0 v3 v4 v5 v6 v7 v8 v9 v10 v11 v12 v13,run (ax GC f9) 300 [.code iU] (iK (.ptr 0 0 0) (.ptr 1 0 0) (.ptr kb 0 0)) A=some (.ret [v0,.ptr 0 0 0,.ptr 1 0 0,v3,v4,v5,v6,v7,v8,v9,v10,v11,v12,v13] A')/\A'[1]?=some (.row 1 false [slA 1 (ak res)])):=by
 obtain ⟨h0,h1,h2,h3⟩:=hI
 have hn32:=hr.1.1
 have h1l:=(List.getElem?_eq_some_iff.1 h1).1
 have h2l:=(List.getElem?_eq_some_iff.1 h2).1
 obtain ⟨X,hX⟩:∃X,X=A++[.row 1 false [cQ n p l],.row 1 false [.int .i64 (k:Int)]]:=⟨_,rfl⟩
 have hXo:∀j,j<A.length->X[j]?=A[j]?:=fun j hj=>by rw [hX,List.getElem?_append_left hj]
 have x0:=(hXo 0 (by omega)).trans h0
 have x1:=(hXo 1 h1l).trans h1
 have x2:=(hXo kb h2l).trans h2
 have x3:X[A.length]?=some (.row 1 false [cQ n p l]):=by rw [hX]; simp
 have x4:X[A.length+1]?=some (.row 1 false [.int .i64 (k:Int)]):=by rw [hX,List.getElem?_append_right (by omega)]; simp
 have hXl:X.length=A.length+2:=by rw [hX]; simp
 have b:ag .leq (.int .i64 (k:Int)) (.int .i64 (n:Int))=some (.bool true):=by simp [ag]; omega
 have c42:H42 (fun _ _ _=>none) [cQ n p l,.int .i64 (k:Int)] A=some (.func (.func 98) [] [.ptr A.length 0 0,.ptr (A.length+1) 0 0],X):=by
  rw [hX]; exact ev42 _ _ _ _
 have rg:=fun m hm hno res hyes=>DF (X:=X) (wb:=0) (rb:=1) (kb:=kb) (wp:=A.length) (kp:=A.length+1) hr hk1 (by omega) x0 x2 x1 x3 x4 m hm hno res hyes .undef .undef .undef .undef .undef (.bool true) .undef .undef .undef .undef
 have b3:=bc k (by omega)
 obtain ⟨k1,hk1'⟩:∃k1:Nat,k1=k+1:=⟨_,rfl⟩
 rw [<-hk1'] at b3 ⊢
 obtain ⟨W1,O,hW⟩:∃W1 O,cQ n p l=.fp [.int .i64 (n:Int),W1,O]:=⟨_,_,rfl⟩
 have hlk:aC f9 92=some H42:=rfl
 have hnl:=jg l
 rcases n8 (wk p l n k) (num l) with ⟨q1,q2⟩ | ⟨m,hm,res,q1,q2,q3⟩
 ·left
  refine ⟨q1,?_⟩
  have rg1:=rg l.length (Nat.le_refl _) (fun i hi _=>q2 _ (List.mem_of_getElem? (fq l i hi))) [] (fun h=>absurd h (Nat.lt_irrefl _))
  rw [if_neg (Nat.lt_irrefl _)] at rg1
  obtain ⟨D,hD⟩:∃D,D=A47 p l n k (X++[Ent.dead]) l.length:=⟨_,rfl⟩
  rw [<-hD] at rg1
  have hDo:∀j,j<X.length->D[j]?=X[j]?:=fun j hj=>by rw [hD,oK _ _ _ _ _ (by simp; omega),List.getElem?_append_left hj]
  have hDl:X.length<=D.length:=by rw [hD]; simp [A47]
  have d2:=(hDo kb (by omega)).trans x2
  refine ⟨D++[.row 1 false [.int .i64 (k1:Int)]],D.length,[.undef,.ptr 0 0 0,.ptr 1 0 0,.ptr D.length 0 0,.undef,.undef,.undef,.undef,.undef,.undef,.undef,.undef,.undef,.int .i64 (k:Int)],?_,yK,?_,?_,?_,by omega⟩
  ·rw [hW] at h0 c42
   obtain ⟨Z,hZ⟩:∃Z,Z=A.length+1:=⟨_,rfl⟩
   obtain ⟨Y,hY⟩:∃Y,Y=A.length:=⟨_,rfl⟩
   rw [<-hZ,<-hY] at c42 rg1
   simp [iU,h0,h2,b,c42,rg1,d2,b3,-ag]
  ·rw [List.getElem?_append_left (by omega),hDo 0 (by omega)]; exact x0
  ·rw [List.getElem?_append_left (by omega),hDo 1 (by omega)]; exact x1
  ·simp
 ·right
  refine ⟨res,q1,?_⟩
  rw [hnl] at hm
  have hnm:∀i (hi:i<l.length),(num l)[i]'(by omega)=(l[i],i):=fun i hi=>by
   have:=fq l i hi
   rw [List.getElem?_eq_getElem (by omega)] at this
   exact Option.some.inj this
  have rg1:=rg m (by omega) (fun i hi him=>by rw [<-hnm i hi]; exact q3 i him) res (fun hi=>by rw [<-hnm m hi]; exact q2)
  rw [if_pos hm] at rg1
  obtain ⟨D,hD⟩:∃D,D=A47 p l n k ((X++[Ent.dead]).set 1 (.row 1 false [slA 1 (ak res)])) (m+1):=⟨_,rfl⟩
  rw [<-hD] at rg1
  refine ⟨D,.undef,.ptr kb 0 0,.undef,.undef,.undef,.undef,.bool true,.func (.func 98) [] [.ptr A.length 0 0,.ptr (A.length+1) 0 0],.undef,.undef,.undef,.undef,?_,?_⟩
  ·rw [hW] at h0 c42
   obtain ⟨Z,hZ⟩:∃Z,Z=A.length+1:=⟨_,rfl⟩
   obtain ⟨Y,hY⟩:∃Y,Y=A.length:=⟨_,rfl⟩
   rw [<-hZ,<-hY] at c42 rg1 ⊢
   simp [iU,h0,h2,b,c42,rg1,-ag]
  ·rw [hD,oK _ _ _ _ _ (by simp; omega),List.getElem?_set_self (by simp; omega)]
theorem vF {n:Nat} {p:Int} {l:List a8} (hr:cg n l p):M27 [cQ n p l]=some (slA 1 (ak ((qQ p l n).getD []))):=by
 have hn32:=hr.1.1
 obtain ⟨o,h1,h2⟩:=f8 (E:=ax GC f9) (fuel:=300) (a:=iU) (mask:=ik)
  (fun κ σ A=>∃k kb,k+κ=n+1/\1<=k/\clear ik σ=iK (.ptr 0 0 0) (.ptr 1 0 0) (.ptr kb 0 0)/\Iz n p l k kb A/\∀j,j+1<k->eE p l n (j+1)=none)
  (fun o=>(∃k res A' v0 v3 v4 v5 v6 v7 v8 v9 v10 v11 v12 v13,k<n/\eE p l n (k+1)=some res/\(∀j,j<k->eE p l n (j+1)=none)/\o=.ret [v0,.ptr 0 0 0,.ptr 1 0 0,v3,v4,v5,v6,v7,v8,v9,v10,v11,v12,v13] A'/\A'[1]?=some (.row 1 false [slA 1 (ak res)])) \/
   ((∀j,j<n->eE p l n (j+1)=none)/\∃kb A',o=.exit 0 ((iK (.ptr 0 0 0) (.ptr 1 0 0) (.ptr kb 0 0)).set 8 (.bool false)) A'/\A'[1]?=some (.row 1 false [.nilS])))
  (by
   rintro κ σ A ⟨k,kb,hk,hk1,hσ,hI,hno⟩
   rw [hσ]
   by_cases hkn:k<=n
   ·rcases tw hr hI hk1 hkn with ⟨q1,A',kb',σ',c1,c2,c3⟩ | ⟨res,q1,A',v0,v3,v4,v5,v6,v7,v8,v9,v10,v11,v12,v13,c1,c2⟩
    ·refine .inl ⟨σ',A',c1,κ-1,by omega,k+1,kb',by omega,by omega,c2,c3,fun j hj=>?_⟩
     by_cases hjk:j+1=k
     ·rw [hjk]; exact q1
     ·exact hno j (by omega)
    ·refine .inr ⟨_,c1,(fun _ _ h=>by cases h),.inl ⟨k-1,res,A',v0,v3,v4,v5,v6,v7,v8,v9,v10,v11,v12,v13,by omega,by rw [show k-1+1=k by omega]; exact q1,fun j hj=>hno j (by omega),rfl,c2⟩⟩
   ·refine .inr ⟨_,tu hI (by omega),(fun _ _ h=>by cases h),.inr ⟨fun j hj=>hno j (by omega),kb,A,rfl,hI.2.1⟩⟩)
  300 n (iK (.ptr 0 0 0) (.ptr 1 0 0) (.ptr 2 0 0)) [.row 1 false [cQ n p l],.row 1 false [.nilS],.row 1 false [.int .i64 1]] (by omega) ⟨1,2,by omega,by omega,yK,⟨rfl,rfl,rfl,by omega⟩,fun j hj=>by omega⟩
 have hc:∀k res,k<n->eE p l n (k+1)=some res->(∀j,j<k->eE p l n (j+1)=none)->qQ p l n=some res:=fun k res hk h1 h2=>by
  unfold qQ
  rcases n8 (fun j=>eE p l n (j+1)) (List.range n) with ⟨q1,q2⟩ | ⟨m,hm,r,q1,q2,q3⟩
  ·have:=q2 k (by simp; omega)
   rw [h1] at this; cases this
  ·simp only [List.getElem_range] at q2 q3
   simp only [List.length_range] at hm
   rw [q1]
   rcases Nat.lt_trichotomy m k with h | h | h
   ·rw [h2 m h] at q2; cases q2
   ·rw [h] at q2; rw [h1] at q2; exact q2.symm
   ·rw [q3 k h] at h1; cases h1
 have hc2:(∀j,j<n->eE p l n (j+1)=none)->qQ p l n=none:=fun h=>by
  unfold qQ
  rw [List.findSome?_eq_none_iff]
  intro j hj
  exact h j (by simpa using hj)
 obtain ⟨W1,O,hW⟩:∃W1 O,cQ n p l=.fp [.int .i64 (n:Int),W1,O]:=⟨_,_,rfl⟩
 unfold M27
 rw [aJ _ _ rfl]
 rw [hW] at h1 ⊢
 rcases h2 with ⟨k,res,A',v0,v3,v4,v5,v6,v7,v8,v9,v10,v11,v12,v13,hk,q1,q2,rfl,q3⟩ | ⟨q1,kb,A',rfl,q3⟩
 ·rw [hc k res hk q1 q2]
  simp only [Option.getD_some]
  have hfz:frz A' 5 (slA 1 (ak res))=slA 1 (ak res):=tQ _ _ _ _
  have hR2:slA 1 (ak res)=.nilS\/∃T,slA 1 (ak res)=.fs 1 T:=by
   cases ak res with
   | nil=>exact .inl rfl
   | cons x r=>exact .inr ⟨_,rfl⟩
  rcases hR2 with e | ⟨T,e⟩
  ·rw [e] at q3 ⊢
   simp [As,xR h1,q3]
  ·rw [e] at q3 ⊢
   simp [As,xR h1,q3]
 ·rw [hc2 q1]
  have hset:(A'.set 1 (.row 1 false [.nilS]))[1]?=some (.row 1 false [.nilS]):=List.getElem?_set_self (List.getElem?_eq_some_iff.1 q3).1
  simp [As,xR h1,q3,hset,slA,ak]
def uU:List (FuncId × aG):=[(73,cq 4 M25),(74,cq 4 M26),(76,aD 4 M27)]
@[simp] theorem KG:aC uU 73=some (cq 4 M25):=rfl
@[simp] theorem KF:aC uU 74=some (cq 4 M26):=rfl
@[simp] theorem KE:aC uU 76=some (aD 4 M27):=rfl
theorem nD:∀f M,aC uU f=some M->aj Try.prog GC f M:=ae (aj.of_pureF kI 4) (ae (aj.of_pureF wZ 4) (ae (aj.of_pure ro 4) aA))
def H14:aG:=fun _=>bM (ax GC uU) 0 kM
theorem lH:aj Try.prog GC 46 H14:=(bJ (au nD) rfl A6 kA bj.nil).y
open Classical in
def lvM (n:Int) (l:List a8) (p:Int):List Int × List Int × Bool:=
 if cg n l p then (if (bQ (lar p l) n.toNat).2=true then ((bQ (lar p l) n.toNat).1,[],true) else ([],(qQ p l n.toNat).getD [],false)) else ([],[],false)
def lvT (r:List Int × List Int × Bool):AV:=.tup [slA 1 (ak r.1),slA 1 (ak r.2.1),.bool r.2.2]
theorem nE (xs:List Int):slA 1 (ak xs)=.nilS\/∃T,slA 1 (ak xs)=.fs 1 T:=by
 cases xs with
 | nil=>exact .inl rfl
 | cons x r=>exact .inr ⟨_,rfl⟩
open Classical in
theorem CF (h:aU) {A:aa} {a a':AV} {l:List a8} (ha:frz A 4 a=a') (hl:cu a'=some l) (n p:Int):H14 h [.int .i64 n,a,.int .i64 p] A=some (lvT (lvM n l p),A):=by
 have m1:M25 [.int .i64 n,a',.int .i64 p]=some (if cg n l p then .tup [cQ n.toNat p l,.bool true] else .tup [.nilP,.bool false]):=by simp only [M25,hl,Option.map_some]
 unfold H14
 rw [aZ _ _ rfl]
 by_cases hr:cg n l p
 rotate_left
 ·rw [if_neg hr] at m1
  have e:lvM n l p=([],[],false):=if_neg hr
  rw [e]
  simp [kM,ha,m1,aI,dB,lvT,slA,ak,-frz]
 rw [if_pos hr] at m1
 obtain ⟨m,rfl⟩:∃m:Nat,n=(m:Int):=⟨n.toNat,by have:=hr.1.1; omega⟩
 rw [Int.toNat_natCast] at m1
 have m2:=qh hr
 have m3:=vF hr
 obtain ⟨W1,O,hW⟩:∃W1 O,cQ m p l=.fp [.int .i64 (m:Int),W1,O]:=⟨_,_,rfl⟩
 rw [hW] at m1 m2 m3
 have hfw:∀B,frz B 4 (.fp [.int .i64 (m:Int),W1,O])=.fp [.int .i64 (m:Int),W1,O]:=fun _=>rfl
 have hnr:bo 4 (.fp [.int .i64 (m:Int),W1,O])=true:=rfl
 by_cases hok:(bQ (lar p l) m).2=true
 ·have e:lvM m l p=((bQ (lar p l) m).1,[],true):=by
   unfold lvM; rw [if_pos hr,Int.toNat_natCast,if_pos hok]
  rw [e]
  rw [hok] at m2
  obtain ⟨xs,hxs⟩:∃xs,xs=(bQ (lar p l) m).1:=⟨_,rfl⟩
  rw [<-hxs] at m2 ⊢
  obtain ⟨T,hT⟩:∃T,T=slA 1 (ak xs):=⟨_,rfl⟩
  rw [<-hT] at m2
  simp [kM,ha,m1,m2,aI,hfw,dB,lvT,<-hT,-frz]
  simp [slA,ak]
 ·have e:lvM m l p=([],(qQ p l m).getD [],false):=by
   unfold lvM; rw [if_pos hr,Int.toNat_natCast,if_neg hok]
  rw [e]
  rw [Bool.not_eq_true] at hok
  rw [hok] at m2
  obtain ⟨S,hS⟩:∃S,S=slA 1 (ak (bQ (lar p l) m).1):=⟨_,rfl⟩
  rw [<-hS] at m2
  obtain ⟨T,hT⟩:∃T,T=slA 1 (ak ((qQ p l m).getD [])):=⟨_,rfl⟩
  rw [<-hT] at m3
  simp [kM,ha,m1,m2,m3,aI,hfw,dB,lvT,<-hT,-frz]
  simp [slA,ak]
open Go
theorem bb (A:aa) (n:Nat) (b:Bool):frz A n (.bool b)=.bool b:=by cases n <;> rfl
def kZ (x:Int):Bool:=!decide (0<=x/\x<=1000000000)
def M35:aO:=fun args=>match args with
 | [.int .i64 x]=>some (.bool (kZ x))
 | _=>none
theorem wW:aw Try.prog GC 94 M35:=by
 refine aw.of_ev (E:=ax GC fsW) (au uA) rfl Li yw 1 ?_
 intro args r h
 unfold M35 at h
 split at h
 ·rename_i x
  injection h with h; subst h
  refine ⟨0,?_⟩
  have m:=kE x 0 1000000000
  unfold kZ
  obtain ⟨d,hd⟩:∃d,d=decide (0<=x/\x<=1000000000):=⟨_,rfl⟩
  rw [<-hd] at m ⊢
  rw [aJ _ _ rfl]
  simp [EJ,m,-ag]
 ·cases h
def lg (n:Nat) (x:Int):Bool:=!decide (0<=x/\x<=(n:Int)-1)
def M46:aO:=fun args=>evP (ax GC fsW) 0 DQ 1 args
theorem wS:aw Try.prog GC 91 M46:=aw.of_ev (E:=ax GC fsW) (au uA) rfl Ld yn 1 fun _ _ h=>⟨0,h⟩
theorem zy {n:Nat} {p:Int} {l:List a8} (hl:l.length<=200) (x:Int):M46 [.int .i64 x,.fp [cQ n p l]]=some (.bool (lg l.length x)):=by
 have m:=kE x 0 ((l.length:Int)-1)
 have hlen2:aq (slA 6 (wAs p (num l)))=some (.int .i64 (l.length:Int)):=by rw [qC,qn]
 have b0:ag .sub (.int .i64 (l.length:Int)) (.int .i64 1)=some (.int .i64 ((l.length:Int)-1)):=by
  simp only [ag]; rw [if_pos trivial,dV (by unfold inI; omega)]
 obtain ⟨W1,O,hW,hW1⟩:∃W1 O,cQ n p l=.fp [.int .i64 (n:Int),W1,O]/\W1=slA 6 (wAs p (num l)):=⟨_,_,rfl,rfl⟩
 rw [<-hW1] at hlen2
 rw [hW]
 unfold lg
 obtain ⟨k,hk⟩:∃k,k=(l.length:Int)-1:=⟨_,rfl⟩
 rw [<-hk] at m b0 ⊢
 obtain ⟨d,hd⟩:∃d,d=decide (0<=x/\x<=k):=⟨_,rfl⟩
 rw [<-hd] at m ⊢
 unfold M46
 rw [aJ _ _ rfl]
 simp [DQ,hlen2,b0,m,-ag,-aq]
def zP:List (FuncId × aG):=[(94,aD 4 M35),(91,aD 4 M46)]
@[simp] theorem Jo:aC zP 94=some (aD 4 M35):=rfl
@[simp] theorem Jn:aC zP 91=some (aD 4 M46):=rfl
theorem C7:∀f M,aC zP f=some M->aj Try.prog GC f M:=ae (aj.of_pure wW 4) (ae (aj.of_pure wS 4) aA)
def M45:aO:=fun args=>evP (ax GC zP) 300 wx 1 args
theorem wU:aw Try.prog GC 79 M45:=aw.of_ev (E:=ax GC zP) (au C7) rfl Iu vj 1 fun _ _ h=>⟨300,h⟩
theorem Cv {f:FuncId} {cap:List AV} {Mf:aO} (hlk:aC zP f=some (aD 4 Mf)) {q:Int->Bool} {xs:List Int} (hm:∀x∈xs,∀A,Mf (.int .i64 x :: cap.map (frz A 4))=some (.bool (q x))) {b:AV} (hb:SlA 1 (ak xs) b) (hl:xs.length<=200) :
  M45 [b,.func (.func f) [] cap]=some (.int .i64 (cW q xs)):=by
 have hlen:=hb.len
 rw [aB] at hlen
 have round:∀(A:aa) (i:Nat) (hi:i<xs.length),run (ax GC zP) 300 [.code dY] (eQ b (.func (.func f) [] cap) (.int .i64 (xs.length:Int)) (.int .i64 (i:Int))) A =
   if q xs[i]=false then some (.normal (eQ b (.func (.func f) [] cap) (.int .i64 (xs.length:Int)) (.int .i64 ((i+1:Nat):Int))) A) else some (.ret [b,.func (.func f) [] cap,.int .i64 (i:Int),.int .i64 (i:Int),.int .i64 (xs.length:Int),.int .i64 (i:Int),.bool true,.bool true] A):=fun A i hi=>by
  have x1:=hb.int (A:=A) _ _ (List.getElem?_eq_getElem hi) .i64
  have m:=hm _ (List.getElem_mem hi) A
  have b1:=bu i xs.length .i64
  rw [decide_eq_true hi] at b1
  have b3:=bc i (by omega)
  obtain ⟨i1,hi1⟩:∃i1:Nat,i1=i+1:=⟨_,rfl⟩
  rw [<-hi1] at b3 ⊢
  obtain ⟨d,hd⟩:∃d,d=q xs[i]:=⟨_,rfl⟩
  rw [<-hd] at m ⊢
  cases d with
  | false=>simp [dY,x1,hlk,m,b1,b3,-ag,-ai,-aq]
  | true=>simp [dY,x1,hlk,m,b1,-ag,-ai,-aq]
 unfold M45
 rw [aJ _ _ rfl]
 rcases cI (E:=ax GC zP) (fuel:=300) (a:=dY) (mask:=ex) (fun i=>eQ b (.func (.func f) [] cap) (.int .i64 (xs.length:Int)) (.int .i64 (i:Int))) (fun _=>[]) xs.length (fun i=>¬ ∀hi:i<xs.length,q xs[i]=false)
  (oF:=fun i=>.ret [b,.func (.func f) [] cap,.int .i64 (i:Int),.int .i64 (i:Int),.int .i64 (xs.length:Int),.int .i64 (i:Int),.bool true,.bool true] []) (oE:=.exit 0 ((eQ b (.func (.func f) [] cap) (.int .i64 (xs.length:Int)) (.int .i64 (xs.length:Int))).set 6 (.bool false)) [])
  (fun _=>yI) (fun _ _ _ h=>by cases h) (fun _ _ h=>by cases h)
  (fun i hi hp=>by
   rw [round [] i hi]
   exact if_pos (Classical.not_not.1 hp hi))
  (fun i hi hp=>by
   rw [round [] i hi]
   exact if_neg fun h=>hp fun _=>h)
  (by simp [dY]) (show xs.length<300 by omega) with ⟨i,hi,hp,hj,lp⟩ | ⟨hp,lp⟩
 ·have lp:cc (evC (ax GC zP) 300 dY) ex 300 (eQ b (.func (.func f) [] cap) (.int .i64 (xs.length:Int)) (.int .i64 0)) []=_:=lp
  have e:cW q xs=(i:Int):=bL hi (by
   cases h':q xs[i] with
   | true=>rfl
   | false=>exact absurd (fun _=>h') hp) (fun j hj'=>Classical.not_not.1 (hj j hj') (by omega))
  rw [e]
  simp [wx,hlen,uS lp,-ag,-aq]
 ·have lp:cc (evC (ax GC zP) 300 dY) ex 300 (eQ b (.func (.func f) [] cap) (.int .i64 (xs.length:Int)) (.int .i64 0)) []=_:=lp
  have e:cW q xs = -1:=bO fun i hi=>Classical.not_not.1 (hp i hi) hi
  rw [e]
  simp [wx,hlen,uS lp,-ag,-aq]
def Ih:List (FuncId × aG):=[(79,aD 4 M45)]
@[simp] theorem Jx:aC Ih 79=some (aD 4 M45):=rfl
theorem Dd:∀f M,aC Ih f=some M->aj Try.prog GC f M:=ae (aj.of_pure wU 4) aA
def M36:aO:=fun args=>evP (ax GC Ih) 0 Aq 1 args
theorem uu:aw Try.prog GC 51 M36:=aw.of_ev (E:=ax GC Ih) (au Dd) rfl Iv vk 1 fun _ _ h=>⟨0,h⟩
theorem Cw {F:AV} {q:Int->Bool} {xs:List Int} {b:AV} (hb:SlA 1 (ak xs) b) (hF:∀A,frz A 4 F=F) (h:M45 [b,F]=some (.int .i64 (cW q xs))):M36 [b,F]=some (.bool (xs.any q)):=by
 have b1:=gM (cW q xs)
 rw [cj] at b1
 have f1:∀A n,frz A n b=b:=fun A n=>hb.frz n
 obtain ⟨z,hz⟩:∃z,z=cW q xs:=⟨_,rfl⟩
 rw [<-hz] at h b1
 unfold M36
 rw [aJ _ _ rfl]
 simp [Aq,f1,hF,h,b1,bH,bb,-ag,-frz]
open Go
def fB (n:Int) (l:List a8) (p:Int) (s:List Int):Prop:=cg n l p/\(s.length:Int)=n/\(∀x∈s,0<=x/\x<=1000000000)/\jA (lar p l) s
open Classical in
def M19:aO:=fun args=>match args with
 | [.int .i64 n,a,.int .i64 p,b]=>match cu a,lZ b with
  | some l,some s=>some (.bool (decide (fB n l p s)))
  | _,_=>none
 | _=>none
def mW:List (FuncId × aG):=[(73,cq 4 M25),(51,aD 4 M36),(90,fun _=>bM (ax GC []) 300 xz),(40,fun _=>bM (ax GC []) 0 tE)]
@[simp] theorem Kq:aC mW 73=some (cq 4 M25):=rfl
@[simp] theorem Kp:aC mW 51=some (aD 4 M36):=rfl
@[simp] theorem Ko:aC mW 90=some (fun _=>bM (ax GC []) 300 xz):=rfl
@[simp] theorem Kn:aC mW 40=some (fun _=>bM (ax GC []) 0 tE):=rfl
theorem s9:∀f M,aC mW f=some M->aj Try.prog GC f M:=ae (aj.of_pureF kI 4) (ae (aj.of_pure uu 4) (ae Bl (ae lE aA)))
theorem xY (A:aa):frz A 4 (.func (.func 94) [] [])=.func (.func 94) [] []:=rfl
theorem qd (s:List Int):s.any kZ=false↔∀x∈s,0<=x/\x<=1000000000:=by
 rw [List.any_eq_false]; unfold kZ; simp
open Classical in
theorem uz:aw Try.prog GC 77 M19:=by
 refine aw.of_ev (E:=ax GC mW) (au s9) rfl Lo yD 1 ?_
 intro args r h
 unfold M19 at h
 split at h
 rotate_left
 ·cases h
 rename_i n a p b
 split at h
 rotate_left
 ·cases h
 rename_i l s hl hs
 injection h with h; subst h
 refine ⟨0,?_⟩
 obtain ⟨hb,_,hsl⟩:=jm hs
 have f1:∀A n,frz A n a=a:=fun A n=>ez hl A n
 have f2:∀A n,frz A n b=b:=fun A n=>hb.frz n
 have f3:=fj hl
 have f4:=lY hs
 have m1:M25 [.int .i64 n,a,.int .i64 p]=some (if cg n l p then .tup [cQ n.toNat p l,.bool true] else .tup [.nilP,.bool false]):=by simp only [M25,hl,Option.map_some]
 have hlen:=hb.len
 have hlen':(s.map (AV.int .i64)).length=s.length:=by simp
 rw [hlen'] at hlen
 rw [aJ _ _ rfl]
 by_cases hr:cg n l p
 rotate_left
 ·rw [if_neg hr] at m1
  rw [decide_eq_false (show ¬ fB n l p s from fun h=>hr h.1)]
  simp [zN,f1,m1,aI,bb,-frz,-aq]
 rw [if_pos hr] at m1
 have b1:ag .eql (.int .i64 (s.length:Int)) (.int .i64 n)=some (.bool (decide ((s.length:Int)=n))):=by simp [ag]
 obtain ⟨m,rfl⟩:∃m:Nat,n=(m:Int):=⟨n.toNat,by have:=hr.1.1; omega⟩
 rw [Int.toNat_natCast] at m1
 obtain ⟨W1,O,hW⟩:∃W1 O,cQ m p l=.fp [.int .i64 (m:Int),W1,O]:=⟨_,_,rfl⟩
 by_cases h1:(s.length:Int)=(m:Int)
 rotate_left
 ·rw [decide_eq_false h1] at b1
  rw [decide_eq_false (show ¬ fB m l p s from fun h=>h1 h.2.1)]
  rw [hW] at m1
  simp [zN,f1,m1,hlen,b1,aI,bb,-frz,-aq,-ag]
 rw [decide_eq_true h1] at b1
 have hm32:=hr.1.1
 have m45:=Cv (f:=94) (cap:=[]) (Mf:=M35) rfl (q:=kZ) (xs:=s) (fun x _ A=>rfl) hb (by omega)
 have m36:=Cw (q:=kZ) hb (fun A=>rfl) m45
 by_cases h2:∀x∈s,0<=x/\x<=1000000000
 rotate_left
 ·have h2':s.any kZ=true:=by
   cases h:s.any kZ with
   | true=>rfl
   | false=>exact absurd ((qd s).1 h) h2
  rw [h2'] at m36
  rw [decide_eq_false (show ¬ fB m l p s from fun h=>h2 h.2.2.1)]
  rw [hW] at m1
  simp [zN,f1,f2,m1,hlen,b1,m36,aI,bb,bH,xY,-frz,-aq,-ag]
 rw [(qd s).2 h2] at m36
 have hsm:s.length=m:=by omega
 have hne:s≠[]:=by
  intro h
  rw [h] at hsm
  simp at hsm; omega
 have c38:=In (ax GC []) 0 (A:=[]) (a:=b) (xs:=s) (.inl hb) hne (by omega)
 obtain ⟨A',c37,_⟩:=yW (A:=[.dead,.row 1 false (ak s)]) (id:=1) hsm hr.2 hr.1.2.2 (by omega) hr.1.2.1 (hi:=1000000000) (fun v hv=>by
  have:s.getD v 0∈s:=by rw [List.getD_eq_getElem?_getD,List.getElem?_eq_getElem hv]; simp
  have:=h2 _ this
  omega) (by omega) rfl
 have e:decide (fB m l p s)=!upL (lar p l) s:=by
  cases hu:upL (lar p l) s with
  | true=>
   exact decide_eq_false fun h=>by rw [nf h.2.2.2] at hu; cases hu
  | false=>
   exact decide_eq_true ⟨hr,h1,h2,(fG hu).2⟩
 rw [e]
 rw [hsm] at c38
 rw [hW] at m1 c37
 simp at c38
 simp [zN,f1,f2,m1,hlen,b1,m36,c38,c37,aI,bb,bH,xY,-frz,-aq,-ag]
open Go
def t7 (l:List a8) (i:Int):a8:=l.getD i.toNat ⟨0,0,0,0⟩
def exL (p:Int) (l:List a8):List Int->Int->Int->Int->Option (Int × Int)
 | [],_,s,t=>some (s,t)
 | i :: r,at_,s,t=>if (t7 l i).f=at_ then exL p l r (t7 l i).t (s+(t7 l i).len p) (t+(t7 l i).k) else none
def tK (l:List a8) (xs:List Int):Prop:=∀x∈xs,0<=x/\x<=(l.length:Int)-1
instance (l:List a8) (xs:List Int):Decidable (tK l xs):=inferInstanceAs (Decidable (∀x∈xs,_))
def exM (p:Int) (l:List a8) (xs:List Int):Option (Int × Int):=if (1<=xs.length/\xs.length<=200)/\tK l xs then exL p l xs (t7 l (xs.getLastD 0)).t 0 0 else none
theorem qe (l:List a8) (s:List Int):s.any (lg l.length)=false↔tK l s:=by
 rw [List.any_eq_false]; unfold lg tK; simp
theorem qU {l:List a8} {x:Int} (h:0<=x/\x<=(l.length:Int)-1):∃(j:Nat) (hj:j<l.length),x=(j:Int)/\t7 l x=l[j]:=by
 refine ⟨x.toNat,by omega,by omega,?_⟩
 unfold t7
 rw [List.getD_eq_getElem?_getD,List.getElem?_eq_getElem (by omega)]; rfl
def LF:MC:=.region [⟨none,.indexSl 1 (.var 12) (.var 14),none⟩,⟨none,.load false 1 (.tmp 0),none⟩,⟨some 8,.mv (.tmp 1),none⟩]
def LE:MC:=.region [⟨none,.load false 1 (.var 2),none⟩,⟨none,.nilCheck (.tmp 0),none⟩,⟨none,.fieldAddr 1 (.tmp 1),none⟩,⟨none,.load false 1 (.tmp 2),none⟩,⟨none,.mv (.var 8),none⟩,⟨none,.indexSl 6 (.tmp 3) (.tmp 4),none⟩,⟨none,.load true 6 (.tmp 5),none⟩,⟨some 9,.alloc 6 (.agg [.int .i64 0,.int .i64 0,.int .i64 0,.int .i64 0,.int .i64 0,.int .i64 0]),none⟩,⟨none,.store 6 (.var 9) (.tmp 6),none⟩]
def LD:MC:=.region [⟨none,.fieldAddr 0 (.var 9),none⟩,⟨none,.fieldAddr 0 (.tmp 0),none⟩,⟨none,.load false 1 (.tmp 1),none⟩,⟨none,.mv (.var 7),none⟩,⟨some 16,.bin .neq (.tmp 2) (.tmp 3),none⟩]
def LC:MC:=.region [⟨some 3,.mv (.cst (.int .i64 0)),none⟩,⟨some 4,.mv (.cst (.int .i64 0)),none⟩,⟨some 5,.mv (.cst (.bool false)),none⟩]
def LB:MC:=.region [⟨none,.mv (.var 3),none⟩,⟨none,.fieldAddr 5 (.var 9),none⟩,⟨none,.load false 1 (.tmp 1),none⟩,⟨none,.bin .add (.tmp 0) (.tmp 2),none⟩,⟨none,.mv (.var 4),none⟩,⟨none,.fieldAddr 0 (.var 9),none⟩,⟨none,.fieldAddr 3 (.tmp 5),none⟩,⟨none,.load false 1 (.tmp 6),none⟩,⟨none,.bin .add (.tmp 4) (.tmp 7),none⟩,⟨none,.fieldAddr 0 (.var 9),none⟩,⟨none,.fieldAddr 1 (.tmp 9),none⟩,⟨none,.load false 1 (.tmp 10),none⟩,⟨some 3,.mv (.tmp 3),none⟩,⟨some 4,.mv (.tmp 8),none⟩,⟨some 7,.mv (.tmp 11),none⟩]
theorem Cr:nU=.seq (.region [⟨some 15,.bin .lss (.var 14) (.var 13),none⟩]) (.seq (.cond (.var 15) .skip (.exit 0)) (.seq (.seq (.block 1 (.seq LF (.seq LE (.seq (.seq LD (.cond (.var 16) (.seq LC .ret) .skip)) LB)))) (.kill [0,1,5,6,8,9,10,11,15,16])) (.region [⟨none,.bin .add (.var 14) (.cst (.int .i64 1)),none⟩,⟨some 14,.mv (.tmp 0),none⟩]))):=rfl
theorem IJ (E:Env) (fuel:Nat) (K:List KC) (X:MC) {A:aa} {n j i:Nat} {p:Int} {l:List a8} {xs:List Int} {c:AV} (hc:SlA 1 (ak xs) c) (hi:i<xs.length) (hx:xs[i]=(j:Int)) (hj:j<l.length) (hA:A[0]?=some (.row 1 false [cQ n p l])) (v3 v4 v7 v13 v15 v16:AV) :
  run E fuel (.code (.seq LF (.seq LE X)) :: K) [.undef,.undef,.ptr 0 0 0,v3,v4,.undef,.undef,v7,.undef,.undef,.undef,.undef,c,v13,.int .i64 (i:Int),v15,v16] A =
   run E fuel (.code X :: K) [.undef,.undef,.ptr 0 0 0,v3,v4,.undef,.undef,v7,.int .i64 (j:Int),.ptr A.length 0 0,.undef,.undef,c,v13,.int .i64 (i:Int),v15,v16] (A++[.row 6 false [wA p (l[j],j)]]):=by
 have x1:=hc.int (A:=A) _ _ (List.getElem?_eq_getElem hi) .i64
 rw [hx] at x1
 have x2:=q9 p hj A .i64
 obtain ⟨W1,O,hW,hW1⟩:∃W1 O,cQ n p l=.fp [.int .i64 (n:Int),W1,O]/\W1=slA 6 (wAs p (num l)):=⟨_,_,rfl,rfl⟩
 rw [<-hW1] at x2
 rw [hW] at hA
 simp [LF,LE,x1,x2,hA,wA,-ai]
theorem Dy (E:Env) (fuel:Nat) {A:aa} {n i:Nat} {p:Int} {l:List a8} (hr:cg n l p) {xs:List Int} {c:AV} (hc:SlA 1 (ak xs) c) (hl:xs.length<=200) (hin:tK l xs) (hi:i<xs.length) (hA:A[0]?=some (.row 1 false [cQ n p l])) {s t at_:Int} (hs : -(3000000*(i:Int))<=s/\s<=3000000*i) (ht : -(2*(i:Int))<=t/\t<=2*i) :
  ∃A',A'[0]?=some (.row 1 false [cQ n p l])/\∃v8 v9 v15 v16,run E fuel [.code nU] (nl (.ptr 0 0 0) (.int .i64 s) (.int .i64 t) (.int .i64 at_) c (.int .i64 (xs.length:Int)) (.int .i64 (i:Int))) A =
   if (t7 l xs[i]).f=at_ then some (.normal (nl (.ptr 0 0 0) (.int .i64 (s+(t7 l xs[i]).len p)) (.int .i64 (t+(t7 l xs[i]).k)) (.int .i64 (t7 l xs[i]).t) c (.int .i64 (xs.length:Int)) (.int .i64 ((i+1:Nat):Int))) A')
   else some (.ret [.undef,.undef,.ptr 0 0 0,.int .i64 0,.int .i64 0,.bool false,.undef,.int .i64 at_,v8,v9,.undef,.undef,c,.int .i64 (xs.length:Int),.int .i64 (i:Int),v15,v16] A'):=by
 obtain ⟨j,hj,hx,he⟩:=qU (hin _ (List.getElem_mem hi))
 rw [he]
 have hmem:=hr.1.2.2 _ (List.getElem_mem hj)
 have hn32:=hr.1.1
 have hlen:=gK (n:=32) (a:=l[j]) ⟨⟨by have:=hmem.1; omega,by have:=hmem.1; omega⟩,⟨by have:=hmem.2.1; omega,by have:=hmem.2.1; omega⟩,hmem.2.2.1,hmem.2.2.2⟩ hr.2
 have htok:=hmem.2.2.2
 have r1:=fun K X=>IJ E fuel K X hc hi hx hj hA (.int .i64 s) (.int .i64 t) (.int .i64 at_) (.int .i64 (xs.length:Int)) (.bool true) .undef
 obtain ⟨B,hB⟩:∃B,B=A++[.row 6 false [wA p (l[j],j)]]:=⟨_,rfl⟩
 have hBv:B[A.length]?=some (.row 6 false [wA p (l[j],j)]):=by rw [hB]; simp
 have hB0:B[0]?=some (.row 1 false [cQ n p l]):=by rw [hB,List.getElem?_append_left (List.getElem?_eq_some_iff.1 hA).1]; exact hA
 rw [<-hB] at r1
 unfold wA at hBv
 simp only at hBv
 have b1:=bu i xs.length .i64
 rw [decide_eq_true hi] at b1
 have b3:=bc i (by omega)
 obtain ⟨i1,hi1⟩:∃i1:Nat,i1=i+1:=⟨_,rfl⟩
 rw [<-hi1] at b3 ⊢
 have b2:ag .neq (.int .i64 l[j].f) (.int .i64 at_)=some (.bool (decide (l[j].f≠at_))):=by simp [ag]
 obtain ⟨w,hw⟩:∃w,w=l[j].len p:=⟨_,rfl⟩
 rw [<-hw] at hlen hBv ⊢
 have b4:ag .add (.int .i64 s) (.int .i64 w)=some (.int .i64 (s+w)):=by
  simp only [ag]; rw [if_pos trivial,dV (by unfold inI; omega)]
 have b5:ag .add (.int .i64 t) (.int .i64 l[j].k)=some (.int .i64 (t+l[j].k)):=by
  simp only [ag]; rw [if_pos trivial,dV (by unfold inI; omega)]
 obtain ⟨vid,hvid⟩:∃vid,vid=A.length:=⟨_,rfl⟩
 rw [<-hvid] at r1 hBv
 refine ⟨B,hB0,.int .i64 (j:Int),.ptr vid 0 0,.bool true,.bool true,?_⟩
 by_cases h:l[j].f=at_
 ·rw [if_pos h]
  rw [decide_eq_false (not_not_intro h)] at b2
  rw [Cr]
  simp [b1,b3,r1,LD,LC,LB,hBv,b2,b4,b5,-ag]
 ·rw [if_neg h]
  rw [decide_eq_true h] at b2
  rw [Cr]
  simp [b1,r1,LD,LC,LB,hBv,b2,-ag]
def wC:List (FuncId × aG):=[(88,aD 4 M32),(51,aD 4 M36)]
@[simp] theorem Jv:aC wC 88=some (aD 4 M32):=rfl
@[simp] theorem Ju:aC wC 51=some (aD 4 M36):=rfl
theorem sY:∀f M,aC wC f=some M->aj Try.prog GC f M:=ae (aj.of_pure rk 4) (ae (aj.of_pure uu 4) aA)
def M40:aO:=fun args=>evP (ax GC wC) 300 zL 5 args
theorem nA:aw Try.prog GC 75 M40:=aw.of_ev (E:=ax GC wC) (au sY) rfl Lg yr 5 fun _ _ h=>⟨300,h⟩
def exT (r:Option (Int × Int)):AV:=.tup [.int .i64 (r.getD (0,0)).1,.int .i64 (r.getD (0,0)).2,.bool r.isSome]
theorem vE {n:Nat} {p:Int} {l:List a8} (hr:cg n l p) {xs:List Int} {c:AV} (hc:SlA 1 (ak xs) c) (hmx:xs.length<=9223372036854775807):M40 [cQ n p l,c]=some (exT (exM p l xs)):=by
 have hlen:=hc.len
 rw [aB] at hlen
 have m32:=kE (xs.length:Int) 1 200
 have f1:∀A n,frz A n c=c:=fun A n=>hc.frz n
 unfold M40
 rw [aJ _ _ rfl]
 obtain ⟨W1,O,hW,hW1⟩:∃W1 O,cQ n p l=.fp [.int .i64 (n:Int),W1,O]/\W1=slA 6 (wAs p (num l)):=⟨_,_,rfl,rfl⟩
 by_cases h1:1<=xs.length/\xs.length<=200
 rotate_left
 ·rw [decide_eq_false (by omega)] at m32
  have e:exM p l xs=none:=if_neg fun h=>h1 h.1
  rw [e,hW]
  simp [zL,hlen,m32,exT,-aq]
 rw [decide_eq_true (by omega)] at m32
 have m45:=Cv (f:=91) (cap:=[.fp [cQ n p l]]) (Mf:=M46) rfl (q:=lg l.length) (xs:=xs) (fun x _ A=>zy hr.1.2.1 x) hc h1.2
 have m36:=Cw (q:=lg l.length) hc (fun A=>rfl) m45
 have hfz:frz [.row 1 false [cQ n p l]] 4 (.func (.func 91) [] [.ptr 0 0 0])=.func (.func 91) [] [.fp [cQ n p l]]:=rfl
 by_cases h2:tK l xs
 rotate_left
 ·have h2':xs.any (lg l.length)=true:=by
   cases h:xs.any (lg l.length) with
   | true=>rfl
   | false=>exact absurd ((qe l xs).1 h) h2
  rw [h2'] at m36
  have e:exM p l xs=none:=if_neg fun h=>h2 h.2
  rw [e]
  rw [hW] at m36 hfz ⊢
  simp [zL,hlen,m32,f1,hfz,m36,exT,bH,aI,-aq,-frz]
  simp [frz]
 rw [(qe l xs).2 h2] at m36
 have hex:exM p l xs=exL p l xs (t7 l (xs.getLastD 0)).t 0 0:=if_pos ⟨h1,h2⟩
 have hlast:xs.length-1<xs.length:=by omega
 obtain ⟨j,hj,hx,he⟩:=qU (h2 _ (List.getElem_mem hlast))
 have hgl:xs.getLastD 0=xs[xs.length-1]:=by
  rw [List.getLastD_eq_getLast?,List.getLast?_eq_getElem?,List.getElem?_eq_getElem hlast]; rfl
 rw [hgl,he] at hex
 have x1:∀A,ai 1 A c (.int .i64 ((xs.length-1:Nat):Int))=some (.fp [.int .i64 (j:Int)]):=fun A=>by
  have:=hc.int (A:=A) _ _ (List.getElem?_eq_getElem hlast) .i64
  rwa [hx] at this
 have x2:=fun A=>q9 p hj A .i64
 have b0:ag .sub (.int .i64 (xs.length:Int)) (.int .i64 1)=some (.int .i64 ((xs.length-1:Nat):Int)):=by
  simp only [ag]; rw [if_pos trivial,dV (by unfold inI; omega)]; congr 2; omega
 obtain ⟨o,lp,ho⟩:=f8 (E:=ax GC wC) (fuel:=300) (a:=nU) (mask:=mP)
  (fun κ σ A=>∃(i:Nat) (s t at_:Int),i+κ=xs.length/\σ=nl (.ptr 0 0 0) (.int .i64 s) (.int .i64 t) (.int .i64 at_) c (.int .i64 (xs.length:Int)) (.int .i64 (i:Int))/\A[0]?=some (.row 1 false [cQ n p l])/\exL p l xs l[j].t 0 0=exL p l (xs.drop i) at_ s t/\(-(3000000*(i:Int))<=s/\s<=3000000*i)/\(-(2*(i:Int))<=t/\t<=2*i))
  (fun o=>(∃s t at_ A',exL p l xs l[j].t 0 0=some (s,t)/\o=.exit 0 ((nl (.ptr 0 0 0) (.int .i64 s) (.int .i64 t) (.int .i64 at_) c (.int .i64 (xs.length:Int)) (.int .i64 (xs.length:Int))).set 15 (.bool false)) A') \/
   (exL p l xs l[j].t 0 0=none/\∃v7 v8 v9 v14 v15 v16 A',o=.ret [.undef,.undef,.ptr 0 0 0,.int .i64 0,.int .i64 0,.bool false,.undef,v7,v8,v9,.undef,.undef,c,.int .i64 (xs.length:Int),v14,v15,v16] A'))
  (by
   rintro κ σ A ⟨i,s,t,at_,hik,rfl,hA,hexi,hs,ht⟩
   rw [Cj]
   by_cases hi:i<xs.length
   ·obtain ⟨A',hA',v8,v9,v15,v16,hrun⟩:=Dy (ax GC wC) 300 hr hc h1.2 h2 hi hA (at_:=at_) hs ht
    have hd:xs.drop i=xs[i] :: xs.drop (i+1):=List.drop_eq_getElem_cons hi
    by_cases hf:(t7 l xs[i]).f=at_
    ·rw [if_pos hf] at hrun
     rw [hd,exL,if_pos hf] at hexi
     obtain ⟨j2,hj2,hx2,he2⟩:=qU (h2 _ (List.getElem_mem hi))
     have hmem:=hr.1.2.2 _ (List.getElem_mem hj2)
     have hn32:=hr.1.1
     have hlen2:=gK (n:=32) (a:=l[j2]) ⟨⟨by have:=hmem.1; omega,by have:=hmem.1; omega⟩,⟨by have:=hmem.2.1; omega,by have:=hmem.2.1; omega⟩,hmem.2.2.1,hmem.2.2.2⟩ hr.2
     have htok:=hmem.2.2.2
     rw [he2] at hrun hexi
     exact .inl ⟨_,_,hrun,κ-1,by omega,i+1,_,_,_,by omega,rfl,hA',hexi,by omega,by omega⟩
    ·rw [if_neg hf] at hrun
     rw [hd,exL,if_neg hf] at hexi
     exact .inr ⟨_,hrun,(fun _ _ h=>by cases h),.inr ⟨hexi,_,_,_,_,_,_,_,rfl⟩⟩
   ·obtain rfl:i=xs.length:=by omega
    rw [List.drop_length,exL] at hexi
    refine .inr ⟨_,?_,?_,.inl ⟨s,t,at_,A,hexi,rfl⟩⟩
    ·simp [nU]
    ·intro _ _ h; cases h)
  300 xs.length (nl (.ptr 0 0 0) (.int .i64 0) (.int .i64 0) (.int .i64 l[j].t) c (.int .i64 (xs.length:Int)) (.int .i64 0)) [.row 1 false [cQ n p l]] (by omega) ⟨0,0,0,_,by omega,rfl,rfl,rfl,by omega,by omega⟩
 rw [hex]
 rw [<-hW1] at x2
 rw [hW] at m36 hfz lp ⊢
 obtain ⟨q,hq⟩:∃q,q=xs.length-1:=⟨_,rfl⟩
 rw [<-hq] at x1 b0
 rcases ho with ⟨s,t,at_,A',he1,rfl⟩ | ⟨he1,v7,v8,v9,v14,v15,v16,A',rfl⟩
 ·rw [he1]
  simp [zL,hlen,m32,f1,hfz,m36,b0,x1,x2,BO lp,exT,bH,aI,-aq,-frz,-ag,-ai]
  simp [frz]
 ·rw [he1]
  simp [zL,hlen,m32,f1,hfz,m36,b0,x1,x2,BO lp,exT,bH,aI,-aq,-frz,-ag,-ai]
  simp [frz]
open Go
def WL (L:List dc) (u v j:Nat) (z:Int):Prop:=∃r,isW L u r v/\r.length=j/\jj r=z
def fQ (P:Int->Prop) (y:LP):Prop:=(y=noL/\∀z,¬ P z)\/(y.2=true/\P y.1/\∀z,P z->z<=y.1)
theorem fQ.congr {P Q:Int->Prop} {y:LP} (h:fQ P y) (hpq:∀z,P z↔Q z):fQ Q y:=by
 rcases h with ⟨h1,h2⟩ | ⟨h1,h2,h3⟩
 ·exact .inl ⟨h1,fun z hz=>h2 z ((hpq z).2 hz)⟩
 ·exact .inr ⟨h1,(hpq _).1 h2,fun z hz=>h3 z ((hpq z).2 hz)⟩
theorem ze {P Q:Int->Prop} {x y:LP} (h1:fQ P x) (h2:fQ Q y):fQ (fun z=>P z\/Q z) (jP x y):=by
 obtain ⟨x1,x2⟩:=x
 obtain ⟨y1,y2⟩:=y
 rcases h1 with ⟨e1,a1⟩ | ⟨e1,a1,b1⟩
 ·have:jP (x1,x2) (y1,y2)=(y1,y2):=if_pos (.inl (by rw [e1]; rfl))
  rw [this]
  exact h2.congr fun z=>⟨.inr,fun h=>h.elim (fun h=>absurd h (a1 z)) id⟩
 ·simp only at e1 a1 b1
  rcases h2 with ⟨e2,a2⟩ | ⟨e2,a2,b2⟩
  ·have:jP (x1,x2) (y1,y2)=(x1,x2):=if_neg (by
    rw [e2,e1]
    rintro (h | ⟨h,_⟩) <;> cases h)
   rw [this]
   exact .inr ⟨e1,.inl a1,fun z h=>h.elim (b1 z) fun h=>absurd h (a2 z)⟩
  ·simp only at e2 a2 b2
   by_cases h:y1 > x1
   ·have:jP (x1,x2) (y1,y2)=(y1,y2):=if_pos (.inr ⟨e2,h⟩)
    rw [this]
    exact .inr ⟨e2,.inr a2,fun z hz=>hz.elim (fun hz=>by have:=b1 z hz; simp only; omega) (b2 z)⟩
   ·have:jP (x1,x2) (y1,y2)=(x1,x2):=if_neg (by
     rw [e1]
     rintro (h' | ⟨_,h'⟩)
     ·cases h'
     ·exact h h')
    rw [this]
    exact .inr ⟨e1,.inl a1,fun z hz=>hz.elim (b1 z) fun hz=>by have:=b2 z hz; simp only; omega⟩
theorem zc {P:Int->Prop} {x:LP} (h:fQ P x) (w:Int):fQ (fun z=>∃z',P z'/\z=w+z') (eK x w):=by
 rcases h with ⟨e,a⟩ | ⟨e,a,b⟩
 ·rw [e]
  exact .inl ⟨rfl,fun z ⟨z',h,_⟩=>a z' h⟩
 ·have:eK x w=(x.1+w,x.2):=if_neg (by rw [e]; rintro ⟨h,_⟩; cases h)
  rw [this]
  refine .inr ⟨e,⟨_,a,by simp only; omega⟩,?_⟩
  rintro z ⟨z',h,rfl⟩
  have:=b z' h
  simp only; omega
theorem zd:fQ (fun _=>False) noL:=.inl ⟨rfl,fun _ h=>h⟩
theorem qW {L:List dc} {u v:Nat} {z:Int}:WL L u v 0 z↔u=v/\z=0:=by
 constructor
 ·rintro ⟨r,h1,h2,h3⟩
  have:r=[]:=List.length_eq_zero_iff.1 h2
  subst this
  exact ⟨h1,h3.symm⟩
 ·rintro ⟨rfl,rfl⟩
  exact ⟨[],rfl,rfl,rfl⟩
theorem zn {L:List dc} {u v j:Nat} {z:Int}:WL L u v (j+1) z↔∃a∈L,a.1=u/\∃z',WL L a.2.1 v j z'/\z=a.2.2+z':=by
 constructor
 ·rintro ⟨r,h1,h2,h3⟩
  cases r with
  | nil=>simp at h2
  | cons a r=>
   obtain ⟨k1,k2,k3⟩:=h1
   exact ⟨a,k1,k2,jj r,⟨r,k3,by simpa using h2,rfl⟩,h3.symm⟩
 ·rintro ⟨a,h1,h2,z',⟨r,k1,k2,rfl⟩,rfl⟩
  exact ⟨a :: r,⟨h1,h2,k1⟩,by simp [k2],rfl⟩
theorem xg (n v:Nat):(List.replicate n noL).getD v noL=noL:=by
 rw [List.getD_eq_getElem?_getD]
 by_cases h:v<n <;> simp [h]
theorem uQ {L0:List dc} {n to j:Nat} (hok:sM n L0) {h:List LP} (hh:∀u,u<n->fQ (WL L0 u to j) (h.getD u noL)):∀(L:List dc),(∀a∈L,a∈L0)->∀(next:List LP) (D:Nat->Int->Prop),next.length=n->(∀u,u<n->fQ (D u) (next.getD u noL)) ->
  ∀u,u<n->fQ (fun z=>D u z\/∃a∈L,a.1=u/\∃z',WL L0 a.2.1 to j z'/\z=a.2.2+z') ((L.foldl (hst h) next).getD u noL)
 | [],_,next,D,hn,hD,u,hu=>(hD u hu).congr fun z=>⟨.inl,fun h=>h.elim id fun ⟨a,h,_⟩=>by cases h⟩
 | a :: L,hL,next,D,hn,hD,u,hu=>by
  obtain ⟨o1,o2,_⟩:=hok a (hL a (by simp))
  have:=uQ hok hh L (fun b hb=>hL b (by simp [hb])) (hst h next a) (fun u z=>D u z\/(a.1=u/\∃z',WL L0 a.2.1 to j z'/\z=a.2.2+z')) (by rw [tN,hn]) (fun v hv=>by
   unfold hst
   rw [kc _ _ _ _ _ (by omega)]
   by_cases hav:a.1=v
   ·rw [if_pos hav]
    subst hav
    exact (ze (hD _ o1) (zc (hh _ o2) a.2.2)).congr fun z=>by simp
   ·rw [if_neg hav]
    exact (hD v hv).congr fun z=>⟨.inl,fun h=>h.elim id fun h=>absurd h.1 hav⟩) u hu
  rw [List.foldl_cons]
  refine this.congr fun z=>?_
  constructor
  ·rintro ((h | ⟨h1,h2⟩) | ⟨b,h1,h2⟩)
   ·exact .inl h
   ·exact .inr ⟨a,by simp,h1,h2⟩
   ·exact .inr ⟨b,by simp [h1],h2⟩
  ·rintro (h | ⟨b,h1,h2⟩)
   ·exact .inl (.inl h)
   ·rcases List.mem_cons.1 h1 with rfl | h1
    ·exact .inl (.inr h2)
    ·exact .inr ⟨b,h1,h2⟩
theorem xN {L:List dc} {n to:Nat} (hok:sM n L) (hto:to<n):∀(j u:Nat),u<n->fQ (WL L u to j) ((hm L n to j).getD u noL)
 | 0,u,hu=>by
  unfold hm
  rw [kc _ _ _ _ _ (by simpa using hto)]
  by_cases h:to=u
  ·rw [if_pos h]
   exact .inr ⟨rfl,qW.2 ⟨h.symm,rfl⟩,fun z hz=>by have:=(qW.1 hz).2; simp only; omega⟩
  ·rw [if_neg h,xg]
   exact .inl ⟨rfl,fun z hz=>h (qW.1 hz).1.symm⟩
 | j+1,u,hu=>by
  have:=uQ hok (xN hok hto j) L (fun _ h=>h) (List.replicate n noL) (fun _ _=>False) (by simp) (fun u _=>by rw [xg]; exact zd) u hu
  refine this.congr fun z=>?_
  rw [zn]
  exact ⟨fun h=>h.elim False.elim id,.inr⟩
def rO (l:List a8):Int->List eJ->Int->Prop
 | u,[],v=>u=v
 | u,x :: r,v=>x∈num l/\x.1.f=u/\rO l x.1.t r v
def iD (p:Int) (xs:List eJ):Int:=(xs.map fun x=>x.1.len p).sum
def kG (xs:List eJ):Int:=(xs.map fun x=>x.1.k).sum
def IB (xs:List eJ):Int:=(xs.map fun x=>x.1.w).sum
theorem xE (p:Int):∀xs:List eJ,iD p xs=IB xs-p*kG xs
 | []=>by simp [iD,IB,kG]
 | x :: r=>by
  have:=xE p r
  simp only [iD,IB,kG,List.map_cons,List.sum_cons,a8.len] at this ⊢
  rw [this,Int.mul_add]; omega
def BD (p:Int) (x:eJ):dc:=(x.1.f.toNat,x.1.t.toNat,x.1.len p)
theorem DK {p:Int} {l:List a8} {x:eJ} (h:x∈num l):BD p x∈lar p l:=by
 obtain ⟨hi,he⟩:=kL h
 exact List.mem_map.2 ⟨x.1,by rw [<-he]; exact List.getElem_mem hi,rfl⟩
theorem xG {p:Int} {l:List a8} {a:dc} (h:a∈lar p l):∃x∈num l,BD p x=a:=by
 obtain ⟨c,hc,rfl⟩:=List.mem_map.1 h
 obtain ⟨i,hi,rfl⟩:=List.mem_iff_getElem.1 hc
 exact ⟨(l[i],i),List.mem_of_getElem? (fq l i hi),rfl⟩
theorem rB {n:Int} {l:List a8} (hv:∀x∈l,okA n x) {x:eJ} (h:x∈num l):okA n x.1:=by
 obtain ⟨hi,he⟩:=kL h
 rw [<-he]; exact hv _ (List.getElem_mem hi)
theorem LQ {n p:Int} {l:List a8} (hv:∀x∈l,okA n x):∀ {xs:List eJ} {u v:Int},rO l u xs v->isW (lar p l) u.toNat (xs.map (BD p)) v.toNat/\jj (xs.map (BD p))=iD p xs
 | [],u,v,h=>⟨by rw [show u=v from h]; rfl,rfl⟩
 | x :: r,u,v,⟨h1,h2,h3⟩=>by
  obtain ⟨k1,k2⟩:=LQ hv h3
  refine ⟨⟨DK h1,by rw [<-h2]; rfl,k1⟩,?_⟩
  simp only [List.map_cons,jj,k2,iD,List.sum_cons]
  rfl
section
variable {n to:Nat} {p:Int} {l:List a8} (hv:∀x∈l,okA n x) (hn32:n<=32) (hp:cw p) (hto:to<n)
include hv hn32 hp hto
theorem mV {j:Nat} {sum:Int} {x:eJ} (hx:x∈num l):kO (hm (lar p l) n to j) p sum x=true↔∃z,WL (lar p l) x.1.t.toNat to j z/\sum+x.1.len p+z > 0:=by
 have hok:=rB hv hx
 have ht:=hok.2.1
 have hb:=xN (uN hn32 hp hv) hto j x.1.t.toNat (by omega)
 unfold kO
 obtain ⟨y,hy⟩:∃y,y=(hm (lar p l) n to j).getD x.1.t.toNat noL:=⟨_,rfl⟩
 rw [<-hy] at hb ⊢
 rcases hb with ⟨e,a⟩ | ⟨e,a,b⟩
 ·rw [e]
  constructor
  ·intro h
   have:eK noL (sum+x.1.len p)=noL:=rfl
   rw [this] at h
   simp [noL] at h
  ·rintro ⟨z,hz,_⟩
   exact absurd hz (a z)
 ·have:eK y (sum+x.1.len p)=(y.1+(sum+x.1.len p),y.2):=if_neg (by rw [e]; rintro ⟨h,_⟩; cases h)
  rw [this,e]
  simp only [Bool.true_and,decide_eq_true_eq]
  constructor
  ·intro h
   exact ⟨y.1,a,by omega⟩
  ·rintro ⟨z,hz,h⟩
   have:=b z hz
   omega
theorem wH:∀(r:Nat) (v sum:Int) (out:List Int),0<=v->(∃z,WL (lar p l) v.toNat to r z/\sum+z > 0) ->
  ∃xs:List eJ,oO p l (hm (lar p l) n to) r sum (mt l v.toNat) out=some (out++xs.map fun x=>(x.2:Int))/\rO l v xs (to:Int)/\xs.length=r/\sum+iD p xs > 0
 | 0,v,sum,out,hv0,⟨z,h1,h2⟩=>by
  obtain ⟨h3,rfl⟩:=qW.1 h1
  exact ⟨[],by simp [oO],by show v=(to:Int); omega,rfl,by simpa [iD] using h2⟩
 | r+1,v,sum,out,hv0,⟨z,h1,h2⟩=>by
  obtain ⟨a,ha,haf,z',hz',rfl⟩:=zn.1 h1
  obtain ⟨x,hx,rfl⟩:=xG ha
  have hokx:=rB hv hx
  have hxf:x.1.f=v:=by
   have:=hokx.1
   simp only [BD] at haf; omega
  have hxo:x∈mt l v.toNat:=List.mem_filter.2 ⟨hx,by simp; omega⟩
  have hg:kO (hm (lar p l) n to r) p sum x=true:=(mV hv hn32 hp hto hx).2 ⟨z',hz',by simp only [BD] at h2; omega⟩
  cases hf:(mt l v.toNat).find? (kO (hm (lar p l) n to r) p sum) with
  | none=>
   rw [List.find?_eq_none] at hf
   exact absurd hg (hf x hxo)
  | some b=>
   have hbg:=List.find?_some hf
   have hbo:=List.mem_of_find?_eq_some hf
   have hbn:=(List.mem_filter.1 hbo).1
   have hbf:=(List.mem_filter.1 hbo).2
   simp only [decide_eq_true_eq] at hbf
   have hokb:=rB hv hbn
   obtain ⟨y,hy1,hy2⟩:=(mV hv hn32 hp hto hbn).1 hbg
   obtain ⟨xs,k1,k2,k3,k4⟩:=wH r b.1.t (sum+b.1.len p) (out++[(b.2:Int)]) hokb.2.1.1 ⟨y,hy1,hy2⟩
   refine ⟨b :: xs,?_,⟨hbn,by omega,k2⟩,by simp [k3],?_⟩
   ·simp only [oO,hf,k1]
    simp
   ·simp only [iD,List.map_cons,List.sum_cons] at k4 ⊢
    omega
end
section
variable {n:Nat} {p:Int} {l:List a8} (hv:∀x∈l,okA n x) (hn32:n<=32) (hp:cw p)
include hv hn32 hp
theorem sS {k:Nat} {x:eJ} (hx:x∈num l):(wk p l n (k+1) x=none/\¬ ∃z,WL (lar p l) x.1.t.toNat x.1.f.toNat k z/\x.1.len p+z > 0) \/
  ∃xs:List eJ,wk p l n (k+1) x=some (xs.map fun y=>(y.2:Int))/\rO l x.1.f xs x.1.f/\xs.length=k+1/\iD p xs > 0:=by
 have hok:=rB hv hx
 have hto:x.1.f.toNat<n:=by have:=hok.1; omega
 unfold wk oO
 by_cases hg:kO (hm (lar p l) n x.1.f.toNat k) p 0 x=true
 ·right
  obtain ⟨z,hz1,hz2⟩:=(mV hv hn32 hp hto hx).1 hg
  obtain ⟨xs,k1,k2,k3,k4⟩:=wH hv hn32 hp hto k x.1.t (0+x.1.len p) ([]++[(x.2:Int)]) hok.2.1.1 ⟨z,hz1,by omega⟩
  refine ⟨x :: xs,?_,⟨hx,rfl,?_⟩,by simp [k3],?_⟩
  ·simp only [List.find?_cons,hg,k1]
   simp
  ·have:((x.1.f.toNat:Nat):Int)=x.1.f:=by have:=hok.1; omega
   rw [this] at k2; exact k2
  ·simp only [iD,List.map_cons,List.sum_cons] at k4 ⊢
   omega
 ·left
  refine ⟨?_,fun ⟨z,h1,h2⟩=>hg ((mV hv hn32 hp hto hx).2 ⟨z,h1,by omega⟩)⟩
  rw [Bool.not_eq_true] at hg
  simp [hg]
theorem n9 {k:Nat}:eE p l n (k+1)=none↔∀u c,isW (lar p l) u c u->c.length=k+1->jj c<=0:=by
 unfold eE
 rw [List.findSome?_eq_none_iff]
 constructor
 ·intro h u c hc hl
  cases c with
  | nil=>simp at hl
  | cons a r=>
   obtain ⟨h1,h2,h3⟩:=hc
   obtain ⟨x,hx,rfl⟩:=xG h1
   rcases sS hv hn32 hp (k:=k) hx with ⟨_,h5⟩ | ⟨xs,h4,_⟩
   ·rcases Int.lt_or_le 0 (jj (BD p x :: r)) with h6 | h6
    ·refine absurd ⟨jj r,⟨r,?_,by simpa using hl,rfl⟩,?_⟩ h5
     ·have e:x.1.f.toNat=u:=h2
      rw [e]; exact h3
     ·simp only [jj,BD] at h6; omega
    ·exact h6
   ·rw [h x hx] at h4; cases h4
 ·intro h x hx
  rcases sS hv hn32 hp (k:=k) hx with ⟨h4,_⟩ | ⟨xs,h4,h5,h6,h7⟩
  ·exact h4
  ·obtain ⟨k1,k2⟩:=LQ (p:=p) hv h5
   have:=h _ _ k1 (by simp [h6])
   omega
theorem tT {k:Nat} {res:List Int} (h:eE p l n (k+1)=some res):∃(u:Int) (xs:List eJ),res=xs.map (fun y=>(y.2:Int))/\rO l u xs u/\xs.length=k+1/\iD p xs > 0:=by
 unfold eE at h
 obtain ⟨x,hx,hw⟩:=List.exists_of_findSome?_eq_some h
 rcases sS hv hn32 hp (k:=k) hx with ⟨h4,_⟩ | ⟨xs,h4,h5,h6,h7⟩
 ·rw [h4] at hw; cases hw
 ·rw [h4] at hw
  injection hw with hw
  exact ⟨_,xs,hw.symm,h5,h6,h7⟩
theorem vi:qQ p l n=none↔zx (lar p l) n:=by
 unfold qQ
 rw [List.findSome?_eq_none_iff]
 constructor
 ·intro h u c hc h1 h2
  have:=(n9 hv hn32 hp (k:=c.length-1)).1 (h (c.length-1) (by simp; omega)) u c hc (by omega)
  exact this
 ·intro h j hj
  rw [List.mem_range] at hj
  exact (n9 hv hn32 hp).2 fun u c hc hl=>h u c hc (by omega) (by omega)
theorem vg {res:List Int} (h:qQ p l n=some res):∃(u:Int) (xs:List eJ),res=xs.map (fun y=>(y.2:Int))/\rO l u xs u/\1<=xs.length/\xs.length<=n/\iD p xs > 0:=by
 unfold qQ at h
 obtain ⟨j,hj,hw⟩:=List.exists_of_findSome?_eq_some h
 rw [List.mem_range] at hj
 obtain ⟨u,xs,h1,h2,h3,h4⟩:=tT hv hn32 hp hw
 exact ⟨u,xs,h1,h2,by omega,by omega,h4⟩
end
end Cy
end Go.Proofs.Ytkcjhljbgjpklaa
