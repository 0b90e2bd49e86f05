import Derived.Test.YtkcjhljbgjpklaaUE03
set_option maxRecDepth 100000
set_option maxHeartbeats 4000000
noncomputable section
namespace Go.Proofs.Ytkcjhljbgjpklaa
namespace Cy
open Go
def GC:Nat->Option (List AV):=fun _=>none
structure a8 where
 f:Int
 t:Int
 w:Int
 k:Int
def cF (a:a8):AV:=.agg [.int .i64 a.f,.int .i64 a.t,.int .i64 a.w,.int .i64 a.k]
def a8.inR (a:a8):Prop:=inI a.f/\inI a.t/\inI a.w/\inI a.k
open Classical in
def Bz:AV->Option a8
 | .agg [.int .i64 f,.int .i64 t,.int .i64 w,.int .i64 k]=>if a8.inR ⟨f,t,w,k⟩ then some ⟨f,t,w,k⟩ else none
 | _=>none
theorem qr {x:AV} {a:a8} (h:Bz x=some a):x=cF a/\a.inR:=by
 unfold Bz at h
 split at h
 ·simp only [Option.ite_none_right_eq_some,Option.some.injEq] at h
  obtain ⟨h1,rfl⟩:=h
  exact ⟨rfl,h1⟩
 ·cases h
theorem By {a:a8} (h:a.inR):Bz (cF a)=some a:=if_pos h
def Ez {α:Type} (s:Nat) (f:AV->Option α):AV->Option (List α)
 | .nilS=>some []
 | .fs s' es=>if s'=s/\es.length<=9223372036854775807 then uD f es else none
 | _=>none
def cr (a:AV):Option (List a8):=Ez 4 Bz a
theorem gu {a:AV} {l:List a8} (h:cr a=some l):SlA 4 (l.map cF) a/\l.length<=9223372036854775807/\∀x∈l,x.inR:=by
 unfold cr Ez at h
 split at h
 ·injection h with h; subst h
  exact ⟨.inl ⟨rfl,rfl⟩,by simp,by simp⟩
 ·rename_i s' es
  simp only [Option.ite_none_right_eq_some] at h
  obtain ⟨⟨rfl,hl⟩,h⟩:=h
  obtain ⟨h1,h2⟩:=lu h
  have e:es=l.map cF:=List.ext_getElem (by simpa using h1) fun i k1 k2=>by
   rw [(qr (h2 i k1 (by omega))).1]; simp
  subst e
  refine ⟨.inr rfl,by simpa using hl,fun x hx=>?_⟩
  obtain ⟨i,hi,rfl⟩:=List.mem_iff_getElem.1 hx
  have:=h2 i (by simpa using hi) hi
  exact (qr this).2
 ·cases h
theorem zN {a:AV} {l:List a8} (h:SlA 4 (l.map cF) a) (hl:l.length<=9223372036854775807) (hr:∀x∈l,x.inR):cr a=some l:=by
 unfold cr Ez
 rcases h with ⟨rfl,h⟩ | rfl
 ·have:l=[]:=by simpa using h
  subst this; rfl
 ·simp only [List.length_map]
  rw [if_pos ⟨trivial,hl⟩]
  exact oV fun x hx=>By (hr x hx)
section
variable {a:AV} {l:List a8}
theorem lr (h:cr a=some l):aq a=some (.int .i64 (l.length:Int))/\l.length<=9223372036854775807:=by
 obtain ⟨h1,h2,_⟩:=gu h
 have:=h1.len
 simp only [List.length_map] at this
 exact ⟨this,h2⟩
theorem sX (h:cr a=some l) {i:Nat} (hi:i<l.length):∀A k,ag 4 A a (.int k (i:Int))=some (.fp [.int .i64 l[i].f,.int .i64 l[i].t,.int .i64 l[i].w,.int .i64 l[i].k]):=fun A k=>by
 obtain ⟨h1,h2,_⟩:=gu h
 have hx:(l.map cF)[i]?=some (cF l[i]):=by simp [hi]
 exact h1.index (A:=A) hx rfl (by simp) k
theorem eJ (h:cr a=some l) (A:ab) (n:Nat):frz A n a=a:=(gu h).1.frz n
theorem fG (h:cr a=some l) (n:Nat):bh n a=true:=by
 rcases (gu h).1 with ⟨rfl,_⟩ | rfl <;> cases n <;> rfl
end
theorem f6 {l:List a8} (hl:l.length<=9223372036854775807) (h:∀x∈l,x.inR):cr (slA 4 (l.map cF))=some l:=zN (be _ _) hl h
def M32:aP:=fun args=>match args with
 | [.int .i64 n,.int .i64 lo,.int .i64 hi]=>some (.bool (decide (lo<=n/\n<=hi)))
 | _=>none
theorem kO (n lo hi:Int):M32 [.int .i64 n,.int .i64 lo,.int .i64 hi]=some (.bool (decide (lo<=n/\n<=hi))):=rfl
theorem uJ (n lo hi:Int):decide (lo<=n/\n<=hi)=(decide (lo<=n) && decide (n<=hi)):=by
 rw [Bool.eq_iff_iff,decide_eq_true_eq,Bool.and_eq_true,decide_eq_true_eq,decide_eq_true_eq]
theorem rN:au Try.prog GC 88 M32:=by
 refine au.of_ev (E:=ax GC []) (aw aA) rfl LI yZ 1 ?_
 intro args r h
 unfold M32 at h
 split at h
 ·rename_i n lo hi
  injection h with h; subst h
  refine ⟨0,?_⟩
  have b1:ai .geq (.int .i64 n) (.int .i64 lo)=some (.bool (decide (lo<=n))):=by simp [ai]
  have b2:ai .leq (.int .i64 n) (.int .i64 hi)=some (.bool (decide (n<=hi))):=by simp [ai]
  rw [uJ]
  obtain ⟨p,hp⟩:∃p,p=decide (lo<=n):=⟨_,rfl⟩
  obtain ⟨q,hq⟩:∃q,q=decide (n<=hi):=⟨_,rfl⟩
  rw [<-hp] at b1 ⊢
  rw [<-hq] at b2 ⊢
  rw [aK _ _ rfl]
  cases p <;> simp [E9,b1,b2,-ai]
 ·cases h
theorem nH:au Try.prog GC 36 M32:=by
 refine au.of_ev (E:=ax GC []) (aw aA) rfl Fi qo 1 ?_
 intro args r h
 unfold M32 at h
 split at h
 ·rename_i n lo hi
  injection h with h; subst h
  refine ⟨0,?_⟩
  have b1:ai .geq (.int .i64 n) (.int .i64 lo)=some (.bool (decide (lo<=n))):=by simp [ai]
  have b2:ai .leq (.int .i64 n) (.int .i64 hi)=some (.bool (decide (n<=hi))):=by simp [ai]
  rw [uJ]
  obtain ⟨p,hp⟩:∃p,p=decide (lo<=n):=⟨_,rfl⟩
  obtain ⟨q,hq⟩:∃q,q=decide (n<=hi):=⟨_,rfl⟩
  rw [<-hp] at b1 ⊢
  rw [<-hq] at b2 ⊢
  rw [aK _ _ rfl]
  cases p <;> simp [tj,b1,b2,-ai]
 ·cases h
def cw (p:Int):Prop:=-1000000<=p/\p<=1000000
instance (p:Int):Decidable (cw p):=inferInstanceAs (Decidable (_/\_))
def M41:aP:=fun args=>match args with
 | [.int .i64 p]=>some (.bool (decide (cw p)))
 | _=>none
def fsW:List (FuncId × aG):=[(88,aD 4 M32),(36,aD 4 M32)]
@[simp] theorem Mu:aC fsW 88=some (aD 4 M32):=rfl
@[simp] theorem Mt:aC fsW 36=some (aD 4 M32):=rfl
theorem uW:∀f M,aC fsW f=some M->aj Try.prog GC f M:=af (aj.of_pure rN 4) (af (aj.of_pure nH 4) aA)
theorem nF:au Try.prog GC 72 M41:=by
 refine au.of_ev (E:=ax GC fsW) (aw uW) rfl HI sN 1 ?_
 intro args r h
 unfold M41 at h
 split at h
 ·rename_i p
  injection h with h; subst h
  refine ⟨0,?_⟩
  have m:=kO p (-1000000) 1000000
  rw [show decide (-1000000<=p/\p<=1000000)=decide (cw p) from rfl] at m
  rw [aK _ _ rfl]
  simp [xT,m]
 ·cases h
def okA (n:Int) (a:a8):Prop:=(0<=a.f/\a.f<=n-1)/\(0<=a.t/\a.t<=n-1)/\(-1000000<=a.w/\a.w<=1000000)/\(-2<=a.k/\a.k<=2)
instance (n:Int) (a:a8):Decidable (okA n a):=inferInstanceAs (Decidable (_/\_))
def dq (n:Int) (a:a8):Bool:=!decide (okA n a)
theorem Ar (n:Int) (a:a8):dq n a=(!decide (0<=a.f/\a.f<=n-1) || !decide (0<=a.t/\a.t<=n-1) || !decide (-1000000<=a.w/\a.w<=1000000) || !decide (-2<=a.k/\a.k<=2)):=by
 unfold dq okA
 by_cases h1:0<=a.f/\a.f<=n-1 <;> by_cases h2:0<=a.t/\a.t<=n-1 <;> by_cases h3 : -1000000<=a.w/\a.w<=1000000 <;> by_cases h4 : -2<=a.k/\a.k<=2 <;> simp [h1,h2,h3,h4]
def M31:aP:=fun args=>match args with
 | [.agg [.int .i64 f,.int .i64 t,.int .i64 w,.int .i64 k],.fp [.int .i64 n]]=>if 1<=n/\n<=32 then some (.bool (dq n ⟨f,t,w,k⟩)) else none
 | _=>none
theorem xq:au Try.prog GC 96 M31:=by
 refine au.of_ev (E:=ax GC fsW) (aw uW) rfl LJ y8 1 ?_
 intro args r h
 unfold M31 at h
 split at h
 ·rename_i f t w k n
  simp only [Option.ite_none_right_eq_some,Option.some.injEq] at h
  obtain ⟨hn,rfl⟩:=h
  refine ⟨0,?_⟩
  rw [Ar]
  have m1:=kO f 0 (n-1)
  have m2:=kO t 0 (n-1)
  have m3:=kO w (-1000000) 1000000
  have m4:=kO k (-2) 2
  have b:ai .sub (.int .i64 n) (.int .i64 1)=some (.int .i64 (n-1)):=by
   simp only [ai]; rw [if_pos trivial,eu (by unfold inI; omega)]
  simp only
  obtain ⟨p1,hp1⟩:∃p,p=decide (0<=f/\f<=n-1):=⟨_,rfl⟩
  obtain ⟨p2,hp2⟩:∃p,p=decide (0<=t/\t<=n-1):=⟨_,rfl⟩
  obtain ⟨p3,hp3⟩:∃p,p=decide (-1000000<=w/\w<=1000000):=⟨_,rfl⟩
  obtain ⟨p4,hp4⟩:∃p,p=decide (-2<=k/\k<=2):=⟨_,rfl⟩
  rw [<-hp1] at m1 ⊢
  rw [<-hp2] at m2 ⊢
  rw [<-hp3] at m3 ⊢
  rw [<-hp4] at m4 ⊢
  obtain ⟨n1,hn1⟩:∃n1,n1=n-1:=⟨_,rfl⟩
  rw [<-hn1] at b m1 m2
  rw [aK _ _ rfl]
  cases p1
  ·simp [AS,b,m1,-ai]
  ·cases p2
   ·simp [AS,b,m1,m2,-ai]
   ·cases p3
    ·simp [AS,b,m1,m2,m3,-ai]
    ·simp [AS,b,m1,m2,m3,m4,-ai]
 ·cases h
open Go
def yz (n:Int):AV:=.func (.func 96) [] [.fp [.int .i64 n]]
def Cq:List (FuncId × aG):=[(96,aD 4 M31)]
@[simp] theorem JQ:aC Cq 96=some (aD 4 M31):=rfl
theorem Du:∀f M,aC Cq f=some M->aj Try.prog GC f M:=af (aj.of_pure xq 4) aA
def c9 {α:Type} (p:α->Bool) (l:List α):Int:=match l.findIdx? p with
 | some i=>i
 | none=>-1
theorem bJ {α:Type} {p:α->Bool} {l:List α} {i:Nat} (hi:i<l.length) (h1:p l[i]=true) (h2:∀j (hj:j<i),p (l[j]'(by omega))=false):c9 p l=(i:Int):=by
 have:l.findIdx? p=some i:=List.findIdx?_eq_some_iff_getElem.2 ⟨hi,h1,fun j hj=>by simpa using h2 j hj⟩
 unfold c9; rw [this]
theorem bM {α:Type} {p:α->Bool} {l:List α} (h:∀i (hi:i<l.length),p l[i]=false):c9 p l = -1:=by
 have:l.findIdx? p=none:=by
  rw [List.findIdx?_eq_none_iff]
  intro x hx
  obtain ⟨i,hi,rfl⟩:=List.mem_iff_getElem.1 hx
  exact h i hi
 unfold c9; rw [this]
theorem cm {α:Type} (p:α->Bool) (l:List α):decide (0<=c9 p l)=l.any p:=by
 unfold c9
 cases h:l.findIdx? p with
 | some i=>
  obtain ⟨hi,h1,_⟩:=List.findIdx?_eq_some_iff_getElem.1 h
  show decide (0<=(i:Int))=_
  rw [decide_eq_true (by omega),eq_comm,List.any_eq_true]
  exact ⟨_,List.getElem_mem hi,h1⟩
 | none=>
  rw [List.findIdx?_eq_none_iff] at h
  show decide (0<=(-1:Int))=_
  rw [decide_eq_false (by omega),eq_comm,List.any_eq_false]
  intro x hx; rw [h x hx]; simp
theorem ev44 {a:AV} {l:List a8} (ha:cr a=some l) {n:Int} (hn:1<=n/\n<=32):evP (ax GC Cq) (l.length+1) AQ 1 [a,yz n]=some (.int .i64 (c9 (dq n) l)):=by
 obtain ⟨hl,hm⟩:=lr ha
 have round:∀(A:ab) (i:Nat) (hi:i<l.length),run (ax GC Cq) (l.length+1) [.code iV] (lI a (yz n) (.int .i64 (l.length:Int)) (.int .i64 (i:Int))) A =
   if dq n l[i]=false then some (.normal (lI a (yz n) (.int .i64 (l.length:Int)) (.int .i64 ((i+1:Nat):Int))) A) else some (.ret [a,yz n,.int .i64 (i:Int),.int .i64 (i:Int),.int .i64 (l.length:Int),.int .i64 (i:Int),.bool true,.bool true] A):=fun A i hi=>by
  have x1:=sX ha hi A .i64
  have m:M31 [.agg [.int .i64 l[i].f,.int .i64 l[i].t,.int .i64 l[i].w,.int .i64 l[i].k],.fp [.int .i64 n]]=some (.bool (dq n l[i])):=if_pos hn
  have b1:=bj i l.length .i64
  rw [decide_eq_true hi] at b1
  have b3:=aY i (by omega)
  obtain ⟨i1,hi1⟩:∃i1:Nat,i1=i+1:=⟨_,rfl⟩
  rw [<-hi1] at b3 ⊢
  obtain ⟨d,hd⟩:∃d,d=dq n l[i]:=⟨_,rfl⟩
  rw [<-hd] at m ⊢
  cases d with
  | false=>simp [iV,yz,x1,m,frz,b1,b3,-ai,-ag,-aq]
  | true=>simp [iV,yz,x1,m,frz,b1,-ai,-ag,-aq]
 rw [aK _ _ rfl]
 rcases cI (E:=ax GC Cq) (fuel:=l.length+1) (a:=iV) (mask:=im) (fun i=>lI a (yz n) (.int .i64 (l.length:Int)) (.int .i64 (i:Int))) (fun _=>[]) l.length (fun i=>¬ ∀hi:i<l.length,dq n l[i]=false)
  (oF:=fun i=>.ret [a,yz n,.int .i64 (i:Int),.int .i64 (i:Int),.int .i64 (l.length:Int),.int .i64 (i:Int),.bool true,.bool true] []) (oE:=.exit 0 ((lI a (yz n) (.int .i64 (l.length:Int)) (.int .i64 (l.length:Int))).set 6 (.bool false)) [])
  (fun _=>CF) (fun _ _ _ h=>by cases h) (fun _ _ h=>by cases h)
  (fun i hi hp=>by
   rw [round [] i hi]
   exact if_pos (Classical.not_not.1 hp hi))
  (fun i hi hp=>by
   rw [round [] i hi]
   exact if_neg fun h=>hp fun _=>h)
  (by simp [iV]) (Nat.lt_succ_self _) with ⟨i,hi,hp,hj,lp⟩ | ⟨hp,lp⟩
 ·have lp:bU (evC (ax GC Cq) (l.length+1) iV) im (l.length+1) (lI a (yz n) (.int .i64 (l.length:Int)) (.int .i64 0)) []=_:=lp
  have e:c9 (dq n) l=(i:Int):=bJ hi (by
   cases h:dq n l[i] with
   | true=>rfl
   | false=>exact absurd (fun _=>h) hp) (fun j hj'=>Classical.not_not.1 (hj j hj') (by omega))
  rw [e]
  simp [AQ,hl,Cg lp,-ai,-aq]
 ·have lp:bU (evC (ax GC Cq) (l.length+1) iV) im (l.length+1) (lI a (yz n) (.int .i64 (l.length:Int)) (.int .i64 0)) []=_:=lp
  have e:c9 (dq n) l = -1:=bM fun i hi=>Classical.not_not.1 (hp i hi) hi
  rw [e]
  simp [AQ,hl,Cg lp,-ai,-aq]
def M44:aP:=fun args=>match args with
 | [a,.func (.func 96) [] [.fp [.int .i64 n]]]=>if 1<=n/\n<=32 then (cr a).map fun l=>.int .i64 (c9 (dq n) l) else none
 | _=>none
theorem xn:au Try.prog GC 103 M44:=by
 refine au.of_ev (E:=ax GC Cq) (aw Du) rfl LC yT 1 ?_
 intro args r h
 unfold M44 at h
 split at h
 ·simp only [Option.ite_none_right_eq_some,Option.map_eq_some_iff] at h
  obtain ⟨hn,l,hl,rfl⟩:=h
  exact ⟨_,ev44 hl hn⟩
 ·cases h
def M33:aP:=fun args=>match args with
 | [a,.func (.func 96) [] [.fp [.int .i64 n]]]=>if 1<=n/\n<=32 then (cr a).map fun l=>.bool (l.any (dq n)) else none
 | _=>none
def J5:List (FuncId × aG):=[(103,aD 4 M44)]
@[simp] theorem J4:aC J5 103=some (aD 4 M44):=rfl
theorem DC:∀f M,aC J5 f=some M->aj Try.prog GC f M:=af (aj.of_pure xn 4) aA
theorem iA (z:Int):ai .geq (.int .i64 z) (.int .i64 0)=some (.bool (decide (0<=z))):=by simp [ai]
theorem xp:au Try.prog GC 97 M33:=by
 refine au.of_ev (E:=ax GC J5) (aw DC) rfl LH yY 1 ?_
 intro args r h
 unfold M33 at h
 split at h
 ·rename_i a n
  simp only [Option.ite_none_right_eq_some,Option.map_eq_some_iff] at h
  obtain ⟨hn,l,hl,rfl⟩:=h
  refine ⟨0,?_⟩
  have m:M44 [a,.func (.func 96) [] [.fp [.int .i64 n]]]=some (.int .i64 (c9 (dq n) l)):=by
   simp only [M44,hl,Option.map_some]; exact if_pos hn
  have b:=iA (c9 (dq n) l)
  rw [cm] at b
  have f1:=eJ hl
  have f2:=fG hl
  obtain ⟨z,hz⟩:∃z,z=c9 (dq n) l:=⟨_,rfl⟩
  rw [<-hz] at m b
  rw [aK _ _ rfl]
  simp [E8,m,b,f1,f2,frz,-ai]
 ·cases h
def dS (n:Int) (l:List a8):Prop:=(1<=n/\n<=32)/\l.length<=200/\∀a∈l,okA n a
theorem zQ (n:Int) (l:List a8):l.any (dq n)=false↔∀a∈l,okA n a:=by
 rw [List.any_eq_false]
 unfold dq
 simp
open Classical in
def M16:aP:=fun args=>match args with
 | [.int .i64 n,a]=>(cr a).map fun l=>.bool (decide (dS n l))
 | _=>none
def yq:List (FuncId × aG):=[(88,aD 4 M32),(97,aD 4 M33),(36,aD 4 M32)]
@[simp] theorem La:aC yq 88=some (aD 4 M32):=rfl
@[simp] theorem K9:aC yq 97=some (aD 4 M33):=rfl
@[simp] theorem K8:aC yq 36=some (aD 4 M32):=rfl
theorem tH:∀f M,aC yq f=some M->aj Try.prog GC f M:=af (aj.of_pure rN 4) (af (aj.of_pure xp 4) (af (aj.of_pure nH 4) aA))
open Classical in
theorem lN:au Try.prog GC 89 M16:=by
 refine au.of_ev (E:=ax GC yq) (aw tH) rfl HL sQ 1 ?_
 intro args r h
 unfold M16 at h
 split at h
 ·rename_i n a
  simp only [Option.map_eq_some_iff] at h
  obtain ⟨l,hl,rfl⟩:=h
  refine ⟨0,?_⟩
  have m1:=kO n 1 32
  have hlen:=(lr hl).1
  have f1:=eJ hl
  have f2:=fG hl
  have b1:ai .leq (.int .i64 (l.length:Int)) (.int .i64 200)=some (.bool (decide (l.length<=200))):=by simp [ai]; omega
  rw [aK _ _ rfl]
  by_cases h1:1<=n/\n<=32
  rotate_left
  ·rw [decide_eq_false h1] at m1
   rw [decide_eq_false (show ¬ dS n l from fun h=>h1 h.1)]
   simp [p5,m1,-ai,-aq]
  rw [decide_eq_true h1] at m1
  by_cases h2:l.length<=200
  rotate_left
  ·rw [decide_eq_false h2] at b1
   rw [decide_eq_false (show ¬ dS n l from fun h=>h2 h.2.1)]
   simp [p5,m1,hlen,b1,-ai,-aq]
  rw [decide_eq_true h2] at b1
  have m2:M33 [a,.func (.func 96) [] [.fp [.int .i64 n]]]=some (.bool (l.any (dq n))):=by
   simp only [M33,hl,Option.map_some]; exact if_pos h1
  have e:decide (dS n l)=!(l.any (dq n)):=by
   rw [Bool.eq_iff_iff,decide_eq_true_eq,Bool.not_eq_true',zQ]
   exact ⟨fun h=>h.2.2,fun h=>⟨h1,h2,h⟩⟩
  rw [e]
  obtain ⟨d,hd⟩:∃d,d=l.any (dq n):=⟨_,rfl⟩
  rw [<-hd] at m2 ⊢
  simp [p5,m1,m2,hlen,b1,f1,f2,frz,-ai,-aq]
 ·cases h
def ck (n:Int) (l:List a8) (p:Int):Prop:=dS n l/\cw p
def a8.len (a:a8) (p:Int):Int:=a.w-p*a.k
theorem gO {n p:Int} {a:a8} (h:okA n a) (hp:cw p) : -3000000<=a.len p/\a.len p<=3000000 /\ -2000000<=p*a.k/\p*a.k<=2000000:=by
 obtain ⟨_,_,h3,h4⟩:=h
 unfold cw at hp
 unfold a8.len
 have h5:a.k = -2\/a.k = -1\/a.k=0\/a.k=1\/a.k=2:=by omega
 rcases h5 with h | h | h | h | h <;> rw [h] <;> omega
open Go
theorem MT (E:Env) (a n:Int) (ha:inI a) (hn:0<n):evP E 0 Gk 1 [.int .i64 a,.int .i64 n]=some (.int .i64 (pick a n)):=by
 have h3:n≠0:=by omega
 rw [aK _ _ rfl]
 by_cases h:a<0
 ·have h1:IntKind.i64.wrap (a+1)=a+1:=eu (by unfold inI at *; omega)
  have h2:IntKind.i64.wrap (-(a+1)) = -(a+1):=eu (by unfold inI at *; omega)
  simp [Gk,h,h1,h2,h3,pick]
 ·simp [Gk,h,h3,pick]
def M12:aP:=fun args=>match args with
 | [.int .i64 a,.int .i64 n]=>if (-9223372036854775808<=a/\a<=9223372036854775807)/\0<n then some (.int .i64 (pick a n)) else none
 | _=>none
theorem dg {a n:Int} (ha:inI a) (hn:0<n):M12 [.int .i64 a,.int .i64 n]=some (.int .i64 (pick a n)):=if_pos ⟨ha,hn⟩
theorem xy:au Try.prog GC 21 M12:=by
 refine au.of_ev (E:=ax GC []) (aw aA) rfl at12 Hz 1 ?_
 intro args r h
 unfold M12 at h
 split at h
 ·simp only [Option.ite_none_right_eq_some,Option.some.injEq] at h
  obtain ⟨⟨h1,h2⟩,rfl⟩:=h
  exact ⟨0,MT _ _ _ h1 h2⟩
 ·cases h
open Go
abbrev eU:=a8 × Nat
def num (l:List a8):List eU:=l.zipIdx
def wA (p:Int) (x:eU):AV:=.agg [.int .i64 x.1.f,.int .i64 x.1.t,.int .i64 x.1.w,.int .i64 x.1.k,.int .i64 (x.2:Int),.int .i64 (x.1.len p)]
def mA (l:List a8) (v:Nat):List eU:=(num l).filter fun x=>decide (x.1.f=(v:Int))
def wAs (p:Int) (l:List eU):List AV:=l.map (wA p)
theorem vj (l:List a8) (i:Nat) (hi:i<l.length):num (l.take (i+1))=num (l.take i)++[(l[i],i)]:=by
 unfold num
 rw [List.take_succ_eq_append_getElem hi,List.zipIdx_append]
 simp
 omega
theorem jh (l:List a8):(num l).length=l.length:=by simp [num]
theorem fI (l:List a8) (i:Nat) (hi:i<l.length):(num l)[i]?=some (l[i],i):=by
 simp [num,hi]
theorem kT {l:List a8} {x:eU} (h:x∈num l):∃hi:x.2<l.length,l[x.2]=x.1:=by
 obtain ⟨i,hi,rfl⟩:=List.mem_iff_getElem.1 h
 rw [jh] at hi
 have:=fI l i hi
 have h2:(num l)[i]'(by rw [jh]; exact hi)=(l[i],i):=by
  rw [List.getElem?_eq_getElem (by rw [jh]; exact hi)] at this
  exact Option.some.inj this
 rw [h2]
 exact ⟨hi,rfl⟩
theorem xN (l:List a8) (i v:Nat) (hi:i<l.length):mA (l.take (i+1)) v=if l[i].f=(v:Int) then mA (l.take i) v++[(l[i],i)] else mA (l.take i) v:=by
 unfold mA
 rw [vj l i hi,List.filter_append]
 by_cases h:l[i].f=(v:Int) <;> simp [h]
theorem vg (l:List a8) (v:Nat):(mA l v).length<=l.length:=by
 unfold mA
 have:=List.length_filter_le (fun x:eU=>decide (x.1.f=(v:Int))) (num l)
 rw [jh] at this
 exact this
def rz (A:ab) (s:AV) (xs:List AV):Prop:=(s=.nilS/\xs=[])\/∃id gr,s=.sl id 0 xs.length/\xs≠[]/\2<=id/\A[id]?=some (.row 6 gr xs)
theorem rz.keep {A B:ab} {s:AV} {xs:List AV} (h:rz A s xs) (hAB:∀id,id∈aW s->B[id]?=A[id]?):rz B s xs:=by
 rcases h with h | ⟨id,gr,rfl,h1,h2,h3⟩
 ·exact .inl h
 ·exact .inr ⟨id,gr,rfl,h1,h2,by rw [hAB id (by simp [aW]),h3]⟩
theorem rz.low {A:ab} {s:AV} {xs:List AV} (h:rz A s xs):∀id,id∈aW s->2<=id/\id<A.length:=by
 rcases h with ⟨rfl,_⟩ | ⟨id,gr,rfl,h1,h2,h3⟩
 ·intro id h; simp [aW] at h
 ·intro j hj
  simp only [aW,List.mem_singleton] at hj
  subst hj
  exact ⟨h2,(List.getElem?_eq_some_iff.1 h3).1⟩
theorem rz.append {A:ab} {s:AV} {xs:List AV} (h:rz A s xs) (x:AV) (hA:2<=A.length) (hl:xs.length<=1000) :
  ∃s' k A',aN 6 48 A s (.fs 6 [x])=some (.sl s' 0 k,A')/\rz A' (.sl s' 0 k) (xs++[x])/\A.length<=A'.length/\(∀j,j<A.length->j ∉ aW s->A'[j]?=A[j]?)/\(s'∈aW s\/s'=A.length):=by
 rcases h with ⟨rfl,rfl⟩ | ⟨id,gr,rfl,h1,h2,h3⟩
 ·refine ⟨A.length,1,A++[.row 6 false [x]],by simp [aN,aQ],.inr ⟨A.length,false,rfl,by simp,hA,by simp⟩,by simp,fun j hj _=>by rw [List.getElem?_append_left hj],.inr rfl⟩
 ·have hid:=(List.getElem?_eq_some_iff.1 h3).1
  refine ⟨id,(xs++[x]).length,A.set id (.row 6 true (xs++[x])),?_,.inr ⟨id,true,rfl,by simp,h2,by simp [hid]⟩,by simp,fun j hj hn=>?_,.inl (by simp [aW])⟩
  ·simp only [aN,aQ,h3]
   simp [h1]
   omega
  ·rw [List.getElem?_set_ne (fun e=>hn (by simp [aW,e]))]
theorem Cr (A:ab) (p:Int) (x:eU) (n:Nat):frz A (n+1) (wA p x)=wA p x:=by
 cases n <;> simp [frz,wA]
theorem rz.frz {A:ab} {s:AV} {p:Int} {l:List eU} (h:rz A s (wAs p l)) (n:Nat):frz A (n+2) s=slA 6 (wAs p l):=by
 have e:(wAs p l).map (Proofs.Ytkcjhljbgjpklaa.frz A (n+1))=wAs p l:=by
  unfold wAs
  rw [List.map_map]
  apply List.map_congr_left
  intro x _
  exact Cr A p x n
 rcases h with ⟨rfl,h⟩ | ⟨id,gr,rfl,h1,h2,h3⟩
 ·rw [h]; rfl
 ·show Proofs.Ytkcjhljbgjpklaa.frz A (n+1+1) _=_
  simp only [Proofs.Ytkcjhljbgjpklaa.frz,h3]
  rw [List.drop_zero,List.take_of_length_le (Nat.le_refl _),e]
  cases hw:wAs p l with
  | nil=>exact absurd hw h1
  | cons y r=>rfl
theorem Bh (A:ab) (p:Int) (x:eU) (n:Nat):ba A (n+1) (wA p x)=true:=by
 cases n <;> simp [ba,wA]
theorem rz.fresh {A:ab} {s:AV} {p:Int} {l:List eU} (h:rz A s (wAs p l)) (n:Nat):ba A (n+2) s=true:=by
 rcases h with ⟨rfl,h⟩ | ⟨id,gr,rfl,h1,h2,h3⟩
 ·rfl
 ·show ba A (n+1+1) _=_
  simp only [ba,h3]
  rw [List.drop_zero,List.take_of_length_le (Nat.le_refl _),List.all_eq_true]
  intro y hy
  obtain ⟨x,_,rfl⟩:=List.mem_map.1 hy
  exact Bh A p x n
def Me:MC:=.region [⟨none,.mv (.var 12),none⟩,⟨none,.indexSl 4 (.var 10) (.var 12),none⟩,⟨none,.load true 4 (.tmp 1),none⟩,⟨some 7,.alloc 4 (.agg [.int .i64 0,.int .i64 0,.int .i64 0,.int .i64 0]),none⟩,⟨some 6,.mv (.tmp 0),none⟩,⟨none,.store 4 (.var 7) (.tmp 2),none⟩]
def Md:MC:=.region [⟨none,.load true 4 (.var 7),none⟩,⟨none,.mv (.var 6),none⟩,⟨none,.fieldAddr 2 (.var 7),none⟩,⟨none,.load false 1 (.tmp 2),none⟩,⟨none,.mv (.var 2),none⟩,⟨none,.fieldAddr 3 (.var 7),none⟩,⟨none,.load false 1 (.tmp 5),none⟩,⟨none,.bin .mul (.tmp 4) (.tmp 6),none⟩,⟨none,.bin .sub (.tmp 3) (.tmp 7),none⟩,⟨none,.build [.int .i64 0,.int .i64 0,.int .i64 0,.int .i64 0,.int .i64 0,.int .i64 0] [(0,(4,.tmp 0)),(4,(1,.tmp 1)),(5,(1,.tmp 8))],none⟩,⟨some 8,.alloc 6 (.agg [.int .i64 0,.int .i64 0,.int .i64 0,.int .i64 0,.int .i64 0,.int .i64 0]),none⟩,⟨none,.store 6 (.var 8) (.tmp 9),none⟩]
def Mc:MC:=.region [⟨none,.mv (.var 5),none⟩,⟨none,.mv (.var 5),none⟩,⟨none,.nilCheck (.tmp 1),none⟩,⟨none,.fieldAddr 1 (.tmp 2),none⟩,⟨none,.load false 1 (.tmp 3),none⟩,⟨none,.load true 6 (.var 8),none⟩,⟨none,.buildF 6 [.tmp 5],none⟩,⟨none,.append 6 48 (.tmp 4) (.tmp 6),none⟩,⟨none,.nilCheck (.tmp 0),none⟩,⟨none,.fieldAddr 1 (.tmp 8),none⟩,⟨none,.store 1 (.tmp 9) (.tmp 7),none⟩]
def IV:MC:=.regionD [] [⟨none,.mv (.var 5),none⟩,⟨none,.nilCheck (.tmp 0),none⟩,⟨none,.fieldAddr 2 (.tmp 1),none⟩,⟨none,.load false 1 (.tmp 2),none⟩,⟨none,.fieldAddr 0 (.var 7),none⟩,⟨none,.load false 1 (.tmp 4),none⟩,⟨none,.mv (.var 5),none⟩,⟨none,.nilCheck (.tmp 6),none⟩,⟨none,.fieldAddr 2 (.tmp 7),none⟩,⟨none,.load false 1 (.tmp 8),none⟩,⟨none,.fieldAddr 0 (.var 7),none⟩,⟨none,.load false 1 (.tmp 10),none⟩,⟨none,.indexSl 1 (.tmp 9) (.tmp 11),none⟩,⟨none,.load false 1 (.tmp 12),none⟩,⟨none,.load true 6 (.var 8),none⟩,⟨none,.buildF 6 [.tmp 14],none⟩,⟨none,.append 6 48 (.tmp 13) (.tmp 15),none⟩,⟨none,.indexSl 1 (.tmp 3) (.tmp 5),none⟩,⟨none,.store 1 (.tmp 17) (.tmp 16),none⟩] [(2,16),(3,16),(4,16),(5,16)]
theorem HX:lW=.seq (.region [⟨some 13,.bin .lss (.var 12) (.var 11),none⟩]) (.seq (.cond (.var 13) .skip (.exit 0)) (.seq (.seq (.block 1 (.seq Me (.seq Md (.seq Mc IV)))) (.kill [0,1,3,4,6,7,8,9,13])) (.region [⟨none,.bin .add (.var 12) (.cst (.int .i64 1)),none⟩,⟨some 12,.mv (.tmp 0),none⟩]))):=rfl
theorem Jb (E:Env) (fuel:Nat) (K:List KC) (A:ab) {a:AV} {l:List a8} (ha:cr a=some l) {p:Int} (hp:cw p) {i:Nat} (hi:i<l.length) (hv:okA 32 l[i]) (w v13:AV) (X:MC) :
  run E fuel (.code Me :: .code (.seq Md X) :: K) [.undef,.undef,.int .i64 p,.undef,.undef,w,.undef,.undef,.undef,.undef,a,.int .i64 (l.length:Int),.int .i64 (i:Int),v13] A =
   run E fuel (.code X :: K) [.undef,.undef,.int .i64 p,.undef,.undef,w,.int .i64 (i:Int),.ptr A.length 0 0,.ptr (A.length+1) 0 0,.undef,a,.int .i64 (l.length:Int),.int .i64 (i:Int),v13] (A++[.row 4 false [cF l[i]],.row 6 false [wA p (l[i],i)]]):=by
 have x1:=sX ha hi A .i64
 obtain ⟨k1,k2,k3,k4⟩:=gO hv hp
 obtain ⟨_,_,h3,h4⟩:=hv
 have b1:ai .mul (.int .i64 p) (.int .i64 l[i].k)=some (.int .i64 (p*l[i].k)):=by
  simp only [ai]; rw [if_pos trivial,eu (by unfold inI; omega)]
 have b2:ai .sub (.int .i64 l[i].w) (.int .i64 (p*l[i].k))=some (.int .i64 (l[i].len p)):=by
  simp only [ai]; rw [if_pos trivial,eu (by unfold a8.len at k1 k2; unfold inI; omega)]; rfl
 unfold cF wA
 simp only []
 obtain ⟨pk,hpk⟩:∃pk,pk=p*l[i].k:=⟨_,rfl⟩
 rw [<-hpk] at b1 b2
 simp [Me,Md,x1,b1,b2,-ai,-ag]
theorem r25c (E:Env) (fuel:Nat) (K:List KC) {B B2:ab} {v2 v6 v7 v10 v11 v12 v13 n va os:AV} {i8 j k:Nat} {c1 c2 c3 c4 c5 c6:Int}
  (h1:B[1]?=some (.row 3 false [.agg [n,va,os]])) (h8:B[i8]?=some (.row 6 false [.agg [.int .i64 c1,.int .i64 c2,.int .i64 c3,.int .i64 c4,.int .i64 c5,.int .i64 c6]])) (ap:aN 6 48 B va (.fs 6 [.agg [.int .i64 c1,.int .i64 c2,.int .i64 c3,.int .i64 c4,.int .i64 c5,.int .i64 c6]])=some (.sl j 0 k,B2)) (h1':B2[1]?=some (.row 3 false [.agg [n,va,os]])) :
  run E fuel (.code Mc :: K) [.undef,.undef,v2,.undef,.undef,.ptr 1 0 0,v6,v7,.ptr i8 0 0,.undef,v10,v11,v12,v13] B =
   run E fuel K [.undef,.undef,v2,.undef,.undef,.ptr 1 0 0,v6,v7,.ptr i8 0 0,.undef,v10,v11,v12,v13] (B2.set 1 (.row 3 false [.agg [n,.sl j 0 k,os]])):=by
 simp [Mc,h1,h8,ap,h1']
theorem r25d (E:Env) (fuel:Nat) (K:List KC) {B B2:ab} {v2 v6 v10 v11 v12 v13 n va o:AV} {i7 i8 f m j k:Nat} {os:List AV} {a:a8} {c1 c2 c3 c4 c5 c6:Int}
  (h1:B[1]?=some (.row 3 false [.agg [n,va,.sl 0 0 m]])) (h7:B[i7]?=some (.row 4 false [cF a])) (h8:B[i8]?=some (.row 6 false [.agg [.int .i64 c1,.int .i64 c2,.int .i64 c3,.int .i64 c4,.int .i64 c5,.int .i64 c6]])) (haf:a.f=(f:Int)) (hfm:f<m)
  (h0:B[0]?=some (.row 1 false os)) (ho:os[f]?=some o) (hs:o=.nilS\/∃i k,o=.sl i 0 k)
  (ap:aN 6 48 B o (.fs 6 [.agg [.int .i64 c1,.int .i64 c2,.int .i64 c3,.int .i64 c4,.int .i64 c5,.int .i64 c6]])=some (.sl j 0 k,B2)) (h0':B2[0]?=some (.row 1 false os)) (hid:∀j∈aW o,j≠1/\j≠i7) (hB1:B.length≠1) (hB7:B.length≠i7) :
  run E fuel (.code IV :: K) [.undef,.undef,v2,.undef,.undef,.ptr 1 0 0,v6,.ptr i7 0 0,.ptr i8 0 0,.undef,v10,v11,v12,v13] B =
   run E fuel K [.undef,.undef,v2,.undef,.undef,.ptr 1 0 0,v6,.ptr i7 0 0,.ptr i8 0 0,.undef,v10,v11,v12,v13] (B2.set 0 (.row 1 false (os.set f (.sl j 0 k)))):=by
 have hB1':¬ 1=B.length:=fun e=>hB1 e.symm
 have hB7':¬ i7=B.length:=fun e=>hB7 e.symm
 simp only [cF,haf] at h7
 rcases hs with rfl | ⟨i,q,rfl⟩
 ·simp [IV,h1,h7,h8,h0,ho,ap,h0',hB1',hB7',hfm]
 ·obtain ⟨hi1,hi7⟩:=hid i (by simp [aW])
  have hi1':¬ 1=i:=fun e=>hi1 e.symm
  have hi7':¬ i7=i:=fun e=>hi7 e.symm
  simp [IV,h1,h7,h8,h0,ho,ap,h0',hB1',hB7',hfm,hi1',hi7']
def zW (n:Nat) (p:Int) (l:List a8) (i:Nat) (A:ab):Prop:=∃(va:AV) (os:List AV),A[0]?=some (.row 1 false os)/\A[1]?=some (.row 3 false [.agg [.int .i64 (n:Int),va,.sl 0 0 n]])/\os.length=n/\rz A va (wAs p (num (l.take i))) /\
 (∀(v:Nat) (o:AV),os[v]?=some o->rz A o (wAs p (mA (l.take i) v)))/\(∀(v:Nat) (o:AV) (j:Nat),os[v]?=some o->j∈aW o->j ∉ aW va)/\(∀(u v:Nat) (o q:AV) (j:Nat),u≠v->os[u]?=some o->os[v]?=some q->j∈aW o->j ∉ aW q)
theorem nW {z:Int} {n:Int} (h:0<=z/\z<=n-1):∃m:Nat,z=(m:Int)/\(m:Int)<n:=⟨z.toNat,by omega,by omega⟩
theorem rz.form2 {A:ab} {s:AV} {xs:List AV} (h:rz A s xs):s=.nilS\/∃i k,s=.sl i 0 k:=by
 rcases h with ⟨rfl,_⟩ | ⟨id,gr,rfl,_⟩
 ·exact .inl rfl
 ·exact .inr ⟨_,_,rfl⟩
theorem DY (E:Env) (fuel:Nat) (A:ab) {a:AV} {l:List a8} (ha:cr a=some l) {p:Int} (hp:cw p) {n:Nat} (hn:n<=32) (hl200:l.length<=200) (hv:∀x∈l,okA n x) {i:Nat} (hi:i<l.length) (hI:zW n p l i A) :
  ∃A',run E fuel [.code lW] (lJ (.int .i64 p) (.ptr 1 0 0) a (.int .i64 (l.length:Int)) (.int .i64 (i:Int))) A=some (.normal (lJ (.int .i64 p) (.ptr 1 0 0) a (.int .i64 (l.length:Int)) (.int .i64 ((i+1:Nat):Int))) A')/\zW n p l (i+1) A':=by
 obtain ⟨va,os,g0,g1,hos,gs,go,gd1,gd2⟩:=hI
 have hmem:=hv _ (List.getElem_mem hi)
 obtain ⟨f,hf,hfn⟩:=nW hmem.1
 have hv32:okA 32 l[i]:=by
  obtain ⟨h1,h2,h3,h4⟩:=hmem
  exact ⟨by omega,by omega,h3,h4⟩
 have hA2:2<=A.length:=(List.getElem?_eq_some_iff.1 g1).1
 obtain ⟨B,hB⟩:∃B,B=A++[.row 4 false [cF l[i]],.row 6 false [wA p (l[i],i)]]:=⟨_,rfl⟩
 have hAB:∀id,id<A.length->B[id]?=A[id]?:=fun id hid=>by rw [hB,List.getElem?_append_left hid]
 have h7:B[A.length]?=some (.row 4 false [cF l[i]]):=by rw [hB]; simp
 have h8:B[A.length+1]?=some (.row 6 false [wA p (l[i],i)]):=by rw [hB,List.getElem?_append_right (by omega)]; simp
 have hBl:B.length=A.length+2:=by rw [hB]; simp
 have k0:=(hAB 0 (by omega)).trans g0
 have k1:=(hAB 1 (by omega)).trans g1
 have gsB:rz B va (wAs p (num (l.take i))):=gs.keep fun id h=>hAB id (gs.low id h).2
 have hnl:(wAs p (num (l.take i))).length<=1000:=by simp [wAs,jh]; omega
 obtain ⟨ja,ka,B2,ap1,s1,len1,keep1,ids1⟩:=gsB.append (wA p (l[i],i)) (by omega) hnl
 have hva:=gs.low
 have q1:=(keep1 1 (by omega) fun h=>by have:=(hva 1 h).1; omega).trans k1
 obtain ⟨B3,hB3⟩:∃B3,B3=B2.set 1 (.row 3 false [.agg [.int .i64 (n:Int),(.sl ja 0 ka),.sl 0 0 n]]):=⟨_,rfl⟩
 have hB3l:B3.length=B2.length:=by rw [hB3]; simp
 have c1:B3[1]?=some (.row 3 false [.agg [.int .i64 (n:Int),(.sl ja 0 ka),.sl 0 0 n]]):=by rw [hB3]; exact List.getElem?_set_self (by omega)
 have hB23:∀id,id≠1->B3[id]?=B2[id]?:=fun id h=>by rw [hB3,List.getElem?_set_ne (Ne.symm h)]
 have c0:=((hB23 0 (by omega)).trans (keep1 0 (by omega) fun h=>by have:=(hva 0 h).1; omega)).trans k0
 have c7:=((hB23 A.length (by omega)).trans (keep1 A.length (by omega) fun h=>by have:=(hva _ h).2; omega)).trans h7
 have c8:=((hB23 (A.length+1) (by omega)).trans (keep1 (A.length+1) (by omega) fun h=>by have:=(hva _ h).2; omega)).trans h8
 have s1':rz B3 (.sl ja 0 ka) (wAs p (num (l.take i))++[wA p (l[i],i)]):=s1.keep fun id h=>hB23 id (by have:=(s1.low id h).1; omega)
 obtain ⟨o,ho⟩:∃o,os[f]?=some o:=⟨os[f]'(by omega),List.getElem?_eq_getElem _⟩
 have keepO:∀v q,os[v]?=some q->rz B3 q (wAs p (mA (l.take i) v)):=fun v q hq=>(go v q hq).keep fun id h=>by
  have:=(go v q hq).low id h
  rw [hB23 id (by omega),keep1 id (by omega) (gd1 v q id hq h),hAB id this.2]
 have so:=keepO f o ho
 have hol:(wAs p (mA (l.take i) f)).length<=1000:=by
  have:=vg (l.take i) f
  simp only [wAs,List.length_map]
  simp at this; omega
 obtain ⟨jo,ko,B4,ap2,s2,len2,keep2,ids2⟩:=so.append (wA p (l[i],i)) (by omega) hol
 have hoi:=(go f o ho).low
 have d0:=(keep2 0 (by omega) fun h=>by have:=(hoi 0 h).1; omega).trans c0
 obtain ⟨B5,hB5⟩:∃B5,B5=B4.set 0 (.row 1 false (os.set f (.sl jo 0 ko))):=⟨_,rfl⟩
 have hB45:∀id,id≠0->B5[id]?=B4[id]?:=fun id h=>by rw [hB5,List.getElem?_set_ne (Ne.symm h)]
 have ids1':∀x,x∈aW (.sl ja 0 ka)->x∈aW va\/x=B.length:=fun x hx=>by
  simp only [aW,List.mem_singleton] at hx
  rw [hx]; exact ids1
 have ids2':∀x,x∈aW (.sl jo 0 ko)->x∈aW o\/x=B3.length:=fun x hx=>by
  simp only [aW,List.mem_singleton] at hx
  rw [hx]; exact ids2
 refine ⟨B5,?_,.sl ja 0 ka,os.set f (.sl jo 0 ko),?_,?_,?_,?_,?_,?_,?_⟩
 ·have r1:=fun K X=>Jb E fuel K A ha hp hi hv32 (.ptr 1 0 0) (.bool true) X
  rw [<-hB] at r1
  have r2:=fun K=>r25c E fuel K (B:=B) (B2:=B2) (v2:=.int .i64 p) (v6:=.int .i64 (i:Int)) (v7:=.ptr A.length 0 0) (v10:=a) (v11:=.int .i64 (l.length:Int)) (v12:=.int .i64 (i:Int)) (v13:=.bool true) (n:=.int .i64 (n:Int)) (va:=va) (j:=ja) (k:=ka) (os:=.sl 0 0 n) (i8:=A.length+1) k1 h8 ap1 q1
  rw [<-hB3] at r2
  have r3:=fun K=>r25d E fuel K (B:=B3) (B2:=B4) (v2:=.int .i64 p) (v6:=.int .i64 (i:Int)) (i7:=A.length) (v10:=a) (v11:=.int .i64 (l.length:Int)) (v12:=.int .i64 (i:Int)) (v13:=.bool true) (n:=.int .i64 (n:Int)) (va:=.sl ja 0 ka) (o:=o) (j:=jo) (k:=ko) (os:=os) (m:=n) (f:=f) (a:=l[i]) (i8:=A.length+1) c1 c7 c8 hf (by omega) c0 ho so.form2 ap2 d0 (fun j hj=>⟨by have:=(hoi j hj).1; omega,by have:=(hoi j hj).2; omega⟩) (by omega) (by omega)
  rw [<-hB5] at r3
  have b1:=bj i l.length .i64
  rw [decide_eq_true hi] at b1
  have b3:=aY i (by omega)
  obtain ⟨i1,hi1⟩:∃i1:Nat,i1=i+1:=⟨_,rfl⟩
  rw [<-hi1] at b3 ⊢
  rw [HX]
  simp [b1,b3,r1,r2,r3,-ai]
 ·rw [hB5]; exact List.getElem?_set_self (by omega)
 ·rw [hB45 1 (by omega),keep2 1 (by omega) fun h=>by have:=(hoi 1 h).1; omega]
  exact c1
 ·simp [hos]
 ·rw [vj l i hi,show wAs p (num (l.take i)++[(l[i],i)])=wAs p (num (l.take i))++[wA p (l[i],i)] by simp [wAs]]
  refine s1'.keep fun id h=>?_
  have h1:=s1'.low id h
  rw [hB45 id (by omega),keep2 id h1.2 fun h2=>?_]
  rcases ids1' id h with h3 | h3
  ·exact gd1 f o id ho h2 h3
  ·have:=(hoi id h2).2; omega
 ·intro v q hq
  rw [xN l i v hi]
  by_cases hvf:v=f
  ·subst hvf
   rw [List.getElem?_set_self (by omega)] at hq
   injection hq with hq; subst hq
   rw [if_pos hf,show wAs p (mA (l.take i) v++[(l[i],i)])=wAs p (mA (l.take i) v)++[wA p (l[i],i)] by simp [wAs]]
   exact s2.keep fun id h=>hB45 id (by have:=(s2.low id h).1; omega)
  ·rw [List.getElem?_set_ne (Ne.symm hvf)] at hq
   rw [if_neg (by rw [hf]; omega)]
   refine (keepO v q hq).keep fun id h=>?_
   have h1:=(keepO v q hq).low id h
   rw [hB45 id (by omega),keep2 id h1.2 (gd2 v f q o id hvf hq ho h)]
 ·intro v q j hq hj hj2
  have hnew:j∈aW va\/j=B.length:=ids1' j hj2
  by_cases hvf:v=f
  ·subst hvf
   rw [List.getElem?_set_self (by omega)] at hq
   injection hq with hq; subst hq
   have h5:=(s1.low j hj2).2
   rcases ids2' j hj with h3 | h3
   ·have:=(hoi j h3).2
    rcases hnew with h4 | h4
    ·exact gd1 v o j ho h3 h4
    ·omega
   ·omega
  ·rw [List.getElem?_set_ne (Ne.symm hvf)] at hq
   have:=((go v q hq).low j hj).2
   rcases hnew with h4 | h4
   ·exact gd1 v q j hq hj h4
   ·omega
 ·intro u v q r j huv hq hr hj hj2
  by_cases huf:u=f
  ·subst huf
   rw [List.getElem?_set_self (by omega)] at hq
   injection hq with hq; subst hq
   rw [List.getElem?_set_ne huv] at hr
   have:=((go v r hr).low j hj2).2
   rcases ids2' j hj with h3 | h3
   ·exact gd2 u v o r j huv ho hr h3 hj2
   ·omega
  ·rw [List.getElem?_set_ne (Ne.symm huf)] at hq
   have:=((go u q hq).low j hj).2
   by_cases hvf:v=f
   ·subst hvf
    rw [List.getElem?_set_self (by omega)] at hr
    injection hr with hr; subst hr
    rcases ids2' j hj2 with h3 | h3
    ·exact gd2 u v q o j huv hq ho hj h3
    ·omega
   ·rw [List.getElem?_set_ne (Ne.symm hvf)] at hr
    exact gd2 u v q r j huv hq hr hj hj2
theorem aJ (A:ab) (n:Nat) (k:IntKind) (z:Int):frz A n (.int k z)=.int k z:=by cases n <;> rfl
def cP (n:Nat) (p:Int) (l:List a8):AV:=.fp [.int .i64 (n:Int),slA 6 (wAs p (num l)),.fs 1 ((List.range n).map fun v=>slA 6 (wAs p (mA l v)))]
theorem zW.frz {n:Nat} {p:Int} {l:List a8} {A:ab} (h:zW n p l l.length A) (k:Nat):Proofs.Ytkcjhljbgjpklaa.frz A (k+4) (.ptr 1 0 0)=cP n p l:=by
 obtain ⟨va,os,g0,g1,hos,gs,go,_,_⟩:=h
 rw [List.take_length] at gs go
 show Proofs.Ytkcjhljbgjpklaa.frz A (k+3+1) _=_
 simp only [Proofs.Ytkcjhljbgjpklaa.frz,g1,List.getElem?_cons_zero]
 rw [if_pos ⟨rfl,by simp [cellsOf]⟩]
 have e2:Proofs.Ytkcjhljbgjpklaa.frz A (k+3) (.sl 0 0 n)=.fs 1 ((List.range n).map fun v=>slA 6 (wAs p (mA l v))):=by
  show Proofs.Ytkcjhljbgjpklaa.frz A (k+2+1) _=_
  simp only [Proofs.Ytkcjhljbgjpklaa.frz,g0]
  rw [List.drop_zero,List.take_of_length_le (by omega)]
  congr 1
  apply List.ext_getElem (by simp [hos])
  intro v h1 h2
  simp only [List.getElem_map,List.getElem_range]
  exact (go v _ (List.getElem?_eq_getElem (by simpa using h1))).frz k
 simp only [cellsOf,List.drop_zero,List.map_cons,List.map_nil,e2]
 rw [show Proofs.Ytkcjhljbgjpklaa.frz A (k+3) va=slA 6 (wAs p (num l)) from gs.frz (k+1)]
 simp [cP,Proofs.Ytkcjhljbgjpklaa.frz]
theorem zW.fresh {n:Nat} {p:Int} {l:List a8} {A:ab} (h:zW n p l l.length A) (k:Nat):ba A (k+4) (.ptr 1 0 0)=true:=by
 obtain ⟨va,os,g0,g1,hos,gs,go,_,_⟩:=h
 rw [List.take_length] at gs go
 have e2:ba A (k+3) (.sl 0 0 n)=true:=by
  show ba A (k+2+1) _=_
  simp only [ba,g0]
  rw [List.drop_zero,List.take_of_length_le (by omega),List.all_eq_true]
  intro x hx
  obtain ⟨v,hv,rfl⟩:=List.mem_iff_getElem.1 hx
  exact (go v _ (List.getElem?_eq_getElem hv)).fresh k
 have e1:ba A (k+3) va=true:=gs.fresh (k+1)
 show ba A (k+3+1) _=_
 simp only [ba,g1,List.getElem?_cons_zero,cellsOf,AV.solid,List.all_cons,List.all_nil,Bool.and_true,Bool.true_and,List.length_cons,List.length_nil]
 simp only [ba] at e1 e2
 rw [e1,e2]; rfl
theorem Gs (E:Env) (fuel:Nat) (A:ab) {a:AV} {l:List a8} (ha:cr a=some l) {p:Int} (hp:cw p) {n:Nat} (hn:n<=32) (hl200:l.length<=200) (hv:∀x∈l,okA n x) (hI:zW n p l 0 A) :
  ∃A',zW n p l l.length A'/\bU (evC E fuel lW) jW (l.length+1) (lJ (.int .i64 p) (.ptr 1 0 0) a (.int .i64 (l.length:Int)) (.int .i64 0)) A=some (.exit 0 ((lJ (.int .i64 p) (.ptr 1 0 0) a (.int .i64 (l.length:Int)) (.int .i64 (l.length:Int))).set 13 (.bool false)) A'):=by
 obtain ⟨o,h1,A',h2,h3⟩:=gf (E:=E) (fuel:=fuel) (a:=lW) (mask:=jW) (fun k σ A=>∃i,i+k=l.length/\σ=lJ (.int .i64 p) (.ptr 1 0 0) a (.int .i64 (l.length:Int)) (.int .i64 (i:Int))/\zW n p l i A)
  (fun o=>∃A',zW n p l l.length A'/\o=.exit 0 ((lJ (.int .i64 p) (.ptr 1 0 0) a (.int .i64 (l.length:Int)) (.int .i64 (l.length:Int))).set 13 (.bool false)) A')
  (by
   rintro k σ A ⟨i,hik,rfl,hI⟩
   rw [CK]
   by_cases hi:i<l.length
   ·obtain ⟨A',h1,h2⟩:=DY E fuel A ha hp hn hl200 hv hi hI
    exact .inl ⟨_,_,h1,k-1,by omega,i+1,by omega,rfl,h2⟩
   ·obtain rfl:i=l.length:=by omega
    refine .inr ⟨_,?_,?_,A,hI,rfl⟩
    ·simp [lW]
    ·intro _ _ h; cases h)
  (l.length+1) l.length _ A (by omega) ⟨0,by omega,rfl,hI⟩
 exact ⟨A',h2,by rw [<-h3]; exact h1⟩
open Classical in
def M25:aP:=fun args=>match args with
 | [.int .i64 n,a,.int .i64 p]=>(cr a).map fun l=>if ck n l p then .tup [cP n.toNat p l,.bool true] else .tup [.nilP,.bool false]
 | _=>none
def yn:List (FuncId × aG):=[(89,aD 4 M16),(72,aD 4 M41)]
@[simp] theorem Kr:aC yn 89=some (aD 4 M16):=rfl
@[simp] theorem Ko:aC yn 72=some (aD 4 M41):=rfl
theorem DD:∀f M,aC yn f=some M->aj Try.prog GC f M:=af (aj.of_pure lN 4) (af (aj.of_pure nF 4) aA)
open Classical in
theorem qD:cc Try.prog GC 73 M25:=by
 refine cc.of_ev (E:=ax GC yn) (aw DD) rfl LL zc 5 ?_
 intro args r h
 unfold M25 at h
 split at h
 ·rename_i n a p
  simp only [Option.map_eq_some_iff] at h
  obtain ⟨l,hl,rfl⟩:=h
  refine ⟨l.length+1,?_⟩
  have m1:M16 [.int .i64 n,a]=some (.bool (decide (dS n l))):=by simp only [M16,hl,Option.map_some]
  have m2:M41 [.int .i64 p]=some (.bool (decide (cw p))):=rfl
  have f1:=eJ hl
  have f2:=fG hl
  have hlen:=(lr hl).1
  rw [jt _ _ rfl]
  by_cases h1:dS n l
  rotate_left
  ·rw [if_neg (fun h=>h1 h.1)]
   rw [decide_eq_false h1] at m1
   simp [Aj,m1,f1,f2,frz,ba,dZ]
  rw [decide_eq_true h1] at m1
  by_cases h2:cw p
  rotate_left
  ·rw [if_neg (fun h=>h2 h.2)]
   rw [decide_eq_false h2] at m2
   simp [Aj,m1,m2,f1,f2,frz,ba,dZ]
  rw [decide_eq_true h2] at m2
  rw [if_pos ⟨h1,h2⟩]
  obtain ⟨m,rfl⟩:∃m:Nat,n=(m:Int):=⟨n.toNat,by have:=h1.1; omega⟩
  have hm:1<=m/\m<=32:=by have:=h1.1; omega
  have hI:zW m p l 0 [.row 1 false (List.replicate m .nilS),.row 3 false [.agg [.int .i64 (m:Int),.nilS,.sl 0 0 m]]]:=by
   refine ⟨.nilS,List.replicate m .nilS,rfl,rfl,by simp,.inl ⟨rfl,rfl⟩,fun v o ho=>?_,fun v o j ho hj=>?_,fun u v o q j _ ho _ hj=>?_⟩
   ·rw [List.getElem?_replicate] at ho
    split at ho
    ·injection ho with ho; subst ho
     exact .inl ⟨rfl,rfl⟩
    ·cases ho
   ·simp [aW]
   ·rw [List.getElem?_replicate] at ho
    split at ho
    ·injection ho with ho; subst ho
     simp [aW] at hj
    ·cases ho
  obtain ⟨A',hW,lp⟩:=Gs (ax GC yn) (l.length+1) _ hl h2 hm.2 h1.2.1 h1.2.2 hI
  have z1:frz A' 5 (.tup [.ptr 1 0 0,.bool true])=.tup [cP m p l,.bool true]:=by
   have:=hW.frz 0
   show AV.tup [frz A' 4 (.ptr 1 0 0),frz A' 4 (.bool true)]=_
   rw [this]; rfl
  have z2:ba A' 5 (.tup [.ptr 1 0 0,.bool true])=true:=by
   have:=hW.fresh 0
   show [AV.ptr 1 0 0,.bool true].all (ba A' 4)=true
   simp only [List.all_cons,this]; rfl
  have p1:dZ [.ptr 1 0 0,.bool true]=.tup [.ptr 1 0 0,.bool true]:=rfl
  have e1:(m:Int).toNat=m:=by omega
  have hm0:¬ m=0:=by omega
  have mk:bZ 1 24 .nilS [] (.int .i64 (m:Int)) (.int .i64 (m:Int))=some (.sl 0 0 m,[.row 1 false (List.replicate m .nilS)]):=by
   simp [bZ]; omega
  rw [e1]
  simp [Aj,m1,m2,f1,f2,hlen,GN lp,mk,aJ,z1,z2,-aq,-bZ,-frz]
 ·cases h
open Go
abbrev dh:=Nat × Nat × Int
def isW (L:List dh):Nat->List dh->Nat->Prop
 | u,[],v=>u=v
 | u,a :: r,v=>a∈L/\a.1=u/\isW L a.2.1 r v
def jk:List dh->Int
 | []=>0
 | a :: r=>a.2.2+jk r
def Fg:Nat->List dh->Nat
 | u,[]=>u
 | _,a :: r=>Fg a.2.1 r
section
variable {L:List dh}
theorem ge:∀(r s:List dh),jk (r++s)=jk r+jk s
 | [],s=>by simp [jk]
 | a :: r,s=>by
  simp only [List.cons_append,jk,ge r s]
  omega
theorem jm:∀ {r s:List dh} {u v:Nat},isW L u (r++s) v↔∃m,isW L u r m/\isW L m s v
 | [],s,u,v=>⟨fun h=>⟨u,rfl,h⟩,by rintro ⟨m,rfl,h⟩; exact h⟩
 | a :: r,s,u,v=>by
  simp only [List.cons_append,isW,jm (r:=r) (s:=s)]
  constructor
  ·rintro ⟨h1,h2,m,h3,h4⟩; exact ⟨m,⟨h1,h2,h3⟩,h4⟩
  ·rintro ⟨m,⟨h1,h2,h3⟩,h4⟩; exact ⟨h1,h2,m,h3,h4⟩
theorem oc:∀ {r:List dh} {u v:Nat},isW L u r v->Fg u r=v
 | [],_,_,h=>h
 | a :: r,_,_,⟨_,_,h⟩=>oc (r:=r) (u:=a.2.1) h
theorem yH {n:Nat} (hL:∀a∈L,a.1<n/\a.2.1<n):∀ {r:List dh} {u v:Nat},u<n->isW L u r v->v<n
 | [],_,_,h,e=>e ▸ h
 | _ :: _,_,_,_,⟨h1,_,h3⟩=>yH hL (hL _ h1).2 h3
theorem rW:∀(n:Nat) (s:Nat->Nat),(∀i,i<=n->s i<n)->∃i j,i<j/\j<=n/\s i=s j
 | 0,s,h=>absurd (h 0 (Nat.le_refl _)) (by omega)
 | n+1,s,h=>by
  by_cases hx:∃i,i<=n/\s i=s (n+1)
  ·obtain ⟨i,hi,he⟩:=hx
   exact ⟨i,n+1,by omega,Nat.le_refl _,he⟩
  ·have hx':∀i,i<=n->s i≠s (n+1):=fun i hi he=>hx ⟨i,hi,he⟩
   obtain ⟨i,j,h1,h2,h3⟩:=rW n (fun i=>if s i=n then s (n+1) else s i) (fun i hi=>by
    have a1:=h i (by omega)
    have a2:=h (n+1) (Nat.le_refl _)
    have a3:=hx' i hi
    show (if s i=n then s (n+1) else s i)<n
    split <;> omega)
   refine ⟨i,j,h1,by omega,?_⟩
   have a1:=hx' i (by omega)
   have a2:=hx' j (by omega)
   have h3:(if s i=n then s (n+1) else s i)=(if s j=n then s (n+1) else s j):=h3
   split at h3 <;> split at h3 <;> omega
theorem Eo {n:Nat} (hL:∀a∈L,a.1<n/\a.2.1<n) {r:List dh} {u v:Nat} (hu:u<n) (h:isW L u r v) (hn:n<=r.length) :
  ∃p c q m,r=p++c++q/\isW L u p m/\isW L m c m/\isW L m q v/\1<=c.length/\c.length<=n:=by
 have key:∀i,i<=r.length->∃m,isW L u (r.take i) m/\isW L m (r.drop i) v:=fun i _=>by
  have h':=h
  rw [<-List.take_append_drop i r] at h'
  exact jm.1 h'
 obtain ⟨i,j,hij,hj,he⟩:=rW n (fun i=>Fg u (r.take i)) (fun i hi=>by
  obtain ⟨m,h1,_⟩:=key i (by omega)
  show Fg u (r.take i)<n
  rw [oc h1]
  exact yH hL hu h1)
 obtain ⟨m1,a1,b1⟩:=key i (by omega)
 obtain ⟨m2,a2,b2⟩:=key j (by omega)
 have e1:=oc a1
 have e2:=oc a2
 have he:Fg u (r.take i)=Fg u (r.take j):=he
 have e3:m1=m2:=by rw [<-e1,<-e2,he]
 subst e3
 have hs:r.drop i=(r.drop i).take (j-i)++r.drop j:=by
  conv=>lhs; rw [<-List.take_append_drop (j-i) (r.drop i)]
  rw [List.drop_drop]
  congr 2; omega
 have hs2:r.take j=r.take i++(r.drop i).take (j-i):=by
  have:j=i+(j-i):=by omega
  conv=>lhs; rw [this]
  rw [List.take_add]
 rw [hs2] at a2
 obtain ⟨m,c1,c2⟩:=jm.1 a2
 have e4:m=m1:=by rw [<-oc c1,e1]
 subst e4
 refine ⟨r.take i,(r.drop i).take (j-i),r.drop j,m,?_,a1,c2,b2,?_,?_⟩
 ·rw [List.append_assoc,<-hs,List.take_append_drop]
 ·simp; omega
 ·simp; omega
def z6 (L:List dh) (n:Nat):Prop:=∀u c,isW L u c u->1<=c.length->c.length<=n->jk c<=0
theorem F2 {n:Nat} (hL:∀a∈L,a.1<n/\a.2.1<n) (hN:z6 L n):∀(k:Nat) (r:List dh) (u v:Nat),r.length=k->u<n->isW L u r v->∃r',isW L u r' v/\r'.length<n/\jk r<=jk r':=by
 intro k
 induction k using Nat.strongRecOn with
 | ind k ih=>
  intro r u v hk hu h
  by_cases hn:r.length<n
  ·exact ⟨r,h,hn,Int.le_refl _⟩
  ·obtain ⟨p,c,q,m,hr,h1,h2,h3,h4,h5⟩:=Eo hL hu h (by omega)
   have hc:=hN m c h2 h4 h5
   obtain ⟨r',k1,k2,k3⟩:=ih (p++q).length (by rw [<-hk,hr]; simp; omega) (p++q) u v rfl hu (jm.2 ⟨m,h1,h3⟩)
   refine ⟨r',k1,k2,?_⟩
   rw [hr,ge,ge]
   rw [ge] at k3
   omega
def jB (L:List dh) (s:List Int):Prop:=∀a∈L,s.getD a.1 0+a.2.2<=s.getD a.2.1 0
theorem kg {s:List Int} (h:jB L s):∀ {r:List dh} {u v:Nat},isW L u r v->s.getD u 0+jk r<=s.getD v 0
 | [],u,v,e=>by rw [show u=v from e]; simp [jk]
 | a :: r,u,v,⟨h1,h2,h3⟩=>by
  have k1:=h a h1
  have k2:=kg h h3
  rw [h2] at k1
  simp only [jk]
  omega
theorem t7 {s:List Int} (h:jB L s) (n:Nat):z6 L n:=fun u c hc _ _=>by
 have:=kg h hc
 omega
def o5 (s:List Int) (a:dh):List Int:=if s.getD a.1 0+a.2.2 > s.getD a.2.1 0 then s.set a.2.1 (s.getD a.1 0+a.2.2) else s
def jC (L:List dh) (s:List Int):List Int:=L.foldl o5 s
def upL:List dh->List Int->Bool
 | [],_=>false
 | a :: L,s=>decide (s.getD a.1 0+a.2.2 > s.getD a.2.1 0) || upL L (o5 s a)
theorem mS (s:List Int) (a:dh):(o5 s a).length=s.length:=by unfold o5; split <;> simp
theorem eG:∀(L:List dh) (s:List Int),(jC L s).length=s.length
 | [],_=>rfl
 | a :: L,s=>by
  have:=eG L (o5 s a)
  simp only [jC,List.foldl_cons] at this ⊢
  rw [this,mS]
theorem Be (s:List Int) (i j:Nat) (x:Int) (hi:i<s.length):(s.set i x).getD j 0=if i=j then x else s.getD j 0:=by
 rw [List.getD_eq_getElem?_getD,List.getD_eq_getElem?_getD]
 by_cases h:i=j
 ·subst h
  rw [List.getElem?_set_self hi,if_pos rfl]; rfl
 ·rw [List.getElem?_set_ne h,if_neg h]
theorem qM {s:List Int} {a:dh} (ha:a.2.1<s.length) (v:Nat):(o5 s a).getD v 0=if a.2.1=v then max (s.getD v 0) (s.getD a.1 0+a.2.2) else s.getD v 0:=by
 unfold o5
 by_cases h:s.getD a.1 0+a.2.2 > s.getD a.2.1 0
 ·rw [if_pos h,Be _ _ _ _ ha]
  split
  ·rename_i e
   subst e
   omega
  ·rfl
 ·rw [if_neg h]
  split
  ·rename_i e
   subst e
   omega
  ·rfl
theorem fN:∀ {L:List dh} {s:List Int},upL L s=false->jC L s=s/\jB L s
 | [],s,_=>⟨rfl,fun a h=>by cases h⟩
 | a :: L,s,h=>by
  simp only [upL,Bool.or_eq_false_iff,decide_eq_false_iff_not] at h
  obtain ⟨h1,h2⟩:=h
  have e:o5 s a=s:=by unfold o5; rw [if_neg h1]
  rw [e] at h2
  obtain ⟨k1,k2⟩:=fN h2
  refine ⟨?_,fun b hb=>?_⟩
  ·simp only [jC,List.foldl_cons,e]; exact k1
  ·rcases List.mem_cons.1 hb with rfl | hb
   ·omega
   ·exact k2 b hb
theorem nm:∀ {L:List dh} {s:List Int},jB L s->upL L s=false
 | [],_,_=>rfl
 | a :: L,s,h=>by
  have h1:=h a (by simp)
  have e:o5 s a=s:=by unfold o5; rw [if_neg (by omega)]
  simp only [upL,e,Bool.or_eq_false_iff,decide_eq_false_iff_not]
  exact ⟨by omega,nm fun b hb=>h b (by simp [hb])⟩
theorem tS {n:Nat}:∀ {L:List dh} {s:List Int},s.length=n->(∀a∈L,a.2.1<n)->(∀v,s.getD v 0<=(jC L s).getD v 0)/\∀a∈L,s.getD a.1 0+a.2.2<=(jC L s).getD a.2.1 0
 | [],s,_,_=>⟨fun v=>Int.le_refl _,fun a h=>by cases h⟩
 | a :: L,s,hs,hL=>by
  have ha:=hL a (by simp)
  obtain ⟨k1,k2⟩:=tS (L:=L) (s:=o5 s a) (by rw [mS,hs]) (fun b hb=>hL b (by simp [hb]))
  have e:jC (a :: L) s=jC L (o5 s a):=rfl
  rw [e]
  have g:=fun v=>qM (s:=s) (a:=a) (by omega) v
  have g1:∀v,s.getD v 0<=(o5 s a).getD v 0:=fun v=>by
   rw [g]; split <;> omega
  refine ⟨fun v=>Int.le_trans (g1 v) (k1 v),fun b hb=>?_⟩
  rcases List.mem_cons.1 hb with rfl | hb
  ·refine Int.le_trans ?_ (k1 _)
   rw [g,if_pos rfl]; omega
  ·have:=k2 b hb
   have h0:=g1 b.1
   omega
def BB (L:List dh) (n:Nat) (s:List Int):Prop:=∀v,v<n->∃u r,u<n/\isW L u r v/\jk r=s.getD v 0
theorem xH {n:Nat} {L:List dh} (hL:∀a∈L,a.1<n/\a.2.1<n) {s:List Int} (hs:s.length=n) (hw:BB L n s) {a:dh} (ha:a∈L):BB L n (o5 s a):=fun v hv=>by
 rw [qM (by have:=(hL a ha).2; omega)]
 by_cases h:a.2.1=v
 ·rw [if_pos h]
  by_cases hm:s.getD a.1 0+a.2.2<=s.getD v 0
  ·obtain ⟨u,r,h1,h2,h3⟩:=hw v hv
   exact ⟨u,r,h1,h2,by omega⟩
  ·obtain ⟨u,r,h1,h2,h3⟩:=hw a.1 (hL a ha).1
   refine ⟨u,r++[a],h1,jm.2 ⟨a.1,h2,ha,rfl,h⟩,?_⟩
   rw [ge,h3]
   simp only [jk]
   omega
 ·rw [if_neg h]; exact hw v hv
theorem nN {n:Nat} {L0:List dh} (hL:∀a∈L0,a.1<n/\a.2.1<n):∀ {L:List dh} {s:List Int},(∀a∈L,a∈L0)->s.length=n->BB L0 n s->BB L0 n (jC L s)
 | [],_,_,_,h=>h
 | a :: L,s,hs0,hs,hw=>nN hL (L:=L) (s:=o5 s a) (fun b hb=>hs0 b (by simp [hb])) (by rw [mS,hs]) (xH hL hs hw (hs0 a (by simp)))
def lev (L:List dh):Nat->List Int->List Int × Bool
 | 0,s=>(s,!upL L s)
 | m+1,s=>if upL L s=false then (s,true) else lev L m (jC L s)
def bO (L:List dh) (n:Nat):List Int × Bool:=lev L n (List.replicate n 0)
theorem t6 {n:Nat} {L:List dh} (hL:∀a∈L,a.1<n/\a.2.1<n):∀(m:Nat) (s:List Int),s.length=n->BB L n s->(∀v,0<=s.getD v 0) ->
  (lev L m s).1.length=n/\BB L n (lev L m s).1/\(∀v,0<=(lev L m s).1.getD v 0)/\((lev L m s).2=true->jB L (lev L m s).1)
 | 0,s,hs,hw,h0=>⟨hs,hw,h0,fun h=>(fN (by simpa [lev] using h)).2⟩
 | m+1,s,hs,hw,h0=>by
  unfold lev
  by_cases h:upL L s=false
  ·rw [if_pos h]
   exact ⟨hs,hw,h0,fun _=>(fN h).2⟩
  ·rw [if_neg h]
   exact t6 hL m _ (by rw [eG,hs]) (nN hL (fun _ h=>h) hs hw) fun v=>Int.le_trans (h0 v) ((tS hs (fun a ha=>(hL a ha).2)).1 v)
theorem nk (L:List dh) (n:Nat):BB L n (List.replicate n 0):=fun v hv=>⟨v,[],hv,rfl,by simp [jk,List.getD_eq_getElem?_getD,hv]⟩
theorem jG (n v:Nat):(List.replicate n (0:Int)).getD v 0=0:=by
 rw [List.getD_eq_getElem?_getD]
 by_cases h:v<n <;> simp [h]
theorem Gy {n:Nat} {L:List dh} (hL:∀a∈L,a.1<n/\a.2.1<n) (hN:z6 L n):∀(m k:Nat) (s:List Int),m+k=n->s.length=n->BB L n s->(∀v,0<=s.getD v 0)->(∀r u v,isW L u r v->u<n->r.length<=k->jk r<=s.getD v 0)->(lev L m s).2=true:=by
 intro m
 induction m with
 | zero=>
  intro k s hk hs hw h0 hr
  have:jB L s:=fun a ha=>by
   obtain ⟨h1,h2⟩:=hL a ha
   obtain ⟨u,r,k1,k2,k3⟩:=hw a.1 h1
   obtain ⟨r',q1,q2,q3⟩:=F2 hL hN _ (r++[a]) u a.2.1 rfl k1 (jm.2 ⟨a.1,k2,ha,rfl,rfl⟩)
   have:=hr r' u a.2.1 q1 k1 (by omega)
   rw [ge] at q3
   simp only [jk] at q3
   omega
  simp [lev,nm this]
 | succ m ih=>
  intro k s hk hs hw h0 hr
  unfold lev
  by_cases h:upL L s=false
  ·rw [if_pos h]
  ·rw [if_neg h]
   have hge:=tS hs (fun a ha=>(hL a ha).2)
   refine ih (k+1) _ (by omega) (by rw [eG,hs]) (nN hL (fun _ h=>h) hs hw) (fun v=>Int.le_trans (h0 v) (hge.1 v)) fun r u v hw' hu hl=>?_
   by_cases he:r=[]
   ·subst he
    have:u=v:=hw'
    subst this
    exact Int.le_trans (by simpa [jk] using h0 u) (hge.1 u)
   ·obtain ⟨q,a,rfl⟩:∃q a,r=q++[a]:=⟨r.dropLast,r.getLast he,(List.dropLast_concat_getLast he).symm⟩
    obtain ⟨m',k1,k2,k3,k4⟩:=jm.1 hw'
    have e:a.2.1=v:=k4
    subst e
    have h1:=hr q u m' k1 hu (by simp at hl; omega)
    have h2:=hge.2 a k2
    rw [<-k3] at h1
    rw [ge]
    simp only [jk]
    omega
theorem n9 {n:Nat} {L:List dh} (hL:∀a∈L,a.1<n/\a.2.1<n):(bO L n).2=true↔z6 L n:=by
 constructor
 ·intro h
  exact t7 ((t6 hL n _ (by simp) (nk L n) (fun v=>by rw [jG]; exact Int.le_refl _)).2.2.2 h) n
 ·intro h
  refine Gy hL h n 0 _ (by omega) (by simp) (nk L n) (fun v=>by rw [jG]; exact Int.le_refl _) fun r u v hw _ hl=>?_
  have:r=[]:=List.length_eq_zero_iff.1 (by omega)
  subst this
  rw [jG]; simp [jk]
theorem l7 {n:Nat} {L:List dh} (hL:∀a∈L,a.1<n/\a.2.1<n):(bO L n).1.length=n/\(∀v,0<=(bO L n).1.getD v 0)/\BB L n (bO L n).1/\((bO L n).2=true->jB L (bO L n).1) /\
  ∀x:List Int,jB L x->(∀v,v<n->0<=x.getD v 0)->∀v,v<n->(bO L n).1.getD v 0<=x.getD v 0:=by
 obtain ⟨h1,h2,h3,h4⟩:=t6 hL n _ (by simp) (nk L n) (fun v=>by rw [jG]; exact Int.le_refl _)
 refine ⟨h1,h3,h2,h4,fun x hx h0 v hv=>?_⟩
 obtain ⟨u,r,k1,k2,k3⟩:=h2 v hv
 have:=kg hx k2
 have:=h0 u k1
 unfold bO
 omega
end
open Go
def lar (p:Int) (l:List a8):List dh:=l.map fun a=>(a.f.toNat,a.t.toNat,a.len p)
theorem qC (p:Int) (l:List a8):(wAs p (num l)).length=l.length:=by simp [wAs,jh]
theorem Fs (p:Int) {l:List a8} {i:Nat} (hi:i<l.length):(wAs p (num l))[i]?=some (wA p (l[i],i)):=by
 simp [wAs,fI l i hi]
theorem rH (p:Int) {l:List a8} {i:Nat} (hi:i<l.length) (A:ab) (k:IntKind):ag 6 A (slA 6 (wAs p (num l))) (.int k (i:Int))=some (.fp [.int .i64 l[i].f,.int .i64 l[i].t,.int .i64 l[i].w,.int .i64 l[i].k,.int .i64 (i:Int),.int .i64 (l[i].len p)]):=
 (be 6 (wAs p (num l))).index (A:=A) (Fs p hi) rfl (by omega) k
theorem se {s:List Int} {i:Nat} (h:i<s.length):(ak s)[i]?=some (.int .i64 (s.getD i 0)):=by
 simp [ak,h]
def Bd (lo hi:Int) (s:List Int):Prop:=∀v,v<s.length->lo<=s.getD v 0/\s.getD v 0<=hi
theorem xI {lo hi:Int} {s:List Int} {a:dh} (h:Bd lo hi s) (hf:a.1<s.length) (ht:a.2.1<s.length) (hw:a.2.2<=3000000):Bd lo (hi+3000000) (o5 s a):=fun v hv=>by
 rw [mS] at hv
 rw [qM ht]
 have h1:=h v hv
 have h2:=h _ hf
 split <;> omega
theorem x7 {p:Int} {l:List a8} {i:Nat} (hi:i<l.length):(lar p l)[i]?=some (l[i].f.toNat,l[i].t.toNat,l[i].len p):=by simp [lar,hi]
theorem nP {L:List dh} {i:Nat} {a:dh} (h:L[i]?=some a) (s:List Int):jC (L.take (i+1)) s=o5 (jC (L.take i) s) a:=by
 obtain ⟨hi,rfl⟩:=List.getElem?_eq_some_iff.1 h
 unfold jC
 rw [List.take_succ_eq_append_getElem hi,List.foldl_append]
 rfl
theorem uL:∀ {L:List dh} {i:Nat} {a:dh},L[i]?=some a->∀s,upL (L.take (i+1)) s=(upL (L.take i) s || decide ((jC (L.take i) s).getD a.1 0+a.2.2 > (jC (L.take i) s).getD a.2.1 0))
 | [],i,a,h,s=>by simp at h
 | b :: L,0,a,h,s=>by
  simp at h; subst h
  simp [upL,jC]
 | b :: L,i+1,a,h,s=>by
  simp only [List.getElem?_cons_succ] at h
  have:=uL h (o5 s b)
  simp only [List.take_succ_cons,upL,this,Bool.or_assoc]
  rfl
def Mb:MC:=.region [⟨none,.indexSl 6 (.var 5) (.var 7),none⟩,⟨none,.load true 6 (.tmp 0),none⟩,⟨some 3,.alloc 6 (.agg [.int .i64 0,.int .i64 0,.int .i64 0,.int .i64 0,.int .i64 0,.int .i64 0]),none⟩,⟨none,.store 6 (.var 3) (.tmp 1),none⟩]
def Ma:MC:=.region [⟨none,.mv (.var 1),none⟩,⟨none,.fieldAddr 0 (.var 3),none⟩,⟨none,.fieldAddr 0 (.tmp 1),none⟩,⟨none,.load false 1 (.tmp 2),none⟩,⟨none,.indexSl 1 (.tmp 0) (.tmp 3),none⟩,⟨none,.load false 1 (.tmp 4),none⟩,⟨none,.fieldAddr 5 (.var 3),none⟩,⟨none,.load false 1 (.tmp 6),none⟩,⟨none,.bin .add (.tmp 5) (.tmp 7),none⟩,⟨some 4,.mv (.tmp 8),none⟩]
def L9:MC:=.region [⟨none,.mv (.var 4),none⟩,⟨none,.mv (.var 1),none⟩,⟨none,.fieldAddr 0 (.var 3),none⟩,⟨none,.fieldAddr 1 (.tmp 2),none⟩,⟨none,.load false 1 (.tmp 3),none⟩,⟨none,.indexSl 1 (.tmp 1) (.tmp 4),none⟩,⟨none,.load false 1 (.tmp 5),none⟩,⟨some 9,.bin .gtr (.tmp 0) (.tmp 6),none⟩]
def L8:MC:=.region [⟨none,.mv (.var 1),none⟩,⟨none,.fieldAddr 0 (.var 3),none⟩,⟨none,.fieldAddr 1 (.tmp 1),none⟩,⟨none,.load false 1 (.tmp 2),none⟩,⟨none,.mv (.var 4),none⟩,⟨none,.indexSl 1 (.tmp 0) (.tmp 3),none⟩,⟨none,.store 1 (.tmp 5) (.tmp 4),none⟩,⟨some 2,.mv (.cst (.bool true)),none⟩]
theorem CR:n7=.seq (.region [⟨some 8,.bin .lss (.var 7) (.var 6),none⟩]) (.seq (.cond (.var 8) .skip (.exit 0)) (.seq (.seq (.block 1 (.seq Mb (.seq Ma (.seq L9 (.cond (.var 9) L8 .skip))))) (.kill [0,3,4,8,9])) (.region [⟨none,.bin .add (.var 7) (.cst (.int .i64 1)),none⟩,⟨some 7,.mv (.tmp 0),none⟩]))):=rfl
theorem r37a (E:Env) (fuel:Nat) (K:List KC) (A:ab) (X:MC) {p:Int} {l:List a8} {i:Nat} (hi:i<l.length) (v1 v2 v6 v8:AV) :
  run E fuel (.code (.seq Mb X) :: K) [.undef,v1,v2,.undef,.undef,slA 6 (wAs p (num l)),v6,.int .i64 (i:Int),v8,.undef] A =
   run E fuel (.code X :: K) [.undef,v1,v2,.ptr A.length 0 0,.undef,slA 6 (wAs p (num l)),v6,.int .i64 (i:Int),v8,.undef] (A++[.row 6 false [wA p (l[i],i)]]):=by
 have x1:=rH p hi A .i64
 obtain ⟨W,hW⟩:∃W,W=slA 6 (wAs p (num l)):=⟨_,rfl⟩
 rw [<-hW] at x1 ⊢
 simp [Mb,x1,wA,-ag]
def CP (A0:ab) (id:Nat) (s:List Int) (A:ab):Prop:=A[id]?=some (.row 1 false (ak s))/\A0.length<=A.length/\∀j,j≠id->j<A0.length->A[j]?=A0[j]?
theorem yb (s:List Int) (i:Nat) (z:Int):(ak s).set i (.int .i64 z)=ak (s.set i z):=by
 unfold ak; rw [List.map_set]
theorem DW (E:Env) (fuel:Nat) {A0 A:ab} {id n:Nat} {s:List Int} {p:Int} {l:List a8} (hn:s.length=n) (hp:cw p) (hv:∀x∈l,okA n x) (hn32:n<=32) (hl200:l.length<=200) {i:Nat} (hi:i<l.length) {b:Bool} (hb:Bd (-100000000000000) 100000000000000 s) (_hid:id<A0.length) (hI:CP A0 id s A) :
  ∃A',run E fuel [.code n7] (nz (.sl id 0 n) (.bool b) (slA 6 (wAs p (num l))) (.int .i64 (l.length:Int)) (.int .i64 (i:Int))) A=some (.normal (nz (.sl id 0 n) (.bool (b || decide (s.getD l[i].f.toNat 0+l[i].len p > s.getD l[i].t.toNat 0))) (slA 6 (wAs p (num l))) (.int .i64 (l.length:Int)) (.int .i64 ((i+1:Nat):Int))) A')/\CP A0 id (o5 s (l[i].f.toNat,l[i].t.toNat,l[i].len p)) A':=by
 obtain ⟨g1,g2,g3⟩:=hI
 have hmem:=hv _ (List.getElem_mem hi)
 obtain ⟨f,hf,hfn⟩:=nW hmem.1
 obtain ⟨t,ht,htn⟩:=nW hmem.2.1
 have hv32:okA 32 l[i]:=by
  obtain ⟨h1,h2,h3,h4⟩:=hmem
  exact ⟨by omega,by omega,h3,h4⟩
 obtain ⟨k1,k2,_,_⟩:=gO hv32 hp
 obtain ⟨w,hw⟩:∃w,w=l[i].len p:=⟨_,rfl⟩
 obtain ⟨B,hB⟩:∃B,B=A++[.row 6 false [wA p (l[i],i)]]:=⟨_,rfl⟩
 have r1:=fun K X=>r37a E fuel K A X (p:=p) hi (.sl id 0 n) (.bool b) (.int .i64 (l.length:Int)) (.bool true)
 rw [<-hB] at r1
 have hidA:id<A.length:=(List.getElem?_eq_some_iff.1 g1).1
 have c1:B[id]?=some (.row 1 false (ak s)):=by rw [hB,List.getElem?_append_left hidA]; exact g1
 have c8:B[A.length]?=some (.row 6 false [.agg [.int .i64 (f:Int),.int .i64 (t:Int),.int .i64 l[i].w,.int .i64 l[i].k,.int .i64 (i:Int),.int .i64 w]]):=by
  rw [hB,hw]; simp [wA,hf,ht]
 obtain ⟨i8,hi8⟩:∃i8,i8=A.length:=⟨_,rfl⟩
 rw [<-hi8] at r1 c8
 have hBl:A0.length<=B.length:=by rw [hB]; simp; omega
 have hBo:∀j,j≠id->j<A0.length->B[j]?=A0[j]?:=fun j hj hl=>by rw [hB,List.getElem?_append_left (by omega)]; exact g3 j hj hl
 have ef:=se (s:=s) (i:=f) (by omega)
 have et:=se (s:=s) (i:=t) (by omega)
 have bf:=hb f (by omega)
 have bt:=hb t (by omega)
 rw [<-hw] at k1 k2
 have e1:l[i].f.toNat=f:=by omega
 have e2:l[i].t.toNat=t:=by omega
 rw [e1,e2,<-hw]
 obtain ⟨x,hx⟩:∃x,x=s.getD f 0:=⟨_,rfl⟩
 obtain ⟨y,hy⟩:∃y,y=s.getD t 0:=⟨_,rfl⟩
 rw [<-hx] at ef bf ⊢
 rw [<-hy] at et bt ⊢
 have b2:ai .add (.int .i64 x) (.int .i64 w)=some (.int .i64 (x+w)):=by
  simp only [ai]; rw [if_pos trivial,eu (by unfold inI; omega)]
 have b4:ai .gtr (.int .i64 (x+w)) (.int .i64 y)=some (.bool (decide (x+w > y))):=by simp [ai]
 have b1:=bj i l.length .i64
 rw [decide_eq_true hi] at b1
 have b3:=aY i (by omega)
 obtain ⟨i1,hi1⟩:∃i1:Nat,i1=i+1:=⟨_,rfl⟩
 rw [<-hi1] at b3 ⊢
 have er:o5 s (f,t,w)=if x+w > y then s.set t (x+w) else s:=by unfold o5; rw [hx,hy]
 rw [er]
 obtain ⟨z,hz⟩:∃z,z=x+w:=⟨_,rfl⟩
 rw [<-hz] at b2 b4 ⊢
 obtain ⟨W,hW⟩:∃W,W=slA 6 (wAs p (num l)):=⟨_,rfl⟩
 rw [<-hW] at r1 ⊢
 have hfn':f<n:=by omega
 have htn':t<n:=by omega
 by_cases hc:z > y
 ·rw [if_pos hc]
  rw [decide_eq_true hc] at b4 ⊢
  refine ⟨B.set id (.row 1 false (ak (s.set t z))),?_,?_,?_,?_⟩
  ·rw [<-yb]
   rw [CR]
   simp [b1,b3,r1,Ma,L9,L8,c1,c8,ef,et,b2,b4,hfn',htn',-ai]
  ·exact List.getElem?_set_self (by rw [hB]; simp; omega)
  ·simp; omega
  ·intro j hj hl
   rw [List.getElem?_set_ne (Ne.symm hj)]; exact hBo j hj hl
 ·rw [if_neg hc]
  rw [decide_eq_false hc] at b4 ⊢
  refine ⟨B,?_,c1,hBl,hBo⟩
  rw [CR]
  simp [b1,b3,r1,Ma,L9,L8,c1,c8,ef,et,b2,b4,hfn',htn',-ai]
theorem ev37 {E:Env} {A:ab} {id n:Nat} {s:List Int} {p:Int} {l:List a8} (hn:s.length=n) (hp:cw p) (hv:∀x∈l,okA n x) (hn32:n<=32) (hl200:l.length<=200) {hi:Int} (hb:Bd (-1000000000000) hi s) (hhi:hi<=1000000000000) (hid:A[id]?=some (.row 1 false (ak s))) :
  ∃A',bS E 300 xU [cP n p l,.sl id 0 n] A=some (.bool (upL (lar p l) s),A')/\CP A id (jC (lar p l) s) A':=by
 have hlt:=(List.getElem?_eq_some_iff.1 hid).1
 have hlen:(lar p l).length=l.length:=by simp [lar]
 have bd:∀i,i<=l.length->Bd (-1000000000000) (hi+3000000*i) (jC ((lar p l).take i) s):=by
  intro i
  induction i with
  | zero=>intro _; simpa [jC] using hb
  | succ i ih=>
   intro hi'
   have h1:=ih (by omega)
   have h2:=x7 (p:=p) (l:=l) (i:=i) (by omega)
   rw [nP h2]
   have hmem:=hv _ (List.getElem_mem (show i<l.length by omega))
   obtain ⟨q1,q2,q3,q4⟩:=hmem
   have hle:=gO (n:=32) (a:=l[i]) ⟨by omega,by omega,q3,q4⟩ hp
   have:=xI (a:=(l[i].f.toNat,l[i].t.toNat,l[i].len p)) h1 (by rw [eG]; simp only; omega) (by rw [eG]; simp only; omega) (by simp only; omega)
   intro v hv'
   have:=this v hv'
   omega
 obtain ⟨o,h1,A',h2,h3⟩:=gf (E:=E) (fuel:=300) (a:=n7) (mask:=mV) (fun k σ B=>∃i,i+k=l.length/\σ=nz (.sl id 0 n) (.bool (upL ((lar p l).take i) s)) (slA 6 (wAs p (num l))) (.int .i64 (l.length:Int)) (.int .i64 (i:Int))/\CP A id (jC ((lar p l).take i) s) B)
  (fun o=>∃A',CP A id (jC (lar p l) s) A'/\o=.exit 0 ((nz (.sl id 0 n) (.bool (upL (lar p l) s)) (slA 6 (wAs p (num l))) (.int .i64 (l.length:Int)) (.int .i64 (l.length:Int))).set 8 (.bool false)) A')
  (by
   rintro k σ B ⟨i,hik,rfl,hI⟩
   rw [CI]
   by_cases hi':i<l.length
   ·have hb':=bd i (by omega)
    have h2:=x7 (p:=p) hi'
    obtain ⟨B',h1,h3⟩:=DW E 300 (s:=jC ((lar p l).take i) s) (n:=n) (b:=upL ((lar p l).take i) s) (by rw [eG,hn]) hp hv hn32 hl200 hi' (fun v hv'=>by have:=hb' v hv'; omega) hlt hI
    refine .inl ⟨_,_,h1,k-1,by omega,i+1,by omega,?_,?_⟩
    ·rw [uL h2]
    ·rw [nP h2]; exact h3
   ·obtain rfl:i=l.length:=by omega
    rw [List.take_of_length_le (by omega)] at hI ⊢
    refine .inr ⟨_,?_,?_,B,hI,rfl⟩
    ·simp [n7]
    ·intro _ _ h; cases h)
  300 l.length (nz (.sl id 0 n) (.bool false) (slA 6 (wAs p (num l))) (.int .i64 (l.length:Int)) (.int .i64 0)) A (by omega) ⟨0,by omega,by simp [upL],by simpa [jC] using ⟨hid,Nat.le_refl _,fun _ _ _=>rfl⟩⟩
 refine ⟨A',?_,h2⟩
 subst h3
 rw [a9 _ _ rfl]
 have hlen2:aq (slA 6 (wAs p (num l)))=some (.int .i64 (l.length:Int)):=by rw [qU,qC]
 unfold cP
 obtain ⟨W,hW⟩:∃W,W=slA 6 (wAs p (num l)):=⟨_,rfl⟩
 rw [<-hW] at h1 hlen2 ⊢
 simp [xU,hlen2,GJ h1,dZ,-aq]
theorem BJ:aj Try.prog GC 90 (fun _=>bS (ax GC []) 300 xU):=(bQ (aw aA) rfl at37 Hq bg.nil).y
open Go
theorem aB (xs:List Int):(ak xs).length=xs.length:=by simp [ak]
theorem IL (E:Env) (fuel:Nat) {A:ab} {a:AV} {xs:List Int} (h:cG A 1 a (ak xs)) (hne:xs≠[]) (hl:xs.length<=1000):bS E fuel tX [a] A=some (.sl (A.length+1) 0 xs.length,A++[.dead,.row 1 false (ak xs)]):=by
 have hne':ak xs≠[]:=by simpa [ak] using hne
 have hlen:(ak xs).length=xs.length:=by simp [ak]
 rw [a9 _ _ rfl]
 obtain ⟨es,hes⟩:∃es,es=ak xs:=⟨_,rfl⟩
 rw [<-hes] at h hne' hlen ⊢
 rw [<-hlen] at hl ⊢
 have hb:es.length*8<=140737488355328:=by omega
 rcases h with h | ⟨id,off,gr,rs,rfl,h1,h2⟩
 ·rcases h with ⟨_,h⟩ | rfl
  ·exact absurd h hne'
  ·simp [tX,dZ,aN,aQ,hb]
 ·have hid:=(List.getElem?_eq_some_iff.1 h1).1
  have h1':∀T,(A++T)[id]?=some (.row 1 gr rs):=fun T=>by rw [List.getElem?_append_left hid,h1]
  simp [tX,dZ,aN,aQ,h1',h2,hb]
theorem lM:aj Try.prog GC 40 (fun _=>bS (ax GC []) 0 tX):=(bQ (aw aA) rfl LF yW bg.nil).y
def wz:List (FuncId × aG):=[(90,fun _=>bS (ax GC []) 300 xU),(40,fun _=>bS (ax GC []) 0 tX)]
@[simp] theorem Kl:aC wz 90=some (fun _=>bS (ax GC []) 300 xU):=rfl
@[simp] theorem Kk:aC wz 40=some (fun _=>bS (ax GC []) 0 tX):=rfl
theorem tE:∀f M,aC wz f=some M->aj Try.prog GC f M:=af BJ (af lM aA)
def M26:aP:=fun args=>evF (ax GC wz) 300 r6 5 args
theorem xr:cc Try.prog GC 74 M26:=cc.of_ev (E:=ax GC wz) (aw tE) rfl HJ sO 5 fun _ _ h=>⟨300,h⟩
theorem D7 {n:Nat} {p:Int} {l:List a8} (hp:cw p) (hv:∀x∈l,okA n x) (hn32:n<=32) (hl200:l.length<=200) {lo hi:Int} {s:List Int} (hs:s.length=n) (hb:Bd lo hi s):Bd lo (hi+600000000) (jC (lar p l) s):=by
 have hlen:(lar p l).length=l.length:=by simp [lar]
 have bd:∀i,i<=l.length->Bd lo (hi+3000000*i) (jC ((lar p l).take i) s):=by
  intro i
  induction i with
  | zero=>intro _; simpa [jC] using hb
  | succ i ih=>
   intro hi'
   have h1:=ih (by omega)
   have h2:=x7 (p:=p) (l:=l) (i:=i) (by omega)
   rw [nP h2]
   have hmem:=hv _ (List.getElem_mem (show i<l.length by omega))
   obtain ⟨q1,q2,q3,q4⟩:=hmem
   have hle:=gO (n:=32) (a:=l[i]) ⟨by omega,by omega,q3,q4⟩ hp
   have:=xI (a:=(l[i].f.toNat,l[i].t.toNat,l[i].len p)) h1 (by rw [eG]; simp only; omega) (by rw [eG]; simp only; omega) (by simp only; omega)
   intro v hv'
   have:=this v hv'
   omega
 have:=bd l.length (Nat.le_refl _)
 rw [List.take_of_length_le (by omega)] at this
 intro v hv'
 have:=this v hv'
 omega
theorem zD {A:ab} {id n:Nat} {s:List Int} {p:Int} {l:List a8} (hn:s.length=n) (hp:cw p) (hv:∀x∈l,okA n x) (hn32:n<=32) (hl200:l.length<=200) {hi:Int} (hb:Bd (-1000000000000) hi s) (hhi:hi<=1000000000000) (hid:A[id]?=some (.row 1 false (ak s))) :
  ∃A',bS (ax GC []) 300 xU [cP n p l,.sl id 0 n] A=some (.bool (upL (lar p l) s),A')/\CP A id (jC (lar p l) s) A':=ev37 hn hp hv hn32 hl200 hb hhi hid
def fq (L:List dh):Nat->List Int->List Int
 | 0,s=>s
 | k+1,s=>jC L (fq L k s)
theorem ej (L:List dh) (s:List Int):∀k,(fq L k s).length=s.length
 | 0=>rfl
 | k+1=>by rw [fq,eG,ej L s k]
theorem xG {L:List dh} {s:List Int} (h:upL L s=false):∀k,fq L k s=s
 | 0=>rfl
 | k+1=>by rw [fq,xG h k,(fN h).1]
theorem jN (L:List dh) (s:List Int):∀k,fq L (k+1) s=fq L k (jC L s)
 | 0=>rfl
 | k+1=>by rw [fq,jN L s k]; rfl
theorem BY (L:List dh):∀(m:Nat) (s:List Int),lev L m s=if _h:∃k,k<m/\upL L (fq L k s)=false then (fq L m s,true) else (fq L m s,!upL L (fq L m s))
 | 0,s=>by
  rw [dif_neg (by rintro ⟨k,h,_⟩; omega)]; rfl
 | m+1,s=>by
  unfold lev
  by_cases h:upL L s=false
  ·rw [if_pos h,dif_pos ⟨0,by omega,h⟩,xG h]
  ·rw [if_neg h,BY L m,jN]
   by_cases h2:∃k,k<m/\upL L (fq L k (jC L s))=false
   ·rw [dif_pos h2]
    obtain ⟨k,hk,h3⟩:=h2
    rw [dif_pos ⟨k+1,by omega,by rw [jN]; exact h3⟩]
   ·rw [dif_neg h2,dif_neg]
    rintro ⟨k,hk,h3⟩
    cases k with
    | zero=>exact h h3
    | succ k=>exact h2 ⟨k,by omega,by rw [jN] at h3; exact h3⟩
theorem qw {n:Nat} {p:Int} {l:List a8} (hr:ck n l p):M26 [cP n p l]=some (.tup [slA 1 (ak (bO (lar p l) n).1),.bool (bO (lar p l) n).2]):=by
 obtain ⟨⟨hn,hl200,hv⟩,hp⟩:=hr
 have hn32:n<=32:=by omega
 obtain ⟨L,hL⟩:∃L,L=lar p l:=⟨_,rfl⟩
 obtain ⟨z,hz⟩:∃z,z=List.replicate n (0:Int):=⟨_,rfl⟩
 have hzl:z.length=n:=by rw [hz]; simp
 have hbd:∀k:Nat,Bd (-1000000000000) (600000000*k) (fq L k z):=by
  intro k
  induction k with
  | zero=>
   intro v hv'
   have:(fq L 0 z).getD v 0=0:=by rw [fq,hz]; exact jG n v
   rw [this]; omega
  | succ k ih=>
   rw [fq]
   have:=D7 hp hv hn32 hl200 (by rw [ej]; exact hzl) ih
   rw [<-hL] at this
   intro v hv'
   have:=this v hv'
   omega
 have h37:∀(A:ab) (k:Nat),k<=33->A[0]?=some (.row 1 false (ak (fq L k z)))->∃A',bS (ax GC []) 300 xU [cP n p l,.sl 0 0 n] A=some (.bool (upL L (fq L k z)),A')/\CP A 0 (fq L (k+1) z) A':=fun A k hk hA=>by
  have:=zD (s:=fq L k z) (by rw [ej]; exact hzl) hp hv hn32 hl200 (hbd k) (by omega) hA
  rw [<-hL] at this
  exact this
 obtain ⟨W1,O,hW⟩:∃W1 O,cP n p l=.fp [.int .i64 (n:Int),W1,O]:=⟨_,_,rfl⟩
 obtain ⟨o,h1,h2⟩:=gf (E:=ax GC wz) (fuel:=300) (a:=n8) (mask:=mY) (fun k σ A=>∃i,i+k=n/\σ=pM (cP n p l) (.sl 0 0 n) (.int .i64 (n:Int)) (.int .i64 (i:Int))/\A[0]?=some (.row 1 false (ak (fq L i z)))/\∀j,j<i->upL L (fq L j z)=true)
  (fun o=>(∃A' i d6 d7 ,i<n/\upL L (fq L i z)=false/\(∀j,j<i->upL L (fq L j z)=true)/\A'[0]?=some (.row 1 false (ak (fq L (i+1) z)))/\o=.ret [cP n p l,.sl 0 0 n,.bool true,.sl 0 0 n,.int .i64 (n:Int),.int .i64 (i:Int),d6,d7] A') \/
   (∃A',(∀j,j<n->upL L (fq L j z)=true)/\A'[0]?=some (.row 1 false (ak (fq L n z)))/\o=.exit 0 ((pM (cP n p l) (.sl 0 0 n) (.int .i64 (n:Int)) (.int .i64 (n:Int))).set 6 (.bool false)) A'))
  (by
   rintro k σ A ⟨i,hik,rfl,hA,hup⟩
   rw [CJ]
   rw [hW] at h37 ⊢
   by_cases hi':i<n
   ·obtain ⟨A',c1,c2⟩:=h37 A i (by omega) hA
    have b1:=bj i n .i64
    rw [decide_eq_true hi'] at b1
    have b3:=aY i (by omega)
    obtain ⟨i1,hi1⟩:∃i1:Nat,i1=i+1:=⟨_,rfl⟩
    rw [<-hi1] at b3
    cases hu:upL L (fq L i z) with
    | true=>
     rw [hu] at c1
     refine .inl ⟨pM (.fp [.int .i64 (n:Int),W1,O]) (.sl 0 0 n) (.int .i64 (n:Int)) (.int .i64 ((i+1:Nat):Int)),A',?_,k-1,by omega,i+1,by omega,rfl,c2.1,fun j hj=>?_⟩
     ·rw [<-hi1]
      simp [n8,b1,b3,c1,-ai]
     ·by_cases hji:j=i
      ·rw [hji]; exact hu
      ·exact hup j (by omega)
    | false=>
     rw [hu] at c1
     refine .inr ⟨.ret [.fp [.int .i64 (n:Int),W1,O],.sl 0 0 n,.bool true,.sl 0 0 n,.int .i64 (n:Int),.int .i64 (i:Int),.bool true,.bool true] A',?_,(fun _ _ h=>by cases h),.inl ⟨A',i,_,_,hi',hu,hup,c2.1,rfl⟩⟩
     simp [n8,b1,c1,-ai]
   ·obtain rfl:i=n:=by omega
    refine .inr ⟨_,?_,?_,.inr ⟨A,hup,hA,rfl⟩⟩
    ·simp [n8]
    ·intro _ _ h; cases h)
  300 n (pM (cP n p l) (.sl 0 0 n) (.int .i64 (n:Int)) (.int .i64 0)) [.row 1 false (ak z)] (by omega) ⟨0,by omega,rfl,rfl,fun j hj=>by omega⟩
 have mk:bZ 1 8 (.int .i64 0) [] (.int .i64 (n:Int)) (.int .i64 (n:Int))=some (.sl 0 0 n,[.row 1 false (ak z)]):=by
  have:ak z=List.replicate n (.int .i64 0):=by rw [hz]; simp [ak]
  rw [this]; simp [bZ]; omega
 have hfz:∀(A:ab) (s:List Int),s.length=n->A[0]?=some (.row 1 false (ak s))->frz A 4 (.sl 0 0 n)=slA 1 (ak s)/\ba A 4 (.sl 0 0 n)=true:=fun A s hs h0=>by
  constructor
  ·show frz A (3+1) _=_
   simp only [frz,h0,List.drop_zero]
   rw [List.take_of_length_le (by simp [ak]; omega),sq]
   cases s with
   | nil=>simp at hs; omega
   | cons x r=>rfl
  ·show ba A (3+1) _=_
   simp only [ba,h0,List.drop_zero]
   rw [List.take_of_length_le (by simp [ak]; omega)]
   exact s8 _ _ _
 have hf5:∀(A:ab) (s:List Int) (b:Bool),s.length=n->A[0]?=some (.row 1 false (ak s))->frz A 5 (.tup [.sl 0 0 n,.bool b])=.tup [slA 1 (ak s),.bool b]/\ba A 5 (.tup [.sl 0 0 n,.bool b])=true:=fun A s b hs h0=>by
  obtain ⟨q1,q2⟩:=hfz A s hs h0
  constructor
  ·show AV.tup [frz A 4 (.sl 0 0 n),frz A 4 (.bool b)]=_
   rw [q1]; rfl
  ·show [AV.sl 0 0 n,.bool b].all (ba A 4)=true
   simp only [List.all_cons,q2]; rfl
 have p1:∀b,dZ [.sl 0 0 n,.bool b]=.tup [.sl 0 0 n,.bool b]:=fun _=>rfl
 have hlev:bO (lar p l) n=lev L n z:=by unfold bO; rw [hL,hz]
 rw [hlev,BY]
 unfold M26
 rw [jt _ _ rfl]
 rcases h2 with ⟨A',i,d6,d7,hin,hu,hup,hA',rfl⟩ | ⟨A',hup,hA',rfl⟩
 ·rw [dif_pos ⟨i,hin,hu⟩]
  have hst:fq L n z=fq L (i+1) z:=by
   have e:∀k,fq L (i+k) z=fq L i z:=fun k=>by
    induction k with
    | zero=>rfl
    | succ k ih=>rw [show i+(k+1)=(i+k)+1 by omega,fq,ih,(fN hu).1]
   have h3:=e (n-i)
   have h4:=e 1
   rw [show i+(n-i)=n by omega] at h3
   rw [h3,h4]
  rw [hst]
  obtain ⟨q1,q2⟩:=hf5 A' _ true (by rw [ej]; exact hzl) hA'
  rw [hW] at h1 ⊢
  simp [r6,mk,Ci h1,q1,q2,-frz,-bZ]
 ·rw [dif_neg (by
   rintro ⟨k,hk,h⟩
   rw [hup k hk] at h; cases h)]
  obtain ⟨A2,c1,c2⟩:∃A2,bS (ax GC []) 300 xU [cP n p l,.sl (A'.length+1) 0 n] (A'++[.dead,.row 1 false (ak (fq L n z))])=some (.bool (upL L (fq L n z)),A2)/\CP (A'++[.dead,.row 1 false (ak (fq L n z))]) (A'.length+1) (fq L (n+1) z) A2:=by
   have:=zD (A:=A'++[.dead,.row 1 false (ak (fq L n z))]) (id:=A'.length+1) (s:=fq L n z) (by rw [ej]; exact hzl) hp hv hn32 hl200 (hbd n) (by omega) (by rw [List.getElem?_append_right (by omega)]; simp)
   rw [<-hL] at this
   exact this
  have hlt:=(List.getElem?_eq_some_iff.1 hA').1
  have h38:=IL (ax GC []) 0 (A:=A') (a:=.sl 0 0 n) (xs:=fq L n z) (.inr ⟨0,0,false,ak (fq L n z),by rw [aB,ej,hzl],hA',by rw [List.drop_zero,List.take_length]⟩) (by
   intro h
   have:=congrArg List.length h
   rw [ej,hzl] at this
   simp at this; omega) (by rw [ej,hzl]; omega)
  rw [ej,hzl] at h38
  have hA2:A2[0]?=some (.row 1 false (ak (fq L n z))):=by
   rw [c2.2.2 0 (by omega) (by simp),List.getElem?_append_left hlt,hA']
  obtain ⟨q1,q2⟩:=hf5 A2 _ (!upL L (fq L n z)) (by rw [ej]; exact hzl) hA2
  rw [hW] at h1 c1 ⊢
  simp [r6,mk,Ci h1,h38,c1,q1,q2,-frz,-bZ]
open Go
abbrev LP:=Int × Bool
def lA (x:LP):AV:=.agg [.int .i64 x.1,.bool x.2]
def eV (x:LP) (n:Int):LP:=if x.2=false/\x.1=0 then x else (x.1+n,x.2)
def jT (x y:LP):LP:=if x.2=false\/(y.2=true/\y.1 > x.1) then y else x
def M51:aP:=fun args=>match args with
 | [.agg [.int .i64 x,.bool b],.int .i64 n]=>if -9223372036854775808<=x+n/\x+n<=9223372036854775807 then some (lA (eV (x,b) n)) else none
 | _=>none
theorem uR:au Try.prog GC 102 M51:=by
 refine au.of_ev (E:=ax GC []) (aw aA) rfl at51 Hm 2 ?_
 intro args r h
 unfold M51 at h
 split at h
 ·rename_i x b n
  simp only [Option.ite_none_right_eq_some,Option.some.injEq] at h
  obtain ⟨h1,rfl⟩:=h
  refine ⟨0,?_⟩
  have b1:ai .add (.int .i64 x) (.int .i64 n)=some (.int .i64 (x+n)):=by
   simp only [ai]; rw [if_pos trivial,eu h1]
  obtain ⟨z,hz⟩:∃z,z=x+n:=⟨_,rfl⟩
  rw [<-hz] at b1
  rw [aK _ _ rfl]
  unfold eV lA
  simp only [<-hz]
  cases b with
  | true=>simp [IA,b1,-ai]
  | false=>
   by_cases hx:x=0
   ·subst hx
    simp [IA,-ai]
   ·simp [IA,b1,hx,-ai]
 ·cases h
def M52:aP:=fun args=>match args with
 | [.agg [.int .i64 x,.bool b],.agg [.int .i64 y,.bool c]]=>some (lA (jT (x,b) (y,c)))
 | _=>none
theorem xh:au Try.prog GC 104 M52:=by
 refine au.of_ev (E:=ax GC []) (aw aA) rfl Ly yP 2 ?_
 intro args r h
 unfold M52 at h
 split at h
 ·rename_i x b y c
  injection h with h; subst h
  refine ⟨0,?_⟩
  have b1:ai .gtr (.int .i64 y) (.int .i64 x)=some (.bool (decide (y > x))):=by simp [ai]
  rw [aK _ _ rfl]
  unfold jT lA
  cases b with
  | false=>simp [AP,-ai]
  | true=>
   cases c with
   | false=>simp [AP,-ai]
   | true=>
    by_cases hxy:y > x
    ·rw [decide_eq_true hxy] at b1
     simp [AP,b1,hxy,-ai]
    ·rw [decide_eq_false hxy] at b1
     simp [AP,b1,hxy,-ai]
 ·cases h
open Go
def noL:LP:=(0,false)
def hst (h:List LP) (next:List LP) (a:dh):List LP:=next.set a.1 (jT (next.getD a.1 noL) (eV (h.getD a.2.1 noL) a.2.2))
def kj (L:List dh) (h:List LP) (n:Nat):List LP:=L.foldl (hst h) (List.replicate n noL)
def hm (L:List dh) (n to:Nat):Nat->List LP
 | 0=>(List.replicate n noL).set to (0,true)
 | j+1=>kj L (hm L n to j) n
def wV (L:List dh) (n to k:Nat):List AV:=(List.range (k+1)).map fun j=>.fs 2 ((hm L n to j).map lA)
theorem uc (h next:List LP) (a:dh):(hst h next a).length=next.length:=by simp [hst]
theorem gh (h:List LP):∀(L:List dh) (next:List LP),(L.foldl (hst h) next).length=next.length
 | [],_=>rfl
 | a :: L,next=>by rw [List.foldl_cons,gh h L,uc]
theorem vw (L:List dh) (n to:Nat):∀j,(hm L n to j).length=n
 | 0=>by simp [hm]
 | j+1=>by simp [hm,kj,gh]
def PB (B:Int) (h:List LP):Prop:=∀v,-B<=(h.getD v noL).1/\(h.getD v noL).1<=B
theorem kq {α:Type} (s:List α) (i j:Nat) (x d:α) (hi:i<s.length):(s.set i x).getD j d=if i=j then x else s.getD j d:=by
 rw [List.getD_eq_getElem?_getD,List.getD_eq_getElem?_getD]
 by_cases h:i=j
 ·subst h
  rw [List.getElem?_set_self hi,if_pos rfl]; rfl
 ·rw [List.getElem?_set_ne h,if_neg h]
theorem Eh {B:Int} {x y:LP} (h1 : -B<=x.1/\x.1<=B) (h2 : -B<=y.1/\y.1<=B) : -B<=(jT x y).1/\(jT x y).1<=B:=by
 unfold jT; split
 ·exact h2
 ·exact h1
theorem Ec {B w:Int} {x:LP} (h1 : -B<=x.1/\x.1<=B) (h2 : -3000000<=w/\w<=3000000) : -(B+3000000)<=(eV x w).1/\(eV x w).1<=B+3000000:=by
 unfold eV; split
 ·omega
 ·simp only; omega
theorem GF {B:Int} {h next:List LP} {a:dh} (h1:PB B h) (h2:PB (B+3000000) next) (hw : -3000000<=a.2.2/\a.2.2<=3000000) (hf:a.1<next.length):PB (B+3000000) (hst h next a):=fun v=>by
 unfold hst
 rw [kq _ _ _ _ _ hf]
 split
 ·exact Eh (h2 _) (Ec (h1 _) hw)
 ·exact h2 v
theorem xE {B:Int} (hB:0<=B) (n:Nat):PB B (List.replicate n noL):=fun v=>by
 have:(List.replicate n noL).getD v noL=noL:=by
  rw [List.getD_eq_getElem?_getD]
  by_cases h:v<n <;> simp [h]
 rw [this]; simp [noL]; omega
def th (n:Nat) (L:List dh):Prop:=∀a∈L,a.1<n/\a.2.1<n /\ -3000000<=a.2.2/\a.2.2<=3000000
theorem vq {n:Nat} {p:Int} {l:List a8} (hn:n<=32) (hp:cw p) (hv:∀x∈l,okA n x):th n (lar p l):=fun a ha=>by
 obtain ⟨x,hx,rfl⟩:=List.mem_map.1 ha
 obtain ⟨q1,q2,q3,q4⟩:=hv x hx
 have hle:=gO (n:=32) (a:=x) ⟨by omega,by omega,q3,q4⟩ hp
 simp only
 omega
theorem vA {n:Nat} {B:Int} {h:List LP} (h1:PB B h):∀ {L:List dh} {next:List LP},th n L->next.length=n->PB (B+3000000) next->PB (B+3000000) (L.foldl (hst h) next)
 | [],_,_,_,h2=>h2
 | a :: L,next,hL,hn,h2=>by
  rw [List.foldl_cons]
  obtain ⟨q1,q2,q3⟩:=hL a (by simp)
  exact vA h1 (fun b hb=>hL b (by simp [hb])) (by rw [uc,hn]) (GF h1 h2 q3 (by omega))
theorem EH {n:Nat} {L:List dh} (hL:th n L) (to:Nat):∀j:Nat,PB (3000000*j) (hm L n to j)
 | 0=>fun v=>by
  unfold hm
  by_cases h:to<n
  ·rw [kq _ _ _ _ _ (by simpa using h)]
   split
   ·simp
   ·have:=xE (B:=0) (by omega) n v
    omega
  ·rw [List.set_eq_of_length_le (by simp; omega)]
   have:=xE (B:=0) (by omega) n v
   omega
 | j+1=>by
  have h1:=EH hL to j
  have:=vA h1 hL (next:=List.replicate n noL) (by simp) (xE (by omega) n)
  intro v
  have:=this v
  simp only [hm,kj]
  omega
theorem x9 {h:List LP} {i:Nat} (hi:i<h.length):(h.map lA)[i]?=some (.agg [.int .i64 (h.getD i noL).1,.bool (h.getD i noL).2]):=by
 simp [hi,lA]
def LQ:MC:=.region [⟨none,.indexSl 6 (.var 11) (.var 13),none⟩,⟨none,.load true 6 (.tmp 0),none⟩,⟨some 7,.alloc 6 (.agg [.int .i64 0,.int .i64 0,.int .i64 0,.int .i64 0,.int .i64 0,.int .i64 0]),none⟩,⟨none,.store 6 (.var 7) (.tmp 1),none⟩]
def M3:MC:=.region [⟨none,.mv (.var 6),none⟩,⟨none,.fieldAddr 0 (.var 7),none⟩,⟨none,.fieldAddr 0 (.tmp 1),none⟩,⟨none,.load false 1 (.tmp 2),none⟩,⟨none,.mv (.var 6),none⟩,⟨none,.fieldAddr 0 (.var 7),none⟩,⟨none,.fieldAddr 0 (.tmp 5),none⟩,⟨none,.load false 1 (.tmp 6),none⟩,⟨none,.indexSl 2 (.tmp 4) (.tmp 7),none⟩,⟨none,.load true 2 (.tmp 8),none⟩,⟨none,.mv (.var 5),none⟩,⟨none,.fieldAddr 0 (.var 7),none⟩,⟨none,.fieldAddr 1 (.tmp 11),none⟩,⟨none,.load false 1 (.tmp 12),none⟩,⟨none,.indexSl 2 (.tmp 10) (.tmp 13),none⟩,⟨none,.load true 2 (.tmp 14),none⟩,⟨none,.fieldAddr 5 (.var 7),none⟩,⟨none,.load false 1 (.tmp 16),none⟩,⟨none,.call (.fn 102) [.tmp 15,.tmp 17],none⟩,⟨none,.call (.fn 104) [.tmp 9,.tmp 18],none⟩,⟨none,.indexSl 2 (.tmp 0) (.tmp 3),none⟩,⟨none,.store 2 (.tmp 20) (.tmp 19),none⟩]
theorem HR:lU=.seq (.region [⟨some 14,.bin .lss (.var 13) (.var 12),none⟩]) (.seq (.cond (.var 14) .skip (.exit 2)) (.seq (.seq (.block 3 (.seq LQ M3)) (.kill [1,2,3,7,10,14])) (.region [⟨none,.bin .add (.var 13) (.cst (.int .i64 1)),none⟩,⟨some 13,.mv (.tmp 0),none⟩]))):=rfl
def ym:List (FuncId × aG):=[(102,aD 4 M51),(104,aD 4 M52)]
@[simp] theorem JL:aC ym 102=some (aD 4 M51):=rfl
@[simp] theorem JK:aC ym 104=some (aD 4 M52):=rfl
theorem Dr:∀f M,aC ym f=some M->aj Try.prog GC f M:=af (aj.of_pure uR 4) (af (aj.of_pure xh 4) aA)
theorem r48a (E:Env) (fuel:Nat) (K:List KC) (A:ab) (X:MC) {p:Int} {l:List a8} {i:Nat} (hi:i<l.length) (v0 v4 v5 v6 v8 v9 v12 v14:AV) :
  run E fuel (.code (.seq LQ X) :: K) [v0,.undef,.undef,.undef,v4,v5,v6,.undef,v8,v9,.undef,slA 6 (wAs p (num l)),v12,.int .i64 (i:Int),v14] A =
   run E fuel (.code X :: K) [v0,.undef,.undef,.undef,v4,v5,v6,.ptr A.length 0 0,v8,v9,.undef,slA 6 (wAs p (num l)),v12,.int .i64 (i:Int),v14] (A++[.row 6 false [wA p (l[i],i)]]):=by
 have x1:=rH p hi A .i64
 obtain ⟨W,hW⟩:∃W,W=slA 6 (wAs p (num l)):=⟨_,rfl⟩
 rw [<-hW] at x1 ⊢
 simp [LQ,x1,wA,-ag]
def Ii (A0:ab) (id:Nat) (A:ab):Prop:=A0.length<=A.length/\∀j,j≠id->j<A0.length->A[j]?=A0[j]?
theorem GB (h:List LP) (i:Nat) (z:LP):(h.map lA).set i (lA z)=(h.set i z).map lA:=by rw [List.map_set]
theorem DU (fuel:Nat) {A0 A:ab} {n idL idN:Nat} {h nx:List LP} {p:Int} {l:List a8} (hn:h.length=n) (hx:nx.length=n) (hp:cw p) (hv:∀x∈l,okA n x) (hn32:n<=32) (hl200:l.length<=200) {i:Nat} (hi:i<l.length) (hb:PB 1000000000 h) (hLN:idL≠idN) (hid:idN<A0.length) (hidL:idL<A0.length) (hL:A0[idL]?=some (.row 2 false (h.map lA))) (hN:A[idN]?=some (.row 2 false (nx.map lA))) (hK:Ii A0 idN A) (v0 v4 v8 v9:AV) :
  ∃A',run (ax GC ym) fuel [.code lU] (lH v0 v4 (.sl idL 0 n) (.sl idN 0 n) v8 v9 (slA 6 (wAs p (num l))) (.int .i64 (l.length:Int)) (.int .i64 (i:Int))) A=some (.normal (lH v0 v4 (.sl idL 0 n) (.sl idN 0 n) v8 v9 (slA 6 (wAs p (num l))) (.int .i64 (l.length:Int)) (.int .i64 ((i+1:Nat):Int))) A') /\
   A'[idN]?=some (.row 2 false ((hst h nx (l[i].f.toNat,l[i].t.toNat,l[i].len p)).map lA))/\Ii A0 idN A':=by
 obtain ⟨g2,g3⟩:=hK
 have hmem:=hv _ (List.getElem_mem hi)
 obtain ⟨f,hf,hfn⟩:=nW hmem.1
 obtain ⟨t,ht,htn⟩:=nW hmem.2.1
 have hv32:okA 32 l[i]:=by
  obtain ⟨h1,h2,h3,h4⟩:=hmem
  exact ⟨by omega,by omega,h3,h4⟩
 obtain ⟨k1,k2,_,_⟩:=gO hv32 hp
 obtain ⟨w,hw⟩:∃w,w=l[i].len p:=⟨_,rfl⟩
 obtain ⟨B,hB⟩:∃B,B=A++[.row 6 false [wA p (l[i],i)]]:=⟨_,rfl⟩
 have r1:=fun K X=>r48a (ax GC ym) fuel K A X (p:=p) hi v0 v4 (.sl idL 0 n) (.sl idN 0 n) v8 v9 (.int .i64 (l.length:Int)) (.bool true)
 rw [<-hB] at r1
 have cN:B[idN]?=some (.row 2 false (nx.map lA)):=by rw [hB,List.getElem?_append_left (by omega)]; exact hN
 have cL:B[idL]?=some (.row 2 false (h.map lA)):=by rw [hB,List.getElem?_append_left (by omega),g3 idL hLN hidL]; exact hL
 have c8:B[A.length]?=some (.row 6 false [.agg [.int .i64 (f:Int),.int .i64 (t:Int),.int .i64 l[i].w,.int .i64 l[i].k,.int .i64 (i:Int),.int .i64 w]]):=by
  rw [hB,hw]; simp [wA,hf,ht]
 obtain ⟨i8,hi8⟩:∃i8,i8=A.length:=⟨_,rfl⟩
 rw [<-hi8] at r1 c8
 have hBl:A0.length<=B.length:=by rw [hB]; simp; omega
 have hBo:∀j,j≠idN->j<A0.length->B[j]?=A0[j]?:=fun j hj hl=>by rw [hB,List.getElem?_append_left (by omega)]; exact g3 j hj hl
 rw [<-hw] at k1 k2
 have e1:l[i].f.toNat=f:=by omega
 have e2:l[i].t.toNat=t:=by omega
 rw [e1,e2,<-hw]
 have ef:=x9 (h:=nx) (i:=f) (by omega)
 have et:=x9 (h:=h) (i:=t) (by omega)
 have bt:=hb t
 unfold hst
 simp only
 obtain ⟨x,hx1⟩:∃x,x=nx.getD f noL:=⟨_,rfl⟩
 obtain ⟨y,hy1⟩:∃y,y=h.getD t noL:=⟨_,rfl⟩
 rw [<-hx1] at ef ⊢
 rw [<-hy1] at et bt ⊢
 have m1:M51 [.agg [.int .i64 y.1,.bool y.2],.int .i64 w]=some (.agg [.int .i64 (eV y w).1,.bool (eV y w).2]):=if_pos (by omega)
 have m2:M52 [.agg [.int .i64 x.1,.bool x.2],.agg [.int .i64 (eV y w).1,.bool (eV y w).2]]=some (.agg [.int .i64 (jT x (eV y w)).1,.bool (jT x (eV y w)).2]):=rfl
 have b1:=bj i l.length .i64
 rw [decide_eq_true hi] at b1
 have b3:=aY i (by omega)
 obtain ⟨i1,hi1⟩:∃i1:Nat,i1=i+1:=⟨_,rfl⟩
 rw [<-hi1] at b3 ⊢
 rw [<-GB]
 obtain ⟨q,hq⟩:∃q,q=eV y w:=⟨_,rfl⟩
 rw [<-hq] at m1 m2 ⊢
 obtain ⟨z,hz⟩:∃z,z=jT x q:=⟨_,rfl⟩
 rw [<-hz] at m2 ⊢
 obtain ⟨q1,q2⟩:=q
 obtain ⟨z1,z2⟩:=z
 obtain ⟨x1,x2⟩:=x
 obtain ⟨y1,y2⟩:=y
 simp only at m1 m2 ef et
 obtain ⟨W,hW⟩:∃W,W=slA 6 (wAs p (num l)):=⟨_,rfl⟩
 rw [<-hW] at r1 ⊢
 obtain ⟨nxa,hnxa⟩:∃nxa,nxa=nx.map lA:=⟨_,rfl⟩
 obtain ⟨ha,hha⟩:∃ha,ha=h.map lA:=⟨_,rfl⟩
 rw [<-hnxa] at cN ef ⊢
 rw [<-hha] at cL et
 have hfn':f<n:=by omega
 have htn':t<n:=by omega
 refine ⟨B.set idN (.row 2 false (nxa.set f (lA (z1,z2)))),?_,?_,?_,?_⟩
 ·rw [HR]
  simp [b1,b3,r1,M3,cN,cL,c8,ef,et,m1,m2,hfn',htn',lA,-ai]
 ·exact List.getElem?_set_self (by omega)
 ·simp; omega
 ·intro j hj hl
  rw [List.getElem?_set_ne (Ne.symm hj)]; exact hBo j hj hl
theorem Gn (fuel:Nat) {A:ab} {n idL idN:Nat} {h:List LP} {p:Int} {l:List a8} (hn:h.length=n) (hp:cw p) (hv:∀x∈l,okA n x) (hn32:n<=32) (hl200:l.length<=200) (hf:200<fuel) (hb:PB 1000000000 h) (hLN:idL≠idN) (hL:A[idL]?=some (.row 2 false (h.map lA))) (hN:A[idN]?=some (.row 2 false ((List.replicate n noL).map lA))) (v0 v4 v8 v9:AV) :
  ∃A',bU (evC (ax GC ym) fuel lU) jV fuel (lH v0 v4 (.sl idL 0 n) (.sl idN 0 n) v8 v9 (slA 6 (wAs p (num l))) (.int .i64 (l.length:Int)) (.int .i64 0)) A=some (.exit 2 ((lH v0 v4 (.sl idL 0 n) (.sl idN 0 n) v8 v9 (slA 6 (wAs p (num l))) (.int .i64 (l.length:Int)) (.int .i64 (l.length:Int))).set 14 (.bool false)) A') /\
   A'[idN]?=some (.row 2 false ((kj (lar p l) h n).map lA))/\Ii A idN A':=by
 have hidN:=(List.getElem?_eq_some_iff.1 hN).1
 have hidL:=(List.getElem?_eq_some_iff.1 hL).1
 have hlen:(lar p l).length=l.length:=by simp [lar]
 obtain ⟨o,h1,A',h2,h3,h4⟩:=gf (E:=ax GC ym) (fuel:=fuel) (a:=lU) (mask:=jV) (fun k σ B=>∃i,i+k=l.length/\σ=lH v0 v4 (.sl idL 0 n) (.sl idN 0 n) v8 v9 (slA 6 (wAs p (num l))) (.int .i64 (l.length:Int)) (.int .i64 (i:Int))/\B[idN]?=some (.row 2 false ((((lar p l).take i).foldl (hst h) (List.replicate n noL)).map lA))/\Ii A idN B)
  (fun o=>∃A',A'[idN]?=some (.row 2 false ((kj (lar p l) h n).map lA))/\Ii A idN A'/\o=.exit 2 ((lH v0 v4 (.sl idL 0 n) (.sl idN 0 n) v8 v9 (slA 6 (wAs p (num l))) (.int .i64 (l.length:Int)) (.int .i64 (l.length:Int))).set 14 (.bool false)) A')
  (by
   rintro k σ B ⟨i,hik,rfl,hN',hK⟩
   rw [CE]
   by_cases hi':i<l.length
   ·obtain ⟨B',c1,c2,c3⟩:=DU fuel (n:=n) hn (by rw [gh]; simp) hp hv hn32 hl200 hi' hb hLN hidN hidL hL hN' hK v0 v4 v8 v9
    refine .inl ⟨_,_,c1,k-1,by omega,i+1,by omega,rfl,?_,c3⟩
    rw [c2,List.take_succ_eq_append_getElem (by omega),List.foldl_append]
    simp [lar]
   ·obtain rfl:i=l.length:=by omega
    refine .inr ⟨_,?_,?_,B,?_,hK,rfl⟩
    ·simp [lU]
    ·intro _ _ h; cases h
    ·rw [hN',List.take_of_length_le (by omega)]; rfl)
  fuel l.length _ A (by omega) ⟨0,by omega,rfl,by simpa using hN,Nat.le_refl _,fun _ _ _=>rfl⟩
 exact ⟨A',by rw [<-h4]; exact h1,h2,h3⟩
def Fj (L:List dh) (n to i:Nat) (A:ab):Prop:=∃(gr:Bool) (os:List AV),A[1]?=some (.row 1 gr os)/\os.length=i+1/\∀j,j<=i->∃id,os[j]?=some (.sl id 0 n)/\id≠1/\A[id]?=some (.row 2 false ((hm L n to j).map lA))
theorem AG (fuel:Nat) {A:ab} {n to i:Nat} {p:Int} {l:List a8} (h1n:1<=n) (hp:cw p) (hv:∀x∈l,okA n x) (hn32:n<=32) (hl200:l.length<=200) (hf:200<fuel) {k:Nat} (hi:i<k) (hk:k<=32) (hI:Fj (lar p l) n to i A) :
  ∃A',run (ax GC ym) fuel [.code nZ] (nw (cP n p l) (.sl 1 0 (i+1)) (.int .i64 (k:Int)) (.int .i64 (i:Int))) A=some (.normal (nw (cP n p l) (.sl 1 0 (i+1+1)) (.int .i64 (k:Int)) (.int .i64 ((i+1:Nat):Int))) A')/\Fj (lar p l) n to (i+1) A':=by
 obtain ⟨gr,os,g1,g2,g3⟩:=hI
 obtain ⟨id,hid,hid1,hrow⟩:=g3 i (Nat.le_refl _)
 have hid2:=(List.getElem?_eq_some_iff.1 hrow).1
 have h1A:=(List.getElem?_eq_some_iff.1 g1).1
 obtain ⟨B,hB⟩:∃B,B=A++[.row 2 false ((List.replicate n noL).map lA)]:=⟨_,rfl⟩
 have hBN:B[A.length]?=some (.row 2 false ((List.replicate n noL).map lA)):=by rw [hB]; simp
 have hBo:∀j,j<A.length->B[j]?=A[j]?:=fun j hj=>by rw [hB,List.getElem?_append_left hj]
 have hBl:B.length=A.length+1:=by rw [hB]; simp
 have hok:=vq hn32 hp hv
 have hpb:=EH hok to i
 have hpb':PB 1000000000 (hm (lar p l) n to i):=fun v=>by have:=hpb v; omega
 have mk:bZ 2 16 (.agg [.int .i64 0,.bool false]) A (.int .i64 (n:Int)) (.int .i64 (n:Int))=some (.sl A.length 0 n,B):=by
  rw [hB]; simp [bZ,lA,noL]; omega
 obtain ⟨C,c1,c2,c3⟩:=Gn fuel (A:=B) (n:=n) (idL:=id) (idN:=A.length) (vw _ n to i) hp hv hn32 hl200 hf hpb' (by omega) (by rw [hBo id hid2]; exact hrow) hBN (cP n p l) (.sl 1 0 (i+1)) (.int .i64 (k:Int)) (.int .i64 (i:Int))
 have hC1:C[1]?=some (.row 1 gr os):=by rw [c3.2 1 (by omega) (by omega),hBo 1 h1A]; exact g1
 obtain ⟨nid,hnid⟩:∃nid,nid=A.length:=⟨_,rfl⟩
 have hC1l:=(List.getElem?_eq_some_iff.1 hC1).1
 obtain ⟨D,hD⟩:∃D,D=C++[.row 1 false [.sl A.length 0 n]]:=⟨_,rfl⟩
 have hDo:∀j,j<C.length->D[j]?=C[j]?:=fun j hj=>by rw [hD,List.getElem?_append_left hj]
 have hDl:D.length=C.length+1:=by rw [hD]; simp
 have hDn:D[C.length]?=some (.row 1 false [.sl A.length 0 n]):=by rw [hD]; simp
 have ap:aN 1 24 D (.sl 1 0 (i+1)) (.sl C.length 0 1)=some (.sl 1 0 (i+1+1),D.set 1 (.row 1 true (os++[.sl A.length 0 n]))):=by
  simp [aN,aQ,hDn,hDo 1 hC1l,hC1,g2]
  omega
 have b0:ai .sub (.int .i64 ((i+1:Nat):Int)) (.int .i64 1)=some (.int .i64 (i:Int)):=by
  simp only [ai]; rw [if_pos trivial,eu (by unfold inI; omega)]; congr 2; omega
 have b1:=bj i k .i64
 rw [decide_eq_true hi] at b1
 have b3:=aY i (by omega)
 have hlen2:aq (slA 6 (wAs p (num l)))=some (.int .i64 (l.length:Int)):=by rw [qU,qC]
 have hne:¬ 1=A.length:=by omega
 refine ⟨D.set 1 (.row 1 true (os++[.sl A.length 0 n])),?_,true,os++[.sl A.length 0 n],?_,?_,?_⟩
 ·obtain ⟨W1,hW⟩:∃W1,W1=slA 6 (wAs p (num l)):=⟨_,rfl⟩
  obtain ⟨O,hO⟩:∃O,cP n p l=.fp [.int .i64 (n:Int),W1,O]:=⟨_,by rw [hW]; rfl⟩
  rw [<-hW] at c1 hlen2
  rw [hO] at c1 ⊢
  rw [hD] at ap ⊢
  rw [<-hnid] at c1 ap hne mk ⊢
  obtain ⟨i1,hi1⟩:∃i1:Nat,i1=i+1:=⟨_,rfl⟩
  rw [<-hi1] at b0 b3 c1 ap ⊢
  have hii:i<i1:=by omega
  have hls:aq (.sl 1 0 i1)=some (.int .i64 (i1:Int)):=rfl
  simp [nZ,hls,b0,b1,b3,g1,hid,mk,GI c1,ap,hlen2,hne,hii,hnid.symm,-ai,-bZ,-aq]
 ·exact List.getElem?_set_self (by omega)
 ·simp [g2]
 ·intro j hj
  have hcl:=c3.1
  by_cases hji:j=i+1
  ·subst hji
   refine ⟨A.length,by simp [<-g2],by omega,?_⟩
   rw [List.getElem?_set_ne (by omega),hDo _ (by omega)]; exact c2
  ·obtain ⟨jd,q1,q2,q3⟩:=g3 j (by omega)
   have hjd:=(List.getElem?_eq_some_iff.1 q3).1
   refine ⟨jd,by rw [List.getElem?_append_left (by omega)]; exact q1,q2,?_⟩
   rw [List.getElem?_set_ne (Ne.symm q2),hDo jd (by omega),c3.2 jd (by omega) (by omega),hBo jd hjd]; exact q3
def M48:aP:=fun args=>evF (ax GC ym) 300 Jj 5 args
theorem Df:cc Try.prog GC 99 M48:=cc.of_ev (E:=ax GC ym) (aw Dr) rfl at48 Ho 5 fun _ _ h=>⟨300,h⟩
theorem GW (A:ab) (n:Nat) (h:List LP):(h.map lA).map (frz A (n+1))=h.map lA:=by
 rw [List.map_map]; apply List.map_congr_left; intro x _; cases n <;> rfl
theorem Fj.frz {L:List dh} {n to i:Nat} {A:ab} (h:Fj L n to i A) (k:Nat):Proofs.Ytkcjhljbgjpklaa.frz A (k+3) (.sl 1 0 (i+1))=.fs 1 (wV L n to i)/\ba A (k+3) (.sl 1 0 (i+1))=true:=by
 obtain ⟨gr,os,g1,g2,g3⟩:=h
 constructor
 ·show Proofs.Ytkcjhljbgjpklaa.frz A (k+2+1) _=_
  simp only [Proofs.Ytkcjhljbgjpklaa.frz,g1,List.drop_zero]
  rw [List.take_of_length_le (by omega)]
  congr 1
  apply List.ext_getElem (by simp [g2,wV])
  intro j h1 h2
  obtain ⟨id,q1,q2,q3⟩:=g3 j (by simp [wV] at h2; omega)
  have e:os[j]'(by simpa using h1)=.sl id 0 n:=by
   rw [List.getElem?_eq_getElem (by simpa using h1)] at q1; exact Option.some.inj q1
  simp only [List.getElem_map,e,wV,List.getElem_range]
  show Proofs.Ytkcjhljbgjpklaa.frz A (k+1+1) _=_
  simp only [Proofs.Ytkcjhljbgjpklaa.frz,q3,List.drop_zero]
  rw [List.take_of_length_le (by simp [vw]),GW]
 ·show ba A (k+2+1) _=_
  simp only [ba,g1,List.drop_zero]
  rw [List.take_of_length_le (by omega),List.all_eq_true]
  intro x hx
  obtain ⟨j,hj,rfl⟩:=List.mem_iff_getElem.1 hx
  obtain ⟨id,q1,q2,q3⟩:=g3 j (by omega)
  have e:os[j]=.sl id 0 n:=by
   rw [List.getElem?_eq_getElem hj] at q1; exact Option.some.inj q1
  rw [e]
  show ba A (k+1+1) _=_
  simp only [ba,q3,List.drop_zero]
  rw [List.take_of_length_le (by simp [vw]),List.all_eq_true]
  intro y hy
  obtain ⟨z,_,rfl⟩:=List.mem_map.1 hy
  cases k <;> simp [lA,ba]
theorem Ib {n to:Nat} {p:Int} {l:List a8} (hr:ck n l p) (hto:to<n) {k:Nat} (hk:k<=32):M48 [cP n p l,.int .i64 (to:Int),.int .i64 (k:Int)]=some (.fs 1 (wV (lar p l) n to k)):=by
 obtain ⟨⟨hn,hl200,hv⟩,hp⟩:=hr
 have hn32:n<=32:=by omega
 obtain ⟨z,hz⟩:∃z,z=(List.replicate n noL).map lA:=⟨_,rfl⟩
 have mk:bZ 2 16 (.agg [.int .i64 0,.bool false]) [] (.int .i64 (n:Int)) (.int .i64 (n:Int))=some (.sl 0 0 n,[.row 2 false z]):=by
  rw [hz]; simp [bZ,lA,noL]; omega
 have hz2:z.set to (.agg [.int .i64 0,.bool true])=(hm (lar p l) n to 0).map lA:=by
  rw [hz]; unfold hm; rw [List.map_set]; rfl
 have hzl:z.length=n:=by rw [hz]; simp
 have hz3:z[to]?=some (.agg [.int .i64 0,.bool false]):=by
  rw [hz]; simp [hto,lA,noL]
 obtain ⟨o,h1,A',h2,rfl⟩:=gf (E:=ax GC ym) (fuel:=300) (a:=nZ) (mask:=mT) (fun m σ A=>∃i,i+m=k/\σ=nw (cP n p l) (.sl 1 0 (i+1)) (.int .i64 (k:Int)) (.int .i64 (i:Int))/\Fj (lar p l) n to i A)
  (fun o=>∃A',Fj (lar p l) n to k A'/\o=.exit 0 ((nw (cP n p l) (.sl 1 0 (k+1)) (.int .i64 (k:Int)) (.int .i64 (k:Int))).set 10 (.bool false)) A')
  (by
   rintro m σ A ⟨i,him,rfl,hI⟩
   rw [CD]
   by_cases hi':i<k
   ·obtain ⟨A',c1,c2⟩:=AG 300 (by omega) hp hv hn32 hl200 (by omega) hi' hk hI
    exact .inl ⟨_,_,c1,m-1,by omega,i+1,by omega,rfl,c2⟩
   ·obtain rfl:i=k:=by omega
    refine .inr ⟨_,?_,?_,A,hI,rfl⟩
    ·simp [nZ]
    ·intro _ _ h; cases h)
  300 k (nw (cP n p l) (.sl 1 0 1) (.int .i64 (k:Int)) (.int .i64 0)) [.row 2 false ((hm (lar p l) n to 0).map lA),.row 1 false [.sl 0 0 n]] (by omega) ⟨0,by omega,rfl,false,[.sl 0 0 n],rfl,rfl,fun j hj=>by
   obtain rfl:j=0:=by omega
   exact ⟨0,rfl,by omega,rfl⟩⟩
 obtain ⟨q1,q2⟩:=h2.frz 2
 unfold M48
 rw [jt _ _ rfl]
 rw [<-hz2] at h1
 have p1:dZ [.sl 1 0 (k+1)]=.sl 1 0 (k+1):=rfl
 obtain ⟨W1,O,hO⟩:∃W1 O,cP n p l=.fp [.int .i64 (n:Int),W1,O]:=⟨_,_,rfl⟩
 rw [hO] at h1 ⊢
 simp [Jj,mk,hz3,hto,GH h1,q1,q2,-frz,-bZ]
open Go
def jD (h:List LP) (p sum:Int) (x:eU):Bool:=(eV (h.getD x.1.t.toNat noL) (sum+x.1.len p)).2 && decide ((eV (h.getD x.1.t.toNat noL) (sum+x.1.len p)).1 > 0)
def IE:List (FuncId × aG):=[(102,aD 4 M51)]
@[simp] theorem JI:aC IE 102=some (aD 4 M51):=rfl
theorem Dp:∀f M,aC IE f=some M->aj Try.prog GC f M:=af (aj.of_pure uR 4) aA
def M50:aP:=fun args=>evP (ax GC IE) 0 Ej 1 args
theorem xj:au Try.prog GC 101 M50:=au.of_ev (E:=ax GC IE) (aw Dp) rfl Lz yQ 1 fun _ _ h=>⟨0,h⟩
def wU (hs:List (List LP)):AV:=.fs 1 (hs.map fun h=>.fs 2 (h.map lA))
def GX (hs:List (List LP)) (left sum:Int):AV:=.func (.func 101) [] [.fp [wU hs],.fp [.int .i64 left],.fp [.int .i64 sum]]
theorem H9 {hs:List (List LP)} {left t:Nat} {h:List LP} {p sum:Int} {x:eU} (hh:hs[left]?=some h) (ht:x.1.t=(t:Int)) (hth:t<h.length) (hpb:PB 1000000000 h) (hs1 : -1000000000<=sum/\sum<=1000000000) (hw : -3000000<=x.1.len p/\x.1.len p<=3000000) :
  M50 [wA p x,.fp [wU hs],.fp [.int .i64 left],.fp [.int .i64 sum]]=some (.bool (jD h p sum x)):=by
 unfold jD
 have e1:x.1.t.toNat=t:=by omega
 rw [e1]
 have et:=x9 hth
 have bt:=hpb t
 obtain ⟨y,hy1⟩:∃y,y=h.getD t noL:=⟨_,rfl⟩
 rw [<-hy1] at et bt ⊢
 obtain ⟨w,hw1⟩:∃w,w=x.1.len p:=⟨_,rfl⟩
 rw [<-hw1] at hw ⊢
 have m1:M51 [.agg [.int .i64 y.1,.bool y.2],.int .i64 (sum+w)]=some (.agg [.int .i64 (eV y (sum+w)).1,.bool (eV y (sum+w)).2]):=if_pos (by omega)
 have b2:ai .add (.int .i64 sum) (.int .i64 w)=some (.int .i64 (sum+w)):=by
  simp only [ai]; rw [if_pos trivial,eu (by unfold inI; omega)]
 have hx:wA p x=.agg [.int .i64 x.1.f,.int .i64 (t:Int),.int .i64 x.1.w,.int .i64 x.1.k,.int .i64 (x.2:Int),.int .i64 w]:=by unfold wA; rw [ht,hw1]
 rw [hx]
 have hix:∀A,ag 1 A (wU hs) (.int .i64 (left:Int))=some (.fp [.fs 2 (h.map lA)]):=fun A=>
  (show SlA 1 (hs.map fun h=>.fs 2 (h.map lA)) (wU hs) from .inr rfl).index1 (A:=A) (by simp [hh]) rfl rfl .i64
 have hix2:∀A,ag 2 A (.fs 2 (h.map lA)) (.int .i64 (t:Int))=some (.fp [.int .i64 y.1,.bool y.2]):=fun A=>
  (show SlA 2 (h.map lA) (.fs 2 (h.map lA)) from .inr rfl).index (A:=A) (i:=t) et rfl (by omega) .i64
 obtain ⟨HT,hHT⟩:∃HT,wU hs=.fs 1 HT:=⟨_,rfl⟩
 rw [hHT] at hix ⊢
 obtain ⟨s,hs'⟩:∃s,s=sum+w:=⟨_,rfl⟩
 rw [<-hs'] at m1 b2 ⊢
 obtain ⟨q,hq⟩:∃q,q=eV y s:=⟨_,rfl⟩
 rw [<-hq] at m1 ⊢
 have b3:ai .gtr (.int .i64 q.1) (.int .i64 0)=some (.bool (decide (q.1 > 0))):=by simp [ai]
 obtain ⟨q1,q2⟩:=q
 obtain ⟨y1,y2⟩:=y
 simp only at m1 b3 hix2
 unfold M50
 rw [aK _ _ rfl]
 cases q2
 ·simp [Ej,hix,hix2,b2,m1,-ai,-ag]
 ·simp [Ej,hix,hix2,b2,b3,m1,-ai,-ag]
def Cp:List (FuncId × aG):=[(101,aD 4 M50)]
@[simp] theorem JJ:aC Cp 101=some (aD 4 M50):=rfl
theorem Dq:∀f M,aC Cp f=some M->aj Try.prog GC f M:=af (aj.of_pure xj 4) aA
def M49:aP:=fun args=>evP (ax GC Cp) 300 IB 1 args
theorem FM:au Try.prog GC 100 M49:=au.of_ev (E:=ax GC Cp) (aw Dq) rfl at49 Hn 1 fun _ _ h=>⟨300,h⟩
theorem Ia {hs:List (List LP)} {left:Nat} {h:List LP} {p sum:Int} {xs:List eU} {ch:AV} (hch:SlA 6 (wAs p xs) ch) (hl:xs.length<=200) (hh:hs[left]?=some h) (ht:∀x∈xs,0<=x.1.t/\x.1.t<(h.length:Int)) (hpb:PB 1000000000 h) (hs1 : -1000000000<=sum/\sum<=1000000000) (hw:∀x∈xs,-3000000<=x.1.len p/\x.1.len p<=3000000) :
  M49 [ch,GX hs left sum]=some (.int .i64 (c9 (jD h p sum) xs)):=by
 have hlen:=hch.len
 have hlen':(wAs p xs).length=xs.length:=by simp [wAs]
 rw [hlen'] at hlen
 obtain ⟨F,hF⟩:∃F,F=GX hs left sum:=⟨_,rfl⟩
 have round:∀(A:ab) (i:Nat) (hi:i<xs.length),run (ax GC Cp) 300 [.code iT] (lG ch F (.int .i64 (xs.length:Int)) (.int .i64 (i:Int))) A =
   if jD h p sum xs[i]=false then some (.normal (lG ch F (.int .i64 (xs.length:Int)) (.int .i64 ((i+1:Nat):Int))) A) else some (.ret [ch,F,.int .i64 (i:Int),.int .i64 (i:Int),.int .i64 (xs.length:Int),.int .i64 (i:Int),.bool true,.bool true] A):=fun A i hi=>by
  have hmem:=List.getElem_mem hi
  obtain ⟨t,ht1,ht2⟩:∃t:Nat,xs[i].1.t=(t:Int)/\t<h.length:=by
   have:=ht _ hmem
   exact ⟨xs[i].1.t.toNat,by omega,by omega⟩
  have x1:ag 6 A ch (.int .i64 (i:Int))=some (.fp [.int .i64 xs[i].1.f,.int .i64 xs[i].1.t,.int .i64 xs[i].1.w,.int .i64 xs[i].1.k,.int .i64 (xs[i].2:Int),.int .i64 (xs[i].1.len p)]):=
   hch.index (A:=A) (i:=i) (x:=wA p xs[i]) (by simp [wAs,hi]) rfl (by omega) .i64
  have m:=H9 (p:=p) hh ht1 ht2 hpb hs1 (hw _ hmem)
  unfold wA at m
  have b1:=bj i xs.length .i64
  rw [decide_eq_true hi] at b1
  have b3:=aY i (by omega)
  obtain ⟨i1,hi1⟩:∃i1:Nat,i1=i+1:=⟨_,rfl⟩
  rw [<-hi1] at b3 ⊢
  obtain ⟨d,hd⟩:∃d,d=jD h p sum xs[i]:=⟨_,rfl⟩
  rw [<-hd] at m ⊢
  rw [hF]
  obtain ⟨HT,hHT⟩:∃HT,wU hs=.fs 1 HT:=⟨_,rfl⟩
  have fz:∀B n,frz B n (.fs 1 HT)=.fs 1 HT:=fun B n=>by cases n <;> rfl
  unfold GX
  rw [hHT] at m ⊢
  cases d with
  | false=>simp [iT,x1,m,b1,b3,-ai,-ag,-aq]
  | true=>simp [iT,x1,m,b1,-ai,-ag,-aq]
 unfold M49
 rw [aK _ _ rfl,<-hF]
 rcases cI (E:=ax GC Cp) (fuel:=300) (a:=iT) (mask:=ik) (fun i=>lG ch F (.int .i64 (xs.length:Int)) (.int .i64 (i:Int))) (fun _=>[]) xs.length (fun i=>¬ ∀hi:i<xs.length,jD h p sum xs[i]=false)
  (oF:=fun i=>.ret [ch,F,.int .i64 (i:Int),.int .i64 (i:Int),.int .i64 (xs.length:Int),.int .i64 (i:Int),.bool true,.bool true] []) (oE:=.exit 0 ((lG ch F (.int .i64 (xs.length:Int)) (.int .i64 (xs.length:Int))).set 6 (.bool false)) [])
  (fun _=>CC) (fun _ _ _ h=>by cases h) (fun _ _ h=>by cases h)
  (fun i hi hp=>by
   rw [round [] i hi]
   exact if_pos (Classical.not_not.1 hp hi))
  (fun i hi hp=>by
   rw [round [] i hi]
   exact if_neg fun h=>hp fun _=>h)
  (by simp [iT]) (show xs.length<300 by omega) with ⟨i,hi,hp,hj,lp⟩ | ⟨hp,lp⟩
 ·have lp:bU (evC (ax GC Cp) 300 iT) ik 300 (lG ch F (.int .i64 (xs.length:Int)) (.int .i64 0)) []=_:=lp
  have e:c9 (jD h p sum) xs=(i:Int):=bJ hi (by
   cases h':jD h p sum xs[i] with
   | true=>rfl
   | false=>exact absurd (fun _=>h') hp) (fun j hj'=>Classical.not_not.1 (hj j hj') (by omega))
  rw [e]
  simp [IB,hlen,Ce lp,-ai,-aq]
 ·have lp:bU (evC (ax GC Cp) 300 iT) ik 300 (lG ch F (.int .i64 (xs.length:Int)) (.int .i64 0)) []=_:=lp
  have e:c9 (jD h p sum) xs = -1:=bM fun i hi=>Classical.not_not.1 (hp i hi) hi
  rw [e]
  simp [IB,hlen,Ce lp,-ai,-aq]
open Go
def o6 (p:Int) (l:List a8) (hs:Nat->List LP):Nat->Int->List eU->List Int->Option (List Int)
 | 0,_,_,out=>some out
 | r+1,sum,ch,out=>match ch.find? (jD (hs r) p sum) with
  | none=>none
  | some b=>o6 p l hs r (sum+b.1.len p) (mA l b.1.t.toNat) (out++[(b.2:Int)])
def jz (A:ab) (s:AV) (xs:List Int):Prop:=(s=.nilS/\xs=[])\/∃id gr,s=.sl id 0 xs.length/\xs≠[]/\5<=id/\A[id]?=some (.row 1 gr (ak xs))
theorem jz.keep {A B:ab} {s:AV} {xs:List Int} (h:jz A s xs) (hAB:∀id,id∈aW s->B[id]?=A[id]?):jz B s xs:=by
 rcases h with h | ⟨id,gr,rfl,h1,h2,h3⟩
 ·exact .inl h
 ·exact .inr ⟨id,gr,rfl,h1,h2,by rw [hAB id (by simp [aW]),h3]⟩
theorem jz.low {A:ab} {s:AV} {xs:List Int} (h:jz A s xs):∀id,id∈aW s->5<=id/\id<A.length:=by
 rcases h with ⟨rfl,_⟩ | ⟨id,gr,rfl,h1,h2,h3⟩
 ·intro id h; simp [aW] at h
 ·intro j hj
  simp only [aW,List.mem_singleton] at hj
  subst hj
  exact ⟨h2,(List.getElem?_eq_some_iff.1 h3).1⟩
theorem jz.form2 {A:ab} {s:AV} {xs:List Int} (h:jz A s xs):s=.nilS\/∃i k,s=.sl i 0 k:=by
 rcases h with ⟨rfl,_⟩ | ⟨id,gr,rfl,_⟩
 ·exact .inl rfl
 ·exact .inr ⟨_,_,rfl⟩
theorem jz.append {A:ab} {s:AV} {xs:List Int} (h:jz A s xs) (z:Int) (hA:5<=A.length) (hl:xs.length<=1000) :
  ∃s' k A',aN 1 8 A s (.fs 1 [.int .i64 z])=some (.sl s' 0 k,A')/\jz A' (.sl s' 0 k) (xs++[z])/\A.length<=A'.length/\(∀j,j<A.length->j ∉ aW s->A'[j]?=A[j]?)/\(s'∈aW s\/s'=A.length):=by
 rcases h with ⟨rfl,rfl⟩ | ⟨id,gr,rfl,h1,h2,h3⟩
 ·refine ⟨A.length,1,A++[.row 1 false [.int .i64 z]],by simp [aN,aQ],.inr ⟨A.length,false,rfl,by simp,hA,by simp [ak]⟩,by simp,fun j hj _=>by rw [List.getElem?_append_left hj],.inr rfl⟩
 ·have hid:=(List.getElem?_eq_some_iff.1 h3).1
  refine ⟨id,(xs++[z]).length,A.set id (.row 1 true (ak (xs++[z]))),?_,.inr ⟨id,true,rfl,by simp,h2,by simp [hid]⟩,by simp,fun j hj hn=>?_,.inl (by simp [aW])⟩
  ·simp only [aN,aQ,h3]
   simp [h1,ak]
   omega
  ·rw [List.getElem?_set_ne (fun e=>hn (by simp [aW,e]))]
theorem jz.out {A:ab} {s:AV} {xs:List Int} (h:jz A s xs) (k:Nat):frz A (k+1) s=slA 1 (ak xs)/\ba A (k+1) s=true:=by
 rcases h with ⟨rfl,rfl⟩ | ⟨id,gr,rfl,h1,h2,h3⟩
 ·exact ⟨rfl,rfl⟩
 ·constructor
  ·simp only [frz,h3,List.drop_zero]
   rw [List.take_of_length_le (by simp [ak]),sq]
   cases xs with
   | nil=>exact absurd rfl h1
   | cons x r=>rfl
  ·simp only [ba,h3,List.drop_zero]
   rw [List.take_of_length_le (by simp [ak])]
   exact s8 _ _ _
def Chs (A:ab) (v:AV) (xs:List AV):Prop:=SlA 6 xs v\/(v=.sl 3 0 xs.length/\A[3]?=some (.row 6 false xs))
def wW:List (FuncId × aG):=[(100,aD 4 M49)]
@[simp] theorem JR:aC wW 100=some (aD 4 M49):=rfl
theorem Dv:∀f M,aC wW f=some M->aj Try.prog GC f M:=af (aj.of_pure FM 4) aA
def LZ:MC:=.region [⟨none,.load false 1 (.var 11),none⟩,⟨some 14,.bin .geq (.tmp 0) (.cst (.int .i64 0)),none⟩]
def LY:MC:=.region [⟨none,.mv (.var 10),none⟩,⟨none,.makeFunc (.func 101) [] [.var 5,.var 11,.var 9],none⟩,⟨none,.call (.fn 100) [.tmp 0,.tmp 1],none⟩,⟨some 12,.mv (.tmp 2),none⟩]
def LX:MC:=.region [⟨none,.mv (.var 12),none⟩,⟨some 15,.bin .lss (.tmp 0) (.cst (.int .i64 0)),none⟩]
def M4:MC:=.region [⟨some 6,.mv (.cst .nilS),none⟩,⟨some 7,.mv (.cst (.bool false)),none⟩]
def LW:MC:=.region [⟨none,.mv (.var 10),none⟩,⟨none,.mv (.var 12),none⟩,⟨none,.indexSl 6 (.tmp 0) (.tmp 1),none⟩,⟨none,.load true 6 (.tmp 2),none⟩,⟨some 13,.alloc 6 (.agg [.int .i64 0,.int .i64 0,.int .i64 0,.int .i64 0,.int .i64 0,.int .i64 0]),none⟩,⟨none,.store 6 (.var 13) (.tmp 3),none⟩]
def IU:MC:=.regionD [] [⟨none,.mv (.var 8),none⟩,⟨none,.fieldAddr 4 (.var 13),none⟩,⟨none,.load false 1 (.tmp 1),none⟩,⟨none,.buildF 1 [.tmp 2],none⟩,⟨none,.append 1 8 (.tmp 0) (.tmp 3),none⟩,⟨none,.load false 1 (.var 9),none⟩,⟨none,.fieldAddr 5 (.var 13),none⟩,⟨none,.load false 1 (.tmp 6),none⟩,⟨none,.bin .add (.tmp 5) (.tmp 7),none⟩,⟨none,.mv (.var 0),none⟩,⟨none,.nilCheck (.tmp 9),none⟩,⟨none,.fieldAddr 2 (.tmp 10),none⟩,⟨none,.load false 1 (.tmp 11),none⟩,⟨none,.fieldAddr 0 (.var 13),none⟩,⟨none,.fieldAddr 1 (.tmp 13),none⟩,⟨none,.load false 1 (.tmp 14),none⟩,⟨none,.indexSl 1 (.tmp 12) (.tmp 15),none⟩,⟨none,.load false 1 (.tmp 16),none⟩,⟨some 8,.mv (.tmp 4),none⟩,⟨none,.store 1 (.var 9) (.tmp 8),none⟩,⟨some 10,.mv (.tmp 17),none⟩] [(4,5),(4,6),(4,7),(4,11),(4,12),(4,13),(4,14),(4,15),(4,16),(4,17),(11,19),(12,19),(13,19),(14,19),(15,19),(16,19),(17,19)]
def LV:MC:=.region [⟨some 16,.load false 1 (.var 11),none⟩]
def LU:MC:=.region [⟨some 11,.alloc 1 (.int .i64 0),none⟩,⟨none,.store 1 (.var 11) (.var 16),none⟩]
def LT:MC:=.region [⟨none,.load false 1 (.var 11),none⟩,⟨none,.bin .sub (.tmp 0) (.cst (.int .i64 1)),none⟩,⟨none,.store 1 (.var 11) (.tmp 1),none⟩]
theorem zX:eC=.seq (.seq LZ (.cond (.var 14) .skip (.exit 0))) (.seq (.seq (.block 1 (.seq LY (.seq (.seq LX (.cond (.var 15) (.seq M4 .ret) .skip)) (.seq LW IU)))) (.kill [1,2,3,4,6,7,12,13,14,15,16])) (.seq (.seq LV LU) LT)):=rfl
abbrev s43 (W v6 v7 v8 v10 v12 v13 v14 v15 v16:AV) (lid:Nat):List AV:=[W,.undef,.undef,.undef,.undef,.ptr 1 0 0,v6,v7,v8,.ptr 2 0 0,v10,.ptr lid 0 0,v12,v13,v14,v15,v16]
theorem Mm (E:Env) (fuel:Nat) (K:List KC) {A:ab} {W v6 v7 v8 v10 v12 v13 v14 v15 v16:AV} {lid:Nat} {left:Int} (h:A[lid]?=some (.row 1 false [.int .i64 left])) :
  run E fuel (.code LZ :: K) (s43 W v6 v7 v8 v10 v12 v13 v14 v15 v16 lid) A=run E fuel K (s43 W v6 v7 v8 v10 v12 v13 (.bool (decide (0<=left))) v15 v16 lid) A:=by
 have b:=iA left
 simp [LZ,h,b,-ai]
theorem r43b (fuel:Nat) (K:List KC) (X Y:MC) {A:ab} {W v6 v7 v8 v10 v12 v13 v14 v15 v16 ch F:AV} {lid:Nat} {z:Int} (h1:frz A 4 v10=ch) (h2:frz A 4 (.func (.func 101) [] [.ptr 1 0 0,.ptr lid 0 0,.ptr 2 0 0])=F) (h3:M49 [ch,F]=some (.int .i64 z)) :
  run (ax GC wW) fuel (.code LY :: .code (.seq (.seq LX X) Y) :: K) (s43 W v6 v7 v8 v10 v12 v13 v14 v15 v16 lid) A=run (ax GC wW) fuel (.code X :: .code Y :: K) (s43 W v6 v7 v8 v10 (.int .i64 z) v13 v14 (.bool (decide (z<0))) v16 lid) A:=by
 have b:ai .lss (.int .i64 z) (.int .i64 0)=some (.bool (decide (z<0))):=by simp [ai]
 simp [LY,LX,h1,h2,h3,b,-ai,-frz]
theorem r43e (E:Env) (fuel:Nat) (K:List KC) {A:ab} {W q v6 v7 v8 v10 v13 v14 v15 v16:AV} {lid i:Nat} {c1 c2 c3 c4 c5 c6:Int} (h:ag 6 A v10 (.int .i64 (i:Int))=some q) (hq:ac true 6 A q=some (.agg [.int .i64 c1,.int .i64 c2,.int .i64 c3,.int .i64 c4,.int .i64 c5,.int .i64 c6])) :
  run E fuel (.code LW :: K) (s43 W v6 v7 v8 v10 (.int .i64 (i:Int)) v13 v14 v15 v16 lid) A=run E fuel K (s43 W v6 v7 v8 v10 (.int .i64 (i:Int)) (.ptr A.length 0 0) v14 v15 v16 lid) (A++[.row 6 false [.agg [.int .i64 c1,.int .i64 c2,.int .i64 c3,.int .i64 c4,.int .i64 c5,.int .i64 c6]]]):=by
 simp [LW,h,hq,-ag,-ac]
theorem r43f (E:Env) (fuel:Nat) (K:List KC) {A B:ab} {W1 v6 v7 so v10 v12 v14 v15 v16 x:AV} {lid bid jo ko t:Nat} {os:List AV} {n c1 c3 c4 c5 c6 sum:Int} (hb:A[bid]?=some (.row 6 false [.agg [.int .i64 c1,.int .i64 (t:Int),.int .i64 c3,.int .i64 c4,.int .i64 c5,.int .i64 c6]]))
  (ap:aN 1 8 A so (.fs 1 [.int .i64 c5])=some (.sl jo 0 ko,B)) (hb':B[bid]?=some (.row 6 false [.agg [.int .i64 c1,.int .i64 (t:Int),.int .i64 c3,.int .i64 c4,.int .i64 c5,.int .i64 c6]])) (h2:B[2]?=some (.row 1 false [.int .i64 sum])) (hs:so=.nilS\/∃i k,so=.sl i 0 k) (hid:∀j∈aW so,j≠2/\j≠bid) (hA2:A.length≠2) (hAb:A.length≠bid) (hb2:bid≠2)
  (hsum : -1000000000<=sum/\sum<=1000000000) (hc6 : -3000000<=c6/\c6<=3000000) (ho:os[t]?=some x) (hx:x.solid=true) (hx2:cellsOf x=[x]) :
  run E fuel (.code IU :: K) (s43 (.fp [.int .i64 n,W1,.fs 1 os]) v6 v7 so v10 v12 (.ptr bid 0 0) v14 v15 v16 lid) A=run E fuel K (s43 (.fp [.int .i64 n,W1,.fs 1 os]) v6 v7 (.sl jo 0 ko) x v12 (.ptr bid 0 0) v14 v15 v16 lid) (B.set 2 (.row 1 false [.int .i64 (sum+c6)])):=by
 have b2:ai .add (.int .i64 sum) (.int .i64 c6)=some (.int .i64 (sum+c6)):=by
  simp only [ai]; rw [if_pos trivial,eu (by unfold inI; omega)]
 have hix:∀C,ag 1 C (.fs 1 os) (.int .i64 (t:Int))=some (.fp [x]):=fun C=>(show SlA 1 os (.fs 1 os) from .inr rfl).index1 (A:=C) ho hx hx2 .i64
 have hA2':¬ 2=A.length:=fun e=>hA2 e.symm
 have hAb':¬ bid=A.length:=fun e=>hAb e.symm
 have hb2':¬ 2=bid:=fun e=>hb2 e.symm
 obtain ⟨s,hs'⟩:∃s,s=sum+c6:=⟨_,rfl⟩
 rw [<-hs'] at b2 ⊢
 rcases hs with rfl | ⟨i,k,rfl⟩
 ·simp [IU,hb,ap,hb',h2,b2,hix,hA2,hAb,hb2,-ai,-ag]
 ·obtain ⟨q1,q2⟩:=hid i (by simp [aW])
  have q1':¬ 2=i:=fun e=>q1 e.symm
  have q2':¬ bid=i:=fun e=>q2 e.symm
  simp [IU,hb,ap,hb',h2,b2,hix,hA2,hAb,hb2,q1,q2,-ai,-ag]
theorem r43i (E:Env) (fuel:Nat) (K:List KC) {A:ab} {W v6 v7 v8 v10 v12 v13 v14 v15 v16:AV} {lid:Nat} {left:Int} (h:A[lid]?=some (.row 1 false [.int .i64 left])) (hl:0<=left/\left<=100) :
  run E fuel (.code (.seq (.seq LV LU) LT) :: K) (s43 W v6 v7 v8 v10 v12 v13 v14 v15 v16 lid) A=run E fuel K (s43 W v6 v7 v8 v10 v12 v13 v14 v15 (.int .i64 left) A.length) (A++[.row 1 false [.int .i64 (left-1)]]):=by
 have b2:ai .sub (.int .i64 left) (.int .i64 1)=some (.int .i64 (left-1)):=by
  simp only [ai]; rw [if_pos trivial,eu (by unfold inI; omega)]
 obtain ⟨s,hs'⟩:∃s,s=left-1:=⟨_,rfl⟩
 rw [<-hs'] at b2 ⊢
 simp [LV,LU,LT,h,b2,-ai]
theorem Bi {α:Type} (q:α->Bool) (l:List α):(l.find? q=none/\c9 q l = -1)\/∃(i:Nat) (hi:i<l.length),l.find? q=some l[i]/\c9 q l=(i:Int)/\q l[i]=true:=by
 unfold c9
 cases h:l.findIdx? q with
 | none=>
  left
  refine ⟨?_,rfl⟩
  rw [List.findIdx?_eq_none_iff] at h
  rw [List.find?_eq_none]
  intro x hx; rw [h x hx]; simp
 | some i=>
  right
  obtain ⟨hi,h1,h2⟩:=List.findIdx?_eq_some_iff_getElem.1 h
  refine ⟨i,hi,?_,rfl,h1⟩
  rw [List.find?_eq_some_iff_getElem]
  exact ⟨h1,i,hi,rfl,fun j hj=>by simpa using h2 j hj⟩
theorem EN {A:ab} {v:AV} {p:Int} {xs:List eU} (h:Chs A v (wAs p xs)):SlA 6 (wAs p xs) (frz A 4 v):=by
 rcases h with h | ⟨rfl,h3⟩
 ·rw [h.frz]; exact h
 ·right
  show frz A (3+1) _=_
  simp only [frz,h3,List.drop_zero]
  rw [List.take_of_length_le (Nat.le_refl _)]
  congr 1
  unfold wAs
  rw [List.map_map]
  apply List.map_congr_left
  intro x _
  exact Cr A p x 2
theorem HB {A:ab} {v:AV} {p:Int} {xs:List eU} (h:Chs A v (wAs p xs)) {i:Nat} (hi:i<xs.length):∃q,ag 6 A v (.int .i64 (i:Int))=some q/\ac true 6 A q=some (wA p xs[i]):=by
 have hx:(wAs p xs)[i]?=some (wA p xs[i]):=by simp [wAs,hi]
 rcases h with h | ⟨rfl,h3⟩
 ·exact ⟨_,h.index (A:=A) hx rfl (by omega) .i64,by simp [ac,wA,cellsOf]⟩
 ·refine ⟨.ptr 3 i 0,?_,?_⟩
  ·simp [ag,h3]
   simp [wAs]; omega
  ·simp only [ac,h3,hx]; rfl
structure M6 (p:Int) (hs:List (List LP)) (r:Nat) (sum:Int) (ch:List eU) (out:List Int) (so v10:AV) (lid:Nat) (A:ab):Prop where
 a1:A[1]?=some (.row 1 false [wU hs])
 a2:A[2]?=some (.row 1 false [.int .i64 sum])
 al:A[lid]?=some (.row 1 false [.int .i64 ((r:Int)-1)])
 lid4:4<=lid
 so_:jz A so out
 lso:lid ∉ aW so
 chs:Chs A v10 (wAs p ch)
theorem As {n:Nat} {p:Int} {l:List a8} {t:Nat} (ht:t<n):((List.range n).map fun v=>slA 6 (wAs p (mA l v)))[t]?=some (slA 6 (wAs p (mA l t))):=by simp [ht]
theorem w5 {n:Nat} {p:Int} {l:List a8} (hp:cw p) (hv:∀x∈l,okA n x) (hn32:n<=32) (hl200:l.length<=200) (hsL:List (List LP)) (hs:Nat->List LP) {k:Nat} (hk:k<=32) (hhs:∀r,r<k->hsL[r]?=some (hs r)/\(hs r).length=n/\PB 1000000000 (hs r)) :
  ∀(r:Nat) (sum:Int) (ch:List eU) (out:List Int) (so v10:AV) (lid:Nat) (A:ab) (m:Nat),r<m->r<=k -> -(3000000*((k:Int)-r))<=sum/\sum<=3000000*((k:Int)-r)->out.length<=k-r->(∀x∈ch,x∈num l)->ch.length<=200->M6 p hsL r sum ch out so v10 lid A ->
   ∃o,bU (evC (ax GC wW) 300 eC) dI m (fh (cP n p l) (.ptr 1 0 0) so (.ptr 2 0 0) v10 (.ptr lid 0 0)) A=some o /\
    match o6 p l hs r sum ch out with
    | none=>∃so' v10' lid' v12 v13 v14 v15 v16 A',o=.ret (s43 (cP n p l) .nilS (.bool false) so' v10' v12 v13 v14 v15 v16 lid') A'
    | some res=>∃so' v10' lid' A',o=.exit 0 ((fh (cP n p l) (.ptr 1 0 0) so' (.ptr 2 0 0) v10' (.ptr lid' 0 0)).set 14 (.bool false)) A'/\jz A' so' res:=by
 intro r
 induction r with
 | zero=>
  intro sum ch out so v10 lid A m hm _ _ _ _ _ hI
  obtain ⟨m,rfl⟩:∃j,m=j+1:=⟨m-1,by omega⟩
  have r1:=fun K=>Mm (ax GC wW) 300 K (W:=cP n p l) (v6:=.undef) (v7:=.undef) (v8:=so) (v10:=v10) (v12:=.undef) (v13:=.undef) (v14:=.undef) (v15:=.undef) (v16:=.undef) hI.al
  simp only [Int.natCast_zero,Int.zero_sub,s43] at r1
  refine ⟨.exit 0 ((fh (cP n p l) (.ptr 1 0 0) so (.ptr 2 0 0) v10 (.ptr lid 0 0)).set 14 (.bool false)) A,?_,so,v10,lid,A,rfl,hI.so_⟩
  rw [aI,oM,zX]
  obtain ⟨W,hW⟩:∃W,W=cP n p l:=⟨_,rfl⟩
  rw [<-hW] at r1 ⊢
  simp [r1]
 | succ r ih=>
  intro sum ch out so v10 lid A m hm hrk hsum hout hch hcl hI
  obtain ⟨m,rfl⟩:∃j,m=j+1:=⟨m-1,by omega⟩
  obtain ⟨hh1,hh2,hh3⟩:=hhs r (by omega)
  have hleft:(((r+1:Nat):Int)-1)=(r:Int):=by omega
  have hal:=hI.al
  rw [hleft] at hal
  have r1:=fun K=>Mm (ax GC wW) 300 K (W:=cP n p l) (v6:=.undef) (v7:=.undef) (v8:=so) (v10:=v10) (v12:=.undef) (v13:=.undef) (v14:=.undef) (v15:=.undef) (v16:=.undef) hal
  rw [decide_eq_true (show (0:Int)<=(r:Int) by omega)] at r1
  have h49:=Ia (p:=p) (sum:=sum) (EN hI.chs) hcl hh1 (fun x hx=>by
   obtain ⟨hi,e⟩:=kT (hch x hx)
   have:=hv _ (List.getElem_mem hi)
   rw [e] at this
   have h2:=this.2.1
   omega) hh3 (by omega) (fun x hx=>by
   obtain ⟨hi,e⟩:=kT (hch x hx)
   have:=hv _ (List.getElem_mem hi)
   rw [e] at this
   obtain ⟨q1,q2,q3,q4⟩:=this
   have:=gO (n:=32) (a:=x.1) ⟨by omega,by omega,q3,q4⟩ hp
   omega)
  have hfn:frz A 4 (.func (.func 101) [] [.ptr 1 0 0,.ptr lid 0 0,.ptr 2 0 0])=GX hsL r sum:=by
   have a1:=hI.a1
   have a2:=hI.a2
   unfold GX wU at *
   simp [frz,a1,a2,hal]
  have r2:=fun K X Y=>r43b 300 K X Y (W:=cP n p l) (v6:=.undef) (v7:=.undef) (v8:=so) (v10:=v10) (v12:=.undef) (v13:=.undef) (v14:=.bool true) (v15:=.undef) (v16:=.undef) rfl hfn h49
  rw [aI,oM,zX]
  unfold o6
  rcases Bi (jD (hs r) p sum) ch with ⟨q1,q2⟩ | ⟨i,hi,q1,q2,q3⟩
  ·rw [q1]
   rw [q2] at r2
   rw [decide_eq_true (show (-1:Int)<0 by omega)] at r2
   refine ⟨.ret (s43 (cP n p l) .nilS (.bool false) so v10 (.int .i64 (-1)) .undef (.bool true) (.bool true) .undef lid) A,?_,so,v10,lid,_,_,_,_,_,A,rfl⟩
   obtain ⟨W,hW⟩:∃W,W=cP n p l:=⟨_,rfl⟩
   rw [<-hW] at r1 r2 ⊢
   simp only [s43] at r1 r2
   simp [r1,r2,M4]
  ·rw [q1]
   rw [q2] at r2
   rw [decide_eq_false (show ¬ (i:Int)<0 by omega)] at r2
   obtain ⟨b,hb⟩:∃b,b=ch[i]:=⟨_,rfl⟩
   have hbm:=hch _ (List.getElem_mem hi)
   rw [<-hb] at hbm
   obtain ⟨hbi,hbe⟩:=kT hbm
   have hok:=hv _ (List.getElem_mem hbi)
   rw [hbe] at hok
   obtain ⟨o1,o2,o3,o4⟩:=hok
   obtain ⟨t,ht1,ht2⟩:=nW o2
   have hw:=gO (n:=32) (a:=b.1) ⟨by omega,by omega,o3,o4⟩ hp
   obtain ⟨q,e1,e2⟩:=HB hI.chs hi
   rw [<-hb] at e2
   have hwb:wA p b=.agg [.int .i64 b.1.f,.int .i64 (t:Int),.int .i64 b.1.w,.int .i64 b.1.k,.int .i64 (b.2:Int),.int .i64 (b.1.len p)]:=by unfold wA; rw [ht1]
   rw [hwb] at e2
   have r3:=fun K=>r43e (ax GC wW) 300 K (W:=cP n p l) (v6:=.undef) (v7:=.undef) (v8:=so) (v13:=.undef) (v14:=.bool true) (v15:=.bool false) (v16:=.undef) (lid:=lid) e1 e2
   rw [<-hwb] at r3
   obtain ⟨B,hB⟩:∃B,B=A++[.row 6 false [wA p b]]:=⟨_,rfl⟩
   rw [<-hB] at r3
   have hBo:∀j,j<A.length->B[j]?=A[j]?:=fun j hj=>by rw [hB,List.getElem?_append_left hj]
   have hBl:B.length=A.length+1:=by rw [hB]; simp
   have hBb:B[A.length]?=some (.row 6 false [wA p b]):=by rw [hB]; simp
   have hlA:=(List.getElem?_eq_some_iff.1 hal).1
   have hl4:=hI.lid4
   have hso:=hI.so_.low
   have soB:jz B so out:=hI.so_.keep fun j hj=>hBo j (hso j hj).2
   obtain ⟨jo,ko,C,ap,s2,c1,c2,c3⟩:=soB.append (b.2:Int) (by omega) (by omega)
   have hCo:∀j,j<A.length->j ∉ aW so->C[j]?=A[j]?:=fun j hj hn=>by rw [c2 j (by omega) hn,hBo j hj]
   have h2so:2 ∉ aW so:=fun h=>by have:=hso 2 h; omega
   have hC2:=(hCo 2 (by omega) h2so).trans hI.a2
   have hbso:A.length ∉ aW so:=fun h=>by have:=hso _ h; omega
   have hCb:=(c2 A.length (by omega) hbso).trans hBb
   rw [hwb] at hBb hCb
   have r4:=fun K=>r43f (ax GC wW) 300 K (A:=B) (B:=C) (W1:=slA 6 (wAs p (num l))) (v6:=.undef) (v7:=.undef) (so:=so) (v10:=v10) (v12:=.int .i64 (i:Int)) (v14:=.bool true) (v15:=.bool false) (v16:=.undef) (x:=slA 6 (wAs p (mA l t))) (lid:=lid) (bid:=A.length) (n:=(n:Int)) hBb ap hCb hC2 soB.form2 (fun j hj=>⟨by have:=(hso j hj).1; omega,by have:=(hso j hj).2; omega⟩) (by omega) (by omega) (by omega) (by omega) (by omega) (As (p:=p) (l:=l) (show t<n by omega)) (xA _ _) (uv _ _)
   obtain ⟨D,hD⟩:∃D,D=C.set 2 (.row 1 false [.int .i64 (sum+b.1.len p)]):=⟨_,rfl⟩
   have hDo:∀j,j≠2->D[j]?=C[j]?:=fun j hj=>by rw [hD,List.getElem?_set_ne (Ne.symm hj)]
   have hDl:D.length=C.length:=by rw [hD]; simp
   rw [<-hD] at r4
   have hDlid:D[lid]?=some (.row 1 false [.int .i64 (r:Int)]):=by rw [hDo lid (by omega),hCo lid hlA hI.lso]; exact hal
   have r5:=fun K=>r43i (ax GC wW) 300 K (A:=D) (W:=cP n p l) (v6:=.undef) (v7:=.undef) (v8:=.sl jo 0 ko) (v10:=slA 6 (wAs p (mA l t))) (v12:=.undef) (v13:=.undef) (v14:=.undef) (v15:=.undef) (v16:=.undef) hDlid (by omega)
   obtain ⟨F,hF⟩:∃F,F=D++[.row 1 false [.int .i64 ((r:Int)-1)]]:=⟨_,rfl⟩
   rw [<-hF] at r5
   have hFo:∀j,j<D.length->F[j]?=D[j]?:=fun j hj=>by rw [hF,List.getElem?_append_left hj]
   have htt:b.1.t.toNat=t:=by omega
   have hs2:=s2.low
   have hIH:=ih (sum+b.1.len p) (mA l t) (out++[(b.2:Int)]) (.sl jo 0 ko) (slA 6 (wAs p (mA l t))) D.length F m (by omega) (by omega) (by omega) (by simp; omega) (fun x hx=>(List.mem_filter.1 hx).1) (Nat.le_trans (vg l t) hl200) {
    a1:=by
     rw [hFo 1 (by omega),hDo 1 (by omega),hCo 1 (by omega) (fun h=>by have:=hso 1 h; omega)]; exact hI.a1
    a2:=by rw [hFo 2 (by omega),hD]; exact List.getElem?_set_self (by omega)
    al:=by rw [hF]; simp
    lid4:=by omega
    so_:=s2.keep fun j hj=>by
     have:=hs2 j hj
     rw [hFo j (by omega),hDo j (by omega)]
    lso:=fun h=>by have:=hs2 _ h; omega
    chs:=.inl (be _ _)}
   obtain ⟨o,k1,k2⟩:=hIH
   simp only [<-hb,htt]
   refine ⟨o,?_,k2⟩
   obtain ⟨O,hO⟩:∃O,O=(List.range n).map fun v=>slA 6 (wAs p (mA l v)):=⟨_,rfl⟩
   obtain ⟨W1,hW1⟩:∃W1,W1=slA 6 (wAs p (num l)):=⟨_,rfl⟩
   have hW:cP n p l=.fp [.int .i64 (n:Int),W1,.fs 1 O]:=by rw [hO,hW1]; rfl
   rw [<-hO,<-hW1] at r4
   rw [hW] at r1 r2 r3 r5 k1 ⊢
   obtain ⟨Z,hZ⟩:∃Z,Z=slA 6 (wAs p (mA l t)):=⟨_,rfl⟩
   rw [<-hZ] at r4 r5 k1
   simp only [s43] at r1 r2 r3 r4 r5
   simp [r1,r2,r3,r4,r5]
   rw [<-zX,qb,oM]; exact k1
def M43:aP:=fun args=>evF (ax GC wW) 300 Ah 5 args
theorem Dg:cc Try.prog GC 93 M43:=cc.of_ev (E:=ax GC wW) (aw Dv) rfl LD yU 5 fun _ _ h=>⟨300,h⟩
def B9 (L:List dh) (n to k:Nat):List (List LP):=(List.range (k+1)).map fun j=>hm L n to j
theorem EG (L:List dh) (n to k:Nat):.fs 1 (wV L n to k)=wU (B9 L n to k):=by
 unfold wV wU B9; rw [List.map_map]; rfl
theorem Bb (L:List dh) (n to:Nat) {k r:Nat} (h:r<=k):(B9 L n to k)[r]?=some (hm L n to r):=by
 unfold B9; rw [List.getElem?_map,List.getElem?_range (by omega)]; rfl
def w7 (r:Option (List Int)):AV:=match r with
 | none=>.tup [.nilS,.bool false]
 | some xs=>.tup [slA 1 (ak xs),.bool true]
theorem vV {n to:Nat} {p:Int} {l:List a8} (hr:ck n l p) {k:Nat} (hk1:1<=k) (hk:k<=32) {a:eU} (ha:a∈num l) :
  M43 [cP n p l,wA p a,.fs 1 (wV (lar p l) n to k),.int .i64 (k:Int)]=some (w7 (o6 p l (hm (lar p l) n to) k 0 [a] [])):=by
 obtain ⟨⟨hn,hl200,hv⟩,hp⟩:=hr
 have hn32:n<=32:=by omega
 have hok:=vq hn32 hp hv
 rw [EG]
 have b0:ai .sub (.int .i64 (k:Int)) (.int .i64 1)=some (.int .i64 ((k:Int)-1)):=by
  simp only [ai]; rw [if_pos trivial,eu (by unfold inI; omega)]
 have hI:M6 p (B9 (lar p l) n to k) k 0 [a] [] .nilS (.sl 3 0 1) 4 [.row 6 false [wA p a],.row 1 false [wU (B9 (lar p l) n to k)],.row 1 false [.int .i64 0],.row 6 false [wA p a],.row 1 false [.int .i64 ((k:Int)-1)]]:=
  {a1:=rfl,a2:=rfl,al:=rfl,lid4:=by omega,so_:=.inl ⟨rfl,rfl⟩,lso:=by simp [aW],chs:=.inr ⟨rfl,rfl⟩}
 obtain ⟨o,h1,h2⟩:=w5 hp hv hn32 hl200 (B9 (lar p l) n to k) (hm (lar p l) n to) hk (fun r hr=>⟨Bb _ _ _ (by omega),vw _ _ _ _,fun v=>by
  have:=EH hok to r v
  omega⟩) k 0 [a] [] .nilS (.sl 3 0 1) 4 _ 300 (by omega) (Nat.le_refl _) (by omega) (by simp) (fun x hx=>by
  have:x=a:=by simpa using hx
  rw [this]; exact ha) (by simp) hI
 unfold M43
 rw [jt _ _ rfl]
 obtain ⟨W,hW⟩:∃W,W=cP n p l:=⟨_,rfl⟩
 obtain ⟨HT,hHT⟩:∃HT,wU (B9 (lar p l) n to k)=.fs 1 HT:=⟨_,rfl⟩
 rw [hHT] at h1 ⊢
 rw [<-hW] at h1 h2 ⊢
 unfold wA at h1 ⊢
 obtain ⟨k1,hk1'⟩:∃k1,k1=(k:Int)-1:=⟨_,rfl⟩
 rw [<-hk1'] at b0 h1
 cases hw:o6 p l (hm (lar p l) n to) k 0 [a] [] with
 | none=>
  rw [hw] at h2
  obtain ⟨so',v10',lid',v12,v13,v14,v15,v16,A',rfl⟩:=h2
  simp [Ah,b0,sf h1,w7,dZ,ba,frz,-ai]
 | some xs=>
  rw [hw] at h2
  obtain ⟨so',v10',lid',A',rfl,hs⟩:=h2
  obtain ⟨q1,q2⟩:=hs.out 3
  have z1:frz A' 5 (.tup [so',.bool true])=.tup [slA 1 (ak xs),.bool true]:=by
   show AV.tup [frz A' 4 so',frz A' 4 (.bool true)]=_
   rw [q1]; rfl
  have z2:ba A' 5 (.tup [so',.bool true])=true:=by
   show [so',.bool true].all (ba A' 4)=true
   simp only [List.all_cons,q2]; rfl
  have p1:dZ [so',.bool true]=.tup [so',.bool true]:=rfl
  simp [Ah,b0,sf h1,w7,z1,z2,-ai,-frz]
open Go
def qf (p:Int) (l:List a8) (n k:Nat) (f:Int):AV:=.fs 1 (wV (lar p l) n f.toNat k)
def kR (l:List a8):List Int:=l.foldl (fun s a=>if a.f∈s then s else s++[a.f]) []
theorem wi (l:List a8) (i:Nat) (hi:i<l.length):kR (l.take (i+1))=if l[i].f∈kR (l.take i) then kR (l.take i) else kR (l.take i)++[l[i].f]:=by
 unfold kR
 rw [List.take_succ_eq_append_getElem hi,List.foldl_append]
 rfl
def tq (G:Int->AV) (s:List Int):List (AV × AV):=s.map fun w=>(.int .i64 w,G w)
theorem vC (G:Int->AV) (w:Int):∀(s:List Int) (i:Nat),w∈s->∃q,gj (.int .i64 w) (tq G s) i=some (some (q,G w))
 | [],_,h=>by cases h
 | x :: s,i,h=>by
  by_cases hx:x=w
  ·subst hx
   exact ⟨i,by simp [tq,gj,mC]⟩
  ·have hw:w∈s:=by
    rcases List.mem_cons.1 h with e | e
    ·exact absurd e.symm hx
    ·exact e
   obtain ⟨q,h1⟩:=vC G w s (i+1) hw
   refine ⟨q,?_⟩
   simp only [tq,List.map_cons,gj,mC] at h1 ⊢
   simp only [if_true,beq_eq_false_iff_ne.2 (Ne.symm hx)]
   exact h1
theorem om (G:Int->AV) (w:Int):∀(s:List Int) (i:Nat),w ∉ s->gj (.int .i64 w) (tq G s) i=some none
 | [],_,_=>rfl
 | x :: s,i,h=>by
  have hx:¬ w=x:=fun e=>h (by simp [e])
  have:=om G w s (i+1) (fun e=>h (by simp [e]))
  simp only [tq,List.map_cons,gj,mC] at this ⊢
  simp only [if_true,beq_eq_false_iff_ne.2 hx]
  exact this
theorem vp {G:Int->AV} {s:List Int} {w:Int} {B:ab} {M:Nat} (hB:B[M]?=some (.map (tq G s))) (h:w∈s) (ok:Bool):cg ok .nilS B (.map M) (.int .i64 w)=some (if ok then .tup [G w,.bool true] else G w):=by
 obtain ⟨q,h1⟩:=vC G w s 0 h
 simp only [cg,hB,h1]
theorem xW {G:Int->AV} {s:List Int} {w:Int} {B:ab} {M:Nat} (hB:B[M]?=some (.map (tq G s))) (h:w ∉ s) (ok:Bool):cg ok .nilS B (.map M) (.int .i64 w)=some (if ok then .tup [.nilS,.bool false] else .nilS):=by
 simp only [cg,hB,om G w s 0 h]
theorem At {G:Int->AV} {s:List Int} {w:Int} {B:ab} {M:Nat} (hB:B[M]?=some (.map (tq G s))) (h:w ∉ s):bu B (.map M) (.int .i64 w) (G w)=some (B.set M (.map (tq G (s++[w])))):=by
 simp only [bu,hB,om G w s 0 h]
 simp [tq]
def TT (p:Int) (l:List a8) (i:Nat):ab:=((num l).take i).flatMap fun x=>[.row 6 false [wA p x],.row 6 false [wA p x]]
theorem EX (p:Int) (l:List a8) (i:Nat) (hi:i<l.length):TT p l (i+1)=TT p l i++[.row 6 false [wA p (l[i],i)],.row 6 false [wA p (l[i],i)]]:=by
 unfold TT
 have h:=fI l i hi
 obtain ⟨h1,h2⟩:=List.getElem?_eq_some_iff.1 h
 rw [List.take_succ_eq_append_getElem h1,List.flatMap_append,h2]
 rfl
theorem bg.consF {G:Nat->Option (List AV)} {fs:List (FuncId × aG)} {h0:aU} {f:FuncId} {pu:List FuncId} {M:aP} (h:aC fs f=some (cA 4 M)) (hr:bg (dD G fs h0) pu):bg (dD G fs h0) (f :: pu):=by
 intro k hk hh args A r A' he
 rcases List.mem_cons.1 hk with rfl | hk
 ·simp only [dD,jy,h,cA,AM,List.nil_append,List.append_nil] at he ⊢
  rw [Option.map_eq_some_iff] at he
  obtain ⟨r',hM,he⟩:=he
  simp only [Prod.mk.injEq] at he
  obtain ⟨rfl,rfl⟩:=he
  refine ⟨rfl,fun hn B=>?_⟩
  have hm:args.map (frz B 4)=args.map (frz A 4):=List.map_congr_left fun x hx=>rY 4 x (List.all_eq_true.1 hn x hx)
  rw [hm,hM]; rfl
 ·exact hr k hk hh args A r A' he
def wy:List (FuncId × aG):=[(99,cA 4 M48)]
@[simp] theorem JN:aC wy 99=some (cA 4 M48):=rfl
theorem Ds:∀f M,aC wy f=some M->aj Try.prog GC f M:=af (aj.of_pureF Df 4) aA
def H47:aG:=fun hd=>bS (dD GC wy hd) 300 BP
theorem uS:aj Try.prog GC 98 H47:=b8 Ds LA yR (bg.consF (M:=M48) rfl bg.nil)
def H42:aG:=fun hd=>bS (dD GC [] hd) 0 xS
theorem pN:aj Try.prog GC 92 H42:=b8 aA HH sM
theorem ev42 (h:aU) (w:List AV) (k:Int) (A:ab):H42 h [.fp w,.int .i64 k] A=some (.func (.func 98) [] [.ptr A.length 0 0,.ptr (A.length+1) 0 0],A++[.row 1 false [.fp w],.row 1 false [.int .i64 k]]):=by
 unfold H42
 rw [a9 _ _ rfl]
 simp [xS]
def LS:MC:=.region [⟨none,.indexSl 6 (.var 6) (.var 8),none⟩,⟨none,.load true 6 (.tmp 0),none⟩,⟨some 4,.alloc 6 (.agg [.int .i64 0,.int .i64 0,.int .i64 0,.int .i64 0,.int .i64 0,.int .i64 0]),none⟩,⟨none,.store 6 (.var 4) (.tmp 1),none⟩]
def HW:MC:=.region [⟨none,.mv (.var 3),none⟩,⟨none,.fieldAddr 0 (.var 4),none⟩,⟨none,.fieldAddr 0 (.tmp 1),none⟩,⟨none,.load false 1 (.tmp 2),none⟩,⟨none,.lookup 1 true .nilS (.tmp 0) (.tmp 3),none⟩,⟨none,.mv (.tmp 4),none⟩,⟨none,.extract (.tmp 5) 0,none⟩,⟨none,.extract (.tmp 5) 1,none⟩,⟨none,.mv (.tmp 6),none⟩,⟨some 5,.mv (.tmp 7),none⟩]
def HV:MC:=.region [⟨none,.mv (.var 5),none⟩,⟨some 10,.un .not (.tmp 0),none⟩]
def LR:MC:=.region [⟨none,.mv (.var 3),none⟩,⟨none,.fieldAddr 0 (.var 4),none⟩,⟨none,.fieldAddr 0 (.tmp 1),none⟩,⟨none,.load false 1 (.tmp 2),none⟩,⟨none,.load false 1 (.var 1),none⟩,⟨none,.fieldAddr 0 (.var 4),none⟩,⟨none,.fieldAddr 0 (.tmp 5),none⟩,⟨none,.load false 1 (.tmp 6),none⟩,⟨none,.load false 1 (.var 2),none⟩,⟨none,.call (.fn 99) [.tmp 4,.tmp 7,.tmp 8],none⟩,⟨none,.mapUpdate 1 (.tmp 0) (.tmp 3) (.tmp 9),none⟩]
def HU:MC:=.region [⟨none,.mv (.var 0),none⟩,⟨none,.load true 6 (.var 4),none⟩,⟨none,.mv (.var 3),none⟩,⟨none,.fieldAddr 0 (.var 4),none⟩,⟨none,.fieldAddr 0 (.tmp 3),none⟩,⟨none,.load false 1 (.tmp 4),none⟩,⟨none,.lookup 1 false .nilS (.tmp 2) (.tmp 5),none⟩,⟨none,.call (.tmp 0) [.tmp 1,.tmp 6],none⟩,⟨some 11,.un .not (.tmp 7),none⟩]
def HS:MC:=.region [⟨none,.bin .add (.var 8) (.cst (.int .i64 1)),none⟩,⟨some 8,.mv (.tmp 0),none⟩]
theorem vT:iU=.seq (.region [⟨some 9,.bin .lss (.var 8) (.var 7),none⟩]) (.seq (.cond (.var 9) .skip (.exit 0)) (.seq (.seq (.block 1 (.seq LS (.seq (.seq HW (.seq HV (.cond (.var 10) LR .skip))) (.seq HU (.cond (.var 11) .ret .skip))))) (.kill [4,5,9,10,11])) HS)):=rfl
def A47 (p:Int) (l:List a8) (n k:Nat) (X:ab) (i:Nat):ab:=X ++ .map (tq (qf p l n k) (kR (l.take i))) :: TT p l i
def P47 (p:Int) (l:List a8) (n k:Nat) (X:ab) (i:Nat) (a:a8):ab:=X ++ .map (tq (qf p l n k) (kR (l.take (i+1)))) :: (TT p l i++[.row 6 false [wA p (a,i)]])
theorem r47a (E:Env) (fuel:Nat) (K:List KC) (A:ab) {p:Int} {l:List a8} {i:Nat} (hi:i<l.length) (v0 v1 v2 v3 v4 v5 v7 v9 v10 v11:AV) :
  run E fuel (.code LS :: K) [v0,v1,v2,v3,v4,v5,slA 6 (wAs p (num l)),v7,.int .i64 (i:Int),v9,v10,v11] A =
   run E fuel K [v0,v1,v2,v3,.ptr A.length 0 0,v5,slA 6 (wAs p (num l)),v7,.int .i64 (i:Int),v9,v10,v11] (A++[.row 6 false [wA p (l[i],i)]]):=by
 have x1:=rH p hi A .i64
 obtain ⟨W,hW⟩:∃W,W=slA 6 (wAs p (num l)):=⟨_,rfl⟩
 rw [<-hW] at x1 ⊢
 simp [LS,x1,wA,-ag]
theorem tO (h:aU) (L:Nat) {X:ab} {n k wp kp:Nat} {p:Int} {l:List a8} (hr:ck n l p) (hk:k<=32) (hw:X[wp]?=some (.row 1 false [cP n p l])) (hkp:X[kp]?=some (.row 1 false [.int .i64 (k:Int)])) {i:Nat} (hi:i<l.length) {b:Bool} {A':ab}
  (hy:h (.func (.yield L) [] []) [wA p (l[i],i),qf p l n k l[i].f] (P47 p l n k X i l[i])=some (.bool b,A')) :
  ∃d4 d5 d9 d10 d11,run (dD GC wy h) 300 [.code iU] (jK (.func (.yield L) [] []) (.ptr wp 0 0) (.ptr kp 0 0) (.map X.length) (slA 6 (wAs p (num l))) (.int .i64 (l.length:Int)) (.int .i64 (i:Int))) (A47 p l n k X i) =
   if b=true then some (.normal (jK (.func (.yield L) [] []) (.ptr wp 0 0) (.ptr kp 0 0) (.map X.length) (slA 6 (wAs p (num l))) (.int .i64 (l.length:Int)) (.int .i64 ((i+1:Nat):Int))) A')
   else some (.ret [.func (.yield L) [] [],.ptr wp 0 0,.ptr kp 0 0,.map X.length,d4,d5,slA 6 (wAs p (num l)),.int .i64 (l.length:Int),.int .i64 (i:Int),d9,d10,d11] A'):=by
 have hmem:=hr.1.2.2 _ (List.getElem_mem hi)
 obtain ⟨f,hf,hfn⟩:=nW hmem.1
 have hl200:=hr.1.2.1
 have hn32:=hr.1.1
 obtain ⟨B,hB⟩:∃B,B=A47 p l n k X i++[.row 6 false [wA p (l[i],i)]]:=⟨_,rfl⟩
 have hBX:∀j,j<X.length->B[j]?=X[j]?:=fun j hj=>by rw [hB,A47,List.append_assoc,List.getElem?_append_left hj]
 have hwl:=(List.getElem?_eq_some_iff.1 hw).1
 have hkl:=(List.getElem?_eq_some_iff.1 hkp).1
 have hBw:=(hBX wp hwl).trans hw
 have hBk:=(hBX kp hkl).trans hkp
 have hBM:B[X.length]?=some (.map (tq (qf p l n k) (kR (l.take i)))):=by
  rw [hB,A47,List.append_assoc,List.getElem?_append_right (Nat.le_refl _)]; simp
 obtain ⟨M,hM⟩:∃M,M=X.length:=⟨_,rfl⟩
 obtain ⟨i8,hi8⟩:∃i8,i8=(A47 p l n k X i).length:=⟨_,rfl⟩
 have hlow:M<i8:=by rw [hi8,hM]; simp [A47]
 have hB8:B[i8]?=some (.row 6 false [wA p (l[i],i)]):=by rw [hB,hi8]; simp
 have r1:=fun K=>r47a (dD GC wy h) 300 K (A47 p l n k X i) (p:=p) hi (.func (.yield L) [] []) (.ptr wp 0 0) (.ptr kp 0 0) (.map X.length) .undef .undef (.int .i64 (l.length:Int)) (.bool true) .undef .undef
 rw [<-hB,<-hi8,<-hM] at r1
 rw [<-hM] at hBM ⊢
 have hst:=wi l i hi
 rw [hf] at hst hy
 obtain ⟨G,hG⟩:∃G,G=qf p l n k:=⟨_,rfl⟩
 have m48:M48 [cP n p l,.int .i64 (f:Int),.int .i64 (k:Int)]=some (G (f:Int)):=by
  rw [Ib hr (by omega) hk,hG]; unfold qf; rw [Int.toNat_natCast]
 have hGf:∃T,G (f:Int)=.fs 1 T:=⟨wV (lar p l) n f k,by rw [hG]; unfold qf; rw [Int.toNat_natCast]⟩
 have b1:=bj i l.length .i64
 rw [decide_eq_true hi] at b1
 have b3:=aY i (by omega)
 obtain ⟨i1,hi1⟩:∃i1:Nat,i1=i+1:=⟨_,rfl⟩
 rw [<-hi1] at b3 ⊢
 rw [<-hG] at hBM hy
 obtain ⟨T,hT⟩:=hGf
 have hnw:wA p (l[i],i)=.agg [.int .i64 (f:Int),.int .i64 l[i].t,.int .i64 l[i].w,.int .i64 l[i].k,.int .i64 (i:Int),.int .i64 (l[i].len p)]:=by unfold wA; rw [hf]
 rw [hnw] at hB8 hy
 obtain ⟨A1,hA1⟩:∃A1,A1=A47 p l n k X i:=⟨_,rfl⟩
 rw [<-hA1] at r1 ⊢
 obtain ⟨W1,O,hW,hW1⟩:∃W1 O,cP n p l=.fp [.int .i64 (n:Int),W1,O]/\W1=slA 6 (wAs p (num l)):=⟨_,_,rfl,rfl⟩
 have hWfz:∀B n,frz B n W1=W1:=fun B n=>by rw [hW1]; exact ug B n 6 _
 rw [<-hW1] at r1 ⊢
 by_cases hs:(f:Int)∈kR (l.take i)
 ·rw [if_pos hs] at hst
  have hP:P47 p l n k X i l[i]=B:=by
   rw [hB,P47,A47,hst]; simp
  rw [hP] at hy
  have lk:=fun ok=>vp hBM hs ok
  have lk1:=lk true
  have lk2:=lk false
  simp only [if_true,Bool.false_eq_true,if_false] at lk1 lk2
  cases b with
  | true=>
   refine ⟨.undef,.undef,.undef,.undef,.undef,?_⟩
   rw [vT]
   simp [b1,b3,r1,HW,HV,HU,HS,hB8,lk1,lk2,hy,-ai,-cg]
  | false=>
   refine ⟨.ptr i8 0 0,.bool true,.bool true,.bool false,.bool true,?_⟩
   rw [vT]
   simp [b1,r1,HW,HV,HU,HS,hB8,lk1,lk2,hy,-ai,-cg]
 ·rw [if_neg hs] at hst
  have up:=At hBM hs
  obtain ⟨C,hC⟩:∃C,C=B.set M (.map (tq G (kR (l.take i)++[(f:Int)]))):=⟨_,rfl⟩
  have hP:P47 p l n k X i l[i]=C:=by
   rw [hC,hB,P47,A47,hst,hM,List.append_assoc,List.set_append_right _ _ (Nat.le_refl _),<-hG]; simp
  rw [hP] at hy
  rw [<-hC] at up
  have hCM:C[M]?=some (.map (tq G (kR (l.take i)++[(f:Int)]))):=by rw [hC]; exact List.getElem?_set_self (List.getElem?_eq_some_iff.1 hBM).1
  have hC8:=(show C[i8]?=B[i8]? by rw [hC,List.getElem?_set_ne (by omega)]).trans hB8
  have lk1:=xW hBM hs true
  have lk2:=vp hCM (show (f:Int)∈kR (l.take i)++[(f:Int)] by simp) false
  simp only [if_true,Bool.false_eq_true,if_false] at lk1 lk2
  rw [hW] at hBw m48
  rw [hT] at up lk2 m48 hy
  have hfz1:∀B,frz B 4 (.fp [.int .i64 (n:Int),W1,O])=.fp [.int .i64 (n:Int),W1,O]:=fun _=>rfl
  cases b with
  | true=>
   refine ⟨.undef,.undef,.undef,.undef,.undef,?_⟩
   rw [vT]
   simp [b1,b3,r1,HW,HV,LR,HU,HS,hB8,hC8,hBw,hBk,lk1,lk2,m48,up,hy,-ai,-cg,-bu]
  | false=>
   refine ⟨.ptr i8 0 0,.bool false,.bool true,.bool true,.bool true,?_⟩
   rw [vT]
   simp [b1,r1,HW,HV,LR,HU,HS,hB8,hC8,hBw,hBk,lk1,lk2,m48,up,hy,-ai,-cg,-bu]
theorem wd (p:Int) (l:List a8) (n k:Nat) (X:ab):A47 p l n k X 0=X++[.map []]:=by
 simp [A47,TT,kR,tq]
theorem ev47 (h:aU) (L:Nat) {X:ab} {n k wp kp:Nat} {p:Int} {l:List a8} (hr:ck n l p) (hk:k<=32) (hw:X[wp]?=some (.row 1 false [cP n p l])) (hkp:X[kp]?=some (.row 1 false [.int .i64 (k:Int)])) (m:Nat) (hm:m<=l.length)
  (hno:∀i (hi:i<l.length),i<m->h (.func (.yield L) [] []) [wA p (l[i],i),qf p l n k l[i].f] (P47 p l n k X i l[i])=some (.bool true,A47 p l n k X (i+1)))
  (Z:ab) (hyes:∀hi:m<l.length,h (.func (.yield L) [] []) [wA p (l[m],m),qf p l n k l[m].f] (P47 p l n k X m l[m])=some (.bool false,Z)) :
  H47 h [.func (.yield L) [] [],.ptr wp 0 0,.ptr kp 0 0] X=some (.tup [],if m<l.length then Z else A47 p l n k X l.length):=by
 have hl200:=hr.1.2.1
 have hwl:=(List.getElem?_eq_some_iff.1 hw).1
 have hw':(X++[Ent.map []])[wp]?=some (.row 1 false [cP n p l]):=by rw [List.getElem?_append_left hwl]; exact hw
 have hlen2:aq (slA 6 (wAs p (num l)))=some (.int .i64 (l.length:Int)):=by rw [qU,qC]
 unfold H47
 rw [a9 _ _ rfl]
 obtain ⟨W1,O,hW,hW1⟩:∃W1 O,cP n p l=.fp [.int .i64 (n:Int),W1,O]/\W1=slA 6 (wAs p (num l)):=⟨_,_,rfl,rfl⟩
 by_cases hml:m<l.length
 ·rw [if_pos hml]
  obtain ⟨d4,d5,d9,d10,d11,hlast⟩:=tO h L hr hk hw hkp hml (hyes hml)
  rw [if_neg (by simp)] at hlast
  have lp:=qV (E:=dD GC wy h) (fuel:=300) (a:=iU) (mask:=ga) (fun i=>jK (.func (.yield L) [] []) (.ptr wp 0 0) (.ptr kp 0 0) (.map X.length) (slA 6 (wAs p (num l))) (.int .i64 (l.length:Int)) (.int .i64 (i:Int))) (fun i=>A47 p l n k X i) m
   (fun _=>zh) (fun _ _ h=>by cases h) (fun i hi=>by
    obtain ⟨_,_,_,_,_,hl⟩:=tO h L hr hk hw hkp (show i<l.length by omega) (hno i (by omega) hi)
    rw [if_pos rfl] at hl
    exact hl) hlast (show m<300 by omega)
  have lp:bU (evC (dD GC wy h) 300 iU) ga 300 (jK (.func (.yield L) [] []) (.ptr wp 0 0) (.ptr kp 0 0) (.map X.length) (slA 6 (wAs p (num l))) (.int .i64 (l.length:Int)) (.int .i64 0)) (A47 p l n k X 0)=_:=lp
  rw [wd] at lp
  rw [hW] at hw'
  rw [<-hW1] at lp hlen2
  simp [BP,hw',hlen2,Cf lp,dZ,-aq]
 ·rw [if_neg hml]
  have hml':m=l.length:=by omega
  have lp:=qV (E:=dD GC wy h) (fuel:=300) (a:=iU) (mask:=ga) (fun i=>jK (.func (.yield L) [] []) (.ptr wp 0 0) (.ptr kp 0 0) (.map X.length) (slA 6 (wAs p (num l))) (.int .i64 (l.length:Int)) (.int .i64 (i:Int))) (fun i=>A47 p l n k X i) l.length
   (o:=.exit 0 ((jK (.func (.yield L) [] []) (.ptr wp 0 0) (.ptr kp 0 0) (.map X.length) (slA 6 (wAs p (num l))) (.int .i64 (l.length:Int)) (.int .i64 (l.length:Int))).set 9 (.bool false)) (A47 p l n k X l.length))
   (fun _=>zh) (fun _ _ h=>by cases h) (fun i hi=>by
    obtain ⟨_,_,_,_,_,hl⟩:=tO h L hr hk hw hkp hi (hno i hi (by omega))
    rw [if_pos rfl] at hl
    exact hl) (by simp [iU]) (show l.length<300 by omega)
  have lp:bU (evC (dD GC wy h) 300 iU) ga 300 (jK (.func (.yield L) [] []) (.ptr wp 0 0) (.ptr kp 0 0) (.map X.length) (slA 6 (wAs p (num l))) (.int .i64 (l.length:Int)) (.int .i64 0)) (A47 p l n k X 0)=_:=lp
  rw [wd] at lp
  rw [hW] at hw'
  rw [<-hW1] at lp hlen2
  simp [BP,hw',hlen2,Cf lp,dZ,-aq]
open Go
def wk (p:Int) (l:List a8) (n k:Nat) (x:eU):Option (List Int):=o6 p l (hm (lar p l) n x.1.f.toNat) k 0 [x] []
def eP (p:Int) (l:List a8) (n k:Nat):Option (List Int):=(num l).findSome? (wk p l n k)
def rn (p:Int) (l:List a8) (n:Nat):Option (List Int):=(List.range n).findSome? fun j=>eP p l n (j+1)
def gQ:List (FuncId × aG):=[(92,H42),(93,cA 4 M43),(98,H47)]
@[simp] theorem Ki:aC gQ 92=some H42:=rfl
@[simp] theorem Kh:aC gQ 93=some (cA 4 M43):=rfl
@[simp] theorem Kg:aC gQ 98=some H47:=rfl
theorem qE:∀f M,aC gQ f=some M->aj Try.prog GC f M:=af pN (af (aj.of_pureF Dg 4) (af uS aA))
theorem zH (h0:aU) {Q:ab} {n k wb rb kb vid:Nat} {p:Int} {l:List a8} (hr:ck n l p) (hk1:1<=k) (hk:k<=32) (hw:Q[wb]?=some (.row 1 false [cP n p l])) (hkp:Q[kb]?=some (.row 1 false [.int .i64 (k:Int)])) {i:Nat} (hi:i<l.length) (hv:Q[vid]?=some (.row 6 false [wA p (l[i],i)]))
  (hn:wk p l n k (l[i],i)=none) (v0 v6 v7 v8 v9 v10 v11 v12 v13:AV) :
  ∃ σ,run (dD GC gQ h0) 300 [.code iX] [v0,.ptr wb 0 0,.ptr rb 0 0,.ptr kb 0 0,.ptr vid 0 0,qf p l n k l[i].f,v6,v7,v8,v9,v10,v11,v12,v13] Q=some (.normal σ Q):=by
 have m:=vV hr hk1 hk (a:=(l[i],i)) (show (l[i],i)∈num l from List.mem_of_getElem? (fI l i hi)) (to:=l[i].f.toNat)
 unfold wk at hn
 rw [hn] at m
 have hH:∃T,qf p l n k l[i].f=.fs 1 T/\T=wV (lar p l) n l[i].f.toNat k:=⟨_,rfl,rfl⟩
 obtain ⟨T,hT,hT2⟩:=hH
 rw [<-hT2] at m
 rw [hT]
 obtain ⟨W1,O,hW⟩:∃W1 O,cP n p l=.fp [.int .i64 (n:Int),W1,O]:=⟨_,_,rfl⟩
 rw [hW] at hw m
 unfold wA at hv m
 simp only [w7] at m hv
 simp [iX,hw,hkp,hv,m]
theorem wO (h0:aU) {Q:ab} {n k wb rb kb vid:Nat} {e2:AV} {p:Int} {l:List a8} (hr:ck n l p) (hk1:1<=k) (hk:k<=32) (hw:Q[wb]?=some (.row 1 false [cP n p l])) (hkp:Q[kb]?=some (.row 1 false [.int .i64 (k:Int)])) (hrb:Q[rb]?=some (.row 1 false [e2])) {i:Nat} (hi:i<l.length) (hv:Q[vid]?=some (.row 6 false [wA p (l[i],i)]))
  {res:List Int} (hn:wk p l n k (l[i],i)=some res) (v0 v6 v7 v8 v9 v10 v11 v12 v13:AV) :
  ∃ σ,run (dD GC gQ h0) 300 [.code iX] [v0,.ptr wb 0 0,.ptr rb 0 0,.ptr kb 0 0,.ptr vid 0 0,qf p l n k l[i].f,v6,v7,v8,v9,v10,v11,v12,v13] Q=some (.ret σ (Q.set rb (.row 1 false [slA 1 (ak res)]))):=by
 have m:=vV hr hk1 hk (a:=(l[i],i)) (show (l[i],i)∈num l from List.mem_of_getElem? (fI l i hi)) (to:=l[i].f.toNat)
 unfold wk at hn
 rw [hn] at m
 have hH:∃T,qf p l n k l[i].f=.fs 1 T/\T=wV (lar p l) n l[i].f.toNat k:=⟨_,rfl,rfl⟩
 obtain ⟨T,hT,hT2⟩:=hH
 rw [<-hT2] at m
 rw [hT]
 obtain ⟨W1,O,hW⟩:∃W1 O,cP n p l=.fp [.int .i64 (n:Int),W1,O]:=⟨_,_,rfl⟩
 rw [hW] at hw m
 unfold wA at hv m
 obtain ⟨R,hR⟩:∃R,R=slA 1 (ak res):=⟨_,rfl⟩
 have hR2:R=.nilS\/∃T,R=.fs 1 T:=by
  rw [hR]; cases ak res with
  | nil=>exact .inl rfl
  | cons x r=>exact .inr ⟨_,rfl⟩
 simp only [w7,<-hR] at m hv
 rw [<-hR]
 rcases hR2 with rfl | ⟨T2,rfl⟩
 ·simp [iX,hw,hkp,hv,hrb,m]
 ·simp [iX,hw,hkp,hv,hrb,m]
theorem E4 (p:Int) (l:List a8) (n k:Nat) (X:ab) {i:Nat} (hi:i<l.length):P47 p l n k X i l[i]++[.row 6 false [wA p (l[i],i)]]=A47 p l n k X (i+1):=by
 unfold P47 A47
 rw [EX p l i hi]
 simp
theorem oZ (p:Int) (l:List a8) (n k:Nat) {X:ab} (i:Nat) {j:Nat} (hj:j<X.length):(A47 p l n k X i)[j]?=X[j]?:=by
 unfold A47; rw [List.getElem?_append_left hj]
theorem oY (p:Int) (l:List a8) (n k:Nat) {X:ab} (i:Nat) {j:Nat} (hj:j<X.length) (e:Ent):(A47 p l n k X i).set j e=A47 p l n k (X.set j e) i:=by
 unfold A47; rw [List.set_append_left _ _ hj]
theorem qJ {A:ab} {n:Nat} {e:Ent} (h:A[n]?=some e) (x:Ent):(A.set n x).set n e=A:=by
 rw [List.set_set]
 apply List.ext_getElem?
 intro i
 by_cases hi:n=i
 ·subst hi; rw [List.getElem?_set_self (List.getElem?_eq_some_iff.1 h).1,h]
 ·rw [List.getElem?_set_ne hi]
section
variable {h0:aU} {X:ab} {r:Loop} {L n k wb rb kb:Nat} {e2:AV} {p:Int} {l:List a8}
theorem w4 (hr:ck n l p) (hk1:1<=k) (hk:k<=32) (hw:X[wb]?=some (.row 1 false [cP n p l])) (hkp:X[kb]?=some (.row 1 false [.int .i64 (k:Int)])) (hrb:X[rb]?=some (.row 1 false [e2])) {i:Nat} (hi:i<l.length) (v0 v4 v5 v6 v7 v8 v9 v10 v11 v12 v13:AV) :
  eK X.length L r [v0,.ptr wb 0 0,.ptr rb 0 0,.ptr kb 0 0,v4,v5,v6,v7,v8,v9,v10,v11,v12,v13] [10,11] (evC (dD GC gQ h0) 300 ew) (evC (dD GC gQ h0) 300 iX) h0 (.func (.yield L) [] []) [wA p (l[i],i),qf p l n k l[i].f] (P47 p l n k (X++[Ent.loop r 0]) i l[i]) =
   match wk p l n k (l[i],i) with
   | none=>some (.bool true,A47 p l n k (X++[Ent.loop r 0]) (i+1))
   | some res=>some (.bool false,A47 p l n k ((X++[Ent.loop r 1]).set rb (.row 1 false [slA 1 (ak res)])) (i+1)):=by
 have hwl:=(List.getElem?_eq_some_iff.1 hw).1
 have hkl:=(List.getElem?_eq_some_iff.1 hkp).1
 have hrl:=(List.getElem?_eq_some_iff.1 hrb).1
 obtain ⟨P,hP⟩:∃P,P=P47 p l n k (X++[Ent.loop r 0]) i l[i]:=⟨_,rfl⟩
 have hQ:=E4 p l n k (X++[Ent.loop r 0]) hi
 rw [<-hP] at hQ ⊢
 have hPn:P[X.length]?=some (.loop r 0):=by rw [hP,P47,List.getElem?_append_left (by simp)]; simp
 obtain ⟨Q,hQ'⟩:∃Q,Q=P++[.row 6 false [wA p (l[i],i)]]:=⟨_,rfl⟩
 have hPl:X.length<P.length:=(List.getElem?_eq_some_iff.1 hPn).1
 have hQn:Q[X.length]?=some (.loop r 0):=by rw [hQ',List.getElem?_append_left hPl]; exact hPn
 have hQo:∀j,j<X.length->(Q.set X.length .dead)[j]?=X[j]?:=fun j hj=>by
  rw [List.getElem?_set_ne (by omega),hQ',hQ,oZ _ _ _ _ _ (by simp; omega),List.getElem?_append_left hj]
 have hQv:(Q.set X.length .dead)[P.length]?=some (.row 6 false [wA p (l[i],i)]):=by
  rw [List.getElem?_set_ne (by omega),hQ']; simp
 have hasg:∀v0 v1 v2 v3 v4 v5 v6 v7 v8 v9 v12 v13,run (dD GC gQ h0) 300 [.code ew] [v0,v1,v2,v3,v4,v5,v6,v7,v8,v9,wA p (l[i],i),qf p l n k l[i].f,v12,v13] P=some (.normal [v0,v1,v2,v3,.ptr P.length 0 0,qf p l n k l[i].f,v6,v7,v8,v9,wA p (l[i],i),qf p l n k l[i].f,v12,v13] Q):=by
  intros
  rw [hQ']
  obtain ⟨H,hH⟩:∃H,H=qf p l n k l[i].f:=⟨_,rfl⟩
  rw [<-hH]
  unfold wA
  simp [ew]
 cases hwk:wk p l n k (l[i],i) with
 | none=>
  obtain ⟨σ,hb⟩:=zH h0 (Q:=Q.set X.length .dead) hr hk1 hk ((hQo wb hwl).trans hw) ((hQo kb hkl).trans hkp) (rb:=rb) hi hQv hwk v0 v6 v7 v8 v9 (wA p (l[i],i)) (qf p l n k l[i].f) v12 v13
  unfold eK
  simp [hPn,gD,oB,hasg,hb,hQn,qJ hQn]
  rw [hQ',hQ]
 | some res=>
  obtain ⟨σ,hb⟩:=wO h0 (Q:=Q.set X.length .dead) hr hk1 hk ((hQo wb hwl).trans hw) ((hQo kb hkl).trans hkp) ((hQo rb hrl).trans hrb) hi hQv hwk v0 v6 v7 v8 v9 (wA p (l[i],i)) (qf p l n k l[i].f) v12 v13
  unfold eK
  simp [hPn,gD,oB,hasg,hb,hQn]
  rw [hQ',hQ,oY _ _ _ _ _ (by simp),oY _ _ _ _ _ (by simp; omega),oY _ _ _ _ _ (by simp)]
  congr 1
  rw [List.set_comm _ _ (by omega)]
  congr 1
  simp
end
section
variable {X:ab} {n k wb rb kb wp kp:Nat} {e2:AV} {p:Int} {l:List a8}
theorem D8 (hr:ck n l p) (hk1:1<=k) (hk:k<=32) (hw:X[wb]?=some (.row 1 false [cP n p l])) (hkp:X[kb]?=some (.row 1 false [.int .i64 (k:Int)])) (hrb:X[rb]?=some (.row 1 false [e2])) (hw2:X[wp]?=some (.row 1 false [cP n p l])) (hk2:X[kp]?=some (.row 1 false [.int .i64 (k:Int)])) (m:Nat) (hm:m<=l.length)
  (hno:∀i (hi:i<l.length),i<m->wk p l n k (l[i],i)=none) (res:List Int) (hyes:∀hi:m<l.length,wk p l n k (l[m],m)=some res) (v0 v4 v5 v6 v7 v8 v10 v11 v12 v13:AV) (K:List KC) :
  run (ax GC gQ) 300 (.code (.rangeFunc (.var 9) [10,11] ew iX) :: K) [v0,.ptr wb 0 0,.ptr rb 0 0,.ptr kb 0 0,v4,v5,v6,v7,v8,.func (.func 98) [] [.ptr wp 0 0,.ptr kp 0 0],v10,v11,v12,v13] X =
   after (ax GC gQ) 300 K (if m<l.length then .ret [v0,.ptr wb 0 0,.ptr rb 0 0,.ptr kb 0 0,v4,v5,v6,v7,v8,.func (.func 98) [] [.ptr wp 0 0,.ptr kp 0 0],v10,v11,v12,v13] (A47 p l n k ((X++[Ent.dead]).set rb (.row 1 false [slA 1 (ak res)])) (m+1))
    else .normal [v0,.ptr wb 0 0,.ptr rb 0 0,.ptr kb 0 0,v4,v5,v6,v7,v8,.func (.func 98) [] [.ptr wp 0 0,.ptr kp 0 0],v10,v11,v12,v13] (A47 p l n k (X++[Ent.dead]) l.length)):=by
 refine jM _ _ _ _ _ fun L r=>?_
 have hrl:=(List.getElem?_eq_some_iff.1 hrb).1
 have old:∀ {q:Nat} {e:Ent},X[q]?=some e->(X++[Ent.loop r 0])[q]?=some e:=fun {q} {e} h=>by rw [List.getElem?_append_left (List.getElem?_eq_some_iff.1 h).1]; exact h
 have hc:=ev47 (eK X.length L r [v0,.ptr wb 0 0,.ptr rb 0 0,.ptr kb 0 0,v4,v5,v6,v7,v8,.func (.func 98) [] [.ptr wp 0 0,.ptr kp 0 0],v10,v11,v12,v13] [10,11] (evC (dD GC gQ fun _ _ _=>none) 300 ew) (evC (dD GC gQ fun _ _ _=>none) 300 iX) fun _ _ _=>none) L (X:=X++[Ent.loop r 0]) hr hk (old hw2) (old hk2) m hm
  (fun i hi him=>by rw [w4 hr hk1 hk hw hkp hrb hi,hno i hi him]) (A47 p l n k ((X++[Ent.loop r 1]).set rb (.row 1 false [slA 1 (ak res)])) (m+1)) (fun hi=>by rw [w4 hr hk1 hk hw hkp hrb hi,hyes hi])
 have hcall:jy gQ (eK X.length L r [v0,.ptr wb 0 0,.ptr rb 0 0,.ptr kb 0 0,v4,v5,v6,v7,v8,.func (.func 98) [] [.ptr wp 0 0,.ptr kp 0 0],v10,v11,v12,v13] [10,11] (evC (dD GC gQ fun _ _ _=>none) 300 ew) (evC (dD GC gQ fun _ _ _=>none) 300 iX) fun _ _ _=>none)
   (.func (.func 98) [] [.ptr wp 0 0,.ptr kp 0 0]) [.func (.yield L) [] []] (X++[Ent.loop r 0])=_:=hc
 show (match jy gQ _ (.func (.func 98) [] [.ptr wp 0 0,.ptr kp 0 0]) [.func (.yield L) [] []] (X++[Ent.loop r 0]) with
  | some (_,A')=>kM X.length _ A'
  | none=>none)=_
 erw [hcall]
 by_cases hml:m<l.length
 ·simp only [if_pos hml]
  have e1:(A47 p l n k ((X++[Ent.loop r 1]).set rb (.row 1 false [slA 1 (ak res)])) (m+1))[X.length]?=some (.loop r 1):=by
   rw [oZ _ _ _ _ _ (by simp),List.getElem?_set_ne (by omega)]; simp
  simp only [kM,e1]
  rw [oY _ _ _ _ _ (by simp),List.set_comm _ _ (by omega)]
  have e2:(X++[Ent.loop r 1]).set X.length .dead=X++[Ent.dead]:=by simp
  rw [e2]; rfl
 ·simp only [if_neg hml]
  have e1:(A47 p l n k (X++[Ent.loop r 0]) l.length)[X.length]?=some (.loop r 0):=by
   rw [oZ _ _ _ _ _ (by simp)]; simp
  simp only [kM,e1]
  rw [oY _ _ _ _ _ (by simp)]
  have e2:(X++[Ent.loop r 0]).set X.length .dead=X++[Ent.dead]:=by simp
  rw [e2]; rfl
end
theorem oh {α β:Type} (f:α->Option β) (xs:List α):(xs.findSome? f=none/\∀x∈xs,f x=none)\/∃(m:Nat) (hm:m<xs.length) (r:β),xs.findSome? f=some r/\f xs[m]=some r/\∀i (hi:i<m),f (xs[i]'(by omega))=none:=by
 induction xs with
 | nil=>exact .inl ⟨rfl,by simp⟩
 | cons x xs ih=>
  cases hx:f x with
  | some r=>
   exact .inr ⟨0,by simp,r,by simp [hx],hx,fun i hi=>by omega⟩
  | none=>
   rcases ih with ⟨h1,h2⟩ | ⟨m,hm,r,h1,h2,h3⟩
   ·refine .inl ⟨by simp [hx,h1],fun y hy=>?_⟩
    rcases List.mem_cons.1 hy with rfl | hy
    ·exact hx
    ·exact h2 y hy
   ·refine .inr ⟨m+1,by simp; omega,r,by simp [hx,h1],by simpa using h2,fun i hi=>?_⟩
    cases i with
    | zero=>exact hx
    | succ i=>simpa using h3 i (by omega)
open Go
def M27:aP:=fun args=>evP (ax GC gQ) 300 AT 5 args
theorem uU:au Try.prog GC 76 M27:=au.of_ev (E:=ax GC gQ) (aw qE) rfl LK y9 5 fun _ _ h=>⟨300,h⟩
def IW (n:Nat) (p:Int) (l:List a8) (k kb:Nat) (A:ab):Prop:=A[0]?=some (.row 1 false [cP n p l])/\A[1]?=some (.row 1 false [.nilS])/\A[kb]?=some (.row 1 false [.int .i64 (k:Int)])/\2<=kb
theorem tQ {n:Nat} {p:Int} {l:List a8} {k kb:Nat} {A:ab} (hI:IW n p l k kb A) (hk:n<k):run (ax GC gQ) 300 [.code iW] (iM (.ptr 0 0 0) (.ptr 1 0 0) (.ptr kb 0 0)) A=some (.exit 0 ((iM (.ptr 0 0 0) (.ptr 1 0 0) (.ptr kb 0 0)).set 8 (.bool false)) A):=by
 obtain ⟨h0,h1,h2,h3⟩:=hI
 obtain ⟨W1,O,hW⟩:∃W1 O,cP n p l=.fp [.int .i64 (n:Int),W1,O]:=⟨_,_,rfl⟩
 rw [hW] at h0
 have b:ai .leq (.int .i64 (k:Int)) (.int .i64 (n:Int))=some (.bool false):=by simp [ai]; omega
 simp [iW,h0,h2,b,-ai]
theorem tR {n:Nat} {p:Int} {l:List a8} {k kb:Nat} {A:ab} (hr:ck n l p) (hI:IW n p l k kb A) (hk1:1<=k) (hk:k<=n) :
  (eP p l n k=none/\∃A' kb' σ',run (ax GC gQ) 300 [.code iW] (iM (.ptr 0 0 0) (.ptr 1 0 0) (.ptr kb 0 0)) A=some (.normal σ' A')/\clear iq σ'=iM (.ptr 0 0 0) (.ptr 1 0 0) (.ptr kb' 0 0)/\IW n p l (k+1) kb' A') \/
  (∃res,eP p l n k=some res/\∃A' v0 v3 v4 v5 v6 v7 v8 v9 v10 v11 v12 v13,run (ax GC gQ) 300 [.code iW] (iM (.ptr 0 0 0) (.ptr 1 0 0) (.ptr kb 0 0)) A=some (.ret [v0,.ptr 0 0 0,.ptr 1 0 0,v3,v4,v5,v6,v7,v8,v9,v10,v11,v12,v13] A')/\A'[1]?=some (.row 1 false [slA 1 (ak res)])):=by
 obtain ⟨h0,h1,h2,h3⟩:=hI
 have hn32:=hr.1.1
 have h1l:=(List.getElem?_eq_some_iff.1 h1).1
 have h2l:=(List.getElem?_eq_some_iff.1 h2).1
 obtain ⟨X,hX⟩:∃X,X=A++[.row 1 false [cP n p l],.row 1 false [.int .i64 (k:Int)]]:=⟨_,rfl⟩
 have hXo:∀j,j<A.length->X[j]?=A[j]?:=fun j hj=>by rw [hX,List.getElem?_append_left hj]
 have x0:=(hXo 0 (by omega)).trans h0
 have x1:=(hXo 1 h1l).trans h1
 have x2:=(hXo kb h2l).trans h2
 have x3:X[A.length]?=some (.row 1 false [cP n p l]):=by rw [hX]; simp
 have x4:X[A.length+1]?=some (.row 1 false [.int .i64 (k:Int)]):=by rw [hX,List.getElem?_append_right (by omega)]; simp
 have hXl:X.length=A.length+2:=by rw [hX]; simp
 have b:ai .leq (.int .i64 (k:Int)) (.int .i64 (n:Int))=some (.bool true):=by simp [ai]; omega
 have c42:H42 (fun _ _ _=>none) [cP n p l,.int .i64 (k:Int)] A=some (.func (.func 98) [] [.ptr A.length 0 0,.ptr (A.length+1) 0 0],X):=by
  rw [hX]; exact ev42 _ _ _ _
 have rg:=fun m hm hno res hyes=>D8 (X:=X) (wb:=0) (rb:=1) (kb:=kb) (wp:=A.length) (kp:=A.length+1) hr hk1 (by omega) x0 x2 x1 x3 x4 m hm hno res hyes .undef .undef .undef .undef .undef (.bool true) .undef .undef .undef .undef
 have b3:=aY k (by omega)
 obtain ⟨k1,hk1'⟩:∃k1:Nat,k1=k+1:=⟨_,rfl⟩
 rw [<-hk1'] at b3 ⊢
 obtain ⟨W1,O,hW⟩:∃W1 O,cP n p l=.fp [.int .i64 (n:Int),W1,O]:=⟨_,_,rfl⟩
 have hlk:aC gQ 92=some H42:=rfl
 have hnl:=jh l
 rcases oh (wk p l n k) (num l) with ⟨q1,q2⟩ | ⟨m,hm,res,q1,q2,q3⟩
 ·left
  refine ⟨q1,?_⟩
  have rg1:=rg l.length (Nat.le_refl _) (fun i hi _=>q2 _ (List.mem_of_getElem? (fI l i hi))) [] (fun h=>absurd h (Nat.lt_irrefl _))
  rw [if_neg (Nat.lt_irrefl _)] at rg1
  obtain ⟨D,hD⟩:∃D,D=A47 p l n k (X++[Ent.dead]) l.length:=⟨_,rfl⟩
  rw [<-hD] at rg1
  have hDo:∀j,j<X.length->D[j]?=X[j]?:=fun j hj=>by rw [hD,oZ _ _ _ _ _ (by simp; omega),List.getElem?_append_left hj]
  have hDl:X.length<=D.length:=by rw [hD]; simp [A47]
  have d2:=(hDo kb (by omega)).trans x2
  refine ⟨D++[.row 1 false [.int .i64 (k1:Int)]],D.length,[.undef,.ptr 0 0 0,.ptr 1 0 0,.ptr D.length 0 0,.undef,.undef,.undef,.undef,.undef,.undef,.undef,.undef,.undef,.int .i64 (k:Int)],?_,zl,?_,?_,?_,by omega⟩
  ·rw [hW] at h0 c42
   obtain ⟨Z,hZ⟩:∃Z,Z=A.length+1:=⟨_,rfl⟩
   obtain ⟨Y,hY⟩:∃Y,Y=A.length:=⟨_,rfl⟩
   rw [<-hZ,<-hY] at c42 rg1
   simp [iW,h0,h2,b,c42,rg1,d2,b3,-ai]
  ·rw [List.getElem?_append_left (by omega),hDo 0 (by omega)]; exact x0
  ·rw [List.getElem?_append_left (by omega),hDo 1 (by omega)]; exact x1
  ·simp
 ·right
  refine ⟨res,q1,?_⟩
  rw [hnl] at hm
  have hnm:∀i (hi:i<l.length),(num l)[i]'(by omega)=(l[i],i):=fun i hi=>by
   have:=fI l i hi
   rw [List.getElem?_eq_getElem (by omega)] at this
   exact Option.some.inj this
  have rg1:=rg m (by omega) (fun i hi him=>by rw [<-hnm i hi]; exact q3 i him) res (fun hi=>by rw [<-hnm m hi]; exact q2)
  rw [if_pos hm] at rg1
  obtain ⟨D,hD⟩:∃D,D=A47 p l n k ((X++[Ent.dead]).set 1 (.row 1 false [slA 1 (ak res)])) (m+1):=⟨_,rfl⟩
  rw [<-hD] at rg1
  refine ⟨D,.undef,.ptr kb 0 0,.undef,.undef,.undef,.undef,.bool true,.func (.func 98) [] [.ptr A.length 0 0,.ptr (A.length+1) 0 0],.undef,.undef,.undef,.undef,?_,?_⟩
  ·rw [hW] at h0 c42
   obtain ⟨Z,hZ⟩:∃Z,Z=A.length+1:=⟨_,rfl⟩
   obtain ⟨Y,hY⟩:∃Y,Y=A.length:=⟨_,rfl⟩
   rw [<-hZ,<-hY] at c42 rg1 ⊢
   simp [iW,h0,h2,b,c42,rg1,-ai]
  ·rw [hD,oZ _ _ _ _ _ (by simp; omega),List.getElem?_set_self (by simp; omega)]
theorem vZ {n:Nat} {p:Int} {l:List a8} (hr:ck n l p):M27 [cP n p l]=some (slA 1 (ak ((rn p l n).getD []))):=by
 have hn32:=hr.1.1
 obtain ⟨o,h1,h2⟩:=gf (E:=ax GC gQ) (fuel:=300) (a:=iW) (mask:=iq)
  (fun κ σ A=>∃k kb,k+κ=n+1/\1<=k/\clear iq σ=iM (.ptr 0 0 0) (.ptr 1 0 0) (.ptr kb 0 0)/\IW n p l k kb A/\∀j,j+1<k->eP p l n (j+1)=none)
  (fun o=>(∃k res A' v0 v3 v4 v5 v6 v7 v8 v9 v10 v11 v12 v13,k<n/\eP p l n (k+1)=some res/\(∀j,j<k->eP p l n (j+1)=none)/\o=.ret [v0,.ptr 0 0 0,.ptr 1 0 0,v3,v4,v5,v6,v7,v8,v9,v10,v11,v12,v13] A'/\A'[1]?=some (.row 1 false [slA 1 (ak res)])) \/
   ((∀j,j<n->eP p l n (j+1)=none)/\∃kb A',o=.exit 0 ((iM (.ptr 0 0 0) (.ptr 1 0 0) (.ptr kb 0 0)).set 8 (.bool false)) A'/\A'[1]?=some (.row 1 false [.nilS])))
  (by
   rintro κ σ A ⟨k,kb,hk,hk1,hσ,hI,hno⟩
   rw [hσ]
   by_cases hkn:k<=n
   ·rcases tR hr hI hk1 hkn with ⟨q1,A',kb',σ',c1,c2,c3⟩ | ⟨res,q1,A',v0,v3,v4,v5,v6,v7,v8,v9,v10,v11,v12,v13,c1,c2⟩
    ·refine .inl ⟨σ',A',c1,κ-1,by omega,k+1,kb',by omega,by omega,c2,c3,fun j hj=>?_⟩
     by_cases hjk:j+1=k
     ·rw [hjk]; exact q1
     ·exact hno j (by omega)
    ·refine .inr ⟨_,c1,(fun _ _ h=>by cases h),.inl ⟨k-1,res,A',v0,v3,v4,v5,v6,v7,v8,v9,v10,v11,v12,v13,by omega,by rw [show k-1+1=k by omega]; exact q1,fun j hj=>hno j (by omega),rfl,c2⟩⟩
   ·refine .inr ⟨_,tQ hI (by omega),(fun _ _ h=>by cases h),.inr ⟨fun j hj=>hno j (by omega),kb,A,rfl,hI.2.1⟩⟩)
  300 n (iM (.ptr 0 0 0) (.ptr 1 0 0) (.ptr 2 0 0)) [.row 1 false [cP n p l],.row 1 false [.nilS],.row 1 false [.int .i64 1]] (by omega) ⟨1,2,by omega,by omega,zl,⟨rfl,rfl,rfl,by omega⟩,fun j hj=>by omega⟩
 have hc:∀k res,k<n->eP p l n (k+1)=some res->(∀j,j<k->eP p l n (j+1)=none)->rn p l n=some res:=fun k res hk h1 h2=>by
  unfold rn
  rcases oh (fun j=>eP p l n (j+1)) (List.range n) with ⟨q1,q2⟩ | ⟨m,hm,r,q1,q2,q3⟩
  ·have:=q2 k (by simp; omega)
   rw [h1] at this; cases this
  ·simp only [List.getElem_range] at q2 q3
   simp only [List.length_range] at hm
   rw [q1]
   rcases Nat.lt_trichotomy m k with h | h | h
   ·rw [h2 m h] at q2; cases q2
   ·rw [h] at q2; rw [h1] at q2; exact q2.symm
   ·rw [q3 k h] at h1; cases h1
 have hc2:(∀j,j<n->eP p l n (j+1)=none)->rn p l n=none:=fun h=>by
  unfold rn
  rw [List.findSome?_eq_none_iff]
  intro j hj
  exact h j (by simpa using hj)
 obtain ⟨W1,O,hW⟩:∃W1 O,cP n p l=.fp [.int .i64 (n:Int),W1,O]:=⟨_,_,rfl⟩
 unfold M27
 rw [aK _ _ rfl]
 rw [hW] at h1 ⊢
 rcases h2 with ⟨k,res,A',v0,v3,v4,v5,v6,v7,v8,v9,v10,v11,v12,v13,hk,q1,q2,rfl,q3⟩ | ⟨q1,kb,A',rfl,q3⟩
 ·rw [hc k res hk q1 q2]
  simp only [Option.getD_some]
  have hfz:frz A' 5 (slA 1 (ak res))=slA 1 (ak res):=ug _ _ _ _
  have hR2:slA 1 (ak res)=.nilS\/∃T,slA 1 (ak res)=.fs 1 T:=by
   cases ak res with
   | nil=>exact .inl rfl
   | cons x r=>exact .inr ⟨_,rfl⟩
  rcases hR2 with e | ⟨T,e⟩
  ·rw [e] at q3 ⊢
   simp [AT,yj h1,q3]
  ·rw [e] at q3 ⊢
   simp [AT,yj h1,q3]
 ·rw [hc2 q1]
  have hset:(A'.set 1 (.row 1 false [.nilS]))[1]?=some (.row 1 false [.nilS]):=List.getElem?_set_self (List.getElem?_eq_some_iff.1 q3).1
  simp [AT,yj h1,q3,hset,slA,ak]
def vz:List (FuncId × aG):=[(73,cA 4 M25),(74,cA 4 M26),(76,aD 4 M27)]
@[simp] theorem Le:aC vz 73=some (cA 4 M25):=rfl
@[simp] theorem Ld:aC vz 74=some (cA 4 M26):=rfl
@[simp] theorem Lc:aC vz 76=some (aD 4 M27):=rfl
theorem nI:∀f M,aC vz f=some M->aj Try.prog GC f M:=af (aj.of_pureF qD 4) (af (aj.of_pureF xr 4) (af (aj.of_pure uU 4) aA))
def H14:aG:=fun _=>bS (ax GC vz) 0 kV
theorem lO:aj Try.prog GC 46 H14:=(bQ (aw nI) rfl Bw kI bg.nil).y
open Classical in
def lvM (n:Int) (l:List a8) (p:Int):List Int × List Int × Bool:=
 if ck n l p then (if (bO (lar p l) n.toNat).2=true then ((bO (lar p l) n.toNat).1,[],true) else ([],(rn p l n.toNat).getD [],false)) else ([],[],false)
def lvT (r:List Int × List Int × Bool):AV:=.tup [slA 1 (ak r.1),slA 1 (ak r.2.1),.bool r.2.2]
theorem nJ (xs:List Int):slA 1 (ak xs)=.nilS\/∃T,slA 1 (ak xs)=.fs 1 T:=by
 cases xs with
 | nil=>exact .inl rfl
 | cons x r=>exact .inr ⟨_,rfl⟩
open Classical in
theorem C4 (h:aU) {A:ab} {a a':AV} {l:List a8} (ha:frz A 4 a=a') (hl:cr a'=some l) (n p:Int):H14 h [.int .i64 n,a,.int .i64 p] A=some (lvT (lvM n l p),A):=by
 have m1:M25 [.int .i64 n,a',.int .i64 p]=some (if ck n l p then .tup [cP n.toNat p l,.bool true] else .tup [.nilP,.bool false]):=by simp only [M25,hl,Option.map_some]
 unfold H14
 rw [a9 _ _ rfl]
 by_cases hr:ck n l p
 rotate_left
 ·rw [if_neg hr] at m1
  have e:lvM n l p=([],[],false):=if_neg hr
  rw [e]
  simp [kV,ha,m1,aJ,dZ,lvT,slA,ak,-frz]
 rw [if_pos hr] at m1
 obtain ⟨m,rfl⟩:∃m:Nat,n=(m:Int):=⟨n.toNat,by have:=hr.1.1; omega⟩
 rw [Int.toNat_natCast] at m1
 have m2:=qw hr
 have m3:=vZ hr
 obtain ⟨W1,O,hW⟩:∃W1 O,cP m p l=.fp [.int .i64 (m:Int),W1,O]:=⟨_,_,rfl⟩
 rw [hW] at m1 m2 m3
 have hfw:∀B,frz B 4 (.fp [.int .i64 (m:Int),W1,O])=.fp [.int .i64 (m:Int),W1,O]:=fun _=>rfl
 have hnr:bh 4 (.fp [.int .i64 (m:Int),W1,O])=true:=rfl
 by_cases hok:(bO (lar p l) m).2=true
 ·have e:lvM m l p=((bO (lar p l) m).1,[],true):=by
   unfold lvM; rw [if_pos hr,Int.toNat_natCast,if_pos hok]
  rw [e]
  rw [hok] at m2
  obtain ⟨xs,hxs⟩:∃xs,xs=(bO (lar p l) m).1:=⟨_,rfl⟩
  rw [<-hxs] at m2 ⊢
  obtain ⟨T,hT⟩:∃T,T=slA 1 (ak xs):=⟨_,rfl⟩
  rw [<-hT] at m2
  simp [kV,ha,m1,m2,aJ,hfw,dZ,lvT,<-hT,-frz]
  simp [slA,ak]
 ·have e:lvM m l p=([],(rn p l m).getD [],false):=by
   unfold lvM; rw [if_pos hr,Int.toNat_natCast,if_neg hok]
  rw [e]
  rw [Bool.not_eq_true] at hok
  rw [hok] at m2
  obtain ⟨S,hS⟩:∃S,S=slA 1 (ak (bO (lar p l) m).1):=⟨_,rfl⟩
  rw [<-hS] at m2
  obtain ⟨T,hT⟩:∃T,T=slA 1 (ak ((rn p l m).getD [])):=⟨_,rfl⟩
  rw [<-hT] at m3
  simp [kV,ha,m1,m2,m3,aJ,hfw,dZ,lvT,<-hT,-frz]
  simp [slA,ak]
open Go
theorem bb (A:ab) (n:Nat) (b:Bool):frz A n (.bool b)=.bool b:=by cases n <;> rfl
def lw (x:Int):Bool:=!decide (0<=x/\x<=1000000000)
def M35:aP:=fun args=>match args with
 | [.int .i64 x]=>some (.bool (lw x))
 | _=>none
theorem xo:au Try.prog GC 94 M35:=by
 refine au.of_ev (E:=ax GC fsW) (aw uW) rfl LG yX 1 ?_
 intro args r h
 unfold M35 at h
 split at h
 ·rename_i x
  injection h with h; subst h
  refine ⟨0,?_⟩
  have m:=kO x 0 1000000000
  unfold lw
  obtain ⟨d,hd⟩:∃d,d=decide (0<=x/\x<=1000000000):=⟨_,rfl⟩
  rw [<-hd] at m ⊢
  rw [aK _ _ rfl]
  simp [E7,m,-ai]
 ·cases h
def lx (n:Nat) (x:Int):Bool:=!decide (0<=x/\x<=(n:Int)-1)
def M46:aP:=fun args=>evP (ax GC fsW) 0 Ek 1 args
theorem xk:au Try.prog GC 91 M46:=au.of_ev (E:=ax GC fsW) (aw uW) rfl LB yS 1 fun _ _ h=>⟨0,h⟩
theorem z7 {n:Nat} {p:Int} {l:List a8} (hl:l.length<=200) (x:Int):M46 [.int .i64 x,.fp [cP n p l]]=some (.bool (lx l.length x)):=by
 have m:=kO x 0 ((l.length:Int)-1)
 have hlen2:aq (slA 6 (wAs p (num l)))=some (.int .i64 (l.length:Int)):=by rw [qU,qC]
 have b0:ai .sub (.int .i64 (l.length:Int)) (.int .i64 1)=some (.int .i64 ((l.length:Int)-1)):=by
  simp only [ai]; rw [if_pos trivial,eu (by unfold inI; omega)]
 obtain ⟨W1,O,hW,hW1⟩:∃W1 O,cP n p l=.fp [.int .i64 (n:Int),W1,O]/\W1=slA 6 (wAs p (num l)):=⟨_,_,rfl,rfl⟩
 rw [<-hW1] at hlen2
 rw [hW]
 unfold lx
 obtain ⟨k,hk⟩:∃k,k=(l.length:Int)-1:=⟨_,rfl⟩
 rw [<-hk] at m b0 ⊢
 obtain ⟨d,hd⟩:∃d,d=decide (0<=x/\x<=k):=⟨_,rfl⟩
 rw [<-hd] at m ⊢
 unfold M46
 rw [aK _ _ rfl]
 simp [Ek,hlen2,b0,m,-ai,-aq]
def Am:List (FuncId × aG):=[(94,aD 4 M35),(91,aD 4 M46)]
@[simp] theorem JP:aC Am 94=some (aD 4 M35):=rfl
@[simp] theorem JO:aC Am 91=some (aD 4 M46):=rfl
theorem Dt:∀f M,aC Am f=some M->aj Try.prog GC f M:=af (aj.of_pure xo 4) (af (aj.of_pure xk 4) aA)
def M45:aP:=fun args=>evP (ax GC Am) 300 wS 1 args
theorem xm:au Try.prog GC 79 M45:=au.of_ev (E:=ax GC Am) (aw Dt) rfl IS vJ 1 fun _ _ h=>⟨300,h⟩
theorem CU {f:FuncId} {cap:List AV} {Mf:aP} (hlk:aC Am f=some (aD 4 Mf)) {q:Int->Bool} {xs:List Int} (hm:∀x∈xs,∀A,Mf (.int .i64 x :: cap.map (frz A 4))=some (.bool (q x))) {b:AV} (hb:SlA 1 (ak xs) b) (hl:xs.length<=200) :
  M45 [b,.func (.func f) [] cap]=some (.int .i64 (c9 q xs)):=by
 have hlen:=hb.len
 rw [aB] at hlen
 have round:∀(A:ab) (i:Nat) (hi:i<xs.length),run (ax GC Am) 300 [.code ev] (fg b (.func (.func f) [] cap) (.int .i64 (xs.length:Int)) (.int .i64 (i:Int))) A =
   if q xs[i]=false then some (.normal (fg b (.func (.func f) [] cap) (.int .i64 (xs.length:Int)) (.int .i64 ((i+1:Nat):Int))) A) else some (.ret [b,.func (.func f) [] cap,.int .i64 (i:Int),.int .i64 (i:Int),.int .i64 (xs.length:Int),.int .i64 (i:Int),.bool true,.bool true] A):=fun A i hi=>by
  have x1:=hb.int (A:=A) _ _ (List.getElem?_eq_getElem hi) .i64
  have m:=hm _ (List.getElem_mem hi) A
  have b1:=bj i xs.length .i64
  rw [decide_eq_true hi] at b1
  have b3:=aY i (by omega)
  obtain ⟨i1,hi1⟩:∃i1:Nat,i1=i+1:=⟨_,rfl⟩
  rw [<-hi1] at b3 ⊢
  obtain ⟨d,hd⟩:∃d,d=q xs[i]:=⟨_,rfl⟩
  rw [<-hd] at m ⊢
  cases d with
  | false=>simp [ev,x1,hlk,m,b1,b3,-ai,-ag,-aq]
  | true=>simp [ev,x1,hlk,m,b1,-ai,-ag,-aq]
 unfold M45
 rw [aK _ _ rfl]
 rcases cI (E:=ax GC Am) (fuel:=300) (a:=ev) (mask:=eH) (fun i=>fg b (.func (.func f) [] cap) (.int .i64 (xs.length:Int)) (.int .i64 (i:Int))) (fun _=>[]) xs.length (fun i=>¬ ∀hi:i<xs.length,q xs[i]=false)
  (oF:=fun i=>.ret [b,.func (.func f) [] cap,.int .i64 (i:Int),.int .i64 (i:Int),.int .i64 (xs.length:Int),.int .i64 (i:Int),.bool true,.bool true] []) (oE:=.exit 0 ((fg b (.func (.func f) [] cap) (.int .i64 (xs.length:Int)) (.int .i64 (xs.length:Int))).set 6 (.bool false)) [])
  (fun _=>zi) (fun _ _ _ h=>by cases h) (fun _ _ h=>by cases h)
  (fun i hi hp=>by
   rw [round [] i hi]
   exact if_pos (Classical.not_not.1 hp hi))
  (fun i hi hp=>by
   rw [round [] i hi]
   exact if_neg fun h=>hp fun _=>h)
  (by simp [ev]) (show xs.length<300 by omega) with ⟨i,hi,hp,hj,lp⟩ | ⟨hp,lp⟩
 ·have lp:bU (evC (ax GC Am) 300 ev) eH 300 (fg b (.func (.func f) [] cap) (.int .i64 (xs.length:Int)) (.int .i64 0)) []=_:=lp
  have e:c9 q xs=(i:Int):=bJ hi (by
   cases h':q xs[i] with
   | true=>rfl
   | false=>exact absurd (fun _=>h') hp) (fun j hj'=>Classical.not_not.1 (hj j hj') (by omega))
  rw [e]
  simp [wS,hlen,vx lp,-ai,-aq]
 ·have lp:bU (evC (ax GC Am) 300 ev) eH 300 (fg b (.func (.func f) [] cap) (.int .i64 (xs.length:Int)) (.int .i64 0)) []=_:=lp
  have e:c9 q xs = -1:=bM fun i hi=>Classical.not_not.1 (hp i hi) hi
  rw [e]
  simp [wS,hlen,vx lp,-ai,-aq]
def II:List (FuncId × aG):=[(79,aD 4 M45)]
@[simp] theorem JY:aC II 79=some (aD 4 M45):=rfl
theorem Dz:∀f M,aC II f=some M->aj Try.prog GC f M:=af (aj.of_pure xm 4) aA
def M36:aP:=fun args=>evP (ax GC II) 0 AR 1 args
theorem uT:au Try.prog GC 51 M36:=au.of_ev (E:=ax GC II) (aw Dz) rfl IT vK 1 fun _ _ h=>⟨0,h⟩
theorem CV {F:AV} {q:Int->Bool} {xs:List Int} {b:AV} (hb:SlA 1 (ak xs) b) (hF:∀A,frz A 4 F=F) (h:M45 [b,F]=some (.int .i64 (c9 q xs))):M36 [b,F]=some (.bool (xs.any q)):=by
 have b1:=iA (c9 q xs)
 rw [cm] at b1
 have f1:∀A n,frz A n b=b:=fun A n=>hb.frz n
 obtain ⟨z,hz⟩:∃z,z=c9 q xs:=⟨_,rfl⟩
 rw [<-hz] at h b1
 unfold M36
 rw [aK _ _ rfl]
 simp [AR,f1,hF,h,b1,bK,bb,-ai,-frz]
open Go
def fK (n:Int) (l:List a8) (p:Int) (s:List Int):Prop:=ck n l p/\(s.length:Int)=n/\(∀x∈s,0<=x/\x<=1000000000)/\jB (lar p l) s
open Classical in
def M19:aP:=fun args=>match args with
 | [.int .i64 n,a,.int .i64 p,b]=>match cr a,mh b with
  | some l,some s=>some (.bool (decide (fK n l p s)))
  | _,_=>none
 | _=>none
def m9:List (FuncId × aG):=[(73,cA 4 M25),(51,aD 4 M36),(90,fun _=>bS (ax GC []) 300 xU),(40,fun _=>bS (ax GC []) 0 tX)]
@[simp] theorem KV:aC m9 73=some (cA 4 M25):=rfl
@[simp] theorem KU:aC m9 51=some (aD 4 M36):=rfl
@[simp] theorem KT:aC m9 90=some (fun _=>bS (ax GC []) 300 xU):=rfl
@[simp] theorem KS:aC m9 40=some (fun _=>bS (ax GC []) 0 tX):=rfl
theorem tG:∀f M,aC m9 f=some M->aj Try.prog GC f M:=af (aj.of_pureF qD 4) (af (aj.of_pure uT 4) (af BJ (af lM aA)))
theorem yu (A:ab):frz A 4 (.func (.func 94) [] [])=.func (.func 94) [] []:=rfl
theorem qs (s:List Int):s.any lw=false↔∀x∈s,0<=x/\x<=1000000000:=by
 rw [List.any_eq_false]; unfold lw; simp
open Classical in
theorem pO:au Try.prog GC 77 M19:=by
 refine au.of_ev (E:=ax GC m9) (aw tG) rfl HK sP 1 ?_
 intro args r h
 unfold M19 at h
 split at h
 rotate_left
 ·cases h
 rename_i n a p b
 split at h
 rotate_left
 ·cases h
 rename_i l s hl hs
 injection h with h; subst h
 refine ⟨0,?_⟩
 obtain ⟨hb,_,hsl⟩:=jn hs
 have f1:∀A n,frz A n a=a:=fun A n=>eJ hl A n
 have f2:∀A n,frz A n b=b:=fun A n=>hb.frz n
 have f3:=fG hl
 have f4:=me hs
 have m1:M25 [.int .i64 n,a,.int .i64 p]=some (if ck n l p then .tup [cP n.toNat p l,.bool true] else .tup [.nilP,.bool false]):=by simp only [M25,hl,Option.map_some]
 have hlen:=hb.len
 have hlen':(s.map (AV.int .i64)).length=s.length:=by simp
 rw [hlen'] at hlen
 rw [aK _ _ rfl]
 by_cases hr:ck n l p
 rotate_left
 ·rw [if_neg hr] at m1
  rw [decide_eq_false (show ¬ fK n l p s from fun h=>hr h.1)]
  simp [tp,f1,m1,aJ,bb,-frz,-aq]
 rw [if_pos hr] at m1
 have b1:ai .eql (.int .i64 (s.length:Int)) (.int .i64 n)=some (.bool (decide ((s.length:Int)=n))):=by simp [ai]
 obtain ⟨m,rfl⟩:∃m:Nat,n=(m:Int):=⟨n.toNat,by have:=hr.1.1; omega⟩
 rw [Int.toNat_natCast] at m1
 obtain ⟨W1,O,hW⟩:∃W1 O,cP m p l=.fp [.int .i64 (m:Int),W1,O]:=⟨_,_,rfl⟩
 by_cases h1:(s.length:Int)=(m:Int)
 rotate_left
 ·rw [decide_eq_false h1] at b1
  rw [decide_eq_false (show ¬ fK m l p s from fun h=>h1 h.2.1)]
  rw [hW] at m1
  simp [tp,f1,m1,hlen,b1,aJ,bb,-frz,-aq,-ai]
 rw [decide_eq_true h1] at b1
 have hm32:=hr.1.1
 have m45:=CU (f:=94) (cap:=[]) (Mf:=M35) rfl (q:=lw) (xs:=s) (fun x _ A=>rfl) hb (by omega)
 have m36:=CV (q:=lw) hb (fun A=>rfl) m45
 by_cases h2:∀x∈s,0<=x/\x<=1000000000
 rotate_left
 ·have h2':s.any lw=true:=by
   cases h:s.any lw with
   | true=>rfl
   | false=>exact absurd ((qs s).1 h) h2
  rw [h2'] at m36
  rw [decide_eq_false (show ¬ fK m l p s from fun h=>h2 h.2.2.1)]
  rw [hW] at m1
  simp [tp,f1,f2,m1,hlen,b1,m36,aJ,bb,bK,yu,-frz,-aq,-ai]
 rw [(qs s).2 h2] at m36
 have hsm:s.length=m:=by omega
 have hne:s≠[]:=by
  intro h
  rw [h] at hsm
  simp at hsm; omega
 have c38:=IL (ax GC []) 0 (A:=[]) (a:=b) (xs:=s) (.inl hb) hne (by omega)
 obtain ⟨A',c37,_⟩:=zD (A:=[.dead,.row 1 false (ak s)]) (id:=1) hsm hr.2 hr.1.2.2 (by omega) hr.1.2.1 (hi:=1000000000) (fun v hv=>by
  have:s.getD v 0∈s:=by rw [List.getD_eq_getElem?_getD,List.getElem?_eq_getElem hv]; simp
  have:=h2 _ this
  omega) (by omega) rfl
 have e:decide (fK m l p s)=!upL (lar p l) s:=by
  cases hu:upL (lar p l) s with
  | true=>
   exact decide_eq_false fun h=>by rw [nm h.2.2.2] at hu; cases hu
  | false=>
   exact decide_eq_true ⟨hr,h1,h2,(fN hu).2⟩
 rw [e]
 rw [hsm] at c38
 rw [hW] at m1 c37
 simp at c38
 simp [tp,f1,f2,m1,hlen,b1,m36,c38,c37,aJ,bb,bK,yu,-frz,-aq,-ai]
open Go
def uA (l:List a8) (i:Int):a8:=l.getD i.toNat ⟨0,0,0,0⟩
def exL (p:Int) (l:List a8):List Int->Int->Int->Int->Option (Int × Int)
 | [],_,s,t=>some (s,t)
 | i :: r,at_,s,t=>if (uA l i).f=at_ then exL p l r (uA l i).t (s+(uA l i).len p) (t+(uA l i).k) else none
def t9 (l:List a8) (xs:List Int):Prop:=∀x∈xs,0<=x/\x<=(l.length:Int)-1
instance (l:List a8) (xs:List Int):Decidable (t9 l xs):=inferInstanceAs (Decidable (∀x∈xs,_))
def exM (p:Int) (l:List a8) (xs:List Int):Option (Int × Int):=if (1<=xs.length/\xs.length<=200)/\t9 l xs then exL p l xs (uA l (xs.getLastD 0)).t 0 0 else none
theorem qt (l:List a8) (s:List Int):s.any (lx l.length)=false↔t9 l s:=by
 rw [List.any_eq_false]; unfold lx t9; simp
theorem rr {l:List a8} {x:Int} (h:0<=x/\x<=(l.length:Int)-1):∃(j:Nat) (hj:j<l.length),x=(j:Int)/\uA l x=l[j]:=by
 refine ⟨x.toNat,by omega,by omega,?_⟩
 unfold uA
 rw [List.getD_eq_getElem?_getD,List.getElem?_eq_getElem (by omega)]; rfl
def L7:MC:=.region [⟨none,.indexSl 1 (.var 12) (.var 14),none⟩,⟨none,.load false 1 (.tmp 0),none⟩,⟨some 8,.mv (.tmp 1),none⟩]
def L6:MC:=.region [⟨none,.load false 1 (.var 2),none⟩,⟨none,.nilCheck (.tmp 0),none⟩,⟨none,.fieldAddr 1 (.tmp 1),none⟩,⟨none,.load false 1 (.tmp 2),none⟩,⟨none,.mv (.var 8),none⟩,⟨none,.indexSl 6 (.tmp 3) (.tmp 4),none⟩,⟨none,.load true 6 (.tmp 5),none⟩,⟨some 9,.alloc 6 (.agg [.int .i64 0,.int .i64 0,.int .i64 0,.int .i64 0,.int .i64 0,.int .i64 0]),none⟩,⟨none,.store 6 (.var 9) (.tmp 6),none⟩]
def L5:MC:=.region [⟨none,.fieldAddr 0 (.var 9),none⟩,⟨none,.fieldAddr 0 (.tmp 0),none⟩,⟨none,.load false 1 (.tmp 1),none⟩,⟨none,.mv (.var 7),none⟩,⟨some 16,.bin .neq (.tmp 2) (.tmp 3),none⟩]
def L4:MC:=.region [⟨some 3,.mv (.cst (.int .i64 0)),none⟩,⟨some 4,.mv (.cst (.int .i64 0)),none⟩,⟨some 5,.mv (.cst (.bool false)),none⟩]
def L3:MC:=.region [⟨none,.mv (.var 3),none⟩,⟨none,.fieldAddr 5 (.var 9),none⟩,⟨none,.load false 1 (.tmp 1),none⟩,⟨none,.bin .add (.tmp 0) (.tmp 2),none⟩,⟨none,.mv (.var 4),none⟩,⟨none,.fieldAddr 0 (.var 9),none⟩,⟨none,.fieldAddr 3 (.tmp 5),none⟩,⟨none,.load false 1 (.tmp 6),none⟩,⟨none,.bin .add (.tmp 4) (.tmp 7),none⟩,⟨none,.fieldAddr 0 (.var 9),none⟩,⟨none,.fieldAddr 1 (.tmp 9),none⟩,⟨none,.load false 1 (.tmp 10),none⟩,⟨some 3,.mv (.tmp 3),none⟩,⟨some 4,.mv (.tmp 8),none⟩,⟨some 7,.mv (.tmp 11),none⟩]
theorem CQ:n6=.seq (.region [⟨some 15,.bin .lss (.var 14) (.var 13),none⟩]) (.seq (.cond (.var 15) .skip (.exit 0)) (.seq (.seq (.block 1 (.seq L7 (.seq L6 (.seq (.seq L5 (.cond (.var 16) (.seq L4 .ret) .skip)) L3)))) (.kill [0,1,5,6,8,9,10,11,15,16])) (.region [⟨none,.bin .add (.var 14) (.cst (.int .i64 1)),none⟩,⟨some 14,.mv (.tmp 0),none⟩]))):=rfl
theorem Ja (E:Env) (fuel:Nat) (K:List KC) (X:MC) {A:ab} {n j i:Nat} {p:Int} {l:List a8} {xs:List Int} {c:AV} (hc:SlA 1 (ak xs) c) (hi:i<xs.length) (hx:xs[i]=(j:Int)) (hj:j<l.length) (hA:A[0]?=some (.row 1 false [cP n p l])) (v3 v4 v7 v13 v15 v16:AV) :
  run E fuel (.code (.seq L7 (.seq L6 X)) :: K) [.undef,.undef,.ptr 0 0 0,v3,v4,.undef,.undef,v7,.undef,.undef,.undef,.undef,c,v13,.int .i64 (i:Int),v15,v16] A =
   run E fuel (.code X :: K) [.undef,.undef,.ptr 0 0 0,v3,v4,.undef,.undef,v7,.int .i64 (j:Int),.ptr A.length 0 0,.undef,.undef,c,v13,.int .i64 (i:Int),v15,v16] (A++[.row 6 false [wA p (l[j],j)]]):=by
 have x1:=hc.int (A:=A) _ _ (List.getElem?_eq_getElem hi) .i64
 rw [hx] at x1
 have x2:=rH p hj A .i64
 obtain ⟨W1,O,hW,hW1⟩:∃W1 O,cP n p l=.fp [.int .i64 (n:Int),W1,O]/\W1=slA 6 (wAs p (num l)):=⟨_,_,rfl,rfl⟩
 rw [<-hW1] at x2
 rw [hW] at hA
 simp [L7,L6,x1,x2,hA,wA,-ag]
theorem DV (E:Env) (fuel:Nat) {A:ab} {n i:Nat} {p:Int} {l:List a8} (hr:ck n l p) {xs:List Int} {c:AV} (hc:SlA 1 (ak xs) c) (hl:xs.length<=200) (hin:t9 l xs) (hi:i<xs.length) (hA:A[0]?=some (.row 1 false [cP n p l])) {s t at_:Int} (hs : -(3000000*(i:Int))<=s/\s<=3000000*i) (ht : -(2*(i:Int))<=t/\t<=2*i) :
  ∃A',A'[0]?=some (.row 1 false [cP n p l])/\∃v8 v9 v15 v16,run E fuel [.code n6] (ny (.ptr 0 0 0) (.int .i64 s) (.int .i64 t) (.int .i64 at_) c (.int .i64 (xs.length:Int)) (.int .i64 (i:Int))) A =
   if (uA l xs[i]).f=at_ then some (.normal (ny (.ptr 0 0 0) (.int .i64 (s+(uA l xs[i]).len p)) (.int .i64 (t+(uA l xs[i]).k)) (.int .i64 (uA l xs[i]).t) c (.int .i64 (xs.length:Int)) (.int .i64 ((i+1:Nat):Int))) A')
   else some (.ret [.undef,.undef,.ptr 0 0 0,.int .i64 0,.int .i64 0,.bool false,.undef,.int .i64 at_,v8,v9,.undef,.undef,c,.int .i64 (xs.length:Int),.int .i64 (i:Int),v15,v16] A'):=by
 obtain ⟨j,hj,hx,he⟩:=rr (hin _ (List.getElem_mem hi))
 rw [he]
 have hmem:=hr.1.2.2 _ (List.getElem_mem hj)
 have hn32:=hr.1.1
 have hlen:=gO (n:=32) (a:=l[j]) ⟨⟨by have:=hmem.1; omega,by have:=hmem.1; omega⟩,⟨by have:=hmem.2.1; omega,by have:=hmem.2.1; omega⟩,hmem.2.2.1,hmem.2.2.2⟩ hr.2
 have htok:=hmem.2.2.2
 have r1:=fun K X=>Ja E fuel K X hc hi hx hj hA (.int .i64 s) (.int .i64 t) (.int .i64 at_) (.int .i64 (xs.length:Int)) (.bool true) .undef
 obtain ⟨B,hB⟩:∃B,B=A++[.row 6 false [wA p (l[j],j)]]:=⟨_,rfl⟩
 have hBv:B[A.length]?=some (.row 6 false [wA p (l[j],j)]):=by rw [hB]; simp
 have hB0:B[0]?=some (.row 1 false [cP n p l]):=by rw [hB,List.getElem?_append_left (List.getElem?_eq_some_iff.1 hA).1]; exact hA
 rw [<-hB] at r1
 unfold wA at hBv
 simp only at hBv
 have b1:=bj i xs.length .i64
 rw [decide_eq_true hi] at b1
 have b3:=aY i (by omega)
 obtain ⟨i1,hi1⟩:∃i1:Nat,i1=i+1:=⟨_,rfl⟩
 rw [<-hi1] at b3 ⊢
 have b2:ai .neq (.int .i64 l[j].f) (.int .i64 at_)=some (.bool (decide (l[j].f≠at_))):=by simp [ai]
 obtain ⟨w,hw⟩:∃w,w=l[j].len p:=⟨_,rfl⟩
 rw [<-hw] at hlen hBv ⊢
 have b4:ai .add (.int .i64 s) (.int .i64 w)=some (.int .i64 (s+w)):=by
  simp only [ai]; rw [if_pos trivial,eu (by unfold inI; omega)]
 have b5:ai .add (.int .i64 t) (.int .i64 l[j].k)=some (.int .i64 (t+l[j].k)):=by
  simp only [ai]; rw [if_pos trivial,eu (by unfold inI; omega)]
 obtain ⟨vid,hvid⟩:∃vid,vid=A.length:=⟨_,rfl⟩
 rw [<-hvid] at r1 hBv
 refine ⟨B,hB0,.int .i64 (j:Int),.ptr vid 0 0,.bool true,.bool true,?_⟩
 by_cases h:l[j].f=at_
 ·rw [if_pos h]
  rw [decide_eq_false (not_not_intro h)] at b2
  rw [CQ]
  simp [b1,b3,r1,L5,L4,L3,hBv,b2,b4,b5,-ai]
 ·rw [if_neg h]
  rw [decide_eq_true h] at b2
  rw [CQ]
  simp [b1,r1,L5,L4,L3,hBv,b2,-ai]
def wX:List (FuncId × aG):=[(88,aD 4 M32),(51,aD 4 M36)]
@[simp] theorem JW:aC wX 88=some (aD 4 M32):=rfl
@[simp] theorem JV:aC wX 51=some (aD 4 M36):=rfl
theorem tD:∀f M,aC wX f=some M->aj Try.prog GC f M:=af (aj.of_pure rN 4) (af (aj.of_pure uT 4) aA)
def M40:aP:=fun args=>evP (ax GC wX) 300 Ai 5 args
theorem nG:au Try.prog GC 75 M40:=au.of_ev (E:=ax GC wX) (aw tD) rfl LE yV 5 fun _ _ h=>⟨300,h⟩
def exT (r:Option (Int × Int)):AV:=.tup [.int .i64 (r.getD (0,0)).1,.int .i64 (r.getD (0,0)).2,.bool r.isSome]
theorem vY {n:Nat} {p:Int} {l:List a8} (hr:ck n l p) {xs:List Int} {c:AV} (hc:SlA 1 (ak xs) c) (hmx:xs.length<=9223372036854775807):M40 [cP n p l,c]=some (exT (exM p l xs)):=by
 have hlen:=hc.len
 rw [aB] at hlen
 have m32:=kO (xs.length:Int) 1 200
 have f1:∀A n,frz A n c=c:=fun A n=>hc.frz n
 unfold M40
 rw [aK _ _ rfl]
 obtain ⟨W1,O,hW,hW1⟩:∃W1 O,cP n p l=.fp [.int .i64 (n:Int),W1,O]/\W1=slA 6 (wAs p (num l)):=⟨_,_,rfl,rfl⟩
 by_cases h1:1<=xs.length/\xs.length<=200
 rotate_left
 ·rw [decide_eq_false (by omega)] at m32
  have e:exM p l xs=none:=if_neg fun h=>h1 h.1
  rw [e,hW]
  simp [Ai,hlen,m32,exT,-aq]
 rw [decide_eq_true (by omega)] at m32
 have m45:=CU (f:=91) (cap:=[.fp [cP n p l]]) (Mf:=M46) rfl (q:=lx l.length) (xs:=xs) (fun x _ A=>z7 hr.1.2.1 x) hc h1.2
 have m36:=CV (q:=lx l.length) hc (fun A=>rfl) m45
 have hfz:frz [.row 1 false [cP n p l]] 4 (.func (.func 91) [] [.ptr 0 0 0])=.func (.func 91) [] [.fp [cP n p l]]:=rfl
 by_cases h2:t9 l xs
 rotate_left
 ·have h2':xs.any (lx l.length)=true:=by
   cases h:xs.any (lx l.length) with
   | true=>rfl
   | false=>exact absurd ((qt l xs).1 h) h2
  rw [h2'] at m36
  have e:exM p l xs=none:=if_neg fun h=>h2 h.2
  rw [e]
  rw [hW] at m36 hfz ⊢
  simp [Ai,hlen,m32,f1,hfz,m36,exT,bK,aJ,-aq,-frz]
  simp [frz]
 rw [(qt l xs).2 h2] at m36
 have hex:exM p l xs=exL p l xs (uA l (xs.getLastD 0)).t 0 0:=if_pos ⟨h1,h2⟩
 have hlast:xs.length-1<xs.length:=by omega
 obtain ⟨j,hj,hx,he⟩:=rr (h2 _ (List.getElem_mem hlast))
 have hgl:xs.getLastD 0=xs[xs.length-1]:=by
  rw [List.getLastD_eq_getLast?,List.getLast?_eq_getElem?,List.getElem?_eq_getElem hlast]; rfl
 rw [hgl,he] at hex
 have x1:∀A,ag 1 A c (.int .i64 ((xs.length-1:Nat):Int))=some (.fp [.int .i64 (j:Int)]):=fun A=>by
  have:=hc.int (A:=A) _ _ (List.getElem?_eq_getElem hlast) .i64
  rwa [hx] at this
 have x2:=fun A=>rH p hj A .i64
 have b0:ai .sub (.int .i64 (xs.length:Int)) (.int .i64 1)=some (.int .i64 ((xs.length-1:Nat):Int)):=by
  simp only [ai]; rw [if_pos trivial,eu (by unfold inI; omega)]; congr 2; omega
 obtain ⟨o,lp,ho⟩:=gf (E:=ax GC wX) (fuel:=300) (a:=n6) (mask:=mU)
  (fun κ σ A=>∃(i:Nat) (s t at_:Int),i+κ=xs.length/\σ=ny (.ptr 0 0 0) (.int .i64 s) (.int .i64 t) (.int .i64 at_) c (.int .i64 (xs.length:Int)) (.int .i64 (i:Int))/\A[0]?=some (.row 1 false [cP n p l])/\exL p l xs l[j].t 0 0=exL p l (xs.drop i) at_ s t/\(-(3000000*(i:Int))<=s/\s<=3000000*i)/\(-(2*(i:Int))<=t/\t<=2*i))
  (fun o=>(∃s t at_ A',exL p l xs l[j].t 0 0=some (s,t)/\o=.exit 0 ((ny (.ptr 0 0 0) (.int .i64 s) (.int .i64 t) (.int .i64 at_) c (.int .i64 (xs.length:Int)) (.int .i64 (xs.length:Int))).set 15 (.bool false)) A') \/
   (exL p l xs l[j].t 0 0=none/\∃v7 v8 v9 v14 v15 v16 A',o=.ret [.undef,.undef,.ptr 0 0 0,.int .i64 0,.int .i64 0,.bool false,.undef,v7,v8,v9,.undef,.undef,c,.int .i64 (xs.length:Int),v14,v15,v16] A'))
  (by
   rintro κ σ A ⟨i,s,t,at_,hik,rfl,hA,hexi,hs,ht⟩
   rw [CG]
   by_cases hi:i<xs.length
   ·obtain ⟨A',hA',v8,v9,v15,v16,hrun⟩:=DV (ax GC wX) 300 hr hc h1.2 h2 hi hA (at_:=at_) hs ht
    have hd:xs.drop i=xs[i] :: xs.drop (i+1):=List.drop_eq_getElem_cons hi
    by_cases hf:(uA l xs[i]).f=at_
    ·rw [if_pos hf] at hrun
     rw [hd,exL,if_pos hf] at hexi
     obtain ⟨j2,hj2,hx2,he2⟩:=rr (h2 _ (List.getElem_mem hi))
     have hmem:=hr.1.2.2 _ (List.getElem_mem hj2)
     have hn32:=hr.1.1
     have hlen2:=gO (n:=32) (a:=l[j2]) ⟨⟨by have:=hmem.1; omega,by have:=hmem.1; omega⟩,⟨by have:=hmem.2.1; omega,by have:=hmem.2.1; omega⟩,hmem.2.2.1,hmem.2.2.2⟩ hr.2
     have htok:=hmem.2.2.2
     rw [he2] at hrun hexi
     exact .inl ⟨_,_,hrun,κ-1,by omega,i+1,_,_,_,by omega,rfl,hA',hexi,by omega,by omega⟩
    ·rw [if_neg hf] at hrun
     rw [hd,exL,if_neg hf] at hexi
     exact .inr ⟨_,hrun,(fun _ _ h=>by cases h),.inr ⟨hexi,_,_,_,_,_,_,_,rfl⟩⟩
   ·obtain rfl:i=xs.length:=by omega
    rw [List.drop_length,exL] at hexi
    refine .inr ⟨_,?_,?_,.inl ⟨s,t,at_,A,hexi,rfl⟩⟩
    ·simp [n6]
    ·intro _ _ h; cases h)
  300 xs.length (ny (.ptr 0 0 0) (.int .i64 0) (.int .i64 0) (.int .i64 l[j].t) c (.int .i64 (xs.length:Int)) (.int .i64 0)) [.row 1 false [cP n p l]] (by omega) ⟨0,0,0,_,by omega,rfl,rfl,rfl,by omega,by omega⟩
 rw [hex]
 rw [<-hW1] at x2
 rw [hW] at m36 hfz lp ⊢
 obtain ⟨q,hq⟩:∃q,q=xs.length-1:=⟨_,rfl⟩
 rw [<-hq] at x1 b0
 rcases ho with ⟨s,t,at_,A',he1,rfl⟩ | ⟨he1,v7,v8,v9,v14,v15,v16,A',rfl⟩
 ·rw [he1]
  simp [Ai,hlen,m32,f1,hfz,m36,b0,x1,x2,Ch lp,exT,bK,aJ,-aq,-frz,-ai,-ag]
  simp [frz]
 ·rw [he1]
  simp [Ai,hlen,m32,f1,hfz,m36,b0,x1,x2,Ch lp,exT,bK,aJ,-aq,-frz,-ai,-ag]
  simp [frz]
open Go
def WL (L:List dh) (u v j:Nat) (z:Int):Prop:=∃r,isW L u r v/\r.length=j/\jk r=z
def fZ (P:Int->Prop) (y:LP):Prop:=(y=noL/\∀z,¬ P z)\/(y.2=true/\P y.1/\∀z,P z->z<=y.1)
theorem fZ.congr {P Q:Int->Prop} {y:LP} (h:fZ P y) (hpq:∀z,P z↔Q z):fZ Q y:=by
 rcases h with ⟨h1,h2⟩ | ⟨h1,h2,h3⟩
 ·exact .inl ⟨h1,fun z hz=>h2 z ((hpq z).2 hz)⟩
 ·exact .inr ⟨h1,(hpq _).1 h2,fun z hz=>h3 z ((hpq z).2 hz)⟩
theorem zL {P Q:Int->Prop} {x y:LP} (h1:fZ P x) (h2:fZ Q y):fZ (fun z=>P z\/Q z) (jT x y):=by
 obtain ⟨x1,x2⟩:=x
 obtain ⟨y1,y2⟩:=y
 rcases h1 with ⟨e1,a1⟩ | ⟨e1,a1,b1⟩
 ·have:jT (x1,x2) (y1,y2)=(y1,y2):=if_pos (.inl (by rw [e1]; rfl))
  rw [this]
  exact h2.congr fun z=>⟨.inr,fun h=>h.elim (fun h=>absurd h (a1 z)) id⟩
 ·simp only at e1 a1 b1
  rcases h2 with ⟨e2,a2⟩ | ⟨e2,a2,b2⟩
  ·have:jT (x1,x2) (y1,y2)=(x1,x2):=if_neg (by
    rw [e2,e1]
    rintro (h | ⟨h,_⟩) <;> cases h)
   rw [this]
   exact .inr ⟨e1,.inl a1,fun z h=>h.elim (b1 z) fun h=>absurd h (a2 z)⟩
  ·simp only at e2 a2 b2
   by_cases h:y1 > x1
   ·have:jT (x1,x2) (y1,y2)=(y1,y2):=if_pos (.inr ⟨e2,h⟩)
    rw [this]
    exact .inr ⟨e2,.inr a2,fun z hz=>hz.elim (fun hz=>by have:=b1 z hz; simp only; omega) (b2 z)⟩
   ·have:jT (x1,x2) (y1,y2)=(x1,x2):=if_neg (by
     rw [e1]
     rintro (h' | ⟨_,h'⟩)
     ·cases h'
     ·exact h h')
    rw [this]
    exact .inr ⟨e1,.inl a1,fun z hz=>hz.elim (b1 z) fun hz=>by have:=b2 z hz; simp only; omega⟩
theorem zJ {P:Int->Prop} {x:LP} (h:fZ P x) (w:Int):fZ (fun z=>∃z',P z'/\z=w+z') (eV x w):=by
 rcases h with ⟨e,a⟩ | ⟨e,a,b⟩
 ·rw [e]
  exact .inl ⟨rfl,fun z ⟨z',h,_⟩=>a z' h⟩
 ·have:eV x w=(x.1+w,x.2):=if_neg (by rw [e]; rintro ⟨h,_⟩; cases h)
  rw [this]
  refine .inr ⟨e,⟨_,a,by simp only; omega⟩,?_⟩
  rintro z ⟨z',h,rfl⟩
  have:=b z' h
  simp only; omega
theorem zK:fZ (fun _=>False) noL:=.inl ⟨rfl,fun _ h=>h⟩
theorem ru {L:List dh} {u v:Nat} {z:Int}:WL L u v 0 z↔u=v/\z=0:=by
 constructor
 ·rintro ⟨r,h1,h2,h3⟩
  have:r=[]:=List.length_eq_zero_iff.1 h2
  subst this
  exact ⟨h1,h3.symm⟩
 ·rintro ⟨rfl,rfl⟩
  exact ⟨[],rfl,rfl,rfl⟩
theorem zV {L:List dh} {u v j:Nat} {z:Int}:WL L u v (j+1) z↔∃a∈L,a.1=u/\∃z',WL L a.2.1 v j z'/\z=a.2.2+z':=by
 constructor
 ·rintro ⟨r,h1,h2,h3⟩
  cases r with
  | nil=>simp at h2
  | cons a r=>
   obtain ⟨k1,k2,k3⟩:=h1
   exact ⟨a,k1,k2,jk r,⟨r,k3,by simpa using h2,rfl⟩,h3.symm⟩
 ·rintro ⟨a,h1,h2,z',⟨r,k1,k2,rfl⟩,rfl⟩
  exact ⟨a :: r,⟨h1,h2,k1⟩,by simp [k2],rfl⟩
theorem xF (n v:Nat):(List.replicate n noL).getD v noL=noL:=by
 rw [List.getD_eq_getElem?_getD]
 by_cases h:v<n <;> simp [h]
theorem vu {L0:List dh} {n to j:Nat} (hok:th n L0) {h:List LP} (hh:∀u,u<n->fZ (WL L0 u to j) (h.getD u noL)):∀(L:List dh),(∀a∈L,a∈L0)->∀(next:List LP) (D:Nat->Int->Prop),next.length=n->(∀u,u<n->fZ (D u) (next.getD u noL)) ->
  ∀u,u<n->fZ (fun z=>D u z\/∃a∈L,a.1=u/\∃z',WL L0 a.2.1 to j z'/\z=a.2.2+z') ((L.foldl (hst h) next).getD u noL)
 | [],_,next,D,hn,hD,u,hu=>(hD u hu).congr fun z=>⟨.inl,fun h=>h.elim id fun ⟨a,h,_⟩=>by cases h⟩
 | a :: L,hL,next,D,hn,hD,u,hu=>by
  obtain ⟨o1,o2,_⟩:=hok a (hL a (by simp))
  have:=vu hok hh L (fun b hb=>hL b (by simp [hb])) (hst h next a) (fun u z=>D u z\/(a.1=u/\∃z',WL L0 a.2.1 to j z'/\z=a.2.2+z')) (by rw [uc,hn]) (fun v hv=>by
   unfold hst
   rw [kq _ _ _ _ _ (by omega)]
   by_cases hav:a.1=v
   ·rw [if_pos hav]
    subst hav
    exact (zL (hD _ o1) (zJ (hh _ o2) a.2.2)).congr fun z=>by simp
   ·rw [if_neg hav]
    exact (hD v hv).congr fun z=>⟨.inl,fun h=>h.elim id fun h=>absurd h.1 hav⟩) u hu
  rw [List.foldl_cons]
  refine this.congr fun z=>?_
  constructor
  ·rintro ((h | ⟨h1,h2⟩) | ⟨b,h1,h2⟩)
   ·exact .inl h
   ·exact .inr ⟨a,by simp,h1,h2⟩
   ·exact .inr ⟨b,by simp [h1],h2⟩
  ·rintro (h | ⟨b,h1,h2⟩)
   ·exact .inl (.inl h)
   ·rcases List.mem_cons.1 h1 with rfl | h1
    ·exact .inl (.inr h2)
    ·exact .inr ⟨b,h1,h2⟩
theorem ye {L:List dh} {n to:Nat} (hok:th n L) (hto:to<n):∀(j u:Nat),u<n->fZ (WL L u to j) ((hm L n to j).getD u noL)
 | 0,u,hu=>by
  unfold hm
  rw [kq _ _ _ _ _ (by simpa using hto)]
  by_cases h:to=u
  ·rw [if_pos h]
   exact .inr ⟨rfl,ru.2 ⟨h.symm,rfl⟩,fun z hz=>by have:=(ru.1 hz).2; simp only; omega⟩
  ·rw [if_neg h,xF]
   exact .inl ⟨rfl,fun z hz=>h (ru.1 hz).1.symm⟩
 | j+1,u,hu=>by
  have:=vu hok (ye hok hto j) L (fun _ h=>h) (List.replicate n noL) (fun _ _=>False) (by simp) (fun u _=>by rw [xF]; exact zK) u hu
  refine this.congr fun z=>?_
  rw [zV]
  exact ⟨fun h=>h.elim False.elim id,.inr⟩
def sc (l:List a8):Int->List eU->Int->Prop
 | u,[],v=>u=v
 | u,x :: r,v=>x∈num l/\x.1.f=u/\sc l x.1.t r v
def iG (p:Int) (xs:List eU):Int:=(xs.map fun x=>x.1.len p).sum
def kP (xs:List eU):Int:=(xs.map fun x=>x.1.k).sum
def IY (xs:List eU):Int:=(xs.map fun x=>x.1.w).sum
theorem xZ (p:Int):∀xs:List eU,iG p xs=IY xs-p*kP xs
 | []=>by simp [iG,IY,kP]
 | x :: r=>by
  have:=xZ p r
  simp only [iG,IY,kP,List.map_cons,List.sum_cons,a8.len] at this ⊢
  rw [this,Int.mul_add]; omega
def B7 (p:Int) (x:eU):dh:=(x.1.f.toNat,x.1.t.toNat,x.1.len p)
theorem Ed {p:Int} {l:List a8} {x:eU} (h:x∈num l):B7 p x∈lar p l:=by
 obtain ⟨hi,he⟩:=kT h
 exact List.mem_map.2 ⟨x.1,by rw [<-he]; exact List.getElem_mem hi,rfl⟩
theorem x6 {p:Int} {l:List a8} {a:dh} (h:a∈lar p l):∃x∈num l,B7 p x=a:=by
 obtain ⟨c,hc,rfl⟩:=List.mem_map.1 h
 obtain ⟨i,hi,rfl⟩:=List.mem_iff_getElem.1 hc
 exact ⟨(l[i],i),List.mem_of_getElem? (fI l i hi),rfl⟩
theorem rX {n:Int} {l:List a8} (hv:∀x∈l,okA n x) {x:eU} (h:x∈num l):okA n x.1:=by
 obtain ⟨hi,he⟩:=kT h
 rw [<-he]; exact hv _ (List.getElem_mem hi)
theorem Mh {n p:Int} {l:List a8} (hv:∀x∈l,okA n x):∀ {xs:List eU} {u v:Int},sc l u xs v->isW (lar p l) u.toNat (xs.map (B7 p)) v.toNat/\jk (xs.map (B7 p))=iG p xs
 | [],u,v,h=>⟨by rw [show u=v from h]; rfl,rfl⟩
 | x :: r,u,v,⟨h1,h2,h3⟩=>by
  obtain ⟨k1,k2⟩:=Mh hv h3
  refine ⟨⟨Ed h1,by rw [<-h2]; rfl,k1⟩,?_⟩
  simp only [List.map_cons,jk,k2,iG,List.sum_cons]
  rfl
section
variable {n to:Nat} {p:Int} {l:List a8} (hv:∀x∈l,okA n x) (hn32:n<=32) (hp:cw p) (hto:to<n)
include hv hn32 hp hto
theorem m8 {j:Nat} {sum:Int} {x:eU} (hx:x∈num l):jD (hm (lar p l) n to j) p sum x=true↔∃z,WL (lar p l) x.1.t.toNat to j z/\sum+x.1.len p+z > 0:=by
 have hok:=rX hv hx
 have ht:=hok.2.1
 have hb:=ye (vq hn32 hp hv) hto j x.1.t.toNat (by omega)
 unfold jD
 obtain ⟨y,hy⟩:∃y,y=(hm (lar p l) n to j).getD x.1.t.toNat noL:=⟨_,rfl⟩
 rw [<-hy] at hb ⊢
 rcases hb with ⟨e,a⟩ | ⟨e,a,b⟩
 ·rw [e]
  constructor
  ·intro h
   have:eV noL (sum+x.1.len p)=noL:=rfl
   rw [this] at h
   simp [noL] at h
  ·rintro ⟨z,hz,_⟩
   exact absurd hz (a z)
 ·have:eV y (sum+x.1.len p)=(y.1+(sum+x.1.len p),y.2):=if_neg (by rw [e]; rintro ⟨h,_⟩; cases h)
  rw [this,e]
  simp only [Bool.true_and,decide_eq_true_eq]
  constructor
  ·intro h
   exact ⟨y.1,a,by omega⟩
  ·rintro ⟨z,hz,h⟩
   have:=b z hz
   omega
theorem w6:∀(r:Nat) (v sum:Int) (out:List Int),0<=v->(∃z,WL (lar p l) v.toNat to r z/\sum+z > 0) ->
  ∃xs:List eU,o6 p l (hm (lar p l) n to) r sum (mA l v.toNat) out=some (out++xs.map fun x=>(x.2:Int))/\sc l v xs (to:Int)/\xs.length=r/\sum+iG p xs > 0
 | 0,v,sum,out,hv0,⟨z,h1,h2⟩=>by
  obtain ⟨h3,rfl⟩:=ru.1 h1
  exact ⟨[],by simp [o6],by show v=(to:Int); omega,rfl,by simpa [iG] using h2⟩
 | r+1,v,sum,out,hv0,⟨z,h1,h2⟩=>by
  obtain ⟨a,ha,haf,z',hz',rfl⟩:=zV.1 h1
  obtain ⟨x,hx,rfl⟩:=x6 ha
  have hokx:=rX hv hx
  have hxf:x.1.f=v:=by
   have:=hokx.1
   simp only [B7] at haf; omega
  have hxo:x∈mA l v.toNat:=List.mem_filter.2 ⟨hx,by simp; omega⟩
  have hg:jD (hm (lar p l) n to r) p sum x=true:=(m8 hv hn32 hp hto hx).2 ⟨z',hz',by simp only [B7] at h2; omega⟩
  cases hf:(mA l v.toNat).find? (jD (hm (lar p l) n to r) p sum) with
  | none=>
   rw [List.find?_eq_none] at hf
   exact absurd hg (hf x hxo)
  | some b=>
   have hbg:=List.find?_some hf
   have hbo:=List.mem_of_find?_eq_some hf
   have hbn:=(List.mem_filter.1 hbo).1
   have hbf:=(List.mem_filter.1 hbo).2
   simp only [decide_eq_true_eq] at hbf
   have hokb:=rX hv hbn
   obtain ⟨y,hy1,hy2⟩:=(m8 hv hn32 hp hto hbn).1 hbg
   obtain ⟨xs,k1,k2,k3,k4⟩:=w6 r b.1.t (sum+b.1.len p) (out++[(b.2:Int)]) hokb.2.1.1 ⟨y,hy1,hy2⟩
   refine ⟨b :: xs,?_,⟨hbn,by omega,k2⟩,by simp [k3],?_⟩
   ·simp only [o6,hf,k1]
    simp
   ·simp only [iG,List.map_cons,List.sum_cons] at k4 ⊢
    omega
end
section
variable {n:Nat} {p:Int} {l:List a8} (hv:∀x∈l,okA n x) (hn32:n<=32) (hp:cw p)
include hv hn32 hp
theorem tz {k:Nat} {x:eU} (hx:x∈num l):(wk p l n (k+1) x=none/\¬ ∃z,WL (lar p l) x.1.t.toNat x.1.f.toNat k z/\x.1.len p+z > 0) \/
  ∃xs:List eU,wk p l n (k+1) x=some (xs.map fun y=>(y.2:Int))/\sc l x.1.f xs x.1.f/\xs.length=k+1/\iG p xs > 0:=by
 have hok:=rX hv hx
 have hto:x.1.f.toNat<n:=by have:=hok.1; omega
 unfold wk o6
 by_cases hg:jD (hm (lar p l) n x.1.f.toNat k) p 0 x=true
 ·right
  obtain ⟨z,hz1,hz2⟩:=(m8 hv hn32 hp hto hx).1 hg
  obtain ⟨xs,k1,k2,k3,k4⟩:=w6 hv hn32 hp hto k x.1.t (0+x.1.len p) ([]++[(x.2:Int)]) hok.2.1.1 ⟨z,hz1,by omega⟩
  refine ⟨x :: xs,?_,⟨hx,rfl,?_⟩,by simp [k3],?_⟩
  ·simp only [List.find?_cons,hg,k1]
   simp
  ·have:((x.1.f.toNat:Nat):Int)=x.1.f:=by have:=hok.1; omega
   rw [this] at k2; exact k2
  ·simp only [iG,List.map_cons,List.sum_cons] at k4 ⊢
   omega
 ·left
  refine ⟨?_,fun ⟨z,h1,h2⟩=>hg ((m8 hv hn32 hp hto hx).2 ⟨z,h1,by omega⟩)⟩
  rw [Bool.not_eq_true] at hg
  simp [hg]
theorem oi {k:Nat}:eP p l n (k+1)=none↔∀u c,isW (lar p l) u c u->c.length=k+1->jk c<=0:=by
 unfold eP
 rw [List.findSome?_eq_none_iff]
 constructor
 ·intro h u c hc hl
  cases c with
  | nil=>simp at hl
  | cons a r=>
   obtain ⟨h1,h2,h3⟩:=hc
   obtain ⟨x,hx,rfl⟩:=x6 h1
   rcases tz hv hn32 hp (k:=k) hx with ⟨_,h5⟩ | ⟨xs,h4,_⟩
   ·rcases Int.lt_or_le 0 (jk (B7 p x :: r)) with h6 | h6
    ·refine absurd ⟨jk r,⟨r,?_,by simpa using hl,rfl⟩,?_⟩ h5
     ·have e:x.1.f.toNat=u:=h2
      rw [e]; exact h3
     ·simp only [jk,B7] at h6; omega
    ·exact h6
   ·rw [h x hx] at h4; cases h4
 ·intro h x hx
  rcases tz hv hn32 hp (k:=k) hx with ⟨h4,_⟩ | ⟨xs,h4,h5,h6,h7⟩
  ·exact h4
  ·obtain ⟨k1,k2⟩:=Mh (p:=p) hv h5
   have:=h _ _ k1 (by simp [h6])
   omega
theorem uk {k:Nat} {res:List Int} (h:eP p l n (k+1)=some res):∃(u:Int) (xs:List eU),res=xs.map (fun y=>(y.2:Int))/\sc l u xs u/\xs.length=k+1/\iG p xs > 0:=by
 unfold eP at h
 obtain ⟨x,hx,hw⟩:=List.exists_of_findSome?_eq_some h
 rcases tz hv hn32 hp (k:=k) hx with ⟨h4,_⟩ | ⟨xs,h4,h5,h6,h7⟩
 ·rw [h4] at hw; cases hw
 ·rw [h4] at hw
  injection hw with hw
  exact ⟨_,xs,hw.symm,h5,h6,h7⟩
theorem vI:rn p l n=none↔z6 (lar p l) n:=by
 unfold rn
 rw [List.findSome?_eq_none_iff]
 constructor
 ·intro h u c hc h1 h2
  have:=(oi hv hn32 hp (k:=c.length-1)).1 (h (c.length-1) (by simp; omega)) u c hc (by omega)
  exact this
 ·intro h j hj
  rw [List.mem_range] at hj
  exact (oi hv hn32 hp).2 fun u c hc hl=>h u c hc (by omega) (by omega)
theorem vH {res:List Int} (h:rn p l n=some res):∃(u:Int) (xs:List eU),res=xs.map (fun y=>(y.2:Int))/\sc l u xs u/\1<=xs.length/\xs.length<=n/\iG p xs > 0:=by
 unfold rn at h
 obtain ⟨j,hj,hw⟩:=List.exists_of_findSome?_eq_some h
 rw [List.mem_range] at hj
 obtain ⟨u,xs,h1,h2,h3,h4⟩:=uk hv hn32 hp hw
 exact ⟨u,xs,h1,h2,by omega,by omega,h4⟩
end
end Cy
end Go.Proofs.Ytkcjhljbgjpklaa
