import Derived.Test.YtkcjhljbgjpklaaUC03
set_option maxRecDepth 100000
set_option maxHeartbeats 4000000
noncomputable section
namespace Go.Proofs.Ytkcjhljbgjpklaa
namespace Cy
open Go
def GC:Nat->Option (List AV):=fun _=>none
structure aZ where
 f:Int
 t:Int
 w:Int
 k:Int
def cA (a:aZ):AV:=.agg [.int .i64 a.f,.int .i64 a.t,.int .i64 a.w,.int .i64 a.k]
def aZ.inR (a:aZ):Prop:=inI a.f/\inI a.t/\inI a.w/\inI a.k
open Classical in
def AQ:AV->Option aZ
 | .agg [.int .i64 f,.int .i64 t,.int .i64 w,.int .i64 k]=>if aZ.inR ⟨f,t,w,k⟩ then some ⟨f,t,w,k⟩ else none
 | _=>none
theorem pY {x:AV} {a:aZ} (h:AQ x=some a):x=cA a/\a.inR:=by
 unfold AQ at h
 split at h
 ·simp only [Option.ite_none_right_eq_some,Option.some.injEq] at h
  obtain ⟨h1,rfl⟩:=h
  exact ⟨rfl,h1⟩
 ·cases h
theorem AP {a:aZ} (h:a.inR):AQ (cA a)=some a:=if_pos h
def DT {α:Type} (s:Nat) (f:AV->Option α):AV->Option (List α)
 | .nilS=>some []
 | .fs s' es=>if s'=s/\es.length<=9223372036854775807 then tQ f es else none
 | _=>none
def cm (a:AV):Option (List aZ):=DT 4 AQ a
theorem gc {a:AV} {l:List aZ} (h:cm a=some l):SlA 4 (l.map cA) a/\l.length<=9223372036854775807/\∀x∈l,x.inR:=by
 unfold cm DT at h
 split at h
 ·injection h with h; subst h
  exact ⟨.inl ⟨rfl,rfl⟩,by simp,by simp⟩
 ·rename_i s' es
  simp only [Option.ite_none_right_eq_some] at h
  obtain ⟨⟨rfl,hl⟩,h⟩:=h
  obtain ⟨h1,h2⟩:=kP h
  have e:es=l.map cA:=List.ext_getElem (by simpa using h1) fun i k1 k2=>by
   rw [(pY (h2 i k1 (by omega))).1]; simp
  subst e
  refine ⟨.inr rfl,by simpa using hl,fun x hx=>?_⟩
  obtain ⟨i,hi,rfl⟩:=List.mem_iff_getElem.1 hx
  have:=h2 i (by simpa using hi) hi
  exact (pY this).2
 ·cases h
theorem yR {a:AV} {l:List aZ} (h:SlA 4 (l.map cA) a) (hl:l.length<=9223372036854775807) (hr:∀x∈l,x.inR):cm a=some l:=by
 unfold cm DT
 rcases h with ⟨rfl,h⟩ | rfl
 ·have:l=[]:=by simpa using h
  subst this; rfl
 ·simp only [List.length_map]
  rw [if_pos ⟨trivial,hl⟩]
  exact oA fun x hx=>AP (hr x hx)
section
variable {a:AV} {l:List aZ}
theorem kO (h:cm a=some l):aw a=some (.int .i64 (l.length:Int))/\l.length<=9223372036854775807:=by
 obtain ⟨h1,h2,_⟩:=gc h
 have:=h1.len
 simp only [List.length_map] at this
 exact ⟨this,h2⟩
theorem sg (h:cm a=some l) {i:Nat} (hi:i<l.length):∀A k,ai 4 A a (.int k (i:Int))=some (.fp [.int .i64 l[i].f,.int .i64 l[i].t,.int .i64 l[i].w,.int .i64 l[i].k]):=fun A k=>by
 obtain ⟨h1,h2,_⟩:=gc h
 have hx:(l.map cA)[i]?=some (cA l[i]):=by simp [hi]
 exact h1.index (A:=A) hx rfl (by simp) k
theorem ew (h:cm a=some l) (A:aa) (n:Nat):frz A n a=a:=(gc h).1.frz n
theorem eV (h:cm a=some l) (n:Nat):bk n a=true:=by
 rcases (gc h).1 with ⟨rfl,_⟩ | rfl <;> cases n <;> rfl
end
theorem fJ {l:List aZ} (hl:l.length<=9223372036854775807) (h:∀x∈l,x.inR):cm (slA 4 (l.map cA))=some l:=yR (bb _ _) hl h
def M32:aP:=fun args=>match args with
 | [.int .i64 n,.int .i64 lo,.int .i64 hi]=>some (.bool (decide (lo<=n/\n<=hi)))
 | _=>none
theorem ky (n lo hi:Int):M32 [.int .i64 n,.int .i64 lo,.int .i64 hi]=some (.bool (decide (lo<=n/\n<=hi))):=rfl
theorem tW (n lo hi:Int):decide (lo<=n/\n<=hi)=(decide (lo<=n) && decide (n<=hi)):=by
 rw [Bool.eq_iff_iff,decide_eq_true_eq,Bool.and_eq_true,decide_eq_true_eq,decide_eq_true_eq]
theorem q5:an Try.prog GC 88 M32:=by
 refine an.of_ev (E:=ax GC []) (aq az) rfl KW yc 1 ?_
 intro args r h
 unfold M32 at h
 split at h
 ·rename_i n lo hi
  injection h with h; subst h
  refine ⟨0,?_⟩
  have b1:ag .geq (.int .i64 n) (.int .i64 lo)=some (.bool (decide (lo<=n))):=by simp [ag]
  have b2:ag .leq (.int .i64 n) (.int .i64 hi)=some (.bool (decide (n<=hi))):=by simp [ag]
  rw [tW]
  obtain ⟨p,hp⟩:∃p,p=decide (lo<=n):=⟨_,rfl⟩
  obtain ⟨q,hq⟩:∃q,q=decide (n<=hi):=⟨_,rfl⟩
  rw [<-hp] at b1 ⊢
  rw [<-hq] at b2 ⊢
  rw [aK _ _ rfl]
  cases p <;> simp [Ev,b1,b2,-ag]
 ·cases h
theorem nk:an Try.prog GC 36 M32:=by
 refine an.of_ev (E:=ax GC []) (aq az) rfl EF pW 1 ?_
 intro args r h
 unfold M32 at h
 split at h
 ·rename_i n lo hi
  injection h with h; subst h
  refine ⟨0,?_⟩
  have b1:ag .geq (.int .i64 n) (.int .i64 lo)=some (.bool (decide (lo<=n))):=by simp [ag]
  have b2:ag .leq (.int .i64 n) (.int .i64 hi)=some (.bool (decide (n<=hi))):=by simp [ag]
  rw [tW]
  obtain ⟨p,hp⟩:∃p,p=decide (lo<=n):=⟨_,rfl⟩
  obtain ⟨q,hq⟩:∃q,q=decide (n<=hi):=⟨_,rfl⟩
  rw [<-hp] at b1 ⊢
  rw [<-hq] at b2 ⊢
  rw [aK _ _ rfl]
  cases p <;> simp [sB,b1,b2,-ag]
 ·cases h
def cn (p:Int):Prop:=-1000000<=p/\p<=1000000
instance (p:Int):Decidable (cn p):=inferInstanceAs (Decidable (_/\_))
def M41:aP:=fun args=>match args with
 | [.int .i64 p]=>some (.bool (decide (cn p)))
 | _=>none
def fsW:List (FuncId × aG):=[(88,aD 4 M32),(36,aD 4 M32)]
@[simp] theorem LI:aC fsW 88=some (aD 4 M32):=rfl
@[simp] theorem LH:aC fsW 36=some (aD 4 M32):=rfl
theorem uf:∀f M,aC fsW f=some M->ak Try.prog GC f M:=af (ak.of_pure q5 4) (af (ak.of_pure nk 4) az)
theorem ni:an Try.prog GC 72 M41:=by
 refine an.of_ev (E:=ax GC fsW) (aq uf) rfl G0 r9 1 ?_
 intro args r h
 unfold M41 at h
 split at h
 ·rename_i p
  injection h with h; subst h
  refine ⟨0,?_⟩
  have m:=ky p (-1000000) 1000000
  rw [show decide (-1000000<=p/\p<=1000000)=decide (cn p) from rfl] at m
  rw [aK _ _ rfl]
  simp [xb,m]
 ·cases h
def okA (n:Int) (a:aZ):Prop:=(0<=a.f/\a.f<=n-1)/\(0<=a.t/\a.t<=n-1)/\(-1000000<=a.w/\a.w<=1000000)/\(-2<=a.k/\a.k<=2)
instance (n:Int) (a:aZ):Decidable (okA n a):=inferInstanceAs (Decidable (_/\_))
def dg (n:Int) (a:aZ):Bool:=!decide (okA n a)
theorem zF (n:Int) (a:aZ):dg n a=(!decide (0<=a.f/\a.f<=n-1) || !decide (0<=a.t/\a.t<=n-1) || !decide (-1000000<=a.w/\a.w<=1000000) || !decide (-2<=a.k/\a.k<=2)):=by
 unfold dg okA
 by_cases h1:0<=a.f/\a.f<=n-1 <;> by_cases h2:0<=a.t/\a.t<=n-1 <;> by_cases h3 : -1000000<=a.w/\a.w<=1000000 <;> by_cases h4 : -2<=a.k/\a.k<=2 <;> simp [h1,h2,h3,h4]
def M31:aP:=fun args=>match args with
 | [.agg [.int .i64 f,.int .i64 t,.int .i64 w,.int .i64 k],.fp [.int .i64 n]]=>if 1<=n/\n<=32 then some (.bool (dg n ⟨f,t,w,k⟩)) else none
 | _=>none
theorem wH:an Try.prog GC 96 M31:=by
 refine an.of_ev (E:=ax GC fsW) (aq uf) rfl KY yd 1 ?_
 intro args r h
 unfold M31 at h
 split at h
 ·rename_i f t w k n
  simp only [Option.ite_none_right_eq_some,Option.some.injEq] at h
  obtain ⟨hn,rfl⟩:=h
  refine ⟨0,?_⟩
  rw [zF]
  have m1:=ky f 0 (n-1)
  have m2:=ky t 0 (n-1)
  have m3:=ky w (-1000000) 1000000
  have m4:=ky k (-2) 2
  have b:ag .sub (.int .i64 n) (.int .i64 1)=some (.int .i64 (n-1)):=by
   simp only [ag]; rw [if_pos trivial,dQ (by unfold inI; omega)]
  simp only
  obtain ⟨p1,hp1⟩:∃p,p=decide (0<=f/\f<=n-1):=⟨_,rfl⟩
  obtain ⟨p2,hp2⟩:∃p,p=decide (0<=t/\t<=n-1):=⟨_,rfl⟩
  obtain ⟨p3,hp3⟩:∃p,p=decide (-1000000<=w/\w<=1000000):=⟨_,rfl⟩
  obtain ⟨p4,hp4⟩:∃p,p=decide (-2<=k/\k<=2):=⟨_,rfl⟩
  rw [<-hp1] at m1 ⊢
  rw [<-hp2] at m2 ⊢
  rw [<-hp3] at m3 ⊢
  rw [<-hp4] at m4 ⊢
  obtain ⟨n1,hn1⟩:∃n1,n1=n-1:=⟨_,rfl⟩
  rw [<-hn1] at b m1 m2
  rw [aK _ _ rfl]
  cases p1
  ·simp [Ab,b,m1,-ag]
  ·cases p2
   ·simp [Ab,b,m1,m2,-ag]
   ·cases p3
    ·simp [Ab,b,m1,m2,m3,-ag]
    ·simp [Ab,b,m1,m2,m3,m4,-ag]
 ·cases h
open Go
def xK (n:Int):AV:=.func (.func 96) [] [.fp [.int .i64 n]]
def BI:List (FuncId × aG):=[(96,aD 4 M31)]
@[simp] theorem Ja:aC BI 96=some (aD 4 M31):=rfl
theorem CT:∀f M,aC BI f=some M->ak Try.prog GC f M:=af (ak.of_pure wH 4) az
def cV {α:Type} (p:α->Bool) (l:List α):Int:=match l.findIdx? p with
 | some i=>i
 | none=>-1
theorem bH {α:Type} {p:α->Bool} {l:List α} {i:Nat} (hi:i<l.length) (h1:p l[i]=true) (h2:∀j (hj:j<i),p (l[j]'(by omega))=false):cV p l=(i:Int):=by
 have:l.findIdx? p=some i:=List.findIdx?_eq_some_iff_getElem.2 ⟨hi,h1,fun j hj=>by simpa using h2 j hj⟩
 unfold cV; rw [this]
theorem bK {α:Type} {p:α->Bool} {l:List α} (h:∀i (hi:i<l.length),p l[i]=false):cV p l = -1:=by
 have:l.findIdx? p=none:=by
  rw [List.findIdx?_eq_none_iff]
  intro x hx
  obtain ⟨i,hi,rfl⟩:=List.mem_iff_getElem.1 hx
  exact h i hi
 unfold cV; rw [this]
theorem cf {α:Type} (p:α->Bool) (l:List α):decide (0<=cV p l)=l.any p:=by
 unfold cV
 cases h:l.findIdx? p with
 | some i=>
  obtain ⟨hi,h1,_⟩:=List.findIdx?_eq_some_iff_getElem.1 h
  show decide (0<=(i:Int))=_
  rw [decide_eq_true (by omega),eq_comm,List.any_eq_true]
  exact ⟨_,List.getElem_mem hi,h1⟩
 | none=>
  rw [List.findIdx?_eq_none_iff] at h
  show decide (0<=(-1:Int))=_
  rw [decide_eq_false (by omega),eq_comm,List.any_eq_false]
  intro x hx; rw [h x hx]; simp
theorem ev44 {a:AV} {l:List aZ} (ha:cm a=some l) {n:Int} (hn:1<=n/\n<=32):evP (ax GC BI) (l.length+1) z9 1 [a,xK n]=some (.int .i64 (cV (dg n) l)):=by
 obtain ⟨hl,hm⟩:=kO ha
 have round:∀(A:aa) (i:Nat) (hi:i<l.length),run (ax GC BI) (l.length+1) [.code iM] (kY a (xK n) (.int .i64 (l.length:Int)) (.int .i64 (i:Int))) A =
   if dg n l[i]=false then some (.normal (kY a (xK n) (.int .i64 (l.length:Int)) (.int .i64 ((i+1:Nat):Int))) A) else some (.ret [a,xK n,.int .i64 (i:Int),.int .i64 (i:Int),.int .i64 (l.length:Int),.int .i64 (i:Int),.bool true,.bool true] A):=fun A i hi=>by
  have x1:=sg ha hi A .i64
  have m:M31 [.agg [.int .i64 l[i].f,.int .i64 l[i].t,.int .i64 l[i].w,.int .i64 l[i].k],.fp [.int .i64 n]]=some (.bool (dg n l[i])):=if_pos hn
  have b1:=bp i l.length .i64
  rw [decide_eq_true hi] at b1
  have b3:=a9 i (by omega)
  obtain ⟨i1,hi1⟩:∃i1:Nat,i1=i+1:=⟨_,rfl⟩
  rw [<-hi1] at b3 ⊢
  obtain ⟨d,hd⟩:∃d,d=dg n l[i]:=⟨_,rfl⟩
  rw [<-hd] at m ⊢
  cases d with
  | false=>simp [iM,xK,x1,m,frz,b1,b3,-ag,-ai,-aw]
  | true=>simp [iM,xK,x1,m,frz,b1,-ag,-ai,-aw]
 rw [aK _ _ rfl]
 rcases cE (E:=ax GC BI) (fuel:=l.length+1) (a:=iM) (mask:=gZ) (fun i=>kY a (xK n) (.int .i64 (l.length:Int)) (.int .i64 (i:Int))) (fun _=>[]) l.length (fun i=>¬ ∀hi:i<l.length,dg n l[i]=false)
  (oF:=fun i=>.ret [a,xK n,.int .i64 (i:Int),.int .i64 (i:Int),.int .i64 (l.length:Int),.int .i64 (i:Int),.bool true,.bool true] []) (oE:=.exit 0 ((kY a (xK n) (.int .i64 (l.length:Int)) (.int .i64 (l.length:Int))).set 6 (.bool false)) [])
  (fun _=>BX) (fun _ _ _ h=>by cases h) (fun _ _ h=>by cases h)
  (fun i hi hp=>by
   rw [round [] i hi]
   exact if_pos (Classical.not_not.1 hp hi))
  (fun i hi hp=>by
   rw [round [] i hi]
   exact if_neg fun h=>hp fun _=>h)
  (by simp [iM]) (Nat.lt_succ_self _) with ⟨i,hi,hp,hj,lp⟩ | ⟨hp,lp⟩
 ·have lp:bZ (evC (ax GC BI) (l.length+1) iM) gZ (l.length+1) (kY a (xK n) (.int .i64 (l.length:Int)) (.int .i64 0)) []=_:=lp
  have e:cV (dg n) l=(i:Int):=bH hi (by
   cases h:dg n l[i] with
   | true=>rfl
   | false=>exact absurd (fun _=>h) hp) (fun j hj'=>Classical.not_not.1 (hj j hj') (by omega))
  rw [e]
  simp [z9,hl,Bz lp,-ag,-aw]
 ·have lp:bZ (evC (ax GC BI) (l.length+1) iM) gZ (l.length+1) (kY a (xK n) (.int .i64 (l.length:Int)) (.int .i64 0)) []=_:=lp
  have e:cV (dg n) l = -1:=bK fun i hi=>Classical.not_not.1 (hp i hi) hi
  rw [e]
  simp [z9,hl,Bz lp,-ag,-aw]
def M44:aP:=fun args=>match args with
 | [a,.func (.func 96) [] [.fp [.int .i64 n]]]=>if 1<=n/\n<=32 then (cm a).map fun l=>.int .i64 (cV (dg n) l) else none
 | _=>none
theorem wE:an Try.prog GC 103 M44:=by
 refine an.of_ev (E:=ax GC BI) (aq CT) rfl KQ x6 1 ?_
 intro args r h
 unfold M44 at h
 split at h
 ·simp only [Option.ite_none_right_eq_some,Option.map_eq_some_iff] at h
  obtain ⟨hn,l,hl,rfl⟩:=h
  exact ⟨_,ev44 hl hn⟩
 ·cases h
def M33:aP:=fun args=>match args with
 | [a,.func (.func 96) [] [.fp [.int .i64 n]]]=>if 1<=n/\n<=32 then (cm a).map fun l=>.bool (l.any (dg n)) else none
 | _=>none
def Jp:List (FuncId × aG):=[(103,aD 4 M44)]
@[simp] theorem Jo:aC Jp 103=some (aD 4 M44):=rfl
theorem C2:∀f M,aC Jp f=some M->ak Try.prog GC f M:=af (ak.of_pure wE 4) az
theorem io (z:Int):ag .geq (.int .i64 z) (.int .i64 0)=some (.bool (decide (0<=z))):=by simp [ag]
theorem wG:an Try.prog GC 97 M33:=by
 refine an.of_ev (E:=ax GC Jp) (aq C2) rfl KV yb 1 ?_
 intro args r h
 unfold M33 at h
 split at h
 ·rename_i a n
  simp only [Option.ite_none_right_eq_some,Option.map_eq_some_iff] at h
  obtain ⟨hn,l,hl,rfl⟩:=h
  refine ⟨0,?_⟩
  have m:M44 [a,.func (.func 96) [] [.fp [.int .i64 n]]]=some (.int .i64 (cV (dg n) l)):=by
   simp only [M44,hl,Option.map_some]; exact if_pos hn
  have b:=io (cV (dg n) l)
  rw [cf] at b
  have f1:=ew hl
  have f2:=eV hl
  obtain ⟨z,hz⟩:∃z,z=cV (dg n) l:=⟨_,rfl⟩
  rw [<-hz] at m b
  rw [aK _ _ rfl]
  simp [Eu,m,b,f1,f2,frz,-ag]
 ·cases h
def dF (n:Int) (l:List aZ):Prop:=(1<=n/\n<=32)/\l.length<=200/\∀a∈l,okA n a
theorem yU (n:Int) (l:List aZ):l.any (dg n)=false↔∀a∈l,okA n a:=by
 rw [List.any_eq_false]
 unfold dg
 simp
open Classical in
def M16:aP:=fun args=>match args with
 | [.int .i64 n,a]=>(cm a).map fun l=>.bool (decide (dF n l))
 | _=>none
def xE:List (FuncId × aG):=[(88,aD 4 M32),(97,aD 4 M33),(36,aD 4 M32)]
@[simp] theorem Km:aC xE 88=some (aD 4 M32):=rfl
@[simp] theorem Kl:aC xE 97=some (aD 4 M33):=rfl
@[simp] theorem Kk:aC xE 36=some (aD 4 M32):=rfl
theorem sP:∀f M,aC xE f=some M->ak Try.prog GC f M:=af (ak.of_pure q5 4) (af (ak.of_pure wG 4) (af (ak.of_pure nk 4) az))
open Classical in
theorem lq:an Try.prog GC 89 M16:=by
 refine an.of_ev (E:=ax GC xE) (aq sP) rfl G2 sb 1 ?_
 intro args r h
 unfold M16 at h
 split at h
 ·rename_i n a
  simp only [Option.map_eq_some_iff] at h
  obtain ⟨l,hl,rfl⟩:=h
  refine ⟨0,?_⟩
  have m1:=ky n 1 32
  have hlen:=(kO hl).1
  have f1:=ew hl
  have f2:=eV hl
  have b1:ag .leq (.int .i64 (l.length:Int)) (.int .i64 200)=some (.bool (decide (l.length<=200))):=by simp [ag]; omega
  rw [aK _ _ rfl]
  by_cases h1:1<=n/\n<=32
  rotate_left
  ·rw [decide_eq_false h1] at m1
   rw [decide_eq_false (show ¬ dF n l from fun h=>h1 h.1)]
   simp [pF,m1,-ag,-aw]
  rw [decide_eq_true h1] at m1
  by_cases h2:l.length<=200
  rotate_left
  ·rw [decide_eq_false h2] at b1
   rw [decide_eq_false (show ¬ dF n l from fun h=>h2 h.2.1)]
   simp [pF,m1,hlen,b1,-ag,-aw]
  rw [decide_eq_true h2] at b1
  have m2:M33 [a,.func (.func 96) [] [.fp [.int .i64 n]]]=some (.bool (l.any (dg n))):=by
   simp only [M33,hl,Option.map_some]; exact if_pos h1
  have e:decide (dF n l)=!(l.any (dg n)):=by
   rw [Bool.eq_iff_iff,decide_eq_true_eq,Bool.not_eq_true',yU]
   exact ⟨fun h=>h.2.2,fun h=>⟨h1,h2,h⟩⟩
  rw [e]
  obtain ⟨d,hd⟩:∃d,d=l.any (dg n):=⟨_,rfl⟩
  rw [<-hd] at m2 ⊢
  simp [pF,m1,m2,hlen,b1,f1,f2,frz,-ag,-aw]
 ·cases h
def ce (n:Int) (l:List aZ) (p:Int):Prop:=dF n l/\cn p
def aZ.len (a:aZ) (p:Int):Int:=a.w-p*a.k
theorem gE {n p:Int} {a:aZ} (h:okA n a) (hp:cn p) : -3000000<=a.len p/\a.len p<=3000000 /\ -2000000<=p*a.k/\p*a.k<=2000000:=by
 obtain ⟨_,_,h3,h4⟩:=h
 unfold cn at hp
 unfold aZ.len
 have h5:a.k = -2\/a.k = -1\/a.k=0\/a.k=1\/a.k=2:=by omega
 rcases h5 with h | h | h | h | h <;> rw [h] <;> omega
open Go
theorem L4 (E:Env) (a n:Int) (ha:inI a) (hn:0<n):evP E 0 FD 1 [.int .i64 a,.int .i64 n]=some (.int .i64 (pick a n)):=by
 have h3:n≠0:=by omega
 rw [aK _ _ rfl]
 by_cases h:a<0
 ·have h1:IntKind.i64.wrap (a+1)=a+1:=dQ (by unfold inI at *; omega)
  have h2:IntKind.i64.wrap (-(a+1)) = -(a+1):=dQ (by unfold inI at *; omega)
  simp [FD,h,h1,h2,h3,pick]
 ·simp [FD,h,h3,pick]
def M12:aP:=fun args=>match args with
 | [.int .i64 a,.int .i64 n]=>if (-9223372036854775808<=a/\a<=9223372036854775807)/\0<n then some (.int .i64 (pick a n)) else none
 | _=>none
theorem dJ {a n:Int} (ha:inI a) (hn:0<n):M12 [.int .i64 a,.int .i64 n]=some (.int .i64 (pick a n)):=if_pos ⟨ha,hn⟩
theorem A8:an Try.prog GC 21 M12:=by
 refine an.of_ev (E:=ax GC []) (aq az) rfl at12 GR 1 ?_
 intro args r h
 unfold M12 at h
 split at h
 ·simp only [Option.ite_none_right_eq_some,Option.some.injEq] at h
  obtain ⟨⟨h1,h2⟩,rfl⟩:=h
  exact ⟨0,L4 _ _ _ h1 h2⟩
 ·cases h
open Go
abbrev eE:=aZ × Nat
def num (l:List aZ):List eE:=l.zipIdx
def wA (p:Int) (x:eE):AV:=.agg [.int .i64 x.1.f,.int .i64 x.1.t,.int .i64 x.1.w,.int .i64 x.1.k,.int .i64 (x.2:Int),.int .i64 (x.1.len p)]
def lY (l:List aZ) (v:Nat):List eE:=(num l).filter fun x=>decide (x.1.f=(v:Int))
def wAs (p:Int) (l:List eE):List AV:=l.map (wA p)
theorem ut (l:List aZ) (i:Nat) (hi:i<l.length):num (l.take (i+1))=num (l.take i)++[(l[i],i)]:=by
 unfold num
 rw [List.take_succ_eq_append_getElem hi,List.zipIdx_append]
 simp
 omega
theorem iZ (l:List aZ):(num l).length=l.length:=by simp [num]
theorem eY (l:List aZ) (i:Nat) (hi:i<l.length):(num l)[i]?=some (l[i],i):=by
 simp [num,hi]
theorem kD {l:List aZ} {x:eE} (h:x∈num l):∃hi:x.2<l.length,l[x.2]=x.1:=by
 obtain ⟨i,hi,rfl⟩:=List.mem_iff_getElem.1 h
 rw [iZ] at hi
 have:=eY l i hi
 have h2:(num l)[i]'(by rw [iZ]; exact hi)=(l[i],i):=by
  rw [List.getElem?_eq_getElem (by rw [iZ]; exact hi)] at this
  exact Option.some.inj this
 rw [h2]
 exact ⟨hi,rfl⟩
theorem w5 (l:List aZ) (i v:Nat) (hi:i<l.length):lY (l.take (i+1)) v=if l[i].f=(v:Int) then lY (l.take i) v++[(l[i],i)] else lY (l.take i) v:=by
 unfold lY
 rw [ut l i hi,List.filter_append]
 by_cases h:l[i].f=(v:Int) <;> simp [h]
theorem um (l:List aZ) (v:Nat):(lY l v).length<=l.length:=by
 unfold lY
 have:=List.length_filter_le (fun x:eE=>decide (x.1.f=(v:Int))) (num l)
 rw [iZ] at this
 exact this
def qP (A:aa) (s:AV) (xs:List AV):Prop:=(s=.nilS/\xs=[])\/∃id gr,s=.sl id 0 xs.length/\xs≠[]/\2<=id/\A[id]?=some (.row 6 gr xs)
theorem qP.keep {A B:aa} {s:AV} {xs:List AV} (h:qP A s xs) (hAB:∀id,id∈aT s->B[id]?=A[id]?):qP B s xs:=by
 rcases h with h | ⟨id,gr,rfl,h1,h2,h3⟩
 ·exact .inl h
 ·exact .inr ⟨id,gr,rfl,h1,h2,by rw [hAB id (by simp [aT]),h3]⟩
theorem qP.low {A:aa} {s:AV} {xs:List AV} (h:qP A s xs):∀id,id∈aT s->2<=id/\id<A.length:=by
 rcases h with ⟨rfl,_⟩ | ⟨id,gr,rfl,h1,h2,h3⟩
 ·intro id h; simp [aT] at h
 ·intro j hj
  simp only [aT,List.mem_singleton] at hj
  subst hj
  exact ⟨h2,(List.getElem?_eq_some_iff.1 h3).1⟩
theorem qP.append {A:aa} {s:AV} {xs:List AV} (h:qP A s xs) (x:AV) (hA:2<=A.length) (hl:xs.length<=1000) :
  ∃s' k A',aN 6 48 A s (.fs 6 [x])=some (.sl s' 0 k,A')/\qP A' (.sl s' 0 k) (xs++[x])/\A.length<=A'.length/\(∀j,j<A.length->j ∉ aT s->A'[j]?=A[j]?)/\(s'∈aT s\/s'=A.length):=by
 rcases h with ⟨rfl,rfl⟩ | ⟨id,gr,rfl,h1,h2,h3⟩
 ·refine ⟨A.length,1,A++[.row 6 false [x]],by simp [aN,aO],.inr ⟨A.length,false,rfl,by simp,hA,by simp⟩,by simp,fun j hj _=>by rw [List.getElem?_append_left hj],.inr rfl⟩
 ·have hid:=(List.getElem?_eq_some_iff.1 h3).1
  refine ⟨id,(xs++[x]).length,A.set id (.row 6 true (xs++[x])),?_,.inr ⟨id,true,rfl,by simp,h2,by simp [hid]⟩,by simp,fun j hj hn=>?_,.inl (by simp [aT])⟩
  ·simp only [aN,aO,h3]
   simp [h1]
   omega
  ·rw [List.getElem?_set_ne (fun e=>hn (by simp [aT,e]))]
theorem BJ (A:aa) (p:Int) (x:eE) (n:Nat):frz A (n+1) (wA p x)=wA p x:=by
 cases n <;> simp [frz,wA]
theorem qP.frz {A:aa} {s:AV} {p:Int} {l:List eE} (h:qP A s (wAs p l)) (n:Nat):frz A (n+2) s=slA 6 (wAs p l):=by
 have e:(wAs p l).map (Proofs.Ytkcjhljbgjpklaa.frz A (n+1))=wAs p l:=by
  unfold wAs
  rw [List.map_map]
  apply List.map_congr_left
  intro x _
  exact BJ A p x n
 rcases h with ⟨rfl,h⟩ | ⟨id,gr,rfl,h1,h2,h3⟩
 ·rw [h]; rfl
 ·show Proofs.Ytkcjhljbgjpklaa.frz A (n+1+1) _=_
  simp only [Proofs.Ytkcjhljbgjpklaa.frz,h3]
  rw [List.drop_zero,List.take_of_length_le (Nat.le_refl _),e]
  cases hw:wAs p l with
  | nil=>exact absurd hw h1
  | cons y r=>rfl
theorem Av (A:aa) (p:Int) (x:eE) (n:Nat):a8 A (n+1) (wA p x)=true:=by
 cases n <;> simp [a8,wA]
theorem qP.fresh {A:aa} {s:AV} {p:Int} {l:List eE} (h:qP A s (wAs p l)) (n:Nat):a8 A (n+2) s=true:=by
 rcases h with ⟨rfl,h⟩ | ⟨id,gr,rfl,h1,h2,h3⟩
 ·rfl
 ·show a8 A (n+1+1) _=_
  simp only [a8,h3]
  rw [List.drop_zero,List.take_of_length_le (Nat.le_refl _),List.all_eq_true]
  intro y hy
  obtain ⟨x,_,rfl⟩:=List.mem_map.1 hy
  exact Av A p x n
def Lt:MC:=.region [⟨none,.mv (.var 12),none⟩,⟨none,.indexSl 4 (.var 10) (.var 12),none⟩,⟨none,.load true 4 (.tmp 1),none⟩,⟨some 7,.alloc 4 (.agg [.int .i64 0,.int .i64 0,.int .i64 0,.int .i64 0]),none⟩,⟨some 6,.mv (.tmp 0),none⟩,⟨none,.store 4 (.var 7) (.tmp 2),none⟩]
def Ls:MC:=.region [⟨none,.load true 4 (.var 7),none⟩,⟨none,.mv (.var 6),none⟩,⟨none,.fieldAddr 2 (.var 7),none⟩,⟨none,.load false 1 (.tmp 2),none⟩,⟨none,.mv (.var 2),none⟩,⟨none,.fieldAddr 3 (.var 7),none⟩,⟨none,.load false 1 (.tmp 5),none⟩,⟨none,.bin .mul (.tmp 4) (.tmp 6),none⟩,⟨none,.bin .sub (.tmp 3) (.tmp 7),none⟩,⟨none,.build [.int .i64 0,.int .i64 0,.int .i64 0,.int .i64 0,.int .i64 0,.int .i64 0] [(0,(4,.tmp 0)),(4,(1,.tmp 1)),(5,(1,.tmp 8))],none⟩,⟨some 8,.alloc 6 (.agg [.int .i64 0,.int .i64 0,.int .i64 0,.int .i64 0,.int .i64 0,.int .i64 0]),none⟩,⟨none,.store 6 (.var 8) (.tmp 9),none⟩]
def Lr:MC:=.region [⟨none,.mv (.var 5),none⟩,⟨none,.mv (.var 5),none⟩,⟨none,.nilCheck (.tmp 1),none⟩,⟨none,.fieldAddr 1 (.tmp 2),none⟩,⟨none,.load false 1 (.tmp 3),none⟩,⟨none,.load true 6 (.var 8),none⟩,⟨none,.buildF 6 [.tmp 5],none⟩,⟨none,.append 6 48 (.tmp 4) (.tmp 6),none⟩,⟨none,.nilCheck (.tmp 0),none⟩,⟨none,.fieldAddr 1 (.tmp 8),none⟩,⟨none,.store 1 (.tmp 9) (.tmp 7),none⟩]
def Ic:MC:=.regionD [] [⟨none,.mv (.var 5),none⟩,⟨none,.nilCheck (.tmp 0),none⟩,⟨none,.fieldAddr 2 (.tmp 1),none⟩,⟨none,.load false 1 (.tmp 2),none⟩,⟨none,.fieldAddr 0 (.var 7),none⟩,⟨none,.load false 1 (.tmp 4),none⟩,⟨none,.mv (.var 5),none⟩,⟨none,.nilCheck (.tmp 6),none⟩,⟨none,.fieldAddr 2 (.tmp 7),none⟩,⟨none,.load false 1 (.tmp 8),none⟩,⟨none,.fieldAddr 0 (.var 7),none⟩,⟨none,.load false 1 (.tmp 10),none⟩,⟨none,.indexSl 1 (.tmp 9) (.tmp 11),none⟩,⟨none,.load false 1 (.tmp 12),none⟩,⟨none,.load true 6 (.var 8),none⟩,⟨none,.buildF 6 [.tmp 14],none⟩,⟨none,.append 6 48 (.tmp 13) (.tmp 15),none⟩,⟨none,.indexSl 1 (.tmp 3) (.tmp 5),none⟩,⟨none,.store 1 (.tmp 17) (.tmp 16),none⟩] [(2,16),(3,16),(4,16),(5,16)]
theorem He:lE=.seq (.region [⟨some 13,.bin .lss (.var 12) (.var 11),none⟩]) (.seq (.cond (.var 13) .skip (.exit 0)) (.seq (.seq (.block 1 (.seq Lt (.seq Ls (.seq Lr Ic)))) (.kill [0,1,3,4,6,7,8,9,13])) (.region [⟨none,.bin .add (.var 12) (.cst (.int .i64 1)),none⟩,⟨some 12,.mv (.tmp 0),none⟩]))):=rfl
theorem Iq (E:Env) (fuel:Nat) (K:List KC) (A:aa) {a:AV} {l:List aZ} (ha:cm a=some l) {p:Int} (hp:cn p) {i:Nat} (hi:i<l.length) (hv:okA 32 l[i]) (w v13:AV) (X:MC) :
  run E fuel (.code Lt :: .code (.seq Ls X) :: K) [.undef,.undef,.int .i64 p,.undef,.undef,w,.undef,.undef,.undef,.undef,a,.int .i64 (l.length:Int),.int .i64 (i:Int),v13] A =
   run E fuel (.code X :: K) [.undef,.undef,.int .i64 p,.undef,.undef,w,.int .i64 (i:Int),.ptr A.length 0 0,.ptr (A.length+1) 0 0,.undef,a,.int .i64 (l.length:Int),.int .i64 (i:Int),v13] (A++[.row 4 false [cA l[i]],.row 6 false [wA p (l[i],i)]]):=by
 have x1:=sg ha hi A .i64
 obtain ⟨k1,k2,k3,k4⟩:=gE hv hp
 obtain ⟨_,_,h3,h4⟩:=hv
 have b1:ag .mul (.int .i64 p) (.int .i64 l[i].k)=some (.int .i64 (p*l[i].k)):=by
  simp only [ag]; rw [if_pos trivial,dQ (by unfold inI; omega)]
 have b2:ag .sub (.int .i64 l[i].w) (.int .i64 (p*l[i].k))=some (.int .i64 (l[i].len p)):=by
  simp only [ag]; rw [if_pos trivial,dQ (by unfold aZ.len at k1 k2; unfold inI; omega)]; rfl
 unfold cA wA
 simp only []
 obtain ⟨pk,hpk⟩:∃pk,pk=p*l[i].k:=⟨_,rfl⟩
 rw [<-hpk] at b1 b2
 simp [Lt,Ls,x1,b1,b2,-ag,-ai]
theorem r25c (E:Env) (fuel:Nat) (K:List KC) {B B2:aa} {v2 v6 v7 v10 v11 v12 v13 n va os:AV} {i8 j k:Nat} {c1 c2 c3 c4 c5 c6:Int}
  (h1:B[1]?=some (.row 3 false [.agg [n,va,os]])) (h8:B[i8]?=some (.row 6 false [.agg [.int .i64 c1,.int .i64 c2,.int .i64 c3,.int .i64 c4,.int .i64 c5,.int .i64 c6]])) (ap:aN 6 48 B va (.fs 6 [.agg [.int .i64 c1,.int .i64 c2,.int .i64 c3,.int .i64 c4,.int .i64 c5,.int .i64 c6]])=some (.sl j 0 k,B2)) (h1':B2[1]?=some (.row 3 false [.agg [n,va,os]])) :
  run E fuel (.code Lr :: K) [.undef,.undef,v2,.undef,.undef,.ptr 1 0 0,v6,v7,.ptr i8 0 0,.undef,v10,v11,v12,v13] B =
   run E fuel K [.undef,.undef,v2,.undef,.undef,.ptr 1 0 0,v6,v7,.ptr i8 0 0,.undef,v10,v11,v12,v13] (B2.set 1 (.row 3 false [.agg [n,.sl j 0 k,os]])):=by
 simp [Lr,h1,h8,ap,h1']
theorem r25d (E:Env) (fuel:Nat) (K:List KC) {B B2:aa} {v2 v6 v10 v11 v12 v13 n va o:AV} {i7 i8 f m j k:Nat} {os:List AV} {a:aZ} {c1 c2 c3 c4 c5 c6:Int}
  (h1:B[1]?=some (.row 3 false [.agg [n,va,.sl 0 0 m]])) (h7:B[i7]?=some (.row 4 false [cA a])) (h8:B[i8]?=some (.row 6 false [.agg [.int .i64 c1,.int .i64 c2,.int .i64 c3,.int .i64 c4,.int .i64 c5,.int .i64 c6]])) (haf:a.f=(f:Int)) (hfm:f<m)
  (h0:B[0]?=some (.row 1 false os)) (ho:os[f]?=some o) (hs:o=.nilS\/∃i k,o=.sl i 0 k)
  (ap:aN 6 48 B o (.fs 6 [.agg [.int .i64 c1,.int .i64 c2,.int .i64 c3,.int .i64 c4,.int .i64 c5,.int .i64 c6]])=some (.sl j 0 k,B2)) (h0':B2[0]?=some (.row 1 false os)) (hid:∀j∈aT o,j≠1/\j≠i7) (hB1:B.length≠1) (hB7:B.length≠i7) :
  run E fuel (.code Ic :: K) [.undef,.undef,v2,.undef,.undef,.ptr 1 0 0,v6,.ptr i7 0 0,.ptr i8 0 0,.undef,v10,v11,v12,v13] B =
   run E fuel K [.undef,.undef,v2,.undef,.undef,.ptr 1 0 0,v6,.ptr i7 0 0,.ptr i8 0 0,.undef,v10,v11,v12,v13] (B2.set 0 (.row 1 false (os.set f (.sl j 0 k)))):=by
 have hB1':¬ 1=B.length:=fun e=>hB1 e.symm
 have hB7':¬ i7=B.length:=fun e=>hB7 e.symm
 simp only [cA,haf] at h7
 rcases hs with rfl | ⟨i,q,rfl⟩
 ·simp [Ic,h1,h7,h8,h0,ho,ap,h0',hB1',hB7',hfm]
 ·obtain ⟨hi1,hi7⟩:=hid i (by simp [aT])
  have hi1':¬ 1=i:=fun e=>hi1 e.symm
  have hi7':¬ i7=i:=fun e=>hi7 e.symm
  simp [Ic,h1,h7,h8,h0,ho,ap,h0',hB1',hB7',hfm,hi1',hi7']
def yZ (n:Nat) (p:Int) (l:List aZ) (i:Nat) (A:aa):Prop:=∃(va:AV) (os:List AV),A[0]?=some (.row 1 false os)/\A[1]?=some (.row 3 false [.agg [.int .i64 (n:Int),va,.sl 0 0 n]])/\os.length=n/\qP A va (wAs p (num (l.take i))) /\
 (∀(v:Nat) (o:AV),os[v]?=some o->qP A o (wAs p (lY (l.take i) v)))/\(∀(v:Nat) (o:AV) (j:Nat),os[v]?=some o->j∈aT o->j ∉ aT va)/\(∀(u v:Nat) (o q:AV) (j:Nat),u≠v->os[u]?=some o->os[v]?=some q->j∈aT o->j ∉ aT q)
theorem nF {z:Int} {n:Int} (h:0<=z/\z<=n-1):∃m:Nat,z=(m:Int)/\(m:Int)<n:=⟨z.toNat,by omega,by omega⟩
theorem qP.form2 {A:aa} {s:AV} {xs:List AV} (h:qP A s xs):s=.nilS\/∃i k,s=.sl i 0 k:=by
 rcases h with ⟨rfl,_⟩ | ⟨id,gr,rfl,_⟩
 ·exact .inl rfl
 ·exact .inr ⟨_,_,rfl⟩
theorem Dp (E:Env) (fuel:Nat) (A:aa) {a:AV} {l:List aZ} (ha:cm a=some l) {p:Int} (hp:cn p) {n:Nat} (hn:n<=32) (hl200:l.length<=200) (hv:∀x∈l,okA n x) {i:Nat} (hi:i<l.length) (hI:yZ n p l i A) :
  ∃A',run E fuel [.code lE] (kZ (.int .i64 p) (.ptr 1 0 0) a (.int .i64 (l.length:Int)) (.int .i64 (i:Int))) A=some (.normal (kZ (.int .i64 p) (.ptr 1 0 0) a (.int .i64 (l.length:Int)) (.int .i64 ((i+1:Nat):Int))) A')/\yZ n p l (i+1) A':=by
 obtain ⟨va,os,g0,g1,hos,gs,go,gd1,gd2⟩:=hI
 have hmem:=hv _ (List.getElem_mem hi)
 obtain ⟨f,hf,hfn⟩:=nF hmem.1
 have hv32:okA 32 l[i]:=by
  obtain ⟨h1,h2,h3,h4⟩:=hmem
  exact ⟨by omega,by omega,h3,h4⟩
 have hA2:2<=A.length:=(List.getElem?_eq_some_iff.1 g1).1
 obtain ⟨B,hB⟩:∃B,B=A++[.row 4 false [cA l[i]],.row 6 false [wA p (l[i],i)]]:=⟨_,rfl⟩
 have hAB:∀id,id<A.length->B[id]?=A[id]?:=fun id hid=>by rw [hB,List.getElem?_append_left hid]
 have h7:B[A.length]?=some (.row 4 false [cA l[i]]):=by rw [hB]; simp
 have h8:B[A.length+1]?=some (.row 6 false [wA p (l[i],i)]):=by rw [hB,List.getElem?_append_right (by omega)]; simp
 have hBl:B.length=A.length+2:=by rw [hB]; simp
 have k0:=(hAB 0 (by omega)).trans g0
 have k1:=(hAB 1 (by omega)).trans g1
 have gsB:qP B va (wAs p (num (l.take i))):=gs.keep fun id h=>hAB id (gs.low id h).2
 have hnl:(wAs p (num (l.take i))).length<=1000:=by simp [wAs,iZ]; omega
 obtain ⟨ja,ka,B2,ap1,s1,len1,keep1,ids1⟩:=gsB.append (wA p (l[i],i)) (by omega) hnl
 have hva:=gs.low
 have q1:=(keep1 1 (by omega) fun h=>by have:=(hva 1 h).1; omega).trans k1
 obtain ⟨B3,hB3⟩:∃B3,B3=B2.set 1 (.row 3 false [.agg [.int .i64 (n:Int),(.sl ja 0 ka),.sl 0 0 n]]):=⟨_,rfl⟩
 have hB3l:B3.length=B2.length:=by rw [hB3]; simp
 have c1:B3[1]?=some (.row 3 false [.agg [.int .i64 (n:Int),(.sl ja 0 ka),.sl 0 0 n]]):=by rw [hB3]; exact List.getElem?_set_self (by omega)
 have hB23:∀id,id≠1->B3[id]?=B2[id]?:=fun id h=>by rw [hB3,List.getElem?_set_ne (Ne.symm h)]
 have c0:=((hB23 0 (by omega)).trans (keep1 0 (by omega) fun h=>by have:=(hva 0 h).1; omega)).trans k0
 have c7:=((hB23 A.length (by omega)).trans (keep1 A.length (by omega) fun h=>by have:=(hva _ h).2; omega)).trans h7
 have c8:=((hB23 (A.length+1) (by omega)).trans (keep1 (A.length+1) (by omega) fun h=>by have:=(hva _ h).2; omega)).trans h8
 have s1':qP B3 (.sl ja 0 ka) (wAs p (num (l.take i))++[wA p (l[i],i)]):=s1.keep fun id h=>hB23 id (by have:=(s1.low id h).1; omega)
 obtain ⟨o,ho⟩:∃o,os[f]?=some o:=⟨os[f]'(by omega),List.getElem?_eq_getElem _⟩
 have keepO:∀v q,os[v]?=some q->qP B3 q (wAs p (lY (l.take i) v)):=fun v q hq=>(go v q hq).keep fun id h=>by
  have:=(go v q hq).low id h
  rw [hB23 id (by omega),keep1 id (by omega) (gd1 v q id hq h),hAB id this.2]
 have so:=keepO f o ho
 have hol:(wAs p (lY (l.take i) f)).length<=1000:=by
  have:=um (l.take i) f
  simp only [wAs,List.length_map]
  simp at this; omega
 obtain ⟨jo,ko,B4,ap2,s2,len2,keep2,ids2⟩:=so.append (wA p (l[i],i)) (by omega) hol
 have hoi:=(go f o ho).low
 have d0:=(keep2 0 (by omega) fun h=>by have:=(hoi 0 h).1; omega).trans c0
 obtain ⟨B5,hB5⟩:∃B5,B5=B4.set 0 (.row 1 false (os.set f (.sl jo 0 ko))):=⟨_,rfl⟩
 have hB45:∀id,id≠0->B5[id]?=B4[id]?:=fun id h=>by rw [hB5,List.getElem?_set_ne (Ne.symm h)]
 have ids1':∀x,x∈aT (.sl ja 0 ka)->x∈aT va\/x=B.length:=fun x hx=>by
  simp only [aT,List.mem_singleton] at hx
  rw [hx]; exact ids1
 have ids2':∀x,x∈aT (.sl jo 0 ko)->x∈aT o\/x=B3.length:=fun x hx=>by
  simp only [aT,List.mem_singleton] at hx
  rw [hx]; exact ids2
 refine ⟨B5,?_,.sl ja 0 ka,os.set f (.sl jo 0 ko),?_,?_,?_,?_,?_,?_,?_⟩
 ·have r1:=fun K X=>Iq E fuel K A ha hp hi hv32 (.ptr 1 0 0) (.bool true) X
  rw [<-hB] at r1
  have r2:=fun K=>r25c E fuel K (B:=B) (B2:=B2) (v2:=.int .i64 p) (v6:=.int .i64 (i:Int)) (v7:=.ptr A.length 0 0) (v10:=a) (v11:=.int .i64 (l.length:Int)) (v12:=.int .i64 (i:Int)) (v13:=.bool true) (n:=.int .i64 (n:Int)) (va:=va) (j:=ja) (k:=ka) (os:=.sl 0 0 n) (i8:=A.length+1) k1 h8 ap1 q1
  rw [<-hB3] at r2
  have r3:=fun K=>r25d E fuel K (B:=B3) (B2:=B4) (v2:=.int .i64 p) (v6:=.int .i64 (i:Int)) (i7:=A.length) (v10:=a) (v11:=.int .i64 (l.length:Int)) (v12:=.int .i64 (i:Int)) (v13:=.bool true) (n:=.int .i64 (n:Int)) (va:=.sl ja 0 ka) (o:=o) (j:=jo) (k:=ko) (os:=os) (m:=n) (f:=f) (a:=l[i]) (i8:=A.length+1) c1 c7 c8 hf (by omega) c0 ho so.form2 ap2 d0 (fun j hj=>⟨by have:=(hoi j hj).1; omega,by have:=(hoi j hj).2; omega⟩) (by omega) (by omega)
  rw [<-hB5] at r3
  have b1:=bp i l.length .i64
  rw [decide_eq_true hi] at b1
  have b3:=a9 i (by omega)
  obtain ⟨i1,hi1⟩:∃i1:Nat,i1=i+1:=⟨_,rfl⟩
  rw [<-hi1] at b3 ⊢
  rw [He]
  simp [b1,b3,r1,r2,r3,-ag]
 ·rw [hB5]; exact List.getElem?_set_self (by omega)
 ·rw [hB45 1 (by omega),keep2 1 (by omega) fun h=>by have:=(hoi 1 h).1; omega]
  exact c1
 ·simp [hos]
 ·rw [ut l i hi,show wAs p (num (l.take i)++[(l[i],i)])=wAs p (num (l.take i))++[wA p (l[i],i)] by simp [wAs]]
  refine s1'.keep fun id h=>?_
  have h1:=s1'.low id h
  rw [hB45 id (by omega),keep2 id h1.2 fun h2=>?_]
  rcases ids1' id h with h3 | h3
  ·exact gd1 f o id ho h2 h3
  ·have:=(hoi id h2).2; omega
 ·intro v q hq
  rw [w5 l i v hi]
  by_cases hvf:v=f
  ·subst hvf
   rw [List.getElem?_set_self (by omega)] at hq
   injection hq with hq; subst hq
   rw [if_pos hf,show wAs p (lY (l.take i) v++[(l[i],i)])=wAs p (lY (l.take i) v)++[wA p (l[i],i)] by simp [wAs]]
   exact s2.keep fun id h=>hB45 id (by have:=(s2.low id h).1; omega)
  ·rw [List.getElem?_set_ne (Ne.symm hvf)] at hq
   rw [if_neg (by rw [hf]; omega)]
   refine (keepO v q hq).keep fun id h=>?_
   have h1:=(keepO v q hq).low id h
   rw [hB45 id (by omega),keep2 id h1.2 (gd2 v f q o id hvf hq ho h)]
 ·intro v q j hq hj hj2
  have hnew:j∈aT va\/j=B.length:=ids1' j hj2
  by_cases hvf:v=f
  ·subst hvf
   rw [List.getElem?_set_self (by omega)] at hq
   injection hq with hq; subst hq
   have h5:=(s1.low j hj2).2
   rcases ids2' j hj with h3 | h3
   ·have:=(hoi j h3).2
    rcases hnew with h4 | h4
    ·exact gd1 v o j ho h3 h4
    ·omega
   ·omega
  ·rw [List.getElem?_set_ne (Ne.symm hvf)] at hq
   have:=((go v q hq).low j hj).2
   rcases hnew with h4 | h4
   ·exact gd1 v q j hq hj h4
   ·omega
 ·intro u v q r j huv hq hr hj hj2
  by_cases huf:u=f
  ·subst huf
   rw [List.getElem?_set_self (by omega)] at hq
   injection hq with hq; subst hq
   rw [List.getElem?_set_ne huv] at hr
   have:=((go v r hr).low j hj2).2
   rcases ids2' j hj with h3 | h3
   ·exact gd2 u v o r j huv ho hr h3 hj2
   ·omega
  ·rw [List.getElem?_set_ne (Ne.symm huf)] at hq
   have:=((go u q hq).low j hj).2
   by_cases hvf:v=f
   ·subst hvf
    rw [List.getElem?_set_self (by omega)] at hr
    injection hr with hr; subst hr
    rcases ids2' j hj2 with h3 | h3
    ·exact gd2 u v q o j huv hq ho hj h3
    ·omega
   ·rw [List.getElem?_set_ne (Ne.symm hvf)] at hr
    exact gd2 u v q r j huv hq hr hj hj2
theorem aM (A:aa) (n:Nat) (k:IntKind) (z:Int):frz A n (.int k z)=.int k z:=by cases n <;> rfl
def cJ (n:Nat) (p:Int) (l:List aZ):AV:=.fp [.int .i64 (n:Int),slA 6 (wAs p (num l)),.fs 1 ((List.range n).map fun v=>slA 6 (wAs p (lY l v)))]
theorem yZ.frz {n:Nat} {p:Int} {l:List aZ} {A:aa} (h:yZ n p l l.length A) (k:Nat):Proofs.Ytkcjhljbgjpklaa.frz A (k+4) (.ptr 1 0 0)=cJ n p l:=by
 obtain ⟨va,os,g0,g1,hos,gs,go,_,_⟩:=h
 rw [List.take_length] at gs go
 show Proofs.Ytkcjhljbgjpklaa.frz A (k+3+1) _=_
 simp only [Proofs.Ytkcjhljbgjpklaa.frz,g1,List.getElem?_cons_zero]
 rw [if_pos ⟨rfl,by simp [cellsOf]⟩]
 have e2:Proofs.Ytkcjhljbgjpklaa.frz A (k+3) (.sl 0 0 n)=.fs 1 ((List.range n).map fun v=>slA 6 (wAs p (lY l v))):=by
  show Proofs.Ytkcjhljbgjpklaa.frz A (k+2+1) _=_
  simp only [Proofs.Ytkcjhljbgjpklaa.frz,g0]
  rw [List.drop_zero,List.take_of_length_le (by omega)]
  congr 1
  apply List.ext_getElem (by simp [hos])
  intro v h1 h2
  simp only [List.getElem_map,List.getElem_range]
  exact (go v _ (List.getElem?_eq_getElem (by simpa using h1))).frz k
 simp only [cellsOf,List.drop_zero,List.map_cons,List.map_nil,e2]
 rw [show Proofs.Ytkcjhljbgjpklaa.frz A (k+3) va=slA 6 (wAs p (num l)) from gs.frz (k+1)]
 simp [cJ,Proofs.Ytkcjhljbgjpklaa.frz]
theorem yZ.fresh {n:Nat} {p:Int} {l:List aZ} {A:aa} (h:yZ n p l l.length A) (k:Nat):a8 A (k+4) (.ptr 1 0 0)=true:=by
 obtain ⟨va,os,g0,g1,hos,gs,go,_,_⟩:=h
 rw [List.take_length] at gs go
 have e2:a8 A (k+3) (.sl 0 0 n)=true:=by
  show a8 A (k+2+1) _=_
  simp only [a8,g0]
  rw [List.drop_zero,List.take_of_length_le (by omega),List.all_eq_true]
  intro x hx
  obtain ⟨v,hv,rfl⟩:=List.mem_iff_getElem.1 hx
  exact (go v _ (List.getElem?_eq_getElem hv)).fresh k
 have e1:a8 A (k+3) va=true:=gs.fresh (k+1)
 show a8 A (k+3+1) _=_
 simp only [a8,g1,List.getElem?_cons_zero,cellsOf,AV.solid,List.all_cons,List.all_nil,Bool.and_true,Bool.true_and,List.length_cons,List.length_nil]
 simp only [a8] at e1 e2
 rw [e1,e2]; rfl
theorem FL (E:Env) (fuel:Nat) (A:aa) {a:AV} {l:List aZ} (ha:cm a=some l) {p:Int} (hp:cn p) {n:Nat} (hn:n<=32) (hl200:l.length<=200) (hv:∀x∈l,okA n x) (hI:yZ n p l 0 A) :
  ∃A',yZ n p l l.length A'/\bZ (evC E fuel lE) jL (l.length+1) (kZ (.int .i64 p) (.ptr 1 0 0) a (.int .i64 (l.length:Int)) (.int .i64 0)) A=some (.exit 0 ((kZ (.int .i64 p) (.ptr 1 0 0) a (.int .i64 (l.length:Int)) (.int .i64 (l.length:Int))).set 13 (.bool false)) A'):=by
 obtain ⟨o,h1,A',h2,h3⟩:=fU (E:=E) (fuel:=fuel) (a:=lE) (mask:=jL) (fun k σ A=>∃i,i+k=l.length/\σ=kZ (.int .i64 p) (.ptr 1 0 0) a (.int .i64 (l.length:Int)) (.int .i64 (i:Int))/\yZ n p l i A)
  (fun o=>∃A',yZ n p l l.length A'/\o=.exit 0 ((kZ (.int .i64 p) (.ptr 1 0 0) a (.int .i64 (l.length:Int)) (.int .i64 (l.length:Int))).set 13 (.bool false)) A')
  (by
   rintro k σ A ⟨i,hik,rfl,hI⟩
   rw [B7]
   by_cases hi:i<l.length
   ·obtain ⟨A',h1,h2⟩:=Dp E fuel A ha hp hn hl200 hv hi hI
    exact .inl ⟨_,_,h1,k-1,by omega,i+1,by omega,rfl,h2⟩
   ·obtain rfl:i=l.length:=by omega
    refine .inr ⟨_,?_,?_,A,hI,rfl⟩
    ·simp [lE]
    ·intro _ _ h; cases h)
  (l.length+1) l.length _ A (by omega) ⟨0,by omega,rfl,hI⟩
 exact ⟨A',h2,by rw [<-h3]; exact h1⟩
open Classical in
def M25:aP:=fun args=>match args with
 | [.int .i64 n,a,.int .i64 p]=>(cm a).map fun l=>if ce n l p then .tup [cJ n.toNat p l,.bool true] else .tup [.nilP,.bool false]
 | _=>none
def xC:List (FuncId × aG):=[(89,aD 4 M16),(72,aD 4 M41)]
@[simp] theorem JL:aC xC 89=some (aD 4 M16):=rfl
@[simp] theorem JI:aC xC 72=some (aD 4 M41):=rfl
theorem C3:∀f M,aC xC f=some M->ak Try.prog GC f M:=af (ak.of_pure lq 4) (af (ak.of_pure ni 4) az)
open Classical in
theorem qd:bY Try.prog GC 73 M25:=by
 refine bY.of_ev (E:=ax GC xC) (aq C3) rfl K3 yf 5 ?_
 intro args r h
 unfold M25 at h
 split at h
 ·rename_i n a p
  simp only [Option.map_eq_some_iff] at h
  obtain ⟨l,hl,rfl⟩:=h
  refine ⟨l.length+1,?_⟩
  have m1:M16 [.int .i64 n,a]=some (.bool (decide (dF n l))):=by simp only [M16,hl,Option.map_some]
  have m2:M41 [.int .i64 p]=some (.bool (decide (cn p))):=rfl
  have f1:=ew hl
  have f2:=eV hl
  have hlen:=(kO hl).1
  rw [jj _ _ rfl]
  by_cases h1:dF n l
  rotate_left
  ·rw [if_neg (fun h=>h1 h.1)]
   rw [decide_eq_false h1] at m1
   simp [zp,m1,f1,f2,frz,a8,dK]
  rw [decide_eq_true h1] at m1
  by_cases h2:cn p
  rotate_left
  ·rw [if_neg (fun h=>h2 h.2)]
   rw [decide_eq_false h2] at m2
   simp [zp,m1,m2,f1,f2,frz,a8,dK]
  rw [decide_eq_true h2] at m2
  rw [if_pos ⟨h1,h2⟩]
  obtain ⟨m,rfl⟩:∃m:Nat,n=(m:Int):=⟨n.toNat,by have:=h1.1; omega⟩
  have hm:1<=m/\m<=32:=by have:=h1.1; omega
  have hI:yZ m p l 0 [.row 1 false (List.replicate m .nilS),.row 3 false [.agg [.int .i64 (m:Int),.nilS,.sl 0 0 m]]]:=by
   refine ⟨.nilS,List.replicate m .nilS,rfl,rfl,by simp,.inl ⟨rfl,rfl⟩,fun v o ho=>?_,fun v o j ho hj=>?_,fun u v o q j _ ho _ hj=>?_⟩
   ·rw [List.getElem?_replicate] at ho
    split at ho
    ·injection ho with ho; subst ho
     exact .inl ⟨rfl,rfl⟩
    ·cases ho
   ·simp [aT]
   ·rw [List.getElem?_replicate] at ho
    split at ho
    ·injection ho with ho; subst ho
     simp [aT] at hj
    ·cases ho
  obtain ⟨A',hW,lp⟩:=FL (ax GC xC) (l.length+1) _ hl h2 hm.2 h1.2.1 h1.2.2 hI
  have z1:frz A' 5 (.tup [.ptr 1 0 0,.bool true])=.tup [cJ m p l,.bool true]:=by
   have:=hW.frz 0
   show AV.tup [frz A' 4 (.ptr 1 0 0),frz A' 4 (.bool true)]=_
   rw [this]; rfl
  have z2:a8 A' 5 (.tup [.ptr 1 0 0,.bool true])=true:=by
   have:=hW.fresh 0
   show [AV.ptr 1 0 0,.bool true].all (a8 A' 4)=true
   simp only [List.all_cons,this]; rfl
  have p1:dK [.ptr 1 0 0,.bool true]=.tup [.ptr 1 0 0,.bool true]:=rfl
  have e1:(m:Int).toNat=m:=by omega
  have hm0:¬ m=0:=by omega
  have mk:cg 1 24 .nilS [] (.int .i64 (m:Int)) (.int .i64 (m:Int))=some (.sl 0 0 m,[.row 1 false (List.replicate m .nilS)]):=by
   simp [cg]; omega
  rw [e1]
  simp [zp,m1,m2,f1,f2,hlen,F6 lp,mk,aM,z1,z2,-aw,-cg,-frz]
 ·cases h
open Go
abbrev da:=Nat × Nat × Int
def isW (L:List da):Nat->List da->Nat->Prop
 | u,[],v=>u=v
 | u,a :: r,v=>a∈L/\a.1=u/\isW L a.2.1 r v
def i9:List da->Int
 | []=>0
 | a :: r=>a.2.2+i9 r
def EC:Nat->List da->Nat
 | u,[]=>u
 | _,a :: r=>EC a.2.1 r
section
variable {L:List da}
theorem fR:∀(r s:List da),i9 (r++s)=i9 r+i9 s
 | [],s=>by simp [i9]
 | a :: r,s=>by
  simp only [List.cons_append,i9,fR r s]
  omega
theorem jc:∀ {r s:List da} {u v:Nat},isW L u (r++s) v↔∃m,isW L u r m/\isW L m s v
 | [],s,u,v=>⟨fun h=>⟨u,rfl,h⟩,by rintro ⟨m,rfl,h⟩; exact h⟩
 | a :: r,s,u,v=>by
  simp only [List.cons_append,isW,jc (r:=r) (s:=s)]
  constructor
  ·rintro ⟨h1,h2,m,h3,h4⟩; exact ⟨m,⟨h1,h2,h3⟩,h4⟩
  ·rintro ⟨m,⟨h1,h2,h3⟩,h4⟩; exact ⟨h1,h2,m,h3,h4⟩
theorem nP:∀ {r:List da} {u v:Nat},isW L u r v->EC u r=v
 | [],_,_,h=>h
 | a :: r,_,_,⟨_,_,h⟩=>nP (r:=r) (u:=a.2.1) h
theorem xS {n:Nat} (hL:∀a∈L,a.1<n/\a.2.1<n):∀ {r:List da} {u v:Nat},u<n->isW L u r v->v<n
 | [],_,_,h,e=>e ▸ h
 | _ :: _,_,_,_,⟨h1,_,h3⟩=>xS hL (hL _ h1).2 h3
theorem rj:∀(n:Nat) (s:Nat->Nat),(∀i,i<=n->s i<n)->∃i j,i<j/\j<=n/\s i=s j
 | 0,s,h=>absurd (h 0 (Nat.le_refl _)) (by omega)
 | n+1,s,h=>by
  by_cases hx:∃i,i<=n/\s i=s (n+1)
  ·obtain ⟨i,hi,he⟩:=hx
   exact ⟨i,n+1,by omega,Nat.le_refl _,he⟩
  ·have hx':∀i,i<=n->s i≠s (n+1):=fun i hi he=>hx ⟨i,hi,he⟩
   obtain ⟨i,j,h1,h2,h3⟩:=rj n (fun i=>if s i=n then s (n+1) else s i) (fun i hi=>by
    have a1:=h i (by omega)
    have a2:=h (n+1) (Nat.le_refl _)
    have a3:=hx' i hi
    show (if s i=n then s (n+1) else s i)<n
    split <;> omega)
   refine ⟨i,j,h1,by omega,?_⟩
   have a1:=hx' i (by omega)
   have a2:=hx' j (by omega)
   have h3:(if s i=n then s (n+1) else s i)=(if s j=n then s (n+1) else s j):=h3
   split at h3 <;> split at h3 <;> omega
theorem DI {n:Nat} (hL:∀a∈L,a.1<n/\a.2.1<n) {r:List da} {u v:Nat} (hu:u<n) (h:isW L u r v) (hn:n<=r.length) :
  ∃p c q m,r=p++c++q/\isW L u p m/\isW L m c m/\isW L m q v/\1<=c.length/\c.length<=n:=by
 have key:∀i,i<=r.length->∃m,isW L u (r.take i) m/\isW L m (r.drop i) v:=fun i _=>by
  have h':=h
  rw [<-List.take_append_drop i r] at h'
  exact jc.1 h'
 obtain ⟨i,j,hij,hj,he⟩:=rj n (fun i=>EC u (r.take i)) (fun i hi=>by
  obtain ⟨m,h1,_⟩:=key i (by omega)
  show EC u (r.take i)<n
  rw [nP h1]
  exact xS hL hu h1)
 obtain ⟨m1,a1,b1⟩:=key i (by omega)
 obtain ⟨m2,a2,b2⟩:=key j (by omega)
 have e1:=nP a1
 have e2:=nP a2
 have he:EC u (r.take i)=EC u (r.take j):=he
 have e3:m1=m2:=by rw [<-e1,<-e2,he]
 subst e3
 have hs:r.drop i=(r.drop i).take (j-i)++r.drop j:=by
  conv=>lhs; rw [<-List.take_append_drop (j-i) (r.drop i)]
  rw [List.drop_drop]
  congr 2; omega
 have hs2:r.take j=r.take i++(r.drop i).take (j-i):=by
  have:j=i+(j-i):=by omega
  conv=>lhs; rw [this]
  rw [List.take_add]
 rw [hs2] at a2
 obtain ⟨m,c1,c2⟩:=jc.1 a2
 have e4:m=m1:=by rw [<-nP c1,e1]
 subst e4
 refine ⟨r.take i,(r.drop i).take (j-i),r.drop j,m,?_,a1,c2,b2,?_,?_⟩
 ·rw [List.append_assoc,<-hs,List.take_append_drop]
 ·simp; omega
 ·simp; omega
def zd (L:List da) (n:Nat):Prop:=∀u c,isW L u c u->1<=c.length->c.length<=n->i9 c<=0
theorem Fh {n:Nat} (hL:∀a∈L,a.1<n/\a.2.1<n) (hN:zd L n):∀(k:Nat) (r:List da) (u v:Nat),r.length=k->u<n->isW L u r v->∃r',isW L u r' v/\r'.length<n/\i9 r<=i9 r':=by
 intro k
 induction k using Nat.strongRecOn with
 | ind k ih=>
  intro r u v hk hu h
  by_cases hn:r.length<n
  ·exact ⟨r,h,hn,Int.le_refl _⟩
  ·obtain ⟨p,c,q,m,hr,h1,h2,h3,h4,h5⟩:=DI hL hu h (by omega)
   have hc:=hN m c h2 h4 h5
   obtain ⟨r',k1,k2,k3⟩:=ih (p++q).length (by rw [<-hk,hr]; simp; omega) (p++q) u v rfl hu (jc.2 ⟨m,h1,h3⟩)
   refine ⟨r',k1,k2,?_⟩
   rw [hr,fR,fR]
   rw [fR] at k3
   omega
def js (L:List da) (s:List Int):Prop:=∀a∈L,s.getD a.1 0+a.2.2<=s.getD a.2.1 0
theorem jT {s:List Int} (h:js L s):∀ {r:List da} {u v:Nat},isW L u r v->s.getD u 0+i9 r<=s.getD v 0
 | [],u,v,e=>by rw [show u=v from e]; simp [i9]
 | a :: r,u,v,⟨h1,h2,h3⟩=>by
  have k1:=h a h1
  have k2:=jT h h3
  rw [h2] at k1
  simp only [i9]
  omega
theorem tp {s:List Int} (h:js L s) (n:Nat):zd L n:=fun u c hc _ _=>by
 have:=jT h hc
 omega
def oH (s:List Int) (a:da):List Int:=if s.getD a.1 0+a.2.2 > s.getD a.2.1 0 then s.set a.2.1 (s.getD a.1 0+a.2.2) else s
def jt (L:List da) (s:List Int):List Int:=L.foldl oH s
def upL:List da->List Int->Bool
 | [],_=>false
 | a :: L,s=>decide (s.getD a.1 0+a.2.2 > s.getD a.2.1 0) || upL L (oH s a)
theorem mA (s:List Int) (a:da):(oH s a).length=s.length:=by unfold oH; split <;> simp
theorem en:∀(L:List da) (s:List Int),(jt L s).length=s.length
 | [],_=>rfl
 | a :: L,s=>by
  have:=en L (oH s a)
  simp only [jt,List.foldl_cons] at this ⊢
  rw [this,mA]
theorem As (s:List Int) (i j:Nat) (x:Int) (hi:i<s.length):(s.set i x).getD j 0=if i=j then x else s.getD j 0:=by
 rw [List.getD_eq_getElem?_getD,List.getD_eq_getElem?_getD]
 by_cases h:i=j
 ·subst h
  rw [List.getElem?_set_self hi,if_pos rfl]; rfl
 ·rw [List.getElem?_set_ne h,if_neg h]
theorem ql {s:List Int} {a:da} (ha:a.2.1<s.length) (v:Nat):(oH s a).getD v 0=if a.2.1=v then max (s.getD v 0) (s.getD a.1 0+a.2.2) else s.getD v 0:=by
 unfold oH
 by_cases h:s.getD a.1 0+a.2.2 > s.getD a.2.1 0
 ·rw [if_pos h,As _ _ _ _ ha]
  split
  ·rename_i e
   subst e
   omega
  ·rfl
 ·rw [if_neg h]
  split
  ·rename_i e
   subst e
   omega
  ·rfl
theorem fm:∀ {L:List da} {s:List Int},upL L s=false->jt L s=s/\js L s
 | [],s,_=>⟨rfl,fun a h=>by cases h⟩
 | a :: L,s,h=>by
  simp only [upL,Bool.or_eq_false_iff,decide_eq_false_iff_not] at h
  obtain ⟨h1,h2⟩:=h
  have e:oH s a=s:=by unfold oH; rw [if_neg h1]
  rw [e] at h2
  obtain ⟨k1,k2⟩:=fm h2
  refine ⟨?_,fun b hb=>?_⟩
  ·simp only [jt,List.foldl_cons,e]; exact k1
  ·rcases List.mem_cons.1 hb with rfl | hb
   ·omega
   ·exact k2 b hb
theorem mV:∀ {L:List da} {s:List Int},js L s->upL L s=false
 | [],_,_=>rfl
 | a :: L,s,h=>by
  have h1:=h a (by simp)
  have e:oH s a=s:=by unfold oH; rw [if_neg (by omega)]
  simp only [upL,e,Bool.or_eq_false_iff,decide_eq_false_iff_not]
  exact ⟨by omega,mV fun b hb=>h b (by simp [hb])⟩
theorem s9 {n:Nat}:∀ {L:List da} {s:List Int},s.length=n->(∀a∈L,a.2.1<n)->(∀v,s.getD v 0<=(jt L s).getD v 0)/\∀a∈L,s.getD a.1 0+a.2.2<=(jt L s).getD a.2.1 0
 | [],s,_,_=>⟨fun v=>Int.le_refl _,fun a h=>by cases h⟩
 | a :: L,s,hs,hL=>by
  have ha:=hL a (by simp)
  obtain ⟨k1,k2⟩:=s9 (L:=L) (s:=oH s a) (by rw [mA,hs]) (fun b hb=>hL b (by simp [hb]))
  have e:jt (a :: L) s=jt L (oH s a):=rfl
  rw [e]
  have g:=fun v=>ql (s:=s) (a:=a) (by omega) v
  have g1:∀v,s.getD v 0<=(oH s a).getD v 0:=fun v=>by
   rw [g]; split <;> omega
  refine ⟨fun v=>Int.le_trans (g1 v) (k1 v),fun b hb=>?_⟩
  rcases List.mem_cons.1 hb with rfl | hb
  ·refine Int.le_trans ?_ (k1 _)
   rw [g,if_pos rfl]; omega
  ·have:=k2 b hb
   have h0:=g1 b.1
   omega
def AS (L:List da) (n:Nat) (s:List Int):Prop:=∀v,v<n->∃u r,u<n/\isW L u r v/\i9 r=s.getD v 0
theorem wU {n:Nat} {L:List da} (hL:∀a∈L,a.1<n/\a.2.1<n) {s:List Int} (hs:s.length=n) (hw:AS L n s) {a:da} (ha:a∈L):AS L n (oH s a):=fun v hv=>by
 rw [ql (by have:=(hL a ha).2; omega)]
 by_cases h:a.2.1=v
 ·rw [if_pos h]
  by_cases hm:s.getD a.1 0+a.2.2<=s.getD v 0
  ·obtain ⟨u,r,h1,h2,h3⟩:=hw v hv
   exact ⟨u,r,h1,h2,by omega⟩
  ·obtain ⟨u,r,h1,h2,h3⟩:=hw a.1 (hL a ha).1
   refine ⟨u,r++[a],h1,jc.2 ⟨a.1,h2,ha,rfl,h⟩,?_⟩
   rw [fR,h3]
   simp only [i9]
   omega
 ·rw [if_neg h]; exact hw v hv
theorem nw {n:Nat} {L0:List da} (hL:∀a∈L0,a.1<n/\a.2.1<n):∀ {L:List da} {s:List Int},(∀a∈L,a∈L0)->s.length=n->AS L0 n s->AS L0 n (jt L s)
 | [],_,_,_,h=>h
 | a :: L,s,hs0,hs,hw=>nw hL (L:=L) (s:=oH s a) (fun b hb=>hs0 b (by simp [hb])) (by rw [mA,hs]) (wU hL hs hw (hs0 a (by simp)))
def lev (L:List da):Nat->List Int->List Int × Bool
 | 0,s=>(s,!upL L s)
 | m+1,s=>if upL L s=false then (s,true) else lev L m (jt L s)
def bM (L:List da) (n:Nat):List Int × Bool:=lev L n (List.replicate n 0)
theorem th {n:Nat} {L:List da} (hL:∀a∈L,a.1<n/\a.2.1<n):∀(m:Nat) (s:List Int),s.length=n->AS L n s->(∀v,0<=s.getD v 0) ->
  (lev L m s).1.length=n/\AS L n (lev L m s).1/\(∀v,0<=(lev L m s).1.getD v 0)/\((lev L m s).2=true->js L (lev L m s).1)
 | 0,s,hs,hw,h0=>⟨hs,hw,h0,fun h=>(fm (by simpa [lev] using h)).2⟩
 | m+1,s,hs,hw,h0=>by
  unfold lev
  by_cases h:upL L s=false
  ·rw [if_pos h]
   exact ⟨hs,hw,h0,fun _=>(fm h).2⟩
  ·rw [if_neg h]
   exact th hL m _ (by rw [en,hs]) (nw hL (fun _ h=>h) hs hw) fun v=>Int.le_trans (h0 v) ((s9 hs (fun a ha=>(hL a ha).2)).1 v)
theorem mT (L:List da) (n:Nat):AS L n (List.replicate n 0):=fun v hv=>⟨v,[],hv,rfl,by simp [i9,List.getD_eq_getElem?_getD,hv]⟩
theorem jv (n v:Nat):(List.replicate n (0:Int)).getD v 0=0:=by
 rw [List.getD_eq_getElem?_getD]
 by_cases h:v<n <;> simp [h]
theorem FQ {n:Nat} {L:List da} (hL:∀a∈L,a.1<n/\a.2.1<n) (hN:zd L n):∀(m k:Nat) (s:List Int),m+k=n->s.length=n->AS L n s->(∀v,0<=s.getD v 0)->(∀r u v,isW L u r v->u<n->r.length<=k->i9 r<=s.getD v 0)->(lev L m s).2=true:=by
 intro m
 induction m with
 | zero=>
  intro k s hk hs hw h0 hr
  have:js L s:=fun a ha=>by
   obtain ⟨h1,h2⟩:=hL a ha
   obtain ⟨u,r,k1,k2,k3⟩:=hw a.1 h1
   obtain ⟨r',q1,q2,q3⟩:=Fh hL hN _ (r++[a]) u a.2.1 rfl k1 (jc.2 ⟨a.1,k2,ha,rfl,rfl⟩)
   have:=hr r' u a.2.1 q1 k1 (by omega)
   rw [fR] at q3
   simp only [i9] at q3
   omega
  simp [lev,mV this]
 | succ m ih=>
  intro k s hk hs hw h0 hr
  unfold lev
  by_cases h:upL L s=false
  ·rw [if_pos h]
  ·rw [if_neg h]
   have hge:=s9 hs (fun a ha=>(hL a ha).2)
   refine ih (k+1) _ (by omega) (by rw [en,hs]) (nw hL (fun _ h=>h) hs hw) (fun v=>Int.le_trans (h0 v) (hge.1 v)) fun r u v hw' hu hl=>?_
   by_cases he:r=[]
   ·subst he
    have:u=v:=hw'
    subst this
    exact Int.le_trans (by simpa [i9] using h0 u) (hge.1 u)
   ·obtain ⟨q,a,rfl⟩:∃q a,r=q++[a]:=⟨r.dropLast,r.getLast he,(List.dropLast_concat_getLast he).symm⟩
    obtain ⟨m',k1,k2,k3,k4⟩:=jc.1 hw'
    have e:a.2.1=v:=k4
    subst e
    have h1:=hr q u m' k1 hu (by simp at hl; omega)
    have h2:=hge.2 a k2
    rw [<-k3] at h1
    rw [fR]
    simp only [i9]
    omega
theorem nM {n:Nat} {L:List da} (hL:∀a∈L,a.1<n/\a.2.1<n):(bM L n).2=true↔zd L n:=by
 constructor
 ·intro h
  exact tp ((th hL n _ (by simp) (mT L n) (fun v=>by rw [jv]; exact Int.le_refl _)).2.2.2 h) n
 ·intro h
  refine FQ hL h n 0 _ (by omega) (by simp) (mT L n) (fun v=>by rw [jv]; exact Int.le_refl _) fun r u v hw _ hl=>?_
  have:r=[]:=List.length_eq_zero_iff.1 (by omega)
  subst this
  rw [jv]; simp [i9]
theorem lJ {n:Nat} {L:List da} (hL:∀a∈L,a.1<n/\a.2.1<n):(bM L n).1.length=n/\(∀v,0<=(bM L n).1.getD v 0)/\AS L n (bM L n).1/\((bM L n).2=true->js L (bM L n).1) /\
  ∀x:List Int,js L x->(∀v,v<n->0<=x.getD v 0)->∀v,v<n->(bM L n).1.getD v 0<=x.getD v 0:=by
 obtain ⟨h1,h2,h3,h4⟩:=th hL n _ (by simp) (mT L n) (fun v=>by rw [jv]; exact Int.le_refl _)
 refine ⟨h1,h3,h2,h4,fun x hx h0 v hv=>?_⟩
 obtain ⟨u,r,k1,k2,k3⟩:=h2 v hv
 have:=jT hx k2
 have:=h0 u k1
 unfold bM
 omega
end
open Go
def lar (p:Int) (l:List aZ):List da:=l.map fun a=>(a.f.toNat,a.t.toNat,a.len p)
theorem qc (p:Int) (l:List aZ):(wAs p (num l)).length=l.length:=by simp [wAs,iZ]
theorem EN (p:Int) {l:List aZ} {i:Nat} (hi:i<l.length):(wAs p (num l))[i]?=some (wA p (l[i],i)):=by
 simp [wAs,eY l i hi]
theorem qW (p:Int) {l:List aZ} {i:Nat} (hi:i<l.length) (A:aa) (k:IntKind):ai 6 A (slA 6 (wAs p (num l))) (.int k (i:Int))=some (.fp [.int .i64 l[i].f,.int .i64 l[i].t,.int .i64 l[i].w,.int .i64 l[i].k,.int .i64 (i:Int),.int .i64 (l[i].len p)]):=
 (bb 6 (wAs p (num l))).index (A:=A) (EN p hi) rfl (by omega) k
theorem rH {s:List Int} {i:Nat} (h:i<s.length):(aj s)[i]?=some (.int .i64 (s.getD i 0)):=by
 simp [aj,h]
def Bd (lo hi:Int) (s:List Int):Prop:=∀v,v<s.length->lo<=s.getD v 0/\s.getD v 0<=hi
theorem wV {lo hi:Int} {s:List Int} {a:da} (h:Bd lo hi s) (hf:a.1<s.length) (ht:a.2.1<s.length) (hw:a.2.2<=3000000):Bd lo (hi+3000000) (oH s a):=fun v hv=>by
 rw [mA] at hv
 rw [ql ht]
 have h1:=h v hv
 have h2:=h _ hf
 split <;> omega
theorem xk {p:Int} {l:List aZ} {i:Nat} (hi:i<l.length):(lar p l)[i]?=some (l[i].f.toNat,l[i].t.toNat,l[i].len p):=by simp [lar,hi]
theorem ny {L:List da} {i:Nat} {a:da} (h:L[i]?=some a) (s:List Int):jt (L.take (i+1)) s=oH (jt (L.take i) s) a:=by
 obtain ⟨hi,rfl⟩:=List.getElem?_eq_some_iff.1 h
 unfold jt
 rw [List.take_succ_eq_append_getElem hi,List.foldl_append]
 rfl
theorem tY:∀ {L:List da} {i:Nat} {a:da},L[i]?=some a->∀s,upL (L.take (i+1)) s=(upL (L.take i) s || decide ((jt (L.take i) s).getD a.1 0+a.2.2 > (jt (L.take i) s).getD a.2.1 0))
 | [],i,a,h,s=>by simp at h
 | b :: L,0,a,h,s=>by
  simp at h; subst h
  simp [upL,jt]
 | b :: L,i+1,a,h,s=>by
  simp only [List.getElem?_cons_succ] at h
  have:=tY h (oH s b)
  simp only [List.take_succ_cons,upL,this,Bool.or_assoc]
  rfl
def Lq:MC:=.region [⟨none,.indexSl 6 (.var 5) (.var 7),none⟩,⟨none,.load true 6 (.tmp 0),none⟩,⟨some 3,.alloc 6 (.agg [.int .i64 0,.int .i64 0,.int .i64 0,.int .i64 0,.int .i64 0,.int .i64 0]),none⟩,⟨none,.store 6 (.var 3) (.tmp 1),none⟩]
def Lp:MC:=.region [⟨none,.mv (.var 1),none⟩,⟨none,.fieldAddr 0 (.var 3),none⟩,⟨none,.fieldAddr 0 (.tmp 1),none⟩,⟨none,.load false 1 (.tmp 2),none⟩,⟨none,.indexSl 1 (.tmp 0) (.tmp 3),none⟩,⟨none,.load false 1 (.tmp 4),none⟩,⟨none,.fieldAddr 5 (.var 3),none⟩,⟨none,.load false 1 (.tmp 6),none⟩,⟨none,.bin .add (.tmp 5) (.tmp 7),none⟩,⟨some 4,.mv (.tmp 8),none⟩]
def Lo:MC:=.region [⟨none,.mv (.var 4),none⟩,⟨none,.mv (.var 1),none⟩,⟨none,.fieldAddr 0 (.var 3),none⟩,⟨none,.fieldAddr 1 (.tmp 2),none⟩,⟨none,.load false 1 (.tmp 3),none⟩,⟨none,.indexSl 1 (.tmp 1) (.tmp 4),none⟩,⟨none,.load false 1 (.tmp 5),none⟩,⟨some 9,.bin .gtr (.tmp 0) (.tmp 6),none⟩]
def Ln:MC:=.region [⟨none,.mv (.var 1),none⟩,⟨none,.fieldAddr 0 (.var 3),none⟩,⟨none,.fieldAddr 1 (.tmp 1),none⟩,⟨none,.load false 1 (.tmp 2),none⟩,⟨none,.mv (.var 4),none⟩,⟨none,.indexSl 1 (.tmp 0) (.tmp 3),none⟩,⟨none,.store 1 (.tmp 5) (.tmp 4),none⟩,⟨some 2,.mv (.cst (.bool true)),none⟩]
theorem Cd:nK=.seq (.region [⟨some 8,.bin .lss (.var 7) (.var 6),none⟩]) (.seq (.cond (.var 8) .skip (.exit 0)) (.seq (.seq (.block 1 (.seq Lq (.seq Lp (.seq Lo (.cond (.var 9) Ln .skip))))) (.kill [0,3,4,8,9])) (.region [⟨none,.bin .add (.var 7) (.cst (.int .i64 1)),none⟩,⟨some 7,.mv (.tmp 0),none⟩]))):=rfl
theorem r37a (E:Env) (fuel:Nat) (K:List KC) (A:aa) (X:MC) {p:Int} {l:List aZ} {i:Nat} (hi:i<l.length) (v1 v2 v6 v8:AV) :
  run E fuel (.code (.seq Lq X) :: K) [.undef,v1,v2,.undef,.undef,slA 6 (wAs p (num l)),v6,.int .i64 (i:Int),v8,.undef] A =
   run E fuel (.code X :: K) [.undef,v1,v2,.ptr A.length 0 0,.undef,slA 6 (wAs p (num l)),v6,.int .i64 (i:Int),v8,.undef] (A++[.row 6 false [wA p (l[i],i)]]):=by
 have x1:=qW p hi A .i64
 obtain ⟨W,hW⟩:∃W,W=slA 6 (wAs p (num l)):=⟨_,rfl⟩
 rw [<-hW] at x1 ⊢
 simp [Lq,x1,wA,-ai]
def Cb (A0:aa) (id:Nat) (s:List Int) (A:aa):Prop:=A[id]?=some (.row 1 false (aj s))/\A0.length<=A.length/\∀j,j≠id->j<A0.length->A[j]?=A0[j]?
theorem xo (s:List Int) (i:Nat) (z:Int):(aj s).set i (.int .i64 z)=aj (s.set i z):=by
 unfold aj; rw [List.map_set]
theorem Dn (E:Env) (fuel:Nat) {A0 A:aa} {id n:Nat} {s:List Int} {p:Int} {l:List aZ} (hn:s.length=n) (hp:cn p) (hv:∀x∈l,okA n x) (hn32:n<=32) (hl200:l.length<=200) {i:Nat} (hi:i<l.length) {b:Bool} (hb:Bd (-100000000000000) 100000000000000 s) (_hid:id<A0.length) (hI:Cb A0 id s A) :
  ∃A',run E fuel [.code nK] (m8 (.sl id 0 n) (.bool b) (slA 6 (wAs p (num l))) (.int .i64 (l.length:Int)) (.int .i64 (i:Int))) A=some (.normal (m8 (.sl id 0 n) (.bool (b || decide (s.getD l[i].f.toNat 0+l[i].len p > s.getD l[i].t.toNat 0))) (slA 6 (wAs p (num l))) (.int .i64 (l.length:Int)) (.int .i64 ((i+1:Nat):Int))) A')/\Cb A0 id (oH s (l[i].f.toNat,l[i].t.toNat,l[i].len p)) A':=by
 obtain ⟨g1,g2,g3⟩:=hI
 have hmem:=hv _ (List.getElem_mem hi)
 obtain ⟨f,hf,hfn⟩:=nF hmem.1
 obtain ⟨t,ht,htn⟩:=nF hmem.2.1
 have hv32:okA 32 l[i]:=by
  obtain ⟨h1,h2,h3,h4⟩:=hmem
  exact ⟨by omega,by omega,h3,h4⟩
 obtain ⟨k1,k2,_,_⟩:=gE hv32 hp
 obtain ⟨w,hw⟩:∃w,w=l[i].len p:=⟨_,rfl⟩
 obtain ⟨B,hB⟩:∃B,B=A++[.row 6 false [wA p (l[i],i)]]:=⟨_,rfl⟩
 have r1:=fun K X=>r37a E fuel K A X (p:=p) hi (.sl id 0 n) (.bool b) (.int .i64 (l.length:Int)) (.bool true)
 rw [<-hB] at r1
 have hidA:id<A.length:=(List.getElem?_eq_some_iff.1 g1).1
 have c1:B[id]?=some (.row 1 false (aj s)):=by rw [hB,List.getElem?_append_left hidA]; exact g1
 have c8:B[A.length]?=some (.row 6 false [.agg [.int .i64 (f:Int),.int .i64 (t:Int),.int .i64 l[i].w,.int .i64 l[i].k,.int .i64 (i:Int),.int .i64 w]]):=by
  rw [hB,hw]; simp [wA,hf,ht]
 obtain ⟨i8,hi8⟩:∃i8,i8=A.length:=⟨_,rfl⟩
 rw [<-hi8] at r1 c8
 have hBl:A0.length<=B.length:=by rw [hB]; simp; omega
 have hBo:∀j,j≠id->j<A0.length->B[j]?=A0[j]?:=fun j hj hl=>by rw [hB,List.getElem?_append_left (by omega)]; exact g3 j hj hl
 have ef:=rH (s:=s) (i:=f) (by omega)
 have et:=rH (s:=s) (i:=t) (by omega)
 have bf:=hb f (by omega)
 have bt:=hb t (by omega)
 rw [<-hw] at k1 k2
 have e1:l[i].f.toNat=f:=by omega
 have e2:l[i].t.toNat=t:=by omega
 rw [e1,e2,<-hw]
 obtain ⟨x,hx⟩:∃x,x=s.getD f 0:=⟨_,rfl⟩
 obtain ⟨y,hy⟩:∃y,y=s.getD t 0:=⟨_,rfl⟩
 rw [<-hx] at ef bf ⊢
 rw [<-hy] at et bt ⊢
 have b2:ag .add (.int .i64 x) (.int .i64 w)=some (.int .i64 (x+w)):=by
  simp only [ag]; rw [if_pos trivial,dQ (by unfold inI; omega)]
 have b4:ag .gtr (.int .i64 (x+w)) (.int .i64 y)=some (.bool (decide (x+w > y))):=by simp [ag]
 have b1:=bp i l.length .i64
 rw [decide_eq_true hi] at b1
 have b3:=a9 i (by omega)
 obtain ⟨i1,hi1⟩:∃i1:Nat,i1=i+1:=⟨_,rfl⟩
 rw [<-hi1] at b3 ⊢
 have er:oH s (f,t,w)=if x+w > y then s.set t (x+w) else s:=by unfold oH; rw [hx,hy]
 rw [er]
 obtain ⟨z,hz⟩:∃z,z=x+w:=⟨_,rfl⟩
 rw [<-hz] at b2 b4 ⊢
 obtain ⟨W,hW⟩:∃W,W=slA 6 (wAs p (num l)):=⟨_,rfl⟩
 rw [<-hW] at r1 ⊢
 have hfn':f<n:=by omega
 have htn':t<n:=by omega
 by_cases hc:z > y
 ·rw [if_pos hc]
  rw [decide_eq_true hc] at b4 ⊢
  refine ⟨B.set id (.row 1 false (aj (s.set t z))),?_,?_,?_,?_⟩
  ·rw [<-xo]
   rw [Cd]
   simp [b1,b3,r1,Lp,Lo,Ln,c1,c8,ef,et,b2,b4,hfn',htn',-ag]
  ·exact List.getElem?_set_self (by rw [hB]; simp; omega)
  ·simp; omega
  ·intro j hj hl
   rw [List.getElem?_set_ne (Ne.symm hj)]; exact hBo j hj hl
 ·rw [if_neg hc]
  rw [decide_eq_false hc] at b4 ⊢
  refine ⟨B,?_,c1,hBl,hBo⟩
  rw [Cd]
  simp [b1,b3,r1,Lp,Lo,Ln,c1,c8,ef,et,b2,b4,hfn',htn',-ag]
theorem ev37 {E:Env} {A:aa} {id n:Nat} {s:List Int} {p:Int} {l:List aZ} (hn:s.length=n) (hp:cn p) (hv:∀x∈l,okA n x) (hn32:n<=32) (hl200:l.length<=200) {hi:Int} (hb:Bd (-1000000000000) hi s) (hhi:hi<=1000000000000) (hid:A[id]?=some (.row 1 false (aj s))) :
  ∃A',bR E 300 xc [cJ n p l,.sl id 0 n] A=some (.bool (upL (lar p l) s),A')/\Cb A id (jt (lar p l) s) A':=by
 have hlt:=(List.getElem?_eq_some_iff.1 hid).1
 have hlen:(lar p l).length=l.length:=by simp [lar]
 have bd:∀i,i<=l.length->Bd (-1000000000000) (hi+3000000*i) (jt ((lar p l).take i) s):=by
  intro i
  induction i with
  | zero=>intro _; simpa [jt] using hb
  | succ i ih=>
   intro hi'
   have h1:=ih (by omega)
   have h2:=xk (p:=p) (l:=l) (i:=i) (by omega)
   rw [ny h2]
   have hmem:=hv _ (List.getElem_mem (show i<l.length by omega))
   obtain ⟨q1,q2,q3,q4⟩:=hmem
   have hle:=gE (n:=32) (a:=l[i]) ⟨by omega,by omega,q3,q4⟩ hp
   have:=wV (a:=(l[i].f.toNat,l[i].t.toNat,l[i].len p)) h1 (by rw [en]; simp only; omega) (by rw [en]; simp only; omega) (by simp only; omega)
   intro v hv'
   have:=this v hv'
   omega
 obtain ⟨o,h1,A',h2,h3⟩:=fU (E:=E) (fuel:=300) (a:=nK) (mask:=mE) (fun k σ B=>∃i,i+k=l.length/\σ=m8 (.sl id 0 n) (.bool (upL ((lar p l).take i) s)) (slA 6 (wAs p (num l))) (.int .i64 (l.length:Int)) (.int .i64 (i:Int))/\Cb A id (jt ((lar p l).take i) s) B)
  (fun o=>∃A',Cb A id (jt (lar p l) s) A'/\o=.exit 0 ((m8 (.sl id 0 n) (.bool (upL (lar p l) s)) (slA 6 (wAs p (num l))) (.int .i64 (l.length:Int)) (.int .i64 (l.length:Int))).set 8 (.bool false)) A')
  (by
   rintro k σ B ⟨i,hik,rfl,hI⟩
   rw [BZ]
   by_cases hi':i<l.length
   ·have hb':=bd i (by omega)
    have h2:=xk (p:=p) hi'
    obtain ⟨B',h1,h3⟩:=Dn E 300 (s:=jt ((lar p l).take i) s) (n:=n) (b:=upL ((lar p l).take i) s) (by rw [en,hn]) hp hv hn32 hl200 hi' (fun v hv'=>by have:=hb' v hv'; omega) hlt hI
    refine .inl ⟨_,_,h1,k-1,by omega,i+1,by omega,?_,?_⟩
    ·rw [tY h2]
    ·rw [ny h2]; exact h3
   ·obtain rfl:i=l.length:=by omega
    rw [List.take_of_length_le (by omega)] at hI ⊢
    refine .inr ⟨_,?_,?_,B,hI,rfl⟩
    ·simp [nK]
    ·intro _ _ h; cases h)
  300 l.length (m8 (.sl id 0 n) (.bool false) (slA 6 (wAs p (num l))) (.int .i64 (l.length:Int)) (.int .i64 0)) A (by omega) ⟨0,by omega,by simp [upL],by simpa [jt] using ⟨hid,Nat.le_refl _,fun _ _ _=>rfl⟩⟩
 refine ⟨A',?_,h2⟩
 subst h3
 rw [a6 _ _ rfl]
 have hlen2:aw (slA 6 (wAs p (num l)))=some (.int .i64 (l.length:Int)):=by rw [qt,qc]
 unfold cJ
 obtain ⟨W,hW⟩:∃W,W=slA 6 (wAs p (num l)):=⟨_,rfl⟩
 rw [<-hW] at h1 hlen2 ⊢
 simp [xc,hlen2,F2 h1,dK,-aw]
theorem A5:ak Try.prog GC 90 (fun _=>bR (ax GC []) 300 xc):=(bP (aq az) rfl at37 GJ bc.nil).y
open Go
theorem aA (xs:List Int):(aj xs).length=xs.length:=by simp [aj]
theorem H2 (E:Env) (fuel:Nat) {A:aa} {a:AV} {xs:List Int} (h:cC A 1 a (aj xs)) (hne:xs≠[]) (hl:xs.length<=1000):bR E fuel tg [a] A=some (.sl (A.length+1) 0 xs.length,A++[.dead,.row 1 false (aj xs)]):=by
 have hne':aj xs≠[]:=by simpa [aj] using hne
 have hlen:(aj xs).length=xs.length:=by simp [aj]
 rw [a6 _ _ rfl]
 obtain ⟨es,hes⟩:∃es,es=aj xs:=⟨_,rfl⟩
 rw [<-hes] at h hne' hlen ⊢
 rw [<-hlen] at hl ⊢
 have hb:es.length*8<=140737488355328:=by omega
 rcases h with h | ⟨id,off,gr,rs,rfl,h1,h2⟩
 ·rcases h with ⟨_,h⟩ | rfl
  ·exact absurd h hne'
  ·simp [tg,dK,aN,aO,hb]
 ·have hid:=(List.getElem?_eq_some_iff.1 h1).1
  have h1':∀T,(A++T)[id]?=some (.row 1 gr rs):=fun T=>by rw [List.getElem?_append_left hid,h1]
  simp [tg,dK,aN,aO,h1',h2,hb]
theorem lj:ak Try.prog GC 40 (fun _=>bR (ax GC []) 0 tg):=(bP (aq az) rfl KT x9 bc.nil).y
def vN:List (FuncId × aG):=[(90,fun _=>bR (ax GC []) 300 xc),(40,fun _=>bR (ax GC []) 0 tg)]
@[simp] theorem JF:aC vN 90=some (fun _=>bR (ax GC []) 300 xc):=rfl
@[simp] theorem JE:aC vN 40=some (fun _=>bR (ax GC []) 0 tg):=rfl
theorem sN:∀f M,aC vN f=some M->ak Try.prog GC f M:=af A5 (af lj az)
def M26:aP:=fun args=>evF (ax GC vN) 300 rq 5 args
theorem wI:bY Try.prog GC 74 M26:=bY.of_ev (E:=ax GC vN) (aq sN) rfl G1 sa 5 fun _ _ h=>⟨300,h⟩
theorem Dt {n:Nat} {p:Int} {l:List aZ} (hp:cn p) (hv:∀x∈l,okA n x) (hn32:n<=32) (hl200:l.length<=200) {lo hi:Int} {s:List Int} (hs:s.length=n) (hb:Bd lo hi s):Bd lo (hi+600000000) (jt (lar p l) s):=by
 have hlen:(lar p l).length=l.length:=by simp [lar]
 have bd:∀i,i<=l.length->Bd lo (hi+3000000*i) (jt ((lar p l).take i) s):=by
  intro i
  induction i with
  | zero=>intro _; simpa [jt] using hb
  | succ i ih=>
   intro hi'
   have h1:=ih (by omega)
   have h2:=xk (p:=p) (l:=l) (i:=i) (by omega)
   rw [ny h2]
   have hmem:=hv _ (List.getElem_mem (show i<l.length by omega))
   obtain ⟨q1,q2,q3,q4⟩:=hmem
   have hle:=gE (n:=32) (a:=l[i]) ⟨by omega,by omega,q3,q4⟩ hp
   have:=wV (a:=(l[i].f.toNat,l[i].t.toNat,l[i].len p)) h1 (by rw [en]; simp only; omega) (by rw [en]; simp only; omega) (by simp only; omega)
   intro v hv'
   have:=this v hv'
   omega
 have:=bd l.length (Nat.le_refl _)
 rw [List.take_of_length_le (by omega)] at this
 intro v hv'
 have:=this v hv'
 omega
theorem yH {A:aa} {id n:Nat} {s:List Int} {p:Int} {l:List aZ} (hn:s.length=n) (hp:cn p) (hv:∀x∈l,okA n x) (hn32:n<=32) (hl200:l.length<=200) {hi:Int} (hb:Bd (-1000000000000) hi s) (hhi:hi<=1000000000000) (hid:A[id]?=some (.row 1 false (aj s))) :
  ∃A',bR (ax GC []) 300 xc [cJ n p l,.sl id 0 n] A=some (.bool (upL (lar p l) s),A')/\Cb A id (jt (lar p l) s) A':=ev37 hn hp hv hn32 hl200 hb hhi hid
def eO (L:List da):Nat->List Int->List Int
 | 0,s=>s
 | k+1,s=>jt L (eO L k s)
theorem dO (L:List da) (s:List Int):∀k,(eO L k s).length=s.length
 | 0=>rfl
 | k+1=>by rw [eO,en,dO L s k]
theorem wS {L:List da} {s:List Int} (h:upL L s=false):∀k,eO L k s=s
 | 0=>rfl
 | k+1=>by rw [eO,wS h k,(fm h).1]
theorem jB (L:List da) (s:List Int):∀k,eO L (k+1) s=eO L k (jt L s)
 | 0=>rfl
 | k+1=>by rw [eO,jB L s k]; rfl
theorem Bm (L:List da):∀(m:Nat) (s:List Int),lev L m s=if _h:∃k,k<m/\upL L (eO L k s)=false then (eO L m s,true) else (eO L m s,!upL L (eO L m s))
 | 0,s=>by
  rw [dif_neg (by rintro ⟨k,h,_⟩; omega)]; rfl
 | m+1,s=>by
  unfold lev
  by_cases h:upL L s=false
  ·rw [if_pos h,dif_pos ⟨0,by omega,h⟩,wS h]
  ·rw [if_neg h,Bm L m,jB]
   by_cases h2:∃k,k<m/\upL L (eO L k (jt L s))=false
   ·rw [dif_pos h2]
    obtain ⟨k,hk,h3⟩:=h2
    rw [dif_pos ⟨k+1,by omega,by rw [jB]; exact h3⟩]
   ·rw [dif_neg h2,dif_neg]
    rintro ⟨k,hk,h3⟩
    cases k with
    | zero=>exact h h3
    | succ k=>exact h2 ⟨k,by omega,by rw [jB] at h3; exact h3⟩
theorem p8 {n:Nat} {p:Int} {l:List aZ} (hr:ce n l p):M26 [cJ n p l]=some (.tup [slA 1 (aj (bM (lar p l) n).1),.bool (bM (lar p l) n).2]):=by
 obtain ⟨⟨hn,hl200,hv⟩,hp⟩:=hr
 have hn32:n<=32:=by omega
 obtain ⟨L,hL⟩:∃L,L=lar p l:=⟨_,rfl⟩
 obtain ⟨z,hz⟩:∃z,z=List.replicate n (0:Int):=⟨_,rfl⟩
 have hzl:z.length=n:=by rw [hz]; simp
 have hbd:∀k:Nat,Bd (-1000000000000) (600000000*k) (eO L k z):=by
  intro k
  induction k with
  | zero=>
   intro v hv'
   have:(eO L 0 z).getD v 0=0:=by rw [eO,hz]; exact jv n v
   rw [this]; omega
  | succ k ih=>
   rw [eO]
   have:=Dt hp hv hn32 hl200 (by rw [dO]; exact hzl) ih
   rw [<-hL] at this
   intro v hv'
   have:=this v hv'
   omega
 have h37:∀(A:aa) (k:Nat),k<=33->A[0]?=some (.row 1 false (aj (eO L k z)))->∃A',bR (ax GC []) 300 xc [cJ n p l,.sl 0 0 n] A=some (.bool (upL L (eO L k z)),A')/\Cb A 0 (eO L (k+1) z) A':=fun A k hk hA=>by
  have:=yH (s:=eO L k z) (by rw [dO]; exact hzl) hp hv hn32 hl200 (hbd k) (by omega) hA
  rw [<-hL] at this
  exact this
 obtain ⟨W1,O,hW⟩:∃W1 O,cJ n p l=.fp [.int .i64 (n:Int),W1,O]:=⟨_,_,rfl⟩
 obtain ⟨o,h1,h2⟩:=fU (E:=ax GC vN) (fuel:=300) (a:=nL) (mask:=mH) (fun k σ A=>∃i,i+k=n/\σ=pm (cJ n p l) (.sl 0 0 n) (.int .i64 (n:Int)) (.int .i64 (i:Int))/\A[0]?=some (.row 1 false (aj (eO L i z)))/\∀j,j<i->upL L (eO L j z)=true)
  (fun o=>(∃A' i d6 d7 ,i<n/\upL L (eO L i z)=false/\(∀j,j<i->upL L (eO L j z)=true)/\A'[0]?=some (.row 1 false (aj (eO L (i+1) z)))/\o=.ret [cJ n p l,.sl 0 0 n,.bool true,.sl 0 0 n,.int .i64 (n:Int),.int .i64 (i:Int),d6,d7] A') \/
   (∃A',(∀j,j<n->upL L (eO L j z)=true)/\A'[0]?=some (.row 1 false (aj (eO L n z)))/\o=.exit 0 ((pm (cJ n p l) (.sl 0 0 n) (.int .i64 (n:Int)) (.int .i64 (n:Int))).set 6 (.bool false)) A'))
  (by
   rintro k σ A ⟨i,hik,rfl,hA,hup⟩
   rw [B6]
   rw [hW] at h37 ⊢
   by_cases hi':i<n
   ·obtain ⟨A',c1,c2⟩:=h37 A i (by omega) hA
    have b1:=bp i n .i64
    rw [decide_eq_true hi'] at b1
    have b3:=a9 i (by omega)
    obtain ⟨i1,hi1⟩:∃i1:Nat,i1=i+1:=⟨_,rfl⟩
    rw [<-hi1] at b3
    cases hu:upL L (eO L i z) with
    | true=>
     rw [hu] at c1
     refine .inl ⟨pm (.fp [.int .i64 (n:Int),W1,O]) (.sl 0 0 n) (.int .i64 (n:Int)) (.int .i64 ((i+1:Nat):Int)),A',?_,k-1,by omega,i+1,by omega,rfl,c2.1,fun j hj=>?_⟩
     ·rw [<-hi1]
      simp [nL,b1,b3,c1,-ag]
     ·by_cases hji:j=i
      ·rw [hji]; exact hu
      ·exact hup j (by omega)
    | false=>
     rw [hu] at c1
     refine .inr ⟨.ret [.fp [.int .i64 (n:Int),W1,O],.sl 0 0 n,.bool true,.sl 0 0 n,.int .i64 (n:Int),.int .i64 (i:Int),.bool true,.bool true] A',?_,(fun _ _ h=>by cases h),.inl ⟨A',i,_,_,hi',hu,hup,c2.1,rfl⟩⟩
     simp [nL,b1,c1,-ag]
   ·obtain rfl:i=n:=by omega
    refine .inr ⟨_,?_,?_,.inr ⟨A,hup,hA,rfl⟩⟩
    ·simp [nL]
    ·intro _ _ h; cases h)
  300 n (pm (cJ n p l) (.sl 0 0 n) (.int .i64 (n:Int)) (.int .i64 0)) [.row 1 false (aj z)] (by omega) ⟨0,by omega,rfl,rfl,fun j hj=>by omega⟩
 have mk:cg 1 8 (.int .i64 0) [] (.int .i64 (n:Int)) (.int .i64 (n:Int))=some (.sl 0 0 n,[.row 1 false (aj z)]):=by
  have:aj z=List.replicate n (.int .i64 0):=by rw [hz]; simp [aj]
  rw [this]; simp [cg]; omega
 have hfz:∀(A:aa) (s:List Int),s.length=n->A[0]?=some (.row 1 false (aj s))->frz A 4 (.sl 0 0 n)=slA 1 (aj s)/\a8 A 4 (.sl 0 0 n)=true:=fun A s hs h0=>by
  constructor
  ·show frz A (3+1) _=_
   simp only [frz,h0,List.drop_zero]
   rw [List.take_of_length_le (by simp [aj]; omega),rN]
   cases s with
   | nil=>simp at hs; omega
   | cons x r=>rfl
  ·show a8 A (3+1) _=_
   simp only [a8,h0,List.drop_zero]
   rw [List.take_of_length_le (by simp [aj]; omega)]
   exact sk _ _ _
 have hf5:∀(A:aa) (s:List Int) (b:Bool),s.length=n->A[0]?=some (.row 1 false (aj s))->frz A 5 (.tup [.sl 0 0 n,.bool b])=.tup [slA 1 (aj s),.bool b]/\a8 A 5 (.tup [.sl 0 0 n,.bool b])=true:=fun A s b hs h0=>by
  obtain ⟨q1,q2⟩:=hfz A s hs h0
  constructor
  ·show AV.tup [frz A 4 (.sl 0 0 n),frz A 4 (.bool b)]=_
   rw [q1]; rfl
  ·show [AV.sl 0 0 n,.bool b].all (a8 A 4)=true
   simp only [List.all_cons,q2]; rfl
 have p1:∀b,dK [.sl 0 0 n,.bool b]=.tup [.sl 0 0 n,.bool b]:=fun _=>rfl
 have hlev:bM (lar p l) n=lev L n z:=by unfold bM; rw [hL,hz]
 rw [hlev,Bm]
 unfold M26
 rw [jj _ _ rfl]
 rcases h2 with ⟨A',i,d6,d7,hin,hu,hup,hA',rfl⟩ | ⟨A',hup,hA',rfl⟩
 ·rw [dif_pos ⟨i,hin,hu⟩]
  have hst:eO L n z=eO L (i+1) z:=by
   have e:∀k,eO L (i+k) z=eO L i z:=fun k=>by
    induction k with
    | zero=>rfl
    | succ k ih=>rw [show i+(k+1)=(i+k)+1 by omega,eO,ih,(fm hu).1]
   have h3:=e (n-i)
   have h4:=e 1
   rw [show i+(n-i)=n by omega] at h3
   rw [h3,h4]
  rw [hst]
  obtain ⟨q1,q2⟩:=hf5 A' _ true (by rw [dO]; exact hzl) hA'
  rw [hW] at h1 ⊢
  simp [rq,mk,BB h1,q1,q2,-frz,-cg]
 ·rw [dif_neg (by
   rintro ⟨k,hk,h⟩
   rw [hup k hk] at h; cases h)]
  obtain ⟨A2,c1,c2⟩:∃A2,bR (ax GC []) 300 xc [cJ n p l,.sl (A'.length+1) 0 n] (A'++[.dead,.row 1 false (aj (eO L n z))])=some (.bool (upL L (eO L n z)),A2)/\Cb (A'++[.dead,.row 1 false (aj (eO L n z))]) (A'.length+1) (eO L (n+1) z) A2:=by
   have:=yH (A:=A'++[.dead,.row 1 false (aj (eO L n z))]) (id:=A'.length+1) (s:=eO L n z) (by rw [dO]; exact hzl) hp hv hn32 hl200 (hbd n) (by omega) (by rw [List.getElem?_append_right (by omega)]; simp)
   rw [<-hL] at this
   exact this
  have hlt:=(List.getElem?_eq_some_iff.1 hA').1
  have h38:=H2 (ax GC []) 0 (A:=A') (a:=.sl 0 0 n) (xs:=eO L n z) (.inr ⟨0,0,false,aj (eO L n z),by rw [aA,dO,hzl],hA',by rw [List.drop_zero,List.take_length]⟩) (by
   intro h
   have:=congrArg List.length h
   rw [dO,hzl] at this
   simp at this; omega) (by rw [dO,hzl]; omega)
  rw [dO,hzl] at h38
  have hA2:A2[0]?=some (.row 1 false (aj (eO L n z))):=by
   rw [c2.2.2 0 (by omega) (by simp),List.getElem?_append_left hlt,hA']
  obtain ⟨q1,q2⟩:=hf5 A2 _ (!upL L (eO L n z)) (by rw [dO]; exact hzl) hA2
  rw [hW] at h1 c1 ⊢
  simp [rq,mk,BB h1,h38,c1,q1,q2,-frz,-cg]
open Go
abbrev LP:=Int × Bool
def lA (x:LP):AV:=.agg [.int .i64 x.1,.bool x.2]
def eF (x:LP) (n:Int):LP:=if x.2=false/\x.1=0 then x else (x.1+n,x.2)
def jH (x y:LP):LP:=if x.2=false\/(y.2=true/\y.1 > x.1) then y else x
def M51:aP:=fun args=>match args with
 | [.agg [.int .i64 x,.bool b],.int .i64 n]=>if -9223372036854775808<=x+n/\x+n<=9223372036854775807 then some (lA (eF (x,b) n)) else none
 | _=>none
theorem t8:an Try.prog GC 102 M51:=by
 refine an.of_ev (E:=ax GC []) (aq az) rfl at51 GF 2 ?_
 intro args r h
 unfold M51 at h
 split at h
 ·rename_i x b n
  simp only [Option.ite_none_right_eq_some,Option.some.injEq] at h
  obtain ⟨h1,rfl⟩:=h
  refine ⟨0,?_⟩
  have b1:ag .add (.int .i64 x) (.int .i64 n)=some (.int .i64 (x+n)):=by
   simp only [ag]; rw [if_pos trivial,dQ h1]
  obtain ⟨z,hz⟩:∃z,z=x+n:=⟨_,rfl⟩
  rw [<-hz] at b1
  rw [aK _ _ rfl]
  unfold eF lA
  simp only [<-hz]
  cases b with
  | true=>simp [HP,b1,-ag]
  | false=>
   by_cases hx:x=0
   ·subst hx
    simp [HP,-ag]
   ·simp [HP,b1,hx,-ag]
 ·cases h
def M52:aP:=fun args=>match args with
 | [.agg [.int .i64 x,.bool b],.agg [.int .i64 y,.bool c]]=>some (lA (jH (x,b) (y,c)))
 | _=>none
theorem wz:an Try.prog GC 104 M52:=by
 refine an.of_ev (E:=ax GC []) (aq az) rfl KL xX 2 ?_
 intro args r h
 unfold M52 at h
 split at h
 ·rename_i x b y c
  injection h with h; subst h
  refine ⟨0,?_⟩
  have b1:ag .gtr (.int .i64 y) (.int .i64 x)=some (.bool (decide (y > x))):=by simp [ag]
  rw [aK _ _ rfl]
  unfold jH lA
  cases b with
  | false=>simp [z8,-ag]
  | true=>
   cases c with
   | false=>simp [z8,-ag]
   | true=>
    by_cases hxy:y > x
    ·rw [decide_eq_true hxy] at b1
     simp [z8,b1,hxy,-ag]
    ·rw [decide_eq_false hxy] at b1
     simp [z8,b1,hxy,-ag]
 ·cases h
open Go
def noL:LP:=(0,false)
def hst (h:List LP) (next:List LP) (a:da):List LP:=next.set a.1 (jH (next.getD a.1 noL) (eF (h.getD a.2.1 noL) a.2.2))
def jW (L:List da) (h:List LP) (n:Nat):List LP:=L.foldl (hst h) (List.replicate n noL)
def hm (L:List da) (n to:Nat):Nat->List LP
 | 0=>(List.replicate n noL).set to (0,true)
 | j+1=>jW L (hm L n to j) n
def wg (L:List da) (n to k:Nat):List AV:=(List.range (k+1)).map fun j=>.fs 2 ((hm L n to j).map lA)
theorem tx (h next:List LP) (a:da):(hst h next a).length=next.length:=by simp [hst]
theorem fW (h:List LP):∀(L:List da) (next:List LP),(L.foldl (hst h) next).length=next.length
 | [],_=>rfl
 | a :: L,next=>by rw [List.foldl_cons,fW h L,tx]
theorem uE (L:List da) (n to:Nat):∀j,(hm L n to j).length=n
 | 0=>by simp [hm]
 | j+1=>by simp [hm,jW,fW]
def PB (B:Int) (h:List LP):Prop:=∀v,-B<=(h.getD v noL).1/\(h.getD v noL).1<=B
theorem jX {α:Type} (s:List α) (i j:Nat) (x d:α) (hi:i<s.length):(s.set i x).getD j d=if i=j then x else s.getD j d:=by
 rw [List.getD_eq_getElem?_getD,List.getD_eq_getElem?_getD]
 by_cases h:i=j
 ·subst h
  rw [List.getElem?_set_self hi,if_pos rfl]; rfl
 ·rw [List.getElem?_set_ne h,if_neg h]
theorem DD {B:Int} {x y:LP} (h1 : -B<=x.1/\x.1<=B) (h2 : -B<=y.1/\y.1<=B) : -B<=(jH x y).1/\(jH x y).1<=B:=by
 unfold jH; split
 ·exact h2
 ·exact h1
theorem Dy {B w:Int} {x:LP} (h1 : -B<=x.1/\x.1<=B) (h2 : -3000000<=w/\w<=3000000) : -(B+3000000)<=(eF x w).1/\(eF x w).1<=B+3000000:=by
 unfold eF; split
 ·omega
 ·simp only; omega
theorem FX {B:Int} {h next:List LP} {a:da} (h1:PB B h) (h2:PB (B+3000000) next) (hw : -3000000<=a.2.2/\a.2.2<=3000000) (hf:a.1<next.length):PB (B+3000000) (hst h next a):=fun v=>by
 unfold hst
 rw [jX _ _ _ _ _ hf]
 split
 ·exact DD (h2 _) (Dy (h1 _) hw)
 ·exact h2 v
theorem wQ {B:Int} (hB:0<=B) (n:Nat):PB B (List.replicate n noL):=fun v=>by
 have:(List.replicate n noL).getD v noL=noL:=by
  rw [List.getD_eq_getElem?_getD]
  by_cases h:v<n <;> simp [h]
 rw [this]; simp [noL]; omega
def su (n:Nat) (L:List da):Prop:=∀a∈L,a.1<n/\a.2.1<n /\ -3000000<=a.2.2/\a.2.2<=3000000
theorem uA {n:Nat} {p:Int} {l:List aZ} (hn:n<=32) (hp:cn p) (hv:∀x∈l,okA n x):su n (lar p l):=fun a ha=>by
 obtain ⟨x,hx,rfl⟩:=List.mem_map.1 ha
 obtain ⟨q1,q2,q3,q4⟩:=hv x hx
 have hle:=gE (n:=32) (a:=x) ⟨by omega,by omega,q3,q4⟩ hp
 simp only
 omega
theorem uI {n:Nat} {B:Int} {h:List LP} (h1:PB B h):∀ {L:List da} {next:List LP},su n L->next.length=n->PB (B+3000000) next->PB (B+3000000) (L.foldl (hst h) next)
 | [],_,_,_,h2=>h2
 | a :: L,next,hL,hn,h2=>by
  rw [List.foldl_cons]
  obtain ⟨q1,q2,q3⟩:=hL a (by simp)
  exact uI h1 (fun b hb=>hL b (by simp [hb])) (by rw [tx,hn]) (FX h1 h2 q3 (by omega))
theorem D4 {n:Nat} {L:List da} (hL:su n L) (to:Nat):∀j:Nat,PB (3000000*j) (hm L n to j)
 | 0=>fun v=>by
  unfold hm
  by_cases h:to<n
  ·rw [jX _ _ _ _ _ (by simpa using h)]
   split
   ·simp
   ·have:=wQ (B:=0) (by omega) n v
    omega
  ·rw [List.set_eq_of_length_le (by simp; omega)]
   have:=wQ (B:=0) (by omega) n v
   omega
 | j+1=>by
  have h1:=D4 hL to j
  have:=uI h1 hL (next:=List.replicate n noL) (by simp) (wQ (by omega) n)
  intro v
  have:=this v
  simp only [hm,jW]
  omega
theorem xm {h:List LP} {i:Nat} (hi:i<h.length):(h.map lA)[i]?=some (.agg [.int .i64 (h.getD i noL).1,.bool (h.getD i noL).2]):=by
 simp [hi,lA]
def K8:MC:=.region [⟨none,.indexSl 6 (.var 11) (.var 13),none⟩,⟨none,.load true 6 (.tmp 0),none⟩,⟨some 7,.alloc 6 (.agg [.int .i64 0,.int .i64 0,.int .i64 0,.int .i64 0,.int .i64 0,.int .i64 0]),none⟩,⟨none,.store 6 (.var 7) (.tmp 1),none⟩]
def Mc:MC:=.region [⟨none,.mv (.var 6),none⟩,⟨none,.fieldAddr 0 (.var 7),none⟩,⟨none,.fieldAddr 0 (.tmp 1),none⟩,⟨none,.load false 1 (.tmp 2),none⟩,⟨none,.mv (.var 6),none⟩,⟨none,.fieldAddr 0 (.var 7),none⟩,⟨none,.fieldAddr 0 (.tmp 5),none⟩,⟨none,.load false 1 (.tmp 6),none⟩,⟨none,.indexSl 2 (.tmp 4) (.tmp 7),none⟩,⟨none,.load true 2 (.tmp 8),none⟩,⟨none,.mv (.var 5),none⟩,⟨none,.fieldAddr 0 (.var 7),none⟩,⟨none,.fieldAddr 1 (.tmp 11),none⟩,⟨none,.load false 1 (.tmp 12),none⟩,⟨none,.indexSl 2 (.tmp 10) (.tmp 13),none⟩,⟨none,.load true 2 (.tmp 14),none⟩,⟨none,.fieldAddr 5 (.var 7),none⟩,⟨none,.load false 1 (.tmp 16),none⟩,⟨none,.call (.fn 102) [.tmp 15,.tmp 17],none⟩,⟨none,.call (.fn 104) [.tmp 9,.tmp 18],none⟩,⟨none,.indexSl 2 (.tmp 0) (.tmp 3),none⟩,⟨none,.store 2 (.tmp 20) (.tmp 19),none⟩]
theorem G8:lC=.seq (.region [⟨some 14,.bin .lss (.var 13) (.var 12),none⟩]) (.seq (.cond (.var 14) .skip (.exit 2)) (.seq (.seq (.block 3 (.seq K8 Mc)) (.kill [1,2,3,7,10,14])) (.region [⟨none,.bin .add (.var 13) (.cst (.int .i64 1)),none⟩,⟨some 13,.mv (.tmp 0),none⟩]))):=rfl
def xB:List (FuncId × aG):=[(102,aD 4 M51),(104,aD 4 M52)]
@[simp] theorem I5:aC xB 102=some (aD 4 M51):=rfl
@[simp] theorem I4:aC xB 104=some (aD 4 M52):=rfl
theorem CQ:∀f M,aC xB f=some M->ak Try.prog GC f M:=af (ak.of_pure t8 4) (af (ak.of_pure wz 4) az)
theorem r48a (E:Env) (fuel:Nat) (K:List KC) (A:aa) (X:MC) {p:Int} {l:List aZ} {i:Nat} (hi:i<l.length) (v0 v4 v5 v6 v8 v9 v12 v14:AV) :
  run E fuel (.code (.seq K8 X) :: K) [v0,.undef,.undef,.undef,v4,v5,v6,.undef,v8,v9,.undef,slA 6 (wAs p (num l)),v12,.int .i64 (i:Int),v14] A =
   run E fuel (.code X :: K) [v0,.undef,.undef,.undef,v4,v5,v6,.ptr A.length 0 0,v8,v9,.undef,slA 6 (wAs p (num l)),v12,.int .i64 (i:Int),v14] (A++[.row 6 false [wA p (l[i],i)]]):=by
 have x1:=qW p hi A .i64
 obtain ⟨W,hW⟩:∃W,W=slA 6 (wAs p (num l)):=⟨_,rfl⟩
 rw [<-hW] at x1 ⊢
 simp [K8,x1,wA,-ai]
def Hx (A0:aa) (id:Nat) (A:aa):Prop:=A0.length<=A.length/\∀j,j≠id->j<A0.length->A[j]?=A0[j]?
theorem Z7 (h:List LP) (i:Nat) (z:LP):(h.map lA).set i (lA z)=(h.set i z).map lA:=by rw [List.map_set]
theorem Dl (fuel:Nat) {A0 A:aa} {n idL idN:Nat} {h nx:List LP} {p:Int} {l:List aZ} (hn:h.length=n) (hx:nx.length=n) (hp:cn p) (hv:∀x∈l,okA n x) (hn32:n<=32) (hl200:l.length<=200) {i:Nat} (hi:i<l.length) (hb:PB 1000000000 h) (hLN:idL≠idN) (hid:idN<A0.length) (hidL:idL<A0.length) (hL:A0[idL]?=some (.row 2 false (h.map lA))) (hN:A[idN]?=some (.row 2 false (nx.map lA))) (hK:Hx A0 idN A) (v0 v4 v8 v9:AV) :
  ∃A',run (ax GC xB) fuel [.code lC] (kX v0 v4 (.sl idL 0 n) (.sl idN 0 n) v8 v9 (slA 6 (wAs p (num l))) (.int .i64 (l.length:Int)) (.int .i64 (i:Int))) A=some (.normal (kX v0 v4 (.sl idL 0 n) (.sl idN 0 n) v8 v9 (slA 6 (wAs p (num l))) (.int .i64 (l.length:Int)) (.int .i64 ((i+1:Nat):Int))) A') /\
   A'[idN]?=some (.row 2 false ((hst h nx (l[i].f.toNat,l[i].t.toNat,l[i].len p)).map lA))/\Hx A0 idN A':=by
 obtain ⟨g2,g3⟩:=hK
 have hmem:=hv _ (List.getElem_mem hi)
 obtain ⟨f,hf,hfn⟩:=nF hmem.1
 obtain ⟨t,ht,htn⟩:=nF hmem.2.1
 have hv32:okA 32 l[i]:=by
  obtain ⟨h1,h2,h3,h4⟩:=hmem
  exact ⟨by omega,by omega,h3,h4⟩
 obtain ⟨k1,k2,_,_⟩:=gE hv32 hp
 obtain ⟨w,hw⟩:∃w,w=l[i].len p:=⟨_,rfl⟩
 obtain ⟨B,hB⟩:∃B,B=A++[.row 6 false [wA p (l[i],i)]]:=⟨_,rfl⟩
 have r1:=fun K X=>r48a (ax GC xB) fuel K A X (p:=p) hi v0 v4 (.sl idL 0 n) (.sl idN 0 n) v8 v9 (.int .i64 (l.length:Int)) (.bool true)
 rw [<-hB] at r1
 have cN:B[idN]?=some (.row 2 false (nx.map lA)):=by rw [hB,List.getElem?_append_left (by omega)]; exact hN
 have cL:B[idL]?=some (.row 2 false (h.map lA)):=by rw [hB,List.getElem?_append_left (by omega),g3 idL hLN hidL]; exact hL
 have c8:B[A.length]?=some (.row 6 false [.agg [.int .i64 (f:Int),.int .i64 (t:Int),.int .i64 l[i].w,.int .i64 l[i].k,.int .i64 (i:Int),.int .i64 w]]):=by
  rw [hB,hw]; simp [wA,hf,ht]
 obtain ⟨i8,hi8⟩:∃i8,i8=A.length:=⟨_,rfl⟩
 rw [<-hi8] at r1 c8
 have hBl:A0.length<=B.length:=by rw [hB]; simp; omega
 have hBo:∀j,j≠idN->j<A0.length->B[j]?=A0[j]?:=fun j hj hl=>by rw [hB,List.getElem?_append_left (by omega)]; exact g3 j hj hl
 rw [<-hw] at k1 k2
 have e1:l[i].f.toNat=f:=by omega
 have e2:l[i].t.toNat=t:=by omega
 rw [e1,e2,<-hw]
 have ef:=xm (h:=nx) (i:=f) (by omega)
 have et:=xm (h:=h) (i:=t) (by omega)
 have bt:=hb t
 unfold hst
 simp only
 obtain ⟨x,hx1⟩:∃x,x=nx.getD f noL:=⟨_,rfl⟩
 obtain ⟨y,hy1⟩:∃y,y=h.getD t noL:=⟨_,rfl⟩
 rw [<-hx1] at ef ⊢
 rw [<-hy1] at et bt ⊢
 have m1:M51 [.agg [.int .i64 y.1,.bool y.2],.int .i64 w]=some (.agg [.int .i64 (eF y w).1,.bool (eF y w).2]):=if_pos (by omega)
 have m2:M52 [.agg [.int .i64 x.1,.bool x.2],.agg [.int .i64 (eF y w).1,.bool (eF y w).2]]=some (.agg [.int .i64 (jH x (eF y w)).1,.bool (jH x (eF y w)).2]):=rfl
 have b1:=bp i l.length .i64
 rw [decide_eq_true hi] at b1
 have b3:=a9 i (by omega)
 obtain ⟨i1,hi1⟩:∃i1:Nat,i1=i+1:=⟨_,rfl⟩
 rw [<-hi1] at b3 ⊢
 rw [<-Z7]
 obtain ⟨q,hq⟩:∃q,q=eF y w:=⟨_,rfl⟩
 rw [<-hq] at m1 m2 ⊢
 obtain ⟨z,hz⟩:∃z,z=jH x q:=⟨_,rfl⟩
 rw [<-hz] at m2 ⊢
 obtain ⟨q1,q2⟩:=q
 obtain ⟨z1,z2⟩:=z
 obtain ⟨x1,x2⟩:=x
 obtain ⟨y1,y2⟩:=y
 simp only at m1 m2 ef et
 obtain ⟨W,hW⟩:∃W,W=slA 6 (wAs p (num l)):=⟨_,rfl⟩
 rw [<-hW] at r1 ⊢
 obtain ⟨nxa,hnxa⟩:∃nxa,nxa=nx.map lA:=⟨_,rfl⟩
 obtain ⟨ha,hha⟩:∃ha,ha=h.map lA:=⟨_,rfl⟩
 rw [<-hnxa] at cN ef ⊢
 rw [<-hha] at cL et
 have hfn':f<n:=by omega
 have htn':t<n:=by omega
 refine ⟨B.set idN (.row 2 false (nxa.set f (lA (z1,z2)))),?_,?_,?_,?_⟩
 ·rw [G8]
  simp [b1,b3,r1,Mc,cN,cL,c8,ef,et,m1,m2,hfn',htn',lA,-ag]
 ·exact List.getElem?_set_self (by omega)
 ·simp; omega
 ·intro j hj hl
  rw [List.getElem?_set_ne (Ne.symm hj)]; exact hBo j hj hl
theorem FG (fuel:Nat) {A:aa} {n idL idN:Nat} {h:List LP} {p:Int} {l:List aZ} (hn:h.length=n) (hp:cn p) (hv:∀x∈l,okA n x) (hn32:n<=32) (hl200:l.length<=200) (hf:200<fuel) (hb:PB 1000000000 h) (hLN:idL≠idN) (hL:A[idL]?=some (.row 2 false (h.map lA))) (hN:A[idN]?=some (.row 2 false ((List.replicate n noL).map lA))) (v0 v4 v8 v9:AV) :
  ∃A',bZ (evC (ax GC xB) fuel lC) jK fuel (kX v0 v4 (.sl idL 0 n) (.sl idN 0 n) v8 v9 (slA 6 (wAs p (num l))) (.int .i64 (l.length:Int)) (.int .i64 0)) A=some (.exit 2 ((kX v0 v4 (.sl idL 0 n) (.sl idN 0 n) v8 v9 (slA 6 (wAs p (num l))) (.int .i64 (l.length:Int)) (.int .i64 (l.length:Int))).set 14 (.bool false)) A') /\
   A'[idN]?=some (.row 2 false ((jW (lar p l) h n).map lA))/\Hx A idN A':=by
 have hidN:=(List.getElem?_eq_some_iff.1 hN).1
 have hidL:=(List.getElem?_eq_some_iff.1 hL).1
 have hlen:(lar p l).length=l.length:=by simp [lar]
 obtain ⟨o,h1,A',h2,h3,h4⟩:=fU (E:=ax GC xB) (fuel:=fuel) (a:=lC) (mask:=jK) (fun k σ B=>∃i,i+k=l.length/\σ=kX v0 v4 (.sl idL 0 n) (.sl idN 0 n) v8 v9 (slA 6 (wAs p (num l))) (.int .i64 (l.length:Int)) (.int .i64 (i:Int))/\B[idN]?=some (.row 2 false ((((lar p l).take i).foldl (hst h) (List.replicate n noL)).map lA))/\Hx A idN B)
  (fun o=>∃A',A'[idN]?=some (.row 2 false ((jW (lar p l) h n).map lA))/\Hx A idN A'/\o=.exit 2 ((kX v0 v4 (.sl idL 0 n) (.sl idN 0 n) v8 v9 (slA 6 (wAs p (num l))) (.int .i64 (l.length:Int)) (.int .i64 (l.length:Int))).set 14 (.bool false)) A')
  (by
   rintro k σ B ⟨i,hik,rfl,hN',hK⟩
   rw [BW]
   by_cases hi':i<l.length
   ·obtain ⟨B',c1,c2,c3⟩:=Dl fuel (n:=n) hn (by rw [fW]; simp) hp hv hn32 hl200 hi' hb hLN hidN hidL hL hN' hK v0 v4 v8 v9
    refine .inl ⟨_,_,c1,k-1,by omega,i+1,by omega,rfl,?_,c3⟩
    rw [c2,List.take_succ_eq_append_getElem (by omega),List.foldl_append]
    simp [lar]
   ·obtain rfl:i=l.length:=by omega
    refine .inr ⟨_,?_,?_,B,?_,hK,rfl⟩
    ·simp [lC]
    ·intro _ _ h; cases h
    ·rw [hN',List.take_of_length_le (by omega)]; rfl)
  fuel l.length _ A (by omega) ⟨0,by omega,rfl,by simpa using hN,Nat.le_refl _,fun _ _ _=>rfl⟩
 exact ⟨A',by rw [<-h4]; exact h1,h2,h3⟩
def EG (L:List da) (n to i:Nat) (A:aa):Prop:=∃(gr:Bool) (os:List AV),A[1]?=some (.row 1 gr os)/\os.length=i+1/\∀j,j<=i->∃id,os[j]?=some (.sl id 0 n)/\id≠1/\A[id]?=some (.row 2 false ((hm L n to j).map lA))
theorem zS (fuel:Nat) {A:aa} {n to i:Nat} {p:Int} {l:List aZ} (h1n:1<=n) (hp:cn p) (hv:∀x∈l,okA n x) (hn32:n<=32) (hl200:l.length<=200) (hf:200<fuel) {k:Nat} (hi:i<k) (hk:k<=32) (hI:EG (lar p l) n to i A) :
  ∃A',run (ax GC xB) fuel [.code nI] (m6 (cJ n p l) (.sl 1 0 (i+1)) (.int .i64 (k:Int)) (.int .i64 (i:Int))) A=some (.normal (m6 (cJ n p l) (.sl 1 0 (i+1+1)) (.int .i64 (k:Int)) (.int .i64 ((i+1:Nat):Int))) A')/\EG (lar p l) n to (i+1) A':=by
 obtain ⟨gr,os,g1,g2,g3⟩:=hI
 obtain ⟨id,hid,hid1,hrow⟩:=g3 i (Nat.le_refl _)
 have hid2:=(List.getElem?_eq_some_iff.1 hrow).1
 have h1A:=(List.getElem?_eq_some_iff.1 g1).1
 obtain ⟨B,hB⟩:∃B,B=A++[.row 2 false ((List.replicate n noL).map lA)]:=⟨_,rfl⟩
 have hBN:B[A.length]?=some (.row 2 false ((List.replicate n noL).map lA)):=by rw [hB]; simp
 have hBo:∀j,j<A.length->B[j]?=A[j]?:=fun j hj=>by rw [hB,List.getElem?_append_left hj]
 have hBl:B.length=A.length+1:=by rw [hB]; simp
 have hok:=uA hn32 hp hv
 have hpb:=D4 hok to i
 have hpb':PB 1000000000 (hm (lar p l) n to i):=fun v=>by have:=hpb v; omega
 have mk:cg 2 16 (.agg [.int .i64 0,.bool false]) A (.int .i64 (n:Int)) (.int .i64 (n:Int))=some (.sl A.length 0 n,B):=by
  rw [hB]; simp [cg,lA,noL]; omega
 obtain ⟨C,c1,c2,c3⟩:=FG fuel (A:=B) (n:=n) (idL:=id) (idN:=A.length) (uE _ n to i) hp hv hn32 hl200 hf hpb' (by omega) (by rw [hBo id hid2]; exact hrow) hBN (cJ n p l) (.sl 1 0 (i+1)) (.int .i64 (k:Int)) (.int .i64 (i:Int))
 have hC1:C[1]?=some (.row 1 gr os):=by rw [c3.2 1 (by omega) (by omega),hBo 1 h1A]; exact g1
 obtain ⟨nid,hnid⟩:∃nid,nid=A.length:=⟨_,rfl⟩
 have hC1l:=(List.getElem?_eq_some_iff.1 hC1).1
 obtain ⟨D,hD⟩:∃D,D=C++[.row 1 false [.sl A.length 0 n]]:=⟨_,rfl⟩
 have hDo:∀j,j<C.length->D[j]?=C[j]?:=fun j hj=>by rw [hD,List.getElem?_append_left hj]
 have hDl:D.length=C.length+1:=by rw [hD]; simp
 have hDn:D[C.length]?=some (.row 1 false [.sl A.length 0 n]):=by rw [hD]; simp
 have ap:aN 1 24 D (.sl 1 0 (i+1)) (.sl C.length 0 1)=some (.sl 1 0 (i+1+1),D.set 1 (.row 1 true (os++[.sl A.length 0 n]))):=by
  simp [aN,aO,hDn,hDo 1 hC1l,hC1,g2]
  omega
 have b0:ag .sub (.int .i64 ((i+1:Nat):Int)) (.int .i64 1)=some (.int .i64 (i:Int)):=by
  simp only [ag]; rw [if_pos trivial,dQ (by unfold inI; omega)]; congr 2; omega
 have b1:=bp i k .i64
 rw [decide_eq_true hi] at b1
 have b3:=a9 i (by omega)
 have hlen2:aw (slA 6 (wAs p (num l)))=some (.int .i64 (l.length:Int)):=by rw [qt,qc]
 have hne:¬ 1=A.length:=by omega
 refine ⟨D.set 1 (.row 1 true (os++[.sl A.length 0 n])),?_,true,os++[.sl A.length 0 n],?_,?_,?_⟩
 ·obtain ⟨W1,hW⟩:∃W1,W1=slA 6 (wAs p (num l)):=⟨_,rfl⟩
  obtain ⟨O,hO⟩:∃O,cJ n p l=.fp [.int .i64 (n:Int),W1,O]:=⟨_,by rw [hW]; rfl⟩
  rw [<-hW] at c1 hlen2
  rw [hO] at c1 ⊢
  rw [hD] at ap ⊢
  rw [<-hnid] at c1 ap hne mk ⊢
  obtain ⟨i1,hi1⟩:∃i1:Nat,i1=i+1:=⟨_,rfl⟩
  rw [<-hi1] at b0 b3 c1 ap ⊢
  have hii:i<i1:=by omega
  have hls:aw (.sl 1 0 i1)=some (.int .i64 (i1:Int)):=rfl
  simp [nI,hls,b0,b1,b3,g1,hid,mk,F0 c1,ap,hlen2,hne,hii,hnid.symm,-ag,-cg,-aw]
 ·exact List.getElem?_set_self (by omega)
 ·simp [g2]
 ·intro j hj
  have hcl:=c3.1
  by_cases hji:j=i+1
  ·subst hji
   refine ⟨A.length,by simp [<-g2],by omega,?_⟩
   rw [List.getElem?_set_ne (by omega),hDo _ (by omega)]; exact c2
  ·obtain ⟨jd,q1,q2,q3⟩:=g3 j (by omega)
   have hjd:=(List.getElem?_eq_some_iff.1 q3).1
   refine ⟨jd,by rw [List.getElem?_append_left (by omega)]; exact q1,q2,?_⟩
   rw [List.getElem?_set_ne (Ne.symm q2),hDo jd (by omega),c3.2 jd (by omega) (by omega),hBo jd hjd]; exact q3
def M48:aP:=fun args=>evF (ax GC xB) 300 Iy 5 args
theorem CD:bY Try.prog GC 99 M48:=bY.of_ev (E:=ax GC xB) (aq CQ) rfl at48 GH 5 fun _ _ h=>⟨300,h⟩
theorem Gg (A:aa) (n:Nat) (h:List LP):(h.map lA).map (frz A (n+1))=h.map lA:=by
 rw [List.map_map]; apply List.map_congr_left; intro x _; cases n <;> rfl
theorem EG.frz {L:List da} {n to i:Nat} {A:aa} (h:EG L n to i A) (k:Nat):Proofs.Ytkcjhljbgjpklaa.frz A (k+3) (.sl 1 0 (i+1))=.fs 1 (wg L n to i)/\a8 A (k+3) (.sl 1 0 (i+1))=true:=by
 obtain ⟨gr,os,g1,g2,g3⟩:=h
 constructor
 ·show Proofs.Ytkcjhljbgjpklaa.frz A (k+2+1) _=_
  simp only [Proofs.Ytkcjhljbgjpklaa.frz,g1,List.drop_zero]
  rw [List.take_of_length_le (by omega)]
  congr 1
  apply List.ext_getElem (by simp [g2,wg])
  intro j h1 h2
  obtain ⟨id,q1,q2,q3⟩:=g3 j (by simp [wg] at h2; omega)
  have e:os[j]'(by simpa using h1)=.sl id 0 n:=by
   rw [List.getElem?_eq_getElem (by simpa using h1)] at q1; exact Option.some.inj q1
  simp only [List.getElem_map,e,wg,List.getElem_range]
  show Proofs.Ytkcjhljbgjpklaa.frz A (k+1+1) _=_
  simp only [Proofs.Ytkcjhljbgjpklaa.frz,q3,List.drop_zero]
  rw [List.take_of_length_le (by simp [uE]),Gg]
 ·show a8 A (k+2+1) _=_
  simp only [a8,g1,List.drop_zero]
  rw [List.take_of_length_le (by omega),List.all_eq_true]
  intro x hx
  obtain ⟨j,hj,rfl⟩:=List.mem_iff_getElem.1 hx
  obtain ⟨id,q1,q2,q3⟩:=g3 j (by omega)
  have e:os[j]=.sl id 0 n:=by
   rw [List.getElem?_eq_getElem hj] at q1; exact Option.some.inj q1
  rw [e]
  show a8 A (k+1+1) _=_
  simp only [a8,q3,List.drop_zero]
  rw [List.take_of_length_le (by simp [uE]),List.all_eq_true]
  intro y hy
  obtain ⟨z,_,rfl⟩:=List.mem_map.1 hy
  cases k <;> simp [lA,a8]
theorem Hr {n to:Nat} {p:Int} {l:List aZ} (hr:ce n l p) (hto:to<n) {k:Nat} (hk:k<=32):M48 [cJ n p l,.int .i64 (to:Int),.int .i64 (k:Int)]=some (.fs 1 (wg (lar p l) n to k)):=by
 obtain ⟨⟨hn,hl200,hv⟩,hp⟩:=hr
 have hn32:n<=32:=by omega
 obtain ⟨z,hz⟩:∃z,z=(List.replicate n noL).map lA:=⟨_,rfl⟩
 have mk:cg 2 16 (.agg [.int .i64 0,.bool false]) [] (.int .i64 (n:Int)) (.int .i64 (n:Int))=some (.sl 0 0 n,[.row 2 false z]):=by
  rw [hz]; simp [cg,lA,noL]; omega
 have hz2:z.set to (.agg [.int .i64 0,.bool true])=(hm (lar p l) n to 0).map lA:=by
  rw [hz]; unfold hm; rw [List.map_set]; rfl
 have hzl:z.length=n:=by rw [hz]; simp
 have hz3:z[to]?=some (.agg [.int .i64 0,.bool false]):=by
  rw [hz]; simp [hto,lA,noL]
 obtain ⟨o,h1,A',h2,rfl⟩:=fU (E:=ax GC xB) (fuel:=300) (a:=nI) (mask:=mC) (fun m σ A=>∃i,i+m=k/\σ=m6 (cJ n p l) (.sl 1 0 (i+1)) (.int .i64 (k:Int)) (.int .i64 (i:Int))/\EG (lar p l) n to i A)
  (fun o=>∃A',EG (lar p l) n to k A'/\o=.exit 0 ((m6 (cJ n p l) (.sl 1 0 (k+1)) (.int .i64 (k:Int)) (.int .i64 (k:Int))).set 10 (.bool false)) A')
  (by
   rintro m σ A ⟨i,him,rfl,hI⟩
   rw [BV]
   by_cases hi':i<k
   ·obtain ⟨A',c1,c2⟩:=zS 300 (by omega) hp hv hn32 hl200 (by omega) hi' hk hI
    exact .inl ⟨_,_,c1,m-1,by omega,i+1,by omega,rfl,c2⟩
   ·obtain rfl:i=k:=by omega
    refine .inr ⟨_,?_,?_,A,hI,rfl⟩
    ·simp [nI]
    ·intro _ _ h; cases h)
  300 k (m6 (cJ n p l) (.sl 1 0 1) (.int .i64 (k:Int)) (.int .i64 0)) [.row 2 false ((hm (lar p l) n to 0).map lA),.row 1 false [.sl 0 0 n]] (by omega) ⟨0,by omega,rfl,false,[.sl 0 0 n],rfl,rfl,fun j hj=>by
   obtain rfl:j=0:=by omega
   exact ⟨0,rfl,by omega,rfl⟩⟩
 obtain ⟨q1,q2⟩:=h2.frz 2
 unfold M48
 rw [jj _ _ rfl]
 rw [<-hz2] at h1
 have p1:dK [.sl 1 0 (k+1)]=.sl 1 0 (k+1):=rfl
 obtain ⟨W1,O,hO⟩:∃W1 O,cJ n p l=.fp [.int .i64 (n:Int),W1,O]:=⟨_,_,rfl⟩
 rw [hO] at h1 ⊢
 simp [Iy,mk,hz3,hto,FZ h1,q1,q2,-frz,-cg]
open Go
def kH (h:List LP) (p sum:Int) (x:eE):Bool:=(eF (h.getD x.1.t.toNat noL) (sum+x.1.len p)).2 && decide ((eF (h.getD x.1.t.toNat noL) (sum+x.1.len p)).1 > 0)
def HU:List (FuncId × aG):=[(102,aD 4 M51)]
@[simp] theorem I2:aC HU 102=some (aD 4 M51):=rfl
theorem CO:∀f M,aC HU f=some M->ak Try.prog GC f M:=af (ak.of_pure t8 4) az
def M50:aP:=fun args=>evP (ax GC HU) 0 DE 1 args
theorem wB:an Try.prog GC 101 M50:=an.of_ev (E:=ax GC HU) (aq CO) rfl KM xY 1 fun _ _ h=>⟨0,h⟩
def we (hs:List (List LP)):AV:=.fs 1 (hs.map fun h=>.fs 2 (h.map lA))
def Gh (hs:List (List LP)) (left sum:Int):AV:=.func (.func 101) [] [.fp [we hs],.fp [.int .i64 left],.fp [.int .i64 sum]]
theorem Hp {hs:List (List LP)} {left t:Nat} {h:List LP} {p sum:Int} {x:eE} (hh:hs[left]?=some h) (ht:x.1.t=(t:Int)) (hth:t<h.length) (hpb:PB 1000000000 h) (hs1 : -1000000000<=sum/\sum<=1000000000) (hw : -3000000<=x.1.len p/\x.1.len p<=3000000) :
  M50 [wA p x,.fp [we hs],.fp [.int .i64 left],.fp [.int .i64 sum]]=some (.bool (kH h p sum x)):=by
 unfold kH
 have e1:x.1.t.toNat=t:=by omega
 rw [e1]
 have et:=xm hth
 have bt:=hpb t
 obtain ⟨y,hy1⟩:∃y,y=h.getD t noL:=⟨_,rfl⟩
 rw [<-hy1] at et bt ⊢
 obtain ⟨w,hw1⟩:∃w,w=x.1.len p:=⟨_,rfl⟩
 rw [<-hw1] at hw ⊢
 have m1:M51 [.agg [.int .i64 y.1,.bool y.2],.int .i64 (sum+w)]=some (.agg [.int .i64 (eF y (sum+w)).1,.bool (eF y (sum+w)).2]):=if_pos (by omega)
 have b2:ag .add (.int .i64 sum) (.int .i64 w)=some (.int .i64 (sum+w)):=by
  simp only [ag]; rw [if_pos trivial,dQ (by unfold inI; omega)]
 have hx:wA p x=.agg [.int .i64 x.1.f,.int .i64 (t:Int),.int .i64 x.1.w,.int .i64 x.1.k,.int .i64 (x.2:Int),.int .i64 w]:=by unfold wA; rw [ht,hw1]
 rw [hx]
 have hix:∀A,ai 1 A (we hs) (.int .i64 (left:Int))=some (.fp [.fs 2 (h.map lA)]):=fun A=>
  (show SlA 1 (hs.map fun h=>.fs 2 (h.map lA)) (we hs) from .inr rfl).index1 (A:=A) (by simp [hh]) rfl rfl .i64
 have hix2:∀A,ai 2 A (.fs 2 (h.map lA)) (.int .i64 (t:Int))=some (.fp [.int .i64 y.1,.bool y.2]):=fun A=>
  (show SlA 2 (h.map lA) (.fs 2 (h.map lA)) from .inr rfl).index (A:=A) (i:=t) et rfl (by omega) .i64
 obtain ⟨HT,hHT⟩:∃HT,we hs=.fs 1 HT:=⟨_,rfl⟩
 rw [hHT] at hix ⊢
 obtain ⟨s,hs'⟩:∃s,s=sum+w:=⟨_,rfl⟩
 rw [<-hs'] at m1 b2 ⊢
 obtain ⟨q,hq⟩:∃q,q=eF y s:=⟨_,rfl⟩
 rw [<-hq] at m1 ⊢
 have b3:ag .gtr (.int .i64 q.1) (.int .i64 0)=some (.bool (decide (q.1 > 0))):=by simp [ag]
 obtain ⟨q1,q2⟩:=q
 obtain ⟨y1,y2⟩:=y
 simp only at m1 b3 hix2
 unfold M50
 rw [aK _ _ rfl]
 cases q2
 ·simp [DE,hix,hix2,b2,m1,-ag,-ai]
 ·simp [DE,hix,hix2,b2,b3,m1,-ag,-ai]
def BH:List (FuncId × aG):=[(101,aD 4 M50)]
@[simp] theorem I3:aC BH 101=some (aD 4 M50):=rfl
theorem CP:∀f M,aC BH f=some M->ak Try.prog GC f M:=af (ak.of_pure wB 4) az
def M49:aP:=fun args=>evP (ax GC BH) 300 HQ 1 args
theorem E6:an Try.prog GC 100 M49:=an.of_ev (E:=ax GC BH) (aq CP) rfl at49 GG 1 fun _ _ h=>⟨300,h⟩
theorem Hq {hs:List (List LP)} {left:Nat} {h:List LP} {p sum:Int} {xs:List eE} {ch:AV} (hch:SlA 6 (wAs p xs) ch) (hl:xs.length<=200) (hh:hs[left]?=some h) (ht:∀x∈xs,0<=x.1.t/\x.1.t<(h.length:Int)) (hpb:PB 1000000000 h) (hs1 : -1000000000<=sum/\sum<=1000000000) (hw:∀x∈xs,-3000000<=x.1.len p/\x.1.len p<=3000000) :
  M49 [ch,Gh hs left sum]=some (.int .i64 (cV (kH h p sum) xs)):=by
 have hlen:=hch.len
 have hlen':(wAs p xs).length=xs.length:=by simp [wAs]
 rw [hlen'] at hlen
 obtain ⟨F,hF⟩:∃F,F=Gh hs left sum:=⟨_,rfl⟩
 have round:∀(A:aa) (i:Nat) (hi:i<xs.length),run (ax GC BH) 300 [.code iK] (kW ch F (.int .i64 (xs.length:Int)) (.int .i64 (i:Int))) A =
   if kH h p sum xs[i]=false then some (.normal (kW ch F (.int .i64 (xs.length:Int)) (.int .i64 ((i+1:Nat):Int))) A) else some (.ret [ch,F,.int .i64 (i:Int),.int .i64 (i:Int),.int .i64 (xs.length:Int),.int .i64 (i:Int),.bool true,.bool true] A):=fun A i hi=>by
  have hmem:=List.getElem_mem hi
  obtain ⟨t,ht1,ht2⟩:∃t:Nat,xs[i].1.t=(t:Int)/\t<h.length:=by
   have:=ht _ hmem
   exact ⟨xs[i].1.t.toNat,by omega,by omega⟩
  have x1:ai 6 A ch (.int .i64 (i:Int))=some (.fp [.int .i64 xs[i].1.f,.int .i64 xs[i].1.t,.int .i64 xs[i].1.w,.int .i64 xs[i].1.k,.int .i64 (xs[i].2:Int),.int .i64 (xs[i].1.len p)]):=
   hch.index (A:=A) (i:=i) (x:=wA p xs[i]) (by simp [wAs,hi]) rfl (by omega) .i64
  have m:=Hp (p:=p) hh ht1 ht2 hpb hs1 (hw _ hmem)
  unfold wA at m
  have b1:=bp i xs.length .i64
  rw [decide_eq_true hi] at b1
  have b3:=a9 i (by omega)
  obtain ⟨i1,hi1⟩:∃i1:Nat,i1=i+1:=⟨_,rfl⟩
  rw [<-hi1] at b3 ⊢
  obtain ⟨d,hd⟩:∃d,d=kH h p sum xs[i]:=⟨_,rfl⟩
  rw [<-hd] at m ⊢
  rw [hF]
  obtain ⟨HT,hHT⟩:∃HT,we hs=.fs 1 HT:=⟨_,rfl⟩
  have fz:∀B n,frz B n (.fs 1 HT)=.fs 1 HT:=fun B n=>by cases n <;> rfl
  unfold Gh
  rw [hHT] at m ⊢
  cases d with
  | false=>simp [iK,x1,m,b1,b3,-ag,-ai,-aw]
  | true=>simp [iK,x1,m,b1,-ag,-ai,-aw]
 unfold M49
 rw [aK _ _ rfl,<-hF]
 rcases cE (E:=ax GC BH) (fuel:=300) (a:=iK) (mask:=gY) (fun i=>kW ch F (.int .i64 (xs.length:Int)) (.int .i64 (i:Int))) (fun _=>[]) xs.length (fun i=>¬ ∀hi:i<xs.length,kH h p sum xs[i]=false)
  (oF:=fun i=>.ret [ch,F,.int .i64 (i:Int),.int .i64 (i:Int),.int .i64 (xs.length:Int),.int .i64 (i:Int),.bool true,.bool true] []) (oE:=.exit 0 ((kW ch F (.int .i64 (xs.length:Int)) (.int .i64 (xs.length:Int))).set 6 (.bool false)) [])
  (fun _=>BU) (fun _ _ _ h=>by cases h) (fun _ _ h=>by cases h)
  (fun i hi hp=>by
   rw [round [] i hi]
   exact if_pos (Classical.not_not.1 hp hi))
  (fun i hi hp=>by
   rw [round [] i hi]
   exact if_neg fun h=>hp fun _=>h)
  (by simp [iK]) (show xs.length<300 by omega) with ⟨i,hi,hp,hj,lp⟩ | ⟨hp,lp⟩
 ·have lp:bZ (evC (ax GC BH) 300 iK) gY 300 (kW ch F (.int .i64 (xs.length:Int)) (.int .i64 0)) []=_:=lp
  have e:cV (kH h p sum) xs=(i:Int):=bH hi (by
   cases h':kH h p sum xs[i] with
   | true=>rfl
   | false=>exact absurd (fun _=>h') hp) (fun j hj'=>Classical.not_not.1 (hj j hj') (by omega))
  rw [e]
  simp [HQ,hlen,Bx lp,-ag,-aw]
 ·have lp:bZ (evC (ax GC BH) 300 iK) gY 300 (kW ch F (.int .i64 (xs.length:Int)) (.int .i64 0)) []=_:=lp
  have e:cV (kH h p sum) xs = -1:=bK fun i hi=>Classical.not_not.1 (hp i hi) hi
  rw [e]
  simp [HQ,hlen,Bx lp,-ag,-aw]
open Go
def oJ (p:Int) (l:List aZ) (hs:Nat->List LP):Nat->Int->List eE->List Int->Option (List Int)
 | 0,_,_,out=>some out
 | r+1,sum,ch,out=>match ch.find? (kH (hs r) p sum) with
  | none=>none
  | some b=>oJ p l hs r (sum+b.1.len p) (lY l b.1.t.toNat) (out++[(b.2:Int)])
def jq (A:aa) (s:AV) (xs:List Int):Prop:=(s=.nilS/\xs=[])\/∃id gr,s=.sl id 0 xs.length/\xs≠[]/\5<=id/\A[id]?=some (.row 1 gr (aj xs))
theorem jq.keep {A B:aa} {s:AV} {xs:List Int} (h:jq A s xs) (hAB:∀id,id∈aT s->B[id]?=A[id]?):jq B s xs:=by
 rcases h with h | ⟨id,gr,rfl,h1,h2,h3⟩
 ·exact .inl h
 ·exact .inr ⟨id,gr,rfl,h1,h2,by rw [hAB id (by simp [aT]),h3]⟩
theorem jq.low {A:aa} {s:AV} {xs:List Int} (h:jq A s xs):∀id,id∈aT s->5<=id/\id<A.length:=by
 rcases h with ⟨rfl,_⟩ | ⟨id,gr,rfl,h1,h2,h3⟩
 ·intro id h; simp [aT] at h
 ·intro j hj
  simp only [aT,List.mem_singleton] at hj
  subst hj
  exact ⟨h2,(List.getElem?_eq_some_iff.1 h3).1⟩
theorem jq.form2 {A:aa} {s:AV} {xs:List Int} (h:jq A s xs):s=.nilS\/∃i k,s=.sl i 0 k:=by
 rcases h with ⟨rfl,_⟩ | ⟨id,gr,rfl,_⟩
 ·exact .inl rfl
 ·exact .inr ⟨_,_,rfl⟩
theorem jq.append {A:aa} {s:AV} {xs:List Int} (h:jq A s xs) (z:Int) (hA:5<=A.length) (hl:xs.length<=1000) :
  ∃s' k A',aN 1 8 A s (.fs 1 [.int .i64 z])=some (.sl s' 0 k,A')/\jq A' (.sl s' 0 k) (xs++[z])/\A.length<=A'.length/\(∀j,j<A.length->j ∉ aT s->A'[j]?=A[j]?)/\(s'∈aT s\/s'=A.length):=by
 rcases h with ⟨rfl,rfl⟩ | ⟨id,gr,rfl,h1,h2,h3⟩
 ·refine ⟨A.length,1,A++[.row 1 false [.int .i64 z]],by simp [aN,aO],.inr ⟨A.length,false,rfl,by simp,hA,by simp [aj]⟩,by simp,fun j hj _=>by rw [List.getElem?_append_left hj],.inr rfl⟩
 ·have hid:=(List.getElem?_eq_some_iff.1 h3).1
  refine ⟨id,(xs++[z]).length,A.set id (.row 1 true (aj (xs++[z]))),?_,.inr ⟨id,true,rfl,by simp,h2,by simp [hid]⟩,by simp,fun j hj hn=>?_,.inl (by simp [aT])⟩
  ·simp only [aN,aO,h3]
   simp [h1,aj]
   omega
  ·rw [List.getElem?_set_ne (fun e=>hn (by simp [aT,e]))]
theorem jq.out {A:aa} {s:AV} {xs:List Int} (h:jq A s xs) (k:Nat):frz A (k+1) s=slA 1 (aj xs)/\a8 A (k+1) s=true:=by
 rcases h with ⟨rfl,rfl⟩ | ⟨id,gr,rfl,h1,h2,h3⟩
 ·exact ⟨rfl,rfl⟩
 ·constructor
  ·simp only [frz,h3,List.drop_zero]
   rw [List.take_of_length_le (by simp [aj]),rN]
   cases xs with
   | nil=>exact absurd rfl h1
   | cons x r=>rfl
  ·simp only [a8,h3,List.drop_zero]
   rw [List.take_of_length_le (by simp [aj])]
   exact sk _ _ _
def Chs (A:aa) (v:AV) (xs:List AV):Prop:=SlA 6 xs v\/(v=.sl 3 0 xs.length/\A[3]?=some (.row 6 false xs))
def wh:List (FuncId × aG):=[(100,aD 4 M49)]
@[simp] theorem Jb:aC wh 100=some (aD 4 M49):=rfl
theorem CU:∀f M,aC wh f=some M->ak Try.prog GC f M:=af (ak.of_pure E6 4) az
def Lh:MC:=.region [⟨none,.load false 1 (.var 11),none⟩,⟨some 14,.bin .geq (.tmp 0) (.cst (.int .i64 0)),none⟩]
def Lg:MC:=.region [⟨none,.mv (.var 10),none⟩,⟨none,.makeFunc (.func 101) [] [.var 5,.var 11,.var 9],none⟩,⟨none,.call (.fn 100) [.tmp 0,.tmp 1],none⟩,⟨some 12,.mv (.tmp 2),none⟩]
def Lf:MC:=.region [⟨none,.mv (.var 12),none⟩,⟨some 15,.bin .lss (.tmp 0) (.cst (.int .i64 0)),none⟩]
def Md:MC:=.region [⟨some 6,.mv (.cst .nilS),none⟩,⟨some 7,.mv (.cst (.bool false)),none⟩]
def Le:MC:=.region [⟨none,.mv (.var 10),none⟩,⟨none,.mv (.var 12),none⟩,⟨none,.indexSl 6 (.tmp 0) (.tmp 1),none⟩,⟨none,.load true 6 (.tmp 2),none⟩,⟨some 13,.alloc 6 (.agg [.int .i64 0,.int .i64 0,.int .i64 0,.int .i64 0,.int .i64 0,.int .i64 0]),none⟩,⟨none,.store 6 (.var 13) (.tmp 3),none⟩]
def Ib:MC:=.regionD [] [⟨none,.mv (.var 8),none⟩,⟨none,.fieldAddr 4 (.var 13),none⟩,⟨none,.load false 1 (.tmp 1),none⟩,⟨none,.buildF 1 [.tmp 2],none⟩,⟨none,.append 1 8 (.tmp 0) (.tmp 3),none⟩,⟨none,.load false 1 (.var 9),none⟩,⟨none,.fieldAddr 5 (.var 13),none⟩,⟨none,.load false 1 (.tmp 6),none⟩,⟨none,.bin .add (.tmp 5) (.tmp 7),none⟩,⟨none,.mv (.var 0),none⟩,⟨none,.nilCheck (.tmp 9),none⟩,⟨none,.fieldAddr 2 (.tmp 10),none⟩,⟨none,.load false 1 (.tmp 11),none⟩,⟨none,.fieldAddr 0 (.var 13),none⟩,⟨none,.fieldAddr 1 (.tmp 13),none⟩,⟨none,.load false 1 (.tmp 14),none⟩,⟨none,.indexSl 1 (.tmp 12) (.tmp 15),none⟩,⟨none,.load false 1 (.tmp 16),none⟩,⟨some 8,.mv (.tmp 4),none⟩,⟨none,.store 1 (.var 9) (.tmp 8),none⟩,⟨some 10,.mv (.tmp 17),none⟩] [(4,5),(4,6),(4,7),(4,11),(4,12),(4,13),(4,14),(4,15),(4,16),(4,17),(11,19),(12,19),(13,19),(14,19),(15,19),(16,19),(17,19)]
def Ld:MC:=.region [⟨some 16,.load false 1 (.var 11),none⟩]
def Lc:MC:=.region [⟨some 11,.alloc 1 (.int .i64 0),none⟩,⟨none,.store 1 (.var 11) (.var 16),none⟩]
def Lb:MC:=.region [⟨none,.load false 1 (.var 11),none⟩,⟨none,.bin .sub (.tmp 0) (.cst (.int .i64 1)),none⟩,⟨none,.store 1 (.var 11) (.tmp 1),none⟩]
theorem y8:ee=.seq (.seq Lh (.cond (.var 14) .skip (.exit 0))) (.seq (.seq (.block 1 (.seq Lg (.seq (.seq Lf (.cond (.var 15) (.seq Md .ret) .skip)) (.seq Le Ib)))) (.kill [1,2,3,4,6,7,12,13,14,15,16])) (.seq (.seq Ld Lc) Lb)):=rfl
abbrev s43 (W v6 v7 v8 v10 v12 v13 v14 v15 v16:AV) (lid:Nat):List AV:=[W,.undef,.undef,.undef,.undef,.ptr 1 0 0,v6,v7,v8,.ptr 2 0 0,v10,.ptr lid 0 0,v12,v13,v14,v15,v16]
theorem LA (E:Env) (fuel:Nat) (K:List KC) {A:aa} {W v6 v7 v8 v10 v12 v13 v14 v15 v16:AV} {lid:Nat} {left:Int} (h:A[lid]?=some (.row 1 false [.int .i64 left])) :
  run E fuel (.code Lh :: K) (s43 W v6 v7 v8 v10 v12 v13 v14 v15 v16 lid) A=run E fuel K (s43 W v6 v7 v8 v10 v12 v13 (.bool (decide (0<=left))) v15 v16 lid) A:=by
 have b:=io left
 simp [Lh,h,b,-ag]
theorem r43b (fuel:Nat) (K:List KC) (X Y:MC) {A:aa} {W v6 v7 v8 v10 v12 v13 v14 v15 v16 ch F:AV} {lid:Nat} {z:Int} (h1:frz A 4 v10=ch) (h2:frz A 4 (.func (.func 101) [] [.ptr 1 0 0,.ptr lid 0 0,.ptr 2 0 0])=F) (h3:M49 [ch,F]=some (.int .i64 z)) :
  run (ax GC wh) fuel (.code Lg :: .code (.seq (.seq Lf X) Y) :: K) (s43 W v6 v7 v8 v10 v12 v13 v14 v15 v16 lid) A=run (ax GC wh) fuel (.code X :: .code Y :: K) (s43 W v6 v7 v8 v10 (.int .i64 z) v13 v14 (.bool (decide (z<0))) v16 lid) A:=by
 have b:ag .lss (.int .i64 z) (.int .i64 0)=some (.bool (decide (z<0))):=by simp [ag]
 simp [Lg,Lf,h1,h2,h3,b,-ag,-frz]
theorem r43e (E:Env) (fuel:Nat) (K:List KC) {A:aa} {W q v6 v7 v8 v10 v13 v14 v15 v16:AV} {lid i:Nat} {c1 c2 c3 c4 c5 c6:Int} (h:ai 6 A v10 (.int .i64 (i:Int))=some q) (hq:ac true 6 A q=some (.agg [.int .i64 c1,.int .i64 c2,.int .i64 c3,.int .i64 c4,.int .i64 c5,.int .i64 c6])) :
  run E fuel (.code Le :: K) (s43 W v6 v7 v8 v10 (.int .i64 (i:Int)) v13 v14 v15 v16 lid) A=run E fuel K (s43 W v6 v7 v8 v10 (.int .i64 (i:Int)) (.ptr A.length 0 0) v14 v15 v16 lid) (A++[.row 6 false [.agg [.int .i64 c1,.int .i64 c2,.int .i64 c3,.int .i64 c4,.int .i64 c5,.int .i64 c6]]]):=by
 simp [Le,h,hq,-ai,-ac]
theorem r43f (E:Env) (fuel:Nat) (K:List KC) {A B:aa} {W1 v6 v7 so v10 v12 v14 v15 v16 x:AV} {lid bid jo ko t:Nat} {os:List AV} {n c1 c3 c4 c5 c6 sum:Int} (hb:A[bid]?=some (.row 6 false [.agg [.int .i64 c1,.int .i64 (t:Int),.int .i64 c3,.int .i64 c4,.int .i64 c5,.int .i64 c6]]))
  (ap:aN 1 8 A so (.fs 1 [.int .i64 c5])=some (.sl jo 0 ko,B)) (hb':B[bid]?=some (.row 6 false [.agg [.int .i64 c1,.int .i64 (t:Int),.int .i64 c3,.int .i64 c4,.int .i64 c5,.int .i64 c6]])) (h2:B[2]?=some (.row 1 false [.int .i64 sum])) (hs:so=.nilS\/∃i k,so=.sl i 0 k) (hid:∀j∈aT so,j≠2/\j≠bid) (hA2:A.length≠2) (hAb:A.length≠bid) (hb2:bid≠2)
  (hsum : -1000000000<=sum/\sum<=1000000000) (hc6 : -3000000<=c6/\c6<=3000000) (ho:os[t]?=some x) (hx:x.solid=true) (hx2:cellsOf x=[x]) :
  run E fuel (.code Ib :: K) (s43 (.fp [.int .i64 n,W1,.fs 1 os]) v6 v7 so v10 v12 (.ptr bid 0 0) v14 v15 v16 lid) A=run E fuel K (s43 (.fp [.int .i64 n,W1,.fs 1 os]) v6 v7 (.sl jo 0 ko) x v12 (.ptr bid 0 0) v14 v15 v16 lid) (B.set 2 (.row 1 false [.int .i64 (sum+c6)])):=by
 have b2:ag .add (.int .i64 sum) (.int .i64 c6)=some (.int .i64 (sum+c6)):=by
  simp only [ag]; rw [if_pos trivial,dQ (by unfold inI; omega)]
 have hix:∀C,ai 1 C (.fs 1 os) (.int .i64 (t:Int))=some (.fp [x]):=fun C=>(show SlA 1 os (.fs 1 os) from .inr rfl).index1 (A:=C) ho hx hx2 .i64
 have hA2':¬ 2=A.length:=fun e=>hA2 e.symm
 have hAb':¬ bid=A.length:=fun e=>hAb e.symm
 have hb2':¬ 2=bid:=fun e=>hb2 e.symm
 obtain ⟨s,hs'⟩:∃s,s=sum+c6:=⟨_,rfl⟩
 rw [<-hs'] at b2 ⊢
 rcases hs with rfl | ⟨i,k,rfl⟩
 ·simp [Ib,hb,ap,hb',h2,b2,hix,hA2,hAb,hb2,-ag,-ai]
 ·obtain ⟨q1,q2⟩:=hid i (by simp [aT])
  have q1':¬ 2=i:=fun e=>q1 e.symm
  have q2':¬ bid=i:=fun e=>q2 e.symm
  simp [Ib,hb,ap,hb',h2,b2,hix,hA2,hAb,hb2,q1,q2,-ag,-ai]
theorem r43i (E:Env) (fuel:Nat) (K:List KC) {A:aa} {W v6 v7 v8 v10 v12 v13 v14 v15 v16:AV} {lid:Nat} {left:Int} (h:A[lid]?=some (.row 1 false [.int .i64 left])) (hl:0<=left/\left<=100) :
  run E fuel (.code (.seq (.seq Ld Lc) Lb) :: K) (s43 W v6 v7 v8 v10 v12 v13 v14 v15 v16 lid) A=run E fuel K (s43 W v6 v7 v8 v10 v12 v13 v14 v15 (.int .i64 left) A.length) (A++[.row 1 false [.int .i64 (left-1)]]):=by
 have b2:ag .sub (.int .i64 left) (.int .i64 1)=some (.int .i64 (left-1)):=by
  simp only [ag]; rw [if_pos trivial,dQ (by unfold inI; omega)]
 obtain ⟨s,hs'⟩:∃s,s=left-1:=⟨_,rfl⟩
 rw [<-hs'] at b2 ⊢
 simp [Ld,Lc,Lb,h,b2,-ag]
theorem Aw {α:Type} (q:α->Bool) (l:List α):(l.find? q=none/\cV q l = -1)\/∃(i:Nat) (hi:i<l.length),l.find? q=some l[i]/\cV q l=(i:Int)/\q l[i]=true:=by
 unfold cV
 cases h:l.findIdx? q with
 | none=>
  left
  refine ⟨?_,rfl⟩
  rw [List.findIdx?_eq_none_iff] at h
  rw [List.find?_eq_none]
  intro x hx; rw [h x hx]; simp
 | some i=>
  right
  obtain ⟨hi,h1,h2⟩:=List.findIdx?_eq_some_iff_getElem.1 h
  refine ⟨i,hi,?_,rfl,h1⟩
  rw [List.find?_eq_some_iff_getElem]
  exact ⟨h1,i,hi,rfl,fun j hj=>by simpa using h2 j hj⟩
theorem Ea {A:aa} {v:AV} {p:Int} {xs:List eE} (h:Chs A v (wAs p xs)):SlA 6 (wAs p xs) (frz A 4 v):=by
 rcases h with h | ⟨rfl,h3⟩
 ·rw [h.frz]; exact h
 ·right
  show frz A (3+1) _=_
  simp only [frz,h3,List.drop_zero]
  rw [List.take_of_length_le (Nat.le_refl _)]
  congr 1
  unfold wAs
  rw [List.map_map]
  apply List.map_congr_left
  intro x _
  exact BJ A p x 2
theorem GT {A:aa} {v:AV} {p:Int} {xs:List eE} (h:Chs A v (wAs p xs)) {i:Nat} (hi:i<xs.length):∃q,ai 6 A v (.int .i64 (i:Int))=some q/\ac true 6 A q=some (wA p xs[i]):=by
 have hx:(wAs p xs)[i]?=some (wA p xs[i]):=by simp [wAs,hi]
 rcases h with h | ⟨rfl,h3⟩
 ·exact ⟨_,h.index (A:=A) hx rfl (by omega) .i64,by simp [ac,wA,cellsOf]⟩
 ·refine ⟨.ptr 3 i 0,?_,?_⟩
  ·simp [ai,h3]
   simp [wAs]; omega
  ·simp only [ac,h3,hx]; rfl
structure Mg (p:Int) (hs:List (List LP)) (r:Nat) (sum:Int) (ch:List eE) (out:List Int) (so v10:AV) (lid:Nat) (A:aa):Prop where
 a1:A[1]?=some (.row 1 false [we hs])
 a2:A[2]?=some (.row 1 false [.int .i64 sum])
 al:A[lid]?=some (.row 1 false [.int .i64 ((r:Int)-1)])
 lid4:4<=lid
 so_:jq A so out
 lso:lid ∉ aT so
 chs:Chs A v10 (wAs p ch)
theorem zG {n:Nat} {p:Int} {l:List aZ} {t:Nat} (ht:t<n):((List.range n).map fun v=>slA 6 (wAs p (lY l v)))[t]?=some (slA 6 (wAs p (lY l t))):=by simp [ht]
theorem wn {n:Nat} {p:Int} {l:List aZ} (hp:cn p) (hv:∀x∈l,okA n x) (hn32:n<=32) (hl200:l.length<=200) (hsL:List (List LP)) (hs:Nat->List LP) {k:Nat} (hk:k<=32) (hhs:∀r,r<k->hsL[r]?=some (hs r)/\(hs r).length=n/\PB 1000000000 (hs r)) :
  ∀(r:Nat) (sum:Int) (ch:List eE) (out:List Int) (so v10:AV) (lid:Nat) (A:aa) (m:Nat),r<m->r<=k -> -(3000000*((k:Int)-r))<=sum/\sum<=3000000*((k:Int)-r)->out.length<=k-r->(∀x∈ch,x∈num l)->ch.length<=200->Mg p hsL r sum ch out so v10 lid A ->
   ∃o,bZ (evC (ax GC wh) 300 ee) dx m (eK (cJ n p l) (.ptr 1 0 0) so (.ptr 2 0 0) v10 (.ptr lid 0 0)) A=some o /\
    match oJ p l hs r sum ch out with
    | none=>∃so' v10' lid' v12 v13 v14 v15 v16 A',o=.ret (s43 (cJ n p l) .nilS (.bool false) so' v10' v12 v13 v14 v15 v16 lid') A'
    | some res=>∃so' v10' lid' A',o=.exit 0 ((eK (cJ n p l) (.ptr 1 0 0) so' (.ptr 2 0 0) v10' (.ptr lid' 0 0)).set 14 (.bool false)) A'/\jq A' so' res:=by
 intro r
 induction r with
 | zero=>
  intro sum ch out so v10 lid A m hm _ _ _ _ _ hI
  obtain ⟨m,rfl⟩:∃j,m=j+1:=⟨m-1,by omega⟩
  have r1:=fun K=>LA (ax GC wh) 300 K (W:=cJ n p l) (v6:=.undef) (v7:=.undef) (v8:=so) (v10:=v10) (v12:=.undef) (v13:=.undef) (v14:=.undef) (v15:=.undef) (v16:=.undef) hI.al
  simp only [Int.natCast_zero,Int.zero_sub,s43] at r1
  refine ⟨.exit 0 ((eK (cJ n p l) (.ptr 1 0 0) so (.ptr 2 0 0) v10 (.ptr lid 0 0)).set 14 (.bool false)) A,?_,so,v10,lid,A,rfl,hI.so_⟩
  rw [aQ,oq,y8]
  obtain ⟨W,hW⟩:∃W,W=cJ n p l:=⟨_,rfl⟩
  rw [<-hW] at r1 ⊢
  simp [r1]
 | succ r ih=>
  intro sum ch out so v10 lid A m hm hrk hsum hout hch hcl hI
  obtain ⟨m,rfl⟩:∃j,m=j+1:=⟨m-1,by omega⟩
  obtain ⟨hh1,hh2,hh3⟩:=hhs r (by omega)
  have hleft:(((r+1:Nat):Int)-1)=(r:Int):=by omega
  have hal:=hI.al
  rw [hleft] at hal
  have r1:=fun K=>LA (ax GC wh) 300 K (W:=cJ n p l) (v6:=.undef) (v7:=.undef) (v8:=so) (v10:=v10) (v12:=.undef) (v13:=.undef) (v14:=.undef) (v15:=.undef) (v16:=.undef) hal
  rw [decide_eq_true (show (0:Int)<=(r:Int) by omega)] at r1
  have h49:=Hq (p:=p) (sum:=sum) (Ea hI.chs) hcl hh1 (fun x hx=>by
   obtain ⟨hi,e⟩:=kD (hch x hx)
   have:=hv _ (List.getElem_mem hi)
   rw [e] at this
   have h2:=this.2.1
   omega) hh3 (by omega) (fun x hx=>by
   obtain ⟨hi,e⟩:=kD (hch x hx)
   have:=hv _ (List.getElem_mem hi)
   rw [e] at this
   obtain ⟨q1,q2,q3,q4⟩:=this
   have:=gE (n:=32) (a:=x.1) ⟨by omega,by omega,q3,q4⟩ hp
   omega)
  have hfn:frz A 4 (.func (.func 101) [] [.ptr 1 0 0,.ptr lid 0 0,.ptr 2 0 0])=Gh hsL r sum:=by
   have a1:=hI.a1
   have a2:=hI.a2
   unfold Gh we at *
   simp [frz,a1,a2,hal]
  have r2:=fun K X Y=>r43b 300 K X Y (W:=cJ n p l) (v6:=.undef) (v7:=.undef) (v8:=so) (v10:=v10) (v12:=.undef) (v13:=.undef) (v14:=.bool true) (v15:=.undef) (v16:=.undef) rfl hfn h49
  rw [aQ,oq,y8]
  unfold oJ
  rcases Aw (kH (hs r) p sum) ch with ⟨q1,q2⟩ | ⟨i,hi,q1,q2,q3⟩
  ·rw [q1]
   rw [q2] at r2
   rw [decide_eq_true (show (-1:Int)<0 by omega)] at r2
   refine ⟨.ret (s43 (cJ n p l) .nilS (.bool false) so v10 (.int .i64 (-1)) .undef (.bool true) (.bool true) .undef lid) A,?_,so,v10,lid,_,_,_,_,_,A,rfl⟩
   obtain ⟨W,hW⟩:∃W,W=cJ n p l:=⟨_,rfl⟩
   rw [<-hW] at r1 r2 ⊢
   simp only [s43] at r1 r2
   simp [r1,r2,Md]
  ·rw [q1]
   rw [q2] at r2
   rw [decide_eq_false (show ¬ (i:Int)<0 by omega)] at r2
   obtain ⟨b,hb⟩:∃b,b=ch[i]:=⟨_,rfl⟩
   have hbm:=hch _ (List.getElem_mem hi)
   rw [<-hb] at hbm
   obtain ⟨hbi,hbe⟩:=kD hbm
   have hok:=hv _ (List.getElem_mem hbi)
   rw [hbe] at hok
   obtain ⟨o1,o2,o3,o4⟩:=hok
   obtain ⟨t,ht1,ht2⟩:=nF o2
   have hw:=gE (n:=32) (a:=b.1) ⟨by omega,by omega,o3,o4⟩ hp
   obtain ⟨q,e1,e2⟩:=GT hI.chs hi
   rw [<-hb] at e2
   have hwb:wA p b=.agg [.int .i64 b.1.f,.int .i64 (t:Int),.int .i64 b.1.w,.int .i64 b.1.k,.int .i64 (b.2:Int),.int .i64 (b.1.len p)]:=by unfold wA; rw [ht1]
   rw [hwb] at e2
   have r3:=fun K=>r43e (ax GC wh) 300 K (W:=cJ n p l) (v6:=.undef) (v7:=.undef) (v8:=so) (v13:=.undef) (v14:=.bool true) (v15:=.bool false) (v16:=.undef) (lid:=lid) e1 e2
   rw [<-hwb] at r3
   obtain ⟨B,hB⟩:∃B,B=A++[.row 6 false [wA p b]]:=⟨_,rfl⟩
   rw [<-hB] at r3
   have hBo:∀j,j<A.length->B[j]?=A[j]?:=fun j hj=>by rw [hB,List.getElem?_append_left hj]
   have hBl:B.length=A.length+1:=by rw [hB]; simp
   have hBb:B[A.length]?=some (.row 6 false [wA p b]):=by rw [hB]; simp
   have hlA:=(List.getElem?_eq_some_iff.1 hal).1
   have hl4:=hI.lid4
   have hso:=hI.so_.low
   have soB:jq B so out:=hI.so_.keep fun j hj=>hBo j (hso j hj).2
   obtain ⟨jo,ko,C,ap,s2,c1,c2,c3⟩:=soB.append (b.2:Int) (by omega) (by omega)
   have hCo:∀j,j<A.length->j ∉ aT so->C[j]?=A[j]?:=fun j hj hn=>by rw [c2 j (by omega) hn,hBo j hj]
   have h2so:2 ∉ aT so:=fun h=>by have:=hso 2 h; omega
   have hC2:=(hCo 2 (by omega) h2so).trans hI.a2
   have hbso:A.length ∉ aT so:=fun h=>by have:=hso _ h; omega
   have hCb:=(c2 A.length (by omega) hbso).trans hBb
   rw [hwb] at hBb hCb
   have r4:=fun K=>r43f (ax GC wh) 300 K (A:=B) (B:=C) (W1:=slA 6 (wAs p (num l))) (v6:=.undef) (v7:=.undef) (so:=so) (v10:=v10) (v12:=.int .i64 (i:Int)) (v14:=.bool true) (v15:=.bool false) (v16:=.undef) (x:=slA 6 (wAs p (lY l t))) (lid:=lid) (bid:=A.length) (n:=(n:Int)) hBb ap hCb hC2 soB.form2 (fun j hj=>⟨by have:=(hso j hj).1; omega,by have:=(hso j hj).2; omega⟩) (by omega) (by omega) (by omega) (by omega) (by omega) (zG (p:=p) (l:=l) (show t<n by omega)) (wM _ _) (tK _ _)
   obtain ⟨D,hD⟩:∃D,D=C.set 2 (.row 1 false [.int .i64 (sum+b.1.len p)]):=⟨_,rfl⟩
   have hDo:∀j,j≠2->D[j]?=C[j]?:=fun j hj=>by rw [hD,List.getElem?_set_ne (Ne.symm hj)]
   have hDl:D.length=C.length:=by rw [hD]; simp
   rw [<-hD] at r4
   have hDlid:D[lid]?=some (.row 1 false [.int .i64 (r:Int)]):=by rw [hDo lid (by omega),hCo lid hlA hI.lso]; exact hal
   have r5:=fun K=>r43i (ax GC wh) 300 K (A:=D) (W:=cJ n p l) (v6:=.undef) (v7:=.undef) (v8:=.sl jo 0 ko) (v10:=slA 6 (wAs p (lY l t))) (v12:=.undef) (v13:=.undef) (v14:=.undef) (v15:=.undef) (v16:=.undef) hDlid (by omega)
   obtain ⟨F,hF⟩:∃F,F=D++[.row 1 false [.int .i64 ((r:Int)-1)]]:=⟨_,rfl⟩
   rw [<-hF] at r5
   have hFo:∀j,j<D.length->F[j]?=D[j]?:=fun j hj=>by rw [hF,List.getElem?_append_left hj]
   have htt:b.1.t.toNat=t:=by omega
   have hs2:=s2.low
   have hIH:=ih (sum+b.1.len p) (lY l t) (out++[(b.2:Int)]) (.sl jo 0 ko) (slA 6 (wAs p (lY l t))) D.length F m (by omega) (by omega) (by omega) (by simp; omega) (fun x hx=>(List.mem_filter.1 hx).1) (Nat.le_trans (um l t) hl200) {
    a1:=by
     rw [hFo 1 (by omega),hDo 1 (by omega),hCo 1 (by omega) (fun h=>by have:=hso 1 h; omega)]; exact hI.a1
    a2:=by rw [hFo 2 (by omega),hD]; exact List.getElem?_set_self (by omega)
    al:=by rw [hF]; simp
    lid4:=by omega
    so_:=s2.keep fun j hj=>by
     have:=hs2 j hj
     rw [hFo j (by omega),hDo j (by omega)]
    lso:=fun h=>by have:=hs2 _ h; omega
    chs:=.inl (bb _ _)}
   obtain ⟨o,k1,k2⟩:=hIH
   simp only [<-hb,htt]
   refine ⟨o,?_,k2⟩
   obtain ⟨O,hO⟩:∃O,O=(List.range n).map fun v=>slA 6 (wAs p (lY l v)):=⟨_,rfl⟩
   obtain ⟨W1,hW1⟩:∃W1,W1=slA 6 (wAs p (num l)):=⟨_,rfl⟩
   have hW:cJ n p l=.fp [.int .i64 (n:Int),W1,.fs 1 O]:=by rw [hO,hW1]; rfl
   rw [<-hO,<-hW1] at r4
   rw [hW] at r1 r2 r3 r5 k1 ⊢
   obtain ⟨Z,hZ⟩:∃Z,Z=slA 6 (wAs p (lY l t)):=⟨_,rfl⟩
   rw [<-hZ] at r4 r5 k1
   simp only [s43] at r1 r2 r3 r4 r5
   simp [r1,r2,r3,r4,r5]
   rw [<-y8,pL,oq]; exact k1
def M43:aP:=fun args=>evF (ax GC wh) 300 zn 5 args
theorem CE:bY Try.prog GC 93 M43:=bY.of_ev (E:=ax GC wh) (aq CU) rfl KR x7 5 fun _ _ h=>⟨300,h⟩
def Bs (L:List da) (n to k:Nat):List (List LP):=(List.range (k+1)).map fun j=>hm L n to j
theorem DZ (L:List da) (n to k:Nat):.fs 1 (wg L n to k)=we (Bs L n to k):=by
 unfold wg we Bs; rw [List.map_map]; rfl
theorem Aq (L:List da) (n to:Nat) {k r:Nat} (h:r<=k):(Bs L n to k)[r]?=some (hm L n to r):=by
 unfold Bs; rw [List.getElem?_map,List.getElem?_range (by omega)]; rfl
def wq (r:Option (List Int)):AV:=match r with
 | none=>.tup [.nilS,.bool false]
 | some xs=>.tup [slA 1 (aj xs),.bool true]
theorem vi {n to:Nat} {p:Int} {l:List aZ} (hr:ce n l p) {k:Nat} (hk1:1<=k) (hk:k<=32) {a:eE} (ha:a∈num l) :
  M43 [cJ n p l,wA p a,.fs 1 (wg (lar p l) n to k),.int .i64 (k:Int)]=some (wq (oJ p l (hm (lar p l) n to) k 0 [a] [])):=by
 obtain ⟨⟨hn,hl200,hv⟩,hp⟩:=hr
 have hn32:n<=32:=by omega
 have hok:=uA hn32 hp hv
 rw [DZ]
 have b0:ag .sub (.int .i64 (k:Int)) (.int .i64 1)=some (.int .i64 ((k:Int)-1)):=by
  simp only [ag]; rw [if_pos trivial,dQ (by unfold inI; omega)]
 have hI:Mg p (Bs (lar p l) n to k) k 0 [a] [] .nilS (.sl 3 0 1) 4 [.row 6 false [wA p a],.row 1 false [we (Bs (lar p l) n to k)],.row 1 false [.int .i64 0],.row 6 false [wA p a],.row 1 false [.int .i64 ((k:Int)-1)]]:=
  {a1:=rfl,a2:=rfl,al:=rfl,lid4:=by omega,so_:=.inl ⟨rfl,rfl⟩,lso:=by simp [aT],chs:=.inr ⟨rfl,rfl⟩}
 obtain ⟨o,h1,h2⟩:=wn hp hv hn32 hl200 (Bs (lar p l) n to k) (hm (lar p l) n to) hk (fun r hr=>⟨Aq _ _ _ (by omega),uE _ _ _ _,fun v=>by
  have:=D4 hok to r v
  omega⟩) k 0 [a] [] .nilS (.sl 3 0 1) 4 _ 300 (by omega) (Nat.le_refl _) (by omega) (by simp) (fun x hx=>by
  have:x=a:=by simpa using hx
  rw [this]; exact ha) (by simp) hI
 unfold M43
 rw [jj _ _ rfl]
 obtain ⟨W,hW⟩:∃W,W=cJ n p l:=⟨_,rfl⟩
 obtain ⟨HT,hHT⟩:∃HT,we (Bs (lar p l) n to k)=.fs 1 HT:=⟨_,rfl⟩
 rw [hHT] at h1 ⊢
 rw [<-hW] at h1 h2 ⊢
 unfold wA at h1 ⊢
 obtain ⟨k1,hk1'⟩:∃k1,k1=(k:Int)-1:=⟨_,rfl⟩
 rw [<-hk1'] at b0 h1
 cases hw:oJ p l (hm (lar p l) n to) k 0 [a] [] with
 | none=>
  rw [hw] at h2
  obtain ⟨so',v10',lid',v12,v13,v14,v15,v16,A',rfl⟩:=h2
  simp [zn,b0,rJ h1,wq,dK,a8,frz,-ag]
 | some xs=>
  rw [hw] at h2
  obtain ⟨so',v10',lid',A',rfl,hs⟩:=h2
  obtain ⟨q1,q2⟩:=hs.out 3
  have z1:frz A' 5 (.tup [so',.bool true])=.tup [slA 1 (aj xs),.bool true]:=by
   show AV.tup [frz A' 4 so',frz A' 4 (.bool true)]=_
   rw [q1]; rfl
  have z2:a8 A' 5 (.tup [so',.bool true])=true:=by
   show [so',.bool true].all (a8 A' 4)=true
   simp only [List.all_cons,q2]; rfl
  have p1:dK [so',.bool true]=.tup [so',.bool true]:=rfl
  simp [zn,b0,rJ h1,wq,z1,z2,-ag,-frz]
open Go
def pO (p:Int) (l:List aZ) (n k:Nat) (f:Int):AV:=.fs 1 (wg (lar p l) n f.toNat k)
def kB (l:List aZ):List Int:=l.foldl (fun s a=>if a.f∈s then s else s++[a.f]) []
theorem vA (l:List aZ) (i:Nat) (hi:i<l.length):kB (l.take (i+1))=if l[i].f∈kB (l.take i) then kB (l.take i) else kB (l.take i)++[l[i].f]:=by
 unfold kB
 rw [List.take_succ_eq_append_getElem hi,List.foldl_append]
 rfl
def sC (G:Int->AV) (s:List Int):List (AV × AV):=s.map fun w=>(.int .i64 w,G w)
theorem uK (G:Int->AV) (w:Int):∀(s:List Int) (i:Nat),w∈s->∃q,fY (.int .i64 w) (sC G s) i=some (some (q,G w))
 | [],_,h=>by cases h
 | x :: s,i,h=>by
  by_cases hx:x=w
  ·subst hx
   exact ⟨i,by simp [sC,fY,lZ]⟩
  ·have hw:w∈s:=by
    rcases List.mem_cons.1 h with e | e
    ·exact absurd e.symm hx
    ·exact e
   obtain ⟨q,h1⟩:=uK G w s (i+1) hw
   refine ⟨q,?_⟩
   simp only [sC,List.map_cons,fY,lZ] at h1 ⊢
   simp only [if_true,beq_eq_false_iff_ne.2 (Ne.symm hx)]
   exact h1
theorem nV (G:Int->AV) (w:Int):∀(s:List Int) (i:Nat),w ∉ s->fY (.int .i64 w) (sC G s) i=some none
 | [],_,_=>rfl
 | x :: s,i,h=>by
  have hx:¬ w=x:=fun e=>h (by simp [e])
  have:=nV G w s (i+1) (fun e=>h (by simp [e]))
  simp only [sC,List.map_cons,fY,lZ] at this ⊢
  simp only [if_true,beq_eq_false_iff_ne.2 hx]
  exact this
theorem uw {G:Int->AV} {s:List Int} {w:Int} {B:aa} {M:Nat} (hB:B[M]?=some (.map (sC G s))) (h:w∈s) (ok:Bool):cd ok .nilS B (.map M) (.int .i64 w)=some (if ok then .tup [G w,.bool true] else G w):=by
 obtain ⟨q,h1⟩:=uK G w s 0 h
 simp only [cd,hB,h1]
theorem xe {G:Int->AV} {s:List Int} {w:Int} {B:aa} {M:Nat} (hB:B[M]?=some (.map (sC G s))) (h:w ∉ s) (ok:Bool):cd ok .nilS B (.map M) (.int .i64 w)=some (if ok then .tup [.nilS,.bool false] else .nilS):=by
 simp only [cd,hB,nV G w s 0 h]
theorem zH {G:Int->AV} {s:List Int} {w:Int} {B:aa} {M:Nat} (hB:B[M]?=some (.map (sC G s))) (h:w ∉ s):bq B (.map M) (.int .i64 w) (G w)=some (B.set M (.map (sC G (s++[w])))):=by
 simp only [bq,hB,nV G w s 0 h]
 simp [sC]
def TT (p:Int) (l:List aZ) (i:Nat):aa:=((num l).take i).flatMap fun x=>[.row 6 false [wA p x],.row 6 false [wA p x]]
theorem El (p:Int) (l:List aZ) (i:Nat) (hi:i<l.length):TT p l (i+1)=TT p l i++[.row 6 false [wA p (l[i],i)],.row 6 false [wA p (l[i],i)]]:=by
 unfold TT
 have h:=eY l i hi
 obtain ⟨h1,h2⟩:=List.getElem?_eq_some_iff.1 h
 rw [List.take_succ_eq_append_getElem h1,List.flatMap_append,h2]
 rfl
theorem bc.consF {G:Nat->Option (List AV)} {fs:List (FuncId × aG)} {h0:aS} {f:FuncId} {pu:List FuncId} {M:aP} (h:aC fs f=some (cz 4 M)) (hr:bc (dq G fs h0) pu):bc (dq G fs h0) (f :: pu):=by
 intro k hk hh args A r A' he
 rcases List.mem_cons.1 hk with rfl | hk
 ·simp only [dq,jp,h,cz,zZ,List.nil_append,List.append_nil] at he ⊢
  rw [Option.map_eq_some_iff] at he
  obtain ⟨r',hM,he⟩:=he
  simp only [Prod.mk.injEq] at he
  obtain ⟨rfl,rfl⟩:=he
  refine ⟨rfl,fun hn B=>?_⟩
  have hm:args.map (frz B 4)=args.map (frz A 4):=List.map_congr_left fun x hx=>ro 4 x (List.all_eq_true.1 hn x hx)
  rw [hm,hM]; rfl
 ·exact hr k hk hh args A r A' he
def vM:List (FuncId × aG):=[(99,cz 4 M48)]
@[simp] theorem I7:aC vM 99=some (cz 4 M48):=rfl
theorem CR:∀f M,aC vM f=some M->ak Try.prog GC f M:=af (ak.of_pureF CD 4) az
def H47:aG:=fun hd=>bR (dq GC vM hd) 300 Be
theorem t9:ak Try.prog GC 98 H47:=bV CR KN xZ (bc.consF (M:=M48) rfl bc.nil)
def H42:aG:=fun hd=>bR (dq GC [] hd) 0 xa
theorem pn:ak Try.prog GC 92 H42:=bV az GZ r8
theorem ev42 (h:aS) (w:List AV) (k:Int) (A:aa):H42 h [.fp w,.int .i64 k] A=some (.func (.func 98) [] [.ptr A.length 0 0,.ptr (A.length+1) 0 0],A++[.row 1 false [.fp w],.row 1 false [.int .i64 k]]):=by
 unfold H42
 rw [a6 _ _ rfl]
 simp [xa]
def La:MC:=.region [⟨none,.indexSl 6 (.var 6) (.var 8),none⟩,⟨none,.load true 6 (.tmp 0),none⟩,⟨some 4,.alloc 6 (.agg [.int .i64 0,.int .i64 0,.int .i64 0,.int .i64 0,.int .i64 0,.int .i64 0]),none⟩,⟨none,.store 6 (.var 4) (.tmp 1),none⟩]
def Hc:MC:=.region [⟨none,.mv (.var 3),none⟩,⟨none,.fieldAddr 0 (.var 4),none⟩,⟨none,.fieldAddr 0 (.tmp 1),none⟩,⟨none,.load false 1 (.tmp 2),none⟩,⟨none,.lookup 1 true .nilS (.tmp 0) (.tmp 3),none⟩,⟨none,.mv (.tmp 4),none⟩,⟨none,.extract (.tmp 5) 0,none⟩,⟨none,.extract (.tmp 5) 1,none⟩,⟨none,.mv (.tmp 6),none⟩,⟨some 5,.mv (.tmp 7),none⟩]
def Hb:MC:=.region [⟨none,.mv (.var 5),none⟩,⟨some 10,.un .not (.tmp 0),none⟩]
def K9:MC:=.region [⟨none,.mv (.var 3),none⟩,⟨none,.fieldAddr 0 (.var 4),none⟩,⟨none,.fieldAddr 0 (.tmp 1),none⟩,⟨none,.load false 1 (.tmp 2),none⟩,⟨none,.load false 1 (.var 1),none⟩,⟨none,.fieldAddr 0 (.var 4),none⟩,⟨none,.fieldAddr 0 (.tmp 5),none⟩,⟨none,.load false 1 (.tmp 6),none⟩,⟨none,.load false 1 (.var 2),none⟩,⟨none,.call (.fn 99) [.tmp 4,.tmp 7,.tmp 8],none⟩,⟨none,.mapUpdate 1 (.tmp 0) (.tmp 3) (.tmp 9),none⟩]
def Ha:MC:=.region [⟨none,.mv (.var 0),none⟩,⟨none,.load true 6 (.var 4),none⟩,⟨none,.mv (.var 3),none⟩,⟨none,.fieldAddr 0 (.var 4),none⟩,⟨none,.fieldAddr 0 (.tmp 3),none⟩,⟨none,.load false 1 (.tmp 4),none⟩,⟨none,.lookup 1 false .nilS (.tmp 2) (.tmp 5),none⟩,⟨none,.call (.tmp 0) [.tmp 1,.tmp 6],none⟩,⟨some 11,.un .not (.tmp 7),none⟩]
def G9:MC:=.region [⟨none,.bin .add (.var 8) (.cst (.int .i64 1)),none⟩,⟨some 8,.mv (.tmp 0),none⟩]
theorem vf:iL=.seq (.region [⟨some 9,.bin .lss (.var 8) (.var 7),none⟩]) (.seq (.cond (.var 9) .skip (.exit 0)) (.seq (.seq (.block 1 (.seq La (.seq (.seq Hc (.seq Hb (.cond (.var 10) K9 .skip))) (.seq Ha (.cond (.var 11) .ret .skip))))) (.kill [4,5,9,10,11])) G9)):=rfl
def A47 (p:Int) (l:List aZ) (n k:Nat) (X:aa) (i:Nat):aa:=X ++ .map (sC (pO p l n k) (kB (l.take i))) :: TT p l i
def P47 (p:Int) (l:List aZ) (n k:Nat) (X:aa) (i:Nat) (a:aZ):aa:=X ++ .map (sC (pO p l n k) (kB (l.take (i+1)))) :: (TT p l i++[.row 6 false [wA p (a,i)]])
theorem r47a (E:Env) (fuel:Nat) (K:List KC) (A:aa) {p:Int} {l:List aZ} {i:Nat} (hi:i<l.length) (v0 v1 v2 v3 v4 v5 v7 v9 v10 v11:AV) :
  run E fuel (.code La :: K) [v0,v1,v2,v3,v4,v5,slA 6 (wAs p (num l)),v7,.int .i64 (i:Int),v9,v10,v11] A =
   run E fuel K [v0,v1,v2,v3,.ptr A.length 0 0,v5,slA 6 (wAs p (num l)),v7,.int .i64 (i:Int),v9,v10,v11] (A++[.row 6 false [wA p (l[i],i)]]):=by
 have x1:=qW p hi A .i64
 obtain ⟨W,hW⟩:∃W,W=slA 6 (wAs p (num l)):=⟨_,rfl⟩
 rw [<-hW] at x1 ⊢
 simp [La,x1,wA,-ai]
theorem sX (h:aS) (L:Nat) {X:aa} {n k wp kp:Nat} {p:Int} {l:List aZ} (hr:ce n l p) (hk:k<=32) (hw:X[wp]?=some (.row 1 false [cJ n p l])) (hkp:X[kp]?=some (.row 1 false [.int .i64 (k:Int)])) {i:Nat} (hi:i<l.length) {b:Bool} {A':aa}
  (hy:h (.func (.yield L) [] []) [wA p (l[i],i),pO p l n k l[i].f] (P47 p l n k X i l[i])=some (.bool b,A')) :
  ∃d4 d5 d9 d10 d11,run (dq GC vM h) 300 [.code iL] (jy (.func (.yield L) [] []) (.ptr wp 0 0) (.ptr kp 0 0) (.map X.length) (slA 6 (wAs p (num l))) (.int .i64 (l.length:Int)) (.int .i64 (i:Int))) (A47 p l n k X i) =
   if b=true then some (.normal (jy (.func (.yield L) [] []) (.ptr wp 0 0) (.ptr kp 0 0) (.map X.length) (slA 6 (wAs p (num l))) (.int .i64 (l.length:Int)) (.int .i64 ((i+1:Nat):Int))) A')
   else some (.ret [.func (.yield L) [] [],.ptr wp 0 0,.ptr kp 0 0,.map X.length,d4,d5,slA 6 (wAs p (num l)),.int .i64 (l.length:Int),.int .i64 (i:Int),d9,d10,d11] A'):=by
 have hmem:=hr.1.2.2 _ (List.getElem_mem hi)
 obtain ⟨f,hf,hfn⟩:=nF hmem.1
 have hl200:=hr.1.2.1
 have hn32:=hr.1.1
 obtain ⟨B,hB⟩:∃B,B=A47 p l n k X i++[.row 6 false [wA p (l[i],i)]]:=⟨_,rfl⟩
 have hBX:∀j,j<X.length->B[j]?=X[j]?:=fun j hj=>by rw [hB,A47,List.append_assoc,List.getElem?_append_left hj]
 have hwl:=(List.getElem?_eq_some_iff.1 hw).1
 have hkl:=(List.getElem?_eq_some_iff.1 hkp).1
 have hBw:=(hBX wp hwl).trans hw
 have hBk:=(hBX kp hkl).trans hkp
 have hBM:B[X.length]?=some (.map (sC (pO p l n k) (kB (l.take i)))):=by
  rw [hB,A47,List.append_assoc,List.getElem?_append_right (Nat.le_refl _)]; simp
 obtain ⟨M,hM⟩:∃M,M=X.length:=⟨_,rfl⟩
 obtain ⟨i8,hi8⟩:∃i8,i8=(A47 p l n k X i).length:=⟨_,rfl⟩
 have hlow:M<i8:=by rw [hi8,hM]; simp [A47]
 have hB8:B[i8]?=some (.row 6 false [wA p (l[i],i)]):=by rw [hB,hi8]; simp
 have r1:=fun K=>r47a (dq GC vM h) 300 K (A47 p l n k X i) (p:=p) hi (.func (.yield L) [] []) (.ptr wp 0 0) (.ptr kp 0 0) (.map X.length) .undef .undef (.int .i64 (l.length:Int)) (.bool true) .undef .undef
 rw [<-hB,<-hi8,<-hM] at r1
 rw [<-hM] at hBM ⊢
 have hst:=vA l i hi
 rw [hf] at hst hy
 obtain ⟨G,hG⟩:∃G,G=pO p l n k:=⟨_,rfl⟩
 have m48:M48 [cJ n p l,.int .i64 (f:Int),.int .i64 (k:Int)]=some (G (f:Int)):=by
  rw [Hr hr (by omega) hk,hG]; unfold pO; rw [Int.toNat_natCast]
 have hGf:∃T,G (f:Int)=.fs 1 T:=⟨wg (lar p l) n f k,by rw [hG]; unfold pO; rw [Int.toNat_natCast]⟩
 have b1:=bp i l.length .i64
 rw [decide_eq_true hi] at b1
 have b3:=a9 i (by omega)
 obtain ⟨i1,hi1⟩:∃i1:Nat,i1=i+1:=⟨_,rfl⟩
 rw [<-hi1] at b3 ⊢
 rw [<-hG] at hBM hy
 obtain ⟨T,hT⟩:=hGf
 have hnw:wA p (l[i],i)=.agg [.int .i64 (f:Int),.int .i64 l[i].t,.int .i64 l[i].w,.int .i64 l[i].k,.int .i64 (i:Int),.int .i64 (l[i].len p)]:=by unfold wA; rw [hf]
 rw [hnw] at hB8 hy
 obtain ⟨A1,hA1⟩:∃A1,A1=A47 p l n k X i:=⟨_,rfl⟩
 rw [<-hA1] at r1 ⊢
 obtain ⟨W1,O,hW,hW1⟩:∃W1 O,cJ n p l=.fp [.int .i64 (n:Int),W1,O]/\W1=slA 6 (wAs p (num l)):=⟨_,_,rfl,rfl⟩
 have hWfz:∀B n,frz B n W1=W1:=fun B n=>by rw [hW1]; exact tB B n 6 _
 rw [<-hW1] at r1 ⊢
 by_cases hs:(f:Int)∈kB (l.take i)
 ·rw [if_pos hs] at hst
  have hP:P47 p l n k X i l[i]=B:=by
   rw [hB,P47,A47,hst]; simp
  rw [hP] at hy
  have lk:=fun ok=>uw hBM hs ok
  have lk1:=lk true
  have lk2:=lk false
  simp only [if_true,Bool.false_eq_true,if_false] at lk1 lk2
  cases b with
  | true=>
   refine ⟨.undef,.undef,.undef,.undef,.undef,?_⟩
   rw [vf]
   simp [b1,b3,r1,Hc,Hb,Ha,G9,hB8,lk1,lk2,hy,-ag,-cd]
  | false=>
   refine ⟨.ptr i8 0 0,.bool true,.bool true,.bool false,.bool true,?_⟩
   rw [vf]
   simp [b1,r1,Hc,Hb,Ha,G9,hB8,lk1,lk2,hy,-ag,-cd]
 ·rw [if_neg hs] at hst
  have up:=zH hBM hs
  obtain ⟨C,hC⟩:∃C,C=B.set M (.map (sC G (kB (l.take i)++[(f:Int)]))):=⟨_,rfl⟩
  have hP:P47 p l n k X i l[i]=C:=by
   rw [hC,hB,P47,A47,hst,hM,List.append_assoc,List.set_append_right _ _ (Nat.le_refl _),<-hG]; simp
  rw [hP] at hy
  rw [<-hC] at up
  have hCM:C[M]?=some (.map (sC G (kB (l.take i)++[(f:Int)]))):=by rw [hC]; exact List.getElem?_set_self (List.getElem?_eq_some_iff.1 hBM).1
  have hC8:=(show C[i8]?=B[i8]? by rw [hC,List.getElem?_set_ne (by omega)]).trans hB8
  have lk1:=xe hBM hs true
  have lk2:=uw hCM (show (f:Int)∈kB (l.take i)++[(f:Int)] by simp) false
  simp only [if_true,Bool.false_eq_true,if_false] at lk1 lk2
  rw [hW] at hBw m48
  rw [hT] at up lk2 m48 hy
  have hfz1:∀B,frz B 4 (.fp [.int .i64 (n:Int),W1,O])=.fp [.int .i64 (n:Int),W1,O]:=fun _=>rfl
  cases b with
  | true=>
   refine ⟨.undef,.undef,.undef,.undef,.undef,?_⟩
   rw [vf]
   simp [b1,b3,r1,Hc,Hb,K9,Ha,G9,hB8,hC8,hBw,hBk,lk1,lk2,m48,up,hy,-ag,-cd,-bq]
  | false=>
   refine ⟨.ptr i8 0 0,.bool false,.bool true,.bool true,.bool true,?_⟩
   rw [vf]
   simp [b1,r1,Hc,Hb,K9,Ha,G9,hB8,hC8,hBw,hBk,lk1,lk2,m48,up,hy,-ag,-cd,-bq]
theorem vu (p:Int) (l:List aZ) (n k:Nat) (X:aa):A47 p l n k X 0=X++[.map []]:=by
 simp [A47,TT,kB,sC]
theorem ev47 (h:aS) (L:Nat) {X:aa} {n k wp kp:Nat} {p:Int} {l:List aZ} (hr:ce n l p) (hk:k<=32) (hw:X[wp]?=some (.row 1 false [cJ n p l])) (hkp:X[kp]?=some (.row 1 false [.int .i64 (k:Int)])) (m:Nat) (hm:m<=l.length)
  (hno:∀i (hi:i<l.length),i<m->h (.func (.yield L) [] []) [wA p (l[i],i),pO p l n k l[i].f] (P47 p l n k X i l[i])=some (.bool true,A47 p l n k X (i+1)))
  (Z:aa) (hyes:∀hi:m<l.length,h (.func (.yield L) [] []) [wA p (l[m],m),pO p l n k l[m].f] (P47 p l n k X m l[m])=some (.bool false,Z)) :
  H47 h [.func (.yield L) [] [],.ptr wp 0 0,.ptr kp 0 0] X=some (.tup [],if m<l.length then Z else A47 p l n k X l.length):=by
 have hl200:=hr.1.2.1
 have hwl:=(List.getElem?_eq_some_iff.1 hw).1
 have hw':(X++[Ent.map []])[wp]?=some (.row 1 false [cJ n p l]):=by rw [List.getElem?_append_left hwl]; exact hw
 have hlen2:aw (slA 6 (wAs p (num l)))=some (.int .i64 (l.length:Int)):=by rw [qt,qc]
 unfold H47
 rw [a6 _ _ rfl]
 obtain ⟨W1,O,hW,hW1⟩:∃W1 O,cJ n p l=.fp [.int .i64 (n:Int),W1,O]/\W1=slA 6 (wAs p (num l)):=⟨_,_,rfl,rfl⟩
 by_cases hml:m<l.length
 ·rw [if_pos hml]
  obtain ⟨d4,d5,d9,d10,d11,hlast⟩:=sX h L hr hk hw hkp hml (hyes hml)
  rw [if_neg (by simp)] at hlast
  have lp:=qu (E:=dq GC vM h) (fuel:=300) (a:=iL) (mask:=fN) (fun i=>jy (.func (.yield L) [] []) (.ptr wp 0 0) (.ptr kp 0 0) (.map X.length) (slA 6 (wAs p (num l))) (.int .i64 (l.length:Int)) (.int .i64 (i:Int))) (fun i=>A47 p l n k X i) m
   (fun _=>ym) (fun _ _ h=>by cases h) (fun i hi=>by
    obtain ⟨_,_,_,_,_,hl⟩:=sX h L hr hk hw hkp (show i<l.length by omega) (hno i (by omega) hi)
    rw [if_pos rfl] at hl
    exact hl) hlast (show m<300 by omega)
  have lp:bZ (evC (dq GC vM h) 300 iL) fN 300 (jy (.func (.yield L) [] []) (.ptr wp 0 0) (.ptr kp 0 0) (.map X.length) (slA 6 (wAs p (num l))) (.int .i64 (l.length:Int)) (.int .i64 0)) (A47 p l n k X 0)=_:=lp
  rw [vu] at lp
  rw [hW] at hw'
  rw [<-hW1] at lp hlen2
  simp [Be,hw',hlen2,By lp,dK,-aw]
 ·rw [if_neg hml]
  have hml':m=l.length:=by omega
  have lp:=qu (E:=dq GC vM h) (fuel:=300) (a:=iL) (mask:=fN) (fun i=>jy (.func (.yield L) [] []) (.ptr wp 0 0) (.ptr kp 0 0) (.map X.length) (slA 6 (wAs p (num l))) (.int .i64 (l.length:Int)) (.int .i64 (i:Int))) (fun i=>A47 p l n k X i) l.length
   (o:=.exit 0 ((jy (.func (.yield L) [] []) (.ptr wp 0 0) (.ptr kp 0 0) (.map X.length) (slA 6 (wAs p (num l))) (.int .i64 (l.length:Int)) (.int .i64 (l.length:Int))).set 9 (.bool false)) (A47 p l n k X l.length))
   (fun _=>ym) (fun _ _ h=>by cases h) (fun i hi=>by
    obtain ⟨_,_,_,_,_,hl⟩:=sX h L hr hk hw hkp hi (hno i hi (by omega))
    rw [if_pos rfl] at hl
    exact hl) (by simp [iL]) (show l.length<300 by omega)
  have lp:bZ (evC (dq GC vM h) 300 iL) fN 300 (jy (.func (.yield L) [] []) (.ptr wp 0 0) (.ptr kp 0 0) (.map X.length) (slA 6 (wAs p (num l))) (.int .i64 (l.length:Int)) (.int .i64 0)) (A47 p l n k X 0)=_:=lp
  rw [vu] at lp
  rw [hW] at hw'
  rw [<-hW1] at lp hlen2
  simp [Be,hw',hlen2,By lp,dK,-aw]
open Go
def wk (p:Int) (l:List aZ) (n k:Nat) (x:eE):Option (List Int):=oJ p l (hm (lar p l) n x.1.f.toNat) k 0 [x] []
def eA (p:Int) (l:List aZ) (n k:Nat):Option (List Int):=(num l).findSome? (wk p l n k)
def qI (p:Int) (l:List aZ) (n:Nat):Option (List Int):=(List.range n).findSome? fun j=>eA p l n (j+1)
def gG:List (FuncId × aG):=[(92,H42),(93,cz 4 M43),(98,H47)]
@[simp] theorem JC:aC gG 92=some H42:=rfl
@[simp] theorem JB:aC gG 93=some (cz 4 M43):=rfl
@[simp] theorem JA:aC gG 98=some H47:=rfl
theorem qe:∀f M,aC gG f=some M->ak Try.prog GC f M:=af pn (af (ak.of_pureF CE 4) (af t9 az))
theorem yL (h0:aS) {Q:aa} {n k wb rb kb vid:Nat} {p:Int} {l:List aZ} (hr:ce n l p) (hk1:1<=k) (hk:k<=32) (hw:Q[wb]?=some (.row 1 false [cJ n p l])) (hkp:Q[kb]?=some (.row 1 false [.int .i64 (k:Int)])) {i:Nat} (hi:i<l.length) (hv:Q[vid]?=some (.row 6 false [wA p (l[i],i)]))
  (hn:wk p l n k (l[i],i)=none) (v0 v6 v7 v8 v9 v10 v11 v12 v13:AV) :
  ∃ σ,run (dq GC gG h0) 300 [.code iO] [v0,.ptr wb 0 0,.ptr rb 0 0,.ptr kb 0 0,.ptr vid 0 0,pO p l n k l[i].f,v6,v7,v8,v9,v10,v11,v12,v13] Q=some (.normal σ Q):=by
 have m:=vi hr hk1 hk (a:=(l[i],i)) (show (l[i],i)∈num l from List.mem_of_getElem? (eY l i hi)) (to:=l[i].f.toNat)
 unfold wk at hn
 rw [hn] at m
 have hH:∃T,pO p l n k l[i].f=.fs 1 T/\T=wg (lar p l) n l[i].f.toNat k:=⟨_,rfl,rfl⟩
 obtain ⟨T,hT,hT2⟩:=hH
 rw [<-hT2] at m
 rw [hT]
 obtain ⟨W1,O,hW⟩:∃W1 O,cJ n p l=.fp [.int .i64 (n:Int),W1,O]:=⟨_,_,rfl⟩
 rw [hW] at hw m
 unfold wA at hv m
 simp only [wq] at m hv
 simp [iO,hw,hkp,hv,m]
theorem vY (h0:aS) {Q:aa} {n k wb rb kb vid:Nat} {e2:AV} {p:Int} {l:List aZ} (hr:ce n l p) (hk1:1<=k) (hk:k<=32) (hw:Q[wb]?=some (.row 1 false [cJ n p l])) (hkp:Q[kb]?=some (.row 1 false [.int .i64 (k:Int)])) (hrb:Q[rb]?=some (.row 1 false [e2])) {i:Nat} (hi:i<l.length) (hv:Q[vid]?=some (.row 6 false [wA p (l[i],i)]))
  {res:List Int} (hn:wk p l n k (l[i],i)=some res) (v0 v6 v7 v8 v9 v10 v11 v12 v13:AV) :
  ∃ σ,run (dq GC gG h0) 300 [.code iO] [v0,.ptr wb 0 0,.ptr rb 0 0,.ptr kb 0 0,.ptr vid 0 0,pO p l n k l[i].f,v6,v7,v8,v9,v10,v11,v12,v13] Q=some (.ret σ (Q.set rb (.row 1 false [slA 1 (aj res)]))):=by
 have m:=vi hr hk1 hk (a:=(l[i],i)) (show (l[i],i)∈num l from List.mem_of_getElem? (eY l i hi)) (to:=l[i].f.toNat)
 unfold wk at hn
 rw [hn] at m
 have hH:∃T,pO p l n k l[i].f=.fs 1 T/\T=wg (lar p l) n l[i].f.toNat k:=⟨_,rfl,rfl⟩
 obtain ⟨T,hT,hT2⟩:=hH
 rw [<-hT2] at m
 rw [hT]
 obtain ⟨W1,O,hW⟩:∃W1 O,cJ n p l=.fp [.int .i64 (n:Int),W1,O]:=⟨_,_,rfl⟩
 rw [hW] at hw m
 unfold wA at hv m
 obtain ⟨R,hR⟩:∃R,R=slA 1 (aj res):=⟨_,rfl⟩
 have hR2:R=.nilS\/∃T,R=.fs 1 T:=by
  rw [hR]; cases aj res with
  | nil=>exact .inl rfl
  | cons x r=>exact .inr ⟨_,rfl⟩
 simp only [wq,<-hR] at m hv
 rw [<-hR]
 rcases hR2 with rfl | ⟨T2,rfl⟩
 ·simp [iO,hw,hkp,hv,hrb,m]
 ·simp [iO,hw,hkp,hv,hrb,m]
theorem Eq (p:Int) (l:List aZ) (n k:Nat) (X:aa) {i:Nat} (hi:i<l.length):P47 p l n k X i l[i]++[.row 6 false [wA p (l[i],i)]]=A47 p l n k X (i+1):=by
 unfold P47 A47
 rw [El p l i hi]
 simp
theorem oG (p:Int) (l:List aZ) (n k:Nat) {X:aa} (i:Nat) {j:Nat} (hj:j<X.length):(A47 p l n k X i)[j]?=X[j]?:=by
 unfold A47; rw [List.getElem?_append_left hj]
theorem oD (p:Int) (l:List aZ) (n k:Nat) {X:aa} (i:Nat) {j:Nat} (hj:j<X.length) (e:Ent):(A47 p l n k X i).set j e=A47 p l n k (X.set j e) i:=by
 unfold A47; rw [List.set_append_left _ _ hj]
theorem qj {A:aa} {n:Nat} {e:Ent} (h:A[n]?=some e) (x:Ent):(A.set n x).set n e=A:=by
 rw [List.set_set]
 apply List.ext_getElem?
 intro i
 by_cases hi:n=i
 ·subst hi; rw [List.getElem?_set_self (List.getElem?_eq_some_iff.1 h).1,h]
 ·rw [List.getElem?_set_ne hi]
section
variable {h0:aS} {X:aa} {r:Loop} {L n k wb rb kb:Nat} {e2:AV} {p:Int} {l:List aZ}
theorem wm (hr:ce n l p) (hk1:1<=k) (hk:k<=32) (hw:X[wb]?=some (.row 1 false [cJ n p l])) (hkp:X[kb]?=some (.row 1 false [.int .i64 (k:Int)])) (hrb:X[rb]?=some (.row 1 false [e2])) {i:Nat} (hi:i<l.length) (v0 v4 v5 v6 v7 v8 v9 v10 v11 v12 v13:AV) :
  ex X.length L r [v0,.ptr wb 0 0,.ptr rb 0 0,.ptr kb 0 0,v4,v5,v6,v7,v8,v9,v10,v11,v12,v13] [10,11] (evC (dq GC gG h0) 300 dT) (evC (dq GC gG h0) 300 iO) h0 (.func (.yield L) [] []) [wA p (l[i],i),pO p l n k l[i].f] (P47 p l n k (X++[Ent.loop r 0]) i l[i]) =
   match wk p l n k (l[i],i) with
   | none=>some (.bool true,A47 p l n k (X++[Ent.loop r 0]) (i+1))
   | some res=>some (.bool false,A47 p l n k ((X++[Ent.loop r 1]).set rb (.row 1 false [slA 1 (aj res)])) (i+1)):=by
 have hwl:=(List.getElem?_eq_some_iff.1 hw).1
 have hkl:=(List.getElem?_eq_some_iff.1 hkp).1
 have hrl:=(List.getElem?_eq_some_iff.1 hrb).1
 obtain ⟨P,hP⟩:∃P,P=P47 p l n k (X++[Ent.loop r 0]) i l[i]:=⟨_,rfl⟩
 have hQ:=Eq p l n k (X++[Ent.loop r 0]) hi
 rw [<-hP] at hQ ⊢
 have hPn:P[X.length]?=some (.loop r 0):=by rw [hP,P47,List.getElem?_append_left (by simp)]; simp
 obtain ⟨Q,hQ'⟩:∃Q,Q=P++[.row 6 false [wA p (l[i],i)]]:=⟨_,rfl⟩
 have hPl:X.length<P.length:=(List.getElem?_eq_some_iff.1 hPn).1
 have hQn:Q[X.length]?=some (.loop r 0):=by rw [hQ',List.getElem?_append_left hPl]; exact hPn
 have hQo:∀j,j<X.length->(Q.set X.length .dead)[j]?=X[j]?:=fun j hj=>by
  rw [List.getElem?_set_ne (by omega),hQ',hQ,oG _ _ _ _ _ (by simp; omega),List.getElem?_append_left hj]
 have hQv:(Q.set X.length .dead)[P.length]?=some (.row 6 false [wA p (l[i],i)]):=by
  rw [List.getElem?_set_ne (by omega),hQ']; simp
 have hasg:∀v0 v1 v2 v3 v4 v5 v6 v7 v8 v9 v12 v13,run (dq GC gG h0) 300 [.code dT] [v0,v1,v2,v3,v4,v5,v6,v7,v8,v9,wA p (l[i],i),pO p l n k l[i].f,v12,v13] P=some (.normal [v0,v1,v2,v3,.ptr P.length 0 0,pO p l n k l[i].f,v6,v7,v8,v9,wA p (l[i],i),pO p l n k l[i].f,v12,v13] Q):=by
  intros
  rw [hQ']
  obtain ⟨H,hH⟩:∃H,H=pO p l n k l[i].f:=⟨_,rfl⟩
  rw [<-hH]
  unfold wA
  simp [dT]
 cases hwk:wk p l n k (l[i],i) with
 | none=>
  obtain ⟨σ,hb⟩:=yL h0 (Q:=Q.set X.length .dead) hr hk1 hk ((hQo wb hwl).trans hw) ((hQo kb hkl).trans hkp) (rb:=rb) hi hQv hwk v0 v6 v7 v8 v9 (wA p (l[i],i)) (pO p l n k l[i].f) v12 v13
  unfold ex
  simp [hPn,gt,ob,hasg,hb,hQn,qj hQn]
  rw [hQ',hQ]
 | some res=>
  obtain ⟨σ,hb⟩:=vY h0 (Q:=Q.set X.length .dead) hr hk1 hk ((hQo wb hwl).trans hw) ((hQo kb hkl).trans hkp) ((hQo rb hrl).trans hrb) hi hQv hwk v0 v6 v7 v8 v9 (wA p (l[i],i)) (pO p l n k l[i].f) v12 v13
  unfold ex
  simp [hPn,gt,ob,hasg,hb,hQn]
  rw [hQ',hQ,oD _ _ _ _ _ (by simp),oD _ _ _ _ _ (by simp; omega),oD _ _ _ _ _ (by simp)]
  congr 1
  rw [List.set_comm _ _ (by omega)]
  congr 1
  simp
end
section
variable {X:aa} {n k wb rb kb wp kp:Nat} {e2:AV} {p:Int} {l:List aZ}
theorem Du (hr:ce n l p) (hk1:1<=k) (hk:k<=32) (hw:X[wb]?=some (.row 1 false [cJ n p l])) (hkp:X[kb]?=some (.row 1 false [.int .i64 (k:Int)])) (hrb:X[rb]?=some (.row 1 false [e2])) (hw2:X[wp]?=some (.row 1 false [cJ n p l])) (hk2:X[kp]?=some (.row 1 false [.int .i64 (k:Int)])) (m:Nat) (hm:m<=l.length)
  (hno:∀i (hi:i<l.length),i<m->wk p l n k (l[i],i)=none) (res:List Int) (hyes:∀hi:m<l.length,wk p l n k (l[m],m)=some res) (v0 v4 v5 v6 v7 v8 v10 v11 v12 v13:AV) (K:List KC) :
  run (ax GC gG) 300 (.code (.rangeFunc (.var 9) [10,11] dT iO) :: K) [v0,.ptr wb 0 0,.ptr rb 0 0,.ptr kb 0 0,v4,v5,v6,v7,v8,.func (.func 98) [] [.ptr wp 0 0,.ptr kp 0 0],v10,v11,v12,v13] X =
   after (ax GC gG) 300 K (if m<l.length then .ret [v0,.ptr wb 0 0,.ptr rb 0 0,.ptr kb 0 0,v4,v5,v6,v7,v8,.func (.func 98) [] [.ptr wp 0 0,.ptr kp 0 0],v10,v11,v12,v13] (A47 p l n k ((X++[Ent.dead]).set rb (.row 1 false [slA 1 (aj res)])) (m+1))
    else .normal [v0,.ptr wb 0 0,.ptr rb 0 0,.ptr kb 0 0,v4,v5,v6,v7,v8,.func (.func 98) [] [.ptr wp 0 0,.ptr kp 0 0],v10,v11,v12,v13] (A47 p l n k (X++[Ent.dead]) l.length)):=by
 refine jA _ _ _ _ _ fun L r=>?_
 have hrl:=(List.getElem?_eq_some_iff.1 hrb).1
 have old:∀ {q:Nat} {e:Ent},X[q]?=some e->(X++[Ent.loop r 0])[q]?=some e:=fun {q} {e} h=>by rw [List.getElem?_append_left (List.getElem?_eq_some_iff.1 h).1]; exact h
 have hc:=ev47 (ex X.length L r [v0,.ptr wb 0 0,.ptr rb 0 0,.ptr kb 0 0,v4,v5,v6,v7,v8,.func (.func 98) [] [.ptr wp 0 0,.ptr kp 0 0],v10,v11,v12,v13] [10,11] (evC (dq GC gG fun _ _ _=>none) 300 dT) (evC (dq GC gG fun _ _ _=>none) 300 iO) fun _ _ _=>none) L (X:=X++[Ent.loop r 0]) hr hk (old hw2) (old hk2) m hm
  (fun i hi him=>by rw [wm hr hk1 hk hw hkp hrb hi,hno i hi him]) (A47 p l n k ((X++[Ent.loop r 1]).set rb (.row 1 false [slA 1 (aj res)])) (m+1)) (fun hi=>by rw [wm hr hk1 hk hw hkp hrb hi,hyes hi])
 have hcall:jp gG (ex X.length L r [v0,.ptr wb 0 0,.ptr rb 0 0,.ptr kb 0 0,v4,v5,v6,v7,v8,.func (.func 98) [] [.ptr wp 0 0,.ptr kp 0 0],v10,v11,v12,v13] [10,11] (evC (dq GC gG fun _ _ _=>none) 300 dT) (evC (dq GC gG fun _ _ _=>none) 300 iO) fun _ _ _=>none)
   (.func (.func 98) [] [.ptr wp 0 0,.ptr kp 0 0]) [.func (.yield L) [] []] (X++[Ent.loop r 0])=_:=hc
 show (match jp gG _ (.func (.func 98) [] [.ptr wp 0 0,.ptr kp 0 0]) [.func (.yield L) [] []] (X++[Ent.loop r 0]) with
  | some (_,A')=>kw X.length _ A'
  | none=>none)=_
 erw [hcall]
 by_cases hml:m<l.length
 ·simp only [if_pos hml]
  have e1:(A47 p l n k ((X++[Ent.loop r 1]).set rb (.row 1 false [slA 1 (aj res)])) (m+1))[X.length]?=some (.loop r 1):=by
   rw [oG _ _ _ _ _ (by simp),List.getElem?_set_ne (by omega)]; simp
  simp only [kw,e1]
  rw [oD _ _ _ _ _ (by simp),List.set_comm _ _ (by omega)]
  have e2:(X++[Ent.loop r 1]).set X.length .dead=X++[Ent.dead]:=by simp
  rw [e2]; rfl
 ·simp only [if_neg hml]
  have e1:(A47 p l n k (X++[Ent.loop r 0]) l.length)[X.length]?=some (.loop r 0):=by
   rw [oG _ _ _ _ _ (by simp)]; simp
  simp only [kw,e1]
  rw [oD _ _ _ _ _ (by simp)]
  have e2:(X++[Ent.loop r 0]).set X.length .dead=X++[Ent.dead]:=by simp
  rw [e2]; rfl
end
theorem nT {α β:Type} (f:α->Option β) (xs:List α):(xs.findSome? f=none/\∀x∈xs,f x=none)\/∃(m:Nat) (hm:m<xs.length) (r:β),xs.findSome? f=some r/\f xs[m]=some r/\∀i (hi:i<m),f (xs[i]'(by omega))=none:=by
 induction xs with
 | nil=>exact .inl ⟨rfl,by simp⟩
 | cons x xs ih=>
  cases hx:f x with
  | some r=>
   exact .inr ⟨0,by simp,r,by simp [hx],hx,fun i hi=>by omega⟩
  | none=>
   rcases ih with ⟨h1,h2⟩ | ⟨m,hm,r,h1,h2,h3⟩
   ·refine .inl ⟨by simp [hx,h1],fun y hy=>?_⟩
    rcases List.mem_cons.1 hy with rfl | hy
    ·exact hx
    ·exact h2 y hy
   ·refine .inr ⟨m+1,by simp; omega,r,by simp [hx,h1],by simpa using h2,fun i hi=>?_⟩
    cases i with
    | zero=>exact hx
    | succ i=>simpa using h3 i (by omega)
open Go
def M27:aP:=fun args=>evP (ax GC gG) 300 Ac 5 args
theorem ub:an Try.prog GC 76 M27:=an.of_ev (E:=ax GC gG) (aq qe) rfl KZ ye 5 fun _ _ h=>⟨300,h⟩
def Id (n:Nat) (p:Int) (l:List aZ) (k kb:Nat) (A:aa):Prop:=A[0]?=some (.row 1 false [cJ n p l])/\A[1]?=some (.row 1 false [.nilS])/\A[kb]?=some (.row 1 false [.int .i64 (k:Int)])/\2<=kb
theorem sZ {n:Nat} {p:Int} {l:List aZ} {k kb:Nat} {A:aa} (hI:Id n p l k kb A) (hk:n<k):run (ax GC gG) 300 [.code iN] (iD (.ptr 0 0 0) (.ptr 1 0 0) (.ptr kb 0 0)) A=some (.exit 0 ((iD (.ptr 0 0 0) (.ptr 1 0 0) (.ptr kb 0 0)).set 8 (.bool false)) A):=by
 obtain ⟨h0,h1,h2,h3⟩:=hI
 obtain ⟨W1,O,hW⟩:∃W1 O,cJ n p l=.fp [.int .i64 (n:Int),W1,O]:=⟨_,_,rfl⟩
 rw [hW] at h0
 have b:ag .leq (.int .i64 (k:Int)) (.int .i64 (n:Int))=some (.bool false):=by simp [ag]; omega
 simp [iN,h0,h2,b,-ag]
theorem s8 {n:Nat} {p:Int} {l:List aZ} {k kb:Nat} {A:aa} (hr:ce n l p) (hI:Id n p l k kb A) (hk1:1<=k) (hk:k<=n) :
  (eA p l n k=none/\∃A' kb' σ',run (ax GC gG) 300 [.code iN] (iD (.ptr 0 0 0) (.ptr 1 0 0) (.ptr kb 0 0)) A=some (.normal σ' A')/\clear g8 σ'=iD (.ptr 0 0 0) (.ptr 1 0 0) (.ptr kb' 0 0)/\Id n p l (k+1) kb' A') \/
  (∃res,eA p l n k=some res/\∃A' v0 v3 v4 v5 v6 v7 v8 v9 v10 v11 v12 v13,run (ax GC gG) 300 [.code iN] (iD (.ptr 0 0 0) (.ptr 1 0 0) (.ptr kb 0 0)) A=some (.ret [v0,.ptr 0 0 0,.ptr 1 0 0,v3,v4,v5,v6,v7,v8,v9,v10,v11,v12,v13] A')/\A'[1]?=some (.row 1 false [slA 1 (aj res)])):=by
 obtain ⟨h0,h1,h2,h3⟩:=hI
 have hn32:=hr.1.1
 have h1l:=(List.getElem?_eq_some_iff.1 h1).1
 have h2l:=(List.getElem?_eq_some_iff.1 h2).1
 obtain ⟨X,hX⟩:∃X,X=A++[.row 1 false [cJ n p l],.row 1 false [.int .i64 (k:Int)]]:=⟨_,rfl⟩
 have hXo:∀j,j<A.length->X[j]?=A[j]?:=fun j hj=>by rw [hX,List.getElem?_append_left hj]
 have x0:=(hXo 0 (by omega)).trans h0
 have x1:=(hXo 1 h1l).trans h1
 have x2:=(hXo kb h2l).trans h2
 have x3:X[A.length]?=some (.row 1 false [cJ n p l]):=by rw [hX]; simp
 have x4:X[A.length+1]?=some (.row 1 false [.int .i64 (k:Int)]):=by rw [hX,List.getElem?_append_right (by omega)]; simp
 have hXl:X.length=A.length+2:=by rw [hX]; simp
 have b:ag .leq (.int .i64 (k:Int)) (.int .i64 (n:Int))=some (.bool true):=by simp [ag]; omega
 have c42:H42 (fun _ _ _=>none) [cJ n p l,.int .i64 (k:Int)] A=some (.func (.func 98) [] [.ptr A.length 0 0,.ptr (A.length+1) 0 0],X):=by
  rw [hX]; exact ev42 _ _ _ _
 have rg:=fun m hm hno res hyes=>Du (X:=X) (wb:=0) (rb:=1) (kb:=kb) (wp:=A.length) (kp:=A.length+1) hr hk1 (by omega) x0 x2 x1 x3 x4 m hm hno res hyes .undef .undef .undef .undef .undef (.bool true) .undef .undef .undef .undef
 have b3:=a9 k (by omega)
 obtain ⟨k1,hk1'⟩:∃k1:Nat,k1=k+1:=⟨_,rfl⟩
 rw [<-hk1'] at b3 ⊢
 obtain ⟨W1,O,hW⟩:∃W1 O,cJ n p l=.fp [.int .i64 (n:Int),W1,O]:=⟨_,_,rfl⟩
 have hlk:aC gG 92=some H42:=rfl
 have hnl:=iZ l
 rcases nT (wk p l n k) (num l) with ⟨q1,q2⟩ | ⟨m,hm,res,q1,q2,q3⟩
 ·left
  refine ⟨q1,?_⟩
  have rg1:=rg l.length (Nat.le_refl _) (fun i hi _=>q2 _ (List.mem_of_getElem? (eY l i hi))) [] (fun h=>absurd h (Nat.lt_irrefl _))
  rw [if_neg (Nat.lt_irrefl _)] at rg1
  obtain ⟨D,hD⟩:∃D,D=A47 p l n k (X++[Ent.dead]) l.length:=⟨_,rfl⟩
  rw [<-hD] at rg1
  have hDo:∀j,j<X.length->D[j]?=X[j]?:=fun j hj=>by rw [hD,oG _ _ _ _ _ (by simp; omega),List.getElem?_append_left hj]
  have hDl:X.length<=D.length:=by rw [hD]; simp [A47]
  have d2:=(hDo kb (by omega)).trans x2
  refine ⟨D++[.row 1 false [.int .i64 (k1:Int)]],D.length,[.undef,.ptr 0 0 0,.ptr 1 0 0,.ptr D.length 0 0,.undef,.undef,.undef,.undef,.undef,.undef,.undef,.undef,.undef,.int .i64 (k:Int)],?_,yr,?_,?_,?_,by omega⟩
  ·rw [hW] at h0 c42
   obtain ⟨Z,hZ⟩:∃Z,Z=A.length+1:=⟨_,rfl⟩
   obtain ⟨Y,hY⟩:∃Y,Y=A.length:=⟨_,rfl⟩
   rw [<-hZ,<-hY] at c42 rg1
   simp [iN,h0,h2,b,c42,rg1,d2,b3,-ag]
  ·rw [List.getElem?_append_left (by omega),hDo 0 (by omega)]; exact x0
  ·rw [List.getElem?_append_left (by omega),hDo 1 (by omega)]; exact x1
  ·simp
 ·right
  refine ⟨res,q1,?_⟩
  rw [hnl] at hm
  have hnm:∀i (hi:i<l.length),(num l)[i]'(by omega)=(l[i],i):=fun i hi=>by
   have:=eY l i hi
   rw [List.getElem?_eq_getElem (by omega)] at this
   exact Option.some.inj this
  have rg1:=rg m (by omega) (fun i hi him=>by rw [<-hnm i hi]; exact q3 i him) res (fun hi=>by rw [<-hnm m hi]; exact q2)
  rw [if_pos hm] at rg1
  obtain ⟨D,hD⟩:∃D,D=A47 p l n k ((X++[Ent.dead]).set 1 (.row 1 false [slA 1 (aj res)])) (m+1):=⟨_,rfl⟩
  rw [<-hD] at rg1
  refine ⟨D,.undef,.ptr kb 0 0,.undef,.undef,.undef,.undef,.bool true,.func (.func 98) [] [.ptr A.length 0 0,.ptr (A.length+1) 0 0],.undef,.undef,.undef,.undef,?_,?_⟩
  ·rw [hW] at h0 c42
   obtain ⟨Z,hZ⟩:∃Z,Z=A.length+1:=⟨_,rfl⟩
   obtain ⟨Y,hY⟩:∃Y,Y=A.length:=⟨_,rfl⟩
   rw [<-hZ,<-hY] at c42 rg1 ⊢
   simp [iN,h0,h2,b,c42,rg1,-ag]
  ·rw [hD,oG _ _ _ _ _ (by simp; omega),List.getElem?_set_self (by simp; omega)]
theorem vp {n:Nat} {p:Int} {l:List aZ} (hr:ce n l p):M27 [cJ n p l]=some (slA 1 (aj ((qI p l n).getD []))):=by
 have hn32:=hr.1.1
 obtain ⟨o,h1,h2⟩:=fU (E:=ax GC gG) (fuel:=300) (a:=iN) (mask:=g8)
  (fun κ σ A=>∃k kb,k+κ=n+1/\1<=k/\clear g8 σ=iD (.ptr 0 0 0) (.ptr 1 0 0) (.ptr kb 0 0)/\Id n p l k kb A/\∀j,j+1<k->eA p l n (j+1)=none)
  (fun o=>(∃k res A' v0 v3 v4 v5 v6 v7 v8 v9 v10 v11 v12 v13,k<n/\eA p l n (k+1)=some res/\(∀j,j<k->eA p l n (j+1)=none)/\o=.ret [v0,.ptr 0 0 0,.ptr 1 0 0,v3,v4,v5,v6,v7,v8,v9,v10,v11,v12,v13] A'/\A'[1]?=some (.row 1 false [slA 1 (aj res)])) \/
   ((∀j,j<n->eA p l n (j+1)=none)/\∃kb A',o=.exit 0 ((iD (.ptr 0 0 0) (.ptr 1 0 0) (.ptr kb 0 0)).set 8 (.bool false)) A'/\A'[1]?=some (.row 1 false [.nilS])))
  (by
   rintro κ σ A ⟨k,kb,hk,hk1,hσ,hI,hno⟩
   rw [hσ]
   by_cases hkn:k<=n
   ·rcases s8 hr hI hk1 hkn with ⟨q1,A',kb',σ',c1,c2,c3⟩ | ⟨res,q1,A',v0,v3,v4,v5,v6,v7,v8,v9,v10,v11,v12,v13,c1,c2⟩
    ·refine .inl ⟨σ',A',c1,κ-1,by omega,k+1,kb',by omega,by omega,c2,c3,fun j hj=>?_⟩
     by_cases hjk:j+1=k
     ·rw [hjk]; exact q1
     ·exact hno j (by omega)
    ·refine .inr ⟨_,c1,(fun _ _ h=>by cases h),.inl ⟨k-1,res,A',v0,v3,v4,v5,v6,v7,v8,v9,v10,v11,v12,v13,by omega,by rw [show k-1+1=k by omega]; exact q1,fun j hj=>hno j (by omega),rfl,c2⟩⟩
   ·refine .inr ⟨_,sZ hI (by omega),(fun _ _ h=>by cases h),.inr ⟨fun j hj=>hno j (by omega),kb,A,rfl,hI.2.1⟩⟩)
  300 n (iD (.ptr 0 0 0) (.ptr 1 0 0) (.ptr 2 0 0)) [.row 1 false [cJ n p l],.row 1 false [.nilS],.row 1 false [.int .i64 1]] (by omega) ⟨1,2,by omega,by omega,yr,⟨rfl,rfl,rfl,by omega⟩,fun j hj=>by omega⟩
 have hc:∀k res,k<n->eA p l n (k+1)=some res->(∀j,j<k->eA p l n (j+1)=none)->qI p l n=some res:=fun k res hk h1 h2=>by
  unfold qI
  rcases nT (fun j=>eA p l n (j+1)) (List.range n) with ⟨q1,q2⟩ | ⟨m,hm,r,q1,q2,q3⟩
  ·have:=q2 k (by simp; omega)
   rw [h1] at this; cases this
  ·simp only [List.getElem_range] at q2 q3
   simp only [List.length_range] at hm
   rw [q1]
   rcases Nat.lt_trichotomy m k with h | h | h
   ·rw [h2 m h] at q2; cases q2
   ·rw [h] at q2; rw [h1] at q2; exact q2.symm
   ·rw [q3 k h] at h1; cases h1
 have hc2:(∀j,j<n->eA p l n (j+1)=none)->qI p l n=none:=fun h=>by
  unfold qI
  rw [List.findSome?_eq_none_iff]
  intro j hj
  exact h j (by simpa using hj)
 obtain ⟨W1,O,hW⟩:∃W1 O,cJ n p l=.fp [.int .i64 (n:Int),W1,O]:=⟨_,_,rfl⟩
 unfold M27
 rw [aK _ _ rfl]
 rw [hW] at h1 ⊢
 rcases h2 with ⟨k,res,A',v0,v3,v4,v5,v6,v7,v8,v9,v10,v11,v12,v13,hk,q1,q2,rfl,q3⟩ | ⟨q1,kb,A',rfl,q3⟩
 ·rw [hc k res hk q1 q2]
  simp only [Option.getD_some]
  have hfz:frz A' 5 (slA 1 (aj res))=slA 1 (aj res):=tB _ _ _ _
  have hR2:slA 1 (aj res)=.nilS\/∃T,slA 1 (aj res)=.fs 1 T:=by
   cases aj res with
   | nil=>exact .inl rfl
   | cons x r=>exact .inr ⟨_,rfl⟩
  rcases hR2 with e | ⟨T,e⟩
  ·rw [e] at q3 ⊢
   simp [Ac,xy h1,q3]
  ·rw [e] at q3 ⊢
   simp [Ac,xy h1,q3]
 ·rw [hc2 q1]
  have hset:(A'.set 1 (.row 1 false [.nilS]))[1]?=some (.row 1 false [.nilS]):=List.getElem?_set_self (List.getElem?_eq_some_iff.1 q3).1
  simp [Ac,xy h1,q3,hset,slA,aj]
def uH:List (FuncId × aG):=[(73,cz 4 M25),(74,cz 4 M26),(76,aD 4 M27)]
@[simp] theorem Kq:aC uH 73=some (cz 4 M25):=rfl
@[simp] theorem Kp:aC uH 74=some (cz 4 M26):=rfl
@[simp] theorem Ko:aC uH 76=some (aD 4 M27):=rfl
theorem nl:∀f M,aC uH f=some M->ak Try.prog GC f M:=af (ak.of_pureF qd 4) (af (ak.of_pureF wI 4) (af (ak.of_pure ub 4) az))
def H14:aG:=fun _=>bR (ax GC uH) 0 kE
theorem lr:ak Try.prog GC 46 H14:=(bP (aq nl) rfl AN kq bc.nil).y
open Classical in
def lvM (n:Int) (l:List aZ) (p:Int):List Int × List Int × Bool:=
 if ce n l p then (if (bM (lar p l) n.toNat).2=true then ((bM (lar p l) n.toNat).1,[],true) else ([],(qI p l n.toNat).getD [],false)) else ([],[],false)
def lvT (r:List Int × List Int × Bool):AV:=.tup [slA 1 (aj r.1),slA 1 (aj r.2.1),.bool r.2.2]
theorem nm (xs:List Int):slA 1 (aj xs)=.nilS\/∃T,slA 1 (aj xs)=.fs 1 T:=by
 cases xs with
 | nil=>exact .inl rfl
 | cons x r=>exact .inr ⟨_,rfl⟩
open Classical in
theorem Cr (h:aS) {A:aa} {a a':AV} {l:List aZ} (ha:frz A 4 a=a') (hl:cm a'=some l) (n p:Int):H14 h [.int .i64 n,a,.int .i64 p] A=some (lvT (lvM n l p),A):=by
 have m1:M25 [.int .i64 n,a',.int .i64 p]=some (if ce n l p then .tup [cJ n.toNat p l,.bool true] else .tup [.nilP,.bool false]):=by simp only [M25,hl,Option.map_some]
 unfold H14
 rw [a6 _ _ rfl]
 by_cases hr:ce n l p
 rotate_left
 ·rw [if_neg hr] at m1
  have e:lvM n l p=([],[],false):=if_neg hr
  rw [e]
  simp [kE,ha,m1,aM,dK,lvT,slA,aj,-frz]
 rw [if_pos hr] at m1
 obtain ⟨m,rfl⟩:∃m:Nat,n=(m:Int):=⟨n.toNat,by have:=hr.1.1; omega⟩
 rw [Int.toNat_natCast] at m1
 have m2:=p8 hr
 have m3:=vp hr
 obtain ⟨W1,O,hW⟩:∃W1 O,cJ m p l=.fp [.int .i64 (m:Int),W1,O]:=⟨_,_,rfl⟩
 rw [hW] at m1 m2 m3
 have hfw:∀B,frz B 4 (.fp [.int .i64 (m:Int),W1,O])=.fp [.int .i64 (m:Int),W1,O]:=fun _=>rfl
 have hnr:bk 4 (.fp [.int .i64 (m:Int),W1,O])=true:=rfl
 by_cases hok:(bM (lar p l) m).2=true
 ·have e:lvM m l p=((bM (lar p l) m).1,[],true):=by
   unfold lvM; rw [if_pos hr,Int.toNat_natCast,if_pos hok]
  rw [e]
  rw [hok] at m2
  obtain ⟨xs,hxs⟩:∃xs,xs=(bM (lar p l) m).1:=⟨_,rfl⟩
  rw [<-hxs] at m2 ⊢
  obtain ⟨T,hT⟩:∃T,T=slA 1 (aj xs):=⟨_,rfl⟩
  rw [<-hT] at m2
  simp [kE,ha,m1,m2,aM,hfw,dK,lvT,<-hT,-frz]
  simp [slA,aj]
 ·have e:lvM m l p=([],(qI p l m).getD [],false):=by
   unfold lvM; rw [if_pos hr,Int.toNat_natCast,if_neg hok]
  rw [e]
  rw [Bool.not_eq_true] at hok
  rw [hok] at m2
  obtain ⟨S,hS⟩:∃S,S=slA 1 (aj (bM (lar p l) m).1):=⟨_,rfl⟩
  rw [<-hS] at m2
  obtain ⟨T,hT⟩:∃T,T=slA 1 (aj ((qI p l m).getD [])):=⟨_,rfl⟩
  rw [<-hT] at m3
  simp [kE,ha,m1,m2,m3,aM,hfw,dK,lvT,<-hT,-frz]
  simp [slA,aj]
open Go
theorem be (A:aa) (n:Nat) (b:Bool):frz A n (.bool b)=.bool b:=by cases n <;> rfl
def kQ (x:Int):Bool:=!decide (0<=x/\x<=1000000000)
def M35:aP:=fun args=>match args with
 | [.int .i64 x]=>some (.bool (kQ x))
 | _=>none
theorem wF:an Try.prog GC 94 M35:=by
 refine an.of_ev (E:=ax GC fsW) (aq uf) rfl KU ya 1 ?_
 intro args r h
 unfold M35 at h
 split at h
 ·rename_i x
  injection h with h; subst h
  refine ⟨0,?_⟩
  have m:=ky x 0 1000000000
  unfold kQ
  obtain ⟨d,hd⟩:∃d,d=decide (0<=x/\x<=1000000000):=⟨_,rfl⟩
  rw [<-hd] at m ⊢
  rw [aK _ _ rfl]
  simp [Et,m,-ag]
 ·cases h
def kR (n:Nat) (x:Int):Bool:=!decide (0<=x/\x<=(n:Int)-1)
def M46:aP:=fun args=>evP (ax GC fsW) 0 DF 1 args
theorem wC:an Try.prog GC 91 M46:=an.of_ev (E:=ax GC fsW) (aq uf) rfl KP x5 1 fun _ _ h=>⟨0,h⟩
theorem ze {n:Nat} {p:Int} {l:List aZ} (hl:l.length<=200) (x:Int):M46 [.int .i64 x,.fp [cJ n p l]]=some (.bool (kR l.length x)):=by
 have m:=ky x 0 ((l.length:Int)-1)
 have hlen2:aw (slA 6 (wAs p (num l)))=some (.int .i64 (l.length:Int)):=by rw [qt,qc]
 have b0:ag .sub (.int .i64 (l.length:Int)) (.int .i64 1)=some (.int .i64 ((l.length:Int)-1)):=by
  simp only [ag]; rw [if_pos trivial,dQ (by unfold inI; omega)]
 obtain ⟨W1,O,hW,hW1⟩:∃W1 O,cJ n p l=.fp [.int .i64 (n:Int),W1,O]/\W1=slA 6 (wAs p (num l)):=⟨_,_,rfl,rfl⟩
 rw [<-hW1] at hlen2
 rw [hW]
 unfold kR
 obtain ⟨k,hk⟩:∃k,k=(l.length:Int)-1:=⟨_,rfl⟩
 rw [<-hk] at m b0 ⊢
 obtain ⟨d,hd⟩:∃d,d=decide (0<=x/\x<=k):=⟨_,rfl⟩
 rw [<-hd] at m ⊢
 unfold M46
 rw [aK _ _ rfl]
 simp [DF,hlen2,b0,m,-ag,-aw]
def zy:List (FuncId × aG):=[(94,aD 4 M35),(91,aD 4 M46)]
@[simp] theorem I9:aC zy 94=some (aD 4 M35):=rfl
@[simp] theorem I8:aC zy 91=some (aD 4 M46):=rfl
theorem CS:∀f M,aC zy f=some M->ak Try.prog GC f M:=af (ak.of_pure wF 4) (af (ak.of_pure wC 4) az)
def M45:aP:=fun args=>evP (ax GC zy) 300 wd 1 args
theorem wD:an Try.prog GC 79 M45:=an.of_ev (E:=ax GC zy) (aq CS) rfl H9 uR 1 fun _ _ h=>⟨300,h⟩
theorem Cg {f:FuncId} {cap:List AV} {Mf:aP} (hlk:aC zy f=some (aD 4 Mf)) {q:Int->Bool} {xs:List Int} (hm:∀x∈xs,∀A,Mf (.int .i64 x :: cap.map (frz A 4))=some (.bool (q x))) {b:AV} (hb:SlA 1 (aj xs) b) (hl:xs.length<=200) :
  M45 [b,.func (.func f) [] cap]=some (.int .i64 (cV q xs)):=by
 have hlen:=hb.len
 rw [aA] at hlen
 have round:∀(A:aa) (i:Nat) (hi:i<xs.length),run (ax GC zy) 300 [.code dS] (eJ b (.func (.func f) [] cap) (.int .i64 (xs.length:Int)) (.int .i64 (i:Int))) A =
   if q xs[i]=false then some (.normal (eJ b (.func (.func f) [] cap) (.int .i64 (xs.length:Int)) (.int .i64 ((i+1:Nat):Int))) A) else some (.ret [b,.func (.func f) [] cap,.int .i64 (i:Int),.int .i64 (i:Int),.int .i64 (xs.length:Int),.int .i64 (i:Int),.bool true,.bool true] A):=fun A i hi=>by
  have x1:=hb.int (A:=A) _ _ (List.getElem?_eq_getElem hi) .i64
  have m:=hm _ (List.getElem_mem hi) A
  have b1:=bp i xs.length .i64
  rw [decide_eq_true hi] at b1
  have b3:=a9 i (by omega)
  obtain ⟨i1,hi1⟩:∃i1:Nat,i1=i+1:=⟨_,rfl⟩
  rw [<-hi1] at b3 ⊢
  obtain ⟨d,hd⟩:∃d,d=q xs[i]:=⟨_,rfl⟩
  rw [<-hd] at m ⊢
  cases d with
  | false=>simp [dS,x1,hlk,m,b1,b3,-ag,-ai,-aw]
  | true=>simp [dS,x1,hlk,m,b1,-ag,-ai,-aw]
 unfold M45
 rw [aK _ _ rfl]
 rcases cE (E:=ax GC zy) (fuel:=300) (a:=dS) (mask:=eo) (fun i=>eJ b (.func (.func f) [] cap) (.int .i64 (xs.length:Int)) (.int .i64 (i:Int))) (fun _=>[]) xs.length (fun i=>¬ ∀hi:i<xs.length,q xs[i]=false)
  (oF:=fun i=>.ret [b,.func (.func f) [] cap,.int .i64 (i:Int),.int .i64 (i:Int),.int .i64 (xs.length:Int),.int .i64 (i:Int),.bool true,.bool true] []) (oE:=.exit 0 ((eJ b (.func (.func f) [] cap) (.int .i64 (xs.length:Int)) (.int .i64 (xs.length:Int))).set 6 (.bool false)) [])
  (fun _=>yn) (fun _ _ _ h=>by cases h) (fun _ _ h=>by cases h)
  (fun i hi hp=>by
   rw [round [] i hi]
   exact if_pos (Classical.not_not.1 hp hi))
  (fun i hi hp=>by
   rw [round [] i hi]
   exact if_neg fun h=>hp fun _=>h)
  (by simp [dS]) (show xs.length<300 by omega) with ⟨i,hi,hp,hj,lp⟩ | ⟨hp,lp⟩
 ·have lp:bZ (evC (ax GC zy) 300 dS) eo 300 (eJ b (.func (.func f) [] cap) (.int .i64 (xs.length:Int)) (.int .i64 0)) []=_:=lp
  have e:cV q xs=(i:Int):=bH hi (by
   cases h':q xs[i] with
   | true=>rfl
   | false=>exact absurd (fun _=>h') hp) (fun j hj'=>Classical.not_not.1 (hj j hj') (by omega))
  rw [e]
  simp [wd,hlen,uF lp,-ag,-aw]
 ·have lp:bZ (evC (ax GC zy) 300 dS) eo 300 (eJ b (.func (.func f) [] cap) (.int .i64 (xs.length:Int)) (.int .i64 0)) []=_:=lp
  have e:cV q xs = -1:=bK fun i hi=>Classical.not_not.1 (hp i hi) hi
  rw [e]
  simp [wd,hlen,uF lp,-ag,-aw]
def HY:List (FuncId × aG):=[(79,aD 4 M45)]
@[simp] theorem Ji:aC HY 79=some (aD 4 M45):=rfl
theorem CY:∀f M,aC HY f=some M->ak Try.prog GC f M:=af (ak.of_pure wD 4) az
def M36:aP:=fun args=>evP (ax GC HY) 0 Aa 1 args
theorem ua:an Try.prog GC 51 M36:=an.of_ev (E:=ax GC HY) (aq CY) rfl Ia uS 1 fun _ _ h=>⟨0,h⟩
theorem Ch {F:AV} {q:Int->Bool} {xs:List Int} {b:AV} (hb:SlA 1 (aj xs) b) (hF:∀A,frz A 4 F=F) (h:M45 [b,F]=some (.int .i64 (cV q xs))):M36 [b,F]=some (.bool (xs.any q)):=by
 have b1:=io (cV q xs)
 rw [cf] at b1
 have f1:∀A n,frz A n b=b:=fun A n=>hb.frz n
 obtain ⟨z,hz⟩:∃z,z=cV q xs:=⟨_,rfl⟩
 rw [<-hz] at h b1
 unfold M36
 rw [aK _ _ rfl]
 simp [Aa,f1,hF,h,b1,bI,be,-ag,-frz]
open Go
def fg (n:Int) (l:List aZ) (p:Int) (s:List Int):Prop:=ce n l p/\(s.length:Int)=n/\(∀x∈s,0<=x/\x<=1000000000)/\js (lar p l) s
open Classical in
def M19:aP:=fun args=>match args with
 | [.int .i64 n,a,.int .i64 p,b]=>match cm a,lN b with
  | some l,some s=>some (.bool (decide (fg n l p s)))
  | _,_=>none
 | _=>none
def mL:List (FuncId × aG):=[(73,cz 4 M25),(51,aD 4 M36),(90,fun _=>bR (ax GC []) 300 xc),(40,fun _=>bR (ax GC []) 0 tg)]
@[simp] theorem Kb:aC mL 73=some (cz 4 M25):=rfl
@[simp] theorem Ka:aC mL 51=some (aD 4 M36):=rfl
@[simp] theorem J9:aC mL 90=some (fun _=>bR (ax GC []) 300 xc):=rfl
@[simp] theorem J8:aC mL 40=some (fun _=>bR (ax GC []) 0 tg):=rfl
theorem sO:∀f M,aC mL f=some M->ak Try.prog GC f M:=af (ak.of_pureF qd 4) (af (ak.of_pure ua 4) (af A5 (af lj az)))
theorem xG (A:aa):frz A 4 (.func (.func 94) [] [])=.func (.func 94) [] []:=rfl
theorem pZ (s:List Int):s.any kQ=false↔∀x∈s,0<=x/\x<=1000000000:=by
 rw [List.any_eq_false]; unfold kQ; simp
open Classical in
theorem ud:an Try.prog GC 77 M19:=by
 refine an.of_ev (E:=ax GC mL) (aq sO) rfl K5 yh 1 ?_
 intro args r h
 unfold M19 at h
 split at h
 rotate_left
 ·cases h
 rename_i n a p b
 split at h
 rotate_left
 ·cases h
 rename_i l s hl hs
 injection h with h; subst h
 refine ⟨0,?_⟩
 obtain ⟨hb,_,hsl⟩:=je hs
 have f1:∀A n,frz A n a=a:=fun A n=>ew hl A n
 have f2:∀A n,frz A n b=b:=fun A n=>hb.frz n
 have f3:=eV hl
 have f4:=lM hs
 have m1:M25 [.int .i64 n,a,.int .i64 p]=some (if ce n l p then .tup [cJ n.toNat p l,.bool true] else .tup [.nilP,.bool false]):=by simp only [M25,hl,Option.map_some]
 have hlen:=hb.len
 have hlen':(s.map (AV.int .i64)).length=s.length:=by simp
 rw [hlen'] at hlen
 rw [aK _ _ rfl]
 by_cases hr:ce n l p
 rotate_left
 ·rw [if_neg hr] at m1
  rw [decide_eq_false (show ¬ fg n l p s from fun h=>hr h.1)]
  simp [zu,f1,m1,aM,be,-frz,-aw]
 rw [if_pos hr] at m1
 have b1:ag .eql (.int .i64 (s.length:Int)) (.int .i64 n)=some (.bool (decide ((s.length:Int)=n))):=by simp [ag]
 obtain ⟨m,rfl⟩:∃m:Nat,n=(m:Int):=⟨n.toNat,by have:=hr.1.1; omega⟩
 rw [Int.toNat_natCast] at m1
 obtain ⟨W1,O,hW⟩:∃W1 O,cJ m p l=.fp [.int .i64 (m:Int),W1,O]:=⟨_,_,rfl⟩
 by_cases h1:(s.length:Int)=(m:Int)
 rotate_left
 ·rw [decide_eq_false h1] at b1
  rw [decide_eq_false (show ¬ fg m l p s from fun h=>h1 h.2.1)]
  rw [hW] at m1
  simp [zu,f1,m1,hlen,b1,aM,be,-frz,-aw,-ag]
 rw [decide_eq_true h1] at b1
 have hm32:=hr.1.1
 have m45:=Cg (f:=94) (cap:=[]) (Mf:=M35) rfl (q:=kQ) (xs:=s) (fun x _ A=>rfl) hb (by omega)
 have m36:=Ch (q:=kQ) hb (fun A=>rfl) m45
 by_cases h2:∀x∈s,0<=x/\x<=1000000000
 rotate_left
 ·have h2':s.any kQ=true:=by
   cases h:s.any kQ with
   | true=>rfl
   | false=>exact absurd ((pZ s).1 h) h2
  rw [h2'] at m36
  rw [decide_eq_false (show ¬ fg m l p s from fun h=>h2 h.2.2.1)]
  rw [hW] at m1
  simp [zu,f1,f2,m1,hlen,b1,m36,aM,be,bI,xG,-frz,-aw,-ag]
 rw [(pZ s).2 h2] at m36
 have hsm:s.length=m:=by omega
 have hne:s≠[]:=by
  intro h
  rw [h] at hsm
  simp at hsm; omega
 have c38:=H2 (ax GC []) 0 (A:=[]) (a:=b) (xs:=s) (.inl hb) hne (by omega)
 obtain ⟨A',c37,_⟩:=yH (A:=[.dead,.row 1 false (aj s)]) (id:=1) hsm hr.2 hr.1.2.2 (by omega) hr.1.2.1 (hi:=1000000000) (fun v hv=>by
  have:s.getD v 0∈s:=by rw [List.getD_eq_getElem?_getD,List.getElem?_eq_getElem hv]; simp
  have:=h2 _ this
  omega) (by omega) rfl
 have e:decide (fg m l p s)=!upL (lar p l) s:=by
  cases hu:upL (lar p l) s with
  | true=>
   exact decide_eq_false fun h=>by rw [mV h.2.2.2] at hu; cases hu
  | false=>
   exact decide_eq_true ⟨hr,h1,h2,(fm hu).2⟩
 rw [e]
 rw [hsm] at c38
 rw [hW] at m1 c37
 simp at c38
 simp [zu,f1,f2,m1,hlen,b1,m36,c38,c37,aM,be,bI,xG,-frz,-aw,-ag]
open Go
def tN (l:List aZ) (i:Int):aZ:=l.getD i.toNat ⟨0,0,0,0⟩
def exL (p:Int) (l:List aZ):List Int->Int->Int->Int->Option (Int × Int)
 | [],_,s,t=>some (s,t)
 | i :: r,at_,s,t=>if (tN l i).f=at_ then exL p l r (tN l i).t (s+(tN l i).len p) (t+(tN l i).k) else none
def tt (l:List aZ) (xs:List Int):Prop:=∀x∈xs,0<=x/\x<=(l.length:Int)-1
instance (l:List aZ) (xs:List Int):Decidable (tt l xs):=inferInstanceAs (Decidable (∀x∈xs,_))
def exM (p:Int) (l:List aZ) (xs:List Int):Option (Int × Int):=if (1<=xs.length/\xs.length<=200)/\tt l xs then exL p l xs (tN l (xs.getLastD 0)).t 0 0 else none
theorem p5 (l:List aZ) (s:List Int):s.any (kR l.length)=false↔tt l s:=by
 rw [List.any_eq_false]; unfold kR tt; simp
theorem qM {l:List aZ} {x:Int} (h:0<=x/\x<=(l.length:Int)-1):∃(j:Nat) (hj:j<l.length),x=(j:Int)/\tN l x=l[j]:=by
 refine ⟨x.toNat,by omega,by omega,?_⟩
 unfold tN
 rw [List.getD_eq_getElem?_getD,List.getElem?_eq_getElem (by omega)]; rfl
def Lm:MC:=.region [⟨none,.indexSl 1 (.var 12) (.var 14),none⟩,⟨none,.load false 1 (.tmp 0),none⟩,⟨some 8,.mv (.tmp 1),none⟩]
def Ll:MC:=.region [⟨none,.load false 1 (.var 2),none⟩,⟨none,.nilCheck (.tmp 0),none⟩,⟨none,.fieldAddr 1 (.tmp 1),none⟩,⟨none,.load false 1 (.tmp 2),none⟩,⟨none,.mv (.var 8),none⟩,⟨none,.indexSl 6 (.tmp 3) (.tmp 4),none⟩,⟨none,.load true 6 (.tmp 5),none⟩,⟨some 9,.alloc 6 (.agg [.int .i64 0,.int .i64 0,.int .i64 0,.int .i64 0,.int .i64 0,.int .i64 0]),none⟩,⟨none,.store 6 (.var 9) (.tmp 6),none⟩]
def Lk:MC:=.region [⟨none,.fieldAddr 0 (.var 9),none⟩,⟨none,.fieldAddr 0 (.tmp 0),none⟩,⟨none,.load false 1 (.tmp 1),none⟩,⟨none,.mv (.var 7),none⟩,⟨some 16,.bin .neq (.tmp 2) (.tmp 3),none⟩]
def Lj:MC:=.region [⟨some 3,.mv (.cst (.int .i64 0)),none⟩,⟨some 4,.mv (.cst (.int .i64 0)),none⟩,⟨some 5,.mv (.cst (.bool false)),none⟩]
def Li:MC:=.region [⟨none,.mv (.var 3),none⟩,⟨none,.fieldAddr 5 (.var 9),none⟩,⟨none,.load false 1 (.tmp 1),none⟩,⟨none,.bin .add (.tmp 0) (.tmp 2),none⟩,⟨none,.mv (.var 4),none⟩,⟨none,.fieldAddr 0 (.var 9),none⟩,⟨none,.fieldAddr 3 (.tmp 5),none⟩,⟨none,.load false 1 (.tmp 6),none⟩,⟨none,.bin .add (.tmp 4) (.tmp 7),none⟩,⟨none,.fieldAddr 0 (.var 9),none⟩,⟨none,.fieldAddr 1 (.tmp 9),none⟩,⟨none,.load false 1 (.tmp 10),none⟩,⟨some 3,.mv (.tmp 3),none⟩,⟨some 4,.mv (.tmp 8),none⟩,⟨some 7,.mv (.tmp 11),none⟩]
theorem Cc:nJ=.seq (.region [⟨some 15,.bin .lss (.var 14) (.var 13),none⟩]) (.seq (.cond (.var 15) .skip (.exit 0)) (.seq (.seq (.block 1 (.seq Lm (.seq Ll (.seq (.seq Lk (.cond (.var 16) (.seq Lj .ret) .skip)) Li)))) (.kill [0,1,5,6,8,9,10,11,15,16])) (.region [⟨none,.bin .add (.var 14) (.cst (.int .i64 1)),none⟩,⟨some 14,.mv (.tmp 0),none⟩]))):=rfl
theorem Ip (E:Env) (fuel:Nat) (K:List KC) (X:MC) {A:aa} {n j i:Nat} {p:Int} {l:List aZ} {xs:List Int} {c:AV} (hc:SlA 1 (aj xs) c) (hi:i<xs.length) (hx:xs[i]=(j:Int)) (hj:j<l.length) (hA:A[0]?=some (.row 1 false [cJ n p l])) (v3 v4 v7 v13 v15 v16:AV) :
  run E fuel (.code (.seq Lm (.seq Ll X)) :: K) [.undef,.undef,.ptr 0 0 0,v3,v4,.undef,.undef,v7,.undef,.undef,.undef,.undef,c,v13,.int .i64 (i:Int),v15,v16] A =
   run E fuel (.code X :: K) [.undef,.undef,.ptr 0 0 0,v3,v4,.undef,.undef,v7,.int .i64 (j:Int),.ptr A.length 0 0,.undef,.undef,c,v13,.int .i64 (i:Int),v15,v16] (A++[.row 6 false [wA p (l[j],j)]]):=by
 have x1:=hc.int (A:=A) _ _ (List.getElem?_eq_getElem hi) .i64
 rw [hx] at x1
 have x2:=qW p hj A .i64
 obtain ⟨W1,O,hW,hW1⟩:∃W1 O,cJ n p l=.fp [.int .i64 (n:Int),W1,O]/\W1=slA 6 (wAs p (num l)):=⟨_,_,rfl,rfl⟩
 rw [<-hW1] at x2
 rw [hW] at hA
 simp [Lm,Ll,x1,x2,hA,wA,-ai]
theorem Dm (E:Env) (fuel:Nat) {A:aa} {n i:Nat} {p:Int} {l:List aZ} (hr:ce n l p) {xs:List Int} {c:AV} (hc:SlA 1 (aj xs) c) (hl:xs.length<=200) (hin:tt l xs) (hi:i<xs.length) (hA:A[0]?=some (.row 1 false [cJ n p l])) {s t at_:Int} (hs : -(3000000*(i:Int))<=s/\s<=3000000*i) (ht : -(2*(i:Int))<=t/\t<=2*i) :
  ∃A',A'[0]?=some (.row 1 false [cJ n p l])/\∃v8 v9 v15 v16,run E fuel [.code nJ] (m7 (.ptr 0 0 0) (.int .i64 s) (.int .i64 t) (.int .i64 at_) c (.int .i64 (xs.length:Int)) (.int .i64 (i:Int))) A =
   if (tN l xs[i]).f=at_ then some (.normal (m7 (.ptr 0 0 0) (.int .i64 (s+(tN l xs[i]).len p)) (.int .i64 (t+(tN l xs[i]).k)) (.int .i64 (tN l xs[i]).t) c (.int .i64 (xs.length:Int)) (.int .i64 ((i+1:Nat):Int))) A')
   else some (.ret [.undef,.undef,.ptr 0 0 0,.int .i64 0,.int .i64 0,.bool false,.undef,.int .i64 at_,v8,v9,.undef,.undef,c,.int .i64 (xs.length:Int),.int .i64 (i:Int),v15,v16] A'):=by
 obtain ⟨j,hj,hx,he⟩:=qM (hin _ (List.getElem_mem hi))
 rw [he]
 have hmem:=hr.1.2.2 _ (List.getElem_mem hj)
 have hn32:=hr.1.1
 have hlen:=gE (n:=32) (a:=l[j]) ⟨⟨by have:=hmem.1; omega,by have:=hmem.1; omega⟩,⟨by have:=hmem.2.1; omega,by have:=hmem.2.1; omega⟩,hmem.2.2.1,hmem.2.2.2⟩ hr.2
 have htok:=hmem.2.2.2
 have r1:=fun K X=>Ip E fuel K X hc hi hx hj hA (.int .i64 s) (.int .i64 t) (.int .i64 at_) (.int .i64 (xs.length:Int)) (.bool true) .undef
 obtain ⟨B,hB⟩:∃B,B=A++[.row 6 false [wA p (l[j],j)]]:=⟨_,rfl⟩
 have hBv:B[A.length]?=some (.row 6 false [wA p (l[j],j)]):=by rw [hB]; simp
 have hB0:B[0]?=some (.row 1 false [cJ n p l]):=by rw [hB,List.getElem?_append_left (List.getElem?_eq_some_iff.1 hA).1]; exact hA
 rw [<-hB] at r1
 unfold wA at hBv
 simp only at hBv
 have b1:=bp i xs.length .i64
 rw [decide_eq_true hi] at b1
 have b3:=a9 i (by omega)
 obtain ⟨i1,hi1⟩:∃i1:Nat,i1=i+1:=⟨_,rfl⟩
 rw [<-hi1] at b3 ⊢
 have b2:ag .neq (.int .i64 l[j].f) (.int .i64 at_)=some (.bool (decide (l[j].f≠at_))):=by simp [ag]
 obtain ⟨w,hw⟩:∃w,w=l[j].len p:=⟨_,rfl⟩
 rw [<-hw] at hlen hBv ⊢
 have b4:ag .add (.int .i64 s) (.int .i64 w)=some (.int .i64 (s+w)):=by
  simp only [ag]; rw [if_pos trivial,dQ (by unfold inI; omega)]
 have b5:ag .add (.int .i64 t) (.int .i64 l[j].k)=some (.int .i64 (t+l[j].k)):=by
  simp only [ag]; rw [if_pos trivial,dQ (by unfold inI; omega)]
 obtain ⟨vid,hvid⟩:∃vid,vid=A.length:=⟨_,rfl⟩
 rw [<-hvid] at r1 hBv
 refine ⟨B,hB0,.int .i64 (j:Int),.ptr vid 0 0,.bool true,.bool true,?_⟩
 by_cases h:l[j].f=at_
 ·rw [if_pos h]
  rw [decide_eq_false (not_not_intro h)] at b2
  rw [Cc]
  simp [b1,b3,r1,Lk,Lj,Li,hBv,b2,b4,b5,-ag]
 ·rw [if_neg h]
  rw [decide_eq_true h] at b2
  rw [Cc]
  simp [b1,r1,Lk,Lj,Li,hBv,b2,-ag]
def wi:List (FuncId × aG):=[(88,aD 4 M32),(51,aD 4 M36)]
@[simp] theorem Jg:aC wi 88=some (aD 4 M32):=rfl
@[simp] theorem Jf:aC wi 51=some (aD 4 M36):=rfl
theorem sM:∀f M,aC wi f=some M->ak Try.prog GC f M:=af (ak.of_pure q5 4) (af (ak.of_pure ua 4) az)
def M40:aP:=fun args=>evP (ax GC wi) 300 zo 5 args
theorem nj:an Try.prog GC 75 M40:=an.of_ev (E:=ax GC wi) (aq sM) rfl KS x8 5 fun _ _ h=>⟨300,h⟩
def exT (r:Option (Int × Int)):AV:=.tup [.int .i64 (r.getD (0,0)).1,.int .i64 (r.getD (0,0)).2,.bool r.isSome]
theorem vo {n:Nat} {p:Int} {l:List aZ} (hr:ce n l p) {xs:List Int} {c:AV} (hc:SlA 1 (aj xs) c) (hmx:xs.length<=9223372036854775807):M40 [cJ n p l,c]=some (exT (exM p l xs)):=by
 have hlen:=hc.len
 rw [aA] at hlen
 have m32:=ky (xs.length:Int) 1 200
 have f1:∀A n,frz A n c=c:=fun A n=>hc.frz n
 unfold M40
 rw [aK _ _ rfl]
 obtain ⟨W1,O,hW,hW1⟩:∃W1 O,cJ n p l=.fp [.int .i64 (n:Int),W1,O]/\W1=slA 6 (wAs p (num l)):=⟨_,_,rfl,rfl⟩
 by_cases h1:1<=xs.length/\xs.length<=200
 rotate_left
 ·rw [decide_eq_false (by omega)] at m32
  have e:exM p l xs=none:=if_neg fun h=>h1 h.1
  rw [e,hW]
  simp [zo,hlen,m32,exT,-aw]
 rw [decide_eq_true (by omega)] at m32
 have m45:=Cg (f:=91) (cap:=[.fp [cJ n p l]]) (Mf:=M46) rfl (q:=kR l.length) (xs:=xs) (fun x _ A=>ze hr.1.2.1 x) hc h1.2
 have m36:=Ch (q:=kR l.length) hc (fun A=>rfl) m45
 have hfz:frz [.row 1 false [cJ n p l]] 4 (.func (.func 91) [] [.ptr 0 0 0])=.func (.func 91) [] [.fp [cJ n p l]]:=rfl
 by_cases h2:tt l xs
 rotate_left
 ·have h2':xs.any (kR l.length)=true:=by
   cases h:xs.any (kR l.length) with
   | true=>rfl
   | false=>exact absurd ((p5 l xs).1 h) h2
  rw [h2'] at m36
  have e:exM p l xs=none:=if_neg fun h=>h2 h.2
  rw [e]
  rw [hW] at m36 hfz ⊢
  simp [zo,hlen,m32,f1,hfz,m36,exT,bI,aM,-aw,-frz]
  simp [frz]
 rw [(p5 l xs).2 h2] at m36
 have hex:exM p l xs=exL p l xs (tN l (xs.getLastD 0)).t 0 0:=if_pos ⟨h1,h2⟩
 have hlast:xs.length-1<xs.length:=by omega
 obtain ⟨j,hj,hx,he⟩:=qM (h2 _ (List.getElem_mem hlast))
 have hgl:xs.getLastD 0=xs[xs.length-1]:=by
  rw [List.getLastD_eq_getLast?,List.getLast?_eq_getElem?,List.getElem?_eq_getElem hlast]; rfl
 rw [hgl,he] at hex
 have x1:∀A,ai 1 A c (.int .i64 ((xs.length-1:Nat):Int))=some (.fp [.int .i64 (j:Int)]):=fun A=>by
  have:=hc.int (A:=A) _ _ (List.getElem?_eq_getElem hlast) .i64
  rwa [hx] at this
 have x2:=fun A=>qW p hj A .i64
 have b0:ag .sub (.int .i64 (xs.length:Int)) (.int .i64 1)=some (.int .i64 ((xs.length-1:Nat):Int)):=by
  simp only [ag]; rw [if_pos trivial,dQ (by unfold inI; omega)]; congr 2; omega
 obtain ⟨o,lp,ho⟩:=fU (E:=ax GC wi) (fuel:=300) (a:=nJ) (mask:=mD)
  (fun κ σ A=>∃(i:Nat) (s t at_:Int),i+κ=xs.length/\σ=m7 (.ptr 0 0 0) (.int .i64 s) (.int .i64 t) (.int .i64 at_) c (.int .i64 (xs.length:Int)) (.int .i64 (i:Int))/\A[0]?=some (.row 1 false [cJ n p l])/\exL p l xs l[j].t 0 0=exL p l (xs.drop i) at_ s t/\(-(3000000*(i:Int))<=s/\s<=3000000*i)/\(-(2*(i:Int))<=t/\t<=2*i))
  (fun o=>(∃s t at_ A',exL p l xs l[j].t 0 0=some (s,t)/\o=.exit 0 ((m7 (.ptr 0 0 0) (.int .i64 s) (.int .i64 t) (.int .i64 at_) c (.int .i64 (xs.length:Int)) (.int .i64 (xs.length:Int))).set 15 (.bool false)) A') \/
   (exL p l xs l[j].t 0 0=none/\∃v7 v8 v9 v14 v15 v16 A',o=.ret [.undef,.undef,.ptr 0 0 0,.int .i64 0,.int .i64 0,.bool false,.undef,v7,v8,v9,.undef,.undef,c,.int .i64 (xs.length:Int),v14,v15,v16] A'))
  (by
   rintro κ σ A ⟨i,s,t,at_,hik,rfl,hA,hexi,hs,ht⟩
   rw [BY]
   by_cases hi:i<xs.length
   ·obtain ⟨A',hA',v8,v9,v15,v16,hrun⟩:=Dm (ax GC wi) 300 hr hc h1.2 h2 hi hA (at_:=at_) hs ht
    have hd:xs.drop i=xs[i] :: xs.drop (i+1):=List.drop_eq_getElem_cons hi
    by_cases hf:(tN l xs[i]).f=at_
    ·rw [if_pos hf] at hrun
     rw [hd,exL,if_pos hf] at hexi
     obtain ⟨j2,hj2,hx2,he2⟩:=qM (h2 _ (List.getElem_mem hi))
     have hmem:=hr.1.2.2 _ (List.getElem_mem hj2)
     have hn32:=hr.1.1
     have hlen2:=gE (n:=32) (a:=l[j2]) ⟨⟨by have:=hmem.1; omega,by have:=hmem.1; omega⟩,⟨by have:=hmem.2.1; omega,by have:=hmem.2.1; omega⟩,hmem.2.2.1,hmem.2.2.2⟩ hr.2
     have htok:=hmem.2.2.2
     rw [he2] at hrun hexi
     exact .inl ⟨_,_,hrun,κ-1,by omega,i+1,_,_,_,by omega,rfl,hA',hexi,by omega,by omega⟩
    ·rw [if_neg hf] at hrun
     rw [hd,exL,if_neg hf] at hexi
     exact .inr ⟨_,hrun,(fun _ _ h=>by cases h),.inr ⟨hexi,_,_,_,_,_,_,_,rfl⟩⟩
   ·obtain rfl:i=xs.length:=by omega
    rw [List.drop_length,exL] at hexi
    refine .inr ⟨_,?_,?_,.inl ⟨s,t,at_,A,hexi,rfl⟩⟩
    ·simp [nJ]
    ·intro _ _ h; cases h)
  300 xs.length (m7 (.ptr 0 0 0) (.int .i64 0) (.int .i64 0) (.int .i64 l[j].t) c (.int .i64 (xs.length:Int)) (.int .i64 0)) [.row 1 false [cJ n p l]] (by omega) ⟨0,0,0,_,by omega,rfl,rfl,rfl,by omega,by omega⟩
 rw [hex]
 rw [<-hW1] at x2
 rw [hW] at m36 hfz lp ⊢
 obtain ⟨q,hq⟩:∃q,q=xs.length-1:=⟨_,rfl⟩
 rw [<-hq] at x1 b0
 rcases ho with ⟨s,t,at_,A',he1,rfl⟩ | ⟨he1,v7,v8,v9,v14,v15,v16,A',rfl⟩
 ·rw [he1]
  simp [zo,hlen,m32,f1,hfz,m36,b0,x1,x2,BA lp,exT,bI,aM,-aw,-frz,-ag,-ai]
  simp [frz]
 ·rw [he1]
  simp [zo,hlen,m32,f1,hfz,m36,b0,x1,x2,BA lp,exT,bI,aM,-aw,-frz,-ag,-ai]
  simp [frz]
open Go
def WL (L:List da) (u v j:Nat) (z:Int):Prop:=∃r,isW L u r v/\r.length=j/\i9 r=z
def fI (P:Int->Prop) (y:LP):Prop:=(y=noL/\∀z,¬ P z)\/(y.2=true/\P y.1/\∀z,P z->z<=y.1)
theorem fI.congr {P Q:Int->Prop} {y:LP} (h:fI P y) (hpq:∀z,P z↔Q z):fI Q y:=by
 rcases h with ⟨h1,h2⟩ | ⟨h1,h2,h3⟩
 ·exact .inl ⟨h1,fun z hz=>h2 z ((hpq z).2 hz)⟩
 ·exact .inr ⟨h1,(hpq _).1 h2,fun z hz=>h3 z ((hpq z).2 hz)⟩
theorem yP {P Q:Int->Prop} {x y:LP} (h1:fI P x) (h2:fI Q y):fI (fun z=>P z\/Q z) (jH x y):=by
 obtain ⟨x1,x2⟩:=x
 obtain ⟨y1,y2⟩:=y
 rcases h1 with ⟨e1,a1⟩ | ⟨e1,a1,b1⟩
 ·have:jH (x1,x2) (y1,y2)=(y1,y2):=if_pos (.inl (by rw [e1]; rfl))
  rw [this]
  exact h2.congr fun z=>⟨.inr,fun h=>h.elim (fun h=>absurd h (a1 z)) id⟩
 ·simp only at e1 a1 b1
  rcases h2 with ⟨e2,a2⟩ | ⟨e2,a2,b2⟩
  ·have:jH (x1,x2) (y1,y2)=(x1,x2):=if_neg (by
    rw [e2,e1]
    rintro (h | ⟨h,_⟩) <;> cases h)
   rw [this]
   exact .inr ⟨e1,.inl a1,fun z h=>h.elim (b1 z) fun h=>absurd h (a2 z)⟩
  ·simp only at e2 a2 b2
   by_cases h:y1 > x1
   ·have:jH (x1,x2) (y1,y2)=(y1,y2):=if_pos (.inr ⟨e2,h⟩)
    rw [this]
    exact .inr ⟨e2,.inr a2,fun z hz=>hz.elim (fun hz=>by have:=b1 z hz; simp only; omega) (b2 z)⟩
   ·have:jH (x1,x2) (y1,y2)=(x1,x2):=if_neg (by
     rw [e1]
     rintro (h' | ⟨_,h'⟩)
     ·cases h'
     ·exact h h')
    rw [this]
    exact .inr ⟨e1,.inl a1,fun z hz=>hz.elim (b1 z) fun hz=>by have:=b2 z hz; simp only; omega⟩
theorem yN {P:Int->Prop} {x:LP} (h:fI P x) (w:Int):fI (fun z=>∃z',P z'/\z=w+z') (eF x w):=by
 rcases h with ⟨e,a⟩ | ⟨e,a,b⟩
 ·rw [e]
  exact .inl ⟨rfl,fun z ⟨z',h,_⟩=>a z' h⟩
 ·have:eF x w=(x.1+w,x.2):=if_neg (by rw [e]; rintro ⟨h,_⟩; cases h)
  rw [this]
  refine .inr ⟨e,⟨_,a,by simp only; omega⟩,?_⟩
  rintro z ⟨z',h,rfl⟩
  have:=b z' h
  simp only; omega
theorem yO:fI (fun _=>False) noL:=.inl ⟨rfl,fun _ h=>h⟩
theorem qO {L:List da} {u v:Nat} {z:Int}:WL L u v 0 z↔u=v/\z=0:=by
 constructor
 ·rintro ⟨r,h1,h2,h3⟩
  have:r=[]:=List.length_eq_zero_iff.1 h2
  subst this
  exact ⟨h1,h3.symm⟩
 ·rintro ⟨rfl,rfl⟩
  exact ⟨[],rfl,rfl,rfl⟩
theorem yY {L:List da} {u v j:Nat} {z:Int}:WL L u v (j+1) z↔∃a∈L,a.1=u/\∃z',WL L a.2.1 v j z'/\z=a.2.2+z':=by
 constructor
 ·rintro ⟨r,h1,h2,h3⟩
  cases r with
  | nil=>simp at h2
  | cons a r=>
   obtain ⟨k1,k2,k3⟩:=h1
   exact ⟨a,k1,k2,i9 r,⟨r,k3,by simpa using h2,rfl⟩,h3.symm⟩
 ·rintro ⟨a,h1,h2,z',⟨r,k1,k2,rfl⟩,rfl⟩
  exact ⟨a :: r,⟨h1,h2,k1⟩,by simp [k2],rfl⟩
theorem wR (n v:Nat):(List.replicate n noL).getD v noL=noL:=by
 rw [List.getD_eq_getElem?_getD]
 by_cases h:v<n <;> simp [h]
theorem uD {L0:List da} {n to j:Nat} (hok:su n L0) {h:List LP} (hh:∀u,u<n->fI (WL L0 u to j) (h.getD u noL)):∀(L:List da),(∀a∈L,a∈L0)->∀(next:List LP) (D:Nat->Int->Prop),next.length=n->(∀u,u<n->fI (D u) (next.getD u noL)) ->
  ∀u,u<n->fI (fun z=>D u z\/∃a∈L,a.1=u/\∃z',WL L0 a.2.1 to j z'/\z=a.2.2+z') ((L.foldl (hst h) next).getD u noL)
 | [],_,next,D,hn,hD,u,hu=>(hD u hu).congr fun z=>⟨.inl,fun h=>h.elim id fun ⟨a,h,_⟩=>by cases h⟩
 | a :: L,hL,next,D,hn,hD,u,hu=>by
  obtain ⟨o1,o2,_⟩:=hok a (hL a (by simp))
  have:=uD hok hh L (fun b hb=>hL b (by simp [hb])) (hst h next a) (fun u z=>D u z\/(a.1=u/\∃z',WL L0 a.2.1 to j z'/\z=a.2.2+z')) (by rw [tx,hn]) (fun v hv=>by
   unfold hst
   rw [jX _ _ _ _ _ (by omega)]
   by_cases hav:a.1=v
   ·rw [if_pos hav]
    subst hav
    exact (yP (hD _ o1) (yN (hh _ o2) a.2.2)).congr fun z=>by simp
   ·rw [if_neg hav]
    exact (hD v hv).congr fun z=>⟨.inl,fun h=>h.elim id fun h=>absurd h.1 hav⟩) u hu
  rw [List.foldl_cons]
  refine this.congr fun z=>?_
  constructor
  ·rintro ((h | ⟨h1,h2⟩) | ⟨b,h1,h2⟩)
   ·exact .inl h
   ·exact .inr ⟨a,by simp,h1,h2⟩
   ·exact .inr ⟨b,by simp [h1],h2⟩
  ·rintro (h | ⟨b,h1,h2⟩)
   ·exact .inl (.inl h)
   ·rcases List.mem_cons.1 h1 with rfl | h1
    ·exact .inl (.inr h2)
    ·exact .inr ⟨b,h1,h2⟩
theorem xr {L:List da} {n to:Nat} (hok:su n L) (hto:to<n):∀(j u:Nat),u<n->fI (WL L u to j) ((hm L n to j).getD u noL)
 | 0,u,hu=>by
  unfold hm
  rw [jX _ _ _ _ _ (by simpa using hto)]
  by_cases h:to=u
  ·rw [if_pos h]
   exact .inr ⟨rfl,qO.2 ⟨h.symm,rfl⟩,fun z hz=>by have:=(qO.1 hz).2; simp only; omega⟩
  ·rw [if_neg h,wR]
   exact .inl ⟨rfl,fun z hz=>h (qO.1 hz).1.symm⟩
 | j+1,u,hu=>by
  have:=uD hok (xr hok hto j) L (fun _ h=>h) (List.replicate n noL) (fun _ _=>False) (by simp) (fun u _=>by rw [wR]; exact yO) u hu
  refine this.congr fun z=>?_
  rw [yY]
  exact ⟨fun h=>h.elim False.elim id,.inr⟩
def rF (l:List aZ):Int->List eE->Int->Prop
 | u,[],v=>u=v
 | u,x :: r,v=>x∈num l/\x.1.f=u/\rF l x.1.t r v
def iw (p:Int) (xs:List eE):Int:=(xs.map fun x=>x.1.len p).sum
def kz (xs:List eE):Int:=(xs.map fun x=>x.1.k).sum
def If (xs:List eE):Int:=(xs.map fun x=>x.1.w).sum
theorem xh (p:Int):∀xs:List eE,iw p xs=If xs-p*kz xs
 | []=>by simp [iw,If,kz]
 | x :: r=>by
  have:=xh p r
  simp only [iw,If,kz,List.map_cons,List.sum_cons,aZ.len] at this ⊢
  rw [this,Int.mul_add]; omega
def Bp (p:Int) (x:eE):da:=(x.1.f.toNat,x.1.t.toNat,x.1.len p)
theorem Dz {p:Int} {l:List aZ} {x:eE} (h:x∈num l):Bp p x∈lar p l:=by
 obtain ⟨hi,he⟩:=kD h
 exact List.mem_map.2 ⟨x.1,by rw [<-he]; exact List.getElem_mem hi,rfl⟩
theorem xj {p:Int} {l:List aZ} {a:da} (h:a∈lar p l):∃x∈num l,Bp p x=a:=by
 obtain ⟨c,hc,rfl⟩:=List.mem_map.1 h
 obtain ⟨i,hi,rfl⟩:=List.mem_iff_getElem.1 hc
 exact ⟨(l[i],i),List.mem_of_getElem? (eY l i hi),rfl⟩
theorem rn {n:Int} {l:List aZ} (hv:∀x∈l,okA n x) {x:eE} (h:x∈num l):okA n x.1:=by
 obtain ⟨hi,he⟩:=kD h
 rw [<-he]; exact hv _ (List.getElem_mem hi)
theorem Lv {n p:Int} {l:List aZ} (hv:∀x∈l,okA n x):∀ {xs:List eE} {u v:Int},rF l u xs v->isW (lar p l) u.toNat (xs.map (Bp p)) v.toNat/\i9 (xs.map (Bp p))=iw p xs
 | [],u,v,h=>⟨by rw [show u=v from h]; rfl,rfl⟩
 | x :: r,u,v,⟨h1,h2,h3⟩=>by
  obtain ⟨k1,k2⟩:=Lv hv h3
  refine ⟨⟨Dz h1,by rw [<-h2]; rfl,k1⟩,?_⟩
  simp only [List.map_cons,i9,k2,iw,List.sum_cons]
  rfl
section
variable {n to:Nat} {p:Int} {l:List aZ} (hv:∀x∈l,okA n x) (hn32:n<=32) (hp:cn p) (hto:to<n)
include hv hn32 hp hto
theorem mK {j:Nat} {sum:Int} {x:eE} (hx:x∈num l):kH (hm (lar p l) n to j) p sum x=true↔∃z,WL (lar p l) x.1.t.toNat to j z/\sum+x.1.len p+z > 0:=by
 have hok:=rn hv hx
 have ht:=hok.2.1
 have hb:=xr (uA hn32 hp hv) hto j x.1.t.toNat (by omega)
 unfold kH
 obtain ⟨y,hy⟩:∃y,y=(hm (lar p l) n to j).getD x.1.t.toNat noL:=⟨_,rfl⟩
 rw [<-hy] at hb ⊢
 rcases hb with ⟨e,a⟩ | ⟨e,a,b⟩
 ·rw [e]
  constructor
  ·intro h
   have:eF noL (sum+x.1.len p)=noL:=rfl
   rw [this] at h
   simp [noL] at h
  ·rintro ⟨z,hz,_⟩
   exact absurd hz (a z)
 ·have:eF y (sum+x.1.len p)=(y.1+(sum+x.1.len p),y.2):=if_neg (by rw [e]; rintro ⟨h,_⟩; cases h)
  rw [this,e]
  simp only [Bool.true_and,decide_eq_true_eq]
  constructor
  ·intro h
   exact ⟨y.1,a,by omega⟩
  ·rintro ⟨z,hz,h⟩
   have:=b z hz
   omega
theorem wo:∀(r:Nat) (v sum:Int) (out:List Int),0<=v->(∃z,WL (lar p l) v.toNat to r z/\sum+z > 0) ->
  ∃xs:List eE,oJ p l (hm (lar p l) n to) r sum (lY l v.toNat) out=some (out++xs.map fun x=>(x.2:Int))/\rF l v xs (to:Int)/\xs.length=r/\sum+iw p xs > 0
 | 0,v,sum,out,hv0,⟨z,h1,h2⟩=>by
  obtain ⟨h3,rfl⟩:=qO.1 h1
  exact ⟨[],by simp [oJ],by show v=(to:Int); omega,rfl,by simpa [iw] using h2⟩
 | r+1,v,sum,out,hv0,⟨z,h1,h2⟩=>by
  obtain ⟨a,ha,haf,z',hz',rfl⟩:=yY.1 h1
  obtain ⟨x,hx,rfl⟩:=xj ha
  have hokx:=rn hv hx
  have hxf:x.1.f=v:=by
   have:=hokx.1
   simp only [Bp] at haf; omega
  have hxo:x∈lY l v.toNat:=List.mem_filter.2 ⟨hx,by simp; omega⟩
  have hg:kH (hm (lar p l) n to r) p sum x=true:=(mK hv hn32 hp hto hx).2 ⟨z',hz',by simp only [Bp] at h2; omega⟩
  cases hf:(lY l v.toNat).find? (kH (hm (lar p l) n to r) p sum) with
  | none=>
   rw [List.find?_eq_none] at hf
   exact absurd hg (hf x hxo)
  | some b=>
   have hbg:=List.find?_some hf
   have hbo:=List.mem_of_find?_eq_some hf
   have hbn:=(List.mem_filter.1 hbo).1
   have hbf:=(List.mem_filter.1 hbo).2
   simp only [decide_eq_true_eq] at hbf
   have hokb:=rn hv hbn
   obtain ⟨y,hy1,hy2⟩:=(mK hv hn32 hp hto hbn).1 hbg
   obtain ⟨xs,k1,k2,k3,k4⟩:=wo r b.1.t (sum+b.1.len p) (out++[(b.2:Int)]) hokb.2.1.1 ⟨y,hy1,hy2⟩
   refine ⟨b :: xs,?_,⟨hbn,by omega,k2⟩,by simp [k3],?_⟩
   ·simp only [oJ,hf,k1]
    simp
   ·simp only [iw,List.map_cons,List.sum_cons] at k4 ⊢
    omega
end
section
variable {n:Nat} {p:Int} {l:List aZ} (hv:∀x∈l,okA n x) (hn32:n<=32) (hp:cn p)
include hv hn32 hp
theorem sH {k:Nat} {x:eE} (hx:x∈num l):(wk p l n (k+1) x=none/\¬ ∃z,WL (lar p l) x.1.t.toNat x.1.f.toNat k z/\x.1.len p+z > 0) \/
  ∃xs:List eE,wk p l n (k+1) x=some (xs.map fun y=>(y.2:Int))/\rF l x.1.f xs x.1.f/\xs.length=k+1/\iw p xs > 0:=by
 have hok:=rn hv hx
 have hto:x.1.f.toNat<n:=by have:=hok.1; omega
 unfold wk oJ
 by_cases hg:kH (hm (lar p l) n x.1.f.toNat k) p 0 x=true
 ·right
  obtain ⟨z,hz1,hz2⟩:=(mK hv hn32 hp hto hx).1 hg
  obtain ⟨xs,k1,k2,k3,k4⟩:=wo hv hn32 hp hto k x.1.t (0+x.1.len p) ([]++[(x.2:Int)]) hok.2.1.1 ⟨z,hz1,by omega⟩
  refine ⟨x :: xs,?_,⟨hx,rfl,?_⟩,by simp [k3],?_⟩
  ·simp only [List.find?_cons,hg,k1]
   simp
  ·have:((x.1.f.toNat:Nat):Int)=x.1.f:=by have:=hok.1; omega
   rw [this] at k2; exact k2
  ·simp only [iw,List.map_cons,List.sum_cons] at k4 ⊢
   omega
 ·left
  refine ⟨?_,fun ⟨z,h1,h2⟩=>hg ((mK hv hn32 hp hto hx).2 ⟨z,h1,by omega⟩)⟩
  rw [Bool.not_eq_true] at hg
  simp [hg]
theorem nU {k:Nat}:eA p l n (k+1)=none↔∀u c,isW (lar p l) u c u->c.length=k+1->i9 c<=0:=by
 unfold eA
 rw [List.findSome?_eq_none_iff]
 constructor
 ·intro h u c hc hl
  cases c with
  | nil=>simp at hl
  | cons a r=>
   obtain ⟨h1,h2,h3⟩:=hc
   obtain ⟨x,hx,rfl⟩:=xj h1
   rcases sH hv hn32 hp (k:=k) hx with ⟨_,h5⟩ | ⟨xs,h4,_⟩
   ·rcases Int.lt_or_le 0 (i9 (Bp p x :: r)) with h6 | h6
    ·refine absurd ⟨i9 r,⟨r,?_,by simpa using hl,rfl⟩,?_⟩ h5
     ·have e:x.1.f.toNat=u:=h2
      rw [e]; exact h3
     ·simp only [i9,Bp] at h6; omega
    ·exact h6
   ·rw [h x hx] at h4; cases h4
 ·intro h x hx
  rcases sH hv hn32 hp (k:=k) hx with ⟨h4,_⟩ | ⟨xs,h4,h5,h6,h7⟩
  ·exact h4
  ·obtain ⟨k1,k2⟩:=Lv (p:=p) hv h5
   have:=h _ _ k1 (by simp [h6])
   omega
theorem tE {k:Nat} {res:List Int} (h:eA p l n (k+1)=some res):∃(u:Int) (xs:List eE),res=xs.map (fun y=>(y.2:Int))/\rF l u xs u/\xs.length=k+1/\iw p xs > 0:=by
 unfold eA at h
 obtain ⟨x,hx,hw⟩:=List.exists_of_findSome?_eq_some h
 rcases sH hv hn32 hp (k:=k) hx with ⟨h4,_⟩ | ⟨xs,h4,h5,h6,h7⟩
 ·rw [h4] at hw; cases hw
 ·rw [h4] at hw
  injection hw with hw
  exact ⟨_,xs,hw.symm,h5,h6,h7⟩
theorem uQ:qI p l n=none↔zd (lar p l) n:=by
 unfold qI
 rw [List.findSome?_eq_none_iff]
 constructor
 ·intro h u c hc h1 h2
  have:=(nU hv hn32 hp (k:=c.length-1)).1 (h (c.length-1) (by simp; omega)) u c hc (by omega)
  exact this
 ·intro h j hj
  rw [List.mem_range] at hj
  exact (nU hv hn32 hp).2 fun u c hc hl=>h u c hc (by omega) (by omega)
theorem uP {res:List Int} (h:qI p l n=some res):∃(u:Int) (xs:List eE),res=xs.map (fun y=>(y.2:Int))/\rF l u xs u/\1<=xs.length/\xs.length<=n/\iw p xs > 0:=by
 unfold qI at h
 obtain ⟨j,hj,hw⟩:=List.exists_of_findSome?_eq_some h
 rw [List.mem_range] at hj
 obtain ⟨u,xs,h1,h2,h3,h4⟩:=tE hv hn32 hp hw
 exact ⟨u,xs,h1,h2,by omega,by omega,h4⟩
end
end Cy
end Go.Proofs.Ytkcjhljbgjpklaa
