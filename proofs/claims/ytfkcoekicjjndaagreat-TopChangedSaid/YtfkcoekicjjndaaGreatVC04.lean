import Derived.Test.YtfkcoekicjjndaaGreatVC03
set_option maxRecDepth 100000
set_option maxHeartbeats 4000000
noncomputable section
namespace Go.Proofs.YtfkcoekicjjndaaGreat
open Go
variable {p c1 c3 c4 c5 c6 hi w c2 sum:Int} {n i k j lid to id t kb:Nat} {A B X:ac} {s v6 v10 v7 v12 v13 a v14 v15 v16 W v8 x c:AV} {xs:List Int} {G:Int->AV}
def pick (a n:Int):Int:=(if a<0 then -(a+1) else a).tmod n
theorem cI (a n:Int) (hn:0<n):0<=pick a n/\pick a n<n:=by
 unfold pick
 split
 ·exact ⟨Int.tmod_nonneg _ (by omega),Int.tmod_lt_of_pos _ hn⟩
 ·exact ⟨Int.tmod_nonneg _ (by omega),Int.tmod_lt_of_pos _ hn⟩
def ax (xs:List Int):List AV:=xs.map (.int .i64)
@[simp] theorem tV (esz:Nat) (es:List AV):cellsOf (slA esz es)=[slA esz es]:=by cases es <;> rfl
@[simp] theorem xj (esz:Nat) (es:List AV):(slA esz es).solid=true:=by cases es <;> rfl
@[simp] theorem J1 (esz:Nat) (es:List AV):tN (slA esz es)=true:=by cases es <;> rfl
@[simp] theorem tL (A:ac) (n esz:Nat) (es:List AV):frz A n (slA esz es)=slA esz es:=by cases es <;> cases n <;> rfl
@[simp] theorem xH (n esz:Nat) (es:List AV):bu n (slA esz es)=true:=by cases es <;> cases n <;> rfl
@[simp] theorem qw (esz:Nat) (es:List AV):az (slA esz es)=some (.int .i64 (es.length:Int)):=by cases es <;> rfl
def cK (A:ac) (esz:Nat) (a:AV) (xs:List AV):Prop:=SlA esz xs a\/∃id off gr es,a=.sl id off xs.length/\A[id]?=some (.row esz gr es)/\(es.drop off).take xs.length=xs
section
variable {A B:ac} {esz:Nat} {a:AV} {xs:List AV}
theorem cK.len (h:cK A esz a xs):az a=some (.int .i64 (xs.length:Int)):=by
 rcases h with h | ⟨id,off,gr,es,rfl,h1,h2⟩
 ·exact h.len
 ·rfl
theorem cK.load1 (h:cK A 1 a xs) (hAB:∀id,id<A.length->B[id]?=A[id]?) (hx:xs[i]?=some x) (hs:x.solid=true) (hc:cellsOf x=[x]) (hl:ce x 1 0 false 1=some x) (k:IntKind) :
  ∃p,au 1 B a (.int k (i:Int))=some p/\af false 1 B p=some x:=by
 rcases h with h | ⟨id,off,gr,es,rfl,h1,h2⟩
 ·exact ⟨_,h.index1 hx hs hc k,rfl⟩
 ·have hid:id<A.length:=(Rx.1 h1).1
  have hi:i<xs.length:=(Rx.1 hx).1
  have hB:B[id]?=some (.row 1 gr es):=(hAB id hid).trans h1
  have he:es[off+i]?=some x:=by
   rw [<-h2,SZ hi,SJ] at hx
   exact hx
  refine ⟨.ptr id (off+i) 0,?_,?_⟩
  ·simp [au,hB,hi]
  ·simp [af,hB,he,hl]
theorem cK.int {zs:List Int} (h:cK A 1 a (ax zs)) (hAB:∀id,id<A.length->B[id]?=A[id]?) (hi:i<zs.length) (k:IntKind) :
  ∃p,au 1 B a (.int k (i:Int))=some p/\af false 1 B p=some (.int .i64 zs[i]):=
 h.load1 hAB (x:=.int .i64 zs[i]) (by simp [ax,hi]) rfl rfl rfl k
end
theorem lV (h:lW s=some xs) (n:Nat):bu n s=true:=by
 rcases (jA h).1 with ⟨rfl,_⟩ | rfl <;> cases n <;> rfl
theorem sG (B:ac) (n:Nat) (xs:List Int):(ax xs).all (a5 B n)=true:=by
 unfold ax
 rw [RZ]
 intro x hx
 obtain ⟨z,_,rfl⟩:=R1.1 hx
 cases n <;> rfl
theorem rQ (A:ac) (n:Nat) (xs:List Int):(ax xs).map (frz A n)=ax xs:=by
 unfold ax; rw [Te]; apply Sc; intro x _; cases n <;> rfl
namespace Cy
def GC:Nat->Option (List AV):=fun _=>none
structure bc where
 f:Int
 t:Int
 w:Int
 k:Int
def cJ (a:bc):AV:=.agg [.int .i64 a.f,.int .i64 a.t,.int .i64 a.w,.int .i64 a.k]
def bc.inR (a:bc):Prop:=inI a.f/\inI a.t/\inI a.w/\inI a.k
open Classical in
def BG:AV->Option bc
 | .agg [.int .i64 f,.int .i64 t,.int .i64 w,.int .i64 k]=>if bc.inR ⟨f,t,w,k⟩ then some ⟨f,t,w,k⟩ else none
 | _=>none
theorem p5 {a:bc} (h:BG x=some a):x=cJ a/\a.inR:=by
 unfold BG at h
 split at h
 ·simp only [Rz,Ry] at h
  obtain ⟨h1,rfl⟩:=h
  exact ⟨rfl,h1⟩
 ·cases h
theorem BF {a:bc} (h:a.inR):BG (cJ a)=some a:=RL h
def FL {α:Type} (s:Nat) (f:AV->Option α):AV->Option (List α)
 | .nilS=>some []
 | .fs s' es=>if s'=s/\es.length<=9223372036854775807 then t8 f es else none
 | _=>none
def cw (a:AV):Option (List bc):=FL 4 BG a
theorem gv {l:List bc} (h:cw a=some l):SlA 4 (l.map cJ) a/\l.length<=9223372036854775807/\∀x∈l,x.inR:=by
 unfold cw FL at h
 split at h
 ·injection h with h; subst h
  exact ⟨.inl ⟨rfl,rfl⟩,by simp,by simp⟩
 ·rename_i s' es
  simp only [Rz] at h
  obtain ⟨⟨rfl,hl⟩,h⟩:=h
  obtain ⟨h1,h2⟩:=lh h
  have e:es=l.map cJ:=TO (by simpa using h1) fun i k1 k2=>by
   rw [(p5 (h2 i k1 (by omega))).1]; simp
  subst e
  refine ⟨.inr rfl,by simpa using hl,fun x hx=>?_⟩
  obtain ⟨i,hi,rfl⟩:=Sz.1 hx
  have:=h2 i (by simpa using hi) hi
  exact (p5 this).2
 ·cases h
theorem zD {l:List bc} (h:SlA 4 (l.map cJ) a) (hl:l.length<=9223372036854775807) (hr:∀x∈l,x.inR):cw a=some l:=by
 unfold cw FL
 rcases h with ⟨rfl,h⟩ | rfl
 ·have:l=[]:=by simpa using h
  subst this; rfl
 ·simp only [RR]
  rw [RL ⟨trivial,hl⟩]
  exact oG fun x hx=>BF (hr x hx)
section
variable {a:AV} {l:List bc}
theorem lg (h:cw a=some l):az a=some (.int .i64 (l.length:Int))/\l.length<=9223372036854775807:=by
 obtain ⟨h1,h2,_⟩:=gv h
 have:=h1.len
 simp only [RR] at this
 exact ⟨this,h2⟩
theorem sB (h:cw a=some l) (hi:i<l.length):∀A k,au 4 A a (.int k (i:Int))=some (.fp [.int .i64 l[i].f,.int .i64 l[i].t,.int .i64 l[i].w,.int .i64 l[i].k]):=fun A k=>by
 obtain ⟨h1,h2,_⟩:=gv h
 have hx:(l.map cJ)[i]?=some (cJ l[i]):=by simp [hi]
 exact h1.index (A:=A) hx rfl (by simp) k
theorem eG (h:cw a=some l) (A:ac) (n:Nat):frz A n a=a:=(gv h).1.frz n
theorem fm (h:cw a=some l) (n:Nat):bu n a=true:=by
 rcases (gv h).1 with ⟨rfl,_⟩ | rfl <;> cases n <;> rfl
end
theorem fX {l:List bc} (hl:l.length<=9223372036854775807) (h:∀x∈l,x.inR):cw (slA 4 (l.map cJ))=some l:=zD (bo _ _) hl h
def M32:aI:=fun args=>match args with
 | [.int .i64 n,.int .i64 lo,.int .i64 hi]=>some (.bool (decide (lo<=n/\n<=hi)))
 | _=>none
theorem kK (n lo hi:Int):M32 [.int .i64 n,.int .i64 lo,.int .i64 hi]=some (.bool (decide (lo<=n/\n<=hi))):=rfl
theorem Am (n lo hi:Int):decide (lo<=n/\n<=hi)=(decide (lo<=n) && decide (n<=hi)):=by
 rw [Tf,Sq,Sf,Sq,Sq]
theorem rh:an Tryz.prog GC 60 M32:=by
 refine an.of_ev (E:=ai GC []) (ag aw) rfl O9 yP 1 ?_
 intro args r h
 unfold M32 at h
 split at h
 ·rename_i n lo hi
  injection h with h; subst h
  refine ⟨0,?_⟩
  have b1:aq .geq (.int .i64 n) (.int .i64 lo)=some (.bool (decide (lo<=n))):=by simp [aq]
  have b2:aq .leq (.int .i64 n) (.int .i64 hi)=some (.bool (decide (n<=hi))):=by simp [aq]
  rw [Am]
  obtain ⟨p,hp⟩:∃p,p=decide (lo<=n):=⟨_,rfl⟩
  obtain ⟨q,hq⟩:∃q,q=decide (n<=hi):=⟨_,rfl⟩
  rw [<-hp] at b1 ⊢
  rw [<-hq] at b2 ⊢
  rw [aT _ _ rfl]
  cases p <;> simp [Hh,b1,b2,-aq]
 ·cases h
def cy (p:Int):Prop:=-1000000<=p/\p<=1000000
instance (p:Int):Decidable (cy p):=inferInstanceAs (Decidable (_/\_))
def M41:aI:=fun args=>match args with
 | [.int .i64 p]=>some (.bool (decide (cy p)))
 | _=>none
def fsW:List (FuncId × aD):=[(60,aG 4 M32)]
@[simp] theorem QG:aH fsW 60=some (aG 4 M32):=rfl
theorem uA:∀f M,aH fsW f=some M->ak Tryz.prog GC f M:=ae (ak.of_pure rh 4) aw
theorem nB:an Tryz.prog GC 90 M41:=by
 refine an.of_ev (E:=ai GC fsW) (ag uA) rfl KQ sf 1 ?_
 intro args r h
 unfold M41 at h
 split at h
 ·rename_i p
  injection h with h; subst h
  refine ⟨0,?_⟩
  have m:=kK p (-1000000) 1000000
  rw [show decide (-1000000<=p/\p<=1000000)=decide (cy p) from rfl] at m
  rw [aT _ _ rfl]
  simp [xL,m]
 ·cases h
def okA (n:Int) (a:bc):Prop:=(0<=a.f/\a.f<=n-1)/\(0<=a.t/\a.t<=n-1)/\(-1000000<=a.w/\a.w<=1000000)/\(-2<=a.k/\a.k<=2)
instance (n:Int) (a:bc):Decidable (okA n a):=inferInstanceAs (Decidable (_/\_))
def dn (n:Int) (a:bc):Bool:=!decide (okA n a)
theorem Al (n:Int) (a:bc):dn n a=(!decide (0<=a.f/\a.f<=n-1) || !decide (0<=a.t/\a.t<=n-1) || !decide (-1000000<=a.w/\a.w<=1000000) || !decide (-2<=a.k/\a.k<=2)):=by
 unfold dn okA
 by_cases h1:0<=a.f/\a.f<=n-1 <;> by_cases h2:0<=a.t/\a.t<=n-1 <;> by_cases h3 : -1000000<=a.w/\a.w<=1000000 <;> by_cases h4 : -2<=a.k/\a.k<=2 <;> simp [h1,h2,h3,h4]
def M31:aI:=fun args=>match args with
 | [.agg [.int .i64 f,.int .i64 t,.int .i64 w,.int .i64 k],.fp [.int .i64 n]]=>if 1<=n/\n<=32 then some (.bool (dn n ⟨f,t,w,k⟩)) else none
 | _=>none
theorem xc:an Tryz.prog GC 146 M31:=by
 refine an.of_ev (E:=ai GC fsW) (ag uA) rfl Pa yQ 1 ?_
 intro args r h
 unfold M31 at h
 split at h
 ·rename_i f t w k n
  simp only [Rz,Ry] at h
  obtain ⟨hn,rfl⟩:=h
  refine ⟨0,?_⟩
  rw [Al]
  have m1:=kK f 0 (n-1)
  have m2:=kK t 0 (n-1)
  have m3:=kK w (-1000000) 1000000
  have m4:=kK k (-2) 2
  have b:aq .sub (.int .i64 n) (.int .i64 1)=some (.int .i64 (n-1)):=by
   simp only [aq]; rw [RL trivial,eg (by unfold inI; omega)]
  simp only
  obtain ⟨p1,hp1⟩:∃p,p=decide (0<=f/\f<=n-1):=⟨_,rfl⟩
  obtain ⟨p2,hp2⟩:∃p,p=decide (0<=t/\t<=n-1):=⟨_,rfl⟩
  obtain ⟨p3,hp3⟩:∃p,p=decide (-1000000<=w/\w<=1000000):=⟨_,rfl⟩
  obtain ⟨p4,hp4⟩:∃p,p=decide (-2<=k/\k<=2):=⟨_,rfl⟩
  rw [<-hp1] at m1 ⊢
  rw [<-hp2] at m2 ⊢
  rw [<-hp3] at m3 ⊢
  rw [<-hp4] at m4 ⊢
  obtain ⟨n1,hn1⟩:∃n1,n1=n-1:=⟨_,rfl⟩
  rw [<-hn1] at b m1 m2
  rw [aT _ _ rfl]
  cases p1
  ·simp [AO,b,m1,-aq]
  ·cases p2
   ·simp [AO,b,m1,m2,-aq]
   ·cases p3
    ·simp [AO,b,m1,m2,m3,-aq]
    ·simp [AO,b,m1,m2,m3,m4,-aq]
 ·cases h
def yn (n:Int):AV:=.func (.func 146) [] [.fp [.int .i64 n]]
def CA:List (FuncId × aD):=[(146,aG 4 M31)]
@[simp] theorem Nt:aH CA 146=some (aG 4 M31):=rfl
theorem Eo:∀f M,aH CA f=some M->ak Tryz.prog GC f M:=ae (ak.of_pure xc 4) aw
def cZ {α:Type} (p:α->Bool) (l:List α):Int:=match l.findIdx? p with
 | some i=>i
 | none=>-1
theorem bJ {α:Type} {p:α->Bool} {l:List α} (hi:i<l.length) (h1:p l[i]=true) (h2:∀j (hj:j<i),p (l[j]'(by omega))=false):cZ p l=(i:Int):=by
 have:l.findIdx? p=some i:=List.findIdx?_eq_some_iff_getElem.2 ⟨hi,h1,fun j hj=>by simpa using h2 j hj⟩
 unfold cZ; rw [this]
theorem bS {α:Type} {p:α->Bool} {l:List α} (h:∀i (hi:i<l.length),p l[i]=false):cZ p l = -1:=by
 have:l.findIdx? p=none:=by
  rw [List.findIdx?_eq_none_iff]
  intro x hx
  obtain ⟨i,hi,rfl⟩:=Sz.1 hx
  exact h i hi
 unfold cZ; rw [this]
theorem cq {α:Type} (p:α->Bool) (l:List α):decide (0<=cZ p l)=l.any p:=by
 unfold cZ
 cases h:l.findIdx? p with
 | some i=>
  obtain ⟨hi,h1,_⟩:=List.findIdx?_eq_some_iff_getElem.1 h
  show decide (0<=(i:Int))=_
  rw [RJ (by omega),eq_comm,List.any_eq_true]
  exact ⟨_,RM hi,h1⟩
 | none=>
  rw [List.findIdx?_eq_none_iff] at h
  show decide (0<=(-1:Int))=_
  rw [RH (by omega),eq_comm,Td]
  intro x hx; rw [h x hx]; simp
theorem ev44 {a:AV} {l:List bc} (ha:cw a=some l) {n:Int} (hn:1<=n/\n<=32):evP (ai GC CA) (l.length+1) AM 1 [a,yn n]=some (.int .i64 (cZ (dn n) l)):=by
 obtain ⟨hl,hm⟩:=lg ha
 have round:∀(A:ac) (i:Nat) (hi:i<l.length),run (ai GC CA) (l.length+1) [.code je] (lz a (yn n) (.int .i64 (l.length:Int)) (.int .i64 (i:Int))) A =
   if dn n l[i]=false then some (.normal (lz a (yn n) (.int .i64 (l.length:Int)) (.int .i64 ((i+1:Nat):Int))) A) else some (.ret [a,yn n,.int .i64 (i:Int),.int .i64 (i:Int),.int .i64 (l.length:Int),.int .i64 (i:Int),.bool true,.bool true] A):=fun A i hi=>by
  have x1:=sB ha hi A .i64
  have m:M31 [.agg [.int .i64 l[i].f,.int .i64 l[i].t,.int .i64 l[i].w,.int .i64 l[i].k],.fp [.int .i64 n]]=some (.bool (dn n l[i])):=RL hn
  have b1:=bC i l.length .i64
  rw [RJ hi] at b1
  have b3:=bh i (by omega)
  obtain ⟨i1,hi1⟩:∃i1:Nat,i1=i+1:=⟨_,rfl⟩
  rw [<-hi1] at b3 ⊢
  obtain ⟨d,hd⟩:∃d,d=dn n l[i]:=⟨_,rfl⟩
  rw [<-hd] at m ⊢
  cases d with
  | false=>simp [je,yn,x1,m,frz,b1,b3,-aq,-au,-az]
  | true=>simp [je,yn,x1,m,frz,b1,-aq,-au,-az]
 rw [aT _ _ rfl]
 rcases cW (E:=ai GC CA) (fuel:=l.length+1) (a:=je) (mask:=iz) (fun i=>lz a (yn n) (.int .i64 (l.length:Int)) (.int .i64 (i:Int))) (fun _=>[]) l.length (fun i=>¬ ∀hi:i<l.length,dn n l[i]=false)
  (oF:=fun i=>.ret [a,yn n,.int .i64 (i:Int),.int .i64 (i:Int),.int .i64 (l.length:Int),.int .i64 (i:Int),.bool true,.bool true] []) (oE:=.exit 0 ((lz a (yn n) (.int .i64 (l.length:Int)) (.int .i64 (l.length:Int))).set 6 (.bool false)) [])
  (fun _=>CQ) (fun _ _ _ h=>by cases h) (fun _ _ h=>by cases h)
  (fun i hi hp=>by
   rw [round [] i hi]
   exact RL (Se.1 hp hi))
  (fun i hi hp=>by
   rw [round [] i hi]
   exact RN fun h=>hp fun _=>h)
  (by simp [je]) (Nat.lt_succ_self _) with ⟨i,hi,hp,hj,lp⟩ | ⟨hp,lp⟩
 ·have lp:cc (evC (ai GC CA) (l.length+1) je) iz (l.length+1) (lz a (yn n) (.int .i64 (l.length:Int)) (.int .i64 0)) []=_:=lp
  have e:cZ (dn n) l=(i:Int):=bJ hi (by
   cases h:dn n l[i] with
   | true=>rfl
   | false=>exact absurd (fun _=>h) hp) (fun j hj'=>Se.1 (hj j hj') (by omega))
  rw [e]
  simp [AM,hl,Cr lp,-aq,-az]
 ·have lp:cc (evC (ai GC CA) (l.length+1) je) iz (l.length+1) (lz a (yn n) (.int .i64 (l.length:Int)) (.int .i64 0)) []=_:=lp
  have e:cZ (dn n) l = -1:=bS fun i hi=>Se.1 (hp i hi) hi
  rw [e]
  simp [AM,hl,Cr lp,-aq,-az]
def M44:aI:=fun args=>match args with
 | [a,.func (.func 146) [] [.fp [.int .i64 n]]]=>if 1<=n/\n<=32 then (cw a).map fun l=>.int .i64 (cZ (dn n) l) else none
 | _=>none
theorem w9:an Tryz.prog GC 171 M44:=by
 refine an.of_ev (E:=ai GC CA) (ag Eo) rfl O3 yJ 1 ?_
 intro args r h
 unfold M44 at h
 split at h
 ·simp only [Rz,RK] at h
  obtain ⟨hn,l,hl,rfl⟩:=h
  exact ⟨_,ev44 hl hn⟩
 ·cases h
def M33:aI:=fun args=>match args with
 | [a,.func (.func 146) [] [.fp [.int .i64 n]]]=>if 1<=n/\n<=32 then (cw a).map fun l=>.bool (l.any (dn n)) else none
 | _=>none
def NI:List (FuncId × aD):=[(171,aG 4 M44)]
@[simp] theorem NH:aH NI 171=some (aG 4 M44):=rfl
theorem Ew:∀f M,aH NI f=some M->ak Tryz.prog GC f M:=ae (ak.of_pure w9 4) aw
theorem gW (z:Int):aq .geq (.int .i64 z) (.int .i64 0)=some (.bool (decide (0<=z))):=by simp [aq]
theorem xb:an Tryz.prog GC 147 M33:=by
 refine an.of_ev (E:=ai GC NI) (ag Ew) rfl O8 yO 1 ?_
 intro args r h
 unfold M33 at h
 split at h
 ·rename_i a n
  simp only [Rz,RK] at h
  obtain ⟨hn,l,hl,rfl⟩:=h
  refine ⟨0,?_⟩
  have m:M44 [a,.func (.func 146) [] [.fp [.int .i64 n]]]=some (.int .i64 (cZ (dn n) l)):=by
   simp only [M44,hl,SE]; exact RL hn
  have b:=gW (cZ (dn n) l)
  rw [cq] at b
  have f1:=eG hl
  have f2:=fm hl
  obtain ⟨z,hz⟩:∃z,z=cZ (dn n) l:=⟨_,rfl⟩
  rw [<-hz] at m b
  rw [aT _ _ rfl]
  simp [Hg,m,b,f1,f2,frz,-aq]
 ·cases h
def dR (n:Int) (l:List bc):Prop:=(1<=n/\n<=32)/\l.length<=200/\∀a∈l,okA n a
theorem zH (n:Int) (l:List bc):l.any (dn n)=false↔∀a∈l,okA n a:=by
 rw [Td]
 unfold dn
 simp
open Classical in
def M16:aI:=fun args=>match args with
 | [.int .i64 n,a]=>(cw a).map fun l=>.bool (decide (dR n l))
 | _=>none
def Ag:List (FuncId × aD):=[(60,aG 4 M32),(147,aG 4 M33)]
@[simp] theorem ON:aH Ag 60=some (aG 4 M32):=rfl
@[simp] theorem OM:aH Ag 147=some (aG 4 M33):=rfl
theorem s6:∀f M,aH Ag f=some M->ak Tryz.prog GC f M:=ae (ak.of_pure rh 4) (ae (ak.of_pure xb 4) aw)
open Classical in
theorem rj:an Tryz.prog GC 97 M16:=by
 refine an.of_ev (E:=ai GC Ag) (ag s6) rfl Pr yU 1 ?_
 intro args r h
 unfold M16 at h
 split at h
 ·rename_i n a
  simp only [RK] at h
  obtain ⟨l,hl,rfl⟩:=h
  refine ⟨0,?_⟩
  have m1:=kK n 1 32
  have hlen:=(lg hl).1
  have f1:=eG hl
  have f2:=fm hl
  have b1:aq .leq (.int .i64 (l.length:Int)) (.int .i64 200)=some (.bool (decide (l.length<=200))):=by simp [aq]; omega
  rw [aT _ _ rfl]
  by_cases h1:1<=n/\n<=32
  rotate_left
  ·rw [RH h1] at m1
   rw [RH (show ¬ dR n l from fun h=>h1 h.1)]
   simp [uM,m1,-aq,-az]
  rw [RJ h1] at m1
  by_cases h2:l.length<=200
  rotate_left
  ·rw [RH h2] at b1
   rw [RH (show ¬ dR n l from fun h=>h2 h.2.1)]
   simp [uM,m1,hlen,b1,-aq,-az]
  rw [RJ h2] at b1
  have m2:M33 [a,.func (.func 146) [] [.fp [.int .i64 n]]]=some (.bool (l.any (dn n))):=by
   simp only [M33,hl,SE]; exact RL h1
  have e:decide (dR n l)=!(l.any (dn n)):=by
   rw [Tf,Sq,Sy,zH]
   exact ⟨fun h=>h.2.2,fun h=>⟨h1,h2,h⟩⟩
  rw [e]
  obtain ⟨d,hd⟩:∃d,d=l.any (dn n):=⟨_,rfl⟩
  rw [<-hd] at m2 ⊢
  simp [uM,m1,m2,hlen,b1,f1,f2,frz,-aq,-az]
 ·cases h
def cC (n:Int) (l:List bc) (p:Int):Prop:=dR n l/\cy p
def bc.len (a:bc) (p:Int):Int:=a.w-p*a.k
theorem gV {n:Int} {a:bc} (h:okA n a) (hp:cy p) : -3000000<=a.len p/\a.len p<=3000000 /\ -2000000<=p*a.k/\p*a.k<=2000000:=by
 obtain ⟨_,_,h3,h4⟩:=h
 unfold cy at hp
 unfold bc.len
 have h5:a.k = -2\/a.k = -1\/a.k=0\/a.k=1\/a.k=2:=by omega
 rcases h5 with h | h | h | h | h <;> rw [h] <;> omega
theorem Q0 (E:Env) (a n:Int) (ha:inI a) (hn:0<n):evP E 0 IS 1 [.int .i64 a,.int .i64 n]=some (.int .i64 (pick a n)):=by
 have h3:n≠0:=by omega
 rw [aT _ _ rfl]
 by_cases h:a<0
 ·have h1:IntKind.i64.wrap (a+1)=a+1:=eg (by unfold inI at *; omega)
  have h2:IntKind.i64.wrap (-(a+1)) = -(a+1):=eg (by unfold inI at *; omega)
  simp [IS,h,h1,h2,h3,pick]
 ·simp [IS,h,h3,pick]
def M12:aI:=fun args=>match args with
 | [.int .i64 a,.int .i64 n]=>if (-9223372036854775808<=a/\a<=9223372036854775807)/\0<n then some (.int .i64 (pick a n)) else none
 | _=>none
theorem dT {a n:Int} (ha:inI a) (hn:0<n):M12 [.int .i64 a,.int .i64 n]=some (.int .i64 (pick a n)):=RL ⟨ha,hn⟩
theorem H8:an Tryz.prog GC 21 M12:=by
 refine an.of_ev (E:=ai GC []) (ag aw) rfl at12 KB 1 ?_
 intro args r h
 unfold M12 at h
 split at h
 ·simp only [Rz,Ry] at h
  obtain ⟨⟨h1,h2⟩,rfl⟩:=h
  exact ⟨0,Q0 _ _ _ h1 h2⟩
 ·cases h
abbrev eQ:=bc × Nat
def num (l:List bc):List eQ:=l.zipIdx
def wA (p:Int) (x:eQ):AV:=.agg [.int .i64 x.1.f,.int .i64 x.1.t,.int .i64 x.1.w,.int .i64 x.1.k,.int .i64 (x.2:Int),.int .i64 (x.1.len p)]
def mn (l:List bc) (v:Nat):List eQ:=(num l).filter fun x=>decide (x.1.f=(v:Int))
def wAs (p:Int) (l:List eQ):List AV:=l.map (wA p)
theorem uK (l:List bc) (i:Nat) (hi:i<l.length):num (l.take (i+1))=num (l.take i)++[(l[i],i)]:=by
 unfold num
 rw [SQ hi,List.zipIdx_append]
 simp
 omega
theorem js (l:List bc):(num l).length=l.length:=by simp [num]
theorem fA (l:List bc) (i:Nat) (hi:i<l.length):(num l)[i]?=some (l[i],i):=by
 simp [num,hi]
theorem kQ {l:List bc} {x:eQ} (h:x∈num l):∃hi:x.2<l.length,l[x.2]=x.1:=by
 obtain ⟨i,hi,rfl⟩:=Sz.1 h
 rw [js] at hi
 have:=fA l i hi
 have h2:(num l)[i]'(by rw [js]; exact hi)=(l[i],i):=by
  rw [RD (by rw [js]; exact hi)] at this
  exact S4 this
 rw [h2]
 exact ⟨hi,rfl⟩
theorem xE (l:List bc) (i v:Nat) (hi:i<l.length):mn (l.take (i+1)) v=if l[i].f=(v:Int) then mn (l.take i) v++[(l[i],i)] else mn (l.take i) v:=by
 unfold mn
 rw [uK l i hi,List.filter_append]
 by_cases h:l[i].f=(v:Int) <;> simp [h]
theorem uH (l:List bc) (v:Nat):(mn l v).length<=l.length:=by
 unfold mn
 have:=List.length_filter_le (fun x:eQ=>decide (x.1.f=(v:Int))) (num l)
 rw [js] at this
 exact this
def qV (A:ac) (s:AV) (xs:List AV):Prop:=(s=.nilS/\xs=[])\/∃id gr,s=.sl id 0 xs.length/\xs≠[]/\2<=id/\A[id]?=some (.row 6 gr xs)
theorem qV.keep {xs:List AV} (h:qV A s xs) (hAB:∀id,id∈a7 s->B[id]?=A[id]?):qV B s xs:=by
 rcases h with h | ⟨id,gr,rfl,h1,h2,h3⟩
 ·exact .inl h
 ·exact .inr ⟨id,gr,rfl,h1,h2,by rw [hAB id (by simp [a7]),h3]⟩
theorem qV.low {xs:List AV} (h:qV A s xs):∀id,id∈a7 s->2<=id/\id<A.length:=by
 rcases h with ⟨rfl,_⟩ | ⟨id,gr,rfl,h1,h2,h3⟩
 ·intro id h; simp [a7] at h
 ·intro j hj
  simp only [a7,SC] at hj
  subst hj
  exact ⟨h2,(Rx.1 h3).1⟩
theorem qV.append {xs:List AV} (h:qV A s xs) (x:AV) (hA:2<=A.length) (hl:xs.length<=1000) :
  ∃s' k A',aK 6 48 A s (.fs 6 [x])=some (.sl s' 0 k,A')/\qV A' (.sl s' 0 k) (xs++[x])/\A.length<=A'.length/\(∀j,j<A.length->j ∉ a7 s->A'[j]?=A[j]?)/\(s'∈a7 s\/s'=A.length):=by
 rcases h with ⟨rfl,rfl⟩ | ⟨id,gr,rfl,h1,h2,h3⟩
 ·refine ⟨A.length,1,A++[.row 6 false [x]],by simp [aK,aS],.inr ⟨A.length,false,rfl,by simp,hA,by simp⟩,by simp,fun j hj _=>by rw [RE hj],.inr rfl⟩
 ·have hid:=(Rx.1 h3).1
  refine ⟨id,(xs++[x]).length,A.set id (.row 6 true (xs++[x])),?_,.inr ⟨id,true,rfl,by simp,h2,by simp [hid]⟩,by simp,fun j hj hn=>?_,.inl (by simp [a7])⟩
  ·simp only [aK,aS,h3]
   simp [h1]
   omega
  ·rw [RF (fun e=>hn (by simp [a7,e]))]
theorem CB (A:ac) (p:Int) (x:eQ) (n:Nat):frz A (n+1) (wA p x)=wA p x:=by
 cases n <;> simp [frz,wA]
theorem qV.frz {l:List eQ} (h:qV A s (wAs p l)) (n:Nat):frz A (n+2) s=slA 6 (wAs p l):=by
 have e:(wAs p l).map (Proofs.YtfkcoekicjjndaaGreat.frz A (n+1))=wAs p l:=by
  unfold wAs
  rw [Te]
  apply Sc
  intro x _
  exact CB A p x n
 rcases h with ⟨rfl,h⟩ | ⟨id,gr,rfl,h1,h2,h3⟩
 ·rw [h]; rfl
 ·show Proofs.YtfkcoekicjjndaaGreat.frz A (n+1+1) _=_
  simp only [Proofs.YtfkcoekicjjndaaGreat.frz,h3]
  rw [R2,RW (RT _),e]
  cases hw:wAs p l with
  | nil=>exact absurd hw h1
  | cons y r=>rfl
theorem Ba (A:ac) (p:Int) (x:eQ) (n:Nat):a5 A (n+1) (wA p x)=true:=by
 cases n <;> simp [a5,wA]
theorem qV.fresh {l:List eQ} (h:qV A s (wAs p l)) (n:Nat):a5 A (n+2) s=true:=by
 rcases h with ⟨rfl,h⟩ | ⟨id,gr,rfl,h1,h2,h3⟩
 ·rfl
 ·show a5 A (n+1+1) _=_
  simp only [a5,h3]
  rw [R2,RW (RT _),RZ]
  intro y hy
  obtain ⟨x,_,rfl⟩:=R1.1 hy
  exact Ba A p x n
def Qi:MC:=.region [.a 12,.H 4 10 12,.F 4 1,.bh 7 4,.c 6 0,.j 4 7 2]
def Qh:MC:=.region [.k 4 7,.a 6,.d 2 7,.b 1 2,.a 2,.d 3 7,.b 1 5,.da 4 6,.cu 3 7,.a7 0 1 8,.u 8 6,.j 6 8 9]
def Qg:MC:=.region [.a 5,.a 5,.J 1,.l 1 2,.b 1 3,.k 6 8,.c8 5,.cm 6 4 6,.J 0,.l 1 8,.I 1 9 7]
def Mm:MC:=.regionD [] [.a 5,.J 0,.l 2 1,.b 1 2,.d 0 7,.b 1 4,.a 5,.J 6,.l 2 7,.b 1 8,.d 0 7,.b 1 10,.g 1 9 11,.b 1 12,.k 6 8,.c8 14,.cm 6 13 15,.g 1 3 5,.I 1 17 16] [(2,16),(3,16),(4,16),(5,16)]
theorem K5:lO=.seq (.region [.w 13 12 11]) (.seq (.cond (.var 13) .skip (.exit 0)) (.seq (.seq (.block 1 (.seq Qi (.seq Qh (.seq Qg Mm)))) (.kill [0,1,3,4,6,7,8,9,13])) (.region [.m 12 1,.c 12 0]))):=rfl
theorem MM (E:Env) (fuel:Nat) (K:List KC) (A:ac) {l:List bc} (ha:cw a=some l) (hp:cy p) (hi:i<l.length) (hv:okA 32 l[i]) (w v13:AV) (X:MC) :
  run E fuel (.code Qi :: .code (.seq Qh X) :: K) [.undef,.undef,.int .i64 p,.undef,.undef,w,.undef,.undef,.undef,.undef,a,.int .i64 (l.length:Int),.int .i64 (i:Int),v13] A =
   run E fuel (.code X :: K) [.undef,.undef,.int .i64 p,.undef,.undef,w,.int .i64 (i:Int),.ptr A.length 0 0,.ptr (A.length+1) 0 0,.undef,a,.int .i64 (l.length:Int),.int .i64 (i:Int),v13] (A++[.row 4 false [cJ l[i]],.row 6 false [wA p (l[i],i)]]):=by
 have x1:=sB ha hi A .i64
 obtain ⟨k1,k2,k3,k4⟩:=gV hv hp
 obtain ⟨_,_,h3,h4⟩:=hv
 have b1:aq .mul (.int .i64 p) (.int .i64 l[i].k)=some (.int .i64 (p*l[i].k)):=by
  simp only [aq]; rw [RL trivial,eg (by unfold inI; omega)]
 have b2:aq .sub (.int .i64 l[i].w) (.int .i64 (p*l[i].k))=some (.int .i64 (l[i].len p)):=by
  simp only [aq]; rw [RL trivial,eg (by unfold bc.len at k1 k2; unfold inI; omega)]; rfl
 unfold cJ wA
 simp only []
 obtain ⟨pk,hpk⟩:∃pk,pk=p*l[i].k:=⟨_,rfl⟩
 rw [<-hpk] at b1 b2
 simp [Qi,Qh,x1,b1,b2,-aq,-au]
theorem r25c (E:Env) (fuel:Nat) (K:List KC) {B2:ac} {v2 v11 n va os:AV} {i8:Nat}
  (h1:B[1]?=some (.row 3 false [.agg [n,va,os]])) (h8:B[i8]?=some (.row 6 false [.agg [.int .i64 c1,.int .i64 c2,.int .i64 c3,.int .i64 c4,.int .i64 c5,.int .i64 c6]])) (ap:aK 6 48 B va (.fs 6 [.agg [.int .i64 c1,.int .i64 c2,.int .i64 c3,.int .i64 c4,.int .i64 c5,.int .i64 c6]])=some (.sl j 0 k,B2)) (h1':B2[1]?=some (.row 3 false [.agg [n,va,os]])) :
  run E fuel (.code Qg :: K) [.undef,.undef,v2,.undef,.undef,.ptr 1 0 0,v6,v7,.ptr i8 0 0,.undef,v10,v11,v12,v13] B =
   run E fuel K [.undef,.undef,v2,.undef,.undef,.ptr 1 0 0,v6,v7,.ptr i8 0 0,.undef,v10,v11,v12,v13] (B2.set 1 (.row 3 false [.agg [n,.sl j 0 k,os]])):=by
 simp [Qg,h1,h8,ap,h1']
theorem r25d (E:Env) (fuel:Nat) (K:List KC) {B2:ac} {v2 v11 n va o:AV} {i7 i8 f m:Nat} {os:List AV} {a:bc}
  (h1:B[1]?=some (.row 3 false [.agg [n,va,.sl 0 0 m]])) (h7:B[i7]?=some (.row 4 false [cJ a])) (h8:B[i8]?=some (.row 6 false [.agg [.int .i64 c1,.int .i64 c2,.int .i64 c3,.int .i64 c4,.int .i64 c5,.int .i64 c6]])) (haf:a.f=(f:Int)) (hfm:f<m)
  (h0:B[0]?=some (.row 1 false os)) (ho:os[f]?=some o) (hs:o=.nilS\/∃i k,o=.sl i 0 k)
  (ap:aK 6 48 B o (.fs 6 [.agg [.int .i64 c1,.int .i64 c2,.int .i64 c3,.int .i64 c4,.int .i64 c5,.int .i64 c6]])=some (.sl j 0 k,B2)) (h0':B2[0]?=some (.row 1 false os)) (hid:∀j∈a7 o,j≠1/\j≠i7) (hB1:B.length≠1) (hB7:B.length≠i7) :
  run E fuel (.code Mm :: K) [.undef,.undef,v2,.undef,.undef,.ptr 1 0 0,v6,.ptr i7 0 0,.ptr i8 0 0,.undef,v10,v11,v12,v13] B =
   run E fuel K [.undef,.undef,v2,.undef,.undef,.ptr 1 0 0,v6,.ptr i7 0 0,.ptr i8 0 0,.undef,v10,v11,v12,v13] (B2.set 0 (.row 1 false (os.set f (.sl j 0 k)))):=by
 have hB1':¬ 1=B.length:=fun e=>hB1 e.symm
 have hB7':¬ i7=B.length:=fun e=>hB7 e.symm
 simp only [cJ,haf] at h7
 rcases hs with rfl | ⟨i,q,rfl⟩
 ·simp [Mm,h1,h7,h8,h0,ho,ap,h0',hB1',hB7',hfm]
 ·obtain ⟨hi1,hi7⟩:=hid i (by simp [a7])
  have hi1':¬ 1=i:=fun e=>hi1 e.symm
  have hi7':¬ i7=i:=fun e=>hi7 e.symm
  simp [Mm,h1,h7,h8,h0,ho,ap,h0',hB1',hB7',hfm,hi1',hi7']
def zM (n:Nat) (p:Int) (l:List bc) (i:Nat) (A:ac):Prop:=∃(va:AV) (os:List AV),A[0]?=some (.row 1 false os)/\A[1]?=some (.row 3 false [.agg [.int .i64 (n:Int),va,.sl 0 0 n]])/\os.length=n/\qV A va (wAs p (num (l.take i))) /\
 (∀(v:Nat) (o:AV),os[v]?=some o->qV A o (wAs p (mn (l.take i) v)))/\(∀(v:Nat) (o:AV) (j:Nat),os[v]?=some o->j∈a7 o->j ∉ a7 va)/\(∀(u v:Nat) (o q:AV) (j:Nat),u≠v->os[u]?=some o->os[v]?=some q->j∈a7 o->j ∉ a7 q)
theorem nQ {z:Int} {n:Int} (h:0<=z/\z<=n-1):∃m:Nat,z=(m:Int)/\(m:Int)<n:=⟨z.toNat,by omega,by omega⟩
theorem qV.form2 {xs:List AV} (h:qV A s xs):s=.nilS\/∃i k,s=.sl i 0 k:=by
 rcases h with ⟨rfl,_⟩ | ⟨id,gr,rfl,_⟩
 ·exact .inl rfl
 ·exact .inr ⟨_,_,rfl⟩
theorem EO (E:Env) (fuel:Nat) (A:ac) {a:AV} {l:List bc} (ha:cw a=some l) (hp:cy p) {n:Nat} (hn:n<=32) (hl200:l.length<=200) (hv:∀x∈l,okA n x) (hi:i<l.length) (hI:zM n p l i A) :
  ∃A',run E fuel [.code lO] (lC (.int .i64 p) (.ptr 1 0 0) a (.int .i64 (l.length:Int)) (.int .i64 (i:Int))) A=some (.normal (lC (.int .i64 p) (.ptr 1 0 0) a (.int .i64 (l.length:Int)) (.int .i64 ((i+1:Nat):Int))) A')/\zM n p l (i+1) A':=by
 obtain ⟨va,os,g0,g1,hos,gs,go,gd1,gd2⟩:=hI
 have hmem:=hv _ (RM hi)
 obtain ⟨f,hf,hfn⟩:=nQ hmem.1
 have hv32:okA 32 l[i]:=by
  obtain ⟨h1,h2,h3,h4⟩:=hmem
  exact ⟨by omega,by omega,h3,h4⟩
 have hA2:2<=A.length:=(Rx.1 g1).1
 obtain ⟨B,hB⟩:∃B,B=A++[.row 4 false [cJ l[i]],.row 6 false [wA p (l[i],i)]]:=⟨_,rfl⟩
 have hAB:∀id,id<A.length->B[id]?=A[id]?:=fun id hid=>by rw [hB,RE hid]
 have h7:B[A.length]?=some (.row 4 false [cJ l[i]]):=by rw [hB]; simp
 have h8:B[A.length+1]?=some (.row 6 false [wA p (l[i],i)]):=by rw [hB,RS (by omega)]; simp
 have hBl:B.length=A.length+2:=by rw [hB]; simp
 have k0:=(hAB 0 (by omega)).trans g0
 have k1:=(hAB 1 (by omega)).trans g1
 have gsB:qV B va (wAs p (num (l.take i))):=gs.keep fun id h=>hAB id (gs.low id h).2
 have hnl:(wAs p (num (l.take i))).length<=1000:=by simp [wAs,js]; omega
 obtain ⟨ja,ka,B2,ap1,s1,len1,keep1,ids1⟩:=gsB.append (wA p (l[i],i)) (by omega) hnl
 have hva:=gs.low
 have q1:=(keep1 1 (by omega) fun h=>by have:=(hva 1 h).1; omega).trans k1
 obtain ⟨B3,hB3⟩:∃B3,B3=B2.set 1 (.row 3 false [.agg [.int .i64 (n:Int),(.sl ja 0 ka),.sl 0 0 n]]):=⟨_,rfl⟩
 have hB3l:B3.length=B2.length:=by rw [hB3]; simp
 have c1:B3[1]?=some (.row 3 false [.agg [.int .i64 (n:Int),(.sl ja 0 ka),.sl 0 0 n]]):=by rw [hB3]; exact RO (by omega)
 have hB23:∀id,id≠1->B3[id]?=B2[id]?:=fun id h=>by rw [hB3,RF (SO h)]
 have c0:=((hB23 0 (by omega)).trans (keep1 0 (by omega) fun h=>by have:=(hva 0 h).1; omega)).trans k0
 have c7:=((hB23 A.length (by omega)).trans (keep1 A.length (by omega) fun h=>by have:=(hva _ h).2; omega)).trans h7
 have c8:=((hB23 (A.length+1) (by omega)).trans (keep1 (A.length+1) (by omega) fun h=>by have:=(hva _ h).2; omega)).trans h8
 have s1':qV B3 (.sl ja 0 ka) (wAs p (num (l.take i))++[wA p (l[i],i)]):=s1.keep fun id h=>hB23 id (by have:=(s1.low id h).1; omega)
 obtain ⟨o,ho⟩:∃o,os[f]?=some o:=⟨os[f]'(by omega),RD _⟩
 have keepO:∀v q,os[v]?=some q->qV B3 q (wAs p (mn (l.take i) v)):=fun v q hq=>(go v q hq).keep fun id h=>by
  have:=(go v q hq).low id h
  rw [hB23 id (by omega),keep1 id (by omega) (gd1 v q id hq h),hAB id this.2]
 have so:=keepO f o ho
 have hol:(wAs p (mn (l.take i) f)).length<=1000:=by
  have:=uH (l.take i) f
  simp only [wAs,RR]
  simp at this; omega
 obtain ⟨jo,ko,B4,ap2,s2,len2,keep2,ids2⟩:=so.append (wA p (l[i],i)) (by omega) hol
 have hoi:=(go f o ho).low
 have d0:=(keep2 0 (by omega) fun h=>by have:=(hoi 0 h).1; omega).trans c0
 obtain ⟨B5,hB5⟩:∃B5,B5=B4.set 0 (.row 1 false (os.set f (.sl jo 0 ko))):=⟨_,rfl⟩
 have hB45:∀id,id≠0->B5[id]?=B4[id]?:=fun id h=>by rw [hB5,RF (SO h)]
 have ids1':∀x,x∈a7 (.sl ja 0 ka)->x∈a7 va\/x=B.length:=fun x hx=>by
  simp only [a7,SC] at hx
  rw [hx]; exact ids1
 have ids2':∀x,x∈a7 (.sl jo 0 ko)->x∈a7 o\/x=B3.length:=fun x hx=>by
  simp only [a7,SC] at hx
  rw [hx]; exact ids2
 refine ⟨B5,?_,.sl ja 0 ka,os.set f (.sl jo 0 ko),?_,?_,?_,?_,?_,?_,?_⟩
 ·have r1:=fun K X=>MM E fuel K A ha hp hi hv32 (.ptr 1 0 0) (.bool true) X
  rw [<-hB] at r1
  have r2:=fun K=>r25c E fuel K (B:=B) (B2:=B2) (v2:=.int .i64 p) (v6:=.int .i64 (i:Int)) (v7:=.ptr A.length 0 0) (v10:=a) (v11:=.int .i64 (l.length:Int)) (v12:=.int .i64 (i:Int)) (v13:=.bool true) (n:=.int .i64 (n:Int)) (va:=va) (j:=ja) (k:=ka) (os:=.sl 0 0 n) (i8:=A.length+1) k1 h8 ap1 q1
  rw [<-hB3] at r2
  have r3:=fun K=>r25d E fuel K (B:=B3) (B2:=B4) (v2:=.int .i64 p) (v6:=.int .i64 (i:Int)) (i7:=A.length) (v10:=a) (v11:=.int .i64 (l.length:Int)) (v12:=.int .i64 (i:Int)) (v13:=.bool true) (n:=.int .i64 (n:Int)) (va:=.sl ja 0 ka) (o:=o) (j:=jo) (k:=ko) (os:=os) (m:=n) (f:=f) (a:=l[i]) (i8:=A.length+1) c1 c7 c8 hf (by omega) c0 ho so.form2 ap2 d0 (fun j hj=>⟨by have:=(hoi j hj).1; omega,by have:=(hoi j hj).2; omega⟩) (by omega) (by omega)
  rw [<-hB5] at r3
  have b1:=bC i l.length .i64
  rw [RJ hi] at b1
  have b3:=bh i (by omega)
  obtain ⟨i1,hi1⟩:∃i1:Nat,i1=i+1:=⟨_,rfl⟩
  rw [<-hi1] at b3 ⊢
  rw [K5]
  simp [b1,b3,r1,r2,r3,-aq]
 ·rw [hB5]; exact RO (by omega)
 ·rw [hB45 1 (by omega),keep2 1 (by omega) fun h=>by have:=(hoi 1 h).1; omega]
  exact c1
 ·simp [hos]
 ·rw [uK l i hi,show wAs p (num (l.take i)++[(l[i],i)])=wAs p (num (l.take i))++[wA p (l[i],i)] by simp [wAs]]
  refine s1'.keep fun id h=>?_
  have h1:=s1'.low id h
  rw [hB45 id (by omega),keep2 id h1.2 fun h2=>?_]
  rcases ids1' id h with h3 | h3
  ·exact gd1 f o id ho h2 h3
  ·have:=(hoi id h2).2; omega
 ·intro v q hq
  rw [xE l i v hi]
  by_cases hvf:v=f
  ·subst hvf
   rw [RO (by omega)] at hq
   injection hq with hq; subst hq
   rw [RL hf,show wAs p (mn (l.take i) v++[(l[i],i)])=wAs p (mn (l.take i) v)++[wA p (l[i],i)] by simp [wAs]]
   exact s2.keep fun id h=>hB45 id (by have:=(s2.low id h).1; omega)
  ·rw [RF (SO hvf)] at hq
   rw [RN (by rw [hf]; omega)]
   refine (keepO v q hq).keep fun id h=>?_
   have h1:=(keepO v q hq).low id h
   rw [hB45 id (by omega),keep2 id h1.2 (gd2 v f q o id hvf hq ho h)]
 ·intro v q j hq hj hj2
  have hnew:j∈a7 va\/j=B.length:=ids1' j hj2
  by_cases hvf:v=f
  ·subst hvf
   rw [RO (by omega)] at hq
   injection hq with hq; subst hq
   have h5:=(s1.low j hj2).2
   rcases ids2' j hj with h3 | h3
   ·have:=(hoi j h3).2
    rcases hnew with h4 | h4
    ·exact gd1 v o j ho h3 h4
    ·omega
   ·omega
  ·rw [RF (SO hvf)] at hq
   have:=((go v q hq).low j hj).2
   rcases hnew with h4 | h4
   ·exact gd1 v q j hq hj h4
   ·omega
 ·intro u v q r j huv hq hr hj hj2
  by_cases huf:u=f
  ·subst huf
   rw [RO (by omega)] at hq
   injection hq with hq; subst hq
   rw [RF huv] at hr
   have:=((go v r hr).low j hj2).2
   rcases ids2' j hj with h3 | h3
   ·exact gd2 u v o r j huv ho hr h3 hj2
   ·omega
  ·rw [RF (SO huf)] at hq
   have:=((go u q hq).low j hj).2
   by_cases hvf:v=f
   ·subst hvf
    rw [RO (by omega)] at hr
    injection hr with hr; subst hr
    rcases ids2' j hj2 with h3 | h3
    ·exact gd2 u v q o j huv hq ho hj h3
    ·omega
   ·rw [RF (SO hvf)] at hr
    exact gd2 u v q r j huv hq hr hj hj2
theorem aP (A:ac) (n:Nat) (k:IntKind) (z:Int):frz A n (.int k z)=.int k z:=by cases n <;> rfl
def cU (n:Nat) (p:Int) (l:List bc):AV:=.fp [.int .i64 (n:Int),slA 6 (wAs p (num l)),.fs 1 ((List.range n).map fun v=>slA 6 (wAs p (mn l v)))]
theorem zM.frz {l:List bc} (h:zM n p l l.length A) (k:Nat):Proofs.YtfkcoekicjjndaaGreat.frz A (k+4) (.ptr 1 0 0)=cU n p l:=by
 obtain ⟨va,os,g0,g1,hos,gs,go,_,_⟩:=h
 rw [Sj] at gs go
 show Proofs.YtfkcoekicjjndaaGreat.frz A (k+3+1) _=_
 simp only [Proofs.YtfkcoekicjjndaaGreat.frz,g1,Sw]
 rw [RL ⟨rfl,by simp [cellsOf]⟩]
 have e2:Proofs.YtfkcoekicjjndaaGreat.frz A (k+3) (.sl 0 0 n)=.fs 1 ((List.range n).map fun v=>slA 6 (wAs p (mn l v))):=by
  show Proofs.YtfkcoekicjjndaaGreat.frz A (k+2+1) _=_
  simp only [Proofs.YtfkcoekicjjndaaGreat.frz,g0]
  rw [R2,RW (by omega)]
  congr 1
  apply TO (by simp [hos])
  intro v h1 h2
  simp only [Sv,List.getElem_range]
  exact (go v _ (RD (by simpa using h1))).frz k
 simp only [cellsOf,R2,SH,List.map_nil,e2]
 rw [show Proofs.YtfkcoekicjjndaaGreat.frz A (k+3) va=slA 6 (wAs p (num l)) from gs.frz (k+1)]
 simp [cU,Proofs.YtfkcoekicjjndaaGreat.frz]
theorem zM.fresh {l:List bc} (h:zM n p l l.length A) (k:Nat):a5 A (k+4) (.ptr 1 0 0)=true:=by
 obtain ⟨va,os,g0,g1,hos,gs,go,_,_⟩:=h
 rw [Sj] at gs go
 have e2:a5 A (k+3) (.sl 0 0 n)=true:=by
  show a5 A (k+2+1) _=_
  simp only [a5,g0]
  rw [R2,RW (by omega),RZ]
  intro x hx
  obtain ⟨v,hv,rfl⟩:=Sz.1 hx
  exact (go v _ (RD hv)).fresh k
 have e1:a5 A (k+3) va=true:=gs.fresh (k+1)
 show a5 A (k+3+1) _=_
 simp only [a5,g1,Sw,cellsOf,AV.solid,List.all_cons,List.all_nil,Bool.and_true,Bool.true_and,Su,Tm]
 simp only [a5] at e1 e2
 rw [e1,e2]; rfl
theorem Jb (E:Env) (fuel:Nat) (A:ac) {a:AV} {l:List bc} (ha:cw a=some l) (hp:cy p) (hn:n<=32) (hl200:l.length<=200) (hv:∀x∈l,okA n x) (hI:zM n p l 0 A) :
  ∃A',zM n p l l.length A'/\cc (evC E fuel lO) kf (l.length+1) (lC (.int .i64 p) (.ptr 1 0 0) a (.int .i64 (l.length:Int)) (.int .i64 0)) A=some (.exit 0 ((lC (.int .i64 p) (.ptr 1 0 0) a (.int .i64 (l.length:Int)) (.int .i64 (l.length:Int))).set 13 (.bool false)) A'):=by
 obtain ⟨o,h1,A',h2,h3⟩:=gk (E:=E) (fuel:=fuel) (a:=lO) (mask:=kf) (fun k σ A=>∃i,i+k=l.length/\σ=lC (.int .i64 p) (.ptr 1 0 0) a (.int .i64 (l.length:Int)) (.int .i64 (i:Int))/\zM n p l i A)
  (fun o=>∃A',zM n p l l.length A'/\o=.exit 0 ((lC (.int .i64 p) (.ptr 1 0 0) a (.int .i64 (l.length:Int)) (.int .i64 (l.length:Int))).set 13 (.bool false)) A')
  (by
   rintro k σ A ⟨i,hik,rfl,hI⟩
   rw [CT]
   by_cases hi:i<l.length
   ·obtain ⟨A',h1,h2⟩:=EO E fuel A ha hp hn hl200 hv hi hI
    exact .inl ⟨_,_,h1,k-1,by omega,i+1,by omega,rfl,h2⟩
   ·obtain rfl:i=l.length:=by omega
    refine .inr ⟨_,?_,?_,A,hI,rfl⟩
    ·simp [lO]
    ·intro _ _ h; cases h)
  (l.length+1) l.length _ A (by omega) ⟨0,by omega,rfl,hI⟩
 exact ⟨A',h2,by rw [<-h3]; exact h1⟩
open Classical in
def M25:aI:=fun args=>match args with
 | [.int .i64 n,a,.int .i64 p]=>(cw a).map fun l=>if cC n l p then .tup [cU n.toNat p l,.bool true] else .tup [.nilP,.bool false]
 | _=>none
def yg:List (FuncId × aD):=[(97,aG 4 M16),(90,aG 4 M41)]
@[simp] theorem N8:aH yg 97=some (aG 4 M16):=rfl
@[simp] theorem N5:aH yg 90=some (aG 4 M41):=rfl
theorem Ex:∀f M,aH yg f=some M->ak Tryz.prog GC f M:=ae (ak.of_pure rj 4) (ae (ak.of_pure nB 4) aw)
open Classical in
theorem kM:bs Tryz.prog GC 51 M25:=by
 refine bs.of_ev (E:=ai GC yg) (ag Ex) rfl Pc yS 5 ?_
 intro args r h
 unfold M25 at h
 split at h
 ·rename_i n a p
  simp only [RK] at h
  obtain ⟨l,hl,rfl⟩:=h
  refine ⟨l.length+1,?_⟩
  have m1:M16 [.int .i64 n,a]=some (.bool (decide (dR n l))):=by simp only [M16,hl,SE]
  have m2:M41 [.int .i64 p]=some (.bool (decide (cy p))):=rfl
  have f1:=eG hl
  have f2:=fm hl
  have hlen:=(lg hl).1
  rw [eO _ _ rfl]
  by_cases h1:dR n l
  rotate_left
  ·rw [RN (fun h=>h1 h.1)]
   rw [RH h1] at m1
   simp [Ab,m1,f1,f2,frz,a5,dw]
  rw [RJ h1] at m1
  by_cases h2:cy p
  rotate_left
  ·rw [RN (fun h=>h2 h.2)]
   rw [RH h2] at m2
   simp [Ab,m1,m2,f1,f2,frz,a5,dw]
  rw [RJ h2] at m2
  rw [RL ⟨h1,h2⟩]
  obtain ⟨m,rfl⟩:∃m:Nat,n=(m:Int):=⟨n.toNat,by have:=h1.1; omega⟩
  have hm:1<=m/\m<=32:=by have:=h1.1; omega
  have hI:zM m p l 0 [.row 1 false (List.replicate m .nilS),.row 3 false [.agg [.int .i64 (m:Int),.nilS,.sl 0 0 m]]]:=by
   refine ⟨.nilS,List.replicate m .nilS,rfl,rfl,by simp,.inl ⟨rfl,rfl⟩,fun v o ho=>?_,fun v o j ho hj=>?_,fun u v o q j _ ho _ hj=>?_⟩
   ·rw [S6] at ho
    split at ho
    ·injection ho with ho; subst ho
     exact .inl ⟨rfl,rfl⟩
    ·cases ho
   ·simp [a7]
   ·rw [S6] at ho
    split at ho
    ·injection ho with ho; subst ho
     simp [a7] at hj
    ·cases ho
  obtain ⟨A',hW,lp⟩:=Jb (ai GC yg) (l.length+1) _ hl h2 hm.2 h1.2.1 h1.2.2 hI
  have z1:frz A' 5 (.tup [.ptr 1 0 0,.bool true])=.tup [cU m p l,.bool true]:=by
   have:=hW.frz 0
   show AV.tup [frz A' 4 (.ptr 1 0 0),frz A' 4 (.bool true)]=_
   rw [this]; rfl
  have z2:a5 A' 5 (.tup [.ptr 1 0 0,.bool true])=true:=by
   have:=hW.fresh 0
   show [AV.ptr 1 0 0,.bool true].all (a5 A' 4)=true
   simp only [List.all_cons,this]; rfl
  have p1:dw [.ptr 1 0 0,.bool true]=.tup [.ptr 1 0 0,.bool true]:=rfl
  have e1:(m:Int).toNat=m:=by omega
  have hm0:¬ m=0:=by omega
  have mk:cr 1 24 .nilS [] (.int .i64 (m:Int)) (.int .i64 (m:Int))=some (.sl 0 0 m,[.row 1 false (List.replicate m .nilS)]):=by
   simp [cr]; omega
  rw [e1]
  simp [Ab,m1,m2,f1,f2,hlen,Jt lp,mk,aP,z1,z2,-az,-cr,-frz]
 ·cases h
abbrev df:=Nat × Nat × Int
def isW (L:List df):Nat->List df->Nat->Prop
 | u,[],v=>u=v
 | u,a :: r,v=>a∈L/\a.1=u/\isW L a.2.1 r v
def jx:List df->Int
 | []=>0
 | a :: r=>a.2.2+jx r
def Ho:Nat->List df->Nat
 | u,[]=>u
 | _,a :: r=>Ho a.2.1 r
section
variable {L:List df}
theorem gj:∀(r s:List df),jx (r++s)=jx r+jx s
 | [],s=>by simp [jx]
 | a :: r,s=>by
  simp only [List.cons_append,jx,gj r s]
  omega
theorem jz:∀ {r s:List df} {u v:Nat},isW L u (r++s) v↔∃m,isW L u r m/\isW L m s v
 | [],s,u,v=>⟨fun h=>⟨u,rfl,h⟩,by rintro ⟨m,rfl,h⟩; exact h⟩
 | a :: r,s,u,v=>by
  simp only [List.cons_append,isW,jz (r:=r) (s:=s)]
  constructor
  ·rintro ⟨h1,h2,m,h3,h4⟩; exact ⟨m,⟨h1,h2,h3⟩,h4⟩
  ·rintro ⟨m,⟨h1,h2,h3⟩,h4⟩; exact ⟨h1,h2,m,h3,h4⟩
theorem nX:∀ {r:List df} {u v:Nat},isW L u r v->Ho u r=v
 | [],_,_,h=>h
 | a :: r,_,_,⟨_,_,h⟩=>nX (r:=r) (u:=a.2.1) h
theorem yB (hL:∀a∈L,a.1<n/\a.2.1<n):∀ {r:List df} {u v:Nat},u<n->isW L u r v->v<n
 | [],_,_,h,e=>e ▸ h
 | _ :: _,_,_,_,⟨h1,_,h3⟩=>yB hL (hL _ h1).2 h3
theorem pC:∀(n:Nat) (s:Nat->Nat),(∀i,i<=n->s i<n)->∃i j,i<j/\j<=n/\s i=s j
 | 0,s,h=>absurd (h 0 (RT _)) (by omega)
 | n+1,s,h=>by
  by_cases hx:∃i,i<=n/\s i=s (n+1)
  ·obtain ⟨i,hi,he⟩:=hx
   exact ⟨i,n+1,by omega,RT _,he⟩
  ·have hx':∀i,i<=n->s i≠s (n+1):=fun i hi he=>hx ⟨i,hi,he⟩
   obtain ⟨i,j,h1,h2,h3⟩:=pC n (fun i=>if s i=n then s (n+1) else s i) (fun i hi=>by
    have a1:=h i (by omega)
    have a2:=h (n+1) (RT _)
    have a3:=hx' i hi
    show (if s i=n then s (n+1) else s i)<n
    split <;> omega)
   refine ⟨i,j,h1,by omega,?_⟩
   have a1:=hx' i (by omega)
   have a2:=hx' j (by omega)
   have h3:(if s i=n then s (n+1) else s i)=(if s j=n then s (n+1) else s j):=h3
   split at h3 <;> split at h3 <;> omega
theorem Fw (hL:∀a∈L,a.1<n/\a.2.1<n) {r:List df} {u v:Nat} (hu:u<n) (h:isW L u r v) (hn:n<=r.length) :
  ∃p c q m,r=p++c++q/\isW L u p m/\isW L m c m/\isW L m q v/\1<=c.length/\c.length<=n:=by
 have key:∀i,i<=r.length->∃m,isW L u (r.take i) m/\isW L m (r.drop i) v:=fun i _=>by
  have h':=h
  rw [<-S0 i r] at h'
  exact jz.1 h'
 obtain ⟨i,j,hij,hj,he⟩:=pC n (fun i=>Ho u (r.take i)) (fun i hi=>by
  obtain ⟨m,h1,_⟩:=key i (by omega)
  show Ho u (r.take i)<n
  rw [nX h1]
  exact yB hL hu h1)
 obtain ⟨m1,a1,b1⟩:=key i (by omega)
 obtain ⟨m2,a2,b2⟩:=key j (by omega)
 have e1:=nX a1
 have e2:=nX a2
 have he:Ho u (r.take i)=Ho u (r.take j):=he
 have e3:m1=m2:=by rw [<-e1,<-e2,he]
 subst e3
 have hs:r.drop i=(r.drop i).take (j-i)++r.drop j:=by
  conv=>lhs; rw [<-S0 (j-i) (r.drop i)]
  rw [List.drop_drop]
  congr 2; omega
 have hs2:r.take j=r.take i++(r.drop i).take (j-i):=by
  have:j=i+(j-i):=by omega
  conv=>lhs; rw [this]
  rw [List.take_add]
 rw [hs2] at a2
 obtain ⟨m,c1,c2⟩:=jz.1 a2
 have e4:m=m1:=by rw [<-nX c1,e1]
 subst e4
 refine ⟨r.take i,(r.drop i).take (j-i),r.drop j,m,?_,a1,c2,b2,?_,?_⟩
 ·rw [RX,<-hs,S0]
 ·simp; omega
 ·simp; omega
def zQ (L:List df) (n:Nat):Prop:=∀u c,isW L u c u->1<=c.length->c.length<=n->jx c<=0
theorem Ic (hL:∀a∈L,a.1<n/\a.2.1<n) (hN:zQ L n):∀(k:Nat) (r:List df) (u v:Nat),r.length=k->u<n->isW L u r v->∃r',isW L u r' v/\r'.length<n/\jx r<=jx r':=by
 intro k
 induction k using Nat.strongRecOn with
 | ind k ih=>
  intro r u v hk hu h
  by_cases hn:r.length<n
  ·exact ⟨r,h,hn,SU _⟩
  ·obtain ⟨p,c,q,m,hr,h1,h2,h3,h4,h5⟩:=Fw hL hu h (by omega)
   have hc:=hN m c h2 h4 h5
   obtain ⟨r',k1,k2,k3⟩:=ih (p++q).length (by rw [<-hk,hr]; simp; omega) (p++q) u v rfl hu (jz.2 ⟨m,h1,h3⟩)
   refine ⟨r',k1,k2,?_⟩
   rw [hr,gj,gj]
   rw [gj] at k3
   omega
def jM (L:List df) (s:List Int):Prop:=∀a∈L,s.getD a.1 0+a.2.2<=s.getD a.2.1 0
theorem kq {s:List Int} (h:jM L s):∀ {r:List df} {u v:Nat},isW L u r v->s.getD u 0+jx r<=s.getD v 0
 | [],u,v,e=>by rw [show u=v from e]; simp [jx]
 | a :: r,u,v,⟨h1,h2,h3⟩=>by
  have k1:=h a h1
  have k2:=kq h h3
  rw [h2] at k1
  simp only [jx]
  omega
theorem tC {s:List Int} (h:jM L s) (n:Nat):zQ L n:=fun u c hc _ _=>by
 have:=kq h hc
 omega
def oL (s:List Int) (a:df):List Int:=if s.getD a.1 0+a.2.2 > s.getD a.2.1 0 then s.set a.2.1 (s.getD a.1 0+a.2.2) else s
def jN (L:List df) (s:List Int):List Int:=L.foldl oL s
def upL:List df->List Int->Bool
 | [],_=>false
 | a :: L,s=>decide (s.getD a.1 0+a.2.2 > s.getD a.2.1 0) || upL L (oL s a)
theorem mK (s:List Int) (a:df):(oL s a).length=s.length:=by unfold oL; split <;> simp
theorem eC:∀(L:List df) (s:List Int),(jN L s).length=s.length
 | [],_=>rfl
 | a :: L,s=>by
  have:=eC L (oL s a)
  simp only [jN,Sr] at this ⊢
  rw [this,mK]
theorem A8 (s:List Int) (i j:Nat) (x:Int) (hi:i<s.length):(s.set i x).getD j 0=if i=j then x else s.getD j 0:=by
 rw [RC,RC]
 by_cases h:i=j
 ·subst h
  rw [RO hi,RL rfl]; rfl
 ·rw [RF h,RN h]
theorem qn {s:List Int} {a:df} (ha:a.2.1<s.length) (v:Nat):(oL s a).getD v 0=if a.2.1=v then max (s.getD v 0) (s.getD a.1 0+a.2.2) else s.getD v 0:=by
 unfold oL
 by_cases h:s.getD a.1 0+a.2.2 > s.getD a.2.1 0
 ·rw [RL h,A8 _ _ _ _ ha]
  split
  ·rename_i e
   subst e
   omega
  ·rfl
 ·rw [RN h]
  split
  ·rename_i e
   subst e
   omega
  ·rfl
theorem fI:∀ {L:List df} {s:List Int},upL L s=false->jN L s=s/\jM L s
 | [],s,_=>⟨rfl,fun a h=>by cases h⟩
 | a :: L,s,h=>by
  simp only [upL,Bool.or_eq_false_iff,Tk] at h
  obtain ⟨h1,h2⟩:=h
  have e:oL s a=s:=by unfold oL; rw [RN h1]
  rw [e] at h2
  obtain ⟨k1,k2⟩:=fI h2
  refine ⟨?_,fun b hb=>?_⟩
  ·simp only [jN,Sr,e]; exact k1
  ·rcases Sx.1 hb with rfl | hb
   ·omega
   ·exact k2 b hb
theorem ng:∀ {L:List df} {s:List Int},jM L s->upL L s=false
 | [],_,_=>rfl
 | a :: L,s,h=>by
  have h1:=h a (by simp)
  have e:oL s a=s:=by unfold oL; rw [RN (by omega)]
  simp only [upL,e,Bool.or_eq_false_iff,Tk]
  exact ⟨by omega,ng fun b hb=>h b (by simp [hb])⟩
theorem tq:∀ {L:List df} {s:List Int},s.length=n->(∀a∈L,a.2.1<n)->(∀v,s.getD v 0<=(jN L s).getD v 0)/\∀a∈L,s.getD a.1 0+a.2.2<=(jN L s).getD a.2.1 0
 | [],s,_,_=>⟨fun v=>SU _,fun a h=>by cases h⟩
 | a :: L,s,hs,hL=>by
  have ha:=hL a (by simp)
  obtain ⟨k1,k2⟩:=tq (L:=L) (s:=oL s a) (by rw [mK,hs]) (fun b hb=>hL b (by simp [hb]))
  have e:jN (a :: L) s=jN L (oL s a):=rfl
  rw [e]
  have g:=fun v=>qn (s:=s) (a:=a) (by omega) v
  have g1:∀v,s.getD v 0<=(oL s a).getD v 0:=fun v=>by
   rw [g]; split <;> omega
  refine ⟨fun v=>Int.le_trans (g1 v) (k1 v),fun b hb=>?_⟩
  rcases Sx.1 hb with rfl | hb
  ·refine Int.le_trans ?_ (k1 _)
   rw [g,RL rfl]; omega
  ·have:=k2 b hb
   have h0:=g1 b.1
   omega
def BH (L:List df) (n:Nat) (s:List Int):Prop:=∀v,v<n->∃u r,u<n/\isW L u r v/\jx r=s.getD v 0
theorem xw {L:List df} (hL:∀a∈L,a.1<n/\a.2.1<n) {s:List Int} (hs:s.length=n) (hw:BH L n s) {a:df} (ha:a∈L):BH L n (oL s a):=fun v hv=>by
 rw [qn (by have:=(hL a ha).2; omega)]
 by_cases h:a.2.1=v
 ·rw [RL h]
  by_cases hm:s.getD a.1 0+a.2.2<=s.getD v 0
  ·obtain ⟨u,r,h1,h2,h3⟩:=hw v hv
   exact ⟨u,r,h1,h2,by omega⟩
  ·obtain ⟨u,r,h1,h2,h3⟩:=hw a.1 (hL a ha).1
   refine ⟨u,r++[a],h1,jz.2 ⟨a.1,h2,ha,rfl,h⟩,?_⟩
   rw [gj,h3]
   simp only [jx]
   omega
 ·rw [RN h]; exact hw v hv
theorem nG {L0:List df} (hL:∀a∈L0,a.1<n/\a.2.1<n):∀ {L:List df} {s:List Int},(∀a∈L,a∈L0)->s.length=n->BH L0 n s->BH L0 n (jN L s)
 | [],_,_,_,h=>h
 | a :: L,s,hs0,hs,hw=>nG hL (L:=L) (s:=oL s a) (fun b hb=>hs0 b (by simp [hb])) (by rw [mK,hs]) (xw hL hs hw (hs0 a (by simp)))
def lev (L:List df):Nat->List Int->List Int × Bool
 | 0,s=>(s,!upL L s)
 | m+1,s=>if upL L s=false then (s,true) else lev L m (jN L s)
def cA (L:List df) (n:Nat):List Int × Bool:=lev L n (List.replicate n 0)
theorem tA {L:List df} (hL:∀a∈L,a.1<n/\a.2.1<n):∀(m:Nat) (s:List Int),s.length=n->BH L n s->(∀v,0<=s.getD v 0) ->
  (lev L m s).1.length=n/\BH L n (lev L m s).1/\(∀v,0<=(lev L m s).1.getD v 0)/\((lev L m s).2=true->jM L (lev L m s).1)
 | 0,s,hs,hw,h0=>⟨hs,hw,h0,fun h=>(fI (by simpa [lev] using h)).2⟩
 | m+1,s,hs,hw,h0=>by
  unfold lev
  by_cases h:upL L s=false
  ·rw [RL h]
   exact ⟨hs,hw,h0,fun _=>(fI h).2⟩
  ·rw [RN h]
   exact tA hL m _ (by rw [eC,hs]) (nG hL (fun _ h=>h) hs hw) fun v=>Int.le_trans (h0 v) ((tq hs (fun a ha=>(hL a ha).2)).1 v)
theorem ne (L:List df) (n:Nat):BH L n (List.replicate n 0):=fun v hv=>⟨v,[],hv,rfl,by simp [jx,hv]⟩
theorem jP (n v:Nat):(List.replicate n (0:Int)).getD v 0=0:=by
 rw [RC]
 by_cases h:v<n <;> simp [h]
theorem Jg {L:List df} (hL:∀a∈L,a.1<n/\a.2.1<n) (hN:zQ L n):∀(m k:Nat) (s:List Int),m+k=n->s.length=n->BH L n s->(∀v,0<=s.getD v 0)->(∀r u v,isW L u r v->u<n->r.length<=k->jx r<=s.getD v 0)->(lev L m s).2=true:=by
 intro m
 induction m with
 | zero=>
  intro k s hk hs hw h0 hr
  have:jM L s:=fun a ha=>by
   obtain ⟨h1,h2⟩:=hL a ha
   obtain ⟨u,r,k1,k2,k3⟩:=hw a.1 h1
   obtain ⟨r',q1,q2,q3⟩:=Ic hL hN _ (r++[a]) u a.2.1 rfl k1 (jz.2 ⟨a.1,k2,ha,rfl,rfl⟩)
   have:=hr r' u a.2.1 q1 k1 (by omega)
   rw [gj] at q3
   simp only [jx] at q3
   omega
  simp [lev,ng this]
 | succ m ih=>
  intro k s hk hs hw h0 hr
  unfold lev
  by_cases h:upL L s=false
  ·rw [RL h]
  ·rw [RN h]
   have hge:=tq hs (fun a ha=>(hL a ha).2)
   refine ih (k+1) _ (by omega) (by rw [eC,hs]) (nG hL (fun _ h=>h) hs hw) (fun v=>Int.le_trans (h0 v) (hge.1 v)) fun r u v hw' hu hl=>?_
   by_cases he:r=[]
   ·subst he
    have:u=v:=hw'
    subst this
    exact Int.le_trans (by simpa [jx] using h0 u) (hge.1 u)
   ·obtain ⟨q,a,rfl⟩:∃q a,r=q++[a]:=⟨r.dropLast,r.getLast he,(List.dropLast_concat_getLast he).symm⟩
    obtain ⟨m',k1,k2,k3,k4⟩:=jz.1 hw'
    have e:a.2.1=v:=k4
    subst e
    have h1:=hr q u m' k1 hu (by simp at hl; omega)
    have h2:=hge.2 a k2
    rw [<-k3] at h1
    rw [gj]
    simp only [jx]
    omega
theorem nU {L:List df} (hL:∀a∈L,a.1<n/\a.2.1<n):(cA L n).2=true↔zQ L n:=by
 constructor
 ·intro h
  exact tC ((tA hL n _ (by simp) (ne L n) (fun v=>by rw [jP]; exact SU _)).2.2.2 h) n
 ·intro h
  refine Jg hL h n 0 _ (by omega) (by simp) (ne L n) (fun v=>by rw [jP]; exact SU _) fun r u v hw _ hl=>?_
  have:r=[]:=Si.1 (by omega)
  subst this
  rw [jP]; simp [jx]
theorem lS {L:List df} (hL:∀a∈L,a.1<n/\a.2.1<n):(cA L n).1.length=n/\(∀v,0<=(cA L n).1.getD v 0)/\BH L n (cA L n).1/\((cA L n).2=true->jM L (cA L n).1) /\
  ∀x:List Int,jM L x->(∀v,v<n->0<=x.getD v 0)->∀v,v<n->(cA L n).1.getD v 0<=x.getD v 0:=by
 obtain ⟨h1,h2,h3,h4⟩:=tA hL n _ (by simp) (ne L n) (fun v=>by rw [jP]; exact SU _)
 refine ⟨h1,h3,h2,h4,fun x hx h0 v hv=>?_⟩
 obtain ⟨u,r,k1,k2,k3⟩:=h2 v hv
 have:=kq hx k2
 have:=h0 u k1
 unfold cA
 omega
end
def lar (p:Int) (l:List bc):List df:=l.map fun a=>(a.f.toNat,a.t.toNat,a.len p)
theorem qd (p:Int) (l:List bc):(wAs p (num l)).length=l.length:=by simp [wAs,js]
theorem HD (p:Int) {l:List bc} (hi:i<l.length):(wAs p (num l))[i]?=some (wA p (l[i],i)):=by
 simp [wAs,fA l i hi]
theorem q7 (p:Int) {l:List bc} (hi:i<l.length) (A:ac) (k:IntKind):au 6 A (slA 6 (wAs p (num l))) (.int k (i:Int))=some (.fp [.int .i64 l[i].f,.int .i64 l[i].t,.int .i64 l[i].w,.int .i64 l[i].k,.int .i64 (i:Int),.int .i64 (l[i].len p)]):=
 (bo 6 (wAs p (num l))).index (A:=A) (HD p hi) rfl (by omega) k
theorem rK {s:List Int} (h:i<s.length):(ax s)[i]?=some (.int .i64 (s.getD i 0)):=by
 simp [ax,h]
def Bd (lo hi:Int) (s:List Int):Prop:=∀v,v<s.length->lo<=s.getD v 0/\s.getD v 0<=hi
theorem xy {lo:Int} {s:List Int} {a:df} (h:Bd lo hi s) (hf:a.1<s.length) (ht:a.2.1<s.length) (hw:a.2.2<=3000000):Bd lo (hi+3000000) (oL s a):=fun v hv=>by
 rw [mK] at hv
 rw [qn ht]
 have h1:=h v hv
 have h2:=h _ hf
 split <;> omega
theorem xV {l:List bc} (hi:i<l.length):(lar p l)[i]?=some (l[i].f.toNat,l[i].t.toNat,l[i].len p):=by simp [lar,hi]
theorem nH {L:List df} {a:df} (h:L[i]?=some a) (s:List Int):jN (L.take (i+1)) s=oL (jN (L.take i) s) a:=by
 obtain ⟨hi,rfl⟩:=Rx.1 h
 unfold jN
 rw [SQ hi,List.foldl_append]
 rfl
theorem ug:∀ {L:List df} {i:Nat} {a:df},L[i]?=some a->∀s,upL (L.take (i+1)) s=(upL (L.take i) s || decide ((jN (L.take i) s).getD a.1 0+a.2.2 > (jN (L.take i) s).getD a.2.1 0))
 | [],i,a,h,s=>by simp at h
 | b :: L,0,a,h,s=>by
  simp at h; subst h
  simp [upL,jN]
 | b :: L,i+1,a,h,s=>by
  simp only [Tj] at h
  have:=ug h (oL s b)
  simp only [List.take_succ_cons,upL,this,Bool.or_assoc]
  rfl
def Qf:MC:=.region [.H 6 5 7,.F 6 0,.u 3 6,.j 6 3 1]
def Qe:MC:=.region [.a 1,.d 0 3,.l 0 1,.b 1 2,.g 1 0 3,.b 1 4,.d 5 3,.b 1 6,.v 5 7,.c 4 8]
def Qd:MC:=.region [.a 4,.a 1,.d 0 3,.l 1 2,.b 1 3,.g 1 1 4,.b 1 5,.db 9 0 6]
def Qc:MC:=.region [.a 1,.d 0 3,.l 1 1,.b 1 2,.a 4,.g 1 0 3,.I 1 5 4,.M 2]
theorem CZ:nT=.seq (.region [.w 8 7 6]) (.seq (.cond (.var 8) .skip (.exit 0)) (.seq (.seq (.block 1 (.seq Qf (.seq Qe (.seq Qd (.cond (.var 9) Qc .skip))))) (.kill [0,3,4,8,9])) (.region [.m 7 1,.c 7 0]))):=rfl
theorem r37a (E:Env) (fuel:Nat) (K:List KC) (A:ac) (X:MC) {l:List bc} (hi:i<l.length) (v1 v2 v6 v8:AV) :
  run E fuel (.code (.seq Qf X) :: K) [.undef,v1,v2,.undef,.undef,slA 6 (wAs p (num l)),v6,.int .i64 (i:Int),v8,.undef] A =
   run E fuel (.code X :: K) [.undef,v1,v2,.ptr A.length 0 0,.undef,slA 6 (wAs p (num l)),v6,.int .i64 (i:Int),v8,.undef] (A++[.row 6 false [wA p (l[i],i)]]):=by
 have x1:=q7 p hi A .i64
 obtain ⟨W,hW⟩:∃W,W=slA 6 (wAs p (num l)):=⟨_,rfl⟩
 rw [<-hW] at x1 ⊢
 simp [Qf,x1,wA,-au]
def CX (A0:ac) (id:Nat) (s:List Int) (A:ac):Prop:=A[id]?=some (.row 1 false (ax s))/\A0.length<=A.length/\∀j,j≠id->j<A0.length->A[j]?=A0[j]?
theorem xY (s:List Int) (i:Nat) (z:Int):(ax s).set i (.int .i64 z)=ax (s.set i z):=by
 unfold ax; rw [Uh]
theorem EM (E:Env) (fuel:Nat) {A0:ac} {s:List Int} {p:Int} {l:List bc} (hn:s.length=n) (hp:cy p) (hv:∀x∈l,okA n x) (hn32:n<=32) (hl200:l.length<=200) {i:Nat} (hi:i<l.length) {b:Bool} (hb:Bd (-100000000000000) 100000000000000 s) (_hid:id<A0.length) (hI:CX A0 id s A) :
  ∃A',run E fuel [.code nT] (nq (.sl id 0 n) (.bool b) (slA 6 (wAs p (num l))) (.int .i64 (l.length:Int)) (.int .i64 (i:Int))) A=some (.normal (nq (.sl id 0 n) (.bool (b || decide (s.getD l[i].f.toNat 0+l[i].len p > s.getD l[i].t.toNat 0))) (slA 6 (wAs p (num l))) (.int .i64 (l.length:Int)) (.int .i64 ((i+1:Nat):Int))) A')/\CX A0 id (oL s (l[i].f.toNat,l[i].t.toNat,l[i].len p)) A':=by
 obtain ⟨g1,g2,g3⟩:=hI
 have hmem:=hv _ (RM hi)
 obtain ⟨f,hf,hfn⟩:=nQ hmem.1
 obtain ⟨t,ht,htn⟩:=nQ hmem.2.1
 have hv32:okA 32 l[i]:=by
  obtain ⟨h1,h2,h3,h4⟩:=hmem
  exact ⟨by omega,by omega,h3,h4⟩
 obtain ⟨k1,k2,_,_⟩:=gV hv32 hp
 obtain ⟨w,hw⟩:∃w,w=l[i].len p:=⟨_,rfl⟩
 obtain ⟨B,hB⟩:∃B,B=A++[.row 6 false [wA p (l[i],i)]]:=⟨_,rfl⟩
 have r1:=fun K X=>r37a E fuel K A X (p:=p) hi (.sl id 0 n) (.bool b) (.int .i64 (l.length:Int)) (.bool true)
 rw [<-hB] at r1
 have hidA:id<A.length:=(Rx.1 g1).1
 have c1:B[id]?=some (.row 1 false (ax s)):=by rw [hB,RE hidA]; exact g1
 have c8:B[A.length]?=some (.row 6 false [.agg [.int .i64 (f:Int),.int .i64 (t:Int),.int .i64 l[i].w,.int .i64 l[i].k,.int .i64 (i:Int),.int .i64 w]]):=by
  rw [hB,hw]; simp [wA,hf,ht]
 obtain ⟨i8,hi8⟩:∃i8,i8=A.length:=⟨_,rfl⟩
 rw [<-hi8] at r1 c8
 have hBl:A0.length<=B.length:=by rw [hB]; simp; omega
 have hBo:∀j,j≠id->j<A0.length->B[j]?=A0[j]?:=fun j hj hl=>by rw [hB,RE (by omega)]; exact g3 j hj hl
 have ef:=rK (s:=s) (i:=f) (by omega)
 have et:=rK (s:=s) (i:=t) (by omega)
 have bf:=hb f (by omega)
 have bt:=hb t (by omega)
 rw [<-hw] at k1 k2
 have e1:l[i].f.toNat=f:=by omega
 have e2:l[i].t.toNat=t:=by omega
 rw [e1,e2,<-hw]
 obtain ⟨x,hx⟩:∃x,x=s.getD f 0:=⟨_,rfl⟩
 obtain ⟨y,hy⟩:∃y,y=s.getD t 0:=⟨_,rfl⟩
 rw [<-hx] at ef bf ⊢
 rw [<-hy] at et bt ⊢
 have b2:aq .add (.int .i64 x) (.int .i64 w)=some (.int .i64 (x+w)):=by
  simp only [aq]; rw [RL trivial,eg (by unfold inI; omega)]
 have b4:aq .gtr (.int .i64 (x+w)) (.int .i64 y)=some (.bool (decide (x+w > y))):=by simp [aq]
 have b1:=bC i l.length .i64
 rw [RJ hi] at b1
 have b3:=bh i (by omega)
 obtain ⟨i1,hi1⟩:∃i1:Nat,i1=i+1:=⟨_,rfl⟩
 rw [<-hi1] at b3 ⊢
 have er:oL s (f,t,w)=if x+w > y then s.set t (x+w) else s:=by unfold oL; rw [hx,hy]
 rw [er]
 obtain ⟨z,hz⟩:∃z,z=x+w:=⟨_,rfl⟩
 rw [<-hz] at b2 b4 ⊢
 obtain ⟨W,hW⟩:∃W,W=slA 6 (wAs p (num l)):=⟨_,rfl⟩
 rw [<-hW] at r1 ⊢
 have hfn':f<n:=by omega
 have htn':t<n:=by omega
 by_cases hc:z > y
 ·rw [RL hc]
  rw [RJ hc] at b4 ⊢
  refine ⟨B.set id (.row 1 false (ax (s.set t z))),?_,?_,?_,?_⟩
  ·rw [<-xY]
   rw [CZ]
   simp [b1,b3,r1,Qe,Qd,Qc,c1,c8,ef,et,b2,b4,hfn',htn',-aq]
  ·exact RO (by rw [hB]; simp; omega)
  ·simp; omega
  ·intro j hj hl
   rw [RF (SO hj)]; exact hBo j hj hl
 ·rw [RN hc]
  rw [RH hc] at b4 ⊢
  refine ⟨B,?_,c1,hBl,hBo⟩
  rw [CZ]
  simp [b1,b3,r1,Qe,Qd,Qc,c1,c8,ef,et,b2,b4,hfn',htn',-aq]
theorem ev37 {E:Env} {n:Nat} {s:List Int} {p:Int} {l:List bc} (hn:s.length=n) (hp:cy p) (hv:∀x∈l,okA n x) (hn32:n<=32) (hl200:l.length<=200) (hb:Bd (-1000000000000) hi s) (hhi:hi<=1000000000000) (hid:A[id]?=some (.row 1 false (ax s))) :
  ∃A',bp E 300 xM [cU n p l,.sl id 0 n] A=some (.bool (upL (lar p l) s),A')/\CX A id (jN (lar p l) s) A':=by
 have hlt:=(Rx.1 hid).1
 have hlen:(lar p l).length=l.length:=by simp [lar]
 have bd:∀i,i<=l.length->Bd (-1000000000000) (hi+3000000*i) (jN ((lar p l).take i) s):=by
  intro i
  induction i with
  | zero=>intro _; simpa [jN] using hb
  | succ i ih=>
   intro hi'
   have h1:=ih (by omega)
   have h2:=xV (p:=p) (l:=l) (i:=i) (by omega)
   rw [nH h2]
   have hmem:=hv _ (RM (show i<l.length by omega))
   obtain ⟨q1,q2,q3,q4⟩:=hmem
   have hle:=gV (n:=32) (a:=l[i]) ⟨by omega,by omega,q3,q4⟩ hp
   have:=xy (a:=(l[i].f.toNat,l[i].t.toNat,l[i].len p)) h1 (by rw [eC]; simp only; omega) (by rw [eC]; simp only; omega) (by simp only; omega)
   intro v hv'
   have:=this v hv'
   omega
 obtain ⟨o,h1,A',h2,h3⟩:=gk (E:=E) (fuel:=300) (a:=nT) (mask:=mN) (fun k σ B=>∃i,i+k=l.length/\σ=nq (.sl id 0 n) (.bool (upL ((lar p l).take i) s)) (slA 6 (wAs p (num l))) (.int .i64 (l.length:Int)) (.int .i64 (i:Int))/\CX A id (jN ((lar p l).take i) s) B)
  (fun o=>∃A',CX A id (jN (lar p l) s) A'/\o=.exit 0 ((nq (.sl id 0 n) (.bool (upL (lar p l) s)) (slA 6 (wAs p (num l))) (.int .i64 (l.length:Int)) (.int .i64 (l.length:Int))).set 8 (.bool false)) A')
  (by
   rintro k σ B ⟨i,hik,rfl,hI⟩
   rw [CS]
   by_cases hi':i<l.length
   ·have hb':=bd i (by omega)
    have h2:=xV (p:=p) hi'
    obtain ⟨B',h1,h3⟩:=EM E 300 (s:=jN ((lar p l).take i) s) (n:=n) (b:=upL ((lar p l).take i) s) (by rw [eC,hn]) hp hv hn32 hl200 hi' (fun v hv'=>by have:=hb' v hv'; omega) hlt hI
    refine .inl ⟨_,_,h1,k-1,by omega,i+1,by omega,?_,?_⟩
    ·rw [ug h2]
    ·rw [nH h2]; exact h3
   ·obtain rfl:i=l.length:=by omega
    rw [RW (by omega)] at hI ⊢
    refine .inr ⟨_,?_,?_,B,hI,rfl⟩
    ·simp [nT]
    ·intro _ _ h; cases h)
  300 l.length (nq (.sl id 0 n) (.bool false) (slA 6 (wAs p (num l))) (.int .i64 (l.length:Int)) (.int .i64 0)) A (by omega) ⟨0,by omega,by simp [upL],by simpa [jN] using ⟨hid,RT _,fun _ _ _=>rfl⟩⟩
 refine ⟨A',?_,h2⟩
 subst h3
 rw [aX _ _ rfl]
 have hlen2:az (slA 6 (wAs p (num l)))=some (.int .i64 (l.length:Int)):=by rw [qw,qd]
 unfold cU
 obtain ⟨W,hW⟩:∃W,W=slA 6 (wAs p (num l)):=⟨_,rfl⟩
 rw [<-hW] at h1 hlen2 ⊢
 simp [xM,hlen2,Jq h1,dw,-az]
theorem BS:ak Tryz.prog GC 62 (fun _=>bp (ai GC []) 300 xM):=(aM (ag aw) rfl at37 Ku aW.nil).y
theorem aE (xs:List Int):(ax xs).length=xs.length:=by simp [ax]
theorem L9 (E:Env) (fuel:Nat) (h:cK A 1 a (ax xs)) (hne:xs≠[]) (hl:xs.length<=1000):bp E fuel tx [a] A=some (.sl (A.length+1) 0 xs.length,A++[.dead,.row 1 false (ax xs)]):=by
 have hne':ax xs≠[]:=by simpa [ax] using hne
 have hlen:(ax xs).length=xs.length:=by simp [ax]
 rw [aX _ _ rfl]
 obtain ⟨es,hes⟩:∃es,es=ax xs:=⟨_,rfl⟩
 rw [<-hes] at h hne' hlen ⊢
 rw [<-hlen] at hl ⊢
 have hb:es.length*8<=140737488355328:=by omega
 rcases h with h | ⟨id,off,gr,rs,rfl,h1,h2⟩
 ·rcases h with ⟨_,h⟩ | rfl
  ·exact absurd h hne'
  ·simp [tx,dw,aK,aS,hb]
 ·have hid:=(Rx.1 h1).1
  have h1':∀T,(A++T)[id]?=some (.row 1 gr rs):=fun T=>by rw [RE hid,h1]
  simp [tx,dw,aK,aS,h1',h2,hb]
theorem lE:ak Tryz.prog GC 63 (fun _=>bp (ai GC []) 0 tx):=(aM (ag aw) rfl O6 yM aW.nil).y
def qy:List (FuncId × aD):=[(62,fun _=>bp (ai GC []) 300 xM),(63,fun _=>bp (ai GC []) 0 tx)]
@[simp] theorem N0:aH qy 62=some (fun _=>bp (ai GC []) 300 xM):=rfl
@[simp] theorem NZ:aH qy 63=some (fun _=>bp (ai GC []) 0 tx):=rfl
theorem s4:∀f M,aH qy f=some M->ak Tryz.prog GC f M:=ae BS (ae lE aw)
def M26:aI:=fun args=>evF (ai GC qy) 300 rz 5 args
theorem qf:bs Tryz.prog GC 52 M26:=bs.of_ev (E:=ai GC qy) (ag s4) rfl KS sh 5 fun _ _ h=>⟨300,h⟩
theorem ES {n:Nat} {p:Int} {l:List bc} (hp:cy p) (hv:∀x∈l,okA n x) (hn32:n<=32) (hl200:l.length<=200) {lo:Int} {s:List Int} (hs:s.length=n) (hb:Bd lo hi s):Bd lo (hi+600000000) (jN (lar p l) s):=by
 have hlen:(lar p l).length=l.length:=by simp [lar]
 have bd:∀i,i<=l.length->Bd lo (hi+3000000*i) (jN ((lar p l).take i) s):=by
  intro i
  induction i with
  | zero=>intro _; simpa [jN] using hb
  | succ i ih=>
   intro hi'
   have h1:=ih (by omega)
   have h2:=xV (p:=p) (l:=l) (i:=i) (by omega)
   rw [nH h2]
   have hmem:=hv _ (RM (show i<l.length by omega))
   obtain ⟨q1,q2,q3,q4⟩:=hmem
   have hle:=gV (n:=32) (a:=l[i]) ⟨by omega,by omega,q3,q4⟩ hp
   have:=xy (a:=(l[i].f.toNat,l[i].t.toNat,l[i].len p)) h1 (by rw [eC]; simp only; omega) (by rw [eC]; simp only; omega) (by simp only; omega)
   intro v hv'
   have:=this v hv'
   omega
 have:=bd l.length (RT _)
 rw [RW (by omega)] at this
 intro v hv'
 have:=this v hv'
 omega
theorem zo {s:List Int} {l:List bc} (hn:s.length=n) (hp:cy p) (hv:∀x∈l,okA n x) (hn32:n<=32) (hl200:l.length<=200) (hb:Bd (-1000000000000) hi s) (hhi:hi<=1000000000000) (hid:A[id]?=some (.row 1 false (ax s))) :
  ∃A',bp (ai GC []) 300 xM [cU n p l,.sl id 0 n] A=some (.bool (upL (lar p l) s),A')/\CX A id (jN (lar p l) s) A':=ev37 hn hp hv hn32 hl200 hb hhi hid
def eY (L:List df):Nat->List Int->List Int
 | 0,s=>s
 | k+1,s=>jN L (eY L k s)
theorem ec (L:List df) (s:List Int):∀k,(eY L k s).length=s.length
 | 0=>rfl
 | k+1=>by rw [eY,eC,ec L s k]
theorem xu {L:List df} {s:List Int} (h:upL L s=false):∀k,eY L k s=s
 | 0=>rfl
 | k+1=>by rw [eY,xu h k,(fI h).1]
theorem jV (L:List df) (s:List Int):∀k,eY L (k+1) s=eY L k (jN L s)
 | 0=>rfl
 | k+1=>by rw [eY,jV L s k]; rfl
theorem Cc (L:List df):∀(m:Nat) (s:List Int),lev L m s=if _h:∃k,k<m/\upL L (eY L k s)=false then (eY L m s,true) else (eY L m s,!upL L (eY L m s))
 | 0,s=>by
  rw [dif_neg (by rintro ⟨k,h,_⟩; omega)]; rfl
 | m+1,s=>by
  unfold lev
  by_cases h:upL L s=false
  ·rw [RL h,UE ⟨0,by omega,h⟩,xu h]
  ·rw [RN h,Cc L m,jV]
   by_cases h2:∃k,k<m/\upL L (eY L k (jN L s))=false
   ·rw [UE h2]
    obtain ⟨k,hk,h3⟩:=h2
    rw [UE ⟨k+1,by omega,by rw [jV]; exact h3⟩]
   ·rw [dif_neg h2,dif_neg]
    rintro ⟨k,hk,h3⟩
    cases k with
    | zero=>exact h h3
    | succ k=>exact h2 ⟨k,by omega,by rw [jV] at h3; exact h3⟩
theorem vD {l:List bc} (hr:cC n l p):M26 [cU n p l]=some (.tup [slA 1 (ax (cA (lar p l) n).1),.bool (cA (lar p l) n).2]):=by
 obtain ⟨⟨hn,hl200,hv⟩,hp⟩:=hr
 have hn32:n<=32:=by omega
 obtain ⟨L,hL⟩:∃L,L=lar p l:=⟨_,rfl⟩
 obtain ⟨z,hz⟩:∃z,z=List.replicate n (0:Int):=⟨_,rfl⟩
 have hzl:z.length=n:=by rw [hz]; simp
 have hbd:∀k:Nat,Bd (-1000000000000) (600000000*k) (eY L k z):=by
  intro k
  induction k with
  | zero=>
   intro v hv'
   have:(eY L 0 z).getD v 0=0:=by rw [eY,hz]; exact jP n v
   rw [this]; omega
  | succ k ih=>
   rw [eY]
   have:=ES hp hv hn32 hl200 (by rw [ec]; exact hzl) ih
   rw [<-hL] at this
   intro v hv'
   have:=this v hv'
   omega
 have h37:∀(A:ac) (k:Nat),k<=33->A[0]?=some (.row 1 false (ax (eY L k z)))->∃A',bp (ai GC []) 300 xM [cU n p l,.sl 0 0 n] A=some (.bool (upL L (eY L k z)),A')/\CX A 0 (eY L (k+1) z) A':=fun A k hk hA=>by
  have:=zo (s:=eY L k z) (by rw [ec]; exact hzl) hp hv hn32 hl200 (hbd k) (by omega) hA
  rw [<-hL] at this
  exact this
 obtain ⟨W1,O,hW⟩:∃W1 O,cU n p l=.fp [.int .i64 (n:Int),W1,O]:=⟨_,_,rfl⟩
 obtain ⟨o,h1,h2⟩:=gk (E:=ai GC qy) (fuel:=300) (a:=fM) (mask:=eE) (fun k σ A=>∃i,i+k=n/\σ=iW (cU n p l) (.sl 0 0 n) (.int .i64 (n:Int)) (.int .i64 (i:Int))/\A[0]?=some (.row 1 false (ax (eY L i z)))/\∀j,j<i->upL L (eY L j z)=true)
  (fun o=>(∃A' i d6 d7 ,i<n/\upL L (eY L i z)=false/\(∀j,j<i->upL L (eY L j z)=true)/\A'[0]?=some (.row 1 false (ax (eY L (i+1) z)))/\o=.ret [cU n p l,.sl 0 0 n,.bool true,.sl 0 0 n,.int .i64 (n:Int),.int .i64 (i:Int),d6,d7] A') \/
   (∃A',(∀j,j<n->upL L (eY L j z)=true)/\A'[0]?=some (.row 1 false (ax (eY L n z)))/\o=.exit 0 ((iW (cU n p l) (.sl 0 0 n) (.int .i64 (n:Int)) (.int .i64 (n:Int))).set 6 (.bool false)) A'))
  (by
   rintro k σ A ⟨i,hik,rfl,hA,hup⟩
   rw [sk]
   rw [hW] at h37 ⊢
   by_cases hi':i<n
   ·obtain ⟨A',c1,c2⟩:=h37 A i (by omega) hA
    have b1:=bC i n .i64
    rw [RJ hi'] at b1
    have b3:=bh i (by omega)
    obtain ⟨i1,hi1⟩:∃i1:Nat,i1=i+1:=⟨_,rfl⟩
    rw [<-hi1] at b3
    cases hu:upL L (eY L i z) with
    | true=>
     rw [hu] at c1
     refine .inl ⟨iW (.fp [.int .i64 (n:Int),W1,O]) (.sl 0 0 n) (.int .i64 (n:Int)) (.int .i64 ((i+1:Nat):Int)),A',?_,k-1,by omega,i+1,by omega,rfl,c2.1,fun j hj=>?_⟩
     ·rw [<-hi1]
      simp [fM,b1,b3,c1,-aq]
     ·by_cases hji:j=i
      ·rw [hji]; exact hu
      ·exact hup j (by omega)
    | false=>
     rw [hu] at c1
     refine .inr ⟨.ret [.fp [.int .i64 (n:Int),W1,O],.sl 0 0 n,.bool true,.sl 0 0 n,.int .i64 (n:Int),.int .i64 (i:Int),.bool true,.bool true] A',?_,(fun _ _ h=>by cases h),.inl ⟨A',i,_,_,hi',hu,hup,c2.1,rfl⟩⟩
     simp [fM,b1,c1,-aq]
   ·obtain rfl:i=n:=by omega
    refine .inr ⟨_,?_,?_,.inr ⟨A,hup,hA,rfl⟩⟩
    ·simp [fM]
    ·intro _ _ h; cases h)
  300 n (iW (cU n p l) (.sl 0 0 n) (.int .i64 (n:Int)) (.int .i64 0)) [.row 1 false (ax z)] (by omega) ⟨0,by omega,rfl,rfl,fun j hj=>by omega⟩
 have mk:cr 1 8 (.int .i64 0) [] (.int .i64 (n:Int)) (.int .i64 (n:Int))=some (.sl 0 0 n,[.row 1 false (ax z)]):=by
  have:ax z=List.replicate n (.int .i64 0):=by rw [hz]; simp [ax]
  rw [this]; simp [cr]; omega
 have hfz:∀(A:ac) (s:List Int),s.length=n->A[0]?=some (.row 1 false (ax s))->frz A 4 (.sl 0 0 n)=slA 1 (ax s)/\a5 A 4 (.sl 0 0 n)=true:=fun A s hs h0=>by
  constructor
  ·show frz A (3+1) _=_
   simp only [frz,h0,R2]
   rw [RW (by simp [ax]; omega),rQ]
   cases s with
   | nil=>simp at hs; omega
   | cons x r=>rfl
  ·show a5 A (3+1) _=_
   simp only [a5,h0,R2]
   rw [RW (by simp [ax]; omega)]
   exact sG _ _ _
 have hf5:∀(A:ac) (s:List Int) (b:Bool),s.length=n->A[0]?=some (.row 1 false (ax s))->frz A 5 (.tup [.sl 0 0 n,.bool b])=.tup [slA 1 (ax s),.bool b]/\a5 A 5 (.tup [.sl 0 0 n,.bool b])=true:=fun A s b hs h0=>by
  obtain ⟨q1,q2⟩:=hfz A s hs h0
  constructor
  ·show AV.tup [frz A 4 (.sl 0 0 n),frz A 4 (.bool b)]=_
   rw [q1]; rfl
  ·show [AV.sl 0 0 n,.bool b].all (a5 A 4)=true
   simp only [List.all_cons,q2]; rfl
 have p1:∀b,dw [.sl 0 0 n,.bool b]=.tup [.sl 0 0 n,.bool b]:=fun _=>rfl
 have hlev:cA (lar p l) n=lev L n z:=by unfold cA; rw [hL,hz]
 rw [hlev,Cc]
 unfold M26
 rw [eO _ _ rfl]
 rcases h2 with ⟨A',i,d6,d7,hin,hu,hup,hA',rfl⟩ | ⟨A',hup,hA',rfl⟩
 ·rw [UE ⟨i,hin,hu⟩]
  have hst:eY L n z=eY L (i+1) z:=by
   have e:∀k,eY L (i+k) z=eY L i z:=fun k=>by
    induction k with
    | zero=>rfl
    | succ k ih=>rw [show i+(k+1)=(i+k)+1 by omega,eY,ih,(fI hu).1]
   have h3:=e (n-i)
   have h4:=e 1
   rw [show i+(n-i)=n by omega] at h3
   rw [h3,h4]
  rw [hst]
  obtain ⟨q1,q2⟩:=hf5 A' _ true (by rw [ec]; exact hzl) hA'
  rw [hW] at h1 ⊢
  simp [rz,mk,uV h1,q1,q2,-frz,-cr]
 ·rw [dif_neg (by
   rintro ⟨k,hk,h⟩
   rw [hup k hk] at h; cases h)]
  obtain ⟨A2,c1,c2⟩:∃A2,bp (ai GC []) 300 xM [cU n p l,.sl (A'.length+1) 0 n] (A'++[.dead,.row 1 false (ax (eY L n z))])=some (.bool (upL L (eY L n z)),A2)/\CX (A'++[.dead,.row 1 false (ax (eY L n z))]) (A'.length+1) (eY L (n+1) z) A2:=by
   have:=zo (A:=A'++[.dead,.row 1 false (ax (eY L n z))]) (id:=A'.length+1) (s:=eY L n z) (by rw [ec]; exact hzl) hp hv hn32 hl200 (hbd n) (by omega) (by rw [RS (by omega)]; simp)
   rw [<-hL] at this
   exact this
  have hlt:=(Rx.1 hA').1
  have h38:=L9 (ai GC []) 0 (A:=A') (a:=.sl 0 0 n) (xs:=eY L n z) (.inr ⟨0,0,false,ax (eY L n z),by rw [aE,ec,hzl],hA',by rw [R2,Sj]⟩) (by
   intro h
   have:=T3 List.length h
   rw [ec,hzl] at this
   simp at this; omega) (by rw [ec,hzl]; omega)
  rw [ec,hzl] at h38
  have hA2:A2[0]?=some (.row 1 false (ax (eY L n z))):=by
   rw [c2.2.2 0 (by omega) (by simp),RE hlt,hA']
  obtain ⟨q1,q2⟩:=hf5 A2 _ (!upL L (eY L n z)) (by rw [ec]; exact hzl) hA2
  rw [hW] at h1 c1 ⊢
  simp [rz,mk,uV h1,h38,c1,q1,q2,-frz,-cr]
abbrev LP:=Int × Bool
def lA (x:LP):AV:=.agg [.int .i64 x.1,.bool x.2]
def eR (x:LP) (n:Int):LP:=if x.2=false/\x.1=0 then x else (x.1+n,x.2)
def j9 (x y:LP):LP:=if x.2=false\/(y.2=true/\y.1 > x.1) then y else x
def M51:aI:=fun args=>match args with
 | [.agg [.int .i64 x,.bool b],.int .i64 n]=>if -9223372036854775808<=x+n/\x+n<=9223372036854775807 then some (lA (eR (x,b) n)) else none
 | _=>none
theorem uq:an Tryz.prog GC 152 M51:=by
 refine an.of_ev (E:=ai GC []) (ag aw) rfl at51 Kq 2 ?_
 intro args r h
 unfold M51 at h
 split at h
 ·rename_i x b n
  simp only [Rz,Ry] at h
  obtain ⟨h1,rfl⟩:=h
  refine ⟨0,?_⟩
  have b1:aq .add (.int .i64 x) (.int .i64 n)=some (.int .i64 (x+n)):=by
   simp only [aq]; rw [RL trivial,eg h1]
  obtain ⟨z,hz⟩:∃z,z=x+n:=⟨_,rfl⟩
  rw [<-hz] at b1
  rw [aT _ _ rfl]
  unfold eR lA
  simp only [<-hz]
  cases b with
  | true=>simp [LQ,b1,-aq]
  | false=>
   by_cases hx:x=0
   ·subst hx
    simp [LQ,-aq]
   ·simp [LQ,b1,hx,-aq]
 ·cases h
def M52:aI:=fun args=>match args with
 | [.agg [.int .i64 x,.bool b],.agg [.int .i64 y,.bool c]]=>some (lA (j9 (x,b) (y,c)))
 | _=>none
theorem w5:an Tryz.prog GC 172 M52:=by
 refine an.of_ev (E:=ai GC []) (ag aw) rfl OZ yF 2 ?_
 intro args r h
 unfold M52 at h
 split at h
 ·rename_i x b y c
  injection h with h; subst h
  refine ⟨0,?_⟩
  have b1:aq .gtr (.int .i64 y) (.int .i64 x)=some (.bool (decide (y > x))):=by simp [aq]
  rw [aT _ _ rfl]
  unfold j9 lA
  cases b with
  | false=>simp [AL,-aq]
  | true=>
   cases c with
   | false=>simp [AL,-aq]
   | true=>
    by_cases hxy:y > x
    ·rw [RJ hxy] at b1
     simp [AL,b1,hxy,-aq]
    ·rw [RH hxy] at b1
     simp [AL,b1,hxy,-aq]
 ·cases h
def noL:LP:=(0,false)
def hst (h:List LP) (next:List LP) (a:df):List LP:=next.set a.1 (j9 (next.getD a.1 noL) (eR (h.getD a.2.1 noL) a.2.2))
def kv (L:List df) (h:List LP) (n:Nat):List LP:=L.foldl (hst h) (List.replicate n noL)
def hm (L:List df) (n to:Nat):Nat->List LP
 | 0=>(List.replicate n noL).set to (0,true)
 | j+1=>kv L (hm L n to j) n
def wv (L:List df) (n to k:Nat):List AV:=(List.range (k+1)).map fun j=>.fs 2 ((hm L n to j).map lA)
theorem tI (h next:List LP) (a:df):(hst h next a).length=next.length:=by simp [hst]
theorem gm (h:List LP):∀(L:List df) (next:List LP),(L.foldl (hst h) next).length=next.length
 | [],_=>rfl
 | a :: L,next=>by rw [Sr,gm h L,tI]
theorem uT (L:List df) (n to:Nat):∀j,(hm L n to j).length=n
 | 0=>by simp [hm]
 | j+1=>by simp [hm,kv,gm]
def PB (B:Int) (h:List LP):Prop:=∀v,-B<=(h.getD v noL).1/\(h.getD v noL).1<=B
theorem kw {α:Type} (s:List α) (i j:Nat) (x d:α) (hi:i<s.length):(s.set i x).getD j d=if i=j then x else s.getD j d:=by
 rw [RC,RC]
 by_cases h:i=j
 ·subst h
  rw [RO hi,RL rfl]; rfl
 ·rw [RF h,RN h]
theorem E7 {B:Int} {x y:LP} (h1 : -B<=x.1/\x.1<=B) (h2 : -B<=y.1/\y.1<=B) : -B<=(j9 x y).1/\(j9 x y).1<=B:=by
 unfold j9; split
 ·exact h2
 ·exact h1
theorem E2 {B:Int} {x:LP} (h1 : -B<=x.1/\x.1<=B) (h2 : -3000000<=w/\w<=3000000) : -(B+3000000)<=(eR x w).1/\(eR x w).1<=B+3000000:=by
 unfold eR; split
 ·omega
 ·simp only; omega
theorem Jl {B:Int} {h next:List LP} {a:df} (h1:PB B h) (h2:PB (B+3000000) next) (hw : -3000000<=a.2.2/\a.2.2<=3000000) (hf:a.1<next.length):PB (B+3000000) (hst h next a):=fun v=>by
 unfold hst
 rw [kw _ _ _ _ _ hf]
 split
 ·exact E7 (h2 _) (E2 (h1 _) hw)
 ·exact h2 v
theorem xq {B:Int} (hB:0<=B) (n:Nat):PB B (List.replicate n noL):=fun v=>by
 have:(List.replicate n noL).getD v noL=noL:=by
  rw [RC]
  by_cases h:v<n <;> simp [h]
 rw [this]; simp [noL]; omega
def sL (n:Nat) (L:List df):Prop:=∀a∈L,a.1<n/\a.2.1<n /\ -3000000<=a.2.2/\a.2.2<=3000000
theorem uP {n:Nat} {l:List bc} (hn:n<=32) (hp:cy p) (hv:∀x∈l,okA n x):sL n (lar p l):=fun a ha=>by
 obtain ⟨x,hx,rfl⟩:=R1.1 ha
 obtain ⟨q1,q2,q3,q4⟩:=hv x hx
 have hle:=gV (n:=32) (a:=x) ⟨by omega,by omega,q3,q4⟩ hp
 simp only
 omega
theorem uY {B:Int} {h:List LP} (h1:PB B h):∀ {L:List df} {next:List LP},sL n L->next.length=n->PB (B+3000000) next->PB (B+3000000) (L.foldl (hst h) next)
 | [],_,_,_,h2=>h2
 | a :: L,next,hL,hn,h2=>by
  rw [Sr]
  obtain ⟨q1,q2,q3⟩:=hL a (by simp)
  exact uY h1 (fun b hb=>hL b (by simp [hb])) (by rw [tI,hn]) (Jl h1 h2 q3 (by omega))
theorem Z7 {L:List df} (hL:sL n L) (to:Nat):∀j:Nat,PB (3000000*j) (hm L n to j)
 | 0=>fun v=>by
  unfold hm
  by_cases h:to<n
  ·rw [kw _ _ _ _ _ (by simpa using h)]
   split
   ·simp
   ·have:=xq (B:=0) (by omega) n v
    omega
  ·rw [List.set_eq_of_length_le (by simp; omega)]
   have:=xq (B:=0) (by omega) n v
   omega
 | j+1=>by
  have h1:=Z7 hL to j
  have:=uY h1 hL (next:=List.replicate n noL) (by simp) (xq (by omega) n)
  intro v
  have:=this v
  simp only [hm,kv]
  omega
theorem xW {h:List LP} (hi:i<h.length):(h.map lA)[i]?=some (.agg [.int .i64 (h.getD i noL).1,.bool (h.getD i noL).2]):=by
 simp [hi,lA]
def PU:MC:=.region [.H 6 11 13,.F 6 0,.u 7 6,.j 6 7 1]
def Q5:MC:=.region [.a 6,.d 0 7,.l 0 1,.b 1 2,.a 6,.d 0 7,.l 0 5,.b 1 6,.g 2 4 7,.F 2 8,.a 5,.d 0 7,.l 1 11,.b 1 12,.g 2 10 13,.F 2 14,.d 5 7,.b 1 16,.q 152 15 17,.q 172 9 18,.g 2 0 3,.I 2 20 19]
theorem KW:lM=.seq (.region [.w 14 13 12]) (.seq (.cond (.var 14) .skip (.exit 2)) (.seq (.seq (.block 3 (.seq PU Q5)) (.kill [1,2,3,7,10,14])) (.region [.m 13 1,.c 13 0]))):=rfl
def yf:List (FuncId × aD):=[(152,aG 4 M51),(172,aG 4 M52)]
@[simp] theorem No:aH yf 152=some (aG 4 M51):=rfl
@[simp] theorem Nn:aH yf 172=some (aG 4 M52):=rfl
theorem El:∀f M,aH yf f=some M->ak Tryz.prog GC f M:=ae (ak.of_pure uq 4) (ae (ak.of_pure w5 4) aw)
theorem r48a (E:Env) (fuel:Nat) (K:List KC) (A:ac) (X:MC) {l:List bc} (hi:i<l.length) (v0 v4 v5 v6 v8 v9 v12 v14:AV) :
  run E fuel (.code (.seq PU X) :: K) [v0,.undef,.undef,.undef,v4,v5,v6,.undef,v8,v9,.undef,slA 6 (wAs p (num l)),v12,.int .i64 (i:Int),v14] A =
   run E fuel (.code X :: K) [v0,.undef,.undef,.undef,v4,v5,v6,.ptr A.length 0 0,v8,v9,.undef,slA 6 (wAs p (num l)),v12,.int .i64 (i:Int),v14] (A++[.row 6 false [wA p (l[i],i)]]):=by
 have x1:=q7 p hi A .i64
 obtain ⟨W,hW⟩:∃W,W=slA 6 (wAs p (num l)):=⟨_,rfl⟩
 rw [<-hW] at x1 ⊢
 simp [PU,x1,wA,-au]
def Ls (A0:ac) (id:Nat) (A:ac):Prop:=A0.length<=A.length/\∀j,j≠id->j<A0.length->A[j]?=A0[j]?
theorem Ji (h:List LP) (i:Nat) (z:LP):(h.map lA).set i (lA z)=(h.set i z).map lA:=by rw [Uh]
theorem EK (fuel:Nat) {A0:ac} {idL idN:Nat} {h nx:List LP} {p:Int} {l:List bc} (hn:h.length=n) (hx:nx.length=n) (hp:cy p) (hv:∀x∈l,okA n x) (hn32:n<=32) (hl200:l.length<=200) {i:Nat} (hi:i<l.length) (hb:PB 1000000000 h) (hLN:idL≠idN) (hid:idN<A0.length) (hidL:idL<A0.length) (hL:A0[idL]?=some (.row 2 false (h.map lA))) (hN:A[idN]?=some (.row 2 false (nx.map lA))) (hK:Ls A0 idN A) (v0 v4 v8 v9:AV) :
  ∃A',run (ai GC yf) fuel [.code lM] (ly v0 v4 (.sl idL 0 n) (.sl idN 0 n) v8 v9 (slA 6 (wAs p (num l))) (.int .i64 (l.length:Int)) (.int .i64 (i:Int))) A=some (.normal (ly v0 v4 (.sl idL 0 n) (.sl idN 0 n) v8 v9 (slA 6 (wAs p (num l))) (.int .i64 (l.length:Int)) (.int .i64 ((i+1:Nat):Int))) A') /\
   A'[idN]?=some (.row 2 false ((hst h nx (l[i].f.toNat,l[i].t.toNat,l[i].len p)).map lA))/\Ls A0 idN A':=by
 obtain ⟨g2,g3⟩:=hK
 have hmem:=hv _ (RM hi)
 obtain ⟨f,hf,hfn⟩:=nQ hmem.1
 obtain ⟨t,ht,htn⟩:=nQ hmem.2.1
 have hv32:okA 32 l[i]:=by
  obtain ⟨h1,h2,h3,h4⟩:=hmem
  exact ⟨by omega,by omega,h3,h4⟩
 obtain ⟨k1,k2,_,_⟩:=gV hv32 hp
 obtain ⟨w,hw⟩:∃w,w=l[i].len p:=⟨_,rfl⟩
 obtain ⟨B,hB⟩:∃B,B=A++[.row 6 false [wA p (l[i],i)]]:=⟨_,rfl⟩
 have r1:=fun K X=>r48a (ai GC yf) fuel K A X (p:=p) hi v0 v4 (.sl idL 0 n) (.sl idN 0 n) v8 v9 (.int .i64 (l.length:Int)) (.bool true)
 rw [<-hB] at r1
 have cN:B[idN]?=some (.row 2 false (nx.map lA)):=by rw [hB,RE (by omega)]; exact hN
 have cL:B[idL]?=some (.row 2 false (h.map lA)):=by rw [hB,RE (by omega),g3 idL hLN hidL]; exact hL
 have c8:B[A.length]?=some (.row 6 false [.agg [.int .i64 (f:Int),.int .i64 (t:Int),.int .i64 l[i].w,.int .i64 l[i].k,.int .i64 (i:Int),.int .i64 w]]):=by
  rw [hB,hw]; simp [wA,hf,ht]
 obtain ⟨i8,hi8⟩:∃i8,i8=A.length:=⟨_,rfl⟩
 rw [<-hi8] at r1 c8
 have hBl:A0.length<=B.length:=by rw [hB]; simp; omega
 have hBo:∀j,j≠idN->j<A0.length->B[j]?=A0[j]?:=fun j hj hl=>by rw [hB,RE (by omega)]; exact g3 j hj hl
 rw [<-hw] at k1 k2
 have e1:l[i].f.toNat=f:=by omega
 have e2:l[i].t.toNat=t:=by omega
 rw [e1,e2,<-hw]
 have ef:=xW (h:=nx) (i:=f) (by omega)
 have et:=xW (h:=h) (i:=t) (by omega)
 have bt:=hb t
 unfold hst
 simp only
 obtain ⟨x,hx1⟩:∃x,x=nx.getD f noL:=⟨_,rfl⟩
 obtain ⟨y,hy1⟩:∃y,y=h.getD t noL:=⟨_,rfl⟩
 rw [<-hx1] at ef ⊢
 rw [<-hy1] at et bt ⊢
 have m1:M51 [.agg [.int .i64 y.1,.bool y.2],.int .i64 w]=some (.agg [.int .i64 (eR y w).1,.bool (eR y w).2]):=RL (by omega)
 have m2:M52 [.agg [.int .i64 x.1,.bool x.2],.agg [.int .i64 (eR y w).1,.bool (eR y w).2]]=some (.agg [.int .i64 (j9 x (eR y w)).1,.bool (j9 x (eR y w)).2]):=rfl
 have b1:=bC i l.length .i64
 rw [RJ hi] at b1
 have b3:=bh i (by omega)
 obtain ⟨i1,hi1⟩:∃i1:Nat,i1=i+1:=⟨_,rfl⟩
 rw [<-hi1] at b3 ⊢
 rw [<-Ji]
 obtain ⟨q,hq⟩:∃q,q=eR y w:=⟨_,rfl⟩
 rw [<-hq] at m1 m2 ⊢
 obtain ⟨z,hz⟩:∃z,z=j9 x q:=⟨_,rfl⟩
 rw [<-hz] at m2 ⊢
 obtain ⟨q1,q2⟩:=q
 obtain ⟨z1,z2⟩:=z
 obtain ⟨x1,x2⟩:=x
 obtain ⟨y1,y2⟩:=y
 simp only at m1 m2 ef et
 obtain ⟨W,hW⟩:∃W,W=slA 6 (wAs p (num l)):=⟨_,rfl⟩
 rw [<-hW] at r1 ⊢
 obtain ⟨nxa,hnxa⟩:∃nxa,nxa=nx.map lA:=⟨_,rfl⟩
 obtain ⟨ha,hha⟩:∃ha,ha=h.map lA:=⟨_,rfl⟩
 rw [<-hnxa] at cN ef ⊢
 rw [<-hha] at cL et
 have hfn':f<n:=by omega
 have htn':t<n:=by omega
 refine ⟨B.set idN (.row 2 false (nxa.set f (lA (z1,z2)))),?_,?_,?_,?_⟩
 ·rw [KW]
  simp [b1,b3,r1,Q5,cN,cL,c8,ef,et,m1,m2,hfn',htn',lA,-aq]
 ·exact RO (by omega)
 ·simp; omega
 ·intro j hj hl
  rw [RF (SO hj)]; exact hBo j hj hl
theorem I7 (fuel:Nat) {n idL idN:Nat} {h:List LP} {l:List bc} (hn:h.length=n) (hp:cy p) (hv:∀x∈l,okA n x) (hn32:n<=32) (hl200:l.length<=200) (hf:200<fuel) (hb:PB 1000000000 h) (hLN:idL≠idN) (hL:A[idL]?=some (.row 2 false (h.map lA))) (hN:A[idN]?=some (.row 2 false ((List.replicate n noL).map lA))) (v0 v4 v8 v9:AV) :
  ∃A',cc (evC (ai GC yf) fuel lM) ke fuel (ly v0 v4 (.sl idL 0 n) (.sl idN 0 n) v8 v9 (slA 6 (wAs p (num l))) (.int .i64 (l.length:Int)) (.int .i64 0)) A=some (.exit 2 ((ly v0 v4 (.sl idL 0 n) (.sl idN 0 n) v8 v9 (slA 6 (wAs p (num l))) (.int .i64 (l.length:Int)) (.int .i64 (l.length:Int))).set 14 (.bool false)) A') /\
   A'[idN]?=some (.row 2 false ((kv (lar p l) h n).map lA))/\Ls A idN A':=by
 have hidN:=(Rx.1 hN).1
 have hidL:=(Rx.1 hL).1
 have hlen:(lar p l).length=l.length:=by simp [lar]
 obtain ⟨o,h1,A',h2,h3,h4⟩:=gk (E:=ai GC yf) (fuel:=fuel) (a:=lM) (mask:=ke) (fun k σ B=>∃i,i+k=l.length/\σ=ly v0 v4 (.sl idL 0 n) (.sl idN 0 n) v8 v9 (slA 6 (wAs p (num l))) (.int .i64 (l.length:Int)) (.int .i64 (i:Int))/\B[idN]?=some (.row 2 false ((((lar p l).take i).foldl (hst h) (List.replicate n noL)).map lA))/\Ls A idN B)
  (fun o=>∃A',A'[idN]?=some (.row 2 false ((kv (lar p l) h n).map lA))/\Ls A idN A'/\o=.exit 2 ((ly v0 v4 (.sl idL 0 n) (.sl idN 0 n) v8 v9 (slA 6 (wAs p (num l))) (.int .i64 (l.length:Int)) (.int .i64 (l.length:Int))).set 14 (.bool false)) A')
  (by
   rintro k σ B ⟨i,hik,rfl,hN',hK⟩
   rw [CP]
   by_cases hi':i<l.length
   ·obtain ⟨B',c1,c2,c3⟩:=EK fuel (n:=n) hn (by rw [gm]; simp) hp hv hn32 hl200 hi' hb hLN hidN hidL hL hN' hK v0 v4 v8 v9
    refine .inl ⟨_,_,c1,k-1,by omega,i+1,by omega,rfl,?_,c3⟩
    rw [c2,SQ (by omega),List.foldl_append]
    simp [lar]
   ·obtain rfl:i=l.length:=by omega
    refine .inr ⟨_,?_,?_,B,?_,hK,rfl⟩
    ·simp [lM]
    ·intro _ _ h; cases h
    ·rw [hN',RW (by omega)]; rfl)
  fuel l.length _ A (by omega) ⟨0,by omega,rfl,by simpa using hN,RT _,fun _ _ _=>rfl⟩
 exact ⟨A',by rw [<-h4]; exact h1,h2,h3⟩
def Hw (L:List df) (n to i:Nat) (A:ac):Prop:=∃(gr:Bool) (os:List AV),A[1]?=some (.row 1 gr os)/\os.length=i+1/\∀j,j<=i->∃id,os[j]?=some (.sl id 0 n)/\id≠1/\A[id]?=some (.row 2 false ((hm L n to j).map lA))
theorem AC (fuel:Nat) {A:ac} {n:Nat} {l:List bc} (h1n:1<=n) (hp:cy p) (hv:∀x∈l,okA n x) (hn32:n<=32) (hl200:l.length<=200) (hf:200<fuel) (hi:i<k) (hk:k<=32) (hI:Hw (lar p l) n to i A) :
  ∃A',run (ai GC yf) fuel [.code nR] (nl (cU n p l) (.sl 1 0 (i+1)) (.int .i64 (k:Int)) (.int .i64 (i:Int))) A=some (.normal (nl (cU n p l) (.sl 1 0 (i+1+1)) (.int .i64 (k:Int)) (.int .i64 ((i+1:Nat):Int))) A')/\Hw (lar p l) n to (i+1) A':=by
 obtain ⟨gr,os,g1,g2,g3⟩:=hI
 obtain ⟨id,hid,hid1,hrow⟩:=g3 i (RT _)
 have hid2:=(Rx.1 hrow).1
 have h1A:=(Rx.1 g1).1
 obtain ⟨B,hB⟩:∃B,B=A++[.row 2 false ((List.replicate n noL).map lA)]:=⟨_,rfl⟩
 have hBN:B[A.length]?=some (.row 2 false ((List.replicate n noL).map lA)):=by rw [hB]; simp
 have hBo:∀j,j<A.length->B[j]?=A[j]?:=fun j hj=>by rw [hB,RE hj]
 have hBl:B.length=A.length+1:=by rw [hB]; simp
 have hok:=uP hn32 hp hv
 have hpb:=Z7 hok to i
 have hpb':PB 1000000000 (hm (lar p l) n to i):=fun v=>by have:=hpb v; omega
 have mk:cr 2 16 (.agg [.int .i64 0,.bool false]) A (.int .i64 (n:Int)) (.int .i64 (n:Int))=some (.sl A.length 0 n,B):=by
  rw [hB]; simp [cr,lA,noL]; omega
 obtain ⟨C,c1,c2,c3⟩:=I7 fuel (A:=B) (n:=n) (idL:=id) (idN:=A.length) (uT _ n to i) hp hv hn32 hl200 hf hpb' (by omega) (by rw [hBo id hid2]; exact hrow) hBN (cU n p l) (.sl 1 0 (i+1)) (.int .i64 (k:Int)) (.int .i64 (i:Int))
 have hC1:C[1]?=some (.row 1 gr os):=by rw [c3.2 1 (by omega) (by omega),hBo 1 h1A]; exact g1
 obtain ⟨nid,hnid⟩:∃nid,nid=A.length:=⟨_,rfl⟩
 have hC1l:=(Rx.1 hC1).1
 obtain ⟨D,hD⟩:∃D,D=C++[.row 1 false [.sl A.length 0 n]]:=⟨_,rfl⟩
 have hDo:∀j,j<C.length->D[j]?=C[j]?:=fun j hj=>by rw [hD,RE hj]
 have hDl:D.length=C.length+1:=by rw [hD]; simp
 have hDn:D[C.length]?=some (.row 1 false [.sl A.length 0 n]):=by rw [hD]; simp
 have ap:aK 1 24 D (.sl 1 0 (i+1)) (.sl C.length 0 1)=some (.sl 1 0 (i+1+1),D.set 1 (.row 1 true (os++[.sl A.length 0 n]))):=by
  simp [aK,aS,hDn,hDo 1 hC1l,hC1,g2]
  omega
 have b0:aq .sub (.int .i64 ((i+1:Nat):Int)) (.int .i64 1)=some (.int .i64 (i:Int)):=by
  simp only [aq]; rw [RL trivial,eg (by unfold inI; omega)]; congr 2; omega
 have b1:=bC i k .i64
 rw [RJ hi] at b1
 have b3:=bh i (by omega)
 have hlen2:az (slA 6 (wAs p (num l)))=some (.int .i64 (l.length:Int)):=by rw [qw,qd]
 have hne:¬ 1=A.length:=by omega
 refine ⟨D.set 1 (.row 1 true (os++[.sl A.length 0 n])),?_,true,os++[.sl A.length 0 n],?_,?_,?_⟩
 ·obtain ⟨W1,hW⟩:∃W1,W1=slA 6 (wAs p (num l)):=⟨_,rfl⟩
  obtain ⟨O,hO⟩:∃O,cU n p l=.fp [.int .i64 (n:Int),W1,O]:=⟨_,by rw [hW]; rfl⟩
  rw [<-hW] at c1 hlen2
  rw [hO] at c1 ⊢
  rw [hD] at ap ⊢
  rw [<-hnid] at c1 ap hne mk ⊢
  obtain ⟨i1,hi1⟩:∃i1:Nat,i1=i+1:=⟨_,rfl⟩
  rw [<-hi1] at b0 b3 c1 ap ⊢
  have hii:i<i1:=by omega
  have hls:az (.sl 1 0 i1)=some (.int .i64 (i1:Int)):=rfl
  simp [nR,hls,b0,b1,b3,g1,hid,mk,Jp c1,ap,hlen2,hne,hii,hnid.symm,-aq,-cr,-az]
 ·exact RO (by omega)
 ·simp [g2]
 ·intro j hj
  have hcl:=c3.1
  by_cases hji:j=i+1
  ·subst hji
   refine ⟨A.length,by simp [<-g2],by omega,?_⟩
   rw [RF (by omega),hDo _ (by omega)]; exact c2
  ·obtain ⟨jd,q1,q2,q3⟩:=g3 j (by omega)
   have hjd:=(Rx.1 q3).1
   refine ⟨jd,by rw [RE (by omega)]; exact q1,q2,?_⟩
   rw [RF (SO q2),hDo jd (by omega),c3.2 jd (by omega) (by omega),hBo jd hjd]; exact q3
def M48:aI:=fun args=>evF (ai GC yf) 300 MV 5 args
theorem Du:bs Tryz.prog GC 149 M48:=bs.of_ev (E:=ai GC yf) (ag El) rfl at48 Ks 5 fun _ _ h=>⟨300,h⟩
theorem JY (A:ac) (n:Nat) (h:List LP):(h.map lA).map (frz A (n+1))=h.map lA:=by
 rw [Te]; apply Sc; intro x _; cases n <;> rfl
theorem Hw.frz {L:List df} (h:Hw L n to i A) (k:Nat):Proofs.YtfkcoekicjjndaaGreat.frz A (k+3) (.sl 1 0 (i+1))=.fs 1 (wv L n to i)/\a5 A (k+3) (.sl 1 0 (i+1))=true:=by
 obtain ⟨gr,os,g1,g2,g3⟩:=h
 constructor
 ·show Proofs.YtfkcoekicjjndaaGreat.frz A (k+2+1) _=_
  simp only [Proofs.YtfkcoekicjjndaaGreat.frz,g1,R2]
  rw [RW (by omega)]
  congr 1
  apply TO (by simp [g2,wv])
  intro j h1 h2
  obtain ⟨id,q1,q2,q3⟩:=g3 j (by simp [wv] at h2; omega)
  have e:os[j]'(by simpa using h1)=.sl id 0 n:=by
   rw [RD (by simpa using h1)] at q1; exact S4 q1
  simp only [Sv,e,wv,List.getElem_range]
  show Proofs.YtfkcoekicjjndaaGreat.frz A (k+1+1) _=_
  simp only [Proofs.YtfkcoekicjjndaaGreat.frz,q3,R2]
  rw [RW (by simp [uT]),JY]
 ·show a5 A (k+2+1) _=_
  simp only [a5,g1,R2]
  rw [RW (by omega),RZ]
  intro x hx
  obtain ⟨j,hj,rfl⟩:=Sz.1 hx
  obtain ⟨id,q1,q2,q3⟩:=g3 j (by omega)
  have e:os[j]=.sl id 0 n:=by
   rw [RD hj] at q1; exact S4 q1
  rw [e]
  show a5 A (k+1+1) _=_
  simp only [a5,q3,R2]
  rw [RW (by simp [uT]),RZ]
  intro y hy
  obtain ⟨z,_,rfl⟩:=R1.1 hy
  cases k <;> simp [lA,a5]
theorem Li {l:List bc} (hr:cC n l p) (hto:to<n) (hk:k<=32):M48 [cU n p l,.int .i64 (to:Int),.int .i64 (k:Int)]=some (.fs 1 (wv (lar p l) n to k)):=by
 obtain ⟨⟨hn,hl200,hv⟩,hp⟩:=hr
 have hn32:n<=32:=by omega
 obtain ⟨z,hz⟩:∃z,z=(List.replicate n noL).map lA:=⟨_,rfl⟩
 have mk:cr 2 16 (.agg [.int .i64 0,.bool false]) [] (.int .i64 (n:Int)) (.int .i64 (n:Int))=some (.sl 0 0 n,[.row 2 false z]):=by
  rw [hz]; simp [cr,lA,noL]; omega
 have hz2:z.set to (.agg [.int .i64 0,.bool true])=(hm (lar p l) n to 0).map lA:=by
  rw [hz]; unfold hm; rw [Uh]; rfl
 have hzl:z.length=n:=by rw [hz]; simp
 have hz3:z[to]?=some (.agg [.int .i64 0,.bool false]):=by
  rw [hz]; simp [hto,lA,noL]
 obtain ⟨o,h1,A',h2,rfl⟩:=gk (E:=ai GC yf) (fuel:=300) (a:=nR) (mask:=mL) (fun m σ A=>∃i,i+m=k/\σ=nl (cU n p l) (.sl 1 0 (i+1)) (.int .i64 (k:Int)) (.int .i64 (i:Int))/\Hw (lar p l) n to i A)
  (fun o=>∃A',Hw (lar p l) n to k A'/\o=.exit 0 ((nl (cU n p l) (.sl 1 0 (k+1)) (.int .i64 (k:Int)) (.int .i64 (k:Int))).set 10 (.bool false)) A')
  (by
   rintro m σ A ⟨i,him,rfl,hI⟩
   rw [CO]
   by_cases hi':i<k
   ·obtain ⟨A',c1,c2⟩:=AC 300 (by omega) hp hv hn32 hl200 (by omega) hi' hk hI
    exact .inl ⟨_,_,c1,m-1,by omega,i+1,by omega,rfl,c2⟩
   ·obtain rfl:i=k:=by omega
    refine .inr ⟨_,?_,?_,A,hI,rfl⟩
    ·simp [nR]
    ·intro _ _ h; cases h)
  300 k (nl (cU n p l) (.sl 1 0 1) (.int .i64 (k:Int)) (.int .i64 0)) [.row 2 false ((hm (lar p l) n to 0).map lA),.row 1 false [.sl 0 0 n]] (by omega) ⟨0,by omega,rfl,false,[.sl 0 0 n],rfl,rfl,fun j hj=>by
   obtain rfl:j=0:=by omega
   exact ⟨0,rfl,by omega,rfl⟩⟩
 obtain ⟨q1,q2⟩:=h2.frz 2
 unfold M48
 rw [eO _ _ rfl]
 rw [<-hz2] at h1
 have p1:dw [.sl 1 0 (k+1)]=.sl 1 0 (k+1):=rfl
 obtain ⟨W1,O,hO⟩:∃W1 O,cU n p l=.fp [.int .i64 (n:Int),W1,O]:=⟨_,_,rfl⟩
 rw [hO] at h1 ⊢
 simp [MV,mk,hz3,hto,Jo h1,q1,q2,-frz,-cr]
def kT (h:List LP) (p sum:Int) (x:eQ):Bool:=(eR (h.getD x.1.t.toNat noL) (sum+x.1.len p)).2 && decide ((eR (h.getD x.1.t.toNat noL) (sum+x.1.len p)).1 > 0)
def LX:List (FuncId × aD):=[(152,aG 4 M51)]
@[simp] theorem Nl:aH LX 152=some (aG 4 M51):=rfl
theorem Ej:∀f M,aH LX f=some M->ak Tryz.prog GC f M:=ae (ak.of_pure uq 4) aw
def M50:aI:=fun args=>evP (ai GC LX) 0 E8 1 args
theorem w6:an Tryz.prog GC 151 M50:=an.of_ev (E:=ai GC LX) (ag Ej) rfl O0 yG 1 fun _ _ h=>⟨0,h⟩
def wu (hs:List (List LP)):AV:=.fs 1 (hs.map fun h=>.fs 2 (h.map lA))
def JZ (hs:List (List LP)) (left sum:Int):AV:=.func (.func 151) [] [.fp [wu hs],.fp [.int .i64 left],.fp [.int .i64 sum]]
theorem Lg {hs:List (List LP)} {left:Nat} {h:List LP} {x:eQ} (hh:hs[left]?=some h) (ht:x.1.t=(t:Int)) (hth:t<h.length) (hpb:PB 1000000000 h) (hs1 : -1000000000<=sum/\sum<=1000000000) (hw : -3000000<=x.1.len p/\x.1.len p<=3000000) :
  M50 [wA p x,.fp [wu hs],.fp [.int .i64 left],.fp [.int .i64 sum]]=some (.bool (kT h p sum x)):=by
 unfold kT
 have e1:x.1.t.toNat=t:=by omega
 rw [e1]
 have et:=xW hth
 have bt:=hpb t
 obtain ⟨y,hy1⟩:∃y,y=h.getD t noL:=⟨_,rfl⟩
 rw [<-hy1] at et bt ⊢
 obtain ⟨w,hw1⟩:∃w,w=x.1.len p:=⟨_,rfl⟩
 rw [<-hw1] at hw ⊢
 have m1:M51 [.agg [.int .i64 y.1,.bool y.2],.int .i64 (sum+w)]=some (.agg [.int .i64 (eR y (sum+w)).1,.bool (eR y (sum+w)).2]):=RL (by omega)
 have b2:aq .add (.int .i64 sum) (.int .i64 w)=some (.int .i64 (sum+w)):=by
  simp only [aq]; rw [RL trivial,eg (by unfold inI; omega)]
 have hx:wA p x=.agg [.int .i64 x.1.f,.int .i64 (t:Int),.int .i64 x.1.w,.int .i64 x.1.k,.int .i64 (x.2:Int),.int .i64 w]:=by unfold wA; rw [ht,hw1]
 rw [hx]
 have hix:∀A,au 1 A (wu hs) (.int .i64 (left:Int))=some (.fp [.fs 2 (h.map lA)]):=fun A=>
  (show SlA 1 (hs.map fun h=>.fs 2 (h.map lA)) (wu hs) from .inr rfl).index1 (A:=A) (by simp [hh]) rfl rfl .i64
 have hix2:∀A,au 2 A (.fs 2 (h.map lA)) (.int .i64 (t:Int))=some (.fp [.int .i64 y.1,.bool y.2]):=fun A=>
  (show SlA 2 (h.map lA) (.fs 2 (h.map lA)) from .inr rfl).index (A:=A) (i:=t) et rfl (by omega) .i64
 obtain ⟨HT,hHT⟩:∃HT,wu hs=.fs 1 HT:=⟨_,rfl⟩
 rw [hHT] at hix ⊢
 obtain ⟨s,hs'⟩:∃s,s=sum+w:=⟨_,rfl⟩
 rw [<-hs'] at m1 b2 ⊢
 obtain ⟨q,hq⟩:∃q,q=eR y s:=⟨_,rfl⟩
 rw [<-hq] at m1 ⊢
 have b3:aq .gtr (.int .i64 q.1) (.int .i64 0)=some (.bool (decide (q.1 > 0))):=by simp [aq]
 obtain ⟨q1,q2⟩:=q
 obtain ⟨y1,y2⟩:=y
 simp only at m1 b3 hix2
 unfold M50
 rw [aT _ _ rfl]
 cases q2
 ·simp [E8,hix,hix2,b2,m1,-aq,-au]
 ·simp [E8,hix,hix2,b2,b3,m1,-aq,-au]
def Cz:List (FuncId × aD):=[(151,aG 4 M50)]
@[simp] theorem Nm:aH Cz 151=some (aG 4 M50):=rfl
theorem Ek:∀f M,aH Cz f=some M->ak Tryz.prog GC f M:=ae (ak.of_pure w6 4) aw
def M49:aI:=fun args=>evP (ai GC Cz) 300 LR 1 args
theorem H0:an Tryz.prog GC 150 M49:=an.of_ev (E:=ai GC Cz) (ag Ek) rfl at49 Kr 1 fun _ _ h=>⟨300,h⟩
theorem Lh {hs:List (List LP)} {left:Nat} {h:List LP} {p:Int} {xs:List eQ} {ch:AV} (hch:SlA 6 (wAs p xs) ch) (hl:xs.length<=200) (hh:hs[left]?=some h) (ht:∀x∈xs,0<=x.1.t/\x.1.t<(h.length:Int)) (hpb:PB 1000000000 h) (hs1 : -1000000000<=sum/\sum<=1000000000) (hw:∀x∈xs,-3000000<=x.1.len p/\x.1.len p<=3000000) :
  M49 [ch,JZ hs left sum]=some (.int .i64 (cZ (kT h p sum) xs)):=by
 have hlen:=hch.len
 have hlen':(wAs p xs).length=xs.length:=by simp [wAs]
 rw [hlen'] at hlen
 obtain ⟨F,hF⟩:∃F,F=JZ hs left sum:=⟨_,rfl⟩
 have round:∀(A:ac) (i:Nat) (hi:i<xs.length),run (ai GC Cz) 300 [.code jb] (lx ch F (.int .i64 (xs.length:Int)) (.int .i64 (i:Int))) A =
   if kT h p sum xs[i]=false then some (.normal (lx ch F (.int .i64 (xs.length:Int)) (.int .i64 ((i+1:Nat):Int))) A) else some (.ret [ch,F,.int .i64 (i:Int),.int .i64 (i:Int),.int .i64 (xs.length:Int),.int .i64 (i:Int),.bool true,.bool true] A):=fun A i hi=>by
  have hmem:=RM hi
  obtain ⟨t,ht1,ht2⟩:∃t:Nat,xs[i].1.t=(t:Int)/\t<h.length:=by
   have:=ht _ hmem
   exact ⟨xs[i].1.t.toNat,by omega,by omega⟩
  have x1:au 6 A ch (.int .i64 (i:Int))=some (.fp [.int .i64 xs[i].1.f,.int .i64 xs[i].1.t,.int .i64 xs[i].1.w,.int .i64 xs[i].1.k,.int .i64 (xs[i].2:Int),.int .i64 (xs[i].1.len p)]):=
   hch.index (A:=A) (i:=i) (x:=wA p xs[i]) (by simp [wAs,hi]) rfl (by omega) .i64
  have m:=Lg (p:=p) hh ht1 ht2 hpb hs1 (hw _ hmem)
  unfold wA at m
  have b1:=bC i xs.length .i64
  rw [RJ hi] at b1
  have b3:=bh i (by omega)
  obtain ⟨i1,hi1⟩:∃i1:Nat,i1=i+1:=⟨_,rfl⟩
  rw [<-hi1] at b3 ⊢
  obtain ⟨d,hd⟩:∃d,d=kT h p sum xs[i]:=⟨_,rfl⟩
  rw [<-hd] at m ⊢
  rw [hF]
  obtain ⟨HT,hHT⟩:∃HT,wu hs=.fs 1 HT:=⟨_,rfl⟩
  have fz:∀B n,frz B n (.fs 1 HT)=.fs 1 HT:=fun B n=>by cases n <;> rfl
  unfold JZ
  rw [hHT] at m ⊢
  cases d with
  | false=>simp [jb,x1,m,b1,b3,-aq,-au,-az]
  | true=>simp [jb,x1,m,b1,-aq,-au,-az]
 unfold M49
 rw [aT _ _ rfl,<-hF]
 rcases cW (E:=ai GC Cz) (fuel:=300) (a:=jb) (mask:=iy) (fun i=>lx ch F (.int .i64 (xs.length:Int)) (.int .i64 (i:Int))) (fun _=>[]) xs.length (fun i=>¬ ∀hi:i<xs.length,kT h p sum xs[i]=false)
  (oF:=fun i=>.ret [ch,F,.int .i64 (i:Int),.int .i64 (i:Int),.int .i64 (xs.length:Int),.int .i64 (i:Int),.bool true,.bool true] []) (oE:=.exit 0 ((lx ch F (.int .i64 (xs.length:Int)) (.int .i64 (xs.length:Int))).set 6 (.bool false)) [])
  (fun _=>CN) (fun _ _ _ h=>by cases h) (fun _ _ h=>by cases h)
  (fun i hi hp=>by
   rw [round [] i hi]
   exact RL (Se.1 hp hi))
  (fun i hi hp=>by
   rw [round [] i hi]
   exact RN fun h=>hp fun _=>h)
  (by simp [jb]) (show xs.length<300 by omega) with ⟨i,hi,hp,hj,lp⟩ | ⟨hp,lp⟩
 ·have lp:cc (evC (ai GC Cz) 300 jb) iy 300 (lx ch F (.int .i64 (xs.length:Int)) (.int .i64 0)) []=_:=lp
  have e:cZ (kT h p sum) xs=(i:Int):=bJ hi (by
   cases h':kT h p sum xs[i] with
   | true=>rfl
   | false=>exact absurd (fun _=>h') hp) (fun j hj'=>Se.1 (hj j hj') (by omega))
  rw [e]
  simp [LR,hlen,Cp lp,-aq,-az]
 ·have lp:cc (evC (ai GC Cz) 300 jb) iy 300 (lx ch F (.int .i64 (xs.length:Int)) (.int .i64 0)) []=_:=lp
  have e:cZ (kT h p sum) xs = -1:=bS fun i hi=>Se.1 (hp i hi) hi
  rw [e]
  simp [LR,hlen,Cp lp,-aq,-az]
def oN (p:Int) (l:List bc) (hs:Nat->List LP):Nat->Int->List eQ->List Int->Option (List Int)
 | 0,_,_,out=>some out
 | r+1,sum,ch,out=>match ch.find? (kT (hs r) p sum) with
  | none=>none
  | some b=>oN p l hs r (sum+b.1.len p) (mn l b.1.t.toNat) (out++[(b.2:Int)])
def jK (A:ac) (s:AV) (xs:List Int):Prop:=(s=.nilS/\xs=[])\/∃id gr,s=.sl id 0 xs.length/\xs≠[]/\5<=id/\A[id]?=some (.row 1 gr (ax xs))
theorem jK.keep (h:jK A s xs) (hAB:∀id,id∈a7 s->B[id]?=A[id]?):jK B s xs:=by
 rcases h with h | ⟨id,gr,rfl,h1,h2,h3⟩
 ·exact .inl h
 ·exact .inr ⟨id,gr,rfl,h1,h2,by rw [hAB id (by simp [a7]),h3]⟩
theorem jK.low (h:jK A s xs):∀id,id∈a7 s->5<=id/\id<A.length:=by
 rcases h with ⟨rfl,_⟩ | ⟨id,gr,rfl,h1,h2,h3⟩
 ·intro id h; simp [a7] at h
 ·intro j hj
  simp only [a7,SC] at hj
  subst hj
  exact ⟨h2,(Rx.1 h3).1⟩
theorem jK.form2 (h:jK A s xs):s=.nilS\/∃i k,s=.sl i 0 k:=by
 rcases h with ⟨rfl,_⟩ | ⟨id,gr,rfl,_⟩
 ·exact .inl rfl
 ·exact .inr ⟨_,_,rfl⟩
theorem jK.append (h:jK A s xs) (z:Int) (hA:5<=A.length) (hl:xs.length<=1000) :
  ∃s' k A',aK 1 8 A s (.fs 1 [.int .i64 z])=some (.sl s' 0 k,A')/\jK A' (.sl s' 0 k) (xs++[z])/\A.length<=A'.length/\(∀j,j<A.length->j ∉ a7 s->A'[j]?=A[j]?)/\(s'∈a7 s\/s'=A.length):=by
 rcases h with ⟨rfl,rfl⟩ | ⟨id,gr,rfl,h1,h2,h3⟩
 ·refine ⟨A.length,1,A++[.row 1 false [.int .i64 z]],by simp [aK,aS],.inr ⟨A.length,false,rfl,by simp,hA,by simp [ax]⟩,by simp,fun j hj _=>by rw [RE hj],.inr rfl⟩
 ·have hid:=(Rx.1 h3).1
  refine ⟨id,(xs++[z]).length,A.set id (.row 1 true (ax (xs++[z]))),?_,.inr ⟨id,true,rfl,by simp,h2,by simp [hid]⟩,by simp,fun j hj hn=>?_,.inl (by simp [a7])⟩
  ·simp only [aK,aS,h3]
   simp [h1,ax]
   omega
  ·rw [RF (fun e=>hn (by simp [a7,e]))]
theorem jK.out (h:jK A s xs) (k:Nat):frz A (k+1) s=slA 1 (ax xs)/\a5 A (k+1) s=true:=by
 rcases h with ⟨rfl,rfl⟩ | ⟨id,gr,rfl,h1,h2,h3⟩
 ·exact ⟨rfl,rfl⟩
 ·constructor
  ·simp only [frz,h3,R2]
   rw [RW (by simp [ax]),rQ]
   cases xs with
   | nil=>exact absurd rfl h1
   | cons x r=>rfl
  ·simp only [a5,h3,R2]
   rw [RW (by simp [ax])]
   exact sG _ _ _
def Chs (A:ac) (v:AV) (xs:List AV):Prop:=SlA 6 xs v\/(v=.sl 3 0 xs.length/\A[3]?=some (.row 6 false xs))
def ww:List (FuncId × aD):=[(150,aG 4 M49)]
@[simp] theorem Nu:aH ww 150=some (aG 4 M49):=rfl
theorem Ep:∀f M,aH ww f=some M->ak Tryz.prog GC f M:=ae (ak.of_pure H0 4) aw
def P6:MC:=.region [.o 1 11,.an 14 0 0]
def P5:MC:=.region [.a 10,.qn (.makeFunc (.func 151) [] [.var 5,.var 11,.var 9]),.q 150 0 1,.c 12 2]
def P4:MC:=.region [.a 12,.U 15 0 0]
def Q6:MC:=.region [.C 6,.f 7]
def P3:MC:=.region [.a 10,.a 12,.g 6 0 1,.F 6 2,.u 13 6,.j 6 13 3]
def Ml:MC:=.regionD [] [.a 8,.d 4 13,.b 1 1,.bz 2,.ae 1 0 3,.o 1 9,.d 5 13,.b 1 6,.v 5 7,.a 0,.J 9,.l 2 10,.b 1 11,.d 0 13,.l 1 13,.b 1 14,.g 1 12 15,.b 1 16,.c 8 4,.j 1 9 8,.c 10 17] [(4,5),(4,6),(4,7),(4,11),(4,12),(4,13),(4,14),(4,15),(4,16),(4,17),(11,19),(12,19),(13,19),(14,19),(15,19),(16,19),(17,19)]
def PZ:MC:=.region [.bp 16 1 11]
def PY:MC:=.region [.ax 11 1,.cd 1 11 16]
def PX:MC:=.region [.o 1 11,.A 0 1,.j 1 11 1]
theorem zN:ew=.seq (.seq P6 (.cond (.var 14) .skip (.exit 0))) (.seq (.seq (.block 1 (.seq P5 (.seq (.seq P4 (.cond (.var 15) (.seq Q6 .ret) .skip)) (.seq P3 Ml)))) (.kill [1,2,3,4,6,7,12,13,14,15,16])) (.seq (.seq PZ PY) PX)):=rfl
abbrev s43 (W v6 v7 v8 v10 v12 v13 v14 v15 v16:AV) (lid:Nat):List AV:=[W,.undef,.undef,.undef,.undef,.ptr 1 0 0,v6,v7,v8,.ptr 2 0 0,v10,.ptr lid 0 0,v12,v13,v14,v15,v16]
theorem Qv (E:Env) (fuel:Nat) (K:List KC) {left:Int} (h:A[lid]?=some (.row 1 false [.int .i64 left])) :
  run E fuel (.code P6 :: K) (s43 W v6 v7 v8 v10 v12 v13 v14 v15 v16 lid) A=run E fuel K (s43 W v6 v7 v8 v10 v12 v13 (.bool (decide (0<=left))) v15 v16 lid) A:=by
 have b:=gW left
 simp [P6,h,b,-aq]
theorem r43b (fuel:Nat) (K:List KC) (X Y:MC) {ch F:AV} {z:Int} (h1:frz A 4 v10=ch) (h2:frz A 4 (.func (.func 151) [] [.ptr 1 0 0,.ptr lid 0 0,.ptr 2 0 0])=F) (h3:M49 [ch,F]=some (.int .i64 z)) :
  run (ai GC ww) fuel (.code P5 :: .code (.seq (.seq P4 X) Y) :: K) (s43 W v6 v7 v8 v10 v12 v13 v14 v15 v16 lid) A=run (ai GC ww) fuel (.code X :: .code Y :: K) (s43 W v6 v7 v8 v10 (.int .i64 z) v13 v14 (.bool (decide (z<0))) v16 lid) A:=by
 have b:aq .lss (.int .i64 z) (.int .i64 0)=some (.bool (decide (z<0))):=by simp [aq]
 simp [P5,P4,h1,h2,h3,b,-aq,-frz]
theorem r43e (E:Env) (fuel:Nat) (K:List KC) {q:AV} (h:au 6 A v10 (.int .i64 (i:Int))=some q) (hq:af true 6 A q=some (.agg [.int .i64 c1,.int .i64 c2,.int .i64 c3,.int .i64 c4,.int .i64 c5,.int .i64 c6])) :
  run E fuel (.code P3 :: K) (s43 W v6 v7 v8 v10 (.int .i64 (i:Int)) v13 v14 v15 v16 lid) A=run E fuel K (s43 W v6 v7 v8 v10 (.int .i64 (i:Int)) (.ptr A.length 0 0) v14 v15 v16 lid) (A++[.row 6 false [.agg [.int .i64 c1,.int .i64 c2,.int .i64 c3,.int .i64 c4,.int .i64 c5,.int .i64 c6]]]):=by
 simp [P3,h,hq,-au,-af]
theorem r43f (E:Env) (fuel:Nat) (K:List KC) {A:ac} {W1 so:AV} {bid jo ko:Nat} {os:List AV} {n:Int} (hb:A[bid]?=some (.row 6 false [.agg [.int .i64 c1,.int .i64 (t:Int),.int .i64 c3,.int .i64 c4,.int .i64 c5,.int .i64 c6]]))
  (ap:aK 1 8 A so (.fs 1 [.int .i64 c5])=some (.sl jo 0 ko,B)) (hb':B[bid]?=some (.row 6 false [.agg [.int .i64 c1,.int .i64 (t:Int),.int .i64 c3,.int .i64 c4,.int .i64 c5,.int .i64 c6]])) (h2:B[2]?=some (.row 1 false [.int .i64 sum])) (hs:so=.nilS\/∃i k,so=.sl i 0 k) (hid:∀j∈a7 so,j≠2/\j≠bid) (hA2:A.length≠2) (hAb:A.length≠bid) (hb2:bid≠2)
  (hsum : -1000000000<=sum/\sum<=1000000000) (hc6 : -3000000<=c6/\c6<=3000000) (ho:os[t]?=some x) (hx:x.solid=true) (hx2:cellsOf x=[x]) :
  run E fuel (.code Ml :: K) (s43 (.fp [.int .i64 n,W1,.fs 1 os]) v6 v7 so v10 v12 (.ptr bid 0 0) v14 v15 v16 lid) A=run E fuel K (s43 (.fp [.int .i64 n,W1,.fs 1 os]) v6 v7 (.sl jo 0 ko) x v12 (.ptr bid 0 0) v14 v15 v16 lid) (B.set 2 (.row 1 false [.int .i64 (sum+c6)])):=by
 have b2:aq .add (.int .i64 sum) (.int .i64 c6)=some (.int .i64 (sum+c6)):=by
  simp only [aq]; rw [RL trivial,eg (by unfold inI; omega)]
 have hix:∀C,au 1 C (.fs 1 os) (.int .i64 (t:Int))=some (.fp [x]):=fun C=>(show SlA 1 os (.fs 1 os) from .inr rfl).index1 (A:=C) ho hx hx2 .i64
 have hA2':¬ 2=A.length:=fun e=>hA2 e.symm
 have hAb':¬ bid=A.length:=fun e=>hAb e.symm
 have hb2':¬ 2=bid:=fun e=>hb2 e.symm
 obtain ⟨s,hs'⟩:∃s,s=sum+c6:=⟨_,rfl⟩
 rw [<-hs'] at b2 ⊢
 rcases hs with rfl | ⟨i,k,rfl⟩
 ·simp [Ml,hb,ap,hb',h2,b2,hix,hA2,hAb,hb2,-aq,-au]
 ·obtain ⟨q1,q2⟩:=hid i (by simp [a7])
  have q1':¬ 2=i:=fun e=>q1 e.symm
  have q2':¬ bid=i:=fun e=>q2 e.symm
  simp [Ml,hb,ap,hb',h2,b2,hix,hA2,hAb,hb2,q1,q2,-aq,-au]
theorem r43i (E:Env) (fuel:Nat) (K:List KC) {left:Int} (h:A[lid]?=some (.row 1 false [.int .i64 left])) (hl:0<=left/\left<=100) :
  run E fuel (.code (.seq (.seq PZ PY) PX) :: K) (s43 W v6 v7 v8 v10 v12 v13 v14 v15 v16 lid) A=run E fuel K (s43 W v6 v7 v8 v10 v12 v13 v14 v15 (.int .i64 left) A.length) (A++[.row 1 false [.int .i64 (left-1)]]):=by
 have b2:aq .sub (.int .i64 left) (.int .i64 1)=some (.int .i64 (left-1)):=by
  simp only [aq]; rw [RL trivial,eg (by unfold inI; omega)]
 obtain ⟨s,hs'⟩:∃s,s=left-1:=⟨_,rfl⟩
 rw [<-hs'] at b2 ⊢
 simp [PZ,PY,PX,h,b2,-aq]
theorem Bb {α:Type} (q:α->Bool) (l:List α):(l.find? q=none/\cZ q l = -1)\/∃(i:Nat) (hi:i<l.length),l.find? q=some l[i]/\cZ q l=(i:Int)/\q l[i]=true:=by
 unfold cZ
 cases h:l.findIdx? q with
 | none=>
  left
  refine ⟨?_,rfl⟩
  rw [List.findIdx?_eq_none_iff] at h
  rw [List.find?_eq_none]
  intro x hx; rw [h x hx]; simp
 | some i=>
  right
  obtain ⟨hi,h1,h2⟩:=List.findIdx?_eq_some_iff_getElem.1 h
  refine ⟨i,hi,?_,rfl,h1⟩
  rw [List.find?_eq_some_iff_getElem]
  exact ⟨h1,i,hi,rfl,fun j hj=>by simpa using h2 j hj⟩
theorem GI {v:AV} {xs:List eQ} (h:Chs A v (wAs p xs)):SlA 6 (wAs p xs) (frz A 4 v):=by
 rcases h with h | ⟨rfl,h3⟩
 ·rw [h.frz]; exact h
 ·right
  show frz A (3+1) _=_
  simp only [frz,h3,R2]
  rw [RW (RT _)]
  congr 1
  unfold wAs
  rw [Te]
  apply Sc
  intro x _
  exact CB A p x 2
theorem KE {A:ac} {v:AV} {xs:List eQ} (h:Chs A v (wAs p xs)) (hi:i<xs.length):∃q,au 6 A v (.int .i64 (i:Int))=some q/\af true 6 A q=some (wA p xs[i]):=by
 have hx:(wAs p xs)[i]?=some (wA p xs[i]):=by simp [wAs,hi]
 rcases h with h | ⟨rfl,h3⟩
 ·exact ⟨_,h.index (A:=A) hx rfl (by omega) .i64,by simp [af,wA,cellsOf]⟩
 ·refine ⟨.ptr 3 i 0,?_,?_⟩
  ·simp [au,h3]
   simp [wAs]; omega
  ·simp only [af,h3,hx]; rfl
structure Ro (p:Int) (hs:List (List LP)) (r:Nat) (sum:Int) (ch:List eQ) (out:List Int) (so v10:AV) (lid:Nat) (A:ac):Prop where
 a1:A[1]?=some (.row 1 false [wu hs])
 a2:A[2]?=some (.row 1 false [.int .i64 sum])
 al:A[lid]?=some (.row 1 false [.int .i64 ((r:Int)-1)])
 lid4:4<=lid
 so_:jK A so out
 lso:lid ∉ a7 so
 chs:Chs A v10 (wAs p ch)
theorem An {l:List bc} (ht:t<n):((List.range n).map fun v=>slA 6 (wAs p (mn l v)))[t]?=some (slA 6 (wAs p (mn l t))):=by simp [ht]
theorem wB {n:Nat} {p:Int} {l:List bc} (hp:cy p) (hv:∀x∈l,okA n x) (hn32:n<=32) (hl200:l.length<=200) (hsL:List (List LP)) (hs:Nat->List LP) (hk:k<=32) (hhs:∀r,r<k->hsL[r]?=some (hs r)/\(hs r).length=n/\PB 1000000000 (hs r)) :
  ∀(r:Nat) (sum:Int) (ch:List eQ) (out:List Int) (so v10:AV) (lid:Nat) (A:ac) (m:Nat),r<m->r<=k -> -(3000000*((k:Int)-r))<=sum/\sum<=3000000*((k:Int)-r)->out.length<=k-r->(∀x∈ch,x∈num l)->ch.length<=200->Ro p hsL r sum ch out so v10 lid A ->
   ∃o,cc (evC (ai GC ww) 300 ew) dG m (eV (cU n p l) (.ptr 1 0 0) so (.ptr 2 0 0) v10 (.ptr lid 0 0)) A=some o /\
    match oN p l hs r sum ch out with
    | none=>∃so' v10' lid' v12 v13 v14 v15 v16 A',o=.ret (s43 (cU n p l) .nilS (.bool false) so' v10' v12 v13 v14 v15 v16 lid') A'
    | some res=>∃so' v10' lid' A',o=.exit 0 ((eV (cU n p l) (.ptr 1 0 0) so' (.ptr 2 0 0) v10' (.ptr lid' 0 0)).set 14 (.bool false)) A'/\jK A' so' res:=by
 intro r
 induction r with
 | zero=>
  intro sum ch out so v10 lid A m hm _ _ _ _ _ hI
  obtain ⟨m,rfl⟩:∃j,m=j+1:=⟨m-1,by omega⟩
  have r1:=fun K=>Qv (ai GC ww) 300 K (W:=cU n p l) (v6:=.undef) (v7:=.undef) (v8:=so) (v10:=v10) (v12:=.undef) (v13:=.undef) (v14:=.undef) (v15:=.undef) (v16:=.undef) hI.al
  simp only [Int.natCast_zero,Int.zero_sub,s43] at r1
  refine ⟨.exit 0 ((eV (cU n p l) (.ptr 1 0 0) so (.ptr 2 0 0) v10 (.ptr lid 0 0)).set 14 (.bool false)) A,?_,so,v10,lid,A,rfl,hI.so_⟩
  rw [aO,oz,zN]
  obtain ⟨W,hW⟩:∃W,W=cU n p l:=⟨_,rfl⟩
  rw [<-hW] at r1 ⊢
  simp [r1]
 | succ r ih=>
  intro sum ch out so v10 lid A m hm hrk hsum hout hch hcl hI
  obtain ⟨m,rfl⟩:∃j,m=j+1:=⟨m-1,by omega⟩
  obtain ⟨hh1,hh2,hh3⟩:=hhs r (by omega)
  have hleft:(((r+1:Nat):Int)-1)=(r:Int):=by omega
  have hal:=hI.al
  rw [hleft] at hal
  have r1:=fun K=>Qv (ai GC ww) 300 K (W:=cU n p l) (v6:=.undef) (v7:=.undef) (v8:=so) (v10:=v10) (v12:=.undef) (v13:=.undef) (v14:=.undef) (v15:=.undef) (v16:=.undef) hal
  rw [RJ (show (0:Int)<=(r:Int) by omega)] at r1
  have h49:=Lh (p:=p) (sum:=sum) (GI hI.chs) hcl hh1 (fun x hx=>by
   obtain ⟨hi,e⟩:=kQ (hch x hx)
   have:=hv _ (RM hi)
   rw [e] at this
   have h2:=this.2.1
   omega) hh3 (by omega) (fun x hx=>by
   obtain ⟨hi,e⟩:=kQ (hch x hx)
   have:=hv _ (RM hi)
   rw [e] at this
   obtain ⟨q1,q2,q3,q4⟩:=this
   have:=gV (n:=32) (a:=x.1) ⟨by omega,by omega,q3,q4⟩ hp
   omega)
  have hfn:frz A 4 (.func (.func 151) [] [.ptr 1 0 0,.ptr lid 0 0,.ptr 2 0 0])=JZ hsL r sum:=by
   have a1:=hI.a1
   have a2:=hI.a2
   unfold JZ wu at *
   simp [frz,a1,a2,hal]
  have r2:=fun K X Y=>r43b 300 K X Y (W:=cU n p l) (v6:=.undef) (v7:=.undef) (v8:=so) (v10:=v10) (v12:=.undef) (v13:=.undef) (v14:=.bool true) (v15:=.undef) (v16:=.undef) rfl hfn h49
  rw [aO,oz,zN]
  unfold oN
  rcases Bb (kT (hs r) p sum) ch with ⟨q1,q2⟩ | ⟨i,hi,q1,q2,q3⟩
  ·rw [q1]
   rw [q2] at r2
   rw [RJ (show (-1:Int)<0 by omega)] at r2
   refine ⟨.ret (s43 (cU n p l) .nilS (.bool false) so v10 (.int .i64 (-1)) .undef (.bool true) (.bool true) .undef lid) A,?_,so,v10,lid,_,_,_,_,_,A,rfl⟩
   obtain ⟨W,hW⟩:∃W,W=cU n p l:=⟨_,rfl⟩
   rw [<-hW] at r1 r2 ⊢
   simp only [s43] at r1 r2
   simp [r1,r2,Q6]
  ·rw [q1]
   rw [q2] at r2
   rw [RH (show ¬ (i:Int)<0 by omega)] at r2
   obtain ⟨b,hb⟩:∃b,b=ch[i]:=⟨_,rfl⟩
   have hbm:=hch _ (RM hi)
   rw [<-hb] at hbm
   obtain ⟨hbi,hbe⟩:=kQ hbm
   have hok:=hv _ (RM hbi)
   rw [hbe] at hok
   obtain ⟨o1,o2,o3,o4⟩:=hok
   obtain ⟨t,ht1,ht2⟩:=nQ o2
   have hw:=gV (n:=32) (a:=b.1) ⟨by omega,by omega,o3,o4⟩ hp
   obtain ⟨q,e1,e2⟩:=KE hI.chs hi
   rw [<-hb] at e2
   have hwb:wA p b=.agg [.int .i64 b.1.f,.int .i64 (t:Int),.int .i64 b.1.w,.int .i64 b.1.k,.int .i64 (b.2:Int),.int .i64 (b.1.len p)]:=by unfold wA; rw [ht1]
   rw [hwb] at e2
   have r3:=fun K=>r43e (ai GC ww) 300 K (W:=cU n p l) (v6:=.undef) (v7:=.undef) (v8:=so) (v13:=.undef) (v14:=.bool true) (v15:=.bool false) (v16:=.undef) (lid:=lid) e1 e2
   rw [<-hwb] at r3
   obtain ⟨B,hB⟩:∃B,B=A++[.row 6 false [wA p b]]:=⟨_,rfl⟩
   rw [<-hB] at r3
   have hBo:∀j,j<A.length->B[j]?=A[j]?:=fun j hj=>by rw [hB,RE hj]
   have hBl:B.length=A.length+1:=by rw [hB]; simp
   have hBb:B[A.length]?=some (.row 6 false [wA p b]):=by rw [hB]; simp
   have hlA:=(Rx.1 hal).1
   have hl4:=hI.lid4
   have hso:=hI.so_.low
   have soB:jK B so out:=hI.so_.keep fun j hj=>hBo j (hso j hj).2
   obtain ⟨jo,ko,C,ap,s2,c1,c2,c3⟩:=soB.append (b.2:Int) (by omega) (by omega)
   have hCo:∀j,j<A.length->j ∉ a7 so->C[j]?=A[j]?:=fun j hj hn=>by rw [c2 j (by omega) hn,hBo j hj]
   have h2so:2 ∉ a7 so:=fun h=>by have:=hso 2 h; omega
   have hC2:=(hCo 2 (by omega) h2so).trans hI.a2
   have hbso:A.length ∉ a7 so:=fun h=>by have:=hso _ h; omega
   have hCb:=(c2 A.length (by omega) hbso).trans hBb
   rw [hwb] at hBb hCb
   have r4:=fun K=>r43f (ai GC ww) 300 K (A:=B) (B:=C) (W1:=slA 6 (wAs p (num l))) (v6:=.undef) (v7:=.undef) (so:=so) (v10:=v10) (v12:=.int .i64 (i:Int)) (v14:=.bool true) (v15:=.bool false) (v16:=.undef) (x:=slA 6 (wAs p (mn l t))) (lid:=lid) (bid:=A.length) (n:=(n:Int)) hBb ap hCb hC2 soB.form2 (fun j hj=>⟨by have:=(hso j hj).1; omega,by have:=(hso j hj).2; omega⟩) (by omega) (by omega) (by omega) (by omega) (by omega) (An (p:=p) (l:=l) (show t<n by omega)) (xj _ _) (tV _ _)
   obtain ⟨D,hD⟩:∃D,D=C.set 2 (.row 1 false [.int .i64 (sum+b.1.len p)]):=⟨_,rfl⟩
   have hDo:∀j,j≠2->D[j]?=C[j]?:=fun j hj=>by rw [hD,RF (SO hj)]
   have hDl:D.length=C.length:=by rw [hD]; simp
   rw [<-hD] at r4
   have hDlid:D[lid]?=some (.row 1 false [.int .i64 (r:Int)]):=by rw [hDo lid (by omega),hCo lid hlA hI.lso]; exact hal
   have r5:=fun K=>r43i (ai GC ww) 300 K (A:=D) (W:=cU n p l) (v6:=.undef) (v7:=.undef) (v8:=.sl jo 0 ko) (v10:=slA 6 (wAs p (mn l t))) (v12:=.undef) (v13:=.undef) (v14:=.undef) (v15:=.undef) (v16:=.undef) hDlid (by omega)
   obtain ⟨F,hF⟩:∃F,F=D++[.row 1 false [.int .i64 ((r:Int)-1)]]:=⟨_,rfl⟩
   rw [<-hF] at r5
   have hFo:∀j,j<D.length->F[j]?=D[j]?:=fun j hj=>by rw [hF,RE hj]
   have htt:b.1.t.toNat=t:=by omega
   have hs2:=s2.low
   have hIH:=ih (sum+b.1.len p) (mn l t) (out++[(b.2:Int)]) (.sl jo 0 ko) (slA 6 (wAs p (mn l t))) D.length F m (by omega) (by omega) (by omega) (by simp; omega) (fun x hx=>(Tp.1 hx).1) (SR (uH l t) hl200) {
    a1:=by
     rw [hFo 1 (by omega),hDo 1 (by omega),hCo 1 (by omega) (fun h=>by have:=hso 1 h; omega)]; exact hI.a1
    a2:=by rw [hFo 2 (by omega),hD]; exact RO (by omega)
    al:=by rw [hF]; simp
    lid4:=by omega
    so_:=s2.keep fun j hj=>by
     have:=hs2 j hj
     rw [hFo j (by omega),hDo j (by omega)]
    lso:=fun h=>by have:=hs2 _ h; omega
    chs:=.inl (bo _ _)}
   obtain ⟨o,k1,k2⟩:=hIH
   simp only [<-hb,htt]
   refine ⟨o,?_,k2⟩
   obtain ⟨O,hO⟩:∃O,O=(List.range n).map fun v=>slA 6 (wAs p (mn l v)):=⟨_,rfl⟩
   obtain ⟨W1,hW1⟩:∃W1,W1=slA 6 (wAs p (num l)):=⟨_,rfl⟩
   have hW:cU n p l=.fp [.int .i64 (n:Int),W1,.fs 1 O]:=by rw [hO,hW1]; rfl
   rw [<-hO,<-hW1] at r4
   rw [hW] at r1 r2 r3 r5 k1 ⊢
   obtain ⟨Z,hZ⟩:∃Z,Z=slA 6 (wAs p (mn l t)):=⟨_,rfl⟩
   rw [<-hZ] at r4 r5 k1
   simp only [s43] at r1 r2 r3 r4 r5
   simp [r1,r2,r3,r4,r5]
   rw [<-zN,pO,oz]; exact k1
def M43:aI:=fun args=>evF (ai GC ww) 300 z9 5 args
theorem Dv:bs Tryz.prog GC 99 M43:=bs.of_ev (E:=ai GC ww) (ag Ep) rfl O4 yK 5 fun _ _ h=>⟨300,h⟩
def Ck (L:List df) (n to k:Nat):List (List LP):=(List.range (k+1)).map fun j=>hm L n to j
theorem FR (L:List df) (n to k:Nat):.fs 1 (wv L n to k)=wu (Ck L n to k):=by
 unfold wv wu Ck; rw [Te]; rfl
theorem A6 (L:List df) (n to:Nat) {r:Nat} (h:r<=k):(Ck L n to k)[r]?=some (hm L n to r):=by
 unfold Ck; rw [T4,List.getElem?_range (by omega)]; rfl
def wD (r:Option (List Int)):AV:=match r with
 | none=>.tup [.nilS,.bool false]
 | some xs=>.tup [slA 1 (ax xs),.bool true]
theorem vy {l:List bc} (hr:cC n l p) (hk1:1<=k) (hk:k<=32) {a:eQ} (ha:a∈num l) :
  M43 [cU n p l,wA p a,.fs 1 (wv (lar p l) n to k),.int .i64 (k:Int)]=some (wD (oN p l (hm (lar p l) n to) k 0 [a] [])):=by
 obtain ⟨⟨hn,hl200,hv⟩,hp⟩:=hr
 have hn32:n<=32:=by omega
 have hok:=uP hn32 hp hv
 rw [FR]
 have b0:aq .sub (.int .i64 (k:Int)) (.int .i64 1)=some (.int .i64 ((k:Int)-1)):=by
  simp only [aq]; rw [RL trivial,eg (by unfold inI; omega)]
 have hI:Ro p (Ck (lar p l) n to k) k 0 [a] [] .nilS (.sl 3 0 1) 4 [.row 6 false [wA p a],.row 1 false [wu (Ck (lar p l) n to k)],.row 1 false [.int .i64 0],.row 6 false [wA p a],.row 1 false [.int .i64 ((k:Int)-1)]]:=
  {a1:=rfl,a2:=rfl,al:=rfl,lid4:=by omega,so_:=.inl ⟨rfl,rfl⟩,lso:=by simp [a7],chs:=.inr ⟨rfl,rfl⟩}
 obtain ⟨o,h1,h2⟩:=wB hp hv hn32 hl200 (Ck (lar p l) n to k) (hm (lar p l) n to) hk (fun r hr=>⟨A6 _ _ _ (by omega),uT _ _ _ _,fun v=>by
  have:=Z7 hok to r v
  omega⟩) k 0 [a] [] .nilS (.sl 3 0 1) 4 _ 300 (by omega) (RT _) (by omega) (by simp) (fun x hx=>by
  have:x=a:=by simpa using hx
  rw [this]; exact ha) (by simp) hI
 unfold M43
 rw [eO _ _ rfl]
 obtain ⟨W,hW⟩:∃W,W=cU n p l:=⟨_,rfl⟩
 obtain ⟨HT,hHT⟩:∃HT,wu (Ck (lar p l) n to k)=.fs 1 HT:=⟨_,rfl⟩
 rw [hHT] at h1 ⊢
 rw [<-hW] at h1 h2 ⊢
 unfold wA at h1 ⊢
 obtain ⟨k1,hk1'⟩:∃k1,k1=(k:Int)-1:=⟨_,rfl⟩
 rw [<-hk1'] at b0 h1
 cases hw:oN p l (hm (lar p l) n to) k 0 [a] [] with
 | none=>
  rw [hw] at h2
  obtain ⟨so',v10',lid',v12,v13,v14,v15,v16,A',rfl⟩:=h2
  simp [z9,b0,rL h1,wD,dw,a5,frz,-aq]
 | some xs=>
  rw [hw] at h2
  obtain ⟨so',v10',lid',A',rfl,hs⟩:=h2
  obtain ⟨q1,q2⟩:=hs.out 3
  have z1:frz A' 5 (.tup [so',.bool true])=.tup [slA 1 (ax xs),.bool true]:=by
   show AV.tup [frz A' 4 so',frz A' 4 (.bool true)]=_
   rw [q1]; rfl
  have z2:a5 A' 5 (.tup [so',.bool true])=true:=by
   show [so',.bool true].all (a5 A' 4)=true
   simp only [List.all_cons,q2]; rfl
  have p1:dw [so',.bool true]=.tup [so',.bool true]:=rfl
  simp [z9,b0,rL h1,wD,z1,z2,-aq,-frz]
def pR (p:Int) (l:List bc) (n k:Nat) (f:Int):AV:=.fs 1 (wv (lar p l) n f.toNat k)
def kN (l:List bc):List Int:=l.foldl (fun s a=>if a.f∈s then s else s++[a.f]) []
theorem vL (l:List bc) (i:Nat) (hi:i<l.length):kN (l.take (i+1))=if l[i].f∈kN (l.take i) then kN (l.take i) else kN (l.take i)++[l[i].f]:=by
 unfold kN
 rw [SQ hi,List.foldl_append]
 rfl
def sO (G:Int->AV) (s:List Int):List (AV × AV):=s.map fun w=>(.int .i64 w,G w)
theorem u9 (G:Int->AV) (w:Int):∀(s:List Int) (i:Nat),w∈s->∃q,gp (.int .i64 w) (sO G s) i=some (some (q,G w))
 | [],_,h=>by cases h
 | x :: s,i,h=>by
  by_cases hx:x=w
  ·subst hx
   exact ⟨i,by simp [sO,gp,mp]⟩
  ·have hw:w∈s:=by
    rcases Sx.1 h with e | e
    ·exact absurd e.symm hx
    ·exact e
   obtain ⟨q,h1⟩:=u9 G w s (i+1) hw
   refine ⟨q,?_⟩
   simp only [sO,SH,gp,mp] at h1 ⊢
   simp only [SP,Tc.2 (SO hx)]
   exact h1
theorem n7 (G:Int->AV) (w:Int):∀(s:List Int) (i:Nat),w ∉ s->gp (.int .i64 w) (sO G s) i=some none
 | [],_,_=>rfl
 | x :: s,i,h=>by
  have hx:¬ w=x:=fun e=>h (by simp [e])
  have:=n7 G w s (i+1) (fun e=>h (by simp [e]))
  simp only [sO,SH,gp,mp] at this ⊢
  simp only [SP,Tc.2 hx]
  exact this
theorem uO {s:List Int} {M:Nat} (hB:B[M]?=some (.map (sO G s))) (h:w∈s) (ok:Bool):cm ok .nilS B (.map M) (.int .i64 w)=some (if ok then .tup [G w,.bool true] else G w):=by
 obtain ⟨q,h1⟩:=u9 G w s 0 h
 simp only [cm,hB,h1]
theorem xP {s:List Int} {M:Nat} (hB:B[M]?=some (.map (sO G s))) (h:w ∉ s) (ok:Bool):cm ok .nilS B (.map M) (.int .i64 w)=some (if ok then .tup [.nilS,.bool false] else .nilS):=by
 simp only [cm,hB,n7 G w s 0 h]
theorem Ao {s:List Int} {M:Nat} (hB:B[M]?=some (.map (sO G s))) (h:w ∉ s):bz B (.map M) (.int .i64 w) (G w)=some (B.set M (.map (sO G (s++[w])))):=by
 simp only [bz,hB,n7 G w s 0 h]
 simp [sO]
def TT (p:Int) (l:List bc) (i:Nat):ac:=((num l).take i).flatMap fun x=>[.row 6 false [wA p x],.row 6 false [wA p x]]
theorem G2 (p:Int) (l:List bc) (i:Nat) (hi:i<l.length):TT p l (i+1)=TT p l i++[.row 6 false [wA p (l[i],i)],.row 6 false [wA p (l[i],i)]]:=by
 unfold TT
 have h:=fA l i hi
 obtain ⟨h1,h2⟩:=Rx.1 h
 rw [SQ h1,Tq,h2]
 rfl
theorem aW.consF {G:Nat->Option (List AV)} {fs:List (FuncId × aD)} {h0:aR} {f:FuncId} {pu:List FuncId} {M:aI} (h:aH fs f=some (ck 4 M)) (hr:aW (dl G fs h0) pu):aW (dl G fs h0) (f :: pu):=by
 intro k hk hh args A r A' he
 rcases Sx.1 hk with rfl | hk
 ·simp only [dl,jJ,h,ck,AI,S7,Sm] at he ⊢
  rw [RK] at he
  obtain ⟨r',hM,he⟩:=he
  simp only [RP] at he
  obtain ⟨rfl,rfl⟩:=he
  refine ⟨rfl,fun hn B=>?_⟩
  have hm:args.map (frz B 4)=args.map (frz A 4):=Sc fun x hx=>rt 4 x (RZ.1 hn x hx)
  rw [hm,hM]; rfl
 ·exact hr k hk hh args A r A' he
def wa:List (FuncId × aD):=[(149,ck 4 M48)]
@[simp] theorem Nq:aH wa 149=some (ck 4 M48):=rfl
theorem Em:∀f M,aH wa f=some M->ak Tryz.prog GC f M:=ae (ak.of_pureF Du 4) aw
def H47:aD:=fun hd=>bp (dl GC wa hd) 300 BY
theorem ut:ak Tryz.prog GC 148 H47:=bX Em O1 yH (aW.consF (M:=M48) rfl aW.nil)
def H42:aD:=fun hd=>bp (dl GC [] hd) 0 xK
theorem pq:ak Tryz.prog GC 98 H42:=bX aw KP se
theorem ev42 (h:aR) (w:List AV) (k:Int) (A:ac):H42 h [.fp w,.int .i64 k] A=some (.func (.func 148) [] [.ptr A.length 0 0,.ptr (A.length+1) 0 0],A++[.row 1 false [.fp w],.row 1 false [.int .i64 k]]):=by
 unfold H42
 rw [aX _ _ rfl]
 simp [xK]
def PW:MC:=.region [.H 6 6 8,.F 6 0,.u 4 6,.j 6 4 1]
def K4:MC:=.region [.a 3,.d 0 4,.l 0 1,.b 1 2,.qn (.lookup 1 true .nilS (.tmp 0) (.tmp 3)),.h 4,.n 5 0,.n 5 1,.h 6,.c 5 7]
def K3:MC:=.region [.a 5,.S 10 0]
def PV:MC:=.region [.a 3,.d 0 4,.l 0 1,.b 1 2,.o 1 1,.d 0 4,.l 0 5,.b 1 6,.o 1 2,.O 149 4 7 8,.b5 0 3 9]
def KZ:MC:=.region [.a 0,.k 6 4,.a 3,.d 0 4,.l 0 3,.b 1 4,.qn (.lookup 1 false .nilS (.tmp 2) (.tmp 5)),.ay 0 1 6,.S 11 7]
def KY:MC:=.region [.m 8 1,.c 8 0]
theorem vw:jc=.seq (.region [.w 9 8 7]) (.seq (.cond (.var 9) .skip (.exit 0)) (.seq (.seq (.block 1 (.seq PW (.seq (.seq K4 (.seq K3 (.cond (.var 10) PV .skip))) (.seq KZ (.cond (.var 11) .ret .skip))))) (.kill [4,5,9,10,11])) KY)):=rfl
def A47 (p:Int) (l:List bc) (n k:Nat) (X:ac) (i:Nat):ac:=X ++ .map (sO (pR p l n k) (kN (l.take i))) :: TT p l i
def P47 (p:Int) (l:List bc) (n k:Nat) (X:ac) (i:Nat) (a:bc):ac:=X ++ .map (sO (pR p l n k) (kN (l.take (i+1)))) :: (TT p l i++[.row 6 false [wA p (a,i)]])
theorem r47a (E:Env) (fuel:Nat) (K:List KC) (A:ac) {l:List bc} (hi:i<l.length) (v0 v1 v2 v3 v4 v5 v7 v9 v10 v11:AV) :
  run E fuel (.code PW :: K) [v0,v1,v2,v3,v4,v5,slA 6 (wAs p (num l)),v7,.int .i64 (i:Int),v9,v10,v11] A =
   run E fuel K [v0,v1,v2,v3,.ptr A.length 0 0,v5,slA 6 (wAs p (num l)),v7,.int .i64 (i:Int),v9,v10,v11] (A++[.row 6 false [wA p (l[i],i)]]):=by
 have x1:=q7 p hi A .i64
 obtain ⟨W,hW⟩:∃W,W=slA 6 (wAs p (num l)):=⟨_,rfl⟩
 rw [<-hW] at x1 ⊢
 simp [PW,x1,wA,-au]
theorem tg (h:aR) (L:Nat) {wp kp:Nat} {p:Int} {l:List bc} (hr:cC n l p) (hk:k<=32) (hw:X[wp]?=some (.row 1 false [cU n p l])) (hkp:X[kp]?=some (.row 1 false [.int .i64 (k:Int)])) (hi:i<l.length) {b:Bool} {A':ac}
  (hy:h (.func (.yield L) [] []) [wA p (l[i],i),pR p l n k l[i].f] (P47 p l n k X i l[i])=some (.bool b,A')) :
  ∃d4 d5 d9 d10 d11,run (dl GC wa h) 300 [.code jc] (jR (.func (.yield L) [] []) (.ptr wp 0 0) (.ptr kp 0 0) (.map X.length) (slA 6 (wAs p (num l))) (.int .i64 (l.length:Int)) (.int .i64 (i:Int))) (A47 p l n k X i) =
   if b=true then some (.normal (jR (.func (.yield L) [] []) (.ptr wp 0 0) (.ptr kp 0 0) (.map X.length) (slA 6 (wAs p (num l))) (.int .i64 (l.length:Int)) (.int .i64 ((i+1:Nat):Int))) A')
   else some (.ret [.func (.yield L) [] [],.ptr wp 0 0,.ptr kp 0 0,.map X.length,d4,d5,slA 6 (wAs p (num l)),.int .i64 (l.length:Int),.int .i64 (i:Int),d9,d10,d11] A'):=by
 have hmem:=hr.1.2.2 _ (RM hi)
 obtain ⟨f,hf,hfn⟩:=nQ hmem.1
 have hl200:=hr.1.2.1
 have hn32:=hr.1.1
 obtain ⟨B,hB⟩:∃B,B=A47 p l n k X i++[.row 6 false [wA p (l[i],i)]]:=⟨_,rfl⟩
 have hBX:∀j,j<X.length->B[j]?=X[j]?:=fun j hj=>by rw [hB,A47,RX,RE hj]
 have hwl:=(Rx.1 hw).1
 have hkl:=(Rx.1 hkp).1
 have hBw:=(hBX wp hwl).trans hw
 have hBk:=(hBX kp hkl).trans hkp
 have hBM:B[X.length]?=some (.map (sO (pR p l n k) (kN (l.take i)))):=by
  rw [hB,A47,RX,RS (RT _)]; simp
 obtain ⟨M,hM⟩:∃M,M=X.length:=⟨_,rfl⟩
 obtain ⟨i8,hi8⟩:∃i8,i8=(A47 p l n k X i).length:=⟨_,rfl⟩
 have hlow:M<i8:=by rw [hi8,hM]; simp [A47]
 have hB8:B[i8]?=some (.row 6 false [wA p (l[i],i)]):=by rw [hB,hi8]; simp
 have r1:=fun K=>r47a (dl GC wa h) 300 K (A47 p l n k X i) (p:=p) hi (.func (.yield L) [] []) (.ptr wp 0 0) (.ptr kp 0 0) (.map X.length) .undef .undef (.int .i64 (l.length:Int)) (.bool true) .undef .undef
 rw [<-hB,<-hi8,<-hM] at r1
 rw [<-hM] at hBM ⊢
 have hst:=vL l i hi
 rw [hf] at hst hy
 obtain ⟨G,hG⟩:∃G,G=pR p l n k:=⟨_,rfl⟩
 have m48:M48 [cU n p l,.int .i64 (f:Int),.int .i64 (k:Int)]=some (G (f:Int)):=by
  rw [Li hr (by omega) hk,hG]; unfold pR; rw [RY]
 have hGf:∃T,G (f:Int)=.fs 1 T:=⟨wv (lar p l) n f k,by rw [hG]; unfold pR; rw [RY]⟩
 have b1:=bC i l.length .i64
 rw [RJ hi] at b1
 have b3:=bh i (by omega)
 obtain ⟨i1,hi1⟩:∃i1:Nat,i1=i+1:=⟨_,rfl⟩
 rw [<-hi1] at b3 ⊢
 rw [<-hG] at hBM hy
 obtain ⟨T,hT⟩:=hGf
 have hnw:wA p (l[i],i)=.agg [.int .i64 (f:Int),.int .i64 l[i].t,.int .i64 l[i].w,.int .i64 l[i].k,.int .i64 (i:Int),.int .i64 (l[i].len p)]:=by unfold wA; rw [hf]
 rw [hnw] at hB8 hy
 obtain ⟨A1,hA1⟩:∃A1,A1=A47 p l n k X i:=⟨_,rfl⟩
 rw [<-hA1] at r1 ⊢
 obtain ⟨W1,O,hW,hW1⟩:∃W1 O,cU n p l=.fp [.int .i64 (n:Int),W1,O]/\W1=slA 6 (wAs p (num l)):=⟨_,_,rfl,rfl⟩
 have hWfz:∀B n,frz B n W1=W1:=fun B n=>by rw [hW1]; exact tL B n 6 _
 rw [<-hW1] at r1 ⊢
 by_cases hs:(f:Int)∈kN (l.take i)
 ·rw [RL hs] at hst
  have hP:P47 p l n k X i l[i]=B:=by
   rw [hB,P47,A47,hst]; simp
  rw [hP] at hy
  have lk:=fun ok=>uO hBM hs ok
  have lk1:=lk true
  have lk2:=lk false
  simp only [SP,Sa,S3] at lk1 lk2
  cases b with
  | true=>
   refine ⟨.undef,.undef,.undef,.undef,.undef,?_⟩
   rw [vw]
   simp [b1,b3,r1,K4,K3,KZ,KY,hB8,lk1,lk2,hy,-aq,-cm]
  | false=>
   refine ⟨.ptr i8 0 0,.bool true,.bool true,.bool false,.bool true,?_⟩
   rw [vw]
   simp [b1,r1,K4,K3,KZ,KY,hB8,lk1,lk2,hy,-aq,-cm]
 ·rw [RN hs] at hst
  have up:=Ao hBM hs
  obtain ⟨C,hC⟩:∃C,C=B.set M (.map (sO G (kN (l.take i)++[(f:Int)]))):=⟨_,rfl⟩
  have hP:P47 p l n k X i l[i]=C:=by
   rw [hC,hB,P47,A47,hst,hM,RX,R9 _ _ (RT _),<-hG]; simp
  rw [hP] at hy
  rw [<-hC] at up
  have hCM:C[M]?=some (.map (sO G (kN (l.take i)++[(f:Int)]))):=by rw [hC]; exact RO (Rx.1 hBM).1
  have hC8:=(show C[i8]?=B[i8]? by rw [hC,RF (by omega)]).trans hB8
  have lk1:=xP hBM hs true
  have lk2:=uO hCM (show (f:Int)∈kN (l.take i)++[(f:Int)] by simp) false
  simp only [SP,Sa,S3] at lk1 lk2
  rw [hW] at hBw m48
  rw [hT] at up lk2 m48 hy
  have hfz1:∀B,frz B 4 (.fp [.int .i64 (n:Int),W1,O])=.fp [.int .i64 (n:Int),W1,O]:=fun _=>rfl
  cases b with
  | true=>
   refine ⟨.undef,.undef,.undef,.undef,.undef,?_⟩
   rw [vw]
   simp [b1,b3,r1,K4,K3,PV,KZ,KY,hB8,hC8,hBw,hBk,lk1,lk2,m48,up,hy,-aq,-cm,-bz]
  | false=>
   refine ⟨.ptr i8 0 0,.bool false,.bool true,.bool true,.bool true,?_⟩
   rw [vw]
   simp [b1,r1,K4,K3,PV,KZ,KY,hB8,hC8,hBw,hBk,lk1,lk2,m48,up,hy,-aq,-cm,-bz]
theorem vH (p:Int) (l:List bc) (n k:Nat) (X:ac):A47 p l n k X 0=X++[.map []]:=by
 simp [A47,TT,kN,sO]
theorem ev47 (h:aR) (L:Nat) {wp kp:Nat} {l:List bc} (hr:cC n l p) (hk:k<=32) (hw:X[wp]?=some (.row 1 false [cU n p l])) (hkp:X[kp]?=some (.row 1 false [.int .i64 (k:Int)])) (m:Nat) (hm:m<=l.length)
  (hno:∀i (hi:i<l.length),i<m->h (.func (.yield L) [] []) [wA p (l[i],i),pR p l n k l[i].f] (P47 p l n k X i l[i])=some (.bool true,A47 p l n k X (i+1)))
  (Z:ac) (hyes:∀hi:m<l.length,h (.func (.yield L) [] []) [wA p (l[m],m),pR p l n k l[m].f] (P47 p l n k X m l[m])=some (.bool false,Z)) :
  H47 h [.func (.yield L) [] [],.ptr wp 0 0,.ptr kp 0 0] X=some (.tup [],if m<l.length then Z else A47 p l n k X l.length):=by
 have hl200:=hr.1.2.1
 have hwl:=(Rx.1 hw).1
 have hw':(X++[Ent.map []])[wp]?=some (.row 1 false [cU n p l]):=by rw [RE hwl]; exact hw
 have hlen2:az (slA 6 (wAs p (num l)))=some (.int .i64 (l.length:Int)):=by rw [qw,qd]
 unfold H47
 rw [aX _ _ rfl]
 obtain ⟨W1,O,hW,hW1⟩:∃W1 O,cU n p l=.fp [.int .i64 (n:Int),W1,O]/\W1=slA 6 (wAs p (num l)):=⟨_,_,rfl,rfl⟩
 by_cases hml:m<l.length
 ·rw [RL hml]
  obtain ⟨d4,d5,d9,d10,d11,hlast⟩:=tg h L hr hk hw hkp hml (hyes hml)
  rw [RN (by simp)] at hlast
  have lp:=nW (E:=dl GC wa h) (fuel:=300) (a:=jc) (mask:=ge) (fun i=>jR (.func (.yield L) [] []) (.ptr wp 0 0) (.ptr kp 0 0) (.map X.length) (slA 6 (wAs p (num l))) (.int .i64 (l.length:Int)) (.int .i64 (i:Int))) (fun i=>A47 p l n k X i) m
   (fun _=>yY) (fun _ _ h=>by cases h) (fun i hi=>by
    obtain ⟨_,_,_,_,_,hl⟩:=tg h L hr hk hw hkp (show i<l.length by omega) (hno i (by omega) hi)
    rw [RL rfl] at hl
    exact hl) hlast (show m<300 by omega)
  have lp:cc (evC (dl GC wa h) 300 jc) ge 300 (jR (.func (.yield L) [] []) (.ptr wp 0 0) (.ptr kp 0 0) (.map X.length) (slA 6 (wAs p (num l))) (.int .i64 (l.length:Int)) (.int .i64 0)) (A47 p l n k X 0)=_:=lp
  rw [vH] at lp
  rw [hW] at hw'
  rw [<-hW1] at lp hlen2
  simp [BY,hw',hlen2,Cq lp,dw,-az]
 ·rw [RN hml]
  have hml':m=l.length:=by omega
  have lp:=nW (E:=dl GC wa h) (fuel:=300) (a:=jc) (mask:=ge) (fun i=>jR (.func (.yield L) [] []) (.ptr wp 0 0) (.ptr kp 0 0) (.map X.length) (slA 6 (wAs p (num l))) (.int .i64 (l.length:Int)) (.int .i64 (i:Int))) (fun i=>A47 p l n k X i) l.length
   (o:=.exit 0 ((jR (.func (.yield L) [] []) (.ptr wp 0 0) (.ptr kp 0 0) (.map X.length) (slA 6 (wAs p (num l))) (.int .i64 (l.length:Int)) (.int .i64 (l.length:Int))).set 9 (.bool false)) (A47 p l n k X l.length))
   (fun _=>yY) (fun _ _ h=>by cases h) (fun i hi=>by
    obtain ⟨_,_,_,_,_,hl⟩:=tg h L hr hk hw hkp hi (hno i hi (by omega))
    rw [RL rfl] at hl
    exact hl) (by simp [jc]) (show l.length<300 by omega)
  have lp:cc (evC (dl GC wa h) 300 jc) ge 300 (jR (.func (.yield L) [] []) (.ptr wp 0 0) (.ptr kp 0 0) (.map X.length) (slA 6 (wAs p (num l))) (.int .i64 (l.length:Int)) (.int .i64 0)) (A47 p l n k X 0)=_:=lp
  rw [vH] at lp
  rw [hW] at hw'
  rw [<-hW1] at lp hlen2
  simp [BY,hw',hlen2,Cq lp,dw,-az]
def wk (p:Int) (l:List bc) (n k:Nat) (x:eQ):Option (List Int):=oN p l (hm (lar p l) n x.1.f.toNat) k 0 [x] []
def eK (p:Int) (l:List bc) (n k:Nat):Option (List Int):=(num l).findSome? (wk p l n k)
def qK (p:Int) (l:List bc) (n:Nat):Option (List Int):=(List.range n).findSome? fun j=>eK p l n (j+1)
def gz:List (FuncId × aD):=[(98,H42),(99,ck 4 M43),(148,H47)]
@[simp] theorem NV:aH gz 98=some H42:=rfl
@[simp] theorem NU:aH gz 99=some (ck 4 M43):=rfl
@[simp] theorem NT:aH gz 148=some H47:=rfl
theorem qh:∀f M,aH gz f=some M->ak Tryz.prog GC f M:=ae pq (ae (ak.of_pureF Dv 4) (ae ut aw))
theorem zx (h0:aR) {Q:ac} {wb rb vid:Nat} {l:List bc} (hr:cC n l p) (hk1:1<=k) (hk:k<=32) (hw:Q[wb]?=some (.row 1 false [cU n p l])) (hkp:Q[kb]?=some (.row 1 false [.int .i64 (k:Int)])) (hi:i<l.length) (hv:Q[vid]?=some (.row 6 false [wA p (l[i],i)]))
  (hn:wk p l n k (l[i],i)=none) (v0 v6 v7 v8 v9 v10 v11 v12 v13:AV) :
  ∃ σ,run (dl GC gz h0) 300 [.code gy] [v0,.ptr wb 0 0,.ptr rb 0 0,.ptr kb 0 0,.ptr vid 0 0,pR p l n k l[i].f,v6,v7,v8,v9,v10,v11,v12,v13] Q=some (.normal σ Q):=by
 have m:=vy hr hk1 hk (a:=(l[i],i)) (show (l[i],i)∈num l from SF (fA l i hi)) (to:=l[i].f.toNat)
 unfold wk at hn
 rw [hn] at m
 have hH:∃T,pR p l n k l[i].f=.fs 1 T/\T=wv (lar p l) n l[i].f.toNat k:=⟨_,rfl,rfl⟩
 obtain ⟨T,hT,hT2⟩:=hH
 rw [<-hT2] at m
 rw [hT]
 obtain ⟨W1,O,hW⟩:∃W1 O,cU n p l=.fp [.int .i64 (n:Int),W1,O]:=⟨_,_,rfl⟩
 rw [hW] at hw m
 unfold wA at hv m
 simp only [wD] at m hv
 simp [gy,hw,hkp,hv,m]
theorem wo (h0:aR) {Q:ac} {wb rb vid:Nat} {e2:AV} {l:List bc} (hr:cC n l p) (hk1:1<=k) (hk:k<=32) (hw:Q[wb]?=some (.row 1 false [cU n p l])) (hkp:Q[kb]?=some (.row 1 false [.int .i64 (k:Int)])) (hrb:Q[rb]?=some (.row 1 false [e2])) (hi:i<l.length) (hv:Q[vid]?=some (.row 6 false [wA p (l[i],i)]))
  {res:List Int} (hn:wk p l n k (l[i],i)=some res) (v0 v6 v7 v8 v9 v10 v11 v12 v13:AV) :
  ∃ σ,run (dl GC gz h0) 300 [.code gy] [v0,.ptr wb 0 0,.ptr rb 0 0,.ptr kb 0 0,.ptr vid 0 0,pR p l n k l[i].f,v6,v7,v8,v9,v10,v11,v12,v13] Q=some (.ret σ (Q.set rb (.row 1 false [slA 1 (ax res)]))):=by
 have m:=vy hr hk1 hk (a:=(l[i],i)) (show (l[i],i)∈num l from SF (fA l i hi)) (to:=l[i].f.toNat)
 unfold wk at hn
 rw [hn] at m
 have hH:∃T,pR p l n k l[i].f=.fs 1 T/\T=wv (lar p l) n l[i].f.toNat k:=⟨_,rfl,rfl⟩
 obtain ⟨T,hT,hT2⟩:=hH
 rw [<-hT2] at m
 rw [hT]
 obtain ⟨W1,O,hW⟩:∃W1 O,cU n p l=.fp [.int .i64 (n:Int),W1,O]:=⟨_,_,rfl⟩
 rw [hW] at hw m
 unfold wA at hv m
 obtain ⟨R,hR⟩:∃R,R=slA 1 (ax res):=⟨_,rfl⟩
 have hR2:R=.nilS\/∃T,R=.fs 1 T:=by
  rw [hR]; cases ax res with
  | nil=>exact .inl rfl
  | cons x r=>exact .inr ⟨_,rfl⟩
 simp only [wD,<-hR] at m hv
 rw [<-hR]
 rcases hR2 with rfl | ⟨T2,rfl⟩
 ·simp [gy,hw,hkp,hv,hrb,m]
 ·simp [gy,hw,hkp,hv,hrb,m]
theorem Hb (p:Int) (l:List bc) (n k:Nat) (X:ac) (hi:i<l.length):P47 p l n k X i l[i]++[.row 6 false [wA p (l[i],i)]]=A47 p l n k X (i+1):=by
 unfold P47 A47
 rw [G2 p l i hi]
 simp
theorem oJ (p:Int) (l:List bc) (n k:Nat) (i:Nat) (hj:j<X.length):(A47 p l n k X i)[j]?=X[j]?:=by
 unfold A47; rw [RE hj]
theorem oI (p:Int) (l:List bc) (n k:Nat) (i:Nat) (hj:j<X.length) (e:Ent):(A47 p l n k X i).set j e=A47 p l n k (X.set j e) i:=by
 unfold A47; rw [Ti _ _ hj]
theorem ql {e:Ent} (h:A[n]?=some e) (x:Ent):(A.set n x).set n e=A:=by
 rw [Up]
 apply TJ
 intro i
 by_cases hi:n=i
 ·subst hi; rw [RO (Rx.1 h).1,h]
 ·rw [RF hi]
section
variable {h0:aR} {X:ac} {r:Loop} {L n k wb rb kb:Nat} {e2:AV} {p:Int} {l:List bc}
theorem wz (hr:cC n l p) (hk1:1<=k) (hk:k<=32) (hw:X[wb]?=some (.row 1 false [cU n p l])) (hkp:X[kb]?=some (.row 1 false [.int .i64 (k:Int)])) (hrb:X[rb]?=some (.row 1 false [e2])) (hi:i<l.length) (v0 v4 v5 v6 v7 v8 v9 v10 v11 v12 v13:AV) :
  dy X.length L r [v0,.ptr wb 0 0,.ptr rb 0 0,.ptr kb 0 0,v4,v5,v6,v7,v8,v9,v10,v11,v12,v13] [10,11] (evC (dl GC gz h0) 300 dI) (evC (dl GC gz h0) 300 gy) h0 (.func (.yield L) [] []) [wA p (l[i],i),pR p l n k l[i].f] (P47 p l n k (X++[Ent.loop r 0]) i l[i]) =
   match wk p l n k (l[i],i) with
   | none=>some (.bool true,A47 p l n k (X++[Ent.loop r 0]) (i+1))
   | some res=>some (.bool false,A47 p l n k ((X++[Ent.loop r 1]).set rb (.row 1 false [slA 1 (ax res)])) (i+1)):=by
 have hwl:=(Rx.1 hw).1
 have hkl:=(Rx.1 hkp).1
 have hrl:=(Rx.1 hrb).1
 obtain ⟨P,hP⟩:∃P,P=P47 p l n k (X++[Ent.loop r 0]) i l[i]:=⟨_,rfl⟩
 have hQ:=Hb p l n k (X++[Ent.loop r 0]) hi
 rw [<-hP] at hQ ⊢
 have hPn:P[X.length]?=some (.loop r 0):=by rw [hP,P47,RE (by simp)]; simp
 obtain ⟨Q,hQ'⟩:∃Q,Q=P++[.row 6 false [wA p (l[i],i)]]:=⟨_,rfl⟩
 have hPl:X.length<P.length:=(Rx.1 hPn).1
 have hQn:Q[X.length]?=some (.loop r 0):=by rw [hQ',RE hPl]; exact hPn
 have hQo:∀j,j<X.length->(Q.set X.length .dead)[j]?=X[j]?:=fun j hj=>by
  rw [RF (by omega),hQ',hQ,oJ _ _ _ _ _ (by simp; omega),RE hj]
 have hQv:(Q.set X.length .dead)[P.length]?=some (.row 6 false [wA p (l[i],i)]):=by
  rw [RF (by omega),hQ']; simp
 have hasg:∀v0 v1 v2 v3 v4 v5 v6 v7 v8 v9 v12 v13,run (dl GC gz h0) 300 [.code dI] [v0,v1,v2,v3,v4,v5,v6,v7,v8,v9,wA p (l[i],i),pR p l n k l[i].f,v12,v13] P=some (.normal [v0,v1,v2,v3,.ptr P.length 0 0,pR p l n k l[i].f,v6,v7,v8,v9,wA p (l[i],i),pR p l n k l[i].f,v12,v13] Q):=by
  intros
  rw [hQ']
  obtain ⟨H,hH⟩:∃H,H=pR p l n k l[i].f:=⟨_,rfl⟩
  rw [<-hH]
  unfold wA
  simp [dI]
 cases hwk:wk p l n k (l[i],i) with
 | none=>
  obtain ⟨σ,hb⟩:=zx h0 (Q:=Q.set X.length .dead) hr hk1 hk ((hQo wb hwl).trans hw) ((hQo kb hkl).trans hkp) (rb:=rb) hi hQv hwk v0 v6 v7 v8 v9 (wA p (l[i],i)) (pR p l n k l[i].f) v12 v13
  unfold dy
  simp [hPn,gx,om,hasg,hb,hQn,ql hQn]
  rw [hQ',hQ]
 | some res=>
  obtain ⟨σ,hb⟩:=wo h0 (Q:=Q.set X.length .dead) hr hk1 hk ((hQo wb hwl).trans hw) ((hQo kb hkl).trans hkp) ((hQo rb hrl).trans hrb) hi hQv hwk v0 v6 v7 v8 v9 (wA p (l[i],i)) (pR p l n k l[i].f) v12 v13
  unfold dy
  simp [hPn,gx,om,hasg,hb,hQn]
  rw [hQ',hQ,oI _ _ _ _ _ (by simp),oI _ _ _ _ _ (by simp; omega),oI _ _ _ _ _ (by simp)]
  congr 1
  rw [Tx _ _ (by omega)]
  congr 1
  simp
end
section
variable {X:ac} {n k wb rb kb wp kp:Nat} {e2:AV} {p:Int} {l:List bc}
theorem EU (hr:cC n l p) (hk1:1<=k) (hk:k<=32) (hw:X[wb]?=some (.row 1 false [cU n p l])) (hkp:X[kb]?=some (.row 1 false [.int .i64 (k:Int)])) (hrb:X[rb]?=some (.row 1 false [e2])) (hw2:X[wp]?=some (.row 1 false [cU n p l])) (hk2:X[kp]?=some (.row 1 false [.int .i64 (k:Int)])) (m:Nat) (hm:m<=l.length)
  (hno:∀i (hi:i<l.length),i<m->wk p l n k (l[i],i)=none) (res:List Int) (hyes:∀hi:m<l.length,wk p l n k (l[m],m)=some res) (v0 v4 v5 v6 v7 v8 v10 v11 v12 v13:AV) (K:List KC) :
  run (ai GC gz) 300 (.code (.rangeFunc (.var 9) [10,11] dI gy) :: K) [v0,.ptr wb 0 0,.ptr rb 0 0,.ptr kb 0 0,v4,v5,v6,v7,v8,.func (.func 148) [] [.ptr wp 0 0,.ptr kp 0 0],v10,v11,v12,v13] X =
   after (ai GC gz) 300 K (if m<l.length then .ret [v0,.ptr wb 0 0,.ptr rb 0 0,.ptr kb 0 0,v4,v5,v6,v7,v8,.func (.func 148) [] [.ptr wp 0 0,.ptr kp 0 0],v10,v11,v12,v13] (A47 p l n k ((X++[Ent.dead]).set rb (.row 1 false [slA 1 (ax res)])) (m+1))
    else .normal [v0,.ptr wb 0 0,.ptr rb 0 0,.ptr kb 0 0,v4,v5,v6,v7,v8,.func (.func 148) [] [.ptr wp 0 0,.ptr kp 0 0],v10,v11,v12,v13] (A47 p l n k (X++[Ent.dead]) l.length)):=by
 refine fZ _ _ _ _ _ fun L r=>?_
 have hrl:=(Rx.1 hrb).1
 have old:∀ {q:Nat} {e:Ent},X[q]?=some e->(X++[Ent.loop r 0])[q]?=some e:=fun {q} {e} h=>by rw [RE (Rx.1 h).1]; exact h
 have hc:=ev47 (dy X.length L r [v0,.ptr wb 0 0,.ptr rb 0 0,.ptr kb 0 0,v4,v5,v6,v7,v8,.func (.func 148) [] [.ptr wp 0 0,.ptr kp 0 0],v10,v11,v12,v13] [10,11] (evC (dl GC gz fun _ _ _=>none) 300 dI) (evC (dl GC gz fun _ _ _=>none) 300 gy) fun _ _ _=>none) L (X:=X++[Ent.loop r 0]) hr hk (old hw2) (old hk2) m hm
  (fun i hi him=>by rw [wz hr hk1 hk hw hkp hrb hi,hno i hi him]) (A47 p l n k ((X++[Ent.loop r 1]).set rb (.row 1 false [slA 1 (ax res)])) (m+1)) (fun hi=>by rw [wz hr hk1 hk hw hkp hrb hi,hyes hi])
 have hcall:jJ gz (dy X.length L r [v0,.ptr wb 0 0,.ptr rb 0 0,.ptr kb 0 0,v4,v5,v6,v7,v8,.func (.func 148) [] [.ptr wp 0 0,.ptr kp 0 0],v10,v11,v12,v13] [10,11] (evC (dl GC gz fun _ _ _=>none) 300 dI) (evC (dl GC gz fun _ _ _=>none) 300 gy) fun _ _ _=>none)
   (.func (.func 148) [] [.ptr wp 0 0,.ptr kp 0 0]) [.func (.yield L) [] []] (X++[Ent.loop r 0])=_:=hc
 show (match jJ gz _ (.func (.func 148) [] [.ptr wp 0 0,.ptr kp 0 0]) [.func (.yield L) [] []] (X++[Ent.loop r 0]) with
  | some (_,A')=>il X.length _ A'
  | none=>none)=_
 erw [hcall]
 by_cases hml:m<l.length
 ·simp only [RL hml]
  have e1:(A47 p l n k ((X++[Ent.loop r 1]).set rb (.row 1 false [slA 1 (ax res)])) (m+1))[X.length]?=some (.loop r 1):=by
   rw [oJ _ _ _ _ _ (by simp),RF (by omega)]; simp
  simp only [il,e1]
  rw [oI _ _ _ _ _ (by simp),Tx _ _ (by omega)]
  have e2:(X++[Ent.loop r 1]).set X.length .dead=X++[Ent.dead]:=by simp
  rw [e2]; rfl
 ·simp only [RN hml]
  have e1:(A47 p l n k (X++[Ent.loop r 0]) l.length)[X.length]?=some (.loop r 0):=by
   rw [oJ _ _ _ _ _ (by simp)]; simp
  simp only [il,e1]
  rw [oI _ _ _ _ _ (by simp)]
  have e2:(X++[Ent.loop r 0]).set X.length .dead=X++[Ent.dead]:=by simp
  rw [e2]; rfl
end
theorem n5 {α β:Type} (f:α->Option β) (xs:List α):(xs.findSome? f=none/\∀x∈xs,f x=none)\/∃(m:Nat) (hm:m<xs.length) (r:β),xs.findSome? f=some r/\f xs[m]=some r/\∀i (hi:i<m),f (xs[i]'(by omega))=none:=by
 induction xs with
 | nil=>exact .inl ⟨rfl,by simp⟩
 | cons x xs ih=>
  cases hx:f x with
  | some r=>
   exact .inr ⟨0,by simp,r,by simp [hx],hx,fun i hi=>by omega⟩
  | none=>
   rcases ih with ⟨h1,h2⟩ | ⟨m,hm,r,h1,h2,h3⟩
   ·refine .inl ⟨by simp [hx,h1],fun y hy=>?_⟩
    rcases Sx.1 hy with rfl | hy
    ·exact hx
    ·exact h2 y hy
   ·refine .inr ⟨m+1,by simp; omega,r,by simp [hx,h1],by simpa using h2,fun i hi=>?_⟩
    cases i with
    | zero=>exact hx
    | succ i=>simpa using h3 i (by omega)
def M27:aI:=fun args=>evP (ai GC gz) 300 wt 5 args
theorem uw:an Tryz.prog GC 53 M27:=an.of_ev (E:=ai GC gz) (ag qh) rfl KR sg 5 fun _ _ h=>⟨300,h⟩
def Ms (n:Nat) (p:Int) (l:List bc) (k kb:Nat) (A:ac):Prop:=A[0]?=some (.row 1 false [cU n p l])/\A[1]?=some (.row 1 false [.nilS])/\A[kb]?=some (.row 1 false [.int .i64 (k:Int)])/\2<=kb
theorem tj {l:List bc} (hI:Ms n p l k kb A) (hk:n<k):run (ai GC gz) 300 [.code jf] (iV (.ptr 0 0 0) (.ptr 1 0 0) (.ptr kb 0 0)) A=some (.exit 0 ((iV (.ptr 0 0 0) (.ptr 1 0 0) (.ptr kb 0 0)).set 8 (.bool false)) A):=by
 obtain ⟨h0,h1,h2,h3⟩:=hI
 obtain ⟨W1,O,hW⟩:∃W1 O,cU n p l=.fp [.int .i64 (n:Int),W1,O]:=⟨_,_,rfl⟩
 rw [hW] at h0
 have b:aq .leq (.int .i64 (k:Int)) (.int .i64 (n:Int))=some (.bool false):=by simp [aq]; omega
 simp [jf,h0,h2,b,-aq]
theorem tp {l:List bc} {kb:Nat} (hr:cC n l p) (hI:Ms n p l k kb A) (hk1:1<=k) (hk:k<=n) :
  (eK p l n k=none/\∃A' kb' σ',run (ai GC gz) 300 [.code jf] (iV (.ptr 0 0 0) (.ptr 1 0 0) (.ptr kb 0 0)) A=some (.normal σ' A')/\clear iB σ'=iV (.ptr 0 0 0) (.ptr 1 0 0) (.ptr kb' 0 0)/\Ms n p l (k+1) kb' A') \/
  (∃res,eK p l n k=some res/\∃A' v0 v3 v4 v5 v6 v7 v8 v9 v10 v11 v12 v13,run (ai GC gz) 300 [.code jf] (iV (.ptr 0 0 0) (.ptr 1 0 0) (.ptr kb 0 0)) A=some (.ret [v0,.ptr 0 0 0,.ptr 1 0 0,v3,v4,v5,v6,v7,v8,v9,v10,v11,v12,v13] A')/\A'[1]?=some (.row 1 false [slA 1 (ax res)])):=by
 obtain ⟨h0,h1,h2,h3⟩:=hI
 have hn32:=hr.1.1
 have h1l:=(Rx.1 h1).1
 have h2l:=(Rx.1 h2).1
 obtain ⟨X,hX⟩:∃X,X=A++[.row 1 false [cU n p l],.row 1 false [.int .i64 (k:Int)]]:=⟨_,rfl⟩
 have hXo:∀j,j<A.length->X[j]?=A[j]?:=fun j hj=>by rw [hX,RE hj]
 have x0:=(hXo 0 (by omega)).trans h0
 have x1:=(hXo 1 h1l).trans h1
 have x2:=(hXo kb h2l).trans h2
 have x3:X[A.length]?=some (.row 1 false [cU n p l]):=by rw [hX]; simp
 have x4:X[A.length+1]?=some (.row 1 false [.int .i64 (k:Int)]):=by rw [hX,RS (by omega)]; simp
 have hXl:X.length=A.length+2:=by rw [hX]; simp
 have b:aq .leq (.int .i64 (k:Int)) (.int .i64 (n:Int))=some (.bool true):=by simp [aq]; omega
 have c42:H42 (fun _ _ _=>none) [cU n p l,.int .i64 (k:Int)] A=some (.func (.func 148) [] [.ptr A.length 0 0,.ptr (A.length+1) 0 0],X):=by
  rw [hX]; exact ev42 _ _ _ _
 have rg:=fun m hm hno res hyes=>EU (X:=X) (wb:=0) (rb:=1) (kb:=kb) (wp:=A.length) (kp:=A.length+1) hr hk1 (by omega) x0 x2 x1 x3 x4 m hm hno res hyes .undef .undef .undef .undef .undef (.bool true) .undef .undef .undef .undef
 have b3:=bh k (by omega)
 obtain ⟨k1,hk1'⟩:∃k1:Nat,k1=k+1:=⟨_,rfl⟩
 rw [<-hk1'] at b3 ⊢
 obtain ⟨W1,O,hW⟩:∃W1 O,cU n p l=.fp [.int .i64 (n:Int),W1,O]:=⟨_,_,rfl⟩
 have hlk:aH gz 98=some H42:=rfl
 have hnl:=js l
 rcases n5 (wk p l n k) (num l) with ⟨q1,q2⟩ | ⟨m,hm,res,q1,q2,q3⟩
 ·left
  refine ⟨q1,?_⟩
  have rg1:=rg l.length (RT _) (fun i hi _=>q2 _ (SF (fA l i hi))) [] (fun h=>absurd h (Nat.lt_irrefl _))
  rw [RN (Nat.lt_irrefl _)] at rg1
  obtain ⟨D,hD⟩:∃D,D=A47 p l n k (X++[Ent.dead]) l.length:=⟨_,rfl⟩
  rw [<-hD] at rg1
  have hDo:∀j,j<X.length->D[j]?=X[j]?:=fun j hj=>by rw [hD,oJ _ _ _ _ _ (by simp; omega),RE hj]
  have hDl:X.length<=D.length:=by rw [hD]; simp [A47]
  have d2:=(hDo kb (by omega)).trans x2
  refine ⟨D++[.row 1 false [.int .i64 (k1:Int)]],D.length,[.undef,.ptr 0 0 0,.ptr 1 0 0,.ptr D.length 0 0,.undef,.undef,.undef,.undef,.undef,.undef,.undef,.undef,.undef,.int .i64 (k:Int)],?_,y9,?_,?_,?_,by omega⟩
  ·rw [hW] at h0 c42
   obtain ⟨Z,hZ⟩:∃Z,Z=A.length+1:=⟨_,rfl⟩
   obtain ⟨Y,hY⟩:∃Y,Y=A.length:=⟨_,rfl⟩
   rw [<-hZ,<-hY] at c42 rg1
   simp [jf,h0,h2,b,c42,rg1,d2,b3,-aq]
  ·rw [RE (by omega),hDo 0 (by omega)]; exact x0
  ·rw [RE (by omega),hDo 1 (by omega)]; exact x1
  ·simp
 ·right
  refine ⟨res,q1,?_⟩
  rw [hnl] at hm
  have hnm:∀i (hi:i<l.length),(num l)[i]'(by omega)=(l[i],i):=fun i hi=>by
   have:=fA l i hi
   rw [RD (by omega)] at this
   exact S4 this
  have rg1:=rg m (by omega) (fun i hi him=>by rw [<-hnm i hi]; exact q3 i him) res (fun hi=>by rw [<-hnm m hi]; exact q2)
  rw [RL hm] at rg1
  obtain ⟨D,hD⟩:∃D,D=A47 p l n k ((X++[Ent.dead]).set 1 (.row 1 false [slA 1 (ax res)])) (m+1):=⟨_,rfl⟩
  rw [<-hD] at rg1
  refine ⟨D,.undef,.ptr kb 0 0,.undef,.undef,.undef,.undef,.bool true,.func (.func 148) [] [.ptr A.length 0 0,.ptr (A.length+1) 0 0],.undef,.undef,.undef,.undef,?_,?_⟩
  ·rw [hW] at h0 c42
   obtain ⟨Z,hZ⟩:∃Z,Z=A.length+1:=⟨_,rfl⟩
   obtain ⟨Y,hY⟩:∃Y,Y=A.length:=⟨_,rfl⟩
   rw [<-hZ,<-hY] at c42 rg1 ⊢
   simp [jf,h0,h2,b,c42,rg1,-aq]
  ·rw [hD,oJ _ _ _ _ _ (by simp; omega),RO (by simp; omega)]
theorem vC {l:List bc} (hr:cC n l p):M27 [cU n p l]=some (slA 1 (ax ((qK p l n).getD []))):=by
 have hn32:=hr.1.1
 obtain ⟨o,h1,h2⟩:=gk (E:=ai GC gz) (fuel:=300) (a:=jf) (mask:=iB)
  (fun κ σ A=>∃k kb,k+κ=n+1/\1<=k/\clear iB σ=iV (.ptr 0 0 0) (.ptr 1 0 0) (.ptr kb 0 0)/\Ms n p l k kb A/\∀j,j+1<k->eK p l n (j+1)=none)
  (fun o=>(∃k res A' v0 v3 v4 v5 v6 v7 v8 v9 v10 v11 v12 v13,k<n/\eK p l n (k+1)=some res/\(∀j,j<k->eK p l n (j+1)=none)/\o=.ret [v0,.ptr 0 0 0,.ptr 1 0 0,v3,v4,v5,v6,v7,v8,v9,v10,v11,v12,v13] A'/\A'[1]?=some (.row 1 false [slA 1 (ax res)])) \/
   ((∀j,j<n->eK p l n (j+1)=none)/\∃kb A',o=.exit 0 ((iV (.ptr 0 0 0) (.ptr 1 0 0) (.ptr kb 0 0)).set 8 (.bool false)) A'/\A'[1]?=some (.row 1 false [.nilS])))
  (by
   rintro κ σ A ⟨k,kb,hk,hk1,hσ,hI,hno⟩
   rw [hσ]
   by_cases hkn:k<=n
   ·rcases tp hr hI hk1 hkn with ⟨q1,A',kb',σ',c1,c2,c3⟩ | ⟨res,q1,A',v0,v3,v4,v5,v6,v7,v8,v9,v10,v11,v12,v13,c1,c2⟩
    ·refine .inl ⟨σ',A',c1,κ-1,by omega,k+1,kb',by omega,by omega,c2,c3,fun j hj=>?_⟩
     by_cases hjk:j+1=k
     ·rw [hjk]; exact q1
     ·exact hno j (by omega)
    ·refine .inr ⟨_,c1,(fun _ _ h=>by cases h),.inl ⟨k-1,res,A',v0,v3,v4,v5,v6,v7,v8,v9,v10,v11,v12,v13,by omega,by rw [show k-1+1=k by omega]; exact q1,fun j hj=>hno j (by omega),rfl,c2⟩⟩
   ·refine .inr ⟨_,tj hI (by omega),(fun _ _ h=>by cases h),.inr ⟨fun j hj=>hno j (by omega),kb,A,rfl,hI.2.1⟩⟩)
  300 n (iV (.ptr 0 0 0) (.ptr 1 0 0) (.ptr 2 0 0)) [.row 1 false [cU n p l],.row 1 false [.nilS],.row 1 false [.int .i64 1]] (by omega) ⟨1,2,by omega,by omega,y9,⟨rfl,rfl,rfl,by omega⟩,fun j hj=>by omega⟩
 have hc:∀k res,k<n->eK p l n (k+1)=some res->(∀j,j<k->eK p l n (j+1)=none)->qK p l n=some res:=fun k res hk h1 h2=>by
  unfold qK
  rcases n5 (fun j=>eK p l n (j+1)) (List.range n) with ⟨q1,q2⟩ | ⟨m,hm,r,q1,q2,q3⟩
  ·have:=q2 k (by simp; omega)
   rw [h1] at this; cases this
  ·simp only [List.getElem_range] at q2 q3
   simp only [List.length_range] at hm
   rw [q1]
   rcases Nat.lt_trichotomy m k with h | h | h
   ·rw [h2 m h] at q2; cases q2
   ·rw [h] at q2; rw [h1] at q2; exact q2.symm
   ·rw [q3 k h] at h1; cases h1
 have hc2:(∀j,j<n->eK p l n (j+1)=none)->qK p l n=none:=fun h=>by
  unfold qK
  rw [List.findSome?_eq_none_iff]
  intro j hj
  exact h j (by simpa using hj)
 obtain ⟨W1,O,hW⟩:∃W1 O,cU n p l=.fp [.int .i64 (n:Int),W1,O]:=⟨_,_,rfl⟩
 unfold M27
 rw [aT _ _ rfl]
 rw [hW] at h1 ⊢
 rcases h2 with ⟨k,res,A',v0,v3,v4,v5,v6,v7,v8,v9,v10,v11,v12,v13,hk,q1,q2,rfl,q3⟩ | ⟨q1,kb,A',rfl,q3⟩
 ·rw [hc k res hk q1 q2]
  simp only [So]
  have hfz:frz A' 5 (slA 1 (ax res))=slA 1 (ax res):=tL _ _ _ _
  have hR2:slA 1 (ax res)=.nilS\/∃T,slA 1 (ax res)=.fs 1 T:=by
   cases ax res with
   | nil=>exact .inl rfl
   | cons x r=>exact .inr ⟨_,rfl⟩
  rcases hR2 with e | ⟨T,e⟩
  ·rw [e] at q3 ⊢
   simp [wt,yb h1,q3]
  ·rw [e] at q3 ⊢
   simp [wt,yb h1,q3]
 ·rw [hc2 q1]
  have hset:(A'.set 1 (.row 1 false [.nilS]))[1]?=some (.row 1 false [.nilS]):=RO (Rx.1 q3).1
  simp [wt,yb h1,q3,hset,slA,ax]
def uX:List (FuncId × aD):=[(51,ck 4 M25),(52,ck 4 M26),(53,aG 4 M27)]
@[simp] theorem OR:aH uX 51=some (ck 4 M25):=rfl
@[simp] theorem OQ:aH uX 52=some (ck 4 M26):=rfl
@[simp] theorem OP:aH uX 53=some (aG 4 M27):=rfl
theorem nD:∀f M,aH uX f=some M->ak Tryz.prog GC f M:=ae (ak.of_pureF kM 4) (ae (ak.of_pureF qf 4) (ae (ak.of_pure uw 4) aw))
def H14:aD:=fun _=>bp (ai GC uX) 0 kR
theorem lG:ak Tryz.prog GC 17 H14:=(aM (ag nD) rfl CW mh aW.nil).y
open Classical in
def lvM (n:Int) (l:List bc) (p:Int):List Int × List Int × Bool:=
 if cC n l p then (if (cA (lar p l) n.toNat).2=true then ((cA (lar p l) n.toNat).1,[],true) else ([],(qK p l n.toNat).getD [],false)) else ([],[],false)
def lvT (r:List Int × List Int × Bool):AV:=.tup [slA 1 (ax r.1),slA 1 (ax r.2.1),.bool r.2.2]
theorem nE (xs:List Int):slA 1 (ax xs)=.nilS\/∃T,slA 1 (ax xs)=.fs 1 T:=by
 cases xs with
 | nil=>exact .inl rfl
 | cons x r=>exact .inr ⟨_,rfl⟩
open Classical in
theorem De (h:aR) {a':AV} {l:List bc} (ha:frz A 4 a=a') (hl:cw a'=some l) (n p:Int):H14 h [.int .i64 n,a,.int .i64 p] A=some (lvT (lvM n l p),A):=by
 have m1:M25 [.int .i64 n,a',.int .i64 p]=some (if cC n l p then .tup [cU n.toNat p l,.bool true] else .tup [.nilP,.bool false]):=by simp only [M25,hl,SE]
 unfold H14
 rw [aX _ _ rfl]
 by_cases hr:cC n l p
 rotate_left
 ·rw [RN hr] at m1
  have e:lvM n l p=([],[],false):=RN hr
  rw [e]
  simp [kR,ha,m1,aP,dw,lvT,slA,ax,-frz]
 rw [RL hr] at m1
 obtain ⟨m,rfl⟩:∃m:Nat,n=(m:Int):=⟨n.toNat,by have:=hr.1.1; omega⟩
 rw [RY] at m1
 have m2:=vD hr
 have m3:=vC hr
 obtain ⟨W1,O,hW⟩:∃W1 O,cU m p l=.fp [.int .i64 (m:Int),W1,O]:=⟨_,_,rfl⟩
 rw [hW] at m1 m2 m3
 have hfw:∀B,frz B 4 (.fp [.int .i64 (m:Int),W1,O])=.fp [.int .i64 (m:Int),W1,O]:=fun _=>rfl
 have hnr:bu 4 (.fp [.int .i64 (m:Int),W1,O])=true:=rfl
 by_cases hok:(cA (lar p l) m).2=true
 ·have e:lvM m l p=((cA (lar p l) m).1,[],true):=by
   unfold lvM; rw [RL hr,RY,RL hok]
  rw [e]
  rw [hok] at m2
  obtain ⟨xs,hxs⟩:∃xs,xs=(cA (lar p l) m).1:=⟨_,rfl⟩
  rw [<-hxs] at m2 ⊢
  obtain ⟨T,hT⟩:∃T,T=slA 1 (ax xs):=⟨_,rfl⟩
  rw [<-hT] at m2
  simp [kR,ha,m1,m2,aP,hfw,dw,lvT,<-hT,-frz]
  simp [slA,ax]
 ·have e:lvM m l p=([],(qK p l m).getD [],false):=by
   unfold lvM; rw [RL hr,RY,RN hok]
  rw [e]
  rw [Bool.not_eq_true] at hok
  rw [hok] at m2
  obtain ⟨S,hS⟩:∃S,S=slA 1 (ax (cA (lar p l) m).1):=⟨_,rfl⟩
  rw [<-hS] at m2
  obtain ⟨T,hT⟩:∃T,T=slA 1 (ax ((qK p l m).getD [])):=⟨_,rfl⟩
  rw [<-hT] at m3
  simp [kR,ha,m1,m2,m3,aP,hfw,dw,lvT,<-hT,-frz]
  simp [slA,ax]
theorem bj (A:ac) (n:Nat) (b:Bool):frz A n (.bool b)=.bool b:=by cases n <;> rfl
def lj (x:Int):Bool:=!decide (0<=x/\x<=1000000000)
def M35:aI:=fun args=>match args with
 | [.int .i64 x]=>some (.bool (lj x))
 | _=>none
theorem xa:an Tryz.prog GC 59 M35:=by
 refine an.of_ev (E:=ai GC fsW) (ag uA) rfl O7 yN 1 ?_
 intro args r h
 unfold M35 at h
 split at h
 ·rename_i x
  injection h with h; subst h
  refine ⟨0,?_⟩
  have m:=kK x 0 1000000000
  unfold lj
  obtain ⟨d,hd⟩:∃d,d=decide (0<=x/\x<=1000000000):=⟨_,rfl⟩
  rw [<-hd] at m ⊢
  rw [aT _ _ rfl]
  simp [Hf,m,-aq]
 ·cases h
def lm (n:Nat) (x:Int):Bool:=!decide (0<=x/\x<=(n:Int)-1)
def M46:aI:=fun args=>evP (ai GC fsW) 0 E9 1 args
theorem w7:an Tryz.prog GC 100 M46:=an.of_ev (E:=ai GC fsW) (ag uA) rfl O2 yI 1 fun _ _ h=>⟨0,h⟩
theorem zR {l:List bc} (hl:l.length<=200) (x:Int):M46 [.int .i64 x,.fp [cU n p l]]=some (.bool (lm l.length x)):=by
 have m:=kK x 0 ((l.length:Int)-1)
 have hlen2:az (slA 6 (wAs p (num l)))=some (.int .i64 (l.length:Int)):=by rw [qw,qd]
 have b0:aq .sub (.int .i64 (l.length:Int)) (.int .i64 1)=some (.int .i64 ((l.length:Int)-1)):=by
  simp only [aq]; rw [RL trivial,eg (by unfold inI; omega)]
 obtain ⟨W1,O,hW,hW1⟩:∃W1 O,cU n p l=.fp [.int .i64 (n:Int),W1,O]/\W1=slA 6 (wAs p (num l)):=⟨_,_,rfl,rfl⟩
 rw [<-hW1] at hlen2
 rw [hW]
 unfold lm
 obtain ⟨k,hk⟩:∃k,k=(l.length:Int)-1:=⟨_,rfl⟩
 rw [<-hk] at m b0 ⊢
 obtain ⟨d,hd⟩:∃d,d=decide (0<=x/\x<=k):=⟨_,rfl⟩
 rw [<-hd] at m ⊢
 unfold M46
 rw [aT _ _ rfl]
 simp [E9,hlen2,b0,m,-aq,-az]
def Ae:List (FuncId × aD):=[(59,aG 4 M35),(100,aG 4 M46)]
@[simp] theorem Ns:aH Ae 59=some (aG 4 M35):=rfl
@[simp] theorem Nr:aH Ae 100=some (aG 4 M46):=rfl
theorem En:∀f M,aH Ae f=some M->ak Tryz.prog GC f M:=ae (ak.of_pure xa 4) (ae (ak.of_pure w7 4) aw)
def M45:aI:=fun args=>evP (ai GC Ae) 300 ws 1 args
theorem w8:an Tryz.prog GC 101 M45:=an.of_ev (E:=ai GC Ae) (ag En) rfl Mi vj 1 fun _ _ h=>⟨300,h⟩
theorem C3 {f:FuncId} {cap:List AV} {Mf:aI} (hlk:aH Ae f=some (aG 4 Mf)) {q:Int->Bool} (hm:∀x∈xs,∀A,Mf (.int .i64 x :: cap.map (frz A 4))=some (.bool (q x))) {b:AV} (hb:SlA 1 (ax xs) b) (hl:xs.length<=200) :
  M45 [b,.func (.func f) [] cap]=some (.int .i64 (cZ q xs)):=by
 have hlen:=hb.len
 rw [aE] at hlen
 have round:∀(A:ac) (i:Nat) (hi:i<xs.length),run (ai GC Ae) 300 [.code ei] (eU b (.func (.func f) [] cap) (.int .i64 (xs.length:Int)) (.int .i64 (i:Int))) A =
   if q xs[i]=false then some (.normal (eU b (.func (.func f) [] cap) (.int .i64 (xs.length:Int)) (.int .i64 ((i+1:Nat):Int))) A) else some (.ret [b,.func (.func f) [] cap,.int .i64 (i:Int),.int .i64 (i:Int),.int .i64 (xs.length:Int),.int .i64 (i:Int),.bool true,.bool true] A):=fun A i hi=>by
  have x1:=hb.int (A:=A) _ _ (RD hi) .i64
  have m:=hm _ (RM hi) A
  have b1:=bC i xs.length .i64
  rw [RJ hi] at b1
  have b3:=bh i (by omega)
  obtain ⟨i1,hi1⟩:∃i1:Nat,i1=i+1:=⟨_,rfl⟩
  rw [<-hi1] at b3 ⊢
  obtain ⟨d,hd⟩:∃d,d=q xs[i]:=⟨_,rfl⟩
  rw [<-hd] at m ⊢
  cases d with
  | false=>simp [ei,x1,hlk,m,b1,b3,-aq,-au,-az]
  | true=>simp [ei,x1,hlk,m,b1,-aq,-au,-az]
 unfold M45
 rw [aT _ _ rfl]
 rcases cW (E:=ai GC Ae) (fuel:=300) (a:=ei) (mask:=eD) (fun i=>eU b (.func (.func f) [] cap) (.int .i64 (xs.length:Int)) (.int .i64 (i:Int))) (fun _=>[]) xs.length (fun i=>¬ ∀hi:i<xs.length,q xs[i]=false)
  (oF:=fun i=>.ret [b,.func (.func f) [] cap,.int .i64 (i:Int),.int .i64 (i:Int),.int .i64 (xs.length:Int),.int .i64 (i:Int),.bool true,.bool true] []) (oE:=.exit 0 ((eU b (.func (.func f) [] cap) (.int .i64 (xs.length:Int)) (.int .i64 (xs.length:Int))).set 6 (.bool false)) [])
  (fun _=>yZ) (fun _ _ _ h=>by cases h) (fun _ _ h=>by cases h)
  (fun i hi hp=>by
   rw [round [] i hi]
   exact RL (Se.1 hp hi))
  (fun i hi hp=>by
   rw [round [] i hi]
   exact RN fun h=>hp fun _=>h)
  (by simp [ei]) (show xs.length<300 by omega) with ⟨i,hi,hp,hj,lp⟩ | ⟨hp,lp⟩
 ·have lp:cc (evC (ai GC Ae) 300 ei) eD 300 (eU b (.func (.func f) [] cap) (.int .i64 (xs.length:Int)) (.int .i64 0)) []=_:=lp
  have e:cZ q xs=(i:Int):=bJ hi (by
   cases h':q xs[i] with
   | true=>rfl
   | false=>exact absurd (fun _=>h') hp) (fun j hj'=>Se.1 (hj j hj') (by omega))
  rw [e]
  simp [ws,hlen,uU lp,-aq,-az]
 ·have lp:cc (evC (ai GC Ae) 300 ei) eD 300 (eU b (.func (.func f) [] cap) (.int .i64 (xs.length:Int)) (.int .i64 0)) []=_:=lp
  have e:cZ q xs = -1:=bS fun i hi=>Se.1 (hp i hi) hi
  rw [e]
  simp [ws,hlen,uU lp,-aq,-az]
def L4:List (FuncId × aD):=[(101,aG 4 M45)]
@[simp] theorem NB:aH L4 101=some (aG 4 M45):=rfl
theorem Et:∀f M,aH L4 f=some M->ak Tryz.prog GC f M:=ae (ak.of_pure w8 4) aw
def M36:aI:=fun args=>evP (ai GC L4) 0 AN 1 args
theorem uu:an Tryz.prog GC 61 M36:=an.of_ev (E:=ai GC L4) (ag Et) rfl Mj vk 1 fun _ _ h=>⟨0,h⟩
theorem C4 {F:AV} {q:Int->Bool} {b:AV} (hb:SlA 1 (ax xs) b) (hF:∀A,frz A 4 F=F) (h:M45 [b,F]=some (.int .i64 (cZ q xs))):M36 [b,F]=some (.bool (xs.any q)):=by
 have b1:=gW (cZ q xs)
 rw [cq] at b1
 have f1:∀A n,frz A n b=b:=fun A n=>hb.frz n
 obtain ⟨z,hz⟩:∃z,z=cZ q xs:=⟨_,rfl⟩
 rw [<-hz] at h b1
 unfold M36
 rw [aT _ _ rfl]
 simp [AN,f1,hF,h,b1,bP,bj,-aq,-frz]
def fC (n:Int) (l:List bc) (p:Int) (s:List Int):Prop:=cC n l p/\(s.length:Int)=n/\(∀x∈s,0<=x/\x<=1000000000)/\jM (lar p l) s
open Classical in
def M19:aI:=fun args=>match args with
 | [.int .i64 n,a,.int .i64 p,b]=>match cw a,lW b with
  | some l,some s=>some (.bool (decide (fC n l p s)))
  | _,_=>none
 | _=>none
def mS:List (FuncId × aD):=[(51,ck 4 M25),(61,aG 4 M36),(62,fun _=>bp (ai GC []) 300 xM),(63,fun _=>bp (ai GC []) 0 tx)]
@[simp] theorem OC:aH mS 51=some (ck 4 M25):=rfl
@[simp] theorem OB:aH mS 61=some (aG 4 M36):=rfl
@[simp] theorem Oz:aH mS 62=some (fun _=>bp (ai GC []) 300 xM):=rfl
@[simp] theorem Oy:aH mS 63=some (fun _=>bp (ai GC []) 0 tx):=rfl
theorem s5:∀f M,aH mS f=some M->ak Tryz.prog GC f M:=ae (ak.of_pureF kM 4) (ae (ak.of_pure uu 4) (ae BS (ae lE aw)))
theorem yj (A:ac):frz A 4 (.func (.func 59) [] [])=.func (.func 59) [] []:=rfl
theorem p6 (s:List Int):s.any lj=false↔∀x∈s,0<=x/\x<=1000000000:=by
 rw [Td]; unfold lj; simp
open Classical in
theorem uz:an Tryz.prog GC 20 M19:=by
 refine an.of_ev (E:=ai GC mS) (ag s5) rfl Pd yT 1 ?_
 intro args r h
 unfold M19 at h
 split at h
 rotate_left
 ·cases h
 rename_i n a p b
 split at h
 rotate_left
 ·cases h
 rename_i l s hl hs
 injection h with h; subst h
 refine ⟨0,?_⟩
 obtain ⟨hb,_,hsl⟩:=jA hs
 have f1:∀A n,frz A n a=a:=fun A n=>eG hl A n
 have f2:∀A n,frz A n b=b:=fun A n=>hb.frz n
 have f3:=fm hl
 have f4:=lV hs
 have m1:M25 [.int .i64 n,a,.int .i64 p]=some (if cC n l p then .tup [cU n.toNat p l,.bool true] else .tup [.nilP,.bool false]):=by simp only [M25,hl,SE]
 have hlen:=hb.len
 have hlen':(s.map (AV.int .i64)).length=s.length:=by simp
 rw [hlen'] at hlen
 rw [aT _ _ rfl]
 by_cases hr:cC n l p
 rotate_left
 ·rw [RN hr] at m1
  rw [RH (show ¬ fC n l p s from fun h=>hr h.1)]
  simp [Ac,f1,m1,aP,bj,-frz,-az]
 rw [RL hr] at m1
 have b1:aq .eql (.int .i64 (s.length:Int)) (.int .i64 n)=some (.bool (decide ((s.length:Int)=n))):=by simp [aq]
 obtain ⟨m,rfl⟩:∃m:Nat,n=(m:Int):=⟨n.toNat,by have:=hr.1.1; omega⟩
 rw [RY] at m1
 obtain ⟨W1,O,hW⟩:∃W1 O,cU m p l=.fp [.int .i64 (m:Int),W1,O]:=⟨_,_,rfl⟩
 by_cases h1:(s.length:Int)=(m:Int)
 rotate_left
 ·rw [RH h1] at b1
  rw [RH (show ¬ fC m l p s from fun h=>h1 h.2.1)]
  rw [hW] at m1
  simp [Ac,f1,m1,hlen,b1,aP,bj,-frz,-az,-aq]
 rw [RJ h1] at b1
 have hm32:=hr.1.1
 have m45:=C3 (f:=59) (cap:=[]) (Mf:=M35) rfl (q:=lj) (xs:=s) (fun x _ A=>rfl) hb (by omega)
 have m36:=C4 (q:=lj) hb (fun A=>rfl) m45
 by_cases h2:∀x∈s,0<=x/\x<=1000000000
 rotate_left
 ·have h2':s.any lj=true:=by
   cases h:s.any lj with
   | true=>rfl
   | false=>exact absurd ((p6 s).1 h) h2
  rw [h2'] at m36
  rw [RH (show ¬ fC m l p s from fun h=>h2 h.2.2.1)]
  rw [hW] at m1
  simp [Ac,f1,f2,m1,hlen,b1,m36,aP,bj,bP,yj,-frz,-az,-aq]
 rw [(p6 s).2 h2] at m36
 have hsm:s.length=m:=by omega
 have hne:s≠[]:=by
  intro h
  rw [h] at hsm
  simp at hsm; omega
 have c38:=L9 (ai GC []) 0 (A:=[]) (a:=b) (xs:=s) (.inl hb) hne (by omega)
 obtain ⟨A',c37,_⟩:=zo (A:=[.dead,.row 1 false (ax s)]) (id:=1) hsm hr.2 hr.1.2.2 (by omega) hr.1.2.1 (hi:=1000000000) (fun v hv=>by
  have:s.getD v 0∈s:=by rw [RC,RD hv]; simp
  have:=h2 _ this
  omega) (by omega) rfl
 have e:decide (fC m l p s)=!upL (lar p l) s:=by
  cases hu:upL (lar p l) s with
  | true=>
   exact RH fun h=>by rw [ng h.2.2.2] at hu; cases hu
  | false=>
   exact RJ ⟨hr,h1,h2,(fI hu).2⟩
 rw [e]
 rw [hsm] at c38
 rw [hW] at m1 c37
 simp at c38
 simp [Ac,f1,f2,m1,hlen,b1,m36,c38,c37,aP,bj,bP,yj,-frz,-az,-aq]
def tZ (l:List bc) (i:Int):bc:=l.getD i.toNat ⟨0,0,0,0⟩
def exL (p:Int) (l:List bc):List Int->Int->Int->Int->Option (Int × Int)
 | [],_,s,t=>some (s,t)
 | i :: r,at_,s,t=>if (tZ l i).f=at_ then exL p l r (tZ l i).t (s+(tZ l i).len p) (t+(tZ l i).k) else none
def tE (l:List bc) (xs:List Int):Prop:=∀x∈xs,0<=x/\x<=(l.length:Int)-1
instance (l:List bc) (xs:List Int):Decidable (tE l xs):=inferInstanceAs (Decidable (∀x∈xs,_))
def exM (p:Int) (l:List bc) (xs:List Int):Option (Int × Int):=if (1<=xs.length/\xs.length<=200)/\tE l xs then exL p l xs (tZ l (xs.getLastD 0)).t 0 0 else none
theorem p7 (l:List bc) (s:List Int):s.any (lm l.length)=false↔tE l s:=by
 rw [Td]; unfold lm tE; simp
theorem qS {l:List bc} {x:Int} (h:0<=x/\x<=(l.length:Int)-1):∃(j:Nat) (hj:j<l.length),x=(j:Int)/\tZ l x=l[j]:=by
 refine ⟨x.toNat,by omega,by omega,?_⟩
 unfold tZ
 rw [RC,RD (by omega)]; rfl
def Qb:MC:=.region [.H 1 12 14,.b 1 0,.c 8 1]
def Qa:MC:=.region [.o 1 2,.J 0,.l 1 1,.b 1 2,.a 8,.g 6 3 4,.F 6 5,.u 9 6,.j 6 9 6]
def P9:MC:=.region [.d 0 9,.l 0 0,.b 1 1,.a 7,.bb 16 2 3]
def P8:MC:=.region [.e 3 0,.e 4 0,.f 5]
def P7:MC:=.region [.a 3,.d 5 9,.b 1 1,.v 0 2,.a 4,.d 0 9,.l 3 5,.b 1 6,.v 4 7,.d 0 9,.l 1 9,.b 1 10,.c 3 3,.c 4 8,.c 7 11]
theorem CY:nS=.seq (.region [.w 15 14 13]) (.seq (.cond (.var 15) .skip (.exit 0)) (.seq (.seq (.block 1 (.seq Qb (.seq Qa (.seq (.seq P9 (.cond (.var 16) (.seq P8 .ret) .skip)) P7)))) (.kill [0,1,5,6,8,9,10,11,15,16])) (.region [.m 14 1,.c 14 0]))):=rfl
theorem ML (E:Env) (fuel:Nat) (K:List KC) (X:MC) {A:ac} {l:List bc} (hc:SlA 1 (ax xs) c) (hi:i<xs.length) (hx:xs[i]=(j:Int)) (hj:j<l.length) (hA:A[0]?=some (.row 1 false [cU n p l])) (v3 v4 v7 v13 v15 v16:AV) :
  run E fuel (.code (.seq Qb (.seq Qa X)) :: K) [.undef,.undef,.ptr 0 0 0,v3,v4,.undef,.undef,v7,.undef,.undef,.undef,.undef,c,v13,.int .i64 (i:Int),v15,v16] A =
   run E fuel (.code X :: K) [.undef,.undef,.ptr 0 0 0,v3,v4,.undef,.undef,v7,.int .i64 (j:Int),.ptr A.length 0 0,.undef,.undef,c,v13,.int .i64 (i:Int),v15,v16] (A++[.row 6 false [wA p (l[j],j)]]):=by
 have x1:=hc.int (A:=A) _ _ (RD hi) .i64
 rw [hx] at x1
 have x2:=q7 p hj A .i64
 obtain ⟨W1,O,hW,hW1⟩:∃W1 O,cU n p l=.fp [.int .i64 (n:Int),W1,O]/\W1=slA 6 (wAs p (num l)):=⟨_,_,rfl,rfl⟩
 rw [<-hW1] at x2
 rw [hW] at hA
 simp [Qb,Qa,x1,x2,hA,wA,-au]
theorem EL (E:Env) (fuel:Nat) {n:Nat} {l:List bc} (hr:cC n l p) (hc:SlA 1 (ax xs) c) (hl:xs.length<=200) (hin:tE l xs) (hi:i<xs.length) (hA:A[0]?=some (.row 1 false [cU n p l])) {s t at_:Int} (hs : -(3000000*(i:Int))<=s/\s<=3000000*i) (ht : -(2*(i:Int))<=t/\t<=2*i) :
  ∃A',A'[0]?=some (.row 1 false [cU n p l])/\∃v8 v9 v15 v16,run E fuel [.code nS] (nm (.ptr 0 0 0) (.int .i64 s) (.int .i64 t) (.int .i64 at_) c (.int .i64 (xs.length:Int)) (.int .i64 (i:Int))) A =
   if (tZ l xs[i]).f=at_ then some (.normal (nm (.ptr 0 0 0) (.int .i64 (s+(tZ l xs[i]).len p)) (.int .i64 (t+(tZ l xs[i]).k)) (.int .i64 (tZ l xs[i]).t) c (.int .i64 (xs.length:Int)) (.int .i64 ((i+1:Nat):Int))) A')
   else some (.ret [.undef,.undef,.ptr 0 0 0,.int .i64 0,.int .i64 0,.bool false,.undef,.int .i64 at_,v8,v9,.undef,.undef,c,.int .i64 (xs.length:Int),.int .i64 (i:Int),v15,v16] A'):=by
 obtain ⟨j,hj,hx,he⟩:=qS (hin _ (RM hi))
 rw [he]
 have hmem:=hr.1.2.2 _ (RM hj)
 have hn32:=hr.1.1
 have hlen:=gV (n:=32) (a:=l[j]) ⟨⟨by have:=hmem.1; omega,by have:=hmem.1; omega⟩,⟨by have:=hmem.2.1; omega,by have:=hmem.2.1; omega⟩,hmem.2.2.1,hmem.2.2.2⟩ hr.2
 have htok:=hmem.2.2.2
 have r1:=fun K X=>ML E fuel K X hc hi hx hj hA (.int .i64 s) (.int .i64 t) (.int .i64 at_) (.int .i64 (xs.length:Int)) (.bool true) .undef
 obtain ⟨B,hB⟩:∃B,B=A++[.row 6 false [wA p (l[j],j)]]:=⟨_,rfl⟩
 have hBv:B[A.length]?=some (.row 6 false [wA p (l[j],j)]):=by rw [hB]; simp
 have hB0:B[0]?=some (.row 1 false [cU n p l]):=by rw [hB,RE (Rx.1 hA).1]; exact hA
 rw [<-hB] at r1
 unfold wA at hBv
 simp only at hBv
 have b1:=bC i xs.length .i64
 rw [RJ hi] at b1
 have b3:=bh i (by omega)
 obtain ⟨i1,hi1⟩:∃i1:Nat,i1=i+1:=⟨_,rfl⟩
 rw [<-hi1] at b3 ⊢
 have b2:aq .neq (.int .i64 l[j].f) (.int .i64 at_)=some (.bool (decide (l[j].f≠at_))):=by simp [aq]
 obtain ⟨w,hw⟩:∃w,w=l[j].len p:=⟨_,rfl⟩
 rw [<-hw] at hlen hBv ⊢
 have b4:aq .add (.int .i64 s) (.int .i64 w)=some (.int .i64 (s+w)):=by
  simp only [aq]; rw [RL trivial,eg (by unfold inI; omega)]
 have b5:aq .add (.int .i64 t) (.int .i64 l[j].k)=some (.int .i64 (t+l[j].k)):=by
  simp only [aq]; rw [RL trivial,eg (by unfold inI; omega)]
 obtain ⟨vid,hvid⟩:∃vid,vid=A.length:=⟨_,rfl⟩
 rw [<-hvid] at r1 hBv
 refine ⟨B,hB0,.int .i64 (j:Int),.ptr vid 0 0,.bool true,.bool true,?_⟩
 by_cases h:l[j].f=at_
 ·rw [RL h]
  rw [RH (not_not_intro h)] at b2
  rw [CY]
  simp [b1,b3,r1,P9,P8,P7,hBv,b2,b4,b5,-aq]
 ·rw [RN h]
  rw [RJ h] at b2
  rw [CY]
  simp [b1,r1,P9,P8,P7,hBv,b2,-aq]
def wx:List (FuncId × aD):=[(60,aG 4 M32),(61,aG 4 M36)]
@[simp] theorem Nz:aH wx 60=some (aG 4 M32):=rfl
@[simp] theorem Ny:aH wx 61=some (aG 4 M36):=rfl
theorem sZ:∀f M,aH wx f=some M->ak Tryz.prog GC f M:=ae (ak.of_pure rh 4) (ae (ak.of_pure uu 4) aw)
def M40:aI:=fun args=>evP (ai GC wx) 300 Aa 5 args
theorem nC:an Tryz.prog GC 54 M40:=an.of_ev (E:=ai GC wx) (ag sZ) rfl O5 yL 5 fun _ _ h=>⟨300,h⟩
def exT (r:Option (Int × Int)):AV:=.tup [.int .i64 (r.getD (0,0)).1,.int .i64 (r.getD (0,0)).2,.bool r.isSome]
theorem vB {n:Nat} {l:List bc} (hr:cC n l p) {xs:List Int} (hc:SlA 1 (ax xs) c) (hmx:xs.length<=9223372036854775807):M40 [cU n p l,c]=some (exT (exM p l xs)):=by
 have hlen:=hc.len
 rw [aE] at hlen
 have m32:=kK (xs.length:Int) 1 200
 have f1:∀A n,frz A n c=c:=fun A n=>hc.frz n
 unfold M40
 rw [aT _ _ rfl]
 obtain ⟨W1,O,hW,hW1⟩:∃W1 O,cU n p l=.fp [.int .i64 (n:Int),W1,O]/\W1=slA 6 (wAs p (num l)):=⟨_,_,rfl,rfl⟩
 by_cases h1:1<=xs.length/\xs.length<=200
 rotate_left
 ·rw [RH (by omega)] at m32
  have e:exM p l xs=none:=RN fun h=>h1 h.1
  rw [e,hW]
  simp [Aa,hlen,m32,exT,-az]
 rw [RJ (by omega)] at m32
 have m45:=C3 (f:=100) (cap:=[.fp [cU n p l]]) (Mf:=M46) rfl (q:=lm l.length) (xs:=xs) (fun x _ A=>zR hr.1.2.1 x) hc h1.2
 have m36:=C4 (q:=lm l.length) hc (fun A=>rfl) m45
 have hfz:frz [.row 1 false [cU n p l]] 4 (.func (.func 100) [] [.ptr 0 0 0])=.func (.func 100) [] [.fp [cU n p l]]:=rfl
 by_cases h2:tE l xs
 rotate_left
 ·have h2':xs.any (lm l.length)=true:=by
   cases h:xs.any (lm l.length) with
   | true=>rfl
   | false=>exact absurd ((p7 l xs).1 h) h2
  rw [h2'] at m36
  have e:exM p l xs=none:=RN fun h=>h2 h.2
  rw [e]
  rw [hW] at m36 hfz ⊢
  simp [Aa,hlen,m32,f1,hfz,m36,exT,bP,aP,-az,-frz]
  simp [frz]
 rw [(p7 l xs).2 h2] at m36
 have hex:exM p l xs=exL p l xs (tZ l (xs.getLastD 0)).t 0 0:=RL ⟨h1,h2⟩
 have hlast:xs.length-1<xs.length:=by omega
 obtain ⟨j,hj,hx,he⟩:=qS (h2 _ (RM hlast))
 have hgl:xs.getLastD 0=xs[xs.length-1]:=by
  rw [List.getLastD_eq_getLast?,List.getLast?_eq_getElem?,RD hlast]; rfl
 rw [hgl,he] at hex
 have x1:∀A,au 1 A c (.int .i64 ((xs.length-1:Nat):Int))=some (.fp [.int .i64 (j:Int)]):=fun A=>by
  have:=hc.int (A:=A) _ _ (RD hlast) .i64
  rwa [hx] at this
 have x2:=fun A=>q7 p hj A .i64
 have b0:aq .sub (.int .i64 (xs.length:Int)) (.int .i64 1)=some (.int .i64 ((xs.length-1:Nat):Int)):=by
  simp only [aq]; rw [RL trivial,eg (by unfold inI; omega)]; congr 2; omega
 obtain ⟨o,lp,ho⟩:=gk (E:=ai GC wx) (fuel:=300) (a:=nS) (mask:=mM)
  (fun κ σ A=>∃(i:Nat) (s t at_:Int),i+κ=xs.length/\σ=nm (.ptr 0 0 0) (.int .i64 s) (.int .i64 t) (.int .i64 at_) c (.int .i64 (xs.length:Int)) (.int .i64 (i:Int))/\A[0]?=some (.row 1 false [cU n p l])/\exL p l xs l[j].t 0 0=exL p l (xs.drop i) at_ s t/\(-(3000000*(i:Int))<=s/\s<=3000000*i)/\(-(2*(i:Int))<=t/\t<=2*i))
  (fun o=>(∃s t at_ A',exL p l xs l[j].t 0 0=some (s,t)/\o=.exit 0 ((nm (.ptr 0 0 0) (.int .i64 s) (.int .i64 t) (.int .i64 at_) c (.int .i64 (xs.length:Int)) (.int .i64 (xs.length:Int))).set 15 (.bool false)) A') \/
   (exL p l xs l[j].t 0 0=none/\∃v7 v8 v9 v14 v15 v16 A',o=.ret [.undef,.undef,.ptr 0 0 0,.int .i64 0,.int .i64 0,.bool false,.undef,v7,v8,v9,.undef,.undef,c,.int .i64 (xs.length:Int),v14,v15,v16] A'))
  (by
   rintro κ σ A ⟨i,s,t,at_,hik,rfl,hA,hexi,hs,ht⟩
   rw [CR]
   by_cases hi:i<xs.length
   ·obtain ⟨A',hA',v8,v9,v15,v16,hrun⟩:=EL (ai GC wx) 300 hr hc h1.2 h2 hi hA (at_:=at_) hs ht
    have hd:xs.drop i=xs[i] :: xs.drop (i+1):=SM hi
    by_cases hf:(tZ l xs[i]).f=at_
    ·rw [RL hf] at hrun
     rw [hd,exL,RL hf] at hexi
     obtain ⟨j2,hj2,hx2,he2⟩:=qS (h2 _ (RM hi))
     have hmem:=hr.1.2.2 _ (RM hj2)
     have hn32:=hr.1.1
     have hlen2:=gV (n:=32) (a:=l[j2]) ⟨⟨by have:=hmem.1; omega,by have:=hmem.1; omega⟩,⟨by have:=hmem.2.1; omega,by have:=hmem.2.1; omega⟩,hmem.2.2.1,hmem.2.2.2⟩ hr.2
     have htok:=hmem.2.2.2
     rw [he2] at hrun hexi
     exact .inl ⟨_,_,hrun,κ-1,by omega,i+1,_,_,_,by omega,rfl,hA',hexi,by omega,by omega⟩
    ·rw [RN hf] at hrun
     rw [hd,exL,RN hf] at hexi
     exact .inr ⟨_,hrun,(fun _ _ h=>by cases h),.inr ⟨hexi,_,_,_,_,_,_,_,rfl⟩⟩
   ·obtain rfl:i=xs.length:=by omega
    rw [TP,exL] at hexi
    refine .inr ⟨_,?_,?_,.inl ⟨s,t,at_,A,hexi,rfl⟩⟩
    ·simp [nS]
    ·intro _ _ h; cases h)
  300 xs.length (nm (.ptr 0 0 0) (.int .i64 0) (.int .i64 0) (.int .i64 l[j].t) c (.int .i64 (xs.length:Int)) (.int .i64 0)) [.row 1 false [cU n p l]] (by omega) ⟨0,0,0,_,by omega,rfl,rfl,rfl,by omega,by omega⟩
 rw [hex]
 rw [<-hW1] at x2
 rw [hW] at m36 hfz lp ⊢
 obtain ⟨q,hq⟩:∃q,q=xs.length-1:=⟨_,rfl⟩
 rw [<-hq] at x1 b0
 rcases ho with ⟨s,t,at_,A',he1,rfl⟩ | ⟨he1,v7,v8,v9,v14,v15,v16,A',rfl⟩
 ·rw [he1]
  simp [Aa,hlen,m32,f1,hfz,m36,b0,x1,x2,Cs lp,exT,bP,aP,-az,-frz,-aq,-au]
  simp [frz]
 ·rw [he1]
  simp [Aa,hlen,m32,f1,hfz,m36,b0,x1,x2,Cs lp,exT,bP,aP,-az,-frz,-aq,-au]
  simp [frz]
end Cy
end Go.Proofs.YtfkcoekicjjndaaGreat
