import Derived.Test.YtfkcoekicjjndaaGreatUB03
set_option maxRecDepth 100000
set_option maxHeartbeats 4000000
noncomputable section
namespace Go.Proofs.YtfkcoekicjjndaaGreat
open Go
def pick (a n:Int):Int:=(if a<0 then -(a+1) else a).tmod n
theorem c9 (a n:Int) (hn:0<n):0<=pick a n/\pick a n<n:=by
 unfold pick
 split
 ·exact ⟨Int.tmod_nonneg _ (by omega),Int.tmod_lt_of_pos _ hn⟩
 ·exact ⟨Int.tmod_nonneg _ (by omega),Int.tmod_lt_of_pos _ hn⟩
def ax (xs:List Int):List AV:=xs.map (.int .i64)
@[simp] theorem rp (esz:Nat) (es:List AV):cellsOf (slA esz es)=[slA esz es]:=by cases es <;> rfl
@[simp] theorem uu (esz:Nat) (es:List AV):(slA esz es).solid=true:=by cases es <;> rfl
@[simp] theorem Gn (esz:Nat) (es:List AV):ri (slA esz es)=true:=by cases es <;> rfl
@[simp] theorem rf (A:ac) (n esz:Nat) (es:List AV):frz A n (slA esz es)=slA esz es:=by cases es <;> cases n <;> rfl
@[simp] theorem uK (n esz:Nat) (es:List AV):bq n (slA esz es)=true:=by cases es <;> cases n <;> rfl
@[simp] theorem oH (esz:Nat) (es:List AV):ay (slA esz es)=some (.int .i64 (es.length:Int)):=by cases es <;> rfl
def rB (A:ac) (esz:Nat) (a:AV) (xs:List AV):Prop:=SlA esz xs a\/∃id off gr es,a=.sl id off xs.length/\A[id]?=some (.row esz gr es)/\(es.drop off).take xs.length=xs
section
variable {A B:ac} {esz:Nat} {a:AV} {xs:List AV}
theorem rB.len (h:rB A esz a xs):ay a=some (.int .i64 (xs.length:Int)):=by
 rcases h with h | ⟨id,off,gr,es,rfl,h1,h2⟩
 ·exact h.len
 ·rfl
theorem rB.load1 {A:ac} (h:rB A 1 a xs) (hAB:∀id,id<A.length->B[id]?=A[id]?) {i:Nat} {x:AV} (hx:xs[i]?=some x) (hs:x.solid=true) (hc:cellsOf x=[x]) (hl:bO x 1 0 false 1=some x) (k:IntKind) :
  ∃p,au 1 B a (.int k (i:Int))=some p/\af false 1 B p=some x:=by
 rcases h with h | ⟨id,off,gr,es,rfl,h1,h2⟩
 ·exact ⟨_,h.index1 hx hs hc k,rfl⟩
 ·have hid:id<A.length:=(List.getElem?_eq_some_iff.1 h1).1
  have hi:i<xs.length:=(List.getElem?_eq_some_iff.1 hx).1
  have hB:B[id]?=some (.row 1 gr es):=(hAB id hid).trans h1
  have he:es[off+i]?=some x:=by
   rw [<-h2,List.getElem?_take_of_lt hi,List.getElem?_drop] at hx
   exact hx
  refine ⟨.ptr id (off+i) 0,?_,?_⟩
  ·simp [au,hB,hi]
  ·simp [af,hB,he,hl]
theorem rB.int {zs:List Int} (h:rB A 1 a (ax zs)) (hAB:∀id,id<A.length->B[id]?=A[id]?) {i:Nat} (hi:i<zs.length) (k:IntKind) :
  ∃p,au 1 B a (.int k (i:Int))=some p/\af false 1 B p=some (.int .i64 zs[i]):=
 h.load1 hAB (x:=.int .i64 zs[i]) (by simp [ax,hi]) rfl rfl rfl k
end
theorem kz {s:AV} {xs:List Int} (h:ev s=some xs) (n:Nat):bq n s=true:=by
 rcases (iE h).1 with ⟨rfl,_⟩ | rfl <;> cases n <;> rfl
theorem tg {xs:List Int} (hl:xs.length<=9223372036854775807) (h:∀z∈xs,inI z):ev (slA 1 (ax xs))=some xs:=mB (aR _ _) hl h
theorem qr (B:ac) (n:Nat) (xs:List Int):(ax xs).all (a9 B n)=true:=by
 unfold ax
 rw [List.all_eq_true]
 intro x hx
 obtain ⟨z,_,rfl⟩:=List.mem_map.1 hx
 cases n <;> rfl
theorem pS (A:ac) (n:Nat) (xs:List Int):(ax xs).map (frz A n)=ax xs:=by
 unfold ax; rw [List.map_map]; apply List.map_congr_left; intro x _; cases n <;> rfl
namespace Cy
def GC:Nat->Option (List AV):=fun _=>none
structure a6 where
 f:Int
 t:Int
 w:Int
 k:Int
def dp (a:a6):AV:=.agg [.int .i64 a.f,.int .i64 a.t,.int .i64 a.w,.int .i64 a.k]
def a6.inR (a:a6):Prop:=inI a.f/\inI a.t/\inI a.w/\inI a.k
open Classical in
def yl:AV->Option a6
 | .agg [.int .i64 f,.int .i64 t,.int .i64 w,.int .i64 k]=>if a6.inR ⟨f,t,w,k⟩ then some ⟨f,t,w,k⟩ else none
 | _=>none
theorem oc {x:AV} {a:a6} (h:yl x=some a):x=dp a/\a.inR:=by
 unfold yl at h
 split at h
 ·simp only [Option.ite_none_right_eq_some,Option.some.injEq] at h
  obtain ⟨h1,rfl⟩:=h
  exact ⟨rfl,h1⟩
 ·cases h
theorem yk {a:a6} (h:a.inR):yl (dp a)=some a:=if_pos h
def Cp {α:Type} (s:Nat) (f:AV->Option α):AV->Option (List α)
 | .nilS=>some []
 | .fs s' es=>if s'=s/\es.length<=9223372036854775807 then rA f es else none
 | _=>none
def bJ (a:AV):Option (List a6):=Cp 4 yl a
theorem fD {a:AV} {l:List a6} (h:bJ a=some l):SlA 4 (l.map dp) a/\l.length<=9223372036854775807/\∀x∈l,x.inR:=by
 unfold bJ Cp at h
 split at h
 ·injection h with h; subst h
  exact ⟨.inl ⟨rfl,rfl⟩,by simp,by simp⟩
 ·rename_i s' es
  simp only [Option.ite_none_right_eq_some] at h
  obtain ⟨⟨rfl,hl⟩,h⟩:=h
  obtain ⟨h1,h2⟩:=jY h
  have e:es=l.map dp:=List.ext_getElem (by simpa using h1) fun i k1 k2=>by
   rw [(oc (h2 i k1 (by omega))).1]; simp
  subst e
  refine ⟨.inr rfl,by simpa using hl,fun x hx=>?_⟩
  obtain ⟨i,hi,rfl⟩:=List.mem_iff_getElem.1 hx
  have:=h2 i (by simpa using hi) hi
  exact (oc this).2
 ·cases h
theorem wq {a:AV} {l:List a6} (h:SlA 4 (l.map dp) a) (hl:l.length<=9223372036854775807) (hr:∀x∈l,x.inR):bJ a=some l:=by
 unfold bJ Cp
 rcases h with ⟨rfl,h⟩ | rfl
 ·have:l=[]:=by simpa using h
  subst this; rfl
 ·simp only [List.length_map]
  rw [if_pos ⟨trivial,hl⟩]
  exact m5 fun x hx=>yk (hr x hx)
section
variable {a:AV} {l:List a6}
theorem jX (h:bJ a=some l):ay a=some (.int .i64 (l.length:Int))/\l.length<=9223372036854775807:=by
 obtain ⟨h1,h2,_⟩:=fD h
 have:=h1.len
 simp only [List.length_map] at this
 exact ⟨this,h2⟩
theorem qn (h:bJ a=some l) {i:Nat} (hi:i<l.length):∀A k,au 4 A a (.int k (i:Int))=some (.fp [.int .i64 l[i].f,.int .i64 l[i].t,.int .i64 l[i].w,.int .i64 l[i].k]):=fun A k=>by
 obtain ⟨h1,h2,_⟩:=fD h
 have hx:(l.map dp)[i]?=some (dp l[i]):=by simp [hi]
 exact h1.index (A:=A) hx rfl (by simp) k
theorem dS (h:bJ a=some l) (A:ac) (n:Nat):frz A n a=a:=(fD h).1.frz n
theorem ez (h:bJ a=some l) (n:Nat):bq n a=true:=by
 rcases (fD h).1 with ⟨rfl,_⟩ | rfl <;> cases n <;> rfl
end
theorem dx {l:List a6} (hl:l.length<=9223372036854775807) (h:∀x∈l,x.inR):bJ (slA 4 (l.map dp))=some l:=wq (aR _ _) hl h
def M32:aG:=fun args=>match args with
 | [.int .i64 n,.int .i64 lo,.int .i64 hi]=>some (.bool (decide (lo<=n/\n<=hi)))
 | _=>none
theorem jE (n lo hi:Int):M32 [.int .i64 n,.int .i64 lo,.int .i64 hi]=some (.bool (decide (lo<=n/\n<=hi))):=rfl
theorem w7 (n lo hi:Int):decide (lo<=n/\n<=hi)=(decide (lo<=n) && decide (n<=hi)):=by
 rw [Bool.eq_iff_iff,decide_eq_true_eq,Bool.and_eq_true,decide_eq_true_eq,decide_eq_true_eq]
theorem ul:ak Tryz.prog GC 60 M32:=by
 refine ak.of_ev (E:=ai GC []) (aj aw) rfl at32 GM 1 ?_
 intro args r h
 unfold M32 at h
 split at h
 ·rename_i n lo hi
  injection h with h; subst h
  refine ⟨0,?_⟩
  have b1:aq .geq (.int .i64 n) (.int .i64 lo)=some (.bool (decide (lo<=n))):=by simp [aq]
  have b2:aq .leq (.int .i64 n) (.int .i64 hi)=some (.bool (decide (n<=hi))):=by simp [aq]
  rw [w7]
  obtain ⟨p,hp⟩:∃p,p=decide (lo<=n):=⟨_,rfl⟩
  obtain ⟨q,hq⟩:∃q,q=decide (n<=hi):=⟨_,rfl⟩
  rw [<-hp] at b1 ⊢
  rw [<-hq] at b2 ⊢
  rw [aS _ _ rfl]
  cases p <;> simp [LX,b1,b2,-aq]
 ·cases h
def bZ (p:Int):Prop:=-1000000<=p/\p<=1000000
instance (p:Int):Decidable (bZ p):=inferInstanceAs (Decidable (_/\_))
def M41:aG:=fun args=>match args with
 | [.int .i64 p]=>some (.bool (decide (bZ p)))
 | _=>none
def fsW:List (FuncId × aD):=[(60,aF 4 M32)]
@[simp] theorem L5:aI fsW 60=some (aF 4 M32):=rfl
theorem rQ:∀f M,aI fsW f=some M->an Tryz.prog GC f M:=ae (an.of_pure ul 4) aw
theorem nI:ak Tryz.prog GC 90 M41:=by
 refine ak.of_ev (E:=ai GC fsW) (aj rQ) rfl G2 qb 1 ?_
 intro args r h
 unfold M41 at h
 split at h
 ·rename_i p
  injection h with h; subst h
  refine ⟨0,?_⟩
  have m:=jE p (-1000000) 1000000
  rw [show decide (-1000000<=p/\p<=1000000)=decide (bZ p) from rfl] at m
  rw [aS _ _ rfl]
  simp [uO,m]
 ·cases h
def okA (n:Int) (a:a6):Prop:=(0<=a.f/\a.f<=n-1)/\(0<=a.t/\a.t<=n-1)/\(-1000000<=a.w/\a.w<=1000000)/\(-2<=a.k/\a.k<=2)
instance (n:Int) (a:a6):Decidable (okA n a):=inferInstanceAs (Decidable (_/\_))
def cW (n:Int) (a:a6):Bool:=!decide (okA n a)
theorem w6 (n:Int) (a:a6):cW n a=(!decide (0<=a.f/\a.f<=n-1) || !decide (0<=a.t/\a.t<=n-1) || !decide (-1000000<=a.w/\a.w<=1000000) || !decide (-2<=a.k/\a.k<=2)):=by
 unfold cW okA
 by_cases h1:0<=a.f/\a.f<=n-1 <;> by_cases h2:0<=a.t/\a.t<=n-1 <;> by_cases h3 : -1000000<=a.w/\a.w<=1000000 <;> by_cases h4 : -2<=a.k/\a.k<=2 <;> simp [h1,h2,h3,h4]
def M31:aG:=fun args=>match args with
 | [.agg [.int .i64 f,.int .i64 t,.int .i64 w,.int .i64 k],.fp [.int .i64 n]]=>if 1<=n/\n<=32 then some (.bool (cW n ⟨f,t,w,k⟩)) else none
 | _=>none
theorem D7:ak Tryz.prog GC 146 M31:=by
 refine ak.of_ev (E:=ai GC fsW) (aj rQ) rfl at31 GN 1 ?_
 intro args r h
 unfold M31 at h
 split at h
 ·rename_i f t w k n
  simp only [Option.ite_none_right_eq_some,Option.some.injEq] at h
  obtain ⟨hn,rfl⟩:=h
  refine ⟨0,?_⟩
  rw [w6]
  have m1:=jE f 0 (n-1)
  have m2:=jE t 0 (n-1)
  have m3:=jE w (-1000000) 1000000
  have m4:=jE k (-2) 2
  have b:aq .sub (.int .i64 n) (.int .i64 1)=some (.int .i64 (n-1)):=by
   simp only [aq]; rw [if_pos trivial,dB (by unfold inI; omega)]
  simp only
  obtain ⟨p1,hp1⟩:∃p,p=decide (0<=f/\f<=n-1):=⟨_,rfl⟩
  obtain ⟨p2,hp2⟩:∃p,p=decide (0<=t/\t<=n-1):=⟨_,rfl⟩
  obtain ⟨p3,hp3⟩:∃p,p=decide (-1000000<=w/\w<=1000000):=⟨_,rfl⟩
  obtain ⟨p4,hp4⟩:∃p,p=decide (-2<=k/\k<=2):=⟨_,rfl⟩
  rw [<-hp1] at m1 ⊢
  rw [<-hp2] at m2 ⊢
  rw [<-hp3] at m3 ⊢
  rw [<-hp4] at m4 ⊢
  obtain ⟨n1,hn1⟩:∃n1,n1=n-1:=⟨_,rfl⟩
  rw [<-hn1] at b m1 m2
  rw [aS _ _ rfl]
  cases p1
  ·simp [EI,b,m1,-aq]
  ·cases p2
   ·simp [EI,b,m1,m2,-aq]
   ·cases p3
    ·simp [EI,b,m1,m2,m3,-aq]
    ·simp [EI,b,m1,m2,m3,m4,-aq]
 ·cases h
def vw (n:Int):AV:=.func (.func 146) [] [.fp [.int .i64 n]]
def zc:List (FuncId × aD):=[(146,aF 4 M31)]
@[simp] theorem Jc:aI zc 146=some (aF 4 M31):=rfl
theorem AU:∀f M,aI zc f=some M->an Tryz.prog GC f M:=ae (an.of_pure D7 4) aw
def cH {α:Type} (p:α->Bool) (l:List α):Int:=match l.findIdx? p with
 | some i=>i
 | none=>-1
theorem bu {α:Type} {p:α->Bool} {l:List α} {i:Nat} (hi:i<l.length) (h1:p l[i]=true) (h2:∀j (hj:j<i),p (l[j]'(by omega))=false):cH p l=(i:Int):=by
 have:l.findIdx? p=some i:=List.findIdx?_eq_some_iff_getElem.2 ⟨hi,h1,fun j hj=>by simpa using h2 j hj⟩
 unfold cH; rw [this]
theorem bG {α:Type} {p:α->Bool} {l:List α} (h:∀i (hi:i<l.length),p l[i]=false):cH p l = -1:=by
 have:l.findIdx? p=none:=by
  rw [List.findIdx?_eq_none_iff]
  intro x hx
  obtain ⟨i,hi,rfl⟩:=List.mem_iff_getElem.1 hx
  exact h i hi
 unfold cH; rw [this]
theorem ce {α:Type} (p:α->Bool) (l:List α):decide (0<=cH p l)=l.any p:=by
 unfold cH
 cases h:l.findIdx? p with
 | some i=>
  obtain ⟨hi,h1,_⟩:=List.findIdx?_eq_some_iff_getElem.1 h
  show decide (0<=(i:Int))=_
  rw [decide_eq_true (by omega),eq_comm,List.any_eq_true]
  exact ⟨_,List.getElem_mem hi,h1⟩
 | none=>
  rw [List.findIdx?_eq_none_iff] at h
  show decide (0<=(-1:Int))=_
  rw [decide_eq_false (by omega),eq_comm,List.any_eq_false]
  intro x hx; rw [h x hx]; simp
theorem ev44 {a:AV} {l:List a6} (ha:bJ a=some l) {n:Int} (hn:1<=n/\n<=32):evP (ai GC zc) (l.length+1) xM 1 [a,vw n]=some (.int .i64 (cH (cW n) l)):=by
 obtain ⟨hl,hm⟩:=jX ha
 have round:∀(A:ac) (i:Nat) (hi:i<l.length),run (ai GC zc) (l.length+1) [.code ij] (kg a (vw n) (.int .i64 (l.length:Int)) (.int .i64 (i:Int))) A =
   if cW n l[i]=false then some (.normal (kg a (vw n) (.int .i64 (l.length:Int)) (.int .i64 ((i+1:Nat):Int))) A) else some (.ret [a,vw n,.int .i64 (i:Int),.int .i64 (i:Int),.int .i64 (l.length:Int),.int .i64 (i:Int),.bool true,.bool true] A):=fun A i hi=>by
  have x1:=qn ha hi A .i64
  have m:M31 [.agg [.int .i64 l[i].f,.int .i64 l[i].t,.int .i64 l[i].w,.int .i64 l[i].k],.fp [.int .i64 n]]=some (.bool (cW n l[i])):=if_pos hn
  have b1:=bw i l.length .i64
  rw [decide_eq_true hi] at b1
  have b3:=aY i (by omega)
  obtain ⟨i1,hi1⟩:∃i1:Nat,i1=i+1:=⟨_,rfl⟩
  rw [<-hi1] at b3 ⊢
  obtain ⟨d,hd⟩:∃d,d=cW n l[i]:=⟨_,rfl⟩
  rw [<-hd] at m ⊢
  cases d with
  | false=>simp [ij,vw,x1,m,frz,b1,b3,-aq,-au,-ay]
  | true=>simp [ij,vw,x1,m,frz,b1,-aq,-au,-ay]
 rw [aS _ _ rfl]
 rcases cP (E:=ai GC zc) (fuel:=l.length+1) (a:=ij) (mask:=gC) (fun i=>kg a (vw n) (.int .i64 (l.length:Int)) (.int .i64 (i:Int))) (fun _=>[]) l.length (fun i=>¬ ∀hi:i<l.length,cW n l[i]=false)
  (oF:=fun i=>.ret [a,vw n,.int .i64 (i:Int),.int .i64 (i:Int),.int .i64 (l.length:Int),.int .i64 (i:Int),.bool true,.bool true] []) (oE:=.exit 0 ((kg a (vw n) (.int .i64 (l.length:Int)) (.int .i64 (l.length:Int))).set 6 (.bool false)) [])
  (fun _=>zq) (fun _ _ _ h=>by cases h) (fun _ _ h=>by cases h)
  (fun i hi hp=>by
   rw [round [] i hi]
   exact if_pos (Classical.not_not.1 hp hi))
  (fun i hi hp=>by
   rw [round [] i hi]
   exact if_neg fun h=>hp fun _=>h)
  (by simp [ij]) (Nat.lt_succ_self _) with ⟨i,hi,hp,hj,lp⟩ | ⟨hp,lp⟩
 ·have lp:bM (evC (ai GC zc) (l.length+1) ij) gC (l.length+1) (kg a (vw n) (.int .i64 (l.length:Int)) (.int .i64 0)) []=_:=lp
  have e:cH (cW n) l=(i:Int):=bu hi (by
   cases h:cW n l[i] with
   | true=>rfl
   | false=>exact absurd (fun _=>h) hp) (fun j hj'=>Classical.not_not.1 (hj j hj') (by omega))
  rw [e]
  simp [xM,hl,yV lp,-aq,-ay]
 ·have lp:bM (evC (ai GC zc) (l.length+1) ij) gC (l.length+1) (kg a (vw n) (.int .i64 (l.length:Int)) (.int .i64 0)) []=_:=lp
  have e:cH (cW n) l = -1:=bG fun i hi=>Classical.not_not.1 (hp i hi) hi
  rw [e]
  simp [xM,hl,yV lp,-aq,-ay]
def M44:aG:=fun args=>match args with
 | [a,.func (.func 146) [] [.fp [.int .i64 n]]]=>if 1<=n/\n<=32 then (bJ a).map fun l=>.int .i64 (cH (cW n) l) else none
 | _=>none
theorem uj:ak Tryz.prog GC 171 M44:=by
 refine ak.of_ev (E:=ai GC zc) (aj AU) rfl Kr vN 1 ?_
 intro args r h
 unfold M44 at h
 split at h
 ·simp only [Option.ite_none_right_eq_some,Option.map_eq_some_iff] at h
  obtain ⟨hn,l,hl,rfl⟩:=h
  exact ⟨_,ev44 hl hn⟩
 ·cases h
def M33:aG:=fun args=>match args with
 | [a,.func (.func 146) [] [.fp [.int .i64 n]]]=>if 1<=n/\n<=32 then (bJ a).map fun l=>.bool (l.any (cW n)) else none
 | _=>none
def Jn:List (FuncId × aD):=[(171,aF 4 M44)]
@[simp] theorem Jm:aI Jn 171=some (aF 4 M44):=rfl
theorem A7:∀f M,aI Jn f=some M->an Tryz.prog GC f M:=ae (an.of_pure uj 4) aw
theorem iR (z:Int):aq .geq (.int .i64 z) (.int .i64 0)=some (.bool (decide (0<=z))):=by simp [aq]
theorem D6:ak Tryz.prog GC 147 M33:=by
 refine ak.of_ev (E:=ai GC Jn) (aj A7) rfl at33 GL 1 ?_
 intro args r h
 unfold M33 at h
 split at h
 ·rename_i a n
  simp only [Option.ite_none_right_eq_some,Option.map_eq_some_iff] at h
  obtain ⟨hn,l,hl,rfl⟩:=h
  refine ⟨0,?_⟩
  have m:M44 [a,.func (.func 146) [] [.fp [.int .i64 n]]]=some (.int .i64 (cH (cW n) l)):=by
   simp only [M44,hl,Option.map_some]; exact if_pos hn
  have b:=iR (cH (cW n) l)
  rw [ce] at b
  have f1:=dS hl
  have f2:=ez hl
  obtain ⟨z,hz⟩:∃z,z=cH (cW n) l:=⟨_,rfl⟩
  rw [<-hz] at m b
  rw [aS _ _ rfl]
  simp [LW,m,b,f1,f2,frz,-aq]
 ·cases h
def dq (n:Int) (l:List a6):Prop:=(1<=n/\n<=32)/\l.length<=200/\∀a∈l,okA n a
theorem wu (n:Int) (l:List a6):l.any (cW n)=false↔∀a∈l,okA n a:=by
 rw [List.any_eq_false]
 unfold cW
 simp
open Classical in
def M16:aG:=fun args=>match args with
 | [.int .i64 n,a]=>(bJ a).map fun l=>.bool (decide (dq n l))
 | _=>none
def wX:List (FuncId × aD):=[(60,aF 4 M32),(147,aF 4 M33)]
@[simp] theorem Kc:aI wX 60=some (aF 4 M32):=rfl
@[simp] theorem Kb:aI wX 147=some (aF 4 M33):=rfl
theorem qL:∀f M,aI wX f=some M->an Tryz.prog GC f M:=ae (an.of_pure ul 4) (ae (an.of_pure D6 4) aw)
open Classical in
theorem po:ak Tryz.prog GC 97 M16:=by
 refine ak.of_ev (E:=ai GC wX) (aj qL) rfl KM vT 1 ?_
 intro args r h
 unfold M16 at h
 split at h
 ·rename_i n a
  simp only [Option.map_eq_some_iff] at h
  obtain ⟨l,hl,rfl⟩:=h
  refine ⟨0,?_⟩
  have m1:=jE n 1 32
  have hlen:=(jX hl).1
  have f1:=dS hl
  have f2:=ez hl
  have b1:aq .leq (.int .i64 (l.length:Int)) (.int .i64 200)=some (.bool (decide (l.length<=200))):=by simp [aq]; omega
  rw [aS _ _ rfl]
  by_cases h1:1<=n/\n<=32
  rotate_left
  ·rw [decide_eq_false h1] at m1
   rw [decide_eq_false (show ¬ dq n l from fun h=>h1 h.1)]
   simp [sa,m1,-aq,-ay]
  rw [decide_eq_true h1] at m1
  by_cases h2:l.length<=200
  rotate_left
  ·rw [decide_eq_false h2] at b1
   rw [decide_eq_false (show ¬ dq n l from fun h=>h2 h.2.1)]
   simp [sa,m1,hlen,b1,-aq,-ay]
  rw [decide_eq_true h2] at b1
  have m2:M33 [a,.func (.func 146) [] [.fp [.int .i64 n]]]=some (.bool (l.any (cW n))):=by
   simp only [M33,hl,Option.map_some]; exact if_pos h1
  have e:decide (dq n l)=!(l.any (cW n)):=by
   rw [Bool.eq_iff_iff,decide_eq_true_eq,Bool.not_eq_true',wu]
   exact ⟨fun h=>h.2.2,fun h=>⟨h1,h2,h⟩⟩
  rw [e]
  obtain ⟨d,hd⟩:∃d,d=l.any (cW n):=⟨_,rfl⟩
  rw [<-hd] at m2 ⊢
  simp [sa,m1,m2,hlen,b1,f1,f2,frz,-aq,-ay]
 ·cases h
def cf (n:Int) (l:List a6) (p:Int):Prop:=dq n l/\bZ p
def a6.len (a:a6) (p:Int):Int:=a.w-p*a.k
theorem gg {n p:Int} {a:a6} (h:okA n a) (hp:bZ p) : -3000000<=a.len p/\a.len p<=3000000 /\ -2000000<=p*a.k/\p*a.k<=2000000:=by
 obtain ⟨_,_,h3,h4⟩:=h
 unfold bZ at hp
 unfold a6.len
 have h5:a.k = -2\/a.k = -1\/a.k=0\/a.k=1\/a.k=2:=by omega
 rcases h5 with h | h | h | h | h <;> rw [h] <;> omega
theorem Mq (E:Env) (a n:Int) (ha:inI a) (hn:0<n):evP E 0 Fc 1 [.int .i64 a,.int .i64 n]=some (.int .i64 (pick a n)):=by
 have h3:n≠0:=by omega
 rw [aS _ _ rfl]
 by_cases h:a<0
 ·have h1:IntKind.i64.wrap (a+1)=a+1:=dB (by unfold inI at *; omega)
  have h2:IntKind.i64.wrap (-(a+1)) = -(a+1):=dB (by unfold inI at *; omega)
  simp [Fc,h,h1,h2,h3,pick]
 ·simp [Fc,h,h3,pick]
def M12:aG:=fun args=>match args with
 | [.int .i64 a,.int .i64 n]=>if (-9223372036854775808<=a/\a<=9223372036854775807)/\0<n then some (.int .i64 (pick a n)) else none
 | _=>none
theorem db {a n:Int} (ha:inI a) (hn:0<n):M12 [.int .i64 a,.int .i64 n]=some (.int .i64 (pick a n)):=if_pos ⟨ha,hn⟩
theorem Ee:ak Tryz.prog GC 21 M12:=by
 refine ak.of_ev (E:=ai GC []) (aj aw) rfl at12 GX 1 ?_
 intro args r h
 unfold M12 at h
 split at h
 ·simp only [Option.ite_none_right_eq_some,Option.some.injEq] at h
  obtain ⟨⟨h1,h2⟩,rfl⟩:=h
  exact ⟨0,Mq _ _ _ h1 h2⟩
 ·cases h
abbrev ec:=a6 × Nat
def num (l:List a6):List ec:=l.zipIdx
def wA (p:Int) (x:ec):AV:=.agg [.int .i64 x.1.f,.int .i64 x.1.t,.int .i64 x.1.w,.int .i64 x.1.k,.int .i64 (x.2:Int),.int .i64 (x.1.len p)]
def kK (l:List a6) (v:Nat):List ec:=(num l).filter fun x=>decide (x.1.f=(v:Int))
def wAs (p:Int) (l:List ec):List AV:=l.map (wA p)
theorem r7 (l:List a6) (i:Nat) (hi:i<l.length):num (l.take (i+1))=num (l.take i)++[(l[i],i)]:=by
 unfold num
 rw [List.take_succ_eq_append_getElem hi,List.zipIdx_append]
 simp
 omega
theorem iw (l:List a6):(num l).length=l.length:=by simp [num]
theorem eB (l:List a6) (i:Nat) (hi:i<l.length):(num l)[i]?=some (l[i],i):=by
 simp [num,hi]
theorem jJ {l:List a6} {x:ec} (h:x∈num l):∃hi:x.2<l.length,l[x.2]=x.1:=by
 obtain ⟨i,hi,rfl⟩:=List.mem_iff_getElem.1 h
 rw [iw] at hi
 have:=eB l i hi
 have h2:(num l)[i]'(by rw [iw]; exact hi)=(l[i],i):=by
  rw [List.getElem?_eq_getElem (by rw [iw]; exact hi)] at this
  exact Option.some.inj this
 rw [h2]
 exact ⟨hi,rfl⟩
theorem uJ (l:List a6) (i v:Nat) (hi:i<l.length):kK (l.take (i+1)) v=if l[i].f=(v:Int) then kK (l.take i) v++[(l[i],i)] else kK (l.take i) v:=by
 unfold kK
 rw [r7 l i hi,List.filter_append]
 by_cases h:l[i].f=(v:Int) <;> simp [h]
theorem rX (l:List a6) (v:Nat):(kK l v).length<=l.length:=by
 unfold kK
 have:=List.length_filter_le (fun x:ec=>decide (x.1.f=(v:Int))) (num l)
 rw [iw] at this
 exact this
def o9 (A:ac) (s:AV) (xs:List AV):Prop:=(s=.nilS/\xs=[])\/∃id gr,s=.sl id 0 xs.length/\xs≠[]/\2<=id/\A[id]?=some (.row 6 gr xs)
theorem o9.keep {A B:ac} {s:AV} {xs:List AV} (h:o9 A s xs) (hAB:∀id,id∈aV s->B[id]?=A[id]?):o9 B s xs:=by
 rcases h with h | ⟨id,gr,rfl,h1,h2,h3⟩
 ·exact .inl h
 ·exact .inr ⟨id,gr,rfl,h1,h2,by rw [hAB id (by simp [aV]),h3]⟩
theorem o9.low {A:ac} {s:AV} {xs:List AV} (h:o9 A s xs):∀id,id∈aV s->2<=id/\id<A.length:=by
 rcases h with ⟨rfl,_⟩ | ⟨id,gr,rfl,h1,h2,h3⟩
 ·intro id h; simp [aV] at h
 ·intro j hj
  simp only [aV,List.mem_singleton] at hj
  subst hj
  exact ⟨h2,(List.getElem?_eq_some_iff.1 h3).1⟩
theorem o9.append {A:ac} {s:AV} {xs:List AV} (h:o9 A s xs) (x:AV) (hA:2<=A.length) (hl:xs.length<=1000) :
  ∃s' k A',aO 6 48 A s (.fs 6 [x])=some (.sl s' 0 k,A')/\o9 A' (.sl s' 0 k) (xs++[x])/\A.length<=A'.length/\(∀j,j<A.length->j ∉ aV s->A'[j]?=A[j]?)/\(s'∈aV s\/s'=A.length):=by
 rcases h with ⟨rfl,rfl⟩ | ⟨id,gr,rfl,h1,h2,h3⟩
 ·refine ⟨A.length,1,A++[.row 6 false [x]],by simp [aO,aQ],.inr ⟨A.length,false,rfl,by simp,hA,by simp⟩,by simp,fun j hj _=>by rw [List.getElem?_append_left hj],.inr rfl⟩
 ·have hid:=(List.getElem?_eq_some_iff.1 h3).1
  refine ⟨id,(xs++[x]).length,A.set id (.row 6 true (xs++[x])),?_,.inr ⟨id,true,rfl,by simp,h2,by simp [hid]⟩,by simp,fun j hj hn=>?_,.inl (by simp [aV])⟩
  ·simp only [aO,aQ,h3]
   simp [h1]
   omega
  ·rw [List.getElem?_set_ne (fun e=>hn (by simp [aV,e]))]
theorem zd (A:ac) (p:Int) (x:ec) (n:Nat):frz A (n+1) (wA p x)=wA p x:=by
 cases n <;> simp [frz,wA]
theorem o9.frz {A:ac} {s:AV} {p:Int} {l:List ec} (h:o9 A s (wAs p l)) (n:Nat):frz A (n+2) s=slA 6 (wAs p l):=by
 have e:(wAs p l).map (Proofs.YtfkcoekicjjndaaGreat.frz A (n+1))=wAs p l:=by
  unfold wAs
  rw [List.map_map]
  apply List.map_congr_left
  intro x _
  exact zd A p x n
 rcases h with ⟨rfl,h⟩ | ⟨id,gr,rfl,h1,h2,h3⟩
 ·rw [h]; rfl
 ·show Proofs.YtfkcoekicjjndaaGreat.frz A (n+1+1) _=_
  simp only [Proofs.YtfkcoekicjjndaaGreat.frz,h3]
  rw [List.drop_zero,List.take_of_length_le (Nat.le_refl _),e]
  cases hw:wAs p l with
  | nil=>exact absurd hw h1
  | cons y r=>rfl
theorem x7 (A:ac) (p:Int) (x:ec) (n:Nat):a9 A (n+1) (wA p x)=true:=by
 cases n <;> simp [a9,wA]
theorem o9.fresh {A:ac} {s:AV} {p:Int} {l:List ec} (h:o9 A s (wAs p l)) (n:Nat):a9 A (n+2) s=true:=by
 rcases h with ⟨rfl,h⟩ | ⟨id,gr,rfl,h1,h2,h3⟩
 ·rfl
 ·show a9 A (n+1+1) _=_
  simp only [a9,h3]
  rw [List.drop_zero,List.take_of_length_le (Nat.le_refl _),List.all_eq_true]
  intro y hy
  obtain ⟨x,_,rfl⟩:=List.mem_map.1 hy
  exact x7 A p x n
def LC:MC:=.region [⟨none,.mv (.var 12),none⟩,⟨none,.indexSl 4 (.var 10) (.var 12),none⟩,⟨none,.load true 4 (.tmp 1),none⟩,⟨some 7,.alloc 4 (.agg [.int .i64 0,.int .i64 0,.int .i64 0,.int .i64 0]),none⟩,⟨some 6,.mv (.tmp 0),none⟩,⟨none,.store 4 (.var 7) (.tmp 2),none⟩]
def LB:MC:=.region [⟨none,.load true 4 (.var 7),none⟩,⟨none,.mv (.var 6),none⟩,⟨none,.fieldAddr 2 (.var 7),none⟩,⟨none,.load false 1 (.tmp 2),none⟩,⟨none,.mv (.var 2),none⟩,⟨none,.fieldAddr 3 (.var 7),none⟩,⟨none,.load false 1 (.tmp 5),none⟩,⟨none,.bin .mul (.tmp 4) (.tmp 6),none⟩,⟨none,.bin .sub (.tmp 3) (.tmp 7),none⟩,⟨none,.build [.int .i64 0,.int .i64 0,.int .i64 0,.int .i64 0,.int .i64 0,.int .i64 0] [(0,(4,.tmp 0)),(4,(1,.tmp 1)),(5,(1,.tmp 8))],none⟩,⟨some 8,.alloc 6 (.agg [.int .i64 0,.int .i64 0,.int .i64 0,.int .i64 0,.int .i64 0,.int .i64 0]),none⟩,⟨none,.store 6 (.var 8) (.tmp 9),none⟩]
def LA:MC:=.region [⟨none,.mv (.var 5),none⟩,⟨none,.mv (.var 5),none⟩,⟨none,.nilCheck (.tmp 1),none⟩,⟨none,.fieldAddr 1 (.tmp 2),none⟩,⟨none,.load false 1 (.tmp 3),none⟩,⟨none,.load true 6 (.var 8),none⟩,⟨none,.buildF 6 [.tmp 5],none⟩,⟨none,.append 6 48 (.tmp 4) (.tmp 6),none⟩,⟨none,.nilCheck (.tmp 0),none⟩,⟨none,.fieldAddr 1 (.tmp 8),none⟩,⟨none,.store 1 (.tmp 9) (.tmp 7),none⟩]
def Ie:MC:=.regionD [] [⟨none,.mv (.var 5),none⟩,⟨none,.nilCheck (.tmp 0),none⟩,⟨none,.fieldAddr 2 (.tmp 1),none⟩,⟨none,.load false 1 (.tmp 2),none⟩,⟨none,.fieldAddr 0 (.var 7),none⟩,⟨none,.load false 1 (.tmp 4),none⟩,⟨none,.mv (.var 5),none⟩,⟨none,.nilCheck (.tmp 6),none⟩,⟨none,.fieldAddr 2 (.tmp 7),none⟩,⟨none,.load false 1 (.tmp 8),none⟩,⟨none,.fieldAddr 0 (.var 7),none⟩,⟨none,.load false 1 (.tmp 10),none⟩,⟨none,.indexSl 1 (.tmp 9) (.tmp 11),none⟩,⟨none,.load false 1 (.tmp 12),none⟩,⟨none,.load true 6 (.var 8),none⟩,⟨none,.buildF 6 [.tmp 14],none⟩,⟨none,.append 6 48 (.tmp 13) (.tmp 15),none⟩,⟨none,.indexSl 1 (.tmp 3) (.tmp 5),none⟩,⟨none,.store 1 (.tmp 17) (.tmp 16),none⟩] [(2,16),(3,16),(4,16),(5,16)]
theorem Hb:ku=.seq (.region [⟨some 13,.bin .lss (.var 12) (.var 11),none⟩]) (.seq (.cond (.var 13) .skip (.exit 0)) (.seq (.seq (.block 1 (.seq LC (.seq LB (.seq LA Ie)))) (.kill [0,1,3,4,6,7,8,9,13])) (.region [⟨none,.bin .add (.var 12) (.cst (.int .i64 1)),none⟩,⟨some 12,.mv (.tmp 0),none⟩]))):=rfl
theorem IA (E:Env) (fuel:Nat) (K:List KC) (A:ac) {a:AV} {l:List a6} (ha:bJ a=some l) {p:Int} (hp:bZ p) {i:Nat} (hi:i<l.length) (hv:okA 32 l[i]) (w v13:AV) (X:MC) :
  run E fuel (.code LC :: .code (.seq LB X) :: K) [.undef,.undef,.int .i64 p,.undef,.undef,w,.undef,.undef,.undef,.undef,a,.int .i64 (l.length:Int),.int .i64 (i:Int),v13] A =
   run E fuel (.code X :: K) [.undef,.undef,.int .i64 p,.undef,.undef,w,.int .i64 (i:Int),.ptr A.length 0 0,.ptr (A.length+1) 0 0,.undef,a,.int .i64 (l.length:Int),.int .i64 (i:Int),v13] (A++[.row 4 false [dp l[i]],.row 6 false [wA p (l[i],i)]]):=by
 have x1:=qn ha hi A .i64
 obtain ⟨k1,k2,k3,k4⟩:=gg hv hp
 obtain ⟨_,_,h3,h4⟩:=hv
 have b1:aq .mul (.int .i64 p) (.int .i64 l[i].k)=some (.int .i64 (p*l[i].k)):=by
  simp only [aq]; rw [if_pos trivial,dB (by unfold inI; omega)]
 have b2:aq .sub (.int .i64 l[i].w) (.int .i64 (p*l[i].k))=some (.int .i64 (l[i].len p)):=by
  simp only [aq]; rw [if_pos trivial,dB (by unfold a6.len at k1 k2; unfold inI; omega)]; rfl
 unfold dp wA
 simp only []
 obtain ⟨pk,hpk⟩:∃pk,pk=p*l[i].k:=⟨_,rfl⟩
 rw [<-hpk] at b1 b2
 simp [LC,LB,x1,b1,b2,-aq,-au]
theorem r25c (E:Env) (fuel:Nat) (K:List KC) {B B2:ac} {v2 v6 v7 v10 v11 v12 v13 n va os:AV} {i8 j k:Nat} {c1 c2 c3 c4 c5 c6:Int}
  (h1:B[1]?=some (.row 3 false [.agg [n,va,os]])) (h8:B[i8]?=some (.row 6 false [.agg [.int .i64 c1,.int .i64 c2,.int .i64 c3,.int .i64 c4,.int .i64 c5,.int .i64 c6]])) (ap:aO 6 48 B va (.fs 6 [.agg [.int .i64 c1,.int .i64 c2,.int .i64 c3,.int .i64 c4,.int .i64 c5,.int .i64 c6]])=some (.sl j 0 k,B2)) (h1':B2[1]?=some (.row 3 false [.agg [n,va,os]])) :
  run E fuel (.code LA :: K) [.undef,.undef,v2,.undef,.undef,.ptr 1 0 0,v6,v7,.ptr i8 0 0,.undef,v10,v11,v12,v13] B =
   run E fuel K [.undef,.undef,v2,.undef,.undef,.ptr 1 0 0,v6,v7,.ptr i8 0 0,.undef,v10,v11,v12,v13] (B2.set 1 (.row 3 false [.agg [n,.sl j 0 k,os]])):=by
 simp [LA,h1,h8,ap,h1']
theorem r25d (E:Env) (fuel:Nat) (K:List KC) {B B2:ac} {v2 v6 v10 v11 v12 v13 n va o:AV} {i7 i8 f m j k:Nat} {os:List AV} {a:a6} {c1 c2 c3 c4 c5 c6:Int}
  (h1:B[1]?=some (.row 3 false [.agg [n,va,.sl 0 0 m]])) (h7:B[i7]?=some (.row 4 false [dp a])) (h8:B[i8]?=some (.row 6 false [.agg [.int .i64 c1,.int .i64 c2,.int .i64 c3,.int .i64 c4,.int .i64 c5,.int .i64 c6]])) (haf:a.f=(f:Int)) (hfm:f<m)
  (h0:B[0]?=some (.row 1 false os)) (ho:os[f]?=some o) (hs:o=.nilS\/∃i k,o=.sl i 0 k)
  (ap:aO 6 48 B o (.fs 6 [.agg [.int .i64 c1,.int .i64 c2,.int .i64 c3,.int .i64 c4,.int .i64 c5,.int .i64 c6]])=some (.sl j 0 k,B2)) (h0':B2[0]?=some (.row 1 false os)) (hid:∀j∈aV o,j≠1/\j≠i7) (hB1:B.length≠1) (hB7:B.length≠i7) :
  run E fuel (.code Ie :: K) [.undef,.undef,v2,.undef,.undef,.ptr 1 0 0,v6,.ptr i7 0 0,.ptr i8 0 0,.undef,v10,v11,v12,v13] B =
   run E fuel K [.undef,.undef,v2,.undef,.undef,.ptr 1 0 0,v6,.ptr i7 0 0,.ptr i8 0 0,.undef,v10,v11,v12,v13] (B2.set 0 (.row 1 false (os.set f (.sl j 0 k)))):=by
 have hB1':¬ 1=B.length:=fun e=>hB1 e.symm
 have hB7':¬ i7=B.length:=fun e=>hB7 e.symm
 simp only [dp,haf] at h7
 rcases hs with rfl | ⟨i,q,rfl⟩
 ·simp [Ie,h1,h7,h8,h0,ho,ap,h0',hB1',hB7',hfm]
 ·obtain ⟨hi1,hi7⟩:=hid i (by simp [aV])
  have hi1':¬ 1=i:=fun e=>hi1 e.symm
  have hi7':¬ i7=i:=fun e=>hi7 e.symm
  simp [Ie,h1,h7,h8,h0,ho,ap,h0',hB1',hB7',hfm,hi1',hi7']
def wC (n:Nat) (p:Int) (l:List a6) (i:Nat) (A:ac):Prop:=∃(va:AV) (os:List AV),A[0]?=some (.row 1 false os)/\A[1]?=some (.row 3 false [.agg [.int .i64 (n:Int),va,.sl 0 0 n]])/\os.length=n/\o9 A va (wAs p (num (l.take i))) /\
 (∀(v:Nat) (o:AV),os[v]?=some o->o9 A o (wAs p (kK (l.take i) v)))/\(∀(v:Nat) (o:AV) (j:Nat),os[v]?=some o->j∈aV o->j ∉ aV va)/\(∀(u v:Nat) (o q:AV) (j:Nat),u≠v->os[u]?=some o->os[v]?=some q->j∈aV o->j ∉ aV q)
theorem mh {z:Int} {n:Int} (h:0<=z/\z<=n-1):∃m:Nat,z=(m:Int)/\(m:Int)<n:=⟨z.toNat,by omega,by omega⟩
theorem o9.form2 {A:ac} {s:AV} {xs:List AV} (h:o9 A s xs):s=.nilS\/∃i k,s=.sl i 0 k:=by
 rcases h with ⟨rfl,_⟩ | ⟨id,gr,rfl,_⟩
 ·exact .inl rfl
 ·exact .inr ⟨_,_,rfl⟩
theorem Bq (E:Env) (fuel:Nat) (A:ac) {a:AV} {l:List a6} (ha:bJ a=some l) {p:Int} (hp:bZ p) {n:Nat} (hn:n<=32) (hl200:l.length<=200) (hv:∀x∈l,okA n x) {i:Nat} (hi:i<l.length) (hI:wC n p l i A) :
  ∃A',run E fuel [.code ku] (kh (.int .i64 p) (.ptr 1 0 0) a (.int .i64 (l.length:Int)) (.int .i64 (i:Int))) A=some (.normal (kh (.int .i64 p) (.ptr 1 0 0) a (.int .i64 (l.length:Int)) (.int .i64 ((i+1:Nat):Int))) A')/\wC n p l (i+1) A':=by
 obtain ⟨va,os,g0,g1,hos,gs,go,gd1,gd2⟩:=hI
 have hmem:=hv _ (List.getElem_mem hi)
 obtain ⟨f,hf,hfn⟩:=mh hmem.1
 have hv32:okA 32 l[i]:=by
  obtain ⟨h1,h2,h3,h4⟩:=hmem
  exact ⟨by omega,by omega,h3,h4⟩
 have hA2:2<=A.length:=(List.getElem?_eq_some_iff.1 g1).1
 obtain ⟨B,hB⟩:∃B,B=A++[.row 4 false [dp l[i]],.row 6 false [wA p (l[i],i)]]:=⟨_,rfl⟩
 have hAB:∀id,id<A.length->B[id]?=A[id]?:=fun id hid=>by rw [hB,List.getElem?_append_left hid]
 have h7:B[A.length]?=some (.row 4 false [dp l[i]]):=by rw [hB]; simp
 have h8:B[A.length+1]?=some (.row 6 false [wA p (l[i],i)]):=by rw [hB,List.getElem?_append_right (by omega)]; simp
 have hBl:B.length=A.length+2:=by rw [hB]; simp
 have k0:=(hAB 0 (by omega)).trans g0
 have k1:=(hAB 1 (by omega)).trans g1
 have gsB:o9 B va (wAs p (num (l.take i))):=gs.keep fun id h=>hAB id (gs.low id h).2
 have hnl:(wAs p (num (l.take i))).length<=1000:=by simp [wAs,iw]; omega
 obtain ⟨ja,ka,B2,ap1,s1,len1,keep1,ids1⟩:=gsB.append (wA p (l[i],i)) (by omega) hnl
 have hva:=gs.low
 have q1:=(keep1 1 (by omega) fun h=>by have:=(hva 1 h).1; omega).trans k1
 obtain ⟨B3,hB3⟩:∃B3,B3=B2.set 1 (.row 3 false [.agg [.int .i64 (n:Int),(.sl ja 0 ka),.sl 0 0 n]]):=⟨_,rfl⟩
 have hB3l:B3.length=B2.length:=by rw [hB3]; simp
 have c1:B3[1]?=some (.row 3 false [.agg [.int .i64 (n:Int),(.sl ja 0 ka),.sl 0 0 n]]):=by rw [hB3]; exact List.getElem?_set_self (by omega)
 have hB23:∀id,id≠1->B3[id]?=B2[id]?:=fun id h=>by rw [hB3,List.getElem?_set_ne (Ne.symm h)]
 have c0:=((hB23 0 (by omega)).trans (keep1 0 (by omega) fun h=>by have:=(hva 0 h).1; omega)).trans k0
 have c7:=((hB23 A.length (by omega)).trans (keep1 A.length (by omega) fun h=>by have:=(hva _ h).2; omega)).trans h7
 have c8:=((hB23 (A.length+1) (by omega)).trans (keep1 (A.length+1) (by omega) fun h=>by have:=(hva _ h).2; omega)).trans h8
 have s1':o9 B3 (.sl ja 0 ka) (wAs p (num (l.take i))++[wA p (l[i],i)]):=s1.keep fun id h=>hB23 id (by have:=(s1.low id h).1; omega)
 obtain ⟨o,ho⟩:∃o,os[f]?=some o:=⟨os[f]'(by omega),List.getElem?_eq_getElem _⟩
 have keepO:∀v q,os[v]?=some q->o9 B3 q (wAs p (kK (l.take i) v)):=fun v q hq=>(go v q hq).keep fun id h=>by
  have:=(go v q hq).low id h
  rw [hB23 id (by omega),keep1 id (by omega) (gd1 v q id hq h),hAB id this.2]
 have so:=keepO f o ho
 have hol:(wAs p (kK (l.take i) f)).length<=1000:=by
  have:=rX (l.take i) f
  simp only [wAs,List.length_map]
  simp at this; omega
 obtain ⟨jo,ko,B4,ap2,s2,len2,keep2,ids2⟩:=so.append (wA p (l[i],i)) (by omega) hol
 have hoi:=(go f o ho).low
 have d0:=(keep2 0 (by omega) fun h=>by have:=(hoi 0 h).1; omega).trans c0
 obtain ⟨B5,hB5⟩:∃B5,B5=B4.set 0 (.row 1 false (os.set f (.sl jo 0 ko))):=⟨_,rfl⟩
 have hB45:∀id,id≠0->B5[id]?=B4[id]?:=fun id h=>by rw [hB5,List.getElem?_set_ne (Ne.symm h)]
 have ids1':∀x,x∈aV (.sl ja 0 ka)->x∈aV va\/x=B.length:=fun x hx=>by
  simp only [aV,List.mem_singleton] at hx
  rw [hx]; exact ids1
 have ids2':∀x,x∈aV (.sl jo 0 ko)->x∈aV o\/x=B3.length:=fun x hx=>by
  simp only [aV,List.mem_singleton] at hx
  rw [hx]; exact ids2
 refine ⟨B5,?_,.sl ja 0 ka,os.set f (.sl jo 0 ko),?_,?_,?_,?_,?_,?_,?_⟩
 ·have r1:=fun K X=>IA E fuel K A ha hp hi hv32 (.ptr 1 0 0) (.bool true) X
  rw [<-hB] at r1
  have r2:=fun K=>r25c E fuel K (B:=B) (B2:=B2) (v2:=.int .i64 p) (v6:=.int .i64 (i:Int)) (v7:=.ptr A.length 0 0) (v10:=a) (v11:=.int .i64 (l.length:Int)) (v12:=.int .i64 (i:Int)) (v13:=.bool true) (n:=.int .i64 (n:Int)) (va:=va) (j:=ja) (k:=ka) (os:=.sl 0 0 n) (i8:=A.length+1) k1 h8 ap1 q1
  rw [<-hB3] at r2
  have r3:=fun K=>r25d E fuel K (B:=B3) (B2:=B4) (v2:=.int .i64 p) (v6:=.int .i64 (i:Int)) (i7:=A.length) (v10:=a) (v11:=.int .i64 (l.length:Int)) (v12:=.int .i64 (i:Int)) (v13:=.bool true) (n:=.int .i64 (n:Int)) (va:=.sl ja 0 ka) (o:=o) (j:=jo) (k:=ko) (os:=os) (m:=n) (f:=f) (a:=l[i]) (i8:=A.length+1) c1 c7 c8 hf (by omega) c0 ho so.form2 ap2 d0 (fun j hj=>⟨by have:=(hoi j hj).1; omega,by have:=(hoi j hj).2; omega⟩) (by omega) (by omega)
  rw [<-hB5] at r3
  have b1:=bw i l.length .i64
  rw [decide_eq_true hi] at b1
  have b3:=aY i (by omega)
  obtain ⟨i1,hi1⟩:∃i1:Nat,i1=i+1:=⟨_,rfl⟩
  rw [<-hi1] at b3 ⊢
  rw [Hb]
  simp [b1,b3,r1,r2,r3,-aq]
 ·rw [hB5]; exact List.getElem?_set_self (by omega)
 ·rw [hB45 1 (by omega),keep2 1 (by omega) fun h=>by have:=(hoi 1 h).1; omega]
  exact c1
 ·simp [hos]
 ·rw [r7 l i hi,show wAs p (num (l.take i)++[(l[i],i)])=wAs p (num (l.take i))++[wA p (l[i],i)] by simp [wAs]]
  refine s1'.keep fun id h=>?_
  have h1:=s1'.low id h
  rw [hB45 id (by omega),keep2 id h1.2 fun h2=>?_]
  rcases ids1' id h with h3 | h3
  ·exact gd1 f o id ho h2 h3
  ·have:=(hoi id h2).2; omega
 ·intro v q hq
  rw [uJ l i v hi]
  by_cases hvf:v=f
  ·subst hvf
   rw [List.getElem?_set_self (by omega)] at hq
   injection hq with hq; subst hq
   rw [if_pos hf,show wAs p (kK (l.take i) v++[(l[i],i)])=wAs p (kK (l.take i) v)++[wA p (l[i],i)] by simp [wAs]]
   exact s2.keep fun id h=>hB45 id (by have:=(s2.low id h).1; omega)
  ·rw [List.getElem?_set_ne (Ne.symm hvf)] at hq
   rw [if_neg (by rw [hf]; omega)]
   refine (keepO v q hq).keep fun id h=>?_
   have h1:=(keepO v q hq).low id h
   rw [hB45 id (by omega),keep2 id h1.2 (gd2 v f q o id hvf hq ho h)]
 ·intro v q j hq hj hj2
  have hnew:j∈aV va\/j=B.length:=ids1' j hj2
  by_cases hvf:v=f
  ·subst hvf
   rw [List.getElem?_set_self (by omega)] at hq
   injection hq with hq; subst hq
   have h5:=(s1.low j hj2).2
   rcases ids2' j hj with h3 | h3
   ·have:=(hoi j h3).2
    rcases hnew with h4 | h4
    ·exact gd1 v o j ho h3 h4
    ·omega
   ·omega
  ·rw [List.getElem?_set_ne (Ne.symm hvf)] at hq
   have:=((go v q hq).low j hj).2
   rcases hnew with h4 | h4
   ·exact gd1 v q j hq hj h4
   ·omega
 ·intro u v q r j huv hq hr hj hj2
  by_cases huf:u=f
  ·subst huf
   rw [List.getElem?_set_self (by omega)] at hq
   injection hq with hq; subst hq
   rw [List.getElem?_set_ne huv] at hr
   have:=((go v r hr).low j hj2).2
   rcases ids2' j hj with h3 | h3
   ·exact gd2 u v o r j huv ho hr h3 hj2
   ·omega
  ·rw [List.getElem?_set_ne (Ne.symm huf)] at hq
   have:=((go u q hq).low j hj).2
   by_cases hvf:v=f
   ·subst hvf
    rw [List.getElem?_set_self (by omega)] at hr
    injection hr with hr; subst hr
    rcases ids2' j hj2 with h3 | h3
    ·exact gd2 u v q o j huv hq ho hj h3
    ·omega
   ·rw [List.getElem?_set_ne (Ne.symm hvf)] at hr
    exact gd2 u v q r j huv hq hr hj hj2
theorem aT (A:ac) (n:Nat) (k:IntKind) (z:Int):frz A n (.int k z)=.int k z:=by cases n <;> rfl
def cB (n:Nat) (p:Int) (l:List a6):AV:=.fp [.int .i64 (n:Int),slA 6 (wAs p (num l)),.fs 1 ((List.range n).map fun v=>slA 6 (wAs p (kK l v)))]
theorem wC.frz {n:Nat} {p:Int} {l:List a6} {A:ac} (h:wC n p l l.length A) (k:Nat):Proofs.YtfkcoekicjjndaaGreat.frz A (k+4) (.ptr 1 0 0)=cB n p l:=by
 obtain ⟨va,os,g0,g1,hos,gs,go,_,_⟩:=h
 rw [List.take_length] at gs go
 show Proofs.YtfkcoekicjjndaaGreat.frz A (k+3+1) _=_
 simp only [Proofs.YtfkcoekicjjndaaGreat.frz,g1,List.getElem?_cons_zero]
 rw [if_pos ⟨rfl,by simp [cellsOf]⟩]
 have e2:Proofs.YtfkcoekicjjndaaGreat.frz A (k+3) (.sl 0 0 n)=.fs 1 ((List.range n).map fun v=>slA 6 (wAs p (kK l v))):=by
  show Proofs.YtfkcoekicjjndaaGreat.frz A (k+2+1) _=_
  simp only [Proofs.YtfkcoekicjjndaaGreat.frz,g0]
  rw [List.drop_zero,List.take_of_length_le (by omega)]
  congr 1
  apply List.ext_getElem (by simp [hos])
  intro v h1 h2
  simp only [List.getElem_map,List.getElem_range]
  exact (go v _ (List.getElem?_eq_getElem (by simpa using h1))).frz k
 simp only [cellsOf,List.drop_zero,List.map_cons,List.map_nil,e2]
 rw [show Proofs.YtfkcoekicjjndaaGreat.frz A (k+3) va=slA 6 (wAs p (num l)) from gs.frz (k+1)]
 simp [cB,Proofs.YtfkcoekicjjndaaGreat.frz]
theorem wC.fresh {n:Nat} {p:Int} {l:List a6} {A:ac} (h:wC n p l l.length A) (k:Nat):a9 A (k+4) (.ptr 1 0 0)=true:=by
 obtain ⟨va,os,g0,g1,hos,gs,go,_,_⟩:=h
 rw [List.take_length] at gs go
 have e2:a9 A (k+3) (.sl 0 0 n)=true:=by
  show a9 A (k+2+1) _=_
  simp only [a9,g0]
  rw [List.drop_zero,List.take_of_length_le (by omega),List.all_eq_true]
  intro x hx
  obtain ⟨v,hv,rfl⟩:=List.mem_iff_getElem.1 hx
  exact (go v _ (List.getElem?_eq_getElem hv)).fresh k
 have e1:a9 A (k+3) va=true:=gs.fresh (k+1)
 show a9 A (k+3+1) _=_
 simp only [a9,g1,List.getElem?_cons_zero,cellsOf,AV.solid,List.all_cons,List.all_nil,Bool.and_true,Bool.true_and,List.length_cons,List.length_nil]
 simp only [a9] at e1 e2
 rw [e1,e2]; rfl
theorem Fu (E:Env) (fuel:Nat) (A:ac) {a:AV} {l:List a6} (ha:bJ a=some l) {p:Int} (hp:bZ p) {n:Nat} (hn:n<=32) (hl200:l.length<=200) (hv:∀x∈l,okA n x) (hI:wC n p l 0 A) :
  ∃A',wC n p l l.length A'/\bM (evC E fuel ku) je (l.length+1) (kh (.int .i64 p) (.ptr 1 0 0) a (.int .i64 (l.length:Int)) (.int .i64 0)) A=some (.exit 0 ((kh (.int .i64 p) (.ptr 1 0 0) a (.int .i64 (l.length:Int)) (.int .i64 (l.length:Int))).set 13 (.bool false)) A'):=by
 obtain ⟨o,h1,A',h2,h3⟩:=fq (E:=E) (fuel:=fuel) (a:=ku) (mask:=je) (fun k σ A=>∃i,i+k=l.length/\σ=kh (.int .i64 p) (.ptr 1 0 0) a (.int .i64 (l.length:Int)) (.int .i64 (i:Int))/\wC n p l i A)
  (fun o=>∃A',wC n p l l.length A'/\o=.exit 0 ((kh (.int .i64 p) (.ptr 1 0 0) a (.int .i64 (l.length:Int)) (.int .i64 (l.length:Int))).set 13 (.bool false)) A')
  (by
   rintro k σ A ⟨i,hik,rfl,hI⟩
   rw [zu]
   by_cases hi:i<l.length
   ·obtain ⟨A',h1,h2⟩:=Bq E fuel A ha hp hn hl200 hv hi hI
    exact .inl ⟨_,_,h1,k-1,by omega,i+1,by omega,rfl,h2⟩
   ·obtain rfl:i=l.length:=by omega
    refine .inr ⟨_,?_,?_,A,hI,rfl⟩
    ·simp [ku]
    ·intro _ _ h; cases h)
  (l.length+1) l.length _ A (by omega) ⟨0,by omega,rfl,hI⟩
 exact ⟨A',h2,by rw [<-h3]; exact h1⟩
open Classical in
def M25:aG:=fun args=>match args with
 | [.int .i64 n,a,.int .i64 p]=>(bJ a).map fun l=>if cf n l p then .tup [cB n.toNat p l,.bool true] else .tup [.nilP,.bool false]
 | _=>none
def FV:List (FuncId × aD):=[(97,aF 4 M16),(90,aF 4 M41)]
@[simp] theorem JD:aI FV 97=some (aF 4 M16):=rfl
@[simp] theorem JC:aI FV 90=some (aF 4 M41):=rfl
theorem A8:∀f M,aI FV f=some M->an Tryz.prog GC f M:=ae (an.of_pure po 4) (ae (an.of_pure nI 4) aw)
open Classical in
theorem ot:br Tryz.prog GC 51 M25:=by
 refine br.of_ev (E:=ai GC FV) (aj A8) rfl at25 GR 5 ?_
 intro args r h
 unfold M25 at h
 split at h
 ·rename_i n a p
  simp only [Option.map_eq_some_iff] at h
  obtain ⟨l,hl,rfl⟩:=h
  refine ⟨l.length+1,?_⟩
  have m1:M16 [.int .i64 n,a]=some (.bool (decide (dq n l))):=by simp only [M16,hl,Option.map_some]
  have m2:M41 [.int .i64 p]=some (.bool (decide (bZ p))):=rfl
  have f1:=dS hl
  have f2:=ez hl
  have hlen:=(jX hl).1
  rw [gn _ _ rfl]
  by_cases h1:dq n l
  rotate_left
  ·rw [if_neg (fun h=>h1 h.1)]
   rw [decide_eq_false h1] at m1
   simp [HN,m1,f1,f2,frz,a9,eH]
  rw [decide_eq_true h1] at m1
  by_cases h2:bZ p
  rotate_left
  ·rw [if_neg (fun h=>h2 h.2)]
   rw [decide_eq_false h2] at m2
   simp [HN,m1,m2,f1,f2,frz,a9,eH]
  rw [decide_eq_true h2] at m2
  rw [if_pos ⟨h1,h2⟩]
  obtain ⟨m,rfl⟩:∃m:Nat,n=(m:Int):=⟨n.toNat,by have:=h1.1; omega⟩
  have hm:1<=m/\m<=32:=by have:=h1.1; omega
  have hI:wC m p l 0 [.row 1 false (List.replicate m .nilS),.row 3 false [.agg [.int .i64 (m:Int),.nilS,.sl 0 0 m]]]:=by
   refine ⟨.nilS,List.replicate m .nilS,rfl,rfl,by simp,.inl ⟨rfl,rfl⟩,fun v o ho=>?_,fun v o j ho hj=>?_,fun u v o q j _ ho _ hj=>?_⟩
   ·rw [List.getElem?_replicate] at ho
    split at ho
    ·injection ho with ho; subst ho
     exact .inl ⟨rfl,rfl⟩
    ·cases ho
   ·simp [aV]
   ·rw [List.getElem?_replicate] at ho
    split at ho
    ·injection ho with ho; subst ho
     simp [aV] at hj
    ·cases ho
  obtain ⟨A',hW,lp⟩:=Fu (ai GC FV) (l.length+1) _ hl h2 hm.2 h1.2.1 h1.2.2 hI
  have z1:frz A' 5 (.tup [.ptr 1 0 0,.bool true])=.tup [cB m p l,.bool true]:=by
   have:=hW.frz 0
   show AV.tup [frz A' 4 (.ptr 1 0 0),frz A' 4 (.bool true)]=_
   rw [this]; rfl
  have z2:a9 A' 5 (.tup [.ptr 1 0 0,.bool true])=true:=by
   have:=hW.fresh 0
   show [AV.ptr 1 0 0,.bool true].all (a9 A' 4)=true
   simp only [List.all_cons,this]; rfl
  have p1:eH [.ptr 1 0 0,.bool true]=.tup [.ptr 1 0 0,.bool true]:=rfl
  have e1:(m:Int).toNat=m:=by omega
  have hm0:¬ m=0:=by omega
  have mk:cg 1 24 .nilS [] (.int .i64 (m:Int)) (.int .i64 (m:Int))=some (.sl 0 0 m,[.row 1 false (List.replicate m .nilS)]):=by
   simp [cg]; omega
  rw [e1]
  simp [HN,m1,m2,f1,f2,hlen,FO lp,mk,aT,z1,z2,-ay,-cg,-frz]
 ·cases h
abbrev cR:=Nat × Nat × Int
def isW (L:List cR):Nat->List cR->Nat->Prop
 | u,[],v=>u=v
 | u,a :: r,v=>a∈L/\a.1=u/\isW L a.2.1 r v
def iB:List cR->Int
 | []=>0
 | a :: r=>a.2.2+iB r
def DI:Nat->List cR->Nat
 | u,[]=>u
 | _,a :: r=>DI a.2.1 r
section
variable {L:List cR}
theorem fm:∀(r s:List cR),iB (r++s)=iB r+iB s
 | [],s=>by simp [iB]
 | a :: r,s=>by
  simp only [List.cons_append,iB,fm r s]
  omega
theorem iD:∀ {r s:List cR} {u v:Nat},isW L u (r++s) v↔∃m,isW L u r m/\isW L m s v
 | [],s,u,v=>⟨fun h=>⟨u,rfl,h⟩,by rintro ⟨m,rfl,h⟩; exact h⟩
 | a :: r,s,u,v=>by
  simp only [List.cons_append,isW,iD (r:=r) (s:=s)]
  constructor
  ·rintro ⟨h1,h2,m,h3,h4⟩; exact ⟨m,⟨h1,h2,h3⟩,h4⟩
  ·rintro ⟨m,⟨h1,h2,h3⟩,h4⟩; exact ⟨h1,h2,m,h3,h4⟩
theorem mz:∀ {r:List cR} {u v:Nat},isW L u r v->DI u r=v
 | [],_,_,h=>h
 | a :: r,_,_,⟨_,_,h⟩=>mz (r:=r) (u:=a.2.1) h
theorem vG {n:Nat} (hL:∀a∈L,a.1<n/\a.2.1<n):∀ {r:List cR} {u v:Nat},u<n->isW L u r v->v<n
 | [],_,_,h,e=>e ▸ h
 | _ :: _,_,_,_,⟨h1,_,h3⟩=>vG hL (hL _ h1).2 h3
theorem nQ:∀(n:Nat) (s:Nat->Nat),(∀i,i<=n->s i<n)->∃i j,i<j/\j<=n/\s i=s j
 | 0,s,h=>absurd (h 0 (Nat.le_refl _)) (by omega)
 | n+1,s,h=>by
  by_cases hx:∃i,i<=n/\s i=s (n+1)
  ·obtain ⟨i,hi,he⟩:=hx
   exact ⟨i,n+1,by omega,Nat.le_refl _,he⟩
  ·have hx':∀i,i<=n->s i≠s (n+1):=fun i hi he=>hx ⟨i,hi,he⟩
   obtain ⟨i,j,h1,h2,h3⟩:=nQ n (fun i=>if s i=n then s (n+1) else s i) (fun i hi=>by
    have a1:=h i (by omega)
    have a2:=h (n+1) (Nat.le_refl _)
    have a3:=hx' i hi
    show (if s i=n then s (n+1) else s i)<n
    split <;> omega)
   refine ⟨i,j,h1,by omega,?_⟩
   have a1:=hx' i (by omega)
   have a2:=hx' j (by omega)
   have h3:(if s i=n then s (n+1) else s i)=(if s j=n then s (n+1) else s j):=h3
   split at h3 <;> split at h3 <;> omega
theorem Ch {n:Nat} (hL:∀a∈L,a.1<n/\a.2.1<n) {r:List cR} {u v:Nat} (hu:u<n) (h:isW L u r v) (hn:n<=r.length) :
  ∃p c q m,r=p++c++q/\isW L u p m/\isW L m c m/\isW L m q v/\1<=c.length/\c.length<=n:=by
 have key:∀i,i<=r.length->∃m,isW L u (r.take i) m/\isW L m (r.drop i) v:=fun i _=>by
  have h':=h
  rw [<-List.take_append_drop i r] at h'
  exact iD.1 h'
 obtain ⟨i,j,hij,hj,he⟩:=nQ n (fun i=>DI u (r.take i)) (fun i hi=>by
  obtain ⟨m,h1,_⟩:=key i (by omega)
  show DI u (r.take i)<n
  rw [mz h1]
  exact vG hL hu h1)
 obtain ⟨m1,a1,b1⟩:=key i (by omega)
 obtain ⟨m2,a2,b2⟩:=key j (by omega)
 have e1:=mz a1
 have e2:=mz a2
 have he:DI u (r.take i)=DI u (r.take j):=he
 have e3:m1=m2:=by rw [<-e1,<-e2,he]
 subst e3
 have hs:r.drop i=(r.drop i).take (j-i)++r.drop j:=by
  conv=>lhs; rw [<-List.take_append_drop (j-i) (r.drop i)]
  rw [List.drop_drop]
  congr 2; omega
 have hs2:r.take j=r.take i++(r.drop i).take (j-i):=by
  have:j=i+(j-i):=by omega
  conv=>lhs; rw [this]
  rw [List.take_add]
 rw [hs2] at a2
 obtain ⟨m,c1,c2⟩:=iD.1 a2
 have e4:m=m1:=by rw [<-mz c1,e1]
 subst e4
 refine ⟨r.take i,(r.drop i).take (j-i),r.drop j,m,?_,a1,c2,b2,?_,?_⟩
 ·rw [List.append_assoc,<-hs,List.take_append_drop]
 ·simp; omega
 ·simp; omega
def wI (L:List cR) (n:Nat):Prop:=∀u c,isW L u c u->1<=c.length->c.length<=n->iB c<=0
theorem Eh {n:Nat} (hL:∀a∈L,a.1<n/\a.2.1<n) (hN:wI L n):∀(k:Nat) (r:List cR) (u v:Nat),r.length=k->u<n->isW L u r v->∃r',isW L u r' v/\r'.length<n/\iB r<=iB r':=by
 intro k
 induction k using Nat.strongRecOn with
 | ind k ih=>
  intro r u v hk hu h
  by_cases hn:r.length<n
  ·exact ⟨r,h,hn,Int.le_refl _⟩
  ·obtain ⟨p,c,q,m,hr,h1,h2,h3,h4,h5⟩:=Ch hL hu h (by omega)
   have hc:=hN m c h2 h4 h5
   obtain ⟨r',k1,k2,k3⟩:=ih (p++q).length (by rw [<-hk,hr]; simp; omega) (p++q) u v rfl hu (iD.2 ⟨m,h1,h3⟩)
   refine ⟨r',k1,k2,?_⟩
   rw [hr,fm,fm]
   rw [fm] at k3
   omega
def jZ (L:List cR) (s:List Int):Prop:=∀a∈L,s.getD a.1 0+a.2.2<=s.getD a.2.1 0
theorem ji {s:List Int} (h:jZ L s):∀ {r:List cR} {u v:Nat},isW L u r v->s.getD u 0+iB r<=s.getD v 0
 | [],u,v,e=>by rw [show u=v from e]; simp [iB]
 | a :: r,u,v,⟨h1,h2,h3⟩=>by
  have k1:=h a h1
  have k2:=ji h h3
  rw [h2] at k1
  simp only [iB]
  omega
theorem q8 {s:List Int} (h:jZ L s) (n:Nat):wI L n:=fun u c hc _ _=>by
 have:=ji h hc
 omega
def m9 (s:List Int) (a:cR):List Int:=if s.getD a.1 0+a.2.2 > s.getD a.2.1 0 then s.set a.2.1 (s.getD a.1 0+a.2.2) else s
def iQ (L:List cR) (s:List Int):List Int:=L.foldl m9 s
def upL:List cR->List Int->Bool
 | [],_=>false
 | a :: L,s=>decide (s.getD a.1 0+a.2.2 > s.getD a.2.1 0) || upL L (m9 s a)
theorem li (s:List Int) (a:cR):(m9 s a).length=s.length:=by unfold m9; split <;> simp
theorem dM:∀(L:List cR) (s:List Int),(iQ L s).length=s.length
 | [],_=>rfl
 | a :: L,s=>by
  have:=dM L (m9 s a)
  simp only [iQ,List.foldl_cons] at this ⊢
  rw [this,li]
theorem x6 (s:List Int) (i j:Nat) (x:Int) (hi:i<s.length):(s.set i x).getD j 0=if i=j then x else s.getD j 0:=by
 rw [List.getD_eq_getElem?_getD,List.getD_eq_getElem?_getD]
 by_cases h:i=j
 ·subst h
  rw [List.getElem?_set_self hi,if_pos rfl]; rfl
 ·rw [List.getElem?_set_ne h,if_neg h]
theorem oB {s:List Int} {a:cR} (ha:a.2.1<s.length) (v:Nat):(m9 s a).getD v 0=if a.2.1=v then max (s.getD v 0) (s.getD a.1 0+a.2.2) else s.getD v 0:=by
 unfold m9
 by_cases h:s.getD a.1 0+a.2.2 > s.getD a.2.1 0
 ·rw [if_pos h,x6 _ _ _ _ ha]
  split
  ·rename_i e
   subst e
   omega
  ·rfl
 ·rw [if_neg h]
  split
  ·rename_i e
   subst e
   omega
  ·rfl
theorem eG:∀ {L:List cR} {s:List Int},upL L s=false->iQ L s=s/\jZ L s
 | [],s,_=>⟨rfl,fun a h=>by cases h⟩
 | a :: L,s,h=>by
  simp only [upL,Bool.or_eq_false_iff,decide_eq_false_iff_not] at h
  obtain ⟨h1,h2⟩:=h
  have e:m9 s a=s:=by unfold m9; rw [if_neg h1]
  rw [e] at h2
  obtain ⟨k1,k2⟩:=eG h2
  refine ⟨?_,fun b hb=>?_⟩
  ·simp only [iQ,List.foldl_cons,e]; exact k1
  ·rcases List.mem_cons.1 hb with rfl | hb
   ·omega
   ·exact k2 b hb
theorem lH:∀ {L:List cR} {s:List Int},jZ L s->upL L s=false
 | [],_,_=>rfl
 | a :: L,s,h=>by
  have h1:=h a (by simp)
  have e:m9 s a=s:=by unfold m9; rw [if_neg (by omega)]
  simp only [upL,e,Bool.or_eq_false_iff,decide_eq_false_iff_not]
  exact ⟨by omega,lH fun b hb=>h b (by simp [hb])⟩
theorem qX {n:Nat}:∀ {L:List cR} {s:List Int},s.length=n->(∀a∈L,a.2.1<n)->(∀v,s.getD v 0<=(iQ L s).getD v 0)/\∀a∈L,s.getD a.1 0+a.2.2<=(iQ L s).getD a.2.1 0
 | [],s,_,_=>⟨fun v=>Int.le_refl _,fun a h=>by cases h⟩
 | a :: L,s,hs,hL=>by
  have ha:=hL a (by simp)
  obtain ⟨k1,k2⟩:=qX (L:=L) (s:=m9 s a) (by rw [li,hs]) (fun b hb=>hL b (by simp [hb]))
  have e:iQ (a :: L) s=iQ L (m9 s a):=rfl
  rw [e]
  have g:=fun v=>oB (s:=s) (a:=a) (by omega) v
  have g1:∀v,s.getD v 0<=(m9 s a).getD v 0:=fun v=>by
   rw [g]; split <;> omega
  refine ⟨fun v=>Int.le_trans (g1 v) (k1 v),fun b hb=>?_⟩
  rcases List.mem_cons.1 hb with rfl | hb
  ·refine Int.le_trans ?_ (k1 _)
   rw [g,if_pos rfl]; omega
  ·have:=k2 b hb
   have h0:=g1 b.1
   omega
def ym (L:List cR) (n:Nat) (s:List Int):Prop:=∀v,v<n->∃u r,u<n/\isW L u r v/\iB r=s.getD v 0
theorem uE {n:Nat} {L:List cR} (hL:∀a∈L,a.1<n/\a.2.1<n) {s:List Int} (hs:s.length=n) (hw:ym L n s) {a:cR} (ha:a∈L):ym L n (m9 s a):=fun v hv=>by
 rw [oB (by have:=(hL a ha).2; omega)]
 by_cases h:a.2.1=v
 ·rw [if_pos h]
  by_cases hm:s.getD a.1 0+a.2.2<=s.getD v 0
  ·obtain ⟨u,r,h1,h2,h3⟩:=hw v hv
   exact ⟨u,r,h1,h2,by omega⟩
  ·obtain ⟨u,r,h1,h2,h3⟩:=hw a.1 (hL a ha).1
   refine ⟨u,r++[a],h1,iD.2 ⟨a.1,h2,ha,rfl,h⟩,?_⟩
   rw [fm,h3]
   simp only [iB]
   omega
 ·rw [if_neg h]; exact hw v hv
theorem lV {n:Nat} {L0:List cR} (hL:∀a∈L0,a.1<n/\a.2.1<n):∀ {L:List cR} {s:List Int},(∀a∈L,a∈L0)->s.length=n->ym L0 n s->ym L0 n (iQ L s)
 | [],_,_,_,h=>h
 | a :: L,s,hs0,hs,hw=>lV hL (L:=L) (s:=m9 s a) (fun b hb=>hs0 b (by simp [hb])) (by rw [li,hs]) (uE hL hs hw (hs0 a (by simp)))
def lev (L:List cR):Nat->List Int->List Int × Bool
 | 0,s=>(s,!upL L s)
 | m+1,s=>if upL L s=false then (s,true) else lev L m (iQ L s)
def bX (L:List cR) (n:Nat):List Int × Bool:=lev L n (List.replicate n 0)
theorem q7 {n:Nat} {L:List cR} (hL:∀a∈L,a.1<n/\a.2.1<n):∀(m:Nat) (s:List Int),s.length=n->ym L n s->(∀v,0<=s.getD v 0) ->
  (lev L m s).1.length=n/\ym L n (lev L m s).1/\(∀v,0<=(lev L m s).1.getD v 0)/\((lev L m s).2=true->jZ L (lev L m s).1)
 | 0,s,hs,hw,h0=>⟨hs,hw,h0,fun h=>(eG (by simpa [lev] using h)).2⟩
 | m+1,s,hs,hw,h0=>by
  unfold lev
  by_cases h:upL L s=false
  ·rw [if_pos h]
   exact ⟨hs,hw,h0,fun _=>(eG h).2⟩
  ·rw [if_neg h]
   exact q7 hL m _ (by rw [dM,hs]) (lV hL (fun _ h=>h) hs hw) fun v=>Int.le_trans (h0 v) ((qX hs (fun a ha=>(hL a ha).2)).1 v)
theorem lF (L:List cR) (n:Nat):ym L n (List.replicate n 0):=fun v hv=>⟨v,[],hv,rfl,by simp [iB,List.getD_eq_getElem?_getD,hv]⟩
theorem iS (n v:Nat):(List.replicate n (0:Int)).getD v 0=0:=by
 rw [List.getD_eq_getElem?_getD]
 by_cases h:v<n <;> simp [h]
theorem FA {n:Nat} {L:List cR} (hL:∀a∈L,a.1<n/\a.2.1<n) (hN:wI L n):∀(m k:Nat) (s:List Int),m+k=n->s.length=n->ym L n s->(∀v,0<=s.getD v 0)->(∀r u v,isW L u r v->u<n->r.length<=k->iB r<=s.getD v 0)->(lev L m s).2=true:=by
 intro m
 induction m with
 | zero=>
  intro k s hk hs hw h0 hr
  have:jZ L s:=fun a ha=>by
   obtain ⟨h1,h2⟩:=hL a ha
   obtain ⟨u,r,k1,k2,k3⟩:=hw a.1 h1
   obtain ⟨r',q1,q2,q3⟩:=Eh hL hN _ (r++[a]) u a.2.1 rfl k1 (iD.2 ⟨a.1,k2,ha,rfl,rfl⟩)
   have:=hr r' u a.2.1 q1 k1 (by omega)
   rw [fm] at q3
   simp only [iB] at q3
   omega
  simp [lev,lH this]
 | succ m ih=>
  intro k s hk hs hw h0 hr
  unfold lev
  by_cases h:upL L s=false
  ·rw [if_pos h]
  ·rw [if_neg h]
   have hge:=qX hs (fun a ha=>(hL a ha).2)
   refine ih (k+1) _ (by omega) (by rw [dM,hs]) (lV hL (fun _ h=>h) hs hw) (fun v=>Int.le_trans (h0 v) (hge.1 v)) fun r u v hw' hu hl=>?_
   by_cases he:r=[]
   ·subst he
    have:u=v:=hw'
    subst this
    exact Int.le_trans (by simpa [iB] using h0 u) (hge.1 u)
   ·obtain ⟨q,a,rfl⟩:∃q a,r=q++[a]:=⟨r.dropLast,r.getLast he,(List.dropLast_concat_getLast he).symm⟩
    obtain ⟨m',k1,k2,k3,k4⟩:=iD.1 hw'
    have e:a.2.1=v:=k4
    subst e
    have h1:=hr q u m' k1 hu (by simp at hl; omega)
    have h2:=hge.2 a k2
    rw [<-k3] at h1
    rw [fm]
    simp only [iB]
    omega
theorem mu {n:Nat} {L:List cR} (hL:∀a∈L,a.1<n/\a.2.1<n):(bX L n).2=true↔wI L n:=by
 constructor
 ·intro h
  exact q8 ((q7 hL n _ (by simp) (lF L n) (fun v=>by rw [iS]; exact Int.le_refl _)).2.2.2 h) n
 ·intro h
  refine FA hL h n 0 _ (by omega) (by simp) (lF L n) (fun v=>by rw [iS]; exact Int.le_refl _) fun r u v hw _ hl=>?_
  have:r=[]:=List.length_eq_zero_iff.1 (by omega)
  subst this
  rw [iS]; simp [iB]
theorem kw {n:Nat} {L:List cR} (hL:∀a∈L,a.1<n/\a.2.1<n):(bX L n).1.length=n/\(∀v,0<=(bX L n).1.getD v 0)/\ym L n (bX L n).1/\((bX L n).2=true->jZ L (bX L n).1) /\
  ∀x:List Int,jZ L x->(∀v,v<n->0<=x.getD v 0)->∀v,v<n->(bX L n).1.getD v 0<=x.getD v 0:=by
 obtain ⟨h1,h2,h3,h4⟩:=q7 hL n _ (by simp) (lF L n) (fun v=>by rw [iS]; exact Int.le_refl _)
 refine ⟨h1,h3,h2,h4,fun x hx h0 v hv=>?_⟩
 obtain ⟨u,r,k1,k2,k3⟩:=h2 v hv
 have:=ji hx k2
 have:=h0 u k1
 unfold bX
 omega
end
def lar (p:Int) (l:List a6):List cR:=l.map fun a=>(a.f.toNat,a.t.toNat,a.len p)
theorem oj (p:Int) (l:List a6):(wAs p (num l)).length=l.length:=by simp [wAs,iw]
theorem DM (p:Int) {l:List a6} {i:Nat} (hi:i<l.length):(wAs p (num l))[i]?=some (wA p (l[i],i)):=by
 simp [wAs,eB l i hi]
theorem pc (p:Int) {l:List a6} {i:Nat} (hi:i<l.length) (A:ac) (k:IntKind):au 6 A (slA 6 (wAs p (num l))) (.int k (i:Int))=some (.fp [.int .i64 l[i].f,.int .i64 l[i].t,.int .i64 l[i].w,.int .i64 l[i].k,.int .i64 (i:Int),.int .i64 (l[i].len p)]):=
 (aR 6 (wAs p (num l))).index (A:=A) (DM p hi) rfl (by omega) k
theorem pO {s:List Int} {i:Nat} (h:i<s.length):(ax s)[i]?=some (.int .i64 (s.getD i 0)):=by
 simp [ax,h]
def Bd (lo hi:Int) (s:List Int):Prop:=∀v,v<s.length->lo<=s.getD v 0/\s.getD v 0<=hi
theorem uF {lo hi:Int} {s:List Int} {a:cR} (h:Bd lo hi s) (hf:a.1<s.length) (ht:a.2.1<s.length) (hw:a.2.2<=3000000):Bd lo (hi+3000000) (m9 s a):=fun v hv=>by
 rw [li] at hv
 rw [oB ht]
 have h1:=h v hv
 have h2:=h _ hf
 split <;> omega
theorem uY {p:Int} {l:List a6} {i:Nat} (hi:i<l.length):(lar p l)[i]?=some (l[i].f.toNat,l[i].t.toNat,l[i].len p):=by simp [lar,hi]
theorem lW {L:List cR} {i:Nat} {a:cR} (h:L[i]?=some a) (s:List Int):iQ (L.take (i+1)) s=m9 (iQ (L.take i) s) a:=by
 obtain ⟨hi,rfl⟩:=List.getElem?_eq_some_iff.1 h
 unfold iQ
 rw [List.take_succ_eq_append_getElem hi,List.foldl_append]
 rfl
theorem rG:∀ {L:List cR} {i:Nat} {a:cR},L[i]?=some a->∀s,upL (L.take (i+1)) s=(upL (L.take i) s || decide ((iQ (L.take i) s).getD a.1 0+a.2.2 > (iQ (L.take i) s).getD a.2.1 0))
 | [],i,a,h,s=>by simp at h
 | b :: L,0,a,h,s=>by
  simp at h; subst h
  simp [upL,iQ]
 | b :: L,i+1,a,h,s=>by
  simp only [List.getElem?_cons_succ] at h
  have:=rG h (m9 s b)
  simp only [List.take_succ_cons,upL,this,Bool.or_assoc]
  rfl
def Lz:MC:=.region [⟨none,.indexSl 6 (.var 5) (.var 7),none⟩,⟨none,.load true 6 (.tmp 0),none⟩,⟨some 3,.alloc 6 (.agg [.int .i64 0,.int .i64 0,.int .i64 0,.int .i64 0,.int .i64 0,.int .i64 0]),none⟩,⟨none,.store 6 (.var 3) (.tmp 1),none⟩]
def Ly:MC:=.region [⟨none,.mv (.var 1),none⟩,⟨none,.fieldAddr 0 (.var 3),none⟩,⟨none,.fieldAddr 0 (.tmp 1),none⟩,⟨none,.load false 1 (.tmp 2),none⟩,⟨none,.indexSl 1 (.tmp 0) (.tmp 3),none⟩,⟨none,.load false 1 (.tmp 4),none⟩,⟨none,.fieldAddr 5 (.var 3),none⟩,⟨none,.load false 1 (.tmp 6),none⟩,⟨none,.bin .add (.tmp 5) (.tmp 7),none⟩,⟨some 4,.mv (.tmp 8),none⟩]
def Lx:MC:=.region [⟨none,.mv (.var 4),none⟩,⟨none,.mv (.var 1),none⟩,⟨none,.fieldAddr 0 (.var 3),none⟩,⟨none,.fieldAddr 1 (.tmp 2),none⟩,⟨none,.load false 1 (.tmp 3),none⟩,⟨none,.indexSl 1 (.tmp 1) (.tmp 4),none⟩,⟨none,.load false 1 (.tmp 5),none⟩,⟨some 9,.bin .gtr (.tmp 0) (.tmp 6),none⟩]
def Lw:MC:=.region [⟨none,.mv (.var 1),none⟩,⟨none,.fieldAddr 0 (.var 3),none⟩,⟨none,.fieldAddr 1 (.tmp 1),none⟩,⟨none,.load false 1 (.tmp 2),none⟩,⟨none,.mv (.var 4),none⟩,⟨none,.indexSl 1 (.tmp 0) (.tmp 3),none⟩,⟨none,.store 1 (.tmp 5) (.tmp 4),none⟩,⟨some 2,.mv (.cst (.bool true)),none⟩]
theorem zy:mq=.seq (.region [⟨some 8,.bin .lss (.var 7) (.var 6),none⟩]) (.seq (.cond (.var 8) .skip (.exit 0)) (.seq (.seq (.block 1 (.seq Lz (.seq Ly (.seq Lx (.cond (.var 9) Lw .skip))))) (.kill [0,3,4,8,9])) (.region [⟨none,.bin .add (.var 7) (.cst (.int .i64 1)),none⟩,⟨some 7,.mv (.tmp 0),none⟩]))):=rfl
theorem r37a (E:Env) (fuel:Nat) (K:List KC) (A:ac) (X:MC) {p:Int} {l:List a6} {i:Nat} (hi:i<l.length) (v1 v2 v6 v8:AV) :
  run E fuel (.code (.seq Lz X) :: K) [.undef,v1,v2,.undef,.undef,slA 6 (wAs p (num l)),v6,.int .i64 (i:Int),v8,.undef] A =
   run E fuel (.code X :: K) [.undef,v1,v2,.ptr A.length 0 0,.undef,slA 6 (wAs p (num l)),v6,.int .i64 (i:Int),v8,.undef] (A++[.row 6 false [wA p (l[i],i)]]):=by
 have x1:=pc p hi A .i64
 obtain ⟨W,hW⟩:∃W,W=slA 6 (wAs p (num l)):=⟨_,rfl⟩
 rw [<-hW] at x1 ⊢
 simp [Lz,x1,wA,-au]
def zw (A0:ac) (id:Nat) (s:List Int) (A:ac):Prop:=A[id]?=some (.row 1 false (ax s))/\A0.length<=A.length/\∀j,j≠id->j<A0.length->A[j]?=A0[j]?
theorem vb (s:List Int) (i:Nat) (z:Int):(ax s).set i (.int .i64 z)=ax (s.set i z):=by
 unfold ax; rw [List.map_set]
theorem Bo (E:Env) (fuel:Nat) {A0 A:ac} {id n:Nat} {s:List Int} {p:Int} {l:List a6} (hn:s.length=n) (hp:bZ p) (hv:∀x∈l,okA n x) (hn32:n<=32) (hl200:l.length<=200) {i:Nat} (hi:i<l.length) {b:Bool} (hb:Bd (-100000000000000) 100000000000000 s) (_hid:id<A0.length) (hI:zw A0 id s A) :
  ∃A',run E fuel [.code mq] (lN (.sl id 0 n) (.bool b) (slA 6 (wAs p (num l))) (.int .i64 (l.length:Int)) (.int .i64 (i:Int))) A=some (.normal (lN (.sl id 0 n) (.bool (b || decide (s.getD l[i].f.toNat 0+l[i].len p > s.getD l[i].t.toNat 0))) (slA 6 (wAs p (num l))) (.int .i64 (l.length:Int)) (.int .i64 ((i+1:Nat):Int))) A')/\zw A0 id (m9 s (l[i].f.toNat,l[i].t.toNat,l[i].len p)) A':=by
 obtain ⟨g1,g2,g3⟩:=hI
 have hmem:=hv _ (List.getElem_mem hi)
 obtain ⟨f,hf,hfn⟩:=mh hmem.1
 obtain ⟨t,ht,htn⟩:=mh hmem.2.1
 have hv32:okA 32 l[i]:=by
  obtain ⟨h1,h2,h3,h4⟩:=hmem
  exact ⟨by omega,by omega,h3,h4⟩
 obtain ⟨k1,k2,_,_⟩:=gg hv32 hp
 obtain ⟨w,hw⟩:∃w,w=l[i].len p:=⟨_,rfl⟩
 obtain ⟨B,hB⟩:∃B,B=A++[.row 6 false [wA p (l[i],i)]]:=⟨_,rfl⟩
 have r1:=fun K X=>r37a E fuel K A X (p:=p) hi (.sl id 0 n) (.bool b) (.int .i64 (l.length:Int)) (.bool true)
 rw [<-hB] at r1
 have hidA:id<A.length:=(List.getElem?_eq_some_iff.1 g1).1
 have c1:B[id]?=some (.row 1 false (ax s)):=by rw [hB,List.getElem?_append_left hidA]; exact g1
 have c8:B[A.length]?=some (.row 6 false [.agg [.int .i64 (f:Int),.int .i64 (t:Int),.int .i64 l[i].w,.int .i64 l[i].k,.int .i64 (i:Int),.int .i64 w]]):=by
  rw [hB,hw]; simp [wA,hf,ht]
 obtain ⟨i8,hi8⟩:∃i8,i8=A.length:=⟨_,rfl⟩
 rw [<-hi8] at r1 c8
 have hBl:A0.length<=B.length:=by rw [hB]; simp; omega
 have hBo:∀j,j≠id->j<A0.length->B[j]?=A0[j]?:=fun j hj hl=>by rw [hB,List.getElem?_append_left (by omega)]; exact g3 j hj hl
 have ef:=pO (s:=s) (i:=f) (by omega)
 have et:=pO (s:=s) (i:=t) (by omega)
 have bf:=hb f (by omega)
 have bt:=hb t (by omega)
 rw [<-hw] at k1 k2
 have e1:l[i].f.toNat=f:=by omega
 have e2:l[i].t.toNat=t:=by omega
 rw [e1,e2,<-hw]
 obtain ⟨x,hx⟩:∃x,x=s.getD f 0:=⟨_,rfl⟩
 obtain ⟨y,hy⟩:∃y,y=s.getD t 0:=⟨_,rfl⟩
 rw [<-hx] at ef bf ⊢
 rw [<-hy] at et bt ⊢
 have b2:aq .add (.int .i64 x) (.int .i64 w)=some (.int .i64 (x+w)):=by
  simp only [aq]; rw [if_pos trivial,dB (by unfold inI; omega)]
 have b4:aq .gtr (.int .i64 (x+w)) (.int .i64 y)=some (.bool (decide (x+w > y))):=by simp [aq]
 have b1:=bw i l.length .i64
 rw [decide_eq_true hi] at b1
 have b3:=aY i (by omega)
 obtain ⟨i1,hi1⟩:∃i1:Nat,i1=i+1:=⟨_,rfl⟩
 rw [<-hi1] at b3 ⊢
 have er:m9 s (f,t,w)=if x+w > y then s.set t (x+w) else s:=by unfold m9; rw [hx,hy]
 rw [er]
 obtain ⟨z,hz⟩:∃z,z=x+w:=⟨_,rfl⟩
 rw [<-hz] at b2 b4 ⊢
 obtain ⟨W,hW⟩:∃W,W=slA 6 (wAs p (num l)):=⟨_,rfl⟩
 rw [<-hW] at r1 ⊢
 have hfn':f<n:=by omega
 have htn':t<n:=by omega
 by_cases hc:z > y
 ·rw [if_pos hc]
  rw [decide_eq_true hc] at b4 ⊢
  refine ⟨B.set id (.row 1 false (ax (s.set t z))),?_,?_,?_,?_⟩
  ·rw [<-vb]
   rw [zy]
   simp [b1,b3,r1,Ly,Lx,Lw,c1,c8,ef,et,b2,b4,hfn',htn',-aq]
  ·exact List.getElem?_set_self (by rw [hB]; simp; omega)
  ·simp; omega
  ·intro j hj hl
   rw [List.getElem?_set_ne (Ne.symm hj)]; exact hBo j hj hl
 ·rw [if_neg hc]
  rw [decide_eq_false hc] at b4 ⊢
  refine ⟨B,?_,c1,hBl,hBo⟩
  rw [zy]
  simp [b1,b3,r1,Ly,Lx,Lw,c1,c8,ef,et,b2,b4,hfn',htn',-aq]
theorem ev37 {E:Env} {A:ac} {id n:Nat} {s:List Int} {p:Int} {l:List a6} (hn:s.length=n) (hp:bZ p) (hv:∀x∈l,okA n x) (hn32:n<=32) (hl200:l.length<=200) {hi:Int} (hb:Bd (-1000000000000) hi s) (hhi:hi<=1000000000000) (hid:A[id]?=some (.row 1 false (ax s))) :
  ∃A',bA E 300 uP [cB n p l,.sl id 0 n] A=some (.bool (upL (lar p l) s),A')/\zw A id (iQ (lar p l) s) A':=by
 have hlt:=(List.getElem?_eq_some_iff.1 hid).1
 have hlen:(lar p l).length=l.length:=by simp [lar]
 have bd:∀i,i<=l.length->Bd (-1000000000000) (hi+3000000*i) (iQ ((lar p l).take i) s):=by
  intro i
  induction i with
  | zero=>intro _; simpa [iQ] using hb
  | succ i ih=>
   intro hi'
   have h1:=ih (by omega)
   have h2:=uY (p:=p) (l:=l) (i:=i) (by omega)
   rw [lW h2]
   have hmem:=hv _ (List.getElem_mem (show i<l.length by omega))
   obtain ⟨q1,q2,q3,q4⟩:=hmem
   have hle:=gg (n:=32) (a:=l[i]) ⟨by omega,by omega,q3,q4⟩ hp
   have:=uF (a:=(l[i].f.toNat,l[i].t.toNat,l[i].len p)) h1 (by rw [dM]; simp only; omega) (by rw [dM]; simp only; omega) (by simp only; omega)
   intro v hv'
   have:=this v hv'
   omega
 obtain ⟨o,h1,A',h2,h3⟩:=fq (E:=E) (fuel:=300) (a:=mq) (mask:=lq) (fun k σ B=>∃i,i+k=l.length/\σ=lN (.sl id 0 n) (.bool (upL ((lar p l).take i) s)) (slA 6 (wAs p (num l))) (.int .i64 (l.length:Int)) (.int .i64 (i:Int))/\zw A id (iQ ((lar p l).take i) s) B)
  (fun o=>∃A',zw A id (iQ (lar p l) s) A'/\o=.exit 0 ((lN (.sl id 0 n) (.bool (upL (lar p l) s)) (slA 6 (wAs p (num l))) (.int .i64 (l.length:Int)) (.int .i64 (l.length:Int))).set 8 (.bool false)) A')
  (by
   rintro k σ B ⟨i,hik,rfl,hI⟩
   rw [zt]
   by_cases hi':i<l.length
   ·have hb':=bd i (by omega)
    have h2:=uY (p:=p) hi'
    obtain ⟨B',h1,h3⟩:=Bo E 300 (s:=iQ ((lar p l).take i) s) (n:=n) (b:=upL ((lar p l).take i) s) (by rw [dM,hn]) hp hv hn32 hl200 hi' (fun v hv'=>by have:=hb' v hv'; omega) hlt hI
    refine .inl ⟨_,_,h1,k-1,by omega,i+1,by omega,?_,?_⟩
    ·rw [rG h2]
    ·rw [lW h2]; exact h3
   ·obtain rfl:i=l.length:=by omega
    rw [List.take_of_length_le (by omega)] at hI ⊢
    refine .inr ⟨_,?_,?_,B,hI,rfl⟩
    ·simp [mq]
    ·intro _ _ h; cases h)
  300 l.length (lN (.sl id 0 n) (.bool false) (slA 6 (wAs p (num l))) (.int .i64 (l.length:Int)) (.int .i64 0)) A (by omega) ⟨0,by omega,by simp [upL],by simpa [iQ] using ⟨hid,Nat.le_refl _,fun _ _ _=>rfl⟩⟩
 refine ⟨A',?_,h2⟩
 subst h3
 rw [bH _ _ rfl]
 have hlen2:ay (slA 6 (wAs p (num l)))=some (.int .i64 (l.length:Int)):=by rw [oH,oj]
 unfold cB
 obtain ⟨W,hW⟩:∃W,W=slA 6 (wAs p (num l)):=⟨_,rfl⟩
 rw [<-hW] at h1 hlen2 ⊢
 simp [uP,hlen2,FL h1,eH,-ay]
theorem yA:an Tryz.prog GC 62 (fun _=>bA (ai GC []) 300 uP):=(aN (aj aw) rfl at37 GK a5.nil).y
theorem aH (xs:List Int):(ax xs).length=xs.length:=by simp [ax]
theorem Kj (E:Env) (fuel:Nat) {A:ac} {a:AV} {xs:List Int} (h:rB A 1 a (ax xs)) (hne:xs≠[]) (hl:xs.length<=1000):bA E fuel r9 [a] A=some (.sl (A.length+1) 0 xs.length,A++[.dead,.row 1 false (ax xs)]):=by
 have hne':ax xs≠[]:=by simpa [ax] using hne
 have hlen:(ax xs).length=xs.length:=by simp [ax]
 rw [bH _ _ rfl]
 obtain ⟨es,hes⟩:∃es,es=ax xs:=⟨_,rfl⟩
 rw [<-hes] at h hne' hlen ⊢
 rw [<-hlen] at hl ⊢
 have hb:es.length*8<=140737488355328:=by omega
 rcases h with h | ⟨id,off,gr,rs,rfl,h1,h2⟩
 ·rcases h with ⟨_,h⟩ | rfl
  ·exact absurd h hne'
  ·simp [r9,eH,aO,aQ,hb]
 ·have hid:=(List.getElem?_eq_some_iff.1 h1).1
  have h1':∀T,(A++T)[id]?=some (.row 1 gr rs):=fun T=>by rw [List.getElem?_append_left hid,h1]
  simp [r9,eH,aO,aQ,h1',h2,hb]
theorem nJ:an Tryz.prog GC 63 (fun _=>bA (ai GC []) 0 r9):=(aN (aj aw) rfl Ku vQ a5.nil).y
def oL:List (FuncId × aD):=[(62,fun _=>bA (ai GC []) 300 uP),(63,fun _=>bA (ai GC []) 0 r9)]
@[simp] theorem Jz:aI oL 62=some (fun _=>bA (ai GC []) 300 uP):=rfl
@[simp] theorem Jy:aI oL 63=some (fun _=>bA (ai GC []) 0 r9):=rfl
theorem qJ:∀f M,aI oL f=some M->an Tryz.prog GC f M:=ae yA (ae nJ aw)
def M26:aG:=fun args=>evF (ai GC oL) 300 pF 5 args
theorem oq:br Tryz.prog GC 52 M26:=br.of_ev (E:=ai GC oL) (aj qJ) rfl G4 qd 5 fun _ _ h=>⟨300,h⟩
theorem BC {n:Nat} {p:Int} {l:List a6} (hp:bZ p) (hv:∀x∈l,okA n x) (hn32:n<=32) (hl200:l.length<=200) {lo hi:Int} {s:List Int} (hs:s.length=n) (hb:Bd lo hi s):Bd lo (hi+600000000) (iQ (lar p l) s):=by
 have hlen:(lar p l).length=l.length:=by simp [lar]
 have bd:∀i,i<=l.length->Bd lo (hi+3000000*i) (iQ ((lar p l).take i) s):=by
  intro i
  induction i with
  | zero=>intro _; simpa [iQ] using hb
  | succ i ih=>
   intro hi'
   have h1:=ih (by omega)
   have h2:=uY (p:=p) (l:=l) (i:=i) (by omega)
   rw [lW h2]
   have hmem:=hv _ (List.getElem_mem (show i<l.length by omega))
   obtain ⟨q1,q2,q3,q4⟩:=hmem
   have hle:=gg (n:=32) (a:=l[i]) ⟨by omega,by omega,q3,q4⟩ hp
   have:=uF (a:=(l[i].f.toNat,l[i].t.toNat,l[i].len p)) h1 (by rw [dM]; simp only; omega) (by rw [dM]; simp only; omega) (by simp only; omega)
   intro v hv'
   have:=this v hv'
   omega
 have:=bd l.length (Nat.le_refl _)
 rw [List.take_of_length_le (by omega)] at this
 intro v hv'
 have:=this v hv'
 omega
theorem wi {A:ac} {id n:Nat} {s:List Int} {p:Int} {l:List a6} (hn:s.length=n) (hp:bZ p) (hv:∀x∈l,okA n x) (hn32:n<=32) (hl200:l.length<=200) {hi:Int} (hb:Bd (-1000000000000) hi s) (hhi:hi<=1000000000000) (hid:A[id]?=some (.row 1 false (ax s))) :
  ∃A',bA (ai GC []) 300 uP [cB n p l,.sl id 0 n] A=some (.bool (upL (lar p l) s),A')/\zw A id (iQ (lar p l) s) A':=ev37 hn hp hv hn32 hl200 hb hhi hid
def el (L:List cR):Nat->List Int->List Int
 | 0,s=>s
 | k+1,s=>iQ L (el L k s)
theorem dz (L:List cR) (s:List Int):∀k,(el L k s).length=s.length
 | 0=>rfl
 | k+1=>by rw [el,dM,dz L s k]
theorem uD {L:List cR} {s:List Int} (h:upL L s=false):∀k,el L k s=s
 | 0=>rfl
 | k+1=>by rw [el,uD h k,(eG h).1]
theorem iY (L:List cR) (s:List Int):∀k,el L (k+1) s=el L k (iQ L s)
 | 0=>rfl
 | k+1=>by rw [el,iY L s k]; rfl
theorem yL (L:List cR):∀(m:Nat) (s:List Int),lev L m s=if _h:∃k,k<m/\upL L (el L k s)=false then (el L m s,true) else (el L m s,!upL L (el L m s))
 | 0,s=>by
  rw [dif_neg (by rintro ⟨k,h,_⟩; omega)]; rfl
 | m+1,s=>by
  unfold lev
  by_cases h:upL L s=false
  ·rw [if_pos h,dif_pos ⟨0,by omega,h⟩,uD h]
  ·rw [if_neg h,yL L m,iY]
   by_cases h2:∃k,k<m/\upL L (el L k (iQ L s))=false
   ·rw [dif_pos h2]
    obtain ⟨k,hk,h3⟩:=h2
    rw [dif_pos ⟨k+1,by omega,by rw [iY]; exact h3⟩]
   ·rw [dif_neg h2,dif_neg]
    rintro ⟨k,hk,h3⟩
    cases k with
    | zero=>exact h h3
    | succ k=>exact h2 ⟨k,by omega,by rw [iY] at h3; exact h3⟩
theorem sP {n:Nat} {p:Int} {l:List a6} (hr:cf n l p):M26 [cB n p l]=some (.tup [slA 1 (ax (bX (lar p l) n).1),.bool (bX (lar p l) n).2]):=by
 obtain ⟨⟨hn,hl200,hv⟩,hp⟩:=hr
 have hn32:n<=32:=by omega
 obtain ⟨L,hL⟩:∃L,L=lar p l:=⟨_,rfl⟩
 obtain ⟨z,hz⟩:∃z,z=List.replicate n (0:Int):=⟨_,rfl⟩
 have hzl:z.length=n:=by rw [hz]; simp
 have hbd:∀k:Nat,Bd (-1000000000000) (600000000*k) (el L k z):=by
  intro k
  induction k with
  | zero=>
   intro v hv'
   have:(el L 0 z).getD v 0=0:=by rw [el,hz]; exact iS n v
   rw [this]; omega
  | succ k ih=>
   rw [el]
   have:=BC hp hv hn32 hl200 (by rw [dz]; exact hzl) ih
   rw [<-hL] at this
   intro v hv'
   have:=this v hv'
   omega
 have h37:∀(A:ac) (k:Nat),k<=33->A[0]?=some (.row 1 false (ax (el L k z)))->∃A',bA (ai GC []) 300 uP [cB n p l,.sl 0 0 n] A=some (.bool (upL L (el L k z)),A')/\zw A 0 (el L (k+1) z) A':=fun A k hk hA=>by
  have:=wi (s:=el L k z) (by rw [dz]; exact hzl) hp hv hn32 hl200 (hbd k) (by omega) hA
  rw [<-hL] at this
  exact this
 obtain ⟨W1,O,hW⟩:∃W1 O,cB n p l=.fp [.int .i64 (n:Int),W1,O]:=⟨_,_,rfl⟩
 obtain ⟨o,h1,h2⟩:=fq (E:=ai GC oL) (fuel:=300) (a:=eK) (mask:=dO) (fun k σ A=>∃i,i+k=n/\σ=gX (cB n p l) (.sl 0 0 n) (.int .i64 (n:Int)) (.int .i64 (i:Int))/\A[0]?=some (.row 1 false (ax (el L i z)))/\∀j,j<i->upL L (el L j z)=true)
  (fun o=>(∃A' i d6 d7 ,i<n/\upL L (el L i z)=false/\(∀j,j<i->upL L (el L j z)=true)/\A'[0]?=some (.row 1 false (ax (el L (i+1) z)))/\o=.ret [cB n p l,.sl 0 0 n,.bool true,.sl 0 0 n,.int .i64 (n:Int),.int .i64 (i:Int),d6,d7] A') \/
   (∃A',(∀j,j<n->upL L (el L j z)=true)/\A'[0]?=some (.row 1 false (ax (el L n z)))/\o=.exit 0 ((gX (cB n p l) (.sl 0 0 n) (.int .i64 (n:Int)) (.int .i64 (n:Int))).set 6 (.bool false)) A'))
  (by
   rintro k σ A ⟨i,hik,rfl,hA,hup⟩
   rw [qe]
   rw [hW] at h37 ⊢
   by_cases hi':i<n
   ·obtain ⟨A',c1,c2⟩:=h37 A i (by omega) hA
    have b1:=bw i n .i64
    rw [decide_eq_true hi'] at b1
    have b3:=aY i (by omega)
    obtain ⟨i1,hi1⟩:∃i1:Nat,i1=i+1:=⟨_,rfl⟩
    rw [<-hi1] at b3
    cases hu:upL L (el L i z) with
    | true=>
     rw [hu] at c1
     refine .inl ⟨gX (.fp [.int .i64 (n:Int),W1,O]) (.sl 0 0 n) (.int .i64 (n:Int)) (.int .i64 ((i+1:Nat):Int)),A',?_,k-1,by omega,i+1,by omega,rfl,c2.1,fun j hj=>?_⟩
     ·rw [<-hi1]
      simp [eK,b1,b3,c1,-aq]
     ·by_cases hji:j=i
      ·rw [hji]; exact hu
      ·exact hup j (by omega)
    | false=>
     rw [hu] at c1
     refine .inr ⟨.ret [.fp [.int .i64 (n:Int),W1,O],.sl 0 0 n,.bool true,.sl 0 0 n,.int .i64 (n:Int),.int .i64 (i:Int),.bool true,.bool true] A',?_,(fun _ _ h=>by cases h),.inl ⟨A',i,_,_,hi',hu,hup,c2.1,rfl⟩⟩
     simp [eK,b1,c1,-aq]
   ·obtain rfl:i=n:=by omega
    refine .inr ⟨_,?_,?_,.inr ⟨A,hup,hA,rfl⟩⟩
    ·simp [eK]
    ·intro _ _ h; cases h)
  300 n (gX (cB n p l) (.sl 0 0 n) (.int .i64 (n:Int)) (.int .i64 0)) [.row 1 false (ax z)] (by omega) ⟨0,by omega,rfl,rfl,fun j hj=>by omega⟩
 have mk:cg 1 8 (.int .i64 0) [] (.int .i64 (n:Int)) (.int .i64 (n:Int))=some (.sl 0 0 n,[.row 1 false (ax z)]):=by
  have:ax z=List.replicate n (.int .i64 0):=by rw [hz]; simp [ax]
  rw [this]; simp [cg]; omega
 have hfz:∀(A:ac) (s:List Int),s.length=n->A[0]?=some (.row 1 false (ax s))->frz A 4 (.sl 0 0 n)=slA 1 (ax s)/\a9 A 4 (.sl 0 0 n)=true:=fun A s hs h0=>by
  constructor
  ·show frz A (3+1) _=_
   simp only [frz,h0,List.drop_zero]
   rw [List.take_of_length_le (by simp [ax]; omega),pS]
   cases s with
   | nil=>simp at hs; omega
   | cons x r=>rfl
  ·show a9 A (3+1) _=_
   simp only [a9,h0,List.drop_zero]
   rw [List.take_of_length_le (by simp [ax]; omega)]
   exact qr _ _ _
 have hf5:∀(A:ac) (s:List Int) (b:Bool),s.length=n->A[0]?=some (.row 1 false (ax s))->frz A 5 (.tup [.sl 0 0 n,.bool b])=.tup [slA 1 (ax s),.bool b]/\a9 A 5 (.tup [.sl 0 0 n,.bool b])=true:=fun A s b hs h0=>by
  obtain ⟨q1,q2⟩:=hfz A s hs h0
  constructor
  ·show AV.tup [frz A 4 (.sl 0 0 n),frz A 4 (.bool b)]=_
   rw [q1]; rfl
  ·show [AV.sl 0 0 n,.bool b].all (a9 A 4)=true
   simp only [List.all_cons,q2]; rfl
 have p1:∀b,eH [.sl 0 0 n,.bool b]=.tup [.sl 0 0 n,.bool b]:=fun _=>rfl
 have hlev:bX (lar p l) n=lev L n z:=by unfold bX; rw [hL,hz]
 rw [hlev,yL]
 unfold M26
 rw [gn _ _ rfl]
 rcases h2 with ⟨A',i,d6,d7,hin,hu,hup,hA',rfl⟩ | ⟨A',hup,hA',rfl⟩
 ·rw [dif_pos ⟨i,hin,hu⟩]
  have hst:el L n z=el L (i+1) z:=by
   have e:∀k,el L (i+k) z=el L i z:=fun k=>by
    induction k with
    | zero=>rfl
    | succ k ih=>rw [show i+(k+1)=(i+k)+1 by omega,el,ih,(eG hu).1]
   have h3:=e (n-i)
   have h4:=e 1
   rw [show i+(n-i)=n by omega] at h3
   rw [h3,h4]
  rw [hst]
  obtain ⟨q1,q2⟩:=hf5 A' _ true (by rw [dz]; exact hzl) hA'
  rw [hW] at h1 ⊢
  simp [pF,mk,sj h1,q1,q2,-frz,-cg]
 ·rw [dif_neg (by
   rintro ⟨k,hk,h⟩
   rw [hup k hk] at h; cases h)]
  obtain ⟨A2,c1,c2⟩:∃A2,bA (ai GC []) 300 uP [cB n p l,.sl (A'.length+1) 0 n] (A'++[.dead,.row 1 false (ax (el L n z))])=some (.bool (upL L (el L n z)),A2)/\zw (A'++[.dead,.row 1 false (ax (el L n z))]) (A'.length+1) (el L (n+1) z) A2:=by
   have:=wi (A:=A'++[.dead,.row 1 false (ax (el L n z))]) (id:=A'.length+1) (s:=el L n z) (by rw [dz]; exact hzl) hp hv hn32 hl200 (hbd n) (by omega) (by rw [List.getElem?_append_right (by omega)]; simp)
   rw [<-hL] at this
   exact this
  have hlt:=(List.getElem?_eq_some_iff.1 hA').1
  have h38:=Kj (ai GC []) 0 (A:=A') (a:=.sl 0 0 n) (xs:=el L n z) (.inr ⟨0,0,false,ax (el L n z),by rw [aH,dz,hzl],hA',by rw [List.drop_zero,List.take_length]⟩) (by
   intro h
   have:=congrArg List.length h
   rw [dz,hzl] at this
   simp at this; omega) (by rw [dz,hzl]; omega)
  rw [dz,hzl] at h38
  have hA2:A2[0]?=some (.row 1 false (ax (el L n z))):=by
   rw [c2.2.2 0 (by omega) (by simp),List.getElem?_append_left hlt,hA']
  obtain ⟨q1,q2⟩:=hf5 A2 _ (!upL L (el L n z)) (by rw [dz]; exact hzl) hA2
  rw [hW] at h1 c1 ⊢
  simp [pF,mk,sj h1,h38,c1,q1,q2,-frz,-cg]
abbrev LP:=Int × Bool
def lA (x:LP):AV:=.agg [.int .i64 x.1,.bool x.2]
def ed (x:LP) (n:Int):LP:=if x.2=false/\x.1=0 then x else (x.1+n,x.2)
def i9 (x y:LP):LP:=if x.2=false\/(y.2=true/\y.1 > x.1) then y else x
def M51:aG:=fun args=>match args with
 | [.agg [.int .i64 x,.bool b],.int .i64 n]=>if -9223372036854775808<=x+n/\x+n<=9223372036854775807 then some (lA (ed (x,b) n)) else none
 | _=>none
theorem rK:ak Tryz.prog GC 152 M51:=by
 refine ak.of_ev (E:=ai GC []) (aj aw) rfl at51 GG 2 ?_
 intro args r h
 unfold M51 at h
 split at h
 ·rename_i x b n
  simp only [Option.ite_none_right_eq_some,Option.some.injEq] at h
  obtain ⟨h1,rfl⟩:=h
  refine ⟨0,?_⟩
  have b1:aq .add (.int .i64 x) (.int .i64 n)=some (.int .i64 (x+n)):=by
   simp only [aq]; rw [if_pos trivial,dB h1]
  obtain ⟨z,hz⟩:∃z,z=x+n:=⟨_,rfl⟩
  rw [<-hz] at b1
  rw [aS _ _ rfl]
  unfold ed lA
  simp only [<-hz]
  cases b with
  | true=>simp [HL,b1,-aq]
  | false=>
   by_cases hx:x=0
   ·subst hx
    simp [HL,-aq]
   ·simp [HL,b1,hx,-aq]
 ·cases h
def M52:aG:=fun args=>match args with
 | [.agg [.int .i64 x,.bool b],.agg [.int .i64 y,.bool c]]=>some (lA (i9 (x,b) (y,c)))
 | _=>none
theorem uf:ak Tryz.prog GC 172 M52:=by
 refine ak.of_ev (E:=ai GC []) (aj aw) rfl Kn vJ 2 ?_
 intro args r h
 unfold M52 at h
 split at h
 ·rename_i x b y c
  injection h with h; subst h
  refine ⟨0,?_⟩
  have b1:aq .gtr (.int .i64 y) (.int .i64 x)=some (.bool (decide (y > x))):=by simp [aq]
  rw [aS _ _ rfl]
  unfold i9 lA
  cases b with
  | false=>simp [xL,-aq]
  | true=>
   cases c with
   | false=>simp [xL,-aq]
   | true=>
    by_cases hxy:y > x
    ·rw [decide_eq_true hxy] at b1
     simp [xL,b1,hxy,-aq]
    ·rw [decide_eq_false hxy] at b1
     simp [xL,b1,hxy,-aq]
 ·cases h
def noL:LP:=(0,false)
def hst (h:List LP) (next:List LP) (a:cR):List LP:=next.set a.1 (i9 (next.getD a.1 noL) (ed (h.getD a.2.1 noL) a.2.2))
def jl (L:List cR) (h:List LP) (n:Nat):List LP:=L.foldl (hst h) (List.replicate n noL)
def hm (L:List cR) (n to:Nat):Nat->List LP
 | 0=>(List.replicate n noL).set to (0,true)
 | j+1=>jl L (hm L n to j) n
def tK (L:List cR) (n to k:Nat):List AV:=(List.range (k+1)).map fun j=>.fs 2 ((hm L n to j).map lA)
theorem rc (h next:List LP) (a:cR):(hst h next a).length=next.length:=by simp [hst]
theorem fu (h:List LP):∀(L:List cR) (next:List LP),(L.foldl (hst h) next).length=next.length
 | [],_=>rfl
 | a :: L,next=>by rw [List.foldl_cons,fu h L,rc]
theorem sh (L:List cR) (n to:Nat):∀j,(hm L n to j).length=n
 | 0=>by simp [hm]
 | j+1=>by simp [hm,jl,fu]
def PB (B:Int) (h:List LP):Prop:=∀v,-B<=(h.getD v noL).1/\(h.getD v noL).1<=B
theorem jm {α:Type} (s:List α) (i j:Nat) (x d:α) (hi:i<s.length):(s.set i x).getD j d=if i=j then x else s.getD j d:=by
 rw [List.getD_eq_getElem?_getD,List.getD_eq_getElem?_getD]
 by_cases h:i=j
 ·subst h
  rw [List.getElem?_set_self hi,if_pos rfl]; rfl
 ·rw [List.getElem?_set_ne h,if_neg h]
theorem BO {B:Int} {x y:LP} (h1 : -B<=x.1/\x.1<=B) (h2 : -B<=y.1/\y.1<=B) : -B<=(i9 x y).1/\(i9 x y).1<=B:=by
 unfold i9; split
 ·exact h2
 ·exact h1
theorem BJ {B w:Int} {x:LP} (h1 : -B<=x.1/\x.1<=B) (h2 : -3000000<=w/\w<=3000000) : -(B+3000000)<=(ed x w).1/\(ed x w).1<=B+3000000:=by
 unfold ed; split
 ·omega
 ·simp only; omega
theorem FG {B:Int} {h next:List LP} {a:cR} (h1:PB B h) (h2:PB (B+3000000) next) (hw : -3000000<=a.2.2/\a.2.2<=3000000) (hf:a.1<next.length):PB (B+3000000) (hst h next a):=fun v=>by
 unfold hst
 rw [jm _ _ _ _ _ hf]
 split
 ·exact BO (h2 _) (BJ (h1 _) hw)
 ·exact h2 v
theorem uB {B:Int} (hB:0<=B) (n:Nat):PB B (List.replicate n noL):=fun v=>by
 have:(List.replicate n noL).getD v noL=noL:=by
  rw [List.getD_eq_getElem?_getD]
  by_cases h:v<n <;> simp [h]
 rw [this]; simp [noL]; omega
def qw (n:Nat) (L:List cR):Prop:=∀a∈L,a.1<n/\a.2.1<n /\ -3000000<=a.2.2/\a.2.2<=3000000
theorem se {n:Nat} {p:Int} {l:List a6} (hn:n<=32) (hp:bZ p) (hv:∀x∈l,okA n x):qw n (lar p l):=fun a ha=>by
 obtain ⟨x,hx,rfl⟩:=List.mem_map.1 ha
 obtain ⟨q1,q2,q3,q4⟩:=hv x hx
 have hle:=gg (n:=32) (a:=x) ⟨by omega,by omega,q3,q4⟩ hp
 simp only
 omega
theorem sq {n:Nat} {B:Int} {h:List LP} (h1:PB B h):∀ {L:List cR} {next:List LP},qw n L->next.length=n->PB (B+3000000) next->PB (B+3000000) (L.foldl (hst h) next)
 | [],_,_,_,h2=>h2
 | a :: L,next,hL,hn,h2=>by
  rw [List.foldl_cons]
  obtain ⟨q1,q2,q3⟩:=hL a (by simp)
  exact sq h1 (fun b hb=>hL b (by simp [hb])) (by rw [rc,hn]) (FG h1 h2 q3 (by omega))
theorem Ct {n:Nat} {L:List cR} (hL:qw n L) (to:Nat):∀j:Nat,PB (3000000*j) (hm L n to j)
 | 0=>fun v=>by
  unfold hm
  by_cases h:to<n
  ·rw [jm _ _ _ _ _ (by simpa using h)]
   split
   ·simp
   ·have:=uB (B:=0) (by omega) n v
    omega
  ·rw [List.set_eq_of_length_le (by simp; omega)]
   have:=uB (B:=0) (by omega) n v
   omega
 | j+1=>by
  have h1:=Ct hL to j
  have:=sq h1 hL (next:=List.replicate n noL) (by simp) (uB (by omega) n)
  intro v
  have:=this v
  simp only [hm,jl]
  omega
theorem uZ {h:List LP} {i:Nat} (hi:i<h.length):(h.map lA)[i]?=some (.agg [.int .i64 (h.getD i noL).1,.bool (h.getD i noL).2]):=by
 simp [hi,lA]
def Lh:MC:=.region [⟨none,.indexSl 6 (.var 11) (.var 13),none⟩,⟨none,.load true 6 (.tmp 0),none⟩,⟨some 7,.alloc 6 (.agg [.int .i64 0,.int .i64 0,.int .i64 0,.int .i64 0,.int .i64 0,.int .i64 0]),none⟩,⟨none,.store 6 (.var 7) (.tmp 1),none⟩]
def Mv:MC:=.region [⟨none,.mv (.var 6),none⟩,⟨none,.fieldAddr 0 (.var 7),none⟩,⟨none,.fieldAddr 0 (.tmp 1),none⟩,⟨none,.load false 1 (.tmp 2),none⟩,⟨none,.mv (.var 6),none⟩,⟨none,.fieldAddr 0 (.var 7),none⟩,⟨none,.fieldAddr 0 (.tmp 5),none⟩,⟨none,.load false 1 (.tmp 6),none⟩,⟨none,.indexSl 2 (.tmp 4) (.tmp 7),none⟩,⟨none,.load true 2 (.tmp 8),none⟩,⟨none,.mv (.var 5),none⟩,⟨none,.fieldAddr 0 (.var 7),none⟩,⟨none,.fieldAddr 1 (.tmp 11),none⟩,⟨none,.load false 1 (.tmp 12),none⟩,⟨none,.indexSl 2 (.tmp 10) (.tmp 13),none⟩,⟨none,.load true 2 (.tmp 14),none⟩,⟨none,.fieldAddr 5 (.var 7),none⟩,⟨none,.load false 1 (.tmp 16),none⟩,⟨none,.call (.fn 152) [.tmp 15,.tmp 17],none⟩,⟨none,.call (.fn 172) [.tmp 9,.tmp 18],none⟩,⟨none,.indexSl 2 (.tmp 0) (.tmp 3),none⟩,⟨none,.store 2 (.tmp 20) (.tmp 19),none⟩]
theorem G6:kr=.seq (.region [⟨some 14,.bin .lss (.var 13) (.var 12),none⟩]) (.seq (.cond (.var 14) .skip (.exit 2)) (.seq (.seq (.block 3 (.seq Lh Mv)) (.kill [1,2,3,7,10,14])) (.region [⟨none,.bin .add (.var 13) (.cst (.int .i64 1)),none⟩,⟨some 13,.mv (.tmp 0),none⟩]))):=rfl
def vl:List (FuncId × aD):=[(152,aF 4 M51),(172,aF 4 M52)]
@[simp] theorem I7:aI vl 152=some (aF 4 M51):=rfl
@[simp] theorem I6:aI vl 172=some (aF 4 M52):=rfl
theorem AQ:∀f M,aI vl f=some M->an Tryz.prog GC f M:=ae (an.of_pure rK 4) (ae (an.of_pure uf 4) aw)
theorem r48a (E:Env) (fuel:Nat) (K:List KC) (A:ac) (X:MC) {p:Int} {l:List a6} {i:Nat} (hi:i<l.length) (v0 v4 v5 v6 v8 v9 v12 v14:AV) :
  run E fuel (.code (.seq Lh X) :: K) [v0,.undef,.undef,.undef,v4,v5,v6,.undef,v8,v9,.undef,slA 6 (wAs p (num l)),v12,.int .i64 (i:Int),v14] A =
   run E fuel (.code X :: K) [v0,.undef,.undef,.undef,v4,v5,v6,.ptr A.length 0 0,v8,v9,.undef,slA 6 (wAs p (num l)),v12,.int .i64 (i:Int),v14] (A++[.row 6 false [wA p (l[i],i)]]):=by
 have x1:=pc p hi A .i64
 obtain ⟨W,hW⟩:∃W,W=slA 6 (wAs p (num l)):=⟨_,rfl⟩
 rw [<-hW] at x1 ⊢
 simp [Lh,x1,wA,-au]
def Hy (A0:ac) (id:Nat) (A:ac):Prop:=A0.length<=A.length/\∀j,j≠id->j<A0.length->A[j]?=A0[j]?
theorem FB (h:List LP) (i:Nat) (z:LP):(h.map lA).set i (lA z)=(h.set i z).map lA:=by rw [List.map_set]
theorem Bm (fuel:Nat) {A0 A:ac} {n idL idN:Nat} {h nx:List LP} {p:Int} {l:List a6} (hn:h.length=n) (hx:nx.length=n) (hp:bZ p) (hv:∀x∈l,okA n x) (hn32:n<=32) (hl200:l.length<=200) {i:Nat} (hi:i<l.length) (hb:PB 1000000000 h) (hLN:idL≠idN) (hid:idN<A0.length) (hidL:idL<A0.length) (hL:A0[idL]?=some (.row 2 false (h.map lA))) (hN:A[idN]?=some (.row 2 false (nx.map lA))) (hK:Hy A0 idN A) (v0 v4 v8 v9:AV) :
  ∃A',run (ai GC vl) fuel [.code kr] (kf v0 v4 (.sl idL 0 n) (.sl idN 0 n) v8 v9 (slA 6 (wAs p (num l))) (.int .i64 (l.length:Int)) (.int .i64 (i:Int))) A=some (.normal (kf v0 v4 (.sl idL 0 n) (.sl idN 0 n) v8 v9 (slA 6 (wAs p (num l))) (.int .i64 (l.length:Int)) (.int .i64 ((i+1:Nat):Int))) A') /\
   A'[idN]?=some (.row 2 false ((hst h nx (l[i].f.toNat,l[i].t.toNat,l[i].len p)).map lA))/\Hy A0 idN A':=by
 obtain ⟨g2,g3⟩:=hK
 have hmem:=hv _ (List.getElem_mem hi)
 obtain ⟨f,hf,hfn⟩:=mh hmem.1
 obtain ⟨t,ht,htn⟩:=mh hmem.2.1
 have hv32:okA 32 l[i]:=by
  obtain ⟨h1,h2,h3,h4⟩:=hmem
  exact ⟨by omega,by omega,h3,h4⟩
 obtain ⟨k1,k2,_,_⟩:=gg hv32 hp
 obtain ⟨w,hw⟩:∃w,w=l[i].len p:=⟨_,rfl⟩
 obtain ⟨B,hB⟩:∃B,B=A++[.row 6 false [wA p (l[i],i)]]:=⟨_,rfl⟩
 have r1:=fun K X=>r48a (ai GC vl) fuel K A X (p:=p) hi v0 v4 (.sl idL 0 n) (.sl idN 0 n) v8 v9 (.int .i64 (l.length:Int)) (.bool true)
 rw [<-hB] at r1
 have cN:B[idN]?=some (.row 2 false (nx.map lA)):=by rw [hB,List.getElem?_append_left (by omega)]; exact hN
 have cL:B[idL]?=some (.row 2 false (h.map lA)):=by rw [hB,List.getElem?_append_left (by omega),g3 idL hLN hidL]; exact hL
 have c8:B[A.length]?=some (.row 6 false [.agg [.int .i64 (f:Int),.int .i64 (t:Int),.int .i64 l[i].w,.int .i64 l[i].k,.int .i64 (i:Int),.int .i64 w]]):=by
  rw [hB,hw]; simp [wA,hf,ht]
 obtain ⟨i8,hi8⟩:∃i8,i8=A.length:=⟨_,rfl⟩
 rw [<-hi8] at r1 c8
 have hBl:A0.length<=B.length:=by rw [hB]; simp; omega
 have hBo:∀j,j≠idN->j<A0.length->B[j]?=A0[j]?:=fun j hj hl=>by rw [hB,List.getElem?_append_left (by omega)]; exact g3 j hj hl
 rw [<-hw] at k1 k2
 have e1:l[i].f.toNat=f:=by omega
 have e2:l[i].t.toNat=t:=by omega
 rw [e1,e2,<-hw]
 have ef:=uZ (h:=nx) (i:=f) (by omega)
 have et:=uZ (h:=h) (i:=t) (by omega)
 have bt:=hb t
 unfold hst
 simp only
 obtain ⟨x,hx1⟩:∃x,x=nx.getD f noL:=⟨_,rfl⟩
 obtain ⟨y,hy1⟩:∃y,y=h.getD t noL:=⟨_,rfl⟩
 rw [<-hx1] at ef ⊢
 rw [<-hy1] at et bt ⊢
 have m1:M51 [.agg [.int .i64 y.1,.bool y.2],.int .i64 w]=some (.agg [.int .i64 (ed y w).1,.bool (ed y w).2]):=if_pos (by omega)
 have m2:M52 [.agg [.int .i64 x.1,.bool x.2],.agg [.int .i64 (ed y w).1,.bool (ed y w).2]]=some (.agg [.int .i64 (i9 x (ed y w)).1,.bool (i9 x (ed y w)).2]):=rfl
 have b1:=bw i l.length .i64
 rw [decide_eq_true hi] at b1
 have b3:=aY i (by omega)
 obtain ⟨i1,hi1⟩:∃i1:Nat,i1=i+1:=⟨_,rfl⟩
 rw [<-hi1] at b3 ⊢
 rw [<-FB]
 obtain ⟨q,hq⟩:∃q,q=ed y w:=⟨_,rfl⟩
 rw [<-hq] at m1 m2 ⊢
 obtain ⟨z,hz⟩:∃z,z=i9 x q:=⟨_,rfl⟩
 rw [<-hz] at m2 ⊢
 obtain ⟨q1,q2⟩:=q
 obtain ⟨z1,z2⟩:=z
 obtain ⟨x1,x2⟩:=x
 obtain ⟨y1,y2⟩:=y
 simp only at m1 m2 ef et
 obtain ⟨W,hW⟩:∃W,W=slA 6 (wAs p (num l)):=⟨_,rfl⟩
 rw [<-hW] at r1 ⊢
 obtain ⟨nxa,hnxa⟩:∃nxa,nxa=nx.map lA:=⟨_,rfl⟩
 obtain ⟨ha,hha⟩:∃ha,ha=h.map lA:=⟨_,rfl⟩
 rw [<-hnxa] at cN ef ⊢
 rw [<-hha] at cL et
 have hfn':f<n:=by omega
 have htn':t<n:=by omega
 refine ⟨B.set idN (.row 2 false (nxa.set f (lA (z1,z2)))),?_,?_,?_,?_⟩
 ·rw [G6]
  simp [b1,b3,r1,Mv,cN,cL,c8,ef,et,m1,m2,hfn',htn',lA,-aq]
 ·exact List.getElem?_set_self (by omega)
 ·simp; omega
 ·intro j hj hl
  rw [List.getElem?_set_ne (Ne.symm hj)]; exact hBo j hj hl
theorem Fs (fuel:Nat) {A:ac} {n idL idN:Nat} {h:List LP} {p:Int} {l:List a6} (hn:h.length=n) (hp:bZ p) (hv:∀x∈l,okA n x) (hn32:n<=32) (hl200:l.length<=200) (hf:200<fuel) (hb:PB 1000000000 h) (hLN:idL≠idN) (hL:A[idL]?=some (.row 2 false (h.map lA))) (hN:A[idN]?=some (.row 2 false ((List.replicate n noL).map lA))) (v0 v4 v8 v9:AV) :
  ∃A',bM (evC (ai GC vl) fuel kr) jb fuel (kf v0 v4 (.sl idL 0 n) (.sl idN 0 n) v8 v9 (slA 6 (wAs p (num l))) (.int .i64 (l.length:Int)) (.int .i64 0)) A=some (.exit 2 ((kf v0 v4 (.sl idL 0 n) (.sl idN 0 n) v8 v9 (slA 6 (wAs p (num l))) (.int .i64 (l.length:Int)) (.int .i64 (l.length:Int))).set 14 (.bool false)) A') /\
   A'[idN]?=some (.row 2 false ((jl (lar p l) h n).map lA))/\Hy A idN A':=by
 have hidN:=(List.getElem?_eq_some_iff.1 hN).1
 have hidL:=(List.getElem?_eq_some_iff.1 hL).1
 have hlen:(lar p l).length=l.length:=by simp [lar]
 obtain ⟨o,h1,A',h2,h3,h4⟩:=fq (E:=ai GC vl) (fuel:=fuel) (a:=kr) (mask:=jb) (fun k σ B=>∃i,i+k=l.length/\σ=kf v0 v4 (.sl idL 0 n) (.sl idN 0 n) v8 v9 (slA 6 (wAs p (num l))) (.int .i64 (l.length:Int)) (.int .i64 (i:Int))/\B[idN]?=some (.row 2 false ((((lar p l).take i).foldl (hst h) (List.replicate n noL)).map lA))/\Hy A idN B)
  (fun o=>∃A',A'[idN]?=some (.row 2 false ((jl (lar p l) h n).map lA))/\Hy A idN A'/\o=.exit 2 ((kf v0 v4 (.sl idL 0 n) (.sl idN 0 n) v8 v9 (slA 6 (wAs p (num l))) (.int .i64 (l.length:Int)) (.int .i64 (l.length:Int))).set 14 (.bool false)) A')
  (by
   rintro k σ B ⟨i,hik,rfl,hN',hK⟩
   rw [zp]
   by_cases hi':i<l.length
   ·obtain ⟨B',c1,c2,c3⟩:=Bm fuel (n:=n) hn (by rw [fu]; simp) hp hv hn32 hl200 hi' hb hLN hidN hidL hL hN' hK v0 v4 v8 v9
    refine .inl ⟨_,_,c1,k-1,by omega,i+1,by omega,rfl,?_,c3⟩
    rw [c2,List.take_succ_eq_append_getElem (by omega),List.foldl_append]
    simp [lar]
   ·obtain rfl:i=l.length:=by omega
    refine .inr ⟨_,?_,?_,B,?_,hK,rfl⟩
    ·simp [kr]
    ·intro _ _ h; cases h
    ·rw [hN',List.take_of_length_le (by omega)]; rfl)
  fuel l.length _ A (by omega) ⟨0,by omega,rfl,by simpa using hN,Nat.le_refl _,fun _ _ _=>rfl⟩
 exact ⟨A',by rw [<-h4]; exact h1,h2,h3⟩
def DK (L:List cR) (n to i:Nat) (A:ac):Prop:=∃(gr:Bool) (os:List AV),A[1]?=some (.row 1 gr os)/\os.length=i+1/\∀j,j<=i->∃id,os[j]?=some (.sl id 0 n)/\id≠1/\A[id]?=some (.row 2 false ((hm L n to j).map lA))
theorem xm (fuel:Nat) {A:ac} {n to i:Nat} {p:Int} {l:List a6} (h1n:1<=n) (hp:bZ p) (hv:∀x∈l,okA n x) (hn32:n<=32) (hl200:l.length<=200) (hf:200<fuel) {k:Nat} (hi:i<k) (hk:k<=32) (hI:DK (lar p l) n to i A) :
  ∃A',run (ai GC vl) fuel [.code mn] (lL (cB n p l) (.sl 1 0 (i+1)) (.int .i64 (k:Int)) (.int .i64 (i:Int))) A=some (.normal (lL (cB n p l) (.sl 1 0 (i+1+1)) (.int .i64 (k:Int)) (.int .i64 ((i+1:Nat):Int))) A')/\DK (lar p l) n to (i+1) A':=by
 obtain ⟨gr,os,g1,g2,g3⟩:=hI
 obtain ⟨id,hid,hid1,hrow⟩:=g3 i (Nat.le_refl _)
 have hid2:=(List.getElem?_eq_some_iff.1 hrow).1
 have h1A:=(List.getElem?_eq_some_iff.1 g1).1
 obtain ⟨B,hB⟩:∃B,B=A++[.row 2 false ((List.replicate n noL).map lA)]:=⟨_,rfl⟩
 have hBN:B[A.length]?=some (.row 2 false ((List.replicate n noL).map lA)):=by rw [hB]; simp
 have hBo:∀j,j<A.length->B[j]?=A[j]?:=fun j hj=>by rw [hB,List.getElem?_append_left hj]
 have hBl:B.length=A.length+1:=by rw [hB]; simp
 have hok:=se hn32 hp hv
 have hpb:=Ct hok to i
 have hpb':PB 1000000000 (hm (lar p l) n to i):=fun v=>by have:=hpb v; omega
 have mk:cg 2 16 (.agg [.int .i64 0,.bool false]) A (.int .i64 (n:Int)) (.int .i64 (n:Int))=some (.sl A.length 0 n,B):=by
  rw [hB]; simp [cg,lA,noL]; omega
 obtain ⟨C,c1,c2,c3⟩:=Fs fuel (A:=B) (n:=n) (idL:=id) (idN:=A.length) (sh _ n to i) hp hv hn32 hl200 hf hpb' (by omega) (by rw [hBo id hid2]; exact hrow) hBN (cB n p l) (.sl 1 0 (i+1)) (.int .i64 (k:Int)) (.int .i64 (i:Int))
 have hC1:C[1]?=some (.row 1 gr os):=by rw [c3.2 1 (by omega) (by omega),hBo 1 h1A]; exact g1
 obtain ⟨nid,hnid⟩:∃nid,nid=A.length:=⟨_,rfl⟩
 have hC1l:=(List.getElem?_eq_some_iff.1 hC1).1
 obtain ⟨D,hD⟩:∃D,D=C++[.row 1 false [.sl A.length 0 n]]:=⟨_,rfl⟩
 have hDo:∀j,j<C.length->D[j]?=C[j]?:=fun j hj=>by rw [hD,List.getElem?_append_left hj]
 have hDl:D.length=C.length+1:=by rw [hD]; simp
 have hDn:D[C.length]?=some (.row 1 false [.sl A.length 0 n]):=by rw [hD]; simp
 have ap:aO 1 24 D (.sl 1 0 (i+1)) (.sl C.length 0 1)=some (.sl 1 0 (i+1+1),D.set 1 (.row 1 true (os++[.sl A.length 0 n]))):=by
  simp [aO,aQ,hDn,hDo 1 hC1l,hC1,g2]
  omega
 have b0:aq .sub (.int .i64 ((i+1:Nat):Int)) (.int .i64 1)=some (.int .i64 (i:Int)):=by
  simp only [aq]; rw [if_pos trivial,dB (by unfold inI; omega)]; congr 2; omega
 have b1:=bw i k .i64
 rw [decide_eq_true hi] at b1
 have b3:=aY i (by omega)
 have hlen2:ay (slA 6 (wAs p (num l)))=some (.int .i64 (l.length:Int)):=by rw [oH,oj]
 have hne:¬ 1=A.length:=by omega
 refine ⟨D.set 1 (.row 1 true (os++[.sl A.length 0 n])),?_,true,os++[.sl A.length 0 n],?_,?_,?_⟩
 ·obtain ⟨W1,hW⟩:∃W1,W1=slA 6 (wAs p (num l)):=⟨_,rfl⟩
  obtain ⟨O,hO⟩:∃O,cB n p l=.fp [.int .i64 (n:Int),W1,O]:=⟨_,by rw [hW]; rfl⟩
  rw [<-hW] at c1 hlen2
  rw [hO] at c1 ⊢
  rw [hD] at ap ⊢
  rw [<-hnid] at c1 ap hne mk ⊢
  obtain ⟨i1,hi1⟩:∃i1:Nat,i1=i+1:=⟨_,rfl⟩
  rw [<-hi1] at b0 b3 c1 ap ⊢
  have hii:i<i1:=by omega
  have hls:ay (.sl 1 0 i1)=some (.int .i64 (i1:Int)):=rfl
  simp [mn,hls,b0,b1,b3,g1,hid,mk,FK c1,ap,hlen2,hne,hii,hnid.symm,-aq,-cg,-ay]
 ·exact List.getElem?_set_self (by omega)
 ·simp [g2]
 ·intro j hj
  have hcl:=c3.1
  by_cases hji:j=i+1
  ·subst hji
   refine ⟨A.length,by simp [<-g2],by omega,?_⟩
   rw [List.getElem?_set_ne (by omega),hDo _ (by omega)]; exact c2
  ·obtain ⟨jd,q1,q2,q3⟩:=g3 j (by omega)
   have hjd:=(List.getElem?_eq_some_iff.1 q3).1
   refine ⟨jd,by rw [List.getElem?_append_left (by omega)]; exact q1,q2,?_⟩
   rw [List.getElem?_set_ne (Ne.symm q2),hDo jd (by omega),c3.2 jd (by omega) (by omega),hBo jd hjd]; exact q3
def M48:aG:=fun args=>evF (ai GC vl) 300 IH 5 args
theorem zX:br Tryz.prog GC 149 M48:=br.of_ev (E:=ai GC vl) (aj AQ) rfl at48 GI 5 fun _ _ h=>⟨300,h⟩
theorem Gk (A:ac) (n:Nat) (h:List LP):(h.map lA).map (frz A (n+1))=h.map lA:=by
 rw [List.map_map]; apply List.map_congr_left; intro x _; cases n <;> rfl
theorem DK.frz {L:List cR} {n to i:Nat} {A:ac} (h:DK L n to i A) (k:Nat):Proofs.YtfkcoekicjjndaaGreat.frz A (k+3) (.sl 1 0 (i+1))=.fs 1 (tK L n to i)/\a9 A (k+3) (.sl 1 0 (i+1))=true:=by
 obtain ⟨gr,os,g1,g2,g3⟩:=h
 constructor
 ·show Proofs.YtfkcoekicjjndaaGreat.frz A (k+2+1) _=_
  simp only [Proofs.YtfkcoekicjjndaaGreat.frz,g1,List.drop_zero]
  rw [List.take_of_length_le (by omega)]
  congr 1
  apply List.ext_getElem (by simp [g2,tK])
  intro j h1 h2
  obtain ⟨id,q1,q2,q3⟩:=g3 j (by simp [tK] at h2; omega)
  have e:os[j]'(by simpa using h1)=.sl id 0 n:=by
   rw [List.getElem?_eq_getElem (by simpa using h1)] at q1; exact Option.some.inj q1
  simp only [List.getElem_map,e,tK,List.getElem_range]
  show Proofs.YtfkcoekicjjndaaGreat.frz A (k+1+1) _=_
  simp only [Proofs.YtfkcoekicjjndaaGreat.frz,q3,List.drop_zero]
  rw [List.take_of_length_le (by simp [sh]),Gk]
 ·show a9 A (k+2+1) _=_
  simp only [a9,g1,List.drop_zero]
  rw [List.take_of_length_le (by omega),List.all_eq_true]
  intro x hx
  obtain ⟨j,hj,rfl⟩:=List.mem_iff_getElem.1 hx
  obtain ⟨id,q1,q2,q3⟩:=g3 j (by omega)
  have e:os[j]=.sl id 0 n:=by
   rw [List.getElem?_eq_getElem hj] at q1; exact Option.some.inj q1
  rw [e]
  show a9 A (k+1+1) _=_
  simp only [a9,q3,List.drop_zero]
  rw [List.take_of_length_le (by simp [sh]),List.all_eq_true]
  intro y hy
  obtain ⟨z,_,rfl⟩:=List.mem_map.1 hy
  cases k <;> simp [lA,a9]
theorem Hn {n to:Nat} {p:Int} {l:List a6} (hr:cf n l p) (hto:to<n) {k:Nat} (hk:k<=32):M48 [cB n p l,.int .i64 (to:Int),.int .i64 (k:Int)]=some (.fs 1 (tK (lar p l) n to k)):=by
 obtain ⟨⟨hn,hl200,hv⟩,hp⟩:=hr
 have hn32:n<=32:=by omega
 obtain ⟨z,hz⟩:∃z,z=(List.replicate n noL).map lA:=⟨_,rfl⟩
 have mk:cg 2 16 (.agg [.int .i64 0,.bool false]) [] (.int .i64 (n:Int)) (.int .i64 (n:Int))=some (.sl 0 0 n,[.row 2 false z]):=by
  rw [hz]; simp [cg,lA,noL]; omega
 have hz2:z.set to (.agg [.int .i64 0,.bool true])=(hm (lar p l) n to 0).map lA:=by
  rw [hz]; unfold hm; rw [List.map_set]; rfl
 have hzl:z.length=n:=by rw [hz]; simp
 have hz3:z[to]?=some (.agg [.int .i64 0,.bool false]):=by
  rw [hz]; simp [hto,lA,noL]
 obtain ⟨o,h1,A',h2,rfl⟩:=fq (E:=ai GC vl) (fuel:=300) (a:=mn) (mask:=lj) (fun m σ A=>∃i,i+m=k/\σ=lL (cB n p l) (.sl 1 0 (i+1)) (.int .i64 (k:Int)) (.int .i64 (i:Int))/\DK (lar p l) n to i A)
  (fun o=>∃A',DK (lar p l) n to k A'/\o=.exit 0 ((lL (cB n p l) (.sl 1 0 (k+1)) (.int .i64 (k:Int)) (.int .i64 (k:Int))).set 10 (.bool false)) A')
  (by
   rintro m σ A ⟨i,him,rfl,hI⟩
   rw [zo]
   by_cases hi':i<k
   ·obtain ⟨A',c1,c2⟩:=xm 300 (by omega) hp hv hn32 hl200 (by omega) hi' hk hI
    exact .inl ⟨_,_,c1,m-1,by omega,i+1,by omega,rfl,c2⟩
   ·obtain rfl:i=k:=by omega
    refine .inr ⟨_,?_,?_,A,hI,rfl⟩
    ·simp [mn]
    ·intro _ _ h; cases h)
  300 k (lL (cB n p l) (.sl 1 0 1) (.int .i64 (k:Int)) (.int .i64 0)) [.row 2 false ((hm (lar p l) n to 0).map lA),.row 1 false [.sl 0 0 n]] (by omega) ⟨0,by omega,rfl,false,[.sl 0 0 n],rfl,rfl,fun j hj=>by
   obtain rfl:j=0:=by omega
   exact ⟨0,rfl,by omega,rfl⟩⟩
 obtain ⟨q1,q2⟩:=h2.frz 2
 unfold M48
 rw [gn _ _ rfl]
 rw [<-hz2] at h1
 have p1:eH [.sl 1 0 (k+1)]=.sl 1 0 (k+1):=rfl
 obtain ⟨W1,O,hO⟩:∃W1 O,cB n p l=.fp [.int .i64 (n:Int),W1,O]:=⟨_,_,rfl⟩
 rw [hO] at h1 ⊢
 simp [IH,mk,hz3,hto,FJ h1,q1,q2,-frz,-cg]
def jP (h:List LP) (p sum:Int) (x:ec):Bool:=(ed (h.getD x.1.t.toNat noL) (sum+x.1.len p)).2 && decide ((ed (h.getD x.1.t.toNat noL) (sum+x.1.len p)).1 > 0)
def HV:List (FuncId × aD):=[(152,aF 4 M51)]
@[simp] theorem I4:aI HV 152=some (aF 4 M51):=rfl
theorem AO:∀f M,aI HV f=some M->an Tryz.prog GC f M:=ae (an.of_pure rK 4) aw
def M50:aG:=fun args=>evP (ai GC HV) 0 BP 1 args
theorem ug:ak Tryz.prog GC 151 M50:=ak.of_ev (E:=ai GC HV) (aj AO) rfl Ko vK 1 fun _ _ h=>⟨0,h⟩
def tJ (hs:List (List LP)):AV:=.fs 1 (hs.map fun h=>.fs 2 (h.map lA))
def Gl (hs:List (List LP)) (left sum:Int):AV:=.func (.func 151) [] [.fp [tJ hs],.fp [.int .i64 left],.fp [.int .i64 sum]]
theorem Hl {hs:List (List LP)} {left t:Nat} {h:List LP} {p sum:Int} {x:ec} (hh:hs[left]?=some h) (ht:x.1.t=(t:Int)) (hth:t<h.length) (hpb:PB 1000000000 h) (hs1 : -1000000000<=sum/\sum<=1000000000) (hw : -3000000<=x.1.len p/\x.1.len p<=3000000) :
  M50 [wA p x,.fp [tJ hs],.fp [.int .i64 left],.fp [.int .i64 sum]]=some (.bool (jP h p sum x)):=by
 unfold jP
 have e1:x.1.t.toNat=t:=by omega
 rw [e1]
 have et:=uZ hth
 have bt:=hpb t
 obtain ⟨y,hy1⟩:∃y,y=h.getD t noL:=⟨_,rfl⟩
 rw [<-hy1] at et bt ⊢
 obtain ⟨w,hw1⟩:∃w,w=x.1.len p:=⟨_,rfl⟩
 rw [<-hw1] at hw ⊢
 have m1:M51 [.agg [.int .i64 y.1,.bool y.2],.int .i64 (sum+w)]=some (.agg [.int .i64 (ed y (sum+w)).1,.bool (ed y (sum+w)).2]):=if_pos (by omega)
 have b2:aq .add (.int .i64 sum) (.int .i64 w)=some (.int .i64 (sum+w)):=by
  simp only [aq]; rw [if_pos trivial,dB (by unfold inI; omega)]
 have hx:wA p x=.agg [.int .i64 x.1.f,.int .i64 (t:Int),.int .i64 x.1.w,.int .i64 x.1.k,.int .i64 (x.2:Int),.int .i64 w]:=by unfold wA; rw [ht,hw1]
 rw [hx]
 have hix:∀A,au 1 A (tJ hs) (.int .i64 (left:Int))=some (.fp [.fs 2 (h.map lA)]):=fun A=>
  (show SlA 1 (hs.map fun h=>.fs 2 (h.map lA)) (tJ hs) from .inr rfl).index1 (A:=A) (by simp [hh]) rfl rfl .i64
 have hix2:∀A,au 2 A (.fs 2 (h.map lA)) (.int .i64 (t:Int))=some (.fp [.int .i64 y.1,.bool y.2]):=fun A=>
  (show SlA 2 (h.map lA) (.fs 2 (h.map lA)) from .inr rfl).index (A:=A) (i:=t) et rfl (by omega) .i64
 obtain ⟨HT,hHT⟩:∃HT,tJ hs=.fs 1 HT:=⟨_,rfl⟩
 rw [hHT] at hix ⊢
 obtain ⟨s,hs'⟩:∃s,s=sum+w:=⟨_,rfl⟩
 rw [<-hs'] at m1 b2 ⊢
 obtain ⟨q,hq⟩:∃q,q=ed y s:=⟨_,rfl⟩
 rw [<-hq] at m1 ⊢
 have b3:aq .gtr (.int .i64 q.1) (.int .i64 0)=some (.bool (decide (q.1 > 0))):=by simp [aq]
 obtain ⟨q1,q2⟩:=q
 obtain ⟨y1,y2⟩:=y
 simp only at m1 b3 hix2
 unfold M50
 rw [aS _ _ rfl]
 cases q2
 ·simp [BP,hix,hix2,b2,m1,-aq,-au]
 ·simp [BP,hix,hix2,b2,b3,m1,-aq,-au]
def zb:List (FuncId × aD):=[(151,aF 4 M50)]
@[simp] theorem I5:aI zb 151=some (aF 4 M50):=rfl
theorem AP:∀f M,aI zb f=some M->an Tryz.prog GC f M:=ae (an.of_pure ug 4) aw
def M49:aG:=fun args=>evP (ai GC zb) 300 HM 1 args
theorem DZ:ak Tryz.prog GC 150 M49:=ak.of_ev (E:=ai GC zb) (aj AP) rfl at49 GH 1 fun _ _ h=>⟨300,h⟩
theorem Hm {hs:List (List LP)} {left:Nat} {h:List LP} {p sum:Int} {xs:List ec} {ch:AV} (hch:SlA 6 (wAs p xs) ch) (hl:xs.length<=200) (hh:hs[left]?=some h) (ht:∀x∈xs,0<=x.1.t/\x.1.t<(h.length:Int)) (hpb:PB 1000000000 h) (hs1 : -1000000000<=sum/\sum<=1000000000) (hw:∀x∈xs,-3000000<=x.1.len p/\x.1.len p<=3000000) :
  M49 [ch,Gl hs left sum]=some (.int .i64 (cH (jP h p sum) xs)):=by
 have hlen:=hch.len
 have hlen':(wAs p xs).length=xs.length:=by simp [wAs]
 rw [hlen'] at hlen
 obtain ⟨F,hF⟩:∃F,F=Gl hs left sum:=⟨_,rfl⟩
 have round:∀(A:ac) (i:Nat) (hi:i<xs.length),run (ai GC zb) 300 [.code ic] (ke ch F (.int .i64 (xs.length:Int)) (.int .i64 (i:Int))) A =
   if jP h p sum xs[i]=false then some (.normal (ke ch F (.int .i64 (xs.length:Int)) (.int .i64 ((i+1:Nat):Int))) A) else some (.ret [ch,F,.int .i64 (i:Int),.int .i64 (i:Int),.int .i64 (xs.length:Int),.int .i64 (i:Int),.bool true,.bool true] A):=fun A i hi=>by
  have hmem:=List.getElem_mem hi
  obtain ⟨t,ht1,ht2⟩:∃t:Nat,xs[i].1.t=(t:Int)/\t<h.length:=by
   have:=ht _ hmem
   exact ⟨xs[i].1.t.toNat,by omega,by omega⟩
  have x1:au 6 A ch (.int .i64 (i:Int))=some (.fp [.int .i64 xs[i].1.f,.int .i64 xs[i].1.t,.int .i64 xs[i].1.w,.int .i64 xs[i].1.k,.int .i64 (xs[i].2:Int),.int .i64 (xs[i].1.len p)]):=
   hch.index (A:=A) (i:=i) (x:=wA p xs[i]) (by simp [wAs,hi]) rfl (by omega) .i64
  have m:=Hl (p:=p) hh ht1 ht2 hpb hs1 (hw _ hmem)
  unfold wA at m
  have b1:=bw i xs.length .i64
  rw [decide_eq_true hi] at b1
  have b3:=aY i (by omega)
  obtain ⟨i1,hi1⟩:∃i1:Nat,i1=i+1:=⟨_,rfl⟩
  rw [<-hi1] at b3 ⊢
  obtain ⟨d,hd⟩:∃d,d=jP h p sum xs[i]:=⟨_,rfl⟩
  rw [<-hd] at m ⊢
  rw [hF]
  obtain ⟨HT,hHT⟩:∃HT,tJ hs=.fs 1 HT:=⟨_,rfl⟩
  have fz:∀B n,frz B n (.fs 1 HT)=.fs 1 HT:=fun B n=>by cases n <;> rfl
  unfold Gl
  rw [hHT] at m ⊢
  cases d with
  | false=>simp [ic,x1,m,b1,b3,-aq,-au,-ay]
  | true=>simp [ic,x1,m,b1,-aq,-au,-ay]
 unfold M49
 rw [aS _ _ rfl,<-hF]
 rcases cP (E:=ai GC zb) (fuel:=300) (a:=ic) (mask:=gB) (fun i=>ke ch F (.int .i64 (xs.length:Int)) (.int .i64 (i:Int))) (fun _=>[]) xs.length (fun i=>¬ ∀hi:i<xs.length,jP h p sum xs[i]=false)
  (oF:=fun i=>.ret [ch,F,.int .i64 (i:Int),.int .i64 (i:Int),.int .i64 (xs.length:Int),.int .i64 (i:Int),.bool true,.bool true] []) (oE:=.exit 0 ((ke ch F (.int .i64 (xs.length:Int)) (.int .i64 (xs.length:Int))).set 6 (.bool false)) [])
  (fun _=>zn) (fun _ _ _ h=>by cases h) (fun _ _ h=>by cases h)
  (fun i hi hp=>by
   rw [round [] i hi]
   exact if_pos (Classical.not_not.1 hp hi))
  (fun i hi hp=>by
   rw [round [] i hi]
   exact if_neg fun h=>hp fun _=>h)
  (by simp [ic]) (show xs.length<300 by omega) with ⟨i,hi,hp,hj,lp⟩ | ⟨hp,lp⟩
 ·have lp:bM (evC (ai GC zb) 300 ic) gB 300 (ke ch F (.int .i64 (xs.length:Int)) (.int .i64 0)) []=_:=lp
  have e:cH (jP h p sum) xs=(i:Int):=bu hi (by
   cases h':jP h p sum xs[i] with
   | true=>rfl
   | false=>exact absurd (fun _=>h') hp) (fun j hj'=>Classical.not_not.1 (hj j hj') (by omega))
  rw [e]
  simp [HM,hlen,yT lp,-aq,-ay]
 ·have lp:bM (evC (ai GC zb) 300 ic) gB 300 (ke ch F (.int .i64 (xs.length:Int)) (.int .i64 0)) []=_:=lp
  have e:cH (jP h p sum) xs = -1:=bG fun i hi=>Classical.not_not.1 (hp i hi) hi
  rw [e]
  simp [HM,hlen,yT lp,-aq,-ay]
def nb (p:Int) (l:List a6) (hs:Nat->List LP):Nat->Int->List ec->List Int->Option (List Int)
 | 0,_,_,out=>some out
 | r+1,sum,ch,out=>match ch.find? (jP (hs r) p sum) with
  | none=>none
  | some b=>nb p l hs r (sum+b.1.len p) (kK l b.1.t.toNat) (out++[(b.2:Int)])
def iN (A:ac) (s:AV) (xs:List Int):Prop:=(s=.nilS/\xs=[])\/∃id gr,s=.sl id 0 xs.length/\xs≠[]/\5<=id/\A[id]?=some (.row 1 gr (ax xs))
theorem iN.keep {A B:ac} {s:AV} {xs:List Int} (h:iN A s xs) (hAB:∀id,id∈aV s->B[id]?=A[id]?):iN B s xs:=by
 rcases h with h | ⟨id,gr,rfl,h1,h2,h3⟩
 ·exact .inl h
 ·exact .inr ⟨id,gr,rfl,h1,h2,by rw [hAB id (by simp [aV]),h3]⟩
theorem iN.low {A:ac} {s:AV} {xs:List Int} (h:iN A s xs):∀id,id∈aV s->5<=id/\id<A.length:=by
 rcases h with ⟨rfl,_⟩ | ⟨id,gr,rfl,h1,h2,h3⟩
 ·intro id h; simp [aV] at h
 ·intro j hj
  simp only [aV,List.mem_singleton] at hj
  subst hj
  exact ⟨h2,(List.getElem?_eq_some_iff.1 h3).1⟩
theorem iN.form2 {A:ac} {s:AV} {xs:List Int} (h:iN A s xs):s=.nilS\/∃i k,s=.sl i 0 k:=by
 rcases h with ⟨rfl,_⟩ | ⟨id,gr,rfl,_⟩
 ·exact .inl rfl
 ·exact .inr ⟨_,_,rfl⟩
theorem iN.append {A:ac} {s:AV} {xs:List Int} (h:iN A s xs) (z:Int) (hA:5<=A.length) (hl:xs.length<=1000) :
  ∃s' k A',aO 1 8 A s (.fs 1 [.int .i64 z])=some (.sl s' 0 k,A')/\iN A' (.sl s' 0 k) (xs++[z])/\A.length<=A'.length/\(∀j,j<A.length->j ∉ aV s->A'[j]?=A[j]?)/\(s'∈aV s\/s'=A.length):=by
 rcases h with ⟨rfl,rfl⟩ | ⟨id,gr,rfl,h1,h2,h3⟩
 ·refine ⟨A.length,1,A++[.row 1 false [.int .i64 z]],by simp [aO,aQ],.inr ⟨A.length,false,rfl,by simp,hA,by simp [ax]⟩,by simp,fun j hj _=>by rw [List.getElem?_append_left hj],.inr rfl⟩
 ·have hid:=(List.getElem?_eq_some_iff.1 h3).1
  refine ⟨id,(xs++[z]).length,A.set id (.row 1 true (ax (xs++[z]))),?_,.inr ⟨id,true,rfl,by simp,h2,by simp [hid]⟩,by simp,fun j hj hn=>?_,.inl (by simp [aV])⟩
  ·simp only [aO,aQ,h3]
   simp [h1,ax]
   omega
  ·rw [List.getElem?_set_ne (fun e=>hn (by simp [aV,e]))]
theorem iN.out {A:ac} {s:AV} {xs:List Int} (h:iN A s xs) (k:Nat):frz A (k+1) s=slA 1 (ax xs)/\a9 A (k+1) s=true:=by
 rcases h with ⟨rfl,rfl⟩ | ⟨id,gr,rfl,h1,h2,h3⟩
 ·exact ⟨rfl,rfl⟩
 ·constructor
  ·simp only [frz,h3,List.drop_zero]
   rw [List.take_of_length_le (by simp [ax]),pS]
   cases xs with
   | nil=>exact absurd rfl h1
   | cons x r=>rfl
  ·simp only [a9,h3,List.drop_zero]
   rw [List.take_of_length_le (by simp [ax])]
   exact qr _ _ _
def Chs (A:ac) (v:AV) (xs:List AV):Prop:=SlA 6 xs v\/(v=.sl 3 0 xs.length/\A[3]?=some (.row 6 false xs))
def tL:List (FuncId × aD):=[(150,aF 4 M49)]
@[simp] theorem Jd:aI tL 150=some (aF 4 M49):=rfl
theorem AW:∀f M,aI tL f=some M->an Tryz.prog GC f M:=ae (an.of_pure DZ 4) aw
def Lq:MC:=.region [⟨none,.load false 1 (.var 11),none⟩,⟨some 14,.bin .geq (.tmp 0) (.cst (.int .i64 0)),none⟩]
def Lp:MC:=.region [⟨none,.mv (.var 10),none⟩,⟨none,.makeFunc (.func 151) [] [.var 5,.var 11,.var 9],none⟩,⟨none,.call (.fn 150) [.tmp 0,.tmp 1],none⟩,⟨some 12,.mv (.tmp 2),none⟩]
def Lo:MC:=.region [⟨none,.mv (.var 12),none⟩,⟨some 15,.bin .lss (.tmp 0) (.cst (.int .i64 0)),none⟩]
def Mw:MC:=.region [⟨some 6,.mv (.cst .nilS),none⟩,⟨some 7,.mv (.cst (.bool false)),none⟩]
def Ln:MC:=.region [⟨none,.mv (.var 10),none⟩,⟨none,.mv (.var 12),none⟩,⟨none,.indexSl 6 (.tmp 0) (.tmp 1),none⟩,⟨none,.load true 6 (.tmp 2),none⟩,⟨some 13,.alloc 6 (.agg [.int .i64 0,.int .i64 0,.int .i64 0,.int .i64 0,.int .i64 0,.int .i64 0]),none⟩,⟨none,.store 6 (.var 13) (.tmp 3),none⟩]
def Id:MC:=.regionD [] [⟨none,.mv (.var 8),none⟩,⟨none,.fieldAddr 4 (.var 13),none⟩,⟨none,.load false 1 (.tmp 1),none⟩,⟨none,.buildF 1 [.tmp 2],none⟩,⟨none,.append 1 8 (.tmp 0) (.tmp 3),none⟩,⟨none,.load false 1 (.var 9),none⟩,⟨none,.fieldAddr 5 (.var 13),none⟩,⟨none,.load false 1 (.tmp 6),none⟩,⟨none,.bin .add (.tmp 5) (.tmp 7),none⟩,⟨none,.mv (.var 0),none⟩,⟨none,.nilCheck (.tmp 9),none⟩,⟨none,.fieldAddr 2 (.tmp 10),none⟩,⟨none,.load false 1 (.tmp 11),none⟩,⟨none,.fieldAddr 0 (.var 13),none⟩,⟨none,.fieldAddr 1 (.tmp 13),none⟩,⟨none,.load false 1 (.tmp 14),none⟩,⟨none,.indexSl 1 (.tmp 12) (.tmp 15),none⟩,⟨none,.load false 1 (.tmp 16),none⟩,⟨some 8,.mv (.tmp 4),none⟩,⟨none,.store 1 (.var 9) (.tmp 8),none⟩,⟨some 10,.mv (.tmp 17),none⟩] [(4,5),(4,6),(4,7),(4,11),(4,12),(4,13),(4,14),(4,15),(4,16),(4,17),(11,19),(12,19),(13,19),(14,19),(15,19),(16,19),(17,19)]
def Lm:MC:=.region [⟨some 16,.load false 1 (.var 11),none⟩]
def Ll:MC:=.region [⟨some 11,.alloc 1 (.int .i64 0),none⟩,⟨none,.store 1 (.var 11) (.var 16),none⟩]
def Lk:MC:=.region [⟨none,.load false 1 (.var 11),none⟩,⟨none,.bin .sub (.tmp 0) (.cst (.int .i64 1)),none⟩,⟨none,.store 1 (.var 11) (.tmp 1),none⟩]
theorem wD:dJ=.seq (.seq Lq (.cond (.var 14) .skip (.exit 0))) (.seq (.seq (.block 1 (.seq Lp (.seq (.seq Lo (.cond (.var 15) (.seq Mw .ret) .skip)) (.seq Ln Id)))) (.kill [1,2,3,4,6,7,12,13,14,15,16])) (.seq (.seq Lm Ll) Lk)):=rfl
abbrev s43 (W v6 v7 v8 v10 v12 v13 v14 v15 v16:AV) (lid:Nat):List AV:=[W,.undef,.undef,.undef,.undef,.ptr 1 0 0,v6,v7,v8,.ptr 2 0 0,v10,.ptr lid 0 0,v12,v13,v14,v15,v16]
theorem LQ (E:Env) (fuel:Nat) (K:List KC) {A:ac} {W v6 v7 v8 v10 v12 v13 v14 v15 v16:AV} {lid:Nat} {left:Int} (h:A[lid]?=some (.row 1 false [.int .i64 left])) :
  run E fuel (.code Lq :: K) (s43 W v6 v7 v8 v10 v12 v13 v14 v15 v16 lid) A=run E fuel K (s43 W v6 v7 v8 v10 v12 v13 (.bool (decide (0<=left))) v15 v16 lid) A:=by
 have b:=iR left
 simp [Lq,h,b,-aq]
theorem r43b (fuel:Nat) (K:List KC) (X Y:MC) {A:ac} {W v6 v7 v8 v10 v12 v13 v14 v15 v16 ch F:AV} {lid:Nat} {z:Int} (h1:frz A 4 v10=ch) (h2:frz A 4 (.func (.func 151) [] [.ptr 1 0 0,.ptr lid 0 0,.ptr 2 0 0])=F) (h3:M49 [ch,F]=some (.int .i64 z)) :
  run (ai GC tL) fuel (.code Lp :: .code (.seq (.seq Lo X) Y) :: K) (s43 W v6 v7 v8 v10 v12 v13 v14 v15 v16 lid) A=run (ai GC tL) fuel (.code X :: .code Y :: K) (s43 W v6 v7 v8 v10 (.int .i64 z) v13 v14 (.bool (decide (z<0))) v16 lid) A:=by
 have b:aq .lss (.int .i64 z) (.int .i64 0)=some (.bool (decide (z<0))):=by simp [aq]
 simp [Lp,Lo,h1,h2,h3,b,-aq,-frz]
theorem r43e (E:Env) (fuel:Nat) (K:List KC) {A:ac} {W q v6 v7 v8 v10 v13 v14 v15 v16:AV} {lid i:Nat} {c1 c2 c3 c4 c5 c6:Int} (h:au 6 A v10 (.int .i64 (i:Int))=some q) (hq:af true 6 A q=some (.agg [.int .i64 c1,.int .i64 c2,.int .i64 c3,.int .i64 c4,.int .i64 c5,.int .i64 c6])) :
  run E fuel (.code Ln :: K) (s43 W v6 v7 v8 v10 (.int .i64 (i:Int)) v13 v14 v15 v16 lid) A=run E fuel K (s43 W v6 v7 v8 v10 (.int .i64 (i:Int)) (.ptr A.length 0 0) v14 v15 v16 lid) (A++[.row 6 false [.agg [.int .i64 c1,.int .i64 c2,.int .i64 c3,.int .i64 c4,.int .i64 c5,.int .i64 c6]]]):=by
 simp [Ln,h,hq,-au,-af]
theorem r43f (E:Env) (fuel:Nat) (K:List KC) {A B:ac} {W1 v6 v7 so v10 v12 v14 v15 v16 x:AV} {lid bid jo ko t:Nat} {os:List AV} {n c1 c3 c4 c5 c6 sum:Int} (hb:A[bid]?=some (.row 6 false [.agg [.int .i64 c1,.int .i64 (t:Int),.int .i64 c3,.int .i64 c4,.int .i64 c5,.int .i64 c6]]))
  (ap:aO 1 8 A so (.fs 1 [.int .i64 c5])=some (.sl jo 0 ko,B)) (hb':B[bid]?=some (.row 6 false [.agg [.int .i64 c1,.int .i64 (t:Int),.int .i64 c3,.int .i64 c4,.int .i64 c5,.int .i64 c6]])) (h2:B[2]?=some (.row 1 false [.int .i64 sum])) (hs:so=.nilS\/∃i k,so=.sl i 0 k) (hid:∀j∈aV so,j≠2/\j≠bid) (hA2:A.length≠2) (hAb:A.length≠bid) (hb2:bid≠2)
  (hsum : -1000000000<=sum/\sum<=1000000000) (hc6 : -3000000<=c6/\c6<=3000000) (ho:os[t]?=some x) (hx:x.solid=true) (hx2:cellsOf x=[x]) :
  run E fuel (.code Id :: K) (s43 (.fp [.int .i64 n,W1,.fs 1 os]) v6 v7 so v10 v12 (.ptr bid 0 0) v14 v15 v16 lid) A=run E fuel K (s43 (.fp [.int .i64 n,W1,.fs 1 os]) v6 v7 (.sl jo 0 ko) x v12 (.ptr bid 0 0) v14 v15 v16 lid) (B.set 2 (.row 1 false [.int .i64 (sum+c6)])):=by
 have b2:aq .add (.int .i64 sum) (.int .i64 c6)=some (.int .i64 (sum+c6)):=by
  simp only [aq]; rw [if_pos trivial,dB (by unfold inI; omega)]
 have hix:∀C,au 1 C (.fs 1 os) (.int .i64 (t:Int))=some (.fp [x]):=fun C=>(show SlA 1 os (.fs 1 os) from .inr rfl).index1 (A:=C) ho hx hx2 .i64
 have hA2':¬ 2=A.length:=fun e=>hA2 e.symm
 have hAb':¬ bid=A.length:=fun e=>hAb e.symm
 have hb2':¬ 2=bid:=fun e=>hb2 e.symm
 obtain ⟨s,hs'⟩:∃s,s=sum+c6:=⟨_,rfl⟩
 rw [<-hs'] at b2 ⊢
 rcases hs with rfl | ⟨i,k,rfl⟩
 ·simp [Id,hb,ap,hb',h2,b2,hix,hA2,hAb,hb2,-aq,-au]
 ·obtain ⟨q1,q2⟩:=hid i (by simp [aV])
  have q1':¬ 2=i:=fun e=>q1 e.symm
  have q2':¬ bid=i:=fun e=>q2 e.symm
  simp [Id,hb,ap,hb',h2,b2,hix,hA2,hAb,hb2,q1,q2,-aq,-au]
theorem r43i (E:Env) (fuel:Nat) (K:List KC) {A:ac} {W v6 v7 v8 v10 v12 v13 v14 v15 v16:AV} {lid:Nat} {left:Int} (h:A[lid]?=some (.row 1 false [.int .i64 left])) (hl:0<=left/\left<=100) :
  run E fuel (.code (.seq (.seq Lm Ll) Lk) :: K) (s43 W v6 v7 v8 v10 v12 v13 v14 v15 v16 lid) A=run E fuel K (s43 W v6 v7 v8 v10 v12 v13 v14 v15 (.int .i64 left) A.length) (A++[.row 1 false [.int .i64 (left-1)]]):=by
 have b2:aq .sub (.int .i64 left) (.int .i64 1)=some (.int .i64 (left-1)):=by
  simp only [aq]; rw [if_pos trivial,dB (by unfold inI; omega)]
 obtain ⟨s,hs'⟩:∃s,s=left-1:=⟨_,rfl⟩
 rw [<-hs'] at b2 ⊢
 simp [Lm,Ll,Lk,h,b2,-aq]
theorem x8 {α:Type} (q:α->Bool) (l:List α):(l.find? q=none/\cH q l = -1)\/∃(i:Nat) (hi:i<l.length),l.find? q=some l[i]/\cH q l=(i:Int)/\q l[i]=true:=by
 unfold cH
 cases h:l.findIdx? q with
 | none=>
  left
  refine ⟨?_,rfl⟩
  rw [List.findIdx?_eq_none_iff] at h
  rw [List.find?_eq_none]
  intro x hx; rw [h x hx]; simp
 | some i=>
  right
  obtain ⟨hi,h1,h2⟩:=List.findIdx?_eq_some_iff_getElem.1 h
  refine ⟨i,hi,?_,rfl,h1⟩
  rw [List.find?_eq_some_iff_getElem]
  exact ⟨h1,i,hi,rfl,fun j hj=>by simpa using h2 j hj⟩
theorem Dl {A:ac} {v:AV} {p:Int} {xs:List ec} (h:Chs A v (wAs p xs)):SlA 6 (wAs p xs) (frz A 4 v):=by
 rcases h with h | ⟨rfl,h3⟩
 ·rw [h.frz]; exact h
 ·right
  show frz A (3+1) _=_
  simp only [frz,h3,List.drop_zero]
  rw [List.take_of_length_le (Nat.le_refl _)]
  congr 1
  unfold wAs
  rw [List.map_map]
  apply List.map_congr_left
  intro x _
  exact zd A p x 2
theorem GY {A:ac} {v:AV} {p:Int} {xs:List ec} (h:Chs A v (wAs p xs)) {i:Nat} (hi:i<xs.length):∃q,au 6 A v (.int .i64 (i:Int))=some q/\af true 6 A q=some (wA p xs[i]):=by
 have hx:(wAs p xs)[i]?=some (wA p xs[i]):=by simp [wAs,hi]
 rcases h with h | ⟨rfl,h3⟩
 ·exact ⟨_,h.index (A:=A) hx rfl (by omega) .i64,by simp [af,wA,cellsOf]⟩
 ·refine ⟨.ptr 3 i 0,?_,?_⟩
  ·simp [au,h3]
   simp [wAs]; omega
  ·simp only [af,h3,hx]; rfl
structure MP (p:Int) (hs:List (List LP)) (r:Nat) (sum:Int) (ch:List ec) (out:List Int) (so v10:AV) (lid:Nat) (A:ac):Prop where
 a1:A[1]?=some (.row 1 false [tJ hs])
 a2:A[2]?=some (.row 1 false [.int .i64 sum])
 al:A[lid]?=some (.row 1 false [.int .i64 ((r:Int)-1)])
 lid4:4<=lid
 so_:iN A so out
 lso:lid ∉ aV so
 chs:Chs A v10 (wAs p ch)
theorem w8 {n:Nat} {p:Int} {l:List a6} {t:Nat} (ht:t<n):((List.range n).map fun v=>slA 6 (wAs p (kK l v)))[t]?=some (slA 6 (wAs p (kK l t))):=by simp [ht]
theorem tQ {n:Nat} {p:Int} {l:List a6} (hp:bZ p) (hv:∀x∈l,okA n x) (hn32:n<=32) (hl200:l.length<=200) (hsL:List (List LP)) (hs:Nat->List LP) {k:Nat} (hk:k<=32) (hhs:∀r,r<k->hsL[r]?=some (hs r)/\(hs r).length=n/\PB 1000000000 (hs r)) :
  ∀(r:Nat) (sum:Int) (ch:List ec) (out:List Int) (so v10:AV) (lid:Nat) (A:ac) (m:Nat),r<m->r<=k -> -(3000000*((k:Int)-r))<=sum/\sum<=3000000*((k:Int)-r)->out.length<=k-r->(∀x∈ch,x∈num l)->ch.length<=200->MP p hsL r sum ch out so v10 lid A ->
   ∃o,bM (evC (ai GC tL) 300 dJ) dh m (ei (cB n p l) (.ptr 1 0 0) so (.ptr 2 0 0) v10 (.ptr lid 0 0)) A=some o /\
    match nb p l hs r sum ch out with
    | none=>∃so' v10' lid' v12 v13 v14 v15 v16 A',o=.ret (s43 (cB n p l) .nilS (.bool false) so' v10' v12 v13 v14 v15 v16 lid') A'
    | some res=>∃so' v10' lid' A',o=.exit 0 ((ei (cB n p l) (.ptr 1 0 0) so' (.ptr 2 0 0) v10' (.ptr lid' 0 0)).set 14 (.bool false)) A'/\iN A' so' res:=by
 intro r
 induction r with
 | zero=>
  intro sum ch out so v10 lid A m hm _ _ _ _ _ hI
  obtain ⟨m,rfl⟩:∃j,m=j+1:=⟨m-1,by omega⟩
  have r1:=fun K=>LQ (ai GC tL) 300 K (W:=cB n p l) (v6:=.undef) (v7:=.undef) (v8:=so) (v10:=v10) (v12:=.undef) (v13:=.undef) (v14:=.undef) (v15:=.undef) (v16:=.undef) hI.al
  simp only [Int.natCast_zero,Int.zero_sub,s43] at r1
  refine ⟨.exit 0 ((ei (cB n p l) (.ptr 1 0 0) so (.ptr 2 0 0) v10 (.ptr lid 0 0)).set 14 (.bool false)) A,?_,so,v10,lid,A,rfl,hI.so_⟩
  rw [aK,mW,wD]
  obtain ⟨W,hW⟩:∃W,W=cB n p l:=⟨_,rfl⟩
  rw [<-hW] at r1 ⊢
  simp [r1]
 | succ r ih=>
  intro sum ch out so v10 lid A m hm hrk hsum hout hch hcl hI
  obtain ⟨m,rfl⟩:∃j,m=j+1:=⟨m-1,by omega⟩
  obtain ⟨hh1,hh2,hh3⟩:=hhs r (by omega)
  have hleft:(((r+1:Nat):Int)-1)=(r:Int):=by omega
  have hal:=hI.al
  rw [hleft] at hal
  have r1:=fun K=>LQ (ai GC tL) 300 K (W:=cB n p l) (v6:=.undef) (v7:=.undef) (v8:=so) (v10:=v10) (v12:=.undef) (v13:=.undef) (v14:=.undef) (v15:=.undef) (v16:=.undef) hal
  rw [decide_eq_true (show (0:Int)<=(r:Int) by omega)] at r1
  have h49:=Hm (p:=p) (sum:=sum) (Dl hI.chs) hcl hh1 (fun x hx=>by
   obtain ⟨hi,e⟩:=jJ (hch x hx)
   have:=hv _ (List.getElem_mem hi)
   rw [e] at this
   have h2:=this.2.1
   omega) hh3 (by omega) (fun x hx=>by
   obtain ⟨hi,e⟩:=jJ (hch x hx)
   have:=hv _ (List.getElem_mem hi)
   rw [e] at this
   obtain ⟨q1,q2,q3,q4⟩:=this
   have:=gg (n:=32) (a:=x.1) ⟨by omega,by omega,q3,q4⟩ hp
   omega)
  have hfn:frz A 4 (.func (.func 151) [] [.ptr 1 0 0,.ptr lid 0 0,.ptr 2 0 0])=Gl hsL r sum:=by
   have a1:=hI.a1
   have a2:=hI.a2
   unfold Gl tJ at *
   simp [frz,a1,a2,hal]
  have r2:=fun K X Y=>r43b 300 K X Y (W:=cB n p l) (v6:=.undef) (v7:=.undef) (v8:=so) (v10:=v10) (v12:=.undef) (v13:=.undef) (v14:=.bool true) (v15:=.undef) (v16:=.undef) rfl hfn h49
  rw [aK,mW,wD]
  unfold nb
  rcases x8 (jP (hs r) p sum) ch with ⟨q1,q2⟩ | ⟨i,hi,q1,q2,q3⟩
  ·rw [q1]
   rw [q2] at r2
   rw [decide_eq_true (show (-1:Int)<0 by omega)] at r2
   refine ⟨.ret (s43 (cB n p l) .nilS (.bool false) so v10 (.int .i64 (-1)) .undef (.bool true) (.bool true) .undef lid) A,?_,so,v10,lid,_,_,_,_,_,A,rfl⟩
   obtain ⟨W,hW⟩:∃W,W=cB n p l:=⟨_,rfl⟩
   rw [<-hW] at r1 r2 ⊢
   simp only [s43] at r1 r2
   simp [r1,r2,Mw]
  ·rw [q1]
   rw [q2] at r2
   rw [decide_eq_false (show ¬ (i:Int)<0 by omega)] at r2
   obtain ⟨b,hb⟩:∃b,b=ch[i]:=⟨_,rfl⟩
   have hbm:=hch _ (List.getElem_mem hi)
   rw [<-hb] at hbm
   obtain ⟨hbi,hbe⟩:=jJ hbm
   have hok:=hv _ (List.getElem_mem hbi)
   rw [hbe] at hok
   obtain ⟨o1,o2,o3,o4⟩:=hok
   obtain ⟨t,ht1,ht2⟩:=mh o2
   have hw:=gg (n:=32) (a:=b.1) ⟨by omega,by omega,o3,o4⟩ hp
   obtain ⟨q,e1,e2⟩:=GY hI.chs hi
   rw [<-hb] at e2
   have hwb:wA p b=.agg [.int .i64 b.1.f,.int .i64 (t:Int),.int .i64 b.1.w,.int .i64 b.1.k,.int .i64 (b.2:Int),.int .i64 (b.1.len p)]:=by unfold wA; rw [ht1]
   rw [hwb] at e2
   have r3:=fun K=>r43e (ai GC tL) 300 K (W:=cB n p l) (v6:=.undef) (v7:=.undef) (v8:=so) (v13:=.undef) (v14:=.bool true) (v15:=.bool false) (v16:=.undef) (lid:=lid) e1 e2
   rw [<-hwb] at r3
   obtain ⟨B,hB⟩:∃B,B=A++[.row 6 false [wA p b]]:=⟨_,rfl⟩
   rw [<-hB] at r3
   have hBo:∀j,j<A.length->B[j]?=A[j]?:=fun j hj=>by rw [hB,List.getElem?_append_left hj]
   have hBl:B.length=A.length+1:=by rw [hB]; simp
   have hBb:B[A.length]?=some (.row 6 false [wA p b]):=by rw [hB]; simp
   have hlA:=(List.getElem?_eq_some_iff.1 hal).1
   have hl4:=hI.lid4
   have hso:=hI.so_.low
   have soB:iN B so out:=hI.so_.keep fun j hj=>hBo j (hso j hj).2
   obtain ⟨jo,ko,C,ap,s2,c1,c2,c3⟩:=soB.append (b.2:Int) (by omega) (by omega)
   have hCo:∀j,j<A.length->j ∉ aV so->C[j]?=A[j]?:=fun j hj hn=>by rw [c2 j (by omega) hn,hBo j hj]
   have h2so:2 ∉ aV so:=fun h=>by have:=hso 2 h; omega
   have hC2:=(hCo 2 (by omega) h2so).trans hI.a2
   have hbso:A.length ∉ aV so:=fun h=>by have:=hso _ h; omega
   have hCb:=(c2 A.length (by omega) hbso).trans hBb
   rw [hwb] at hBb hCb
   have r4:=fun K=>r43f (ai GC tL) 300 K (A:=B) (B:=C) (W1:=slA 6 (wAs p (num l))) (v6:=.undef) (v7:=.undef) (so:=so) (v10:=v10) (v12:=.int .i64 (i:Int)) (v14:=.bool true) (v15:=.bool false) (v16:=.undef) (x:=slA 6 (wAs p (kK l t))) (lid:=lid) (bid:=A.length) (n:=(n:Int)) hBb ap hCb hC2 soB.form2 (fun j hj=>⟨by have:=(hso j hj).1; omega,by have:=(hso j hj).2; omega⟩) (by omega) (by omega) (by omega) (by omega) (by omega) (w8 (p:=p) (l:=l) (show t<n by omega)) (uu _ _) (rp _ _)
   obtain ⟨D,hD⟩:∃D,D=C.set 2 (.row 1 false [.int .i64 (sum+b.1.len p)]):=⟨_,rfl⟩
   have hDo:∀j,j≠2->D[j]?=C[j]?:=fun j hj=>by rw [hD,List.getElem?_set_ne (Ne.symm hj)]
   have hDl:D.length=C.length:=by rw [hD]; simp
   rw [<-hD] at r4
   have hDlid:D[lid]?=some (.row 1 false [.int .i64 (r:Int)]):=by rw [hDo lid (by omega),hCo lid hlA hI.lso]; exact hal
   have r5:=fun K=>r43i (ai GC tL) 300 K (A:=D) (W:=cB n p l) (v6:=.undef) (v7:=.undef) (v8:=.sl jo 0 ko) (v10:=slA 6 (wAs p (kK l t))) (v12:=.undef) (v13:=.undef) (v14:=.undef) (v15:=.undef) (v16:=.undef) hDlid (by omega)
   obtain ⟨F,hF⟩:∃F,F=D++[.row 1 false [.int .i64 ((r:Int)-1)]]:=⟨_,rfl⟩
   rw [<-hF] at r5
   have hFo:∀j,j<D.length->F[j]?=D[j]?:=fun j hj=>by rw [hF,List.getElem?_append_left hj]
   have htt:b.1.t.toNat=t:=by omega
   have hs2:=s2.low
   have hIH:=ih (sum+b.1.len p) (kK l t) (out++[(b.2:Int)]) (.sl jo 0 ko) (slA 6 (wAs p (kK l t))) D.length F m (by omega) (by omega) (by omega) (by simp; omega) (fun x hx=>(List.mem_filter.1 hx).1) (Nat.le_trans (rX l t) hl200) {
    a1:=by
     rw [hFo 1 (by omega),hDo 1 (by omega),hCo 1 (by omega) (fun h=>by have:=hso 1 h; omega)]; exact hI.a1
    a2:=by rw [hFo 2 (by omega),hD]; exact List.getElem?_set_self (by omega)
    al:=by rw [hF]; simp
    lid4:=by omega
    so_:=s2.keep fun j hj=>by
     have:=hs2 j hj
     rw [hFo j (by omega),hDo j (by omega)]
    lso:=fun h=>by have:=hs2 _ h; omega
    chs:=.inl (aR _ _)}
   obtain ⟨o,k1,k2⟩:=hIH
   simp only [<-hb,htt]
   refine ⟨o,?_,k2⟩
   obtain ⟨O,hO⟩:∃O,O=(List.range n).map fun v=>slA 6 (wAs p (kK l v)):=⟨_,rfl⟩
   obtain ⟨W1,hW1⟩:∃W1,W1=slA 6 (wAs p (num l)):=⟨_,rfl⟩
   have hW:cB n p l=.fp [.int .i64 (n:Int),W1,.fs 1 O]:=by rw [hO,hW1]; rfl
   rw [<-hO,<-hW1] at r4
   rw [hW] at r1 r2 r3 r5 k1 ⊢
   obtain ⟨Z,hZ⟩:∃Z,Z=slA 6 (wAs p (kK l t)):=⟨_,rfl⟩
   rw [<-hZ] at r4 r5 k1
   simp only [s43] at r1 r2 r3 r4 r5
   simp [r1,r2,r3,r4,r5]
   rw [<-wD,nY,mW]; exact k1
def M43:aG:=fun args=>evF (ai GC tL) 300 wQ 5 args
theorem zY:br Tryz.prog GC 99 M43:=br.of_ev (E:=ai GC tL) (aj AW) rfl Ks vO 5 fun _ _ h=>⟨300,h⟩
def yP (L:List cR) (n to k:Nat):List (List LP):=(List.range (k+1)).map fun j=>hm L n to j
theorem Cs (L:List cR) (n to k:Nat):.fs 1 (tK L n to k)=tJ (yP L n to k):=by
 unfold tK tJ yP; rw [List.map_map]; rfl
theorem xZ (L:List cR) (n to:Nat) {k r:Nat} (h:r<=k):(yP L n to k)[r]?=some (hm L n to r):=by
 unfold yP; rw [List.getElem?_map,List.getElem?_range (by omega)]; rfl
def tS (r:Option (List Int)):AV:=match r with
 | none=>.tup [.nilS,.bool false]
 | some xs=>.tup [slA 1 (ax xs),.bool true]
theorem sM {n to:Nat} {p:Int} {l:List a6} (hr:cf n l p) {k:Nat} (hk1:1<=k) (hk:k<=32) {a:ec} (ha:a∈num l) :
  M43 [cB n p l,wA p a,.fs 1 (tK (lar p l) n to k),.int .i64 (k:Int)]=some (tS (nb p l (hm (lar p l) n to) k 0 [a] [])):=by
 obtain ⟨⟨hn,hl200,hv⟩,hp⟩:=hr
 have hn32:n<=32:=by omega
 have hok:=se hn32 hp hv
 rw [Cs]
 have b0:aq .sub (.int .i64 (k:Int)) (.int .i64 1)=some (.int .i64 ((k:Int)-1)):=by
  simp only [aq]; rw [if_pos trivial,dB (by unfold inI; omega)]
 have hI:MP p (yP (lar p l) n to k) k 0 [a] [] .nilS (.sl 3 0 1) 4 [.row 6 false [wA p a],.row 1 false [tJ (yP (lar p l) n to k)],.row 1 false [.int .i64 0],.row 6 false [wA p a],.row 1 false [.int .i64 ((k:Int)-1)]]:=
  {a1:=rfl,a2:=rfl,al:=rfl,lid4:=by omega,so_:=.inl ⟨rfl,rfl⟩,lso:=by simp [aV],chs:=.inr ⟨rfl,rfl⟩}
 obtain ⟨o,h1,h2⟩:=tQ hp hv hn32 hl200 (yP (lar p l) n to k) (hm (lar p l) n to) hk (fun r hr=>⟨xZ _ _ _ (by omega),sh _ _ _ _,fun v=>by
  have:=Ct hok to r v
  omega⟩) k 0 [a] [] .nilS (.sl 3 0 1) 4 _ 300 (by omega) (Nat.le_refl _) (by omega) (by simp) (fun x hx=>by
  have:x=a:=by simpa using hx
  rw [this]; exact ha) (by simp) hI
 unfold M43
 rw [gn _ _ rfl]
 obtain ⟨W,hW⟩:∃W,W=cB n p l:=⟨_,rfl⟩
 obtain ⟨HT,hHT⟩:∃HT,tJ (yP (lar p l) n to k)=.fs 1 HT:=⟨_,rfl⟩
 rw [hHT] at h1 ⊢
 rw [<-hW] at h1 h2 ⊢
 unfold wA at h1 ⊢
 obtain ⟨k1,hk1'⟩:∃k1,k1=(k:Int)-1:=⟨_,rfl⟩
 rw [<-hk1'] at b0 h1
 cases hw:nb p l (hm (lar p l) n to) k 0 [a] [] with
 | none=>
  rw [hw] at h2
  obtain ⟨so',v10',lid',v12,v13,v14,v15,v16,A',rfl⟩:=h2
  simp [wQ,b0,pP h1,tS,eH,a9,frz,-aq]
 | some xs=>
  rw [hw] at h2
  obtain ⟨so',v10',lid',A',rfl,hs⟩:=h2
  obtain ⟨q1,q2⟩:=hs.out 3
  have z1:frz A' 5 (.tup [so',.bool true])=.tup [slA 1 (ax xs),.bool true]:=by
   show AV.tup [frz A' 4 so',frz A' 4 (.bool true)]=_
   rw [q1]; rfl
  have z2:a9 A' 5 (.tup [so',.bool true])=true:=by
   show [so',.bool true].all (a9 A' 4)=true
   simp only [List.all_cons,q2]; rfl
  have p1:eH [so',.bool true]=.tup [so',.bool true]:=rfl
  simp [wQ,b0,pP h1,tS,z1,z2,-aq,-frz]
def n4 (p:Int) (l:List a6) (n k:Nat) (f:Int):AV:=.fs 1 (tK (lar p l) n f.toNat k)
def jG (l:List a6):List Int:=l.foldl (fun s a=>if a.f∈s then s else s++[a.f]) []
theorem sY (l:List a6) (i:Nat) (hi:i<l.length):jG (l.take (i+1))=if l[i].f∈jG (l.take i) then jG (l.take i) else jG (l.take i)++[l[i].f]:=by
 unfold jG
 rw [List.take_succ_eq_append_getElem hi,List.foldl_append]
 rfl
def qy (G:Int->AV) (s:List Int):List (AV × AV):=s.map fun w=>(.int .i64 w,G w)
theorem ss (G:Int->AV) (w:Int):∀(s:List Int) (i:Nat),w∈s->∃q,jr (.int .i64 w) (qy G s) i=some (some (q,G w))
 | [],_,h=>by cases h
 | x :: s,i,h=>by
  by_cases hx:x=w
  ·subst hx
   exact ⟨i,by simp [qy,jr,oI]⟩
  ·have hw:w∈s:=by
    rcases List.mem_cons.1 h with e | e
    ·exact absurd e.symm hx
    ·exact e
   obtain ⟨q,h1⟩:=ss G w s (i+1) hw
   refine ⟨q,?_⟩
   simp only [qy,List.map_cons,jr,oI] at h1 ⊢
   simp only [if_true,beq_eq_false_iff_ne.2 (Ne.symm hx)]
   exact h1
theorem mI (G:Int->AV) (w:Int):∀(s:List Int) (i:Nat),w ∉ s->jr (.int .i64 w) (qy G s) i=some none
 | [],_,_=>rfl
 | x :: s,i,h=>by
  have hx:¬ w=x:=fun e=>h (by simp [e])
  have:=mI G w s (i+1) (fun e=>h (by simp [e]))
  simp only [qy,List.map_cons,jr,oI] at this ⊢
  simp only [if_true,beq_eq_false_iff_ne.2 hx]
  exact this
theorem sd {G:Int->AV} {s:List Int} {w:Int} {B:ac} {M:Nat} (hB:B[M]?=some (.map (qy G s))) (h:w∈s) (ok:Bool):cz ok .nilS B (.map M) (.int .i64 w)=some (if ok then .tup [G w,.bool true] else G w):=by
 obtain ⟨q,h1⟩:=ss G w s 0 h
 simp only [cz,hB,h1]
theorem uS {G:Int->AV} {s:List Int} {w:Int} {B:ac} {M:Nat} (hB:B[M]?=some (.map (qy G s))) (h:w ∉ s) (ok:Bool):cz ok .nilS B (.map M) (.int .i64 w)=some (if ok then .tup [.nilS,.bool false] else .nilS):=by
 simp only [cz,hB,mI G w s 0 h]
theorem w9 {G:Int->AV} {s:List Int} {w:Int} {B:ac} {M:Nat} (hB:B[M]?=some (.map (qy G s))) (h:w ∉ s):bR B (.map M) (.int .i64 w) (G w)=some (B.set M (.map (qy G (s++[w])))):=by
 simp only [bR,hB,mI G w s 0 h]
 simp [qy]
def TT (p:Int) (l:List a6) (i:Nat):ac:=((num l).take i).flatMap fun x=>[.row 6 false [wA p x],.row 6 false [wA p x]]
theorem Dt (p:Int) (l:List a6) (i:Nat) (hi:i<l.length):TT p l (i+1)=TT p l i++[.row 6 false [wA p (l[i],i)],.row 6 false [wA p (l[i],i)]]:=by
 unfold TT
 have h:=eB l i hi
 obtain ⟨h1,h2⟩:=List.getElem?_eq_some_iff.1 h
 rw [List.take_succ_eq_append_getElem h1,List.flatMap_append,h2]
 rfl
theorem a5.consF {G:Nat->Option (List AV)} {fs:List (FuncId × aD)} {h0:aZ} {f:FuncId} {pu:List FuncId} {M:aG} (h:aI fs f=some (bS 4 M)) (hr:a5 (ee G fs h0) pu):a5 (ee G fs h0) (f :: pu):=by
 intro k hk hh args A r A' he
 rcases List.mem_cons.1 hk with rfl | hk
 ·simp only [ee,kX,h,bS,xG,List.nil_append,List.append_nil] at he ⊢
  rw [Option.map_eq_some_iff] at he
  obtain ⟨r',hM,he⟩:=he
  simp only [Prod.mk.injEq] at he
  obtain ⟨rfl,rfl⟩:=he
  refine ⟨rfl,fun hn B=>?_⟩
  have hm:args.map (frz B 4)=args.map (frz A 4):=List.map_congr_left fun x hx=>pD 4 x (List.all_eq_true.1 hn x hx)
  rw [hm,hM]; rfl
 ·exact hr k hk hh args A r A' he
def th:List (FuncId × aD):=[(149,bS 4 M48)]
@[simp] theorem I9:aI th 149=some (bS 4 M48):=rfl
theorem AS:∀f M,aI th f=some M->an Tryz.prog GC f M:=ae (an.of_pureF zX 4) aw
def H47:aD:=fun hd=>bA (ee GC th hd) 300 yE
theorem rL:an Tryz.prog GC 148 H47:=dE AS Kp vL (a5.consF (M:=M48) rfl a5.nil)
def H42:aD:=fun hd=>bA (ee GC [] hd) 0 uN
theorem pn:an Tryz.prog GC 98 H42:=dE aw G1 qa
theorem ev42 (h:aZ) (w:List AV) (k:Int) (A:ac):H42 h [.fp w,.int .i64 k] A=some (.func (.func 148) [] [.ptr A.length 0 0,.ptr (A.length+1) 0 0],A++[.row 1 false [.fp w],.row 1 false [.int .i64 k]]):=by
 unfold H42
 rw [bH _ _ rfl]
 simp [uN]
def Lj:MC:=.region [⟨none,.indexSl 6 (.var 6) (.var 8),none⟩,⟨none,.load true 6 (.tmp 0),none⟩,⟨some 4,.alloc 6 (.agg [.int .i64 0,.int .i64 0,.int .i64 0,.int .i64 0,.int .i64 0,.int .i64 0]),none⟩,⟨none,.store 6 (.var 4) (.tmp 1),none⟩]
def Ha:MC:=.region [⟨none,.mv (.var 3),none⟩,⟨none,.fieldAddr 0 (.var 4),none⟩,⟨none,.fieldAddr 0 (.tmp 1),none⟩,⟨none,.load false 1 (.tmp 2),none⟩,⟨none,.lookup 1 true .nilS (.tmp 0) (.tmp 3),none⟩,⟨none,.mv (.tmp 4),none⟩,⟨none,.extract (.tmp 5) 0,none⟩,⟨none,.extract (.tmp 5) 1,none⟩,⟨none,.mv (.tmp 6),none⟩,⟨some 5,.mv (.tmp 7),none⟩]
def G9:MC:=.region [⟨none,.mv (.var 5),none⟩,⟨some 10,.un .not (.tmp 0),none⟩]
def Li:MC:=.region [⟨none,.mv (.var 3),none⟩,⟨none,.fieldAddr 0 (.var 4),none⟩,⟨none,.fieldAddr 0 (.tmp 1),none⟩,⟨none,.load false 1 (.tmp 2),none⟩,⟨none,.load false 1 (.var 1),none⟩,⟨none,.fieldAddr 0 (.var 4),none⟩,⟨none,.fieldAddr 0 (.tmp 5),none⟩,⟨none,.load false 1 (.tmp 6),none⟩,⟨none,.load false 1 (.var 2),none⟩,⟨none,.call (.fn 149) [.tmp 4,.tmp 7,.tmp 8],none⟩,⟨none,.mapUpdate 1 (.tmp 0) (.tmp 3) (.tmp 9),none⟩]
def G8:MC:=.region [⟨none,.mv (.var 0),none⟩,⟨none,.load true 6 (.var 4),none⟩,⟨none,.mv (.var 3),none⟩,⟨none,.fieldAddr 0 (.var 4),none⟩,⟨none,.fieldAddr 0 (.tmp 3),none⟩,⟨none,.load false 1 (.tmp 4),none⟩,⟨none,.lookup 1 false .nilS (.tmp 2) (.tmp 5),none⟩,⟨none,.call (.tmp 0) [.tmp 1,.tmp 6],none⟩,⟨some 11,.un .not (.tmp 7),none⟩]
def G7:MC:=.region [⟨none,.bin .add (.var 8) (.cst (.int .i64 1)),none⟩,⟨some 8,.mv (.tmp 0),none⟩]
theorem sK:ig=.seq (.region [⟨some 9,.bin .lss (.var 8) (.var 7),none⟩]) (.seq (.cond (.var 9) .skip (.exit 0)) (.seq (.seq (.block 1 (.seq Lj (.seq (.seq Ha (.seq G9 (.cond (.var 10) Li .skip))) (.seq G8 (.cond (.var 11) .ret .skip))))) (.kill [4,5,9,10,11])) G7)):=rfl
def A47 (p:Int) (l:List a6) (n k:Nat) (X:ac) (i:Nat):ac:=X ++ .map (qy (n4 p l n k) (jG (l.take i))) :: TT p l i
def P47 (p:Int) (l:List a6) (n k:Nat) (X:ac) (i:Nat) (a:a6):ac:=X ++ .map (qy (n4 p l n k) (jG (l.take (i+1)))) :: (TT p l i++[.row 6 false [wA p (a,i)]])
theorem r47a (E:Env) (fuel:Nat) (K:List KC) (A:ac) {p:Int} {l:List a6} {i:Nat} (hi:i<l.length) (v0 v1 v2 v3 v4 v5 v7 v9 v10 v11:AV) :
  run E fuel (.code Lj :: K) [v0,v1,v2,v3,v4,v5,slA 6 (wAs p (num l)),v7,.int .i64 (i:Int),v9,v10,v11] A =
   run E fuel K [v0,v1,v2,v3,.ptr A.length 0 0,v5,slA 6 (wAs p (num l)),v7,.int .i64 (i:Int),v9,v10,v11] (A++[.row 6 false [wA p (l[i],i)]]):=by
 have x1:=pc p hi A .i64
 obtain ⟨W,hW⟩:∃W,W=slA 6 (wAs p (num l)):=⟨_,rfl⟩
 rw [<-hW] at x1 ⊢
 simp [Lj,x1,wA,-au]
theorem qT (h:aZ) (L:Nat) {X:ac} {n k wp kp:Nat} {p:Int} {l:List a6} (hr:cf n l p) (hk:k<=32) (hw:X[wp]?=some (.row 1 false [cB n p l])) (hkp:X[kp]?=some (.row 1 false [.int .i64 (k:Int)])) {i:Nat} (hi:i<l.length) {b:Bool} {A':ac}
  (hy:h (.func (.yield L) [] []) [wA p (l[i],i),n4 p l n k l[i].f] (P47 p l n k X i l[i])=some (.bool b,A')) :
  ∃d4 d5 d9 d10 d11,run (ee GC th h) 300 [.code ig] (iU (.func (.yield L) [] []) (.ptr wp 0 0) (.ptr kp 0 0) (.map X.length) (slA 6 (wAs p (num l))) (.int .i64 (l.length:Int)) (.int .i64 (i:Int))) (A47 p l n k X i) =
   if b=true then some (.normal (iU (.func (.yield L) [] []) (.ptr wp 0 0) (.ptr kp 0 0) (.map X.length) (slA 6 (wAs p (num l))) (.int .i64 (l.length:Int)) (.int .i64 ((i+1:Nat):Int))) A')
   else some (.ret [.func (.yield L) [] [],.ptr wp 0 0,.ptr kp 0 0,.map X.length,d4,d5,slA 6 (wAs p (num l)),.int .i64 (l.length:Int),.int .i64 (i:Int),d9,d10,d11] A'):=by
 have hmem:=hr.1.2.2 _ (List.getElem_mem hi)
 obtain ⟨f,hf,hfn⟩:=mh hmem.1
 have hl200:=hr.1.2.1
 have hn32:=hr.1.1
 obtain ⟨B,hB⟩:∃B,B=A47 p l n k X i++[.row 6 false [wA p (l[i],i)]]:=⟨_,rfl⟩
 have hBX:∀j,j<X.length->B[j]?=X[j]?:=fun j hj=>by rw [hB,A47,List.append_assoc,List.getElem?_append_left hj]
 have hwl:=(List.getElem?_eq_some_iff.1 hw).1
 have hkl:=(List.getElem?_eq_some_iff.1 hkp).1
 have hBw:=(hBX wp hwl).trans hw
 have hBk:=(hBX kp hkl).trans hkp
 have hBM:B[X.length]?=some (.map (qy (n4 p l n k) (jG (l.take i)))):=by
  rw [hB,A47,List.append_assoc,List.getElem?_append_right (Nat.le_refl _)]; simp
 obtain ⟨M,hM⟩:∃M,M=X.length:=⟨_,rfl⟩
 obtain ⟨i8,hi8⟩:∃i8,i8=(A47 p l n k X i).length:=⟨_,rfl⟩
 have hlow:M<i8:=by rw [hi8,hM]; simp [A47]
 have hB8:B[i8]?=some (.row 6 false [wA p (l[i],i)]):=by rw [hB,hi8]; simp
 have r1:=fun K=>r47a (ee GC th h) 300 K (A47 p l n k X i) (p:=p) hi (.func (.yield L) [] []) (.ptr wp 0 0) (.ptr kp 0 0) (.map X.length) .undef .undef (.int .i64 (l.length:Int)) (.bool true) .undef .undef
 rw [<-hB,<-hi8,<-hM] at r1
 rw [<-hM] at hBM ⊢
 have hst:=sY l i hi
 rw [hf] at hst hy
 obtain ⟨G,hG⟩:∃G,G=n4 p l n k:=⟨_,rfl⟩
 have m48:M48 [cB n p l,.int .i64 (f:Int),.int .i64 (k:Int)]=some (G (f:Int)):=by
  rw [Hn hr (by omega) hk,hG]; unfold n4; rw [Int.toNat_natCast]
 have hGf:∃T,G (f:Int)=.fs 1 T:=⟨tK (lar p l) n f k,by rw [hG]; unfold n4; rw [Int.toNat_natCast]⟩
 have b1:=bw i l.length .i64
 rw [decide_eq_true hi] at b1
 have b3:=aY i (by omega)
 obtain ⟨i1,hi1⟩:∃i1:Nat,i1=i+1:=⟨_,rfl⟩
 rw [<-hi1] at b3 ⊢
 rw [<-hG] at hBM hy
 obtain ⟨T,hT⟩:=hGf
 have hnw:wA p (l[i],i)=.agg [.int .i64 (f:Int),.int .i64 l[i].t,.int .i64 l[i].w,.int .i64 l[i].k,.int .i64 (i:Int),.int .i64 (l[i].len p)]:=by unfold wA; rw [hf]
 rw [hnw] at hB8 hy
 obtain ⟨A1,hA1⟩:∃A1,A1=A47 p l n k X i:=⟨_,rfl⟩
 rw [<-hA1] at r1 ⊢
 obtain ⟨W1,O,hW,hW1⟩:∃W1 O,cB n p l=.fp [.int .i64 (n:Int),W1,O]/\W1=slA 6 (wAs p (num l)):=⟨_,_,rfl,rfl⟩
 have hWfz:∀B n,frz B n W1=W1:=fun B n=>by rw [hW1]; exact rf B n 6 _
 rw [<-hW1] at r1 ⊢
 by_cases hs:(f:Int)∈jG (l.take i)
 ·rw [if_pos hs] at hst
  have hP:P47 p l n k X i l[i]=B:=by
   rw [hB,P47,A47,hst]; simp
  rw [hP] at hy
  have lk:=fun ok=>sd hBM hs ok
  have lk1:=lk true
  have lk2:=lk false
  simp only [if_true,Bool.false_eq_true,if_false] at lk1 lk2
  cases b with
  | true=>
   refine ⟨.undef,.undef,.undef,.undef,.undef,?_⟩
   rw [sK]
   simp [b1,b3,r1,Ha,G9,G8,G7,hB8,lk1,lk2,hy,-aq,-cz]
  | false=>
   refine ⟨.ptr i8 0 0,.bool true,.bool true,.bool false,.bool true,?_⟩
   rw [sK]
   simp [b1,r1,Ha,G9,G8,G7,hB8,lk1,lk2,hy,-aq,-cz]
 ·rw [if_neg hs] at hst
  have up:=w9 hBM hs
  obtain ⟨C,hC⟩:∃C,C=B.set M (.map (qy G (jG (l.take i)++[(f:Int)]))):=⟨_,rfl⟩
  have hP:P47 p l n k X i l[i]=C:=by
   rw [hC,hB,P47,A47,hst,hM,List.append_assoc,List.set_append_right _ _ (Nat.le_refl _),<-hG]; simp
  rw [hP] at hy
  rw [<-hC] at up
  have hCM:C[M]?=some (.map (qy G (jG (l.take i)++[(f:Int)]))):=by rw [hC]; exact List.getElem?_set_self (List.getElem?_eq_some_iff.1 hBM).1
  have hC8:=(show C[i8]?=B[i8]? by rw [hC,List.getElem?_set_ne (by omega)]).trans hB8
  have lk1:=uS hBM hs true
  have lk2:=sd hCM (show (f:Int)∈jG (l.take i)++[(f:Int)] by simp) false
  simp only [if_true,Bool.false_eq_true,if_false] at lk1 lk2
  rw [hW] at hBw m48
  rw [hT] at up lk2 m48 hy
  have hfz1:∀B,frz B 4 (.fp [.int .i64 (n:Int),W1,O])=.fp [.int .i64 (n:Int),W1,O]:=fun _=>rfl
  cases b with
  | true=>
   refine ⟨.undef,.undef,.undef,.undef,.undef,?_⟩
   rw [sK]
   simp [b1,b3,r1,Ha,G9,Li,G8,G7,hB8,hC8,hBw,hBk,lk1,lk2,m48,up,hy,-aq,-cz,-bR]
  | false=>
   refine ⟨.ptr i8 0 0,.bool false,.bool true,.bool true,.bool true,?_⟩
   rw [sK]
   simp [b1,r1,Ha,G9,Li,G8,G7,hB8,hC8,hBw,hBk,lk1,lk2,m48,up,hy,-aq,-cz,-bR]
theorem sT (p:Int) (l:List a6) (n k:Nat) (X:ac):A47 p l n k X 0=X++[.map []]:=by
 simp [A47,TT,jG,qy]
theorem ev47 (h:aZ) (L:Nat) {X:ac} {n k wp kp:Nat} {p:Int} {l:List a6} (hr:cf n l p) (hk:k<=32) (hw:X[wp]?=some (.row 1 false [cB n p l])) (hkp:X[kp]?=some (.row 1 false [.int .i64 (k:Int)])) (m:Nat) (hm:m<=l.length)
  (hno:∀i (hi:i<l.length),i<m->h (.func (.yield L) [] []) [wA p (l[i],i),n4 p l n k l[i].f] (P47 p l n k X i l[i])=some (.bool true,A47 p l n k X (i+1)))
  (Z:ac) (hyes:∀hi:m<l.length,h (.func (.yield L) [] []) [wA p (l[m],m),n4 p l n k l[m].f] (P47 p l n k X m l[m])=some (.bool false,Z)) :
  H47 h [.func (.yield L) [] [],.ptr wp 0 0,.ptr kp 0 0] X=some (.tup [],if m<l.length then Z else A47 p l n k X l.length):=by
 have hl200:=hr.1.2.1
 have hwl:=(List.getElem?_eq_some_iff.1 hw).1
 have hw':(X++[Ent.map []])[wp]?=some (.row 1 false [cB n p l]):=by rw [List.getElem?_append_left hwl]; exact hw
 have hlen2:ay (slA 6 (wAs p (num l)))=some (.int .i64 (l.length:Int)):=by rw [oH,oj]
 unfold H47
 rw [bH _ _ rfl]
 obtain ⟨W1,O,hW,hW1⟩:∃W1 O,cB n p l=.fp [.int .i64 (n:Int),W1,O]/\W1=slA 6 (wAs p (num l)):=⟨_,_,rfl,rfl⟩
 by_cases hml:m<l.length
 ·rw [if_pos hml]
  obtain ⟨d4,d5,d9,d10,d11,hlast⟩:=qT h L hr hk hw hkp hml (hyes hml)
  rw [if_neg (by simp)] at hlast
  have lp:=my (E:=ee GC th h) (fuel:=300) (a:=ig) (mask:=fg) (fun i=>iU (.func (.yield L) [] []) (.ptr wp 0 0) (.ptr kp 0 0) (.map X.length) (slA 6 (wAs p (num l))) (.int .i64 (l.length:Int)) (.int .i64 (i:Int))) (fun i=>A47 p l n k X i) m
   (fun _=>vW) (fun _ _ h=>by cases h) (fun i hi=>by
    obtain ⟨_,_,_,_,_,hl⟩:=qT h L hr hk hw hkp (show i<l.length by omega) (hno i (by omega) hi)
    rw [if_pos rfl] at hl
    exact hl) hlast (show m<300 by omega)
  have lp:bM (evC (ee GC th h) 300 ig) fg 300 (iU (.func (.yield L) [] []) (.ptr wp 0 0) (.ptr kp 0 0) (.map X.length) (slA 6 (wAs p (num l))) (.int .i64 (l.length:Int)) (.int .i64 0)) (A47 p l n k X 0)=_:=lp
  rw [sT] at lp
  rw [hW] at hw'
  rw [<-hW1] at lp hlen2
  simp [yE,hw',hlen2,yU lp,eH,-ay]
 ·rw [if_neg hml]
  have hml':m=l.length:=by omega
  have lp:=my (E:=ee GC th h) (fuel:=300) (a:=ig) (mask:=fg) (fun i=>iU (.func (.yield L) [] []) (.ptr wp 0 0) (.ptr kp 0 0) (.map X.length) (slA 6 (wAs p (num l))) (.int .i64 (l.length:Int)) (.int .i64 (i:Int))) (fun i=>A47 p l n k X i) l.length
   (o:=.exit 0 ((iU (.func (.yield L) [] []) (.ptr wp 0 0) (.ptr kp 0 0) (.map X.length) (slA 6 (wAs p (num l))) (.int .i64 (l.length:Int)) (.int .i64 (l.length:Int))).set 9 (.bool false)) (A47 p l n k X l.length))
   (fun _=>vW) (fun _ _ h=>by cases h) (fun i hi=>by
    obtain ⟨_,_,_,_,_,hl⟩:=qT h L hr hk hw hkp hi (hno i hi (by omega))
    rw [if_pos rfl] at hl
    exact hl) (by simp [ig]) (show l.length<300 by omega)
  have lp:bM (evC (ee GC th h) 300 ig) fg 300 (iU (.func (.yield L) [] []) (.ptr wp 0 0) (.ptr kp 0 0) (.map X.length) (slA 6 (wAs p (num l))) (.int .i64 (l.length:Int)) (.int .i64 0)) (A47 p l n k X 0)=_:=lp
  rw [sT] at lp
  rw [hW] at hw'
  rw [<-hW1] at lp hlen2
  simp [yE,hw',hlen2,yU lp,eH,-ay]
def wk (p:Int) (l:List a6) (n k:Nat) (x:ec):Option (List Int):=nb p l (hm (lar p l) n x.1.f.toNat) k 0 [x] []
def dW (p:Int) (l:List a6) (n k:Nat):Option (List Int):=(num l).findSome? (wk p l n k)
def oX (p:Int) (l:List a6) (n:Nat):Option (List Int):=(List.range n).findSome? fun j=>dW p l n (j+1)
def gL:List (FuncId × aD):=[(98,H42),(99,bS 4 M43),(148,H47)]
@[simp] theorem Ju:aI gL 98=some H42:=rfl
@[simp] theorem Jt:aI gL 99=some (bS 4 M43):=rfl
@[simp] theorem Js:aI gL 148=some H47:=rfl
theorem qI:∀f M,aI gL f=some M->an Tryz.prog GC f M:=ae pn (ae (an.of_pureF zY 4) (ae rL aw))
theorem wl (h0:aZ) {Q:ac} {n k wb rb kb vid:Nat} {p:Int} {l:List a6} (hr:cf n l p) (hk1:1<=k) (hk:k<=32) (hw:Q[wb]?=some (.row 1 false [cB n p l])) (hkp:Q[kb]?=some (.row 1 false [.int .i64 (k:Int)])) {i:Nat} (hi:i<l.length) (hv:Q[vid]?=some (.row 6 false [wA p (l[i],i)]))
  (hn:wk p l n k (l[i],i)=none) (v0 v6 v7 v8 v9 v10 v11 v12 v13:AV) :
  ∃ σ,run (ee GC gL h0) 300 [.code fH] [v0,.ptr wb 0 0,.ptr rb 0 0,.ptr kb 0 0,.ptr vid 0 0,n4 p l n k l[i].f,v6,v7,v8,v9,v10,v11,v12,v13] Q=some (.normal σ Q):=by
 have m:=sM hr hk1 hk (a:=(l[i],i)) (show (l[i],i)∈num l from List.mem_of_getElem? (eB l i hi)) (to:=l[i].f.toNat)
 unfold wk at hn
 rw [hn] at m
 have hH:∃T,n4 p l n k l[i].f=.fs 1 T/\T=tK (lar p l) n l[i].f.toNat k:=⟨_,rfl,rfl⟩
 obtain ⟨T,hT,hT2⟩:=hH
 rw [<-hT2] at m
 rw [hT]
 obtain ⟨W1,O,hW⟩:∃W1 O,cB n p l=.fp [.int .i64 (n:Int),W1,O]:=⟨_,_,rfl⟩
 rw [hW] at hw m
 unfold wA at hv m
 simp only [tS] at m hv
 simp [fH,hw,hkp,hv,m]
theorem tD (h0:aZ) {Q:ac} {n k wb rb kb vid:Nat} {e2:AV} {p:Int} {l:List a6} (hr:cf n l p) (hk1:1<=k) (hk:k<=32) (hw:Q[wb]?=some (.row 1 false [cB n p l])) (hkp:Q[kb]?=some (.row 1 false [.int .i64 (k:Int)])) (hrb:Q[rb]?=some (.row 1 false [e2])) {i:Nat} (hi:i<l.length) (hv:Q[vid]?=some (.row 6 false [wA p (l[i],i)]))
  {res:List Int} (hn:wk p l n k (l[i],i)=some res) (v0 v6 v7 v8 v9 v10 v11 v12 v13:AV) :
  ∃ σ,run (ee GC gL h0) 300 [.code fH] [v0,.ptr wb 0 0,.ptr rb 0 0,.ptr kb 0 0,.ptr vid 0 0,n4 p l n k l[i].f,v6,v7,v8,v9,v10,v11,v12,v13] Q=some (.ret σ (Q.set rb (.row 1 false [slA 1 (ax res)]))):=by
 have m:=sM hr hk1 hk (a:=(l[i],i)) (show (l[i],i)∈num l from List.mem_of_getElem? (eB l i hi)) (to:=l[i].f.toNat)
 unfold wk at hn
 rw [hn] at m
 have hH:∃T,n4 p l n k l[i].f=.fs 1 T/\T=tK (lar p l) n l[i].f.toNat k:=⟨_,rfl,rfl⟩
 obtain ⟨T,hT,hT2⟩:=hH
 rw [<-hT2] at m
 rw [hT]
 obtain ⟨W1,O,hW⟩:∃W1 O,cB n p l=.fp [.int .i64 (n:Int),W1,O]:=⟨_,_,rfl⟩
 rw [hW] at hw m
 unfold wA at hv m
 obtain ⟨R,hR⟩:∃R,R=slA 1 (ax res):=⟨_,rfl⟩
 have hR2:R=.nilS\/∃T,R=.fs 1 T:=by
  rw [hR]; cases ax res with
  | nil=>exact .inl rfl
  | cons x r=>exact .inr ⟨_,rfl⟩
 simp only [tS,<-hR] at m hv
 rw [<-hR]
 rcases hR2 with rfl | ⟨T2,rfl⟩
 ·simp [fH,hw,hkp,hv,hrb,m]
 ·simp [fH,hw,hkp,hv,hrb,m]
theorem Dy (p:Int) (l:List a6) (n k:Nat) (X:ac) {i:Nat} (hi:i<l.length):P47 p l n k X i l[i]++[.row 6 false [wA p (l[i],i)]]=A47 p l n k X (i+1):=by
 unfold P47 A47
 rw [Dt p l i hi]
 simp
theorem m8 (p:Int) (l:List a6) (n k:Nat) {X:ac} (i:Nat) {j:Nat} (hj:j<X.length):(A47 p l n k X i)[j]?=X[j]?:=by
 unfold A47; rw [List.getElem?_append_left hj]
theorem m7 (p:Int) (l:List a6) (n k:Nat) {X:ac} (i:Nat) {j:Nat} (hj:j<X.length) (e:Ent):(A47 p l n k X i).set j e=A47 p l n k (X.set j e) i:=by
 unfold A47; rw [List.set_append_left _ _ hj]
theorem xe {A:ac} {n:Nat} {e:Ent} (h:A[n]?=some e) (x:Ent):(A.set n x).set n e=A:=by
 rw [List.set_set]
 apply List.ext_getElem?
 intro i
 by_cases hi:n=i
 ·subst hi; rw [List.getElem?_set_self (List.getElem?_eq_some_iff.1 h).1,h]
 ·rw [List.getElem?_set_ne hi]
section
variable {h0:aZ} {X:ac} {r:Loop} {L n k wb rb kb:Nat} {e2:AV} {p:Int} {l:List a6}
theorem tP (hr:cf n l p) (hk1:1<=k) (hk:k<=32) (hw:X[wb]?=some (.row 1 false [cB n p l])) (hkp:X[kb]?=some (.row 1 false [.int .i64 (k:Int)])) (hrb:X[rb]?=some (.row 1 false [e2])) {i:Nat} (hi:i<l.length) (v0 v4 v5 v6 v7 v8 v9 v10 v11 v12 v13:AV) :
  dH X.length L r [v0,.ptr wb 0 0,.ptr rb 0 0,.ptr kb 0 0,v4,v5,v6,v7,v8,v9,v10,v11,v12,v13] [10,11] (evC (ee GC gL h0) 300 di) (evC (ee GC gL h0) 300 fH) h0 (.func (.yield L) [] []) [wA p (l[i],i),n4 p l n k l[i].f] (P47 p l n k (X++[Ent.loop r 0]) i l[i]) =
   match wk p l n k (l[i],i) with
   | none=>some (.bool true,A47 p l n k (X++[Ent.loop r 0]) (i+1))
   | some res=>some (.bool false,A47 p l n k ((X++[Ent.loop r 1]).set rb (.row 1 false [slA 1 (ax res)])) (i+1)):=by
 have hwl:=(List.getElem?_eq_some_iff.1 hw).1
 have hkl:=(List.getElem?_eq_some_iff.1 hkp).1
 have hrl:=(List.getElem?_eq_some_iff.1 hrb).1
 obtain ⟨P,hP⟩:∃P,P=P47 p l n k (X++[Ent.loop r 0]) i l[i]:=⟨_,rfl⟩
 have hQ:=Dy p l n k (X++[Ent.loop r 0]) hi
 rw [<-hP] at hQ ⊢
 have hPn:P[X.length]?=some (.loop r 0):=by rw [hP,P47,List.getElem?_append_left (by simp)]; simp
 obtain ⟨Q,hQ'⟩:∃Q,Q=P++[.row 6 false [wA p (l[i],i)]]:=⟨_,rfl⟩
 have hPl:X.length<P.length:=(List.getElem?_eq_some_iff.1 hPn).1
 have hQn:Q[X.length]?=some (.loop r 0):=by rw [hQ',List.getElem?_append_left hPl]; exact hPn
 have hQo:∀j,j<X.length->(Q.set X.length .dead)[j]?=X[j]?:=fun j hj=>by
  rw [List.getElem?_set_ne (by omega),hQ',hQ,m8 _ _ _ _ _ (by simp; omega),List.getElem?_append_left hj]
 have hQv:(Q.set X.length .dead)[P.length]?=some (.row 6 false [wA p (l[i],i)]):=by
  rw [List.getElem?_set_ne (by omega),hQ']; simp
 have hasg:∀v0 v1 v2 v3 v4 v5 v6 v7 v8 v9 v12 v13,run (ee GC gL h0) 300 [.code di] [v0,v1,v2,v3,v4,v5,v6,v7,v8,v9,wA p (l[i],i),n4 p l n k l[i].f,v12,v13] P=some (.normal [v0,v1,v2,v3,.ptr P.length 0 0,n4 p l n k l[i].f,v6,v7,v8,v9,wA p (l[i],i),n4 p l n k l[i].f,v12,v13] Q):=by
  intros
  rw [hQ']
  obtain ⟨H,hH⟩:∃H,H=n4 p l n k l[i].f:=⟨_,rfl⟩
  rw [<-hH]
  unfold wA
  simp [di]
 cases hwk:wk p l n k (l[i],i) with
 | none=>
  obtain ⟨σ,hb⟩:=wl h0 (Q:=Q.set X.length .dead) hr hk1 hk ((hQo wb hwl).trans hw) ((hQo kb hkl).trans hkp) (rb:=rb) hi hQv hwk v0 v6 v7 v8 v9 (wA p (l[i],i)) (n4 p l n k l[i].f) v12 v13
  unfold dH
  simp [hPn,gY,oU,hasg,hb,hQn,xe hQn]
  rw [hQ',hQ]
 | some res=>
  obtain ⟨σ,hb⟩:=tD h0 (Q:=Q.set X.length .dead) hr hk1 hk ((hQo wb hwl).trans hw) ((hQo kb hkl).trans hkp) ((hQo rb hrl).trans hrb) hi hQv hwk v0 v6 v7 v8 v9 (wA p (l[i],i)) (n4 p l n k l[i].f) v12 v13
  unfold dH
  simp [hPn,gY,oU,hasg,hb,hQn]
  rw [hQ',hQ,m7 _ _ _ _ _ (by simp),m7 _ _ _ _ _ (by simp; omega),m7 _ _ _ _ _ (by simp)]
  congr 1
  rw [List.set_comm _ _ (by omega)]
  congr 1
  simp
end
section
variable {X:ac} {n k wb rb kb wp kp:Nat} {e2:AV} {p:Int} {l:List a6}
theorem BD (hr:cf n l p) (hk1:1<=k) (hk:k<=32) (hw:X[wb]?=some (.row 1 false [cB n p l])) (hkp:X[kb]?=some (.row 1 false [.int .i64 (k:Int)])) (hrb:X[rb]?=some (.row 1 false [e2])) (hw2:X[wp]?=some (.row 1 false [cB n p l])) (hk2:X[kp]?=some (.row 1 false [.int .i64 (k:Int)])) (m:Nat) (hm:m<=l.length)
  (hno:∀i (hi:i<l.length),i<m->wk p l n k (l[i],i)=none) (res:List Int) (hyes:∀hi:m<l.length,wk p l n k (l[m],m)=some res) (v0 v4 v5 v6 v7 v8 v10 v11 v12 v13:AV) (K:List KC) :
  run (ai GC gL) 300 (.code (.rangeFunc (.var 9) [10,11] di fH) :: K) [v0,.ptr wb 0 0,.ptr rb 0 0,.ptr kb 0 0,v4,v5,v6,v7,v8,.func (.func 148) [] [.ptr wp 0 0,.ptr kp 0 0],v10,v11,v12,v13] X =
   after (ai GC gL) 300 K (if m<l.length then .ret [v0,.ptr wb 0 0,.ptr rb 0 0,.ptr kb 0 0,v4,v5,v6,v7,v8,.func (.func 148) [] [.ptr wp 0 0,.ptr kp 0 0],v10,v11,v12,v13] (A47 p l n k ((X++[Ent.dead]).set rb (.row 1 false [slA 1 (ax res)])) (m+1))
    else .normal [v0,.ptr wb 0 0,.ptr rb 0 0,.ptr kb 0 0,v4,v5,v6,v7,v8,.func (.func 148) [] [.ptr wp 0 0,.ptr kp 0 0],v10,v11,v12,v13] (A47 p l n k (X++[Ent.dead]) l.length)):=by
 refine iX _ _ _ _ _ fun L r=>?_
 have hrl:=(List.getElem?_eq_some_iff.1 hrb).1
 have old:∀ {q:Nat} {e:Ent},X[q]?=some e->(X++[Ent.loop r 0])[q]?=some e:=fun {q} {e} h=>by rw [List.getElem?_append_left (List.getElem?_eq_some_iff.1 h).1]; exact h
 have hc:=ev47 (dH X.length L r [v0,.ptr wb 0 0,.ptr rb 0 0,.ptr kb 0 0,v4,v5,v6,v7,v8,.func (.func 148) [] [.ptr wp 0 0,.ptr kp 0 0],v10,v11,v12,v13] [10,11] (evC (ee GC gL fun _ _ _=>none) 300 di) (evC (ee GC gL fun _ _ _=>none) 300 fH) fun _ _ _=>none) L (X:=X++[Ent.loop r 0]) hr hk (old hw2) (old hk2) m hm
  (fun i hi him=>by rw [tP hr hk1 hk hw hkp hrb hi,hno i hi him]) (A47 p l n k ((X++[Ent.loop r 1]).set rb (.row 1 false [slA 1 (ax res)])) (m+1)) (fun hi=>by rw [tP hr hk1 hk hw hkp hrb hi,hyes hi])
 have hcall:kX gL (dH X.length L r [v0,.ptr wb 0 0,.ptr rb 0 0,.ptr kb 0 0,v4,v5,v6,v7,v8,.func (.func 148) [] [.ptr wp 0 0,.ptr kp 0 0],v10,v11,v12,v13] [10,11] (evC (ee GC gL fun _ _ _=>none) 300 di) (evC (ee GC gL fun _ _ _=>none) 300 fH) fun _ _ _=>none)
   (.func (.func 148) [] [.ptr wp 0 0,.ptr kp 0 0]) [.func (.yield L) [] []] (X++[Ent.loop r 0])=_:=hc
 show (match kX gL _ (.func (.func 148) [] [.ptr wp 0 0,.ptr kp 0 0]) [.func (.yield L) [] []] (X++[Ent.loop r 0]) with
  | some (_,A')=>jC X.length _ A'
  | none=>none)=_
 erw [hcall]
 by_cases hml:m<l.length
 ·simp only [if_pos hml]
  have e1:(A47 p l n k ((X++[Ent.loop r 1]).set rb (.row 1 false [slA 1 (ax res)])) (m+1))[X.length]?=some (.loop r 1):=by
   rw [m8 _ _ _ _ _ (by simp),List.getElem?_set_ne (by omega)]; simp
  simp only [jC,e1]
  rw [m7 _ _ _ _ _ (by simp),List.set_comm _ _ (by omega)]
  have e2:(X++[Ent.loop r 1]).set X.length .dead=X++[Ent.dead]:=by simp
  rw [e2]; rfl
 ·simp only [if_neg hml]
  have e1:(A47 p l n k (X++[Ent.loop r 0]) l.length)[X.length]?=some (.loop r 0):=by
   rw [m8 _ _ _ _ _ (by simp)]; simp
  simp only [jC,e1]
  rw [m7 _ _ _ _ _ (by simp)]
  have e2:(X++[Ent.loop r 0]).set X.length .dead=X++[Ent.dead]:=by simp
  rw [e2]; rfl
end
theorem mG {α β:Type} (f:α->Option β) (xs:List α):(xs.findSome? f=none/\∀x∈xs,f x=none)\/∃(m:Nat) (hm:m<xs.length) (r:β),xs.findSome? f=some r/\f xs[m]=some r/\∀i (hi:i<m),f (xs[i]'(by omega))=none:=by
 induction xs with
 | nil=>exact .inl ⟨rfl,by simp⟩
 | cons x xs ih=>
  cases hx:f x with
  | some r=>
   exact .inr ⟨0,by simp,r,by simp [hx],hx,fun i hi=>by omega⟩
  | none=>
   rcases ih with ⟨h1,h2⟩ | ⟨m,hm,r,h1,h2,h3⟩
   ·refine .inl ⟨by simp [hx,h1],fun y hy=>?_⟩
    rcases List.mem_cons.1 hy with rfl | hy
    ·exact hx
    ·exact h2 y hy
   ·refine .inr ⟨m+1,by simp; omega,r,by simp [hx,h1],by simpa using h2,fun i hi=>?_⟩
    cases i with
    | zero=>exact hx
    | succ i=>simpa using h3 i (by omega)
def M27:aG:=fun args=>evP (ai GC gL) 300 tI 5 args
theorem rP:ak Tryz.prog GC 53 M27:=ak.of_ev (E:=ai GC gL) (aj qI) rfl G3 qc 5 fun _ _ h=>⟨300,h⟩
def Ik (n:Nat) (p:Int) (l:List a6) (k kb:Nat) (A:ac):Prop:=A[0]?=some (.row 1 false [cB n p l])/\A[1]?=some (.row 1 false [.nilS])/\A[kb]?=some (.row 1 false [.int .i64 (k:Int)])/\2<=kb
theorem qU {n:Nat} {p:Int} {l:List a6} {k kb:Nat} {A:ac} (hI:Ik n p l k kb A) (hk:n<k):run (ai GC gL) 300 [.code ik] (gW (.ptr 0 0 0) (.ptr 1 0 0) (.ptr kb 0 0)) A=some (.exit 0 ((gW (.ptr 0 0 0) (.ptr 1 0 0) (.ptr kb 0 0)).set 8 (.bool false)) A):=by
 obtain ⟨h0,h1,h2,h3⟩:=hI
 obtain ⟨W1,O,hW⟩:∃W1 O,cB n p l=.fp [.int .i64 (n:Int),W1,O]:=⟨_,_,rfl⟩
 rw [hW] at h0
 have b:aq .leq (.int .i64 (k:Int)) (.int .i64 (n:Int))=some (.bool false):=by simp [aq]; omega
 simp [ik,h0,h2,b,-aq]
theorem qV {n:Nat} {p:Int} {l:List a6} {k kb:Nat} {A:ac} (hr:cf n l p) (hI:Ik n p l k kb A) (hk1:1<=k) (hk:k<=n) :
  (dW p l n k=none/\∃A' kb' σ',run (ai GC gL) 300 [.code ik] (gW (.ptr 0 0 0) (.ptr 1 0 0) (.ptr kb 0 0)) A=some (.normal σ' A')/\clear gD σ'=gW (.ptr 0 0 0) (.ptr 1 0 0) (.ptr kb' 0 0)/\Ik n p l (k+1) kb' A') \/
  (∃res,dW p l n k=some res/\∃A' v0 v3 v4 v5 v6 v7 v8 v9 v10 v11 v12 v13,run (ai GC gL) 300 [.code ik] (gW (.ptr 0 0 0) (.ptr 1 0 0) (.ptr kb 0 0)) A=some (.ret [v0,.ptr 0 0 0,.ptr 1 0 0,v3,v4,v5,v6,v7,v8,v9,v10,v11,v12,v13] A')/\A'[1]?=some (.row 1 false [slA 1 (ax res)])):=by
 obtain ⟨h0,h1,h2,h3⟩:=hI
 have hn32:=hr.1.1
 have h1l:=(List.getElem?_eq_some_iff.1 h1).1
 have h2l:=(List.getElem?_eq_some_iff.1 h2).1
 obtain ⟨X,hX⟩:∃X,X=A++[.row 1 false [cB n p l],.row 1 false [.int .i64 (k:Int)]]:=⟨_,rfl⟩
 have hXo:∀j,j<A.length->X[j]?=A[j]?:=fun j hj=>by rw [hX,List.getElem?_append_left hj]
 have x0:=(hXo 0 (by omega)).trans h0
 have x1:=(hXo 1 h1l).trans h1
 have x2:=(hXo kb h2l).trans h2
 have x3:X[A.length]?=some (.row 1 false [cB n p l]):=by rw [hX]; simp
 have x4:X[A.length+1]?=some (.row 1 false [.int .i64 (k:Int)]):=by rw [hX,List.getElem?_append_right (by omega)]; simp
 have hXl:X.length=A.length+2:=by rw [hX]; simp
 have b:aq .leq (.int .i64 (k:Int)) (.int .i64 (n:Int))=some (.bool true):=by simp [aq]; omega
 have c42:H42 (fun _ _ _=>none) [cB n p l,.int .i64 (k:Int)] A=some (.func (.func 148) [] [.ptr A.length 0 0,.ptr (A.length+1) 0 0],X):=by
  rw [hX]; exact ev42 _ _ _ _
 have rg:=fun m hm hno res hyes=>BD (X:=X) (wb:=0) (rb:=1) (kb:=kb) (wp:=A.length) (kp:=A.length+1) hr hk1 (by omega) x0 x2 x1 x3 x4 m hm hno res hyes .undef .undef .undef .undef .undef (.bool true) .undef .undef .undef .undef
 have b3:=aY k (by omega)
 obtain ⟨k1,hk1'⟩:∃k1:Nat,k1=k+1:=⟨_,rfl⟩
 rw [<-hk1'] at b3 ⊢
 obtain ⟨W1,O,hW⟩:∃W1 O,cB n p l=.fp [.int .i64 (n:Int),W1,O]:=⟨_,_,rfl⟩
 have hlk:aI gL 98=some H42:=rfl
 have hnl:=iw l
 rcases mG (wk p l n k) (num l) with ⟨q1,q2⟩ | ⟨m,hm,res,q1,q2,q3⟩
 ·left
  refine ⟨q1,?_⟩
  have rg1:=rg l.length (Nat.le_refl _) (fun i hi _=>q2 _ (List.mem_of_getElem? (eB l i hi))) [] (fun h=>absurd h (Nat.lt_irrefl _))
  rw [if_neg (Nat.lt_irrefl _)] at rg1
  obtain ⟨D,hD⟩:∃D,D=A47 p l n k (X++[Ent.dead]) l.length:=⟨_,rfl⟩
  rw [<-hD] at rg1
  have hDo:∀j,j<X.length->D[j]?=X[j]?:=fun j hj=>by rw [hD,m8 _ _ _ _ _ (by simp; omega),List.getElem?_append_left hj]
  have hDl:X.length<=D.length:=by rw [hD]; simp [A47]
  have d2:=(hDo kb (by omega)).trans x2
  refine ⟨D++[.row 1 false [.int .i64 (k1:Int)]],D.length,[.undef,.ptr 0 0 0,.ptr 1 0 0,.ptr D.length 0 0,.undef,.undef,.undef,.undef,.undef,.undef,.undef,.undef,.undef,.int .i64 (k:Int)],?_,vZ,?_,?_,?_,by omega⟩
  ·rw [hW] at h0 c42
   obtain ⟨Z,hZ⟩:∃Z,Z=A.length+1:=⟨_,rfl⟩
   obtain ⟨Y,hY⟩:∃Y,Y=A.length:=⟨_,rfl⟩
   rw [<-hZ,<-hY] at c42 rg1
   simp [ik,h0,h2,b,c42,rg1,d2,b3,-aq]
  ·rw [List.getElem?_append_left (by omega),hDo 0 (by omega)]; exact x0
  ·rw [List.getElem?_append_left (by omega),hDo 1 (by omega)]; exact x1
  ·simp
 ·right
  refine ⟨res,q1,?_⟩
  rw [hnl] at hm
  have hnm:∀i (hi:i<l.length),(num l)[i]'(by omega)=(l[i],i):=fun i hi=>by
   have:=eB l i hi
   rw [List.getElem?_eq_getElem (by omega)] at this
   exact Option.some.inj this
  have rg1:=rg m (by omega) (fun i hi him=>by rw [<-hnm i hi]; exact q3 i him) res (fun hi=>by rw [<-hnm m hi]; exact q2)
  rw [if_pos hm] at rg1
  obtain ⟨D,hD⟩:∃D,D=A47 p l n k ((X++[Ent.dead]).set 1 (.row 1 false [slA 1 (ax res)])) (m+1):=⟨_,rfl⟩
  rw [<-hD] at rg1
  refine ⟨D,.undef,.ptr kb 0 0,.undef,.undef,.undef,.undef,.bool true,.func (.func 148) [] [.ptr A.length 0 0,.ptr (A.length+1) 0 0],.undef,.undef,.undef,.undef,?_,?_⟩
  ·rw [hW] at h0 c42
   obtain ⟨Z,hZ⟩:∃Z,Z=A.length+1:=⟨_,rfl⟩
   obtain ⟨Y,hY⟩:∃Y,Y=A.length:=⟨_,rfl⟩
   rw [<-hZ,<-hY] at c42 rg1 ⊢
   simp [ik,h0,h2,b,c42,rg1,-aq]
  ·rw [hD,m8 _ _ _ _ _ (by simp; omega),List.getElem?_set_self (by simp; omega)]
theorem sO {n:Nat} {p:Int} {l:List a6} (hr:cf n l p):M27 [cB n p l]=some (slA 1 (ax ((oX p l n).getD []))):=by
 have hn32:=hr.1.1
 obtain ⟨o,h1,h2⟩:=fq (E:=ai GC gL) (fuel:=300) (a:=ik) (mask:=gD)
  (fun κ σ A=>∃k kb,k+κ=n+1/\1<=k/\clear gD σ=gW (.ptr 0 0 0) (.ptr 1 0 0) (.ptr kb 0 0)/\Ik n p l k kb A/\∀j,j+1<k->dW p l n (j+1)=none)
  (fun o=>(∃k res A' v0 v3 v4 v5 v6 v7 v8 v9 v10 v11 v12 v13,k<n/\dW p l n (k+1)=some res/\(∀j,j<k->dW p l n (j+1)=none)/\o=.ret [v0,.ptr 0 0 0,.ptr 1 0 0,v3,v4,v5,v6,v7,v8,v9,v10,v11,v12,v13] A'/\A'[1]?=some (.row 1 false [slA 1 (ax res)])) \/
   ((∀j,j<n->dW p l n (j+1)=none)/\∃kb A',o=.exit 0 ((gW (.ptr 0 0 0) (.ptr 1 0 0) (.ptr kb 0 0)).set 8 (.bool false)) A'/\A'[1]?=some (.row 1 false [.nilS])))
  (by
   rintro κ σ A ⟨k,kb,hk,hk1,hσ,hI,hno⟩
   rw [hσ]
   by_cases hkn:k<=n
   ·rcases qV hr hI hk1 hkn with ⟨q1,A',kb',σ',c1,c2,c3⟩ | ⟨res,q1,A',v0,v3,v4,v5,v6,v7,v8,v9,v10,v11,v12,v13,c1,c2⟩
    ·refine .inl ⟨σ',A',c1,κ-1,by omega,k+1,kb',by omega,by omega,c2,c3,fun j hj=>?_⟩
     by_cases hjk:j+1=k
     ·rw [hjk]; exact q1
     ·exact hno j (by omega)
    ·refine .inr ⟨_,c1,(fun _ _ h=>by cases h),.inl ⟨k-1,res,A',v0,v3,v4,v5,v6,v7,v8,v9,v10,v11,v12,v13,by omega,by rw [show k-1+1=k by omega]; exact q1,fun j hj=>hno j (by omega),rfl,c2⟩⟩
   ·refine .inr ⟨_,qU hI (by omega),(fun _ _ h=>by cases h),.inr ⟨fun j hj=>hno j (by omega),kb,A,rfl,hI.2.1⟩⟩)
  300 n (gW (.ptr 0 0 0) (.ptr 1 0 0) (.ptr 2 0 0)) [.row 1 false [cB n p l],.row 1 false [.nilS],.row 1 false [.int .i64 1]] (by omega) ⟨1,2,by omega,by omega,vZ,⟨rfl,rfl,rfl,by omega⟩,fun j hj=>by omega⟩
 have hc:∀k res,k<n->dW p l n (k+1)=some res->(∀j,j<k->dW p l n (j+1)=none)->oX p l n=some res:=fun k res hk h1 h2=>by
  unfold oX
  rcases mG (fun j=>dW p l n (j+1)) (List.range n) with ⟨q1,q2⟩ | ⟨m,hm,r,q1,q2,q3⟩
  ·have:=q2 k (by simp; omega)
   rw [h1] at this; cases this
  ·simp only [List.getElem_range] at q2 q3
   simp only [List.length_range] at hm
   rw [q1]
   rcases Nat.lt_trichotomy m k with h | h | h
   ·rw [h2 m h] at q2; cases q2
   ·rw [h] at q2; rw [h1] at q2; exact q2.symm
   ·rw [q3 k h] at h1; cases h1
 have hc2:(∀j,j<n->dW p l n (j+1)=none)->oX p l n=none:=fun h=>by
  unfold oX
  rw [List.findSome?_eq_none_iff]
  intro j hj
  exact h j (by simpa using hj)
 obtain ⟨W1,O,hW⟩:∃W1 O,cB n p l=.fp [.int .i64 (n:Int),W1,O]:=⟨_,_,rfl⟩
 unfold M27
 rw [aS _ _ rfl]
 rw [hW] at h1 ⊢
 rcases h2 with ⟨k,res,A',v0,v3,v4,v5,v6,v7,v8,v9,v10,v11,v12,v13,hk,q1,q2,rfl,q3⟩ | ⟨q1,kb,A',rfl,q3⟩
 ·rw [hc k res hk q1 q2]
  simp only [Option.getD_some]
  have hfz:frz A' 5 (slA 1 (ax res))=slA 1 (ax res):=rf _ _ _ _
  have hR2:slA 1 (ax res)=.nilS\/∃T,slA 1 (ax res)=.fs 1 T:=by
   cases ax res with
   | nil=>exact .inl rfl
   | cons x r=>exact .inr ⟨_,rfl⟩
  rcases hR2 with e | ⟨T,e⟩
  ·rw [e] at q3 ⊢
   simp [tI,vg h1,q3]
  ·rw [e] at q3 ⊢
   simp [tI,vg h1,q3]
 ·rw [hc2 q1]
  have hset:(A'.set 1 (.row 1 false [.nilS]))[1]?=some (.row 1 false [.nilS]):=List.getElem?_set_self (List.getElem?_eq_some_iff.1 q3).1
  simp [tI,vg h1,q3,hset,slA,ax]
def vo:List (FuncId × aD):=[(51,bS 4 M25),(52,bS 4 M26),(53,aF 4 M27)]
@[simp] theorem Kg:aI vo 51=some (bS 4 M25):=rfl
@[simp] theorem Kf:aI vo 52=some (bS 4 M26):=rfl
@[simp] theorem Ke:aI vo 53=some (aF 4 M27):=rfl
theorem qM:∀f M,aI vo f=some M->an Tryz.prog GC f M:=ae (an.of_pureF ot 4) (ae (an.of_pureF oq 4) (ae (an.of_pure rP 4) aw))
def H14:aD:=fun _=>bA (ai GC vo) 0 wU
theorem nL:an Tryz.prog GC 17 H14:=(aN (aj qM) rfl KS vU a5.nil).y
open Classical in
def lvM (n:Int) (l:List a6) (p:Int):List Int × List Int × Bool:=
 if cf n l p then (if (bX (lar p l) n.toNat).2=true then ((bX (lar p l) n.toNat).1,[],true) else ([],(oX p l n.toNat).getD [],false)) else ([],[],false)
def lvT (r:List Int × List Int × Bool):AV:=.tup [slA 1 (ax r.1),slA 1 (ax r.2.1),.bool r.2.2]
theorem lT (xs:List Int):slA 1 (ax xs)=.nilS\/∃T,slA 1 (ax xs)=.fs 1 T:=by
 cases xs with
 | nil=>exact .inl rfl
 | cons x r=>exact .inr ⟨_,rfl⟩
open Classical in
theorem zH (h:aZ) {A:ac} {a a':AV} {l:List a6} (ha:frz A 4 a=a') (hl:bJ a'=some l) (n p:Int):H14 h [.int .i64 n,a,.int .i64 p] A=some (lvT (lvM n l p),A):=by
 have m1:M25 [.int .i64 n,a',.int .i64 p]=some (if cf n l p then .tup [cB n.toNat p l,.bool true] else .tup [.nilP,.bool false]):=by simp only [M25,hl,Option.map_some]
 unfold H14
 rw [bH _ _ rfl]
 by_cases hr:cf n l p
 rotate_left
 ·rw [if_neg hr] at m1
  have e:lvM n l p=([],[],false):=if_neg hr
  rw [e]
  simp [wU,ha,m1,aT,eH,lvT,slA,ax,-frz]
 rw [if_pos hr] at m1
 obtain ⟨m,rfl⟩:∃m:Nat,n=(m:Int):=⟨n.toNat,by have:=hr.1.1; omega⟩
 rw [Int.toNat_natCast] at m1
 have m2:=sP hr
 have m3:=sO hr
 obtain ⟨W1,O,hW⟩:∃W1 O,cB m p l=.fp [.int .i64 (m:Int),W1,O]:=⟨_,_,rfl⟩
 rw [hW] at m1 m2 m3
 have hfw:∀B,frz B 4 (.fp [.int .i64 (m:Int),W1,O])=.fp [.int .i64 (m:Int),W1,O]:=fun _=>rfl
 have hnr:bq 4 (.fp [.int .i64 (m:Int),W1,O])=true:=rfl
 by_cases hok:(bX (lar p l) m).2=true
 ·have e:lvM m l p=((bX (lar p l) m).1,[],true):=by
   unfold lvM; rw [if_pos hr,Int.toNat_natCast,if_pos hok]
  rw [e]
  rw [hok] at m2
  obtain ⟨xs,hxs⟩:∃xs,xs=(bX (lar p l) m).1:=⟨_,rfl⟩
  rw [<-hxs] at m2 ⊢
  obtain ⟨T,hT⟩:∃T,T=slA 1 (ax xs):=⟨_,rfl⟩
  rw [<-hT] at m2
  simp [wU,ha,m1,m2,aT,hfw,eH,lvT,<-hT,-frz]
  simp [slA,ax]
 ·have e:lvM m l p=([],(oX p l m).getD [],false):=by
   unfold lvM; rw [if_pos hr,Int.toNat_natCast,if_neg hok]
  rw [e]
  rw [Bool.not_eq_true] at hok
  rw [hok] at m2
  obtain ⟨S,hS⟩:∃S,S=slA 1 (ax (bX (lar p l) m).1):=⟨_,rfl⟩
  rw [<-hS] at m2
  obtain ⟨T,hT⟩:∃T,T=slA 1 (ax ((oX p l m).getD [])):=⟨_,rfl⟩
  rw [<-hT] at m3
  simp [wU,ha,m1,m2,m3,aT,hfw,eH,lvT,<-hT,-frz]
  simp [slA,ax]
theorem bi (A:ac) (n:Nat) (b:Bool):frz A n (.bool b)=.bool b:=by cases n <;> rfl
def j6 (x:Int):Bool:=!decide (0<=x/\x<=1000000000)
def M35:aG:=fun args=>match args with
 | [.int .i64 x]=>some (.bool (j6 x))
 | _=>none
theorem uk:ak Tryz.prog GC 59 M35:=by
 refine ak.of_ev (E:=ai GC fsW) (aj rQ) rfl Kv vR 1 ?_
 intro args r h
 unfold M35 at h
 split at h
 ·rename_i x
  injection h with h; subst h
  refine ⟨0,?_⟩
  have m:=jE x 0 1000000000
  unfold j6
  obtain ⟨d,hd⟩:∃d,d=decide (0<=x/\x<=1000000000):=⟨_,rfl⟩
  rw [<-hd] at m ⊢
  rw [aS _ _ rfl]
  simp [DA,m,-aq]
 ·cases h
def j7 (n:Nat) (x:Int):Bool:=!decide (0<=x/\x<=(n:Int)-1)
def M46:aG:=fun args=>evP (ai GC fsW) 0 BQ 1 args
theorem uh:ak Tryz.prog GC 100 M46:=ak.of_ev (E:=ai GC fsW) (aj rQ) rfl Kq vM 1 fun _ _ h=>⟨0,h⟩
theorem wJ {n:Nat} {p:Int} {l:List a6} (hl:l.length<=200) (x:Int):M46 [.int .i64 x,.fp [cB n p l]]=some (.bool (j7 l.length x)):=by
 have m:=jE x 0 ((l.length:Int)-1)
 have hlen2:ay (slA 6 (wAs p (num l)))=some (.int .i64 (l.length:Int)):=by rw [oH,oj]
 have b0:aq .sub (.int .i64 (l.length:Int)) (.int .i64 1)=some (.int .i64 ((l.length:Int)-1)):=by
  simp only [aq]; rw [if_pos trivial,dB (by unfold inI; omega)]
 obtain ⟨W1,O,hW,hW1⟩:∃W1 O,cB n p l=.fp [.int .i64 (n:Int),W1,O]/\W1=slA 6 (wAs p (num l)):=⟨_,_,rfl,rfl⟩
 rw [<-hW1] at hlen2
 rw [hW]
 unfold j7
 obtain ⟨k,hk⟩:∃k,k=(l.length:Int)-1:=⟨_,rfl⟩
 rw [<-hk] at m b0 ⊢
 obtain ⟨d,hd⟩:∃d,d=decide (0<=x/\x<=k):=⟨_,rfl⟩
 rw [<-hd] at m ⊢
 unfold M46
 rw [aS _ _ rfl]
 simp [BQ,hlen2,b0,m,-aq,-ay]
def wW:List (FuncId × aD):=[(59,aF 4 M35),(100,aF 4 M46)]
@[simp] theorem Jb:aI wW 59=some (aF 4 M35):=rfl
@[simp] theorem Ja:aI wW 100=some (aF 4 M46):=rfl
theorem AT:∀f M,aI wW f=some M->an Tryz.prog GC f M:=ae (an.of_pure uk 4) (ae (an.of_pure uh 4) aw)
def M45:aG:=fun args=>evP (ai GC wW) 300 tH 1 args
theorem ui:ak Tryz.prog GC 101 M45:=ak.of_ev (E:=ai GC wW) (aj AT) rfl Ib sD 1 fun _ _ h=>⟨300,h⟩
theorem zB {f:FuncId} {cap:List AV} {Mf:aG} (hlk:aI wW f=some (aF 4 Mf)) {q:Int->Bool} {xs:List Int} (hm:∀x∈xs,∀A,Mf (.int .i64 x :: cap.map (frz A 4))=some (.bool (q x))) {b:AV} (hb:SlA 1 (ax xs) b) (hl:xs.length<=200) :
  M45 [b,.func (.func f) [] cap]=some (.int .i64 (cH q xs)):=by
 have hlen:=hb.len
 rw [aH] at hlen
 have round:∀(A:ac) (i:Nat) (hi:i<xs.length),run (ai GC wW) 300 [.code dC] (eh b (.func (.func f) [] cap) (.int .i64 (xs.length:Int)) (.int .i64 (i:Int))) A =
   if q xs[i]=false then some (.normal (eh b (.func (.func f) [] cap) (.int .i64 (xs.length:Int)) (.int .i64 ((i+1:Nat):Int))) A) else some (.ret [b,.func (.func f) [] cap,.int .i64 (i:Int),.int .i64 (i:Int),.int .i64 (xs.length:Int),.int .i64 (i:Int),.bool true,.bool true] A):=fun A i hi=>by
  have x1:=hb.int (A:=A) _ _ (List.getElem?_eq_getElem hi) .i64
  have m:=hm _ (List.getElem_mem hi) A
  have b1:=bw i xs.length .i64
  rw [decide_eq_true hi] at b1
  have b3:=aY i (by omega)
  obtain ⟨i1,hi1⟩:∃i1:Nat,i1=i+1:=⟨_,rfl⟩
  rw [<-hi1] at b3 ⊢
  obtain ⟨d,hd⟩:∃d,d=q xs[i]:=⟨_,rfl⟩
  rw [<-hd] at m ⊢
  cases d with
  | false=>simp [dC,x1,hlk,m,b1,b3,-aq,-au,-ay]
  | true=>simp [dC,x1,hlk,m,b1,-aq,-au,-ay]
 unfold M45
 rw [aS _ _ rfl]
 rcases cP (E:=ai GC wW) (fuel:=300) (a:=dC) (mask:=dN) (fun i=>eh b (.func (.func f) [] cap) (.int .i64 (xs.length:Int)) (.int .i64 (i:Int))) (fun _=>[]) xs.length (fun i=>¬ ∀hi:i<xs.length,q xs[i]=false)
  (oF:=fun i=>.ret [b,.func (.func f) [] cap,.int .i64 (i:Int),.int .i64 (i:Int),.int .i64 (xs.length:Int),.int .i64 (i:Int),.bool true,.bool true] []) (oE:=.exit 0 ((eh b (.func (.func f) [] cap) (.int .i64 (xs.length:Int)) (.int .i64 (xs.length:Int))).set 6 (.bool false)) [])
  (fun _=>vX) (fun _ _ _ h=>by cases h) (fun _ _ h=>by cases h)
  (fun i hi hp=>by
   rw [round [] i hi]
   exact if_pos (Classical.not_not.1 hp hi))
  (fun i hi hp=>by
   rw [round [] i hi]
   exact if_neg fun h=>hp fun _=>h)
  (by simp [dC]) (show xs.length<300 by omega) with ⟨i,hi,hp,hj,lp⟩ | ⟨hp,lp⟩
 ·have lp:bM (evC (ai GC wW) 300 dC) dN 300 (eh b (.func (.func f) [] cap) (.int .i64 (xs.length:Int)) (.int .i64 0)) []=_:=lp
  have e:cH q xs=(i:Int):=bu hi (by
   cases h':q xs[i] with
   | true=>rfl
   | false=>exact absurd (fun _=>h') hp) (fun j hj'=>Classical.not_not.1 (hj j hj') (by omega))
  rw [e]
  simp [tH,hlen,si lp,-aq,-ay]
 ·have lp:bM (evC (ai GC wW) 300 dC) dN 300 (eh b (.func (.func f) [] cap) (.int .i64 (xs.length:Int)) (.int .i64 0)) []=_:=lp
  have e:cH q xs = -1:=bG fun i hi=>Classical.not_not.1 (hp i hi) hi
  rw [e]
  simp [tH,hlen,si lp,-aq,-ay]
def HZ:List (FuncId × aD):=[(101,aF 4 M45)]
@[simp] theorem Jk:aI HZ 101=some (aF 4 M45):=rfl
theorem A5:∀f M,aI HZ f=some M->an Tryz.prog GC f M:=ae (an.of_pure ui 4) aw
def M36:aG:=fun args=>evP (ai GC HZ) 0 xN 1 args
theorem rN:ak Tryz.prog GC 61 M36:=ak.of_ev (E:=ai GC HZ) (aj A5) rfl Ic sE 1 fun _ _ h=>⟨0,h⟩
theorem zC {F:AV} {q:Int->Bool} {xs:List Int} {b:AV} (hb:SlA 1 (ax xs) b) (hF:∀A,frz A 4 F=F) (h:M45 [b,F]=some (.int .i64 (cH q xs))):M36 [b,F]=some (.bool (xs.any q)):=by
 have b1:=iR (cH q xs)
 rw [ce] at b1
 have f1:∀A n,frz A n b=b:=fun A n=>hb.frz n
 obtain ⟨z,hz⟩:∃z,z=cH q xs:=⟨_,rfl⟩
 rw [<-hz] at h b1
 unfold M36
 rw [aS _ _ rfl]
 simp [xN,f1,hF,h,b1,cq,bi,-aq,-frz]
def ea (n:Int) (l:List a6) (p:Int) (s:List Int):Prop:=cf n l p/\(s.length:Int)=n/\(∀x∈s,0<=x/\x<=1000000000)/\jZ (lar p l) s
open Classical in
def M19:aG:=fun args=>match args with
 | [.int .i64 n,a,.int .i64 p,b]=>match bJ a,ev b with
  | some l,some s=>some (.bool (decide (ea n l p s)))
  | _,_=>none
 | _=>none
def ly:List (FuncId × aD):=[(51,bS 4 M25),(61,aF 4 M36),(62,fun _=>bA (ai GC []) 300 uP),(63,fun _=>bA (ai GC []) 0 r9)]
@[simp] theorem J2:aI ly 51=some (bS 4 M25):=rfl
@[simp] theorem J1:aI ly 61=some (aF 4 M36):=rfl
@[simp] theorem J0:aI ly 62=some (fun _=>bA (ai GC []) 300 uP):=rfl
@[simp] theorem JZ:aI ly 63=some (fun _=>bA (ai GC []) 0 r9):=rfl
theorem qK:∀f M,aI ly f=some M->an Tryz.prog GC f M:=ae (an.of_pureF ot 4) (ae (an.of_pure rN 4) (ae yA (ae nJ aw)))
theorem vr (A:ac):frz A 4 (.func (.func 59) [] [])=.func (.func 59) [] []:=rfl
theorem od (s:List Int):s.any j6=false↔∀x∈s,0<=x/\x<=1000000000:=by
 rw [List.any_eq_false]; unfold j6; simp
open Classical in
theorem nK:ak Tryz.prog GC 20 M19:=by
 refine ak.of_ev (E:=ai GC ly) (aj qK) rfl Kw vS 1 ?_
 intro args r h
 unfold M19 at h
 split at h
 rotate_left
 ·cases h
 rename_i n a p b
 split at h
 rotate_left
 ·cases h
 rename_i l s hl hs
 injection h with h; subst h
 refine ⟨0,?_⟩
 obtain ⟨hb,_,hsl⟩:=iE hs
 have f1:∀A n,frz A n a=a:=fun A n=>dS hl A n
 have f2:∀A n,frz A n b=b:=fun A n=>hb.frz n
 have f3:=ez hl
 have f4:=kz hs
 have m1:M25 [.int .i64 n,a,.int .i64 p]=some (if cf n l p then .tup [cB n.toNat p l,.bool true] else .tup [.nilP,.bool false]):=by simp only [M25,hl,Option.map_some]
 have hlen:=hb.len
 have hlen':(s.map (AV.int .i64)).length=s.length:=by simp
 rw [hlen'] at hlen
 rw [aS _ _ rfl]
 by_cases hr:cf n l p
 rotate_left
 ·rw [if_neg hr] at m1
  rw [decide_eq_false (show ¬ ea n l p s from fun h=>hr h.1)]
  simp [wS,f1,m1,aT,bi,-frz,-ay]
 rw [if_pos hr] at m1
 have b1:aq .eql (.int .i64 (s.length:Int)) (.int .i64 n)=some (.bool (decide ((s.length:Int)=n))):=by simp [aq]
 obtain ⟨m,rfl⟩:∃m:Nat,n=(m:Int):=⟨n.toNat,by have:=hr.1.1; omega⟩
 rw [Int.toNat_natCast] at m1
 obtain ⟨W1,O,hW⟩:∃W1 O,cB m p l=.fp [.int .i64 (m:Int),W1,O]:=⟨_,_,rfl⟩
 by_cases h1:(s.length:Int)=(m:Int)
 rotate_left
 ·rw [decide_eq_false h1] at b1
  rw [decide_eq_false (show ¬ ea m l p s from fun h=>h1 h.2.1)]
  rw [hW] at m1
  simp [wS,f1,m1,hlen,b1,aT,bi,-frz,-ay,-aq]
 rw [decide_eq_true h1] at b1
 have hm32:=hr.1.1
 have m45:=zB (f:=59) (cap:=[]) (Mf:=M35) rfl (q:=j6) (xs:=s) (fun x _ A=>rfl) hb (by omega)
 have m36:=zC (q:=j6) hb (fun A=>rfl) m45
 by_cases h2:∀x∈s,0<=x/\x<=1000000000
 rotate_left
 ·have h2':s.any j6=true:=by
   cases h:s.any j6 with
   | true=>rfl
   | false=>exact absurd ((od s).1 h) h2
  rw [h2'] at m36
  rw [decide_eq_false (show ¬ ea m l p s from fun h=>h2 h.2.2.1)]
  rw [hW] at m1
  simp [wS,f1,f2,m1,hlen,b1,m36,aT,bi,cq,vr,-frz,-ay,-aq]
 rw [(od s).2 h2] at m36
 have hsm:s.length=m:=by omega
 have hne:s≠[]:=by
  intro h
  rw [h] at hsm
  simp at hsm; omega
 have c38:=Kj (ai GC []) 0 (A:=[]) (a:=b) (xs:=s) (.inl hb) hne (by omega)
 obtain ⟨A',c37,_⟩:=wi (A:=[.dead,.row 1 false (ax s)]) (id:=1) hsm hr.2 hr.1.2.2 (by omega) hr.1.2.1 (hi:=1000000000) (fun v hv=>by
  have:s.getD v 0∈s:=by rw [List.getD_eq_getElem?_getD,List.getElem?_eq_getElem hv]; simp
  have:=h2 _ this
  omega) (by omega) rfl
 have e:decide (ea m l p s)=!upL (lar p l) s:=by
  cases hu:upL (lar p l) s with
  | true=>
   exact decide_eq_false fun h=>by rw [lH h.2.2.2] at hu; cases hu
  | false=>
   exact decide_eq_true ⟨hr,h1,h2,(eG hu).2⟩
 rw [e]
 rw [hsm] at c38
 rw [hW] at m1 c37
 simp at c38
 simp [wS,f1,f2,m1,hlen,b1,m36,c38,c37,aT,bi,cq,vr,-frz,-ay,-aq]
def rt (l:List a6) (i:Int):a6:=l.getD i.toNat ⟨0,0,0,0⟩
def exL (p:Int) (l:List a6):List Int->Int->Int->Int->Option (Int × Int)
 | [],_,s,t=>some (s,t)
 | i :: r,at_,s,t=>if (rt l i).f=at_ then exL p l r (rt l i).t (s+(rt l i).len p) (t+(rt l i).k) else none
def ra (l:List a6) (xs:List Int):Prop:=∀x∈xs,0<=x/\x<=(l.length:Int)-1
instance (l:List a6) (xs:List Int):Decidable (ra l xs):=inferInstanceAs (Decidable (∀x∈xs,_))
def exM (p:Int) (l:List a6) (xs:List Int):Option (Int × Int):=if (1<=xs.length/\xs.length<=200)/\ra l xs then exL p l xs (rt l (xs.getLastD 0)).t 0 0 else none
theorem oe (l:List a6) (s:List Int):s.any (j7 l.length)=false↔ra l s:=by
 rw [List.any_eq_false]; unfold j7 ra; simp
theorem o7 {l:List a6} {x:Int} (h:0<=x/\x<=(l.length:Int)-1):∃(j:Nat) (hj:j<l.length),x=(j:Int)/\rt l x=l[j]:=by
 refine ⟨x.toNat,by omega,by omega,?_⟩
 unfold rt
 rw [List.getD_eq_getElem?_getD,List.getElem?_eq_getElem (by omega)]; rfl
def Lv:MC:=.region [⟨none,.indexSl 1 (.var 12) (.var 14),none⟩,⟨none,.load false 1 (.tmp 0),none⟩,⟨some 8,.mv (.tmp 1),none⟩]
def Lu:MC:=.region [⟨none,.load false 1 (.var 2),none⟩,⟨none,.nilCheck (.tmp 0),none⟩,⟨none,.fieldAddr 1 (.tmp 1),none⟩,⟨none,.load false 1 (.tmp 2),none⟩,⟨none,.mv (.var 8),none⟩,⟨none,.indexSl 6 (.tmp 3) (.tmp 4),none⟩,⟨none,.load true 6 (.tmp 5),none⟩,⟨some 9,.alloc 6 (.agg [.int .i64 0,.int .i64 0,.int .i64 0,.int .i64 0,.int .i64 0,.int .i64 0]),none⟩,⟨none,.store 6 (.var 9) (.tmp 6),none⟩]
def Lt:MC:=.region [⟨none,.fieldAddr 0 (.var 9),none⟩,⟨none,.fieldAddr 0 (.tmp 0),none⟩,⟨none,.load false 1 (.tmp 1),none⟩,⟨none,.mv (.var 7),none⟩,⟨some 16,.bin .neq (.tmp 2) (.tmp 3),none⟩]
def Ls:MC:=.region [⟨some 3,.mv (.cst (.int .i64 0)),none⟩,⟨some 4,.mv (.cst (.int .i64 0)),none⟩,⟨some 5,.mv (.cst (.bool false)),none⟩]
def Lr:MC:=.region [⟨none,.mv (.var 3),none⟩,⟨none,.fieldAddr 5 (.var 9),none⟩,⟨none,.load false 1 (.tmp 1),none⟩,⟨none,.bin .add (.tmp 0) (.tmp 2),none⟩,⟨none,.mv (.var 4),none⟩,⟨none,.fieldAddr 0 (.var 9),none⟩,⟨none,.fieldAddr 3 (.tmp 5),none⟩,⟨none,.load false 1 (.tmp 6),none⟩,⟨none,.bin .add (.tmp 4) (.tmp 7),none⟩,⟨none,.fieldAddr 0 (.var 9),none⟩,⟨none,.fieldAddr 1 (.tmp 9),none⟩,⟨none,.load false 1 (.tmp 10),none⟩,⟨some 3,.mv (.tmp 3),none⟩,⟨some 4,.mv (.tmp 8),none⟩,⟨some 7,.mv (.tmp 11),none⟩]
theorem zx:mp=.seq (.region [⟨some 15,.bin .lss (.var 14) (.var 13),none⟩]) (.seq (.cond (.var 15) .skip (.exit 0)) (.seq (.seq (.block 1 (.seq Lv (.seq Lu (.seq (.seq Lt (.cond (.var 16) (.seq Ls .ret) .skip)) Lr)))) (.kill [0,1,5,6,8,9,10,11,15,16])) (.region [⟨none,.bin .add (.var 14) (.cst (.int .i64 1)),none⟩,⟨some 14,.mv (.tmp 0),none⟩]))):=rfl
theorem Iz (E:Env) (fuel:Nat) (K:List KC) (X:MC) {A:ac} {n j i:Nat} {p:Int} {l:List a6} {xs:List Int} {c:AV} (hc:SlA 1 (ax xs) c) (hi:i<xs.length) (hx:xs[i]=(j:Int)) (hj:j<l.length) (hA:A[0]?=some (.row 1 false [cB n p l])) (v3 v4 v7 v13 v15 v16:AV) :
  run E fuel (.code (.seq Lv (.seq Lu X)) :: K) [.undef,.undef,.ptr 0 0 0,v3,v4,.undef,.undef,v7,.undef,.undef,.undef,.undef,c,v13,.int .i64 (i:Int),v15,v16] A =
   run E fuel (.code X :: K) [.undef,.undef,.ptr 0 0 0,v3,v4,.undef,.undef,v7,.int .i64 (j:Int),.ptr A.length 0 0,.undef,.undef,c,v13,.int .i64 (i:Int),v15,v16] (A++[.row 6 false [wA p (l[j],j)]]):=by
 have x1:=hc.int (A:=A) _ _ (List.getElem?_eq_getElem hi) .i64
 rw [hx] at x1
 have x2:=pc p hj A .i64
 obtain ⟨W1,O,hW,hW1⟩:∃W1 O,cB n p l=.fp [.int .i64 (n:Int),W1,O]/\W1=slA 6 (wAs p (num l)):=⟨_,_,rfl,rfl⟩
 rw [<-hW1] at x2
 rw [hW] at hA
 simp [Lv,Lu,x1,x2,hA,wA,-au]
theorem Bn (E:Env) (fuel:Nat) {A:ac} {n i:Nat} {p:Int} {l:List a6} (hr:cf n l p) {xs:List Int} {c:AV} (hc:SlA 1 (ax xs) c) (hl:xs.length<=200) (hin:ra l xs) (hi:i<xs.length) (hA:A[0]?=some (.row 1 false [cB n p l])) {s t at_:Int} (hs : -(3000000*(i:Int))<=s/\s<=3000000*i) (ht : -(2*(i:Int))<=t/\t<=2*i) :
  ∃A',A'[0]?=some (.row 1 false [cB n p l])/\∃v8 v9 v15 v16,run E fuel [.code mp] (lM (.ptr 0 0 0) (.int .i64 s) (.int .i64 t) (.int .i64 at_) c (.int .i64 (xs.length:Int)) (.int .i64 (i:Int))) A =
   if (rt l xs[i]).f=at_ then some (.normal (lM (.ptr 0 0 0) (.int .i64 (s+(rt l xs[i]).len p)) (.int .i64 (t+(rt l xs[i]).k)) (.int .i64 (rt l xs[i]).t) c (.int .i64 (xs.length:Int)) (.int .i64 ((i+1:Nat):Int))) A')
   else some (.ret [.undef,.undef,.ptr 0 0 0,.int .i64 0,.int .i64 0,.bool false,.undef,.int .i64 at_,v8,v9,.undef,.undef,c,.int .i64 (xs.length:Int),.int .i64 (i:Int),v15,v16] A'):=by
 obtain ⟨j,hj,hx,he⟩:=o7 (hin _ (List.getElem_mem hi))
 rw [he]
 have hmem:=hr.1.2.2 _ (List.getElem_mem hj)
 have hn32:=hr.1.1
 have hlen:=gg (n:=32) (a:=l[j]) ⟨⟨by have:=hmem.1; omega,by have:=hmem.1; omega⟩,⟨by have:=hmem.2.1; omega,by have:=hmem.2.1; omega⟩,hmem.2.2.1,hmem.2.2.2⟩ hr.2
 have htok:=hmem.2.2.2
 have r1:=fun K X=>Iz E fuel K X hc hi hx hj hA (.int .i64 s) (.int .i64 t) (.int .i64 at_) (.int .i64 (xs.length:Int)) (.bool true) .undef
 obtain ⟨B,hB⟩:∃B,B=A++[.row 6 false [wA p (l[j],j)]]:=⟨_,rfl⟩
 have hBv:B[A.length]?=some (.row 6 false [wA p (l[j],j)]):=by rw [hB]; simp
 have hB0:B[0]?=some (.row 1 false [cB n p l]):=by rw [hB,List.getElem?_append_left (List.getElem?_eq_some_iff.1 hA).1]; exact hA
 rw [<-hB] at r1
 unfold wA at hBv
 simp only at hBv
 have b1:=bw i xs.length .i64
 rw [decide_eq_true hi] at b1
 have b3:=aY i (by omega)
 obtain ⟨i1,hi1⟩:∃i1:Nat,i1=i+1:=⟨_,rfl⟩
 rw [<-hi1] at b3 ⊢
 have b2:aq .neq (.int .i64 l[j].f) (.int .i64 at_)=some (.bool (decide (l[j].f≠at_))):=by simp [aq]
 obtain ⟨w,hw⟩:∃w,w=l[j].len p:=⟨_,rfl⟩
 rw [<-hw] at hlen hBv ⊢
 have b4:aq .add (.int .i64 s) (.int .i64 w)=some (.int .i64 (s+w)):=by
  simp only [aq]; rw [if_pos trivial,dB (by unfold inI; omega)]
 have b5:aq .add (.int .i64 t) (.int .i64 l[j].k)=some (.int .i64 (t+l[j].k)):=by
  simp only [aq]; rw [if_pos trivial,dB (by unfold inI; omega)]
 obtain ⟨vid,hvid⟩:∃vid,vid=A.length:=⟨_,rfl⟩
 rw [<-hvid] at r1 hBv
 refine ⟨B,hB0,.int .i64 (j:Int),.ptr vid 0 0,.bool true,.bool true,?_⟩
 by_cases h:l[j].f=at_
 ·rw [if_pos h]
  rw [decide_eq_false (not_not_intro h)] at b2
  rw [zx]
  simp [b1,b3,r1,Lt,Ls,Lr,hBv,b2,b4,b5,-aq]
 ·rw [if_neg h]
  rw [decide_eq_true h] at b2
  rw [zx]
  simp [b1,r1,Lt,Ls,Lr,hBv,b2,-aq]
def tM:List (FuncId × aD):=[(60,aF 4 M32),(61,aF 4 M36)]
@[simp] theorem Ji:aI tM 60=some (aF 4 M32):=rfl
@[simp] theorem Jh:aI tM 61=some (aF 4 M36):=rfl
theorem qH:∀f M,aI tM f=some M->an Tryz.prog GC f M:=ae (an.of_pure ul 4) (ae (an.of_pure rN 4) aw)
def M40:aG:=fun args=>evP (ai GC tM) 300 wR 5 args
theorem rM:ak Tryz.prog GC 54 M40:=ak.of_ev (E:=ai GC tM) (aj qH) rfl Kt vP 5 fun _ _ h=>⟨300,h⟩
def exT (r:Option (Int × Int)):AV:=.tup [.int .i64 (r.getD (0,0)).1,.int .i64 (r.getD (0,0)).2,.bool r.isSome]
theorem sN {n:Nat} {p:Int} {l:List a6} (hr:cf n l p) {xs:List Int} {c:AV} (hc:SlA 1 (ax xs) c) (hmx:xs.length<=9223372036854775807):M40 [cB n p l,c]=some (exT (exM p l xs)):=by
 have hlen:=hc.len
 rw [aH] at hlen
 have m32:=jE (xs.length:Int) 1 200
 have f1:∀A n,frz A n c=c:=fun A n=>hc.frz n
 unfold M40
 rw [aS _ _ rfl]
 obtain ⟨W1,O,hW,hW1⟩:∃W1 O,cB n p l=.fp [.int .i64 (n:Int),W1,O]/\W1=slA 6 (wAs p (num l)):=⟨_,_,rfl,rfl⟩
 by_cases h1:1<=xs.length/\xs.length<=200
 rotate_left
 ·rw [decide_eq_false (by omega)] at m32
  have e:exM p l xs=none:=if_neg fun h=>h1 h.1
  rw [e,hW]
  simp [wR,hlen,m32,exT,-ay]
 rw [decide_eq_true (by omega)] at m32
 have m45:=zB (f:=100) (cap:=[.fp [cB n p l]]) (Mf:=M46) rfl (q:=j7 l.length) (xs:=xs) (fun x _ A=>wJ hr.1.2.1 x) hc h1.2
 have m36:=zC (q:=j7 l.length) hc (fun A=>rfl) m45
 have hfz:frz [.row 1 false [cB n p l]] 4 (.func (.func 100) [] [.ptr 0 0 0])=.func (.func 100) [] [.fp [cB n p l]]:=rfl
 by_cases h2:ra l xs
 rotate_left
 ·have h2':xs.any (j7 l.length)=true:=by
   cases h:xs.any (j7 l.length) with
   | true=>rfl
   | false=>exact absurd ((oe l xs).1 h) h2
  rw [h2'] at m36
  have e:exM p l xs=none:=if_neg fun h=>h2 h.2
  rw [e]
  rw [hW] at m36 hfz ⊢
  simp [wR,hlen,m32,f1,hfz,m36,exT,cq,aT,-ay,-frz]
  simp [frz]
 rw [(oe l xs).2 h2] at m36
 have hex:exM p l xs=exL p l xs (rt l (xs.getLastD 0)).t 0 0:=if_pos ⟨h1,h2⟩
 have hlast:xs.length-1<xs.length:=by omega
 obtain ⟨j,hj,hx,he⟩:=o7 (h2 _ (List.getElem_mem hlast))
 have hgl:xs.getLastD 0=xs[xs.length-1]:=by
  rw [List.getLastD_eq_getLast?,List.getLast?_eq_getElem?,List.getElem?_eq_getElem hlast]; rfl
 rw [hgl,he] at hex
 have x1:∀A,au 1 A c (.int .i64 ((xs.length-1:Nat):Int))=some (.fp [.int .i64 (j:Int)]):=fun A=>by
  have:=hc.int (A:=A) _ _ (List.getElem?_eq_getElem hlast) .i64
  rwa [hx] at this
 have x2:=fun A=>pc p hj A .i64
 have b0:aq .sub (.int .i64 (xs.length:Int)) (.int .i64 1)=some (.int .i64 ((xs.length-1:Nat):Int)):=by
  simp only [aq]; rw [if_pos trivial,dB (by unfold inI; omega)]; congr 2; omega
 obtain ⟨o,lp,ho⟩:=fq (E:=ai GC tM) (fuel:=300) (a:=mp) (mask:=lm)
  (fun κ σ A=>∃(i:Nat) (s t at_:Int),i+κ=xs.length/\σ=lM (.ptr 0 0 0) (.int .i64 s) (.int .i64 t) (.int .i64 at_) c (.int .i64 (xs.length:Int)) (.int .i64 (i:Int))/\A[0]?=some (.row 1 false [cB n p l])/\exL p l xs l[j].t 0 0=exL p l (xs.drop i) at_ s t/\(-(3000000*(i:Int))<=s/\s<=3000000*i)/\(-(2*(i:Int))<=t/\t<=2*i))
  (fun o=>(∃s t at_ A',exL p l xs l[j].t 0 0=some (s,t)/\o=.exit 0 ((lM (.ptr 0 0 0) (.int .i64 s) (.int .i64 t) (.int .i64 at_) c (.int .i64 (xs.length:Int)) (.int .i64 (xs.length:Int))).set 15 (.bool false)) A') \/
   (exL p l xs l[j].t 0 0=none/\∃v7 v8 v9 v14 v15 v16 A',o=.ret [.undef,.undef,.ptr 0 0 0,.int .i64 0,.int .i64 0,.bool false,.undef,v7,v8,v9,.undef,.undef,c,.int .i64 (xs.length:Int),v14,v15,v16] A'))
  (by
   rintro κ σ A ⟨i,s,t,at_,hik,rfl,hA,hexi,hs,ht⟩
   rw [zr]
   by_cases hi:i<xs.length
   ·obtain ⟨A',hA',v8,v9,v15,v16,hrun⟩:=Bn (ai GC tM) 300 hr hc h1.2 h2 hi hA (at_:=at_) hs ht
    have hd:xs.drop i=xs[i] :: xs.drop (i+1):=List.drop_eq_getElem_cons hi
    by_cases hf:(rt l xs[i]).f=at_
    ·rw [if_pos hf] at hrun
     rw [hd,exL,if_pos hf] at hexi
     obtain ⟨j2,hj2,hx2,he2⟩:=o7 (h2 _ (List.getElem_mem hi))
     have hmem:=hr.1.2.2 _ (List.getElem_mem hj2)
     have hn32:=hr.1.1
     have hlen2:=gg (n:=32) (a:=l[j2]) ⟨⟨by have:=hmem.1; omega,by have:=hmem.1; omega⟩,⟨by have:=hmem.2.1; omega,by have:=hmem.2.1; omega⟩,hmem.2.2.1,hmem.2.2.2⟩ hr.2
     have htok:=hmem.2.2.2
     rw [he2] at hrun hexi
     exact .inl ⟨_,_,hrun,κ-1,by omega,i+1,_,_,_,by omega,rfl,hA',hexi,by omega,by omega⟩
    ·rw [if_neg hf] at hrun
     rw [hd,exL,if_neg hf] at hexi
     exact .inr ⟨_,hrun,(fun _ _ h=>by cases h),.inr ⟨hexi,_,_,_,_,_,_,_,rfl⟩⟩
   ·obtain rfl:i=xs.length:=by omega
    rw [List.drop_length,exL] at hexi
    refine .inr ⟨_,?_,?_,.inl ⟨s,t,at_,A,hexi,rfl⟩⟩
    ·simp [mp]
    ·intro _ _ h; cases h)
  300 xs.length (lM (.ptr 0 0 0) (.int .i64 0) (.int .i64 0) (.int .i64 l[j].t) c (.int .i64 (xs.length:Int)) (.int .i64 0)) [.row 1 false [cB n p l]] (by omega) ⟨0,0,0,_,by omega,rfl,rfl,rfl,by omega,by omega⟩
 rw [hex]
 rw [<-hW1] at x2
 rw [hW] at m36 hfz lp ⊢
 obtain ⟨q,hq⟩:∃q,q=xs.length-1:=⟨_,rfl⟩
 rw [<-hq] at x1 b0
 rcases ho with ⟨s,t,at_,A',he1,rfl⟩ | ⟨he1,v7,v8,v9,v14,v15,v16,A',rfl⟩
 ·rw [he1]
  simp [wR,hlen,m32,f1,hfz,m36,b0,x1,x2,yW lp,exT,cq,aT,-ay,-frz,-aq,-au]
  simp [frz]
 ·rw [he1]
  simp [wR,hlen,m32,f1,hfz,m36,b0,x1,x2,yW lp,exT,cq,aT,-ay,-frz,-aq,-au]
  simp [frz]
end Cy
end Go.Proofs.YtfkcoekicjjndaaGreat
