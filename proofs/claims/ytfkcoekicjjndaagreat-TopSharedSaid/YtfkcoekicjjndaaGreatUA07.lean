import Derived.Test.YtfkcoekicjjndaaGreatUA03
import Derived.Test.YtfkcoekicjjndaaGreatUA06
import Derived.Test.YtfkcoekicjjndaaGreatUA05
import Derived.Test.YtfkcoekicjjndaaGreatChecked
import Derived.KernelRfl
set_option maxRecDepth 100000
set_option maxHeartbeats 4000000
noncomputable section
namespace Go.Proofs.YtfkcoekicjjndaaGreat
open Go
theorem aJ.clip {w w':World} {OK OK':Nat->Prop} {g g' gs:aq} {v:Value} {a:AV} (h:aJ w' OK' g' v a) :
  (∀id inc inc',inc∈g id->inc'∈g' id->∃m,min inc.n inc'.n<=m/\{inc' with n:=m}∈gs id)->∀v0,aJ w OK g v0 a->aJ w' OK' gs v a:=by
 induction h with
 | undef g v=>exact fun _ _ _=>.undef _ _
 | bool g b=>exact fun _ _ _=>.bool _ _
 | int g k n=>exact fun _ _ _=>.int _ _ _
 | str g s l h=>exact fun _ _ _=>.str _ _ _ h
 | nilS g p=>exact fun _ _ _=>.nilS _ p
 | nilP g=>exact fun _ _ _=>.nilP _
 | nilM g=>exact fun _ _ _=>.nilM _
 | nilF g=>exact fun _ _ _=>.nilF _
 | nilI g=>exact fun _ _ _=>.nilI _
 | fs g b o cap esz T c fz es vals hb hh hcap hv hs hc ih=>exact fun _ _ _=>.fs _ b o cap esz T c fz es vals hb hh hcap hv hs hc
 | sl g' id off len cap ao inc' hi hl hn hcap ha=>
  intro hg v0 h0
  obtain ⟨inc,_,_,k1,_,_,k2,_,_⟩:=h0.inv_sl
  obtain ⟨m,m1,m2⟩:=hg id inc inc' k1 hi
  exact .sl gs id off len cap ao {inc' with n:=m} m2 hl (by show off+len<=m; omega) hcap ha
 | ptr g' id i o ao inc' hi hn ho ha=>
  intro hg v0 h0
  obtain ⟨inc,k1,_,k2,_⟩:=h0.inv_ptr
  obtain ⟨m,m1,m2⟩:=hg id inc inc' k1 hi
  exact .ptr gs id i o ao {inc' with n:=m} m2 (by show i<m; omega) ho ha
 | fp g b o T c fz cs vals hb hh hne hv hc ih=>exact fun _ _ _=>.fp _ b o T c fz cs vals hb hh hne hv hc
 | agg g' vs cs hl vals hg' hv ih=>
  intro hg v0 h0
  obtain ⟨_,vals0,_,_,_,k⟩:=h0.inv_agg
  exact .agg gs vs cs hl vals hg' fun i hi=>ih i hi hg _ (k i hi)
 | tup g' vs cs hl vals hg' hv ih=>
  intro hg v0 h0
  obtain ⟨_,vals0,_,_,_,k⟩:=h0.inv_tup
  exact .tup gs vs cs hl vals hg' fun i hi=>ih i hi hg _ (k i hi)
 | func g' fn vs1 vs2 cs1 cs2 hl1 hl2 vals1 vals2 hg1 hg2 hv1 hv2 ih1 ih2=>
  intro hg v0 h0
  obtain ⟨_,_,vals01,vals02,_,_,_,_,_,k1,k2⟩:=h0.inv_func
  exact .func gs fn vs1 vs2 cs1 cs2 hl1 hl2 vals1 vals2 hg1 hg2 (fun i hi=>ih1 i hi hg _ (k1 i hi)) (fun i hi=>ih2 i hi hg _ (k2 i hi))
 | map g' id inc' hi=>
  intro hg v0 h0
  obtain ⟨inc,k1,_⟩:=h0.inv_map
  obtain ⟨m,_,m2⟩:=hg id inc inc' k1 hi
  exact .map gs id {inc' with n:=m} m2
 | iface g' t v a hv ih=>
  intro hg v0 h0
  cases h0 with
  | iface _ _ v1 _ k=>exact .iface gs t v a (ih hg _ k)
 | csl g' id off len ao inc' hi hn hcap ha=>
  intro hg v0 h0
  obtain ⟨inc,_,k1,_,k2,_⟩:=h0.inv_csl
  obtain ⟨m,m1,m2⟩:=hg id inc inc' k1 hi
  exact .csl gs id off len ao {inc' with n:=m} m2 (by show off+len<=m; omega) hcap ha
def nk:List Inc->Nat
 | []=>0
 | i :: r=>max i.n (nk r)
theorem jv {inc:Inc}:∀ {l:List Inc},inc∈l->inc.n<=nk l
 | i :: r,h=>by
  rcases List.mem_cons.1 h with rfl | h
  ·exact Nat.le_max_left _ _
  ·exact Nat.le_trans (jv h) (Nat.le_max_right _ _)
def o9 (m:Nat) (i:Inc):Inc:={i with n:=min i.n m}
def wh (n id0:Nat) (g g':aq):aq:=fun id=>
 if id<n then (if g id=[] then [] else (g' id).map (o9 (nk (g id)))) else if id=n then g' id0 else []
def Mv (n id0:Nat) (a a':AV):Prop:=∀(w:World) (OK:Nat->Prop) (g gs:aq) (v:Value),gs n=g id0->aJ w OK g v a->aJ w OK gs v a'
def vX (A A' L:aa) (id0:Nat) (X:Ent):Prop:=
 L.length=A.length/\A.length<=A'.length /\
 (∀j,j<A.length->(A'[j]?=A[j]?/\L[j]?=A[j]?)\/∃s a0 a a',A[j]?=some (.row s false [a0])/\A'[j]?=some (.row s false [a])/\L[j]?=some (.row s false [a'])/\Mv A.length id0 a a') /\
 A.length<=id0/\(X=.dead/\A'.length<=id0\/A'[id0]?=some X/\∃s es,X=.row s false es/\∀x∈es,dP 2 x=true)
theorem o7 {n id0:Nat} {g g':aq} {id:Nat} (h:id<n):wh n id0 g g' id=if g id=[] then [] else (g' id).map (o9 (nk (g id))):=if_pos h
theorem u6 (n id0:Nat) (g g':aq):wh n id0 g g' n=g' id0:=by simp [wh]
theorem u9 {n id0:Nat} {g g':aq} {id:Nat} (h:n<id):wh n id0 g g' id=[]:=by
 unfold wh
 rw [if_neg (by omega),if_neg (by omega)]
theorem tg {m:Nat} {i:Inc} (h:i.n<=m):o9 m i=i:=by
 unfold o9
 rw [Nat.min_eq_left h]
theorem jI {n id0:Nat} {g g':aq} {id:Nat} {inc:Inc} (h:inc∈wh n id0 g g' id):∃id' inc',inc'∈g' id'/\inc={inc' with n:=inc.n}/\(id<n->id'=id/\g id≠[]/\inc=o9 (nk (g id)) inc')/\(id=n->id'=id0/\inc=inc')/\id<=n:=by
 rcases Nat.lt_trichotomy id n with k | rfl | k
 ·rw [o7 k] at h
  split at h
  ·cases h
  ·rename_i hne
   obtain ⟨inc',h1,rfl⟩:=List.mem_map.1 h
   exact ⟨id,inc',h1,rfl,fun _=>⟨rfl,hne,rfl⟩,fun e=>by omega,by omega⟩
 ·rw [u6] at h
  exact ⟨id0,inc,h,rfl,fun e=>by omega,fun _=>⟨rfl,rfl⟩,Nat.le_refl _⟩
 ·rw [u9 k] at h; cases h
theorem rR {i:Nat}:∀ {l:List Inc},i<nk l->∃inc,inc∈l/\i<inc.n
 | x :: r,h=>by
  by_cases k:i<x.n
  ·exact ⟨x,by simp,k⟩
  ·obtain ⟨y,h1,h2⟩:=rR (l:=r) (i:=i) (by have h':i<max x.n (nk r):=h; omega)
   exact ⟨y,List.mem_cons_of_mem _ h1,h2⟩
theorem qZ.sub {w:World} {OK:Nat->Prop} {g gs:aq} {esz:Nat} {es es':List AV} {inc:Inc} (h:qZ w OK g esz es inc) (hl:es'.length=es.length) (m:Nat) (hv:∀i (h:i<es.length) (h':i<es'.length) v,i<min inc.n m->aJ w OK g v es[i]->aJ w OK gs v es'[i]):qZ w OK gs esz es' (o9 m inc):=by
 obtain ⟨h1,h2,h3,c,T,fz,h4,h5,h6,h7⟩:=h
 have hn:(o9 m inc).n=min inc.n m:=rfl
 refine ⟨h1,by rw [hn]; omega,by rw [hn]; show min inc.n m<=inc.cap; omega,c,T,fz,h4,h5,h6,fun i hi hlt=>?_⟩
 rw [hn] at hlt
 obtain ⟨v,k1,k2,k3,k4⟩:=h7 i (by omega) (by omega)
 exact ⟨v,hv i (by omega) hi v hlt k1,k2,k3,k4⟩
theorem bC.cut {w w':World} {OK OK':Nat->Prop} {g g':aq} {A A' L:aa} {id0:Nat} {X:Ent} (hA:bC w OK g A) (hA':bC w' OK' g' A') (hx:Ext w OK g w' OK' g') (hc:vX A A' L id0 X) :
  bC w' OK' (wh A.length id0 g g') (L++[X])/\Ext w OK g w' OK' (wh A.length id0 g g'):=by
 obtain ⟨hL,hlen,hrow,hid,hX⟩:=hc
 have old:∀j,A.length<=j->g j=[]:=fun j h=>hA.out j h
 have gclip:∀id inc inc',inc∈g id->inc'∈g' id->∃m,min inc.n inc'.n<=m/\{inc' with n:=m}∈wh A.length id0 g g' id:=fun id inc inc' h1 h2=>by
  have hlt:id<A.length:=by
   rcases Nat.lt_or_ge id A.length with h | h
   ·exact h
   ·rw [old id h] at h1; cases h1
  refine ⟨min inc'.n (nk (g id)),by have:=jv h1; omega,?_⟩
  rw [o7 hlt,if_neg (by intro e; rw [e] at h1; cases h1)]
  exact List.mem_map.2 ⟨inc',h2,rfl⟩
 have val:∀ {v0 v a},aJ w OK g v0 a->aJ w' OK' g' v a->aJ w' OK' (wh A.length id0 g g') v a:=fun h0 h=>h.clip gclip _ h0
 have entN:(L++[X])[A.length]?=some X:=by rw [<-hL]; simp
 have entL:∀j,j<A.length->(L++[X])[j]?=L[j]?:=fun j h=>List.getElem?_append_left (by omega)
 refine ⟨⟨fun id h=>?_,fun id h=>u9 (by simp at h; omega),fun id id' inc inc' n1 n2 h1 h2 hb=>?_,fun id inc h=>?_,fun id inc h=>?_,hA'.ok⟩,⟨hx.os,hx.tape,hx.output,hx.size,hx.blk,fun id inc h=>?_,hx.okle,fun id inc h=>?_,hx.okf,hx.loops,fun id inc h he=>?_⟩⟩
 ·
  have hid':id<=A.length:=by simp at h; omega
  rcases Nat.lt_or_ge id A.length with hlt | hge
  ·have e0:(L++[X])[id]=L[id]'(by omega):=List.getElem_append_left (by omega)
   rw [e0,o7 hlt]
   have q:=hA.ent id hlt
   have q':=hA'.ent id (by omega)
   rcases hrow id hlt with ⟨r1,r2⟩ | ⟨s,a0,a,a',r0,r1,r2,r3⟩
   ·rw [List.getElem?_eq_getElem (by omega),List.getElem?_eq_getElem hlt] at r1 r2
    rw [Option.some.inj r1] at q'
    rw [Option.some.inj r2]
    generalize A[id]=E at *
    cases E with
    | row esz gr es=>
     by_cases hg0:g id=[]
     ·rw [if_pos hg0]
      exact ⟨fun _=>⟨by simp,fun _ h=>by cases h⟩,fun _ h=>by cases h⟩
     ·rw [if_neg hg0]
      refine ⟨fun hgr=>?_,fun inc hinc=>?_⟩
      ·obtain ⟨k1,k2⟩:=q'.1 hgr
       refine ⟨by rw [List.length_map]; exact k1,fun inc hinc=>?_⟩
       obtain ⟨inc',m1,rfl⟩:=List.mem_map.1 hinc
       obtain ⟨i0,hi0⟩:=List.exists_mem_of_ne_nil _ hg0
       have:=(q.1 hgr).2 i0 hi0
       have:=jv hi0
       have:=k2 inc' m1
       show min inc'.n _=_
       omega
      ·obtain ⟨inc',m1,rfl⟩:=List.mem_map.1 hinc
       refine (q'.2 inc' m1).sub rfl _ fun i hi _ v hlt hv=>?_
       obtain ⟨i0,hi0,hi1⟩:=rR (l:=g id) (i:=i) (by omega)
       obtain ⟨_,_,_,c,T,fz,_,_,_,h7⟩:=q.2 i0 hi0
       obtain ⟨v0,k0,_⟩:=h7 i hi hi1
       exact val k0 hv
    | map kvs=>
     obtain ⟨i0,hi0,es0,cl0,_,hs0,_,hk0⟩:=q
     obtain ⟨i1,hi1,es,cl,hh,hs,hb,hk⟩:=q'
     rw [if_neg (by rw [hi0]; simp),hi1]
     refine ⟨o9 (nk (g id)) i1,rfl,es,cl,hh,hs,hb,fun i hi=>?_⟩
     obtain ⟨x0,_,y0,z0⟩:=hk0 i hi
     obtain ⟨x,y,y1,z1⟩:=hk i hi
     exact ⟨x,y,val y0 y1,val z0 z1⟩
    | loop r k=>
     obtain ⟨i0,hi0,_⟩:=q
     obtain ⟨i1,hi1,h2,h3⟩:=q'
     rw [if_neg (by rw [hi0]; simp),hi1]
     exact ⟨o9 (nk (g id)) i1,rfl,h2,h3⟩
    | dead=>trivial
   ·rw [List.getElem?_eq_getElem (by omega)] at r0 r1 r2
    rw [Option.some.inj r0] at q
    rw [Option.some.inj r1] at q'
    rw [Option.some.inj r2]
    by_cases hg0:g id=[]
    ·rw [if_pos hg0]
     exact ⟨fun _=>⟨by simp,fun _ h=>by cases h⟩,fun _ h=>by cases h⟩
    ·rw [if_neg hg0]
     refine ⟨fun hgr=>?_,fun inc hinc=>?_⟩
     ·obtain ⟨k1,k2⟩:=q'.1 hgr
      refine ⟨by rw [List.length_map]; exact k1,fun inc hinc=>?_⟩
      obtain ⟨inc',m1,rfl⟩:=List.mem_map.1 hinc
      obtain ⟨i0,hi0⟩:=List.exists_mem_of_ne_nil _ hg0
      have h1:=(q.1 hgr).2 i0 hi0
      have h2:=jv hi0
      have h3:=k2 inc' m1
      rw [List.length_singleton] at h1 h3
      show min inc'.n _=1
      omega
     ·obtain ⟨inc',m1,rfl⟩:=List.mem_map.1 hinc
      refine (q'.2 inc' m1).sub (es':=[a']) rfl _ fun i hi hi' v hlt hv=>?_
      obtain rfl:i=0:=by simpa using hi
      exact r3 _ _ _ _ v (u6 _ _ _ _) hv
  ·obtain rfl:id=A.length:=by omega
   have e0:(L++[X])[A.length]?=some X:=entN
   rw [List.getElem?_eq_getElem h] at e0
   rw [Option.some.inj e0,u6]
   rcases hX with ⟨rfl,_⟩ | ⟨hx1,s,es,rfl,hsc⟩
   ·trivial
   ·have hlt:id0<A'.length:=(List.getElem?_eq_some_iff.1 hx1).1
    have q':=hA'.ent id0 hlt
    rw [List.getElem?_eq_getElem hlt] at hx1
    rw [Option.some.inj hx1] at q'
    refine ⟨q'.1,fun inc hinc=>?_⟩
    obtain ⟨h1,h2,h3,c,T,fz,h4,h5,h6,h7⟩:=q'.2 inc hinc
    refine ⟨h1,h2,h3,c,T,fz,h4,h5,h6,fun i hi hlt=>?_⟩
    obtain ⟨v,k1,k2,k3,k4⟩:=h7 i hi hlt
    exact ⟨v,cQ 2 _ v (hsc _ (List.getElem_mem hi)) k1,k2,k3,k4⟩
 ·obtain ⟨i1,c1,k1,k2,k3,k4,k5⟩:=jI h1
  obtain ⟨i2,c2,l1,l2,l3,l4,l5⟩:=jI h2
  have nd:∀ {j j':Nat} {c:Inc},(L++[X])[j]?≠some .dead->j<=A.length->(j<A.length->j'=j)->(j=A.length->j'=id0)->c∈g' j'->A'[j']?≠some .dead:=fun {j j' c} n h e1 e2 hc=>by
   rcases Nat.lt_or_ge j A.length with hj | hj
   ·rw [e1 hj]
    rw [entL j hj] at n
    rcases hrow j hj with ⟨r1,r2⟩ | ⟨_,_,_,_,_,r1,_⟩
    ·rw [r1,<-r2]; exact n
    ·rw [r1]; simp
   ·obtain rfl:j=A.length:=by omega
    rw [e2 rfl]
    rw [entN] at n
    rcases hX with ⟨rfl,hl⟩ | ⟨hx1,_⟩
    ·exact absurd rfl n
    ·rw [hx1]; exact n
  have hbb:c1.b=c2.b:=by rw [k2,l2] at hb; exact hb
  obtain ⟨rfl,rfl⟩:=hA'.one i1 i2 c1 c2 (nd n1 k5 (fun a=>(k3 a).1) (fun a=>(k4 a).1) k1) (nd n2 l5 (fun a=>(l3 a).1) (fun a=>(l4 a).1) l1) k1 l1 hbb
  rcases Nat.lt_or_ge id A.length with a1 | a1 <;> rcases Nat.lt_or_ge id' A.length with a2 | a2
  ·obtain ⟨rfl,_,q1⟩:=k3 a1
   obtain ⟨rfl,_,q2⟩:=l3 a2
   exact ⟨rfl,q1.trans q2.symm⟩
  ·have:=(k3 a1).1
   have:=(l4 (by omega)).1
   omega
  ·have:=(l3 a2).1
   have:=(k4 (by omega)).1
   omega
  ·obtain rfl:id=id':=by omega
   exact ⟨rfl,(k4 (by omega)).2.trans (l4 (by omega)).2.symm⟩
 ·obtain ⟨i',c',k1,k2,_⟩:=jI h
  rw [k2]; exact hA'.apart i' c' k1
 ·obtain ⟨i',c',k1,k2,_⟩:=jI h
  rw [k2]; exact hA'.low i' c' k1
 ·obtain ⟨n',k1,k2⟩:=hx.gle id inc h
  obtain ⟨m,m1,m2⟩:=gclip id inc _ h k2
  exact ⟨m,by have:min inc.n n'<=m:=m1; omega,m2⟩
 ·obtain ⟨i',c',k1,k2,_⟩:=jI h
  rw [k2]; exact hx.fresh i' c' k1
 ·have hlt:id<A.length:=by
   rcases Nat.lt_or_ge id A.length with h' | h'
   ·exact h'
   ·rw [old id h'] at h; cases h
  rw [o7 hlt,if_neg (by intro e; rw [e] at h; cases h),hx.fix id inc h he]
  conv=>rhs; rw [<-List.map_id (g id)]
  exact List.map_congr_left fun i hi=>tg (jv hi)
theorem qn {m:Nat} {a:AV} (h:dP m a=true) (n id0:Nat):Mv n id0 a a:=fun _ _ _ _ v _ hv=>cQ m a v h hv
section
variable {P:Program} {G:Nat->Option (List AV)}
theorem au.cut {f:FuncId} {M:aB} (h:au P G f M) {N:aa->aa->Option aa} (hN:∀A A' B,N A A'=some B->∃L id0 X,B=L++[X]/\vX A A' L id0 X) :
  au P G f (fun hd args A=>match M hd args A with
   | some (.tup [],A')=>(N A A').map fun B=>(.tup [],B)
   | _=>none):=
 ⟨h.1,fun ys hd hs args A r A' he w OK g vs hA hI hl=>by
  dsimp only at he
  split at he
  ·rename_i A0 h1
   simp only [Option.map_eq_some_iff,Prod.mk.injEq] at he
   obtain ⟨B,h2,rfl,rfl⟩:=he
   obtain ⟨L,id0,X,rfl,hc⟩:=hN _ _ _ h2
   refine (h.2 ys hd hs args A _ A0 h1 w OK g vs hA hI hl).mono ?_
   rintro e w' ⟨v,OK',g',rfl,k1,k2,k3⟩
   obtain ⟨q1,q2⟩:=hA.cut k2 k3 hc
   exact ⟨v,OK',_,rfl,cQ 1 (.tup []) v rfl k1,q1,q2⟩
  ·cases he⟩
end
namespace Sh
def tr:aB:=fun _=>bN (ac GS []) 0 xp
theorem tS:au Tryz.prog GS 141 tr:=(aG (E:=ac GS []) (ai an) rfl Nj Ds aU.nil).y
theorem u0 (h:aE) (A:aa):tr h [.nilS] A=some (.nilS,A):=by
 unfold tr
 rw [aH _ _ rfl]
 simp [xp]
theorem xW (h:aE) {A:aa} {cid n:Nat} {es:List AV} (hc:A[cid]?=some (.row 2 false es)) (_hn:n<=es.length):tr h [.sl cid 0 n] A=some (.csl cid 0 n,A):=by
 unfold tr
 rw [aH _ _ rfl]
 simp [xp,hc]
def zn:Nat->aB
 | 0=>fun h=>bN (cG GS [(141,tr)] h) 20 ut
 | k+1=>fun h=>bN (cG GS [(140,zn k),(141,tr)] h) 20 ut
theorem tT:∀k,au Tryz.prog GS 140 (zn k)
 | 0=>ct (ag tS an) IG va
 | k+1=>ct (ag (tT k) (ag tS an)) IG va
def mC {β:Type} (stp:β->List (Int × Int)->β):List (List Int)->List (Int × Int)->β->β
 | [],ps,s=>stp s ps
 | ts :: r,ps,s=>ts.foldl (fun s a=>ts.foldl (fun s b=>if a=b then s else mC stp r (ps++[(a,b)]) s) s) s
structure YC (h:aE) (yv:AV) {β:Type} (I:β->aa->Prop) (stp:β->List (Int × Int)->β) (W:List Nat) (Q:List (Int × Int)->Prop):Prop where
 isY:∃L,yv=.func (.yield L) [] []
 y:∀s A cid ps,I s A->Q ps->A[cid]?=some (.row 2 false (ps.map cg))->cid ∉ W->∃B,h yv [.sl cid 0 ps.length] A=some (.bool true,B)/\I (stp s ps) B/\Fr A B W
 app:∀s A X,I s A->I s (A++X)
 low:∀s A,I s A->∀k∈W,k<A.length
def Pre (A:aa) (W:List Nat) (pre:AV) (ps:List (Int × Int)):Prop:=(ps=[]/\pre=.nilS)\/(ps≠[]/\∃cid,pre=.sl cid 0 ps.length/\A[cid]?=some (.row 2 false (ps.map cg))/\cid ∉ W)
def jS (nb yb fb:Nat):AV:=.func (.func 140) [] [.ptr nb 0 0,.ptr yb 0 0,.ptr fb 0 0]
structure Bx (A:aa) (W:List Nat) (nv yv:AV) (nb yb fb:Nat):Prop where
 n:A[nb]?=some (.row 1 false [nv])
 y:A[yb]?=some (.row 1 false [yv])
 f:A[fb]?=some (.row 1 false [jS nb yb fb])
 out:nb ∉ W/\yb ∉ W/\fb ∉ W
theorem Bx.fr {A B:aa} {W:List Nat} {nv yv:AV} {nb yb fb:Nat} (h:Bx A W nv yv nb yb fb) (F:Fr A B W):Bx B W nv yv nb yb fb:=⟨F.at h.n h.out.1,F.at h.y h.out.2.1,F.at h.f h.out.2.2,h.out⟩
theorem Pre.fr {A B:aa} {W:List Nat} {pre:AV} {ps:List (Int × Int)} (h:Pre A W pre ps) (F:Fr A B W):Pre B W pre ps:=by
 rcases h with h | ⟨h1,cid,h2,h3,h4⟩
 ·exact .inl h
 ·exact .inr ⟨h1,cid,h2,F.at h3 h4,h4⟩
theorem Pre.more {A:aa} {W:List Nat} {pre:AV} {ps:List (Int × Int)} (h:Pre A W pre ps) (hl:ps.length<=10) (q:Int × Int):∃pre',(pre'=.nilS\/∃cid n,pre'=.csl cid 0 n/\∀k e,A[k]?=some (.row 1 false e)->k≠cid)/\(∀hd,tr hd [pre] A=some (pre',A))/\aV 2 16 A pre' (.fs 2 [cg q])=some (.sl A.length 0 (ps++[q]).length,A++[.row 2 false ((ps++[q]).map cg)]):=by
 rcases h with ⟨rfl,rfl⟩ | ⟨h1,cid,rfl,h3,h4⟩
 ·exact ⟨.nilS,.inl rfl,fun hd=>u0 hd A,by simp [aV]⟩
 ·refine ⟨.csl cid 0 ps.length,.inr ⟨cid,_,rfl,fun k e h h'=>by rw [h',h3] at h; cases h⟩,fun hd=>xW hd h3 (by simp),?_⟩
  have e:(ps.map cg).take ps.length=ps.map cg:=List.take_of_length_le (by simp)
  simp [aV,h3,e]
  omega
section
variable {β:Type} {h:aE} {yv nv:AV} {I:β->aa->Prop} {stp:β->List (Int × Int)->β} {W:List Nat} {Q:List (Int × Int)->Prop} {nb yb fb:Nat} (hy:YC h yv I stp W Q)
include hy
theorem wT {fs:List (FuncId × aB)} {H:aB} (hH:aR fs 140=some H) (hH1:aR fs 141=some tr) {A:aa} {pre tv:AV} {ps:List (Int × Int)} {r:List (List Int)} {T:List Int} {s:β} {a b:Int} {i j:Nat}
  (ih:∀s A pre q,q.length=ps.length+1->q=ps++[(a,b)]->Pre A W pre q->I s A->Bx A W nv yv nb yb fb->∃B,H h [pre,.ptr nb 0 0,.ptr yb 0 0,.ptr fb 0 0] A=some (.bool true,B)/\I (mC stp r q s) B/\Fr A B W)
  (hpre:Pre A W pre ps) (hl:ps.length<=10) (hI:I s A) (hB:Bx A W nv yv nb yb fb) (hT:SlA 1 (T.map (.int .i64)) tv) (hTl:T.length<=10) (hb:T[j]?=some b) :
  ∃B,run (cG GS fs h) 20 [.code ez] (iF pre (.ptr fb 0 0) tv (.int .i64 a) tv (.int .i64 (T.length:Int)) (.int .i64 (i:Int)) tv (.int .i64 (T.length:Int)) (.int .i64 (j:Int))) A =
   some (.normal (iF pre (.ptr fb 0 0) tv (.int .i64 a) tv (.int .i64 (T.length:Int)) (.int .i64 (i:Int)) tv (.int .i64 (T.length:Int)) (.int .i64 ((j+1:Nat):Int))) B)/\I (if a=b then s else mC stp r (ps++[(a,b)]) s) B/\Fr A B W:=by
 have hj:j<T.length:=(List.getElem?_eq_some_iff.1 hb).1
 have b1:=bK j T.length .i64
 rw [decide_eq_true hj] at b1
 have b3:=aY j (by omega)
 have x1:∀A,ae 1 A tv (.int .i64 (j:Int))=some (.fp [.int .i64 b]):=fun A=>hT.int (A:=A) T .i64 hb .i64
 have b4:aj .neq (.int .i64 a) (.int .i64 b)=some (.bool (!decide (a=b))):=by simp [aj]
 by_cases hab:a=b
 ·refine ⟨A,?_,by rw [if_pos hab]; exact hI,Fr.refl A W⟩
  rw [decide_eq_true hab] at b4
  generalize ((j+1:Nat):Int)=J1 at *
  generalize (T.length:Int)=N at *
  generalize (i:Int)=I' at *
  generalize (j:Int)=J at *
  simp [ez,b1,b3,x1,b4,-aj,-ae]
 ·rw [if_neg hab]
  rw [decide_eq_false hab] at b4
  obtain ⟨pre',hp',h141,ap⟩:=hpre.more hl (a,b)
  have FX:Fr A (A++[.row 2 false ((ps++[(a,b)]).map cg)]) W:=Fr.app _ _ _
  have lW:=hy.low s A hI
  obtain ⟨B,c1,c2,c3⟩:=ih s (A++[.row 2 false ((ps++[(a,b)]).map cg)]) (.sl A.length 0 (ps++[(a,b)]).length) (ps++[(a,b)]) (by simp) rfl (.inr ⟨by simp,A.length,rfl,by simp,fun hm=>by have:=lW _ hm; omega⟩) (hy.app _ _ _ hI) (hB.fr FX)
  refine ⟨B,?_,c2,FX.trans c3 (fun _ h=>h) (fun _ _ h=>h)⟩
  have hf:=hB.f
  have h141:=h141 h
  have lf:¬ (fb=A.length):=fun e=>by rw [e] at hf; simp at hf
  have kb:pP A (some (pre',A)) fb=true:=by simp [pP]
  have hcp:∀cid n,pre'=.csl cid 0 n->¬ (fb=cid):=fun cid n e=>by
   rcases hp' with h | ⟨cid',n',h,k⟩
   ·rw [h] at e; cases e
   ·rw [h] at e; injection e with e; rw [<-e]; exact k fb _ hf
  generalize A++[Ent.row 2 false ((ps++[(a,b)]).map cg)]=A1 at *
  generalize (ps++[(a,b)]).length=M at *
  generalize ((j+1:Nat):Int)=J1 at *
  generalize (T.length:Int)=N at *
  generalize (i:Int)=I' at *
  generalize (j:Int)=J at *
  unfold jS cg at *
  rcases hp' with rfl | ⟨cid,n',rfl,_⟩
  ·simp [ez,b1,b3,x1,b4,hf,hH,hH1,h141,ap,c1,lf,kb,-aj,-ae]
  ·have hcp:=hcp cid n' rfl
   simp [ez,b1,b3,x1,b4,hf,hH,hH1,h141,ap,c1,lf,kb,hcp,-aj,-ae]
end
end Sh
namespace Sh
section
variable {β:Type} {h:aE} {yv nv:AV} {I:β->aa->Prop} {stp:β->List (Int × Int)->β} {W:List Nat} {Q:List (Int × Int)->Prop} {nb yb fb:Nat} (hy:YC h yv I stp W Q)
include hy
theorem xy {fs:List (FuncId × aB)} {H:aB} (hH:aR fs 140=some H) (hH1:aR fs 141=some tr) {pre tv:AV} {ps:List (Int × Int)} {r:List (List Int)} {T:List Int} {a:Int} {i:Nat}
  (ih:∀b∈T,∀s A pre q,q.length=ps.length+1->q=ps++[(a,b)]->Pre A W pre q->I s A->Bx A W nv yv nb yb fb->∃B,H h [pre,.ptr nb 0 0,.ptr yb 0 0,.ptr fb 0 0] A=some (.bool true,B)/\I (mC stp r q s) B/\Fr A B W)
  (hl:ps.length<=10) (hT:SlA 1 (T.map (.int .i64)) tv) (hTl:T.length<=10):∀(κ j m:Nat) (s:β) (A:aa),j+κ=T.length->κ<m->Pre A W pre ps->I s A->Bx A W nv yv nb yb fb ->
  ∃B,bI (evC (cG GS fs h) 20 ez) gq m (iF pre (.ptr fb 0 0) tv (.int .i64 a) tv (.int .i64 (T.length:Int)) (.int .i64 (i:Int)) tv (.int .i64 (T.length:Int)) (.int .i64 (j:Int))) A =
   some (.exit 2 ((iF pre (.ptr fb 0 0) tv (.int .i64 a) tv (.int .i64 (T.length:Int)) (.int .i64 (i:Int)) tv (.int .i64 (T.length:Int)) (.int .i64 (T.length:Int))).set 16 (.bool false)) B)/\I ((T.drop j).foldl (fun s b=>if a=b then s else mC stp r (ps++[(a,b)]) s) s) B/\Fr A B W:=by
 intro κ
 induction κ with
 | zero=>
  intro j m s A hj hm hp hI hB
  obtain ⟨m,rfl⟩:∃m',m=m'+1:=⟨m-1,by omega⟩
  obtain rfl:j=T.length:=by omega
  refine ⟨A,?_,by rw [List.drop_length]; exact hI,Fr.refl A W⟩
  rw [aF,qU]
  simp [ez]
 | succ κ ihk=>
  intro j m s A hj hm hp hI hB
  obtain ⟨m,rfl⟩:∃m',m=m'+1:=⟨m-1,by omega⟩
  obtain ⟨b,hb⟩:∃b,T[j]?=some b:=⟨_,List.getElem?_eq_getElem (by omega)⟩
  obtain ⟨B,c1,c2,c3⟩:=wT hy hH hH1 (i:=i) (ih b (List.mem_of_getElem? hb)) hp hl hI hB hT hTl hb
  obtain ⟨C,d1,d2,d3⟩:=ihk (j+1) m _ B (by omega) (by omega) (hp.fr c3) c2 (hB.fr c3)
  refine ⟨C,?_,?_,c3.trans d3 (fun _ h=>h) (fun _ _ h=>h)⟩
  ·rw [aF,qU,c1]
   exact d1
  ·rw [gR? hb,List.foldl_cons]
   exact d2
theorem xz {fs:List (FuncId × aB)} {H:aB} (hH:aR fs 140=some H) (hH1:aR fs 141=some tr) {pre tv:AV} {ps:List (Int × Int)} {r:List (List Int)} {T:List Int}
  (ih:∀a∈T,∀b∈T,∀s A pre q,q.length=ps.length+1->q=ps++[(a,b)]->Pre A W pre q->I s A->Bx A W nv yv nb yb fb->∃B,H h [pre,.ptr nb 0 0,.ptr yb 0 0,.ptr fb 0 0] A=some (.bool true,B)/\I (mC stp r q s) B/\Fr A B W)
  (hl:ps.length<=10) (hT:SlA 1 (T.map (.int .i64)) tv) (hTl:T.length<=10):∀(κ i m:Nat) (s:β) (A:aa),i+κ=T.length->κ<m->Pre A W pre ps->I s A->Bx A W nv yv nb yb fb ->
  ∃B,bI (evC (cG GS fs h) 20 gF) gp m (iE pre (.ptr fb 0 0) tv tv (.int .i64 (T.length:Int)) (.int .i64 (i:Int))) A =
   some (.exit 0 ((iE pre (.ptr fb 0 0) tv tv (.int .i64 (T.length:Int)) (.int .i64 (T.length:Int))).set 12 (.bool false)) B)/\I ((T.drop i).foldl (fun s a=>T.foldl (fun s b=>if a=b then s else mC stp r (ps++[(a,b)]) s) s) s) B/\Fr A B W:=by
 intro κ
 induction κ with
 | zero=>
  intro i m s A hi hm hp hI hB
  obtain ⟨m,rfl⟩:∃m',m=m'+1:=⟨m-1,by omega⟩
  obtain rfl:i=T.length:=by omega
  refine ⟨A,?_,by rw [List.drop_length]; exact hI,Fr.refl A W⟩
  rw [aF,qT]
  simp [gF]
 | succ κ ihk=>
  intro i m s A hi hm hp hI hB
  obtain ⟨m,rfl⟩:∃m',m=m'+1:=⟨m-1,by omega⟩
  obtain ⟨a,ha⟩:∃a,T[i]?=some a:=⟨_,List.getElem?_eq_getElem (by omega)⟩
  obtain ⟨B,c1,c2,c3⟩:=xy hy hH hH1 (i:=i) (ih a (List.mem_of_getElem? ha)) hl hT hTl T.length 0 20 s A (by omega) (by omega) hp hI hB
  rw [List.drop_zero] at c2
  obtain ⟨C,d1,d2,d3⟩:=ihk (i+1) m _ B (by omega) (by omega) (hp.fr c3) c2 (hB.fr c3)
  refine ⟨C,?_,?_,c3.trans d3 (fun _ h=>h) (fun _ _ h=>h)⟩
  ·have b1:=bK i T.length .i64
   rw [decide_eq_true (by omega)] at b1
   have b3:=aY i (by omega)
   have x1:∀A,ae 1 A tv (.int .i64 (i:Int))=some (.fp [.int .i64 a]):=fun A=>hT.int (A:=A) T .i64 ha .i64
   have hln:ay tv=some (.int .i64 (T.length:Int)):=by
    have:=hT.len
    rw [List.length_map] at this
    exact this
   have c1:bI (evC (cG GS fs h) 20 ez) gq 20 (iF pre (.ptr fb 0 0) tv (.int .i64 a) tv (.int .i64 (T.length:Int)) (.int .i64 (i:Int)) tv (.int .i64 (T.length:Int)) (.int .i64 0)) A=_:=c1
   rw [aF,qT]
   have rr:run (cG GS fs h) 20 [.code gF] (iE pre (.ptr fb 0 0) tv tv (.int .i64 (T.length:Int)) (.int .i64 (i:Int))) A=some (.normal (iE pre (.ptr fb 0 0) tv tv (.int .i64 (T.length:Int)) (.int .i64 ((i+1:Nat):Int))) B):=by
    clear d1 d2
    generalize ((i+1:Nat):Int)=I1 at *
    generalize (T.length:Int)=N at *
    generalize (i:Int)=I' at *
    simp [gF,b1,b3,x1,hln,CD c1,-aj,-ae,-ay]
   rw [rr]
   exact d1
  ·rw [gR? ha,List.foldl_cons]
   exact d2
end
end Sh
namespace Sh
theorem Pre.len {A:aa} {W:List Nat} {pre:AV} {ps:List (Int × Int)} (h:Pre A W pre ps):ay pre=some (.int .i64 (ps.length:Int)):=by
 rcases h with ⟨rfl,rfl⟩ | ⟨_,cid,rfl,_,_⟩ <;> rfl
section
variable {β:Type} {h:aE} {yv nv:AV} {I:β->aa->Prop} {stp:β->List (Int × Int)->β} {W:List Nat} {Q:List (Int × Int)->Prop} {nb yb fb:Nat} (hy:YC h yv I stp W Q)
 {L:List AV} {ns:List fP} (hL:SlA 3 L nv) (hN:eS ns L) (hns:1<=ns.length/\ns.length<=4) (htl:∀n∈ns,n.tools.length<=3) {R:Int->Prop} (hR:∀n∈ns,∀t∈n.tools,R t) (hQ:∀ps,ps.length=ns.length->(∀q∈ps,R q.1/\R q.2)->Q ps)
include hy hL hN hns htl hR hQ
theorem Mn:∀(k:Nat) (ps:List (Int × Int)) (pre:AV) (s:β) (A:aa),ps.length+k=ns.length->(∀q∈ps,R q.1/\R q.2)->Pre A W pre ps->I s A->Bx A W nv yv nb yb fb ->
  ∃B,zn k h [pre,.ptr nb 0 0,.ptr yb 0 0,.ptr fb 0 0] A=some (.bool true,B)/\I (mC stp ((ns.drop ps.length).map (·.tools)) ps s) B/\Fr A B W:=by
 have hln:ay nv=some (.int .i64 (ns.length:Int)):=by rw [<-hN.1]; exact hL.len
 have hld:ba nv 1 0 false 1=some nv:=by rcases hL with ⟨rfl,_⟩ | rfl <;> rfl
 intro k
 induction k with
 | zero=>
  intro ps pre s A hk hr hp hI hB
  have e0:(ns.drop ps.length).map (·.tools)=[]:=by
   rw [List.drop_eq_nil_iff.2 (by omega)]; rfl
  rw [e0]
  rcases hp with ⟨rfl,_⟩ | ⟨hne,cid,rfl,hc,hcW⟩
  ·have:(0:Nat)+0=ns.length:=hk
   omega
  ·obtain ⟨B,c1,c2,c3⟩:=hy.y s A cid ps hI (hQ ps (by omega) hr) hc hcW
   refine ⟨B,?_,c2,c3⟩
   have hb1:=hB.n
   have hb2:=hB.y
   obtain ⟨l,rfl⟩:=hy.isY
   have e1:ps.length=ns.length:=by omega
   unfold zn
   rw [aH _ _ rfl]
   rw [e1] at c1 ⊢
   have e2:ay (.sl cid 0 ns.length)=some (.int .i64 (ns.length:Int)):=rfl
   have b1:aj .eql (.int .i64 (ns.length:Int)) (.int .i64 (ns.length:Int))=some (.bool true):=by simp [aj]
   generalize (ns.length:Int)=N at *
   simp [ut,hb1,hb2,hld,hln,e2,b1,c1,-ay,-aj]
 | succ k ih=>
  intro ps pre s A hk hr hp hI hB
  obtain ⟨n,hn⟩:∃n,ns[ps.length]?=some n:=⟨_,List.getElem?_eq_getElem (by omega)⟩
  obtain ⟨tv,hx,hT⟩:=hN.2 _ n hn
  have hnm:=List.mem_of_getElem? hn
  have hn3:=htl n hnm
  have e0:(ns.drop ps.length).map (·.tools)=n.tools :: (ns.drop (ps.length+1)).map (·.tools):=by rw [gR? hn]; rfl
  rw [e0]
  obtain ⟨B,c1,c2,c3⟩:=xz hy (fs:=[(140,zn k),(141,tr)]) rfl rfl (r:=(ns.drop (ps.length+1)).map (·.tools)) (ps:=ps) (pre:=pre) (fun a ha b hb s A pre q hql hq hp hI hB=>by
   have:=ih q pre s A (by omega) (by
    subst hq
    intro x hx
    rcases List.mem_append.1 hx with hx | hx
    ·exact hr x hx
    ·rw [List.mem_singleton] at hx
     subst hx
     exact ⟨hR n hnm a ha,hR n hnm b hb⟩) hp hI hB
   rw [hql] at this
   exact this) (by omega) hT (by omega) n.tools.length 0 20 s A (by omega) (by omega) hp hI hB
  refine ⟨B,?_,by rw [List.drop_zero] at c2; exact c2,c3⟩
  have hb1:=hB.n
  have x1:∀A,ae 3 A nv (.int .i64 (ps.length:Int))=some (.fp [tv,.int .i64 n.mn,.int .i64 n.mx]):=fun A=>hL.index (A:=A) hx rfl (by omega) .i64
  have hlp:=hp.len
  have hlt:ay tv=some (.int .i64 (n.tools.length:Int)):=by
   have:=hT.len
   rw [List.length_map] at this
   exact this
  have b1:aj .eql (.int .i64 (ps.length:Int)) (.int .i64 (ns.length:Int))=some (.bool false):=by
   have:¬ ((ps.length:Int)=(ns.length:Int)):=by omega
   simp [aj,this]
  have c1:bI (evC (cG GS [(140,zn k),(141,tr)] h) 20 gF) gp 20 (iE pre (.ptr fb 0 0) tv tv (.int .i64 (n.tools.length:Int)) (.int .i64 0)) A=_:=c1
  unfold zn
  rw [aH _ _ rfl]
  clear c2
  generalize (ns.length:Int)=N at *
  generalize (ps.length:Int)=M at *
  generalize (n.tools.length:Int)=T at *
  simp [ut,hb1,hld,hln,hlp,hlt,b1,x1,CC c1,-ay,-aj,-ae]
end
end Sh
namespace Sh
def rm:aB:=fun h args A=>match args with
 | [pre,.ptr nb a b,y,f]=>match A[nb]? with
  | some (.row _ _ [nv])=>match ay nv with
   | some (.int _ n)=>zn n.toNat h [pre,.ptr nb a b,y,f] A
   | _=>none
  | _=>none
 | _=>none
theorem wC:au Tryz.prog GS 140 rm:=au.of_all tT fun hd args A x he=>by
 unfold rm at he
 split at he
 ·split at he
  ·split at he
   ·exact ⟨_,he⟩
   ·cases he
  ·cases he
 ·cases he
def vR:aB:=fun hd=>bN (cG GS [(140,rm)] hd) 0 BC
theorem wD:au Tryz.prog GS 139 vR:=ct (ag wC an) Nk Dt
def H83:aB:=fun _=>bN (ac GS []) 0 K0
theorem EV:au Tryz.prog GS 83 H83:=(aG (E:=ac GS []) (ai an) rfl at83 H5 aU.nil).y
theorem ev83 (h:aE) {nv:AV} {L:List AV} (hL:SlA 3 L nv) (A:aa):H83 h [nv] A=some (.func (.func 139) [] [.ptr A.length 0 0],A++[.row 1 false [nv]]):=by
 unfold H83
 rw [aH _ _ rfl]
 rcases hL with ⟨rfl,_⟩ | rfl <;> simp [K0]
section
variable {β:Type} {h:aE} {yv nv:AV} {I:β->aa->Prop} {stp:β->List (Int × Int)->β} {W:List Nat} {Q:List (Int × Int)->Prop} {nb:Nat} (hy:YC h yv I stp W Q)
 {L:List AV} {ns:List fP} (hL:SlA 3 L nv) (hN:eS ns L) (hns:1<=ns.length/\ns.length<=4) (htl:∀n∈ns,n.tools.length<=3) {R:Int->Prop} (hR:∀n∈ns,∀t∈n.tools,R t) (hQ:∀ps,ps.length=ns.length->(∀q∈ps,R q.1/\R q.2)->Q ps)
include hy hL hN hns htl hR hQ
theorem HQ {s:β} {A:aa} (hI:I s A) (hn:A[nb]?=some (.row 1 false [nv])) (hnW:nb ∉ W) :
  ∃B,vR h [yv,.ptr nb 0 0] A=some (.tup [],B)/\I (mC stp (ns.map (·.tools)) [] s) B/\Fr A B W:=by
 have lW:=hy.low s A hI
 obtain ⟨A1,hA1⟩:∃A1,A1=A++[.row 1 false [yv],.row 1 false [jS nb A.length (A.length+1)]]:=⟨_,rfl⟩
 have F:Fr A A1 W:=by rw [hA1]; exact Fr.app _ _ _
 have hI1:I s A1:=by rw [hA1]; exact hy.app _ _ _ hI
 have y1:A1[A.length]?=some (.row 1 false [yv]):=by rw [hA1]; simp
 have f1:A1[A.length+1]?=some (.row 1 false [jS nb A.length (A.length+1)]):=by rw [hA1]; simp
 obtain ⟨B,c1,c2,c3⟩:=Mn hy hL hN hns htl hR hQ ns.length [] .nilS s A1 (by simp) (by simp) (.inl ⟨rfl,rfl⟩) hI1 ⟨F.at hn hnW,y1,f1,hnW,fun hm=>by have:=lW _ hm; omega,fun hm=>by have:=lW _ hm; omega⟩
 refine ⟨B,?_,c2,F.trans c3 (fun _ h=>h) (fun _ _ h=>h)⟩
 have hln:ay nv=some (.int .i64 (ns.length:Int)):=by rw [<-hN.1]; exact hL.len
 have cA:rm h [.nilS,.ptr nb 0 0,.ptr A.length 0 0,.ptr (A.length+1) 0 0] A1=some (.bool true,B):=by
  unfold rm
  simp only [F.at hn hnW,hln,Int.toNat_natCast]
  exact c1
 obtain ⟨l,rfl⟩:=hy.isY
 have g1:(A++[Ent.row 1 false [.func (.yield l) [] []],.row 1 false [.nilF]])[A.length+1]?=some (.row 1 false [.nilF]):=by rw [List.getElem?_append_right (by omega)]; simp
 have g2:(A++[Ent.row 1 false [.func (.yield l) [] []],.row 1 false [.nilF]]).set (A.length+1) (.row 1 false [jS nb A.length (A.length+1)])=A1:=by
  rw [List.set_append_right _ _ (by omega),hA1]; simp
 have hlk:aR [(140,rm)] 140=some rm:=rfl
 unfold vR
 rw [aH _ _ rfl]
 clear hA1
 unfold jS at *
 simp [BC,g2,f1,cA]
end
open Classical in
def xc (A A':aa):Option aa:=
 match A'[A.length-5]? with
 | some (.row 5 false [.agg [a1,a2,a3,.sl id0 off k,a5]])=>
  match A'[id0]? with
  | some X=>if vX A A' ((A'.take A.length).set (A.length-5) (.row 5 false [.agg [a1,a2,a3,.sl A.length off k,a5]])) id0 X then some ((A'.take A.length).set (A.length-5) (.row 5 false [.agg [a1,a2,a3,.sl A.length off k,a5]])++[X]) else none
  | none=>none
 | _=>if vX A A' (A'.take A.length) A'.length .dead then some (A'.take A.length++[.dead]) else none
def Ju:aB:=fun hd args A=>match vR hd args A with
 | some (.tup [],A')=>(xc A A').map fun B=>(.tup [],B)
 | _=>none
theorem Ad:au Tryz.prog GS 139 Ju:=wD.cut fun A A' B he=>by
 unfold xc at he
 split at he
 ·split at he
  ·split at he
   ·rename_i hc
    injection he with he
    exact ⟨_,_,_,he.symm,hc⟩
   ·cases he
  ·cases he
 ·split at he
  ·rename_i hc
   injection he with he
   exact ⟨_,_,_,he.symm,hc⟩
  ·cases he
theorem D4 {esz:Nat} {xs:List AV} {a5:AV} (h5:SlA esz xs a5) (e lo hi:Int) (n id0 off k:Nat):Mv n id0 (.agg [.int .i64 e,.int .i64 lo,.int .i64 hi,.sl id0 off k,a5]) (.agg [.int .i64 e,.int .i64 lo,.int .i64 hi,.sl n off k,a5]):=by
 intro w OK g gs v hg hv
 obtain ⟨vs,vals,rfl,hl,h1,h2⟩:=hv.inv_agg
 refine .agg gs vs _ hl vals h1 fun i hi=>?_
 have h2:=h2 i hi
 have hi5:i<5:=hi
 rcases (show i=0\/i=1\/i=2\/i=3\/i=4 by omega) with rfl | rfl | rfl | rfl | rfl
 ·exact cQ 0 (.int .i64 e) _ rfl h2
 ·exact cQ 0 (.int .i64 lo) _ rfl h2
 ·exact cQ 0 (.int .i64 _) _ rfl h2
 ·have h2:aJ w OK g (vals 3) (.sl id0 off k):=h2
  obtain ⟨inc,cap,ao,k1,k2,k3,k4,k5,k6⟩:=h2.inv_sl
  show aJ w OK gs (vals 3) (.sl n off k)
  rw [k2]
  exact .sl gs n off k cap ao inc (by rw [hg]; exact k1) k3 k4 k5 k6
 ·have h2:aJ w OK g (vals 4) a5:=h2
  show aJ w OK gs (vals 4) a5
  rcases h5 with ⟨rfl,_⟩ | rfl
  ·obtain ⟨p,hp⟩:=h2.inv_nilS
   rw [hp]; exact .nilS _ p
  ·obtain ⟨b,o,cap,T,c,fz,us,q1,q2,q3,q4,q5,q6,q7⟩:=h2.inv_fs
   rw [q1]; exact .fs gs b o cap esz T c fz _ us q2 q3 q4 q5 q6 q7
end Sh
namespace Sh
def wj:aN:=fun args=>match M27 args with
 | some (.tup [.agg [_,_,_,_,_],.bool v])=>some (.tup [.agg [.undef,.undef,.undef,.undef,.undef],.bool v])
 | _=>none
theorem tP:ak Tryz.prog GS 27 wj:=by
 refine ⟨yx.1,fun args r he w OK vs h1 h2 h3=>?_⟩
 unfold wj at he
 split at he
 ·rename_i x1 x2 x3 x4 x5 v hM
  injection he with he
  subst he
  refine (yx.2 args _ hM w OK vs h1 h2 h3).mono ?_
  rintro e w' ⟨u,OK',rfl,k1,k2,k3⟩
  refine ⟨u,OK',rfl,?_,k2,k3⟩
  obtain ⟨us,vals,rfl,q1,q2,q3⟩:=k1.inv_tup
  refine .tup _ us _ q1 vals q2 fun i hi=>?_
  have q3:=q3 i hi
  have hi2:i<2:=hi
  rcases (show i=0\/i=1 by omega) with rfl | rfl
  ·have q3:aJ w' OK' aq.none (vals 0) (.agg [x1,x2,x3,x4,x5]):=q3
   obtain ⟨us',vals',e,p1,p2,p3⟩:=q3.inv_agg
   show aJ w' OK' aq.none (vals 0) (.agg [.undef,.undef,.undef,.undef,.undef])
   rw [e]
   refine .agg _ us' _ p1 vals' p2 fun i hi=>?_
   have hi5:i<5:=hi
   rcases (show i=0\/i=1\/i=2\/i=3\/i=4 by omega) with rfl | rfl | rfl | rfl | rfl <;> exact .undef _ _
  ·exact q3
 ·cases he
theorem vL (p:Pl) {a b:AV} (ha:SlA 6 (p.stages.map aI) a) (hb:SlA 3 (p.wins.map bi) b):∃v:Bool,wj [ax p a b]=some (.tup [.agg [.undef,.undef,.undef,.undef,.undef],.bool v])/\(v=true↔vJ p):=by
 obtain ⟨x,v,h1,h2,h3⟩:=IV p ha hb
 refine ⟨v,?_,h3⟩
 match x,h1 with
 | [x1,x2,x3,x4,x5],_=>
  unfold wj
  rw [h2]
def MH:MC:=.region [⟨none,.load false 1 (.var 3),none⟩,⟨none,.load true 5 (.var 4),none⟩,⟨none,.mv (.var 11),none⟩,⟨none,.call (.fn 84) [.tmp 0,.tmp 1,.tmp 2],none⟩,⟨none,.mv (.tmp 3),none⟩,⟨none,.extract (.tmp 4) 0,none⟩,⟨none,.extract (.tmp 4) 1,none⟩,⟨some 12,.alloc 5 (.agg [.int .i64 0,.int .i64 0,.int .i64 0,.nilS,.nilS]),none⟩,⟨none,.store 5 (.var 12) (.tmp 5),none⟩,⟨some 13,.mv (.tmp 6),none⟩]
def MG:MC:=.region [⟨none,.fieldAddr 3 (.var 12),none⟩,⟨none,.load false 1 (.tmp 0),none⟩,⟨none,.fieldAddr 3 (.var 12),none⟩,⟨none,.load false 1 (.tmp 2),none⟩,⟨none,.lenSl (.tmp 3),none⟩,⟨none,.bin .sub (.tmp 4) (.cst (.int .i64 1)),none⟩,⟨none,.indexSl 6 (.tmp 1) (.tmp 5),none⟩,⟨none,.load true 6 (.tmp 6),none⟩,⟨none,.call (.fn 85) [.tmp 7],none⟩,⟨some 14,.mv (.tmp 8),none⟩]
def Kr:MC:=.region [⟨none,.load false 1 (.var 9),none⟩,⟨none,.mv (.tmp 0),none⟩,⟨none,.mv (.var 14),some (.tmp 1,true)⟩,⟨none,.load false 1 (.var 10),some (.tmp 1,true)⟩,⟨none,.bin .geq (.tmp 2) (.tmp 3),some (.tmp 1,true)⟩,⟨some 23,.pick (.tmp 1) (.tmp 4) (.cst (.bool false)),none⟩]
def MF:MC:=.region [⟨none,.fieldAddr 3 (.var 12),none⟩,⟨some 24,.load false 1 (.tmp 0),none⟩,⟨some 25,.lenSl (.var 24),none⟩,⟨some 26,.mv (.cst (.int .i64 0)),none⟩]
def ME:MC:=.region [⟨none,.load true 5 (.var 12),none⟩,⟨none,.call (.fn 27) [.tmp 0],none⟩,⟨none,.mv (.tmp 1),none⟩,⟨none,.extract (.tmp 2) 0,none⟩,⟨none,.extract (.tmp 2) 1,none⟩,⟨none,.alloc 5 (.agg [.nilS,.nilS,.int .i64 0,.int .i64 0,.int .i64 0]),none⟩,⟨none,.store 5 (.tmp 5) (.tmp 3),none⟩,⟨some 19,.mv (.tmp 4),none⟩]
def MD:MC:=.region [⟨none,.load true 5 (.var 12),none⟩,⟨none,.mv (.var 14),none⟩,⟨none,.store 5 (.var 8) (.tmp 0),none⟩,⟨none,.store 1 (.var 9) (.cst (.bool true)),none⟩,⟨none,.store 1 (.var 10) (.tmp 1),none⟩]
theorem hY:n6=.seq (.block 1 (.seq MH (.seq (.seq (.region [⟨none,.mv (.var 13),none⟩,⟨some 22,.un .not (.tmp 0),none⟩]) (.cond (.var 22) (.exit 1) .skip)) (.seq MG (.seq (.seq Kr (.cond (.var 23) (.exit 1) .skip)) (.seq (.seq MF (.seq (.block 2 (.loop [0,1,2,3,4,6,7,11,13,15,16,17,18,19,20,21,22,23,27,28,29] jq)) (.kill [0,1,2,3,4,5,6,7,11,13,15,16,17,18,19,20,21,22,23,24,25,26,27,28,29]))) (.seq ME (.seq (.region [⟨some 29,.mv (.var 19),none⟩]) (.cond (.var 29) MD .skip))))))))) (.kill [0,1,2,3,4,5,6,7,8,9,10,11,12,13,14,15,16,17,18,19,20,21,22,23,24,25,26,27,28,29]):=rfl
def il:List (FuncId × aB):=[(27,aK 4 wj),(83,H83),(84,H84),(85,aK 4 M85),(139,Ju)]
@[simp] theorem LW:aR il 27=some (aK 4 wj):=rfl
@[simp] theorem LV:aR il 83=some H83:=rfl
@[simp] theorem LU:aR il 84=some H84:=rfl
@[simp] theorem LT:aR il 85=some (aK 4 M85):=rfl
@[simp] theorem Kd:aR il 139=some Ju:=rfl
abbrev R33 (v0 v1 v2:AV) (cb rb db:Nat) (v6 v7:AV) (ob fb lb:Nat) (v11 v12 v13 v14 v19 v20 v21 v22 v23 v24 v25 v26 v29:AV):List AV:=
 [v0,v1,v2,.ptr cb 0 0,.ptr rb 0 0,.ptr db 0 0,v6,v7,.ptr ob 0 0,.ptr fb 0 0,.ptr lb 0 0,v11,v12,v13,v14,.undef,.undef,.undef,.undef,v19,v20,v21,v22,v23,v24,v25,v26,.undef,.undef,v29]
section
variable {K:List KC} {A B:aa} {v0 v1 v2 v6 v7 v20 v21:AV} {cb rb db ob fb lb:Nat}
theorem yD {e lo hi e' lo' hi':Int} {nv wv o w' ch:AV} {id:Nat} {ok:Bool} (hc:A[cb]?=some (.row 1 false [.ptr id 0 0])) (hr:A[rb]?=some (.row 5 false [rqA e lo hi nv wv])) (h84:H84 (fun _ _ _=>none) [.ptr id 0 0,rqA e lo hi nv wv,ch] A=some (.tup [rqA e' lo' hi' o w',.bool ok],B)) :
  run (ac GS il) 50 (.code MH :: K) (R33 v0 v1 v2 cb rb db v6 v7 ob fb lb ch .undef .undef .undef .undef v20 v21 .undef .undef .undef .undef .undef .undef) A =
   run (ac GS il) 50 K (R33 v0 v1 v2 cb rb db v6 v7 ob fb lb ch (.ptr B.length 0 0) (.bool ok) .undef .undef v20 v21 .undef .undef .undef .undef .undef .undef) (B++[.row 5 false [rqA e' lo' hi' o w']]):=by
 unfold rqA at *
 simp [MH,hc,hr,h84,az]
theorem FF {e lo hi:Int} {w' ch:AV} {pb oid m:Nat} {es:List AV} {x:Stg} (hp:A[pb]?=some (.row 5 false [rqA e lo hi (.sl oid 0 es.length) w'])) (ho:A[oid]?=some (.row 6 false es)) (hm:es.length=m+1) (hx:es[m]?=some (aI x)) (h85:M85 [aI x]=some (.int .i64 (max x.ms x.ss+x.mx))) (hl:m<1000) :
  run (ac GS il) 50 (.code MG :: K) (R33 v0 v1 v2 cb rb db v6 v7 ob fb lb ch (.ptr pb 0 0) (.bool true) .undef .undef v20 v21 (.bool false) .undef .undef .undef .undef .undef) A =
   run (ac GS il) 50 K (R33 v0 v1 v2 cb rb db v6 v7 ob fb lb ch (.ptr pb 0 0) (.bool true) (.int .i64 (max x.ms x.ss+x.mx)) .undef v20 v21 (.bool false) .undef .undef .undef .undef .undef) A:=by
 have b1:aj .sub (.int .i64 (es.length:Int)) (.int .i64 1)=some (.int .i64 (m:Int)):=by
  simp only [aj]; rw [if_pos trivial,eo (by unfold inI; omega)]; congr 2; omega
 have x1:ae 6 A (.sl oid 0 es.length) (.int .i64 (m:Int))=some (.ptr oid m 0):=by
  simp only [ae,ho]
  rw [if_pos ⟨trivial,by omega,by omega,by omega⟩]
  simp
 generalize es.length=N at *
 generalize (m:Int)=M at *
 unfold rqA aI at *
 simp [MG,hp,ho,hx,b1,x1,h85,-aj,-ae]
theorem FE {f:Bool} {l over:Int} {ch:AV} {pb:Nat} (hf:A[fb]?=some (.row 1 false [.bool f])) (hl:A[lb]?=some (.row 1 false [.int .i64 l])) :
  run (ac GS il) 50 (.code Kr :: K) (R33 v0 v1 v2 cb rb db v6 v7 ob fb lb ch (.ptr pb 0 0) (.bool true) (.int .i64 over) .undef v20 v21 (.bool false) .undef .undef .undef .undef .undef) A =
   run (ac GS il) 50 K (R33 v0 v1 v2 cb rb db v6 v7 ob fb lb ch (.ptr pb 0 0) (.bool true) (.int .i64 over) .undef v20 v21 (.bool false) (.bool (f && decide (l<=over))) .undef .undef .undef .undef) A:=by
 have b1:=qP over l
 cases f with
 | false=>simp [Kr,hf]
 | true=>simp [Kr,hf,hl,b1,-aj]
theorem FA {p:Pl} {a w' ch v24 v25 v26:AV} {pb:Nat} {over:Int} {v:Bool} (hp:A[pb]?=some (.row 5 false [ax p a w'])) (fa:frz A 4 (ax p a w')=ax p (slA 6 (p.stages.map aI)) w') (h27:wj [ax p (slA 6 (p.stages.map aI)) w']=some (.tup [.agg [.undef,.undef,.undef,.undef,.undef],.bool v])) (_d1 _d4 _d5 _d6 _d7 d8 d9 d10:AV) :
  run (ac GS il) 50 (.code ME :: K) [.undef,.undef,.undef,.undef,.undef,.undef,.undef,.undef,d8,d9,d10,.undef,.ptr pb 0 0,.undef,.int .i64 over,.undef,.undef,.undef,.undef,.undef,.undef,.undef,.undef,.undef,.undef,.undef,.undef,.undef,.undef,.undef] A =
   run (ac GS il) 50 K [.undef,.undef,.undef,.undef,.undef,.undef,.undef,.undef,d8,d9,d10,.undef,.ptr pb 0 0,.undef,.int .i64 over,.undef,.undef,.undef,.undef,.bool v,.undef,.undef,.undef,.undef,.undef,.undef,.undef,.undef,.undef,.undef] (A++[.row 5 false [.agg [.undef,.undef,.undef,.undef,.undef]]]):=by
 generalize slA 6 (p.stages.map aI)=a1 at *
 unfold ax at *
 simp [ME,hp,fa,h27,az,-frz]
theorem Ba {v8 v9 v10 v12 v14:AV} {oid i:Nat} {es:List AV} {x:Stg} (ho:A[oid]?=some (.row 6 false es)) (hx:es[i]?=some (aI x)) (hd:A[db]?=some (.row 1 false [.nilM])) (hl:es.length<=100) :
  run (ac GS il) 50 [.code jq] (lH (.ptr db 0 0) v8 v9 v10 v12 v14 (.sl oid 0 es.length) (.int .i64 (es.length:Int)) (.int .i64 (i:Int))) A =
   some (.normal (lH (.ptr db 0 0) v8 v9 v10 v12 v14 (.sl oid 0 es.length) (.int .i64 (es.length:Int)) (.int .i64 ((i+1:Nat):Int))) (A++[.row 6 false [aI x]])):=by
 have hi:i<es.length:=(List.getElem?_eq_some_iff.1 hx).1
 have b1:=bK i es.length .i64
 rw [decide_eq_true hi] at b1
 have b3:=aY i (by omega)
 have x1:ae 6 A (.sl oid 0 es.length) (.int .i64 (i:Int))=some (.ptr oid i 0):=by
  simp only [ae,ho]
  rw [if_pos ⟨trivial,by omega,by omega,by omega⟩]
  simp
 have d2:(A++[Ent.row 6 false [aI x]])[db]?=some (.row 1 false [.nilM]):=(Fr.app A [.row 6 false [aI x]] []).at hd (by simp)
 generalize es.length=N at *
 generalize ((i+1:Nat):Int)=I1 at *
 generalize hI:(i:Int)=I at *
 unfold aI at *
 simp [jq,b1,b3,x1,ho,hx,d2,az,-aj,-ae]
end
end Sh
namespace Sh
section
variable {K:List KC} {A B:aa} {ob fb lb db:Nat}
theorem Fz {p:Pl} {a w' x0 y z:AV} {pb:Nat} {over:Int} (hp:A[pb]?=some (.row 5 false [ax p a w'])) (h1:A[ob]?=some (.row 5 false [x0])) (h2:(A.set ob (.row 5 false [ax p a w']))[fb]?=some (.row 1 false [y])) (h3:((A.set ob (.row 5 false [ax p a w'])).set fb (.row 1 false [.bool true]))[lb]?=some (.row 1 false [z])) (d19 d29:AV) :
  run (ac GS il) 50 (.code MD :: K) [.undef,.undef,.undef,.undef,.undef,.undef,.undef,.undef,.ptr ob 0 0,.ptr fb 0 0,.ptr lb 0 0,.undef,.ptr pb 0 0,.undef,.int .i64 over,.undef,.undef,.undef,.undef,d19,.undef,.undef,.undef,.undef,.undef,.undef,.undef,.undef,.undef,d29] A =
   run (ac GS il) 50 K [.undef,.undef,.undef,.undef,.undef,.undef,.undef,.undef,.ptr ob 0 0,.ptr fb 0 0,.ptr lb 0 0,.undef,.ptr pb 0 0,.undef,.int .i64 over,.undef,.undef,.undef,.undef,d19,.undef,.undef,.undef,.undef,.undef,.undef,.undef,.undef,.undef,d29] (((A.set ob (.row 5 false [ax p a w'])).set fb (.row 1 false [.bool true])).set lb (.row 1 false [.int .i64 over])):=by
 unfold ax at *
 simp [MD,hp,h1,h2,h3,az]
theorem GL {v8 v9 v10 v12 v14:AV} {oid:Nat} {l:List Stg} (hl:l.length<=20):∀(κ i m:Nat) (A:aa),i+κ=l.length->κ<m->A[oid]?=some (.row 6 false (l.map aI))->A[db]?=some (.row 1 false [.nilM]) ->
  ∃X,bI (evC (ac GS il) 50 jq) gX m (lH (.ptr db 0 0) v8 v9 v10 v12 v14 (.sl oid 0 (l.map aI).length) (.int .i64 ((l.map aI).length:Int)) (.int .i64 (i:Int))) A=some (.exit 2 ((lH (.ptr db 0 0) v8 v9 v10 v12 v14 (.sl oid 0 (l.map aI).length) (.int .i64 ((l.map aI).length:Int)) (.int .i64 ((l.map aI).length:Int))).set 27 (.bool false)) (A++X)):=by
 intro κ
 induction κ with
 | zero=>
  intro i m A hi hm ho hd
  obtain ⟨m,rfl⟩:∃m',m=m'+1:=⟨m-1,by omega⟩
  obtain rfl:i=(l.map aI).length:=by simp; omega
  refine ⟨[],?_⟩
  rw [aF,vj]
  generalize (l.map aI).length=N at *
  simp [jq]
 | succ κ ih=>
  intro i m A hi hm ho hd
  obtain ⟨m,rfl⟩:∃m',m=m'+1:=⟨m-1,by omega⟩
  obtain ⟨x,hx⟩:∃x,l[i]?=some x:=⟨_,List.getElem?_eq_getElem (by omega)⟩
  have F:=Fr.app A [.row 6 false [aI x]] []
  obtain ⟨X,h⟩:=ih (i+1) m _ (by omega) (by omega) (F.at ho (by simp)) (F.at hd (by simp))
  refine ⟨[.row 6 false [aI x]]++X,?_⟩
  rw [aF,vj,Ba ho (x:=x) (by rw [List.getElem?_map,hx]; rfl) hd (by simp; omega),<-List.append_assoc]
  exact h
end
abbrev wi:=Option (List Stg × Int)
def nJ (st:List Stg):Int:=match st.getLast? with
 | some x=>max x.ms x.ss+x.mx
 | none=>0
open Classical in
def jQ (c:Cal) (e lo hi:Int) (ns:List fP) (ws:List Win) (s:wi) (ps:List (Int × Int)):wi:=match cd hi c e (dF ns ps) with
 | none=>s
 | some (_,st)=>if (∃q,s=some q/\q.2<=nJ st) then s else if vJ ⟨e,lo,hi,st,ws⟩ then some (st,nJ st) else s
structure I33 (Ab:aa) (ob:Nat) (e lo hi:Int) (wv':AV) (s:wi) (A:aa):Prop where
 fr:Fr Ab A [ob,ob+1,ob+2]
 n:s=none->A[ob]?=some bO/\A[ob+1]?=some (.row 1 false [.bool false])/\A[ob+2]?=some (.row 1 false [.int .i64 0])
 s:∀l over,s=some (l,over)->∃o,A[ob]?=some (.row 5 false [rqA e lo hi o wv'])/\A[ob+1]?=some (.row 1 false [.bool true])/\A[ob+2]?=some (.row 1 false [.int .i64 over])/\bY A o 6 (l.map aI)/\l≠[]/\∀k∈aC o,Ab.length<=k
 lo:ob+2<Ab.length
theorem I33.boxes {Ab:aa} {ob:Nat} {e lo hi:Int} {wv':AV} {s:wi} {A:aa} (h:I33 Ab ob e lo hi wv' s A):∃x0 f l,A[ob]?=some (.row 5 false [x0])/\A[ob+1]?=some (.row 1 false [.bool f])/\A[ob+2]?=some (.row 1 false [.int .i64 l])/\(∀over,(f && decide (l<=over))=true↔∃q,s=some q/\q.2<=over):=by
 cases hs:s with
 | none=>
  obtain ⟨h1,h2,h3⟩:=h.n hs
  exact ⟨_,false,0,h1,h2,h3,fun over=>⟨fun h=>by simp at h,fun ⟨q,h,_⟩=>by cases h⟩⟩
 | some q=>
  obtain ⟨l,ov⟩:=q
  obtain ⟨o,h1,h2,h3,_⟩:=h.s l ov hs
  exact ⟨_,true,ov,h1,h2,h3,fun over=>⟨fun h=>⟨_,rfl,by simpa using h⟩,fun ⟨q,h,k⟩=>by injection h with h; subst h; simpa using k⟩⟩
theorem I33.keep {Ab:aa} {ob:Nat} {e lo hi:Int} {wv':AV} {s:wi} {A B:aa} (h:I33 Ab ob e lo hi wv' s A) (F:Fr A B []):I33 Ab ob e lo hi wv' s B:=by
 refine ⟨h.fr.trans F (fun _ h=>h) (fun _ _ h=>by cases h),fun hs=>?_,fun l over hs=>?_,h.lo⟩
 ·obtain ⟨h1,h2,h3⟩:=h.n hs
  exact ⟨F.at h1 (by simp),F.at h2 (by simp),F.at h3 (by simp)⟩
 ·obtain ⟨o,h1,h2,h3,h4,h5,h6⟩:=h.s l over hs
  exact ⟨o,F.at h1 (by simp),F.at h2 (by simp),F.at h3 (by simp),h4.fr F (by simp),h5,h6⟩
end Sh
namespace Sh
theorem Fr.sub {A B:aa} {l l':List Nat} (h:Fr A B l) (hs:∀x∈l,x∈l'):Fr A B l':=⟨h.1,fun j hj hm=>h.2 j hj fun hx=>hm (hs j hx)⟩
abbrev U30:List AV:=[.undef,.undef,.undef,.undef,.undef,.undef,.undef,.undef,.undef,.undef,.undef,.undef,.undef,.undef,.undef,.undef,.undef,.undef,.undef,.undef,.undef,.undef,.undef,.undef,.undef,.undef,.undef,.undef,.undef,.undef]
theorem jb {hi:Int}:∀ {l:List Nd} {c d:Cal} {t:Int} {st:List Stg},cd hi c t l=some (d,st)->st.length=l.length
 | [],c,d,t,st,h=>by
  unfold cd at h
  injection h with h
  injection h with _ h
  subst h
  rfl
 | x :: r,c,d,t,st,h=>by
  unfold cd at h
  obtain ⟨a,_,h⟩:=Option.bind_eq_some_iff.1 h
  obtain ⟨b,_,h⟩:=Option.bind_eq_some_iff.1 h
  obtain ⟨⟨d',st'⟩,hq,h⟩:=Option.map_eq_some_iff.1 h
  injection h with _ h
  rw [<-h]
  simp [jb hq]
theorem rN {hi:Int}:∀ {l:List Nd} {c d:Cal} {t:Int} {st:List Stg},dj c->cd hi c t l=some (d,st)->∀x∈st,0<=x.ms/\x.ms+x.mx<=1000000/\0<=x.ss/\x.ss+x.mx<=1000000/\0<x.mx
 | [],c,d,t,st,_,h,x,hx=>by
  unfold cd at h
  injection h with h
  injection h with _ h
  rw [<-h] at hx
  cases hx
 | y :: r,c,d,t,st,hc,h,x,hx=>by
  unfold cd at h
  obtain ⟨a,ha,h⟩:=Option.bind_eq_some_iff.1 h
  obtain ⟨_,_,_,c1,e1,f1⟩:=dn hc ha
  rw [e1,Option.getD_some] at h
  obtain ⟨b,hb,h⟩:=Option.bind_eq_some_iff.1 h
  obtain ⟨_,_,_,c2,e2,f2⟩:=dn f1 hb
  rw [e2,Option.getD_some] at h
  obtain ⟨⟨d',st'⟩,hq,h⟩:=Option.map_eq_some_iff.1 h
  injection h with _ h
  have ok1:=(cw hc.1 e1).2.1.1
  have ok2:=(cw f1.1 e2).2.1.1
  simp only at ok1 ok2
  rw [<-h] at hx
  rcases List.mem_cons.1 hx with rfl | hx
  ·simp only
   omega
  ·exact rN f2 hq x hx
theorem IE {Ab A:aa} {cb rb db ob id cid:Nat} {cells0 L:List AV} {c:Cal} {nv wv wv':AV} {e lo hi:Int} {ns:List fP} {ps:List (Int × Int)} {ws:List Win} {s:wi} (v0 v1 v2 v6 v7 v20 v21:AV)
  (hI:I33 Ab ob e lo hi wv' s A) (hcb:Ab[cb]?=some (.row 1 false [.ptr id 0 0])) (hrb:Ab[rb]?=some (.row 5 false [rqA e lo hi nv wv])) (hdb:Ab[db]?=some (.row 1 false [.nilM])) (hlt:cb<ob/\rb<ob/\db<ob)
  (hc:cz Ab id cells0 c) (hid:id<ob) (hids:∀k∈fQ cells0,k<ob) (hf:dj c) (hl:∀u,(c u).length<=780)
  (hL:SlA 3 L nv) (hN:eS ns L) (hns:1<=ns.length/\ns.length<=4) (hps:ps.length=ns.length) (hc0:A[cid]?=some (.row 2 false (ps.map cg)))
  (hpr:∀q∈ps,(0<=q.1/\q.1<60)/\(0<=q.2/\q.2<60)) (hmx:∀n∈ns,1<=n.mx/\n.mx<=10000) (hhi:0<=hi/\hi<=10000) (he:0<=e/\e<=3000000) (hw:SlA 3 (ws.map bi) wv) (hwl:ws.length<=1000) (hm:wk [wv]=some wv') :
  ∃B,evC (ac GS il) 50 n6 (R33 v0 v1 v2 cb rb db v6 v7 ob (ob+1) (ob+2) (.sl cid 0 ps.length) .undef .undef .undef .undef v20 v21 .undef .undef .undef .undef .undef .undef) A=some (.normal U30 B) /\
   I33 Ab ob e lo hi wv' (jQ c e lo hi ns ws s ps) B/\Fr A B [ob,ob+1,ob+2]:=by
 have nW:∀j,j<ob->j ∉ [ob,ob+1,ob+2]:=fun j hj hm=>by simp at hm; omega
 have cbA:=hI.fr.at hcb (nW _ hlt.1)
 have rbA:=hI.fr.at hrb (nW _ hlt.2.1)
 have dbA:=hI.fr.at hdb (nW _ hlt.2.2)
 have calA:=hc.fr hI.fr (nW _ hid) (fun k hk=>nW _ (hids k hk))
 have lo1:=hI.lo
 have lA:=hI.fr.1
 rcases ev84 (fun _ _ _=>none) calA hf hl hL hN hns.2 hps hc0 hpr hmx hhi he hw hwl with ⟨hn,B,h84,FB⟩ | ⟨d,st,B,o,wv2,hpl,h84,FB,ho,hoi,hw2,hm2⟩
 ·have FB1:Fr A (B++[.row 5 false [rqA 0 0 0 .nilS .nilS]]) []:=FB.trans (Fr.app _ _ []) (fun _ h=>h) (fun _ _ h=>h)
  have ra:=fun K=>yD (K:=K) (v0:=v0) (v1:=v1) (v2:=v2) (db:=db) (v6:=v6) (v7:=v7) (ob:=ob) (fb:=ob+1) (lb:=ob+2) (v20:=v20) (v21:=v21) cbA rbA h84
  have es:jQ c e lo hi ns ws s ps=s:=by unfold jQ; rw [hn]
  rw [es]
  refine ⟨_,?_,hI.keep FB1,Fr.sub FB1 (by simp)⟩
  ·rw [dv,hY]
   generalize B++[Ent.row 5 false [rqA 0 0 0 .nilS .nilS]]=B1 at *
   simp [ra]
 ·rw [hm] at hm2
  injection hm2 with hm2
  subst hm2
  have hln:=jb hpl
  have hndl:(dF ns ps).length=ns.length:=by simp [dF,hps]
  rcases ho with ⟨_,h0⟩ | ⟨_,oid,rfl,hor⟩
  ·have h1:st.length=0:=by simpa using congrArg List.length h0
   omega
  obtain ⟨m,hm1⟩:∃m,st.length=m+1:=⟨st.length-1,by omega⟩
  obtain ⟨x,hx⟩:∃x,st[m]?=some x:=⟨_,List.getElem?_eq_getElem (by omega)⟩
  have hxi:=rN hf hpl x (List.mem_of_getElem? hx)
  have hend:nJ st=max x.ms x.ss+x.mx:=by
   unfold nJ
   rw [List.getLast?_eq_getElem?,hm1,Nat.add_sub_cancel,hx]
  have FB1:Fr A (B++[.row 5 false [rqA e lo hi (.sl oid 0 (st.map aI).length) wv']]) []:=FB.trans (Fr.app _ _ []) (fun _ h=>h) (fun _ _ h=>h)
  have ra:=fun K=>yD (K:=K) (v0:=v0) (v1:=v1) (v2:=v2) (db:=db) (v6:=v6) (v7:=v7) (ob:=ob) (fb:=ob+1) (lb:=ob+2) (v20:=v20) (v21:=v21) cbA rbA h84
  have pB1:(B++[Ent.row 5 false [rqA e lo hi (.sl oid 0 (st.map aI).length) wv']])[B.length]?=some (.row 5 false [rqA e lo hi (.sl oid 0 (st.map aI).length) wv']):=by simp
  have oB1:=(Fr.app B [.row 5 false [rqA e lo hi (.sl oid 0 (st.map aI).length) wv']] []).at hor (by simp)
  have dB1:=FB1.at dbA (by simp)
  have I1:=hI.keep FB1
  have lB:=FB.1
  have rb':=fun K=>FF (K:=K) (v0:=v0) (v1:=v1) (v2:=v2) (cb:=cb) (rb:=rb) (db:=db) (v6:=v6) (v7:=v7) (ob:=ob) (fb:=ob+1) (lb:=ob+2) (v20:=v20) (v21:=v21) (ch:=.sl cid 0 ps.length) pB1 oB1 (m:=m) (by simp [hm1]) (x:=x) (by rw [List.getElem?_map,hx]; rfl) (zd x (by unfold inI; omega)) (by omega)
  rw [<-hend] at rb'
  obtain ⟨x0,f,l,b1,b2,b3,b4⟩:=I1.boxes
  have rc:=fun K=>FE (K:=K) (v0:=v0) (v1:=v1) (v2:=v2) (cb:=cb) (rb:=rb) (db:=db) (v6:=v6) (v7:=v7) (ob:=ob) (v20:=v20) (v21:=v21) (over:=nJ st) (ch:=.sl cid 0 ps.length) (pb:=B.length) b2 b3
  have b4:=b4 (nJ st)
  have lB1:(B++[Ent.row 5 false [rqA e lo hi (.sl oid 0 (st.map aI).length) wv']]).length=B.length+1:=by simp
  generalize B++[Ent.row 5 false [rqA e lo hi (.sl oid 0 (st.map aI).length) wv']]=B1 at *
  cases hfl:(f && decide (l<=nJ st)) with
  | true=>
   have es:jQ c e lo hi ns ws s ps=s:=by
    unfold jQ
    rw [hpl]
    exact if_pos (b4.1 hfl)
   rw [es]
   rw [hfl] at rc
   refine ⟨_,?_,I1,Fr.sub FB1 (by simp)⟩
   rw [dv,hY]
   simp [ra,rb',rc]
  | false=>
   have nb4:¬ ∃q,s=some q/\q.2<=nJ st:=fun h=>by rw [b4.2 h] at hfl; cases hfl
   rw [hfl] at rc
   obtain ⟨X,lp⟩:=GL (v8:=.ptr ob 0 0) (v9:=.ptr (ob+1) 0 0) (v10:=.ptr (ob+2) 0 0) (v12:=.ptr B.length 0 0) (v14:=.int .i64 (nJ st)) (l:=st) (by omega) st.length 0 50 B1 (by omega) (by omega) oB1 dB1
   have F2:Fr B1 (B1++X) []:=Fr.app _ _ _
   have p2:=F2.at pB1 (by simp)
   have o2:=F2.at oB1 (by simp)
   have I2:=I1.keep F2
   obtain ⟨p,hp⟩:∃p:Pl,p=⟨e,lo,hi,st,ws⟩:=⟨_,rfl⟩
   have hq:rqA e lo hi (.sl oid 0 (st.map aI).length) wv'=ax p (.sl oid 0 (st.map aI).length) wv':=by rw [hp]; rfl
   have hst:p.stages=st:=by rw [hp]
   obtain ⟨v,hM,hv⟩:=vL p (bu 6 (p.stages.map aI)) (b:=wv') (by rw [hp]; exact hw2)
   have ho2:bY (B1++X) (.sl oid 0 (st.map aI).length) 6 (st.map aI):=.inr ⟨by intro h; have:=congrArg List.length h; simp at this; rw [this] at hm1; simp at hm1,oid,rfl,o2⟩
   have fa:frz (B1++X) 4 (ax p (.sl oid 0 (st.map aI).length) wv')=ax p (slA 6 (p.stages.map aI)) wv':=by
    have f1:frz (B1++X) 3 (.sl oid 0 (st.map aI).length)=slA 6 (st.map aI):=ho2.frz 2 fun x hx=>by
     obtain ⟨y,_,rfl⟩:=List.mem_map.1 hx
     rfl
    have f2:frz (B1++X) 3 wv'=wv':=hw2.frz 3
    rw [hst]
    unfold ax
    generalize AV.sl oid 0 (st.map aI).length=oo at *
    show AV.agg (List.map (frz (B1++X) 3) _)=_
    simp only [List.map_cons,List.map_nil,f1,f2]
    rfl
   rw [hq] at p2
   have re:=fun K d8 d9 d10=>FA (K:=K) (ch:=.undef) (v24:=.undef) (v25:=.undef) (v26:=.undef) (over:=nJ st) p2 fa hM .undef .undef .undef .undef .undef d8 d9 d10
   have rd:∀K,run (ac GS il) 50 (.code MF :: K) (R33 v0 v1 v2 cb rb db v6 v7 ob (ob+1) (ob+2) (.sl cid 0 ps.length) (.ptr B.length 0 0) (.bool true) (.int .i64 (nJ st)) .undef v20 v21 (.bool false) (.bool false) .undef .undef .undef .undef) B1 =
     run (ac GS il) 50 K (R33 v0 v1 v2 cb rb db v6 v7 ob (ob+1) (ob+2) (.sl cid 0 ps.length) (.ptr B.length 0 0) (.bool true) (.int .i64 (nJ st)) .undef v20 v21 (.bool false) (.bool false) (.sl oid 0 (st.map aI).length) (.int .i64 ((st.map aI).length:Int)) (.int .i64 0) .undef) B1:=fun K=>by
    generalize (st.map aI).length=N at *
    unfold rqA at pB1
    simp [MF,pB1]
   have lp:bI (evC (ac GS il) 50 jq) gX 50 (lH (.ptr db 0 0) (.ptr ob 0 0) (.ptr (ob+1) 0 0) (.ptr (ob+2) 0 0) (.ptr B.length 0 0) (.int .i64 (nJ st)) (.sl oid 0 (st.map aI).length) (.int .i64 ((st.map aI).length:Int)) (.int .i64 0)) B1=_:=lp
   have F3:Fr (B1++X) (B1++X++[.row 5 false [.agg [.undef,.undef,.undef,.undef,.undef]]]) []:=Fr.app _ _ _
   have p3:=F3.at p2 (by simp)
   have I3:=I2.keep F3
   have ho3:=ho2.fr F3 (by simp)
   have FA3:Fr A (B1++X++[.row 5 false [.agg [.undef,.undef,.undef,.undef,.undef]]]) []:=(FB1.trans F2 (fun _ h=>h) (fun _ _ h=>h)).trans F3 (fun _ h=>h) (fun _ _ h=>h)
   cases v with
   | false=>
    have es:jQ c e lo hi ns ws s ps=s:=by
     unfold jQ
     rw [hpl]
     refine (if_neg nb4).trans (if_neg fun h=>?_)
     rw [<-hp] at h
     cases hv.2 h
    rw [es]
    refine ⟨_,?_,I3,Fr.sub FA3 (by simp)⟩
    rw [dv,hY]
    generalize B1++X++[Ent.row 5 false [.agg [.undef,.undef,.undef,.undef,.undef]]]=A3 at *
    clear I1 I2 I3 hI fa ho2 ho3
    generalize (st.map aI).length=N at *
    simp [ra,rb',rc,rd,yS lp,re]
   | true=>
    have es:jQ c e lo hi ns ws s ps=some (st,nJ st):=by
     unfold jQ
     rw [hpl]
     refine (if_neg nb4).trans (if_pos ?_)
     rw [<-hp]
     exact hv.1 rfl
    rw [es]
    obtain ⟨y0,f',l',c1,c2,c3,_⟩:=I3.boxes
    generalize B1++X++[Ent.row 5 false [.agg [.undef,.undef,.undef,.undef,.undef]]]=A3 at *
    have l3:ob+2<A3.length:=(List.getElem?_eq_some_iff.1 c3).1
    have c2':(A3.set ob (.row 5 false [ax p (.sl oid 0 (st.map aI).length) wv']))[ob+1]?=some (.row 1 false [.bool f']):=by rw [List.getElem?_set_ne (by omega)]; exact c2
    have c3':((A3.set ob (.row 5 false [ax p (.sl oid 0 (st.map aI).length) wv'])).set (ob+1) (.row 1 false [.bool true]))[ob+2]?=some (.row 1 false [.int .i64 l']):=by rw [List.getElem?_set_ne (by omega),List.getElem?_set_ne (by omega)]; exact c3
    have rf:=fun K d19 d29=>Fz (K:=K) (over:=nJ st) p3 c1 c2' c3' d19 d29
    have e0:(((A3.set ob (.row 5 false [ax p (.sl oid 0 (st.map aI).length) wv'])).set (ob+1) (.row 1 false [.bool true])).set (ob+2) (.row 1 false [.int .i64 (nJ st)]))[ob]?=some (.row 5 false [ax p (.sl oid 0 (st.map aI).length) wv']):=by
     rw [List.getElem?_set_ne (by omega),List.getElem?_set_ne (by omega),List.getElem?_set_self (by omega)]
    have e1:(((A3.set ob (.row 5 false [ax p (.sl oid 0 (st.map aI).length) wv'])).set (ob+1) (.row 1 false [.bool true])).set (ob+2) (.row 1 false [.int .i64 (nJ st)]))[ob+1]?=some (.row 1 false [.bool true]):=by
     rw [List.getElem?_set_ne (by omega),List.getElem?_set_self (by rw [List.length_set]; omega)]
    have e2:(((A3.set ob (.row 5 false [ax p (.sl oid 0 (st.map aI).length) wv'])).set (ob+1) (.row 1 false [.bool true])).set (ob+2) (.row 1 false [.int .i64 (nJ st)]))[ob+2]?=some (.row 1 false [.int .i64 (nJ st)]):=by
     rw [List.getElem?_set_self (by rw [List.length_set,List.length_set]; omega)]
    have F4:Fr A3 (((A3.set ob (.row 5 false [ax p (.sl oid 0 (st.map aI).length) wv'])).set (ob+1) (.row 1 false [.bool true])).set (ob+2) (.row 1 false [.int .i64 (nJ st)])) [ob,ob+1,ob+2]:=
     ((Fr.sub (l':=[ob,ob+1,ob+2]) (Fr.set A3 ob _) (by simp)).trans (Fr.sub (l':=[ob,ob+1,ob+2]) (Fr.set _ (ob+1) _) (by simp)) (fun _ h=>h) (fun _ _ h=>h)).trans (Fr.sub (l':=[ob,ob+1,ob+2]) (Fr.set _ (ob+2) _) (by simp)) (fun _ h=>h) (fun _ _ h=>h)
    have hoid:A.length<=oid:=hoi oid (by simp [aC])
    have ho4:=ho3.fr F4 (fun k hk hmm=>by simp [aC] at hk; subst hk; simp at hmm; omega)
    refine ⟨_,?_,⟨I3.fr.trans F4 (fun _ h=>h) (fun _ _ h=>h),(fun h=>by cases h),fun l over hlo=>?_,lo1⟩,(Fr.sub (l':=[ob,ob+1,ob+2]) FA3 (by simp)).trans F4 (fun _ h=>h) (fun _ _ h=>h)⟩
    ·rw [dv,hY]
     clear I1 I2 I3 hI fa ho2 ho3 F4 ho4 e0 e1 e2
     generalize ((A3.set ob (Ent.row 5 false [ax p (.sl oid 0 (st.map aI).length) wv'])).set (ob+1) (.row 1 false [.bool true])).set (ob+2) (.row 1 false [.int .i64 (nJ st)])=A4 at *
     generalize (st.map aI).length=N at *
     simp [ra,rb',rc,rd,yS lp,re,rf]
    ·injection hlo with hlo
     injection hlo with h1 h2
     subst h1 h2
     exact ⟨.sl oid 0 (st.map aI).length,by rw [hq]; exact e0,e1,e2,ho4,(fun h=>by rw [h] at hm1; cases hm1),fun k hk=>by simp [aC] at hk; subst hk; omega⟩
end Sh
namespace Sh
theorem I33.swap {A8:aa} {X:Ent} {ob:Nat} {e lo hi:Int} {wv':AV} {s:wi} {A:aa} (h:I33 (A8++[X]) ob e lo hi wv' s A) (hob:ob+2<A8.length) (Y:Ent):I33 (A8++[Y]) ob e lo hi wv' s (A.set A8.length Y):=by
 have hl:A8.length+1<=A.length:=by have:=h.fr.1; simpa using this
 have keep:∀j,j≠A8.length->(A.set A8.length Y)[j]?=A[j]?:=fun j hj=>List.getElem?_set_ne (by omega)
 refine ⟨⟨by simpa using hl,fun j hj hm=>?_⟩,fun hs=>?_,fun l over hs=>?_,by simp; omega⟩
 ·by_cases hj':j=A8.length
  ·subst hj'
   rw [List.getElem?_set_self (by omega)]
   simp
  ·have hj2:j<A8.length:=by simp at hj; omega
   rw [keep j hj',h.fr.2 j (by simp; omega) hm,List.getElem?_append_left hj2,List.getElem?_append_left hj2]
 ·obtain ⟨h1,h2,h3⟩:=h.n hs
  exact ⟨by rw [keep _ (by omega)]; exact h1,by rw [keep _ (by omega)]; exact h2,by rw [keep _ (by omega)]; exact h3⟩
 ·obtain ⟨o,h1,h2,h3,h4,h5,h6⟩:=h.s l over hs
  refine ⟨o,by rw [keep _ (by omega)]; exact h1,by rw [keep _ (by omega)]; exact h2,by rw [keep _ (by omega)]; exact h3,h4.fr (Fr.set A A8.length Y) (fun k hk hm=>?_),h5,fun k hk=>by have:=h6 k hk; simpa using this⟩
  have:=h6 k hk
  simp at hm this
  omega
def Lz (n0:Nat) (σ:List AV) (x:Nat × Loop):aE:=cR n0 x.1 x.2 σ [21] (evC (ac GS il) 50 n7) (evC (ac GS il) 50 n6) (fun _ _ _=>none)
def Q33 (ns:List fP) (ps:List (Int × Int)):Prop:=ps.length=ns.length/\∀q∈ps,(0<=q.1/\q.1<60)/\(0<=q.2/\q.2<60)
theorem yc33 {A8:aa} {cb rb db ob id:Nat} {cells0 L:List AV} {c:Cal} {nv wv wv':AV} {e lo hi:Int} {ns:List fP} {ws:List Win} (v0 v1 v2 v6 v7 v20:AV) (x:Nat × Loop)
  (hob:ob+2<A8.length) (hcb:A8[cb]?=some (.row 1 false [.ptr id 0 0])) (hrb:A8[rb]?=some (.row 5 false [rqA e lo hi nv wv])) (hdb:A8[db]?=some (.row 1 false [.nilM])) (hlt:cb<ob/\rb<ob/\db<ob)
  (hc:cz A8 id cells0 c) (hid:id<ob) (hids:∀k∈fQ cells0,k<ob) (hf:dj c) (hl:∀u,(c u).length<=780)
  (hL:SlA 3 L nv) (hN:eS ns L) (hns:1<=ns.length/\ns.length<=4)
  (hmx:∀n∈ns,1<=n.mx/\n.mx<=10000) (hhi:0<=hi/\hi<=10000) (he:0<=e/\e<=3000000) (hw:SlA 3 (ws.map bi) wv) (hwl:ws.length<=1000) (hm:wk [wv]=some wv') :
  YC (Lz A8.length (R33 v0 v1 v2 cb rb db v6 v7 ob (ob+1) (ob+2) .undef .undef .undef .undef .undef v20 .undef .undef .undef .undef .undef .undef .undef) x) (yv x) (I33 (A8++[.loop x.2 0]) ob e lo hi wv') (jQ c e lo hi ns ws) [ob,ob+1,ob+2] (Q33 ns):=by
 refine ⟨⟨x.1,rfl⟩,fun s A cid ps hI hQ hcid hcW=>?_,fun s A X hI=>hI.keep (Fr.app A X []),fun s A hI k hk=>?_⟩
 ·have nW:∀j,j<ob->j ∉ [ob,ob+1,ob+2]:=fun j hj hm=>by simp at hm; omega
  have F8:=Fr.app A8 [Ent.dead] []
  have hI0:=hI.swap hob .dead
  have n0W:A8.length ∉ [ob,ob+1,ob+2]:=fun hm=>by simp at hm; omega
  have g0:A[A8.length]?=some (.loop x.2 0):=by rw [hI.fr.2 A8.length (by simp) n0W]; simp
  have lA:A8.length<A.length:=(List.getElem?_eq_some_iff.1 g0).1
  have cne:A8.length≠cid:=fun e=>by rw [e,hcid] at g0; cases g0
  have hcid0:(A.set A8.length .dead)[cid]?=some (.row 2 false (ps.map cg)):=by rw [List.getElem?_set_ne cne]; exact hcid
  obtain ⟨B,hB,hIB,FB⟩:=IE v0 v1 v2 v6 v7 v20 (.sl cid 0 ps.length) hI0 (F8.at hcb (by simp)) (F8.at hrb (by simp)) (F8.at hdb (by simp)) hlt (hc.fr F8 (by simp) (by simp)) hid hids hf hl hL hN hns hQ.1 hcid0 hQ.2 hmx hhi he hw hwl hm
  refine ⟨B.set A8.length (.loop x.2 0),?_,hIB.swap hob _,?_⟩
  ·have sA:fF (R33 v0 v1 v2 cb rb db v6 v7 ob (ob+1) (ob+2) .undef .undef .undef .undef .undef v20 .undef .undef .undef .undef .undef .undef .undef) [21] [.sl cid 0 ps.length]=some (R33 v0 v1 v2 cb rb db v6 v7 ob (ob+1) (ob+2) .undef .undef .undef .undef .undef v20 (.sl cid 0 ps.length) .undef .undef .undef .undef .undef .undef):=rfl
   have asg:evC (ac GS il) 50 n7 (R33 v0 v1 v2 cb rb db v6 v7 ob (ob+1) (ob+2) .undef .undef .undef .undef .undef v20 (.sl cid 0 ps.length) .undef .undef .undef .undef .undef .undef) A=some (.normal (R33 v0 v1 v2 cb rb db v6 v7 ob (ob+1) (ob+2) (.sl cid 0 ps.length) .undef .undef .undef .undef v20 (.sl cid 0 ps.length) .undef .undef .undef .undef .undef .undef) A):=by
    rw [dv]
    simp [n7]
   exact gU g0 sA asg g0 hB
  ·refine ⟨by rw [List.length_set]; have:=FB.1; rw [List.length_set] at this; exact this,fun j hj hm=>?_⟩
   by_cases hj':j=A8.length
   ·subst hj'
    rw [List.getElem?_set_self (by have:=FB.1; rw [List.length_set] at this; omega),g0]
   ·rw [List.getElem?_set_ne (by omega),FB.2 j (by rw [List.length_set]; exact hj) hm,List.getElem?_set_ne (by omega)]
 ·have:=hI.lo
  have:=hI.fr.1
  simp at hk
  omega
end Sh
namespace Sh
def fN (A8:aa) (X:Ent) (ob:Nat) (e lo hi:Int) (wv':AV):wi->aa
 | none=>A8++[X,.dead]
 | some (st,over)=>((A8.set ob (.row 5 false [rqA e lo hi (.sl (A8.length+1) 0 (st.map aI).length) wv'])).set (ob+1) (.row 1 false [.bool true])).set (ob+2) (.row 1 false [.int .i64 over])++[X,.row 6 false (st.map aI)]
theorem F7 {A8:aa} {X:Ent} {ob:Nat} {e lo hi:Int} {wv':AV} {ws:List Win} {s:wi} {B:aa} (h:I33 (A8++[X]) ob e lo hi wv' s B) (hob:ob+4=A8.length) (z1:A8[ob]?=some bO) (z2:A8[ob+1]?=some (.row 1 false [.bool false])) (z3:A8[ob+2]?=some (.row 1 false [.int .i64 0])) (hw:SlA 3 (ws.map bi) wv') :
  xc (A8++[X]) B=some (fN A8 X ob e lo hi wv' s):=by
 have hlen:(A8++[X]).length=A8.length+1:=by simp
 have hlB:(A8++[X]).length<=B.length:=h.fr.1
 have e5:(A8++[X]).length-5=ob:=by rw [hlen]; omega
 have old:∀j,j<(A8++[X]).length->j ∉ [ob,ob+1,ob+2]->B[j]?=(A8++[X])[j]?:=h.fr.2
 have tk:∀j,j<(A8++[X]).length->(B.take (A8++[X]).length)[j]?=B[j]?:=fun j hj=>List.getElem?_take_of_lt hj
 have a1:(A8++[X])[ob]?=some bO:=by rw [List.getElem?_append_left (by omega)]; exact z1
 have a2:(A8++[X])[ob+1]?=some (.row 1 false [.bool false]):=by rw [List.getElem?_append_left (by omega)]; exact z2
 have a3:(A8++[X])[ob+2]?=some (.row 1 false [.int .i64 0]):=by rw [List.getElem?_append_left (by omega)]; exact z3
 unfold xc
 rw [e5]
 cases hs:s with
 | none=>
  obtain ⟨h1,h2,h3⟩:=h.n hs
  have same:∀j,j<(A8++[X]).length->B[j]?=(A8++[X])[j]?:=fun j hj=>by
   by_cases hm:j∈[ob,ob+1,ob+2]
   ·simp at hm
    rcases hm with rfl | rfl | rfl
    ·rw [h1,a1]
    ·rw [h2,a2]
    ·rw [h3,a3]
   ·exact old j hj hm
  have eT:B.take (A8++[X]).length=A8++[X]:=by
   apply List.ext_getElem?
   intro j
   by_cases hj:j<(A8++[X]).length
   ·rw [tk j hj,same j hj]
   ·rw [List.getElem?_eq_none (by rw [List.length_take]; omega),List.getElem?_eq_none (by omega)]
  rw [h1,eT]
  unfold bO
  simp only
  rw [if_pos]
  ·simp [fN]
  ·exact ⟨rfl,hlB,fun j hj=>.inl ⟨same j hj,rfl⟩,hlB,.inl ⟨rfl,Nat.le_refl _⟩⟩
 | some q=>
  obtain ⟨st,over⟩:=q
  obtain ⟨o,h1,h2,h3,h4,h5,h6⟩:=h.s st over hs
  rcases h4 with ⟨_,h0⟩ | ⟨_,id0,rfl,h7⟩
  ·exact absurd (List.map_eq_nil_iff.1 h0) h5
  have hid0:(A8++[X]).length<=id0:=h6 id0 (by simp [aC])
  obtain ⟨L,hL⟩:∃L,L=(B.take (A8++[X]).length).set ob (.row 5 false [rqA e lo hi (.sl (A8++[X]).length 0 (st.map aI).length) wv']):=⟨_,rfl⟩
  have lL:L.length=(A8++[X]).length:=by rw [hL,List.length_set,List.length_take]; omega
  have L0:L[ob]?=some (.row 5 false [rqA e lo hi (.sl (A8++[X]).length 0 (st.map aI).length) wv']):=by
   rw [hL,List.getElem?_set_self (by rw [List.length_take]; omega)]
  have Lj:∀j,j<(A8++[X]).length->j≠ob->L[j]?=B[j]?:=fun j hj hne=>by
   rw [hL,List.getElem?_set_ne (by omega),tk j hj]
  have cut:vX (A8++[X]) B L id0 (.row 6 false (st.map aI)):=by
   refine ⟨lL,hlB,fun j hj=>?_,hid0,.inr ⟨h7,_,_,rfl,fun x hx=>?_⟩⟩
   ·by_cases hm:j∈[ob,ob+1,ob+2]
    ·simp at hm
     rcases hm with rfl | rfl | rfl
     ·exact .inr ⟨5,_,_,_,a1,h1,L0,D4 hw e lo hi _ _ _ _⟩
     ·exact .inr ⟨1,_,_,_,a2,h2,(Lj _ hj (by omega)).trans h2,qn (m:=0) rfl _ _⟩
     ·exact .inr ⟨1,_,_,_,a3,h3,(Lj _ hj (by omega)).trans h3,qn (m:=0) rfl _ _⟩
    ·have:=old j hj hm
     exact .inl ⟨this,(Lj j hj (fun e=>hm (by simp [e]))).trans this⟩
   ·obtain ⟨y,_,rfl⟩:=List.mem_map.1 hx
    rfl
  have fin:L++[.row 6 false (st.map aI)]=fN A8 X ob e lo hi wv' (some (st,over)):=by
   have:L=((A8.set ob (.row 5 false [rqA e lo hi (.sl (A8.length+1) 0 (st.map aI).length) wv'])).set (ob+1) (.row 1 false [.bool true])).set (ob+2) (.row 1 false [.int .i64 over])++[X]:=by
    apply List.ext_getElem?
    intro j
    by_cases hj:j<(A8++[X]).length
    ·by_cases hm:j∈[ob,ob+1,ob+2]
     ·simp at hm
      rcases hm with rfl | rfl | rfl
      ·rw [L0,List.getElem?_append_left (by simp; omega),List.getElem?_set_ne (by omega),List.getElem?_set_ne (by omega),List.getElem?_set_self (by omega),hlen]
      ·rw [Lj _ hj (by omega),h2,List.getElem?_append_left (by simp; omega),List.getElem?_set_ne (by omega),List.getElem?_set_self (by simp; omega)]
      ·rw [Lj _ hj (by omega),h3,List.getElem?_append_left (by simp; omega),List.getElem?_set_self (by simp; omega)]
     ·have n3:j≠ob/\j≠ob+1/\j≠ob+2:=by simpa using hm
      rw [Lj j hj n3.1,old j hj hm]
      by_cases hj8:j<A8.length
      ·rw [List.getElem?_append_left hj8,List.getElem?_append_left (by simp; omega),List.getElem?_set_ne (by omega),List.getElem?_set_ne (by omega),List.getElem?_set_ne (by omega)]
      ·obtain rfl:j=A8.length:=by omega
       rw [List.getElem?_append_right (by omega),List.getElem?_append_right (by simp)]
       simp
    ·rw [List.getElem?_eq_none (by omega),List.getElem?_eq_none (by simp; omega)]
   rw [this]
   simp [fN]
  rw [h1]
  unfold rqA at hL fin ⊢
  simp only [h7]
  rw [<-hL,if_pos cut,fin]
end Sh
namespace Sh
def H33:aB:=fun _=>bN (ac GS il) 50 JS
theorem Fc:au Tryz.prog GS 33 H33:=(aG (E:=ac GS il) (ai (ag (au.of_pure tP 4) (ag EV (ag EU (ag (au.of_pure yq 4) (ag Ad an)))))) rfl at33 Iq aU.nil).y
def iY (c:Cal) (e lo hi:Int) (ns:List fP) (ws:List Win):wi:=mC (jQ c e lo hi ns ws) (ns.map (·.tools)) [] none
theorem mA {α β:Type} {f:β->α->β} {J:β->Prop}:∀ {l:List α} {s:β},(∀s x,x∈l->J s->J (f s x))->J s->J (l.foldl f s)
 | [],_,_,h=>h
 | x :: r,_,hf,h=>mA (l:=r) (fun s y hy=>hf s y (List.mem_cons_of_mem _ hy)) (hf _ x (by simp) h)
theorem pT {β:Type} {stp:β->List (Int × Int)->β} {n:Nat} {R:Int->Prop} {J:β->Prop} (hJ:∀s ps,ps.length=n->(∀q∈ps,R q.1/\R q.2)->J s->J (stp s ps)):∀(r:List (List Int)) (ps:List (Int × Int)) (s:β),ps.length+r.length=n->(∀ts∈r,∀t∈ts,R t)->(∀q∈ps,R q.1/\R q.2)->J s->J (mC stp r ps s)
 | [],ps,s,hl,_,hp,hs=>hJ s ps (by simpa using hl) hp hs
 | ts :: r,ps,s,hl,hr,hp,hs=>mA (fun s a ha hs=>mA (fun s b hb hs=>by
   split
   ·exact hs
   ·refine pT hJ r _ s (by simp at hl ⊢; omega) (fun t ht=>hr t (List.mem_cons_of_mem _ ht)) (fun q hq=>?_) hs
    rcases List.mem_append.1 hq with hq | hq
    ·exact hp q hq
    ·rw [List.mem_singleton] at hq
     subst hq
     exact ⟨hr ts (by simp) a ha,hr ts (by simp) b hb⟩) hs) hs
theorem vD {c:Cal} {e lo hi over:Int} {ns:List fP} {ws:List Win} {st:List Stg} (hR:∀n∈ns,∀t∈n.tools,0<=t/\t<60) (h:iY c e lo hi ns ws=some (st,over)):∃ps d,Q33 ns ps/\cd hi c e (dF ns ps)=some (d,st)/\vJ ⟨e,lo,hi,st,ws⟩:=by
 have:=pT (stp:=jQ c e lo hi ns ws) (n:=ns.length) (R:=fun t=>0<=t/\t<60) (J:=fun s=>∀st over,s=some (st,over)->∃ps d,Q33 ns ps/\cd hi c e (dF ns ps)=some (d,st)/\vJ ⟨e,lo,hi,st,ws⟩) (fun s ps h1 h2 hs st over he=>by
  unfold jQ at he
  split at he
  ·exact hs st over he
  ·rename_i d st' hp
   split at he
   ·exact hs st over he
   ·split at he
    ·rename_i hsafe
     injection he with he
     injection he with e1 e2
     subst e1
     exact ⟨ps,d,⟨h1,h2⟩,hp,hsafe⟩
    ·exact hs st over he) (ns.map (·.tools)) [] none (by simp) (fun ts hts t ht=>by
  obtain ⟨n,hn,rfl⟩:=List.mem_map.1 hts
  exact hR n hn t ht) (fun q hq=>by cases hq) (fun _ _ h=>by cases h)
 exact this st over h
def dw (id:Nat) (rq nv:AV):aa:=[.row 1 false [.ptr id 0 0],.row 5 false [rq],.row 1 false [.nilM],bO,bO,.row 1 false [.bool false],.row 1 false [.int .i64 0],.row 1 false [nv]]
section
variable {A:aa} {id:Nat} {cells0 L:List AV} {c:Cal} {nv wv wv':AV} {e lo hi:Int} {ns:List fP} {ws:List Win}
theorem B0 (hc:cz A id cells0 c) (hf:dj c) (hl:∀u,(c u).length<=780)
  (hL:SlA 3 L nv) (hN:eS ns L) (hns:1<=ns.length/\ns.length<=4) (htl:∀n∈ns,n.tools.length<=3) (hR:∀n∈ns,∀t∈n.tools,0<=t/\t<60)
  (hmx:∀n∈ns,1<=n.mx/\n.mx<=10000) (hhi:0<=hi/\hi<=10000) (he:0<=e/\e<=3000000) (hw:SlA 3 (ws.map bi) wv) (hwl:ws.length<=1000) (hm:wk [wv]=some wv') (hw':SlA 3 (ws.map bi) wv') (v0 v1 v2 v6 v7:AV) (k:List KC) :
  run (ac GS il) 50 (.code (.rangeFunc (.var 20) [21] n7 n6) :: k) (R33 v0 v1 v2 A.length (A.length+1) (A.length+2) v6 v7 (A.length+4) (A.length+4+1) (A.length+4+2) .undef .undef .undef .undef .undef (.func (.func 139) [] [.ptr (A.length+7) 0 0]) .undef .undef .undef .undef .undef .undef .undef) (A++dw id (rqA e lo hi nv wv) nv) =
   after (ac GS il) 50 k (.normal (R33 v0 v1 v2 A.length (A.length+1) (A.length+2) v6 v7 (A.length+4) (A.length+4+1) (A.length+4+2) .undef .undef .undef .undef .undef (.func (.func 139) [] [.ptr (A.length+7) 0 0]) .undef .undef .undef .undef .undef .undef .undef) (fN (A++dw id (rqA e lo hi nv wv) nv) .dead (A.length+4) e lo hi wv' (iY c e lo hi ns ws))):=by
 obtain ⟨A8,hA8⟩:∃A8,A8=A++dw id (rqA e lo hi nv wv) nv:=⟨_,rfl⟩
 have l8:A8.length=A.length+8:=by rw [hA8]; simp [dw]
 have bx:∀i,i<8->A8[A.length+i]?=(dw id (rqA e lo hi nv wv) nv)[i]?:=fun i hi=>by
  rw [hA8,List.getElem?_append_right (by omega)]
  congr 1
  omega
 have b0:A8[A.length]?=some (.row 1 false [.ptr id 0 0]):=bx 0 (by omega)
 have b1:A8[A.length+1]?=some (.row 5 false [rqA e lo hi nv wv]):=bx 1 (by omega)
 have b2:A8[A.length+2]?=some (.row 1 false [.nilM]):=bx 2 (by omega)
 have b4:A8[A.length+4]?=some bO:=bx 4 (by omega)
 have b5:A8[A.length+4+1]?=some (.row 1 false [.bool false]):=bx 5 (by omega)
 have b6:A8[A.length+4+2]?=some (.row 1 false [.int .i64 0]):=bx 6 (by omega)
 have b7:A8[A.length+7]?=some (.row 1 false [nv]):=bx 7 (by omega)
 have F8:Fr A A8 []:=by rw [hA8]; exact Fr.app _ _ _
 have lowc:=hZ hc
 have lid:=(List.getElem?_eq_some_iff.1 hc.row).1
 rw [<-hA8]
 refine cY _ _ _ _ _ fun l r=>?_
 have hy:=yc33 (A8:=A8) v0 v1 v2 v6 v7 (.func (.func 139) [] [.ptr (A.length+7) 0 0]) (l,r) (ob:=A.length+4) (by omega) b0 b1 b2 ⟨by omega,by omega,by omega⟩ (hc.fr F8 (by simp) (by simp)) (by omega) (fun k hk=>by have:=lowc k hk; omega) hf hl hL hN hns hmx hhi he hw hwl hm
 have F9:=Fr.app A8 [Ent.loop r 0] []
 have hI0:I33 (A8++[.loop r 0]) (A.length+4) e lo hi wv' none (A8++[.loop r 0]):=⟨Fr.refl _ _,fun _=>⟨F9.at b4 (by simp),F9.at b5 (by simp),F9.at b6 (by simp)⟩,fun _ _ h=>by (cases h),by simp; omega⟩
 obtain ⟨B,q1,q2,q3⟩:=HQ hy hL hN hns htl (R:=fun t=>0<=t/\t<60) hR (fun ps h1 h2=>⟨h1,h2⟩) hI0 (F9.at b7 (by simp)) (by simp)
 have nm:=F7 q2 (by omega) b4 b5 b6 hw'
 have q139:Ju (Lz A8.length (R33 v0 v1 v2 A.length (A.length+1) (A.length+2) v6 v7 (A.length+4) (A.length+4+1) (A.length+4+2) .undef .undef .undef .undef .undef (.func (.func 139) [] [.ptr (A.length+7) 0 0]) .undef .undef .undef .undef .undef .undef .undef) (l,r)) [.func (.yield l) [] [],.ptr (A.length+7) 0 0] (A8++[.loop r 0])=some (.tup [],fN A8 (.loop r 0) (A.length+4) e lo hi wv' (iY c e lo hi ns ws)):=by
  have q1:vR (Lz A8.length (R33 v0 v1 v2 A.length (A.length+1) (A.length+2) v6 v7 (A.length+4) (A.length+4+1) (A.length+4+2) .undef .undef .undef .undef .undef (.func (.func 139) [] [.ptr (A.length+7) 0 0]) .undef .undef .undef .undef .undef .undef .undef) (l,r)) [.func (.yield l) [] [],.ptr (A.length+7) 0 0] (A8++[.loop r 0])=some (.tup [],B):=q1
  unfold Ju
  rw [q1]
  simp only
  rw [nm]
  rfl
 have hcall:(ac GS il).callY (cR A8.length l r (R33 v0 v1 v2 A.length (A.length+1) (A.length+2) v6 v7 (A.length+4) (A.length+4+1) (A.length+4+2) .undef .undef .undef .undef .undef (.func (.func 139) [] [.ptr (A.length+7) 0 0]) .undef .undef .undef .undef .undef .undef .undef) [21] (evC (ac GS il) 50 n7) (evC (ac GS il) 50 n6) (ac GS il).hand) (evX (ac GS il) (R33 v0 v1 v2 A.length (A.length+1) (A.length+2) v6 v7 (A.length+4) (A.length+4+1) (A.length+4+2) .undef .undef .undef .undef .undef (.func (.func 139) [] [.ptr (A.length+7) 0 0]) .undef .undef .undef .undef .undef .undef .undef) [] (.var 20)) [.func (.yield l) [] []] (A8++[Ent.loop r 0])=some (.tup [],fN A8 (.loop r 0) (A.length+4) e lo hi wv' (iY c e lo hi ns ws)):=q139
 rw [hcall]
 have g:(fN A8 (.loop r 0) (A.length+4) e lo hi wv' (iY c e lo hi ns ws))[A8.length]?=some (.loop r 0):=by
  cases iY c e lo hi ns ws with
  | none=>simp [fN]
  | some q=>simp [fN]
 have g2:(fN A8 (.loop r 0) (A.length+4) e lo hi wv' (iY c e lo hi ns ws)).set A8.length .dead=fN A8 .dead (A.length+4) e lo hi wv' (iY c e lo hi ns ws):=by
  cases iY c e lo hi ns ws with
  | none=>simp [fN]
  | some q=>simp [fN]
 simp only [fJ,g]
 rw [if_pos trivial,g2]
theorem ev33 (h:aE) (hc:cz A id cells0 c) (hf:dj c) (hl:∀u,(c u).length<=780)
  (hL:SlA 3 L nv) (hN:eS ns L) (hns:1<=ns.length/\ns.length<=4) (htl:∀n∈ns,n.tools.length<=3) (hR:∀n∈ns,∀t∈n.tools,0<=t/\t<60)
  (hmx:∀n∈ns,1<=n.mx/\n.mx<=10000) (hhi:0<=hi/\hi<=10000) (he:0<=e/\e<=3000000) (hw:SlA 3 (ws.map bi) wv) (hwl:ws.length<=1000) :
  (iY c e lo hi ns ws=none/\∃B,H33 h [.ptr id 0 0,rqA e lo hi nv wv,.nilM] A=some (.tup [rqA 0 0 0 .nilS .nilS,.bool false],B)/\Fr A B []) \/
  ∃st over B o wv',iY c e lo hi ns ws=some (st,over)/\H33 h [.ptr id 0 0,rqA e lo hi nv wv,.nilM] A=some (.tup [rqA e lo hi o wv',.bool true],B)/\Fr A B []/\bY B o 6 (st.map aI)/\(∀k∈aC o,A.length<=k)/\SlA 3 (ws.map bi) wv':=by
 obtain ⟨wv',hm,hw'⟩:=vO hw hwl
 have lp:=B0 (lo:=lo) hc hf hl hL hN hns htl hR hmx hhi he hw hwl hm hw' (.ptr id 0 0) (rqA e lo hi nv wv) .nilM (.ptr (A.length+3) 0 0) (.bool false)
 have F8:Fr A (A++dw id (rqA e lo hi nv wv) nv) []:=Fr.app _ _ _
 have e83:=ev83 (fun _ _ _=>none) hL (A++[.row 1 false [.ptr id 0 0],.row 5 false [rqA e lo hi nv wv],.row 1 false [.nilM],bO,bO,.row 1 false [.bool false],.row 1 false [.int .i64 0]])
 have eA:A++[.row 1 false [.ptr id 0 0],.row 5 false [rqA e lo hi nv wv],.row 1 false [.nilM],bO,bO,.row 1 false [.bool false],.row 1 false [.int .i64 0]]++[.row 1 false [nv]]=A++dw id (rqA e lo hi nv wv) nv:=by simp [dw]
 rw [eA] at e83
 have e7:(A++[.row 1 false [.ptr id 0 0],.row 5 false [rqA e lo hi nv wv],.row 1 false [.nilM],bO,bO,.row 1 false [.bool false],.row 1 false [.int .i64 0]]).length=A.length+7:=by simp
 rw [e7] at e83
 have hld:ba nv 1 0 false 1=some nv:=by rcases hL with ⟨rfl,_⟩ | rfl <;> rfl
 have n1:∀i,i<8->(A++dw id (rqA e lo hi nv wv) nv)[A.length+i]?=(dw id (rqA e lo hi nv wv) nv)[i]?:=fun i hi=>by
  rw [List.getElem?_append_right (by omega)]
  congr 1
  omega
 have l8:(A++dw id (rqA e lo hi nv wv) nv).length=A.length+8:=by simp [dw]
 generalize hA8:A++dw id (rqA e lo hi nv wv) nv=A8 at *
 cases hb:iY c e lo hi ns ws with
 | none=>
  rw [hb] at lp
  have F9:Fr A8 (fN A8 .dead (A.length+4) e lo hi wv' none) []:=Fr.app _ _ _
  have z3:=F9.at (n1 3 (by omega)) (by simp)
  have z4:=F9.at (n1 4 (by omega)) (by simp)
  have z5:=F9.at (n1 5 (by omega)) (by simp)
  have l9:A8.length<=(fN A8 .dead (A.length+4) e lo hi wv' none).length:=F9.1
  generalize fN A8 .dead (A.length+4) e lo hi wv' none=B at *
  have hset:(B.set (A.length+3) bO)[A.length+3]?=some bO:=List.getElem?_set_self (by omega)
  refine .inl ⟨rfl,B.set (A.length+3) bO,?_,(F8.trans F9 (fun _ h=>h) (fun _ _ h=>h)).trans (Fr.set B _ _) (fun _ h=>h) (fun j hj hm=>by simp at hm; omega)⟩
  have z3:B[A.length+3]?=some bO:=z3
  have z4:B[A.length+4]?=some bO:=z4
  have z5:B[A.length+5]?=some (.row 1 false [.bool false]):=z5
  unfold H33
  rw [aH _ _ rfl]
  clear F8 F9 n1 hA8 eA
  unfold bO rqA at *
  simp [JS,e83,lp,z3,z4,z5,hset,az]
 | some q=>
  obtain ⟨st,over⟩:=q
  rw [hb] at lp
  obtain ⟨ps,d,hQ,hpl,_⟩:=vD hR hb
  have hst:st≠[]:=fun h=>by
   have h1:=jb hpl
   have h2:(dF ns ps).length=ns.length:=by simp [dF,hQ.1]
   rw [h] at h1
   simp at h1
   omega
  obtain ⟨M,hM⟩:∃M,M=((A8.set (A.length+4) (.row 5 false [rqA e lo hi (.sl (A8.length+1) 0 (st.map aI).length) wv'])).set (A.length+4+1) (.row 1 false [.bool true])).set (A.length+4+2) (.row 1 false [.int .i64 over]):=⟨_,rfl⟩
  have lM:M.length=A8.length:=by rw [hM]; simp
  have hfin:fN A8 .dead (A.length+4) e lo hi wv' (some (st,over))=M++[.dead,.row 6 false (st.map aI)]:=by rw [hM]; rfl
  rw [hfin] at lp
  have FM:Fr A8 M [A.length+4,A.length+5,A.length+6]:=by
   rw [hM]
   exact ((Fr.sub (l':=[A.length+4,A.length+5,A.length+6]) (Fr.set A8 _ _) (by simp)).trans (Fr.sub (l':=[A.length+4,A.length+5,A.length+6]) (Fr.set _ _ _) (by simp)) (fun _ h=>h) (fun _ _ h=>h)).trans (Fr.sub (l':=[A.length+4,A.length+5,A.length+6]) (Fr.set _ _ _) (by simp)) (fun _ h=>h) (fun _ _ h=>h)
  have F9:Fr A8 (M++[.dead,.row 6 false (st.map aI)]) [A.length+4,A.length+5,A.length+6]:=FM.trans (Fr.app _ _ []) (fun _ h=>h) (fun _ _ h=>by cases h)
  have z3:(M++[.dead,.row 6 false (st.map aI)])[A.length+3]?=some bO:=F9.at (n1 3 (by omega)) (by simp)
  have z4:(M++[.dead,.row 6 false (st.map aI)])[A.length+4]?=some (.row 5 false [rqA e lo hi (.sl (A8.length+1) 0 (st.map aI).length) wv']):=by
   rw [List.getElem?_append_left (by omega),hM,List.getElem?_set_ne (by omega),List.getElem?_set_ne (by omega),List.getElem?_set_self (by omega)]
  have z5:(M++[.dead,.row 6 false (st.map aI)])[A.length+5]?=some (.row 1 false [.bool true]):=by
   rw [List.getElem?_append_left (by omega),hM,List.getElem?_set_ne (by omega),List.getElem?_set_self (by simp; omega)]
  have zo:(M++[.dead,.row 6 false (st.map aI)])[A8.length+1]?=some (.row 6 false (st.map aI)):=by
   rw [List.getElem?_append_right (by omega),lM,show A8.length+1-A8.length=1 by omega]; rfl
  have l9:A8.length+1<(M++[Ent.dead,Ent.row 6 false (st.map aI)]).length:=(List.getElem?_eq_some_iff.1 zo).1
  have F10:Fr A (M++[.dead,.row 6 false (st.map aI)]) []:=F8.trans F9 (fun _ h=>h) (fun j hj hm=>by simp at hm; omega)
  generalize M++[Ent.dead,.row 6 false (st.map aI)]=B at *
  have hset:(B.set (A.length+3) (.row 5 false [rqA e lo hi (.sl (A8.length+1) 0 (st.map aI).length) wv']))[A.length+3]?=some (.row 5 false [rqA e lo hi (.sl (A8.length+1) 0 (st.map aI).length) wv']):=List.getElem?_set_self (by omega)
  refine .inr ⟨st,over,B.set (A.length+3) (.row 5 false [rqA e lo hi (.sl (A8.length+1) 0 (st.map aI).length) wv']),.sl (A8.length+1) 0 (st.map aI).length,wv',rfl,?_,F10.trans (Fr.set B _ _) (fun _ h=>h) (fun j hj hm=>by simp at hm; omega),.inr ⟨fun h=>hst (List.map_eq_nil_iff.1 h),A8.length+1,rfl,by rw [List.getElem?_set_ne (by omega)]; exact zo⟩,fun k hk=>by simp [aC] at hk; omega,hw'⟩
  unfold H33
  rw [aH _ _ rfl]
  clear F8 F9 F10 FM hM n1 hA8 eA l9 zo lM hfin
  generalize (st.map aI).length=N at *
  generalize A8.length+1=oid at *
  unfold bO rqA at *
  simp [JS,e83,lp,z3,z4,z5,hset,az]
end
end Sh
namespace Sh
def M81:aN:=fun args=>evP (ac GS []) 0 K2 1 args
theorem EX:ak Tryz.prog GS 81 M81:=ak.of_ev (E:=ac GS []) (ai an) rfl at81 H9 1 fun _ _ h=>⟨0,h⟩
theorem jL {x a b:Int} (h:a<=x/\x<=b):M81 [.int .i64 x,.int .i64 a,.int .i64 b]=some (.bool true):=by
 have b1:=j4 a x
 have b2:=j4 x b
 rw [decide_eq_true h.1] at b1
 rw [decide_eq_true h.2] at b2
 unfold M81
 rw [aZ _ _ rfl]
 simp [K2,b1,b2,-aj]
def M82:aN:=fun args=>evP (ac GS []) 0 JQ 1 args
theorem EW:ak Tryz.prog GS 82 M82:=ak.of_ev (E:=ac GS []) (ai an) rfl at82 H6 1 fun _ _ h=>⟨0,h⟩
theorem Z4 {v w:Win} (h:dL v w):M82 [bi v,bi w]=some (.bool true):=by
 have b1:=di v.f w.f
 have b2:=mK v.f w.f
 have b3:=di v.t w.t
 unfold M82
 rw [aZ _ _ rfl]
 unfold dL at h
 unfold bi
 by_cases h1:v.f<w.f
 ·rw [decide_eq_true h1] at b1
  simp [JQ,b1,-aj]
 ·rw [decide_eq_false h1] at b1
  have h2:v.f=w.f:=by omega
  have h3:v.t<w.t:=by omega
  rw [decide_eq_true h2] at b2
  rw [decide_eq_true h3] at b3
  simp [JQ,b1,b2,b3,-aj]
def sR:List (FuncId × aB):=[(81,aK 4 M81),(82,aK 4 M82)]
@[simp] theorem LY:aR sR 81=some (aK 4 M81):=rfl
@[simp] theorem LX:aR sR 82=some (aK 4 M82):=rfl
def nu:AV:=.func (.func 81) [] []
def pi (T:List Int):Prop:=(2<=T.length/\T.length<=3)/\∀(j:Nat) (t:Int),T[j]?=some t->(0<=t/\t<=59)/\∀k u,j=k+1->T[k]?=some u->u<t
theorem wR {A:aa} {v1 v3 v11 v12 v13 tv:AV} {bx j:Nat} {mn mx t:Int} {T:List Int} (hb:A[bx]?=some (.row 3 false [bD tv mn mx])) (hT:SlA 1 (T.map (.int .i64)) tv) (hok:pi T) (ht:T[j]?=some t) :
  run (ac GS sR) 50 [.code js] (lK v1 v3 nu (.ptr bx 0 0) v11 v12 v13 tv (.int .i64 (T.length:Int)) (.int .i64 (j:Int))) A =
   some (.normal (lK v1 v3 nu (.ptr bx 0 0) v11 v12 v13 tv (.int .i64 (T.length:Int)) (.int .i64 ((j+1:Nat):Int))) A):=by
 have hj:j<T.length:=(List.getElem?_eq_some_iff.1 ht).1
 have hl:=hok.1
 obtain ⟨ok1,ok2⟩:=hok.2 j t ht
 have b1:=bK j T.length .i64
 rw [decide_eq_true hj] at b1
 have b3:=aY j (by omega)
 have x1:∀A,ae 1 A tv (.int .i64 (j:Int))=some (.fp [.int .i64 t]):=fun A=>hT.int (A:=A) T .i64 ht .i64
 have m:=jL (x:=t) (a:=0) (b:=59) ok1
 cases j with
 | zero=>
  have b4:aj .gtr (.int .i64 ((0:Nat):Int)) (.int .i64 0)=some (.bool false):=by simp [aj]
  unfold nu
  generalize ((0+1:Nat):Int)=J1 at *
  generalize (T.length:Int)=N at *
  generalize ((0:Nat):Int)=J at *
  simp [js,b1,b3,b4,x1,m,-aj,-ae]
 | succ k=>
  obtain ⟨u,hu⟩:∃u,T[k]?=some u:=⟨_,List.getElem?_eq_getElem (by omega)⟩
  have hut:=ok2 k u rfl hu
  have b4:aj .gtr (.int .i64 ((k+1:Nat):Int)) (.int .i64 0)=some (.bool true):=by rw [iS,decide_eq_true (by omega)]
  have b5:aj .sub (.int .i64 ((k+1:Nat):Int)) (.int .i64 1)=some (.int .i64 (k:Int)):=by
   simp only [aj]; rw [if_pos trivial,eo (by unfold inI; omega)]; congr 2; omega
  have x2:∀A,ae 1 A tv (.int .i64 (k:Int))=some (.fp [.int .i64 u]):=fun A=>hT.int (A:=A) T .i64 hu .i64
  have b6:=j4 t u
  rw [decide_eq_false (by omega)] at b6
  unfold nu
  unfold bD at hb
  generalize ((k+1+1:Nat):Int)=J1 at *
  generalize (T.length:Int)=N at *
  generalize ((k+1:Nat):Int)=J at *
  generalize (k:Int)=K at *
  simp [js,b1,b3,b4,b5,b6,x1,x2,m,hb,-aj,-ae]
theorem Cc {A:aa} {v1 v3 v11 v12 v13 tv:AV} {bx:Nat} {mn mx:Int} {T:List Int} (hb:A[bx]?=some (.row 3 false [bD tv mn mx])) (hT:SlA 1 (T.map (.int .i64)) tv) (hok:pi T):∀(κ j m:Nat),j+κ=T.length->κ<m ->
  bI (evC (ac GS sR) 50 js) hP m (lK v1 v3 nu (.ptr bx 0 0) v11 v12 v13 tv (.int .i64 (T.length:Int)) (.int .i64 (j:Int))) A=some (.exit 2 ((lK v1 v3 nu (.ptr bx 0 0) v11 v12 v13 tv (.int .i64 (T.length:Int)) (.int .i64 (T.length:Int))).set 19 (.bool false)) A):=by
 intro κ
 induction κ with
 | zero=>
  intro j m hj hm
  obtain ⟨m,rfl⟩:∃m',m=m'+1:=⟨m-1,by omega⟩
  obtain rfl:j=T.length:=by omega
  rw [aF,vn]
  simp [js]
 | succ κ ih=>
  intro j m hj hm
  obtain ⟨m,rfl⟩:∃m',m=m'+1:=⟨m-1,by omega⟩
  obtain ⟨t,ht⟩:∃t,T[j]?=some t:=⟨_,List.getElem?_eq_getElem (by omega)⟩
  rw [aF,vn,wR hb hT hok ht]
  exact ih (j+1) m (by omega) (by omega)
end Sh
namespace Sh
def M32:aN:=fun args=>evP (ac GS sR) 50 K9 1 args
theorem Fd:ak Tryz.prog GS 32 M32:=ak.of_ev (E:=ac GS sR) (ai (ag (au.of_pure EX 4) (ag (au.of_pure EW 4) an))) rfl at32 Ir 1 fun _ _ h=>⟨50,h⟩
def mY (n:fP):Prop:=pi n.tools/\(1<=n.mn/\n.mn<=n.mx)/\n.mx<=10000
def gS (n:Nat) (ws:List Win):Prop:=∀(i:Nat) (w:Win),ws[i]?=some w->(0<=w.f/\w.f<=(n:Int)-1)/\(w.f+1<=w.t/\w.t<=(n:Int)-1)/\(0<=w.l/\w.l<=1000000)/\∀k v,i=k+1->ws[k]?=some v->dL v w
theorem wQ {A:aa} {v1 v3 nv tv:AV} {L:List AV} {i:Nat} {n:fP} (hL:SlA 3 L nv) (hLl:L.length<=10) (hx:L[i]?=some (bD tv n.mn n.mx)) (hT:SlA 1 (n.tools.map (.int .i64)) tv) (hok:mY n) :
  run (ac GS sR) 50 [.code kq] (lJ v1 v3 nu nv (.int .i64 (L.length:Int)) (.int .i64 (i:Int))) A =
   some (.normal (lJ v1 v3 nu nv (.int .i64 (L.length:Int)) (.int .i64 ((i+1:Nat):Int))) (A++[.row 3 false [bD tv n.mn n.mx]])):=by
 have hi:i<L.length:=(List.getElem?_eq_some_iff.1 hx).1
 have hl:=hok.1.1
 have b1:=bK i L.length .i64
 rw [decide_eq_true hi] at b1
 have b3:=aY i (by omega)
 have x1:∀A,ae 3 A nv (.int .i64 (i:Int))=some (.fp [tv,.int .i64 n.mn,.int .i64 n.mx]):=fun A=>hL.index (A:=A) hx rfl (by omega) .i64
 have m1:=jL (x:=(n.tools.length:Int)) (a:=2) (b:=3) (by omega)
 have m2:=jL (x:=n.mn) (a:=1) (b:=n.mx) hok.2.1
 have b4:=iS n.mx 10000
 rw [decide_eq_false (by have:=hok.2.2; omega)] at b4
 have hlt:ay tv=some (.int .i64 (n.tools.length:Int)):=by
  have:=hT.len
  rw [List.length_map] at this
  exact this
 have c1:cellsOf tv=[tv]/\tv.solid=true:=SlA.cells hT
 have bx:(A++[Ent.row 3 false [bD tv n.mn n.mx]])[A.length]?=some (.row 3 false [bD tv n.mn n.mx]):=by simp
 have lp:=Cc (A:=A++[.row 3 false [bD tv n.mn n.mx]]) (v1:=v1) (v3:=v3) (v11:=nv) (v12:=.int .i64 (L.length:Int)) (v13:=.int .i64 (i:Int)) bx hT hok.1 n.tools.length 0 50 (by omega) (by omega)
 have lp:bI (evC (ac GS sR) 50 js) hP 50 (lK v1 v3 nu (.ptr A.length 0 0) nv (.int .i64 (L.length:Int)) (.int .i64 (i:Int)) tv (.int .i64 (n.tools.length:Int)) (.int .i64 0)) (A++[.row 3 false [bD tv n.mn n.mx]])=_:=lp
 unfold nu bD at *
 generalize ((i+1:Nat):Int)=I1 at *
 generalize (L.length:Int)=N at *
 generalize (n.tools.length:Int)=T at *
 generalize (i:Int)=I at *
 have hld:∀cs:List AV,ba (.agg [tv,.int .i64 n.mn,.int .i64 n.mx]) 3 0 false 1=some tv:=fun _=>rfl
 clear hx
 simp [kq,b1,b3,b4,x1,m1,m2,hlt,G5 lp,az,-aj,-ae,-ay]
theorem wP {A:aa} {wv nv:AV} {e lo hi:Int} {ws:List Win} {i n rb:Nat} {w:Win} (h0:A[rb]?=some (.row 5 false [rqA e lo hi nv wv])) (hw:SlA 3 (ws.map bi) wv) (hwl:ws.length<=20) (hn:n<=10) (hx:ws[i]?=some w) (hok:gS n ws) :
  run (ac GS sR) 50 [.code jr] (lI (.ptr rb 0 0) (.int .i64 (n:Int)) nu wv (.int .i64 (ws.length:Int)) (.int .i64 (i:Int))) A =
   some (.normal (lI (.ptr rb 0 0) (.int .i64 (n:Int)) nu wv (.int .i64 (ws.length:Int)) (.int .i64 ((i+1:Nat):Int))) (A++[.row 3 false [bi w]])):=by
 have hi:i<ws.length:=(List.getElem?_eq_some_iff.1 hx).1
 obtain ⟨k1,k2,k3,k4⟩:=hok i w hx
 have b1:=bK i ws.length .i64
 rw [decide_eq_true hi] at b1
 have b3:=aY i (by omega)
 have x1:∀A,ae 3 A wv (.int .i64 (i:Int))=some (.fp [.int .i64 w.f,.int .i64 w.t,.int .i64 w.l]):=fun A=>hw.index (A:=A) (x:=bi w) (by rw [List.getElem?_map,hx]; rfl) rfl (by omega) .i64
 have m1:=jL (x:=w.f) (a:=0) (b:=(n:Int)-1) k1
 have m2:=jL (x:=w.t) (a:=w.f+1) (b:=(n:Int)-1) k2
 have m3:=jL (x:=w.l) (a:=0) (b:=1000000) k3
 have b4:aj .sub (.int .i64 (n:Int)) (.int .i64 1)=some (.int .i64 ((n:Int)-1)):=by
  simp only [aj]; rw [if_pos trivial,eo (by unfold inI; omega)]
 have b5:aj .add (.int .i64 w.f) (.int .i64 1)=some (.int .i64 (w.f+1)):=by
  simp only [aj]; rw [if_pos trivial,eo (by unfold inI; omega)]
 have bx:(A++[Ent.row 3 false [bi w]])[A.length]?=some (.row 3 false [bi w]):=by simp
 have h0':=(Fr.app A [Ent.row 3 false [bi w]] []).at h0 (by simp)
 cases i with
 | zero=>
  have b6:aj .gtr (.int .i64 ((0:Nat):Int)) (.int .i64 0)=some (.bool false):=by simp [aj]
  unfold nu bi at *
  generalize ((0+1:Nat):Int)=I1 at *
  generalize (ws.length:Int)=N at *
  generalize ((0:Nat):Int)=I at *
  generalize (n:Int)-1=n1 at *
  generalize w.f+1=f1 at *
  clear hx k4
  simp [jr,b1,b3,b4,b5,b6,x1,m1,m2,m3,az,-aj,-ae]
 | succ k=>
  obtain ⟨v,hv⟩:∃v,ws[k]?=some v:=⟨_,List.getElem?_eq_getElem (by omega)⟩
  have m4:=Z4 (k4 k v rfl hv)
  have b6:aj .gtr (.int .i64 ((k+1:Nat):Int)) (.int .i64 0)=some (.bool true):=by rw [iS,decide_eq_true (by omega)]
  have b7:aj .sub (.int .i64 ((k+1:Nat):Int)) (.int .i64 1)=some (.int .i64 (k:Int)):=by
   simp only [aj]; rw [if_pos trivial,eo (by unfold inI; omega)]; congr 2; omega
  have x2:∀A,ae 3 A wv (.int .i64 (k:Int))=some (.fp [.int .i64 v.f,.int .i64 v.t,.int .i64 v.l]):=fun A=>hw.index (A:=A) (x:=bi v) (by rw [List.getElem?_map,hv]; rfl) rfl (by omega) .i64
  unfold nu bi rqA at *
  generalize ((k+1+1:Nat):Int)=I1 at *
  generalize (ws.length:Int)=N at *
  generalize ((k+1:Nat):Int)=I at *
  generalize (k:Int)=K at *
  generalize (n:Int)-1=n1 at *
  generalize w.f+1=f1 at *
  clear hx k4 hv h0
  simp [jr,b1,b3,b4,b5,b6,b7,x1,x2,m1,m2,m3,m4,h0',az,-aj,-ae]
theorem Cb {ns:List fP} {v1 v3 nv:AV} {L:List AV} (hL:SlA 3 L nv) (hLl:L.length<=10) (hN:eS ns L) (hok:∀n∈ns,mY n):∀(κ i m:Nat) (A:aa),i+κ=L.length->κ<m ->
  ∃X,bI (evC (ac GS sR) 50 kq) gZ m (lJ v1 v3 nu nv (.int .i64 (L.length:Int)) (.int .i64 (i:Int))) A=some (.exit 0 ((lJ v1 v3 nu nv (.int .i64 (L.length:Int)) (.int .i64 (L.length:Int))).set 14 (.bool false)) (A++X)):=by
 intro κ
 induction κ with
 | zero=>
  intro i m A hi hm
  obtain ⟨m,rfl⟩:∃m',m=m'+1:=⟨m-1,by omega⟩
  obtain rfl:i=L.length:=by omega
  refine ⟨[],?_⟩
  rw [aF,vl]
  simp [kq]
 | succ κ ih=>
  intro i m A hi hm
  obtain ⟨m,rfl⟩:∃m',m=m'+1:=⟨m-1,by omega⟩
  obtain ⟨n,hn⟩:∃n,ns[i]?=some n:=⟨_,List.getElem?_eq_getElem (by have:=hN.1; omega)⟩
  obtain ⟨tv,hx,hT⟩:=hN.2 i n hn
  obtain ⟨X,h⟩:=ih (i+1) m (A++[.row 3 false [bD tv n.mn n.mx]]) (by omega) (by omega)
  refine ⟨[.row 3 false [bD tv n.mn n.mx]]++X,?_⟩
  rw [aF,vl,wQ hL hLl hx hT (hok n (List.mem_of_getElem? hn)),<-List.append_assoc]
  exact h
theorem Ca {wv nv:AV} {e lo hi:Int} {ws:List Win} {n:Nat} (hw:SlA 3 (ws.map bi) wv) (hwl:ws.length<=20) (hn:n<=10) (hok:gS n ws):∀(κ i m:Nat) (A:aa),i+κ=ws.length->κ<m->A[0]?=some (.row 5 false [rqA e lo hi nv wv]) ->
  ∃X,bI (evC (ac GS sR) 50 jr) gY m (lI (.ptr 0 0 0) (.int .i64 (n:Int)) nu wv (.int .i64 (ws.length:Int)) (.int .i64 (i:Int))) A=some (.exit 4 ((lI (.ptr 0 0 0) (.int .i64 (n:Int)) nu wv (.int .i64 (ws.length:Int)) (.int .i64 (ws.length:Int))).set 24 (.bool false)) (A++X)):=by
 intro κ
 induction κ with
 | zero=>
  intro i m A hi hm h0
  obtain ⟨m,rfl⟩:∃m',m=m'+1:=⟨m-1,by omega⟩
  obtain rfl:i=ws.length:=by omega
  refine ⟨[],?_⟩
  rw [aF,vk]
  simp [jr]
 | succ κ ih=>
  intro i m A hi hm h0
  obtain ⟨m,rfl⟩:∃m',m=m'+1:=⟨m-1,by omega⟩
  obtain ⟨w,hx⟩:∃w,ws[i]?=some w:=⟨_,List.getElem?_eq_getElem (by omega)⟩
  obtain ⟨X,h⟩:=ih (i+1) m (A++[.row 3 false [bi w]]) (by omega) (by omega) ((Fr.app A _ []).at h0 (by simp))
  refine ⟨[.row 3 false [bi w]]++X,?_⟩
  rw [aF,vk,wP h0 hw hwl hn hx hok,<-List.append_assoc]
  exact h
theorem IU {ns:List fP} {ws:List Win} {nv wv:AV} {L:List AV} {e lo hi:Int} (hL:SlA 3 L nv) (hN:eS ns L) (hns:1<=ns.length/\ns.length<=4) (hok:∀n∈ns,mY n) (hw:SlA 3 (ws.map bi) wv) (hwl:ws.length<=20) (hokw:gS ns.length ws)
  (he:0<=e/\e<=1000000) (hlo:0<=lo/\lo<=hi) (hhi:hi<=10000):M32 [rqA e lo hi nv wv]=some (.bool true):=by
 have hLn:=hN.1
 have m1:=jL he
 have m2:=jL hlo
 have m3:=jL (x:=(L.length:Int)) (a:=1) (b:=4) (by omega)
 have b1:=iS hi 10000
 rw [decide_eq_false (by omega)] at b1
 have b2:=iS (ws.length:Int) 20
 rw [decide_eq_false (by omega)] at b2
 have hln:ay nv=some (.int .i64 (L.length:Int)):=hL.len
 have hlw:ay wv=some (.int .i64 (ws.length:Int)):=by
  have:=hw.len
  rw [List.length_map] at this
  exact this
 have c1:cellsOf nv=[nv]/\nv.solid=true:=SlA.cells hL
 have c2:cellsOf wv=[wv]/\wv.solid=true:=SlA.cells hw
 obtain ⟨X,lp⟩:=Cb (v1:=.ptr 0 0 0) (v3:=.int .i64 (L.length:Int)) hL (by omega) hN hok L.length 0 50 [.row 5 false [rqA e lo hi nv wv]] (by omega) (by omega)
 have h0:([Ent.row 5 false [rqA e lo hi nv wv]]++X)[0]?=some (.row 5 false [rqA e lo hi nv wv]):=rfl
 rw [hLn] at lp
 obtain ⟨Y,lq⟩:=Ca hw hwl (n:=ns.length) (by omega) hokw ws.length 0 50 _ (by omega) (by omega) h0
 have lp:bI (evC (ac GS sR) 50 kq) gZ 50 (lJ (.ptr 0 0 0) (.int .i64 (ns.length:Int)) nu nv (.int .i64 (ns.length:Int)) (.int .i64 0)) [.row 5 false [rqA e lo hi nv wv]]=_:=lp
 have lq:bI (evC (ac GS sR) 50 jr) gY 50 (lI (.ptr 0 0 0) (.int .i64 (ns.length:Int)) nu wv (.int .i64 (ws.length:Int)) (.int .i64 0)) ([.row 5 false [rqA e lo hi nv wv]]++X)=_:=lq
 rw [hLn] at m3 hln
 unfold M32
 rw [aZ _ _ rfl]
 generalize [Ent.row 5 false [rqA e lo hi nv wv]]++X++Y=B2 at *
 generalize hB1:[Ent.row 5 false [rqA e lo hi nv wv]]++X=B1 at *
 unfold nu rqA at *
 generalize (ns.length:Int)=N at *
 generalize (ws.length:Int)=W at *
 simp [K9,m1,m2,m3,b1,b2,hln,hlw,G4 lp,G3 lq,h0,-aj,-ay]
end Sh
namespace Sh
def fs8:List (FuncId × aB):=[(32,aK 4 M32),(33,H33)]
@[simp] theorem Ob:aR fs8 32=some (aK 4 M32):=rfl
@[simp] theorem Oa:aR fs8 33=some H33:=rfl
def H8:aB:=fun _=>bN (ac GS fs8) 0 mf8
theorem KG:au Tryz.prog GS 8 H8:=(aG (E:=ac GS fs8) (ai (ag (au.of_pure Fd 4) (ag Fc an))) rfl at8 Mw aU.nil).y
structure vK (e lo hi:Int) (ns:List fP) (ws:List Win):Prop where
 n:1<=ns.length/\ns.length<=4
 need:∀n∈ns,mY n
 wl:ws.length<=20
 w:gS ns.length ws
 e:0<=e/\e<=1000000
 lo:0<=lo/\lo<=hi
 hi:hi<=10000
theorem vK.tools {e lo hi:Int} {ns:List fP} {ws:List Win} (h:vK e lo hi ns ws):∀n∈ns,∀t∈n.tools,0<=t/\t<60:=fun n hn t ht=>by
 obtain ⟨j,hj⟩:=List.mem_iff_getElem?.1 ht
 have:=((h.need n hn).1.2 j t hj).1
 omega
theorem ev8 (h:aE) {A:aa} {id:Nat} {cells0 L:List AV} {c:Cal} {nv wv:AV} {e lo hi:Int} {ns:List fP} {ws:List Win} (hc:cz A id cells0 c) (hf:dj c) (hl:∀u,(c u).length<=780)
  (hL:SlA 3 L nv) (hN:eS ns L) (hw:SlA 3 (ws.map bi) wv) (hr:vK e lo hi ns ws) :
  (iY c e lo hi ns ws=none/\∃B,H8 h [.ptr id 0 0,rqA e lo hi nv wv] A=some (.tup [rqA 0 0 0 .nilS .nilS,.int .i64 100],B)/\Fr A B []) \/
  ∃st over B o wv',iY c e lo hi ns ws=some (st,over)/\H8 h [.ptr id 0 0,rqA e lo hi nv wv] A=some (.tup [rqA e lo hi o wv',.int .i64 0],B)/\Fr A B []/\bY B o 6 (st.map aI)/\(∀k∈aC o,A.length<=k)/\SlA 3 (ws.map bi) wv':=by
 have m32:=IU hL hN hr.n hr.need hw hr.wl hr.w hr.e hr.lo hr.hi
 have F0:=Fr.app A [.row 5 false [rqA e lo hi nv wv],bO] []
 have r0:(A++[.row 5 false [rqA e lo hi nv wv],bO])[A.length]?=some (.row 5 false [rqA e lo hi nv wv]):=by simp
 have z0:(A++[.row 5 false [rqA e lo hi nv wv],bO])[A.length+1]?=some bO:=by simp
 have l0:(A++[.row 5 false [rqA e lo hi nv wv],bO]).length=A.length+2:=by simp
 have f1:∀A n,frz A n nv=nv:=fun A n=>hL.frz n
 have f2:∀A n,frz A n wv=wv:=fun A n=>hw.frz n
 have hb:=ev33 (fun _ _ _=>none) (hc.fr F0 (by simp) (by simp)) hf hl hL hN hr.n (fun n hn=>(hr.need n hn).1.1.2) hr.tools (fun n hn=>by have:=(hr.need n hn).2; omega) (lo:=lo) (hi:=hi) (e:=e) (ws:=ws) (wv:=wv) ⟨by have:=hr.lo; omega,hr.hi⟩ (by have:=hr.e; omega) hw (by have:=hr.wl; omega)
 rcases hb with ⟨hn,B,q1,FB⟩ | ⟨st,over,B,o,wv',hs,q1,FB,ho,hoi,hw'⟩
 ·have FB1:Fr (A++[.row 5 false [rqA e lo hi nv wv],bO]) (B++[.row 5 false [rqA 0 0 0 .nilS .nilS]]) []:=FB.trans (Fr.app _ _ []) (fun _ h=>h) (fun _ _ h=>h)
  have zB:=FB1.at z0 (by simp)
  have pB:(B++[Ent.row 5 false [rqA 0 0 0 .nilS .nilS]])[B.length]?=some (.row 5 false [rqA 0 0 0 .nilS .nilS]):=by simp
  have lB:=FB1.1
  have hs2:(B++[Ent.row 5 false [rqA 0 0 0 .nilS .nilS]]).set B.length (.row 5 false [rqA 0 0 0 .nilS .nilS])=B++[Ent.row 5 false [rqA 0 0 0 .nilS .nilS]]:=by simp
  generalize hB1:B++[Ent.row 5 false [rqA 0 0 0 .nilS .nilS]]=B1 at *
  have hset:(B1.set (A.length+1) bO)[A.length+1]?=some bO:=List.getElem?_set_self (by omega)
  refine .inl ⟨hn,B1.set (A.length+1) bO,?_,(F0.trans FB1 (fun _ h=>h) (fun _ _ h=>h)).trans (Fr.set B1 _ _) (fun _ h=>h) (fun j hj hm=>by simp at hm; omega)⟩
  unfold H8
  rw [aH _ _ rfl]
  clear lB FB1 FB F0 l0
  unfold bO rqA at *
  simp [mf8,m32,f1,f2,q1,hB1,pB,hs2,zB,hset,az]
 ·have FB1:Fr (A++[.row 5 false [rqA e lo hi nv wv],bO]) (B++[.row 5 false [rqA e lo hi o wv']]) []:=FB.trans (Fr.app _ _ []) (fun _ h=>h) (fun _ _ h=>h)
  have zB:=FB1.at z0 (by simp)
  have pB:(B++[Ent.row 5 false [rqA e lo hi o wv']])[B.length]?=some (.row 5 false [rqA e lo hi o wv']):=by simp
  have ho1:=ho.fr (Fr.app B [.row 5 false [rqA e lo hi o wv']] []) (by simp)
  have lB:=FB1.1
  generalize hB1:B++[Ent.row 5 false [rqA e lo hi o wv']]=B1 at *
  have hset:(B1.set (A.length+1) (.row 5 false [rqA e lo hi o wv']))[A.length+1]?=some (.row 5 false [rqA e lo hi o wv']):=List.getElem?_set_self (by omega)
  refine .inr ⟨st,over,B1.set (A.length+1) (.row 5 false [rqA e lo hi o wv']),o,wv',hs,?_,(F0.trans FB1 (fun _ h=>h) (fun _ _ h=>h)).trans (Fr.set B1 _ _) (fun _ h=>h) (fun j hj hm=>by simp at hm; omega),ho1.fr (Fr.set B1 _ _) (fun k hk hm=>by have:=hoi k hk; simp at hm this; omega),fun k hk=>by have:=hoi k hk; simp at this; omega,hw'⟩
  unfold H8
  rw [aH _ _ rfl]
  clear lB FB1 FB F0 l0
  unfold bO rqA at *
  simp [mf8,m32,f1,f2,q1,hB1,pB,zB,hset,az]
end Sh
namespace Sh
def sQ:List (FuncId × aB):=[(74,aK 4 M74),(88,aK 4 M88)]
@[simp] theorem LG:aR sQ 74=some (aK 4 M74):=rfl
@[simp] theorem LF:aR sQ 88=some (aK 4 M88):=rfl
section
variable {A:aa} {sb:Nat} {x:Stg} {ow:Int} {o:AV} {es:List AV}
theorem yA (v7 v8 v9:AV) (i:Nat) (hi:i<2) (hs:A[sb]?=some (.row 6 false [aI x])) (hx:inI (x.ms+x.mx)) (hy:inI (x.ss+x.mx)) (ho:bY A o 4 es) (hl:es.length<=100) (_hso:sb ∉ aC o) :
  ∃B o',run (ac GS sQ) 50 [.code fG] (it (.int .i64 ow) o (.ptr sb 0 0) v7 v8 v9 (.agg [.int .i64 x.mt,.int .i64 x.ms,.int .i64 x.st,.int .i64 x.ss]) (.int .i64 (i:Int))) A =
   some (.normal (it (.int .i64 ow) o' (.ptr sb 0 0) v7 v8 v9 (.agg [.int .i64 x.mt,.int .i64 x.ms,.int .i64 x.st,.int .i64 x.ss]) (.int .i64 ((i+1:Nat):Int))) B) /\
   bY B o' 4 (es++[bkA (if i=0 then ⟨x.mt,x.ms,x.ms+x.mx,ow⟩ else ⟨x.st,x.ss,x.ss+x.mx,ow⟩)])/\Fr A B (aC o)/\∀k∈aC o',A.length<=k:=by
 have a1:aj .add (.int .i64 x.ms) (.int .i64 x.mx)=some (.int .i64 (x.ms+x.mx)):=by
  simp only [aj]; rw [if_pos trivial,eo hx]
 have a2:aj .add (.int .i64 x.ss) (.int .i64 x.mx)=some (.int .i64 (x.ss+x.mx)):=by
  simp only [aj]; rw [if_pos trivial,eo hy]
 have b0:aj .lss (.int .i64 0) (.int .i64 2)=some (.bool true):=by simp [aj]
 have b1:aj .lss (.int .i64 1) (.int .i64 2)=some (.bool true):=by simp [aj]
 have c0:aj .add (.int .i64 0) (.int .i64 1)=some (.int .i64 1):=aY 0 (by omega)
 have c1:aj .add (.int .i64 1) (.int .i64 1)=some (.int .i64 2):=aY 1 (by omega)
 rcases (show i=0\/i=1 by omega) with rfl | rfl
 ·have F:=Fr.app A [.row 2 false [.agg [.int .i64 x.mt,.int .i64 x.ms]]] []
  have s1:=F.at hs (by simp)
  have n1:(A++[Ent.row 2 false [.agg [.int .i64 x.mt,.int .i64 x.ms]]])[A.length]?=some (.row 2 false [.agg [.int .i64 x.mt,.int .i64 x.ms]]):=by simp
  obtain ⟨B,ap,h1,h2,h3⟩:=(ho.fr F (by simp)).append (bytes:=32) (bkA ⟨x.mt,x.ms,x.ms+x.mx,ow⟩) (by omega) (by omega) (by omega)
  refine ⟨B,_,?_,by rw [if_pos rfl]; exact h1,F.trans h2 (fun _ h=>by cases h) (fun _ _ h=>h),fun k hk=>by simp [aC] at hk; omega⟩
  unfold bkA aI at *
  generalize x.ms+x.mx=z1 at *
  generalize x.ss+x.mx=z2 at *
  generalize hA1:A++[Ent.row 2 false [.agg [.int .i64 x.mt,.int .i64 x.ms]]]=A1 at *
  simp [fG,cU,a1,s1,n1,ap,hA1,b0,c0,az,-aj]
 ·have F:=Fr.app A [.row 2 false [.agg [.int .i64 x.st,.int .i64 x.ss]]] []
  have s1:=F.at hs (by simp)
  have n1:(A++[Ent.row 2 false [.agg [.int .i64 x.st,.int .i64 x.ss]]])[A.length]?=some (.row 2 false [.agg [.int .i64 x.st,.int .i64 x.ss]]):=by simp
  obtain ⟨B,ap,h1,h2,h3⟩:=(ho.fr F (by simp)).append (bytes:=32) (bkA ⟨x.st,x.ss,x.ss+x.mx,ow⟩) (by omega) (by omega) (by omega)
  refine ⟨B,_,?_,by rw [if_neg (by omega)]; exact h1,F.trans h2 (fun _ h=>by cases h) (fun _ _ h=>h),fun k hk=>by simp [aC] at hk; omega⟩
  unfold bkA aI at *
  generalize x.ms+x.mx=z1 at *
  generalize x.ss+x.mx=z2 at *
  generalize hA1:A++[Ent.row 2 false [.agg [.int .i64 x.st,.int .i64 x.ss]]]=A1 at *
  simp [fG,cU,a2,s1,n1,ap,hA1,b1,c1,az,-aj]
theorem AY {a:AV} {l:List Stg} {i:Nat} (ha:SlA 6 (l.map aI) a) (hx:l[i]?=some x) (hl:l.length<=8) (hok:bH x) (ho:bY A o 4 es) (hel:es.length<=50) :
  ∃B o',run (ac GS sQ) 50 [.code kn] (lF (.int .i64 ow) o a (.int .i64 (l.length:Int)) (.int .i64 (i:Int))) A =
   some (.normal (lF (.int .i64 ow) o' a (.int .i64 (l.length:Int)) (.int .i64 ((i+1:Nat):Int))) B) /\
   bY B o' 4 (es++(fB ow [x]).map bkA):=by
 have hi:i<l.length:=(List.getElem?_eq_some_iff.1 hx).1
 have hk:=hok
 unfold bH at hk
 have b1:=bK i l.length .i64
 rw [decide_eq_true hi] at b1
 have b3:=aY i (by omega)
 have x1:∀A,ae 6 A a (.int .i64 (i:Int))=some (.fp [.int .i64 x.mn,.int .i64 x.mx,.int .i64 x.mt,.int .i64 x.ms,.int .i64 x.st,.int .i64 x.ss]):=fun A=>ha.index (A:=A) (x:=aI x) (by rw [List.getElem?_map,hx]; rfl) rfl (by omega) .i64
 have F:=Fr.app A [.row 6 false [aI x]] []
 have s1:(A++[Ent.row 6 false [aI x]])[A.length]?=some (.row 6 false [aI x]):=by simp
 have ho1:=ho.fr F (by simp)
 have olow:=ho.low
 obtain ⟨B1,o1,q1,h1,F1,i1⟩:=yA (ow:=ow) a (.int .i64 (l.length:Int)) (.int .i64 (i:Int)) 0 (by omega) s1 (by unfold inI; omega) (by unfold inI; omega) ho1 (by omega) (fun hm=>by have:=olow _ hm; omega)
 have s2:=F1.at s1 (fun hm=>by have:=olow _ hm; omega)
 have sl2:∀k∈aC o1,A.length<k:=fun k hk=>by have:=i1 k hk; simp at this; omega
 obtain ⟨B2,o2,q2,h2,F2,i2⟩:=yA (ow:=ow) a (.int .i64 (l.length:Int)) (.int .i64 (i:Int)) 1 (by omega) s2 (by unfold inI; omega) (by unfold inI; omega) h1 (by simp; omega) (fun hm=>by have:=sl2 _ hm; omega)
 refine ⟨B2,o2,?_,?_⟩
 ·have e2:aj .lss (.int .i64 2) (.int .i64 2)=some (.bool false):=by simp [aj]
  have q3:run (ac GS sQ) 50 [.code fG] (it (.int .i64 ow) o2 (.ptr A.length 0 0) a (.int .i64 (l.length:Int)) (.int .i64 (i:Int)) (.agg [.int .i64 x.mt,.int .i64 x.ms,.int .i64 x.st,.int .i64 x.ss]) (.int .i64 2)) B2=some (.exit 2 ((it (.int .i64 ow) o2 (.ptr A.length 0 0) a (.int .i64 (l.length:Int)) (.int .i64 (i:Int)) (.agg [.int .i64 x.mt,.int .i64 x.ms,.int .i64 x.st,.int .i64 x.ss]) (.int .i64 2)).set 13 (.bool false)) B2):=by
   simp [fG,e2,-aj]
  have lp:bI (evC (ac GS sQ) 50 fG) ji 50 (it (.int .i64 ow) o (.ptr A.length 0 0) a (.int .i64 (l.length:Int)) (.int .i64 (i:Int)) (.agg [.int .i64 x.mt,.int .i64 x.ms,.int .i64 x.st,.int .i64 x.ss]) (.int .i64 0)) (A++[.row 6 false [aI x]])=some (.exit 2 ((it (.int .i64 ow) o2 (.ptr A.length 0 0) a (.int .i64 (l.length:Int)) (.int .i64 (i:Int)) (.agg [.int .i64 x.mt,.int .i64 x.ms,.int .i64 x.st,.int .i64 x.ss]) (.int .i64 2)).set 13 (.bool false)) B2):=by
   have q1:run (ac GS sQ) 50 [.code fG] (it (.int .i64 ow) o (.ptr A.length 0 0) a (.int .i64 (l.length:Int)) (.int .i64 (i:Int)) (.agg [.int .i64 x.mt,.int .i64 x.ms,.int .i64 x.st,.int .i64 x.ss]) (.int .i64 0)) _=_:=q1
   have q2:run (ac GS sQ) 50 [.code fG] (it (.int .i64 ow) o1 (.ptr A.length 0 0) a (.int .i64 (l.length:Int)) (.int .i64 (i:Int)) (.agg [.int .i64 x.mt,.int .i64 x.ms,.int .i64 x.st,.int .i64 x.ss]) (.int .i64 ((0+1:Nat):Int))) _=_:=q2
   rw [aF,se,q1]
   simp only
   rw [aF,se,q2]
   simp only
   rw [aF,se]
   exact congrArg (fun z=>match z with
    | some (.normal σ' A')=>bI (evC (ac GS sQ) 50 fG) ji 47 σ' A'
    | o=>o) q3
  clear q1 q2 q3 ho1 h1 h2
  unfold aI at *
  generalize ((i+1:Nat):Int)=I1 at *
  generalize (l.length:Int)=N at *
  generalize (i:Int)=I at *
  have l1:ba (.agg [.int .i64 x.mn,.int .i64 x.mx,.int .i64 x.mt,.int .i64 x.ms,.int .i64 x.st,.int .i64 x.ss]) 6 2 true 2=some (.agg [.int .i64 x.mt,.int .i64 x.ms]):=rfl
  have l2:ba (.agg [.int .i64 x.mn,.int .i64 x.mx,.int .i64 x.mt,.int .i64 x.ms,.int .i64 x.st,.int .i64 x.ss]) 6 4 true 2=some (.agg [.int .i64 x.st,.int .i64 x.ss]):=rfl
  simp [kn,l1,l2,b1,b3,x1,G0 lp,az,-aj,-ae]
 ·have:es++(fB ow [x]).map bkA=es++[bkA ⟨x.mt,x.ms,x.ms+x.mx,ow⟩]++[bkA ⟨x.st,x.ss,x.ss+x.mx,ow⟩]:=by simp [fB]
  rw [this]
  exact h2
end
end Sh
namespace Sh
theorem qX (ow:Int) (l m:List Stg):fB ow (l++m)=fB ow l++fB ow m:=by simp [fB]
theorem ph (ow:Int) (l:List Stg):(fB ow l).length=2*l.length:=by
 induction l with
 | nil=>rfl
 | cons x r ih=>simp [fB] at ih ⊢; omega
theorem GF {ow:Int} {a:AV} {l:List Stg} (ha:SlA 6 (l.map aI) a) (hl:l.length<=8) (hok:∀x∈l,bH x):∀(κ i m:Nat) (o:AV) (A:aa),i+κ=l.length->κ<m->bY A o 4 ((fB ow (l.take i)).map bkA) ->
  ∃B o',bI (evC (ac GS sQ) 50 kn) jh m (lF (.int .i64 ow) o a (.int .i64 (l.length:Int)) (.int .i64 (i:Int))) A=some (.exit 0 ((lF (.int .i64 ow) o' a (.int .i64 (l.length:Int)) (.int .i64 (l.length:Int))).set 10 (.bool false)) B)/\bY B o' 4 ((fB ow l).map bkA):=by
 intro κ
 induction κ with
 | zero=>
  intro i m o A hi hm ho
  obtain ⟨m,rfl⟩:∃m',m=m'+1:=⟨m-1,by omega⟩
  obtain rfl:i=l.length:=by omega
  rw [List.take_length] at ho
  refine ⟨A,o,?_,ho⟩
  rw [aF,vg]
  simp [kn]
 | succ κ ih=>
  intro i m o A hi hm ho
  obtain ⟨m,rfl⟩:∃m',m=m'+1:=⟨m-1,by omega⟩
  obtain ⟨x,hx⟩:∃x,l[i]?=some x:=⟨_,List.getElem?_eq_getElem (by omega)⟩
  obtain ⟨B,o',q,h⟩:=AY (ow:=ow) ha hx hl (hok x (List.mem_of_getElem? hx)) ho (by rw [List.length_map,ph,List.length_take]; omega)
  have et:l.take (i+1)=l.take i++[x]:=by
   rw [List.take_add_one,hx]; rfl
  rw [<-List.map_append,<-qX,<-et] at h
  obtain ⟨C,o2,r,h2⟩:=ih (i+1) m o' B (by omega) (by omega) h
  refine ⟨C,o2,?_,h2⟩
  rw [aF,vg,q]
  exact r
def M86:aN:=fun args=>evF (ac GS sQ) 50 KY 4 args
theorem zy:bS Tryz.prog GS 86 M86:=bS.of_ev (E:=ac GS sQ) (ai (ag (au.of_pure rD 4) (ag (au.of_pure nR 4) an))) rfl at86 H2 4 (fun _ _ h=>⟨50,h⟩)
theorem IN (p:Pl) {a b:AV} {ow:Int} (ha:SlA 6 (p.stages.map aI) a) (hb:SlA 3 (p.wins.map bi) b) (hv:cL p) (how:1<=ow/\ow<=1000000):M86 [ax p a b,.int .i64 ow]=some (slA 4 ((fB ow p.stages).map bkA)):=by
 obtain ⟨v,h1,i1⟩:=sk p ha hb
 obtain rfl:=i1.2 hv
 have m88:=eU ow 1 1000000
 rw [decide_eq_true how] at m88
 have fa:∀A n,frz A n a=a:=fun A n=>ha.frz n
 have fb:∀A n,frz A n b=b:=fun A n=>hb.frz n
 have la:=ha.len
 rw [List.length_map] at la
 obtain ⟨B,o,lp,ho⟩:=GF (ow:=ow) ha hv.2.2.2.1.2 hv.2.2.2.2.2.1 p.stages.length 0 50 .nilS [.row 5 false [ax p a b]] (by omega) (by have:=hv.2.2.2.1.2; omega) (.inl ⟨rfl,rfl⟩)
 have lp:bI (evC (ac GS sQ) 50 kn) jh 50 (lF (.int .i64 ow) .nilS a (.int .i64 (p.stages.length:Int)) (.int .i64 0)) [.row 5 false [ax p a b]]=_:=lp
 have fo:frz B 4 o=slA 4 ((fB ow p.stages).map bkA):=ho.frz 3 fun x hx=>by
  obtain ⟨v,_,rfl⟩:=List.mem_map.1 hx
  rfl
 have fr:bV B 4 o=true:=ho.fresh 3 fun x hx=>by
  obtain ⟨v,_,rfl⟩:=List.mem_map.1 hx
  rfl
 unfold M86
 rw [j7 _ _ rfl]
 generalize (p.stages.length:Int)=N at *
 unfold ax at *
 simp [KY,h1,m88,fa,fb,la,GZ lp,fo,fr,-aj,-ay]
end Sh
namespace Sh
def yU:List (FuncId × aB):=[(31,H31),(86,ec 4 M86),(87,H87)]
@[simp] theorem LS:aR yU 31=some H31:=rfl
@[simp] theorem LR:aR yU 86=some (ec 4 M86):=rfl
@[simp] theorem LQ:aR yU 87=some H87:=rfl
def H35:aB:=fun _=>bN (ac GS yU) 50 K8
theorem Fa:au Tryz.prog GS 35 H35:=(aG (E:=ac GS yU) (ai (ag tO (ag (au.of_pureF zy 4) (ag yp an)))) rfl at35 Io aU.nil).y
structure Own (A0 A:aa) (d:Nat) (cells:List AV) (c:Cal):Prop where
 cal:cz A d cells c
 lo:A0.length<=d
 ids:∀k∈fQ cells,A0.length<=k
 fr:Fr A0 A []
theorem A9 {A0 A:aa} {d:Nat} {cells:List AV} {c c':Cal} {v:AV} {bs:List Bk} {i:Nat} {b:Bk} (h:Own A0 A d cells c) (hg:jM c) (hl:∀t,(c t).length<=900) (hv:SlA 4 (bs.map bkA) v) (hb:bs[i]?=some b) (hbl:bs.length<=50) (hbk:cK c b=some c') :
  ∃B cells',run (ac GS yU) 50 [.code ko] (lG v (.ptr d 0 0) v (.int .i64 (bs.length:Int)) (.int .i64 (i:Int))) A=some (.normal (lG v (.ptr d 0 0) v (.int .i64 (bs.length:Int)) (.int .i64 ((i+1:Nat):Int))) B)/\Own A0 B d cells' c':=by
 have hi:i<bs.length:=(List.getElem?_eq_some_iff.1 hb).1
 have b1:=bK i bs.length .i64
 rw [decide_eq_true hi] at b1
 have b3:=aY i (by omega)
 have x1:∀A,ae 4 A v (.int .i64 (i:Int))=some (.fp [.int .i64 b.tool,.int .i64 b.start,.int .i64 b.fin,.int .i64 b.owner]):=fun A=>hv.index (A:=A) (x:=bkA b) (by rw [List.getElem?_map,hb]; rfl) rfl (by omega) .i64
 have F:=Fr.app A [.row 4 false [bkA b]] []
 have s1:(A++[Ent.row 4 false [bkA b]])[A.length]?=some (.row 4 false [bkA b]):=by simp
 rcases Mi (fun _ _ _=>none) (h.cal.fr F (by simp) (by simp)) (fun t=>mu (hg t)) hl b with ⟨c2,B,cells',k1,k2,k3,k4,k5⟩ | ⟨_,k1,_⟩
 ·rw [hbk] at k1
  injection k1 with k1
  subst k1
  have e0:aj .neq (.int .i64 0) (.int .i64 0)=some (.bool false):=by simp [aj]
  refine ⟨B,cells',?_,k3,h.lo,fun k hk=>?_,(h.fr.trans F (fun _ h=>h) (fun _ _ h=>h)).trans k4 (fun _ h=>h) (fun j hj hm=>?_)⟩
  ·unfold bkA at *
   clear hb
   generalize ((i+1:Nat):Int)=I1 at *
   generalize (bs.length:Int)=N at *
   generalize (i:Int)=I at *
   simp [ko,b1,b3,x1,k2,e0,az,-aj,-ae]
  ·rcases k5 k hk with h' | h'
   ·exact h.ids k h'
   ·have:=h.fr.1; simp at h'; omega
  ·rcases List.mem_cons.1 hm with hm | hm
   ·have:=h.lo; omega
   ·have:=h.ids j hm; omega
 ·rw [hbk] at k1; cases k1
theorem GK {A0:aa} {d:Nat} {v:AV} {bs:List Bk} (hv:SlA 4 (bs.map bkA) v) (hbl:bs.length<=40) {df:Cal}:∀(κ i m:Nat) (A:aa) (cells:List AV) (c:Cal),i+κ=bs.length->κ<m->Own A0 A d cells c->jM c->(∀t,(c t).length<=800+i)->bR c (bs.drop i)=some df ->
  ∃B cells',bI (evC (ac GS yU) 50 ko) jk m (lG v (.ptr d 0 0) v (.int .i64 (bs.length:Int)) (.int .i64 (i:Int))) A=some (.exit 0 ((lG v (.ptr d 0 0) v (.int .i64 (bs.length:Int)) (.int .i64 (bs.length:Int))).set 12 (.bool false)) B)/\Own A0 B d cells' df:=by
 intro κ
 induction κ with
 | zero=>
  intro i m A cells c hi hm h hg hl hd
  obtain ⟨m,rfl⟩:∃m',m=m'+1:=⟨m-1,by omega⟩
  obtain rfl:i=bs.length:=by omega
  rw [List.drop_length] at hd
  injection hd with hd
  subst hd
  refine ⟨A,cells,?_,h⟩
  rw [aF,vi]
  simp [ko]
 | succ κ ih=>
  intro i m A cells c hi hm h hg hl hd
  obtain ⟨m,rfl⟩:∃m',m=m'+1:=⟨m-1,by omega⟩
  obtain ⟨b,hb⟩:∃b,bs[i]?=some b:=⟨_,List.getElem?_eq_getElem (by omega)⟩
  rw [gR? hb] at hd
  obtain ⟨c',hbk,hd⟩:=Option.bind_eq_some_iff.1 (show (cK c b).bind (fun d=>bR d (bs.drop (i+1)))=some df from hd)
  obtain ⟨B,cells',q,h'⟩:=A9 h hg (fun t=>by have:=hl t; omega) hv hb (by omega) hbk
  obtain ⟨C,cells2,r,h2⟩:=ih (i+1) m B cells' c' (by omega) (by omega) h' (cw hg hbk).1 (fun t=>by have:=fA hbk hl t; omega) hd
  refine ⟨C,cells2,?_,h2⟩
  rw [aF,vi,q]
  exact r
theorem ev35 (h:aE) {A:aa} {id:Nat} {cells:List AV} {c df:Cal} {p:Pl} {o wv:AV} {ow:Int} (hc:cz A id cells c) (hg:jM c) (hl:∀t,(c t).length<=800) (ho:bY A o 6 (p.stages.map aI)) (hw:SlA 3 (p.wins.map bi) wv) (hv:cL p) (how:1<=ow/\ow<=1000000) (hd:bR c (fB ow p.stages)=some df) :
  ∃B d cells',H35 h [.ptr id 0 0,ax p o wv,.int .i64 ow] A=some (.tup [.ptr d 0 0,.bool true],B)/\Own A B d cells' df:=by
 have F1:=Fr.app A [.row 5 false [ax p o wv]] []
 have l1:(A++[Ent.row 5 false [ax p o wv]]).length=A.length+1:=by simp
 have s1:(A++[Ent.row 5 false [ax p o wv]])[A.length]?=some (.row 5 false [ax p o wv]):=by simp
 have ho1:=ho.fr F1 (by simp)
 have fa:frz (A++[.row 5 false [ax p o wv]]) 4 (ax p o wv)=ax p (slA 6 (p.stages.map aI)) wv:=by
  have f1:frz (A++[.row 5 false [ax p o wv]]) 3 o=slA 6 (p.stages.map aI):=ho1.frz 2 fun x hx=>by
   obtain ⟨y,_,rfl⟩:=List.mem_map.1 hx
   rfl
  have f2:frz (A++[.row 5 false [ax p o wv]]) 3 wv=wv:=hw.frz 3
  show AV.agg (List.map (frz (A++[.row 5 false [ax p o wv]]) 3) [.int .i64 p.e,.int .i64 p.lo,.int .i64 p.hi,o,wv])=_
  simp only [List.map_cons,List.map_nil,f1,f2]
  rfl
 have m86:=IN p (bu 6 (p.stages.map aI)) hw hv how
 have hc1:=hc.fr F1 (by simp) (by simp)
 generalize hA1:A++[Ent.row 5 false [ax p o wv]]=A1 at *
 obtain ⟨B,nc,q87,k1,k2,k3⟩:=On (fun _ _ _=>none) (.inr ⟨id,rfl,hc1.row⟩) hc1.len (fun t a ha=>by
  rcases hc1.slot t a ha with ⟨h1,h2⟩ | ⟨h1,id',h2,h3⟩
  ·exact .inl ⟨h1,h2⟩
  ·exact .inr ⟨h1,.inr ⟨id',h2,h3⟩⟩) (fun t=>by have:=hl t; omega)
 have own:Own A B A1.length nc c:=⟨k1,by omega,fun k hk=>by have:=k3 k hk; omega,F1.trans k2 (fun _ h=>h) (fun _ _ h=>h)⟩
 have hst:=hv.2.2.2.1
 have bl:=ph ow p.stages
 have hbs:=bu 4 ((fB ow p.stages).map bkA)
 obtain ⟨C,cells',lp,h2⟩:=GK hbs (by omega) (fB ow p.stages).length 0 50 B nc c (by omega) (by omega) own hg (fun t=>by have:=hl t; omega) (by rw [List.drop_zero]; exact hd)
 refine ⟨C,A1.length,cells',?_,h2⟩
 have hln:ay (slA 4 ((fB ow p.stages).map bkA))=some (.int .i64 ((fB ow p.stages).length:Int)):=by
  have:=hbs.len
  rw [List.length_map] at this
  exact this
 have b1:=iS ((fB ow p.stages).length:Int) 0
 rw [decide_eq_true (by omega)] at b1
 have lp:bI (evC (ac GS yU) 50 ko) jk 50 (lG (slA 4 ((fB ow p.stages).map bkA)) (.ptr A1.length 0 0) (slA 4 ((fB ow p.stages).map bkA)) (.int .i64 ((fB ow p.stages).length:Int)) (.int .i64 0)) B=_:=lp
 have fi:∀n,frz A1 4 (.int .i64 n)=.int .i64 n:=fun _=>rfl
 unfold H35
 rw [aH _ _ rfl]
 clear hbs own h2
 generalize slA 4 ((fB ow p.stages).map bkA)=sl at *
 generalize slA 6 (p.stages.map aI)=s6 at *
 generalize ((fB ow p.stages).length:Int)=N at *
 generalize A1.length=did at *
 unfold ax at *
 simp [K8,hA1,s1,fa,fi,m86,q87,hln,b1,G2 lp,-aj,-ay,-frz]
def Mg:List (FuncId × aB):=[(35,H35)]
@[simp] theorem Mf:aR Mg 35=some H35:=rfl
def H10:aB:=fun _=>bN (ac GS Mg) 0 Le
theorem Fg:au Tryz.prog GS 10 H10:=(aG (E:=ac GS Mg) (ai (ag Fa an)) rfl at10 IA aU.nil).y
theorem Oq (h:aE) {A:aa} {id:Nat} {cells:List AV} {c df:Cal} {p:Pl} {o wv:AV} {ow:Int} (hc:cz A id cells c) (hg:jM c) (hl:∀t,(c t).length<=800) (ho:bY A o 6 (p.stages.map aI)) (hw:SlA 3 (p.wins.map bi) wv) (hv:cL p) (how:1<=ow/\ow<=1000000) (hd:bR c (fB ow p.stages)=some df) :
  ∃B cells',H10 h [.ptr id 0 0,ax p o wv,.int .i64 ow] A=some (.int .i64 0,B)/\cz B id cells' df/\Fr A B [id]/\∀k∈fQ cells',A.length<=k:=by
 have F1:=Fr.app A [.row 5 false [ax p o wv]] []
 have l1:(A++[Ent.row 5 false [ax p o wv]]).length=A.length+1:=by simp
 have s1:(A++[Ent.row 5 false [ax p o wv]])[A.length]?=some (.row 5 false [ax p o wv]):=by simp
 have lid:=(List.getElem?_eq_some_iff.1 hc.row).1
 obtain ⟨B,d,cells',q,hO⟩:=ev35 (fun _ _ _=>none) (hc.fr F1 (by simp) (by simp)) hg hl (ho.fr F1 (by simp)) hw hv how hd
 have idB:=hO.fr.at (F1.at hc.row (by simp)) (by simp)
 have dB:=hO.cal.row
 have lB:id<B.length:=(List.getElem?_eq_some_iff.1 idB).1
 have lO:=hO.lo
 rw [l1] at lO
 have ids:=hO.ids
 rw [l1] at ids
 have FB:Fr B (B.set id (.row 60 false [.agg cells'])) [id]:=Fr.set _ _ _
 refine ⟨B.set id (.row 60 false [.agg cells']),cells',?_,⟨List.getElem?_set_self lB,hO.cal.len,fun t a ha=>(hO.cal.slot t a ha).fr FB (fun k hk hm=>?_),hO.cal.apart,fun t a ha hm=>?_⟩,((F1.trans hO.fr (fun _ h=>h) (fun _ _ h=>h)).trans FB (fun _ h=>by cases h) (fun _ _ h=>h)),fun k hk=>by have:=ids k hk; omega⟩
 ·have h60:cells'.length=60:=hO.cal.len
  have h60':cells.length=60:=hc.len
  generalize hA1:A++[Ent.row 5 false [ax p o wv]]=A1 at *
  clear hO hc FB ids lB
  unfold H10
  rw [aH _ _ rfl]
  unfold ax at *
  simp [Le,hA1,s1,q,dB,idB,h60,az]
 ·have:=ids k (cM.2 ⟨t,a,ha,hk⟩)
  simp at hm
  omega
 ·have:=ids id (cM.2 ⟨t,a,ha,hm⟩)
  omega
end Sh
namespace Sh
theorem uW {a n:Int} (ha:inI a) (hn:0<n):aj .quo (.int .i64 a) (.int .i64 n)=some (.int .i64 (a.tdiv n))/\inI (a.tdiv n):=by
 have h:inI (a.tdiv n):=by
  unfold inI at *
  have h1:(a.tdiv n).natAbs<=a.natAbs:=by
   rw [Int.natAbs_tdiv]; exact Nat.div_le_self _ _
  by_cases h0:0<=a
  ·have:=Int.tdiv_nonneg h0 (Int.le_of_lt hn)
   omega
  ·have h2:0<=(-a).tdiv n:=Int.tdiv_nonneg (by omega) (Int.le_of_lt hn)
   rw [Int.neg_tdiv] at h2
   omega
 refine ⟨?_,h⟩
 simp only [aj]
 rw [if_pos trivial,if_neg (by omega),eo h]
structure fO where
 a:Int
 b:Int
 c:Int
 d:Int
def fO.ok (q:fO):Prop:=inI q.a/\inI q.b/\inI q.c/\inI q.d
def cB (q:fO):AV:=.agg [.int .i64 q.a,.int .i64 q.b,.int .i64 q.c,.int .i64 q.d]
def bkS (q:fO):Bk:=⟨aL q.a 6,aL q.b 300,aL q.b 300+1+aL q.c 40,1+aL q.d 6⟩
def EB:List (FuncId × aB):=[(76,aK 4 M21)]
@[simp] theorem L5:aR EB 76=some (aK 4 M21):=rfl
def H30:aB:=fun _=>bN (ac GS EB) 50 La
theorem Fe:au Tryz.prog GS 30 H30:=(aG (E:=ac GS EB) (ai (ag (au.of_pure E2 4) an)) rfl at30 It (aU.cons (M:=_) rfl aU.nil)).y
theorem idx4 {A:aa} (a b c d:AV):aS 4 1 A (.fp [a,b,c,d]) (.int .i64 0)=some (.fp [a,b,c,d])/\aS 4 1 A (.fp [a,b,c,d]) (.int .i64 1)=some (.fp [b,c,d])/\aS 4 1 A (.fp [a,b,c,d]) (.int .i64 2)=some (.fp [c,d])/\aS 4 1 A (.fp [a,b,c,d]) (.int .i64 3)=some (.fp [d]):=⟨rfl,rfl,rfl,rfl⟩
theorem Bb {A:aa} {xv o:AV} {qs:List fO} {bs:List Bk} {i:Nat} {q:fO} (hx:SlA 4 (qs.map cB) xv) (hq:qs[i]?=some q) (hok:q.ok) (hl:qs.length<=30) (ho:bY A o 4 (bs.map bkA)) (hbl:bs.length<=100) :
  ∃B,run (ac GS EB) 50 [.code kr] (lN xv o (.int .i64 (i:Int))) A=some (.normal (lN xv (.sl A.length 0 (bs.length+1)) (.int .i64 ((i+1:Nat):Int))) B)/\bY B (.sl A.length 0 (bs.length+1)) 4 ((bs++[bkS q]).map bkA)/\Fr A B (aC o):=by
 have hi:i<qs.length:=(List.getElem?_eq_some_iff.1 hq).1
 have b1:=bK i qs.length .i64
 rw [decide_eq_true hi] at b1
 have b2:aj .lss (.int .i64 (i:Int)) (.int .i64 40)=some (.bool true):=by rw [di,decide_eq_true (by omega)]
 have b3:=aY i (by omega)
 have hlx:ay xv=some (.int .i64 (qs.length:Int)):=by
  have:=hx.len
  rw [List.length_map] at this
  exact this
 have x1:∀A,ae 4 A xv (.int .i64 (i:Int))=some (.fp [.int .i64 q.a,.int .i64 q.b,.int .i64 q.c,.int .i64 q.d]):=fun A=>hx.index (A:=A) (x:=cB q) (by rw [List.getElem?_map,hq]; rfl) rfl (by omega) .i64
 obtain ⟨k1,k2,k3,k4⟩:=hok
 have m1:=cy k1 (n:=6) (by omega)
 have m2:=cy k2 (n:=300) (by omega)
 have m3:=cy k3 (n:=40) (by omega)
 have m4:=cy k4 (n:=6) (by omega)
 have p2:=aX q.b (n:=300) (by omega)
 have p3:=aX q.c (n:=40) (by omega)
 have p4:=aX q.d (n:=6) (by omega)
 have a1:aj .add (.int .i64 (aL q.b 300)) (.int .i64 1)=some (.int .i64 (aL q.b 300+1)):=by
  simp only [aj]; rw [if_pos trivial,eo (by unfold inI; omega)]
 have a2:aj .add (.int .i64 (aL q.b 300+1)) (.int .i64 (aL q.c 40))=some (.int .i64 (aL q.b 300+1+aL q.c 40)):=by
  simp only [aj]; rw [if_pos trivial,eo (by unfold inI; omega)]
 have a3:aj .add (.int .i64 1) (.int .i64 (aL q.d 6))=some (.int .i64 (1+aL q.d 6)):=by
  simp only [aj]; rw [if_pos trivial,eo (by unfold inI; omega)]
 obtain ⟨B,ap,h1,h2,h3⟩:=ho.append (bytes:=32) (bkA (bkS q)) (by omega) (by omega) (by rw [List.length_map]; omega)
 rw [List.length_map] at ap h1
 refine ⟨B,?_,by rw [List.map_append]; exact h1,h2⟩
 have i4:=fun A=>idx4 (A:=A) (.int .i64 q.a) (.int .i64 q.b) (.int .i64 q.c) (.int .i64 q.d)
 unfold bkA bkS at ap
 simp only at ap
 clear h1 h2 h3 p2 p3 p4 hq hi
 generalize aL q.b 300+1+aL q.c 40=z1 at *
 generalize aL q.b 300+1=z2 at *
 generalize 1+aL q.d 6=z3 at *
 generalize ((i+1:Nat):Int)=I1 at *
 generalize (qs.length:Int)=N at *
 generalize (i:Int)=I at *
 simp [kr,b1,b2,b3,hlx,x1,m1,m2,m3,m4,a1,a2,a3,ap,i4,-aj,-ae,-ay]
end Sh
namespace Sh
theorem pV {len M:Int}:∀ {l:List Bk} {f t:Int},eg len f l=some t->(∀b∈l,b.fin<=M)->t<=max f M
 | [],f,t,h,_=>by
  unfold eg at h
  split at h
  ·injection h with h; omega
  ·cases h
 | b :: l,f,t,h,hb=>by
  unfold eg at h
  split at h
  ·injection h with h; omega
  ·have h1:=pV h (fun x hx=>hb x (List.mem_cons_of_mem _ hx))
   have h2:=hb b (by simp)
   omega
def dY (c:Cal) (M:Int):Prop:=∀t,∀b∈c t,b.fin<=M
theorem dY.mono {c:Cal} {M N:Int} (h:dY c M) (hMN:M<=N):dY c N:=fun t b hb=>Int.le_trans (h t b hb) hMN
theorem dY.book {c d:Cal} {b:Bk} {M:Int} (hc:jM c) (h:dY c M) (hb:cK c b=some d) (hf:b.fin<=M):dY d M:=fun t x hx=>by
 rcases ((cw hc hb).2.2.2 t x).1 hx with ⟨_,rfl⟩ | hx
 ·exact hf
 ·exact h t x hx
theorem pU {c:Cal} {tool f len t M:Int} (h:cE c tool f len=some t) (hc:dY c M) (hM:0<=M):t<=max f M:=by
 unfold cE at h
 split at h
 ·have:=pV h (hc _)
  omega
 ·cases h
theorem rM {hi:Int} (hhi:0<=hi/\hi<=10):∀ {l:List Nd} {c d:Cal} {t M:Int} {st:List Stg},dj c->cd hi c t l=some (d,st)->dY c M->t<=M->0<=M->(∀x∈l,x.mx<=30) ->
  (∀x∈st,x.ms+x.mx<=M+80*l.length/\x.ss+x.mx<=M+80*l.length)
 | [],c,d,t,M,st,_,h,_,_,_,_=>by
  unfold cd at h
  injection h with h
  injection h with _ h
  subst h
  intro x hx; cases hx
 | y :: r,c,d,t,M,st,hc,h,hM,ht,h0,hl=>by
  unfold cd at h
  obtain ⟨a,ha,h⟩:=Option.bind_eq_some_iff.1 h
  obtain ⟨_,l1,_,c1,e1,f1⟩:=dn hc ha
  rw [e1,Option.getD_some] at h
  obtain ⟨b,hb,h⟩:=Option.bind_eq_some_iff.1 h
  obtain ⟨_,_,_,c2,e2,f2⟩:=dn f1 hb
  rw [e2,Option.getD_some] at h
  obtain ⟨⟨d',st'⟩,hq,h⟩:=Option.map_eq_some_iff.1 h
  injection h with _ h
  have hy:=hl y (by simp)
  have a1:=pU ha hM h0
  have M1:dY c1 (M+40):=dY.book hc.1 (hM.mono (by omega)) e1 (by simp only; omega)
  have b1:=pU hb M1 (by omega)
  have M2:dY c2 (M+80):=dY.book f1.1 (M1.mono (by omega)) e2 (by simp only; omega)
  have ih:=rM hhi f2 hq M2 (by omega) (by omega) (fun x hx=>hl x (List.mem_cons_of_mem _ hx))
  have el:((y :: r).length:Int)=(r.length:Int)+1:=by simp
  have r0:(0:Int)<=(r.length:Int):=Int.natCast_nonneg _
  intro x hx
  rw [<-h] at hx
  rw [el]
  rcases List.mem_cons.1 hx with rfl | hx
  ·simp only
   omega
  ·have:=ih x hx
   omega
theorem DY {c d:Cal} {ow M:Int} {st:List Stg} (hc:jM c) (h:bR c (fB ow st)=some d) (hM:dY c M) (hs:∀x∈st,x.ms+x.mx<=M/\x.ss+x.mx<=M):dY d M:=fun t b hb=>by
 rcases ((dx hc h).2.1 t b).1 hb with ⟨hb,_⟩ | hb
 ·unfold fB at hb
  obtain ⟨x,hx,hb⟩:=List.mem_flatMap.1 hb
  have:=hs x hx
  simp at hb
  rcases hb with rfl | rfl
  ·exact this.1
  ·exact this.2
 ·exact hM t b hb
end Sh
namespace Sh
theorem GM {xv:AV} {qs:List fO} (hx:SlA 4 (qs.map cB) xv) (hok:∀q∈qs,q.ok) (hl:qs.length<=30):∀(κ i m:Nat) (o:AV) (A:aa),i+κ=qs.length->κ<m->bY A o 4 (((qs.take i).map bkS).map bkA) ->
  ∃B o',bI (evC (ac GS EB) 50 kr) jm m (lN xv o (.int .i64 (i:Int))) A=some (.exit 0 ((lN xv o' (.int .i64 (qs.length:Int))).set 5 (.bool false)) B)/\bY B o' 4 ((qs.map bkS).map bkA)/\Fr A B (aC o)/\(∀k∈aC o',k∈aC o\/A.length<=k):=by
 intro κ
 induction κ with
 | zero=>
  intro i m o A hi hm ho
  obtain ⟨m,rfl⟩:∃m',m=m'+1:=⟨m-1,by omega⟩
  obtain rfl:i=qs.length:=by omega
  rw [List.take_length] at ho
  refine ⟨A,o,?_,ho,Fr.refl _ _,fun k hk=>.inl hk⟩
  have hlx:ay xv=some (.int .i64 (qs.length:Int)):=by
   have:=hx.len
   rw [List.length_map] at this
   exact this
  rw [aF,vo]
  have b1:=bK qs.length qs.length .i64
  rw [decide_eq_false (by omega)] at b1
  generalize (qs.length:Int)=N at *
  simp [kr,hlx,b1,-aj,-ay]
 | succ κ ih=>
  intro i m o A hi hm ho
  obtain ⟨m,rfl⟩:∃m',m=m'+1:=⟨m-1,by omega⟩
  obtain ⟨q,hq⟩:∃q,qs[i]?=some q:=⟨_,List.getElem?_eq_getElem (by omega)⟩
  obtain ⟨B,r,h1,h2⟩:=Bb hx hq (hok q (List.mem_of_getElem? hq)) hl ho (by simp; omega)
  have et:(qs.take i).map bkS++[bkS q]=(qs.take (i+1)).map bkS:=by
   rw [List.take_add_one,hq]; simp
  rw [et] at h1
  obtain ⟨C,o',r2,k1,k2,k3⟩:=ih (i+1) m _ B (by omega) (by omega) h1
  refine ⟨C,o',?_,k1,h2.trans k2 (fun _ h=>h) (fun j hj hm=>by simp [aC] at hm; omega),fun k hk=>?_⟩
  ·rw [aF,vo,r]
   exact r2
  ·rcases k3 k hk with h | h
   ·simp [aC] at h; exact .inr (by omega)
   ·have:=h2.1; exact .inr (by omega)
theorem ev30 (h:aE) {A:aa} {xv:AV} {qs:List fO} (hx:SlA 4 (qs.map cB) xv) (hok:∀q∈qs,q.ok) (hl:qs.length<=30) :
  ∃B o,H30 h [xv] A=some (o,B)/\bY B o 4 ((qs.map bkS).map bkA)/\Fr A B []/\∀k∈aC o,A.length<=k:=by
 obtain ⟨B,o,lp,h1,h2,h3⟩:=GM hx hok hl qs.length 0 50 .nilS A (by omega) (by omega) (.inl ⟨rfl,rfl⟩)
 refine ⟨B,o,?_,h1,h2,fun k hk=>by
  rcases h3 k hk with h | h
  ·cases h
  ·exact h⟩
 have lp:bI (evC (ac GS EB) 50 kr) jm 50 (lN xv .nilS (.int .i64 0)) A=_:=lp
 unfold H30
 rw [aH _ _ rfl]
 simp [La,G6 lp]
def ni (b:Bk):Bk:=⟨b.tool,b.start,b.fin,90⟩
def fs7:List (FuncId × aB):=[(29,H29),(30,H30),(31,H31)]
@[simp] theorem Oe:aR fs7 29=some H29:=rfl
@[simp] theorem Od:aR fs7 30=some H30:=rfl
@[simp] theorem Oc:aR fs7 31=some H31:=rfl
def H7:aB:=fun _=>bN (ac GS fs7) 50 mf7
theorem KH:au Tryz.prog GS 7 H7:=(aG (E:=ac GS fs7) (ai (ag yw (ag Fe (ag tO an)))) rfl at7 Mx aU.nil).y
structure At7 (A0 A:aa) (d oid:Nat) (cells:List AV) (c:Cal) (es:List AV):Prop where
 own:Own A0 A d cells c
 full:dj c
 row:A[oid]?=some (.row 4 false es)
 out:A0.length<=oid/\oid≠d/\oid ∉ fQ cells
theorem Z5 {A0 A:aa} {d oid i:Nat} {cells:List AV} {c:Cal} {es:List AV} {b:Bk} (h:At7 A0 A d oid cells c es) (hl:∀t,(c t).length<=100) (he:es[i]?=some (bkA b)) (hel:es.length<=30) :
  ∃B cells' c',run (ac GS fs7) 50 [.code ml] (oC (.ptr d 0 0) (.sl oid 0 es.length) (.int .i64 (i:Int))) A=some (.normal (oC (.ptr d 0 0) (.sl oid 0 es.length) (.int .i64 ((i+1:Nat):Int))) B)/\At7 A0 B d oid cells' c' (es.set i (bkA (ni b)))/\(∀N,(∀t,(c t).length<=N)->∀t,(c' t).length<=N+1)/\∀M,b.fin<=M->dY c M->dY c' M:=by
 have hi:i<es.length:=(List.getElem?_eq_some_iff.1 he).1
 have b1:=bK i es.length .i64
 rw [decide_eq_true hi] at b1
 have b3:=aY i (by omega)
 have lo:=(List.getElem?_eq_some_iff.1 h.row).1
 have x1:ae 4 A (.sl oid 0 es.length) (.int .i64 (i:Int))=some (.ptr oid i 0):=by
  simp only [ae,h.row]
  rw [if_pos ⟨trivial,by omega,by omega,by omega⟩]
  simp
 have F:Fr A (A.set oid (.row 4 false (es.set i (bkA (ni b))))) [oid]:=Fr.set _ _ _
 have r1:(A.set oid (.row 4 false (es.set i (bkA (ni b)))))[oid]?=some (.row 4 false (es.set i (bkA (ni b)))):=List.getElem?_set_self lo
 have x2:ae 4 (A.set oid (.row 4 false (es.set i (bkA (ni b))))) (.sl oid 0 es.length) (.int .i64 (i:Int))=some (.ptr oid i 0):=by
  simp only [ae,r1]
  rw [if_pos ⟨trivial,by omega,by omega,by simp; omega⟩]
  simp
 have e2:(es.set i (bkA (ni b)))[i]?=some (bkA (ni b)):=List.getElem?_set_self hi
 have hcal:=h.own.cal.fr F (by simp; exact fun e=>h.out.2.1 e.symm) (fun k hk hm=>by simp at hm; subst hm; exact h.out.2.2 hk)
 have low:=hZ h.own.cal
 have hr:=h.row
 rcases Mi (fun _ _ _=>none) hcal (fun t=>mu (h.full.1 t)) (fun t=>by have:=hl t; omega) (ni b) with ⟨c2,B,cells',k1,k2,k3,k4,k5⟩ | ⟨B,k1,k2,k3,k4⟩
 ·refine ⟨B,cells',c2,?_,⟨⟨k3,h.own.lo,fun k hk=>?_,?_⟩,pR h.full k1,k4.at r1 (fun hm=>?_),h.out.1,h.out.2.1,fun hm=>?_⟩,fun N hN t=>fA k1 hN t,fun M hM hF=>dY.book h.full.1 hF k1 hM⟩
  ·clear hcal F lo low h hi
   unfold bkA ni at *
   simp only at k2 r1 x2 e2
   generalize ((i+1:Nat):Int)=I1 at *
   generalize hN:(es.length:Int)=N at *
   generalize hI:(i:Int)=I at *
   simp [ml,b1,b3,x1,x2,hr,he,r1,e2,k2,az,hN,-aj,-ae]
  ·rcases k5 k hk with h' | h'
   ·exact h.own.ids k h'
   ·have:=h.own.fr.1; simp at h'; omega
  ·exact (h.own.fr.trans F (fun _ h=>h) (fun j hj hm=>by simp at hm; have:=h.out.1; omega)).trans k4 (fun _ h=>h) (fun j hj hm=>by
    rcases List.mem_cons.1 hm with hm | hm
    ·have:=h.own.lo; omega
    ·have:=h.own.ids j hm; omega)
  ·rcases List.mem_cons.1 hm with hm | hm
   ·exact h.out.2.1 hm
   ·exact h.out.2.2 hm
  ·rcases k5 _ hm with h' | h'
   ·exact h.out.2.2 h'
   ·simp at h'; omega
 ·refine ⟨B,cells,c,?_,⟨⟨k3,h.own.lo,h.own.ids,?_⟩,h.full,k4.at r1 (by simp),h.out⟩,fun N hN t=>by have:=hN t; omega,fun _ _ hF=>hF⟩
  ·clear hcal F lo low h hi
   unfold bkA ni at *
   simp only at k2 r1 x2 e2
   generalize ((i+1:Nat):Int)=I1 at *
   generalize hN:(es.length:Int)=N at *
   generalize hI:(i:Int)=I at *
   simp [ml,b1,b3,x1,x2,hr,he,r1,e2,k2,az,hN,-aj,-ae]
  ·exact (h.own.fr.trans F (fun _ h=>h) (fun j hj hm=>by simp at hm; have:=h.out.1; omega)).trans k4 (fun _ h=>h) (fun _ _ h=>h)
end Sh
namespace Sh
theorem r6:dj (fun _=>[]):=⟨fun _=>⟨List.Pairwise.nil,fun _ h=>by cases h⟩,fun _ _ h=>by cases h⟩
theorem Lf {A0:aa} {d oid n:Nat} (hn:n<=20):∀(κ i m:Nat) (A:aa) (cells:List AV) (c:Cal) (es:List AV),i+κ=n->κ<m->es.length=n->At7 A0 A d oid cells c es->(∀t,(c t).length<=i)->dY c 340->(∀j,i<=j->j<n->∃b,es[j]?=some (bkA b)/\b.fin<=340) ->
  ∃B cells' c',bI (evC (ac GS fs7) 50 ml) jU m (oC (.ptr d 0 0) (.sl oid 0 n) (.int .i64 (i:Int))) A=some (.exit 0 ((oC (.ptr d 0 0) (.sl oid 0 n) (.int .i64 (n:Int))).set 5 (.bool false)) B)/\Own A0 B d cells' c'/\dj c'/\(∀t,(c' t).length<=n)/\dY c' 340:=by
 intro κ
 induction κ with
 | zero=>
  intro i m A cells c es hi hm he h hl hfl _
  obtain ⟨m,rfl⟩:∃m',m=m'+1:=⟨m-1,by omega⟩
  obtain rfl:i=n:=by omega
  refine ⟨A,cells,c,?_,h.own,h.full,hl,hfl⟩
  rw [aF,ya]
  simp [ml]
 | succ κ ih=>
  intro i m A cells c es hi hm he h hl hfl hb
  obtain ⟨m,rfl⟩:∃m',m=m'+1:=⟨m-1,by omega⟩
  obtain ⟨b,hbi,hb3⟩:=hb i (Nat.le_refl _) (by omega)
  obtain ⟨B,cells1,c1,q,h1,h2,h3⟩:=Z5 h (fun t=>by have:=hl t; omega) hbi (by omega)
  obtain ⟨C,cells2,c2,r,k⟩:=ih (i+1) m B cells1 c1 _ (by omega) (by omega) (by rw [List.length_set]; exact he) h1 (h2 i hl) (h3 340 hb3 hfl) (fun j hj hj'=>by
   rw [List.getElem?_set_ne (by omega)]
   exact hb j (by omega) hj')
  rw [he] at q
  refine ⟨C,cells2,c2,?_,k⟩
  rw [aF,ya,q]
  exact r
theorem ev7 (h:aE) {A:aa} {xv:AV} {qs:List fO} (hx:SlA 4 (qs.map cB) xv) (hok:∀q∈qs,q.ok) :
  ∃B d cells c,H7 h [xv] A=some (.ptr d 0 0,B)/\Own A B d cells c/\dj c/\(∀t,(c t).length<=20)/\dY c 340:=by
 have e29:=Oo (fun _ _ _=>none) A
 have hc0:=vB A
 have F0:Fr A (A++[.row 60 false [.agg eZ]]) []:=Fr.app _ _ _
 have l0:(A++[Ent.row 60 false [.agg eZ]]).length=A.length+1:=by simp
 have nid:fQ eZ=[]:=by
  apply List.eq_nil_iff_forall_not_mem.2
  intro k hk
  obtain ⟨t,a,ha,hka⟩:=cM.1 hk
  have:=List.mem_of_getElem? ha
  unfold eZ at this
  rw [(List.mem_replicate.1 this).2] at hka
  cases hka
 generalize hA1:A++[Ent.row 60 false [.agg eZ]]=A1 at *
 obtain ⟨xv',hs,hx'⟩:=SlA.cutHi (A:=A1) hx (min qs.length 20) (by simp; omega) .i64
 rw [<-List.map_take] at hx'
 obtain ⟨B,o,q30,k1,k2,k3⟩:=ev30 (fun _ _ _=>none) (A:=A1) hx' (fun q hq=>hok q (List.mem_of_mem_take hq)) (by simp; omega)
 have hcast:((min qs.length 20:Nat):Int)=if (20:Int)<(qs.length:Int) then 20 else (qs.length:Int):=by split <;> omega
 rw [hcast] at hs
 have hlx:ay xv=some (.int .i64 (qs.length:Int)):=by
  have:=hx.len
  rw [List.length_map] at this
  exact this
 have own:Own A B A.length eZ (fun _=>[]):=⟨hc0.fr k2 (by simp) (by simp),Nat.le_refl _,by rw [nid]; simp,F0.trans k2 (fun _ h=>h) (fun _ _ h=>h)⟩
 rcases k1 with ⟨rfl,h0⟩ | ⟨h1,oid,rfl,h2⟩
 ·refine ⟨B,A.length,eZ,_,?_,own,r6,fun t=>by simp,fun _ _ h=>by cases h⟩
  have lp:bI (evC (ac GS fs7) 50 ml) jU 50 (oC (.ptr A.length 0 0) .nilS (.int .i64 0)) B=some (.exit 0 ((oC (.ptr A.length 0 0) .nilS (.int .i64 0)).set 5 (.bool false)) B):=by
   rw [aF,ya]
   have:aj .lss (.int .i64 0) (.int .i64 0)=some (.bool false):=by simp [aj]
   simp [ml,this,-aj]
  unfold H7
  rw [aH _ _ rfl]
  clear hcast hx hx' k2 own F0 l0
  simp [mf7,e29,hlx,hs,q30,G1 lp,-ay,-bW]
 ·have hoid:A1.length<=oid:=k3 oid (by simp [aC])
  obtain ⟨bs,hbs⟩:∃bs,bs=(qs.take (min qs.length 20)).map bkS:=⟨_,rfl⟩
  rw [<-hbs] at h1 h2 q30
  have lb:(bs.map bkA).length<=20:=by rw [hbs]; simp; omega
  obtain ⟨C,cells',c',lp,w1,w2,w3,w4⟩:=Lf (n:=(bs.map bkA).length) lb (bs.map bkA).length 0 50 B eZ (fun _=>[]) (bs.map bkA) (by omega) (by omega) rfl ⟨own,r6,h2,by omega,by omega,by rw [nid]; simp⟩ (fun t=>by simp) (fun _ _ h=>by cases h) (fun j _ hj=>by
   rw [List.length_map] at hj
   refine ⟨bs[j],by rw [List.getElem?_map,List.getElem?_eq_getElem hj]; rfl,?_⟩
   have hm:bs[j]∈(qs.take (min qs.length 20)).map bkS:=by rw [<-hbs]; exact List.getElem_mem hj
   obtain ⟨q,hq,e⟩:=List.mem_map.1 hm
   rw [<-e]
   have p1:=aX q.b (n:=300) (by omega)
   have p2:=aX q.c (n:=40) (by omega)
   show aL q.b 300+1+aL q.c 40<=340
   omega)
  refine ⟨C,A.length,cells',c',?_,w1,w2,fun t=>by have:=w3 t; omega,w4⟩
  have lp:bI (evC (ac GS fs7) 50 ml) jU 50 (oC (.ptr A.length 0 0) (.sl oid 0 (bs.map bkA).length) (.int .i64 0)) B=_:=lp
  unfold H7
  rw [aH _ _ rfl]
  clear hcast hx hx' k2 own F0 l0 w1 w2 w3 w4 h1 h2 lb hbs
  generalize (bs.map bkA).length=N at *
  simp [mf7,e29,hlx,hs,q30,G1 lp,-ay,-bW]
end Sh
def kl:MC:=.seq (.seq (.region [⟨none,.mv (.var 7),none⟩,⟨none,.mv (.var 6),none⟩,⟨some 16,.bin .lss (.tmp 0) (.tmp 1),none⟩]) (.cond (.var 16) .skip (.exit 0))) (.seq (.seq (.block 1 (.seq (.region [⟨none,.indexArr 4 1 (.var 3) (.cst (.int .i64 3)),none⟩,⟨none,.load false 1 (.tmp 0),none⟩,⟨none,.indexArr 4 1 (.var 3) (.cst (.int .i64 2)),none⟩,⟨none,.load false 1 (.tmp 2),none⟩,⟨none,.indexArr 4 1 (.var 3) (.cst (.int .i64 1)),none⟩,⟨none,.load false 1 (.tmp 4),none⟩,⟨none,.indexArr 4 1 (.var 3) (.cst (.int .i64 0)),none⟩,⟨none,.load false 1 (.tmp 6),none⟩,⟨none,.build [.int .i64 0,.int .i64 0,.int .i64 0,.int .i64 0] [(0,(1,.tmp 1)),(1,(1,.tmp 3)),(2,(1,.tmp 5)),(3,(1,.tmp 7))],none⟩,⟨some 8,.allocA [.int .i64 0,.int .i64 0,.int .i64 0,.int .i64 0],none⟩,⟨none,.storeA 4 (.var 8) (.tmp 8),none⟩]) (.seq (.seq (.region [⟨none,.mv (.var 7),none⟩,⟨none,.mv (.var 1),none⟩,⟨none,.lenSl (.tmp 1),none⟩,⟨some 17,.bin .lss (.tmp 0) (.tmp 2),none⟩]) (.cond (.var 17) (.region [⟨none,.mv (.var 1),none⟩,⟨none,.mv (.var 7),none⟩,⟨none,.indexSl 4 (.tmp 0) (.tmp 1),none⟩,⟨none,.load true 4 (.tmp 2),none⟩,⟨none,.storeA 4 (.var 8) (.tmp 3),none⟩]) .skip)) (.seq (.region [⟨none,.indexArr 4 1 (.var 8) (.cst (.int .i64 0)),none⟩,⟨none,.load false 1 (.tmp 0),none⟩,⟨none,.call (.fn 34) [.tmp 1,.cst (.int .i64 4)],none⟩,⟨some 9,.mv (.tmp 2),none⟩]) (.seq (.region [⟨none,.mv (.var 9),none⟩,⟨none,.bin .add (.tmp 0) (.cst (.int .i64 1)),none⟩,⟨none,.indexArr 4 1 (.var 8) (.cst (.int .i64 1)),none⟩,⟨none,.load false 1 (.tmp 2),none⟩,⟨none,.call (.fn 34) [.tmp 3,.cst (.int .i64 2)],none⟩,⟨none,.bin .add (.tmp 1) (.tmp 4),none⟩,⟨some 10,.mv (.tmp 5),none⟩]) (.seq (.region [⟨none,.mv (.var 9),none⟩,⟨none,.mv (.var 10),none⟩,⟨none,.buildSlice 1 [.tmp 0,.tmp 1],none⟩,⟨none,.indexArr 4 1 (.var 8) (.cst (.int .i64 2)),none⟩,⟨none,.load false 1 (.tmp 3),none⟩,⟨none,.call (.fn 34) [.tmp 4,.cst (.int .i64 20)],none⟩,⟨none,.bin .add (.cst (.int .i64 1)) (.tmp 5),none⟩,⟨none,.build [.nilS,.int .i64 0,.int .i64 0] [(0,(1,.tmp 2)),(1,(1,.tmp 6))],none⟩,⟨some 11,.alloc 3 (.agg [.nilS,.int .i64 0,.int .i64 0]),none⟩,⟨none,.store 3 (.var 11) (.tmp 7),none⟩]) (.seq (.seq (.region [⟨none,.indexArr 4 1 (.var 8) (.cst (.int .i64 1)),none⟩,⟨none,.load false 1 (.tmp 0),none⟩,⟨none,.bin .quo (.tmp 1) (.cst (.int .i64 2)),none⟩,⟨none,.call (.fn 34) [.tmp 2,.cst (.int .i64 3)],none⟩,⟨some 18,.bin .eql (.tmp 3) (.cst (.int .i64 0)),none⟩]) (.cond (.var 18) (.regionD [34] [⟨none,.fieldAddr 0 (.var 11),none⟩,⟨none,.load false 1 (.tmp 0),none⟩,⟨none,.mv (.var 10),none⟩,⟨none,.bin .add (.tmp 2) (.cst (.int .i64 1)),none⟩,⟨none,.indexArr 4 1 (.var 8) (.cst (.int .i64 1)),none⟩,⟨none,.load false 1 (.tmp 4),none⟩,⟨none,.bin .quo (.tmp 5) (.cst (.int .i64 6)),none⟩,⟨none,.call (.fn 34) [.tmp 6,.cst (.int .i64 2)],none⟩,⟨none,.bin .add (.tmp 3) (.tmp 7),none⟩,⟨none,.buildSlice 1 [.tmp 8],none⟩,⟨none,.appendN 1 8 (.tmp 1) (.tmp 9),none⟩,⟨none,.fieldAddr 0 (.var 11),none⟩,⟨none,.store 1 (.tmp 11) (.tmp 10),none⟩] [(0,9),(1,9)]) .skip)) (.seq (.region [⟨none,.fieldAddr 1 (.var 11),none⟩,⟨none,.load false 1 (.tmp 0),none⟩,⟨none,.indexArr 4 1 (.var 8) (.cst (.int .i64 3)),none⟩,⟨none,.load false 1 (.tmp 2),none⟩,⟨none,.call (.fn 34) [.tmp 3,.cst (.int .i64 8)],none⟩,⟨none,.bin .add (.tmp 1) (.tmp 4),none⟩,⟨none,.fieldAddr 2 (.var 11),none⟩,⟨none,.store 1 (.tmp 6) (.tmp 5),none⟩]) (.region [⟨none,.fieldAddr 3 (.var 5),none⟩,⟨none,.load false 1 (.tmp 0),none⟩,⟨none,.load true 3 (.var 11),none⟩,⟨none,.buildSlice 3 [.tmp 2],none⟩,⟨none,.appendN 3 40 (.tmp 1) (.tmp 3),none⟩,⟨none,.fieldAddr 3 (.var 5),none⟩,⟨none,.store 1 (.tmp 5) (.tmp 4),none⟩]))))))))) (.kill [0,8,9,10,11,12,13,14,15,16,17,18,19,20])) (.region [⟨none,.mv (.var 7),none⟩,⟨none,.bin .add (.tmp 0) (.cst (.int .i64 1)),none⟩,⟨some 7,.mv (.tmp 1),none⟩]))
def jo:MC:=.seq (.seq (.region [⟨none,.mv (.var 12),none⟩,⟨none,.mv (.var 2),none⟩,⟨none,.lenSl (.tmp 1),none⟩,⟨none,.bin .lss (.tmp 0) (.tmp 2),none⟩,⟨none,.mv (.tmp 3),none⟩,⟨none,.mv (.var 12),some (.tmp 4,true)⟩,⟨none,.bin .lss (.tmp 5) (.cst (.int .i64 3)),some (.tmp 4,true)⟩,⟨some 19,.pick (.tmp 4) (.tmp 6) (.cst (.bool false)),none⟩]) (.cond (.var 19) .skip (.exit 2))) (.seq (.seq (.block 3 (.seq (.region [⟨none,.mv (.var 2),none⟩,⟨none,.mv (.var 12),none⟩,⟨none,.indexSl 2 (.tmp 0) (.tmp 1),none⟩,⟨none,.indexArr 2 1 (.tmp 2) (.cst (.int .i64 0)),none⟩,⟨none,.load false 1 (.tmp 3),none⟩,⟨none,.call (.fn 34) [.tmp 4,.cst (.int .i64 3)],none⟩,⟨some 13,.mv (.tmp 5),none⟩]) (.seq (.regionD [34] [⟨none,.buildF 1 [.cst (.int .i64 0),.cst (.int .i64 0),.cst (.int .i64 1)],none⟩,⟨none,.mv (.var 13),none⟩,⟨none,.indexSl 1 (.tmp 0) (.tmp 1),none⟩,⟨none,.load false 1 (.tmp 2),none⟩,⟨none,.buildF 1 [.cst (.int .i64 1),.cst (.int .i64 2),.cst (.int .i64 2)],none⟩,⟨none,.mv (.var 13),none⟩,⟨none,.indexSl 1 (.tmp 4) (.tmp 5),none⟩,⟨none,.load false 1 (.tmp 6),none⟩,⟨none,.mv (.var 2),none⟩,⟨none,.mv (.var 12),none⟩,⟨none,.indexSl 2 (.tmp 8) (.tmp 9),none⟩,⟨none,.indexArr 2 1 (.tmp 10) (.cst (.int .i64 1)),none⟩,⟨none,.load false 1 (.tmp 11),none⟩,⟨none,.call (.fn 34) [.tmp 12,.cst (.int .i64 150)],none⟩,⟨none,.build [.int .i64 0,.int .i64 0,.int .i64 0] [(0,(1,.tmp 3)),(1,(1,.tmp 7)),(2,(1,.tmp 13))],none⟩,⟨some 14,.alloc 3 (.agg [.int .i64 0,.int .i64 0,.int .i64 0]),none⟩,⟨none,.store 3 (.var 14) (.tmp 14),none⟩] [(2,15),(3,15),(6,15),(7,15),(10,15),(11,15),(12,15),(13,15)]) (.seq (.region [⟨none,.fieldAddr 4 (.var 5),none⟩,⟨none,.load false 1 (.tmp 0),none⟩,⟨none,.lenSl (.tmp 1),none⟩,⟨some 15,.mv (.tmp 2),none⟩]) (.seq (.region [⟨none,.fieldAddr 1 (.var 14),none⟩,⟨none,.load false 1 (.tmp 0),none⟩,⟨none,.mv (.var 6),none⟩,⟨none,.bin .lss (.tmp 1) (.tmp 2),none⟩,⟨none,.mv (.tmp 3),none⟩,⟨none,.mv (.var 15),some (.tmp 4,true)⟩,⟨none,.bin .eql (.tmp 5) (.cst (.int .i64 0)),some (.tmp 4,true)⟩,⟨none,.mv (.tmp 6),some (.tmp 4,true)⟩,⟨none,.fieldAddr 4 (.var 5),some (.tmp 7,false)⟩,⟨none,.load false 1 (.tmp 8),some (.tmp 7,false)⟩,⟨none,.mv (.var 15),some (.tmp 7,false)⟩,⟨none,.bin .sub (.tmp 10) (.cst (.int .i64 1)),some (.tmp 7,false)⟩,⟨none,.indexSl 3 (.tmp 9) (.tmp 11),some (.tmp 7,false)⟩,⟨none,.fieldAddr 0 (.tmp 12),some (.tmp 7,false)⟩,⟨none,.load false 1 (.tmp 13),some (.tmp 7,false)⟩,⟨none,.fieldAddr 0 (.var 14),some (.tmp 7,false)⟩,⟨none,.load false 1 (.tmp 15),some (.tmp 7,false)⟩,⟨none,.bin .lss (.tmp 14) (.tmp 16),some (.tmp 7,false)⟩,⟨none,.pick (.tmp 7) (.cst (.bool true)) (.tmp 17),some (.tmp 4,true)⟩,⟨none,.mv (.tmp 18),some (.tmp 4,true)⟩,⟨none,.fieldAddr 4 (.var 5),some (.tmp 19,false)⟩,⟨none,.load false 1 (.tmp 20),some (.tmp 19,false)⟩,⟨none,.mv (.var 15),some (.tmp 19,false)⟩,⟨none,.bin .sub (.tmp 22) (.cst (.int .i64 1)),some (.tmp 19,false)⟩,⟨none,.indexSl 3 (.tmp 21) (.tmp 23),some (.tmp 19,false)⟩,⟨none,.fieldAddr 0 (.tmp 24),some (.tmp 19,false)⟩,⟨none,.load false 1 (.tmp 25),some (.tmp 19,false)⟩,⟨none,.fieldAddr 0 (.var 14),some (.tmp 19,false)⟩,⟨none,.load false 1 (.tmp 27),some (.tmp 19,false)⟩,⟨none,.bin .eql (.tmp 26) (.tmp 28),some (.tmp 19,false)⟩,⟨none,.mv (.tmp 29),some (.tmp 19,false)⟩,⟨none,.fieldAddr 4 (.var 5),some (.tmp 30,true)⟩,⟨none,.load false 1 (.tmp 31),some (.tmp 30,true)⟩,⟨none,.mv (.var 15),some (.tmp 30,true)⟩,⟨none,.bin .sub (.tmp 33) (.cst (.int .i64 1)),some (.tmp 30,true)⟩,⟨none,.indexSl 3 (.tmp 32) (.tmp 34),some (.tmp 30,true)⟩,⟨none,.fieldAddr 1 (.tmp 35),some (.tmp 30,true)⟩,⟨none,.load false 1 (.tmp 36),some (.tmp 30,true)⟩,⟨none,.fieldAddr 1 (.var 14),some (.tmp 30,true)⟩,⟨none,.load false 1 (.tmp 38),some (.tmp 30,true)⟩,⟨none,.bin .lss (.tmp 37) (.tmp 39),some (.tmp 30,true)⟩,⟨none,.pick (.tmp 30) (.tmp 40) (.cst (.bool false)),some (.tmp 19,false)⟩,⟨none,.pick (.tmp 19) (.cst (.bool true)) (.tmp 41),some (.tmp 4,true)⟩,⟨some 20,.pick (.tmp 4) (.tmp 42) (.cst (.bool false)),none⟩]) (.cond (.var 20) (.region [⟨none,.fieldAddr 4 (.var 5),none⟩,⟨none,.load false 1 (.tmp 0),none⟩,⟨none,.load true 3 (.var 14),none⟩,⟨none,.buildSlice 3 [.tmp 2],none⟩,⟨none,.appendN 3 24 (.tmp 1) (.tmp 3),none⟩,⟨none,.fieldAddr 4 (.var 5),none⟩,⟨none,.store 1 (.tmp 5) (.tmp 4),none⟩]) .skip)))))) (.kill [0,1,3,7,8,9,10,11,13,14,15,16,17,18,19,20])) (.region [⟨none,.mv (.var 12),none⟩,⟨none,.bin .add (.tmp 0) (.cst (.int .i64 1)),none⟩,⟨some 12,.mv (.tmp 1),none⟩]))
def KW:bL:=⟨3,21,.seq (.region [⟨some 3,.box (.var 0),none⟩,⟨some 4,.alloc 5 (.agg [.int .i64 0,.int .i64 0,.int .i64 0,.nilS,.nilS]),none⟩]) (.seq (.regionD [34] [⟨none,.indexArr 4 1 (.var 3) (.cst (.int .i64 0)),none⟩,⟨none,.load false 1 (.tmp 0),none⟩,⟨none,.call (.fn 34) [.tmp 1,.cst (.int .i64 100)],none⟩,⟨none,.indexArr 4 1 (.var 3) (.cst (.int .i64 1)),none⟩,⟨none,.load false 1 (.tmp 3),none⟩,⟨none,.call (.fn 34) [.tmp 4,.cst (.int .i64 4)],none⟩,⟨none,.build [.int .i64 0,.int .i64 0,.int .i64 0,.nilS,.nilS] [(0,(1,.tmp 2)),(1,(1,.tmp 5)),(4,(1,.cst .nilS))],none⟩,⟨some 5,.alloc 5 (.agg [.int .i64 0,.int .i64 0,.int .i64 0,.nilS,.nilS]),none⟩,⟨none,.store 5 (.var 5) (.tmp 6),none⟩] [(0,7),(1,7),(2,7),(3,7),(4,7),(5,7)]) (.seq (.region [⟨none,.fieldAddr 1 (.var 5),none⟩,⟨none,.load false 1 (.tmp 0),none⟩,⟨none,.indexArr 4 1 (.var 3) (.cst (.int .i64 2)),none⟩,⟨none,.load false 1 (.tmp 2),none⟩,⟨none,.call (.fn 34) [.tmp 3,.cst (.int .i64 5)],none⟩,⟨none,.bin .add (.tmp 1) (.tmp 4),none⟩,⟨none,.fieldAddr 2 (.var 5),none⟩,⟨none,.store 1 (.tmp 6) (.tmp 5),none⟩]) (.seq (.region [⟨none,.mv (.var 1),none⟩,⟨none,.lenSl (.tmp 0),none⟩,⟨none,.minmax false (.tmp 1) [.cst (.int .i64 3)],none⟩,⟨none,.minmax true (.cst (.int .i64 1)) [.tmp 2],none⟩,⟨some 6,.mv (.tmp 3),none⟩]) (.seq (.seq (.region [⟨some 7,.mv (.cst (.int .i64 0)),none⟩]) (.seq (.block 0 (.loop [0,8,9,10,11,12,13,14,15,16,17,18,19,20] kl)) (.kill [0,1,3,7,8,9,10,11,12,13,14,15,16,17,18,19,20]))) (.seq (.seq (.region [⟨some 12,.mv (.cst (.int .i64 0)),none⟩]) (.seq (.block 2 (.loop [0,1,3,7,8,9,10,11,13,14,15,16,17,18,19,20] jo)) (.kill [0,1,2,3,6,7,8,9,10,11,12,13,14,15,16,17,18,19,20]))) (.seq (.region [⟨none,.load true 5 (.var 5),none⟩,⟨none,.store 5 (.var 4) (.tmp 0),none⟩]) .ret)))))),[.cell 4 true 5]⟩
def jf:List Nat:=[0,8,9,10,11,12,13,14,15,16,17,18,19,20]
abbrev lE (v1 v2 v3 v4 v5 v6 v7:AV):List AV:=[.undef,v1,v2,v3,v4,v5,v6,v7,.undef,.undef,.undef,.undef,.undef,.undef,.undef,.undef,.undef,.undef,.undef,.undef,.undef]
theorem vf {d0 v1 v2 v3 v4 v5 v6 v7 d8 d9 d10 d11 d12 d13 d14 d15 d16 d17 d18 d19 d20:AV}:clear jf [d0,v1,v2,v3,v4,v5,v6,v7,d8,d9,d10,d11,d12,d13,d14,d15,d16,d17,d18,d19,d20]=lE v1 v2 v3 v4 v5 v6 v7:=rfl
theorem GY {E:Env} {fuel:Nat} {A:aa} {o:Out} {k:List KC} {d0 v1 v2 v3 v4 v5 v6 v7 d8 d9 d10 d11 d12 d13 d14 d15 d16 d17 d18 d19 d20:AV} (h:bI (evC E fuel kl) jf fuel (lE v1 v2 v3 v4 v5 v6 v7) A=some o) :
  run E fuel (.code (.loop [0,8,9,10,11,12,13,14,15,16,17,18,19,20] kl) :: k) [d0,v1,v2,v3,v4,v5,v6,v7,d8,d9,d10,d11,d12,d13,d14,d15,d16,d17,d18,d19,d20] A=after E fuel k o:=aT jf _ _ (by rw [vf]; exact h)
def je:List Nat:=[0,1,3,7,8,9,10,11,13,14,15,16,17,18,19,20]
abbrev lx (v2 v4 v5 v6 v12:AV):List AV:=[.undef,.undef,v2,.undef,v4,v5,v6,.undef,.undef,.undef,.undef,.undef,v12,.undef,.undef,.undef,.undef,.undef,.undef,.undef,.undef]
theorem ve {d0 d1 v2 d3 v4 v5 v6 d7 d8 d9 d10 d11 v12 d13 d14 d15 d16 d17 d18 d19 d20:AV}:clear je [d0,d1,v2,d3,v4,v5,v6,d7,d8,d9,d10,d11,v12,d13,d14,d15,d16,d17,d18,d19,d20]=lx v2 v4 v5 v6 v12:=rfl
theorem GX {E:Env} {fuel:Nat} {A:aa} {o:Out} {k:List KC} {d0 d1 v2 d3 v4 v5 v6 d7 d8 d9 d10 d11 v12 d13 d14 d15 d16 d17 d18 d19 d20:AV} (h:bI (evC E fuel jo) je fuel (lx v2 v4 v5 v6 v12) A=some o) :
  run E fuel (.code (.loop [0,1,3,7,8,9,10,11,13,14,15,16,17,18,19,20] jo) :: k) [d0,d1,v2,d3,v4,v5,v6,d7,d8,d9,d10,d11,v12,d13,d14,d15,d16,d17,d18,d19,d20] A=after E fuel k o:=aT je _ _ (by rw [ve]; exact h)
theorem HW:aA Tryz.prog Tryz.f9 3 [0,1,2,3,6,7,8,9,10,11,12,13,14,15,16,17,38,53,79,112,182] [34] false ([[0,8,9,10,11,12,13,14,15,16,17,18,19,20],[0,1,3,7,8,9,10,11,13,14,15,16,17,18,19,20]],[[0,8,9,10,11,12,13,14,15,16,17,18,19,20],[0,1,3,7,8,9,10,11,12,13,14,15,16,17,18,19,20],[0,1,3,7,8,9,10,11,13,14,15,16,17,18,19,20],[0,1,2,3,6,7,8,9,10,11,12,13,14,15,16,17,18,19,20]])=some KW:=by kernel_rfl
theorem at9z:Tryz.prog.funcs[9]?=some Tryz.f9:=by kernel_rfl
namespace Sh
def l9a:MC:=.region [⟨none,.indexArr 4 1 (.var 3) (.cst (.int .i64 3)),none⟩,⟨none,.load false 1 (.tmp 0),none⟩,⟨none,.indexArr 4 1 (.var 3) (.cst (.int .i64 2)),none⟩,⟨none,.load false 1 (.tmp 2),none⟩,⟨none,.indexArr 4 1 (.var 3) (.cst (.int .i64 1)),none⟩,⟨none,.load false 1 (.tmp 4),none⟩,⟨none,.indexArr 4 1 (.var 3) (.cst (.int .i64 0)),none⟩,⟨none,.load false 1 (.tmp 6),none⟩,⟨none,.build [.int .i64 0,.int .i64 0,.int .i64 0,.int .i64 0] [(0,(1,.tmp 1)),(1,(1,.tmp 3)),(2,(1,.tmp 5)),(3,(1,.tmp 7))],none⟩,⟨some 8,.allocA [.int .i64 0,.int .i64 0,.int .i64 0,.int .i64 0],none⟩,⟨none,.storeA 4 (.var 8) (.tmp 8),none⟩]
def l9b:MC:=.region [⟨none,.mv (.var 1),none⟩,⟨none,.mv (.var 7),none⟩,⟨none,.indexSl 4 (.tmp 0) (.tmp 1),none⟩,⟨none,.load true 4 (.tmp 2),none⟩,⟨none,.storeA 4 (.var 8) (.tmp 3),none⟩]
def l9c:MC:=.region [⟨none,.indexArr 4 1 (.var 8) (.cst (.int .i64 0)),none⟩,⟨none,.load false 1 (.tmp 0),none⟩,⟨none,.call (.fn 34) [.tmp 1,.cst (.int .i64 4)],none⟩,⟨some 9,.mv (.tmp 2),none⟩]
def l9d:MC:=.region [⟨none,.mv (.var 9),none⟩,⟨none,.bin .add (.tmp 0) (.cst (.int .i64 1)),none⟩,⟨none,.indexArr 4 1 (.var 8) (.cst (.int .i64 1)),none⟩,⟨none,.load false 1 (.tmp 2),none⟩,⟨none,.call (.fn 34) [.tmp 3,.cst (.int .i64 2)],none⟩,⟨none,.bin .add (.tmp 1) (.tmp 4),none⟩,⟨some 10,.mv (.tmp 5),none⟩]
def l9e:MC:=.region [⟨none,.mv (.var 9),none⟩,⟨none,.mv (.var 10),none⟩,⟨none,.buildSlice 1 [.tmp 0,.tmp 1],none⟩,⟨none,.indexArr 4 1 (.var 8) (.cst (.int .i64 2)),none⟩,⟨none,.load false 1 (.tmp 3),none⟩,⟨none,.call (.fn 34) [.tmp 4,.cst (.int .i64 20)],none⟩,⟨none,.bin .add (.cst (.int .i64 1)) (.tmp 5),none⟩,⟨none,.build [.nilS,.int .i64 0,.int .i64 0] [(0,(1,.tmp 2)),(1,(1,.tmp 6))],none⟩,⟨some 11,.alloc 3 (.agg [.nilS,.int .i64 0,.int .i64 0]),none⟩,⟨none,.store 3 (.var 11) (.tmp 7),none⟩]
def l9f:MC:=.region [⟨none,.indexArr 4 1 (.var 8) (.cst (.int .i64 1)),none⟩,⟨none,.load false 1 (.tmp 0),none⟩,⟨none,.bin .quo (.tmp 1) (.cst (.int .i64 2)),none⟩,⟨none,.call (.fn 34) [.tmp 2,.cst (.int .i64 3)],none⟩,⟨some 18,.bin .eql (.tmp 3) (.cst (.int .i64 0)),none⟩]
def l9g:MC:=.regionD [34] [⟨none,.fieldAddr 0 (.var 11),none⟩,⟨none,.load false 1 (.tmp 0),none⟩,⟨none,.mv (.var 10),none⟩,⟨none,.bin .add (.tmp 2) (.cst (.int .i64 1)),none⟩,⟨none,.indexArr 4 1 (.var 8) (.cst (.int .i64 1)),none⟩,⟨none,.load false 1 (.tmp 4),none⟩,⟨none,.bin .quo (.tmp 5) (.cst (.int .i64 6)),none⟩,⟨none,.call (.fn 34) [.tmp 6,.cst (.int .i64 2)],none⟩,⟨none,.bin .add (.tmp 3) (.tmp 7),none⟩,⟨none,.buildSlice 1 [.tmp 8],none⟩,⟨none,.appendN 1 8 (.tmp 1) (.tmp 9),none⟩,⟨none,.fieldAddr 0 (.var 11),none⟩,⟨none,.store 1 (.tmp 11) (.tmp 10),none⟩] [(0,9),(1,9)]
def l9h:MC:=.region [⟨none,.fieldAddr 1 (.var 11),none⟩,⟨none,.load false 1 (.tmp 0),none⟩,⟨none,.indexArr 4 1 (.var 8) (.cst (.int .i64 3)),none⟩,⟨none,.load false 1 (.tmp 2),none⟩,⟨none,.call (.fn 34) [.tmp 3,.cst (.int .i64 8)],none⟩,⟨none,.bin .add (.tmp 1) (.tmp 4),none⟩,⟨none,.fieldAddr 2 (.var 11),none⟩,⟨none,.store 1 (.tmp 6) (.tmp 5),none⟩]
def l9i:MC:=.region [⟨none,.fieldAddr 3 (.var 5),none⟩,⟨none,.load false 1 (.tmp 0),none⟩,⟨none,.load true 3 (.var 11),none⟩,⟨none,.buildSlice 3 [.tmp 2],none⟩,⟨none,.appendN 3 40 (.tmp 1) (.tmp 3),none⟩,⟨none,.fieldAddr 3 (.var 5),none⟩,⟨none,.store 1 (.tmp 5) (.tmp 4),none⟩]
theorem pI:kl=.seq (.seq (.region [⟨none,.mv (.var 7),none⟩,⟨none,.mv (.var 6),none⟩,⟨some 16,.bin .lss (.tmp 0) (.tmp 1),none⟩]) (.cond (.var 16) .skip (.exit 0))) (.seq (.seq (.block 1 (.seq l9a (.seq (.seq (.region [⟨none,.mv (.var 7),none⟩,⟨none,.mv (.var 1),none⟩,⟨none,.lenSl (.tmp 1),none⟩,⟨some 17,.bin .lss (.tmp 0) (.tmp 2),none⟩]) (.cond (.var 17) l9b .skip)) (.seq l9c (.seq l9d (.seq l9e (.seq (.seq l9f (.cond (.var 18) l9g .skip)) (.seq l9h l9i)))))))) (.kill [0,8,9,10,11,12,13,14,15,16,17,18,19,20])) (.region [⟨none,.mv (.var 7),none⟩,⟨none,.bin .add (.tmp 0) (.cst (.int .i64 1)),none⟩,⟨some 7,.mv (.tmp 1),none⟩])):=rfl
def fs9:List (FuncId × aB):=[(34,aK 4 M21)]
@[simp] theorem N9:aR fs9 34=some (aK 4 M21):=rfl
abbrev R9 (v1 v2:AV) (xb:Nat) (v4:AV) (rb:Nat) (v6 v7 v8 v9 v10 v11 v16 v17 v18:AV):List AV:=
 [.undef,v1,v2,.ptr xb 0 0,v4,.ptr rb 0 0,v6,v7,v8,v9,v10,v11,.undef,.undef,.undef,.undef,v16,v17,v18,.undef,.undef]
def iA (q:fO):Ent:=.row 1 false [.int .i64 q.a,.int .i64 q.b,.int .i64 q.c,.int .i64 q.d]
theorem dW {a b:Int} (h:inI (a+b)):aj .add (.int .i64 a) (.int .i64 b)=some (.int .i64 (a+b)):=by
 simp only [aj]; rw [if_pos trivial,eo h]
section
variable {K:List KC} {A B:aa} {v1 v2 v4 v6:AV} {xb rb yb db i:Nat} {q q0:fO}
theorem KT (v7 v16:AV) (hx:A[xb]?=some (.row 4 false [cB q])) :
  run (ac GS fs9) 50 (.code l9a :: K) (R9 v1 v2 xb v4 rb v6 v7 .undef .undef .undef .undef v16 .undef .undef) A=run (ac GS fs9) 50 K (R9 v1 v2 xb v4 rb v6 v7 (.ptr A.length 0 0) .undef .undef .undef v16 .undef .undef) (A++[iA ⟨q.d,q.c,q.b,q.a⟩]):=by
 unfold cB iA at *
 simp [l9a,hx,aS,cN]
theorem KS {nd:List fO} (v16 v17:AV) (hn:SlA 4 (nd.map cB) v1) (hq:nd[i]?=some q) (hy:A[yb]?=some (iA q0)) :
  run (ac GS fs9) 50 (.code l9b :: K) (R9 v1 v2 xb v4 rb v6 (.int .i64 (i:Int)) (.ptr yb 0 0) .undef .undef .undef v16 v17 .undef) A=run (ac GS fs9) 50 K (R9 v1 v2 xb v4 rb v6 (.int .i64 (i:Int)) (.ptr yb 0 0) .undef .undef .undef v16 v17 .undef) (A.set yb (iA q)):=by
 have x1:∀A,ae 4 A v1 (.int .i64 (i:Int))=some (.fp [.int .i64 q.a,.int .i64 q.b,.int .i64 q.c,.int .i64 q.d]):=fun A=>hn.index (A:=A) (x:=cB q) (by rw [List.getElem?_map,hq]; rfl) rfl (by omega) .i64
 unfold iA at *
 generalize (i:Int)=I at *
 simp [l9b,x1,hy,cN,-ae]
theorem KR (v7 v16 v17:AV) (hy:A[yb]?=some (iA q)) (hq:q.ok) :
  run (ac GS fs9) 50 (.code l9c :: K) (R9 v1 v2 xb v4 rb v6 v7 (.ptr yb 0 0) .undef .undef .undef v16 v17 .undef) A=run (ac GS fs9) 50 K (R9 v1 v2 xb v4 rb v6 v7 (.ptr yb 0 0) (.int .i64 (aL q.a 4)) .undef .undef v16 v17 .undef) A:=by
 have m:=cy hq.1 (n:=4) (by omega)
 unfold iA at *
 simp [l9c,hy,m,aS]
theorem KQ (v7 v16 v17:AV) (hy:A[yb]?=some (iA q)) (hq:q.ok) :
  run (ac GS fs9) 50 (.code l9d :: K) (R9 v1 v2 xb v4 rb v6 v7 (.ptr yb 0 0) (.int .i64 (aL q.a 4)) .undef .undef v16 v17 .undef) A=run (ac GS fs9) 50 K (R9 v1 v2 xb v4 rb v6 v7 (.ptr yb 0 0) (.int .i64 (aL q.a 4)) (.int .i64 (aL q.a 4+1+aL q.b 2)) .undef v16 v17 .undef) A:=by
 have m:=cy hq.2.1 (n:=2) (by omega)
 have p1:=aX q.a (n:=4) (by omega)
 have p2:=aX q.b (n:=2) (by omega)
 have a1:=dW (a:=aL q.a 4) (b:=1) (by unfold inI; omega)
 have a2:=dW (a:=aL q.a 4+1) (b:=aL q.b 2) (by unfold inI; omega)
 unfold iA at *
 generalize aL q.a 4+1+aL q.b 2=z at *
 generalize aL q.a 4+1=z1 at *
 simp [l9d,hy,m,a1,a2,aS,-aj]
theorem KP (v7 v16 v17:AV) (a b:Int) (hy:A[yb]?=some (iA q)) (hq:q.ok) :
  run (ac GS fs9) 50 (.code l9e :: K) (R9 v1 v2 xb v4 rb v6 v7 (.ptr yb 0 0) (.int .i64 a) (.int .i64 b) .undef v16 v17 .undef) A=run (ac GS fs9) 50 K (R9 v1 v2 xb v4 rb v6 v7 (.ptr yb 0 0) (.int .i64 a) (.int .i64 b) (.ptr (A.length+1) 0 0) v16 v17 .undef) (A++[.row 1 false ([a,b].map (.int .i64)),.row 3 false [bD (.sl A.length 0 2) (1+aL q.c 20) 0]]):=by
 have m:=cy hq.2.2.1 (n:=20) (by omega)
 have p1:=aX q.c (n:=20) (by omega)
 have a1:=dW (a:=1) (b:=aL q.c 20) (by unfold inI; omega)
 have F:=Fr.app A [.row 1 false [.int .i64 a,.int .i64 b]] []
 have y2:=F.at hy (by simp)
 have l2:(A++[Ent.row 1 false [.int .i64 a,.int .i64 b]]).length=A.length+1:=by simp
 have e2:A++[.row 1 false ([a,b].map (.int .i64)),.row 3 false [bD (.sl A.length 0 2) (1+aL q.c 20) 0]]=(A++[Ent.row 1 false [.int .i64 a,.int .i64 b]])++[.row 3 false [bD (.sl A.length 0 2) (1+aL q.c 20) 0]]:=by simp
 rw [e2,<-l2]
 unfold iA bD at *
 generalize 1+aL q.c 20=z at *
 generalize hA1:A++[Ent.row 1 false [.int .i64 a,.int .i64 b]]=A1 at *
 simp [l9e,bh,hA1,y2,m,a1,aS,az,-aj]
theorem KO (v7 v9 v10 v11 v16 v17:AV) (hy:A[yb]?=some (iA q)) (hq:q.ok) :
  run (ac GS fs9) 50 (.code l9f :: K) (R9 v1 v2 xb v4 rb v6 v7 (.ptr yb 0 0) v9 v10 v11 v16 v17 .undef) A=run (ac GS fs9) 50 K (R9 v1 v2 xb v4 rb v6 v7 (.ptr yb 0 0) v9 v10 v11 v16 v17 (.bool (decide (aL (q.b.tdiv 2) 3=0)))) A:=by
 obtain ⟨q1,q2⟩:=uW hq.2.1 (n:=2) (by omega)
 have m:=cy q2 (n:=3) (by omega)
 have a1:=mK (aL (q.b.tdiv 2) 3) 0
 unfold iA at *
 simp [l9f,hy,q1,m,a1,aS,-aj]
theorem qY {esz bytes:Nat} {A:aa} {o x:AV}:aV esz bytes (A++[.row esz false [x]]) o (.sl A.length 0 1)=aV esz bytes (A++[.row esz false [x]]) o (.fs esz [x]):=by
 have e:be esz (A++[.row esz false [x]]) (.sl A.length 0 1)=be esz (A++[.row esz false [x]]) (.fs esz [x]):=by simp [be]
 unfold aV
 rw [e]
theorem KN {tv:AV} {mn b:Int} {n:Nat} (v7 v9 v16 v17 v18:AV) (hy:A[yb]?=some (iA q)) (hq:q.ok) (hd:A[db]?=some (.row 3 false [bD tv mn 0])) (hb:0<=b/\b<=100) (ap:aV 1 8 (A++[.row 1 false [.int .i64 (b+1+aL (q.b.tdiv 6) 2)]]) tv (.fs 1 [.int .i64 (b+1+aL (q.b.tdiv 6) 2)])=some (.sl (A.length+1) 0 n,B)) (hdB:B[db]?=some (.row 3 false [bD tv mn 0])) (_hc:∀k∈aC tv,k<A.length) :
  run (ac GS fs9) 50 (.code l9g :: K) (R9 v1 v2 xb v4 rb v6 v7 (.ptr yb 0 0) v9 (.int .i64 b) (.ptr db 0 0) v16 v17 v18) A=run (ac GS fs9) 50 K (R9 v1 v2 xb v4 rb v6 v7 (.ptr yb 0 0) v9 (.int .i64 b) (.ptr db 0 0) v16 v17 v18) (B.set db (.row 3 false [bD (.sl (A.length+1) 0 n) mn 0])):=by
 obtain ⟨q1,q2⟩:=uW hq.2.1 (n:=6) (by omega)
 have m:=cy q2 (n:=2) (by omega)
 have p1:=aX (q.b.tdiv 6) (n:=2) (by omega)
 have a1:=dW (a:=b) (b:=1) (by unfold inI; omega)
 have a2:=dW (a:=b+1) (b:=aL (q.b.tdiv 6) 2) (by unfold inI; omega)
 rw [<-qY] at ap
 have dl:db≠A.length:=fun e=>by rw [e] at hd; simp at hd
 unfold iA bD at *
 generalize b+1+aL (q.b.tdiv 6) 2=z at *
 generalize b+1=z1 at *
 simp [l9g,hy,hd,hdB,q1,m,a1,a2,ap,aS,bh,az,-aj]
 exact fun e=>absurd e dl
theorem KM {tv:AV} {mn:Int} (v7 v9 v10 v16 v17 v18:AV) (hy:A[yb]?=some (iA q)) (hq:q.ok) (hd:A[db]?=some (.row 3 false [bD tv mn 0])) (hm:0<=mn/\mn<=100) :
  run (ac GS fs9) 50 (.code l9h :: K) (R9 v1 v2 xb v4 rb v6 v7 (.ptr yb 0 0) v9 v10 (.ptr db 0 0) v16 v17 v18) A=run (ac GS fs9) 50 K (R9 v1 v2 xb v4 rb v6 v7 (.ptr yb 0 0) v9 v10 (.ptr db 0 0) v16 v17 v18) (A.set db (.row 3 false [bD tv mn (mn+aL q.d 8)])):=by
 have m:=cy hq.2.2.2 (n:=8) (by omega)
 have p1:=aX q.d (n:=8) (by omega)
 have a1:=dW (a:=mn) (b:=aL q.d 8) (by unfold inI; omega)
 unfold iA bD at *
 generalize mn+aL q.d 8=z at *
 simp [l9h,hy,hd,m,a1,aS,az,-aj]
theorem KL {e lo hi:Int} {o wo tv:AV} {mn mx:Int} {n:Nat} (v7 v8 v9 v10 v16 v17 v18:AV) (hd:A[db]?=some (.row 3 false [bD tv mn mx])) (hr:A[rb]?=some (.row 5 false [rqA e lo hi o wo])) (ap:aV 3 40 (A++[.row 3 false [bD tv mn mx]]) o (.fs 3 [bD tv mn mx])=some (.sl (A.length+1) 0 n,B)) (hrB:B[rb]?=some (.row 5 false [rqA e lo hi o wo])) :
  run (ac GS fs9) 50 (.code l9i :: K) (R9 v1 v2 xb v4 rb v6 v7 v8 v9 v10 (.ptr db 0 0) v16 v17 v18) A=run (ac GS fs9) 50 K (R9 v1 v2 xb v4 rb v6 v7 v8 v9 v10 (.ptr db 0 0) v16 v17 v18) (B.set rb (.row 5 false [rqA e lo hi (.sl (A.length+1) 0 n) wo])):=by
 rw [<-qY] at ap
 have hr1:=(Fr.app A [.row 3 false [bD tv mn mx]] []).at hr (by simp)
 unfold bD rqA at *
 simp [l9i,hd,hr,hrB,ap,bh,az]
end
end Sh
namespace Sh
theorem bY.frE {A B:aa} {o:AV} {esz:Nat} {es:List AV} {W:List Nat} (h:bY A o esz es) (F:Fr A B W) (hW:∀k∈W,∀l,A[k]?≠some (.row esz false l)):bY B o esz es:=
 h.fr F fun k hk hm=>by
  rcases h with ⟨rfl,_⟩ | ⟨_,id,rfl,h2⟩
  ·cases hk
  ·simp [aC] at hk
   subst hk
   exact hW k hm _ h2
def gT (A:aa) (ns:List fP) (es:List AV):Prop:=es.length=ns.length/\∀(i:Nat) (n:fP),ns[i]?=some n->∃tv,es[i]?=some (bD tv n.mn n.mx)/\bY A tv 1 (n.tools.map (.int .i64))
theorem gT.fr {A B:aa} {ns:List fP} {es:List AV} {W:List Nat} (h:gT A ns es) (F:Fr A B W) (hW:∀k∈W,∀l,A[k]?≠some (.row 1 false l)):gT B ns es:=
 ⟨h.1,fun i n hn=>by
  obtain ⟨tv,h1,h2⟩:=h.2 i n hn
  exact ⟨tv,h1,h2.frE F hW⟩⟩
theorem gT.snoc {A:aa} {ns:List fP} {es:List AV} {n:fP} {tv:AV} (h:gT A ns es) (ht:bY A tv 1 (n.tools.map (.int .i64))):gT A (ns++[n]) (es++[bD tv n.mn n.mx]):=by
 refine ⟨by simp [h.1],fun i m hm=>?_⟩
 rcases Nat.lt_or_ge i ns.length with hi | hi
 ·rw [List.getElem?_append_left hi] at hm
  obtain ⟨tv',h1,h2⟩:=h.2 i m hm
  exact ⟨tv',by rw [List.getElem?_append_left (by rw [h.1]; exact hi)]; exact h1,h2⟩
 ·rw [List.getElem?_append_right hi] at hm
  have h0:i-ns.length=0:=by
   have:=(List.getElem?_eq_some_iff.1 hm).1
   simp at this
   omega
  rw [h0] at hm
  injection hm with hm
  subst hm
  exact ⟨tv,by rw [List.getElem?_append_right (by rw [h.1]; exact hi),h.1,h0]; rfl,ht⟩
structure At9 (A:aa) (x:fO) (e lo hi:Int) (ns:List fP) (ws:List Win):Prop where
 x:A[0]?=some (.row 4 false [cB x])
 z:A[1]?=some bO
 r:∃o wo es,A[2]?=some (.row 5 false [rqA e lo hi o wo])/\bY A o 3 es/\gT A ns es/\bY A wo 3 (ws.map bi)/\∀k∈aC wo,k ∉ aC o
def iC (q:fO):List Int:=if aL (q.b.tdiv 2) 3=0 then [aL q.a 4,aL q.a 4+1+aL q.b 2,aL q.a 4+1+aL q.b 2+1+aL (q.b.tdiv 6) 2] else [aL q.a 4,aL q.a 4+1+aL q.b 2]
def jd (q:fO):fP:=⟨iC q,1+aL q.c 20,1+aL q.c 20+aL q.d 8⟩
theorem uj (q:fO):mY (jd q):=by
 have p1:=aX q.a (n:=4) (by omega)
 have p2:=aX q.b (n:=2) (by omega)
 have p3:=aX (q.b.tdiv 6) (n:=2) (by omega)
 have p4:=aX q.c (n:=20) (by omega)
 have p5:=aX q.d (n:=8) (by omega)
 unfold jd mY
 refine ⟨?_,by simp only; omega,by simp only; omega⟩
 simp only
 unfold iC pi
 generalize aL q.a 4=a at *
 generalize aL q.b 2=b at *
 generalize aL (q.b.tdiv 6) 2=c at *
 split
 ·refine ⟨by simp,fun j t hj=>?_⟩
  match j,hj with
  | 0,hj=>
   simp at hj
   exact ⟨by omega,fun k u h=>by omega⟩
  | 1,hj=>
   simp at hj
   refine ⟨by omega,fun k u h hu=>?_⟩
   obtain rfl:k=0:=by omega
   simp at hu
   omega
  | 2,hj=>
   simp at hj
   refine ⟨by omega,fun k u h hu=>?_⟩
   obtain rfl:k=1:=by omega
   simp at hu
   omega
  | j+3,hj=>simp at hj
 ·refine ⟨by simp,fun j t hj=>?_⟩
  match j,hj with
  | 0,hj=>
   simp at hj
   exact ⟨by omega,fun k u h=>by omega⟩
  | 1,hj=>
   simp at hj
   refine ⟨by omega,fun k u h hu=>?_⟩
   obtain rfl:k=0:=by omega
   simp at hu
   omega
  | j+2,hj=>simp at hj
end Sh
namespace Sh
def wA:MC:=.seq l9c (.seq l9d (.seq l9e (.seq (.seq l9f (.cond (.var 18) l9g .skip)) (.seq l9h l9i))))
theorem At9.keep {A B:aa} {x:fO} {e lo hi:Int} {ns:List fP} {ws:List Win} (h:At9 A x e lo hi ns ws) (F:Fr A B []):At9 B x e lo hi ns ws:=by
 obtain ⟨o,wo,es,h1,h2,h3,h4,h5⟩:=h.r
 exact ⟨F.at h.x (by simp),F.at h.z (by simp),o,wo,es,F.at h1 (by simp),h2.fr F (by simp),h3.fr F (by simp),h4.fr F (by simp),h5⟩
theorem bY.notId {A:aa} {o:AV} {esz:Nat} {es:List AV} (h:bY A o esz es) {j s:Nat} {gr:Bool} {l:List AV} (hj:A[j]?=some (.row s gr l)) (hs:s≠esz):j ∉ aC o:=fun hm=>by
 rcases h with ⟨rfl,_⟩ | ⟨_,id,rfl,h2⟩
 ·cases hm
 ·simp [aC] at hm
  subst hm
  rw [hj] at h2
  injection h2 with h2
  injection h2 with h2
  exact hs h2
section
variable {K:List KC} {A:aa} {v1 v2 v4 v6:AV} {yb:Nat} {x q:fO} {e lo hi:Int} {ns:List fP} {ws:List Win}
theorem Fs (v7 v16 v17:AV) (h:At9 A x e lo hi ns []) (hy:A[yb]?=some (iA q)) (hq:q.ok) (hn:ns.length<=5) :
  ∃B v9 v10 v11 v18,(∀K,run (ac GS fs9) 50 (.code wA :: K) (R9 v1 v2 0 v4 2 v6 v7 (.ptr yb 0 0) .undef .undef .undef v16 v17 .undef) A=run (ac GS fs9) 50 K (R9 v1 v2 0 v4 2 v6 v7 (.ptr yb 0 0) v9 v10 v11 v16 v17 v18) B)/\At9 B x e lo hi (ns++[jd q]) []:=by
 have p1:=aX q.a (n:=4) (by omega)
 have p2:=aX q.b (n:=2) (by omega)
 have p4:=aX q.c (n:=20) (by omega)
 have rc:=fun K=>KR (K:=K) (v1:=v1) (v2:=v2) (v4:=v4) (v6:=v6) (xb:=0) (rb:=2) v7 v16 v17 hy hq
 have rd:=fun K=>KQ (K:=K) (v1:=v1) (v2:=v2) (v4:=v4) (v6:=v6) (xb:=0) (rb:=2) v7 v16 v17 hy hq
 have re:=fun K=>KP (K:=K) (v1:=v1) (v2:=v2) (v4:=v4) (v6:=v6) (xb:=0) (rb:=2) v7 v16 v17 (aL q.a 4) (aL q.a 4+1+aL q.b 2) hy hq
 obtain ⟨a,ha⟩:∃a,a=aL q.a 4:=⟨_,rfl⟩
 obtain ⟨b,hb⟩:∃b,b=a+1+aL q.b 2:=⟨_,rfl⟩
 obtain ⟨mn,hmn⟩:∃mn,mn=1+aL q.c 20:=⟨_,rfl⟩
 have hT:iC q=if aL (q.b.tdiv 2) 3=0 then [a,b,b+1+aL (q.b.tdiv 6) 2] else [a,b]:=by rw [hb,ha]; rfl
 have hnd:jd q=⟨iC q,mn,mn+aL q.d 8⟩:=by rw [hmn]; rfl
 have hbb:0<=b/\b<=100:=by omega
 have hmm:0<=mn/\mn<=100:=by omega
 rw [<-ha] at rc
 rw [<-ha,<-hb] at rd
 rw [<-ha,<-hb,<-hmn] at re
 obtain ⟨A3,hA3⟩:∃A3,A3=A++[.row 1 false ([a,b].map (.int .i64)),.row 3 false [bD (.sl A.length 0 2) mn 0]]:=⟨_,rfl⟩
 rw [<-hA3] at re
 have F3:Fr A A3 []:=by rw [hA3]; exact Fr.app _ _ _
 have l3:A3.length=A.length+2:=by rw [hA3]; simp
 have t3:bY A3 (.sl A.length 0 2) 1 ([a,b].map (.int .i64)):=.inr ⟨by simp,A.length,rfl,by rw [hA3]; simp⟩
 have d3:A3[A.length+1]?=some (.row 3 false [bD (.sl A.length 0 2) mn 0]):=by
  rw [hA3,List.getElem?_append_right (by omega)]; simp
 have y3:=F3.at hy (by simp)
 have h3:=h.keep F3
 have rf:=fun K v11=>KO (K:=K) (v1:=v1) (v2:=v2) (v4:=v4) (v6:=v6) (xb:=0) (rb:=2) v7 (.int .i64 a) (.int .i64 b) v11 v16 v17 y3 hq
 have step:∃A4 tv,(∀K,run (ac GS fs9) 50 (.code (.seq l9f (.cond (.var 18) l9g .skip)) :: K) (R9 v1 v2 0 v4 2 v6 v7 (.ptr yb 0 0) (.int .i64 a) (.int .i64 b) (.ptr (A.length+1) 0 0) v16 v17 .undef) A3=run (ac GS fs9) 50 K (R9 v1 v2 0 v4 2 v6 v7 (.ptr yb 0 0) (.int .i64 a) (.int .i64 b) (.ptr (A.length+1) 0 0) v16 v17 (.bool (decide (aL (q.b.tdiv 2) 3=0)))) A4)/\Fr A A4 []/\A4[A.length+1]?=some (.row 3 false [bD tv mn 0])/\bY A4 tv 1 ((iC q).map (.int .i64)):=by
  by_cases hp:aL (q.b.tdiv 2) 3=0
  ·rw [if_pos hp] at hT
   rw [decide_eq_true hp] at rf ⊢
   have F4:Fr A3 (A3++[.row 1 false [.int .i64 (b+1+aL (q.b.tdiv 6) 2)]]) []:=Fr.app _ _ _
   obtain ⟨B,ap,k1,k2,k3⟩:=(t3.fr F4 (by simp)).append (bytes:=8) (.int .i64 (b+1+aL (q.b.tdiv 6) 2)) (by omega) (by omega) (by simp)
   have dB:=k2.at (F4.at d3 (by simp)) (by simp [aC])
   have l4:(A3++[Ent.row 1 false [.int .i64 (b+1+aL (q.b.tdiv 6) 2)]]).length=A3.length+1:=by simp
   rw [l4] at ap k1
   have rg:=fun K=>KN (K:=K) (v1:=v1) (v2:=v2) (v4:=v4) (v6:=v6) (xb:=0) (rb:=2) v7 (.int .i64 a) v16 v17 (.bool true) y3 hq d3 hbb ap dB (fun k hk=>by simp [aC] at hk; omega)
   refine ⟨B.set (A.length+1) (.row 3 false [bD (.sl (A3.length+1) 0 (([a,b].map (AV.int .i64)).length+1)) mn 0]),.sl (A3.length+1) 0 (([a,b].map (AV.int .i64)).length+1),fun K=>?_,?_,List.getElem?_set_self (List.getElem?_eq_some_iff.1 dB).1,?_⟩
   ·simp [rf,rg]
   ·exact ((F3.trans F4 (fun _ h=>h) (fun _ _ h=>h)).trans k2 (fun _ h=>h) (fun j hj hm=>by simp [aC] at hm; omega)).trans (Fr.set B _ _) (fun _ h=>h) (fun j hj hm=>by simp at hm; omega)
   ·rw [hT]
    exact k1.fr (Fr.set B _ _) (fun k hk hm=>by simp [aC] at hk; simp at hm; omega)
  ·rw [if_neg hp] at hT
   rw [decide_eq_false hp] at rf ⊢
   refine ⟨A3,.sl A.length 0 2,fun K=>?_,F3,d3,by rw [hT]; exact t3⟩
   simp [rf]
 obtain ⟨A4,tv,rfg,F4,d4,t4⟩:=step
 have y4:=F4.at hy (by simp)
 have h4:=h.keep F4
 have rh:=fun K v18=>KM (K:=K) (v1:=v1) (v2:=v2) (v4:=v4) (v6:=v6) (xb:=0) (rb:=2) v7 (.int .i64 a) (.int .i64 b) v16 v17 v18 y4 hq d4 hmm
 have l4:A.length+1<A4.length:=(List.getElem?_eq_some_iff.1 d4).1
 obtain ⟨o,wo,es,r4,o4,n4,w4,_⟩:=h4.r
 have F5:Fr A4 (A4.set (A.length+1) (.row 3 false [bD tv mn (mn+aL q.d 8)])) [A.length+1]:=Fr.set _ _ _
 have FA5:Fr A (A4.set (A.length+1) (.row 3 false [bD tv mn (mn+aL q.d 8)])) []:=F4.trans F5 (fun _ h=>h) (fun j hj hm=>by simp at hm; omega)
 have d5:(A4.set (A.length+1) (.row 3 false [bD tv mn (mn+aL q.d 8)]))[A.length+1]?=some (.row 3 false [bD tv mn (mn+aL q.d 8)]):=List.getElem?_set_self l4
 have t5:bY (A4.set (A.length+1) (.row 3 false [bD tv mn (mn+aL q.d 8)])) tv 1 ((iC q).map (.int .i64)):=t4.frE F5 (fun k hk l=>by simp at hk; subst hk; rw [d4]; simp)
 have h5:=h.keep FA5
 obtain ⟨o,wo,es,r5,o5,n5,w5,_⟩:=h5.r
 generalize hA5:A4.set (A.length+1) (.row 3 false [bD tv mn (mn+aL q.d 8)])=A5 at *
 have F6:Fr A5 (A5++[.row 3 false [bD tv mn (mn+aL q.d 8)]]) []:=Fr.app _ _ _
 have n1:=n5.1
 obtain ⟨B,ap,k1,k2,k3⟩:=(o5.fr F6 (by simp)).append (bytes:=40) (bD tv mn (mn+aL q.d 8)) (by omega) (by omega) (by omega)
 have l6:(A5++[Ent.row 3 false [bD tv mn (mn+aL q.d 8)]]).length=A5.length+1:=by simp
 rw [l6] at ap k1
 have o6:=o5.fr F6 (by simp)
 have i2:=o6.notId (F6.at r5 (by simp)) (by omega)
 have i0:=o6.notId (F6.at h5.x (by simp)) (by omega)
 have i1:=o6.notId (F6.at h5.z (by simp)) (by omega)
 have rB:=k2.at (F6.at r5 (by simp)) i2
 have ri:=fun K v8 v9 v10 v18=>KL (K:=K) (v1:=v1) (v2:=v2) (v4:=v4) (v6:=v6) (xb:=0) v7 v8 v9 v10 v16 v17 v18 d5 r5 ap rB
 have l5:2<A5.length:=(List.getElem?_eq_some_iff.1 r5).1
 have FC:Fr B (B.set 2 (.row 5 false [rqA e lo hi (.sl (A5.length+1) 0 (es.length+1)) wo])) [2]:=Fr.set _ _ _
 have hwo:wo=.nilS:=by
  rcases w5 with ⟨h,_⟩ | ⟨h,_⟩
  ·exact h
  ·exact absurd rfl h
 have r1:∀k∈aC o,∀l,(A5++[Ent.row 3 false [bD tv mn (mn+aL q.d 8)]])[k]?≠some (.row 1 false l):=fun k hk l h=>o6.notId h (by omega) hk
 have r2:∀k∈[2],∀l,B[k]?≠some (.row 1 false l):=fun k hk l=>by simp at hk; subst hk; rw [rB]; simp
 refine ⟨B.set 2 (.row 5 false [rqA e lo hi (.sl (A5.length+1) 0 (es.length+1)) wo]),.int .i64 a,.int .i64 b,.ptr (A.length+1) 0 0,.bool (decide (aL (q.b.tdiv 2) 3=0)),fun K=>?_,?_,?_,.sl (A5.length+1) 0 (es.length+1),wo,es++[bD tv mn (mn+aL q.d 8)],?_,?_,?_,?_,?_⟩
 ·unfold wA
  have rfg:∀K,run (ac GS fs9) 50 (.code l9f :: .code (.cond (.var 18) l9g .skip) :: K) (R9 v1 v2 0 v4 2 v6 v7 (.ptr yb 0 0) (.int .i64 a) (.int .i64 b) (.ptr (A.length+1) 0 0) v16 v17 .undef) A3=run (ac GS fs9) 50 K (R9 v1 v2 0 v4 2 v6 v7 (.ptr yb 0 0) (.int .i64 a) (.int .i64 b) (.ptr (A.length+1) 0 0) v16 v17 (.bool (decide (aL (q.b.tdiv 2) 3=0)))) A4:=fun K=>by
   have:=rfg K
   simpa using this
  clear rf
  simp [rc,rd,re,rfg,rh,ri]
 ·rw [List.getElem?_set_ne (by omega)]; exact k2.at (F6.at h5.x (by simp)) i0
 ·rw [List.getElem?_set_ne (by omega)]; exact k2.at (F6.at h5.z (by simp)) i1
 ·exact List.getElem?_set_self (List.getElem?_eq_some_iff.1 rB).1
 ·exact k1.fr FC (fun k hk hm=>by simp [aC] at hk; simp at hm; omega)
 ·have:=((n5.fr F6 (by simp)).fr k2 r1).fr FC r2
  rw [hnd]
  exact this.snoc (n:=⟨iC q,mn,mn+aL q.d 8⟩) (((t5.fr F6 (by simp)).frE k2 r1).frE FC r2)
 ·rw [hwo]; exact .inl ⟨rfl,rfl⟩
 ·rw [hwo]; simp [aC]
end
end Sh
namespace Sh
def lk (x:fO):fO:=⟨x.d,x.c,x.b,x.a⟩
def yG (nd:List fO) (x:fO) (i:Nat):fO:=(nd[i]?).getD (lk x)
theorem Bj {nd:List fO} {x:fO} (hx:x.ok) (hn:∀q∈nd,q.ok) (i:Nat):(yG nd x i).ok:=by
 unfold yG
 cases h:nd[i]? with
 | none=>exact ⟨hx.2.2.2,hx.2.2.1,hx.2.1,hx.1⟩
 | some q=>exact hn q (List.mem_of_getElem? h)
section
variable {A:aa} {v1 v2 v4:AV} {x:fO} {e lo hi:Int} {ns:List fP} {nd:List fO}
theorem FR {n:Nat} (h:At9 A x e lo hi ns []) (hn:SlA 4 (nd.map cB) v1) (hx:x.ok) (hok:∀q∈nd,q.ok) (hi':ns.length<n) (hn3:n<=3) (_hnl:nd.length<=9223372036854775807) :
  ∃B,run (ac GS fs9) 50 [.code kl] (lE v1 v2 (.ptr 0 0 0) v4 (.ptr 2 0 0) (.int .i64 (n:Int)) (.int .i64 (ns.length:Int))) A=some (.normal (lE v1 v2 (.ptr 0 0 0) v4 (.ptr 2 0 0) (.int .i64 (n:Int)) (.int .i64 ((ns.length+1:Nat):Int))) B)/\At9 B x e lo hi (ns++[jd (yG nd x ns.length)]) []:=by
 have b1:=bK ns.length n .i64
 rw [decide_eq_true hi'] at b1
 have b3:=aY ns.length (by omega)
 have b2:=bK ns.length nd.length .i64
 have hln:ay v1=some (.int .i64 (nd.length:Int)):=by
  have:=hn.len
  rw [List.length_map] at this
  exact this
 have ra:=fun K=>KT (K:=K) (v1:=v1) (v2:=v2) (v4:=v4) (rb:=2) (v6:=.int .i64 (n:Int)) (.int .i64 (ns.length:Int)) (.bool true) h.x
 have F1:Fr A (A++[iA (lk x)]) []:=Fr.app _ _ _
 have y1:(A++[iA (lk x)])[A.length]?=some (iA (lk x)):=by simp
 have ra:∀K,run (ac GS fs9) 50 (.code l9a :: K) (R9 v1 v2 0 v4 2 (.int .i64 (n:Int)) (.int .i64 (ns.length:Int)) .undef .undef .undef .undef (.bool true) .undef .undef) A=run (ac GS fs9) 50 K (R9 v1 v2 0 v4 2 (.int .i64 (n:Int)) (.int .i64 (ns.length:Int)) (.ptr A.length 0 0) .undef .undef .undef (.bool true) .undef .undef) (A++[iA (lk x)]):=ra
 cases hq:nd[ns.length]? with
 | none=>
  have:nd.length<=ns.length:=by simpa using hq
  rw [decide_eq_false (by omega)] at b2
  have hnt:yG nd x ns.length=lk x:=by unfold yG; rw [hq]; rfl
  rw [hnt]
  obtain ⟨B,v9,v10,v11,v18,rt,hB⟩:=Fs (v1:=v1) (v2:=v2) (v4:=v4) (v6:=.int .i64 (n:Int)) (.int .i64 (ns.length:Int)) (.bool true) (.bool false) (h.keep F1) y1 (hnt ▸ Bj hx hok ns.length) (by omega)
  refine ⟨B,?_,hB⟩
  rw [pI]
  change run (ac GS fs9) 50 [.code (.seq _ (.seq (.seq (.block 1 (.seq l9a (.seq _ wA))) _) _))] _ _=_
  generalize A++[iA (lk x)]=A1 at *
  generalize ((ns.length+1:Nat):Int)=I1 at *
  generalize (ns.length:Int)=I at *
  generalize (n:Int)=N at *
  generalize (nd.length:Int)=M at *
  simp [b1,b2,b3,hln,ra,rt,-aj,-ay]
 | some q=>
  have:ns.length<nd.length:=(List.getElem?_eq_some_iff.1 hq).1
  rw [decide_eq_true (by omega)] at b2
  have hnt:yG nd x ns.length=q:=by unfold yG; rw [hq]; rfl
  rw [hnt]
  have rb:=fun K=>KS (K:=K) (v2:=v2) (v4:=v4) (xb:=0) (rb:=2) (v6:=.int .i64 (n:Int)) (.bool true) (.bool true) hn hq y1
  have F2:Fr A ((A++[iA (lk x)]).set A.length (iA q)) []:=F1.trans (Fr.set _ _ _) (fun _ h=>h) (fun j hj hm=>by simp at hm; omega)
  have y2:((A++[iA (lk x)]).set A.length (iA q))[A.length]?=some (iA q):=List.getElem?_set_self (by simp)
  obtain ⟨B,v9,v10,v11,v18,rt,hB⟩:=Fs (v1:=v1) (v2:=v2) (v4:=v4) (v6:=.int .i64 (n:Int)) (.int .i64 (ns.length:Int)) (.bool true) (.bool true) (h.keep F2) y2 (hok q (List.mem_of_getElem? hq)) (by omega)
  refine ⟨B,?_,hB⟩
  rw [pI]
  change run (ac GS fs9) 50 [.code (.seq _ (.seq (.seq (.block 1 (.seq l9a (.seq _ wA))) _) _))] _ _=_
  generalize (A++[iA (lk x)]).set A.length (iA q)=A2 at *
  generalize A++[iA (lk x)]=A1 at *
  generalize ((ns.length+1:Nat):Int)=I1 at *
  generalize (ns.length:Int)=I at *
  generalize (n:Int)=N at *
  generalize (nd.length:Int)=M at *
  simp [b1,b2,b3,hln,ra,rb,rt,-aj,-ay]
end
end Sh
namespace Sh
def w9a:MC:=.region [⟨none,.mv (.var 2),none⟩,⟨none,.mv (.var 12),none⟩,⟨none,.indexSl 2 (.tmp 0) (.tmp 1),none⟩,⟨none,.indexArr 2 1 (.tmp 2) (.cst (.int .i64 0)),none⟩,⟨none,.load false 1 (.tmp 3),none⟩,⟨none,.call (.fn 34) [.tmp 4,.cst (.int .i64 3)],none⟩,⟨some 13,.mv (.tmp 5),none⟩]
def w9b:MC:=.regionD [34] [⟨none,.buildF 1 [.cst (.int .i64 0),.cst (.int .i64 0),.cst (.int .i64 1)],none⟩,⟨none,.mv (.var 13),none⟩,⟨none,.indexSl 1 (.tmp 0) (.tmp 1),none⟩,⟨none,.load false 1 (.tmp 2),none⟩,⟨none,.buildF 1 [.cst (.int .i64 1),.cst (.int .i64 2),.cst (.int .i64 2)],none⟩,⟨none,.mv (.var 13),none⟩,⟨none,.indexSl 1 (.tmp 4) (.tmp 5),none⟩,⟨none,.load false 1 (.tmp 6),none⟩,⟨none,.mv (.var 2),none⟩,⟨none,.mv (.var 12),none⟩,⟨none,.indexSl 2 (.tmp 8) (.tmp 9),none⟩,⟨none,.indexArr 2 1 (.tmp 10) (.cst (.int .i64 1)),none⟩,⟨none,.load false 1 (.tmp 11),none⟩,⟨none,.call (.fn 34) [.tmp 12,.cst (.int .i64 150)],none⟩,⟨none,.build [.int .i64 0,.int .i64 0,.int .i64 0] [(0,(1,.tmp 3)),(1,(1,.tmp 7)),(2,(1,.tmp 13))],none⟩,⟨some 14,.alloc 3 (.agg [.int .i64 0,.int .i64 0,.int .i64 0]),none⟩,⟨none,.store 3 (.var 14) (.tmp 14),none⟩] [(2,15),(3,15),(6,15),(7,15),(10,15),(11,15),(12,15),(13,15)]
def w9c:MC:=.region [⟨none,.fieldAddr 4 (.var 5),none⟩,⟨none,.load false 1 (.tmp 0),none⟩,⟨none,.lenSl (.tmp 1),none⟩,⟨some 15,.mv (.tmp 2),none⟩]
def w9d:MC:=.region [⟨none,.fieldAddr 1 (.var 14),none⟩,⟨none,.load false 1 (.tmp 0),none⟩,⟨none,.mv (.var 6),none⟩,⟨none,.bin .lss (.tmp 1) (.tmp 2),none⟩,⟨none,.mv (.tmp 3),none⟩,⟨none,.mv (.var 15),some (.tmp 4,true)⟩,⟨none,.bin .eql (.tmp 5) (.cst (.int .i64 0)),some (.tmp 4,true)⟩,⟨none,.mv (.tmp 6),some (.tmp 4,true)⟩,⟨none,.fieldAddr 4 (.var 5),some (.tmp 7,false)⟩,⟨none,.load false 1 (.tmp 8),some (.tmp 7,false)⟩,⟨none,.mv (.var 15),some (.tmp 7,false)⟩,⟨none,.bin .sub (.tmp 10) (.cst (.int .i64 1)),some (.tmp 7,false)⟩,⟨none,.indexSl 3 (.tmp 9) (.tmp 11),some (.tmp 7,false)⟩,⟨none,.fieldAddr 0 (.tmp 12),some (.tmp 7,false)⟩,⟨none,.load false 1 (.tmp 13),some (.tmp 7,false)⟩,⟨none,.fieldAddr 0 (.var 14),some (.tmp 7,false)⟩,⟨none,.load false 1 (.tmp 15),some (.tmp 7,false)⟩,⟨none,.bin .lss (.tmp 14) (.tmp 16),some (.tmp 7,false)⟩,⟨none,.pick (.tmp 7) (.cst (.bool true)) (.tmp 17),some (.tmp 4,true)⟩,⟨none,.mv (.tmp 18),some (.tmp 4,true)⟩,⟨none,.fieldAddr 4 (.var 5),some (.tmp 19,false)⟩,⟨none,.load false 1 (.tmp 20),some (.tmp 19,false)⟩,⟨none,.mv (.var 15),some (.tmp 19,false)⟩,⟨none,.bin .sub (.tmp 22) (.cst (.int .i64 1)),some (.tmp 19,false)⟩,⟨none,.indexSl 3 (.tmp 21) (.tmp 23),some (.tmp 19,false)⟩,⟨none,.fieldAddr 0 (.tmp 24),some (.tmp 19,false)⟩,⟨none,.load false 1 (.tmp 25),some (.tmp 19,false)⟩,⟨none,.fieldAddr 0 (.var 14),some (.tmp 19,false)⟩,⟨none,.load false 1 (.tmp 27),some (.tmp 19,false)⟩,⟨none,.bin .eql (.tmp 26) (.tmp 28),some (.tmp 19,false)⟩,⟨none,.mv (.tmp 29),some (.tmp 19,false)⟩,⟨none,.fieldAddr 4 (.var 5),some (.tmp 30,true)⟩,⟨none,.load false 1 (.tmp 31),some (.tmp 30,true)⟩,⟨none,.mv (.var 15),some (.tmp 30,true)⟩,⟨none,.bin .sub (.tmp 33) (.cst (.int .i64 1)),some (.tmp 30,true)⟩,⟨none,.indexSl 3 (.tmp 32) (.tmp 34),some (.tmp 30,true)⟩,⟨none,.fieldAddr 1 (.tmp 35),some (.tmp 30,true)⟩,⟨none,.load false 1 (.tmp 36),some (.tmp 30,true)⟩,⟨none,.fieldAddr 1 (.var 14),some (.tmp 30,true)⟩,⟨none,.load false 1 (.tmp 38),some (.tmp 30,true)⟩,⟨none,.bin .lss (.tmp 37) (.tmp 39),some (.tmp 30,true)⟩,⟨none,.pick (.tmp 30) (.tmp 40) (.cst (.bool false)),some (.tmp 19,false)⟩,⟨none,.pick (.tmp 19) (.cst (.bool true)) (.tmp 41),some (.tmp 4,true)⟩,⟨some 20,.pick (.tmp 4) (.tmp 42) (.cst (.bool false)),none⟩]
def w9e:MC:=.region [⟨none,.fieldAddr 4 (.var 5),none⟩,⟨none,.load false 1 (.tmp 0),none⟩,⟨none,.load true 3 (.var 14),none⟩,⟨none,.buildSlice 3 [.tmp 2],none⟩,⟨none,.appendN 3 24 (.tmp 1) (.tmp 3),none⟩,⟨none,.fieldAddr 4 (.var 5),none⟩,⟨none,.store 1 (.tmp 5) (.tmp 4),none⟩]
theorem pH:jo=.seq (.seq (.region [⟨none,.mv (.var 12),none⟩,⟨none,.mv (.var 2),none⟩,⟨none,.lenSl (.tmp 1),none⟩,⟨none,.bin .lss (.tmp 0) (.tmp 2),none⟩,⟨none,.mv (.tmp 3),none⟩,⟨none,.mv (.var 12),some (.tmp 4,true)⟩,⟨none,.bin .lss (.tmp 5) (.cst (.int .i64 3)),some (.tmp 4,true)⟩,⟨some 19,.pick (.tmp 4) (.tmp 6) (.cst (.bool false)),none⟩]) (.cond (.var 19) .skip (.exit 2))) (.seq (.seq (.block 3 (.seq w9a (.seq w9b (.seq w9c (.seq w9d (.cond (.var 20) w9e .skip)))))) (.kill [0,1,3,7,8,9,10,11,13,14,15,16,17,18,19,20])) (.region [⟨none,.mv (.var 12),none⟩,⟨none,.bin .add (.tmp 0) (.cst (.int .i64 1)),none⟩,⟨some 12,.mv (.tmp 1),none⟩])):=rfl
abbrev W9 (v2 v4 v6 v12 v13 v14 v15 v19 v20:AV):List AV:=[.undef,.undef,v2,.undef,v4,.ptr 2 0 0,v6,.undef,.undef,.undef,.undef,.undef,v12,v13,v14,v15,.undef,.undef,.undef,v19,v20]
def fL (p:Int × Int):Win:=⟨if aL p.1 3=2 then 1 else 0,if aL p.1 3=0 then 1 else 2,aL p.2 150⟩
theorem Lx {A:aa} (a b:AV):aS 2 1 A (.fp [a,b]) (.int .i64 0)=some (.fp [a,b])/\aS 2 1 A (.fp [a,b]) (.int .i64 1)=some (.fp [b]):=⟨rfl,rfl⟩
section
variable {K:List KC} {A B:aa} {v2 v4 v6:AV} {i:Nat} {p:Int × Int} {wl:List (Int × Int)}
theorem Fq (v19:AV) (hw:SlA 2 (wl.map cg) v2) (hp:wl[i]?=some p) (h1:inI p.1) :
  run (ac GS fs9) 50 (.code w9a :: K) (W9 v2 v4 v6 (.int .i64 (i:Int)) .undef .undef .undef v19 .undef) A=run (ac GS fs9) 50 K (W9 v2 v4 v6 (.int .i64 (i:Int)) (.int .i64 (aL p.1 3)) .undef .undef v19 .undef) A:=by
 have x1:∀A,ae 2 A v2 (.int .i64 (i:Int))=some (.fp [.int .i64 p.1,.int .i64 p.2]):=fun A=>hw.index (A:=A) (x:=cg p) (by rw [List.getElem?_map,hp]; rfl) rfl (by omega) .i64
 have m:=cy h1 (n:=3) (by omega)
 have i2:=fun A=>Lx (A:=A) (.int .i64 p.1) (.int .i64 p.2)
 generalize (i:Int)=I at *
 simp [w9a,x1,m,i2,-ae]
theorem Fp (v19:AV) (hw:SlA 2 (wl.map cg) v2) (hp:wl[i]?=some p) (h2:inI p.2) :
  run (ac GS fs9) 50 (.code w9b :: K) (W9 v2 v4 v6 (.int .i64 (i:Int)) (.int .i64 (aL p.1 3)) .undef .undef v19 .undef) A=run (ac GS fs9) 50 K (W9 v2 v4 v6 (.int .i64 (i:Int)) (.int .i64 (aL p.1 3)) (.ptr A.length 0 0) .undef v19 .undef) (A++[.row 3 false [bi (fL p)]]):=by
 have m:=cy h2 (n:=150) (by omega)
 have pk:=aX p.1 (n:=3) (by omega)
 have i2:=fun A=>Lx (A:=A) (.int .i64 p.1) (.int .i64 p.2)
 have x1:∀A,ae 2 A v2 (.int .i64 (i:Int))=some (.fp [.int .i64 p.1,.int .i64 p.2]):=fun A=>hw.index (A:=A) (x:=cg p) (by rw [List.getElem?_map,hp]; rfl) rfl (by omega) .i64
 have hid:∀n,br n v2=true:=fun n=>by cases n <;> rcases hw with ⟨rfl,_⟩ | rfl <;> rfl
 unfold fL bi
 have y1:∀(a b c:Int) A,ae 1 A (.fs 1 [.int .i64 a,.int .i64 b,.int .i64 c]) (.int .i64 0)=some (.fp [.int .i64 a])/\ae 1 A (.fs 1 [.int .i64 a,.int .i64 b,.int .i64 c]) (.int .i64 1)=some (.fp [.int .i64 b])/\ae 1 A (.fs 1 [.int .i64 a,.int .i64 b,.int .i64 c]) (.int .i64 2)=some (.fp [.int .i64 c]):=fun a b c A=>by
  simp [ae]
 have y2:=y1 0 0 1
 have y3:=y1 1 2 2
 obtain ⟨l2,rfl⟩:∃l2,v2=.fs 2 l2:=by
  rcases hw with ⟨_,h0⟩ | h0
  ·have:wl=[]:=List.map_eq_nil_iff.1 h0
   rw [this] at hp
   simp at hp
  ·exact ⟨_,h0⟩
 clear y1
 generalize aL p.2 150=z at *
 generalize hI:(i:Int)=I at *
 rcases (show aL p.1 3=0\/aL p.1 3=1\/aL p.1 3=2 by omega) with h | h | h
 ·rw [h]
  simp [w9b,x1,y2,y3,m,i2,az,-ae]
 ·rw [h]
  simp [w9b,x1,y2,y3,m,i2,az,-ae]
 ·rw [h]
  simp [w9b,x1,y2,y3,m,i2,az,-ae]
theorem Fo {e lo hi:Int} {o wo:AV} {ws:List Win} (v12 v13 v14 v19:AV) (hr:A[2]?=some (.row 5 false [rqA e lo hi o wo])) (hw:bY A wo 3 (ws.map bi)) :
  run (ac GS fs9) 50 (.code w9c :: K) (W9 v2 v4 v6 v12 v13 v14 .undef v19 .undef) A=run (ac GS fs9) 50 K (W9 v2 v4 v6 v12 v13 v14 (.int .i64 (ws.length:Int)) v19 .undef) A:=by
 unfold rqA at hr
 rcases hw with ⟨rfl,h0⟩ | ⟨_,wid,rfl,_⟩
 ·have h1:ws=[]:=List.map_eq_nil_iff.1 h0
  subst h1
  simp [w9c,hr]
 ·simp [w9c,hr]
theorem Fl {e lo hi:Int} {o wo:AV} {ws:List Win} {w:Win} {n wb:Nat} (v12 v13 v19:AV) (hr:A[2]?=some (.row 5 false [rqA e lo hi o wo])) (hw:bY A wo 3 (ws.map bi)) (hb:A[wb]?=some (.row 3 false [bi w])) (hl:ws.length<=10) :
  ∃c:Bool,(∀K,run (ac GS fs9) 50 (.code w9d :: K) (W9 v2 v4 (.int .i64 (n:Int)) v12 v13 (.ptr wb 0 0) (.int .i64 (ws.length:Int)) v19 .undef) A=run (ac GS fs9) 50 K (W9 v2 v4 (.int .i64 (n:Int)) v12 v13 (.ptr wb 0 0) (.int .i64 (ws.length:Int)) v19 (.bool c)) A) /\
   (c=true->w.t<n/\∀k v,ws.length=k+1->ws[k]?=some v->dL v w):=by
 have b1:=di w.t (n:Int)
 by_cases h1:w.t<(n:Int)
 ·rw [decide_eq_true h1] at b1
  rcases hw with ⟨rfl,h0⟩ | ⟨hne,wid,rfl,hwid⟩
  ·have h1:ws=[]:=List.map_eq_nil_iff.1 h0
   subst h1
   have b2:=mK 0 0
   rw [decide_eq_true rfl] at b2
   refine ⟨true,fun K=>?_,fun _=>⟨by assumption,fun k v h=>by simp at h⟩⟩
   unfold rqA bi at *
   generalize (n:Int)=N at *
   simp [w9d,hb,b1,b2,-aj]
  ·have hws:ws≠[]:=fun e=>hne (by rw [e]; rfl)
   obtain ⟨j,hj⟩:∃j,ws.length=j+1:=⟨ws.length-1,by have:=List.length_pos_iff.2 hws; omega⟩
   obtain ⟨v,hv⟩:∃v,ws[j]?=some v:=⟨_,List.getElem?_eq_getElem (by omega)⟩
   have b2:=mK (ws.length:Int) 0
   rw [decide_eq_false (by omega)] at b2
   have b3:aj .sub (.int .i64 (ws.length:Int)) (.int .i64 1)=some (.int .i64 (j:Int)):=by
    simp only [aj]; rw [if_pos trivial,eo (by unfold inI; omega)]; congr 2; omega
   have x1:ae 3 A (.sl wid 0 (ws.map bi).length) (.int .i64 (j:Int))=some (.ptr wid j 0):=by
    simp only [ae,hwid,List.length_map]
    rw [if_pos ⟨trivial,by omega,by omega,by omega⟩]
    simp
   have ev:(ws.map bi)[j]?=some (bi v):=by rw [List.getElem?_map,hv]; rfl
   have c1:=di v.f w.f
   have c2:=mK v.f w.f
   have c3:=di v.t w.t
   refine ⟨decide (dL v w),fun K=>?_,fun hc=>⟨h1,fun k v' hk hv'=>by
    obtain rfl:k=j:=by omega
    rw [hv] at hv'
    injection hv' with hv'
    subst hv'
    exact of_decide_eq_true hc⟩⟩
   generalize (ws.map bi).length=M at *
   generalize hN:(n:Int)=N at *
   generalize (ws.length:Int)=W at *
   generalize (j:Int)=J at *
   unfold rqA bi at *
   by_cases g1:v.f<w.f
   ·rw [decide_eq_true g1] at c1
    have e:decide (dL v w)=true:=decide_eq_true (.inl g1)
    rw [e]
    simp [w9d,hr,hb,b1,b2,b3,x1,hwid,ev,c1,-aj,-ae]
   ·rw [decide_eq_false g1] at c1
    by_cases g2:v.f=w.f
    ·rw [decide_eq_true g2] at c2
     have e:decide (dL v w)=decide (v.t<w.t):=by
      by_cases g3:v.t<w.t
      ·rw [decide_eq_true g3]; exact decide_eq_true (.inr ⟨g2,g3⟩)
      ·rw [decide_eq_false g3]; exact decide_eq_false (by unfold dL; omega)
     rw [e]
     simp [w9d,hr,hb,b1,b2,b3,x1,hwid,ev,c1,c2,c3,-aj,-ae]
    ·rw [decide_eq_false g2] at c2
     have e:decide (dL v w)=false:=decide_eq_false (by unfold dL; omega)
     rw [e]
     simp [w9d,hr,hb,b1,b2,b3,x1,hwid,ev,c1,c2,-aj,-ae]
 ·rw [decide_eq_false h1] at b1
  refine ⟨false,fun K=>?_,fun h=>by cases h⟩
  unfold bi at hb
  generalize (n:Int)=N at *
  generalize (ws.length:Int)=W at *
  simp [w9d,hb,b1,-aj]
theorem Fk {e lo hi:Int} {o wo:AV} {w:Win} {n wb:Nat} (v12 v13 v15 v19 v20:AV) (hd:A[wb]?=some (.row 3 false [bi w])) (hr:A[2]?=some (.row 5 false [rqA e lo hi o wo])) (ap:aV 3 24 (A++[.row 3 false [bi w]]) wo (.fs 3 [bi w])=some (.sl (A.length+1) 0 n,B)) (hrB:B[2]?=some (.row 5 false [rqA e lo hi o wo])) :
  run (ac GS fs9) 50 (.code w9e :: K) (W9 v2 v4 v6 v12 v13 (.ptr wb 0 0) v15 v19 v20) A=run (ac GS fs9) 50 K (W9 v2 v4 v6 v12 v13 (.ptr wb 0 0) v15 v19 v20) (B.set 2 (.row 5 false [rqA e lo hi o (.sl (A.length+1) 0 n)])):=by
 rw [<-qY] at ap
 unfold bi rqA at *
 simp [w9e,hd,hr,hrB,ap,bh,az]
end
end Sh
namespace Sh
section
variable {A:aa} {v2 v4:AV} {x:fO} {e lo hi:Int} {ns:List fP} {ws:List Win} {wl:List (Int × Int)} {n i:Nat}
theorem wt (p:Int × Int):0<=(fL p).f/\(fL p).f+1<=(fL p).t/\0<=(fL p).l/\(fL p).l<=1000000:=by
 have p1:=aX p.1 (n:=3) (by omega)
 have p2:=aX p.2 (n:=150) (by omega)
 unfold fL
 simp only
 refine ⟨?_,?_,p2.1,by omega⟩
 ·split <;> omega
 ·split <;> split <;> omega
theorem gS.snoc {w:Win} (h:gS n ws) (h1:0<=w.f/\w.f+1<=w.t/\0<=w.l/\w.l<=1000000) (h2:w.t<n) (h3:∀k v,ws.length=k+1->ws[k]?=some v->dL v w):gS n (ws++[w]):=by
 intro i y hy
 rcases Nat.lt_or_ge i ws.length with hi | hi
 ·rw [List.getElem?_append_left hi] at hy
  obtain ⟨a,b,c,d⟩:=h i y hy
  refine ⟨a,b,c,fun k v hk hv=>d k v hk ?_⟩
  rw [List.getElem?_append_left (by omega)] at hv
  exact hv
 ·rw [List.getElem?_append_right hi] at hy
  have h0:i-ws.length=0:=by
   have:=(List.getElem?_eq_some_iff.1 hy).1
   simp at this
   omega
  rw [h0] at hy
  injection hy with hy
  subst hy
  refine ⟨⟨h1.1,by omega⟩,⟨h1.2.1,by omega⟩,⟨h1.2.2.1,h1.2.2.2⟩,fun k v hk hv=>?_⟩
  rw [List.getElem?_append_left (by omega)] at hv
  exact h3 k v (by omega) hv
theorem AW {p:Int × Int} (h:At9 A x e lo hi ns ws) (hw:SlA 2 (wl.map cg) v2) (hp:wl[i]?=some p) (hpi:inI p.1/\inI p.2) (hok:gS n ws) (hwl:ws.length<=i) (hi3:i<3) (_hln:wl.length<=9223372036854775807) :
  ∃B ws',run (ac GS fs9) 50 [.code jo] (lx v2 v4 (.ptr 2 0 0) (.int .i64 (n:Int)) (.int .i64 (i:Int))) A=some (.normal (lx v2 v4 (.ptr 2 0 0) (.int .i64 (n:Int)) (.int .i64 ((i+1:Nat):Int))) B)/\At9 B x e lo hi ns ws'/\gS n ws'/\ws'.length<=i+1:=by
 have hi':i<wl.length:=(List.getElem?_eq_some_iff.1 hp).1
 have b1:=bK i wl.length .i64
 rw [decide_eq_true hi'] at b1
 have b2:aj .lss (.int .i64 (i:Int)) (.int .i64 3)=some (.bool true):=by rw [di,decide_eq_true (by omega)]
 have b3:=aY i (by omega)
 have hlx:ay v2=some (.int .i64 (wl.length:Int)):=by
  have:=hw.len
  rw [List.length_map] at this
  exact this
 have ra:=fun K=>Fq (K:=K) (A:=A) (v4:=v4) (v6:=.int .i64 (n:Int)) (.bool true) hw hp hpi.1
 have rb:=fun K=>Fp (K:=K) (A:=A) (v4:=v4) (v6:=.int .i64 (n:Int)) (.bool true) hw hp hpi.2
 have F1:Fr A (A++[.row 3 false [bi (fL p)]]) []:=Fr.app _ _ _
 have h1:=h.keep F1
 have w1:(A++[Ent.row 3 false [bi (fL p)]])[A.length]?=some (.row 3 false [bi (fL p)]):=by simp
 obtain ⟨o,wo,es,r1,o1,n1,q1,d1⟩:=h1.r
 have l1:(A++[Ent.row 3 false [bi (fL p)]]).length=A.length+1:=by simp
 generalize A++[Ent.row 3 false [bi (fL p)]]=A1 at *
 have rc:=fun K v12 v13 v14=>Fo (K:=K) (v2:=v2) (v4:=v4) (v6:=.int .i64 (n:Int)) v12 v13 v14 (.bool true) r1 q1
 obtain ⟨c,rd,hc⟩:=Fl (v2:=v2) (v4:=v4) (n:=n) (.int .i64 (i:Int)) (.int .i64 (aL p.1 3)) (.bool true) r1 q1 w1 (by omega)
 cases c with
 | false=>
  refine ⟨A1,ws,?_,⟨h1.x,h1.z,o,wo,es,r1,o1,n1,q1,d1⟩,hok,by omega⟩
  rw [pH]
  clear hok hc
  generalize ((i+1:Nat):Int)=I1 at *
  generalize (wl.length:Int)=M at *
  generalize (ws.length:Int)=W at *
  generalize (n:Int)=N at *
  generalize (i:Int)=I at *
  simp [b1,b2,b3,hlx,ra,rb,rc,rd,-aj,-ay]
 | true=>
  obtain ⟨hc1,hc2⟩:=hc rfl
  have F6:Fr A1 (A1++[.row 3 false [bi (fL p)]]) []:=Fr.app _ _ _
  have q6:=q1.fr F6 (by simp)
  have o6:=o1.fr F6 (by simp)
  obtain ⟨B,ap,k1,k2,k3⟩:=q6.append (bytes:=24) (bi (fL p)) (by omega) (by omega) (by rw [List.length_map]; omega)
  have l6:(A1++[Ent.row 3 false [bi (fL p)]]).length=A1.length+1:=by simp
  rw [l6] at ap k1
  have rB:=k2.at (F6.at r1 (by simp)) (q6.notId (F6.at r1 (by simp)) (by omega))
  have re:=fun K v12 v13 v15 v20=>Fk (K:=K) (v2:=v2) (v4:=v4) (v6:=.int .i64 (n:Int)) v12 v13 v15 (.bool true) v20 w1 r1 ap rB
  have FC:Fr B (B.set 2 (.row 5 false [rqA e lo hi o (.sl (A1.length+1) 0 ((ws.map bi).length+1))])) [2]:=Fr.set _ _ _
  have l5:2<A1.length:=(List.getElem?_eq_some_iff.1 r1).1
  have olow:=o1.low
  have x1:∀k∈aC wo,∀l,(A1++[Ent.row 3 false [bi (fL p)]])[k]?≠some (.row 1 false l):=fun k hk l hh=>q6.notId hh (by omega) hk
  have x2:∀k∈[2],∀l,B[k]?≠some (.row 1 false l):=fun k hk l=>by simp at hk; subst hk; rw [rB]; simp
  have x3:∀k∈[2],∀l,B[k]?≠some (.row 3 false l):=fun k hk l=>by simp at hk; subst hk; rw [rB]; simp
  refine ⟨B.set 2 (.row 5 false [rqA e lo hi o (.sl (A1.length+1) 0 ((ws.map bi).length+1))]),ws++[fL p],?_,⟨?_,?_,o,.sl (A1.length+1) 0 ((ws.map bi).length+1),es,List.getElem?_set_self (List.getElem?_eq_some_iff.1 rB).1,?_,?_,?_,fun k hk hko=>?_⟩,hok.snoc (wt p) hc1 hc2,by simp; omega⟩
  ·rw [pH]
   clear hok hc
   generalize (ws.map bi).length=W2 at *
   generalize ((i+1:Nat):Int)=I1 at *
   generalize (wl.length:Int)=M at *
   generalize (ws.length:Int)=W at *
   generalize (n:Int)=N at *
   generalize (i:Int)=I at *
   simp [b1,b2,b3,hlx,ra,rb,rc,rd,re,-aj,-ay]
  ·rw [List.getElem?_set_ne (by omega)]; exact k2.at (F6.at h1.x (by simp)) (q6.notId (F6.at h1.x (by simp)) (by omega))
  ·rw [List.getElem?_set_ne (by omega)]; exact k2.at (F6.at h1.z (by simp)) (q6.notId (F6.at h1.z (by simp)) (by omega))
  ·exact (o6.fr k2 (fun k hk hm=>d1 k hm hk)).frE FC x3
  ·exact ((n1.fr F6 (by simp)).fr k2 x1).fr FC x2
  ·rw [List.map_append]
   exact k1.fr FC (fun k hk hm=>by simp [aC] at hk; simp at hm; omega)
  ·simp [aC] at hk
   have:=olow k hko
   omega
end
end Sh
namespace Sh
section
variable {v1 v2 v4:AV} {x:fO} {e lo hi:Int} {nd:List fO} {wl:List (Int × Int)} {n:Nat}
theorem GD (hn:SlA 4 (nd.map cB) v1) (hx:x.ok) (hok:∀q∈nd,q.ok) (hn3:n<=3) (hnl:nd.length<=9223372036854775807):∀(κ m:Nat) (ns:List fP) (A:aa),ns.length+κ=n->κ<m->At9 A x e lo hi ns []->(∀y∈ns,∃q,y=jd q) ->
  ∃B ns',bI (evC (ac GS fs9) 50 kl) jf m (lE v1 v2 (.ptr 0 0 0) v4 (.ptr 2 0 0) (.int .i64 (n:Int)) (.int .i64 (ns.length:Int))) A=some (.exit 0 ((lE v1 v2 (.ptr 0 0 0) v4 (.ptr 2 0 0) (.int .i64 (n:Int)) (.int .i64 (n:Int))).set 16 (.bool false)) B)/\At9 B x e lo hi ns' []/\ns'.length=n/\∀y∈ns',∃q,y=jd q:=by
 intro κ
 induction κ with
 | zero=>
  intro m ns A hk hm h hy
  obtain ⟨m,rfl⟩:∃m',m=m'+1:=⟨m-1,by omega⟩
  obtain rfl:ns.length=n:=by omega
  refine ⟨A,ns,?_,h,rfl,hy⟩
  rw [aF,vf]
  simp [kl]
 | succ κ ih=>
  intro m ns A hk hm h hy
  obtain ⟨m,rfl⟩:∃m',m=m'+1:=⟨m-1,by omega⟩
  obtain ⟨B,r,hB⟩:=FR (v2:=v2) (v4:=v4) h hn hx hok (by omega) hn3 hnl
  obtain ⟨C,ns',r2,k⟩:=ih m (ns++[jd (yG nd x ns.length)]) B (by simp; omega) (by omega) hB (fun y hy'=>by
   rcases List.mem_append.1 hy' with h' | h'
   ·exact hy y h'
   ·rw [List.mem_singleton] at h'; exact ⟨_,h'⟩)
  refine ⟨C,ns',?_,k⟩
  rw [aF,vf,r]
  rw [List.length_append,List.length_singleton] at r2
  exact r2
theorem GC {ns:List fP} (hw:SlA 2 (wl.map cg) v2) (hpi:∀p∈wl,inI p.1/\inI p.2) (hln:wl.length<=9223372036854775807):∀(κ i m:Nat) (ws:List Win) (A:aa),i+κ=min wl.length 3->κ<m->At9 A x e lo hi ns ws->gS n ws->ws.length<=i ->
  ∃B ws',bI (evC (ac GS fs9) 50 jo) je m (lx v2 v4 (.ptr 2 0 0) (.int .i64 (n:Int)) (.int .i64 (i:Int))) A=some (.exit 2 ((lx v2 v4 (.ptr 2 0 0) (.int .i64 (n:Int)) (.int .i64 ((min wl.length 3:Nat):Int))).set 19 (.bool false)) B)/\At9 B x e lo hi ns ws'/\gS n ws'/\ws'.length<=3:=by
 intro κ
 induction κ with
 | zero=>
  intro i m ws A hk hm h hok hl
  obtain ⟨m,rfl⟩:∃m',m=m'+1:=⟨m-1,by omega⟩
  obtain rfl:i=min wl.length 3:=by omega
  refine ⟨A,ws,?_,h,hok,by omega⟩
  have hlx:ay v2=some (.int .i64 (wl.length:Int)):=by
   have:=hw.len
   rw [List.length_map] at this
   exact this
  have b1:=bK (min wl.length 3) wl.length .i64
  have b2:aj .lss (.int .i64 ((min wl.length 3:Nat):Int)) (.int .i64 3)=some (.bool (decide (min wl.length 3<3))):=by
   rw [di]
   congr 2
   rw [decide_eq_decide]
   omega
  rw [aF,ve]
  by_cases h1:min wl.length 3<wl.length
  ·rw [decide_eq_true h1] at b1
   rw [decide_eq_false (by omega)] at b2
   generalize ((min wl.length 3:Nat):Int)=J at *
   generalize (wl.length:Int)=M at *
   simp [jo,hlx,b1,b2,-aj,-ay]
  ·rw [decide_eq_false h1] at b1
   generalize ((min wl.length 3:Nat):Int)=J at *
   generalize (wl.length:Int)=M at *
   simp [jo,hlx,b1,-aj,-ay]
 | succ κ ih=>
  intro i m ws A hk hm h hok hl
  obtain ⟨m,rfl⟩:∃m',m=m'+1:=⟨m-1,by omega⟩
  obtain ⟨p,hp⟩:∃p,wl[i]?=some p:=⟨_,List.getElem?_eq_getElem (by omega)⟩
  obtain ⟨B,ws',r,h1,h2,h3⟩:=AW (v4:=v4) h hw hp (hpi p (List.mem_of_getElem? hp)) hok hl (by omega) hln
  obtain ⟨C,ws2,r2,k⟩:=ih (i+1) m ws' B (by omega) (by omega) h1 h2 h3
  refine ⟨C,ws2,?_,k⟩
  rw [aF,ve,r]
  exact r2
end
def M9:aN:=fun args=>evF (ac GS fs9) 50 KW 4 args
theorem ES:bS Tryz.prog GS 9 M9:=bS.of_ev (E:=ac GS fs9) (ai (ag (au.of_pure Fb 4) an)) rfl at9z HW 4 (fun _ _ h=>⟨50,h⟩) (aU.cons (M:=_) rfl aU.nil)
theorem CR {B:aa} {e lo hi:Int} {o wo:AV} {es:List AV} {ns:List fP} {ws:List Win} (ho:bY B o 3 es) (hn:gT B ns es) (hw:bY B wo 3 (ws.map bi)) :
  ∃nv wv L,frz B 4 (rqA e lo hi o wo)=rqA e lo hi nv wv/\SlA 3 L nv/\eS ns L/\SlA 3 (ws.map bi) wv/\bV B 4 (rqA e lo hi o wo)=true:=by
 have fw:frz B 3 wo=slA 3 (ws.map bi):=hw.frz 2 fun y hy=>by
  obtain ⟨w,_,rfl⟩:=List.mem_map.1 hy
  rfl
 have gw:bV B 3 wo=true:=hw.fresh 2 fun y hy=>by
  obtain ⟨w,_,rfl⟩:=List.mem_map.1 hy
  rfl
 have el:∀(i:Nat) (m:fP),ns[i]?=some m->∃tv,(es.map (frz B 2))[i]?=some (bD tv m.mn m.mx)/\SlA 1 (m.tools.map (.int .i64)) tv:=fun i m hm=>by
  obtain ⟨tv,h1,h2⟩:=hn.2 i m hm
  have ft:frz B 1 tv=slA 1 (m.tools.map (.int .i64)):=h2.frz 0 fun y hy=>by
   obtain ⟨w,_,rfl⟩:=List.mem_map.1 hy
   rfl
  refine ⟨slA 1 (m.tools.map (.int .i64)),?_,bu _ _⟩
  rw [List.getElem?_map,h1,<-ft]
  rfl
 have ge:∀y∈es,bV B 2 y=true:=fun y hy=>by
  obtain ⟨i,hi⟩:=List.mem_iff_getElem?.1 hy
  have hi':i<ns.length:=by rw [<-hn.1]; exact (List.getElem?_eq_some_iff.1 hi).1
  obtain ⟨tv,h1,h2⟩:=hn.2 i _ (List.getElem?_eq_getElem hi')
  rw [hi] at h1
  injection h1 with h1
  subst h1
  have gt:bV B 1 tv=true:=h2.fresh 0 fun y hy=>by
   obtain ⟨w,_,rfl⟩:=List.mem_map.1 hy
   rfl
  show List.all [tv,.int .i64 _,.int .i64 _] (bV B 1)=true
  simp [gt,bV]
 have go:bV B 3 o=true:=ho.fresh 2 ge
 refine ⟨frz B 3 o,slA 3 (ws.map bi),es.map (frz B 2),?_,?_,⟨by rw [List.length_map]; exact hn.1,el⟩,bu _ _,?_⟩
 ·unfold rqA
  show AV.agg (List.map (frz B 3) _)=_
  simp only [List.map_cons,List.map_nil,fw]
  rfl
 ·rcases ho with ⟨rfl,rfl⟩ | ⟨h1,id,rfl,h2⟩
  ·exact .inl ⟨rfl,rfl⟩
  ·refine .inr ?_
   simp [frz,h2]
 ·unfold rqA
  show List.all [.int .i64 e,.int .i64 lo,.int .i64 hi,o,wo] (bV B 3)=true
  simp [go,gw,bV]
end Sh
end Go.Proofs.YtfkcoekicjjndaaGreat
