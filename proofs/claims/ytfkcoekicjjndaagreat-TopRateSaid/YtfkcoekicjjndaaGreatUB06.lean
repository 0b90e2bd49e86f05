import Derived.Test.YtfkcoekicjjndaaGreatUB05
import Derived.Test.YtfkcoekicjjndaaGreatChecked
import Derived.KernelRfl
set_option maxRecDepth 100000
set_option maxHeartbeats 4000000
noncomputable section
namespace Go.Proofs.YtfkcoekicjjndaaGreat
namespace Cy
open Go
theorem kL {n:Int} {l:List a6} {p:Int} (hr:cf n l p):(lvM n l p).2.2=true↔¬ Pos l p:=by
 obtain ⟨m,rfl⟩:∃m:Nat,n=(m:Int):=⟨n.toNat,by have:=hr.1.1; omega⟩
 rw [<-mw hr]
 unfold lvM
 rw [if_pos hr,Int.toNat_natCast]
 split
 ·rename_i h; simp [h]
 ·rename_i h; simp [h]
theorem eJ {n:Int} {l:List a6} {p:Int} (hr:cf n l p) (h:(lvM n l p).2.2=true):(lvM n l p).2.1=[]/\ea n l p (lvM n l p).1/\(∀x∈(lvM n l p).1,x<=100000000)/\∀x,ea n l p x->∀v:Nat,(v:Int)<n->(lvM n l p).1.getD v 0<=x.getD v 0:=by
 obtain ⟨m,rfl⟩:∃m:Nat,n=(m:Int):=⟨n.toNat,by have:=hr.1.1; omega⟩
 have hv:=hr.1.2.2
 have hn:=hr.1.1
 have e:lvM m l p=((bX (lar p l) m).1,[],true):=by
  unfold lvM at h ⊢
  rw [if_pos hr,Int.toNat_natCast] at h ⊢
  split
  ·rfl
  ·rename_i h'
   rw [if_neg h'] at h; cases h
 have hlv:(bX (lar p l) m).2=true:=by
  have:=(kL hr).1 h
  exact (mw hr).2 this
 obtain ⟨h1,h2,h3,h4,h5⟩:=kw (gK (p:=p) hv)
 rw [e]
 have key:∀x∈(bX (lar p l) m).1,0<=x/\x<=100000000:=?_
 ·refine ⟨rfl,⟨hr,by rw [h1],fun x hx=>by have:=key x hx; omega,h4 hlv⟩,fun x hx=>(key x hx).2,fun x hx v hvm=>?_⟩
  refine h5 x hx.2.2.2 (fun w hw=>?_) v (by omega)
  have hwl:w<x.length:=by have:=hx.2.1; omega
  have hg:x.getD w 0=x[w]:=by rw [List.getD_eq_getElem?_getD,List.getElem?_eq_getElem hwl]; rfl
  rw [hg]
  exact (hx.2.2.1 _ (List.getElem_mem hwl)).1
 intro x hx'
 obtain ⟨v,hv',rfl⟩:=List.mem_iff_getElem.1 hx'
 have hvn:v<m:=by rw [<-h1]; exact hv'
 have hg:(bX (lar p l) m).1.getD v 0=(bX (lar p l) m).1[v]:=by rw [List.getD_eq_getElem?_getD,List.getElem?_eq_getElem hv']; rfl
 have h0:=h2 v
 rw [hg] at h0
 refine ⟨h0,?_⟩
 obtain ⟨u,r,k1,k2,k3⟩:=h3 v hvn
 have hN:=(mu (gK (p:=p) hv)).1 hlv
 obtain ⟨r',j1,j2,j3⟩:=Eh (gK (p:=p) hv) hN _ r u v rfl k1 k2
 rw [hg] at k3
 have hbd:∀ {r:List cR} {u v:Nat},isW (lar p l) u r v->iB r<=3000000*r.length:=by
  intro r
  induction r with
  | nil=>intro _ _ _; simp [iB]
  | cons a r ih=>
   rintro u v ⟨q1,_,q3⟩
   have:=ih q3
   have:=(se (show m<=32 by omega) hr.2 hv a q1).2.2.2
   simp only [iB,List.length_cons]
   omega
 have:=hbd j1
 omega
theorem gJ {n:Int} {l:List a6} {p:Int} (hr:cf n l p) (h:(lvM n l p).2.2=false):(lvM n l p).1=[]/\eE n l p (lvM n l p).2.1/\(lvM n l p).2.1.length<=32/\∀z∈(lvM n l p).2.1,inI z:=by
 obtain ⟨m,rfl⟩:∃m:Nat,n=(m:Int):=⟨n.toNat,by have:=hr.1.1; omega⟩
 have hlv:¬ (bX (lar p l) m).2=true:=fun h'=>by
  have:=(kL hr).2 ((mw hr).1 h')
  rw [h] at this; cases this
 obtain ⟨res,u,xs,k1,k2,k3,k4,k5,k6,k7⟩:=vI hr hlv
 have e:lvM m l p=([],res,false):=by
  unfold lvM
  rw [if_pos hr,Int.toNat_natCast,if_neg hlv,k1]; rfl
 rw [e]
 refine ⟨rfl,⟨hr,_,_,k7,k6⟩,by rw [k2]; simpa using k5,fun z hz=>?_⟩
 unfold exM at k7
 simp only [Option.ite_none_right_eq_some] at k7
 have:=k7.1.2 z hz
 have:=hr.1.2.1
 unfold inI; omega
theorem jk {xs:List Int} (hl:xs.length<=1000) (h:∀z∈xs,inI z):ev (slA 1 (ax xs))=some xs:=tg (by omega) h
theorem t7 {n:Int} {l:List a6} {p:Int} {s:List Int} (h:ea n l p s):s.length<=32/\∀z∈s,inI z:=by
 obtain ⟨h1,h2,h3,_⟩:=h
 have:=h1.1.1
 refine ⟨by omega,fun z hz=>?_⟩
 have:=h3 z hz
 unfold inI; omega
theorem om {n:Int} {l:List a6} {p:Int} {s:List Int} (h:ea n l p s):¬ Pos l p:=pM h.1.1.2.2 h.2.2.2
theorem uG {n:Int} {l:List a6} {p:Int} {c:List Int} (h:eE n l p c):Pos l p:=by
 obtain ⟨_,s,t,h1,h2⟩:=h
 obtain ⟨u,xs,k1,k2,k3,k4,k5,k6⟩:=ya h1
 exact ⟨u,xs,k2,by omega⟩
open Classical in
theorem m19 {n:Int} {a b:AV} {l:List a6} {p:Int} {s:List Int} (ha:bJ a=some l) (hb:ev b=some s):M19 [.int .i64 n,a,.int .i64 p,b]=some (.bool (decide (ea n l p s))):=by simp only [M19,ha,hb]
end Cy
namespace Clu
open Go
open Cy (GC a6 dp bJ bZ dq okA smM smT lvM lvT ea eE cf Pos kL eJ gJ om uG)
theorem x5 {T:bb} {s:Option (Int × List Int)} (h:sOk T s):bZ (lw s):=by
 unfold lw bZ
 cases s with
 | none=>simp
 | some x=>have:=h x rfl; simp only; omega
structure yp (T:bb) (s:Option (Int × List Int)) (l:List (List Int)):Prop where
 ok:sOk T s
 no:∀x,s=some x->¬ Pos (ba T x.2) x.1/\∃l1 l2,l=l1++x.2 :: l2/\∀o∈l1,Pos (ba T o) x.1
 pos:∀o∈l,∀q,1<=q->q<=lw s->Pos (ba T o) q
theorem yp.step {T:bb} {s:Option (Int × List Int)} {l:List (List Int)} (h:yp T s l) {o:List Int} (hO:o∈aC T):yp T (gU T s o) (l++[o]):=by
 have hper:=x5 h.ok
 have hok:=oZ h.ok hO
 have hv:=(jW hO).1
 unfold gU at hok ⊢
 cases hm:smM (o.length:Int) (ba T o) 1 (lw s) with
 | none=>
  rw [hm] at hok
  have hn:=Bf hper hv hm
  refine ⟨h.ok,fun x hx=>?_,fun o' ho' q h1 h2=>?_⟩
  ·obtain ⟨k1,l1,l2,k2,k3⟩:=h.no x hx
   exact ⟨k1,l1,l2++[o],by rw [k2]; simp,k3⟩
  ·rcases List.mem_append.1 ho' with h3 | h3
   ·exact h.pos o' h3 q h1 h2
   ·rw [List.mem_singleton] at h3
    subst h3
    exact hn q h1 h2
 | some p=>
  rw [hm] at hok
  obtain ⟨k1,k2,k3,k4,k5⟩:=qN hper hm
  refine ⟨hok,fun x hx=>?_,fun o' ho' q h1 h2=>?_⟩
  ·injection hx with hx
   subst hx
   exact ⟨k4,l,[],rfl,fun o' ho'=>h.pos o' ho' p k1 k2⟩
  ·have h2:q<=p-1:=h2
   rcases List.mem_append.1 ho' with h3 | h3
   ·exact h.pos o' h3 q h1 (by omega)
   ·rw [List.mem_singleton] at h3
    subst h3
    exact k5 q h1 (by omega)
theorem yp.fold {T:bb}:∀(r:List (List Int)) {s:Option (Int × List Int)} {l:List (List Int)},yp T s l->(∀o∈r,o∈aC T)->yp T (r.foldl (gU T) s) (l++r)
 | [],s,l,h,_=>by simpa using h
 | o :: r,s,l,h,hr=>by
  have:=yp.fold r (h.step (hr o (by simp))) (fun o' ho'=>hr o' (by simp [ho']))
  rw [List.append_assoc] at this
  exact this
theorem o6 (T:bb):yp T (qk T) (aC T):=by
 have:=yp.fold (T:=T) (aC T) (s:=none) (l:=[]) ⟨fun x h=>(by cases h),fun x h=>(by cases h),fun o h=>(by cases h)⟩ (fun _ h=>h)
 rwa [List.nil_append] at this
theorem i5 {T:bb} {o:List Int} (hO:o∈aC T) {p:Int} (h1 : -1000000<=p) (h2:p<=1000000):cf (o.length:Int) (ba T o) p:=⟨(jW hO).1,h1,h2⟩
theorem GZ {T:bb} {o:List Int} (hO:o∈aC T) {p:Int} (h1:1<=p) (h2:p<=1000000) (hp:¬ Pos (ba T o) p) (hq:1<p->Pos (ba T o) (p-1)):Chk T (nc T (p,o)):=by
 have hR:=i5 hO (p:=p) (by omega) h2
 have k1:=eJ hR ((kL hR).2 hp)
 refine ⟨hO,⟨h1,h2⟩,k1.2.1,?_⟩
 show if p=1 then (if p > 1 then (lvM (o.length:Int) (ba T o) (p-1)).2.1 else [])=[] else _
 by_cases e:p=1
 ·rw [if_pos e,if_neg (by omega)]
 ·rw [if_neg e]
  have hR':=i5 hO (p:=p-1) (by omega) (by omega)
  have hf:(lvM (o.length:Int) (ba T o) (p-1)).2.2=false:=by
   cases h:(lvM (o.length:Int) (ba T o) (p-1)).2.2 with
   | false=>rfl
   | true=>exact absurd (hq (by omega)) ((kL hR').1 h)
  have:=(gJ hR' hf).2.1
  show eE (o.length:Int) (ba T o) (p-1) (if p > 1 then (lvM (o.length:Int) (ba T o) (p-1)).2.1 else [])
  rw [if_pos (by omega)]
  exact this
theorem dQ {T:bb} {s:be} (h:dZ T=some s):Chk T s:=by
 unfold dZ at h
 rw [Option.map_eq_some_iff] at h
 obtain ⟨⟨p,o⟩,h,rfl⟩:=h
 have hB:=o6 T
 rw [h] at hB
 obtain ⟨h1,h2,h3⟩:=hB.ok _ rfl
 exact GZ h3 h1 h2 (hB.no _ rfl).1 fun hp=>hB.pos o h3 (p-1) (by simp only at h1; omega) (Int.le_refl _)
theorem qj {T:bb} {s:be} (h:dZ T=some s):qk T=some (s.period,s.order)/\s=nc T (s.period,s.order):=by
 unfold dZ at h
 rw [Option.map_eq_some_iff] at h
 obtain ⟨⟨p,o⟩,h,rfl⟩:=h
 exact ⟨h,rfl⟩
end Clu
namespace Clu
open Go
open Cy (GC a6 dp bJ bZ dq okA smM smT lvM lvT ea eE cf Pos kL eJ gJ om uG lar bX mw)
def t1:bb:=⟨[(20,12),(30,12)],1,1,2,1⟩
def t2:bb:=⟨[(20,12),(30,12)],1,1,2,2⟩
def t3:bb:=⟨[(20,9),(30,9)],1,1,2,2⟩
def ar0:List a6:=[⟨0,1,4,0⟩,⟨1,2,4,0⟩,⟨2,0,6,1⟩,⟨0,1,24,0⟩,⟨1,0,-36,0⟩,⟨1,2,34,0⟩,⟨2,1,-46,0⟩]
instance:DecidableEq a6:=fun a b=>by
 obtain ⟨a1,a2,a3,a4⟩:=a
 obtain ⟨b1,b2,b3,b4⟩:=b
 exact decidable_of_iff (a1=b1/\a2=b2/\a3=b3/\a4=b4) ⟨fun ⟨h1,h2,h3,h4⟩=>by rw [h1,h2,h3,h4],fun h=>by injection h with h1 h2 h3 h4; exact ⟨h1,h2,h3,h4⟩⟩
theorem BI {l:List a6} {q:Int} (c:List (a6 × Nat)) (u:Int) (hw:Cy.pN l u c u) (hl:0<Cy.il q c):Pos l q:=⟨u,c,hw,hl⟩
theorem qZ {l:List a6} {x:a6} {i:Nat} (h:l[i]?=some x):(x,i)∈Cy.num l:=by
 obtain ⟨hi,rfl⟩:=List.getElem?_eq_some_iff.1 h
 exact List.mem_of_getElem? (Cy.eB l i hi)
theorem pos0 {q:Int} (h:q<64):Pos ar0 q:=BI [(⟨0,1,24,0⟩,3),(⟨1,2,34,0⟩,5),(⟨2,0,6,1⟩,2)] 0 ⟨qZ rfl,rfl,qZ rfl,rfl,qZ rfl,rfl,rfl⟩ (by simp [Cy.il,a6.len]; omega)
theorem xf {T:bb} {s:be} (h:Chk T s):(s.order.length<=5/\∀z∈s.order,inI z)/\(s.starts.length<=32/\∀z∈s.starts,inI z)/\(s.proof.length<=200/\∀z∈s.proof,inI z):=by
 obtain ⟨h1,h2,h3,h4⟩:=h
 have k:=bQ h1
 have kb:=fX h1
 refine ⟨⟨by have:=k.1.2.2.2.1; omega,fun z hz=>by have:=kb z hz; have:=k.1.2.2.2.1; unfold inI; omega⟩,Cy.t7 h3,?_⟩
 split at h4
 ·rw [h4]; simp
 ·obtain ⟨hR,a,b,h5,_⟩:=h4
  unfold Cy.exM at h5
  simp only [Option.ite_none_right_eq_some] at h5
  refine ⟨h5.1.1.2,fun z hz=>?_⟩
  have:=h5.1.2 z hz
  have:=hR.1.2.1
  unfold inI; omega
theorem fQ {T:bb} {s:be} (h:Chk T s):iO s (slA 1 (ax s.order)) (slA 1 (ax s.starts)) (slA 1 (ax s.proof)):=by
 obtain ⟨⟨h1,h2⟩,⟨h3,h4⟩,h5,h6⟩:=xf h
 exact ⟨aR _ _,aR _ _,aR _ _,by have:=h.2.1; unfold inI; omega,by omega,by omega,h4,by omega,h6⟩
end Clu
namespace Tr
open Go
def gf:MC:=.seq (.region [⟨some 17,.bin .lss (.var 16) (.var 15),none⟩]) (.seq (.cond (.var 17) .skip (.exit 0)) (.seq (.seq (.block 1 (.seq (.region [⟨none,.indexSl 2 (.var 14) (.var 16),none⟩,⟨none,.load true 2 (.tmp 0),none⟩,⟨some 10,.alloc 2 (.agg [.int .i64 0,.int .i64 0]),none⟩,⟨none,.store 2 (.var 10) (.tmp 1),none⟩]) (.seq (.seq (.region [⟨none,.fieldAddr 0 (.var 10),none⟩,⟨none,.load false 1 (.tmp 0),none⟩,⟨none,.mv (.var 7),none⟩,⟨none,.lenSl (.tmp 2),none⟩,⟨none,.call (.fn 57) [.tmp 1,.cst (.int .i64 0),.tmp 3],none⟩,⟨none,.un .not (.tmp 4),none⟩,⟨none,.mv (.tmp 5),none⟩,⟨none,.fieldAddr 1 (.var 10),some (.tmp 6,false)⟩,⟨none,.load false 1 (.tmp 7),some (.tmp 6,false)⟩,⟨none,.mv (.var 9),some (.tmp 6,false)⟩,⟨none,.load true 5 (.var 4),some (.tmp 6,false)⟩,⟨none,.mv (.var 8),some (.tmp 6,false)⟩,⟨none,.fieldAddr 0 (.var 10),some (.tmp 6,false)⟩,⟨none,.load false 1 (.tmp 12),some (.tmp 6,false)⟩,⟨none,.call (.fn 65) [.tmp 10,.tmp 11,.tmp 13],some (.tmp 6,false)⟩,⟨none,.bin .add (.tmp 9) (.tmp 14),some (.tmp 6,false)⟩,⟨none,.call (.fn 57) [.tmp 8,.tmp 15,.cst (.int .i64 1000000000)],some (.tmp 6,false)⟩,⟨none,.un .not (.tmp 16),some (.tmp 6,false)⟩,⟨some 18,.pick (.tmp 6) (.cst (.bool true)) (.tmp 17),none⟩]) (.cond (.var 18) (.seq (.region [⟨some 5,.mv (.cst (.int .i64 0)),none⟩,⟨some 6,.mv (.cst (.bool false)),none⟩]) .ret) .skip)) (.seq (.region [⟨none,.fieldAddr 0 (.var 10),none⟩,⟨none,.load false 1 (.tmp 0),none⟩,⟨none,.fieldAddr 1 (.var 10),none⟩,⟨none,.load false 1 (.tmp 2),none⟩,⟨none,.load true 5 (.var 4),none⟩,⟨none,.call (.fn 66) [.tmp 4],none⟩,⟨none,.bin .add (.tmp 3) (.tmp 5),none⟩,⟨some 8,.mv (.tmp 1),none⟩,⟨some 9,.mv (.tmp 6),none⟩]) (.seq (.seq (.region [⟨none,.fieldAddr 0 (.var 10),none⟩,⟨none,.load false 1 (.tmp 0),none⟩,⟨none,.bin .sub (.tmp 1) (.cst (.int .i64 1)),none⟩,⟨some 11,.mv (.tmp 2),none⟩]) (.seq (.region [⟨none,.mv (.var 11),none⟩,⟨some 19,.bin .geq (.tmp 0) (.cst (.int .i64 0)),none⟩]) (.cond (.var 19) (.seq (.seq (.region [⟨none,.mv (.var 7),none⟩,⟨none,.mv (.var 11),none⟩,⟨none,.indexSl 1 (.tmp 0) (.tmp 1),none⟩,⟨none,.load false 1 (.tmp 2),none⟩,⟨none,.bin .lss (.tmp 3) (.cst (.int .i64 0)),none⟩,⟨none,.mv (.tmp 4),none⟩,⟨none,.fieldAddr 1 (.var 10),some (.tmp 5,false)⟩,⟨none,.load false 1 (.tmp 6),some (.tmp 5,false)⟩,⟨none,.mv (.var 7),some (.tmp 5,false)⟩,⟨none,.mv (.var 11),some (.tmp 5,false)⟩,⟨none,.indexSl 1 (.tmp 8) (.tmp 9),some (.tmp 5,false)⟩,⟨none,.load false 1 (.tmp 10),some (.tmp 5,false)⟩,⟨none,.mv (.var 7),some (.tmp 5,false)⟩,⟨none,.mv (.var 11),some (.tmp 5,false)⟩,⟨none,.indexSl 1 (.tmp 12) (.tmp 13),some (.tmp 5,false)⟩,⟨none,.load false 1 (.tmp 14),some (.tmp 5,false)⟩,⟨none,.fieldAddr 0 (.var 4),some (.tmp 5,false)⟩,⟨none,.load false 1 (.tmp 16),some (.tmp 5,false)⟩,⟨none,.mv (.var 11),some (.tmp 5,false)⟩,⟨none,.indexSl 2 (.tmp 17) (.tmp 18),some (.tmp 5,false)⟩,⟨none,.fieldAddr 1 (.tmp 19),some (.tmp 5,false)⟩,⟨none,.load false 1 (.tmp 20),some (.tmp 5,false)⟩,⟨none,.bin .add (.tmp 15) (.tmp 21),some (.tmp 5,false)⟩,⟨none,.call (.fn 57) [.tmp 7,.tmp 11,.tmp 22],some (.tmp 5,false)⟩,⟨none,.un .not (.tmp 23),some (.tmp 5,false)⟩,⟨some 20,.pick (.tmp 5) (.cst (.bool true)) (.tmp 24),none⟩]) (.cond (.var 20) (.seq (.region [⟨some 5,.mv (.cst (.int .i64 0)),none⟩,⟨some 6,.mv (.cst (.bool false)),none⟩]) .ret) .skip)) (.region [⟨none,.mv (.var 7),none⟩,⟨none,.mv (.var 11),none⟩,⟨none,.indexSl 1 (.tmp 0) (.tmp 1),none⟩,⟨none,.store 1 (.tmp 2) (.cst (.int .i64 (-1))),none⟩])) .skip))) (.seq (.region [⟨none,.fieldAddr 0 (.var 10),none⟩,⟨none,.load false 1 (.tmp 0),none⟩,⟨some 12,.mv (.tmp 1),none⟩]) (.seq (.region [⟨none,.mv (.var 12),none⟩,⟨none,.mv (.var 7),none⟩,⟨none,.lenSl (.tmp 1),none⟩,⟨some 21,.bin .lss (.tmp 0) (.tmp 2),none⟩]) (.cond (.var 21) (.seq (.seq (.region [⟨none,.mv (.var 7),none⟩,⟨none,.mv (.var 12),none⟩,⟨none,.indexSl 1 (.tmp 0) (.tmp 1),none⟩,⟨none,.load false 1 (.tmp 2),none⟩,⟨some 22,.bin .geq (.tmp 3) (.cst (.int .i64 0)),none⟩]) (.cond (.var 22) (.seq (.region [⟨some 5,.mv (.cst (.int .i64 0)),none⟩,⟨some 6,.mv (.cst (.bool false)),none⟩]) .ret) .skip)) (.region [⟨none,.mv (.var 7),none⟩,⟨none,.mv (.var 12),none⟩,⟨none,.mv (.var 9),none⟩,⟨none,.fieldAddr 0 (.var 4),none⟩,⟨none,.load false 1 (.tmp 3),none⟩,⟨none,.mv (.var 12),none⟩,⟨none,.indexSl 2 (.tmp 4) (.tmp 5),none⟩,⟨none,.fieldAddr 0 (.tmp 6),none⟩,⟨none,.load false 1 (.tmp 7),none⟩,⟨none,.bin .add (.tmp 2) (.tmp 8),none⟩,⟨none,.indexSl 1 (.tmp 0) (.tmp 1),none⟩,⟨none,.store 1 (.tmp 10) (.tmp 9),none⟩])) .skip)))))))) (.kill [0,1,2,3,5,6,10,11,12,13,17,18,19,20,21,22])) (.region [⟨none,.bin .add (.var 16) (.cst (.int .i64 1)),none⟩,⟨some 16,.mv (.tmp 0),none⟩])))
def EQ:bC:=⟨4,23,.seq (.region [⟨some 4,.box (.var 0),none⟩,⟨some 5,.mv (.cst (.int .i64 0)),none⟩,⟨some 6,.mv (.cst (.bool false)),none⟩]) (.seq (.seq (.region [⟨none,.load true 5 (.var 4),none⟩,⟨none,.mv (.var 1),none⟩,⟨none,.mv (.var 2),none⟩,⟨none,.call (.fn 64) [.tmp 0,.tmp 1,.tmp 2],none⟩,⟨some 13,.un .not (.tmp 3),none⟩]) (.cond (.var 13) (.seq (.region [⟨some 5,.mv (.cst (.int .i64 0)),none⟩,⟨some 6,.mv (.cst (.bool false)),none⟩]) .ret) .skip)) (.seq (.region [⟨none,.mv (.var 1),none⟩,⟨none,.call (.fn 63) [.tmp 0],none⟩,⟨some 7,.mv (.tmp 1),none⟩]) (.seq (.region [⟨none,.mv (.var 2),none⟩,⟨some 8,.mv (.cst (.int .i64 (-2))),none⟩,⟨some 9,.mv (.tmp 0),none⟩]) (.seq (.seq (.region [⟨some 14,.mv (.var 3),none⟩,⟨some 15,.lenSl (.var 14),none⟩,⟨some 16,.mv (.cst (.int .i64 0)),none⟩]) (.seq (.block 0 (.loop [0,1,2,3,5,6,10,11,12,13,17,18,19,20,21,22] gf)) (.kill [0,1,2,3,4,5,6,7,8,10,11,12,13,14,15,16,17,18,19,20,21,22]))) (.seq (.region [⟨none,.mv (.var 9),none⟩,⟨some 5,.mv (.tmp 0),none⟩,⟨some 6,.mv (.cst (.bool true)),none⟩]) .ret))))),[.tmp 5,.tmp 6]⟩
def fh:List Nat:=[0,1,2,3,5,6,10,11,12,13,17,18,19,20,21,22]
abbrev pm (v4 v7 v8 v9 v14 v15 v16:AV):List AV:=[.undef,.undef,.undef,.undef,v4,.undef,.undef,v7,v8,v9,.undef,.undef,.undef,.undef,v14,v15,v16,.undef,.undef,.undef,.undef,.undef,.undef]
theorem wg {d0 d1 d2 d3 v4 d5 d6 v7 v8 v9 d10 d11 d12 d13 v14 v15 v16 d17 d18 d19 d20 d21 d22:AV}:clear fh [d0,d1,d2,d3,v4,d5,d6,v7,v8,v9,d10,d11,d12,d13,v14,v15,v16,d17,d18,d19,d20,d21,d22]=pm v4 v7 v8 v9 v14 v15 v16:=rfl
theorem yY {E:Env} {fuel:Nat} {A:ac} {o:Out} {k:List KC} {d0 d1 d2 d3 v4 d5 d6 v7 v8 v9 d10 d11 d12 d13 v14 v15 v16 d17 d18 d19 d20 d21 d22:AV} (h:bM (evC E fuel gf) fh fuel (pm v4 v7 v8 v9 v14 v15 v16) A=some o) :
  run E fuel (.code (.loop [0,1,2,3,5,6,10,11,12,13,17,18,19,20,21,22] gf) :: k) [d0,d1,d2,d3,v4,d5,d6,v7,v8,v9,d10,d11,d12,d13,v14,v15,v16,d17,d18,d19,d20,d21,d22] A=after E fuel k o:=aU fh _ _ (by rw [wg]; exact h)
theorem GW:aB Tryz.prog Tryz.f22 4 [0,1,2,3,4,8,9,10,11,12,14,15,16,21,25,26,27,28,49,61,87,96,101] [57,65,66] true ([[0,1,2,3,5,6,10,11,12,13,17,18,19,20,21,22]],[[0,1,2,3,5,6,10,11,12,13,17,18,19,20,21,22],[0,1,2,3,4,5,6,7,8,10,11,12,13,14,15,16,17,18,19,20,21,22]])=some EQ:=by kernel_rfl
theorem at17:Tryz.prog.funcs[22]?=some Tryz.f22:=by kernel_rfl
def eo:MC:=.seq (.seq (.region [⟨none,.mv (.var 9),none⟩,⟨none,.mv (.var 7),none⟩,⟨some 14,.bin .leq (.tmp 0) (.tmp 1),none⟩]) (.cond (.var 14) .skip (.exit 0))) (.seq (.seq (.block 1 (.seq (.region [⟨none,.mv (.var 8),none⟩,⟨none,.mv (.var 9),none⟩,⟨none,.mv (.var 8),none⟩,⟨none,.mv (.var 9),none⟩,⟨none,.bin .sub (.tmp 3) (.cst (.int .i64 1)),none⟩,⟨none,.indexSl 1 (.tmp 2) (.tmp 4),none⟩,⟨none,.load false 1 (.tmp 5),none⟩,⟨none,.indexSl 1 (.tmp 0) (.tmp 1),none⟩,⟨none,.store 1 (.tmp 7) (.tmp 6),none⟩]) (.seq (.region [⟨none,.fieldAddr 1 (.var 4),none⟩,⟨none,.load false 1 (.tmp 0),none⟩,⟨none,.mv (.var 9),none⟩,⟨none,.call (.fn 58) [.tmp 1,.tmp 2],none⟩,⟨none,.fieldAddr 1 (.var 4),none⟩,⟨none,.load false 1 (.tmp 4),none⟩,⟨none,.mv (.var 9),none⟩,⟨none,.bin .sub (.tmp 6) (.cst (.int .i64 1)),none⟩,⟨none,.call (.fn 58) [.tmp 5,.tmp 7],none⟩,⟨some 15,.bin .lss (.tmp 3) (.tmp 8),none⟩]) (.cond (.var 15) (.region [⟨none,.mv (.var 8),none⟩,⟨none,.mv (.var 9),none⟩,⟨none,.indexSl 1 (.tmp 0) (.tmp 1),none⟩,⟨none,.load false 1 (.tmp 2),none⟩,⟨none,.bin .add (.tmp 3) (.cst (.int .i64 1)),none⟩,⟨none,.indexSl 1 (.tmp 0) (.tmp 1),none⟩,⟨none,.store 1 (.tmp 5) (.tmp 4),none⟩]) .skip)))) (.kill [0,1,5,6,10,11,12,13,14,15,16,17,18,19,20,21,22,23])) (.region [⟨none,.mv (.var 9),none⟩,⟨none,.bin .add (.tmp 0) (.cst (.int .i64 1)),none⟩,⟨some 9,.mv (.tmp 1),none⟩]))
def dD:MC:=.seq (.region [⟨some 22,.bin .lss (.var 21) (.var 20),none⟩]) (.seq (.cond (.var 22) .skip (.exit 4)) (.seq (.seq (.block 5 (.seq (.region [⟨none,.indexSl 1 (.var 19) (.var 21),none⟩,⟨none,.load false 1 (.tmp 0),none⟩,⟨some 12,.mv (.tmp 1),none⟩]) (.seq (.region [⟨none,.mv (.var 8),none⟩,⟨none,.mv (.var 12),none⟩,⟨none,.indexSl 1 (.tmp 0) (.tmp 1),none⟩,⟨none,.load false 1 (.tmp 2),none⟩,⟨none,.mv (.var 11),none⟩,⟨some 23,.bin .leq (.tmp 3) (.tmp 4),none⟩]) (.cond (.var 23) (.region [⟨none,.mv (.var 10),none⟩,⟨none,.mv (.var 12),none⟩,⟨none,.mv (.var 2),none⟩,⟨none,.fieldAddr 3 (.var 3),none⟩,⟨none,.load false 1 (.tmp 3),none⟩,⟨none,.bin .add (.tmp 2) (.tmp 4),none⟩,⟨none,.fieldAddr 2 (.var 4),none⟩,⟨none,.load false 1 (.tmp 6),none⟩,⟨none,.indexSl 1 (.tmp 7) (.cst (.int .i64 0)),none⟩,⟨none,.load false 1 (.tmp 8),none⟩,⟨none,.bin .sub (.tmp 5) (.tmp 9),none⟩,⟨none,.mv (.var 11),none⟩,⟨none,.fieldAddr 0 (.var 4),none⟩,⟨none,.load false 1 (.tmp 12),none⟩,⟨none,.bin .mul (.tmp 11) (.tmp 13),none⟩,⟨none,.bin .add (.tmp 10) (.tmp 14),none⟩,⟨none,.fieldAddr 2 (.var 4),none⟩,⟨none,.load false 1 (.tmp 16),none⟩,⟨none,.mv (.var 12),none⟩,⟨none,.indexSl 1 (.tmp 17) (.tmp 18),none⟩,⟨none,.load false 1 (.tmp 19),none⟩,⟨none,.bin .add (.tmp 15) (.tmp 20),none⟩,⟨none,.build [.int .i64 0,.int .i64 0] [(0,(1,.tmp 1)),(1,(1,.tmp 21))],none⟩,⟨none,.buildF 2 [.tmp 22],none⟩,⟨none,.append 2 16 (.tmp 0) (.tmp 23),none⟩,⟨some 10,.mv (.tmp 24),none⟩]) .skip)))) (.kill [0,1,5,6,7,9,12,13,14,15,18,22,23])) (.region [⟨none,.bin .add (.var 21) (.cst (.int .i64 1)),none⟩,⟨some 21,.mv (.tmp 0),none⟩])))
def fI:MC:=.seq (.region [⟨some 18,.bin .lss (.var 17) (.var 16),none⟩]) (.seq (.cond (.var 18) .skip (.exit 2)) (.seq (.seq (.block 3 (.seq (.region [⟨none,.mv (.var 17),none⟩,⟨some 11,.mv (.tmp 0),none⟩]) (.seq (.region [⟨none,.fieldAddr 1 (.var 4),none⟩,⟨some 19,.load false 1 (.tmp 0),none⟩,⟨some 20,.lenSl (.var 19),none⟩,⟨some 21,.mv (.cst (.int .i64 0)),none⟩]) (.seq (.block 4 (.loop [0,1,5,6,7,9,12,13,14,15,18,22,23] dD)) (.kill [0,1,5,6,7,9,11,12,13,14,15,18,19,20,21,22,23]))))) (.kill [0,1,5,6,7,9,11,12,13,14,15,18,19,20,21,22,23])) (.region [⟨none,.bin .add (.var 17) (.cst (.int .i64 1)),none⟩,⟨some 17,.mv (.tmp 0),none⟩])))
def HO:bC:=⟨3,24,.seq (.region [⟨some 3,.box (.var 0),none⟩,⟨some 4,.box (.var 1),none⟩,⟨some 5,.mv (.cst .nilS),none⟩,⟨some 6,.mv (.cst (.int .i64 0)),none⟩]) (.seq (.seq (.region [⟨none,.load true 5 (.var 3),none⟩,⟨none,.call (.fn 55) [.tmp 0],none⟩,⟨none,.un .not (.tmp 1),none⟩,⟨none,.mv (.tmp 2),none⟩,⟨none,.load true 5 (.var 3),some (.tmp 3,false)⟩,⟨none,.load true 4 (.var 4),some (.tmp 3,false)⟩,⟨none,.call (.fn 56) [.tmp 4,.tmp 5],some (.tmp 3,false)⟩,⟨none,.un .not (.tmp 6),some (.tmp 3,false)⟩,⟨none,.pick (.tmp 3) (.cst (.bool true)) (.tmp 7),none⟩,⟨none,.mv (.tmp 8),none⟩,⟨none,.mv (.var 2),some (.tmp 9,false)⟩,⟨none,.call (.fn 57) [.tmp 10,.cst (.int .i64 0),.cst (.int .i64 2000000)],some (.tmp 9,false)⟩,⟨none,.un .not (.tmp 11),some (.tmp 9,false)⟩,⟨some 13,.pick (.tmp 9) (.cst (.bool true)) (.tmp 12),none⟩]) (.cond (.var 13) (.seq (.region [⟨some 5,.mv (.cst .nilS),none⟩,⟨some 6,.mv (.cst (.int .i64 140)),none⟩]) .ret) .skip)) (.seq (.region [⟨none,.fieldAddr 0 (.var 3),none⟩,⟨none,.load false 1 (.tmp 0),none⟩,⟨none,.lenSl (.tmp 1),none⟩,⟨some 7,.mv (.tmp 2),none⟩]) (.seq (.region [⟨none,.mv (.var 7),none⟩,⟨none,.bin .add (.tmp 0) (.cst (.int .i64 1)),none⟩,⟨none,.makeSlice 1 8 (.int .i64 0) (.tmp 1) (.tmp 1),none⟩,⟨some 8,.mv (.tmp 2),none⟩]) (.seq (.seq (.region [⟨some 9,.mv (.cst (.int .i64 1)),none⟩]) (.seq (.block 0 (.loop [0,1,5,6,10,11,12,13,14,15,16,17,18,19,20,21,22,23] eo)) (.kill [0,1,5,6,9,10,11,12,13,14,15,16,17,18,19,20,21,22,23]))) (.seq (.region [⟨some 10,.mv (.cst .nilS),none⟩]) (.seq (.seq (.region [⟨none,.mv (.var 8),none⟩,⟨none,.mv (.var 7),none⟩,⟨none,.indexSl 1 (.tmp 0) (.tmp 1),none⟩,⟨none,.load false 1 (.tmp 2),none⟩,⟨some 16,.bin .add (.tmp 3) (.cst (.int .i64 1)),none⟩,⟨some 17,.mv (.cst (.int .i64 0)),none⟩]) (.seq (.block 2 (.loop [0,1,5,6,7,9,11,12,13,14,15,18,19,20,21,22,23] fI)) (.kill [0,1,2,3,4,5,6,7,8,9,11,12,13,14,15,16,17,18,19,20,21,22,23]))) (.seq (.region [⟨none,.mv (.var 10),none⟩,⟨some 5,.mv (.tmp 0),none⟩,⟨some 6,.mv (.cst (.int .i64 0)),none⟩]) .ret))))))),[.tmp 5,.tmp 6]⟩
def dP:List Nat:=[0,1,5,6,7,9,12,13,14,15,18,22,23]
abbrev ki (v2 v3 v4 v8 v10 v11 v16 v17 v19 v20 v21:AV):List AV:=[.undef,.undef,v2,v3,v4,.undef,.undef,.undef,v8,.undef,v10,v11,.undef,.undef,.undef,.undef,v16,v17,.undef,v19,v20,v21,.undef,.undef]
theorem qg {d0 d1 v2 v3 v4 d5 d6 d7 v8 d9 v10 v11 d12 d13 d14 d15 v16 v17 d18 v19 v20 v21 d22 d23:AV}:clear dP [d0,d1,v2,v3,v4,d5,d6,d7,v8,d9,v10,v11,d12,d13,d14,d15,v16,v17,d18,v19,v20,v21,d22,d23]=ki v2 v3 v4 v8 v10 v11 v16 v17 v19 v20 v21:=rfl
theorem yX {E:Env} {fuel:Nat} {A:ac} {o:Out} {k:List KC} {d0 d1 v2 v3 v4 d5 d6 d7 v8 d9 v10 v11 d12 d13 d14 d15 v16 v17 d18 v19 v20 v21 d22 d23:AV} (h:bM (evC E fuel dD) dP fuel (ki v2 v3 v4 v8 v10 v11 v16 v17 v19 v20 v21) A=some o) :
  run E fuel (.code (.loop [0,1,5,6,7,9,12,13,14,15,18,22,23] dD) :: k) [d0,d1,v2,v3,v4,d5,d6,d7,v8,d9,v10,v11,d12,d13,d14,d15,v16,v17,d18,v19,v20,v21,d22,d23] A=after E fuel k o:=aU dP _ _ (by rw [qg]; exact h)
def gF:List Nat:=[0,1,5,6,10,11,12,13,14,15,16,17,18,19,20,21,22,23]
abbrev pj (v2 v3 v4 v7 v8 v9:AV):List AV:=[.undef,.undef,v2,v3,v4,.undef,.undef,v7,v8,v9,.undef,.undef,.undef,.undef,.undef,.undef,.undef,.undef,.undef,.undef,.undef,.undef,.undef,.undef]
theorem qh {d0 d1 v2 v3 v4 d5 d6 v7 v8 v9 d10 d11 d12 d13 d14 d15 d16 d17 d18 d19 d20 d21 d22 d23:AV}:clear gF [d0,d1,v2,v3,v4,d5,d6,v7,v8,v9,d10,d11,d12,d13,d14,d15,d16,d17,d18,d19,d20,d21,d22,d23]=pj v2 v3 v4 v7 v8 v9:=rfl
theorem FQ {E:Env} {fuel:Nat} {A:ac} {o:Out} {k:List KC} {d0 d1 v2 v3 v4 d5 d6 v7 v8 v9 d10 d11 d12 d13 d14 d15 d16 d17 d18 d19 d20 d21 d22 d23:AV} (h:bM (evC E fuel eo) gF fuel (pj v2 v3 v4 v7 v8 v9) A=some o) :
  run E fuel (.code (.loop [0,1,5,6,10,11,12,13,14,15,16,17,18,19,20,21,22,23] eo) :: k) [d0,d1,v2,v3,v4,d5,d6,v7,v8,v9,d10,d11,d12,d13,d14,d15,d16,d17,d18,d19,d20,d21,d22,d23] A=after E fuel k o:=aU gF _ _ (by rw [qh]; exact h)
def gE:List Nat:=[0,1,5,6,7,9,11,12,13,14,15,18,19,20,21,22,23]
abbrev pi (v2 v3 v4 v8 v10 v16 v17:AV):List AV:=[.undef,.undef,v2,v3,v4,.undef,.undef,.undef,v8,.undef,v10,.undef,.undef,.undef,.undef,.undef,v16,v17,.undef,.undef,.undef,.undef,.undef,.undef]
theorem qf {d0 d1 v2 v3 v4 d5 d6 d7 v8 d9 v10 d11 d12 d13 d14 d15 v16 v17 d18 d19 d20 d21 d22 d23:AV}:clear gE [d0,d1,v2,v3,v4,d5,d6,d7,v8,d9,v10,d11,d12,d13,d14,d15,v16,v17,d18,d19,d20,d21,d22,d23]=pi v2 v3 v4 v8 v10 v16 v17:=rfl
theorem FP {E:Env} {fuel:Nat} {A:ac} {o:Out} {k:List KC} {d0 d1 v2 v3 v4 d5 d6 d7 v8 d9 v10 d11 d12 d13 d14 d15 v16 v17 d18 d19 d20 d21 d22 d23:AV} (h:bM (evC E fuel fI) gE fuel (pi v2 v3 v4 v8 v10 v16 v17) A=some o) :
  run E fuel (.code (.loop [0,1,5,6,7,9,11,12,13,14,15,18,19,20,21,22,23] fI) :: k) [d0,d1,v2,v3,v4,d5,d6,d7,v8,d9,v10,d11,d12,d13,d14,d15,v16,v17,d18,d19,d20,d21,d22,d23] A=after E fuel k o:=aU gE _ _ (by rw [qf]; exact h)
theorem GT:aB Tryz.prog Tryz.f19 3 [0,1,2,3,4,6,7,8,9,10,11,12,14,28,37,57,68,69,70,73,74,75,76,84] [58] true ([[0,1,5,6,10,11,12,13,14,15,16,17,18,19,20,21,22,23],[0,1,5,6,7,9,11,12,13,14,15,18,19,20,21,22,23],[0,1,5,6,7,9,12,13,14,15,18,22,23]],[[0,1,5,6,10,11,12,13,14,15,16,17,18,19,20,21,22,23],[0,1,5,6,9,10,11,12,13,14,15,16,17,18,19,20,21,22,23],[0,1,5,6,7,9,12,13,14,15,18,22,23],[0,1,5,6,7,9,11,12,13,14,15,18,19,20,21,22,23],[0,1,5,6,7,9,11,12,13,14,15,18,19,20,21,22,23],[0,1,2,3,4,5,6,7,8,9,11,12,13,14,15,16,17,18,19,20,21,22,23]])=some HO:=by kernel_rfl
theorem at24:Tryz.prog.funcs[19]?=some Tryz.f19:=by kernel_rfl
def IJ:bC:=⟨3,5,.seq (.region [⟨some 3,.box (.var 0),none⟩,⟨some 4,.mv (.cst (.bool false)),none⟩]) (.seq (.region [⟨none,.load true 5 (.var 3),none⟩,⟨none,.call (.fn 55) [.tmp 0],none⟩,⟨none,.mv (.tmp 1),none⟩,⟨none,.mv (.var 1),some (.tmp 2,true)⟩,⟨none,.lenSl (.tmp 3),some (.tmp 2,true)⟩,⟨none,.fieldAddr 0 (.var 3),some (.tmp 2,true)⟩,⟨none,.load false 1 (.tmp 5),some (.tmp 2,true)⟩,⟨none,.lenSl (.tmp 6),some (.tmp 2,true)⟩,⟨none,.bin .eql (.tmp 4) (.tmp 7),some (.tmp 2,true)⟩,⟨none,.pick (.tmp 2) (.tmp 8) (.cst (.bool false)),none⟩,⟨none,.mv (.tmp 9),none⟩,⟨none,.mv (.var 2),some (.tmp 10,true)⟩,⟨none,.call (.fn 57) [.tmp 11,.cst (.int .i64 0),.cst (.int .i64 2000000)],some (.tmp 10,true)⟩,⟨none,.pick (.tmp 10) (.tmp 12) (.cst (.bool false)),none⟩,⟨none,.mv (.tmp 13),none⟩,⟨none,.mv (.var 1),some (.tmp 14,true)⟩,⟨none,.call (.fn 61) [.tmp 15,.fn 102],some (.tmp 14,true)⟩,⟨none,.un .not (.tmp 16),some (.tmp 14,true)⟩,⟨none,.pick (.tmp 14) (.tmp 17) (.cst (.bool false)),none⟩,⟨some 4,.mv (.tmp 18),none⟩]) .ret),[.tmp 4]⟩
theorem GP:aB Tryz.prog Tryz.f64 3 [0,1,2,3,6] [] true ([],[])=some IJ:=by kernel_rfl
theorem at29:Tryz.prog.funcs[64]?=some Tryz.f64:=by kernel_rfl
def LY:bC:=⟨3,4,.seq (.region [⟨some 3,.mv (.cst (.bool false)),none⟩]) (.seq (.region [⟨none,.mv (.var 0),none⟩,⟨none,.mv (.var 1),none⟩,⟨none,.bin .geq (.tmp 0) (.tmp 1),none⟩,⟨none,.mv (.tmp 2),none⟩,⟨none,.mv (.var 0),some (.tmp 3,true)⟩,⟨none,.mv (.var 2),some (.tmp 3,true)⟩,⟨none,.bin .leq (.tmp 4) (.tmp 5),some (.tmp 3,true)⟩,⟨none,.pick (.tmp 3) (.tmp 6) (.cst (.bool false)),none⟩,⟨some 3,.mv (.tmp 7),none⟩]) .ret),[.tmp 3]⟩
theorem GO:aB Tryz.prog Tryz.f57 3 [0,1,2,6] [] true ([],[])=some LY:=by kernel_rfl
theorem at30:Tryz.prog.funcs[57]?=some Tryz.f57:=by kernel_rfl
def uO:bC:=⟨3,6,.seq (.region [⟨some 3,.box (.var 0),none⟩,⟨some 4,.mv (.cst (.int .i64 0)),none⟩]) (.seq (.seq (.region [⟨none,.mv (.var 2),none⟩,⟨none,.mv (.var 1),none⟩,⟨none,.bin .add (.tmp 1) (.cst (.int .i64 1)),none⟩,⟨some 5,.bin .eql (.tmp 0) (.tmp 2),none⟩]) (.cond (.var 5) (.seq (.region [⟨some 4,.mv (.cst (.int .i64 0)),none⟩]) .ret) .skip)) (.seq (.region [⟨none,.fieldAddr 3 (.var 3),none⟩,⟨none,.load false 1 (.tmp 0),none⟩,⟨some 4,.mv (.tmp 1),none⟩]) .ret)),[.tmp 4]⟩
theorem qb:aB Tryz.prog Tryz.f65 3 [0,1,2,3,6,10] [] true ([],[])=some uO:=by kernel_rfl
theorem G2:Tryz.prog.funcs[65]?=some Tryz.f65:=by kernel_rfl
def uN:bC:=⟨1,3,.seq (.region [⟨some 1,.box (.var 0),none⟩,⟨some 2,.mv (.cst (.int .i64 0)),none⟩]) (.seq (.region [⟨none,.fieldAddr 1 (.var 1),none⟩,⟨none,.load false 1 (.tmp 0),none⟩,⟨none,.fieldAddr 3 (.var 1),none⟩,⟨none,.load false 1 (.tmp 2),none⟩,⟨none,.bin .add (.tmp 1) (.tmp 3),none⟩,⟨none,.fieldAddr 2 (.var 1),none⟩,⟨none,.load false 1 (.tmp 5),none⟩,⟨none,.bin .add (.tmp 4) (.tmp 6),none⟩,⟨some 2,.mv (.tmp 7),none⟩]) .ret),[.tmp 2]⟩
theorem qa:aB Tryz.prog Tryz.f66 1 [0,1,2] [] true ([],[])=some uN:=by kernel_rfl
theorem G1:Tryz.prog.funcs[66]?=some Tryz.f66:=by kernel_rfl
def yE:bC:=⟨1,3,.seq (.region [⟨some 1,.box (.var 0),none⟩,⟨some 2,.mv (.cst (.bool false)),none⟩]) (.seq (.region [⟨none,.fieldAddr 4 (.var 1),none⟩,⟨none,.load false 1 (.tmp 0),none⟩,⟨none,.bin .eql (.tmp 1) (.cst (.int .i64 1)),none⟩,⟨none,.mv (.tmp 2),none⟩,⟨none,.load true 5 (.var 1),some (.tmp 3,true)⟩,⟨none,.call (.fn 41) [.tmp 4],some (.tmp 3,true)⟩,⟨none,.pick (.tmp 3) (.tmp 5) (.cst (.bool false)),none⟩,⟨some 2,.mv (.tmp 6),none⟩]) .ret),[.tmp 2]⟩
theorem vL:aB Tryz.prog Tryz.f55 1 [0,1,2] [] true ([],[])=some yE:=by kernel_rfl
theorem Kp:Tryz.prog.funcs[55]?=some Tryz.f55:=by kernel_rfl
def xL:bC:=⟨1,2,.seq (.region [⟨some 1,.mv (.cst (.bool false)),none⟩]) (.seq (.region [⟨none,.mv (.var 0),none⟩,⟨none,.call (.fn 57) [.tmp 0,.cst (.int .i64 (-1)),.cst (.int .i64 500000)],none⟩,⟨none,.un .not (.tmp 1),none⟩,⟨some 1,.mv (.tmp 2),none⟩]) .ret),[.tmp 1]⟩
theorem vJ:aB Tryz.prog Tryz.f102 1 [0,2] [] true ([],[])=some xL:=by kernel_rfl
theorem Kn:Tryz.prog.funcs[102]?=some Tryz.f102:=by kernel_rfl
end Tr
namespace Tr
open Go
def DC:bC:=⟨2,4,.seq (.region [⟨some 2,.mv (.cst (.int .i64 0)),none⟩]) (.seq (.seq (.region [⟨none,.mv (.var 0),none⟩,⟨some 3,.bin .lss (.tmp 0) (.cst (.int .i64 0)),none⟩]) (.cond (.var 3) (.region [⟨none,.mv (.var 0),none⟩,⟨none,.bin .add (.tmp 0) (.cst (.int .i64 1)),none⟩,⟨none,.un .neg (.tmp 1),none⟩,⟨some 0,.mv (.tmp 2),none⟩]) .skip)) (.seq (.region [⟨none,.mv (.var 0),none⟩,⟨none,.mv (.var 1),none⟩,⟨none,.bin .rem (.tmp 0) (.tmp 1),none⟩,⟨some 2,.mv (.tmp 2),none⟩]) .ret)),[.tmp 2]⟩
theorem zj:aB Tryz.prog Tryz.f21 2 [0,1,4,6] [] true ([],[])=some DC:=by kernel_rfl
theorem Mt:Tryz.prog.funcs[21]?=some Tryz.f21:=by kernel_rfl
def di:MC:=.seq (.seq (.region [⟨none,.mv (.var 5),none⟩,⟨none,.mv (.var 0),none⟩,⟨none,.lenSl (.tmp 1),none⟩,⟨none,.minmax false (.tmp 2) [.cst (.int .i64 4)],none⟩,⟨none,.minmax true (.cst (.int .i64 1)) [.tmp 3],none⟩,⟨some 7,.bin .lss (.tmp 0) (.tmp 4),none⟩]) (.cond (.var 7) .skip (.exit 0))) (.seq (.seq (.block 1 (.seq (.region [⟨none,.build [.int .i64 0,.int .i64 0] [(0,(1,.cst (.int .i64 20))),(1,(1,.cst (.int .i64 30)))],none⟩,⟨some 6,.alloc 2 (.agg [.int .i64 0,.int .i64 0]),none⟩,⟨none,.store 2 (.var 6) (.tmp 0),none⟩]) (.seq (.seq (.region [⟨none,.mv (.var 5),none⟩,⟨none,.mv (.var 0),none⟩,⟨none,.lenSl (.tmp 1),none⟩,⟨some 8,.bin .lss (.tmp 0) (.tmp 2),none⟩]) (.cond (.var 8) (.seq (.region [⟨none,.mv (.var 0),none⟩,⟨none,.mv (.var 5),none⟩,⟨none,.indexSl 2 (.tmp 0) (.tmp 1),none⟩,⟨none,.indexArr 2 1 (.tmp 2) (.cst (.int .i64 0)),none⟩,⟨none,.load false 1 (.tmp 3),none⟩,⟨none,.call (.fn 39) [.tmp 4,.cst (.int .i64 60)],none⟩,⟨none,.fieldAddr 0 (.var 6),none⟩,⟨none,.store 1 (.tmp 6) (.tmp 5),none⟩]) (.seq (.region [⟨none,.mv (.var 0),none⟩,⟨none,.mv (.var 5),none⟩,⟨none,.indexSl 2 (.tmp 0) (.tmp 1),none⟩,⟨none,.indexArr 2 1 (.tmp 2) (.cst (.int .i64 1)),none⟩,⟨none,.load false 1 (.tmp 3),none⟩,⟨none,.call (.fn 39) [.tmp 4,.cst (.int .i64 50)],none⟩,⟨none,.fieldAddr 1 (.var 6),none⟩,⟨none,.store 1 (.tmp 6) (.tmp 5),none⟩]) (.seq (.region [⟨none,.mv (.var 0),none⟩,⟨none,.mv (.var 5),none⟩,⟨none,.indexSl 2 (.tmp 0) (.tmp 1),none⟩,⟨none,.indexArr 2 1 (.tmp 2) (.cst (.int .i64 1)),none⟩,⟨none,.load false 1 (.tmp 3),none⟩,⟨none,.bin .quo (.tmp 4) (.cst (.int .i64 50)),none⟩,⟨none,.call (.fn 39) [.tmp 5,.cst (.int .i64 3)],none⟩,⟨some 9,.bin .eql (.tmp 6) (.cst (.int .i64 0)),none⟩]) (.cond (.var 9) (.region [⟨none,.fieldAddr 1 (.var 6),none⟩,⟨none,.load false 1 (.tmp 0),none⟩,⟨none,.bin .add (.tmp 1) (.cst (.int .i64 200)),none⟩,⟨none,.fieldAddr 1 (.var 6),none⟩,⟨none,.store 1 (.tmp 3) (.tmp 2),none⟩]) .skip)))) .skip)) (.region [⟨none,.fieldAddr 0 (.var 4),none⟩,⟨none,.load false 1 (.tmp 0),none⟩,⟨none,.load true 2 (.var 6),none⟩,⟨none,.buildF 2 [.tmp 2],none⟩,⟨none,.append 2 16 (.tmp 1) (.tmp 3),none⟩,⟨none,.fieldAddr 0 (.var 4),none⟩,⟨none,.store 1 (.tmp 5) (.tmp 4),none⟩])))) (.kill [1,2,6,7,8,9])) (.region [⟨none,.mv (.var 5),none⟩,⟨none,.bin .add (.tmp 0) (.cst (.int .i64 1)),none⟩,⟨some 5,.mv (.tmp 1),none⟩]))
def tI:bC:=⟨2,10,.seq (.region [⟨some 2,.box (.var 1),none⟩,⟨some 3,.alloc 5 (.agg [.nilS,.int .i64 0,.int .i64 0,.int .i64 0,.int .i64 0]),none⟩]) (.seq (.regionD [39] [⟨none,.indexArr 3 1 (.var 2) (.cst (.int .i64 0)),none⟩,⟨none,.load false 1 (.tmp 0),none⟩,⟨none,.call (.fn 39) [.tmp 1,.cst (.int .i64 4)],none⟩,⟨none,.indexArr 3 1 (.var 2) (.cst (.int .i64 1)),none⟩,⟨none,.load false 1 (.tmp 3),none⟩,⟨none,.call (.fn 39) [.tmp 4,.cst (.int .i64 4)],none⟩,⟨none,.indexArr 3 1 (.var 2) (.cst (.int .i64 2)),none⟩,⟨none,.load false 1 (.tmp 6),none⟩,⟨none,.call (.fn 39) [.tmp 7,.cst (.int .i64 5)],none⟩,⟨none,.build [.nilS,.int .i64 0,.int .i64 0,.int .i64 0,.int .i64 0] [(4,(1,.cst (.int .i64 1))),(1,(1,.tmp 2)),(2,(1,.tmp 5)),(3,(1,.tmp 8))],none⟩,⟨some 4,.alloc 5 (.agg [.nilS,.int .i64 0,.int .i64 0,.int .i64 0,.int .i64 0]),none⟩,⟨none,.store 5 (.var 4) (.tmp 9),none⟩] [(0,10),(1,10),(2,10),(3,10),(4,10),(5,10),(6,10),(7,10),(8,10)]) (.seq (.seq (.region [⟨some 5,.mv (.cst (.int .i64 0)),none⟩]) (.seq (.block 0 (.loop [1,2,6,7,8,9] di)) (.kill [0,1,2,5,6,7,8,9]))) (.seq (.region [⟨none,.load true 5 (.var 4),none⟩,⟨none,.store 5 (.var 3) (.tmp 0),none⟩]) .ret))),[.cell 3 true 5]⟩
def lr:List Nat:=[1,2,6,7,8,9]
abbrev nG (v0 v3 v4 v5:AV):List AV:=[v0,.undef,.undef,v3,v4,v5,.undef,.undef,.undef,.undef]
theorem wa {v0 d1 d2 v3 v4 v5 d6 d7 d8 d9:AV}:clear lr [v0,d1,d2,v3,v4,v5,d6,d7,d8,d9]=nG v0 v3 v4 v5:=rfl
theorem FN {E:Env} {fuel:Nat} {A:ac} {o:Out} {k:List KC} {v0 d1 d2 v3 v4 v5 d6 d7 d8 d9:AV} (h:bM (evC E fuel di) lr fuel (nG v0 v3 v4 v5) A=some o) :
  run E fuel (.code (.loop [1,2,6,7,8,9] di) :: k) [v0,d1,d2,v3,v4,v5,d6,d7,d8,d9] A=after E fuel k o:=aU lr _ _ (by rw [wa]; exact h)
theorem qc:aB Tryz.prog Tryz.f13 2 [0,1,3,4,5,6,7,23,30,52] [39] true ([[1,2,6,7,8,9]],[[1,2,6,7,8,9],[0,1,2,5,6,7,8,9]])=some tI:=by kernel_rfl
theorem G3:Tryz.prog.funcs[13]?=some Tryz.f13:=by kernel_rfl
def BP:bC:=⟨2,4,.seq (.region [⟨some 2,.mv (.cst (.int .i64 0)),none⟩]) (.seq (.seq (.region [⟨none,.mv (.var 0),none⟩,⟨some 3,.bin .lss (.tmp 0) (.cst (.int .i64 0)),none⟩]) (.cond (.var 3) (.region [⟨none,.mv (.var 0),none⟩,⟨none,.bin .add (.tmp 0) (.cst (.int .i64 1)),none⟩,⟨none,.un .neg (.tmp 1),none⟩,⟨some 0,.mv (.tmp 2),none⟩]) .skip)) (.seq (.region [⟨none,.mv (.var 0),none⟩,⟨none,.mv (.var 1),none⟩,⟨none,.bin .rem (.tmp 0) (.tmp 1),none⟩,⟨some 2,.mv (.tmp 2),none⟩]) .ret)),[.tmp 2]⟩
theorem vK:aB Tryz.prog Tryz.f39 2 [0,1,4,6] [] true ([],[])=some BP:=by kernel_rfl
theorem Ko:Tryz.prog.funcs[39]?=some Tryz.f39:=by kernel_rfl
end Tr
namespace Tr
open Go
open Clu (bb aX)
open Cy (a6 lar jZ ea cf dq okA lvM)
abbrev da:=Int × Int
def wT (T:bb):Int:=T.pick+T.travel+T.place
def tmT (T:bb) (k:Nat):Int:=(T.ch.getD k (0,0)).1
def syT (T:bb) (k:Nat):Int:=(T.ch.getD k (0,0)).2
def btw (T:bb) (last next:Int):Int:=if next=last+1 then 0 else T.travel
def iT (T:bb) (inn:List Int) (t:da):Option (List Int):=
 if 1<=t.1 then (if 0<=inn.getD (t.1-1).toNat 0/\inn.getD (t.1-1).toNat 0<=t.2/\t.2<=inn.getD (t.1-1).toNat 0+syT T (t.1-1).toNat then some (inn.set (t.1-1).toNat (-1)) else none) else some inn
def qY (T:bb) (inn:List Int) (t:da):Option (List Int):=
 if t.1<inn.length then (if 0<=inn.getD t.1.toNat 0 then none else some (inn.set t.1.toNat (t.2+wT T+tmT T t.1.toNat))) else some inn
structure St where
 inn:List Int
 last:Int
 fin:Int
def eD (T:bb) (s:St) (t:da):Option St:=
 if (0<=t.1/\t.1<=s.inn.length)/\s.fin+btw T s.last t.1<=t.2/\t.2<=1000000000 then
  (iT T s.inn t).bind fun a=>(qY T a t).map fun b=>⟨b,t.1,t.2+wT T⟩
 else none
def tC (T:bb):St->List da->Option St
 | s,[]=>some s
 | s,t :: r=>(eD T s t).bind fun s'=>tC T s' r
def Sit (T:bb) (rd:List Int) (free:Int):Prop:=(aX T/\T.blades=1)/\rd.length=T.ch.length/\(0<=free/\free<=2000000)/\∀t∈rd,-1<=t/\t<=500000
instance (T:bb) (rd:List Int) (free:Int):Decidable (Sit T rd free):=inferInstanceAs (Decidable (_/\_))
def st0 (rd:List Int) (free:Int):St:=⟨rd,-2,free⟩
def DJ (T:bb) (rd:List Int) (free:Int) (l:List da):Option Int:=if Sit T rd free then (tC T (st0 rd free) l).map (·.fin) else none
theorem jp (l:List Int) (i j:Nat) (v:Int):(l.set i v).getD j 0=if i=j/\i<l.length then v else l.getD j 0:=by
 simp only [List.getD_eq_getElem?_getD,List.getElem?_set]
 by_cases h:i=j
 ·subst h
  by_cases h2:i<l.length
  ·simp [h2]
  ·simp [h2]
 ·simp [h]
theorem lg {T:bb} (hv:aX T) (k:Nat):0<=tmT T k/\tmT T k<=100000/\0<=syT T k/\syT T k<=100000:=by
 unfold tmT syT
 by_cases hk:k<T.ch.length
 ·rw [List.getD_eq_getElem?_getD,List.getElem?_eq_getElem hk]
  have:=hv.1 _ (List.getElem_mem hk)
  unfold Clu.qx at this
  simp only [Option.getD_some]
  omega
 ·rw [List.getD_eq_getElem?_getD,List.getElem?_eq_none (Nat.le_of_not_lt hk)]
  simp
theorem eY {T:bb} (hv:aX T):(0<=T.travel/\T.travel<=10000)/\0<=wT T/\wT T<=30000:=by
 obtain ⟨_,⟨h1,h2,h3⟩,_⟩:=hv
 unfold wT; omega
theorem jA {T:bb} (hv:aX T) (a b:Int):0<=btw T a b/\btw T a b<=T.travel:=by
 have:=(eY hv).1
 unfold btw; split <;> omega
end Tr
namespace Tr
open Go
open Clu (bb aX)
open Cy (a6 lar jZ ea cf dq okA lvM Pos kL eJ)
def b0 (rd:List Int):List Bool:=rd.map fun t=>decide (0<=t)
theorem Bg {T:bb} {rd:List Int} {free:Int} (hS:Sit T rd free):1<=rd.length/\rd.length<=4:=by
 have:=hS.1.1.2.2; rw [hS.2.1]; omega
end Tr
namespace Tr
open Go
open Clu (bb aX Chk be aC bQ fX isI ba qq ru lkT me df)
open Cy (a6 lar jZ cH bu)
theorem nQ:∀(n:Nat) (l:List Nat),l.Nodup->(∀x∈l,x<n)->l.length<=n/\(l.length=n->∀x,x<n->x∈l)
 | 0,l,_,h=>by
  cases l with
  | nil=>exact ⟨Nat.le_refl _,fun _ x hx=>absurd hx (Nat.not_lt_zero _)⟩
  | cons a r=>exact absurd (h a List.mem_cons_self) (Nat.not_lt_zero _)
 | n+1,l,hn,h=>by
  by_cases hm:n∈l
  ·have h1:=nQ n (l.erase n) (hn.erase n) fun x hx=>by
    obtain ⟨h1,h2⟩:=(hn.mem_erase_iff).1 hx
    have:=h x h2; omega
   rw [List.length_erase_of_mem hm] at h1
   have hp:0<l.length:=List.length_pos_of_mem hm
   refine ⟨by omega,fun he x hx=>?_⟩
   by_cases hx':x=n
   ·subst hx'; exact hm
   ·exact List.mem_of_mem_erase (h1.2 (by omega) x (by omega))
  ·have h1:=nQ n l hn fun x hx=>by
    have:=h x hx
    have:x≠n:=fun e=>hm (e ▸ hx)
    omega
   exact ⟨by omega,fun he=>by omega⟩
def pos (o:List Int) (t:Int):Int:=cH (isI t) o
structure Ord (n:Nat) (o:List Int):Prop where
 len:o.length=n+1
 nd:o.Nodup
 bd:∀x∈o,0<=x/\x<=n
 z:o.getD 0 0=0
theorem fY {T:bb} {o:List Int} (h:o∈aC T):Ord T.ch.length o:=by
 obtain ⟨_,h2,⟨r,h3,_⟩,h4⟩:=bQ h
 exact ⟨h2,h4,fX h,by rw [h3]; rfl⟩
theorem Ord.pos_get {n:Nat} {o:List Int} (h:Ord n o) {p:Nat} (hp:p<o.length):pos o (o.getD p 0)=p:=by
 unfold pos
 rw [List.getD_eq_getElem?_getD,List.getElem?_eq_getElem hp,Option.getD_some]
 refine bu hp (by simp [isI]) fun j hj=>?_
 have:=(List.nodup_iff_pairwise_ne.1 h.nd)
 rw [List.pairwise_iff_getElem] at this
 have:=this j p (by omega) hp hj
 simp only [isI,decide_eq_false_iff_not]
 exact fun e=>this e.symm
theorem Ord.has {n:Nat} {o:List Int} (h:Ord n o) {t:Nat} (ht:t<=n):∃p,p<o.length/\o.getD p 0=(t:Int):=by
 have hnd:(o.map Int.toNat).Nodup:=by
  rw [List.nodup_iff_pairwise_ne,List.pairwise_map]
  refine List.Pairwise.imp_of_mem ?_ (List.nodup_iff_pairwise_ne.1 h.nd)
  intro a b ha hb hab
  have:=h.bd a ha
  have:=h.bd b hb
  omega
 have:=(nQ (n+1) (o.map Int.toNat) hnd fun x hx=>by
  obtain ⟨y,hy,rfl⟩:=List.mem_map.1 hx
  have:=h.bd y hy
  omega).2 (by rw [List.length_map,h.len]) t (by omega)
 obtain ⟨y,hy,e⟩:=List.mem_map.1 this
 obtain ⟨p,hp,rfl⟩:=List.mem_iff_getElem.1 hy
 refine ⟨p,hp,?_⟩
 rw [List.getD_eq_getElem?_getD,List.getElem?_eq_getElem hp,Option.getD_some]
 have:=h.bd _ hy
 omega
theorem Ord.pos_bd {n:Nat} {o:List Int} (h:Ord n o) {t:Nat} (ht:t<=n):0<=pos o t/\pos o t<=n:=by
 obtain ⟨p,hp,e⟩:=h.has ht
 rw [<-e,h.pos_get hp]
 have:=h.len
 omega
theorem Ord.pos_eq {n:Nat} {o:List Int} (h:Ord n o) {t:Nat} (ht:t<=n) {p:Nat} (hp:p<o.length):pos o t=p↔o.getD p 0=(t:Int):=by
 obtain ⟨q,hq,e⟩:=h.has ht
 constructor
 ·intro hh
  rw [<-e,h.pos_get hq] at hh
  rw [<-e]; congr 1; omega
 ·intro hh
  rw [<-hh,h.pos_get hp]
def hF (o:List Int) (i:Nat):Int:=if pos o ((i:Int)+1)<pos o (i:Int) then 1 else 0
def kF (o:List Int):Nat->Int
 | 0=>0
 | i+1=>kF o i+hF o i
theorem Cu (o:List Int) (i:Nat):0<=hF o i/\hF o i<=1:=by unfold hF; split <;> omega
theorem te (o:List Int):∀i:Nat,0<=kF o i/\kF o i<=i
 | 0=>by simp [kF]
 | i+1=>by have:=te o i; have:=Cu o i; simp only [kF]; push_cast; omega
theorem u9 (o:List Int) {i:Nat}:∀ {j:Nat},i<=j->kF o i<=kF o j
 | 0,h=>by
  have:i=0:=by omega
  subst this; exact Int.le_refl _
 | j+1,h=>by
  by_cases e:i=j+1
  ·subst e; exact Int.le_refl _
  ·have:=u9 o (i:=i) (j:=j) (by omega)
   have:=Cu o j
   simp only [kF]; omega
def stD (s:be) (t:Nat):Int:=s.starts.getD t 0
def bsF (T:bb) (s:be) (free:Int):Int:=free+T.travel-stD s 0
def tk (T:bb) (s:be) (free:Int) (r:Nat) (t:Int):da:=(t,bsF T s free+(r:Int)*s.period+stD s t.toNat)
def cyc (T:bb) (s:be) (free:Int) (r:Nat):List da:=(s.order.filter fun t=>decide (kF s.order t.toNat<=r)).map (tk T s free r)
def b7 (T:bb) (s:be) (free:Int) (R:Nat):List da:=(List.range R).flatMap (cyc T s free)
theorem pq {T:bb} {s:be} (hc:Chk T s) (hb:T.blades=1) {p:Nat} (hp:p<T.ch.length):stD s (s.order.getD p 0).toNat+(wT T+btw T (s.order.getD p 0) (s.order.getD (p+1) 0))<=stD s (s.order.getD (p+1) 0).toNat:=by
 have hO:=fY hc.1
 have hk:=hc.2.2.1.2.2.2
 have:=hk _ (List.mem_map.2 ⟨qq T s.order p,List.mem_append.2 (.inl (List.mem_map.2 ⟨p,List.mem_range.2 (by rw [hO.len]; omega),rfl⟩)),rfl⟩)
 have e1:df T=wT T:=by unfold df wT; rw [if_neg (by omega)]
 have e2:me s.order p=s.order.getD (p+1) 0:=if_pos (by rw [hO.len]; omega)
 simp only [qq,e1,e2,a6.len] at this
 rw [if_pos (show p+1<s.order.length by rw [hO.len]; omega)] at this
 unfold btw stD
 by_cases h:s.order.getD (p+1) 0=s.order.getD p 0+1
 ·rw [if_neg (by rintro (h' | h') <;> omega)] at this
  rw [if_pos h]; omega
 ·rw [if_pos (.inr h)] at this
  rw [if_neg h]; omega
theorem sZ {T:bb} {s:be} (hc:Chk T s) (hb:T.blades=1):stD s (s.order.getD T.ch.length 0).toNat+(wT T+T.travel)<=stD s 0+s.period:=by
 have hO:=fY hc.1
 have hk:=hc.2.2.1.2.2.2
 have:=hk _ (List.mem_map.2 ⟨qq T s.order T.ch.length,List.mem_append.2 (.inl (List.mem_map.2 ⟨T.ch.length,List.mem_range.2 (by rw [hO.len]; omega),rfl⟩)),rfl⟩)
 have e1:df T=wT T:=by unfold df wT; rw [if_neg (by omega)]
 have e2:me s.order T.ch.length=0:=if_neg (by rw [hO.len]; omega)
 have hmem:s.order.getD T.ch.length 0∈s.order:=by
  have:T.ch.length<s.order.length:=by rw [hO.len]; omega
  rw [List.getD_eq_getElem?_getD,List.getElem?_eq_getElem this]; exact List.getElem_mem this
 have:=hO.bd _ hmem
 simp only [qq,e1,e2,a6.len] at *
 rw [if_neg (show ¬ T.ch.length+1<s.order.length by rw [hO.len]; omega),if_pos (.inr (by omega))] at *
 unfold stD
 simp only [Int.toNat_zero] at *
 omega
theorem xg {T:bb} {s:be} (hc:Chk T s) (hb:T.blades=1) {i:Nat} (hi:i<T.ch.length):stD s i+wT T+tmT T i<=stD s (i+1)+s.period*hF s.order i/\stD s (i+1)+s.period*hF s.order i<=stD s i+wT T+tmT T i+syT T i:=by
 have hk:=hc.2.2.1.2.2.2
 have k1:=hk _ (List.mem_map.2 ⟨_,List.mem_append.2 (.inr (List.mem_flatMap.2 ⟨i,List.mem_range.2 hi,List.mem_cons_self ..⟩)),rfl⟩)
 have k2:=hk _ (List.mem_map.2 ⟨_,List.mem_append.2 (.inr (List.mem_flatMap.2 ⟨i,List.mem_range.2 hi,List.mem_cons_of_mem _ (List.mem_singleton.2 rfl)⟩)),rfl⟩)
 have e1:df T=wT T:=by unfold df wT; rw [if_neg (by omega)]
 have e2:lkT T s.order ((i:Int)+1)=((i:Int),(i:Int)+1,hF s.order i):=by
  unfold lkT hF pos
  rw [if_neg (by omega),show (i:Int)+1-1=i by omega]
 have e3:((i:Int)+1).toNat=i+1:=by omega
 simp only [e1,e2,e3,a6.len,Int.toNat_natCast,Int.mul_neg] at k1 k2
 unfold stD tmT syT
 omega
def rl (s:be) (r p t:Nat):Int:=if pos s.order t<p then (r:Int) else (r:Int)-1
def onF (s:be) (p t:Nat):Int:=if pos s.order t<p then 1 else 0
def fM (s:be) (r p j:Nat):Prop:=hF s.order j+onF s p j-onF s p (j+1)=1/\kF s.order j<=rl s r p j
structure FI (T:bb) (s:be) (free:Int) (r p:Nat) (x:St):Prop where
 len:x.inn.length=T.ch.length
 full:∀j,j<T.ch.length->fM s r p j->0<=x.inn.getD j 0/\x.inn.getD j 0=bsF T s free+rl s r p j*s.period+stD s j+wT T+tmT T j
 emp:∀j,j<T.ch.length->¬ fM s r p j->x.inn.getD j 0 = -1
 pos0:0<=x.fin
 next:p<=T.ch.length->x.fin+btw T x.last (s.order.getD p 0)<=(tk T s free r (s.order.getD p 0)).2
theorem fd {n:Nat} {s:be} (hO:Ord n s.order) {p t:Nat} (hp:p<s.order.length) (ht:t<=n):onF s (p+1) t=if s.order.getD p 0=(t:Int) then 1 else onF s p t:=by
 have:=hO.pos_eq ht hp
 unfold onF
 by_cases h:s.order.getD p 0=(t:Int)
 ·rw [if_pos h,if_pos (by have:=this.2 h; omega)]
 ·rw [if_neg h]
  have:pos s.order t≠p:=fun e=>h (this.1 e)
  by_cases h2:pos s.order t<p
  ·rw [if_pos h2,if_pos (by omega)]
  ·rw [if_neg h2,if_neg (by omega)]
theorem kJ (s:be) (r p t:Nat):rl s r p t=(r:Int)-1+onF s p t:=by
 unfold rl onF; split <;> omega
theorem rY {n:Nat} {s:be} (hO:Ord n s.order) {p t:Nat} (hp:p<s.order.length) (ht:t<=n) (h:s.order.getD p 0=(t:Int)):onF s p t=0:=by
 unfold onF; rw [(hO.pos_eq ht hp).2 h,if_neg (by omega)]
theorem nR {n:Nat} {s:be} (hO:Ord n s.order) {p t:Nat} (hp:p<s.order.length) (ht:t+1<=n):(s.order.getD p 0=(t:Int)->onF s p (t+1)=hF s.order t)/\(s.order.getD p 0=((t+1:Nat):Int)->onF s p t=1-hF s.order t):=by
 constructor
 ·intro h
  have h1:=(hO.pos_eq (by omega) hp).2 h
  unfold onF hF
  rw [h1]; push_cast; rfl
 ·intro h
  have h1:=(hO.pos_eq ht hp).2 h
  have h2:pos s.order (t:Int)≠p:=fun e=>by
   have:=(hO.pos_eq (by omega) hp).1 e
   rw [this] at h; push_cast at h; omega
  unfold onF hF
  push_cast at h1
  rw [h1]
  by_cases h3:pos s.order (t:Int)<p
  ·rw [if_pos h3,if_neg (by omega)]; rfl
  ·rw [if_neg h3,if_pos (by omega)]; rfl
theorem FI.skip {T:bb} {s:be} {free:Int} {r p:Nat} {x:St} (hc:Chk T s) (hb:T.blades=1) (hv:aX T) (h:FI T s free r p x) {t:Nat} (hp:p<=T.ch.length) (ht:s.order.getD p 0=(t:Int)) (htn:t<=T.ch.length) (hk:¬ kF s.order t<=r):FI T s free r (p+1) x:=by
 have hO:=fY hc.1
 have hpl:p<s.order.length:=by rw [hO.len]; omega
 have hiff:∀j,j<T.ch.length->(fM s r (p+1) j↔fM s r p j)/\(fM s r p j->rl s r (p+1) j=rl s r p j):=by
  intro j hj
  have k0:kF s.order (j+1)=kF s.order j+hF s.order j:=rfl
  have hh:=Cu s.order j
  unfold fM
  rw [kJ,kJ,fd hO hpl (show j<=T.ch.length by omega),fd hO hpl (show j+1<=T.ch.length by omega),ht]
  by_cases h1:t=j
  ·subst h1
   have a1:=rY hO hpl htn ht
   have a2:=(nR hO hpl (show t+1<=T.ch.length by omega)).1 ht
   rw [if_pos rfl,if_neg (by push_cast; omega),a1,a2]
   omega
  ·by_cases h2:t=j+1
   ·subst h2
    have a1:=rY hO hpl htn ht
    have a2:=(nR hO hpl htn).2 ht
    rw [if_neg (by push_cast; omega),if_pos rfl,a1,a2]
    omega
   ·rw [if_neg (by omega),if_neg (by push_cast; omega)]
    exact ⟨Iff.rfl,fun _=>rfl⟩
 refine ⟨h.len,fun j hj hf=>?_,fun j hj hf=>h.emp j hj fun hf'=>hf ((hiff j hj).1.2 hf'),h.pos0,fun hp1=>?_⟩
 ·have hf':=(hiff j hj).1.1 hf
  rw [(hiff j hj).2 hf']
  exact h.full j hj hf'
 ·have k1:=h.next hp
  have k2:=pq hc hb (p:=p) (by omega)
  have b1:=jA hv x.last (s.order.getD p 0)
  have b2:=jA hv x.last (s.order.getD (p+1) 0)
  have b3:=jA hv (s.order.getD p 0) (s.order.getD (p+1) 0)
  have hw:T.travel<=wT T:=by
   obtain ⟨_,⟨h1,h2,h3⟩,_⟩:=hv
   unfold wT; omega
  simp only [tk] at k1 ⊢
  omega
theorem FI.exec {T:bb} {s:be} {free:Int} {r p:Nat} {x:St} (hc:Chk T s) (hb:T.blades=1) (hv:aX T) (h:FI T s free r p x) {t:Nat} (hp:p<=T.ch.length) (ht:s.order.getD p 0=(t:Int)) (htn:t<=T.ch.length) (hk:kF s.order t<=r) (hB:(tk T s free r (t:Int)).2<=1000000000) :
  ∃y,eD T x (tk T s free r (t:Int))=some y/\FI T s free r (p+1) y:=by
 have hO:=fY hc.1
 have hpl:p<s.order.length:=by rw [hO.len]; omega
 have hw:=eY hv
 have k1:=h.next hp
 rw [ht] at k1
 have b1:=jA hv x.last (t:Int)
 have hS:0<=(tk T s free r (t:Int)).2:=by have:=h.pos0; omega
 obtain ⟨S,hSe⟩:∃S,S=(tk T s free r (t:Int)).2:=⟨_,rfl⟩
 have hS2:S=bsF T s free+(r:Int)*s.period+stD s t:=by rw [hSe]; simp only [tk,Int.toNat_natCast]
 have etk:tk T s free r (t:Int)=((t:Int),S):=by rw [hSe]; rfl
 rw [etk] at k1 hS hB ⊢
 simp only at k1 hS hB
 have hp0:=h.pos0
 obtain ⟨inn1,ht1,hl1,hg1⟩:∃inn1,iT T x.inn ((t:Int),S)=some inn1/\inn1.length=T.ch.length/\∀j,inn1.getD j 0=if j+1=t then -1 else x.inn.getD j 0:=by
  cases t with
  | zero=>
   refine ⟨x.inn,by unfold iT; rw [if_neg (by simp)],h.len,fun j=>by rw [if_neg (by omega)]⟩
  | succ i=>
   have hi:i<T.ch.length:=by omega
   have a1:=rY hO hpl htn ht
   have a2:=(nR hO hpl htn).2 ht
   have k0:kF s.order (i+1)=kF s.order i+hF s.order i:=rfl
   have hf:fM s r p i:=by
    unfold fM
    rw [kJ,a1,a2]
    omega
   obtain ⟨q1,q2⟩:=h.full i hi hf
   have c:=xg hc hb hi
   rw [kJ,a2] at q2
   have e1:(((i+1:Nat):Int)-1).toNat=i:=by omega
   have em:((r:Int)-1+(1-hF s.order i))*s.period=(r:Int)*s.period-s.period*hF s.order i:=by
    rw [show (r:Int)-1+(1-hF s.order i)=(r:Int)-hF s.order i by omega,Int.sub_mul,Int.mul_comm (hF s.order i)]
   rw [em] at q2
   refine ⟨x.inn.set i (-1),?_,by simp [h.len],fun j=>?_⟩
   ·unfold iT
    simp only [e1]
    rw [if_pos (by push_cast; omega),if_pos ⟨q1,by omega,by omega⟩]
   ·rw [jp,h.len]
    by_cases hj:j=i
    ·subst hj; rw [if_pos ⟨rfl,hi⟩,if_pos rfl]
    ·rw [if_neg (by omega),if_neg (by omega)]
 obtain ⟨inn2,ht2,hl2,hg2⟩:∃inn2,qY T inn1 ((t:Int),S)=some inn2/\inn2.length=T.ch.length/\∀j,j<T.ch.length->inn2.getD j 0=if j=t then S+wT T+tmT T t else inn1.getD j 0:=by
  by_cases hlt:t<T.ch.length
  ·have a1:=rY hO hpl htn ht
   have a2:=(nR hO hpl (show t+1<=T.ch.length by omega)).1 ht
   have hf:¬ fM s r p t:=by
    unfold fM
    rw [a1,a2]; omega
   have q:=h.emp t hlt hf
   refine ⟨inn1.set t (S+wT T+tmT T t),?_,by simp [hl1],fun j hj=>?_⟩
   ·unfold qY
    simp only [Int.toNat_natCast]
    have hq:inn1.getD t 0 = -1:=by rw [hg1,if_neg (by omega),q]
    rw [if_pos (by rw [hl1]; omega),hq,if_neg (by omega)]
   ·rw [jp,hl1]
    by_cases hjt:j=t
    ·subst hjt; rw [if_pos ⟨rfl,hj⟩,if_pos rfl]
    ·rw [if_neg (by omega),if_neg hjt]
  ·refine ⟨inn1,by unfold qY; simp only; rw [if_neg (by rw [hl1]; omega)],hl1,fun j hj=>by rw [if_neg (by omega)]⟩
 refine ⟨⟨inn2,(t:Int),S+wT T⟩,?_,?_⟩
 ·unfold eD
  rw [if_pos ⟨⟨by simp only; omega,by simp only [h.len]; omega⟩,k1,hB⟩,ht1,Option.bind_some,ht2]
  rfl
 ·have htm:=fun k=>(lg hv k).1
  refine ⟨hl2,fun j hj hf=>?_,fun j hj hf=>?_,by simp only; omega,fun hp1=>?_⟩
  ·simp only
   rw [hg2 j hj,hg1]
   unfold fM at hf
   rw [kJ,fd hO hpl (show j<=T.ch.length by omega),fd hO hpl (show j+1<=T.ch.length by omega),ht] at hf
   rw [kJ,fd hO hpl (show j<=T.ch.length by omega),ht]
   by_cases h1:j=t
   ·subst h1
    rw [if_pos rfl,if_pos rfl]
    have:=htm j
    refine ⟨by omega,?_⟩
    rw [show (r:Int)-1+1=r by omega,hS2]
   ·rw [if_neg h1,if_neg (show ¬ ((t:Int)=(j:Int)) by omega)]
    rw [if_neg (show ¬ ((t:Int)=(j:Int)) by omega)] at hf
    by_cases h2:j+1=t
    ·subst h2
     rw [if_pos (by push_cast; rfl)] at hf
     have a2:=(nR hO hpl htn).2 ht
     rw [a2] at hf; omega
    ·rw [if_neg (show ¬ ((t:Int)=((j+1:Nat):Int)) by push_cast; omega)] at hf
     rw [if_neg h2,<-kJ]
     exact h.full j hj (by unfold fM; rw [kJ]; exact hf)
  ·simp only
   rw [hg2 j hj,hg1]
   unfold fM at hf
   rw [kJ,fd hO hpl (show j<=T.ch.length by omega),fd hO hpl (show j+1<=T.ch.length by omega),ht] at hf
   by_cases h1:j=t
   ·subst h1
    have a2:=(nR hO hpl (show j+1<=T.ch.length by omega)).1 ht
    rw [if_pos rfl,if_neg (by push_cast; omega),a2] at hf
    omega
   ·rw [if_neg h1]
    rw [if_neg (show ¬ ((t:Int)=(j:Int)) by omega)] at hf
    by_cases h2:j+1=t
    ·rw [if_pos h2]
    ·rw [if_neg (show ¬ ((t:Int)=((j+1:Nat):Int)) by push_cast; omega)] at hf
     rw [if_neg h2]
     exact h.emp j hj fun hf'=>hf (by unfold fM at hf'; rw [kJ] at hf'; exact hf')
  ·have k2:=pq hc hb (p:=p) (by omega)
   rw [ht,Int.toNat_natCast] at k2
   simp only [tk]
   omega
theorem FI.wrap {T:bb} {s:be} {free:Int} {r:Nat} {x:St} (hc:Chk T s) (hb:T.blades=1) (hv:aX T) (h:FI T s free r (T.ch.length+1) x) (hf:x.fin+T.travel<=bsF T s free+(r:Int)*s.period+stD s (s.order.getD T.ch.length 0).toNat+wT T+T.travel):FI T s free (r+1) 0 x:=by
 have hO:=fY hc.1
 have on1:∀t,t<=T.ch.length->onF s (T.ch.length+1) t=1/\onF s 0 t=0:=fun t ht=>by
  have:=hO.pos_bd ht
  unfold onF
  rw [if_pos (by push_cast; omega),if_neg (by push_cast; omega)]
  exact ⟨rfl,rfl⟩
 have hiff:∀j,j<T.ch.length->(fM s (r+1) 0 j↔fM s r (T.ch.length+1) j)/\rl s (r+1) 0 j=rl s r (T.ch.length+1) j:=by
  intro j hj
  have a:=on1 j (by omega)
  have b:=on1 (j+1) (by omega)
  have e:rl s (r+1) 0 j=rl s r (T.ch.length+1) j:=by
   rw [kJ,kJ,a.1,a.2]; push_cast; omega
  refine ⟨?_,e⟩
  unfold fM
  rw [e,a.1,a.2,b.1,b.2]
  omega
 refine ⟨h.len,fun j hj hf=>?_,fun j hj hf=>h.emp j hj fun hf'=>hf ((hiff j hj).1.2 hf'),h.pos0,fun _=>?_⟩
 ·rw [(hiff j hj).2]; exact h.full j hj ((hiff j hj).1.1 hf)
 ·have k:=sZ hc hb
  have b:=jA hv x.last (s.order.getD 0 0)
  rw [hO.z] at b ⊢
  have em:((r+1:Nat):Int)*s.period=(r:Int)*s.period+s.period:=by push_cast; rw [Int.add_mul,Int.one_mul]
  simp only [tk,Int.toNat_zero,em]
  omega
theorem FI.run {T:bb} {s:be} {free:Int} {r:Nat} (hc:Chk T s) (hb:T.blades=1) (hv:aX T) (hB:∀t∈s.order,(tk T s free r t).2<=1000000000):∀(c p:Nat) (x:St),p+c=T.ch.length+1->FI T s free r p x ->
  (p=T.ch.length+1->x.fin<=bsF T s free+(r:Int)*s.period+stD s (s.order.getD T.ch.length 0).toNat+wT T) ->
  ∃y,tC T x (((s.order.drop p).filter fun t=>decide (kF s.order t.toNat<=r)).map (tk T s free r))=some y/\FI T s free r (T.ch.length+1) y/\y.fin<=bsF T s free+(r:Int)*s.period+stD s (s.order.getD T.ch.length 0).toNat+wT T
 | 0,p,x,hpc,hI,hf=>by
  have hO:=fY hc.1
  have:p=T.ch.length+1:=by omega
  subst this
  refine ⟨x,?_,hI,hf rfl⟩
  rw [List.drop_eq_nil_of_le (by rw [hO.len]; exact Nat.le_refl _)]; rfl
 | c+1,p,x,hpc,hI,_=>by
  have hO:=fY hc.1
  have hpl:p<s.order.length:=by rw [hO.len]; omega
  have hmem:s.order.getD p 0∈s.order:=by
   rw [List.getD_eq_getElem?_getD,List.getElem?_eq_getElem hpl]; exact List.getElem_mem hpl
  obtain ⟨t,ht⟩:∃t:Nat,s.order.getD p 0=(t:Int):=⟨(s.order.getD p 0).toNat,by have:=hO.bd _ hmem; omega⟩
  have htn:t<=T.ch.length:=by have:=hO.bd _ hmem; omega
  have hd:s.order.drop p=(t:Int) :: s.order.drop (p+1):=by
   rw [List.drop_eq_getElem_cons hpl,<-ht,List.getD_eq_getElem?_getD,List.getElem?_eq_getElem hpl]; rfl
  have hw:=eY hv
  rw [hd,List.filter_cons,Int.toNat_natCast]
  by_cases hk:kF s.order t<=r
  ·rw [decide_eq_true hk,if_pos rfl,List.map_cons]
   obtain ⟨y,hy,hI'⟩:=hI.exec hc hb hv (by omega) ht htn hk (hB _ (by rw [<-ht]; exact hmem))
   have hyf:y.fin=(tk T s free r (t:Int)).2+wT T:=by
    unfold eD at hy
    split at hy
    ·cases h1:iT T x.inn (tk T s free r (t:Int)) with
     | none=>rw [h1] at hy; cases hy
     | some a=>
      rw [h1,Option.bind_some] at hy
      cases h2:qY T a (tk T s free r (t:Int)) with
      | none=>rw [h2] at hy; cases hy
      | some b=>
       rw [h2] at hy
       injection hy with hy
       rw [<-hy]
    ·cases hy
   obtain ⟨z,hz,hI2,hf2⟩:=FI.run hc hb hv hB c (p+1) y (by omega) hI' (fun e=>by
    have:p=T.ch.length:=by omega
    subst this
    rw [ht,Int.toNat_natCast,hyf]
    simp only [tk,Int.toNat_natCast]; omega)
   refine ⟨z,?_,hI2,hf2⟩
   simp only [tC,hy,Option.bind_some]
   exact hz
  ·rw [decide_eq_false hk,if_neg (by decide)]
   have hn:=hI.next (by omega)
   have hbt:=jA hv x.last (s.order.getD p 0)
   refine FI.run hc hb hv hB c (p+1) x (by omega) (hI.skip hc hb hv (by omega) ht htn hk) (fun e=>?_)
   have:p=T.ch.length:=by omega
   subst this
   simp only [tk] at hn
   omega
theorem sG (T:bb):∀(a b:List da) (x:St),tC T x (a++b)=(tC T x a).bind fun y=>tC T y b
 | [],b,x=>rfl
 | t :: a,b,x=>by
  simp only [List.cons_append,tC]
  cases h:eD T x t with
  | none=>rfl
  | some y=>simp only [Option.bind_some,sG T a b y]
theorem vx {T:bb} {s:be} {free:Int} (hc:Chk T s) (hb:T.blades=1) (hv:aX T):∀(R:Nat),(∀r,r<R->∀t∈s.order,(tk T s free r t).2<=1000000000)->∀x:St,x.inn.length=T.ch.length->(∀j,j<T.ch.length->x.inn.getD j 0 = -1)->x.fin=free->0<=free ->
  ∃y,tC T x (b7 T s free R)=some y/\FI T s free R 0 y
 | 0,_,x,h1,h2,h3,h4=>by
  have hO:=fY hc.1
  refine ⟨x,rfl,h1,fun j hj hf=>?_,fun j hj _=>h2 j hj,by omega,fun _=>?_⟩
  ·have hp:=hO.pos_bd (show j<=T.ch.length by omega)
   have:=te s.order j
   unfold fM rl at hf
   rw [if_neg (by push_cast; omega)] at hf
   omega
  ·have b:=jA hv x.last (s.order.getD 0 0)
   rw [hO.z] at b ⊢
   simp only [tk,Int.toNat_zero,bsF]
   omega
 | R+1,hB,x,h1,h2,h3,h4=>by
  obtain ⟨y,hy,hI⟩:=vx hc hb hv R (fun r hr=>hB r (by omega)) x h1 h2 h3 h4
  obtain ⟨z,hz,hI2,hf⟩:=FI.run hc hb hv (hB R (by omega)) (T.ch.length+1) 0 y (by omega) hI (fun e=>by omega)
  refine ⟨z,?_,hI2.wrap hc hb hv (by omega)⟩
  unfold b7 at hy ⊢
  rw [List.range_succ,List.flatMap_append,sG,hy,Option.bind_some]
  simp only [List.flatMap_cons,List.flatMap_nil,List.append_nil]
  exact hz
end Tr
namespace Tr
open Go
open Cy (GC iR cH bu bG ce aT bi aH)
open Clu (bb aX aA chA M16 po wM a7 bh cd bI cQ gj cj)
def ob (n lo hi:Int):Bool:=decide (lo<=n) && decide (n<=hi)
theorem ey {n lo hi:Int}:ob n lo hi=true↔lo<=n/\n<=hi:=by simp [ob]
def M30:aG:=fun args=>match args with
 | [.int .i64 n,.int .i64 lo,.int .i64 hi]=>some (.bool (ob n lo hi))
 | _=>none
theorem rO:ak Tryz.prog GC 57 M30:=by
 refine ak.of_ev (E:=ai GC []) (aj aw) rfl at30 GO 1 ?_
 intro args r h
 unfold M30 at h
 split at h
 ·rename_i n lo hi
  injection h with h; subst h
  refine ⟨0,?_⟩
  have b1:aq .geq (.int .i64 n) (.int .i64 lo)=some (.bool (decide (lo<=n))):=by simp [aq]
  have b2:aq .leq (.int .i64 n) (.int .i64 hi)=some (.bool (decide (n<=hi))):=by simp [aq]
  unfold ob
  obtain ⟨p,hp⟩:∃p,p=decide (lo<=n):=⟨_,rfl⟩
  obtain ⟨q,hq⟩:∃q,q=decide (n<=hi):=⟨_,rfl⟩
  rw [<-hp] at b1 ⊢
  rw [<-hq] at b2 ⊢
  rw [aS _ _ rfl]
  cases p <;> simp [LY,b1,b2,-aq]
 ·cases h
@[simp] theorem fK (n lo hi:Int):M30 [.int .i64 n,.int .i64 lo,.int .i64 hi]=some (.bool (ob n lo hi)):=rfl
def th:List (FuncId × aD):=[(41,aF 4 M16)]
@[simp] theorem I8:aI th 41=some (aF 4 M16):=rfl
def M47:aG:=fun args=>evP (ai GC th) 0 yE 1 args
theorem rL:ak Tryz.prog GC 55 M47:=ak.of_ev (E:=ai GC th) (aj (ae (an.of_pure po 4) aw)) rfl Kp vL 1 fun _ _ h=>⟨0,h⟩
def isT (T:bb):Prop:=aX T/\T.blades=1
instance (T:bb):Decidable (isT T):=inferInstanceAs (Decidable (_/\_))
theorem zz {T:bb} {chv:AV} (hb:SlA 2 (T.ch.map chA) chv) (hl:T.ch.length<=200):M47 [aA T chv]=some (.bool (decide (isT T))):=by
 have m:=wM hb hl
 have ft:=fun A=>a7 (T:=T) (fun A n=>hb.frz (A:=A) n) A 3
 have bx:bm 5 (aA T chv) []=some (.ptr 0 0 0,[.row 5 false [aA T chv]]):=rfl
 have ct:(cellsOf (aA T chv)).length=5:=rfl
 obtain ⟨A0,hA0⟩:∃A:ac,A=[.row 5 false [aA T chv]]:=⟨_,rfl⟩
 have lt:af true 5 A0 (.ptr 0 0 0)=some (aA T chv):=by rw [hA0]; rfl
 have fa:aa 4 A0 (.ptr 0 0 0)=some (.ptr 0 0 4):=by rw [hA0]; simp [aa]
 have l4:af false 1 A0 (.ptr 0 0 4)=some (.int .i64 T.blades):=by rw [hA0]; rfl
 have b1:=bI T.blades 1
 have e:decide (isT T)=(decide (T.blades=1) && decide (aX T)):=by
  unfold isT
  by_cases h1:T.blades=1 <;> by_cases h2:aX T <;> simp [h1,h2]
 rw [e]
 obtain ⟨t,ht⟩:∃t,t=aA T chv:=⟨_,rfl⟩
 rw [<-ht] at m ft bx ct lt hA0 ⊢
 rw [<-hA0] at bx
 obtain ⟨p,hp⟩:∃p,p=decide (T.blades=1):=⟨_,rfl⟩
 obtain ⟨q,hq⟩:∃q,q=decide (aX T):=⟨_,rfl⟩
 rw [<-hp] at b1 ⊢
 rw [<-hq] at m ⊢
 unfold M47
 rw [aS _ _ rfl]
 cases p <;> simp [yE,m,ft,bx,ct,lt,fa,l4,b1,bi,-bm,-af,-aa,-frz,-cellsOf,-aq]
def qz (x:Int):Bool:=!ob x (-1) 500000
def HU:List (FuncId × aD):=[(57,aF 4 M30)]
@[simp] theorem I0:aI HU 57=some (aF 4 M30):=rfl
theorem AN:∀f M,aI HU f=some M->an Tryz.prog GC f M:=ae (an.of_pure rO 4) aw
def M52:aG:=fun args=>evP (ai GC HU) 0 xL 1 args
theorem uf:ak Tryz.prog GC 102 M52:=ak.of_ev (E:=ai GC HU) (aj AN) rfl Kn vJ 1 fun _ _ h=>⟨0,h⟩
theorem Hj (x:Int):M52 [.int .i64 x]=some (.bool (qz x)):=by
 have m:M30 [.int .i64 x,.int .i64 (-1),.int .i64 500000]=some (.bool (ob x (-1) 500000)):=rfl
 unfold qz
 obtain ⟨p,hp⟩:∃p,p=ob x (-1) 500000:=⟨_,rfl⟩
 rw [<-hp] at m ⊢
 unfold M52
 rw [aS _ _ rfl]
 simp [xL,m]
def gS:AV:=.func (.func 102) [] []
def yZ:List (FuncId × aD):=[(102,aF 4 M52)]
@[simp] theorem IW:aI yZ 102=some (aF 4 M52):=rfl
theorem AJ:∀f M,aI yZ f=some M->an Tryz.prog GC f M:=ae (an.of_pure uf 4) aw
def M79:aG:=fun args=>evP (ai GC yZ) 300 Cy.tH 1 args
theorem DQ:ak Tryz.prog GC 101 M79:=ak.of_ev (E:=ai GC yZ) (aj AJ) rfl Cy.Ib Cy.sD 1 fun _ _ h=>⟨300,h⟩
theorem He {xs:List Int} {b:AV} (hb:SlA 1 (ax xs) b) (hl:xs.length<=200):M79 [b,gS]=some (.int .i64 (cH qz xs)):=by
 have hlen:=hb.len
 rw [aH] at hlen
 have round:∀(A:ac) (i:Nat) (hi:i<xs.length),run (ai GC yZ) 300 [.code Cy.dC] (Cy.eh b gS (.int .i64 (xs.length:Int)) (.int .i64 (i:Int))) A =
   if qz xs[i]=false then some (.normal (Cy.eh b gS (.int .i64 (xs.length:Int)) (.int .i64 ((i+1:Nat):Int))) A) else some (.ret [b,gS,.int .i64 (i:Int),.int .i64 (i:Int),.int .i64 (xs.length:Int),.int .i64 (i:Int),.bool true,.bool true] A):=fun A i hi=>by
  have x1:=hb.int (A:=A) _ _ (List.getElem?_eq_getElem hi) .i64
  have m:=Hj xs[i]
  have b1:=bw i xs.length .i64
  rw [decide_eq_true hi] at b1
  have b3:=aY i (by omega)
  obtain ⟨i1,hi1⟩:∃i1:Nat,i1=i+1:=⟨_,rfl⟩
  rw [<-hi1] at b3 ⊢
  obtain ⟨d,hd⟩:∃d,d=qz xs[i]:=⟨_,rfl⟩
  rw [<-hd] at m ⊢
  cases d with
  | false=>simp [Cy.dC,gS,x1,m,b1,b3,-aq,-au,-ay]
  | true=>simp [Cy.dC,gS,x1,m,b1,-aq,-au,-ay]
 unfold M79
 rw [aS _ _ rfl]
 rcases cP (E:=ai GC yZ) (fuel:=300) (a:=Cy.dC) (mask:=Cy.dN) (fun i=>Cy.eh b gS (.int .i64 (xs.length:Int)) (.int .i64 (i:Int))) (fun _=>[]) xs.length (fun i=>¬ ∀hi:i<xs.length,qz xs[i]=false)
  (oF:=fun i=>.ret [b,gS,.int .i64 (i:Int),.int .i64 (i:Int),.int .i64 (xs.length:Int),.int .i64 (i:Int),.bool true,.bool true] []) (oE:=.exit 0 ((Cy.eh b gS (.int .i64 (xs.length:Int)) (.int .i64 (xs.length:Int))).set 6 (.bool false)) [])
  (fun _=>Cy.vX) (fun _ _ _ h=>by cases h) (fun _ _ h=>by cases h)
  (fun i hi hp=>by
   rw [round [] i hi]
   exact if_pos (Classical.not_not.1 hp hi))
  (fun i hi hp=>by
   rw [round [] i hi]
   exact if_neg fun h=>hp fun _=>h)
  (by simp [Cy.dC]) (show xs.length<300 by omega) with ⟨i,hi,hp,hj,lp⟩ | ⟨hp,lp⟩
 ·have lp:bM (evC (ai GC yZ) 300 Cy.dC) Cy.dN 300 (Cy.eh b gS (.int .i64 (xs.length:Int)) (.int .i64 0)) []=_:=lp
  have e:cH qz xs=(i:Int):=bu hi (by
   cases h':qz xs[i] with
   | true=>rfl
   | false=>exact absurd (fun _=>h') hp) (fun j hj'=>Classical.not_not.1 (hj j hj') (by omega))
  rw [e]
  simp [Cy.tH,hlen,Cy.si lp,-aq,-ay]
 ·have lp:bM (evC (ai GC yZ) 300 Cy.dC) Cy.dN 300 (Cy.eh b gS (.int .i64 (xs.length:Int)) (.int .i64 0)) []=_:=lp
  have e:cH qz xs = -1:=bG fun i hi=>Classical.not_not.1 (hp i hi) hi
  rw [e]
  simp [Cy.tH,hlen,Cy.si lp,-aq,-ay]
def I3:List (FuncId × aD):=[(101,aF 4 M79)]
@[simp] theorem I2:aI I3 101=some (aF 4 M79):=rfl
def M51:aG:=fun args=>evP (ai GC I3) 0 Cy.xN 1 args
theorem rK:ak Tryz.prog GC 61 M51:=ak.of_ev (E:=ai GC I3) (aj (ae (an.of_pure DQ 4) aw)) rfl Cy.Ic Cy.sE 1 fun _ _ h=>⟨0,h⟩
theorem Hk {xs:List Int} {b:AV} (hb:SlA 1 (ax xs) b) (hl:xs.length<=200):M51 [b,gS]=some (.bool (xs.any qz)):=by
 have h:=He hb hl
 have b1:=iR (cH qz xs)
 rw [ce] at b1
 have f1:∀A n,frz A n b=b:=fun A n=>hb.frz n
 have hF:∀A,frz A 4 gS=gS:=fun _=>rfl
 obtain ⟨z,hz⟩:∃z,z=cH qz xs:=⟨_,rfl⟩
 rw [<-hz] at h b1
 obtain ⟨F,hFF⟩:∃F,F=gS:=⟨_,rfl⟩
 rw [<-hFF] at h hF ⊢
 unfold M51
 rw [aS _ _ rfl]
 simp [Cy.xN,f1,hF,h,b1,cq,bi,-aq,-frz]
def FU:List (FuncId × aD):=[(55,aF 4 M47),(57,aF 4 M30),(61,aF 4 M51)]
@[simp] theorem Jp:aI FU 55=some (aF 4 M47):=rfl
@[simp] theorem Jq:aI FU 57=some (aF 4 M30):=rfl
@[simp] theorem Jo:aI FU 61=some (aF 4 M51):=rfl
def M29:aG:=fun args=>evP (ai GC FU) 0 IJ 1 args
theorem D8:ak Tryz.prog GC 64 M29:=ak.of_ev (E:=ai GC FU) (aj (ae (an.of_pure rL 4) (ae (an.of_pure rO 4) (ae (an.of_pure rK 4) aw)))) rfl at29 GP 1 fun _ _ h=>⟨0,h⟩
theorem Iy (T:bb) (rd:List Int) (free:Int):decide (Sit T rd free)=(decide (isT T) && (decide ((rd.length:Int)=(T.ch.length:Int)) && (ob free 0 2000000 && !(rd.any qz)))):=by
 have e:(!(rd.any qz))=decide (∀t∈rd,-1<=t/\t<=500000):=by
  rw [Bool.eq_iff_iff,decide_eq_true_eq,Bool.not_eq_true',List.any_eq_false]
  unfold qz ob
  simp
 rw [e,Bool.eq_iff_iff,decide_eq_true_eq]
 simp only [Bool.and_eq_true,decide_eq_true_eq,ey]
 unfold Sit isT
 constructor
 ·rintro ⟨h1,h2,h3,h4⟩; exact ⟨h1,by omega,h3,h4⟩
 ·rintro ⟨h1,h2,h3,h4⟩; exact ⟨h1,by omega,h3,h4⟩
theorem Hr {T:bb} {chv rdv:AV} (hb:SlA 2 (T.ch.map chA) chv) (hl:T.ch.length<=200) {rd:List Int} (hr:SlA 1 (ax rd) rdv) (hrl:rd.length<=200) (free:Int):M29 [aA T chv,rdv,.int .i64 free]=some (.bool (decide (Sit T rd free))):=by
 have m:=zz hb hl
 have m2:=Hk hr hrl
 have m3:M30 [.int .i64 free,.int .i64 0,.int .i64 2000000]=some (.bool (ob free 0 2000000)):=rfl
 have ft:=fun A=>a7 (T:=T) (fun A n=>hb.frz (A:=A) n) A 3
 have fr:∀A n,frz A n rdv=rdv:=fun A n=>hr.frz n
 have fb:∀A,frz A 4 (.func (.func 102) [] [])=gS:=fun _=>rfl
 have hl1:=hb.len
 rw [List.length_map] at hl1
 have hl2:=hr.len
 rw [aH] at hl2
 have bx:bm 5 (aA T chv) []=some (.ptr 0 0 0,[.row 5 false [aA T chv]]):=rfl
 have ct:(cellsOf (aA T chv)).length=5:=rfl
 obtain ⟨A0,hA0⟩:∃A:ac,A=[.row 5 false [aA T chv]]:=⟨_,rfl⟩
 have lt:af true 5 A0 (.ptr 0 0 0)=some (aA T chv):=by rw [hA0]; rfl
 have fa:aa 0 A0 (.ptr 0 0 0)=some (.ptr 0 0 0):=by rw [hA0]; simp [aa]
 have l0:af false 1 A0 (.ptr 0 0 0)=some chv:=by
  rw [hA0]
  rcases hb with ⟨rfl,_⟩ | rfl <;> rfl
 have b1:=bI (rd.length:Int) (T.ch.length:Int)
 rw [Iy]
 obtain ⟨t,ht⟩:∃t,t=aA T chv:=⟨_,rfl⟩
 rw [<-ht] at m ft bx ct lt hA0 ⊢
 rw [<-hA0] at bx
 obtain ⟨p,hp⟩:∃p,p=decide (isT T):=⟨_,rfl⟩
 obtain ⟨q,hq⟩:∃q,q=decide ((rd.length:Int)=(T.ch.length:Int)):=⟨_,rfl⟩
 obtain ⟨u,hu⟩:∃u,u=ob free 0 2000000:=⟨_,rfl⟩
 obtain ⟨v,hv⟩:∃v,v=rd.any qz:=⟨_,rfl⟩
 obtain ⟨z1,hz1⟩:∃z1,z1=(rd.length:Int):=⟨_,rfl⟩
 obtain ⟨z2,hz2⟩:∃z2,z2=(T.ch.length:Int):=⟨_,rfl⟩
 rw [<-hp] at m ⊢
 rw [<-hq] at b1 ⊢
 rw [<-hu] at m3 ⊢
 rw [<-hv] at m2 ⊢
 rw [<-hz1] at hl2 b1
 rw [<-hz2] at hl1 b1
 unfold M29
 rw [aS _ _ rfl]
 cases p <;> cases q <;> cases u <;> simp [IJ,m,m2,m3,ft,fr,fb,bx,ct,lt,fa,l0,b1,hl1,hl2,bi,aT,-bm,-af,-aa,-ay,-frz,-cellsOf,-aq,-fK]
def M42:aG:=fun args=>evP (ai GC []) 0 uN 1 args
theorem pn:ak Tryz.prog GC 66 M42:=ak.of_ev (E:=ai GC []) (aj aw) rfl G1 qa 1 fun _ _ h=>⟨0,h⟩
theorem wK {T:bb} (chv:AV) (hv:aX T):M42 [aA T chv]=some (.int .i64 (wT T)):=by
 obtain ⟨_,⟨h1,h2,h3⟩,_⟩:=hv
 have b1:aq .add (.int .i64 T.pick) (.int .i64 T.travel)=some (.int .i64 (T.pick+T.travel)):=bh (by omega)
 have b2:aq .add (.int .i64 (T.pick+T.travel)) (.int .i64 T.place)=some (.int .i64 (wT T)):=bh (by omega)
 unfold M42
 rw [aS _ _ rfl]
 simp [uN,aA,b1,b2,-aq]
def M41:aG:=fun args=>evP (ai GC []) 0 uO 1 args
theorem nI:ak Tryz.prog GC 65 M41:=ak.of_ev (E:=ai GC []) (aj aw) rfl G2 qb 1 fun _ _ h=>⟨0,h⟩
theorem wL {T:bb} (chv:AV) (a b:Int) (ha : -1000<=a/\a<=1000):M41 [aA T chv,.int .i64 a,.int .i64 b]=some (.int .i64 (btw T a b)):=by
 have b1:aq .add (.int .i64 a) (.int .i64 1)=some (.int .i64 (a+1)):=bh (by omega)
 have b2:=bI b (a+1)
 obtain ⟨a1,ha1⟩:∃a1,a1=a+1:=⟨_,rfl⟩
 unfold btw
 rw [<-ha1] at b1 b2 ⊢
 unfold M41
 rw [aS _ _ rfl]
 by_cases h:b=a1
 ·rw [decide_eq_true h] at b2
  rw [if_pos h]
  simp [uO,aA,b1,b2,-aq]
 ·rw [decide_eq_false h] at b2
  rw [if_neg h]
  simp [uO,aA,b1,b2,-aq]
end Tr
namespace Tr
open Go
open Cy (GC aT bi aH)
open Clu (bb aX aA chA a7 bh cd bI cQ gj cj cC yN nW)
section
variable {A:ac} {id:Nat} {xs:List Int}
theorem fJ {n:Nat} {g:Bool} {es:List AV} (h:A[id]?=some (.row 1 g es)) {k:Nat} (hk:k<n) (kk:IntKind):au 1 A (.sl id 0 n) (.int kk (k:Int))=some (.ptr id k 0):=by
 simp only [au,h]
 rw [if_pos ⟨trivial,by omega,by omega,by omega⟩]
 simp
theorem jh (h:A[id]?=some (.row 1 false (ax xs))) {k:Nat} (hk:k<xs.length):af false 1 A (.ptr id k 0)=some (.int .i64 (xs.getD k 0)):=by
 have e:(ax xs)[k]?=some (.int .i64 (xs.getD k 0)):=by
  simp [ax,List.getD_eq_getElem?_getD,List.getElem?_eq_getElem hk]
 simp only [af,h,e]
 rfl
theorem lK (h:A[id]?=some (.row 1 false (ax xs))) {k:Nat} (hk:k<xs.length) (v:Int):aE 1 A (.ptr id k 0) (.int .i64 v)=some (A.set id (.row 1 false (ax (xs.set k v)))):=by
 have e:(ax xs)[k]?=some (.int .i64 (xs.getD k 0)):=by
  simp [ax,List.getD_eq_getElem?_getD,List.getElem?_eq_getElem hk]
 have e2:(ax xs).set k (.int .i64 v)=ax (xs.set k v):=by simp [ax,List.map_set]
 simp only [aE,h,e]
 rw [if_pos ⟨trivial,rfl,rfl,by omega⟩]
 simp only [bs,cellsOf]
 rw [<-e2]
 rfl
end
def bY (t:da):AV:=.agg [.int .i64 t.1,.int .i64 t.2]
@[simp] theorem Mo (A:ac) (a b:AV):aa 0 A (.fp [a,b])=some (.fp [a,b]):=rfl
@[simp] theorem Mn (A:ac) (a b:AV):aa 1 A (.fp [a,b])=some (.fp [b]):=rfl
@[simp] theorem L3 (A:ac) (a:AV) (r:List AV):af false 1 A (.fp (a :: r))=some a:=rfl
theorem FD {T:bb} {chv:AV} (hb:SlA 2 (T.ch.map chA) chv) {k:Nat} (hk:k<T.ch.length) (A:ac) (kk:IntKind):au 2 A chv (.int kk (k:Int))=some (.fp [.int .i64 (tmT T k),.int .i64 (syT T k)]):=by
 have:=hb.index (A:=A) (i:=k) (x:=chA (T.ch.getD k (0,0))) (by simp [List.getD_eq_getElem?_getD,List.getElem?_eq_getElem hk]) rfl (by omega) kk
 rw [this]; rfl
def kN:List (FuncId × aD):=[(64,aF 4 M29),(57,aF 4 M30),(65,aF 4 M41),(66,aF 4 M42),(63,fun _=>bA (ai GC []) 0 Cy.r9)]
@[simp] theorem J8:aI kN 64=some (aF 4 M29):=rfl
@[simp] theorem J7:aI kN 57=some (aF 4 M30):=rfl
@[simp] theorem J5:aI kN 65=some (aF 4 M41):=rfl
@[simp] theorem J4:aI kN 66=some (aF 4 M42):=rfl
@[simp] theorem J6:aI kN 63=some (fun _=>bA (ai GC []) 0 Cy.r9):=rfl
theorem Be:∀f M,aI kN f=some M->an Tryz.prog GC f M:=ae (an.of_pure D8 4) (ae (an.of_pure rO 4) (ae (an.of_pure nI 4) (ae (an.of_pure pn 4) (ae Cy.nJ aw))))
def M17:aG:=fun args=>evP (ai GC kN) 300 EQ 4 args
theorem Ed:ak Tryz.prog GC 22 M17:=ak.of_ev (E:=ai GC kN) (aj Be) rfl at17 GW 4 fun _ _ h=>⟨300,h⟩
def Dm:MC:=.seq (.region [⟨none,.fieldAddr 0 (.var 10),none⟩,⟨none,.load false 1 (.tmp 0),none⟩,⟨some 12,.mv (.tmp 1),none⟩]) (.seq (.region [⟨none,.mv (.var 12),none⟩,⟨none,.mv (.var 7),none⟩,⟨none,.lenSl (.tmp 1),none⟩,⟨some 21,.bin .lss (.tmp 0) (.tmp 2),none⟩]) (.cond (.var 21) (.seq (.seq (.region [⟨none,.mv (.var 7),none⟩,⟨none,.mv (.var 12),none⟩,⟨none,.indexSl 1 (.tmp 0) (.tmp 1),none⟩,⟨none,.load false 1 (.tmp 2),none⟩,⟨some 22,.bin .geq (.tmp 3) (.cst (.int .i64 0)),none⟩]) (.cond (.var 22) (.seq (.region [⟨some 5,.mv (.cst (.int .i64 0)),none⟩,⟨some 6,.mv (.cst (.bool false)),none⟩]) .ret) .skip)) (.region [⟨none,.mv (.var 7),none⟩,⟨none,.mv (.var 12),none⟩,⟨none,.mv (.var 9),none⟩,⟨none,.fieldAddr 0 (.var 4),none⟩,⟨none,.load false 1 (.tmp 3),none⟩,⟨none,.mv (.var 12),none⟩,⟨none,.indexSl 2 (.tmp 4) (.tmp 5),none⟩,⟨none,.fieldAddr 0 (.tmp 6),none⟩,⟨none,.load false 1 (.tmp 7),none⟩,⟨none,.bin .add (.tmp 2) (.tmp 8),none⟩,⟨none,.indexSl 1 (.tmp 0) (.tmp 1),none⟩,⟨none,.store 1 (.tmp 10) (.tmp 9),none⟩])) .skip))
def w5:MC:=.seq (.seq (.region [⟨none,.fieldAddr 0 (.var 10),none⟩,⟨none,.load false 1 (.tmp 0),none⟩,⟨none,.bin .sub (.tmp 1) (.cst (.int .i64 1)),none⟩,⟨some 11,.mv (.tmp 2),none⟩]) (.seq (.region [⟨none,.mv (.var 11),none⟩,⟨some 19,.bin .geq (.tmp 0) (.cst (.int .i64 0)),none⟩]) (.cond (.var 19) (.seq (.seq (.region [⟨none,.mv (.var 7),none⟩,⟨none,.mv (.var 11),none⟩,⟨none,.indexSl 1 (.tmp 0) (.tmp 1),none⟩,⟨none,.load false 1 (.tmp 2),none⟩,⟨none,.bin .lss (.tmp 3) (.cst (.int .i64 0)),none⟩,⟨none,.mv (.tmp 4),none⟩,⟨none,.fieldAddr 1 (.var 10),some (.tmp 5,false)⟩,⟨none,.load false 1 (.tmp 6),some (.tmp 5,false)⟩,⟨none,.mv (.var 7),some (.tmp 5,false)⟩,⟨none,.mv (.var 11),some (.tmp 5,false)⟩,⟨none,.indexSl 1 (.tmp 8) (.tmp 9),some (.tmp 5,false)⟩,⟨none,.load false 1 (.tmp 10),some (.tmp 5,false)⟩,⟨none,.mv (.var 7),some (.tmp 5,false)⟩,⟨none,.mv (.var 11),some (.tmp 5,false)⟩,⟨none,.indexSl 1 (.tmp 12) (.tmp 13),some (.tmp 5,false)⟩,⟨none,.load false 1 (.tmp 14),some (.tmp 5,false)⟩,⟨none,.fieldAddr 0 (.var 4),some (.tmp 5,false)⟩,⟨none,.load false 1 (.tmp 16),some (.tmp 5,false)⟩,⟨none,.mv (.var 11),some (.tmp 5,false)⟩,⟨none,.indexSl 2 (.tmp 17) (.tmp 18),some (.tmp 5,false)⟩,⟨none,.fieldAddr 1 (.tmp 19),some (.tmp 5,false)⟩,⟨none,.load false 1 (.tmp 20),some (.tmp 5,false)⟩,⟨none,.bin .add (.tmp 15) (.tmp 21),some (.tmp 5,false)⟩,⟨none,.call (.fn 57) [.tmp 7,.tmp 11,.tmp 22],some (.tmp 5,false)⟩,⟨none,.un .not (.tmp 23),some (.tmp 5,false)⟩,⟨some 20,.pick (.tmp 5) (.cst (.bool true)) (.tmp 24),none⟩]) (.cond (.var 20) (.seq (.region [⟨some 5,.mv (.cst (.int .i64 0)),none⟩,⟨some 6,.mv (.cst (.bool false)),none⟩]) .ret) .skip)) (.region [⟨none,.mv (.var 7),none⟩,⟨none,.mv (.var 11),none⟩,⟨none,.indexSl 1 (.tmp 0) (.tmp 1),none⟩,⟨none,.store 1 (.tmp 2) (.cst (.int .i64 (-1))),none⟩])) .skip))) Dm
theorem ta:gf=.seq (.region [⟨some 17,.bin .lss (.var 16) (.var 15),none⟩]) (.seq (.cond (.var 17) .skip (.exit 0)) (.seq (.seq (.block 1 (.seq (.region [⟨none,.indexSl 2 (.var 14) (.var 16),none⟩,⟨none,.load true 2 (.tmp 0),none⟩,⟨some 10,.alloc 2 (.agg [.int .i64 0,.int .i64 0]),none⟩,⟨none,.store 2 (.var 10) (.tmp 1),none⟩]) (.seq (.seq (.region [⟨none,.fieldAddr 0 (.var 10),none⟩,⟨none,.load false 1 (.tmp 0),none⟩,⟨none,.mv (.var 7),none⟩,⟨none,.lenSl (.tmp 2),none⟩,⟨none,.call (.fn 57) [.tmp 1,.cst (.int .i64 0),.tmp 3],none⟩,⟨none,.un .not (.tmp 4),none⟩,⟨none,.mv (.tmp 5),none⟩,⟨none,.fieldAddr 1 (.var 10),some (.tmp 6,false)⟩,⟨none,.load false 1 (.tmp 7),some (.tmp 6,false)⟩,⟨none,.mv (.var 9),some (.tmp 6,false)⟩,⟨none,.load true 5 (.var 4),some (.tmp 6,false)⟩,⟨none,.mv (.var 8),some (.tmp 6,false)⟩,⟨none,.fieldAddr 0 (.var 10),some (.tmp 6,false)⟩,⟨none,.load false 1 (.tmp 12),some (.tmp 6,false)⟩,⟨none,.call (.fn 65) [.tmp 10,.tmp 11,.tmp 13],some (.tmp 6,false)⟩,⟨none,.bin .add (.tmp 9) (.tmp 14),some (.tmp 6,false)⟩,⟨none,.call (.fn 57) [.tmp 8,.tmp 15,.cst (.int .i64 1000000000)],some (.tmp 6,false)⟩,⟨none,.un .not (.tmp 16),some (.tmp 6,false)⟩,⟨some 18,.pick (.tmp 6) (.cst (.bool true)) (.tmp 17),none⟩]) (.cond (.var 18) (.seq (.region [⟨some 5,.mv (.cst (.int .i64 0)),none⟩,⟨some 6,.mv (.cst (.bool false)),none⟩]) .ret) .skip)) (.seq (.region [⟨none,.fieldAddr 0 (.var 10),none⟩,⟨none,.load false 1 (.tmp 0),none⟩,⟨none,.fieldAddr 1 (.var 10),none⟩,⟨none,.load false 1 (.tmp 2),none⟩,⟨none,.load true 5 (.var 4),none⟩,⟨none,.call (.fn 66) [.tmp 4],none⟩,⟨none,.bin .add (.tmp 3) (.tmp 5),none⟩,⟨some 8,.mv (.tmp 1),none⟩,⟨some 9,.mv (.tmp 6),none⟩]) w5)))) (.kill [0,1,2,3,5,6,10,11,12,13,17,18,19,20,21,22])) (.region [⟨none,.bin .add (.var 16) (.cst (.int .i64 1)),none⟩,⟨some 16,.mv (.tmp 0),none⟩]))):=rfl
structure A17 (A:ac) (T:bb) (chv:AV) (inn:List Int):Prop where
 t:A[0]?=some (.row 5 false [aA T chv])
 r:A[2]?=some (.row 1 false (ax inn))
 l:2<A.length
theorem A17.set {A:ac} {T:bb} {chv:AV} {inn:List Int} (h:A17 A T chv inn) (inn':List Int):A17 (A.set 2 (.row 1 false (ax inn'))) T chv inn':=
 ⟨by rw [List.getElem?_set_ne (by omega)]; exact h.t,by rw [List.getElem?_set_self h.l],by rw [List.length_set]; exact h.l⟩
theorem A17.tool {A:ac} {T:bb} {chv:AV} {inn:List Int} (h:A17 A T chv inn) (hb:SlA 2 (T.ch.map chA) chv):af true 5 A (.ptr 0 0 0)=some (aA T chv)/\aa 0 A (.ptr 0 0 0)=some (.ptr 0 0 0)/\af false 1 A (.ptr 0 0 0)=some chv:=by
 have h1:∀B:ac,B[0]?=A[0]?->af true 5 B (.ptr 0 0 0)=af true 5 A (.ptr 0 0 0):=fun B e=>by simp only [af,e]
 refine ⟨?_,?_,?_⟩
 ·simp only [af,h.t]; rfl
 ·simp only [aa,h.t]; rfl
 ·simp only [af,h.t]
  rcases hb with ⟨rfl,_⟩ | rfl <;> rfl
theorem qE {A:ac} {p:Nat} {t:da} (h:A[p]?=some (.row 2 false [bY t])):aa 0 A (.ptr p 0 0)=some (.ptr p 0 0)/\aa 1 A (.ptr p 0 0)=some (.ptr p 0 1)/\af false 1 A (.ptr p 0 0)=some (.int .i64 t.1)/\af false 1 A (.ptr p 0 1)=some (.int .i64 t.2):=by
 refine ⟨?_,?_,?_,?_⟩
 ·simp only [aa,h]; rfl
 ·simp only [aa,h]; rfl
 ·simp only [af,h]; rfl
 ·simp only [af,h]; rfl
abbrev s17 (n:Nat) (last fin:Int) (lv:AV) (m i:Nat):List AV:=pm (.ptr 0 0 0) (.sl 2 0 n) (.int .i64 last) (.int .i64 fin) lv (.int .i64 (m:Int)) (.int .i64 (i:Int))
section
variable {T:bb} {chv:AV} {A:ac} {inn:List Int} {n p:Nat} {tn ts:Int}
theorem Iv (hb:SlA 2 (T.ch.map chA) chv) (hv:aX T) (hA:A17 A T chv inn) (hn:inn.length=T.ch.length) (hnn:n=T.ch.length) (hp:A[p]?=some (.row 2 false [bY (tn,ts)])) (h0:0<=tn) (hts:0<=ts/\ts<=1000000000)
  (v0 v1 v2 v3 v5 v6 v8 v11 v12 v13 v14 v15 v16 v17 v18 v19 v20 v21 v22:AV) :
  match qY T inn (tn,ts) with
  | some inn2=>∃e12 e21 e22 B,(∀K,run (ai GC kN) 300 (.code Dm :: K) [v0,v1,v2,v3,.ptr 0 0 0,v5,v6,.sl 2 0 n,v8,.int .i64 (ts+wT T),.ptr p 0 0,v11,v12,v13,v14,v15,v16,v17,v18,v19,v20,v21,v22] A =
    run (ai GC kN) 300 K [v0,v1,v2,v3,.ptr 0 0 0,v5,v6,.sl 2 0 n,v8,.int .i64 (ts+wT T),.ptr p 0 0,v11,e12,v13,v14,v15,v16,v17,v18,v19,v20,e21,e22] B)/\A17 B T chv inn2
  | none=>∃ σ B,(∀K,run (ai GC kN) 300 (.code Dm :: K) [v0,v1,v2,v3,.ptr 0 0 0,v5,v6,.sl 2 0 n,v8,.int .i64 (ts+wT T),.ptr p 0 0,v11,v12,v13,v14,v15,v16,v17,v18,v19,v20,v21,v22] A=some (.ret σ B))/\σ[5]?=some (.int .i64 0)/\σ[6]?=some (.bool false):=by
 obtain ⟨f0,_,l0,_⟩:=qE hp
 simp only at l0
 obtain ⟨_,g0,g1⟩:=hA.tool hb
 have hw:=eY hv
 have ln:ay (.sl 2 0 n)=some (.int .i64 (n:Int)):=rfl
 have b1:=cC tn (n:Int)
 unfold qY
 simp only
 by_cases h1:tn<(inn.length:Int)
 rotate_left
 ·rw [if_neg h1]
  rw [decide_eq_false (by omega)] at b1
  refine ⟨.int .i64 tn,.bool false,v22,A,fun K=>?_,hA⟩
  generalize (n:Int)=N at *
  simp [Dm,f0,l0,ln,b1,-aq,-af,-aa,-ay]
 rw [if_pos h1]
 rw [decide_eq_true (by omega)] at b1
 obtain ⟨t,rfl⟩:∃t:Nat,tn=(t:Int):=⟨tn.toNat,by omega⟩
 rw [Int.toNat_natCast]
 have i1:=fJ hA.r (n:=n) (k:=t) (by omega) .i64
 have d1:=jh hA.r (k:=t) (by omega)
 have b2:=Cy.iR (inn.getD t 0)
 have hc:=FD hb (k:=t) (by omega) A .i64
 have htm:=lg hv t
 have b3:aq .add (.int .i64 (ts+wT T)) (.int .i64 (tmT T t))=some (.int .i64 (ts+wT T+tmT T t)):=bh (by omega)
 have s1:=lK hA.r (k:=t) (by omega) (ts+wT T+tmT T t)
 obtain ⟨I,hI⟩:∃I,I=inn.getD t 0:=⟨_,rfl⟩
 rw [<-hI] at d1 b2 ⊢
 obtain ⟨E,hE⟩:∃E,E=ts+wT T+tmT T t:=⟨_,rfl⟩
 rw [<-hE] at b3 s1 ⊢
 by_cases h2:0<=I
 ·rw [if_pos h2]
  rw [decide_eq_true h2] at b2
  refine ⟨[v0,v1,v2,v3,.ptr 0 0 0,.int .i64 0,.bool false,.sl 2 0 n,v8,.int .i64 (ts+wT T),.ptr p 0 0,v11,.int .i64 (t:Int),v13,v14,v15,v16,v17,v18,v19,v20,.bool true,.bool true],A,fun K=>?_,rfl,rfl⟩
  generalize (n:Int)=N at *
  generalize (t:Int)=TT at *
  simp [Dm,f0,l0,ln,b1,i1,d1,b2,-aq,-af,-aa,-ay,-au]
 ·rw [if_neg h2]
  rw [decide_eq_false h2] at b2
  refine ⟨.int .i64 (t:Int),.bool true,.bool false,A.set 2 (.row 1 false (ax (inn.set t E))),fun K=>?_,hA.set _⟩
  generalize (n:Int)=N at *
  generalize (t:Int)=TT at *
  simp [Dm,f0,l0,ln,b1,i1,d1,b2,b3,g0,g1,hc,s1,-aq,-af,-aa,-ay,-au,-aE]
theorem ID (hb:SlA 2 (T.ch.map chA) chv) (hv:aX T) (hA:A17 A T chv inn) (hn:inn.length=T.ch.length) (hnn:n=T.ch.length) (hp:A[p]?=some (.row 2 false [bY (tn,ts)])) (hp2:p≠2) (h0:0<=tn/\tn<=inn.length) (hts:0<=ts/\ts<=1000000000) (hin:∀z∈inn,-1<=z/\z<=3000000000)
  (v0 v1 v2 v3 v5 v6 v8 v11 v12 v13 v14 v15 v16 v17 v18 v19 v20 v21 v22:AV) :
  match (iT T inn (tn,ts)).bind fun a=>qY T a (tn,ts) with
  | some inn2=>∃e11 e12 e19 e20 e21 e22 B,(∀K,run (ai GC kN) 300 (.code w5 :: K) [v0,v1,v2,v3,.ptr 0 0 0,v5,v6,.sl 2 0 n,v8,.int .i64 (ts+wT T),.ptr p 0 0,v11,v12,v13,v14,v15,v16,v17,v18,v19,v20,v21,v22] A =
    run (ai GC kN) 300 K [v0,v1,v2,v3,.ptr 0 0 0,v5,v6,.sl 2 0 n,v8,.int .i64 (ts+wT T),.ptr p 0 0,e11,e12,v13,v14,v15,v16,v17,v18,e19,e20,e21,e22] B)/\A17 B T chv inn2
  | none=>∃ σ B,(∀K,run (ai GC kN) 300 (.code w5 :: K) [v0,v1,v2,v3,.ptr 0 0 0,v5,v6,.sl 2 0 n,v8,.int .i64 (ts+wT T),.ptr p 0 0,v11,v12,v13,v14,v15,v16,v17,v18,v19,v20,v21,v22] A=some (.ret σ B))/\σ[5]?=some (.int .i64 0)/\σ[6]?=some (.bool false):=by
 obtain ⟨f0,f1,l0,l1⟩:=qE hp
 simp only at l0 l1
 obtain ⟨_,g0,g1⟩:=hA.tool hb
 have hn4:=hv.2.2.2.1
 have b1:aq .sub (.int .i64 tn) (.int .i64 1)=some (.int .i64 (tn-1)):=cd (by omega)
 have b2:=Cy.iR (tn-1)
 have key:∀(inn1:List Int) (B:ac) (e11 e19 e20:AV),A17 B T chv inn1->inn1.length=T.ch.length->B[p]?=some (.row 2 false [bY (tn,ts)]) ->
   (∀K,run (ai GC kN) 300 (.code w5 :: K) [v0,v1,v2,v3,.ptr 0 0 0,v5,v6,.sl 2 0 n,v8,.int .i64 (ts+wT T),.ptr p 0 0,v11,v12,v13,v14,v15,v16,v17,v18,v19,v20,v21,v22] A =
    run (ai GC kN) 300 (.code Dm :: K) [v0,v1,v2,v3,.ptr 0 0 0,v5,v6,.sl 2 0 n,v8,.int .i64 (ts+wT T),.ptr p 0 0,e11,v12,v13,v14,v15,v16,v17,v18,e19,e20,v21,v22] B) ->
   match (some inn1).bind fun a=>qY T a (tn,ts) with
   | some inn2=>∃e11 e12 e19 e20 e21 e22 B,(∀K,run (ai GC kN) 300 (.code w5 :: K) [v0,v1,v2,v3,.ptr 0 0 0,v5,v6,.sl 2 0 n,v8,.int .i64 (ts+wT T),.ptr p 0 0,v11,v12,v13,v14,v15,v16,v17,v18,v19,v20,v21,v22] A =
     run (ai GC kN) 300 K [v0,v1,v2,v3,.ptr 0 0 0,v5,v6,.sl 2 0 n,v8,.int .i64 (ts+wT T),.ptr p 0 0,e11,e12,v13,v14,v15,v16,v17,v18,e19,e20,e21,e22] B)/\A17 B T chv inn2
   | none=>∃ σ B,(∀K,run (ai GC kN) 300 (.code w5 :: K) [v0,v1,v2,v3,.ptr 0 0 0,v5,v6,.sl 2 0 n,v8,.int .i64 (ts+wT T),.ptr p 0 0,v11,v12,v13,v14,v15,v16,v17,v18,v19,v20,v21,v22] A=some (.ret σ B))/\σ[5]?=some (.int .i64 0)/\σ[6]?=some (.bool false):=by
  intro inn1 B e11 e19 e20 hA1 hn1 hp1 hrun
  have h:=Iv hb hv hA1 hn1 hnn hp1 h0.1 hts v0 v1 v2 v3 v5 v6 v8 e11 v12 v13 v14 v15 v16 v17 v18 e19 e20 v21 v22
  rw [Option.bind_some]
  cases hput:qY T inn1 (tn,ts) with
  | none=>
   rw [hput] at h
   obtain ⟨σ,B',h1,h2⟩:=h
   exact ⟨σ,B',fun K=>by rw [hrun,h1],h2⟩
  | some inn2=>
   rw [hput] at h
   obtain ⟨e12,e21,e22,B',h1,h2⟩:=h
   exact ⟨e11,e12,e19,e20,e21,e22,B',fun K=>by rw [hrun,h1],h2⟩
 unfold iT
 simp only
 by_cases h1:1<=tn
 rotate_left
 ·rw [if_neg h1]
  rw [decide_eq_false (by omega)] at b2
  refine key inn A (.int .i64 (tn-1)) (.bool false) v20 hA hn hp fun K=>?_
  generalize tn-1=T1 at *
  simp [w5,f0,l0,b1,b2,-aq,-af,-aa,-ay]
 rw [if_pos h1]
 rw [decide_eq_true (by omega)] at b2
 obtain ⟨k,hk⟩:∃k:Nat,tn-1=(k:Int):=⟨(tn-1).toNat,by omega⟩
 rw [hk,Int.toNat_natCast]
 rw [hk] at b1 b2
 have i1:=fJ hA.r (n:=n) (k:=k) (by omega) .i64
 have d1:=jh hA.r (k:=k) (by omega)
 have b3:=cC (inn.getD k 0) 0
 have hc:=FD hb (k:=k) (by omega) A .i64
 have hch:=lg hv k
 have hI : -1<=inn.getD k 0/\inn.getD k 0<=3000000000:=by
  rw [List.getD_eq_getElem?_getD,List.getElem?_eq_getElem (show k<inn.length by omega)]
  exact hin _ (List.getElem_mem _)
 have b4:aq .add (.int .i64 (inn.getD k 0)) (.int .i64 (syT T k))=some (.int .i64 (inn.getD k 0+syT T k)):=bh (by omega)
 have m1:=fK ts (inn.getD k 0) (inn.getD k 0+syT T k)
 have s1:=lK hA.r (k:=k) (by omega) (-1)
 have hA1:=hA.set (inn.set k (-1))
 have hp1:(A.set 2 (.row 1 false (ax (inn.set k (-1)))))[p]?=some (.row 2 false [bY (tn,ts)]):=by rw [List.getElem?_set_ne (Ne.symm hp2)]; exact hp
 have key1:=key (inn.set k (-1)) (A.set 2 (.row 1 false (ax (inn.set k (-1))))) (.int .i64 (k:Int)) (.bool true) (.bool false) hA1 (by simp [hn]) hp1
 obtain ⟨A1,hAe⟩:∃X,X=A.set 2 (.row 1 false (ax (inn.set k (-1)))):=⟨_,rfl⟩
 rw [<-hAe] at s1 key1
 obtain ⟨I,hIe⟩:∃I,I=inn.getD k 0:=⟨_,rfl⟩
 rw [<-hIe] at d1 b3 b4 m1 hI ⊢
 obtain ⟨E,hE⟩:∃E,E=I+syT T k:=⟨_,rfl⟩
 rw [<-hE] at b4 m1 ⊢
 by_cases h2:0<=I
 rotate_left
 ·rw [if_neg (fun h=>h2 h.1)]
  rw [decide_eq_true (by omega)] at b3
  refine ⟨[v0,v1,v2,v3,.ptr 0 0 0,.int .i64 0,.bool false,.sl 2 0 n,v8,.int .i64 (ts+wT T),.ptr p 0 0,.int .i64 (k:Int),v12,v13,v14,v15,v16,v17,v18,.bool true,.bool true,v21,v22],A,fun K=>?_,rfl,rfl⟩
  generalize (k:Int)=KK at *
  simp [w5,f0,l0,i1,d1,b1,b2,b3,-aq,-af,-aa,-ay,-au]
 rw [decide_eq_false (by omega)] at b3
 by_cases h3:I<=ts/\ts<=E
 rotate_left
 ·rw [if_neg (fun h=>h3 h.2)]
  have mb:ob ts I E=false:=by
   cases e:ob ts I E
   ·rfl
   ·exact absurd (ey.1 e) h3
  rw [mb] at m1
  refine ⟨[v0,v1,v2,v3,.ptr 0 0 0,.int .i64 0,.bool false,.sl 2 0 n,v8,.int .i64 (ts+wT T),.ptr p 0 0,.int .i64 (k:Int),v12,v13,v14,v15,v16,v17,v18,.bool true,.bool true,v21,v22],A,fun K=>?_,rfl,rfl⟩
  generalize (k:Int)=KK at *
  simp [w5,f0,f1,l0,l1,g0,g1,hc,i1,d1,b1,b2,b3,b4,m1,-fK,-aq,-af,-aa,-ay,-au]
 ·rw [if_pos ⟨h2,h3⟩]
  rw [ey.2 h3] at m1
  refine key1 fun K=>?_
  generalize (k:Int)=KK at *
  simp [w5,f0,f1,l0,l1,g0,g1,hc,i1,d1,b1,b2,b3,b4,m1,s1,-fK,-aq,-af,-aa,-ay,-au,-aE]
end
structure OkS (T:bb) (x:St):Prop where
 n:x.inn.length=T.ch.length
 la : -1000<=x.last/\x.last<=1000
 fi:0<=x.fin/\x.fin<=2000000000
 inn:∀z∈x.inn,-1<=z/\z<=3000000000
theorem OkS.step {T:bb} (hv:aX T) {x y:St} (h:OkS T x) {t:da} (hs:eD T x t=some y):OkS T y:=by
 have hw:=eY hv
 have hn4:=hv.2.2.2.1
 unfold eD at hs
 split at hs
 ·rename_i hc
  obtain ⟨⟨c1,c2⟩,c3,c4⟩:=hc
  have hbt:=jA hv x.last t.1
  cases h1:iT T x.inn t with
  | none=>rw [h1] at hs; cases hs
  | some a=>
   rw [h1,Option.bind_some] at hs
   cases h2:qY T a t with
   | none=>rw [h2] at hs; cases hs
   | some b=>
    rw [h2] at hs
    injection hs with hs
    subst hs
    have ha:a.length=T.ch.length/\∀z∈a,-1<=z/\z<=3000000000:=by
     unfold iT at h1
     split at h1
     ·split at h1
      ·injection h1 with h1; subst h1
       refine ⟨by simp [h.n],fun z hz=>?_⟩
       rcases List.mem_or_eq_of_mem_set hz with hz | rfl
       ·exact h.inn z hz
       ·omega
      ·cases h1
     ·injection h1 with h1; subst h1
      exact ⟨h.n,h.inn⟩
    have hb:b.length=T.ch.length/\∀z∈b,-1<=z/\z<=3000000000:=by
     have htm:=lg hv t.1.toNat
     have:=h.fi
     unfold qY at h2
     split at h2
     ·split at h2
      ·cases h2
      ·injection h2 with h2; subst h2
       refine ⟨by simp [ha.1],fun z hz=>?_⟩
       rcases List.mem_or_eq_of_mem_set hz with hz | rfl
       ·exact ha.2 z hz
       ·omega
     ·injection h2 with h2; subst h2
      exact ha
    have:=h.n
    have:=h.fi
    exact ⟨hb.1,by simp only; omega,by simp only; omega,hb.2⟩
 ·cases hs
theorem Bs {T:bb} {chv:AV} (hb:SlA 2 (T.ch.map chA) chv) (hv:aX T) {lv:AV} {l:List da} (hlv:SlA 2 (l.map bY) lv) {A:ac} {x:St} (hA:A17 A T chv x.inn) (hx:OkS T x) {i:Nat} (hi:i<l.length) (hil:l.length<=200) :
  match eD T x l[i] with
  | some y=>∃B,run (ai GC kN) 300 [.code gf] (s17 T.ch.length x.last x.fin lv l.length i) A=some (.normal (s17 T.ch.length y.last y.fin lv l.length (i+1)) B)/\A17 B T chv y.inn
  | none=>∃ σ B,run (ai GC kN) 300 [.code gf] (s17 T.ch.length x.last x.fin lv l.length i) A=some (.ret σ B)/\σ[5]?=some (.int .i64 0)/\σ[6]?=some (.bool false):=by
 obtain ⟨inn,last,fin⟩:=x
 obtain ⟨hn,hlast,hfin,hin⟩:=hx
 simp only at hA hn hlast hfin hin ⊢
 have hw:=eY hv
 have hn4:=hv.2.2.2.1
 have ft:=fun A=>a7 (T:=T) (fun A n=>hb.frz (A:=A) n) A 3
 have x1:=hlv.index (A:=A) (i:=i) (x:=bY l[i]) (by simp [hi]) rfl (by omega) .i64
 have b0:=bw i l.length .i64
 rw [decide_eq_true hi] at b0
 have b9:=aY i (by omega)
 obtain ⟨⟨tn,ts⟩,hti⟩:∃t,t=l[i]:=⟨_,rfl⟩
 rw [<-hti] at x1 ⊢
 have x1:au 2 A lv (.int .i64 (i:Int))=some (.fp [.int .i64 tn,.int .i64 ts]):=x1
 obtain ⟨B,hB⟩:∃B,B=A++[Ent.row 2 false [bY (tn,ts)]]:=⟨_,rfl⟩
 have s0:aE 2 (A++[.row 2 false [.agg [.int .i64 0,.int .i64 0]]]) (.ptr A.length 0 0) (.agg [.int .i64 tn,.int .i64 ts])=some B:=by
  rw [hB]
  simp only [aE,List.getElem?_concat_length,List.getElem?_cons_zero]
  rw [if_pos ⟨trivial,rfl,rfl,by omega⟩]
  simp [bs,cellsOf,bY]
 have hAB:A17 B T chv inn:=by
  have hl:=hA.l
  rw [hB]
  exact ⟨by rw [List.getElem?_append_left (by omega)]; exact hA.t,by rw [List.getElem?_append_left (by omega)]; exact hA.r,by simp; omega⟩
 have hp:B[A.length]?=some (.row 2 false [bY (tn,ts)]):=by rw [hB]; simp
 have hp2:A.length≠2:=by have:=hA.l; omega
 obtain ⟨f0,f1,l0,l1⟩:=qE hp
 simp only at l0 l1
 obtain ⟨lt,g0,g1⟩:=hAB.tool hb
 have ln:ay (.sl 2 0 T.ch.length)=some (.int .i64 (T.ch.length:Int)):=rfl
 have m1:=fK tn 0 (T.ch.length:Int)
 have m2:=wL (T:=T) chv last tn hlast
 have hbt:=jA hv last tn
 have b1:aq .add (.int .i64 fin) (.int .i64 (btw T last tn))=some (.int .i64 (fin+btw T last tn)):=bh (by omega)
 have m3:=fK ts (fin+btw T last tn) 1000000000
 have m4:=wK (T:=T) chv hv
 generalize hp0:A.length=p at *
 rw [ta]
 obtain ⟨t,ht⟩:∃t,t=aA T chv:=⟨_,rfl⟩
 rw [<-ht] at ft lt m2 m4
 unfold eD
 simp only
 by_cases c1:0<=tn/\tn<=(inn.length:Int)
 rotate_left
 ·rw [if_neg (fun h=>c1 h.1)]
  have mb:ob tn 0 (T.ch.length:Int)=false:=by
   cases e:ob tn 0 (T.ch.length:Int)
   ·rfl
   ·exact absurd (ey.1 e) (by rw [hn] at c1; exact c1)
  rw [mb] at m1
  refine ⟨[.undef,.undef,.undef,.undef,.ptr 0 0 0,.int .i64 0,.bool false,.sl 2 0 T.ch.length,.int .i64 last,.int .i64 fin,.ptr p 0 0,.undef,.undef,.undef,lv,.int .i64 (l.length:Int),.int .i64 (i:Int),.bool true,.bool true,.undef,.undef,.undef,.undef],B,?_,rfl,rfl⟩
  generalize (T.ch.length:Int)=N at *
  simp [x1,b0,s0,f0,l0,ln,m1,nW,hp0,-fK,-aq,-af,-aa,-ay,-au,-aE]
 have mb1:ob tn 0 (T.ch.length:Int)=true:=ey.2 (by rw [hn] at c1; exact c1)
 rw [mb1] at m1
 by_cases c2:fin+btw T last tn<=ts/\ts<=1000000000
 rotate_left
 ·rw [if_neg (fun h=>c2 h.2)]
  have mb:ob ts (fin+btw T last tn) 1000000000=false:=by
   cases e:ob ts (fin+btw T last tn) 1000000000
   ·rfl
   ·exact absurd (ey.1 e) c2
  rw [mb] at m3
  refine ⟨[.undef,.undef,.undef,.undef,.ptr 0 0 0,.int .i64 0,.bool false,.sl 2 0 T.ch.length,.int .i64 last,.int .i64 fin,.ptr p 0 0,.undef,.undef,.undef,lv,.int .i64 (l.length:Int),.int .i64 (i:Int),.bool true,.bool true,.undef,.undef,.undef,.undef],B,?_,rfl,rfl⟩
  generalize (T.ch.length:Int)=N at *
  generalize btw T last tn=BT at *
  simp [x1,b0,s0,f0,f1,l0,l1,lt,ft,ln,m1,m2,m3,b1,nW,hp0,-fK,-aq,-af,-aa,-ay,-au,-aE]
 have mb2:ob ts (fin+btw T last tn) 1000000000=true:=ey.2 c2
 rw [mb2] at m3
 rw [if_pos ⟨c1,c2⟩]
 have b2:aq .add (.int .i64 ts) (.int .i64 (wT T))=some (.int .i64 (ts+wT T)):=bh (by omega)
 have hmid:=ID (n:=T.ch.length) hb hv hAB hn rfl hp hp2 c1 (by omega) hin .undef .undef .undef .undef .undef .undef (.int .i64 tn) .undef .undef .undef lv (.int .i64 (l.length:Int)) (.int .i64 (i:Int)) (.bool true) (.bool false) .undef .undef .undef .undef
 cases hput:(iT T inn (tn,ts)).bind fun a=>qY T a (tn,ts) with
 | none=>
  have e:((iT T inn (tn,ts)).bind fun a=>(qY T a (tn,ts)).map fun b=>(⟨b,tn,ts+wT T⟩:St))=none:=by
   cases h1:iT T inn (tn,ts) with
   | none=>rfl
   | some a=>
    rw [h1,Option.bind_some] at hput
    rw [Option.bind_some,hput]; rfl
  rw [e]
  rw [hput] at hmid
  obtain ⟨σ,B',h1,h2⟩:=hmid
  refine ⟨σ,B',?_,h2⟩
  generalize hN:(T.ch.length:Int)=N at *
  generalize btw T last tn=BT at *
  generalize ts+wT T=EE at *
  simp [x1,b0,s0,f0,f1,l0,l1,lt,ft,ln,m1,m2,m3,m4,b1,b2,nW,hp0,h1,-fK,-aq,-af,-aa,-ay,-au,-aE]
 | some inn2=>
  have e:((iT T inn (tn,ts)).bind fun a=>(qY T a (tn,ts)).map fun b=>(⟨b,tn,ts+wT T⟩:St))=some ⟨inn2,tn,ts+wT T⟩:=by
   cases h1:iT T inn (tn,ts) with
   | none=>rw [h1] at hput; cases hput
   | some a=>
    rw [h1,Option.bind_some] at hput
    rw [Option.bind_some,hput]; rfl
  rw [e]
  rw [hput] at hmid
  obtain ⟨e11,e12,e19,e20,e21,e22,B',h1,h2⟩:=hmid
  refine ⟨B',?_,h2⟩
  simp only
  generalize hN:(T.ch.length:Int)=N at *
  generalize btw T last tn=BT at *
  generalize ts+wT T=EE at *
  obtain ⟨i1,hi1⟩:∃i1:Nat,i1=i+1:=⟨_,rfl⟩
  rw [<-hi1] at b9 ⊢
  simp [x1,b0,b9,s0,f0,f1,l0,l1,lt,ft,ln,m1,m2,m3,m4,b1,b2,nW,hp0,h1,-fK,-aq,-af,-aa,-ay,-au,-aE]
theorem Fw {T:bb} {chv:AV} (hb:SlA 2 (T.ch.map chA) chv) (hv:aX T) {lv:AV} {l:List da} (hlv:SlA 2 (l.map bY) lv) (hil:l.length<=200):∀(c i:Nat) (A:ac) (x:St) (m:Nat),i+c=l.length->A17 A T chv x.inn->OkS T x->c<m ->
  match tC T x (l.drop i) with
  | some y=>∃B,bM (evC (ai GC kN) 300 gf) fh m (s17 T.ch.length x.last x.fin lv l.length i) A=some (.exit 0 ((s17 T.ch.length y.last y.fin lv l.length l.length).set 17 (.bool false)) B)
  | none=>∃ σ B,bM (evC (ai GC kN) 300 gf) fh m (s17 T.ch.length x.last x.fin lv l.length i) A=some (.ret σ B)/\σ[5]?=some (.int .i64 0)/\σ[6]?=some (.bool false):=by
 intro c
 induction c with
 | zero=>
  intro i A x m hi hA hx hm
  obtain ⟨m,rfl⟩:∃j,m=j+1:=⟨m-1,by omega⟩
  obtain rfl:i=l.length:=by omega
  rw [List.drop_length]
  simp only [tC]
  refine ⟨A,?_⟩
  have b0:=bw l.length l.length .i64
  rw [decide_eq_false (by omega)] at b0
  rw [aK,wg]
  simp [gf,b0,-aq]
 | succ c ih=>
  intro i A x m hi hA hx hm
  obtain ⟨m,rfl⟩:∃j,m=j+1:=⟨m-1,by omega⟩
  have hil':i<l.length:=by omega
  rw [List.drop_eq_getElem_cons hil']
  simp only [tC]
  have hr:=Bs hb hv hlv hA hx hil' hil
  rw [aK,wg]
  cases hs:eD T x l[i] with
  | none=>
   rw [hs] at hr
   obtain ⟨σ,B,h1,h2⟩:=hr
   rw [Option.bind_none,h1]
   exact ⟨σ,B,rfl,h2⟩
  | some y=>
   rw [hs] at hr
   obtain ⟨B,h1,h2⟩:=hr
   rw [Option.bind_some,h1]
   exact ih (i+1) B y m (by omega) h2 (hx.step hv hs) (by omega)
theorem vq (A:ac) (z:Int) (b:Bool):frz A 4 (.tup [.int .i64 z,.bool b])=.tup [.int .i64 z,.bool b]:=rfl
def H6 (r:Option Int):AV:=.tup [.int .i64 (r.getD 0),.bool r.isSome]
theorem Ht {T:bb} {chv rdv:AV} (hb:SlA 2 (T.ch.map chA) chv) (hl:T.ch.length<=200) {rd:List Int} (hr:SlA 1 (ax rd) rdv) (hrl:rd.length<=200) (free:Int) {lv:AV} {l:List da} (hlv:SlA 2 (l.map bY) lv) (hll:l.length<=200):M17 [aA T chv,rdv,.int .i64 free,lv]=some (H6 (DJ T rd free l)):=by
 have m:=Hr hb hl hr hrl free
 have ft:=fun A=>a7 (T:=T) (fun A n=>hb.frz (A:=A) n) A 3
 have fr:∀A n,frz A n rdv=rdv:=fun A n=>hr.frz n
 have bx:bm 5 (aA T chv) []=some (.ptr 0 0 0,[.row 5 false [aA T chv]]):=rfl
 have ct:(cellsOf (aA T chv)).length=5:=rfl
 obtain ⟨A0,hA0⟩:∃A:ac,A=[.row 5 false [aA T chv]]:=⟨_,rfl⟩
 have lt:af true 5 A0 (.ptr 0 0 0)=some (aA T chv):=by rw [hA0]; rfl
 have hll2:=hlv.len
 rw [List.length_map] at hll2
 have hA0':=hA0
 obtain ⟨t,ht⟩:∃t,t=aA T chv:=⟨_,rfl⟩
 rw [<-ht] at m ft bx ct lt hA0 ⊢
 rw [<-hA0] at bx
 unfold M17
 rw [aS _ _ rfl]
 unfold DJ
 by_cases hS:Sit T rd free
 rotate_left
 ·rw [decide_eq_false hS] at m
  rw [if_neg hS]
  simp [EQ,m,ft,fr,bx,ct,lt,aT,vq,eH,H6,-bm,-af,-ay,-frz,-cellsOf]
 rw [decide_eq_true hS] at m
 rw [if_pos hS]
 have hv:=hS.1.1
 have hsl:=Bg hS
 have hne:rd≠[]:=by intro e; rw [e] at hsl; simp at hsl
 have hcl:=Cy.Kj (ai GC []) 0 (A:=A0) (a:=rdv) (xs:=rd) (.inl hr) hne (by omega)
 have hA2:A17 (A0++[.dead,.row 1 false (ax rd)]) T chv rd:=by
  rw [hA0']
  exact ⟨rfl,rfl,by simp⟩
 have hx:OkS T (st0 rd free):=⟨hS.2.1,by simp [st0],by have:=hS.2.2.1; simp only [st0]; omega,fun z hz=>by have:=hS.2.2.2 z hz; omega⟩
 have hlp:=Fw hb hv hlv hll l.length 0 _ (st0 rd free) 300 (by omega) hA2 hx (by omega)
 have hA0l:A0.length=1:=by rw [hA0]; rfl
 rw [hA0l] at hcl
 generalize hA1:A0++[.dead,.row 1 false (ax rd)]=A1 at *
 rw [List.drop_zero] at hlp
 rw [hS.2.1] at hcl
 cases hc:tC T (st0 rd free) l with
 | some y=>
  rw [hc] at hlp
  obtain ⟨B,hlp⟩:=hlp
  simp only [st0] at hlp
  have hlp:bM (evC (ai GC kN) 300 gf) fh 300 (pm (.ptr 0 0 0) (.sl 2 0 T.ch.length) (.int .i64 (-2)) (.int .i64 free) lv (.int .i64 (l.length:Int)) (.int .i64 0)) A1=_:=hlp
  simp [EQ,m,ft,fr,bx,ct,lt,hcl,hll2,yY hlp,aT,vq,eH,H6,-bm,-af,-ay,-frz,-cellsOf]
 | none=>
  rw [hc] at hlp
  obtain ⟨σ,B,hlp,h5,h6⟩:=hlp
  simp only [st0] at hlp
  have hlp:bM (evC (ai GC kN) 300 gf) fh 300 (pm (.ptr 0 0 0) (.sl 2 0 T.ch.length) (.int .i64 (-2)) (.int .i64 free) lv (.int .i64 (l.length:Int)) (.int .i64 0)) A1=_:=hlp
  simp [EQ,m,ft,fr,bx,ct,lt,hcl,hll2,yY hlp,h5,h6,aT,vq,eH,H6,-bm,-af,-ay,-frz,-cellsOf]
end Tr
namespace Tr
open Go
open Cy (GC aT bi aH a6 dp lvM lvT)
open Clu (bb aX aA chA a7 bh cd bI cQ gj cj cC yN nW)
theorem sn {A:ac} {id off:Nat} {g:Bool} {es xs:List AV} {e:Nat} (h:A[id]?=some (.row e g es)) (h2:(es.drop off).take xs.length=xs) (hx:∀n,∀x∈xs,frz A (n+1) x=x) (n:Nat):frz A (n+2) (.sl id off xs.length)=.fs e xs:=by
 simp only [frz,h,h2]
 congr 1
 conv=>rhs; rw [<-List.map_id xs]
 exact List.map_congr_left fun x hm=>hx n x hm
section
variable {A:ac} {T:bb} {chv chF tv:AV} {L:List a6} {kvs:List (Int × Int)}
end
end Tr
namespace Tr
open Go
open Cy (GC iR aT bi aH)
open Clu (bb aX aA chA bh cd bI cC cQ)
theorem vp {A:ac} {i:Nat} {g:Bool} {l:List da} (h:A[i]?=some (.row 2 g (l.map bY))):frz A 4 (.sl i 0 l.length)=.fs 2 (l.map bY):=by
 have:=sn (off:=0) (xs:=l.map bY) h (by rw [List.drop_zero,List.take_length]) (fun n x hx=>by
  obtain ⟨c,_,rfl⟩:=List.mem_map.1 hx
  cases n <;> rfl) 2
 rw [List.length_map] at this
 exact this
section
variable {A Z:ac} {T:bb} {chv chF rdv rdF ov:AV} {rd o:List Int} {free:Int}
end
section
variable {A Z:ac} {T:bb} {chv chF rdv rdF ov:AV} {rd o:List Int} {free:Int}
end
end Tr
namespace Tr
open Go
open Cy (GC iR aT bi aH cH)
open Clu (bb aX aA chA be Chk iO isI M64 nH ir a7 bh cd bI cC cQ cj)
def kM:List (FuncId × aD):=[(55,aF 4 M47),(56,aF 4 Clu.M26),(57,aF 4 M30),(58,aF 4 M64)]
@[simp] theorem JG:aI kM 55=some (aF 4 M47):=rfl
@[simp] theorem JF:aI kM 56=some (aF 4 Clu.M26):=rfl
@[simp] theorem JH:aI kM 57=some (aF 4 M30):=rfl
@[simp] theorem JE:aI kM 58=some (aF 4 M64):=rfl
theorem A9:∀f M,aI kM f=some M->an Tryz.prog GC f M:=ae (an.of_pure rL 4) (ae (an.of_pure Clu.Ea 4) (ae (an.of_pure rO 4) (ae (an.of_pure nH 4) aw)))
def inF (o:List Int) (n i:Nat):List Int:=(List.range i).map (fun k=>kF o k)++List.replicate (n+1-i) 0
theorem mC (o:List Int) {n i:Nat} (h:i<=n+1):(inF o n i).length=n+1:=by simp [inF]; omega
theorem mD (o:List Int) {n i k:Nat} (h:k<i):(inF o n i).getD k 0=kF o k:=by
 unfold inF
 rw [List.getD_eq_getElem?_getD,List.getElem?_append_left (by simpa using h)]
 simp [h]
theorem oJ (o:List Int) {n i:Nat} (h:i<=n) (z:Int):((inF o n i).set i z).set i (kF o i)=inF o n (i+1)/\(inF o n i).set i (kF o i)=inF o n (i+1):=by
 have:(inF o n i).set i (kF o i)=inF o n (i+1):=by
  unfold inF
  rw [List.set_append_right _ _ (by simp)]
  simp only [List.length_map,List.length_range,Nat.sub_self]
  rw [show n+1-i=(n-i)+1 by omega,List.replicate_succ,List.set_cons_zero,List.range_succ,List.map_append,List.append_assoc,show n+1-(i+1)=n-i by omega]
  rfl
 exact ⟨by rw [List.set_set]; exact this,this⟩
def A24 (tv sv:AV) (ks:List Int):ac:=[.row 5 false [tv],.row 4 false [sv],.row 1 false (ax ks)]
theorem r24 (tv sv:AV) (ks:List Int) (W:ac):(A24 tv sv ks++W)[0]?=some (.row 5 false [tv])/\(A24 tv sv ks++W)[1]?=some (.row 4 false [sv])/\(A24 tv sv ks++W)[2]?=some (.row 1 false (ax ks)):=⟨rfl,rfl,rfl⟩
def aP (s:be) (ov sv pv:AV):AV:=.agg [.int .i64 s.period,ov,sv,pv]
section
variable {T:bb} {chv:AV} {s:be} {ov sv pv:AV} {free:Int}
theorem Cq (hs:iO s ov sv pv) (ks:List Int) (W:ac) :
  aa 1 (A24 (aA T chv) (aP s ov sv pv) ks++W) (.ptr 1 0 0)=some (.ptr 1 0 1)/\af false 1 (A24 (aA T chv) (aP s ov sv pv) ks++W) (.ptr 1 0 1)=some ov /\
  aa 2 (A24 (aA T chv) (aP s ov sv pv) ks++W) (.ptr 1 0 0)=some (.ptr 1 0 2)/\af false 1 (A24 (aA T chv) (aP s ov sv pv) ks++W) (.ptr 1 0 2)=some sv /\
  aa 0 (A24 (aA T chv) (aP s ov sv pv) ks++W) (.ptr 1 0 0)=some (.ptr 1 0 0)/\af false 1 (A24 (aA T chv) (aP s ov sv pv) ks++W) (.ptr 1 0 0)=some (.int .i64 s.period) /\
  aa 3 (A24 (aA T chv) (aP s ov sv pv) ks++W) (.ptr 0 0 0)=some (.ptr 0 0 3)/\af false 1 (A24 (aA T chv) (aP s ov sv pv) ks++W) (.ptr 0 0 3)=some (.int .i64 T.travel):=by
 refine ⟨rfl,?_,rfl,?_,rfl,rfl,rfl,rfl⟩
 ·rcases hs.o with ⟨rfl,_⟩ | rfl <;> rfl
 ·rcases hs.st with ⟨rfl,_⟩ | rfl <;> rfl
abbrev s24 (free:Int) (n i:Nat):List AV:=pj (.int .i64 free) (.ptr 0 0 0) (.ptr 1 0 0) (.int .i64 (n:Int)) (.sl 2 0 (n+1)) (.int .i64 (i:Int))
theorem qW (hs:iO s ov sv pv) (hol:s.order.length<=200) {n i:Nat} (hn:n<=100) (hi:1<=i) (hin:i<=n) :
  run (ai GC kM) 300 [.code eo] (s24 free n i) (A24 (aA T chv) (aP s ov sv pv) (inF s.order n i))=some (.normal (s24 free n (i+1)) (A24 (aA T chv) (aP s ov sv pv) (inF s.order n (i+1)))):=by
 unfold s24
 obtain ⟨k,rfl⟩:∃k,i=k+1:=⟨i-1,by omega⟩
 have hg:=fun ks=>Cq (T:=T) (chv:=chv) hs ks []
 simp only [List.append_nil] at hg
 have hr:∀ks,(A24 (aA T chv) (aP s ov sv pv) ks)[2]?=some (.row 1 false (ax ks)):=fun ks=>rfl
 have hset:∀ks ks',(A24 (aA T chv) (aP s ov sv pv) ks).set 2 (.row 1 false (ax ks'))=A24 (aA T chv) (aP s ov sv pv) ks':=fun ks ks'=>rfl
 have hl:=mC s.order (n:=n) (i:=k+1) (by omega)
 have b0':=cj ((k+1:Nat):Int) (n:Int)
 rw [decide_eq_true (by omega)] at b0'
 have b1:aq .sub (.int .i64 ((k+1:Nat):Int)) (.int .i64 1)=some (.int .i64 (k:Int)):=by rw [cd (by omega)]; congr 2; omega
 have b2:=aY (k+1) (by omega)
 have i1:=fJ (n:=n+1) (hr (inF s.order n (k+1))) (show k<n+1 by omega) .i64
 have i2:=fJ (n:=n+1) (hr (inF s.order n (k+1))) (show k+1<n+1 by omega) .i64
 have d1:=jh (hr (inF s.order n (k+1))) (show k<(inF s.order n (k+1)).length by omega)
 rw [mD s.order (by omega)] at d1
 have s1:=lK (hr (inF s.order n (k+1))) (show k+1<(inF s.order n (k+1)).length by omega) (kF s.order k)
 rw [hset] at s1
 obtain ⟨ks1,hks1⟩:∃ks1,ks1=(inF s.order n (k+1)).set (k+1) (kF s.order k):=⟨_,rfl⟩
 rw [<-hks1] at s1
 have hl1:ks1.length=n+1:=by rw [hks1,List.length_set,hl]
 obtain ⟨h1,h2,_⟩:=hg ks1
 have f1:∀A n,frz A n ov=ov:=fun A n=>hs.o.frz n
 have m1:=ir hs.o hol ((k+1:Nat):Int)
 have m2:=ir hs.o hol (k:Int)
 have b3:=cC (pos s.order ((k+1:Nat):Int)) (pos s.order (k:Int))
 have hk:=te s.order k
 have ek:kF s.order (k+1)=kF s.order k+(if pos s.order ((k+1:Nat):Int)<pos s.order (k:Int) then 1 else 0):=by simp only [kF,hF]; push_cast; rfl
 have m1:M64 [ov,.int .i64 ((k+1:Nat):Int)]=some (.int .i64 (pos s.order ((k+1:Nat):Int))):=m1
 have m2:M64 [ov,.int .i64 (k:Int)]=some (.int .i64 (pos s.order (k:Int))):=m2
 by_cases hp:pos s.order ((k+1:Nat):Int)<pos s.order (k:Int)
 ·rw [decide_eq_true hp] at b3
  rw [if_pos hp] at ek
  have i3:=fJ (n:=n+1) (hr ks1) (show k+1<n+1 by omega) .i64
  have d3:=jh (hr ks1) (show k+1<ks1.length by omega)
  have e3:ks1.getD (k+1) 0=kF s.order k:=by rw [hks1,jp,if_pos ⟨rfl,by omega⟩]
  rw [e3] at d3
  have b4:aq .add (.int .i64 (kF s.order k)) (.int .i64 1)=some (.int .i64 (kF s.order (k+1))):=by rw [ek]; exact bh (by omega)
  have s3:=lK (hr ks1) (show k+1<ks1.length by omega) (kF s.order (k+1))
  rw [hset,hks1,(oJ s.order (i:=k+1) (by omega) (kF s.order k)).1,<-hks1] at s3
  generalize A24 (aA T chv) (aP s ov sv pv) (inF s.order n (k+1))=B0 at *
  generalize A24 (aA T chv) (aP s ov sv pv) ks1=B1 at *
  generalize A24 (aA T chv) (aP s ov sv pv) (inF s.order n (k+1+1))=B2 at *
  generalize kF s.order (k+1)=z1 at *
  generalize kF s.order k=z0 at *
  generalize pos s.order ((k+1:Nat):Int)=p1 at *
  generalize pos s.order (k:Int)=p0 at *
  generalize ((k+1+1:Nat):Int)=K2 at *
  generalize ((k+1:Nat):Int)=K1 at *
  generalize (k:Int)=K0 at *
  generalize (n:Int)=N at *
  simp [eo,b0',b1,b2,b3,b4,i1,i2,i3,d1,d3,s1,s3,h1,h2,f1,aT,m1,m2,cq,-aq,-af,-aE,-au,-aa,-frz]
 ·rw [decide_eq_false hp] at b3
  rw [if_neg hp] at ek
  have e2:ks1=inF s.order n (k+1+1):=by
   rw [hks1,<-(oJ s.order (n:=n) (i:=k+1) (by omega) 0).2,ek,Int.add_zero]
  rw [<-e2]
  generalize A24 (aA T chv) (aP s ov sv pv) (inF s.order n (k+1))=B0 at *
  generalize A24 (aA T chv) (aP s ov sv pv) ks1=B1 at *
  generalize kF s.order k=z0 at *
  generalize pos s.order ((k+1:Nat):Int)=p1 at *
  generalize pos s.order (k:Int)=p0 at *
  generalize ((k+1+1:Nat):Int)=K2 at *
  generalize ((k+1:Nat):Int)=K1 at *
  generalize (k:Int)=K0 at *
  generalize (n:Int)=N at *
  simp [eo,b0',b1,b2,b3,i1,i2,d1,s1,h1,h2,f1,aT,m1,m2,cq,-aq,-af,-aE,-au,-aa,-frz]
end
end Tr
namespace Tr
open Go
open Cy (GC iR aT bi aH cH)
open Clu (bb aX aA chA be Chk iO isI a7 bh cd bI cC cQ cj)
def oR (l:List da):ac:=if l=[] then [] else [.row 2 (decide (1<l.length)) (l.map bY)]
def outV (l:List da):AV:=if l=[] then .nilS else .sl 3 0 l.length
theorem l8 (tv sv:AV) (ks:List Int) (l:List da) (t:da) (hl:l.length<=1000):aO 2 16 (A24 tv sv ks++oR l) (outV l) (.fs 2 [bY t])=some (outV (l++[t]),A24 tv sv ks++oR (l++[t])):=by
 have hne:l++[t]≠[]:=by simp
 have e1:outV (l++[t])=.sl 3 0 (l.length+1):=by unfold outV; rw [if_neg hne]; simp
 by_cases h:l=[]
 ·subst h
  simp [oR,outV,aO,aQ,A24]
 ·have e0:A24 tv sv ks++oR l=A24 tv sv ks++[.row 2 (decide (1<l.length)) (l.map bY)]:=by unfold oR; rw [if_neg h]
  have e2:A24 tv sv ks++oR (l++[t])=A24 tv sv ks++[.row 2 true (l.map bY++[bY t])]:=by
   have h1:0<l.length:=List.length_pos_iff.2 h
   unfold oR; rw [if_neg hne,decide_eq_true (by simp; omega)]; simp
  have hz:l.length≠0:=fun e=>h (List.length_eq_zero_iff.1 e)
  have e3:outV l=.sl 3 0 l.length:=by unfold outV; rw [if_neg h]
  rw [e0,e1,e2,e3]
  have hrow:(A24 tv sv ks++[Ent.row 2 (decide (1<l.length)) (l.map bY)])[3]?=some (.row 2 (decide (1<l.length)) (l.map bY)):=rfl
  simp only [aO,du,hrow,List.length_map,List.length_singleton]
  rw [if_pos ⟨trivial,by omega,by omega,by omega⟩,if_pos ⟨trivial,trivial,hz⟩]
  rfl
section
variable {T:bb} {chv:AV} {s:be} {ov sv pv:AV} {free:Int}
theorem loop24 (hs:iO s ov sv pv) (hol:s.order.length<=200) {n:Nat} (hn:n<=100):∀(c i m:Nat),i+c=n+1->1<=i->c<m ->
  bM (evC (ai GC kM) 300 eo) gF m (s24 free n i) (A24 (aA T chv) (aP s ov sv pv) (inF s.order n i)) =
   some (.exit 0 ((s24 free n (n+1)).set 14 (.bool false)) (A24 (aA T chv) (aP s ov sv pv) (inF s.order n (n+1)))):=by
 intro c
 induction c with
 | zero=>
  intro i m hi _ hm
  obtain ⟨m,rfl⟩:∃j,m=j+1:=⟨m-1,by omega⟩
  obtain rfl:i=n+1:=by omega
  have b0':=cj ((n+1:Nat):Int) (n:Int)
  rw [decide_eq_false (by omega)] at b0'
  unfold s24
  rw [aK,qh]
  generalize ((n+1:Nat):Int)=N1 at *
  simp [eo,b0',-aq]
 | succ c ih=>
  intro i m hi h1 hm
  obtain ⟨m,rfl⟩:∃j,m=j+1:=⟨m-1,by omega⟩
  have hr:=qW (T:=T) (chv:=chv) (free:=free) hs hol hn h1 (show i<=n by omega)
  unfold s24 at hr ⊢
  rw [aK,qh,hr]
  exact ih (i+1) m (by omega) (by omega) (by omega)
theorem eC (hc:Chk T s):s.order.length=T.ch.length+1/\s.starts.length=T.ch.length+1/\(∀x∈s.starts,0<=x/\x<=1000000000)/\(1<=s.period/\s.period<=1000000)/\∀t∈s.order,0<=t/\t<=T.ch.length:=by
 have hO:=fY hc.1
 have hv:=hc.2.2.1
 refine ⟨hO.len,?_,hv.2.2.1,hc.2.1,hO.bd⟩
 have:=hv.2.1
 have:=hO.len
 omega
theorem sW (hc:Chk T s) (t:Nat):0<=stD s t/\stD s t<=1000000000:=by
 obtain ⟨_,h2,h3,_⟩:=eC hc
 unfold stD
 by_cases h:t<s.starts.length
 ·rw [List.getD_eq_getElem?_getD,List.getElem?_eq_getElem h]; exact h3 _ (List.getElem_mem h)
 ·rw [List.getD_eq_getElem?_getD,List.getElem?_eq_none (Nat.le_of_not_lt h)]; simp
abbrev ox (free:Int) (n:Nat) (l:List da) (r R:Nat) (ov:AV) (m p:Nat):List AV:=ki (.int .i64 free) (.ptr 0 0 0) (.ptr 1 0 0) (.sl 2 0 (n+1)) (outV l) (.int .i64 (r:Int)) (.int .i64 (R:Int)) (.int .i64 (r:Int)) ov (.int .i64 (m:Int)) (.int .i64 (p:Int))
theorem Dp (a b:Int) (h:inI (a*b)):aq .mul (.int .i64 a) (.int .i64 b)=some (.int .i64 (a*b)):=by simp [aq,dB h]
theorem oA (hc:Chk T s) (hv:aX T) (hs:iO s ov sv pv) (hf:0<=free/\free<=2000000) {l:List da} (hl:l.length<=500) {r R p:Nat} (hr:r<=100) (hp:p<s.order.length) :
  ∃l',l'=(if kF s.order (s.order.getD p 0).toNat<=r then l++[tk T s free r (s.order.getD p 0)] else l) /\
  run (ai GC kM) 300 [.code dD] (ox free T.ch.length l r R ov s.order.length p) (A24 (aA T chv) (aP s ov sv pv) (inF s.order T.ch.length (T.ch.length+1))++oR l) =
   some (.normal (ox free T.ch.length l' r R ov s.order.length (p+1)) (A24 (aA T chv) (aP s ov sv pv) (inF s.order T.ch.length (T.ch.length+1))++oR l')):=by
 refine ⟨_,rfl,?_⟩
 unfold ox
 obtain ⟨c1,c2,c3,c4,c5⟩:=eC hc
 have hn4:=hv.2.2.2.1
 have hmem:s.order.getD p 0∈s.order:=by rw [List.getD_eq_getElem?_getD,List.getElem?_eq_getElem hp]; exact List.getElem_mem hp
 obtain ⟨t,ht⟩:∃t:Nat,s.order.getD p 0=(t:Int):=⟨(s.order.getD p 0).toNat,by have:=c5 _ hmem; omega⟩
 have htn:t<=T.ch.length:=by have:=c5 _ hmem; omega
 have hop:s.order[p]=(t:Int):=by rw [<-ht,List.getD_eq_getElem?_getD,List.getElem?_eq_getElem hp]; rfl
 rw [ht,Int.toNat_natCast]
 have x1:=hs.o.int (A:=A24 (aA T chv) (aP s ov sv pv) (inF s.order T.ch.length (T.ch.length+1))++oR l) _ _ (List.getElem?_eq_getElem hp) .i64
 rw [hop] at x1
 have b0':=bw p s.order.length .i64
 rw [decide_eq_true hp] at b0'
 have b9:=aY p (by omega)
 obtain ⟨h1,h2,h3,h4,h5,h6,h7,h8⟩:=Cq (T:=T) (chv:=chv) hs (inF s.order T.ch.length (T.ch.length+1)) (oR l)
 have hrow:(A24 (aA T chv) (aP s ov sv pv) (inF s.order T.ch.length (T.ch.length+1))++oR l)[2]?=some (.row 1 false (ax (inF s.order T.ch.length (T.ch.length+1)))):=rfl
 have i1:=fJ (n:=T.ch.length+1) hrow (show t<T.ch.length+1 by omega) .i64
 have d1:=jh hrow (show t<(inF s.order T.ch.length (T.ch.length+1)).length by rw [mC _ (by omega)]; omega)
 rw [mD s.order (by omega)] at d1
 have b1:=cj (kF s.order t) (r:Int)
 have y0:=hs.st.int (A:=A24 (aA T chv) (aP s ov sv pv) (inF s.order T.ch.length (T.ch.length+1))++oR l) _ _ (List.getElem?_eq_getElem (show 0<s.starts.length by omega)) .i64
 have y1:=hs.st.int (A:=A24 (aA T chv) (aP s ov sv pv) (inF s.order T.ch.length (T.ch.length+1))++oR l) _ _ (List.getElem?_eq_getElem (show t<s.starts.length by omega)) .i64
 have e0:s.starts[0]'(by omega)=stD s 0:=by unfold stD; rw [List.getD_eq_getElem?_getD,List.getElem?_eq_getElem (by omega)]; rfl
 have e1:s.starts[t]'(by omega)=stD s t:=by unfold stD; rw [List.getD_eq_getElem?_getD,List.getElem?_eq_getElem (by omega)]; rfl
 rw [e0] at y0
 rw [e1] at y1
 have y0:au 1 (A24 (aA T chv) (aP s ov sv pv) (inF s.order T.ch.length (T.ch.length+1))++oR l) sv (.int .i64 0)=some (.fp [.int .i64 (stD s 0)]):=y0
 have w:=eY hv
 have s0:=sW hc 0
 have st:=sW hc t
 have hmul:0<=(r:Int)*s.period/\(r:Int)*s.period<=100*1000000:=by
  refine ⟨Int.mul_nonneg (by omega) (by omega),?_⟩
  exact Int.mul_le_mul (by omega) c4.2 (by omega) (by omega)
 have b2:aq .add (.int .i64 free) (.int .i64 T.travel)=some (.int .i64 (free+T.travel)):=bh (by omega)
 have b3:aq .sub (.int .i64 (free+T.travel)) (.int .i64 (stD s 0))=some (.int .i64 (bsF T s free)):=cd (by omega)
 have b4:=Dp (r:Int) s.period (by unfold inI; omega)
 have b5:aq .add (.int .i64 (bsF T s free)) (.int .i64 ((r:Int)*s.period))=some (.int .i64 (bsF T s free+(r:Int)*s.period)):=bh (by unfold bsF; omega)
 have b6:aq .add (.int .i64 (bsF T s free+(r:Int)*s.period)) (.int .i64 (stD s t))=some (.int .i64 (bsF T s free+(r:Int)*s.period+stD s t)):=bh (by unfold bsF; omega)
 have ap:=l8 (aA T chv) (aP s ov sv pv) (inF s.order T.ch.length (T.ch.length+1)) l (tk T s free r (t:Int)) (by omega)
 have etk:tk T s free r (t:Int)=((t:Int),bsF T s free+(r:Int)*s.period+stD s t):=by simp only [tk,Int.toNat_natCast]
 rw [etk] at ap ⊢
 have ap:aO 2 16 (A24 (aA T chv) (aP s ov sv pv) (inF s.order T.ch.length (T.ch.length+1))++oR l) (outV l) (.fs 2 [.agg [.int .i64 (t:Int),.int .i64 (bsF T s free+(r:Int)*s.period+stD s t)]])=_:=ap
 have hbf:bD 2 [.agg [.int .i64 (t:Int),.int .i64 (bsF T s free+(r:Int)*s.period+stD s t)]]=some (.fs 2 [.agg [.int .i64 (t:Int),.int .i64 (bsF T s free+(r:Int)*s.period+stD s t)]]):=rfl
 by_cases hk:kF s.order t<=r
 ·rw [decide_eq_true hk] at b1
  rw [if_pos hk]
  generalize l++[((t:Int),bsF T s free+(r:Int)*s.period+stD s t)]=l2 at *
  generalize A24 (aA T chv) (aP s ov sv pv) (inF s.order T.ch.length (T.ch.length+1))++oR l2=B1 at *
  generalize A24 (aA T chv) (aP s ov sv pv) (inF s.order T.ch.length (T.ch.length+1))++oR l=B0 at *
  generalize bsF T s free+(r:Int)*s.period+stD s t=z5 at *
  generalize bsF T s free+(r:Int)*s.period=z4 at *
  generalize (r:Int)*s.period=z3 at *
  generalize bsF T s free=z2 at *
  generalize free+T.travel=z1 at *
  generalize stD s 0=y0' at *
  generalize stD s t=y1' at *
  generalize kF s.order t=z0 at *
  generalize ((p+1:Nat):Int)=P1 at *
  generalize (p:Int)=P0 at *
  simp [dD,b0',b1,b2,b3,b4,b5,b6,b9,x1,i1,d1,h3,h4,h5,h6,h7,h8,y0,y1,hbf,ap,-aq,-af,-au,-aa,-bD]
 ·rw [decide_eq_false hk] at b1
  rw [if_neg hk]
  generalize A24 (aA T chv) (aP s ov sv pv) (inF s.order T.ch.length (T.ch.length+1))++oR l=B0 at *
  generalize kF s.order t=z0 at *
  generalize ((p+1:Nat):Int)=P1 at *
  generalize (p:Int)=P0 at *
  simp [dD,b0',b1,b9,x1,i1,d1,-aq,-af,-au,-aa,-bD]
theorem q6 (hc:Chk T s) (hv:aX T) (hs:iO s ov sv pv) (hf:0<=free/\free<=2000000) {r R:Nat} (hr:r<=100):∀(c p m:Nat) (l:List da),p+c=s.order.length->l.length+c<=400->c<m ->
  ∃l',l'=l++((s.order.drop p).filter fun t=>decide (kF s.order t.toNat<=r)).map (tk T s free r)/\l'.length<=l.length+c /\
  bM (evC (ai GC kM) 300 dD) dP m (ox free T.ch.length l r R ov s.order.length p) (A24 (aA T chv) (aP s ov sv pv) (inF s.order T.ch.length (T.ch.length+1))++oR l) =
   some (.exit 4 ((ox free T.ch.length l' r R ov s.order.length s.order.length).set 22 (.bool false)) (A24 (aA T chv) (aP s ov sv pv) (inF s.order T.ch.length (T.ch.length+1))++oR l')):=by
 intro c
 induction c with
 | zero=>
  intro p m l hp hl hm
  obtain ⟨m,rfl⟩:∃j,m=j+1:=⟨m-1,by omega⟩
  obtain rfl:p=s.order.length:=by omega
  refine ⟨l,by rw [List.drop_length]; simp,by omega,?_⟩
  have b0':=bw s.order.length s.order.length .i64
  rw [decide_eq_false (by omega)] at b0'
  unfold ox
  rw [aK,qg]
  simp [dD,b0',-aq]
 | succ c ih=>
  intro p m l hp hl hm
  obtain ⟨m,rfl⟩:∃j,m=j+1:=⟨m-1,by omega⟩
  have hpl:p<s.order.length:=by omega
  obtain ⟨l1,h1,h2⟩:=oA (R:=R) hc hv hs hf (l:=l) (by omega) hr hpl
  have hl1:l1.length<=l.length+1:=by rw [h1]; split <;> simp
  obtain ⟨l',h3,h4,h5⟩:=ih (p+1) m l1 (by omega) (by omega) (by omega)
  have hg:s.order.getD p 0=s.order[p]:=by rw [List.getD_eq_getElem?_getD,List.getElem?_eq_getElem hpl]; rfl
  refine ⟨l',?_,by omega,?_⟩
  ·rw [h3,h1,hg,List.drop_eq_getElem_cons hpl,List.filter_cons]
   by_cases hk:kF s.order (s.order[p]).toNat<=r
   ·rw [if_pos hk,decide_eq_true hk,if_pos rfl,List.map_cons,List.append_assoc]; rfl
   ·rw [if_neg hk,decide_eq_false hk,if_neg (by decide)]
  ·unfold ox at h2 h5 ⊢
   rw [aK,qg,h2]
   exact h5
abbrev s24c (free:Int) (n:Nat) (l:List da) (R r:Nat):List AV:=pi (.int .i64 free) (.ptr 0 0 0) (.ptr 1 0 0) (.sl 2 0 (n+1)) (outV l) (.int .i64 (R:Int)) (.int .i64 (r:Int))
theorem oz {n r R:Nat} {l l2:List da} {ks:List Int} (hs:iO s ov sv pv) (hr:r<R) (hR:R<=1000)
  (h3:bM (evC (ai GC kM) 300 dD) dP 300 (ki (.int .i64 free) (.ptr 0 0 0) (.ptr 1 0 0) (.sl 2 0 (n+1)) (outV l) (.int .i64 (r:Int)) (.int .i64 (R:Int)) (.int .i64 (r:Int)) ov (.int .i64 (s.order.length:Int)) (.int .i64 0)) (A24 (aA T chv) (aP s ov sv pv) ks++oR l) =
   some (.exit 4 ((ox free n l2 r R ov s.order.length s.order.length).set 22 (.bool false)) (A24 (aA T chv) (aP s ov sv pv) ks++oR l2))) :
  run (ai GC kM) 300 [.code fI] (s24c free n l R r) (A24 (aA T chv) (aP s ov sv pv) ks++oR l)=some (.normal (s24c free n l2 R (r+1)) (A24 (aA T chv) (aP s ov sv pv) ks++oR l2)):=by
 unfold ox at h3
 unfold s24c
 have b0':=bw r R .i64
 rw [decide_eq_true hr] at b0'
 have b1:=aY r (by omega)
 obtain ⟨g1,g2,_⟩:=Cq (T:=T) (chv:=chv) hs ks (oR l)
 have ln:=hs.o.len
 rw [aH] at ln
 generalize A24 (aA T chv) (aP s ov sv pv) ks++oR l=B0 at *
 generalize A24 (aA T chv) (aP s ov sv pv) ks++oR l2=B1 at *
 generalize (s.order.length:Int)=M at *
 generalize ((r+1:Nat):Int)=r1 at *
 simp [fI,b0',b1,g1,g2,ln,yX h3,-aq,-af,-aa,-ay]
theorem loop24c (hc:Chk T s) (hv:aX T) (hs:iO s ov sv pv) (hf:0<=free/\free<=2000000) {R:Nat} (hR:R<=6):∀(c r m:Nat),r+c=R->(b7 T s free r).length<=5*r->c<m ->
  (b7 T s free R).length<=5*R /\
  bM (evC (ai GC kM) 300 fI) gE m (s24c free T.ch.length (b7 T s free r) R r) (A24 (aA T chv) (aP s ov sv pv) (inF s.order T.ch.length (T.ch.length+1))++oR (b7 T s free r)) =
   some (.exit 2 ((s24c free T.ch.length (b7 T s free R) R R).set 18 (.bool false)) (A24 (aA T chv) (aP s ov sv pv) (inF s.order T.ch.length (T.ch.length+1))++oR (b7 T s free R))):=by
 intro c
 induction c with
 | zero=>
  intro r m hr hl hm
  obtain ⟨m,rfl⟩:∃j,m=j+1:=⟨m-1,by omega⟩
  obtain rfl:r=R:=by omega
  refine ⟨hl,?_⟩
  have b0':=bw r r .i64
  rw [decide_eq_false (by omega)] at b0'
  unfold s24c
  rw [aK,qf]
  generalize b7 T s free r=l at *
  simp [fI,b0',-aq]
 | succ c ih=>
  intro r m hr hl hm
  obtain ⟨m,rfl⟩:∃j,m=j+1:=⟨m-1,by omega⟩
  obtain ⟨c1,_,_,_,_⟩:=eC hc
  have hn4:=hv.2.2.2.1
  obtain ⟨l',h1,h2,h3⟩:=q6 (R:=R) hc hv hs hf (r:=r) (by omega) s.order.length 0 300 (b7 T s free r) (by omega) (by omega) (by omega)
  have e:l'=b7 T s free (r+1):=by
   rw [h1,List.drop_zero]
   unfold b7 cyc
   rw [List.range_succ,List.flatMap_append,List.flatMap_cons,List.flatMap_nil,List.append_nil]
  rw [e] at h2 h3
  obtain ⟨q1,q2⟩:=ih (r+1) m (by omega) (by omega) (by omega)
  refine ⟨q1,?_⟩
  have h3:bM (evC (ai GC kM) 300 dD) dP 300 (ki (.int .i64 free) (.ptr 0 0 0) (.ptr 1 0 0) (.sl 2 0 (T.ch.length+1)) (outV (b7 T s free r)) (.int .i64 (r:Int)) (.int .i64 (R:Int)) (.int .i64 (r:Int)) ov (.int .i64 (s.order.length:Int)) (.int .i64 0)) _=_:=h3
  have hrun:=oz (free:=free) (n:=T.ch.length) hs (show r<R by omega) (by omega) h3
  unfold s24c at hrun q2 ⊢
  rw [aK,qf,hrun]
  exact q2
def zf (T:bb) (s:be) (free:Int):Prop:=isT T/\Chk T s/\0<=free/\free<=2000000
end
end Tr
namespace Tr
open Go
open Cy (GC iR aT bi aH cH)
open Clu (bb aX aA chA be Chk iO a7 cJ)
theorem Cz {T:bb} {s:be} (hc:Chk T s) (free:Int) (r:Nat):(cyc T s free r).length<=T.ch.length+1:=by
 unfold cyc
 rw [List.length_map,<-(eC hc).1]
 exact List.length_filter_le _ _
theorem js {T:bb} {s:be} (hc:Chk T s) (free:Int):∀R:Nat,(b7 T s free R).length<=(T.ch.length+1)*R
 | 0=>by simp [b7]
 | R+1=>by
  have h1:=js hc free R
  have h2:=Cz hc free R
  unfold b7 at h1 ⊢
  rw [List.range_succ,List.flatMap_append,List.length_append,List.flatMap_cons,List.flatMap_nil,List.append_nil,Nat.mul_add,Nat.mul_one]
  omega
section
variable {T:bb} {chv rdv:AV} {rd:List Int} {s:be} {ov sv pv:AV} {free:Int}
end
end Tr
namespace Tr
open Go
open Cy (GC aT bi aH)
open Clu (bb aX aA chA bh gj cC cJ)
theorem Ej:BP=Cy.Fc:=rfl
theorem ug:ak Tryz.prog GC 39 Cy.M12:=by
 refine ak.of_ev (E:=ai GC []) (aj aw) rfl Ko vK 1 ?_
 intro args r h
 unfold Cy.M12 at h
 split at h
 ·simp only [Option.ite_none_right_eq_some,Option.some.injEq] at h
  obtain ⟨⟨h1,h2⟩,rfl⟩:=h
  exact ⟨0,by rw [Ej]; exact Cy.Mq _ _ _ h1 h2⟩
 ·cases h
end Tr
namespace Tr
open Go
open Cy (GC aT bi aH)
open Clu (bb aX be Chk aA chA gR dZ mZ t1 fQ bh bI cJ a7 cn)
end Tr
namespace Tr
open Go
open Cy (GC aT bi aH db)
open Clu (bb aX qx aA chA bh gj cC cJ bI a7 cn)
def nOf (ys:List (Int × Int)):Nat:=max 1 (min ys.length 4)
def yOf (ys:List (Int × Int)) (i:Nat):Int × Int:=ys.getD i (0,0)
def Iw (z:Int):Int:=if pick (z.tdiv 50) 3=0 then pick z 50+200 else pick z 50
def chO (ys:List (Int × Int)) (i:Nat):Int × Int:=if i<ys.length then (pick (yOf ys i).1 60,Iw (yOf ys i).2) else (20,30)
def mkT (ys:List (Int × Int)) (a b c:Int):bb:=⟨(List.range (nOf ys)).map (chO ys),pick a 4,pick b 4,pick c 5,1⟩
theorem wh (ys:List (Int × Int)) (i:Nat):(0<=(chO ys i).1/\(chO ys i).1<=59)/\0<=(chO ys i).2/\(chO ys i).2<=249:=by
 unfold chO Iw
 have k1:=c9 (yOf ys i).1 60 (by omega)
 have k2:=c9 (yOf ys i).2 50 (by omega)
 split
 ·split <;> simp only <;> omega
 ·simp only; omega
theorem uM (ys:List (Int × Int)) (a b c:Int):(mkT ys a b c).ch.length=nOf ys:=by simp [mkT]
theorem pE (ys:List (Int × Int)):1<=nOf ys/\nOf ys<=4:=by unfold nOf; omega
theorem uL (ys:List (Int × Int)) (a b c:Int):aX (mkT ys a b c)/\(mkT ys a b c).blades=1:=by
 have h1:=c9 a 4 (by omega)
 have h2:=c9 b 4 (by omega)
 have h3:=c9 c 5 (by omega)
 have hn:=uM ys a b c
 have hb:=pE ys
 refine ⟨⟨fun c hc=>?_,⟨⟨?_,?_⟩,⟨?_,?_⟩,?_,?_⟩,?_,?_,.inl rfl⟩,rfl⟩
 ·obtain ⟨i,_,rfl⟩:=List.mem_map.1 hc
  have:=wh ys i
  unfold qx
  omega
 all_goals first | (rw [hn]; omega) | (simp only [mkT]; omega)
def H5 (A:ac) (v:AV) (xs:List (Int × Int)):Prop:=(v=.nilS/\xs=[])\/∃id gr,v=.sl id 0 xs.length/\xs≠[]/\2<id/\A[id]?=some (.row 2 gr (xs.map chA))
structure I27 (A:ac) (xs:List (Int × Int)) (p q r:Int):Prop where
 o:A[1]?=some (.row 5 false [.agg [.nilS,.int .i64 0,.int .i64 0,.int .i64 0,.int .i64 0]])
 c:∃v,A[2]?=some (.row 5 false [.agg [v,.int .i64 p,.int .i64 q,.int .i64 r,.int .i64 1]])/\H5 A v xs
def gL:List (FuncId × aD):=[(39,aF 4 Cy.M12)]
@[simp] theorem Jr:aI gL 39=some (aF 4 Cy.M12):=rfl
theorem qI:∀f M,aI gL f=some M->an Tryz.prog GC f M:=ae (an.of_pure ug 4) aw
theorem eP {A:ac} {id i:Nat} {k:Nat} {es:List AV} {x:AV} (h:A[id]?=some (.row k false [.agg es])) (hx:es[i]?=some x):af false 1 A (.ptr id 0 i)=some x:=by
 simp [af,h,bv,hx]
theorem b27 (ys:List (Int × Int)):ex false (.int .i64 (ys.length:Int)) [.int .i64 4]=some (.int .i64 ((min ys.length 4:Nat):Int))/\ex true (.int .i64 1) [.int .i64 ((min ys.length 4:Nat):Int)]=some (.int .i64 (nOf ys:Int)):=by
 constructor
 ·have:=xK ys.length 4 .i64 .i64
  simp only [ex]
  rw [show (.int .i64 4:AV)=.int .i64 ((4:Nat):Int) from rfl,this]
 ·have:=xP 1 (min ys.length 4) .i64 .i64
  simp only [ex]
  rw [show (.int .i64 1:AV)=.int .i64 ((1:Nat):Int) from rfl,this]
  rfl
theorem BH {a b:Int} (ha:inI a) (hb:2<=b/\b<=9223372036854775807):aq .quo (.int .i64 a) (.int .i64 b)=some (.int .i64 (a.tdiv b))/\inI (a.tdiv b):=by
 have h1:(a.tdiv b).natAbs<=a.natAbs:=by rw [Int.natAbs_tdiv]; exact Nat.div_le_self _ _
 have hr:inI (a.tdiv b):=by
  unfold inI at *
  have h2:(a.tdiv b).natAbs<=a.natAbs / 2:=by
   rw [Int.natAbs_tdiv]
   exact Nat.div_le_div_left (by omega) (by omega)
  omega
 refine ⟨?_,hr⟩
 have hw:=dB hr
 simp only [aq]
 rw [if_pos trivial,if_neg (by omega),hw]
theorem qV {A:ac} {ys:List (Int × Int)} (hys:∀y∈ys,inI y.1/\inI y.2) {yv:AV} (hy:SlA 2 (ys.map chA) yv) {xs:List (Int × Int)} {p q r:Int} (hI:I27 A xs p q r) {i:Nat} (hi:i<nOf ys) (hxl:xs.length<=100) :
  ∃B,run (ai GC gL) 300 [.code di] (nG yv (.ptr 1 0 0) (.ptr 2 0 0) (.int .i64 (i:Int))) A=some (.normal (nG yv (.ptr 1 0 0) (.ptr 2 0 0) (.int .i64 ((i+1:Nat):Int))) B)/\I27 B (xs++[chO ys i]) p q r:=by
 obtain ⟨h1,v,h2,hv⟩:=hI
 have n1:=(List.getElem?_eq_some_iff.1 h1).1
 have n2:=(List.getElem?_eq_some_iff.1 h2).1
 have hlen:=hy.len
 rw [List.length_map] at hlen
 obtain ⟨b0,b1⟩:=b27 ys
 have b2:=bw i (nOf ys) .i64
 rw [decide_eq_true hi] at b2
 have b3:=bw i ys.length .i64
 have b4:=aY i (by have:=pE ys; omega)
 obtain ⟨N,hN⟩:∃n,n=A.length:=⟨_,rfl⟩
 have bx:bm 2 (.agg [.int .i64 0,.int .i64 0]) A=some (.ptr N 0 0,A++[.row 2 false [.agg [.int .i64 0,.int .i64 0]]]):=by rw [hN]; rfl
 have s0:∀a b c d,aE 2 (A++[.row 2 false [.agg [.int .i64 a,.int .i64 b]]]) (.ptr N 0 0) (.agg [.int .i64 c,.int .i64 d])=some (A++[.row 2 false [.agg [.int .i64 c,.int .i64 d]]]):=fun a b c d=>by rw [hN]; simp [aE,bs]
 have f0:∀a b:Int,aa 0 (A++[.row 2 false [.agg [.int .i64 a,.int .i64 b]]]) (.ptr N 0 0)=some (.ptr N 0 0):=fun a b=>by rw [hN]; simp [aa]
 have f1:∀a b:Int,aa 1 (A++[.row 2 false [.agg [.int .i64 a,.int .i64 b]]]) (.ptr N 0 0)=some (.ptr N 0 1):=fun a b=>by rw [hN]; simp [aa]
 have t0:∀a b c,aE 1 (A++[.row 2 false [.agg [.int .i64 a,.int .i64 b]]]) (.ptr N 0 0) (.int .i64 c)=some (A++[.row 2 false [.agg [.int .i64 c,.int .i64 b]]]):=fun a b c=>by rw [hN]; simp [aE,bs]
 have t1:∀a b c,aE 1 (A++[.row 2 false [.agg [.int .i64 a,.int .i64 b]]]) (.ptr N 0 1) (.int .i64 c)=some (A++[.row 2 false [.agg [.int .i64 a,.int .i64 c]]]):=fun a b c=>by rw [hN]; simp [aE,bs]
 have l1:∀a b:Int,af false 1 (A++[.row 2 false [.agg [.int .i64 a,.int .i64 b]]]) (.ptr N 0 1)=some (.int .i64 b):=fun a b=>by rw [hN]; exact eP (es:=[.int .i64 a,.int .i64 b]) (k:=2) (by simp) rfl
 have l2:∀a b:Int,af true 2 (A++[.row 2 false [.agg [.int .i64 a,.int .i64 b]]]) (.ptr N 0 0)=some (.agg [.int .i64 a,.int .i64 b]):=fun a b=>by rw [hN]; simp [af]
 have c0:∀X,aa 0 (A++X) (.ptr 2 0 0)=some (.ptr 2 0 0):=fun X=>by
  have:(A++X)[2]?=some (.row 5 false [.agg [v,.int .i64 p,.int .i64 q,.int .i64 r,.int .i64 1]]):=by rw [List.getElem?_append_left n2]; exact h2
  simp [aa,this]
 have cl:∀X,af false 1 (A++X) (.ptr 2 0 0)=some v:=fun X=>eP (es:=[v,.int .i64 p,.int .i64 q,.int .i64 r,.int .i64 1]) (k:=5) (by rw [List.getElem?_append_left n2]; exact h2) rfl
 obtain ⟨P1,P2,hch⟩:∃P1 P2,chO ys i=(P1,P2):=⟨_,_,rfl⟩
 rw [hch]
 obtain ⟨A1,hA1⟩:∃X,X=A++[Ent.row 2 false [.agg [.int .i64 P1,.int .i64 P2]]]:=⟨_,rfl⟩
 have hl1:A1.length=A.length+1:=by rw [hA1]; simp
 have hA1o:∀j,j<A.length->A1[j]?=A[j]?:=fun j hj=>by rw [hA1,List.getElem?_append_left hj]
 obtain ⟨v',A2,e1,e2,e3,e4,e5⟩:∃v' A2,aO 2 16 A1 v (.fs 2 [.agg [.int .i64 P1,.int .i64 P2]])=some (v',A2)/\H5 A2 v' (xs++[(P1,P2)])/\(∀j,j<=2->A2[j]?=A[j]?)/\(∃a b,v'=.sl a 0 b/\2<a)/\2<A2.length:=by
  rcases hv with ⟨rfl,rfl⟩ | ⟨id,gr,rfl,hne,hid,hrow⟩
  ·refine ⟨.sl A1.length 0 1,A1++[.row 2 false [chA (P1,P2)]],by simp [aO,chA],.inr ⟨A1.length,false,rfl,by simp,by omega,by simp⟩,fun j hj=>?_,⟨_,_,rfl,by omega⟩,by simp; omega⟩
   rw [List.getElem?_append_left (by omega),hA1o j (by omega)]
  ·have hidl:=(List.getElem?_eq_some_iff.1 hrow).1
   have hz:xs.length≠0:=fun e=>hne (List.length_eq_zero_iff.1 e)
   have hb:(xs.length+1)*16<=140737488355328:=by omega
   have hrow1:A1[id]?=some (.row 2 gr (xs.map chA)):=by rw [hA1o id hidl]; exact hrow
   refine ⟨.sl id 0 (xs.length+1),A1.set id (.row 2 true (xs.map chA++[chA (P1,P2)])),by simp [aO,hrow1,hz,hb,chA],.inr ⟨id,true,by simp,by simp,hid,?_⟩,fun j hj=>?_,⟨_,_,rfl,hid⟩,by simp; omega⟩
   ·rw [List.getElem?_set_self (by omega),List.map_append]; rfl
   ·rw [List.getElem?_set_ne (by omega),hA1o j (by omega)]
 obtain ⟨ia,ib,rfl,hia⟩:=e4
 have c2:aa 0 A2 (.ptr 2 0 0)=some (.ptr 2 0 0):=by
  have:=e3 2 (by omega)
  rw [h2] at this
  simp [aa,this]
 have st:aE 1 A2 (.ptr 2 0 0) (.sl ia 0 ib)=some (A2.set 2 (.row 5 false [.agg [.sl ia 0 ib,.int .i64 p,.int .i64 q,.int .i64 r,.int .i64 1]])):=by
  have:=e3 2 (by omega)
  rw [h2] at this
  simp [aE,this,bs]
 refine ⟨A2.set 2 (.row 5 false [.agg [.sl ia 0 ib,.int .i64 p,.int .i64 q,.int .i64 r,.int .i64 1]]),?_,⟨by rw [List.getElem?_set_ne (by omega),e3 1 (by omega)]; exact h1,.sl ia 0 ib,by rw [List.getElem?_set_self e5],?_⟩⟩
 rotate_left
 ·rcases e2 with ⟨h,_⟩ | ⟨id,gr,e2,e6,e7,e8⟩
  ·cases h
  ·exact .inr ⟨id,gr,e2,e6,e7,by rw [List.getElem?_set_ne (by omega)]; exact e8⟩
 obtain ⟨B,hB⟩:∃X,X=A2.set 2 (.row 5 false [.agg [.sl ia 0 ib,.int .i64 p,.int .i64 q,.int .i64 r,.int .i64 1]]):=⟨_,rfl⟩
 rw [<-hB] at st ⊢
 have c1:=c0 [Ent.row 2 false [.agg [.int .i64 P1,.int .i64 P2]]]
 have cl1:=cl [Ent.row 2 false [.agg [.int .i64 P1,.int .i64 P2]]]
 have l2':=l2 P1 P2
 rw [<-hA1] at c1 cl1 l2'
 have hsl:bD 2 [.agg [.int .i64 P1,.int .i64 P2]]=some (.fs 2 [.agg [.int .i64 P1,.int .i64 P2]]):=rfl
 obtain ⟨ii,hii⟩:∃n,n=i+1:=⟨_,rfl⟩
 rw [<-hii] at b4 ⊢
 obtain ⟨nn,hnn⟩:∃n,n=nOf ys:=⟨_,rfl⟩
 rw [<-hnn] at b1 b2
 obtain ⟨mm,hmm⟩:∃n,n=min ys.length 4:=⟨_,rfl⟩
 rw [<-hmm] at b0 b1
 have A0d:∀a b,∃X,X=A++[Ent.row 2 false [.agg [.int .i64 a,.int .i64 b]]]:=fun a b=>⟨_,rfl⟩
 have u0:=s0 0 0 20 30
 obtain ⟨D0,hD0⟩:=A0d 0 0
 rw [<-hD0] at bx u0
 by_cases hc:i<ys.length
 ·rw [decide_eq_true hc] at b3
  obtain ⟨y,hye⟩:∃y,y=ys[i]:=⟨_,rfl⟩
  have hyy:yOf ys i=y:=by unfold yOf; rw [List.getD_eq_getElem?_getD,List.getElem?_eq_getElem hc,hye]; rfl
  have hyr:inI y.1/\inI y.2:=by rw [hye]; exact hys _ (List.getElem_mem hc)
  have yx:∀A,au 2 A yv (.int .i64 (i:Int))=some (.fp [.int .i64 y.1,.int .i64 y.2]):=fun A=>by
   rw [hye]
   exact hy.index (A:=A) (x:=chA ys[i]) (by simp [hc]) rfl (by omega) .i64
  have y0:∀A,cG 2 1 A (.fp [.int .i64 y.1,.int .i64 y.2]) (.int .i64 0)=some (.fp [.int .i64 y.1,.int .i64 y.2]):=fun A=>rfl
  have y1:∀A,cG 2 1 A (.fp [.int .i64 y.1,.int .i64 y.2]) (.int .i64 1)=some (.fp [.int .i64 y.2]):=fun A=>rfl
  have z0:∀A,af false 1 A (.fp [.int .i64 y.1,.int .i64 y.2])=some (.int .i64 y.1):=fun A=>rfl
  have z1:∀A,af false 1 A (.fp [.int .i64 y.2])=some (.int .i64 y.2):=fun A=>rfl
  have m1:=db hyr.1 (n:=60) (by omega)
  have m2:=db hyr.2 (n:=50) (by omega)
  obtain ⟨q0,q1⟩:=BH hyr.2 (b:=50) (by omega)
  have m3:=db q1 (n:=3) (by omega)
  have hcc:=hch
  unfold chO Iw at hcc
  rw [if_pos hc,hyy] at hcc
  injection hcc with e1' e2'
  have r1:=c9 y.2 50 (by omega)
  have b5:aq .add (.int .i64 (pick y.2 50)) (.int .i64 200)=some (.int .i64 (pick y.2 50+200)):=bh (by omega)
  have b6:=bI (pick (y.2.tdiv 50) 3) 0
  rw [e1'] at m1
  obtain ⟨S,hS⟩:∃S,S=pick y.2 50:=⟨_,rfl⟩
  rw [<-hS] at m2 e2' b5
  have u1:=f0 20 30
  have u2:=t0 20 30 P1
  have u3:=f1 P1 30
  have u4:=t1 P1 30 S
  obtain ⟨D1,hD1⟩:=A0d 20 30
  rw [<-hD1] at u0 u1 u2
  obtain ⟨D2,hD2⟩:=A0d P1 30
  rw [<-hD2] at u2 u3 u4
  generalize y.2.tdiv 50=Q at *
  generalize pick Q 3=R at *
  by_cases hR:R=0
  ·rw [if_pos hR] at e2'
   rw [decide_eq_true hR] at b6
   rw [e2'] at b5
   have u5:=f1 P1 S
   have u6:=l1 P1 S
   have u7:=t1 P1 S P2
   rw [<-hA1] at u7
   obtain ⟨D3,hD3⟩:=A0d P1 S
   rw [<-hD3] at u4 u5 u6 u7
   simp [di,hlen,b0,b1,b2,b3,b4,b5,b6,bx,yx,y0,y1,z0,z1,u0,u1,u2,u3,u4,u5,u6,u7,q0,m1,m2,m3,hsl,c1,cl1,l2',e1,c2,st,aT,-ex,-gm,-aq,-af,-aE,-aa,-au,-ay,-bD,-bm,-frz]
  ·rw [if_neg hR] at e2'
   rw [decide_eq_false hR] at b6
   subst e2'
   rw [<-hA1] at u4
   simp [di,hlen,b0,b1,b2,b3,b4,b6,bx,yx,y0,y1,z0,z1,u0,u1,u2,u3,u4,q0,m1,m2,m3,hsl,c1,cl1,l2',e1,c2,st,aT,-ex,-gm,-aq,-af,-aE,-aa,-au,-ay,-bD,-bm,-frz]
 ·rw [decide_eq_false hc] at b3
  have hcc:=hch
  unfold chO at hcc
  rw [if_neg hc] at hcc
  injection hcc with e1' e2'
  subst e1'; subst e2'
  rw [<-hA1] at u0
  simp [di,hlen,b0,b1,b2,b3,b4,bx,u0,hsl,c1,cl1,l2',e1,c2,st,-ex,-gm,-aq,-af,-aE,-aa,-au,-ay,-bD,-bm,-frz]
theorem Ft {ys:List (Int × Int)} (hys:∀y∈ys,inI y.1/\inI y.2) {yv:AV} (hy:SlA 2 (ys.map chA) yv) {p q r:Int}:∀(c i:Nat) (A:ac) (m:Nat),i+c=nOf ys->I27 A ((List.range i).map (chO ys)) p q r->c<m ->
  ∃B,bM (evC (ai GC gL) 300 di) lr m (nG yv (.ptr 1 0 0) (.ptr 2 0 0) (.int .i64 (i:Int))) A=some (.exit 0 ((nG yv (.ptr 1 0 0) (.ptr 2 0 0) (.int .i64 (nOf ys:Int))).set 7 (.bool false)) B)/\I27 B ((List.range (nOf ys)).map (chO ys)) p q r:=by
 have hn4:=pE ys
 intro c
 induction c with
 | zero=>
  intro i A m hi hI hm
  obtain ⟨m,rfl⟩:∃j,m=j+1:=⟨m-1,by omega⟩
  obtain rfl:i=nOf ys:=by omega
  refine ⟨A,?_,hI⟩
  have hlen:=hy.len
  rw [List.length_map] at hlen
  obtain ⟨b0,b1⟩:=b27 ys
  have b2:=bw (nOf ys) (nOf ys) .i64
  rw [decide_eq_false (by omega)] at b2
  obtain ⟨mm,hmm⟩:∃n,n=min ys.length 4:=⟨_,rfl⟩
  rw [<-hmm] at b0 b1
  rw [aK,wa]
  simp [di,hlen,b0,b1,b2,-aq,-ex,-gm,-ay]
 | succ c ih=>
  intro i A m hi hI hm
  obtain ⟨m,rfl⟩:∃j,m=j+1:=⟨m-1,by omega⟩
  obtain ⟨B,h1,h2⟩:=qV hys hy hI (i:=i) (by omega) (by simp; omega)
  have e:(List.range i).map (chO ys)++[chO ys i]=(List.range (i+1)).map (chO ys):=by rw [List.range_succ,List.map_append]; rfl
  rw [e] at h2
  obtain ⟨C,h3,h4⟩:=ih (i+1) B m (by omega) h2 (by omega)
  refine ⟨C,?_,h4⟩
  rw [aK,wa,h1]
  exact h3
def M27:aG:=fun args=>evP (ai GC gL) 300 tI 4 args
theorem rP:ak Tryz.prog GC 13 M27:=ak.of_ev (E:=ai GC gL) (aj qI) rfl G3 qc 4 fun _ _ h=>⟨300,h⟩
theorem yh {A:ac} {v:AV} {xs:List (Int × Int)} (h:H5 A v xs) (k:Nat):frz A (k+3) v=slA 2 (xs.map chA):=by
 rcases h with ⟨rfl,rfl⟩ | ⟨id,gr,rfl,hne,_,hr⟩
 ·rfl
 ·have e:((xs.map chA).drop 0).take xs.length=xs.map chA:=by
   rw [List.drop_zero]
   conv=>lhs; rw [show xs.length=(xs.map chA).length by simp]
   rw [List.take_length]
  have hm:(xs.map chA).map (frz A (k+2))=xs.map chA:=by
   rw [List.map_map]
   exact List.map_congr_left fun x _=>by simp [chA,frz]
  rw [show k+3=(k+2)+1 from rfl]
  simp only [frz,hr]
  rw [e,hm]
  cases xs with
  | nil=>exact absurd rfl hne
  | cons x r=>rfl
def mkA (ys:List (Int × Int)) (a b c:Int):AV:=aA (mkT ys a b c) (slA 2 ((mkT ys a b c).ch.map chA))
theorem sO {ys:List (Int × Int)} (hys:∀y∈ys,inI y.1/\inI y.2) {yv:AV} (hy:SlA 2 (ys.map chA) yv) {a b c:Int} (ha:inI a) (hb:inI b) (hc:inI c):M27 [yv,.agg [.int .i64 a,.int .i64 b,.int .i64 c]]=some (mkA ys a b c):=by
 have m1:=db ha (n:=4) (by omega)
 have m2:=db hb (n:=4) (by omega)
 have m3:=db hc (n:=5) (by omega)
 have hmk:mkA ys a b c=.agg [slA 2 (((List.range (nOf ys)).map (chO ys)).map chA),.int .i64 (pick a 4),.int .i64 (pick b 4),.int .i64 (pick c 5),.int .i64 1]:=rfl
 rw [hmk]
 obtain ⟨q1,h1⟩:∃z,z=pick a 4:=⟨_,rfl⟩
 obtain ⟨q2,h2⟩:∃z,z=pick b 4:=⟨_,rfl⟩
 obtain ⟨q3,h3⟩:∃z,z=pick c 5:=⟨_,rfl⟩
 rw [<-h1] at m1 ⊢
 rw [<-h2] at m2 ⊢
 rw [<-h3] at m3 ⊢
 obtain ⟨B,lp,⟨k1,v,k2,k3⟩⟩:=Ft hys hy (p:=q1) (q:=q2) (r:=q3) (nOf ys) 0 [.row 3 false [.agg [.int .i64 a,.int .i64 b,.int .i64 c]],.row 5 false [.agg [.nilS,.int .i64 0,.int .i64 0,.int .i64 0,.int .i64 0]],.row 5 false [.agg [.nilS,.int .i64 q1,.int .i64 q2,.int .i64 q3,.int .i64 1]]] 300 (by omega) ⟨rfl,.nilS,rfl,.inl ⟨rfl,rfl⟩⟩ (by have:=pE ys; omega)
 rw [show ((0:Nat):Int)=0 from rfl] at lp
 have e1:af true 5 B (.ptr 2 0 0)=some (.agg [v,.int .i64 q1,.int .i64 q2,.int .i64 q3,.int .i64 1]):=by simp [af,k2]
 have kl:=(List.getElem?_eq_some_iff.1 k1).1
 have st:aE 5 B (.ptr 1 0 0) (.agg [v,.int .i64 q1,.int .i64 q2,.int .i64 q3,.int .i64 1])=some (B.set 1 (.row 5 false [.agg [v,.int .i64 q1,.int .i64 q2,.int .i64 q3,.int .i64 1]])):=by simp [aE,k1,bs]
 have k3':H5 (B.set 1 (.row 5 false [.agg [v,.int .i64 q1,.int .i64 q2,.int .i64 q3,.int .i64 1]])) v ((List.range (nOf ys)).map (chO ys)):=by
  rcases k3 with k3 | ⟨id,gr,a,b,c,d⟩
  ·exact .inl k3
  ·exact .inr ⟨id,gr,a,b,c,by rw [List.getElem?_set_ne (by omega)]; exact d⟩
 have f1:=yh k3' 0
 have e2:af true 5 (B.set 1 (.row 5 false [.agg [v,.int .i64 q1,.int .i64 q2,.int .i64 q3,.int .i64 1]])) (.ptr 1 0 0)=some (.agg [v,.int .i64 q1,.int .i64 q2,.int .i64 q3,.int .i64 1]):=by simp [af,kl]
 obtain ⟨C,hC⟩:∃X,X=B.set 1 (.row 5 false [.agg [v,.int .i64 q1,.int .i64 q2,.int .i64 q3,.int .i64 1]]):=⟨_,rfl⟩
 rw [<-hC] at st e2 f1
 have F1:frz C 4 (.agg [v,.int .i64 q1,.int .i64 q2,.int .i64 q3,.int .i64 1])=.agg [slA 2 (((List.range (nOf ys)).map (chO ys)).map chA),.int .i64 q1,.int .i64 q2,.int .i64 q3,.int .i64 1]:=by
  rw [<-f1]; rfl
 rw [hC] at F1
 have k1g:B[1]=.row 5 false [.agg [.nilS,.int .i64 0,.int .i64 0,.int .i64 0,.int .i64 0]]:=by
  rw [List.getElem?_eq_getElem kl] at k1; injection k1
 unfold M27
 rw [aS _ _ rfl]
 simp [tI,cG,m1,m2,m3,aT,FN lp,k1g,k2,kl,F1,-frz,-aq]
end Tr
namespace Tr
open Go
open Cy (GC aT bi aH db lvM eJ kL om)
open Clu (bb aX be Chk iO aA chA gR dZ mZ dQ qj nc fQ)
theorem pf {T:bb} {s:be} (h:dZ T=some s):∀x∈s.starts,x<=100000000:=by
 have hc:=dQ h
 obtain ⟨_,hs⟩:=qj h
 have hv:=hc.2.2.1
 have hl:=(kL hv.1).2 (om hv)
 have h3:=(eJ hv.1 hl).2.2.1
 have es:s.starts=(lvM (s.order.length:Int) (Clu.ba T s.order) s.period).1:=by
  conv=>lhs; rw [hs]
  rfl
 rw [es]
 exact h3
theorem oW {T:bb} {s:be} (hc:Chk T s) (free:Int) {r:Nat} (hr:kF s.order T.ch.length<=r):cyc T s free r=s.order.map (tk T s free r):=by
 unfold cyc
 rw [List.filter_eq_self.2]
 intro t ht
 have:=(eC hc).2.2.2.2 t ht
 have h1:=u9 s.order (i:=t.toNat) (j:=T.ch.length) (by omega)
 exact decide_eq_true (by omega)
theorem dv (T:bb) (s:be) (free:Int) (R:Nat):b7 T s free (R+1)=b7 T s free R++cyc T s free R:=by
 unfold b7
 rw [List.range_succ,List.flatMap_append]
 simp
theorem xa {T:bb} {s:be} (hv:aX T) (h:dZ T=some s) {free:Int} (hf:0<=free/\free<=2000000) {r:Nat} (hr:r<=100) {t:Int} (ht:t∈s.order):(tk T s free r t).2<=1000000000:=by
 have hc:=dQ h
 have h1:=pf h
 obtain ⟨c1,c2,c3,c4,c5⟩:=eC hc
 have:=c5 t ht
 have ht2:stD s t.toNat<=100000000:=by
  unfold stD
  rw [List.getD_eq_getElem?_getD,List.getElem?_eq_getElem (by omega)]
  exact h1 _ (List.getElem_mem _)
 have h0:0<=stD s 0:=by
  unfold stD
  rw [List.getD_eq_getElem?_getD,List.getElem?_eq_getElem (by omega)]
  exact (c3 _ (List.getElem_mem _)).1
 have:=hv.2.1.2.2
 have hm:(r:Int)*s.period<=100*1000000:=Int.mul_le_mul (by omega) (by omega) (by omega) (by omega)
 show bsF T s free+(r:Int)*s.period+stD s t.toNat<=_
 unfold bsF
 omega
end Tr
namespace Tr
open Go
open Cy (GC aT bi aH db)
open Clu (bb aX be Chk iO aA chA gR dZ mZ dQ fQ bh cd gj cC cJ bI cQ)
end Tr
namespace Tr
open Go
open Cy (GC aT bi aH db)
open Clu (bb aX qx be Chk iO aA chA gR dZ mZ dQ fQ bh cd gj cC cJ bI cQ cj a7 cn)
def rJ {α:Type} (new old:Nat->α) (n i:Nat):List α:=(List.range n).map fun j=>if j<i then new j else old j
theorem ED {α:Type} (new old:Nat->α) (n i:Nat):(rJ new old n i).length=n:=by simp [rJ]
theorem EC {α:Type} (new old:Nat->α) {n i:Nat} (_h:i<n):(rJ new old n i).set i (new i)=rJ new old n (i+1):=by
 apply List.ext_getElem
 ·simp [rJ]
 intro j h1 h2
 simp only [rJ,List.getElem_set,List.getElem_map,List.getElem_range]
 by_cases e:i=j
 ·subst e; rw [if_pos rfl,if_pos (by omega)]
 ·rw [if_neg e]
  by_cases hj:j<i
  ·rw [if_pos hj,if_pos (by omega)]
  ·rw [if_neg hj,if_neg (by omega)]
theorem EF {α:Type} (new old:Nat->α) (n:Nat):rJ new old n n=(List.range n).map new:=List.map_congr_left fun _j hj=>if_pos (List.mem_range.1 hj)
section
variable {A:ac} {id:Nat} {cs:List (Int × Int)}
theorem FE {n:Nat} {g:Bool} {es:List AV} (h:A[id]?=some (.row 2 g es)) {k:Nat} (hk:k<n):au 2 A (.sl id 0 n) (.int .i64 (k:Int))=some (.ptr id k 0):=by
 simp only [au,h]
 rw [if_pos ⟨trivial,by omega,by omega,by omega⟩]
 simp
end
end Tr
namespace Tr
open Go
open Cy (GC aT bi aH db)
open Clu (bb aX qx be Chk iO aA chA bh cd gj cC cJ bI cQ cj a7 cn)
theorem lz {A:ac} {id:Nat} {g:Bool} {l:List Int} {n:Nat} (h:A[id]?=some (.row 1 g (ax l))) (hn:n=l.length) (k:Nat):frz A (k+2) (.sl id 0 n)=.fs 1 (ax l):=by
 have:=sn (off:=0) (xs:=ax l) h (by rw [List.drop_zero]; exact List.take_of_length_le (Nat.le_refl _)) (fun k x hx=>by
  obtain ⟨c,_,rfl⟩:=List.mem_map.1 hx
  exact aT _ _ _ _) k
 rw [hn,<-aH l]; exact this
end Tr
namespace Tr
open Go
open Cy (GC aT bi aH db)
open Clu (bb aX qx aA chA bh cd gj cC cJ bI cQ cj a7 cn)
section
variable {B:ac} {lv:AV} {l:List da}
theorem zQ {T:bb} {chv:AV} {A:ac} {id:Nat} (h:A[id]?=some (.row 5 false [aA T chv])):(∀k,k<5->aa k A (.ptr id 0 0)=some (.ptr id 0 k))/\af false 1 A (.ptr id 0 0)=some chv/\af false 1 A (.ptr id 0 1)=some (.int .i64 T.pick)/\af false 1 A (.ptr id 0 2)=some (.int .i64 T.place)/\af false 1 A (.ptr id 0 3)=some (.int .i64 T.travel):=
 ⟨fun k hk=>by simp [aa,h]; exact hk,eP (k:=5) (es:=[chv,.int .i64 T.pick,.int .i64 T.place,.int .i64 T.travel,.int .i64 T.blades]) h rfl,eP (k:=5) (es:=[chv,.int .i64 T.pick,.int .i64 T.place,.int .i64 T.travel,.int .i64 T.blades]) h rfl,eP (k:=5) (es:=[chv,.int .i64 T.pick,.int .i64 T.place,.int .i64 T.travel,.int .i64 T.blades]) h rfl,eP (k:=5) (es:=[chv,.int .i64 T.pick,.int .i64 T.place,.int .i64 T.travel,.int .i64 T.blades]) h rfl⟩
end
end Tr
namespace Tr
namespace Fa
open Go
open Cy (GC iR aT bi aH cH)
open Clu (bb aX aA chA be Chk iO isI M64 nH ir a7 bh cd bI cC cQ cj)
def A24 (P:ac) (tv sv:AV) (ks:List Int):ac:=P++[.row 5 false [tv],.row 4 false [sv],.row 1 false (ax ks)]
theorem A24_len (P:ac) (tv sv:AV) (ks:List Int):(A24 P tv sv ks).length=P.length+3:=by simp [A24]
theorem r24 (P:ac) (tv sv:AV) (ks:List Int) (W:ac):(A24 P tv sv ks++W)[P.length]?=some (.row 5 false [tv])/\(A24 P tv sv ks++W)[P.length+1]?=some (.row 4 false [sv])/\(A24 P tv sv ks++W)[P.length+2]?=some (.row 1 false (ax ks)):=by
 unfold A24
 refine ⟨?_,?_,?_⟩ <;> rw [List.append_assoc,List.getElem?_append_right (by omega)] <;> simp
theorem IB (P:ac) (tv sv:AV) (ks:List Int):(A24 P tv sv ks)[P.length+2]?=some (.row 1 false (ax ks)):=by
 have:=(r24 P tv sv ks []).2.2
 rw [List.append_nil] at this
 exact this
theorem s24z (P:ac) (tv sv:AV) (ks ks':List Int):(A24 P tv sv ks).set (P.length+2) (.row 1 false (ax ks'))=A24 P tv sv ks':=by
 unfold A24
 rw [List.set_append_right _ _ (by omega)]
 simp
def oR (l:List da):ac:=if l=[] then [] else [.row 2 (decide (1<l.length)) (l.map bY)]
def outV (P:ac) (l:List da):AV:=if l=[] then .nilS else .sl (P.length+3) 0 l.length
theorem l8 (P:ac) (tv sv:AV) (ks:List Int) (l:List da) (t:da) (hl:l.length<=1000):aO 2 16 (A24 P tv sv ks++oR l) (outV P l) (.fs 2 [bY t])=some (outV P (l++[t]),A24 P tv sv ks++oR (l++[t])):=by
 have hB:=A24_len P tv sv ks
 generalize A24 P tv sv ks=B at *
 have hne:l++[t]≠[]:=by simp
 have e1:outV P (l++[t])=.sl (P.length+3) 0 (l.length+1):=by unfold outV; rw [if_neg hne]; simp
 by_cases h:l=[]
 ·subst h
  simp [oR,outV,aO,aQ,hB]
 ·have e0:B++oR l=B++[.row 2 (decide (1<l.length)) (l.map bY)]:=by unfold oR; rw [if_neg h]
  have e2:B++oR (l++[t])=B++[.row 2 true (l.map bY++[bY t])]:=by
   have h1:0<l.length:=List.length_pos_iff.2 h
   unfold oR; rw [if_neg hne,decide_eq_true (by simp; omega)]; simp
  have hz:l.length≠0:=fun e=>h (List.length_eq_zero_iff.1 e)
  have e3:outV P l=.sl (P.length+3) 0 l.length:=by unfold outV; rw [if_neg h]
  rw [e0,e1,e2,e3]
  have hrow:(B++[Ent.row 2 (decide (1<l.length)) (l.map bY)])[P.length+3]?=some (.row 2 (decide (1<l.length)) (l.map bY)):=by rw [<-hB]; simp
  simp only [aO,du,hrow,List.length_map,List.length_singleton]
  rw [if_pos ⟨trivial,by omega,by omega,by omega⟩,if_pos ⟨trivial,trivial,hz⟩,<-hB]
  simp
section
variable {P:ac} {T:bb} {chv:AV} {s:be} {ov sv pv:AV} {free:Int}
theorem Cq (_hs:iO s ov sv pv) (ks:List Int) (W:ac) :
  aa 1 (A24 P (aA T chv) (aP s ov sv pv) ks++W) (.ptr (P.length+1) 0 0)=some (.ptr (P.length+1) 0 1)/\af false 1 (A24 P (aA T chv) (aP s ov sv pv) ks++W) (.ptr (P.length+1) 0 1)=some ov /\
  aa 2 (A24 P (aA T chv) (aP s ov sv pv) ks++W) (.ptr (P.length+1) 0 0)=some (.ptr (P.length+1) 0 2)/\af false 1 (A24 P (aA T chv) (aP s ov sv pv) ks++W) (.ptr (P.length+1) 0 2)=some sv /\
  aa 0 (A24 P (aA T chv) (aP s ov sv pv) ks++W) (.ptr (P.length+1) 0 0)=some (.ptr (P.length+1) 0 0)/\af false 1 (A24 P (aA T chv) (aP s ov sv pv) ks++W) (.ptr (P.length+1) 0 0)=some (.int .i64 s.period) /\
  aa 3 (A24 P (aA T chv) (aP s ov sv pv) ks++W) (.ptr P.length 0 0)=some (.ptr P.length 0 3)/\af false 1 (A24 P (aA T chv) (aP s ov sv pv) ks++W) (.ptr P.length 0 3)=some (.int .i64 T.travel):=by
 obtain ⟨r0,r1,_⟩:=r24 P (aA T chv) (aP s ov sv pv) ks W
 generalize A24 P (aA T chv) (aP s ov sv pv) ks++W=B at *
 refine ⟨by simp [aa,r1,aP],eP (k:=4) (es:=[.int .i64 s.period,ov,sv,pv]) r1 rfl,by simp [aa,r1,aP],eP (k:=4) (es:=[.int .i64 s.period,ov,sv,pv]) r1 rfl,by simp [aa,r1,aP],eP (k:=4) (es:=[.int .i64 s.period,ov,sv,pv]) r1 rfl,by simp [aa,r0,aA],eP (k:=5) (es:=[chv,.int .i64 T.pick,.int .i64 T.place,.int .i64 T.travel,.int .i64 T.blades]) r0 rfl⟩
abbrev s24 (P:ac) (free:Int) (n i:Nat):List AV:=pj (.int .i64 free) (.ptr P.length 0 0) (.ptr (P.length+1) 0 0) (.int .i64 (n:Int)) (.sl (P.length+2) 0 (n+1)) (.int .i64 (i:Int))
theorem qW (hs:iO s ov sv pv) (hol:s.order.length<=200) {n i:Nat} (hn:n<=100) (hi:1<=i) (hin:i<=n) :
  run (ai GC kM) 300 [.code eo] (s24 P free n i) (A24 P (aA T chv) (aP s ov sv pv) (inF s.order n i))=some (.normal (s24 P free n (i+1)) (A24 P (aA T chv) (aP s ov sv pv) (inF s.order n (i+1)))):=by
 unfold s24
 obtain ⟨k,rfl⟩:∃k,i=k+1:=⟨i-1,by omega⟩
 have hg:=fun ks=>Cq (P:=P) (T:=T) (chv:=chv) hs ks []
 simp only [List.append_nil] at hg
 have hr:∀ks,(A24 P (aA T chv) (aP s ov sv pv) ks)[P.length+2]?=some (.row 1 false (ax ks)):=fun ks=>IB _ _ _ _
 have hset:∀ks ks',(A24 P (aA T chv) (aP s ov sv pv) ks).set (P.length+2) (.row 1 false (ax ks'))=A24 P (aA T chv) (aP s ov sv pv) ks':=fun ks ks'=>s24z _ _ _ _ _
 have hl:=mC s.order (n:=n) (i:=k+1) (by omega)
 have b0':=cj ((k+1:Nat):Int) (n:Int)
 rw [decide_eq_true (by omega)] at b0'
 have b1:aq .sub (.int .i64 ((k+1:Nat):Int)) (.int .i64 1)=some (.int .i64 (k:Int)):=by rw [cd (by omega)]; congr 2; omega
 have b2:=aY (k+1) (by omega)
 have i1:=fJ (n:=n+1) (hr (inF s.order n (k+1))) (show k<n+1 by omega) .i64
 have i2:=fJ (n:=n+1) (hr (inF s.order n (k+1))) (show k+1<n+1 by omega) .i64
 have d1:=jh (hr (inF s.order n (k+1))) (show k<(inF s.order n (k+1)).length by omega)
 rw [mD s.order (by omega)] at d1
 have s1:=lK (hr (inF s.order n (k+1))) (show k+1<(inF s.order n (k+1)).length by omega) (kF s.order k)
 rw [hset] at s1
 obtain ⟨ks1,hks1⟩:∃ks1,ks1=(inF s.order n (k+1)).set (k+1) (kF s.order k):=⟨_,rfl⟩
 rw [<-hks1] at s1
 have hl1:ks1.length=n+1:=by rw [hks1,List.length_set,hl]
 obtain ⟨h1,h2,_⟩:=hg ks1
 have f1:∀A n,frz A n ov=ov:=fun A n=>hs.o.frz n
 have m1:=ir hs.o hol ((k+1:Nat):Int)
 have m2:=ir hs.o hol (k:Int)
 have b3:=cC (pos s.order ((k+1:Nat):Int)) (pos s.order (k:Int))
 have hk:=te s.order k
 have ek:kF s.order (k+1)=kF s.order k+(if pos s.order ((k+1:Nat):Int)<pos s.order (k:Int) then 1 else 0):=by simp only [kF,hF]; push_cast; rfl
 have m1:M64 [ov,.int .i64 ((k+1:Nat):Int)]=some (.int .i64 (pos s.order ((k+1:Nat):Int))):=m1
 have m2:M64 [ov,.int .i64 (k:Int)]=some (.int .i64 (pos s.order (k:Int))):=m2
 by_cases hp:pos s.order ((k+1:Nat):Int)<pos s.order (k:Int)
 ·rw [decide_eq_true hp] at b3
  rw [if_pos hp] at ek
  have i3:=fJ (n:=n+1) (hr ks1) (show k+1<n+1 by omega) .i64
  have d3:=jh (hr ks1) (show k+1<ks1.length by omega)
  have e3:ks1.getD (k+1) 0=kF s.order k:=by rw [hks1,jp,if_pos ⟨rfl,by omega⟩]
  rw [e3] at d3
  have b4:aq .add (.int .i64 (kF s.order k)) (.int .i64 1)=some (.int .i64 (kF s.order (k+1))):=by rw [ek]; exact bh (by omega)
  have s3:=lK (hr ks1) (show k+1<ks1.length by omega) (kF s.order (k+1))
  rw [hset,hks1,(oJ s.order (i:=k+1) (by omega) (kF s.order k)).1,<-hks1] at s3
  generalize A24 P (aA T chv) (aP s ov sv pv) (inF s.order n (k+1))=B0 at *
  generalize A24 P (aA T chv) (aP s ov sv pv) ks1=B1 at *
  generalize A24 P (aA T chv) (aP s ov sv pv) (inF s.order n (k+1+1))=B2 at *
  generalize kF s.order (k+1)=z1 at *
  generalize kF s.order k=z0 at *
  generalize pos s.order ((k+1:Nat):Int)=p1 at *
  generalize pos s.order (k:Int)=p0 at *
  generalize ((k+1+1:Nat):Int)=K2 at *
  generalize ((k+1:Nat):Int)=K1 at *
  generalize (k:Int)=K0 at *
  generalize (n:Int)=N at *
  simp [eo,b0',b1,b2,b3,b4,i1,i2,i3,d1,d3,s1,s3,h1,h2,f1,aT,m1,m2,cq,-aq,-af,-aE,-au,-aa,-frz]
 ·rw [decide_eq_false hp] at b3
  rw [if_neg hp] at ek
  have e2:ks1=inF s.order n (k+1+1):=by
   rw [hks1,<-(oJ s.order (n:=n) (i:=k+1) (by omega) 0).2,ek,Int.add_zero]
  rw [<-e2]
  generalize A24 P (aA T chv) (aP s ov sv pv) (inF s.order n (k+1))=B0 at *
  generalize A24 P (aA T chv) (aP s ov sv pv) ks1=B1 at *
  generalize kF s.order k=z0 at *
  generalize pos s.order ((k+1:Nat):Int)=p1 at *
  generalize pos s.order (k:Int)=p0 at *
  generalize ((k+1+1:Nat):Int)=K2 at *
  generalize ((k+1:Nat):Int)=K1 at *
  generalize (k:Int)=K0 at *
  generalize (n:Int)=N at *
  simp [eo,b0',b1,b2,b3,i1,i2,d1,s1,h1,h2,f1,aT,m1,m2,cq,-aq,-af,-aE,-au,-aa,-frz]
theorem loop24 (hs:iO s ov sv pv) (hol:s.order.length<=200) {n:Nat} (hn:n<=100):∀(c i m:Nat),i+c=n+1->1<=i->c<m ->
  bM (evC (ai GC kM) 300 eo) gF m (s24 P free n i) (A24 P (aA T chv) (aP s ov sv pv) (inF s.order n i)) =
   some (.exit 0 ((s24 P free n (n+1)).set 14 (.bool false)) (A24 P (aA T chv) (aP s ov sv pv) (inF s.order n (n+1)))):=by
 intro c
 induction c with
 | zero=>
  intro i m hi _ hm
  obtain ⟨m,rfl⟩:∃j,m=j+1:=⟨m-1,by omega⟩
  obtain rfl:i=n+1:=by omega
  have b0':=cj ((n+1:Nat):Int) (n:Int)
  rw [decide_eq_false (by omega)] at b0'
  unfold s24
  rw [aK,qh]
  generalize ((n+1:Nat):Int)=N1 at *
  simp [eo,b0',-aq]
 | succ c ih=>
  intro i m hi h1 hm
  obtain ⟨m,rfl⟩:∃j,m=j+1:=⟨m-1,by omega⟩
  have hr:=qW (P:=P) (T:=T) (chv:=chv) (free:=free) hs hol hn h1 (show i<=n by omega)
  unfold s24 at hr ⊢
  rw [aK,qh,hr]
  exact ih (i+1) m (by omega) (by omega) (by omega)
abbrev ox (P:ac) (free:Int) (n:Nat) (l:List da) (r R:Nat) (ov:AV) (m p:Nat):List AV:=ki (.int .i64 free) (.ptr P.length 0 0) (.ptr (P.length+1) 0 0) (.sl (P.length+2) 0 (n+1)) (outV P l) (.int .i64 (r:Int)) (.int .i64 (R:Int)) (.int .i64 (r:Int)) ov (.int .i64 (m:Int)) (.int .i64 (p:Int))
theorem oA (hc:Chk T s) (hv:aX T) (hs:iO s ov sv pv) (hf:0<=free/\free<=2000000) {l:List da} (hl:l.length<=500) {r R p:Nat} (hr:r<=100) (hp:p<s.order.length) :
  ∃l',l'=(if kF s.order (s.order.getD p 0).toNat<=r then l++[tk T s free r (s.order.getD p 0)] else l) /\
  run (ai GC kM) 300 [.code dD] (ox P free T.ch.length l r R ov s.order.length p) (A24 P (aA T chv) (aP s ov sv pv) (inF s.order T.ch.length (T.ch.length+1))++oR l) =
   some (.normal (ox P free T.ch.length l' r R ov s.order.length (p+1)) (A24 P (aA T chv) (aP s ov sv pv) (inF s.order T.ch.length (T.ch.length+1))++oR l')):=by
 refine ⟨_,rfl,?_⟩
 unfold ox
 obtain ⟨c1,c2,c3,c4,c5⟩:=eC hc
 have hn4:=hv.2.2.2.1
 have hmem:s.order.getD p 0∈s.order:=by rw [List.getD_eq_getElem?_getD,List.getElem?_eq_getElem hp]; exact List.getElem_mem hp
 obtain ⟨t,ht⟩:∃t:Nat,s.order.getD p 0=(t:Int):=⟨(s.order.getD p 0).toNat,by have:=c5 _ hmem; omega⟩
 have htn:t<=T.ch.length:=by have:=c5 _ hmem; omega
 have hop:s.order[p]=(t:Int):=by rw [<-ht,List.getD_eq_getElem?_getD,List.getElem?_eq_getElem hp]; rfl
 rw [ht,Int.toNat_natCast]
 have x1:=hs.o.int (A:=A24 P (aA T chv) (aP s ov sv pv) (inF s.order T.ch.length (T.ch.length+1))++oR l) _ _ (List.getElem?_eq_getElem hp) .i64
 rw [hop] at x1
 have b0':=bw p s.order.length .i64
 rw [decide_eq_true hp] at b0'
 have b9:=aY p (by omega)
 obtain ⟨h1,h2,h3,h4,h5,h6,h7,h8⟩:=Cq (P:=P) (T:=T) (chv:=chv) hs (inF s.order T.ch.length (T.ch.length+1)) (oR l)
 have hrow:(A24 P (aA T chv) (aP s ov sv pv) (inF s.order T.ch.length (T.ch.length+1))++oR l)[P.length+2]?=some (.row 1 false (ax (inF s.order T.ch.length (T.ch.length+1)))):=(r24 _ _ _ _ _).2.2
 have i1:=fJ (n:=T.ch.length+1) hrow (show t<T.ch.length+1 by omega) .i64
 have d1:=jh hrow (show t<(inF s.order T.ch.length (T.ch.length+1)).length by rw [mC _ (by omega)]; omega)
 rw [mD s.order (by omega)] at d1
 have b1:=cj (kF s.order t) (r:Int)
 have y0:=hs.st.int (A:=A24 P (aA T chv) (aP s ov sv pv) (inF s.order T.ch.length (T.ch.length+1))++oR l) _ _ (List.getElem?_eq_getElem (show 0<s.starts.length by omega)) .i64
 have y1:=hs.st.int (A:=A24 P (aA T chv) (aP s ov sv pv) (inF s.order T.ch.length (T.ch.length+1))++oR l) _ _ (List.getElem?_eq_getElem (show t<s.starts.length by omega)) .i64
 have e0:s.starts[0]'(by omega)=stD s 0:=by unfold stD; rw [List.getD_eq_getElem?_getD,List.getElem?_eq_getElem (by omega)]; rfl
 have e1:s.starts[t]'(by omega)=stD s t:=by unfold stD; rw [List.getD_eq_getElem?_getD,List.getElem?_eq_getElem (by omega)]; rfl
 rw [e0] at y0
 rw [e1] at y1
 have y0:au 1 (A24 P (aA T chv) (aP s ov sv pv) (inF s.order T.ch.length (T.ch.length+1))++oR l) sv (.int .i64 0)=some (.fp [.int .i64 (stD s 0)]):=y0
 have w:=eY hv
 have s0:=sW hc 0
 have st:=sW hc t
 have hmul:0<=(r:Int)*s.period/\(r:Int)*s.period<=100*1000000:=by
  refine ⟨Int.mul_nonneg (by omega) (by omega),?_⟩
  exact Int.mul_le_mul (by omega) c4.2 (by omega) (by omega)
 have b2:aq .add (.int .i64 free) (.int .i64 T.travel)=some (.int .i64 (free+T.travel)):=bh (by omega)
 have b3:aq .sub (.int .i64 (free+T.travel)) (.int .i64 (stD s 0))=some (.int .i64 (bsF T s free)):=cd (by omega)
 have b4:=Dp (r:Int) s.period (by unfold inI; omega)
 have b5:aq .add (.int .i64 (bsF T s free)) (.int .i64 ((r:Int)*s.period))=some (.int .i64 (bsF T s free+(r:Int)*s.period)):=bh (by unfold bsF; omega)
 have b6:aq .add (.int .i64 (bsF T s free+(r:Int)*s.period)) (.int .i64 (stD s t))=some (.int .i64 (bsF T s free+(r:Int)*s.period+stD s t)):=bh (by unfold bsF; omega)
 have ap:=l8 P (aA T chv) (aP s ov sv pv) (inF s.order T.ch.length (T.ch.length+1)) l (tk T s free r (t:Int)) (by omega)
 have etk:tk T s free r (t:Int)=((t:Int),bsF T s free+(r:Int)*s.period+stD s t):=by simp only [tk,Int.toNat_natCast]
 rw [etk] at ap ⊢
 have ap:aO 2 16 (A24 P (aA T chv) (aP s ov sv pv) (inF s.order T.ch.length (T.ch.length+1))++oR l) (outV P l) (.fs 2 [.agg [.int .i64 (t:Int),.int .i64 (bsF T s free+(r:Int)*s.period+stD s t)]])=_:=ap
 have hbf:bD 2 [.agg [.int .i64 (t:Int),.int .i64 (bsF T s free+(r:Int)*s.period+stD s t)]]=some (.fs 2 [.agg [.int .i64 (t:Int),.int .i64 (bsF T s free+(r:Int)*s.period+stD s t)]]):=rfl
 by_cases hk:kF s.order t<=r
 ·rw [decide_eq_true hk] at b1
  rw [if_pos hk]
  generalize l++[((t:Int),bsF T s free+(r:Int)*s.period+stD s t)]=l2 at *
  generalize A24 P (aA T chv) (aP s ov sv pv) (inF s.order T.ch.length (T.ch.length+1))++oR l2=B1 at *
  generalize A24 P (aA T chv) (aP s ov sv pv) (inF s.order T.ch.length (T.ch.length+1))++oR l=B0 at *
  generalize bsF T s free+(r:Int)*s.period+stD s t=z5 at *
  generalize bsF T s free+(r:Int)*s.period=z4 at *
  generalize (r:Int)*s.period=z3 at *
  generalize bsF T s free=z2 at *
  generalize free+T.travel=z1 at *
  generalize stD s 0=y0' at *
  generalize stD s t=y1' at *
  generalize kF s.order t=z0 at *
  generalize ((p+1:Nat):Int)=P1 at *
  generalize (p:Int)=P0 at *
  simp [dD,b0',b1,b2,b3,b4,b5,b6,b9,x1,i1,d1,h3,h4,h5,h6,h7,h8,y0,y1,hbf,ap,-aq,-af,-au,-aa,-bD]
 ·rw [decide_eq_false hk] at b1
  rw [if_neg hk]
  generalize A24 P (aA T chv) (aP s ov sv pv) (inF s.order T.ch.length (T.ch.length+1))++oR l=B0 at *
  generalize kF s.order t=z0 at *
  generalize ((p+1:Nat):Int)=P1 at *
  generalize (p:Int)=P0 at *
  simp [dD,b0',b1,b9,x1,i1,d1,-aq,-af,-au,-aa,-bD]
theorem q6 (hc:Chk T s) (hv:aX T) (hs:iO s ov sv pv) (hf:0<=free/\free<=2000000) {r R:Nat} (hr:r<=100):∀(c p m:Nat) (l:List da),p+c=s.order.length->l.length+c<=400->c<m ->
  ∃l',l'=l++((s.order.drop p).filter fun t=>decide (kF s.order t.toNat<=r)).map (tk T s free r)/\l'.length<=l.length+c /\
  bM (evC (ai GC kM) 300 dD) dP m (ox P free T.ch.length l r R ov s.order.length p) (A24 P (aA T chv) (aP s ov sv pv) (inF s.order T.ch.length (T.ch.length+1))++oR l) =
   some (.exit 4 ((ox P free T.ch.length l' r R ov s.order.length s.order.length).set 22 (.bool false)) (A24 P (aA T chv) (aP s ov sv pv) (inF s.order T.ch.length (T.ch.length+1))++oR l')):=by
 intro c
 induction c with
 | zero=>
  intro p m l hp hl hm
  obtain ⟨m,rfl⟩:∃j,m=j+1:=⟨m-1,by omega⟩
  obtain rfl:p=s.order.length:=by omega
  refine ⟨l,by rw [List.drop_length]; simp,by omega,?_⟩
  have b0':=bw s.order.length s.order.length .i64
  rw [decide_eq_false (by omega)] at b0'
  unfold ox
  rw [aK,qg]
  simp [dD,b0',-aq]
 | succ c ih=>
  intro p m l hp hl hm
  obtain ⟨m,rfl⟩:∃j,m=j+1:=⟨m-1,by omega⟩
  have hpl:p<s.order.length:=by omega
  obtain ⟨l1,h1,h2⟩:=oA (P:=P) (T:=T) (chv:=chv) (R:=R) hc hv hs hf (l:=l) (by omega) hr hpl
  have hl1:l1.length<=l.length+1:=by rw [h1]; split <;> simp
  obtain ⟨l',h3,h4,h5⟩:=ih (p+1) m l1 (by omega) (by omega) (by omega)
  have hg:s.order.getD p 0=s.order[p]:=by rw [List.getD_eq_getElem?_getD,List.getElem?_eq_getElem hpl]; rfl
  refine ⟨l',?_,by omega,?_⟩
  ·rw [h3,h1,hg,List.drop_eq_getElem_cons hpl,List.filter_cons]
   by_cases hk:kF s.order (s.order[p]).toNat<=r
   ·rw [if_pos hk,decide_eq_true hk,if_pos rfl,List.map_cons,List.append_assoc]; rfl
   ·rw [if_neg hk,decide_eq_false hk,if_neg (by decide)]
  ·unfold ox at h2 h5 ⊢
   rw [aK,qg,h2]
   exact h5
abbrev s24c (P:ac) (free:Int) (n:Nat) (l:List da) (R r:Nat):List AV:=pi (.int .i64 free) (.ptr P.length 0 0) (.ptr (P.length+1) 0 0) (.sl (P.length+2) 0 (n+1)) (outV P l) (.int .i64 (R:Int)) (.int .i64 (r:Int))
theorem oz {n r R:Nat} {l l2:List da} {ks:List Int} (hs:iO s ov sv pv) (hr:r<R) (hR:R<=1000)
  (h3:bM (evC (ai GC kM) 300 dD) dP 300 (ki (.int .i64 free) (.ptr P.length 0 0) (.ptr (P.length+1) 0 0) (.sl (P.length+2) 0 (n+1)) (outV P l) (.int .i64 (r:Int)) (.int .i64 (R:Int)) (.int .i64 (r:Int)) ov (.int .i64 (s.order.length:Int)) (.int .i64 0)) (A24 P (aA T chv) (aP s ov sv pv) ks++oR l) =
   some (.exit 4 ((ox P free n l2 r R ov s.order.length s.order.length).set 22 (.bool false)) (A24 P (aA T chv) (aP s ov sv pv) ks++oR l2))) :
  run (ai GC kM) 300 [.code fI] (s24c P free n l R r) (A24 P (aA T chv) (aP s ov sv pv) ks++oR l)=some (.normal (s24c P free n l2 R (r+1)) (A24 P (aA T chv) (aP s ov sv pv) ks++oR l2)):=by
 unfold ox at h3
 unfold s24c
 have b0':=bw r R .i64
 rw [decide_eq_true hr] at b0'
 have b1:=aY r (by omega)
 obtain ⟨g1,g2,_⟩:=Cq (P:=P) (T:=T) (chv:=chv) hs ks (oR l)
 have ln:=hs.o.len
 rw [aH] at ln
 generalize A24 P (aA T chv) (aP s ov sv pv) ks++oR l=B0 at *
 generalize A24 P (aA T chv) (aP s ov sv pv) ks++oR l2=B1 at *
 generalize (s.order.length:Int)=M at *
 generalize ((r+1:Nat):Int)=r1 at *
 simp [fI,b0',b1,g1,g2,ln,yX h3,-aq,-af,-aa,-ay]
theorem loop24c (hc:Chk T s) (hv:aX T) (hs:iO s ov sv pv) (hf:0<=free/\free<=2000000) {R:Nat} (hR:R<=6):∀(c r m:Nat),r+c=R->(b7 T s free r).length<=5*r->c<m ->
  (b7 T s free R).length<=5*R /\
  bM (evC (ai GC kM) 300 fI) gE m (s24c P free T.ch.length (b7 T s free r) R r) (A24 P (aA T chv) (aP s ov sv pv) (inF s.order T.ch.length (T.ch.length+1))++oR (b7 T s free r)) =
   some (.exit 2 ((s24c P free T.ch.length (b7 T s free R) R R).set 18 (.bool false)) (A24 P (aA T chv) (aP s ov sv pv) (inF s.order T.ch.length (T.ch.length+1))++oR (b7 T s free R))):=by
 intro c
 induction c with
 | zero=>
  intro r m hr hl hm
  obtain ⟨m,rfl⟩:∃j,m=j+1:=⟨m-1,by omega⟩
  obtain rfl:r=R:=by omega
  refine ⟨hl,?_⟩
  have b0':=bw r r .i64
  rw [decide_eq_false (by omega)] at b0'
  unfold s24c
  rw [aK,qf]
  generalize b7 T s free r=l at *
  simp [fI,b0',-aq]
 | succ c ih=>
  intro r m hr hl hm
  obtain ⟨m,rfl⟩:∃j,m=j+1:=⟨m-1,by omega⟩
  obtain ⟨c1,_,_,_,_⟩:=eC hc
  have hn4:=hv.2.2.2.1
  obtain ⟨l',h1,h2,h3⟩:=q6 (P:=P) (T:=T) (chv:=chv) (R:=R) hc hv hs hf (r:=r) (by omega) s.order.length 0 300 (b7 T s free r) (by omega) (by omega) (by omega)
  have e:l'=b7 T s free (r+1):=by
   rw [h1,List.drop_zero]
   unfold b7 cyc
   rw [List.range_succ,List.flatMap_append,List.flatMap_cons,List.flatMap_nil,List.append_nil]
  rw [e] at h2 h3
  obtain ⟨q1,q2⟩:=ih (r+1) m (by omega) (by omega) (by omega)
  refine ⟨q1,?_⟩
  have h3:bM (evC (ai GC kM) 300 dD) dP 300 (ki (.int .i64 free) (.ptr P.length 0 0) (.ptr (P.length+1) 0 0) (.sl (P.length+2) 0 (T.ch.length+1)) (outV P (b7 T s free r)) (.int .i64 (r:Int)) (.int .i64 (R:Int)) (.int .i64 (r:Int)) ov (.int .i64 (s.order.length:Int)) (.int .i64 0)) _=_:=h3
  have hrun:=oz (free:=free) (n:=T.ch.length) hs (show r<R by omega) (by omega) h3
  unfold s24c at hrun q2 ⊢
  rw [aK,qf,hrun]
  exact q2
end
end Fa
end Tr
namespace Tr
open Go
open Cy (GC iR aT bi aH cH db)
open Clu (bb aX aA chA be Chk iO isI M64 nH ir a7 bh cd cJ bI cC cQ cj dZ dQ gR fQ)
def H24:aD:=fun _=>bA (ai GC kM) 300 HO
theorem z6:an Tryz.prog GC 19 H24:=(aN (aj A9) rfl at24 GT (a5.cons (M:=_) rfl a5.nil)).y
section
open Fa (IB)
variable {T:bb} {chv:AV} {s:be} {ov sv pv:AV} {free:Int}
open Classical in
theorem HA (P:ac) (hb:SlA 2 (T.ch.map chA) chv) (hl:T.ch.length<=200) (hs:iO s ov sv pv) (hok:zf T s free) {R:Nat} (hR:kF s.order T.ch.length+1=(R:Int)) :
  bA (ai GC kM) 300 HO [aA T chv,aP s ov sv pv,.int .i64 free] P=some (.tup [Fa.outV P (b7 T s free R),.int .i64 0],Fa.A24 P (aA T chv) (aP s ov sv pv) (inF s.order T.ch.length (T.ch.length+1))++Fa.oR (b7 T s free R)):=by
 have m1:=zz hb hl
 have m2:=Clu.sP hb hl hs
 have m3:=fK free 0 2000000
 have ft:=fun A=>a7 (T:=T) (fun A n=>hb.frz (A:=A) n) A 3
 have fs:∀A,frz A 4 (aP s ov sv pv)=aP s ov sv pv:=fun A=>by
  show AV.agg [_,frz A 3 ov,frz A 3 sv,frz A 3 pv]=_
  rw [hs.o.frz,hs.st.frz,hs.pr.frz]; rfl
 obtain ⟨L,hL⟩:∃L,L=P.length:=⟨_,rfl⟩
 have bx0:bm 5 (aA T chv) P=some (.ptr L 0 0,P++[.row 5 false [aA T chv]]):=by rw [hL]; rfl
 have bx1:bm 4 (aP s ov sv pv) (P++[.row 5 false [aA T chv]])=some (.ptr (L+1) 0 0,P++[.row 5 false [aA T chv],.row 4 false [aP s ov sv pv]]):=by
  have e:P++[.row 5 false [aA T chv],.row 4 false [aP s ov sv pv]]=(P++[Ent.row 5 false [aA T chv]])++[.row 4 false [aP s ov sv pv]]:=by rw [List.append_assoc]; rfl
  rw [e,hL]
  have:P.length+1=(P++[Ent.row 5 false [aA T chv]]).length:=by simp
  rw [this]; rfl
 have ct:(cellsOf (aA T chv)).length=5:=rfl
 have cs:(cellsOf (aP s ov sv pv)).length=4:=rfl
 obtain ⟨A0,hA0⟩:∃A:ac,A=P++[.row 5 false [aA T chv],.row 4 false [aP s ov sv pv]]:=⟨_,rfl⟩
 have hA00:A0[L]?=some (.row 5 false [aA T chv]):=by rw [hA0,hL,List.getElem?_append_right (by omega)]; simp
 have hA01:A0[L+1]?=some (.row 4 false [aP s ov sv pv]):=by rw [hA0,hL,List.getElem?_append_right (by omega)]; simp
 have lt:af true 5 A0 (.ptr L 0 0)=some (aA T chv):=by simp only [af,hA00]; rfl
 have lsA:af true 4 A0 (.ptr (L+1) 0 0)=some (aP s ov sv pv):=by simp only [af,hA01]; rfl
 obtain ⟨t0,lch,_,_,_⟩:=zQ (T:=T) (chv:=chv) hA00
 have fa0:=t0 0 (by omega)
 have lnc:=hb.len
 rw [List.length_map] at lnc
 rw [<-hA0] at bx1
 have hagg:(.agg [.int .i64 s.period,ov,sv,pv]:AV)=aP s ov sv pv:=rfl
 rw [hagg] at m2
 obtain ⟨h1,h2,h3⟩:=hok
 rw [decide_eq_true h1] at m1
 rw [decide_eq_true h2] at m2
 rw [ey.2 h3] at m3
 have hv:=h1.1
 have hn4:=hv.2.2.2.1
 have hk:=te s.order T.ch.length
 have lpa:=Fa.loop24 (P:=P) (T:=T) (chv:=chv) (free:=free) hs (by rw [(eC h2).1]; omega) (n:=T.ch.length) (by omega) T.ch.length 1 300 (by omega) (by omega) (by omega)
 have hin:inF s.order T.ch.length 1=List.replicate (T.ch.length+1) 0:=by
  unfold inF
  simp [kF,List.replicate_succ]
 rw [hin] at lpa
 have b1:aq .add (.int .i64 (T.ch.length:Int)) (.int .i64 1)=some (.int .i64 ((T.ch.length+1:Nat):Int)):=aY _ (by omega)
 have mk:cg 1 8 (.int .i64 0) A0 (.int .i64 ((T.ch.length+1:Nat):Int)) (.int .i64 ((T.ch.length+1:Nat):Int))=some (.sl (L+2) 0 (T.ch.length+1),Fa.A24 P (aA T chv) (aP s ov sv pv) (List.replicate (T.ch.length+1) 0)):=by
  simp only [cg]
  rw [if_pos ⟨by omega,by omega,by omega,by omega,rfl,rfl,by omega⟩,Int.toNat_natCast,hA0]
  unfold Fa.A24 ax
  rw [List.map_replicate,List.append_assoc,hL]
  simp
 obtain ⟨lpl,lpc⟩:=Fa.loop24c (P:=P) (chv:=chv) (R:=R) h2 hv hs h3 (by omega) R 0 300 (by omega) (by simp [b7]) (by omega)
 have hf0:b7 T s free 0=[]:=rfl
 rw [hf0] at lpc
 have hor:Fa.A24 P (aA T chv) (aP s ov sv pv) (inF s.order T.ch.length (T.ch.length+1))++Fa.oR []=Fa.A24 P (aA T chv) (aP s ov sv pv) (inF s.order T.ch.length (T.ch.length+1)):=by
  unfold Fa.oR; rw [if_pos rfl,List.append_nil]
 rw [hor] at lpc
 unfold Fa.s24 at lpa
 unfold Fa.s24c at lpc
 rw [<-hL] at lpa lpc
 have lpc:bM (evC (ai GC kM) 300 fI) gE 300 (pi (.int .i64 free) (.ptr L 0 0) (.ptr (L+1) 0 0) (.sl (L+2) 0 (T.ch.length+1)) .nilS (.int .i64 (R:Int)) (.int .i64 0)) _=_:=lpc
 have lpa:bM (evC (ai GC kM) 300 eo) gF 300 (pj (.int .i64 free) (.ptr L 0 0) (.ptr (L+1) 0 0) (.int .i64 (T.ch.length:Int)) (.sl (L+2) 0 (T.ch.length+1)) (.int .i64 1)) _=_:=lpa
 have hrow:=IB P (aA T chv) (aP s ov sv pv) (inF s.order T.ch.length (T.ch.length+1))
 rw [<-hL] at hrow
 have i1:=fJ (n:=T.ch.length+1) hrow (show T.ch.length<T.ch.length+1 by omega) .i64
 have d1:=jh hrow (show T.ch.length<(inF s.order T.ch.length (T.ch.length+1)).length by rw [mC _ (by omega)]; omega)
 rw [mD s.order (by omega)] at d1
 have b2:aq .add (.int .i64 (kF s.order T.ch.length)) (.int .i64 1)=some (.int .i64 (R:Int)):=by rw [bh (by omega),hR]
 obtain ⟨l,hll⟩:∃l,l=b7 T s free R:=⟨_,rfl⟩
 rw [<-hll] at lpc ⊢
 clear hA00 hA01 hA0 hin hrow t0 lpl hor
 generalize Fa.outV P l=OV1 at *
 generalize Fa.A24 P (aA T chv) (aP s ov sv pv) (inF s.order T.ch.length (T.ch.length+1))++Fa.oR l=B2 at *
 generalize Fa.A24 P (aA T chv) (aP s ov sv pv) (inF s.order T.ch.length (T.ch.length+1))=B1 at *
 generalize Fa.A24 P (aA T chv) (aP s ov sv pv) (List.replicate (T.ch.length+1) 0)=B0 at *
 generalize P++[Ent.row 5 false [aA T chv]]=P1 at *
 generalize aA T chv=tv at *
 generalize aP s ov sv pv=sA at *
 generalize kF s.order T.ch.length=z at *
 generalize ((T.ch.length+1:Nat):Int)=N1 at *
 generalize hN:(T.ch.length:Int)=N at *
 rw [bH _ _ rfl]
 simp [HO,bx0,bx1,ct,cs,lt,lsA,m1,m2,m3,ft,fs,aT,fa0,lch,lnc,b1,b2,mk,FQ lpa,FP lpc,i1,d1,eH,cq,-bm,-af,-aa,-au,-ay,-cg,-frz,-cellsOf,-aq,-fK]
end
def ngF (n i:Nat):List Int:=rJ (fun _=>-1) (fun _=>0) n i
theorem jK (n i:Nat):(ngF n i).length=n:=ED _ _ _ _
theorem xJ (n:Nat):ngF n n=List.replicate n (-1):=by
 unfold ngF
 rw [EF]
 apply List.ext_getElem
 ·simp
 ·intro i _ _; simp
theorem xI (n:Nat):ngF n 0=List.replicate n 0:=by
 apply List.ext_getElem
 ·simp [ngF,rJ]
 ·intro i _ _; simp [ngF,rJ]
def shT (p:Int) (r:Nat) (t:da):da:=(t.1,t.2+(r:Int)*p)
theorem L2 {X:ac} {id:Nat} {g:Bool} {l:List da} (h:X[id]?=some (.row 2 g (l.map bY))) {i:Nat} {t:da} (ht:l[i]?=some t):aa 0 X (.ptr id i 0)=some (.ptr id i 0)/\aa 1 X (.ptr id i 0)=some (.ptr id i 1)/\af false 1 X (.ptr id i 0)=some (.int .i64 t.1)/\af false 1 X (.ptr id i 1)=some (.int .i64 t.2):=by
 have e:(l.map bY)[i]?=some (bY t):=by rw [List.getElem?_map,ht]; rfl
 refine ⟨by simp [aa,h],by simp [aa,h],?_,?_⟩
 ·simp only [af,h,e]; rfl
 ·simp only [af,h,e]; rfl
theorem DD {X:ac} {s:be} (h:X[2]?=some (.row 4 false [gR s])):aa 0 X (.ptr 2 0 0)=some (.ptr 2 0 0)/\aa 1 X (.ptr 2 0 0)=some (.ptr 2 0 1)/\af false 1 X (.ptr 2 0 0)=some (.int .i64 s.period)/\af false 1 X (.ptr 2 0 1)=some (slA 1 (ax s.order)):=by
 refine ⟨by simp [aa,h],by simp [aa,h],?_,?_⟩
 ·exact eP (k:=4) (es:=[.int .i64 s.period,slA 1 (ax s.order),slA 1 (ax s.starts),slA 1 (ax s.proof)]) h rfl
 ·exact eP (k:=4) (es:=[.int .i64 s.period,slA 1 (ax s.order),slA 1 (ax s.starts),slA 1 (ax s.proof)]) h rfl
section
variable {X:ac} {s:be} {last:List da}
end
end Tr
namespace Tr
open Go
open Cy (GC aT bi aH db)
open Clu (bb aX aA chA be Chk iO a7 bh cd cJ bI cC cQ cj dZ dQ gR fQ)
theorem pT {T:bb} {s:be} (hc:Chk T s) (free:Int):∀R:Nat,∃rest,b7 T s free (R+1)=(0,free+T.travel) :: rest
 | 0=>by
  have hO:=fY hc.1
  obtain ⟨a,r,ho⟩:∃a r,s.order=a :: r:=by
   cases h:s.order with
   | nil=>have:=hO.len; rw [h] at this; simp at this
   | cons a r=>exact ⟨a,r,rfl⟩
  have ha:a=0:=by have:=hO.z; rw [ho] at this; exact this
  subst ha
  obtain ⟨p,hp⟩:∃p:Int->Bool,p=fun t=>decide (kF s.order t.toNat<=((0:Nat):Int)):=⟨_,rfl⟩
  have hp0:p 0=true:=by rw [hp]; simp [kF]
  refine ⟨(r.filter p).map (tk T s free 0),?_⟩
  rw [dv]
  show []++(s.order.filter fun t=>decide (kF s.order t.toNat<=((0:Nat):Int))).map (tk T s free 0)=_
  rw [<-hp,List.nil_append,ho,List.filter_cons,if_pos hp0,List.map_cons]
  congr 1
  refine Prod.ext rfl ?_
  show bsF T s free+((0:Nat):Int)*s.period+stD s 0=free+T.travel
  unfold bsF
  rw [show ((0:Nat):Int)*s.period=0 from Int.zero_mul _]
  omega
 | R+1=>by
  obtain ⟨rest,h⟩:=pT hc free R
  exact ⟨rest++cyc T s free (R+1),by rw [dv,h]; rfl⟩
theorem tB {esz bytes:Nat} (he:0<esz) (hb:0<bytes) {A:ac} {N:Nat} (hN:N=A.length) {xs:List AV} {xv:AV} (hs:aQ esz (A++[.row esz false []]) xv=some xs) (hl:xs.length*bytes<=140737488355328):aO esz bytes (A++[.row esz false []]) (.sl N 0 0) xv=some (.sl (N+1) 0 xs.length,A++[.dead,.row esz false xs]):=by
 subst hN
 have hr:(A++[Ent.row esz false []])[A.length]?=some (.row esz false []):=by simp
 simp only [aO,hs,hr]
 rw [if_pos ⟨trivial,he,hb,by rw [Nat.zero_add]; exact hl⟩,if_neg (by simp)]
 simp
theorem zT {L n off:Nat} (h:L=off+(n+1)):(L:Int)-n-1=off:=by omega
theorem xc {L n off:Nat} (h:L=off+(n+1)):L-off=n+1:=by omega
theorem xb {L n off:Nat} (h:L=off+(n+1)):off<=L:=by omega
theorem DO {L n off:Nat} (h:L=off+(n+1)) (ho:off<=1000) : -9223372036854775808<=(L:Int)-n-1/\(L:Int)-n-1<=9223372036854775807:=by omega
theorem Ei (T:bb) (s:be) (free:Int) (k r:Nat) (t:Int):(shT s.period r ∘ tk T s free k) t=tk T s free (k+r) t:=by
 refine Prod.ext rfl ?_
 show bsF T s free+(k:Int)*s.period+stD s t.toNat+(r:Int)*s.period=bsF T s free+((k+r:Nat):Int)*s.period+stD s t.toNat
 rw [show ((k+r:Nat):Int)=(k:Int)+r by omega,Int.add_mul]
 omega
end Tr
end Go.Proofs.YtfkcoekicjjndaaGreat
