import Derived.Test.YtfkcoekicjjndaaGreatUA07
import Derived.Test.YtfkcoekicjjndaaGreatChecked
import Derived.KernelRfl
import Derived.Lib.AppendZerosOnto
import Derived.Shelf.RegionOpenPlain
import Derived.Test.YtfkcoekicjjndaaGreatUA03
set_option maxRecDepth 100000
set_option maxHeartbeats 4000000
noncomputable section
namespace Go.Proofs.YtfkcoekicjjndaaGreat
namespace Sh
open Go
def MA:MC:=.region [⟨none,.build [.int .i64 0,.int .i64 0] [],none⟩,⟨some 8,.allocA [.int .i64 0,.int .i64 0],none⟩,⟨none,.storeA 2 (.var 8) (.tmp 0),none⟩]
def Mz:MC:=.region [⟨none,.mv (.var 1),none⟩,⟨none,.mv (.var 7),none⟩,⟨none,.indexSl 2 (.tmp 0) (.tmp 1),none⟩,⟨none,.load true 2 (.tmp 2),none⟩,⟨none,.storeA 2 (.var 8) (.tmp 3),none⟩]
def EI:MC:=.region [⟨none,.fieldAddr 0 (.var 6),none⟩,⟨none,.load false 1 (.tmp 0),none⟩,⟨none,.fieldAddr 3 (.var 4),none⟩,⟨none,.load false 1 (.tmp 2),none⟩,⟨none,.mv (.var 7),none⟩,⟨none,.indexSl 6 (.tmp 3) (.tmp 4),none⟩,⟨none,.fieldAddr 0 (.tmp 5),none⟩,⟨none,.load false 1 (.tmp 6),none⟩,⟨none,.indexArr 2 1 (.var 8) (.cst (.int .i64 0)),none⟩,⟨none,.load false 1 (.tmp 8),none⟩,⟨none,.fieldAddr 3 (.var 4),none⟩,⟨none,.load false 1 (.tmp 10),none⟩,⟨none,.mv (.var 7),none⟩,⟨none,.indexSl 6 (.tmp 11) (.tmp 12),none⟩,⟨none,.fieldAddr 1 (.tmp 13),none⟩,⟨none,.load false 1 (.tmp 14),none⟩,⟨none,.fieldAddr 3 (.var 4),none⟩,⟨none,.load false 1 (.tmp 16),none⟩,⟨none,.mv (.var 7),none⟩,⟨none,.indexSl 6 (.tmp 17) (.tmp 18),none⟩,⟨none,.fieldAddr 0 (.tmp 19),none⟩,⟨none,.load false 1 (.tmp 20),none⟩,⟨none,.bin .sub (.tmp 15) (.tmp 21),none⟩,⟨none,.bin .add (.tmp 22) (.cst (.int .i64 1)),none⟩,⟨none,.call (.fn 36) [.tmp 9,.tmp 23],none⟩,⟨none,.bin .add (.tmp 7) (.tmp 24),none⟩,⟨none,.buildF 1 [.tmp 25],none⟩,⟨none,.appendN 1 8 (.tmp 1) (.tmp 26),none⟩,⟨none,.fieldAddr 0 (.var 6),none⟩,⟨none,.store 1 (.tmp 28) (.tmp 27),none⟩]
def EH:MC:=.region [⟨none,.fieldAddr 1 (.var 6),none⟩,⟨none,.load false 1 (.tmp 0),none⟩,⟨none,.fieldAddr 1 (.var 4),none⟩,⟨none,.load false 1 (.tmp 2),none⟩,⟨none,.indexArr 2 1 (.var 8) (.cst (.int .i64 1)),none⟩,⟨none,.load false 1 (.tmp 4),none⟩,⟨none,.fieldAddr 2 (.var 4),none⟩,⟨none,.load false 1 (.tmp 6),none⟩,⟨none,.fieldAddr 1 (.var 4),none⟩,⟨none,.load false 1 (.tmp 8),none⟩,⟨none,.bin .sub (.tmp 7) (.tmp 9),none⟩,⟨none,.bin .add (.tmp 10) (.cst (.int .i64 1)),none⟩,⟨none,.call (.fn 36) [.tmp 5,.tmp 11],none⟩,⟨none,.bin .add (.tmp 3) (.tmp 12),none⟩,⟨none,.buildF 1 [.tmp 13],none⟩,⟨none,.appendN 1 8 (.tmp 1) (.tmp 14),none⟩,⟨none,.fieldAddr 1 (.var 6),none⟩,⟨none,.store 1 (.tmp 16) (.tmp 15),none⟩]
theorem n9:ju=.seq (.seq (.region [⟨none,.mv (.var 7),none⟩,⟨none,.fieldAddr 3 (.var 4),none⟩,⟨none,.load false 1 (.tmp 1),none⟩,⟨none,.lenSl (.tmp 2),none⟩,⟨some 11,.bin .lss (.tmp 0) (.tmp 3),none⟩]) (.cond (.var 11) .skip (.exit 0))) (.seq (.seq (.block 1 (.seq MA (.seq (.seq (.region [⟨none,.mv (.var 7),none⟩,⟨none,.mv (.var 1),none⟩,⟨none,.lenSl (.tmp 1),none⟩,⟨some 12,.bin .lss (.tmp 0) (.tmp 2),none⟩]) (.cond (.var 12) Mz .skip)) (.seq EI EH)))) (.kill [0,8,9,10,11,12,13,14])) (.region [⟨none,.mv (.var 7),none⟩,⟨none,.bin .add (.tmp 0) (.cst (.int .i64 1)),none⟩,⟨some 7,.mv (.tmp 1),none⟩])):=rfl
def ia:List (FuncId × aB):=[(36,aK 4 M21)]
@[simp] theorem Me:aR ia 36=some (aK 4 M21):=rfl
abbrev R11 (v1 v2 v3 v7 v8 v11 v12:AV):List AV:=[.undef,v1,v2,v3,.ptr 0 0 0,.ptr 1 0 0,.ptr 2 0 0,v7,v8,.undef,.undef,v11,v12,.undef,.undef]
def cq (d m:AV) (det tool at_:Int):Ent:=.row 5 false [.agg [d,m,.int .i64 det,.int .i64 tool,.int .i64 at_]]
def dK (q:Int × Int):Ent:=.row 1 false [.int .i64 q.1,.int .i64 q.2]
section
variable {K:List KC} {A B:aa} {v1 v2 v3 a b:AV} {i n yb:Nat} {p:Pl} {q:Int × Int}
theorem FQ (v7 v11:AV):run (ac GS ia) 50 (.code MA :: K) (R11 v1 v2 v3 v7 .undef v11 .undef) A=run (ac GS ia) 50 K (R11 v1 v2 v3 v7 (.ptr A.length 0 0) v11 .undef) (A++[dK (0,0)]):=by
 unfold dK
 simp [MA,cN]
theorem FP {xs:List (Int × Int)} (v11 v12:AV) (hx:SlA 2 (xs.map cg) v1) (hq:xs[i]?=some q) (hy:A[yb]?=some (dK (0,0))) :
  run (ac GS ia) 50 (.code Mz :: K) (R11 v1 v2 v3 (.int .i64 (i:Int)) (.ptr yb 0 0) v11 v12) A=run (ac GS ia) 50 K (R11 v1 v2 v3 (.int .i64 (i:Int)) (.ptr yb 0 0) v11 v12) (A.set yb (dK q)):=by
 have x1:∀A,ae 2 A v1 (.int .i64 (i:Int))=some (.fp [.int .i64 q.1,.int .i64 q.2]):=fun A=>hx.index (A:=A) (x:=cg q) (by rw [List.getElem?_map,hq]; rfl) rfl (by omega) .i64
 unfold dK at *
 generalize (i:Int)=I at *
 simp [Mz,x1,hy,cN,-ae]
theorem FO {d m:AV} {det tool at_:Int} {x:Stg} (v11 v12:AV) (h0:A[0]?=some (.row 5 false [ax p a b])) (ha:SlA 6 (p.stages.map aI) a) (hx:p.stages[i]?=some x) (hok:bH x) (hy:A[yb]?=some (dK q)) (hq:inI q.1) (hs:A[2]?=some (cq d m det tool at_))
  (ap:aV 1 8 A d (.fs 1 [.int .i64 (x.mn+aL q.1 (x.mx-x.mn+1))])=some (.sl A.length 0 n,B)) (hsB:B[2]?=some (cq d m det tool at_)) :
  run (ac GS ia) 50 (.code EI :: K) (R11 v1 v2 v3 (.int .i64 (i:Int)) (.ptr yb 0 0) v11 v12) A=run (ac GS ia) 50 K (R11 v1 v2 v3 (.int .i64 (i:Int)) (.ptr yb 0 0) v11 v12) (B.set 2 (cq (.sl A.length 0 n) m det tool at_)):=by
 have hk:=hok
 unfold bH at hk
 have x1:∀A,ae 6 A a (.int .i64 (i:Int))=some (.fp [.int .i64 x.mn,.int .i64 x.mx,.int .i64 x.mt,.int .i64 x.ms,.int .i64 x.st,.int .i64 x.ss]):=fun A=>ha.index (A:=A) (x:=aI x) (by rw [List.getElem?_map,hx]; rfl) rfl (by omega) .i64
 have a1:aj .sub (.int .i64 x.mx) (.int .i64 x.mn)=some (.int .i64 (x.mx-x.mn)):=by
  simp only [aj]; rw [if_pos trivial,eo (by unfold inI; omega)]
 have a2:=dW (a:=x.mx-x.mn) (b:=1) (by unfold inI; omega)
 have m1:=cy hq (n:=x.mx-x.mn+1) (by omega)
 have p1:=aX q.1 (n:=x.mx-x.mn+1) (by omega)
 have a3:=dW (a:=x.mn) (b:=aL q.1 (x.mx-x.mn+1)) (by unfold inI; omega)
 unfold cq dK ax at *
 clear hx hok hk p1
 generalize (i:Int)=I at *
 generalize x.mn+aL q.1 (x.mx-x.mn+1)=z at *
 generalize x.mx-x.mn+1=z1 at *
 generalize x.mx-x.mn=z2 at *
 simp [EI,h0,x1,hy,hs,hsB,a1,a2,a3,m1,ap,aS,az,-aj,-ae]
theorem FN {d m:AV} {det tool at_:Int} (v7 v11 v12:AV) (h0:A[0]?=some (.row 5 false [ax p a b])) (hp:0<=p.lo/\p.lo<=p.hi/\p.hi<=10000) (hy:A[yb]?=some (dK q)) (hq:inI q.2) (hs:A[2]?=some (cq d m det tool at_))
  (ap:aV 1 8 A m (.fs 1 [.int .i64 (p.lo+aL q.2 (p.hi-p.lo+1))])=some (.sl A.length 0 n,B)) (hsB:B[2]?=some (cq d m det tool at_)) :
  run (ac GS ia) 50 (.code EH :: K) (R11 v1 v2 v3 v7 (.ptr yb 0 0) v11 v12) A=run (ac GS ia) 50 K (R11 v1 v2 v3 v7 (.ptr yb 0 0) v11 v12) (B.set 2 (cq d (.sl A.length 0 n) det tool at_)):=by
 have a1:aj .sub (.int .i64 p.hi) (.int .i64 p.lo)=some (.int .i64 (p.hi-p.lo)):=by
  simp only [aj]; rw [if_pos trivial,eo (by unfold inI; omega)]
 have a2:=dW (a:=p.hi-p.lo) (b:=1) (by unfold inI; omega)
 have m1:=cy hq (n:=p.hi-p.lo+1) (by omega)
 have p1:=aX q.2 (n:=p.hi-p.lo+1) (by omega)
 have a3:=dW (a:=p.lo) (b:=aL q.2 (p.hi-p.lo+1)) (by unfold inI; omega)
 unfold cq dK ax at *
 clear hp p1
 generalize p.lo+aL q.2 (p.hi-p.lo+1)=z at *
 generalize p.hi-p.lo+1=z1 at *
 generalize p.hi-p.lo=z2 at *
 simp [EH,h0,hy,hs,hsB,a1,a2,a3,m1,ap,aS,az,-aj]
end
end Sh
namespace Sh
open Go
theorem IL {x:fO} {v1 v2:AV} {nd:List fO} {wl:List (Int × Int)} (hx:x.ok) (hn:SlA 4 (nd.map cB) v1) (hok:∀q∈nd,q.ok) (hw:SlA 2 (wl.map cg) v2) (hpi:∀p∈wl,inI p.1/\inI p.2) (hnl:nd.length<=9223372036854775807) (hwl:wl.length<=9223372036854775807) :
  ∃e lo hi ns ws nv wv L,M9 [cB x,v1,v2]=some (rqA e lo hi nv wv)/\SlA 3 L nv/\eS ns L/\SlA 3 (ws.map bi) wv/\vK e lo hi ns ws/\e<=100/\hi<=10/\∀y∈ns,y.mx<=30:=by
 have p1:=aX x.a (n:=100) (by omega)
 have p2:=aX x.b (n:=4) (by omega)
 have p3:=aX x.c (n:=5) (by omega)
 have m1:=cy hx.1 (n:=100) (by omega)
 have m2:=cy hx.2.1 (n:=4) (by omega)
 have m3:=cy hx.2.2.1 (n:=5) (by omega)
 have a1:=dW (a:=aL x.b 4) (b:=aL x.c 5) (by unfold inI; omega)
 obtain ⟨e,he⟩:∃e,e=aL x.a 100:=⟨_,rfl⟩
 obtain ⟨lo,hlo⟩:∃lo,lo=aL x.b 4:=⟨_,rfl⟩
 obtain ⟨hi,hhi⟩:∃hi,hi=lo+aL x.c 5:=⟨_,rfl⟩
 rw [<-he] at m1 p1
 rw [<-hlo] at m2 p2 a1
 rw [<-hhi] at a1
 obtain ⟨n,hnn⟩:∃n:Nat,n=max 1 (min nd.length 3):=⟨_,rfl⟩
 have at0:At9 [.row 4 false [cB x],bO,.row 5 false [rqA e lo hi .nilS .nilS]] x e lo hi [] []:=⟨rfl,rfl,.nilS,.nilS,[],rfl,.inl ⟨rfl,rfl⟩,⟨rfl,fun i y h=>by simp at h⟩,.inl ⟨rfl,rfl⟩,fun k hk=>by cases hk⟩
 obtain ⟨B,ns,lp,h1,h2,h3⟩:=GD (v2:=v2) (v4:=.ptr 1 0 0) (n:=n) hn hx hok (by omega) hnl n 50 [] _ (by simp) (by omega) at0 (fun y hy=>by cases hy)
 obtain ⟨C,ws,lq,h4,h5,h6⟩:=GC (v4:=.ptr 1 0 0) (n:=n) hw hpi hwl (min wl.length 3) 0 50 [] B (by omega) (by omega) h1 (fun i y h=>by simp at h) (by simp)
 have lp:bI (evC (ac GS fs9) 50 kl) jf 50 (lE v1 v2 (.ptr 0 0 0) (.ptr 1 0 0) (.ptr 2 0 0) (.int .i64 (n:Int)) (.int .i64 0)) [.row 4 false [cB x],bO,.row 5 false [rqA e lo hi .nilS .nilS]]=_:=lp
 have lq:bI (evC (ac GS fs9) 50 jo) je 50 (lx v2 (.ptr 1 0 0) (.ptr 2 0 0) (.int .i64 (n:Int)) (.int .i64 0)) B=_:=lq
 obtain ⟨o,wo,es,r4,o4,n4,w4,_⟩:=h4.r
 have FD:Fr C (C.set 1 (.row 5 false [rqA e lo hi o wo])) [1]:=Fr.set _ _ _
 have z4:=h4.z
 have ne:∀s,s≠5->∀k∈[1],∀l,C[k]?≠some (.row s false l):=fun s hs k hk l h=>by
  simp at hk
  subst hk
  rw [z4] at h
  unfold bO at h
  injection h with h
  injection h with h
  exact hs h.symm
 obtain ⟨nv,wv,L,f1,f2,f3,f4,f5⟩:=CR (e:=e) (lo:=lo) (hi:=hi) (o4.frE FD (ne 3 (by omega))) (n4.fr FD (ne 1 (by omega))) (w4.frE FD (ne 3 (by omega)))
 have hns:1<=ns.length/\ns.length<=4:=by omega
 have big:∀y∈ns,mY y/\y.mx<=30:=fun y hy=>by
  obtain ⟨q,rfl⟩:=h3 y hy
  have k1:=aX q.c (n:=20) (by omega)
  have k2:=aX q.d (n:=8) (by omega)
  exact ⟨uj q,by unfold jd; simp only; omega⟩
 refine ⟨e,lo,hi,ns,ws,nv,wv,L,?_,f2,f3,f4,⟨hns,fun y hy=>(big y hy).1,by omega,by rw [h2]; exact h5,by omega,by omega,by omega⟩,by omega,by omega,fun y hy=>(big y hy).2⟩
 have hset:(C.set 1 (.row 5 false [rqA e lo hi o wo]))[1]?=some (.row 5 false [rqA e lo hi o wo]):=List.getElem?_set_self (List.getElem?_eq_some_iff.1 z4).1
 have hln:ay v1=some (.int .i64 (nd.length:Int)):=by
  have:=hn.len
  rw [List.length_map] at this
  exact this
 have hnI:(n:Int)=if 1<(if (3:Int)<(nd.length:Int) then (3:Int) else (nd.length:Int)) then (if (3:Int)<(nd.length:Int) then (3:Int) else (nd.length:Int)) else 1:=by
  split <;> split <;> omega
 rw [hnI] at lp lq
 unfold M9
 rw [j7 _ _ rfl]
 clear h1 h4 at0 o4 n4 w4 FD
 generalize hD:C.set 1 (.row 5 false [rqA e lo hi o wo])=D at *
 unfold cB bO at *
 have f1':frz D 3 o=nv/\frz D 3 wo=wv:=by
  unfold rqA at f1
  have h:AV.agg (List.map (frz D 3) [.int .i64 e,.int .i64 lo,.int .i64 hi,o,wo])=_:=f1
  simp only [List.map_cons,List.map_nil,AV.agg.injEq,List.cons.injEq,and_true] at h
  exact ⟨h.2.2.2.1,h.2.2.2.2⟩
 have f5':=f5
 have hD':=hD
 unfold rqA at lp r4 hset hD' f5' ⊢
 simp [KW,m1,m2,m3,a1,hln,GY lp,GX lq,r4,z4,hset,hD',f1',f5',aS,az,-aj,-ay]
end Sh
namespace Sh
open Go
structure AtC (A:aa) (p:Pl) (a b:AV) (det tool at_:Int) (ds ms:List Int):Prop where
 x:A[0]?=some (.row 5 false [ax p a b])
 z:A[1]?=some (cq .nilS .nilS 0 0 0)
 s:∃d m,A[2]?=some (cq d m det tool at_)/\bY A d 1 (ds.map (.int .i64))/\bY A m 1 (ms.map (.int .i64))/\∀k∈aC d,k ∉ aC m
theorem AtC.keep {A B:aa} {p:Pl} {a b:AV} {det tool at_:Int} {ds ms:List Int} (h:AtC A p a b det tool at_ ds ms) (F:Fr A B []):AtC B p a b det tool at_ ds ms:=by
 obtain ⟨d,m,h1,h2,h3,h4⟩:=h.s
 exact ⟨F.at h.x (by simp),F.at h.z (by simp),d,m,F.at h1 (by simp),h2.fr F (by simp),h3.fr F (by simp),h4⟩
section
variable {A:aa} {v1 v2 v3 a b:AV} {p:Pl} {det tool at_:Int} {ds ms:List Int} {xs:List (Int × Int)} {i yb:Nat} {q:Int × Int}
theorem yE (v11 v12:AV) (h:AtC A p a b det tool at_ ds ms) (ha:SlA 6 (p.stages.map aI) a) {x:Stg} (hx:p.stages[i]?=some x) (hok:bH x) (hp:0<=p.lo/\p.lo<=p.hi/\p.hi<=10000) (hy:A[yb]?=some (dK q)) (hyn:∀d m,A[2]?=some (cq d m det tool at_)->yb ∉ aC d) (hq:inI q.1/\inI q.2) (hd:ds.length<=10) (hm:ms.length<=10) :
  ∃B,(∀K,run (ac GS ia) 50 (.code (.seq EI EH) :: K) (R11 v1 v2 v3 (.int .i64 (i:Int)) (.ptr yb 0 0) v11 v12) A=run (ac GS ia) 50 K (R11 v1 v2 v3 (.int .i64 (i:Int)) (.ptr yb 0 0) v11 v12) B)/\AtC B p a b det tool at_ (ds++[x.mn+aL q.1 (x.mx-x.mn+1)]) (ms++[p.lo+aL q.2 (p.hi-p.lo+1)]):=by
 obtain ⟨d,m,s1,d1,m1,dm⟩:=h.s
 have l2:2<A.length:=(List.getElem?_eq_some_iff.1 s1).1
 have ybd:yb ∉ aC d:=hyn d m s1
 have low:=m1.low
 have lowd:=d1.low
 have n0:∀ {o:AV} {l:List AV} {C:aa},bY C o 1 l->(C[0]?=some (.row 5 false [ax p a b]))->0 ∉ aC o:=fun ho hc=>ho.notId hc (by omega)
 obtain ⟨B,ap,k1,k2,k3⟩:=d1.append (bytes:=8) (.int .i64 (x.mn+aL q.1 (x.mx-x.mn+1))) (by omega) (by omega) (by rw [List.length_map]; omega)
 have sB:=k2.at s1 (d1.notId (s:=5) (by unfold cq at s1; exact s1) (by omega))
 have rc:=fun K=>FO (K:=K) (v1:=v1) (v2:=v2) (v3:=v3) v11 v12 h.x ha hx hok hy hq.1 s1 ap sB
 have F2:Fr B (B.set 2 (cq (.sl A.length 0 ((ds.map (AV.int .i64)).length+1)) m det tool at_)) [2]:=Fr.set _ _ _
 have lB:2<B.length:=(List.getElem?_eq_some_iff.1 sB).1
 have x2:(B.set 2 (cq (.sl A.length 0 ((ds.map (AV.int .i64)).length+1)) m det tool at_))[0]?=some (.row 5 false [ax p a b]):=by rw [List.getElem?_set_ne (by omega)]; exact k2.at h.x (n0 d1 h.x)
 have z2:(B.set 2 (cq (.sl A.length 0 ((ds.map (AV.int .i64)).length+1)) m det tool at_))[1]?=some (cq .nilS .nilS 0 0 0):=by rw [List.getElem?_set_ne (by omega)]; exact k2.at h.z (d1.notId (s:=5) (by have:=h.z; unfold cq at this; exact this) (by omega))
 have s2:(B.set 2 (cq (.sl A.length 0 ((ds.map (AV.int .i64)).length+1)) m det tool at_))[2]?=some (cq (.sl A.length 0 ((ds.map (AV.int .i64)).length+1)) m det tool at_):=List.getElem?_set_self lB
 have yb2:yb≠2:=fun e=>by rw [e,s1] at hy; unfold cq dK at hy; simp at hy
 have y2:(B.set 2 (cq (.sl A.length 0 ((ds.map (AV.int .i64)).length+1)) m det tool at_))[yb]?=some (dK q):=by rw [List.getElem?_set_ne (fun e=>yb2 e.symm)]; exact k2.at hy ybd
 have x22:∀k∈[2],∀l,B[k]?≠some (.row 1 false l):=fun k hk l=>by simp at hk; subst hk; rw [sB]; unfold cq; simp
 have d2:=k1.frE F2 x22
 have m2:=(m1.fr k2 (fun k hk hmm=>dm k hmm hk)).frE F2 x22
 have lC:(B.set 2 (cq (.sl A.length 0 ((ds.map (AV.int .i64)).length+1)) m det tool at_)).length=A.length+1:=by rw [List.length_set]; exact k3
 generalize B.set 2 (cq (.sl A.length 0 ((ds.map (AV.int .i64)).length+1)) m det tool at_)=C at *
 obtain ⟨D,ap2,j1,j2,j3⟩:=m2.append (bytes:=8) (.int .i64 (p.lo+aL q.2 (p.hi-p.lo+1))) (by omega) (by omega) (by rw [List.length_map]; omega)
 have m2n2:2 ∉ aC m:=m2.notId (s:=5) (by unfold cq at s2; exact s2) (by omega)
 have sD:=j2.at s2 m2n2
 have rd:=fun K=>FN (K:=K) (v1:=v1) (v2:=v2) (v3:=v3) (.int .i64 (i:Int)) v11 v12 x2 hp y2 hq.2 s2 ap2 sD
 have lD:2<D.length:=(List.getElem?_eq_some_iff.1 sD).1
 have F4:Fr D (D.set 2 (cq (.sl A.length 0 ((ds.map (AV.int .i64)).length+1)) (.sl C.length 0 ((ms.map (AV.int .i64)).length+1)) det tool at_)) [2]:=Fr.set _ _ _
 have x24:∀k∈[2],∀l,D[k]?≠some (.row 1 false l):=fun k hk l=>by simp at hk; subst hk; rw [sD]; unfold cq; simp
 refine ⟨D.set 2 (cq (.sl A.length 0 ((ds.map (AV.int .i64)).length+1)) (.sl C.length 0 ((ms.map (AV.int .i64)).length+1)) det tool at_),fun K=>?_,?_,?_,.sl A.length 0 ((ds.map (AV.int .i64)).length+1),.sl C.length 0 ((ms.map (AV.int .i64)).length+1),List.getElem?_set_self lD,?_,?_,fun k hk hk'=>?_⟩
 ·simp [rc,rd]
 ·rw [List.getElem?_set_ne (by omega)]; exact j2.at x2 (n0 m2 x2)
 ·rw [List.getElem?_set_ne (by omega)]; exact j2.at z2 (m2.notId (s:=5) (by unfold cq at z2; exact z2) (by omega))
 ·rw [List.map_append]
  refine (d2.fr j2 (fun k hk hm=>?_)).frE F4 x24
  simp [aC] at hk
  have:=low k hm
  omega
 ·rw [List.map_append]
  exact j1.frE F4 x24
 ·simp [aC] at hk hk'
  omega
def uh (xs:List (Int × Int)) (i:Nat):Int × Int:=(xs[i]?).getD (0,0)
theorem Bl (h:∀q∈xs,inI q.1/\inI q.2) (i:Nat):inI (uh xs i).1/\inI (uh xs i).2:=by
 unfold uh
 cases hq:xs[i]? with
 | none=>exact ⟨⟨by decide,by decide⟩,⟨by decide,by decide⟩⟩
 | some q=>exact h q (List.mem_of_getElem? hq)
theorem Be (h:AtC A p a b det tool at_ ds ms) (ha:SlA 6 (p.stages.map aI) a) {x:Stg} (hx:p.stages[i]?=some x) (hok:bH x) (hp:0<=p.lo/\p.lo<=p.hi/\p.hi<=10000) (hxs:SlA 2 (xs.map cg) v1) (hq:∀q∈xs,inI q.1/\inI q.2) (hd:ds.length<=10) (hm:ms.length<=10) (hi8:p.stages.length<=8) (_hxl:xs.length<=9223372036854775807) :
  ∃B,run (ac GS ia) 50 [.code ju] (lP v1 v2 v3 (.ptr 0 0 0) (.ptr 1 0 0) (.ptr 2 0 0) (.int .i64 (i:Int))) A=some (.normal (lP v1 v2 v3 (.ptr 0 0 0) (.ptr 1 0 0) (.ptr 2 0 0) (.int .i64 ((i+1:Nat):Int))) B)/\AtC B p a b det tool at_ (ds++[x.mn+aL (uh xs i).1 (x.mx-x.mn+1)]) (ms++[p.lo+aL (uh xs i).2 (p.hi-p.lo+1)]):=by
 have hi':i<p.stages.length:=(List.getElem?_eq_some_iff.1 hx).1
 have b1:=bK i p.stages.length .i64
 rw [decide_eq_true hi'] at b1
 have b2:=bK i xs.length .i64
 have b3:=aY i (by omega)
 have hla:ay a=some (.int .i64 (p.stages.length:Int)):=by
  have:=ha.len
  rw [List.length_map] at this
  exact this
 have hlx:ay v1=some (.int .i64 (xs.length:Int)):=by
  have:=hxs.len
  rw [List.length_map] at this
  exact this
 have h0:=h.x
 have ra:=fun K=>FQ (K:=K) (A:=A) (v1:=v1) (v2:=v2) (v3:=v3) (.int .i64 (i:Int)) (.bool true)
 have F1:Fr A (A++[dK (0,0)]) []:=Fr.app _ _ _
 have y1:(A++[dK (0,0)])[A.length]?=some (dK (0,0)):=by simp
 obtain ⟨d0,m0,s0,d1,m1,_⟩:=h.s
 have low:=d1.low
 have l2:2<A.length:=(List.getElem?_eq_some_iff.1 s0).1
 have fresh:∀ {C:aa},Fr A C []->∀d m,C[2]?=some (cq d m det tool at_)->A.length ∉ aC d:=fun F d m hs hm=>by
  have:=F.at s0 (by simp)
  rw [hs] at this
  unfold cq at this
  simp at this
  rw [this.1] at hm
  have:=low _ hm
  omega
 cases hqi:xs[i]? with
 | none=>
  have:xs.length<=i:=by simpa using hqi
  rw [decide_eq_false (by omega)] at b2
  have hnt:uh xs i=(0,0):=by unfold uh; rw [hqi]; rfl
  rw [hnt]
  obtain ⟨B,rt,hB⟩:=yE (v1:=v1) (v2:=v2) (v3:=v3) (.bool true) (.bool false) (h.keep F1) ha hx hok hp y1 (fresh F1) (hnt ▸ Bl hq i) hd hm
  refine ⟨B,?_,hB⟩
  rw [n9]
  unfold ax at h0
  generalize A++[dK (0,0)]=A1 at *
  generalize ((i+1:Nat):Int)=I1 at *
  generalize (i:Int)=I at *
  generalize (p.stages.length:Int)=N at *
  generalize (xs.length:Int)=M at *
  have rt:∀K,run (ac GS ia) 50 (.code EI :: .code EH :: K) (R11 v1 v2 v3 (.int .i64 I) (.ptr A.length 0 0) (.bool true) (.bool false)) A1=run (ac GS ia) 50 K (R11 v1 v2 v3 (.int .i64 I) (.ptr A.length 0 0) (.bool true) (.bool false)) B:=fun K=>by
   have:=rt K
   simpa using this
  simp [h0,hla,hlx,b1,b2,b3,ra,rt,-aj,-ay]
 | some q=>
  have:i<xs.length:=(List.getElem?_eq_some_iff.1 hqi).1
  rw [decide_eq_true (by omega)] at b2
  have hnt:uh xs i=q:=by unfold uh; rw [hqi]; rfl
  rw [hnt]
  have rb:=fun K=>FP (K:=K) (v2:=v2) (v3:=v3) (.bool true) (.bool true) hxs hqi y1
  have F2:Fr A ((A++[dK (0,0)]).set A.length (dK q)) []:=F1.trans (Fr.set _ _ _) (fun _ h=>h) (fun j hj hm=>by simp at hm; omega)
  have y2:((A++[dK (0,0)]).set A.length (dK q))[A.length]?=some (dK q):=List.getElem?_set_self (by simp)
  obtain ⟨B,rt,hB⟩:=yE (v1:=v1) (v2:=v2) (v3:=v3) (.bool true) (.bool true) (h.keep F2) ha hx hok hp y2 (fresh F2) (hq q (List.mem_of_getElem? hqi)) hd hm
  refine ⟨B,?_,hB⟩
  rw [n9]
  unfold ax at h0
  generalize (A++[dK (0,0)]).set A.length (dK q)=A2 at *
  generalize A++[dK (0,0)]=A1 at *
  generalize ((i+1:Nat):Int)=I1 at *
  generalize (i:Int)=I at *
  generalize (p.stages.length:Int)=N at *
  generalize (xs.length:Int)=M at *
  have rt:∀K,run (ac GS ia) 50 (.code EI :: .code EH :: K) (R11 v1 v2 v3 (.int .i64 I) (.ptr A.length 0 0) (.bool true) (.bool true)) A2=run (ac GS ia) 50 K (R11 v1 v2 v3 (.int .i64 I) (.ptr A.length 0 0) (.bool true) (.bool true)) B:=fun K=>by
   have:=rt K
   simpa using this
  simp [h0,hla,hlx,b1,b2,b3,ra,rb,rt,-aj,-ay]
end
end Sh
namespace Sh
open Go
def Mu:MC:=.region [⟨none,.fieldAddr 1 (.var 4),none⟩,⟨none,.load false 1 (.tmp 0),none⟩,⟨none,.mv (.var 1),none⟩,⟨none,.indexSl 2 (.tmp 2) (.cst (.int .i64 0)),none⟩,⟨none,.indexArr 2 1 (.tmp 3) (.cst (.int .i64 0)),none⟩,⟨none,.load false 1 (.tmp 4),none⟩,⟨none,.bin .quo (.tmp 5) (.cst (.int .i64 7)),none⟩,⟨none,.fieldAddr 2 (.var 4),none⟩,⟨none,.load false 1 (.tmp 7),none⟩,⟨none,.fieldAddr 1 (.var 4),none⟩,⟨none,.load false 1 (.tmp 9),none⟩,⟨none,.bin .sub (.tmp 8) (.tmp 10),none⟩,⟨none,.bin .add (.tmp 11) (.cst (.int .i64 1)),none⟩,⟨none,.call (.fn 36) [.tmp 6,.tmp 12],none⟩,⟨none,.bin .add (.tmp 1) (.tmp 13),none⟩,⟨none,.fieldAddr 2 (.var 6),none⟩,⟨none,.store 1 (.tmp 15) (.tmp 14),none⟩]
def Mt:MC:=.region [⟨none,.mv (.var 2),none⟩,⟨none,.bin .quo (.tmp 0) (.cst (.int .i64 4)),none⟩,⟨none,.fieldAddr 3 (.var 4),none⟩,⟨none,.load false 1 (.tmp 2),none⟩,⟨none,.lenSl (.tmp 3),none⟩,⟨none,.call (.fn 36) [.tmp 1,.tmp 4],none⟩,⟨some 9,.mv (.tmp 5),none⟩]
def Ms:MC:=.region [⟨none,.fieldAddr 3 (.var 4),none⟩,⟨none,.load false 1 (.tmp 0),none⟩,⟨none,.mv (.var 9),none⟩,⟨none,.indexSl 6 (.tmp 1) (.tmp 2),none⟩,⟨none,.fieldAddr 2 (.tmp 3),none⟩,⟨none,.fieldAddr 0 (.tmp 4),none⟩,⟨none,.load false 1 (.tmp 5),none⟩,⟨none,.fieldAddr 3 (.var 6),none⟩,⟨none,.store 1 (.tmp 7) (.tmp 6),none⟩]
def Mr:MC:=.region [⟨none,.mv (.var 3),none⟩,⟨none,.fieldAddr 3 (.var 4),none⟩,⟨none,.load false 1 (.tmp 1),none⟩,⟨none,.fieldAddr 3 (.var 4),none⟩,⟨none,.load false 1 (.tmp 3),none⟩,⟨none,.lenSl (.tmp 4),none⟩,⟨none,.bin .sub (.tmp 5) (.cst (.int .i64 1)),none⟩,⟨none,.indexSl 6 (.tmp 2) (.tmp 6),none⟩,⟨none,.fieldAddr 4 (.tmp 7),none⟩,⟨none,.fieldAddr 1 (.tmp 8),none⟩,⟨none,.load false 1 (.tmp 9),none⟩,⟨none,.bin .add (.tmp 10) (.cst (.int .i64 50)),none⟩,⟨none,.call (.fn 36) [.tmp 0,.tmp 11],none⟩,⟨none,.fieldAddr 4 (.var 6),none⟩,⟨none,.store 1 (.tmp 13) (.tmp 12),none⟩]
def Mq:MC:=.region [⟨none,.fieldAddr 3 (.var 4),none⟩,⟨none,.load false 1 (.tmp 0),none⟩,⟨none,.mv (.var 9),none⟩,⟨none,.indexSl 6 (.tmp 1) (.tmp 2),none⟩,⟨none,.fieldAddr 2 (.tmp 3),none⟩,⟨none,.fieldAddr 1 (.tmp 4),none⟩,⟨none,.load false 1 (.tmp 5),none⟩,⟨none,.bin .sub (.tmp 6) (.cst (.int .i64 20)),none⟩,⟨none,.mv (.var 3),none⟩,⟨none,.bin .quo (.tmp 8) (.cst (.int .i64 3)),none⟩,⟨none,.call (.fn 36) [.tmp 9,.cst (.int .i64 50)],none⟩,⟨none,.bin .add (.tmp 7) (.tmp 10),none⟩,⟨none,.minmax true (.cst (.int .i64 0)) [.tmp 11],none⟩,⟨none,.fieldAddr 4 (.var 6),none⟩,⟨none,.store 1 (.tmp 13) (.tmp 12),none⟩]
abbrev Q11 (v0 v1 v2 v3 v9 v10 v13 v14:AV):List AV:=[v0,v1,v2,v3,.ptr 0 0 0,.ptr 1 0 0,.ptr 2 0 0,.undef,.undef,v9,v10,.undef,.undef,v13,v14]
section
variable {K:List KC} {A:aa} {v0 v1 v2 v3 a b:AV} {p:Pl} {xs:List (Int × Int)} {q:Int × Int} {x:Stg} {d m:AV} {det tool at_:Int} {k:Nat}
theorem tL {a b:Int} (h:inI (a-b)):aj .sub (.int .i64 a) (.int .i64 b)=some (.int .i64 (a-b)):=by
 simp only [aj]; rw [if_pos trivial,eo h]
theorem AU (h0:A[0]?=some (.row 5 false [ax p a b])) (hp:0<=p.lo/\p.lo<=p.hi/\p.hi<=10000) (hx:SlA 2 (xs.map cg) v1) (hq:xs[0]?=some q) (hqi:inI q.1) (hs:A[2]?=some (cq d m det tool at_)) (v10:AV) :
  run (ac GS ia) 50 (.code Mu :: K) (Q11 v0 v1 v2 v3 .undef v10 .undef .undef) A=run (ac GS ia) 50 K (Q11 v0 v1 v2 v3 .undef v10 .undef .undef) (A.set 2 (cq d m (p.lo+aL (q.1.tdiv 7) (p.hi-p.lo+1)) tool at_)):=by
 have x1:∀A,ae 2 A v1 (.int .i64 0)=some (.fp [.int .i64 q.1,.int .i64 q.2]):=fun A=>hx.index (A:=A) (x:=cg q) (i:=0) (by rw [List.getElem?_map,hq]; rfl) rfl (by omega) .i64
 obtain ⟨q1,q2⟩:=uW hqi (n:=7) (by omega)
 have a1:=tL (a:=p.hi) (b:=p.lo) (by unfold inI; omega)
 have a2:=dW (a:=p.hi-p.lo) (b:=1) (by unfold inI; omega)
 have m1:=cy q2 (n:=p.hi-p.lo+1) (by omega)
 have p1:=aX (q.1.tdiv 7) (n:=p.hi-p.lo+1) (by omega)
 have a3:=dW (a:=p.lo) (b:=aL (q.1.tdiv 7) (p.hi-p.lo+1)) (by unfold inI; omega)
 have i2:=fun A=>Lx (A:=A) (.int .i64 q.1) (.int .i64 q.2)
 unfold cq ax at *
 clear hp p1 hq
 generalize p.lo+aL (q.1.tdiv 7) (p.hi-p.lo+1)=z at *
 generalize p.hi-p.lo+1=z1 at *
 generalize p.hi-p.lo=z2 at *
 simp [Mu,h0,x1,hs,q1,a1,a2,a3,m1,i2,az,-aj,-ae]
theorem AT {tl:Int} (h0:A[0]?=some (.row 5 false [ax p a b])) (ha:SlA 6 (p.stages.map aI) a) (hn:1<=p.stages.length) (ht:inI tl) (v13:AV) :
  run (ac GS ia) 50 (.code Mt :: K) (Q11 .undef .undef (.int .i64 tl) v3 .undef .undef v13 .undef) A=run (ac GS ia) 50 K (Q11 .undef .undef (.int .i64 tl) v3 (.int .i64 (aL (tl.tdiv 4) (p.stages.length:Int))) .undef v13 .undef) A:=by
 obtain ⟨q1,q2⟩:=uW ht (n:=4) (by omega)
 have m1:=cy q2 (n:=(p.stages.length:Int)) (by omega)
 have hla:ay a=some (.int .i64 (p.stages.length:Int)):=by
  have:=ha.len
  rw [List.length_map] at this
  exact this
 unfold ax at *
 generalize (p.stages.length:Int)=N at *
 simp [Mt,h0,q1,m1,hla,-aj,-ay]
theorem AS (h0:A[0]?=some (.row 5 false [ax p a b])) (ha:SlA 6 (p.stages.map aI) a) (hx:p.stages[k]?=some x) (hs:A[2]?=some (cq d m det tool at_)) (v13:AV) :
  run (ac GS ia) 50 (.code Ms :: K) (Q11 .undef .undef v2 v3 (.int .i64 (k:Int)) .undef v13 .undef) A=run (ac GS ia) 50 K (Q11 .undef .undef v2 v3 (.int .i64 (k:Int)) .undef v13 .undef) (A.set 2 (cq d m det x.mt at_)):=by
 have x1:∀A,ae 6 A a (.int .i64 (k:Int))=some (.fp [.int .i64 x.mn,.int .i64 x.mx,.int .i64 x.mt,.int .i64 x.ms,.int .i64 x.st,.int .i64 x.ss]):=fun A=>ha.index (A:=A) (x:=aI x) (by rw [List.getElem?_map,hx]; rfl) rfl (by omega) .i64
 unfold ax cq at *
 generalize (k:Int)=KK at *
 simp [Ms,h0,x1,hs,az,-ae]
theorem AR {ti:Int} {n:Nat} (h0:A[0]?=some (.row 5 false [ax p a b])) (ha:SlA 6 (p.stages.map aI) a) (hn:p.stages.length=n+1) (hl:n<=10) (hx:p.stages[n]?=some x) (hok:bH x) (hs:A[2]?=some (cq d m det tool at_)) (ht:inI ti) (v9 v13:AV) :
  run (ac GS ia) 50 (.code Mr :: K) (Q11 .undef .undef v2 (.int .i64 ti) v9 .undef v13 .undef) A=run (ac GS ia) 50 K (Q11 .undef .undef v2 (.int .i64 ti) v9 .undef v13 .undef) (A.set 2 (cq d m det tool (aL ti (x.ss+50)))):=by
 have hk:=hok
 unfold bH at hk
 have x1:∀A,ae 6 A a (.int .i64 (n:Int))=some (.fp [.int .i64 x.mn,.int .i64 x.mx,.int .i64 x.mt,.int .i64 x.ms,.int .i64 x.st,.int .i64 x.ss]):=fun A=>ha.index (A:=A) (x:=aI x) (by rw [List.getElem?_map,hx]; rfl) rfl (by omega) .i64
 have hla:ay a=some (.int .i64 ((n+1:Nat):Int)):=by
  have:=ha.len
  rw [List.length_map,hn] at this
  exact this
 have b1:aj .sub (.int .i64 ((n+1:Nat):Int)) (.int .i64 1)=some (.int .i64 (n:Int)):=by
  rw [tL (by unfold inI; omega)]; congr 2; omega
 have a1:=dW (a:=x.ss) (b:=50) (by unfold inI; omega)
 have m1:=cy ht (n:=x.ss+50) (by omega)
 unfold ax cq at *
 clear hx hok hk hn
 generalize ((n+1:Nat):Int)=N1 at *
 generalize (n:Int)=N at *
 generalize aL ti (x.ss+50)=z at *
 generalize x.ss+50=z1 at *
 simp [Mr,h0,x1,hs,hla,b1,a1,m1,az,-aj,-ae,-ay]
theorem AQ {ti:Int} (h0:A[0]?=some (.row 5 false [ax p a b])) (ha:SlA 6 (p.stages.map aI) a) (hx:p.stages[k]?=some x) (hok:bH x) (hs:A[2]?=some (cq d m det tool at_)) (ht:inI ti) (v13 v14:AV) :
  run (ac GS ia) 50 (.code Mq :: K) (Q11 .undef .undef v2 (.int .i64 ti) (.int .i64 (k:Int)) .undef v13 v14) A=run (ac GS ia) 50 K (Q11 .undef .undef v2 (.int .i64 ti) (.int .i64 (k:Int)) .undef v13 v14) (A.set 2 (cq d m det tool (max 0 (x.ms-20+aL (ti.tdiv 3) 50)))):=by
 have hk:=hok
 unfold bH at hk
 have x1:∀A,ae 6 A a (.int .i64 (k:Int))=some (.fp [.int .i64 x.mn,.int .i64 x.mx,.int .i64 x.mt,.int .i64 x.ms,.int .i64 x.st,.int .i64 x.ss]):=fun A=>ha.index (A:=A) (x:=aI x) (by rw [List.getElem?_map,hx]; rfl) rfl (by omega) .i64
 obtain ⟨q1,q2⟩:=uW ht (n:=3) (by omega)
 have m1:=cy q2 (n:=50) (by omega)
 have p1:=aX (ti.tdiv 3) (n:=50) (by omega)
 have a1:=tL (a:=x.ms) (b:=20) (by unfold inI; omega)
 have a2:=dW (a:=x.ms-20) (b:=aL (ti.tdiv 3) 50) (by unfold inI; omega)
 have em:max 0 (x.ms-20+aL (ti.tdiv 3) 50)=if 0<x.ms-20+aL (ti.tdiv 3) 50 then x.ms-20+aL (ti.tdiv 3) 50 else 0:=by split <;> omega
 rw [em]
 unfold ax cq at *
 clear hx hok hk em p1
 generalize x.ms-20+aL (ti.tdiv 3) 50=z at *
 generalize x.ms-20=z1 at *
 generalize (k:Int)=KK at *
 simp [Mq,h0,x1,hs,q1,a1,a2,m1,az,-aj,-ae]
end
end Sh
namespace Sh
open Go
def oB (p:Pl) (ds ms:List Int):Prop:=ds.length=ms.length/\(∀(j:Nat) (v:Int),ds[j]?=some v->∃x,p.stages[j]?=some x/\x.mn<=v/\v<=x.mx)/\∀v∈ms,p.lo<=v/\v<=p.hi
theorem oB.snoc {p:Pl} {ds ms:List Int} (h:oB p ds ms) {x:Stg} (hx:p.stages[ds.length]?=some x) {v w:Int} (hv:x.mn<=v/\v<=x.mx) (hw:p.lo<=w/\w<=p.hi):oB p (ds++[v]) (ms++[w]):=by
 refine ⟨by simp [h.1],fun j u hu=>?_,fun u hu=>?_⟩
 ·rcases Nat.lt_or_ge j ds.length with hj | hj
  ·rw [List.getElem?_append_left hj] at hu
   exact h.2.1 j u hu
  ·rw [List.getElem?_append_right hj] at hu
   have h0:j-ds.length=0:=by
    have:=(List.getElem?_eq_some_iff.1 hu).1
    simp at this
    omega
   rw [h0] at hu
   injection hu with hu
   subst hu
   obtain rfl:j=ds.length:=by omega
   exact ⟨x,hx,hv⟩
 ·rcases List.mem_append.1 hu with hu | hu
  ·exact h.2.2 u hu
  ·rw [List.mem_singleton] at hu
   subst hu
   exact hw
theorem GO {v1 v2 v3 a b:AV} {p:Pl} {det tool at_:Int} {xs:List (Int × Int)} (ha:SlA 6 (p.stages.map aI) a) (hok:∀x∈p.stages,bH x) (hp:0<=p.lo/\p.lo<=p.hi/\p.hi<=10000) (hxs:SlA 2 (xs.map cg) v1) (hq:∀q∈xs,inI q.1/\inI q.2) (hi8:p.stages.length<=8) (hxl:xs.length<=9223372036854775807):∀(κ m:Nat) (ds ms:List Int) (A:aa),ds.length+κ=p.stages.length->κ<m->AtC A p a b det tool at_ ds ms->oB p ds ms ->
  ∃B ds' ms',bI (evC (ac GS ia) 50 ju) jn m (lP v1 v2 v3 (.ptr 0 0 0) (.ptr 1 0 0) (.ptr 2 0 0) (.int .i64 (ds.length:Int))) A=some (.exit 0 ((lP v1 v2 v3 (.ptr 0 0 0) (.ptr 1 0 0) (.ptr 2 0 0) (.int .i64 (p.stages.length:Int))).set 11 (.bool false)) B)/\AtC B p a b det tool at_ ds' ms'/\oB p ds' ms'/\ds'.length=p.stages.length:=by
 intro κ
 induction κ with
 | zero=>
  intro m ds ms A hk hm h hg
  obtain ⟨m,rfl⟩:∃m',m=m'+1:=⟨m-1,by omega⟩
  have e:ds.length=p.stages.length:=by omega
  refine ⟨A,ds,ms,?_,h,hg,e⟩
  have h0:=h.x
  have hla:ay a=some (.int .i64 (p.stages.length:Int)):=by
   have:=ha.len
   rw [List.length_map] at this
   exact this
  have b1:=bK p.stages.length p.stages.length .i64
  rw [decide_eq_false (by omega)] at b1
  rw [e,aF,vz]
  unfold ax at h0
  generalize (p.stages.length:Int)=N at *
  simp [ju,h0,hla,b1,-aj,-ay]
 | succ κ ih=>
  intro m ds ms A hk hm h hg
  obtain ⟨m,rfl⟩:∃m',m=m'+1:=⟨m-1,by omega⟩
  obtain ⟨x,hx⟩:∃x,p.stages[ds.length]?=some x:=⟨_,List.getElem?_eq_getElem (by omega)⟩
  have hxo:=hok x (List.mem_of_getElem? hx)
  have hk':=hxo
  unfold bH at hk'
  have p1:=aX (uh xs ds.length).1 (n:=x.mx-x.mn+1) (by omega)
  have p2:=aX (uh xs ds.length).2 (n:=p.hi-p.lo+1) (by omega)
  obtain ⟨B,r,hB⟩:=Be (v2:=v2) (v3:=v3) h ha hx hxo hp hxs hq (by omega) (by have:=hg.1; omega) hi8 hxl
  obtain ⟨C,ds',ms',r2,k⟩:=ih m _ _ B (by simp; omega) (by omega) hB (hg.snoc hx (by omega) (by omega))
  refine ⟨C,ds',ms',?_,k⟩
  rw [aF,vz,r]
  rw [List.length_append,List.length_singleton] at r2
  exact r2
def M11:aN:=fun args=>evF (ac GS ia) 50 Ld 4 args
theorem At:bS Tryz.prog GS 11 M11:=bS.of_ev (E:=ac GS ia) (ai (ag (au.of_pure E9 4) an)) rfl at11 Iz 4 (fun _ _ h=>⟨50,h⟩)
end Sh
namespace Sh
open Go
theorem AtC.setS {A:aa} {p:Pl} {a b:AV} {det tool at_:Int} {ds ms:List Int} (h:AtC A p a b det tool at_ ds ms) {d m:AV} (hs:A[2]?=some (cq d m det tool at_)) (det2 tool2 at2:Int):AtC (A.set 2 (cq d m det2 tool2 at2)) p a b det2 tool2 at2 ds ms/\(A.set 2 (cq d m det2 tool2 at2))[2]?=some (cq d m det2 tool2 at2):=by
 obtain ⟨d',m',h1,h2,h3,h4⟩:=h.s
 rw [hs] at h1
 unfold cq at h1
 simp at h1
 obtain ⟨rfl,rfl⟩:=h1
 have l2:2<A.length:=(List.getElem?_eq_some_iff.1 hs).1
 have F:Fr A (A.set 2 (cq d m det2 tool2 at2)) [2]:=Fr.set _ _ _
 have x2:∀k∈[2],∀l,A[k]?≠some (.row 1 false l):=fun k hk l=>by simp at hk; subst hk; rw [hs]; unfold cq; simp
 exact ⟨⟨F.at h.x (by simp),F.at h.z (by simp),d,m,List.getElem?_set_self l2,h2.frE F x2,h3.frE F x2,h4⟩,List.getElem?_set_self l2⟩
def uP:MC:=.seq (.region [⟨none,.mv (.var 2),none⟩,⟨none,.call (.fn 36) [.tmp 0,.cst (.int .i64 4)],none⟩,⟨some 13,.bin .gtr (.tmp 1) (.cst (.int .i64 0)),none⟩]) (.cond (.var 13) (.seq Mt (.seq Ms (.seq Mr (.seq (.region [⟨none,.mv (.var 3),none⟩,⟨none,.call (.fn 36) [.tmp 0,.cst (.int .i64 3)],none⟩,⟨some 14,.bin .gtr (.tmp 1) (.cst (.int .i64 0)),none⟩]) (.cond (.var 14) Mq .skip))))) .skip)
theorem FL {A:aa} {p:Pl} {a b:AV} {det tl ti:Int} {ds ms:List Int} (h:AtC A p a b det (-1) 0 ds ms) (ha:SlA 6 (p.stages.map aI) a) (hok:∀x∈p.stages,bH x) (hn:1<=p.stages.length/\p.stages.length<=8) (hsm:∀x∈p.stages,x.ms<=900000/\x.ss<=900000) (htl:inI tl) (hti:inI ti) :
  ∃C tool at_ v9 v13 v14,(∀K,run (ac GS ia) 50 (.code uP :: K) (Q11 .undef .undef (.int .i64 tl) (.int .i64 ti) .undef .undef .undef .undef) A=run (ac GS ia) 50 K (Q11 .undef .undef (.int .i64 tl) (.int .i64 ti) v9 .undef v13 v14) C)/\AtC C p a b det tool at_ ds ms/\((tool = -1/\at_=0)\/(0<=tool/\tool<=59)/\(0<=at_/\at_<=1000000)):=by
 have m1:=cy htl (n:=4) (by omega)
 have m2:=cy hti (n:=3) (by omega)
 have b1:=iS (aL tl 4) 0
 have b2:=iS (aL ti 3) 0
 by_cases h1:0<aL tl 4
 ·rw [decide_eq_true h1] at b1
  obtain ⟨d,m,s0,_⟩:=h.s
  have hpk:=aX (tl.tdiv 4) (n:=(p.stages.length:Int)) (by omega)
  obtain ⟨k,hk⟩:∃k:Nat,aL (tl.tdiv 4) (p.stages.length:Int)=(k:Int):=⟨(aL (tl.tdiv 4) (p.stages.length:Int)).toNat,by omega⟩
  have rb:=fun K v13=>AT (K:=K) (v3:=.int .i64 ti) h.x ha hn.1 htl v13
  rw [hk] at rb hpk
  obtain ⟨x,hx⟩:∃x,p.stages[k]?=some x:=⟨_,List.getElem?_eq_getElem (by omega)⟩
  have hxm:=List.mem_of_getElem? hx
  have hxo:=hok x hxm
  have hxk:=hxo
  unfold bH at hxk
  have rc:=fun K v13=>AS (K:=K) (v2:=.int .i64 tl) (v3:=.int .i64 ti) h.x ha hx s0 v13
  obtain ⟨hC,s1⟩:=h.setS s0 det x.mt 0
  generalize A.set 2 (cq d m det x.mt 0)=A1 at *
  obtain ⟨n,hnn⟩:∃n,p.stages.length=n+1:=⟨p.stages.length-1,by omega⟩
  obtain ⟨y,hy⟩:∃y,p.stages[n]?=some y:=⟨_,List.getElem?_eq_getElem (by omega)⟩
  have hym:=List.mem_of_getElem? hy
  have hyk:=hok y hym
  unfold bH at hyk
  have rd:=fun K v9 v13=>AR (K:=K) (v2:=.int .i64 tl) hC.x ha hnn (by omega) hy (hok y hym) s1 hti v9 v13
  obtain ⟨hD,s2⟩:=hC.setS s1 det x.mt (aL ti (y.ss+50))
  have pa:=aX ti (n:=y.ss+50) (by omega)
  have sy:=hsm y hym
  have sx:=hsm x hxm
  generalize A1.set 2 (cq d m det x.mt (aL ti (y.ss+50)))=A2 at *
  by_cases h2:0<aL ti 3
  ·rw [decide_eq_true h2] at b2
   have re:=fun K v13 v14=>AQ (K:=K) (v2:=.int .i64 tl) hD.x ha hx hxo s2 hti v13 v14
   obtain ⟨hE,_⟩:=hD.setS s2 det x.mt (max 0 (x.ms-20+aL (ti.tdiv 3) 50))
   have pe:=aX (ti.tdiv 3) (n:=50) (by omega)
   refine ⟨_,x.mt,_,.int .i64 (k:Int),.bool true,.bool true,fun K=>?_,hE,.inr ⟨by omega,by omega⟩⟩
   generalize A2.set 2 (cq d m det x.mt (max 0 (x.ms-20+aL (ti.tdiv 3) 50)))=A3 at *
   generalize (k:Int)=KK at *
   clear hx hy hk
   simp [uP,m1,m2,b1,b2,rb,rc,rd,re,-aj]
  ·rw [decide_eq_false h2] at b2
   refine ⟨_,x.mt,_,.int .i64 (k:Int),.bool true,.bool false,fun K=>?_,hD,.inr ⟨by omega,by omega⟩⟩
   generalize (k:Int)=KK at *
   clear hx hy hk
   simp [uP,m1,m2,b1,b2,rb,rc,rd,-aj]
 ·rw [decide_eq_false h1] at b1
  refine ⟨A,-1,0,.undef,.bool false,.undef,fun K=>?_,h,.inl ⟨rfl,rfl⟩⟩
  simp [uP,m1,b1,-aj]
end Sh
namespace Sh
open Go
theorem oO {p:Pl} {det tool at_:Int} {ds ms:List Int} (hv:cL p) (hg:oB p ds ms) (hl:ds.length=p.stages.length) (hd:p.lo<=det/\det<=p.hi) (hf:(tool = -1/\at_=0)\/(0<=tool/\tool<=59)/\(0<=at_/\at_<=1000000)):bX p ⟨ds,ms,det,tool,at_⟩:=by
 refine ⟨⟨hv,hl,by rw [<-hl]; exact hg.1.symm,hd,fun i hi=>?_⟩,hf⟩
 have h1:ds[i]?=some ds[i]!:=get!_some (by omega)
 have h2:ms[i]?=some ms[i]!:=get!_some (by have:=hg.1; omega)
 obtain ⟨x,hx,h3⟩:=hg.2.1 i _ h1
 rw [get!_some hi] at hx
 injection hx with hx
 rw [hx]
 exact ⟨h3,hg.2.2 _ (List.mem_of_getElem? h2)⟩
def xX:MC:=.seq (.region [⟨none,.mv (.var 1),none⟩,⟨none,.lenSl (.tmp 0),none⟩,⟨some 10,.bin .gtr (.tmp 1) (.cst (.int .i64 0)),none⟩]) (.cond (.var 10) Mu .skip)
theorem Gr:Ld=⟨4,15,.seq (.region [⟨some 4,.box (.var 0),none⟩,⟨some 5,.alloc 5 (.agg [.nilS,.nilS,.int .i64 0,.int .i64 0,.int .i64 0]),none⟩]) (.seq (.region [⟨none,.fieldAddr 1 (.var 4),none⟩,⟨none,.load false 1 (.tmp 0),none⟩,⟨none,.build [.nilS,.nilS,.int .i64 0,.int .i64 0,.int .i64 0] [(3,(1,.cst (.int .i64 (-1)))),(2,(1,.tmp 1))],none⟩,⟨some 6,.alloc 5 (.agg [.nilS,.nilS,.int .i64 0,.int .i64 0,.int .i64 0]),none⟩,⟨none,.store 5 (.var 6) (.tmp 2),none⟩]) (.seq xX (.seq (.seq (.region [⟨some 7,.mv (.cst (.int .i64 0)),none⟩]) (.seq (.block 0 (.loop [0,8,9,10,11,12,13,14] ju)) (.kill [0,1,7,8,9,10,11,12,13,14]))) (.seq uP (.seq (.region [⟨none,.load true 5 (.var 6),none⟩,⟨none,.store 5 (.var 5) (.tmp 0),none⟩]) .ret))))),[.cell 5 true 5]⟩:=rfl
theorem zk {p:Pl} {a b v1:AV} {xs:List (Int × Int)} {tl ti:Int} (hv:cL p) (ha:SlA 6 (p.stages.map aI) a) (hb:SlA 3 (p.wins.map bi) b) (hxs:SlA 2 (xs.map cg) v1) (hq:∀q∈xs,inI q.1/\inI q.2) (hxl:xs.length<=9223372036854775807) (hsm:∀x∈p.stages,x.ms<=900000/\x.ss<=900000) (htl:inI tl) (hti:inI ti) :
  ∃s d m,M11 [ax p a b,v1,.int .i64 tl,.int .i64 ti]=some (bM d m s)/\SlA 1 (s.durs.map (.int .i64)) d/\SlA 1 (s.moves.map (.int .i64)) m/\bX p s:=by
 have hok:=hv.2.2.2.2.2.1
 have hn:=hv.2.2.2.1
 have hp:0<=p.lo/\p.lo<=p.hi/\p.hi<=10000:=⟨hv.2.1.1,hv.2.1.2,hv.2.2.1⟩
 have ca:=SlA.cells ha
 have cb:=SlA.cells hb
 have at0:AtC [.row 5 false [ax p a b],cq .nilS .nilS 0 0 0,cq .nilS .nilS p.lo (-1) 0] p a b p.lo (-1) 0 [] []:=⟨rfl,rfl,.nilS,.nilS,rfl,.inl ⟨rfl,rfl⟩,.inl ⟨rfl,rfl⟩,fun k hk=>by cases hk⟩
 have hlx:ay v1=some (.int .i64 (xs.length:Int)):=by
  have:=hxs.len
  rw [List.length_map] at this
  exact this
 have b0:=iS (xs.length:Int) 0
 obtain ⟨det,A1,h1,hdet,r1⟩:∃det A1,AtC A1 p a b det (-1) 0 [] []/\(p.lo<=det/\det<=p.hi)/\∀K,run (ac GS ia) 50 (.code xX :: K) (Q11 (ax p a b) v1 (.int .i64 tl) (.int .i64 ti) .undef .undef .undef .undef) [.row 5 false [ax p a b],cq .nilS .nilS 0 0 0,cq .nilS .nilS p.lo (-1) 0]=run (ac GS ia) 50 K (Q11 (ax p a b) v1 (.int .i64 tl) (.int .i64 ti) .undef (.bool (decide (0<xs.length))) .undef .undef) A1:=by
  cases hx0:xs with
  | nil=>
   subst hx0
   refine ⟨p.lo,_,at0,⟨Int.le_refl _,hp.2.1⟩,fun K=>?_⟩
   generalize [Ent.row 5 false [ax p a b],cq .nilS .nilS 0 0 0,cq .nilS .nilS p.lo (-1) 0]=A0 at *
   have hlx:ay v1=some (.int .i64 0):=hlx
   have b0:aj .gtr (.int .i64 0) (.int .i64 0)=some (.bool false):=by simp [aj]
   simp [xX,hlx,b0,-aj,-ay]
  | cons q r=>
   have hq0:xs[0]?=some q:=by rw [hx0]; rfl
   have hqm:q∈xs:=by rw [hx0]; simp
   have re:=fun K v10=>AU (K:=K) (v0:=ax p a b) (v2:=.int .i64 tl) (v3:=.int .i64 ti) at0.x hp hxs hq0 (hq q hqm).1 (A:=[.row 5 false [ax p a b],cq .nilS .nilS 0 0 0,cq .nilS .nilS p.lo (-1) 0]) (d:=.nilS) (m:=.nilS) (det:=p.lo) (tool:=-1) (at_:=0) rfl v10
   obtain ⟨hC,_⟩:=at0.setS (d:=.nilS) (m:=.nilS) rfl (p.lo+aL (q.1.tdiv 7) (p.hi-p.lo+1)) (-1) 0
   have p1:=aX (q.1.tdiv 7) (n:=p.hi-p.lo+1) (by omega)
   refine ⟨_,_,hC,by omega,fun K=>?_⟩
   rw [hx0] at hlx b0
   rw [decide_eq_true (by simp)] at b0
   generalize p.lo+aL (q.1.tdiv 7) (p.hi-p.lo+1)=z at *
   generalize ((q :: r).length:Int)=N at *
   generalize [Ent.row 5 false [ax p a b],cq .nilS .nilS 0 0 0,cq .nilS .nilS p.lo (-1) 0]=A0 at *
   simp [xX,hlx,b0,re,-aj,-ay]
 obtain ⟨B,ds,ms,lp,h2,h3,h4⟩:=GO (v2:=.int .i64 tl) (v3:=.int .i64 ti) ha hok hp hxs hq hn.2 hxl p.stages.length 50 [] [] A1 (by simp) (by omega) h1 ⟨rfl,fun j v h=>by simp at h,fun v h=>by cases h⟩
 have lp:bI (evC (ac GS ia) 50 ju) jn 50 (lP v1 (.int .i64 tl) (.int .i64 ti) (.ptr 0 0 0) (.ptr 1 0 0) (.ptr 2 0 0) (.int .i64 0)) A1=_:=lp
 obtain ⟨C,tool,at_,v9,v13,v14,rf,h5,hf⟩:=FL h2 ha hok hn hsm htl hti
 obtain ⟨d,m,s5,d5,m5,_⟩:=h5.s
 have z5:=h5.z
 have F:Fr C (C.set 1 (cq d m det tool at_)) [1]:=Fr.set _ _ _
 have x1:∀k∈[1],∀l,C[k]?≠some (.row 1 false l):=fun k hk l=>by simp at hk; subst hk; rw [z5]; unfold cq; simp
 have d6:=d5.frE F x1
 have m6:=m5.frE F x1
 have fd:frz (C.set 1 (cq d m det tool at_)) 3 d=slA 1 (ds.map (.int .i64)):=d6.frz 2 fun y hy=>by
  obtain ⟨w,_,rfl⟩:=List.mem_map.1 hy
  rfl
 have fm:frz (C.set 1 (cq d m det tool at_)) 3 m=slA 1 (ms.map (.int .i64)):=m6.frz 2 fun y hy=>by
  obtain ⟨w,_,rfl⟩:=List.mem_map.1 hy
  rfl
 have gd:bV (C.set 1 (cq d m det tool at_)) 3 d=true:=d6.fresh 2 fun y hy=>by
  obtain ⟨w,_,rfl⟩:=List.mem_map.1 hy
  rfl
 have gm:bV (C.set 1 (cq d m det tool at_)) 3 m=true:=m6.fresh 2 fun y hy=>by
  obtain ⟨w,_,rfl⟩:=List.mem_map.1 hy
  rfl
 have hset:(C.set 1 (cq d m det tool at_))[1]?=some (cq d m det tool at_):=List.getElem?_set_self (List.getElem?_eq_some_iff.1 z5).1
 refine ⟨⟨ds,ms,det,tool,at_⟩,slA 1 (ds.map (.int .i64)),slA 1 (ms.map (.int .i64)),?_,bu _ _,bu _ _,oO hv h3 h4 hdet hf⟩
 unfold M11
 rw [j7 _ _ rfl,Gr]
 clear at0 h1 h2 h5 d5 m5 d6 m6 F
 generalize hD:C.set 1 (cq d m det tool at_)=D at *
 generalize slA 1 (ds.map (AV.int .i64))=sd at *
 generalize slA 1 (ms.map (AV.int .i64))=sm at *
 generalize decide (0<xs.length)=c0 at *
 unfold cq ax bM at *
 simp [r1,G9 lp,rf,s5,z5,hD,hset,fd,fm,gd,gm,bV,az,-aj,-ay]
end Sh
namespace Sh
open Go
theorem mW:∀ {l:List Bk} {c d:Cal} {N:Nat},bR c l=some d->(∀t,(c t).length<=N)->∀t,(d t).length<=N+l.length
 | [],c,d,N,h,hl=>by
  obtain rfl:c=d:=by injection h
  exact fun t=>hl t
 | b :: l,c,d,N,h,hl=>by
  unfold bR at h
  obtain ⟨c1,h1,h2⟩:=Option.bind_eq_some_iff.1 h
  intro t
  have:=mW h2 (fA h1 hl) t
  simp only [List.length_cons]
  omega
theorem rH {p:Pl} (h:vJ p):1<=p.stages.length/\p.stages.length<=8:=h.1.2.2.2.1
structure IJ (c:Cal) (p:Pl) (ow:Int) (d:Cal):Prop where
 safe:vJ p
 book:bR c (fB ow p.stages)=some d
 early:∀x∈p.stages,x.ms<=900000/\x.ss<=900000
 full:dj d
 plan:∃(hi:Int) (c':Cal) (t:Int) (l:List Nd),cd hi c t l=some (c',p.stages)
theorem NY {c:Cal} {e lo hi over ow M:Int} {ns:List fP} {ws:List Win} {st:List Stg} {N:Nat} (hc:dj c) (hl:∀t,(c t).length<=N) (hM:dY c M) (h0:100<=M/\M<=800000) (hr:vK e lo hi ns ws) (he:e<=100) (hh:hi<=10) (hx:∀y∈ns,y.mx<=30)
  (how:1<=ow/\ow<=1000000) (hb:iY c e lo hi ns ws=some (st,over)) :
  ∃d,IJ c ⟨e,lo,hi,st,ws⟩ ow d/\dY d (M+320)/\∀t,(d t).length<=N+8:=by
 obtain ⟨ps,d0,⟨q1,q2⟩,hp,hs⟩:=vD hr.tools hb
 have f1:=gW hc hp
 obtain ⟨d,hd⟩:=oz hc.1 how f1
 have ln:=jb hp
 have l4:(dF ns ps).length<=4:=by
  have:=hr.n.2
  unfold dF
  rw [List.length_zipWith]
  omega
 have le:=rM ⟨by have:=hr.lo; omega,hh⟩ hc hp hM (by omega) (by omega) (fun x hx'=>by
  unfold dF at hx'
  obtain ⟨i,hi,e⟩:=List.getElem_of_mem hx'
  rw [List.getElem_zipWith] at e
  rw [<-e]
  exact hx _ (List.getElem_mem _))
 have le':∀x∈st,x.ms+x.mx<=M+320/\x.ss+x.mx<=M+320:=fun x hx'=>by
  have:=le x hx'
  omega
 have ok:=hs.1.2.2.2.2.2.1
 refine ⟨d,⟨hs,hd,fun x hx'=>?_,r7 hc hd,_,_,_,_,hp⟩,DY hc.1 hd (hM.mono (by omega)) le',fun t=>?_⟩
 ·have k1:=le' x hx'
  obtain ⟨o1,o2,_⟩:=ok x hx'
  omega
 ·have:=mW hd hl t
  rw [ph] at this
  omega
theorem sG {c d e:Cal} {p q:Pl} {o o':Int} (hc:dj c) (ho':1<=o'/\o'<=1000000) (h1:IJ c p o d) (h2:IJ d q o' e):∀a∈f0 p.stages,∀b∈f0 q.stages,Eu a b:=by
 obtain ⟨hi,c1,t,l,hp⟩:=h1.plan
 obtain ⟨hi',c2,t',l',hp'⟩:=h2.plan
 exact (wz hc ho' hp h1.book hp').2
theorem sZ {p q:Pl} {s t:Scn} (h1:bX p s) (h2:bX q t):bX q ⟨t.durs,t.moves,t.detour,s.tool,s.at_⟩:=⟨h2.1,h1.2⟩
theorem rI {p:Pl} {s:Scn} (h:bX p s) (hs:vJ p):∃vs,wN p s=(vs,0,0)/\vs.length=p.stages.length/\∀j,j<p.stages.length->wn p.stages[j]! j s.durs[j]! vs[j]!:=wH h.1 hs
theorem Fi {c d e:Cal} {p q:Pl} {o o':Int} {s t:Scn} {vs us:List Vis} (hc:dj c) (ho':1<=o'/\o'<=1000000) (h1:IJ c p o d) (h2:IJ d q o' e) (hs:bX p s) (ht:bX q t)
  (hv:vs.length=p.stages.length/\∀j,j<p.stages.length->wn p.stages[j]! j s.durs[j]! vs[j]!) (hu:us.length=q.stages.length/\∀j,j<q.stages.length->wn q.stages[j]! j t.durs[j]! us[j]!) :
  ∀v∈vs,∀u∈us,¬ (v.tool=u.tool/\v.start<u.fin/\u.start<v.fin):=by
 intro v hvm u hum
 obtain ⟨i,hi,rfl⟩:=List.getElem_of_mem hvm
 obtain ⟨j,hj,rfl⟩:=List.getElem_of_mem hum
 have f1:=hv.2 i (by omega)
 have f2:=hu.2 j (by omega)
 rw [getElem!_pos vs i hi] at f1
 rw [getElem!_pos us j hj] at f2
 exact sL hs.1 ht.1 (sG hc ho' h1 h2) (by omega) (by omega) f1 f2
end Sh
namespace Sh
open Go
theorem eqlI (a b:Int):aj .eql (.int .i64 a) (.int .i64 b)=some (.bool (decide (a=b))):=by simp [aj]
theorem N7 (a b:Int):aj .lss (.int .i64 a) (.int .i64 b)=some (.bool (decide (a<b))):=by simp [aj]
theorem A6 {E:Env} {A:aa} {av bv:AV} {vs us:List Vis} {i k:Nat} {v u:Vis} (v13:AV) (ha:SlA 4 (vs.map ip) av) (hb:SlA 4 (us.map ip) bv) (hi:vs[i]?=some v) (hk:us[k]?=some u) (hl:us.length<=20) (hn:¬ (v.tool=u.tool/\v.start<u.fin/\u.start<v.fin)) :
  run E 50 [.code oL] (qy v13 av bv (.int .i64 (i:Int)) (.int .i64 (k:Int))) A=some (.normal (qy v13 av bv (.int .i64 (i:Int)) (.int .i64 ((k+1:Nat):Int))) A):=by
 have hk':k<us.length:=(List.getElem?_eq_some_iff.1 hk).1
 have b1:=bK k us.length .i64
 rw [decide_eq_true hk'] at b1
 have b3:=aY k (by omega)
 have ll:=hb.len
 rw [List.length_map] at ll
 have x1:=ha.index (A:=A) (i:=i) (x:=ip v) (by rw [List.getElem?_map,hi]; rfl) rfl (by omega) .i64
 have x2:=hb.index (A:=A) (i:=k) (x:=ip u) (by rw [List.getElem?_map,hk]; rfl) rfl (by omega) .i64
 have c1:=eqlI v.tool u.tool
 have c2:=N7 v.start u.fin
 have c3:=N7 u.start v.fin
 have e1:cellsOf (ip v)=[.int .i64 v.step,.int .i64 v.tool,.int .i64 v.start,.int .i64 v.fin]:=rfl
 have e2:cellsOf (ip u)=[.int .i64 u.step,.int .i64 u.tool,.int .i64 u.start,.int .i64 u.fin]:=rfl
 rw [e1] at x1
 rw [e2] at x2
 generalize ((k+1:Nat):Int)=K1 at *
 generalize (us.length:Int)=N at *
 generalize (i:Int)=I at *
 generalize (k:Int)=K at *
 clear ha hb hi hk hk' e1 e2 hl
 by_cases p:v.tool=u.tool
 ·rw [decide_eq_true p] at c1
  by_cases q:v.start<u.fin
  ·rw [decide_eq_true q] at c2
   rw [decide_eq_false (fun r=>hn ⟨p,q,r⟩)] at c3
   simp [oL,b1,b3,ll,x1,x2,c1,c2,c3,-aj,-ae,-ay]
  ·rw [decide_eq_false q] at c2
   simp [oL,b1,b3,ll,x1,x2,c1,c2,-aj,-ae,-ay]
 ·rw [decide_eq_false p] at c1
  simp [oL,b1,b3,ll,x1,x2,c1,-aj,-ae,-ay]
theorem GI {E:Env} {A:aa} {av bv:AV} {vs us:List Vis} {i:Nat} {v:Vis} (v13:AV) (ha:SlA 4 (vs.map ip) av) (hb:SlA 4 (us.map ip) bv) (hi:vs[i]?=some v) (hl:us.length<=20) (hn:∀u∈us,¬ (v.tool=u.tool/\v.start<u.fin/\u.start<v.fin)) :
  bI (evC E 50 oL) mi 50 (qy v13 av bv (.int .i64 (i:Int)) (.int .i64 0)) A=some (.exit 2 ((qy v13 av bv (.int .i64 (i:Int)) (.int .i64 (us.length:Int))).set 35 (.bool false)) A):=by
 refine oM (fun k=>qy v13 av bv (.int .i64 (i:Int)) (.int .i64 (k:Int))) (fun _=>A) us.length (fun _=>IC) (fun _ _ h=>by cases h) (fun k hk=>A6 v13 ha hb hi (List.getElem?_eq_getElem hk) hl (hn _ (List.getElem_mem hk))) ?_ (by omega)
 have b1:=bK us.length us.length .i64
 rw [decide_eq_false (by omega)] at b1
 have ll:=hb.len
 rw [List.length_map] at ll
 simp [oL,b1,ll,-aj,-ay]
theorem GH {E:Env} {A:aa} {av bv:AV} {vs us:List Vis} (v13:AV) (ha:SlA 4 (vs.map ip) av) (hb:SlA 4 (us.map ip) bv) (hl:vs.length<=20/\us.length<=20) (hn:∀v∈vs,∀u∈us,¬ (v.tool=u.tool/\v.start<u.fin/\u.start<v.fin)) :
  bI (evC E 50 qH) mh 50 (tM v13 av bv (.int .i64 0)) A=some (.exit 0 ((tM v13 av bv (.int .i64 (vs.length:Int))).set 34 (.bool false)) A):=by
 have la:=ha.len
 rw [List.length_map] at la
 refine oM (fun k=>tM v13 av bv (.int .i64 (k:Int))) (fun _=>A) vs.length (fun _=>IB) (fun _ _ h=>by cases h) (fun k hk=>?_) ?_ (by omega)
 ·have lp:=GI (E:=E) (A:=A) v13 ha hb (List.getElem?_eq_getElem hk) hl.2 (hn _ (List.getElem_mem hk))
  have b1:=bK k vs.length .i64
  rw [decide_eq_true hk] at b1
  have b3:=aY k (by omega)
  generalize ((k+1:Nat):Int)=K1 at *
  generalize (us.length:Int)=N at *
  generalize (vs.length:Int)=N' at *
  generalize (k:Int)=K at *
  simp [qH,b1,b3,la,LD lp,-aj,-ay]
 ·have b1:=bK vs.length vs.length .i64
  rw [decide_eq_false (by omega)] at b1
  simp [qH,b1,la,-aj,-ay]
end Sh
namespace Sh
open Go
def fs3 (M6:aN):List (FuncId × aB):=[(6,aK 4 M6),(7,H7),(8,H8),(9,ec 4 M9),(10,H10),(11,ec 4 M11),(12,ec 4 M12)]
@[simp] theorem fs3_6 (M6:aN):aR (fs3 M6) 6=some (aK 4 M6):=rfl
@[simp] theorem fs3_7 (M6:aN):aR (fs3 M6) 7=some (H7):=rfl
@[simp] theorem fs3_8 (M6:aN):aR (fs3 M6) 8=some (H8):=rfl
@[simp] theorem fs3_9 (M6:aN):aR (fs3 M6) 9=some (ec 4 M9):=rfl
@[simp] theorem Ol (M6:aN):aR (fs3 M6) 10=some (H10):=rfl
@[simp] theorem Ok (M6:aN):aR (fs3 M6) 11=some (ec 4 M11):=rfl
@[simp] theorem Oj (M6:aN):aR (fs3 M6) 12=some (ec 4 M12):=rfl
def sg1:MC:=.region [⟨some 10,.box (.var 1),none⟩,⟨some 11,.box (.var 4),none⟩,⟨some 12,.mv (.cst (.bool false)),none⟩]
def sg2:MC:=.region [⟨none,.call (.fn 6) [],none⟩,⟨some 13,.mv (.tmp 0),none⟩]
def sg3:MC:=.region [⟨none,.mv (.var 0),none⟩,⟨none,.call (.fn 7) [.tmp 0],none⟩,⟨some 14,.mv (.tmp 1),none⟩]
def sg4:MC:=.region [⟨none,.mv (.var 14),none⟩,⟨none,.load true 4 (.var 10),none⟩,⟨none,.mv (.var 2),none⟩,⟨none,.mv (.var 3),none⟩,⟨none,.call (.fn 9) [.tmp 1,.tmp 2,.tmp 3],none⟩,⟨none,.call (.fn 8) [.tmp 0,.tmp 4],none⟩,⟨none,.mv (.tmp 5),none⟩,⟨none,.extract (.tmp 6) 0,none⟩,⟨none,.extract (.tmp 6) 1,none⟩,⟨some 15,.alloc 5 (.agg [.int .i64 0,.int .i64 0,.int .i64 0,.nilS,.nilS]),none⟩,⟨none,.store 5 (.var 15) (.tmp 7),none⟩,⟨some 16,.mv (.tmp 8),none⟩]
def sg5:MC:=.seq (.region [⟨none,.mv (.var 16),none⟩,⟨some 29,.bin .neq (.tmp 0) (.cst (.int .i64 0)),none⟩]) (.cond (.var 29) (.seq (.region [⟨none,.mv (.var 13),none⟩,⟨none,.mv (.tmp 0),none⟩,⟨none,.mv (.var 16),some (.tmp 1,true)⟩,⟨none,.bin .eql (.tmp 2) (.cst (.int .i64 100)),some (.tmp 1,true)⟩,⟨none,.pick (.tmp 1) (.tmp 3) (.cst (.bool false)),none⟩,⟨some 12,.mv (.tmp 4),none⟩]) .ret) .skip)
def sg6:MC:=.seq (.region [⟨none,.mv (.var 14),none⟩,⟨none,.load true 5 (.var 15),none⟩,⟨none,.call (.fn 10) [.tmp 0,.tmp 1,.cst (.int .i64 1)],none⟩,⟨some 30,.bin .neq (.tmp 2) (.cst (.int .i64 0)),none⟩]) (.cond (.var 30) (.seq (.region [⟨some 12,.mv (.cst (.bool false)),none⟩]) .ret) .skip)
def sg7:MC:=.region [⟨none,.mv (.var 14),none⟩,⟨none,.load true 4 (.var 11),none⟩,⟨none,.mv (.var 5),none⟩,⟨none,.call (.fn 9) [.tmp 1,.tmp 2,.cst .nilS],none⟩,⟨none,.call (.fn 8) [.tmp 0,.tmp 3],none⟩,⟨none,.mv (.tmp 4),none⟩,⟨none,.extract (.tmp 5) 0,none⟩,⟨none,.extract (.tmp 5) 1,none⟩,⟨some 17,.alloc 5 (.agg [.int .i64 0,.int .i64 0,.int .i64 0,.nilS,.nilS]),none⟩,⟨none,.store 5 (.var 17) (.tmp 6),none⟩,⟨some 18,.mv (.tmp 7),none⟩]
def sg8:MC:=.seq (.region [⟨none,.mv (.var 18),none⟩,⟨some 31,.bin .neq (.tmp 0) (.cst (.int .i64 0)),none⟩]) (.cond (.var 31) (.seq (.region [⟨none,.mv (.var 13),none⟩,⟨none,.mv (.tmp 0),none⟩,⟨none,.mv (.var 18),some (.tmp 1,true)⟩,⟨none,.bin .eql (.tmp 2) (.cst (.int .i64 100)),some (.tmp 1,true)⟩,⟨none,.pick (.tmp 1) (.tmp 3) (.cst (.bool false)),none⟩,⟨some 12,.mv (.tmp 4),none⟩]) .ret) .skip)
def sg9:MC:=.seq (.region [⟨none,.mv (.var 14),none⟩,⟨none,.load true 5 (.var 17),none⟩,⟨none,.call (.fn 10) [.tmp 0,.tmp 1,.cst (.int .i64 2)],none⟩,⟨some 32,.bin .neq (.tmp 2) (.cst (.int .i64 0)),none⟩]) (.cond (.var 32) (.seq (.region [⟨some 12,.mv (.cst (.bool false)),none⟩]) .ret) .skip)
def JK:MC:=.region [⟨none,.load true 5 (.var 15),none⟩,⟨none,.mv (.var 6),none⟩,⟨none,.mv (.var 8),none⟩,⟨none,.mv (.var 9),none⟩,⟨none,.call (.fn 11) [.tmp 0,.tmp 1,.tmp 2,.tmp 3],none⟩,⟨some 19,.alloc 5 (.agg [.nilS,.nilS,.int .i64 0,.int .i64 0,.int .i64 0]),none⟩,⟨none,.store 5 (.var 19) (.tmp 4),none⟩]
def JJ:MC:=.region [⟨none,.load true 5 (.var 17),none⟩,⟨none,.mv (.var 7),none⟩,⟨none,.call (.fn 11) [.tmp 0,.tmp 1,.cst (.int .i64 0),.cst (.int .i64 0)],none⟩,⟨some 20,.alloc 5 (.agg [.nilS,.nilS,.int .i64 0,.int .i64 0,.int .i64 0]),none⟩,⟨none,.store 5 (.var 20) (.tmp 2),none⟩]
def JI:MC:=.region [⟨none,.fieldAddr 3 (.var 19),none⟩,⟨none,.load false 1 (.tmp 0),none⟩,⟨none,.fieldAddr 3 (.var 20),none⟩,⟨none,.store 1 (.tmp 2) (.tmp 1),none⟩]
def JH:MC:=.region [⟨none,.fieldAddr 4 (.var 19),none⟩,⟨none,.load false 1 (.tmp 0),none⟩,⟨none,.fieldAddr 4 (.var 20),none⟩,⟨none,.store 1 (.tmp 2) (.tmp 1),none⟩]
def JG:MC:=.region [⟨none,.load true 5 (.var 15),none⟩,⟨none,.load true 5 (.var 19),none⟩,⟨none,.call (.fn 12) [.tmp 0,.tmp 1],none⟩,⟨none,.mv (.tmp 2),none⟩,⟨none,.extract (.tmp 3) 0,none⟩,⟨none,.extract (.tmp 3) 1,none⟩,⟨none,.extract (.tmp 3) 2,none⟩,⟨some 22,.alloc 2 (.agg [.int .i64 0,.int .i64 0]),none⟩,⟨some 21,.mv (.tmp 4),none⟩,⟨none,.store 2 (.var 22) (.tmp 5),none⟩,⟨some 23,.mv (.tmp 6),none⟩]
def JF:MC:=.region [⟨none,.load true 5 (.var 17),none⟩,⟨none,.load true 5 (.var 20),none⟩,⟨none,.call (.fn 12) [.tmp 0,.tmp 1],none⟩,⟨none,.mv (.tmp 2),none⟩,⟨none,.extract (.tmp 3) 0,none⟩,⟨none,.extract (.tmp 3) 1,none⟩,⟨none,.extract (.tmp 3) 2,none⟩,⟨some 25,.alloc 2 (.agg [.int .i64 0,.int .i64 0]),none⟩,⟨some 24,.mv (.tmp 4),none⟩,⟨none,.store 2 (.var 25) (.tmp 5),none⟩,⟨some 26,.mv (.tmp 6),none⟩]
def JE:MC:=.seq (.region [⟨none,.mv (.var 23),none⟩,⟨none,.bin .neq (.tmp 0) (.cst (.int .i64 0)),none⟩,⟨none,.mv (.tmp 1),none⟩,⟨none,.mv (.var 26),some (.tmp 2,false)⟩,⟨none,.bin .neq (.tmp 3) (.cst (.int .i64 0)),some (.tmp 2,false)⟩,⟨none,.pick (.tmp 2) (.cst (.bool true)) (.tmp 4),none⟩,⟨none,.mv (.tmp 5),none⟩,⟨none,.fieldAddr 0 (.var 22),some (.tmp 6,false)⟩,⟨none,.load false 1 (.tmp 7),some (.tmp 6,false)⟩,⟨none,.bin .neq (.tmp 8) (.cst (.int .i64 0)),some (.tmp 6,false)⟩,⟨none,.pick (.tmp 6) (.cst (.bool true)) (.tmp 9),none⟩,⟨none,.mv (.tmp 10),none⟩,⟨none,.fieldAddr 0 (.var 25),some (.tmp 11,false)⟩,⟨none,.load false 1 (.tmp 12),some (.tmp 11,false)⟩,⟨none,.bin .neq (.tmp 13) (.cst (.int .i64 0)),some (.tmp 11,false)⟩,⟨some 33,.pick (.tmp 11) (.cst (.bool true)) (.tmp 14),none⟩]) (.cond (.var 33) (.seq (.region [⟨some 12,.mv (.cst (.bool false)),none⟩]) .ret) .skip)
def JD:MC:=.seq (.region [⟨some 27,.mv (.cst (.int .i64 0)),none⟩]) (.seq (.block 0 (.loop [0,1,2,3,4,5,6,7,8,9,10,11,12,14,15,16,17,18,19,20,22,23,25,26,28,29,30,31,32,33,34,35,36] qH)) (.kill [0,1,2,3,4,5,6,7,8,9,10,11,12,14,15,16,17,18,19,20,21,22,23,24,25,26,27,28,29,30,31,32,33,34,35,36]))
def JC:MC:=.region [⟨none,.mv (.var 13),none⟩,⟨some 12,.mv (.tmp 0),none⟩]
def JB:MC:=.ret
theorem yH:mf3=⟨10,37,.seq sg1 (.seq sg2 (.seq sg3 (.seq sg4 (.seq sg5 (.seq sg6 (.seq sg7 (.seq sg8 (.seq sg9 (.seq JK (.seq JJ (.seq JI (.seq JH (.seq JG (.seq JF (.seq JE (.seq JD (.seq JC (JB)))))))))))))))))),[.tmp 12]⟩:=rfl
section
variable {M6:aN} {K:List KC} {A B:aa} {a0 a1 a2 a3 a4 a5 a6 a7 a8 a9:AV} {d k15 k17 k19 k20 k22 k25:Nat} {av bv pv rv qv:AV}
abbrev zPl:AV:=.agg [.int .i64 0,.int .i64 0,.int .i64 0,.nilS,.nilS]
abbrev zSc:AV:=.agg [.nilS,.nilS,.int .i64 0,.int .i64 0,.int .i64 0]
abbrev zLt:AV:=.agg [.int .i64 0,.int .i64 0]
theorem g1 (h1:a1.solid=true/\(cellsOf a1).length=4) (h4:a4.solid=true/\(cellsOf a4).length=4) :
  run (ac GS (fs3 M6)) 50 (.code sg1 :: K) [a0,a1,a2,a3,a4,a5,a6,a7,a8,a9,.undef,.undef,.undef,.undef,.undef,.undef,.undef,.undef,.undef,.undef,.undef,.undef,.undef,.undef,.undef,.undef,.undef,.undef,.undef,.undef,.undef,.undef,.undef,.undef,.undef,.undef,.undef] []=run (ac GS (fs3 M6)) 50 K [a0,a1,a2,a3,a4,a5,a6,a7,a8,a9,.ptr 0 0 0,.ptr 1 0 0,.bool false,.undef,.undef,.undef,.undef,.undef,.undef,.undef,.undef,.undef,.undef,.undef,.undef,.undef,.undef,.undef,.undef,.undef,.undef,.undef,.undef,.undef,.undef,.undef,.undef] [.row 4 false [a1],.row 4 false [a4]]:=by
 simp [sg1,h1,h4,-cellsOf,-AV.solid]
theorem g2 (h6:M6 []=some (.bool true)) :
  run (ac GS (fs3 M6)) 50 (.code sg2 :: K) [a0,a1,a2,a3,a4,a5,a6,a7,a8,a9,.ptr 0 0 0,.ptr 1 0 0,.bool false,.undef,.undef,.undef,.undef,.undef,.undef,.undef,.undef,.undef,.undef,.undef,.undef,.undef,.undef,.undef,.undef,.undef,.undef,.undef,.undef,.undef,.undef,.undef,.undef] A=run (ac GS (fs3 M6)) 50 K [a0,a1,a2,a3,a4,a5,a6,a7,a8,a9,.ptr 0 0 0,.ptr 1 0 0,.bool false,.bool true,.undef,.undef,.undef,.undef,.undef,.undef,.undef,.undef,.undef,.undef,.undef,.undef,.undef,.undef,.undef,.undef,.undef,.undef,.undef,.undef,.undef,.undef,.undef] A:=by
 simp [sg2,h6]
theorem g3 (h7:H7 (fun _ _ _=>none) [a0] A=some (.ptr d 0 0,B)) :
  run (ac GS (fs3 M6)) 50 (.code sg3 :: K) [a0,a1,a2,a3,a4,a5,a6,a7,a8,a9,.ptr 0 0 0,.ptr 1 0 0,.bool false,.bool true,.undef,.undef,.undef,.undef,.undef,.undef,.undef,.undef,.undef,.undef,.undef,.undef,.undef,.undef,.undef,.undef,.undef,.undef,.undef,.undef,.undef,.undef,.undef] A=run (ac GS (fs3 M6)) 50 K [a0,a1,a2,a3,a4,a5,a6,a7,a8,a9,.ptr 0 0 0,.ptr 1 0 0,.bool false,.bool true,.ptr d 0 0,.undef,.undef,.undef,.undef,.undef,.undef,.undef,.undef,.undef,.undef,.undef,.undef,.undef,.undef,.undef,.undef,.undef,.undef,.undef,.undef,.undef,.undef] B:=by
 simp [sg3,h7]
theorem g4n (hb:aD true 4 A (.ptr 0 0 0)=some qv) (h9:M9 [frz A 4 qv,frz A 4 a2,frz A 4 a3]=some rv) (h8:H8 (fun _ _ _=>none) [.ptr d 0 0,rv] A=some (.tup [pv,.int .i64 100],B)) (hs:aP 5 (B++[.row 5 false [zPl]]) (.ptr B.length 0 0) pv=some (B++[.row 5 false [pv]])) :
  run (ac GS (fs3 M6)) 50 (.code sg4 :: K) [a0,a1,a2,a3,a4,a5,a6,a7,a8,a9,.ptr 0 0 0,.ptr 1 0 0,.bool false,.bool true,.ptr d 0 0,.undef,.undef,.undef,.undef,.undef,.undef,.undef,.undef,.undef,.undef,.undef,.undef,.undef,.undef,.undef,.undef,.undef,.undef,.undef,.undef,.undef,.undef] A=run (ac GS (fs3 M6)) 50 K [a0,a1,a2,a3,a4,a5,a6,a7,a8,a9,.ptr 0 0 0,.ptr 1 0 0,.bool false,.bool true,.ptr d 0 0,(.ptr B.length 0 0),(.int .i64 100),.undef,.undef,.undef,.undef,.undef,.undef,.undef,.undef,.undef,.undef,.undef,.undef,.undef,.undef,.undef,.undef,.undef,.undef,.undef,.undef] (B++[.row 5 false [pv]]):=by
 simp [sg4,hb,h9,h8,hs,-aD,-aP]
theorem g5n  :
  run (ac GS (fs3 M6)) 50 (.code sg5 :: K) [a0,a1,a2,a3,a4,a5,a6,a7,a8,a9,.ptr 0 0 0,.ptr 1 0 0,.bool false,.bool true,.ptr d 0 0,.ptr k15 0 0,(.int .i64 100),.undef,.undef,.undef,.undef,.undef,.undef,.undef,.undef,.undef,.undef,.undef,.undef,.undef,.undef,.undef,.undef,.undef,.undef,.undef,.undef] A=some (.ret [a0,a1,a2,a3,a4,a5,a6,a7,a8,a9,.ptr 0 0 0,.ptr 1 0 0,.bool true,.bool true,.ptr d 0 0,.ptr k15 0 0,(.int .i64 100),.undef,.undef,.undef,.undef,.undef,.undef,.undef,.undef,.undef,.undef,.undef,.undef,.bool true,.undef,.undef,.undef,.undef,.undef,.undef,.undef] A):=by
 simp [sg5,aj]
theorem g4 (hb:aD true 4 A (.ptr 0 0 0)=some qv) (h9:M9 [frz A 4 qv,frz A 4 a2,frz A 4 a3]=some rv) (h8:H8 (fun _ _ _=>none) [.ptr d 0 0,rv] A=some (.tup [pv,.int .i64 0],B)) (hs:aP 5 (B++[.row 5 false [zPl]]) (.ptr B.length 0 0) pv=some (B++[.row 5 false [pv]])) :
  run (ac GS (fs3 M6)) 50 (.code sg4 :: K) [a0,a1,a2,a3,a4,a5,a6,a7,a8,a9,.ptr 0 0 0,.ptr 1 0 0,.bool false,.bool true,.ptr d 0 0,.undef,.undef,.undef,.undef,.undef,.undef,.undef,.undef,.undef,.undef,.undef,.undef,.undef,.undef,.undef,.undef,.undef,.undef,.undef,.undef,.undef,.undef] A=run (ac GS (fs3 M6)) 50 K [a0,a1,a2,a3,a4,a5,a6,a7,a8,a9,.ptr 0 0 0,.ptr 1 0 0,.bool false,.bool true,.ptr d 0 0,(.ptr B.length 0 0),(.int .i64 0),.undef,.undef,.undef,.undef,.undef,.undef,.undef,.undef,.undef,.undef,.undef,.undef,.undef,.undef,.undef,.undef,.undef,.undef,.undef,.undef] (B++[.row 5 false [pv]]):=by
 simp [sg4,hb,h9,h8,hs,-aD,-aP]
theorem g5  :
  run (ac GS (fs3 M6)) 50 (.code sg5 :: K) [a0,a1,a2,a3,a4,a5,a6,a7,a8,a9,.ptr 0 0 0,.ptr 1 0 0,.bool false,.bool true,.ptr d 0 0,.ptr k15 0 0,(.int .i64 0),.undef,.undef,.undef,.undef,.undef,.undef,.undef,.undef,.undef,.undef,.undef,.undef,.undef,.undef,.undef,.undef,.undef,.undef,.undef,.undef] A=run (ac GS (fs3 M6)) 50 K [a0,a1,a2,a3,a4,a5,a6,a7,a8,a9,.ptr 0 0 0,.ptr 1 0 0,.bool false,.bool true,.ptr d 0 0,.ptr k15 0 0,(.int .i64 0),.undef,.undef,.undef,.undef,.undef,.undef,.undef,.undef,.undef,.undef,.undef,.undef,.bool false,.undef,.undef,.undef,.undef,.undef,.undef,.undef] A:=by
 simp [sg5,aj]
theorem g6 (hl:aD true 5 A (.ptr k15 0 0)=some pv) (h10:H10 (fun _ _ _=>none) [.ptr d 0 0,pv,.int .i64 1] A=some (.int .i64 0,B)) :
  run (ac GS (fs3 M6)) 50 (.code sg6 :: K) [a0,a1,a2,a3,a4,a5,a6,a7,a8,a9,.ptr 0 0 0,.ptr 1 0 0,.bool false,.bool true,.ptr d 0 0,.ptr k15 0 0,(.int .i64 0),.undef,.undef,.undef,.undef,.undef,.undef,.undef,.undef,.undef,.undef,.undef,.undef,.bool false,.undef,.undef,.undef,.undef,.undef,.undef,.undef] A=run (ac GS (fs3 M6)) 50 K [a0,a1,a2,a3,a4,a5,a6,a7,a8,a9,.ptr 0 0 0,.ptr 1 0 0,.bool false,.bool true,.ptr d 0 0,.ptr k15 0 0,(.int .i64 0),.undef,.undef,.undef,.undef,.undef,.undef,.undef,.undef,.undef,.undef,.undef,.undef,.bool false,.bool false,.undef,.undef,.undef,.undef,.undef,.undef] B:=by
 simp [sg6,hl,h10,aj,-aD]
theorem g7n (hb:aD true 4 A (.ptr 1 0 0)=some qv) (h9:M9 [frz A 4 qv,frz A 4 a5,.nilS]=some rv) (h8:H8 (fun _ _ _=>none) [.ptr d 0 0,rv] A=some (.tup [pv,.int .i64 100],B)) (hs:aP 5 (B++[.row 5 false [zPl]]) (.ptr B.length 0 0) pv=some (B++[.row 5 false [pv]])) :
  run (ac GS (fs3 M6)) 50 (.code sg7 :: K) [a0,a1,a2,a3,a4,a5,a6,a7,a8,a9,.ptr 0 0 0,.ptr 1 0 0,.bool false,.bool true,.ptr d 0 0,.ptr k15 0 0,(.int .i64 0),.undef,.undef,.undef,.undef,.undef,.undef,.undef,.undef,.undef,.undef,.undef,.undef,.bool false,.bool false,.undef,.undef,.undef,.undef,.undef,.undef] A=run (ac GS (fs3 M6)) 50 K [a0,a1,a2,a3,a4,a5,a6,a7,a8,a9,.ptr 0 0 0,.ptr 1 0 0,.bool false,.bool true,.ptr d 0 0,.ptr k15 0 0,(.int .i64 0),(.ptr B.length 0 0),(.int .i64 100),.undef,.undef,.undef,.undef,.undef,.undef,.undef,.undef,.undef,.undef,.bool false,.bool false,.undef,.undef,.undef,.undef,.undef,.undef] (B++[.row 5 false [pv]]):=by
 simp [sg7,hb,h9,h8,hs,-aD,-aP]
theorem g8n  :
  run (ac GS (fs3 M6)) 50 (.code sg8 :: K) [a0,a1,a2,a3,a4,a5,a6,a7,a8,a9,.ptr 0 0 0,.ptr 1 0 0,.bool false,.bool true,.ptr d 0 0,.ptr k15 0 0,(.int .i64 0),.ptr k17 0 0,(.int .i64 100),.undef,.undef,.undef,.undef,.undef,.undef,.undef,.undef,.undef,.undef,.bool false,.bool false,.undef,.undef,.undef,.undef,.undef,.undef] A=some (.ret [a0,a1,a2,a3,a4,a5,a6,a7,a8,a9,.ptr 0 0 0,.ptr 1 0 0,.bool true,.bool true,.ptr d 0 0,.ptr k15 0 0,(.int .i64 0),.ptr k17 0 0,(.int .i64 100),.undef,.undef,.undef,.undef,.undef,.undef,.undef,.undef,.undef,.undef,.bool false,.bool false,.bool true,.undef,.undef,.undef,.undef,.undef] A):=by
 simp [sg8,aj]
theorem g7 (hb:aD true 4 A (.ptr 1 0 0)=some qv) (h9:M9 [frz A 4 qv,frz A 4 a5,.nilS]=some rv) (h8:H8 (fun _ _ _=>none) [.ptr d 0 0,rv] A=some (.tup [pv,.int .i64 0],B)) (hs:aP 5 (B++[.row 5 false [zPl]]) (.ptr B.length 0 0) pv=some (B++[.row 5 false [pv]])) :
  run (ac GS (fs3 M6)) 50 (.code sg7 :: K) [a0,a1,a2,a3,a4,a5,a6,a7,a8,a9,.ptr 0 0 0,.ptr 1 0 0,.bool false,.bool true,.ptr d 0 0,.ptr k15 0 0,(.int .i64 0),.undef,.undef,.undef,.undef,.undef,.undef,.undef,.undef,.undef,.undef,.undef,.undef,.bool false,.bool false,.undef,.undef,.undef,.undef,.undef,.undef] A=run (ac GS (fs3 M6)) 50 K [a0,a1,a2,a3,a4,a5,a6,a7,a8,a9,.ptr 0 0 0,.ptr 1 0 0,.bool false,.bool true,.ptr d 0 0,.ptr k15 0 0,(.int .i64 0),(.ptr B.length 0 0),(.int .i64 0),.undef,.undef,.undef,.undef,.undef,.undef,.undef,.undef,.undef,.undef,.bool false,.bool false,.undef,.undef,.undef,.undef,.undef,.undef] (B++[.row 5 false [pv]]):=by
 simp [sg7,hb,h9,h8,hs,-aD,-aP]
theorem g8  :
  run (ac GS (fs3 M6)) 50 (.code sg8 :: K) [a0,a1,a2,a3,a4,a5,a6,a7,a8,a9,.ptr 0 0 0,.ptr 1 0 0,.bool false,.bool true,.ptr d 0 0,.ptr k15 0 0,(.int .i64 0),.ptr k17 0 0,(.int .i64 0),.undef,.undef,.undef,.undef,.undef,.undef,.undef,.undef,.undef,.undef,.bool false,.bool false,.undef,.undef,.undef,.undef,.undef,.undef] A=run (ac GS (fs3 M6)) 50 K [a0,a1,a2,a3,a4,a5,a6,a7,a8,a9,.ptr 0 0 0,.ptr 1 0 0,.bool false,.bool true,.ptr d 0 0,.ptr k15 0 0,(.int .i64 0),.ptr k17 0 0,(.int .i64 0),.undef,.undef,.undef,.undef,.undef,.undef,.undef,.undef,.undef,.undef,.bool false,.bool false,.bool false,.undef,.undef,.undef,.undef,.undef] A:=by
 simp [sg8,aj]
theorem g9 (hl:aD true 5 A (.ptr k17 0 0)=some pv) (h10:H10 (fun _ _ _=>none) [.ptr d 0 0,pv,.int .i64 2] A=some (.int .i64 0,B)) :
  run (ac GS (fs3 M6)) 50 (.code sg9 :: K) [a0,a1,a2,a3,a4,a5,a6,a7,a8,a9,.ptr 0 0 0,.ptr 1 0 0,.bool false,.bool true,.ptr d 0 0,.ptr k15 0 0,(.int .i64 0),.ptr k17 0 0,(.int .i64 0),.undef,.undef,.undef,.undef,.undef,.undef,.undef,.undef,.undef,.undef,.bool false,.bool false,.bool false,.undef,.undef,.undef,.undef,.undef] A=run (ac GS (fs3 M6)) 50 K [a0,a1,a2,a3,a4,a5,a6,a7,a8,a9,.ptr 0 0 0,.ptr 1 0 0,.bool false,.bool true,.ptr d 0 0,.ptr k15 0 0,(.int .i64 0),.ptr k17 0 0,(.int .i64 0),.undef,.undef,.undef,.undef,.undef,.undef,.undef,.undef,.undef,.undef,.bool false,.bool false,.bool false,.bool false,.undef,.undef,.undef,.undef] B:=by
 simp [sg9,hl,h10,aj,-aD]
theorem g10 (hl:aD true 5 A (.ptr k15 0 0)=some pv) (h11:M11 [frz A 4 pv,frz A 4 a6,frz A 4 a8,frz A 4 a9]=some rv) (hs:aP 5 (A++[.row 5 false [zSc]]) (.ptr A.length 0 0) rv=some (A++[.row 5 false [rv]])) :
  run (ac GS (fs3 M6)) 50 (.code JK :: K) [a0,a1,a2,a3,a4,a5,a6,a7,a8,a9,.ptr 0 0 0,.ptr 1 0 0,.bool false,.bool true,.ptr d 0 0,.ptr k15 0 0,(.int .i64 0),.ptr k17 0 0,(.int .i64 0),.undef,.undef,.undef,.undef,.undef,.undef,.undef,.undef,.undef,.undef,.bool false,.bool false,.bool false,.bool false,.undef,.undef,.undef,.undef] A=run (ac GS (fs3 M6)) 50 K [a0,a1,a2,a3,a4,a5,a6,a7,a8,a9,.ptr 0 0 0,.ptr 1 0 0,.bool false,.bool true,.ptr d 0 0,.ptr k15 0 0,(.int .i64 0),.ptr k17 0 0,(.int .i64 0),(.ptr A.length 0 0),.undef,.undef,.undef,.undef,.undef,.undef,.undef,.undef,.undef,.bool false,.bool false,.bool false,.bool false,.undef,.undef,.undef,.undef] (A++[.row 5 false [rv]]):=by
 simp [JK,hl,h11,hs,-aD,-aP]
theorem g11 (hl:aD true 5 A (.ptr k17 0 0)=some pv) (h11:M11 [frz A 4 pv,frz A 4 a7,.int .i64 0,.int .i64 0]=some rv) (hs:aP 5 (A++[.row 5 false [zSc]]) (.ptr A.length 0 0) rv=some (A++[.row 5 false [rv]])) :
  run (ac GS (fs3 M6)) 50 (.code JJ :: K) [a0,a1,a2,a3,a4,a5,a6,a7,a8,a9,.ptr 0 0 0,.ptr 1 0 0,.bool false,.bool true,.ptr d 0 0,.ptr k15 0 0,(.int .i64 0),.ptr k17 0 0,(.int .i64 0),.ptr k19 0 0,.undef,.undef,.undef,.undef,.undef,.undef,.undef,.undef,.undef,.bool false,.bool false,.bool false,.bool false,.undef,.undef,.undef,.undef] A=run (ac GS (fs3 M6)) 50 K [a0,a1,a2,a3,a4,a5,a6,a7,a8,a9,.ptr 0 0 0,.ptr 1 0 0,.bool false,.bool true,.ptr d 0 0,.ptr k15 0 0,(.int .i64 0),.ptr k17 0 0,(.int .i64 0),.ptr k19 0 0,(.ptr A.length 0 0),.undef,.undef,.undef,.undef,.undef,.undef,.undef,.undef,.bool false,.bool false,.bool false,.bool false,.undef,.undef,.undef,.undef] (A++[.row 5 false [rv]]):=by
 simp [JJ,hl,h11,hs,-aD,-aP]
theorem g12 (hf:aw 3 A (.ptr k19 0 0)=some (.ptr k19 0 3)) (hl:aD false 1 A (.ptr k19 0 3)=some pv) (hg:aw 3 A (.ptr k20 0 0)=some (.ptr k20 0 3)) (hs:aP 1 A (.ptr k20 0 3) pv=some B) :
  run (ac GS (fs3 M6)) 50 (.code JI :: K) [a0,a1,a2,a3,a4,a5,a6,a7,a8,a9,.ptr 0 0 0,.ptr 1 0 0,.bool false,.bool true,.ptr d 0 0,.ptr k15 0 0,(.int .i64 0),.ptr k17 0 0,(.int .i64 0),.ptr k19 0 0,.ptr k20 0 0,.undef,.undef,.undef,.undef,.undef,.undef,.undef,.undef,.bool false,.bool false,.bool false,.bool false,.undef,.undef,.undef,.undef] A=run (ac GS (fs3 M6)) 50 K [a0,a1,a2,a3,a4,a5,a6,a7,a8,a9,.ptr 0 0 0,.ptr 1 0 0,.bool false,.bool true,.ptr d 0 0,.ptr k15 0 0,(.int .i64 0),.ptr k17 0 0,(.int .i64 0),.ptr k19 0 0,.ptr k20 0 0,.undef,.undef,.undef,.undef,.undef,.undef,.undef,.undef,.bool false,.bool false,.bool false,.bool false,.undef,.undef,.undef,.undef] B:=by
 simp [JI,hf,hl,hg,hs,-aD,-aP,-aw]
theorem g13 (hf:aw 4 A (.ptr k19 0 0)=some (.ptr k19 0 4)) (hl:aD false 1 A (.ptr k19 0 4)=some pv) (hg:aw 4 A (.ptr k20 0 0)=some (.ptr k20 0 4)) (hs:aP 1 A (.ptr k20 0 4) pv=some B) :
  run (ac GS (fs3 M6)) 50 (.code JH :: K) [a0,a1,a2,a3,a4,a5,a6,a7,a8,a9,.ptr 0 0 0,.ptr 1 0 0,.bool false,.bool true,.ptr d 0 0,.ptr k15 0 0,(.int .i64 0),.ptr k17 0 0,(.int .i64 0),.ptr k19 0 0,.ptr k20 0 0,.undef,.undef,.undef,.undef,.undef,.undef,.undef,.undef,.bool false,.bool false,.bool false,.bool false,.undef,.undef,.undef,.undef] A=run (ac GS (fs3 M6)) 50 K [a0,a1,a2,a3,a4,a5,a6,a7,a8,a9,.ptr 0 0 0,.ptr 1 0 0,.bool false,.bool true,.ptr d 0 0,.ptr k15 0 0,(.int .i64 0),.ptr k17 0 0,(.int .i64 0),.ptr k19 0 0,.ptr k20 0 0,.undef,.undef,.undef,.undef,.undef,.undef,.undef,.undef,.bool false,.bool false,.bool false,.bool false,.undef,.undef,.undef,.undef] B:=by
 simp [JH,hf,hl,hg,hs,-aD,-aP,-aw]
theorem g14 (hl:aD true 5 A (.ptr k15 0 0)=some pv) (hk:aD true 5 A (.ptr k19 0 0)=some qv) (h12:M12 [frz A 4 pv,frz A 4 qv]=some (.tup [av,rv,.int .i64 0])) (hs:aP 2 (A++[.row 2 false [zLt]]) (.ptr A.length 0 0) rv=some (A++[.row 2 false [rv]])) :
  run (ac GS (fs3 M6)) 50 (.code JG :: K) [a0,a1,a2,a3,a4,a5,a6,a7,a8,a9,.ptr 0 0 0,.ptr 1 0 0,.bool false,.bool true,.ptr d 0 0,.ptr k15 0 0,(.int .i64 0),.ptr k17 0 0,(.int .i64 0),.ptr k19 0 0,.ptr k20 0 0,.undef,.undef,.undef,.undef,.undef,.undef,.undef,.undef,.bool false,.bool false,.bool false,.bool false,.undef,.undef,.undef,.undef] A=run (ac GS (fs3 M6)) 50 K [a0,a1,a2,a3,a4,a5,a6,a7,a8,a9,.ptr 0 0 0,.ptr 1 0 0,.bool false,.bool true,.ptr d 0 0,.ptr k15 0 0,(.int .i64 0),.ptr k17 0 0,(.int .i64 0),.ptr k19 0 0,.ptr k20 0 0,av,(.ptr A.length 0 0),.int .i64 0,.undef,.undef,.undef,.undef,.undef,.bool false,.bool false,.bool false,.bool false,.undef,.undef,.undef,.undef] (A++[.row 2 false [rv]]):=by
 simp [JG,hl,hk,h12,hs,-aD,-aP]
theorem g15 (hl:aD true 5 A (.ptr k17 0 0)=some pv) (hk:aD true 5 A (.ptr k20 0 0)=some qv) (h12:M12 [frz A 4 pv,frz A 4 qv]=some (.tup [av,rv,.int .i64 0])) (hs:aP 2 (A++[.row 2 false [zLt]]) (.ptr A.length 0 0) rv=some (A++[.row 2 false [rv]])) :
  run (ac GS (fs3 M6)) 50 (.code JF :: K) [a0,a1,a2,a3,a4,a5,a6,a7,a8,a9,.ptr 0 0 0,.ptr 1 0 0,.bool false,.bool true,.ptr d 0 0,.ptr k15 0 0,(.int .i64 0),.ptr k17 0 0,(.int .i64 0),.ptr k19 0 0,.ptr k20 0 0,bv,.ptr k22 0 0,.int .i64 0,.undef,.undef,.undef,.undef,.undef,.bool false,.bool false,.bool false,.bool false,.undef,.undef,.undef,.undef] A=run (ac GS (fs3 M6)) 50 K [a0,a1,a2,a3,a4,a5,a6,a7,a8,a9,.ptr 0 0 0,.ptr 1 0 0,.bool false,.bool true,.ptr d 0 0,.ptr k15 0 0,(.int .i64 0),.ptr k17 0 0,(.int .i64 0),.ptr k19 0 0,.ptr k20 0 0,bv,.ptr k22 0 0,.int .i64 0,av,(.ptr A.length 0 0),.int .i64 0,.undef,.undef,.bool false,.bool false,.bool false,.bool false,.undef,.undef,.undef,.undef] (A++[.row 2 false [rv]]):=by
 simp [JF,hl,hk,h12,hs,-aD,-aP]
theorem g16 (hf:aw 0 A (.ptr k22 0 0)=some (.ptr k22 0 0)) (hl:aD false 1 A (.ptr k22 0 0)=some (.int .i64 0)) (hg:aw 0 A (.ptr k25 0 0)=some (.ptr k25 0 0)) (hk:aD false 1 A (.ptr k25 0 0)=some (.int .i64 0)) :
  run (ac GS (fs3 M6)) 50 (.code JE :: K) [a0,a1,a2,a3,a4,a5,a6,a7,a8,a9,.ptr 0 0 0,.ptr 1 0 0,.bool false,.bool true,.ptr d 0 0,.ptr k15 0 0,(.int .i64 0),.ptr k17 0 0,(.int .i64 0),.ptr k19 0 0,.ptr k20 0 0,av,.ptr k22 0 0,.int .i64 0,bv,.ptr k25 0 0,.int .i64 0,.undef,.undef,.bool false,.bool false,.bool false,.bool false,.undef,.undef,.undef,.undef] A=run (ac GS (fs3 M6)) 50 K [a0,a1,a2,a3,a4,a5,a6,a7,a8,a9,.ptr 0 0 0,.ptr 1 0 0,.bool false,.bool true,.ptr d 0 0,.ptr k15 0 0,(.int .i64 0),.ptr k17 0 0,(.int .i64 0),.ptr k19 0 0,.ptr k20 0 0,av,.ptr k22 0 0,.int .i64 0,bv,.ptr k25 0 0,.int .i64 0,.undef,.undef,.bool false,.bool false,.bool false,.bool false,.bool false,.undef,.undef,.undef] A:=by
 simp [JE,hf,hl,hg,hk,aj,-aD,-aw]
theorem g17 {vs us:List Vis} (ha:SlA 4 (vs.map ip) av) (hb:SlA 4 (us.map ip) bv) (hl:vs.length<=20/\us.length<=20) (hn:∀v∈vs,∀u∈us,¬ (v.tool=u.tool/\v.start<u.fin/\u.start<v.fin)) :
  run (ac GS (fs3 M6)) 50 (.code JD :: K) [a0,a1,a2,a3,a4,a5,a6,a7,a8,a9,.ptr 0 0 0,.ptr 1 0 0,.bool false,.bool true,.ptr d 0 0,.ptr k15 0 0,(.int .i64 0),.ptr k17 0 0,(.int .i64 0),.ptr k19 0 0,.ptr k20 0 0,av,.ptr k22 0 0,.int .i64 0,bv,.ptr k25 0 0,.int .i64 0,.undef,.undef,.bool false,.bool false,.bool false,.bool false,.bool false,.undef,.undef,.undef] A=run (ac GS (fs3 M6)) 50 K [.undef,.undef,.undef,.undef,.undef,.undef,.undef,.undef,.undef,.undef,.undef,.undef,.undef,.bool true,.undef,.undef,.undef,.undef,.undef,.undef,.undef,.undef,.undef,.undef,.undef,.undef,.undef,.undef,.undef,.undef,.undef,.undef,.undef,.undef,.undef,.undef,.undef] A:=by
 have lp:=GH (E:=ac GS (fs3 M6)) (A:=A) (.bool true) ha hb hl hn
 generalize (vs.length:Int)=N at *
 simp [JD,LC lp]
theorem g18:run (ac GS (fs3 M6)) 50 (.code JC :: K) [.undef,.undef,.undef,.undef,.undef,.undef,.undef,.undef,.undef,.undef,.undef,.undef,.undef,.bool true,.undef,.undef,.undef,.undef,.undef,.undef,.undef,.undef,.undef,.undef,.undef,.undef,.undef,.undef,.undef,.undef,.undef,.undef,.undef,.undef,.undef,.undef,.undef] A=run (ac GS (fs3 M6)) 50 K [.undef,.undef,.undef,.undef,.undef,.undef,.undef,.undef,.undef,.undef,.undef,.undef,.bool true,.bool true,.undef,.undef,.undef,.undef,.undef,.undef,.undef,.undef,.undef,.undef,.undef,.undef,.undef,.undef,.undef,.undef,.undef,.undef,.undef,.undef,.undef,.undef,.undef] A:=by
 simp [JC]
theorem g19 {σ:List AV}:run (ac GS (fs3 M6)) 50 (.code JB :: K) σ A=some (.ret σ A):=by
 simp [JB]
end
end Sh
namespace Sh
open Go
theorem Om (A:aa) (q:fO):frz A 4 (cB q)=cB q:=rfl
theorem oJ {A:aa} {p:Pl} {o wv:AV} (ho:bY A o 6 (p.stages.map aI)) (hw:SlA 3 (p.wins.map bi) wv):frz A 4 (ax p o wv)=ax p (slA 6 (p.stages.map aI)) wv:=by
 have f1:frz A 3 o=slA 6 (p.stages.map aI):=ho.frz 2 fun x hx=>by
  obtain ⟨y,_,rfl⟩:=List.mem_map.1 hx
  rfl
 have f2:frz A 3 wv=wv:=hw.frz 3
 show AV.agg (List.map (frz A 3) [.int .i64 p.e,.int .i64 p.lo,.int .i64 p.hi,o,wv])=_
 simp only [List.map_cons,List.map_nil,f1,f2]
 rfl
theorem yy {A:aa} {d m:AV} {s:Scn} (hd:SlA 1 (s.durs.map (.int .i64)) d) (hm:SlA 1 (s.moves.map (.int .i64)) m):frz A 4 (bM d m s)=bM d m s:=by
 show AV.agg (List.map (frz A 3) [d,m,.int .i64 s.detour,.int .i64 s.tool,.int .i64 s.at_])=_
 simp only [List.map_cons,List.map_nil,hd.frz 3,hm.frz 3]
 rfl
theorem ldA (cs:List AV) (n:Nat):ba (.agg cs) n 0 true n=some (.agg cs):=by
 show (if 0=0/\n=n then some (AV.agg cs) else _)=_
 rw [if_pos ⟨rfl,rfl⟩]
theorem ldT {A:aa} {id n:Nat} {cs:List AV} (h:A[id]?=some (.row n false [.agg cs])) (_hn:cs.length=n) (h1:1<n):aD true n A (.ptr id 0 0)=some (.agg cs):=by
 have:¬ n=1:=by omega
 simp [aD,h]
theorem stT {B:aa} {z:AV} {cs:List AV} {n:Nat} (hn:cs.length=n) (h0:0<n):aP n (B++[.row n false [z]]) (.ptr B.length 0 0) (.agg cs)=some (B++[.row n false [.agg cs]]):=by
 simp [aP,az,cellsOf,AV.solid,hn,h0]
theorem nP (B:aa) (e:Ent):(B++[e])[B.length]?=some e:=by simp
def yd:MC:=.seq sg1 (.seq sg2 (.seq sg3 (.seq sg4 (.seq sg5 (.seq sg6 (.seq sg7 (.seq sg8 (.seq sg9 (.seq JK (.seq JJ (.seq JI (.seq JH (.seq JG (.seq JF (.seq JE (.seq JD (.seq JC (JB))))))))))))))))))
theorem fin3 {M6:aN} {a0 a1 a2 a3 a4 a5 a6 a7 a8 a9:AV} (h:(match run (ac GS (fs3 M6)) 50 [.code yd] [a0,a1,a2,a3,a4,a5,a6,a7,a8,a9,.undef,.undef,.undef,.undef,.undef,.undef,.undef,.undef,.undef,.undef,.undef,.undef,.undef,.undef,.undef,.undef,.undef,.undef,.undef,.undef,.undef,.undef,.undef,.undef,.undef,.undef,.undef] [] with | some (.ret σ _)=>σ[12]? | _=>none)=some (.bool true)) :
  evP (ac GS (fs3 M6)) 50 mf3 10 [a0,a1,a2,a3,a4,a5,a6,a7,a8,a9]=some (.bool true):=by
 rw [aZ _ _ (by rw [yH]; rfl),yH]
 show (match run (ac GS (fs3 M6)) 50 [.code yd] [a0,a1,a2,a3,a4,a5,a6,a7,a8,a9,.undef,.undef,.undef,.undef,.undef,.undef,.undef,.undef,.undef,.undef,.undef,.undef,.undef,.undef,.undef,.undef,.undef,.undef,.undef,.undef,.undef,.undef,.undef,.undef,.undef,.undef,.undef] [] with
  | some (.normal σ A')=>(dh A' σ [.tmp 12]).map fun l=>frz A' 10 (nh l)
  | some (.ret σ A')=>(dh A' σ [.tmp 12]).map fun l=>frz A' 10 (nh l)
  | _=>none)=_
 generalize run (ac GS (fs3 M6)) 50 [.code yd] _ []=r at *
 match r,h with
 | some (.ret σ A'),h12=>
  replace h12:σ[12]?=some (.bool true):=h12
  simp [dh,h12]
section
variable {M6:aN} {v0 v2 v3 v5 v6 v7:AV} {bk nd more:List fO} {n m:fO} {wl y z:List (Int × Int)} {tl ti:Int}
theorem ev3 (h6:M6 []=some (.bool true)) (h0:SlA 4 (bk.map cB) v0) (k0:∀q∈bk,q.ok) (hn:n.ok) (h2:SlA 4 (nd.map cB) v2) (k2:∀q∈nd,q.ok) (l2:nd.length<=9223372036854775807)
  (h3:SlA 2 (wl.map cg) v3) (k3:∀p∈wl,inI p.1/\inI p.2) (l3:wl.length<=9223372036854775807) (hm:m.ok) (h5:SlA 4 (more.map cB) v5) (k5:∀q∈more,q.ok) (l5:more.length<=9223372036854775807)
  (hy:SlA 2 (y.map cg) v6) (ky:∀p∈y,inI p.1/\inI p.2) (ly:y.length<=9223372036854775807) (hz:SlA 2 (z.map cg) v7) (kz:∀p∈z,inI p.1/\inI p.2) (lz:z.length<=9223372036854775807) (htl:inI tl) (hti:inI ti) :
  evP (ac GS (fs3 M6)) 50 mf3 10 [v0,cB n,v2,v3,cB m,v5,v6,v7,.int .i64 tl,.int .i64 ti]=some (.bool true):=by
 refine fin3 ?_
 obtain ⟨B1,d,cells,c,q7,hO,hF,hL,hM⟩:=ev7 (fun _ _ _=>none) (A:=[.row 4 false [cB n],.row 4 false [cB m]]) h0 k0
 have r0:B1[0]?=some (.row 4 false [cB n]):=hO.fr.at rfl (by simp)
 have r1:B1[1]?=some (.row 4 false [cB m]):=hO.fr.at rfl (by simp)
 have lod:2<=d:=hO.lo
 have lod1:d<B1.length:=(List.getElem?_eq_some_iff.1 hO.cal.row).1
 obtain ⟨e,lo,hi,ns,ws,nv,wv,L,q9,hL3,hN,hW,hR,he,hh,hx⟩:=IL hn h2 k2 h3 k3 l2 l3
 have b4:=ldT r0 rfl (by omega)
 have q9':M9 [frz B1 4 (cB n),frz B1 4 v2,frz B1 4 v3]=some (rqA e lo hi nv wv):=by rw [Om,h2.frz,h3.frz]; exact q9
 unfold yd
 rcases ev8 (fun _ _ _=>none) hO.cal hF (fun u=>by have:=hL u; omega) hL3 hN hW hR with ⟨_,B2,q8,_⟩ | ⟨st,over,B2,o,wv',hs,q8,FB,ho,hoi,hw'⟩
 ··rw [aQ,g1 ⟨rfl,rfl⟩ ⟨rfl,rfl⟩,aQ,g2 h6,aQ,g3 q7,aQ,g4n b4 q9' q8 (stT rfl (by omega)),aQ,g5n]
   rfl
 obtain ⟨c1,R1,N1,L1⟩:=NY (ow:=1) hF hL hM (by omega) hR he hh hx (by omega) hs
 have q8':H8 (fun _ _ _=>none) [.ptr d 0 0,rqA e lo hi nv wv] B1=some (.tup [ax ⟨e,lo,hi,st,ws⟩ o wv',.int .i64 0],B2):=q8
 obtain ⟨p,hp⟩:∃p:Pl,p=⟨e,lo,hi,st,ws⟩:=⟨_,rfl⟩
 have ho:bY B2 o 6 (p.stages.map aI):=by rw [hp]; exact ho
 have hw':SlA 3 (p.wins.map bi) wv':=by rw [hp]; exact hw'
 rw [<-hp] at R1 q8'
 have F3:=Fr.app B2 [.row 5 false [ax p o wv']] []
 obtain ⟨B3,hB3⟩:∃B,B=B2++[Ent.row 5 false [ax p o wv']]:=⟨_,rfl⟩
 have t3:B3[B2.length]?=some (.row 5 false [ax p o wv']):=by rw [hB3]; exact nP _ _
 have s4:=stT (B:=B2) (z:=zPl) (cs:=[.int .i64 p.e,.int .i64 p.lo,.int .i64 p.hi,o,wv']) (n:=5) rfl (by omega)
 have s4:aP 5 (B2++[.row 5 false [zPl]]) (.ptr B2.length 0 0) (ax p o wv')=some (B2++[.row 5 false [ax p o wv']]):=s4
 rw [<-hB3] at F3
 have FB3:Fr B1 B3 []:=FB.trans F3 (fun _ h=>h) (fun _ _ h=>h)
 have l12:=FB.1
 obtain ⟨B4,cells1,q10,C4,FB4,id4⟩:=Oq (fun _ _ _=>none) (hO.cal.fr FB3 (by simp) (by simp)) hF.1 (fun t=>by have:=hL t; omega) (ho.fr F3 (by simp)) hw' R1.safe.1 (by omega) R1.book
 have r1':B4[1]?=some (.row 4 false [cB m]):=FB4.at (FB3.at r1 (by simp)) (by simp; omega)
 have t4:B4[B2.length]?=some (.row 5 false [ax p o wv']):=FB4.at t3 (by simp; omega)
 have ho4:bY B4 o 6 (p.stages.map aI):=(ho.fr F3 (by simp)).fr FB4 fun k hk hm=>by
  have:=hoi k hk; simp at hm; omega
 have ld5:aD true 5 B3 (.ptr B2.length 0 0)=some (ax p o wv'):=ldT t3 rfl (by omega)
 have l13:=FB3.1
 have l34:=FB4.1
 obtain ⟨e',lo',hi',ns',ws',nv',wv1,L',q9b,hL3',hN',hW',hR',he',hh',hx'⟩:=IL (wl:=[]) (v2:=.nilS) hm h5 k5 (.inl ⟨rfl,rfl⟩) (by simp) l5 (by simp)
 have b7:=ldT r1' rfl (by omega)
 have q9b':M9 [frz B4 4 (cB m),frz B4 4 v5,.nilS]=some (rqA e' lo' hi' nv' wv1):=by rw [Om,h5.frz]; exact q9b
 rcases ev8 (fun _ _ _=>none) C4 R1.full (fun u=>by have:=L1 u; omega) hL3' hN' hW' hR' with ⟨_,B5,q8b,_⟩ | ⟨st',over',B5,o',wv2,hs',q8b,FB5,ho',hoi',hw2⟩
 ··rw [aQ,g1 ⟨rfl,rfl⟩ ⟨rfl,rfl⟩,aQ,g2 h6,aQ,g3 q7,aQ,g4 b4 q9' q8' s4,aQ,g5,aQ,<-hB3,g6 ld5 q10,aQ,g7n b7 q9b' q8b (stT rfl (by omega)),aQ,g8n]
   rfl
 obtain ⟨c2,R2,N2,L2⟩:=NY (ow:=2) R1.full L1 N1 (by omega) hR' he' hh' hx' (by omega) hs'
 have q8b':H8 (fun _ _ _=>none) [.ptr d 0 0,rqA e' lo' hi' nv' wv1] B4=some (.tup [ax ⟨e',lo',hi',st',ws'⟩ o' wv2,.int .i64 0],B5):=q8b
 obtain ⟨q,hq⟩:∃p:Pl,p=⟨e',lo',hi',st',ws'⟩:=⟨_,rfl⟩
 have ho':bY B5 o' 6 (q.stages.map aI):=by rw [hq]; exact ho'
 have hw2:SlA 3 (q.wins.map bi) wv2:=by rw [hq]; exact hw2
 rw [<-hq] at R2 q8b'
 have F6:=Fr.app B5 [.row 5 false [ax q o' wv2]] []
 obtain ⟨B6,hB6⟩:∃B,B=B5++[Ent.row 5 false [ax q o' wv2]]:=⟨_,rfl⟩
 have t6:B6[B5.length]?=some (.row 5 false [ax q o' wv2]):=by rw [hB6]; exact nP _ _
 have s7:aP 5 (B5++[.row 5 false [zPl]]) (.ptr B5.length 0 0) (ax q o' wv2)=some (B5++[.row 5 false [ax q o' wv2]]):=stT (B:=B5) (z:=zPl) (cs:=[.int .i64 q.e,.int .i64 q.lo,.int .i64 q.hi,o',wv2]) (n:=5) rfl (by omega)
 rw [<-hB6] at F6
 have FB6:Fr B4 B6 []:=FB5.trans F6 (fun _ h=>h) (fun _ _ h=>h)
 have l45:=FB5.1
 obtain ⟨B7,cells2,q10b,C7,FB7,id7⟩:=Oq (fun _ _ _=>none) (C4.fr FB6 (by simp) (by simp)) R1.full.1 (fun t=>by have:=L1 t; omega) (ho'.fr F6 (by simp)) hw2 R2.safe.1 (by omega) R2.book
 have ld8:aD true 5 B6 (.ptr B5.length 0 0)=some (ax q o' wv2):=ldT t6 rfl (by omega)
 have l32:B3.length=B2.length+1:=by rw [hB3]; simp
 have ne15:B2.length≠d:=by omega
 have t7:B7[B2.length]?=some (.row 5 false [ax p o wv']):=FB7.at (FB6.at t4 (by simp)) (by simpa using ne15)
 have u7:B7[B5.length]?=some (.row 5 false [ax q o' wv2]):=FB7.at t6 (by simp; omega)
 have ho7:bY B7 o 6 (p.stages.map aI):=(ho4.fr FB6 (by simp)).fr FB7 fun k hk hm=>by
  have:=hoi k hk; simp at hm; omega
 have ho7':bY B7 o' 6 (q.stages.map aI):=(ho'.fr F6 (by simp)).fr FB7 fun k hk hm=>by
  have:=hoi' k hk; simp at hm; omega
 have l67:=FB7.1
 have l65:B6.length=B5.length+1:=by rw [hB6]; simp
 obtain ⟨s,d1,m1,q11,hd1,hm1,hs1⟩:=zk R1.safe.1 (bu 6 (p.stages.map aI)) hw' hy ky ly R1.early htl hti
 obtain ⟨t,d2,m2,q11b,hd2,hm2,hs2⟩:=zk (tl:=0) (ti:=0) R2.safe.1 (bu 6 (q.stages.map aI)) hw2 hz kz lz R2.early (by unfold inI; omega) (by unfold inI; omega)
 have q11':M11 [frz B7 4 (ax p o wv'),frz B7 4 v6,frz B7 4 (.int .i64 tl),frz B7 4 (.int .i64 ti)]=some (bM d1 m1 s):=by
  rw [oJ ho7 hw',hy.frz]; exact q11
 have s10:aP 5 (B7++[.row 5 false [zSc]]) (.ptr B7.length 0 0) (bM d1 m1 s)=some (B7++[.row 5 false [bM d1 m1 s]]):=stT (B:=B7) (z:=zSc) (cs:=[d1,m1,.int .i64 s.detour,.int .i64 s.tool,.int .i64 s.at_]) (n:=5) rfl (by omega)
 have F8:=Fr.app B7 [.row 5 false [bM d1 m1 s]] []
 obtain ⟨B8,hB8⟩:∃B,B=B7++[Ent.row 5 false [bM d1 m1 s]]:=⟨_,rfl⟩
 rw [<-hB8] at F8
 have w8:B8[B7.length]?=some (.row 5 false [bM d1 m1 s]):=by rw [hB8]; exact nP _ _
 have l87:B8.length=B7.length+1:=by rw [hB8]; simp
 have ld10:aD true 5 B7 (.ptr B2.length 0 0)=some (ax p o wv'):=ldT t7 rfl (by omega)
 have ld11:aD true 5 B8 (.ptr B5.length 0 0)=some (ax q o' wv2):=ldT (F8.at u7 (by simp)) rfl (by omega)
 have q11b':M11 [frz B8 4 (ax q o' wv2),frz B8 4 v7,.int .i64 0,.int .i64 0]=some (bM d2 m2 t):=by
  rw [oJ (ho7'.fr F8 (by simp)) hw2,hz.frz]; exact q11b
 have s11:aP 5 (B8++[.row 5 false [zSc]]) (.ptr B8.length 0 0) (bM d2 m2 t)=some (B8++[.row 5 false [bM d2 m2 t]]):=stT (B:=B8) (z:=zSc) (cs:=[d2,m2,.int .i64 t.detour,.int .i64 t.tool,.int .i64 t.at_]) (n:=5) rfl (by omega)
 have F9:=Fr.app B8 [.row 5 false [bM d2 m2 t]] []
 obtain ⟨B9,hB9⟩:∃B,B=B8++[Ent.row 5 false [bM d2 m2 t]]:=⟨_,rfl⟩
 rw [<-hB9] at F9
 have x9:B9[B8.length]?=some (.row 5 false [bM d2 m2 t]):=by rw [hB9]; exact nP _ _
 have l98:B9.length=B8.length+1:=by rw [hB9]; simp
 have w9:=F9.at w8 (by simp)
 obtain ⟨k,hk⟩:∃k,k=B8.length:=⟨_,rfl⟩
 rw [<-hk] at x9 l98
 have s12:aP 1 B9 (.ptr k 0 3) (.int .i64 s.tool)=some (B9.set k (.row 5 false [bM d2 m2 ⟨t.durs,t.moves,t.detour,s.tool,t.at_⟩])):=by
  simp [aP,x9,bM,az,cellsOf,AV.solid]
 have F10:=Fr.set B9 k (.row 5 false [bM d2 m2 ⟨t.durs,t.moves,t.detour,s.tool,t.at_⟩])
 obtain ⟨B10,hB10⟩:∃B,B=B9.set k (Ent.row 5 false [bM d2 m2 ⟨t.durs,t.moves,t.detour,s.tool,t.at_⟩]):=⟨_,rfl⟩
 have x10:B10[k]?=some (.row 5 false [bM d2 m2 ⟨t.durs,t.moves,t.detour,s.tool,t.at_⟩]):=by rw [hB10]; exact List.getElem?_set_self (by omega)
 rw [<-hB10] at F10 s12
 have w10:=F10.at w9 (by simp; omega)
 have s13:aP 1 B10 (.ptr k 0 4) (.int .i64 s.at_)=some (B10.set k (.row 5 false [bM d2 m2 ⟨t.durs,t.moves,t.detour,s.tool,s.at_⟩])):=by
  simp [aP,x10,bM,az,cellsOf,AV.solid]
 have F11:=Fr.set B10 k (.row 5 false [bM d2 m2 ⟨t.durs,t.moves,t.detour,s.tool,s.at_⟩])
 obtain ⟨B11,hB11⟩:∃B,B=B10.set k (Ent.row 5 false [bM d2 m2 ⟨t.durs,t.moves,t.detour,s.tool,s.at_⟩]):=⟨_,rfl⟩
 have l10:B10.length=B9.length:=by rw [hB10]; simp
 have x11:B11[k]?=some (.row 5 false [bM d2 m2 ⟨t.durs,t.moves,t.detour,s.tool,s.at_⟩]):=by rw [hB11]; exact List.getElem?_set_self (by omega)
 rw [<-hB11] at F11 s13
 have F711:Fr B7 B11 [k]:=((F8.trans F9 (fun _ h=>h) (fun _ _ h=>h)).trans F10 (fun _ h=>by cases h) (fun _ _ h=>h)).trans F11 (fun _ h=>h) (fun _ _ h=>h)
 have t11:B11[B2.length]?=some (.row 5 false [ax p o wv']):=F711.at t7 (by simp; omega)
 have u11:B11[B5.length]?=some (.row 5 false [ax q o' wv2]):=F711.at u7 (by simp; omega)
 have w11:=F11.at w10 (by simp; omega)
 have ho11:bY B11 o 6 (p.stages.map aI):=ho7.fr F711 fun j hj hm=>by
  have:=ho7.low j hj; simp at hm; omega
 have ho11':bY B11 o' 6 (q.stages.map aI):=ho7'.fr F711 fun j hj hm=>by
  have:=ho7'.low j hj; simp at hm; omega
 have f12:aw 3 B9 (.ptr B7.length 0 0)=some (.ptr B7.length 0 3):=by simp [aw,w9]
 have l12':aD false 1 B9 (.ptr B7.length 0 3)=some (.int .i64 s.tool):=by simp [aD,w9,bM]
 have g12':aw 3 B9 (.ptr k 0 0)=some (.ptr k 0 3):=by simp [aw,x9]
 have f13:aw 4 B10 (.ptr B7.length 0 0)=some (.ptr B7.length 0 4):=by simp [aw,w10]
 have l13':aD false 1 B10 (.ptr B7.length 0 4)=some (.int .i64 s.at_):=by simp [aD,w10,bM]
 have g13':aw 4 B10 (.ptr k 0 0)=some (.ptr k 0 4):=by simp [aw,x10]
 have ht2:bX q ⟨t.durs,t.moves,t.detour,s.tool,s.at_⟩:=sZ hs1 hs2
 obtain ⟨vs,e1,hvs⟩:=rI hs1 R1.safe
 obtain ⟨us,e2,hus⟩:=rI ht2 R2.safe
 have m12:=(vP p s (bu 6 (p.stages.map aI)) hw' hd1 hm1).1 hs1
 have m12b:=(vP q ⟨t.durs,t.moves,t.detour,s.tool,s.at_⟩ (bu 6 (q.stages.map aI)) hw2 hd2 hm2).1 ht2
 rw [e1] at m12
 rw [e2] at m12b
 have m12':M12 [frz B11 4 (ax p o wv'),frz B11 4 (bM d1 m1 s)]=some (.tup [slA 4 (vs.map ip),.agg [.int .i64 0,.int .i64 0],.int .i64 0]):=by
  rw [oJ ho11 hw',yy hd1 hm1]; exact m12
 have F12:=Fr.app B11 [.row 2 false [.agg [.int .i64 0,.int .i64 0]]] []
 have s14:=stT (B:=B11) (z:=zLt) (cs:=[.int .i64 0,.int .i64 0]) (n:=2) rfl (by omega)
 obtain ⟨B12,hB12⟩:∃B,B=B11++[Ent.row 2 false [.agg [.int .i64 0,.int .i64 0]]]:=⟨_,rfl⟩
 rw [<-hB12] at F12
 have y12:B12[B11.length]?=some (.row 2 false [.agg [.int .i64 0,.int .i64 0]]):=by rw [hB12]; exact nP _ _
 have hd2':SlA 1 ((⟨t.durs,t.moves,t.detour,s.tool,s.at_⟩:Scn).durs.map (.int .i64)) d2:=hd2
 have m12b':M12 [frz B12 4 (ax q o' wv2),frz B12 4 (bM d2 m2 ⟨t.durs,t.moves,t.detour,s.tool,s.at_⟩)]=some (.tup [slA 4 (us.map ip),.agg [.int .i64 0,.int .i64 0],.int .i64 0]):=by
  rw [oJ (ho11'.fr F12 (by simp)) hw2,yy (s:=⟨t.durs,t.moves,t.detour,s.tool,s.at_⟩) hd2 hm2]; exact m12b
 have s15:=stT (B:=B12) (z:=zLt) (cs:=[.int .i64 0,.int .i64 0]) (n:=2) rfl (by omega)
 have F13:=Fr.app B12 [.row 2 false [.agg [.int .i64 0,.int .i64 0]]] []
 obtain ⟨B13,hB13⟩:∃B,B=B12++[Ent.row 2 false [.agg [.int .i64 0,.int .i64 0]]]:=⟨_,rfl⟩
 rw [<-hB13] at F13
 have y13:=F13.at y12 (by simp)
 have z13:B13[B12.length]?=some (.row 2 false [.agg [.int .i64 0,.int .i64 0]]):=by rw [hB13]; exact nP _ _
 have lp:aD true 5 B11 (.ptr B2.length 0 0)=some (ax p o wv'):=ldT t11 rfl (by omega)
 have lq:aD true 5 B11 (.ptr B7.length 0 0)=some (bM d1 m1 s):=ldT w11 rfl (by omega)
 have lr:aD true 5 B12 (.ptr B5.length 0 0)=some (ax q o' wv2):=ldT (F12.at u11 (by simp)) rfl (by omega)
 have ls:aD true 5 B12 (.ptr k 0 0)=some (bM d2 m2 ⟨t.durs,t.moves,t.detour,s.tool,s.at_⟩):=ldT (F12.at x11 (by simp)) rfl (by omega)
 have f16:aw 0 B13 (.ptr B11.length 0 0)=some (.ptr B11.length 0 0):=by simp [aw,y13]
 have l16:aD false 1 B13 (.ptr B11.length 0 0)=some (.int .i64 0):=by simp [aD,y13]
 have f16b:aw 0 B13 (.ptr B12.length 0 0)=some (.ptr B12.length 0 0):=by simp [aw,z13]
 have l16b:aD false 1 B13 (.ptr B12.length 0 0)=some (.int .i64 0):=by simp [aD,z13]
 have v8:=rH R1.safe
 have u8:=rH R2.safe
 have lv:vs.length<=20/\us.length<=20:=by
  have:=hvs.1; have:=hus.1; omega
 have hno:=Fi hF (by omega) R1 R2 hs1 ht2 hvs hus
 ·rw [aQ,g1 ⟨rfl,rfl⟩ ⟨rfl,rfl⟩,aQ,g2 h6,aQ,g3 q7,aQ,g4 b4 q9' q8' s4,aQ,g5,aQ,<-hB3,g6 ld5 q10,aQ,g7 b7 q9b' q8b' s7,aQ,g8,aQ,<-hB6,g9 ld8 q10b,aQ,g10 ld10 q11' s10,<-hB8,
   aQ,g11 ld11 q11b' s11,<-hB9,<-hk,aQ,g12 f12 l12' g12' s12,aQ,g13 f13 l13' g13' s13,aQ,g14 lp lq m12' s14,<-hB12,aQ,g15 lr ls m12b' s15,<-hB13,aQ,g16 f16 l16 f16b l16b,aQ,
   g17 (bu 4 (vs.map ip)) (bu 4 (us.map ip)) lv hno,aQ,g18,g19]
  rfl
end
end Sh
open Go
def yK:MC:=.seq (.seq (.region [⟨none,.mv (.var 2),none⟩,⟨some 7,.bin .lss (.tmp 0) (.cst (.int .i64 3)),none⟩]) (.cond (.var 7) .skip (.exit 0))) (.seq (.seq (.block 1 (.seq (.region [⟨none,.mv (.var 2),none⟩,⟨none,.buildSlice 1 [.tmp 0],none⟩,⟨none,.build [.int .i64 0,.nilS,.int .i64 0,.int .i64 0,.nilS,.int .i64 0,.int .i64 0] [(0,(1,.cst (.int .i64 1))),(1,(1,.tmp 1)),(2,(1,.cst (.int .i64 10))),(3,(1,.cst (.int .i64 20))),(5,(1,.cst (.int .i64 (-1))))],none⟩,⟨some 3,.alloc 7 (.agg [.int .i64 0,.nilS,.int .i64 0,.int .i64 0,.nilS,.int .i64 0,.int .i64 0]),none⟩,⟨none,.store 7 (.var 3) (.tmp 2),none⟩]) (.seq (.seq (.region [⟨none,.mv (.var 2),none⟩,⟨some 8,.bin .lss (.tmp 0) (.cst (.int .i64 2)),none⟩]) (.cond (.var 8) (.region [⟨none,.mv (.var 2),none⟩,⟨none,.bin .add (.tmp 0) (.cst (.int .i64 1)),none⟩,⟨none,.buildSlice 1 [.tmp 1],none⟩,⟨none,.fieldAddr 4 (.var 3),none⟩,⟨none,.store 1 (.tmp 3) (.tmp 2),none⟩]) .skip)) (.region [⟨none,.fieldAddr 2 (.var 1),none⟩,⟨none,.load false 1 (.tmp 0),none⟩,⟨none,.load true 7 (.var 3),none⟩,⟨none,.buildSlice 7 [.tmp 2],none⟩,⟨none,.appendN 7 88 (.tmp 1) (.tmp 3),none⟩,⟨none,.fieldAddr 2 (.var 1),none⟩,⟨none,.store 1 (.tmp 5) (.tmp 4),none⟩])))) (.kill [0,3,4,5,6,7,8])) (.region [⟨none,.mv (.var 2),none⟩,⟨none,.bin .add (.tmp 0) (.cst (.int .i64 1)),none⟩,⟨some 2,.mv (.tmp 1),none⟩]))
def K7:bL:=⟨0,9,.seq (.region [⟨some 0,.mv (.cst (.bool false)),none⟩]) (.seq (.region [⟨none,.build [.int .i64 0,.int .i64 0,.int .i64 0] [(0,(1,.cst (.int .i64 0))),(1,(1,.cst (.int .i64 2))),(2,(1,.cst (.int .i64 13)))],none⟩,⟨none,.buildSlice 3 [.tmp 0],none⟩,⟨none,.build [.int .i64 0,.int .i64 0,.nilS,.nilS] [(0,(1,.cst (.int .i64 2))),(1,(1,.cst (.int .i64 5))),(3,(1,.tmp 1))],none⟩,⟨some 1,.alloc 4 (.agg [.int .i64 0,.int .i64 0,.nilS,.nilS]),none⟩,⟨none,.store 4 (.var 1) (.tmp 2),none⟩]) (.seq (.seq (.region [⟨some 2,.mv (.cst (.int .i64 0)),none⟩]) (.seq (.block 0 (.loop [0,3,4,5,6,7,8] yK)) (.kill [0,2,3,4,5,6,7,8]))) (.seq (.region [⟨none,.load true 4 (.var 1),none⟩,⟨none,.call (.fn 26) [.tmp 0],none⟩,⟨some 4,.alloc 2 (.agg [.int .i64 0,.nilS]),none⟩,⟨none,.store 2 (.var 4) (.tmp 1),none⟩]) (.seq (.region [⟨none,.build [.int .i64 0,.int .i64 0] [(0,(1,.cst (.int .i64 1))),(1,(1,.cst (.int .i64 5)))],none⟩,⟨none,.build [.int .i64 0,.int .i64 0] [(0,(1,.cst (.int .i64 2))),(1,(1,.cst (.int .i64 29)))],none⟩,⟨none,.build [.int .i64 0,.int .i64 0,.int .i64 0,.int .i64 0,.int .i64 0,.int .i64 0] [(0,(1,.cst (.int .i64 10))),(1,(1,.cst (.int .i64 20))),(2,(2,.tmp 0)),(4,(2,.tmp 1))],none⟩,⟨some 5,.alloc 6 (.agg [.int .i64 0,.int .i64 0,.int .i64 0,.int .i64 0,.int .i64 0,.int .i64 0]),none⟩,⟨none,.store 6 (.var 5) (.tmp 2),none⟩]) (.seq (.region [⟨none,.load true 6 (.var 5),none⟩,⟨none,.buildSlice 6 [.tmp 0],none⟩,⟨none,.build [.int .i64 0,.int .i64 0,.int .i64 0,.nilS,.nilS] [(1,(1,.cst (.int .i64 1))),(2,(1,.cst (.int .i64 5))),(3,(1,.tmp 1))],none⟩,⟨none,.call (.fn 27) [.tmp 2],none⟩,⟨none,.mv (.tmp 3),none⟩,⟨none,.extract (.tmp 4) 0,none⟩,⟨none,.extract (.tmp 4) 1,none⟩,⟨none,.alloc 5 (.agg [.nilS,.nilS,.int .i64 0,.int .i64 0,.int .i64 0]),none⟩,⟨none,.store 5 (.tmp 7) (.tmp 5),none⟩,⟨some 6,.mv (.tmp 6),none⟩]) (.seq (.region [⟨none,.fieldAddr 0 (.var 4),none⟩,⟨none,.load false 1 (.tmp 0),none⟩,⟨none,.bin .eql (.tmp 1) (.cst (.int .i64 3)),none⟩,⟨none,.mv (.tmp 2),none⟩,⟨none,.fieldAddr 1 (.var 4),some (.tmp 3,true)⟩,⟨none,.load false 1 (.tmp 4),some (.tmp 3,true)⟩,⟨none,.buildF 1 [.cst (.int .i64 0),.cst (.int .i64 1),.cst (.int .i64 2)],some (.tmp 3,true)⟩,⟨none,.call (.fn 28) [.tmp 5,.tmp 6],some (.tmp 3,true)⟩,⟨none,.pick (.tmp 3) (.tmp 7) (.cst (.bool false)),none⟩,⟨none,.mv (.tmp 8),none⟩,⟨none,.mv (.var 6),some (.tmp 9,true)⟩,⟨none,.pick (.tmp 9) (.tmp 10) (.cst (.bool false)),none⟩,⟨some 0,.mv (.tmp 11),none⟩]) .ret)))))),[.tmp 0]⟩
theorem Ij:aA Tryz.prog Tryz.f6 0 [0,1,2,3,4,5,7,12,19] [] false ([[0,3,4,5,6,7,8]],[[0,3,4,5,6,7,8],[0,2,3,4,5,6,7,8]])=some K7:=by kernel_rfl
theorem at6z:Tryz.prog.funcs[6]?=some Tryz.f6:=by kernel_rfl
namespace Sh
def Em:aN:=fun args=>evP (ac GS []) 0 Gx 1 args
theorem oD:ak Tryz.prog GS 112 Em:=ak.of_ev (E:=ac GS []) (ai an) rfl NJ DS 1 fun _ _ h=>⟨0,h⟩
def OD:aN:=fun args=>evP (ac GS []) 0 Gy 1 args
theorem AD:ak Tryz.prog GS 111 OD:=ak.of_ev (E:=ac GS []) (ai an) rfl NK DT 1 fun _ _ h=>⟨0,h⟩
def OA:aN:=fun args=>evP (ac GS [(112,aK 4 Em)]) 50 Gp 1 args
theorem z7:ak Tryz.prog GS 155 OA:=ak.of_ev (E:=ac GS [(112,aK 4 Em)]) (ai (ag (au.of_pure oD 4) an)) rfl Nc Dn 1 fun _ _ h=>⟨50,h⟩
def OC:aN:=fun args=>evP (ac GS [(112,aK 4 Em)]) 50 Gt 1 args
theorem Az:ak Tryz.prog GS 116 OC:=ak.of_ev (E:=ac GS [(112,aK 4 Em)]) (ai (ag (au.of_pure oD 4) an)) rfl NF DO 1 fun _ _ h=>⟨50,h⟩
def OB:aN:=fun args=>evP (ac GS []) 50 Gs 1 args
theorem Aw:ak Tryz.prog GS 117 OB:=ak.of_ev (E:=ac GS []) (ai an) rfl NE DN 1 fun _ _ h=>⟨50,h⟩
def bg (i:Int) (next:AV):AV:=.agg [.int .i64 1,.fs 1 [.int .i64 i],.int .i64 10,.int .i64 20,next,.int .i64 (-1),.int .i64 0]
def bE:AV:=.agg [.int .i64 2,.int .i64 5,.fs 7 [bg 0 (.fs 1 [.int .i64 1]),bg 1 (.fs 1 [.int .i64 2]),bg 2 .nilS],.fs 3 [.agg [.int .i64 0,.int .i64 2,.int .i64 13]]]
def HL:List (FuncId × aB):=[(112,aK 4 Em),(155,aK 4 OA)]
def NP:aN:=fun args=>evP (ac GS HL) 50 Gu 1 args
theorem AA:ak Tryz.prog GS 115 NP:=ak.of_ev (E:=ac GS HL) (ai (ag (au.of_pure oD 4) (ag (au.of_pure z7 4) an))) rfl NG DP 1 fun _ _ h=>⟨50,h⟩
def NU:aB:=fun _=>bN (ac GS [(115,aK 4 NP)]) 0 Gv
theorem AB:au Tryz.prog GS 114 NU:=(aG (E:=ac GS [(115,aK 4 NP)]) (ai (ag (au.of_pure AA 4) an)) rfl NH DQ aU.nil).y
def NT:aB:=fun _=>bN (ac GS [(114,NU)]) 50 Gq
theorem z8:au Tryz.prog GS 154 NT:=(aG (E:=ac GS [(114,NU)]) (ai (ag AB an)) rfl Nf Do aU.nil).y
def OF:aB:=fun _=>bN (ac GS [(154,NT)]) 50 Gw
theorem AC:au Tryz.prog GS 113 OF:=(aG (E:=ac GS [(154,NT)]) (ai (ag z8 an)) rfl NI DR aU.nil).y
def Of:List (FuncId × aB):=[(111,aK 4 OD),(112,aK 4 Em),(113,OF),(116,aK 4 OC),(117,aK 4 OB)]
def M71:aN:=fun args=>evP (ac GS Of) 50 N0 1 args
theorem yr:ak Tryz.prog GS 71 M71:=ak.of_ev (E:=ac GS Of) (ai (ag (au.of_pure AD 4) (ag (au.of_pure oD 4) (ag AC (ag (au.of_pure Az 4) (ag (au.of_pure Aw 4) an)))))) rfl at71 Ii 1 fun _ _ h=>⟨50,h⟩
theorem NM:M71 [bE]=some (.bool true):=by kernel_rfl
end Sh
def JR:bL:=⟨1,3,.seq (.region [⟨some 1,.mv (.cst .nilS),none⟩]) (.seq (.seq (.region [⟨none,.mv (.var 0),none⟩,⟨some 2,.eqNil 1 false (.tmp 0),none⟩]) (.cond (.var 2) (.seq (.region [⟨some 1,.mv (.cst .nilS),none⟩]) .ret) .skip)) (.seq (.region [⟨none,.buildSlice 1 [],none⟩,⟨none,.mv (.var 0),none⟩,⟨none,.appendN 1 8 (.tmp 0) (.tmp 1),none⟩,⟨some 1,.mv (.tmp 2),none⟩]) .ret)),[.tmp 1]⟩
theorem yV:aA Tryz.prog Tryz.f63 1 [0,2,4] [] true ([],[])=some JR:=by kernel_rfl
theorem Ot:Tryz.prog.funcs[63]?=some Tryz.f63:=by kernel_rfl
namespace Sh
def M63:aN:=fun args=>evF (ac GS []) 0 JR 4 args
theorem zA:bS Tryz.prog GS 63 M63:=bS.of_ev (E:=ac GS []) (ai an) rfl Ot yV 4 (fun _ _ h=>⟨0,h⟩)
def NS:aB:=fun _=>bN (ac GS []) 0 Gl
theorem zO:au Tryz.prog GS 173 NS:=(aG (E:=ac GS []) (ai an) rfl MV Db aU.nil).y
def NV:aB:=fun _=>bN (ac GS [(173,NS)]) 50 Gz
theorem AE:au Tryz.prog GS 101 NV:=(aG (E:=ac GS [(173,NS)]) (ai (ag zO an)) rfl NL DU aU.nil).y
def H61:aB:=fun _=>bN (ac GS [(101,NV)]) 50 N3
theorem E6:au Tryz.prog GS 61 H61:=(aG (E:=ac GS [(101,NV)]) (ai (ag AE an)) rfl at61 Ik aU.nil).y
def Hr:List (FuncId × aB):=[(61,H61),(71,aK 4 M71)]
def Kt:aN:=fun args=>evP (ac GS Hr) 50 Gn 1 args
theorem z6:ak Tryz.prog GS 156 Kt:=ak.of_ev (E:=ac GS Hr) (ai (ag E6 (ag (au.of_pure yr 4) an))) rfl Nb Dm 1 fun _ _ h=>⟨50,h⟩
theorem zi:Kt [bE,.fs 1 [.int .i64 0,.int .i64 2]]=some (.bool true):=by kernel_rfl
end Sh
namespace Sh
def Oy:aN:=fun args=>evP (ac GS []) 50 Gh 1 args
theorem zI:ak Tryz.prog GS 181 Oy:=ak.of_ev (E:=ac GS []) (ai an) rfl MN C1 1 fun _ _ h=>⟨50,h⟩
def Ox:aN:=fun args=>evP (ac GS [(138,aK 4 zj)]) 50 Gg 1 args
theorem zH:ak Tryz.prog GS 182 Ox:=ak.of_ev (E:=ac GS [(138,aK 4 zj)]) (ai (ag (au.of_pure qz 4) an)) rfl MM CZ 1 fun _ _ h=>⟨50,h⟩
def Hg:List (FuncId × aB):=[(138,aK 4 zj),(181,aK 4 Oy),(182,aK 4 Ox)]
def Ks:aN:=fun args=>evP (ac GS Hg) 50 Gk 1 args
theorem tQ:ak Tryz.prog GS 174 Ks:=ak.of_ev (E:=ac GS Hg) (ai (ag (au.of_pure qz 4) (ag (au.of_pure zI 4) (ag (au.of_pure zH 4) an)))) rfl MU Da 1 fun _ _ h=>⟨50,h⟩
def OE:aB:=fun _=>bN (ac GS []) 0 Gj
theorem zM:au Tryz.prog GS 176 OE:=(aG (E:=ac GS []) (ai an) rfl MS C8 aU.nil).y
def zl:aB:=fun hd=>bN (cG GS [] hd) 50 xe
theorem zG:au Tryz.prog GS 183 zl:=ct an ML CY
end Sh
namespace Sh
open Go Go.RowKit Go.Lib
theorem zt (w:World):Calls Tryz.prog 63 #[.slice none 0 0] w fun e w'=>e=.returned (.slice none 0 0)/\w'=w:=by
 have q:∀(w:World) (a:Option Addr) (n c n' c':Nat),(binOp .eql 40 (.slice a n c) (.slice none n' c')).run Tryz.prog w=.ok (.bool a.isNone) w:=fun w a n c n' c'=>Lib.run_eql_slice_nil w _ _ a n c n' c' Tryz.underlying40
 go_enter Tryz.func63,Tryz.ntmps63
 go_wp2
 go_ret
 exact ⟨rfl,rfl⟩
theorem zr (a:Addr) (w:World):Calls Tryz.prog 63 #[.slice (some a) 0 0] w fun e w'=>∃p o,e=.returned (.slice p 0 0)/\w'=w.alloc o:=by
 have q:∀(w:World) (a:Option Addr) (n c n' c':Nat),(binOp .eql 40 (.slice a n c) (.slice none n' c')).run Tryz.prog w=.ok (.bool a.isNone) w:=fun w a n c n' c'=>Lib.run_eql_slice_nil w _ _ a n c n' c' Tryz.underlying40
 go_enter Tryz.func63,Tryz.ntmps63
 go_wp2
 go_ret
 exact ⟨_,_,rfl,rfl⟩
theorem Kw:(Tryz.prog.info? 3).map (·.zero)=some (some (.int .i64 0)):=by kernel_rfl
theorem zu (base:Option Addr) (n:Nat) (w:World) (h0:0<n) (hn:n<=1000):Calls Tryz.prog 158 #[.slice base 0 0,.int .i64 n] w fun e w'=>
   e=.returned (.slice (some ⟨w.heap.size,0,none⟩) 0 (grownCap w n 0 3))/\w'=w.drew.alloc (.cells (Builtin.zeroCells #[.int .i64 0] n++Builtin.zeroCells #[.int .i64 0] (grownCap w n 0 3-n)) 3):=by
 have u3:=Go.run_underlying Tryz.underlying3
 have u40:=Go.run_underlying Tryz.underlying40
 have mixed:Tryz.prog.follows .mixedOrders=true:=by kernel_rfl
 obtain ⟨i0,hi0⟩:∃i,Tryz.prog.info? 3=some i:=⟨_,rfl⟩
 have hz0:i0.zero=some (.int .i64 0):=by have:=Kw; rw [hi0] at this; simpa using this
 have hs0:i0.size=1:=by
  have:(Tryz.prog.info? 3).map (·.size)=some 1:=by kernel_rfl
  rw [hi0] at this; simpa using this
 have hb0:i0.bytes=8:=by
  have:(Tryz.prog.info? 3).map (·.bytes)=some 8:=by kernel_rfl
  rw [hi0] at this; simpa using this
 have h1:¬ ((n:Int)<0):=by omega
 have h2:wrap64 (((0:Nat):Int)-((0:Nat):Int))=0:=by unfold wrap64; omega
 have h3:wrap64 ((n:Int)-0)=(n:Int):=by unfold wrap64; omega
 have h4:(n:Int) > 0:=by omega
 have hold:(Builtin.firstCells i0.size 0 (.slice base 0 0)).run Tryz.prog w.drew=.ok #[] w.drew:=by
  cases base with
  | none=>exact run_firstCells_none w.drew i0.size 0 0 0
  | some a=>exact run_firstCells_some w.drew i0.size 0 a 0 0 [] (by simp) (fun j v hj=>by simp at hj)
 have hrz:∀ty,(Builtin.append_ #[40,3] ty #[.slice base 0 0,.int .i64 (n:Int)]).run Tryz.prog w =
   .ok (.slice (some ⟨w.heap.size,0,none⟩) n (grownCap w n 0 3)) (w.drew.alloc (.cells (Builtin.zeroCells #[.int .i64 0] n++Builtin.zeroCells #[.int .i64 0] (grownCap w n 0 3-n)) 3)):=fun ty=>by
  have h:=Lib.run_append_grow_zeros w 40 3 ty 3 i0 (.int .i64 0) .i64 .i64 Tryz.underlying40 Tryz.underlying3 hi0 hz0 base 0 0 [] hold n (by omega) (by rw [hs0]; omega) (by omega) (by omega)
   (by rw [hb0]; omega) (by rw [Nat.zero_add]; exact growslice_fits (by omega) (by rw [hb0]; omega))
  rw [Nat.zero_add,show (Value.int .i64 0).cells=#[.int .i64 0] from rfl] at h
  simpa using h
 have hGn:n<=grownCap w n 0 3:=grownCap_ge w _ _ _
 obtain ⟨G,hG⟩:∃G,G=grownCap w n 0 3:=⟨_,rfl⟩
 have hG63:G<=9223372036854775807:=by
  have:=grownCap_le_maxLen w n 0 3 (by unfold maxLen; omega)
  rw [<-hG] at this
  unfold maxLen at this
  omega
 rw [<-hG] at hrz hGn ⊢
 clear hold hG
 go_enter Tryz.func158,Tryz.ntmps158
 cases base with
 | none=>
  go_wp2_with (at_builtin; refine Lib.wpList_append_run _ rfl _ _ _ _ rfl _ _ rfl rfl _ _ (hrz _) ?_)
  all_goals (go_ret; exact ⟨rfl,rfl⟩)
 | some a=>
  obtain ⟨ab,ao,asp⟩:=a
  go_wp2_with (at_builtin; refine Lib.wpList_append_run _ rfl _ _ _ _ rfl _ _ rfl rfl _ _ (hrz _) ?_)
  all_goals (go_ret; exact ⟨rfl,rfl⟩)
end Sh
def Bp:bL:=⟨2,11,.seq (.region [⟨some 2,.box (.var 0),none⟩,⟨some 3,.box (.var 1),none⟩,⟨some 4,.alloc 2 (.agg [.int .i64 0,.nilS]),none⟩,⟨some 5,.mv (.cst (.bool false)),none⟩]) (.seq (.region [⟨none,.load true 4 (.var 2),none⟩,⟨none,.fieldAddr 0 (.var 3),none⟩,⟨none,.load false 1 (.tmp 1),none⟩,⟨none,.fieldAddr 1 (.var 3),none⟩,⟨none,.load false 1 (.tmp 3),none⟩,⟨none,.call (.fn 118) [.tmp 0,.tmp 2,.tmp 4],none⟩,⟨none,.mv (.tmp 5),none⟩,⟨none,.extract (.tmp 6) 0,none⟩,⟨none,.extract (.tmp 6) 1,none⟩,⟨some 6,.mv (.tmp 7),none⟩,⟨some 7,.mv (.tmp 8),none⟩]) (.seq (.seq (.region [⟨none,.mv (.var 7),none⟩,⟨some 9,.un .not (.tmp 0),none⟩]) (.cond (.var 9) (.seq (.region [⟨none,.fieldAddr 0 (.var 3),none⟩,⟨none,.load false 1 (.tmp 0),none⟩,⟨none,.fieldAddr 1 (.var 3),none⟩,⟨none,.load false 1 (.tmp 2),none⟩,⟨none,.buildSlice 1 [.tmp 1,.tmp 3],none⟩,⟨none,.build [.int .i64 0,.nilS] [(0,(1,.cst (.int .i64 4))),(1,(1,.tmp 4))],none⟩,⟨none,.store 2 (.var 4) (.tmp 5),none⟩,⟨some 5,.mv (.cst (.bool true)),none⟩]) .ret) .skip)) (.seq (.seq (.region [⟨none,.load true 4 (.var 2),none⟩,⟨none,.fieldAddr 0 (.var 3),none⟩,⟨none,.load false 1 (.tmp 1),none⟩,⟨none,.fieldAddr 1 (.var 3),none⟩,⟨none,.load false 1 (.tmp 3),none⟩,⟨none,.call (.fn 119) [.tmp 0,.tmp 2,.tmp 4],none⟩,⟨none,.mv (.tmp 5),none⟩,⟨none,.extract (.tmp 6) 0,none⟩,⟨none,.extract (.tmp 6) 1,none⟩,⟨some 8,.mv (.tmp 7),none⟩,⟨none,.mv (.tmp 8),none⟩]) (.seq (.region [⟨none,.fieldAddr 2 (.var 3),none⟩,⟨none,.load false 1 (.tmp 0),none⟩,⟨none,.mv (.var 8),none⟩,⟨some 10,.bin .lss (.tmp 1) (.tmp 2),none⟩]) (.cond (.var 10) (.seq (.region [⟨none,.fieldAddr 0 (.var 3),none⟩,⟨none,.load false 1 (.tmp 0),none⟩,⟨none,.buildSlice 1 [.tmp 1],none⟩,⟨none,.mv (.var 6),none⟩,⟨none,.fieldAddr 1 (.var 3),none⟩,⟨none,.load false 1 (.tmp 4),none⟩,⟨none,.buildSlice 1 [.tmp 5],none⟩,⟨none,.buildSlice 1 [.tmp 2,.tmp 3,.tmp 6],none⟩,⟨none,.call (.fn 120) [.tmp 7],none⟩,⟨none,.build [.int .i64 0,.nilS] [(0,(1,.cst (.int .i64 3))),(1,(1,.tmp 8))],none⟩,⟨none,.store 2 (.var 4) (.tmp 9),none⟩,⟨some 5,.mv (.cst (.bool true)),none⟩]) .ret) .skip))) (.seq (.region [⟨none,.load true 2 (.var 4),none⟩,⟨none,.store 2 (.var 4) (.tmp 0),none⟩,⟨some 5,.mv (.cst (.bool false)),none⟩]) .ret)))),[.cell 4 true 2,.tmp 5]⟩
theorem CV:aA Tryz.prog Tryz.f72 2 [0,1,2,3,4,5,6,7,8,20,39] [] false ([],[])=some Bp:=by kernel_rfl
theorem MI:Tryz.prog.funcs[72]?=some Tryz.f72:=by kernel_rfl
def xx:MC:=.seq (.region [⟨some 9,.bin .lss (.var 8) (.var 7),none⟩]) (.seq (.cond (.var 9) .skip (.exit 0)) (.seq (.seq (.block 1 (.seq (.region [⟨none,.indexSl 1 (.var 6) (.var 8),none⟩,⟨none,.load false 1 (.tmp 0),none⟩,⟨some 3,.mv (.tmp 1),none⟩]) (.seq (.region [⟨none,.mv (.var 2),none⟩,⟨none,.mv (.var 3),none⟩,⟨none,.lenSl (.tmp 1),none⟩,⟨none,.bin .add (.tmp 0) (.tmp 2),none⟩,⟨some 2,.mv (.tmp 3),none⟩]) (.seq (.region [⟨none,.mv (.var 2),none⟩,⟨some 10,.bin .lss (.tmp 0) (.cst (.int .i64 0)),none⟩]) (.cond (.var 10) (.region [⟨none,.mkI 9 (.cst (.str [108,101,110,32,111,117,116,32,111,102,32,114,97,110,103,101])),none⟩,⟨none,.un .neg (.cst .undef),none⟩]) .skip))))) (.kill [1,3,4,5,9,10,11,12,13,14])) (.region [⟨none,.bin .add (.var 8) (.cst (.int .i64 1)),none⟩,⟨some 8,.mv (.tmp 0),none⟩])))
def xw:MC:=.seq (.region [⟨some 14,.bin .lss (.var 13) (.var 12),none⟩]) (.seq (.cond (.var 14) .skip (.exit 2)) (.seq (.seq (.block 3 (.seq (.region [⟨none,.indexSl 1 (.var 11) (.var 13),none⟩,⟨none,.load false 1 (.tmp 0),none⟩,⟨some 5,.mv (.tmp 1),none⟩]) (.region [⟨none,.mv (.var 4),none⟩,⟨none,.mv (.var 5),none⟩,⟨none,.appendN 1 8 (.tmp 0) (.tmp 1),none⟩,⟨some 4,.mv (.tmp 2),none⟩]))) (.kill [0,1,2,3,5,6,7,8,9,10,14])) (.region [⟨none,.bin .add (.var 13) (.cst (.int .i64 1)),none⟩,⟨some 13,.mv (.tmp 0),none⟩])))
def yJ:bL:=⟨1,15,.seq (.region [⟨some 1,.mv (.cst .nilS),none⟩]) (.seq (.region [⟨some 2,.mv (.cst (.int .i64 0)),none⟩]) (.seq (.seq (.region [⟨some 6,.mv (.var 0),none⟩,⟨some 7,.lenSl (.var 6),none⟩,⟨some 8,.mv (.cst (.int .i64 0)),none⟩]) (.seq (.block 0 (.loop [1,3,4,5,9,10,11,12,13,14] xx)) (.kill [1,3,4,5,6,7,8,9,10,11,12,13,14]))) (.seq (.region [⟨none,.mv (.var 2),none⟩,⟨none,.call (.fn 158) [.cst .nilS,.tmp 0],none⟩,⟨some 4,.mv (.tmp 1),none⟩]) (.seq (.seq (.region [⟨some 11,.mv (.var 0),none⟩,⟨some 12,.lenSl (.var 11),none⟩,⟨some 13,.mv (.cst (.int .i64 0)),none⟩]) (.seq (.block 2 (.loop [0,1,2,3,5,6,7,8,9,10,14] xw)) (.kill [0,1,2,3,5,6,7,8,9,10,11,12,13,14]))) (.seq (.region [⟨none,.mv (.var 4),none⟩,⟨some 1,.mv (.tmp 0),none⟩]) .ret))))),[.tmp 1]⟩
theorem x8:aA Tryz.prog Tryz.f120 1 [0,2,3,5,6,8,9,10,11,12,20,25,26,27,28] [] false ([[1,3,4,5,9,10,11,12,13,14],[0,1,2,3,5,6,7,8,9,10,14]],[[1,3,4,5,9,10,11,12,13,14],[1,3,4,5,6,7,8,9,10,11,12,13,14],[0,1,2,3,5,6,7,8,9,10,14],[0,1,2,3,5,6,7,8,9,10,11,12,13,14]])=some yJ:=by kernel_rfl
theorem IH:Tryz.prog.funcs[120]?=some Tryz.f120:=by kernel_rfl
def rT:MC:=.seq (.region [⟨some 14,.bin .lss (.var 13) (.var 12),none⟩]) (.seq (.cond (.var 14) .skip (.exit 2)) (.seq (.seq (.block 3 (.seq (.region [⟨none,.mv (.var 13),none⟩,⟨none,.indexSl 1 (.var 11) (.var 13),none⟩,⟨none,.load false 1 (.tmp 1),none⟩,⟨some 9,.mv (.tmp 0),none⟩,⟨some 10,.mv (.tmp 2),none⟩]) (.seq (.region [⟨none,.mv (.var 10),none⟩,⟨none,.eqNil 0 true (.tmp 0),none⟩,⟨none,.mv (.tmp 1),none⟩,⟨none,.mv (.var 5),some (.tmp 2,true)⟩,⟨none,.mv (.var 9),some (.tmp 2,true)⟩,⟨none,.indexSl 1 (.tmp 3) (.tmp 4),some (.tmp 2,true)⟩,⟨none,.load false 1 (.tmp 5),some (.tmp 2,true)⟩,⟨none,.un .not (.tmp 6),some (.tmp 2,true)⟩,⟨none,.pick (.tmp 2) (.tmp 7) (.cst (.bool false)),none⟩,⟨none,.mv (.tmp 8),none⟩,⟨none,.mv (.var 8),some (.tmp 9,true)⟩,⟨none,.bin .lss (.tmp 10) (.cst (.int .i64 0)),some (.tmp 9,true)⟩,⟨none,.mv (.tmp 11),some (.tmp 9,true)⟩,⟨none,.load false 1 (.var 6),some (.tmp 12,false)⟩,⟨none,.mv (.var 10),some (.tmp 12,false)⟩,⟨none,.nilCheck (.tmp 14),some (.tmp 12,false)⟩,⟨none,.load true 2 (.tmp 15),some (.tmp 12,false)⟩,⟨none,.load false 1 (.var 4),some (.tmp 12,false)⟩,⟨none,.mv (.var 8),some (.tmp 12,false)⟩,⟨none,.indexSl 1 (.tmp 17) (.tmp 18),some (.tmp 12,false)⟩,⟨none,.load false 1 (.tmp 19),some (.tmp 12,false)⟩,⟨none,.nilCheck (.tmp 20),some (.tmp 12,false)⟩,⟨none,.load true 2 (.tmp 21),some (.tmp 12,false)⟩,⟨none,.call (.tmp 13) [.tmp 16,.tmp 22],some (.tmp 12,false)⟩,⟨none,.bin .lss (.tmp 23) (.cst (.int .i64 0)),some (.tmp 12,false)⟩,⟨none,.pick (.tmp 12) (.cst (.bool true)) (.tmp 24),some (.tmp 9,true)⟩,⟨some 15,.pick (.tmp 9) (.tmp 25) (.cst (.bool false)),none⟩]) (.cond (.var 15) (.region [⟨none,.mv (.var 9),none⟩,⟨some 8,.mv (.tmp 0),none⟩]) .skip)))) (.kill [0,1,3,9,10,14,15,16])) (.region [⟨none,.bin .add (.var 13) (.cst (.int .i64 1)),none⟩,⟨some 13,.mv (.tmp 0),none⟩])))
def dN:MC:=.seq (.block 1 (.seq (.region [⟨some 8,.mv (.cst (.int .i64 (-1))),none⟩]) (.seq (.seq (.region [⟨some 11,.load false 1 (.var 4),none⟩,⟨some 12,.lenSl (.var 11),none⟩,⟨some 13,.mv (.cst (.int .i64 0)),none⟩]) (.seq (.block 2 (.loop [0,1,3,9,10,14,15,16] rT)) (.kill [0,1,3,9,10,11,12,13,14,15,16]))) (.seq (.seq (.region [⟨none,.mv (.var 8),none⟩,⟨some 16,.bin .lss (.tmp 0) (.cst (.int .i64 0)),none⟩]) (.cond (.var 16) (.seq (.region [⟨none,.load false 1 (.var 4),none⟩,⟨some 3,.mv (.tmp 0),none⟩]) .ret) .skip)) (.seq (.region [⟨none,.mv (.var 5),none⟩,⟨none,.mv (.var 8),none⟩,⟨none,.indexSl 1 (.tmp 0) (.tmp 1),none⟩,⟨none,.store 1 (.tmp 2) (.cst (.bool true)),none⟩]) (.regionD [] [⟨none,.mv (.var 7),none⟩,⟨none,.load false 1 (.var 4),none⟩,⟨none,.mv (.var 8),none⟩,⟨none,.indexSl 1 (.tmp 1) (.tmp 2),none⟩,⟨none,.load false 1 (.tmp 3),none⟩,⟨none,.nilCheck (.tmp 4),none⟩,⟨none,.fieldAddr 0 (.tmp 5),none⟩,⟨none,.load false 1 (.tmp 6),none⟩,⟨none,.fieldAddr 2 (.var 2),none⟩,⟨none,.load false 1 (.tmp 8),none⟩,⟨none,.mv (.var 8),none⟩,⟨none,.indexSl 7 (.tmp 9) (.tmp 10),none⟩,⟨none,.fieldAddr 2 (.tmp 11),none⟩,⟨none,.load false 1 (.tmp 12),none⟩,⟨none,.bin .add (.tmp 7) (.tmp 13),none⟩,⟨none,.fieldAddr 0 (.var 2),none⟩,⟨none,.load false 1 (.tmp 15),none⟩,⟨none,.bin .add (.tmp 14) (.tmp 16),none⟩,⟨none,.load false 1 (.var 4),none⟩,⟨none,.mv (.var 8),none⟩,⟨none,.indexSl 1 (.tmp 18) (.tmp 19),none⟩,⟨none,.load false 1 (.tmp 20),none⟩,⟨none,.nilCheck (.tmp 21),none⟩,⟨none,.fieldAddr 1 (.tmp 22),none⟩,⟨none,.load false 1 (.tmp 23),none⟩,⟨none,.call (.fn 63) [.tmp 24],none⟩,⟨none,.mv (.var 8),none⟩,⟨none,.buildF 1 [.tmp 26],none⟩,⟨none,.appendN 1 8 (.tmp 25) (.tmp 27),none⟩,⟨none,.build [.int .i64 0,.nilS] [(0,(1,.tmp 17)),(1,(1,.tmp 28))],none⟩,⟨none,.fieldAddr 2 (.var 2),none⟩,⟨none,.load false 1 (.tmp 30),none⟩,⟨none,.mv (.var 8),none⟩,⟨none,.indexSl 7 (.tmp 31) (.tmp 32),none⟩,⟨none,.load true 7 (.tmp 33),none⟩,⟨none,.call (.tmp 0) [.tmp 29,.tmp 34],none⟩] [(1,25),(3,25),(4,25),(6,25),(7,25),(8,25),(9,25),(11,25),(12,25),(13,25),(15,25),(16,25),(1,28),(3,28),(4,28),(6,28),(7,28),(8,28),(9,28),(11,28),(12,28),(13,28),(15,28),(16,28),(25,30),(28,30),(25,31),(28,31),(25,33),(28,33),(25,34),(28,34)])))))) (.kill [0,1,3,8,9,10,11,12,13,14,15,16])
def uq:bL:=⟨2,17,.seq (.region [⟨some 2,.box (.var 0),none⟩,⟨some 3,.mv (.cst .nilS),none⟩]) (.seq (.region [⟨none,.fieldAddr 2 (.var 2),none⟩,⟨none,.load false 1 (.tmp 0),none⟩,⟨none,.lenSl (.tmp 1),none⟩,⟨none,.makeSlice 1 8 .nilP (.tmp 2) (.tmp 2),none⟩,⟨some 4,.alloc 1 .nilS,none⟩,⟨none,.store 1 (.var 4) (.tmp 3),none⟩]) (.seq (.region [⟨none,.fieldAddr 2 (.var 2),none⟩,⟨none,.load false 1 (.tmp 0),none⟩,⟨none,.lenSl (.tmp 1),none⟩,⟨none,.makeSlice 1 1 (.bool false) (.tmp 2) (.tmp 2),none⟩,⟨some 5,.mv (.tmp 3),none⟩]) (.seq (.region [⟨some 6,.alloc 1 .nilF,none⟩,⟨none,.store 1 (.var 6) (.fn 174),none⟩]) (.seq (.region [⟨none,.makeFunc (.func 175) [] [.var 4,.var 6],none⟩,⟨some 7,.mv (.tmp 0),none⟩]) (.seq (.region [⟨none,.mv (.var 7),none⟩,⟨none,.fieldAddr 0 (.var 2),none⟩,⟨none,.load false 1 (.tmp 1),none⟩,⟨none,.build [.int .i64 0,.nilS] [(0,(1,.tmp 2))],none⟩,⟨none,.fieldAddr 2 (.var 2),none⟩,⟨none,.load false 1 (.tmp 4),none⟩,⟨none,.mv (.var 1),none⟩,⟨none,.indexSl 7 (.tmp 5) (.tmp 6),none⟩,⟨none,.load true 7 (.tmp 7),none⟩,⟨none,.call (.tmp 0) [.tmp 3,.tmp 8],none⟩]) (.seq (.block 0 (.loop [0,1,3,8,9,10,11,12,13,14,15,16] dN)) (.kill [0,1,2,3,4,5,6,7,8,9,10,11,12,13,14,15,16]))))))),[.tmp 3]⟩
def eM:List Nat:=[0,1,3,8,9,10,11,12,13,14,15,16]
abbrev rC (v2 v4 v5 v6 v7:AV):List AV:=[.undef,.undef,v2,.undef,v4,v5,v6,v7,.undef,.undef,.undef,.undef,.undef,.undef,.undef,.undef,.undef]
theorem yc {d0 d1 v2 d3 v4 v5 v6 v7 d8 d9 d10 d11 d12 d13 d14 d15 d16:AV}:clear eM [d0,d1,v2,d3,v4,v5,v6,v7,d8,d9,d10,d11,d12,d13,d14,d15,d16]=rC v2 v4 v5 v6 v7:=rfl
theorem xP {E:Env} {fuel:Nat} {A:aa} {o:Out} {k:List KC} {d0 d1 v2 d3 v4 v5 v6 v7 d8 d9 d10 d11 d12 d13 d14 d15 d16:AV} (h:bI (evC E fuel dN) eM fuel (rC v2 v4 v5 v6 v7) A=some o) :
  run E fuel (.code (.loop [0,1,3,8,9,10,11,12,13,14,15,16] dN) :: k) [d0,d1,v2,d3,v4,v5,v6,v7,d8,d9,d10,d11,d12,d13,d14,d15,d16] A=after E fuel k o:=aT eM _ _ (by rw [yc]; exact h)
theorem x7:aA Tryz.prog Tryz.f157 2 [0,1,2,4,5,6,7,8,9,10,11,31,32,33,34,64,68] [] true ([[0,1,3,8,9,10,11,12,13,14,15,16],[0,1,3,9,10,14,15,16]],[[0,1,3,9,10,14,15,16],[0,1,3,9,10,11,12,13,14,15,16],[0,1,3,8,9,10,11,12,13,14,15,16],[0,1,2,3,4,5,6,7,8,9,10,11,12,13,14,15,16]])=some uq:=by kernel_rfl
theorem IF:Tryz.prog.funcs[157]?=some Tryz.f157:=by kernel_rfl
namespace Sh
open Go.RowKit Go.Lib
def Ov:aN:=fun args=>match args with
 | [.nilS]=>some .nilS
 | _=>none
theorem zz:ak Tryz.prog GS 63 Ov:=by
 refine ⟨zA.1,fun args r he w OK vs hok hG hl=>?_⟩
 unfold Ov at he
 split at he
 ·injection he with he
  subst he
  match vs,hl with
  | [v],hl=>
   obtain ⟨h1,_⟩:=hl
   obtain ⟨p,rfl⟩:=h1.inv_nilS
   cases p with
   | none=>
    refine (zt w).mono ?_
    rintro e w' ⟨rfl,rfl⟩
    exact ⟨_,OK,rfl,.nilS _ _,hok,Ext.refl _ _ _⟩
   | some a=>
    refine (zr a w).mono ?_
    rintro e w' ⟨p,o,rfl,rfl⟩
    obtain ⟨k1,k2⟩:=fC (bC.nil hok) o
    exact ⟨_,OK,rfl,.nilS _ _,k1.ok,k2⟩
 ·cases he
def H63:aB:=fun _ args A=>match args with
 | [.nilS]=>some (.nilS,A)
 | _=>bN (ac GS []) 0 JR args A
theorem yu:au Tryz.prog GS 63 H63:=by
 have hn:=au.of_pure zz 4
 have hf:au Tryz.prog GS 63 (fun _=>bN (ac GS []) 0 JR):=(aG (E:=ac GS []) (ai an) rfl Ot yV aU.nil).y
 refine ⟨hn.1,fun ys h hs args A r A' hm=>?_⟩
 unfold H63 at hm
 split at hm
 ·injection hm with hm
  injection hm with h1 h2
  subst h1 h2
  exact hn.2 ys h hs _ _ _ _ rfl
 ·exact hf.2 ys h hs _ _ _ _ hm
def Ku:aB:=fun _ args A=>match args with
 | [.nilS,.int .i64 n]=>if 0<n/\n<=1000 then some (.sl A.length 0 0,A++[.row 1 false []]) else none
 | _=>none
theorem zY:au Tryz.prog GS 158 Ku:=by
 refine ⟨fun args w=>enters_of Tryz.func158 (by kernel_rfl) rfl args w,fun ys h hs args A r A' he w OK g vs hA hI hl=>?_⟩
 unfold Ku at he
 split at he
 ·rename_i n
  simp only [Option.ite_none_right_eq_some,Option.some.injEq,Prod.mk.injEq] at he
  obtain ⟨⟨h0,hn⟩,rfl,rfl⟩:=he
  match vs,hl with
  | [v,u],hl=>
   obtain ⟨h1,h2,_⟩:=hl
   obtain ⟨p,rfl⟩:=h1.inv_nilS
   obtain rfl:=h2.inv_int
   obtain ⟨k,rfl⟩:∃k:Nat,n=(k:Int):=⟨n.toNat,by omega⟩
   refine (zu p k w (by omega) (by omega)).mono ?_
   rintro e w' ⟨rfl,rfl⟩
   have hG:=grownCap_ge w k 0 3
   obtain ⟨c,hc⟩:∃c,c=Builtin.zeroCells #[.int .i64 0] k++Builtin.zeroCells #[.int .i64 0] (grownCap w k 0 3-k):=⟨_,rfl⟩
   have hcs:c.size=grownCap w k 0 3:=by
    rw [hc]
    simp only [Array.size_append,bP]
    simp; omega
   rw [<-hc]
   obtain ⟨q1,q2⟩:=hA.pushRow (w':=w.drew.alloc (.cells c 3)) c 3 (0,0) rfl rfl rfl rfl (bn _) 1 (grownCap w k 0 3) false [] (by simp) (by rw [hcs]; omega) (fun i hi=>by simp at hi)
   exact ⟨_,OK,_,rfl,.sl _ _ 0 0 _ _ _ (aq.push_self _ _ _) (by omega) (by simp) (by simp) (fun _=>by simp),q1,q2⟩
 ·cases he
theorem GW {hd:aE} {l b:Nat} {i n:Int} {A B:aa} (hA:A[b]?=some (.row 7 false [bg i (.fs 1 [.int .i64 n])])) (hn : -1<=n) (hy:hd (.func (.yield l) [] []) [.int .i64 n] A=some (.bool true,B)) :
  zl hd [.func (.yield l) [] [],.ptr b 0 0] A=some (.tup [],B):=by
 have lp:bI (evC (cG GS [] hd) 50 fe) gn 50 (iD (.func (.yield l) [] []) (.int .i64 (-1)) (.fs 1 [.int .i64 n]) (.int .i64 1) (.int .i64 0)) A=some (.exit 0 ((iD (.func (.yield l) [] []) (.int .i64 (-1)) (.fs 1 [.int .i64 n]) (.int .i64 1) (.int .i64 1)).set 7 (.bool false)) B):=by
  have hle:aj .leq (.int .i64 (-1)) (.int .i64 n)=some (.bool true):=by simp [aj,hn]
  have hge:aj .geq (.int .i64 (-1)) (.int .i64 0)=some (.bool false):=by simp [aj]
  have h1:aj .lss (.int .i64 0) (.int .i64 1)=some (.bool true):=by simp [aj]
  have h2:aj .lss (.int .i64 1) (.int .i64 1)=some (.bool false):=by simp [aj]
  have h3:aj .add (.int .i64 0) (.int .i64 1)=some (.int .i64 1):=aY 0 (by omega)
  have hc:(cG GS [] hd).call (.func (.yield l) [] []) [.int .i64 n] A=some (.bool true,B):=by simp [Env.call,cG,hy]
  have r1:run (cG GS [] hd) 50 [.code fe] (iD (.func (.yield l) [] []) (.int .i64 (-1)) (.fs 1 [.int .i64 n]) (.int .i64 1) (.int .i64 0)) A=some (.normal [.func (.yield l) [] [],.undef,.int .i64 (-1),.undef,.fs 1 [.int .i64 n],.int .i64 1,.int .i64 1,.undef,.undef,.undef,.undef,.undef] B):=by
   simp [fe,hle,hge,h1,h3,hc,-aj]
  rw [aF,pc,r1]
  show bI _ _ 49 _ _=_
  rw [aF,pc]
  simp [fe,h2,-aj]
 have hge:aj .geq (.int .i64 (-1)) (.int .i64 0)=some (.bool false):=by simp [aj]
 unfold zl
 rw [aH _ _ rfl]
 unfold bg at hA
 simp [xe,hA,uF lp,hge,-aj]
theorem LA {hd:aE} {l b:Nat} {i:Int} {A:aa} (hA:A[b]?=some (.row 7 false [bg i .nilS])) :
  zl hd [.func (.yield l) [] [],.ptr b 0 0] A=some (.tup [],A):=by
 have lp:bI (evC (cG GS [] hd) 50 fe) gn 50 (iD (.func (.yield l) [] []) (.int .i64 (-1)) .nilS (.int .i64 0) (.int .i64 0)) A=some (.exit 0 ((iD (.func (.yield l) [] []) (.int .i64 (-1)) .nilS (.int .i64 0) (.int .i64 0)).set 7 (.bool false)) A):=by
  rw [aF,pc]
  have h1:aj .lss (.int .i64 0) (.int .i64 0)=some (.bool false):=by simp [aj]
  simp [fe,h1,-aj]
 have hge:aj .geq (.int .i64 (-1)) (.int .i64 0)=some (.bool false):=by simp [aj]
 unfold zl
 rw [aH _ _ rfl]
 unfold bg at hA
 simp [xe,hA,uF lp,hge,-aj]
def fM:List (FuncId × aB):=[(174,aK 4 Ks),(176,OE),(183,zl)]
def zm:aB:=fun _=>bN (ac GS fM) 50 Bv
theorem zN:au Tryz.prog GS 175 zm:=(aG (E:=ac GS fM) (ai (ag (au.of_pure tQ 4) (ag zM (ag zG an)))) rfl MT C9 aU.nil).y
end Sh
namespace Sh
def Bh:MC:=.region [⟨some 4,.box (.var 0),none⟩,⟨some 5,.box (.var 1),none⟩]
def Bg:MC:=.region [⟨none,.load true 7 (.var 5),none⟩,⟨some 7,.call (.fn 176) [.tmp 0],none⟩]
def Bf:MC:=.seq (.block 0 (.rangeFunc (.var 7) [8] iN iM)) (.kill [0,1,2,3,4,5,6,7,8,9])
theorem Bu:Bv=⟨4,10,.seq Bh (.seq Bg Bf),[]⟩:=rfl
def wA1:aa:=[.row 4 false [bE],.row 4 false [bE],.row 1 false [.nilP,.nilP,.nilP],.row 1 false [.sl 2 0 3],.row 1 false [.bool false,.bool false,.bool false],.row 1 false [.func (.func 174) [] []]]
def wB1:aa:=[.row 4 false [bE],.row 4 false [bE],.row 1 false [.nilP,.ptr 10 0 0,.nilP],.row 1 false [.sl 2 0 3],.row 1 false [.bool false,.bool false,.bool false],.row 1 false [.func (.func 174) [] []],.row 2 false [.agg [.int .i64 2,.nilS]],.row 7 false [bg 0 (.fs 1 [.int .i64 1])],.row 7 false [bg 0 (.fs 1 [.int .i64 1])],.dead,.row 2 false [.agg [.int .i64 2,.nilS]]]
def wA2:aa:=[.row 4 false [bE],.row 4 false [bE],.row 1 false [.nilP,.ptr 10 0 0,.nilP],.row 1 false [.sl 2 0 3],.row 1 false [.bool false,.bool true,.bool false],.row 1 false [.func (.func 174) [] []],.row 2 false [.agg [.int .i64 2,.nilS]],.row 7 false [bg 0 (.fs 1 [.int .i64 1])],.row 7 false [bg 0 (.fs 1 [.int .i64 1])],.dead,.row 2 false [.agg [.int .i64 2,.nilS]],.row 1 false [.int .i64 1]]
def wB2:aa:=[.row 4 false [bE],.row 4 false [bE],.row 1 false [.nilP,.ptr 10 0 0,.ptr 16 0 0],.row 1 false [.sl 2 0 3],.row 1 false [.bool false,.bool true,.bool false],.row 1 false [.func (.func 174) [] []],.row 2 false [.agg [.int .i64 2,.nilS]],.row 7 false [bg 0 (.fs 1 [.int .i64 1])],.row 7 false [bg 0 (.fs 1 [.int .i64 1])],.dead,.row 2 false [.agg [.int .i64 2,.nilS]],.row 1 false [.int .i64 1],.row 2 false [.agg [.int .i64 14,.sl 11 0 1]],.row 7 false [bg 1 (.fs 1 [.int .i64 2])],.row 7 false [bg 1 (.fs 1 [.int .i64 2])],.dead,.row 2 false [.agg [.int .i64 14,.sl 11 0 1]]]
def wA3:aa:=[.row 4 false [bE],.row 4 false [bE],.row 1 false [.nilP,.ptr 10 0 0,.ptr 16 0 0],.row 1 false [.sl 2 0 3],.row 1 false [.bool false,.bool true,.bool true],.row 1 false [.func (.func 174) [] []],.row 2 false [.agg [.int .i64 2,.nilS]],.row 7 false [bg 0 (.fs 1 [.int .i64 1])],.row 7 false [bg 0 (.fs 1 [.int .i64 1])],.dead,.row 2 false [.agg [.int .i64 2,.nilS]],.row 1 false [.int .i64 1],.row 2 false [.agg [.int .i64 14,.sl 11 0 1]],.row 7 false [bg 1 (.fs 1 [.int .i64 2])],.row 7 false [bg 1 (.fs 1 [.int .i64 2])],.dead,.row 2 false [.agg [.int .i64 14,.sl 11 0 1]],.dead,.dead,.row 1 false [.int .i64 1,.int .i64 2]]
def wB3:aa:=[.row 4 false [bE],.row 4 false [bE],.row 1 false [.nilP,.ptr 10 0 0,.ptr 16 0 0],.row 1 false [.sl 2 0 3],.row 1 false [.bool false,.bool true,.bool true],.row 1 false [.func (.func 174) [] []],.row 2 false [.agg [.int .i64 2,.nilS]],.row 7 false [bg 0 (.fs 1 [.int .i64 1])],.row 7 false [bg 0 (.fs 1 [.int .i64 1])],.dead,.row 2 false [.agg [.int .i64 2,.nilS]],.row 1 false [.int .i64 1],.row 2 false [.agg [.int .i64 14,.sl 11 0 1]],.row 7 false [bg 1 (.fs 1 [.int .i64 2])],.row 7 false [bg 1 (.fs 1 [.int .i64 2])],.dead,.row 2 false [.agg [.int .i64 14,.sl 11 0 1]],.dead,.dead,.row 1 false [.int .i64 1,.int .i64 2],.row 2 false [.agg [.int .i64 26,.sl 19 0 2]],.row 7 false [bg 2 .nilS],.row 7 false [bg 2 .nilS],.dead]
theorem uc {hd:aE} {args σ1 σ2:List AV} {A A1 A2 B:aa} {b:Nat} (hl:args.length=4) (h1:∀K,run (ac GS fM) 50 (.code Bh :: K) (args++List.replicate 6 .undef) A=run (ac GS fM) 50 K σ1 A1) (h2:∀K,run (ac GS fM) 50 (.code Bg :: K) σ1 A1=run (ac GS fM) 50 K σ2 A2)
  (hv:evX (ac GS fM) σ2 [] (.var 7)=.func (.func 183) [] [.ptr b 0 0])
  (h3:∀(l:Nat) (r:Loop),∃B',zl (cR A2.length l r σ2 [8] (evC (ac GS fM) 50 iN) (evC (ac GS fM) 50 iM) (fun _ _ _=>none)) [.func (.yield l) [] [],.ptr b 0 0] (A2++[.loop r 0])=some (.tup [],B')/\B'[A2.length]?=some (.loop r 0)/\B'.set A2.length .dead=B) :
  zm hd args A=some (.tup [],B):=by
 have hr:∀K,run (ac GS fM) 50 (.code (.rangeFunc (.var 7) [8] iN iM) :: K) σ2 A2=after (ac GS fM) 50 K (.normal σ2 B):=fun K=>by
  refine cY _ _ _ _ _ fun l r=>?_
  obtain ⟨B',e1,e2,e3⟩:=h3 l r
  rw [hv]
  show (match zl (cR A2.length l r σ2 [8] (evC (ac GS fM) 50 iN) (evC (ac GS fM) 50 iM) (fun _ _ _=>none)) [.func (.yield l) [] [],.ptr b 0 0] (A2++[.loop r 0]) with
   | some (_,A')=>fJ A2.length σ2 A'
   | none=>none)=_
  rw [e1]
  simp [fJ,e2,e3]
 unfold zm
 rw [aH _ _ (by rw [hl]; rfl),Bu]
 show (match run (ac GS fM) 50 [.code (.seq Bh (.seq Bg Bf))] (args++List.replicate 6 .undef) A with
  | some (.normal σ A')=>(dh A' σ []).map fun l=>(nh l,A')
  | some (.ret σ A')=>(dh A' σ []).map fun l=>(nh l,A')
  | _=>none)=_
 rw [aQ,h1,aQ,h2]
 unfold Bf
 rw [aQ,ga,hr]
 simp [dh]
theorem ro {σ σ3 σ4:List AV} {l:Nat} {r:Loop} {n:Int} {A2 A4:aa} (_hσ:σ.length=10) (ha:∀X,evC (ac GS fM) 50 iN (σ.set 8 (.int .i64 n)) (A2++[X])=some (.normal σ3 (A2++[X]))) (hb:evC (ac GS fM) 50 iM σ3 (A2++[.dead])=some (.normal σ4 A4)) :
  cR A2.length l r σ [8] (evC (ac GS fM) 50 iN) (evC (ac GS fM) 50 iM) (fun _ _ _=>none) (.func (.yield l) [] []) [.int .i64 n] (A2++[.loop r 0])=some (.bool true,A4.set A2.length (.loop r 0)):=
 gU (by simp) rfl (ha _) (by simp) (by
  rw [show (A2++[Ent.loop r 0]).set A2.length .dead=A2++[.dead] by simp]
  exact hb)
theorem add1 (hd:aE):zm hd [.agg [.int .i64 2,.nilS],bg 0 (.fs 1 [.int .i64 1]),.ptr 3 0 0,.ptr 5 0 0] wA1=some (.tup [],wB1):=by
 refine uc (σ1:=[.agg [.int .i64 2,.nilS],bg 0 (.fs 1 [.int .i64 1]),.ptr 3 0 0,.ptr 5 0 0,.ptr 6 0 0,.ptr 7 0 0,.undef,.undef,.undef,.undef]) (σ2:=[.agg [.int .i64 2,.nilS],bg 0 (.fs 1 [.int .i64 1]),.ptr 3 0 0,.ptr 5 0 0,.ptr 6 0 0,.ptr 7 0 0,.undef,.func (.func 183) [] [.ptr 8 0 0],.undef,.undef]) (A1:=wA1++[.row 2 false [.agg [.int .i64 2,.nilS]],.row 7 false [bg 0 (.fs 1 [.int .i64 1])]]) (A2:=wA1++[.row 2 false [.agg [.int .i64 2,.nilS]],.row 7 false [bg 0 (.fs 1 [.int .i64 1])],.row 7 false [bg 0 (.fs 1 [.int .i64 1])]]) (b:=8) rfl (fun K=>by kernel_rfl) (fun K=>by kernel_rfl) rfl fun l r=>?_
 refine ⟨_,GW (i:=0) (n:=1) rfl (by omega) (ro (σ3:=[.agg [.int .i64 2,.nilS],bg 0 (.fs 1 [.int .i64 1]),.ptr 3 0 0,.ptr 5 0 0,.ptr 6 0 0,.ptr 7 0 0,.int .i64 1,.func (.func 183) [] [.ptr 8 0 0],.int .i64 1,.undef]) (σ4:=List.replicate 10 .undef) (A4:=wB1) rfl (fun X=>by kernel_rfl) (by kernel_rfl)),rfl,rfl⟩
theorem add2 (hd:aE):zm hd [.agg [.int .i64 14,.sl 11 0 1],bg 1 (.fs 1 [.int .i64 2]),.ptr 3 0 0,.ptr 5 0 0] wA2=some (.tup [],wB2):=by
 refine uc (σ1:=[.agg [.int .i64 14,.sl 11 0 1],bg 1 (.fs 1 [.int .i64 2]),.ptr 3 0 0,.ptr 5 0 0,.ptr 12 0 0,.ptr 13 0 0,.undef,.undef,.undef,.undef]) (σ2:=[.agg [.int .i64 14,.sl 11 0 1],bg 1 (.fs 1 [.int .i64 2]),.ptr 3 0 0,.ptr 5 0 0,.ptr 12 0 0,.ptr 13 0 0,.undef,.func (.func 183) [] [.ptr 14 0 0],.undef,.undef]) (A1:=wA2++[.row 2 false [.agg [.int .i64 14,.sl 11 0 1]],.row 7 false [bg 1 (.fs 1 [.int .i64 2])]]) (A2:=wA2++[.row 2 false [.agg [.int .i64 14,.sl 11 0 1]],.row 7 false [bg 1 (.fs 1 [.int .i64 2])],.row 7 false [bg 1 (.fs 1 [.int .i64 2])]]) (b:=14) rfl (fun K=>by kernel_rfl) (fun K=>by kernel_rfl) rfl fun l r=>?_
 refine ⟨_,GW (i:=1) (n:=2) rfl (by omega) (ro (σ3:=[.agg [.int .i64 14,.sl 11 0 1],bg 1 (.fs 1 [.int .i64 2]),.ptr 3 0 0,.ptr 5 0 0,.ptr 12 0 0,.ptr 13 0 0,.int .i64 2,.func (.func 183) [] [.ptr 14 0 0],.int .i64 2,.undef]) (σ4:=List.replicate 10 .undef) (A4:=wB2) rfl (fun X=>by kernel_rfl) (by kernel_rfl)),rfl,rfl⟩
theorem add3 (hd:aE):zm hd [.agg [.int .i64 26,.sl 19 0 2],bg 2 .nilS,.ptr 3 0 0,.ptr 5 0 0] wA3=some (.tup [],wB3):=by
 refine uc (σ1:=[.agg [.int .i64 26,.sl 19 0 2],bg 2 .nilS,.ptr 3 0 0,.ptr 5 0 0,.ptr 20 0 0,.ptr 21 0 0,.undef,.undef,.undef,.undef]) (σ2:=[.agg [.int .i64 26,.sl 19 0 2],bg 2 .nilS,.ptr 3 0 0,.ptr 5 0 0,.ptr 20 0 0,.ptr 21 0 0,.undef,.func (.func 183) [] [.ptr 22 0 0],.undef,.undef]) (A1:=wA3++[.row 2 false [.agg [.int .i64 26,.sl 19 0 2]],.row 7 false [bg 2 .nilS]]) (A2:=wA3++[.row 2 false [.agg [.int .i64 26,.sl 19 0 2]],.row 7 false [bg 2 .nilS],.row 7 false [bg 2 .nilS]]) (b:=22) rfl (fun K=>by kernel_rfl) (fun K=>by kernel_rfl) rfl fun l r=>?_
 refine ⟨_,LA (i:=2) rfl,rfl,rfl⟩
end Sh
namespace Sh
def ce:List (FuncId × aB):=[(63,H63),(174,aK 4 Ks),(175,zm)]
@[simp] theorem Kg:aR ce 63=some H63:=rfl
@[simp] theorem Hq:aR ce 174=some (aK 4 Ks):=rfl
@[simp] theorem Hp:aR ce 175=some zm:=rfl
def Js:aB:=fun _=>bN (ac GS ce) 50 uq
theorem zZ:au Tryz.prog GS 157 Js:=(aG (E:=ac GS ce) (ai (ag yu (ag (au.of_pure tQ 4) (ag zN an)))) rfl IF x7 aU.nil).y
def tG:MC:=.region [⟨some 8,.mv (.cst (.int .i64 (-1))),none⟩]
def tF:MC:=.seq (.region [⟨some 11,.load false 1 (.var 4),none⟩,⟨some 12,.lenSl (.var 11),none⟩,⟨some 13,.mv (.cst (.int .i64 0)),none⟩]) (.seq (.block 2 (.loop [0,1,3,9,10,14,15,16] rT)) (.kill [0,1,3,9,10,11,12,13,14,15,16]))
def tE:MC:=.seq (.region [⟨none,.mv (.var 8),none⟩,⟨some 16,.bin .lss (.tmp 0) (.cst (.int .i64 0)),none⟩]) (.cond (.var 16) (.seq (.region [⟨none,.load false 1 (.var 4),none⟩,⟨some 3,.mv (.tmp 0),none⟩]) .ret) .skip)
def tD:MC:=.region [⟨none,.mv (.var 5),none⟩,⟨none,.mv (.var 8),none⟩,⟨none,.indexSl 1 (.tmp 0) (.tmp 1),none⟩,⟨none,.store 1 (.tmp 2) (.cst (.bool true)),none⟩]
def pp:MC:=.regionD [] [⟨none,.mv (.var 7),none⟩,⟨none,.load false 1 (.var 4),none⟩,⟨none,.mv (.var 8),none⟩,⟨none,.indexSl 1 (.tmp 1) (.tmp 2),none⟩,⟨none,.load false 1 (.tmp 3),none⟩,⟨none,.nilCheck (.tmp 4),none⟩,⟨none,.fieldAddr 0 (.tmp 5),none⟩,⟨none,.load false 1 (.tmp 6),none⟩,⟨none,.fieldAddr 2 (.var 2),none⟩,⟨none,.load false 1 (.tmp 8),none⟩,⟨none,.mv (.var 8),none⟩,⟨none,.indexSl 7 (.tmp 9) (.tmp 10),none⟩,⟨none,.fieldAddr 2 (.tmp 11),none⟩,⟨none,.load false 1 (.tmp 12),none⟩,⟨none,.bin .add (.tmp 7) (.tmp 13),none⟩,⟨none,.fieldAddr 0 (.var 2),none⟩,⟨none,.load false 1 (.tmp 15),none⟩,⟨none,.bin .add (.tmp 14) (.tmp 16),none⟩,⟨none,.load false 1 (.var 4),none⟩,⟨none,.mv (.var 8),none⟩,⟨none,.indexSl 1 (.tmp 18) (.tmp 19),none⟩,⟨none,.load false 1 (.tmp 20),none⟩,⟨none,.nilCheck (.tmp 21),none⟩,⟨none,.fieldAddr 1 (.tmp 22),none⟩,⟨none,.load false 1 (.tmp 23),none⟩,⟨none,.call (.fn 63) [.tmp 24],none⟩,⟨none,.mv (.var 8),none⟩,⟨none,.buildF 1 [.tmp 26],none⟩,⟨none,.appendN 1 8 (.tmp 25) (.tmp 27),none⟩,⟨none,.build [.int .i64 0,.nilS] [(0,(1,.tmp 17)),(1,(1,.tmp 28))],none⟩,⟨none,.fieldAddr 2 (.var 2),none⟩,⟨none,.load false 1 (.tmp 30),none⟩,⟨none,.mv (.var 8),none⟩,⟨none,.indexSl 7 (.tmp 31) (.tmp 32),none⟩,⟨none,.load true 7 (.tmp 33),none⟩,⟨none,.call (.tmp 0) [.tmp 29,.tmp 34],none⟩] [(1,25),(3,25),(4,25),(6,25),(7,25),(8,25),(9,25),(11,25),(12,25),(13,25),(15,25),(16,25),(1,28),(3,28),(4,28),(6,28),(7,28),(8,28),(9,28),(11,28),(12,28),(13,28),(15,28),(16,28),(25,30),(28,30),(25,31),(28,31),(25,33),(28,33),(25,34),(28,34)]
def KE:MC:=.kill [0,1,3,8,9,10,11,12,13,14,15,16]
theorem n8:dN=.seq (.block 1 (.seq tG (.seq tF (.seq tE (.seq tD pp))))) KE:=rfl
def tC:MC:=.region [⟨some 2,.box (.var 0),none⟩,⟨some 3,.mv (.cst .nilS),none⟩]
def tB:MC:=.region [⟨none,.fieldAddr 2 (.var 2),none⟩,⟨none,.load false 1 (.tmp 0),none⟩,⟨none,.lenSl (.tmp 1),none⟩,⟨none,.makeSlice 1 8 .nilP (.tmp 2) (.tmp 2),none⟩,⟨some 4,.alloc 1 .nilS,none⟩,⟨none,.store 1 (.var 4) (.tmp 3),none⟩]
def tA:MC:=.region [⟨none,.fieldAddr 2 (.var 2),none⟩,⟨none,.load false 1 (.tmp 0),none⟩,⟨none,.lenSl (.tmp 1),none⟩,⟨none,.makeSlice 1 1 (.bool false) (.tmp 2) (.tmp 2),none⟩,⟨some 5,.mv (.tmp 3),none⟩]
def tz:MC:=.region [⟨some 6,.alloc 1 .nilF,none⟩,⟨none,.store 1 (.var 6) (.fn 174),none⟩]
def tx:MC:=.region [⟨none,.makeFunc (.func 175) [] [.var 4,.var 6],none⟩,⟨some 7,.mv (.tmp 0),none⟩]
def ru:MC:=.region [⟨none,.mv (.var 7),none⟩,⟨none,.fieldAddr 0 (.var 2),none⟩,⟨none,.load false 1 (.tmp 1),none⟩,⟨none,.build [.int .i64 0,.nilS] [(0,(1,.tmp 2))],none⟩,⟨none,.fieldAddr 2 (.var 2),none⟩,⟨none,.load false 1 (.tmp 4),none⟩,⟨none,.mv (.var 1),none⟩,⟨none,.indexSl 7 (.tmp 5) (.tmp 6),none⟩,⟨none,.load true 7 (.tmp 7),none⟩,⟨none,.call (.tmp 0) [.tmp 3,.tmp 8],none⟩]
def zv:MC:=.seq (.block 0 (.loop [0,1,3,8,9,10,11,12,13,14,15,16] dN)) (.kill [0,1,2,3,4,5,6,7,8,9,10,11,12,13,14,15,16])
theorem xk:uq=⟨2,17,.seq tC (.seq tB (.seq tA (.seq tz (.seq tx (.seq ru zv))))),[.tmp 3]⟩:=rfl
def wC2:aa:=wB1.set 4 (.row 1 false [.bool false,.bool true,.bool false])
def wC3:aa:=wB2.set 4 (.row 1 false [.bool false,.bool true,.bool true])
def wD3:aa:=wC3++[.dead,.row 1 false [.int .i64 1]]
def ir:List AV:=[bg 0 (.fs 1 [.int .i64 1]),bg 1 (.fs 1 [.int .i64 2]),bg 2 .nilS]
theorem q5a {K:List KC}:run (ac GS ce) 50 (.code pp :: K) [.undef,.undef,.ptr 1 0 0,.undef,.ptr 3 0 0,.sl 4 0 3,.ptr 5 0 0,.func (.func 175) [] [.ptr 3 0 0,.ptr 5 0 0],.int .i64 1,.undef,.undef,.undef,.undef,.undef,.undef,.undef,.bool false] wC2=run (ac GS ce) 50 K [.undef,.undef,.ptr 1 0 0,.undef,.ptr 3 0 0,.sl 4 0 3,.ptr 5 0 0,.func (.func 175) [] [.ptr 3 0 0,.ptr 5 0 0],.int .i64 1,.undef,.undef,.undef,.undef,.undef,.undef,.undef,.bool false] wB2:=by
 have f1:aD false 1 wC2 (.ptr 3 0 0)=some (.sl 2 0 3):=rfl
 have f2:ae 1 wC2 (.sl 2 0 3) (.int .i64 1)=some (.ptr 2 1 0):=rfl
 have f3:aD false 1 wC2 (.ptr 2 1 0)=some (.ptr 10 0 0):=rfl
 have f4:aw 0 wC2 (.ptr 10 0 0)=some (.ptr 10 0 0):=rfl
 have f5:aD false 1 wC2 (.ptr 10 0 0)=some (.int .i64 2):=rfl
 have f6:aw 2 wC2 (.ptr 1 0 0)=some (.ptr 1 0 2):=rfl
 have f7:aD false 1 wC2 (.ptr 1 0 2)=some (.fs 7 ir):=rfl
 have f8:ae 7 wC2 (.fs 7 ir) (.int .i64 1)=some (.fp [.int .i64 1,.fs 1 [.int .i64 1],.int .i64 10,.int .i64 20,.fs 1 [.int .i64 2],.int .i64 (-1),.int .i64 0]):=rfl
 have f9:aw 2 wC2 (.fp [.int .i64 1,.fs 1 [.int .i64 1],.int .i64 10,.int .i64 20,.fs 1 [.int .i64 2],.int .i64 (-1),.int .i64 0])=some (.fp [.int .i64 10,.int .i64 20,.fs 1 [.int .i64 2],.int .i64 (-1),.int .i64 0]):=rfl
 have f10:aD false 1 wC2 (.fp [.int .i64 10,.int .i64 20,.fs 1 [.int .i64 2],.int .i64 (-1),.int .i64 0])=some (.int .i64 10):=rfl
 have f11:aj .add (.int .i64 2) (.int .i64 10)=some (.int .i64 12):=rfl
 have f12:aw 0 wC2 (.ptr 1 0 0)=some (.ptr 1 0 0):=rfl
 have f13:aD false 1 wC2 (.ptr 1 0 0)=some (.int .i64 2):=rfl
 have f14:aj .add (.int .i64 12) (.int .i64 2)=some (.int .i64 14):=rfl
 have f15:aw 1 wC2 (.ptr 10 0 0)=some (.ptr 10 0 1):=rfl
 have f16:aD false 1 wC2 (.ptr 10 0 1)=some (.nilS):=rfl
 have f17:H63 (fun _ _ _=>none) [.nilS] wC2=some (.nilS,wC2):=rfl
 have f18:aV 1 8 wC2 (.nilS) (.fs 1 [.int .i64 1])=some (.sl 11 0 1,wA2):=rfl
 have f19:aw 2 wA2 (.ptr 1 0 0)=some (.ptr 1 0 2):=rfl
 have f20:aD false 1 wA2 (.ptr 1 0 2)=some (.fs 7 ir):=rfl
 have f21:ae 7 wA2 (.fs 7 ir) (.int .i64 1)=some (.fp [.int .i64 1,.fs 1 [.int .i64 1],.int .i64 10,.int .i64 20,.fs 1 [.int .i64 2],.int .i64 (-1),.int .i64 0]):=rfl
 have f22:aD true 7 wA2 (.fp [.int .i64 1,.fs 1 [.int .i64 1],.int .i64 10,.int .i64 20,.fs 1 [.int .i64 2],.int .i64 (-1),.int .i64 0])=some (bg 1 (.fs 1 [.int .i64 2])):=rfl
 have f23:wC2.length=11:=rfl
 have fa:=add2 (fun _ _ _=>none)
 simp (maxSteps:=1000000) [pp,f1,f2,f3,f4,f5,f6,f7,f8,f9,f10,f11,f12,f13,f14,f15,f16,f17,f18,f19,f20,f21,f22,f23,fa,-aD,-ae,-aw,-aj]
theorem q5b {K:List KC}:run (ac GS ce) 50 (.code pp :: K) [.undef,.undef,.ptr 1 0 0,.undef,.ptr 3 0 0,.sl 4 0 3,.ptr 5 0 0,.func (.func 175) [] [.ptr 3 0 0,.ptr 5 0 0],.int .i64 2,.undef,.undef,.undef,.undef,.undef,.undef,.undef,.bool false] wC3=run (ac GS ce) 50 K [.undef,.undef,.ptr 1 0 0,.undef,.ptr 3 0 0,.sl 4 0 3,.ptr 5 0 0,.func (.func 175) [] [.ptr 3 0 0,.ptr 5 0 0],.int .i64 2,.undef,.undef,.undef,.undef,.undef,.undef,.undef,.bool false] wB3:=by
 have f1:aD false 1 wC3 (.ptr 3 0 0)=some (.sl 2 0 3):=rfl
 have f2:ae 1 wC3 (.sl 2 0 3) (.int .i64 2)=some (.ptr 2 2 0):=rfl
 have f3:aD false 1 wC3 (.ptr 2 2 0)=some (.ptr 16 0 0):=rfl
 have f4:aw 0 wC3 (.ptr 16 0 0)=some (.ptr 16 0 0):=rfl
 have f5:aD false 1 wC3 (.ptr 16 0 0)=some (.int .i64 14):=rfl
 have f6:aw 2 wC3 (.ptr 1 0 0)=some (.ptr 1 0 2):=rfl
 have f7:aD false 1 wC3 (.ptr 1 0 2)=some (.fs 7 ir):=rfl
 have f8:ae 7 wC3 (.fs 7 ir) (.int .i64 2)=some (.fp [.int .i64 1,.fs 1 [.int .i64 2],.int .i64 10,.int .i64 20,.nilS,.int .i64 (-1),.int .i64 0]):=rfl
 have f9:aw 2 wC3 (.fp [.int .i64 1,.fs 1 [.int .i64 2],.int .i64 10,.int .i64 20,.nilS,.int .i64 (-1),.int .i64 0])=some (.fp [.int .i64 10,.int .i64 20,.nilS,.int .i64 (-1),.int .i64 0]):=rfl
 have f10:aD false 1 wC3 (.fp [.int .i64 10,.int .i64 20,.nilS,.int .i64 (-1),.int .i64 0])=some (.int .i64 10):=rfl
 have f11:aj .add (.int .i64 14) (.int .i64 10)=some (.int .i64 24):=rfl
 have f12:aw 0 wC3 (.ptr 1 0 0)=some (.ptr 1 0 0):=rfl
 have f13:aD false 1 wC3 (.ptr 1 0 0)=some (.int .i64 2):=rfl
 have f14:aj .add (.int .i64 24) (.int .i64 2)=some (.int .i64 26):=rfl
 have f15:aw 1 wC3 (.ptr 16 0 0)=some (.ptr 16 0 1):=rfl
 have f16:aD false 1 wC3 (.ptr 16 0 1)=some (.sl 11 0 1):=rfl
 have f17:H63 (fun _ _ _=>none) [.sl 11 0 1] wC3=some (.sl 18 0 1,wD3):=rfl
 have f18:aV 1 8 wD3 (.sl 18 0 1) (.fs 1 [.int .i64 2])=some (.sl 19 0 2,wA3):=rfl
 have f19:aw 2 wA3 (.ptr 1 0 0)=some (.ptr 1 0 2):=rfl
 have f20:aD false 1 wA3 (.ptr 1 0 2)=some (.fs 7 ir):=rfl
 have f21:ae 7 wA3 (.fs 7 ir) (.int .i64 2)=some (.fp [.int .i64 1,.fs 1 [.int .i64 2],.int .i64 10,.int .i64 20,.nilS,.int .i64 (-1),.int .i64 0]):=rfl
 have f22:aD true 7 wA3 (.fp [.int .i64 1,.fs 1 [.int .i64 2],.int .i64 10,.int .i64 20,.nilS,.int .i64 (-1),.int .i64 0])=some (bg 2 .nilS):=rfl
 have f23:wD3.length=19:=rfl
 have f24:wD3[1]?=wC3[1]?:=rfl
 have f25:wD3[2]?=wC3[2]?:=rfl
 have f26:wD3[3]?=wC3[3]?:=rfl
 have f27:wD3[16]?=wC3[16]?:=rfl
 have fa:=add3 (fun _ _ _=>none)
 simp (maxSteps:=1000000) [pp,f1,f2,f3,f4,f5,f6,f7,f8,f9,f10,f11,f12,f13,f14,f15,f16,f17,f18,f19,f20,f21,f22,f23,fa,-aD,-ae,-aw,-aj]
 refine if_pos ?_
 simp
 exact ⟨rfl,rfl,rfl,rfl⟩
def σ157:List AV:=[.undef,.undef,.ptr 1 0 0,.undef,.ptr 3 0 0,.sl 4 0 3,.ptr 5 0 0,.func (.func 175) [] [.ptr 3 0 0,.ptr 5 0 0],.undef,.undef,.undef,.undef,.undef,.undef,.undef,.undef,.undef]
theorem FV:run (ac GS ce) 50 [.code dN] σ157 wB1=some (.normal σ157 wB2):=by
 have k1:∀K,run (ac GS ce) 50 (.code tG :: K) σ157 wB1=run (ac GS ce) 50 K [.undef,.undef,.ptr 1 0 0,.undef,.ptr 3 0 0,.sl 4 0 3,.ptr 5 0 0,.func (.func 175) [] [.ptr 3 0 0,.ptr 5 0 0],.int .i64 (-1),.undef,.undef,.undef,.undef,.undef,.undef,.undef,.undef] wB1:=fun K=>by kernel_rfl
 have k2:∀K,run (ac GS ce) 50 (.code tF :: K) [.undef,.undef,.ptr 1 0 0,.undef,.ptr 3 0 0,.sl 4 0 3,.ptr 5 0 0,.func (.func 175) [] [.ptr 3 0 0,.ptr 5 0 0],.int .i64 (-1),.undef,.undef,.undef,.undef,.undef,.undef,.undef,.undef] wB1=run (ac GS ce) 50 K [.undef,.undef,.ptr 1 0 0,.undef,.ptr 3 0 0,.sl 4 0 3,.ptr 5 0 0,.func (.func 175) [] [.ptr 3 0 0,.ptr 5 0 0],.int .i64 1,.undef,.undef,.undef,.undef,.undef,.undef,.undef,.undef] wB1:=fun K=>by kernel_rfl
 have k3:∀K,run (ac GS ce) 50 (.code tE :: K) [.undef,.undef,.ptr 1 0 0,.undef,.ptr 3 0 0,.sl 4 0 3,.ptr 5 0 0,.func (.func 175) [] [.ptr 3 0 0,.ptr 5 0 0],.int .i64 1,.undef,.undef,.undef,.undef,.undef,.undef,.undef,.undef] wB1=run (ac GS ce) 50 K [.undef,.undef,.ptr 1 0 0,.undef,.ptr 3 0 0,.sl 4 0 3,.ptr 5 0 0,.func (.func 175) [] [.ptr 3 0 0,.ptr 5 0 0],.int .i64 1,.undef,.undef,.undef,.undef,.undef,.undef,.undef,.bool false] wB1:=fun K=>by kernel_rfl
 have k4:∀K,run (ac GS ce) 50 (.code tD :: K) [.undef,.undef,.ptr 1 0 0,.undef,.ptr 3 0 0,.sl 4 0 3,.ptr 5 0 0,.func (.func 175) [] [.ptr 3 0 0,.ptr 5 0 0],.int .i64 1,.undef,.undef,.undef,.undef,.undef,.undef,.undef,.bool false] wB1=run (ac GS ce) 50 K [.undef,.undef,.ptr 1 0 0,.undef,.ptr 3 0 0,.sl 4 0 3,.ptr 5 0 0,.func (.func 175) [] [.ptr 3 0 0,.ptr 5 0 0],.int .i64 1,.undef,.undef,.undef,.undef,.undef,.undef,.undef,.bool false] wC2:=fun K=>by kernel_rfl
 rw [n8,aQ,ga,aQ,k1,aQ,k2,aQ,k3,aQ,k4,q5a]
 rfl
theorem FU:run (ac GS ce) 50 [.code dN] σ157 wB2=some (.normal σ157 wB3):=by
 have k1:∀K,run (ac GS ce) 50 (.code tG :: K) σ157 wB2=run (ac GS ce) 50 K [.undef,.undef,.ptr 1 0 0,.undef,.ptr 3 0 0,.sl 4 0 3,.ptr 5 0 0,.func (.func 175) [] [.ptr 3 0 0,.ptr 5 0 0],.int .i64 (-1),.undef,.undef,.undef,.undef,.undef,.undef,.undef,.undef] wB2:=fun K=>by kernel_rfl
 have k2:∀K,run (ac GS ce) 50 (.code tF :: K) [.undef,.undef,.ptr 1 0 0,.undef,.ptr 3 0 0,.sl 4 0 3,.ptr 5 0 0,.func (.func 175) [] [.ptr 3 0 0,.ptr 5 0 0],.int .i64 (-1),.undef,.undef,.undef,.undef,.undef,.undef,.undef,.undef] wB2=run (ac GS ce) 50 K [.undef,.undef,.ptr 1 0 0,.undef,.ptr 3 0 0,.sl 4 0 3,.ptr 5 0 0,.func (.func 175) [] [.ptr 3 0 0,.ptr 5 0 0],.int .i64 2,.undef,.undef,.undef,.undef,.undef,.undef,.undef,.undef] wB2:=fun K=>by kernel_rfl
 have k3:∀K,run (ac GS ce) 50 (.code tE :: K) [.undef,.undef,.ptr 1 0 0,.undef,.ptr 3 0 0,.sl 4 0 3,.ptr 5 0 0,.func (.func 175) [] [.ptr 3 0 0,.ptr 5 0 0],.int .i64 2,.undef,.undef,.undef,.undef,.undef,.undef,.undef,.undef] wB2=run (ac GS ce) 50 K [.undef,.undef,.ptr 1 0 0,.undef,.ptr 3 0 0,.sl 4 0 3,.ptr 5 0 0,.func (.func 175) [] [.ptr 3 0 0,.ptr 5 0 0],.int .i64 2,.undef,.undef,.undef,.undef,.undef,.undef,.undef,.bool false] wB2:=fun K=>by kernel_rfl
 have k4:∀K,run (ac GS ce) 50 (.code tD :: K) [.undef,.undef,.ptr 1 0 0,.undef,.ptr 3 0 0,.sl 4 0 3,.ptr 5 0 0,.func (.func 175) [] [.ptr 3 0 0,.ptr 5 0 0],.int .i64 2,.undef,.undef,.undef,.undef,.undef,.undef,.undef,.bool false] wB2=run (ac GS ce) 50 K [.undef,.undef,.ptr 1 0 0,.undef,.ptr 3 0 0,.sl 4 0 3,.ptr 5 0 0,.func (.func 175) [] [.ptr 3 0 0,.ptr 5 0 0],.int .i64 2,.undef,.undef,.undef,.undef,.undef,.undef,.undef,.bool false] wC3:=fun K=>by kernel_rfl
 rw [n8,aQ,ga,aQ,k1,aQ,k2,aQ,k3,aQ,k4,q5b]
 rfl
theorem FT:run (ac GS ce) 50 [.code dN] σ157 wB3=some (.ret [.undef,.undef,.ptr 1 0 0,.sl 2 0 3,.ptr 3 0 0,.sl 4 0 3,.ptr 5 0 0,.func (.func 175) [] [.ptr 3 0 0,.ptr 5 0 0],.int .i64 (-1),.undef,.undef,.undef,.undef,.undef,.undef,.undef,.bool true] wB3):=by kernel_rfl
def wZ:aa:=[.row 4 false [bE]]
theorem KV {K:List KC}:run (ac GS ce) 50 (.code ru :: K) [bE,.int .i64 0,.ptr 1 0 0,.nilS,.ptr 3 0 0,.sl 4 0 3,.ptr 5 0 0,.func (.func 175) [] [.ptr 3 0 0,.ptr 5 0 0],.undef,.undef,.undef,.undef,.undef,.undef,.undef,.undef,.undef] wA1=run (ac GS ce) 50 K [bE,.int .i64 0,.ptr 1 0 0,.nilS,.ptr 3 0 0,.sl 4 0 3,.ptr 5 0 0,.func (.func 175) [] [.ptr 3 0 0,.ptr 5 0 0],.undef,.undef,.undef,.undef,.undef,.undef,.undef,.undef,.undef] wB1:=by
 have f1:aw 0 wA1 (.ptr 1 0 0)=some (.ptr 1 0 0):=rfl
 have f2:aD false 1 wA1 (.ptr 1 0 0)=some (.int .i64 2):=rfl
 have f3:aw 2 wA1 (.ptr 1 0 0)=some (.ptr 1 0 2):=rfl
 have f4:aD false 1 wA1 (.ptr 1 0 2)=some (.fs 7 ir):=rfl
 have f5:ae 7 wA1 (.fs 7 ir) (.int .i64 0)=some (.fp [.int .i64 1,.fs 1 [.int .i64 0],.int .i64 10,.int .i64 20,.fs 1 [.int .i64 1],.int .i64 (-1),.int .i64 0]):=rfl
 have f6:aD true 7 wA1 (.fp [.int .i64 1,.fs 1 [.int .i64 0],.int .i64 10,.int .i64 20,.fs 1 [.int .i64 1],.int .i64 (-1),.int .i64 0])=some (bg 0 (.fs 1 [.int .i64 1])):=rfl
 have fa:=add1 (fun _ _ _=>none)
 simp [ru,f1,f2,f3,f4,f5,f6,fa,-aD,-ae,-aw]
theorem yk (hd:aE):Js hd [bE,.int .i64 0] wZ=some (.sl 2 0 3,wB3):=by
 have k1:∀K,run (ac GS ce) 50 (.code tC :: K) ([bE,.int .i64 0]++List.replicate 15 .undef) wZ=run (ac GS ce) 50 K [bE,.int .i64 0,.ptr 1 0 0,.nilS,.undef,.undef,.undef,.undef,.undef,.undef,.undef,.undef,.undef,.undef,.undef,.undef,.undef] (wA1.take 2):=fun K=>by kernel_rfl
 have k2:∀K,run (ac GS ce) 50 (.code tB :: K) [bE,.int .i64 0,.ptr 1 0 0,.nilS,.undef,.undef,.undef,.undef,.undef,.undef,.undef,.undef,.undef,.undef,.undef,.undef,.undef] (wA1.take 2)=run (ac GS ce) 50 K [bE,.int .i64 0,.ptr 1 0 0,.nilS,.ptr 3 0 0,.undef,.undef,.undef,.undef,.undef,.undef,.undef,.undef,.undef,.undef,.undef,.undef] (wA1.take 4):=fun K=>by kernel_rfl
 have k3:∀K,run (ac GS ce) 50 (.code tA :: K) [bE,.int .i64 0,.ptr 1 0 0,.nilS,.ptr 3 0 0,.undef,.undef,.undef,.undef,.undef,.undef,.undef,.undef,.undef,.undef,.undef,.undef] (wA1.take 4)=run (ac GS ce) 50 K [bE,.int .i64 0,.ptr 1 0 0,.nilS,.ptr 3 0 0,.sl 4 0 3,.undef,.undef,.undef,.undef,.undef,.undef,.undef,.undef,.undef,.undef,.undef] (wA1.take 5):=fun K=>by kernel_rfl
 have k4:∀K,run (ac GS ce) 50 (.code tz :: K) [bE,.int .i64 0,.ptr 1 0 0,.nilS,.ptr 3 0 0,.sl 4 0 3,.undef,.undef,.undef,.undef,.undef,.undef,.undef,.undef,.undef,.undef,.undef] (wA1.take 5)=run (ac GS ce) 50 K [bE,.int .i64 0,.ptr 1 0 0,.nilS,.ptr 3 0 0,.sl 4 0 3,.ptr 5 0 0,.undef,.undef,.undef,.undef,.undef,.undef,.undef,.undef,.undef,.undef] wA1:=fun K=>by kernel_rfl
 have k5:∀K,run (ac GS ce) 50 (.code tx :: K) [bE,.int .i64 0,.ptr 1 0 0,.nilS,.ptr 3 0 0,.sl 4 0 3,.ptr 5 0 0,.undef,.undef,.undef,.undef,.undef,.undef,.undef,.undef,.undef,.undef] wA1=run (ac GS ce) 50 K [bE,.int .i64 0,.ptr 1 0 0,.nilS,.ptr 3 0 0,.sl 4 0 3,.ptr 5 0 0,.func (.func 175) [] [.ptr 3 0 0,.ptr 5 0 0],.undef,.undef,.undef,.undef,.undef,.undef,.undef,.undef,.undef] wA1:=fun K=>by kernel_rfl
 have lp:bI (evC (ac GS ce) 50 dN) eM 50 σ157 wB1=some (.ret [.undef,.undef,.ptr 1 0 0,.sl 2 0 3,.ptr 3 0 0,.sl 4 0 3,.ptr 5 0 0,.func (.func 175) [] [.ptr 3 0 0,.ptr 5 0 0],.int .i64 (-1),.undef,.undef,.undef,.undef,.undef,.undef,.undef,.bool true] wB3):=by
  have cl:clear eM σ157=σ157:=rfl
  rw [aF,cl,FV]
  show bI _ _ 49 _ _=_
  rw [aF,cl,FU]
  show bI _ _ 48 _ _=_
  rw [aF,cl,FT]
 unfold Js
 rw [aH _ _ rfl,xk]
 show (match run (ac GS ce) 50 [.code (.seq tC (.seq tB (.seq tA (.seq tz (.seq tx (.seq ru zv))))))] ([bE,.int .i64 0]++List.replicate 15 .undef) wZ with
  | some (.normal σ A')=>(dh A' σ [.tmp 3]).map fun l=>(nh l,A')
  | some (.ret σ A')=>(dh A' σ [.tmp 3]).map fun l=>(nh l,A')
  | _=>none)=_
 rw [aQ,k1,aQ,k2,aQ,k3,aQ,k4,aQ,k5,aQ,KV]
 unfold zv
 unfold σ157 at lp
 rw [aQ,ga,xP lp]
 rfl
end Sh
namespace Sh
def pS:List (FuncId × aB):=[(63,H63),(156,aK 4 Kt),(157,Js)]
@[simp] theorem Km:aR pS 63=some H63:=rfl
@[simp] theorem HK:aR pS 156=some (aK 4 Kt):=rfl
@[simp] theorem HJ:aR pS 157=some Js:=rfl
theorem rG:bZ Tryz.prog (ac GS pS):=ai (ag yu (ag (au.of_pure z6 4) (ag zZ an)))
def Jq:aN:=fun args=>evP (ac GS pS) 50 BO 4 args
theorem Av:ak Tryz.prog GS 118 Jq:=ak.of_ev (E:=ac GS pS) rG rfl ND DM 4 fun _ _ h=>⟨50,h⟩
def Jo:aN:=fun args=>evP (ac GS pS) 50 BN 4 args
theorem Au:ak Tryz.prog GS 119 Jo:=ak.of_ev (E:=ac GS pS) rG rfl NC DL 4 fun _ _ h=>⟨50,h⟩
def wE:aa:=wB3++[.dead,.row 1 false [.int .i64 1]]
theorem Jp:Jq [bE,.int .i64 0,.int .i64 2]=some (.tup [.fs 1 [.int .i64 1],.bool true]):=by
 have fw:=yk (fun _ _ _=>none)
 have b1:cn (cellsOf bE).length bE []=some (.ptr 0 0 0,wZ):=rfl
 have b2:aD true 4 wZ (.ptr 0 0 0)=some bE:=rfl
 have n1:br 4 bE=true:=rfl
 have z1:frz wZ 4 bE=bE:=rfl
 have i1:ae 1 wB3 (.sl 2 0 3) (.int .i64 2)=some (.ptr 2 2 0):=rfl
 have l1:aD false 1 wB3 (.ptr 2 2 0)=some (.ptr 16 0 0):=rfl
 have a1:aw 1 wB3 (.ptr 16 0 0)=some (.ptr 16 0 1):=rfl
 have l2:aD false 1 wB3 (.ptr 16 0 1)=some (.sl 11 0 1):=rfl
 have h63:H63 (fun _ _ _=>none) [.sl 11 0 1] wB3=some (.sl 25 0 1,wE):=rfl
 have ff:frz wE 4 (.tup [.sl 25 0 1,.bool true])=.tup [.fs 1 [.int .i64 1],.bool true]:=rfl
 have mt:=zi
 have ci:∀(k:IntKind) (n:Int),cellsOf (.int k n)=[.int k n]:=fun _ _=>rfl
 have z2:frz wZ 4 (.fs 1 [.int .i64 0,.int .i64 2])=.fs 1 [.int .i64 0,.int .i64 2]:=rfl
 unfold Jq
 rw [aZ _ _ rfl]
 simp [BO,fw,b1,b2,n1,z1,i1,l1,a1,l2,h63,ff,mt,ci,z2,-cn,-aD,-ae,-aw,-frz,-cellsOf]
theorem Jn:Jo [bE,.int .i64 0,.int .i64 2]=some (.tup [.int .i64 14,.bool true]):=by
 have fw:=yk (fun _ _ _=>none)
 have b1:cn (cellsOf bE).length bE []=some (.ptr 0 0 0,wZ):=rfl
 have b2:aD true 4 wZ (.ptr 0 0 0)=some bE:=rfl
 have n1:br 4 bE=true:=rfl
 have z1:frz wZ 4 bE=bE:=rfl
 have i1:ae 1 wB3 (.sl 2 0 3) (.int .i64 2)=some (.ptr 2 2 0):=rfl
 have l1:aD false 1 wB3 (.ptr 2 2 0)=some (.ptr 16 0 0):=rfl
 have a1:aw 0 wB3 (.ptr 16 0 0)=some (.ptr 16 0 0):=rfl
 have l2:aD false 1 wB3 (.ptr 16 0 0)=some (.int .i64 14):=rfl
 have ff:frz wB3 4 (.tup [.int .i64 14,.bool true])=.tup [.int .i64 14,.bool true]:=rfl
 have mt:=zi
 have ci:∀(k:IntKind) (n:Int),cellsOf (.int k n)=[.int k n]:=fun _ _=>rfl
 have z2:frz wZ 4 (.fs 1 [.int .i64 0,.int .i64 2])=.fs 1 [.int .i64 0,.int .i64 2]:=rfl
 unfold Jo
 rw [aZ _ _ rfl]
 simp [BN,fw,b1,b2,n1,z1,i1,l1,a1,l2,ff,mt,ci,z2,-cn,-aD,-ae,-aw,-frz,-cellsOf]
def Kv:aB:=fun _=>bN (ac GS [(158,Ku)]) 50 yJ
theorem As:au Tryz.prog GS 120 Kv:=(aG (E:=ac GS [(158,Ku)]) (ai (ag zY an)) rfl IH x8 aU.nil).y
def qx:AV:=.agg [.int .i64 0,.int .i64 2,.int .i64 13]
def Hb:List (FuncId × aB):=[(118,aK 4 Jq),(119,aK 4 Jo),(120,Kv)]
@[simp] theorem Kc:aR Hb 118=some (aK 4 Jq):=rfl
@[simp] theorem Kb:aR Hb 119=some (aK 4 Jo):=rfl
@[simp] theorem Ka:aR Hb 120=some Kv:=rfl
def H72:aB:=fun _=>bN (ac GS Hb) 50 Bp
theorem E5:au Tryz.prog GS 72 H72:=(aG (E:=ac GS Hb) (ai (ag (au.of_pure Av 4) (ag (au.of_pure Au 4) (ag As an)))) rfl MI CV aU.nil).y
end Sh
namespace Sh
def zPr:AV:=.agg [.int .i64 0,.nilS]
def wF:aa:=[.row 4 false [bE],.row 2 false [zPr],.row 3 false [qx]]
def wF1:aa:=wF++[.row 4 false [bE]]
def wF2:aa:=wF1++[.row 3 false [qx]]
def wF3:aa:=wF2++[.row 2 false [zPr]]
def wF4:aa:=wF3++[.row 1 false [.int .i64 0]]
def wF5:aa:=wF4++[.row 1 false [.int .i64 2]]
def wF6:aa:=wF5++[.row 1 false [.sl 6 0 1,.fs 1 [.int .i64 1],.sl 7 0 1]]
def wF7:aa:=wF6++[.dead,.dead,.dead,.row 1 false [.int .i64 0,.int .i64 1,.int .i64 2]]
def prT:AV:=.agg [.int .i64 3,.sl 12 0 3]
def wF8:aa:=wF7.set 5 (.row 2 false [prT])
theorem NR (hd:aE):H72 hd [bE,qx] wF=some (.tup [prT,.bool true],wF8):=by
 have b1:cn (cellsOf bE).length bE wF=some (.ptr 3 0 0,wF1):=rfl
 have b2:cn (cellsOf qx).length qx wF1=some (.ptr 4 0 0,wF2):=rfl
 have b3:cn 2 (.agg [.int .i64 0,.nilS]) wF2=some (.ptr 5 0 0,wF3):=rfl
 have l1:aD true 4 wF3 (.ptr 3 0 0)=some bE:=rfl
 have a1:aw 0 wF3 (.ptr 4 0 0)=some (.ptr 4 0 0):=rfl
 have l2:aD false 1 wF3 (.ptr 4 0 0)=some (.int .i64 0):=rfl
 have a2:aw 1 wF3 (.ptr 4 0 0)=some (.ptr 4 0 1):=rfl
 have l3:aD false 1 wF3 (.ptr 4 0 1)=some (.int .i64 2):=rfl
 have a3:aw 2 wF3 (.ptr 4 0 0)=some (.ptr 4 0 2):=rfl
 have l4:aD false 1 wF3 (.ptr 4 0 2)=some (.int .i64 13):=rfl
 have n1:br 4 bE=true:=rfl
 have z1:frz wF3 4 bE=bE:=rfl
 have z2:∀n:Int,frz wF3 4 (.int .i64 n)=.int .i64 n:=fun _=>rfl
 have m1:=Jp
 have m2:=Jn
 have c1:aj .lss (.int .i64 13) (.int .i64 14)=some (.bool true):=rfl
 have s1:bh 1 [.int .i64 0] wF3=some (.sl 6 0 1,wF4):=rfl
 have a4:aw 1 wF4 (.ptr 4 0 0)=some (.ptr 4 0 1):=rfl
 have l5:aD false 1 wF4 (.ptr 4 0 1)=some (.int .i64 2):=rfl
 have s2:bh 1 [.int .i64 2] wF4=some (.sl 7 0 1,wF5):=rfl
 have s3:bh 1 [.sl 6 0 1,.fs 1 [.int .i64 1],.sl 7 0 1] wF5=some (.sl 8 0 3,wF6):=rfl
 have h1:Kv (fun _ _ _=>none) [.sl 8 0 3] wF6=some (.sl 12 0 3,wF7):=by kernel_rfl
 have ci:∀(k:IntKind) (n:Int),cellsOf (.int k n)=[.int k n]:=fun _ _=>rfl
 have cs:∀i o l:Nat,cellsOf (.sl i o l)=[.sl i o l]:=fun _ _ _=>rfl
 have t1:aP 2 wF7 (.ptr 5 0 0) (.agg [.int .i64 3,.sl 12 0 3])=some wF8:=rfl
 have l6:aD true 2 wF8 (.ptr 5 0 0)=some prT:=rfl
 unfold H72
 rw [aH _ _ rfl]
 simp [Bp,b1,b2,b3,l1,a1,l2,a2,l3,a3,l4,n1,z1,z2,m1,m2,c1,s1,a4,l5,s2,s3,h1,t1,l6,ci,cs,-cn,-aD,-aP,-aw,-aj,-bh,-frz,-cellsOf]
def Hd:List (FuncId × aB):=[(71,aK 4 M71),(72,H72)]
@[simp] theorem Mb:aR Hd 71=some (aK 4 M71):=rfl
@[simp] theorem Ma:aR Hd 72=some H72:=rfl
def M26:aN:=fun args=>evF (ac GS Hd) 50 Lc 4 args
theorem zD:bS Tryz.prog GS 26 M26:=bS.of_ev (E:=ac GS Hd) (ai (ag (au.of_pure yr 4) (ag E5 an))) rfl at26 Ix 4 (fun _ _ h=>⟨50,h⟩)
def wG:aa:=[.row 4 false [bE],.row 2 false [zPr]]
def wG0:aa:=[.row 4 false [bE]]
def wG1:aa:=wG++[.row 3 false [.agg [.int .i64 0,.int .i64 0,.int .i64 0]]]
def wG2:aa:=wF8++[.row 2 false [zPr]]
def wG3:aa:=wF8++[.row 2 false [prT]]
def wG4:aa:=wG3.set 1 (.row 2 false [prT])
theorem NO:M26 [bE]=some (.agg [.int .i64 3,.fs 1 [.int .i64 0,.int .i64 1,.int .i64 2]]):=by
 have b1:cn (cellsOf bE).length bE []=some (.ptr 0 0 0,wG0):=rfl
 have b2:cn 2 (.agg [.int .i64 0,.nilS]) wG0=some (.ptr 1 0 0,wG):=rfl
 have l1:aD true 4 wG (.ptr 0 0 0)=some bE:=rfl
 have n1:br 4 bE=true:=rfl
 have z1:frz wG 4 bE=bE:=rfl
 have m1:=NM
 have a1:aw 3 wG (.ptr 0 0 0)=some (.ptr 0 0 3):=rfl
 have l2:aD false 1 wG (.ptr 0 0 3)=some (.fs 3 [qx]):=rfl
 have e1:ay (.fs 3 [qx])=some (.int .i64 1):=rfl
 have c1:aj .lss (.int .i64 0) (.int .i64 1)=some (.bool true):=rfl
 have i1:ae 3 wG (.fs 3 [qx]) (.int .i64 0)=some (.fp [.int .i64 0,.int .i64 2,.int .i64 13]):=rfl
 have l3:aD true 3 wG (.fp [.int .i64 0,.int .i64 2,.int .i64 13])=some qx:=rfl
 have b3:cn 3 (.agg [.int .i64 0,.int .i64 0,.int .i64 0]) wG=some (.ptr 2 0 0,wG1):=rfl
 have t1:aP 3 wG1 (.ptr 2 0 0) qx=some wF:=rfl
 have l4:aD true 4 wF (.ptr 0 0 0)=some bE:=rfl
 have l5:aD true 3 wF (.ptr 2 0 0)=some qx:=rfl
 have h1:=NR (fun _ _ _=>none)
 have b4:cn 2 (.agg [.int .i64 0,.nilS]) wF8=some (.ptr 13 0 0,wG2):=rfl
 have t2:aP 2 wG2 (.ptr 13 0 0) prT=some wG3:=rfl
 have l6:aD true 2 wG3 (.ptr 13 0 0)=some prT:=rfl
 have t3:aP 2 wG3 (.ptr 1 0 0) prT=some wG4:=rfl
 have l7:aD true 2 wG4 (.ptr 1 0 0)=some prT:=rfl
 have ff:bV wG4 4 prT=true:=rfl
 have fz:frz wG4 4 prT=.agg [.int .i64 3,.fs 1 [.int .i64 0,.int .i64 1,.int .i64 2]]:=rfl
 have lp:bI (evC (ac GS Hd) 50 pJ) kY 50 (tN (.ptr 0 0 0) (.ptr 1 0 0) (.fs 3 [qx]) (.int .i64 1) (.int .i64 0)) wG=some (.ret [.undef,.ptr 0 0 0,.ptr 1 0 0,.ptr 2 0 0,.ptr 13 0 0,.bool true,.undef,.fs 3 [qx],.int .i64 1,.int .i64 0,.bool true,.bool true] wG4):=by
  rw [aF,yZ]
  simp [pJ,c1,i1,l3,b3,t1,l4,l5,h1,b4,t2,l6,t3,-cn,-aD,-aP,-aw,-aj,-ae]
 unfold M26
 rw [j7 _ _ rfl]
 simp [Lc,b1,b2,l1,n1,z1,m1,a1,l2,e1,G7 lp,l7,ff,fz,-cn,-aD,-aP,-aw,-aj,-ay,-frz,-cellsOf]
end Sh
namespace Sh
def M28:aN:=fun args=>evP (ac GS []) 50 N6 1 args
theorem Ff:ak Tryz.prog GS 28 M28:=ak.of_ev (E:=ac GS []) (ai an) rfl at28 Iv 1 fun _ _ h=>⟨50,h⟩
def fs6:List (FuncId × aB):=[(26,ec 8 M26),(27,aK 4 wj),(28,aK 4 M28)]
@[simp] theorem Oi:aR fs6 26=some (ec 8 M26):=rfl
@[simp] theorem Oh:aR fs6 27=some (aK 4 wj):=rfl
@[simp] theorem Og:aR fs6 28=some (aK 4 M28):=rfl
def M6:aN:=fun args=>evP (ac GS fs6) 50 K7 1 args
theorem KI:ak Tryz.prog GS 6 M6:=ak.of_ev (E:=ac GS fs6) (ai (ag (au.of_pureF zD 8) (ag (au.of_pure tP 4) (ag (au.of_pure Ff 4) an)))) rfl at6z Ij 1 fun _ _ h=>⟨50,h⟩
def vY:Stg:=⟨10,20,1,5,2,29⟩
def pl6:Pl:=⟨0,1,5,[vY],[]⟩
theorem KJ:vJ pl6:=by
 refine ⟨?_,?_,fun w h=>by cases h⟩
 ·unfold cL pl6
  simp [bH,gi,vY,asc]
 ·unfold pl6
  simp [dO,vY]
theorem NN:wj [ax pl6 (.fs 6 [aI vY]) .nilS]=some (.tup [.agg [.undef,.undef,.undef,.undef,.undef],.bool true]):=by
 obtain ⟨v,h,hv⟩:=vL pl6 (a:=.fs 6 [aI vY]) (b:=.nilS) (.inr rfl) (.inl ⟨rfl,rfl⟩)
 rw [hv.2 KJ] at h
 exact h
def KD:MC:=.region [⟨some 0,.mv (.cst (.bool false)),none⟩]
def KB:MC:=.region [⟨none,.build [.int .i64 0,.int .i64 0,.int .i64 0] [(0,(1,.cst (.int .i64 0))),(1,(1,.cst (.int .i64 2))),(2,(1,.cst (.int .i64 13)))],none⟩,⟨none,.buildSlice 3 [.tmp 0],none⟩,⟨none,.build [.int .i64 0,.int .i64 0,.nilS,.nilS] [(0,(1,.cst (.int .i64 2))),(1,(1,.cst (.int .i64 5))),(3,(1,.tmp 1))],none⟩,⟨some 1,.alloc 4 (.agg [.int .i64 0,.int .i64 0,.nilS,.nilS]),none⟩,⟨none,.store 4 (.var 1) (.tmp 2),none⟩]
def KA:MC:=.seq (.region [⟨some 2,.mv (.cst (.int .i64 0)),none⟩]) (.seq (.block 0 (.loop [0,3,4,5,6,7,8] yK)) (.kill [0,2,3,4,5,6,7,8]))
def JA:MC:=.region [⟨none,.load true 4 (.var 1),none⟩,⟨none,.call (.fn 26) [.tmp 0],none⟩,⟨some 4,.alloc 2 (.agg [.int .i64 0,.nilS]),none⟩,⟨none,.store 2 (.var 4) (.tmp 1),none⟩]
def Kz:MC:=.region [⟨none,.build [.int .i64 0,.int .i64 0] [(0,(1,.cst (.int .i64 1))),(1,(1,.cst (.int .i64 5)))],none⟩,⟨none,.build [.int .i64 0,.int .i64 0] [(0,(1,.cst (.int .i64 2))),(1,(1,.cst (.int .i64 29)))],none⟩,⟨none,.build [.int .i64 0,.int .i64 0,.int .i64 0,.int .i64 0,.int .i64 0,.int .i64 0] [(0,(1,.cst (.int .i64 10))),(1,(1,.cst (.int .i64 20))),(2,(2,.tmp 0)),(4,(2,.tmp 1))],none⟩,⟨some 5,.alloc 6 (.agg [.int .i64 0,.int .i64 0,.int .i64 0,.int .i64 0,.int .i64 0,.int .i64 0]),none⟩,⟨none,.store 6 (.var 5) (.tmp 2),none⟩]
def Jz:MC:=.region [⟨none,.load true 6 (.var 5),none⟩,⟨none,.buildSlice 6 [.tmp 0],none⟩,⟨none,.build [.int .i64 0,.int .i64 0,.int .i64 0,.nilS,.nilS] [(1,(1,.cst (.int .i64 1))),(2,(1,.cst (.int .i64 5))),(3,(1,.tmp 1))],none⟩,⟨none,.call (.fn 27) [.tmp 2],none⟩,⟨none,.mv (.tmp 3),none⟩,⟨none,.extract (.tmp 4) 0,none⟩,⟨none,.extract (.tmp 4) 1,none⟩,⟨none,.alloc 5 (.agg [.nilS,.nilS,.int .i64 0,.int .i64 0,.int .i64 0]),none⟩,⟨none,.store 5 (.tmp 7) (.tmp 5),none⟩,⟨some 6,.mv (.tmp 6),none⟩]
def Ky:MC:=.region [⟨none,.fieldAddr 0 (.var 4),none⟩,⟨none,.load false 1 (.tmp 0),none⟩,⟨none,.bin .eql (.tmp 1) (.cst (.int .i64 3)),none⟩,⟨none,.mv (.tmp 2),none⟩,⟨none,.fieldAddr 1 (.var 4),some (.tmp 3,true)⟩,⟨none,.load false 1 (.tmp 4),some (.tmp 3,true)⟩,⟨none,.buildF 1 [.cst (.int .i64 0),.cst (.int .i64 1),.cst (.int .i64 2)],some (.tmp 3,true)⟩,⟨none,.call (.fn 28) [.tmp 5,.tmp 6],some (.tmp 3,true)⟩,⟨none,.pick (.tmp 3) (.tmp 7) (.cst (.bool false)),none⟩,⟨none,.mv (.tmp 8),none⟩,⟨none,.mv (.var 6),some (.tmp 9,true)⟩,⟨none,.pick (.tmp 9) (.tmp 10) (.cst (.bool false)),none⟩,⟨some 0,.mv (.tmp 11),none⟩]
def Kx:MC:=.ret
theorem Gb:K7=⟨0,9,.seq KD (.seq KB (.seq KA (.seq JA (.seq Kz (.seq Jz (.seq Ky Kx)))))),[.tmp 0]⟩:=rfl
def y0:aa:=[.row 3 false [qx],.row 4 false [.agg [.int .i64 2,.int .i64 5,.nilS,.sl 0 0 1]]]
def y1:aa:=[.row 3 false [qx],.row 4 false [.agg [.int .i64 2,.int .i64 5,.sl 15 0 3,.sl 0 0 1]],.row 1 false [.int .i64 0],.row 7 false [.agg [.int .i64 1,.sl 2 0 1,.int .i64 10,.int .i64 20,.sl 4 0 1,.int .i64 (-1),.int .i64 0]],.row 1 false [.int .i64 1],.row 7 false [.agg [.int .i64 1,.sl 2 0 1,.int .i64 10,.int .i64 20,.sl 4 0 1,.int .i64 (-1),.int .i64 0]],.dead,.row 1 false [.int .i64 1],.row 7 false [.agg [.int .i64 1,.sl 7 0 1,.int .i64 10,.int .i64 20,.sl 9 0 1,.int .i64 (-1),.int .i64 0]],.row 1 false [.int .i64 2],.row 7 false [.agg [.int .i64 1,.sl 7 0 1,.int .i64 10,.int .i64 20,.sl 9 0 1,.int .i64 (-1),.int .i64 0]],.dead,.row 1 false [.int .i64 2],.row 7 false [.agg [.int .i64 1,.sl 12 0 1,.int .i64 10,.int .i64 20,.nilS,.int .i64 (-1),.int .i64 0]],.row 7 false [.agg [.int .i64 1,.sl 12 0 1,.int .i64 10,.int .i64 20,.nilS,.int .i64 (-1),.int .i64 0]],.row 7 false [.agg [.int .i64 1,.sl 2 0 1,.int .i64 10,.int .i64 20,.sl 4 0 1,.int .i64 (-1),.int .i64 0],.agg [.int .i64 1,.sl 7 0 1,.int .i64 10,.int .i64 20,.sl 9 0 1,.int .i64 (-1),.int .i64 0],.agg [.int .i64 1,.sl 12 0 1,.int .i64 10,.int .i64 20,.nilS,.int .i64 (-1),.int .i64 0]]]
def pr6:AV:=.agg [.int .i64 3,.fs 1 [.int .i64 0,.int .i64 1,.int .i64 2]]
def y2:aa:=y1++[.row 2 false [pr6]]
def y3:aa:=y2++[.row 6 false [aI vY]]
def y4:aa:=y3++[.row 6 false [aI vY]]
def uS:AV:=.agg [.undef,.undef,.undef,.undef,.undef]
def y5:aa:=y4++[.row 5 false [uS]]
theorem D0:M6 []=some (.bool true):=by
 have k1:∀K,run (ac GS fs6) 50 (.code KD :: K) [.undef,.undef,.undef,.undef,.undef,.undef,.undef,.undef,.undef] []=run (ac GS fs6) 50 K [.bool false,.undef,.undef,.undef,.undef,.undef,.undef,.undef,.undef] []:=fun K=>by kernel_rfl
 have k2:∀K,run (ac GS fs6) 50 (.code KB :: K) [.bool false,.undef,.undef,.undef,.undef,.undef,.undef,.undef,.undef] []=run (ac GS fs6) 50 K [.bool false,.ptr 1 0 0,.undef,.undef,.undef,.undef,.undef,.undef,.undef] y0:=fun K=>by kernel_rfl
 have k3:∀K,run (ac GS fs6) 50 (.code KA :: K) [.bool false,.ptr 1 0 0,.undef,.undef,.undef,.undef,.undef,.undef,.undef] y0=run (ac GS fs6) 50 K [.undef,.ptr 1 0 0,.undef,.undef,.undef,.undef,.undef,.undef,.undef] y1:=fun K=>by kernel_rfl
 have l1:aD true 4 y1 (.ptr 1 0 0)=some (.agg [.int .i64 2,.int .i64 5,.sl 15 0 3,.sl 0 0 1]):=rfl
 have z1:frz y1 8 (.agg [.int .i64 2,.int .i64 5,.sl 15 0 3,.sl 0 0 1])=bE:=rfl
 have m1:=NO
 have x1:cn 2 (.agg [.int .i64 0,.nilS]) y1=some (.ptr 16 0 0,y1++[.row 2 false [.agg [.int .i64 0,.nilS]]]):=rfl
 have t1:aP 2 (y1++[.row 2 false [.agg [.int .i64 0,.nilS]]]) (.ptr 16 0 0) (.agg [.int .i64 3,.fs 1 [.int .i64 0,.int .i64 1,.int .i64 2]])=some y2:=rfl
 have k4:∀K,run (ac GS fs6) 50 (.code JA :: K) [.undef,.ptr 1 0 0,.undef,.undef,.undef,.undef,.undef,.undef,.undef] y1=run (ac GS fs6) 50 K [.undef,.ptr 1 0 0,.undef,.undef,.ptr 16 0 0,.undef,.undef,.undef,.undef] y2:=fun K=>by
  simp [JA,l1,z1,m1,x1,t1,-aD,-cn,-aP,-frz]
 have k5:∀K,run (ac GS fs6) 50 (.code Kz :: K) [.undef,.ptr 1 0 0,.undef,.undef,.ptr 16 0 0,.undef,.undef,.undef,.undef] y2=run (ac GS fs6) 50 K [.undef,.ptr 1 0 0,.undef,.undef,.ptr 16 0 0,.ptr 17 0 0,.undef,.undef,.undef] y3:=fun K=>by kernel_rfl
 have l2:aD true 6 y3 (.ptr 17 0 0)=some (aI vY):=rfl
 have s1:bh 6 [aI vY] y3=some (.sl 18 0 1,y4):=rfl
 have fi:nw [.int .i64 0,.int .i64 0,.int .i64 0,.nilS,.nilS] [(1,1,.int .i64 1),(2,1,.int .i64 5),(3,1,.sl 18 0 1)]=some [.int .i64 0,.int .i64 1,.int .i64 5,.sl 18 0 1,.nilS]:=rfl
 have z2:frz y4 4 (.agg [.int .i64 0,.int .i64 1,.int .i64 5,.sl 18 0 1,.nilS])=ax pl6 (.fs 6 [aI vY]) .nilS:=rfl
 have m2:=NN
 have x2:cn 5 (.agg [.nilS,.nilS,.int .i64 0,.int .i64 0,.int .i64 0]) y4=some (.ptr 19 0 0,y4++[.row 5 false [.agg [.nilS,.nilS,.int .i64 0,.int .i64 0,.int .i64 0]]]):=rfl
 have t2:aP 5 (y4++[.row 5 false [.agg [.nilS,.nilS,.int .i64 0,.int .i64 0,.int .i64 0]]]) (.ptr 19 0 0) (.agg [.undef,.undef,.undef,.undef,.undef])=some y5:=rfl
 have k6:∀K,run (ac GS fs6) 50 (.code Jz :: K) [.undef,.ptr 1 0 0,.undef,.undef,.ptr 16 0 0,.ptr 17 0 0,.undef,.undef,.undef] y3=run (ac GS fs6) 50 K [.undef,.ptr 1 0 0,.undef,.undef,.ptr 16 0 0,.ptr 17 0 0,.bool true,.undef,.undef] y5:=fun K=>by
  simp [Jz,l2,s1,fi,z2,m2,x2,t2,-aD,-cn,-aP,-frz,-bh,-nw]
 have k7:∀K,run (ac GS fs6) 50 (.code Ky :: K) [.undef,.ptr 1 0 0,.undef,.undef,.ptr 16 0 0,.ptr 17 0 0,.bool true,.undef,.undef] y5=run (ac GS fs6) 50 K [.bool true,.ptr 1 0 0,.undef,.undef,.ptr 16 0 0,.ptr 17 0 0,.bool true,.undef,.undef] y5:=fun K=>by kernel_rfl
 unfold M6
 rw [aZ _ _ rfl,Gb]
 show (match run (ac GS fs6) 50 [.code (.seq KD (.seq KB (.seq KA (.seq JA (.seq Kz (.seq Jz (.seq Ky Kx)))))))] [.undef,.undef,.undef,.undef,.undef,.undef,.undef,.undef,.undef] [] with
  | some (.normal σ A')=>(dh A' σ [.tmp 0]).map fun l=>frz A' 1 (nh l)
  | some (.ret σ A')=>(dh A' σ [.tmp 0]).map fun l=>frz A' 1 (nh l)
  | _=>none)=_
 rw [aQ,k1,aQ,k2,aQ,k3,aQ,k4,aQ,k5,aQ,k6,aQ,k7]
 unfold Kx
 rw [ua]
 rfl
end Sh
namespace Sh
theorem Fh:∀f M,aR (fs3 M6) f=some M->au Tryz.prog GS f M:=ag (au.of_pure KI 4) (ag KH (ag KG (ag (au.of_pureF ES 4) (ag Fg (ag (au.of_pureF At 4) (ag (au.of_pureF tV 4) an))))))
theorem oI {x:AV} {n:Nat} (h:TA Tryz.prog (n+2) 23 x):∃q:fO,x=cB q/\q.ok:=by
 obtain ⟨ls,rfl,hc,hl⟩:=TA.agg (show qt Tryz.prog 23=true by kernel_rfl) h
 simp only [TC,Tryz.underlying23] at hc
 rw [show Tryz.prog.cellsOf 3=1 by kernel_rfl] at hc
 simp only [TCa,Tryz.underlying3] at hc
 obtain ⟨_,_,rfl,⟨a,rfl,ha⟩,_,_,_,rfl,⟨b,rfl,hb⟩,_,_,_,rfl,⟨c,rfl,hc⟩,_,_,_,rfl,⟨d,rfl,hd⟩,_,rfl⟩:=hc
 exact ⟨⟨a,b,c,d⟩,rfl,ha,hb,hc,hd⟩
theorem xa {x:AV} {n:Nat} (h:TA Tryz.prog (n+2) 111 x):∃y:Int × Int,x=cg y/\inI y.1/\inI y.2:=by
 obtain ⟨ls,rfl,hc,hl⟩:=TA.agg (show qt Tryz.prog 111=true by kernel_rfl) h
 simp only [TC,Tryz.underlying111] at hc
 rw [show Tryz.prog.cellsOf 3=1 by kernel_rfl] at hc
 simp only [TCa,Tryz.underlying3] at hc
 obtain ⟨_,_,rfl,⟨a,rfl,ha⟩,_,_,_,rfl,⟨b,rfl,hb⟩,_,rfl⟩:=hc
 exact ⟨(a,b),rfl,ha,hb⟩
theorem lT {raw:AV} {n:Nat} (h:TA Tryz.prog (n+3) 22 raw):∃ys:List fO,SlA 4 (ys.map cB) raw/\(∀y∈ys,y.ok)/\ys.length<=9223372036854775807:=by
 obtain ⟨es,h1,h2,h3⟩:=TA.sl Tryz.underlying22 h
 rw [show Tryz.prog.cellsOf 23=4 by kernel_rfl] at h1
 obtain ⟨ys,rfl,hy⟩:=e9 (f:=cB) (p:=fun y=>y.ok) fun x hx=>oI (n:=n) (h3 x hx)
 exact ⟨ys,h1,hy,by simpa using h2⟩
theorem lV {raw:AV} {n:Nat} (h:TA Tryz.prog (n+3) 24 raw):∃ys:List (Int × Int),SlA 2 (ys.map cg) raw/\(∀y∈ys,inI y.1/\inI y.2)/\ys.length<=9223372036854775807:=by
 obtain ⟨es,h1,h2,h3⟩:=TA.sl Tryz.underlying24 h
 rw [show Tryz.prog.cellsOf 111=2 by kernel_rfl] at h1
 obtain ⟨ys,rfl,hy⟩:=e9 (f:=cg) (p:=fun y=>inI y.1/\inI y.2) fun x hx=>xa (n:=n) (h3 x hx)
 exact ⟨ys,h1,hy,by simpa using h2⟩
theorem ownK:ownKnob Tryz.prog.godebug=none:=by kernel_rfl
theorem LB {W:World} {OK:Nat->Prop}:vV GS W OK:=fun gl cs h=>by cases h
def mp (os:Os):World:=World.holding Tryz.prog os ⟨#[],#[],[]⟩
theorem ev3L (args:List AV) (h:eE Tryz.prog 8 Tryz.f3.params.toList args):∃fuel,evP (ac GS (fs3 M6)) fuel mf3 10 args=some (.bool true):=by
 rw [Tryz.params3] at h
 obtain ⟨a0,r,rfl,t0,h⟩:=h.cons
 obtain ⟨a1,r,rfl,t1,h⟩:=h.cons
 obtain ⟨a2,r,rfl,t2,h⟩:=h.cons
 obtain ⟨a3,r,rfl,t3,h⟩:=h.cons
 obtain ⟨a4,r,rfl,t4,h⟩:=h.cons
 obtain ⟨a5,r,rfl,t5,h⟩:=h.cons
 obtain ⟨a6,r,rfl,t6,h⟩:=h.cons
 obtain ⟨a7,r,rfl,t7,h⟩:=h.cons
 obtain ⟨a8,r,rfl,t8,h⟩:=h.cons
 obtain ⟨a9,r,rfl,t9,h⟩:=h.cons
 obtain rfl:=h.nil
 obtain ⟨bk,h0,k0,_⟩:=lT (n:=5) t0
 obtain ⟨n,rfl,hn⟩:=oI (n:=6) t1
 obtain ⟨nd,h2,k2,l2⟩:=lT (n:=5) t2
 obtain ⟨wl,h3,k3,l3⟩:=lV (n:=5) t3
 obtain ⟨m,rfl,hm⟩:=oI (n:=6) t4
 obtain ⟨more,h5,k5,l5⟩:=lT (n:=5) t5
 obtain ⟨y,h6,k6,l6⟩:=lV (n:=5) t6
 obtain ⟨z,h7,k7,l7⟩:=lV (n:=5) t7
 obtain ⟨tl,rfl,htl⟩:=TA.i64 Tryz.underlying3 t8
 obtain ⟨ti,rfl,hti⟩:=TA.i64 Tryz.underlying3 t9
 exact ⟨50,ev3 D0 h0 k0 hn h2 k2 l2 h3 k3 l3 hm h5 k5 l5 h6 k6 l6 h7 k7 l7 htl hti⟩
end Sh
end Go.Proofs.YtfkcoekicjjndaaGreat
