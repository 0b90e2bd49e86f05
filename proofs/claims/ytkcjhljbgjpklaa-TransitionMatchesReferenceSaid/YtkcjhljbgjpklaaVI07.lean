import Derived.Test.YtkcjhljbgjpklaaVI06
import Derived.Test.YtkcjhljbgjpklaaVI05
set_option maxRecDepth 100000
set_option maxHeartbeats 4000000
noncomputable section
namespace Go.Proofs.Ytkcjhljbgjpklaa
variable {A X:ac} {j i n k bi n0 r:Nat} {rd o:List Int} {a v rdv tv b chv:AV} {e:Ent} {free q:Int} {xs:List Bool} {es:List AV} {Hd:ac->List Int->ac} {g:Bool}
namespace Tr
open Go
open Cy (GC iO dw bY cd cP aM bc aA)
open Clu (aT aY aZ bD bA)
def aO (b:List Bool):List AV:=b.map .bool
theorem cQ (b:List Bool):(aO b).length=b.length:=by simp [aO]
def M80:aU:=fun args=>evP (aw GC []) 300 Mv 1 args
theorem Jg:ax Try.prog GC 80 M80:=ax.of_ev (E:=aw GC []) (ay aB) rfl at80 KU 1 fun _ _ h=>⟨300,h⟩
def isB (v x:Bool):Bool:=v == x
theorem wM (hb:SlA 1 (aO xs) b) (hi:i<xs.length) (k:IntKind):ae 1 A b (.int k (i:Int))=some (.fp [.bool xs[i]]):=
 hb.index1 (x:=.bool xs[i]) (by simp [aO,hi]) rfl rfl k
theorem LV (hb:SlA 1 (aO xs) b) (hl:xs.length<=200) (v:Bool):M80 [b,.bool v]=some (.int .i64 (dw (isB v) xs)):=by
 have hlen:=hb.len
 rw [cQ] at hlen
 have round:∀(A:ac) (i:Nat) (hi:i<xs.length),run (aw GC []) 300 [.code lV] (nz b (.bool v) (.int .i64 (xs.length:Int)) (.int .i64 (i:Int))) A =
   if isB v xs[i]=false then some (.normal (nz b (.bool v) (.int .i64 (xs.length:Int)) (.int .i64 ((i+1:Nat):Int))) A) else some (.ret [b,.bool v,.int .i64 (i:Int),.int .i64 (i:Int),.int .i64 (xs.length:Int),.int .i64 (i:Int),.bool true,.bool true] A):=fun A i hi=>by
  have x1:=wM hb (A:=A) hi .i64
  have b1:=a9 i xs.length .i64
  rw [RE hi] at b1
  have b3:=aV i (by omega)
  obtain ⟨i1,hi1⟩:∃i1:Nat,i1=i+1:=⟨_,rfl⟩
  rw [<-hi1] at b3 ⊢
  generalize xs[i]=x at *
  cases v <;> cases x <;> simp [lV,isB,x1,b1,b3,-ag,-ae,-aq]
 unfold M80
 rw [aN _ _ rfl]
 rcases cY (E:=aw GC []) (fuel:=300) (a:=lV) (mask:=jv) (fun i=>nz b (.bool v) (.int .i64 (xs.length:Int)) (.int .i64 (i:Int))) (fun _=>[]) xs.length (fun i=>¬ ∀hi:i<xs.length,isB v xs[i]=false)
  (oF:=fun i=>.ret [b,.bool v,.int .i64 (i:Int),.int .i64 (i:Int),.int .i64 (xs.length:Int),.int .i64 (i:Int),.bool true,.bool true] []) (oE:=.exit 0 ((nz b (.bool v) (.int .i64 (xs.length:Int)) (.int .i64 (xs.length:Int))).set 6 (.bool false)) [])
  (fun _=>FN) (fun _ _ _ h=>by cases h) (fun _ _ h=>by cases h)
  (fun i hi hp=>by
   rw [round [] i hi]
   exact RH (R7.1 hp hi))
  (fun i hi hp=>by
   rw [round [] i hi]
   exact RK fun h=>hp fun _=>h)
  (by simp [lV]) (show xs.length<300 by omega) with ⟨i,hi,hp,hj,lp⟩ | ⟨hp,lp⟩
 ·have lp:bM (evC (aw GC []) 300 lV) jv 300 (nz b (.bool v) (.int .i64 (xs.length:Int)) (.int .i64 0)) []=_:=lp
  have e:dw (isB v) xs=(i:Int):=bY hi (by
   cases h':isB v xs[i] with
   | true=>rfl
   | false=>exact absurd (fun _=>h') hp) (fun j hj'=>R7.1 (hj j hj') (by omega))
  rw [e]
  simp [Mv,hlen,Fd lp,-ag,-aq]
 ·have lp:bM (evC (aw GC []) 300 lV) jv 300 (nz b (.bool v) (.int .i64 (xs.length:Int)) (.int .i64 0)) []=_:=lp
  have e:dw (isB v) xs = -1:=cd fun i hi=>R7.1 (hp i hi) hi
  rw [e]
  simp [Mv,hlen,Fd lp,-ag,-aq]
def NO:List (FuncId × aJ):=[(80,aG 4 M80)]
@[simp] theorem NN:aE NO 80=some (aG 4 M80):=rfl
def M58:aU:=fun args=>evP (aw GC NO) 0 Np 1 args
theorem Jp:ax Try.prog GC 58 M58:=ax.of_ev (E:=aw GC NO) (ay (ai (au.of_pure Jg 4) aB)) rfl at58 K7 1 fun _ _ h=>⟨0,h⟩
theorem F8 (hb:SlA 1 (aO xs) b) (hl:xs.length<=200):M58 [b,.bool true]=some (.bool (xs.any id)):=by
 have m1:=LV hb hl true
 have b1:=iO (dw (isB true) xs)
 rw [cP] at b1
 have e:xs.any (isB true)=xs.any id:=by
  congr 1; funext x; cases x <;> rfl
 rw [e] at b1
 have f1:∀A n,frz A n b=b:=fun A n=>hb.frz n
 obtain ⟨z,hz⟩:∃z,z=dw (isB true) xs:=⟨_,rfl⟩
 rw [<-hz] at m1 b1
 unfold M58
 rw [aN _ _ rfl]
 simp [Np,f1,m1,b1,bc,bH,-ag,-frz]
theorem ev59 (E:Env) (fuel:Nat) (h:de A 1 a es) (hne:es≠[]) (hl:es.length<=1000):cc E fuel JX [a] A=some (.sl (A.length+1) 0 es.length,A++[.dead,.row 1 false es]):=by
 rw [bh _ _ rfl]
 have hb:es.length*1<=140737488355328:=by omega
 have hb':es.length<=140737488355328:=by omega
 rcases h with h | ⟨id,off,gr,rs,rfl,h1,h2⟩
 ·rcases h with ⟨_,h⟩ | rfl
  ·exact absurd h hne
  ·simp [JX,dE,aR,a8,hb']
 ·have hid:=(Rv.1 h1).1
  have h1':∀T,(A++T)[id]?=some (.row 1 gr rs):=fun T=>by rw [RC hid,h1]
  simp [JX,dE,aR,a8,h1',h2,hb']
def H59:aJ:=fun _=>cc (aw GC []) 0 JX
theorem Jo:au Try.prog GC 59 H59:=(b7 (ay aB) rfl at59 K6 bG.nil).y
theorem Mj (h:be) (ha:de A 1 a (aO xs)) (hne:xs≠[]) (hl:xs.length<=1000):H59 h [a] A=some (.sl (A.length+1) 0 xs.length,A++[.dead,.row 1 false (aO xs)]):=by
 have:=ev59 (aw GC []) 0 ha (fun e=>hne (Tw.1 e)) (by rw [cQ]; exact hl)
 rw [cQ] at this
 exact this
def clR (done:List Int):ac:=if done=[] then [] else [.dead,.row 1 false (aj done)]
def clV (n:Nat) (done:List Int):AV:=if done=[] then .nilS else .sl (n+1) 0 done.length
def apR (done:List Int) (k:Nat):ac:=if done=[] then [.row 1 false (aj [(k:Int)+1])] else [.dead,.dead,.row 1 false (aj (done++[(k:Int)+1]))]
def apV (n:Nat) (done:List Int):AV:=if done=[] then .sl n 0 1 else .sl (n+2) 0 (done.length+1)
def gH (b:List Bool) (done:List Int) (k:Nat):ac:=[.dead,.row 1 false (aO (mvB b k))]++apR done k
def F57 (Hd:ac->List Int->ac):Nat->List Bool->List Int->ac->ac
 | 0,b,done,X=>if b.any id then X else Hd (X++clR done) done
 | d+1,b,done,X=>if b.any id then (List.range b.length).foldl (fun X k=>if gZ b k then F57 Hd d (mvB b k) (done++[(k:Int)+1]) (X++gH b done k) else X) X else Hd (X++clR done) done
def kY (pb pe pf:Nat) (X Y:ac):Prop:=X.length<=Y.length/\∀j,j<X.length->j≠pb->j≠pe->j≠pf->Y[j]?=X[j]?
section
variable {pb pe pf:Nat} {X Y Z:ac}
theorem kY.refl:kY pb pe pf X X:=⟨RR _,fun _ _ _ _ _=>rfl⟩
theorem kY.trans (h:kY pb pe pf X Y) (k:kY pb pe pf Y Z):kY pb pe pf X Z:=⟨ST h.1 k.1,fun j h1 h2 h3 h4=>by rw [k.2 j (by have:=h.1; omega) h2 h3 h4,h.2 j h1 h2 h3 h4]⟩
theorem kY.app (X W:ac):kY pb pe pf X (X++W):=⟨by simp,fun j h _ _ _=>by rw [RC h]⟩
end
theorem t8 {pb pe pf:Nat} (h:∀X o,kY pb pe pf X (Hd X o)):∀(d:Nat) (b:List Bool) (done:List Int) (X:ac),kY pb pe pf X (F57 Hd d b done X)
 | 0,b,done,X=>by
  unfold F57
  split
  ·exact kY.refl
  ·exact (kY.app _ _).trans (h _ _)
 | d+1,b,done,X=>by
  unfold F57
  split
  ·have:∀(l:List Nat) (X:ac),kY pb pe pf X (l.foldl (fun X k=>if gZ b k then F57 Hd d (mvB b k) (done++[(k:Int)+1]) (X++gH b done k) else X) X):=by
    intro l
    induction l with
    | nil=>intro X; exact kY.refl
    | cons k l ih=>
     intro X
     rw [Sj]
     refine kY.trans ?_ (ih _)
     split
     ·exact (kY.app _ _).trans (t8 h d _ _ _)
     ·exact kY.refl
   exact this _ _
  ·exact (kY.app _ _).trans (h _ _)
theorem C8 (hl:∀X o,X.length<=(Hd X o).length) (h:∀X o,j<X.length->(Hd X o).set j e=Hd (X.set j e) o):∀(d:Nat) (b:List Bool) (done:List Int) (X:ac),j<X.length->X.length<=(F57 Hd d b done X).length/\(F57 Hd d b done X).set j e=F57 Hd d b done (X.set j e)
 | 0,b,done,X,hj=>by
  unfold F57
  split
  ·exact ⟨RR _,rfl⟩
  ·refine ⟨ST (by simp) (hl _ _),?_⟩
   rw [h _ _ (by simp; omega),Th _ _ hj]
 | d+1,b,done,X,hj=>by
  unfold F57
  split
  ·have:∀(l:List Nat) (X:ac),j<X.length->X.length<=(l.foldl (fun X k=>if gZ b k then F57 Hd d (mvB b k) (done++[(k:Int)+1]) (X++gH b done k) else X) X).length/\(l.foldl (fun X k=>if gZ b k then F57 Hd d (mvB b k) (done++[(k:Int)+1]) (X++gH b done k) else X) X).set j e=l.foldl (fun X k=>if gZ b k then F57 Hd d (mvB b k) (done++[(k:Int)+1]) (X++gH b done k) else X) (X.set j e):=by
    intro l
    induction l with
    | nil=>intro X hj; exact ⟨RR _,rfl⟩
    | cons k l ih=>
     intro X hj
     rw [Sj,Sj]
     cases hc:gZ b k with
     | false=>exact ih X hj
     | true=>
      simp only [SX]
      obtain ⟨h1,h2⟩:=C8 hl h d (mvB b k) (done++[(k:Int)+1]) (X++gH b done k) (by simp; omega)
      have hle:X.length<=(X++gH b done k).length:=by simp
      obtain ⟨h3,h4⟩:=ih (F57 Hd d (mvB b k) (done++[(k:Int)+1]) (X++gH b done k)) (by omega)
      refine ⟨by omega,?_⟩
      rw [h4,h2,Th _ _ hj]
   exact this _ _ hj
  ·refine ⟨ST (by simp) (hl _ _),?_⟩
   rw [h _ _ (by simp; omega),Th _ _ hj]
theorem xf {S:Type} {R:ac->S->Prop} {st:S->List Int->S} {E:List Int->Prop} (hW:∀X W s,R X s->R (X++W) s) (h:∀X s o,E o->R X s->R (Hd X o) (st s o)):∀(d:Nat) (b:List Bool) (done:List Int) (X:ac) (s:S),mB b<=d->(∀r,Emp b r->E (done++r))->R X s ->
  R (F57 Hd d b done X) (((gF d b).map (done ++ ·)).foldl st s)
 | 0,b,done,X,s,hd,hE,hR=>by
  have ha:=qd b (by omega)
  unfold F57 gF
  rw [ha]
  have:=hE [] ha
  rw [Sk] at this
  simpa using h _ s done this (hW _ _ _ hR)
 | d+1,b,done,X,s,hd,hE,hR=>by
  unfold F57 gF
  cases ha:b.any id with
  | false=>
   have:=hE [] ha
   rw [Sk] at this
   simpa using h _ s done this (hW _ _ _ hR)
  | true=>
   simp only [SX]
   have:∀(l:List Nat) (X:ac) (s:S),(∀k∈l,k<b.length)->R X s->R (l.foldl (fun X k=>if gZ b k then F57 Hd d (mvB b k) (done++[(k:Int)+1]) (X++gH b done k) else X) X)
     (((l.flatMap fun k=>if gZ b k then (gF d (mvB b k)).map (((k:Int)+1) :: ·) else []).map (done ++ ·)).foldl st s):=by
    intro l
    induction l with
    | nil=>intro X s _ hR; exact hR
    | cons k l ih=>
     intro X s hk hR
     rw [Sj,TQ,SH,List.foldl_append]
     refine ih _ _ (fun j hj=>hk j (SK _ hj)) ?_
     have hkl:=hk k To
     cases hc:gZ b k with
     | false=>simpa using hR
     | true=>
      simp only [SX,Tc]
      have hm:=wG hkl hc
      have:=xf hW h d (mvB b k) (done++[(k:Int)+1]) (X++gH b done k) s (by omega) (fun r hr=>by
       rw [R1]
       exact hE _ ⟨k,rfl,hkl,hc,hr⟩) (hW _ _ _ hR)
      have e:((done++[(k:Int)+1]) ++ ·)=(fun x=>done++x) ∘ (((k:Int)+1) :: ·):=by
       funext r; simp
      rw [<-e]
      exact this
   exact this _ _ _ (fun k hk=>SI.1 hk) hR
end Tr
namespace Tr
open Go
open Cy (GC aM bc aA)
open Clu (aT aY af chA aZ bD bA)
theorem r7 {P:Program} {w w':World} {t e ty:TypeId} {i:TypeInfo} {z:Value} (ht:P.underlying t=some (.slice e)) (hi:P.info? e=some i) (hz:i.zero=some z) {b o len cap:Nat} (hl:0<len) (hst:(storeCells ⟨b,o,none⟩ (Builtin.zeroCells z.cells len).toList).run P w=.ok () w') :
  (Builtin.clear_ #[t] ty #[.slice (some ⟨b,o,none⟩) len cap]).run P w=.ok (.tuple #[]) w':=by
 obtain ⟨m,rfl⟩:∃m,len=m+1:=⟨len-1,by omega⟩
 simp only [Builtin.clear_,Sem.run_bind,ak ht,Result.andThen_ok,S9,Sz]
 rw [cj hi hz]
 simp only [Result.andThen_ok,hst]
 rfl
theorem lg (z:Array Value):(Builtin.zeroCells z 1).toList=z.toList:=by
 apply SO
 ·simp [Builtin.zeroCells]
 ·intro i h1 h2
  have:i<z.size:=by simpa using h2
  simp [Builtin.zeroCells,Nat.mod_eq_of_lt this]
  exact getElem!_pos z i this
def Da:AV:=.agg [.int .i64 0,.int .i64 0]
theorem I4:((Try.prog.info? 51).bind fun i=>i.zero.map fun z=>(ofValue z,z.cells.size,i.size))=some (some Da,2,2):=by kernel_rfl
def H53:aJ:=fun _ args A=>match args with
 | [.sl id 0 n,.int .i64 i,.int .i64 j]=>match A[id]? with
  | some (.row 2 false es)=>if n=es.length/\0<=i/\j=i+1/\j<=n then some (.sl id 0 (n-1),A.set id (.row 2 false (rC es i.toNat Da))) else none
  | _=>none
 | _=>none
theorem Jt:au Try.prog GC 53 H53:=by
 have hen:au Try.prog GC 53 (fun h=>cc (dX GC [] h) 0 QN):=cC aB at53 Lb bG.nil
 refine ⟨hen.1,fun ys h hs args A r A' he w OK g vs hA hI hl=>?_⟩
 unfold H53 at he
 split at he
 ·rename_i id n i j
  split at he
  ·rename_i es hid
   simp only [Ry,Rz,RQ] at he
   obtain ⟨⟨hn,hi0,hj,hjn⟩,rfl,rfl⟩:=he
   subst hn hj
   match vs,hl with
   | [v1,v2,v3],hl=>
    obtain ⟨h1,h2,h3,_⟩:=hl
    obtain rfl:=h2.inv_int
    obtain rfl:=h3.inv_int
    obtain ⟨inc,cap,ao,hinc,rfl,hl',hn,hcap,ha⟩:=h1.inv_sl
    obtain ⟨k,rfl⟩:∃k:Nat,i=(k:Int):=⟨i.toNat,by omega⟩
    have hk:k<es.length:=by omega
    obtain ⟨i0,z,hi,hz,hza,hzc,hisz⟩:∃i0 z,Try.prog.info? 51=some i0/\i0.zero=some z/\ofValue z=some Da/\z.cells.size=2/\i0.size=2:=by
     have h:=I4
     cases e:Try.prog.info? 51 with
     | none=>rw [e] at h; cases h
     | some i0=>
      rw [e] at h
      cases e2:i0.zero with
      | none=>rw [Sn,e2] at h; cases h
      | some z=>
       rw [Sn,e2] at h
       injection h with h
       injection h with h1 h2
       injection h2 with h2 h3
       exact ⟨i0,z,rfl,e2,h1,h2,h3⟩
    have hzr:∀(w:World) (OK:Nat->Prop) (g:aC),aW w OK g z Da:=fun w OK g=>dU hza
    obtain ⟨_,hok,_⟩:=(hzr w OK g).cells (show Da.solid=true from rfl)
    have hAd:cq w.drew OK g A:=hA.drew (w.drawn+1)
    obtain ⟨hesz,hnn,c,T,fz,hh,hu,hle,hnews,hR,hE⟩:=BF hAd hid hinc hk (by omega) hzr hzc hok
    have hao:ao=inc.o:=by
     have:=ha (by omega)
     omega
    subst hao
    obtain ⟨m1,m2,m3⟩:=iZ (n:=es.length) (sz:=2) hk
    have hnl:=lD (c:=c) (o:=inc.o) (sz:=2) hk hle
    obtain ⟨k1,k2⟩:=pg (c:=c) (o:=inc.o) (sz:=2) hk hle
    have hzl:z.cells.toList.length=2:=by rw [Sf,hzc]
    obtain ⟨k3,k4⟩:=tV (c:=c) (o:=inc.o) (sz:=2) (zs:=z.cells.toList) hk hle hzl
    have hW:=vy Try.prog hh hu (iM c inc.o 2 es.length k) k2 hnews
    have hh1:=setRow_heap w.drew inc.b c (c1C c inc.o 2 es.length k) T fz hh
    have hu1:eP (c1C c inc.o 2 es.length k) fz:=bX hu _ _ k2
    obtain ⟨ad,had⟩:∃ad,(if cap=k+1 then some (⟨inc.b,inc.o,none⟩:Addr) else some ⟨inc.b,inc.o+(k+1)*2,none⟩)=some ad:=by
     split
     ·exact ⟨_,rfl⟩
     ·exact ⟨_,rfl⟩
    have s0:∀t u,(iM c inc.o 2 es.length k)[t]?=some u->w.drew.cell? (ad.add t)=some u:=by
     intro t u htu
     have ht:=(Rv.1 htu).1
     rw [lE _ (by omega)] at htu
     split at had
     ·exfalso
      have h0:es.length-(k+1)=0:=by omega
      rw [hnl,h0,T9] at ht
      exact absurd ht (Tx _)
     ·have had':=Td had
      rw [<-had',cZ,jp hh,<-htu]
      skip
    have s3:∀t,t<(iM c inc.o 2 es.length k).length->(w.drew.cell? ⟨inc.b,inc.o+k*2+t,none⟩).isSome=true/\w.drew.frozen? ⟨inc.b,inc.o+k*2+t,none⟩=false:=by
     intro t ht
     refine ⟨?_,?_⟩
     ·rw [jp hh,R9 (by omega)]; rfl
     ·have:=hu (inc.o+k*2+t) (by omega)
      unfold World.frozen?
      rw [hh]
      exact this
    have hst:=b8 Try.prog inc.b (inc.o+(es.length-1)*2) T fz z.cells.toList 0 _ _ hh1 hu1 (by omega) hok
    have hlast:k+(es.length-(k+1))=es.length-1:=by omega
    have hcl:∀ty,(Builtin.clear_ #[22] ty #[.slice (some ⟨inc.b,inc.o+(k+(es.length-(k+1)))*2,none⟩) (es.length-(k+(es.length-(k+1)))) (cap-(k+(es.length-(k+1))))]).run Try.prog (w.drew.setRow inc.b (c1C c inc.o 2 es.length k))=.ok (.tuple #[]) ((w.drew.setRow inc.b (c1C c inc.o 2 es.length k)).setRow inc.b (c2C c inc.o 2 es.length k z.cells.toList)):=fun ty=>by
     rw [hlast,show es.length-(es.length-1)=1 by omega]
     refine r7 Try.underlying22 hi hz (by omega) ?_
     rw [lg]
     skip
     rw [hst]
     unfold c2C
     rfl
    refine (I7 inc.b inc.o es.length cap k (k+1) w ad (iM c inc.o 2 es.length k) (by omega) (by omega) (by omega) had (by omega) s0 hnews s3 _ _ hW.symm hcl).mono ?_
    rintro e w' ⟨rfl,rfl⟩
    refine ⟨_,OK,g,rfl,?_,hR,(Ext.drew w OK g (w.drawn+1)).trans hE⟩
    rw [hlast]
    exact .sl _ id 0 (es.length-1) cap inc.o inc hinc (by omega) (by omega) hcap (fun h=>by simp)
  ·cases he
 ·cases he
def Dm:AV:=.int .i64 0
theorem I3:((Try.prog.info? 3).bind fun i=>i.zero.map fun z=>(ofValue z,z.cells.size,i.size))=some (some Dm,1,1):=by kernel_rfl
def H55:aJ:=fun _ args A=>match args with
 | [.sl id 0 n,.int .i64 i,.int .i64 j]=>match A[id]? with
  | some (.row 1 false es)=>if n=es.length/\0<=i/\j=i+1/\j<=n then some (.sl id 0 (n-1),A.set id (.row 1 false (rC es i.toNat Dm))) else none
  | _=>none
 | _=>none
theorem Jr:au Try.prog GC 55 H55:=by
 have hen:au Try.prog GC 55 (fun h=>cc (dX GC [] h) 0 QM):=cC aB at55 K9 bG.nil
 refine ⟨hen.1,fun ys h hs args A r A' he w OK g vs hA hI hl=>?_⟩
 unfold H55 at he
 split at he
 ·rename_i id n i j
  split at he
  ·rename_i es hid
   simp only [Ry,Rz,RQ] at he
   obtain ⟨⟨hn,hi0,hj,hjn⟩,rfl,rfl⟩:=he
   subst hn hj
   match vs,hl with
   | [v1,v2,v3],hl=>
    obtain ⟨h1,h2,h3,_⟩:=hl
    obtain rfl:=h2.inv_int
    obtain rfl:=h3.inv_int
    obtain ⟨inc,cap,ao,hinc,rfl,hl',hn,hcap,ha⟩:=h1.inv_sl
    obtain ⟨k,rfl⟩:∃k:Nat,i=(k:Int):=⟨i.toNat,by omega⟩
    have hk:k<es.length:=by omega
    obtain ⟨i0,z,hi,hz,hza,hzc,hisz⟩:∃i0 z,Try.prog.info? 3=some i0/\i0.zero=some z/\ofValue z=some Dm/\z.cells.size=1/\i0.size=1:=by
     have h:=I3
     cases e:Try.prog.info? 3 with
     | none=>rw [e] at h; cases h
     | some i0=>
      rw [e] at h
      cases e2:i0.zero with
      | none=>rw [Sn,e2] at h; cases h
      | some z=>
       rw [Sn,e2] at h
       injection h with h
       injection h with h1 h2
       injection h2 with h2 h3
       exact ⟨i0,z,rfl,e2,h1,h2,h3⟩
    have hzr:∀(w:World) (OK:Nat->Prop) (g:aC),aW w OK g z Dm:=fun w OK g=>dU hza
    obtain ⟨_,hok,_⟩:=(hzr w OK g).cells (show Dm.solid=true from rfl)
    have hAd:cq w.drew OK g A:=hA.drew (w.drawn+1)
    obtain ⟨hesz,hnn,c,T,fz,hh,hu,hle,hnews,hR,hE⟩:=BF hAd hid hinc hk (by omega) hzr hzc hok
    have hao:ao=inc.o:=by
     have:=ha (by omega)
     omega
    subst hao
    obtain ⟨m1,m2,m3⟩:=iZ (n:=es.length) (sz:=1) hk
    have hnl:=lD (c:=c) (o:=inc.o) (sz:=1) hk hle
    obtain ⟨k1,k2⟩:=pg (c:=c) (o:=inc.o) (sz:=1) hk hle
    have hzl:z.cells.toList.length=1:=by rw [Sf,hzc]
    obtain ⟨k3,k4⟩:=tV (c:=c) (o:=inc.o) (sz:=1) (zs:=z.cells.toList) hk hle hzl
    have hW:=vy Try.prog hh hu (iM c inc.o 1 es.length k) k2 hnews
    have hh1:=setRow_heap w.drew inc.b c (c1C c inc.o 1 es.length k) T fz hh
    have hu1:eP (c1C c inc.o 1 es.length k) fz:=bX hu _ _ k2
    obtain ⟨ad,had⟩:∃ad,(if cap=k+1 then some (⟨inc.b,inc.o,none⟩:Addr) else some ⟨inc.b,inc.o+(k+1),none⟩)=some ad:=by
     split
     ·exact ⟨_,rfl⟩
     ·exact ⟨_,rfl⟩
    have s0:∀t u,(iM c inc.o 1 es.length k)[t]?=some u->w.drew.cell? (ad.add t)=some u:=by
     intro t u htu
     have ht:=(Rv.1 htu).1
     rw [lE _ (by omega)] at htu
     split at had
     ·exfalso
      have h0:es.length-(k+1)=0:=by omega
      rw [hnl,h0,T9] at ht
      exact absurd ht (Tx _)
     ·have had':=Td had
      rw [<-had',cZ,jp hh,<-htu]
      rw [show inc.o+(k+1)+t=inc.o+(k+1)*1+t by omega]
    have s3:∀t,t<(iM c inc.o 1 es.length k).length->(w.drew.cell? ⟨inc.b,inc.o+k*1+t,none⟩).isSome=true/\w.drew.frozen? ⟨inc.b,inc.o+k*1+t,none⟩=false:=by
     intro t ht
     refine ⟨?_,?_⟩
     ·rw [jp hh,R9 (by omega)]; rfl
     ·have:=hu (inc.o+k*1+t) (by omega)
      unfold World.frozen?
      rw [hh]
      exact this
    have hst:=b8 Try.prog inc.b (inc.o+(es.length-1)*1) T fz z.cells.toList 0 _ _ hh1 hu1 (by omega) hok
    have hlast:k+(es.length-(k+1))=es.length-1:=by omega
    have hcl:∀ty,(Builtin.clear_ #[25] ty #[.slice (some ⟨inc.b,inc.o+(k+(es.length-(k+1))),none⟩) (es.length-(k+(es.length-(k+1)))) (cap-(k+(es.length-(k+1))))]).run Try.prog (w.drew.setRow inc.b (c1C c inc.o 1 es.length k))=.ok (.tuple #[]) ((w.drew.setRow inc.b (c1C c inc.o 1 es.length k)).setRow inc.b (c2C c inc.o 1 es.length k z.cells.toList)):=fun ty=>by
     rw [hlast,show es.length-(es.length-1)=1 by omega]
     refine r7 Try.underlying25 hi hz (by omega) ?_
     rw [lg]
     rw [T7] at hst
     rw [hst]
     unfold c2C
     rw [T7]; rfl
    refine (I6 inc.b inc.o es.length cap k (k+1) w ad (iM c inc.o 1 es.length k) (by omega) (by omega) (by omega) had (by omega) s0 hnews s3 _ _ hW.symm hcl).mono ?_
    rintro e w' ⟨rfl,rfl⟩
    refine ⟨_,OK,g,rfl,?_,hR,(Ext.drew w OK g (w.drawn+1)).trans hE⟩
    rw [hlast]
    exact .sl _ id 0 (es.length-1) cap inc.o inc hinc (by omega) (by omega) hcap (fun h=>by simp)
  ·cases he
 ·cases he
end Tr
namespace Tr
open Go
open Cy (GC iO aM bc aA)
open Clu (aT aY aZ bD bA)
section
variable {A:ac} {id:Nat} {xs:List Bool}
theorem m7 (h:A[id]?=some (.row 1 g (aO xs))) (hk:k<xs.length):ab false 1 A (.ptr id k 0)=some (.bool (xs.getD k false)):=by
 have e:(aO xs)[k]?=some (.bool (xs.getD k false)):=by
  simp [aO,Rx hk]
 simp only [ab,h,e]
 cases g <;> rfl
theorem gD (h:A[id]?=some (.row 1 false (aO xs))) (hk:k<xs.length) (v:Bool):az 1 A (.ptr id k 0) (.bool v)=some (A.set id (.row 1 false (aO (xs.set k v)))):=by
 have e:(aO xs)[k]?=some (.bool (xs.getD k false)):=by
  simp [aO,Rx hk]
 have e2:(aO xs).set k (.bool v)=aO (xs.set k v):=by simp [aO]
 simp only [az,h,e]
 rw [RH ⟨trivial,rfl,rfl,by omega⟩]
 simp only [bq,cellsOf]
 rw [<-e2]
 rfl
end
def Eb:List (FuncId × aJ):=[(58,aG 4 M58),(59,H59),(40,H40)]
def H57:Nat->aJ
 | 0=>fun h=>cc (dX GC Eb h) 100 IK
 | k+1=>fun h=>cc (dX GC ((57,H57 k) :: Eb) h) 100 IK
theorem Ah:∀f M,aE Eb f=some M->au Try.prog GC f M:=ai (au.of_pure Jp 4) (ai Jo (ai pP aB))
theorem EH:∀k,au Try.prog GC 57 (H57 k)
 | 0=>cC Ah Rn FJ bG.nil
 | k+1=>cC (ai (EH k) Ah) Rn FJ bG.nil
structure Yl (h:be) (yv:AV) (Hd:ac->List Int->ac) (Inv:ac->Prop) (E:List Int->Prop) (pb pe pf:Nat):Prop where
 isY:∃L,yv=.func (.yield L) [] []
 run:∀X o ov,Inv X->E o->de X 1 ov (aj o)->h yv [ov] X=some (.bool true,Hd X o)
 inv:∀X o,Inv X->E o->Inv (Hd X o)
 app:∀X W,Inv X->Inv (X++W)
 keep:∀X o,kY pb pe pf X (Hd X o)
def ee (yp fp:Nat):AV:=.func (.func 57) [] [.ptr yp 0 0,.ptr fp 0 0]
theorem B7 (X:ac) (done:List Int):de (X++clR done) 1 (clV X.length done) (aj done):=by
 unfold clR clV
 by_cases h:done=[]
 ·rw [RH h,RH h,h]; exact .inl (.inl ⟨rfl,rfl⟩)
 ·rw [RK h,RK h]
  refine .inr ⟨X.length+1,0,false,aj done,by rw [aA],by rw [bp]; rfl,?_⟩
  rw [RT,Se]
theorem Gj (h:be) {dv:AV} {done:List Int} (hd:de X 1 dv (aj done)) (hn:done=[]->dv=.nilS) (hl:done.length<=1000):H40 h [dv] X=some (clV X.length done,X++clR done):=by
 by_cases he:done=[]
 ·rw [hn he]
  unfold clV clR
  rw [RH he,RH he,Sk]
  exact IC h X
 ·rw [Gi h hd he hl]
  unfold clV clR
  rw [RK he,RK he]
theorem Qf (X:ac) (done:List Int) (k:Nat) (hl:done.length<=1000):cU 1 8 (X++clR done) (clV X.length done) (.fs 1 [.int .i64 ((k:Int)+1)])=some (apV X.length done,X++apR done k):=by
 unfold clR clV apV apR
 by_cases h:done=[]
 ·rw [RH h,RH h,RH h,RH h,Sk]
  simp [cU,a8,aj]
 ·rw [RK h,RK h,RK h,RK h]
  have h1:(X++[Ent.dead,.row 1 false (aj done)])[X.length+1]?=some (.row 1 false (aj done)):=by rw [bp]; rfl
  have e:(X++[Ent.dead,.row 1 false (aj done)]).set (X.length+1) .dead++[Ent.row 1 false ((aj done).take done.length++[.int .i64 ((k:Int)+1)])]=X++[.dead,.dead,.row 1 false (aj (done++[(k:Int)+1]))]:=by
   rw [R8 _ _ (by omega),Sx,<-aA done,Se]
   simp [aj]
  simp only [cU,dr,h1,SU,RT]
  rw [RH ⟨trivial,by omega,by omega,by omega⟩,e]
  simp
section
variable {h:be} {yv:AV} {Hd:ac->List Int->ac} {Inv:ac->Prop} {E:List Int->Prop} {pb pe pf yp fp:Nat}
theorem E7 (hy:Yl h yv Hd Inv E pb pe pf) (fs:List (FuncId × aJ)) (h58:aE fs 58=some (aG 4 M58)) (h40:aE fs 40=some H40) (hI:Inv X) (h1:X[yp]?=some (.row 1 false [yv])) {b:List Bool} (hb:X[bi]?=some (.row 1 false (aO b))) (hbl:b.length<=100) (hany:b.any id=false)
  {done:List Int} {dv:AV} (hd:de X 1 dv (aj done)) (hn:done=[]->dv=.nilS) (hl:done.length<=1000) (hE:E done) :
  cc (dX GC fs h) 100 IK [.sl bi 0 b.length,dv,.ptr yp 0 0,.ptr fp 0 0] X=some (.bool true,Hd (X++clR done) done):=by
 obtain ⟨L,rfl⟩:=hy.isY
 have hf:frz X 4 (.sl bi 0 b.length)=.fs 1 (aO b):=by
  have:=dz (off:=0) (xs:=aO b) hb (by rw [RT,Se]) (fun n x hx=>by
   obtain ⟨c,_,rfl⟩:=Sa.1 hx
   cases n <;> rfl) 2
  rw [cQ] at this
  exact this
 have m:=F8 (xs:=b) (.inr rfl) (by omega)
 rw [hany] at m
 have l1:ab false 1 X (.ptr yp 0 0)=some (.func (.yield L) [] []):=by simp only [ab,h1]; rfl
 have hypl:=(Rv.1 h1).1
 have h1':(X++clR done)[yp]?=some (.row 1 false [.func (.yield L) [] []]):=by rw [cS X _ yp hypl,h1]
 have c:=fun hh=>Gj hh hd hn hl
 have hr:=hy.run (X++clR done) done (clV X.length done) (hy.app _ _ hI) hE (B7 X done)
 have hct:frz X 4 (.bool true)=.bool true:=rfl
 generalize clV X.length done=cv at *
 generalize X++clR done=X1 at *
 generalize Hd X1 done=X2 at *
 generalize b.length=n at *
 generalize (AV.fs 1 (aO b))=F at *
 rw [bh _ _ rfl]
 simp [IK,hf,hct,m,h58,h40,l1,c,hr,dE,h1,h1',-ab,-frz]
theorem Hm (h:be) (fs:List (FuncId × aJ)) {H:aJ} (h57:aE fs 57=some H) (h59:aE fs 59=some H59) (h40:aE fs 40=some H40) (h3:X[fp]?=some (.row 1 false [ee yp fp])) {b:List Bool} (hb:X[bi]?=some (.row 1 false (aO b))) (hbl:b.length<=100)
  {done:List Int} {dv:AV} (hd:de X 1 dv (aj done)) (hn:done=[]->dv=.nilS) (hl:done.length<=1000) {k:Nat} (hk:k<b.length) {Y:ac}
  (hr:gZ b k=true->H h [.sl (X.length+1) 0 b.length,apV (X.length+2) done,.ptr yp 0 0,.ptr fp 0 0] (X++gH b done k)=some (.bool true,Y)) (hY:gZ b k=false->Y=X) :
  run (dX GC fs h) 100 [.code i9] (pD (.sl bi 0 b.length) dv (.ptr fp 0 0) (.sl bi 0 b.length) (.int .i64 (b.length:Int)) (.int .i64 (k:Int))) X =
   some (.normal (pD (.sl bi 0 b.length) dv (.ptr fp 0 0) (.sl bi 0 b.length) (.int .i64 (b.length:Int)) (.int .i64 ((k+1:Nat):Int))) Y):=by
 have hfl:=(Rv.1 h3).1
 have hbil:=(Rv.1 hb).1
 have b0:=a9 k b.length .i64
 rw [RE hk] at b0
 have i1:=cE hb hk .i64
 have d1:=m7 hb hk
 have b1:ag .sub (.int .i64 (b.length:Int)) (.int .i64 1)=some (.int .i64 ((b.length:Int)-1)):=bD (by omega)
 have b2:=bA (k:Int) ((b.length:Int)-1)
 have b3:=aV k (by omega)
 have ln:aq (.sl bi 0 b.length)=some (.int .i64 (b.length:Int)):=rfl
 cases hc:gZ b k with
 | false=>
  rw [hY hc]
  have hc':¬ (b.getD k false=true/\(k+1=b.length\/b.getD (k+1) false=false)):=fun hh=>by rw [gB.2 hh] at hc; cases hc
  cases hf:b.getD k false with
  | false=>
   rw [hf] at d1
   generalize decide ((k:Int)=(b.length:Int)-1)=q at *
   generalize (b.length:Int)-1=N1 at *
   generalize hNN:(b.length:Int)=N at *
   obtain ⟨i1',hi1'⟩:∃i1:Nat,i1=k+1:=⟨_,rfl⟩
   rw [<-hi1'] at b3 ⊢
   generalize (k:Int)=K at *
   simp [i9,b0,i1,d1,ln,b1,b2,b3,-ag,-ab,-ae,-aq]
  | true=>
   have hne:k+1<b.length:=by
    rcases Ti (k+1) b.length with h' | h'
    ·exact h'
    ·exact absurd ⟨hf,.inl (by omega)⟩ hc'
   have hf2:b.getD (k+1) false=true:=by
    cases h':b.getD (k+1) false
    ·exact absurd ⟨hf,.inr h'⟩ hc'
    ·rfl
   have i2:=cE hb hne .i64
   have d2:=m7 hb hne
   rw [hf] at d1
   rw [hf2] at d2
   rw [RD (by omega)] at b2
   generalize (b.length:Int)-1=N1 at *
   generalize hNN:(b.length:Int)=N at *
   obtain ⟨i1',hi1'⟩:∃i1:Nat,i1=k+1:=⟨_,rfl⟩
   rw [<-hi1'] at b3 i2 d2 ⊢
   generalize (k:Int)=K at *
   generalize (i1':Int)=K1 at *
   simp [i9,b0,i1,i2,d1,d2,ln,b1,b2,b3,-ag,-ab,-ae,-aq]
 | true=>
  obtain ⟨hf,hlast⟩:=gB.1 hc
  have hr:=hr hc
  rw [hf] at d1
  have hbne:b≠[]:=fun e=>by rw [e] at hk; exact absurd hk (Tx _)
  have hbh:de X 1 (.sl bi 0 b.length) (aO b):=.inr ⟨bi,0,false,aO b,by rw [cQ],hb,by rw [RT,Se]⟩
  have c59:=fun hh=>Mj hh hbh hbne (by omega)
  have r1:(X++[Ent.dead,.row 1 false (aO b)])[X.length+1]?=some (.row 1 false (aO b)):=by rw [bp]; rfl
  have i3:=cE (n:=b.length) r1 hk .i64
  have s1:=gD r1 hk false
  have e1:(X++[Ent.dead,.row 1 false (aO b)]).set (X.length+1) (.row 1 false (aO (b.set k false)))=X++[.dead,.row 1 false (aO (b.set k false))]:=by
   rw [R8 _ _ (by omega),Sx]; rfl
  rw [e1] at s1
  have hX2l:∀c,(X++[Ent.dead,.row 1 false (aO c)]).length=X.length+2:=fun c=>by simp
  have ld3:∀W,ab false 1 (X++W) (.ptr fp 0 0)=some (ee yp fp):=fun W=>by
   have:(X++W)[fp]?=some (.row 1 false [ee yp fp]):=by rw [cS X W fp hfl,h3]
   simp only [ab,this]; rfl
  have hfp:∀W,(X++W)[fp]?=some (.row 1 false [ee yp fp]):=fun W=>by rw [cS X W fp hfl,h3]
  have hd2:de (X++[Ent.dead,.row 1 false (aO (mvB b k))]) 1 dv (aj done):=hd.app _
  have c40:=fun hh=>Gj hh hd2 hn hl
  have ap:=Qf (X++[Ent.dead,.row 1 false (aO (mvB b k))]) done k hl
  rw [hX2l] at c40 ap
  have b4:ag .add (.int .i64 (k:Int)) (.int .i64 1)=some (.int .i64 ((k:Int)+1)):=aZ (by omega)
  have ldX2:=ld3 [Ent.dead,.row 1 false (aO (mvB b k))]
  have g1:=hfp [Ent.dead,.row 1 false (aO (mvB b k))]
  have g2:=hfp ([Ent.dead,.row 1 false (aO (mvB b k))]++clR done)
  have g3:=hfp ([Ent.dead,.row 1 false (aO (mvB b k))]++apR done k)
  rw [<-R1] at g2 g3
  have eN:X++gH b done k=X++[Ent.dead,.row 1 false (aO (mvB b k))]++apR done k:=by unfold gH; rw [R1]
  rw [eN] at hr
  have hsl:bI 1 [.int .i64 ((k:Int)+1)]=some (.fs 1 [.int .i64 ((k:Int)+1)]):=rfl
  have e9:((k+1:Nat):Int)=(k:Int)+1:=by push_cast; rfl
  have q1:fp≠(X++[Ent.dead,.row 1 false (aO (mvB b k))]++clR done).length:=by simp; omega
  have q2:¬ fp∈bj (clV (X.length+2) done):=by
   unfold clV
   split
   ·simp [bj]
   ·simp [bj]; omega
  by_cases hl1:k+1=b.length
  ·rw [RE (by omega)] at b2
   have em:mvB b k=b.set k false:=by unfold mvB; rw [RH hl1]
   rw [<-em] at s1
   generalize aO (mvB b k)=bm at *
   generalize X++[Ent.dead,.row 1 false bm]++apR done k=X4 at *
   generalize X++[Ent.dead,.row 1 false bm]++clR done=X3 at *
   generalize X++[Ent.dead,.row 1 false bm]=X2 at *
   generalize X++[Ent.dead,.row 1 false (aO b)]=X1 at *
   generalize clV (X.length+2) done=cv at *
   generalize apV (X.length+2) done=av at *
   rw [e9]
   generalize (b.length:Int)-1=N1 at *
   generalize hNN:(b.length:Int)=N at *
   generalize hKK:(k:Int)+1=K1 at *
   generalize (k:Int)=K at *
   simp [i9,b0,i1,i3,d1,ln,b1,b2,b4,h57,h59,h40,c59,c40,s1,ldX2,ee,hsl,ap,hr,g1,g2,-ag,-ab,-ae,-aq,-az,-bI]
   exact ⟨q1,q2⟩
  ·rw [RD (by omega)] at b2
   have hne:k+1<b.length:=by omega
   have hf2:b.getD (k+1) false=false:=hlast.resolve_left hl1
   have i2:=cE hb hne .i64
   have d2:=m7 hb hne
   rw [hf2] at d2
   have r2:(X++[Ent.dead,.row 1 false (aO (b.set k false))])[X.length+1]?=some (.row 1 false (aO (b.set k false))):=by rw [bp]; rfl
   have i4:=cE (n:=b.length) r2 hne .i64
   have s2:=gD r2 (show k+1<(b.set k false).length by simp; omega) true
   have e2:(X++[Ent.dead,.row 1 false (aO (b.set k false))]).set (X.length+1) (.row 1 false (aO ((b.set k false).set (k+1) true)))=X++[.dead,.row 1 false (aO ((b.set k false).set (k+1) true))]:=by
    rw [R8 _ _ (by omega),Sx]; rfl
   have em:mvB b k=(b.set k false).set (k+1) true:=by unfold mvB; rw [RK hl1]
   rw [e2,<-em] at s2
   rw [e9] at i2 i4
   generalize aO (mvB b k)=bm at *
   generalize X++[Ent.dead,.row 1 false bm]++apR done k=X4 at *
   generalize X++[Ent.dead,.row 1 false bm]++clR done=X3 at *
   generalize X++[Ent.dead,.row 1 false bm]=X2 at *
   generalize X++[Ent.dead,.row 1 false (aO (b.set k false))]=Xm at *
   generalize X++[Ent.dead,.row 1 false (aO b)]=X1 at *
   generalize clV (X.length+2) done=cv at *
   generalize apV (X.length+2) done=av at *
   rw [e9]
   generalize (b.length:Int)-1=N1 at *
   generalize hNN:(b.length:Int)=N at *
   generalize hKK:(k:Int)+1=K1 at *
   generalize (k:Int)=K at *
   simp [i9,b0,i1,i2,i3,i4,d1,d2,ln,b1,b2,b4,h57,h59,h40,c59,c40,s1,s2,ldX2,ee,hsl,ap,hr,g1,g2,-ag,-ab,-ae,-aq,-az,-bI]
   exact ⟨q1,q2⟩
theorem mi {Y:ac} (hk:kY pb pe pf X Y) (h:X[j]?=some e) (h1:j≠pb/\j≠pe/\j≠pf):Y[j]?=some e:=by
 rw [hk.2 j (Rv.1 h).1 h1.1 h1.2.1 h1.2.2,h]
def SlR (pb pe pf:Nat) (X:ac) (v:AV) (xs:List Int):Prop:=(v=.nilS/\xs=[])\/(xs≠[]/\∃i,v=.sl i 0 xs.length/\X[i]?=some (.row 1 false (aj xs))/\i≠pb/\i≠pe/\i≠pf)
theorem SlR.holds {xs:List Int} (h:SlR pb pe pf X v xs):de X 1 v (aj xs)/\(xs=[]->v=.nilS):=by
 rcases h with ⟨rfl,rfl⟩ | ⟨hne,i,rfl,h1,_⟩
 ·exact ⟨.inl (.inl ⟨rfl,rfl⟩),fun _=>rfl⟩
 ·exact ⟨.inr ⟨i,0,false,aj xs,by rw [aA],h1,by rw [RT,Se]⟩,fun e=>absurd e hne⟩
theorem SlR.keep {Y:ac} {xs:List Int} (h:SlR pb pe pf X v xs) (hk:kY pb pe pf X Y):SlR pb pe pf Y v xs:=by
 rcases h with h | ⟨hne,i,h1,h2,h3⟩
 ·exact .inl h
 ·exact .inr ⟨hne,i,h1,mi hk h2 h3,h3⟩
theorem SlR.ap (hb:pb<X.length/\pe<X.length/\pf<X.length) (done:List Int) (k:Nat):SlR pb pe pf (X++apR done k) (apV X.length done) (done++[(k:Int)+1]):=by
 refine .inr ⟨by simp,?_⟩
 unfold apR apV
 by_cases h:done=[]
 ·rw [RH h,RH h,h]
  refine ⟨X.length,rfl,?_,by omega,by omega,by omega⟩
  have:=bp X [Ent.row 1 false (aj [(k:Int)+1])] 0
  rw [Sy] at this
  rw [this]; rfl
 ·rw [RK h,RK h]
  exact ⟨X.length+2,by simp,by rw [bp]; rfl,by omega,by omega,by omega⟩
theorem Rf (hy:Yl h yv Hd Inv E pb pe pf) (hyp:yp≠pb/\yp≠pe/\yp≠pf) (hfp:fp≠pb/\fp≠pe/\fp≠pf):∀(d:Nat) (X:ac) (b:List Bool) (done:List Int) (bi:Nat) (dv:AV),Inv X->(pb<X.length/\pe<X.length/\pf<X.length)->X[yp]?=some (.row 1 false [yv])->X[fp]?=some (.row 1 false [ee yp fp])->X[bi]?=some (.row 1 false (aO b))->(bi≠pb/\bi≠pe/\bi≠pf)->b.length<=50 ->
  SlR pb pe pf X dv done->done.length+d<=100->mB b<=d->(∀r,Emp b r->E (done++r)) ->
  H57 d h [.sl bi 0 b.length,dv,.ptr yp 0 0,.ptr fp 0 0] X=some (.bool true,F57 Hd d b done X)
 | 0,X,b,done,bi,dv,hI,hp,h1,h2,h3,h4,h5,h6,h9,h10,h11=>by
  have ha:=qd b (by omega)
  have hE:=h11 [] ha
  rw [Sk] at hE
  have:=E7 (fp:=fp) hy Eb rfl rfl hI h1 h3 (by omega) ha h6.holds.1 h6.holds.2 (by omega) hE
  unfold H57 F57
  rw [ha]
  exact this
 | d+1,X,b,done,bi,dv,hI,hp,h1,h2,h3,h4,h5,h6,h9,h10,h11=>by
  cases ha:b.any id with
  | false=>
   have hE:=h11 [] ha
   rw [Sk] at hE
   have:=E7 (fp:=fp) hy ((57,H57 d) :: Eb) rfl rfl hI h1 h3 (by omega) ha h6.holds.1 h6.holds.2 (by omega) hE
   unfold H57 F57
   rw [ha]
   exact this
  | true=>
   have hInv:∀(e:Nat) (b':List Bool) (done':List Int) (X:ac),Inv X->mB b'<=e->(∀r,Emp b' r->E (done'++r))->Inv (F57 Hd e b' done' X):=fun e b' done' X hI hm hE=>by
    have:=xf (S:=Unit) (Hd:=Hd) (R:=fun X _=>Inv X) (st:=fun _ _=>()) (E:=E) (fun X W _ h=>hy.app X W h) (fun X _ o hE h=>hy.inv X o h hE) e b' done' X () hm hE hI
    exact this
   have loop:∀(c k:Nat) (Y:ac) (m:Nat),k+c=b.length->Inv Y->kY pb pe pf X Y->c<m ->
     bM (evC (dX GC ((57,H57 d) :: Eb) h) 100 i9) lI m (pD (.sl bi 0 b.length) dv (.ptr fp 0 0) (.sl bi 0 b.length) (.int .i64 (b.length:Int)) (.int .i64 (k:Int))) Y =
      some (.exit 0 ((pD (.sl bi 0 b.length) dv (.ptr fp 0 0) (.sl bi 0 b.length) (.int .i64 (b.length:Int)) (.int .i64 (b.length:Int))).set 13 (.bool false))
       ((List.range' k c).foldl (fun X k=>if gZ b k then F57 Hd d (mvB b k) (done++[(k:Int)+1]) (X++gH b done k) else X) Y)):=by
    intro c
    induction c with
    | zero=>
     intro k Y m hk _ _ hm
     obtain ⟨m,rfl⟩:∃j,m=j+1:=⟨m-1,by omega⟩
     obtain rfl:k=b.length:=by omega
     have b0:=a9 b.length b.length .i64
     rw [RD (by omega)] at b0
     rw [aD,B8]
     simp [i9,b0,-ag]
    | succ c ih=>
     intro k Y m hk hIY hK hm
     obtain ⟨m,rfl⟩:∃j,m=j+1:=⟨m-1,by omega⟩
     have hkl:k<b.length:=by omega
     have hpY:pb<Y.length/\pe<Y.length/\pf<Y.length:=by have:=hK.1; omega
     obtain ⟨Z,hZ⟩:∃Z,Z=if gZ b k then F57 Hd d (mvB b k) (done++[(k:Int)+1]) (Y++gH b done k) else Y:=⟨_,rfl⟩
     have hdY:=h6.keep hK
     have hE':gZ b k=true->∀r,Emp (mvB b k) r->E (done++[(k:Int)+1]++r):=fun hc r hr=>by
      rw [R1]
      exact h11 _ ⟨k,rfl,hkl,hc,hr⟩
     have hrun:=Hm (Y:=Z) (X:=Y) (H:=H57 d) h ((57,H57 d) :: Eb) rfl rfl rfl (mi hK h2 hfp) (mi hK h3 h4) (by omega) hdY.holds.1 hdY.holds.2 (by omega) hkl (fun hc=>by
      have hm':=wG hkl hc
      have hl2:(Y++[Ent.dead,.row 1 false (aO (mvB b k))]).length=Y.length+2:=by simp
      have hap:=SlR.ap (pb:=pb) (pe:=pe) (pf:=pf) (X:=Y++[Ent.dead,.row 1 false (aO (mvB b k))]) (by rw [hl2]; omega) done k
      rw [hl2] at hap
      have eN:Y++gH b done k=Y++[Ent.dead,.row 1 false (aO (mvB b k))]++apR done k:=by unfold gH; rw [R1]
      have hKN:kY pb pe pf X (Y++gH b done k):=hK.trans (kY.app _ _)
      have hrow:(Y++gH b done k)[Y.length+1]?=some (.row 1 false (aO (mvB b k))):=by rw [bp]; rfl
      have:=Rf hy hyp hfp d (Y++gH b done k) (mvB b k) (done++[(k:Int)+1]) (Y.length+1) (apV (Y.length+2) done) (hy.app _ _ hIY) (by have:=hKN.1; omega) (mi hKN h1 hyp) (mi hKN h2 hfp) hrow (by omega) (by rw [fu]; exact h5) (by rw [eN]; exact hap) (by simp; omega) (by omega) (hE' hc)
      rw [fu] at this
      rw [this,hZ,hc]; rfl) (fun hc=>by rw [hZ,hc]; rfl)
     rw [aD,B8,hrun,List.range'_succ,Sj,<-hZ]
     refine ih (k+1) Z m (by omega) ?_ ?_ (by omega)
     ·rw [hZ]
      split
      ·rename_i hc
       have hm':=wG hkl hc
       exact hInv _ _ _ _ (hy.app _ _ hIY) (by omega) (hE' hc)
      ·exact hIY
     ·rw [hZ]
      refine hK.trans ?_
      split
      ·exact (kY.app _ _).trans (t8 hy.keep _ _ _ _)
      ·exact kY.refl
   have lp:=loop b.length 0 X 100 (by omega) hI kY.refl (by omega)
   have hf:frz X 4 (.sl bi 0 b.length)=.fs 1 (aO b):=by
    have:=dz (off:=0) (xs:=aO b) h3 (by rw [RT,Se]) (fun n x hx=>by
     obtain ⟨c,_,rfl⟩:=Sa.1 hx
     cases n <;> rfl) 2
    rw [cQ] at this
    exact this
   have m:=F8 (xs:=b) (.inr rfl) (by omega)
   rw [ha] at m
   have hct:frz X 4 (.bool true)=.bool true:=rfl
   have l58:aE Eb 58=some (aG 4 M58):=rfl
   have ln:aq (.sl bi 0 b.length)=some (.int .i64 (b.length:Int)):=rfl
   unfold F57
   rw [ha,RH rfl,List.range_eq_range']
   have lp:bM (evC (dX GC ((57,H57 d) :: Eb) h) 100 i9) lI 100 (pD (.sl bi 0 b.length) dv (.ptr fp 0 0) (.sl bi 0 b.length) (.int .i64 (b.length:Int)) (.int .i64 0)) X=_:=lp
   generalize (List.range' 0 b.length).foldl (fun X k=>if gZ b k then F57 Hd d (mvB b k) (done++[(k:Int)+1]) (X++gH b done k) else X) X=Y at *
   generalize b.length=n at *
   generalize (AV.fs 1 (aO b))=F at *
   unfold H57
   rw [bh _ _ rfl]
   simp [IK,hf,hct,m,l58,ln,Kl lp,dE,-ab,-aq,-frz]
end
end Tr
namespace Tr
open Go
open Cy (GC aM bc aA br db lvM lvT cM ew)
open Clu (aT aY af chA aK aZ bD bA cB bL dP cK bK ss fh)
theorem yA {T:aT} (hS:Sit T rd free):∀(o:List Int) (i:Nat) (last:Int) (a:Nat->Option Nat),(∀k p,a k=some p->p<=i)->i+o.length<=1000->∀x∈gh T rd free i last a o,x.inR
 | [],i,last,a,ha,hn=>fun x hx=>by cases hx
 | t :: r,i,last,a,ha,hn=>fun x hx=>by
  have hw:=da hS.1.1
  have hb:=mN hS.1.1 last t
  have hc:=di hS.1.1 (t-1).toNat
  have hfr:=hS.2.2.1
  have hrd:=wC hS (t-1).toNat
  have hs:(gu T rd a (t-1).toNat).1<=i /\ -1<=(gu T rd a (t-1).toNat).2/\(gu T rd a (t-1).toNat).2<=500000:=by
   unfold gu
   split
   ·rename_i p hp
    exact ⟨ha _ _ hp,by simp only; omega,by simp only; omega⟩
   ·exact ⟨TJ _,by simp only; omega,by simp only; omega⟩
  obtain ⟨s1,s2,s3⟩:=hs
  simp only [Sv] at hn
  simp only [gh,Su] at hx
  unfold br.inR inI
  rcases hx with rfl | rfl | rfl | hx
  ·unfold hdT
   split
   ·simp only; omega
   ·simp only; omega
  ·simp only; omega
  ·simp only; omega
  ·have:=yA hS r (i+1) t _ (fun k p hp=>by
    unfold upd at hp
    split at hp
    ·injection hp with hp; omega
    ·have:=ha k p hp; omega) (by omega) x hx
   unfold br.inR inI at this
   exact this
def v34 (D:Nat) (r:Option (List cO)):AV:=match r with
 | some l=>.tup [.sl (D+l.length) 0 l.length,.bool true]
 | none=>.tup [.nilS,.bool false]
def XF (n0:Nat) (tv:AV) (T:aT) (rd:List Int) (free:Int) (o:List Int):ac:=XA n0 tv (ck T rd free o) (Fa 0 [] o)
def G34 (n0:Nat) (tv:AV) (T:aT) (rd:List Int) (free:Int) (o:List Int):ac:=XF n0 tv T rd free o++(match dc T rd free o with | some l=>OA l | none=>[])
section
variable {A:ac} {T:aT} {chv chF rdv ov:AV} {rd o:List Int} {free:Int}
theorem Mn (h:be) (hT:Tl A T chv chF) (hS:Sit T rd free) (hr:de A 1 rdv (aj rd)) (ho:de A 1 ov (aj o)) (hE:Emp (b0 rd) o) :
  H34 h [af T chv,rdv,.int .i64 free,ov] A=some (v34 (A.length+(XF A.length (af T chv) T rd free o).length) (dc T rd free o),A++G34 A.length (af T chv) T rd free o):=by
 have hv:=hS.1.1
 have hol:=ni hS hE
 have hob:∀t∈o,1<=t/\t<=T.ch.length:=fun t ht=>by
  have:=qX hE t ht
  rw [dQ,hS.2.1] at this; exact this
 have lp:=J6 (free:=free) hT hS hr ho (by omega) hob o.length 0 (-2) [] [] (fun _=>none) 300 (by omega) (fun h=>absurd rfl h) (by omega) (fun k=>rfl) rfl (by omega)
 rw [RT,S7] at lp
 have hlo:=ho.len
 rw [aA] at hlo
 obtain ⟨tv,htv⟩:∃tv,tv=af T chv:=⟨_,rfl⟩
 have hB0:A++[Ent.row 5 false [tv],.row 1 false [.nilS],.map []]=A++XA A.length tv [] []:=by unfold XA; rw [RH rfl]; rfl
 have bx:aS 5 tv A=some (.ptr A.length 0 0,A++[.row 5 false [tv]]):=by rw [htv]; rfl
 have bx2:aS 1 .nilS (A++[Ent.row 5 false [tv]])=some (.ptr (A.length+1) 0 0,A++[.row 5 false [tv],.row 1 false [.nilS]]):=by simp [aS,AV.solid,cellsOf]
 have ct:(cellsOf tv).length=5:=by rw [htv]; rfl
 obtain ⟨g1,_,_,_,_⟩:=vW (A:=A) (T:=T) (L:=[]) (kvs:=[]) hT.h.form
 have hf0:=hT.fz (XA A.length (af T chv) [] [])
 have m42:=yE (T:=T) chF hv
 rw [<-htv] at lp g1 hf0 ⊢
 generalize hBe:A++XA A.length tv [] []=B0 at *
 have lp:bM (evC (aw GC wU) 300 dV) dR 300 (iJ rdv (.int .i64 free) ov (.ptr A.length 0 0) (.ptr (A.length+1) 0 0) (.func (.func 60) [] [.ptr (A.length+1) 0 0]) (.map (A.length+2)) (.int .i64 (wT T)) ov (.int .i64 (o.length:Int)) (.int .i64 0)) B0 =
   some (.exit 0 ((s34 A.length rdv free ov (wT T) o.length o.length).set 26 (.bool false)) (A++XF A.length tv T rd free o)):=lp
 have hin:=yA hS o 0 (-2) (fun _=>none) (fun k p h=>by cases h) (by omega)
 have hLl:=qU T rd free o 0 (-2) (fun _=>none)
 have hfrz:∃v,ab false 1 (A++XF A.length tv T rd free o) (.ptr (A.length+1) 0 0)=some v/\frz (A++XF A.length tv T rd free o) 4 v=slA 4 ((ck T rd free o).map db):=by
  unfold XF XA
  by_cases hL:ck T rd free o=[]
  ·rw [RH hL]
   have:(A++[Ent.row 5 false [tv],.row 1 false [.nilS],.map ((Fa 0 [] o).map kvA)])[A.length+1]?=some (.row 1 false [.nilS]):=by rw [bp]; rfl
   refine ⟨.nilS,by simp only [ab,this]; rfl,?_⟩
   rw [hL]; rfl
  ·rw [RK hL]
   have h1:(A++[Ent.row 5 false [tv],.row 1 false [.sl (A.length+3) 0 (ck T rd free o).length],.map ((Fa 0 [] o).map kvA),.row 4 (decide (1<(ck T rd free o).length)) ((ck T rd free o).map db)])[A.length+1]?=some (.row 1 false [.sl (A.length+3) 0 (ck T rd free o).length]):=by rw [bp]; rfl
   have h3:(A++[Ent.row 5 false [tv],.row 1 false [.sl (A.length+3) 0 (ck T rd free o).length],.map ((Fa 0 [] o).map kvA),.row 4 (decide (1<(ck T rd free o).length)) ((ck T rd free o).map db)])[A.length+3]?=some (.row 4 (decide (1<(ck T rd free o).length)) ((ck T rd free o).map db)):=by rw [bp]; rfl
   refine ⟨.sl (A.length+3) 0 (ck T rd free o).length,by simp only [ab,h1]; rfl,?_⟩
   have e:=dz (xs:=(ck T rd free o).map db) (off:=0) h3 (by rw [RT,Se]) (fun n x hx=>by
    obtain ⟨c,_,rfl⟩:=Sa.1 hx
    cases n <;> rfl) 2
   rw [RN] at e
   rw [e]
   unfold slA
   cases hm:(ck T rd free o).map db with
   | nil=>exact absurd (Tw.1 hm) hL
   | cons x r=>rfl
 obtain ⟨v,hv1,hv2⟩:=hfrz
 have harcs:Cy.cR (slA 4 ((ck T rd free o).map db))=some (ck T rd free o):=Cy.gY (by unfold ck; rw [hLl]; omega) hin
 have hlev:=fun hh=>Cy.Gl hh (A:=A++XF A.length tv T rd free o) hv2 harcs ((o.length:Int)+1) 0
 have b1:ag .add (.int .i64 (o.length:Int)) (.int .i64 1)=some (.int .i64 ((o.length:Int)+1)):=aZ (by omega)
 unfold G34 dc
 have hDo:∀X,de (A++XF A.length tv T rd free o++X) 1 ov (aj o):=fun X=>(ho.app _).app X
 have hDl:(A++XF A.length tv T rd free o).length=A.length+(XF A.length tv T rd free o).length:=RU
 rw [<-hDl,<-R1]
 generalize hDe:A++XF A.length tv T rd free o=D at *
 by_cases hok:(lvM ((o.length:Int)+1) (ck T rd free o) 0).2.2=true
 rotate_left
 ·rw [RK (fun h=>hok h.1)]
  rw [Bool.not_eq_true] at hok
  have hlev:∀hh,Cy.H14 hh [.int .i64 ((o.length:Int)+1),v,.int .i64 0] D=some (.tup [slA 1 (aj (lvM ((o.length:Int)+1) (ck T rd free o) 0).1),slA 1 (aj (lvM ((o.length:Int)+1) (ck T rd free o) 0).2.1),.bool false],D):=fun hh=>by rw [hlev hh]; unfold lvT; rw [hok]
  generalize slA 1 (aj (lvM ((o.length:Int)+1) (ck T rd free o) 0).1)=w1 at *
  generalize slA 1 (aj (lvM ((o.length:Int)+1) (ck T rd free o) 0).2.1)=w2 at *
  generalize (o.length:Int)+1=M1 at *
  unfold H34
  rw [bh _ _ rfl]
  simp [vT,bx,bx2,ct,hB0,g1,hf0,m42,hlo,uN lp,hv1,hlev,b1,eC,dE,v34,-aS,-ab,-aq,-frz,-cellsOf,-ag]
 have hR:cM ((o.length:Int)+1) (ck T rd free o) 0:=by
  unfold lvM at hok
  split at hok
  ·assumption
  ·cases hok
 obtain ⟨_,hver,_,_⟩:=ew hR hok
 obtain ⟨st,hst⟩:∃st,st=(lvM ((o.length:Int)+1) (ck T rd free o) 0).1:=⟨_,rfl⟩
 have hsl:st.length=o.length+1:=by have:=hver.2.1; rw [hst]; omega
 have hlev:∀hh,Cy.H14 hh [.int .i64 ((o.length:Int)+1),v,.int .i64 0] D=some (.tup [slA 1 (aj st),slA 1 (aj (lvM ((o.length:Int)+1) (ck T rd free o) 0).2.1),.bool true],D):=fun hh=>by rw [hlev hh]; unfold lvT; rw [hok,hst]
 rw [<-hst]
 have hx0:=(ba 1 (aj st)).int (A:=D) _ _ (Rx (show 0<st.length by omega)) .i64
 have hx0:ae 1 D (slA 1 (aj st)) (.int .i64 0)=some (.fp [.int .i64 st[0]]):=hx0
 have hg0:st.getD 0 0=st[0]:=by rw [Rw,Rx (by omega)]; rfl
 have b2:=cB (st[0]'(by omega)) 0
 have lpb:=HX (sv:=slA 1 (aj st)) hDo (ba 1 (aj st)) hsl (by omega) o.length 0 300 (by omega) (by omega)
 rw [List.take_zero] at lpb
 have mk:bU 2 16 (.agg [.int .i64 0,.int .i64 0]) D (.int .i64 0) (.int .i64 (o.length:Int))=some (.sl D.length 0 0,D++OA []):=by
  simp only [bU]
  rw [RH ⟨by omega,by omega,by omega,by omega,rfl,rfl,by omega⟩]
  rfl
 have lpb:bM (evC (aw GC wU) 300 nT) jD 300 (pJ (slA 1 (aj st)) (.sl D.length 0 0) ov (.int .i64 (o.length:Int)) (.int .i64 0)) (D++OA [])=_:=lpb
 rw [hg0]
 by_cases h0:st[0]=0
 rotate_left
 ·rw [RK (fun h=>h0 h.2)]
  rw [RE h0] at b2
  generalize slA 1 (aj st)=w1 at *
  generalize slA 1 (aj (lvM ((o.length:Int)+1) (ck T rd free o) 0).2.1)=w2 at *
  generalize (o.length:Int)+1=M1 at *
  generalize st[0]=s0 at *
  unfold H34
  rw [bh _ _ rfl]
  simp [vT,bx,bx2,ct,hB0,g1,hf0,m42,hlo,uN lp,hv1,hlev,b1,b2,hx0,eC,dE,v34,-aS,-ab,-aq,-frz,-cellsOf,-ag,-ae]
 ·rw [RH ⟨hok,h0⟩]
  rw [RD (fun h=>h h0)] at b2
  have el:(mkX (fun j=>st.getD j 0) 0 o).length=o.length:=fW _ _ _
  simp only [v34,el]
  generalize mkX (fun j=>st.getD j 0) 0 o=l at *
  generalize slA 1 (aj st)=w1 at *
  generalize slA 1 (aj (lvM ((o.length:Int)+1) (ck T rd free o) 0).2.1)=w2 at *
  generalize (o.length:Int)+1=M1 at *
  generalize st[0]=s0 at *
  unfold H34
  rw [bh _ _ rfl]
  simp [vT,bx,bx2,ct,hB0,g1,hf0,m42,hlo,uN lp,hv1,hlev,b1,b2,hx0,mk,Kq lpb,eC,dE,-aS,-ab,-aq,-frz,-cellsOf,-ag,-ae,-bU]
end
end Tr
namespace Tr
open Go
open Cy (GC iO aM bc aA)
open Clu (aT aY af chA aZ bD bA bK bL)
def Q4:List (FuncId × aJ):=[(57,H57 10)]
@[simp] theorem NP:aE Q4 57=some (H57 10):=rfl
def H56:aJ:=fun hd args A=>(cc (dX GC Q4 hd) 0 Nq args A).map fun x=>(x.1,x.2.set A.length .dead)
theorem Jq:au Try.prog GC 56 H56:=(cC (ai (EH 10) aB) at56 K8 bG.nil).kill
def H33:aJ:=fun hd=>cc (dX GC [] hd) 0 IL
theorem Ac:au Try.prog GC 33 H33:=cC aB P7 BS bG.nil
theorem Mo (h:be) (A:ac) (i n:Nat):H33 h [.sl i 0 n] A=some (.func (.func 56) [] [.ptr A.length 0 0],A++[.row 1 false [.sl i 0 n]]):=by
 unfold H33
 rw [bh _ _ rfl]
 simp [IL]
def A56 (A:ac) (yv:AV):ac:=A++[.row 1 false [yv],.row 1 false [ee A.length (A.length+1)]]
section
variable {h:be} {yv:AV} {Hd:ac->List Int->ac} {Inv:ac->Prop} {E:List Int->Prop} {pb pe pf:Nat}
theorem Mk (hy:Yl h yv Hd Inv E pb pe pf) {b:List Bool} {ip:Nat} (hp:pb<A.length/\pe<A.length/\pf<A.length) (hI:Inv (A56 A yv)) (hb:A[bi]?=some (.row 1 false (aO b))) (hbi:bi≠pb/\bi≠pe/\bi≠pf) (hip:A[ip]?=some (.row 1 false [.sl bi 0 b.length])) (hbl:b.length<=4) (hE:∀r,Emp b r->E r) :
  H56 h [yv,.ptr ip 0 0] A=some (.tup [],(F57 Hd 10 b [] (A56 A yv)).set A.length .dead):=by
 obtain ⟨L,rfl⟩:=hy.isY
 have hbl':=(Rv.1 hb).1
 have hil:=(Rv.1 hip).1
 have e1:(A56 A (.func (.yield L) [] []))[A.length]?=some (.row 1 false [.func (.yield L) [] []]):=by simp [A56]
 have e2:(A56 A (.func (.yield L) [] []))[A.length+1]?=some (.row 1 false [ee A.length (A.length+1)]):=by unfold A56; rw [bp]; rfl
 have e3:(A56 A (.func (.yield L) [] []))[bi]?=some (.row 1 false (aO b)):=by unfold A56; rw [cS A _ bi hbl',hb]
 have e4:(A56 A (.func (.yield L) [] []))[ip]?=some (.row 1 false [.sl bi 0 b.length]):=by unfold A56; rw [cS A _ ip hil,hip]
 have hal:(A56 A (.func (.yield L) [] [])).length=A.length+2:=by simp [A56]
 have hm:=Rf hy (yp:=A.length) (fp:=A.length+1) (by omega) (by omega) 10 _ b [] bi .nilS hI (by omega) e1 e2 e3 hbi (by omega) (.inl ⟨rfl,rfl⟩) (by simp) (J2 b hbl) (fun r hr=>hE r hr)
 have s1:az 1 (A++[.row 1 false [.func (.yield L) [] []],.row 1 false [.nilF]]) (.ptr (A.length+1) 0 0) (.func (.func 57) [] [.ptr A.length 0 0,.ptr (A.length+1) 0 0])=some (A56 A (.func (.yield L) [] [])):=by
  have:(A++[Ent.row 1 false [.func (.yield L) [] []],.row 1 false [.nilF]])[A.length+1]?=some (.row 1 false [.nilF]):=by rw [bp]; rfl
  simp only [az,this]
  simp [AV.solid,cellsOf,bq,A56,ee]
 have l1:ab false 1 (A56 A (.func (.yield L) [] [])) (.ptr (A.length+1) 0 0)=some (ee A.length (A.length+1)):=by simp only [ab,e2]; rfl
 have l2:ab false 1 (A56 A (.func (.yield L) [] [])) (.ptr ip 0 0)=some (.sl bi 0 b.length):=by simp only [ab,e4]; rfl
 generalize hX:A56 A (.func (.yield L) [] [])=X1 at *
 generalize F57 Hd 10 b [] X1=X2 at *
 generalize b.length=n at *
 unfold H56
 rw [bh _ _ rfl]
 unfold ee at l1
 simp [Nq,s1,l1,l2,hm,dE,-ab,-az]
end
def bet (X:ac) (pe pf:Nat) (t:Int):Bool:=match X[pf]?,X[pe]? with
 | some (.row _ _ [.bool f]),some (.row _ _ [.int _ e])=>!f || decide (t<e)
 | _,_=>false
section
variable (T:aT) (tv:AV) (rd:List Int) (free:Int) (pb pe pf:Nat)
def HdD (X:ac) (o:List Int):ac:=
 match dc T rd free o with
 | none=>X++G34 X.length tv T rd free o
 | some l=>if bet X pe pf ((fP T rd free l).getD 0) then
   (((X++G34 X.length tv T rd free o).set pb (.row 1 false [.sl (X.length+(XF X.length tv T rd free o).length+l.length) 0 l.length])).set pe (.row 1 false [.int .i64 ((fP T rd free l).getD 0)])).set pf (.row 1 false [.bool true])
  else X++G34 X.length tv T rd free o
theorem pm (X:ac) (o:List Int):kY pb pe pf X (HdD T tv rd free pb pe pf X o):=by
 unfold HdD
 split
 ·exact kY.app _ _
 ·split
  ·refine ⟨by simp,fun j h1 h2 h3 h4=>?_⟩
   rw [RF (S4 h4),RF (S4 h3),RF (S4 h2),RC h1]
  ·exact kY.app _ _
theorem C7 (X:ac) (o:List Int):X.length<=(HdD T tv rd free pb pe pf X o).length:=(pm T tv rd free pb pe pf X o).1
theorem C6 (h1:j≠pb) (h2:j≠pe) (h3:j≠pf) (X:ac) (o:List Int) (hj:j<X.length):(HdD T tv rd free pb pe pf X o).set j e=HdD T tv rd free pb pe pf (X.set j e) o:=by
 have hb:∀t,bet (X.set j e) pe pf t=bet X pe pf t:=fun t=>by
  unfold bet
  rw [RF h3,RF h2]
 have ha:∀W,(X++W).set j e=X.set j e++W:=fun W=>Th _ _ hj
 unfold HdD
 simp only [hb,Sm]
 split
 ·rw [ha]
 ·split
  ·rw [TF _ _ (S4 h3),TF _ _ (S4 h2),TF _ _ (S4 h1),ha]
  ·rw [ha]
def Rep (n0:Nat) (X:ac) (s:Option (List cO × Int)):Prop:=(pb<X.length/\pe<X.length/\pf<X.length)/\match s with
 | none=>X[pb]?=some (.row 1 false [.nilS])/\(∃e,X[pe]?=some (.row 1 false [.int .i64 e]))/\X[pf]?=some (.row 1 false [.bool false])
 | some x=>(∃i,n0<i/\X[pb]?=some (.row 1 false [.sl i 0 x.1.length])/\X[i]?=some (.row 2 false (x.1.map aL)))/\X[pe]?=some (.row 1 false [.int .i64 x.2])/\X[pf]?=some (.row 1 false [.bool true])
end
section
variable {T:aT} {tv:AV} {rd:List Int} {free:Int} {pb pe pf n0:Nat}
theorem Rep.app {s:Option (List cO × Int)} (h:Rep pb pe pf n0 X s) (W:ac):Rep pb pe pf n0 (X++W) s:=by
 obtain ⟨⟨a1,a2,a3⟩,h⟩:=h
 refine ⟨by simp; omega,?_⟩
 cases s with
 | none=>
  obtain ⟨b1,⟨e,b2⟩,b3⟩:=h
  exact ⟨by rw [cS X W _ a1,b1],⟨e,by rw [cS X W _ a2,b2]⟩,by rw [cS X W _ a3,b3]⟩
 | some x=>
  obtain ⟨⟨i,b0,b1,b2⟩,b3,b4⟩:=h
  exact ⟨⟨i,b0,by rw [cS X W _ a1,b1],by rw [cS X W _ (Rv.1 b2).1,b2]⟩,by rw [cS X W _ a2,b3],by rw [cS X W _ a3,b4]⟩
def PS (s:Option (List cO × Int)) (t:Int):Bool:=match s with
 | none=>true
 | some x=>decide (t<x.2)
theorem Rep.bet {s:Option (List cO × Int)} (h:Rep pb pe pf n0 X s) (t:Int):Tr.bet X pe pf t=PS s t:=by
 obtain ⟨_,h⟩:=h
 unfold Tr.bet
 cases s with
 | none=>
  obtain ⟨_,⟨e,b2⟩,b3⟩:=h
  rw [b2,b3]; rfl
 | some x=>
  obtain ⟨_,b3,b4⟩:=h
  rw [b3,b4]; rfl
theorem Rep.step (hne:pb≠pe/\pb≠pf/\pe≠pf) (_hp0:pb<=n0/\pe<=n0/\pf<=n0) (hn:n0<X.length) {s:Option (List cO × Int)} (h:Rep pb pe pf n0 X s) (o:List Int):Rep pb pe pf n0 (HdD T tv rd free pb pe pf X o) (fI T rd free s o):=by
 have hb:=h.bet
 have ha:=h.app (G34 X.length tv T rd free o)
 obtain ⟨⟨a1,a2,a3⟩,_⟩:=id h
 have hset:∀l,dc T rd free o=some l->Rep pb pe pf n0 ((((X++G34 X.length tv T rd free o).set pb (.row 1 false [.sl (X.length+(XF X.length tv T rd free o).length+l.length) 0 l.length])).set pe (.row 1 false [.int .i64 ((fP T rd free l).getD 0)])).set pf (.row 1 false [.bool true])) (some (l,(fP T rd free l).getD 0)):=fun l hl=>by
  have hlen:X.length<=(X++G34 X.length tv T rd free o).length:=by simp
  have hrow:(X++G34 X.length tv T rd free o)[X.length+(XF X.length tv T rd free o).length+l.length]?=some (.row 2 false (l.map aL)):=by
   rw [TB,bp]
   unfold G34
   rw [hl,bp]
   unfold OA
   rw [RS (by simp)]
   simp
  refine ⟨by simp only [Sm]; omega,⟨⟨X.length+(XF X.length tv T rd free o).length+l.length,by omega,?_,?_⟩,?_,?_⟩⟩
  ·rw [RF (S4 hne.2.1),RF (S4 hne.1),RO (by omega)]
  ·rw [RF (by omega),RF (by omega),RF (by omega),hrow]
  ·rw [RF (S4 hne.2.2),RO (by simp only [Sm]; omega)]
  ·rw [RO (by simp only [Sm]; omega)]
 unfold HdD fI
 cases ht:dc T rd free o with
 | none=>exact ha
 | some l=>
  simp only [hb]
  cases s with
  | none=>exact hset l ht
  | some x=>
   by_cases hlt:(fP T rd free l).getD 0<x.2
   ·have e:PS (some x) ((fP T rd free l).getD 0)=true:=RE hlt
    rw [RH e]
    simp only
    rw [RH hlt]; exact hset l ht
   ·have e:PS (some x) ((fP T rd free l).getD 0)=false:=RD hlt
    rw [e,RK (by decide)]
    simp only
    rw [RK hlt]; exact ha
end
end Tr
namespace Tr
open Go
open Cy (GC iO aM bc aA)
open Clu (aT aY af chA aZ bD bA bK bL)
theorem iQ {id:Nat} {e:AV} (h:A[id]?=some (.row 1 false [e])) (hs:a.solid=true) (hc:cellsOf a=[a]):az 1 A (.ptr id 0 0) a=some (A.set id (.row 1 false [a])):=by
 simp only [az,h,Sz]
 rw [RH ⟨trivial,hs,by rw [hc]; rfl,by omega⟩]
 unfold bq
 rw [RH ⟨rfl,by rw [hc]; rfl⟩]
 rfl
theorem Tl.app {T:aT} {chF:AV} (h:Tl A T chv chF) (W:ac):Tl (A++W) T chv chF:=⟨h.h.app W,fun X=>by rw [R1]; exact h.fz _,h.sF⟩
structure Rl (A:ac) (rd:List Int) (rdv rdF:AV):Prop where
 h:de A 1 rdv (aj rd)
 fz:∀X,frz (A++X) 4 rdv=rdF
 sF:SlA 1 (aj rd) rdF
theorem Rl.app {rdF:AV} (h:Rl A rd rdv rdF) (W:ac):Rl (A++W) rd rdv rdF:=⟨h.h.app W,fun X=>by rw [R1]; exact h.fz _,h.sF⟩
theorem Rl.of (h:de A 1 rdv (aj rd)):∃rdF,Rl A rd rdv rdF:=by
 rcases h with h | ⟨id,off,gr,es,rfl,h1,h2⟩
 ·exact ⟨rdv,.inl h,fun X=>h.frz 4,h⟩
 ·refine ⟨.fs 1 (aj rd),.inr ⟨id,off,gr,es,rfl,h1,h2⟩,fun X=>?_,.inr rfl⟩
  have h1':(A++X)[id]?=some (.row 1 gr es):=by rw [cS A X id (Rv.1 h1).1,h1]
  exact dz h1' h2 (fun n x hx=>by
   obtain ⟨c,_,rfl⟩:=Sa.1 hx
   cases n <;> rfl) 2
theorem qq {l:List cO} (h:A[i]?=some (.row 2 g (l.map aL))):frz A 4 (.sl i 0 l.length)=.fs 2 (l.map aL):=by
 have:=dz (off:=0) (xs:=l.map aL) h (by rw [RT,Se]) (fun n x hx=>by
  obtain ⟨c,_,rfl⟩:=Sa.1 hx
  cases n <;> rfl) 2
 rw [RN] at this
 exact this
structure D14 (A:ac) (tv rdv:AV) (free:Int) (Z:ac):Prop where
 pre:∃R,Z=A++R
 r0:Z[A.length]?=some (.row 5 false [tv])
 r1:Z[A.length+1]?=some (.row 1 false [rdv])
 r2:Z[A.length+2]?=some (.row 1 false [.int .i64 free])
section
variable {A Z:ac} {T:aT} {chv chF rdv rdF ov:AV} {rd o:List Int} {free:Int}
theorem D14.app (h:D14 A tv rdv free Z) (W:ac):D14 A tv rdv free (Z++W):=by
 obtain ⟨⟨R,hR⟩,h0,h1,h2⟩:=h
 exact ⟨⟨R++W,by rw [hR,R1]⟩,by rw [cS Z W _ (Rv.1 h0).1,h0],by rw [cS Z W _ (Rv.1 h1).1,h1],by rw [cS Z W _ (Rv.1 h2).1,h2]⟩
theorem D14.set (h:D14 A tv rdv free Z) (hj:A.length+2<j) (e:Ent):D14 A tv rdv free (Z.set j e):=by
 obtain ⟨⟨R,hR⟩,h0,h1,h2⟩:=h
 refine ⟨⟨R.set (j-A.length) e,by rw [hR,R8 _ _ (by omega)]⟩,?_,?_,?_⟩
 ·rw [RF (by omega)]; exact h0
 ·rw [RF (by omega)]; exact h1
 ·rw [RF (by omega)]; exact h2
theorem D14.loads {tv:AV} (h:D14 A (af T chv) rdv free Z) (hc:(rdv=.nilS\/(∃e l,rdv=.fs e l))\/∃a b c,rdv=.sl a b c):ab true 5 Z (.ptr A.length 0 0)=some (af T chv)/\ab false 1 Z (.ptr (A.length+1) 0 0)=some rdv/\ab false 1 Z (.ptr (A.length+2) 0 0)=some (.int .i64 free):=by
 refine ⟨?_,?_,?_⟩
 ·simp only [ab,h.r0]; rfl
 ·simp only [ab,h.r1]
  rcases hc with (rfl | ⟨e,l,rfl⟩) | ⟨a,b,c,rfl⟩ <;> rfl
 ·simp only [ab,h.r2]; rfl
end
def x6:List (FuncId × aJ):=[(29,aG 4 M29),(30,aG 4 M30),(34,H34),(17,aG 4 M17),(33,H33),(56,H56)]
theorem pR:∀f M,aE x6 f=some M->au Try.prog GC f M:=ai (au.of_pure EJ 4) (ai (au.of_pure uh 4) (ai pQ (ai (au.of_pure xA 4) (ai Ac (ai Jq aB)))))
section
variable {A Z:ac} {T:aT} {chv chF rdv rdF ov:AV} {rd o:List Int} {free:Int}
theorem Lv (h:be) (fs:List (FuncId × aJ)) (h34:aE fs 34=some H34) (h17:aE fs 17=some (aG 4 M17)) (hT:Tl A T chv chF) (hr:Rl A rd rdv rdF) (hS:Sit T rd free) (hD:D14 A (af T chv) rdv free Z) (ho:de Z 1 ov (aj o)) (hE:Emp (b0 rd) o) {s:Option (List cO × Int)} (hR:Rep (A.length+4) (A.length+5) (A.length+6) n0 Z s)
  (v0 v1 v2 v3 v7 v8 v9 v10 v11 v12 v13 v14 v19 v20 v21 v22 v23 v24 v25 v26 v27 v28 v29 v30 v31 v32 v33 u34 v35 v36:AV) :
  run (dX GC fs h) 300 [.code l9] [v0,v1,v2,v3,.ptr A.length 0 0,.ptr (A.length+1) 0 0,.ptr (A.length+2) 0 0,v7,v8,v9,v10,v11,v12,v13,v14,.ptr (A.length+4) 0 0,.ptr (A.length+5) 0 0,.ptr (A.length+6) 0 0,ov,v19,v20,v21,v22,v23,v24,v25,v26,v27,v28,v29,v30,v31,v32,v33,u34,v35,v36] Z =
   some (.normal (List.replicate 37 .undef) (HdD T (af T chv) rd free (A.length+4) (A.length+5) (A.length+6) Z o)):=by
 obtain ⟨R,hZ⟩:=hD.pre
 have hTZ:Tl Z T chv chF:=by rw [hZ]; exact hT.app R
 have hrZ:Rl Z rd rdv rdF:=by rw [hZ]; exact hr.app R
 obtain ⟨l4,l5,l6⟩:=hD.loads (tv:=af T chv) hr.h.form
 have c34:=Mn (free:=free) (fun _ _ _=>none) hTZ hS hrZ.h ho hE
 have c34:∀hh,H34 hh [af T chv,rdv,.int .i64 free,ov] Z=_:=fun _=>c34
 have hD1:=hD.app (G34 Z.length (af T chv) T rd free o)
 obtain ⟨k4,k5,k6⟩:=hD1.loads (tv:=af T chv) hr.h.form
 have f4:=hTZ.fz (G34 Z.length (af T chv) T rd free o)
 have f5:=hrZ.fz (G34 Z.length (af T chv) T rd free o)
 have hR1:=hR.app (G34 Z.length (af T chv) T rd free o)
 have hsl:=gE hS
 unfold HdD
 cases ht:dc T rd free o with
 | none=>
  rw [ht] at c34
  simp only [v34] at c34
  generalize Z++G34 Z.length (af T chv) T rd free o=Z1 at *
  generalize af T chv=tv at *
  simp [l9,l4,l5,l6,h34,c34,-ab,List.replicate]
 | some l=>
  rw [ht] at c34
  simp only [v34] at c34
  dsimp only
  have hrow:(Z++G34 Z.length (af T chv) T rd free o)[Z.length+(XF Z.length (af T chv) T rd free o).length+l.length]?=some (.row 2 false (l.map aL)):=by
   rw [TB,bp]
   unfold G34
   rw [ht,bp]
   unfold OA
   rw [RS (by simp)]
   simp
  have fl:=qq hrow
  have hll:l.length<=10:=by
   obtain ⟨X,_,rfl,_⟩:=gM hS hE ht
   rw [fW]; exact ni hS hE
  have m17:=s4 hTZ.sF (by have:=hS.1.1.2.2.2.1; omega) hr.sF (by omega) free (lv:=.fs 2 (l.map aL)) (l:=l) (.inr rfl) (by omega)
  unfold Cx at m17
  have hb:=hR.bet ((fP T rd free l).getD 0)
  generalize Z.length+(XF Z.length (af T chv) T rd free o).length+l.length=li at *
  generalize hZ1:Z++G34 Z.length (af T chv) T rd free o=Z1 at *
  generalize (fP T rd free l).getD 0=t at *
  generalize (fP T rd free l).isSome=tb at *
  generalize hgF:(AV.fs 2 (l.map aL))=lF at *
  generalize hgn:l.length=ln at *
  generalize af T chv=tv at *
  generalize af T chF=tF at *
  obtain ⟨⟨p1,p2,p3⟩,hR1⟩:=hR1
  cases s with
  | none=>
   obtain ⟨q1,⟨e,q2⟩,q3⟩:=hR1
   have lf:ab false 1 Z1 (.ptr (A.length+6) 0 0)=some (.bool false):=by simp only [ab,q3]; rfl
   have s1:=iQ q1 (a:=.sl li 0 ln) rfl rfl
   have s2:=iQ (A:=Z1.set (A.length+4) (.row 1 false [.sl li 0 ln])) (id:=A.length+5) (e:=.int .i64 e) (a:=.int .i64 t) (by rw [RF (by omega)]; exact q2) rfl rfl
   have s3:=iQ (A:=(Z1.set (A.length+4) (.row 1 false [.sl li 0 ln])).set (A.length+5) (.row 1 false [.int .i64 t])) (id:=A.length+6) (e:=.bool false) (a:=.bool true) (by rw [RF (by omega),RF (by omega)]; exact q3) rfl rfl
   have hb:bet Z (A.length+5) (A.length+6) t=true:=hb
   simp only [hb,SX]
   generalize ((Z1.set (A.length+4) (.row 1 false [.sl li 0 ln])).set (A.length+5) (.row 1 false [.int .i64 t])).set (A.length+6) (.row 1 false [.bool true])=Z4 at *
   generalize (Z1.set (A.length+4) (.row 1 false [.sl li 0 ln])).set (A.length+5) (.row 1 false [.int .i64 t])=Z3 at *
   generalize Z1.set (A.length+4) (.row 1 false [.sl li 0 ln])=Z2 at *
   simp [l9,l4,l5,l6,k4,k5,k6,f4,f5,fl,aM,h34,h17,c34,m17,lf,s1,s2,s3,bH,-ab,-az,-frz,List.replicate]
  | some x=>
   obtain ⟨⟨i,_,q1,_⟩,q2,q3⟩:=hR1
   have lf:ab false 1 Z1 (.ptr (A.length+6) 0 0)=some (.bool true):=by simp only [ab,q3]; rfl
   have le:ab false 1 Z1 (.ptr (A.length+5) 0 0)=some (.int .i64 x.2):=by simp only [ab,q2]; rfl
   have b1:=bK t x.2
   have s1:=iQ q1 (a:=.sl li 0 ln) rfl rfl
   have s2:=iQ (A:=Z1.set (A.length+4) (.row 1 false [.sl li 0 ln])) (id:=A.length+5) (e:=.int .i64 x.2) (a:=.int .i64 t) (by rw [RF (by omega)]; exact q2) rfl rfl
   have s3:=iQ (A:=(Z1.set (A.length+4) (.row 1 false [.sl li 0 ln])).set (A.length+5) (.row 1 false [.int .i64 t])) (id:=A.length+6) (e:=.bool true) (a:=.bool true) (by rw [RF (by omega),RF (by omega)]; exact q3) rfl rfl
   have hb:bet Z (A.length+5) (A.length+6) t=decide (t<x.2):=hb
   simp only [hb]
   generalize ((Z1.set (A.length+4) (.row 1 false [.sl li 0 ln])).set (A.length+5) (.row 1 false [.int .i64 t])).set (A.length+6) (.row 1 false [.bool true])=Z4 at *
   generalize (Z1.set (A.length+4) (.row 1 false [.sl li 0 ln])).set (A.length+5) (.row 1 false [.int .i64 t])=Z3 at *
   generalize Z1.set (A.length+4) (.row 1 false [.sl li 0 ln])=Z2 at *
   generalize decide (t<x.2)=q at *
   generalize x.2=x2 at *
   cases q with
   | true=>simp [l9,l4,l5,l6,k4,k5,k6,f4,f5,fl,aM,h34,h17,c34,m17,lf,le,b1,s1,s2,s3,bH,-ab,-az,-frz,-ag,List.replicate]
   | false=>simp [l9,l4,l5,l6,k4,k5,k6,f4,f5,fl,aM,h34,h17,c34,m17,lf,le,b1,bH,-ab,-az,-frz,-ag,List.replicate]
end
end Tr
namespace Tr
open Go
open Cy (GC iO aM bc aA)
open Clu (aT aY af chA aZ bD bA bK bL)
theorem s5 {E:Env} {fuel l:Nat} {r:Loop} {σ σ1 σ2 σ3 args:List AV} {ps:List Nat} {asg bdy:MC} {h:be} {A2 A3:ac} (h1:A[n0]?=some (.loop r 0)) (h2:iS σ ps args=some σ1)
  (h3:run E fuel [.code asg] σ1 A=some (.normal σ2 A2)) (h4:A2[n0]?=some (.loop r 0)) (h5:run E fuel [.code bdy] σ2 (A2.set n0 .dead)=some (.normal σ3 A3)) :
  fU n0 l r σ ps (evC E fuel asg) (evC E fuel bdy) h (.func (.yield l) [] []) args A=some (.bool true,A3.set n0 (.loop r 0)):=by
 unfold fU
 simp only [qF,h1,h2,h3,h4,h5,and_self,SX]
theorem tt (h:A[n]?=some e) (x:Ent):(A.set n x).set n e=A:=by
 rw [Ua]
 apply TO
 intro i
 by_cases hi:n=i
 ·subst hi; rw [RO (Rv.1 h).1,h]
 ·rw [RF hi]
theorem Rep.set {pb pe pf:Nat} {s:Option (List cO × Int)} (h:Rep pb pe pf n0 X s) (h1:j≠pb) (h2:j≠pe) (h3:j≠pf) (hj:j<=n0) (e:Ent):Rep pb pe pf n0 (X.set j e) s:=by
 obtain ⟨⟨a1,a2,a3⟩,h⟩:=h
 refine ⟨by simp; omega,?_⟩
 cases s with
 | none=>
  obtain ⟨b1,⟨x,b2⟩,b3⟩:=h
  exact ⟨by rw [RF h1,b1],⟨x,by rw [RF h2,b2]⟩,by rw [RF h3,b3]⟩
 | some x=>
  obtain ⟨⟨i,b0,b1,b2⟩,b3,b4⟩:=h
  exact ⟨⟨i,b0,by rw [RF h1,b1],by rw [RF (by omega),b2]⟩,by rw [RF h2,b3],by rw [RF h3,b4]⟩
section
variable {A:ac} {T:aT} {chv chF rdv rdF:AV} {rd:List Int} {free:Int}
def I14 (A:ac) (tv rdv:AV) (free:Int) (r:Loop) (X:ac):Prop:=D14 A tv rdv free X/\X[A.length+8]?=some (.loop r 0)/\∃s,Rep (A.length+4) (A.length+5) (A.length+6) (A.length+8) X s
noncomputable abbrev Hd14 (A:ac) (T:aT) (tv:AV) (rd:List Int) (free:Int):ac->List Int->ac:=HdD T tv rd free (A.length+4) (A.length+5) (A.length+6)
theorem D14.hd (h:D14 A tv rdv free X) (o:List Int):D14 A tv rdv free (Hd14 A T tv rd free X o):=by
 unfold Hd14 HdD
 split
 ·exact h.app _
 ·split
  ·exact (((h.app _).set (by omega) _).set (by omega) _).set (by omega) _
  ·exact h.app _
theorem yl14 (h0:be) (fs:List (FuncId × aJ)) (h34:aE fs 34=some H34) (h17:aE fs 17=some (aG 4 M17)) (hT:Tl A T chv chF) (hr:Rl A rd rdv rdF) (hS:Sit T rd free) (L:Nat) (r:Loop)
  (v0 v1 v2 v3 v7 v8 v9 v10 v11 v12 v13 v14 v18 v19 v20 v21 v22 v23 v24 v25 v26 v27 v28 v29 v30 v31 v32 v33 u34 v35 v36:AV) :
  Yl (fU (A.length+8) L r [v0,v1,v2,v3,.ptr A.length 0 0,.ptr (A.length+1) 0 0,.ptr (A.length+2) 0 0,v7,v8,v9,v10,v11,v12,v13,v14,.ptr (A.length+4) 0 0,.ptr (A.length+5) 0 0,.ptr (A.length+6) 0 0,v18,v19,v20,v21,v22,v23,v24,v25,v26,v27,v28,v29,v30,v31,v32,v33,u34,v35,v36] [34] (evC (dX GC fs h0) 300 sq) (evC (dX GC fs h0) 300 l9) h0)
   (.func (.yield L) [] []) (Hd14 A T (af T chv) rd free) (I14 A (af T chv) rdv free r) (Emp (b0 rd)) (A.length+4) (A.length+5) (A.length+6):=by
 refine ⟨⟨L,rfl⟩,fun X o ov hI hE ho=>?_,fun X o hI hE=>?_,fun X W hI=>?_,fun X o=>pm ..⟩
 ·obtain ⟨hD,hL,s,hR⟩:=hI
  have hll:=(Rv.1 hL).1
  have hbody:=Lv (Z:=X.set (A.length+8) .dead) (ov:=ov) (o:=o) h0 fs h34 h17 hT hr hS (hD.set (by omega) _) (by
    rcases ho with ho | ⟨id,off,gr,es,rfl,h1,h2⟩
    ·exact .inl ho
    ·refine .inr ⟨id,off,gr,es,rfl,?_,h2⟩
     rw [RF (fun e=>by rw [<-e,hL] at h1; cases h1)]; exact h1) hE (hR.set (by omega) (by omega) (by omega) (RR _) .dead)
   v0 v1 v2 v3 v7 v8 v9 v10 v11 v12 v13 v14 v19 v20 v21 v22 v23 v24 v25 v26 v27 v28 v29 v30 v31 v32 v33 ov v35 v36
  have hset:iS [v0,v1,v2,v3,.ptr A.length 0 0,.ptr (A.length+1) 0 0,.ptr (A.length+2) 0 0,v7,v8,v9,v10,v11,v12,v13,v14,.ptr (A.length+4) 0 0,.ptr (A.length+5) 0 0,.ptr (A.length+6) 0 0,v18,v19,v20,v21,v22,v23,v24,v25,v26,v27,v28,v29,v30,v31,v32,v33,u34,v35,v36] [34] [ov] =
   some [v0,v1,v2,v3,.ptr A.length 0 0,.ptr (A.length+1) 0 0,.ptr (A.length+2) 0 0,v7,v8,v9,v10,v11,v12,v13,v14,.ptr (A.length+4) 0 0,.ptr (A.length+5) 0 0,.ptr (A.length+6) 0 0,v18,v19,v20,v21,v22,v23,v24,v25,v26,v27,v28,v29,v30,v31,v32,v33,ov,v35,v36]:=rfl
  have hasg:run (dX GC fs h0) 300 [.code sq] [v0,v1,v2,v3,.ptr A.length 0 0,.ptr (A.length+1) 0 0,.ptr (A.length+2) 0 0,v7,v8,v9,v10,v11,v12,v13,v14,.ptr (A.length+4) 0 0,.ptr (A.length+5) 0 0,.ptr (A.length+6) 0 0,v18,v19,v20,v21,v22,v23,v24,v25,v26,v27,v28,v29,v30,v31,v32,v33,ov,v35,v36] X =
   some (.normal [v0,v1,v2,v3,.ptr A.length 0 0,.ptr (A.length+1) 0 0,.ptr (A.length+2) 0 0,v7,v8,v9,v10,v11,v12,v13,v14,.ptr (A.length+4) 0 0,.ptr (A.length+5) 0 0,.ptr (A.length+6) 0 0,ov,v19,v20,v21,v22,v23,v24,v25,v26,v27,v28,v29,v30,v31,v32,v33,ov,v35,v36] X):=by simp [sq]
  rw [s5 hL hset hasg hL hbody,C6 T _ rd free _ _ _ (by omega) (by omega) (by omega) _ _ (by simpa using hll),tt hL]
 ·obtain ⟨hD,hL,s,hR⟩:=hI
  have hll:=(Rv.1 hL).1
  exact ⟨hD.hd o,by rw [(pm ..).2 _ hll (by omega) (by omega) (by omega)]; exact hL,_,hR.step (by omega) (by omega) hll o⟩
 ·obtain ⟨hD,hL,s,hR⟩:=hI
  exact ⟨hD.app W,by rw [cS X W _ (Rv.1 hL).1]; exact hL,s,hR.app W⟩
def X14 (A:ac) (tv rdv:AV) (free:Int) (b:List Bool):ac:=A++[.row 5 false [tv],.row 1 false [rdv],.row 1 false [.int .i64 free],.row 1 false (aO b),.row 1 false [.nilS],.row 1 false [.int .i64 0],.row 1 false [.bool false],.row 1 false [.sl (A.length+3) 0 b.length]]
def E14 (A:ac) (T:aT) (tv rdv:AV) (rd:List Int) (free:Int):ac:=
 F57 (Hd14 A T tv rd free) 10 (b0 rd) [] (X14 A tv rdv free (b0 rd)++[.dead,.dead,.row 1 false [ee (A.length+9) (A.length+10)]])
theorem C9 (hS:Sit T rd free) (tv:AV):(∃R,E14 A T tv rdv rd free=A++R)/\Rep (A.length+4) (A.length+5) (A.length+6) (A.length+8) (E14 A T tv rdv rd free) (drF T rd free):=by
 have hx:(X14 A tv rdv free (b0 rd)++[Ent.dead,.dead,.row 1 false [ee (A.length+9) (A.length+10)]])=A++[.row 5 false [tv],.row 1 false [rdv],.row 1 false [.int .i64 free],.row 1 false (aO (b0 rd)),.row 1 false [.nilS],.row 1 false [.int .i64 0],.row 1 false [.bool false],.row 1 false [.sl (A.length+3) 0 (b0 rd).length],.dead,.dead,.row 1 false [ee (A.length+9) (A.length+10)]]:=by
  unfold X14; rw [R1]; rfl
 have h0:D14 A tv rdv free (X14 A tv rdv free (b0 rd)++[Ent.dead,.dead,.row 1 false [ee (A.length+9) (A.length+10)]])/\Rep (A.length+4) (A.length+5) (A.length+6) (A.length+8) (X14 A tv rdv free (b0 rd)++[Ent.dead,.dead,.row 1 false [ee (A.length+9) (A.length+10)]]) none:=by
  rw [hx]
  refine ⟨⟨⟨_,rfl⟩,by simp,by rw [bp]; rfl,by rw [bp]; rfl⟩,⟨by simp,?_⟩⟩
  exact ⟨by rw [bp]; rfl,⟨0,by rw [bp]; rfl⟩,by rw [bp]; rfl⟩
 have hlen:A.length+8<(X14 A tv rdv free (b0 rd)++[Ent.dead,.dead,.row 1 false [ee (A.length+9) (A.length+10)]]).length:=by rw [hx]; simp
 have:=xf (S:=Option (List cO × Int)) (Hd:=Hd14 A T tv rd free) (R:=fun X s=>D14 A tv rdv free X/\A.length+8<X.length/\Rep (A.length+4) (A.length+5) (A.length+6) (A.length+8) X s) (st:=fI T rd free) (E:=fun _=>True)
  (fun X W s h=>⟨h.1.app W,by simp; omega,h.2.2.app W⟩) (fun X s o _ h=>⟨h.1.hd o,S3 h.2.1 (C7 T tv rd free (A.length+4) (A.length+5) (A.length+6) X o),h.2.2.step (by omega) (by omega) h.2.1 o⟩)
  10 (b0 rd) [] _ none (vD (gE hS).2) (fun _ _=>trivial) ⟨h0.1,hlen,h0.2⟩
 have e:((gF 10 (b0 rd)).map (([]:List Int) ++ ·))=gF 10 (b0 rd):=by simp
 rw [e] at this
 exact ⟨this.1.pre,this.2.2⟩
theorem HB (fs:List (FuncId × aJ)) (h34:aE fs 34=some H34) (h17:aE fs 17=some (aG 4 M17)) (h56:aE fs 56=some H56) (hT:Tl A T chv chF) (hr:Rl A rd rdv rdF) (hS:Sit T rd free)
  (v0 v1 v2 v3 v7 v8 v9 v10 v11 v12 v13 v14 v18 v19 v20 v21 v22 v23 v24 v25 v26 v27 v28 v29 v30 v31 v32 u34 v35 v36:AV) (K:List KC) :
  run (aw GC fs) 300 (.code (.rangeFunc (.var 33) [34] sq l9) :: K) [v0,v1,v2,v3,.ptr A.length 0 0,.ptr (A.length+1) 0 0,.ptr (A.length+2) 0 0,v7,v8,v9,v10,v11,v12,v13,v14,.ptr (A.length+4) 0 0,.ptr (A.length+5) 0 0,.ptr (A.length+6) 0 0,v18,v19,v20,v21,v22,v23,v24,v25,v26,v27,v28,v29,v30,v31,v32,.func (.func 56) [] [.ptr (A.length+7) 0 0],u34,v35,v36] (X14 A (af T chv) rdv free (b0 rd)) =
   after (aw GC fs) 300 K (.normal [v0,v1,v2,v3,.ptr A.length 0 0,.ptr (A.length+1) 0 0,.ptr (A.length+2) 0 0,v7,v8,v9,v10,v11,v12,v13,v14,.ptr (A.length+4) 0 0,.ptr (A.length+5) 0 0,.ptr (A.length+6) 0 0,v18,v19,v20,v21,v22,v23,v24,v25,v26,v27,v28,v29,v30,v31,v32,.func (.func 56) [] [.ptr (A.length+7) 0 0],u34,v35,v36] (E14 A T (af T chv) rdv rd free)):=by
 refine lw _ _ _ _ _ fun L r=>?_
 have hl8:(X14 A (af T chv) rdv free (b0 rd)).length=A.length+8:=by simp [X14]
 obtain ⟨X0,hX0⟩:∃X0,X0=X14 A (af T chv) rdv free (b0 rd)++[Ent.loop r 0]:=⟨_,rfl⟩
 have hX0':X0=A++[.row 5 false [af T chv],.row 1 false [rdv],.row 1 false [.int .i64 free],.row 1 false (aO (b0 rd)),.row 1 false [.nilS],.row 1 false [.int .i64 0],.row 1 false [.bool false],.row 1 false [.sl (A.length+3) 0 (b0 rd).length],.loop r 0]:=by
  rw [hX0]; unfold X14; rw [R1]; rfl
 have hX0l:X0.length=A.length+9:=by rw [hX0']; simp
 have hA56:A56 X0 (.func (.yield L) [] [])=A++[.row 5 false [af T chv],.row 1 false [rdv],.row 1 false [.int .i64 free],.row 1 false (aO (b0 rd)),.row 1 false [.nilS],.row 1 false [.int .i64 0],.row 1 false [.bool false],.row 1 false [.sl (A.length+3) 0 (b0 rd).length],.loop r 0,.row 1 false [.func (.yield L) [] []],.row 1 false [ee (A.length+9) (A.length+10)]]:=by
  unfold A56; rw [hX0l,hX0',R1]; rfl
 have hy:=yl14 (fun _ _ _=>none) fs h34 h17 hT hr hS L r v0 v1 v2 v3 v7 v8 v9 v10 v11 v12 v13 v14 v18 v19 v20 v21 v22 v23 v24 v25 v26 v27 v28 v29 v30 v31 v32 (.func (.func 56) [] [.ptr (A.length+7) 0 0]) u34 v35 v36
 have hI:I14 A (af T chv) rdv free r (A56 X0 (.func (.yield L) [] [])):=by
  rw [hA56]
  refine ⟨⟨⟨_,rfl⟩,by simp,by rw [bp]; rfl,by rw [bp]; rfl⟩,by rw [bp]; rfl,none,⟨by simp,?_⟩⟩
  exact ⟨by rw [bp]; rfl,⟨0,by rw [bp]; rfl⟩,by rw [bp]; rfl⟩
 have hc:=Mk (A:=X0) (b:=b0 rd) (bi:=A.length+3) (ip:=A.length+7) hy (by omega) hI (by rw [hX0',bp]; rfl) (by omega) (by rw [hX0',bp]; rfl) (by rw [dQ]; exact (gE hS).2) (fun _ h=>h)
 have hs:=fun (j:Nat) (e:Ent) (h1:j≠A.length+4) (h2:j≠A.length+5) (h3:j≠A.length+6)=>C8 (Hd:=Hd14 A T (af T chv) rd free) (j:=j) (e:=e) (fun X o=>C7 ..) (fun X o hj=>C6 T _ rd free _ _ _ h1 h2 h3 X o hj) 10 (b0 rd) []
 have hAl:(A56 X0 (.func (.yield L) [] [])).length=A.length+11:=by rw [hA56]; simp
 obtain ⟨k1,k2⟩:=hs (A.length+9) .dead (by omega) (by omega) (by omega) (A56 X0 (.func (.yield L) [] [])) (by omega)
 rw [hX0l,k2] at hc
 have hkeep:=t8 (Hd:=Hd14 A T (af T chv) rd free) (pb:=A.length+4) (pe:=A.length+5) (pf:=A.length+6) (fun X o=>pm ..) 10 (b0 rd) [] ((A56 X0 (.func (.yield L) [] [])).set (A.length+9) .dead)
 have hloop:(F57 (Hd14 A T (af T chv) rd free) 10 (b0 rd) [] ((A56 X0 (.func (.yield L) [] [])).set (A.length+9) .dead))[A.length+8]?=some (.loop r 0):=by
  rw [hkeep.2 (A.length+8) (by simp; omega) (by omega) (by omega) (by omega),RF (by omega),hA56,bp]; rfl
 obtain ⟨_,k4⟩:=hs (A.length+8) .dead (by omega) (by omega) (by omega) ((A56 X0 (.func (.yield L) [] [])).set (A.length+9) .dead) (by simp; omega)
 have hend:(F57 (Hd14 A T (af T chv) rd free) 10 (b0 rd) [] ((A56 X0 (.func (.yield L) [] [])).set (A.length+9) .dead)).set (A.length+8) .dead=E14 A T (af T chv) rdv rd free:=by
  rw [k4]
  unfold E14
  congr 1
  rw [hA56,R8 _ _ (by omega),R8 _ _ (by omega),Sx,Sx]
  unfold X14
  rw [R1]
  rfl
 rw [<-hX0,hl8]
 have hcall:kQ fs (fU (A.length+8) L r [v0,v1,v2,v3,.ptr A.length 0 0,.ptr (A.length+1) 0 0,.ptr (A.length+2) 0 0,v7,v8,v9,v10,v11,v12,v13,v14,.ptr (A.length+4) 0 0,.ptr (A.length+5) 0 0,.ptr (A.length+6) 0 0,v18,v19,v20,v21,v22,v23,v24,v25,v26,v27,v28,v29,v30,v31,v32,.func (.func 56) [] [.ptr (A.length+7) 0 0],u34,v35,v36] [34] (evC (dX GC fs fun _ _ _=>none) 300 sq) (evC (dX GC fs fun _ _ _=>none) 300 l9) fun _ _ _=>none)
   (.func (.func 56) [] [.ptr (A.length+7) 0 0]) [.func (.yield L) [] []] X0=some (.tup [],F57 (Hd14 A T (af T chv) rd free) 10 (b0 rd) [] ((A56 X0 (.func (.yield L) [] [])).set (A.length+9) .dead)):=by
  rw [<-hc]
  simp [kQ,h56]
 show (match kQ fs _ (.func (.func 56) [] [.ptr (A.length+7) 0 0]) [.func (.yield L) [] []] X0 with
  | some (_,A')=>mQ (A.length+8) _ A'
  | none=>none)=_
 erw [hcall]
 simp only [mQ,hloop,SX,hend]
end
end Tr
namespace Tr
open Go
open Cy (GC aM bc aA)
open Clu (aT aY af chA aZ bD bA)
def H54:aJ:=fun _=>cc (aw GC []) 0 MB
theorem Js:au Try.prog GC 54 H54:=(b7 (ay aB) rfl at54 La bG.nil).y
theorem Ml (h:be) (ha:de A 2 a es) (hne:es≠[]) (hl:es.length<=1000):H54 h [a] A=some (.sl (A.length+1) 0 es.length,A++[.dead,.row 2 false es]):=by
 unfold H54
 rw [bh _ _ rfl]
 have hb:es.length*16<=140737488355328:=by omega
 rcases ha with h | ⟨id,off,gr,rs,rfl,h1,h2⟩
 ·rcases h with ⟨_,h⟩ | rfl
  ·exact absurd h hne
  ·simp [MB,dE,aR,a8,hb]
 ·have hid:=(Rv.1 h1).1
  have h1':∀T,(A++T)[id]?=some (.row 2 gr rs):=fun T=>by rw [RC hid,h1]
  simp [MB,dE,aR,a8,h1',h2,hb]
def Ow:List (FuncId × aJ):=[(54,H54),(53,H53)]
@[simp] theorem Ou:aE Ow 54=some H54:=rfl
@[simp] theorem Ov:aE Ow 53=some H53:=rfl
def H31:aJ:=fun _=>cc (aw GC Ow) 0 DQ
theorem Ad:au Try.prog GC 31 H31:=(b7 (ay (ai Js (ai Jt aB))) rfl P9 BV bG.nil).y
theorem Mq (h:be) (ha:de A 2 a es) (hl:es.length<=1000) (hk:k<es.length):H31 h [a,.int .i64 (k:Int)] A=some (.sl (A.length+1) 0 (es.length-1),A++[.dead,.row 2 false (rC es k Da)]):=by
 have hne:es≠[]:=fun e=>by rw [e] at hk; exact absurd hk (Tx _)
 have c54:=fun hh=>Ml hh ha hne hl
 have b1:ag .add (.int .i64 (k:Int)) (.int .i64 1)=some (.int .i64 ((k:Int)+1)):=aZ (by omega)
 have c53:∀hh,H53 hh [.sl (A.length+1) 0 es.length,.int .i64 (k:Int),.int .i64 ((k:Int)+1)] (A++[.dead,.row 2 false es])=some (.sl (A.length+1) 0 (es.length-1),A++[.dead,.row 2 false (rC es k Da)]):=fun hh=>by
  have:(A++[Ent.dead,.row 2 false es])[A.length+1]?=some (.row 2 false es):=by rw [bp]; rfl
  simp only [H53,this]
  rw [RH ⟨trivial,by omega,trivial,by omega⟩,RW,R8 _ _ (by omega),Sx]
  rfl
 generalize A++[Ent.dead,.row 2 false es]=A1 at *
 generalize (k:Int)+1=K1 at *
 unfold H31
 rw [bh _ _ rfl]
 simp [DQ,c54,c53,b1,-ag]
def Ot:List (FuncId × aJ):=[(40,H40),(55,H55)]
@[simp] theorem Oq:aE Ot 40=some H40:=rfl
@[simp] theorem Oo:aE Ot 55=some H55:=rfl
def H32:aJ:=fun _=>cc (aw GC Ot) 0 IM
theorem ug:au Try.prog GC 32 H32:=(b7 (ay (ai pP (ai Jr aB))) rfl P8 BU bG.nil).y
theorem Mp (h:be) {xs:List Int} (ha:de A 1 a (aj xs)) (hl:xs.length<=1000) (hk:k<xs.length):H32 h [a,.int .i64 (k:Int)] A=some (.sl (A.length+1) 0 (xs.length-1),A++[.dead,.row 1 false (rC (aj xs) k Dm)]):=by
 have hne:xs≠[]:=fun e=>by rw [e] at hk; exact absurd hk (Tx _)
 have c40:=fun hh=>Gi hh ha hne hl
 have b1:ag .add (.int .i64 (k:Int)) (.int .i64 1)=some (.int .i64 ((k:Int)+1)):=aZ (by omega)
 have c55:∀hh,H55 hh [.sl (A.length+1) 0 xs.length,.int .i64 (k:Int),.int .i64 ((k:Int)+1)] (A++[.dead,.row 1 false (aj xs)])=some (.sl (A.length+1) 0 (xs.length-1),A++[.dead,.row 1 false (rC (aj xs) k Dm)]):=fun hh=>by
  have:(A++[Ent.dead,.row 1 false (aj xs)])[A.length+1]?=some (.row 1 false (aj xs)):=by rw [bp]; rfl
  simp only [H55,this]
  rw [RH ⟨by rw [aA],by omega,trivial,by omega⟩,RW,R8 _ _ (by omega),Sx]
  rfl
 generalize A++[Ent.dead,.row 1 false (aj xs)]=A1 at *
 generalize (k:Int)+1=K1 at *
 unfold H32
 rw [bh _ _ rfl]
 simp [IM,c40,c55,b1,-ag]
def jS {α:Type} (l:List α) (k:Nat):List α:=l.take k++l.drop (k+1)
theorem mJ {α:Type} {l:List α} (h:k<l.length):(jS l k).length=l.length-1:=by simp [jS]; omega
theorem vg {id sz:Nat} {za:AV} (h:A[id]?=some (.row sz false (rC es k za))) (hk:k<es.length):de A sz (.sl id 0 (es.length-1)) (jS es k):=by
 refine .inr ⟨id,0,false,_,by rw [mJ hk],h,?_⟩
 rw [RT,mJ hk]
 unfold rC jS
 rw [List.take_append_of_le_length (by simp; omega)]
 exact RX (by simp; omega)
theorem BH {α β:Type} (f:α->β) (l:List α) (k:Nat):jS (l.map f) k=(jS l k).map f:=by simp [jS]
def jN (T:aT) (k:Nat):aT:={T with ch:=jS T.ch k}
end Tr
namespace Tr
open Go
open Cy (GC iO aM bc aA)
open Clu (aT aY af chA aZ bD bA bK bL)
def it:List (FuncId × aJ):=(31,H31) :: (32,H32) :: x6
theorem th:∀f M,aE it f=some M->au Try.prog GC f M:=ai Ad (ai ug pR)
def H14:Nat->aJ
 | 0=>fun h=>cc (dX GC it h) 300 mY
 | k+1=>fun h=>cc (dX GC ((14,H14 k) :: it) h) 300 mY
theorem nM:∀k,au Try.prog GC 14 (H14 k)
 | 0=>cC th Er mK bG.nil
 | k+1=>cC (ai (nM k) th) Er mK bG.nil
section
variable {A:ac} {T:aT} {chv chF rdv rdF:AV} {rd:List Int} {free:Int}
def bB (rd:List Int) (i:Nat):List Bool:=(b0 rd).take i++List.replicate (rd.length-i) false
theorem F3 (rd:List Int) (h:i<=rd.length):(bB rd i).length=rd.length:=by simp [bB,dQ]; omega
theorem Lx (rd:List Int) (h:i<rd.length):(bB rd i).set i (decide (0<=rd.getD i 0))=bB rd (i+1):=by
 apply TO
 intro j
 have hb:(b0 rd)[i]?=some (decide (0<=rd.getD i 0)):=by
  have h1:=F4 h
  rw [Rw,Rx (by rw [dQ]; exact h)] at h1
  rw [Rx (by rw [dQ]; exact h)]
  simpa using h1
 by_cases hj:i=j
 ·subst hj
  rw [RO (by rw [F3 rd (by omega)]; exact h)]
  unfold bB
  rw [RC (by simp [dQ]; omega),TH,RH (by omega),hb]
 ·rw [RF hj]
  unfold bB
  by_cases h2:j<i
  ·rw [RC (by simp [dQ]; omega),RC (by simp [dQ]; omega),TH,TH,RH h2,RH (by omega)]
  ·rw [RS (by simp [dQ]; omega),RS (by simp [dQ]; omega)]
   simp only [SM,dQ,SW]
   by_cases h3:j<rd.length
   ·rw [RH (by omega),RH (by omega)]
   ·rw [RK (by omega),RK (by omega)]
def Z14 (A:ac) (tv rdv:AV) (free:Int) (b:List Bool):ac:=A++[.row 5 false [tv],.row 1 false [rdv],.row 1 false [.int .i64 free],.row 1 false (aO b)]
theorem H4 (h:be) (fs:List (FuncId × aJ)) (hr:de A 1 rdv (aj rd)) (hrl:rd.length<=100):∀(c i m:Nat),i+c=rd.length->c<m ->
  bM (evC (dX GC fs h) 300 nW) jI m (pN (.ptr A.length 0 0) (.ptr (A.length+1) 0 0) (.ptr (A.length+2) 0 0) (.sl (A.length+3) 0 rd.length) rdv (.int .i64 (rd.length:Int)) (.int .i64 (i:Int))) (Z14 A tv rdv free (bB rd i)) =
   some (.exit 2 ((pN (.ptr A.length 0 0) (.ptr (A.length+1) 0 0) (.ptr (A.length+2) 0 0) (.sl (A.length+3) 0 rd.length) rdv (.int .i64 (rd.length:Int)) (.int .i64 (rd.length:Int))).set 32 (.bool false)) (Z14 A tv rdv free (bB rd rd.length))):=by
 intro c
 induction c with
 | zero=>
  intro i m hi hm
  obtain ⟨m,rfl⟩:∃j,m=j+1:=⟨m-1,by omega⟩
  obtain rfl:i=rd.length:=by omega
  have b0':=a9 rd.length rd.length .i64
  rw [RD (by omega)] at b0'
  rw [aD,Cu]
  simp [nW,b0',-ag]
 | succ c ih=>
  intro i m hi hm
  obtain ⟨m,rfl⟩:∃j,m=j+1:=⟨m-1,by omega⟩
  have hil:i<rd.length:=by omega
  have b0':=a9 i rd.length .i64
  rw [RE hil] at b0'
  have b1:=aV i (by omega)
  obtain ⟨p,h1,h2⟩:=hr.int (B:=Z14 A tv rdv free (bB rd i)) (cS A _) hil .i64
  have hrd:rd[i]=rd.getD i 0:=by rw [Rw,Rx hil]; rfl
  rw [hrd] at h2
  have b2:=iO (rd.getD i 0)
  have hrow:(Z14 A tv rdv free (bB rd i))[A.length+3]?=some (.row 1 false (aO (bB rd i))):=by unfold Z14; rw [bp]; rfl
  have i1:=cE (n:=rd.length) hrow hil .i64
  have s1:=gD hrow (show i<(bB rd i).length by rw [F3 rd (by omega)]; exact hil) (decide (0<=rd.getD i 0))
  rw [Lx rd hil] at s1
  have eS:(Z14 A tv rdv free (bB rd i)).set (A.length+3) (.row 1 false (aO (bB rd (i+1))))=Z14 A tv rdv free (bB rd (i+1)):=by
   unfold Z14
   rw [R8 _ _ (by omega),Sx]; rfl
  rw [eS] at s1
  have hr':=ih (i+1) m (by omega) (by omega)
  obtain ⟨i1',hi1'⟩:∃i1:Nat,i1=i+1:=⟨_,rfl⟩
  rw [<-hi1'] at b1 s1 hr'
  have hrun:run (dX GC fs h) 300 [.code nW] (pN (.ptr A.length 0 0) (.ptr (A.length+1) 0 0) (.ptr (A.length+2) 0 0) (.sl (A.length+3) 0 rd.length) rdv (.int .i64 (rd.length:Int)) (.int .i64 (i:Int))) (Z14 A tv rdv free (bB rd i)) =
    some (.normal (pN (.ptr A.length 0 0) (.ptr (A.length+1) 0 0) (.ptr (A.length+2) 0 0) (.sl (A.length+3) 0 rd.length) rdv (.int .i64 (rd.length:Int)) (.int .i64 (i1':Int))) (Z14 A tv rdv free (bB rd i1'))):=by
   generalize Z14 A tv rdv free (bB rd i)=B0 at *
   generalize Z14 A tv rdv free (bB rd i1')=B1 at *
   generalize decide (0<=rd.getD i 0)=q at *
   generalize rd.getD i 0=z at *
   simp [nW,b0',b1,b2,h1,h2,i1,s1,-ag,-ab,-ae,-az]
  rw [aD,Cu,hrun]
  exact hr'
theorem tq (h:X[n]?=some e):X.set n e=X:=by
 apply TO
 intro q
 by_cases hq:n=q
 ·subst hq; rw [RO (Rv.1 h).1,h]
 ·rw [RF hq]
def RV (lo:Nat) (B:ac) (v:AV) (l:List cO):Prop:=(v=.nilS/\l=[])\/∃i,lo<=i/\v=.sl i 0 l.length/\B[i]?=some (.row 2 false (l.map aL))
theorem sL (fs:List (FuncId × aJ)) (h29:aE fs 29=some (aG 4 M29)) (h30:aE fs 30=some (aG 4 M30)) (h34:aE fs 34=some H34) (h17:aE fs 17=some (aG 4 M17)) (h33:aE fs 33=some H33) (h56:aE fs 56=some H56) (hT:Tl A T chv chF) (hr:Rl A rd rdv rdF) (hTl:T.ch.length<=200) (hrl:rd.length<=200) :
  ∃v B,cc (aw GC fs) 300 mY [af T chv,rdv,.int .i64 free,.int .i64 0] A=some (.tup [v,.bool (bV T rd free).isSome],B)/\(∃R,B=A++R)/\RV A.length B v ((bV T rd free).getD []):=by
 have m29:=C2 hT.sF hTl hr.sF hrl free
 obtain ⟨tv,htv⟩:∃tv,tv=af T chv:=⟨_,rfl⟩
 obtain ⟨R0,hR0⟩:∃R0,R0=[Ent.row 5 false [tv],.row 1 false [rdv],.row 1 false [.int .i64 free]]:=⟨_,rfl⟩
 have hsol:rdv.solid=true/\cellsOf rdv=[rdv]:=by rcases hr.h.form with (e | ⟨e,l,e'⟩) | ⟨a,b,c,e⟩ <;> simp_all [AV.solid,cellsOf]
 have bx1:aS 5 tv A=some (.ptr A.length 0 0,A++[.row 5 false [tv]]):=by rw [htv]; rfl
 have bx2:aS 1 rdv (A++[.row 5 false [tv]])=some (.ptr (A.length+1) 0 0,A++[.row 5 false [tv],.row 1 false [rdv]]):=by
  unfold aS
  rw [RH ⟨by omega,hsol.1,by rw [hsol.2]; rfl⟩]
  simp
 have bx3:aS 1 (.int .i64 free) (A++[.row 5 false [tv],.row 1 false [rdv]])=some (.ptr (A.length+2) 0 0,A++R0):=by rw [hR0]; simp [aS,AV.solid,cellsOf]
 have ct:(cellsOf tv).length=5:=by rw [htv]; rfl
 have ci:(cellsOf (.int .i64 free)).length=1:=rfl
 have hD:D14 A tv rdv free (A++R0):=by
  rw [hR0]
  exact ⟨⟨_,rfl⟩,by simp,by rw [bp]; rfl,by rw [bp]; rfl⟩
 obtain ⟨l4,l5,l6⟩:=(htv ▸ hD:D14 A (af T chv) rdv free (A++R0)).loads (tv:=tv) hr.h.form
 have f4:=hT.fz R0
 have f5:=hr.fz R0
 have lnr:=hr.h.len
 rw [aA] at lnr
 have m30:M30 [.int .i64 0,.int .i64 0,.int .i64 (rd.length:Int)]=some (.bool true):=by
  rw [cf,cD.2 (by omega)]
 have b1:=bL 0 0
 rw [RD (by omega)] at b1
 rw [<-htv] at l4 f4
 by_cases hS:Sit T rd free
 rotate_left
 ·rw [RD hS] at m29
  have hd:bV T rd free=none:=RK hS
  refine ⟨.nilS,A++R0,?_,⟨R0,rfl⟩,.inl ⟨rfl,by rw [hd]; rfl⟩⟩
  rw [hd,<-htv]
  generalize A++R0=Z at *
  rw [bh _ _ rfl]
  simp [mY,bx1,bx2,bx3,ct,ci,hsol.2,l4,l5,l6,h29,f4,f5,aM,m29,bH,dE,-aS,-ab,-frz,-cellsOf]
 rw [RE hS] at m29
 have hsl:=gE hS
 have hd:(bV T rd free).isSome=(drF T rd free).isSome/\(bV T rd free).getD []=((drF T rd free).map (·.1)).getD []:=by
  unfold bV
  rw [RH hS]
  cases drF T rd free <;> exact ⟨rfl,rfl⟩
 obtain ⟨hE1,hE2⟩:=C9 (A:=A) (rdv:=rdv) hS tv
 have mk:bU 1 1 (.bool false) (A++R0) (.int .i64 (rd.length:Int)) (.int .i64 (rd.length:Int))=some (.sl (A.length+3) 0 rd.length,Z14 A tv rdv free (bB rd 0)):=by
  have hl3:(A++R0).length=A.length+3:=by rw [hR0]; simp
  simp only [bU]
  have eZ:A++R0++[Ent.row 1 false (List.replicate rd.length (.bool false))]=Z14 A tv rdv free (bB rd 0):=by
   unfold Z14 bB aO
   rw [hR0]
   simp
  rw [RH ⟨by omega,by omega,by omega,by omega,rfl,rfl,by omega⟩,hl3,RW,eZ]
 have lpb:=H4 (tv:=tv) (free:=free) (fun _ _ _=>none) fs hr.h (by omega) rd.length 0 300 (by omega) (by omega)
 have lpb:bM (evC (aw GC fs) 300 nW) jI 300 (pN (.ptr A.length 0 0) (.ptr (A.length+1) 0 0) (.ptr (A.length+2) 0 0) (.sl (A.length+3) 0 rd.length) rdv (.int .i64 (rd.length:Int)) (.int .i64 0)) (Z14 A tv rdv free (bB rd 0))=_:=lpb
 have hbB:bB rd rd.length=b0 rd:=by
  unfold bB
  rw [Tq,List.replicate_zero,Sk]
  exact RX (by rw [dQ]; exact RR _)
 rw [hbB] at lpb
 have hDZ:∀W,D14 A tv rdv free (Z14 A tv rdv free (bB rd 0)++W):=fun W=>by
  unfold Z14
  rw [R1]
  exact ⟨⟨_,rfl⟩,by simp,by rw [bp]; rfl,by rw [bp]; rfl⟩
 obtain ⟨_,l5b,_⟩:=(htv ▸ (by simpa using hDZ []):D14 A (af T chv) rdv free (Z14 A tv rdv free (bB rd 0))).loads (tv:=tv) hr.h.form
 obtain ⟨ZA,hZA⟩:∃ZA,ZA=Z14 A tv rdv free (b0 rd):=⟨_,rfl⟩
 have hZAl:ZA.length=A.length+4:=by rw [hZA]; simp [Z14]
 have e15:aS 1 .nilS ZA=some (.ptr (A.length+4) 0 0,ZA++[.row 1 false [.nilS]]):=by simp [aS,AV.solid,cellsOf,hZAl]
 have e16:aS 1 (.int .i64 0) (ZA++[.row 1 false [.nilS]])=some (.ptr (A.length+5) 0 0,ZA++[.row 1 false [.nilS],.row 1 false [.int .i64 0]]):=by simp [aS,AV.solid,cellsOf,hZAl]
 have e17:aS 1 (.bool false) (ZA++[.row 1 false [.nilS],.row 1 false [.int .i64 0]])=some (.ptr (A.length+6) 0 0,ZA++[.row 1 false [.nilS],.row 1 false [.int .i64 0],.row 1 false [.bool false]]):=by simp [aS,AV.solid,cellsOf,hZAl]
 obtain ⟨ZB,hZB⟩:∃ZB,ZB=ZA++[Ent.row 1 false [.nilS],.row 1 false [.int .i64 0],.row 1 false [.bool false]]:=⟨_,rfl⟩
 have g5:ZB[A.length+5]?=some (.row 1 false [.int .i64 0]):=by rw [hZB,show A.length+5=ZA.length+1 by omega,bp]; rfl
 have g6:ZB[A.length+6]?=some (.row 1 false [.bool false]):=by rw [hZB,show A.length+6=ZA.length+2 by omega,bp]; rfl
 have s16:az 1 ZB (.ptr (A.length+5) 0 0) (.int .i64 0)=some ZB:=by
  rw [iQ g5 rfl rfl,tq g5]
 have s17:az 1 ZB (.ptr (A.length+6) 0 0) (.bool false)=some ZB:=by
  rw [iQ g6 rfl rfl,tq g6]
 have c33:∀hh,H33 hh [.sl (A.length+3) 0 rd.length] ZB=some (.func (.func 56) [] [.ptr (A.length+7) 0 0],X14 A tv rdv free (b0 rd)):=fun hh=>by
  have hl7:ZB.length=A.length+7:=by rw [hZB]; simp [hZAl]
  have eX:ZB++[Ent.row 1 false [.sl (A.length+3) 0 rd.length]]=X14 A tv rdv free (b0 rd):=by
   rw [hZB,hZA]
   unfold X14 Z14
   rw [dQ]
   simp
  rw [Mo,hl7,eX]
 have rg:=fun K=>HB (A:=A) (T:=T) (chv:=chv) (rdv:=rdv) (free:=free) fs h34 h17 h56 hT hr hS .undef .undef .undef .undef .undef .undef .undef .undef .undef (.sl (A.length+3) 0 rd.length) .undef .undef .undef .undef .undef .undef .undef .undef .undef .undef .undef .undef .undef .undef .undef .undef .undef .undef .undef .undef K
 rw [hd.1,hd.2]
 obtain ⟨EE,hEE⟩:∃EE,EE=E14 A T tv rdv rd free:=⟨_,rfl⟩
 rw [<-hEE] at hE1 hE2
 rw [<-htv,<-hEE] at rg
 have fin:∀(v:AV) (q:Bool),ab false 1 EE (.ptr (A.length+4) 0 0)=some v->ab false 1 EE (.ptr (A.length+6) 0 0)=some (.bool q) ->
   cc (aw GC fs) 300 mY [af T chv,rdv,.int .i64 free,.int .i64 0] A=some (.tup [v,.bool q],EE):=fun v q hv hq=>by
  rw [<-htv]
  rw [hZB] at s16 s17 c33
  generalize hXX:X14 A tv rdv free (b0 rd)=XX at *
  generalize ZA++[Ent.row 1 false [.nilS],.row 1 false [.int .i64 0],.row 1 false [.bool false]]=ZB1 at *
  generalize ZA++[Ent.row 1 false [.nilS],.row 1 false [.int .i64 0]]=ZB2 at *
  generalize ZA++[Ent.row 1 false [.nilS]]=ZB3 at *
  rw [<-hZA] at lpb
  generalize Z14 A tv rdv free (bB rd 0)=Z0 at *
  generalize A++R0=Z at *
  generalize hn:(rd.length:Int)=n at *
  rw [bh _ _ rfl]
  simp [mY,bx1,bx2,bx3,ct,ci,hsol.2,l4,l5,l6,h29,h30,f4,f5,aM,m29,m30,bH,lnr,b1,mk,l5b,Kz lpb,e15,e16,e17,s16,s17,h33,c33,rg,hv,hq,dE,-aS,-ab,-az,-frz,-cellsOf,-ag,-bU,-aq,-cf]
 cases hdF:drF T rd free with
 | none=>
  rw [hdF] at hE2
  obtain ⟨_,q1,_,q3⟩:=hE2
  refine ⟨.nilS,EE,fin _ _ (by simp only [ab,q1]; rfl) (by simp only [ab,q3]; rfl),hE1,.inl ⟨rfl,rfl⟩⟩
 | some x=>
  rw [hdF] at hE2
  obtain ⟨_,⟨i,hi,q1,q2⟩,_,q3⟩:=hE2
  refine ⟨.sl i 0 x.1.length,EE,fin _ _ (by simp only [ab,q1]; rfl) (by simp only [ab,q3]; rfl),hE1,.inr ⟨i,by omega,rfl,q2⟩⟩
end
end Tr
namespace Tr
open Go
open Cy (GC iO aM bc aA)
open Clu (aT aY af chA aZ bD bA bK bL)
def gJ (lost:Int) (t:cO):cO:=if lost<=t.1 then (t.1+1,t.2) else t
def fB (lost:Int) (l:List cO) (j:Nat):List cO:=(l.take j).map (gJ lost)++l.drop j
theorem CB (lost:Int) (l:List cO) (j:Nat):(fB lost l j).length=l.length:=by simp [fB]; omega
theorem vA (lost:Int) {l:List cO} (h:j<l.length):(fB lost l j)[j]?=some l[j]:=by
 unfold fB
 rw [RS (by simp; omega),SQ]
 simp only [RN,SM]
 rw [show j+(j-min j l.length)=j by omega,Rx h]
theorem vz (lost:Int) {l:List cO} (h:j<l.length):(fB lost l j).set j (gJ lost l[j])=fB lost l (j+1):=by
 unfold fB
 rw [R8 _ _ (by simp; omega),List.take_add_one,SH,Rx h,R1]
 congr 1
 simp only [RN,SM]
 rw [show j-min j l.length=0 by omega,Sw h]
 rfl
section
variable {B:ac} {i:Nat} {l:List cO} {lost:Int}
theorem AU (h:B[i]?=some (.row 2 false (l.map aL))) (hj:j<n) (kk:IntKind):ae 2 B (.sl i 0 n) (.int kk (j:Int))=some (.ptr i j 0):=by
 simp only [ae,h]
 rw [RH ⟨trivial,by omega,by omega,by omega⟩]
 simp
theorem AP (h:B[i]?=some (.row 2 false (l.map aL))) {t:cO} (hj:l[j]?=some t):aa 0 B (.ptr i j 0)=some (.ptr i j 0)/\ab false 1 B (.ptr i j 0)=some (.int .i64 t.1):=by
 have e:(l.map aL)[j]?=some (aL t):=by simp [hj]
 refine ⟨by simp [aa,h],?_⟩
 simp only [ab,h,e]
 rfl
theorem zZ (h:B[i]?=some (.row 2 false (l.map aL))) {t:cO} (hj:l[j]?=some t) (z:Int):az 1 B (.ptr i j 0) (.int .i64 z)=some (B.set i (.row 2 false ((l.set j (z,t.2)).map aL))):=by
 have e:(l.map aL)[j]?=some (aL t):=by simp [hj]
 have e2:(l.map aL).set j (aL (z,t.2))=(l.set j (z,t.2)).map aL:=by rw [Up]
 simp only [az,h,e]
 rw [RH ⟨trivial,rfl,rfl,by omega⟩,<-e2]
 rfl
theorem H5 (h:be) (fs:List (FuncId × aJ)) (ok:AV) (hl:l.length<=100) (hb:∀t∈l,-1000<=t.1/\t.1<=1000):∀(c j m:Nat) (B:ac),j+c=l.length->B[i]?=some (.row 2 false ((fB lost l j).map aL))->c<m ->
  ∃B',bM (evC (dX GC fs h) 300 kn) jJ m (nJ (.int .i64 lost) (.sl i 0 l.length) ok (.int .i64 (l.length:Int)) (.int .i64 (j:Int))) B =
   some (.exit 0 ((nJ (.int .i64 lost) (.sl i 0 l.length) ok (.int .i64 (l.length:Int)) (.int .i64 (l.length:Int))).set 27 (.bool false)) B')/\B'=B.set i (.row 2 false ((l.map (gJ lost)).map aL)):=by
 intro c
 induction c with
 | zero=>
  intro j m B hj hB hm
  obtain ⟨m,rfl⟩:∃j,m=j+1:=⟨m-1,by omega⟩
  obtain rfl:j=l.length:=by omega
  have b0':=a9 l.length l.length .i64
  rw [RD (by omega)] at b0'
  have e:fB lost l l.length=l.map (gJ lost):=by unfold fB; rw [Se,SP,Sk]
  rw [e] at hB
  refine ⟨B,?_,(tq hB).symm⟩
  rw [aD,yr]
  simp [kn,b0',-ag]
 | succ c ih=>
  intro j m B hj hB hm
  obtain ⟨m,rfl⟩:∃j,m=j+1:=⟨m-1,by omega⟩
  have hjl:j<l.length:=by omega
  have hil:=(Rv.1 hB).1
  have b0':=a9 j l.length .i64
  rw [RE hjl] at b0'
  have b1:=aV j (by omega)
  have i1:=AU (n:=l.length) hB hjl .i64
  have hg:=vA lost hjl
  obtain ⟨f0,l0⟩:=AP hB hg
  have s1:=zZ hB hg (l[j].1+1)
  have hbj:=hb _ (RM hjl)
  have b2:ag .geq (.int .i64 l[j].1) (.int .i64 lost)=some (.bool (decide (lost<=l[j].1))):=by simp [ag]
  have b3:ag .add (.int .i64 l[j].1) (.int .i64 1)=some (.int .i64 (l[j].1+1)):=aZ (by omega)
  have hset:=vz lost hjl
  obtain ⟨B1,hrun,hB1,hBB⟩:∃B1,run (dX GC fs h) 300 [.code kn] (nJ (.int .i64 lost) (.sl i 0 l.length) ok (.int .i64 (l.length:Int)) (.int .i64 (j:Int))) B =
    some (.normal (nJ (.int .i64 lost) (.sl i 0 l.length) ok (.int .i64 (l.length:Int)) (.int .i64 ((j+1:Nat):Int))) B1)/\B1[i]?=some (.row 2 false ((fB lost l (j+1)).map aL))/\∀e,B1.set i e=B.set i e:=by
   obtain ⟨i1',hi1'⟩:∃i1:Nat,i1=j+1:=⟨_,rfl⟩
   rw [<-hi1'] at b1 ⊢
   unfold gJ at hset
   by_cases hlo:lost<=l[j].1
   ·rw [RH hlo,<-hi1'] at hset
    rw [RE hlo] at b2
    rw [hset] at s1
    refine ⟨_,?_,RO hil,fun e=>Ua ..⟩
    generalize B.set i (.row 2 false ((fB lost l i1').map aL))=B1 at *
    generalize l[j].1+1=z1 at *
    generalize l[j].1=z0 at *
    generalize (l.length:Int)=M at *
    generalize (i1':Int)=I1 at *
    generalize (j:Int)=J at *
    simp [kn,b0',b1,b2,b3,i1,f0,l0,s1,-ag,-ab,-aa,-ae,-az]
   ·rw [RK hlo,<-hi1'] at hset
    rw [RD hlo] at b2
    refine ⟨B,?_,?_,fun e=>rfl⟩
    ·generalize l[j].1=z0 at *
     generalize (l.length:Int)=M at *
     generalize (i1':Int)=I1 at *
     generalize (j:Int)=J at *
     simp [kn,b0',b1,b2,i1,f0,l0,-ag,-ab,-aa,-ae,-az]
    ·have:(fB lost l j).set j l[j]=fB lost l j:=by
      apply TO
      intro q
      by_cases hq:j=q
      ·subst hq; rw [RO (by rw [CB]; exact hjl),hg]
      ·rw [RF hq]
     rw [<-hset,this]; exact hB
  obtain ⟨B',h1,h2⟩:=ih (j+1) m B1 (by omega) hB1 (by omega)
  refine ⟨B',?_,by rw [h2,hBB]⟩
  rw [aD,yr,hrun]
  exact h1
end
def cu (T:aT) (rd:List Int) (free lost:Int):Option (List cO):=
 if Sit T rd free/\0<=lost/\lost<=rd.length then
  (if lost=0 then bV T rd free else if T.ch.length=1 then some [] else (bV (jN T (lost-1).toNat) (jS rd (lost-1).toNat) free).map fun l=>l.map (gJ lost))
 else none
theorem mI {T:aT} {l:List cO} (h:bV T rd free=some l):l.length<=10/\∀t∈l,1<=t.1/\t.1<=T.ch.length:=by
 have hE:=tT h
 obtain ⟨hS,_⟩:=sM h
 refine ⟨by have:=ni hS hE; rw [RN] at this; exact this,fun t ht=>?_⟩
 have:=qX hE t.1 (Sa.2 ⟨t,ht,rfl⟩)
 rw [dQ,hS.2.1] at this
 exact this
end Tr
namespace Tr
open Go
open Cy (GC iO aM bc aA)
open Clu (aT aY af chA aZ bD bA bK bL)
section
variable {A:ac} {T:aT} {chv chF rdv rdF:AV} {rd:List Int} {free:Int}
theorem Dw {R:ac} {e':Ent} (_h:(A++R)[A.length]?=some e):∃R',(A++R).set A.length e'=A++R':=⟨R.set 0 e',by rw [R8 _ _ (RR _),Tq]⟩
theorem zu {lost:Int} (hl0:lost≠0) (hT:Tl A T chv chF) (hr:Rl A rd rdv rdF) (hTl:T.ch.length<=200) (hrl:rd.length<=200) :
  ∃v B,cc (aw GC ((14,H14 0) :: it)) 300 mY [af T chv,rdv,.int .i64 free,.int .i64 lost] A=some (.tup [v,.bool (cu T rd free lost).isSome],B)/\(∃R,B=A++R)/\RV A.length B v ((cu T rd free lost).getD []):=by
 have m29:=C2 hT.sF hTl hr.sF hrl free
 obtain ⟨tv,htv⟩:∃tv,tv=af T chv:=⟨_,rfl⟩
 obtain ⟨R0,hR0⟩:∃R0,R0=[Ent.row 5 false [tv],.row 1 false [rdv],.row 1 false [.int .i64 free]]:=⟨_,rfl⟩
 have hsol:rdv.solid=true/\cellsOf rdv=[rdv]:=by rcases hr.h.form with (e | ⟨e,l,e'⟩) | ⟨a,b,c,e⟩ <;> simp_all [AV.solid,cellsOf]
 have bx1:aS 5 tv A=some (.ptr A.length 0 0,A++[.row 5 false [tv]]):=by rw [htv]; rfl
 have bx2:aS 1 rdv (A++[.row 5 false [tv]])=some (.ptr (A.length+1) 0 0,A++[.row 5 false [tv],.row 1 false [rdv]]):=by
  unfold aS
  rw [RH ⟨by omega,hsol.1,by rw [hsol.2]; rfl⟩]
  simp
 have bx3:aS 1 (.int .i64 free) (A++[.row 5 false [tv],.row 1 false [rdv]])=some (.ptr (A.length+2) 0 0,A++R0):=by rw [hR0]; simp [aS,AV.solid,cellsOf]
 have ct:(cellsOf tv).length=5:=by rw [htv]; rfl
 have ci:(cellsOf (.int .i64 free)).length=1:=rfl
 have hD:D14 A tv rdv free (A++R0):=by
  rw [hR0]
  exact ⟨⟨_,rfl⟩,by simp,by rw [bp]; rfl,by rw [bp]; rfl⟩
 obtain ⟨l4,l5,l6⟩:=(htv ▸ hD:D14 A (af T chv) rdv free (A++R0)).loads (tv:=tv) hr.h.form
 have f4:=hT.fz R0
 have f5:=hr.fz R0
 have lnr:=hr.h.len
 rw [aA] at lnr
 have m30:=cf lost 0 (rd.length:Int)
 have h29:aE it 29=some (aG 4 M29):=rfl
 have h30:aE it 30=some (aG 4 M30):=rfl
 have b1:=bL lost 0
 rw [<-htv] at l4 f4
 by_cases hS:Sit T rd free
 rotate_left
 ·rw [RD hS] at m29
  have hd:cu T rd free lost=none:=RK (fun h=>hS h.1)
  refine ⟨.nilS,A++R0,?_,⟨R0,rfl⟩,.inl ⟨rfl,by rw [hd]; rfl⟩⟩
  rw [hd,<-htv]
  generalize A++R0=Z at *
  rw [bh _ _ rfl]
  simp [mY,bx1,bx2,bx3,ct,ci,hsol.2,l4,l5,l6,h29,f4,f5,aM,m29,bH,dE,-aS,-ab,-frz,-cellsOf]
 rw [RE hS] at m29
 by_cases hl:0<=lost/\lost<=(rd.length:Int)
 rotate_left
 ·have mb:iE lost 0 (rd.length:Int)=false:=by
   cases e:iE lost 0 (rd.length:Int)
   ·rfl
   ·exact absurd (cD.1 e) hl
  rw [mb] at m30
  have hd:cu T rd free lost=none:=RK (fun h=>hl h.2)
  refine ⟨.nilS,A++R0,?_,⟨R0,rfl⟩,.inl ⟨rfl,by rw [hd]; rfl⟩⟩
  rw [hd,<-htv]
  generalize A++R0=Z at *
  generalize (rd.length:Int)=N at *
  rw [bh _ _ rfl]
  simp [mY,bx1,bx2,bx3,ct,ci,hsol.2,l4,l5,l6,h29,h30,f4,f5,aM,m29,m30,lnr,bH,dE,-aS,-ab,-aq,-frz,-cellsOf,-cf]
 have mb:iE lost 0 (rd.length:Int)=true:=cD.2 hl
 rw [mb] at m30
 rw [RE (by omega)] at b1
 have hsl:=gE hS
 obtain ⟨k,hk⟩:∃k:Nat,lost-1=(k:Int):=⟨(lost-1).toNat,by omega⟩
 have hkr:k<rd.length:=by omega
 have hkc:k<T.ch.length:=by rw [<-hS.2.1]; exact hkr
 have hTeq:(lost-1).toNat=k:=by omega
 have b2:ag .sub (.int .i64 lost) (.int .i64 1)=some (.int .i64 (k:Int)):=by rw [bD (by omega),hk]
 have hdM:cu T rd free lost=if T.ch.length=1 then some [] else (bV (jN T k) (jS rd k) free).map fun l=>l.map (gJ lost):=by
  unfold cu
  rw [RH ⟨hS,hl⟩,RK hl0,hTeq]
 have hcm:k<(T.ch.map chA).length:=by rw [RN]; exact hkc
 have hZl:(A++R0).length=A.length+3:=by rw [hR0]; simp
 have c31:=fun hh=>Mq hh (hT.h.app R0) (by rw [RN]; omega) hcm
 rw [RN,hZl] at c31
 obtain ⟨Z2,hZ2⟩:∃Z2,Z2=A++R0++[Ent.dead,.row 2 false (rC (T.ch.map chA) k Da)]:=⟨_,rfl⟩
 rw [<-hZ2] at c31
 have hD2:D14 A tv rdv free Z2:=by rw [hZ2]; exact hD.app _
 have hZ2r:Z2[A.length+4]?=some (.row 2 false (rC (T.ch.map chA) k Da)):=by rw [hZ2,show A.length+4=(A++R0).length+1 by omega,bp]; rfl
 have hZ2l:Z2.length=A.length+5:=by rw [hZ2,RU,hZl]; rfl
 obtain ⟨tv',htv'⟩:∃tv',tv'=af (jN T k) (.sl (A.length+3+1) 0 (T.ch.length-1)):=⟨_,rfl⟩
 obtain ⟨Z3,hZ3⟩:∃Z3,Z3=Z2.set A.length (.row 5 false [tv']):=⟨_,rfl⟩
 have fa:∀(Z:ac) (t:AV),Z[A.length]?=some (.row 5 false [t])->aa 0 Z (.ptr A.length 0 0)=some (.ptr A.length 0 0):=fun Z t h=>by simp [aa,h]
 have fa1:=fa _ _ hD.r0
 have fa2:=fa _ _ hD2.r0
 have lc:ab false 1 (A++R0) (.ptr A.length 0 0)=some chv:=by
  simp only [ab,hD.r0,htv]
  rcases hT.h.form with (rfl | ⟨e,l,rfl⟩) | ⟨a,b,c,rfl⟩ <;> rfl
 have st3:az 1 Z2 (.ptr A.length 0 0) (.sl (A.length+3+1) 0 (T.ch.length-1))=some Z3:=by
  have:=hD2.r0
  rw [htv] at this
  rw [hZ3,htv']
  simp only [az,this]
  rfl
 have hZ3l:Z3.length=A.length+5:=by rw [hZ3,Sm,hZ2l]
 obtain ⟨R3,hR3⟩:∃R3,Z3=A++R3:=by
  obtain ⟨R,hR⟩:=hD2.pre
  rw [hZ3,hR]
  exact Dw (by rw [<-hR]; exact hD2.r0)
 have hD3:D14 A tv' rdv free Z3:=⟨⟨R3,hR3⟩,by rw [hZ3,RO (by omega)],by rw [hZ3,RF (by omega)]; exact hD2.r1,by rw [hZ3,RF (by omega)]; exact hD2.r2⟩
 have fa3:=fa _ _ hD3.r0
 have lc3:ab false 1 Z3 (.ptr A.length 0 0)=some (.sl (A.length+3+1) 0 (T.ch.length-1)):=by simp only [ab,hD3.r0,htv']; rfl
 have lnc:aq (.sl (A.length+3+1) 0 (T.ch.length-1))=some (.int .i64 ((T.ch.length-1:Nat):Int)):=rfl
 have b3:=bA ((T.ch.length-1:Nat):Int) 0
 have h31:aE it 31=some H31:=rfl
 rw [hdM]
 by_cases hn1:T.ch.length=1
 ·rw [RH hn1]
  rw [RE (by omega)] at b3
  refine ⟨.nilS,Z3,?_,⟨R3,hR3⟩,.inl ⟨rfl,rfl⟩⟩
  rw [<-htv]
  generalize A++R0=Z at *
  generalize (rd.length:Int)=N at *
  generalize ((T.ch.length-1:Nat):Int)=N1 at *
  generalize T.ch.length-1=n1 at *
  rw [bh _ _ rfl]
  simp [mY,bx1,bx2,bx3,ct,ci,hsol.2,l4,l5,l6,h29,h30,h31,f4,f5,aM,m29,m30,lnr,b1,b2,b3,fa1,fa2,fa3,lc,lc3,lnc,c31,st3,bH,dE,-aS,-ab,-az,-aa,-aq,-frz,-cellsOf,-ag,-cf]
 rw [RK hn1]
 rw [RD (by omega)] at b3
 have hr3:Rl Z3 rd rdv rdF:=by rw [hR3]; exact hr.app R3
 have c32:=fun hh=>Mp hh hr3.h (by omega) hkr
 obtain ⟨Z4,hZ4⟩:∃Z4,Z4=Z3++[Ent.dead,.row 1 false (rC (aj rd) k Dm)]:=⟨_,rfl⟩
 rw [<-hZ4,hZ3l] at c32
 have hD4:D14 A tv' rdv free Z4:=by rw [hZ4]; exact hD3.app _
 obtain ⟨g4,g5,g6⟩:=(htv' ▸ hD3:D14 A (af (jN T k) (.sl (A.length+3+1) 0 (T.ch.length-1))) rdv free Z3).loads (tv:=tv) hr.h.form
 obtain ⟨_,_,k6⟩:=(htv' ▸ hD4:D14 A (af (jN T k) (.sl (A.length+3+1) 0 (T.ch.length-1))) rdv free Z4).loads (tv:=tv) hr.h.form
 rw [<-htv'] at g4
 have hh1:de Z4 2 (.sl (A.length+3+1) 0 (T.ch.length-1)) ((jN T k).ch.map chA):=by
  have hrow:Z4[A.length+4]?=some (.row 2 false (rC (T.ch.map chA) k Da)):=by
   rw [hZ4,cS Z3 _ _ (by omega),hZ3,RF (by omega),hZ2r]
  have:=vg hrow hcm
  rw [RN,BH] at this
  exact this
 have hh2:de Z4 1 (.sl (A.length+5+1) 0 (rd.length-1)) (aj (jS rd k)):=by
  have hrow:Z4[A.length+6]?=some (.row 1 false (rC (aj rd) k Dm)):=by
   rw [hZ4,show A.length+6=Z3.length+1 by omega,bp]; rfl
  have:=vg hrow (show k<(aj rd).length by rw [aA]; exact hkr)
  rw [aA] at this
  unfold aj at this ⊢
  rw [BH] at this
  exact this
 obtain ⟨aF,hTa⟩:=Tl.of hh1
 obtain ⟨bF,hRb⟩:=Rl.of hh2
 obtain ⟨v,B,hc14,⟨RB,hB⟩,hRV⟩:=sL (A:=Z4) (T:=jN T k) (rd:=jS rd k) (free:=free) it rfl rfl rfl rfl rfl rfl hTa hRb (by rw [show (jN T k).ch.length=T.ch.length-1 from mJ hkc]; omega) (by rw [mJ hkr]; omega)
 rw [<-htv'] at hc14
 have hc14:H14 0 (fun _ _ _=>none) [tv',.sl (A.length+5+1) 0 (rd.length-1),.int .i64 free,.int .i64 0] Z4=_:=hc14
 have h32:aE it 32=some H32:=rfl
 have hq1:Z4[A.length]?=Z3[A.length]?:=by rw [hD4.r0,hD3.r0]
 have hq2:Z4[A.length+2]?=Z3[A.length+2]?:=by rw [hD4.r2,hD3.r2]
 have r40:=hD4.r0
 have r42:=hD4.r2
 have r30:=hD3.r0
 have r32:=hD3.r2
 obtain ⟨L,hL⟩:∃L,L=(bV (jN T k) (jS rd k) free).getD []:=⟨_,rfl⟩
 rw [<-hL] at hRV
 have hLb:L.length<=10/\∀t∈L,1<=t.1/\t.1<=4:=by
  rw [hL]
  cases hdr:bV (jN T k) (jS rd k) free with
  | none=>exact ⟨by simp,fun t ht=>by simp at ht⟩
  | some l=>
   obtain ⟨q1,q2⟩:=mI hdr
   have:(jN T k).ch.length=T.ch.length-1:=mJ hkc
   refine ⟨q1,fun t ht=>?_⟩
   have:=q2 t ht
   have:=hS.1.1.2.2.2.1
   omega
 have hres:(((bV (jN T k) (jS rd k) free).map fun l=>l.map (gJ lost)).isSome=(bV (jN T k) (jS rd k) free).isSome)/\((bV (jN T k) (jS rd k) free).map fun l=>l.map (gJ lost)).getD []=L.map (gJ lost):=by
  rw [hL]
  cases bV (jN T k) (jS rd k) free <;> exact ⟨rfl,rfl⟩
 rw [hres.1,hres.2]
 generalize (bV (jN T k) (jS rd k) free).isSome=ok at *
 obtain ⟨R4,hR4⟩:=hD4.pre
 have hZ4l:A.length<=Z4.length:=by rw [hR4]; simp
 obtain ⟨lnv,B',lp,hB',hRV'⟩:aq v=some (.int .i64 (L.length:Int))/\∃B',bM (evC (aw GC ((14,H14 0) :: it)) 300 kn) jJ 300 (nJ (.int .i64 lost) v (.bool ok) (.int .i64 (L.length:Int)) (.int .i64 0)) B =
   some (.exit 0 ((nJ (.int .i64 lost) v (.bool ok) (.int .i64 (L.length:Int)) (.int .i64 (L.length:Int))).set 27 (.bool false)) B')/\(∃R,B'=A++R)/\RV A.length B' v (L.map (gJ lost)):=by
  rcases hRV with ⟨rfl,hnil⟩ | ⟨i,hi,rfl,hrow⟩
  ·rw [hnil]
   refine ⟨rfl,B,?_,⟨R4++RB,by rw [hB,hR4,R1]⟩,.inl ⟨rfl,rfl⟩⟩
   have b0':=a9 0 0 .i64
   rw [RD (by omega)] at b0'
   have b0':ag .lss (.int .i64 0) (.int .i64 0)=some (.bool false):=b0'
   rw [show (300:Nat)=299+1 from rfl,aD,yr]
   simp [kn,b0',-ag]
  ·have h0:fB lost L 0=L:=by simp [fB]
   obtain ⟨B',h1,h2⟩:=H5 (i:=i) (l:=L) (lost:=lost) (fun _ _ _=>none) ((14,H14 0) :: it) (.bool ok) (by omega) (fun t ht=>by have:=hLb.2 t ht; omega) L.length 0 300 B (by omega) (by rw [h0]; exact hrow) (by omega)
   refine ⟨rfl,B',h1,?_,.inr ⟨i,by omega,by rw [RN],?_⟩⟩
   ·refine ⟨(R4++RB).set (i-A.length) (.row 2 false ((L.map (gJ lost)).map aL)),?_⟩
    rw [h2,hB,hR4,R1,R8 _ _ (by omega)]
   ·rw [h2,RO (Rv.1 hrow).1]
 refine ⟨v,B',?_,hB',hRV'⟩
 rw [<-htv]
 generalize A++R0=Z at *
 generalize (rd.length:Int)=N at *
 generalize ((T.ch.length-1:Nat):Int)=N1 at *
 generalize T.ch.length-1=n1 at *
 generalize rd.length-1=n2 at *
 generalize (L.length:Int)=N3 at *
 rw [bh _ _ rfl]
 simp [mY,bx1,bx2,bx3,ct,ci,hsol.2,l4,l5,l6,h29,h30,h31,h32,f4,f5,aM,m29,m30,lnr,b1,b2,b3,fa1,fa2,fa3,lc,lc3,lnc,c31,st3,g4,g5,k6,c32,hc14,lnv,KA lp,bH,dE,r40,r42,r30,r32,-aS,-ab,-az,-aa,-aq,-frz,-cellsOf,-ag,-cf]
end
end Tr
namespace Tr
open Go
open Clu (aT aY Chk c9 aP cW iX isI bO zy xb lkT tD fV)
open Cy (br lar kT dw bY)
theorem uu:∀(n:Nat) (l:List Nat),l.Nodup->(∀x∈l,x<n)->l.length<=n/\(l.length=n->∀x,x<n->x∈l)
 | 0,l,_,h=>by
  cases l with
  | nil=>exact ⟨RR _,fun _ x hx=>absurd hx (Tx _)⟩
  | cons a r=>exact absurd (h a To) (Tx _)
 | n+1,l,hn,h=>by
  by_cases hm:n∈l
  ·have h1:=uu n (l.erase n) (hn.erase n) fun x hx=>by
    obtain ⟨h1,h2⟩:=(hn.mem_erase_iff).1 hx
    have:=h x h2; omega
   rw [List.length_erase_of_mem hm] at h1
   have hp:0<l.length:=List.length_pos_of_mem hm
   refine ⟨by omega,fun he x hx=>?_⟩
   by_cases hx':x=n
   ·subst hx'; exact hm
   ·exact List.mem_of_mem_erase (h1.2 (by omega) x (by omega))
  ·have h1:=uu n l hn fun x hx=>by
    have:=h x hx
    have:x≠n:=fun e=>hm (e ▸ hx)
    omega
   exact ⟨by omega,fun he=>by omega⟩
def pos (o:List Int) (t:Int):Int:=dw (isI t) o
structure Ord (n:Nat) (o:List Int):Prop where
 len:o.length=n+1
 nd:o.Nodup
 bd:∀x∈o,0<=x/\x<=n
 z:o.getD 0 0=0
theorem JQ {T:aT} (h:o∈aP T):Ord T.ch.length o:=by
 obtain ⟨_,h2,⟨r,h3,_⟩,h4⟩:=cW h
 exact ⟨h2,h4,iX h,by rw [h3]; rfl⟩
def hF (o:List Int) (i:Nat):Int:=if pos o ((i:Int)+1)<pos o (i:Int) then 1 else 0
def kF (o:List Int):Nat->Int
 | 0=>0
 | i+1=>kF o i+hF o i
theorem NF (o:List Int) (i:Nat):0<=hF o i/\hF o i<=1:=by unfold hF; split <;> omega
theorem D6 (o:List Int):∀i:Nat,0<=kF o i/\kF o i<=i
 | 0=>by simp [kF]
 | i+1=>by have:=D6 o i; have:=NF o i; simp only [kF]; push_cast; omega
def stD (s:c9) (t:Nat):Int:=s.starts.getD t 0
def bsF (T:aT) (s:c9) (free:Int):Int:=free+T.travel-stD s 0
def tk (T:aT) (s:c9) (free:Int) (r:Nat) (t:Int):cO:=(t,bsF T s free+(r:Int)*s.period+stD s t.toNat)
def cyc (T:aT) (s:c9) (free:Int) (r:Nat):List cO:=(s.order.filter fun t=>decide (kF s.order t.toNat<=r)).map (tk T s free r)
def gg (T:aT) (s:c9) (free:Int) (R:Nat):List cO:=(List.range R).flatMap (cyc T s free)
def rl (s:c9) (r p t:Nat):Int:=if pos s.order t<p then (r:Int) else (r:Int)-1
def onF (s:c9) (p t:Nat):Int:=if pos s.order t<p then 1 else 0
def KB (s:c9) (r p j:Nat):Prop:=hF s.order j+onF s p j-onF s p (j+1)=1/\kF s.order j<=rl s r p j
structure FI (T:aT) (s:c9) (free:Int) (r p:Nat) (x:St):Prop where
 len:x.inn.length=T.ch.length
 full:∀j,j<T.ch.length->KB s r p j->0<=x.inn.getD j 0/\x.inn.getD j 0=bsF T s free+rl s r p j*s.period+stD s j+wT T+tmT T j
 emp:∀j,j<T.ch.length->¬ KB s r p j->x.inn.getD j 0 = -1
 Nj:0<=x.fin
 next:p<=T.ch.length->x.fin+btw T x.last (s.order.getD p 0)<=(tk T s free r (s.order.getD p 0)).2
end Tr
namespace Tr
open Go
open Cy (GC iO aM bc aA dw)
open Clu (aT aY af chA c9 Chk t6 isI M64 xu sY aK aZ bD bA bK bL cK)
theorem qK {T:aT} {chF rdF:AV} {lost:Int} (hT:Tl A T chv chF) (hr:Rl A rd rdv rdF) (hTl:T.ch.length<=200) (hrl:rd.length<=200) :
  ∃v B,cc (aw GC ((14,H14 0) :: it)) 300 mY [af T chv,rdv,.int .i64 free,.int .i64 lost] A=some (.tup [v,.bool (cu T rd free lost).isSome],B)/\(∃R,B=A++R)/\RV A.length B v ((cu T rd free lost).getD []):=by
 by_cases h0:lost=0
 ·subst h0
  have e:cu T rd free 0=bV T rd free:=by
   unfold cu
   by_cases hS:Sit T rd free
   ·rw [RH ⟨hS,by omega,by omega⟩,RH rfl]
   ·rw [RK (fun h=>hS h.1)]; unfold bV; rw [RK hS]
  rw [e]
  exact sL ((14,H14 0) :: it) rfl rfl rfl rfl rfl rfl hT hr hTl hrl
 ·exact zu h0 hT hr hTl hrl
theorem tg:∀f M,aE ((14,H14 0) :: it) f=some M->au Try.prog GC f M:=ai (nM 0) th
def I2:aJ:=fun _=>cc (aw GC ((14,H14 0) :: it)) 300 mY
theorem GJ:au Try.prog GC 14 I2:=(b7 (ay tg) rfl Er mK bG.nil).y
def M14:aU:=fun args=>evP (aw GC ((14,H14 0) :: it)) 300 mY 4 args
theorem GI:ax Try.prog GC 14 M14:=ax.of_ev (E:=aw GC ((14,H14 0) :: it)) (ay tg) rfl Er mK 4 fun _ _ h=>⟨300,h⟩
theorem ot {T:aT} {free lost:Int} (hb:SlA 2 (T.ch.map chA) chv) (hr:SlA 1 (aj rd) rdv) (hTl:T.ch.length<=200) (hrl:rd.length<=200) :
  ∃v,M14 [af T chv,rdv,.int .i64 free,.int .i64 lost]=some (.tup [v,.bool (cu T rd free lost).isSome])/\SlA 2 (((cu T rd free lost).getD []).map aL) v:=by
 have hT:Tl [] T chv chv:=⟨.inl hb,fun X=>aK (fun A n=>hb.frz (A:=A) n) _ 3,hb⟩
 have hR:Rl [] rd rdv rdv:=⟨.inl hr,fun X=>hr.frz 4,hr⟩
 obtain ⟨v,B,h1,_,h2⟩:=qK (free:=free) (lost:=lost) hT hR hTl hrl
 unfold M14 evP
 rw [h1]
 rcases h2 with ⟨rfl,hl⟩ | ⟨i,_,rfl,hrow⟩
 ·exact ⟨.nilS,rfl,by rw [hl]; exact .inl ⟨rfl,rfl⟩⟩
 ·refine ⟨.fs 2 (((cu T rd free lost).getD []).map aL),?_,.inr rfl⟩
  have e:=dz (off:=0) (xs:=((cu T rd free lost).getD []).map aL) hrow (by rw [RT,Se]) (fun n x hx=>by
   obtain ⟨c,_,rfl⟩:=Sa.1 hx
   cases n <;> rfl) 1
  rw [RN] at e
  generalize ((cu T rd free lost).getD [])=L at *
  show some (AV.tup [frz B 3 (.sl i 0 L.length),frz B 3 (.bool _)])=_
  rw [e]; rfl
def t9:List (FuncId × aJ):=[(47,aG 4 M47),(48,aG 4 Clu.M26),(30,aG 4 M30),(49,aG 4 M64)]
@[simp] theorem OS:aE t9 47=some (aG 4 M47):=rfl
@[simp] theorem OR:aE t9 48=some (aG 4 Clu.M26):=rfl
@[simp] theorem OT:aE t9 30=some (aG 4 M30):=rfl
@[simp] theorem OQ:aE t9 49=some (aG 4 M64):=rfl
theorem G5:∀f M,aE t9 f=some M->au Try.prog GC f M:=ai (au.of_pure xx 4) (ai (au.of_pure Clu.Af 4) (ai (au.of_pure uh 4) (ai (au.of_pure xu 4) aB)))
def M24:aU:=fun args=>evP (aw GC t9) 300 HN 4 args
theorem Ag:ax Try.prog GC 24 M24:=ax.of_ev (E:=aw GC t9) (ay G5) rfl at24 Li 4 fun _ _ h=>⟨300,h⟩
def inF (o:List Int) (n i:Nat):List Int:=(List.range i).map (fun k=>kF o k)++List.replicate (n+1-i) 0
theorem wP (o:List Int) (h:i<=n+1):(inF o n i).length=n+1:=by simp [inF]; omega
theorem wQ (o:List Int) (h:k<i):(inF o n i).getD k 0=kF o k:=by
 unfold inF
 rw [Rw,RC (by simpa using h)]
 simp [h]
theorem AZ (o:List Int) (h:i<=n) (z:Int):((inF o n i).set i z).set i (kF o i)=inF o n (i+1)/\(inF o n i).set i (kF o i)=inF o n (i+1):=by
 have:(inF o n i).set i (kF o i)=inF o n (i+1):=by
  unfold inF
  rw [R8 _ _ (by simp)]
  simp only [RN,List.length_range,Tq]
  rw [show n+1-i=(n-i)+1 by omega,TS,SB,Te,SH,R1,show n+1-(i+1)=n-i by omega]
  rfl
 exact ⟨by rw [Ua]; exact this,this⟩
def A24 (tv sv:AV) (ks:List Int):ac:=[.row 5 false [tv],.row 4 false [sv],.row 1 false (aj ks)]
def bP (s:c9) (ov sv pv:AV):AV:=.agg [.int .i64 s.period,ov,sv,pv]
section
variable {T:aT} {chv:AV} {s:c9} {ov sv pv:AV} {free:Int}
theorem jX {e:Nat} {xs:List AV} (h:SlA e xs v):v.solid=true/\cellsOf v=[v]:=by rcases h with ⟨rfl,_⟩ | rfl <;> exact ⟨rfl,rfl⟩
theorem Nx (hs:t6 s ov sv pv) (ks:List Int) (W:ac) :
  aa 1 (A24 (af T chv) (bP s ov sv pv) ks++W) (.ptr 1 0 0)=some (.ptr 1 0 1)/\ab false 1 (A24 (af T chv) (bP s ov sv pv) ks++W) (.ptr 1 0 1)=some ov /\
  aa 2 (A24 (af T chv) (bP s ov sv pv) ks++W) (.ptr 1 0 0)=some (.ptr 1 0 2)/\ab false 1 (A24 (af T chv) (bP s ov sv pv) ks++W) (.ptr 1 0 2)=some sv /\
  aa 0 (A24 (af T chv) (bP s ov sv pv) ks++W) (.ptr 1 0 0)=some (.ptr 1 0 0)/\ab false 1 (A24 (af T chv) (bP s ov sv pv) ks++W) (.ptr 1 0 0)=some (.int .i64 s.period) /\
  aa 3 (A24 (af T chv) (bP s ov sv pv) ks++W) (.ptr 0 0 0)=some (.ptr 0 0 3)/\ab false 1 (A24 (af T chv) (bP s ov sv pv) ks++W) (.ptr 0 0 3)=some (.int .i64 T.travel):=by
 refine ⟨rfl,?_,rfl,?_,rfl,rfl,rfl,rfl⟩
 ·rcases hs.o with ⟨rfl,_⟩ | rfl <;> rfl
 ·rcases hs.st with ⟨rfl,_⟩ | rfl <;> rfl
abbrev s24 (free:Int) (n i:Nat):List AV:=xr (.int .i64 free) (.ptr 0 0 0) (.ptr 1 0 0) (.int .i64 (n:Int)) (.sl 2 0 (n+1)) (.int .i64 (i:Int))
theorem Ht (hs:t6 s ov sv pv) (hol:s.order.length<=200) {n i:Nat} (hn:n<=100) (hi:1<=i) (hin:i<=n) :
  run (aw GC t9) 300 [.code l7] (s24 free n i) (A24 (af T chv) (bP s ov sv pv) (inF s.order n i))=some (.normal (s24 free n (i+1)) (A24 (af T chv) (bP s ov sv pv) (inF s.order n (i+1)))):=by
 unfold s24
 obtain ⟨k,rfl⟩:∃k,i=k+1:=⟨i-1,by omega⟩
 have hg:=fun ks=>Nx (T:=T) (chv:=chv) hs ks []
 simp only [Sk] at hg
 have hr:∀ks,(A24 (af T chv) (bP s ov sv pv) ks)[2]?=some (.row 1 false (aj ks)):=fun ks=>rfl
 have hset:∀ks ks',(A24 (af T chv) (bP s ov sv pv) ks).set 2 (.row 1 false (aj ks'))=A24 (af T chv) (bP s ov sv pv) ks':=fun ks ks'=>rfl
 have hl:=wP s.order (n:=n) (i:=k+1) (by omega)
 have b0':=cK ((k+1:Nat):Int) (n:Int)
 rw [RE (by omega)] at b0'
 have b1:ag .sub (.int .i64 ((k+1:Nat):Int)) (.int .i64 1)=some (.int .i64 (k:Int)):=by rw [bD (by omega)]; congr 2; omega
 have b2:=aV (k+1) (by omega)
 have i1:=cE (n:=n+1) (hr (inF s.order n (k+1))) (show k<n+1 by omega) .i64
 have i2:=cE (n:=n+1) (hr (inF s.order n (k+1))) (show k+1<n+1 by omega) .i64
 have d1:=fg (hr (inF s.order n (k+1))) (show k<(inF s.order n (k+1)).length by omega)
 rw [wQ s.order (by omega)] at d1
 have s1:=iH (hr (inF s.order n (k+1))) (show k+1<(inF s.order n (k+1)).length by omega) (kF s.order k)
 rw [hset] at s1
 obtain ⟨ks1,hks1⟩:∃ks1,ks1=(inF s.order n (k+1)).set (k+1) (kF s.order k):=⟨_,rfl⟩
 rw [<-hks1] at s1
 have hl1:ks1.length=n+1:=by rw [hks1,Sm,hl]
 obtain ⟨h1,h2,_⟩:=hg ks1
 have f1:∀A n,frz A n ov=ov:=fun A n=>hs.o.frz n
 have m1:=sY hs.o hol ((k+1:Nat):Int)
 have m2:=sY hs.o hol (k:Int)
 have b3:=bK (pos s.order ((k+1:Nat):Int)) (pos s.order (k:Int))
 have hk:=D6 s.order k
 have ek:kF s.order (k+1)=kF s.order k+(if pos s.order ((k+1:Nat):Int)<pos s.order (k:Int) then 1 else 0):=by simp only [kF,hF]; push_cast; rfl
 have m1:M64 [ov,.int .i64 ((k+1:Nat):Int)]=some (.int .i64 (pos s.order ((k+1:Nat):Int))):=m1
 have m2:M64 [ov,.int .i64 (k:Int)]=some (.int .i64 (pos s.order (k:Int))):=m2
 by_cases hp:pos s.order ((k+1:Nat):Int)<pos s.order (k:Int)
 ·rw [RE hp] at b3
  rw [RH hp] at ek
  have i3:=cE (n:=n+1) (hr ks1) (show k+1<n+1 by omega) .i64
  have d3:=fg (hr ks1) (show k+1<ks1.length by omega)
  have e3:ks1.getD (k+1) 0=kF s.order k:=by rw [hks1,dp,RH ⟨rfl,by omega⟩]
  rw [e3] at d3
  have b4:ag .add (.int .i64 (kF s.order k)) (.int .i64 1)=some (.int .i64 (kF s.order (k+1))):=by rw [ek]; exact aZ (by omega)
  have s3:=iH (hr ks1) (show k+1<ks1.length by omega) (kF s.order (k+1))
  rw [hset,hks1,(AZ s.order (i:=k+1) (by omega) (kF s.order k)).1,<-hks1] at s3
  generalize A24 (af T chv) (bP s ov sv pv) (inF s.order n (k+1))=B0 at *
  generalize A24 (af T chv) (bP s ov sv pv) ks1=B1 at *
  generalize A24 (af T chv) (bP s ov sv pv) (inF s.order n (k+1+1))=B2 at *
  generalize kF s.order (k+1)=z1 at *
  generalize kF s.order k=z0 at *
  generalize pos s.order ((k+1:Nat):Int)=p1 at *
  generalize pos s.order (k:Int)=p0 at *
  generalize ((k+1+1:Nat):Int)=K2 at *
  generalize ((k+1:Nat):Int)=K1 at *
  generalize (k:Int)=K0 at *
  generalize (n:Int)=N at *
  simp [l7,b0',b1,b2,b3,b4,i1,i2,i3,d1,d3,s1,s3,h1,h2,f1,aM,m1,m2,bH,-ag,-ab,-az,-ae,-aa,-frz]
 ·rw [RD hp] at b3
  rw [RK hp] at ek
  have e2:ks1=inF s.order n (k+1+1):=by
   rw [hks1,<-(AZ s.order (n:=n) (i:=k+1) (by omega) 0).2,ek,Int.add_zero]
  rw [<-e2]
  generalize A24 (af T chv) (bP s ov sv pv) (inF s.order n (k+1))=B0 at *
  generalize A24 (af T chv) (bP s ov sv pv) ks1=B1 at *
  generalize kF s.order k=z0 at *
  generalize pos s.order ((k+1:Nat):Int)=p1 at *
  generalize pos s.order (k:Int)=p0 at *
  generalize ((k+1+1:Nat):Int)=K2 at *
  generalize ((k+1:Nat):Int)=K1 at *
  generalize (k:Int)=K0 at *
  generalize (n:Int)=N at *
  simp [l7,b0',b1,b2,b3,i1,i2,d1,s1,h1,h2,f1,aM,m1,m2,bH,-ag,-ab,-az,-ae,-aa,-frz]
end
end Tr
namespace Tr
open Go
open Cy (GC iO aM bc aA dw)
open Clu (aT aY af chA c9 Chk t6 isI aK aZ bD bA bK bL cK)
def oR (l:List cO):ac:=if l=[] then [] else [.row 2 (decide (1<l.length)) (l.map aL)]
def wD (l:List cO):AV:=if l=[] then .nilS else .sl 3 0 l.length
theorem AA (tv sv:AV) (ks:List Int) (l:List cO) (t:cO) (hl:l.length<=1000):aR 2 16 (A24 tv sv ks++oR l) (wD l) (.fs 2 [aL t])=some (wD (l++[t]),A24 tv sv ks++oR (l++[t])):=by
 have hne:l++[t]≠[]:=by simp
 have e1:wD (l++[t])=.sl 3 0 (l.length+1):=by unfold wD; rw [RK hne]; simp
 by_cases h:l=[]
 ·subst h
  simp [oR,wD,aR,a8,A24]
 ·have e0:A24 tv sv ks++oR l=A24 tv sv ks++[.row 2 (decide (1<l.length)) (l.map aL)]:=by unfold oR; rw [RK h]
  have e2:A24 tv sv ks++oR (l++[t])=A24 tv sv ks++[.row 2 true (l.map aL++[aL t])]:=by
   have h1:0<l.length:=Tn.2 h
   unfold oR; rw [RK hne,RE (by simp; omega)]; simp
  have hz:l.length≠0:=fun e=>h (Si.1 e)
  have e3:wD l=.sl 3 0 l.length:=by unfold wD; rw [RK h]
  rw [e0,e1,e2,e3]
  have hrow:(A24 tv sv ks++[Ent.row 2 (decide (1<l.length)) (l.map aL)])[3]?=some (.row 2 (decide (1<l.length)) (l.map aL)):=rfl
  simp only [aR,dr,hrow,RN,SU]
  rw [RH ⟨trivial,by omega,by omega,by omega⟩,RH ⟨trivial,trivial,hz⟩]
  rfl
section
variable {T:aT} {chv:AV} {s:c9} {ov sv pv:AV} {free:Int}
theorem Ka (hs:t6 s ov sv pv) (hol:s.order.length<=200) (hn:n<=100):∀(c i m:Nat),i+c=n+1->1<=i->c<m ->
  bM (evC (aw GC t9) 300 l7) lQ m (s24 free n i) (A24 (af T chv) (bP s ov sv pv) (inF s.order n i)) =
   some (.exit 0 ((s24 free n (n+1)).set 14 (.bool false)) (A24 (af T chv) (bP s ov sv pv) (inF s.order n (n+1)))):=by
 intro c
 induction c with
 | zero=>
  intro i m hi _ hm
  obtain ⟨m,rfl⟩:∃j,m=j+1:=⟨m-1,by omega⟩
  obtain rfl:i=n+1:=by omega
  have b0':=cK ((n+1:Nat):Int) (n:Int)
  rw [RD (by omega)] at b0'
  unfold s24
  rw [aD,Co]
  generalize ((n+1:Nat):Int)=N1 at *
  simp [l7,b0',-ag]
 | succ c ih=>
  intro i m hi h1 hm
  obtain ⟨m,rfl⟩:∃j,m=j+1:=⟨m-1,by omega⟩
  have hr:=Ht (T:=T) (chv:=chv) (free:=free) hs hol hn h1 (show i<=n by omega)
  unfold s24 at hr ⊢
  rw [aD,Co,hr]
  exact ih (i+1) m (by omega) (by omega) (by omega)
theorem qR (hc:Chk T s):s.order.length=T.ch.length+1/\s.starts.length=T.ch.length+1/\(∀x∈s.starts,0<=x/\x<=1000000000)/\(1<=s.period/\s.period<=1000000)/\∀t∈s.order,0<=t/\t<=T.ch.length:=by
 have hO:=JQ hc.1
 have hv:=hc.2.2.1
 refine ⟨hO.len,?_,hv.2.2.1,hc.2.1,hO.bd⟩
 have:=hv.2.1
 have:=hO.len
 omega
theorem Je (hc:Chk T s) (t:Nat):0<=stD s t/\stD s t<=1000000000:=by
 obtain ⟨_,h2,h3,_⟩:=qR hc
 unfold stD
 by_cases h:t<s.starts.length
 ·rw [Rw,Rx h]; exact h3 _ (RM h)
 ·rw [Rw,Sl (TY h)]; simp
abbrev Dy (free:Int) (n:Nat) (l:List cO) (r R:Nat) (ov:AV) (m p:Nat):List AV:=ud (.int .i64 free) (.ptr 0 0 0) (.ptr 1 0 0) (.sl 2 0 (n+1)) (wD l) (.int .i64 (r:Int)) (.int .i64 (R:Int)) (.int .i64 (r:Int)) ov (.int .i64 (m:Int)) (.int .i64 (p:Int))
theorem PU (a b:Int) (h:inI (a*b)):ag .mul (.int .i64 a) (.int .i64 b)=some (.int .i64 (a*b)):=by simp [ag,eV h]
theorem DG (hc:Chk T s) (hv:aY T) (hs:t6 s ov sv pv) (hf:0<=free/\free<=2000000) {l:List cO} (hl:l.length<=500) {R p:Nat} (hr:r<=100) (hp:p<s.order.length) :
  ∃l',l'=(if kF s.order (s.order.getD p 0).toNat<=r then l++[tk T s free r (s.order.getD p 0)] else l) /\
  run (aw GC t9) 300 [.code kj] (Dy free T.ch.length l r R ov s.order.length p) (A24 (af T chv) (bP s ov sv pv) (inF s.order T.ch.length (T.ch.length+1))++oR l) =
   some (.normal (Dy free T.ch.length l' r R ov s.order.length (p+1)) (A24 (af T chv) (bP s ov sv pv) (inF s.order T.ch.length (T.ch.length+1))++oR l')):=by
 refine ⟨_,rfl,?_⟩
 unfold Dy
 obtain ⟨c1,c2,c3,c4,c5⟩:=qR hc
 have hn4:=hv.2.2.2.1
 have hmem:s.order.getD p 0∈s.order:=by rw [Rw,Rx hp]; exact RM hp
 obtain ⟨t,ht⟩:∃t:Nat,s.order.getD p 0=(t:Int):=⟨(s.order.getD p 0).toNat,by have:=c5 _ hmem; omega⟩
 have htn:t<=T.ch.length:=by have:=c5 _ hmem; omega
 have hop:s.order[p]=(t:Int):=by rw [<-ht,Rw,Rx hp]; rfl
 rw [ht,RW]
 have x1:=hs.o.int (A:=A24 (af T chv) (bP s ov sv pv) (inF s.order T.ch.length (T.ch.length+1))++oR l) _ _ (Rx hp) .i64
 rw [hop] at x1
 have b0':=a9 p s.order.length .i64
 rw [RE hp] at b0'
 have b9:=aV p (by omega)
 obtain ⟨h1,h2,h3,h4,h5,h6,h7,h8⟩:=Nx (T:=T) (chv:=chv) hs (inF s.order T.ch.length (T.ch.length+1)) (oR l)
 have hrow:(A24 (af T chv) (bP s ov sv pv) (inF s.order T.ch.length (T.ch.length+1))++oR l)[2]?=some (.row 1 false (aj (inF s.order T.ch.length (T.ch.length+1)))):=rfl
 have i1:=cE (n:=T.ch.length+1) hrow (show t<T.ch.length+1 by omega) .i64
 have d1:=fg hrow (show t<(inF s.order T.ch.length (T.ch.length+1)).length by rw [wP _ (by omega)]; omega)
 rw [wQ s.order (by omega)] at d1
 have b1:=cK (kF s.order t) (r:Int)
 have y0:=hs.st.int (A:=A24 (af T chv) (bP s ov sv pv) (inF s.order T.ch.length (T.ch.length+1))++oR l) _ _ (Rx (show 0<s.starts.length by omega)) .i64
 have y1:=hs.st.int (A:=A24 (af T chv) (bP s ov sv pv) (inF s.order T.ch.length (T.ch.length+1))++oR l) _ _ (Rx (show t<s.starts.length by omega)) .i64
 have e0:s.starts[0]'(by omega)=stD s 0:=by unfold stD; rw [Rw,Rx (by omega)]; rfl
 have e1:s.starts[t]'(by omega)=stD s t:=by unfold stD; rw [Rw,Rx (by omega)]; rfl
 rw [e0] at y0
 rw [e1] at y1
 have y0:ae 1 (A24 (af T chv) (bP s ov sv pv) (inF s.order T.ch.length (T.ch.length+1))++oR l) sv (.int .i64 0)=some (.fp [.int .i64 (stD s 0)]):=y0
 have w:=da hv
 have s0:=Je hc 0
 have st:=Je hc t
 have hmul:0<=(r:Int)*s.period/\(r:Int)*s.period<=100*1000000:=by
  refine ⟨Int.mul_nonneg (by omega) (by omega),?_⟩
  exact Int.mul_le_mul (by omega) c4.2 (by omega) (by omega)
 have b2:ag .add (.int .i64 free) (.int .i64 T.travel)=some (.int .i64 (free+T.travel)):=aZ (by omega)
 have b3:ag .sub (.int .i64 (free+T.travel)) (.int .i64 (stD s 0))=some (.int .i64 (bsF T s free)):=bD (by omega)
 have b4:=PU (r:Int) s.period (by unfold inI; omega)
 have b5:ag .add (.int .i64 (bsF T s free)) (.int .i64 ((r:Int)*s.period))=some (.int .i64 (bsF T s free+(r:Int)*s.period)):=aZ (by unfold bsF; omega)
 have b6:ag .add (.int .i64 (bsF T s free+(r:Int)*s.period)) (.int .i64 (stD s t))=some (.int .i64 (bsF T s free+(r:Int)*s.period+stD s t)):=aZ (by unfold bsF; omega)
 have ap:=AA (af T chv) (bP s ov sv pv) (inF s.order T.ch.length (T.ch.length+1)) l (tk T s free r (t:Int)) (by omega)
 have etk:tk T s free r (t:Int)=((t:Int),bsF T s free+(r:Int)*s.period+stD s t):=by simp only [tk,RW]
 rw [etk] at ap ⊢
 have ap:aR 2 16 (A24 (af T chv) (bP s ov sv pv) (inF s.order T.ch.length (T.ch.length+1))++oR l) (wD l) (.fs 2 [.agg [.int .i64 (t:Int),.int .i64 (bsF T s free+(r:Int)*s.period+stD s t)]])=_:=ap
 have hbf:bI 2 [.agg [.int .i64 (t:Int),.int .i64 (bsF T s free+(r:Int)*s.period+stD s t)]]=some (.fs 2 [.agg [.int .i64 (t:Int),.int .i64 (bsF T s free+(r:Int)*s.period+stD s t)]]):=rfl
 by_cases hk:kF s.order t<=r
 ·rw [RE hk] at b1
  rw [RH hk]
  generalize l++[((t:Int),bsF T s free+(r:Int)*s.period+stD s t)]=l2 at *
  generalize A24 (af T chv) (bP s ov sv pv) (inF s.order T.ch.length (T.ch.length+1))++oR l2=B1 at *
  generalize A24 (af T chv) (bP s ov sv pv) (inF s.order T.ch.length (T.ch.length+1))++oR l=B0 at *
  generalize bsF T s free+(r:Int)*s.period+stD s t=z5 at *
  generalize bsF T s free+(r:Int)*s.period=z4 at *
  generalize (r:Int)*s.period=z3 at *
  generalize bsF T s free=z2 at *
  generalize free+T.travel=z1 at *
  generalize stD s 0=y0' at *
  generalize stD s t=y1' at *
  generalize kF s.order t=z0 at *
  generalize ((p+1:Nat):Int)=P1 at *
  generalize (p:Int)=P0 at *
  simp [kj,b0',b1,b2,b3,b4,b5,b6,b9,x1,i1,d1,h3,h4,h5,h6,h7,h8,y0,y1,hbf,ap,-ag,-ab,-ae,-aa,-bI]
 ·rw [RD hk] at b1
  rw [RK hk]
  generalize A24 (af T chv) (bP s ov sv pv) (inF s.order T.ch.length (T.ch.length+1))++oR l=B0 at *
  generalize kF s.order t=z0 at *
  generalize ((p+1:Nat):Int)=P1 at *
  generalize (p:Int)=P0 at *
  simp [kj,b0',b1,b9,x1,i1,d1,-ag,-ab,-ae,-aa,-bI]
theorem HZ (hc:Chk T s) (hv:aY T) (hs:t6 s ov sv pv) (hf:0<=free/\free<=2000000) {R:Nat} (hr:r<=100):∀(c p m:Nat) (l:List cO),p+c=s.order.length->l.length+c<=400->c<m ->
  ∃l',l'=l++((s.order.drop p).filter fun t=>decide (kF s.order t.toNat<=r)).map (tk T s free r)/\l'.length<=l.length+c /\
  bM (evC (aw GC t9) 300 kj) jF m (Dy free T.ch.length l r R ov s.order.length p) (A24 (af T chv) (bP s ov sv pv) (inF s.order T.ch.length (T.ch.length+1))++oR l) =
   some (.exit 4 ((Dy free T.ch.length l' r R ov s.order.length s.order.length).set 22 (.bool false)) (A24 (af T chv) (bP s ov sv pv) (inF s.order T.ch.length (T.ch.length+1))++oR l')):=by
 intro c
 induction c with
 | zero=>
  intro p m l hp hl hm
  obtain ⟨m,rfl⟩:∃j,m=j+1:=⟨m-1,by omega⟩
  obtain rfl:p=s.order.length:=by omega
  refine ⟨l,by rw [SP]; simp,by omega,?_⟩
  have b0':=a9 s.order.length s.order.length .i64
  rw [RD (by omega)] at b0'
  unfold Dy
  rw [aD,Cn]
  simp [kj,b0',-ag]
 | succ c ih=>
  intro p m l hp hl hm
  obtain ⟨m,rfl⟩:∃j,m=j+1:=⟨m-1,by omega⟩
  have hpl:p<s.order.length:=by omega
  obtain ⟨l1,h1,h2⟩:=DG (R:=R) hc hv hs hf (l:=l) (by omega) hr hpl
  have hl1:l1.length<=l.length+1:=by rw [h1]; split <;> simp
  obtain ⟨l',h3,h4,h5⟩:=ih (p+1) m l1 (by omega) (by omega) (by omega)
  have hg:s.order.getD p 0=s.order[p]:=by rw [Rw,Rx hpl]; rfl
  refine ⟨l',?_,by omega,?_⟩
  ·rw [h3,h1,hg,Sw hpl,TZ]
   by_cases hk:kF s.order (s.order[p]).toNat<=r
   ·rw [RH hk,RE hk,RH rfl,SG,R1]; rfl
   ·rw [RK hk,RD hk,RK (by decide)]
  ·unfold Dy at h2 h5 ⊢
   rw [aD,Cn,h2]
   exact h5
abbrev EO (free:Int) (n:Nat) (l:List cO) (R r:Nat):List AV:=xq (.int .i64 free) (.ptr 0 0 0) (.ptr 1 0 0) (.sl 2 0 (n+1)) (wD l) (.int .i64 (R:Int)) (.int .i64 (r:Int))
theorem DF {R:Nat} {l l2:List cO} {ks:List Int} (hs:t6 s ov sv pv) (hr:r<R) (hR:R<=1000)
  (h3:bM (evC (aw GC t9) 300 kj) jF 300 (ud (.int .i64 free) (.ptr 0 0 0) (.ptr 1 0 0) (.sl 2 0 (n+1)) (wD l) (.int .i64 (r:Int)) (.int .i64 (R:Int)) (.int .i64 (r:Int)) ov (.int .i64 (s.order.length:Int)) (.int .i64 0)) (A24 (af T chv) (bP s ov sv pv) ks++oR l) =
   some (.exit 4 ((Dy free n l2 r R ov s.order.length s.order.length).set 22 (.bool false)) (A24 (af T chv) (bP s ov sv pv) ks++oR l2))) :
  run (aw GC t9) 300 [.code nV] (EO free n l R r) (A24 (af T chv) (bP s ov sv pv) ks++oR l)=some (.normal (EO free n l2 R (r+1)) (A24 (af T chv) (bP s ov sv pv) ks++oR l2)):=by
 unfold Dy at h3
 unfold EO
 have b0':=a9 r R .i64
 rw [RE hr] at b0'
 have b1:=aV r (by omega)
 obtain ⟨g1,g2,_⟩:=Nx (T:=T) (chv:=chv) hs ks (oR l)
 have ln:=hs.o.len
 rw [aA] at ln
 generalize A24 (af T chv) (bP s ov sv pv) ks++oR l=B0 at *
 generalize A24 (af T chv) (bP s ov sv pv) ks++oR l2=B1 at *
 generalize (s.order.length:Int)=M at *
 generalize ((r+1:Nat):Int)=r1 at *
 simp [nV,b0',b1,g1,g2,ln,Kv h3,-ag,-ab,-aa,-aq]
theorem HY (hc:Chk T s) (hv:aY T) (hs:t6 s ov sv pv) (hf:0<=free/\free<=2000000) {R:Nat} (hR:R<=6):∀(c r m:Nat),r+c=R->(gg T s free r).length<=5*r->c<m ->
  (gg T s free R).length<=5*R /\
  bM (evC (aw GC t9) 300 nV) lP m (EO free T.ch.length (gg T s free r) R r) (A24 (af T chv) (bP s ov sv pv) (inF s.order T.ch.length (T.ch.length+1))++oR (gg T s free r)) =
   some (.exit 2 ((EO free T.ch.length (gg T s free R) R R).set 18 (.bool false)) (A24 (af T chv) (bP s ov sv pv) (inF s.order T.ch.length (T.ch.length+1))++oR (gg T s free R))):=by
 intro c
 induction c with
 | zero=>
  intro r m hr hl hm
  obtain ⟨m,rfl⟩:∃j,m=j+1:=⟨m-1,by omega⟩
  obtain rfl:r=R:=by omega
  refine ⟨hl,?_⟩
  have b0':=a9 r r .i64
  rw [RD (by omega)] at b0'
  unfold EO
  rw [aD,Cm]
  generalize gg T s free r=l at *
  simp [nV,b0',-ag]
 | succ c ih=>
  intro r m hr hl hm
  obtain ⟨m,rfl⟩:∃j,m=j+1:=⟨m-1,by omega⟩
  obtain ⟨c1,_,_,_,_⟩:=qR hc
  have hn4:=hv.2.2.2.1
  obtain ⟨l',h1,h2,h3⟩:=HZ (R:=R) hc hv hs hf (r:=r) (by omega) s.order.length 0 300 (gg T s free r) (by omega) (by omega) (by omega)
  have e:l'=gg T s free (r+1):=by
   rw [h1,RT]
   unfold gg cyc
   rw [Te,TW,TQ,List.flatMap_nil,Sk]
  rw [e] at h2 h3
  obtain ⟨q1,q2⟩:=ih (r+1) m (by omega) (by omega) (by omega)
  refine ⟨q1,?_⟩
  have h3:bM (evC (aw GC t9) 300 kj) jF 300 (ud (.int .i64 free) (.ptr 0 0 0) (.ptr 1 0 0) (.sl 2 0 (T.ch.length+1)) (wD (gg T s free r)) (.int .i64 (r:Int)) (.int .i64 (R:Int)) (.int .i64 (r:Int)) ov (.int .i64 (s.order.length:Int)) (.int .i64 0)) _=_:=h3
  have hrun:=DF (free:=free) (n:=T.ch.length) hs (show r<R by omega) (by omega) h3
  unfold EO at hrun q2 ⊢
  rw [aD,Cm,hrun]
  exact q2
def ye (T:aT) (s:c9) (free:Int):Prop:=isT T/\Chk T s/\0<=free/\free<=2000000
open Classical in
def qw (T:aT) (s:c9) (free:Int):Option (List cO):=if ye T s free then some (gg T s free (kF s.order T.ch.length+1).toNat) else none
def PO (r:Option (List cO)):Int:=if r.isSome then 0 else 140
open Classical in
theorem Gd (hb:SlA 2 (T.ch.map chA) chv) (hl:T.ch.length<=200) (hs:t6 s ov sv pv):∃v,M24 [af T chv,bP s ov sv pv,.int .i64 free]=some (.tup [v,.int .i64 (PO (qw T s free))])/\SlA 2 (((qw T s free).getD []).map aL) v:=by
 have m1:=F9 hb hl
 have m2:=Clu.sZ hb hl hs
 have m3:=cf free 0 2000000
 have ft:=fun A=>aK (T:=T) (fun A n=>hb.frz (A:=A) n) A 3
 have fs:∀A,frz A 4 (bP s ov sv pv)=bP s ov sv pv:=fun A=>by
  show AV.agg [_,frz A 3 ov,frz A 3 sv,frz A 3 pv]=_
  rw [hs.o.frz,hs.st.frz,hs.pr.frz]; rfl
 have hov:=jX hs.o
 have hsv:=jX hs.st
 have hpv:=jX hs.pr
 have bx0:aS 5 (af T chv) []=some (.ptr 0 0 0,[.row 5 false [af T chv]]):=rfl
 have bx1:aS 4 (bP s ov sv pv) [.row 5 false [af T chv]]=some (.ptr 1 0 0,[.row 5 false [af T chv],.row 4 false [bP s ov sv pv]]):=rfl
 have ct:(cellsOf (af T chv)).length=5:=rfl
 have cs:(cellsOf (bP s ov sv pv)).length=4:=rfl
 obtain ⟨A0,hA0⟩:∃A:ac,A=[.row 5 false [af T chv],.row 4 false [bP s ov sv pv]]:=⟨_,rfl⟩
 have lt:ab true 5 A0 (.ptr 0 0 0)=some (af T chv):=by rw [hA0]; rfl
 have lsA:ab true 4 A0 (.ptr 1 0 0)=some (bP s ov sv pv):=by rw [hA0]; rfl
 have fa0:aa 0 A0 (.ptr 0 0 0)=some (.ptr 0 0 0):=by rw [hA0]; rfl
 have lch:ab false 1 A0 (.ptr 0 0 0)=some chv:=by
  rw [hA0]
  rcases hb with ⟨rfl,_⟩ | rfl <;> rfl
 have lnc:=hb.len
 rw [RN] at lnc
 rw [<-hA0] at bx1
 have hagg:(.agg [.int .i64 s.period,ov,sv,pv]:AV)=bP s ov sv pv:=rfl
 rw [hagg] at m2
 have bad:¬ ye T s free->evP (aw GC t9) 300 HN 4 [af T chv,bP s ov sv pv,.int .i64 free]=some (.tup [.nilS,.int .i64 140]):=fun hno=>by
  generalize af T chv=tv at *
  generalize bP s ov sv pv=sA at *
  have ff:∀A:ac,frz A 4 (.tup [.nilS,.int .i64 140])=.tup [.nilS,.int .i64 140]:=fun _=>rfl
  by_cases h1:isT T
  rotate_left
  ·rw [RD h1] at m1
   rw [aN _ _ rfl]
   simp [HN,bx0,bx1,ct,cs,lt,m1,ft,ff,dE,bH,-aS,-ab,-frz,-cellsOf]
  rw [RE h1] at m1
  by_cases h2:Chk T s
  rotate_left
  ·rw [RD h2] at m2
   rw [aN _ _ rfl]
   simp [HN,bx0,bx1,ct,cs,lt,lsA,m1,m2,ft,fs,ff,dE,bH,-aS,-ab,-frz,-cellsOf]
  rw [RE h2] at m2
  have mb:iE free 0 2000000=false:=by
   cases e:iE free 0 2000000
   ·rfl
   ·exact absurd ⟨h1,h2,cD.1 e⟩ hno
  rw [mb] at m3
  rw [aN _ _ rfl]
  simp [HN,bx0,bx1,ct,cs,lt,lsA,m1,m2,m3,ft,fs,ff,aM,dE,bH,-aS,-ab,-frz,-cellsOf,-cf]
 by_cases hok:ye T s free
 rotate_left
 ·have e:qw T s free=none:=RK hok
  rw [e]
  exact ⟨.nilS,bad hok,.inl ⟨rfl,rfl⟩⟩
 have e:qw T s free=some (gg T s free (kF s.order T.ch.length+1).toNat):=RH hok
 rw [e]
 obtain ⟨h1,h2,h3⟩:=hok
 rw [RE h1] at m1
 rw [RE h2] at m2
 rw [cD.2 h3] at m3
 have hv:=h1.1
 have hn4:=hv.2.2.2.1
 have hk:=D6 s.order T.ch.length
 obtain ⟨R,hR⟩:∃R:Nat,kF s.order T.ch.length+1=(R:Int):=⟨(kF s.order T.ch.length+1).toNat,by omega⟩
 rw [hR,RW]
 have lpa:=Ka (T:=T) (chv:=chv) (free:=free) hs (by rw [(qR h2).1]; omega) (n:=T.ch.length) (by omega) T.ch.length 1 300 (by omega) (by omega) (by omega)
 have hin:inF s.order T.ch.length 1=List.replicate (T.ch.length+1) 0:=by
  unfold inF
  simp [kF,TS]
 rw [hin] at lpa
 have b1:ag .add (.int .i64 (T.ch.length:Int)) (.int .i64 1)=some (.int .i64 ((T.ch.length+1:Nat):Int)):=aV _ (by omega)
 have mk:bU 1 8 (.int .i64 0) A0 (.int .i64 ((T.ch.length+1:Nat):Int)) (.int .i64 ((T.ch.length+1:Nat):Int))=some (.sl 2 0 (T.ch.length+1),A24 (af T chv) (bP s ov sv pv) (List.replicate (T.ch.length+1) 0)):=by
  simp only [bU]
  rw [RH ⟨by omega,by omega,by omega,by omega,rfl,rfl,by omega⟩,RW,hA0]
  unfold A24 aj
  rw [T6]; rfl
 obtain ⟨lpl,lpc⟩:=HY (chv:=chv) (R:=R) h2 hv hs h3 (by omega) R 0 300 (by omega) (by simp [gg]) (by omega)
 have hf0:gg T s free 0=[]:=rfl
 rw [hf0] at lpc
 have hor:A24 (af T chv) (bP s ov sv pv) (inF s.order T.ch.length (T.ch.length+1))++oR []=A24 (af T chv) (bP s ov sv pv) (inF s.order T.ch.length (T.ch.length+1)):=by
  unfold oR; rw [RH rfl,Sk]
 rw [hor] at lpc
 have lpc:bM (evC (aw GC t9) 300 nV) lP 300 (xq (.int .i64 free) (.ptr 0 0 0) (.ptr 1 0 0) (.sl 2 0 (T.ch.length+1)) .nilS (.int .i64 (R:Int)) (.int .i64 0)) _=_:=lpc
 have lpa:bM (evC (aw GC t9) 300 l7) lQ 300 (xr (.int .i64 free) (.ptr 0 0 0) (.ptr 1 0 0) (.int .i64 (T.ch.length:Int)) (.sl 2 0 (T.ch.length+1)) (.int .i64 1)) _=_:=lpa
 have hrow:(A24 (af T chv) (bP s ov sv pv) (inF s.order T.ch.length (T.ch.length+1)))[2]?=some (.row 1 false (aj (inF s.order T.ch.length (T.ch.length+1)))):=rfl
 have i1:=cE (n:=T.ch.length+1) hrow (show T.ch.length<T.ch.length+1 by omega) .i64
 have d1:=fg hrow (show T.ch.length<(inF s.order T.ch.length (T.ch.length+1)).length by rw [wP _ (by omega)]; omega)
 rw [wQ s.order (by omega)] at d1
 have b2:ag .add (.int .i64 (kF s.order T.ch.length)) (.int .i64 1)=some (.int .i64 (R:Int)):=by rw [aZ (by omega),hR]
 unfold s24 at lpa
 unfold EO at lpc
 obtain ⟨l,hll⟩:∃l,l=gg T s free R:=⟨_,rfl⟩
 rw [<-hll] at lpc
 have hfz:frz (A24 (af T chv) (bP s ov sv pv) (inF s.order T.ch.length (T.ch.length+1))++oR l) 4 (.tup [wD l,.int .i64 0])=.tup [slA 2 (l.map aL),.int .i64 0]:=by
  show AV.tup [frz _ 3 (wD l),_]=_
  unfold wD oR
  by_cases h0:l=[]
  ·rw [h0]; rfl
  ·rw [RK h0,RK h0]
   have hrw:(A24 (af T chv) (bP s ov sv pv) (inF s.order T.ch.length (T.ch.length+1))++[Ent.row 2 (decide (1<l.length)) (l.map aL)])[3]?=some (.row 2 (decide (1<l.length)) (l.map aL)):=rfl
   have e:=dz (off:=0) (xs:=l.map aL) hrw (by rw [RT,Se]) (fun n x hx=>by
    obtain ⟨c,_,rfl⟩:=Sa.1 hx
    cases n <;> rfl) 1
   rw [RN] at e
   rw [e]
   cases l with
   | nil=>exact absurd rfl h0
   | cons t r=>rfl
 rw [<-hll]
 refine ⟨slA 2 (l.map aL),?_,ba 2 _⟩
 unfold M24 PO
 generalize A24 (af T chv) (bP s ov sv pv) (inF s.order T.ch.length (T.ch.length+1))++oR l=B2 at *
 generalize A24 (af T chv) (bP s ov sv pv) (inF s.order T.ch.length (T.ch.length+1))=B1 at *
 generalize A24 (af T chv) (bP s ov sv pv) (List.replicate (T.ch.length+1) 0)=B0 at *
 generalize af T chv=tv at *
 generalize bP s ov sv pv=sA at *
 generalize kF s.order T.ch.length=z at *
 generalize ((T.ch.length+1:Nat):Int)=N1 at *
 generalize hN:(T.ch.length:Int)=N at *
 rw [aN _ _ rfl]
 simp [HN,bx0,bx1,ct,cs,lt,lsA,m1,m2,m3,ft,fs,aM,fa0,lch,lnc,b1,b2,mk,Kw lpa,Ku lpc,i1,d1,hfz,dE,bH,-aS,-ab,-aa,-ae,-aq,-bU,-frz,-cellsOf,-ag,-cf]
end
end Tr
namespace Tr
open Go
open Cy (GC iO aM bc aA dw)
open Clu (aT aY af chA c9 Chk t6 aK cB)
theorem Nc {e:Nat} {xs:List AV} (h:SlA e xs a) (A:ac):a8 e A a=some xs:=h.src
theorem o6 {B:ac} {l:List cO} (h:B[i]?=some (.row 2 g (l.map aL))):frz B 3 (.sl i 0 l.length)=.fs 2 (l.map aL):=by
 have e:=dz (off:=0) (xs:=l.map aL) h (by rw [RT,Se]) (fun n x hx=>by
  obtain ⟨c,_,rfl⟩:=Sa.1 hx
  cases n <;> rfl) 1
 rw [RN] at e
 exact e
theorem Qe {lo:Nat} {B:ac} {mv:AV} {l more:List cO} (h:RV lo B v l) (hm:SlA 2 (more.map aL) mv) (hl:l.length+more.length<=1000):∃w B',aR 2 16 B v mv=some (w,B')/\SlA 2 ((l++more).map aL) (frz B' 3 w):=by
 have hs:=Nc hm B
 rcases h with ⟨rfl,rfl⟩ | ⟨i,_,rfl,hrow⟩
 ·by_cases h0:more=[]
  ·subst h0
   exact ⟨.nilS,B,by simp [aR,hs],.inl ⟨rfl,rfl⟩⟩
  ·have hp:0<more.length:=Tn.2 h0
   refine ⟨.sl B.length 0 more.length,B++[.row 2 false (more.map aL)],?_,?_⟩
   ·simp only [aR,hs,RN]
    rw [RK (by omega),RH ⟨by omega,by omega,by omega⟩]
   ·rw [o6 (g:=false) (by simp),S7]
    exact .inr rfl
 ·have hil:=(Rv.1 hrow).1
  by_cases h0:l=[]
  ·subst h0
   refine ⟨.sl B.length 0 more.length,B.set i .dead++[.row 2 false (more.map aL)],?_,?_⟩
   ·simp only [aR,hs,hrow,RN,TM,Uy,Tp]
    rw [RH ⟨trivial,by omega,by omega,by simp at hl; omega⟩,RK (by simp)]
    simp
   ·have:(B.set i .dead++[Ent.row 2 false (more.map aL)])[B.length]?=some (.row 2 false (more.map aL)):=by simp
    rw [o6 this,S7]
    exact .inr rfl
  ·have hp:l.length≠0:=fun e=>h0 (Si.1 e)
   refine ⟨.sl i 0 (l.length+more.length),B.set i (.row 2 true (l.map aL++more.map aL)),?_,?_⟩
   ·simp only [aR,hs,hrow,RN]
    rw [RH ⟨trivial,by omega,by omega,by omega⟩,RH ⟨trivial,trivial,hp⟩]
   ·have hr:(B.set i (.row 2 true (l.map aL++more.map aL)))[i]?=some (.row 2 true ((l++more).map aL)):=by rw [RO hil,SH]
    have:=o6 hr
    rw [RU] at this
    rw [this]
    exact .inr rfl
def Bk:List (FuncId × aJ):=[(14,I2),(17,aG 4 M17),(24,aG 4 M24)]
@[simp] theorem OP:aE Bk 14=some I2:=rfl
@[simp] theorem ON:aE Bk 17=some (aG 4 M17):=rfl
@[simp] theorem OM:aE Bk 24=some (aG 4 M24):=rfl
def M25:aU:=fun args=>evP (aw GC Bk) 0 De 4 args
theorem EK:ax Try.prog GC 25 M25:=ax.of_ev (E:=aw GC Bk) (ay (ai GJ (ai (au.of_pure xA 4) (ai (au.of_pure Ag 4) aB)))) rfl Qb BX 4 fun _ _ h=>⟨0,h⟩
def kx (T:aT) (rd:List Int) (free:Int) (s:c9):Option (List cO):=(bV T rd free).bind fun l=>(qw T s ((fP T rd free l).getD 0)).map fun m=>l++m
theorem iC (T:aT) (rd:List Int) (free:Int):cu T rd free 0=bV T rd free:=by
 unfold cu
 by_cases hS:Sit T rd free
 ·rw [RH ⟨hS,by omega,by omega⟩,RH rfl]
 ·rw [RK (fun h=>hS h.1)]; unfold bV; rw [RK hS]
theorem Ik {T:aT} {s:c9} (hc:Chk T s) (free:Int) (r:Nat):(cyc T s free r).length<=T.ch.length+1:=by
 unfold cyc
 rw [RN,<-(qR hc).1]
 exact List.length_filter_le _ _
theorem uT {T:aT} {s:c9} (hc:Chk T s) (free:Int):∀R:Nat,(gg T s free R).length<=(T.ch.length+1)*R
 | 0=>by simp [gg]
 | R+1=>by
  have h1:=uT hc free R
  have h2:=Ik hc free R
  unfold gg at h1 ⊢
  rw [Te,TW,RU,TQ,List.flatMap_nil,Sk,Nat.mul_add,T7]
  omega
theorem Ef {T:aT} {s:c9} {m:List cO} (h:qw T s free=some m):m.length<=30:=by
 unfold qw at h
 split at h
 ·rename_i hok
  injection h with h
  have hn:=hok.1.1.2.2.2.1
  have hk:=D6 s.order T.ch.length
  have:=uT hok.2.1 free (kF s.order T.ch.length+1).toNat
  have h5:(kF s.order T.ch.length+1).toNat<=5:=by omega
  have:(T.ch.length+1)*(kF s.order T.ch.length+1).toNat<=5*5:=Nat.mul_le_mul (by omega) h5
  rw [<-h]; omega
 ·cases h
section
variable {T:aT} {chv rdv:AV} {rd:List Int} {s:c9} {ov sv pv:AV} {free:Int}
theorem Gc (hb:SlA 2 (T.ch.map chA) chv) (hl:T.ch.length<=200) (hr:SlA 1 (aj rd) rdv) (hrl:rd.length<=200) (hs:t6 s ov sv pv):∃v,M25 [af T chv,rdv,.int .i64 free,bP s ov sv pv]=some (.tup [v,.int .i64 (PO (kx T rd free s))])/\SlA 2 (((kx T rd free s).getD []).map aL) v:=by
 have ft:=fun A=>aK (T:=T) (fun A n=>hb.frz (A:=A) n) A 3
 have fr:∀A n,frz A n rdv=rdv:=fun A n=>hr.frz n
 have fs:∀A,frz A 4 (bP s ov sv pv)=bP s ov sv pv:=fun A=>by
  show AV.agg [_,frz A 3 ov,frz A 3 sv,frz A 3 pv]=_
  rw [hs.o.frz,hs.st.frz,hs.pr.frz]; rfl
 have bx0:aS 5 (af T chv) []=some (.ptr 0 0 0,[.row 5 false [af T chv]]):=rfl
 have bx1:aS 4 (bP s ov sv pv) [.row 5 false [af T chv]]=some (.ptr 1 0 0,[.row 5 false [af T chv],.row 4 false [bP s ov sv pv]]):=rfl
 have ct:(cellsOf (af T chv)).length=5:=rfl
 have cs:(cellsOf (bP s ov sv pv)).length=4:=rfl
 obtain ⟨A0,hA0⟩:∃A:ac,A=[.row 5 false [af T chv],.row 4 false [bP s ov sv pv]]:=⟨_,rfl⟩
 have lt:∀W,ab true 5 (A0++W) (.ptr 0 0 0)=some (af T chv):=fun W=>by rw [hA0]; rfl
 have lsA:∀W,ab true 4 (A0++W) (.ptr 1 0 0)=some (bP s ov sv pv):=fun W=>by rw [hA0]; rfl
 rw [<-hA0] at bx1
 have hT:Tl A0 T chv chv:=⟨.inl hb,fun X=>ft _,hb⟩
 have hR:Rl A0 rd rdv rdv:=⟨.inl hr,fun X=>fr _ 4,hr⟩
 obtain ⟨v,B,h1,⟨W,hW⟩,hRV⟩:=qK (free:=free) (lost:=0) hT hR hl hrl
 rw [iC] at h1 hRV
 have h1:∀hh,I2 hh [af T chv,rdv,.int .i64 free,.int .i64 0] A0=some (.tup [v,.bool (bV T rd free).isSome],B):=fun _=>h1
 have lt0:=lt []
 rw [Sk] at lt0
 have lt1:=lt W
 have ls1:=lsA W
 rw [<-hW] at lt1 ls1
 unfold M25 kx
 cases hd:bV T rd free with
 | none=>
  rw [hd] at h1
  refine ⟨.nilS,?_,.inl ⟨rfl,rfl⟩⟩
  show evP _ _ _ _ _=some (.tup [.nilS,.int .i64 140])
  have ff:∀A:ac,frz A 4 (.tup [.nilS,.int .i64 140])=.tup [.nilS,.int .i64 140]:=fun _=>rfl
  have h1:∀hh,I2 hh [af T chv,rdv,.int .i64 free,.int .i64 0] A0=some (.tup [v,.bool false],B):=h1
  generalize af T chv=tv at *
  generalize bP s ov sv pv=sA at *
  rw [aN _ _ rfl]
  simp [De,bx0,bx1,ct,cs,lt0,h1,ff,dE,-aS,-ab,-frz,-cellsOf]
 | some l=>
  rw [hd] at h1 hRV
  have hRV:RV A0.length B v l:=hRV
  have h1:∀hh,I2 hh [af T chv,rdv,.int .i64 free,.int .i64 0] A0=some (.tup [v,.bool true],B):=h1
  obtain ⟨hln,_⟩:=mI hd
  obtain ⟨lv,hlv,hfl⟩:∃lv,SlA 2 (l.map aL) lv/\frz B 4 v=lv:=by
   rcases hRV with ⟨rfl,rfl⟩ | ⟨i,_,rfl,hrow⟩
   ·exact ⟨.nilS,.inl ⟨rfl,rfl⟩,rfl⟩
   ·exact ⟨.fs 2 (l.map aL),.inr rfl,qq hrow⟩
  have m17:=s4 hb hl hr hrl free hlv (by omega)
  unfold Cx at m17
  obtain ⟨mv,m24,hmv⟩:=Gd (free:=(fP T rd free l).getD 0) hb hl hs
  have hsc:bH 4 (.tup [.int .i64 ((fP T rd free l).getD 0),.bool (fP T rd free l).isSome])=true:=rfl
  have nr1:bu 4 (af T chv)=true:=Clu.bC (fun n=>hb.noRef n) 3
  have nr2:bu 4 (bP s ov sv pv)=true:=by
   show ([_,ov,sv,pv]:List AV).all (bu 3)=true
   simp [hs.o.noRef,hs.st.noRef,hs.pr.noRef,bu]
  have nr3:∀z,bu 4 (.int .i64 z)=true:=fun _=>rfl
  simp only [Sn]
  obtain ⟨r,hf⟩:∃r,r=qw T s ((fP T rd free l).getD 0):=⟨_,rfl⟩
  rw [<-hf] at m24 hmv ⊢
  cases r with
  | none=>
   have m24:M24 [af T chv,bP s ov sv pv,.int .i64 ((fP T rd free l).getD 0)]=some (.tup [mv,.int .i64 140]):=m24
   refine ⟨.nilS,?_,.inl ⟨rfl,rfl⟩⟩
   show evP _ _ _ _ _=some (.tup [.nilS,.int .i64 140])
   have ff:∀A:ac,frz A 4 (.tup [.nilS,.int .i64 140])=.tup [.nilS,.int .i64 140]:=fun _=>rfl
   have b1:=cB 140 0
   rw [RE (by omega)] at b1
   generalize (fP T rd free l).getD 0=e at *
   generalize (fP T rd free l).isSome=eb at *
   generalize af T chv=tv at *
   generalize bP s ov sv pv=sA at *
   rw [aN _ _ rfl]
   simp [De,bx0,bx1,ct,cs,lt0,lt1,ls1,h1,ft,fr,fs,hfl,aM,m17,m24,nr1,nr2,b1,ff,dE,-aS,-ab,-frz,-cellsOf,-ag]
  | some m=>
   have m24:M24 [af T chv,bP s ov sv pv,.int .i64 ((fP T rd free l).getD 0)]=some (.tup [mv,.int .i64 0]):=m24
   have hml:=Ef hf.symm
   obtain ⟨w,B',hap,hw⟩:=Qe hRV (show SlA 2 (m.map aL) mv from hmv) (by omega)
   refine ⟨frz B' 3 w,?_,hw⟩
   show evP _ _ _ _ _=some (.tup [frz B' 3 w,.int .i64 0])
   have ff:frz B' 4 (.tup [w,.int .i64 0])=.tup [frz B' 3 w,.int .i64 0]:=rfl
   have b1:=cB 0 0
   rw [RD (by omega)] at b1
   generalize (fP T rd free l).getD 0=e at *
   generalize (fP T rd free l).isSome=eb at *
   generalize af T chv=tv at *
   generalize bP s ov sv pv=sA at *
   rw [aN _ _ rfl]
   simp [De,bx0,bx1,ct,cs,lt0,lt1,ls1,h1,ft,fr,fs,hfl,aM,m17,m24,nr1,nr2,b1,hap,ff,dE,-aS,-ab,-frz,-cellsOf,-ag]
end
end Tr
namespace Clu
open Go
open Cy (GC br db cR cT dW okA smM smT lvM lvT gi jq cM Pos tE ew tG vZ Ar lar cr m6)
def t1:aT:=⟨[(20,12),(30,12)],1,1,2,1⟩
def t2:aT:=⟨[(20,12),(30,12)],1,1,2,2⟩
def t3:aT:=⟨[(20,9),(30,9)],1,1,2,2⟩
theorem Nk:aP t1=[[0,1,2],[0,2,1]]:=by decide +kernel
def ar1:List br:=[⟨0,2,6,0⟩,⟨2,1,6,0⟩,⟨1,0,6,1⟩,⟨0,1,24,0⟩,⟨1,0,-36,0⟩,⟨1,2,34,1⟩,⟨2,1,-46,-1⟩]
def ar0:List br:=[⟨0,1,4,0⟩,⟨1,2,4,0⟩,⟨2,0,6,1⟩,⟨0,1,24,0⟩,⟨1,0,-36,0⟩,⟨1,2,34,0⟩,⟨2,1,-46,0⟩]
instance:DecidableEq br:=fun a b=>by
 obtain ⟨a1,a2,a3,a4⟩:=a
 obtain ⟨b1,b2,b3,b4⟩:=b
 exact decidable_of_iff (a1=b1/\a2=b2/\a3=b3/\a4=b4) ⟨fun ⟨h1,h2,h3,h4⟩=>by rw [h1,h2,h3,h4],fun h=>by injection h with h1 h2 h3 h4; exact ⟨h1,h2,h3,h4⟩⟩
theorem It:bO t1 [0,2,1]=ar1:=by decide +kernel
theorem ck:bO t1 [0,1,2]=ar0:=by decide +kernel
theorem Av {l:List br} (c:List (br × Nat)) (u:Int) (hw:Cy.uI l u c u) (hl:0<Cy.jQ q c):Pos l q:=⟨u,c,hw,hl⟩
theorem qc {l:List br} {x:br} (h:l[i]?=some x):(x,i)∈Cy.num l:=by
 obtain ⟨hi,rfl⟩:=Rv.1 h
 exact SL (Cy.gG l i hi)
theorem pos1 (h:q<40):Pos ar1 q:=Av [(⟨2,1,6,0⟩,1),(⟨1,2,34,1⟩,5)] 2 ⟨qc rfl,rfl,qc rfl,rfl,rfl⟩ (by simp [Cy.jQ,br.len]; omega)
theorem Nj (h:q<64):Pos ar0 q:=Av [(⟨0,1,24,0⟩,3),(⟨1,2,34,0⟩,5),(⟨2,0,6,1⟩,2)] 0 ⟨qc rfl,rfl,qc rfl,rfl,qc rfl,rfl,rfl⟩ (by simp [Cy.jQ,br.len]; omega)
theorem in1:[0,2,1]∈aP t1:=by rw [Nk]; decide
theorem Nl:¬ Pos (bO t1 [0,2,1]) 40:=(m6 (n:=3) (fM in1 (by omega) (by omega))).1 (by rw [It]; decide +kernel)
theorem PT:rH t1=some (40,[0,2,1]):=by
 obtain ⟨o,h1,h2,h3⟩:=Is in1 (by omega) (by omega) Nl (fun o ho q h1 h2=>by
  rw [Nk] at ho
  rcases Su.1 ho with rfl | ho
  ·rw [ck]; exact Nj (by omega)
  ·rcases Su.1 ho with rfl | ho
   ·rw [It]; exact pos1 h2
   ·cases ho)
 rw [Nk] at h1
 rcases Su.1 h1 with rfl | h1
 ·rw [ck] at h2; exact absurd (Nj (by omega)) h2
 ·rcases Su.1 h1 with rfl | h1
  ·exact h3
  ·cases h1
theorem lv1:(lvM 3 (bO t1 [0,2,1]) 40).1=[0,24,18]:=by
 have hr:cM 3 (bO t1 [0,2,1]) 40:=fM in1 (by omega) (by omega)
 have h1:cr (lar 40 (bO t1 [0,2,1])) 3=([0,24,18],true):=by rw [It]; decide +kernel
 unfold lvM
 rw [RH hr,show (3:Int).toNat=3 from rfl,h1,RH rfl]
theorem bm1:∃pr,jU t1=some ⟨40,[0,2,1],[0,24,18],pr⟩:=by
 refine ⟨(lvM 3 (bO t1 [0,2,1]) 39).2.1,?_⟩
 unfold jU
 rw [PT,Ss]
 show some (c9.mk 40 [0,2,1] (lvM 3 (bO t1 [0,2,1]) 40).1 _)=_
 rw [lv1]
 rfl
theorem Dx {T:aT} {s:c9} (h:Chk T s):(s.order.length<=5/\∀z∈s.order,inI z)/\(s.starts.length<=32/\∀z∈s.starts,inI z)/\(s.proof.length<=200/\∀z∈s.proof,inI z):=by
 obtain ⟨h1,h2,h3,h4⟩:=h
 have k:=cW h1
 have kb:=iX h1
 refine ⟨⟨by have:=k.1.2.2.2.1; omega,fun z hz=>by have:=kb z hz; have:=k.1.2.2.2.1; unfold inI; omega⟩,Cy.I9 h3,?_⟩
 split at h4
 ·rw [h4]; simp
 ·obtain ⟨hR,a,b,h5,_⟩:=h4
  unfold Cy.exM at h5
  simp only [Ry] at h5
  refine ⟨h5.1.1.2,fun z hz=>?_⟩
  have:=h5.1.2 z hz
  have:=hR.1.2.1
  unfold inI; omega
theorem pT {T:aT} {s:c9} (h:Chk T s):t6 s (slA 1 (aj s.order)) (slA 1 (aj s.starts)) (slA 1 (aj s.proof)):=by
 obtain ⟨⟨h1,h2⟩,⟨h3,h4⟩,h5,h6⟩:=Dx h
 exact ⟨ba _ _,ba _ _,ba _ _,by have:=h.2.1; unfold inI; omega,by omega,by omega,h4,by omega,h6⟩
end Clu
namespace Tr
open Go
open Cy (br lar lvM cM cr)
open Clu (aT aY c9 Chk t1 bm1 jU mO pU)
theorem lh {T:aT} (hR:cM ((o.length:Int)+1) (ck T rd free o) 0) {x:List Int} {b:Bool} (h:cr (lar 0 (ck T rd free o)) (o.length+1)=(x,b)):dc T rd free o=if b=true/\x.getD 0 0=0 then some (mkX (fun j=>x.getD j 0) 0 o) else none:=by
 have e:((o.length:Int)+1).toNat=o.length+1:=by omega
 unfold dc lvM
 rw [RH hR,e,h]
 cases b
 ·rw [RK (by simp)]; simp
 ·simp
theorem QK:Sit t1 [10,-1] 0:=by decide
theorem Nf:Sit t1 [10,40] 0:=by decide
theorem QJ:Sit t1 [40,30] 0:=by decide
def t1':aT:=jN t1 1
theorem QI:Sit t1' [10] 0:=by decide
theorem mH {T:aT} (hS:Sit T rd free) (ho:gF 10 (b0 rd)=[o]):bV T rd free=dc T rd free o:=by
 unfold bV drF
 rw [RH hS,ho]
 simp only [Sj,SZ,fI]
 cases dc T rd free o <;> rfl
theorem rdy {T:aT} (hS:Sit T rd 0) (ho:gF 10 (b0 rd)=[o]):cM ((o.length:Int)+1) (ck T rd 0 o) 0:=by
 have hE:Emp (b0 rd) o:=(p5 hS).1 (by rw [ho]; exact Sg.2 rfl)
 have:=da hS.1.1
 exact (fM hS hE (fun _=>by omega)).1
theorem JU:gF 10 (b0 [10,-1])=[[1,2]]:=by decide +kernel
theorem JT:gF 10 (b0 [10,40])=[[2,1,2]]:=by decide +kernel
theorem JS:gF 10 (b0 [40,30])=[[2,1,2]]:=by decide +kernel
theorem JR:gF 10 (b0 [10])=[[1]]:=by decide +kernel
theorem lv_a:cr (lar 0 (ck t1 [10,-1] 0 [1,2])) 3=([0,10,44],true):=by decide +kernel
theorem lv_b:((cr (lar 0 (ck t1 [10,40] 0 [2,1,2])) 4).2 && decide ((cr (lar 0 (ck t1 [10,40] 0 [2,1,2])) 4).1.getD 0 0=0))=false:=by decide +kernel
theorem lv_c:cr (lar 0 (ck t1 [40,30] 0 [2,1,2])) 4=([0,30,40,74],true):=by decide +kernel
theorem lv_d:cr (lar 0 (ck t1' [10] 0 [1])) 2=([0,10],true):=by decide +kernel
theorem dr_a:bV t1 [10,-1] 0=some [(1,10),(2,44)]:=by
 rw [mH QK JU,lh (rdy QK JU) lv_a]; rfl
theorem DK {α β:Type} (p:α × β):p=(p.1,p.2):=rfl
theorem Rj:bV t1 [10,40] 0=none:=by
 rw [mH Nf JT,lh (rdy Nf JT) (x:=(cr (lar 0 (ck t1 [10,40] 0 [2,1,2])) 4).1) (b:=(cr (lar 0 (ck t1 [10,40] 0 [2,1,2])) 4).2) (DK _)]
 have h:=lv_b
 rw [RK]
 rintro ⟨h1,h2⟩
 rw [h1,h2] at h
 simp at h
theorem Ri:bV t1 [40,30] 0=some [(2,30),(1,40),(2,74)]:=by
 rw [mH QJ JS,lh (rdy QJ JS) lv_c]; rfl
theorem dr_d:cu t1 [10,40] 0 2=some [(1,10)]:=by
 have h:bV t1' [10] 0=some [(1,10)]:=by
  rw [mH QI JR,lh (rdy QI JR) lv_d]; rfl
 unfold cu
 have e2:¬ t1.ch.length=1:=by decide
 have hI:jS [10,40] (((2:Int)-1).toNat)=([10]:List Int):=by decide
 have hT:jN t1 (((2:Int)-1).toNat)=t1':=rfl
 rw [RH ⟨Nf,by omega,by simp⟩,RK (by omega),RK e2,hI,hT,h]
 rfl
theorem Rk:fP t1 [40,30] 0 [(2,30),(1,40),(2,74)]=some 78:=by decide +kernel
theorem ck_d:fP t1 [40,30] 0 [(2,30),(1,35)]=none:=by decide +kernel
theorem Lw:∃s,jU t1=some s/\Chk t1 s/\s.order=[0,2,1]/\s.starts=[0,24,18]/\s.period=40:=by
 obtain ⟨pr,h⟩:=bm1
 exact ⟨_,h,mO h,rfl,rfl,rfl⟩
theorem FF {s:c9} (hc:Chk t1 s) (h1:s.order=[0,2,1]) (h2:s.starts=[0,24,18]) (_h3:s.period=40) (free:Int) (hf:0<=free/\free<=2000000):∃r,qw t1 s free=some ((0,free+2) :: r)/\r.length=4:=by
 have hok:ye t1 s free:=⟨by decide,hc,hf⟩
 have hk:(kF s.order t1.ch.length+1).toNat=2:=by rw [h1]; decide +kernel
 have e:qw t1 s free=some (gg t1 s free 2):=by
  unfold qw
  rw [RH hok,hk]
 rw [e]
 have hz:(kF [0,2,1] 0=0)/\(kF [0,2,1] 1=0)/\kF [0,2,1] 2=1:=by decide +kernel
 have c0:([0,2,1]:List Int).filter (fun t=>decide (kF [0,2,1] t.toNat<=((0:Nat):Int)))=[0,1]:=by decide +kernel
 have c1:([0,2,1]:List Int).filter (fun t=>decide (kF [0,2,1] t.toNat<=((1:Nat):Int)))=[0,2,1]:=by decide +kernel
 have eL:gg t1 s free 2=cyc t1 s free 0++cyc t1 s free 1:=by
  unfold gg
  simp [Te]
 have e0:cyc t1 s free 0=[tk t1 s free 0 0,tk t1 s free 0 1]:=by unfold cyc; rw [h1,c0]; rfl
 have e1:cyc t1 s free 1=[tk t1 s free 1 0,tk t1 s free 1 2,tk t1 s free 1 1]:=by unfold cyc; rw [h1,c1]; rfl
 refine ⟨[tk t1 s free 0 1,tk t1 s free 1 0,tk t1 s free 1 2,tk t1 s free 1 1],?_,rfl⟩
 rw [eL,e0,e1]
 have:tk t1 s free 0 0=(0,free+2):=by
  unfold tk bsF stD
  rw [h2]
  simp [t1]
 rw [this]; rfl
end Tr
end Go.Proofs.Ytkcjhljbgjpklaa
