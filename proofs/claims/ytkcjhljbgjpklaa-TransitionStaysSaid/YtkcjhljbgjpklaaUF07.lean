import Derived.Test.YtkcjhljbgjpklaaUF06
import Derived.Test.YtkcjhljbgjpklaaUF05
set_option maxRecDepth 100000
set_option maxHeartbeats 4000000
noncomputable section
namespace Go.Proofs.Ytkcjhljbgjpklaa
namespace Tr
open Go
open Cy (GC iq db bL bO cq aL bc aB)
open Clu (aR a6 aS cc bz)
def a0 (b:List Bool):List AV:=b.map .bool
theorem eC (b:List Bool):(a0 b).length=b.length:=by simp [a0]
def M80:aP:=fun args=>evP (ax GC []) 300 H4 1 args
theorem Fc:aq Try.prog GC 80 M80:=aq.of_ev (E:=ax GC []) (aw az) rfl at80 GM 1 fun _ _ h=>⟨300,h⟩
def isB (v x:Bool):Bool:=v == x
theorem Ek {xs:List Bool} {b:AV} (hb:SlA 1 (a0 xs) b) {A:aa} {i:Nat} (hi:i<xs.length) (k:IntKind):ai 1 A b (.int k (i:Int))=some (.fp [.bool xs[i]]):=
 hb.index1 (x:=.bool xs[i]) (by simp [a0,hi]) rfl rfl k
theorem HB {xs:List Bool} {b:AV} (hb:SlA 1 (a0 xs) b) (hl:xs.length<=200) (v:Bool):M80 [b,.bool v]=some (.int .i64 (db (isB v) xs)):=by
 have hlen:=hb.len
 rw [eC] at hlen
 have round:∀(A:aa) (i:Nat) (hi:i<xs.length),run (ax GC []) 300 [.code jQ] (kT b (.bool v) (.int .i64 (xs.length:Int)) (.int .i64 (i:Int))) A =
   if isB v xs[i]=false then some (.normal (kT b (.bool v) (.int .i64 (xs.length:Int)) (.int .i64 ((i+1:Nat):Int))) A) else some (.ret [b,.bool v,.int .i64 (i:Int),.int .i64 (i:Int),.int .i64 (xs.length:Int),.int .i64 (i:Int),.bool true,.bool true] A):=fun A i hi=>by
  have x1:=Ek hb (A:=A) hi .i64
  have b1:=br i xs.length .i64
  rw [decide_eq_true hi] at b1
  have b3:=a9 i (by omega)
  obtain ⟨i1,hi1⟩:∃i1:Nat,i1=i+1:=⟨_,rfl⟩
  rw [<-hi1] at b3 ⊢
  generalize xs[i]=x at *
  cases v <;> cases x <;> simp [jQ,isB,x1,b1,b3,-ag,-ai,-an]
 unfold M80
 rw [aI _ _ rfl]
 rcases cP (E:=ax GC []) (fuel:=300) (a:=jQ) (mask:=gV) (fun i=>kT b (.bool v) (.int .i64 (xs.length:Int)) (.int .i64 (i:Int))) (fun _=>[]) xs.length (fun i=>¬ ∀hi:i<xs.length,isB v xs[i]=false)
  (oF:=fun i=>.ret [b,.bool v,.int .i64 (i:Int),.int .i64 (i:Int),.int .i64 (xs.length:Int),.int .i64 (i:Int),.bool true,.bool true] []) (oE:=.exit 0 ((kT b (.bool v) (.int .i64 (xs.length:Int)) (.int .i64 (xs.length:Int))).set 6 (.bool false)) [])
  (fun _=>Cb) (fun _ _ _ h=>by cases h) (fun _ _ h=>by cases h)
  (fun i hi hp=>by
   rw [round [] i hi]
   exact if_pos (Classical.not_not.1 hp hi))
  (fun i hi hp=>by
   rw [round [] i hi]
   exact if_neg fun h=>hp fun _=>h)
  (by simp [jQ]) (show xs.length<300 by omega) with ⟨i,hi,hp,hj,lp⟩ | ⟨hp,lp⟩
 ·have lp:b8 (evC (ax GC []) 300 jQ) gV 300 (kT b (.bool v) (.int .i64 (xs.length:Int)) (.int .i64 0)) []=_:=lp
  have e:db (isB v) xs=(i:Int):=bL hi (by
   cases h':isB v xs[i] with
   | true=>rfl
   | false=>exact absurd (fun _=>h') hp) (fun j hj'=>Classical.not_not.1 (hj j hj') (by omega))
  rw [e]
  simp [H4,hlen,BH lp,-ag,-an]
 ·have lp:b8 (evC (ax GC []) 300 jQ) gV 300 (kT b (.bool v) (.int .i64 (xs.length:Int)) (.int .i64 0)) []=_:=lp
  have e:db (isB v) xs = -1:=bO fun i hi=>Classical.not_not.1 (hp i hi) hi
  rw [e]
  simp [H4,hlen,BH lp,-ag,-an]
def Je:List (FuncId × aG):=[(80,aD 4 M80)]
@[simp] theorem Jd:aC Je 80=some (aD 4 M80):=rfl
def M58:aP:=fun args=>evP (ax GC Je) 0 IQ 1 args
theorem Fk:aq Try.prog GC 58 M58:=aq.of_ev (E:=ax GC Je) (aw (af (aj.of_pure Fc 4) az)) rfl at58 GU 1 fun _ _ h=>⟨0,h⟩
theorem Cu {xs:List Bool} {b:AV} (hb:SlA 1 (a0 xs) b) (hl:xs.length<=200):M58 [b,.bool true]=some (.bool (xs.any id)):=by
 have m1:=HB hb hl true
 have b1:=iq (db (isB true) xs)
 rw [cq] at b1
 have e:xs.any (isB true)=xs.any id:=by
  congr 1; funext x; cases x <;> rfl
 rw [e] at b1
 have f1:∀A n,frz A n b=b:=fun A n=>hb.frz n
 obtain ⟨z,hz⟩:∃z,z=db (isB true) xs:=⟨_,rfl⟩
 rw [<-hz] at m1 b1
 unfold M58
 rw [aI _ _ rfl]
 simp [IQ,f1,m1,b1,bc,bM,-ag,-frz]
theorem ev59 (E:Env) (fuel:Nat) {A:aa} {a:AV} {es:List AV} (h:cM A 1 a es) (hne:es≠[]) (hl:es.length<=1000):bV E fuel FU [a] A=some (.sl (A.length+1) 0 es.length,A++[.dead,.row 1 false es]):=by
 rw [a8 _ _ rfl]
 have hb:es.length*1<=140737488355328:=by omega
 have hb':es.length<=140737488355328:=by omega
 rcases h with h | ⟨id,off,gr,rs,rfl,h1,h2⟩
 ·rcases h with ⟨_,h⟩ | rfl
  ·exact absurd h hne
  ·simp [FU,dS,aM,aQ,hb']
 ·have hid:=(List.getElem?_eq_some_iff.1 h1).1
  have h1':∀T,(A++T)[id]?=some (.row 1 gr rs):=fun T=>by rw [List.getElem?_append_left hid,h1]
  simp [FU,dS,aM,aQ,h1',h2,hb']
def H59:aG:=fun _=>bV (ax GC []) 0 FU
theorem Fj:aj Try.prog GC 59 H59:=(bS (aw az) rfl at59 GT bh.nil).y
theorem HS (h:aT) {A:aa} {a:AV} {xs:List Bool} (ha:cM A 1 a (a0 xs)) (hne:xs≠[]) (hl:xs.length<=1000):H59 h [a] A=some (.sl (A.length+1) 0 xs.length,A++[.dead,.row 1 false (a0 xs)]):=by
 have:=ev59 (ax GC []) 0 ha (fun e=>hne (List.map_eq_nil_iff.1 e)) (by rw [eC]; exact hl)
 rw [eC] at this
 exact this
def clR (done:List Int):aa:=if done=[] then [] else [.dead,.row 1 false (ak done)]
def clV (n:Nat) (done:List Int):AV:=if done=[] then .nilS else .sl (n+1) 0 done.length
def apR (done:List Int) (k:Nat):aa:=if done=[] then [.row 1 false (ak [(k:Int)+1])] else [.dead,.dead,.row 1 false (ak (done++[(k:Int)+1]))]
def apV (n:Nat) (done:List Int):AV:=if done=[] then .sl n 0 1 else .sl (n+2) 0 (done.length+1)
def fA (b:List Bool) (done:List Int) (k:Nat):aa:=[.dead,.row 1 false (a0 (mvB b k))]++apR done k
def F57 (Hd:aa->List Int->aa):Nat->List Bool->List Int->aa->aa
 | 0,b,done,X=>if b.any id then X else Hd (X++clR done) done
 | d+1,b,done,X=>if b.any id then (List.range b.length).foldl (fun X k=>if oT b k then F57 Hd d (mvB b k) (done++[(k:Int)+1]) (X++fA b done k) else X) X else Hd (X++clR done) done
def jv (pb pe pf:Nat) (X Y:aa):Prop:=X.length<=Y.length/\∀j,j<X.length->j≠pb->j≠pe->j≠pf->Y[j]?=X[j]?
section
variable {pb pe pf:Nat} {X Y Z:aa}
theorem jv.refl:jv pb pe pf X X:=⟨Nat.le_refl _,fun _ _ _ _ _=>rfl⟩
theorem jv.trans (h:jv pb pe pf X Y) (k:jv pb pe pf Y Z):jv pb pe pf X Z:=⟨Nat.le_trans h.1 k.1,fun j h1 h2 h3 h4=>by rw [k.2 j (by have:=h.1; omega) h2 h3 h4,h.2 j h1 h2 h3 h4]⟩
theorem jv.app (X W:aa):jv pb pe pf X (X++W):=⟨by simp,fun j h _ _ _=>by rw [List.getElem?_append_left h]⟩
end
theorem re {Hd:aa->List Int->aa} {pb pe pf:Nat} (h:∀X o,jv pb pe pf X (Hd X o)):∀(d:Nat) (b:List Bool) (done:List Int) (X:aa),jv pb pe pf X (F57 Hd d b done X)
 | 0,b,done,X=>by
  unfold F57
  split
  ·exact jv.refl
  ·exact (jv.app _ _).trans (h _ _)
 | d+1,b,done,X=>by
  unfold F57
  split
  ·have:∀(l:List Nat) (X:aa),jv pb pe pf X (l.foldl (fun X k=>if oT b k then F57 Hd d (mvB b k) (done++[(k:Int)+1]) (X++fA b done k) else X) X):=by
    intro l
    induction l with
    | nil=>intro X; exact jv.refl
    | cons k l ih=>
     intro X
     rw [List.foldl_cons]
     refine jv.trans ?_ (ih _)
     split
     ·exact (jv.app _ _).trans (re h d _ _ _)
     ·exact jv.refl
   exact this _ _
  ·exact (jv.app _ _).trans (h _ _)
theorem zH {Hd:aa->List Int->aa} {j:Nat} {e:Ent} (hl:∀X o,X.length<=(Hd X o).length) (h:∀X o,j<X.length->(Hd X o).set j e=Hd (X.set j e) o):∀(d:Nat) (b:List Bool) (done:List Int) (X:aa),j<X.length->X.length<=(F57 Hd d b done X).length/\(F57 Hd d b done X).set j e=F57 Hd d b done (X.set j e)
 | 0,b,done,X,hj=>by
  unfold F57
  split
  ·exact ⟨Nat.le_refl _,rfl⟩
  ·refine ⟨Nat.le_trans (by simp) (hl _ _),?_⟩
   rw [h _ _ (by simp; omega),List.set_append_left _ _ hj]
 | d+1,b,done,X,hj=>by
  unfold F57
  split
  ·have:∀(l:List Nat) (X:aa),j<X.length->X.length<=(l.foldl (fun X k=>if oT b k then F57 Hd d (mvB b k) (done++[(k:Int)+1]) (X++fA b done k) else X) X).length/\(l.foldl (fun X k=>if oT b k then F57 Hd d (mvB b k) (done++[(k:Int)+1]) (X++fA b done k) else X) X).set j e=l.foldl (fun X k=>if oT b k then F57 Hd d (mvB b k) (done++[(k:Int)+1]) (X++fA b done k) else X) (X.set j e):=by
    intro l
    induction l with
    | nil=>intro X hj; exact ⟨Nat.le_refl _,rfl⟩
    | cons k l ih=>
     intro X hj
     rw [List.foldl_cons,List.foldl_cons]
     cases hc:oT b k with
     | false=>exact ih X hj
     | true=>
      simp only [if_true]
      obtain ⟨h1,h2⟩:=zH hl h d (mvB b k) (done++[(k:Int)+1]) (X++fA b done k) (by simp; omega)
      have hle:X.length<=(X++fA b done k).length:=by simp
      obtain ⟨h3,h4⟩:=ih (F57 Hd d (mvB b k) (done++[(k:Int)+1]) (X++fA b done k)) (by omega)
      refine ⟨by omega,?_⟩
      rw [h4,h2,List.set_append_left _ _ hj]
   exact this _ _ hj
  ·refine ⟨Nat.le_trans (by simp) (hl _ _),?_⟩
   rw [h _ _ (by simp; omega),List.set_append_left _ _ hj]
theorem ug {S:Type} {Hd:aa->List Int->aa} {R:aa->S->Prop} {st:S->List Int->S} {E:List Int->Prop} (hW:∀X W s,R X s->R (X++W) s) (h:∀X s o,E o->R X s->R (Hd X o) (st s o)):∀(d:Nat) (b:List Bool) (done:List Int) (X:aa) (s:S),mB b<=d->(∀r,Emp b r->E (done++r))->R X s ->
  R (F57 Hd d b done X) (((qz d b).map (done ++ ·)).foldl st s)
 | 0,b,done,X,s,hd,hE,hR=>by
  have ha:=qD b (by omega)
  unfold F57 qz
  rw [ha]
  have:=hE [] ha
  rw [List.append_nil] at this
  simpa using h _ s done this (hW _ _ _ hR)
 | d+1,b,done,X,s,hd,hE,hR=>by
  unfold F57 qz
  cases ha:b.any id with
  | false=>
   have:=hE [] ha
   rw [List.append_nil] at this
   simpa using h _ s done this (hW _ _ _ hR)
  | true=>
   simp only [if_true]
   have:∀(l:List Nat) (X:aa) (s:S),(∀k∈l,k<b.length)->R X s->R (l.foldl (fun X k=>if oT b k then F57 Hd d (mvB b k) (done++[(k:Int)+1]) (X++fA b done k) else X) X)
     (((l.flatMap fun k=>if oT b k then (qz d (mvB b k)).map (((k:Int)+1) :: ·) else []).map (done ++ ·)).foldl st s):=by
    intro l
    induction l with
    | nil=>intro X s _ hR; exact hR
    | cons k l ih=>
     intro X s hk hR
     rw [List.foldl_cons,List.flatMap_cons,List.map_append,List.foldl_append]
     refine ih _ _ (fun j hj=>hk j (List.mem_cons_of_mem _ hj)) ?_
     have hkl:=hk k List.mem_cons_self
     cases hc:oT b k with
     | false=>simpa using hR
     | true=>
      simp only [if_true,List.map_map]
      have hm:=vY hkl hc
      have:=ug hW h d (mvB b k) (done++[(k:Int)+1]) (X++fA b done k) s (by omega) (fun r hr=>by
       rw [List.append_assoc]
       exact hE _ ⟨k,rfl,hkl,hc,hr⟩) (hW _ _ _ hR)
      have e:((done++[(k:Int)+1]) ++ ·)=(fun x=>done++x) ∘ (((k:Int)+1) :: ·):=by
       funext r; simp
      rw [<-e]
      exact this
   exact this _ _ _ (fun k hk=>List.mem_range.1 hk) hR
end Tr
namespace Tr
open Go
open Cy (GC aL bc aB)
open Clu (aR a6 au chA aS cc bz)
theorem pK {P:Program} {w w':World} {t e ty:TypeId} {i:TypeInfo} {z:Value} (ht:P.underlying t=some (.slice e)) (hi:P.info? e=some i) (hz:i.zero=some z) {b o len cap:Nat} (hl:0<len) (hst:(storeCells ⟨b,o,none⟩ (Builtin.zeroCells z.cells len).toList).run P w=.ok () w') :
  (Builtin.clear_ #[t] ty #[.slice (some ⟨b,o,none⟩) len cap]).run P w=.ok (.tuple #[]) w':=by
 obtain ⟨m,rfl⟩:∃m,len=m+1:=⟨len-1,by omega⟩
 simp only [Builtin.clear_,Sem.run_bind,ae ht,Result.andThen_ok,List.getElem?_toArray,List.getElem?_cons_zero]
 rw [bN hi hz]
 simp only [Result.andThen_ok,hst]
 rfl
theorem jx (z:Array Value):(Builtin.zeroCells z 1).toList=z.toList:=by
 apply List.ext_getElem
 ·simp [Builtin.zeroCells]
 ·intro i h1 h2
  have:i<z.size:=by simpa using h2
  simp [Builtin.zeroCells,Nat.mod_eq_of_lt this]
  exact getElem!_pos z i this
def zK:AV:=.agg [.int .i64 0,.int .i64 0]
theorem E4:((Try.prog.info? 51).bind fun i=>i.zero.map fun z=>(ofValue z,z.cells.size,i.size))=some (some zK,2,2):=by kernel_rfl
def H53:aG:=fun _ args A=>match args with
 | [.sl id 0 n,.int .i64 i,.int .i64 j]=>match A[id]? with
  | some (.row 2 false es)=>if n=es.length/\0<=i/\j=i+1/\j<=n then some (.sl id 0 (n-1),A.set id (.row 2 false (pi es i.toNat zK))) else none
  | _=>none
 | _=>none
theorem Fq:aj Try.prog GC 53 H53:=by
 have hen:aj Try.prog GC 53 (fun h=>bV (dB GC [] h) 0 LT):=bZ az at53 GY bh.nil
 refine ⟨hen.1,fun ys h hs args A r A' he w OK g vs hA hI hl=>?_⟩
 unfold H53 at he
 split at he
 ·rename_i id n i j
  split at he
  ·rename_i es hid
   simp only [Option.ite_none_right_eq_some,Option.some.injEq,Prod.mk.injEq] at he
   obtain ⟨⟨hn,hi0,hj,hjn⟩,rfl,rfl⟩:=he
   subst hn hj
   match vs,hl with
   | [v1,v2,v3],hl=>
    obtain ⟨h1,h2,h3,_⟩:=hl
    obtain rfl:=h2.inv_int
    obtain rfl:=h3.inv_int
    obtain ⟨inc,cap,ao,hinc,rfl,hl',hn,hcap,ha⟩:=h1.inv_sl
    obtain ⟨k,rfl⟩:∃k:Nat,i=(k:Int):=⟨i.toNat,by omega⟩
    have hk:k<es.length:=by omega
    obtain ⟨i0,z,hi,hz,hza,hzc,hisz⟩:∃i0 z,Try.prog.info? 51=some i0/\i0.zero=some z/\ofValue z=some zK/\z.cells.size=2/\i0.size=2:=by
     have h:=E4
     cases e:Try.prog.info? 51 with
     | none=>rw [e] at h; cases h
     | some i0=>
      rw [e] at h
      cases e2:i0.zero with
      | none=>rw [Option.bind_some,e2] at h; cases h
      | some z=>
       rw [Option.bind_some,e2] at h
       injection h with h
       injection h with h1 h2
       injection h2 with h2 h3
       exact ⟨i0,z,rfl,e2,h1,h2,h3⟩
    have hzr:∀(w:World) (OK:Nat->Prop) (g:ay),aK w OK g z zK:=fun w OK g=>dy hza
    obtain ⟨_,hok,_⟩:=(hzr w OK g).cells (show zK.solid=true from rfl)
    have hAd:bX w.drew OK g A:=hA.drew (w.drawn+1)
    obtain ⟨hesz,hnn,c,T,fz,hh,hu,hle,hnews,hR,hE⟩:=yg hAd hid hinc hk (by omega) hzr hzc hok
    have hao:ao=inc.o:=by
     have:=ha (by omega)
     omega
    subst hao
    obtain ⟨m1,m2,m3⟩:=gC (n:=es.length) (sz:=2) hk
    have hnl:=jG (c:=c) (o:=inc.o) (sz:=2) hk hle
    obtain ⟨k1,k2⟩:=mT (c:=c) (o:=inc.o) (sz:=2) hk hle
    have hzl:z.cells.toList.length=2:=by rw [Array.length_toList,hzc]
    obtain ⟨k3,k4⟩:=qW (c:=c) (o:=inc.o) (sz:=2) (zs:=z.cells.toList) hk hle hzl
    have hW:=sC Try.prog hh hu (gn c inc.o 2 es.length k) k2 hnews
    have hh1:=setRow_heap w.drew inc.b c (c1C c inc.o 2 es.length k) T fz hh
    have hu1:dU (c1C c inc.o 2 es.length k) fz:=bI hu _ _ k2
    obtain ⟨ad,had⟩:∃ad,(if cap=k+1 then some (⟨inc.b,inc.o,none⟩:Addr) else some ⟨inc.b,inc.o+(k+1)*2,none⟩)=some ad:=by
     split
     ·exact ⟨_,rfl⟩
     ·exact ⟨_,rfl⟩
    have s0:∀t u,(gn c inc.o 2 es.length k)[t]?=some u->w.drew.cell? (ad.add t)=some u:=by
     intro t u htu
     have ht:=(List.getElem?_eq_some_iff.1 htu).1
     rw [jH _ (by omega)] at htu
     split at had
     ·exfalso
      have h0:es.length-(k+1)=0:=by omega
      rw [hnl,h0,Nat.zero_mul] at ht
      exact absurd ht (Nat.not_lt_zero _)
     ·have had':=Option.some.inj had
      rw [<-had',cG,gQ hh,<-htu]
      skip
    have s3:∀t,t<(gn c inc.o 2 es.length k).length->(w.drew.cell? ⟨inc.b,inc.o+k*2+t,none⟩).isSome=true/\w.drew.frozen? ⟨inc.b,inc.o+k*2+t,none⟩=false:=by
     intro t ht
     refine ⟨?_,?_⟩
     ·rw [gQ hh,Array.getElem?_eq_getElem (by omega)]; rfl
     ·have:=hu (inc.o+k*2+t) (by omega)
      unfold World.frozen?
      rw [hh]
      exact this
    have hst:=bK Try.prog inc.b (inc.o+(es.length-1)*2) T fz z.cells.toList 0 _ _ hh1 hu1 (by omega) hok
    have hlast:k+(es.length-(k+1))=es.length-1:=by omega
    have hcl:∀ty,(Builtin.clear_ #[22] ty #[.slice (some ⟨inc.b,inc.o+(k+(es.length-(k+1)))*2,none⟩) (es.length-(k+(es.length-(k+1)))) (cap-(k+(es.length-(k+1))))]).run Try.prog (w.drew.setRow inc.b (c1C c inc.o 2 es.length k))=.ok (.tuple #[]) ((w.drew.setRow inc.b (c1C c inc.o 2 es.length k)).setRow inc.b (c2C c inc.o 2 es.length k z.cells.toList)):=fun ty=>by
     rw [hlast,show es.length-(es.length-1)=1 by omega]
     refine pK Try.underlying22 hi hz (by omega) ?_
     rw [jx]
     skip
     rw [hst]
     unfold c2C
     rfl
    refine (E7 inc.b inc.o es.length cap k (k+1) w ad (gn c inc.o 2 es.length k) (by omega) (by omega) (by omega) had (by omega) s0 hnews s3 _ _ hW.symm hcl).mono ?_
    rintro e w' ⟨rfl,rfl⟩
    refine ⟨_,OK,g,rfl,?_,hR,(Ext.drew w OK g (w.drawn+1)).trans hE⟩
    rw [hlast]
    exact .sl _ id 0 (es.length-1) cap inc.o inc hinc (by omega) (by omega) hcap (fun h=>by simp)
  ·cases he
 ·cases he
def zX:AV:=.int .i64 0
theorem E3:((Try.prog.info? 3).bind fun i=>i.zero.map fun z=>(ofValue z,z.cells.size,i.size))=some (some zX,1,1):=by kernel_rfl
def H55:aG:=fun _ args A=>match args with
 | [.sl id 0 n,.int .i64 i,.int .i64 j]=>match A[id]? with
  | some (.row 1 false es)=>if n=es.length/\0<=i/\j=i+1/\j<=n then some (.sl id 0 (n-1),A.set id (.row 1 false (pi es i.toNat zX))) else none
  | _=>none
 | _=>none
theorem Fo:aj Try.prog GC 55 H55:=by
 have hen:aj Try.prog GC 55 (fun h=>bV (dB GC [] h) 0 LS):=bZ az at55 GW bh.nil
 refine ⟨hen.1,fun ys h hs args A r A' he w OK g vs hA hI hl=>?_⟩
 unfold H55 at he
 split at he
 ·rename_i id n i j
  split at he
  ·rename_i es hid
   simp only [Option.ite_none_right_eq_some,Option.some.injEq,Prod.mk.injEq] at he
   obtain ⟨⟨hn,hi0,hj,hjn⟩,rfl,rfl⟩:=he
   subst hn hj
   match vs,hl with
   | [v1,v2,v3],hl=>
    obtain ⟨h1,h2,h3,_⟩:=hl
    obtain rfl:=h2.inv_int
    obtain rfl:=h3.inv_int
    obtain ⟨inc,cap,ao,hinc,rfl,hl',hn,hcap,ha⟩:=h1.inv_sl
    obtain ⟨k,rfl⟩:∃k:Nat,i=(k:Int):=⟨i.toNat,by omega⟩
    have hk:k<es.length:=by omega
    obtain ⟨i0,z,hi,hz,hza,hzc,hisz⟩:∃i0 z,Try.prog.info? 3=some i0/\i0.zero=some z/\ofValue z=some zX/\z.cells.size=1/\i0.size=1:=by
     have h:=E3
     cases e:Try.prog.info? 3 with
     | none=>rw [e] at h; cases h
     | some i0=>
      rw [e] at h
      cases e2:i0.zero with
      | none=>rw [Option.bind_some,e2] at h; cases h
      | some z=>
       rw [Option.bind_some,e2] at h
       injection h with h
       injection h with h1 h2
       injection h2 with h2 h3
       exact ⟨i0,z,rfl,e2,h1,h2,h3⟩
    have hzr:∀(w:World) (OK:Nat->Prop) (g:ay),aK w OK g z zX:=fun w OK g=>dy hza
    obtain ⟨_,hok,_⟩:=(hzr w OK g).cells (show zX.solid=true from rfl)
    have hAd:bX w.drew OK g A:=hA.drew (w.drawn+1)
    obtain ⟨hesz,hnn,c,T,fz,hh,hu,hle,hnews,hR,hE⟩:=yg hAd hid hinc hk (by omega) hzr hzc hok
    have hao:ao=inc.o:=by
     have:=ha (by omega)
     omega
    subst hao
    obtain ⟨m1,m2,m3⟩:=gC (n:=es.length) (sz:=1) hk
    have hnl:=jG (c:=c) (o:=inc.o) (sz:=1) hk hle
    obtain ⟨k1,k2⟩:=mT (c:=c) (o:=inc.o) (sz:=1) hk hle
    have hzl:z.cells.toList.length=1:=by rw [Array.length_toList,hzc]
    obtain ⟨k3,k4⟩:=qW (c:=c) (o:=inc.o) (sz:=1) (zs:=z.cells.toList) hk hle hzl
    have hW:=sC Try.prog hh hu (gn c inc.o 1 es.length k) k2 hnews
    have hh1:=setRow_heap w.drew inc.b c (c1C c inc.o 1 es.length k) T fz hh
    have hu1:dU (c1C c inc.o 1 es.length k) fz:=bI hu _ _ k2
    obtain ⟨ad,had⟩:∃ad,(if cap=k+1 then some (⟨inc.b,inc.o,none⟩:Addr) else some ⟨inc.b,inc.o+(k+1),none⟩)=some ad:=by
     split
     ·exact ⟨_,rfl⟩
     ·exact ⟨_,rfl⟩
    have s0:∀t u,(gn c inc.o 1 es.length k)[t]?=some u->w.drew.cell? (ad.add t)=some u:=by
     intro t u htu
     have ht:=(List.getElem?_eq_some_iff.1 htu).1
     rw [jH _ (by omega)] at htu
     split at had
     ·exfalso
      have h0:es.length-(k+1)=0:=by omega
      rw [hnl,h0,Nat.zero_mul] at ht
      exact absurd ht (Nat.not_lt_zero _)
     ·have had':=Option.some.inj had
      rw [<-had',cG,gQ hh,<-htu]
      rw [show inc.o+(k+1)+t=inc.o+(k+1)*1+t by omega]
    have s3:∀t,t<(gn c inc.o 1 es.length k).length->(w.drew.cell? ⟨inc.b,inc.o+k*1+t,none⟩).isSome=true/\w.drew.frozen? ⟨inc.b,inc.o+k*1+t,none⟩=false:=by
     intro t ht
     refine ⟨?_,?_⟩
     ·rw [gQ hh,Array.getElem?_eq_getElem (by omega)]; rfl
     ·have:=hu (inc.o+k*1+t) (by omega)
      unfold World.frozen?
      rw [hh]
      exact this
    have hst:=bK Try.prog inc.b (inc.o+(es.length-1)*1) T fz z.cells.toList 0 _ _ hh1 hu1 (by omega) hok
    have hlast:k+(es.length-(k+1))=es.length-1:=by omega
    have hcl:∀ty,(Builtin.clear_ #[25] ty #[.slice (some ⟨inc.b,inc.o+(k+(es.length-(k+1))),none⟩) (es.length-(k+(es.length-(k+1)))) (cap-(k+(es.length-(k+1))))]).run Try.prog (w.drew.setRow inc.b (c1C c inc.o 1 es.length k))=.ok (.tuple #[]) ((w.drew.setRow inc.b (c1C c inc.o 1 es.length k)).setRow inc.b (c2C c inc.o 1 es.length k z.cells.toList)):=fun ty=>by
     rw [hlast,show es.length-(es.length-1)=1 by omega]
     refine pK Try.underlying25 hi hz (by omega) ?_
     rw [jx]
     rw [Nat.mul_one] at hst
     rw [hst]
     unfold c2C
     rw [Nat.mul_one]; rfl
    refine (E6 inc.b inc.o es.length cap k (k+1) w ad (gn c inc.o 1 es.length k) (by omega) (by omega) (by omega) had (by omega) s0 hnews s3 _ _ hW.symm hcl).mono ?_
    rintro e w' ⟨rfl,rfl⟩
    refine ⟨_,OK,g,rfl,?_,hR,(Ext.drew w OK g (w.drawn+1)).trans hE⟩
    rw [hlast]
    exact .sl _ id 0 (es.length-1) cap inc.o inc hinc (by omega) (by omega) hcap (fun h=>by simp)
  ·cases he
 ·cases he
end Tr
namespace Tr
open Go
open Cy (GC iq aL bc aB)
open Clu (aR a6 aS cc bz)
section
variable {A:aa} {id:Nat} {xs:List Bool}
theorem tK {g:Bool} (h:A[id]?=some (.row 1 g (a0 xs))) {k:Nat} (hk:k<xs.length):ac false 1 A (.ptr id k 0)=some (.bool (xs.getD k false)):=by
 have e:(a0 xs)[k]?=some (.bool (xs.getD k false)):=by
  simp [a0,List.getD_eq_getElem?_getD,List.getElem?_eq_getElem hk]
 simp only [ac,h,e]
 cases g <;> rfl
theorem s9 (h:A[id]?=some (.row 1 false (a0 xs))) {k:Nat} (hk:k<xs.length) (v:Bool):aA 1 A (.ptr id k 0) (.bool v)=some (A.set id (.row 1 false (a0 (xs.set k v)))):=by
 have e:(a0 xs)[k]?=some (.bool (xs.getD k false)):=by
  simp [a0,List.getD_eq_getElem?_getD,List.getElem?_eq_getElem hk]
 have e2:(a0 xs).set k (.bool v)=a0 (xs.set k v):=by simp [a0,List.map_set]
 simp only [aA,h,e]
 rw [if_pos ⟨trivial,rfl,rfl,by omega⟩]
 simp only [bj,cellsOf]
 rw [<-e2]
 rfl
end
def AN:List (FuncId × aG):=[(58,aD 4 M58),(59,H59),(40,H40)]
def H57:Nat->aG
 | 0=>fun h=>bV (dB GC AN h) 100 EN
 | k+1=>fun h=>bV (dB GC ((57,H57 k) :: AN) h) 100 EN
theorem w8:∀f M,aC AN f=some M->aj Try.prog GC f M:=af (aj.of_pure Fk 4) (af Fj (af nw az))
theorem Bl:∀k,aj Try.prog GC 57 (H57 k)
 | 0=>bZ w8 Mo B8 bh.nil
 | k+1=>bZ (af (Bl k) w8) Mo B8 bh.nil
structure Yl (h:aT) (yv:AV) (Hd:aa->List Int->aa) (Inv:aa->Prop) (E:List Int->Prop) (pb pe pf:Nat):Prop where
 isY:∃L,yv=.func (.yield L) [] []
 run:∀X o ov,Inv X->E o->cM X 1 ov (ak o)->h yv [ov] X=some (.bool true,Hd X o)
 inv:∀X o,Inv X->E o->Inv (Hd X o)
 app:∀X W,Inv X->Inv (X++W)
 keep:∀X o,jv pb pe pf X (Hd X o)
def dE (yp fp:Nat):AV:=.func (.func 57) [] [.ptr yp 0 0,.ptr fp 0 0]
theorem yH (X:aa) (done:List Int):cM (X++clR done) 1 (clV X.length done) (ak done):=by
 unfold clR clV
 by_cases h:done=[]
 ·rw [if_pos h,if_pos h,h]; exact .inl (.inl ⟨rfl,rfl⟩)
 ·rw [if_neg h,if_neg h]
  refine .inr ⟨X.length+1,0,false,ak done,by rw [aB],by rw [aY]; rfl,?_⟩
  rw [List.drop_zero,List.take_length]
theorem CI (h:aT) {X:aa} {dv:AV} {done:List Int} (hd:cM X 1 dv (ak done)) (hn:done=[]->dv=.nilS) (hl:done.length<=1000):H40 h [dv] X=some (clV X.length done,X++clR done):=by
 by_cases he:done=[]
 ·rw [hn he]
  unfold clV clR
  rw [if_pos he,if_pos he,List.append_nil]
  exact EJ h X
 ·rw [CG h hd he hl]
  unfold clV clR
  rw [if_neg he,if_neg he]
theorem Ln (X:aa) (done:List Int) (k:Nat) (hl:done.length<=1000):cw 1 8 (X++clR done) (clV X.length done) (.fs 1 [.int .i64 ((k:Int)+1)])=some (apV X.length done,X++apR done k):=by
 unfold clR clV apV apR
 by_cases h:done=[]
 ·rw [if_pos h,if_pos h,if_pos h,if_pos h,List.append_nil]
  simp [cw,aQ,ak]
 ·rw [if_neg h,if_neg h,if_neg h,if_neg h]
  have h1:(X++[Ent.dead,.row 1 false (ak done)])[X.length+1]?=some (.row 1 false (ak done)):=by rw [aY]; rfl
  have e:(X++[Ent.dead,.row 1 false (ak done)]).set (X.length+1) .dead++[Ent.row 1 false ((ak done).take done.length++[.int .i64 ((k:Int)+1)])]=X++[.dead,.dead,.row 1 false (ak (done++[(k:Int)+1]))]:=by
   rw [List.set_append_right _ _ (by omega),Nat.add_sub_cancel_left,<-aB done,List.take_length]
   simp [ak]
  simp only [cw,cX,h1,List.length_singleton,List.drop_zero]
  rw [if_pos ⟨trivial,by omega,by omega,by omega⟩,e]
  simp
section
variable {h:aT} {yv:AV} {Hd:aa->List Int->aa} {Inv:aa->Prop} {E:List Int->Prop} {pb pe pf yp fp:Nat}
theorem BB (hy:Yl h yv Hd Inv E pb pe pf) (fs:List (FuncId × aG)) (h58:aC fs 58=some (aD 4 M58)) (h40:aC fs 40=some H40) {X:aa} (hI:Inv X) (h1:X[yp]?=some (.row 1 false [yv])) {bi:Nat} {b:List Bool} (hb:X[bi]?=some (.row 1 false (a0 b))) (hbl:b.length<=100) (hany:b.any id=false)
  {done:List Int} {dv:AV} (hd:cM X 1 dv (ak done)) (hn:done=[]->dv=.nilS) (hl:done.length<=1000) (hE:E done) :
  bV (dB GC fs h) 100 EN [.sl bi 0 b.length,dv,.ptr yp 0 0,.ptr fp 0 0] X=some (.bool true,Hd (X++clR done) done):=by
 obtain ⟨L,rfl⟩:=hy.isY
 have hf:frz X 4 (.sl bi 0 b.length)=.fs 1 (a0 b):=by
  have:=dI (off:=0) (xs:=a0 b) hb (by rw [List.drop_zero,List.take_length]) (fun n x hx=>by
   obtain ⟨c,_,rfl⟩:=List.mem_map.1 hx
   cases n <;> rfl) 2
  rw [eC] at this
  exact this
 have m:=Cu (xs:=b) (.inr rfl) (by omega)
 rw [hany] at m
 have l1:ac false 1 X (.ptr yp 0 0)=some (.func (.yield L) [] []):=by simp only [ac,h1]; rfl
 have hypl:=(List.getElem?_eq_some_iff.1 h1).1
 have h1':(X++clR done)[yp]?=some (.row 1 false [.func (.yield L) [] []]):=by rw [cu X _ yp hypl,h1]
 have c:=fun hh=>CI hh hd hn hl
 have hr:=hy.run (X++clR done) done (clV X.length done) (hy.app _ _ hI) hE (yH X done)
 have hct:frz X 4 (.bool true)=.bool true:=rfl
 generalize clV X.length done=cv at *
 generalize X++clR done=X1 at *
 generalize Hd X1 done=X2 at *
 generalize b.length=n at *
 generalize (AV.fs 1 (a0 b))=F at *
 rw [a8 _ _ rfl]
 simp [EN,hf,hct,m,h58,h40,l1,c,hr,dS,h1,h1',-ac,-frz]
theorem DC (h:aT) (fs:List (FuncId × aG)) {H:aG} (h57:aC fs 57=some H) (h59:aC fs 59=some H59) (h40:aC fs 40=some H40) {X:aa} (h3:X[fp]?=some (.row 1 false [dE yp fp])) {bi:Nat} {b:List Bool} (hb:X[bi]?=some (.row 1 false (a0 b))) (hbl:b.length<=100)
  {done:List Int} {dv:AV} (hd:cM X 1 dv (ak done)) (hn:done=[]->dv=.nilS) (hl:done.length<=1000) {k:Nat} (hk:k<b.length) {Y:aa}
  (hr:oT b k=true->H h [.sl (X.length+1) 0 b.length,apV (X.length+2) done,.ptr yp 0 0,.ptr fp 0 0] (X++fA b done k)=some (.bool true,Y)) (hY:oT b k=false->Y=X) :
  run (dB GC fs h) 100 [.code gE] (nf (.sl bi 0 b.length) dv (.ptr fp 0 0) (.sl bi 0 b.length) (.int .i64 (b.length:Int)) (.int .i64 (k:Int))) X =
   some (.normal (nf (.sl bi 0 b.length) dv (.ptr fp 0 0) (.sl bi 0 b.length) (.int .i64 (b.length:Int)) (.int .i64 ((k+1:Nat):Int))) Y):=by
 have hfl:=(List.getElem?_eq_some_iff.1 h3).1
 have hbil:=(List.getElem?_eq_some_iff.1 hb).1
 have b0:=br k b.length .i64
 rw [decide_eq_true hk] at b0
 have i1:=eh hb hk .i64
 have d1:=tK hb hk
 have b1:ag .sub (.int .i64 (b.length:Int)) (.int .i64 1)=some (.int .i64 ((b.length:Int)-1)):=cc (by omega)
 have b2:=bz (k:Int) ((b.length:Int)-1)
 have b3:=a9 k (by omega)
 have ln:an (.sl bi 0 b.length)=some (.int .i64 (b.length:Int)):=rfl
 cases hc:oT b k with
 | false=>
  rw [hY hc]
  have hc':¬ (b.getD k false=true/\(k+1=b.length\/b.getD (k+1) false=false)):=fun hh=>by rw [iu.2 hh] at hc; cases hc
  cases hf:b.getD k false with
  | false=>
   rw [hf] at d1
   generalize decide ((k:Int)=(b.length:Int)-1)=q at *
   generalize (b.length:Int)-1=N1 at *
   generalize hNN:(b.length:Int)=N at *
   obtain ⟨i1',hi1'⟩:∃i1:Nat,i1=k+1:=⟨_,rfl⟩
   rw [<-hi1'] at b3 ⊢
   generalize (k:Int)=K at *
   simp [gE,b0,i1,d1,ln,b1,b2,b3,-ag,-ac,-ai,-an]
  | true=>
   have hne:k+1<b.length:=by
    rcases Nat.lt_or_ge (k+1) b.length with h' | h'
    ·exact h'
    ·exact absurd ⟨hf,.inl (by omega)⟩ hc'
   have hf2:b.getD (k+1) false=true:=by
    cases h':b.getD (k+1) false
    ·exact absurd ⟨hf,.inr h'⟩ hc'
    ·rfl
   have i2:=eh hb hne .i64
   have d2:=tK hb hne
   rw [hf] at d1
   rw [hf2] at d2
   rw [decide_eq_false (by omega)] at b2
   generalize (b.length:Int)-1=N1 at *
   generalize hNN:(b.length:Int)=N at *
   obtain ⟨i1',hi1'⟩:∃i1:Nat,i1=k+1:=⟨_,rfl⟩
   rw [<-hi1'] at b3 i2 d2 ⊢
   generalize (k:Int)=K at *
   generalize (i1':Int)=K1 at *
   simp [gE,b0,i1,i2,d1,d2,ln,b1,b2,b3,-ag,-ac,-ai,-an]
 | true=>
  obtain ⟨hf,hlast⟩:=iu.1 hc
  have hr:=hr hc
  rw [hf] at d1
  have hbne:b≠[]:=fun e=>by rw [e] at hk; exact absurd hk (Nat.not_lt_zero _)
  have hbh:cM X 1 (.sl bi 0 b.length) (a0 b):=.inr ⟨bi,0,false,a0 b,by rw [eC],hb,by rw [List.drop_zero,List.take_length]⟩
  have c59:=fun hh=>HS hh hbh hbne (by omega)
  have r1:(X++[Ent.dead,.row 1 false (a0 b)])[X.length+1]?=some (.row 1 false (a0 b)):=by rw [aY]; rfl
  have i3:=eh (n:=b.length) r1 hk .i64
  have s1:=s9 r1 hk false
  have e1:(X++[Ent.dead,.row 1 false (a0 b)]).set (X.length+1) (.row 1 false (a0 (b.set k false)))=X++[.dead,.row 1 false (a0 (b.set k false))]:=by
   rw [List.set_append_right _ _ (by omega),Nat.add_sub_cancel_left]; rfl
  rw [e1] at s1
  have hX2l:∀c,(X++[Ent.dead,.row 1 false (a0 c)]).length=X.length+2:=fun c=>by simp
  have ld3:∀W,ac false 1 (X++W) (.ptr fp 0 0)=some (dE yp fp):=fun W=>by
   have:(X++W)[fp]?=some (.row 1 false [dE yp fp]):=by rw [cu X W fp hfl,h3]
   simp only [ac,this]; rfl
  have hfp:∀W,(X++W)[fp]?=some (.row 1 false [dE yp fp]):=fun W=>by rw [cu X W fp hfl,h3]
  have hd2:cM (X++[Ent.dead,.row 1 false (a0 (mvB b k))]) 1 dv (ak done):=hd.app _
  have c40:=fun hh=>CI hh hd2 hn hl
  have ap:=Ln (X++[Ent.dead,.row 1 false (a0 (mvB b k))]) done k hl
  rw [hX2l] at c40 ap
  have b4:ag .add (.int .i64 (k:Int)) (.int .i64 1)=some (.int .i64 ((k:Int)+1)):=aS (by omega)
  have ldX2:=ld3 [Ent.dead,.row 1 false (a0 (mvB b k))]
  have g1:=hfp [Ent.dead,.row 1 false (a0 (mvB b k))]
  have g2:=hfp ([Ent.dead,.row 1 false (a0 (mvB b k))]++clR done)
  have g3:=hfp ([Ent.dead,.row 1 false (a0 (mvB b k))]++apR done k)
  rw [<-List.append_assoc] at g2 g3
  have eN:X++fA b done k=X++[Ent.dead,.row 1 false (a0 (mvB b k))]++apR done k:=by unfold fA; rw [List.append_assoc]
  rw [eN] at hr
  have hsl:be 1 [.int .i64 ((k:Int)+1)]=some (.fs 1 [.int .i64 ((k:Int)+1)]):=rfl
  have e9:((k+1:Nat):Int)=(k:Int)+1:=by push_cast; rfl
  have q1:fp≠(X++[Ent.dead,.row 1 false (a0 (mvB b k))]++clR done).length:=by simp; omega
  have q2:¬ fp∈aW (clV (X.length+2) done):=by
   unfold clV
   split
   ·simp [aW]
   ·simp [aW]; omega
  by_cases hl1:k+1=b.length
  ·rw [decide_eq_true (by omega)] at b2
   have em:mvB b k=b.set k false:=by unfold mvB; rw [if_pos hl1]
   rw [<-em] at s1
   generalize a0 (mvB b k)=bm at *
   generalize X++[Ent.dead,.row 1 false bm]++apR done k=X4 at *
   generalize X++[Ent.dead,.row 1 false bm]++clR done=X3 at *
   generalize X++[Ent.dead,.row 1 false bm]=X2 at *
   generalize X++[Ent.dead,.row 1 false (a0 b)]=X1 at *
   generalize clV (X.length+2) done=cv at *
   generalize apV (X.length+2) done=av at *
   rw [e9]
   generalize (b.length:Int)-1=N1 at *
   generalize hNN:(b.length:Int)=N at *
   generalize hKK:(k:Int)+1=K1 at *
   generalize (k:Int)=K at *
   simp [gE,b0,i1,i3,d1,ln,b1,b2,b4,h57,h59,h40,c59,c40,s1,ldX2,dE,hsl,ap,hr,g1,g2,-ag,-ac,-ai,-an,-aA,-be]
   exact ⟨q1,q2⟩
  ·rw [decide_eq_false (by omega)] at b2
   have hne:k+1<b.length:=by omega
   have hf2:b.getD (k+1) false=false:=hlast.resolve_left hl1
   have i2:=eh hb hne .i64
   have d2:=tK hb hne
   rw [hf2] at d2
   have r2:(X++[Ent.dead,.row 1 false (a0 (b.set k false))])[X.length+1]?=some (.row 1 false (a0 (b.set k false))):=by rw [aY]; rfl
   have i4:=eh (n:=b.length) r2 hne .i64
   have s2:=s9 r2 (show k+1<(b.set k false).length by simp; omega) true
   have e2:(X++[Ent.dead,.row 1 false (a0 (b.set k false))]).set (X.length+1) (.row 1 false (a0 ((b.set k false).set (k+1) true)))=X++[.dead,.row 1 false (a0 ((b.set k false).set (k+1) true))]:=by
    rw [List.set_append_right _ _ (by omega),Nat.add_sub_cancel_left]; rfl
   have em:mvB b k=(b.set k false).set (k+1) true:=by unfold mvB; rw [if_neg hl1]
   rw [e2,<-em] at s2
   rw [e9] at i2 i4
   generalize a0 (mvB b k)=bm at *
   generalize X++[Ent.dead,.row 1 false bm]++apR done k=X4 at *
   generalize X++[Ent.dead,.row 1 false bm]++clR done=X3 at *
   generalize X++[Ent.dead,.row 1 false bm]=X2 at *
   generalize X++[Ent.dead,.row 1 false (a0 (b.set k false))]=Xm at *
   generalize X++[Ent.dead,.row 1 false (a0 b)]=X1 at *
   generalize clV (X.length+2) done=cv at *
   generalize apV (X.length+2) done=av at *
   rw [e9]
   generalize (b.length:Int)-1=N1 at *
   generalize hNN:(b.length:Int)=N at *
   generalize hKK:(k:Int)+1=K1 at *
   generalize (k:Int)=K at *
   simp [gE,b0,i1,i2,i3,i4,d1,d2,ln,b1,b2,b4,h57,h59,h40,c59,c40,s1,s2,ldX2,dE,hsl,ap,hr,g1,g2,-ag,-ac,-ai,-an,-aA,-be]
   exact ⟨q1,q2⟩
theorem jV {X Y:aa} (hk:jv pb pe pf X Y) {j:Nat} {e:Ent} (h:X[j]?=some e) (h1:j≠pb/\j≠pe/\j≠pf):Y[j]?=some e:=by
 rw [hk.2 j (List.getElem?_eq_some_iff.1 h).1 h1.1 h1.2.1 h1.2.2,h]
def SlR (pb pe pf:Nat) (X:aa) (v:AV) (xs:List Int):Prop:=(v=.nilS/\xs=[])\/(xs≠[]/\∃i,v=.sl i 0 xs.length/\X[i]?=some (.row 1 false (ak xs))/\i≠pb/\i≠pe/\i≠pf)
theorem SlR.holds {X:aa} {v:AV} {xs:List Int} (h:SlR pb pe pf X v xs):cM X 1 v (ak xs)/\(xs=[]->v=.nilS):=by
 rcases h with ⟨rfl,rfl⟩ | ⟨hne,i,rfl,h1,_⟩
 ·exact ⟨.inl (.inl ⟨rfl,rfl⟩),fun _=>rfl⟩
 ·exact ⟨.inr ⟨i,0,false,ak xs,by rw [aB],h1,by rw [List.drop_zero,List.take_length]⟩,fun e=>absurd e hne⟩
theorem SlR.keep {X Y:aa} {v:AV} {xs:List Int} (h:SlR pb pe pf X v xs) (hk:jv pb pe pf X Y):SlR pb pe pf Y v xs:=by
 rcases h with h | ⟨hne,i,h1,h2,h3⟩
 ·exact .inl h
 ·exact .inr ⟨hne,i,h1,jV hk h2 h3,h3⟩
theorem SlR.ap {X:aa} (hb:pb<X.length/\pe<X.length/\pf<X.length) (done:List Int) (k:Nat):SlR pb pe pf (X++apR done k) (apV X.length done) (done++[(k:Int)+1]):=by
 refine .inr ⟨by simp,?_⟩
 unfold apR apV
 by_cases h:done=[]
 ·rw [if_pos h,if_pos h,h]
  refine ⟨X.length,rfl,?_,by omega,by omega,by omega⟩
  have:=aY X [Ent.row 1 false (ak [(k:Int)+1])] 0
  rw [Nat.add_zero] at this
  rw [this]; rfl
 ·rw [if_neg h,if_neg h]
  exact ⟨X.length+2,by simp,by rw [aY]; rfl,by omega,by omega,by omega⟩
theorem Mh (hy:Yl h yv Hd Inv E pb pe pf) (hyp:yp≠pb/\yp≠pe/\yp≠pf) (hfp:fp≠pb/\fp≠pe/\fp≠pf):∀(d:Nat) (X:aa) (b:List Bool) (done:List Int) (bi:Nat) (dv:AV),Inv X->(pb<X.length/\pe<X.length/\pf<X.length)->X[yp]?=some (.row 1 false [yv])->X[fp]?=some (.row 1 false [dE yp fp])->X[bi]?=some (.row 1 false (a0 b))->(bi≠pb/\bi≠pe/\bi≠pf)->b.length<=50 ->
  SlR pb pe pf X dv done->done.length+d<=100->mB b<=d->(∀r,Emp b r->E (done++r)) ->
  H57 d h [.sl bi 0 b.length,dv,.ptr yp 0 0,.ptr fp 0 0] X=some (.bool true,F57 Hd d b done X)
 | 0,X,b,done,bi,dv,hI,hp,h1,h2,h3,h4,h5,h6,h9,h10,h11=>by
  have ha:=qD b (by omega)
  have hE:=h11 [] ha
  rw [List.append_nil] at hE
  have:=BB (fp:=fp) hy AN rfl rfl hI h1 h3 (by omega) ha h6.holds.1 h6.holds.2 (by omega) hE
  unfold H57 F57
  rw [ha]
  exact this
 | d+1,X,b,done,bi,dv,hI,hp,h1,h2,h3,h4,h5,h6,h9,h10,h11=>by
  cases ha:b.any id with
  | false=>
   have hE:=h11 [] ha
   rw [List.append_nil] at hE
   have:=BB (fp:=fp) hy ((57,H57 d) :: AN) rfl rfl hI h1 h3 (by omega) ha h6.holds.1 h6.holds.2 (by omega) hE
   unfold H57 F57
   rw [ha]
   exact this
  | true=>
   have hInv:∀(e:Nat) (b':List Bool) (done':List Int) (X:aa),Inv X->mB b'<=e->(∀r,Emp b' r->E (done'++r))->Inv (F57 Hd e b' done' X):=fun e b' done' X hI hm hE=>by
    have:=ug (S:=Unit) (Hd:=Hd) (R:=fun X _=>Inv X) (st:=fun _ _=>()) (E:=E) (fun X W _ h=>hy.app X W h) (fun X _ o hE h=>hy.inv X o h hE) e b' done' X () hm hE hI
    exact this
   have loop:∀(c k:Nat) (Y:aa) (m:Nat),k+c=b.length->Inv Y->jv pb pe pf X Y->c<m ->
     b8 (evC (dB GC ((57,H57 d) :: AN) h) 100 gE) jK m (nf (.sl bi 0 b.length) dv (.ptr fp 0 0) (.sl bi 0 b.length) (.int .i64 (b.length:Int)) (.int .i64 (k:Int))) Y =
      some (.exit 0 ((nf (.sl bi 0 b.length) dv (.ptr fp 0 0) (.sl bi 0 b.length) (.int .i64 (b.length:Int)) (.int .i64 (b.length:Int))).set 13 (.bool false))
       ((List.range' k c).foldl (fun X k=>if oT b k then F57 Hd d (mvB b k) (done++[(k:Int)+1]) (X++fA b done k) else X) Y)):=by
    intro c
    induction c with
    | zero=>
     intro k Y m hk _ _ hm
     obtain ⟨m,rfl⟩:∃j,m=j+1:=⟨m-1,by omega⟩
     obtain rfl:k=b.length:=by omega
     have b0:=br b.length b.length .i64
     rw [decide_eq_false (by omega)] at b0
     rw [aO,yI]
     simp [gE,b0,-ag]
    | succ c ih=>
     intro k Y m hk hIY hK hm
     obtain ⟨m,rfl⟩:∃j,m=j+1:=⟨m-1,by omega⟩
     have hkl:k<b.length:=by omega
     have hpY:pb<Y.length/\pe<Y.length/\pf<Y.length:=by have:=hK.1; omega
     obtain ⟨Z,hZ⟩:∃Z,Z=if oT b k then F57 Hd d (mvB b k) (done++[(k:Int)+1]) (Y++fA b done k) else Y:=⟨_,rfl⟩
     have hdY:=h6.keep hK
     have hE':oT b k=true->∀r,Emp (mvB b k) r->E (done++[(k:Int)+1]++r):=fun hc r hr=>by
      rw [List.append_assoc]
      exact h11 _ ⟨k,rfl,hkl,hc,hr⟩
     have hrun:=DC (Y:=Z) (X:=Y) (H:=H57 d) h ((57,H57 d) :: AN) rfl rfl rfl (jV hK h2 hfp) (jV hK h3 h4) (by omega) hdY.holds.1 hdY.holds.2 (by omega) hkl (fun hc=>by
      have hm':=vY hkl hc
      have hl2:(Y++[Ent.dead,.row 1 false (a0 (mvB b k))]).length=Y.length+2:=by simp
      have hap:=SlR.ap (pb:=pb) (pe:=pe) (pf:=pf) (X:=Y++[Ent.dead,.row 1 false (a0 (mvB b k))]) (by rw [hl2]; omega) done k
      rw [hl2] at hap
      have eN:Y++fA b done k=Y++[Ent.dead,.row 1 false (a0 (mvB b k))]++apR done k:=by unfold fA; rw [List.append_assoc]
      have hKN:jv pb pe pf X (Y++fA b done k):=hK.trans (jv.app _ _)
      have hrow:(Y++fA b done k)[Y.length+1]?=some (.row 1 false (a0 (mvB b k))):=by rw [aY]; rfl
      have:=Mh hy hyp hfp d (Y++fA b done k) (mvB b k) (done++[(k:Int)+1]) (Y.length+1) (apV (Y.length+2) done) (hy.app _ _ hIY) (by have:=hKN.1; omega) (jV hKN h1 hyp) (jV hKN h2 hfp) hrow (by omega) (by rw [qB]; exact h5) (by rw [eN]; exact hap) (by simp; omega) (by omega) (hE' hc)
      rw [qB] at this
      rw [this,hZ,hc]; rfl) (fun hc=>by rw [hZ,hc]; rfl)
     rw [aO,yI,hrun,List.range'_succ,List.foldl_cons,<-hZ]
     refine ih (k+1) Z m (by omega) ?_ ?_ (by omega)
     ·rw [hZ]
      split
      ·rename_i hc
       have hm':=vY hkl hc
       exact hInv _ _ _ _ (hy.app _ _ hIY) (by omega) (hE' hc)
      ·exact hIY
     ·rw [hZ]
      refine hK.trans ?_
      split
      ·exact (jv.app _ _).trans (re hy.keep _ _ _ _)
      ·exact jv.refl
   have lp:=loop b.length 0 X 100 (by omega) hI jv.refl (by omega)
   have hf:frz X 4 (.sl bi 0 b.length)=.fs 1 (a0 b):=by
    have:=dI (off:=0) (xs:=a0 b) h3 (by rw [List.drop_zero,List.take_length]) (fun n x hx=>by
     obtain ⟨c,_,rfl⟩:=List.mem_map.1 hx
     cases n <;> rfl) 2
    rw [eC] at this
    exact this
   have m:=Cu (xs:=b) (.inr rfl) (by omega)
   rw [ha] at m
   have hct:frz X 4 (.bool true)=.bool true:=rfl
   have l58:aC AN 58=some (aD 4 M58):=rfl
   have ln:an (.sl bi 0 b.length)=some (.int .i64 (b.length:Int)):=rfl
   unfold F57
   rw [ha,if_pos rfl,List.range_eq_range']
   have lp:b8 (evC (dB GC ((57,H57 d) :: AN) h) 100 gE) jK 100 (nf (.sl bi 0 b.length) dv (.ptr fp 0 0) (.sl bi 0 b.length) (.int .i64 (b.length:Int)) (.int .i64 0)) X=_:=lp
   generalize (List.range' 0 b.length).foldl (fun X k=>if oT b k then F57 Hd d (mvB b k) (done++[(k:Int)+1]) (X++fA b done k) else X) X=Y at *
   generalize b.length=n at *
   generalize (AV.fs 1 (a0 b))=F at *
   unfold H57
   rw [a8 _ _ rfl]
   simp [EN,hf,hct,m,l58,ln,Gk lp,dS,-ac,-an,-frz]
end
end Tr
namespace Tr
open Go
open Cy (GC aL bc aB a7 cK lvM lvT cn dZ)
open Clu (aR a6 au chA aV aS cc bz da cF dA dM ce pT iT)
theorem vB {T:aR} {rd:List Int} {free:Int} (hS:Sit T rd free):∀(o:List Int) (i:Nat) (last:Int) (a:Nat->Option Nat),(∀k p,a k=some p->p<=i)->i+o.length<=1000->∀x∈gq T rd free i last a o,x.inR
 | [],i,last,a,ha,hn=>fun x hx=>by cases hx
 | t :: r,i,last,a,ha,hn=>fun x hx=>by
  have hw:=en hS.1.1
  have hb:=oK hS.1.1 last t
  have hc:=eR hS.1.1 (t-1).toNat
  have hfr:=hS.2.2.1
  have hrd:=xj hS (t-1).toNat
  have hs:(fV T rd a (t-1).toNat).1<=i /\ -1<=(fV T rd a (t-1).toNat).2/\(fV T rd a (t-1).toNat).2<=500000:=by
   unfold fV
   split
   ·rename_i p hp
    exact ⟨ha _ _ hp,by simp only; omega,by simp only; omega⟩
   ·exact ⟨Nat.zero_le _,by simp only; omega,by simp only; omega⟩
  obtain ⟨s1,s2,s3⟩:=hs
  simp only [List.length_cons] at hn
  simp only [gq,List.mem_cons] at hx
  unfold a7.inR inI
  rcases hx with rfl | rfl | rfl | hx
  ·unfold hdT
   split
   ·simp only; omega
   ·simp only; omega
  ·simp only; omega
  ·simp only; omega
  ·have:=vB hS r (i+1) t _ (fun k p hp=>by
    unfold upd at hp
    split at hp
    ·injection hp with hp; omega
    ·have:=ha k p hp; omega) (by omega) x hx
   unfold a7.inR inI at this
   exact this
def v34 (D:Nat) (r:Option (List cS)):AV:=match r with
 | some l=>.tup [.sl (D+l.length) 0 l.length,.bool true]
 | none=>.tup [.nilS,.bool false]
def XF (n0:Nat) (tv:AV) (T:aR) (rd:List Int) (free:Int) (o:List Int):aa:=XA n0 tv (cf T rd free o) (BF 0 [] o)
def G34 (n0:Nat) (tv:AV) (T:aR) (rd:List Int) (free:Int) (o:List Int):aa:=XF n0 tv T rd free o++(match dp T rd free o with | some l=>OA l | none=>[])
section
variable {A:aa} {T:aR} {chv chF rdv ov:AV} {rd o:List Int} {free:Int}
theorem HX (h:aT) (hT:Tl A T chv chF) (hS:Sit T rd free) (hr:cM A 1 rdv (ak rd)) (ho:cM A 1 ov (ak o)) (hE:Emp (b0 rd) o) :
  H34 h [au T chv,rdv,.int .i64 free,ov] A=some (v34 (A.length+(XF A.length (au T chv) T rd free o).length) (dp T rd free o),A++G34 A.length (au T chv) T rd free o):=by
 have hv:=hS.1.1
 have hol:=qT hS hE
 have hob:∀t∈o,1<=t/\t<=T.ch.length:=fun t ht=>by
  have:=uh hE t ht
  rw [ew,hS.2.1] at this; exact this
 have lp:=F6 (free:=free) hT hS hr ho (by omega) hob o.length 0 (-2) [] [] (fun _=>none) 300 (by omega) (fun h=>absurd rfl h) (by omega) (fun k=>rfl) rfl (by omega)
 rw [List.drop_zero,List.nil_append] at lp
 have hlo:=ho.len
 rw [aB] at hlo
 obtain ⟨tv,htv⟩:∃tv,tv=au T chv:=⟨_,rfl⟩
 have hB0:A++[Ent.row 5 false [tv],.row 1 false [.nilS],.map []]=A++XA A.length tv [] []:=by unfold XA; rw [if_pos rfl]; rfl
 have bx:aZ 5 tv A=some (.ptr A.length 0 0,A++[.row 5 false [tv]]):=by rw [htv]; rfl
 have bx2:aZ 1 .nilS (A++[Ent.row 5 false [tv]])=some (.ptr (A.length+1) 0 0,A++[.row 5 false [tv],.row 1 false [.nilS]]):=by simp [aZ,AV.solid,cellsOf]
 have ct:(cellsOf tv).length=5:=by rw [htv]; rfl
 obtain ⟨g1,_,_,_,_⟩:=sU (A:=A) (T:=T) (L:=[]) (kvs:=[]) hT.h.form
 have hf0:=hT.fz (XA A.length (au T chv) [] [])
 have m42:=vF (T:=T) chF hv
 rw [<-htv] at lp g1 hf0 ⊢
 generalize hBe:A++XA A.length tv [] []=B0 at *
 have lp:b8 (evC (ax GC tS) 300 dz) du 300 (gj rdv (.int .i64 free) ov (.ptr A.length 0 0) (.ptr (A.length+1) 0 0) (.func (.func 60) [] [.ptr (A.length+1) 0 0]) (.map (A.length+2)) (.int .i64 (wT T)) ov (.int .i64 (o.length:Int)) (.int .i64 0)) B0 =
   some (.exit 0 ((s34 A.length rdv free ov (wT T) o.length o.length).set 26 (.bool false)) (A++XF A.length tv T rd free o)):=lp
 have hin:=vB hS o 0 (-2) (fun _=>none) (fun k p h=>by cases h) (by omega)
 have hLl:=oM T rd free o 0 (-2) (fun _=>none)
 have hfrz:∃v,ac false 1 (A++XF A.length tv T rd free o) (.ptr (A.length+1) 0 0)=some v/\frz (A++XF A.length tv T rd free o) 4 v=slA 4 ((cf T rd free o).map cK):=by
  unfold XF XA
  by_cases hL:cf T rd free o=[]
  ·rw [if_pos hL]
   have:(A++[Ent.row 5 false [tv],.row 1 false [.nilS],.map ((BF 0 [] o).map kvA)])[A.length+1]?=some (.row 1 false [.nilS]):=by rw [aY]; rfl
   refine ⟨.nilS,by simp only [ac,this]; rfl,?_⟩
   rw [hL]; rfl
  ·rw [if_neg hL]
   have h1:(A++[Ent.row 5 false [tv],.row 1 false [.sl (A.length+3) 0 (cf T rd free o).length],.map ((BF 0 [] o).map kvA),.row 4 (decide (1<(cf T rd free o).length)) ((cf T rd free o).map cK)])[A.length+1]?=some (.row 1 false [.sl (A.length+3) 0 (cf T rd free o).length]):=by rw [aY]; rfl
   have h3:(A++[Ent.row 5 false [tv],.row 1 false [.sl (A.length+3) 0 (cf T rd free o).length],.map ((BF 0 [] o).map kvA),.row 4 (decide (1<(cf T rd free o).length)) ((cf T rd free o).map cK)])[A.length+3]?=some (.row 4 (decide (1<(cf T rd free o).length)) ((cf T rd free o).map cK)):=by rw [aY]; rfl
   refine ⟨.sl (A.length+3) 0 (cf T rd free o).length,by simp only [ac,h1]; rfl,?_⟩
   have e:=dI (xs:=(cf T rd free o).map cK) (off:=0) h3 (by rw [List.drop_zero,List.take_length]) (fun n x hx=>by
    obtain ⟨c,_,rfl⟩:=List.mem_map.1 hx
    cases n <;> rfl) 2
   rw [List.length_map] at e
   rw [e]
   unfold slA
   cases hm:(cf T rd free o).map cK with
   | nil=>exact absurd (List.map_eq_nil_iff.1 hm) hL
   | cons x r=>rfl
 obtain ⟨v,hv1,hv2⟩:=hfrz
 have harcs:Cy.cy (slA 4 ((cf T rd free o).map cK))=some (cf T rd free o):=Cy.fU (by unfold cf; rw [hLl]; omega) hin
 have hlev:=fun hh=>Cy.CJ hh (A:=A++XF A.length tv T rd free o) hv2 harcs ((o.length:Int)+1) 0
 have b1:ag .add (.int .i64 (o.length:Int)) (.int .i64 1)=some (.int .i64 ((o.length:Int)+1)):=aS (by omega)
 unfold G34 dp
 have hDo:∀X,cM (A++XF A.length tv T rd free o++X) 1 ov (ak o):=fun X=>(ho.app _).app X
 have hDl:(A++XF A.length tv T rd free o).length=A.length+(XF A.length tv T rd free o).length:=List.length_append
 rw [<-hDl,<-List.append_assoc]
 generalize hDe:A++XF A.length tv T rd free o=D at *
 by_cases hok:(lvM ((o.length:Int)+1) (cf T rd free o) 0).2.2=true
 rotate_left
 ·rw [if_neg (fun h=>hok h.1)]
  rw [Bool.not_eq_true] at hok
  have hlev:∀hh,Cy.H14 hh [.int .i64 ((o.length:Int)+1),v,.int .i64 0] D=some (.tup [slA 1 (ak (lvM ((o.length:Int)+1) (cf T rd free o) 0).1),slA 1 (ak (lvM ((o.length:Int)+1) (cf T rd free o) 0).2.1),.bool false],D):=fun hh=>by rw [hlev hh]; unfold lvT; rw [hok]
  generalize slA 1 (ak (lvM ((o.length:Int)+1) (cf T rd free o) 0).1)=w1 at *
  generalize slA 1 (ak (lvM ((o.length:Int)+1) (cf T rd free o) 0).2.1)=w2 at *
  generalize (o.length:Int)+1=M1 at *
  unfold H34
  rw [a8 _ _ rfl]
  simp [sR,bx,bx2,ct,hB0,g1,hf0,m42,hlo,rX lp,hv1,hlev,b1,dL,dS,v34,-aZ,-ac,-an,-frz,-cellsOf,-ag]
 have hR:cn ((o.length:Int)+1) (cf T rd free o) 0:=by
  unfold lvM at hok
  split at hok
  ·assumption
  ·cases hok
 obtain ⟨_,hver,_,_⟩:=dZ hR hok
 obtain ⟨st,hst⟩:∃st,st=(lvM ((o.length:Int)+1) (cf T rd free o) 0).1:=⟨_,rfl⟩
 have hsl:st.length=o.length+1:=by have:=hver.2.1; rw [hst]; omega
 have hlev:∀hh,Cy.H14 hh [.int .i64 ((o.length:Int)+1),v,.int .i64 0] D=some (.tup [slA 1 (ak st),slA 1 (ak (lvM ((o.length:Int)+1) (cf T rd free o) 0).2.1),.bool true],D):=fun hh=>by rw [hlev hh]; unfold lvT; rw [hok,hst]
 rw [<-hst]
 have hx0:=(bg 1 (ak st)).int (A:=D) _ _ (List.getElem?_eq_getElem (show 0<st.length by omega)) .i64
 have hx0:ai 1 D (slA 1 (ak st)) (.int .i64 0)=some (.fp [.int .i64 st[0]]):=hx0
 have hg0:st.getD 0 0=st[0]:=by rw [List.getD_eq_getElem?_getD,List.getElem?_eq_getElem (by omega)]; rfl
 have b2:=da (st[0]'(by omega)) 0
 have lpb:=D5 (sv:=slA 1 (ak st)) hDo (bg 1 (ak st)) hsl (by omega) o.length 0 300 (by omega) (by omega)
 rw [List.take_zero] at lpb
 have mk:cr 2 16 (.agg [.int .i64 0,.int .i64 0]) D (.int .i64 0) (.int .i64 (o.length:Int))=some (.sl D.length 0 0,D++OA []):=by
  simp only [cr]
  rw [if_pos ⟨by omega,by omega,by omega,by omega,rfl,rfl,by omega⟩]
  rfl
 have lpb:b8 (evC (ax GC tS) 300 lE) g8 300 (nj (slA 1 (ak st)) (.sl D.length 0 0) ov (.int .i64 (o.length:Int)) (.int .i64 0)) (D++OA [])=_:=lpb
 rw [hg0]
 by_cases h0:st[0]=0
 rotate_left
 ·rw [if_neg (fun h=>h0 h.2)]
  rw [decide_eq_true h0] at b2
  generalize slA 1 (ak st)=w1 at *
  generalize slA 1 (ak (lvM ((o.length:Int)+1) (cf T rd free o) 0).2.1)=w2 at *
  generalize (o.length:Int)+1=M1 at *
  generalize st[0]=s0 at *
  unfold H34
  rw [a8 _ _ rfl]
  simp [sR,bx,bx2,ct,hB0,g1,hf0,m42,hlo,rX lp,hv1,hlev,b1,b2,hx0,dL,dS,v34,-aZ,-ac,-an,-frz,-cellsOf,-ag,-ai]
 ·rw [if_pos ⟨hok,h0⟩]
  rw [decide_eq_false (fun h=>h h0)] at b2
  have el:(mkX (fun j=>st.getD j 0) 0 o).length=o.length:=qC _ _ _
  simp only [v34,el]
  generalize mkX (fun j=>st.getD j 0) 0 o=l at *
  generalize slA 1 (ak st)=w1 at *
  generalize slA 1 (ak (lvM ((o.length:Int)+1) (cf T rd free o) 0).2.1)=w2 at *
  generalize (o.length:Int)+1=M1 at *
  generalize st[0]=s0 at *
  unfold H34
  rw [a8 _ _ rfl]
  simp [sR,bx,bx2,ct,hB0,g1,hf0,m42,hlo,rX lp,hv1,hlev,b1,b2,hx0,mk,Gp lpb,dL,dS,-aZ,-ac,-an,-frz,-cellsOf,-ag,-ai,-cr]
end
end Tr
namespace Tr
open Go
open Cy (GC iq aL bc aB)
open Clu (aR a6 au chA aS cc bz ce cF)
def Md:List (FuncId × aG):=[(57,H57 10)]
@[simp] theorem Jf:aC Md 57=some (H57 10):=rfl
def H56:aG:=fun hd args A=>(bV (dB GC Md hd) 0 IR args A).map fun x=>(x.1,x.2.set A.length .dead)
theorem Fl:aj Try.prog GC 56 H56:=(bZ (af (Bl 10) az) at56 GV bh.nil).kill
def H33:aG:=fun hd=>bV (dB GC [] hd) 0 EP
theorem wZ:aj Try.prog GC 33 H33:=bZ az Lf yz bh.nil
theorem HY (h:aT) (A:aa) (i n:Nat):H33 h [.sl i 0 n] A=some (.func (.func 56) [] [.ptr A.length 0 0],A++[.row 1 false [.sl i 0 n]]):=by
 unfold H33
 rw [a8 _ _ rfl]
 simp [EP]
def A56 (A:aa) (yv:AV):aa:=A++[.row 1 false [yv],.row 1 false [dE A.length (A.length+1)]]
section
variable {h:aT} {yv:AV} {Hd:aa->List Int->aa} {Inv:aa->Prop} {E:List Int->Prop} {pb pe pf:Nat}
theorem HU (hy:Yl h yv Hd Inv E pb pe pf) {A:aa} {b:List Bool} {bi ip:Nat} (hp:pb<A.length/\pe<A.length/\pf<A.length) (hI:Inv (A56 A yv)) (hb:A[bi]?=some (.row 1 false (a0 b))) (hbi:bi≠pb/\bi≠pe/\bi≠pf) (hip:A[ip]?=some (.row 1 false [.sl bi 0 b.length])) (hbl:b.length<=4) (hE:∀r,Emp b r->E r) :
  H56 h [yv,.ptr ip 0 0] A=some (.tup [],(F57 Hd 10 b [] (A56 A yv)).set A.length .dead):=by
 obtain ⟨L,rfl⟩:=hy.isY
 have hbl':=(List.getElem?_eq_some_iff.1 hb).1
 have hil:=(List.getElem?_eq_some_iff.1 hip).1
 have e1:(A56 A (.func (.yield L) [] []))[A.length]?=some (.row 1 false [.func (.yield L) [] []]):=by simp [A56]
 have e2:(A56 A (.func (.yield L) [] []))[A.length+1]?=some (.row 1 false [dE A.length (A.length+1)]):=by unfold A56; rw [aY]; rfl
 have e3:(A56 A (.func (.yield L) [] []))[bi]?=some (.row 1 false (a0 b)):=by unfold A56; rw [cu A _ bi hbl',hb]
 have e4:(A56 A (.func (.yield L) [] []))[ip]?=some (.row 1 false [.sl bi 0 b.length]):=by unfold A56; rw [cu A _ ip hil,hip]
 have hal:(A56 A (.func (.yield L) [] [])).length=A.length+2:=by simp [A56]
 have hm:=Mh hy (yp:=A.length) (fp:=A.length+1) (by omega) (by omega) 10 _ b [] bi .nilS hI (by omega) e1 e2 e3 hbi (by omega) (.inl ⟨rfl,rfl⟩) (by simp) (F2 b hbl) (fun r hr=>hE r hr)
 have s1:aA 1 (A++[.row 1 false [.func (.yield L) [] []],.row 1 false [.nilF]]) (.ptr (A.length+1) 0 0) (.func (.func 57) [] [.ptr A.length 0 0,.ptr (A.length+1) 0 0])=some (A56 A (.func (.yield L) [] [])):=by
  have:(A++[Ent.row 1 false [.func (.yield L) [] []],.row 1 false [.nilF]])[A.length+1]?=some (.row 1 false [.nilF]):=by rw [aY]; rfl
  simp only [aA,this]
  simp [AV.solid,cellsOf,bj,A56,dE]
 have l1:ac false 1 (A56 A (.func (.yield L) [] [])) (.ptr (A.length+1) 0 0)=some (dE A.length (A.length+1)):=by simp only [ac,e2]; rfl
 have l2:ac false 1 (A56 A (.func (.yield L) [] [])) (.ptr ip 0 0)=some (.sl bi 0 b.length):=by simp only [ac,e4]; rfl
 generalize hX:A56 A (.func (.yield L) [] [])=X1 at *
 generalize F57 Hd 10 b [] X1=X2 at *
 generalize b.length=n at *
 unfold H56
 rw [a8 _ _ rfl]
 unfold dE at l1
 simp [IR,s1,l1,l2,hm,dS,-ac,-aA]
end
def bet (X:aa) (pe pf:Nat) (t:Int):Bool:=match X[pf]?,X[pe]? with
 | some (.row _ _ [.bool f]),some (.row _ _ [.int _ e])=>!f || decide (t<e)
 | _,_=>false
section
variable (T:aR) (tv:AV) (rd:List Int) (free:Int) (pb pe pf:Nat)
def HdD (X:aa) (o:List Int):aa:=
 match dp T rd free o with
 | none=>X++G34 X.length tv T rd free o
 | some l=>if bet X pe pf ((fQ T rd free l).getD 0) then
   (((X++G34 X.length tv T rd free o).set pb (.row 1 false [.sl (X.length+(XF X.length tv T rd free o).length+l.length) 0 l.length])).set pe (.row 1 false [.int .i64 ((fQ T rd free l).getD 0)])).set pf (.row 1 false [.bool true])
  else X++G34 X.length tv T rd free o
theorem mW (X:aa) (o:List Int):jv pb pe pf X (HdD T tv rd free pb pe pf X o):=by
 unfold HdD
 split
 ·exact jv.app _ _
 ·split
  ·refine ⟨by simp,fun j h1 h2 h3 h4=>?_⟩
   rw [List.getElem?_set_ne (Ne.symm h4),List.getElem?_set_ne (Ne.symm h3),List.getElem?_set_ne (Ne.symm h2),List.getElem?_append_left h1]
  ·exact jv.app _ _
theorem zG (X:aa) (o:List Int):X.length<=(HdD T tv rd free pb pe pf X o).length:=(mW T tv rd free pb pe pf X o).1
theorem zF {j:Nat} {e:Ent} (h1:j≠pb) (h2:j≠pe) (h3:j≠pf) (X:aa) (o:List Int) (hj:j<X.length):(HdD T tv rd free pb pe pf X o).set j e=HdD T tv rd free pb pe pf (X.set j e) o:=by
 have hb:∀t,bet (X.set j e) pe pf t=bet X pe pf t:=fun t=>by
  unfold bet
  rw [List.getElem?_set_ne h3,List.getElem?_set_ne h2]
 have ha:∀W,(X++W).set j e=X.set j e++W:=fun W=>List.set_append_left _ _ hj
 unfold HdD
 simp only [hb,List.length_set]
 split
 ·rw [ha]
 ·split
  ·rw [List.set_comm _ _ (Ne.symm h3),List.set_comm _ _ (Ne.symm h2),List.set_comm _ _ (Ne.symm h1),ha]
  ·rw [ha]
def Rep (n0:Nat) (X:aa) (s:Option (List cS × Int)):Prop:=(pb<X.length/\pe<X.length/\pf<X.length)/\match s with
 | none=>X[pb]?=some (.row 1 false [.nilS])/\(∃e,X[pe]?=some (.row 1 false [.int .i64 e]))/\X[pf]?=some (.row 1 false [.bool false])
 | some x=>(∃i,n0<i/\X[pb]?=some (.row 1 false [.sl i 0 x.1.length])/\X[i]?=some (.row 2 false (x.1.map aX)))/\X[pe]?=some (.row 1 false [.int .i64 x.2])/\X[pf]?=some (.row 1 false [.bool true])
end
section
variable {T:aR} {tv:AV} {rd:List Int} {free:Int} {pb pe pf n0:Nat}
theorem Rep.app {X:aa} {s:Option (List cS × Int)} (h:Rep pb pe pf n0 X s) (W:aa):Rep pb pe pf n0 (X++W) s:=by
 obtain ⟨⟨a1,a2,a3⟩,h⟩:=h
 refine ⟨by simp; omega,?_⟩
 cases s with
 | none=>
  obtain ⟨b1,⟨e,b2⟩,b3⟩:=h
  exact ⟨by rw [cu X W _ a1,b1],⟨e,by rw [cu X W _ a2,b2]⟩,by rw [cu X W _ a3,b3]⟩
 | some x=>
  obtain ⟨⟨i,b0,b1,b2⟩,b3,b4⟩:=h
  exact ⟨⟨i,b0,by rw [cu X W _ a1,b1],by rw [cu X W _ (List.getElem?_eq_some_iff.1 b2).1,b2]⟩,by rw [cu X W _ a2,b3],by rw [cu X W _ a3,b4]⟩
def K3 (s:Option (List cS × Int)) (t:Int):Bool:=match s with
 | none=>true
 | some x=>decide (t<x.2)
theorem Rep.bet {X:aa} {s:Option (List cS × Int)} (h:Rep pb pe pf n0 X s) (t:Int):Tr.bet X pe pf t=K3 s t:=by
 obtain ⟨_,h⟩:=h
 unfold Tr.bet
 cases s with
 | none=>
  obtain ⟨_,⟨e,b2⟩,b3⟩:=h
  rw [b2,b3]; rfl
 | some x=>
  obtain ⟨_,b3,b4⟩:=h
  rw [b3,b4]; rfl
theorem Rep.step (hne:pb≠pe/\pb≠pf/\pe≠pf) (_hp0:pb<=n0/\pe<=n0/\pf<=n0) {X:aa} (hn:n0<X.length) {s:Option (List cS × Int)} (h:Rep pb pe pf n0 X s) (o:List Int):Rep pb pe pf n0 (HdD T tv rd free pb pe pf X o) (gk T rd free s o):=by
 have hb:=h.bet
 have ha:=h.app (G34 X.length tv T rd free o)
 obtain ⟨⟨a1,a2,a3⟩,_⟩:=id h
 have hset:∀l,dp T rd free o=some l->Rep pb pe pf n0 ((((X++G34 X.length tv T rd free o).set pb (.row 1 false [.sl (X.length+(XF X.length tv T rd free o).length+l.length) 0 l.length])).set pe (.row 1 false [.int .i64 ((fQ T rd free l).getD 0)])).set pf (.row 1 false [.bool true])) (some (l,(fQ T rd free l).getD 0)):=fun l hl=>by
  have hlen:X.length<=(X++G34 X.length tv T rd free o).length:=by simp
  have hrow:(X++G34 X.length tv T rd free o)[X.length+(XF X.length tv T rd free o).length+l.length]?=some (.row 2 false (l.map aX)):=by
   rw [Nat.add_assoc,aY]
   unfold G34
   rw [hl,aY]
   unfold OA
   rw [List.getElem?_append_right (by simp)]
   simp
  refine ⟨by simp only [List.length_set]; omega,⟨⟨X.length+(XF X.length tv T rd free o).length+l.length,by omega,?_,?_⟩,?_,?_⟩⟩
  ·rw [List.getElem?_set_ne (Ne.symm hne.2.1),List.getElem?_set_ne (Ne.symm hne.1),List.getElem?_set_self (by omega)]
  ·rw [List.getElem?_set_ne (by omega),List.getElem?_set_ne (by omega),List.getElem?_set_ne (by omega),hrow]
  ·rw [List.getElem?_set_ne (Ne.symm hne.2.2),List.getElem?_set_self (by simp only [List.length_set]; omega)]
  ·rw [List.getElem?_set_self (by simp only [List.length_set]; omega)]
 unfold HdD gk
 cases ht:dp T rd free o with
 | none=>exact ha
 | some l=>
  simp only [hb]
  cases s with
  | none=>exact hset l ht
  | some x=>
   by_cases hlt:(fQ T rd free l).getD 0<x.2
   ·have e:K3 (some x) ((fQ T rd free l).getD 0)=true:=decide_eq_true hlt
    rw [if_pos e]
    simp only
    rw [if_pos hlt]; exact hset l ht
   ·have e:K3 (some x) ((fQ T rd free l).getD 0)=false:=decide_eq_false hlt
    rw [e,if_neg (by decide)]
    simp only
    rw [if_neg hlt]; exact ha
end
end Tr
namespace Tr
open Go
open Cy (GC iq aL bc aB)
open Clu (aR a6 au chA aS cc bz ce cF)
theorem gt {A:aa} {id:Nat} {e a:AV} (h:A[id]?=some (.row 1 false [e])) (hs:a.solid=true) (hc:cellsOf a=[a]):aA 1 A (.ptr id 0 0) a=some (A.set id (.row 1 false [a])):=by
 simp only [aA,h,List.getElem?_cons_zero]
 rw [if_pos ⟨trivial,hs,by rw [hc]; rfl,by omega⟩]
 unfold bj
 rw [if_pos ⟨rfl,by rw [hc]; rfl⟩]
 rfl
theorem Tl.app {A:aa} {T:aR} {chv chF:AV} (h:Tl A T chv chF) (W:aa):Tl (A++W) T chv chF:=⟨h.h.app W,fun X=>by rw [List.append_assoc]; exact h.fz _,h.sF⟩
structure Rl (A:aa) (rd:List Int) (rdv rdF:AV):Prop where
 h:cM A 1 rdv (ak rd)
 fz:∀X,frz (A++X) 4 rdv=rdF
 sF:SlA 1 (ak rd) rdF
theorem Rl.app {A:aa} {rd:List Int} {rdv rdF:AV} (h:Rl A rd rdv rdF) (W:aa):Rl (A++W) rd rdv rdF:=⟨h.h.app W,fun X=>by rw [List.append_assoc]; exact h.fz _,h.sF⟩
theorem Rl.of {A:aa} {rd:List Int} {rdv:AV} (h:cM A 1 rdv (ak rd)):∃rdF,Rl A rd rdv rdF:=by
 rcases h with h | ⟨id,off,gr,es,rfl,h1,h2⟩
 ·exact ⟨rdv,.inl h,fun X=>h.frz 4,h⟩
 ·refine ⟨.fs 1 (ak rd),.inr ⟨id,off,gr,es,rfl,h1,h2⟩,fun X=>?_,.inr rfl⟩
  have h1':(A++X)[id]?=some (.row 1 gr es):=by rw [cu A X id (List.getElem?_eq_some_iff.1 h1).1,h1]
  exact dI h1' h2 (fun n x hx=>by
   obtain ⟨c,_,rfl⟩:=List.mem_map.1 hx
   cases n <;> rfl) 2
theorem rY {A:aa} {i:Nat} {g:Bool} {l:List cS} (h:A[i]?=some (.row 2 g (l.map aX))):frz A 4 (.sl i 0 l.length)=.fs 2 (l.map aX):=by
 have:=dI (off:=0) (xs:=l.map aX) h (by rw [List.drop_zero,List.take_length]) (fun n x hx=>by
  obtain ⟨c,_,rfl⟩:=List.mem_map.1 hx
  cases n <;> rfl) 2
 rw [List.length_map] at this
 exact this
structure D14 (A:aa) (tv rdv:AV) (free:Int) (Z:aa):Prop where
 pre:∃R,Z=A++R
 r0:Z[A.length]?=some (.row 5 false [tv])
 r1:Z[A.length+1]?=some (.row 1 false [rdv])
 r2:Z[A.length+2]?=some (.row 1 false [.int .i64 free])
section
variable {A Z:aa} {T:aR} {chv chF rdv rdF ov:AV} {rd o:List Int} {free:Int}
theorem D14.app {tv:AV} (h:D14 A tv rdv free Z) (W:aa):D14 A tv rdv free (Z++W):=by
 obtain ⟨⟨R,hR⟩,h0,h1,h2⟩:=h
 exact ⟨⟨R++W,by rw [hR,List.append_assoc]⟩,by rw [cu Z W _ (List.getElem?_eq_some_iff.1 h0).1,h0],by rw [cu Z W _ (List.getElem?_eq_some_iff.1 h1).1,h1],by rw [cu Z W _ (List.getElem?_eq_some_iff.1 h2).1,h2]⟩
theorem D14.set {tv:AV} (h:D14 A tv rdv free Z) {j:Nat} (hj:A.length+2<j) (e:Ent):D14 A tv rdv free (Z.set j e):=by
 obtain ⟨⟨R,hR⟩,h0,h1,h2⟩:=h
 refine ⟨⟨R.set (j-A.length) e,by rw [hR,List.set_append_right _ _ (by omega)]⟩,?_,?_,?_⟩
 ·rw [List.getElem?_set_ne (by omega)]; exact h0
 ·rw [List.getElem?_set_ne (by omega)]; exact h1
 ·rw [List.getElem?_set_ne (by omega)]; exact h2
theorem D14.loads {tv:AV} (h:D14 A (au T chv) rdv free Z) (hc:(rdv=.nilS\/(∃e l,rdv=.fs e l))\/∃a b c,rdv=.sl a b c):ac true 5 Z (.ptr A.length 0 0)=some (au T chv)/\ac false 1 Z (.ptr (A.length+1) 0 0)=some rdv/\ac false 1 Z (.ptr (A.length+2) 0 0)=some (.int .i64 free):=by
 refine ⟨?_,?_,?_⟩
 ·simp only [ac,h.r0]; rfl
 ·simp only [ac,h.r1]
  rcases hc with (rfl | ⟨e,l,rfl⟩) | ⟨a,b,c,rfl⟩ <;> rfl
 ·simp only [ac,h.r2]; rfl
end
def uY:List (FuncId × aG):=[(29,aD 4 M29),(30,aD 4 M30),(34,H34),(17,aD 4 M17),(33,H33),(56,H56)]
theorem nz:∀f M,aC uY f=some M->aj Try.prog GC f M:=af (aj.of_pure Bn 4) (af (aj.of_pure ru 4) (af ny (af (aj.of_pure uD 4) (af wZ (af Fl az)))))
section
variable {A Z:aa} {T:aR} {chv chF rdv rdF ov:AV} {rd o:List Int} {free:Int}
theorem Hh (h:aT) (fs:List (FuncId × aG)) (h34:aC fs 34=some H34) (h17:aC fs 17=some (aD 4 M17)) (hT:Tl A T chv chF) (hr:Rl A rd rdv rdF) (hS:Sit T rd free) (hD:D14 A (au T chv) rdv free Z) (ho:cM Z 1 ov (ak o)) (hE:Emp (b0 rd) o) {s:Option (List cS × Int)} {n0:Nat} (hR:Rep (A.length+4) (A.length+5) (A.length+6) n0 Z s)
  (v0 v1 v2 v3 v7 v8 v9 v10 v11 v12 v13 v14 v19 v20 v21 v22 v23 v24 v25 v26 v27 v28 v29 v30 v31 v32 v33 u34 v35 v36:AV) :
  run (dB GC fs h) 300 [.code jT] [v0,v1,v2,v3,.ptr A.length 0 0,.ptr (A.length+1) 0 0,.ptr (A.length+2) 0 0,v7,v8,v9,v10,v11,v12,v13,v14,.ptr (A.length+4) 0 0,.ptr (A.length+5) 0 0,.ptr (A.length+6) 0 0,ov,v19,v20,v21,v22,v23,v24,v25,v26,v27,v28,v29,v30,v31,v32,v33,u34,v35,v36] Z =
   some (.normal (List.replicate 37 .undef) (HdD T (au T chv) rd free (A.length+4) (A.length+5) (A.length+6) Z o)):=by
 obtain ⟨R,hZ⟩:=hD.pre
 have hTZ:Tl Z T chv chF:=by rw [hZ]; exact hT.app R
 have hrZ:Rl Z rd rdv rdF:=by rw [hZ]; exact hr.app R
 obtain ⟨l4,l5,l6⟩:=hD.loads (tv:=au T chv) hr.h.form
 have c34:=HX (free:=free) (fun _ _ _=>none) hTZ hS hrZ.h ho hE
 have c34:∀hh,H34 hh [au T chv,rdv,.int .i64 free,ov] Z=_:=fun _=>c34
 have hD1:=hD.app (G34 Z.length (au T chv) T rd free o)
 obtain ⟨k4,k5,k6⟩:=hD1.loads (tv:=au T chv) hr.h.form
 have f4:=hTZ.fz (G34 Z.length (au T chv) T rd free o)
 have f5:=hrZ.fz (G34 Z.length (au T chv) T rd free o)
 have hR1:=hR.app (G34 Z.length (au T chv) T rd free o)
 have hsl:=gu hS
 unfold HdD
 cases ht:dp T rd free o with
 | none=>
  rw [ht] at c34
  simp only [v34] at c34
  generalize Z++G34 Z.length (au T chv) T rd free o=Z1 at *
  generalize au T chv=tv at *
  simp [jT,l4,l5,l6,h34,c34,-ac,List.replicate]
 | some l=>
  rw [ht] at c34
  simp only [v34] at c34
  dsimp only
  have hrow:(Z++G34 Z.length (au T chv) T rd free o)[Z.length+(XF Z.length (au T chv) T rd free o).length+l.length]?=some (.row 2 false (l.map aX)):=by
   rw [Nat.add_assoc,aY]
   unfold G34
   rw [ht,aY]
   unfold OA
   rw [List.getElem?_append_right (by simp)]
   simp
  have fl:=rY hrow
  have hll:l.length<=10:=by
   obtain ⟨X,_,rfl,_⟩:=ky hS hE ht
   rw [qC]; exact qT hS hE
  have m17:=sO hTZ.sF (by have:=hS.1.1.2.2.2.1; omega) hr.sF (by omega) free (lv:=.fs 2 (l.map aX)) (l:=l) (.inr rfl) (by omega)
  unfold EY at m17
  have hb:=hR.bet ((fQ T rd free l).getD 0)
  generalize Z.length+(XF Z.length (au T chv) T rd free o).length+l.length=li at *
  generalize hZ1:Z++G34 Z.length (au T chv) T rd free o=Z1 at *
  generalize (fQ T rd free l).getD 0=t at *
  generalize (fQ T rd free l).isSome=tb at *
  generalize hgF:(AV.fs 2 (l.map aX))=lF at *
  generalize hgn:l.length=ln at *
  generalize au T chv=tv at *
  generalize au T chF=tF at *
  obtain ⟨⟨p1,p2,p3⟩,hR1⟩:=hR1
  cases s with
  | none=>
   obtain ⟨q1,⟨e,q2⟩,q3⟩:=hR1
   have lf:ac false 1 Z1 (.ptr (A.length+6) 0 0)=some (.bool false):=by simp only [ac,q3]; rfl
   have s1:=gt q1 (a:=.sl li 0 ln) rfl rfl
   have s2:=gt (A:=Z1.set (A.length+4) (.row 1 false [.sl li 0 ln])) (id:=A.length+5) (e:=.int .i64 e) (a:=.int .i64 t) (by rw [List.getElem?_set_ne (by omega)]; exact q2) rfl rfl
   have s3:=gt (A:=(Z1.set (A.length+4) (.row 1 false [.sl li 0 ln])).set (A.length+5) (.row 1 false [.int .i64 t])) (id:=A.length+6) (e:=.bool false) (a:=.bool true) (by rw [List.getElem?_set_ne (by omega),List.getElem?_set_ne (by omega)]; exact q3) rfl rfl
   have hb:bet Z (A.length+5) (A.length+6) t=true:=hb
   simp only [hb,if_true]
   generalize ((Z1.set (A.length+4) (.row 1 false [.sl li 0 ln])).set (A.length+5) (.row 1 false [.int .i64 t])).set (A.length+6) (.row 1 false [.bool true])=Z4 at *
   generalize (Z1.set (A.length+4) (.row 1 false [.sl li 0 ln])).set (A.length+5) (.row 1 false [.int .i64 t])=Z3 at *
   generalize Z1.set (A.length+4) (.row 1 false [.sl li 0 ln])=Z2 at *
   simp [jT,l4,l5,l6,k4,k5,k6,f4,f5,fl,aL,h34,h17,c34,m17,lf,s1,s2,s3,bM,-ac,-aA,-frz,List.replicate]
  | some x=>
   obtain ⟨⟨i,_,q1,_⟩,q2,q3⟩:=hR1
   have lf:ac false 1 Z1 (.ptr (A.length+6) 0 0)=some (.bool true):=by simp only [ac,q3]; rfl
   have le:ac false 1 Z1 (.ptr (A.length+5) 0 0)=some (.int .i64 x.2):=by simp only [ac,q2]; rfl
   have b1:=ce t x.2
   have s1:=gt q1 (a:=.sl li 0 ln) rfl rfl
   have s2:=gt (A:=Z1.set (A.length+4) (.row 1 false [.sl li 0 ln])) (id:=A.length+5) (e:=.int .i64 x.2) (a:=.int .i64 t) (by rw [List.getElem?_set_ne (by omega)]; exact q2) rfl rfl
   have s3:=gt (A:=(Z1.set (A.length+4) (.row 1 false [.sl li 0 ln])).set (A.length+5) (.row 1 false [.int .i64 t])) (id:=A.length+6) (e:=.bool true) (a:=.bool true) (by rw [List.getElem?_set_ne (by omega),List.getElem?_set_ne (by omega)]; exact q3) rfl rfl
   have hb:bet Z (A.length+5) (A.length+6) t=decide (t<x.2):=hb
   simp only [hb]
   generalize ((Z1.set (A.length+4) (.row 1 false [.sl li 0 ln])).set (A.length+5) (.row 1 false [.int .i64 t])).set (A.length+6) (.row 1 false [.bool true])=Z4 at *
   generalize (Z1.set (A.length+4) (.row 1 false [.sl li 0 ln])).set (A.length+5) (.row 1 false [.int .i64 t])=Z3 at *
   generalize Z1.set (A.length+4) (.row 1 false [.sl li 0 ln])=Z2 at *
   generalize decide (t<x.2)=q at *
   generalize x.2=x2 at *
   cases q with
   | true=>simp [jT,l4,l5,l6,k4,k5,k6,f4,f5,fl,aL,h34,h17,c34,m17,lf,le,b1,s1,s2,s3,bM,-ac,-aA,-frz,-ag,List.replicate]
   | false=>simp [jT,l4,l5,l6,k4,k5,k6,f4,f5,fl,aL,h34,h17,c34,m17,lf,le,b1,bM,-ac,-aA,-frz,-ag,List.replicate]
end
end Tr
namespace Tr
open Go
open Cy (GC iq aL bc aB)
open Clu (aR a6 au chA aS cc bz ce cF)
theorem ql {E:Env} {fuel n0 l:Nat} {r:Loop} {σ σ1 σ2 σ3 args:List AV} {ps:List Nat} {asg bdy:MC} {h:aT} {A A2 A3:aa} (h1:A[n0]?=some (.loop r 0)) (h2:gv σ ps args=some σ1)
  (h3:run E fuel [.code asg] σ1 A=some (.normal σ2 A2)) (h4:A2[n0]?=some (.loop r 0)) (h5:run E fuel [.code bdy] σ2 (A2.set n0 .dead)=some (.normal σ3 A3)) :
  eE n0 l r σ ps (evC E fuel asg) (evC E fuel bdy) h (.func (.yield l) [] []) args A=some (.bool true,A3.set n0 (.loop r 0)):=by
 unfold eE
 simp only [ou,h1,h2,h3,h4,h5,and_self,if_true]
theorem qv {A:aa} {n:Nat} {e:Ent} (h:A[n]?=some e) (x:Ent):(A.set n x).set n e=A:=by
 rw [List.set_set]
 apply List.ext_getElem?
 intro i
 by_cases hi:n=i
 ·subst hi; rw [List.getElem?_set_self (List.getElem?_eq_some_iff.1 h).1,h]
 ·rw [List.getElem?_set_ne hi]
theorem Rep.set {pb pe pf n0 j:Nat} {X:aa} {s:Option (List cS × Int)} (h:Rep pb pe pf n0 X s) (h1:j≠pb) (h2:j≠pe) (h3:j≠pf) (hj:j<=n0) (e:Ent):Rep pb pe pf n0 (X.set j e) s:=by
 obtain ⟨⟨a1,a2,a3⟩,h⟩:=h
 refine ⟨by simp; omega,?_⟩
 cases s with
 | none=>
  obtain ⟨b1,⟨x,b2⟩,b3⟩:=h
  exact ⟨by rw [List.getElem?_set_ne h1,b1],⟨x,by rw [List.getElem?_set_ne h2,b2]⟩,by rw [List.getElem?_set_ne h3,b3]⟩
 | some x=>
  obtain ⟨⟨i,b0,b1,b2⟩,b3,b4⟩:=h
  exact ⟨⟨i,b0,by rw [List.getElem?_set_ne h1,b1],by rw [List.getElem?_set_ne (by omega),b2]⟩,by rw [List.getElem?_set_ne h2,b3],by rw [List.getElem?_set_ne h3,b4]⟩
section
variable {A:aa} {T:aR} {chv chF rdv rdF:AV} {rd:List Int} {free:Int}
def I14 (A:aa) (tv rdv:AV) (free:Int) (r:Loop) (X:aa):Prop:=D14 A tv rdv free X/\X[A.length+8]?=some (.loop r 0)/\∃s,Rep (A.length+4) (A.length+5) (A.length+6) (A.length+8) X s
noncomputable abbrev Hd14 (A:aa) (T:aR) (tv:AV) (rd:List Int) (free:Int):aa->List Int->aa:=HdD T tv rd free (A.length+4) (A.length+5) (A.length+6)
theorem D14.hd {tv:AV} {X:aa} (h:D14 A tv rdv free X) (o:List Int):D14 A tv rdv free (Hd14 A T tv rd free X o):=by
 unfold Hd14 HdD
 split
 ·exact h.app _
 ·split
  ·exact (((h.app _).set (by omega) _).set (by omega) _).set (by omega) _
  ·exact h.app _
theorem yl14 (h0:aT) (fs:List (FuncId × aG)) (h34:aC fs 34=some H34) (h17:aC fs 17=some (aD 4 M17)) (hT:Tl A T chv chF) (hr:Rl A rd rdv rdF) (hS:Sit T rd free) (L:Nat) (r:Loop)
  (v0 v1 v2 v3 v7 v8 v9 v10 v11 v12 v13 v14 v18 v19 v20 v21 v22 v23 v24 v25 v26 v27 v28 v29 v30 v31 v32 v33 u34 v35 v36:AV) :
  Yl (eE (A.length+8) L r [v0,v1,v2,v3,.ptr A.length 0 0,.ptr (A.length+1) 0 0,.ptr (A.length+2) 0 0,v7,v8,v9,v10,v11,v12,v13,v14,.ptr (A.length+4) 0 0,.ptr (A.length+5) 0 0,.ptr (A.length+6) 0 0,v18,v19,v20,v21,v22,v23,v24,v25,v26,v27,v28,v29,v30,v31,v32,v33,u34,v35,v36] [34] (evC (dB GC fs h0) 300 pS) (evC (dB GC fs h0) 300 jT) h0)
   (.func (.yield L) [] []) (Hd14 A T (au T chv) rd free) (I14 A (au T chv) rdv free r) (Emp (b0 rd)) (A.length+4) (A.length+5) (A.length+6):=by
 refine ⟨⟨L,rfl⟩,fun X o ov hI hE ho=>?_,fun X o hI hE=>?_,fun X W hI=>?_,fun X o=>mW ..⟩
 ·obtain ⟨hD,hL,s,hR⟩:=hI
  have hll:=(List.getElem?_eq_some_iff.1 hL).1
  have hbody:=Hh (Z:=X.set (A.length+8) .dead) (ov:=ov) (o:=o) h0 fs h34 h17 hT hr hS (hD.set (by omega) _) (by
    rcases ho with ho | ⟨id,off,gr,es,rfl,h1,h2⟩
    ·exact .inl ho
    ·refine .inr ⟨id,off,gr,es,rfl,?_,h2⟩
     rw [List.getElem?_set_ne (fun e=>by rw [<-e,hL] at h1; cases h1)]; exact h1) hE (hR.set (by omega) (by omega) (by omega) (Nat.le_refl _) .dead)
   v0 v1 v2 v3 v7 v8 v9 v10 v11 v12 v13 v14 v19 v20 v21 v22 v23 v24 v25 v26 v27 v28 v29 v30 v31 v32 v33 ov v35 v36
  have hset:gv [v0,v1,v2,v3,.ptr A.length 0 0,.ptr (A.length+1) 0 0,.ptr (A.length+2) 0 0,v7,v8,v9,v10,v11,v12,v13,v14,.ptr (A.length+4) 0 0,.ptr (A.length+5) 0 0,.ptr (A.length+6) 0 0,v18,v19,v20,v21,v22,v23,v24,v25,v26,v27,v28,v29,v30,v31,v32,v33,u34,v35,v36] [34] [ov] =
   some [v0,v1,v2,v3,.ptr A.length 0 0,.ptr (A.length+1) 0 0,.ptr (A.length+2) 0 0,v7,v8,v9,v10,v11,v12,v13,v14,.ptr (A.length+4) 0 0,.ptr (A.length+5) 0 0,.ptr (A.length+6) 0 0,v18,v19,v20,v21,v22,v23,v24,v25,v26,v27,v28,v29,v30,v31,v32,v33,ov,v35,v36]:=rfl
  have hasg:run (dB GC fs h0) 300 [.code pS] [v0,v1,v2,v3,.ptr A.length 0 0,.ptr (A.length+1) 0 0,.ptr (A.length+2) 0 0,v7,v8,v9,v10,v11,v12,v13,v14,.ptr (A.length+4) 0 0,.ptr (A.length+5) 0 0,.ptr (A.length+6) 0 0,v18,v19,v20,v21,v22,v23,v24,v25,v26,v27,v28,v29,v30,v31,v32,v33,ov,v35,v36] X =
   some (.normal [v0,v1,v2,v3,.ptr A.length 0 0,.ptr (A.length+1) 0 0,.ptr (A.length+2) 0 0,v7,v8,v9,v10,v11,v12,v13,v14,.ptr (A.length+4) 0 0,.ptr (A.length+5) 0 0,.ptr (A.length+6) 0 0,ov,v19,v20,v21,v22,v23,v24,v25,v26,v27,v28,v29,v30,v31,v32,v33,ov,v35,v36] X):=by simp [pS]
  rw [ql hL hset hasg hL hbody,zF T _ rd free _ _ _ (by omega) (by omega) (by omega) _ _ (by simpa using hll),qv hL]
 ·obtain ⟨hD,hL,s,hR⟩:=hI
  have hll:=(List.getElem?_eq_some_iff.1 hL).1
  exact ⟨hD.hd o,by rw [(mW ..).2 _ hll (by omega) (by omega) (by omega)]; exact hL,_,hR.step (by omega) (by omega) hll o⟩
 ·obtain ⟨hD,hL,s,hR⟩:=hI
  exact ⟨hD.app W,by rw [cu X W _ (List.getElem?_eq_some_iff.1 hL).1]; exact hL,s,hR.app W⟩
def X14 (A:aa) (tv rdv:AV) (free:Int) (b:List Bool):aa:=A++[.row 5 false [tv],.row 1 false [rdv],.row 1 false [.int .i64 free],.row 1 false (a0 b),.row 1 false [.nilS],.row 1 false [.int .i64 0],.row 1 false [.bool false],.row 1 false [.sl (A.length+3) 0 b.length]]
def E14 (A:aa) (T:aR) (tv rdv:AV) (rd:List Int) (free:Int):aa:=
 F57 (Hd14 A T tv rd free) 10 (b0 rd) [] (X14 A tv rdv free (b0 rd)++[.dead,.dead,.row 1 false [dE (A.length+9) (A.length+10)]])
theorem zJ (hS:Sit T rd free) (tv:AV):(∃R,E14 A T tv rdv rd free=A++R)/\Rep (A.length+4) (A.length+5) (A.length+6) (A.length+8) (E14 A T tv rdv rd free) (drF T rd free):=by
 have hx:(X14 A tv rdv free (b0 rd)++[Ent.dead,.dead,.row 1 false [dE (A.length+9) (A.length+10)]])=A++[.row 5 false [tv],.row 1 false [rdv],.row 1 false [.int .i64 free],.row 1 false (a0 (b0 rd)),.row 1 false [.nilS],.row 1 false [.int .i64 0],.row 1 false [.bool false],.row 1 false [.sl (A.length+3) 0 (b0 rd).length],.dead,.dead,.row 1 false [dE (A.length+9) (A.length+10)]]:=by
  unfold X14; rw [List.append_assoc]; rfl
 have h0:D14 A tv rdv free (X14 A tv rdv free (b0 rd)++[Ent.dead,.dead,.row 1 false [dE (A.length+9) (A.length+10)]])/\Rep (A.length+4) (A.length+5) (A.length+6) (A.length+8) (X14 A tv rdv free (b0 rd)++[Ent.dead,.dead,.row 1 false [dE (A.length+9) (A.length+10)]]) none:=by
  rw [hx]
  refine ⟨⟨⟨_,rfl⟩,by simp,by rw [aY]; rfl,by rw [aY]; rfl⟩,⟨by simp,?_⟩⟩
  exact ⟨by rw [aY]; rfl,⟨0,by rw [aY]; rfl⟩,by rw [aY]; rfl⟩
 have hlen:A.length+8<(X14 A tv rdv free (b0 rd)++[Ent.dead,.dead,.row 1 false [dE (A.length+9) (A.length+10)]]).length:=by rw [hx]; simp
 have:=ug (S:=Option (List cS × Int)) (Hd:=Hd14 A T tv rd free) (R:=fun X s=>D14 A tv rdv free X/\A.length+8<X.length/\Rep (A.length+4) (A.length+5) (A.length+6) (A.length+8) X s) (st:=gk T rd free) (E:=fun _=>True)
  (fun X W s h=>⟨h.1.app W,by simp; omega,h.2.2.app W⟩) (fun X s o _ h=>⟨h.1.hd o,Nat.lt_of_lt_of_le h.2.1 (zG T tv rd free (A.length+4) (A.length+5) (A.length+6) X o),h.2.2.step (by omega) (by omega) h.2.1 o⟩)
  10 (b0 rd) [] _ none (zh (gu hS).2) (fun _ _=>trivial) ⟨h0.1,hlen,h0.2⟩
 have e:((qz 10 (b0 rd)).map (([]:List Int) ++ ·))=qz 10 (b0 rd):=by simp
 rw [e] at this
 exact ⟨this.1.pre,this.2.2⟩
theorem DN (fs:List (FuncId × aG)) (h34:aC fs 34=some H34) (h17:aC fs 17=some (aD 4 M17)) (h56:aC fs 56=some H56) (hT:Tl A T chv chF) (hr:Rl A rd rdv rdF) (hS:Sit T rd free)
  (v0 v1 v2 v3 v7 v8 v9 v10 v11 v12 v13 v14 v18 v19 v20 v21 v22 v23 v24 v25 v26 v27 v28 v29 v30 v31 v32 u34 v35 v36:AV) (K:List KC) :
  run (ax GC fs) 300 (.code (.rangeFunc (.var 33) [34] pS jT) :: K) [v0,v1,v2,v3,.ptr A.length 0 0,.ptr (A.length+1) 0 0,.ptr (A.length+2) 0 0,v7,v8,v9,v10,v11,v12,v13,v14,.ptr (A.length+4) 0 0,.ptr (A.length+5) 0 0,.ptr (A.length+6) 0 0,v18,v19,v20,v21,v22,v23,v24,v25,v26,v27,v28,v29,v30,v31,v32,.func (.func 56) [] [.ptr (A.length+7) 0 0],u34,v35,v36] (X14 A (au T chv) rdv free (b0 rd)) =
   after (ax GC fs) 300 K (.normal [v0,v1,v2,v3,.ptr A.length 0 0,.ptr (A.length+1) 0 0,.ptr (A.length+2) 0 0,v7,v8,v9,v10,v11,v12,v13,v14,.ptr (A.length+4) 0 0,.ptr (A.length+5) 0 0,.ptr (A.length+6) 0 0,v18,v19,v20,v21,v22,v23,v24,v25,v26,v27,v28,v29,v30,v31,v32,.func (.func 56) [] [.ptr (A.length+7) 0 0],u34,v35,v36] (E14 A T (au T chv) rdv rd free)):=by
 refine jB _ _ _ _ _ fun L r=>?_
 have hl8:(X14 A (au T chv) rdv free (b0 rd)).length=A.length+8:=by simp [X14]
 obtain ⟨X0,hX0⟩:∃X0,X0=X14 A (au T chv) rdv free (b0 rd)++[Ent.loop r 0]:=⟨_,rfl⟩
 have hX0':X0=A++[.row 5 false [au T chv],.row 1 false [rdv],.row 1 false [.int .i64 free],.row 1 false (a0 (b0 rd)),.row 1 false [.nilS],.row 1 false [.int .i64 0],.row 1 false [.bool false],.row 1 false [.sl (A.length+3) 0 (b0 rd).length],.loop r 0]:=by
  rw [hX0]; unfold X14; rw [List.append_assoc]; rfl
 have hX0l:X0.length=A.length+9:=by rw [hX0']; simp
 have hA56:A56 X0 (.func (.yield L) [] [])=A++[.row 5 false [au T chv],.row 1 false [rdv],.row 1 false [.int .i64 free],.row 1 false (a0 (b0 rd)),.row 1 false [.nilS],.row 1 false [.int .i64 0],.row 1 false [.bool false],.row 1 false [.sl (A.length+3) 0 (b0 rd).length],.loop r 0,.row 1 false [.func (.yield L) [] []],.row 1 false [dE (A.length+9) (A.length+10)]]:=by
  unfold A56; rw [hX0l,hX0',List.append_assoc]; rfl
 have hy:=yl14 (fun _ _ _=>none) fs h34 h17 hT hr hS L r v0 v1 v2 v3 v7 v8 v9 v10 v11 v12 v13 v14 v18 v19 v20 v21 v22 v23 v24 v25 v26 v27 v28 v29 v30 v31 v32 (.func (.func 56) [] [.ptr (A.length+7) 0 0]) u34 v35 v36
 have hI:I14 A (au T chv) rdv free r (A56 X0 (.func (.yield L) [] [])):=by
  rw [hA56]
  refine ⟨⟨⟨_,rfl⟩,by simp,by rw [aY]; rfl,by rw [aY]; rfl⟩,by rw [aY]; rfl,none,⟨by simp,?_⟩⟩
  exact ⟨by rw [aY]; rfl,⟨0,by rw [aY]; rfl⟩,by rw [aY]; rfl⟩
 have hc:=HU (A:=X0) (b:=b0 rd) (bi:=A.length+3) (ip:=A.length+7) hy (by omega) hI (by rw [hX0',aY]; rfl) (by omega) (by rw [hX0',aY]; rfl) (by rw [ew]; exact (gu hS).2) (fun _ h=>h)
 have hs:=fun (j:Nat) (e:Ent) (h1:j≠A.length+4) (h2:j≠A.length+5) (h3:j≠A.length+6)=>zH (Hd:=Hd14 A T (au T chv) rd free) (j:=j) (e:=e) (fun X o=>zG ..) (fun X o hj=>zF T _ rd free _ _ _ h1 h2 h3 X o hj) 10 (b0 rd) []
 have hAl:(A56 X0 (.func (.yield L) [] [])).length=A.length+11:=by rw [hA56]; simp
 obtain ⟨k1,k2⟩:=hs (A.length+9) .dead (by omega) (by omega) (by omega) (A56 X0 (.func (.yield L) [] [])) (by omega)
 rw [hX0l,k2] at hc
 have hkeep:=re (Hd:=Hd14 A T (au T chv) rd free) (pb:=A.length+4) (pe:=A.length+5) (pf:=A.length+6) (fun X o=>mW ..) 10 (b0 rd) [] ((A56 X0 (.func (.yield L) [] [])).set (A.length+9) .dead)
 have hloop:(F57 (Hd14 A T (au T chv) rd free) 10 (b0 rd) [] ((A56 X0 (.func (.yield L) [] [])).set (A.length+9) .dead))[A.length+8]?=some (.loop r 0):=by
  rw [hkeep.2 (A.length+8) (by simp; omega) (by omega) (by omega) (by omega),List.getElem?_set_ne (by omega),hA56,aY]; rfl
 obtain ⟨_,k4⟩:=hs (A.length+8) .dead (by omega) (by omega) (by omega) ((A56 X0 (.func (.yield L) [] [])).set (A.length+9) .dead) (by simp; omega)
 have hend:(F57 (Hd14 A T (au T chv) rd free) 10 (b0 rd) [] ((A56 X0 (.func (.yield L) [] [])).set (A.length+9) .dead)).set (A.length+8) .dead=E14 A T (au T chv) rdv rd free:=by
  rw [k4]
  unfold E14
  congr 1
  rw [hA56,List.set_append_right _ _ (by omega),List.set_append_right _ _ (by omega),Nat.add_sub_cancel_left,Nat.add_sub_cancel_left]
  unfold X14
  rw [List.append_assoc]
  rfl
 rw [<-hX0,hl8]
 have hcall:jq fs (eE (A.length+8) L r [v0,v1,v2,v3,.ptr A.length 0 0,.ptr (A.length+1) 0 0,.ptr (A.length+2) 0 0,v7,v8,v9,v10,v11,v12,v13,v14,.ptr (A.length+4) 0 0,.ptr (A.length+5) 0 0,.ptr (A.length+6) 0 0,v18,v19,v20,v21,v22,v23,v24,v25,v26,v27,v28,v29,v30,v31,v32,.func (.func 56) [] [.ptr (A.length+7) 0 0],u34,v35,v36] [34] (evC (dB GC fs fun _ _ _=>none) 300 pS) (evC (dB GC fs fun _ _ _=>none) 300 jT) fun _ _ _=>none)
   (.func (.func 56) [] [.ptr (A.length+7) 0 0]) [.func (.yield L) [] []] X0=some (.tup [],F57 (Hd14 A T (au T chv) rd free) 10 (b0 rd) [] ((A56 X0 (.func (.yield L) [] [])).set (A.length+9) .dead)):=by
  rw [<-hc]
  simp [jq,h56]
 show (match jq fs _ (.func (.func 56) [] [.ptr (A.length+7) 0 0]) [.func (.yield L) [] []] X0 with
  | some (_,A')=>ku (A.length+8) _ A'
  | none=>none)=_
 erw [hcall]
 simp only [ku,hloop,if_true,hend]
end
end Tr
namespace Tr
open Go
open Cy (GC aL bc aB)
open Clu (aR a6 au chA aS cc bz)
def H54:aG:=fun _=>bV (ax GC []) 0 Ia
theorem Fp:aj Try.prog GC 54 H54:=(bS (aw az) rfl at54 GX bh.nil).y
theorem HV (h:aT) {A:aa} {a:AV} {es:List AV} (ha:cM A 2 a es) (hne:es≠[]) (hl:es.length<=1000):H54 h [a] A=some (.sl (A.length+1) 0 es.length,A++[.dead,.row 2 false es]):=by
 unfold H54
 rw [a8 _ _ rfl]
 have hb:es.length*16<=140737488355328:=by omega
 rcases ha with h | ⟨id,off,gr,rs,rfl,h1,h2⟩
 ·rcases h with ⟨_,h⟩ | rfl
  ·exact absurd h hne
  ·simp [Ia,dS,aM,aQ,hb]
 ·have hid:=(List.getElem?_eq_some_iff.1 h1).1
  have h1':∀T,(A++T)[id]?=some (.row 2 gr rs):=fun T=>by rw [List.getElem?_append_left hid,h1]
  simp [Ia,dS,aM,aQ,h1',h2,hb]
def JM:List (FuncId × aG):=[(54,H54),(53,H53)]
@[simp] theorem JK:aC JM 54=some H54:=rfl
@[simp] theorem JL:aC JM 53=some H53:=rfl
def H31:aG:=fun _=>bV (ax GC JM) 0 At
theorem w4:aj Try.prog GC 31 H31:=(bS (aw (af Fp (af Fq az))) rfl Lh yB bh.nil).y
theorem H0 (h:aT) {A:aa} {a:AV} {es:List AV} (ha:cM A 2 a es) (hl:es.length<=1000) {k:Nat} (hk:k<es.length):H31 h [a,.int .i64 (k:Int)] A=some (.sl (A.length+1) 0 (es.length-1),A++[.dead,.row 2 false (pi es k zK)]):=by
 have hne:es≠[]:=fun e=>by rw [e] at hk; exact absurd hk (Nat.not_lt_zero _)
 have c54:=fun hh=>HV hh ha hne hl
 have b1:ag .add (.int .i64 (k:Int)) (.int .i64 1)=some (.int .i64 ((k:Int)+1)):=aS (by omega)
 have c53:∀hh,H53 hh [.sl (A.length+1) 0 es.length,.int .i64 (k:Int),.int .i64 ((k:Int)+1)] (A++[.dead,.row 2 false es])=some (.sl (A.length+1) 0 (es.length-1),A++[.dead,.row 2 false (pi es k zK)]):=fun hh=>by
  have:(A++[Ent.dead,.row 2 false es])[A.length+1]?=some (.row 2 false es):=by rw [aY]; rfl
  simp only [H53,this]
  rw [if_pos ⟨trivial,by omega,trivial,by omega⟩,Int.toNat_natCast,List.set_append_right _ _ (by omega),Nat.add_sub_cancel_left]
  rfl
 generalize A++[Ent.dead,.row 2 false es]=A1 at *
 generalize (k:Int)+1=K1 at *
 unfold H31
 rw [a8 _ _ rfl]
 simp [At,c54,c53,b1,-ag]
def JJ:List (FuncId × aG):=[(40,H40),(55,H55)]
@[simp] theorem JI:aC JJ 40=some H40:=rfl
@[simp] theorem JH:aC JJ 55=some H55:=rfl
def H32:aG:=fun _=>bV (ax GC JJ) 0 EQ
theorem rt:aj Try.prog GC 32 H32:=(bS (aw (af nw (af Fo az))) rfl Lg yA bh.nil).y
theorem HZ (h:aT) {A:aa} {a:AV} {xs:List Int} (ha:cM A 1 a (ak xs)) (hl:xs.length<=1000) {k:Nat} (hk:k<xs.length):H32 h [a,.int .i64 (k:Int)] A=some (.sl (A.length+1) 0 (xs.length-1),A++[.dead,.row 1 false (pi (ak xs) k zX)]):=by
 have hne:xs≠[]:=fun e=>by rw [e] at hk; exact absurd hk (Nat.not_lt_zero _)
 have c40:=fun hh=>CG hh ha hne hl
 have b1:ag .add (.int .i64 (k:Int)) (.int .i64 1)=some (.int .i64 ((k:Int)+1)):=aS (by omega)
 have c55:∀hh,H55 hh [.sl (A.length+1) 0 xs.length,.int .i64 (k:Int),.int .i64 ((k:Int)+1)] (A++[.dead,.row 1 false (ak xs)])=some (.sl (A.length+1) 0 (xs.length-1),A++[.dead,.row 1 false (pi (ak xs) k zX)]):=fun hh=>by
  have:(A++[Ent.dead,.row 1 false (ak xs)])[A.length+1]?=some (.row 1 false (ak xs)):=by rw [aY]; rfl
  simp only [H55,this]
  rw [if_pos ⟨by rw [aB],by omega,trivial,by omega⟩,Int.toNat_natCast,List.set_append_right _ _ (by omega),Nat.add_sub_cancel_left]
  rfl
 generalize A++[Ent.dead,.row 1 false (ak xs)]=A1 at *
 generalize (k:Int)+1=K1 at *
 unfold H32
 rw [a8 _ _ rfl]
 simp [EQ,c40,c55,b1,-ag]
def qb {α:Type} (l:List α) (k:Nat):List α:=l.take k++l.drop (k+1)
theorem km {α:Type} {l:List α} {k:Nat} (h:k<l.length):(qb l k).length=l.length-1:=by simp [qb]; omega
theorem sh {A:aa} {id sz:Nat} {es:List AV} {za:AV} {k:Nat} (h:A[id]?=some (.row sz false (pi es k za))) (hk:k<es.length):cM A sz (.sl id 0 (es.length-1)) (qb es k):=by
 refine .inr ⟨id,0,false,_,by rw [km hk],h,?_⟩
 rw [List.drop_zero,km hk]
 unfold pi qb
 rw [List.take_append_of_le_length (by simp; omega)]
 exact List.take_of_length_le (by simp; omega)
theorem yj {α β:Type} (f:α->β) (l:List α) (k:Nat):qb (l.map f) k=(qb l k).map f:=by simp [qb]
def rj (T:aR) (k:Nat):aR:={T with ch:=qb T.ch k}
end Tr
namespace Tr
open Go
open Cy (GC iq aL bc aB)
open Clu (aR a6 au chA aS cc bz ce cF)
def f9:List (FuncId × aG):=(31,H31) :: (32,H32) :: uY
theorem qs:∀f M,aC f9 f=some M->aj Try.prog GC f M:=af w4 (af rt nz)
def H14:Nat->aG
 | 0=>fun h=>bV (dB GC f9 h) 300 kC
 | k+1=>fun h=>bV (dB GC ((14,H14 k) :: f9) h) 300 kC
theorem lu:∀k,aj Try.prog GC 14 (H14 k)
 | 0=>bZ qs A8 kn bh.nil
 | k+1=>bZ (af (lu k) qs) A8 kn bh.nil
section
variable {A:aa} {T:aR} {chv chF rdv rdF:AV} {rd:List Int} {free:Int}
def bB (rd:List Int) (i:Nat):List Bool:=(b0 rd).take i++List.replicate (rd.length-i) false
theorem Co (rd:List Int) {i:Nat} (h:i<=rd.length):(bB rd i).length=rd.length:=by simp [bB,ew]; omega
theorem Hj (rd:List Int) {i:Nat} (h:i<rd.length):(bB rd i).set i (decide (0<=rd.getD i 0))=bB rd (i+1):=by
 apply List.ext_getElem?
 intro j
 have hb:(b0 rd)[i]?=some (decide (0<=rd.getD i 0)):=by
  have h1:=Cp h
  rw [List.getD_eq_getElem?_getD,List.getElem?_eq_getElem (by rw [ew]; exact h)] at h1
  rw [List.getElem?_eq_getElem (by rw [ew]; exact h)]
  simpa using h1
 by_cases hj:i=j
 ·subst hj
  rw [List.getElem?_set_self (by rw [Co rd (by omega)]; exact h)]
  unfold bB
  rw [List.getElem?_append_left (by simp [ew]; omega),List.getElem?_take,if_pos (by omega),hb]
 ·rw [List.getElem?_set_ne hj]
  unfold bB
  by_cases h2:j<i
  ·rw [List.getElem?_append_left (by simp [ew]; omega),List.getElem?_append_left (by simp [ew]; omega),List.getElem?_take,List.getElem?_take,if_pos h2,if_pos (by omega)]
  ·rw [List.getElem?_append_right (by simp [ew]; omega),List.getElem?_append_right (by simp [ew]; omega)]
   simp only [List.length_take,ew,List.getElem?_replicate]
   by_cases h3:j<rd.length
   ·rw [if_pos (by omega),if_pos (by omega)]
   ·rw [if_neg (by omega),if_neg (by omega)]
def Z14 (A:aa) (tv rdv:AV) (free:Int) (b:List Bool):aa:=A++[.row 5 false [tv],.row 1 false [rdv],.row 1 false [.int .i64 free],.row 1 false (a0 b)]
theorem Ea (h:aT) (fs:List (FuncId × aG)) {tv:AV} (hr:cM A 1 rdv (ak rd)) (hrl:rd.length<=100):∀(c i m:Nat),i+c=rd.length->c<m ->
  b8 (evC (dB GC fs h) 300 lJ) il m (nt (.ptr A.length 0 0) (.ptr (A.length+1) 0 0) (.ptr (A.length+2) 0 0) (.sl (A.length+3) 0 rd.length) rdv (.int .i64 (rd.length:Int)) (.int .i64 (i:Int))) (Z14 A tv rdv free (bB rd i)) =
   some (.exit 2 ((nt (.ptr A.length 0 0) (.ptr (A.length+1) 0 0) (.ptr (A.length+2) 0 0) (.sl (A.length+3) 0 rd.length) rdv (.int .i64 (rd.length:Int)) (.int .i64 (rd.length:Int))).set 32 (.bool false)) (Z14 A tv rdv free (bB rd rd.length))):=by
 intro c
 induction c with
 | zero=>
  intro i m hi hm
  obtain ⟨m,rfl⟩:∃j,m=j+1:=⟨m-1,by omega⟩
  obtain rfl:i=rd.length:=by omega
  have b0':=br rd.length rd.length .i64
  rw [decide_eq_false (by omega)] at b0'
  rw [aO,yW]
  simp [lJ,b0',-ag]
 | succ c ih=>
  intro i m hi hm
  obtain ⟨m,rfl⟩:∃j,m=j+1:=⟨m-1,by omega⟩
  have hil:i<rd.length:=by omega
  have b0':=br i rd.length .i64
  rw [decide_eq_true hil] at b0'
  have b1:=a9 i (by omega)
  obtain ⟨p,h1,h2⟩:=hr.int (B:=Z14 A tv rdv free (bB rd i)) (cu A _) hil .i64
  have hrd:rd[i]=rd.getD i 0:=by rw [List.getD_eq_getElem?_getD,List.getElem?_eq_getElem hil]; rfl
  rw [hrd] at h2
  have b2:=iq (rd.getD i 0)
  have hrow:(Z14 A tv rdv free (bB rd i))[A.length+3]?=some (.row 1 false (a0 (bB rd i))):=by unfold Z14; rw [aY]; rfl
  have i1:=eh (n:=rd.length) hrow hil .i64
  have s1:=s9 hrow (show i<(bB rd i).length by rw [Co rd (by omega)]; exact hil) (decide (0<=rd.getD i 0))
  rw [Hj rd hil] at s1
  have eS:(Z14 A tv rdv free (bB rd i)).set (A.length+3) (.row 1 false (a0 (bB rd (i+1))))=Z14 A tv rdv free (bB rd (i+1)):=by
   unfold Z14
   rw [List.set_append_right _ _ (by omega),Nat.add_sub_cancel_left]; rfl
  rw [eS] at s1
  have hr':=ih (i+1) m (by omega) (by omega)
  obtain ⟨i1',hi1'⟩:∃i1:Nat,i1=i+1:=⟨_,rfl⟩
  rw [<-hi1'] at b1 s1 hr'
  have hrun:run (dB GC fs h) 300 [.code lJ] (nt (.ptr A.length 0 0) (.ptr (A.length+1) 0 0) (.ptr (A.length+2) 0 0) (.sl (A.length+3) 0 rd.length) rdv (.int .i64 (rd.length:Int)) (.int .i64 (i:Int))) (Z14 A tv rdv free (bB rd i)) =
    some (.normal (nt (.ptr A.length 0 0) (.ptr (A.length+1) 0 0) (.ptr (A.length+2) 0 0) (.sl (A.length+3) 0 rd.length) rdv (.int .i64 (rd.length:Int)) (.int .i64 (i1':Int))) (Z14 A tv rdv free (bB rd i1'))):=by
   generalize Z14 A tv rdv free (bB rd i)=B0 at *
   generalize Z14 A tv rdv free (bB rd i1')=B1 at *
   generalize decide (0<=rd.getD i 0)=q at *
   generalize rd.getD i 0=z at *
   simp [lJ,b0',b1,b2,h1,h2,i1,s1,-ag,-ac,-ai,-aA]
  rw [aO,yW,hrun]
  exact hr'
theorem qu {X:aa} {n:Nat} {e:Ent} (h:X[n]?=some e):X.set n e=X:=by
 apply List.ext_getElem?
 intro q
 by_cases hq:n=q
 ·subst hq; rw [List.getElem?_set_self (List.getElem?_eq_some_iff.1 h).1,h]
 ·rw [List.getElem?_set_ne hq]
def RV (lo:Nat) (B:aa) (v:AV) (l:List cS):Prop:=(v=.nilS/\l=[])\/∃i,lo<=i/\v=.sl i 0 l.length/\B[i]?=some (.row 2 false (l.map aX))
theorem p9 (fs:List (FuncId × aG)) (h29:aC fs 29=some (aD 4 M29)) (h30:aC fs 30=some (aD 4 M30)) (h34:aC fs 34=some H34) (h17:aC fs 17=some (aD 4 M17)) (h33:aC fs 33=some H33) (h56:aC fs 56=some H56) (hT:Tl A T chv chF) (hr:Rl A rd rdv rdF) (hTl:T.ch.length<=200) (hrl:rd.length<=200) :
  ∃v B,bV (ax GC fs) 300 kC [au T chv,rdv,.int .i64 free,.int .i64 0] A=some (.tup [v,.bool (b7 T rd free).isSome],B)/\(∃R,B=A++R)/\RV A.length B v ((b7 T rd free).getD []):=by
 have m29:=zD hT.sF hTl hr.sF hrl free
 obtain ⟨tv,htv⟩:∃tv,tv=au T chv:=⟨_,rfl⟩
 obtain ⟨R0,hR0⟩:∃R0,R0=[Ent.row 5 false [tv],.row 1 false [rdv],.row 1 false [.int .i64 free]]:=⟨_,rfl⟩
 have hsol:rdv.solid=true/\cellsOf rdv=[rdv]:=by rcases hr.h.form with (e | ⟨e,l,e'⟩) | ⟨a,b,c,e⟩ <;> simp_all [AV.solid,cellsOf]
 have bx1:aZ 5 tv A=some (.ptr A.length 0 0,A++[.row 5 false [tv]]):=by rw [htv]; rfl
 have bx2:aZ 1 rdv (A++[.row 5 false [tv]])=some (.ptr (A.length+1) 0 0,A++[.row 5 false [tv],.row 1 false [rdv]]):=by
  unfold aZ
  rw [if_pos ⟨by omega,hsol.1,by rw [hsol.2]; rfl⟩]
  simp
 have bx3:aZ 1 (.int .i64 free) (A++[.row 5 false [tv],.row 1 false [rdv]])=some (.ptr (A.length+2) 0 0,A++R0):=by rw [hR0]; simp [aZ,AV.solid,cellsOf]
 have ct:(cellsOf tv).length=5:=by rw [htv]; rfl
 have ci:(cellsOf (.int .i64 free)).length=1:=rfl
 have hD:D14 A tv rdv free (A++R0):=by
  rw [hR0]
  exact ⟨⟨_,rfl⟩,by simp,by rw [aY]; rfl,by rw [aY]; rfl⟩
 obtain ⟨l4,l5,l6⟩:=(htv ▸ hD:D14 A (au T chv) rdv free (A++R0)).loads (tv:=tv) hr.h.form
 have f4:=hT.fz R0
 have f5:=hr.fz R0
 have lnr:=hr.h.len
 rw [aB] at lnr
 have m30:M30 [.int .i64 0,.int .i64 0,.int .i64 (rd.length:Int)]=some (.bool true):=by
  rw [dQ,dw.2 (by omega)]
 have b1:=cF 0 0
 rw [decide_eq_false (by omega)] at b1
 rw [<-htv] at l4 f4
 by_cases hS:Sit T rd free
 rotate_left
 ·rw [decide_eq_false hS] at m29
  have hd:b7 T rd free=none:=if_neg hS
  refine ⟨.nilS,A++R0,?_,⟨R0,rfl⟩,.inl ⟨rfl,by rw [hd]; rfl⟩⟩
  rw [hd,<-htv]
  generalize A++R0=Z at *
  rw [a8 _ _ rfl]
  simp [kC,bx1,bx2,bx3,ct,ci,hsol.2,l4,l5,l6,h29,f4,f5,aL,m29,bM,dS,-aZ,-ac,-frz,-cellsOf]
 rw [decide_eq_true hS] at m29
 have hsl:=gu hS
 have hd:(b7 T rd free).isSome=(drF T rd free).isSome/\(b7 T rd free).getD []=((drF T rd free).map (·.1)).getD []:=by
  unfold b7
  rw [if_pos hS]
  cases drF T rd free <;> exact ⟨rfl,rfl⟩
 obtain ⟨hE1,hE2⟩:=zJ (A:=A) (rdv:=rdv) hS tv
 have mk:cr 1 1 (.bool false) (A++R0) (.int .i64 (rd.length:Int)) (.int .i64 (rd.length:Int))=some (.sl (A.length+3) 0 rd.length,Z14 A tv rdv free (bB rd 0)):=by
  have hl3:(A++R0).length=A.length+3:=by rw [hR0]; simp
  simp only [cr]
  have eZ:A++R0++[Ent.row 1 false (List.replicate rd.length (.bool false))]=Z14 A tv rdv free (bB rd 0):=by
   unfold Z14 bB a0
   rw [hR0]
   simp
  rw [if_pos ⟨by omega,by omega,by omega,by omega,rfl,rfl,by omega⟩,hl3,Int.toNat_natCast,eZ]
 have lpb:=Ea (tv:=tv) (free:=free) (fun _ _ _=>none) fs hr.h (by omega) rd.length 0 300 (by omega) (by omega)
 have lpb:b8 (evC (ax GC fs) 300 lJ) il 300 (nt (.ptr A.length 0 0) (.ptr (A.length+1) 0 0) (.ptr (A.length+2) 0 0) (.sl (A.length+3) 0 rd.length) rdv (.int .i64 (rd.length:Int)) (.int .i64 0)) (Z14 A tv rdv free (bB rd 0))=_:=lpb
 have hbB:bB rd rd.length=b0 rd:=by
  unfold bB
  rw [Nat.sub_self,List.replicate_zero,List.append_nil]
  exact List.take_of_length_le (by rw [ew]; exact Nat.le_refl _)
 rw [hbB] at lpb
 have hDZ:∀W,D14 A tv rdv free (Z14 A tv rdv free (bB rd 0)++W):=fun W=>by
  unfold Z14
  rw [List.append_assoc]
  exact ⟨⟨_,rfl⟩,by simp,by rw [aY]; rfl,by rw [aY]; rfl⟩
 obtain ⟨_,l5b,_⟩:=(htv ▸ (by simpa using hDZ []):D14 A (au T chv) rdv free (Z14 A tv rdv free (bB rd 0))).loads (tv:=tv) hr.h.form
 obtain ⟨ZA,hZA⟩:∃ZA,ZA=Z14 A tv rdv free (b0 rd):=⟨_,rfl⟩
 have hZAl:ZA.length=A.length+4:=by rw [hZA]; simp [Z14]
 have e15:aZ 1 .nilS ZA=some (.ptr (A.length+4) 0 0,ZA++[.row 1 false [.nilS]]):=by simp [aZ,AV.solid,cellsOf,hZAl]
 have e16:aZ 1 (.int .i64 0) (ZA++[.row 1 false [.nilS]])=some (.ptr (A.length+5) 0 0,ZA++[.row 1 false [.nilS],.row 1 false [.int .i64 0]]):=by simp [aZ,AV.solid,cellsOf,hZAl]
 have e17:aZ 1 (.bool false) (ZA++[.row 1 false [.nilS],.row 1 false [.int .i64 0]])=some (.ptr (A.length+6) 0 0,ZA++[.row 1 false [.nilS],.row 1 false [.int .i64 0],.row 1 false [.bool false]]):=by simp [aZ,AV.solid,cellsOf,hZAl]
 obtain ⟨ZB,hZB⟩:∃ZB,ZB=ZA++[Ent.row 1 false [.nilS],.row 1 false [.int .i64 0],.row 1 false [.bool false]]:=⟨_,rfl⟩
 have g5:ZB[A.length+5]?=some (.row 1 false [.int .i64 0]):=by rw [hZB,show A.length+5=ZA.length+1 by omega,aY]; rfl
 have g6:ZB[A.length+6]?=some (.row 1 false [.bool false]):=by rw [hZB,show A.length+6=ZA.length+2 by omega,aY]; rfl
 have s16:aA 1 ZB (.ptr (A.length+5) 0 0) (.int .i64 0)=some ZB:=by
  rw [gt g5 rfl rfl,qu g5]
 have s17:aA 1 ZB (.ptr (A.length+6) 0 0) (.bool false)=some ZB:=by
  rw [gt g6 rfl rfl,qu g6]
 have c33:∀hh,H33 hh [.sl (A.length+3) 0 rd.length] ZB=some (.func (.func 56) [] [.ptr (A.length+7) 0 0],X14 A tv rdv free (b0 rd)):=fun hh=>by
  have hl7:ZB.length=A.length+7:=by rw [hZB]; simp [hZAl]
  have eX:ZB++[Ent.row 1 false [.sl (A.length+3) 0 rd.length]]=X14 A tv rdv free (b0 rd):=by
   rw [hZB,hZA]
   unfold X14 Z14
   rw [ew]
   simp
  rw [HY,hl7,eX]
 have rg:=fun K=>DN (A:=A) (T:=T) (chv:=chv) (rdv:=rdv) (free:=free) fs h34 h17 h56 hT hr hS .undef .undef .undef .undef .undef .undef .undef .undef .undef (.sl (A.length+3) 0 rd.length) .undef .undef .undef .undef .undef .undef .undef .undef .undef .undef .undef .undef .undef .undef .undef .undef .undef .undef .undef .undef K
 rw [hd.1,hd.2]
 obtain ⟨EE,hEE⟩:∃EE,EE=E14 A T tv rdv rd free:=⟨_,rfl⟩
 rw [<-hEE] at hE1 hE2
 rw [<-htv,<-hEE] at rg
 have fin:∀(v:AV) (q:Bool),ac false 1 EE (.ptr (A.length+4) 0 0)=some v->ac false 1 EE (.ptr (A.length+6) 0 0)=some (.bool q) ->
   bV (ax GC fs) 300 kC [au T chv,rdv,.int .i64 free,.int .i64 0] A=some (.tup [v,.bool q],EE):=fun v q hv hq=>by
  rw [<-htv]
  rw [hZB] at s16 s17 c33
  generalize hXX:X14 A tv rdv free (b0 rd)=XX at *
  generalize ZA++[Ent.row 1 false [.nilS],.row 1 false [.int .i64 0],.row 1 false [.bool false]]=ZB1 at *
  generalize ZA++[Ent.row 1 false [.nilS],.row 1 false [.int .i64 0]]=ZB2 at *
  generalize ZA++[Ent.row 1 false [.nilS]]=ZB3 at *
  rw [<-hZA] at lpb
  generalize Z14 A tv rdv free (bB rd 0)=Z0 at *
  generalize A++R0=Z at *
  generalize hn:(rd.length:Int)=n at *
  rw [a8 _ _ rfl]
  simp [kC,bx1,bx2,bx3,ct,ci,hsol.2,l4,l5,l6,h29,h30,f4,f5,aL,m29,m30,bM,lnr,b1,mk,l5b,Gy lpb,e15,e16,e17,s16,s17,h33,c33,rg,hv,hq,dS,-aZ,-ac,-aA,-frz,-cellsOf,-ag,-cr,-an,-dQ]
 cases hdF:drF T rd free with
 | none=>
  rw [hdF] at hE2
  obtain ⟨_,q1,_,q3⟩:=hE2
  refine ⟨.nilS,EE,fin _ _ (by simp only [ac,q1]; rfl) (by simp only [ac,q3]; rfl),hE1,.inl ⟨rfl,rfl⟩⟩
 | some x=>
  rw [hdF] at hE2
  obtain ⟨_,⟨i,hi,q1,q2⟩,_,q3⟩:=hE2
  refine ⟨.sl i 0 x.1.length,EE,fin _ _ (by simp only [ac,q1]; rfl) (by simp only [ac,q3]; rfl),hE1,.inr ⟨i,by omega,rfl,q2⟩⟩
end
end Tr
namespace Tr
open Go
open Cy (GC iq aL bc aB)
open Clu (aR a6 au chA aS cc bz ce cF)
def mz (lost:Int) (t:cS):cS:=if lost<=t.1 then (t.1+1,t.2) else t
def iA (lost:Int) (l:List cS) (j:Nat):List cS:=(l.take j).map (mz lost)++l.drop j
theorem y8 (lost:Int) (l:List cS) (j:Nat):(iA lost l j).length=l.length:=by simp [iA]; omega
theorem y9 (lost:Int) {l:List cS} {j:Nat} (h:j<l.length):(iA lost l j)[j]?=some l[j]:=by
 unfold iA
 rw [List.getElem?_append_right (by simp; omega),List.getElem?_drop]
 simp only [List.length_map,List.length_take]
 rw [show j+(j-min j l.length)=j by omega,List.getElem?_eq_getElem h]
theorem yZ (lost:Int) {l:List cS} {j:Nat} (h:j<l.length):(iA lost l j).set j (mz lost l[j])=iA lost l (j+1):=by
 unfold iA
 rw [List.set_append_right _ _ (by simp; omega),List.take_add_one,List.map_append,List.getElem?_eq_getElem h,List.append_assoc]
 congr 1
 simp only [List.length_map,List.length_take]
 rw [show j-min j l.length=0 by omega,List.drop_eq_getElem_cons h]
 rfl
section
variable {B:aa} {i:Nat} {l:List cS} {lost:Int}
theorem Ei {n:Nat} (h:B[i]?=some (.row 2 false (l.map aX))) {j:Nat} (hj:j<n) (kk:IntKind):ai 2 B (.sl i 0 n) (.int kk (j:Int))=some (.ptr i j 0):=by
 simp only [ai,h]
 rw [if_pos ⟨trivial,by omega,by omega,by omega⟩]
 simp
theorem Eg (h:B[i]?=some (.row 2 false (l.map aX))) {j:Nat} {t:cS} (hj:l[j]?=some t):ab 0 B (.ptr i j 0)=some (.ptr i j 0)/\ac false 1 B (.ptr i j 0)=some (.int .i64 t.1):=by
 have e:(l.map aX)[j]?=some (aX t):=by simp [hj]
 refine ⟨by simp [ab,h],?_⟩
 simp only [ac,h,e]
 rfl
theorem CT (h:B[i]?=some (.row 2 false (l.map aX))) {j:Nat} {t:cS} (hj:l[j]?=some t) (z:Int):aA 1 B (.ptr i j 0) (.int .i64 z)=some (B.set i (.row 2 false ((l.set j (z,t.2)).map aX))):=by
 have e:(l.map aX)[j]?=some (aX t):=by simp [hj]
 have e2:(l.map aX).set j (aX (z,t.2))=(l.set j (z,t.2)).map aX:=by rw [List.map_set]
 simp only [aA,h,e]
 rw [if_pos ⟨trivial,rfl,rfl,by omega⟩,<-e2]
 rfl
theorem Eb (h:aT) (fs:List (FuncId × aG)) (ok:AV) (hl:l.length<=100) (hb:∀t∈l,-1000<=t.1/\t.1<=1000):∀(c j m:Nat) (B:aa),j+c=l.length->B[i]?=some (.row 2 false ((iA lost l j).map aX))->c<m ->
  ∃B',b8 (evC (dB GC fs h) 300 iS) im m (lj (.int .i64 lost) (.sl i 0 l.length) ok (.int .i64 (l.length:Int)) (.int .i64 (j:Int))) B =
   some (.exit 0 ((lj (.int .i64 lost) (.sl i 0 l.length) ok (.int .i64 (l.length:Int)) (.int .i64 (l.length:Int))).set 27 (.bool false)) B')/\B'=B.set i (.row 2 false ((l.map (mz lost)).map aX)):=by
 intro c
 induction c with
 | zero=>
  intro j m B hj hB hm
  obtain ⟨m,rfl⟩:∃j,m=j+1:=⟨m-1,by omega⟩
  obtain rfl:j=l.length:=by omega
  have b0':=br l.length l.length .i64
  rw [decide_eq_false (by omega)] at b0'
  have e:iA lost l l.length=l.map (mz lost):=by unfold iA; rw [List.take_length,List.drop_length,List.append_nil]
  rw [e] at hB
  refine ⟨B,?_,(qu hB).symm⟩
  rw [aO,vu]
  simp [iS,b0',-ag]
 | succ c ih=>
  intro j m B hj hB hm
  obtain ⟨m,rfl⟩:∃j,m=j+1:=⟨m-1,by omega⟩
  have hjl:j<l.length:=by omega
  have hil:=(List.getElem?_eq_some_iff.1 hB).1
  have b0':=br j l.length .i64
  rw [decide_eq_true hjl] at b0'
  have b1:=a9 j (by omega)
  have i1:=Ei (n:=l.length) hB hjl .i64
  have hg:=y9 lost hjl
  obtain ⟨f0,l0⟩:=Eg hB hg
  have s1:=CT hB hg (l[j].1+1)
  have hbj:=hb _ (List.getElem_mem hjl)
  have b2:ag .geq (.int .i64 l[j].1) (.int .i64 lost)=some (.bool (decide (lost<=l[j].1))):=by simp [ag]
  have b3:ag .add (.int .i64 l[j].1) (.int .i64 1)=some (.int .i64 (l[j].1+1)):=aS (by omega)
  have hset:=yZ lost hjl
  obtain ⟨B1,hrun,hB1,hBB⟩:∃B1,run (dB GC fs h) 300 [.code iS] (lj (.int .i64 lost) (.sl i 0 l.length) ok (.int .i64 (l.length:Int)) (.int .i64 (j:Int))) B =
    some (.normal (lj (.int .i64 lost) (.sl i 0 l.length) ok (.int .i64 (l.length:Int)) (.int .i64 ((j+1:Nat):Int))) B1)/\B1[i]?=some (.row 2 false ((iA lost l (j+1)).map aX))/\∀e,B1.set i e=B.set i e:=by
   obtain ⟨i1',hi1'⟩:∃i1:Nat,i1=j+1:=⟨_,rfl⟩
   rw [<-hi1'] at b1 ⊢
   unfold mz at hset
   by_cases hlo:lost<=l[j].1
   ·rw [if_pos hlo,<-hi1'] at hset
    rw [decide_eq_true hlo] at b2
    rw [hset] at s1
    refine ⟨_,?_,List.getElem?_set_self hil,fun e=>List.set_set ..⟩
    generalize B.set i (.row 2 false ((iA lost l i1').map aX))=B1 at *
    generalize l[j].1+1=z1 at *
    generalize l[j].1=z0 at *
    generalize (l.length:Int)=M at *
    generalize (i1':Int)=I1 at *
    generalize (j:Int)=J at *
    simp [iS,b0',b1,b2,b3,i1,f0,l0,s1,-ag,-ac,-ab,-ai,-aA]
   ·rw [if_neg hlo,<-hi1'] at hset
    rw [decide_eq_false hlo] at b2
    refine ⟨B,?_,?_,fun e=>rfl⟩
    ·generalize l[j].1=z0 at *
     generalize (l.length:Int)=M at *
     generalize (i1':Int)=I1 at *
     generalize (j:Int)=J at *
     simp [iS,b0',b1,b2,i1,f0,l0,-ag,-ac,-ab,-ai,-aA]
    ·have:(iA lost l j).set j l[j]=iA lost l j:=by
      apply List.ext_getElem?
      intro q
      by_cases hq:j=q
      ·subst hq; rw [List.getElem?_set_self (by rw [y8]; exact hjl),hg]
      ·rw [List.getElem?_set_ne hq]
     rw [<-hset,this]; exact hB
  obtain ⟨B',h1,h2⟩:=ih (j+1) m B1 (by omega) hB1 (by omega)
  refine ⟨B',?_,by rw [h2,hBB]⟩
  rw [aO,vu,hrun]
  exact h1
end
def df (T:aR) (rd:List Int) (free lost:Int):Option (List cS):=
 if Sit T rd free/\0<=lost/\lost<=rd.length then
  (if lost=0 then b7 T rd free else if T.ch.length=1 then some [] else (b7 (rj T (lost-1).toNat) (qb rd (lost-1).toNat) free).map fun l=>l.map (mz lost))
 else none
theorem oz {T:aR} {rd:List Int} {free:Int} {l:List cS} (h:b7 T rd free=some l):l.length<=10/\∀t∈l,1<=t.1/\t.1<=T.ch.length:=by
 have hE:=qU h
 obtain ⟨hS,_⟩:=qa h
 refine ⟨by have:=qT hS hE; rw [List.length_map] at this; exact this,fun t ht=>?_⟩
 have:=uh hE t.1 (List.mem_map.2 ⟨t,ht,rfl⟩)
 rw [ew,hS.2.1] at this
 exact this
end Tr
namespace Tr
open Go
open Cy (GC iq aL bc aB)
open Clu (aR a6 au chA aS cc bz ce cF)
section
variable {A:aa} {T:aR} {chv chF rdv rdF:AV} {rd:List Int} {free:Int}
theorem Aa {A R:aa} {e e':Ent} (_h:(A++R)[A.length]?=some e):∃R',(A++R).set A.length e'=A++R':=⟨R.set 0 e',by rw [List.set_append_right _ _ (Nat.le_refl _),Nat.sub_self]⟩
theorem wu {lost:Int} (hl0:lost≠0) (hT:Tl A T chv chF) (hr:Rl A rd rdv rdF) (hTl:T.ch.length<=200) (hrl:rd.length<=200) :
  ∃v B,bV (ax GC ((14,H14 0) :: f9)) 300 kC [au T chv,rdv,.int .i64 free,.int .i64 lost] A=some (.tup [v,.bool (df T rd free lost).isSome],B)/\(∃R,B=A++R)/\RV A.length B v ((df T rd free lost).getD []):=by
 have m29:=zD hT.sF hTl hr.sF hrl free
 obtain ⟨tv,htv⟩:∃tv,tv=au T chv:=⟨_,rfl⟩
 obtain ⟨R0,hR0⟩:∃R0,R0=[Ent.row 5 false [tv],.row 1 false [rdv],.row 1 false [.int .i64 free]]:=⟨_,rfl⟩
 have hsol:rdv.solid=true/\cellsOf rdv=[rdv]:=by rcases hr.h.form with (e | ⟨e,l,e'⟩) | ⟨a,b,c,e⟩ <;> simp_all [AV.solid,cellsOf]
 have bx1:aZ 5 tv A=some (.ptr A.length 0 0,A++[.row 5 false [tv]]):=by rw [htv]; rfl
 have bx2:aZ 1 rdv (A++[.row 5 false [tv]])=some (.ptr (A.length+1) 0 0,A++[.row 5 false [tv],.row 1 false [rdv]]):=by
  unfold aZ
  rw [if_pos ⟨by omega,hsol.1,by rw [hsol.2]; rfl⟩]
  simp
 have bx3:aZ 1 (.int .i64 free) (A++[.row 5 false [tv],.row 1 false [rdv]])=some (.ptr (A.length+2) 0 0,A++R0):=by rw [hR0]; simp [aZ,AV.solid,cellsOf]
 have ct:(cellsOf tv).length=5:=by rw [htv]; rfl
 have ci:(cellsOf (.int .i64 free)).length=1:=rfl
 have hD:D14 A tv rdv free (A++R0):=by
  rw [hR0]
  exact ⟨⟨_,rfl⟩,by simp,by rw [aY]; rfl,by rw [aY]; rfl⟩
 obtain ⟨l4,l5,l6⟩:=(htv ▸ hD:D14 A (au T chv) rdv free (A++R0)).loads (tv:=tv) hr.h.form
 have f4:=hT.fz R0
 have f5:=hr.fz R0
 have lnr:=hr.h.len
 rw [aB] at lnr
 have m30:=dQ lost 0 (rd.length:Int)
 have h29:aC f9 29=some (aD 4 M29):=rfl
 have h30:aC f9 30=some (aD 4 M30):=rfl
 have b1:=cF lost 0
 rw [<-htv] at l4 f4
 by_cases hS:Sit T rd free
 rotate_left
 ·rw [decide_eq_false hS] at m29
  have hd:df T rd free lost=none:=if_neg (fun h=>hS h.1)
  refine ⟨.nilS,A++R0,?_,⟨R0,rfl⟩,.inl ⟨rfl,by rw [hd]; rfl⟩⟩
  rw [hd,<-htv]
  generalize A++R0=Z at *
  rw [a8 _ _ rfl]
  simp [kC,bx1,bx2,bx3,ct,ci,hsol.2,l4,l5,l6,h29,f4,f5,aL,m29,bM,dS,-aZ,-ac,-frz,-cellsOf]
 rw [decide_eq_true hS] at m29
 by_cases hl:0<=lost/\lost<=(rd.length:Int)
 rotate_left
 ·have mb:mA lost 0 (rd.length:Int)=false:=by
   cases e:mA lost 0 (rd.length:Int)
   ·rfl
   ·exact absurd (dw.1 e) hl
  rw [mb] at m30
  have hd:df T rd free lost=none:=if_neg (fun h=>hl h.2)
  refine ⟨.nilS,A++R0,?_,⟨R0,rfl⟩,.inl ⟨rfl,by rw [hd]; rfl⟩⟩
  rw [hd,<-htv]
  generalize A++R0=Z at *
  generalize (rd.length:Int)=N at *
  rw [a8 _ _ rfl]
  simp [kC,bx1,bx2,bx3,ct,ci,hsol.2,l4,l5,l6,h29,h30,f4,f5,aL,m29,m30,lnr,bM,dS,-aZ,-ac,-an,-frz,-cellsOf,-dQ]
 have mb:mA lost 0 (rd.length:Int)=true:=dw.2 hl
 rw [mb] at m30
 rw [decide_eq_true (by omega)] at b1
 have hsl:=gu hS
 obtain ⟨k,hk⟩:∃k:Nat,lost-1=(k:Int):=⟨(lost-1).toNat,by omega⟩
 have hkr:k<rd.length:=by omega
 have hkc:k<T.ch.length:=by rw [<-hS.2.1]; exact hkr
 have hTeq:(lost-1).toNat=k:=by omega
 have b2:ag .sub (.int .i64 lost) (.int .i64 1)=some (.int .i64 (k:Int)):=by rw [cc (by omega),hk]
 have hdM:df T rd free lost=if T.ch.length=1 then some [] else (b7 (rj T k) (qb rd k) free).map fun l=>l.map (mz lost):=by
  unfold df
  rw [if_pos ⟨hS,hl⟩,if_neg hl0,hTeq]
 have hcm:k<(T.ch.map chA).length:=by rw [List.length_map]; exact hkc
 have hZl:(A++R0).length=A.length+3:=by rw [hR0]; simp
 have c31:=fun hh=>H0 hh (hT.h.app R0) (by rw [List.length_map]; omega) hcm
 rw [List.length_map,hZl] at c31
 obtain ⟨Z2,hZ2⟩:∃Z2,Z2=A++R0++[Ent.dead,.row 2 false (pi (T.ch.map chA) k zK)]:=⟨_,rfl⟩
 rw [<-hZ2] at c31
 have hD2:D14 A tv rdv free Z2:=by rw [hZ2]; exact hD.app _
 have hZ2r:Z2[A.length+4]?=some (.row 2 false (pi (T.ch.map chA) k zK)):=by rw [hZ2,show A.length+4=(A++R0).length+1 by omega,aY]; rfl
 have hZ2l:Z2.length=A.length+5:=by rw [hZ2,List.length_append,hZl]; rfl
 obtain ⟨tv',htv'⟩:∃tv',tv'=au (rj T k) (.sl (A.length+3+1) 0 (T.ch.length-1)):=⟨_,rfl⟩
 obtain ⟨Z3,hZ3⟩:∃Z3,Z3=Z2.set A.length (.row 5 false [tv']):=⟨_,rfl⟩
 have fa:∀(Z:aa) (t:AV),Z[A.length]?=some (.row 5 false [t])->ab 0 Z (.ptr A.length 0 0)=some (.ptr A.length 0 0):=fun Z t h=>by simp [ab,h]
 have fa1:=fa _ _ hD.r0
 have fa2:=fa _ _ hD2.r0
 have lc:ac false 1 (A++R0) (.ptr A.length 0 0)=some chv:=by
  simp only [ac,hD.r0,htv]
  rcases hT.h.form with (rfl | ⟨e,l,rfl⟩) | ⟨a,b,c,rfl⟩ <;> rfl
 have st3:aA 1 Z2 (.ptr A.length 0 0) (.sl (A.length+3+1) 0 (T.ch.length-1))=some Z3:=by
  have:=hD2.r0
  rw [htv] at this
  rw [hZ3,htv']
  simp only [aA,this]
  rfl
 have hZ3l:Z3.length=A.length+5:=by rw [hZ3,List.length_set,hZ2l]
 obtain ⟨R3,hR3⟩:∃R3,Z3=A++R3:=by
  obtain ⟨R,hR⟩:=hD2.pre
  rw [hZ3,hR]
  exact Aa (by rw [<-hR]; exact hD2.r0)
 have hD3:D14 A tv' rdv free Z3:=⟨⟨R3,hR3⟩,by rw [hZ3,List.getElem?_set_self (by omega)],by rw [hZ3,List.getElem?_set_ne (by omega)]; exact hD2.r1,by rw [hZ3,List.getElem?_set_ne (by omega)]; exact hD2.r2⟩
 have fa3:=fa _ _ hD3.r0
 have lc3:ac false 1 Z3 (.ptr A.length 0 0)=some (.sl (A.length+3+1) 0 (T.ch.length-1)):=by simp only [ac,hD3.r0,htv']; rfl
 have lnc:an (.sl (A.length+3+1) 0 (T.ch.length-1))=some (.int .i64 ((T.ch.length-1:Nat):Int)):=rfl
 have b3:=bz ((T.ch.length-1:Nat):Int) 0
 have h31:aC f9 31=some H31:=rfl
 rw [hdM]
 by_cases hn1:T.ch.length=1
 ·rw [if_pos hn1]
  rw [decide_eq_true (by omega)] at b3
  refine ⟨.nilS,Z3,?_,⟨R3,hR3⟩,.inl ⟨rfl,rfl⟩⟩
  rw [<-htv]
  generalize A++R0=Z at *
  generalize (rd.length:Int)=N at *
  generalize ((T.ch.length-1:Nat):Int)=N1 at *
  generalize T.ch.length-1=n1 at *
  rw [a8 _ _ rfl]
  simp [kC,bx1,bx2,bx3,ct,ci,hsol.2,l4,l5,l6,h29,h30,h31,f4,f5,aL,m29,m30,lnr,b1,b2,b3,fa1,fa2,fa3,lc,lc3,lnc,c31,st3,bM,dS,-aZ,-ac,-aA,-ab,-an,-frz,-cellsOf,-ag,-dQ]
 rw [if_neg hn1]
 rw [decide_eq_false (by omega)] at b3
 have hr3:Rl Z3 rd rdv rdF:=by rw [hR3]; exact hr.app R3
 have c32:=fun hh=>HZ hh hr3.h (by omega) hkr
 obtain ⟨Z4,hZ4⟩:∃Z4,Z4=Z3++[Ent.dead,.row 1 false (pi (ak rd) k zX)]:=⟨_,rfl⟩
 rw [<-hZ4,hZ3l] at c32
 have hD4:D14 A tv' rdv free Z4:=by rw [hZ4]; exact hD3.app _
 obtain ⟨g4,g5,g6⟩:=(htv' ▸ hD3:D14 A (au (rj T k) (.sl (A.length+3+1) 0 (T.ch.length-1))) rdv free Z3).loads (tv:=tv) hr.h.form
 obtain ⟨_,_,k6⟩:=(htv' ▸ hD4:D14 A (au (rj T k) (.sl (A.length+3+1) 0 (T.ch.length-1))) rdv free Z4).loads (tv:=tv) hr.h.form
 rw [<-htv'] at g4
 have hh1:cM Z4 2 (.sl (A.length+3+1) 0 (T.ch.length-1)) ((rj T k).ch.map chA):=by
  have hrow:Z4[A.length+4]?=some (.row 2 false (pi (T.ch.map chA) k zK)):=by
   rw [hZ4,cu Z3 _ _ (by omega),hZ3,List.getElem?_set_ne (by omega),hZ2r]
  have:=sh hrow hcm
  rw [List.length_map,yj] at this
  exact this
 have hh2:cM Z4 1 (.sl (A.length+5+1) 0 (rd.length-1)) (ak (qb rd k)):=by
  have hrow:Z4[A.length+6]?=some (.row 1 false (pi (ak rd) k zX)):=by
   rw [hZ4,show A.length+6=Z3.length+1 by omega,aY]; rfl
  have:=sh hrow (show k<(ak rd).length by rw [aB]; exact hkr)
  rw [aB] at this
  unfold ak at this ⊢
  rw [yj] at this
  exact this
 obtain ⟨aF,hTa⟩:=Tl.of hh1
 obtain ⟨bF,hRb⟩:=Rl.of hh2
 obtain ⟨v,B,hc14,⟨RB,hB⟩,hRV⟩:=p9 (A:=Z4) (T:=rj T k) (rd:=qb rd k) (free:=free) f9 rfl rfl rfl rfl rfl rfl hTa hRb (by rw [show (rj T k).ch.length=T.ch.length-1 from km hkc]; omega) (by rw [km hkr]; omega)
 rw [<-htv'] at hc14
 have hc14:H14 0 (fun _ _ _=>none) [tv',.sl (A.length+5+1) 0 (rd.length-1),.int .i64 free,.int .i64 0] Z4=_:=hc14
 have h32:aC f9 32=some H32:=rfl
 have hq1:Z4[A.length]?=Z3[A.length]?:=by rw [hD4.r0,hD3.r0]
 have hq2:Z4[A.length+2]?=Z3[A.length+2]?:=by rw [hD4.r2,hD3.r2]
 have r40:=hD4.r0
 have r42:=hD4.r2
 have r30:=hD3.r0
 have r32:=hD3.r2
 obtain ⟨L,hL⟩:∃L,L=(b7 (rj T k) (qb rd k) free).getD []:=⟨_,rfl⟩
 rw [<-hL] at hRV
 have hLb:L.length<=10/\∀t∈L,1<=t.1/\t.1<=4:=by
  rw [hL]
  cases hdr:b7 (rj T k) (qb rd k) free with
  | none=>exact ⟨by simp,fun t ht=>by simp at ht⟩
  | some l=>
   obtain ⟨q1,q2⟩:=oz hdr
   have:(rj T k).ch.length=T.ch.length-1:=km hkc
   refine ⟨q1,fun t ht=>?_⟩
   have:=q2 t ht
   have:=hS.1.1.2.2.2.1
   omega
 have hres:(((b7 (rj T k) (qb rd k) free).map fun l=>l.map (mz lost)).isSome=(b7 (rj T k) (qb rd k) free).isSome)/\((b7 (rj T k) (qb rd k) free).map fun l=>l.map (mz lost)).getD []=L.map (mz lost):=by
  rw [hL]
  cases b7 (rj T k) (qb rd k) free <;> exact ⟨rfl,rfl⟩
 rw [hres.1,hres.2]
 generalize (b7 (rj T k) (qb rd k) free).isSome=ok at *
 obtain ⟨R4,hR4⟩:=hD4.pre
 have hZ4l:A.length<=Z4.length:=by rw [hR4]; simp
 obtain ⟨lnv,B',lp,hB',hRV'⟩:an v=some (.int .i64 (L.length:Int))/\∃B',b8 (evC (ax GC ((14,H14 0) :: f9)) 300 iS) im 300 (lj (.int .i64 lost) v (.bool ok) (.int .i64 (L.length:Int)) (.int .i64 0)) B =
   some (.exit 0 ((lj (.int .i64 lost) v (.bool ok) (.int .i64 (L.length:Int)) (.int .i64 (L.length:Int))).set 27 (.bool false)) B')/\(∃R,B'=A++R)/\RV A.length B' v (L.map (mz lost)):=by
  rcases hRV with ⟨rfl,hnil⟩ | ⟨i,hi,rfl,hrow⟩
  ·rw [hnil]
   refine ⟨rfl,B,?_,⟨R4++RB,by rw [hB,hR4,List.append_assoc]⟩,.inl ⟨rfl,rfl⟩⟩
   have b0':=br 0 0 .i64
   rw [decide_eq_false (by omega)] at b0'
   have b0':ag .lss (.int .i64 0) (.int .i64 0)=some (.bool false):=b0'
   rw [show (300:Nat)=299+1 from rfl,aO,vu]
   simp [iS,b0',-ag]
  ·have h0:iA lost L 0=L:=by simp [iA]
   obtain ⟨B',h1,h2⟩:=Eb (i:=i) (l:=L) (lost:=lost) (fun _ _ _=>none) ((14,H14 0) :: f9) (.bool ok) (by omega) (fun t ht=>by have:=hLb.2 t ht; omega) L.length 0 300 B (by omega) (by rw [h0]; exact hrow) (by omega)
   refine ⟨rfl,B',h1,?_,.inr ⟨i,by omega,by rw [List.length_map],?_⟩⟩
   ·refine ⟨(R4++RB).set (i-A.length) (.row 2 false ((L.map (mz lost)).map aX)),?_⟩
    rw [h2,hB,hR4,List.append_assoc,List.set_append_right _ _ (by omega)]
   ·rw [h2,List.getElem?_set_self (List.getElem?_eq_some_iff.1 hrow).1]
 refine ⟨v,B',?_,hB',hRV'⟩
 rw [<-htv]
 generalize A++R0=Z at *
 generalize (rd.length:Int)=N at *
 generalize ((T.ch.length-1:Nat):Int)=N1 at *
 generalize T.ch.length-1=n1 at *
 generalize rd.length-1=n2 at *
 generalize (L.length:Int)=N3 at *
 rw [a8 _ _ rfl]
 simp [kC,bx1,bx2,bx3,ct,ci,hsol.2,l4,l5,l6,h29,h30,h31,h32,f4,f5,aL,m29,m30,lnr,b1,b2,b3,fa1,fa2,fa3,lc,lc3,lnc,c31,st3,g4,g5,k6,c32,hc14,lnv,Gz lp,bM,dS,r40,r42,r30,r32,-aZ,-ac,-aA,-ab,-an,-frz,-cellsOf,-ag,-dQ]
end
end Tr
namespace Tr
open Go
open Clu (aR a6 Chk cH aH cD gA isI bu wx ub lkT qA eF)
open Cy (a7 lar jt db bL)
theorem rE:∀(n:Nat) (l:List Nat),l.Nodup->(∀x∈l,x<n)->l.length<=n/\(l.length=n->∀x,x<n->x∈l)
 | 0,l,_,h=>by
  cases l with
  | nil=>exact ⟨Nat.le_refl _,fun _ x hx=>absurd hx (Nat.not_lt_zero _)⟩
  | cons a r=>exact absurd (h a List.mem_cons_self) (Nat.not_lt_zero _)
 | n+1,l,hn,h=>by
  by_cases hm:n∈l
  ·have h1:=rE n (l.erase n) (hn.erase n) fun x hx=>by
    obtain ⟨h1,h2⟩:=(hn.mem_erase_iff).1 hx
    have:=h x h2; omega
   rw [List.length_erase_of_mem hm] at h1
   have hp:0<l.length:=List.length_pos_of_mem hm
   refine ⟨by omega,fun he x hx=>?_⟩
   by_cases hx':x=n
   ·subst hx'; exact hm
   ·exact List.mem_of_mem_erase (h1.2 (by omega) x (by omega))
  ·have h1:=rE n l hn fun x hx=>by
    have:=h x hx
    have:x≠n:=fun e=>hm (e ▸ hx)
    omega
   exact ⟨by omega,fun he=>by omega⟩
def pos (o:List Int) (t:Int):Int:=db (isI t) o
structure Ord (n:Nat) (o:List Int):Prop where
 len:o.length=n+1
 nd:o.Nodup
 bd:∀x∈o,0<=x/\x<=n
 z:o.getD 0 0=0
theorem FN {T:aR} {o:List Int} (h:o∈aH T):Ord T.ch.length o:=by
 obtain ⟨_,h2,⟨r,h3,_⟩,h4⟩:=cD h
 exact ⟨h2,h4,gA h,by rw [h3]; rfl⟩
def hF (o:List Int) (i:Nat):Int:=if pos o ((i:Int)+1)<pos o (i:Int) then 1 else 0
def kF (o:List Int):Nat->Int
 | 0=>0
 | i+1=>kF o i+hF o i
theorem I7 (o:List Int) (i:Nat):0<=hF o i/\hF o i<=1:=by unfold hF; split <;> omega
theorem AH (o:List Int):∀i:Nat,0<=kF o i/\kF o i<=i
 | 0=>by simp [kF]
 | i+1=>by have:=AH o i; have:=I7 o i; simp only [kF]; push_cast; omega
def stD (s:cH) (t:Nat):Int:=s.starts.getD t 0
def bsF (T:aR) (s:cH) (free:Int):Int:=free+T.travel-stD s 0
def tk (T:aR) (s:cH) (free:Int) (r:Nat) (t:Int):cS:=(t,bsF T s free+(r:Int)*s.period+stD s t.toNat)
def cyc (T:aR) (s:cH) (free:Int) (r:Nat):List cS:=(s.order.filter fun t=>decide (kF s.order t.toNat<=r)).map (tk T s free r)
def eP (T:aR) (s:cH) (free:Int) (R:Nat):List cS:=(List.range R).flatMap (cyc T s free)
def rl (s:cH) (r p t:Nat):Int:=if pos s.order t<p then (r:Int) else (r:Int)-1
def onF (s:cH) (p t:Nat):Int:=if pos s.order t<p then 1 else 0
def GA (s:cH) (r p j:Nat):Prop:=hF s.order j+onF s p j-onF s p (j+1)=1/\kF s.order j<=rl s r p j
structure FI (T:aR) (s:cH) (free:Int) (r p:Nat) (x:St):Prop where
 len:x.inn.length=T.ch.length
 full:∀j,j<T.ch.length->GA s r p j->0<=x.inn.getD j 0/\x.inn.getD j 0=bsF T s free+rl s r p j*s.period+stD s j+wT T+tmT T j
 emp:∀j,j<T.ch.length->¬ GA s r p j->x.inn.getD j 0 = -1
 IL:0<=x.fin
 next:p<=T.ch.length->x.fin+btw T x.last (s.order.getD p 0)<=(tk T s free r (s.order.getD p 0)).2
end Tr
namespace Tr
open Go
open Cy (GC iq aL bc aB db)
open Clu (aR a6 au chA cH Chk q8 isI M64 uu qi aV aS cc bz ce cF dM)
theorem oA {A:aa} {T:aR} {chv chF rdv rdF:AV} {rd:List Int} {free lost:Int} (hT:Tl A T chv chF) (hr:Rl A rd rdv rdF) (hTl:T.ch.length<=200) (hrl:rd.length<=200) :
  ∃v B,bV (ax GC ((14,H14 0) :: f9)) 300 kC [au T chv,rdv,.int .i64 free,.int .i64 lost] A=some (.tup [v,.bool (df T rd free lost).isSome],B)/\(∃R,B=A++R)/\RV A.length B v ((df T rd free lost).getD []):=by
 by_cases h0:lost=0
 ·subst h0
  have e:df T rd free 0=b7 T rd free:=by
   unfold df
   by_cases hS:Sit T rd free
   ·rw [if_pos ⟨hS,by omega,by omega⟩,if_pos rfl]
   ·rw [if_neg (fun h=>hS h.1)]; unfold b7; rw [if_neg hS]
  rw [e]
  exact p9 ((14,H14 0) :: f9) rfl rfl rfl rfl rfl rfl hT hr hTl hrl
 ·exact wu h0 hT hr hTl hrl
theorem qr:∀f M,aC ((14,H14 0) :: f9) f=some M->aj Try.prog GC f M:=af (lu 0) qs
def E2:aG:=fun _=>bV (ax GC ((14,H14 0) :: f9)) 300 kC
theorem CY:aj Try.prog GC 14 E2:=(bS (aw qr) rfl A8 kn bh.nil).y
def M14:aP:=fun args=>evP (ax GC ((14,H14 0) :: f9)) 300 kC 4 args
theorem CX:aq Try.prog GC 14 M14:=aq.of_ev (E:=ax GC ((14,H14 0) :: f9)) (aw qr) rfl A8 kn 4 fun _ _ h=>⟨300,h⟩
theorem lY {T:aR} {chv rdv:AV} {rd:List Int} {free lost:Int} (hb:SlA 2 (T.ch.map chA) chv) (hr:SlA 1 (ak rd) rdv) (hTl:T.ch.length<=200) (hrl:rd.length<=200) :
  ∃v,M14 [au T chv,rdv,.int .i64 free,.int .i64 lost]=some (.tup [v,.bool (df T rd free lost).isSome])/\SlA 2 (((df T rd free lost).getD []).map aX) v:=by
 have hT:Tl [] T chv chv:=⟨.inl hb,fun X=>aV (fun A n=>hb.frz (A:=A) n) _ 3,hb⟩
 have hR:Rl [] rd rdv rdv:=⟨.inl hr,fun X=>hr.frz 4,hr⟩
 obtain ⟨v,B,h1,_,h2⟩:=oA (free:=free) (lost:=lost) hT hR hTl hrl
 unfold M14 evP
 rw [h1]
 rcases h2 with ⟨rfl,hl⟩ | ⟨i,_,rfl,hrow⟩
 ·exact ⟨.nilS,rfl,by rw [hl]; exact .inl ⟨rfl,rfl⟩⟩
 ·refine ⟨.fs 2 (((df T rd free lost).getD []).map aX),?_,.inr rfl⟩
  have e:=dI (off:=0) (xs:=((df T rd free lost).getD []).map aX) hrow (by rw [List.drop_zero,List.take_length]) (fun n x hx=>by
   obtain ⟨c,_,rfl⟩:=List.mem_map.1 hx
   cases n <;> rfl) 1
  rw [List.length_map] at e
  generalize ((df T rd free lost).getD [])=L at *
  show some (AV.tup [frz B 3 (.sl i 0 L.length),frz B 3 (.bool _)])=_
  rw [e]; rfl
def rh:List (FuncId × aG):=[(47,aD 4 M47),(48,aD 4 Clu.M26),(30,aD 4 M30),(49,aD 4 M64)]
@[simp] theorem J6:aC rh 47=some (aD 4 M47):=rfl
@[simp] theorem J5:aC rh 48=some (aD 4 Clu.M26):=rfl
@[simp] theorem J7:aC rh 30=some (aD 4 M30):=rfl
@[simp] theorem J4:aC rh 49=some (aD 4 M64):=rfl
theorem Dm:∀f M,aC rh f=some M->aj Try.prog GC f M:=af (aj.of_pure uw 4) (af (aj.of_pure Clu.w6 4) (af (aj.of_pure ru 4) (af (aj.of_pure uu 4) az)))
def M24:aP:=fun args=>evP (ax GC rh) 300 DY 4 args
theorem w7:aq Try.prog GC 24 M24:=aq.of_ev (E:=ax GC rh) (aw Dm) rfl at24 G7 4 fun _ _ h=>⟨300,h⟩
def inF (o:List Int) (n i:Nat):List Int:=(List.range i).map (fun k=>kF o k)++List.replicate (n+1-i) 0
theorem tO (o:List Int) {n i:Nat} (h:i<=n+1):(inF o n i).length=n+1:=by simp [inF]; omega
theorem tP (o:List Int) {n i k:Nat} (h:k<i):(inF o n i).getD k 0=kF o k:=by
 unfold inF
 rw [List.getD_eq_getElem?_getD,List.getElem?_append_left (by simpa using h)]
 simp [h]
theorem xL (o:List Int) {n i:Nat} (h:i<=n) (z:Int):((inF o n i).set i z).set i (kF o i)=inF o n (i+1)/\(inF o n i).set i (kF o i)=inF o n (i+1):=by
 have:(inF o n i).set i (kF o i)=inF o n (i+1):=by
  unfold inF
  rw [List.set_append_right _ _ (by simp)]
  simp only [List.length_map,List.length_range,Nat.sub_self]
  rw [show n+1-i=(n-i)+1 by omega,List.replicate_succ,List.set_cons_zero,List.range_succ,List.map_append,List.append_assoc,show n+1-(i+1)=n-i by omega]
  rfl
 exact ⟨by rw [List.set_set]; exact this,this⟩
def A24 (tv sv:AV) (ks:List Int):aa:=[.row 5 false [tv],.row 4 false [sv],.row 1 false (ak ks)]
def bv (s:cH) (ov sv pv:AV):AV:=.agg [.int .i64 s.period,ov,sv,pv]
section
variable {T:aR} {chv:AV} {s:cH} {ov sv pv:AV} {free:Int}
theorem pH {e:Nat} {xs:List AV} {v:AV} (h:SlA e xs v):v.solid=true/\cellsOf v=[v]:=by rcases h with ⟨rfl,_⟩ | rfl <;> exact ⟨rfl,rfl⟩
theorem IX (hs:q8 s ov sv pv) (ks:List Int) (W:aa) :
  ab 1 (A24 (au T chv) (bv s ov sv pv) ks++W) (.ptr 1 0 0)=some (.ptr 1 0 1)/\ac false 1 (A24 (au T chv) (bv s ov sv pv) ks++W) (.ptr 1 0 1)=some ov /\
  ab 2 (A24 (au T chv) (bv s ov sv pv) ks++W) (.ptr 1 0 0)=some (.ptr 1 0 2)/\ac false 1 (A24 (au T chv) (bv s ov sv pv) ks++W) (.ptr 1 0 2)=some sv /\
  ab 0 (A24 (au T chv) (bv s ov sv pv) ks++W) (.ptr 1 0 0)=some (.ptr 1 0 0)/\ac false 1 (A24 (au T chv) (bv s ov sv pv) ks++W) (.ptr 1 0 0)=some (.int .i64 s.period) /\
  ab 3 (A24 (au T chv) (bv s ov sv pv) ks++W) (.ptr 0 0 0)=some (.ptr 0 0 3)/\ac false 1 (A24 (au T chv) (bv s ov sv pv) ks++W) (.ptr 0 0 3)=some (.int .i64 T.travel):=by
 refine ⟨rfl,?_,rfl,?_,rfl,rfl,rfl,rfl⟩
 ·rcases hs.o with ⟨rfl,_⟩ | rfl <;> rfl
 ·rcases hs.st with ⟨rfl,_⟩ | rfl <;> rfl
abbrev s24 (free:Int) (n i:Nat):List AV:=ut (.int .i64 free) (.ptr 0 0 0) (.ptr 1 0 0) (.int .i64 (n:Int)) (.sl 2 0 (n+1)) (.int .i64 (i:Int))
theorem DI (hs:q8 s ov sv pv) (hol:s.order.length<=200) {n i:Nat} (hn:n<=100) (hi:1<=i) (hin:i<=n) :
  run (ax GC rh) 300 [.code jS] (s24 free n i) (A24 (au T chv) (bv s ov sv pv) (inF s.order n i))=some (.normal (s24 free n (i+1)) (A24 (au T chv) (bv s ov sv pv) (inF s.order n (i+1)))):=by
 unfold s24
 obtain ⟨k,rfl⟩:∃k,i=k+1:=⟨i-1,by omega⟩
 have hg:=fun ks=>IX (T:=T) (chv:=chv) hs ks []
 simp only [List.append_nil] at hg
 have hr:∀ks,(A24 (au T chv) (bv s ov sv pv) ks)[2]?=some (.row 1 false (ak ks)):=fun ks=>rfl
 have hset:∀ks ks',(A24 (au T chv) (bv s ov sv pv) ks).set 2 (.row 1 false (ak ks'))=A24 (au T chv) (bv s ov sv pv) ks':=fun ks ks'=>rfl
 have hl:=tO s.order (n:=n) (i:=k+1) (by omega)
 have b0':=dM ((k+1:Nat):Int) (n:Int)
 rw [decide_eq_true (by omega)] at b0'
 have b1:ag .sub (.int .i64 ((k+1:Nat):Int)) (.int .i64 1)=some (.int .i64 (k:Int)):=by rw [cc (by omega)]; congr 2; omega
 have b2:=a9 (k+1) (by omega)
 have i1:=eh (n:=n+1) (hr (inF s.order n (k+1))) (show k<n+1 by omega) .i64
 have i2:=eh (n:=n+1) (hr (inF s.order n (k+1))) (show k+1<n+1 by omega) .i64
 have d1:=lM (hr (inF s.order n (k+1))) (show k<(inF s.order n (k+1)).length by omega)
 rw [tP s.order (by omega)] at d1
 have s1:=kS (hr (inF s.order n (k+1))) (show k+1<(inF s.order n (k+1)).length by omega) (kF s.order k)
 rw [hset] at s1
 obtain ⟨ks1,hks1⟩:∃ks1,ks1=(inF s.order n (k+1)).set (k+1) (kF s.order k):=⟨_,rfl⟩
 rw [<-hks1] at s1
 have hl1:ks1.length=n+1:=by rw [hks1,List.length_set,hl]
 obtain ⟨h1,h2,_⟩:=hg ks1
 have f1:∀A n,frz A n ov=ov:=fun A n=>hs.o.frz n
 have m1:=qi hs.o hol ((k+1:Nat):Int)
 have m2:=qi hs.o hol (k:Int)
 have b3:=ce (pos s.order ((k+1:Nat):Int)) (pos s.order (k:Int))
 have hk:=AH s.order k
 have ek:kF s.order (k+1)=kF s.order k+(if pos s.order ((k+1:Nat):Int)<pos s.order (k:Int) then 1 else 0):=by simp only [kF,hF]; push_cast; rfl
 have m1:M64 [ov,.int .i64 ((k+1:Nat):Int)]=some (.int .i64 (pos s.order ((k+1:Nat):Int))):=m1
 have m2:M64 [ov,.int .i64 (k:Int)]=some (.int .i64 (pos s.order (k:Int))):=m2
 by_cases hp:pos s.order ((k+1:Nat):Int)<pos s.order (k:Int)
 ·rw [decide_eq_true hp] at b3
  rw [if_pos hp] at ek
  have i3:=eh (n:=n+1) (hr ks1) (show k+1<n+1 by omega) .i64
  have d3:=lM (hr ks1) (show k+1<ks1.length by omega)
  have e3:ks1.getD (k+1) 0=kF s.order k:=by rw [hks1,gH,if_pos ⟨rfl,by omega⟩]
  rw [e3] at d3
  have b4:ag .add (.int .i64 (kF s.order k)) (.int .i64 1)=some (.int .i64 (kF s.order (k+1))):=by rw [ek]; exact aS (by omega)
  have s3:=kS (hr ks1) (show k+1<ks1.length by omega) (kF s.order (k+1))
  rw [hset,hks1,(xL s.order (i:=k+1) (by omega) (kF s.order k)).1,<-hks1] at s3
  generalize A24 (au T chv) (bv s ov sv pv) (inF s.order n (k+1))=B0 at *
  generalize A24 (au T chv) (bv s ov sv pv) ks1=B1 at *
  generalize A24 (au T chv) (bv s ov sv pv) (inF s.order n (k+1+1))=B2 at *
  generalize kF s.order (k+1)=z1 at *
  generalize kF s.order k=z0 at *
  generalize pos s.order ((k+1:Nat):Int)=p1 at *
  generalize pos s.order (k:Int)=p0 at *
  generalize ((k+1+1:Nat):Int)=K2 at *
  generalize ((k+1:Nat):Int)=K1 at *
  generalize (k:Int)=K0 at *
  generalize (n:Int)=N at *
  simp [jS,b0',b1,b2,b3,b4,i1,i2,i3,d1,d3,s1,s3,h1,h2,f1,aL,m1,m2,bM,-ag,-ac,-aA,-ai,-ab,-frz]
 ·rw [decide_eq_false hp] at b3
  rw [if_neg hp] at ek
  have e2:ks1=inF s.order n (k+1+1):=by
   rw [hks1,<-(xL s.order (n:=n) (i:=k+1) (by omega) 0).2,ek,Int.add_zero]
  rw [<-e2]
  generalize A24 (au T chv) (bv s ov sv pv) (inF s.order n (k+1))=B0 at *
  generalize A24 (au T chv) (bv s ov sv pv) ks1=B1 at *
  generalize kF s.order k=z0 at *
  generalize pos s.order ((k+1:Nat):Int)=p1 at *
  generalize pos s.order (k:Int)=p0 at *
  generalize ((k+1+1:Nat):Int)=K2 at *
  generalize ((k+1:Nat):Int)=K1 at *
  generalize (k:Int)=K0 at *
  generalize (n:Int)=N at *
  simp [jS,b0',b1,b2,b3,i1,i2,d1,s1,h1,h2,f1,aL,m1,m2,bM,-ag,-ac,-aA,-ai,-ab,-frz]
end
end Tr
namespace Tr
open Go
open Cy (GC iq aL bc aB db)
open Clu (aR a6 au chA cH Chk q8 isI aV aS cc bz ce cF dM)
def oR (l:List cS):aa:=if l=[] then [] else [.row 2 (decide (1<l.length)) (l.map aX)]
def tD (l:List cS):AV:=if l=[] then .nilS else .sl 3 0 l.length
theorem xp (tv sv:AV) (ks:List Int) (l:List cS) (t:cS) (hl:l.length<=1000):aM 2 16 (A24 tv sv ks++oR l) (tD l) (.fs 2 [aX t])=some (tD (l++[t]),A24 tv sv ks++oR (l++[t])):=by
 have hne:l++[t]≠[]:=by simp
 have e1:tD (l++[t])=.sl 3 0 (l.length+1):=by unfold tD; rw [if_neg hne]; simp
 by_cases h:l=[]
 ·subst h
  simp [oR,tD,aM,aQ,A24]
 ·have e0:A24 tv sv ks++oR l=A24 tv sv ks++[.row 2 (decide (1<l.length)) (l.map aX)]:=by unfold oR; rw [if_neg h]
  have e2:A24 tv sv ks++oR (l++[t])=A24 tv sv ks++[.row 2 true (l.map aX++[aX t])]:=by
   have h1:0<l.length:=List.length_pos_iff.2 h
   unfold oR; rw [if_neg hne,decide_eq_true (by simp; omega)]; simp
  have hz:l.length≠0:=fun e=>h (List.length_eq_zero_iff.1 e)
  have e3:tD l=.sl 3 0 l.length:=by unfold tD; rw [if_neg h]
  rw [e0,e1,e2,e3]
  have hrow:(A24 tv sv ks++[Ent.row 2 (decide (1<l.length)) (l.map aX)])[3]?=some (.row 2 (decide (1<l.length)) (l.map aX)):=rfl
  simp only [aM,cX,hrow,List.length_map,List.length_singleton]
  rw [if_pos ⟨trivial,by omega,by omega,by omega⟩,if_pos ⟨trivial,trivial,hz⟩]
  rfl
section
variable {T:aR} {chv:AV} {s:cH} {ov sv pv:AV} {free:Int}
theorem Ga (hs:q8 s ov sv pv) (hol:s.order.length<=200) {n:Nat} (hn:n<=100):∀(c i m:Nat),i+c=n+1->1<=i->c<m ->
  b8 (evC (ax GC rh) 300 jS) jO m (s24 free n i) (A24 (au T chv) (bv s ov sv pv) (inF s.order n i)) =
   some (.exit 0 ((s24 free n (n+1)).set 14 (.bool false)) (A24 (au T chv) (bv s ov sv pv) (inF s.order n (n+1)))):=by
 intro c
 induction c with
 | zero=>
  intro i m hi _ hm
  obtain ⟨m,rfl⟩:∃j,m=j+1:=⟨m-1,by omega⟩
  obtain rfl:i=n+1:=by omega
  have b0':=dM ((n+1:Nat):Int) (n:Int)
  rw [decide_eq_false (by omega)] at b0'
  unfold s24
  rw [aO,yR]
  generalize ((n+1:Nat):Int)=N1 at *
  simp [jS,b0',-ag]
 | succ c ih=>
  intro i m hi h1 hm
  obtain ⟨m,rfl⟩:∃j,m=j+1:=⟨m-1,by omega⟩
  have hr:=DI (T:=T) (chv:=chv) (free:=free) hs hol hn h1 (show i<=n by omega)
  unfold s24 at hr ⊢
  rw [aO,yR,hr]
  exact ih (i+1) m (by omega) (by omega) (by omega)
theorem oI (hc:Chk T s):s.order.length=T.ch.length+1/\s.starts.length=T.ch.length+1/\(∀x∈s.starts,0<=x/\x<=1000000000)/\(1<=s.period/\s.period<=1000000)/\∀t∈s.order,0<=t/\t<=T.ch.length:=by
 have hO:=FN hc.1
 have hv:=hc.2.2.1
 refine ⟨hO.len,?_,hv.2.2.1,hc.2.1,hO.bd⟩
 have:=hv.2.1
 have:=hO.len
 omega
theorem Fb (hc:Chk T s) (t:Nat):0<=stD s t/\stD s t<=1000000000:=by
 obtain ⟨_,h2,h3,_⟩:=oI hc
 unfold stD
 by_cases h:t<s.starts.length
 ·rw [List.getD_eq_getElem?_getD,List.getElem?_eq_getElem h]; exact h3 _ (List.getElem_mem h)
 ·rw [List.getD_eq_getElem?_getD,List.getElem?_eq_none (Nat.le_of_not_lt h)]; simp
abbrev Ac (free:Int) (n:Nat) (l:List cS) (r R:Nat) (ov:AV) (m p:Nat):List AV:=rq (.int .i64 free) (.ptr 0 0 0) (.ptr 1 0 0) (.sl 2 0 (n+1)) (tD l) (.int .i64 (r:Int)) (.int .i64 (R:Int)) (.int .i64 (r:Int)) ov (.int .i64 (m:Int)) (.int .i64 (p:Int))
theorem K5 (a b:Int) (h:inI (a*b)):ag .mul (.int .i64 a) (.int .i64 b)=some (.int .i64 (a*b)):=by simp [ag,dY h]
theorem Aj (hc:Chk T s) (hv:a6 T) (hs:q8 s ov sv pv) (hf:0<=free/\free<=2000000) {l:List cS} (hl:l.length<=500) {r R p:Nat} (hr:r<=100) (hp:p<s.order.length) :
  ∃l',l'=(if kF s.order (s.order.getD p 0).toNat<=r then l++[tk T s free r (s.order.getD p 0)] else l) /\
  run (ax GC rh) 300 [.code iQ] (Ac free T.ch.length l r R ov s.order.length p) (A24 (au T chv) (bv s ov sv pv) (inF s.order T.ch.length (T.ch.length+1))++oR l) =
   some (.normal (Ac free T.ch.length l' r R ov s.order.length (p+1)) (A24 (au T chv) (bv s ov sv pv) (inF s.order T.ch.length (T.ch.length+1))++oR l')):=by
 refine ⟨_,rfl,?_⟩
 unfold Ac
 obtain ⟨c1,c2,c3,c4,c5⟩:=oI hc
 have hn4:=hv.2.2.2.1
 have hmem:s.order.getD p 0∈s.order:=by rw [List.getD_eq_getElem?_getD,List.getElem?_eq_getElem hp]; exact List.getElem_mem hp
 obtain ⟨t,ht⟩:∃t:Nat,s.order.getD p 0=(t:Int):=⟨(s.order.getD p 0).toNat,by have:=c5 _ hmem; omega⟩
 have htn:t<=T.ch.length:=by have:=c5 _ hmem; omega
 have hop:s.order[p]=(t:Int):=by rw [<-ht,List.getD_eq_getElem?_getD,List.getElem?_eq_getElem hp]; rfl
 rw [ht,Int.toNat_natCast]
 have x1:=hs.o.int (A:=A24 (au T chv) (bv s ov sv pv) (inF s.order T.ch.length (T.ch.length+1))++oR l) _ _ (List.getElem?_eq_getElem hp) .i64
 rw [hop] at x1
 have b0':=br p s.order.length .i64
 rw [decide_eq_true hp] at b0'
 have b9:=a9 p (by omega)
 obtain ⟨h1,h2,h3,h4,h5,h6,h7,h8⟩:=IX (T:=T) (chv:=chv) hs (inF s.order T.ch.length (T.ch.length+1)) (oR l)
 have hrow:(A24 (au T chv) (bv s ov sv pv) (inF s.order T.ch.length (T.ch.length+1))++oR l)[2]?=some (.row 1 false (ak (inF s.order T.ch.length (T.ch.length+1)))):=rfl
 have i1:=eh (n:=T.ch.length+1) hrow (show t<T.ch.length+1 by omega) .i64
 have d1:=lM hrow (show t<(inF s.order T.ch.length (T.ch.length+1)).length by rw [tO _ (by omega)]; omega)
 rw [tP s.order (by omega)] at d1
 have b1:=dM (kF s.order t) (r:Int)
 have y0:=hs.st.int (A:=A24 (au T chv) (bv s ov sv pv) (inF s.order T.ch.length (T.ch.length+1))++oR l) _ _ (List.getElem?_eq_getElem (show 0<s.starts.length by omega)) .i64
 have y1:=hs.st.int (A:=A24 (au T chv) (bv s ov sv pv) (inF s.order T.ch.length (T.ch.length+1))++oR l) _ _ (List.getElem?_eq_getElem (show t<s.starts.length by omega)) .i64
 have e0:s.starts[0]'(by omega)=stD s 0:=by unfold stD; rw [List.getD_eq_getElem?_getD,List.getElem?_eq_getElem (by omega)]; rfl
 have e1:s.starts[t]'(by omega)=stD s t:=by unfold stD; rw [List.getD_eq_getElem?_getD,List.getElem?_eq_getElem (by omega)]; rfl
 rw [e0] at y0
 rw [e1] at y1
 have y0:ai 1 (A24 (au T chv) (bv s ov sv pv) (inF s.order T.ch.length (T.ch.length+1))++oR l) sv (.int .i64 0)=some (.fp [.int .i64 (stD s 0)]):=y0
 have w:=en hv
 have s0:=Fb hc 0
 have st:=Fb hc t
 have hmul:0<=(r:Int)*s.period/\(r:Int)*s.period<=100*1000000:=by
  refine ⟨Int.mul_nonneg (by omega) (by omega),?_⟩
  exact Int.mul_le_mul (by omega) c4.2 (by omega) (by omega)
 have b2:ag .add (.int .i64 free) (.int .i64 T.travel)=some (.int .i64 (free+T.travel)):=aS (by omega)
 have b3:ag .sub (.int .i64 (free+T.travel)) (.int .i64 (stD s 0))=some (.int .i64 (bsF T s free)):=cc (by omega)
 have b4:=K5 (r:Int) s.period (by unfold inI; omega)
 have b5:ag .add (.int .i64 (bsF T s free)) (.int .i64 ((r:Int)*s.period))=some (.int .i64 (bsF T s free+(r:Int)*s.period)):=aS (by unfold bsF; omega)
 have b6:ag .add (.int .i64 (bsF T s free+(r:Int)*s.period)) (.int .i64 (stD s t))=some (.int .i64 (bsF T s free+(r:Int)*s.period+stD s t)):=aS (by unfold bsF; omega)
 have ap:=xp (au T chv) (bv s ov sv pv) (inF s.order T.ch.length (T.ch.length+1)) l (tk T s free r (t:Int)) (by omega)
 have etk:tk T s free r (t:Int)=((t:Int),bsF T s free+(r:Int)*s.period+stD s t):=by simp only [tk,Int.toNat_natCast]
 rw [etk] at ap ⊢
 have ap:aM 2 16 (A24 (au T chv) (bv s ov sv pv) (inF s.order T.ch.length (T.ch.length+1))++oR l) (tD l) (.fs 2 [.agg [.int .i64 (t:Int),.int .i64 (bsF T s free+(r:Int)*s.period+stD s t)]])=_:=ap
 have hbf:be 2 [.agg [.int .i64 (t:Int),.int .i64 (bsF T s free+(r:Int)*s.period+stD s t)]]=some (.fs 2 [.agg [.int .i64 (t:Int),.int .i64 (bsF T s free+(r:Int)*s.period+stD s t)]]):=rfl
 by_cases hk:kF s.order t<=r
 ·rw [decide_eq_true hk] at b1
  rw [if_pos hk]
  generalize l++[((t:Int),bsF T s free+(r:Int)*s.period+stD s t)]=l2 at *
  generalize A24 (au T chv) (bv s ov sv pv) (inF s.order T.ch.length (T.ch.length+1))++oR l2=B1 at *
  generalize A24 (au T chv) (bv s ov sv pv) (inF s.order T.ch.length (T.ch.length+1))++oR l=B0 at *
  generalize bsF T s free+(r:Int)*s.period+stD s t=z5 at *
  generalize bsF T s free+(r:Int)*s.period=z4 at *
  generalize (r:Int)*s.period=z3 at *
  generalize bsF T s free=z2 at *
  generalize free+T.travel=z1 at *
  generalize stD s 0=y0' at *
  generalize stD s t=y1' at *
  generalize kF s.order t=z0 at *
  generalize ((p+1:Nat):Int)=P1 at *
  generalize (p:Int)=P0 at *
  simp [iQ,b0',b1,b2,b3,b4,b5,b6,b9,x1,i1,d1,h3,h4,h5,h6,h7,h8,y0,y1,hbf,ap,-ag,-ac,-ai,-ab,-be]
 ·rw [decide_eq_false hk] at b1
  rw [if_neg hk]
  generalize A24 (au T chv) (bv s ov sv pv) (inF s.order T.ch.length (T.ch.length+1))++oR l=B0 at *
  generalize kF s.order t=z0 at *
  generalize ((p+1:Nat):Int)=P1 at *
  generalize (p:Int)=P0 at *
  simp [iQ,b0',b1,b9,x1,i1,d1,-ag,-ac,-ai,-ab,-be]
theorem D7 (hc:Chk T s) (hv:a6 T) (hs:q8 s ov sv pv) (hf:0<=free/\free<=2000000) {r R:Nat} (hr:r<=100):∀(c p m:Nat) (l:List cS),p+c=s.order.length->l.length+c<=400->c<m ->
  ∃l',l'=l++((s.order.drop p).filter fun t=>decide (kF s.order t.toNat<=r)).map (tk T s free r)/\l'.length<=l.length+c /\
  b8 (evC (ax GC rh) 300 iQ) hJ m (Ac free T.ch.length l r R ov s.order.length p) (A24 (au T chv) (bv s ov sv pv) (inF s.order T.ch.length (T.ch.length+1))++oR l) =
   some (.exit 4 ((Ac free T.ch.length l' r R ov s.order.length s.order.length).set 22 (.bool false)) (A24 (au T chv) (bv s ov sv pv) (inF s.order T.ch.length (T.ch.length+1))++oR l')):=by
 intro c
 induction c with
 | zero=>
  intro p m l hp hl hm
  obtain ⟨m,rfl⟩:∃j,m=j+1:=⟨m-1,by omega⟩
  obtain rfl:p=s.order.length:=by omega
  refine ⟨l,by rw [List.drop_length]; simp,by omega,?_⟩
  have b0':=br s.order.length s.order.length .i64
  rw [decide_eq_false (by omega)] at b0'
  unfold Ac
  rw [aO,yQ]
  simp [iQ,b0',-ag]
 | succ c ih=>
  intro p m l hp hl hm
  obtain ⟨m,rfl⟩:∃j,m=j+1:=⟨m-1,by omega⟩
  have hpl:p<s.order.length:=by omega
  obtain ⟨l1,h1,h2⟩:=Aj (R:=R) hc hv hs hf (l:=l) (by omega) hr hpl
  have hl1:l1.length<=l.length+1:=by rw [h1]; split <;> simp
  obtain ⟨l',h3,h4,h5⟩:=ih (p+1) m l1 (by omega) (by omega) (by omega)
  have hg:s.order.getD p 0=s.order[p]:=by rw [List.getD_eq_getElem?_getD,List.getElem?_eq_getElem hpl]; rfl
  refine ⟨l',?_,by omega,?_⟩
  ·rw [h3,h1,hg,List.drop_eq_getElem_cons hpl,List.filter_cons]
   by_cases hk:kF s.order (s.order[p]).toNat<=r
   ·rw [if_pos hk,decide_eq_true hk,if_pos rfl,List.map_cons,List.append_assoc]; rfl
   ·rw [if_neg hk,decide_eq_false hk,if_neg (by decide)]
  ·unfold Ac at h2 h5 ⊢
   rw [aO,yQ,h2]
   exact h5
abbrev Bq (free:Int) (n:Nat) (l:List cS) (R r:Nat):List AV:=uq (.int .i64 free) (.ptr 0 0 0) (.ptr 1 0 0) (.sl 2 0 (n+1)) (tD l) (.int .i64 (R:Int)) (.int .i64 (r:Int))
theorem Ai {n r R:Nat} {l l2:List cS} {ks:List Int} (hs:q8 s ov sv pv) (hr:r<R) (hR:R<=1000)
  (h3:b8 (evC (ax GC rh) 300 iQ) hJ 300 (rq (.int .i64 free) (.ptr 0 0 0) (.ptr 1 0 0) (.sl 2 0 (n+1)) (tD l) (.int .i64 (r:Int)) (.int .i64 (R:Int)) (.int .i64 (r:Int)) ov (.int .i64 (s.order.length:Int)) (.int .i64 0)) (A24 (au T chv) (bv s ov sv pv) ks++oR l) =
   some (.exit 4 ((Ac free n l2 r R ov s.order.length s.order.length).set 22 (.bool false)) (A24 (au T chv) (bv s ov sv pv) ks++oR l2))) :
  run (ax GC rh) 300 [.code lH] (Bq free n l R r) (A24 (au T chv) (bv s ov sv pv) ks++oR l)=some (.normal (Bq free n l2 R (r+1)) (A24 (au T chv) (bv s ov sv pv) ks++oR l2)):=by
 unfold Ac at h3
 unfold Bq
 have b0':=br r R .i64
 rw [decide_eq_true hr] at b0'
 have b1:=a9 r (by omega)
 obtain ⟨g1,g2,_⟩:=IX (T:=T) (chv:=chv) hs ks (oR l)
 have ln:=hs.o.len
 rw [aB] at ln
 generalize A24 (au T chv) (bv s ov sv pv) ks++oR l=B0 at *
 generalize A24 (au T chv) (bv s ov sv pv) ks++oR l2=B1 at *
 generalize (s.order.length:Int)=M at *
 generalize ((r+1:Nat):Int)=r1 at *
 simp [lH,b0',b1,g1,g2,ln,Gu h3,-ag,-ac,-ab,-an]
theorem D6 (hc:Chk T s) (hv:a6 T) (hs:q8 s ov sv pv) (hf:0<=free/\free<=2000000) {R:Nat} (hR:R<=6):∀(c r m:Nat),r+c=R->(eP T s free r).length<=5*r->c<m ->
  (eP T s free R).length<=5*R /\
  b8 (evC (ax GC rh) 300 lH) jN m (Bq free T.ch.length (eP T s free r) R r) (A24 (au T chv) (bv s ov sv pv) (inF s.order T.ch.length (T.ch.length+1))++oR (eP T s free r)) =
   some (.exit 2 ((Bq free T.ch.length (eP T s free R) R R).set 18 (.bool false)) (A24 (au T chv) (bv s ov sv pv) (inF s.order T.ch.length (T.ch.length+1))++oR (eP T s free R))):=by
 intro c
 induction c with
 | zero=>
  intro r m hr hl hm
  obtain ⟨m,rfl⟩:∃j,m=j+1:=⟨m-1,by omega⟩
  obtain rfl:r=R:=by omega
  refine ⟨hl,?_⟩
  have b0':=br r r .i64
  rw [decide_eq_false (by omega)] at b0'
  unfold Bq
  rw [aO,yP]
  generalize eP T s free r=l at *
  simp [lH,b0',-ag]
 | succ c ih=>
  intro r m hr hl hm
  obtain ⟨m,rfl⟩:∃j,m=j+1:=⟨m-1,by omega⟩
  obtain ⟨c1,_,_,_,_⟩:=oI hc
  have hn4:=hv.2.2.2.1
  obtain ⟨l',h1,h2,h3⟩:=D7 (R:=R) hc hv hs hf (r:=r) (by omega) s.order.length 0 300 (eP T s free r) (by omega) (by omega) (by omega)
  have e:l'=eP T s free (r+1):=by
   rw [h1,List.drop_zero]
   unfold eP cyc
   rw [List.range_succ,List.flatMap_append,List.flatMap_cons,List.flatMap_nil,List.append_nil]
  rw [e] at h2 h3
  obtain ⟨q1,q2⟩:=ih (r+1) m (by omega) (by omega) (by omega)
  refine ⟨q1,?_⟩
  have h3:b8 (evC (ax GC rh) 300 iQ) hJ 300 (rq (.int .i64 free) (.ptr 0 0 0) (.ptr 1 0 0) (.sl 2 0 (T.ch.length+1)) (tD (eP T s free r)) (.int .i64 (r:Int)) (.int .i64 (R:Int)) (.int .i64 (r:Int)) ov (.int .i64 (s.order.length:Int)) (.int .i64 0)) _=_:=h3
  have hrun:=Ai (free:=free) (n:=T.ch.length) hs (show r<R by omega) (by omega) h3
  unfold Bq at hrun q2 ⊢
  rw [aO,yP,hrun]
  exact q2
def vf (T:aR) (s:cH) (free:Int):Prop:=isT T/\Chk T s/\0<=free/\free<=2000000
open Classical in
def od (T:aR) (s:cH) (free:Int):Option (List cS):=if vf T s free then some (eP T s free (kF s.order T.ch.length+1).toNat) else none
def KW (r:Option (List cS)):Int:=if r.isSome then 0 else 140
open Classical in
theorem CB (hb:SlA 2 (T.ch.map chA) chv) (hl:T.ch.length<=200) (hs:q8 s ov sv pv):∃v,M24 [au T chv,bv s ov sv pv,.int .i64 free]=some (.tup [v,.int .i64 (KW (od T s free))])/\SlA 2 (((od T s free).getD []).map aX) v:=by
 have m1:=Cv hb hl
 have m2:=Clu.qj hb hl hs
 have m3:=dQ free 0 2000000
 have ft:=fun A=>aV (T:=T) (fun A n=>hb.frz (A:=A) n) A 3
 have fs:∀A,frz A 4 (bv s ov sv pv)=bv s ov sv pv:=fun A=>by
  show AV.agg [_,frz A 3 ov,frz A 3 sv,frz A 3 pv]=_
  rw [hs.o.frz,hs.st.frz,hs.pr.frz]; rfl
 have hov:=pH hs.o
 have hsv:=pH hs.st
 have hpv:=pH hs.pr
 have bx0:aZ 5 (au T chv) []=some (.ptr 0 0 0,[.row 5 false [au T chv]]):=rfl
 have bx1:aZ 4 (bv s ov sv pv) [.row 5 false [au T chv]]=some (.ptr 1 0 0,[.row 5 false [au T chv],.row 4 false [bv s ov sv pv]]):=rfl
 have ct:(cellsOf (au T chv)).length=5:=rfl
 have cs:(cellsOf (bv s ov sv pv)).length=4:=rfl
 obtain ⟨A0,hA0⟩:∃A:aa,A=[.row 5 false [au T chv],.row 4 false [bv s ov sv pv]]:=⟨_,rfl⟩
 have lt:ac true 5 A0 (.ptr 0 0 0)=some (au T chv):=by rw [hA0]; rfl
 have lsA:ac true 4 A0 (.ptr 1 0 0)=some (bv s ov sv pv):=by rw [hA0]; rfl
 have fa0:ab 0 A0 (.ptr 0 0 0)=some (.ptr 0 0 0):=by rw [hA0]; rfl
 have lch:ac false 1 A0 (.ptr 0 0 0)=some chv:=by
  rw [hA0]
  rcases hb with ⟨rfl,_⟩ | rfl <;> rfl
 have lnc:=hb.len
 rw [List.length_map] at lnc
 rw [<-hA0] at bx1
 have hagg:(.agg [.int .i64 s.period,ov,sv,pv]:AV)=bv s ov sv pv:=rfl
 rw [hagg] at m2
 have bad:¬ vf T s free->evP (ax GC rh) 300 DY 4 [au T chv,bv s ov sv pv,.int .i64 free]=some (.tup [.nilS,.int .i64 140]):=fun hno=>by
  generalize au T chv=tv at *
  generalize bv s ov sv pv=sA at *
  have ff:∀A:aa,frz A 4 (.tup [.nilS,.int .i64 140])=.tup [.nilS,.int .i64 140]:=fun _=>rfl
  by_cases h1:isT T
  rotate_left
  ·rw [decide_eq_false h1] at m1
   rw [aI _ _ rfl]
   simp [DY,bx0,bx1,ct,cs,lt,m1,ft,ff,dS,bM,-aZ,-ac,-frz,-cellsOf]
  rw [decide_eq_true h1] at m1
  by_cases h2:Chk T s
  rotate_left
  ·rw [decide_eq_false h2] at m2
   rw [aI _ _ rfl]
   simp [DY,bx0,bx1,ct,cs,lt,lsA,m1,m2,ft,fs,ff,dS,bM,-aZ,-ac,-frz,-cellsOf]
  rw [decide_eq_true h2] at m2
  have mb:mA free 0 2000000=false:=by
   cases e:mA free 0 2000000
   ·rfl
   ·exact absurd ⟨h1,h2,dw.1 e⟩ hno
  rw [mb] at m3
  rw [aI _ _ rfl]
  simp [DY,bx0,bx1,ct,cs,lt,lsA,m1,m2,m3,ft,fs,ff,aL,dS,bM,-aZ,-ac,-frz,-cellsOf,-dQ]
 by_cases hok:vf T s free
 rotate_left
 ·have e:od T s free=none:=if_neg hok
  rw [e]
  exact ⟨.nilS,bad hok,.inl ⟨rfl,rfl⟩⟩
 have e:od T s free=some (eP T s free (kF s.order T.ch.length+1).toNat):=if_pos hok
 rw [e]
 obtain ⟨h1,h2,h3⟩:=hok
 rw [decide_eq_true h1] at m1
 rw [decide_eq_true h2] at m2
 rw [dw.2 h3] at m3
 have hv:=h1.1
 have hn4:=hv.2.2.2.1
 have hk:=AH s.order T.ch.length
 obtain ⟨R,hR⟩:∃R:Nat,kF s.order T.ch.length+1=(R:Int):=⟨(kF s.order T.ch.length+1).toNat,by omega⟩
 rw [hR,Int.toNat_natCast]
 have lpa:=Ga (T:=T) (chv:=chv) (free:=free) hs (by rw [(oI h2).1]; omega) (n:=T.ch.length) (by omega) T.ch.length 1 300 (by omega) (by omega) (by omega)
 have hin:inF s.order T.ch.length 1=List.replicate (T.ch.length+1) 0:=by
  unfold inF
  simp [kF,List.replicate_succ]
 rw [hin] at lpa
 have b1:ag .add (.int .i64 (T.ch.length:Int)) (.int .i64 1)=some (.int .i64 ((T.ch.length+1:Nat):Int)):=a9 _ (by omega)
 have mk:cr 1 8 (.int .i64 0) A0 (.int .i64 ((T.ch.length+1:Nat):Int)) (.int .i64 ((T.ch.length+1:Nat):Int))=some (.sl 2 0 (T.ch.length+1),A24 (au T chv) (bv s ov sv pv) (List.replicate (T.ch.length+1) 0)):=by
  simp only [cr]
  rw [if_pos ⟨by omega,by omega,by omega,by omega,rfl,rfl,by omega⟩,Int.toNat_natCast,hA0]
  unfold A24 ak
  rw [List.map_replicate]; rfl
 obtain ⟨lpl,lpc⟩:=D6 (chv:=chv) (R:=R) h2 hv hs h3 (by omega) R 0 300 (by omega) (by simp [eP]) (by omega)
 have hf0:eP T s free 0=[]:=rfl
 rw [hf0] at lpc
 have hor:A24 (au T chv) (bv s ov sv pv) (inF s.order T.ch.length (T.ch.length+1))++oR []=A24 (au T chv) (bv s ov sv pv) (inF s.order T.ch.length (T.ch.length+1)):=by
  unfold oR; rw [if_pos rfl,List.append_nil]
 rw [hor] at lpc
 have lpc:b8 (evC (ax GC rh) 300 lH) jN 300 (uq (.int .i64 free) (.ptr 0 0 0) (.ptr 1 0 0) (.sl 2 0 (T.ch.length+1)) .nilS (.int .i64 (R:Int)) (.int .i64 0)) _=_:=lpc
 have lpa:b8 (evC (ax GC rh) 300 jS) jO 300 (ut (.int .i64 free) (.ptr 0 0 0) (.ptr 1 0 0) (.int .i64 (T.ch.length:Int)) (.sl 2 0 (T.ch.length+1)) (.int .i64 1)) _=_:=lpa
 have hrow:(A24 (au T chv) (bv s ov sv pv) (inF s.order T.ch.length (T.ch.length+1)))[2]?=some (.row 1 false (ak (inF s.order T.ch.length (T.ch.length+1)))):=rfl
 have i1:=eh (n:=T.ch.length+1) hrow (show T.ch.length<T.ch.length+1 by omega) .i64
 have d1:=lM hrow (show T.ch.length<(inF s.order T.ch.length (T.ch.length+1)).length by rw [tO _ (by omega)]; omega)
 rw [tP s.order (by omega)] at d1
 have b2:ag .add (.int .i64 (kF s.order T.ch.length)) (.int .i64 1)=some (.int .i64 (R:Int)):=by rw [aS (by omega),hR]
 unfold s24 at lpa
 unfold Bq at lpc
 obtain ⟨l,hll⟩:∃l,l=eP T s free R:=⟨_,rfl⟩
 rw [<-hll] at lpc
 have hfz:frz (A24 (au T chv) (bv s ov sv pv) (inF s.order T.ch.length (T.ch.length+1))++oR l) 4 (.tup [tD l,.int .i64 0])=.tup [slA 2 (l.map aX),.int .i64 0]:=by
  show AV.tup [frz _ 3 (tD l),_]=_
  unfold tD oR
  by_cases h0:l=[]
  ·rw [h0]; rfl
  ·rw [if_neg h0,if_neg h0]
   have hrw:(A24 (au T chv) (bv s ov sv pv) (inF s.order T.ch.length (T.ch.length+1))++[Ent.row 2 (decide (1<l.length)) (l.map aX)])[3]?=some (.row 2 (decide (1<l.length)) (l.map aX)):=rfl
   have e:=dI (off:=0) (xs:=l.map aX) hrw (by rw [List.drop_zero,List.take_length]) (fun n x hx=>by
    obtain ⟨c,_,rfl⟩:=List.mem_map.1 hx
    cases n <;> rfl) 1
   rw [List.length_map] at e
   rw [e]
   cases l with
   | nil=>exact absurd rfl h0
   | cons t r=>rfl
 rw [<-hll]
 refine ⟨slA 2 (l.map aX),?_,bg 2 _⟩
 unfold M24 KW
 generalize A24 (au T chv) (bv s ov sv pv) (inF s.order T.ch.length (T.ch.length+1))++oR l=B2 at *
 generalize A24 (au T chv) (bv s ov sv pv) (inF s.order T.ch.length (T.ch.length+1))=B1 at *
 generalize A24 (au T chv) (bv s ov sv pv) (List.replicate (T.ch.length+1) 0)=B0 at *
 generalize au T chv=tv at *
 generalize bv s ov sv pv=sA at *
 generalize kF s.order T.ch.length=z at *
 generalize ((T.ch.length+1:Nat):Int)=N1 at *
 generalize hN:(T.ch.length:Int)=N at *
 rw [aI _ _ rfl]
 simp [DY,bx0,bx1,ct,cs,lt,lsA,m1,m2,m3,ft,fs,aL,fa0,lch,lnc,b1,b2,mk,Gv lpa,Gt lpc,i1,d1,hfz,dS,bM,-aZ,-ac,-ab,-ai,-an,-cr,-frz,-cellsOf,-ag,-dQ]
end
end Tr
namespace Tr
open Go
open Cy (GC iq aL bc aB db)
open Clu (aR a6 au chA cH Chk q8 aV da)
theorem IE {e:Nat} {xs:List AV} {a:AV} (h:SlA e xs a) (A:aa):aQ e A a=some xs:=h.src
theorem qI {B:aa} {i:Nat} {g:Bool} {l:List cS} (h:B[i]?=some (.row 2 g (l.map aX))):frz B 3 (.sl i 0 l.length)=.fs 2 (l.map aX):=by
 have e:=dI (off:=0) (xs:=l.map aX) h (by rw [List.drop_zero,List.take_length]) (fun n x hx=>by
  obtain ⟨c,_,rfl⟩:=List.mem_map.1 hx
  cases n <;> rfl) 1
 rw [List.length_map] at e
 exact e
theorem Lm {lo:Nat} {B:aa} {v mv:AV} {l more:List cS} (h:RV lo B v l) (hm:SlA 2 (more.map aX) mv) (hl:l.length+more.length<=1000):∃w B',aM 2 16 B v mv=some (w,B')/\SlA 2 ((l++more).map aX) (frz B' 3 w):=by
 have hs:=IE hm B
 rcases h with ⟨rfl,rfl⟩ | ⟨i,_,rfl,hrow⟩
 ·by_cases h0:more=[]
  ·subst h0
   exact ⟨.nilS,B,by simp [aM,hs],.inl ⟨rfl,rfl⟩⟩
  ·have hp:0<more.length:=List.length_pos_iff.2 h0
   refine ⟨.sl B.length 0 more.length,B++[.row 2 false (more.map aX)],?_,?_⟩
   ·simp only [aM,hs,List.length_map]
    rw [if_neg (by omega),if_pos ⟨by omega,by omega,by omega⟩]
   ·rw [qI (g:=false) (by simp),List.nil_append]
    exact .inr rfl
 ·have hil:=(List.getElem?_eq_some_iff.1 hrow).1
  by_cases h0:l=[]
  ·subst h0
   refine ⟨.sl B.length 0 more.length,B.set i .dead++[.row 2 false (more.map aX)],?_,?_⟩
   ·simp only [aM,hs,hrow,List.length_map,List.length_nil,List.map_nil,Nat.zero_add]
    rw [if_pos ⟨trivial,by omega,by omega,by simp at hl; omega⟩,if_neg (by simp)]
    simp
   ·have:(B.set i .dead++[Ent.row 2 false (more.map aX)])[B.length]?=some (.row 2 false (more.map aX)):=by simp
    rw [qI this,List.nil_append]
    exact .inr rfl
  ·have hp:l.length≠0:=fun e=>h0 (List.length_eq_zero_iff.1 e)
   refine ⟨.sl i 0 (l.length+more.length),B.set i (.row 2 true (l.map aX++more.map aX)),?_,?_⟩
   ·simp only [aM,hs,hrow,List.length_map]
    rw [if_pos ⟨trivial,by omega,by omega,by omega⟩,if_pos ⟨trivial,trivial,hp⟩]
   ·have hr:(B.set i (.row 2 true (l.map aX++more.map aX)))[i]?=some (.row 2 true ((l++more).map aX)):=by rw [List.getElem?_set_self hil,List.map_append]
    have:=qI hr
    rw [List.length_append] at this
    rw [this]
    exact .inr rfl
def xU:List (FuncId × aG):=[(14,E2),(17,aD 4 M17),(24,aD 4 M24)]
@[simp] theorem J3:aC xU 14=some E2:=rfl
@[simp] theorem J1:aC xU 17=some (aD 4 M17):=rfl
@[simp] theorem J0:aC xU 24=some (aD 4 M24):=rfl
def M25:aP:=fun args=>evP (ax GC xU) 0 zO 4 args
theorem Bo:aq Try.prog GC 25 M25:=aq.of_ev (E:=ax GC xU) (aw (af CY (af (aj.of_pure uD 4) (af (aj.of_pure w7 4) az)))) rfl Lj yD 4 fun _ _ h=>⟨0,h⟩
def iY (T:aR) (rd:List Int) (free:Int) (s:cH):Option (List cS):=(b7 T rd free).bind fun l=>(od T s ((fQ T rd free l).getD 0)).map fun m=>l++m
theorem oB (T:aR) (rd:List Int) (free:Int):df T rd free 0=b7 T rd free:=by
 unfold df
 by_cases hS:Sit T rd free
 ·rw [if_pos ⟨hS,by omega,by omega⟩,if_pos rfl]
 ·rw [if_neg (fun h=>hS h.1)]; unfold b7; rw [if_neg hS]
theorem Eq {T:aR} {s:cH} (hc:Chk T s) (free:Int) (r:Nat):(cyc T s free r).length<=T.ch.length+1:=by
 unfold cyc
 rw [List.length_map,<-(oI hc).1]
 exact List.length_filter_le _ _
theorem r7 {T:aR} {s:cH} (hc:Chk T s) (free:Int):∀R:Nat,(eP T s free R).length<=(T.ch.length+1)*R
 | 0=>by simp [eP]
 | R+1=>by
  have h1:=r7 hc free R
  have h2:=Eq hc free R
  unfold eP at h1 ⊢
  rw [List.range_succ,List.flatMap_append,List.length_append,List.flatMap_cons,List.flatMap_nil,List.append_nil,Nat.mul_add,Nat.mul_one]
  omega
theorem AR {T:aR} {s:cH} {free:Int} {m:List cS} (h:od T s free=some m):m.length<=30:=by
 unfold od at h
 split at h
 ·rename_i hok
  injection h with h
  have hn:=hok.1.1.2.2.2.1
  have hk:=AH s.order T.ch.length
  have:=r7 hok.2.1 free (kF s.order T.ch.length+1).toNat
  have h5:(kF s.order T.ch.length+1).toNat<=5:=by omega
  have:(T.ch.length+1)*(kF s.order T.ch.length+1).toNat<=5*5:=Nat.mul_le_mul (by omega) h5
  rw [<-h]; omega
 ·cases h
section
variable {T:aR} {chv rdv:AV} {rd:List Int} {s:cH} {ov sv pv:AV} {free:Int}
theorem Cz (hb:SlA 2 (T.ch.map chA) chv) (hl:T.ch.length<=200) (hr:SlA 1 (ak rd) rdv) (hrl:rd.length<=200) (hs:q8 s ov sv pv):∃v,M25 [au T chv,rdv,.int .i64 free,bv s ov sv pv]=some (.tup [v,.int .i64 (KW (iY T rd free s))])/\SlA 2 (((iY T rd free s).getD []).map aX) v:=by
 have ft:=fun A=>aV (T:=T) (fun A n=>hb.frz (A:=A) n) A 3
 have fr:∀A n,frz A n rdv=rdv:=fun A n=>hr.frz n
 have fs:∀A,frz A 4 (bv s ov sv pv)=bv s ov sv pv:=fun A=>by
  show AV.agg [_,frz A 3 ov,frz A 3 sv,frz A 3 pv]=_
  rw [hs.o.frz,hs.st.frz,hs.pr.frz]; rfl
 have bx0:aZ 5 (au T chv) []=some (.ptr 0 0 0,[.row 5 false [au T chv]]):=rfl
 have bx1:aZ 4 (bv s ov sv pv) [.row 5 false [au T chv]]=some (.ptr 1 0 0,[.row 5 false [au T chv],.row 4 false [bv s ov sv pv]]):=rfl
 have ct:(cellsOf (au T chv)).length=5:=rfl
 have cs:(cellsOf (bv s ov sv pv)).length=4:=rfl
 obtain ⟨A0,hA0⟩:∃A:aa,A=[.row 5 false [au T chv],.row 4 false [bv s ov sv pv]]:=⟨_,rfl⟩
 have lt:∀W,ac true 5 (A0++W) (.ptr 0 0 0)=some (au T chv):=fun W=>by rw [hA0]; rfl
 have lsA:∀W,ac true 4 (A0++W) (.ptr 1 0 0)=some (bv s ov sv pv):=fun W=>by rw [hA0]; rfl
 rw [<-hA0] at bx1
 have hT:Tl A0 T chv chv:=⟨.inl hb,fun X=>ft _,hb⟩
 have hR:Rl A0 rd rdv rdv:=⟨.inl hr,fun X=>fr _ 4,hr⟩
 obtain ⟨v,B,h1,⟨W,hW⟩,hRV⟩:=oA (free:=free) (lost:=0) hT hR hl hrl
 rw [oB] at h1 hRV
 have h1:∀hh,E2 hh [au T chv,rdv,.int .i64 free,.int .i64 0] A0=some (.tup [v,.bool (b7 T rd free).isSome],B):=fun _=>h1
 have lt0:=lt []
 rw [List.append_nil] at lt0
 have lt1:=lt W
 have ls1:=lsA W
 rw [<-hW] at lt1 ls1
 unfold M25 iY
 cases hd:b7 T rd free with
 | none=>
  rw [hd] at h1
  refine ⟨.nilS,?_,.inl ⟨rfl,rfl⟩⟩
  show evP _ _ _ _ _=some (.tup [.nilS,.int .i64 140])
  have ff:∀A:aa,frz A 4 (.tup [.nilS,.int .i64 140])=.tup [.nilS,.int .i64 140]:=fun _=>rfl
  have h1:∀hh,E2 hh [au T chv,rdv,.int .i64 free,.int .i64 0] A0=some (.tup [v,.bool false],B):=h1
  generalize au T chv=tv at *
  generalize bv s ov sv pv=sA at *
  rw [aI _ _ rfl]
  simp [zO,bx0,bx1,ct,cs,lt0,h1,ff,dS,-aZ,-ac,-frz,-cellsOf]
 | some l=>
  rw [hd] at h1 hRV
  have hRV:RV A0.length B v l:=hRV
  have h1:∀hh,E2 hh [au T chv,rdv,.int .i64 free,.int .i64 0] A0=some (.tup [v,.bool true],B):=h1
  obtain ⟨hln,_⟩:=oz hd
  obtain ⟨lv,hlv,hfl⟩:∃lv,SlA 2 (l.map aX) lv/\frz B 4 v=lv:=by
   rcases hRV with ⟨rfl,rfl⟩ | ⟨i,_,rfl,hrow⟩
   ·exact ⟨.nilS,.inl ⟨rfl,rfl⟩,rfl⟩
   ·exact ⟨.fs 2 (l.map aX),.inr rfl,rY hrow⟩
  have m17:=sO hb hl hr hrl free hlv (by omega)
  unfold EY at m17
  obtain ⟨mv,m24,hmv⟩:=CB (free:=(fQ T rd free l).getD 0) hb hl hs
  have hsc:bM 4 (.tup [.int .i64 ((fQ T rd free l).getD 0),.bool (fQ T rd free l).isSome])=true:=rfl
  have nr1:bq 4 (au T chv)=true:=Clu.cE (fun n=>hb.noRef n) 3
  have nr2:bq 4 (bv s ov sv pv)=true:=by
   show ([_,ov,sv,pv]:List AV).all (bq 3)=true
   simp [hs.o.noRef,hs.st.noRef,hs.pr.noRef,bq]
  have nr3:∀z,bq 4 (.int .i64 z)=true:=fun _=>rfl
  simp only [Option.bind_some]
  obtain ⟨r,hf⟩:∃r,r=od T s ((fQ T rd free l).getD 0):=⟨_,rfl⟩
  rw [<-hf] at m24 hmv ⊢
  cases r with
  | none=>
   have m24:M24 [au T chv,bv s ov sv pv,.int .i64 ((fQ T rd free l).getD 0)]=some (.tup [mv,.int .i64 140]):=m24
   refine ⟨.nilS,?_,.inl ⟨rfl,rfl⟩⟩
   show evP _ _ _ _ _=some (.tup [.nilS,.int .i64 140])
   have ff:∀A:aa,frz A 4 (.tup [.nilS,.int .i64 140])=.tup [.nilS,.int .i64 140]:=fun _=>rfl
   have b1:=da 140 0
   rw [decide_eq_true (by omega)] at b1
   generalize (fQ T rd free l).getD 0=e at *
   generalize (fQ T rd free l).isSome=eb at *
   generalize au T chv=tv at *
   generalize bv s ov sv pv=sA at *
   rw [aI _ _ rfl]
   simp [zO,bx0,bx1,ct,cs,lt0,lt1,ls1,h1,ft,fr,fs,hfl,aL,m17,m24,nr1,nr2,b1,ff,dS,-aZ,-ac,-frz,-cellsOf,-ag]
  | some m=>
   have m24:M24 [au T chv,bv s ov sv pv,.int .i64 ((fQ T rd free l).getD 0)]=some (.tup [mv,.int .i64 0]):=m24
   have hml:=AR hf.symm
   obtain ⟨w,B',hap,hw⟩:=Lm hRV (show SlA 2 (m.map aX) mv from hmv) (by omega)
   refine ⟨frz B' 3 w,?_,hw⟩
   show evP _ _ _ _ _=some (.tup [frz B' 3 w,.int .i64 0])
   have ff:frz B' 4 (.tup [w,.int .i64 0])=.tup [frz B' 3 w,.int .i64 0]:=rfl
   have b1:=da 0 0
   rw [decide_eq_false (by omega)] at b1
   generalize (fQ T rd free l).getD 0=e at *
   generalize (fQ T rd free l).isSome=eb at *
   generalize au T chv=tv at *
   generalize bv s ov sv pv=sA at *
   rw [aI _ _ rfl]
   simp [zO,bx0,bx1,ct,cs,lt0,lt1,ls1,h1,ft,fr,fs,hfl,aL,m17,m24,nr1,nr2,b1,hap,ff,dS,-aZ,-ac,-frz,-cellsOf,-ag]
end
end Tr
namespace Clu
open Go
open Cy (GC a7 cK cy cz dP okA smM smT lvM lvT fB iD cn Pos rL dZ qE sY xi lar bQ kG)
def t1:aR:=⟨[(20,12),(30,12)],1,1,2,1⟩
def t2:aR:=⟨[(20,12),(30,12)],1,1,2,2⟩
def t3:aR:=⟨[(20,9),(30,9)],1,1,2,2⟩
theorem IM:aH t1=[[0,1,2],[0,2,1]]:=by decide +kernel
def ar1:List a7:=[⟨0,2,6,0⟩,⟨2,1,6,0⟩,⟨1,0,6,1⟩,⟨0,1,24,0⟩,⟨1,0,-36,0⟩,⟨1,2,34,1⟩,⟨2,1,-46,-1⟩]
def ar0:List a7:=[⟨0,1,4,0⟩,⟨1,2,4,0⟩,⟨2,0,6,1⟩,⟨0,1,24,0⟩,⟨1,0,-36,0⟩,⟨1,2,34,0⟩,⟨2,1,-46,0⟩]
instance:DecidableEq a7:=fun a b=>by
 obtain ⟨a1,a2,a3,a4⟩:=a
 obtain ⟨b1,b2,b3,b4⟩:=b
 exact decidable_of_iff (a1=b1/\a2=b2/\a3=b3/\a4=b4) ⟨fun ⟨h1,h2,h3,h4⟩=>by rw [h1,h2,h3,h4],fun h=>by injection h with h1 h2 h3 h4; exact ⟨h1,h2,h3,h4⟩⟩
theorem Ez:bu t1 [0,2,1]=ar1:=by decide +kernel
theorem cf:bu t1 [0,1,2]=ar0:=by decide +kernel
theorem xn {l:List a7} {q:Int} (c:List (a7 × Nat)) (u:Int) (hw:Cy.rS l u c u) (hl:0<Cy.iy q c):Pos l q:=⟨u,c,hw,hl⟩
theorem nQ {l:List a7} {x:a7} {i:Nat} (h:l[i]?=some x):(x,i)∈Cy.num l:=by
 obtain ⟨hi,rfl⟩:=List.getElem?_eq_some_iff.1 h
 exact List.mem_of_getElem? (Cy.fu l i hi)
theorem pos1 {q:Int} (h:q<40):Pos ar1 q:=xn [(⟨2,1,6,0⟩,1),(⟨1,2,34,1⟩,5)] 2 ⟨nQ rfl,rfl,nQ rfl,rfl,rfl⟩ (by simp [Cy.iy,a7.len]; omega)
theorem IL {q:Int} (h:q<64):Pos ar0 q:=xn [(⟨0,1,24,0⟩,3),(⟨1,2,34,0⟩,5),(⟨2,0,6,1⟩,2)] 0 ⟨nQ rfl,rfl,nQ rfl,rfl,nQ rfl,rfl,rfl⟩ (by simp [Cy.iy,a7.len]; omega)
theorem in1:[0,2,1]∈aH t1:=by rw [IM]; decide
theorem IN:¬ Pos (bu t1 [0,2,1]) 40:=(kG (n:=3) (eY in1 (by omega) (by omega))).1 (by rw [Ez]; decide +kernel)
theorem K4:pq t1=some (40,[0,2,1]):=by
 obtain ⟨o,h1,h2,h3⟩:=Ey in1 (by omega) (by omega) IN (fun o ho q h1 h2=>by
  rw [IM] at ho
  rcases List.mem_cons.1 ho with rfl | ho
  ·rw [cf]; exact IL (by omega)
  ·rcases List.mem_cons.1 ho with rfl | ho
   ·rw [Ez]; exact pos1 h2
   ·cases ho)
 rw [IM] at h1
 rcases List.mem_cons.1 h1 with rfl | h1
 ·rw [cf] at h2; exact absurd (IL (by omega)) h2
 ·rcases List.mem_cons.1 h1 with rfl | h1
  ·exact h3
  ·cases h1
theorem lv1:(lvM 3 (bu t1 [0,2,1]) 40).1=[0,24,18]:=by
 have hr:cn 3 (bu t1 [0,2,1]) 40:=eY in1 (by omega) (by omega)
 have h1:bQ (lar 40 (bu t1 [0,2,1])) 3=([0,24,18],true):=by rw [Ez]; decide +kernel
 unfold lvM
 rw [if_pos hr,show (3:Int).toNat=3 from rfl,h1,if_pos rfl]
theorem bm1:∃pr,iC t1=some ⟨40,[0,2,1],[0,24,18],pr⟩:=by
 refine ⟨(lvM 3 (bu t1 [0,2,1]) 39).2.1,?_⟩
 unfold iC
 rw [K4,Option.map_some]
 show some (cH.mk 40 [0,2,1] (lvM 3 (bu t1 [0,2,1]) 40).1 _)=_
 rw [lv1]
 rfl
theorem Ab {T:aR} {s:cH} (h:Chk T s):(s.order.length<=5/\∀z∈s.order,inI z)/\(s.starts.length<=32/\∀z∈s.starts,inI z)/\(s.proof.length<=200/\∀z∈s.proof,inI z):=by
 obtain ⟨h1,h2,h3,h4⟩:=h
 have k:=cD h1
 have kb:=gA h1
 refine ⟨⟨by have:=k.1.2.2.2.1; omega,fun z hz=>by have:=kb z hz; have:=k.1.2.2.2.1; unfold inI; omega⟩,Cy.E9 h3,?_⟩
 split at h4
 ·rw [h4]; simp
 ·obtain ⟨hR,a,b,h5,_⟩:=h4
  unfold Cy.exM at h5
  simp only [Option.ite_none_right_eq_some] at h5
  refine ⟨h5.1.1.2,fun z hz=>?_⟩
  have:=h5.1.2 z hz
  have:=hR.1.2.1
  unfold inI; omega
theorem nB {T:aR} {s:cH} (h:Chk T s):q8 s (slA 1 (ak s.order)) (slA 1 (ak s.starts)) (slA 1 (ak s.proof)):=by
 obtain ⟨⟨h1,h2⟩,⟨h3,h4⟩,h5,h6⟩:=Ab h
 exact ⟨bg _ _,bg _ _,bg _ _,by have:=h.2.1; unfold inI; omega,by omega,by omega,h4,by omega,h6⟩
end Clu
namespace Tr
open Go
open Cy (a7 lar lvM cn bQ)
open Clu (aR a6 cH Chk t1 bm1 iC kq nC)
theorem jy {T:aR} {rd:List Int} {free:Int} {o:List Int} (hR:cn ((o.length:Int)+1) (cf T rd free o) 0) {x:List Int} {b:Bool} (h:bQ (lar 0 (cf T rd free o)) (o.length+1)=(x,b)):dp T rd free o=if b=true/\x.getD 0 0=0 then some (mkX (fun j=>x.getD j 0) 0 o) else none:=by
 have e:((o.length:Int)+1).toNat=o.length+1:=by omega
 unfold dp lvM
 rw [if_pos hR,e,h]
 cases b
 ·rw [if_neg (by simp)]; simp
 ·simp
theorem LQ:Sit t1 [10,-1] 0:=by decide
theorem IH:Sit t1 [10,40] 0:=by decide
theorem LO:Sit t1 [40,30] 0:=by decide
def t1':aR:=rj t1 1
theorem LN:Sit t1' [10] 0:=by decide
theorem kj {T:aR} {rd:List Int} {free:Int} {o:List Int} (hS:Sit T rd free) (ho:qz 10 (b0 rd)=[o]):b7 T rd free=dp T rd free o:=by
 unfold b7 drF
 rw [if_pos hS,ho]
 simp only [List.foldl_cons,List.foldl_nil,gk]
 cases dp T rd free o <;> rfl
theorem rdy {T:aR} {rd:List Int} {o:List Int} (hS:Sit T rd 0) (ho:qz 10 (b0 rd)=[o]):cn ((o.length:Int)+1) (cf T rd 0 o) 0:=by
 have hE:Emp (b0 rd) o:=(tE hS).1 (by rw [ho]; exact List.mem_singleton.2 rfl)
 have:=en hS.1.1
 exact (eY hS hE (fun _=>by omega)).1
theorem FR:qz 10 (b0 [10,-1])=[[1,2]]:=by decide +kernel
theorem FQ:qz 10 (b0 [10,40])=[[2,1,2]]:=by decide +kernel
theorem FP:qz 10 (b0 [40,30])=[[2,1,2]]:=by decide +kernel
theorem FO:qz 10 (b0 [10])=[[1]]:=by decide +kernel
theorem lv_a:bQ (lar 0 (cf t1 [10,-1] 0 [1,2])) 3=([0,10,44],true):=by decide +kernel
theorem lv_b:((bQ (lar 0 (cf t1 [10,40] 0 [2,1,2])) 4).2 && decide ((bQ (lar 0 (cf t1 [10,40] 0 [2,1,2])) 4).1.getD 0 0=0))=false:=by decide +kernel
theorem lv_c:bQ (lar 0 (cf t1 [40,30] 0 [2,1,2])) 4=([0,30,40,74],true):=by decide +kernel
theorem lv_d:bQ (lar 0 (cf t1' [10] 0 [1])) 2=([0,10],true):=by decide +kernel
theorem dr_a:b7 t1 [10,-1] 0=some [(1,10),(2,44)]:=by
 rw [kj LQ FR,jy (rdy LQ FR) lv_a]; rfl
theorem Ao {α β:Type} (p:α × β):p=(p.1,p.2):=rfl
theorem Ml:b7 t1 [10,40] 0=none:=by
 rw [kj IH FQ,jy (rdy IH FQ) (x:=(bQ (lar 0 (cf t1 [10,40] 0 [2,1,2])) 4).1) (b:=(bQ (lar 0 (cf t1 [10,40] 0 [2,1,2])) 4).2) (Ao _)]
 have h:=lv_b
 rw [if_neg]
 rintro ⟨h1,h2⟩
 rw [h1,h2] at h
 simp at h
theorem Mk:b7 t1 [40,30] 0=some [(2,30),(1,40),(2,74)]:=by
 rw [kj LO FP,jy (rdy LO FP) lv_c]; rfl
theorem dr_d:df t1 [10,40] 0 2=some [(1,10)]:=by
 have h:b7 t1' [10] 0=some [(1,10)]:=by
  rw [kj LN FO,jy (rdy LN FO) lv_d]; rfl
 unfold df
 have e2:¬ t1.ch.length=1:=by decide
 have hI:qb [10,40] (((2:Int)-1).toNat)=([10]:List Int):=by decide
 have hT:rj t1 (((2:Int)-1).toNat)=t1':=rfl
 rw [if_pos ⟨IH,by omega,by simp⟩,if_neg (by omega),if_neg e2,hI,hT,h]
 rfl
theorem Mm:fQ t1 [40,30] 0 [(2,30),(1,40),(2,74)]=some 78:=by decide +kernel
theorem ck_d:fQ t1 [40,30] 0 [(2,30),(1,35)]=none:=by decide +kernel
theorem Hi:∃s,iC t1=some s/\Chk t1 s/\s.order=[0,2,1]/\s.starts=[0,24,18]/\s.period=40:=by
 obtain ⟨pr,h⟩:=bm1
 exact ⟨_,h,kq h,rfl,rfl,rfl⟩
theorem B6 {s:cH} (hc:Chk t1 s) (h1:s.order=[0,2,1]) (h2:s.starts=[0,24,18]) (_h3:s.period=40) (free:Int) (hf:0<=free/\free<=2000000):∃r,od t1 s free=some ((0,free+2) :: r)/\r.length=4:=by
 have hok:vf t1 s free:=⟨by decide,hc,hf⟩
 have hk:(kF s.order t1.ch.length+1).toNat=2:=by rw [h1]; decide +kernel
 have e:od t1 s free=some (eP t1 s free 2):=by
  unfold od
  rw [if_pos hok,hk]
 rw [e]
 have hz:(kF [0,2,1] 0=0)/\(kF [0,2,1] 1=0)/\kF [0,2,1] 2=1:=by decide +kernel
 have c0:([0,2,1]:List Int).filter (fun t=>decide (kF [0,2,1] t.toNat<=((0:Nat):Int)))=[0,1]:=by decide +kernel
 have c1:([0,2,1]:List Int).filter (fun t=>decide (kF [0,2,1] t.toNat<=((1:Nat):Int)))=[0,2,1]:=by decide +kernel
 have eL:eP t1 s free 2=cyc t1 s free 0++cyc t1 s free 1:=by
  unfold eP
  simp [List.range_succ]
 have e0:cyc t1 s free 0=[tk t1 s free 0 0,tk t1 s free 0 1]:=by unfold cyc; rw [h1,c0]; rfl
 have e1:cyc t1 s free 1=[tk t1 s free 1 0,tk t1 s free 1 2,tk t1 s free 1 1]:=by unfold cyc; rw [h1,c1]; rfl
 refine ⟨[tk t1 s free 0 1,tk t1 s free 1 0,tk t1 s free 1 2,tk t1 s free 1 1],?_,rfl⟩
 rw [eL,e0,e1]
 have:tk t1 s free 0 0=(0,free+2):=by
  unfold tk bsF stD
  rw [h2]
  simp [t1]
 rw [this]; rfl
end Tr
end Go.Proofs.Ytkcjhljbgjpklaa
