import Derived.Test.YtkcjhljbgjpklaaVI01
import Derived.Laws.StructEq
import Derived.Sort.LoopGhostIn
import Derived.RangeFuncCalls
import Derived.RangeFuncNested
import Derived.OrdersIn
set_option maxRecDepth 100000
set_option maxHeartbeats 4000000
noncomputable section
namespace Go.Proofs.Ytkcjhljbgjpklaa
open Go
variable {OK OK':Nat->Prop} {w':World} {fz:Bool} {id clock size n0:Nat} {kt:TypeId} {v1 v2:Value}
def iV:AV->Bool
 | .bool _ | .int .. | .str _ | .nilS | .nilP | .nilM | .nilF | .nilI | .fs .. | .fp _=>true
 | _=>false
def ly:AV->Bool
 | .agg cs=>cs.all iV
 | a=>iV a
section
variable {P:Program} {w:World} {OK:Nat->Prop} {g:aC} {A:ac}
theorem lz {a:AV} {v:Value} (h:iV a=true) (hv:aW w OK g v a):aW w OK aC.none v a:=by
 cases a <;> simp only [iV,Sc] at h
 ·rw [hv.inv_bool]; exact .bool _ _
 ·rw [hv.inv_int]; exact .int _ _ _
 ·obtain ⟨s,e,hs⟩:=hv.inv_str; rw [e]; exact .str _ _ _ hs
 ·obtain ⟨p,e⟩:=hv.inv_nilS; rw [e]; exact .nilS _ _
 ·rw [hv.inv_nilP]; exact .nilP _
 ·rw [hv.inv_nilM]; exact .nilM _
 ·cases hv; exact .nilF _
 ·cases hv; exact .nilI _
 ·obtain ⟨b,o,cap,T,c,fz,vals,e,h1,h2,h3,h4,h5,h6⟩:=hv.inv_fs
  rw [e]; exact .fs _ b o cap _ T c fz _ vals h1 h2 h3 h4 h5 h6
 ·obtain ⟨b,o,T,c,fz,vals,e,h1,h2,h3,h4,h5⟩:=hv.inv_fp
  rw [e]; exact .fp _ b o T c fz _ vals h1 h2 h3 h4 h5
theorem uq {a:AV} {v:Value} (h:ly a=true) (hv:aW w OK g v a):aW w OK aC.none v a:=by
 cases a with
 | agg cs=>
  simp only [ly,RZ] at h
  obtain ⟨vs,vals,e,h1,h2,h3⟩:=hv.inv_agg
  rw [e]
  exact .agg _ vs cs h1 vals h2 (fun i hi=>lz (h _ (RM hi)) (h3 i hi))
 | _=>exact lz h hv
def bI (esz:Nat) (as_:List AV):Option AV:=
 if 0<esz/\as_.length*esz<=16777216/\as_.all (fun a=>a.solid && (cellsOf a).length == esz && ly a)=true then some (if as_.isEmpty then .nilS else .fs esz as_) else none
def IE (P:Program) (w:World) (OK:Nat->Prop) (g:aC) (s:Sem Value) (r:AV) (A':ac):Prop:=
 ∃v w' OK' g',s.run P w=.ok v w'/\aW w' OK' g' v r/\cq w' OK' g' A'/\Ext w OK g w' OK' g'
theorem rz {t e:TypeId} {i:TypeInfo} {z:Value} {vs:List Value} {as_:List AV} {r:AV} (ht:P.underlying t=some (.slice e)) (hi:P.info? e=some i) (hz:i.zero=some z) (hA:cq w OK g A) (h:bS w OK g vs as_)
  (he:bI i.size as_=some r):IE P w OK g (Instr.buildSlice t vs.length ((vs.zipIdx.map fun x=>(x.2,x.1)).toArray)) r A:=by
 unfold bI at he
 simp only [Ry,Rz] at he
 obtain ⟨⟨hpos,hbig,hall⟩,rfl⟩:=he
 have hlen:=h.length
 have hsol:∀k (hk:k<as_.length),as_[k].solid=true/\(cellsOf as_[k]).length=i.size/\ly as_[k]=true:=fun k hk=>by
  have:=RZ.1 hall _ (RM hk)
  simpa [and_assoc] using this
 have hvs:∀v∈vs,v.cells.size=i.size:=fun v hv=>by
  obtain ⟨k,hk,rfl⟩:=List.getElem_of_mem hv
  have hr:=h.get k hk (by omega)
  rw [(hr.cells (hsol k (by omega)).1).1,(hsol k (by omega)).2.1]
 let zs:Array Value:=if vs.length*i.size=0 then #[] else z.cells
 let C0:Array Value:=(Array.range (vs.length*i.size)).map (zs[· % zs.size]!)
 obtain ⟨out,h1,h2,_,h4⟩:=tM (size:=i.size) vs 0 C0 hvs (by simp [C0])
 have hrun:(Instr.buildSlice t vs.length ((vs.zipIdx.map fun x=>(x.2,x.1)).toArray)).run P w=.ok (.slice (some ⟨w.heap.size,0,none⟩) vs.length vs.length) {w with heap:=w.heap.push (.cells out e (0,0))}:=by
  have c1:¬ (16777216<vs.length*i.size):=by rw [hlen]; omega
  have c2:(vs.zipIdx.map fun x=>(x.2,x.1))=(vs.zipIdx 0).map fun x=>(x.2,x.1):=rfl
  rw [<-c2] at h1
  unfold Instr.buildSlice
  simp only [Sem.run_bind,ak ht,Result.andThen_ok,aX hi,gt_iff_lt,show ((2:Nat) ^ 24)=16777216 from rfl,c1,S8]
  by_cases h0:vs.length*i.size=0
  ·have hz0:zs=#[]:=by simp [zs,h0]
   simp only [h0,SX,Sem.run_pure,Sem.run_bind,Result.andThen_ok]
   simp only [C0,hz0,h0] at h1
   rw [h1]
   simp [newRow]
  ·have hz0:zs=z.cells:=by simp only [zs,RK h0]
   simp only [h0,S8,Sem.run_bind,cj hi hz,Result.andThen_ok,Sem.run_pure]
   simp only [C0,hz0] at h1
   rw [h1]
   simp [newRow]
 have hblk:∀b,b<w.heap.size->(w.heap.push (.cells out e (0,0)))[b]?=w.heap[b]?:=fun b hb=>by rw [Ts,RK (by omega)]
 have hX:Ext w OK g {w with heap:=w.heap.push (.cells out e (0,0))} (fun b=>OK b\/b=w.heap.size) g:=
  ⟨rfl,rfl,rfl,by simp,fun b hb _=>hblk b hb,g.le_refl,fun _ h=>.inl h,fun id inc h=>.inl ⟨id,inc,h,rfl⟩,fun b h=>by
   rcases h with h | rfl
   ·exact .inl h
   ·exact .inr (RR _),fun b r hb _=>(hblk b (Sp.1 hb).1).trans hb,fun _ _ _ _=>rfl⟩
 have hK:cq {w with heap:=w.heap.push (.cells out e (0,0))} (fun b=>OK b\/b=w.heap.size) g A:=
  hA.keep (w':={w with heap:=w.heap.push (.cells out e (0,0))}) (by simp) hblk _ (fun b h=>.inl h) (fun b h=>by
   rcases h with h | rfl
   ·exact .inl h
   ·exact .inr (RR _)) (fun b h=>by
   rcases h with h | rfl
   ·have:=hA.ok b h; simp; omega
   ·simp)
 refine ⟨_,_,_,g,hrun,?_,hK,hX⟩
 by_cases h0:as_=[]
 ·subst h0
  simp only [List.isEmpty_nil,SX]
  have:vs.length=0:=by simpa using hlen
  rw [this]
  exact .nilS _ _
 ·rw [RK (by simpa using h0),hlen]
  refine .fs _ w.heap.size 0 _ i.size e out (0,0) as_ (fun k=>vs.getD k undef) (.inr rfl) (by simp) (RR _) (fun k hk=>?_) (fun k hk=>?_) (fun k hk j hj=>?_)
  ·have hk':k<vs.length:=by omega
   have hr:=uq (hsol k hk).2.2 (h.get k hk' hk)
   have:vs.getD k undef=vs[k]:=by simp [hk']
   rw [this]
   exact hr.mono (fun b h=>.inl h) (fun b hb=>hblk b (hA.ok b hb)) _ (aC.le_refl _)
  ·have hk':k<vs.length:=by omega
   have hr:=h.get k hk' hk
   have:vs.getD k undef=vs[k]:=by simp [hk']
   rw [this]
   exact ⟨hvs _ (RM _),(hr.cells (hsol k hk).1).2.1⟩
  ·have hk':k<vs.length:=by omega
   have:vs.getD k undef=vs[k]:=by simp [hk']
   rw [this]
   have:=h4 k hk' j hj
   simpa using this
def ox:AV->AV->Option Bool
 | .int k a,.int k' b=>if k=k' then some (a == b) else none
 | .str a,.str b=>some (a == b)
 | _,_=>none
def iy (k:AV):List (AV × AV)->Nat->Option (Option (Nat × AV))
 | [],_=>some none
 | (k',v) :: r,i=>match ox k k' with
  | some true=>some (some (i,v))
  | some false=>iy k r (i+1)
  | none=>none
def eC (A:ac):AV × ac:=(.map A.length,A++[.map []])
def cH (commaOk:Bool) (z:AV) (A:ac):AV->AV->Option AV
 | .map id,k=>match A[id]? with
  | some (.map kvs)=>match iy k kvs 0 with
   | some (some (_,v))=>some (if commaOk then .tup [v,.bool true] else v)
   | some none=>some (if commaOk then .tup [z,.bool false] else z)
   | none=>none
  | _=>none
 | .nilM,.int _ _=>some (if commaOk then .tup [z,.bool false] else z)
 | .nilM,.str _=>some (if commaOk then .tup [z,.bool false] else z)
 | _,_=>none
def bQ (A:ac):AV->AV->AV->Option ac
 | .map id,k,v=>match A[id]? with
  | some (.map kvs)=>match iy k kvs 0 with
   | some (some (i,_))=>some (A.set id (.map (kvs.set i (k,v))))
   | some none=>(match k with | .int ..=>some (A.set id (.map (kvs++[(k,v)]))) | .str _=>some (A.set id (.map (kvs++[(k,v)]))) | _=>none)
   | none=>none
  | _=>none
 | _,_,_=>none
theorem lu {d:TypeDesc} {v v':Value} {k k':AV} {b:Bool} (hd:(∃kd,d=.int kd)\/d=.string) (hk:∀kd,d=.int kd->∃kk n,k=.int kk n) (hks:d=.string->∃s,k=.str s) (h1:aW w OK g v k) (h2:aW w OK g v' k') (he:ox k k'=some b):Instr.sameNow d v v'=some b:=by
 rcases hd with ⟨kd,rfl⟩ | rfl
 ·obtain ⟨kk,n,rfl⟩:=hk kd rfl
  cases k' <;> simp only [ox,reduceCtorEq] at he
  rw [h1.inv_int,h2.inv_int]
  simpa [Instr.sameNow] using he
 ·obtain ⟨s,rfl⟩:=hks rfl
  cases k' <;> simp only [ox,reduceCtorEq] at he
  obtain ⟨s1,rfl,e1⟩:=h1.inv_str
  obtain ⟨s2,rfl,e2⟩:=h2.inv_str
  simp only [Rz] at he
  subst he
  have h:(s1 == s2)=(s1.data.toList == s2.data.toList):=by
   have h0:(s1 == s2)=(s1.data == s2.data):=rfl
   rw [h0]
   by_cases hs:s1.data=s2.data
   ·rw [hs]; simp
   ·have h1:s1.data.toList≠s2.data.toList:=fun h=>hs (Array.toList_inj.1 h)
    rw [Tk.2 hs,Tk.2 h1]
  simp only [Instr.sameNow,h,e1,e2]
theorem iw {d:TypeDesc} {v:Value} {k:AV} (hd:(∃kd,d=.int kd)\/d=.string) (hk:∀kd,d=.int kd->∃kk n,k=.int kk n) (hks:d=.string->∃s,k=.str s) (h1:aW w OK g v k) :
  ∀(es:List MapEntry) (kvs:List (AV × AV)) (i:Nat) (r:Option (Nat × AV)),es.length=kvs.length->(∀j (h:j<kvs.length) (h':j<es.length),aW w OK g (es[j]).key (kvs[j]).1/\aW w OK g (es[j]).val (kvs[j]).2)->iy k kvs i=some r ->
   ∃r',Instr.findNow d v es i=some r'/\match r,r' with
    | none,none=>True
    | some (j,a),some (j',u)=>j=j'/\i<=j/\aW w OK g u a/\∃h:j-i<es.length,aW w OK g (es[j-i]).key k
    | _,_=>False
 | [],[],i,r,_,_,hf=>by
  injection hf with hf; subst hf
  exact ⟨none,rfl,trivial⟩
 | [],_ :: _,_,_,hl,_,_=>by simp at hl
 | _ :: _,[],_,_,hl,_,_=>by simp at hl
 | e :: es,(k',a) :: kvs,i,r,hl,hr,hf=>by
  obtain ⟨hk0,hv0⟩:=hr 0 (by simp) (by simp)
  simp only [List.getElem_cons_zero] at hk0 hv0
  simp only [iy] at hf
  split at hf
  ·rename_i hq
   injection hf with hf; subst hf
   have hs:=lu hd hk hks h1 hk0 hq
   refine ⟨some (i,e.val),by simp [Instr.findNow,hs],rfl,RR _,hv0,by simp,?_⟩
   simp only [Tq,List.getElem_cons_zero]
   cases k <;> cases k' <;> simp only [ox,reduceCtorEq,Ry,Rz,Tg] at hq
   ·obtain ⟨rfl,rfl⟩:=hq; exact hk0
   ·subst hq; exact hk0
  ·rename_i hq
   have hs:=lu hd hk hks h1 hk0 hq
   obtain ⟨r',h2,h3⟩:=iw hd hk hks h1 es kvs (i+1) r (by simpa using hl) (fun j h h'=>by
    have:=hr (j+1) (by simp; omega) (by simp; omega)
    simpa using this) hf
   refine ⟨r',by simp [Instr.findNow,hs,h2],?_⟩
   cases r <;> cases r' <;> simp only at h3 ⊢
   obtain ⟨h3,h4,h5,h6,h7⟩:=h3
   refine ⟨h3,by omega,h5,by simp; omega,?_⟩
   rename_i p q
   have:p.1-i=(p.1-(i+1))+1:=by omega
   simp only [this,List.getElem_cons_succ]
   exact h7
  ·cases hf
theorem gv {t:TypeId} {d:TypeDesc} (ht:P.underlying t=some d) (hd:(∃kd,d=.int kd)\/d=.string) (e:Bool) (v:Value) (n:Nat):(Instr.checkKey e (n+1) t v).run P w=.ok () w:=by
 rcases hd with ⟨kd,rfl⟩ | rfl
 ·simp only [Instr.checkKey,Sem.run_bind,ak ht,Result.andThen_ok]; rfl
 ·simp only [Instr.checkKey,Sem.run_bind,ak ht,Result.andThen_ok]; rfl
theorem g9 {t:TypeId} {d:TypeDesc} (ht:P.underlying t=some d) {v:Value} {es:List MapEntry} {r:Option (Nat × Value)} (h:Instr.findNow d v es 0=some r):(Instr.findKey t v es).run P w=.ok r w:=by
 simp only [Instr.findKey,Sem.run_bind,ak ht,Result.andThen_ok,h]; rfl
theorem uD (hA:cq w OK g A) {kvs:List (AV × AV)} (hid:A[id]?=some (.map kvs)) {v:Value} (hv:aW w OK g v (.map id)) :
  ∃inc es clock,g id=[inc]/\v=.map (some inc.b)/\w.heap[inc.b]?=some (.map es clock)/\es.size=kvs.length/\qT es clock /\
   ∀j (h:j<kvs.length) (h':j<es.toList.length),aW w OK g (es.toList[j]).key (kvs[j]).1/\aW w OK g (es.toList[j]).val (kvs[j]).2:=by
 obtain ⟨inc,hinc,rfl⟩:=hv.inv_map
 obtain ⟨hlt,hrow⟩:=Rv.1 hid
 have hent:=hA.ent id hlt
 rw [hrow] at hent
 obtain ⟨inc',hg,es,clock,h1,h2,hst,h3⟩:=hent
 rw [hg] at hinc
 simp at hinc; subst hinc
 refine ⟨inc,es,clock,hg,rfl,h1,h2,hst,fun j h h'=>?_⟩
 obtain ⟨e,e1,e2,e3⟩:=h3 j h
 have:es.toList[j]=e:=by
  have hj:j<es.size:=by simpa using h'
  rw [R9 hj] at e1
  simpa using e1
 rw [this]; exact ⟨e2,e3⟩
theorem rp {t et:TypeId} {d:TypeDesc} {ok:Bool} {i:TypeInfo} {z:Value} {za:AV} {a1 a2 r:AV} (ht:P.underlying t=some (.map kt et)) (hk:P.underlying kt=some d) (hd:(∃kd,d=.int kd)\/d=.string) (hi:P.info? et=some i) (hz:i.zero=some z) (hza:aW w OK g z za)
  (hkk:∀kd,d=.int kd->∃kk n,a2=.int kk n) (hks:d=.string->∃s,a2=.str s)
  (hA:cq w OK g A) (h1:aW w OK g v1 a1) (h2:aW w OK g v2 a2) (he:cH ok za A a1 a2=some r):bR P w OK g (Instr.lookup t v1 v2 ok) r:=by
 have tup:∀(x:Value) (a:AV) (b:Bool),aW w OK g x a->aW w OK g (.tuple #[x,.bool b]) (.tup [a,.bool b]):=fun x a b hx=>
  .tup _ _ _ rfl (fun i=>if i=0 then x else .bool b) (fun i hi=>by
   have:i=0\/i=1:=by simp at hi; omega
   rcases this with rfl | rfl <;> rfl) (fun i hi=>by
   have:i=0\/i=1:=by simp at hi; omega
   rcases this with rfl | rfl
   ·exact hx
   ·exact .bool _ _)
 have key:∀(es:Array MapEntry) (kvs:List (AV × AV)) (res:Option (Nat × AV)),es.size=kvs.length ->
   (∀j (h:j<kvs.length) (h':j<es.toList.length),aW w OK g (es.toList[j]).key (kvs[j]).1/\aW w OK g (es.toList[j]).val (kvs[j]).2)->iy a2 kvs 0=some res ->
   ∃x,(do
    Instr.checkKey es.isEmpty 10000 kt v2
    let (v,ok') <-match <-Instr.findKey kt v2 es.toList with
     | some (_,v)=>pure (v,true)
     | none=>pure (<-zeroValue et,false)
    pure (if ok then .tuple #[v,.bool ok'] else v):Sem Value).run P w=.ok x w/\aW w OK g x (match res with | some (_,v)=>(if ok then .tup [v,.bool true] else v) | none=>(if ok then .tup [za,.bool false] else za)):=by
  intro es kvs res hsz hrel hf
  obtain ⟨r',hn,hr'⟩:=iw hd hkk hks h2 es.toList kvs 0 res (by simpa using hsz) hrel hf
  cases res with
  | none=>
   cases r' with
   | some _=>exact hr'.elim
   | none=>
    refine ⟨if ok then .tuple #[z,.bool false] else z,?_,?_⟩
    ·simp only [Sem.run_bind,gv hk hd,Result.andThen_ok,g9 hk hn,cj hi hz,Sem.run_pure]
    ·cases ok
     ·exact hza
     ·exact tup _ _ _ hza
  | some p=>
   obtain ⟨j,a⟩:=p
   cases r' with
   | none=>exact hr'.elim
   | some q=>
    obtain ⟨j',u⟩:=q
    obtain ⟨_,_,hu,_⟩:=hr'
    refine ⟨if ok then .tuple #[u,.bool true] else u,?_,?_⟩
    ·simp only [Sem.run_bind,gv hk hd,Result.andThen_ok,g9 hk hn,Sem.run_pure]
    ·cases ok
     ·exact hu
     ·exact tup _ _ _ hu
 unfold cH at he
 split at he
 ·rename_i id
  split at he
  ·rename_i kvs hid
   obtain ⟨inc,es,clock,hg,rfl,hh,hsz,hborn,hrel⟩:=uD hA hid h1
   have hgo:(getObj inc.b).run P w=.ok (.map es clock) w:=by simp [getObj,Sem.run,hh]
   cases hf:iy a2 kvs 0 with
   | none=>rw [hf] at he; cases he
   | some res=>
    obtain ⟨x,hx1,hx2⟩:=key es kvs res hsz hrel hf
    refine ⟨x,?_,?_⟩
    ·simp only [Instr.lookup,Sem.run_bind,ak ht,Result.andThen_ok,hgo,Sem.run_pure]
     simp only [Sem.run_bind] at hx1
     exact hx1
    ·rw [hf] at he
     cases res with
     | none=>injection he with he; rw [<-he]; exact hx2
     | some p=>injection he with he; rw [<-he]; exact hx2
  ·cases he
 ·injection he with he
  obtain rfl:=h1.inv_nilM
  obtain ⟨x,hx1,hx2⟩:=key #[] [] none rfl (fun j h=>by simp at h) rfl
  refine ⟨x,?_,by rw [<-he]; exact hx2⟩
  simp only [Instr.lookup,Sem.run_bind,ak ht,Result.andThen_ok,Sem.run_pure]
  simp only [Sem.run_bind] at hx1
  exact hx1
 ·injection he with he
  obtain rfl:=h1.inv_nilM
  obtain ⟨x,hx1,hx2⟩:=key #[] [] none rfl (fun j h=>by simp at h) rfl
  refine ⟨x,?_,by rw [<-he]; exact hx2⟩
  simp only [Instr.lookup,Sem.run_bind,ak ht,Result.andThen_ok,Sem.run_pure]
  simp only [Sem.run_bind] at hx1
  exact hx1
 ·cases he
def Db (w:World) (b:Nat) (o:Obj):World:={w with heap:=w.heap.setIfInBounds b o}
theorem r6 {b:Nat} {es:Array MapEntry} (o:Obj) (hb:w.heap[b]?=some (.map es clock)):(setObj b o).run P w=.ok () (Db w b o):=by
 simp [setObj,Sem.run,hb,Db]
theorem w8 {es:Array MapEntry} (h:qT es clock) (e:MapEntry) (he:e.born=clock):qT (es.push e) (clock+1):=by
 refine ⟨fun x hx=>?_,?_⟩
 ·simp only [Array.toList_push,TN,Sg] at hx
  rcases hx with hx | rfl
  ·have:=h.1 x hx; omega
  ·omega
 ·simp only [Array.toList_push,SH,SG,Uy]
  rw [List.nodup_append]
  refine ⟨h.2,by simp,fun a ha b hb=>?_⟩
  obtain ⟨x,hx,rfl⟩:=Sa.1 ha
  simp at hb; subst hb
  have:=h.1 x hx; omega
theorem tX {es:Array MapEntry} (h:qT es clock) (j:Nat) (f:MapEntry->MapEntry) (hf:∀e,(f e).born=e.born):qT (es.modify j f) clock:=by
 have e1:(es.modify j f).toList.map (·.born)=es.toList.map (·.born):=by
  apply TO
  intro i
  rw [SY,SY,Array.getElem?_toList,Array.getElem?_toList,Array.getElem?_modify]
  split
  ·cases es[i]? <;> simp [hf]
  ·rfl
 refine ⟨fun x hx=>?_,by rw [e1]; exact h.2⟩
 have:x.born∈(es.modify j f).toList.map (·.born):=Sa.2 ⟨x,hx,rfl⟩
 rw [e1] at this
 obtain ⟨y,hy,hyx⟩:=Sa.1 this
 rw [<-hyx]; exact h.1 y hy
theorem xQ (hA:cq w OK g A) {kvs kvs':List (AV × AV)} (hid:A[id]?=some (.map kvs)) {inc:Inc} (hg:g id=[inc]) {es es':Array MapEntry} {clock':Nat} (hh:w.heap[inc.b]?=some (.map es clock)) (hsz:es'.size=kvs'.length) (hborn:qT es' clock')
  (hrel:∀j (h:j<kvs'.length),∃e,es'[j]?=some e/\aW w OK g e.key (kvs'[j]).1/\aW w OK g e.val (kvs'[j]).2) :
  cq (Db w inc.b (.map es' clock')) OK g (A.set id (.map kvs'))/\Ext w OK g (Db w inc.b (.map es' clock')) OK g:=by
 obtain ⟨hlt,hrow⟩:=Rv.1 hid
 have hb:inc.b<w.heap.size:=(Sp.1 hh).1
 have hother:∀b,b≠inc.b->(Db w inc.b (.map es' clock')).heap[b]?=w.heap[b]?:=fun b hb=>by
  simp [Db,SJ (S4 hb)]
 have hself:(Db w inc.b (.map es' clock')).heap[inc.b]?=some (.map es' clock'):=by
  simp [Db,hb]
 refine hA.turn (w':=Db w inc.b (.map es' clock')) id hlt (by rw [hid]; simp) inc (by rw [hg]; simp) (by simp [Db]) rfl rfl rfl hother (fun r hr=>by rw [hh] at hr; cases hr) g.le_refl (fun _ _=>rfl) (fun i hi=>⟨i,hi,rfl⟩)
  (fun i i' hi hi' _=>by rw [hg] at hi hi'; simp at hi hi'; rw [hi,hi']) (.map kvs') (fun hok=>?_) (fun _=>rfl)
 refine ⟨inc,hg,es',clock',hself,hsz,hborn,fun j hj=>?_⟩
 obtain ⟨e,e1,e2,e3⟩:=hrel j hj
 exact ⟨e,e1,e2.mono (fun _ h=>h) hok _ (aC.le_refl _),e3.mono (fun _ h=>h) hok _ (aC.le_refl _)⟩
theorem wl {k:AV} {v v':Value} (h1:aW w OK g v k) (h2:aW w OK g v' k) (hk:(∃kk n,k=.int kk n)\/∃s,k=.str s):v=v'/\Instr.sameBits 10000 v v=true:=by
 rcases hk with ⟨kk,n,rfl⟩ | ⟨s,rfl⟩
 ·rw [h1.inv_int,h2.inv_int]; exact ⟨rfl,by simp [Instr.sameBits]⟩
 ·obtain ⟨s1,rfl,e1⟩:=h1.inv_str
  obtain ⟨s2,rfl,e2⟩:=h2.inv_str
  have:s1=s2:=by
   cases s1; cases s2
   congr 1
   exact Array.toList_inj.1 (e1.trans e2.symm)
  subst this
  refine ⟨rfl,?_⟩
  have h0:(s1 == s1)=(s1.data == s1.data):=rfl
  simp [Instr.sameBits,h0]
theorem m9 {t et:TypeId} {d:TypeDesc} {v3:Value} {a1 a2 a3:AV} {A':ac} (ht:P.underlying t=some (.map kt et)) (hk:P.underlying kt=some d) (hd:(∃kd,d=.int kd)\/d=.string)
  (hkk:∀kd,d=.int kd->∃kk n,a2=.int kk n) (hks:d=.string->∃s,a2=.str s)
  (hA:cq w OK g A) (h1:aW w OK g v1 a1) (h2:aW w OK g v2 a2) (h3:aW w OK g v3 a3) (he:bQ A a1 a2 a3=some A') :
  ∃w',(Instr.mapUpdate t v1 v2 v3).run P w=.ok () w'/\cq w' OK g A'/\Ext w OK g w' OK g:=by
 have hkind:(∃kk n,a2=.int kk n)\/∃s,a2=.str s:=by
  rcases hd with ⟨kd,rfl⟩ | rfl
  ·exact .inl (hkk kd rfl)
  ·exact .inr (hks rfl)
 unfold bQ at he
 split at he
 ·rename_i id
  split at he
  ·rename_i kvs hid
   obtain ⟨inc,es,clock,hg,rfl,hh,hsz,hborn,hrel⟩:=uD hA hid h1
   have hgo:(getObj inc.b).run P w=.ok (.map es clock) w:=by simp [getObj,Sem.run,hh]
   cases hf:iy a2 kvs 0 with
   | none=>rw [hf] at he; cases he
   | some res=>
    obtain ⟨r',hn,hr'⟩:=iw hd hkk hks h2 es.toList kvs 0 res (by simpa using hsz) hrel hf
    rw [hf] at he
    cases res with
    | none=>
     have he:some (A.set id (.map (kvs++[(a2,a3)])))=some A':=by
      rcases hkind with ⟨kk,n,rfl⟩ | ⟨s,rfl⟩ <;> exact he
     injection he with he; subst he
     cases r' with
     | some _=>exact hr'.elim
     | none=>
      obtain ⟨q1,q2⟩:=xQ (clock':=clock+1) (kvs':=kvs++[(a2,a3)]) (es':=es.push {key:=v2,val:=v3,born:=clock}) hA hid hg hh (by simp [hsz]) (w8 hborn _ rfl) (fun j hj=>by
       by_cases hlt:j<kvs.length
       ·refine ⟨es.toList[j]'(by simpa [hsz] using hlt),?_,?_⟩
        ·rw [Ts,RK (by omega)]
         simp [hsz,hlt]
        ·rw [R2 hlt]
         exact hrel j hlt (by simpa [hsz] using hlt)
       ·have:j=kvs.length:=by simp at hj; omega
        subst this
        refine ⟨{key:=v2,val:=v3,born:=clock},by rw [<-hsz]; simp,?_⟩
        simp only [List.getElem_concat_length]
        exact ⟨h2,h3⟩)
      refine ⟨_,?_,q1,q2⟩
      simp only [Instr.mapUpdate,Sem.run_bind,ak ht,Result.andThen_ok,hgo,gv hk hd,g9 hk hn,r6 _ hh]
    | some p=>
     obtain ⟨j,a⟩:=p
     cases r' with
     | none=>exact hr'.elim
     | some q=>
      obtain ⟨j',u⟩:=q
      obtain ⟨rfl,_,hu,hjl,hkey⟩:=hr'
      injection he with he; subst he
      simp only [Nat.sub_zero] at hjl hkey
      have hjs:j<es.size:=by simpa using hjl
      obtain ⟨hsame,hbits⟩:=wl h2 hkey hkind
      have hkts:(Instr.keyThatStays (((es[j]?).map (·.key)).getD v2) v2).run P w=.ok v2 w:=by
       have e1:((es[j]?).map (·.key)).getD v2=v2:=by
        simp only [R9 hjs,Ss,Sq]
        rw [hsame]; simp
       rw [e1]
       simp only [Instr.keyThatStays,hbits,SX]; rfl
      obtain ⟨q1,q2⟩:=xQ (clock':=clock) (kvs':=kvs.set j (a2,a3)) (es':=es.modify j fun e=>{e with key:=v2,val:=v3}) hA hid hg hh (by simp [hsz]) (tX hborn _ _ (fun _=>rfl)) (fun k hk'=>by
       have hk'':k<kvs.length:=by simpa using hk'
       by_cases hkj:j=k
       ·subst hkj
        refine ⟨{es[j] with key:=v2,val:=v3},by rw [R9 (by simpa using hjs),Array.getElem_modify]; simp,?_⟩
        simp only [TD]
        exact ⟨h2,h3⟩
       ·refine ⟨es.toList[k]'(by simpa [hsz] using hk''),?_,?_⟩
        ·have:k<es.size:=by omega
         rw [R9 (by simpa using this),Array.getElem_modify]
         simp [hkj]
        ·rw [Tt hkj]
         exact hrel k hk'' (by simpa [hsz] using hk''))
      refine ⟨_,?_,q1,q2⟩
      simp only [Instr.mapUpdate,Sem.run_bind,ak ht,Result.andThen_ok,hgo,gv hk hd,g9 hk hn,hkts,r6 _ hh]
  ·cases he
 ·cases he
theorem qA {t:TypeId} (hA:cq w OK g A):yK P w OK g (Instr.makeMap t none) (eC A).1 (eC A).2:=by
 obtain ⟨q1,q2⟩:=hA.push (w':={w with heap:=w.heap.push (.map #[] 0)}) (.map #[] 0) rfl rfl rfl rfl (.map []) ⟨w.heap.size,0,0,0,0⟩ rfl (fun g' _ _ hnew=>⟨_,rfl,#[],0,hnew,rfl,⟨by simp,by simp⟩,fun i h=>by simp at h⟩)
 refine ⟨.map (some w.heap.size),_,_,?_,.map _ A.length _ (aC.push_self _ _ _),q1,q2⟩
 simp [Instr.makeMap,newObj,Sem.run]
def Ia (P:Program) (t:TypeId):Option Nat:=match P.underlying t with
 | some .bool=>some 0
 | some (.int _)=>some 1
 | some .string=>some 2
 | _=>none
def o7 (P:Program):List Field->Option (List (Nat × Nat))
 | []=>some []
 | f :: r=>match Ia P f.type,P.info? f.type,o7 P r with
  | some k,some _,some l=>if f.name != "_" then some ((f.offset,k) :: l) else none
  | _,_,_=>none
def oL (P:Program) (t:TypeId):Option (List (Nat × Nat)):=match P.underlying t with
 | some (.struct fs)=>if !P.stoodInHeld t && !P.eqGuardType P.depth t then o7 P fs.toList else none
 | _=>none
def eqK:Nat->AV->AV->Option Bool
 | 0,.bool a,.bool b=>some (a == b)
 | 1,.int k a,.int k' b=>if k=k' then some (a == b) else none
 | 2,.str a,.str b=>some (a == b)
 | _,_,_=>none
def qI:List (Nat × Nat)->List AV->List AV->Option Bool
 | [],_,_=>some true
 | (o,k) :: r,cs,ds=>match cs[o]?,ds[o]? with
  | some a,some b=>match eqK k a b,qI r cs ds with
   | some x,some y=>some (x && y)
   | _,_=>none
  | _,_=>none
def iB (neg:Bool) (l:List (Nat × Nat)):AV->AV->Option AV
 | .agg cs,.agg ds=>(qI l cs ds).map fun b=>.bool (if neg then !b else b)
 | _,_=>none
theorem kv {xs ys:Array Value} {cs ds:List AV} (h1:aW w OK g (.agg xs) (.agg cs)) (h2:aW w OK g (.agg ys) (.agg ds)) (d:Nat):∀(fs:List Field) (l:List (Nat × Nat)) (b:Bool),o7 P fs=some l->qI l cs ds=some b ->
  (Op.eqFields (d+1) xs ys fs).run P w=.ok b w
 | [],l,b,hf,he=>by
  injection hf with hf; subst hf
  injection he with he; subst he
  rfl
 | f :: r,l,b,hf,he=>by
  unfold o7 at hf
  split at hf
  ·rename_i k i l' hk hi hl'
   simp only [Ry,Rz,bne_iff_ne,ne_eq] at hf
   obtain ⟨hn,rfl⟩:=hf
   unfold qI at he
   split at he
   ·rename_i a c ha hc
    split at he
    ·rename_i x y hx hy
     injection he with he; subst he
     have hagg:gz P f.type=some false:=by
      unfold Ia at hk
      unfold gz
      cases hu:P.underlying f.type with
      | none=>rw [hu] at hk; cases hk
      | some dd=>rw [hu] at hk; cases dd <;> simp at hk ⊢
     obtain ⟨v1,p1,r1⟩:=gA (P:=P) (off:=f.offset) hi hagg h1 (by simpa [kr] using ha)
     obtain ⟨v2,p2,r2⟩:=gA (P:=P) (off:=f.offset) hi hagg h2 (by simpa [kr] using hc)
     simp only [asAgg,Sem.run_bind,Sem.run_pure,Result.andThen_ok] at p1 p2
     have heq:(Op.equalIn (d+1) f.type v1 v2).run P w=.ok x w:=by
      unfold Ia at hk
      split at hk <;> simp only [Rz,reduceCtorEq] at hk <;> subst hk
      ·rename_i hu
       cases a <;> cases c <;> simp only [eqK,reduceCtorEq,Rz] at hx
       rw [r1.inv_bool,r2.inv_bool,<-hx]
       exact run_equalIn_bool' w d _ _ _ hu
      ·rename_i kd hu
       cases a <;> cases c <;> simp only [eqK,reduceCtorEq,Ry,Rz] at hx
       obtain ⟨rfl,hx⟩:=hx
       rw [r1.inv_int,r2.inv_int,<-hx]
       exact run_equalIn_int w d _ _ _ _ _ hu
      ·rename_i hu
       cases a <;> cases c <;> simp only [eqK,reduceCtorEq,Rz] at hx
       obtain ⟨s1,rfl,e1⟩:=r1.inv_str
       obtain ⟨s2,rfl,e2⟩:=r2.inv_str
       rw [<-hx,<-e1,<-e2,<-yw]
       exact run_equalIn_string w d _ _ _ hu
     have ih:=kv h1 h2 d r l' y hl' hy
     simp only [Op.eqFields,ne_eq,hn,not_false_eq_true,SX,Sem.run_bind,p1,p2,Result.andThen_ok,heq]
     cases x
     ·simp
     ·simpa using ih
    ·cases he
   ·cases he
  ·cases hf
theorem mF {neg:Bool} {t:TypeId} {x y:Operand} {l:List (Nat × Nat)} {a1 a2 r:AV} (hl:oL P t=some l) (h1:aW w OK g v1 a1) (h2:aW w OK g v2 a2) (he:iB neg l a1 a2=some r) :
  bR P w OK g (do eqGuard (if neg then .neq else .eql) t x y v1 v2; binOp (if neg then .neq else .eql) t v1 v2) r:=by
 unfold oL at hl
 split at hl
 ·rename_i fs hu
  simp only [Ry,Sd,SC] at hl
  obtain ⟨⟨hs,hg⟩,hl⟩:=hl
  unfold iB at he
  split at he
  ·rename_i cs ds
   simp only [RJ] at he
   obtain ⟨b,hb,rfl⟩:=he
   obtain ⟨xs,_,rfl,_⟩:=h1.inv_agg
   obtain ⟨ys,_,rfl,_⟩:=h2.inv_agg
   have hfo:P.fieldsOf t=fs:=by simp [Program.fieldsOf,hu]
   have he:=kv h1 h2 9998 fs.toList l b hl hb
   have hst:=run_equalIn_struct (P:=P) w 9999 t xs ys (by rw [hfo]; exact hu) hs
   rw [hfo,he] at hst
   refine ⟨.bool (if neg then !b else b),?_,.bool _ _⟩
   simp only [Sem.run_bind,run_eqGuard_agg w _ t x y xs ys hg,Result.andThen_ok]
   cases neg
   ·simp only [Sc,S8,run_eql_struct,hst,Result.andThen_ok]
   ·simp only [SX,run_neq_struct,hst,Result.andThen_ok]
  ·cases he
 ·cases hl
end
def Ev:Bool:=false
def HG (n:Nat):Value->Bool
 | .bool _=>true
 | _=>n != 1
inductive MX where
 | var (i:Nat)
 | tmp (j:Nat)
 | cst (a:AV)
 | glob (g:Nat)
 | fn (f:FuncId)
inductive MOp where
 | mv (x:MX)
 | pick (c a b:MX)
 | bin (op:BinOp) (x y:MX)
 | eqBool (neg:Bool) (x y:MX)
 | un (op:UnOp) (x:MX)
 | convInt (k:IntKind) (x:MX)
 | same (x:MX)
 | toStr (x:MX)
 | toBytes (x:MX)
 | alloc (size:Nat) (z:AV)
 | allocA (zs:List AV)
 | box (x:MX)
 | build (zs:List AV) (parts:List (Nat × Nat × MX))
 | buildSlice (esz:Nat) (xs:List MX)
 | load (agg:Bool) (size:Nat) (p:MX)
 | store (size:Nat) (p v:MX)
 | nilCheck (x:MX)
 | fieldAddr (off:Nat) (x:MX)
 | part (agg:Bool) (off size:Nat) (x:MX)
 | indexSl (esz:Nat) (x i:MX)
 | indexArr (n s:Nat) (x i:MX)
 | indexVal (agg:Bool) (n s:Nat) (x i:MX)
 | indexStr (x i:MX)
 | sliceStr (x:MX) (lo hi:Option MX)
 | sliceSl (esz:Nat) (x:MX) (lo hi:Option MX)
 | sliceArr (n esz:Nat) (x:MX) (lo hi:Option MX)
 | storeA (size:Nat) (p v:MX)
 | sliceM (esz:Nat) (x:MX) (lo:Option MX) (hi mx:MX)
 | makeSlice (esz bytes:Nat) (z:AV) (l c:MX)
 | makeFunc (fn:Fn) (first cap:List MX)
 | extract (x:MX) (k:Nat)
 | lenStr (x:MX)
 | lenSl (x:MX)
 | lenMap (x:MX)
 | minmax (isMax:Bool) (x:MX) (xs:List MX)
 | append (esz bytes:Nat) (s x:MX)
 | appendN (esz bytes:Nat) (s x:MX)
 | clear (esz:Nat) (z:AV) (x:MX)
 | copy (esz:Nat) (d s:MX)
 | eqNil (kind:Nat) (neg:Bool) (x:MX)
 | call (f:MX) (args:List MX)
 | eqAgg (neg:Bool) (l:List (Nat × Nat)) (x y:MX)
 | buildF (esz:Nat) (xs:List MX)
 | makeMap
 | lookup (kd:Nat) (ok:Bool) (z:AV) (m k:MX)
 | mapUpdate (kd:Nat) (m k v:MX)
def xN:Value->Option AV
 | .bool b=>some (.bool b)
 | .int k n=>some (.int k n)
 | .string s=>some (.str s.data.toList)
 | .slice none 0 0=>some .nilS
 | .pointer none=>some .nilP
 | .map none=>some .nilM
 | .nilFunc=>some .nilF
 | .nilIface=>some .nilI
 | _=>none
def iY:List Value->Option (List AV)
 | []=>some []
 | v :: r=>match xN v,iY r with
  | some a,some l=>some (a :: l)
  | _,_=>none
def KH (P:Program) (t:TypeId):Bool:=match P.underlying t with
 | some (.array _ e)=>match P.info? e with
  | some ie=>ie.size == 1
  | none=>false
 | _=>false
def ofValue:Value->Option AV
 | .agg cs=>(iY cs.toList).map .agg
 | v=>xN v
section
variable {P:Program} {w:World} {OK:Nat->Prop} {g:aC} {A:ac}
theorem r9 {v:Value} {a:AV} (h:xN v=some a):aW w OK g v a/\v.oneCell'=true:=by
 unfold xN at h
 split at h <;> simp at h <;> subst h
 ·exact ⟨.bool _ _,rfl⟩
 ·exact ⟨.int _ _ _,rfl⟩
 ·exact ⟨.str _ _ _ rfl,rfl⟩
 ·exact ⟨.nilS _ _,rfl⟩
 ·exact ⟨.nilP _,rfl⟩
 ·exact ⟨.nilM _,rfl⟩
 ·exact ⟨.nilF _,rfl⟩
 ·exact ⟨.nilI _,rfl⟩
theorem kz:∀ {vs:List Value} {as':List AV},iY vs=some as'->vs.length=as'.length/\∀i (h1:i<vs.length) (h2:i<as'.length),aW w OK g vs[i] as'[i]/\(vs[i]).oneCell'=true
 | [],as',h=>by injection h with h; subst h; exact ⟨rfl,fun i h1=>by simp at h1⟩
 | v :: r,as',h=>by
  unfold iY at h
  split at h
  ·rename_i a l h1 h2
   injection h with h; subst h
   obtain ⟨k1,k2⟩:=kz (vs:=r) h2
   refine ⟨by simp [k1],fun i h3 h4=>?_⟩
   cases i with
   | zero=>exact r9 h1
   | succ i=>exact k2 i (by simpa using h3) (by simpa using h4)
  ·cases h
theorem fq {vs:Array Value} {as':List AV} (h:iY vs.toList=some as'):eH w OK g vs as':=by
 obtain ⟨h1,h2⟩:=kz (w:=w) (OK:=OK) (g:=g) h
 refine ⟨by simpa using h1,fun i hi=>?_⟩
 have hi':i<vs.size:=by simp at h1; omega
 have:=h2 i (by simpa using hi') hi
 exact ⟨vs[i],by simp [hi'],by simpa using this.2,by simpa using this.1⟩
theorem dU {v:Value} {a:AV} (h:ofValue v=some a):aW w OK g v a:=by
 unfold ofValue at h
 split at h
 ·simp only [RJ] at h
  obtain ⟨l,h1,rfl⟩:=h
  exact (fq h1).agg
 ·exact (r9 h).1
def mj:Nat->AV->Option Bool
 | 0,.nilP=>some true
 | 0,.ptr ..=>some false
 | 0,.fp ..=>some false
 | 1,.sl ..=>some false
 | 1,.fs ..=>some false
 | 2,.nilM=>some true
 | 2,.map ..=>some false
 | 3,.nilF=>some true
 | 3,.func ..=>some false
 | 4,.nilI=>some true
 | 4,.iface ..=>some false
 | _,_=>none
def wN:Nat->AV->Bool
 | 1,.int ..=>true
 | 2,.str _=>true
 | _,_=>false
def oW (P:Program) (t:TypeId):Option Nat:=match P.underlying t with
 | some (.int _)=>some 1
 | some .string=>some 2
 | _=>none
def dA (ρ:MX->AV) (A:ac):MOp->Option (AV × ac)
 | .mv x=>some (ρ x,A)
 | .pick c a b=>match ρ c with
  | .bool t=>some (if t then ρ a else ρ b,A)
  | _=>none
 | .bin op x y=>(ag op (ρ x) (ρ y)).map (·,A)
 | .eqBool neg x y=>(mE neg (ρ x) (ρ y)).map (·,A)
 | .un op x=>(uV op (ρ x)).map (·,A)
 | .convInt k x=>(jm k (ρ x)).map (·,A)
 | .same x=>match ρ x with
  | .str s=>some (.str s,A)
  | _=>none
 | .toStr x=>(kJ A (ρ x)).map (·,A)
 | .toBytes x=>gS A (ρ x)
 | .alloc size z=>aS size z A
 | .allocA zs=>jM zs A
 | .box x=>aS (cellsOf (ρ x)).length (ρ x) A
 | .build zs parts=>(my zs (parts.map fun x=>(x.1,x.2.1,ρ x.2.2))).map fun l=>(.agg l,A)
 | .buildSlice esz xs=>aI esz (xs.map ρ) A
 | .load agg size p=>(ab agg size A (ρ p)).map (·,A)
 | .store size p v=>(az size A (ρ p) (ρ v)).map fun A'=>(.undef,A')
 | .nilCheck x=>(jL (ρ x)).map (·,A)
 | .fieldAddr off x=>(aa off A (ρ x)).map (·,A)
 | .part agg off size x=>(kr agg off size (ρ x)).map (·,A)
 | .indexSl esz x i=>(ae esz A (ρ x) (ρ i)).map (·,A)
 | .indexArr n s x i=>(dy n s A (ρ x) (ρ i)).map (·,A)
 | .indexVal agg n s x i=>(gU agg n s (ρ x) (ρ i)).map (·,A)
 | .indexStr x i=>(gV (ρ x) (ρ i)).map (·,A)
 | .sliceStr x lo hi=>(gT (lo.map ρ) (hi.map ρ) (ρ x)).map (·,A)
 | .sliceSl esz x lo hi=>(ce esz A (lo.map ρ) (hi.map ρ) (ρ x)).map (·,A)
 | .sliceArr n esz x lo hi=>(eM n esz A (lo.map ρ) (hi.map ρ) (ρ x)).map (·,A)
 | .storeA size p v=>(eU size A (ρ p) (ρ v)).map fun A'=>(.undef,A')
 | .sliceM esz x lo hi mx=>(eA esz A (lo.map ρ) (ρ hi) (ρ mx) (ρ x)).map (·,A)
 | .makeSlice esz bytes z l c=>bU esz bytes z A (ρ l) (ρ c)
 | .makeFunc fn first cap=>some (.func fn (first.map ρ) (cap.map ρ),A)
 | .extract x k=>(jl k (ρ x)).map (·,A)
 | .lenStr x=>(mD (ρ x)).map (·,A)
 | .lenSl x=>(aq (ρ x)).map (·,A)
 | .lenMap x=>(iA A (ρ x)).map (·,A)
 | .minmax isMax x xs=>(dq isMax (ρ x) (xs.map ρ)).map (·,A)
 | .append esz bytes s x=>aR esz bytes A (ρ s) (ρ x)
 | .appendN esz bytes s x=>cU esz bytes A (ρ s) (ρ x)
 | .clear esz z x=>nh esz z A (ρ x)
 | .copy esz d s=>oe esz A (ρ d) (ρ s)
 | .eqNil kind neg x=>(mj kind (ρ x)).map fun b=>(.bool (if neg then !b else b),A)
 | .call _ _=>none
 | .eqAgg neg l x y=>(iB neg l (ρ x) (ρ y)).map (·,A)
 | .buildF esz xs=>(bI esz (xs.map ρ)).map (·,A)
 | .makeMap=>some (eC A)
 | .lookup kd ok z m k=>if wN kd (ρ k) then (cH ok z A (ρ m) (ρ k)).map (·,A) else none
 | .mapUpdate kd m k v=>if wN kd (ρ k) then (bQ A (ρ m) (ρ k) (ρ v)).map fun A'=>(.undef,A') else none
def cxs (cx:Operand->Option MX):List Operand->Option (List MX)
 | []=>some []
 | x :: r=>match cx x,cxs cx r with
  | some y,some l=>some (y :: l)
  | _,_=>none
def cxo (cx:Operand->Option MX):Option Operand->Option (Option MX)
 | none=>some none
 | some x=>(cx x).map some
def qL (cx:Operand->Option MX) (place:Nat->Option (Nat × Nat)):List (Nat × Operand)->Option (List (Nat × Nat × MX))
 | []=>some []
 | (i,x) :: r=>match place i,cx x,qL cx place r with
  | some (off,size),some y,some l=>some ((off,size,y) :: l)
  | _,_,_=>none
def Em (cx:Operand->Option MX):Nat->List (Nat × Operand)->Option (List MX)
 | _,[]=>some []
 | k,(i,x) :: r=>if i=k then (match cx x,Em cx (k+1) r with
  | some y,some l=>some (y :: l)
  | _,_=>none) else none
def f8 (P:Program):List Field->Option (List (Nat × Nat))
 | []=>some []
 | f :: r=>match P.info? f.type,f8 P r with
  | some i,some l=>some ((f.offset,i.size) :: l)
  | _,_=>none
def dF:Nat->Value->Bool
 | 0,.pointer none=>true
 | 1,.slice none 0 0=>true
 | 2,.map none=>true
 | 3,.nilFunc=>true
 | 4,.nilIface=>true
 | _,_=>false
def hJ:TypeDesc->Nat
 | .pointer _=>0
 | .slice _=>1
 | .map ..=>2
 | .func ..=>3
 | .interface _=>4
 | _=>5
def bW (P:Program) (fz:Bool) (cx:Operand->Option MX):Op->Option MOp
 | .move x | .assign x=>do some (.mv (<-cx x))
 | .pick c a b=>do some (.pick (<-cx c) (<-cx a) (<-cx b))
 | .binOp op t x y _=>
  match P.underlying t with
  | some (.int _) | some .string=>do some (.bin op (<-cx x) (<-cx y))
  | some .bool=>match op with
   | .eql=>do some (.eqBool false (<-cx x) (<-cx y))
   | .neq=>do some (.eqBool true (<-cx x) (<-cx y))
   | _=>none
  | some (.struct _)=>match op with
   | .eql=>do some (.eqAgg false (<-oL P t) (<-cx x) (<-cx y))
   | .neq=>do some (.eqAgg true (<-oL P t) (<-cx x) (<-cx y))
   | _=>none
  | some d=>match op,y with
   | .eql,.const v=>if dF (hJ d) v then do some (.eqNil (hJ d) false (<-cx x)) else none
   | .neq,.const v=>if dF (hJ d) v then do some (.eqNil (hJ d) true (<-cx x)) else none
   | _,_=>none
  | none=>none
 | .unOp op _ x=>do some (.un op (<-cx x))
 | .convert s t x=>
  match P.underlying s,P.underlying t with
  | some (.int _),some (.int k)=>do some (.convInt k (<-cx x))
  | some .string,some .string=>do some (.same (<-cx x))
  | some .string,some (.slice e)=>match P.underlying e with
   | some (.int .u8)=>do some (.toBytes (<-cx x))
   | _=>none
  | some (.slice e),some .string=>match P.underlying e with
   | some (.int .u8)=>do some (.toStr (<-cx x))
   | _=>none
  | _,_=>none
 | .alloc t=>
  do
   let i <-P.info? t
   let z <-i.zero
   match KH P t,z with
   | true,.agg vs=>do some (.allocA (<-iY vs.toList))
   | _,_=>do some (.alloc i.size (<-ofValue z))
 | .box _ x=>do some (.box (<-cx x))
 | .build t parts=>
  match P.underlying t with
  | some (.struct fields)=>do
   let i <-P.info? t
   let z <-i.zero
   let zs <-iY z.cells.toList
   let places <-f8 P fields.toList
   some (.build zs (<-qL cx (places[·]?) parts.toList))
  | some (.array _ e)=>do
   let i <-P.info? t
   let ie <-P.info? e
   let z <-i.zero
   let zs <-iY z.cells.toList
   some (.build zs (<-qL cx (fun k=>some (k*ie.size,ie.size)) parts.toList))
  | _=>none
 | .buildSlice t n parts=>
  match P.underlying t with
  | some (.slice e)=>do
   let ie <-P.info? e
   let _ <-ie.zero
   let xs <-Em cx 0 parts.toList
   if xs.length=n then some (if fz then .buildF ie.size xs else .buildSlice ie.size xs) else none
  | _=>none
 | .load t p=>do
  let i <-P.info? t
  let b <-gz P t
  some (.load b i.size (<-cx p))
 | .store t p v=>do
  let i <-P.info? t
  let y <-cx p
  let z <-cx v
  some (if KH P t then .storeA i.size y z else .store i.size y z)
 | .nilCheck x=>do some (.nilCheck (<-cx x))
 | .fieldAddr s x k=>
  match P.underlying s with
  | some (.struct fields)=>do
   let f <-fields[k]?
   let i <-P.info? f.type
   if i.size≠0 then some (.fieldAddr f.offset (<-cx x)) else none
  | _=>none
 | .field s x k=>
  match P.underlying s with
  | some (.struct fields)=>do
   let f <-fields[k]?
   let i <-P.info? f.type
   let b <-gz P f.type
   some (.part b f.offset i.size (<-cx x))
  | _=>none
 | .indexAddr t x k=>
  match P.underlying t with
  | some (.slice e)=>do
   let i <-P.info? e
   some (.indexSl i.size (<-cx x) (<-cx k))
  | some (.array n e)=>do
   let i <-P.info? e
   some (.indexArr n i.size (<-cx x) (<-cx k))
  | _=>none
 | .index t x k=>
  match P.underlying t with
  | some .string=>do some (.indexStr (<-cx x) (<-cx k))
  | some (.array n e)=>do
   let i <-P.info? e
   let b <-gz P e
   some (.indexVal b n i.size (<-cx x) (<-cx k))
  | _=>none
 | .slice t x lo hi none=>
  match P.underlying t with
  | some .string=>do some (.sliceStr (<-cx x) (<-cxo cx lo) (<-cxo cx hi))
  | some (.slice e)=>do
   let i <-P.info? e
   some (.sliceSl i.size (<-cx x) (<-cxo cx lo) (<-cxo cx hi))
  | some (.array n e)=>do
   let i <-P.info? e
   some (.sliceArr n i.size (<-cx x) (<-cxo cx lo) (<-cxo cx hi))
  | _=>none
 | .slice t x lo (some hi) (some mx)=>
  match P.underlying t with
  | some (.slice e)=>do
   let i <-P.info? e
   some (.sliceM i.size (<-cx x) (<-cxo cx lo) (<-cx hi) (<-cx mx))
  | _=>none
 | .makeSlice t l c=>
  match P.underlying t with
  | some (.slice e)=>do
   let i <-P.info? e
   let z <-i.zero
   let za <-ofValue z
   if z.cells.size=i.size then some (.makeSlice i.size i.bytes za (<-cx l) (<-cx c)) else none
  | _=>none
 | .makeFunc fn first cap=>do some (.makeFunc fn (<-cxs cx first.toList) (<-cxs cx cap.toList))
 | .extract x k=>do some (.extract (<-cx x) k)
 | .makeMap _ none=>some .makeMap
 | .lookup t m k ok=>
  match P.underlying t with
  | some (.map kt et)=>do
   let kd <-oW P kt
   let i <-P.info? et
   let z <-i.zero
   let za <-ofValue z
   some (.lookup kd ok za (<-cx m) (<-cx k))
  | _=>none
 | .mapUpdate t m k v=>
  match P.underlying t with
  | some (.map kt _)=>do
   let kd <-oW P kt
   some (.mapUpdate kd (<-cx m) (<-cx k) (<-cx v))
  | _=>none
 | .call c=>
  match c.callee with
  | .builtin .len=>
   match c.argTypes,c.args with
   | ⟨[t]⟩,⟨[x]⟩=>
    match P.underlying t with
    | some .string=>do some (.lenStr (<-cx x))
    | some (.slice _)=>do some (.lenSl (<-cx x))
    | some (.map ..)=>do some (.lenMap (<-cx x))
    | some (.array n _)=>some (.mv (.cst (.int .i64 n)))
    | _=>none
   | _,_=>none
  | .builtin .min=>match c.args with
   | ⟨x :: r⟩=>do some (.minmax false (<-cx x) (<-cxs cx r))
   | _=>none
  | .builtin .max=>match c.args with
   | ⟨x :: r⟩=>do some (.minmax true (<-cx x) (<-cxs cx r))
   | _=>none
  | .builtin .append=>
   match c.argTypes,c.args with
   | ⟨[t,xt]⟩,⟨[s,x]⟩=>
    match P.underlying t with
    | some (.slice e)=>do
     let i <-P.info? e
     let z <-i.zero
     let d <-P.underlying xt
     if z.cells.size=i.size/\(match d with | .slice _=>true | .string=>true | _=>false)=true then do
      let y1 <-cx s
      let y2 <-cx x
      some (if (Ev || fz)=true/\HG i.bytes z=true then .appendN i.size i.bytes y1 y2 else .append i.size i.bytes y1 y2)
     else none
    | _=>none
   | _,_=>none
  | .builtin .clear=>
   match c.argTypes,c.args with
   | ⟨[t]⟩,⟨[x]⟩=>
    match P.underlying t with
    | some (.slice e)=>do
     let i <-P.info? e
     let z <-i.zero
     let za <-ofValue z
     if z.cells.size=i.size then some (.clear i.size za (<-cx x)) else none
    | _=>none
   | _,_=>none
  | .builtin .copy=>
   match c.argTypes,c.args with
   | ⟨[t,_]⟩,⟨[d,s]⟩=>
    match P.underlying t with
    | some (.slice e)=>do
     let i <-P.info? e
     some (.copy i.size (<-cx d) (<-cx s))
    | _=>none
   | _,_=>none
  | .value f=>do some (.call (<-cx f) (<-cxs cx c.args.toList))
  | _=>none
 | _=>none
end
section
variable {P:Program} {w:World} {OK:Nat->Prop} {g:aC} {A:ac}
def fm (_P:Program) (w:World) (OK:Nat->Prop) (g:aC) (res:Result Next) (r:AV) (A':ac):Prop:=
 ∃v w' OK' g',(res=.ok (.value v) w'\/(res=.ok .skip w'/\v=undef))/\aW w' OK' g' v r/\cq w' OK' g' A'/\Ext w OK g w' OK' g'
theorem yK.op {s:Sem Value} {r:AV} {A':ac} (h:yK P w OK g s r A'):fm P w OK g ((do pure (.value (<-s)):Sem Next).run P w) r A':=by
 obtain ⟨v,w',g',h1,h2,h3,h4⟩:=h
 exact ⟨v,w',OK,g',.inl (by simp [h1]),h2,h3,h4⟩
theorem IE.op {s:Sem Value} {r:AV} {A':ac} (h:IE P w OK g s r A'):fm P w OK g ((do pure (.value (<-s)):Sem Next).run P w) r A':=by
 obtain ⟨v,w',OK',g',h1,h2,h3,h4⟩:=h
 exact ⟨v,w',OK',g',.inl (by simp [h1]),h2,h3,h4⟩
theorem bR.op {s:Sem Value} {r:AV} (h:bR P w OK g s r) (hA:cq w OK g A):fm P w OK g ((do pure (.value (<-s)):Sem Next).run P w) r A:=(h.does hA).op
theorem fm.val {v:Value} {r:AV} (h:aW w OK g v r) (hA:cq w OK g A):fm P w OK g (.ok (.value v) w) r A:=⟨v,w,OK,g,.inl rfl,h,hA,Ext.refl _ _ _⟩
variable {cx:Operand->Option MX} {ρc:Operand->Value} {ρ:MX->AV}
theorem nj (hx:∀x y,cx x=some y->aW w OK g (ρc x) (ρ y)):∀ {xs:List Operand} {ys:List MX},cxs cx xs=some ys->bS w OK g (xs.map ρc) (ys.map ρ)
 | [],ys,h=>by injection h with h; subst h; trivial
 | x :: r,ys,h=>by
  unfold cxs at h
  split at h
  ·rename_i y l h1 h2
   injection h with h; subst h
   exact ⟨hx _ _ h1,nj hx h2⟩
  ·cases h
theorem kN (hx:∀x y,cx x=some y->aW w OK g (ρc x) (ρ y)) {x:Option Operand} {y:Option MX} (h:cxo cx x=some y):yC w OK g (x.map ρc) (y.map ρ):=by
 cases x with
 | none=>simp [cxo] at h; subst h; trivial
 | some x=>
  simp only [cxo,RJ] at h
  obtain ⟨z,h1,rfl⟩:=h
  exact hx _ _ h1
theorem kO (hx:∀x y,cx x=some y->aW w OK g (ρc x) (ρ y)) {place:Nat->Option (Nat × Nat)}:∀ {xs:List (Nat × Operand)} {ys:List (Nat × Nat × MX)},qL cx place xs=some ys ->
  mR w OK g place (xs.map fun x=>(x.1,ρc x.2)) (ys.map fun y=>(y.1,y.2.1,ρ y.2.2))
 | [],ys,h=>by injection h with h; subst h; trivial
 | (i,x) :: r,ys,h=>by
  unfold qL at h
  split at h
  ·rename_i off size y l h1 h2 h3
   injection h with h; subst h
   exact ⟨h1,hx _ _ h2,kO hx h3⟩
  ·cases h
theorem vi (hx:∀x y,cx x=some y->aW w OK g (ρc x) (ρ y)):∀ {k:Nat} {xs:List (Nat × Operand)} {ys:List MX},Em cx k xs=some ys ->
  ∃vs:List Value,(xs.map fun x=>(x.1,ρc x.2))=(vs.zipIdx k).map (fun x=>(x.2,x.1))/\bS w OK g vs (ys.map ρ)/\vs.length=ys.length
 | k,[],ys,h=>by injection h with h; subst h; exact ⟨[],rfl,trivial,rfl⟩
 | k,(i,x) :: r,ys,h=>by
  unfold Em at h
  split at h
  ·rename_i hk
   subst hk
   split at h
   ·rename_i y l h1 h2
    injection h with h; subst h
    obtain ⟨vs,k1,k2,k3⟩:=vi hx h2
    exact ⟨ρc x :: vs,by simp [k1],⟨hx _ _ h1,k2⟩,by simp [k3]⟩
   ·cases h
  ·cases h
theorem ji:∀ {fs:List Field} {ps:List (Nat × Nat)},f8 P fs=some ps->∀w:World,(fs.mapM fun f=>do pure (f.offset,<-sizeOf f.type):Sem (List (Nat × Nat))).run P w=.ok ps w
 | [],ps,h,w=>by injection h with h; subst h; rfl
 | f :: r,ps,h,w=>by
  unfold f8 at h
  split at h
  ·rename_i i l h1 h2
   injection h with h; subst h
   have ih:=ji h2 w
   simp [List.mapM_cons,aX h1] at ih ⊢
   rw [ih]; rfl
  ·cases h
theorem oz {fs:Array Field} {ps:List (Nat × Nat)} (h:f8 P fs.toList=some ps) (w:World):(fs.mapM fun f=>do pure (f.offset,<-sizeOf f.type):Sem (Array (Nat × Nat))).run P w=.ok ps.toArray w:=by
 rw [Array.mapM_eq_mapM_toList,Sem.run_map]
 rw [ji h w]
 rfl
theorem ve {neg:Bool} {t:TypeId} {d:TypeDesc} {x:Operand} {v c:Value} {a:AV} {b:Bool} (ht:P.underlying t=some d) (hcn:dF (hJ d) c=true) (h:aW w OK g v a) (hb:mj (hJ d) a=some b) :
  (do eqGuard (if neg then .neq else .eql) t x (.const c) v c; binOp (if neg then .neq else .eql) t v c:Sem Value).run P w=.ok (.bool (if neg then !b else b)) w:=by
 have fin:(Op.equalIn (9999+1) t v c).run P w=.ok b w->(eqGuard (if neg then .neq else .eql) t x (.const c) v c).run P w=.ok () w ->
   (binOp .eql t v c=(do pure (.bool (<-Op.equal t v c))))->(binOp .neq t v c=(do pure (.bool (!(<-Op.equal t v c))))) ->
   (do eqGuard (if neg then .neq else .eql) t x (.const c) v c; binOp (if neg then .neq else .eql) t v c:Sem Value).run P w=.ok (.bool (if neg then !b else b)) w:=by
  intro h1 h2 h3 h4
  have h1':(Op.equal t v c).run P w=.ok b w:=h1
  rw [Sem.run_bind,h2,Result.andThen_ok]
  cases neg
  ·simp only [Sc,S8]
   rw [h3]
   simp [h1']
  ·simp only [SX]
   rw [h4]
   simp [h1']
 cases d <;> simp only [hJ] at hcn hb <;> (try (cases c <;> simp [dF] at hcn; done))
 case pointer e=>
  obtain rfl:c=.pointer none:=by
   cases c with
   | pointer p=>cases p <;> simp [dF] at hcn; rfl
   | _=>simp [dF] at hcn
  cases a <;> simp only [mj,Rz,reduceCtorEq] at hb <;> subst hb
  ·obtain rfl:=h.inv_nilP
   exact fin (by rw [Op.equalIn]; simp [ak ht]) (by cases neg <;> simp [eqGuard]) rfl rfl
  ·obtain ⟨inc,_,rfl,_⟩:=h.inv_ptr
   exact fin (by rw [Op.equalIn]; simp [ak ht]) (by cases neg <;> simp [eqGuard]) rfl rfl
  ·obtain ⟨b,o,T,c,fz,vals,rfl,_⟩:=h.inv_fp
   exact fin (by rw [Op.equalIn]; simp [ak ht]) (by cases neg <;> simp [eqGuard]) rfl rfl
 case slice e=>
  obtain rfl:c=.slice none 0 0:=by
   cases c with
   | slice p n k=>
    unfold dF at hcn
    split at hcn <;> simp_all
   | _=>simp [dF] at hcn
  cases a <;> simp only [mj,Rz,reduceCtorEq] at hb <;> subst hb
  ·obtain ⟨b,o,cap,T,c,fz,vals,rfl,_⟩:=h.inv_fs
   exact fin (by rw [Op.equalIn]; simp [ak ht]) (by cases neg <;> simp [eqGuard]) rfl rfl
  ·obtain ⟨inc,cap,ao,_,rfl,_⟩:=h.inv_sl
   exact fin (by rw [Op.equalIn]; simp [ak ht]) (by cases neg <;> simp [eqGuard]) rfl rfl
 case map k e=>
  obtain rfl:c=.map none:=by
   cases c with
   | map p=>cases p <;> simp [dF] at hcn; rfl
   | _=>simp [dF] at hcn
  cases a <;> simp only [mj,Rz,reduceCtorEq] at hb <;> subst hb
  ·obtain rfl:=h.inv_nilM
   exact fin (by rw [Op.equalIn]; simp [ak ht]) (by cases neg <;> simp [eqGuard]) rfl rfl
  ·obtain ⟨inc,_,rfl⟩:=h.inv_map
   exact fin (by rw [Op.equalIn]; simp [ak ht]) (by cases neg <;> simp [eqGuard]) rfl rfl
 case func p r vv=>
  obtain rfl:c=.nilFunc:=by cases c <;> simp [dF] at hcn; rfl
  cases a <;> simp only [mj,Rz,reduceCtorEq] at hb <;> subst hb
  ·cases h
   exact fin (by rw [Op.equalIn]; simp [ak ht]) (by cases neg <;> simp [eqGuard]) rfl rfl
  ·obtain ⟨vs1,vs2,v1,v2,rfl,_⟩:=h.inv_func
   exact fin (by rw [Op.equalIn]; simp [ak ht]) (by cases neg <;> simp [eqGuard]) rfl rfl
 case interface ms=>
  obtain rfl:c=.nilIface:=by cases c <;> simp [dF] at hcn; rfl
  cases a <;> simp only [mj,Rz,reduceCtorEq] at hb <;> subst hb
  ·cases h
   exact fin (by rw [Op.equalIn]; simp [ak ht]) (by cases neg <;> simp [eqGuard]) rfl rfl
  ·cases h
   exact fin (by rw [Op.equalIn]; simp [ak ht]) (by cases neg <;> simp [eqGuard]) rfl rfl
theorem bN {s:Sem Value} {e:Option AV} {r:AV} {A':ac} (hA:cq w OK g A) (he:e.map (fun r=>(r,A))=some (r,A')) (hs:∀r,e=some r->bR P w OK g s r) :
  fm P w OK g ((do pure (.value (<-s)):Sem Next).run P w) r A':=by
 simp only [RJ,RQ] at he
 obtain ⟨r',h1,rfl,rfl⟩:=he
 exact (hs _ h1).op hA
theorem n6 {kd:Nat} {a:AV} (h:oW P kt=some kd) (hk:wN kd a=true) :
  ∃d,P.underlying kt=some d/\((∃k,d=.int k)\/d=.string)/\(∀k,d=.int k->∃kk n,a=.int kk n)/\(d=.string->∃s,a=.str s):=by
 unfold oW at h
 split at h
 ·rename_i k hu
  injection h with h; subst h
  refine ⟨_,hu,.inl ⟨k,rfl⟩,fun _ _=>?_,fun h=>by cases h⟩
  cases a <;> simp [wN] at hk
  exact ⟨_,_,rfl⟩
 ·rename_i hu
  injection h with h; subst h
  refine ⟨_,hu,.inr rfl,fun k h=>(by cases h),fun _=>?_⟩
  cases a <;> simp [wN] at hk
  exact ⟨_,rfl⟩
 ·cases h
theorem zq {o:Oper} {m:MOp} {r:AV} {A':ac} (hcst:∀v,ρc (.const v)=v) (hρ:∀a,ρ (.cst a)=a) (hx:∀x y,cx x=some y->aW w OK g (ρc x) (ρ y)) (hA:cq w OK g A) (hc:bW P fz cx o.op=some m) (he:dA ρ A m=some (r,A')) :
  fm P w OK g ((execOp ρc o).run P w) r A':=by
 obtain ⟨dst,op,type,pos,after,guard⟩:=o
 cases op with
 | move x | assign x=>
  simp only [bW,RP,RG,Rz] at hc
  obtain ⟨y,h1,rfl⟩:=hc
  simp only [dA,Rz,RQ] at he
  obtain ⟨rfl,rfl⟩:=he
  exact fm.val (hx _ _ h1) hA
 | pick c a b=>
  simp only [bW,RP,RG,Rz] at hc
  obtain ⟨c',h1,a',h2,b',h3,rfl⟩:=hc
  simp only [dA] at he
  split at he
  ·rename_i t ht
   simp only [Rz,RQ] at he
   obtain ⟨rfl,rfl⟩:=he
   have hcv:=hx _ _ h1
   rw [ht] at hcv
   have e:=hcv.inv_bool
   simp only [execOp,e,asBool,Sem.run_bind,Sem.run_pure,Result.andThen_ok]
   cases t
   ·exact fm.val (hx _ _ h3) hA
   ·exact fm.val (hx _ _ h2) hA
  ·cases he
 | binOp op t x y yt=>
  simp only [bW] at hc
  have bin:∀x' y',cx x=some x'->cx y=some y'->m=.bin op x' y'->fm P w OK g ((execOp ρc ⟨dst,.binOp op t x y yt,type,pos,after,guard⟩).run P w) r A':=by
   rintro x' y' h1 h2 rfl
   exact bN hA he (fun r h=>w4 (hx _ _ h1) (hx _ _ h2) h)
  split at hc
  ·simp only [RP,RG,Rz] at hc
   obtain ⟨x',h1,y',h2,rfl⟩:=hc
   exact bin _ _ h1 h2 rfl
  ·simp only [RP,RG,Rz] at hc
   obtain ⟨x',h1,y',h2,rfl⟩:=hc
   exact bin _ _ h1 h2 rfl
  ·rename_i ht
   split at hc
   ·simp only [RP,RG,Rz] at hc
    obtain ⟨x',h1,y',h2,rfl⟩:=hc
    exact bN hA he (fun r h=>ku ht (hx _ _ h1) (hx _ _ h2) h)
   ·simp only [RP,RG,Rz] at hc
    obtain ⟨x',h1,y',h2,rfl⟩:=hc
    exact bN hA he (fun r h=>ku ht (hx _ _ h1) (hx _ _ h2) h)
   ·cases hc
  ·split at hc
   ·simp only [RP,RG,Rz] at hc
    obtain ⟨l,hl,x',h1,y',h2,rfl⟩:=hc
    exact bN hA he (fun r h=>mF (neg:=false) hl (hx _ _ h1) (hx _ _ h2) h)
   ·simp only [RP,RG,Rz] at hc
    obtain ⟨l,hl,x',h1,y',h2,rfl⟩:=hc
    exact bN hA he (fun r h=>mF (neg:=true) hl (hx _ _ h1) (hx _ _ h2) h)
   ·cases hc
  ·rename_i d h1 h2 h3 h4 ht
   have fin:∀(neg:Bool) v,y=.const v->op=(if neg then .neq else .eql)->(if dF (hJ d) v then do some (.eqNil (hJ d) neg (<-cx x)) else none)=some m->fm P w OK g ((execOp ρc ⟨dst,.binOp op t x y yt,type,pos,after,guard⟩).run P w) r A':=by
    rintro neg v rfl rfl hc
    simp only [RP,RG,Ry,Rz] at hc
    obtain ⟨hn,x',h1,rfl⟩:=hc
    simp only [dA,RJ,RQ] at he
    obtain ⟨b,hb,rfl,rfl⟩:=he
    have hk:ρc (.const v)=v:=hcst v
    have:=ve (neg:=neg) (x:=x) ht hn (hx _ _ h1) hb
    refine bR.op ⟨_,?_,.bool _ _⟩ hA
    rw [hk]; exact this
   split at hc
   ·exact fin false _ rfl rfl hc
   ·exact fin true _ rfl rfl hc
   ·cases hc
  ·cases hc
 | unOp op t x=>
  simp only [bW,RP,RG,Rz] at hc
  obtain ⟨y,h1,rfl⟩:=hc
  exact bN hA he (fun r h=>zp (hx _ _ h1) h)
 | convert s t x=>
  simp only [bW] at hc
  split at hc
  ·rename_i k1 k hs ht
   simp only [RP,RG,Rz] at hc
   obtain ⟨y,h1,rfl⟩:=hc
   exact bN hA he (fun r h=>qE hs ht (hx _ _ h1) h)
  ·rename_i hs ht
   simp only [RP,RG,Rz] at hc
   obtain ⟨y,h1,rfl⟩:=hc
   simp only [dA] at he
   split at he
   ·rename_i l hl
    simp only [Rz,RQ] at he
    obtain ⟨rfl,rfl⟩:=he
    have:=hx _ _ h1
    rw [hl] at this
    obtain ⟨s',e,hs'⟩:=this.inv_str
    refine ⟨.string s',w,OK,g,.inl ?_,.str _ _ _ hs',hA,Ext.refl _ _ _⟩
    simp [execOp,e,convert,ak hs,ak ht]
   ·cases he
  ·rename_i e hs ht
   split at hc
   ·rename_i he'
    simp only [RP,RG,Rz] at hc
    obtain ⟨y,h1,rfl⟩:=hc
    exact (qx hs ht he' hA (hx _ _ h1) he).op
   ·cases hc
  ·rename_i e hs ht
   split at hc
   ·rename_i he'
    simp only [RP,RG,Rz] at hc
    obtain ⟨y,h1,rfl⟩:=hc
    exact bN hA he (fun r h=>tN hs he' ht hA (hx _ _ h1) h)
   ·cases hc
  ·cases hc
 | alloc t=>
  simp only [bW,RP,RG] at hc
  obtain ⟨i,hi,z,hz,hc⟩:=hc
  split at hc
  ·rename_i vs _ _
   simp only [RG,Rz] at hc
   obtain ⟨zs,hzs,rfl⟩:=hc
   obtain ⟨k1,k2⟩:=kz (w:=w) (OK:=OK) (g:=g) hzs
   exact (rB hi hz (by simpa using k1) (fun k h1 h2=>by have:=k2 k (by simpa using h1) h2; rwa [TL] at this) hA he).op
  ·simp only [RG,Rz] at hc
   obtain ⟨za,hza,rfl⟩:=hc
   exact (tS hi hz hA (dU hza) he).op
 | box t x=>
  simp only [bW,RP,RG,Rz] at hc
  obtain ⟨y,h1,rfl⟩:=hc
  exact (qG hA (hx _ _ h1) he).op
 | build t parts=>
  simp only [bW] at hc
  split at hc
  ·rename_i fields ht
   simp only [RP,RG,Rz] at hc
   obtain ⟨i,hi,z,hz,zs,hzs,places,hpl,ps,hps,rfl⟩:=hc
   simp only [dA,RJ,RQ] at he
   obtain ⟨l,hl,rfl,rfl⟩:=he
   refine (kM ht hi hz (fq hzs) places.toArray (fun w=>oz hpl w) ?_ hl).op hA
   have:=kO hx hps
   simpa using this
  ·rename_i n e ht
   simp only [RP,RG,Rz] at hc
   obtain ⟨i,hi,ie,hie,z,hz,zs,hzs,ps,hps,rfl⟩:=hc
   simp only [dA,RJ,RQ] at he
   obtain ⟨l,hl,rfl,rfl⟩:=he
   refine (oJ ht hi hz hie (fq hzs) ?_ hl).op hA
   have:=kO hx hps
   simpa using this
  ·cases hc
 | buildSlice t n parts=>
  simp only [bW] at hc
  split at hc
  ·rename_i e ht
   simp only [RP,RG,Ry,Rz] at hc
   obtain ⟨ie,hie,z,hz,xs,hxs,hn,rfl⟩:=hc
   obtain ⟨vs,h1,h2,h3⟩:=vi hx hxs
   have:fm P w OK g ((do pure (.value (<-Instr.buildSlice t vs.length ((vs.zipIdx.map fun x=>(x.2,x.1)).toArray))):Sem Next).run P w) r A':=by
    cases fz
    ·exact (mG ht hie hz hA h2 he).op
    ·simp only [SX,dA,RJ,RQ] at he
     obtain ⟨r',he,rfl,rfl⟩:=he
     exact (rz ht hie hz hA h2 he).op
   have e1:(parts.map fun x=>(x.1,ρc x.2))=((vs.zipIdx.map fun x=>(x.2,x.1)).toArray):=by
    apply Array.ext'
    simpa using h1
   rw [<-e1,show vs.length=n by omega] at this
   exact this
  ·cases hc
 | load t p=>
  simp only [bW,RP,RG,Rz] at hc
  obtain ⟨i,hi,b,hb,y,h1,rfl⟩:=hc
  exact bN hA he (fun r h=>od hi hb hA (hx _ _ h1) h)
 | store t p v=>
  simp only [bW,RP,RG,Rz] at hc
  obtain ⟨i,hi,y,h1,z,h2,rfl⟩:=hc
  split at he
  ·simp only [dA,RJ,RQ] at he
   obtain ⟨A1,hst,rfl,rfl⟩:=he
   obtain ⟨w',q1,q2,q3⟩:=rh (P:=P) hi hA (hx _ _ h1) (hx _ _ h2) hst
   exact ⟨undef,w',OK,g,.inr ⟨by simp [execOp,q1],rfl⟩,.undef _ _,q2,q3⟩
  ·simp only [dA,RJ,RQ] at he
   obtain ⟨A1,hst,rfl,rfl⟩:=he
   obtain ⟨w',q1,q2,q3⟩:=mA (P:=P) hi hA (hx _ _ h1) (hx _ _ h2) hst
   exact ⟨undef,w',OK,g,.inr ⟨by simp [execOp,q1],rfl⟩,.undef _ _,q2,q3⟩
 | nilCheck x=>
  simp only [bW,RP,RG,Rz] at hc
  obtain ⟨y,h1,rfl⟩:=hc
  simp only [dA,RJ,RQ] at he
  obtain ⟨r',h2,rfl,rfl⟩:=he
  have hv:=hx _ _ h1
  unfold jL at h2
  split at h2
  ·rename_i id i o hy
   rw [hy] at hv
   injection h2 with h2; subst h2
   obtain ⟨inc,hinc,e,_⟩:=hv.inv_ptr
   simp only [execOp,e]
   rw [e] at hv
   exact fm.val hv hA
  ·rename_i cs hy
   rw [hy] at hv
   injection h2 with h2; subst h2
   obtain ⟨b,o,T,c,fz,vals,e,_⟩:=hv.inv_fp
   simp only [execOp,e]
   rw [e] at hv
   exact fm.val hv hA
  ·cases h2
 | fieldAddr s x k=>
  simp only [bW] at hc
  split at hc
  ·rename_i fields hs
   simp only [RP,RG,Ry,Rz] at hc
   obtain ⟨f,hf,i,hi,hz,y,h1,rfl⟩:=hc
   exact bN hA he (fun r h=>ne hs hf hi hz hA (hx _ _ h1) h)
  ·cases hc
 | field s x k=>
  simp only [bW] at hc
  split at hc
  ·rename_i fields hs
   simp only [RP,RG,Rz] at hc
   obtain ⟨f,hf,i,hi,b,hb,y,h1,rfl⟩:=hc
   exact bN hA he (fun r h=>tQ hs hf hi hb (hx _ _ h1) h)
  ·cases hc
 | indexAddr t x k=>
  simp only [bW] at hc
  split at hc
  ·rename_i e ht
   simp only [RP,RG,Rz] at hc
   obtain ⟨i,hi,y,h1,z,h2,rfl⟩:=hc
   exact bN hA he (fun r h=>qB ht hi hA (hx _ _ h1) (hx _ _ h2) h)
  ·rename_i n e ht
   simp only [RP,RG,Rz] at hc
   obtain ⟨i,hi,y,h1,z,h2,rfl⟩:=hc
   exact bN hA he (fun r h=>oH ht hi hA (hx _ _ h1) (hx _ _ h2) h)
  ·cases hc
 | index t x k=>
  simp only [bW] at hc
  split at hc
  ·rename_i ht
   simp only [RP,RG,Rz] at hc
   obtain ⟨y,h1,z,h2,rfl⟩:=hc
   exact bN hA he (fun r h=>oG ht (hx _ _ h1) (hx _ _ h2) h)
  ·rename_i n e ht
   simp only [RP,RG,Rz] at hc
   obtain ⟨i,hi,b,hb,y,h1,z,h2,rfl⟩:=hc
   exact bN hA he (fun r h=>oD ht hi hb (hx _ _ h1) (hx _ _ h2) h)
  ·cases hc
 | slice t x lo hi' mx=>
  cases mx with
  | some m'=>
   cases hi' with
   | none=>simp [bW] at hc
   | some hh=>
    simp only [bW] at hc
    split at hc
    ·rename_i e ht
     simp only [RP,RG,Rz] at hc
     obtain ⟨i,hi,y,h1,l,h2,h',h3,m2,h4,rfl⟩:=hc
     refine bN hA he (fun r h=>?_)
     have:=rk (P:=P) ht hi hA (hx _ _ h1) (kN hx h2) (hx _ _ h3) (hx _ _ h4) h
     simpa [Instr.sliceAt,bR,ak ht] using this
    ·cases hc
  | none=>
   simp only [bW] at hc
   split at hc
   ·rename_i ht
    simp only [RP,RG,Rz] at hc
    obtain ⟨y,h1,l,h2,h',h3,rfl⟩:=hc
    refine bN hA he (fun r h=>?_)
    have:=oA (P:=P) ht (hx _ _ h1) (kN hx h2) (kN hx h3) h
    simpa [Instr.sliceAt,bR,ak ht] using this
   ·rename_i e ht
    simp only [RP,RG,Rz] at hc
    obtain ⟨i,hi,y,h1,l,h2,h',h3,rfl⟩:=hc
    refine bN hA he (fun r h=>?_)
    have:=qy (P:=P) ht hi hA (hx _ _ h1) (kN hx h2) (kN hx h3) h
    simpa [Instr.sliceAt,bR,ak ht] using this
   ·rename_i n e ht
    simp only [RP,RG,Rz] at hc
    obtain ⟨i,hi,y,h1,l,h2,h',h3,rfl⟩:=hc
    exact bN hA he (fun r h=>oB (P:=P) ht hi hA (hx _ _ h1) (kN hx h2) (kN hx h3) h)
   ·cases hc
 | makeSlice t l c=>
  simp only [bW] at hc
  split at hc
  ·rename_i e ht
   simp only [RP,RG,Ry,Rz] at hc
   obtain ⟨i,hi,z,hz,za,hza,hzs,y,h1,u,h2,rfl⟩:=hc
   exact (uY ht hi hz hzs hA (dU hza) (hx _ _ h1) (hx _ _ h2) he).op
  ·cases hc
 | makeFunc fn first cap=>
  simp only [bW,RP,RG,Rz] at hc
  obtain ⟨f',h1,c',h2,rfl⟩:=hc
  simp only [dA,Rz,RQ] at he
  obtain ⟨rfl,rfl⟩:=he
  have r1:=nj hx h1
  have r2:=nj hx h2
  have l1:=r1.length
  have l2:=r2.length
  simp only [RN,Sf] at l1 l2
  have hv:aW w OK g (.func fn (first.map ρc) (cap.map ρc)) (.func fn (f'.map ρ) (c'.map ρ)):=by
   refine .func _ fn _ _ _ _ (by simp [l1]) (by simp [l2]) (fun i=>((first.map ρc)[i]?).getD undef) (fun i=>((cap.map ρc)[i]?).getD undef) (fun i hi=>?_) (fun i hi=>?_) (fun i hi=>?_) (fun i hi=>?_)
   ·simp at hi; simp [show i<first.size by omega]
   ·simp at hi; simp [show i<cap.size by omega]
   ·simp at hi
    have:=r1.get i (by simp; omega) (by simp; omega)
    simpa [show i<first.size by omega] using this
   ·simp at hi
    have:=r2.get i (by simp; omega) (by simp; omega)
    simpa [show i<cap.size by omega] using this
  exact ⟨_,w,OK,g,.inl (by simp [execOp,Instr.makeFunc]),hv,hA,Ext.refl _ _ _⟩
 | extract x k=>
  simp only [bW,RP,RG,Rz] at hc
  obtain ⟨y,h1,rfl⟩:=hc
  exact bN hA he (fun r h=>qD (hx _ _ h1) h)
 | makeMap t rs=>
  cases rs with
  | some x=>simp [bW] at hc
  | none=>
   simp only [bW,Rz] at hc
   subst hc
   simp only [dA,Rz] at he
   have:=(qA (P:=P) (t:=t) hA).op
   rw [he] at this
   exact this
 | lookup t mm k ok=>
  simp only [bW] at hc
  split at hc
  ·rename_i kt et ht
   simp only [RP,RG,Rz] at hc
   obtain ⟨kd,hkd,i,hi,z,hz,za,hza,m',h1,k',h2,rfl⟩:=hc
   simp only [dA,Ry] at he
   obtain ⟨hkey,he⟩:=he
   obtain ⟨d,hd,hdk,hdi,hds⟩:=n6 hkd hkey
   exact bN hA he (fun r h=>rp ht hd hdk hi hz (dU hza) hdi hds hA (hx _ _ h1) (hx _ _ h2) h)
  ·cases hc
 | mapUpdate t mm k vv=>
  simp only [bW] at hc
  split at hc
  ·rename_i kt et ht
   simp only [RP,RG,Rz] at hc
   obtain ⟨kd,hkd,m',h1,k',h2,v',h3,rfl⟩:=hc
   simp only [dA,Ry,RJ,RQ] at he
   obtain ⟨hkey,A1,hst,rfl,rfl⟩:=he
   obtain ⟨d,hd,hdk,hdi,hds⟩:=n6 hkd hkey
   obtain ⟨w',q1,q2,q3⟩:=m9 (P:=P) ht hd hdk hdi hds hA (hx _ _ h1) (hx _ _ h2) (hx _ _ h3) hst
   exact ⟨undef,w',OK,g,.inr ⟨by simp [execOp,q1],rfl⟩,.undef _ _,q2,q3⟩
  ·cases hc
 | call c=>
  simp only [bW] at hc
  obtain ⟨callee,args,argTypes⟩:=c
  simp only at hc
  split at hc
  ·
   split at hc
   ·rename_i t x
    have step:∀(m':MOp) (r:AV) (A'':ac),fm P w OK g ((do pure (.value (<-Builtin.len_ #[t] type #[ρc x])):Sem Next).run P w) r A''->fm P w OK g ((execOp ρc ⟨dst,.call ⟨.builtin .len,⟨[x]⟩,⟨[t]⟩⟩,type,pos,after,guard⟩).run P w) r A'':=by
     intro _ r A'' h
     simpa [execOp,resolve,invoke,builtin] using h
    refine step m r A' ?_
    split at hc
    ·rename_i ht
     simp only [RP,RG,Rz] at hc
     obtain ⟨y,h1,rfl⟩:=hc
     exact bN hA he (fun r h=>rr ht (hx _ _ h1) h)
    ·rename_i e ht
     simp only [RP,RG,Rz] at hc
     obtain ⟨y,h1,rfl⟩:=hc
     exact bN hA he (fun r h=>tP ht (hx _ _ h1) h)
    ·rename_i k e ht
     simp only [RP,RG,Rz] at hc
     obtain ⟨y,h1,rfl⟩:=hc
     exact bN hA he (fun r h=>rt ht hA (hx _ _ h1) h)
    ·rename_i n e ht
     injection hc with hc; subst hc
     simp only [dA,Rz,RQ] at he
     obtain ⟨rfl,rfl⟩:=he
     have:(Builtin.len_ #[t] type #[ρc x]).run P w=.ok (.int .i64 n) w:=by simp [Builtin.len_,ak ht,goInt]
     exact bR.op ⟨.int .i64 n,this,by rw [hρ]; exact .int _ _ _⟩ hA
    ·cases hc
   ·cases hc
  ·
   split at hc
   ·rename_i x r'
    simp only [RP,RG,Rz] at hc
    obtain ⟨y,h1,l,h2,rfl⟩:=hc
    have hl:=nj hx h2
    have:=bN (s:=(r'.map ρc).foldlM (if false then Builtin.max2 else Builtin.min2) (ρc x)) hA he (fun r h=>by
     obtain ⟨u,u1,u2⟩:=jk (P:=P) (isMax:=false) (r'.map ρc) (l.map ρ) (ρc x) (ρ y) r hl.length (fun i h h'=>hl.get i h' h) (hx _ _ h1) h
     exact ⟨u,u1,u2⟩)
    simpa [execOp,resolve,invoke,builtin,Builtin.min_] using this
   ·cases hc
  ·
   split at hc
   ·rename_i x r'
    simp only [RP,RG,Rz] at hc
    obtain ⟨y,h1,l,h2,rfl⟩:=hc
    have hl:=nj hx h2
    have:=bN (s:=(r'.map ρc).foldlM (if true then Builtin.max2 else Builtin.min2) (ρc x)) hA he (fun r h=>by
     obtain ⟨u,u1,u2⟩:=jk (P:=P) (isMax:=true) (r'.map ρc) (l.map ρ) (ρc x) (ρ y) r hl.length (fun i h h'=>hl.get i h' h) (hx _ _ h1) h
     exact ⟨u,u1,u2⟩)
    simpa [execOp,resolve,invoke,builtin,Builtin.max_] using this
   ·cases hc
  ·
   split at hc
   ·rename_i t xt s' x
    split at hc
    ·rename_i e ht
     simp only [RP,RG,Ry,Rz] at hc
     obtain ⟨i,hi,z,hz,d,hd,⟨hzs,hdd⟩,y1,h1,y2,h2,rfl⟩:=hc
     have hxt:(∃e',P.underlying xt=some (.slice e'))\/P.underlying xt=some .string:=by
      cases d <;> simp at hdd
      ·exact .inr hd
      ·exact .inl ⟨_,hd⟩
     split at he
     ·have:=(qH (ty:=type) ht hxt hi hz hzs hA (hx _ _ h1) (hx _ _ h2) he).op
      simpa [execOp,resolve,invoke,builtin] using this
     ·have:=(rA (ty:=type) ht hxt hi hz hzs hA (hx _ _ h1) (hx _ _ h2) he).op
      simpa [execOp,resolve,invoke,builtin] using this
    ·cases hc
   ·cases hc
  ·
   split at hc
   ·rename_i t x
    split at hc
    ·rename_i e ht
     simp only [RP,RG,Ry,Rz] at hc
     obtain ⟨i,hi,z,hz,za,hza,hzs,y1,h1,rfl⟩:=hc
     have:=(tR (ty:=type) ht hi hz hzs hA (dU hza) (hx _ _ h1) he).op
     simpa [execOp,resolve,invoke,builtin] using this
    ·cases hc
   ·cases hc
  ·
   split at hc
   ·rename_i t xt d s'
    split at hc
    ·rename_i e ht
     simp only [RP,RG,Rz] at hc
     obtain ⟨i,hi,y1,h1,y2,h2,rfl⟩:=hc
     have:=(u9 (ty:=type) (t2:=xt) ht hi hA (hx _ _ h1) (hx _ _ h2) he).op
     simpa [execOp,resolve,invoke,builtin] using this
    ·cases hc
   ·cases hc
  ·simp only [RP,RG,Rz] at hc
   obtain ⟨f',h1,l,h2,rfl⟩:=hc
   cases he
  ·cases hc
 | _=>simp [bW] at hc
end
structure MO where
 dst:Option Nat
 op:MOp
 guard:Option (MX × Bool)
abbrev MO.a (x:Nat):MO:=⟨none,.mv (.var x),none⟩
abbrev MO.b (x y:Nat):MO:=⟨none,.load false x (.tmp y),none⟩
abbrev MO.c (x y:Nat):MO:=⟨some x,.mv (.tmp y),none⟩
abbrev MO.d (x y:Nat):MO:=⟨none,.fieldAddr x (.var y),none⟩
abbrev MO.e (x y z:Nat):MO:=⟨none,.indexSl x (.tmp y) (.tmp z),none⟩
abbrev MO.f (x:Nat) (y:Int):MO:=⟨some x,.mv (.cst (.int .i64 y)),none⟩
abbrev MO.g (x:Nat):MO:=⟨some x,.mv (.cst (.bool false)),none⟩
abbrev MO.h (x:Nat):MO:=⟨none,.mv (.tmp x),none⟩
abbrev MO.i (x:Nat) (y:Int):MO:=⟨none,.bin .add (.tmp x) (.cst (.int .i64 y)),none⟩
abbrev MO.j (x y:Nat):MO:=⟨none,.extract (.tmp x) y,none⟩
abbrev MO.k (x y:Nat):MO:=⟨none,.mv (.var x),some (.tmp y,true)⟩
abbrev MO.l (x y:Nat):MO:=⟨none,.load true x (.var y),none⟩
abbrev MO.m (x y:Nat):MO:=⟨none,.fieldAddr x (.tmp y),none⟩
abbrev MO.n (x y:Nat):MO:=⟨none,.mv (.var x),some (.tmp y,false)⟩
abbrev MO.o (x y:Nat):MO:=⟨none,.bin .add (.tmp x) (.tmp y),none⟩
abbrev MO.p (x y:Nat):MO:=⟨none,.pick (.tmp x) (.tmp y) (.cst (.bool false)),none⟩
abbrev MO.q (x y z:Nat):MO:=⟨none,.load false x (.tmp y),some (.tmp z,false)⟩
abbrev MO.r (x y z:Nat):MO:=⟨none,.store x (.var y) (.tmp z),none⟩
abbrev MO.s (x:Nat) (y:Int):MO:=⟨none,.bin .sub (.tmp x) (.cst (.int .i64 y)),none⟩
abbrev MO.t (x y:Nat):MO:=⟨none,.load false x (.var y),none⟩
abbrev MO.u (x:Nat) (y:Int):MO:=⟨none,.bin .add (.var x) (.cst (.int .i64 y)),none⟩
abbrev MO.v (x:Nat):MO:=⟨none,.lenSl (.tmp x),none⟩
abbrev MO.w (x:Nat):MO:=⟨some x,.mv (.cst .nilS),none⟩
abbrev MO.x (x y z:Nat):MO:=⟨none,.load false x (.tmp y),some (.tmp z,true)⟩
abbrev MO.y (x y z:Nat):MO:=⟨none,.fieldAddr x (.var y),some (.tmp z,false)⟩
abbrev MO.z (x y:Nat):MO:=⟨some x,.alloc y (.agg [.int .i64 0,.int .i64 0,.int .i64 0,.int .i64 0,.int .i64 0,.int .i64 0]),none⟩
abbrev MO.A (x y z:Nat):MO:=⟨none,.store x (.tmp y) (.tmp z),none⟩
abbrev MO.B (x y z:Nat):MO:=⟨some x,.bin .lss (.var y) (.var z),none⟩
abbrev MO.C (x y z:Nat):MO:=⟨some x,.pick (.tmp y) (.cst (.bool true)) (.tmp z),none⟩
abbrev MO.D (x y:Nat):MO:=⟨some x,.box (.var y),none⟩
abbrev MO.E (x:FuncId) (y z:Nat):MO:=⟨none,.call (.fn x) [.tmp y,.tmp z],none⟩
abbrev MO.F (x y z:Nat):MO:=⟨some x,.bin .lss (.tmp y) (.tmp z),none⟩
abbrev MO.G (x y:Nat):MO:=⟨none,.pick (.tmp x) (.cst (.bool true)) (.tmp y),none⟩
abbrev MO.H (x y:Nat):MO:=⟨none,.un .not (.tmp x),some (.tmp y,false)⟩
abbrev MO.I (x:Nat):MO:=⟨some x,.mv (.cst (.bool true)),none⟩
abbrev MO.J (x:FuncId) (y:Nat):MO:=⟨none,.call (.fn x) [.tmp y],none⟩
abbrev MO.K (x y:Nat):MO:=⟨none,.load true x (.tmp y),none⟩
abbrev MO.L (x y z u:Nat):MO:=⟨none,.indexSl x (.tmp y) (.tmp z),some (.tmp u,true)⟩
abbrev MO.M (x y z:Nat):MO:=⟨none,.indexSl x (.var y) (.var z),none⟩
abbrev MO.N (x y:Nat):MO:=⟨some x,.alloc y (.agg [.nilS,.int .i64 0,.int .i64 0,.int .i64 0,.int .i64 0]),none⟩
abbrev MO.O (x y z:Nat):MO:=⟨none,.fieldAddr x (.var y),some (.tmp z,true)⟩
abbrev MO.P (x:FuncId) (y z u:Nat):MO:=⟨none,.call (.fn x) [.tmp y,.tmp z,.tmp u],none⟩
abbrev MO.Q (x:FuncId) (y z u v:Nat):MO:=⟨none,.call (.fn x) [.tmp y,.tmp z,.tmp u,.tmp v],none⟩
abbrev MO.R (x:Nat):MO:=⟨none,.nilCheck (.tmp x),none⟩
abbrev MO.S (x y z:Nat):MO:=⟨none,.build [.int .i64 0,.int .i64 0,.int .i64 0,.int .i64 0] [(0,(1,.tmp x)),(1,(1,.tmp y)),(2,(1,.tmp z))],none⟩
abbrev MO.T (x:Nat) (y:Int) (z:Nat):MO:=⟨none,.bin .eql (.tmp x) (.cst (.int .i64 y)),some (.tmp z,true)⟩
abbrev MO.U (x y z u:Nat):MO:=⟨none,.indexSl x (.tmp y) (.tmp z),some (.tmp u,false)⟩
abbrev MO.V (x y:Nat):MO:=⟨some x,.un .not (.tmp y),none⟩
abbrev MO.W (x:Nat):MO:=⟨none,.un .not (.tmp x),none⟩
abbrev MO.X (x:Nat) (y:Int):MO:=⟨none,.bin .geq (.tmp x) (.cst (.int .i64 y)),none⟩
abbrev MO.Y (x:Nat) (y:Int) (z:Nat):MO:=⟨none,.bin .gtr (.tmp x) (.cst (.int .i64 y)),some (.tmp z,false)⟩
abbrev MO.Z (x y z:Nat):MO:=⟨some x,.pick (.tmp y) (.tmp z) (.cst (.bool false)),none⟩
abbrev MO.aa (x y:Nat):MO:=⟨none,.lenSl (.tmp x),some (.tmp y,true)⟩
abbrev MO.ab (x y:Nat):MO:=⟨some x,.lenSl (.var y),none⟩
abbrev MO.ac (x y:Nat) (z:Int):MO:=⟨some x,.bin .lss (.tmp y) (.cst (.int .i64 z)),none⟩
abbrev MO.ad (x y:Nat) (z:Int):MO:=⟨some x,.bin .geq (.tmp y) (.cst (.int .i64 z)),none⟩
abbrev MO.ae (x y:Nat) (z:Int):MO:=⟨some x,.bin .gtr (.tmp y) (.cst (.int .i64 z)),none⟩
abbrev MO.af (x:Nat) (y:Int):MO:=⟨none,.bin .lss (.tmp x) (.cst (.int .i64 y)),none⟩
abbrev MO.ag (x y z:Nat):MO:=⟨none,.append x 16 (.tmp y) (.tmp z),none⟩
abbrev MO.ah (x y:Nat):MO:=⟨some x,.alloc y (.agg [.int .i64 0,.int .i64 0]),none⟩
abbrev MO.ai (x y:Nat):MO:=⟨some x,.mv (.var y),none⟩
abbrev MO.aj (x y:Nat) (z:Int):MO:=⟨some x,.bin .eql (.tmp y) (.cst (.int .i64 z)),none⟩
abbrev MO.ak (x y z:Nat):MO:=⟨none,.fieldAddr x (.tmp y),some (.tmp z,true)⟩
abbrev MO.al (x y:Nat):MO:=⟨none,.makeSlice 1 8 (.int .i64 0) (.tmp x) (.tmp y),none⟩
abbrev MO.am (x:FuncId) (y z:Nat):MO:=⟨none,.call (.fn x) [.tmp y,.cst (.int .i64 0),.tmp z],none⟩
abbrev MO.an (x y z:Nat):MO:=⟨none,.sliceSl x (.tmp y) none (some (.tmp z)),none⟩
abbrev MO.ao (x:FuncId) (y z u v:Nat):MO:=⟨none,.call (.fn x) [.tmp y,.tmp z,.tmp u],some (.tmp v,false)⟩
abbrev MO.ap (x y:Nat):MO:=⟨none,.bin .sub (.tmp x) (.tmp y),none⟩
abbrev MO.aq (x y:Nat) (z:Int):MO:=⟨none,.store x (.tmp y) (.cst (.int .i64 z)),none⟩
abbrev MO.ar (x:FuncId) (y z u:Nat):MO:=⟨none,.call (.fn x) [.tmp y,.tmp z,.cst (.int .i64 1000000000)],some (.tmp u,false)⟩
abbrev MO.au (x:Nat) (y:Int) (z:Nat):MO:=⟨none,.bin .add (.tmp x) (.cst (.int .i64 y)),some (.tmp z,true)⟩
abbrev MO.av (x y z:Nat):MO:=⟨none,.bin .add (.tmp x) (.tmp y),some (.tmp z,false)⟩
abbrev MO.aw (x y z:Nat):MO:=⟨none,.bin .sub (.tmp x) (.tmp y),some (.tmp z,true)⟩
abbrev MO.ax (x y z:Nat):MO:=⟨none,.append x 8 (.tmp y) (.tmp z),none⟩
abbrev MO.ay (x y z:Nat):MO:=⟨some x,.bin .eql (.tmp y) (.tmp z),none⟩
abbrev MO.az (x y:Nat):MO:=⟨none,.call (.tmp x) [.tmp y],none⟩
abbrev MO.a0 (x:Nat):MO:=⟨none,.build [.int .i64 0,.int .i64 0,.int .i64 0,.int .i64 0] [(0,(1,.cst (.int .i64 0))),(1,(1,.cst (.int .i64 1))),(2,(1,.tmp x))],none⟩
abbrev MO.a1 (x y:Nat):MO:=⟨none,.un .not (.tmp x),some (.tmp y,true)⟩
abbrev MO.a2 (x y z:Nat):MO:=⟨none,.build [.int .i64 0,.int .i64 0,.int .i64 0,.int .i64 0,.int .i64 0,.int .i64 0] [(0,(4,.tmp x)),(4,(1,.tmp y)),(5,(1,.tmp z))],none⟩
abbrev MO.a3 (x y z:Nat):MO:=⟨none,.pick (.tmp x) (.tmp y) (.cst (.bool false)),some (.tmp z,false)⟩
abbrev MO.a4 (x y:Nat):MO:=⟨some x,.alloc y (.int .i64 0),none⟩
abbrev MO.a5:MO:=⟨none,.buildF 1 [.cst (.int .i64 40),.cst (.int .i64 30)],none⟩
abbrev MO.a6 (x y z:Nat):MO:=⟨some x,.bin .leq (.tmp y) (.tmp z),none⟩
abbrev MO.a7 (x y z u:Nat):MO:=⟨none,.build [.int .i64 0,.int .i64 0,.int .i64 0,.int .i64 0] [(0,(1,.tmp x)),(1,(1,.tmp y)),(2,(1,.tmp z)),(3,(1,.tmp u))],none⟩
abbrev MO.a8 (x:FuncId) (y z u:Nat):MO:=⟨none,.call (.fn x) [.tmp y,.tmp z,.cst (.int .i64 0),.tmp u],none⟩
abbrev MO.a9 (x:Nat) (y:Int) (z:Nat):MO:=⟨none,.bin .sub (.tmp x) (.cst (.int .i64 y)),some (.tmp z,true)⟩
abbrev MO.ba (x:FuncId) (y z u:Nat):MO:=⟨none,.call (.fn x) [.tmp y,.tmp z],some (.tmp u,true)⟩
abbrev MO.bb (x y z:Nat):MO:=⟨none,.bin .leq (.tmp x) (.tmp y),some (.tmp z,true)⟩
abbrev MO.bc (x y:Nat):MO:=⟨none,.lenSl (.tmp x),some (.tmp y,false)⟩
abbrev MO.bd (x y:Nat):MO:=⟨none,.minmax true (.tmp x) [.tmp y],none⟩
abbrev MO.be (x:Nat):MO:=⟨none,.build [.int .i64 0,.int .i64 0] [(0,(1,.cst (.int .i64 1))),(1,(1,.cst (.int .i64 10)))],some (.tmp x,true)⟩
abbrev MO.bf (x y:Nat):MO:=⟨some x,.alloc y (.agg [.int .i64 0,.int .i64 0,.int .i64 0,.int .i64 0]),none⟩
abbrev MO.bg (x y:Nat):MO:=⟨some x,.lenSl (.tmp y),none⟩
abbrev MO.bh (x y:Nat):MO:=⟨none,.build [.int .i64 0,.int .i64 0,.int .i64 0] [(0,(1,.tmp x)),(1,(1,.tmp y)),(2,(1,.cst (.int .i64 1)))],none⟩
abbrev MO.bi (x:FuncId) (y z:Nat):MO:=⟨none,.call (.fn x) [.tmp y,.tmp z,.cst (.int .i64 0),.cst (.int .i64 0)],none⟩
abbrev MO.bj (x y:Nat):MO:=⟨none,.build [.int .i64 0,.int .i64 0] [(0,(1,.tmp x)),(1,(1,.tmp y))],none⟩
abbrev MO.bk (x y z:Nat):MO:=⟨some x,.load false y (.tmp z),none⟩
abbrev MO.bl (x y z:Nat):MO:=⟨some x,.bin .gtr (.tmp y) (.tmp z),none⟩
abbrev MO.bm (x:FuncId) (y z u:Nat):MO:=⟨none,.call (.fn x) [.tmp y,.cst (.int .i64 0),.tmp z],some (.tmp u,false)⟩
abbrev MO.bn (x:Nat):MO:=⟨none,.un .neg (.tmp x),none⟩
abbrev MO.bo (x y z:Nat):MO:=⟨none,.pick (.tmp x) (.cst (.bool true)) (.tmp y),some (.tmp z,true)⟩
abbrev MO.bp (x y:Nat):MO:=⟨some x,.alloc y (.agg [.int .i64 0,.int .i64 0,.int .i64 0]),none⟩
abbrev MO.bq:MO:=⟨none,.buildF 1 [.cst (.int .i64 10),.cst (.int .i64 40)],none⟩
abbrev MO.br (x y z:Nat):MO:=⟨none,.bin .eql (.tmp x) (.tmp y),some (.tmp z,true)⟩
abbrev MO.bs (x:Nat) (y:Int):MO:=⟨none,.bin .eql (.tmp x) (.cst (.int .i64 y)),none⟩
abbrev MO.bt (x y z:Nat):MO:=⟨none,.sliceSl x (.tmp y) (some (.tmp z)) none,none⟩
abbrev MO.bu (x y z:Nat):MO:=⟨none,.mapUpdate 1 (.tmp x) (.tmp y) (.tmp z),none⟩
abbrev MO.bv (x:Nat) (y:Int) (z:Nat):MO:=⟨none,.bin .lss (.tmp x) (.cst (.int .i64 y)),some (.tmp z,false)⟩
abbrev MO.bw (x:Nat) (y:Int) (z:Nat):MO:=⟨none,.bin .gtr (.tmp x) (.cst (.int .i64 y)),some (.tmp z,true)⟩
abbrev MO.bx (x:FuncId) (y z u:Nat):MO:=⟨none,.call (.fn x) [.tmp y,.tmp z,.tmp u,.cst (.int .i64 0)],none⟩
abbrev MO.bz (x y z:Nat):MO:=⟨some x,.bin .neq (.tmp y) (.tmp z),none⟩
abbrev MO.b0 (x:FuncId) (y z:Nat):MO:=⟨none,.call (.fn x) [.tmp y,.cst (.int .i64 0),.cst (.int .i64 2000000)],some (.tmp z,false)⟩
abbrev MO.b1 (x y z:Nat):MO:=⟨none,.load false x (.var y),some (.tmp z,false)⟩
abbrev MO.b2 (x y:Nat):MO:=⟨some x,.alloc y (.agg [.int .i64 0,.nilS,.nilS,.nilS]),none⟩
abbrev MO.b3 (x y z:Nat):MO:=⟨none,.load true x (.var y),some (.tmp z,false)⟩
abbrev MO.b4 (x y z:Nat):MO:=⟨none,.fieldAddr x (.tmp y),some (.tmp z,false)⟩
abbrev MO.b5 (x y:Nat):MO:=⟨none,.makeSlice 1 1 (.bool false) (.tmp x) (.tmp y),none⟩
abbrev MO.b6 (x:Nat):MO:=⟨none,.buildSlice 1 [.tmp x],none⟩
abbrev MO.b7 (x y z:Nat):MO:=⟨some x,.call (.tmp y) [.tmp z],none⟩
abbrev MO.b8 (x y:Nat):MO:=⟨some x,.alloc y (.agg [.int .i64 0,.bool false]),none⟩
abbrev MO.b9 (x:Nat) (y:Int):MO:=⟨none,.indexArr 2 1 (.tmp x) (.cst (.int .i64 y)),none⟩
abbrev MO.ca (x:Nat) (y:Int):MO:=⟨none,.indexArr 3 1 (.var x) (.cst (.int .i64 y)),none⟩
abbrev MO.cb (x y z:Nat):MO:=⟨none,.eqBool true (.tmp x) (.tmp y),some (.tmp z,false)⟩
abbrev MO.cc (x:FuncId) (y:Nat):MO:=⟨none,.call (.fn x) [.tmp y,.cst (.int .i64 (-1)),.cst (.int .i64 500000)],none⟩
abbrev MO.cd (x y z:Nat):MO:=⟨some x,.load false y (.var z),none⟩
abbrev MO.ce (x y:Nat):MO:=⟨none,.makeSlice 2 16 (.agg [.int .i64 0,.bool false]) (.tmp x) (.tmp y),none⟩
abbrev MO.cf (x y z:Nat):MO:=⟨none,.append x 48 (.tmp y) (.tmp z),none⟩
abbrev MO.cg (x y z:Nat):MO:=⟨none,.call (.tmp x) [.tmp y,.tmp z],none⟩
abbrev MO.ch (x y z:Nat):MO:=⟨none,.bin .neq (.tmp x) (.tmp y),some (.tmp z,false)⟩
abbrev MO.ci (x:FuncId) (y z u:Nat):MO:=⟨none,.call (.fn x) [.tmp y,.tmp z],some (.tmp u,false)⟩
abbrev MO.cj (x y z:Nat):MO:=⟨none,.bin .lss (.tmp x) (.tmp y),some (.tmp z,true)⟩
abbrev MO.ck (x y:Nat):MO:=⟨none,.bin .geq (.tmp x) (.tmp y),none⟩
abbrev MO.cl:MO:=⟨none,.buildSlice 1 [],none⟩
abbrev MO.cm (x y:Nat):MO:=⟨none,.mv (.tmp x),some (.tmp y,false)⟩
abbrev MO.cn (x:Nat):MO:=⟨none,.buildF 4 [.tmp x],none⟩
abbrev MO.co (x y:Nat):MO:=⟨none,.store x (.tmp y) (.cst (.bool false)),none⟩
abbrev MO.cp (x y:Nat) (z:Int):MO:=⟨none,.store x (.var y) (.cst (.int .i64 z)),none⟩
abbrev MO.cq (x y z:Nat):MO:=⟨none,.call (.tmp x) [.tmp y,.cst (.int .i64 10000)],some (.tmp z,true)⟩
abbrev MO.cr (x y z:Nat):MO:=⟨none,.store x (.var y) (.var z),none⟩
abbrev MO.cs (x y:Nat):MO:=⟨some x,.alloc y .nilS,none⟩
abbrev MO.ct (x:Nat):MO:=⟨none,.buildF 6 [.tmp x],none⟩
abbrev MO.cu (x:Nat):MO:=⟨none,.buildF 1 [.tmp x],none⟩
abbrev MO.cv (x:Nat):MO:=⟨none,.buildF 2 [.tmp x],none⟩
abbrev MO.cw (x y z:Nat):MO:=⟨none,.append x 24 (.tmp y) (.tmp z),none⟩
abbrev MO.cx (x y:Nat):MO:=⟨none,.bin .rem (.tmp x) (.tmp y),none⟩
abbrev MO.cy (x y:Nat):MO:=⟨none,.bin .mul (.tmp x) (.tmp y),none⟩
abbrev MO.cz (x y:Nat):MO:=⟨none,.bin .lss (.tmp x) (.tmp y),none⟩
abbrev MO.c0 (x y:Nat):MO:=⟨none,.mv (.tmp x),some (.tmp y,true)⟩
abbrev MO.c1 (x y:Nat):MO:=⟨some x,.eqNil 1 false (.tmp y),none⟩
abbrev MO.c2 (x y:Nat):MO:=⟨none,.buildF 4 [.tmp x,.tmp y],none⟩
abbrev MO.c3:MO:=⟨none,.buildSlice 2 [],none⟩
abbrev MO.qn (o:MOp):MO:=⟨none,o,none⟩
abbrev MO.qs (x:Nat) (o:MOp):MO:=⟨some x,o,none⟩
abbrev MO.qf (o:MOp) (x:Nat):MO:=⟨none,o,some (.tmp x,false)⟩
abbrev MO.qt (o:MOp) (x:Nat):MO:=⟨none,o,some (.tmp x,true)⟩
inductive MC where
 | skip
 | region (ops:List MO)
 | regionD (pu:List FuncId) (ops:List MO) (pairs:List (Nat × Nat))
 | seq (a b:MC)
 | cond (c:MX) (a b:MC)
 | block (id:Nat) (a:MC)
 | loop (mask:List Nat) (a:MC)
 | rangeFunc (f:MX) (ps:List Nat) (assign body:MC)
 | exit (id:Nat)
 | scope (a:MC)
 | kill (mask:List Nat)
 | ret
 | bad
inductive Out where
 | normal (σ:List AV) (A:ac)
 | exit (id:Nat) (σ:List AV) (A:ac)
 | ret (σ:List AV) (A:ac)
abbrev be:=AV->List AV->ac->Option (AV × ac)
structure Yld where
 id:Nat
 l:Nat
 vals:List Value
 σ:List AV
structure Env where
 callY:be->be
 glob:Nat->Option (List AV)
 ys:List Yld
 hand:be
def Env.call (E:Env):be:=fun fv args A=>match fv with
 | .func (.func _) _ _=>E.callY E.hand fv args A
 | _=>match E.hand fv args A with
  | some x=>some x
  | none=>E.callY E.hand fv args A
def evX (E:Env) (σ T:List AV):MX->AV
 | .var i=>σ.getD i .undef
 | .tmp j=>T.getD j .undef
 | .cst a=>a
 | .glob gl=>match E.glob gl with
  | some cs=>.fp cs
  | none=>.undef
 | .fn f=>.func (.func f) [] []
def a0 (E:Env) (ρ:MX->AV) (A:ac):MOp->Option (AV × ac)
 | .call f args=>E.call (ρ f) (args.map ρ) A
 | m=>dA ρ A m
def dg (ρ:MX->AV):Option (MX × Bool)->Option Bool
 | none=>some true
 | some (x,want)=>match ρ x with
  | .bool b=>some (b == want)
  | .tup []=>some false
  | _=>none
def dG (σ:List AV) (d:Option Nat) (a:AV):List AV:=
 match d with
 | some i=>σ.set i a
 | none=>σ
def eB (E:Env):List MO->List AV->List AV->ac->Option (List AV × ac)
 | [],σ,_,A=>some (σ,A)
 | o :: rest,σ,T,A=>
  match dg (evX E σ T) o.guard with
  | some true=>match a0 E (evX E σ T) A o.op with
   | some (v,A')=>eB E rest (dG σ o.dst v) (T++[v]) A'
   | none=>none
  | some false=>eB E rest (dG σ o.dst (.tup [])) (T++[.tup []]) A
  | none=>none
def bu:Nat->AV->Bool
 | _,.bool _=>true
 | _,.int ..=>true
 | _,.str _=>true
 | _,.nilS=>true
 | _,.nilP=>true
 | _,.nilM=>true
 | _,.nilF=>true
 | _,.nilI=>true
 | _,.undef=>true
 | _,.fs ..=>true
 | _,.fp _=>true
 | n+1,.agg cs=>cs.all (bu n)
 | n+1,.tup cs=>cs.all (bu n)
 | n+1,.func _ c1 c2=>c1.all (bu n) && c2.all (bu n)
 | n+1,.iface _ v=>bu n v
 | _,_=>false
structure fJ where
 rd:Option (List Nat)
 wr:Option (List Nat)
 al:Bool
 kp:Nat->Bool
def kp0:Nat->Bool:=fun _=>false
def fJ.no:fJ:=⟨some [],some [],false,kp0⟩
def zf (A:ac) (r:Option (AV × ac)) (id:Nat):Bool:=match r with
 | some x=>@decide (x.2[id]?=A[id]?) (Classical.propDecidable _)
 | none=>false
def bj:AV->List Nat
 | .sl id _ _=>[id]
 | .csl id _ _=>[id]
 | .ptr id _ _=>[id]
 | .map id=>[id]
 | _=>[]
def bZ (E:Env) (pu:List FuncId) (ρ:MX->AV) (A:ac):MOp->fJ
 | .load _ _ p=>⟨some (bj (ρ p)),some [],false,kp0⟩
 | .fieldAddr _ p=>⟨some (bj (ρ p)),some [],false,kp0⟩
 | .indexSl _ x _=>⟨some (bj (ρ x)),some [],false,kp0⟩
 | .indexArr _ _ x _=>⟨some (bj (ρ x)),some [],false,kp0⟩
 | .lenMap x=>⟨some (bj (ρ x)),some [],false,kp0⟩
 | .toStr x=>⟨some (bj (ρ x)),some [],false,kp0⟩
 | .sliceSl _ x _ _=>⟨some (bj (ρ x)),some [],false,kp0⟩
 | .sliceArr _ _ x _ _=>⟨some (bj (ρ x)),some [],false,kp0⟩
 | .storeA _ p _=>⟨some [],some (bj (ρ p)),false,kp0⟩
 | .sliceM _ x _ _ _=>⟨some (bj (ρ x)),some [],false,kp0⟩
 | .lookup _ _ _ m _=>⟨some (bj (ρ m)),some [],false,kp0⟩
 | .store _ p _=>⟨some [],some (bj (ρ p)),false,kp0⟩
 | .mapUpdate _ m _ _=>⟨some [],some (bj (ρ m)),false,kp0⟩
 | .copy _ d s=>⟨some (bj (ρ s)),some (bj (ρ d)),false,kp0⟩
 | .append _ _ s x=>⟨some (bj (ρ x)),some (A.length :: bj (ρ s)),true,kp0⟩
 | .appendN _ _ s x=>⟨some (bj (ρ x)),some (A.length :: bj (ρ s)),true,kp0⟩
 | .clear _ _ x=>⟨some [],some (bj (ρ x)),false,kp0⟩
 | .alloc .. | .allocA .. | .box _ | .buildSlice .. | .makeSlice .. | .toBytes _ | .makeMap=>⟨some [],some [A.length],true,kp0⟩
 | .call f args=>match f with
  | .fn f'=>if pu.contains f' then (if (args.map ρ).all (bu 4) then .no else ⟨none,some [],false,kp0⟩) else ⟨none,none,true,zf A (a0 E ρ A (.call f args))⟩
  | _=>⟨none,none,true,zf A (a0 E ρ A (.call f args))⟩
 | _=>.no
def bT (E:Env) (pu:List FuncId) (o:MO) (ρ:MX->AV) (A:ac):fJ:=
 match dg ρ o.guard with
 | some true=>bZ E pu ρ A o.op
 | _=>.no
def j6:Option (List Nat)->Option (List Nat)->Bool
 | some [],_=>true
 | _,some []=>true
 | some a,some b=>a.all fun x=>b.all fun y=>!(x == y)
 | _,_=>false
def fJ.apart0 (x y:fJ):Bool:=j6 x.rd y.wr && j6 x.wr y.rd && j6 x.wr y.wr && !(x.al && y.al)
def fJ.sees (x y:fJ):Bool:=(match x.wr with | some []=>!x.al | _=>false) && (match x.rd with | some l=>l.all y.kp | none=>false)
def fJ.apart (x y:fJ):Bool:=x.apart0 y || (x.sees y || y.sees x)
def dO (E:Env) (pu:List FuncId):List MO->List AV->List AV->ac->List fJ->Option (List AV × ac × List fJ)
 | [],σ,_,A,fs=>some (σ,A,fs)
 | o :: rest,σ,T,A,fs=>
  match dg (evX E σ T) o.guard with
  | some true=>match a0 E (evX E σ T) A o.op with
   | some (v,A')=>dO E pu rest (dG σ o.dst v) (T++[v]) A' (fs++[bZ E pu (evX E σ T) A o.op])
   | none=>none
  | some false=>dO E pu rest (dG σ o.dst (.tup [])) (T++[.tup []]) A (fs++[.no])
  | none=>none
def clear (mask:List Nat) (σ:List AV):List AV:=mask.foldl (fun s i=>s.set i .undef) σ
def bM (body:List AV->ac->Option Out) (mask:List Nat):Nat->List AV->ac->Option Out
 | 0,_,_=>none
 | n+1,σ,A=>match body (clear mask σ) A with
  | some (.normal σ' A')=>bM body mask n σ' A'
  | x=>x
open Classical in
def evR {α β:Type} (kX:α->Prop) (inner:α->Option β):Option β:=
 if h:∃x,∀a,kX a->inner a=some x then some h.choose else none
def iS (σ:List AV):List Nat->List AV->Option (List AV)
 | [],[]=>some σ
 | i :: ps,a :: as'=>iS (σ.set i a) ps as'
 | _,_=>none
open Classical in
def fU (n0 l:Nat) (r:Loop) (σ:List AV) (ps:List Nat) (assign body:List AV->ac->Option Out) (h:be):be:=fun fv args A=>
 match fv with
 | .func (.yield l') [] []=>
  if l'=l then
   match A[n0]? with
   | some (.loop r' k)=>
    if r'=r/\k=0 then
     match iS σ ps args with
     | some σ1=>match assign σ1 A with
      | some (.normal σ2 A2)=>if A2[n0]?=some (.loop r 0) then match body σ2 (A2.set n0 .dead) with
       | some (.normal _ A3)=>some (.bool true,A3.set n0 (.loop r 0))
       | some (.ret _ A3)=>some (.bool false,A3.set n0 (.loop r 1))
       | some (.exit id _ A3)=>some (.bool false,A3.set n0 (.loop r (id+2)))
       | none=>none
       else none
      | _=>none
     | none=>none
    else none
   | _=>none
  else h fv args A
 | _=>h fv args A
def mQ (n0:Nat) (σ:List AV) (A:ac):Option Out:=
 match A[n0]? with
 | some (.loop _ k)=>some (if k=0 then .normal σ (A.set n0 .dead) else if k=1 then .ret σ (A.set n0 .dead) else .exit (k-2) σ (A.set n0 .dead))
 | _=>none
def evC (E:Env) (fuel:Nat):MC->List AV->ac->Option Out
 | .skip,σ,A=>some (.normal σ A)
 | .region ops,σ,A=>(eB E ops σ [] A).map fun x=>.normal x.1 x.2
 | .regionD pu ops pairs,σ,A=>match dO E pu ops σ [] A [] with
  | some (σ',A',fs)=>if pairs.all (fun p=>(fs.getD p.1 .no).apart (fs.getD p.2 .no)) then some (.normal σ' A') else none
  | none=>none
 | .seq a b,σ,A=>match evC E fuel a σ A with
  | some (.normal σ' A')=>evC E fuel b σ' A'
  | x=>x
 | .cond c a b,σ,A=>match evX E σ [] c with
  | .bool t=>if t then evC E fuel a σ A else evC E fuel b σ A
  | _=>none
 | .block id a,σ,A=>match evC E fuel a σ A with
  | some (.exit id' σ' A')=>if id'=id then some (.normal σ' A') else some (.exit id' σ' A')
  | x=>x
 | .loop mask a,σ,A=>bM (evC E fuel a) mask fuel σ A
 | .rangeFunc f ps assign body,σ,A=>evR (fun (_:Nat × Loop)=>True) fun x=>
  match E.callY (fU A.length x.1 x.2 σ ps (evC E fuel assign) (evC E fuel body) E.hand) (evX E σ [] f) [.func (.yield x.1) [] []] (A++[Ent.loop x.2 0]) with
  | some (_,A')=>mQ A.length σ A'
  | none=>none
 | .exit id,σ,A=>some (.exit id σ A)
 | .scope a,σ,A=>evC E fuel a σ A
 | .kill mask,σ,A=>some (.normal (clear mask σ) A)
 | .ret,σ,A=>some (.ret σ A)
 | .bad,_,_=>none
def vk (vs:List Nat) (ts:List (Option Nat)):Operand->Option MX
 | .tmp t=>match vs.idxOf? t with
  | some i=>some (.var i)
  | none=>(ts.idxOf? (some t)).map .tmp
 | .const v=>(ofValue v).map .cst
 | .global gl=>some (.glob gl)
 | .func f=>some (.fn f)
def eG (vs:List Nat) (ops:Array Oper) (ts:List (Option Nat)):Option (Nat × Bool)->Option (Option (MX × Bool))
 | none=>some none
 | some (j,want)=>match (ops[j]?).bind (·.dst) with
  | some t=>(vk vs ts (.tmp t)).map fun x=>some (x,want)
  | none=>none
def mP:MOp:=.un .neg (.cst .undef)
def Ja (t:Nat) (o:Oper):Bool:=match o.op with
 | .call c=>(match c.callee with
  | .builtin .append=>(match c.args.toList with | [a,_]=>(match a with | .tmp u=>!(u == t) | _=>true) | _=>false)
  | .value f=>(match f with | .tmp u=>!(u == t) | _=>true)
  | _=>c.args.toList.all fun x=>match x with | .tmp u=>!(u == t) | _=>true)
 | op=>op.operands.toList.all fun x=>match x with | .tmp u=>!(u == t) | _=>true
def CN (vs:List Nat) (ops:Array Oper) (o:Oper):Bool:=match o.op with
 | .call c=>(match c.callee,c.args.toList with
  | .builtin .append,[.tmp u,_]=>!vs.contains u && ops.toList.any fun q=>(match q.dst,q.op with
   | some t,.call d=>t == u && (match d.callee with | .value _=>true | _=>false)
   | _,_=>false)
  | _,_=>false)
 | _=>false
def LF (vs:List Nat) (ops:Array Oper) (t:Nat):Bool:=ops.toList.any fun q=>CN vs ops q && (match q.op with
 | .call c=>(match c.args.toList with | [_,.tmp u]=>u == t | _=>false)
 | _=>false)
def NC (o:Oper):Bool:=match o.op with
 | .call c=>(match c.callee with | .builtin .append=>true | _=>false)
 | _=>false
def Eg (vs:List Nat):Bool:=match vs.reverse with
 | a :: b :: _=>Nat.blt a b
 | _=>false
def sE (on:Bool) (vs:List Nat) (ops:Array Oper) (o:Oper):Bool:=CN vs ops o || (Eg vs && NC o) || (match o.op,o.dst with
 | .buildSlice ..,some t=>(on || LF vs ops t) && !vs.contains t && ops.toList.all (Ja t)
 | _,_=>false)
def cy (P:Program) (N:Nat) (vs:List Nat) (on:Bool) (ops:Array Oper):List Oper->List (Option Nat)->List MO
 | [],_=>[]
 | o :: rest,ts=>
  match eG vs ops ts o.guard with
  | some gd=>
   let m:=(bW P (sE on vs ops o) (vk vs ts) o.op).getD mP
   match o.dst with
   | none=>⟨none,m,gd⟩ :: cy P N vs on ops rest (ts++[none])
   | some t=>
    match vs.idxOf? t with
    | some i=>⟨some i,m,gd⟩ :: cy P N vs on ops rest (ts++[none])
    | none=>if t<N/\¬ (some t)∈ts then ⟨none,m,gd⟩ :: cy P N vs on ops rest (ts++[some t]) else [⟨none,mP,none⟩]
  | none=>[⟨none,mP,none⟩]
def sC (vs:List Nat):List Nat->Option (List Nat)
 | []=>some []
 | t :: r=>match vs.idxOf? t,sC vs r with
  | some i,some l=>some (i :: l)
  | _,_=>none
def MOp.xs:MOp->List MX
 | .mv x | .un _ x | .convInt _ x | .same x | .toStr x | .toBytes x | .box x | .load _ _ x | .nilCheck x | .fieldAddr _ x | .part _ _ _ x | .extract x _ | .lenStr x | .lenSl x | .lenMap x | .eqNil _ _ x=>[x]
 | .pick a b c=>[a,b,c]
 | .eqAgg _ _ x y=>[x,y]
 | .lookup _ _ _ x y=>[x,y]
 | .mapUpdate _ x y z=>[x,y,z]
 | .makeMap=>[]
 | .buildF _ xs=>xs
 | .bin _ x y | .eqBool _ x y | .store _ x y | .indexSl _ x y | .indexArr _ _ x y | .indexVal _ _ _ x y | .indexStr x y | .append _ _ x y | .appendN _ _ x y | .copy _ x y | .makeSlice _ _ _ x y=>[x,y]
 | .clear _ _ x=>[x]
 | .alloc .. | .allocA ..=>[]
 | .sliceArr _ _ x lo hi=>x :: (lo.toList++hi.toList)
 | .storeA _ x y=>[x,y]
 | .build _ ps=>ps.map (·.2.2)
 | .buildSlice _ xs=>xs
 | .sliceStr x lo hi | .sliceSl _ x lo hi=>x :: (lo.toList++hi.toList)
 | .sliceM _ x lo hi mx=>x :: hi :: mx :: lo.toList
 | .makeFunc _ a b=>a++b
 | .minmax _ x xs=>x :: xs
 | .call f args=>f :: args
def gO (pu:List FuncId):MOp->Nat
 | .mv _ | .pick .. | .bin .. | .eqBool .. | .un .. | .convInt .. | .same _ | .build .. | .nilCheck _ | .part .. | .indexVal .. | .indexStr .. | .sliceStr .. | .makeFunc .. | .extract .. | .lenStr _ | .lenSl _ | .minmax .. | .eqNil .. | .eqAgg .. | .buildF ..=>0
 | .toStr _ | .load .. | .fieldAddr .. | .indexSl .. | .indexArr .. | .sliceSl .. | .sliceArr .. | .sliceM .. | .lenMap _ | .lookup ..=>1
 | .call (.fn f) _=>if pu.contains f then 1 else 2
 | _=>2
def xT (pu:List FuncId) (x y:MO):Bool:=gO pu x.op == 0 || gO pu y.op == 0 || (gO pu x.op == 1 && gO pu y.op == 1)
def MO.reads (o:MO):List MX:=o.op.xs++(match o.guard with | some (x,_)=>[x] | none=>[])
def xL (j:Nat) (o:MO):Bool:=o.reads.any fun x=>match x with | .tmp i=>i == j | _=>false
def xK (j:Nat) (o:MO):Bool:=o.reads.any fun x=>match x with | .var i=>i == j | _=>false
def zk (i j:Nat) (x y:MO):Bool:=
 !xL i y && !xL j x &&
 (match x.dst with | some d=>!xK d y && !(y.dst == some d) | none=>true) && (match y.dst with | some d=>!xK d x | none=>true)
def qW (b:Array Nat) (o:Oper):Nat:=o.after.toList.foldl (fun s e=>if Region.binds .any e then s ||| 2 ^ e.on ||| b.getD e.on 0 else s) 0
def lC (ops:Array Oper) (mos:List MO) (b:Array Nat):Bool:=
 mos.length == ops.size &&
 (List.range ops.size).all fun j=>match ops[j]? with
  | none=>false
  | some o=>(b.getD j 0 == qW b o) && o.after.toList.all (fun e=>!Region.binds .any e || Nat.blt e.on j) &&
   (List.range j).all fun i=>(b.getD j 0).testBit i || (match mos[i]?,mos[j]? with | some x,some y=>zk i j x y | _,_=>false)
def p6 (pu:List FuncId) (mos:List MO) (b:Array Nat):List (Nat × Nat):=
 (List.range mos.length).flatMap fun j=>(List.range j).filterMap fun i=>if (b.getD j 0).testBit i then none else match mos[i]?,mos[j]? with
  | some x,some y=>if xT pu x y then none else some (i,j)
  | _,_=>none
abbrev t7:=List (List Nat) × List (List Nat)
def dY (P:Program) (N:Nat) (vs:List Nat) (pu:List FuncId) (on:Bool) (inR:Bool):Code->t7->MC × t7
 | .skip,h | .label _,h=>(.skip,h)
 | .region _ ops draw,h=>
  if draw then (if P.follows .mixedOrders && lC ops (cy P N vs on ops ops.toList []) (Region.before ops) then
    (match p6 pu (cy P N vs on ops ops.toList []) (Region.before ops) with
    | []=>.region (cy P N vs on ops ops.toList [])
    | x :: r=>.regionD pu (cy P N vs on ops ops.toList []) (x :: r)) else .bad,h)
  else (.region (cy P N vs on ops ops.toList []),h)
 | .seq a b,h=>
  let x:=dY P N vs pu on inR a h
  let y:=dY P N vs pu on inR b x.2
  (.seq x.1 y.1,y.2)
 | .cond c a b,h=>match vk vs [] c with
  | some z=>
   let x:=dY P N vs pu on inR a h
   let y:=dY P N vs pu on inR b x.2
   (.cond z x.1 y.1,y.2)
  | none=>(.bad,h)
 | .block id a,h=>
  let x:=dY P N vs pu on inR a h
  match x.2.2 with
  | []=>(.block id x.1,x.2)
  | m :: r=>(.seq (.block id x.1) (.kill m),(x.2.1,r))
 | .loop a,h=>let x:=dY P N vs pu on inR a (h.1.tail,h.2); (.loop (h.1.headD []) x.1,x.2)
 | .rangeFunc f ps a b,h=>match inR,vk vs [] f,sC vs ps.toList with
  | false,some z,some is=>
   let x:=dY P N vs pu on true a h
   let y:=dY P N vs pu on true b x.2
   (.rangeFunc z is x.1 y.1,y.2)
  | _,_,_=>(.bad,h)
 | .exit id,h=>(.exit id,h)
 | .scope a,h=>let x:=dY P N vs pu on inR a h; (.scope x.1,x.2)
 | .ret,h=>(.ret,h)
 | _,h=>(.bad,h)
def FW (rd:Option Nat):Fence:={Fence.wide with round:=rd}
def Gm (G:Nat->Option (List AV)) (w:World) (OK:Nat->Prop):Prop:=∀gl cs,G gl=some cs->aW w OK aC.none (.pointer (some ⟨gl,0,none⟩)) (.fp cs)
def zI (G:Nat->Option (List AV)) (ys:List Yld) (w:World) (OK:Nat->Prop) (g:aC):Prop:=
 Gm G w OK/\∀y∈ys,(∃inc,g y.id=[inc]/\inc.b=y.l/\inc.esz=0)/\bS w OK g y.vals y.σ
def Gn (P:Program) (w:World) (OK:Nat->Prop) (g:aC) (res:Result Next) (r:AV) (A':ac):Prop:=
 (∃v w' OK' g',res=.ok (.value v) w'/\aW w' OK' g' v r/\cq w' OK' g' A'/\Ext w OK g w' OK' g') \/
 (∃f args,res=.ok (.enter f args) w/\Calls P f args w fun e w'=>∃v OK' g',e=.returned v/\aW w' OK' g' v r/\cq w' OK' g' A'/\Ext w OK g w' OK' g') \/
 (∃l f tmps assign body,res=.ok (.round l f tmps assign body) w/\∀rd n,RoundIn (FW rd) n P l f tmps assign body w fun e w'=>∃v OK' g',e=.returned v/\aW w' OK' g' v r/\cq w' OK' g' A'/\Ext w OK g w' OK' g')
def iL (P:Program) (G:Nat->Option (List AV)) (ys:List Yld) (h:be):Prop:=
 ∀fv args A r A',h fv args A=some (r,A')->∀(w:World) (OK:Nat->Prop) (g:aC) (v:Value) (vs:List Value),cq w OK g A->zI G ys w OK g->aW w OK g v fv->bS w OK g vs args ->
  Gn P w OK g ((do let d <-Deferred.ofValue v vs.toArray; invoke d.target d.args:Sem Next).run P w) r A'
def xe (P:Program) (G:Nat->Option (List AV)) (ys:List Yld) (h:be):Prop:=
 ∀fv args A r A',h fv args A=some (r,A')->∀(w:World) (OK:Nat->Prop) (g:aC) (v:Value) (vs:List Value),cq w OK g A->zI G ys w OK g->aW w OK g v fv->bS w OK g vs args ->
  ∃(d:Deferred) (f:FuncId) (args':Array Value),(Deferred.ofValue v vs.toArray).run P w=.ok d w/\(invoke d.target d.args).run P w=.ok (.enter f args') w /\
   Calls P f args' w fun e w'=>∃v OK' g',e=.returned v/\aW w' OK' g' v r/\cq w' OK' g' A'/\Ext w OK g w' OK' g'
theorem xe.sound {P:Program} {G:Nat->Option (List AV)} {ys:List Yld} {h:be} (hh:xe P G ys h):iL P G ys h:=by
 intro fv args A r A' he w OK g v vs hA hI hv hl
 obtain ⟨d,f,args',e1,e2,e3⟩:=hh fv args A r A' he w OK g v vs hA hI hv hl
 exact .inr (.inl ⟨f,args',by simp only [Sem.run_bind,e1,Result.andThen_ok,e2],e3⟩)
theorem zI.sub {G:Nat->Option (List AV)} {ys ys':List Yld} {w:World} {g:aC} (h:zI G ys' w OK g) (hs:∀y∈ys,y∈ys'):zI G ys w OK g:=⟨h.1,fun y hy=>h.2 y (hs y hy)⟩
theorem iL.sub {P:Program} {G:Nat->Option (List AV)} {ys ys':List Yld} {h:be} (hh:iL P G ys h) (hs:∀y∈ys,y∈ys'):iL P G ys' h:=
 fun fv args A r A' he w OK g v vs hA hI hv hl=>hh fv args A r A' he w OK g v vs hA (hI.sub hs) hv hl
structure dj (P:Program) (E:Env):Prop where
 hand:iL P E.glob E.ys E.hand
 callY:∀ys' h,(∀y∈E.ys,y∈ys')->iL P E.glob ys' h->xe P E.glob ys' (E.callY h)
theorem dj.call {P:Program} {E:Env} (hE:dj P E):iL P E.glob E.ys E.call:=by
 intro fv args A r A' he w OK g v vs hA hI hv hl
 unfold Env.call at he
 split at he
 ·exact (hE.callY E.ys E.hand (fun _ h=>h) hE.hand).sound _ _ _ _ _ he w OK g v vs hA hI hv hl
 ·split at he
  ·rename_i x hx
   injection he with he; subst he
   exact hE.hand _ _ _ _ _ hx w OK g v vs hA hI hv hl
  ·exact (hE.callY E.ys E.hand (fun _ h=>h) hE.hand).sound _ _ _ _ _ he w OK g v vs hA hI hv hl
theorem Ext.grel {w:World} {g g':aC} {A:ac} {G:Nat->Option (List AV)} (h:Gm G w OK) (hA:cq w OK g A) (e:Ext w OK g w' OK' g'):Gm G w' OK':=fun gl cs hg=>
 (h gl cs hg).mono e.okle (e.okblk hA) _ (aC.le_refl _)
theorem bS.ext {w:World} {g g':aC} {A:ac} {us:List Value} {l:List AV} (h:bS w OK g us l) (hA:cq w OK g A) (e:Ext w OK g w' OK' g'):bS w' OK' g' us l:=
 h.mono fun _ _ hv=>hv.ext hA e
theorem Ext.irel {w:World} {g g':aC} {A:ac} {G:Nat->Option (List AV)} {ys:List Yld} (h:zI G ys w OK g) (hA:cq w OK g A) (e:Ext w OK g w' OK' g'):zI G ys w' OK' g':=
 ⟨e.grel h.1 hA,fun y hy=>by
  obtain ⟨⟨inc,h1,h2,h3⟩,h4⟩:=h.2 y hy
  exact ⟨⟨inc,(e.fix y.id inc (by rw [h1]; simp) h3).trans h1,h2,h3⟩,h4.ext hA e⟩⟩
def oK (base:Nat) (w:World) (OK:Nat->Prop) (g:aC):List Deferred->Prop
 | []=>True
 | d :: r=>(∃D,d=⟨.collected D,#[]⟩/\base<=D/\w.heap[D]?=some (.deferred (some []))/\¬ OK D/\(∀id inc,inc∈g id->inc.b≠D)/\∀d'∈r,d'≠⟨.collected D,#[]⟩)/\oK base w OK g r
theorem oK.ext {base:Nat} {w:World} {g g':aC} (e:Ext w OK g w' OK' g'):∀ {l:List Deferred},oK base w OK g l->oK base w' OK' g' l
 | [],_=>trivial
 | d :: r,⟨⟨D,h1,h2,h3,h4,h5,h6⟩,hr⟩=>by
  have hlt:=(Sp.1 h3).1
  refine ⟨⟨D,h1,h2,(e.blk D hlt h5).trans h3,fun ho=>?_,fun id inc hi eb=>?_,h6⟩,oK.ext e hr⟩
  ·rcases e.okf D ho with h | h
   ·exact h4 h
   ·omega
  ·rcases e.fresh id inc hi with ⟨id0,inc0,k0,k1⟩ | h
   ·exact h5 id0 inc0 k0 (k1.trans eb)
   ·omega
structure SRel (E:Env) (N:Nat) (vs:List Nat) (base:Nat) (w:World) (OK:Nat->Prop) (g:aC) (σ:List AV) (A:ac) (a:Act):Prop where
 size:a.tmps.size=N
 defers:oK base w OK g a.defers
 low:base<=w.heap.size
 len:σ.length=vs.length
 vars:∀i (h:i<vs.length),aW w OK g (a.tmps.getD vs[i] undef) (σ.getD i .undef)
 arena:cq w OK g A
 glob:zI E.glob E.ys w OK g
section
variable {P:Program} {E:Env} {N:Nat} {vs:List Nat} {base:Nat}
theorem SRel.ext {w:World} {g g':aC} {σ:List AV} {A A':ac} {a:Act} (h:SRel E N vs base w OK g σ A a) (e:Ext w OK g w' OK' g') (hA:cq w' OK' g' A'):SRel E N vs base w' OK' g' σ A' a:=
 ⟨h.size,h.defers.ext e,ST h.low e.size,h.len,fun i hi=>(h.vars i hi).ext h.arena e,hA,e.irel h.glob h.arena⟩
structure jO (E:Env) (N:Nat) (vs:List Nat) (base:Nat) (w:World) (OK:Nat->Prop) (g:aC) (σ T:List AV) (ts:List (Option Nat)) (A:ac) (a:Act):Prop extends SRel E N vs base w OK g σ A a where
 tlen:T.length=ts.length
 temps:∀j t:Nat,ts[j]?=some (some t)->aW w OK g (a.tmps.getD t undef) (T.getD j .undef)
 tok:∀j t:Nat,ts[j]?=some (some t)->t<N/\t ∉ vs
 tone:∀j j' t:Nat,ts[j]?=some (some t)->ts[j']?=some (some t)->j=j'
theorem jO.eval {w:World} {g:aC} {σ T:List AV} {ts:List (Option Nat)} {A:ac} {a:Act} (h:jO E N vs base w OK g σ T ts A a) (x:Operand) (y:MX) (hy:vk vs ts x=some y):aW w OK g (a.eval x) (evX E σ T y):=by
 unfold vk at hy
 split at hy
 ·rename_i t
  split at hy
  ·rename_i i hi
   injection hy with hy; subst hy
   obtain ⟨hlt,he⟩:=SR.1 hi |> fun h=>(⟨h.1,h.2.1⟩:∃h:i<vs.length,vs[i]=t)
   have:=h.vars i hlt
   rw [he] at this
   simpa [Act.eval,evX] using this
  ·simp only [RJ] at hy
   obtain ⟨j,hj,rfl⟩:=hy
   obtain ⟨hlt,he⟩:=SR.1 hj |> fun h=>(⟨h.1,h.2.1⟩:∃h:j<ts.length,ts[j]=some t)
   have:=h.temps j t (by rw [Rx hlt,he])
   simpa [Act.eval,evX] using this
 ·simp only [RJ] at hy
  obtain ⟨v,hv,rfl⟩:=hy
  exact dU hv
 ·injection hy with hy; subst hy
  rename_i gl
  simp only [evX,Act.eval]
  split
  ·rename_i cs hcs
   exact (h.glob.1 gl cs hcs).none_to
  ·exact .undef _ _
 ·injection hy with hy; subst hy
  exact .func _ _ _ _ [] [] rfl rfl (fun _=>undef) (fun _=>undef) (fun i hi=>by simp at hi) (fun i hi=>by simp at hi) (fun i hi=>by simp at hi) (fun i hi=>by simp at hi)
theorem uW (m:MOp):(∃f args,m=.call f args)\/∀E ρ A,a0 E ρ A m=dA ρ A m:=by
 cases m with
 | call f args=>exact .inl ⟨f,args,rfl⟩
 | _=>exact .inr fun _ _ _=>rfl
theorem dt {t u:Nat} (tm:Array Value) (v:Value) (h:t≠u):(tm.setIfInBounds t v).getD u undef=tm.getD u undef:=by
 simp [SJ h]
theorem ey {t:Nat} (tm:Array Value) (v:Value) (h:t<tm.size):(tm.setIfInBounds t v).getD t undef=v:=by
 simp [S6 h]
theorem p7 {vs:List Nat} (h:vs.Nodup) {i j:Nat} (hi:i<vs.length) (hj:j<vs.length) (e:vs[i]=vs[j]):i=j:=by
 have hp:=List.pairwise_iff_getElem.1 h
 rcases Nat.lt_trichotomy i j with h1 | h1 | h1
 ·exact absurd e (hp i j hi hj h1)
 ·exact h1
 ·exact absurd e.symm (hp j i hj hi h1)
theorem jO.putVar {w:World} {g:aC} {σ T:List AV} {ts:List (Option Nat)} {A:ac} {a:Act} (hvn:vs.Nodup) (hvl:∀t∈vs,t<N) (h:jO E N vs base w OK g σ T ts A a) {i t:Nat} (hi:i<vs.length) (ht:vs[i]=t) {v:Value} {x:AV} (hx:aW w OK g v x) (y:AV) :
  jO E N vs base w OK g (σ.set i x) (T++[y]) (ts++[none]) A (a.put (some t) v) where
 size:=by simp [Act.put,h.size]
 defers:=h.defers
 low:=h.low
 len:=by simp [h.len]
 vars k hk:=by
  have hlt:t<N:=hvl t (ht ▸ RM hi)
  by_cases e:i=k
  ·subst e
   rw [ht]
   simp only [Act.put,ey _ _ (by rw [h.size]; exact hlt)]
   simp [RO (show i<σ.length by rw [h.len]; exact hi),hx]
  ·have hne:t≠vs[k]:=fun e2=>e (p7 hvn hi hk (by rw [ht,e2]))
   simp only [Act.put,dt _ _ hne]
   have:=h.vars k hk
   simpa [Rw,RF e] using this
 arena:=h.arena
 glob:=h.glob
 tlen:=by simp [h.tlen]
 temps j u hj:=by
  have hj':ts[j]?=some (some u):=by
   rw [S0] at hj
   split at hj
   ·exact hj
   ·rename_i hge
    have:j-ts.length=0\/j-ts.length≠0:=by omega
    rcases this with h0 | h0
    ·rw [h0] at hj; simp at hj
    ·rw [Sl (by simp; omega)] at hj; cases hj
  have hlt:j<ts.length:=(Rv.1 hj').1
  have hne:t≠u:=fun e=>(h.tok j u hj').2 (e ▸ ht ▸ RM hi)
  simp only [Act.put,dt _ _ hne]
  have:=h.temps j u hj'
  rw [Rw,RC (by rw [h.tlen]; exact hlt),<-Rw]
  exact this
 tok j u hj:=by
  have hj':ts[j]?=some (some u):=by
   rw [S0] at hj
   split at hj
   ·exact hj
   ·rename_i hge
    have:j-ts.length=0\/j-ts.length≠0:=by omega
    rcases this with h0 | h0
    ·rw [h0] at hj; simp at hj
    ·rw [Sl (by simp; omega)] at hj; cases hj
  exact h.tok j u hj'
 tone j j' u hj hj':=by
  have key:∀j,(ts++[none])[j]?=some (some u)->ts[j]?=some (some u):=fun j hj=>by
   rw [S0] at hj
   split at hj
   ·exact hj
   ·rename_i hge
    have:j-ts.length=0\/j-ts.length≠0:=by omega
    rcases this with h0 | h0
    ·rw [h0] at hj; simp at hj
    ·rw [Sl (by simp; omega)] at hj; cases hj
  exact h.tone j j' u (key j hj) (key j' hj')
theorem jO.putNone {w:World} {g:aC} {σ T:List AV} {ts:List (Option Nat)} {A:ac} {a:Act} (h:jO E N vs base w OK g σ T ts A a) (v:Value) (y:AV) :
  jO E N vs base w OK g σ (T++[y]) (ts++[none]) A (a.put none v):=by
 have key:∀u j,(ts++[none])[j]?=some (some u)->ts[j]?=some (some u):=fun u j hj=>by
  rw [S0] at hj
  split at hj
  ·exact hj
  ·rename_i hge
   have:j-ts.length=0\/j-ts.length≠0:=by omega
   rcases this with h0 | h0
   ·rw [h0] at hj; simp at hj
   ·rw [Sl (by simp; omega)] at hj; cases hj
 exact {
     size:=h.size,defers:=h.defers,low:=h.low,len:=h.len,vars:=h.vars,arena:=h.arena,glob:=h.glob,tlen:=by simp [h.tlen],
     temps:=fun j u hj=>by
      have hj':=key u j hj
      have hlt:j<ts.length:=(Rv.1 hj').1
      rw [Rw,RC (by rw [h.tlen]; exact hlt),<-Rw]
      exact h.temps j u hj'
     tok:=fun j u hj=>h.tok j u (key u j hj),tone:=fun j j' u hj hj'=>h.tone j j' u (key u j hj) (key u j' hj')}
theorem jO.putTmp {w:World} {g:aC} {σ T:List AV} {ts:List (Option Nat)} {A:ac} {a:Act} (h:jO E N vs base w OK g σ T ts A a) {t:Nat} (htN:t<N) (htv:t ∉ vs) (htt:some t ∉ ts) {v:Value} {x:AV} (hx:aW w OK g v x) :
  jO E N vs base w OK g σ (T++[x]) (ts++[some t]) A (a.put (some t) v):=by
 have key:∀u j,(ts++[some t])[j]?=some (some u)->(ts[j]?=some (some u)/\j<ts.length)\/(j=ts.length/\u=t):=fun u j hj=>by
  rw [S0] at hj
  split at hj
  ·rename_i hlt; exact .inl ⟨hj,hlt⟩
  ·rename_i hge
   have:j-ts.length=0\/j-ts.length≠0:=by omega
   rcases this with h0 | h0
   ·rw [h0] at hj; simp at hj; exact .inr ⟨by omega,hj.symm⟩
   ·rw [Sl (by simp; omega)] at hj; cases hj
 have hmem:∀u j,ts[j]?=some (some u)->u≠t:=fun u j hj e=>htt (e ▸ SL hj)
 exact {
     size:=by simp [Act.put,h.size],defers:=h.defers,low:=h.low,len:=h.len,arena:=h.arena,glob:=h.glob,tlen:=by simp [h.tlen],
     vars:=fun k hk=>by
      have hne:t≠vs[k]:=fun e=>htv (e ▸ RM hk)
      simp only [Act.put,dt _ _ hne]
      exact h.vars k hk
     temps:=fun j u hj=>by
      rcases key u j hj with ⟨hj',hlt⟩ | ⟨rfl,rfl⟩
      ·simp only [Act.put,dt _ _ (S4 (hmem u j hj'))]
       rw [Rw,RC (by rw [h.tlen]; exact hlt),<-Rw]
       exact h.temps j u hj'
      ·simp only [Act.put,ey _ _ (show u<a.tmps.size by rw [h.size]; exact htN)]
       rw [Rw,RS (by rw [h.tlen]; exact RR _)]
       simpa [h.tlen] using hx
     tok:=fun j u hj=>by
      rcases key u j hj with ⟨hj',hlt⟩ | ⟨rfl,rfl⟩
      ·exact h.tok j u hj'
      ·exact ⟨htN,htv⟩
     tone:=fun j j' u hj hj'=>by
      rcases key u j hj with ⟨h1,hlt⟩ | ⟨rfl,rfl⟩ <;> rcases key u j' hj' with ⟨h1',hlt'⟩ | ⟨h2,h3⟩
      ·exact h.tone j j' u h1 h1'
      ·exact absurd h3 (hmem u j h1)
      ·exact absurd rfl (hmem u j' h1')
      ·exact h2.symm}
theorem jO.ext {w:World} {g g':aC} {σ T:List AV} {ts:List (Option Nat)} {A A':ac} {a:Act} (h:jO E N vs base w OK g σ T ts A a) (e:Ext w OK g w' OK' g') (hA:cq w' OK' g' A'):jO E N vs base w' OK' g' σ T ts A' a:=
 {h.toSRel.ext e hA with tlen:=h.tlen,temps:=fun j t hj=>(h.temps j t hj).ext h.arena e,tok:=h.tok,tone:=h.tone}
theorem jO.guard {w:World} {g:aC} {σ T:List AV} {ts:List (Option Nat)} {A:ac} {a:Act} (hvl:∀t∈vs,t<N) (h:jO E N vs base w OK g σ T ts A a) {ops:Array Oper} {o:Oper} {gd:Option (MX × Bool)} {b:Bool}
  (hc:eG vs ops ts o.guard=some gd) (he:dg (evX E σ T) gd=some b):Region.wanted o (yielded ops a.tmps)=b:=by
 unfold eG at hc
 split at hc
 ·rename_i hg
  injection hc with hc; subst hc
  simp only [dg,Rz] at he
  subst he
  simp [Region.wanted,hg]
 ·rename_i j want hg
  split at hc
  ·rename_i t ht
   simp only [RJ] at hc
   obtain ⟨x,hx,rfl⟩:=hc
   have hv:=h.eval (.tmp t) x hx
   have htN:t<a.tmps.size:=by
    rw [h.size]
    unfold vk at hx
    simp only at hx
    split at hx
    ·rename_i i hi
     exact hvl t (SL (Rv.2 (SR.1 hi |> fun h=>(⟨h.1,h.2.1⟩:∃h:i<vs.length,vs[i]=t))))
    ·simp only [RJ] at hx
     obtain ⟨k,hk,_⟩:=hx
     obtain ⟨hlt,he⟩:=SR.1 hk |> fun h=>(⟨h.1,h.2.1⟩:∃h:k<ts.length,ts[k]=some t)
     exact (h.tok k t (by rw [Rx hlt,he])).1
   have hy:yielded ops a.tmps j=match a.tmps[t]? with | some (.bool b)=>some b | _=>none:=by
    simp only [yielded,ht,Sn]
    rfl
   have hgt:a.tmps[t]?=some (a.tmps.getD t undef):=by
    rw [R9 htN]; simp [htN]
   simp only [Act.eval] at hv
   simp only [dg] at he
   split at he
   ·rename_i c hcv
    rw [hcv] at hv
    injection he with he; subst he
    have:=hv.inv_bool
    rw [this] at hgt
    simp [Region.wanted,hg,hy,hgt]
   ·rename_i hcv
    rw [hcv] at hv
    injection he with he; subst he
    obtain ⟨us,vals,e,hl,_⟩:=hv.inv_tup
    rw [e] at hgt
    simp [Region.wanted,hg,hy,hgt]
   ·cases he
  ·cases hc
end
section
variable {P:Program} {E:Env} {N:Nat} {vs:List Nat} {base:Nat} {rd:Option Nat} {n:Nat}
theorem yS (rd:Option Nat) (ρ:Operand->Value) (o:Oper) (h:∀c,o.op≠.defer c):o.semAt rd ρ=execOp ρ o:=by
 cases rd with
 | none=>rfl
 | some l=>
  obtain ⟨dst,op,type,pos,after,guard⟩:=o
  cases op <;> first | rfl | exact absurd rfl (h _)
theorem rD {cx:Operand->Option MX} {o:Op} {m:MOp} (h:bW P fz cx o=some m):∀c,o≠.defer c:=by
 rintro c rfl
 simp [bW] at h
theorem w5 {cx:Operand->Option MX} {o:Op} {f:MX} {args:List MX} (h:bW P fz cx o=some (.call f args)):∃c fo,o=.call c/\c.callee=.value fo/\cx fo=some f/\cxs cx c.args.toList=some args:=by
 cases o with
 | call c=>
  obtain ⟨callee,as',ts⟩:=c
  simp only [bW] at h
  split at h
  ·split at h
   ·split at h <;> simp [RG] at h
   ·cases h
  ·split at h
   ·simp [RG] at h
   ·cases h
  ·split at h
   ·simp [RG] at h
   ·cases h
  ·split at h
   ·split at h
    ·simp only [RP,RG,Ry,Rz] at h
     obtain ⟨_,_,_,_,_,_,_,_,_,_,_,h⟩:=h
     split at h <;> cases h
    ·cases h
   ·cases h
  ·split at h
   ·split at h
    ·simp [RG] at h
    ·cases h
   ·cases h
  ·split at h
   ·split at h
    ·simp [RG] at h
    ·cases h
   ·cases h
  ·simp only [RP,RG,Rz,MOp.call.injEq] at h
   obtain ⟨f',h1,l,h2,rfl,rfl⟩:=h
   exact ⟨_,_,rfl,rfl,h1,h2⟩
  ·cases h
 | slice t x lo hi mx=>
  cases mx with
  | some m'=>
   cases hi with
   | none=>simp [bW] at h
   | some hh=>
    simp only [bW] at h
    split at h <;> simp [RG] at h
  | none=>
   simp only [bW] at h
   split at h
   ·simp [RG] at h
   ·simp [RG] at h
   ·simp [RG] at h
   ·cases h
 | alloc t=>
  simp only [bW,RP,RG] at h
  obtain ⟨_,_,_,_,h⟩:=h
  split at h <;> simp [RG] at h
 | makeMap t r=>cases r <;> simp [bW] at h
 | buildSlice t n ps=>
  simp only [bW] at h
  split at h
  ·cases fz <;> simp [RG] at h
  ·cases h
 | _=>
  simp only [bW] at h
  first
   | (simp [RG] at h; done)
   | ((repeat' split at h) <;> simp [RG] at h; done)
theorem Id (rd:Option Nat) (f:FuncId):(FW rd).fn f:=trivial
theorem tJ (rd:Option Nat):(FW rd).depth=none:=rfl
theorem yu {f:FuncId} {args:Array Value} {w:World} {R:Ending->World->Prop} (h:Calls P f args w R) (rd:Option Nat) (n:Nat):CallsIn (FW rd) n P f args w R:=by
 have h1:CallsIn Fence.wide n P f args w R:=callsIn_wide.2 h
 cases rd with
 | none=>exact h1
 | some l=>exact h1.inRound l
theorem pC (hE:dj P E) {w:World} {g:aC} {σ T:List AV} {A A':ac} {a:Act} {o:Oper} {m:MOp} {r:AV} {Q:Exit->Act->World->Prop} {K:Act->World->Prop} {cx:Operand->Option MX}
  (hx:∀x y,cx x=some y->aW w OK g (a.eval x) (evX E σ T y)) (hA:cq w OK g A) (hI:zI E.glob E.ys w OK g) (hc:bW P fz cx o.op=some m) (he:a0 E (evX E σ T) A m=some (r,A'))
  (hK:∀v w' OK' g',aW w' OK' g' v r->cq w' OK' g' A'->Ext w OK g w' OK' g'->K (a.put o.dst v) w'):o.wpIn (FW rd) n P a w K Q:=by
 refine ⟨fun f _=>Id rd f,?_⟩
 rw [show o.semAt (FW rd).round a.eval=execOp a.eval o from yS _ _ _ (rD hc)]
 rcases uW m with ⟨f,args,rfl⟩ | hm
 ·obtain ⟨c,fo,hop,hcal,hf,hargs⟩:=w5 hc
  have hfv:=hx fo f hf
  have hlr:=nj (ρc:=a.eval) (ρ:=evX E σ T) hx hargs
  have hcall:=hE.call _ _ _ _ _ he w OK g _ _ hA hI hfv hlr
  have hex:execOp a.eval o=(do let d <-Deferred.ofValue (a.eval fo) (c.args.toList.map a.eval).toArray; invoke d.target d.args:Sem Next):=by
   unfold execOp
   rw [hop]
   simp only [resolve,hcal]
   congr 1
   congr 1
   apply Array.ext'
   simp
  rw [hex]
  rcases hcall with ⟨v,w',OK',g',e1,e2,e3,e4⟩ | ⟨fid,as',e1,e2⟩ | ⟨l,fid,tmps,assign,body,e1,e2⟩
  ·rw [e1]
   exact hK v w' OK' g' e2 e3 e4
  ·rw [e1]
   refine ⟨fun hd=>by simp [tJ] at hd,?_⟩
   refine (yu e2 rd (n-1)).mono ?_
   rintro e w' ⟨v,OK',g',rfl,k2,k3,k4⟩
   exact hK v w' OK' g' k2 k3 k4
  ·rw [e1]
   refine ⟨fun hd=>by simp [tJ] at hd,?_⟩
   refine (e2 rd (n-1)).mono ?_
   rintro e w' ⟨v,OK',g',rfl,k2,k3,k4⟩
   exact hK v w' OK' g' k2 k3 k4
 ·rw [hm] at he
  obtain ⟨v,w',OK',g',e1,e2,e3,e4⟩:=zq (ρc:=a.eval) (ρ:=evX E σ T) (fun _=>rfl) (fun _=>rfl) hx hA hc he
  rcases e1 with e1 | ⟨e1,rfl⟩
  ·rw [e1]; exact hK v w' OK' g' e2 e3 e4
  ·rw [e1]; exact hK _ w' OK' g' e2 e3 e4
theorem yP (hE:dj P E) {w:World} {g:aC} {σ T:List AV} {ts:List (Option Nat)} {A A':ac} {a:Act} {o:Oper} {m:MOp} {r:AV} {Q:Exit->Act->World->Prop} {K:Act->World->Prop}
  (h:jO E N vs base w OK g σ T ts A a) (hc:bW P fz (vk vs ts) o.op=some m) (he:a0 E (evX E σ T) A m=some (r,A'))
  (hK:∀v w' OK' g',aW w' OK' g' v r->cq w' OK' g' A'->Ext w OK g w' OK' g'->K (a.put o.dst v) w'):o.wpIn (FW rd) n P a w K Q:=
 pC hE (fun x y hy=>h.eval x y hy) h.arena h.glob hc he hK
theorem sI (ρ:MX->AV) (A:ac):a0 E ρ A mP=none\/∃x,a0 E ρ A mP=some x/\ρ (.cst .undef)≠.undef:=by
 cases h:a0 E ρ A mP with
 | none=>exact .inl rfl
 | some x=>
  refine .inr ⟨x,rfl,fun e=>?_⟩
  simp [a0,mP,dA,e,uV] at h
theorem qz {on:Bool} (hE:dj P E) (hvn:vs.Nodup) (hvl:∀t∈vs,t<N) {ops:Array Oper} {Q:Exit->Act->World->Prop} {w0:World} {OK0:Nat->Prop} {g0:aC} {σ':List AV} {A':ac}
  (hQ:∀a w OK g,SRel E N vs base w OK g σ' A' a->Ext w0 OK0 g0 w OK g->Q .normal a w) :
  ∀(rest:List Oper) (k:Nat) (ts:List (Option Nat)) (σ T:List AV) (A:ac) (a:Act) (w:World) (OK:Nat->Prop) (g:aC),ops.toList.drop k=rest ->
   jO E N vs base w OK g σ T ts A a->Ext w0 OK0 g0 w OK g->eB E (cy P N vs on ops rest ts) σ T A=some (σ',A')->wpOpsIn (FW rd) n P ops Q (List.range' k rest.length) a w
 | [],k,ts,σ,T,A,a,w,OK,g,_,h,hx,he=>by
  simp only [cy,eB,Rz,RQ] at he
  obtain ⟨rfl,rfl⟩:=he
  exact hQ a w OK g h.toSRel hx
 | o :: rest,k,ts,σ,T,A,a,w,OK,g,hd,h,hx,he=>by
  have hlt:k<ops.toList.length:=by
   rcases Ti k ops.toList.length with h1 | h1
   ·exact h1
   ·rw [List.drop_eq_nil_of_le h1] at hd; cases hd
  have hok:ops[k]?=some o:=by
   have:=Uk (fun l=>l[0]?) hd
   simpa [SQ] using this
  have hd':ops.toList.drop (k+1)=rest:=by
   have:=Uk List.tail hd
   simpa [List.tail_drop] using this
  have ih:=fun ts σ T A a w OK g=>qz (on:=on) hE hvn hvl hQ rest (k+1) ts σ T A a w OK g hd'
  rw [Sv,List.range'_succ]
  simp only [wpOpsIn,hok]
  have hbad:∀ σ T A,eB E [⟨none,mP,none⟩] σ T A=none:=fun σ T A=>by simp [eB,dg,a0,mP,dA,evX,uV]
  unfold cy at he
  split at he
  ·rename_i gd hgd
   have fin:∀(mo:MO) (mos':List MO),mo.op=(bW P (sE on vs ops o) (vk vs ts) o.op).getD mP->mo.guard=gd->eB E (mo :: mos') σ T A=some (σ',A') ->
     (∀v w' OK' g' x A2,aW w' OK' g' v x->cq w' OK' g' A2->Ext w OK g w' OK' g'->eB E mos' (dG σ mo.dst x) (T++[x]) A2=some (σ',A')->wpOpsIn (FW rd) n P ops Q (List.range' (k+1) rest.length) (a.put o.dst v) w') ->
     (if Region.wanted o (yielded ops a.tmps) then o.wpIn (FW rd) n P a w (wpOpsIn (FW rd) n P ops Q (List.range' (k+1) rest.length)) Q
      else (∀f,o.about P w a.eval=some f->(FW rd).fn f)/\wpOpsIn (FW rd) n P ops Q (List.range' (k+1) rest.length) (a.put o.dst undef) w):=by
    rintro ⟨mdst,mop,mg⟩ mos' hm' hg' he2 hnext
    simp only at hm' hg'
    subst hg'
    simp only [eB] at he2
    split at he2
    ·rename_i hgt
     rw [h.guard hvl hgd hgt,RH rfl]
     split at he2
     ·rename_i x A2 hst
      cases hm:bW P (sE on vs ops o) (vk vs ts) o.op with
      | none=>
       rw [hm] at hm'
       simp only [Option.getD_none] at hm'
       subst hm'
       rcases sI (E:=E) (evX E σ T) A with h0 | ⟨x0,_,h0⟩
       ·rw [h0] at hst; cases hst
       ·exact absurd rfl h0
      | some m=>
       rw [hm] at hm'
       simp only [Sq] at hm'
       subst hm'
       exact yP hE h hm hst (fun v w' OK' g' k1 k2 k3=>hnext v w' OK' g' x A2 k1 k2 k3 he2)
     ·cases he2
    ·rename_i hgt
     rw [h.guard hvl hgd hgt]
     refine ⟨fun f _=>Id rd f,hnext undef w OK g (.tup []) A ?_ h.arena (Ext.refl _ _ _) he2⟩
     exact .tup _ _ [] rfl (fun _=>undef) (fun i hi=>by simp at hi) (fun i hi=>by simp at hi)
    ·cases he2
   simp only at he
   split at he
   ·rename_i hdst
    refine fin _ _ rfl rfl he (fun v w' OK' g' x A2 k1 k2 k3 k4=>?_)
    rw [hdst]
    exact ih _ _ _ A2 _ w' OK' g' ((h.ext k3 k2).putNone v x) (hx.trans k3) k4
   ·rename_i t hdst
    split at he
    ·rename_i i hi
     obtain ⟨hlt,het⟩:=SR.1 hi |> fun h=>(⟨h.1,h.2.1⟩:∃h:i<vs.length,vs[i]=t)
     refine fin _ _ rfl rfl he (fun v w' OK' g' x A2 k1 k2 k3 k4=>?_)
     rw [hdst]
     exact ih _ _ _ A2 _ w' OK' g' ((h.ext k3 k2).putVar hvn hvl hlt het k1 x) (hx.trans k3) k4
    ·rename_i hni
     split at he
     ·rename_i hc
      refine fin _ _ rfl rfl he (fun v w' OK' g' x A2 k1 k2 k3 k4=>?_)
      rw [hdst]
      exact ih _ _ _ A2 _ w' OK' g' ((h.ext k3 k2).putTmp hc.1 (by simpa using hni) hc.2 k1) (hx.trans k3) k4
     ·rw [hbad] at he; cases he
  ·rw [hbad] at he; cases he
end
section
variable {P:Program} {E:Env} {N:Nat} {vs:List Nat} {base:Nat} {rd:Option Nat} {n:Nat}
theorem oa {ρ ρ':MX->AV} (m:MOp) (h:∀x∈m.xs,ρ x=ρ' x) (A:ac):a0 E ρ A m=a0 E ρ' A m:=by
 cases m with
 | call f args=>simp only [a0,h f (by simp [MOp.xs]),Sb (l:=args) (fun x hx=>h x (by simp [MOp.xs,hx]))]
 | build zs ps=>
  simp only [a0,dA]
  rw [Sb (g:=fun x:Nat × Nat × MX=>(x.1,x.2.1,ρ' x.2.2)) (fun x hx=>by rw [h x.2.2 (by simp only [MOp.xs,Sa]; exact ⟨x,hx,rfl⟩)])]
 | buildF e xs=>simp only [a0,dA,Sb (l:=xs) (fun x hx=>h x (by simp [MOp.xs,hx]))]
 | buildSlice e xs=>simp only [a0,dA,Sb (l:=xs) (fun x hx=>h x (by simp [MOp.xs,hx]))]
 | makeFunc fn a b=>simp only [a0,dA,Sb (l:=a) (fun x hx=>h x (by simp [MOp.xs,hx])),Sb (l:=b) (fun x hx=>h x (by simp [MOp.xs,hx]))]
 | minmax b x xs=>simp only [a0,dA,h x (by simp [MOp.xs]),Sb (l:=xs) (fun x hx=>h x (by simp [MOp.xs,hx]))]
 | sliceStr x lo hi=>cases lo <;> cases hi <;> simp_all [a0,dA,MOp.xs]
 | sliceSl e x lo hi=>cases lo <;> cases hi <;> simp_all [a0,dA,MOp.xs]
 | sliceArr n e x lo hi=>cases lo <;> cases hi <;> simp_all [a0,dA,MOp.xs]
 | sliceM e x lo hi mx=>cases lo <;> simp_all [a0,dA,MOp.xs]
 | _=>simp_all [a0,dA,MOp.xs]
def dx (E:Env) (o:MO) (ρ:MX->AV) (A:ac):Option (AV × ac):=
 match dg ρ o.guard with
 | some true=>a0 E ρ A o.op
 | some false=>some (.tup [],A)
 | none=>none
theorem oc {ρ ρ':MX->AV} (o:MO) (h:∀x∈o.reads,ρ x=ρ' x) (A:ac):dx E o ρ A=dx E o ρ' A:=by
 unfold dx
 rw [oa o.op (fun x hx=>h x (by simp [MO.reads,hx])) A]
 cases hg:o.guard with
 | none=>rfl
 | some p=>
  obtain ⟨x,want⟩:=p
  simp only [dg,h x (by simp [MO.reads,hg])]
abbrev St:=List AV × List AV × ac
def Ek (E:Env) (mos:List MO) (i:Nat) (s:St):Option St:=
 match mos[i]? with
 | none=>none
 | some o=>(dx E o (evX E s.1 s.2.1) s.2.2).map fun x=>(dG s.1 o.dst x.1,s.2.1.set i x.1,x.2)
theorem Nz {pu:List FuncId} {m:MOp} (h:gO pu m=0) (ρ:MX->AV) (A:ac):bZ E pu ρ A m=.no:=by
 cases m with
 | call f args=>cases f <;> simp [gO] at h <;> (split at h <;> simp at h)
 | _=>first | rfl | (simp [gO] at h; done)
theorem Ny {pu:List FuncId} {m:MOp} (h:gO pu m=1) (ρ:MX->AV) (A:ac):(bZ E pu ρ A m).wr=some []/\(bZ E pu ρ A m).al=false:=by
 cases m with
 | call f args=>
  cases f with
  | fn f=>
   simp only [gO] at h
   split at h
   ·rename_i hc
    simp only [bZ,hc,SX]
    split <;> exact ⟨rfl,rfl⟩
   ·cases h
  | _=>simp [gO] at h
 | _=>first | exact ⟨rfl,rfl⟩ | (simp [gO] at h; done)
def dJ (u:Option (Nat × Ent)) (A:ac):ac:=match u with
 | some (i,e)=>A.set i e
 | none=>A
theorem df (u:Option (Nat × Ent)) (A:ac):(dJ u A).length=A.length:=by cases u <;> simp [dJ]
theorem xj {u:Option (Nat × Ent)} {A:ac} {k:Nat} (h:∀x,u=some x->x.1≠k):(dJ u A)[k]?=A[k]?:=by
 cases u with
 | none=>rfl
 | some x=>exact RF (h x rfl)
theorem pq {u:Option (Nat × Ent)} {A p:ac} (h:∀x,u=some x->x.1<A.length):dJ u (A++p)=dJ u A++p:=by
 cases u with
 | none=>rfl
 | some x=>simp only [dJ]; rw [Th _ _ (h x rfl)]
theorem zN {u u':Option (Nat × Ent)} {A:ac} (h:∀x y,u=some x->u'=some y->x.1≠y.1):dJ u (dJ u' A)=dJ u' (dJ u A):=by
 cases u with
 | none=>rfl
 | some x=>
  cases u' with
  | none=>rfl
  | some y=>exact TF _ _ (S4 (h x y rfl rfl))
structure rM (F:fJ) (W:List Nat) (A B:ac):Prop where
 all:F.rd=none->B=A
 rd:∀l,F.rd=some l->∀id∈l,B[id]?=A[id]?
 wr:∀id∈W,B[id]?=A[id]?
 len:F.al=true->B.length=A.length
theorem uZ {agg:Bool} {A B:ac} {a:AV} (h:∀id∈bj a,B[id]?=A[id]?):ab agg size B a=ab agg size A a:=by
 cases a <;> simp only [ab]
 rw [h _ (by simp [bj])]
theorem eQ {esz:Nat} {A B:ac} {a:AV} (h:∀id∈bj a,B[id]?=A[id]?):a8 esz B a=a8 esz A a:=by
 cases a <;> simp only [a8]
 rw [h _ (by simp [bj])]
theorem qC {esz:Nat} {A B:ac} {a b:AV} (h:∀id∈bj a,B[id]?=A[id]?):ae esz B a b=ae esz A a b:=by
 cases a <;> cases b <;> simp only [ae]
 rw [h _ (by simp [bj])]
theorem oI {n s:Nat} {A B:ac} {a b:AV} (h:∀id∈bj a,B[id]?=A[id]?):dy n s B a b=dy n s A a b:=by
 cases a <;> cases b <;> simp only [dy]
 rw [h _ (by simp [bj])]
theorem ng {n:Nat} {A B:ac} {a:AV} (h:∀id∈bj a,B[id]?=A[id]?):aa n B a=aa n A a:=by
 cases a <;> simp only [aa]
 rw [h _ (by simp [bj])]
theorem jj {n:Nat} {lo hi:Option AV} {A B:ac} {a:AV} (h:∀id∈bj a,B[id]?=A[id]?):ce n B lo hi a=ce n A lo hi a:=by
 cases a <;> simp only [ce]
 rw [h _ (by simp [bj])]
theorem oC {m n:Nat} {lo hi:Option AV} {A B:ac} {a:AV} (h:∀id∈bj a,B[id]?=A[id]?):eM m n B lo hi a=eM m n A lo hi a:=by
 cases a <;> simp only [eM]
 rw [h _ (by simp [bj])]
theorem ro {n:Nat} {lo:Option AV} {hi mx:AV} {A B:ac} {a:AV} (h:∀id∈bj a,B[id]?=A[id]?):eA n B lo hi mx a=eA n A lo hi mx a:=by
 unfold eA
 split
 ·rw [jj h]
 ·rfl
theorem ru {A B:ac} {a:AV} (h:∀id∈bj a,B[id]?=A[id]?):iA B a=iA A a:=by
 cases a <;> simp only [iA]
 rw [h _ (by simp [bj])]
theorem tO {A B:ac} {a:AV} (h:∀id∈bj a,B[id]?=A[id]?):kJ B a=kJ A a:=by
 cases a <;> simp only [kJ,eQ h]
theorem rq {ok:Bool} {z:AV} {A B:ac} {a b:AV} (h:∀id∈bj a,B[id]?=A[id]?):cH ok z B a b=cH ok z A a b:=by
 cases a <;> cases b <;> simp only [cH]
 all_goals rw [h _ (by simp [bj])]
theorem mC {A A1:ac} {a b:AV} (h1:az size A a b=some A1):∃id e,bj a=[id]/\id<A.length/\A1=A.set id e/\∀B:ac,B[id]?=A[id]?->az size B a b=some (B.set id e):=by
 cases a <;> simp only [az,reduceCtorEq] at h1
 rename_i id i o
 split at h1
 ·rename_i esz gr es hid
  have hlt:=(Rv.1 hid).1
  split at h1
  ·rename_i e0 hi
   split at h1
   ·rename_i hc
    split at h1
    ·rename_i e' hse
     injection h1 with h1
     exact ⟨id,_,rfl,hlt,h1.symm,fun B hB=>by simp only [az,hB,hid,hi,RH hc,hse]⟩
    ·cases h1
   ·cases h1
  ·cases h1
 ·cases h1
theorem rj {A A1:ac} {a b:AV} (h1:eU size A a b=some A1):∃id e,bj a=[id]/\id<A.length/\A1=A.set id e/\∀B:ac,B[id]?=A[id]?->eU size B a b=some (B.set id e):=by
 cases a <;> simp only [eU,reduceCtorEq] at h1
 rename_i id i o
 split at h1
 ·rename_i esz gr es hid
  have hlt:=(Rv.1 hid).1
  split at h1
  ·rename_i hc
   split at h1
   ·rename_i hc'
    injection h1 with h1
    exact ⟨id,_,rfl,hlt,h1.symm,fun B hB=>by simp only [eU,hB,hid,RH hc,RH hc']⟩
   ·cases h1
  ·rename_i hc
   obtain ⟨id',e,q1,q2,q3,q4⟩:=mC h1
   simp only [bj,List.cons.injEq,and_true] at q1
   subst q1
   exact ⟨id,e,rfl,q2,q3,fun B hB=>by simp only [eU,hB,hid,RK hc]; exact q4 B hB⟩
 ·cases h1
theorem nc {A A1:ac} {a k x:AV} (h1:bQ A a k x=some A1):∃id e,bj a=[id]/\id<A.length/\A1=A.set id e/\∀B:ac,B[id]?=A[id]?->bQ B a k x=some (B.set id e):=by
 cases a <;> simp only [bQ,reduceCtorEq] at h1
 rename_i id
 split at h1
 ·rename_i kvs hid
  have hlt:=(Rv.1 hid).1
  split at h1
  ·rename_i i0 v0 hf
   injection h1 with h1
   exact ⟨id,_,rfl,hlt,h1.symm,fun B hB=>by simp only [bQ,hB,hid,hf]⟩
  ·rename_i hf
   refine ⟨id,.map (kvs++[(k,x)]),rfl,hlt,?_,fun B hB=>?_⟩
   ·cases k <;> simp only [reduceCtorEq,Rz] at h1 <;> exact h1.symm
   ·cases k <;> simp only [reduceCtorEq,Rz] at h1 <;> simp only [bQ,hB,hid,hf]
  ·cases h1
 ·cases h1
def vO (E:Env) (pu:List FuncId) (ρ:MX->AV) (m:MOp) (A:ac) (v:AV) (A':ac):Prop:=
 ∀W,(bZ E pu ρ A m).wr=some W->∃(u:Option (Nat × Ent)) (p:Option Ent),(∀x,u=some x->x.1∈W/\x.1<A.length)/\((bZ E pu ρ A m).al=false->p=none)/\((bZ E pu ρ A m).al=true->A.length∈W)/\A'=dJ u A++p.toList /\
  ∀B,rM (bZ E pu ρ A m) W A B->a0 E ρ B m=some (v,dJ u B++p.toList)/\bZ E pu ρ B m=bZ E pu ρ A m
theorem qr {pu:List FuncId} {ρ:MX->AV} {m:MOp} {A A':ac} {v:AV} (hf:(bZ E pu ρ A m).wr=some []/\(bZ E pu ρ A m).al=false) (h1:A'=A) (hc:∀B,rM (bZ E pu ρ A m) [] A B->a0 E ρ B m=some (v,B)/\bZ E pu ρ B m=bZ E pu ρ A m):vO E pu ρ m A v A':=by
 intro W hW
 rw [hf.1] at hW
 injection hW with hW; subst hW
 exact ⟨none,none,(fun x h=>by cases h),fun _=>rfl,(fun h=>by rw [hf.2] at h; cases h),by simp [dJ,h1],fun B hB=>by simpa [dJ] using hc B hB⟩
theorem f6 {pu:List FuncId} {ρ:MX->AV} {m:MOp} {A A':ac} {v:AV} {e:Ent} (hf:∀B,bZ E pu ρ B m=⟨some [],some [B.length],true,kp0⟩) (h1:A'=A++[e]) (hc:∀B:ac,B.length=A.length->a0 E ρ B m=some (v,B++[e])):vO E pu ρ m A v A':=by
 intro W hW
 rw [hf A] at hW
 injection hW with hW; subst hW
 refine ⟨none,some e,(fun x h=>by cases h),fun h=>?_,(fun _=>by simp),by simp [dJ,h1],fun B hB=>?_⟩
 ·rw [hf A] at h; cases h
 ·have hl:=hB.len (by rw [hf A])
  exact ⟨by simpa [dJ] using hc B hl,by rw [hf A,hf B,hl]⟩
def bG (E:Env) (pu:List FuncId):Prop:=∀f∈pu,∀h args A r A',E.callY h (.func (.func f) [] []) args A=some (r,A')->A'=A/\(args.all (bu 4)=true->∀B,E.callY h (.func (.func f) [] []) args B=some (r,B))
theorem bG.nil {E:Env}:bG E []:=fun _ h=>by cases h
theorem PN {pu:List FuncId} (hpu:bG E pu) {ρ:MX->AV} (hfn:∀f,ρ (.fn f)=.func (.func f) [] []) {m:MOp} {A:ac} {v:AV} {A':ac} (he:a0 E ρ A m=some (v,A')):vO E pu ρ m A v A':=by
 have rd1:∀(x:AV) (f:ac->Option AV) ,(∀B,bZ E pu ρ B m=⟨some (bj x),some [],false,kp0⟩)->(∀B,a0 E ρ B m=(f B).map (·,B))->(∀B,(∀id∈bj x,B[id]?=A[id]?)->f B=f A)->vO E pu ρ m A v A':=by
  intro x f hF hS hcg
  rw [hS] at he
  simp only [RJ,RQ] at he
  obtain ⟨y,h1,h2,h3⟩:=he
  refine qr (by rw [hF A]; exact ⟨rfl,rfl⟩) h3.symm (fun B hB=>⟨?_,by rw [hF A,hF B]⟩)
  rw [hS,hcg B (hB.rd _ (by rw [hF A])),h1,<-h2]
  rfl
 have rd0:∀(r:Option AV),(∀B,bZ E pu ρ B m=.no)->(∀B,a0 E ρ B m=r.map (·,B))->vO E pu ρ m A v A':=by
  intro r hF hS
  rw [hS] at he
  simp only [RJ,RQ] at he
  obtain ⟨y,h1,h2,h3⟩:=he
  refine qr (by rw [hF A]; exact ⟨rfl,rfl⟩) h3.symm (fun B hB=>⟨?_,by rw [hF A,hF B]⟩)
  rw [hS,h1,<-h2]
  rfl
 cases m with
 | load agg size p=>exact rd1 (ρ p) (fun B=>ab agg size B (ρ p)) (fun _=>rfl) (fun _=>rfl) (fun B h=>uZ h)
 | fieldAddr off p=>exact rd1 (ρ p) (fun B=>aa off B (ρ p)) (fun _=>rfl) (fun _=>rfl) (fun B h=>ng h)
 | indexSl esz x i=>exact rd1 (ρ x) (fun B=>ae esz B (ρ x) (ρ i)) (fun _=>rfl) (fun _=>rfl) (fun B h=>qC h)
 | indexArr n s x i=>exact rd1 (ρ x) (fun B=>dy n s B (ρ x) (ρ i)) (fun _=>rfl) (fun _=>rfl) (fun B h=>oI h)
 | sliceSl esz x lo hi=>exact rd1 (ρ x) (fun B=>ce esz B (lo.map ρ) (hi.map ρ) (ρ x)) (fun _=>rfl) (fun _=>rfl) (fun B h=>jj h)
 | sliceArr n esz x lo hi=>exact rd1 (ρ x) (fun B=>eM n esz B (lo.map ρ) (hi.map ρ) (ρ x)) (fun _=>rfl) (fun _=>rfl) (fun B h=>oC h)
 | sliceM esz x lo hi mx=>exact rd1 (ρ x) (fun B=>eA esz B (lo.map ρ) (ρ hi) (ρ mx) (ρ x)) (fun _=>rfl) (fun _=>rfl) (fun B h=>ro h)
 | lenMap x=>exact rd1 (ρ x) (fun B=>iA B (ρ x)) (fun _=>rfl) (fun _=>rfl) (fun B h=>ru h)
 | toStr x=>exact rd1 (ρ x) (fun B=>kJ B (ρ x)) (fun _=>rfl) (fun _=>rfl) (fun B h=>tO h)
 | lookup kd ok z x k=>exact rd1 (ρ x) (fun B=>if wN kd (ρ k) then cH ok z B (ρ x) (ρ k) else none) (fun _=>rfl) (fun B=>by simp only [a0,dA]; split <;> rfl) (fun B h=>by simp only [rq h])
 | store size p x=>
  intro W hW
  injection hW with hW; subst hW
  simp only [a0,dA,RJ,RQ] at he
  obtain ⟨A1,h1,rfl,rfl⟩:=he
  have key:=mC h1
  obtain ⟨id,e,hid,hlt,rfl,hB⟩:=key
  refine ⟨some (id,e),none,fun x h=>?_,fun _=>rfl,fun h=>(by cases h),by simp [dJ],fun B hA=>⟨?_,rfl⟩⟩
  ·injection h with h; subst h; exact ⟨by rw [hid]; simp,hlt⟩
  ·simp only [a0,dA,hB B (hA.wr id (by rw [hid]; simp))]
   simp [dJ]
 | storeA size p x=>
  intro W hW
  injection hW with hW; subst hW
  simp only [a0,dA,RJ,RQ] at he
  obtain ⟨A1,h1,rfl,rfl⟩:=he
  have key:=rj h1
  obtain ⟨id,e,hid,hlt,rfl,hB⟩:=key
  refine ⟨some (id,e),none,fun x h=>?_,fun _=>rfl,fun h=>(by cases h),by simp [dJ],fun B hA=>⟨?_,rfl⟩⟩
  ·injection h with h; subst h; exact ⟨by rw [hid]; simp,hlt⟩
  ·simp only [a0,dA,hB B (hA.wr id (by rw [hid]; simp))]
   simp [dJ]
 | mapUpdate kd mm k x=>
  intro W hW
  injection hW with hW; subst hW
  simp only [a0,dA,Ry,RJ,RQ] at he
  obtain ⟨hk,A1,h1,rfl,rfl⟩:=he
  have key:=nc h1
  obtain ⟨id,e,hid,hlt,rfl,hB⟩:=key
  refine ⟨some (id,e),none,fun x h=>?_,fun _=>rfl,fun h=>(by cases h),by simp [dJ],fun B hA=>⟨?_,rfl⟩⟩
  ·injection h with h; subst h; exact ⟨by rw [hid]; simp,hlt⟩
  ·simp only [a0,dA,hk,SX,hB B (hA.wr id (by rw [hid]; simp))]
   simp [dJ]
 | copy esz d x=>
  intro W hW
  injection hW with hW; subst hW
  simp only [a0,dA] at he
  unfold oe at he
  split at he
  ·cases he
  ·rename_i xs hsrc
   have hs:∀B,rM (bZ E pu ρ A (.copy esz d x)) (bj (ρ d)) A B->a8 esz B (ρ x)=some xs:=fun B hB=>by rw [eQ (hB.rd _ rfl)]; exact hsrc
   split at he
   ·rename_i hd
    simp only [Rz,RQ] at he
    obtain ⟨rfl,rfl⟩:=he
    refine ⟨none,none,fun x h=>(by cases h),fun _=>rfl,fun h=>(by cases h),by simp [dJ],fun B hB=>⟨?_,rfl⟩⟩
    simp [a0,dA,oe,hs B hB,hd,dJ]
   ·rename_i id off len hd
    split at he
    ·rename_i s' gr es hid
     simp only [Ry,Rz,RQ] at he
     obtain ⟨hc,rfl,rfl⟩:=he
     have hlt:=(Rv.1 hid).1
     refine ⟨some (id,_),none,fun x h=>?_,fun _=>rfl,fun h=>(by cases h),by simp [dJ]; rfl,fun B hB=>⟨?_,rfl⟩⟩
     ·injection h with h; subst h; exact ⟨by rw [hd]; simp [bj],hlt⟩
     ·have:=hB.wr id (by rw [hd]; simp [bj])
      simp only [a0,dA,oe,hs B hB,hd,this,hid,RH hc,dJ]
      simp
    ·cases he
   ·cases he
 | append esz bytes sx x=>
  intro W hW
  injection hW with hW; subst hW
  simp only [a0,dA] at he
  unfold aR at he
  split at he
  ·cases he
  ·rename_i xs hsrc
   have hs:∀B,rM (bZ E pu ρ A (.append esz bytes sx x)) (A.length :: bj (ρ sx)) A B->a8 esz B (ρ x)=some xs:=fun B hB=>by rw [eQ (hB.rd _ rfl)]; exact hsrc
   have hft:∀B,rM (bZ E pu ρ A (.append esz bytes sx x)) (A.length :: bj (ρ sx)) A B->bZ E pu ρ B (.append esz bytes sx x)=bZ E pu ρ A (.append esz bytes sx x):=fun B hB=>by
    simp only [bZ,hB.len rfl]
   have hal:∀ {p:Prop},(bZ E pu ρ A (.append esz bytes sx x)).al=false->p:=fun h=>by cases h
   split at he
   ·rename_i hd
    split at he
    ·rename_i h0
     simp only [Rz,RQ] at he
     obtain ⟨rfl,rfl⟩:=he
     refine ⟨none,none,fun x h=>(by cases h),fun h=>hal h,fun _=>(by simp),by simp [dJ],fun B hB=>⟨?_,hft B hB⟩⟩
     simp [a0,dA,aR,hs B hB,hd,h0,dJ]
    ·rename_i h0
     simp only [Ry,Rz,RQ] at he
     obtain ⟨hc,rfl,rfl⟩:=he
     refine ⟨none,some _,fun x h=>(by cases h),fun h=>hal h,fun _=>(by simp),by simp [dJ]; rfl,fun B hB=>⟨?_,hft B hB⟩⟩
     have hl:=hB.len rfl
     simp only [a0,dA,aR,hs B hB,hd,RK h0,RH hc,dJ,hl]
     simp
   ·rename_i id off len hd
    split at he
    ·rename_i s' gr es hid
     simp only [Ry] at he
     obtain ⟨hc,he⟩:=he
     have hlt:=(Rv.1 hid).1
     split at he
     ·rename_i hc2
      simp only [Rz,RQ] at he
      obtain ⟨rfl,rfl⟩:=he
      refine ⟨some (id,_),none,fun x h=>?_,fun h=>hal h,fun _=>(by simp),by simp [dJ]; rfl,fun B hB=>⟨?_,hft B hB⟩⟩
      ·injection h with h; subst h; exact ⟨by rw [hd]; simp [bj],hlt⟩
      ·have:=hB.wr id (by rw [hd]; simp [bj])
       simp only [a0,dA,aR,hs B hB,hd,this,hid,RH hc,RH hc2,dJ]
       simp
     ·rename_i hc2
      simp only [Rz,RQ] at he
      obtain ⟨rfl,rfl⟩:=he
      refine ⟨some (id,.dead),some _,fun x h=>?_,fun h=>hal h,fun _=>(by simp),by simp [dJ]; rfl,fun B hB=>⟨?_,hft B hB⟩⟩
      ·injection h with h; subst h; exact ⟨by rw [hd]; simp [bj],hlt⟩
      ·have:=hB.wr id (by rw [hd]; simp [bj])
       have hl:=hB.len rfl
       simp only [a0,dA,aR,hs B hB,hd,this,hid,RH hc,RK hc2,dJ,hl]
       simp
    ·cases he
   ·cases he
 | appendN esz bytes sx x=>
  intro W hW
  injection hW with hW; subst hW
  simp only [a0,dA] at he
  unfold cU at he
  split at he
  ·cases he
  ·rename_i xs hsrc
   have hs:∀B,rM (bZ E pu ρ A (.appendN esz bytes sx x)) (A.length :: bj (ρ sx)) A B->a8 esz B (ρ x)=some xs:=fun B hB=>by rw [eQ (hB.rd _ rfl)]; exact hsrc
   have hft:∀B,rM (bZ E pu ρ A (.appendN esz bytes sx x)) (A.length :: bj (ρ sx)) A B->bZ E pu ρ B (.appendN esz bytes sx x)=bZ E pu ρ A (.appendN esz bytes sx x):=fun B hB=>by
    simp only [bZ,hB.len rfl]
   have hal:∀ {p:Prop},(bZ E pu ρ A (.appendN esz bytes sx x)).al=false->p:=fun h=>by cases h
   split at he
   ·rename_i hd
    split at he
    ·rename_i h0
     simp only [Rz,RQ] at he
     obtain ⟨rfl,rfl⟩:=he
     refine ⟨none,none,fun x h=>(by cases h),fun h=>hal h,fun _=>(by simp),by simp [dJ],fun B hB=>⟨?_,hft B hB⟩⟩
     simp [a0,dA,cU,hs B hB,hd,h0,dJ]
    ·rename_i h0
     simp only [Ry,Rz,RQ] at he
     obtain ⟨hc,rfl,rfl⟩:=he
     refine ⟨none,some _,fun x h=>(by cases h),fun h=>hal h,fun _=>(by simp),by simp [dJ]; rfl,fun B hB=>⟨?_,hft B hB⟩⟩
     have hl:=hB.len rfl
     simp only [a0,dA,cU,hs B hB,hd,RK h0,RH hc,dJ,hl]
     simp
   ·rename_i id off len hd
    split at he
    ·rename_i s' gr es hid
     simp only [Ry] at he
     obtain ⟨hc,he⟩:=he
     have hlt:=(Rv.1 hid).1
     ·simp only [Rz,RQ] at he
      obtain ⟨rfl,rfl⟩:=he
      refine ⟨some (id,.dead),some _,fun x h=>?_,fun h=>hal h,fun _=>(by simp),by simp [dJ]; rfl,fun B hB=>⟨?_,hft B hB⟩⟩
      ·injection h with h; subst h; exact ⟨by rw [hd]; simp [bj],hlt⟩
      ·have:=hB.wr id (by rw [hd]; simp [bj])
       have hl:=hB.len rfl
       simp only [a0,dA,cU,hs B hB,hd,this,hid,RH hc,dJ,hl]
       simp
    ·cases he
   ·rename_i id off len hd
    split at he
    ·rename_i s' gr es hid
     simp only [Ry,Rz,RQ] at he
     obtain ⟨hc,rfl,rfl⟩:=he
     refine ⟨none,some _,fun x h=>(by cases h),fun h=>hal h,fun _=>(by simp),by simp [dJ]; rfl,fun B hB=>⟨?_,hft B hB⟩⟩
     have:=hB.wr id (by rw [hd]; simp [bj])
     have hl:=hB.len rfl
     simp only [a0,dA,cU,hs B hB,hd,this,hid,RH hc,dJ,hl]
     simp
    ·cases he
   ·cases he
 | clear esz z x=>
  intro W hW
  injection hW with hW; subst hW
  simp only [a0,dA] at he
  unfold nh at he
  split at he
  ·rename_i hd
   simp only [Rz,RQ] at he
   obtain ⟨rfl,rfl⟩:=he
   refine ⟨none,none,fun x h=>(by cases h),fun _=>rfl,fun h=>(by cases h),by simp [dJ],fun B hB=>⟨?_,rfl⟩⟩
   simp [a0,dA,nh,hd,dJ]
  ·rename_i id off len hd
   split at he
   ·rename_i s' gr es hid
    simp only [Ry,Rz,RQ] at he
    obtain ⟨hc,rfl,rfl⟩:=he
    have hlt:=(Rv.1 hid).1
    refine ⟨some (id,_),none,fun x h=>?_,fun _=>rfl,fun h=>(by cases h),by simp [dJ]; rfl,fun B hB=>⟨?_,rfl⟩⟩
    ·injection h with h; subst h; exact ⟨by rw [hd]; simp [bj],hlt⟩
    ·have:=hB.wr id (by rw [hd]; simp [bj])
     simp only [a0,dA,nh,hd,this,hid,RH hc,dJ]
     simp
   ·cases he
  ·cases he
 | alloc size z=>
  simp only [a0,dA,aS,Ry,Rz,RQ] at he
  obtain ⟨hc,rfl,rfl⟩:=he
  exact f6 (fun _=>rfl) rfl (fun B hB=>by simp only [a0,dA,aS,RH hc,hB])
 | allocA zs=>
  simp only [a0,dA,jM,Ry,Rz,RQ] at he
  obtain ⟨hc,rfl,rfl⟩:=he
  exact f6 (fun _=>rfl) rfl (fun B hB=>by simp only [a0,dA,jM,RH hc,hB])
 | box x=>
  simp only [a0,dA,aS,Ry,Rz,RQ] at he
  obtain ⟨hc,rfl,rfl⟩:=he
  exact f6 (fun _=>rfl) rfl (fun B hB=>by simp only [a0,dA,aS,RH hc,hB])
 | buildSlice esz xs=>
  simp only [a0,dA,aI,Ry,Rz,RQ] at he
  obtain ⟨hc,rfl,rfl⟩:=he
  exact f6 (fun _=>rfl) rfl (fun B hB=>by simp only [a0,dA,aI,RH hc,hB])
 | makeSlice esz bytes z l c=>
  simp only [a0,dA] at he
  unfold bU at he
  split at he
  ·rename_i k1 l' k2 c' hl hc
   simp only [Ry,Rz,RQ] at he
   obtain ⟨hcc,rfl,rfl⟩:=he
   exact f6 (fun _=>rfl) rfl (fun B hB=>by simp only [a0,dA,hl,hc,bU,RH hcc,hB])
  ·cases he
 | toBytes x=>
  simp only [a0,dA] at he
  unfold gS at he
  split at he
  ·rename_i l hl
   simp only [Rz,RQ] at he
   obtain ⟨rfl,rfl⟩:=he
   exact f6 (fun _=>rfl) rfl (fun B hB=>by simp only [a0,dA,hl,gS,hB])
  ·cases he
 | makeMap=>
  simp only [a0,dA,eC,Rz,RQ] at he
  obtain ⟨rfl,rfl⟩:=he
  exact f6 (fun _=>rfl) rfl (fun B hB=>by simp only [a0,dA,eC,hB])
 | call f args=>
  intro W hW
  cases f with
  | fn f=>
   by_cases hc:pu.contains f=true
   ·simp only [a0,hfn,Env.call] at he
    obtain ⟨rfl,h2⟩:=hpu f (by simpa using hc) _ _ _ _ _ he
    have hal:(bZ E pu ρ A' (.call (.fn f) args)).al=false:=by simp only [bZ,hc,SX]; split <;> rfl
    have hW0:W=[]:=by
     simp only [bZ,hc,SX] at hW
     split at hW <;> (injection hW with hW; exact hW.symm)
    subst hW0
    refine ⟨none,none,fun x h=>(by cases h),fun _=>rfl,fun h=>(by rw [hal] at h; cases h),by simp [dJ],fun B hB=>⟨?_,?_⟩⟩
    ·simp only [a0,hfn,Env.call,dJ,Option.toList_none,Sk]
     by_cases hn:(args.map ρ).all (bu 4)=true
     ·exact h2 hn B
     ·have:B=A':=hB.all (by simp only [bZ,hc,SX]; rw [RK hn])
      rw [this]; exact he
    ·simp only [bZ]
     rw [RH hc,RH hc]
   ·simp only [bZ] at hW
    rw [RK hc] at hW
    cases hW
  | _=>cases hW
 | sliceStr x lo hi=>exact rd0 (gT (lo.map ρ) (hi.map ρ) (ρ x)) (fun _=>rfl) (fun _=>rfl)
 | pick c a b=>exact rd0 (match ρ c with | .bool t=>some (if t then ρ a else ρ b) | _=>none) (fun _=>rfl) (fun B=>by simp only [a0,dA]; cases ρ c <;> rfl)
 | same x=>exact rd0 (match ρ x with | .str s=>some (.str s) | _=>none) (fun _=>rfl) (fun B=>by simp only [a0,dA]; cases ρ x <;> rfl)
 | mv x=>exact rd0 (some (ρ x)) (fun _=>rfl) (fun _=>rfl)
 | makeFunc fn first cap=>exact rd0 (some (.func fn (first.map ρ) (cap.map ρ))) (fun _=>rfl) (fun _=>rfl)
 | build zs ps=>exact rd0 ((my zs (ps.map fun x=>(x.1,x.2.1,ρ x.2.2))).map .agg) (fun _=>rfl) (fun B=>by simp only [a0,dA,Option.map_map]; rfl)
 | eqNil kind neg x=>exact rd0 ((mj kind (ρ x)).map fun b=>.bool (if neg then !b else b)) (fun _=>rfl) (fun B=>by simp only [a0,dA,Option.map_map]; rfl)
 | bin op x y=>exact rd0 (ag op (ρ x) (ρ y)) (fun _=>rfl) (fun _=>rfl)
 | eqBool neg x y=>exact rd0 (mE neg (ρ x) (ρ y)) (fun _=>rfl) (fun _=>rfl)
 | un op x=>exact rd0 (uV op (ρ x)) (fun _=>rfl) (fun _=>rfl)
 | convInt k x=>exact rd0 (jm k (ρ x)) (fun _=>rfl) (fun _=>rfl)
 | nilCheck x=>exact rd0 (jL (ρ x)) (fun _=>rfl) (fun _=>rfl)
 | part agg off size x=>exact rd0 (kr agg off size (ρ x)) (fun _=>rfl) (fun _=>rfl)
 | indexVal agg n s x i=>exact rd0 (gU agg n s (ρ x) (ρ i)) (fun _=>rfl) (fun _=>rfl)
 | indexStr x i=>exact rd0 (gV (ρ x) (ρ i)) (fun _=>rfl) (fun _=>rfl)
 | extract x k=>exact rd0 (jl k (ρ x)) (fun _=>rfl) (fun _=>rfl)
 | lenStr x=>exact rd0 (mD (ρ x)) (fun _=>rfl) (fun _=>rfl)
 | lenSl x=>exact rd0 (aq (ρ x)) (fun _=>rfl) (fun _=>rfl)
 | minmax isMax x xs=>exact rd0 (dq isMax (ρ x) (xs.map ρ)) (fun _=>rfl) (fun _=>rfl)
 | eqAgg neg l x y=>exact rd0 (iB neg l (ρ x) (ρ y)) (fun _=>rfl) (fun _=>rfl)
 | buildF esz xs=>exact rd0 (bI esz (xs.map ρ)) (fun _=>rfl) (fun _=>rfl)
theorem sH {σ T:List AV} {d:Option Nat} {v:AV} {x:MX} (h:∀k,d=some k->x≠.var k):evX E (dG σ d v) T x=evX E σ T x:=by
 cases d with
 | none=>rfl
 | some k=>
  cases x with
  | var i=>
   have hne:k≠i:=fun e=>h k rfl (by rw [e])
   simp [evX,dG,RF hne]
  | _=>rfl
theorem yh {σ T:List AV} {i:Nat} {v:AV} {x:MX} (h:x≠.tmp i):evX E σ (T.set i v) x=evX E σ T x:=by
 cases x with
 | tmp j=>
  have hne:i≠j:=fun e=>h (by rw [e])
  simp [evX,RF hne]
 | _=>rfl
theorem sg {j:Nat} {o:MO} (h:xL j o=false):∀x∈o.reads,x≠.tmp j:=by
 intro x hx e
 subst e
 unfold xL at h
 rw [Tm] at h
 exact absurd (h _ hx) (by simp)
theorem se {j:Nat} {o:MO} (h:xK j o=false):∀x∈o.reads,x≠.var j:=by
 intro x hx e
 subst e
 unfold xK at h
 rw [Tm] at h
 exact absurd (h _ hx) (by simp)
theorem Bq {pu:List FuncId} (hpu:bG E pu) {o:MO} {ρ:MX->AV} (hfn:∀f,ρ (.fn f)=.func (.func f) [] []) {A:ac} {v:AV} {A':ac} (he:dx E o ρ A=some (v,A')) :
  ((bT E pu o ρ A).wr=none->(bT E pu o ρ A).al=true)/\∀W,(bT E pu o ρ A).wr=some W->∃(u:Option (Nat × Ent)) (p:Option Ent),(∀x,u=some x->x.1∈W/\x.1<A.length)/\((bT E pu o ρ A).al=false->p=none)/\((bT E pu o ρ A).al=true->A.length∈W)/\A'=dJ u A++p.toList /\
   ∀B,rM (bT E pu o ρ A) W A B->dx E o ρ B=some (v,dJ u B++p.toList)/\bT E pu o ρ B=bT E pu o ρ A:=by
 unfold dx at he
 unfold bT
 split at he
 ·rename_i hg
  simp only [hg]
  refine ⟨fun h=>?_,fun W hW=>?_⟩
  ·cases hm:o.op <;> rw [hm] at h <;> simp only [bZ,fJ.no,reduceCtorEq] at h ⊢
   split at h
   ·split at h
    ·rename_i hc
     split at h <;> simp at h
    ·rename_i hc
     rw [RK hc]
   ·rfl
  ·obtain ⟨u,p,h1,h2,h3,h4,h5⟩:=PN hpu hfn he W hW
   exact ⟨u,p,h1,h2,h3,h4,fun B hB=>by
    have:=h5 B hB
    exact ⟨by simp only [dx,hg]; exact this.1,this.2⟩⟩
 ·rename_i hg
  simp only [Rz,RQ] at he
  obtain ⟨rfl,rfl⟩:=he
  simp only [hg]
  refine ⟨(fun h=>by cases h),fun W hW=>⟨none,none,fun x h=>(by cases h),fun _=>rfl,fun h=>(by cases h),by simp [dJ],fun B _=>⟨by simp [dx,hg,dJ],trivial⟩⟩⟩
 ·cases he
theorem n9 {pu:List FuncId} {ρ ρ':MX->AV} (o:MO) (h:∀x∈o.reads,ρ x=ρ' x) (A:ac):bT E pu o ρ A=bT E pu o ρ' A:=by
 have hg:dg ρ o.guard=dg ρ' o.guard:=by
  cases hg:o.guard with
  | none=>rfl
  | some p=>
   obtain ⟨x,want⟩:=p
   simp only [dg,h x (by simp [MO.reads,hg])]
 have hx:∀x∈o.op.xs,ρ x=ρ' x:=fun x hx=>h x (by simp [MO.reads,hx])
 unfold bT
 rw [hg]
 split
 ·cases hm:o.op <;> rw [hm] at hx <;> simp only [bZ]
  case call f args=>
   have:args.map ρ=args.map ρ':=Sb fun x hx'=>hx x (by simp [MOp.xs,hx'])
   rw [this,oa (.call f args) hx A]
  all_goals (simp only [MOp.xs,Su,List.not_mem_nil,or_false,forall_eq_or_imp,forall_eq] at hx; simp only [hx])
 ·rfl
theorem kC {l:Option (List Nat)} (h:j6 none l=true):l=some []:=by
 cases l with
 | none=>cases h
 | some l=>cases l with
  | nil=>rfl
  | cons a r=>cases h
theorem i5 {l:Option (List Nat)} (h:j6 l none=true):l=some []:=by
 cases l with
 | none=>cases h
 | some l=>cases l with
  | nil=>rfl
  | cons a r=>cases h
theorem kB {a b:List Nat} (h:j6 (some a) (some b)=true):∀x,x∈a->x ∉ b:=by
 intro x hx hy
 cases a with
 | nil=>cases hx
 | cons p q=>
  cases b with
  | nil=>cases hy
  | cons c d=>
   simp only [j6,RZ,SC,Tk] at h
   exact h x hx x hy rfl
theorem Al {pu:List FuncId} (hpu:bG E pu) {x y:MO} {ρx ρy:MX->AV} (hfx:∀f,ρx (.fn f)=.func (.func f) [] []) (hfy:∀f,ρy (.fn f)=.func (.func f) [] []) {A A1 A2:ac} {v u:AV}
  (e1:dx E x ρx A=some (v,A1)) (e2:dx E y ρy A1=some (u,A2)) (hap:(bT E pu x ρx A).apart0 (bT E pu y ρy A1)=true) :
  ∃B,dx E y ρy A=some (u,B)/\bT E pu y ρy A=bT E pu y ρy A1/\dx E x ρx B=some (v,A2)/\bT E pu x ρx B=bT E pu x ρx A:=by
 obtain ⟨hx0,hx1⟩:=Bq hpu hfx e1
 obtain ⟨hy0,hy1⟩:=Bq hpu hfy e2
 obtain ⟨Fx,hFx⟩:∃F,F=bT E pu x ρx A:=⟨_,rfl⟩
 obtain ⟨Fy,hFy⟩:∃F,F=bT E pu y ρy A1:=⟨_,rfl⟩
 simp only [<-hFx] at hx0 hx1 hap ⊢
 simp only [<-hFy] at hy0 hy1 hap ⊢
 simp only [fJ.apart0,Sd,SC,Bool.and_eq_false_iff] at hap
 obtain ⟨⟨⟨m1,m2⟩,m3⟩,m4⟩:=hap
 cases hwx:Fx.wr with
 | none=>
  rw [hwx] at m2 m3
  have hyr:=kC m2
  have hyw:=kC m3
  have hya:Fy.al=false:=by
   rcases m4 with h | h
   ·rw [hx0 hwx] at h; cases h
   ·exact h
  obtain ⟨uo,p,k1,k2,_,k4,k5⟩:=hy1 [] hyw
  have hu:uo=none:=by
   cases uo with
   | none=>rfl
   | some z=>have:=(k1 z rfl).1; cases this
  have hp:=k2 hya
  subst hu; subst hp
  have hA2:A2=A1:=by simpa [dJ] using k4
  obtain ⟨k6,k7⟩:=k5 A ⟨fun h=>(by rw [hyr] at h; cases h),fun l hl id hid=>(by rw [hyr] at hl; injection hl with hl; subst hl; cases hid),(fun id hid=>by cases hid),fun h=>by rw [hya] at h; cases h⟩
  refine ⟨A,by simpa [dJ] using k6,k7,by rw [hA2]; exact e1,hFx.symm⟩
 | some Wx=>
  obtain ⟨ux,px,k1,k2,k3,k4,k5⟩:=hx1 Wx hwx
  cases hwy:Fy.wr with
  | none=>
   rw [hwy] at m1 m3
   have hxr:=i5 m1
   have hxw:=i5 m3
   rw [hwx] at hxw
   injection hxw with hxw; subst hxw
   have hxa:Fx.al=false:=by
    rcases m4 with h | h
    ·exact h
    ·rw [hy0 hwy] at h; cases h
   have hu:ux=none:=by
    cases ux with
    | none=>rfl
    | some z=>have:=(k1 z rfl).1; cases this
   have hp:=k2 hxa
   subst hu; subst hp
   have hA1:A1=A:=by simpa [dJ] using k4
   subst hA1
   obtain ⟨k6,k7⟩:=k5 A2 ⟨fun h=>(by rw [hxr] at h; cases h),fun l hl id hid=>(by rw [hxr] at hl; injection hl with hl; subst hl; cases hid),(fun id hid=>by cases hid),fun h=>by rw [hxa] at h; cases h⟩
   exact ⟨A2,e2,hFy.symm,by simpa [dJ] using k6,k7⟩
  | some Wy=>
   obtain ⟨uy,py,l1,l2,l3,l4,l5⟩:=hy1 Wy hwy
   rw [hwx,hwy] at m3
   rw [hwy] at m1
   rw [hwx] at m2
   have d3:=kB m3
   have hpx:px≠none->Fx.al=true:=fun h=>by
    cases ha:Fx.al with
    | true=>rfl
    | false=>exact absurd (k2 ha) h
   have hpy:py≠none->Fy.al=true:=fun h=>by
    cases ha:Fy.al with
    | true=>rfl
    | false=>exact absurd (l2 ha) h
   have hnot:px=none\/py=none:=by
    rcases m4 with h | h
    ·exact .inl (k2 h)
    ·exact .inr (l2 h)
   have len1:A1.length=A.length+px.toList.length:=by rw [k4]; simp [df]
   have uxne:∀k,k ∉ Wx->∀z,ux=some z->z.1≠k:=fun k hk z hz e=>hk (e ▸ (k1 z hz).1)
   have get1:∀k,k ∉ Wx->A[k]?=A1[k]?:=fun k hk=>by
    rw [k4]
    by_cases hlt:k<A.length
    ·rw [RC (by rw [df]; exact hlt),xj (uxne k hk)]
    ·rw [Sl (by omega),RS (by rw [df]; omega),df]
     cases px with
     | none=>simp
     | some e=>
      have hne:A.length≠k:=fun h=>hk (h ▸ k3 (hpx (by simp)))
      rw [Sl (by simp; omega)]
   have agy:rM Fy Wy A1 A:=by
    refine ⟨fun h=>?_,fun l hl id hid=>?_,fun id hid=>get1 id (fun h=>d3 id h hid),fun h=>?_⟩
    ·rw [h] at m2
     have:=i5 m2
     injection this with this
     subst this
     have hux:ux=none:=by
      cases ux with
      | none=>rfl
      | some z=>have:=(k1 z rfl).1; cases this
     have hpn:px=none:=by
      cases px with
      | none=>rfl
      | some e=>have:=k3 (hpx (by simp)); cases this
     subst hux; subst hpn
     simpa [dJ] using k4.symm
    ·rw [hl] at m2
     exact get1 id (fun h=>kB m2 id h hid)
    ·have:px=none:=by
      rcases m4 with h' | h'
      ·exact k2 h'
      ·rw [h] at h'; cases h'
     rw [len1,this]; simp
   obtain ⟨k6,k7⟩:=l5 A agy
   have uylt:∀z,uy=some z->z.1<A.length:=fun z hz=>by
    have h1:=(l1 z hz).2
    rw [len1] at h1
    cases px with
    | none=>simpa using h1
    | some e=>
     have hne:A.length≠z.1:=fun h=>d3 A.length (k3 (hpx (by simp))) (h ▸ (l1 z hz).1)
     simp at h1; omega
   have uyne:∀k,k ∉ Wy->∀z,uy=some z->z.1≠k:=fun k hk z hz e=>hk (e ▸ (l1 z hz).1)
   have getB:∀k,k ∉ Wy->(dJ uy A++py.toList)[k]?=A[k]?:=fun k hk=>by
    by_cases hlt:k<A.length
    ·rw [RC (by rw [df]; exact hlt),xj (uyne k hk)]
    ·rw [Sl (l:=A) (by omega),RS (by rw [df]; omega),df]
     cases py with
     | none=>simp
     | some e=>
      have hpn:px=none:=by
       rcases hnot with h | h
       ·exact h
       ·cases h
      have hle:A1.length=A.length:=by rw [len1,hpn]; simp
      have hne:A.length≠k:=fun h=>hk (h ▸ hle ▸ l3 (hpy (by simp)))
      rw [Sl (by simp; omega)]
   have agx:rM Fx Wx A (dJ uy A++py.toList):=by
    refine ⟨fun h=>?_,fun l hl id hid=>?_,fun id hid=>getB id (fun h=>d3 id hid h),fun h=>?_⟩
    ·rw [h] at m1
     have:=kC m1
     injection this with this
     subst this
     have huy:uy=none:=by
      cases uy with
      | none=>rfl
      | some z=>have:=(l1 z rfl).1; cases this
     have hpn:py=none:=by
      cases py with
      | none=>rfl
      | some e=>have:=l3 (hpy (by simp)); cases this
     subst huy; subst hpn
     simp [dJ]
    ·rw [hl] at m1
     exact getB id (kB m1 id hid)
    ·have:py=none:=by
      rcases m4 with h' | h'
      ·rw [h] at h'; cases h'
      ·exact l2 h'
     rw [this]; simp [df]
   obtain ⟨k8,k9⟩:=k5 _ agx
   refine ⟨_,k6,k7,?_,k9⟩
   rw [k8]
   congr 2
   have hcomm:dJ ux (dJ uy A)=dJ uy (dJ ux A):=zN fun a b ha hb e=>d3 a.1 (k1 a ha).1 (e ▸ (l1 b hb).1)
   rw [l4,k4,pq (fun z hz=>by rw [df]; exact (k1 z hz).2),pq (fun z hz=>by rw [df]; exact uylt z hz),hcomm]
   rcases hnot with rfl | rfl <;> simp
theorem su {pu:List FuncId} {o:MO} {ρ:MX->AV} {A A':ac} {v:AV} (he:dx E o ρ A=some (v,A')) (h:(bT E pu o ρ A).kp id=true):A'[id]?=A[id]?:=by
 unfold dx at he
 unfold bT at h
 split at he
 ·rename_i hg
  simp only [hg] at h
  have h0:∀ {f:fJ},f.kp=kp0->f.kp id=true->False:=fun h1 h2=>by rw [h1] at h2; cases h2
  cases hm:o.op <;> rw [hm] at h he <;> simp only [bZ] at h
  case call f args=>
   have hk:zf A (a0 E ρ A (.call f args)) id=true->A'[id]?=A[id]?:=fun hk=>by
    rw [he] at hk
    simp only [zf] at hk
    exact @of_decide_eq_true _ (Classical.propDecidable _) hk
   cases f with
   | fn f=>
    simp only at h
    split at h
    ·split at h
     ·exact (h0 (f:=.no) rfl h).elim
     ·cases h
    ·exact hk h
   | _=>exact hk h
  all_goals first | (exact (h0 (f:=.no) rfl h).elim) | (cases h; done)
 ·rename_i hg
  simp only [hg] at h
  cases h
 ·cases he
theorem rZ {x y:fJ} (h:x.sees y=true):x.wr=some []/\x.al=false/\∃l,x.rd=some l/\∀id∈l,y.kp id=true:=by
 simp only [fJ.sees,Sd] at h
 obtain ⟨h1,h2⟩:=h
 split at h1
 ·rename_i hw
  split at h2
  ·rename_i l hl
   exact ⟨hw,by simpa using h1,l,hl,by simpa using h2⟩
  ·cases h2
 ·cases h1
theorem r8 {pu:List FuncId} (hpu:bG E pu) {o:MO} {ρ:MX->AV} (hfn:∀f,ρ (.fn f)=.func (.func f) [] []) {A A':ac} {v:AV} (he:dx E o ρ A=some (v,A')) (hw:(bT E pu o ρ A).wr=some []) (ha:(bT E pu o ρ A).al=false) {l:List Nat} (hr:(bT E pu o ρ A).rd=some l) :
  A'=A/\∀B:ac,(∀id∈l,B[id]?=A[id]?)->dx E o ρ B=some (v,B)/\bT E pu o ρ B=bT E pu o ρ A:=by
 obtain ⟨_,h1⟩:=Bq hpu hfn he
 obtain ⟨u,p,k1,k2,_,k4,k5⟩:=h1 [] hw
 have hu:u=none:=by
  cases u with
  | none=>rfl
  | some z=>have:=(k1 z rfl).1; cases this
 have hp:=k2 ha
 subst hu; subst hp
 refine ⟨by simpa [dJ] using k4,fun B hB=>?_⟩
 obtain ⟨k6,k7⟩:=k5 B ⟨fun h=>(by rw [hr] at h; cases h),fun l' hl id hid=>(by rw [hr] at hl; injection hl with hl; subst hl; exact hB id hid),(fun id hid=>by cases hid),fun h=>by rw [ha] at h; cases h⟩
 exact ⟨by simpa [dJ] using k6,k7⟩
theorem DI {pu:List FuncId} (hpu:bG E pu) {x y:MO} {ρx ρy:MX->AV} (hfx:∀f,ρx (.fn f)=.func (.func f) [] []) (hfy:∀f,ρy (.fn f)=.func (.func f) [] []) {A A1 A2:ac} {v u:AV}
  (e1:dx E x ρx A=some (v,A1)) (e2:dx E y ρy A1=some (u,A2)) (hap:(bT E pu x ρx A).apart (bT E pu y ρy A1)=true) :
  ∃B,dx E y ρy A=some (u,B)/\bT E pu y ρy A=bT E pu y ρy A1/\dx E x ρx B=some (v,A2)/\bT E pu x ρx B=bT E pu x ρx A:=by
 simp only [fJ.apart,Bool.or_eq_true] at hap
 rcases hap with hap | hap | hap
 ·exact Al hpu hfx hfy e1 e2 hap
 ·obtain ⟨hw,ha,l,hr,hk⟩:=rZ hap
  obtain ⟨rfl,h2⟩:=r8 hpu hfx e1 hw ha hr
  obtain ⟨h3,h4⟩:=h2 A2 fun id hid=>su e2 (hk id hid)
  exact ⟨A2,e2,rfl,h3,h4⟩
 ·obtain ⟨hw,ha,l,hr,hk⟩:=rZ hap
  obtain ⟨rfl,h2⟩:=r8 hpu hfy e2 hw ha hr
  obtain ⟨h3,h4⟩:=h2 A fun id hid=>(su e1 (hk id hid)).symm
  exact ⟨A,h3,h4,e1,rfl⟩
def Ez (E:Env) (pu:List FuncId) (mos:List MO) (Fm:Nat->fJ):List Nat->St->St->Prop
 | [],s,s'=>s=s'
 | i :: r,s,s'=>∃s1 o,mos[i]?=some o/\Ek E mos i s=some s1/\bT E pu o (evX E s.1 s.2.1) s.2.2=Fm i/\Ez E pu mos Fm r s1 s'
theorem M8 {pu:List FuncId} (hpu:bG E pu) {mos:List MO} {Fm:Nat->fJ} {i j:Nat} {x y:MO} (hx:mos[i]?=some x) (hy:mos[j]?=some y) (hij:i≠j) (hf:zk i j x y=true) (hap:(Fm i).apart (Fm j)=true) {s s1 s2:St}
  (h1:Ek E mos i s=some s1) (f1:bT E pu x (evX E s.1 s.2.1) s.2.2=Fm i) (h2:Ek E mos j s1=some s2) (f2:bT E pu y (evX E s1.1 s1.2.1) s1.2.2=Fm j) :
  ∃s3,Ek E mos j s=some s3/\bT E pu y (evX E s.1 s.2.1) s.2.2=Fm j/\Ek E mos i s3=some s2/\bT E pu x (evX E s3.1 s3.2.1) s3.2.2=Fm i:=by
 obtain ⟨σ,T,A⟩:=s
 simp only [Ek,hx,hy,RJ] at h1 h2 ⊢
 obtain ⟨⟨v,A1⟩,e1,rfl⟩:=h1
 obtain ⟨⟨u,A2⟩,e2,rfl⟩:=h2
 simp only at e1 e2 f1 f2 ⊢
 simp only [zk,Sd,SC] at hf
 obtain ⟨⟨⟨r1,r2⟩,r3⟩,r4⟩:=hf
 have dne:∀d,x.dst=some d->y.dst≠some d:=fun d hd=>by
  rw [hd] at r3
  simp only [Sd,SC,Tk] at r3
  exact r3.2
 have ry:∀z∈y.reads,evX E (dG σ x.dst v) (T.set i v) z=evX E σ T z:=fun z hz=>by
  rw [sH,yh (sg r1 z hz)]
  intro k hk
  rw [hk] at r3
  simp only [Sd,SC] at r3
  exact se r3.1 z hz
 have rx:∀z∈x.reads,evX E (dG σ y.dst u) (T.set j u) z=evX E σ T z:=fun z hz=>by
  rw [sH,yh (sg r2 z hz)]
  intro k hk
  rw [hk] at r4
  simp only [SC] at r4
  exact se r4 z hz
 rw [oc y ry] at e2
 rw [n9 y ry] at f2
 have hfn:∀ σ T f,evX E σ T (.fn f)=.func (.func f) [] []:=fun _ _ _=>rfl
 obtain ⟨B,b1,b2,b3,b4⟩:=DI (pu:=pu) hpu (hfn σ T) (hfn σ T) e1 e2 (by rw [f1,f2]; exact hap)
 refine ⟨_,⟨_,b1,rfl⟩,by rw [b2,f2],⟨(v,A2),by rw [oc x rx]; exact b3,?_⟩,by rw [n9 x rx]; simp only; rw [b4,f1]⟩
 simp only [RQ,and_true]
 refine ⟨?_,TF _ _ (S4 hij)⟩
 cases hxd:x.dst with
 | none=>rfl
 | some d=>
  cases hyd:y.dst with
  | none=>rfl
  | some d'=>
   have:=dne d hxd
   rw [hyd] at this
   exact TF _ _ (fun e=>this (by rw [e]))
theorem zS {pu:List FuncId} (hpu:bG E pu) {mos:List MO} {Fm:Nat->fJ} {i:Nat} {r2:List Nat}:∀(r1:List Nat) (s s':St),(∀j∈r1,j≠i/\(Fm j).apart (Fm i)=true/\∃x y,mos[j]?=some x/\mos[i]?=some y/\zk j i x y=true) ->
  Ez E pu mos Fm (r1++i :: r2) s s'->Ez E pu mos Fm (i :: (r1++r2)) s s'
 | [],s,s',_,h=>h
 | j :: r1,s,s',hc,h=>by
  obtain ⟨s1,o,ho,h1,h2,h3⟩:=h
  obtain ⟨s2,o',ho',h4,h5,h6⟩:=zS hpu r1 s1 s' (fun k hk=>hc k (by simp [hk])) h3
  obtain ⟨hne,hap,x,y,hx,hy,hf⟩:=hc j (by simp)
  obtain rfl:o=x:=Td (ho.symm.trans hx)
  obtain rfl:o'=y:=Td (ho'.symm.trans hy)
  obtain ⟨s3,k1,k2,k3,k4⟩:=M8 hpu hx hy hne hf hap h1 h2 h4 h5
  exact ⟨s3,o',hy,k1,k2,s2,o,hx,k3,k4,h6⟩
end
section
variable {P:Program} {E:Env} {N:Nat} {vs:List Nat} {base:Nat} {rd:Option Nat} {n:Nat}
def yL (P:Program) (N:Nat) (vs:List Nat) (on:Bool) (ops:Array Oper) (ts:List (Option Nat)) (i:Nat) (o:Oper) (mo:MO):Prop:=
 eG vs ops (ts.take i) o.guard=some mo.guard/\mo.op=(bW P (sE on vs ops o) (vk vs (ts.take i)) o.op).getD mP /\
 ((o.dst=none/\mo.dst=none/\ts[i]?=some none)\/(∃t k,o.dst=some t/\vs.idxOf? t=some k/\mo.dst=some k/\ts[i]?=some none) \/
  (∃t,o.dst=some t/\vs.idxOf? t=none/\t<N/\mo.dst=none/\ts[i]?=some (some t)))
theorem idxOf?_some {α:Type} [BEq α] [LawfulBEq α] {l:List α} {a:α} {i:Nat} (h:l.idxOf? a=some i):∃h:i<l.length,l[i]=a:=
 SR.1 h |> fun h=>⟨h.1,h.2.1⟩
theorem vj {ts:List (Option Nat)} {i:Nat} (hone:∀j j' t:Nat,ts[j]?=some (some t)->ts[j']?=some (some t)->j=j') {x:Operand} {y:MX} (h:vk vs (ts.take i) x=some y):vk vs ts x=some y:=by
 cases x with
 | tmp t=>
  simp only [vk] at h ⊢
  cases hv:vs.idxOf? t with
  | some k=>rw [hv] at h; exact h
  | none=>
   rw [hv] at h
   simp only [RJ] at h ⊢
   obtain ⟨j,hj,rfl⟩:=h
   obtain ⟨hlt,he⟩:=idxOf?_some hj
   have hlt':j<ts.length:=by simp at hlt; omega
   have he':ts[j]?=some (some t):=by rw [Rx hlt']; simpa using he
   cases hx:ts.idxOf? (some t) with
   | none=>
    rw [List.idxOf?_eq_none_iff] at hx
    exact absurd (SL he') hx
   | some j'=>
    obtain ⟨h1,h2⟩:=idxOf?_some hx
    have:j'=j:=hone j' j t (by rw [Rx h1,h2]) he'
    subst this
    exact ⟨_,rfl,rfl⟩
 | _=>exact h
theorem rE {ts:List (Option Nat)} {i:Nat} (hone:∀j j' t:Nat,ts[j]?=some (some t)->ts[j']?=some (some t)->j=j') {ops:Array Oper} {gd:Option (Nat × Bool)} {g:Option (MX × Bool)} (h:eG vs ops (ts.take i) gd=some g):eG vs ops ts gd=some g:=by
 unfold eG at h ⊢
 split at h
 ·exact h
 ·split at h
  ·rename_i t ht
   simp only [RJ] at h ⊢
   obtain ⟨x,hx,h2⟩:=h
   exact ⟨x,vj hone hx,h2⟩
  ·cases h
theorem om {on:Bool} {ops:Array Oper}:∀(rest:List Oper) (ts:List (Option Nat)),(∀j j' t:Nat,ts[j]?=some (some t)->ts[j']?=some (some t)->j=j')->(∀j t:Nat,ts[j]?=some (some t)->t<N/\t ∉ vs) ->
  (∃tf,tf.take ts.length=ts/\tf.length=ts.length+rest.length/\(∀j j' t:Nat,tf[j]?=some (some t)->tf[j']?=some (some t)->j=j')/\(∀j t:Nat,tf[j]?=some (some t)->t<N/\t ∉ vs) /\
   (cy P N vs on ops rest ts).length=rest.length/\∀(k:Nat) (o:Oper),rest[k]?=some o->∃mo,(cy P N vs on ops rest ts)[k]?=some mo/\yL P N vs on ops tf (ts.length+k) o mo) \/
  ∀ σ T A,eB E (cy P N vs on ops rest ts) σ T A=none
 | [],ts,h1,h2=>.inl ⟨ts,by simp,by simp,h1,h2,rfl,fun k o h=>by simp at h⟩
 | o :: rest,ts,h1,h2=>by
  have hbad:∀ σ T A,eB E [⟨none,mP,none⟩] σ T A=none:=fun σ T A=>by simp [eB,dg,a0,mP,dA,evX,uV]
  have step:∀(d:Option Nat) (m:MOp) (gd:Option (MX × Bool)) (x:Option Nat),eG vs ops ts o.guard=some gd->m=(bW P (sE on vs ops o) (vk vs ts) o.op).getD mP ->
    cy P N vs on ops (o :: rest) ts=⟨d,m,gd⟩ :: cy P N vs on ops rest (ts++[x]) ->
    ((o.dst=none/\d=none/\x=none)\/(∃t k,o.dst=some t/\vs.idxOf? t=some k/\d=some k/\x=none)\/(∃t,o.dst=some t/\vs.idxOf? t=none/\t<N/\d=none/\x=some t))->(∀t,x=some t->some t ∉ ts/\t<N/\t ∉ vs) ->
    ((∃tf,tf.take ts.length=ts/\tf.length=ts.length+(o :: rest).length/\(∀j j' t:Nat,tf[j]?=some (some t)->tf[j']?=some (some t)->j=j')/\(∀j t:Nat,tf[j]?=some (some t)->t<N/\t ∉ vs) /\
     (cy P N vs on ops (o :: rest) ts).length=(o :: rest).length/\∀(k:Nat) (o':Oper),(o :: rest)[k]?=some o'->∃mo,(cy P N vs on ops (o :: rest) ts)[k]?=some mo/\yL P N vs on ops tf (ts.length+k) o' mo) \/
     ∀ σ T A,eB E (cy P N vs on ops (o :: rest) ts) σ T A=none):=by
   intro d m gd x hgd hm heq hdst hx
   have key:∀(j:Nat) (u:Nat),(ts++[x])[j]?=some (some u)->(ts[j]?=some (some u)/\j<ts.length)\/(j=ts.length/\x=some u):=fun j u hj=>by
    rw [S0] at hj
    split at hj
    ·rename_i hlt; exact .inl ⟨hj,hlt⟩
    ·have:j-ts.length=0\/j-ts.length≠0:=by omega
     rcases this with h0 | h0
     ·rw [h0] at hj; simp at hj; exact .inr ⟨by omega,hj⟩
     ·rw [Sl (by simp; omega)] at hj; cases hj
   have h1':∀j j' t:Nat,(ts++[x])[j]?=some (some t)->(ts++[x])[j']?=some (some t)->j=j':=fun j j' t hj hj'=>by
    rcases key j t hj with ⟨a1,a2⟩ | ⟨a1,a2⟩ <;> rcases key j' t hj' with ⟨b1,b2⟩ | ⟨b1,b2⟩
    ·exact h1 j j' t a1 b1
    ·exact absurd (SL a1) (hx t b2).1
    ·exact absurd (SL b1) (hx t a2).1
    ·omega
   have h2':∀j t:Nat,(ts++[x])[j]?=some (some t)->t<N/\t ∉ vs:=fun j t hj=>by
    rcases key j t hj with ⟨a1,a2⟩ | ⟨a1,a2⟩
    ·exact h2 j t a1
    ·exact (hx t a2).2
   rcases om (on:=on) (ops:=ops) rest (ts++[x]) h1' h2' with ⟨tf,k1,k2,k3,k4,k5,k6⟩ | hn
   ·refine .inl ⟨tf,?_,by rw [k2]; simp; omega,k3,k4,by rw [heq]; simp [k5],fun k o' hk=>?_⟩
    ·have:=Uk (List.take ts.length) k1
     simpa [List.take_take] using this
    ·rw [heq]
     cases k with
     | zero=>
      simp only [Sz,Rz] at hk
      subst hk
      have hx0:tf[ts.length]?=some x:=by
       have:=Uk (fun l=>l[ts.length]?) k1
       simp only [RU,Sv,TM,Ta (Nat.lt_succ_self _)] at this
       simpa using this
      have htk:tf.take ts.length=ts:=by
       have:=Uk (List.take ts.length) k1
       rw [List.take_take,Nat.min_eq_left (by simp)] at this
       simpa using this
      refine ⟨_,rfl,?_,?_,?_⟩
      ·rw [Sy,htk]; exact hgd
      ·rw [Sy,htk]; exact hm
      ·rw [Sy,hx0]
       rcases hdst with ⟨a,b,rfl⟩ | ⟨t,k,a,b,c,rfl⟩ | ⟨t,a,b,c,d,rfl⟩
       ·exact .inl ⟨a,b,rfl⟩
       ·exact .inr (.inl ⟨t,k,a,b,c,rfl⟩)
       ·exact .inr (.inr ⟨t,a,b,c,d,rfl⟩)
     | succ k=>
      obtain ⟨mo,l1,l2⟩:=k6 k o' (by simpa using hk)
      refine ⟨mo,by simpa using l1,?_⟩
      have e:(ts++[x]).length+k=ts.length+(k+1):=by simp; omega
      rw [e] at l2
      exact l2
   ·refine .inr fun σ T A=>?_
    rw [heq]
    simp only [eB,hn]
    repeat' split
    all_goals rfl
  cases hgd:eG vs ops ts o.guard with
  | none=>exact .inr fun σ T A=>by simp only [cy,hgd]; exact hbad σ T A
  | some gd=>
   cases hd:o.dst with
   | none=>exact step none _ gd none hgd rfl (by simp only [cy,hgd,hd]) (.inl ⟨hd,rfl,rfl⟩) (fun t h=>by cases h)
   | some t=>
    cases hv:vs.idxOf? t with
    | some i=>exact step (some i) _ gd none hgd rfl (by simp only [cy,hgd,hd,hv]) (.inr (.inl ⟨t,i,hd,hv,rfl,rfl⟩)) (fun t h=>by cases h)
    | none=>
     by_cases hc:t<N/\¬ (some t)∈ts
     ·refine step none _ gd (some t) hgd rfl (by simp only [cy,hgd,hd,hv]; rw [RH hc]) (.inr (.inr ⟨t,hd,hv,hc.1,rfl,rfl⟩)) (fun t' h=>?_)
      injection h with h; subst h
      exact ⟨hc.2,hc.1,by simpa [List.idxOf?_eq_none_iff] using hv⟩
     ·refine .inr fun σ T A=>?_
      simp only [cy,hgd,hd,hv]
      rw [RK hc]
      exact hbad σ T A
theorem mt {α:Type} {l:List α} {i j:Nat} {x d:α} (h:i≠j):(l.set i x).getD j d=l.getD j d:=by
 simp [RF h]
theorem kq {α:Type} {l:List α} {i:Nat} {x d:α} (h:i<l.length):(l.set i x).getD i d=x:=by
 simp [RO h]
theorem jO.setVarS {w:World} {g:aC} {σ T:List AV} {ts:List (Option Nat)} {A:ac} {a:Act} (hvn:vs.Nodup) (hvl:∀t∈vs,t<N) (h:jO E N vs base w OK g σ T ts A a) {k t i:Nat} (hk:k<vs.length) (ht:vs[k]=t) (hi:ts[i]?=some none)
  {v:Value} {x:AV} (hx:aW w OK g v x) (y:AV):jO E N vs base w OK g (σ.set k x) (T.set i y) ts A (a.put (some t) v) where
 size:=by simp [Act.put,h.size]
 defers:=h.defers
 low:=h.low
 len:=by simp [h.len]
 vars m hm:=by
  have hlt:t<N:=hvl t (ht ▸ RM hk)
  by_cases e:k=m
  ·subst e
   rw [ht]
   simp only [Act.put,ey _ _ (by rw [h.size]; exact hlt),kq (show k<σ.length by rw [h.len]; exact hk),hx]
  ·have hne:t≠vs[m]:=fun e2=>e (p7 hvn hk hm (by rw [ht,e2]))
   simp only [Act.put,dt _ _ hne,mt e]
   exact h.vars m hm
 arena:=h.arena
 glob:=h.glob
 tlen:=by simp [h.tlen]
 temps j u hj:=by
  have hne:t≠u:=fun e=>(h.tok j u hj).2 (e ▸ ht ▸ RM hk)
  have hij:i≠j:=fun e=>by subst e; rw [hi] at hj; cases hj
  simp only [Act.put,dt _ _ hne,mt hij]
  exact h.temps j u hj
 tok:=h.tok
 tone:=h.tone
theorem jO.setNoneS {w:World} {g:aC} {σ T:List AV} {ts:List (Option Nat)} {A:ac} {a:Act} (h:jO E N vs base w OK g σ T ts A a) {i:Nat} (hi:ts[i]?=some none) (v:Value) (y:AV) :
  jO E N vs base w OK g σ (T.set i y) ts A (a.put none v):=
 {
  size:=h.size,defers:=h.defers,low:=h.low,len:=h.len,vars:=h.vars,arena:=h.arena,glob:=h.glob,tlen:=by simp [h.tlen],
  temps:=fun j u hj=>by
   have hij:i≠j:=fun e=>by subst e; rw [hi] at hj; cases hj
   rw [mt hij]
   exact h.temps j u hj
  tok:=h.tok,tone:=h.tone}
theorem jO.setTmpS {w:World} {g:aC} {σ T:List AV} {ts:List (Option Nat)} {A:ac} {a:Act} (h:jO E N vs base w OK g σ T ts A a) {i t:Nat} (hi:ts[i]?=some (some t)) {v:Value} {x:AV} (hx:aW w OK g v x) :
  jO E N vs base w OK g σ (T.set i x) ts A (a.put (some t) v):=by
 obtain ⟨htN,htv⟩:=h.tok i t hi
 have hv:∀k (hk:k<vs.length),aW w OK g ((a.put (some t) v).tmps.getD vs[k] undef) (σ.getD k .undef):=fun k hk=>by
  have hne:t≠vs[k]:=fun e=>htv (e ▸ RM hk)
  simp only [Act.put,dt _ _ hne]
  exact h.vars k hk
 have ht:∀j u:Nat,ts[j]?=some (some u)->aW w OK g ((a.put (some t) v).tmps.getD u undef) ((T.set i x).getD j .undef):=fun j u hj=>by
  by_cases e:i=j
  ·subst e
   rw [hi] at hj
   injection hj with hj; injection hj with hj; subst hj
   simp only [Act.put,ey _ _ (show t<a.tmps.size by rw [h.size]; exact htN)]
   rw [kq (by rw [h.tlen]; exact (Rv.1 hi).1)]
   exact hx
  ·have hne:t≠u:=fun e2=>e (h.tone i j t hi (e2 ▸ hj))
   simp only [Act.put,dt _ _ hne,mt e]
   exact h.temps j u hj
 exact {size:=by simp [Act.put,h.size],defers:=h.defers,low:=h.low,len:=h.len,arena:=h.arena,glob:=h.glob,tlen:=by simp [h.tlen],vars:=hv,temps:=ht,tok:=h.tok,tone:=h.tone}
theorem yY {on:Bool} (hE:dj P E) (hvn:vs.Nodup) (hvl:∀t∈vs,t<N) {ops:Array Oper} {ts:List (Option Nat)} {mos:List MO} {i:Nat} {o:Oper} {mo:MO} (ho:ops[i]?=some o) (hmo:mos[i]?=some mo) (hc:yL P N vs on ops ts i o mo)
  {w:World} {OK:Nat->Prop} {g:aC} {σ T:List AV} {A:ac} {a:Act} {s1:St} {Q:Exit->Act->World->Prop} {K:Act->World->Prop} (h:jO E N vs base w OK g σ T ts A a) (he:Ek E mos i (σ,T,A)=some s1)
  (hK:∀a1 w1 OK1 g1,jO E N vs base w1 OK1 g1 s1.1 s1.2.1 ts s1.2.2 a1->Ext w OK g w1 OK1 g1->K a1 w1):wpOpIn (FW rd) n P ops Q i K a w:=by
 obtain ⟨c1,c2,c3⟩:=hc
 have hgd:=rE h.tone c1
 simp only [Ek,hmo,RJ] at he
 obtain ⟨⟨x,A1⟩,he,rfl⟩:=he
 have put:∀(v:Value) w1 OK1 g1,aW w1 OK1 g1 v x->jO E N vs base w1 OK1 g1 σ T ts A1 a->jO E N vs base w1 OK1 g1 (dG σ mo.dst x) (T.set i x) ts A1 (a.put o.dst v):=by
  intro v w1 OK1 g1 hv hr
  rcases c3 with ⟨d1,d2,d3⟩ | ⟨t,k,d1,d2,d3,d4⟩ | ⟨t,d1,d2,d3,d4,d5⟩
  ·rw [d1,d2]; exact hr.setNoneS d3 v x
  ·rw [d1,d3]
   obtain ⟨hlt,het⟩:=idxOf?_some d2
   exact hr.setVarS hvn hvl hlt het d4 hv x
  ·rw [d1,d4]; exact hr.setTmpS d5 hv
 unfold wpOpIn
 simp only [ho]
 unfold dx at he
 split at he
 ·rename_i hgt
  rw [h.guard hvl hgd hgt,RH rfl]
  cases hm:bW P (sE on vs ops o) (vk vs (ts.take i)) o.op with
  | none=>
   rw [hm] at c2
   simp only [Option.getD_none] at c2
   rw [c2] at he
   rcases sI (E:=E) (evX E σ T) A with h0 | ⟨x0,_,h0⟩
   ·rw [h0] at he; cases he
   ·exact absurd rfl h0
  | some m=>
   rw [hm] at c2
   simp only [Sq] at c2
   rw [c2] at he
   exact pC hE (fun x y hy=>h.eval x y (vj h.tone hy)) h.arena h.glob hm he (fun v w' OK' g' k1 k2 k3=>hK _ _ _ _ (put v w' OK' g' k1 (h.ext k3 k2)) k3)
 ·rename_i hgt
  rw [h.guard hvl hgd hgt]
  simp only [Rz,RQ] at he
  obtain ⟨rfl,rfl⟩:=he
  refine ⟨fun f _=>Id rd f,hK _ _ _ _ (put undef w OK g ?_ h) (Ext.refl _ _ _)⟩
  exact .tup _ _ [] rfl (fun _=>undef) (fun i hi=>by simp at hi) (fun i hi=>by simp at hi)
 ·cases he
theorem sG (b:Array Nat) (x:Nat):∀(l:List Edge) (s:Nat),(l.foldl (fun s e=>if Region.binds .any e then s ||| 2 ^ e.on ||| b.getD e.on 0 else s) s).testBit x=true ->
  s.testBit x=true\/∃e∈l,Region.binds .any e=true/\(e.on=x\/(b.getD e.on 0).testBit x=true)
 | [],s,h=>.inl h
 | e :: l,s,h=>by
  rcases sG b x l _ h with h1 | ⟨e',h1,h2⟩
  ·simp only at h1
   cases hb:Region.binds .any e with
   | true=>
    rw [hb,RH rfl] at h1
    simp only [Nat.testBit_or,Bool.or_eq_true] at h1
    rcases h1 with (h1 | h1) | h1
    ·exact .inl h1
    ·rw [Nat.testBit_two_pow] at h1
     exact .inr ⟨e,by simp,hb,.inl (by simpa using h1)⟩
    ·exact .inr ⟨e,by simp,hb,.inr h1⟩
   | false=>
    rw [hb] at h1
    exact .inl h1
  ·exact .inr ⟨e',by simp [h1],h2⟩
def fG (m:Nat) (listed:Array Bool):List Nat:=(List.range m).filter fun i=>!listed.getD i true
theorem pY:∀(m i:Nat),i<m->∃r2,List.range m=List.range i++i :: r2/\∀k∈r2,i<k
 | m+1,i,h=>by
  rw [Te]
  rcases Ti i m with h1 | h1
  ·obtain ⟨r2,e,h2⟩:=pY m i h1
   refine ⟨r2++[m],by rw [e]; simp,fun k hk=>?_⟩
   rcases TN.1 hk with h3 | h3
   ·exact h2 k h3
   ·simp at h3; omega
  ·obtain rfl:i=m:=by omega
   exact ⟨[],rfl,fun k hk=>by cases hk⟩
theorem iT {m i:Nat} {listed:Array Bool} (hs:listed.size=m) (hi:i<m) (hu:listed.getD i true=false) :
  ∃r1 r2,fG m listed=r1++i :: r2/\fG m (listed.setIfInBounds i true)=r1++r2/\(∀k∈r1,k<i/\listed.getD k true=false):=by
 obtain ⟨r2,e,h2⟩:=pY m i hi
 have hne:∀k,k≠i->(listed.setIfInBounds i true).getD k true=listed.getD k true:=fun k hk=>by
  simp [SJ (S4 hk)]
 have hself:(listed.setIfInBounds i true).getD i true=true:=by
  simp [S6 (show i<listed.size by omega)]
 refine ⟨(List.range i).filter fun k=>!listed.getD k true,r2.filter fun k=>!listed.getD k true,?_,?_,fun k hk=>?_⟩
 ·unfold fG
  rw [e,List.filter_append,List.filter_cons_of_pos (by simp [hu])]
 ·unfold fG
  rw [e,List.filter_append,List.filter_cons_of_neg (by simp [hself])]
  congr 1
  ·exact List.filter_congr fun k hk=>by rw [hne k (by simp at hk; omega)]
  ·exact List.filter_congr fun k hk=>by rw [hne k (by have:=h2 k hk; omega)]
 ·simp only [Tu,SI,SC] at hk
  exact hk
theorem CP {on:Bool} (hE:dj P E) (hvn:vs.Nodup) (hvl:∀t∈vs,t<N) {pu:List FuncId} (hpu:bG E pu) {ops:Array Oper} {ts:List (Option Nat)} {mos:List MO} (hof:lC ops mos (Region.before ops)=true)
  {Fm:Nat->fJ} (hap:∀i j,i<j->j<ops.size->((Region.before ops).getD j 0).testBit i=true\/(Fm i).apart (Fm j)=true)
  (hcomp:∀(k:Nat) (o:Oper),ops[k]?=some o->∃mo,mos[k]?=some mo/\yL P N vs on ops ts k o mo) {Q:Exit->Act->World->Prop} {w0:World} {OK0:Nat->Prop} {g0:aC} {s':St}
  (hQ:∀a w OK g,SRel E N vs base w OK g s'.1 s'.2.2 a->Ext w0 OK0 g0 w OK g->Q .normal a w) :
  ∀(fuel:Nat) (listed:Array Bool) (σ T:List AV) (A:ac) (a:Act) (w:World) (OK:Nat->Prop) (g:aC),listed.size=ops.size->(fG ops.size listed).length<=fuel ->
   (∀j,listed.getD j false=true->∀x,((Region.before ops).getD j 0).testBit x=true->listed.getD x false=true) ->
   jO E N vs base w OK g σ T ts A a->Ext w0 OK0 g0 w OK g->Ez E pu mos Fm (fG ops.size listed) (σ,T,A) s'->wpAnyIn (FW rd) n P .any ops Q fuel listed a w:=by
 obtain ⟨b,hb⟩:∃b,b=Region.before ops:=⟨_,rfl⟩
 rw [<-hb] at hof hap
 rw [<-hb]
 simp only [lC,Sd,Tg,RZ,SI] at hof
 obtain ⟨hlen,hof⟩:=hof
 have chk:∀j,j<ops.size->∃o,ops[j]?=some o/\b.getD j 0=qW b o/\(∀e∈o.after.toList,Region.binds .any e=true->e.on<j) /\
   ∀i,i<j->(b.getD j 0).testBit i=true\/∃x y,mos[i]?=some x/\mos[j]?=some y/\zk i j x y=true:=by
  intro j hj
  have h:=hof j hj
  split at h
  ·cases h
  ·rename_i o ho
   simp only [Sd,Tg,RZ,Bool.or_eq_true,SC,SI] at h
   refine ⟨o,ho,h.1.1,fun e he hbd=>?_,fun i hi=>?_⟩
   ·rcases h.1.2 e he with h1 | h1
    ·rw [hbd] at h1; cases h1
    ·exact Nat.blt_eq ▸ h1
   ·rcases h.2 i hi with h1 | h1
    ·exact .inl h1
    ·split at h1
     ·rename_i x y hx hy; exact .inr ⟨x,y,hx,hy,h1⟩
     ·cases h1
 intro fuel
 induction fuel with
 | zero=>
  intro listed σ T A a w OK g hsz hle hdc h hx he
  have hnil:fG ops.size listed=[]:=Si.1 (by omega)
  have hall:∀i,i<ops.size->listed.getD i true=true:=fun i hi=>by
   cases hl:listed.getD i true with
   | true=>rfl
   | false=>
    exfalso
    have:i∈fG ops.size listed:=by simp only [fG,Tu,SI]; exact ⟨hi,by simp [hl]⟩
    rw [hnil] at this; cases this
  rw [hnil] at he
  obtain rfl:=he
  refine ⟨?_,hQ a w OK g h.toSRel hx⟩
  unfold Region.ready
  rw [List.filter_eq_nil_iff]
  intro i hi
  simp [hall i (by simpa using hi)]
 | succ fuel ih=>
  intro listed σ T A a w OK g hsz hle hdc h hx he
  refine ⟨fun hr=>?_,fun i hi=>?_⟩
  ·
   cases hrem:fG ops.size listed with
   | nil=>
    rw [hrem] at he
    obtain rfl:=he
    exact hQ a w OK g h.toSRel hx
   | cons i r=>
    exfalso
    have hmem:i∈fG ops.size listed:=by rw [hrem]; simp
    simp only [fG,Tu,SI,SC] at hmem
    obtain ⟨r1,r2,e1,_,e3⟩:=iT hsz hmem.1 hmem.2
    have hr1:r1=[]:=by
     cases r1 with
     | nil=>rfl
     | cons k r1=>
      rw [hrem] at e1
      simp only [List.cons_append,List.cons.injEq] at e1
      have:=e3 k (by simp)
      omega
    have hlow:∀k,k<i->listed.getD k false=true:=fun k hk=>by
     cases hl:listed.getD k true with
     | true=>
      have:k<listed.size:=by omega
      simp [this] at hl ⊢
      exact hl
     | false=>
      exfalso
      have hk':k∈fG ops.size listed:=by simp only [fG,Tu,SI]; exact ⟨by omega,by simp [hl]⟩
      rw [e1,hr1] at hk'
      obtain ⟨s1,s2,f1,_,f3⟩:=iT (i:=k) hsz (by omega) hl
      rw [f1] at e1
      cases s1 with
      | nil=>rw [hr1] at e1; simp at e1; omega
      | cons z s1=>
       rw [hr1] at e1
       simp at e1
       have:=f3 z (by simp)
       omega
    obtain ⟨o,ho,_,hedge,_⟩:=chk i hmem.1
    have:i∈Region.ready .any ops listed:=by
     rw [mem_ready]
     refine ⟨hmem.2,o,ho,fun e he hbd=>?_⟩
     exact hlow _ (hedge e (by simpa using he) hbd)
    rw [hr] at this; cases this
  ·obtain ⟨hun,o,ho,hall⟩:=mem_ready.1 hi
   have hil:i<ops.size:=(Sp.1 ho).1
   obtain ⟨r1,r2,e1,e2,e3⟩:=iT hsz hil hun
   obtain ⟨o',ho',hbits,hedge,_⟩:=chk i hil
   obtain rfl:o=o':=Td (ho.symm.trans ho')
   have hanc:∀x,(b.getD i 0).testBit x=true->listed.getD x false=true:=fun x hx=>by
    rw [hbits] at hx
    unfold qW at hx
    rcases sG b x _ _ hx with h1 | ⟨e,he,hbd,h1⟩
    ·simp at h1
    ·have hl:=hall e (by simpa using he) hbd
     rcases h1 with rfl | h1
     ·exact hl
     ·exact hdc _ hl x h1
   have hfree:∀k∈r1,k≠i/\(Fm k).apart (Fm i)=true/\∃x y,mos[k]?=some x/\mos[i]?=some y/\zk k i x y=true:=fun k hk=>by
    obtain ⟨hki,hku⟩:=e3 k hk
    have hno:(b.getD i 0).testBit k≠true:=fun h5=>by
     have:=hanc k h5
     have hkl:k<listed.size:=by omega
     simp [hkl] at this hku
     rw [this] at hku; cases hku
    refine ⟨by omega,(hap k i hki hil).resolve_left hno,?_⟩
    obtain ⟨_,_,_,_,h4⟩:=chk i hil
    exact (h4 k hki).resolve_left hno
   rw [e1] at he
   obtain ⟨s1,o1,_,hs1,_,hs2⟩:=zS hpu r1 _ _ hfree he
   obtain ⟨mo,hmo,hca⟩:=hcomp i o ho
   refine yY hE hvn hvl ho hmo hca h hs1 (fun a1 w1 OK1 g1 k1 k2=>?_)
   refine ih _ s1.1 s1.2.1 s1.2.2 a1 w1 OK1 g1 (by simpa using hsz) ?_ ?_ k1 (hx.trans k2) ?_
   ·rw [e1] at hle; rw [e2]; simp at hle ⊢; omega
   ·intro j hj x hbx
    by_cases hji:j=i
    ·subst hji
     have:=hanc x hbx
     by_cases hxi:x=j
     ·subst hxi
      exact hj
     ·simpa [Sh,SJ (S4 hxi)] using this
    ·have hj':listed.getD j false=true:=by simpa [Sh,SJ (S4 hji)] using hj
     have:=hdc j hj' x hbx
     by_cases hxi:x=i
     ·subst hxi
      simp [S6 (show x<listed.size by omega)]
     ·simpa [Sh,SJ (S4 hxi)] using this
   ·rw [e2]; exact hs2
theorem zo {σ T T':List AV} (h:∀j,T.getD j .undef=T'.getD j .undef):evX E σ T=evX E σ T':=by
 funext x
 cases x with
 | tmp j=>exact h j
 | _=>rfl
theorem f9 {pu:List FuncId}:∀(l:List MO) (σ T:List AV) (A:ac) (fs:List fJ) (σ':List AV) (A':ac),eB E l σ T A=some (σ',A')->∃fs',dO E pu l σ T A fs=some (σ',A',fs')
 | [],σ,T,A,fs,σ',A',h=>by
  simp only [eB,Rz,RQ] at h
  obtain ⟨rfl,rfl⟩:=h
  exact ⟨fs,rfl⟩
 | o :: l,σ,T,A,fs,σ',A',h=>by
  simp only [eB] at h
  simp only [dO]
  split at h
  ·split at h
   ·exact f9 l _ _ _ _ σ' A' h
   ·cases h
  ·exact f9 l _ _ _ _ σ' A' h
  ·cases h
theorem jY {pu:List FuncId} (mos:List MO) (Fm:Nat->fJ):∀(rest:List MO) (k:Nat) (σ T:List AV) (A:ac) (fs:List fJ) (σ':List AV) (A':ac) (fs':List fJ),mos.drop k=rest->T.length=k->fs.length=k->dO E pu rest σ T A fs=some (σ',A',fs')->(∀i,Fm i=fs'.getD i .no) ->
  (∃gs,fs'=fs++gs)/\∃T',Ez E pu mos Fm (List.range' k rest.length) (σ,T++List.replicate rest.length AV.undef,A) (σ',T',A')
 | [],k,σ,T,A,fs,σ',A',fs',_,_,_,h,_=>by
  simp only [dO,Rz,RQ] at h
  obtain ⟨rfl,rfl,rfl⟩:=h
  exact ⟨⟨[],by simp⟩,_,rfl⟩
 | o :: rest,k,σ,T,A,fs,σ',A',fs',hd,hT,hF,h,hFm=>by
  have hk:mos[k]?=some o:=by
   have:=Uk (fun l=>l[0]?) hd
   simpa [SQ] using this
  have hd':mos.drop (k+1)=rest:=by
   have:=Uk List.tail hd
   simpa [List.tail_drop] using this
  have hX:evX E σ (T++List.replicate (o :: rest).length AV.undef)=evX E σ T:=zo fun j=>by
   rw [Rw,Rw,S0]
   split
   ·rfl
   ·rename_i hge
    rw [Sl (l:=T) (by omega),SW]
    split <;> rfl
  have hset:∀v:AV,(T++List.replicate (o :: rest).length AV.undef).set k v=(T++[v])++List.replicate rest.length AV.undef:=fun v=>by
   rw [List.set_append,RK (by omega),hT,Tq,Sv,TS,SB]
   simp
  have fin:∀v A1 F,dx E o (evX E σ T) A=some (v,A1)->F=bT E pu o (evX E σ T) A->dO E pu rest (dG σ o.dst v) (T++[v]) A1 (fs++[F])=some (σ',A',fs') ->
    (∃gs,fs'=fs++gs)/\∃T',Ez E pu mos Fm (List.range' k (o :: rest).length) (σ,T++List.replicate (o :: rest).length AV.undef,A) (σ',T',A'):=by
   intro v A1 F h1 hF1 h2
   obtain ⟨⟨gs,hgs⟩,T',h3⟩:=jY mos Fm rest (k+1) _ (T++[v]) A1 (fs++[F]) σ' A' fs' hd' (by simp [hT]) (by simp [hF]) h2 hFm
   refine ⟨⟨[F]++gs,by rw [hgs]; simp⟩,T',?_⟩
   rw [Sv,List.range'_succ]
   refine ⟨(dG σ o.dst v,(T++List.replicate (o :: rest).length AV.undef).set k v,A1),o,hk,?_,?_,?_⟩
   ·simp only [Ek,hk]
    rw [<-Sv (a:=o),hX,h1]; rfl
   ·rw [<-Sv (a:=o)]
    simp only [hX]
    rw [<-hF1,hFm k,hgs,R1,Rw,RS (by omega),hF,Tq]
    rfl
   ·rw [hset v]
    exact h3
  simp only [dO] at h
  split at h
  ·rename_i hg
   split at h
   ·rename_i v A1 hst
    exact fin v A1 _ (by simp only [dx,hg,hst]) (by simp only [bT,hg]) h
   ·cases h
  ·rename_i hg
   exact fin (.tup []) A _ (by simp only [dx,hg]) (by simp only [bT,hg]) h
  ·cases h
theorem Ez.foot {pu:List FuncId} {mos:List MO} {Fm:Nat->fJ}:∀ {l:List Nat} {s s':St},Ez E pu mos Fm l s s'->∀i∈l,∃o ρ A,mos[i]?=some o/\Fm i=bT E pu o ρ A
 | [],_,_,_,i,hi=>by cases hi
 | j :: r,s,s',⟨s1,o,ho,_,hf,hr⟩,i,hi=>by
  rcases Su.1 hi with rfl | hi
  ·exact ⟨o,_,_,ho,hf.symm⟩
  ·exact Ez.foot hr i hi
theorem rK {pu:List FuncId} {x y:MO} (h:xT pu x y=true) (ρ ρ':MX->AV) (A B:ac):(bT E pu x ρ A).apart (bT E pu y ρ' B)=true:=by
 have h0:∀(o:MO) (ρ:MX->AV) (A:ac),gO pu o.op=0->bT E pu o ρ A=.no:=fun o ρ A h=>by
  unfold bT; split
  ·exact Nz h ρ A
  ·rfl
 have h1:∀(o:MO) (ρ:MX->AV) (A:ac),gO pu o.op=1->(bT E pu o ρ A).wr=some []/\(bT E pu o ρ A).al=false:=fun o ρ A h=>by
  unfold bT; split
  ·exact Ny h ρ A
  ·exact ⟨rfl,rfl⟩
 have m0:∀l,j6 l (some [])=true:=fun l=>by
  cases l with
  | none=>rfl
  | some l=>cases l <;> rfl
 have m0':∀l,j6 (some []) l=true:=fun l=>rfl
 simp only [xT,Bool.or_eq_true,Sd,Tg] at h
 rcases h with (h | h) | ⟨h,h'⟩
 ·rw [h0 x ρ A h]; simp [fJ.apart,fJ.apart0,fJ.no,m0']
 ·rw [h0 y ρ' B h]; simp [fJ.apart,fJ.apart0,fJ.no,m0]
 ·obtain ⟨a1,a2⟩:=h1 x ρ A h
  obtain ⟨b1,b2⟩:=h1 y ρ' B h'
  simp [fJ.apart,fJ.apart0,a1,a2,b1,m0,m0']
theorem iU {on:Bool} (hE:dj P E) (hvn:vs.Nodup) (hvl:∀t∈vs,t<N) {pu:List FuncId} (hpu:bG E pu) (hm:P.follows .mixedOrders=true) {ops:Array Oper}
  (hof:lC ops (cy P N vs on ops ops.toList []) (Region.before ops)=true) {σ σ':List AV} {A A':ac} {a:Act} {w:World} {OK:Nat->Prop} {g:aC} (h:SRel E N vs base w OK g σ A a) {fs:List fJ}
  (he:dO E pu (cy P N vs on ops ops.toList []) σ [] A []=some (σ',A',fs)) (hpr:∀p∈p6 pu (cy P N vs on ops ops.toList []) (Region.before ops),(fs.getD p.1 .no).apart (fs.getD p.2 .no)=true) {Q:Exit->Act->World->Prop}
  (hQ:∀a1 w1 OK1 g1,SRel E N vs base w1 OK1 g1 σ' A' a1->Ext w OK g w1 OK1 g1->Q .normal a1 w1):(Code.region id ops true).wpIn (FW rd) n P Q a w:=by
 refine wpIn_region_any hm ?_
 have he0:eB E (cy P N vs on ops ops.toList []) σ [] A≠none:=fun h0=>by
  have:∀(l:List MO) (σ T:List AV) (A:ac) (fs:List fJ),eB E l σ T A=none->dO E pu l σ T A fs=none:=by
   intro l
   induction l with
   | nil=>intro σ T A fs h; cases h
   | cons o l ih=>
    intro σ T A fs h
    simp only [eB] at h
    simp only [dO]
    split at h
    ·split at h
     ·exact ih _ _ _ _ h
     ·rfl
    ·exact ih _ _ _ _ h
    ·rfl
  rw [this _ _ _ _ _ h0] at he
  cases he
 rcases om (P:=P) (E:=E) (N:=N) (vs:=vs) (on:=on) (ops:=ops) ops.toList [] (fun j j' t h=>by simp at h) (fun j t h=>by simp at h) with ⟨tf,_,k2,k3,k4,k5,k6⟩ | hn
 ·obtain ⟨_,T',h1⟩:=jY (E:=E) (pu:=pu) (cy P N vs on ops ops.toList []) (fun i=>fs.getD i .no) (cy P N vs on ops ops.toList []) 0 σ [] A [] σ' A' fs rfl rfl rfl he (fun _=>rfl)
  have hrem:fG ops.size (Array.replicate ops.size false)=List.range ops.size:=by
   unfold fG
   rw [List.filter_eq_self]
   intro i hi
   have:i<ops.size:=by simpa using hi
   simp [this]
  have hD:=h.arena.drew (w.drawn+1)
  have hX:=Ext.drew w OK g (w.drawn+1)
  have h':=h.ext hX hD
  rw [k5,<-List.range_eq_range',S7,show ops.toList.length=ops.size by simp] at h1
  have hlen:(cy P N vs on ops ops.toList []).length=ops.size:=by rw [k5]; simp
  refine CP (on:=on) (base:=base) (s':=(σ',T',A')) hE hvn hvl hpu hof (ts:=tf) (Fm:=fun i=>fs.getD i .no) (fun i j hij hj=>?_) (fun k o hk=>by
   obtain ⟨mo,l1,l2⟩:=k6 k o (by simpa using hk)
   exact ⟨mo,l1,by simpa using l2⟩) (w0:=w) (OK0:=OK) (g0:=g) (fun a1 w1 OK1 g1 m1 m2=>hQ a1 w1 OK1 g1 m1 m2) ops.size _ σ (List.replicate ops.size .undef) A a _ OK g (by simp) (by rw [hrem]; simp) ?_ ?_ hX ?_
  ·by_cases hb:((Region.before ops).getD j 0).testBit i=true
   ·exact .inl hb
   ·right
    obtain ⟨x,ρx,Ax,hx,fx⟩:=h1.foot i (by simp; omega)
    obtain ⟨y,ρy,Ay,hy,fy⟩:=h1.foot j (by simp; omega)
    by_cases hk:xT pu x y=true
    ·rw [fx,fy]
     exact rK hk _ _ _ _
    ·refine hpr (i,j) ?_
     simp only [p6,Ul,SI,List.mem_filterMap]
     exact ⟨j,by omega,i,hij,by rw [RK hb]; simp [hx,hy,hk]⟩
  ·intro j hj
   exfalso
   by_cases hjs:j<ops.size <;> simp [hjs] at hj
  ·have hun:∀j,(List.replicate ops.size AV.undef).getD j .undef=.undef:=fun j=>by
    rw [Rw,SW]; split <;> rfl
   exact {h' with tlen:=(by simp [k2]),temps:=(fun j t hj=>by rw [hun]; exact .undef _ _),tok:=k4,tone:=k3}
  ·rw [hrem]; exact h1
 ·exact absurd (hn _ _ _) he0
end
section
variable {P:Program} {E:Env} {N:Nat} {vs:List Nat} {base:Nat} {rd:Option Nat} {n:Nat}
def dZ (E:Env) (N:Nat) (vs:List Nat) (base:Nat) (w0:World) (OK0:Nat->Prop) (g0:aC):Out->Exit->Act->World->Prop
 | .normal σ A,.normal,a,w=>∃OK g,SRel E N vs base w OK g σ A a/\Ext w0 OK0 g0 w OK g
 | .exit id σ A,.exit id',a,w=>id=id'/\∃OK g,SRel E N vs base w OK g σ A a/\Ext w0 OK0 g0 w OK g
 | .ret σ A,.ret,a,w=>∃OK g,SRel E N vs base w OK g σ A a/\Ext w0 OK0 g0 w OK g
 | _,_,_,_=>False
theorem dZ.pre {w0 w1:World} {OK0 OK1:Nat->Prop} {g0 g1:aC} {out:Out} {e:Exit} {a:Act} {w:World} (hx:Ext w0 OK0 g0 w1 OK1 g1) (h:dZ E N vs base w1 OK1 g1 out e a w):dZ E N vs base w0 OK0 g0 out e a w:=by
 cases out <;> cases e <;> simp only [dZ] at h ⊢
 ·obtain ⟨OK,g,h1,h2⟩:=h; exact ⟨OK,g,h1,hx.trans h2⟩
 ·obtain ⟨h0,OK,g,h1,h2⟩:=h; exact ⟨h0,OK,g,h1,hx.trans h2⟩
 ·obtain ⟨OK,g,h1,h2⟩:=h; exact ⟨OK,g,h1,hx.trans h2⟩
theorem vX {F:Fence} {Q:Exit->Act->World->Prop} {a:Act} {w:World} {c:Code} (h:c.wpIn F n P Q a w) (hg:∀l a w,¬ Q (.goto l) a w):(Code.scope c).wpIn F n P Q a w:=by
 intro b k cs hro hb hr
 have s1:step P (lone (b.atR a (.code (.scope c) :: k)) cs w)=.next (lone (b.atR a (.code c :: .inScope c :: k)) cs w):=step_lone_go (by simp [stepG,stepG.exec,Frame.atR])
 have s2:∀a w,step P (lone (b.atR a (.inScope c :: k)) cs w)=.next (lone (b.atR a k) cs w):=fun a w=>step_lone_go (by simp [stepG,stepG.exec,Frame.atR])
 have h0:(lone (b.atR a (.code (.scope c) :: k)) cs w).fenced P F:=fenced_calm hb hr rfl
 obtain ⟨e,a₁,w₁,hq,harr⟩:=h b (.inScope c :: k) cs hro hb hr
 cases e with
 | normal=>exact ⟨.normal,a₁,w₁,hq,.head h0 s1 (StepsIn.trans harr (.one (fenced_calm hb hr rfl) (s2 _ _)))⟩
 | exit id=>exact ⟨.exit id,a₁,w₁,hq,fun k' hk=>.head h0 s1 (harr.1 k' (by simp [exitTo,hk])),fun hr' hk=>let ⟨k₁,h1,h2⟩:=harr.2 hr' (by simp [exitTo,hk]); ⟨k₁,h1,.head h0 s1 h2⟩⟩
 | goto l=>exact (hg _ _ _ hq).elim
 | ret=>exact ⟨_,a₁,w₁,hq,.of_steps (.one h0 s1) harr⟩
 | panic ch=>exact ⟨_,a₁,w₁,hq,.of_steps (.one h0 s1) harr⟩
 | outgrown=>exact ⟨_,a₁,w₁,hq,.of_steps (.one h0 s1) harr⟩
theorem Ei {α β:Type} {kX:α->Prop} {inner:α->Option β} {x:β} (h:evR kX inner=some x) (a:α) (ha:kX a):inner a=some x:=by
 unfold evR at h
 split at h
 ·rename_i hx
  injection h with h; subst h
  exact hx.choose_spec a ha
 ·cases h
theorem KJ {α β:Type} {kX:α->Prop} {inner:α->Option β} {x:β} (a:α) (ha:kX a) (h:∀a,kX a->inner a=some x):evR kX inner=some x:=by
 have hx:∃x,∀a,kX a->inner a=some x:=⟨x,h⟩
 unfold evR
 rw [UO hx]
 have h1:=hx.choose_spec a ha
 rw [h a ha] at h1
 exact h1.symm
theorem cq.alloc {w:World} {g:aC} {A:ac} (h:cq w OK g A) (o:Obj):cq (w.alloc o) OK g A/\Ext w OK g (w.alloc o) OK g:=by
 have hb:∀b,b<w.heap.size->(w.alloc o).heap[b]?=w.heap[b]?:=fun b hb=>by
  show (w.heap.push o)[b]?=_
  rw [Ts,RK (by omega)]
 have hs:w.heap.size<=(w.alloc o).heap.size:=by simp
 exact ⟨h.keep hs hb OK (fun _ h=>h) (fun _ h=>.inl h) (fun b hb=>S3 (h.ok b hb) hs),
  ⟨rfl,rfl,rfl,hs,fun b hb' _=>hb b hb',g.le_refl,fun _ h=>h,fun id inc hi=>.inl ⟨id,inc,hi,rfl⟩,fun _ h=>.inl h,fun b r hr _=>(hb b (Sp.1 hr).1).trans hr,fun _ _ _ _=>rfl⟩⟩
theorem cq.revive {w:World} {g:aC} {A:ac} (h:cq w OK g A) {inc:Inc} (hg:g n0=[inc]) (h0:inc.esz=0) {rb:Loop} (hb:w.heap[inc.b]?=some (.loop rb)) (hbusy:rb.state=.busy)
  (r:Loop) (k:Nat):cq (w.putObj inc.b (.loop (iW r k))) OK g (A.set n0 (.loop r k)):=by
 have hlt:inc.b<w.heap.size:=(Sp.1 hb).1
 have hn0:n0<A.length:=by
  rcases Ti n0 A.length with h1 | h1
  ·exact h1
  ·have:=h.out n0 h1; rw [hg] at this; cases this
 have hother:∀b,b≠inc.b->(w.putObj inc.b (.loop (iW r k))).heap[b]?=w.heap[b]?:=fun b hne=>World.putObj_heap_other hne
 have hokb:∀b,OK b->(w.putObj inc.b (.loop (iW r k))).heap[b]?=w.heap[b]?:=fun b hob=>hother b fun e=>h.apart n0 inc (by rw [hg]; simp) (e ▸ hob)
 have hapart:∀(k':Nat) (i:Inc),k'≠n0->A[k']?≠some .dead->i∈g k'->i.b≠inc.b:=fun k' i hk hd hi eb=>by
  have hk':k'<A.length:=by
   rcases Ti k' A.length with h1 | h1
   ·exact h1
   ·have:=h.out k' h1; rw [this] at hi; cases hi
  have hent:=h.ent k' hk'
  cases he:A[k'] with
  | row s gr es=>
   rw [he] at hent
   obtain ⟨_,_,_,c,T,fz,hh,_⟩:=hent.2 i hi
   rw [eb,hb] at hh; cases hh
  | map kvs=>
   rw [he] at hent
   obtain ⟨i',e1,es,cl,hh,_⟩:=hent
   rw [e1] at hi; simp at hi; subst hi
   rw [eb,hb] at hh; cases hh
  | loop r' k2=>
   rw [he] at hent
   obtain ⟨i',e1,_,hh⟩:=hent
   rw [e1] at hi; simp at hi; subst hi
   rw [eb,hb] at hh
   injection hh with hh; injection hh with hh
   rw [hh] at hbusy
   unfold iW at hbusy
   split at hbusy <;> cases hbusy
  | dead=>exact hd (by rw [Rx hk',he])
 refine ⟨fun k' hk=>?_,fun k' hk=>?_,fun k1 k2 i i' hd hd' hi hi' eb=>?_,h.apart,fun k' i hi=>?_,fun b hob=>?_⟩
 ·by_cases e:k'=n0
  ·subst e
   simp only [TD]
   exact ⟨inc,hg,h0,World.putObj_heap_same hlt⟩
  ·have hk':k'<A.length:=by simpa using hk
   rw [Tt (S4 e)]
   by_cases hd:A[k']?=some .dead
   ·rw [Rx hk'] at hd
    injection hd with hd
    rw [hd]; trivial
   ·exact (h.ent k' hk').mono (fun _ h=>h) hokb g.le_refl (fun i hi=>hother _ (hapart k' i e hd hi))
 ·exact h.out k' (by simpa using hk)
 ·have hl:∀k':Nat,k'≠n0->(A.set n0 (.loop r k))[k']?≠some Ent.dead->A[k']?≠some Ent.dead:=fun k' e hd=>by rwa [RF (S4 e)] at hd
  by_cases e1:k1=n0
  ·by_cases e2:k2=n0
   ·subst e1; subst e2
    rw [hg] at hi hi'
    simp at hi hi'
    exact ⟨rfl,hi.trans hi'.symm⟩
   ·subst e1
    rw [hg] at hi
    simp at hi; subst hi
    exact absurd eb.symm (hapart k2 i' e2 (hl k2 e2 hd') hi')
  ·by_cases e2:k2=n0
   ·subst e2
    rw [hg] at hi'
    simp at hi'; subst hi'
    exact absurd eb (hapart k1 i e1 (hl k1 e1 hd) hi)
   ·exact h.one k1 k2 i i' (hl k1 e1 hd) (hl k2 e2 hd') hi hi' eb
 ·simpa using h.low k' i hi
 ·simpa using h.ok b hob
theorem nN {w:World} {g:aC} (hvn:vs.Nodup) (hvl:∀t∈vs,t<N):∀(ts is:List Nat) (us:List Value) (args σ σ1:List AV) (tm:Array Value),sC vs ts=some is->iS σ is args=some σ1->bS w OK g us args ->
  tm.size=N->σ.length=vs.length->(∀i (h:i<vs.length),aW w OK g (tm.getD vs[i] undef) (σ.getD i .undef)) ->
  let tm':=(ts.zip us).foldl (fun tmps x=>tmps.setIfInBounds x.1 x.2) tm
  us.length=ts.length/\tm'.size=N/\σ1.length=vs.length/\∀i (h:i<vs.length),aW w OK g (tm'.getD vs[i] undef) (σ1.getD i .undef)
 | [],is,us,args,σ,σ1,tm,hi,hs,hl,hN,hlen,hv=>by
  injection hi with hi; subst hi
  cases args with
  | nil=>
   simp only [iS,Rz] at hs
   subst hs
   cases us with
   | nil=>exact ⟨rfl,hN,hlen,hv⟩
   | cons u us=>exact hl.elim
  | cons a args=>simp [iS] at hs
 | t :: ts,is,us,args,σ,σ1,tm,hi,hs,hl,hN,hlen,hv=>by
  simp only [sC] at hi
  split at hi
  ·rename_i i l h1 h2
   injection hi with hi; subst hi
   cases args with
   | nil=>simp [iS] at hs
   | cons a args=>
    cases us with
    | nil=>exact hl.elim
    | cons u us=>
     simp only [iS] at hs
     obtain ⟨hlt,het⟩:=SR.1 h1 |> fun h=>(⟨h.1,h.2.1⟩:∃h:i<vs.length,vs[i]=t)
     have htN:t<N:=hvl t (het ▸ RM hlt)
     obtain ⟨k1,k2,k3,k4⟩:=nN hvn hvl ts l us args (σ.set i a) σ1 (tm.setIfInBounds t u) h2 hs hl.2 (by simpa using hN) (by simpa using hlen) (fun j hj=>by
      by_cases e:i=j
      ·subst e
       rw [het,ey _ _ (by rw [hN]; exact htN)]
       simp [RO (show i<σ.length by rw [hlen]; exact hj),hl.1]
      ·have hne:t≠vs[j]:=fun e2=>e (p7 hvn hlt hj (by rw [het,e2]))
       rw [dt _ _ hne]
       have:=hv j hj
       simpa [Rw,RF e] using this)
     exact ⟨by simp [k1],k2,k3,k4⟩
  ·cases hi
end
section
variable {P:Program} {E:Env} {N:Nat} {vs:List Nat} {base:Nat} {rd:Option Nat} {n:Nat}
theorem Ext.putLoop {w w3:World} {OK3:Nat->Prop} {g g3:aC} (h:Ext w OK g w3 OK3 g3) {inc:Inc} (hg:g n0=[inc]) {r0:Loop} (hr:w.heap[inc.b]?=some (.loop r0)) (h0:r0.state≠.busy) (o:Obj) :
  Ext w OK g (w3.putObj inc.b o) OK3 g3 where
 os:=h.os
 tape:=h.tape
 output:=h.output
 size:=by simpa using h.size
 blk b hb hu:=(World.putObj_heap_other (fun e=>hu n0 inc (by rw [hg]; simp) e.symm)).trans (h.blk b hb hu)
 gle:=h.gle
 okle:=h.okle
 fresh:=h.fresh
 okf:=h.okf
 loops b r hb hbusy:=(World.putObj_heap_other (fun e=>by
  rw [e,hr] at hb; injection hb with hb; injection hb with hb; rw [hb] at h0; exact h0 hbusy)).trans (h.loops b r hb hbusy)
 fix:=h.fix
theorem ua (hvn:vs.Nodup) (hvl:∀t∈vs,t<N) {l:Nat} {r0:Loop} {σ:List AV} {is:List Nat} {asg bdy:List AV->ac->Option Out} {tm:Array Value}
  (hr0:r0.state=.ready/\r0.pending=none) (htm:r0.tmps=tm) (hN:tm.size=N) (hlen:σ.length=vs.length) (his:sC vs r0.params.toList=some is) (hh:iL P E.glob E.ys E.hand)
  (ha:∀(m:Nat) (σ:List AV) (A:ac) (out:Out) (a:Act) (w:World) (OK:Nat->Prop) (g:aC),SRel E N vs 0 w OK g σ A a->asg σ A=some out->r0.assign.wpIn (FW (some l)) m P (dZ E N vs 0 w OK g out) a w)
  (hb:∀(m:Nat) (σ:List AV) (A:ac) (out:Out) (a:Act) (w:World) (OK:Nat->Prop) (g:aC),SRel E N vs 0 w OK g σ A a->bdy σ A=some out->r0.body.wpIn (FW (some l)) m P (dZ E N vs 0 w OK g out) a w) :
  iL P E.glob (⟨n0,l,vs.map (tm.getD · undef),σ⟩ :: E.ys) (fU n0 l r0 σ is asg bdy E.hand):=by
 intro fv args A r A' he w OK g v us hA hI hv hl
 have hsub:∀y∈E.ys,y∈(⟨n0,l,vs.map (tm.getD · undef),σ⟩ :: E.ys):=fun y hy=>SK _ hy
 have other:E.hand fv args A=some (r,A')->Gn P w OK g ((do let d <-Deferred.ofValue v us.toArray; invoke d.target d.args:Sem Next).run P w) r A':=fun he=>hh.sub hsub _ _ _ _ _ he w OK g v us hA hI hv hl
 unfold fU at he
 split at he
 ·rename_i l'
  split at he
  ·rename_i hll
   subst hll
   split at he
   ·rename_i r' k hAn
    split at he
    ·rename_i hrk
     obtain ⟨rfl,rfl⟩:=hrk
     split at he
     ·rename_i σ1 hset
      split at he
      ·rename_i σ2 A2 hasg
       split at he
       ·rename_i hA2
        obtain ⟨⟨inc,hg1,hg2,hg3⟩,hvals⟩:=hI.2 _ (To ..)
        simp only at hg1 hg2 hvals
        subst hg2
        have hn0:n0<A.length:=(Rv.1 hAn).1
        have hent:=hA.ent n0 hn0
        rw [(Rv.1 hAn).2] at hent
        obtain ⟨inc',e1,_,hheap⟩:=hent
        rw [hg1] at e1
        simp at e1; subst e1
        have hrec:iW r' 0=r':=by
         obtain ⟨h1,h2⟩:=hr0
         cases r'; simp only at h1 h2; subst h1; subst h2; rfl
        rw [hrec] at hheap
        obtain ⟨vs1,vs2,vals1,vals2,rfl,hl1,hl2,-,-,-,-⟩:=hv.inv_func
        simp at hl1 hl2
        subst hl1; subst hl2
        obtain ⟨t1,t2,t3,t4⟩:=nN hvn hvl r'.params.toList is us args σ σ1 tm his hset hl hN hlen (fun i hi=>by
         have:=hvals.get i (by simpa using hi) (by rw [hlen]; exact hi)
         simpa [Rw,Rx (show i<σ.length by rw [hlen]; exact hi)] using this)
        have hy:=run_yield (P:=P) (args:=us.toArray) (hheap) (by simpa using t1)
        refine .inr (.inr ⟨inc.b,r'.fn,(r'.params.zip us.toArray).foldl (fun tmps (t,a)=>tmps.setIfInBounds t a) r'.tmps,r'.assign,r'.body,?_,?_⟩)
        ·simp only [Deferred.ofValue,Sem.run_bind,Sem.run_pure,Result.andThen_ok,invoke]
         simpa using hy
        intro rd m
        have hs0:SRel E N vs 0 w OK g σ1 A {tmps:=(r'.params.zip us.toArray).foldl (fun tmps x=>tmps.setIfInBounds x.1 x.2) r'.tmps,defers:=[]}:=by
         have hf:(r'.params.zip us.toArray).foldl (fun tmps x=>tmps.setIfInBounds x.1 x.2) r'.tmps=(r'.params.toList.zip us).foldl (fun tmps x=>tmps.setIfInBounds x.1 x.2) tm:=by
          rw [<-Array.foldl_toList,htm]; simp
         rw [hf]
         exact ⟨t2,trivial,TJ _,t3,t4,hA,hI.sub hsub⟩
        refine roundIn_of_wpIn (F:=FW rd) trivial (wpIn_mono (ha m σ1 A _ _ w OK g hs0 hasg) ?_)
        intro e a1 w1 hq
        cases e <;> simp only [dZ] at hq
        obtain ⟨OK1,g1,hs1,hx1⟩:=hq
        have hg1':g1 n0=[inc]:=(hx1.fix n0 inc (by rw [hg1]; simp) hg3).trans hg1
        have hn1:n0<A2.length:=(Rv.1 hA2).1
        have hent1:=hs1.arena.ent n0 hn1
        rw [(Rv.1 hA2).2] at hent1
        obtain ⟨inc',e1,_,hheap1⟩:=hent1
        rw [hg1'] at e1
        simp at e1; subst e1
        rw [hrec] at hheap1
        have hlt1:inc.b<w1.heap.size:=(Sp.1 hheap1).1
        refine ⟨w1.putObj inc.b (.loop {r' with state:=.busy}),run_beginRound hheap1 hr0.1,?_⟩
        obtain ⟨u1,u2⟩:=hs1.arena.turn (w':=w1.putObj inc.b (.loop {r' with state:=.busy})) (g':=g1) n0 hn1 (by rw [hA2]; simp) inc (by rw [hg1']; simp) (by simp) rfl rfl rfl (fun b hne=>World.putObj_heap_other hne)
         (fun r2 hr2 hbusy=>by rw [hheap1] at hr2; injection hr2 with hr2; injection hr2 with hr2; rw [<-hr2,hr0.1] at hbusy; cases hbusy) g1.le_refl (fun _ _=>rfl) (fun i hi=>⟨i,hi,rfl⟩)
         (fun i i' hi hi' _=>by rw [hg1'] at hi hi'; simp at hi hi'; rw [hi,hi']) .dead (fun _=>trivial) (fun _=>rfl)
        have hs2:=hs1.ext u2 u1
        have hbusy2:(w1.putObj inc.b (.loop {r' with state:=.busy})).heap[inc.b]?=some (.loop {r' with state:=.busy}):=World.putObj_heap_same hlt1
        have fin:∀(k:Nat) (jump:Option Code) (σ3:List AV) (A3:ac) (a3:Act) (w3:World) (OK3:Nat->Prop) (g3:aC),SRel E N vs 0 w3 OK3 g3 σ3 A3 a3->Ext (w1.putObj inc.b (.loop {r' with state:=.busy})) OK1 g1 w3 OK3 g3 ->
          iW r' k={r' with state:=if jump.isNone then .ready else .done,pending:=jump} ->
          ∃v w',(Instr.endRound inc.b jump).run P w3=.ok v w'/\∃v' OK' g',Ending.returned v=.returned v'/\aW w' OK' g' v' (.bool jump.isNone)/\cq w' OK' g' (A3.set n0 (.loop r' k))/\Ext w OK g w' OK' g':=by
         intro k jump σ3 A3 a3 w3 OK3 g3 hs3 hx3 hrk
         have hb3:=hx3.loops _ _ hbusy2 rfl
         have hg3':g3 n0=[inc]:=(hx3.fix n0 inc (by rw [hg1']; simp) hg3).trans hg1'
         have:=run_endRound (P:=P) jump hb3
         refine ⟨_,_,this,.bool jump.isNone,OK3,g3,rfl,.bool _ _,?_,?_⟩
         ·have hrv:=hs3.arena.revive hg3' hg3 hb3 rfl r' k
          rw [hrk] at hrv
          exact hrv
         ·exact ((hx1.trans u2).trans hx3).putLoop hg1 hheap (by rw [hr0.1]; simp) _
        split at he
        ·rename_i σ3 A3 hbd
         injection he with he; injection he with he1 he2; subst he1; subst he2
         refine wpIn_mono (hb m σ2 (A2.set n0 .dead) _ a1 _ OK1 g1 hs2 hbd) ?_
         intro e a3 w3 hq
         cases e <;> simp only [dZ] at hq
         obtain ⟨OK3,g3,hs3,hx3⟩:=hq
         exact fin 0 none σ3 A3 a3 w3 OK3 g3 hs3 hx3 rfl
        ·rename_i σ3 A3 hbd
         injection he with he; injection he with he1 he2; subst he1; subst he2
         refine wpIn_mono (hb m σ2 (A2.set n0 .dead) _ a1 _ OK1 g1 hs2 hbd) ?_
         intro e a3 w3 hq
         cases e <;> simp only [dZ] at hq
         obtain ⟨OK3,g3,hs3,hx3⟩:=hq
         exact fin 1 (some .ret) σ3 A3 a3 w3 OK3 g3 hs3 hx3 rfl
        ·rename_i id σ3 A3 hbd
         injection he with he; injection he with he1 he2; subst he1; subst he2
         refine wpIn_mono (hb m σ2 (A2.set n0 .dead) _ a1 _ OK1 g1 hs2 hbd) ?_
         intro e a3 w3 hq
         cases e <;> simp only [dZ] at hq
         obtain ⟨hid,OK3,g3,hs3,hx3⟩:=hq
         subst hid
         exact fin (id+2) (some (.exit id)) σ3 A3 a3 w3 OK3 g3 hs3 hx3 (by unfold iW; rw [RK (by omega),RK (by omega)]; simp)
        ·cases he
       ·cases he
      ·cases he
     ·cases he
    ·cases he
   ·cases he
  ·exact other he
 ·exact other he
end
end Go.Proofs.Ytkcjhljbgjpklaa
