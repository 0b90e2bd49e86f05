import Derived.Test.YtfkcoekicjjndaaGreatUB02
import Derived.Shelf.Abstract
import Derived.WideKeyArgs
import Derived.OpenShut
import Derived.ChangeOld
import Derived.RowKit
import Derived.Test.YtfkcoekicjjndaaGreatChecked
import Derived.KernelRfl
set_option maxRecDepth 100000
set_option maxHeartbeats 4000000
noncomputable section
namespace Go.Proofs.YtfkcoekicjjndaaGreat
open Go
section
variable {P:Program} {E:Env} {N:Nat} {vs:List Nat} {base:Nat} {rd:Option Nat} {n:Nat}
theorem Ext.putLoop {w w3:World} {OK OK3:Nat->Prop} {g g3:az} (h:Ext w OK g w3 OK3 g3) {n0:Nat} {inc:Inc} (hg:g n0=[inc]) {r0:Loop} (hr:w.heap[inc.b]?=some (.loop r0)) (h0:r0.state≠.busy) (o:Obj) :
  Ext w OK g (w3.putObj inc.b o) OK3 g3 where
 os:=h.os
 tape:=h.tape
 output:=h.output
 size:=by simpa using h.size
 blk b hb hu:=(World.putObj_heap_other (fun e=>hu n0 inc (by rw [hg]; simp) e.symm)).trans (h.blk b hb hu)
 gle:=h.gle
 okle:=h.okle
 fresh:=h.fresh
 okf:=h.okf
 loops b r hb hbusy:=(World.putObj_heap_other (fun e=>by
  rw [e,hr] at hb; injection hb with hb; injection hb with hb; rw [hb] at h0; exact h0 hbusy)).trans (h.loops b r hb hbusy)
 fix:=h.fix
theorem pb (hvn:vs.Nodup) (hvl:∀t∈vs,t<N) {n0 l:Nat} {r0:Loop} {σ:List AV} {is:List Nat} {asg bdy:List AV->ac->Option Out} {tm:Array Value}
  (hr0:r0.state=.ready/\r0.pending=none) (htm:r0.tmps=tm) (hN:tm.size=N) (hlen:σ.length=vs.length) (his:n3 vs r0.params.toList=some is) (hh:fL P E.glob E.ys E.hand)
  (ha:∀(m:Nat) (σ:List AV) (A:ac) (out:Out) (a:Act) (w:World) (OK:Nat->Prop) (g:az),SRel E N vs 0 w OK g σ A a->asg σ A=some out->r0.assign.wpIn (FW (some l)) m P (de E N vs 0 w OK g out) a w)
  (hb:∀(m:Nat) (σ:List AV) (A:ac) (out:Out) (a:Act) (w:World) (OK:Nat->Prop) (g:az),SRel E N vs 0 w OK g σ A a->bdy σ A=some out->r0.body.wpIn (FW (some l)) m P (de E N vs 0 w OK g out) a w) :
  fL P E.glob (⟨n0,l,vs.map (tm.getD · undef),σ⟩ :: E.ys) (dH n0 l r0 σ is asg bdy E.hand):=by
 intro fv args A r A' he w OK g v us hA hI hv hl
 have hsub:∀y∈E.ys,y∈(⟨n0,l,vs.map (tm.getD · undef),σ⟩ :: E.ys):=fun y hy=>List.mem_cons_of_mem _ hy
 have other:E.hand fv args A=some (r,A')->zI P w OK g ((do let d <-Deferred.ofValue v us.toArray; invoke d.target d.args:Sem Next).run P w) r A':=fun he=>hh.sub hsub _ _ _ _ _ he w OK g v us hA hI hv hl
 unfold dH at he
 split at he
 ·rename_i l'
  split at he
  ·rename_i hll
   subst hll
   split at he
   ·rename_i r' k hAn
    split at he
    ·rename_i hrk
     obtain ⟨rfl,rfl⟩:=hrk
     split at he
     ·rename_i σ1 hset
      split at he
      ·rename_i σ2 A2 hasg
       split at he
       ·rename_i hA2
        obtain ⟨⟨inc,hg1,hg2,hg3⟩,hvals⟩:=hI.2 _ (List.mem_cons_self ..)
        simp only at hg1 hg2 hvals
        subst hg2
        have hn0:n0<A.length:=(List.getElem?_eq_some_iff.1 hAn).1
        have hent:=hA.ent n0 hn0
        rw [(List.getElem?_eq_some_iff.1 hAn).2] at hent
        obtain ⟨inc',e1,_,hheap⟩:=hent
        rw [hg1] at e1
        simp at e1; subst e1
        have hrec:fW r' 0=r':=by
         obtain ⟨h1,h2⟩:=hr0
         cases r'; simp only at h1 h2; subst h1; subst h2; rfl
        rw [hrec] at hheap
        obtain ⟨vs1,vs2,vals1,vals2,rfl,hl1,hl2,-,-,-,-⟩:=hv.inv_func
        simp at hl1 hl2
        subst hl1; subst hl2
        obtain ⟨t1,t2,t3,t4⟩:=kj hvn hvl r'.params.toList is us args σ σ1 tm his hset hl hN hlen (fun i hi=>by
         have:=hvals.get i (by simpa using hi) (by rw [hlen]; exact hi)
         simpa [List.getD_eq_getElem?_getD,List.getElem?_eq_getElem (show i<σ.length by rw [hlen]; exact hi)] using this)
        have hy:=run_yield (P:=P) (args:=us.toArray) (hheap) (by simpa using t1)
        refine .inr (.inr ⟨inc.b,r'.fn,(r'.params.zip us.toArray).foldl (fun tmps (t,a)=>tmps.setIfInBounds t a) r'.tmps,r'.assign,r'.body,?_,?_⟩)
        ·simp only [Deferred.ofValue,Sem.run_bind,Sem.run_pure,Result.andThen_ok,invoke]
         simpa using hy
        intro rd m
        have hs0:SRel E N vs 0 w OK g σ1 A {tmps:=(r'.params.zip us.toArray).foldl (fun tmps x=>tmps.setIfInBounds x.1 x.2) r'.tmps,defers:=[]}:=by
         have hf:(r'.params.zip us.toArray).foldl (fun tmps x=>tmps.setIfInBounds x.1 x.2) r'.tmps=(r'.params.toList.zip us).foldl (fun tmps x=>tmps.setIfInBounds x.1 x.2) tm:=by
          rw [<-Array.foldl_toList,htm]; simp
         rw [hf]
         exact ⟨t2,trivial,Nat.zero_le _,t3,t4,hA,hI.sub hsub⟩
        refine roundIn_of_wpIn (F:=FW rd) trivial (wpIn_mono (ha m σ1 A _ _ w OK g hs0 hasg) ?_)
        intro e a1 w1 hq
        cases e <;> simp only [de] at hq
        obtain ⟨OK1,g1,hs1,hx1⟩:=hq
        have hg1':g1 n0=[inc]:=(hx1.fix n0 inc (by rw [hg1]; simp) hg3).trans hg1
        have hn1:n0<A2.length:=(List.getElem?_eq_some_iff.1 hA2).1
        have hent1:=hs1.arena.ent n0 hn1
        rw [(List.getElem?_eq_some_iff.1 hA2).2] at hent1
        obtain ⟨inc',e1,_,hheap1⟩:=hent1
        rw [hg1'] at e1
        simp at e1; subst e1
        rw [hrec] at hheap1
        have hlt1:inc.b<w1.heap.size:=(Array.getElem?_eq_some_iff.1 hheap1).1
        refine ⟨w1.putObj inc.b (.loop {r' with state:=.busy}),run_beginRound hheap1 hr0.1,?_⟩
        obtain ⟨u1,u2⟩:=hs1.arena.turn (w':=w1.putObj inc.b (.loop {r' with state:=.busy})) (g':=g1) n0 hn1 (by rw [hA2]; simp) inc (by rw [hg1']; simp) (by simp) rfl rfl rfl (fun b hne=>World.putObj_heap_other hne)
         (fun r2 hr2 hbusy=>by rw [hheap1] at hr2; injection hr2 with hr2; injection hr2 with hr2; rw [<-hr2,hr0.1] at hbusy; cases hbusy) g1.le_refl (fun _ _=>rfl) (fun i hi=>⟨i,hi,rfl⟩)
         (fun i i' hi hi' _=>by rw [hg1'] at hi hi'; simp at hi hi'; rw [hi,hi']) .dead (fun _=>trivial) (fun _=>rfl)
        have hs2:=hs1.ext u2 u1
        have hbusy2:(w1.putObj inc.b (.loop {r' with state:=.busy})).heap[inc.b]?=some (.loop {r' with state:=.busy}):=World.putObj_heap_same hlt1
        have fin:∀(k:Nat) (jump:Option Code) (σ3:List AV) (A3:ac) (a3:Act) (w3:World) (OK3:Nat->Prop) (g3:az),SRel E N vs 0 w3 OK3 g3 σ3 A3 a3->Ext (w1.putObj inc.b (.loop {r' with state:=.busy})) OK1 g1 w3 OK3 g3 ->
          fW r' k={r' with state:=if jump.isNone then .ready else .done,pending:=jump} ->
          ∃v w',(Instr.endRound inc.b jump).run P w3=.ok v w'/\∃v' OK' g',Ending.returned v=.returned v'/\aL w' OK' g' v' (.bool jump.isNone)/\bK w' OK' g' (A3.set n0 (.loop r' k))/\Ext w OK g w' OK' g':=by
         intro k jump σ3 A3 a3 w3 OK3 g3 hs3 hx3 hrk
         have hb3:=hx3.loops _ _ hbusy2 rfl
         have hg3':g3 n0=[inc]:=(hx3.fix n0 inc (by rw [hg1']; simp) hg3).trans hg1'
         have:=run_endRound (P:=P) jump hb3
         refine ⟨_,_,this,.bool jump.isNone,OK3,g3,rfl,.bool _ _,?_,?_⟩
         ·have hrv:=hs3.arena.revive hg3' hg3 hb3 rfl r' k
          rw [hrk] at hrv
          exact hrv
         ·exact ((hx1.trans u2).trans hx3).putLoop hg1 hheap (by rw [hr0.1]; simp) _
        split at he
        ·rename_i σ3 A3 hbd
         injection he with he; injection he with he1 he2; subst he1; subst he2
         refine wpIn_mono (hb m σ2 (A2.set n0 .dead) _ a1 _ OK1 g1 hs2 hbd) ?_
         intro e a3 w3 hq
         cases e <;> simp only [de] at hq
         obtain ⟨OK3,g3,hs3,hx3⟩:=hq
         exact fin 0 none σ3 A3 a3 w3 OK3 g3 hs3 hx3 rfl
        ·rename_i σ3 A3 hbd
         injection he with he; injection he with he1 he2; subst he1; subst he2
         refine wpIn_mono (hb m σ2 (A2.set n0 .dead) _ a1 _ OK1 g1 hs2 hbd) ?_
         intro e a3 w3 hq
         cases e <;> simp only [de] at hq
         obtain ⟨OK3,g3,hs3,hx3⟩:=hq
         exact fin 1 (some .ret) σ3 A3 a3 w3 OK3 g3 hs3 hx3 rfl
        ·rename_i id σ3 A3 hbd
         injection he with he; injection he with he1 he2; subst he1; subst he2
         refine wpIn_mono (hb m σ2 (A2.set n0 .dead) _ a1 _ OK1 g1 hs2 hbd) ?_
         intro e a3 w3 hq
         cases e <;> simp only [de] at hq
         obtain ⟨hid,OK3,g3,hs3,hx3⟩:=hq
         subst hid
         exact fin (id+2) (some (.exit id)) σ3 A3 a3 w3 OK3 g3 hs3 hx3 (by unfold fW; rw [if_neg (by omega),if_neg (by omega)]; simp)
        ·cases he
       ·cases he
      ·cases he
     ·cases he
    ·cases he
   ·cases he
  ·exact other he
 ·exact other he
end
section
variable {P:Program} {E:Env} {N:Nat} {vs:List Nat} {base:Nat} {rd:Option Nat} {n:Nat}
theorem lY (hE:ck P E) (hvn:vs.Nodup) (hvl:∀t∈vs,t<N) {f:Operand} {ps:Array Tmp} {asg bd:Code} {z:MX} {is:List Nat} (hz:p9 vs [] f=some z) (his:n3 vs ps.toList=some is) {asgE bdE:List AV->ac->Option Out}
  (ha:∀(l m:Nat) (σ:List AV) (A:ac) (out:Out) (a:Act) (w:World) (OK:Nat->Prop) (g:az),SRel E N vs 0 w OK g σ A a->asgE σ A=some out->asg.wpIn (FW (some l)) m P (de E N vs 0 w OK g out) a w)
  (hb:∀(l m:Nat) (σ:List AV) (A:ac) (out:Out) (a:Act) (w:World) (OK:Nat->Prop) (g:az),SRel E N vs 0 w OK g σ A a->bdE σ A=some out->bd.wpIn (FW (some l)) m P (de E N vs 0 w OK g out) a w)
  {σ:List AV} {A:ac} {out:Out} {a:Act} {w:World} {OK:Nat->Prop} {g:az} (hs:SRel E N vs base w OK g σ A a)
  (he:evR (fun (_:Nat × Loop)=>True) (fun x=>
   match E.callY (dH A.length x.1 x.2 σ is asgE bdE E.hand) (evX E σ [] z) [.func (.yield x.1) [] []] (A++[Ent.loop x.2 0]) with
   | some (_,A')=>jC A.length σ A'
   | none=>none)=some out) :
  (Code.rangeFunc f ps asg bd).wpIn (FW none) n P (de E N vs base w OK g out) a w:=by
 refine wpIn_rangeFunc ?_
 intro fn hfn
 obtain ⟨r0,hr0⟩:∃r0:Loop,r0={state:=.ready,pending:=none,fn,tmps:=a.tmps,params:=ps,assign:=asg,body:=bd,defers:=w.heap.size}:=⟨_,rfl⟩
 obtain ⟨hA1,hx1⟩:=hs.arena.alloc (.deferred (some []))
 have hD:(w.alloc (.deferred (some []))).heap[w.heap.size]?=some (.deferred (some [])):=World.alloc_heap_new w _
 obtain ⟨w1,hw1⟩:∃w1,w1=w.alloc (.deferred (some [])):=⟨_,rfl⟩
 have hsz1:w1.heap.size=w.heap.size+1:=by rw [hw1]; simp
 rw [<-hw1] at hA1 hx1 hD
 have hrec:fW r0 0=r0:=by rw [hr0]; rfl
 obtain ⟨hA2,hx2⟩:=hA1.push (w':=w1.alloc (.loop r0)) (.loop r0) rfl rfl rfl rfl (.loop r0 0) ⟨w.heap.size+1,0,0,0,0⟩ hsz1.symm (fun g' _ _ hnew=>⟨_,rfl,rfl,by rw [hrec,<-hsz1]; exact hnew⟩)
 obtain ⟨w2,hw2⟩:∃w2,w2=w1.alloc (.loop r0):=⟨_,rfl⟩
 obtain ⟨inc0,hinc0⟩:∃i:Inc,i=⟨w.heap.size+1,0,0,0,0⟩:=⟨_,rfl⟩
 rw [<-hw2,<-hinc0] at hA2 hx2
 have hx:=hx1.trans hx2
 have hg2:g.push A.length inc0 A.length=[inc0]:=by simp [az.push]
 have hE0:=he
 have he:=yb he (w.heap.size+1,r0) trivial
 simp only at he
 have hs2:=hs.ext hx hA2
 have hyH:fL P E.glob (⟨A.length,w.heap.size+1,vs.map (a.tmps.getD · undef),σ⟩ :: E.ys) (dH A.length (w.heap.size+1) r0 σ is asgE bdE E.hand):=
  pb hvn hvl (by rw [hr0]; exact ⟨rfl,rfl⟩) (by rw [hr0]) hs.size hs.len (by rw [hr0]; exact his) hE.hand (by rw [hr0]; exact ha _) (by rw [hr0]; exact hb _)
 have hI2:tO E.glob (⟨A.length,w.heap.size+1,vs.map (a.tmps.getD · undef),σ⟩ :: E.ys) w2 OK (g.push A.length inc0):=by
  refine ⟨hs2.glob.1,fun y hy=>?_⟩
  rcases List.mem_cons.1 hy with rfl | hy
  ·refine ⟨⟨inc0,hg2,by rw [hinc0],by rw [hinc0]⟩,bo.of_get (by simp [hs.len]) fun i h1 h2=>?_⟩
   simp only [List.getElem_map]
   have:=hs2.vars i (by simpa using h1)
   simpa [List.getD_eq_getElem?_getD,List.getElem?_eq_getElem h2] using this
  ·exact hs2.glob.2 y hy
 split at he
 ·rename_i v0 A' hcall
  have hrr:gQ E N vs base w2 OK (g.push A.length inc0) σ [] [] (A++[Ent.loop r0 0]) a:={hs2 with tlen:=rfl,temps:=fun j t hj=>by simp at hj,tok:=fun j t hj=>by simp at hj,tone:=fun j j' t hj=>by simp at hj}
  have hfv:=hrr.eval f z hz
  obtain ⟨d,fid,args',e1,e2,e3⟩:=hE.callY _ _ (fun y hy=>List.mem_cons_of_mem _ hy) hyH _ _ _ _ _ hcall w2 OK _ _ [.func (.yield (w.heap.size+1)) #[] #[]] hA2 hI2 hfv
   ⟨.func _ _ _ _ [] [] rfl rfl (fun _=>undef) (fun _=>undef) (fun i hi=>by simp at hi) (fun i hi=>by simp at hi) (fun i hi=>by simp at hi) (fun i hi=>by simp at hi),trivial⟩
  refine ⟨w.heap.size+1,[{target:=.collected w.heap.size,args:=#[]}],w2,d,w2,fid,args',w2,?_,?_,fun f' _=>trivial,e2,fun hd=>by simp [oK] at hd,?_⟩
  ·rw [hw2,hw1,hr0]; exact run_enterLoop_outer _ _ _ _ _
  ·have:(resolve a.eval (rangeCall f (w.heap.size+1)) 0)=Deferred.ofValue (a.eval f) #[.func (.yield (w.heap.size+1)) #[] #[]]:=by
    simp [resolve,Act.eval]
   rw [this]; exact e1
  refine (sH e3 none (n-1)).mono ?_
  rintro e w3 ⟨v,OK3,g3,rfl,hv3,hA3,hx3⟩
  simp only [jC] at he
  split at he
  ·rename_i r k hAn
   have hn0:A.length<A'.length:=(List.getElem?_eq_some_iff.1 hAn).1
   have hent:=hA3.ent A.length hn0
   rw [(List.getElem?_eq_some_iff.1 hAn).2] at hent
   obtain ⟨inc',e4,_,hheap⟩:=hent
   have hg3:g3 A.length=[inc0]:=(hx3.fix A.length inc0 (by rw [hg2]; simp) (by rw [hinc0])).trans hg2
   rw [hg3] at e4
   simp at e4; subst e4
   have hb0:inc0.b=w.heap.size+1:=by rw [hinc0]
   have hnb:(fW r k).state≠.busy:=by unfold fW; split <;> simp
   have hend:=run_endLoop (P:=P) hheap hnb
   obtain ⟨hA4,hx4⟩:=hA3.turn (w':=w3.putObj inc0.b (.loop {fW r k with state:=.exhausted})) (g':=g3) A.length hn0 (by rw [hAn]; simp) inc0 (by rw [hg3]; simp) (by simp) rfl rfl rfl (fun b hne=>World.putObj_heap_other hne)
    (fun r2 hr2=>by rw [hheap] at hr2; injection hr2 with hr2; injection hr2 with hr2; rw [<-hr2]; exact hnb) g3.le_refl (fun _ _=>rfl) (fun i hi=>⟨i,hi,rfl⟩)
    (fun i i' hi hi' _=>by rw [hg3] at hi hi'; simp at hi hi'; rw [hi,hi']) .dead (fun _=>trivial) (fun _=>rfl)
   have hxx:=hx3.trans hx4
   have hs4:=hs2.ext hxx hA4
   have hm2:kY base w2 OK (g.push A.length inc0) ({target:=.collected w.heap.size,args:=#[]} :: a.defers):=by
    refine ⟨⟨w.heap.size,rfl,hs.low,?_,fun ho=>?_,fun id inc hi eb=>?_,?_⟩,hs2.defers⟩
    ·rw [hw2]
     show (w1.heap.push _)[w.heap.size]?=_
     rw [Array.getElem?_push,if_neg (by omega)]; exact hD
    ·have:=hs.arena.ok _ ho; omega
    ·simp only [az.push] at hi
     split at hi
     ·simp at hi; subst hi; omega
     ·have:=hs.arena.low id inc hi; omega
    ·have:∀l:List Deferred,kY base w OK g l->∀d'∈l,d'≠{target:=.collected w.heap.size,args:=#[]}:=by
      intro l
      induction l with
      | nil=>intro _ d' hd; cases hd
      | cons x r ih=>
       rintro ⟨⟨D,hd,_,hh,_⟩,hr⟩ d' hd' eq
       rcases List.mem_cons.1 hd' with rfl | hd'
       ·rw [hd] at eq
        injection eq with eq _
        injection eq with eq
        have:=(Array.getElem?_eq_some_iff.1 hh).1
        omega
       ·exact ih hr d' hd' eq
     exact this _ hs.defers
   have hs5:SRel E N vs base (w3.putObj inc0.b (.loop {fW r k with state:=.exhausted})) OK3 g3 σ (A'.set A.length .dead) {a with defers:=[{target:=.collected w.heap.size,args:=#[]}]++a.defers}:=
    ⟨hs4.size,hm2.ext hxx,hs4.low,hs4.len,hs4.vars,hs4.arena,hs4.glob⟩
   refine ⟨_,_,by rw [<-hb0]; exact hend,?_⟩
   injection he with he
   by_cases hk0:k=0
   ·subst hk0
    rw [if_pos rfl] at he
    subst he
    rw [show (fW r 0).pending=none from rfl]
    exact ⟨OK3,g3,hs5,hx.trans hxx⟩
   ·by_cases hk1:k=1
    ·subst hk1
     rw [if_neg (by omega),if_pos rfl] at he
     subst he
     rw [show (fW r 1).pending=some .ret from rfl]
     exact wpIn_ret ⟨OK3,g3,hs5,hx.trans hxx⟩
    ·rw [if_neg hk0,if_neg hk1] at he
     subst he
     have:(fW r k).pending=some (.exit (k-2)):=by unfold fW; rw [if_neg hk0]; simp [hk1]
     split
     ·rename_i h; rw [this] at h; cases h
     ·rename_i c h
      rw [this] at h
      injection h with h; subst h
      exact wpIn_exit ⟨rfl,OK3,g3,hs5,hx.trans hxx⟩
  ·cases he
 ·cases he
theorem SRel.clear {w:World} {OK:Nat->Prop} {g:az} {A:ac} {a:Act} (mask:List Nat):∀ {σ:List AV},SRel E N vs base w OK g σ A a->SRel E N vs base w OK g (Go.Proofs.YtfkcoekicjjndaaGreat.clear mask σ) A a:=by
 induction mask with
 | nil=>intro σ h; exact h
 | cons i m ih=>
  intro σ h
  refine ih (σ:=σ.set i .undef) ⟨h.size,h.defers,h.low,by simp [h.len],fun k hk=>?_,h.arena,h.glob⟩
  by_cases e:i=k
  ·subst e
   simp [List.getD_eq_getElem?_getD,List.getElem?_set_self (show i<σ.length by rw [h.len]; exact hk),aL.undef]
  ·have:=h.vars k hk
   simpa [List.getD_eq_getElem?_getD,List.getElem?_set_ne e] using this
theorem vF {on:Bool} (hE:ck P E) (hvn:vs.Nodup) (hvl:∀t∈vs,t<N) {pu:List FuncId} (hpu:a5 E pu) (fuel:Nat):∀(code:Code) (inR:Bool) (rd:Option Nat) (base n:Nat),(inR=false->rd=none)->∀(h:pa)
  (σ:List AV) (A:ac) (out:Out) (a:Act) (w:World) (OK:Nat->Prop) (g:az),SRel E N vs base w OK g σ A a->evC E fuel (dc P N vs pu on inR code h).1 σ A=some out->code.wpIn (FW rd) n P (de E N vs base w OK g out) a w:=by
 intro code
 induction code with
 | skip=>
  intro inR rd base n hrd h σ A out a w OK g hs he
  simp only [dc,evC,Option.some.injEq] at he
  subst he
  exact wpIn_skip ⟨OK,g,hs,Ext.refl _ _ _⟩
 | label l=>
  intro inR rd base n hrd h σ A out a w OK g hs he
  simp only [dc,evC,Option.some.injEq] at he
  subst he
  exact wpIn_label ⟨OK,g,hs,Ext.refl _ _ _⟩
 | region id ops draw=>
  intro inR rd base n hrd h σ A out a w OK g hs he
  cases draw with
  | true=>
   simp only [dc,if_true] at he
   split at he
   ·rename_i hc
    rw [Bool.and_eq_true] at hc
    split at he
    ·rename_i hp
     simp only [evC,Option.map_eq_some_iff] at he
     obtain ⟨⟨σ',A'⟩,he,rfl⟩:=he
     obtain ⟨fs,hfs⟩:=dY (pu:=pu) _ _ _ _ [] _ _ he
     exact fU hE hvn hvl hpu hc.1 hc.2 hs hfs (fun p hx=>by rw [hp] at hx; cases hx) (fun a1 w1 OK1 g1 k1 k2=>⟨OK1,g1,k1,k2⟩)
    ·rename_i x r hp
     simp only [evC] at he
     split at he
     ·rename_i σ' A' fs hfs
      simp only [Option.ite_none_right_eq_some,Option.some.injEq] at he
      obtain ⟨hall,rfl⟩:=he
      exact fU hE hvn hvl hpu hc.1 hc.2 hs hfs (fun p hx=>by rw [hp] at hx; exact List.all_eq_true.1 hall p hx) (fun a1 w1 OK1 g1 k1 k2=>⟨OK1,g1,k1,k2⟩)
     ·cases he
   ·simp [evC] at he
  | false=>
   simp only [dc,Bool.false_eq_true,if_false,evC,Option.map_eq_some_iff] at he
   obtain ⟨⟨σ',A'⟩,he,rfl⟩:=he
   refine wpIn_region ?_
   have:=mL (on:=on) (rd:=rd) (n:=n) hE hvn hvl (Q:=de E N vs base w OK g (.normal σ' A')) (fun a w' OK' g' k1 k2=>⟨OK',g',k1,k2⟩) ops.toList 0 [] σ [] A a w OK g rfl
    {hs with tlen:=rfl,temps:=fun j t hj=>by simp at hj,tok:=fun j t hj=>by simp at hj,tone:=fun j j' t hj=>by simp at hj} (Ext.refl _ _ _) he
   simpa [List.range_eq_range'] using this
 | seq x y ihx ihy=>
  intro inR rd base n hrd h σ A out a w OK g hs he
  simp only [dc,evC] at he
  cases hex:evC E fuel (dc P N vs pu on inR x h).1 σ A with
  | none=>rw [hex] at he; cases he
  | some o1=>
   rw [hex] at he
   refine wpIn_seq (wpIn_mono (ihx inR rd base n hrd h σ A o1 a w OK g hs hex) ?_)
   intro e a1 w1 hq
   cases o1 with
   | normal σ1 A1=>
    cases e <;> simp only [de] at hq
    obtain ⟨OK1,g1,hs1,hx1⟩:=hq
    exact wpIn_mono (ihy inR rd base n hrd _ σ1 A1 out a1 w1 OK1 g1 hs1 he) (fun e a w hq=>hq.pre hx1)
   | exit id σ1 A1=>
    simp only [Option.some.injEq] at he
    subst he
    cases e <;> simp only [de] at hq
    exact hq
   | ret σ1 A1=>
    simp only [Option.some.injEq] at he
    subst he
    cases e <;> simp only [de] at hq
    exact hq
 | cond c x y ihx ihy=>
  intro inR rd base n hrd h σ A out a w OK g hs he
  simp only [dc] at he
  split at he
  ·rename_i mcx hcx
   simp only [evC] at he
   have hrr:gQ E N vs base w OK g σ [] [] A a:={hs with tlen:=rfl,temps:=fun j t hj=>by simp at hj,tok:=fun j t hj=>by simp at hj,tone:=fun j j' t hj=>by simp at hj}
   have hv:=hrr.eval c mcx hcx
   split at he
   ·rename_i t ht
    rw [ht] at hv
    refine wpIn_cond (t:=t) hv.inv_bool ?_
    cases t
    ·exact ihy inR rd base n hrd _ σ A out a w OK g hs (by simpa using he)
    ·exact ihx inR rd base n hrd _ σ A out a w OK g hs (by simpa using he)
   ·cases he
  ·simp [evC] at he
 | block id x ih=>
  intro inR rd base n hrd h σ A out a w OK g hs he
  have hplain:∀out,evC E fuel (.block id (dc P N vs pu on inR x h).1) σ A=some out->(Code.block id x).wpIn (FW rd) n P (de E N vs base w OK g out) a w:=by
   clear he
   intro out he
   simp only [evC] at he
   cases hex:evC E fuel (dc P N vs pu on inR x h).1 σ A with
   | none=>rw [hex] at he; cases he
   | some o1=>
    rw [hex] at he
    refine wpIn_block (wpIn_mono (ih inR rd base n hrd h σ A o1 a w OK g hs hex) ?_)
    intro e a1 w1 hq
    cases o1 with
    | normal σ1 A1=>
     simp only [Option.some.injEq] at he
     subst he
     cases e <;> simp only [de] at hq
     exact hq
    | exit id' σ1 A1=>
     cases e <;> simp only [de] at hq
     rename_i id2
     obtain ⟨rfl,hq⟩:=hq
     simp only [Exit.inBlock]
     replace he:(if id'=id then some (Out.normal σ1 A1) else some (Out.exit id' σ1 A1))=some out:=he
     split at he
     ·rename_i hid
      injection he with he; subst he
      rw [if_pos hid]; exact hq
     ·rename_i hid
      injection he with he; subst he
      rw [if_neg hid]; exact ⟨rfl,hq⟩
    | ret σ1 A1=>
     simp only [Option.some.injEq] at he
     subst he
     cases e <;> simp only [de] at hq
     exact hq
  simp only [dc] at he
  split at he
  ·exact hplain out he
  ·rename_i m r hmr
   simp only [evC] at he hplain
   split at he
   ·rename_i σ1 A1 hb
    injection he with he; subst he
    refine wpIn_mono (hplain _ hb) ?_
    intro e a1 w1 hq
    cases e <;> simp only [de] at hq
    obtain ⟨OK1,g1,hs1,hx1⟩:=hq
    exact ⟨OK1,g1,hs1.clear m,hx1⟩
   ·exact hplain out he
 | loop x ih=>
  intro inR rd base n hrd h σ A out a w OK g hs he
  simp only [dc,evC] at he
  refine wpIn_loop_ghost (fun k a' w'=>∃ σ' A' OK' g',SRel E N vs base w' OK' g' σ' A' a'/\Ext w OK g w' OK' g'/\bM (evC E fuel (dc P N vs pu on inR x (h.1.tail,h.2)).1) (h.1.headD []) k σ' A'=some out) fuel ⟨σ,A,OK,g,hs,Ext.refl _ _ _,he⟩ ?_
  rintro k a' w' ⟨σ',A',OK',g',hs',hx',hit⟩
  cases k with
  | zero=>cases hit
  | succ k=>
   simp only [bM] at hit
   cases hex:evC E fuel (dc P N vs pu on inR x (h.1.tail,h.2)).1 (clear (h.1.headD []) σ') A' with
   | none=>rw [hex] at hit; cases hit
   | some o1=>
    rw [hex] at hit
    refine wpIn_mono (ih inR rd base n hrd (h.1.tail,h.2) _ A' o1 a' w' OK' g' (hs'.clear _) hex) ?_
    intro e a1 w1 hq
    cases o1 with
    | normal σ1 A1=>
     cases e <;> simp only [de] at hq
     obtain ⟨OK1,g1,hs1,hx1⟩:=hq
     exact ⟨k,Nat.lt_succ_self k,σ1,A1,OK1,g1,hs1,hx'.trans hx1,hit⟩
    | exit id σ1 A1=>
     simp only [Option.some.injEq] at hit
     subst hit
     cases e <;> simp only [de] at hq
     exact de.pre (out:=.exit id σ1 A1) (e:=.exit _) hx' hq
    | ret σ1 A1=>
     simp only [Option.some.injEq] at hit
     subst hit
     cases e <;> simp only [de] at hq
     exact de.pre (out:=.ret σ1 A1) (e:=.ret) hx' hq
 | exit id=>
  intro inR rd base n hrd h σ A out a w OK g hs he
  simp only [dc,evC,Option.some.injEq] at he
  subst he
  exact wpIn_exit ⟨rfl,OK,g,hs,Ext.refl _ _ _⟩
 | scope x ih=>
  intro inR rd base n hrd h σ A out a w OK g hs he
  simp only [dc,evC] at he
  refine qB (ih inR rd base n hrd h σ A out a w OK g hs he) (fun l a w hq=>?_)
  cases out <;> exact hq
 | ret=>
  intro inR rd base n hrd h σ A out a w OK g hs he
  simp only [dc,evC,Option.some.injEq] at he
  subst he
  exact wpIn_ret ⟨OK,g,hs,Ext.refl _ _ _⟩
 | rangeFunc f ps x y ihx ihy=>
  intro inR rd base n hrd h σ A out a w OK g hs he
  simp only [dc] at he
  split at he
  ·rename_i z is hz his
   obtain rfl:=hrd rfl
   simp only [evC] at he
   exact lY hE hvn hvl hz his (fun l m σ A out a w OK g hs he=>ihx true (some l) 0 m (fun h=>by cases h) _ σ A out a w OK g hs he)
    (fun l m σ A out a w OK g hs he=>ihy true (some l) 0 m (fun h=>by cases h) _ σ A out a w OK g hs he) hs he
  ·simp [evC] at he
 | _=>
  intro inR rd base n hrd h σ A out a w OK g hs he
  simp [dc,evC] at he
end
def frz (A:ac):Nat->AV->AV
 | 0,.agg _=>.undef
 | 0,.tup _=>.undef
 | 0,.sl ..=>.undef
 | 0,.ptr ..=>.undef
 | 0,.func ..=>.undef
 | 0,.iface ..=>.undef
 | n+1,.agg cs=>.agg (cs.map (frz A n))
 | n+1,.tup cs=>.tup (cs.map (frz A n))
 | n+1,.sl id off len=>match A[id]? with
  | some (.row s _ es)=>.fs s (((es.drop off).take len).map (frz A n))
  | _=>.undef
 | n+1,.csl id off len=>match A[id]? with
  | some (.row s _ es)=>.fs s (((es.drop off).take len).map (frz A n))
  | _=>.undef
 | n+1,.ptr id i o=>match A[id]? with
  | some (.row _ _ es)=>match es[i]? with
   | some e=>if e.solid=true/\o<(cellsOf e).length then .fp (((cellsOf e).drop o).map (frz A n)) else .undef
   | none=>.undef
  | _=>.undef
 | n+1,.func fn c1 c2=>.func fn (c1.map (frz A n)) (c2.map (frz A n))
 | n+1,.iface t v=>.iface t (frz A n v)
 | _,.map _=>.undef
 | 0,.csl ..=>.undef
 | _,a=>a
section
variable {P:Program} {w:World} {OK OK2:Nat->Prop} {g:az} {A:ac}
theorem jq (hA:bK w OK g A) (h1:∀b,OK b->OK2 b) (h2:∀id inc,A[id]?≠some .dead->inc∈g id->OK2 inc.b):∀(n:Nat) (a:AV) (v:Value),aL w OK g v a->aL w OK2 az.none v (frz A n a):=by
 have up:∀ {v:Value} {a:AV},aL w OK az.none v a->aL w OK2 az.none v a:=fun h=>h.mono h1 (fun _ _=>rfl) _ (az.le_refl _)
 intro n
 induction n with
 | zero=>
  intro a v h
  cases a <;> simp only [frz] <;> first
   | exact .undef _ _
   | (have e:=h.inv_bool; rw [e]; exact .bool _ _)
   | (have e:=h.inv_int; rw [e]; exact .int _ _ _)
   | (obtain ⟨s,e,hs⟩:=h.inv_str; rw [e]; exact .str _ _ _ hs)
   | (obtain ⟨p,e⟩:=h.inv_nilS; rw [e]; exact .nilS _ _)
   | (have e:=h.inv_nilP; rw [e]; exact .nilP _)
   | (have e:=h.inv_nilM; rw [e]; exact .nilM _)
   | (cases h; exact .nilF _)
   | (cases h; exact .nilI _)
   | (obtain ⟨b,o,cap,T,c,fz,vals,e,hb,hh,hcap,hv,hs,hc⟩:=h.inv_fs; rw [e]; exact .fs _ b o cap _ T c fz _ vals (h1 _ hb) hh hcap (fun i hi=>up (hv i hi)) hs hc)
   | (obtain ⟨b,o,T,c,fz,vals,e,hb,hh,hne,hv,hc⟩:=h.inv_fp; rw [e]; exact .fp _ b o T c fz _ vals (h1 _ hb) hh hne (fun i hi=>up (hv i hi)) hc)
 | succ n ih=>
  intro a v h
  cases a <;> simp only [frz] <;> try first
   | exact .undef _ _
   | (have e:=h.inv_bool; rw [e]; exact .bool _ _)
   | (have e:=h.inv_int; rw [e]; exact .int _ _ _)
   | (obtain ⟨s,e,hs⟩:=h.inv_str; rw [e]; exact .str _ _ _ hs)
   | (obtain ⟨p,e⟩:=h.inv_nilS; rw [e]; exact .nilS _ _)
   | (have e:=h.inv_nilP; rw [e]; exact .nilP _)
   | (have e:=h.inv_nilM; rw [e]; exact .nilM _)
   | (cases h; exact .nilF _)
   | (cases h; exact .nilI _)
   | (obtain ⟨b,o,cap,T,c,fz,vals,e,hb,hh,hcap,hv,hs,hc⟩:=h.inv_fs; rw [e]; exact .fs _ b o cap _ T c fz _ vals (h1 _ hb) hh hcap (fun i hi=>up (hv i hi)) hs hc)
   | (obtain ⟨b,o,T,c,fz,vals,e,hb,hh,hne,hv,hc⟩:=h.inv_fp; rw [e]; exact .fp _ b o T c fz _ vals (h1 _ hb) hh hne (fun i hi=>up (hv i hi)) hc)
  case sl id off len=>
   split
   ·rename_i s gr es hid
    obtain ⟨inc,cap,ao,hinc,rfl,hl,hn,hcap,ha⟩:=h.inv_sl
    obtain ⟨hlt',hrow⟩:=List.getElem?_eq_some_iff.1 hid
    have hent:=hA.ent id hlt'
    rw [hrow] at hent
    obtain ⟨hesz,hne,hnc,c,T,fz,hh,hu,hcs,hel⟩:=hent.2 inc hinc
    have hlen:(((es.drop off).take len).map (frz A n)).length=len:=by simp; omega
    obtain ⟨vals,hvals⟩:∃vals:Nat->Value,∀i (hi:i<len),aL w OK g (vals i) (es[off+i]'(by omega))/\(vals i).cells.size=s/\bT (vals i)/\∀j,j<s->c[inc.o+(off+i)*s+j]?=(vals i).cells[j]?:=
     ⟨fun i=>if hi:i<len then (hel (off+i) (by omega) (by omega)).choose else undef,fun i hi=>by simp only [hi,dif_pos]; exact (hel (off+i) (by omega) (by omega)).choose_spec⟩
    have:=aL.fs (w:=w) (OK:=OK2) az.none inc.b ao cap s T c fz (((es.drop off).take len).map (frz A n)) vals (h2 id inc (by rw [hid]; simp) hinc) hh (by omega)
     (fun i hi=>by simp only [List.getElem_map,List.getElem_take,List.getElem_drop]; exact ih _ _ (hvals i (by omega)).1)
     (fun i hi=>⟨(hvals i (by omega)).2.1,(hvals i (by omega)).2.2.1⟩)
     (fun i hi j hj=>by
      rw [<-(hvals i (by omega)).2.2.2 j hj,ha (by omega),hesz]
      congr 1; rw [Nat.add_mul]; omega)
    rwa [hlen] at this
   ·exact .undef _ _
  case csl id off len=>
   split
   ·rename_i s gr es hid
    obtain ⟨inc,ao,hinc,rfl,hn,hcap,ha⟩:=h.inv_csl
    obtain ⟨hlt',hrow⟩:=List.getElem?_eq_some_iff.1 hid
    have hent:=hA.ent id hlt'
    rw [hrow] at hent
    obtain ⟨hesz,hne,hnc,c,T,fz,hh,hu,hcs,hel⟩:=hent.2 inc hinc
    have hlen:(((es.drop off).take len).map (frz A n)).length=len:=by simp; omega
    obtain ⟨vals,hvals⟩:∃vals:Nat->Value,∀i (hi:i<len),aL w OK g (vals i) (es[off+i]'(by omega))/\(vals i).cells.size=s/\bT (vals i)/\∀j,j<s->c[inc.o+(off+i)*s+j]?=(vals i).cells[j]?:=
     ⟨fun i=>if hi:i<len then (hel (off+i) (by omega) (by omega)).choose else undef,fun i hi=>by simp only [hi,dif_pos]; exact (hel (off+i) (by omega) (by omega)).choose_spec⟩
    have:=aL.fs (w:=w) (OK:=OK2) az.none inc.b ao len s T c fz (((es.drop off).take len).map (frz A n)) vals (h2 id inc (by rw [hid]; simp) hinc) hh (by omega)
     (fun i hi=>by simp only [List.getElem_map,List.getElem_take,List.getElem_drop]; exact ih _ _ (hvals i (by omega)).1)
     (fun i hi=>⟨(hvals i (by omega)).2.1,(hvals i (by omega)).2.2.1⟩)
     (fun i hi j hj=>by
      rw [<-(hvals i (by omega)).2.2.2 j hj,ha (by omega),hesz]
      congr 1; rw [Nat.add_mul]; omega)
    rwa [hlen] at this
   ·exact .undef _ _
  case ptr id i o=>
   split
   ·rename_i s gr es hid
    split
    ·rename_i e he
     split
     ·rename_i hc
      obtain ⟨hsol,ho⟩:=hc
      obtain ⟨inc,hinc,rfl,hn,ho'⟩:=h.inv_ptr
      obtain ⟨hlt',hrow⟩:=List.getElem?_eq_some_iff.1 hid
      obtain ⟨hi',rfl⟩:=List.getElem?_eq_some_iff.1 he
      have hent:=hA.ent id hlt'
      rw [hrow] at hent
      obtain ⟨hesz,hne,hnc,c,T,fz,hh,hu,hcs,hel⟩:=hent.2 inc hinc
      obtain ⟨v,hv,hvs,hok,hc⟩:=hel i hi' hn
      obtain ⟨k1,k2,k3⟩:=hv.cells hsol
      obtain ⟨f,hf⟩:∃f:Nat->Value,∀j (hj:j<(cellsOf es[i]).length),v.cells[j]?=some (f j)/\(f j).oneCell'=true/\aL w OK g (f j) (cellsOf es[i])[j]:=
       ⟨fun j=>(v.cells[j]?).getD undef,fun j hj=>by
        obtain ⟨x,a1,a2,a3⟩:=k3 j hj
        simp only [a1,Option.getD_some]
        exact ⟨trivial,a2,a3⟩⟩
      refine .fp _ inc.b _ T c fz _ (fun j=>f (o+j)) (h2 id inc (by rw [hid]; simp) hinc) hh (by simp; omega) (fun j hj=>?_) (fun j hj=>?_)
      ·simp only [List.getElem_map,List.getElem_drop]
       exact ih _ _ (hf (o+j) (by simp at hj; omega)).2.2
      ·have hj':o+j<(cellsOf es[i]).length:=by simp at hj; omega
       refine ⟨?_,(hf (o+j) hj').2.1⟩
       rw [hesz,Nat.add_assoc,hc (o+j) (by omega)]
       exact (hf (o+j) hj').1
     ·exact .undef _ _
    ·exact .undef _ _
   ·exact .undef _ _
  case agg cs=>
   obtain ⟨vs,vals,rfl,hl,hg,hv⟩:=h.inv_agg
   exact .agg _ vs _ (by simpa using hl) vals (fun i hi=>hg i (by simpa using hi)) (fun i hi=>by simp only [List.getElem_map]; exact ih _ _ (hv i (by simpa using hi)))
  case tup cs=>
   obtain ⟨vs,vals,rfl,hl,hg,hv⟩:=h.inv_tup
   exact .tup _ vs _ (by simpa using hl) vals (fun i hi=>hg i (by simpa using hi)) (fun i hi=>by simp only [List.getElem_map]; exact ih _ _ (hv i (by simpa using hi)))
  case func fn c1 c2=>
   obtain ⟨vs1,vs2,vals1,vals2,rfl,hl1,hl2,hg1,hg2,hv1,hv2⟩:=h.inv_func
   exact .func _ fn vs1 vs2 _ _ (by simpa using hl1) (by simpa using hl2) vals1 vals2 (fun i hi=>hg1 i (by simpa using hi)) (fun i hi=>hg2 i (by simpa using hi))
    (fun i hi=>by simp only [List.getElem_map]; exact ih _ _ (hv1 i (by simpa using hi))) (fun i hi=>by simp only [List.getElem_map]; exact ih _ _ (hv2 i (by simpa using hi)))
  case iface t x=>
   cases h with
   | iface _ t v a hv=>exact .iface _ t v _ (ih _ _ hv)
end
inductive Hd where
 | tmp (i:Nat)
 | cell (i:Nat) (agg:Bool) (size:Nat)
structure bC where
 n:Nat
 len:Nat
 mc:MC
 res:List Hd
def iM (P:Program) (vs:List Nat):List ResultVar->Option (List Hd)
 | []=>some []
 | .tmp t :: r=>match vs.idxOf? t,iM P vs r with
  | some i,some l=>some (.tmp i :: l)
  | _,_=>none
 | .cell a t :: r=>match vs.idxOf? a,P.info? t,eu P t,iM P vs r with
  | some i,some ti,some b,some l=>some (.cell i b ti.size :: l)
  | _,_,_,_=>none
def r8:List Nat->Bool
 | []=>true
 | x :: r=>!r.contains x && r8 r
def aB (P:Program) (fn:Func) (n:Nat) (vs:List Nat) (pu:List FuncId) (on:Bool) (hints:pa):Option bC:=
 match fn.body with
 | some c=>match iM P vs fn.results.toList with
  | some rs=>if r8 vs && vs.all (· < fn.ntmps) && vs.take n == List.range n && Nat.ble n fn.ntmps && !(fn.name == "runtime.NumGoroutine") then some ⟨n,vs.length,(dc P fn.ntmps vs pu on false c hints).1,rs⟩ else none
  | none=>none
 | none=>none
def dt (A:ac) (σ:List AV):List Hd->Option (List AV)
 | []=>some []
 | .tmp i :: r=>(dt A σ r).map (σ.getD i .undef :: ·)
 | .cell i b s :: r=>match af b s A (σ.getD i .undef),dt A σ r with
  | some a,some l=>some (a :: l)
  | _,_=>none
def eH:List AV->AV
 | [a]=>a
 | l=>.tup l
def bA (E:Env) (fuel:Nat) (mf:bC) (args:List AV) (A:ac):Option (AV × ac):=
 if args.length=mf.n then
  match evC E fuel mf.mc (args++List.replicate (mf.len-mf.n) .undef) A with
  | some (.normal σ A')=>(dt A' σ mf.res).map fun l=>(eH l,A')
  | some (.ret σ A')=>(dt A' σ mf.res).map fun l=>(eH l,A')
  | _=>none
 else none
def an (P:Program) (G:Nat->Option (List AV)) (f:FuncId) (M:aZ->List AV->ac->Option (AV × ac)):Prop:=
 Enters P f/\∀ys h,fL P G ys h->∀args A r A',M h args A=some (r,A')->∀(w:World) (OK:Nat->Prop) (g:az) (vs:List Value),bK w OK g A->tO G ys w OK g->bo w OK g vs args ->
  Calls P f vs.toArray w fun e w'=>∃v OK' g',e=.returned v/\aL w' OK' g' v r/\bK w' OK' g' A'/\Ext w OK g w' OK' g'
def eA (P:Program) (G:Nat->Option (List AV)) (f:FuncId) (M:List AV->ac->Option (AV × ac)):Prop:=
 Enters P f/\∀args A r A',M args A=some (r,A')->∀(w:World) (OK:Nat->Prop) (g:az) (vs:List Value),bK w OK g A->wO G w OK->bo w OK g vs args ->
  Calls P f vs.toArray w fun e w'=>∃v OK' g',e=.returned v/\aL w' OK' g' v r/\bK w' OK' g' A'/\Ext w OK g w' OK' g'
theorem eA.y {P:Program} {G:Nat->Option (List AV)} {f:FuncId} {M:List AV->ac->Option (AV × ac)} (h:eA P G f M):an P G f (fun _=>M):=
 ⟨h.1,fun _ _ _ args A r A' he w OK g vs hA hI hl=>h.2 args A r A' he w OK g vs hA hI.1 hl⟩
section
variable {P:Program} {E:Env}
theorem nV:∀ {l:List Nat},r8 l=true->l.Nodup
 | [],_=>List.nodup_nil
 | x :: r,h=>by
  simp only [r8,Bool.and_eq_true,Bool.not_eq_true',List.contains_eq_mem,decide_eq_false_iff_not] at h
  exact List.nodup_cons.2 ⟨h.1,nV h.2⟩
def pz (tmps:Array Value):ResultVar->Sem Value
 | .tmp t=>pure (tmps.getD t undef)
 | .cell a t=>do loadVar t (<-asAddr (tmps.getD a undef))
theorem fC {vs:List Nat} {N:Nat} {base:Nat} {w:World} {OK:Nat->Prop} {g:az} {σ:List AV} {A:ac} {a:Act} (h:SRel E N vs base w OK g σ A a) :
  ∀(rs:List ResultVar) (ms:List Hd) (l:List AV),iM P vs rs=some ms->dt A σ ms=some l ->
   ∃us:List Value,bo w OK g us l/\(rs.mapM (pz a.tmps)).run P w=.ok us w
 | [],ms,l,hc,he=>by
  injection hc with hc; subst hc
  injection he with he; subst he
  exact ⟨[],trivial,rfl⟩
 | .tmp t :: r,ms,l,hc,he=>by
  simp only [iM] at hc
  split at hc
  ·rename_i i l' hi hl'
   injection hc with hc; subst hc
   simp only [dt,Option.map_eq_some_iff] at he
   obtain ⟨l2,h2,rfl⟩:=he
   obtain ⟨us,k1,k2⟩:=fC h r l' l2 hl' h2
   obtain ⟨hlt,het⟩:=List.idxOf?_eq_some_iff.1 hi |> fun h=>(⟨h.1,h.2.1⟩:∃h:i<vs.length,vs[i]=t)
   refine ⟨a.tmps.getD t undef :: us,⟨by rw [<-het]; exact h.vars i hlt,k1⟩,?_⟩
   simp [List.mapM_cons,pz,k2]
  ·cases hc
 | .cell x t :: r,ms,l,hc,he=>by
  simp only [iM] at hc
  split at hc
  ·rename_i i ti b l' hi hti hb hl'
   injection hc with hc; subst hc
   simp only [dt] at he
   split at he
   ·rename_i y l2 h1 h2
    injection he with he; subst he
    obtain ⟨us,k1,k2⟩:=fC h r l' l2 hl' h2
    obtain ⟨hlt,het⟩:=List.idxOf?_eq_some_iff.1 hi |> fun h=>(⟨h.1,h.2.1⟩:∃h:i<vs.length,vs[i]=x)
    have hv:=h.vars i hlt
    rw [het] at hv
    obtain ⟨u,e1,e2⟩:=kD hti hb h.arena hv h1
    refine ⟨u :: us,⟨e2,k1⟩,?_⟩
    have e1':(pz a.tmps (.cell x t)).run P w=.ok u w:=by
     have hp:∃ad,a.tmps.getD x undef=.pointer (some ad):=by
      generalize σ.getD i .undef=y1 at h1 hv
      cases y1 <;> first | (simp [af] at h1; done) | (obtain ⟨inc,_,e,_⟩:=hv.inv_ptr; exact ⟨_,e⟩) | (obtain ⟨b,o,T,c,fz,vals,e,_⟩:=hv.inv_fp; exact ⟨_,e⟩)
     obtain ⟨ad,hp⟩:=hp
     rw [hp] at e1
     simp only [pz,hp]
     exact e1
    simp [List.mapM_cons,e1',k2]
   ·cases he
  ·cases hc
theorem bK.putFree {w:World} {OK:Nat->Prop} {g:az} {A:ac} (h:bK w OK g A) {D:Nat} (h1:¬ OK D) (h2:∀id inc,inc∈g id->inc.b≠D) (o:Obj):bK (w.putObj D o) OK g A where
 ent id hi:=(h.ent id hi).mono (fun _ h=>h) (fun b hb=>World.putObj_heap_other (fun e=>h1 (e ▸ hb))) g.le_refl (fun inc hin=>World.putObj_heap_other (h2 id inc hin))
 out:=h.out
 one:=h.one
 apart:=h.apart
 low id inc hi:=by simpa using h.low id inc hi
 ok b hb:=by simpa using h.ok b hb
theorem kY.put {base:Nat} {w:World} {OK:Nat->Prop} {g:az} {D:Nat} (o:Obj):∀ {l:List Deferred},(∀d'∈l,d'≠⟨.collected D,#[]⟩)->kY base w OK g l->kY base (w.putObj D o) OK g l
 | [],_,_=>trivial
 | d :: r,hd,⟨⟨D',h1,h2,h3,h4,h5,h6⟩,hr⟩=>
  ⟨⟨D',h1,h2,(World.putObj_heap_other (fun e=>hd d (by simp) (by rw [h1,e]))).trans h3,h4,h5,h6⟩,kY.put o (fun d' h=>hd d' (by simp [h])) hr⟩
theorem kx {N:Nat} {vs:List Nat} {fn:Func} {mrs:List Hd} {w0:World} {OK0:Nat->Prop} {g0:az} {σ:List AV} {A:ac} {l:List AV} {tm:Array Value} {R:Ending->World->Prop}
  (hcr:iM P vs fn.results.toList=some mrs) (hl:dt A σ mrs=some l)
  (hR:∀v w OK g,aL w OK g v (eH l)->bK w OK g A->Ext w0 OK0 g0 w OK g->R (.returned v) w) :
  ∀(ds:List Deferred) (w:World) (OK:Nat->Prop) (g:az),SRel E N vs w0.heap.size w OK g σ A {tmps:=tm,defers:=ds}->Ext w0 OK0 g0 w OK g->LeavesInM Fence.wide 0 P fn tm R ds .returning w
 | [],w,OK,g,hs,hx=>by
  obtain ⟨us1,k1,k2⟩:=fC hs fn.results.toList mrs l hcr hl
  refine ⟨if h:us1.toArray.size=1 then us1.toArray[0] else .tuple us1.toArray,?_,hR _ w OK g ?_ hs.arena hx⟩
  ·show (do
    let vs <-fn.results.mapM (pz tm)
    pure (if h:vs.size=1 then vs[0] else .tuple vs):Sem Value).run P w=_
   rw [Array.mapM_eq_mapM_toList]
   simp [k2]
  ·have hlen:=k1.length
   match us1,l,k1 with
   | [],[],k1=>exact .tup _ _ [] rfl (fun _=>undef) (fun i hi=>by simp at hi) (fun i hi=>by simp at hi)
   | [u],[a1],k1=>exact k1.1
   | u1 :: u2 :: ur,a1 :: a2 :: ar,k1=>
    have:¬ (u1 :: u2 :: ur).toArray.size=1:=by simp
    rw [dif_neg this]
    refine .tup _ _ _ (by simpa using hlen) (fun i=>(u1 :: u2 :: ur).getD i undef) (fun i hi=>?_) (fun i hi=>?_)
    ·have:i<(u1 :: u2 :: ur).length:=by simp at hlen hi ⊢; omega
     rw [List.getElem?_toArray,List.getElem?_eq_getElem this]
     simp [List.getD_eq_getElem?_getD,List.getElem?_eq_getElem this]
    ·have:i<(u1 :: u2 :: ur).length:=by simp at hlen hi ⊢; omega
     have:=k1.get i this hi
     simpa [List.getD_eq_getElem?_getD,List.getElem?_eq_getElem ‹i<(u1 :: u2 :: ur).length›] using this
 | d :: ds,w,OK,g,hs,hx=>by
  obtain ⟨⟨D,rfl,h2,h3,h4,h5,h6⟩,hr⟩:=hs.defers
  refine ⟨by simp,.inl ⟨D,w.putObj D (.deferred none),rfl,run_takeDeferred h3,?_⟩⟩
  have hok:∀b,OK b->(w.putObj D (.deferred none)).heap[b]?=w.heap[b]?:=fun b hb=>World.putObj_heap_other (fun e=>h4 (e ▸ hb))
  have hm:∀ {v:Value} {a:AV},aL w OK g v a->aL (w.putObj D (.deferred none)) OK g v a:=fun h=>h.mono (fun _ h=>h) hok g g.le_refl
  refine kx hcr hl hR ds _ OK g ⟨hs.size,hr.put _ h6,by simpa using hs.low,hs.len,fun i hi=>hm (hs.vars i hi),hs.arena.putFree h4 h5 _,
   ⟨hs.glob.1.mono (fun _ h=>h) hok,fun y hy=>⟨(hs.glob.2 y hy).1,(hs.glob.2 y hy).2.mono fun _ _ hv=>hm hv⟩⟩⟩ ?_
  exact {
      os:=hx.os,tape:=hx.tape,output:=hx.output,size:=by simpa using hx.size,blk:=fun b hb hu=>(World.putObj_heap_other (by omega)).trans (hx.blk b hb hu),gle:=hx.gle,okle:=hx.okle,fresh:=hx.fresh,okf:=hx.okf,
      loops:=fun b r hb hbusy=>(World.putObj_heap_other (by have:=(Array.getElem?_eq_some_iff.1 hb).1; omega)).trans (hx.loops b r hb hbusy),fix:=hx.fix}
theorem iI (hE:ck P E) {f:FuncId} {fn:Func} {n:Nat} {vs:List Nat} {pu:List FuncId} {on:Bool} {hints:pa} {mf:bC} {fuel:Nat} (hf:P.funcs[f]?=some fn) (hc:aB P fn n vs pu on hints=some mf) (hpu:a5 E pu) :
  Enters P f/\∀args A r A',bA E fuel mf args A=some (r,A')->∀(w:World) (OK:Nat->Prop) (g:az) (us:List Value),bK w OK g A->tO E.glob E.ys w OK g->bo w OK g us args ->
  Calls P f us.toArray w fun e w'=>∃v OK' g',e=.returned v/\aL w' OK' g' v r/\bK w' OK' g' A'/\Ext w OK g w' OK' g':=by
 unfold aB at hc
 split at hc
 ·rename_i c hb
  split at hc
  ·rename_i rs hcr
   split at hc
   ·rename_i hck
    injection hc with hc; subst hc
    simp only [Bool.and_eq_true,Bool.not_eq_true',List.all_eq_true,decide_eq_true_eq,beq_iff_eq] at hck
    obtain ⟨⟨⟨⟨h1,h2⟩,h3⟩,h4⟩,h5⟩:=hck
    have h4:n<=fn.ntmps:=Nat.le_of_ble_eq_true h4
    refine ⟨enters_of hf h5 hb,?_⟩
    intro args A r A' he w OK g us hA hG hl
    unfold bA at he
    split at he
    ·rename_i hlen
     simp only at hlen
     have hul:=hl.length
     have hvn:=nV h1
     have hnv:n<=vs.length:=by
      have:=congrArg List.length h3
      simp at this; omega
     have hvi:∀i (hi:i<n),vs[i]'(by omega)=i:=fun i hi=>by
      have:=congrArg (fun l=>l[i]?) h3
      simp [hi] at this
      have h':i<vs.length:=by omega
      simpa [h'] using this
     have hs0:SRel E fn.ntmps vs w.heap.size w OK g (args++List.replicate (vs.length-n) .undef) A {tmps:=us.toArray++Array.replicate (fn.ntmps-us.toArray.size) undef,defers:=[]}:=by
      refine ⟨by simp; omega,trivial,Nat.le_refl _,by simp; omega,fun i hi=>?_,hA,hG⟩
      rcases Nat.lt_or_ge i n with hlt | hge
      ·have e1:=hvi i hlt
       rw [e1]
       have:i<us.length:=by omega
       have e2:(us.toArray++Array.replicate (fn.ntmps-us.toArray.size) undef).getD i undef=us[i]:=by
        simp [Array.getD_eq_getD_getElem?,Array.getElem?_append,this]
       have e3:(args++List.replicate (vs.length-n) AV.undef).getD i .undef=args[i]'(by omega):=by
        simp [List.getD_eq_getElem?_getD,List.getElem?_append,show i<args.length by omega]
       rw [e2,e3]
       exact hl.get i this (by omega)
      ·have e3:(args++List.replicate (vs.length-n) AV.undef).getD i .undef=.undef:=by
        simp [List.getD_eq_getElem?_getD,List.getElem?_append,show ¬ i<args.length by omega,List.getElem?_replicate]
        split <;> rfl
       rw [e3]; exact .undef _ _
     have fin:∀(out:Out) (σ:List AV),evC E fuel (dc P fn.ntmps vs pu on false c hints).1 (args++List.replicate (vs.length-n) .undef) A=some out->(out=.normal σ A'\/out=.ret σ A')->(∃l,dt A' σ rs=some l/\eH l=r) ->
       Calls P f us.toArray w fun e w'=>∃v OK' g',e=.returned v/\aL w' OK' g' v r/\bK w' OK' g' A'/\Ext w OK g w' OK' g':=by
      intro out σ hev hout ⟨l,hl1,hl2⟩
      have hw:=vF hE hvn h2 hpu fuel c false none w.heap.size 0 (fun _=>rfl) hints _ A out _ w OK g hs0 hev
      refine callsIn_wide (n:=0).1 (callsIn_of_wp_marks (F:=Fence.wide) hf hb trivial (wpIn_mono hw ?_))
      intro e a w1 hq
      have key:∀OK1 g1,SRel E fn.ntmps vs w.heap.size w1 OK1 g1 σ A' a->Ext w OK g w1 OK1 g1 ->
        LeavesInM Fence.wide 0 P fn a.tmps (fun e w'=>∃v OK' g',e=.returned v/\aL w' OK' g' v r/\bK w' OK' g' A'/\Ext w OK g w' OK' g') a.defers .returning w1:=by
       intro OK1 g1 hs1 hx1
       exact kx hcr hl1 (fun v w' OK' g' k1 k2 k3=>⟨v,OK',g',rfl,hl2 ▸ k1,k2,k3⟩) a.defers w1 OK1 g1 hs1 hx1
      rcases hout with rfl | rfl
      ·cases e <;> simp only [de] at hq
       obtain ⟨OK1,g1,q1,q2⟩:=hq
       exact key OK1 g1 q1 q2
      ·cases e <;> simp only [de] at hq
       obtain ⟨OK1,g1,q1,q2⟩:=hq
       exact key OK1 g1 q1 q2
     simp only at he
     split at he
     ·rename_i σ A1 hev
      simp only [Option.map_eq_some_iff,Prod.mk.injEq] at he
      obtain ⟨l,e1,e2,rfl⟩:=he
      exact fin _ σ hev (.inl rfl) ⟨l,e1,e2⟩
     ·rename_i σ A1 hev
      simp only [Option.map_eq_some_iff,Prod.mk.injEq] at he
      obtain ⟨l,e1,e2,rfl⟩:=he
      exact fin _ σ hev (.inr rfl) ⟨l,e1,e2⟩
     ·cases he
    ·cases he
   ·cases hc
  ·cases hc
 ·cases hc
theorem vE (ys':List Yld) (σ T:List AV) (x:MX):evX {E with ys:=ys'} σ T x=evX E σ T x:=by cases x <;> rfl
theorem sz (ys':List Yld):∀(l:List MO) (σ T:List AV) (A:ac),dl {E with ys:=ys'} l σ T A=dl E l σ T A
 | [],σ,T,A=>rfl
 | o :: l,σ,T,A=>by
  have hx:evX {E with ys:=ys'} σ T=evX E σ T:=funext fun x=>vE ys' σ T x
  have hs:∀(ρ:MX->AV) (m:MOp),aM {E with ys:=ys'} ρ A m=aM E ρ A m:=fun ρ m=>by cases m <;> rfl
  simp only [dl,hx,hs,sz ys' l]
theorem pW (ys':List Yld) (pu:List FuncId):∀(l:List MO) (σ T:List AV) (A:ac) (fs:List dK),cY {E with ys:=ys'} pu l σ T A fs=cY E pu l σ T A fs
 | [],σ,T,A,fs=>rfl
 | o :: l,σ,T,A,fs=>by
  have hx:evX {E with ys:=ys'} σ T=evX E σ T:=funext fun x=>vE ys' σ T x
  have hs:∀(ρ:MX->AV) (m:MOp),aM {E with ys:=ys'} ρ A m=aM E ρ A m:=fun ρ m=>by cases m <;> rfl
  have hf:∀(ρ:MX->AV) (m:MOp),bp {E with ys:=ys'} pu ρ A m=bp E pu ρ A m:=fun ρ m=>by cases m <;> rfl
  simp only [cY,hx,hs,hf,pW ys' pu l]
theorem Gq (ys':List Yld) (fuel:Nat):∀c:MC,evC {E with ys:=ys'} fuel c=evC E fuel c:=by
 intro c
 have hx:∀ σ T,evX {E with ys:=ys'} σ T=evX E σ T:=fun σ T=>funext fun x=>vE ys' σ T x
 induction c with
 | region ops=>funext σ A; simp only [evC,sz]
 | regionD pu ops pairs=>funext σ A; simp only [evC,pW]
 | seq a b iha ihb=>funext σ A; simp only [evC,iha,ihb]
 | cond c a b iha ihb=>funext σ A; simp only [evC,iha,ihb,hx]
 | block id a iha=>funext σ A; simp only [evC,iha]
 | loop mask a iha=>funext σ A; simp only [evC,iha]
 | rangeFunc f ps a b iha ihb=>funext σ A; simp only [evC,iha,ihb,hx]
 | scope a iha=>funext σ A; simp only [evC,iha]
 | _=>rfl
theorem yc (ys':List Yld) (fuel:Nat) (mf:bC) (args:List AV) (A:ac):bA {E with ys:=ys'} fuel mf args A=bA E fuel mf args A:=by
 unfold bA; simp only [Gq]
end
abbrev qu:=List AV->ac->Option (AV × ac)
abbrev aG:=List AV->Option AV
abbrev aD:=aZ->qu
def aI:List (FuncId × aD)->FuncId->Option aD
 | [],_=>none
 | (g,M) :: r,f=>if f=g then some M else aI r f
def kX (fs:List (FuncId × aD)) (h:aZ):aZ:=fun fv args A=>
 match fv with
 | .func (.func f) first cap=>match aI fs f with
  | some M=>M h (first++args++cap) A
  | none=>none
 | _=>none
def ee (G:Nat->Option (List AV)) (fs:List (FuncId × aD)) (h:aZ):Env:=⟨kX fs,G,[],h⟩
def ai (G:Nat->Option (List AV)) (fs:List (FuncId × aD)):Env:=ee G fs fun _ _ _=>none
def ak (P:Program) (G:Nat->Option (List AV)) (f:FuncId) (M:aG):Prop:=
 Enters P f/\∀args r,M args=some r->∀(w:World) (OK:Nat->Prop) (vs:List Value),(∀b,OK b->b<w.heap.size)->wO G w OK->bo w OK az.none vs args ->
  Calls P f vs.toArray w fun e w'=>∃v OK',e=.returned v/\aL w' OK' az.none v r/\(∀b,OK' b->b<w'.heap.size)/\Ext w OK az.none w' OK' az.none
def cq:Nat->AV->Bool
 | _,.bool _=>true
 | _,.int ..=>true
 | _,.str _=>true
 | _,.nilS=>true
 | _,.nilP=>true
 | _,.nilM=>true
 | _,.nilF=>true
 | _,.nilI=>true
 | _,.undef=>true
 | n+1,.agg cs=>cs.all (cq n)
 | n+1,.tup cs=>cs.all (cq n)
 | n+1,.iface _ v=>cq n v
 | _,_=>false
def uH (n:Nat) (M:aG):qu:=fun args A=>
 match M (args.map (frz A n)) with
 | some r=>if cq n r || args.all (bq n) then some (r,A) else none
 | none=>none
def aF (n:Nat) (M:aG):aD:=fun _=>uH n M
section
variable {P:Program} {G:Nat->Option (List AV)}
theorem qO {w w':World} {OK OK':Nat->Prop} {g g':az}:∀(n:Nat) (a:AV) (v:Value),cq n a=true->aL w OK g v a->aL w' OK' g' v a:=by
 intro n
 induction n with
 | zero=>
  intro a v hs h
  cases a <;> simp only [cq,Bool.false_eq_true] at hs <;> first
   | exact .undef _ _
   | (have e:=h.inv_bool; rw [e]; exact .bool _ _)
   | (have e:=h.inv_int; rw [e]; exact .int _ _ _)
   | (obtain ⟨s,e,hs⟩:=h.inv_str; rw [e]; exact .str _ _ _ hs)
   | (obtain ⟨p,e⟩:=h.inv_nilS; rw [e]; exact .nilS _ _)
   | (have e:=h.inv_nilP; rw [e]; exact .nilP _)
   | (have e:=h.inv_nilM; rw [e]; exact .nilM _)
   | (cases h; exact .nilF _)
   | (cases h; exact .nilI _)
 | succ n ih=>
  intro a v hs h
  cases a <;> simp only [cq,Bool.false_eq_true] at hs <;> try first
   | exact .undef _ _
   | (have e:=h.inv_bool; rw [e]; exact .bool _ _)
   | (have e:=h.inv_int; rw [e]; exact .int _ _ _)
   | (obtain ⟨s,e,hs⟩:=h.inv_str; rw [e]; exact .str _ _ _ hs)
   | (obtain ⟨p,e⟩:=h.inv_nilS; rw [e]; exact .nilS _ _)
   | (have e:=h.inv_nilP; rw [e]; exact .nilP _)
   | (have e:=h.inv_nilM; rw [e]; exact .nilM _)
   | (cases h; exact .nilF _)
   | (cases h; exact .nilI _)
  case agg cs=>
   simp only [List.all_eq_true] at hs
   obtain ⟨vs,vals,rfl,hl,hg,hv⟩:=h.inv_agg
   exact .agg _ vs _ hl vals hg (fun i hi=>ih _ _ (hs _ (List.getElem_mem hi)) (hv i hi))
  case tup cs=>
   simp only [List.all_eq_true] at hs
   obtain ⟨vs,vals,rfl,hl,hg,hv⟩:=h.inv_tup
   exact .tup _ vs _ hl vals hg (fun i hi=>ih _ _ (hs _ (List.getElem_mem hi)) (hv i hi))
  case iface t x=>
   cases h with
   | iface _ t v a hv=>exact .iface _ t v _ (ih _ _ hs hv)
theorem md {w:World} {OK:Nat->Prop} {g:az} {A:ac}:∀(n:Nat) (a:AV) (v:Value),bq n a=true->aL w OK g v a->aL w OK az.none v (frz A n a):=by
 intro n
 induction n with
 | zero=>
  intro a v hs h
  cases a <;> simp only [bq,Bool.false_eq_true] at hs <;> simp only [frz] <;> first
   | exact .undef _ _
   | (have e:=h.inv_bool; rw [e]; exact .bool _ _)
   | (have e:=h.inv_int; rw [e]; exact .int _ _ _)
   | (obtain ⟨s,e,hs⟩:=h.inv_str; rw [e]; exact .str _ _ _ hs)
   | (obtain ⟨p,e⟩:=h.inv_nilS; rw [e]; exact .nilS _ _)
   | (have e:=h.inv_nilP; rw [e]; exact .nilP _)
   | (have e:=h.inv_nilM; rw [e]; exact .nilM _)
   | (cases h; exact .nilF _)
   | (cases h; exact .nilI _)
   | (obtain ⟨b,o,cap,T,c,fz,vals,e,hb,hh,hcap,hv,hs,hc⟩:=h.inv_fs; rw [e]; exact .fs _ b o cap _ T c fz _ vals hb hh hcap hv hs hc)
   | (obtain ⟨b,o,T,c,fz,vals,e,hb,hh,hne,hv,hc⟩:=h.inv_fp; rw [e]; exact .fp _ b o T c fz _ vals hb hh hne hv hc)
 | succ n ih=>
  intro a v hs h
  cases a <;> simp only [bq,Bool.false_eq_true] at hs <;> simp only [frz] <;> try first
   | exact .undef _ _
   | (have e:=h.inv_bool; rw [e]; exact .bool _ _)
   | (have e:=h.inv_int; rw [e]; exact .int _ _ _)
   | (obtain ⟨s,e,hs⟩:=h.inv_str; rw [e]; exact .str _ _ _ hs)
   | (obtain ⟨p,e⟩:=h.inv_nilS; rw [e]; exact .nilS _ _)
   | (have e:=h.inv_nilP; rw [e]; exact .nilP _)
   | (have e:=h.inv_nilM; rw [e]; exact .nilM _)
   | (cases h; exact .nilF _)
   | (cases h; exact .nilI _)
   | (obtain ⟨b,o,cap,T,c,fz,vals,e,hb,hh,hcap,hv,hs,hc⟩:=h.inv_fs; rw [e]; exact .fs _ b o cap _ T c fz _ vals hb hh hcap hv hs hc)
   | (obtain ⟨b,o,T,c,fz,vals,e,hb,hh,hne,hv,hc⟩:=h.inv_fp; rw [e]; exact .fp _ b o T c fz _ vals hb hh hne hv hc)
  case agg cs=>
   simp only [List.all_eq_true] at hs
   obtain ⟨vs,vals,rfl,hl,hg,hv⟩:=h.inv_agg
   exact .agg _ vs _ (by simpa using hl) vals (fun i hi=>hg i (by simpa using hi)) (fun i hi=>by simp only [List.getElem_map]; exact ih _ _ (hs _ (List.getElem_mem _)) (hv i (by simpa using hi)))
  case tup cs=>
   simp only [List.all_eq_true] at hs
   obtain ⟨vs,vals,rfl,hl,hg,hv⟩:=h.inv_tup
   exact .tup _ vs _ (by simpa using hl) vals (fun i hi=>hg i (by simpa using hi)) (fun i hi=>by simp only [List.getElem_map]; exact ih _ _ (hs _ (List.getElem_mem _)) (hv i (by simpa using hi)))
  case func fn c1 c2=>
   simp only [Bool.and_eq_true,List.all_eq_true] at hs
   obtain ⟨vs1,vs2,vals1,vals2,rfl,hl1,hl2,hg1,hg2,hv1,hv2⟩:=h.inv_func
   exact .func _ fn vs1 vs2 _ _ (by simpa using hl1) (by simpa using hl2) vals1 vals2 (fun i hi=>hg1 i (by simpa using hi)) (fun i hi=>hg2 i (by simpa using hi))
    (fun i hi=>by simp only [List.getElem_map]; exact ih _ _ (hs.1 _ (List.getElem_mem _)) (hv1 i (by simpa using hi))) (fun i hi=>by simp only [List.getElem_map]; exact ih _ _ (hs.2 _ (List.getElem_mem _)) (hv2 i (by simpa using hi)))
  case iface t x=>
   cases h with
   | iface _ t v a hv=>exact .iface _ t v _ (ih _ _ hs hv)
theorem bo.map {w:World} {OK OK':Nat->Prop} {g g':az} {vs:List Value} {l:List AV} {F:AV->AV} (h:bo w OK g vs l) (hm:∀v a,a∈l->aL w OK g v a->aL w OK' g' v (F a)):bo w OK' g' vs (l.map F):=by
 induction vs generalizing l with
 | nil=>cases l with
  | nil=>exact trivial
  | cons a r=>exact h.elim
 | cons v vs ih=>cases l with
  | nil=>exact h.elim
  | cons a r=>exact ⟨hm v a (by simp) h.1,ih h.2 fun v a ha=>hm v a (by simp [ha])⟩
theorem eA.of_pure {f:FuncId} {M:aG} (h:ak P G f M) (n:Nat):eA P G f (uH n M):=by
 refine ⟨h.1,?_⟩
 intro args A r A' he w OK g vs hA hG hl
 unfold uH at he
 split at he
 ·rename_i r0 hM
  split at he
  ·rename_i hc
   injection he with he
   injection he with e1 e2
   subst e1; subst e2
   by_cases hn:args.all (bq n)=true
   ·have hn':=List.all_eq_true.1 hn
    refine (h.2 _ _ hM w OK vs hA.ok hG (hl.map fun v a ha hv=>md n a v (hn' a ha) hv)).mono ?_
    rintro e w' ⟨v,OK',rfl,hv,hok',hx⟩
    have hb:∀b,b<w.heap.size->w'.heap[b]?=w.heap[b]?:=fun b hb=>hx.blk b hb (fun _ _ (hi:_∈[])=>by cases hi)
    exact ⟨v,OK',g,rfl,hv.none_to,hA.keep hx.size hb OK' hx.okle hx.okf hok',hx.os,hx.tape,hx.output,hx.size,fun b hb' _=>hb b hb',g.le_refl,hx.okle,fun id inc hi=>.inl ⟨id,inc,hi,rfl⟩,hx.okf,hx.loops,fun _ _ _ _=>rfl⟩
   ·have hsc:cq n r0=true:=by simpa [hn] using hc
    have hok2:∀b,(OK b\/∃id inc,inc∈g id/\inc.b=b)->b<w.heap.size:=fun b hb=>by
     rcases hb with hb | ⟨id,inc,hi,rfl⟩
     ·exact hA.ok b hb
     ·exact hA.low id inc hi
    have hl2:bo w (fun b=>OK b\/∃id inc,inc∈g id/\inc.b=b) az.none vs (args.map (frz A n)):=hl.map fun v a _ hv=>jq hA (fun b hb=>Or.inl hb) (fun id inc _ hi=>Or.inr ⟨id,inc,hi,rfl⟩) n a v hv
    refine (h.2 _ _ hM w (fun b=>OK b\/∃id inc,inc∈g id/\inc.b=b) vs hok2 (hG.mono (fun b hb=>.inl hb) (fun _ _=>rfl)) hl2).mono ?_
    rintro e w' ⟨v,OK',rfl,hv,hok',hx⟩
    have hb:∀b,b<w.heap.size->w'.heap[b]?=w.heap[b]?:=fun b hb=>hx.blk b hb (fun _ _ (hi:_∈[])=>by cases hi)
    exact ⟨v,OK,g,rfl,qO n _ _ hsc hv,hA.keep hx.size hb OK (fun _ h=>h) (fun _ h=>.inl h) (fun b hb=>Nat.lt_of_lt_of_le (hA.ok b hb) hx.size),hx.os,hx.tape,hx.output,hx.size,fun b hb' _=>hb b hb',g.le_refl,fun _ h=>h,fun id inc hi=>.inl ⟨id,inc,hi,rfl⟩,fun _ h=>.inl h,hx.loops,fun _ _ _ _=>rfl⟩
  ·cases he
 ·cases he
theorem bK.nil {w:World} {OK:Nat->Prop} (h:∀b,OK b->b<w.heap.size):bK w OK az.none []:=
 ⟨fun id hi=>by simp at hi,fun _ _=>rfl,fun _ _ _ _ _ _ (hi:_∈[])=>(by cases hi),fun _ _ (hi:_∈[])=>(by cases hi),fun _ _ (hi:_∈[])=>(by cases hi),h⟩
theorem ak.of_fn {f:FuncId} {M':qu} {M:aG} (h:eA P G f M') (n:Nat) (hM:∀args r,M args=some r->∃r0 A',M' args []=some (r0,A')/\frz A' n r0=r):ak P G f M:=by
 refine ⟨h.1,?_⟩
 intro args r he w OK vs hok hG hl
 obtain ⟨r0,A',h1,rfl⟩:=hM args r he
 refine (h.2 _ _ _ _ h1 w OK az.none vs (bK.nil hok) hG hl).mono ?_
 rintro e w' ⟨v,OK',g',rfl,hv,hA,hx⟩
 refine ⟨v,fun b=>OK' b\/∃id inc,inc∈g' id/\inc.b=b,rfl,jq hA (fun b hb=>.inl hb) (fun id inc _ hi=>.inr ⟨id,inc,hi,rfl⟩) n r0 v hv,?_,?_⟩
 ·rintro b (hb | ⟨id,inc,hi,rfl⟩)
  ·exact hA.ok b hb
  ·exact hA.low id inc hi
 ·refine ⟨hx.os,hx.tape,hx.output,hx.size,hx.blk,az.le_refl _,fun b hb=>.inl (hx.okle b hb),fun _ _ (hi:_∈[])=>(by cases hi),?_,hx.loops,fun _ _ _ _=>rfl⟩
  rintro b (hb | ⟨id,inc,hi,rfl⟩)
  ·exact hx.okf b hb
  ·rcases hx.fresh id inc hi with ⟨_,_,h0,_⟩ | h1
   ·cases h0
   ·exact .inr h1
theorem pD {A B:ac}:∀(n:Nat) (a:AV),bq n a=true->frz B n a=frz A n a:=by
 intro n
 induction n with
 | zero=>intro a h; cases a <;> simp [bq] at h <;> rfl
 | succ n ih=>
  intro a h
  cases a <;> simp only [bq,Bool.and_eq_true,List.all_eq_true,Bool.false_eq_true] at h <;> simp only [frz]
  ·congr 1; exact List.map_congr_left fun x hx=>ih x (h x hx)
  ·congr 1; exact List.map_congr_left fun x hx=>ih x (h x hx)
  ·congr 1
   ·exact List.map_congr_left fun x hx=>ih x (h.1 x hx)
   ·exact List.map_congr_left fun x hx=>ih x (h.2 x hx)
  ·rw [ih _ h]
theorem a5.cons {fs:List (FuncId × aD)} {h0:aZ} {f:FuncId} {pu:List FuncId} {M:aG} (h:aI fs f=some (aF 4 M)) (hr:a5 (ee G fs h0) pu):a5 (ee G fs h0) (f :: pu):=by
 intro k hk hh args A r A' he
 rcases List.mem_cons.1 hk with rfl | hk
 ·simp only [ee,kX,h,aF,uH,List.nil_append,List.append_nil] at he ⊢
  split at he
  ·rename_i r' hM
   simp only [Option.ite_none_right_eq_some,Option.some.injEq,Prod.mk.injEq] at he
   obtain ⟨hc,rfl,rfl⟩:=he
   refine ⟨rfl,fun hn B=>?_⟩
   have hm:args.map (frz B 4)=args.map (frz A 4):=List.map_congr_left fun x hx=>pD 4 x (List.all_eq_true.1 hn x hx)
   rw [hm,hM]
   simp only [hc,if_true]
  ·cases he
 ·exact hr k hk hh args A r A' he
theorem oa {fs:List (FuncId × aD)} (hfs:∀f M,aI fs f=some M->an P G f M) {ys:List Yld} {h0:aZ} (h0s:fL P G ys h0):ck P {ee G fs h0 with ys:=ys}:=by
 refine ⟨h0s,?_⟩
 intro ys' hd hsub hds fv args A r A' he w OK g v vs hA hG hv hl
 simp only [ee,kX] at he
 split at he
 ·rename_i f first cap
  split at he
  ·rename_i M hM
   obtain ⟨vs1,vs2,vals1,vals2,rfl,hl1,hl2,hg1,hg2,hv1,hv2⟩:=hv.inv_func
   obtain ⟨hen,hcall⟩:=hfs f M hM
   have hlist:bo w OK g (vs1.toList++vs++vs2.toList) (first++args++cap):=by
    have hll:=hl.length
    refine bo.of_get (by simp [hl1,hl2,hll]) (fun i h1 h2=>?_)
    simp only [List.getElem_append]
    simp only [List.length_append,Array.length_toList,hl1,hll]
    have k1:∀i (h:i<vs1.toList.length) (h':i<first.length),aL w OK g vs1.toList[i] first[i]:=fun i h h'=>by
     have:=hg1 i h'
     rw [Array.getElem?_eq_getElem (by rw [hl1]; exact h')] at this
     injection this with this
     simp only [Array.getElem_toList,this]; exact hv1 i h'
    have k2:∀i (h:i<vs2.toList.length) (h':i<cap.length),aL w OK g vs2.toList[i] cap[i]:=fun i h h'=>by
     have:=hg2 i h'
     rw [Array.getElem?_eq_getElem (by rw [hl2]; exact h')] at this
     injection this with this
     simp only [Array.getElem_toList,this]; exact hv2 i h'
    split
    ·split
     ·exact k1 _ _ _
     ·exact hl.get _ _ _
    ·exact k2 _ _ _
   have:=hcall ys' hd hds _ _ _ _ he w OK g _ hA hG hlist
   refine ⟨⟨.fn (.func f) vs2,vs1++vs.toArray⟩,f,(vs1.toList++vs++vs2.toList).toArray,rfl,?_,this⟩
   have e:(vs1.toList++vs++vs2.toList).toArray=vs1++vs.toArray++vs2:=by simp
   rw [e]
   exact hen _ w
  ·cases he
 ·cases he
theorem aj {fs:List (FuncId × aD)} (hfs:∀f M,aI fs f=some M->an P G f M):ck P (ai G fs):=
 oa hfs (h0:=fun _ _ _=>none) (ys:=[]) (fun _ _ _ _ _ h=>by cases h)
theorem aN {E:Env} (hE:ck P E) (hys:E.ys=[]) {f:FuncId} {fn:Func} {n:Nat} {vs:List Nat} {pu:List FuncId} {on:Bool} {hints:pa} {mf:bC} {fuel:Nat} (hf:P.funcs[f]?=some fn) (hc:aB P fn n vs pu on hints=some mf) (hpu:a5 E pu) :
  eA P E.glob f (bA E fuel mf):=by
 obtain ⟨h1,h2⟩:=iI (fuel:=fuel) hE hf hc hpu
 exact ⟨h1,fun args A r A' he w OK g us hA hG hl=>h2 args A r A' he w OK g us hA ⟨hG,fun y hy=>by rw [hys] at hy; cases hy⟩ hl⟩
theorem dE {fs:List (FuncId × aD)} (hfs:∀f M,aI fs f=some M->an P G f M) {f:FuncId} {fn:Func} {n:Nat} {vs:List Nat} {pu:List FuncId} {on:Bool} {hints:pa} {mf:bC} {fuel:Nat} (hf:P.funcs[f]?=some fn) (hc:aB P fn n vs pu on hints=some mf) (hpu:a5 (ai G fs) pu:=by first | exact a5.nil | (repeat (first | exact a5.nil | refine a5.cons (M:=_) rfl ?_))) :
  an P G f (fun h=>bA (ee G fs h) fuel mf):=by
 refine ⟨(iI (fuel:=fuel) (aj hfs) hf hc hpu).1,fun ys h hh args A r A' he=>?_⟩
 have:=(iI (fuel:=fuel) (oa hfs hh) hf hc hpu).2 args A r A' (by rw [yc]; exact he)
 exact this
theorem an.of_pure {f:FuncId} {M:aG} (h:ak P G f M) (n:Nat):an P G f (aF n M):=(eA.of_pure h n).y
theorem aw {Q:FuncId->aD->Prop}:∀f M,aI [] f=some M->Q f M:=fun _ _ h=>by cases h
theorem ae {Q:FuncId->aD->Prop} {g:FuncId} {N:aD} {r:List (FuncId × aD)} (h1:Q g N) (h2:∀f M,aI r f=some M->Q f M):∀f M,aI ((g,N) :: r) f=some M->Q f M:=fun f M h=>by
 simp only [aI] at h
 split at h
 ·rename_i e; injection h with h; subst h; subst e; exact h1
 ·exact h2 f M h
end
inductive KC where
 | code (c:MC)
 | ops (l:List MO) (T:List AV)
 | opsF (pu:List FuncId) (l:List MO) (T:List AV) (fs:List dK) (pairs:List (Nat × Nat))
 | blk (id:Nat)
def evK (E:Env) (fuel:Nat):List KC->Option Out->Option Out
 | [],o=>o
 | .code c :: k,some (.normal σ A)=>evK E fuel k (evC E fuel c σ A)
 | .ops l T :: k,some (.normal σ A)=>evK E fuel k ((dl E l σ T A).map fun x=>.normal x.1 x.2)
 | .opsF pu l T fs pairs :: k,some (.normal σ A)=>evK E fuel k (match cY E pu l σ T A fs with
  | some (σ',A',fs')=>if pairs.all (fun p=>(fs'.getD p.1 .no).apart (fs'.getD p.2 .no)) then some (.normal σ' A') else none
  | none=>none)
 | .blk id :: k,some (.exit id' σ A)=>evK E fuel k (if id'=id then some (.normal σ A) else some (.exit id' σ A))
 | _ :: k,o=>evK E fuel k o
def run (E:Env) (fuel:Nat) (k:List KC) (σ:List AV) (A:ac):Option Out:=evK E fuel k (some (.normal σ A))
def jt (E:Env) (fuel:Nat) (id:Nat) (k:List KC) (σ:List AV) (A:ac):Option Out:=evK E fuel k (some (.exit id σ A))
def after (E:Env) (fuel:Nat) (k:List KC) (o:Out):Option Out:=evK E fuel k (some o)
section
variable {E:Env} {fuel:Nat} {σ:List AV} {A:ac} {k:List KC}
theorem dm:∀k,evK E fuel k none=none
 | []=>rfl
 | .code _ :: k=>by simp [evK,dm k]
 | .ops _ _ :: k=>by simp [evK,dm k]
 | .opsF .. :: k=>by simp [evK,dm k]
 | .blk _ :: k=>by simp [evK,dm k]
theorem iH:∀k,evK E fuel k (some (.ret σ A))=some (.ret σ A)
 | []=>rfl
 | .code _ :: k=>by simp [evK,iH k]
 | .ops _ _ :: k=>by simp [evK,iH k]
 | .opsF .. :: k=>by simp [evK,iH k]
 | .blk _ :: k=>by simp [evK,iH k]
theorem oU (c:MC):evC E fuel c σ A=run E fuel [.code c] σ A:=rfl
theorem Bj:run E fuel [] σ A=some (.normal σ A):=rfl
theorem xh:run E fuel (.code .skip :: k) σ A=run E fuel k σ A:=rfl
theorem aW (a b:MC):run E fuel (.code (.seq a b) :: k) σ A=run E fuel (.code a :: .code b :: k) σ A:=by
 simp only [run,evK,evC]
 cases evC E fuel a σ A with
 | none=>simp [dm]
 | some o=>cases o <;> simp [evK]
theorem jH (l:List MO):run E fuel (.code (.region l) :: k) σ A=run E fuel (.ops l [] :: k) σ A:=rfl
theorem qQ (pu:List FuncId) (l:List MO) (pairs:List (Nat × Nat)):run E fuel (.code (.regionD pu l pairs) :: k) σ A=run E fuel (.opsF pu l [] [] pairs :: k) σ A:=rfl
theorem fR (id:Nat) (a:MC):run E fuel (.code (.block id a) :: k) σ A=run E fuel (.code a :: .blk id :: k) σ A:=by
 simp only [run,evK,evC]
 cases evC E fuel a σ A with
 | none=>simp [dm]
 | some o=>cases o <;> simp [evK,iH]
theorem Bk (id:Nat):run E fuel (.blk id :: k) σ A=run E fuel k σ A:=rfl
theorem uv (a:MC):run E fuel (.code (.scope a) :: k) σ A=run E fuel (.code a :: k) σ A:=rfl
theorem xj (mask:List Nat):run E fuel (.code (.kill mask) :: k) σ A=run E fuel k (clear mask σ) A:=rfl
theorem uw:run E fuel (.code .ret :: k) σ A=some (.ret σ A):=iH _
theorem xk (id:Nat):run E fuel (.code (.exit id) :: k) σ A=jt E fuel id k σ A:=rfl
theorem vB (id:Nat):jt E fuel id [] σ A=some (.exit id σ A):=rfl
theorem tu (id:Nat) (c:MC):jt E fuel id (.code c :: k) σ A=jt E fuel id k σ A:=rfl
theorem vA (id:Nat) (l:List MO) (T:List AV):jt E fuel id (.ops l T :: k) σ A=jt E fuel id k σ A:=rfl
theorem tt (id:Nat) (pu:List FuncId) (l:List MO) (T:List AV) (fs:List dK) (pairs:List (Nat × Nat)):jt E fuel id (.opsF pu l T fs pairs :: k) σ A=jt E fuel id k σ A:=rfl
theorem vC (id:Nat):jt E fuel id (.blk id :: k) σ A=run E fuel k σ A:=by simp [jt,evK,run]
theorem pU (id id':Nat) (h:id≠id'):jt E fuel id (.blk id' :: k) σ A=jt E fuel id k σ A:=by simp [jt,evK,h]
theorem rU (c:MX) (a b:MC) (t:Bool) (h:evX E σ [] c=.bool t):run E fuel (.code (.cond c a b) :: k) σ A=if t then run E fuel (.code a :: k) σ A else run E fuel (.code b :: k) σ A:=by
 simp only [run,evK,evC,h]; cases t <;> rfl
theorem s5 (c:MX) (a b:MC) (h:evX E σ [] c=.bool true):run E fuel (.code (.cond c a b) :: k) σ A=run E fuel (.code a :: k) σ A:=by
 rw [rU c a b true h]; rfl
theorem s6 (c:MX) (a b:MC) (h:evX E σ [] c=.bool false):run E fuel (.code (.cond c a b) :: k) σ A=run E fuel (.code b :: k) σ A:=by
 rw [rU c a b false h]; rfl
theorem qR (T:List AV):run E fuel (.ops [] T :: k) σ A=run E fuel k σ A:=rfl
theorem Ek (d:Option Nat) (op:MOp) (rest:List MO) (T:List AV):run E fuel (.ops (⟨d,op,none⟩ :: rest) T :: k) σ A =
  match aM E (evX E σ T) A op with
  | some (v,A')=>run E fuel (.ops rest (T++[v]) :: k) (cT σ d v) A'
  | none=>none:=by
 simp only [run,evK,dl,cr]
 cases aM E (evX E σ T) A op with
 | none=>simp [dm]
 | some x=>rfl
theorem oy (d:Option Nat) (op:MOp) (rest:List MO) (T:List AV) (x:MX) (want:Bool) (h:evX E σ T x=.bool want):run E fuel (.ops (⟨d,op,some (x,want)⟩ :: rest) T :: k) σ A =
  match aM E (evX E σ T) A op with
  | some (v,A')=>run E fuel (.ops rest (T++[v]) :: k) (cT σ d v) A'
  | none=>none:=by
 simp only [run,evK,dl,cr,h]
 cases want <;> cases aM E (evX E σ T) A op <;> simp [dm]
theorem lU (d:Option Nat) (op:MOp) (rest:List MO) (T:List AV) (x:MX) (want:Bool) (h:evX E σ T x=.bool (!want)):run E fuel (.ops (⟨d,op,some (x,want)⟩ :: rest) T :: k) σ A =
  run E fuel (.ops rest (T++[.tup []]) :: k) (cT σ d (.tup [])) A:=by
 simp only [run,evK,dl,cr,h]
 cases want <;> rfl
theorem qS (d:Option Nat) (op:MOp) (rest:List MO) (T:List AV) (x:MX) (want:Bool) (h:evX E σ T x=.tup []):run E fuel (.ops (⟨d,op,some (x,want)⟩ :: rest) T :: k) σ A =
  run E fuel (.ops rest (T++[.tup []]) :: k) (cT σ d (.tup [])) A:=by
 simp only [run,evK,dl,cr,h]
theorem pt (pu:List FuncId) (T:List AV) (fs:List dK) (pairs:List (Nat × Nat)):run E fuel (.opsF pu [] T fs pairs :: k) σ A=if pairs.all (fun p=>(fs.getD p.1 .no).apart (fs.getD p.2 .no)) then run E fuel k σ A else none:=by
 simp only [run,evK,cY]
 split
 ·rfl
 ·exact dm _
theorem Bi (pu:List FuncId) (d:Option Nat) (op:MOp) (rest:List MO) (T:List AV) (fs:List dK) (pairs:List (Nat × Nat)):run E fuel (.opsF pu (⟨d,op,none⟩ :: rest) T fs pairs :: k) σ A =
  match aM E (evX E σ T) A op with
  | some (v,A')=>run E fuel (.opsF pu rest (T++[v]) (fs++[bp E pu (evX E σ T) A op]) pairs :: k) (cT σ d v) A'
  | none=>none:=by
 simp only [run,evK,cY,cr]
 cases aM E (evX E σ T) A op with
 | none=>simp [dm]
 | some x=>rfl
theorem ne (pu:List FuncId) (d:Option Nat) (op:MOp) (rest:List MO) (T:List AV) (fs:List dK) (pairs:List (Nat × Nat)) (x:MX) (want:Bool) (h:evX E σ T x=.bool want):run E fuel (.opsF pu (⟨d,op,some (x,want)⟩ :: rest) T fs pairs :: k) σ A =
  match aM E (evX E σ T) A op with
  | some (v,A')=>run E fuel (.opsF pu rest (T++[v]) (fs++[bp E pu (evX E σ T) A op]) pairs :: k) (cT σ d v) A'
  | none=>none:=by
 simp only [run,evK,cY,cr,h]
 cases want <;> cases aM E (evX E σ T) A op <;> simp [dm]
theorem kI (pu:List FuncId) (d:Option Nat) (op:MOp) (rest:List MO) (T:List AV) (fs:List dK) (pairs:List (Nat × Nat)) (x:MX) (want:Bool) (h:evX E σ T x=.bool (!want)):run E fuel (.opsF pu (⟨d,op,some (x,want)⟩ :: rest) T fs pairs :: k) σ A =
  run E fuel (.opsF pu rest (T++[.tup []]) (fs++[.no]) pairs :: k) (cT σ d (.tup [])) A:=by
 simp only [run,evK,cY,cr,h]
 cases want <;> rfl
theorem pw (pu:List FuncId) (d:Option Nat) (op:MOp) (rest:List MO) (T:List AV) (fs:List dK) (pairs:List (Nat × Nat)) (x:MX) (want:Bool) (h:evX E σ T x=.tup []):run E fuel (.opsF pu (⟨d,op,some (x,want)⟩ :: rest) T fs pairs :: k) σ A =
  run E fuel (.opsF pu rest (T++[.tup []]) (fs++[.no]) pairs :: k) (cT σ d (.tup [])) A:=by
 simp only [run,evK,cY,cr,h]
theorem xi (mask:List Nat) (a:MC) (o:Out) (h:bM (evC E fuel a) mask fuel σ A=some o):run E fuel (.code (.loop mask a) :: k) σ A=after E fuel k o:=by
 simp only [run,evK,evC,h,after]
theorem vV (mask:List Nat):∀(σ:List AV) (i:Nat),(clear mask σ).set i .undef=clear mask (σ.set i .undef):=by
 induction mask with
 | nil=>intro σ i; rfl
 | cons j m ih=>
  intro σ i
  show (clear m (σ.set j .undef)).set i .undef=clear m ((σ.set i .undef).set j .undef)
  rw [ih]
  congr 1
  by_cases h:i=j
  ·subst h; rfl
  ·exact (List.set_comm _ _ h).symm
theorem ro (mask:List Nat):∀ σ:List AV,clear mask (clear mask σ)=clear mask σ:=by
 induction mask with
 | nil=>intro σ; rfl
 | cons j m ih=>
  intro σ
  show clear m ((clear m (σ.set j .undef)).set j .undef)=clear m (σ.set j .undef)
  rw [vV,List.set_set,ih]
theorem nY (body:List AV->ac->Option Out) (mask:List Nat) (n:Nat) (σ:List AV) (A:ac):bM body mask n σ A=bM body mask n (clear mask σ) A:=by
 cases n with
 | zero=>rfl
 | succ n=>simp only [bM,ro]
theorem aU (mask:List Nat) (a:MC) (o:Out) (h:bM (evC E fuel a) mask fuel (clear mask σ) A=some o):run E fuel (.code (.loop mask a) :: k) σ A=after E fuel k o:=
 xi mask a o (by rw [nY]; exact h)
theorem fq {a:MC} {mask:List Nat} (I:Nat->List AV->ac->Prop) (Q:Out->Prop) (hs:∀k σ A,I k σ A->(∃ σ' A',run E fuel [.code a] (clear mask σ) A=some (.normal σ' A')/\∃k',k'<k/\I k' σ' A')\/(∃o,run E fuel [.code a] (clear mask σ) A=some o/\(∀ σ' A',o≠.normal σ' A')/\Q o)) :
  ∀(n k:Nat) (σ:List AV) (A:ac),k<n->I k σ A->∃o,bM (evC E fuel a) mask n σ A=some o/\Q o:=by
 intro n
 induction n with
 | zero=>intro k σ A h; omega
 | succ n ih=>
  intro k σ A h hi
  rw [bM]
  rcases hs k σ A hi with ⟨σ',A',h1,k',h2,h3⟩ | ⟨o,h1,h2,h3⟩
  ·rw [oU,h1]
   exact ih k' σ' A' (by omega) h3
  ·rw [oU,h1]
   cases o with
   | normal σ' A'=>exact absurd rfl (h2 σ' A')
   | exit id σ' A'=>exact ⟨_,rfl,h3⟩
   | ret σ' A'=>exact ⟨_,rfl,h3⟩
theorem iX (f:MX) (ps:List Nat) (a b:MC) (o:Out)
  (h:∀(l:Nat) (r:Loop),(match E.callY (dH A.length l r σ ps (evC E fuel a) (evC E fuel b) E.hand) (evX E σ [] f) [.func (.yield l) [] []] (A++[Ent.loop r 0]) with
   | some (_,A')=>jC A.length σ A'
   | none=>none)=some o):run E fuel (.code (.rangeFunc f ps a b) :: k) σ A=after E fuel k o:=by
 have:evC E fuel (.rangeFunc f ps a b) σ A=some o:=by
  simp only [evC]
  exact Gp (jP:=fun (_:Nat × Loop)=>True) (0,default) trivial fun x _=>h x.1 x.2
 simp only [run,evK,this,after]
theorem qs:after E fuel k (.normal σ A)=run E fuel k σ A:=rfl
theorem tG (id:Nat):after E fuel k (.exit id σ A)=jt E fuel id k σ A:=rfl
theorem wx:after E fuel k (.ret σ A)=some (.ret σ A):=iH _
theorem aK (a:MC) (mask:List Nat) (n:Nat):bM (evC E fuel a) mask (n+1) σ A=match run E fuel [.code a] (clear mask σ) A with
  | some (.normal σ' A')=>bM (evC E fuel a) mask n σ' A'
  | x=>x:=rfl
theorem bH (mf:bC) (args:List AV) (h:args.length=mf.n):bA E fuel mf args A=match run E fuel [.code mf.mc] (args++List.replicate (mf.len-mf.n) .undef) A with
  | some (.normal σ A')=>(dt A' σ mf.res).map fun l=>(eH l,A')
  | some (.ret σ A')=>(dt A' σ mf.res).map fun l=>(eH l,A')
  | _=>none:=by
 unfold bA; rw [if_pos h]; rfl
end
open Classical in
theorem ak.of_fns {P:Program} {G:Nat->Option (List AV)} {f:FuncId} {M':Nat->qu} {M:aG} (h:∀fuel,eA P G f (M' fuel)) (n:Nat) (hM:∀args r,M args=some r->∃fuel r0 A',M' fuel args []=some (r0,A')/\frz A' n r0=r):ak P G f M:=by
 refine ⟨(h 0).1,?_⟩
 intro args r he
 obtain ⟨fuel,r0,A',h1,h2⟩:=hM args r he
 exact (ak.of_fn (M:=fun a=>if a=args then some r else none) (h fuel) n (fun a r' h'=>by
  split at h'
  ·rename_i e; injection h' with h'; subst h'; subst e; exact ⟨r0,A',h1,h2⟩
  ·cases h')).2 args r (by simp)
attribute [simp] xh xj qQ tt pt Bi ne kI pw bp aV g8 dK.apart0 dK.sees dK.apart dK.no kp0 bD iZ fV eT cz bR jr oI q9 mQ p6 eqK aW jH fR Bk uv uw xk Bj vB tu vA vC pU s5 s6 qR Ek oy lU qS
 qs tG wx clear aM evX cI cT aq jx tz gq af au eW eS bV dk cK hiB loB gp jw ay gm ex bm a8 dt eH
 aF uH kX aI frz cq bq ri AV.solid cellsOf gN aa io gT jj cg eQ bs aE gO
@[simp] theorem FC (A:ac) (v:AV) (B:ac) (id:Nat):td A (some (v,B)) id=true↔B[id]?=A[id]?:=by
 simp only [td]
 exact @decide_eq_true_iff _ (Classical.propDecidable _)
@[simp] theorem Gt (G:Nat->Option (List AV)) (fs:List (FuncId × aD)) (h:aZ) (f:FuncId) (a b args:List AV) (A:ac):(ee G fs h).call (.func (.func f) a b) args A=kX fs h (.func (.func f) a b) args A:=rfl
@[simp] theorem w4 (G:Nat->Option (List AV)) (fs:List (FuncId × aD)) (h:aZ) (l:Nat) (a b args:List AV) (A:ac):(ee G fs h).call (.func (.yield l) a b) args A=match h (.func (.yield l) a b) args A with
 | some x=>some x
 | none=>kX fs h (.func (.yield l) a b) args A:=rfl
@[simp] theorem Gs (G:Nat->Option (List AV)) (fs:List (FuncId × aD)) (h:aZ):(ee G fs h).glob=G:=rfl
@[simp] theorem Gr (G:Nat->Option (List AV)) (fs:List (FuncId × aD)) (h:aZ):(ee G fs h).hand=h:=rfl
@[simp] theorem DE (G:Nat->Option (List AV)) (fs:List (FuncId × aD)) (h:aZ):(ee G fs h).callY=kX fs:=rfl
@[simp] theorem DH (G:Nat->Option (List AV)) (fs:List (FuncId × aD)) (f:FuncId) (a b args:List AV) (A:ac):(ai G fs).call (.func (.func f) a b) args A=kX fs (fun _ _ _=>none) (.func (.func f) a b) args A:=rfl
@[simp] theorem DG (G:Nat->Option (List AV)) (fs:List (FuncId × aD)):(ai G fs).glob=G:=rfl
@[simp] theorem DF (G:Nat->Option (List AV)) (fs:List (FuncId × aD)):(ai G fs).hand=fun _ _ _=>none:=rfl
@[simp] theorem Cx (G:Nat->Option (List AV)) (fs:List (FuncId × aD)):(ai G fs).callY=kX fs:=rfl
@[simp] theorem xW (b:Bool) (esz size:Nat):bO (.bool b) esz 0 false size=some (.bool b):=rfl
@[simp] theorem yJ (k:IntKind) (b:Int) (esz size:Nat):bO (.int k b) esz 0 false size=some (.int k b):=rfl
@[simp] theorem yG (b:List UInt8) (esz size:Nat):bO (.str b) esz 0 false size=some (.str b):=rfl
@[simp] theorem xQ (esz size:Nat):bO .nilS esz 0 false size=some .nilS:=rfl
@[simp] theorem xR (esz size:Nat):bO .nilP esz 0 false size=some .nilP:=rfl
@[simp] theorem xS (esz size:Nat):bO .nilM esz 0 false size=some .nilM:=rfl
@[simp] theorem xU (esz size:Nat):bO .nilF esz 0 false size=some .nilF:=rfl
@[simp] theorem xT (esz size:Nat):bO .nilI esz 0 false size=some .nilI:=rfl
@[simp] theorem Cn (a:Nat) (b:List AV) (esz size:Nat):bO (.fs a b) esz 0 false size=some (.fs a b):=rfl
@[simp] theorem Cm (a b c:Nat) (esz size:Nat):bO (.sl a b c) esz 0 false size=some (.sl a b c):=rfl
@[simp] theorem yH (a b c:Nat) (esz size:Nat):bO (.ptr a b c) esz 0 false size=some (.ptr a b c):=rfl
@[simp] theorem Co (a:List AV) (esz size:Nat):bO (.fp a) esz 0 false size=some (.fp a):=rfl
@[simp] theorem xV (f:Fn) (a b:List AV) (esz size:Nat):bO (.func f a b) esz 0 false size=some (.func f a b):=rfl
@[simp] theorem yI (a:Nat) (esz size:Nat):bO (.map a) esz 0 false size=some (.map a):=rfl
@[simp] theorem wV (t:TypeId) (v:AV) (esz size:Nat):bO (.iface t v) esz 0 false size=some (.iface t v):=rfl
@[simp] theorem bv (cs:List AV) (esz o size:Nat):bO (.agg cs) esz o false size=cs[o]?:=rfl
@[simp] theorem pI (cs:List AV) (esz:Nat):bO (.agg cs) esz 0 true esz=some (.agg cs):=by unfold bO; simp
def evP (E:Env) (fuel:Nat) (mf:bC) (n:Nat) (args:List AV):Option AV:=(bA E fuel mf args []).map fun x=>frz x.2 n x.1
theorem aS {E:Env} {fuel:Nat} {n:Nat} (mf:bC) (args:List AV) (h:args.length=mf.n):evP E fuel mf n args=match run E fuel [.code mf.mc] (args++List.replicate (mf.len-mf.n) .undef) [] with
  | some (.normal σ A')=>(dt A' σ mf.res).map fun l=>frz A' n (eH l)
  | some (.ret σ A')=>(dt A' σ mf.res).map fun l=>frz A' n (eH l)
  | _=>none:=by
 unfold evP
 rw [bH mf args h]
 cases run E fuel [.code mf.mc] (args++List.replicate (mf.len-mf.n) .undef) [] with
 | none=>rfl
 | some o=>cases o with
  | normal σ A=>simp [Option.map_map]; rfl
  | exit id σ A=>rfl
  | ret σ A=>simp [Option.map_map]; rfl
theorem ak.of_ev {P:Program} {E:Env} {f:FuncId} {fn:Func} {k:Nat} {vs:List Nat} {pu:List FuncId} {on:Bool} {hints:pa} {mf:bC} (hE:ck P E) (hys:E.ys=[]) (hf:P.funcs[f]?=some fn) (hc:aB P fn k vs pu on hints=some mf) (n:Nat) {M:aG}
  (hM:∀args r,M args=some r->∃fuel,evP E fuel mf n args=some r) (hpu:a5 E pu:=by first | exact a5.nil | (repeat (first | exact a5.nil | refine a5.cons (M:=_) rfl ?_))):ak P E.glob f M:=
 ak.of_fns (M':=fun fuel=>bA E fuel mf) (fun fuel=>aN hE hys hf hc hpu) n fun args r h=>by
  obtain ⟨fuel,h⟩:=hM args r h
  unfold evP at h
  cases h1:bA E fuel mf args [] with
  | none=>rw [h1] at h; cases h
  | some x=>rw [h1] at h; injection h with h; exact ⟨fuel,x.1,x.2,h1,h⟩
@[simp] theorem du (esz:Nat) (A:ac) (es:List AV):aQ esz A (.fs esz es)=some es:=by simp [aQ]
@[simp] theorem yu (esz:Nat) (A:ac):aQ esz A .nilS=some []:=rfl
@[simp] theorem yr (A:ac) (l:List UInt8):aQ 1 A (.str l)=some (l.map fun b=>.int .u8 b.toNat):=rfl
theorem qG {A:ac} {id:Nat} {esz:Nat} {gr:Bool} {es:List AV} (h:A[id]?=some (.row esz gr es)) (off len:Nat):aQ esz A (.sl id off len)=some ((es.drop off).take len):=by simp [aQ,h]
@[simp] theorem yw (A:ac) (esz:Nat) (gr:Bool) (es:List AV):aQ esz (A++[Ent.row esz gr es]) (.sl A.length 0 es.length)=some es:=by simp [aQ]
@[simp] theorem IP (a b:Int):(a == b)=decide (a=b):=by
 by_cases h:a=b <;> simp [h]
@[simp] theorem Z4 (a b:Int):(a != b)=!decide (a=b):=by
 by_cases h:a=b <;> simp [h]
@[simp] theorem BN (n:Nat):((n:Int)<0)=False:=by simp
@[simp] theorem H9:IntKind.i64.bits=64:=rfl
@[simp] theorem H7:IntKind.u64.bits=64:=rfl
@[simp] theorem H8:IntKind.u32.bits=32:=rfl
@[simp] theorem Ia:IntKind.i32.bits=32:=rfl
@[simp] theorem Km:IntKind.u8.bits=8:=rfl
def inI (a:Int):Prop:=-9223372036854775808<=a/\a<=9223372036854775807
theorem dB {a:Int} (h:inI a):IntKind.i64.wrap a=a:=oh h.1 h.2
open Go.ChangeShapes Go.WideShapes
def qA (P:Program) (t:TypeId):Bool:=match P.underlying t with
 | some (.struct _) | some (.array _ _)=>true
 | _=>false
def fP (P:Program) (t:TypeId) (xs:List AV):AV:=if qA P t then .agg xs else xs.headD .undef
def mV (P:Program):Nat->List Field->Nat->Bool
 | k,[],n=>k == n
 | k,f :: r,n=>f.offset == k && mV P (k+P.cellsOf f.type) r n
def en (P:Program):Nat->TypeId->Bool
 | 0,_=>false
 | n+1,t=>match P.underlying t with
  | some .bool | some (.int _) | some .string=>P.cellsOf t == 1
  | some (.slice e)=>P.cellsOf t == 1 && Nat.blt 0 (P.cellsOf e) && en P n e
  | some (.struct fs)=>fs.toList.all (fun f=>en P n f.type) && mV P 0 fs.toList (P.cellsOf t)
  | some (.array m e)=>P.cellsOf t == m*P.cellsOf e && Nat.blt 0 (P.cellsOf e) && en P n e
  | _=>false
def TCs (P:Program) (T:TypeId->List AV->Prop):List Field->List AV->Prop
 | [],ls=>ls=[]
 | f :: r,ls=>∃a b,ls=a++b/\T f.type a/\a.length=P.cellsOf f.type/\TCs P T r b
def TCa (T:List AV->Prop) (size:Nat):Nat->List AV->Prop
 | 0,ls=>ls=[]
 | m+1,ls=>∃a b,ls=a++b/\T a/\a.length=size/\TCa T size m b
def TC (P:Program):Nat->TypeId->List AV->Prop
 | 0,_,_=>False
 | n+1,t,ls=>match P.underlying t with
  | some .bool=>∃b,ls=[.bool b]
  | some (.int k)=>∃z,ls=[.int k z]/\(k.min<=z/\z<=k.max)
  | some .string=>∃s,ls=[.str s]/\s.length<=9223372036854775807
  | some (.slice e)=>ls=[.nilS]\/∃es:List AV,ls=[.fs (P.cellsOf e) es]/\es.length<=9223372036854775807/\∀x∈es,∃xs,TC P n e xs/\xs.length=P.cellsOf e/\x=fP P e xs
  | some (.struct fs)=>TCs P (TC P n) fs.toList ls
  | some (.array m e)=>TCa (TC P n e) (P.cellsOf e) m ls
  | _=>False
def TA (P:Program) (n:Nat) (t:TypeId) (a:AV):Prop:=∃xs,TC P n t xs/\xs.length=P.cellsOf t/\a=fP P t xs
section
variable {H:Type} {enc:TypeId × Value->H} {P:Program} {w:World} {held:Bool}
theorem G0 {a:Addr} {n:Nat} {cs:List Value} (h:w.cells? 0 a n=some cs):cs.length=n/\∀j,j<n->∃v,cs[j]?=some v/\w.cell? (a.add j)=some v:=by
 unfold World.cells? at h
 rw [if_pos (Nat.zero_le _)] at h
 have hl:cs.length=n:=by simpa using mapM_some_length h
 refine ⟨hl,fun j hj=>?_⟩
 have:=mapM_some_get h j j (by simp [hj])
 rw [this]
 exact ⟨cs[j],by simp [hl,hj],by simp [hl,hj]⟩
theorem qt (a:Addr) (i j:Nat) (h:a.spot=none):(a.add i).add j=⟨a.block,a.off+i+j,none⟩:=by
 obtain ⟨b,o,s⟩:=a
 simp only at h
 subst h
 rw [cA,cA]
theorem vf {α:Type} (l:List α) (d:α) (h:0<l.length):l.headD d=l[0]:=by
 cases l with
 | nil=>simp at h
 | cons y r=>rfl
theorem kn {n:Nat} {t:TypeId} (hp:en P n t=true) (ha:qA P t=false):P.cellsOf t=1:=by
 cases n with
 | zero=>cases hp
 | succ n=>
  unfold en at hp
  unfold qA at ha
  split at hp
  ·exact beq_iff_eq.1 hp
  ·exact beq_iff_eq.1 hp
  ·exact beq_iff_eq.1 hp
  ·simp only [Bool.and_eq_true,beq_iff_eq] at hp; exact hp.1.1
  ·rename_i hu; rw [hu] at ha; cases ha
  ·rename_i hu; rw [hu] at ha; cases ha
  ·cases hp
theorem ua:∀(n fuel:Nat) (t:TypeId) (cs:List Value) (x:DataW H × List MemPlace),en P n t=true->DataW.trod enc P w 0 (fun _=>true) held fuel t cs=some x ->
  ∃ls:List AV,ls.length=cs.length/\cs.length=P.cellsOf t/\TC P n t ls/\∀i (h:i<ls.length),∃v,cs[i]?=some v/\v.oneCell'=true/\aL w (fun b=>b<w.heap.size) az.none v ls[i]:=by
 intro n
 induction n with
 | zero=>intro fuel t cs x h; cases h
 | succ n ih=>
  intro fuel t cs x hp h
  unfold en at hp
  split at hp
  ·
   rename_i hu
   obtain ⟨b,rfl,_⟩:=DataW.trod_bool hu h
   refine ⟨[.bool b],rfl,by simpa using (beq_iff_eq.1 hp).symm,by simp only [TC,hu]; exact ⟨b,rfl⟩,fun i hi=>?_⟩
   obtain rfl:i=0:=by simpa using hi
   exact ⟨_,rfl,rfl,.bool _ _⟩
  ·rename_i k hu
   obtain ⟨z,rfl,_,hw⟩:=DataW.trod_int hu h
   refine ⟨[.int k z],rfl,by simpa using (beq_iff_eq.1 hp).symm,?_,fun i hi=>?_⟩
   ·simp only [TC,hu]
    simp only [Lit.wf,Bool.and_eq_true,decide_eq_true_eq] at hw
    exact ⟨z,rfl,hw⟩
   ·obtain rfl:i=0:=by simpa using hi
    exact ⟨_,rfl,rfl,.int _ _ _⟩
  ·rename_i hu
   obtain ⟨s,rfl,_,hw⟩:=DataW.trod_string hu h
   refine ⟨[.str s.data.toList],rfl,by simpa using (beq_iff_eq.1 hp).symm,?_,fun i hi=>?_⟩
   ·simp only [TC,hu]
    refine ⟨_,rfl,?_⟩
    have h1:s.data.toList.length=s.size:=Array.length_toList
    have h2:maxLen=9223372036854775807:=by decide
    omega
   ·obtain rfl:i=0:=by simpa using hi
    exact ⟨_,rfl,rfl,.str _ _ _ rfl⟩
  ·
   rename_i e hu
   simp only [Bool.and_eq_true,beq_iff_eq] at hp
   obtain ⟨⟨hc1,hpos⟩,hpe⟩:=hp
   have hpos:0<P.cellsOf e:=by simpa [Nat.blt_eq] using hpos
   have fin:∀(v:Value) (a:AV),v.oneCell'=true->aL w (fun b=>b<w.heap.size) az.none v a->TC P (n+1) t [a] ->
     ∃ls:List AV,ls.length=[v].length/\[v].length=P.cellsOf t/\TC P (n+1) t ls/\∀i (h:i<ls.length),∃v',[v][i]?=some v'/\v'.oneCell'=true/\aL w (fun b=>b<w.heap.size) az.none v' ls[i]:=by
    intro v a h1 h2 h3
    refine ⟨[a],rfl,by simp [hc1],h3,fun i hi=>?_⟩
    obtain rfl:i=0:=by simpa using hi
    exact ⟨_,rfl,h1,h2⟩
   rcases DataW.trod_slice hu h with ⟨rfl,_⟩ | ⟨a,len,cap,elems,rest,m,rfl,rfl,_,_,hl,hcm,hel,hget,hrest,_⟩
   ·exact fin _ _ rfl (.nilS _ _) (by simp only [TC,hu]; exact .inl trivial)
   ·by_cases hcap:cap=0
    ·subst hcap
     obtain rfl:len=0:=by omega
     exact fin _ _ rfl (.nilS _ _) (by simp only [TC,hu]; exact .inl trivial)
    ·
     obtain ⟨hr1,hr2⟩:=hrest rfl
     have hblk:a.spot=none/\∃c T fz,w.heap[a.block]?=some (.cells c T fz):=by
      have h0:∃z cs0,w.cells? 0 (a.add 0) (P.cellsOf e)=some cs0/\DataW.trod enc P w 0 (fun _=>true) held m e cs0=some z:=by
       by_cases hl0:len=0
       ·subst hl0
        have:=hr2 0 (by omega)
        rw [List.getElem?_eq_getElem (show 0<rest.length by omega)] at this
        simp only [Option.bind_eq_some_iff,Nat.add_zero,Nat.zero_mul] at this
        obtain ⟨cs0,k1,k2⟩:=this
        exact ⟨_,cs0,k1,k2⟩
       ·have:=hget 0 (by omega)
        rw [List.getElem?_eq_getElem (show 0<elems.length by omega)] at this
        simp only [Option.bind_eq_some_iff,Nat.zero_mul] at this
        obtain ⟨cs0,k1,k2⟩:=this
        exact ⟨_,cs0,k1,k2⟩
      obtain ⟨_,cs0,k1,_⟩:=h0
      obtain ⟨_,k2⟩:=G0 k1
      obtain ⟨v,_,k3⟩:=k2 0 hpos
      have hadd:(a.add 0).add 0=a:=by simp [Addr.add]
      rw [hadd] at k3
      unfold World.cell? at k3
      split at k3
      ·rename_i c T fz hh
       split at k3
       ·cases k3
       ·rename_i hsp
        exact ⟨by simpa using hsp,c,T,fz,hh⟩
      ·cases k3
     obtain ⟨hsp,c,T,fz,hh⟩:=hblk
     have H1:∀i,∃p:List Value × List AV,i<len->(w.cells? 0 (a.add (i*P.cellsOf e)) (P.cellsOf e)=some p.1/\p.2.length=p.1.length/\p.1.length=P.cellsOf e/\TC P n e p.2 /\
       ∀j (h:j<p.2.length),∃v,p.1[j]?=some v/\v.oneCell'=true/\aL w (fun b=>b<w.heap.size) az.none v p.2[j]):=by
      intro i
      by_cases hi:i<len
      ·have:=hget i hi
       rw [List.getElem?_eq_getElem (show i<elems.length by omega)] at this
       simp only [Option.bind_eq_some_iff] at this
       obtain ⟨cs0,k1,k2⟩:=this
       obtain ⟨ls,q1,q2,q3,q4⟩:=ih m e cs0 _ hpe k2
       exact ⟨(cs0,ls),fun _=>⟨k1,q1,q2,q3,q4⟩⟩
      ·exact ⟨([],[]),fun h=>absurd h hi⟩
     obtain ⟨F,hF⟩:=Classical.axiomOfChoice H1
     obtain ⟨b0,o0,s0⟩:=a
     simp only at hsp hh
     subst hsp
     have hlen:((List.range len).map fun i=>fP P e (F i).2).length=len:=by simp
     refine fin (.slice (some ⟨b0,o0,none⟩) len cap) (.fs (P.cellsOf e) ((List.range len).map fun i=>fP P e (F i).2)) rfl ?_ ?_
     ·have hV:=aL.fs (w:=w) (OK:=fun b=>b<w.heap.size) az.none b0 o0 cap (P.cellsOf e) T c fz ((List.range len).map fun i=>fP P e (F i).2)
       (fun i=>if qA P e then .agg (F i).1.toArray else (F i).1.headD undef) (Array.getElem?_eq_some_iff.1 hh).1 hh (by rw [hlen]; exact hl) (fun i hi=>?_) (fun i hi=>?_) (fun i hi j hj=>?_)
      ·rw [hlen] at hV; exact hV
      ·obtain ⟨_,k2,k3,_,k5⟩:=hF i (by rwa [hlen] at hi)
       simp only [List.getElem_map,List.getElem_range,fP]
       split
       ·refine .agg _ _ _ (by simp [k2]) (fun j=>(F i).1.getD j undef) (fun j hj=>?_) (fun j hj=>?_)
        ·obtain ⟨v,e1,e2,_⟩:=k5 j hj
         simp [List.getD_eq_getElem?_getD,e1,e2]
        ·obtain ⟨v,e1,_,e3⟩:=k5 j hj
         simpa [List.getD_eq_getElem?_getD,e1] using e3
       ·have h0:0<(F i).2.length:=by omega
        obtain ⟨v,e1,e2,e3⟩:=k5 0 h0
        have e4:(F i).1.headD undef=v:=by
         cases hF1:(F i).1 with
         | nil=>rw [hF1] at e1; simp at e1
         | cons y r=>rw [hF1] at e1; simpa using e1
        rw [e4,vf _ _ h0]; exact e3
      ·obtain ⟨_,k2,k3,_,k5⟩:=hF i (by rwa [hlen] at hi)
       split
       ·refine ⟨by simp [Value.cells,k3],fun y hy=>?_⟩
        simp only [Value.cells] at hy
        obtain ⟨j,hj,rfl⟩:=List.mem_iff_getElem.1 hy
        obtain ⟨v,e1,e2,_⟩:=k5 j (by rw [k2]; simpa using hj)
        have:(F i).1[j]'(by simpa using hj)=v:=by rw [List.getElem?_eq_getElem (by simpa using hj)] at e1; simpa using e1
        simpa [this] using e2
       ·rename_i hagg
        have h0:0<(F i).2.length:=by omega
        obtain ⟨v,e1,e2,e3⟩:=k5 0 h0
        have e4:(F i).1.headD undef=v:=by
         cases hF1:(F i).1 with
         | nil=>rw [hF1] at e1; simp at e1
         | cons y r=>rw [hF1] at e1; simpa using e1
        have hc1':P.cellsOf e=1:=kn hpe (by simpa using hagg)
        rw [e4]
        cases v <;> simp [Value.oneCell'] at e2 <;> simp [Value.cells,bT,hc1',Value.oneCell']
      ·obtain ⟨k1,k2,k3,_,k5⟩:=hF i (by rwa [hlen] at hi)
       obtain ⟨_,q⟩:=G0 k1
       obtain ⟨v,q1,q2⟩:=q j hj
       rw [qt _ _ _ rfl] at q2
       simp only [World.cell?,hh,Option.isSome_none,Bool.false_eq_true,if_false] at q2
       rw [q2]
       split
       ·simp [Value.cells,q1]
       ·rename_i hagg
        have hc1':P.cellsOf e=1:=kn hpe (by simpa using hagg)
        obtain rfl:j=0:=by omega
        obtain ⟨v',e1,e2,_⟩:=k5 0 (by omega)
        have e4:(F i).1.headD undef=v:=by
         cases hF1:(F i).1 with
         | nil=>rw [hF1] at q1; simp at q1
         | cons y r=>rw [hF1] at q1; simpa using q1
        obtain rfl:v=v':=Option.some.inj (q1.symm.trans e1)
        rw [e4]
        cases v <;> simp [Value.oneCell'] at e2 <;> rfl
     ·simp only [TC,hu]
      refine .inr ⟨_,rfl,?_,fun y hy=>?_⟩
      ·have h2:maxLen=9223372036854775807:=by decide
       rw [hlen]; omega
      ·simp only [List.mem_map,List.mem_range] at hy
       obtain ⟨i,hi,rfl⟩:=hy
       obtain ⟨_,k2,k3,k4,_⟩:=hF i hi
       exact ⟨_,k4,by omega,rfl⟩
  ·
   rename_i fs hu
   simp only [Bool.and_eq_true,List.all_eq_true] at hp
   obtain ⟨hp1,hp2⟩:=hp
   obtain ⟨xs,m,rfl,_,hcl,hxl,hall⟩:=DataW.trod_struct hu h
   have key:∀(r:List Field) (k:Nat),mV P k r (P.cellsOf t)=true->(∀f∈r,en P n f.type=true/\∃y,DataW.trod enc P w 0 (fun _=>true) held m f.type ((cs.drop f.offset).take (P.cellsOf f.type))=some y) ->
     k<=P.cellsOf t/\∃ls:List AV,k+ls.length=P.cellsOf t/\TCs P (TC P n) r ls/\∀i (h:i<ls.length),∃v,cs[k+i]?=some v/\v.oneCell'=true/\aL w (fun b=>b<w.heap.size) az.none v ls[i]:=by
    intro r
    induction r with
    | nil=>
     intro k hk _
     simp only [mV,beq_iff_eq] at hk
     exact ⟨by omega,[],by simpa using hk,rfl,fun i hi=>by simp at hi⟩
    | cons f r ihr=>
     intro k hk hf
     simp only [mV,Bool.and_eq_true,beq_iff_eq] at hk
     obtain ⟨hko,hk⟩:=hk
     obtain ⟨hle,ls2,l1,l2,l3⟩:=ihr _ hk (fun g hg=>hf g (by simp [hg]))
     obtain ⟨hpf,y,hy⟩:=hf f (by simp)
     obtain ⟨ls1,q1,q2,q3,q4⟩:=ih m _ _ _ hpf hy
     refine ⟨by omega,ls1++ls2,by simp; omega,⟨ls1,ls2,rfl,q3,by omega,l2⟩,fun i hi=>?_⟩
     by_cases h1:i<ls1.length
     ·obtain ⟨v,e1,e2,e3⟩:=q4 i h1
      refine ⟨v,?_,e2,by rw [List.getElem_append_left h1]; exact e3⟩
      rw [List.getElem?_take_of_lt (by omega),List.getElem?_drop] at e1
      rw [<-hko]; exact e1
     ·have hi2:i-ls1.length<ls2.length:=by simp at hi; omega
      obtain ⟨v,e1,e2,e3⟩:=l3 (i-ls1.length) hi2
      refine ⟨v,?_,e2,by rw [List.getElem_append_right (by omega)]; exact e3⟩
      rw [<-e1]; congr 1; omega
   obtain ⟨_,ls,l1,l2,l3⟩:=key fs.toList 0 hp2 (fun f hf=>⟨hp1 f hf,by
    obtain ⟨i,hi,rfl⟩:=List.mem_iff_getElem.1 hf
    have hi':i<fs.size:=by simpa using hi
    have:=hall i fs[i] (by simp [hi'])
    rw [List.getElem?_eq_getElem (show i<xs.length by omega)] at this
    exact ⟨_,by simpa using this⟩⟩)
   refine ⟨ls,by omega,hcl,by simp only [TC,hu]; exact l2,fun i hi=>?_⟩
   obtain ⟨v,e1,e2,e3⟩:=l3 i hi
   exact ⟨v,by simpa using e1,e2,e3⟩
  ·
   rename_i m' e hu
   simp only [Bool.and_eq_true,beq_iff_eq] at hp
   obtain ⟨⟨hsz,hpos⟩,hpe⟩:=hp
   obtain ⟨xs,m,rfl,_,hcl,hxl,hall⟩:=DataW.trod_array hu h
   have key:∀(r k:Nat),k+r=m'->∃ls:List AV,ls.length=r*P.cellsOf e/\TCa (TC P n e) (P.cellsOf e) r ls/\∀i (h:i<ls.length),∃v,cs[k*P.cellsOf e+i]?=some v/\v.oneCell'=true/\aL w (fun b=>b<w.heap.size) az.none v ls[i]:=by
    intro r
    induction r with
    | zero=>intro k _; exact ⟨[],by simp,rfl,fun i hi=>by simp at hi⟩
    | succ r ihr=>
     intro k hk
     obtain ⟨ls2,l1,l2,l3⟩:=ihr (k+1) (by omega)
     have hy:=hall k (by omega)
     rw [List.getElem?_eq_getElem (show k<xs.length by omega)] at hy
     obtain ⟨ls1,q1,q2,q3,q4⟩:=ih m _ _ _ hpe hy
     refine ⟨ls1++ls2,by simp [l1,q1,q2,Nat.add_mul]; omega,⟨ls1,ls2,rfl,q3,by omega,l2⟩,fun i hi=>?_⟩
     by_cases h1:i<ls1.length
     ·obtain ⟨v,e1,e2,e3⟩:=q4 i h1
      refine ⟨v,?_,e2,by rw [List.getElem_append_left h1]; exact e3⟩
      rw [List.getElem?_take_of_lt (by omega),List.getElem?_drop] at e1
      exact e1
     ·have hi2:i-ls1.length<ls2.length:=by simp at hi; omega
      obtain ⟨v,e1,e2,e3⟩:=l3 (i-ls1.length) hi2
      refine ⟨v,?_,e2,by rw [List.getElem_append_right (by omega)]; exact e3⟩
      rw [<-e1]; congr 1; rw [Nat.add_mul]; omega
   obtain ⟨ls,l1,l2,l3⟩:=key m' 0 (by omega)
   refine ⟨ls,by omega,hcl,by simp only [TC,hu]; exact l2,fun i hi=>?_⟩
   obtain ⟨v,e1,e2,e3⟩:=l3 i hi
   exact ⟨v,by simpa using e1,e2,e3⟩
  ·cases hp
theorem zO {n:Nat} {t:TypeId} {v:Value} {d:DataW H} {ps:List MemPlace} (hp:en P n t=true) (hv:qA P t=true->∃cs,v=.agg cs) (hv':qA P t=false->v.oneCell'=true) (h:DataW.Trod enc P w 0 (fun _=>true) held t v d ps) :
  ∃a,TA P n t a/\aL w (fun b=>b<w.heap.size) az.none v a:=by
 obtain ⟨fuel,h⟩:=h
 obtain ⟨ls,h1,h2,h3,h4⟩:=ua n fuel t _ _ hp h
 refine ⟨_,⟨ls,h3,by omega,rfl⟩,?_⟩
 unfold fP
 cases ha:qA P t with
 | true=>
  obtain ⟨cs,rfl⟩:=hv ha
  rw [if_pos rfl]
  simp only [Value.cells] at h1 h4
  refine .agg _ _ _ (by simpa using h1.symm) (fun i=>cs.getD i undef) (fun i hi=>?_) (fun i hi=>?_)
  ·obtain ⟨v,e1,e2,_⟩:=h4 i hi
   have e1':cs[i]?=some v:=by simpa using e1
   simp [Array.getD_eq_getD_getElem?,e1',e2]
  ·obtain ⟨v,e1,_,e3⟩:=h4 i hi
   have e1':cs[i]?=some v:=by simpa using e1
   simpa [Array.getD_eq_getD_getElem?,e1'] using e3
 | false=>
  have hone:=hv' ha
  have hc:v.cells.toList=[v]:=by cases v <;> simp [Value.oneCell'] at hone <;> rfl
  rw [hc] at h1 h4
  simp only [Bool.false_eq_true,if_false]
  match ls,h1,h4 with
  | [a],_,h4=>
   obtain ⟨v',e1,_,e3⟩:=h4 0 (by simp)
   simp only [List.getElem?_cons_zero,Option.some.injEq] at e1
   subst e1
   exact e3
end
open Go.ChangeShapes Go.WideShapes Go.RowKit
def eF (P:Program) (n:Nat):List TypeId->List AV->Prop
 | [],[]=>True
 | t :: ts,a :: r=>TA P n t a/\eF P n ts r
 | _,_=>False
theorem IM {W W':World} {OK OK':Nat->Prop} (h:Ext W OK az.none W' OK' az.none) (may:MemPlace->Prop):W.keptBut W' may:=by
 refine ⟨h.os,h.output,fun i hi=>?_⟩
 have e:=h.blk i hi (fun _ _ (hx:_∈[])=>by cases hx)
 rw [e]
 cases W.heap[i]? with
 | none=>rfl
 | some o=>cases o <;> first | exact ⟨rfl,rfl,rfl,fun _ _=>rfl⟩ | exact .inr ⟨rfl,rfl⟩ | rfl
section
variable {H:Type} {enc:TypeId × Value->H} {P:Program}
theorem s9 {w:World} {r:Reach} {b:Nat} {t:TypeId} {v:Value} (h:Value.okWide P w r b t v) (ha:qA P t=true):∃cs,v=.agg cs:=by
 unfold qA at ha
 unfold Value.okWide at h
 split at ha
 ·rename_i hu; rw [hu] at h; obtain ⟨cs,h,_⟩:=h; exact ⟨cs,h⟩
 ·rename_i hu; rw [hu] at h; obtain ⟨cs,h,_⟩:=h; exact ⟨cs,h⟩
 ·cases ha
theorem s8 {w:World} {r:Reach} {b:Nat} {n:Nat} {t:TypeId} {v:Value} (h:Value.okWide P w r b t v) (hp:en P n t=true) (ha:qA P t=false):v.oneCell'=true:=by
 cases n with
 | zero=>cases hp
 | succ n=>
  unfold en at hp
  unfold qA at ha
  unfold Value.okWide Cell.okWide Cell.ok at h
  cases hu:P.underlying t with
  | none=>rw [hu] at hp; cases hp
  | some d=>
   rw [hu] at h hp ha
   cases d <;> simp only [reduceCtorEq,Bool.false_eq_true] at hp ha <;> cases v <;> simp_all [Value.oneCell']
theorem ql {W:World} {n:Nat}:∀(ts:List TypeId) (vs:List Value) (ds:List (DataW H)) (ps:List MemPlace),(∀t∈ts,en P n t=true)->(∀(j:Nat) t v,ts[j]?=some t->vs[j]?=some v->∃r b,Value.okWide P W r b t v) ->
  DataW.TrodAll enc P W 0 (fun _=>true) true ts vs ds ps->ds.length=ts.length/\∃ls,eF P n ts ls/\bo W (fun b=>b<W.heap.size) az.none vs ls
 | [],[],[],ps,_,_,_=>⟨rfl,[],trivial,trivial⟩
 | t :: ts,v :: vs,d :: ds,ps,hp,hv,h=>by
  obtain ⟨p,q,h1,h2,_⟩:=h
  obtain ⟨r,b,hv0⟩:=hv 0 t v rfl rfl
  obtain ⟨a,ha1,ha2⟩:=zO (hp t (by simp)) (s9 hv0) (s8 hv0 (hp t (by simp))) h1
  obtain ⟨hl,ls,h3,h4⟩:=ql ts vs ds q (fun u hu=>hp u (by simp [hu])) (fun j t' v' e1 e2=>hv (j+1) t' v' (by simpa using e1) (by simpa using e2)) h2
  exact ⟨by simp [hl],a :: ls,⟨ha1,h3⟩,⟨ha2,h4⟩⟩
 | [],[],_ :: _,_,_,_,h=>h.elim
 | [],_ :: _,_,_,_,_,h=>h.elim
 | _ :: _,[],_,_,_,_,h=>h.elim
 | _ :: _,_ :: _,[],_,_,_,h=>h.elim
theorem qm {W W':World} {sp:Nat->Bool} (hl:laidOutB P=true):∀(ts:List TypeId) (vs:List Value) (ds:List (DataW H)) (ps:List MemPlace),(∀t∈ts,P.readableRec t=true/\t<P.types.size) ->
  (∀p∈ps,W.sameAt W' p/\sp p.block=true)->DataW.TrodAll enc P W 0 (fun _=>true) true ts vs ds ps->DataW.TrodAll enc P W' 0 sp true ts vs ds ps
 | [],[],[],ps,_,_,h=>h
 | t :: ts,v :: vs,d :: ds,ps,hp,hs,h=>by
  obtain ⟨p,q,h1,h2,rfl⟩:=h
  exact ⟨p,q,WideElems.Trod_stays hl (hp t (by simp)).1 (hp t (by simp)).2 h1 (fun x hx=>(hs x (by simp [hx])).1) (fun x hx=>(hs x (by simp [hx])).2),
   qm hl ts vs ds q (fun u hu=>hp u (by simp [hu])) (fun x hx=>hs x (by simp [hx])) h2,rfl⟩
 | [],[],_ :: _,_,_,_,h=>h.elim
 | [],_ :: _,_,_,_,_,h=>h.elim
 | _ :: _,[],_,_,_,_,h=>h.elim
 | _ :: _,_ :: _,[],_,_,_,h=>h.elim
theorem s4 {W W':World} {OK OK':Nat->Prop} (h:Ext W OK az.none W' OK' az.none) (p:MemPlace) (hp:p.block<W.heap.size):W.sameAt W' p:=by
 cases p with
 | cell b off=>
  have e:=h.blk b hp (fun _ _ (hx:_∈[])=>by cases hx)
  simp only [World.sameAt,World.cell?,e]
 | map b=>exact h.blk b hp (fun _ _ (hx:_∈[])=>by cases hx)
theorem pL {f:FuncId} {fn:Func} {G:Nat->Option (List AV)} {n:Nat} {M:aG} (hs:ak P G f M) (hM:∀args,eF P n fn.params.toList args->M args=some (.bool true))
  {Dz:ChangeSpec} (hspec:∀ds:List (DataW H),ds.length=fn.params.toList.length->Dz.fn H ds={results:=[.lit (.bool true)],args:=ds}) (hvars:Dz.vars=[])
  (hp:fn.params.toList.all (fun t=>en P n t && P.readableRec t && Nat.blt t P.types.size)=true) (hl:laidOutB P=true) {tb:TypeId} (hres:fn.resultTypes=#[tb]) (hb:P.underlying tb=some .bool)
  {W:World} {base:Nat} {args:Array Value} {ds gs:List (DataW H)} {before:List MemPlace} (hval:∀(j:Nat) t v,fn.params[j]?=some t->args[j]?=some v->Value.okWide P W .any base t v)
  (hW:DataW.Whole enc P fn.params.toList Dz.vars false W args.toList ds gs before) (hG:wO G W (fun b=>b<W.heap.size)) :
  Calls P f args W fun e W'=>∃v,e=.returned v/\Dz.post enc P fn false true false false W args v W':=by
 have hW':=hW
 have hlt:=hW.lt
 obtain ⟨p,q,hA,hV,rfl,hfz,hnd⟩:=hW
 rw [hvars] at hV
 obtain ⟨rfl,rfl⟩:=trodVars_none hV
 rw [List.all_eq_true] at hp
 have hp':∀t∈fn.params.toList,en P n t=true/\P.readableRec t=true/\t<P.types.size:=fun t ht=>by
  have:=hp t ht
  simp only [Bool.and_eq_true] at this
  exact ⟨this.1.1,this.1.2,by simpa [Nat.blt_eq] using this.2⟩
 obtain ⟨hdl,ls,h1,h2⟩:=ql (n:=n) _ _ _ _ (fun t ht=>(hp' t ht).1) (fun j t v e1 e2=>⟨_,_,hval j t v (by simpa using e1) (by simpa using e2)⟩) hA
 have hc:=hs.2 ls _ (hM ls h1) W (fun b=>b<W.heap.size) args.toList (fun _ h=>h) hG h2
 rw [Array.toArray_toList] at hc
 refine hc.mono ?_
 rintro e W1 ⟨v,OK',rfl,hv,_,hx⟩
 obtain rfl:=hv.inv_bool
 refine ⟨_,rfl,ds,[],p++[],[],p,[],hW',?_,?_,?_,IM hx _,fun h=>by cases h⟩
 ·rw [List.append_nil,hspec ds hdl,hres]
  exact trodAll_cons_mk (shut_bool hb _) trodAll_mk0
 ·rw [List.append_nil,hspec ds hdl]
  exact qm hl _ _ _ _ (fun t ht=>(hp' t ht).2) (fun x hx'=>⟨s4 hx x (hlt x (by simp [hx'])),by simpa using hlt x (by simp [hx'])⟩) hA
 ·rw [List.append_nil,hspec ds hdl,hvars]
  rfl
variable {n:Nat} {t e:TypeId} {a:AV}
theorem og {d:TypeDesc} (hu:P.underlying t=some d) (h:(match d with | .struct _=>true | .array _ _=>true | _=>false)=false):qA P t=false:=by
 unfold qA; rw [hu]
 cases d <;> simp_all
theorem TA.int {k:IntKind} (hu:P.underlying t=some (.int k)) (h:TA P n t a):∃z,a=.int k z/\k.min<=z/\z<=k.max:=by
 obtain ⟨xs,h1,_,rfl⟩:=h
 cases n with
 | zero=>exact h1.elim
 | succ n=>
  simp only [TC,hu] at h1
  obtain ⟨z,rfl,h2⟩:=h1
  exact ⟨z,by simp [fP,og hu rfl],h2⟩
theorem TA.i64 (hu:P.underlying t=some (.int .i64)) (h:TA P n t a):∃z,a=.int .i64 z/\inI z:=by
 obtain ⟨z,h1,h2,h3⟩:=TA.int hu h
 exact ⟨z,h1,h2,h3⟩
theorem TA.slice (hu:P.underlying t=some (.slice e)) (h:TA P (n+1) t a):a=.nilS\/∃es,a=.fs (P.cellsOf e) es/\es.length<=9223372036854775807/\∀x∈es,TA P n e x:=by
 obtain ⟨xs,h1,_,rfl⟩:=h
 simp only [TC,hu] at h1
 have hw:∀x,fP P t [x]=x:=fun x=>by simp [fP,og hu rfl]
 rcases h1 with rfl | ⟨es,rfl,h2,h3⟩
 ·exact .inl (hw _)
 ·exact .inr ⟨es,hw _,h2,h3⟩
theorem TA.agg (ha:qA P t=true) (h:TA P n t a):∃xs,a=.agg xs/\TC P n t xs/\xs.length=P.cellsOf t:=by
 obtain ⟨xs,h1,h2,rfl⟩:=h
 exact ⟨xs,by simp [fP,ha],h1,h2⟩
theorem eF.cons {ts:List TypeId} {args:List AV} (h:eF P n (t :: ts) args):∃a r,args=a :: r/\TA P n t a/\eF P n ts r:=by
 cases args with
 | nil=>exact h.elim
 | cons a r=>exact ⟨a,r,rfl,h.1,h.2⟩
theorem eF.nil {args:List AV} (h:eF P n [] args):args=[]:=by
 cases args with
 | nil=>rfl
 | cons a r=>exact h.elim
end
def SlA (esz:Nat) (xs:List AV) (a:AV):Prop:=(a=.nilS/\xs=[])\/a=.fs esz xs
section
variable {esz:Nat} {xs:List AV} {a:AV} {A:ac}
theorem SlA.len (h:SlA esz xs a):ay a=some (.int .i64 (xs.length:Int)):=by
 rcases h with ⟨rfl,rfl⟩ | rfl <;> rfl
theorem SlA.index (h:SlA esz xs a) {i:Nat} {x:AV} (hx:xs[i]?=some x) (hs:x.solid=true) (he:0<esz) (k:IntKind):au esz A a (.int k (i:Int))=some (.fp (cellsOf x)):=by
 rcases h with ⟨rfl,rfl⟩ | rfl
 ·simp at hx
 ·simp [au,hx,hs,he,-AV.solid]
theorem SlA.index1 (h:SlA 1 xs a) {i:Nat} {x:AV} (hx:xs[i]?=some x) (hs:x.solid=true) (hc:cellsOf x=[x]) (k:IntKind):au 1 A a (.int k (i:Int))=some (.fp [x]):=by
 rw [h.index hx hs (by omega),hc]
theorem SlA.int (zs:List Int) (k:IntKind) (h:SlA 1 (zs.map (.int k)) a) {i:Nat} {z:Int} (hz:zs[i]?=some z) (k':IntKind):au 1 A a (.int k' (i:Int))=some (.fp [.int k z]):=
 h.index1 (by simp [hz]) rfl rfl k'
theorem SlA.frz (h:SlA esz xs a) (n:Nat):frz A n a=a:=by
 rcases h with ⟨rfl,rfl⟩ | rfl <;> cases n <;> rfl
theorem jg {α:Type} {f:α->AV} {p:α->Prop}:∀ {l:List AV},(∀x∈l,∃z,x=f z/\p z)->∃zs:List α,l=zs.map f/\∀z∈zs,p z
 | [],_=>⟨[],rfl,fun _ h=>by cases h⟩
 | x :: l,h=>by
  obtain ⟨z,rfl,hz⟩:=h x (by simp)
  obtain ⟨zs,rfl,hzs⟩:=jg (l:=l) (fun y hy=>h y (by simp [hy]))
  exact ⟨z :: zs,rfl,fun y hy=>by
   rcases List.mem_cons.1 hy with rfl | hy
   ·exact hz
   ·exact hzs y hy⟩
variable {P:Program} {n:Nat} {t e:TypeId}
theorem TA.sl (hu:P.underlying t=some (.slice e)) (h:TA P (n+1) t a):∃es,SlA (P.cellsOf e) es a/\es.length<=9223372036854775807/\∀x∈es,TA P n e x:=by
 rcases TA.slice hu h with rfl | ⟨es,h1,h2,h3⟩
 ·exact ⟨[],.inl ⟨rfl,rfl⟩,by simp,fun _ h=>by cases h⟩
 ·exact ⟨es,.inr h1,h2,h3⟩
end
theorem xK (a b:Nat) (k k':IntKind):gm false (.int k (a:Int)) (.int k' (b:Int))=some (.int k ((min a b:Nat):Int)):=by
 unfold gm
 simp only [Bool.false_eq_true,if_false]
 congr 2
 split <;> omega
theorem xP (a b:Nat) (k k':IntKind):gm true (.int k (a:Int)) (.int k' (b:Int))=some (.int k ((max a b:Nat):Int)):=by
 unfold gm
 simp only [if_true]
 congr 2
 split <;> omega
theorem pR {A:ac}:∀(n:Nat) (a:AV),bq n a=true->frz A n a=a
 | 0,a,h=>by cases a <;> simp_all [bq,frz]
 | n+1,a,h=>by
  have ih:=pR (A:=A) n
  have hm:∀cs:List AV,(∀x∈cs,bq n x=true)->cs.map (frz A n)=cs:=fun cs hc=>by
   conv=>rhs; rw [<-List.map_id cs]
   exact List.map_congr_left fun x hx=>ih x (hc x hx)
  cases a <;> simp only [bq,Bool.false_eq_true,List.all_eq_true,Bool.and_eq_true] at h <;> simp only [frz]
  ·rw [hm _ h]
  ·rw [hm _ h]
  ·rw [hm _ h.1,hm _ h.2]
  ·rw [ih _ h]
theorem ma {w:World} {OK OK2:Nat->Prop} {g g2:az} {n:Nat} {a:AV} {v:Value} (hn:bq n a=true) (h:aL w OK g v a) (hok:∀b,OK b->OK2 b):aL w OK2 g2 v a:=by
 have:=md (A:=[]) n a v hn h
 rw [pR n a hn] at this
 exact this.mono hok (fun _ _=>rfl) _ g2.none_le
def lD (n:Nat):Ent->Bool
 | .row _ _ es=>es.all (bq n)
 | .map kvs=>kvs.all fun x=>bq n x.1 && bq n x.2
 | .loop ..=>true
 | .dead=>false
theorem kZ.noRef {w:World} {OK OK2:Nat->Prop} {g g2:az} {n:Nat} {incs:List Inc} {e:Ent} (h:kZ w OK g incs e) (hn:lD n e=true) (hok:∀b,OK b->OK2 b):kZ w OK2 g2 incs e:=by
 cases e with
 | row s gr es=>
  simp only [lD,List.all_eq_true] at hn
  refine ⟨h.1,fun inc hi=>?_⟩
  obtain ⟨h1,h2,h3,c,T,fz,h4,h5,h6,h7⟩:=h.2 inc hi
  refine ⟨h1,h2,h3,c,T,fz,h4,h5,h6,fun i hi hn'=>?_⟩
  obtain ⟨v,k1,k2,k3⟩:=h7 i hi hn'
  exact ⟨v,ma (hn _ (List.getElem_mem _)) k1 hok,k2,k3⟩
 | map kvs=>
  simp only [lD,List.all_eq_true,Bool.and_eq_true] at hn
  obtain ⟨inc,rfl,es,clock,h1,h2,hst,h3⟩:=h
  refine ⟨inc,rfl,es,clock,h1,h2,hst,fun i hi=>?_⟩
  obtain ⟨e,e1,e2,e3⟩:=h3 i hi
  have:=hn _ (List.getElem_mem hi)
  exact ⟨e,e1,ma this.1 e2 hok,ma this.2 e3 hok⟩
 | loop r k=>exact h
 | dead=>trivial
section
variable {P:Program} {G:Nat->Option (List AV)}
theorem bK.killFirst {w:World} {OK:Nat->Prop} {g:az} {A:ac} (h:bK w OK g A) (k:Nat) (hk:k<=A.length):bK w OK g (List.replicate k .dead++A.drop k):=by
 have hl:(List.replicate k Ent.dead++A.drop k).length=A.length:=by simp; omega
 have hlt:∀id,id<k->(List.replicate k Ent.dead++A.drop k)[id]?=some .dead:=fun id hid=>by
  rw [List.getElem?_append_left (by simpa using hid)]; simp [hid]
 have hge:∀id,k<=id->(List.replicate k Ent.dead++A.drop k)[id]?=A[id]?:=fun id hid=>by
  rw [List.getElem?_append_right (by simpa using hid)]
  simp only [List.length_replicate,List.getElem?_drop]
  congr 1; omega
 have hlive:∀id,(List.replicate k Ent.dead++A.drop k)[id]?≠some Ent.dead->A[id]?≠some Ent.dead:=fun id hd=>by
  by_cases e:id<k
  ·exact absurd (hlt id e) hd
  ·rwa [hge id (by omega)] at hd
 refine ⟨fun id hid=>?_,fun id hid=>h.out id (by omega),fun id id' i i' hd hd'=>h.one id id' i i' (hlive _ hd) (hlive _ hd'),h.apart,h.low,h.ok⟩
 by_cases e:id<k
 ·have:=hlt id e
  rw [List.getElem?_eq_getElem hid] at this
  injection this with this
  rw [this]; trivial
 ·have:=hge id (by omega)
  rw [List.getElem?_eq_getElem hid,List.getElem?_eq_getElem (by omega)] at this
  injection this with this
  rw [this]; exact h.ent id (by omega)
open Classical in
def ze (n:Nat) (M:qu):qu:=fun args A=>
 match M args A with
 | some (r,A')=>if A'.take A.length=A/\A.all (lD n)=true then some (frz (List.replicate A.length .dead++A'.drop A.length) n r,A) else none
 | none=>none
theorem eA.fresh {f:FuncId} {M:qu} (h:eA P G f M) (n:Nat):eA P G f (ze n M):=by
 refine ⟨h.1,fun args A r A1 he w OK g vs hA hG hl=>?_⟩
 unfold ze at he
 split at he
 ·rename_i r0 A' hM
  simp only [Option.ite_none_right_eq_some,Option.some.injEq,Prod.mk.injEq] at he
  obtain ⟨⟨htk,hall⟩,rfl,rfl⟩:=he
  refine (h.2 args A r0 A' hM w OK g vs hA hG hl).mono ?_
  rintro e w' ⟨v,OK',g',rfl,hv,hA',hx⟩
  rw [List.all_eq_true] at hall
  have hlen:A.length<=A'.length:=by
   have:=congrArg List.length htk
   simp at this; omega
  have hold:∀id,id<A.length->A'[id]?=A[id]?:=fun id hid=>by
   have:=congrArg (fun l:ac=>l[id]?) htk
   simp only [List.getElem?_take_of_lt hid] at this
   exact this
  have hlive:∀id,id<A.length->A'[id]?≠some .dead:=fun id hid e=>by
   rw [hold id hid,List.getElem?_eq_getElem hid] at e
   injection e with e
   have:=hall _ (List.getElem_mem hid)
   rw [e] at this; cases this
  have hge:∀id,A.length<=id->(List.replicate A.length Ent.dead++A'.drop A.length)[id]?=A'[id]?:=fun id hid=>by
   rw [List.getElem?_append_right (by simpa using hid)]
   simp only [List.length_replicate,List.getElem?_drop]
   congr 1; omega
  have hin:∀id,id<A.length->(List.replicate A.length Ent.dead++A'.drop A.length)[id]?=some .dead:=fun id hid=>by
   rw [List.getElem?_append_left (by simpa using hid)]; simp [hid]
  have hnew:∀id inc,A.length<=id->A'[id]?≠some .dead->inc∈g' id->w.heap.size<=inc.b:=fun id inc hid hd hi=>by
   rcases hx.fresh id inc hi with ⟨id0,inc0,h0,h1⟩ | h1
   ·exfalso
    have hid0:id0<A.length:=by
     rcases Nat.lt_or_ge id0 A.length with h | h
     ·exact h
     ·rw [hA.out id0 h] at h0; cases h0
    obtain ⟨n',_,hm⟩:=hx.gle id0 inc0 h0
    have:=(hA'.one id id0 inc _ hd (hlive id0 hid0) hi hm h1.symm).1
    omega
   ·exact h1
  obtain ⟨OK2,hOK2⟩:∃OK2:Nat->Prop,∀b,OK2 b↔(OK' b\/∃id inc,A.length<=id/\A'[id]?≠some Ent.dead/\inc∈g' id/\inc.b=b):=⟨_,fun _=>Iff.rfl⟩
  obtain ⟨g2,hg2,hg2'⟩:∃g2:az,(∀id,id<A.length->g2 id=g' id)/\∀id,A.length<=id->g2 id=[]:=
   ⟨fun id=>if id<A.length then g' id else [],fun id hid=>by simp [hid],fun id hid=>by simp [Nat.not_lt.2 hid]⟩
  have hlt2:∀id inc,inc∈g2 id->id<A.length:=fun id inc hi=>by
   rcases Nat.lt_or_ge id A.length with h | h
   ·exact h
   ·rw [hg2' id h] at hi; cases hi
  refine ⟨v,OK2,g2,rfl,?_,⟨fun id hid=>?_,hg2',fun id id' i i' hd hd' hi hi' e=>?_,fun id inc hi ho=>?_,fun id inc hi=>?_,fun b hb=>?_⟩,?_⟩
  ·have:=jq (OK2:=OK2) (hA'.killFirst A.length hlen) (fun b hb=>(hOK2 b).2 (.inl hb)) (fun id inc hd hi=>(hOK2 _).2 (.inr (by
    rcases Nat.lt_or_ge id A.length with h | h
    ·exact absurd (hin id h) hd
    ·rw [hge id h] at hd
     exact ⟨id,inc,h,hd,hi,rfl⟩))) n r0 v hv
   exact this.mono (fun _ h=>h) (fun _ _=>rfl) _ g2.none_le
  ·have h1:=hA'.ent id (by omega)
   have h2:=hold id hid
   rw [List.getElem?_eq_getElem hid,List.getElem?_eq_getElem (by omega)] at h2
   injection h2 with h2
   rw [h2] at h1
   rw [hg2 id hid]
   exact h1.noRef (hall _ (List.getElem_mem hid)) (fun b hb=>(hOK2 b).2 (.inl hb))
  ·have k1:=hlt2 _ _ hi
   have k2:=hlt2 _ _ hi'
   rw [hg2 _ k1] at hi
   rw [hg2 _ k2] at hi'
   exact hA'.one id id' i i' (hlive _ k1) (hlive _ k2) hi hi' e
  ·have k1:=hlt2 _ _ hi
   rw [hg2 _ k1] at hi
   rcases (hOK2 _).1 ho with h1 | ⟨id',inc',h1,h2,h3,h4⟩
   ·exact hA'.apart _ _ hi h1
   ·have:=(hA'.one id' id inc' inc h2 (hlive _ k1) h3 hi h4).1
    omega
  ·have k1:=hlt2 _ _ hi
   rw [hg2 _ k1] at hi
   exact hA'.low _ _ hi
  ·rcases (hOK2 _).1 hb with h1 | ⟨id',inc',h1,h2,h3,rfl⟩
   ·exact hA'.ok _ h1
   ·exact hA'.low _ _ h3
  ·refine {os:=hx.os,tape:=hx.tape,output:=hx.output,size:=hx.size,blk:=hx.blk,gle:=fun id inc hi=>?_,okle:=fun b hb=>(hOK2 b).2 (.inl (hx.okle b hb)),fresh:=fun id inc hi=>?_,okf:=fun b hb=>?_,loops:=hx.loops,fix:=fun id inc hi h0=>?_}
   ·have k:id<A.length:=by
     rcases Nat.lt_or_ge id A.length with h | h
     ·exact h
     ·rw [hA.out id h] at hi; cases hi
    rw [hg2 id k]
    exact hx.gle id inc hi
   ·have k1:=hlt2 _ _ hi
    rw [hg2 _ k1] at hi
    exact hx.fresh _ _ hi
   ·rcases (hOK2 _).1 hb with h1 | ⟨id',inc',h1,h2,h3,rfl⟩
    ·exact hx.okf _ h1
    ·exact .inr (hnew _ _ h1 h2 h3)
   ·have k:id<A.length:=by
     rcases Nat.lt_or_ge id A.length with h | h
     ·exact h
     ·rw [hA.out id h] at hi; cases hi
    rw [hg2 id k]
    exact hx.fix id inc hi h0
 ·cases he
end
section
variable {E:Env} {fuel:Nat} {a:MC} {mask:List Nat}
theorem my (S:Nat->List AV) (B:Nat->ac) (N:Nat) {o:Out} (hc:∀i,clear mask (S i)=S i) (ho:∀ σ A,o≠.normal σ A)
  (hs:∀i,i<N->run E fuel [.code a] (S i) (B i)=some (.normal (S (i+1)) (B (i+1)))) (he:run E fuel [.code a] (S N) (B N)=some o) {m:Nat} (hm:N<m) :
  bM (evC E fuel a) mask m (S 0) (B 0)=some o:=by
 have key:∀k i m,i+k=N->k<m->bM (evC E fuel a) mask m (S i) (B i)=some o:=by
  intro k
  induction k with
  | zero=>
   intro i m hi hm
   obtain ⟨m,rfl⟩:∃j,m=j+1:=⟨m-1,by omega⟩
   obtain rfl:i=N:=by omega
   rw [aK,hc,he]
   cases o with
   | normal σ A=>exact absurd rfl (ho _ _)
   | exit _ _ _=>rfl
   | ret _ _=>rfl
  | succ k ih=>
   intro i m hi hm
   obtain ⟨m,rfl⟩:∃j,m=j+1:=⟨m-1,by omega⟩
   rw [aK,hc,hs i (by omega)]
   exact ih (i+1) m (by omega) (by omega)
 exact key N 0 m (by omega) hm
theorem cP (S:Nat->List AV) (B:Nat->ac) (n:Nat) (p:Nat->Prop) {oF:Nat->Out} {oE:Out} (hc:∀i,clear mask (S i)=S i) (hF:∀i σ A,oF i≠.normal σ A) (hE:∀ σ A,oE≠.normal σ A)
  (hs:∀i,i<n->¬ p i->run E fuel [.code a] (S i) (B i)=some (.normal (S (i+1)) (B (i+1)))) (hf:∀i,i<n->p i->run E fuel [.code a] (S i) (B i)=some (oF i)) (he:run E fuel [.code a] (S n) (B n)=some oE) {m:Nat} (hm:n<m) :
  ((∃i,i<n/\p i/\(∀j,j<i->¬ p j)/\bM (evC E fuel a) mask m (S 0) (B 0)=some (oF i))\/((∀i,i<n->¬ p i)/\bM (evC E fuel a) mask m (S 0) (B 0)=some oE)):=by
 by_cases h:∃i,i<n/\p i
 ·obtain ⟨i,⟨hi,hp⟩,hmin⟩:∃i,(i<n/\p i)/\∀j,j<i->¬ (j<n/\p j):=by
   obtain ⟨i,hi⟩:=h
   induction i using Nat.strongRecOn with
   | ind i ih=>
    by_cases hj:∃j,j<i/\(j<n/\p j)
    ·obtain ⟨j,hj,hp⟩:=hj
     exact ih j hj hp
    ·exact ⟨i,hi,fun j h hp=>hj ⟨j,h,hp⟩⟩
  have hmin':∀j,j<i->¬ p j:=fun j hj hp=>hmin j hj ⟨by omega,hp⟩
  exact .inl ⟨i,hi,hp,hmin',my S B i hc (hF i) (fun j hj=>hs j (by omega) (hmin' j hj)) (hf i hi hp) (by omega)⟩
 ·have h':∀i,i<n->¬ p i:=fun i hi hp=>h ⟨i,hi,hp⟩
  exact .inr ⟨h',my S B n hc hE (fun j hj=>hs j hj (h' j hj)) he hm⟩
end
def slA (esz:Nat) (es:List AV):AV:=match es with | []=>.nilS | _ :: _=>.fs esz es
section
variable {A:ac} {esz bytes:Nat} {es:List AV}
theorem aR (esz:Nat) (es:List AV):SlA esz es (slA esz es):=by
 cases es with
 | nil=>exact .inl ⟨rfl,rfl⟩
 | cons x r=>exact .inr rfl
end
open Classical in
def xY:AV->Option Int
 | .int .i64 z=>if inI z then some z else none
 | _=>none
def rA {α:Type} (f:AV->Option α):List AV->Option (List α)
 | []=>some []
 | x :: r=>match f x,rA f r with
  | some y,some l=>some (y :: l)
  | _,_=>none
def pK {α:Type} (f:AV->Option α):AV->Option (List α)
 | .nilS=>some []
 | .fs 1 es=>if es.length<=9223372036854775807 then rA f es else none
 | _=>none
def ev (a:AV):Option (List Int):=pK xY a
theorem jY {α:Type} {f:AV->Option α}:∀ {es:List AV} {xs:List α},rA f es=some xs->es.length=xs.length/\∀i (h:i<es.length) (h':i<xs.length),f es[i]=some xs[i]
 | [],xs,h=>by injection h with h; subst h; exact ⟨rfl,fun i h=>by cases h⟩
 | x :: r,xs,h=>by
  unfold rA at h
  split at h
  ·rename_i y l h1 h2
   injection h with h; subst h
   obtain ⟨k1,k2⟩:=jY (es:=r) h2
   refine ⟨by simp [k1],fun i h h'=>?_⟩
   cases i with
   | zero=>exact h1
   | succ i=>exact k2 i (by simpa using h) (by simpa using h')
  ·cases h
theorem m5 {α:Type} {f:AV->Option α} {c:α->AV}:∀ {xs:List α},(∀x∈xs,f (c x)=some x)->rA f (xs.map c)=some xs
 | [],_=>rfl
 | x :: r,h=>by
  simp only [List.map_cons,rA,h x (by simp),m5 (xs:=r) (fun y hy=>h y (by simp [hy]))]
theorem uT {α:Type} {f:AV->Option α} {a:AV} {xs:List α} (h:pK f a=some xs):∃es,SlA 1 es a/\es.length=xs.length/\(∀i (h:i<es.length) (h':i<xs.length),f es[i]=some xs[i])/\xs.length<=9223372036854775807:=by
 unfold pK at h
 split at h
 ·injection h with h; subst h
  exact ⟨[],.inl ⟨rfl,rfl⟩,rfl,fun i h=>(by cases h),by simp⟩
 ·rename_i es
  simp only [Option.ite_none_right_eq_some] at h
  obtain ⟨k1,k2⟩:=jY h.2
  exact ⟨es,.inr rfl,k1,k2,by omega⟩
 ·cases h
theorem uU {α:Type} {f:AV->Option α} {c:α->AV} {a:AV} {xs:List α} (h:SlA 1 (xs.map c) a) (hl:xs.length<=9223372036854775807) (hc:∀x∈xs,f (c x)=some x):pK f a=some xs:=by
 rcases h with ⟨rfl,h2⟩ | rfl
 ·have:xs=[]:=by simpa using h2
  subst this; rfl
 ·simp only [pK,List.length_map]
  rw [if_pos hl]
  exact m5 hc
theorem nZ {a:AV} {z:Int} (h:xY a=some z):a=.int .i64 z/\inI z:=by
 unfold xY at h
 split at h
 ·simp only [Option.ite_none_right_eq_some,Option.some.injEq] at h
  obtain ⟨h1,rfl⟩:=h
  exact ⟨rfl,h1⟩
 ·cases h
theorem vc {z:Int} (h:inI z):xY (.int .i64 z)=some z:=if_pos h
theorem iE {a:AV} {xs:List Int} (h:ev a=some xs):SlA 1 (xs.map (.int .i64)) a/\(∀z∈xs,inI z)/\xs.length<=9223372036854775807:=by
 obtain ⟨es,h1,h2,h3,h4⟩:=uT h
 have:es=xs.map (.int .i64):=List.ext_getElem (by simpa using h2) fun i k1 k2=>by
  rw [(nZ (h3 i k1 (by simpa using k2))).1]; simp
 refine ⟨this ▸ h1,fun z hz=>?_,h4⟩
 obtain ⟨i,hi,rfl⟩:=List.mem_iff_getElem.1 hz
 exact (nZ (h3 i (by omega) hi)).2
theorem mB {a:AV} {xs:List Int} (h:SlA 1 (xs.map (.int .i64)) a) (hl:xs.length<=9223372036854775807) (hr:∀z∈xs,inI z):ev a=some xs:=uU h hl fun x hx=>vc (hr x hx)
theorem bw (a b:Nat) (k:IntKind):aq .lss (.int k (a:Int)) (.int k (b:Int))=some (.bool (decide (a<b))):=by
 simp [aq]
theorem aY (a:Nat) (h:a<9223372036854775807):aq .add (.int .i64 (a:Int)) (.int .i64 1)=some (.int .i64 ((a+1:Nat):Int)):=by
 have:IntKind.i64.wrap ((a:Int)+1)=((a+1:Nat):Int):=by rw [dB (by unfold inI; omega)]; omega
 simp only [aq]
 rw [if_pos trivial,this]
section
variable {P:Program} {G:Nat->Option (List AV)}
end
def a9 (A:ac):Nat->AV->Bool
 | _,.bool _=>true
 | _,.int ..=>true
 | _,.str _=>true
 | _,.nilS=>true
 | _,.nilP=>true
 | _,.nilM=>true
 | _,.nilF=>true
 | _,.nilI=>true
 | n+1,.agg cs=>cs.all (a9 A n)
 | n+1,.tup cs=>cs.all (a9 A n)
 | n+1,.iface _ v=>a9 A n v
 | n+1,.sl id off len=>match A[id]? with
  | some (.row _ _ es)=>((es.drop off).take len).all (a9 A n)
  | _=>false
 | n+1,.ptr id i o=>match A[id]? with
  | some (.row _ _ es)=>match es[i]? with
   | some e=>e.solid && decide (o<(cellsOf e).length) && (cellsOf e).all (a9 A n)
   | none=>false
  | _=>false
 | _,_=>false
section
variable {P:Program} {G:Nat->Option (List AV)}
theorem rh {w:World} {OK OK2:Nat->Prop} {g:az} {A:ac} (hA:bK w OK g A) (h2:∀id inc,A[id]?≠some .dead->inc∈g id->OK2 inc.b):∀(n:Nat) (a:AV) (v:Value),a9 A n a=true->aL w OK g v a->aL w OK2 az.none v (frz A n a):=by
 intro n
 induction n with
 | zero=>
  intro a v hs h
  cases a <;> simp only [a9,Bool.false_eq_true] at hs <;> simp only [frz] <;> first
   | (have e:=h.inv_bool; rw [e]; exact .bool _ _)
   | (have e:=h.inv_int; rw [e]; exact .int _ _ _)
   | (obtain ⟨s,e,hs⟩:=h.inv_str; rw [e]; exact .str _ _ _ hs)
   | (obtain ⟨p,e⟩:=h.inv_nilS; rw [e]; exact .nilS _ _)
   | (have e:=h.inv_nilP; rw [e]; exact .nilP _)
   | (have e:=h.inv_nilM; rw [e]; exact .nilM _)
   | (cases h; exact .nilF _)
   | (cases h; exact .nilI _)
 | succ n ih=>
  intro a v hs h
  cases a <;> simp only [a9,Bool.false_eq_true] at hs <;> simp only [frz] <;> try first
   | (have e:=h.inv_bool; rw [e]; exact .bool _ _)
   | (have e:=h.inv_int; rw [e]; exact .int _ _ _)
   | (obtain ⟨s,e,hs⟩:=h.inv_str; rw [e]; exact .str _ _ _ hs)
   | (obtain ⟨p,e⟩:=h.inv_nilS; rw [e]; exact .nilS _ _)
   | (have e:=h.inv_nilP; rw [e]; exact .nilP _)
   | (have e:=h.inv_nilM; rw [e]; exact .nilM _)
   | (cases h; exact .nilF _)
   | (cases h; exact .nilI _)
  case sl id off len=>
   split at hs
   ·rename_i s gr es hid
    try simp only [hid]
    rw [List.all_eq_true] at hs
    obtain ⟨inc,cap,ao,hinc,rfl,hl,hn,hcap,ha⟩:=h.inv_sl
    obtain ⟨hlt',hrow⟩:=List.getElem?_eq_some_iff.1 hid
    have hent:=hA.ent id hlt'
    rw [hrow] at hent
    obtain ⟨hesz,hne,hnc,c,T,fz,hh,hu,hcs,hel⟩:=hent.2 inc hinc
    have hlen:(((es.drop off).take len).map (frz A n)).length=len:=by simp; omega
    obtain ⟨vals,hvals⟩:∃vals:Nat->Value,∀i (hi:i<len),aL w OK g (vals i) (es[off+i]'(by omega))/\(vals i).cells.size=s/\bT (vals i)/\∀j,j<s->c[inc.o+(off+i)*s+j]?=(vals i).cells[j]?:=
     ⟨fun i=>if hi:i<len then (hel (off+i) (by omega) (by omega)).choose else undef,fun i hi=>by simp only [hi,dif_pos]; exact (hel (off+i) (by omega) (by omega)).choose_spec⟩
    have hmem:∀i (hi:i<len),es[off+i]'(by omega)∈(es.drop off).take len:=fun i hi=>by
     refine List.mem_iff_getElem.2 ⟨i,by simp; omega,?_⟩
     simp
    have:=aL.fs (w:=w) (OK:=OK2) az.none inc.b ao cap s T c fz (((es.drop off).take len).map (frz A n)) vals (h2 id inc (by rw [hid]; simp) hinc) hh (by omega)
     (fun i hi=>by simp only [List.getElem_map,List.getElem_take,List.getElem_drop]; exact ih _ _ (hs _ (hmem i (by omega))) (hvals i (by omega)).1)
     (fun i hi=>⟨(hvals i (by omega)).2.1,(hvals i (by omega)).2.2.1⟩)
     (fun i hi j hj=>by
      rw [<-(hvals i (by omega)).2.2.2 j hj,ha (by omega),hesz]
      congr 1; rw [Nat.add_mul]; omega)
    rwa [hlen] at this
   ·cases hs
  case ptr id i o=>
   split at hs
   ·rename_i s gr es hid
    split at hs
    ·rename_i e he
     simp only [Bool.and_eq_true,decide_eq_true_eq] at hs
     obtain ⟨⟨hsol,ho⟩,hall⟩:=hs
     rw [List.all_eq_true] at hall
     try simp only [hid,he]
     rw [if_pos ⟨hsol,ho⟩]
     obtain ⟨inc,hinc,rfl,hn,ho'⟩:=h.inv_ptr
     obtain ⟨hlt',hrow⟩:=List.getElem?_eq_some_iff.1 hid
     obtain ⟨hi',rfl⟩:=List.getElem?_eq_some_iff.1 he
     have hent:=hA.ent id hlt'
     rw [hrow] at hent
     obtain ⟨hesz,hne,hnc,c,T,fz,hh,hu,hcs,hel⟩:=hent.2 inc hinc
     obtain ⟨v,hv,hvs,hok,hc⟩:=hel i hi' hn
     obtain ⟨k1,k2,k3⟩:=hv.cells hsol
     obtain ⟨f,hf⟩:∃f:Nat->Value,∀j (hj:j<(cellsOf es[i]).length),v.cells[j]?=some (f j)/\(f j).oneCell'=true/\aL w OK g (f j) (cellsOf es[i])[j]:=
      ⟨fun j=>(v.cells[j]?).getD undef,fun j hj=>by
       obtain ⟨x,a1,a2,a3⟩:=k3 j hj
       simp only [a1,Option.getD_some]
       exact ⟨trivial,a2,a3⟩⟩
     refine .fp _ inc.b _ T c fz _ (fun j=>f (o+j)) (h2 id inc (by rw [hid]; simp) hinc) hh (by rw [List.length_map,List.length_drop]; omega) (fun j hj=>?_) (fun j hj=>?_)
     ·simp only [List.getElem_map,List.getElem_drop]
      have hj':o+j<(cellsOf es[i]).length:=by rw [List.length_map,List.length_drop] at hj; omega
      exact ih _ _ (hall _ (List.getElem_mem _)) (hf (o+j) hj').2.2
     ·have hj':o+j<(cellsOf es[i]).length:=by rw [List.length_map,List.length_drop] at hj; omega
      refine ⟨?_,(hf (o+j) hj').2.1⟩
      rw [hesz,Nat.add_assoc,hc (o+j) (by omega)]
      exact (hf (o+j) hj').1
    ·cases hs
   ·cases hs
  case agg cs=>
   rw [List.all_eq_true] at hs
   obtain ⟨vs,vals,rfl,hl,hg,hv⟩:=h.inv_agg
   exact .agg _ vs _ (by simpa using hl) vals (fun i hi=>hg i (by simpa using hi)) (fun i hi=>by simp only [List.getElem_map]; exact ih _ _ (hs _ (List.getElem_mem _)) (hv i (by simpa using hi)))
  case tup cs=>
   rw [List.all_eq_true] at hs
   obtain ⟨vs,vals,rfl,hl,hg,hv⟩:=h.inv_tup
   exact .tup _ vs _ (by simpa using hl) vals (fun i hi=>hg i (by simpa using hi)) (fun i hi=>by simp only [List.getElem_map]; exact ih _ _ (hs _ (List.getElem_mem _)) (hv i (by simpa using hi)))
  case iface t x=>
   cases h with
   | iface _ t v a hv=>exact .iface _ t v _ (ih _ _ hs hv)
def br (P:Program) (G:Nat->Option (List AV)) (f:FuncId) (M:aG):Prop:=
 Enters P f/\∀args r,M args=some r->∀(w:World) (OK:Nat->Prop) (vs:List Value),(∀b,OK b->b<w.heap.size)->wO G w OK->bo w OK az.none vs args ->
  Calls P f vs.toArray w fun e w'=>∃v OK',e=.returned v/\aL w' (fun b=>OK' b/\w.heap.size<=b) az.none v r/\(∀b,OK' b->b<w'.heap.size)/\Ext w OK az.none w' OK' az.none
def xG (n:Nat) (M:aG):qu:=fun args A=>(M (args.map (frz A n))).map fun r=>(r,A)
def bS (n:Nat) (M:aG):aD:=fun _=>xG n M
theorem eA.of_pureF {f:FuncId} {M:aG} (h:br P G f M) (n:Nat):eA P G f (xG n M):=by
 refine ⟨h.1,?_⟩
 intro args A r A' he w OK g vs hA hG hl
 unfold xG at he
 rw [Option.map_eq_some_iff] at he
 obtain ⟨r0,hM,he⟩:=he
 injection he with e1 e2
 subst e1; subst e2
 have hok2:∀b,(OK b\/∃id inc,inc∈g id/\inc.b=b)->b<w.heap.size:=fun b hb=>by
  rcases hb with hb | ⟨id,inc,hi,rfl⟩
  ·exact hA.ok b hb
  ·exact hA.low id inc hi
 have hl2:bo w (fun b=>OK b\/∃id inc,inc∈g id/\inc.b=b) az.none vs (args.map (frz A n)):=hl.map fun v a _ hv=>jq hA (fun b hb=>Or.inl hb) (fun id inc _ hi=>Or.inr ⟨id,inc,hi,rfl⟩) n a v hv
 refine (h.2 _ _ hM w (fun b=>OK b\/∃id inc,inc∈g id/\inc.b=b) vs hok2 (hG.mono (fun b hb=>.inl hb) (fun _ _=>rfl)) hl2).mono ?_
 rintro e w' ⟨v,OK',rfl,hv,hok',hx⟩
 have hb:∀b,b<w.heap.size->w'.heap[b]?=w.heap[b]?:=fun b hb=>hx.blk b hb (fun _ _ (hi:_∈[])=>by cases hi)
 have hok3:∀b,(OK b\/(OK' b/\w.heap.size<=b))->b<w'.heap.size:=fun b hb=>by
  rcases hb with hb | hb
  ·exact Nat.lt_of_lt_of_le (hA.ok b hb) hx.size
  ·exact hok' b hb.1
 have hv2:aL w' (fun b=>OK b\/(OK' b/\w.heap.size<=b)) az.none v r0:=hv.mono (fun _ h=>.inr h) (fun _ _=>rfl) _ (az.le_refl _)
 exact ⟨v,fun b=>OK b\/(OK' b/\w.heap.size<=b),g,rfl,hv2.none_to,
  hA.keep hx.size hb (fun b=>OK b\/(OK' b/\w.heap.size<=b)) (fun _ h=>.inl h) (fun _ h=>h.elim .inl fun h=>.inr h.2) hok3,
  hx.os,hx.tape,hx.output,hx.size,fun b hb' _=>hb b hb',g.le_refl,fun _ h=>.inl h,fun id inc hi=>.inl ⟨id,inc,hi,rfl⟩,fun _ h=>h.elim .inl fun h=>.inr h.2,hx.loops,fun _ _ _ _=>rfl⟩
theorem an.of_pureF {f:FuncId} {M:aG} (h:br P G f M) (n:Nat):an P G f (bS n M):=(eA.of_pureF h n).y
def evF (E:Env) (fuel:Nat) (mf:bC) (n:Nat) (args:List AV):Option AV:=(bA E fuel mf args []).bind fun x=>if a9 x.2 n x.1=true then some (frz x.2 n x.1) else none
theorem gn {E:Env} {fuel:Nat} {n:Nat} (mf:bC) (args:List AV) (h:args.length=mf.n):evF E fuel mf n args=match run E fuel [.code mf.mc] (args++List.replicate (mf.len-mf.n) .undef) [] with
  | some (.normal σ A')=>(dt A' σ mf.res).bind fun l=>if a9 A' n (eH l)=true then some (frz A' n (eH l)) else none
  | some (.ret σ A')=>(dt A' σ mf.res).bind fun l=>if a9 A' n (eH l)=true then some (frz A' n (eH l)) else none
  | _=>none:=by
 unfold evF
 rw [bH mf args h]
 cases run E fuel [.code mf.mc] (args++List.replicate (mf.len-mf.n) .undef) [] with
 | none=>rfl
 | some o=>cases o with
  | normal σ A=>cases h1:dt A σ mf.res with
   | none=>simp [h1]
   | some l=>simp only [h1,Option.map_some,Option.bind_some]
  | exit id σ A=>rfl
  | ret σ A=>cases h1:dt A σ mf.res with
   | none=>simp [h1]
   | some l=>simp only [h1,Option.map_some,Option.bind_some]
theorem br.of_ev {E:Env} {f:FuncId} {fn:Func} {k:Nat} {vs:List Nat} {pu:List FuncId} {on:Bool} {hints:pa} {mf:bC} (hE:ck P E) (hys:E.ys=[]) (hf:P.funcs[f]?=some fn) (hc:aB P fn k vs pu on hints=some mf) (n:Nat) {M:aG}
  (hM:∀args r,M args=some r->∃fuel,evF E fuel mf n args=some r) (hpu:a5 E pu:=by first | exact a5.nil | (repeat (first | exact a5.nil | refine a5.cons (M:=_) rfl ?_))):br P E.glob f M:=by
 refine ⟨(aN (fuel:=0) hE hys hf hc hpu).1,?_⟩
 intro args r he w OK vs hok hG hl
 obtain ⟨fuel,h⟩:=hM args r he
 unfold evF at h
 rw [Option.bind_eq_some_iff] at h
 obtain ⟨⟨r0,A'⟩,h1,h⟩:=h
 simp only [Option.ite_none_right_eq_some,Option.some.injEq] at h
 obtain ⟨hf2,rfl⟩:=h
 refine ((aN (fuel:=fuel) hE hys hf hc hpu).2 _ _ _ _ h1 w OK az.none vs (bK.nil hok) hG hl).mono ?_
 rintro e w' ⟨v,OK',g',rfl,hv,hA,hx⟩
 have hfr:∀id inc,inc∈g' id->w.heap.size<=inc.b:=fun id inc hi=>by
  rcases hx.fresh id inc hi with ⟨_,_,h0,_⟩ | h1
  ·cases h0
  ·exact h1
 refine ⟨v,fun b=>OK' b\/∃id inc,inc∈g' id/\inc.b=b,rfl,rh hA (fun id inc _ hi=>⟨.inr ⟨id,inc,hi,rfl⟩,hfr id inc hi⟩) n r0 v hf2 hv,?_,?_⟩
 ·rintro b (hb | ⟨id,inc,hi,rfl⟩)
  ·exact hA.ok b hb
  ·exact hA.low id inc hi
 ·refine ⟨hx.os,hx.tape,hx.output,hx.size,hx.blk,az.le_refl _,fun b hb=>.inl (hx.okle b hb),fun _ _ (hi:_∈[])=>(by cases hi),?_,hx.loops,fun _ _ _ _=>rfl⟩
  rintro b (hb | ⟨id,inc,hi,rfl⟩)
  ·exact hx.okf b hb
  ·exact .inr (hfr id inc hi)
end
@[simp] theorem EG (n:Nat) (M:aG) (h:aZ) (args:List AV) (A:ac):bS n M h args A=(M (args.map (frz A n))).map fun r=>(r,A):=rfl
namespace Cy
def Fc:bC:=⟨2,4,.seq (.region [⟨some 2,.mv (.cst (.int .i64 0)),none⟩]) (.seq (.seq (.region [⟨none,.mv (.var 0),none⟩,⟨some 3,.bin .lss (.tmp 0) (.cst (.int .i64 0)),none⟩]) (.cond (.var 3) (.region [⟨none,.mv (.var 0),none⟩,⟨none,.bin .add (.tmp 0) (.cst (.int .i64 1)),none⟩,⟨none,.un .neg (.tmp 1),none⟩,⟨some 0,.mv (.tmp 2),none⟩]) .skip)) (.seq (.region [⟨none,.mv (.var 0),none⟩,⟨none,.mv (.var 1),none⟩,⟨none,.bin .rem (.tmp 0) (.tmp 1),none⟩,⟨some 2,.mv (.tmp 2),none⟩]) .ret)),[.tmp 2]⟩
theorem GX:aB Tryz.prog Tryz.f21 2 [0,1,4,6] [] true ([],[])=some Fc:=by kernel_rfl
theorem at12:Tryz.prog.funcs[21]?=some Tryz.f21:=by kernel_rfl
def wU:bC:=⟨3,12,.seq (.region [⟨some 3,.mv (.cst .nilS),none⟩,⟨some 4,.mv (.cst .nilS),none⟩,⟨some 5,.mv (.cst (.bool false)),none⟩]) (.seq (.region [⟨none,.mv (.var 0),none⟩,⟨none,.mv (.var 1),none⟩,⟨none,.mv (.var 2),none⟩,⟨none,.call (.fn 51) [.tmp 0,.tmp 1,.tmp 2],none⟩,⟨none,.mv (.tmp 3),none⟩,⟨none,.extract (.tmp 4) 0,none⟩,⟨none,.extract (.tmp 4) 1,none⟩,⟨some 6,.mv (.tmp 5),none⟩,⟨some 7,.mv (.tmp 6),none⟩]) (.seq (.seq (.region [⟨none,.mv (.var 7),none⟩,⟨some 10,.un .not (.tmp 0),none⟩]) (.cond (.var 10) (.seq (.region [⟨some 3,.mv (.cst .nilS),none⟩,⟨some 4,.mv (.cst .nilS),none⟩,⟨some 5,.mv (.cst (.bool false)),none⟩]) .ret) .skip)) (.seq (.seq (.region [⟨none,.mv (.var 6),none⟩,⟨none,.call (.fn 52) [.tmp 0],none⟩,⟨none,.mv (.tmp 1),none⟩,⟨none,.extract (.tmp 2) 0,none⟩,⟨none,.extract (.tmp 2) 1,none⟩,⟨some 8,.mv (.tmp 3),none⟩,⟨some 9,.mv (.tmp 4),none⟩]) (.seq (.region [⟨some 11,.mv (.var 9),none⟩]) (.cond (.var 11) (.seq (.region [⟨none,.mv (.var 8),none⟩,⟨some 3,.mv (.tmp 0),none⟩,⟨some 4,.mv (.cst .nilS),none⟩,⟨some 5,.mv (.cst (.bool true)),none⟩]) .ret) .skip))) (.seq (.region [⟨none,.mv (.var 6),none⟩,⟨none,.call (.fn 53) [.tmp 0],none⟩,⟨some 3,.mv (.cst .nilS),none⟩,⟨some 4,.mv (.tmp 1),none⟩,⟨some 5,.mv (.cst (.bool false)),none⟩]) .ret)))),[.tmp 3,.tmp 4,.tmp 5]⟩
theorem vU:aB Tryz.prog Tryz.f17 3 [0,1,2,6,7,8,9,10,11,12,21,27] [] true ([],[])=some wU:=by kernel_rfl
theorem KS:Tryz.prog.funcs[17]?=some Tryz.f17:=by kernel_rfl
def sa:bC:=⟨2,5,.seq (.region [⟨some 2,.box (.var 0),none⟩,⟨some 3,.mv (.cst (.bool false)),none⟩]) (.seq (.region [⟨none,.makeFunc (.func 146) [] [.var 2],none⟩,⟨some 4,.mv (.tmp 0),none⟩]) (.seq (.region [⟨none,.load false 1 (.var 2),none⟩,⟨none,.call (.fn 60) [.tmp 0,.cst (.int .i64 1),.cst (.int .i64 32)],none⟩,⟨none,.mv (.tmp 1),none⟩,⟨none,.mv (.var 1),some (.tmp 2,true)⟩,⟨none,.lenSl (.tmp 3),some (.tmp 2,true)⟩,⟨none,.bin .leq (.tmp 4) (.cst (.int .i64 200)),some (.tmp 2,true)⟩,⟨none,.pick (.tmp 2) (.tmp 5) (.cst (.bool false)),none⟩,⟨none,.mv (.tmp 6),none⟩,⟨none,.mv (.var 1),some (.tmp 7,true)⟩,⟨none,.mv (.var 4),some (.tmp 7,true)⟩,⟨none,.call (.fn 147) [.tmp 8,.tmp 9],some (.tmp 7,true)⟩,⟨none,.un .not (.tmp 10),some (.tmp 7,true)⟩,⟨none,.pick (.tmp 7) (.tmp 11) (.cst (.bool false)),none⟩,⟨some 3,.mv (.tmp 12),none⟩]) .ret)),[.tmp 3]⟩
theorem vT:aB Tryz.prog Tryz.f97 2 [0,1,2,4,5] [] true ([],[])=some sa:=by kernel_rfl
theorem KM:Tryz.prog.funcs[97]?=some Tryz.f97:=by kernel_rfl
def wS:bC:=⟨4,8,.seq (.region [⟨some 4,.mv (.cst (.bool false)),none⟩]) (.seq (.region [⟨none,.mv (.var 0),none⟩,⟨none,.mv (.var 1),none⟩,⟨none,.mv (.var 2),none⟩,⟨none,.call (.fn 51) [.tmp 0,.tmp 1,.tmp 2],none⟩,⟨none,.mv (.tmp 3),none⟩,⟨none,.extract (.tmp 4) 0,none⟩,⟨none,.extract (.tmp 4) 1,none⟩,⟨some 5,.mv (.tmp 5),none⟩,⟨some 6,.mv (.tmp 6),none⟩]) (.seq (.region [⟨some 7,.mv (.fn 59),none⟩]) (.seq (.region [⟨none,.mv (.var 6),none⟩,⟨none,.mv (.tmp 0),none⟩,⟨none,.mv (.var 3),some (.tmp 1,true)⟩,⟨none,.lenSl (.tmp 2),some (.tmp 1,true)⟩,⟨none,.mv (.var 0),some (.tmp 1,true)⟩,⟨none,.bin .eql (.tmp 3) (.tmp 4),some (.tmp 1,true)⟩,⟨none,.pick (.tmp 1) (.tmp 5) (.cst (.bool false)),none⟩,⟨none,.mv (.tmp 6),none⟩,⟨none,.mv (.var 3),some (.tmp 7,true)⟩,⟨none,.mv (.var 7),some (.tmp 7,true)⟩,⟨none,.call (.fn 61) [.tmp 8,.tmp 9],some (.tmp 7,true)⟩,⟨none,.un .not (.tmp 10),some (.tmp 7,true)⟩,⟨none,.pick (.tmp 7) (.tmp 11) (.cst (.bool false)),none⟩,⟨none,.mv (.tmp 12),none⟩,⟨none,.mv (.var 5),some (.tmp 13,true)⟩,⟨none,.mv (.var 3),some (.tmp 13,true)⟩,⟨none,.call (.fn 63) [.tmp 15],some (.tmp 13,true)⟩,⟨none,.call (.fn 62) [.tmp 14,.tmp 16],some (.tmp 13,true)⟩,⟨none,.un .not (.tmp 17),some (.tmp 13,true)⟩,⟨none,.pick (.tmp 13) (.tmp 18) (.cst (.bool false)),none⟩,⟨some 4,.mv (.tmp 19),none⟩]) .ret))),[.tmp 4]⟩
theorem vS:aB Tryz.prog Tryz.f20 4 [0,1,2,3,8,9,10,11] [] true ([],[])=some wS:=by kernel_rfl
theorem Kw:Tryz.prog.funcs[20]?=some Tryz.f20:=by kernel_rfl
def DC:bC:=⟨4,9,.seq (.region [⟨some 4,.mv (.cst (.bool false)),none⟩]) (.seq (.region [⟨none,.mv (.var 0),none⟩,⟨none,.mv (.var 1),none⟩,⟨none,.mv (.var 2),none⟩,⟨none,.call (.fn 51) [.tmp 0,.tmp 1,.tmp 2],none⟩,⟨none,.mv (.tmp 3),none⟩,⟨none,.extract (.tmp 4) 0,none⟩,⟨none,.extract (.tmp 4) 1,none⟩,⟨some 5,.mv (.tmp 5),none⟩,⟨some 6,.mv (.tmp 6),none⟩]) (.seq (.seq (.region [⟨none,.mv (.var 6),none⟩,⟨some 8,.un .not (.tmp 0),none⟩]) (.cond (.var 8) (.seq (.region [⟨some 4,.mv (.cst (.bool false)),none⟩]) .ret) .skip)) (.seq (.region [⟨none,.mv (.var 5),none⟩,⟨none,.mv (.var 3),none⟩,⟨none,.call (.fn 54) [.tmp 0,.tmp 1],none⟩,⟨none,.mv (.tmp 2),none⟩,⟨none,.extract (.tmp 3) 0,none⟩,⟨none,.extract (.tmp 3) 1,none⟩,⟨none,.extract (.tmp 3) 2,none⟩,⟨some 7,.mv (.tmp 4),none⟩,⟨none,.mv (.tmp 5),none⟩,⟨some 6,.mv (.tmp 6),none⟩]) (.seq (.region [⟨none,.mv (.var 6),none⟩,⟨none,.mv (.tmp 0),none⟩,⟨none,.mv (.var 7),some (.tmp 1,true)⟩,⟨none,.bin .gtr (.tmp 2) (.cst (.int .i64 0)),some (.tmp 1,true)⟩,⟨none,.pick (.tmp 1) (.tmp 3) (.cst (.bool false)),none⟩,⟨some 4,.mv (.tmp 4),none⟩]) .ret)))),[.tmp 4]⟩
theorem zj:aB Tryz.prog Tryz.f18 4 [0,1,2,3,8,9,10,11,21] [] true ([],[])=some DC:=by kernel_rfl
theorem Mt:Tryz.prog.funcs[18]?=some Tryz.f18:=by kernel_rfl
def eM:MC:=.seq (.seq (.region [⟨none,.mv (.var 6),none⟩,⟨none,.mv (.var 3),none⟩,⟨some 13,.bin .leq (.tmp 0) (.tmp 1),none⟩]) (.cond (.var 13) .skip (.exit 0))) (.seq (.block 1 (.seq (.region [⟨none,.mv (.var 0),none⟩,⟨none,.mv (.var 1),none⟩,⟨none,.mv (.var 6),none⟩,⟨none,.call (.fn 51) [.tmp 0,.tmp 1,.tmp 2],none⟩,⟨none,.mv (.tmp 3),none⟩,⟨none,.extract (.tmp 4) 0,none⟩,⟨none,.extract (.tmp 4) 1,none⟩,⟨some 7,.mv (.tmp 5),none⟩,⟨some 8,.mv (.tmp 6),none⟩]) (.seq (.seq (.region [⟨none,.mv (.var 8),none⟩,⟨some 14,.un .not (.tmp 0),none⟩]) (.cond (.var 14) (.exit 0) .skip)) (.seq (.seq (.region [⟨none,.mv (.var 7),none⟩,⟨none,.call (.fn 52) [.tmp 0],none⟩,⟨none,.mv (.tmp 1),none⟩,⟨none,.extract (.tmp 2) 0,none⟩,⟨none,.extract (.tmp 2) 1,none⟩,⟨none,.mv (.tmp 3),none⟩,⟨some 9,.mv (.tmp 4),none⟩]) (.seq (.region [⟨some 15,.mv (.var 9),none⟩]) (.cond (.var 15) (.seq (.region [⟨none,.mv (.var 6),none⟩,⟨some 4,.mv (.tmp 0),none⟩,⟨some 5,.mv (.cst (.bool true)),none⟩]) .ret) .skip))) (.seq (.region [⟨none,.mv (.var 7),none⟩,⟨none,.mv (.var 7),none⟩,⟨none,.call (.fn 53) [.tmp 1],none⟩,⟨none,.call (.fn 54) [.tmp 0,.tmp 2],none⟩,⟨none,.mv (.tmp 3),none⟩,⟨none,.extract (.tmp 4) 0,none⟩,⟨none,.extract (.tmp 4) 1,none⟩,⟨none,.extract (.tmp 4) 2,none⟩,⟨some 10,.mv (.tmp 5),none⟩,⟨some 11,.mv (.tmp 6),none⟩,⟨none,.mv (.tmp 7),none⟩]) (.seq (.seq (.region [⟨none,.mv (.var 11),none⟩,⟨some 16,.bin .leq (.tmp 0) (.cst (.int .i64 0)),none⟩]) (.cond (.var 16) (.exit 0) .skip)) (.region [⟨none,.mv (.var 6),none⟩,⟨none,.mv (.var 10),none⟩,⟨none,.mv (.var 11),none⟩,⟨none,.bin .add (.tmp 1) (.tmp 2),none⟩,⟨none,.bin .sub (.tmp 3) (.cst (.int .i64 1)),none⟩,⟨none,.mv (.var 11),none⟩,⟨none,.bin .quo (.tmp 4) (.tmp 5),none⟩,⟨none,.bin .add (.tmp 0) (.tmp 6),none⟩,⟨some 6,.mv (.tmp 7),none⟩]))))))) (.kill [2,4,5,7,8,9,10,11,12,13,14,15,16]))
def EJ:bC:=⟨4,17,.seq (.region [⟨some 4,.mv (.cst (.int .i64 0)),none⟩,⟨some 5,.mv (.cst (.bool false)),none⟩]) (.scope (.seq (.seq (.region [⟨none,.mv (.var 3),none⟩,⟨none,.call (.fn 90) [.tmp 0],none⟩,⟨some 12,.un .not (.tmp 1),none⟩]) (.cond (.var 12) (.seq (.region [⟨some 4,.mv (.cst (.int .i64 0)),none⟩,⟨some 5,.mv (.cst (.bool false)),none⟩]) .ret) .skip)) (.seq (.region [⟨none,.mv (.var 2),none⟩,⟨some 6,.mv (.tmp 0),none⟩]) (.seq .skip (.seq (.seq (.block 0 (.loop [2,4,5,7,8,9,10,11,12,13,14,15,16] eM)) (.kill [0,1,2,3,4,5,6,7,8,9,10,11,12,13,14,15,16])) (.seq (.region [⟨some 4,.mv (.cst (.int .i64 0)),none⟩,⟨some 5,.mv (.cst (.bool false)),none⟩]) .ret)))))),[.tmp 4,.tmp 5]⟩
def gG:List Nat:=[2,4,5,7,8,9,10,11,12,13,14,15,16]
abbrev lP (v0 v1 v3 v6:AV):List AV:=[v0,v1,.undef,v3,.undef,.undef,v6,.undef,.undef,.undef,.undef,.undef,.undef,.undef,.undef,.undef,.undef]
theorem wc {v0 v1 d2 v3 d4 d5 v6 d7 d8 d9 d10 d11 d12 d13 d14 d15 d16:AV}:clear gG [v0,v1,d2,v3,d4,d5,v6,d7,d8,d9,d10,d11,d12,d13,d14,d15,d16]=lP v0 v1 v3 v6:=rfl
theorem vi {E:Env} {fuel:Nat} {A:ac} {o:Out} {k:List KC} {v0 v1 d2 v3 d4 d5 v6 d7 d8 d9 d10 d11 d12 d13 d14 d15 d16:AV} (h:bM (evC E fuel eM) gG fuel (lP v0 v1 v3 v6) A=some o) :
  run E fuel (.code (.loop [2,4,5,7,8,9,10,11,12,13,14,15,16] eM) :: k) [v0,v1,d2,v3,d4,d5,v6,d7,d8,d9,d10,d11,d12,d13,d14,d15,d16] A=after E fuel k o:=aU gG _ _ (by rw [wc]; exact h)
theorem GU:aB Tryz.prog Tryz.f40 4 [0,1,2,3,8,9,10,11,12,14,15,16,20,24,33,39,50] [] true ([[2,4,5,7,8,9,10,11,12,13,14,15,16]],[[2,4,5,7,8,9,10,11,12,13,14,15,16],[0,1,2,3,4,5,6,7,8,9,10,11,12,13,14,15,16]])=some EJ:=by kernel_rfl
theorem at23:Tryz.prog.funcs[40]?=some Tryz.f40:=by kernel_rfl
def ku:MC:=.seq (.region [⟨some 13,.bin .lss (.var 12) (.var 11),none⟩]) (.seq (.cond (.var 13) .skip (.exit 0)) (.seq (.seq (.block 1 (.seq (.region [⟨none,.mv (.var 12),none⟩,⟨none,.indexSl 4 (.var 10) (.var 12),none⟩,⟨none,.load true 4 (.tmp 1),none⟩,⟨some 7,.alloc 4 (.agg [.int .i64 0,.int .i64 0,.int .i64 0,.int .i64 0]),none⟩,⟨some 6,.mv (.tmp 0),none⟩,⟨none,.store 4 (.var 7) (.tmp 2),none⟩]) (.seq (.region [⟨none,.load true 4 (.var 7),none⟩,⟨none,.mv (.var 6),none⟩,⟨none,.fieldAddr 2 (.var 7),none⟩,⟨none,.load false 1 (.tmp 2),none⟩,⟨none,.mv (.var 2),none⟩,⟨none,.fieldAddr 3 (.var 7),none⟩,⟨none,.load false 1 (.tmp 5),none⟩,⟨none,.bin .mul (.tmp 4) (.tmp 6),none⟩,⟨none,.bin .sub (.tmp 3) (.tmp 7),none⟩,⟨none,.build [.int .i64 0,.int .i64 0,.int .i64 0,.int .i64 0,.int .i64 0,.int .i64 0] [(0,(4,.tmp 0)),(4,(1,.tmp 1)),(5,(1,.tmp 8))],none⟩,⟨some 8,.alloc 6 (.agg [.int .i64 0,.int .i64 0,.int .i64 0,.int .i64 0,.int .i64 0,.int .i64 0]),none⟩,⟨none,.store 6 (.var 8) (.tmp 9),none⟩]) (.seq (.region [⟨none,.mv (.var 5),none⟩,⟨none,.mv (.var 5),none⟩,⟨none,.nilCheck (.tmp 1),none⟩,⟨none,.fieldAddr 1 (.tmp 2),none⟩,⟨none,.load false 1 (.tmp 3),none⟩,⟨none,.load true 6 (.var 8),none⟩,⟨none,.buildF 6 [.tmp 5],none⟩,⟨none,.append 6 48 (.tmp 4) (.tmp 6),none⟩,⟨none,.nilCheck (.tmp 0),none⟩,⟨none,.fieldAddr 1 (.tmp 8),none⟩,⟨none,.store 1 (.tmp 9) (.tmp 7),none⟩]) (.regionD [] [⟨none,.mv (.var 5),none⟩,⟨none,.nilCheck (.tmp 0),none⟩,⟨none,.fieldAddr 2 (.tmp 1),none⟩,⟨none,.load false 1 (.tmp 2),none⟩,⟨none,.fieldAddr 0 (.var 7),none⟩,⟨none,.load false 1 (.tmp 4),none⟩,⟨none,.mv (.var 5),none⟩,⟨none,.nilCheck (.tmp 6),none⟩,⟨none,.fieldAddr 2 (.tmp 7),none⟩,⟨none,.load false 1 (.tmp 8),none⟩,⟨none,.fieldAddr 0 (.var 7),none⟩,⟨none,.load false 1 (.tmp 10),none⟩,⟨none,.indexSl 1 (.tmp 9) (.tmp 11),none⟩,⟨none,.load false 1 (.tmp 12),none⟩,⟨none,.load true 6 (.var 8),none⟩,⟨none,.buildF 6 [.tmp 14],none⟩,⟨none,.append 6 48 (.tmp 13) (.tmp 15),none⟩,⟨none,.indexSl 1 (.tmp 3) (.tmp 5),none⟩,⟨none,.store 1 (.tmp 17) (.tmp 16),none⟩] [(2,16),(3,16),(4,16),(5,16)]))))) (.kill [0,1,3,4,6,7,8,9,13])) (.region [⟨none,.bin .add (.var 12) (.cst (.int .i64 1)),none⟩,⟨some 12,.mv (.tmp 0),none⟩])))
def HN:bC:=⟨3,14,.seq (.region [⟨some 3,.mv (.cst .nilP),none⟩,⟨some 4,.mv (.cst (.bool false)),none⟩]) (.seq (.seq (.region [⟨none,.mv (.var 0),none⟩,⟨none,.mv (.var 1),none⟩,⟨none,.call (.fn 97) [.tmp 0,.tmp 1],none⟩,⟨none,.un .not (.tmp 2),none⟩,⟨none,.mv (.tmp 3),none⟩,⟨none,.mv (.var 2),some (.tmp 4,false)⟩,⟨none,.call (.fn 90) [.tmp 5],some (.tmp 4,false)⟩,⟨none,.un .not (.tmp 6),some (.tmp 4,false)⟩,⟨some 9,.pick (.tmp 4) (.cst (.bool true)) (.tmp 7),none⟩]) (.cond (.var 9) (.seq (.region [⟨some 3,.mv (.cst .nilP),none⟩,⟨some 4,.mv (.cst (.bool false)),none⟩]) .ret) .skip)) (.seq (.region [⟨none,.mv (.var 0),none⟩,⟨none,.mv (.var 0),none⟩,⟨none,.makeSlice 1 24 .nilS (.tmp 1) (.tmp 1),none⟩,⟨none,.build [.int .i64 0,.nilS,.nilS] [(0,(1,.tmp 0)),(2,(1,.tmp 2))],none⟩,⟨none,.box (.tmp 3),none⟩,⟨some 5,.mv (.tmp 4),none⟩]) (.seq (.seq (.region [⟨some 10,.mv (.var 1),none⟩,⟨some 11,.lenSl (.var 10),none⟩,⟨some 12,.mv (.cst (.int .i64 0)),none⟩]) (.seq (.block 0 (.loop [0,1,3,4,6,7,8,9,13] ku)) (.kill [0,1,2,3,4,6,7,8,9,10,11,12,13]))) (.seq (.region [⟨none,.mv (.var 5),none⟩,⟨some 3,.mv (.tmp 0),none⟩,⟨some 4,.mv (.cst (.bool true)),none⟩]) .ret)))),[.tmp 3,.tmp 4]⟩
def je:List Nat:=[0,1,3,4,6,7,8,9,13]
abbrev kh (v2 v5 v10 v11 v12:AV):List AV:=[.undef,.undef,v2,.undef,.undef,v5,.undef,.undef,.undef,.undef,v10,v11,v12,.undef]
theorem zu {d0 d1 v2 d3 d4 v5 d6 d7 d8 d9 v10 v11 v12 d13:AV}:clear je [d0,d1,v2,d3,d4,v5,d6,d7,d8,d9,v10,v11,v12,d13]=kh v2 v5 v10 v11 v12:=rfl
theorem FO {E:Env} {fuel:Nat} {A:ac} {o:Out} {k:List KC} {d0 d1 v2 d3 d4 v5 d6 d7 d8 d9 v10 v11 v12 d13:AV} (h:bM (evC E fuel ku) je fuel (kh v2 v5 v10 v11 v12) A=some o) :
  run E fuel (.code (.loop [0,1,3,4,6,7,8,9,13] ku) :: k) [d0,d1,v2,d3,d4,v5,d6,d7,d8,d9,v10,v11,v12,d13] A=after E fuel k o:=aU je _ _ (by rw [zu]; exact h)
theorem GR:aB Tryz.prog Tryz.f51 3 [0,1,2,6,7,8,9,10,11,20,26,27,28,29] [] true ([[0,1,3,4,6,7,8,9,13]],[[0,1,3,4,6,7,8,9,13],[0,1,2,3,4,6,7,8,9,10,11,12,13]])=some HN:=by kernel_rfl
theorem at25:Tryz.prog.funcs[51]?=some Tryz.f51:=by kernel_rfl
def eK:MC:=.seq (.region [⟨some 6,.bin .lss (.var 5) (.var 4),none⟩]) (.seq (.cond (.var 6) .skip (.exit 0)) (.seq (.seq (.block 1 (.seq (.region [⟨none,.mv (.var 0),none⟩,⟨none,.mv (.var 3),none⟩,⟨none,.call (.fn 62) [.tmp 0,.tmp 1],none⟩,⟨some 7,.un .not (.tmp 2),none⟩]) (.cond (.var 7) (.seq (.region [⟨none,.mv (.var 3),none⟩,⟨some 1,.mv (.tmp 0),none⟩,⟨some 2,.mv (.cst (.bool true)),none⟩]) .ret) .skip))) (.kill [1,2,6,7])) (.region [⟨none,.bin .add (.var 5) (.cst (.int .i64 1)),none⟩,⟨some 5,.mv (.tmp 0),none⟩])))
def pF:bC:=⟨1,8,.seq (.region [⟨some 1,.mv (.cst .nilS),none⟩,⟨some 2,.mv (.cst (.bool false)),none⟩]) (.seq (.region [⟨none,.mv (.var 0),none⟩,⟨none,.nilCheck (.tmp 0),none⟩,⟨none,.fieldAddr 0 (.tmp 1),none⟩,⟨none,.load false 1 (.tmp 2),none⟩,⟨none,.makeSlice 1 8 (.int .i64 0) (.tmp 3) (.tmp 3),none⟩,⟨some 3,.mv (.tmp 4),none⟩]) (.seq (.seq (.region [⟨none,.mv (.var 0),none⟩,⟨none,.nilCheck (.tmp 0),none⟩,⟨none,.fieldAddr 0 (.tmp 1),none⟩,⟨some 4,.load false 1 (.tmp 2),none⟩,⟨some 5,.mv (.cst (.int .i64 0)),none⟩]) (.seq (.block 0 (.loop [1,2,6,7] eK)) (.kill [1,2,4,5,6,7]))) (.seq (.region [⟨none,.mv (.var 3),none⟩,⟨none,.mv (.var 0),none⟩,⟨none,.mv (.var 3),none⟩,⟨none,.call (.fn 63) [.tmp 2],none⟩,⟨none,.call (.fn 62) [.tmp 1,.tmp 3],none⟩,⟨none,.un .not (.tmp 4),none⟩,⟨some 1,.mv (.tmp 0),none⟩,⟨some 2,.mv (.tmp 5),none⟩]) .ret))),[.tmp 1,.tmp 2]⟩
def dO:List Nat:=[1,2,6,7]
abbrev gX (v0 v3 v4 v5:AV):List AV:=[v0,.undef,.undef,v3,v4,v5,.undef,.undef]
theorem qe {v0 d1 d2 v3 v4 v5 d6 d7:AV}:clear dO [v0,d1,d2,v3,v4,v5,d6,d7]=gX v0 v3 v4 v5:=rfl
theorem sj {E:Env} {fuel:Nat} {A:ac} {o:Out} {k:List KC} {v0 d1 d2 v3 v4 v5 d6 d7:AV} (h:bM (evC E fuel eK) dO fuel (gX v0 v3 v4 v5) A=some o) :
  run E fuel (.code (.loop [1,2,6,7] eK) :: k) [v0,d1,d2,v3,v4,v5,d6,d7] A=after E fuel k o:=aU dO _ _ (by rw [qe]; exact h)
theorem qd:aB Tryz.prog Tryz.f52 1 [0,2,3,4,13,14,15,19] [] true ([[1,2,6,7]],[[1,2,6,7],[1,2,4,5,6,7]])=some pF:=by kernel_rfl
theorem G4:Tryz.prog.funcs[52]?=some Tryz.f52:=by kernel_rfl
def di:MC:=.seq (.region [⟨some 4,.alloc 6 (.agg [.int .i64 0,.int .i64 0,.int .i64 0,.int .i64 0,.int .i64 0,.int .i64 0]),none⟩,⟨none,.store 6 (.var 4) (.var 10),none⟩]) (.region [⟨some 5,.mv (.var 11),none⟩])
def fH:MC:=.seq (.block 3 (.seq (.region [⟨none,.load false 1 (.var 1),none⟩,⟨none,.load true 6 (.var 4),none⟩,⟨none,.mv (.var 5),none⟩,⟨none,.load false 1 (.var 3),none⟩,⟨none,.call (.fn 99) [.tmp 0,.tmp 1,.tmp 2,.tmp 3],none⟩,⟨none,.mv (.tmp 4),none⟩,⟨none,.extract (.tmp 5) 0,none⟩,⟨none,.extract (.tmp 5) 1,none⟩,⟨some 6,.mv (.tmp 6),none⟩,⟨some 7,.mv (.tmp 7),none⟩]) (.seq (.region [⟨some 12,.mv (.var 7),none⟩]) (.cond (.var 12) (.seq (.region [⟨none,.mv (.var 6),none⟩,⟨none,.store 1 (.var 2) (.tmp 0),none⟩]) .ret) .skip)))) (.kill [0,1,2,3,4,5,6,7,8,9,10,11,12,13])
def ik:MC:=.seq (.seq (.region [⟨none,.load false 1 (.var 3),none⟩,⟨none,.load false 1 (.var 1),none⟩,⟨none,.nilCheck (.tmp 1),none⟩,⟨none,.fieldAddr 0 (.tmp 2),none⟩,⟨none,.load false 1 (.tmp 3),none⟩,⟨some 8,.bin .leq (.tmp 0) (.tmp 4),none⟩]) (.cond (.var 8) .skip (.exit 0))) (.seq (.seq (.block 1 (.seq (.region [⟨none,.load false 1 (.var 1),none⟩,⟨none,.load false 1 (.var 3),none⟩,⟨some 9,.call (.fn 98) [.tmp 0,.tmp 1],none⟩]) (.seq (.block 2 (.rangeFunc (.var 9) [10,11] di fH)) (.kill [0,4,5,6,7,8,9,10,11,12,13])))) (.kill [0,4,5,6,7,8,9,10,11,12,13])) (.seq (.seq (.region [⟨some 13,.load false 1 (.var 3),none⟩]) (.region [⟨some 3,.alloc 1 (.int .i64 0),none⟩,⟨none,.store 1 (.var 3) (.var 13),none⟩])) (.region [⟨none,.load false 1 (.var 3),none⟩,⟨none,.bin .add (.tmp 0) (.cst (.int .i64 1)),none⟩,⟨none,.store 1 (.var 3) (.tmp 1),none⟩])))
def tI:bC:=⟨1,14,.seq (.region [⟨some 1,.box (.var 0),none⟩,⟨some 2,.alloc 1 .nilS,none⟩]) (.seq (.seq (.region [⟨some 3,.alloc 1 (.int .i64 0),none⟩,⟨none,.store 1 (.var 3) (.cst (.int .i64 1)),none⟩]) (.seq (.block 0 (.loop [0,4,5,6,7,8,9,10,11,12,13] ik)) (.kill [0,1,3,4,5,6,7,8,9,10,11,12,13]))) (.seq (.region [⟨none,.store 1 (.var 2) (.cst .nilS),none⟩]) .ret)),[.cell 2 false 1]⟩
def gD:List Nat:=[0,4,5,6,7,8,9,10,11,12,13]
abbrev gW (v1 v2 v3:AV):List AV:=[.undef,v1,v2,v3,.undef,.undef,.undef,.undef,.undef,.undef,.undef,.undef,.undef,.undef]
theorem vZ {d0 v1 v2 v3 d4 d5 d6 d7 d8 d9 d10 d11 d12 d13:AV}:clear gD [d0,v1,v2,v3,d4,d5,d6,d7,d8,d9,d10,d11,d12,d13]=gW v1 v2 v3:=rfl
theorem vg {E:Env} {fuel:Nat} {A:ac} {o:Out} {k:List KC} {d0 v1 v2 v3 d4 d5 d6 d7 d8 d9 d10 d11 d12 d13:AV} (h:bM (evC E fuel ik) gD fuel (gW v1 v2 v3) A=some o) :
  run E fuel (.code (.loop [0,4,5,6,7,8,9,10,11,12,13] ik) :: k) [d0,v1,v2,v3,d4,d5,d6,d7,d8,d9,d10,d11,d12,d13] A=after E fuel k o:=aU gD _ _ (by rw [vZ]; exact h)
theorem qc:aB Tryz.prog Tryz.f53 1 [0,1,2,3,4,5,6,7,13,18,19,20,29,31] [] true ([[0,4,5,6,7,8,9,10,11,12,13]],[[0,1,2,3,4,5,6,7,8,9,10,11,12,13],[0,4,5,6,7,8,9,10,11,12,13],[0,4,5,6,7,8,9,10,11,12,13],[0,1,3,4,5,6,7,8,9,10,11,12,13]])=some tI:=by kernel_rfl
theorem G3:Tryz.prog.funcs[53]?=some Tryz.f53:=by kernel_rfl
def EI:bC:=⟨2,4,.seq (.region [⟨some 2,.box (.var 0),none⟩,⟨some 3,.mv (.cst (.bool false)),none⟩]) (.seq (.region [⟨none,.fieldAddr 0 (.var 2),none⟩,⟨none,.load false 1 (.tmp 0),none⟩,⟨none,.load false 1 (.var 1),none⟩,⟨none,.bin .sub (.tmp 2) (.cst (.int .i64 1)),none⟩,⟨none,.call (.fn 60) [.tmp 1,.cst (.int .i64 0),.tmp 3],none⟩,⟨none,.un .not (.tmp 4),none⟩,⟨none,.mv (.tmp 5),none⟩,⟨none,.fieldAddr 1 (.var 2),some (.tmp 6,false)⟩,⟨none,.load false 1 (.tmp 7),some (.tmp 6,false)⟩,⟨none,.load false 1 (.var 1),some (.tmp 6,false)⟩,⟨none,.bin .sub (.tmp 9) (.cst (.int .i64 1)),some (.tmp 6,false)⟩,⟨none,.call (.fn 60) [.tmp 8,.cst (.int .i64 0),.tmp 10],some (.tmp 6,false)⟩,⟨none,.un .not (.tmp 11),some (.tmp 6,false)⟩,⟨none,.pick (.tmp 6) (.cst (.bool true)) (.tmp 12),none⟩,⟨none,.mv (.tmp 13),none⟩,⟨none,.fieldAddr 2 (.var 2),some (.tmp 14,false)⟩,⟨none,.load false 1 (.tmp 15),some (.tmp 14,false)⟩,⟨none,.call (.fn 60) [.tmp 16,.cst (.int .i64 (-1000000)),.cst (.int .i64 1000000)],some (.tmp 14,false)⟩,⟨none,.un .not (.tmp 17),some (.tmp 14,false)⟩,⟨none,.pick (.tmp 14) (.cst (.bool true)) (.tmp 18),none⟩,⟨none,.mv (.tmp 19),none⟩,⟨none,.fieldAddr 3 (.var 2),some (.tmp 20,false)⟩,⟨none,.load false 1 (.tmp 21),some (.tmp 20,false)⟩,⟨none,.call (.fn 60) [.tmp 22,.cst (.int .i64 (-2)),.cst (.int .i64 2)],some (.tmp 20,false)⟩,⟨none,.un .not (.tmp 23),some (.tmp 20,false)⟩,⟨none,.pick (.tmp 20) (.cst (.bool true)) (.tmp 24),none⟩,⟨some 3,.mv (.tmp 25),none⟩]) .ret),[.tmp 3]⟩
theorem GN:aB Tryz.prog Tryz.f146 2 [0,1,2,3] [] true ([],[])=some EI:=by kernel_rfl
theorem at31:Tryz.prog.funcs[146]?=some Tryz.f146:=by kernel_rfl
def LX:bC:=⟨3,4,.seq (.region [⟨some 3,.mv (.cst (.bool false)),none⟩]) (.seq (.region [⟨none,.mv (.var 0),none⟩,⟨none,.mv (.var 1),none⟩,⟨none,.bin .geq (.tmp 0) (.tmp 1),none⟩,⟨none,.mv (.tmp 2),none⟩,⟨none,.mv (.var 0),some (.tmp 3,true)⟩,⟨none,.mv (.var 2),some (.tmp 3,true)⟩,⟨none,.bin .leq (.tmp 4) (.tmp 5),some (.tmp 3,true)⟩,⟨none,.pick (.tmp 3) (.tmp 6) (.cst (.bool false)),none⟩,⟨some 3,.mv (.tmp 7),none⟩]) .ret),[.tmp 3]⟩
theorem GM:aB Tryz.prog Tryz.f60 3 [0,1,2,6] [] true ([],[])=some LX:=by kernel_rfl
theorem at32:Tryz.prog.funcs[60]?=some Tryz.f60:=by kernel_rfl
def LW:bC:=⟨2,3,.seq (.region [⟨some 2,.mv (.cst (.bool false)),none⟩]) (.seq (.region [⟨none,.mv (.var 0),none⟩,⟨none,.mv (.var 1),none⟩,⟨none,.call (.fn 171) [.tmp 0,.tmp 1],none⟩,⟨none,.bin .geq (.tmp 2) (.cst (.int .i64 0)),none⟩,⟨some 2,.mv (.tmp 3),none⟩]) .ret),[.tmp 2]⟩
theorem GL:aB Tryz.prog Tryz.f147 2 [0,1,4] [] true ([],[])=some LW:=by kernel_rfl
theorem at33:Tryz.prog.funcs[147]?=some Tryz.f147:=by kernel_rfl
def DA:bC:=⟨1,2,.seq (.region [⟨some 1,.mv (.cst (.bool false)),none⟩]) (.seq (.region [⟨none,.mv (.var 0),none⟩,⟨none,.call (.fn 60) [.tmp 0,.cst (.int .i64 0),.cst (.int .i64 1000000000)],none⟩,⟨none,.un .not (.tmp 1),none⟩,⟨some 1,.mv (.tmp 2),none⟩]) .ret),[.tmp 1]⟩
theorem vR:aB Tryz.prog Tryz.f59 1 [0,2] [] true ([],[])=some DA:=by kernel_rfl
theorem Kv:Tryz.prog.funcs[59]?=some Tryz.f59:=by kernel_rfl
def xN:bC:=⟨2,3,.seq (.region [⟨some 2,.mv (.cst (.bool false)),none⟩]) (.seq (.region [⟨none,.mv (.var 0),none⟩,⟨none,.mv (.var 1),none⟩,⟨none,.call (.fn 101) [.tmp 0,.tmp 1],none⟩,⟨none,.bin .geq (.tmp 2) (.cst (.int .i64 0)),none⟩,⟨some 2,.mv (.tmp 3),none⟩]) .ret),[.tmp 2]⟩
theorem sE:aB Tryz.prog Tryz.f61 2 [0,1,4] [] true ([],[])=some xN:=by kernel_rfl
theorem Ic:Tryz.prog.funcs[61]?=some Tryz.f61:=by kernel_rfl
def mq:MC:=.seq (.region [⟨some 8,.bin .lss (.var 7) (.var 6),none⟩]) (.seq (.cond (.var 8) .skip (.exit 0)) (.seq (.seq (.block 1 (.seq (.region [⟨none,.indexSl 6 (.var 5) (.var 7),none⟩,⟨none,.load true 6 (.tmp 0),none⟩,⟨some 3,.alloc 6 (.agg [.int .i64 0,.int .i64 0,.int .i64 0,.int .i64 0,.int .i64 0,.int .i64 0]),none⟩,⟨none,.store 6 (.var 3) (.tmp 1),none⟩]) (.seq (.region [⟨none,.mv (.var 1),none⟩,⟨none,.fieldAddr 0 (.var 3),none⟩,⟨none,.fieldAddr 0 (.tmp 1),none⟩,⟨none,.load false 1 (.tmp 2),none⟩,⟨none,.indexSl 1 (.tmp 0) (.tmp 3),none⟩,⟨none,.load false 1 (.tmp 4),none⟩,⟨none,.fieldAddr 5 (.var 3),none⟩,⟨none,.load false 1 (.tmp 6),none⟩,⟨none,.bin .add (.tmp 5) (.tmp 7),none⟩,⟨some 4,.mv (.tmp 8),none⟩]) (.seq (.region [⟨none,.mv (.var 4),none⟩,⟨none,.mv (.var 1),none⟩,⟨none,.fieldAddr 0 (.var 3),none⟩,⟨none,.fieldAddr 1 (.tmp 2),none⟩,⟨none,.load false 1 (.tmp 3),none⟩,⟨none,.indexSl 1 (.tmp 1) (.tmp 4),none⟩,⟨none,.load false 1 (.tmp 5),none⟩,⟨some 9,.bin .gtr (.tmp 0) (.tmp 6),none⟩]) (.cond (.var 9) (.region [⟨none,.mv (.var 1),none⟩,⟨none,.fieldAddr 0 (.var 3),none⟩,⟨none,.fieldAddr 1 (.tmp 1),none⟩,⟨none,.load false 1 (.tmp 2),none⟩,⟨none,.mv (.var 4),none⟩,⟨none,.indexSl 1 (.tmp 0) (.tmp 3),none⟩,⟨none,.store 1 (.tmp 5) (.tmp 4),none⟩,⟨some 2,.mv (.cst (.bool true)),none⟩]) .skip))))) (.kill [0,3,4,8,9])) (.region [⟨none,.bin .add (.var 7) (.cst (.int .i64 1)),none⟩,⟨some 7,.mv (.tmp 0),none⟩])))
def uP:bC:=⟨2,10,.seq (.region [⟨some 2,.mv (.cst (.bool false)),none⟩]) (.seq (.seq (.region [⟨none,.mv (.var 0),none⟩,⟨none,.nilCheck (.tmp 0),none⟩,⟨none,.fieldAddr 1 (.tmp 1),none⟩,⟨some 5,.load false 1 (.tmp 2),none⟩,⟨some 6,.lenSl (.var 5),none⟩,⟨some 7,.mv (.cst (.int .i64 0)),none⟩]) (.seq (.block 0 (.loop [0,3,4,8,9] mq)) (.kill [0,1,3,4,5,6,7,8,9]))) (.seq (.region [⟨none,.mv (.var 2),none⟩,⟨some 2,.mv (.tmp 0),none⟩]) .ret)),[.tmp 2]⟩
def lq:List Nat:=[0,3,4,8,9]
abbrev lN (v1 v2 v5 v6 v7:AV):List AV:=[.undef,v1,v2,.undef,.undef,v5,v6,v7,.undef,.undef]
theorem zt {d0 v1 v2 d3 d4 v5 v6 v7 d8 d9:AV}:clear lq [d0,v1,v2,d3,d4,v5,v6,v7,d8,d9]=lN v1 v2 v5 v6 v7:=rfl
theorem FL {E:Env} {fuel:Nat} {A:ac} {o:Out} {k:List KC} {d0 v1 v2 d3 d4 v5 v6 v7 d8 d9:AV} (h:bM (evC E fuel mq) lq fuel (lN v1 v2 v5 v6 v7) A=some o) :
  run E fuel (.code (.loop [0,3,4,8,9] mq) :: k) [d0,v1,v2,d3,d4,v5,v6,v7,d8,d9] A=after E fuel k o:=aU lq _ _ (by rw [zt]; exact h)
theorem GK:aB Tryz.prog Tryz.f62 2 [0,1,4,6,7,11,12,13,14,33] [] true ([[0,3,4,8,9]],[[0,3,4,8,9],[0,1,3,4,5,6,7,8,9]])=some uP:=by kernel_rfl
theorem at37:Tryz.prog.funcs[62]?=some Tryz.f62:=by kernel_rfl
def r9:bC:=⟨1,3,.seq (.region [⟨some 1,.mv (.cst .nilS),none⟩]) (.seq (.seq (.region [⟨none,.mv (.var 0),none⟩,⟨some 2,.eqNil 1 false (.tmp 0),none⟩]) (.cond (.var 2) (.seq (.region [⟨some 1,.mv (.cst .nilS),none⟩]) .ret) .skip)) (.seq (.region [⟨none,.buildSlice 1 [],none⟩,⟨none,.mv (.var 0),none⟩,⟨none,.append 1 8 (.tmp 0) (.tmp 1),none⟩,⟨some 1,.mv (.tmp 2),none⟩]) .ret)),[.tmp 1]⟩
theorem vQ:aB Tryz.prog Tryz.f63 1 [0,2,4] [] true ([],[])=some r9:=by kernel_rfl
theorem Ku:Tryz.prog.funcs[63]?=some Tryz.f63:=by kernel_rfl
def mp:MC:=.seq (.region [⟨some 15,.bin .lss (.var 14) (.var 13),none⟩]) (.seq (.cond (.var 15) .skip (.exit 0)) (.seq (.seq (.block 1 (.seq (.region [⟨none,.indexSl 1 (.var 12) (.var 14),none⟩,⟨none,.load false 1 (.tmp 0),none⟩,⟨some 8,.mv (.tmp 1),none⟩]) (.seq (.region [⟨none,.load false 1 (.var 2),none⟩,⟨none,.nilCheck (.tmp 0),none⟩,⟨none,.fieldAddr 1 (.tmp 1),none⟩,⟨none,.load false 1 (.tmp 2),none⟩,⟨none,.mv (.var 8),none⟩,⟨none,.indexSl 6 (.tmp 3) (.tmp 4),none⟩,⟨none,.load true 6 (.tmp 5),none⟩,⟨some 9,.alloc 6 (.agg [.int .i64 0,.int .i64 0,.int .i64 0,.int .i64 0,.int .i64 0,.int .i64 0]),none⟩,⟨none,.store 6 (.var 9) (.tmp 6),none⟩]) (.seq (.seq (.region [⟨none,.fieldAddr 0 (.var 9),none⟩,⟨none,.fieldAddr 0 (.tmp 0),none⟩,⟨none,.load false 1 (.tmp 1),none⟩,⟨none,.mv (.var 7),none⟩,⟨some 16,.bin .neq (.tmp 2) (.tmp 3),none⟩]) (.cond (.var 16) (.seq (.region [⟨some 3,.mv (.cst (.int .i64 0)),none⟩,⟨some 4,.mv (.cst (.int .i64 0)),none⟩,⟨some 5,.mv (.cst (.bool false)),none⟩]) .ret) .skip)) (.region [⟨none,.mv (.var 3),none⟩,⟨none,.fieldAddr 5 (.var 9),none⟩,⟨none,.load false 1 (.tmp 1),none⟩,⟨none,.bin .add (.tmp 0) (.tmp 2),none⟩,⟨none,.mv (.var 4),none⟩,⟨none,.fieldAddr 0 (.var 9),none⟩,⟨none,.fieldAddr 3 (.tmp 5),none⟩,⟨none,.load false 1 (.tmp 6),none⟩,⟨none,.bin .add (.tmp 4) (.tmp 7),none⟩,⟨none,.fieldAddr 0 (.var 9),none⟩,⟨none,.fieldAddr 1 (.tmp 9),none⟩,⟨none,.load false 1 (.tmp 10),none⟩,⟨some 3,.mv (.tmp 3),none⟩,⟨some 4,.mv (.tmp 8),none⟩,⟨some 7,.mv (.tmp 11),none⟩]))))) (.kill [0,1,5,6,8,9,10,11,15,16])) (.region [⟨none,.bin .add (.var 14) (.cst (.int .i64 1)),none⟩,⟨some 14,.mv (.tmp 0),none⟩])))
def wR:bC:=⟨2,17,.seq (.region [⟨some 2,.box (.var 0),none⟩,⟨some 3,.mv (.cst (.int .i64 0)),none⟩,⟨some 4,.mv (.cst (.int .i64 0)),none⟩,⟨some 5,.mv (.cst (.bool false)),none⟩]) (.seq (.seq (.region [⟨none,.mv (.var 1),none⟩,⟨none,.lenSl (.tmp 0),none⟩,⟨none,.call (.fn 60) [.tmp 1,.cst (.int .i64 1),.cst (.int .i64 200)],none⟩,⟨some 10,.un .not (.tmp 2),none⟩]) (.cond (.var 10) (.seq (.region [⟨some 3,.mv (.cst (.int .i64 0)),none⟩,⟨some 4,.mv (.cst (.int .i64 0)),none⟩,⟨some 5,.mv (.cst (.bool false)),none⟩]) .ret) .skip)) (.seq (.region [⟨none,.makeFunc (.func 100) [] [.var 2],none⟩,⟨some 6,.mv (.tmp 0),none⟩]) (.seq (.seq (.region [⟨none,.mv (.var 1),none⟩,⟨none,.mv (.var 6),none⟩,⟨some 11,.call (.fn 61) [.tmp 0,.tmp 1],none⟩]) (.cond (.var 11) (.seq (.region [⟨some 3,.mv (.cst (.int .i64 0)),none⟩,⟨some 4,.mv (.cst (.int .i64 0)),none⟩,⟨some 5,.mv (.cst (.bool false)),none⟩]) .ret) .skip)) (.seq (.region [⟨none,.load false 1 (.var 2),none⟩,⟨none,.nilCheck (.tmp 0),none⟩,⟨none,.fieldAddr 1 (.tmp 1),none⟩,⟨none,.load false 1 (.tmp 2),none⟩,⟨none,.mv (.var 1),none⟩,⟨none,.mv (.var 1),none⟩,⟨none,.lenSl (.tmp 5),none⟩,⟨none,.bin .sub (.tmp 6) (.cst (.int .i64 1)),none⟩,⟨none,.indexSl 1 (.tmp 4) (.tmp 7),none⟩,⟨none,.load false 1 (.tmp 8),none⟩,⟨none,.indexSl 6 (.tmp 3) (.tmp 9),none⟩,⟨none,.fieldAddr 0 (.tmp 10),none⟩,⟨none,.fieldAddr 1 (.tmp 11),none⟩,⟨none,.load false 1 (.tmp 12),none⟩,⟨some 7,.mv (.tmp 13),none⟩]) (.seq (.seq (.region [⟨some 12,.mv (.var 1),none⟩,⟨some 13,.lenSl (.var 12),none⟩,⟨some 14,.mv (.cst (.int .i64 0)),none⟩]) (.seq (.block 0 (.loop [0,1,5,6,8,9,10,11,15,16] mp)) (.kill [0,1,2,5,6,7,8,9,10,11,12,13,14,15,16]))) (.seq (.region [⟨none,.mv (.var 3),none⟩,⟨none,.mv (.var 4),none⟩,⟨some 3,.mv (.tmp 0),none⟩,⟨some 4,.mv (.tmp 1),none⟩,⟨some 5,.mv (.cst (.bool true)),none⟩]) .ret)))))),[.tmp 3,.tmp 4,.tmp 5]⟩
def lm:List Nat:=[0,1,5,6,8,9,10,11,15,16]
abbrev lM (v2 v3 v4 v7 v12 v13 v14:AV):List AV:=[.undef,.undef,v2,v3,v4,.undef,.undef,v7,.undef,.undef,.undef,.undef,v12,v13,v14,.undef,.undef]
theorem zr {d0 d1 v2 v3 v4 d5 d6 v7 d8 d9 d10 d11 v12 v13 v14 d15 d16:AV}:clear lm [d0,d1,v2,v3,v4,d5,d6,v7,d8,d9,d10,d11,v12,v13,v14,d15,d16]=lM v2 v3 v4 v7 v12 v13 v14:=rfl
theorem yW {E:Env} {fuel:Nat} {A:ac} {o:Out} {k:List KC} {d0 d1 v2 v3 v4 d5 d6 v7 d8 d9 d10 d11 v12 v13 v14 d15 d16:AV} (h:bM (evC E fuel mp) lm fuel (lM v2 v3 v4 v7 v12 v13 v14) A=some o) :
  run E fuel (.code (.loop [0,1,5,6,8,9,10,11,15,16] mp) :: k) [d0,d1,v2,v3,v4,d5,d6,v7,d8,d9,d10,d11,v12,v13,v14,d15,d16] A=after E fuel k o:=aU lm _ _ (by rw [zr]; exact h)
theorem vP:aB Tryz.prog Tryz.f54 2 [0,1,2,4,5,6,7,8,10,11,15,19,34,35,36,37,51] [] true ([[0,1,5,6,8,9,10,11,15,16]],[[0,1,5,6,8,9,10,11,15,16],[0,1,2,5,6,7,8,9,10,11,12,13,14,15,16]])=some wR:=by kernel_rfl
theorem Kt:Tryz.prog.funcs[54]?=some Tryz.f54:=by kernel_rfl
def uO:bC:=⟨1,2,.seq (.region [⟨some 1,.mv (.cst (.bool false)),none⟩]) (.seq (.region [⟨none,.mv (.var 0),none⟩,⟨none,.call (.fn 60) [.tmp 0,.cst (.int .i64 (-1000000)),.cst (.int .i64 1000000)],none⟩,⟨some 1,.mv (.tmp 1),none⟩]) .ret),[.tmp 1]⟩
theorem qb:aB Tryz.prog Tryz.f90 1 [0,2] [] true ([],[])=some uO:=by kernel_rfl
theorem G2:Tryz.prog.funcs[90]?=some Tryz.f90:=by kernel_rfl
def uN:bC:=⟨2,5,.seq (.region [⟨some 2,.box (.var 0),none⟩,⟨some 3,.box (.var 1),none⟩,⟨some 4,.mv (.cst .nilF),none⟩]) (.seq (.region [⟨none,.makeFunc (.func 148) [] [.var 2,.var 3],none⟩,⟨some 4,.mv (.tmp 0),none⟩]) .ret),[.tmp 4]⟩
theorem qa:aB Tryz.prog Tryz.f98 2 [0,1,2,3,4] [] true ([],[])=some uN:=by kernel_rfl
theorem G1:Tryz.prog.funcs[98]?=some Tryz.f98:=by kernel_rfl
def dJ:MC:=.seq (.seq (.region [⟨none,.load false 1 (.var 11),none⟩,⟨some 14,.bin .geq (.tmp 0) (.cst (.int .i64 0)),none⟩]) (.cond (.var 14) .skip (.exit 0))) (.seq (.seq (.block 1 (.seq (.region [⟨none,.mv (.var 10),none⟩,⟨none,.makeFunc (.func 151) [] [.var 5,.var 11,.var 9],none⟩,⟨none,.call (.fn 150) [.tmp 0,.tmp 1],none⟩,⟨some 12,.mv (.tmp 2),none⟩]) (.seq (.seq (.region [⟨none,.mv (.var 12),none⟩,⟨some 15,.bin .lss (.tmp 0) (.cst (.int .i64 0)),none⟩]) (.cond (.var 15) (.seq (.region [⟨some 6,.mv (.cst .nilS),none⟩,⟨some 7,.mv (.cst (.bool false)),none⟩]) .ret) .skip)) (.seq (.region [⟨none,.mv (.var 10),none⟩,⟨none,.mv (.var 12),none⟩,⟨none,.indexSl 6 (.tmp 0) (.tmp 1),none⟩,⟨none,.load true 6 (.tmp 2),none⟩,⟨some 13,.alloc 6 (.agg [.int .i64 0,.int .i64 0,.int .i64 0,.int .i64 0,.int .i64 0,.int .i64 0]),none⟩,⟨none,.store 6 (.var 13) (.tmp 3),none⟩]) (.regionD [] [⟨none,.mv (.var 8),none⟩,⟨none,.fieldAddr 4 (.var 13),none⟩,⟨none,.load false 1 (.tmp 1),none⟩,⟨none,.buildF 1 [.tmp 2],none⟩,⟨none,.append 1 8 (.tmp 0) (.tmp 3),none⟩,⟨none,.load false 1 (.var 9),none⟩,⟨none,.fieldAddr 5 (.var 13),none⟩,⟨none,.load false 1 (.tmp 6),none⟩,⟨none,.bin .add (.tmp 5) (.tmp 7),none⟩,⟨none,.mv (.var 0),none⟩,⟨none,.nilCheck (.tmp 9),none⟩,⟨none,.fieldAddr 2 (.tmp 10),none⟩,⟨none,.load false 1 (.tmp 11),none⟩,⟨none,.fieldAddr 0 (.var 13),none⟩,⟨none,.fieldAddr 1 (.tmp 13),none⟩,⟨none,.load false 1 (.tmp 14),none⟩,⟨none,.indexSl 1 (.tmp 12) (.tmp 15),none⟩,⟨none,.load false 1 (.tmp 16),none⟩,⟨some 8,.mv (.tmp 4),none⟩,⟨none,.store 1 (.var 9) (.tmp 8),none⟩,⟨some 10,.mv (.tmp 17),none⟩] [(4,5),(4,6),(4,7),(4,11),(4,12),(4,13),(4,14),(4,15),(4,16),(4,17),(11,19),(12,19),(13,19),(14,19),(15,19),(16,19),(17,19)]))))) (.kill [1,2,3,4,6,7,12,13,14,15,16])) (.seq (.seq (.region [⟨some 16,.load false 1 (.var 11),none⟩]) (.region [⟨some 11,.alloc 1 (.int .i64 0),none⟩,⟨none,.store 1 (.var 11) (.var 16),none⟩])) (.region [⟨none,.load false 1 (.var 11),none⟩,⟨none,.bin .sub (.tmp 0) (.cst (.int .i64 1)),none⟩,⟨none,.store 1 (.var 11) (.tmp 1),none⟩])))
def wQ:bC:=⟨4,17,.seq (.region [⟨some 4,.box (.var 1),none⟩,⟨some 5,.box (.var 2),none⟩,⟨some 6,.mv (.cst .nilS),none⟩,⟨some 7,.mv (.cst (.bool false)),none⟩]) (.seq (.region [⟨some 8,.mv (.cst .nilS),none⟩]) (.seq (.region [⟨some 9,.alloc 1 (.int .i64 0),none⟩,⟨none,.store 1 (.var 9) (.cst (.int .i64 0)),none⟩]) (.seq (.region [⟨none,.load true 6 (.var 4),none⟩,⟨none,.buildSlice 6 [.tmp 0],none⟩,⟨some 10,.mv (.tmp 1),none⟩]) (.seq (.seq (.region [⟨none,.mv (.var 3),none⟩,⟨none,.bin .sub (.tmp 0) (.cst (.int .i64 1)),none⟩,⟨some 11,.alloc 1 (.int .i64 0),none⟩,⟨none,.store 1 (.var 11) (.tmp 1),none⟩]) (.seq (.block 0 (.loop [1,2,3,4,6,7,12,13,14,15,16] dJ)) (.kill [0,1,2,3,4,5,6,7,9,10,11,12,13,14,15,16]))) (.seq (.region [⟨none,.mv (.var 8),none⟩,⟨some 6,.mv (.tmp 0),none⟩,⟨some 7,.mv (.cst (.bool true)),none⟩]) .ret))))),[.tmp 6,.tmp 7]⟩
def dh:List Nat:=[1,2,3,4,6,7,12,13,14,15,16]
abbrev ei (v0 v5 v8 v9 v10 v11:AV):List AV:=[v0,.undef,.undef,.undef,.undef,v5,.undef,.undef,v8,v9,v10,v11,.undef,.undef,.undef,.undef,.undef]
theorem mW {v0 d1 d2 d3 d4 v5 d6 d7 v8 v9 v10 v11 d12 d13 d14 d15 d16:AV}:clear dh [v0,d1,d2,d3,d4,v5,d6,d7,v8,v9,v10,v11,d12,d13,d14,d15,d16]=ei v0 v5 v8 v9 v10 v11:=rfl
theorem pP {E:Env} {fuel:Nat} {A:ac} {o:Out} {k:List KC} {v0 d1 d2 d3 d4 v5 d6 d7 v8 v9 v10 v11 d12 d13 d14 d15 d16:AV} (h:bM (evC E fuel dJ) dh fuel (ei v0 v5 v8 v9 v10 v11) A=some o) :
  run E fuel (.code (.loop [1,2,3,4,6,7,12,13,14,15,16] dJ) :: k) [v0,d1,d2,d3,d4,v5,d6,d7,v8,v9,v10,v11,d12,d13,d14,d15,d16] A=after E fuel k o:=aU dh _ _ (by rw [mW]; exact h)
theorem vO:aB Tryz.prog Tryz.f99 4 [0,1,2,3,5,6,8,9,10,11,12,13,14,15,21,28,51] [] true ([[1,2,3,4,6,7,12,13,14,15,16]],[[1,2,3,4,6,7,12,13,14,15,16],[0,1,2,3,4,5,6,7,9,10,11,12,13,14,15,16]])=some wQ:=by kernel_rfl
theorem Ks:Tryz.prog.funcs[99]?=some Tryz.f99:=by kernel_rfl
def ij:MC:=.seq (.region [⟨some 6,.bin .lss (.var 5) (.var 4),none⟩]) (.seq (.cond (.var 6) .skip (.exit 0)) (.seq (.seq (.block 1 (.seq (.region [⟨none,.mv (.var 5),none⟩,⟨some 3,.mv (.tmp 0),none⟩]) (.seq (.region [⟨none,.mv (.var 1),none⟩,⟨none,.mv (.var 0),none⟩,⟨none,.mv (.var 3),none⟩,⟨none,.indexSl 4 (.tmp 1) (.tmp 2),none⟩,⟨none,.load true 4 (.tmp 3),none⟩,⟨some 7,.call (.tmp 0) [.tmp 4],none⟩]) (.cond (.var 7) (.seq (.region [⟨none,.mv (.var 3),none⟩,⟨some 2,.mv (.tmp 0),none⟩]) .ret) .skip)))) (.kill [2,3,6,7])) (.region [⟨none,.bin .add (.var 5) (.cst (.int .i64 1)),none⟩,⟨some 5,.mv (.tmp 0),none⟩])))
def xM:bC:=⟨2,8,.seq (.region [⟨some 2,.mv (.cst (.int .i64 0)),none⟩]) (.seq (.seq (.region [⟨none,.mv (.var 0),none⟩,⟨some 4,.lenSl (.tmp 0),none⟩,⟨some 5,.mv (.cst (.int .i64 0)),none⟩]) (.seq (.block 0 (.loop [2,3,6,7] ij)) (.kill [0,1,2,3,4,5,6,7]))) (.seq (.region [⟨some 2,.mv (.cst (.int .i64 (-1))),none⟩]) .ret)),[.tmp 2]⟩
def gC:List Nat:=[2,3,6,7]
abbrev kg (v0 v1 v4 v5:AV):List AV:=[v0,v1,.undef,.undef,v4,v5,.undef,.undef]
theorem zq {v0 v1 d2 d3 v4 v5 d6 d7:AV}:clear gC [v0,v1,d2,d3,v4,v5,d6,d7]=kg v0 v1 v4 v5:=rfl
theorem yV {E:Env} {fuel:Nat} {A:ac} {o:Out} {k:List KC} {v0 v1 d2 d3 v4 v5 d6 d7:AV} (h:bM (evC E fuel ij) gC fuel (kg v0 v1 v4 v5) A=some o) :
  run E fuel (.code (.loop [2,3,6,7] ij) :: k) [v0,v1,d2,d3,v4,v5,d6,d7] A=after E fuel k o:=aU gC _ _ (by rw [zq]; exact h)
theorem vN:aB Tryz.prog Tryz.f171 2 [0,1,4,5,7,8,9,16] [] true ([[2,3,6,7]],[[2,3,6,7],[0,1,2,3,4,5,6,7]])=some xM:=by kernel_rfl
theorem Kr:Tryz.prog.funcs[171]?=some Tryz.f171:=by kernel_rfl
def dC:MC:=.seq (.region [⟨some 6,.bin .lss (.var 5) (.var 4),none⟩]) (.seq (.cond (.var 6) .skip (.exit 0)) (.seq (.seq (.block 1 (.seq (.region [⟨none,.mv (.var 5),none⟩,⟨some 3,.mv (.tmp 0),none⟩]) (.seq (.region [⟨none,.mv (.var 1),none⟩,⟨none,.mv (.var 0),none⟩,⟨none,.mv (.var 3),none⟩,⟨none,.indexSl 1 (.tmp 1) (.tmp 2),none⟩,⟨none,.load false 1 (.tmp 3),none⟩,⟨some 7,.call (.tmp 0) [.tmp 4],none⟩]) (.cond (.var 7) (.seq (.region [⟨none,.mv (.var 3),none⟩,⟨some 2,.mv (.tmp 0),none⟩]) .ret) .skip)))) (.kill [2,3,6,7])) (.region [⟨none,.bin .add (.var 5) (.cst (.int .i64 1)),none⟩,⟨some 5,.mv (.tmp 0),none⟩])))
def tH:bC:=⟨2,8,.seq (.region [⟨some 2,.mv (.cst (.int .i64 0)),none⟩]) (.seq (.seq (.region [⟨none,.mv (.var 0),none⟩,⟨some 4,.lenSl (.tmp 0),none⟩,⟨some 5,.mv (.cst (.int .i64 0)),none⟩]) (.seq (.block 0 (.loop [2,3,6,7] dC)) (.kill [0,1,2,3,4,5,6,7]))) (.seq (.region [⟨some 2,.mv (.cst (.int .i64 (-1))),none⟩]) .ret)),[.tmp 2]⟩
def dN:List Nat:=[2,3,6,7]
abbrev eh (v0 v1 v4 v5:AV):List AV:=[v0,v1,.undef,.undef,v4,v5,.undef,.undef]
theorem vX {v0 v1 d2 d3 v4 v5 d6 d7:AV}:clear dN [v0,v1,d2,d3,v4,v5,d6,d7]=eh v0 v1 v4 v5:=rfl
theorem si {E:Env} {fuel:Nat} {A:ac} {o:Out} {k:List KC} {v0 v1 d2 d3 v4 v5 d6 d7:AV} (h:bM (evC E fuel dC) dN fuel (eh v0 v1 v4 v5) A=some o) :
  run E fuel (.code (.loop [2,3,6,7] dC) :: k) [v0,v1,d2,d3,v4,v5,d6,d7] A=after E fuel k o:=aU dN _ _ (by rw [vX]; exact h)
theorem sD:aB Tryz.prog Tryz.f101 2 [0,1,4,5,7,8,9,16] [] true ([[2,3,6,7]],[[2,3,6,7],[0,1,2,3,4,5,6,7]])=some tH:=by kernel_rfl
theorem Ib:Tryz.prog.funcs[101]?=some Tryz.f101:=by kernel_rfl
def BQ:bC:=⟨2,3,.seq (.region [⟨some 2,.mv (.cst (.bool false)),none⟩]) (.seq (.region [⟨none,.mv (.var 0),none⟩,⟨none,.load false 1 (.var 1),none⟩,⟨none,.nilCheck (.tmp 1),none⟩,⟨none,.fieldAddr 1 (.tmp 2),none⟩,⟨none,.load false 1 (.tmp 3),none⟩,⟨none,.lenSl (.tmp 4),none⟩,⟨none,.bin .sub (.tmp 5) (.cst (.int .i64 1)),none⟩,⟨none,.call (.fn 60) [.tmp 0,.cst (.int .i64 0),.tmp 6],none⟩,⟨none,.un .not (.tmp 7),none⟩,⟨some 2,.mv (.tmp 8),none⟩]) .ret),[.tmp 2]⟩
theorem vM:aB Tryz.prog Tryz.f100 2 [0,1,3] [] true ([],[])=some BQ:=by kernel_rfl
theorem Kq:Tryz.prog.funcs[100]?=some Tryz.f100:=by kernel_rfl
def ig:MC:=.seq (.region [⟨some 9,.bin .lss (.var 8) (.var 7),none⟩]) (.seq (.cond (.var 9) .skip (.exit 0)) (.seq (.seq (.block 1 (.seq (.region [⟨none,.indexSl 6 (.var 6) (.var 8),none⟩,⟨none,.load true 6 (.tmp 0),none⟩,⟨some 4,.alloc 6 (.agg [.int .i64 0,.int .i64 0,.int .i64 0,.int .i64 0,.int .i64 0,.int .i64 0]),none⟩,⟨none,.store 6 (.var 4) (.tmp 1),none⟩]) (.seq (.seq (.region [⟨none,.mv (.var 3),none⟩,⟨none,.fieldAddr 0 (.var 4),none⟩,⟨none,.fieldAddr 0 (.tmp 1),none⟩,⟨none,.load false 1 (.tmp 2),none⟩,⟨none,.lookup 1 true .nilS (.tmp 0) (.tmp 3),none⟩,⟨none,.mv (.tmp 4),none⟩,⟨none,.extract (.tmp 5) 0,none⟩,⟨none,.extract (.tmp 5) 1,none⟩,⟨none,.mv (.tmp 6),none⟩,⟨some 5,.mv (.tmp 7),none⟩]) (.seq (.region [⟨none,.mv (.var 5),none⟩,⟨some 10,.un .not (.tmp 0),none⟩]) (.cond (.var 10) (.region [⟨none,.mv (.var 3),none⟩,⟨none,.fieldAddr 0 (.var 4),none⟩,⟨none,.fieldAddr 0 (.tmp 1),none⟩,⟨none,.load false 1 (.tmp 2),none⟩,⟨none,.load false 1 (.var 1),none⟩,⟨none,.fieldAddr 0 (.var 4),none⟩,⟨none,.fieldAddr 0 (.tmp 5),none⟩,⟨none,.load false 1 (.tmp 6),none⟩,⟨none,.load false 1 (.var 2),none⟩,⟨none,.call (.fn 149) [.tmp 4,.tmp 7,.tmp 8],none⟩,⟨none,.mapUpdate 1 (.tmp 0) (.tmp 3) (.tmp 9),none⟩]) .skip))) (.seq (.region [⟨none,.mv (.var 0),none⟩,⟨none,.load true 6 (.var 4),none⟩,⟨none,.mv (.var 3),none⟩,⟨none,.fieldAddr 0 (.var 4),none⟩,⟨none,.fieldAddr 0 (.tmp 3),none⟩,⟨none,.load false 1 (.tmp 4),none⟩,⟨none,.lookup 1 false .nilS (.tmp 2) (.tmp 5),none⟩,⟨none,.call (.tmp 0) [.tmp 1,.tmp 6],none⟩,⟨some 11,.un .not (.tmp 7),none⟩]) (.cond (.var 11) .ret .skip))))) (.kill [4,5,9,10,11])) (.region [⟨none,.bin .add (.var 8) (.cst (.int .i64 1)),none⟩,⟨some 8,.mv (.tmp 0),none⟩])))
def yE:bC:=⟨3,12,.seq (.region [⟨none,.makeMap,none⟩,⟨some 3,.mv (.tmp 0),none⟩]) (.seq (.region [⟨none,.load false 1 (.var 1),none⟩,⟨none,.nilCheck (.tmp 0),none⟩,⟨none,.fieldAddr 1 (.tmp 1),none⟩,⟨some 6,.load false 1 (.tmp 2),none⟩,⟨some 7,.lenSl (.var 6),none⟩,⟨some 8,.mv (.cst (.int .i64 0)),none⟩]) (.seq (.block 0 (.loop [4,5,9,10,11] ig)) (.kill [0,1,2,3,4,5,6,7,8,9,10,11]))),[]⟩
def fg:List Nat:=[4,5,9,10,11]
abbrev iU (v0 v1 v2 v3 v6 v7 v8:AV):List AV:=[v0,v1,v2,v3,.undef,.undef,v6,v7,v8,.undef,.undef,.undef]
theorem vW {v0 v1 v2 v3 d4 d5 v6 v7 v8 d9 d10 d11:AV}:clear fg [v0,v1,v2,v3,d4,d5,v6,v7,v8,d9,d10,d11]=iU v0 v1 v2 v3 v6 v7 v8:=rfl
theorem yU {E:Env} {fuel:Nat} {A:ac} {o:Out} {k:List KC} {v0 v1 v2 v3 d4 d5 v6 v7 v8 d9 d10 d11:AV} (h:bM (evC E fuel ig) fg fuel (iU v0 v1 v2 v3 v6 v7 v8) A=some o) :
  run E fuel (.code (.loop [4,5,9,10,11] ig) :: k) [v0,v1,v2,v3,d4,d5,v6,v7,v8,d9,d10,d11] A=after E fuel k o:=aU fg _ _ (by rw [vW]; exact h)
theorem vL:aB Tryz.prog Tryz.f148 3 [0,1,2,4,6,8,13,14,15,16,28,47] [149] true ([[4,5,9,10,11]],[[4,5,9,10,11],[0,1,2,3,4,5,6,7,8,9,10,11]])=some yE:=by kernel_rfl
theorem Kp:Tryz.prog.funcs[148]?=some Tryz.f148:=by kernel_rfl
def kr:MC:=.seq (.region [⟨some 14,.bin .lss (.var 13) (.var 12),none⟩]) (.seq (.cond (.var 14) .skip (.exit 2)) (.seq (.seq (.block 3 (.seq (.region [⟨none,.indexSl 6 (.var 11) (.var 13),none⟩,⟨none,.load true 6 (.tmp 0),none⟩,⟨some 7,.alloc 6 (.agg [.int .i64 0,.int .i64 0,.int .i64 0,.int .i64 0,.int .i64 0,.int .i64 0]),none⟩,⟨none,.store 6 (.var 7) (.tmp 1),none⟩]) (.region [⟨none,.mv (.var 6),none⟩,⟨none,.fieldAddr 0 (.var 7),none⟩,⟨none,.fieldAddr 0 (.tmp 1),none⟩,⟨none,.load false 1 (.tmp 2),none⟩,⟨none,.mv (.var 6),none⟩,⟨none,.fieldAddr 0 (.var 7),none⟩,⟨none,.fieldAddr 0 (.tmp 5),none⟩,⟨none,.load false 1 (.tmp 6),none⟩,⟨none,.indexSl 2 (.tmp 4) (.tmp 7),none⟩,⟨none,.load true 2 (.tmp 8),none⟩,⟨none,.mv (.var 5),none⟩,⟨none,.fieldAddr 0 (.var 7),none⟩,⟨none,.fieldAddr 1 (.tmp 11),none⟩,⟨none,.load false 1 (.tmp 12),none⟩,⟨none,.indexSl 2 (.tmp 10) (.tmp 13),none⟩,⟨none,.load true 2 (.tmp 14),none⟩,⟨none,.fieldAddr 5 (.var 7),none⟩,⟨none,.load false 1 (.tmp 16),none⟩,⟨none,.call (.fn 152) [.tmp 15,.tmp 17],none⟩,⟨none,.call (.fn 172) [.tmp 9,.tmp 18],none⟩,⟨none,.indexSl 2 (.tmp 0) (.tmp 3),none⟩,⟨none,.store 2 (.tmp 20) (.tmp 19),none⟩]))) (.kill [1,2,3,7,10,14])) (.region [⟨none,.bin .add (.var 13) (.cst (.int .i64 1)),none⟩,⟨some 13,.mv (.tmp 0),none⟩])))
def mn:MC:=.seq (.region [⟨some 10,.bin .lss (.var 9) (.var 8),none⟩]) (.seq (.cond (.var 10) .skip (.exit 0)) (.seq (.seq (.block 1 (.seq (.regionD [152,172] [⟨none,.mv (.var 4),none⟩,⟨none,.mv (.var 4),none⟩,⟨none,.lenSl (.tmp 1),none⟩,⟨none,.bin .sub (.tmp 2) (.cst (.int .i64 1)),none⟩,⟨none,.indexSl 1 (.tmp 0) (.tmp 3),none⟩,⟨none,.load false 1 (.tmp 4),none⟩,⟨none,.mv (.var 0),none⟩,⟨none,.nilCheck (.tmp 6),none⟩,⟨none,.fieldAddr 0 (.tmp 7),none⟩,⟨none,.load false 1 (.tmp 8),none⟩,⟨none,.makeSlice 2 16 (.agg [.int .i64 0,.bool false]) (.tmp 9) (.tmp 9),none⟩,⟨some 5,.mv (.tmp 5),none⟩,⟨some 6,.mv (.tmp 10),none⟩] [(4,10),(5,10)]) (.seq (.seq (.region [⟨none,.mv (.var 0),none⟩,⟨none,.nilCheck (.tmp 0),none⟩,⟨none,.fieldAddr 1 (.tmp 1),none⟩,⟨some 11,.load false 1 (.tmp 2),none⟩,⟨some 12,.lenSl (.var 11),none⟩,⟨some 13,.mv (.cst (.int .i64 0)),none⟩]) (.seq (.block 2 (.loop [1,2,3,7,10,14] kr)) (.kill [1,2,3,5,7,10,11,12,13,14]))) (.region [⟨none,.mv (.var 4),none⟩,⟨none,.mv (.var 6),none⟩,⟨none,.buildSlice 1 [.tmp 1],none⟩,⟨none,.append 1 24 (.tmp 0) (.tmp 2),none⟩,⟨some 4,.mv (.tmp 3),none⟩])))) (.kill [1,2,3,5,6,7,10,11,12,13,14])) (.region [⟨none,.bin .add (.var 9) (.cst (.int .i64 1)),none⟩,⟨some 9,.mv (.tmp 0),none⟩])))
def IH:bC:=⟨3,15,.seq (.region [⟨some 3,.mv (.cst .nilS),none⟩]) (.seq (.region [⟨none,.mv (.var 0),none⟩,⟨none,.nilCheck (.tmp 0),none⟩,⟨none,.fieldAddr 0 (.tmp 1),none⟩,⟨none,.load false 1 (.tmp 2),none⟩,⟨none,.makeSlice 2 16 (.agg [.int .i64 0,.bool false]) (.tmp 3) (.tmp 3),none⟩,⟨none,.buildSlice 1 [.tmp 4],none⟩,⟨some 4,.mv (.tmp 5),none⟩]) (.seq (.region [⟨none,.mv (.var 4),none⟩,⟨none,.indexSl 1 (.tmp 0) (.cst (.int .i64 0)),none⟩,⟨none,.load false 1 (.tmp 1),none⟩,⟨none,.mv (.var 1),none⟩,⟨none,.build [.int .i64 0,.bool false] [(0,(1,.cst (.int .i64 0))),(1,(1,.cst (.bool true)))],none⟩,⟨none,.indexSl 2 (.tmp 2) (.tmp 3),none⟩,⟨none,.store 2 (.tmp 5) (.tmp 4),none⟩]) (.seq (.seq (.region [⟨some 8,.mv (.var 2),none⟩,⟨some 9,.mv (.cst (.int .i64 0)),none⟩]) (.seq (.block 0 (.loop [1,2,3,5,6,7,10,11,12,13,14] mn)) (.kill [0,1,2,3,5,6,7,8,9,10,11,12,13,14]))) (.seq (.region [⟨none,.mv (.var 4),none⟩,⟨some 3,.mv (.tmp 0),none⟩]) .ret)))),[.tmp 3]⟩
def jb:List Nat:=[1,2,3,7,10,14]
abbrev kf (v0 v4 v5 v6 v8 v9 v11 v12 v13:AV):List AV:=[v0,.undef,.undef,.undef,v4,v5,v6,.undef,v8,v9,.undef,v11,v12,v13,.undef]
theorem zp {v0 d1 d2 d3 v4 v5 v6 d7 v8 v9 d10 v11 v12 v13 d14:AV}:clear jb [v0,d1,d2,d3,v4,v5,v6,d7,v8,v9,d10,v11,v12,v13,d14]=kf v0 v4 v5 v6 v8 v9 v11 v12 v13:=rfl
theorem FK {E:Env} {fuel:Nat} {A:ac} {o:Out} {k:List KC} {v0 d1 d2 d3 v4 v5 v6 d7 v8 v9 d10 v11 v12 v13 d14:AV} (h:bM (evC E fuel kr) jb fuel (kf v0 v4 v5 v6 v8 v9 v11 v12 v13) A=some o) :
  run E fuel (.code (.loop [1,2,3,7,10,14] kr) :: k) [v0,d1,d2,d3,v4,v5,v6,d7,v8,v9,d10,v11,v12,v13,d14] A=after E fuel k o:=aU jb _ _ (by rw [zp]; exact h)
def lj:List Nat:=[1,2,3,5,6,7,10,11,12,13,14]
abbrev lL (v0 v4 v8 v9:AV):List AV:=[v0,.undef,.undef,.undef,v4,.undef,.undef,.undef,v8,v9,.undef,.undef,.undef,.undef,.undef]
theorem zo {v0 d1 d2 d3 v4 d5 d6 d7 v8 v9 d10 d11 d12 d13 d14:AV}:clear lj [v0,d1,d2,d3,v4,d5,d6,d7,v8,v9,d10,d11,d12,d13,d14]=lL v0 v4 v8 v9:=rfl
theorem FJ {E:Env} {fuel:Nat} {A:ac} {o:Out} {k:List KC} {v0 d1 d2 d3 v4 d5 d6 d7 v8 v9 d10 d11 d12 d13 d14:AV} (h:bM (evC E fuel mn) lj fuel (lL v0 v4 v8 v9) A=some o) :
  run E fuel (.code (.loop [1,2,3,5,6,7,10,11,12,13,14] mn) :: k) [v0,d1,d2,d3,v4,d5,d6,d7,v8,v9,d10,d11,d12,d13,d14] A=after E fuel k o:=aU lj _ _ (by rw [zo]; exact h)
theorem GI:aB Tryz.prog Tryz.f149 3 [0,1,2,6,7,8,9,11,24,25,26,41,42,43,44] [152,172] false ([[1,2,3,5,6,7,10,11,12,13,14],[1,2,3,7,10,14]],[[1,2,3,7,10,14],[1,2,3,5,7,10,11,12,13,14],[1,2,3,5,6,7,10,11,12,13,14],[0,1,2,3,5,6,7,8,9,10,11,12,13,14]])=some IH:=by kernel_rfl
theorem at48:Tryz.prog.funcs[149]?=some Tryz.f149:=by kernel_rfl
def ic:MC:=.seq (.region [⟨some 6,.bin .lss (.var 5) (.var 4),none⟩]) (.seq (.cond (.var 6) .skip (.exit 0)) (.seq (.seq (.block 1 (.seq (.region [⟨none,.mv (.var 5),none⟩,⟨some 3,.mv (.tmp 0),none⟩]) (.seq (.region [⟨none,.mv (.var 1),none⟩,⟨none,.mv (.var 0),none⟩,⟨none,.mv (.var 3),none⟩,⟨none,.indexSl 6 (.tmp 1) (.tmp 2),none⟩,⟨none,.load true 6 (.tmp 3),none⟩,⟨some 7,.call (.tmp 0) [.tmp 4],none⟩]) (.cond (.var 7) (.seq (.region [⟨none,.mv (.var 3),none⟩,⟨some 2,.mv (.tmp 0),none⟩]) .ret) .skip)))) (.kill [2,3,6,7])) (.region [⟨none,.bin .add (.var 5) (.cst (.int .i64 1)),none⟩,⟨some 5,.mv (.tmp 0),none⟩])))
def HM:bC:=⟨2,8,.seq (.region [⟨some 2,.mv (.cst (.int .i64 0)),none⟩]) (.seq (.seq (.region [⟨none,.mv (.var 0),none⟩,⟨some 4,.lenSl (.tmp 0),none⟩,⟨some 5,.mv (.cst (.int .i64 0)),none⟩]) (.seq (.block 0 (.loop [2,3,6,7] ic)) (.kill [0,1,2,3,4,5,6,7]))) (.seq (.region [⟨some 2,.mv (.cst (.int .i64 (-1))),none⟩]) .ret)),[.tmp 2]⟩
def gB:List Nat:=[2,3,6,7]
abbrev ke (v0 v1 v4 v5:AV):List AV:=[v0,v1,.undef,.undef,v4,v5,.undef,.undef]
theorem zn {v0 v1 d2 d3 v4 v5 d6 d7:AV}:clear gB [v0,v1,d2,d3,v4,v5,d6,d7]=ke v0 v1 v4 v5:=rfl
theorem yT {E:Env} {fuel:Nat} {A:ac} {o:Out} {k:List KC} {v0 v1 d2 d3 v4 v5 d6 d7:AV} (h:bM (evC E fuel ic) gB fuel (ke v0 v1 v4 v5) A=some o) :
  run E fuel (.code (.loop [2,3,6,7] ic) :: k) [v0,v1,d2,d3,v4,v5,d6,d7] A=after E fuel k o:=aU gB _ _ (by rw [zn]; exact h)
theorem GH:aB Tryz.prog Tryz.f150 2 [0,1,4,5,7,8,9,16] [] true ([[2,3,6,7]],[[2,3,6,7],[0,1,2,3,4,5,6,7]])=some HM:=by kernel_rfl
theorem at49:Tryz.prog.funcs[150]?=some Tryz.f150:=by kernel_rfl
def BP:bC:=⟨4,7,.seq (.region [⟨some 4,.box (.var 0),none⟩,⟨some 5,.mv (.cst (.bool false)),none⟩]) (.seq (.regionD [152] [⟨none,.load false 1 (.var 1),none⟩,⟨none,.load false 1 (.var 2),none⟩,⟨none,.indexSl 1 (.tmp 0) (.tmp 1),none⟩,⟨none,.load false 1 (.tmp 2),none⟩,⟨none,.fieldAddr 0 (.var 4),none⟩,⟨none,.fieldAddr 1 (.tmp 4),none⟩,⟨none,.load false 1 (.tmp 5),none⟩,⟨none,.indexSl 2 (.tmp 3) (.tmp 6),none⟩,⟨none,.load true 2 (.tmp 7),none⟩,⟨none,.load false 1 (.var 3),none⟩,⟨none,.fieldAddr 5 (.var 4),none⟩,⟨none,.load false 1 (.tmp 10),none⟩,⟨none,.bin .add (.tmp 9) (.tmp 11),none⟩,⟨none,.call (.fn 152) [.tmp 8,.tmp 12],none⟩,⟨some 6,.alloc 2 (.agg [.int .i64 0,.bool false]),none⟩,⟨none,.store 2 (.var 6) (.tmp 13),none⟩] [(0,14),(1,14),(2,14),(3,14),(4,14),(5,14),(6,14),(7,14),(8,14),(9,14),(10,14),(11,14),(13,14)]) (.seq (.region [⟨none,.fieldAddr 1 (.var 6),none⟩,⟨none,.load false 1 (.tmp 0),none⟩,⟨none,.mv (.tmp 1),none⟩,⟨none,.fieldAddr 0 (.var 6),some (.tmp 2,true)⟩,⟨none,.load false 1 (.tmp 3),some (.tmp 2,true)⟩,⟨none,.bin .gtr (.tmp 4) (.cst (.int .i64 0)),some (.tmp 2,true)⟩,⟨none,.pick (.tmp 2) (.tmp 5) (.cst (.bool false)),none⟩,⟨some 5,.mv (.tmp 6),none⟩]) .ret)),[.tmp 5]⟩
theorem vK:aB Tryz.prog Tryz.f151 4 [0,1,2,3,4,5,6] [152] true ([],[])=some BP:=by kernel_rfl
theorem Ko:Tryz.prog.funcs[151]?=some Tryz.f151:=by kernel_rfl
def HL:bC:=⟨2,5,.seq (.region [⟨some 2,.box (.var 0),none⟩,⟨some 3,.alloc 2 (.agg [.int .i64 0,.bool false]),none⟩]) (.seq (.seq (.region [⟨none,.load true 2 (.var 2),none⟩,⟨none,.build [.int .i64 0,.bool false] [],none⟩,⟨some 4,.eqAgg false [(0,1),(1,0)] (.tmp 0) (.tmp 1),none⟩]) (.cond (.var 4) (.seq (.region [⟨none,.load true 2 (.var 2),none⟩,⟨none,.store 2 (.var 3) (.tmp 0),none⟩]) .ret) .skip)) (.seq (.region [⟨none,.fieldAddr 0 (.var 2),none⟩,⟨none,.load false 1 (.tmp 0),none⟩,⟨none,.mv (.var 1),none⟩,⟨none,.bin .add (.tmp 1) (.tmp 2),none⟩,⟨none,.fieldAddr 1 (.var 2),none⟩,⟨none,.load false 1 (.tmp 4),none⟩,⟨none,.build [.int .i64 0,.bool false] [(0,(1,.tmp 3)),(1,(1,.tmp 5))],none⟩,⟨none,.store 2 (.var 3) (.tmp 6),none⟩]) .ret)),[.cell 3 true 2]⟩
theorem GG:aB Tryz.prog Tryz.f152 2 [0,1,2,4,7] [] true ([],[])=some HL:=by kernel_rfl
theorem at51:Tryz.prog.funcs[152]?=some Tryz.f152:=by kernel_rfl
def xL:bC:=⟨2,6,.seq (.region [⟨some 2,.box (.var 0),none⟩,⟨some 3,.box (.var 1),none⟩,⟨some 4,.alloc 2 (.agg [.int .i64 0,.bool false]),none⟩]) (.seq (.seq (.region [⟨none,.fieldAddr 1 (.var 2),none⟩,⟨none,.load false 1 (.tmp 0),none⟩,⟨none,.un .not (.tmp 1),none⟩,⟨none,.mv (.tmp 2),none⟩,⟨none,.fieldAddr 1 (.var 3),some (.tmp 3,false)⟩,⟨none,.load false 1 (.tmp 4),some (.tmp 3,false)⟩,⟨none,.mv (.tmp 5),some (.tmp 3,false)⟩,⟨none,.fieldAddr 0 (.var 3),some (.tmp 6,true)⟩,⟨none,.load false 1 (.tmp 7),some (.tmp 6,true)⟩,⟨none,.fieldAddr 0 (.var 2),some (.tmp 6,true)⟩,⟨none,.load false 1 (.tmp 9),some (.tmp 6,true)⟩,⟨none,.bin .gtr (.tmp 8) (.tmp 10),some (.tmp 6,true)⟩,⟨none,.pick (.tmp 6) (.tmp 11) (.cst (.bool false)),some (.tmp 3,false)⟩,⟨some 5,.pick (.tmp 3) (.cst (.bool true)) (.tmp 12),none⟩]) (.cond (.var 5) (.seq (.region [⟨none,.load true 2 (.var 3),none⟩,⟨none,.store 2 (.var 4) (.tmp 0),none⟩]) .ret) .skip)) (.seq (.region [⟨none,.load true 2 (.var 2),none⟩,⟨none,.store 2 (.var 4) (.tmp 0),none⟩]) .ret)),[.cell 4 true 2]⟩
theorem vJ:aB Tryz.prog Tryz.f172 2 [0,1,2,3,4,18] [] true ([],[])=some xL:=by kernel_rfl
theorem Kn:Tryz.prog.funcs[172]?=some Tryz.f172:=by kernel_rfl
end Cy
end Go.Proofs.YtfkcoekicjjndaaGreat
