import Derived.Test.YtfkcoekicjjndaaGreatUA02
import Derived.Shelf.Abstract
import Derived.WideKeyArgs
import Derived.OpenShut
import Derived.ChangeOld
import Derived.RowKit
set_option maxRecDepth 100000
set_option maxHeartbeats 4000000
noncomputable section
namespace Go.Proofs.YtfkcoekicjjndaaGreat
open Go
section
variable {P:Program} {E:Env} {N:Nat} {vs:List Nat} {base:Nat} {rd:Option Nat} {n:Nat}
theorem Ext.putLoop {w w3:World} {OK OK3:Nat->Prop} {g g3:aq} (h:Ext w OK g w3 OK3 g3) {n0:Nat} {inc:Inc} (hg:g n0=[inc]) {r0:Loop} (hr:w.heap[inc.b]?=some (.loop r0)) (h0:r0.state≠.busy) (o:Obj) :
  Ext w OK g (w3.putObj inc.b o) OK3 g3 where
 os:=h.os
 tape:=h.tape
 output:=h.output
 size:=by simpa using h.size
 blk b hb hu:=(World.putObj_heap_other (fun e=>hu n0 inc (by rw [hg]; simp) e.symm)).trans (h.blk b hb hu)
 gle:=h.gle
 okle:=h.okle
 fresh:=h.fresh
 okf:=h.okf
 loops b r hb hbusy:=(World.putObj_heap_other (fun e=>by
  rw [e,hr] at hb; injection hb with hb; injection hb with hb; rw [hb] at h0; exact h0 hbusy)).trans (h.loops b r hb hbusy)
 fix:=h.fix
theorem po (hvn:vs.Nodup) (hvl:∀t∈vs,t<N) {n0 l:Nat} {r0:Loop} {σ:List AV} {is:List Nat} {asg bdy:List AV->aa->Option Out} {tm:Array Value}
  (hr0:r0.state=.ready/\r0.pending=none) (htm:r0.tmps=tm) (hN:tm.size=N) (hlen:σ.length=vs.length) (his:oc vs r0.params.toList=some is) (hh:fK P E.glob E.ys E.hand)
  (ha:∀(m:Nat) (σ:List AV) (A:aa) (out:Out) (a:Act) (w:World) (OK:Nat->Prop) (g:aq),SRel E N vs 0 w OK g σ A a->asg σ A=some out->r0.assign.wpIn (FW (some l)) m P (cW E N vs 0 w OK g out) a w)
  (hb:∀(m:Nat) (σ:List AV) (A:aa) (out:Out) (a:Act) (w:World) (OK:Nat->Prop) (g:aq),SRel E N vs 0 w OK g σ A a->bdy σ A=some out->r0.body.wpIn (FW (some l)) m P (cW E N vs 0 w OK g out) a w) :
  fK P E.glob (⟨n0,l,vs.map (tm.getD · undef),σ⟩ :: E.ys) (cR n0 l r0 σ is asg bdy E.hand):=by
 intro fv args A r A' he w OK g v us hA hI hv hl
 have hsub:∀y∈E.ys,y∈(⟨n0,l,vs.map (tm.getD · undef),σ⟩ :: E.ys):=fun y hy=>List.mem_cons_of_mem _ hy
 have other:E.hand fv args A=some (r,A')->zp P w OK g ((do let d <-Deferred.ofValue v us.toArray; invoke d.target d.args:Sem Next).run P w) r A':=fun he=>hh.sub hsub _ _ _ _ _ he w OK g v us hA hI hv hl
 unfold cR at he
 split at he
 ·rename_i l'
  split at he
  ·rename_i hll
   subst hll
   split at he
   ·rename_i r' k hAn
    split at he
    ·rename_i hrk
     obtain ⟨rfl,rfl⟩:=hrk
     split at he
     ·rename_i σ1 hset
      split at he
      ·rename_i σ2 A2 hasg
       split at he
       ·rename_i hA2
        obtain ⟨⟨inc,hg1,hg2,hg3⟩,hvals⟩:=hI.2 _ (List.mem_cons_self ..)
        simp only at hg1 hg2 hvals
        subst hg2
        have hn0:n0<A.length:=(List.getElem?_eq_some_iff.1 hAn).1
        have hent:=hA.ent n0 hn0
        rw [(List.getElem?_eq_some_iff.1 hAn).2] at hent
        obtain ⟨inc',e1,_,hheap⟩:=hent
        rw [hg1] at e1
        simp at e1; subst e1
        have hrec:gh r' 0=r':=by
         obtain ⟨h1,h2⟩:=hr0
         cases r'; simp only at h1 h2; subst h1; subst h2; rfl
        rw [hrec] at hheap
        obtain ⟨vs1,vs2,vals1,vals2,rfl,hl1,hl2,-,-,-,-⟩:=hv.inv_func
        simp at hl1 hl2
        subst hl1; subst hl2
        obtain ⟨t1,t2,t3,t4⟩:=kg hvn hvl r'.params.toList is us args σ σ1 tm his hset hl hN hlen (fun i hi=>by
         have:=hvals.get i (by simpa using hi) (by rw [hlen]; exact hi)
         simpa [List.getD_eq_getElem?_getD,List.getElem?_eq_getElem (show i<σ.length by rw [hlen]; exact hi)] using this)
        have hy:=run_yield (P:=P) (args:=us.toArray) (hheap) (by simpa using t1)
        refine .inr (.inr ⟨inc.b,r'.fn,(r'.params.zip us.toArray).foldl (fun tmps (t,a)=>tmps.setIfInBounds t a) r'.tmps,r'.assign,r'.body,?_,?_⟩)
        ·simp only [Deferred.ofValue,Sem.run_bind,Sem.run_pure,Result.andThen_ok,invoke]
         simpa using hy
        intro rd m
        have hs0:SRel E N vs 0 w OK g σ1 A {tmps:=(r'.params.zip us.toArray).foldl (fun tmps x=>tmps.setIfInBounds x.1 x.2) r'.tmps,defers:=[]}:=by
         have hf:(r'.params.zip us.toArray).foldl (fun tmps x=>tmps.setIfInBounds x.1 x.2) r'.tmps=(r'.params.toList.zip us).foldl (fun tmps x=>tmps.setIfInBounds x.1 x.2) tm:=by
          rw [<-Array.foldl_toList,htm]; simp
         rw [hf]
         exact ⟨t2,trivial,Nat.zero_le _,t3,t4,hA,hI.sub hsub⟩
        refine roundIn_of_wpIn (F:=FW rd) trivial (wpIn_mono (ha m σ1 A _ _ w OK g hs0 hasg) ?_)
        intro e a1 w1 hq
        cases e <;> simp only [cW] at hq
        obtain ⟨OK1,g1,hs1,hx1⟩:=hq
        have hg1':g1 n0=[inc]:=(hx1.fix n0 inc (by rw [hg1]; simp) hg3).trans hg1
        have hn1:n0<A2.length:=(List.getElem?_eq_some_iff.1 hA2).1
        have hent1:=hs1.arena.ent n0 hn1
        rw [(List.getElem?_eq_some_iff.1 hA2).2] at hent1
        obtain ⟨inc',e1,_,hheap1⟩:=hent1
        rw [hg1'] at e1
        simp at e1; subst e1
        rw [hrec] at hheap1
        have hlt1:inc.b<w1.heap.size:=(Array.getElem?_eq_some_iff.1 hheap1).1
        refine ⟨w1.putObj inc.b (.loop {r' with state:=.busy}),run_beginRound hheap1 hr0.1,?_⟩
        obtain ⟨u1,u2⟩:=hs1.arena.turn (w':=w1.putObj inc.b (.loop {r' with state:=.busy})) (g':=g1) n0 hn1 (by rw [hA2]; simp) inc (by rw [hg1']; simp) (by simp) rfl rfl rfl (fun b hne=>World.putObj_heap_other hne)
         (fun r2 hr2 hbusy=>by rw [hheap1] at hr2; injection hr2 with hr2; injection hr2 with hr2; rw [<-hr2,hr0.1] at hbusy; cases hbusy) g1.le_refl (fun _ _=>rfl) (fun i hi=>⟨i,hi,rfl⟩)
         (fun i i' hi hi' _=>by rw [hg1'] at hi hi'; simp at hi hi'; rw [hi,hi']) .dead (fun _=>trivial) (fun _=>rfl)
        have hs2:=hs1.ext u2 u1
        have hbusy2:(w1.putObj inc.b (.loop {r' with state:=.busy})).heap[inc.b]?=some (.loop {r' with state:=.busy}):=World.putObj_heap_same hlt1
        have fin:∀(k:Nat) (jump:Option Code) (σ3:List AV) (A3:aa) (a3:Act) (w3:World) (OK3:Nat->Prop) (g3:aq),SRel E N vs 0 w3 OK3 g3 σ3 A3 a3->Ext (w1.putObj inc.b (.loop {r' with state:=.busy})) OK1 g1 w3 OK3 g3 ->
          gh r' k={r' with state:=if jump.isNone then .ready else .done,pending:=jump} ->
          ∃v w',(Instr.endRound inc.b jump).run P w3=.ok v w'/\∃v' OK' g',Ending.returned v=.returned v'/\aJ w' OK' g' v' (.bool jump.isNone)/\bC w' OK' g' (A3.set n0 (.loop r' k))/\Ext w OK g w' OK' g':=by
         intro k jump σ3 A3 a3 w3 OK3 g3 hs3 hx3 hrk
         have hb3:=hx3.loops _ _ hbusy2 rfl
         have hg3':g3 n0=[inc]:=(hx3.fix n0 inc (by rw [hg1']; simp) hg3).trans hg1'
         have:=run_endRound (P:=P) jump hb3
         refine ⟨_,_,this,.bool jump.isNone,OK3,g3,rfl,.bool _ _,?_,?_⟩
         ·have hrv:=hs3.arena.revive hg3' hg3 hb3 rfl r' k
          rw [hrk] at hrv
          exact hrv
         ·exact ((hx1.trans u2).trans hx3).putLoop hg1 hheap (by rw [hr0.1]; simp) _
        split at he
        ·rename_i σ3 A3 hbd
         injection he with he; injection he with he1 he2; subst he1; subst he2
         refine wpIn_mono (hb m σ2 (A2.set n0 .dead) _ a1 _ OK1 g1 hs2 hbd) ?_
         intro e a3 w3 hq
         cases e <;> simp only [cW] at hq
         obtain ⟨OK3,g3,hs3,hx3⟩:=hq
         exact fin 0 none σ3 A3 a3 w3 OK3 g3 hs3 hx3 rfl
        ·rename_i σ3 A3 hbd
         injection he with he; injection he with he1 he2; subst he1; subst he2
         refine wpIn_mono (hb m σ2 (A2.set n0 .dead) _ a1 _ OK1 g1 hs2 hbd) ?_
         intro e a3 w3 hq
         cases e <;> simp only [cW] at hq
         obtain ⟨OK3,g3,hs3,hx3⟩:=hq
         exact fin 1 (some .ret) σ3 A3 a3 w3 OK3 g3 hs3 hx3 rfl
        ·rename_i id σ3 A3 hbd
         injection he with he; injection he with he1 he2; subst he1; subst he2
         refine wpIn_mono (hb m σ2 (A2.set n0 .dead) _ a1 _ OK1 g1 hs2 hbd) ?_
         intro e a3 w3 hq
         cases e <;> simp only [cW] at hq
         obtain ⟨hid,OK3,g3,hs3,hx3⟩:=hq
         subst hid
         exact fin (id+2) (some (.exit id)) σ3 A3 a3 w3 OK3 g3 hs3 hx3 (by unfold gh; rw [if_neg (by omega),if_neg (by omega)]; simp)
        ·cases he
       ·cases he
      ·cases he
     ·cases he
    ·cases he
   ·cases he
  ·exact other he
 ·exact other he
end
section
variable {P:Program} {E:Env} {N:Nat} {vs:List Nat} {base:Nat} {rd:Option Nat} {n:Nat}
theorem lS (hE:bZ P E) (hvn:vs.Nodup) (hvl:∀t∈vs,t<N) {f:Operand} {ps:Array Tmp} {asg bd:Code} {z:MX} {is:List Nat} (hz:qd vs [] f=some z) (his:oc vs ps.toList=some is) {asgE bdE:List AV->aa->Option Out}
  (ha:∀(l m:Nat) (σ:List AV) (A:aa) (out:Out) (a:Act) (w:World) (OK:Nat->Prop) (g:aq),SRel E N vs 0 w OK g σ A a->asgE σ A=some out->asg.wpIn (FW (some l)) m P (cW E N vs 0 w OK g out) a w)
  (hb:∀(l m:Nat) (σ:List AV) (A:aa) (out:Out) (a:Act) (w:World) (OK:Nat->Prop) (g:aq),SRel E N vs 0 w OK g σ A a->bdE σ A=some out->bd.wpIn (FW (some l)) m P (cW E N vs 0 w OK g out) a w)
  {σ:List AV} {A:aa} {out:Out} {a:Act} {w:World} {OK:Nat->Prop} {g:aq} (hs:SRel E N vs base w OK g σ A a)
  (he:evR (fun (_:Nat × Loop)=>True) (fun x=>
   match E.callY (cR A.length x.1 x.2 σ is asgE bdE E.hand) (evX E σ [] z) [.func (.yield x.1) [] []] (A++[Ent.loop x.2 0]) with
   | some (_,A')=>fJ A.length σ A'
   | none=>none)=some out) :
  (Code.rangeFunc f ps asg bd).wpIn (FW none) n P (cW E N vs base w OK g out) a w:=by
 refine wpIn_rangeFunc ?_
 intro fn hfn
 obtain ⟨r0,hr0⟩:∃r0:Loop,r0={state:=.ready,pending:=none,fn,tmps:=a.tmps,params:=ps,assign:=asg,body:=bd,defers:=w.heap.size}:=⟨_,rfl⟩
 obtain ⟨hA1,hx1⟩:=hs.arena.alloc (.deferred (some []))
 have hD:(w.alloc (.deferred (some []))).heap[w.heap.size]?=some (.deferred (some [])):=World.alloc_heap_new w _
 obtain ⟨w1,hw1⟩:∃w1,w1=w.alloc (.deferred (some [])):=⟨_,rfl⟩
 have hsz1:w1.heap.size=w.heap.size+1:=by rw [hw1]; simp
 rw [<-hw1] at hA1 hx1 hD
 have hrec:gh r0 0=r0:=by rw [hr0]; rfl
 obtain ⟨hA2,hx2⟩:=hA1.push (w':=w1.alloc (.loop r0)) (.loop r0) rfl rfl rfl rfl (.loop r0 0) ⟨w.heap.size+1,0,0,0,0⟩ hsz1.symm (fun g' _ _ hnew=>⟨_,rfl,rfl,by rw [hrec,<-hsz1]; exact hnew⟩)
 obtain ⟨w2,hw2⟩:∃w2,w2=w1.alloc (.loop r0):=⟨_,rfl⟩
 obtain ⟨inc0,hinc0⟩:∃i:Inc,i=⟨w.heap.size+1,0,0,0,0⟩:=⟨_,rfl⟩
 rw [<-hw2,<-hinc0] at hA2 hx2
 have hx:=hx1.trans hx2
 have hg2:g.push A.length inc0 A.length=[inc0]:=by simp [aq.push]
 have hE0:=he
 have he:=xT he (w.heap.size+1,r0) trivial
 simp only at he
 have hs2:=hs.ext hx hA2
 have hyH:fK P E.glob (⟨A.length,w.heap.size+1,vs.map (a.tmps.getD · undef),σ⟩ :: E.ys) (cR A.length (w.heap.size+1) r0 σ is asgE bdE E.hand):=
  po hvn hvl (by rw [hr0]; exact ⟨rfl,rfl⟩) (by rw [hr0]) hs.size hs.len (by rw [hr0]; exact his) hE.hand (by rw [hr0]; exact ha _) (by rw [hr0]; exact hb _)
 have hI2:tw E.glob (⟨A.length,w.heap.size+1,vs.map (a.tmps.getD · undef),σ⟩ :: E.ys) w2 OK (g.push A.length inc0):=by
  refine ⟨hs2.glob.1,fun y hy=>?_⟩
  rcases List.mem_cons.1 hy with rfl | hy
  ·refine ⟨⟨inc0,hg2,by rw [hinc0],by rw [hinc0]⟩,bm.of_get (by simp [hs.len]) fun i h1 h2=>?_⟩
   simp only [List.getElem_map]
   have:=hs2.vars i (by simpa using h1)
   simpa [List.getD_eq_getElem?_getD,List.getElem?_eq_getElem h2] using this
  ·exact hs2.glob.2 y hy
 split at he
 ·rename_i v0 A' hcall
  have hrr:ii E N vs base w2 OK (g.push A.length inc0) σ [] [] (A++[Ent.loop r0 0]) a:={hs2 with tlen:=rfl,temps:=fun j t hj=>by simp at hj,tok:=fun j t hj=>by simp at hj,tone:=fun j j' t hj=>by simp at hj}
  have hfv:=hrr.eval f z hz
  obtain ⟨d,fid,args',e1,e2,e3⟩:=hE.callY _ _ (fun y hy=>List.mem_cons_of_mem _ hy) hyH _ _ _ _ _ hcall w2 OK _ _ [.func (.yield (w.heap.size+1)) #[] #[]] hA2 hI2 hfv
   ⟨.func _ _ _ _ [] [] rfl rfl (fun _=>undef) (fun _=>undef) (fun i hi=>by simp at hi) (fun i hi=>by simp at hi) (fun i hi=>by simp at hi) (fun i hi=>by simp at hi),trivial⟩
  refine ⟨w.heap.size+1,[{target:=.collected w.heap.size,args:=#[]}],w2,d,w2,fid,args',w2,?_,?_,fun f' _=>trivial,e2,fun hd=>by simp [oP] at hd,?_⟩
  ·rw [hw2,hw1,hr0]; exact run_enterLoop_outer _ _ _ _ _
  ·have:(resolve a.eval (rangeCall f (w.heap.size+1)) 0)=Deferred.ofValue (a.eval f) #[.func (.yield (w.heap.size+1)) #[] #[]]:=by
    simp [resolve,Act.eval]
   rw [this]; exact e1
  refine (sh e3 none (n-1)).mono ?_
  rintro e w3 ⟨v,OK3,g3,rfl,hv3,hA3,hx3⟩
  simp only [fJ] at he
  split at he
  ·rename_i r k hAn
   have hn0:A.length<A'.length:=(List.getElem?_eq_some_iff.1 hAn).1
   have hent:=hA3.ent A.length hn0
   rw [(List.getElem?_eq_some_iff.1 hAn).2] at hent
   obtain ⟨inc',e4,_,hheap⟩:=hent
   have hg3:g3 A.length=[inc0]:=(hx3.fix A.length inc0 (by rw [hg2]; simp) (by rw [hinc0])).trans hg2
   rw [hg3] at e4
   simp at e4; subst e4
   have hb0:inc0.b=w.heap.size+1:=by rw [hinc0]
   have hnb:(gh r k).state≠.busy:=by unfold gh; split <;> simp
   have hend:=run_endLoop (P:=P) hheap hnb
   obtain ⟨hA4,hx4⟩:=hA3.turn (w':=w3.putObj inc0.b (.loop {gh r k with state:=.exhausted})) (g':=g3) A.length hn0 (by rw [hAn]; simp) inc0 (by rw [hg3]; simp) (by simp) rfl rfl rfl (fun b hne=>World.putObj_heap_other hne)
    (fun r2 hr2=>by rw [hheap] at hr2; injection hr2 with hr2; injection hr2 with hr2; rw [<-hr2]; exact hnb) g3.le_refl (fun _ _=>rfl) (fun i hi=>⟨i,hi,rfl⟩)
    (fun i i' hi hi' _=>by rw [hg3] at hi hi'; simp at hi hi'; rw [hi,hi']) .dead (fun _=>trivial) (fun _=>rfl)
   have hxx:=hx3.trans hx4
   have hs4:=hs2.ext hxx hA4
   have hm2:kW base w2 OK (g.push A.length inc0) ({target:=.collected w.heap.size,args:=#[]} :: a.defers):=by
    refine ⟨⟨w.heap.size,rfl,hs.low,?_,fun ho=>?_,fun id inc hi eb=>?_,?_⟩,hs2.defers⟩
    ·rw [hw2]
     show (w1.heap.push _)[w.heap.size]?=_
     rw [Array.getElem?_push,if_neg (by omega)]; exact hD
    ·have:=hs.arena.ok _ ho; omega
    ·simp only [aq.push] at hi
     split at hi
     ·simp at hi; subst hi; omega
     ·have:=hs.arena.low id inc hi; omega
    ·have:∀l:List Deferred,kW base w OK g l->∀d'∈l,d'≠{target:=.collected w.heap.size,args:=#[]}:=by
      intro l
      induction l with
      | nil=>intro _ d' hd; cases hd
      | cons x r ih=>
       rintro ⟨⟨D,hd,_,hh,_⟩,hr⟩ d' hd' eq
       rcases List.mem_cons.1 hd' with rfl | hd'
       ·rw [hd] at eq
        injection eq with eq _
        injection eq with eq
        have:=(Array.getElem?_eq_some_iff.1 hh).1
        omega
       ·exact ih hr d' hd' eq
     exact this _ hs.defers
   have hs5:SRel E N vs base (w3.putObj inc0.b (.loop {gh r k with state:=.exhausted})) OK3 g3 σ (A'.set A.length .dead) {a with defers:=[{target:=.collected w.heap.size,args:=#[]}]++a.defers}:=
    ⟨hs4.size,hm2.ext hxx,hs4.low,hs4.len,hs4.vars,hs4.arena,hs4.glob⟩
   refine ⟨_,_,by rw [<-hb0]; exact hend,?_⟩
   injection he with he
   by_cases hk0:k=0
   ·subst hk0
    rw [if_pos rfl] at he
    subst he
    rw [show (gh r 0).pending=none from rfl]
    exact ⟨OK3,g3,hs5,hx.trans hxx⟩
   ·by_cases hk1:k=1
    ·subst hk1
     rw [if_neg (by omega),if_pos rfl] at he
     subst he
     rw [show (gh r 1).pending=some .ret from rfl]
     exact wpIn_ret ⟨OK3,g3,hs5,hx.trans hxx⟩
    ·rw [if_neg hk0,if_neg hk1] at he
     subst he
     have:(gh r k).pending=some (.exit (k-2)):=by unfold gh; rw [if_neg hk0]; simp [hk1]
     split
     ·rename_i h; rw [this] at h; cases h
     ·rename_i c h
      rw [this] at h
      injection h with h; subst h
      exact wpIn_exit ⟨rfl,OK3,g3,hs5,hx.trans hxx⟩
  ·cases he
 ·cases he
theorem SRel.clear {w:World} {OK:Nat->Prop} {g:aq} {A:aa} {a:Act} (mask:List Nat):∀ {σ:List AV},SRel E N vs base w OK g σ A a->SRel E N vs base w OK g (Go.Proofs.YtfkcoekicjjndaaGreat.clear mask σ) A a:=by
 induction mask with
 | nil=>intro σ h; exact h
 | cons i m ih=>
  intro σ h
  refine ih (σ:=σ.set i .undef) ⟨h.size,h.defers,h.low,by simp [h.len],fun k hk=>?_,h.arena,h.glob⟩
  by_cases e:i=k
  ·subst e
   simp [List.getD_eq_getElem?_getD,List.getElem?_set_self (show i<σ.length by rw [h.len]; exact hk),aJ.undef]
  ·have:=h.vars k hk
   simpa [List.getD_eq_getElem?_getD,List.getElem?_set_ne e] using this
theorem uZ {on:Bool} (hE:bZ P E) (hvn:vs.Nodup) (hvl:∀t∈vs,t<N) {pu:List FuncId} (hpu:aU E pu) (fuel:Nat):∀(code:Code) (inR:Bool) (rd:Option Nat) (base n:Nat),(inR=false->rd=none)->∀(h:pj)
  (σ:List AV) (A:aa) (out:Out) (a:Act) (w:World) (OK:Nat->Prop) (g:aq),SRel E N vs base w OK g σ A a->evC E fuel (cV P N vs pu on inR code h).1 σ A=some out->code.wpIn (FW rd) n P (cW E N vs base w OK g out) a w:=by
 intro code
 induction code with
 | skip=>
  intro inR rd base n hrd h σ A out a w OK g hs he
  simp only [cV,evC,Option.some.injEq] at he
  subst he
  exact wpIn_skip ⟨OK,g,hs,Ext.refl _ _ _⟩
 | label l=>
  intro inR rd base n hrd h σ A out a w OK g hs he
  simp only [cV,evC,Option.some.injEq] at he
  subst he
  exact wpIn_label ⟨OK,g,hs,Ext.refl _ _ _⟩
 | region id ops draw=>
  intro inR rd base n hrd h σ A out a w OK g hs he
  cases draw with
  | true=>
   simp only [cV,if_true] at he
   split at he
   ·rename_i hc
    rw [Bool.and_eq_true] at hc
    split at he
    ·rename_i hp
     simp only [evC,Option.map_eq_some_iff] at he
     obtain ⟨⟨σ',A'⟩,he,rfl⟩:=he
     obtain ⟨fs,hfs⟩:=dV (pu:=pu) _ _ _ _ [] _ _ he
     exact gf hE hvn hvl hpu hc.1 hc.2 hs hfs (fun p hx=>by rw [hp] at hx; cases hx) (fun a1 w1 OK1 g1 k1 k2=>⟨OK1,g1,k1,k2⟩)
    ·rename_i x r hp
     simp only [evC] at he
     split at he
     ·rename_i σ' A' fs hfs
      simp only [Option.ite_none_right_eq_some,Option.some.injEq] at he
      obtain ⟨hall,rfl⟩:=he
      exact gf hE hvn hvl hpu hc.1 hc.2 hs hfs (fun p hx=>by rw [hp] at hx; exact List.all_eq_true.1 hall p hx) (fun a1 w1 OK1 g1 k1 k2=>⟨OK1,g1,k1,k2⟩)
     ·cases he
   ·simp [evC] at he
  | false=>
   simp only [cV,Bool.false_eq_true,if_false,evC,Option.map_eq_some_iff] at he
   obtain ⟨⟨σ',A'⟩,he,rfl⟩:=he
   refine wpIn_region ?_
   have:=mF (on:=on) (rd:=rd) (n:=n) hE hvn hvl (Q:=cW E N vs base w OK g (.normal σ' A')) (fun a w' OK' g' k1 k2=>⟨OK',g',k1,k2⟩) ops.toList 0 [] σ [] A a w OK g rfl
    {hs with tlen:=rfl,temps:=fun j t hj=>by simp at hj,tok:=fun j t hj=>by simp at hj,tone:=fun j j' t hj=>by simp at hj} (Ext.refl _ _ _) he
   simpa [List.range_eq_range'] using this
 | seq x y ihx ihy=>
  intro inR rd base n hrd h σ A out a w OK g hs he
  simp only [cV,evC] at he
  cases hex:evC E fuel (cV P N vs pu on inR x h).1 σ A with
  | none=>rw [hex] at he; cases he
  | some o1=>
   rw [hex] at he
   refine wpIn_seq (wpIn_mono (ihx inR rd base n hrd h σ A o1 a w OK g hs hex) ?_)
   intro e a1 w1 hq
   cases o1 with
   | normal σ1 A1=>
    cases e <;> simp only [cW] at hq
    obtain ⟨OK1,g1,hs1,hx1⟩:=hq
    exact wpIn_mono (ihy inR rd base n hrd _ σ1 A1 out a1 w1 OK1 g1 hs1 he) (fun e a w hq=>hq.pre hx1)
   | exit id σ1 A1=>
    simp only [Option.some.injEq] at he
    subst he
    cases e <;> simp only [cW] at hq
    exact hq
   | ret σ1 A1=>
    simp only [Option.some.injEq] at he
    subst he
    cases e <;> simp only [cW] at hq
    exact hq
 | cond c x y ihx ihy=>
  intro inR rd base n hrd h σ A out a w OK g hs he
  simp only [cV] at he
  split at he
  ·rename_i mcx hcx
   simp only [evC] at he
   have hrr:ii E N vs base w OK g σ [] [] A a:={hs with tlen:=rfl,temps:=fun j t hj=>by simp at hj,tok:=fun j t hj=>by simp at hj,tone:=fun j j' t hj=>by simp at hj}
   have hv:=hrr.eval c mcx hcx
   split at he
   ·rename_i t ht
    rw [ht] at hv
    refine wpIn_cond (t:=t) hv.inv_bool ?_
    cases t
    ·exact ihy inR rd base n hrd _ σ A out a w OK g hs (by simpa using he)
    ·exact ihx inR rd base n hrd _ σ A out a w OK g hs (by simpa using he)
   ·cases he
  ·simp [evC] at he
 | block id x ih=>
  intro inR rd base n hrd h σ A out a w OK g hs he
  have hplain:∀out,evC E fuel (.block id (cV P N vs pu on inR x h).1) σ A=some out->(Code.block id x).wpIn (FW rd) n P (cW E N vs base w OK g out) a w:=by
   clear he
   intro out he
   simp only [evC] at he
   cases hex:evC E fuel (cV P N vs pu on inR x h).1 σ A with
   | none=>rw [hex] at he; cases he
   | some o1=>
    rw [hex] at he
    refine wpIn_block (wpIn_mono (ih inR rd base n hrd h σ A o1 a w OK g hs hex) ?_)
    intro e a1 w1 hq
    cases o1 with
    | normal σ1 A1=>
     simp only [Option.some.injEq] at he
     subst he
     cases e <;> simp only [cW] at hq
     exact hq
    | exit id' σ1 A1=>
     cases e <;> simp only [cW] at hq
     rename_i id2
     obtain ⟨rfl,hq⟩:=hq
     simp only [Exit.inBlock]
     replace he:(if id'=id then some (Out.normal σ1 A1) else some (Out.exit id' σ1 A1))=some out:=he
     split at he
     ·rename_i hid
      injection he with he; subst he
      rw [if_pos hid]; exact hq
     ·rename_i hid
      injection he with he; subst he
      rw [if_neg hid]; exact ⟨rfl,hq⟩
    | ret σ1 A1=>
     simp only [Option.some.injEq] at he
     subst he
     cases e <;> simp only [cW] at hq
     exact hq
  simp only [cV] at he
  split at he
  ·exact hplain out he
  ·rename_i m r hmr
   simp only [evC] at he hplain
   split at he
   ·rename_i σ1 A1 hb
    injection he with he; subst he
    refine wpIn_mono (hplain _ hb) ?_
    intro e a1 w1 hq
    cases e <;> simp only [cW] at hq
    obtain ⟨OK1,g1,hs1,hx1⟩:=hq
    exact ⟨OK1,g1,hs1.clear m,hx1⟩
   ·exact hplain out he
 | loop x ih=>
  intro inR rd base n hrd h σ A out a w OK g hs he
  simp only [cV,evC] at he
  refine wpIn_loop_ghost (fun k a' w'=>∃ σ' A' OK' g',SRel E N vs base w' OK' g' σ' A' a'/\Ext w OK g w' OK' g'/\bI (evC E fuel (cV P N vs pu on inR x (h.1.tail,h.2)).1) (h.1.headD []) k σ' A'=some out) fuel ⟨σ,A,OK,g,hs,Ext.refl _ _ _,he⟩ ?_
  rintro k a' w' ⟨σ',A',OK',g',hs',hx',hit⟩
  cases k with
  | zero=>cases hit
  | succ k=>
   simp only [bI] at hit
   cases hex:evC E fuel (cV P N vs pu on inR x (h.1.tail,h.2)).1 (clear (h.1.headD []) σ') A' with
   | none=>rw [hex] at hit; cases hit
   | some o1=>
    rw [hex] at hit
    refine wpIn_mono (ih inR rd base n hrd (h.1.tail,h.2) _ A' o1 a' w' OK' g' (hs'.clear _) hex) ?_
    intro e a1 w1 hq
    cases o1 with
    | normal σ1 A1=>
     cases e <;> simp only [cW] at hq
     obtain ⟨OK1,g1,hs1,hx1⟩:=hq
     exact ⟨k,Nat.lt_succ_self k,σ1,A1,OK1,g1,hs1,hx'.trans hx1,hit⟩
    | exit id σ1 A1=>
     simp only [Option.some.injEq] at hit
     subst hit
     cases e <;> simp only [cW] at hq
     exact cW.pre (out:=.exit id σ1 A1) (e:=.exit _) hx' hq
    | ret σ1 A1=>
     simp only [Option.some.injEq] at hit
     subst hit
     cases e <;> simp only [cW] at hq
     exact cW.pre (out:=.ret σ1 A1) (e:=.ret) hx' hq
 | exit id=>
  intro inR rd base n hrd h σ A out a w OK g hs he
  simp only [cV,evC,Option.some.injEq] at he
  subst he
  exact wpIn_exit ⟨rfl,OK,g,hs,Ext.refl _ _ _⟩
 | scope x ih=>
  intro inR rd base n hrd h σ A out a w OK g hs he
  simp only [cV,evC] at he
  refine qw (ih inR rd base n hrd h σ A out a w OK g hs he) (fun l a w hq=>?_)
  cases out <;> exact hq
 | ret=>
  intro inR rd base n hrd h σ A out a w OK g hs he
  simp only [cV,evC,Option.some.injEq] at he
  subst he
  exact wpIn_ret ⟨OK,g,hs,Ext.refl _ _ _⟩
 | rangeFunc f ps x y ihx ihy=>
  intro inR rd base n hrd h σ A out a w OK g hs he
  simp only [cV] at he
  split at he
  ·rename_i z is hz his
   obtain rfl:=hrd rfl
   simp only [evC] at he
   exact lS hE hvn hvl hz his (fun l m σ A out a w OK g hs he=>ihx true (some l) 0 m (fun h=>by cases h) _ σ A out a w OK g hs he)
    (fun l m σ A out a w OK g hs he=>ihy true (some l) 0 m (fun h=>by cases h) _ σ A out a w OK g hs he) hs he
  ·simp [evC] at he
 | _=>
  intro inR rd base n hrd h σ A out a w OK g hs he
  simp [cV,evC] at he
end
def frz (A:aa):Nat->AV->AV
 | 0,.agg _=>.undef
 | 0,.tup _=>.undef
 | 0,.sl ..=>.undef
 | 0,.ptr ..=>.undef
 | 0,.func ..=>.undef
 | 0,.iface ..=>.undef
 | n+1,.agg cs=>.agg (cs.map (frz A n))
 | n+1,.tup cs=>.tup (cs.map (frz A n))
 | n+1,.sl id off len=>match A[id]? with
  | some (.row s _ es)=>.fs s (((es.drop off).take len).map (frz A n))
  | _=>.undef
 | n+1,.csl id off len=>match A[id]? with
  | some (.row s _ es)=>.fs s (((es.drop off).take len).map (frz A n))
  | _=>.undef
 | n+1,.ptr id i o=>match A[id]? with
  | some (.row _ _ es)=>match es[i]? with
   | some e=>if e.solid=true/\o<(cellsOf e).length then .fp (((cellsOf e).drop o).map (frz A n)) else .undef
   | none=>.undef
  | _=>.undef
 | n+1,.func fn c1 c2=>.func fn (c1.map (frz A n)) (c2.map (frz A n))
 | n+1,.iface t v=>.iface t (frz A n v)
 | _,.map _=>.undef
 | 0,.csl ..=>.undef
 | _,a=>a
section
variable {P:Program} {w:World} {OK OK2:Nat->Prop} {g:aq} {A:aa}
theorem mw (hA:bC w OK g A) (h1:∀b,OK b->OK2 b) (h2:∀id inc,A[id]?≠some .dead->inc∈g id->OK2 inc.b):∀(n:Nat) (a:AV) (v:Value),aJ w OK g v a->aJ w OK2 aq.none v (frz A n a):=by
 have up:∀ {v:Value} {a:AV},aJ w OK aq.none v a->aJ w OK2 aq.none v a:=fun h=>h.mono h1 (fun _ _=>rfl) _ (aq.le_refl _)
 intro n
 induction n with
 | zero=>
  intro a v h
  cases a <;> simp only [frz] <;> first
   | exact .undef _ _
   | (have e:=h.inv_bool; rw [e]; exact .bool _ _)
   | (have e:=h.inv_int; rw [e]; exact .int _ _ _)
   | (obtain ⟨s,e,hs⟩:=h.inv_str; rw [e]; exact .str _ _ _ hs)
   | (obtain ⟨p,e⟩:=h.inv_nilS; rw [e]; exact .nilS _ _)
   | (have e:=h.inv_nilP; rw [e]; exact .nilP _)
   | (have e:=h.inv_nilM; rw [e]; exact .nilM _)
   | (cases h; exact .nilF _)
   | (cases h; exact .nilI _)
   | (obtain ⟨b,o,cap,T,c,fz,vals,e,hb,hh,hcap,hv,hs,hc⟩:=h.inv_fs; rw [e]; exact .fs _ b o cap _ T c fz _ vals (h1 _ hb) hh hcap (fun i hi=>up (hv i hi)) hs hc)
   | (obtain ⟨b,o,T,c,fz,vals,e,hb,hh,hne,hv,hc⟩:=h.inv_fp; rw [e]; exact .fp _ b o T c fz _ vals (h1 _ hb) hh hne (fun i hi=>up (hv i hi)) hc)
 | succ n ih=>
  intro a v h
  cases a <;> simp only [frz] <;> try first
   | exact .undef _ _
   | (have e:=h.inv_bool; rw [e]; exact .bool _ _)
   | (have e:=h.inv_int; rw [e]; exact .int _ _ _)
   | (obtain ⟨s,e,hs⟩:=h.inv_str; rw [e]; exact .str _ _ _ hs)
   | (obtain ⟨p,e⟩:=h.inv_nilS; rw [e]; exact .nilS _ _)
   | (have e:=h.inv_nilP; rw [e]; exact .nilP _)
   | (have e:=h.inv_nilM; rw [e]; exact .nilM _)
   | (cases h; exact .nilF _)
   | (cases h; exact .nilI _)
   | (obtain ⟨b,o,cap,T,c,fz,vals,e,hb,hh,hcap,hv,hs,hc⟩:=h.inv_fs; rw [e]; exact .fs _ b o cap _ T c fz _ vals (h1 _ hb) hh hcap (fun i hi=>up (hv i hi)) hs hc)
   | (obtain ⟨b,o,T,c,fz,vals,e,hb,hh,hne,hv,hc⟩:=h.inv_fp; rw [e]; exact .fp _ b o T c fz _ vals (h1 _ hb) hh hne (fun i hi=>up (hv i hi)) hc)
  case sl id off len=>
   split
   ·rename_i s gr es hid
    obtain ⟨inc,cap,ao,hinc,rfl,hl,hn,hcap,ha⟩:=h.inv_sl
    obtain ⟨hlt',hrow⟩:=List.getElem?_eq_some_iff.1 hid
    have hent:=hA.ent id hlt'
    rw [hrow] at hent
    obtain ⟨hesz,hne,hnc,c,T,fz,hh,hu,hcs,hel⟩:=hent.2 inc hinc
    have hlen:(((es.drop off).take len).map (frz A n)).length=len:=by simp; omega
    obtain ⟨vals,hvals⟩:∃vals:Nat->Value,∀i (hi:i<len),aJ w OK g (vals i) (es[off+i]'(by omega))/\(vals i).cells.size=s/\bQ (vals i)/\∀j,j<s->c[inc.o+(off+i)*s+j]?=(vals i).cells[j]?:=
     ⟨fun i=>if hi:i<len then (hel (off+i) (by omega) (by omega)).choose else undef,fun i hi=>by simp only [hi,dif_pos]; exact (hel (off+i) (by omega) (by omega)).choose_spec⟩
    have:=aJ.fs (w:=w) (OK:=OK2) aq.none inc.b ao cap s T c fz (((es.drop off).take len).map (frz A n)) vals (h2 id inc (by rw [hid]; simp) hinc) hh (by omega)
     (fun i hi=>by simp only [List.getElem_map,List.getElem_take,List.getElem_drop]; exact ih _ _ (hvals i (by omega)).1)
     (fun i hi=>⟨(hvals i (by omega)).2.1,(hvals i (by omega)).2.2.1⟩)
     (fun i hi j hj=>by
      rw [<-(hvals i (by omega)).2.2.2 j hj,ha (by omega),hesz]
      congr 1; rw [Nat.add_mul]; omega)
    rwa [hlen] at this
   ·exact .undef _ _
  case csl id off len=>
   split
   ·rename_i s gr es hid
    obtain ⟨inc,ao,hinc,rfl,hn,hcap,ha⟩:=h.inv_csl
    obtain ⟨hlt',hrow⟩:=List.getElem?_eq_some_iff.1 hid
    have hent:=hA.ent id hlt'
    rw [hrow] at hent
    obtain ⟨hesz,hne,hnc,c,T,fz,hh,hu,hcs,hel⟩:=hent.2 inc hinc
    have hlen:(((es.drop off).take len).map (frz A n)).length=len:=by simp; omega
    obtain ⟨vals,hvals⟩:∃vals:Nat->Value,∀i (hi:i<len),aJ w OK g (vals i) (es[off+i]'(by omega))/\(vals i).cells.size=s/\bQ (vals i)/\∀j,j<s->c[inc.o+(off+i)*s+j]?=(vals i).cells[j]?:=
     ⟨fun i=>if hi:i<len then (hel (off+i) (by omega) (by omega)).choose else undef,fun i hi=>by simp only [hi,dif_pos]; exact (hel (off+i) (by omega) (by omega)).choose_spec⟩
    have:=aJ.fs (w:=w) (OK:=OK2) aq.none inc.b ao len s T c fz (((es.drop off).take len).map (frz A n)) vals (h2 id inc (by rw [hid]; simp) hinc) hh (by omega)
     (fun i hi=>by simp only [List.getElem_map,List.getElem_take,List.getElem_drop]; exact ih _ _ (hvals i (by omega)).1)
     (fun i hi=>⟨(hvals i (by omega)).2.1,(hvals i (by omega)).2.2.1⟩)
     (fun i hi j hj=>by
      rw [<-(hvals i (by omega)).2.2.2 j hj,ha (by omega),hesz]
      congr 1; rw [Nat.add_mul]; omega)
    rwa [hlen] at this
   ·exact .undef _ _
  case ptr id i o=>
   split
   ·rename_i s gr es hid
    split
    ·rename_i e he
     split
     ·rename_i hc
      obtain ⟨hsol,ho⟩:=hc
      obtain ⟨inc,hinc,rfl,hn,ho'⟩:=h.inv_ptr
      obtain ⟨hlt',hrow⟩:=List.getElem?_eq_some_iff.1 hid
      obtain ⟨hi',rfl⟩:=List.getElem?_eq_some_iff.1 he
      have hent:=hA.ent id hlt'
      rw [hrow] at hent
      obtain ⟨hesz,hne,hnc,c,T,fz,hh,hu,hcs,hel⟩:=hent.2 inc hinc
      obtain ⟨v,hv,hvs,hok,hc⟩:=hel i hi' hn
      obtain ⟨k1,k2,k3⟩:=hv.cells hsol
      obtain ⟨f,hf⟩:∃f:Nat->Value,∀j (hj:j<(cellsOf es[i]).length),v.cells[j]?=some (f j)/\(f j).oneCell'=true/\aJ w OK g (f j) (cellsOf es[i])[j]:=
       ⟨fun j=>(v.cells[j]?).getD undef,fun j hj=>by
        obtain ⟨x,a1,a2,a3⟩:=k3 j hj
        simp only [a1,Option.getD_some]
        exact ⟨trivial,a2,a3⟩⟩
      refine .fp _ inc.b _ T c fz _ (fun j=>f (o+j)) (h2 id inc (by rw [hid]; simp) hinc) hh (by simp; omega) (fun j hj=>?_) (fun j hj=>?_)
      ·simp only [List.getElem_map,List.getElem_drop]
       exact ih _ _ (hf (o+j) (by simp at hj; omega)).2.2
      ·have hj':o+j<(cellsOf es[i]).length:=by simp at hj; omega
       refine ⟨?_,(hf (o+j) hj').2.1⟩
       rw [hesz,Nat.add_assoc,hc (o+j) (by omega)]
       exact (hf (o+j) hj').1
     ·exact .undef _ _
    ·exact .undef _ _
   ·exact .undef _ _
  case agg cs=>
   obtain ⟨vs,vals,rfl,hl,hg,hv⟩:=h.inv_agg
   exact .agg _ vs _ (by simpa using hl) vals (fun i hi=>hg i (by simpa using hi)) (fun i hi=>by simp only [List.getElem_map]; exact ih _ _ (hv i (by simpa using hi)))
  case tup cs=>
   obtain ⟨vs,vals,rfl,hl,hg,hv⟩:=h.inv_tup
   exact .tup _ vs _ (by simpa using hl) vals (fun i hi=>hg i (by simpa using hi)) (fun i hi=>by simp only [List.getElem_map]; exact ih _ _ (hv i (by simpa using hi)))
  case func fn c1 c2=>
   obtain ⟨vs1,vs2,vals1,vals2,rfl,hl1,hl2,hg1,hg2,hv1,hv2⟩:=h.inv_func
   exact .func _ fn vs1 vs2 _ _ (by simpa using hl1) (by simpa using hl2) vals1 vals2 (fun i hi=>hg1 i (by simpa using hi)) (fun i hi=>hg2 i (by simpa using hi))
    (fun i hi=>by simp only [List.getElem_map]; exact ih _ _ (hv1 i (by simpa using hi))) (fun i hi=>by simp only [List.getElem_map]; exact ih _ _ (hv2 i (by simpa using hi)))
  case iface t x=>
   cases h with
   | iface _ t v a hv=>exact .iface _ t v _ (ih _ _ hv)
end
inductive IK where
 | tmp (i:Nat)
 | cell (i:Nat) (agg:Bool) (size:Nat)
structure bL where
 n:Nat
 len:Nat
 mc:MC
 res:List IK
def iX (P:Program) (vs:List Nat):List ResultVar->Option (List IK)
 | []=>some []
 | .tmp t :: r=>match vs.idxOf? t,iX P vs r with
  | some i,some l=>some (.tmp i :: l)
  | _,_=>none
 | .cell a t :: r=>match vs.idxOf? a,P.info? t,ef P t,iX P vs r with
  | some i,some ti,some b,some l=>some (.cell i b ti.size :: l)
  | _,_,_,_=>none
def rQ:List Nat->Bool
 | []=>true
 | x :: r=>!r.contains x && rQ r
def aA (P:Program) (fn:Func) (n:Nat) (vs:List Nat) (pu:List FuncId) (on:Bool) (hints:pj):Option bL:=
 match fn.body with
 | some c=>match iX P vs fn.results.toList with
  | some rs=>if rQ vs && vs.all (· < fn.ntmps) && vs.take n == List.range n && Nat.ble n fn.ntmps && !(fn.name == "runtime.NumGoroutine") then some ⟨n,vs.length,(cV P fn.ntmps vs pu on false c hints).1,rs⟩ else none
  | none=>none
 | none=>none
def dh (A:aa) (σ:List AV):List IK->Option (List AV)
 | []=>some []
 | .tmp i :: r=>(dh A σ r).map (σ.getD i .undef :: ·)
 | .cell i b s :: r=>match aD b s A (σ.getD i .undef),dh A σ r with
  | some a,some l=>some (a :: l)
  | _,_=>none
def nh:List AV->AV
 | [a]=>a
 | l=>.tup l
def bN (E:Env) (fuel:Nat) (mf:bL) (args:List AV) (A:aa):Option (AV × aa):=
 if args.length=mf.n then
  match evC E fuel mf.mc (args++List.replicate (mf.len-mf.n) .undef) A with
  | some (.normal σ A')=>(dh A' σ mf.res).map fun l=>(nh l,A')
  | some (.ret σ A')=>(dh A' σ mf.res).map fun l=>(nh l,A')
  | _=>none
 else none
def au (P:Program) (G:Nat->Option (List AV)) (f:FuncId) (M:aE->List AV->aa->Option (AV × aa)):Prop:=
 Enters P f/\∀ys h,fK P G ys h->∀args A r A',M h args A=some (r,A')->∀(w:World) (OK:Nat->Prop) (g:aq) (vs:List Value),bC w OK g A->tw G ys w OK g->bm w OK g vs args ->
  Calls P f vs.toArray w fun e w'=>∃v OK' g',e=.returned v/\aJ w' OK' g' v r/\bC w' OK' g' A'/\Ext w OK g w' OK' g'
def dD (P:Program) (G:Nat->Option (List AV)) (f:FuncId) (M:List AV->aa->Option (AV × aa)):Prop:=
 Enters P f/\∀args A r A',M args A=some (r,A')->∀(w:World) (OK:Nat->Prop) (g:aq) (vs:List Value),bC w OK g A->vV G w OK->bm w OK g vs args ->
  Calls P f vs.toArray w fun e w'=>∃v OK' g',e=.returned v/\aJ w' OK' g' v r/\bC w' OK' g' A'/\Ext w OK g w' OK' g'
theorem dD.y {P:Program} {G:Nat->Option (List AV)} {f:FuncId} {M:List AV->aa->Option (AV × aa)} (h:dD P G f M):au P G f (fun _=>M):=
 ⟨h.1,fun _ _ _ args A r A' he w OK g vs hA hI hl=>h.2 args A r A' he w OK g vs hA hI.1 hl⟩
section
variable {P:Program} {E:Env}
theorem nZ:∀ {l:List Nat},rQ l=true->l.Nodup
 | [],_=>List.nodup_nil
 | x :: r,h=>by
  simp only [rQ,Bool.and_eq_true,Bool.not_eq_true',List.contains_eq_mem,decide_eq_false_iff_not] at h
  exact List.nodup_cons.2 ⟨h.1,nZ h.2⟩
def pz (tmps:Array Value):ResultVar->Sem Value
 | .tmp t=>pure (tmps.getD t undef)
 | .cell a t=>do loadVar t (<-asAddr (tmps.getD a undef))
theorem fu {vs:List Nat} {N:Nat} {base:Nat} {w:World} {OK:Nat->Prop} {g:aq} {σ:List AV} {A:aa} {a:Act} (h:SRel E N vs base w OK g σ A a) :
  ∀(rs:List ResultVar) (ms:List IK) (l:List AV),iX P vs rs=some ms->dh A σ ms=some l ->
   ∃us:List Value,bm w OK g us l/\(rs.mapM (pz a.tmps)).run P w=.ok us w
 | [],ms,l,hc,he=>by
  injection hc with hc; subst hc
  injection he with he; subst he
  exact ⟨[],trivial,rfl⟩
 | .tmp t :: r,ms,l,hc,he=>by
  simp only [iX] at hc
  split at hc
  ·rename_i i l' hi hl'
   injection hc with hc; subst hc
   simp only [dh,Option.map_eq_some_iff] at he
   obtain ⟨l2,h2,rfl⟩:=he
   obtain ⟨us,k1,k2⟩:=fu h r l' l2 hl' h2
   obtain ⟨hlt,het⟩:=List.idxOf?_eq_some_iff.1 hi |> fun h=>(⟨h.1,h.2.1⟩:∃h:i<vs.length,vs[i]=t)
   refine ⟨a.tmps.getD t undef :: us,⟨by rw [<-het]; exact h.vars i hlt,k1⟩,?_⟩
   simp [List.mapM_cons,pz,k2]
  ·cases hc
 | .cell x t :: r,ms,l,hc,he=>by
  simp only [iX] at hc
  split at hc
  ·rename_i i ti b l' hi hti hb hl'
   injection hc with hc; subst hc
   simp only [dh] at he
   split at he
   ·rename_i y l2 h1 h2
    injection he with he; subst he
    obtain ⟨us,k1,k2⟩:=fu h r l' l2 hl' h2
    obtain ⟨hlt,het⟩:=List.idxOf?_eq_some_iff.1 hi |> fun h=>(⟨h.1,h.2.1⟩:∃h:i<vs.length,vs[i]=x)
    have hv:=h.vars i hlt
    rw [het] at hv
    obtain ⟨u,e1,e2⟩:=kF hti hb h.arena hv h1
    refine ⟨u :: us,⟨e2,k1⟩,?_⟩
    have e1':(pz a.tmps (.cell x t)).run P w=.ok u w:=by
     have hp:∃ad,a.tmps.getD x undef=.pointer (some ad):=by
      generalize σ.getD i .undef=y1 at h1 hv
      cases y1 <;> first | (simp [aD] at h1; done) | (obtain ⟨inc,_,e,_⟩:=hv.inv_ptr; exact ⟨_,e⟩) | (obtain ⟨b,o,T,c,fz,vals,e,_⟩:=hv.inv_fp; exact ⟨_,e⟩)
     obtain ⟨ad,hp⟩:=hp
     rw [hp] at e1
     simp only [pz,hp]
     exact e1
    simp [List.mapM_cons,e1',k2]
   ·cases he
  ·cases hc
theorem bC.putFree {w:World} {OK:Nat->Prop} {g:aq} {A:aa} (h:bC w OK g A) {D:Nat} (h1:¬ OK D) (h2:∀id inc,inc∈g id->inc.b≠D) (o:Obj):bC (w.putObj D o) OK g A where
 ent id hi:=(h.ent id hi).mono (fun _ h=>h) (fun b hb=>World.putObj_heap_other (fun e=>h1 (e ▸ hb))) g.le_refl (fun inc hin=>World.putObj_heap_other (h2 id inc hin))
 out:=h.out
 one:=h.one
 apart:=h.apart
 low id inc hi:=by simpa using h.low id inc hi
 ok b hb:=by simpa using h.ok b hb
theorem kW.put {base:Nat} {w:World} {OK:Nat->Prop} {g:aq} {D:Nat} (o:Obj):∀ {l:List Deferred},(∀d'∈l,d'≠⟨.collected D,#[]⟩)->kW base w OK g l->kW base (w.putObj D o) OK g l
 | [],_,_=>trivial
 | d :: r,hd,⟨⟨D',h1,h2,h3,h4,h5,h6⟩,hr⟩=>
  ⟨⟨D',h1,h2,(World.putObj_heap_other (fun e=>hd d (by simp) (by rw [h1,e]))).trans h3,h4,h5,h6⟩,kW.put o (fun d' h=>hd d' (by simp [h])) hr⟩
theorem kx {N:Nat} {vs:List Nat} {fn:Func} {mrs:List IK} {w0:World} {OK0:Nat->Prop} {g0:aq} {σ:List AV} {A:aa} {l:List AV} {tm:Array Value} {R:Ending->World->Prop}
  (hcr:iX P vs fn.results.toList=some mrs) (hl:dh A σ mrs=some l)
  (hR:∀v w OK g,aJ w OK g v (nh l)->bC w OK g A->Ext w0 OK0 g0 w OK g->R (.returned v) w) :
  ∀(ds:List Deferred) (w:World) (OK:Nat->Prop) (g:aq),SRel E N vs w0.heap.size w OK g σ A {tmps:=tm,defers:=ds}->Ext w0 OK0 g0 w OK g->LeavesInM Fence.wide 0 P fn tm R ds .returning w
 | [],w,OK,g,hs,hx=>by
  obtain ⟨us1,k1,k2⟩:=fu hs fn.results.toList mrs l hcr hl
  refine ⟨if h:us1.toArray.size=1 then us1.toArray[0] else .tuple us1.toArray,?_,hR _ w OK g ?_ hs.arena hx⟩
  ·show (do
    let vs <-fn.results.mapM (pz tm)
    pure (if h:vs.size=1 then vs[0] else .tuple vs):Sem Value).run P w=_
   rw [Array.mapM_eq_mapM_toList]
   simp [k2]
  ·have hlen:=k1.length
   match us1,l,k1 with
   | [],[],k1=>exact .tup _ _ [] rfl (fun _=>undef) (fun i hi=>by simp at hi) (fun i hi=>by simp at hi)
   | [u],[a1],k1=>exact k1.1
   | u1 :: u2 :: ur,a1 :: a2 :: ar,k1=>
    have:¬ (u1 :: u2 :: ur).toArray.size=1:=by simp
    rw [dif_neg this]
    refine .tup _ _ _ (by simpa using hlen) (fun i=>(u1 :: u2 :: ur).getD i undef) (fun i hi=>?_) (fun i hi=>?_)
    ·have:i<(u1 :: u2 :: ur).length:=by simp at hlen hi ⊢; omega
     rw [List.getElem?_toArray,List.getElem?_eq_getElem this]
     simp [List.getD_eq_getElem?_getD,List.getElem?_eq_getElem this]
    ·have:i<(u1 :: u2 :: ur).length:=by simp at hlen hi ⊢; omega
     have:=k1.get i this hi
     simpa [List.getD_eq_getElem?_getD,List.getElem?_eq_getElem ‹i<(u1 :: u2 :: ur).length›] using this
 | d :: ds,w,OK,g,hs,hx=>by
  obtain ⟨⟨D,rfl,h2,h3,h4,h5,h6⟩,hr⟩:=hs.defers
  refine ⟨by simp,.inl ⟨D,w.putObj D (.deferred none),rfl,run_takeDeferred h3,?_⟩⟩
  have hok:∀b,OK b->(w.putObj D (.deferred none)).heap[b]?=w.heap[b]?:=fun b hb=>World.putObj_heap_other (fun e=>h4 (e ▸ hb))
  have hm:∀ {v:Value} {a:AV},aJ w OK g v a->aJ (w.putObj D (.deferred none)) OK g v a:=fun h=>h.mono (fun _ h=>h) hok g g.le_refl
  refine kx hcr hl hR ds _ OK g ⟨hs.size,hr.put _ h6,by simpa using hs.low,hs.len,fun i hi=>hm (hs.vars i hi),hs.arena.putFree h4 h5 _,
   ⟨hs.glob.1.mono (fun _ h=>h) hok,fun y hy=>⟨(hs.glob.2 y hy).1,(hs.glob.2 y hy).2.mono fun _ _ hv=>hm hv⟩⟩⟩ ?_
  exact {
      os:=hx.os,tape:=hx.tape,output:=hx.output,size:=by simpa using hx.size,blk:=fun b hb hu=>(World.putObj_heap_other (by omega)).trans (hx.blk b hb hu),gle:=hx.gle,okle:=hx.okle,fresh:=hx.fresh,okf:=hx.okf,
      loops:=fun b r hb hbusy=>(World.putObj_heap_other (by have:=(Array.getElem?_eq_some_iff.1 hb).1; omega)).trans (hx.loops b r hb hbusy),fix:=hx.fix}
theorem iT (hE:bZ P E) {f:FuncId} {fn:Func} {n:Nat} {vs:List Nat} {pu:List FuncId} {on:Bool} {hints:pj} {mf:bL} {fuel:Nat} (hf:P.funcs[f]?=some fn) (hc:aA P fn n vs pu on hints=some mf) (hpu:aU E pu) :
  Enters P f/\∀args A r A',bN E fuel mf args A=some (r,A')->∀(w:World) (OK:Nat->Prop) (g:aq) (us:List Value),bC w OK g A->tw E.glob E.ys w OK g->bm w OK g us args ->
  Calls P f us.toArray w fun e w'=>∃v OK' g',e=.returned v/\aJ w' OK' g' v r/\bC w' OK' g' A'/\Ext w OK g w' OK' g':=by
 unfold aA at hc
 split at hc
 ·rename_i c hb
  split at hc
  ·rename_i rs hcr
   split at hc
   ·rename_i hck
    injection hc with hc; subst hc
    simp only [Bool.and_eq_true,Bool.not_eq_true',List.all_eq_true,decide_eq_true_eq,beq_iff_eq] at hck
    obtain ⟨⟨⟨⟨h1,h2⟩,h3⟩,h4⟩,h5⟩:=hck
    have h4:n<=fn.ntmps:=Nat.le_of_ble_eq_true h4
    refine ⟨enters_of hf h5 hb,?_⟩
    intro args A r A' he w OK g us hA hG hl
    unfold bN at he
    split at he
    ·rename_i hlen
     simp only at hlen
     have hul:=hl.length
     have hvn:=nZ h1
     have hnv:n<=vs.length:=by
      have:=congrArg List.length h3
      simp at this; omega
     have hvi:∀i (hi:i<n),vs[i]'(by omega)=i:=fun i hi=>by
      have:=congrArg (fun l=>l[i]?) h3
      simp [hi] at this
      have h':i<vs.length:=by omega
      simpa [h'] using this
     have hs0:SRel E fn.ntmps vs w.heap.size w OK g (args++List.replicate (vs.length-n) .undef) A {tmps:=us.toArray++Array.replicate (fn.ntmps-us.toArray.size) undef,defers:=[]}:=by
      refine ⟨by simp; omega,trivial,Nat.le_refl _,by simp; omega,fun i hi=>?_,hA,hG⟩
      rcases Nat.lt_or_ge i n with hlt | hge
      ·have e1:=hvi i hlt
       rw [e1]
       have:i<us.length:=by omega
       have e2:(us.toArray++Array.replicate (fn.ntmps-us.toArray.size) undef).getD i undef=us[i]:=by
        simp [Array.getD_eq_getD_getElem?,Array.getElem?_append,this]
       have e3:(args++List.replicate (vs.length-n) AV.undef).getD i .undef=args[i]'(by omega):=by
        simp [List.getD_eq_getElem?_getD,List.getElem?_append,show i<args.length by omega]
       rw [e2,e3]
       exact hl.get i this (by omega)
      ·have e3:(args++List.replicate (vs.length-n) AV.undef).getD i .undef=.undef:=by
        simp [List.getD_eq_getElem?_getD,List.getElem?_append,show ¬ i<args.length by omega,List.getElem?_replicate]
        split <;> rfl
       rw [e3]; exact .undef _ _
     have fin:∀(out:Out) (σ:List AV),evC E fuel (cV P fn.ntmps vs pu on false c hints).1 (args++List.replicate (vs.length-n) .undef) A=some out->(out=.normal σ A'\/out=.ret σ A')->(∃l,dh A' σ rs=some l/\nh l=r) ->
       Calls P f us.toArray w fun e w'=>∃v OK' g',e=.returned v/\aJ w' OK' g' v r/\bC w' OK' g' A'/\Ext w OK g w' OK' g':=by
      intro out σ hev hout ⟨l,hl1,hl2⟩
      have hw:=uZ hE hvn h2 hpu fuel c false none w.heap.size 0 (fun _=>rfl) hints _ A out _ w OK g hs0 hev
      refine callsIn_wide (n:=0).1 (callsIn_of_wp_marks (F:=Fence.wide) hf hb trivial (wpIn_mono hw ?_))
      intro e a w1 hq
      have key:∀OK1 g1,SRel E fn.ntmps vs w.heap.size w1 OK1 g1 σ A' a->Ext w OK g w1 OK1 g1 ->
        LeavesInM Fence.wide 0 P fn a.tmps (fun e w'=>∃v OK' g',e=.returned v/\aJ w' OK' g' v r/\bC w' OK' g' A'/\Ext w OK g w' OK' g') a.defers .returning w1:=by
       intro OK1 g1 hs1 hx1
       exact kx hcr hl1 (fun v w' OK' g' k1 k2 k3=>⟨v,OK',g',rfl,hl2 ▸ k1,k2,k3⟩) a.defers w1 OK1 g1 hs1 hx1
      rcases hout with rfl | rfl
      ·cases e <;> simp only [cW] at hq
       obtain ⟨OK1,g1,q1,q2⟩:=hq
       exact key OK1 g1 q1 q2
      ·cases e <;> simp only [cW] at hq
       obtain ⟨OK1,g1,q1,q2⟩:=hq
       exact key OK1 g1 q1 q2
     simp only at he
     split at he
     ·rename_i σ A1 hev
      simp only [Option.map_eq_some_iff,Prod.mk.injEq] at he
      obtain ⟨l,e1,e2,rfl⟩:=he
      exact fin _ σ hev (.inl rfl) ⟨l,e1,e2⟩
     ·rename_i σ A1 hev
      simp only [Option.map_eq_some_iff,Prod.mk.injEq] at he
      obtain ⟨l,e1,e2,rfl⟩:=he
      exact fin _ σ hev (.inr rfl) ⟨l,e1,e2⟩
     ·cases he
    ·cases he
   ·cases hc
  ·cases hc
 ·cases hc
theorem uU (ys':List Yld) (σ T:List AV) (x:MX):evX {E with ys:=ys'} σ T x=evX E σ T x:=by cases x <;> rfl
theorem sa (ys':List Yld):∀(l:List MO) (σ T:List AV) (A:aa),c9 {E with ys:=ys'} l σ T A=c9 E l σ T A
 | [],σ,T,A=>rfl
 | o :: l,σ,T,A=>by
  have hx:evX {E with ys:=ys'} σ T=evX E σ T:=funext fun x=>uU ys' σ T x
  have hs:∀(ρ:MX->AV) (m:MOp),aO {E with ys:=ys'} ρ A m=aO E ρ A m:=fun ρ m=>by cases m <;> rfl
  simp only [c9,hx,hs,sa ys' l]
theorem pZ (ys':List Yld) (pu:List FuncId):∀(l:List MO) (σ T:List AV) (A:aa) (fs:List dJ),cJ {E with ys:=ys'} pu l σ T A fs=cJ E pu l σ T A fs
 | [],σ,T,A,fs=>rfl
 | o :: l,σ,T,A,fs=>by
  have hx:evX {E with ys:=ys'} σ T=evX E σ T:=funext fun x=>uU ys' σ T x
  have hs:∀(ρ:MX->AV) (m:MOp),aO {E with ys:=ys'} ρ A m=aO E ρ A m:=fun ρ m=>by cases m <;> rfl
  have hf:∀(ρ:MX->AV) (m:MOp),bw {E with ys:=ys'} pu ρ A m=bw E pu ρ A m:=fun ρ m=>by cases m <;> rfl
  simp only [cJ,hx,hs,hf,pZ ys' pu l]
theorem HO (ys':List Yld) (fuel:Nat):∀c:MC,evC {E with ys:=ys'} fuel c=evC E fuel c:=by
 intro c
 have hx:∀ σ T,evX {E with ys:=ys'} σ T=evX E σ T:=fun σ T=>funext fun x=>uU ys' σ T x
 induction c with
 | region ops=>funext σ A; simp only [evC,sa]
 | regionD pu ops pairs=>funext σ A; simp only [evC,pZ]
 | seq a b iha ihb=>funext σ A; simp only [evC,iha,ihb]
 | cond c a b iha ihb=>funext σ A; simp only [evC,iha,ihb,hx]
 | block id a iha=>funext σ A; simp only [evC,iha]
 | loop mask a iha=>funext σ A; simp only [evC,iha]
 | rangeFunc f ps a b iha ihb=>funext σ A; simp only [evC,iha,ihb,hx]
 | scope a iha=>funext σ A; simp only [evC,iha]
 | _=>rfl
theorem xU (ys':List Yld) (fuel:Nat) (mf:bL) (args:List AV) (A:aa):bN {E with ys:=ys'} fuel mf args A=bN E fuel mf args A:=by
 unfold bN; simp only [HO]
end
abbrev rj:=List AV->aa->Option (AV × aa)
abbrev aN:=List AV->Option AV
abbrev aB:=aE->rj
def aR:List (FuncId × aB)->FuncId->Option aB
 | [],_=>none
 | (g,M) :: r,f=>if f=g then some M else aR r f
def pd (fs:List (FuncId × aB)) (h:aE):aE:=fun fv args A=>
 match fv with
 | .func (.func f) first cap=>match aR fs f with
  | some M=>M h (first++args++cap) A
  | none=>none
 | _=>none
def cG (G:Nat->Option (List AV)) (fs:List (FuncId × aB)) (h:aE):Env:=⟨pd fs,G,[],h⟩
def ac (G:Nat->Option (List AV)) (fs:List (FuncId × aB)):Env:=cG G fs fun _ _ _=>none
def ak (P:Program) (G:Nat->Option (List AV)) (f:FuncId) (M:aN):Prop:=
 Enters P f/\∀args r,M args=some r->∀(w:World) (OK:Nat->Prop) (vs:List Value),(∀b,OK b->b<w.heap.size)->vV G w OK->bm w OK aq.none vs args ->
  Calls P f vs.toArray w fun e w'=>∃v OK',e=.returned v/\aJ w' OK' aq.none v r/\(∀b,OK' b->b<w'.heap.size)/\Ext w OK aq.none w' OK' aq.none
def dP:Nat->AV->Bool
 | _,.bool _=>true
 | _,.int ..=>true
 | _,.str _=>true
 | _,.nilS=>true
 | _,.nilP=>true
 | _,.nilM=>true
 | _,.nilF=>true
 | _,.nilI=>true
 | _,.undef=>true
 | n+1,.agg cs=>cs.all (dP n)
 | n+1,.tup cs=>cs.all (dP n)
 | n+1,.iface _ v=>dP n v
 | _,_=>false
def ij (n:Nat) (M:aN):rj:=fun args A=>
 match M (args.map (frz A n)) with
 | some r=>if dP n r || args.all (br n) then some (r,A) else none
 | none=>none
def aK (n:Nat) (M:aN):aB:=fun _=>ij n M
section
variable {P:Program} {G:Nat->Option (List AV)}
theorem cQ {w w':World} {OK OK':Nat->Prop} {g g':aq}:∀(n:Nat) (a:AV) (v:Value),dP n a=true->aJ w OK g v a->aJ w' OK' g' v a:=by
 intro n
 induction n with
 | zero=>
  intro a v hs h
  cases a <;> simp only [dP,Bool.false_eq_true] at hs <;> first
   | exact .undef _ _
   | (have e:=h.inv_bool; rw [e]; exact .bool _ _)
   | (have e:=h.inv_int; rw [e]; exact .int _ _ _)
   | (obtain ⟨s,e,hs⟩:=h.inv_str; rw [e]; exact .str _ _ _ hs)
   | (obtain ⟨p,e⟩:=h.inv_nilS; rw [e]; exact .nilS _ _)
   | (have e:=h.inv_nilP; rw [e]; exact .nilP _)
   | (have e:=h.inv_nilM; rw [e]; exact .nilM _)
   | (cases h; exact .nilF _)
   | (cases h; exact .nilI _)
 | succ n ih=>
  intro a v hs h
  cases a <;> simp only [dP,Bool.false_eq_true] at hs <;> try first
   | exact .undef _ _
   | (have e:=h.inv_bool; rw [e]; exact .bool _ _)
   | (have e:=h.inv_int; rw [e]; exact .int _ _ _)
   | (obtain ⟨s,e,hs⟩:=h.inv_str; rw [e]; exact .str _ _ _ hs)
   | (obtain ⟨p,e⟩:=h.inv_nilS; rw [e]; exact .nilS _ _)
   | (have e:=h.inv_nilP; rw [e]; exact .nilP _)
   | (have e:=h.inv_nilM; rw [e]; exact .nilM _)
   | (cases h; exact .nilF _)
   | (cases h; exact .nilI _)
  case agg cs=>
   simp only [List.all_eq_true] at hs
   obtain ⟨vs,vals,rfl,hl,hg,hv⟩:=h.inv_agg
   exact .agg _ vs _ hl vals hg (fun i hi=>ih _ _ (hs _ (List.getElem_mem hi)) (hv i hi))
  case tup cs=>
   simp only [List.all_eq_true] at hs
   obtain ⟨vs,vals,rfl,hl,hg,hv⟩:=h.inv_tup
   exact .tup _ vs _ hl vals hg (fun i hi=>ih _ _ (hs _ (List.getElem_mem hi)) (hv i hi))
  case iface t x=>
   cases h with
   | iface _ t v a hv=>exact .iface _ t v _ (ih _ _ hs hv)
theorem iJ {w:World} {OK:Nat->Prop} {g:aq} {A:aa}:∀(n:Nat) (a:AV) (v:Value),br n a=true->aJ w OK g v a->aJ w OK aq.none v (frz A n a):=by
 intro n
 induction n with
 | zero=>
  intro a v hs h
  cases a <;> simp only [br,Bool.false_eq_true] at hs <;> simp only [frz] <;> first
   | exact .undef _ _
   | (have e:=h.inv_bool; rw [e]; exact .bool _ _)
   | (have e:=h.inv_int; rw [e]; exact .int _ _ _)
   | (obtain ⟨s,e,hs⟩:=h.inv_str; rw [e]; exact .str _ _ _ hs)
   | (obtain ⟨p,e⟩:=h.inv_nilS; rw [e]; exact .nilS _ _)
   | (have e:=h.inv_nilP; rw [e]; exact .nilP _)
   | (have e:=h.inv_nilM; rw [e]; exact .nilM _)
   | (cases h; exact .nilF _)
   | (cases h; exact .nilI _)
   | (obtain ⟨b,o,cap,T,c,fz,vals,e,hb,hh,hcap,hv,hs,hc⟩:=h.inv_fs; rw [e]; exact .fs _ b o cap _ T c fz _ vals hb hh hcap hv hs hc)
   | (obtain ⟨b,o,T,c,fz,vals,e,hb,hh,hne,hv,hc⟩:=h.inv_fp; rw [e]; exact .fp _ b o T c fz _ vals hb hh hne hv hc)
 | succ n ih=>
  intro a v hs h
  cases a <;> simp only [br,Bool.false_eq_true] at hs <;> simp only [frz] <;> try first
   | exact .undef _ _
   | (have e:=h.inv_bool; rw [e]; exact .bool _ _)
   | (have e:=h.inv_int; rw [e]; exact .int _ _ _)
   | (obtain ⟨s,e,hs⟩:=h.inv_str; rw [e]; exact .str _ _ _ hs)
   | (obtain ⟨p,e⟩:=h.inv_nilS; rw [e]; exact .nilS _ _)
   | (have e:=h.inv_nilP; rw [e]; exact .nilP _)
   | (have e:=h.inv_nilM; rw [e]; exact .nilM _)
   | (cases h; exact .nilF _)
   | (cases h; exact .nilI _)
   | (obtain ⟨b,o,cap,T,c,fz,vals,e,hb,hh,hcap,hv,hs,hc⟩:=h.inv_fs; rw [e]; exact .fs _ b o cap _ T c fz _ vals hb hh hcap hv hs hc)
   | (obtain ⟨b,o,T,c,fz,vals,e,hb,hh,hne,hv,hc⟩:=h.inv_fp; rw [e]; exact .fp _ b o T c fz _ vals hb hh hne hv hc)
  case agg cs=>
   simp only [List.all_eq_true] at hs
   obtain ⟨vs,vals,rfl,hl,hg,hv⟩:=h.inv_agg
   exact .agg _ vs _ (by simpa using hl) vals (fun i hi=>hg i (by simpa using hi)) (fun i hi=>by simp only [List.getElem_map]; exact ih _ _ (hs _ (List.getElem_mem _)) (hv i (by simpa using hi)))
  case tup cs=>
   simp only [List.all_eq_true] at hs
   obtain ⟨vs,vals,rfl,hl,hg,hv⟩:=h.inv_tup
   exact .tup _ vs _ (by simpa using hl) vals (fun i hi=>hg i (by simpa using hi)) (fun i hi=>by simp only [List.getElem_map]; exact ih _ _ (hs _ (List.getElem_mem _)) (hv i (by simpa using hi)))
  case func fn c1 c2=>
   simp only [Bool.and_eq_true,List.all_eq_true] at hs
   obtain ⟨vs1,vs2,vals1,vals2,rfl,hl1,hl2,hg1,hg2,hv1,hv2⟩:=h.inv_func
   exact .func _ fn vs1 vs2 _ _ (by simpa using hl1) (by simpa using hl2) vals1 vals2 (fun i hi=>hg1 i (by simpa using hi)) (fun i hi=>hg2 i (by simpa using hi))
    (fun i hi=>by simp only [List.getElem_map]; exact ih _ _ (hs.1 _ (List.getElem_mem _)) (hv1 i (by simpa using hi))) (fun i hi=>by simp only [List.getElem_map]; exact ih _ _ (hs.2 _ (List.getElem_mem _)) (hv2 i (by simpa using hi)))
  case iface t x=>
   cases h with
   | iface _ t v a hv=>exact .iface _ t v _ (ih _ _ hs hv)
theorem bm.map {w:World} {OK OK':Nat->Prop} {g g':aq} {vs:List Value} {l:List AV} {F:AV->AV} (h:bm w OK g vs l) (hm:∀v a,a∈l->aJ w OK g v a->aJ w OK' g' v (F a)):bm w OK' g' vs (l.map F):=by
 induction vs generalizing l with
 | nil=>cases l with
  | nil=>exact trivial
  | cons a r=>exact h.elim
 | cons v vs ih=>cases l with
  | nil=>exact h.elim
  | cons a r=>exact ⟨hm v a (by simp) h.1,ih h.2 fun v a ha=>hm v a (by simp [ha])⟩
theorem dD.of_pure {f:FuncId} {M:aN} (h:ak P G f M) (n:Nat):dD P G f (ij n M):=by
 refine ⟨h.1,?_⟩
 intro args A r A' he w OK g vs hA hG hl
 unfold ij at he
 split at he
 ·rename_i r0 hM
  split at he
  ·rename_i hc
   injection he with he
   injection he with e1 e2
   subst e1; subst e2
   by_cases hn:args.all (br n)=true
   ·have hn':=List.all_eq_true.1 hn
    refine (h.2 _ _ hM w OK vs hA.ok hG (hl.map fun v a ha hv=>iJ n a v (hn' a ha) hv)).mono ?_
    rintro e w' ⟨v,OK',rfl,hv,hok',hx⟩
    have hb:∀b,b<w.heap.size->w'.heap[b]?=w.heap[b]?:=fun b hb=>hx.blk b hb (fun _ _ (hi:_∈[])=>by cases hi)
    exact ⟨v,OK',g,rfl,hv.none_to,hA.keep hx.size hb OK' hx.okle hx.okf hok',hx.os,hx.tape,hx.output,hx.size,fun b hb' _=>hb b hb',g.le_refl,hx.okle,fun id inc hi=>.inl ⟨id,inc,hi,rfl⟩,hx.okf,hx.loops,fun _ _ _ _=>rfl⟩
   ·have hsc:dP n r0=true:=by simpa [hn] using hc
    have hok2:∀b,(OK b\/∃id inc,inc∈g id/\inc.b=b)->b<w.heap.size:=fun b hb=>by
     rcases hb with hb | ⟨id,inc,hi,rfl⟩
     ·exact hA.ok b hb
     ·exact hA.low id inc hi
    have hl2:bm w (fun b=>OK b\/∃id inc,inc∈g id/\inc.b=b) aq.none vs (args.map (frz A n)):=hl.map fun v a _ hv=>mw hA (fun b hb=>Or.inl hb) (fun id inc _ hi=>Or.inr ⟨id,inc,hi,rfl⟩) n a v hv
    refine (h.2 _ _ hM w (fun b=>OK b\/∃id inc,inc∈g id/\inc.b=b) vs hok2 (hG.mono (fun b hb=>.inl hb) (fun _ _=>rfl)) hl2).mono ?_
    rintro e w' ⟨v,OK',rfl,hv,hok',hx⟩
    have hb:∀b,b<w.heap.size->w'.heap[b]?=w.heap[b]?:=fun b hb=>hx.blk b hb (fun _ _ (hi:_∈[])=>by cases hi)
    exact ⟨v,OK,g,rfl,cQ n _ _ hsc hv,hA.keep hx.size hb OK (fun _ h=>h) (fun _ h=>.inl h) (fun b hb=>Nat.lt_of_lt_of_le (hA.ok b hb) hx.size),hx.os,hx.tape,hx.output,hx.size,fun b hb' _=>hb b hb',g.le_refl,fun _ h=>h,fun id inc hi=>.inl ⟨id,inc,hi,rfl⟩,fun _ h=>.inl h,hx.loops,fun _ _ _ _=>rfl⟩
  ·cases he
 ·cases he
theorem bC.nil {w:World} {OK:Nat->Prop} (h:∀b,OK b->b<w.heap.size):bC w OK aq.none []:=
 ⟨fun id hi=>by simp at hi,fun _ _=>rfl,fun _ _ _ _ _ _ (hi:_∈[])=>(by cases hi),fun _ _ (hi:_∈[])=>(by cases hi),fun _ _ (hi:_∈[])=>(by cases hi),h⟩
theorem ak.of_fn {f:FuncId} {M':rj} {M:aN} (h:dD P G f M') (n:Nat) (hM:∀args r,M args=some r->∃r0 A',M' args []=some (r0,A')/\frz A' n r0=r):ak P G f M:=by
 refine ⟨h.1,?_⟩
 intro args r he w OK vs hok hG hl
 obtain ⟨r0,A',h1,rfl⟩:=hM args r he
 refine (h.2 _ _ _ _ h1 w OK aq.none vs (bC.nil hok) hG hl).mono ?_
 rintro e w' ⟨v,OK',g',rfl,hv,hA,hx⟩
 refine ⟨v,fun b=>OK' b\/∃id inc,inc∈g' id/\inc.b=b,rfl,mw hA (fun b hb=>.inl hb) (fun id inc _ hi=>.inr ⟨id,inc,hi,rfl⟩) n r0 v hv,?_,?_⟩
 ·rintro b (hb | ⟨id,inc,hi,rfl⟩)
  ·exact hA.ok b hb
  ·exact hA.low id inc hi
 ·refine ⟨hx.os,hx.tape,hx.output,hx.size,hx.blk,aq.le_refl _,fun b hb=>.inl (hx.okle b hb),fun _ _ (hi:_∈[])=>(by cases hi),?_,hx.loops,fun _ _ _ _=>rfl⟩
  rintro b (hb | ⟨id,inc,hi,rfl⟩)
  ·exact hx.okf b hb
  ·rcases hx.fresh id inc hi with ⟨_,_,h0,_⟩ | h1
   ·cases h0
   ·exact .inr h1
theorem ui {A B:aa}:∀(n:Nat) (a:AV),br n a=true->frz B n a=frz A n a:=by
 intro n
 induction n with
 | zero=>intro a h; cases a <;> simp [br] at h <;> rfl
 | succ n ih=>
  intro a h
  cases a <;> simp only [br,Bool.and_eq_true,List.all_eq_true,Bool.false_eq_true] at h <;> simp only [frz]
  ·congr 1; exact List.map_congr_left fun x hx=>ih x (h x hx)
  ·congr 1; exact List.map_congr_left fun x hx=>ih x (h x hx)
  ·congr 1
   ·exact List.map_congr_left fun x hx=>ih x (h.1 x hx)
   ·exact List.map_congr_left fun x hx=>ih x (h.2 x hx)
  ·rw [ih _ h]
theorem aU.cons {fs:List (FuncId × aB)} {h0:aE} {f:FuncId} {pu:List FuncId} {M:aN} (h:aR fs f=some (aK 4 M)) (hr:aU (cG G fs h0) pu):aU (cG G fs h0) (f :: pu):=by
 intro k hk hh args A r A' he
 rcases List.mem_cons.1 hk with rfl | hk
 ·simp only [cG,pd,h,aK,ij,List.nil_append,List.append_nil] at he ⊢
  split at he
  ·rename_i r' hM
   simp only [Option.ite_none_right_eq_some,Option.some.injEq,Prod.mk.injEq] at he
   obtain ⟨hc,rfl,rfl⟩:=he
   refine ⟨rfl,fun hn B=>?_⟩
   have hm:args.map (frz B 4)=args.map (frz A 4):=List.map_congr_left fun x hx=>ui 4 x (List.all_eq_true.1 hn x hx)
   rw [hm,hM]
   simp only [hc,if_true]
  ·cases he
 ·exact hr k hk hh args A r A' he
theorem ou {fs:List (FuncId × aB)} (hfs:∀f M,aR fs f=some M->au P G f M) {ys:List Yld} {h0:aE} (h0s:fK P G ys h0):bZ P {cG G fs h0 with ys:=ys}:=by
 refine ⟨h0s,?_⟩
 intro ys' hd hsub hds fv args A r A' he w OK g v vs hA hG hv hl
 simp only [cG,pd] at he
 split at he
 ·rename_i f first cap
  split at he
  ·rename_i M hM
   obtain ⟨vs1,vs2,vals1,vals2,rfl,hl1,hl2,hg1,hg2,hv1,hv2⟩:=hv.inv_func
   obtain ⟨hen,hcall⟩:=hfs f M hM
   have hlist:bm w OK g (vs1.toList++vs++vs2.toList) (first++args++cap):=by
    have hll:=hl.length
    refine bm.of_get (by simp [hl1,hl2,hll]) (fun i h1 h2=>?_)
    simp only [List.getElem_append]
    simp only [List.length_append,Array.length_toList,hl1,hll]
    have k1:∀i (h:i<vs1.toList.length) (h':i<first.length),aJ w OK g vs1.toList[i] first[i]:=fun i h h'=>by
     have:=hg1 i h'
     rw [Array.getElem?_eq_getElem (by rw [hl1]; exact h')] at this
     injection this with this
     simp only [Array.getElem_toList,this]; exact hv1 i h'
    have k2:∀i (h:i<vs2.toList.length) (h':i<cap.length),aJ w OK g vs2.toList[i] cap[i]:=fun i h h'=>by
     have:=hg2 i h'
     rw [Array.getElem?_eq_getElem (by rw [hl2]; exact h')] at this
     injection this with this
     simp only [Array.getElem_toList,this]; exact hv2 i h'
    split
    ·split
     ·exact k1 _ _ _
     ·exact hl.get _ _ _
    ·exact k2 _ _ _
   have:=hcall ys' hd hds _ _ _ _ he w OK g _ hA hG hlist
   refine ⟨⟨.fn (.func f) vs2,vs1++vs.toArray⟩,f,(vs1.toList++vs++vs2.toList).toArray,rfl,?_,this⟩
   have e:(vs1.toList++vs++vs2.toList).toArray=vs1++vs.toArray++vs2:=by simp
   rw [e]
   exact hen _ w
  ·cases he
 ·cases he
theorem ai {fs:List (FuncId × aB)} (hfs:∀f M,aR fs f=some M->au P G f M):bZ P (ac G fs):=
 ou hfs (h0:=fun _ _ _=>none) (ys:=[]) (fun _ _ _ _ _ h=>by cases h)
theorem aG {E:Env} (hE:bZ P E) (hys:E.ys=[]) {f:FuncId} {fn:Func} {n:Nat} {vs:List Nat} {pu:List FuncId} {on:Bool} {hints:pj} {mf:bL} {fuel:Nat} (hf:P.funcs[f]?=some fn) (hc:aA P fn n vs pu on hints=some mf) (hpu:aU E pu) :
  dD P E.glob f (bN E fuel mf):=by
 obtain ⟨h1,h2⟩:=iT (fuel:=fuel) hE hf hc hpu
 exact ⟨h1,fun args A r A' he w OK g us hA hG hl=>h2 args A r A' he w OK g us hA ⟨hG,fun y hy=>by rw [hys] at hy; cases hy⟩ hl⟩
theorem ct {fs:List (FuncId × aB)} (hfs:∀f M,aR fs f=some M->au P G f M) {f:FuncId} {fn:Func} {n:Nat} {vs:List Nat} {pu:List FuncId} {on:Bool} {hints:pj} {mf:bL} {fuel:Nat} (hf:P.funcs[f]?=some fn) (hc:aA P fn n vs pu on hints=some mf) (hpu:aU (ac G fs) pu:=by first | exact aU.nil | (repeat (first | exact aU.nil | refine aU.cons (M:=_) rfl ?_))) :
  au P G f (fun h=>bN (cG G fs h) fuel mf):=by
 refine ⟨(iT (fuel:=fuel) (ai hfs) hf hc hpu).1,fun ys h hh args A r A' he=>?_⟩
 have:=(iT (fuel:=fuel) (ou hfs hh) hf hc hpu).2 args A r A' (by rw [xU]; exact he)
 exact this
theorem au.of_pure {f:FuncId} {M:aN} (h:ak P G f M) (n:Nat):au P G f (aK n M):=(dD.of_pure h n).y
theorem an {Q:FuncId->aB->Prop}:∀f M,aR [] f=some M->Q f M:=fun _ _ h=>by cases h
theorem ag {Q:FuncId->aB->Prop} {g:FuncId} {N:aB} {r:List (FuncId × aB)} (h1:Q g N) (h2:∀f M,aR r f=some M->Q f M):∀f M,aR ((g,N) :: r) f=some M->Q f M:=fun f M h=>by
 simp only [aR] at h
 split at h
 ·rename_i e; injection h with h; subst h; subst e; exact h1
 ·exact h2 f M h
end
inductive KC where
 | code (c:MC)
 | ops (l:List MO) (T:List AV)
 | opsF (pu:List FuncId) (l:List MO) (T:List AV) (fs:List dJ) (pairs:List (Nat × Nat))
 | blk (id:Nat)
def evK (E:Env) (fuel:Nat):List KC->Option Out->Option Out
 | [],o=>o
 | .code c :: k,some (.normal σ A)=>evK E fuel k (evC E fuel c σ A)
 | .ops l T :: k,some (.normal σ A)=>evK E fuel k ((c9 E l σ T A).map fun x=>.normal x.1 x.2)
 | .opsF pu l T fs pairs :: k,some (.normal σ A)=>evK E fuel k (match cJ E pu l σ T A fs with
  | some (σ',A',fs')=>if pairs.all (fun p=>(fs'.getD p.1 .no).apart (fs'.getD p.2 .no)) then some (.normal σ' A') else none
  | none=>none)
 | .blk id :: k,some (.exit id' σ A)=>evK E fuel k (if id'=id then some (.normal σ A) else some (.exit id' σ A))
 | _ :: k,o=>evK E fuel k o
def run (E:Env) (fuel:Nat) (k:List KC) (σ:List AV) (A:aa):Option Out:=evK E fuel k (some (.normal σ A))
def jA (E:Env) (fuel:Nat) (id:Nat) (k:List KC) (σ:List AV) (A:aa):Option Out:=evK E fuel k (some (.exit id σ A))
def after (E:Env) (fuel:Nat) (k:List KC) (o:Out):Option Out:=evK E fuel k (some o)
section
variable {E:Env} {fuel:Nat} {σ:List AV} {A:aa} {k:List KC}
theorem da:∀k,evK E fuel k none=none
 | []=>rfl
 | .code _ :: k=>by simp [evK,da k]
 | .ops _ _ :: k=>by simp [evK,da k]
 | .opsF .. :: k=>by simp [evK,da k]
 | .blk _ :: k=>by simp [evK,da k]
theorem iR:∀k,evK E fuel k (some (.ret σ A))=some (.ret σ A)
 | []=>rfl
 | .code _ :: k=>by simp [evK,iR k]
 | .ops _ _ :: k=>by simp [evK,iR k]
 | .opsF .. :: k=>by simp [evK,iR k]
 | .blk _ :: k=>by simp [evK,iR k]
theorem dv (c:MC):evC E fuel c σ A=run E fuel [.code c] σ A:=rfl
theorem AI:run E fuel [] σ A=some (.normal σ A):=rfl
theorem wI:run E fuel (.code .skip :: k) σ A=run E fuel k σ A:=rfl
theorem aQ (a b:MC):run E fuel (.code (.seq a b) :: k) σ A=run E fuel (.code a :: .code b :: k) σ A:=by
 simp only [run,evK,evC]
 cases evC E fuel a σ A with
 | none=>simp [da]
 | some o=>cases o <;> simp [evK]
theorem sC (l:List MO):run E fuel (.code (.region l) :: k) σ A=run E fuel (.ops l [] :: k) σ A:=rfl
theorem qD (pu:List FuncId) (l:List MO) (pairs:List (Nat × Nat)):run E fuel (.code (.regionD pu l pairs) :: k) σ A=run E fuel (.opsF pu l [] [] pairs :: k) σ A:=rfl
theorem ga (id:Nat) (a:MC):run E fuel (.code (.block id a) :: k) σ A=run E fuel (.code a :: .blk id :: k) σ A:=by
 simp only [run,evK,evC]
 cases evC E fuel a σ A with
 | none=>simp [da]
 | some o=>cases o <;> simp [evK,iR]
theorem AJ (id:Nat):run E fuel (.blk id :: k) σ A=run E fuel k σ A:=rfl
theorem tZ (a:MC):run E fuel (.code (.scope a) :: k) σ A=run E fuel (.code a :: k) σ A:=rfl
theorem wL (mask:List Nat):run E fuel (.code (.kill mask) :: k) σ A=run E fuel k (clear mask σ) A:=rfl
theorem ua:run E fuel (.code .ret :: k) σ A=some (.ret σ A):=iR _
theorem wM (id:Nat):run E fuel (.code (.exit id) :: k) σ A=jA E fuel id k σ A:=rfl
theorem uR (id:Nat):jA E fuel id [] σ A=some (.exit id σ A):=rfl
theorem s9 (id:Nat) (c:MC):jA E fuel id (.code c :: k) σ A=jA E fuel id k σ A:=rfl
theorem uQ (id:Nat) (l:List MO) (T:List AV):jA E fuel id (.ops l T :: k) σ A=jA E fuel id k σ A:=rfl
theorem s8 (id:Nat) (pu:List FuncId) (l:List MO) (T:List AV) (fs:List dJ) (pairs:List (Nat × Nat)):jA E fuel id (.opsF pu l T fs pairs :: k) σ A=jA E fuel id k σ A:=rfl
theorem uT (id:Nat):jA E fuel id (.blk id :: k) σ A=run E fuel k σ A:=by simp [jA,evK,run]
theorem pW (id id':Nat) (h:id≠id'):jA E fuel id (.blk id' :: k) σ A=jA E fuel id k σ A:=by simp [jA,evK,h]
theorem rJ (c:MX) (a b:MC) (t:Bool) (h:evX E σ [] c=.bool t):run E fuel (.code (.cond c a b) :: k) σ A=if t then run E fuel (.code a :: k) σ A else run E fuel (.code b :: k) σ A:=by
 simp only [run,evK,evC,h]; cases t <;> rfl
theorem sE (c:MX) (a b:MC) (h:evX E σ [] c=.bool true):run E fuel (.code (.cond c a b) :: k) σ A=run E fuel (.code a :: k) σ A:=by
 rw [rJ c a b true h]; rfl
theorem sF (c:MX) (a b:MC) (h:evX E σ [] c=.bool false):run E fuel (.code (.cond c a b) :: k) σ A=run E fuel (.code b :: k) σ A:=by
 rw [rJ c a b false h]; rfl
theorem qE (T:List AV):run E fuel (.ops [] T :: k) σ A=run E fuel k σ A:=rfl
theorem Fj (d:Option Nat) (op:MOp) (rest:List MO) (T:List AV):run E fuel (.ops (⟨d,op,none⟩ :: rest) T :: k) σ A =
  match aO E (evX E σ T) A op with
  | some (v,A')=>run E fuel (.ops rest (T++[v]) :: k) (cD σ d v) A'
  | none=>none:=by
 simp only [run,evK,c9,b9]
 cases aO E (evX E σ T) A op with
 | none=>simp [da]
 | some x=>rfl
theorem oH (d:Option Nat) (op:MOp) (rest:List MO) (T:List AV) (x:MX) (want:Bool) (h:evX E σ T x=.bool want):run E fuel (.ops (⟨d,op,some (x,want)⟩ :: rest) T :: k) σ A =
  match aO E (evX E σ T) A op with
  | some (v,A')=>run E fuel (.ops rest (T++[v]) :: k) (cD σ d v) A'
  | none=>none:=by
 simp only [run,evK,c9,b9,h]
 cases want <;> cases aO E (evX E σ T) A op <;> simp [da]
theorem lQ (d:Option Nat) (op:MOp) (rest:List MO) (T:List AV) (x:MX) (want:Bool) (h:evX E σ T x=.bool (!want)):run E fuel (.ops (⟨d,op,some (x,want)⟩ :: rest) T :: k) σ A =
  run E fuel (.ops rest (T++[.tup []]) :: k) (cD σ d (.tup [])) A:=by
 simp only [run,evK,c9,b9,h]
 cases want <;> rfl
theorem qF (d:Option Nat) (op:MOp) (rest:List MO) (T:List AV) (x:MX) (want:Bool) (h:evX E σ T x=.tup []):run E fuel (.ops (⟨d,op,some (x,want)⟩ :: rest) T :: k) σ A =
  run E fuel (.ops rest (T++[.tup []]) :: k) (cD σ d (.tup [])) A:=by
 simp only [run,evK,c9,b9,h]
theorem pt (pu:List FuncId) (T:List AV) (fs:List dJ) (pairs:List (Nat × Nat)):run E fuel (.opsF pu [] T fs pairs :: k) σ A=if pairs.all (fun p=>(fs.getD p.1 .no).apart (fs.getD p.2 .no)) then run E fuel k σ A else none:=by
 simp only [run,evK,cJ]
 split
 ·rfl
 ·exact da _
theorem AH (pu:List FuncId) (d:Option Nat) (op:MOp) (rest:List MO) (T:List AV) (fs:List dJ) (pairs:List (Nat × Nat)):run E fuel (.opsF pu (⟨d,op,none⟩ :: rest) T fs pairs :: k) σ A =
  match aO E (evX E σ T) A op with
  | some (v,A')=>run E fuel (.opsF pu rest (T++[v]) (fs++[bw E pu (evX E σ T) A op]) pairs :: k) (cD σ d v) A'
  | none=>none:=by
 simp only [run,evK,cJ,b9]
 cases aO E (evX E σ T) A op with
 | none=>simp [da]
 | some x=>rfl
theorem nf (pu:List FuncId) (d:Option Nat) (op:MOp) (rest:List MO) (T:List AV) (fs:List dJ) (pairs:List (Nat × Nat)) (x:MX) (want:Bool) (h:evX E σ T x=.bool want):run E fuel (.opsF pu (⟨d,op,some (x,want)⟩ :: rest) T fs pairs :: k) σ A =
  match aO E (evX E σ T) A op with
  | some (v,A')=>run E fuel (.opsF pu rest (T++[v]) (fs++[bw E pu (evX E σ T) A op]) pairs :: k) (cD σ d v) A'
  | none=>none:=by
 simp only [run,evK,cJ,b9,h]
 cases want <;> cases aO E (evX E σ T) A op <;> simp [da]
theorem kL (pu:List FuncId) (d:Option Nat) (op:MOp) (rest:List MO) (T:List AV) (fs:List dJ) (pairs:List (Nat × Nat)) (x:MX) (want:Bool) (h:evX E σ T x=.bool (!want)):run E fuel (.opsF pu (⟨d,op,some (x,want)⟩ :: rest) T fs pairs :: k) σ A =
  run E fuel (.opsF pu rest (T++[.tup []]) (fs++[.no]) pairs :: k) (cD σ d (.tup [])) A:=by
 simp only [run,evK,cJ,b9,h]
 cases want <;> rfl
theorem pw (pu:List FuncId) (d:Option Nat) (op:MOp) (rest:List MO) (T:List AV) (fs:List dJ) (pairs:List (Nat × Nat)) (x:MX) (want:Bool) (h:evX E σ T x=.tup []):run E fuel (.opsF pu (⟨d,op,some (x,want)⟩ :: rest) T fs pairs :: k) σ A =
  run E fuel (.opsF pu rest (T++[.tup []]) (fs++[.no]) pairs :: k) (cD σ d (.tup [])) A:=by
 simp only [run,evK,cJ,b9,h]
theorem wK (mask:List Nat) (a:MC) (o:Out) (h:bI (evC E fuel a) mask fuel σ A=some o):run E fuel (.code (.loop mask a) :: k) σ A=after E fuel k o:=by
 simp only [run,evK,evC,h,after]
theorem vd (mask:List Nat):∀(σ:List AV) (i:Nat),(clear mask σ).set i .undef=clear mask (σ.set i .undef):=by
 induction mask with
 | nil=>intro σ i; rfl
 | cons j m ih=>
  intro σ i
  show (clear m (σ.set j .undef)).set i .undef=clear m ((σ.set i .undef).set j .undef)
  rw [ih]
  congr 1
  by_cases h:i=j
  ·subst h; rfl
  ·exact (List.set_comm _ _ h).symm
theorem qS (mask:List Nat):∀ σ:List AV,clear mask (clear mask σ)=clear mask σ:=by
 induction mask with
 | nil=>intro σ; rfl
 | cons j m ih=>
  intro σ
  show clear m ((clear m (σ.set j .undef)).set j .undef)=clear m (σ.set j .undef)
  rw [vd,List.set_set,ih]
theorem sP (body:List AV->aa->Option Out) (mask:List Nat) (n:Nat) (σ:List AV) (A:aa):bI body mask n σ A=bI body mask n (clear mask σ) A:=by
 cases n with
 | zero=>rfl
 | succ n=>simp only [bI,qS]
theorem aT (mask:List Nat) (a:MC) (o:Out) (h:bI (evC E fuel a) mask fuel (clear mask σ) A=some o):run E fuel (.code (.loop mask a) :: k) σ A=after E fuel k o:=
 wK mask a o (by rw [sP]; exact h)
theorem fk {a:MC} {mask:List Nat} (I:Nat->List AV->aa->Prop) (Q:Out->Prop) (hs:∀k σ A,I k σ A->(∃ σ' A',run E fuel [.code a] (clear mask σ) A=some (.normal σ' A')/\∃k',k'<k/\I k' σ' A')\/(∃o,run E fuel [.code a] (clear mask σ) A=some o/\(∀ σ' A',o≠.normal σ' A')/\Q o)) :
  ∀(n k:Nat) (σ:List AV) (A:aa),k<n->I k σ A->∃o,bI (evC E fuel a) mask n σ A=some o/\Q o:=by
 intro n
 induction n with
 | zero=>intro k σ A h; omega
 | succ n ih=>
  intro k σ A h hi
  rw [bI]
  rcases hs k σ A hi with ⟨σ',A',h1,k',h2,h3⟩ | ⟨o,h1,h2,h3⟩
  ·rw [dv,h1]
   exact ih k' σ' A' (by omega) h3
  ·rw [dv,h1]
   cases o with
   | normal σ' A'=>exact absurd rfl (h2 σ' A')
   | exit id σ' A'=>exact ⟨_,rfl,h3⟩
   | ret σ' A'=>exact ⟨_,rfl,h3⟩
theorem cY (f:MX) (ps:List Nat) (a b:MC) (o:Out)
  (h:∀(l:Nat) (r:Loop),(match E.callY (cR A.length l r σ ps (evC E fuel a) (evC E fuel b) E.hand) (evX E σ [] f) [.func (.yield l) [] []] (A++[Ent.loop r 0]) with
   | some (_,A')=>fJ A.length σ A'
   | none=>none)=some o):run E fuel (.code (.rangeFunc f ps a b) :: k) σ A=after E fuel k o:=by
 have:evC E fuel (.rangeFunc f ps a b) σ A=some o:=by
  simp only [evC]
  exact HN (good:=fun (_:Nat × Loop)=>True) (0,default) trivial fun x _=>h x.1 x.2
 simp only [run,evK,this,after]
theorem qk:after E fuel k (.normal σ A)=run E fuel k σ A:=rfl
theorem tj (id:Nat):after E fuel k (.exit id σ A)=jA E fuel id k σ A:=rfl
theorem vI:after E fuel k (.ret σ A)=some (.ret σ A):=iR _
theorem aF (a:MC) (mask:List Nat) (n:Nat):bI (evC E fuel a) mask (n+1) σ A=match run E fuel [.code a] (clear mask σ) A with
  | some (.normal σ' A')=>bI (evC E fuel a) mask n σ' A'
  | x=>x:=rfl
theorem aH (mf:bL) (args:List AV) (h:args.length=mf.n):bN E fuel mf args A=match run E fuel [.code mf.mc] (args++List.replicate (mf.len-mf.n) .undef) A with
  | some (.normal σ A')=>(dh A' σ mf.res).map fun l=>(nh l,A')
  | some (.ret σ A')=>(dh A' σ mf.res).map fun l=>(nh l,A')
  | _=>none:=by
 unfold bN; rw [if_pos h]; rfl
end
open Classical in
theorem ak.of_fns {P:Program} {G:Nat->Option (List AV)} {f:FuncId} {M':Nat->rj} {M:aN} (h:∀fuel,dD P G f (M' fuel)) (n:Nat) (hM:∀args r,M args=some r->∃fuel r0 A',M' fuel args []=some (r0,A')/\frz A' n r0=r):ak P G f M:=by
 refine ⟨(h 0).1,?_⟩
 intro args r he
 obtain ⟨fuel,r0,A',h1,h2⟩:=hM args r he
 exact (ak.of_fn (M:=fun a=>if a=args then some r else none) (h fuel) n (fun a r' h'=>by
  split at h'
  ·rename_i e; injection h' with h'; subst h'; subst e; exact ⟨r0,A',h1,h2⟩
  ·cases h')).2 args r (by simp)
attribute [simp] wI wL qD s8 pt AH nf kL pw bw aC iv dJ.apart0 dJ.sees dJ.apart dJ.no kp0 jH i9 gg eQ ej ck oR sO qI eD ot eqK aQ sC ga AJ tZ ua wM AI uR s9 uQ uT pW sE sF qE Fj oH lQ qF
 qk tj vI clear aO evX co cD aj jE uV cu aD ae eR eP bW eh cO hiB loB gO jD ay uY cT cn bh dh nh
 aK ij pd aR frz dP br sY AV.solid cellsOf cS aw gM nw fI om eO az aP ib
@[simp] theorem GR (A:aa) (v:AV) (B:aa) (id:Nat):pP A (some (v,B)) id=true↔B[id]?=A[id]?:=by
 simp only [pP]
 exact @decide_eq_true_iff _ (Classical.propDecidable _)
@[simp] theorem HV (G:Nat->Option (List AV)) (fs:List (FuncId × aB)) (h:aE) (f:FuncId) (a b args:List AV) (A:aa):(cG G fs h).call (.func (.func f) a b) args A=pd fs h (.func (.func f) a b) args A:=rfl
@[simp] theorem wg (G:Nat->Option (List AV)) (fs:List (FuncId × aB)) (h:aE) (l:Nat) (a b args:List AV) (A:aa):(cG G fs h).call (.func (.yield l) a b) args A=match h (.func (.yield l) a b) args A with
 | some x=>some x
 | none=>pd fs h (.func (.yield l) a b) args A:=rfl
@[simp] theorem HU (G:Nat->Option (List AV)) (fs:List (FuncId × aB)) (h:aE):(cG G fs h).glob=G:=rfl
@[simp] theorem HT (G:Nat->Option (List AV)) (fs:List (FuncId × aB)) (h:aE):(cG G fs h).hand=h:=rfl
@[simp] theorem EC (G:Nat->Option (List AV)) (fs:List (FuncId × aB)) (h:aE):(cG G fs h).callY=pd fs:=rfl
@[simp] theorem EF (G:Nat->Option (List AV)) (fs:List (FuncId × aB)) (f:FuncId) (a b args:List AV) (A:aa):(ac G fs).call (.func (.func f) a b) args A=pd fs (fun _ _ _=>none) (.func (.func f) a b) args A:=rfl
@[simp] theorem EE (G:Nat->Option (List AV)) (fs:List (FuncId × aB)):(ac G fs).glob=G:=rfl
@[simp] theorem ED (G:Nat->Option (List AV)) (fs:List (FuncId × aB)):(ac G fs).hand=fun _ _ _=>none:=rfl
@[simp] theorem CS (G:Nat->Option (List AV)) (fs:List (FuncId × aB)):(ac G fs).callY=pd fs:=rfl
@[simp] theorem xI (b:Bool) (esz size:Nat):ba (.bool b) esz 0 false size=some (.bool b):=rfl
@[simp] theorem yO (k:IntKind) (b:Int) (esz size:Nat):ba (.int k b) esz 0 false size=some (.int k b):=rfl
@[simp] theorem yL (b:List UInt8) (esz size:Nat):ba (.str b) esz 0 false size=some (.str b):=rfl
@[simp] theorem xC (esz size:Nat):ba .nilS esz 0 false size=some .nilS:=rfl
@[simp] theorem xD (esz size:Nat):ba .nilP esz 0 false size=some .nilP:=rfl
@[simp] theorem xE (esz size:Nat):ba .nilM esz 0 false size=some .nilM:=rfl
@[simp] theorem xG (esz size:Nat):ba .nilF esz 0 false size=some .nilF:=rfl
@[simp] theorem xF (esz size:Nat):ba .nilI esz 0 false size=some .nilI:=rfl
@[simp] theorem Cl (a:Nat) (b:List AV) (esz size:Nat):ba (.fs a b) esz 0 false size=some (.fs a b):=rfl
@[simp] theorem Ck (a b c:Nat) (esz size:Nat):ba (.sl a b c) esz 0 false size=some (.sl a b c):=rfl
@[simp] theorem yM (a b c:Nat) (esz size:Nat):ba (.ptr a b c) esz 0 false size=some (.ptr a b c):=rfl
@[simp] theorem Cm (a:List AV) (esz size:Nat):ba (.fp a) esz 0 false size=some (.fp a):=rfl
@[simp] theorem xH (f:Fn) (a b:List AV) (esz size:Nat):ba (.func f a b) esz 0 false size=some (.func f a b):=rfl
@[simp] theorem yN (a:Nat) (esz size:Nat):ba (.map a) esz 0 false size=some (.map a):=rfl
@[simp] theorem we (t:TypeId) (v:AV) (esz size:Nat):ba (.iface t v) esz 0 false size=some (.iface t v):=rfl
@[simp] theorem xB (cs:List AV) (esz o size:Nat):ba (.agg cs) esz o false size=cs[o]?:=rfl
@[simp] theorem yP (cs:List AV) (esz:Nat):ba (.agg cs) esz 0 true esz=some (.agg cs):=by unfold ba; simp
def evP (E:Env) (fuel:Nat) (mf:bL) (n:Nat) (args:List AV):Option AV:=(bN E fuel mf args []).map fun x=>frz x.2 n x.1
theorem aZ {E:Env} {fuel:Nat} {n:Nat} (mf:bL) (args:List AV) (h:args.length=mf.n):evP E fuel mf n args=match run E fuel [.code mf.mc] (args++List.replicate (mf.len-mf.n) .undef) [] with
  | some (.normal σ A')=>(dh A' σ mf.res).map fun l=>frz A' n (nh l)
  | some (.ret σ A')=>(dh A' σ mf.res).map fun l=>frz A' n (nh l)
  | _=>none:=by
 unfold evP
 rw [aH mf args h]
 cases run E fuel [.code mf.mc] (args++List.replicate (mf.len-mf.n) .undef) [] with
 | none=>rfl
 | some o=>cases o with
  | normal σ A=>simp [Option.map_map]; rfl
  | exit id σ A=>rfl
  | ret σ A=>simp [Option.map_map]; rfl
theorem ak.of_ev {P:Program} {E:Env} {f:FuncId} {fn:Func} {k:Nat} {vs:List Nat} {pu:List FuncId} {on:Bool} {hints:pj} {mf:bL} (hE:bZ P E) (hys:E.ys=[]) (hf:P.funcs[f]?=some fn) (hc:aA P fn k vs pu on hints=some mf) (n:Nat) {M:aN}
  (hM:∀args r,M args=some r->∃fuel,evP E fuel mf n args=some r) (hpu:aU E pu:=by first | exact aU.nil | (repeat (first | exact aU.nil | refine aU.cons (M:=_) rfl ?_))):ak P E.glob f M:=
 ak.of_fns (M':=fun fuel=>bN E fuel mf) (fun fuel=>aG hE hys hf hc hpu) n fun args r h=>by
  obtain ⟨fuel,h⟩:=hM args r h
  unfold evP at h
  cases h1:bN E fuel mf args [] with
  | none=>rw [h1] at h; cases h
  | some x=>rw [h1] at h; injection h with h; exact ⟨fuel,x.1,x.2,h1,h⟩
@[simp] theorem zx (esz:Nat) (A:aa) (es:List AV):be esz A (.fs esz es)=some es:=by simp [be]
@[simp] theorem yn (esz:Nat) (A:aa):be esz A .nilS=some []:=rfl
@[simp] theorem ym (A:aa) (l:List UInt8):be 1 A (.str l)=some (l.map fun b=>.int .u8 b.toNat):=rfl
@[simp] theorem yo (A:aa) (esz:Nat) (gr:Bool) (es:List AV):be esz (A++[Ent.row esz gr es]) (.sl A.length 0 es.length)=some es:=by simp [be]
@[simp] theorem Lw (a b:Int):(a == b)=decide (a=b):=by
 by_cases h:a=b <;> simp [h]
@[simp] theorem Lv (a b:Int):(a != b)=!decide (a=b):=by
 by_cases h:a=b <;> simp [h]
@[simp] theorem Bn (n:Nat):((n:Int)<0)=False:=by simp
@[simp] theorem Kp:IntKind.i64.bits=64:=rfl
@[simp] theorem Kn:IntKind.u64.bits=64:=rfl
@[simp] theorem Ko:IntKind.u32.bits=32:=rfl
@[simp] theorem Kq:IntKind.i32.bits=32:=rfl
@[simp] theorem MB:IntKind.u8.bits=8:=rfl
def inI (a:Int):Prop:=-9223372036854775808<=a/\a<=9223372036854775807
theorem eo {a:Int} (h:inI a):IntKind.i64.wrap a=a:=wrap_i64 h.1 h.2
theorem zq {a:Int} (h:0<=a/\a<18446744073709551616):IntKind.u64.wrap a=a:=by
 unfold IntKind.wrap; simp [IntKind.signed,IntKind.bits]; omega
open Go.ChangeShapes Go.WideShapes
def qt (P:Program) (t:TypeId):Bool:=match P.underlying t with
 | some (.struct _) | some (.array _ _)=>true
 | _=>false
def fR (P:Program) (t:TypeId) (xs:List AV):AV:=if qt P t then .agg xs else xs.headD .undef
def mO (P:Program):Nat->List Field->Nat->Bool
 | k,[],n=>k == n
 | k,f :: r,n=>f.offset == k && mO P (k+P.cellsOf f.type) r n
def ed (P:Program):Nat->TypeId->Bool
 | 0,_=>false
 | n+1,t=>match P.underlying t with
  | some .bool | some (.int _) | some .string=>P.cellsOf t == 1
  | some (.slice e)=>P.cellsOf t == 1 && Nat.blt 0 (P.cellsOf e) && ed P n e
  | some (.struct fs)=>fs.toList.all (fun f=>ed P n f.type) && mO P 0 fs.toList (P.cellsOf t)
  | some (.array m e)=>P.cellsOf t == m*P.cellsOf e && Nat.blt 0 (P.cellsOf e) && ed P n e
  | _=>false
def TCs (P:Program) (T:TypeId->List AV->Prop):List Field->List AV->Prop
 | [],ls=>ls=[]
 | f :: r,ls=>∃a b,ls=a++b/\T f.type a/\a.length=P.cellsOf f.type/\TCs P T r b
def TCa (T:List AV->Prop) (size:Nat):Nat->List AV->Prop
 | 0,ls=>ls=[]
 | m+1,ls=>∃a b,ls=a++b/\T a/\a.length=size/\TCa T size m b
def TC (P:Program):Nat->TypeId->List AV->Prop
 | 0,_,_=>False
 | n+1,t,ls=>match P.underlying t with
  | some .bool=>∃b,ls=[.bool b]
  | some (.int k)=>∃z,ls=[.int k z]/\(k.min<=z/\z<=k.max)
  | some .string=>∃s,ls=[.str s]/\s.length<=9223372036854775807
  | some (.slice e)=>ls=[.nilS]\/∃es:List AV,ls=[.fs (P.cellsOf e) es]/\es.length<=9223372036854775807/\∀x∈es,∃xs,TC P n e xs/\xs.length=P.cellsOf e/\x=fR P e xs
  | some (.struct fs)=>TCs P (TC P n) fs.toList ls
  | some (.array m e)=>TCa (TC P n e) (P.cellsOf e) m ls
  | _=>False
def TA (P:Program) (n:Nat) (t:TypeId) (a:AV):Prop:=∃xs,TC P n t xs/\xs.length=P.cellsOf t/\a=fR P t xs
section
variable {H:Type} {enc:TypeId × Value->H} {P:Program} {w:World} {held:Bool}
theorem ID {a:Addr} {n:Nat} {cs:List Value} (h:w.cells? 0 a n=some cs):cs.length=n/\∀j,j<n->∃v,cs[j]?=some v/\w.cell? (a.add j)=some v:=by
 unfold World.cells? at h
 rw [if_pos (Nat.zero_le _)] at h
 have hl:cs.length=n:=by simpa using mapM_some_length h
 refine ⟨hl,fun j hj=>?_⟩
 have:=mapM_some_get h j j (by simp [hj])
 rw [this]
 exact ⟨cs[j],by simp [hl,hj],by simp [hl,hj]⟩
theorem ql (a:Addr) (i j:Nat) (h:a.spot=none):(a.add i).add j=⟨a.block,a.off+i+j,none⟩:=by
 obtain ⟨b,o,s⟩:=a
 simp only at h
 subst h
 rw [cf,cf]
theorem uE {α:Type} (l:List α) (d:α) (h:0<l.length):l.headD d=l[0]:=by
 cases l with
 | nil=>simp at h
 | cons y r=>rfl
theorem kh {n:Nat} {t:TypeId} (hp:ed P n t=true) (ha:qt P t=false):P.cellsOf t=1:=by
 cases n with
 | zero=>cases hp
 | succ n=>
  unfold ed at hp
  unfold qt at ha
  split at hp
  ·exact beq_iff_eq.1 hp
  ·exact beq_iff_eq.1 hp
  ·exact beq_iff_eq.1 hp
  ·simp only [Bool.and_eq_true,beq_iff_eq] at hp; exact hp.1.1
  ·rename_i hu; rw [hu] at ha; cases ha
  ·rename_i hu; rw [hu] at ha; cases ha
  ·cases hp
theorem tJ:∀(n fuel:Nat) (t:TypeId) (cs:List Value) (x:DataW H × List MemPlace),ed P n t=true->DataW.trod enc P w 0 (fun _=>true) held fuel t cs=some x ->
  ∃ls:List AV,ls.length=cs.length/\cs.length=P.cellsOf t/\TC P n t ls/\∀i (h:i<ls.length),∃v,cs[i]?=some v/\v.oneCell'=true/\aJ w (fun b=>b<w.heap.size) aq.none v ls[i]:=by
 intro n
 induction n with
 | zero=>intro fuel t cs x h; cases h
 | succ n ih=>
  intro fuel t cs x hp h
  unfold ed at hp
  split at hp
  ·
   rename_i hu
   obtain ⟨b,rfl,_⟩:=DataW.trod_bool hu h
   refine ⟨[.bool b],rfl,by simpa using (beq_iff_eq.1 hp).symm,by simp only [TC,hu]; exact ⟨b,rfl⟩,fun i hi=>?_⟩
   obtain rfl:i=0:=by simpa using hi
   exact ⟨_,rfl,rfl,.bool _ _⟩
  ·rename_i k hu
   obtain ⟨z,rfl,_,hw⟩:=DataW.trod_int hu h
   refine ⟨[.int k z],rfl,by simpa using (beq_iff_eq.1 hp).symm,?_,fun i hi=>?_⟩
   ·simp only [TC,hu]
    simp only [Lit.wf,Bool.and_eq_true,decide_eq_true_eq] at hw
    exact ⟨z,rfl,hw⟩
   ·obtain rfl:i=0:=by simpa using hi
    exact ⟨_,rfl,rfl,.int _ _ _⟩
  ·rename_i hu
   obtain ⟨s,rfl,_,hw⟩:=DataW.trod_string hu h
   refine ⟨[.str s.data.toList],rfl,by simpa using (beq_iff_eq.1 hp).symm,?_,fun i hi=>?_⟩
   ·simp only [TC,hu]
    refine ⟨_,rfl,?_⟩
    have h1:s.data.toList.length=s.size:=Array.length_toList
    have h2:maxLen=9223372036854775807:=by decide
    omega
   ·obtain rfl:i=0:=by simpa using hi
    exact ⟨_,rfl,rfl,.str _ _ _ rfl⟩
  ·
   rename_i e hu
   simp only [Bool.and_eq_true,beq_iff_eq] at hp
   obtain ⟨⟨hc1,hpos⟩,hpe⟩:=hp
   have hpos:0<P.cellsOf e:=by simpa [Nat.blt_eq] using hpos
   have fin:∀(v:Value) (a:AV),v.oneCell'=true->aJ w (fun b=>b<w.heap.size) aq.none v a->TC P (n+1) t [a] ->
     ∃ls:List AV,ls.length=[v].length/\[v].length=P.cellsOf t/\TC P (n+1) t ls/\∀i (h:i<ls.length),∃v',[v][i]?=some v'/\v'.oneCell'=true/\aJ w (fun b=>b<w.heap.size) aq.none v' ls[i]:=by
    intro v a h1 h2 h3
    refine ⟨[a],rfl,by simp [hc1],h3,fun i hi=>?_⟩
    obtain rfl:i=0:=by simpa using hi
    exact ⟨_,rfl,h1,h2⟩
   rcases DataW.trod_slice hu h with ⟨rfl,_⟩ | ⟨a,len,cap,elems,rest,m,rfl,rfl,_,_,hl,hcm,hel,hget,hrest,_⟩
   ·exact fin _ _ rfl (.nilS _ _) (by simp only [TC,hu]; exact .inl trivial)
   ·by_cases hcap:cap=0
    ·subst hcap
     obtain rfl:len=0:=by omega
     exact fin _ _ rfl (.nilS _ _) (by simp only [TC,hu]; exact .inl trivial)
    ·
     obtain ⟨hr1,hr2⟩:=hrest rfl
     have hblk:a.spot=none/\∃c T fz,w.heap[a.block]?=some (.cells c T fz):=by
      have h0:∃z cs0,w.cells? 0 (a.add 0) (P.cellsOf e)=some cs0/\DataW.trod enc P w 0 (fun _=>true) held m e cs0=some z:=by
       by_cases hl0:len=0
       ·subst hl0
        have:=hr2 0 (by omega)
        rw [List.getElem?_eq_getElem (show 0<rest.length by omega)] at this
        simp only [Option.bind_eq_some_iff,Nat.add_zero,Nat.zero_mul] at this
        obtain ⟨cs0,k1,k2⟩:=this
        exact ⟨_,cs0,k1,k2⟩
       ·have:=hget 0 (by omega)
        rw [List.getElem?_eq_getElem (show 0<elems.length by omega)] at this
        simp only [Option.bind_eq_some_iff,Nat.zero_mul] at this
        obtain ⟨cs0,k1,k2⟩:=this
        exact ⟨_,cs0,k1,k2⟩
      obtain ⟨_,cs0,k1,_⟩:=h0
      obtain ⟨_,k2⟩:=ID k1
      obtain ⟨v,_,k3⟩:=k2 0 hpos
      have hadd:(a.add 0).add 0=a:=by simp [Addr.add]
      rw [hadd] at k3
      unfold World.cell? at k3
      split at k3
      ·rename_i c T fz hh
       split at k3
       ·cases k3
       ·rename_i hsp
        exact ⟨by simpa using hsp,c,T,fz,hh⟩
      ·cases k3
     obtain ⟨hsp,c,T,fz,hh⟩:=hblk
     have H1:∀i,∃p:List Value × List AV,i<len->(w.cells? 0 (a.add (i*P.cellsOf e)) (P.cellsOf e)=some p.1/\p.2.length=p.1.length/\p.1.length=P.cellsOf e/\TC P n e p.2 /\
       ∀j (h:j<p.2.length),∃v,p.1[j]?=some v/\v.oneCell'=true/\aJ w (fun b=>b<w.heap.size) aq.none v p.2[j]):=by
      intro i
      by_cases hi:i<len
      ·have:=hget i hi
       rw [List.getElem?_eq_getElem (show i<elems.length by omega)] at this
       simp only [Option.bind_eq_some_iff] at this
       obtain ⟨cs0,k1,k2⟩:=this
       obtain ⟨ls,q1,q2,q3,q4⟩:=ih m e cs0 _ hpe k2
       exact ⟨(cs0,ls),fun _=>⟨k1,q1,q2,q3,q4⟩⟩
      ·exact ⟨([],[]),fun h=>absurd h hi⟩
     obtain ⟨F,hF⟩:=Classical.axiomOfChoice H1
     obtain ⟨b0,o0,s0⟩:=a
     simp only at hsp hh
     subst hsp
     have hlen:((List.range len).map fun i=>fR P e (F i).2).length=len:=by simp
     refine fin (.slice (some ⟨b0,o0,none⟩) len cap) (.fs (P.cellsOf e) ((List.range len).map fun i=>fR P e (F i).2)) rfl ?_ ?_
     ·have hV:=aJ.fs (w:=w) (OK:=fun b=>b<w.heap.size) aq.none b0 o0 cap (P.cellsOf e) T c fz ((List.range len).map fun i=>fR P e (F i).2)
       (fun i=>if qt P e then .agg (F i).1.toArray else (F i).1.headD undef) (Array.getElem?_eq_some_iff.1 hh).1 hh (by rw [hlen]; exact hl) (fun i hi=>?_) (fun i hi=>?_) (fun i hi j hj=>?_)
      ·rw [hlen] at hV; exact hV
      ·obtain ⟨_,k2,k3,_,k5⟩:=hF i (by rwa [hlen] at hi)
       simp only [List.getElem_map,List.getElem_range,fR]
       split
       ·refine .agg _ _ _ (by simp [k2]) (fun j=>(F i).1.getD j undef) (fun j hj=>?_) (fun j hj=>?_)
        ·obtain ⟨v,e1,e2,_⟩:=k5 j hj
         simp [List.getD_eq_getElem?_getD,e1,e2]
        ·obtain ⟨v,e1,_,e3⟩:=k5 j hj
         simpa [List.getD_eq_getElem?_getD,e1] using e3
       ·have h0:0<(F i).2.length:=by omega
        obtain ⟨v,e1,e2,e3⟩:=k5 0 h0
        have e4:(F i).1.headD undef=v:=by
         cases hF1:(F i).1 with
         | nil=>rw [hF1] at e1; simp at e1
         | cons y r=>rw [hF1] at e1; simpa using e1
        rw [e4,uE _ _ h0]; exact e3
      ·obtain ⟨_,k2,k3,_,k5⟩:=hF i (by rwa [hlen] at hi)
       split
       ·refine ⟨by simp [Value.cells,k3],fun y hy=>?_⟩
        simp only [Value.cells] at hy
        obtain ⟨j,hj,rfl⟩:=List.mem_iff_getElem.1 hy
        obtain ⟨v,e1,e2,_⟩:=k5 j (by rw [k2]; simpa using hj)
        have:(F i).1[j]'(by simpa using hj)=v:=by rw [List.getElem?_eq_getElem (by simpa using hj)] at e1; simpa using e1
        simpa [this] using e2
       ·rename_i hagg
        have h0:0<(F i).2.length:=by omega
        obtain ⟨v,e1,e2,e3⟩:=k5 0 h0
        have e4:(F i).1.headD undef=v:=by
         cases hF1:(F i).1 with
         | nil=>rw [hF1] at e1; simp at e1
         | cons y r=>rw [hF1] at e1; simpa using e1
        have hc1':P.cellsOf e=1:=kh hpe (by simpa using hagg)
        rw [e4]
        cases v <;> simp [Value.oneCell'] at e2 <;> simp [Value.cells,bQ,hc1',Value.oneCell']
      ·obtain ⟨k1,k2,k3,_,k5⟩:=hF i (by rwa [hlen] at hi)
       obtain ⟨_,q⟩:=ID k1
       obtain ⟨v,q1,q2⟩:=q j hj
       rw [ql _ _ _ rfl] at q2
       simp only [World.cell?,hh,Option.isSome_none,Bool.false_eq_true,if_false] at q2
       rw [q2]
       split
       ·simp [Value.cells,q1]
       ·rename_i hagg
        have hc1':P.cellsOf e=1:=kh hpe (by simpa using hagg)
        obtain rfl:j=0:=by omega
        obtain ⟨v',e1,e2,_⟩:=k5 0 (by omega)
        have e4:(F i).1.headD undef=v:=by
         cases hF1:(F i).1 with
         | nil=>rw [hF1] at q1; simp at q1
         | cons y r=>rw [hF1] at q1; simpa using q1
        obtain rfl:v=v':=Option.some.inj (q1.symm.trans e1)
        rw [e4]
        cases v <;> simp [Value.oneCell'] at e2 <;> rfl
     ·simp only [TC,hu]
      refine .inr ⟨_,rfl,?_,fun y hy=>?_⟩
      ·have h2:maxLen=9223372036854775807:=by decide
       rw [hlen]; omega
      ·simp only [List.mem_map,List.mem_range] at hy
       obtain ⟨i,hi,rfl⟩:=hy
       obtain ⟨_,k2,k3,k4,_⟩:=hF i hi
       exact ⟨_,k4,by omega,rfl⟩
  ·
   rename_i fs hu
   simp only [Bool.and_eq_true,List.all_eq_true] at hp
   obtain ⟨hp1,hp2⟩:=hp
   obtain ⟨xs,m,rfl,_,hcl,hxl,hall⟩:=DataW.trod_struct hu h
   have key:∀(r:List Field) (k:Nat),mO P k r (P.cellsOf t)=true->(∀f∈r,ed P n f.type=true/\∃y,DataW.trod enc P w 0 (fun _=>true) held m f.type ((cs.drop f.offset).take (P.cellsOf f.type))=some y) ->
     k<=P.cellsOf t/\∃ls:List AV,k+ls.length=P.cellsOf t/\TCs P (TC P n) r ls/\∀i (h:i<ls.length),∃v,cs[k+i]?=some v/\v.oneCell'=true/\aJ w (fun b=>b<w.heap.size) aq.none v ls[i]:=by
    intro r
    induction r with
    | nil=>
     intro k hk _
     simp only [mO,beq_iff_eq] at hk
     exact ⟨by omega,[],by simpa using hk,rfl,fun i hi=>by simp at hi⟩
    | cons f r ihr=>
     intro k hk hf
     simp only [mO,Bool.and_eq_true,beq_iff_eq] at hk
     obtain ⟨hko,hk⟩:=hk
     obtain ⟨hle,ls2,l1,l2,l3⟩:=ihr _ hk (fun g hg=>hf g (by simp [hg]))
     obtain ⟨hpf,y,hy⟩:=hf f (by simp)
     obtain ⟨ls1,q1,q2,q3,q4⟩:=ih m _ _ _ hpf hy
     refine ⟨by omega,ls1++ls2,by simp; omega,⟨ls1,ls2,rfl,q3,by omega,l2⟩,fun i hi=>?_⟩
     by_cases h1:i<ls1.length
     ·obtain ⟨v,e1,e2,e3⟩:=q4 i h1
      refine ⟨v,?_,e2,by rw [List.getElem_append_left h1]; exact e3⟩
      rw [List.getElem?_take_of_lt (by omega),List.getElem?_drop] at e1
      rw [<-hko]; exact e1
     ·have hi2:i-ls1.length<ls2.length:=by simp at hi; omega
      obtain ⟨v,e1,e2,e3⟩:=l3 (i-ls1.length) hi2
      refine ⟨v,?_,e2,by rw [List.getElem_append_right (by omega)]; exact e3⟩
      rw [<-e1]; congr 1; omega
   obtain ⟨_,ls,l1,l2,l3⟩:=key fs.toList 0 hp2 (fun f hf=>⟨hp1 f hf,by
    obtain ⟨i,hi,rfl⟩:=List.mem_iff_getElem.1 hf
    have hi':i<fs.size:=by simpa using hi
    have:=hall i fs[i] (by simp [hi'])
    rw [List.getElem?_eq_getElem (show i<xs.length by omega)] at this
    exact ⟨_,by simpa using this⟩⟩)
   refine ⟨ls,by omega,hcl,by simp only [TC,hu]; exact l2,fun i hi=>?_⟩
   obtain ⟨v,e1,e2,e3⟩:=l3 i hi
   exact ⟨v,by simpa using e1,e2,e3⟩
  ·
   rename_i m' e hu
   simp only [Bool.and_eq_true,beq_iff_eq] at hp
   obtain ⟨⟨hsz,hpos⟩,hpe⟩:=hp
   obtain ⟨xs,m,rfl,_,hcl,hxl,hall⟩:=DataW.trod_array hu h
   have key:∀(r k:Nat),k+r=m'->∃ls:List AV,ls.length=r*P.cellsOf e/\TCa (TC P n e) (P.cellsOf e) r ls/\∀i (h:i<ls.length),∃v,cs[k*P.cellsOf e+i]?=some v/\v.oneCell'=true/\aJ w (fun b=>b<w.heap.size) aq.none v ls[i]:=by
    intro r
    induction r with
    | zero=>intro k _; exact ⟨[],by simp,rfl,fun i hi=>by simp at hi⟩
    | succ r ihr=>
     intro k hk
     obtain ⟨ls2,l1,l2,l3⟩:=ihr (k+1) (by omega)
     have hy:=hall k (by omega)
     rw [List.getElem?_eq_getElem (show k<xs.length by omega)] at hy
     obtain ⟨ls1,q1,q2,q3,q4⟩:=ih m _ _ _ hpe hy
     refine ⟨ls1++ls2,by simp [l1,q1,q2,Nat.add_mul]; omega,⟨ls1,ls2,rfl,q3,by omega,l2⟩,fun i hi=>?_⟩
     by_cases h1:i<ls1.length
     ·obtain ⟨v,e1,e2,e3⟩:=q4 i h1
      refine ⟨v,?_,e2,by rw [List.getElem_append_left h1]; exact e3⟩
      rw [List.getElem?_take_of_lt (by omega),List.getElem?_drop] at e1
      exact e1
     ·have hi2:i-ls1.length<ls2.length:=by simp at hi; omega
      obtain ⟨v,e1,e2,e3⟩:=l3 (i-ls1.length) hi2
      refine ⟨v,?_,e2,by rw [List.getElem_append_right (by omega)]; exact e3⟩
      rw [<-e1]; congr 1; rw [Nat.add_mul]; omega
   obtain ⟨ls,l1,l2,l3⟩:=key m' 0 (by omega)
   refine ⟨ls,by omega,hcl,by simp only [TC,hu]; exact l2,fun i hi=>?_⟩
   obtain ⟨v,e1,e2,e3⟩:=l3 i hi
   exact ⟨v,by simpa using e1,e2,e3⟩
  ·cases hp
theorem zw {n:Nat} {t:TypeId} {v:Value} {d:DataW H} {ps:List MemPlace} (hp:ed P n t=true) (hv:qt P t=true->∃cs,v=.agg cs) (hv':qt P t=false->v.oneCell'=true) (h:DataW.Trod enc P w 0 (fun _=>true) held t v d ps) :
  ∃a,TA P n t a/\aJ w (fun b=>b<w.heap.size) aq.none v a:=by
 obtain ⟨fuel,h⟩:=h
 obtain ⟨ls,h1,h2,h3,h4⟩:=tJ n fuel t _ _ hp h
 refine ⟨_,⟨ls,h3,by omega,rfl⟩,?_⟩
 unfold fR
 cases ha:qt P t with
 | true=>
  obtain ⟨cs,rfl⟩:=hv ha
  rw [if_pos rfl]
  simp only [Value.cells] at h1 h4
  refine .agg _ _ _ (by simpa using h1.symm) (fun i=>cs.getD i undef) (fun i hi=>?_) (fun i hi=>?_)
  ·obtain ⟨v,e1,e2,_⟩:=h4 i hi
   have e1':cs[i]?=some v:=by simpa using e1
   simp [Array.getD_eq_getD_getElem?,e1',e2]
  ·obtain ⟨v,e1,_,e3⟩:=h4 i hi
   have e1':cs[i]?=some v:=by simpa using e1
   simpa [Array.getD_eq_getD_getElem?,e1'] using e3
 | false=>
  have hone:=hv' ha
  have hc:v.cells.toList=[v]:=by cases v <;> simp [Value.oneCell'] at hone <;> rfl
  rw [hc] at h1 h4
  simp only [Bool.false_eq_true,if_false]
  match ls,h1,h4 with
  | [a],_,h4=>
   obtain ⟨v',e1,_,e3⟩:=h4 0 (by simp)
   simp only [List.getElem?_cons_zero,Option.some.injEq] at e1
   subst e1
   exact e3
end
open Go.ChangeShapes Go.WideShapes Go.RowKit
def eE (P:Program) (n:Nat):List TypeId->List AV->Prop
 | [],[]=>True
 | t :: ts,a :: r=>TA P n t a/\eE P n ts r
 | _,_=>False
theorem Lt {W W':World} {OK OK':Nat->Prop} (h:Ext W OK aq.none W' OK' aq.none) (may:MemPlace->Prop):W.keptBut W' may:=by
 refine ⟨h.os,h.output,fun i hi=>?_⟩
 have e:=h.blk i hi (fun _ _ (hx:_∈[])=>by cases hx)
 rw [e]
 cases W.heap[i]? with
 | none=>rfl
 | some o=>cases o <;> first | exact ⟨rfl,rfl,rfl,fun _ _=>rfl⟩ | exact .inr ⟨rfl,rfl⟩ | rfl
section
variable {H:Type} {enc:TypeId × Value->H} {P:Program}
theorem sK {w:World} {r:Reach} {b:Nat} {t:TypeId} {v:Value} (h:Value.okWide P w r b t v) (ha:qt P t=true):∃cs,v=.agg cs:=by
 unfold qt at ha
 unfold Value.okWide at h
 split at ha
 ·rename_i hu; rw [hu] at h; obtain ⟨cs,h,_⟩:=h; exact ⟨cs,h⟩
 ·rename_i hu; rw [hu] at h; obtain ⟨cs,h,_⟩:=h; exact ⟨cs,h⟩
 ·cases ha
theorem sJ {w:World} {r:Reach} {b:Nat} {n:Nat} {t:TypeId} {v:Value} (h:Value.okWide P w r b t v) (hp:ed P n t=true) (ha:qt P t=false):v.oneCell'=true:=by
 cases n with
 | zero=>cases hp
 | succ n=>
  unfold ed at hp
  unfold qt at ha
  unfold Value.okWide Cell.okWide Cell.ok at h
  cases hu:P.underlying t with
  | none=>rw [hu] at hp; cases hp
  | some d=>
   rw [hu] at h hp ha
   cases d <;> simp only [reduceCtorEq,Bool.false_eq_true] at hp ha <;> cases v <;> simp_all [Value.oneCell']
theorem qi {W:World} {n:Nat}:∀(ts:List TypeId) (vs:List Value) (ds:List (DataW H)) (ps:List MemPlace),(∀t∈ts,ed P n t=true)->(∀(j:Nat) t v,ts[j]?=some t->vs[j]?=some v->∃r b,Value.okWide P W r b t v) ->
  DataW.TrodAll enc P W 0 (fun _=>true) true ts vs ds ps->ds.length=ts.length/\∃ls,eE P n ts ls/\bm W (fun b=>b<W.heap.size) aq.none vs ls
 | [],[],[],ps,_,_,_=>⟨rfl,[],trivial,trivial⟩
 | t :: ts,v :: vs,d :: ds,ps,hp,hv,h=>by
  obtain ⟨p,q,h1,h2,_⟩:=h
  obtain ⟨r,b,hv0⟩:=hv 0 t v rfl rfl
  obtain ⟨a,ha1,ha2⟩:=zw (hp t (by simp)) (sK hv0) (sJ hv0 (hp t (by simp))) h1
  obtain ⟨hl,ls,h3,h4⟩:=qi ts vs ds q (fun u hu=>hp u (by simp [hu])) (fun j t' v' e1 e2=>hv (j+1) t' v' (by simpa using e1) (by simpa using e2)) h2
  exact ⟨by simp [hl],a :: ls,⟨ha1,h3⟩,⟨ha2,h4⟩⟩
 | [],[],_ :: _,_,_,_,h=>h.elim
 | [],_ :: _,_,_,_,_,h=>h.elim
 | _ :: _,[],_,_,_,_,h=>h.elim
 | _ :: _,_ :: _,[],_,_,_,h=>h.elim
theorem qj {W W':World} {sp:Nat->Bool} (hl:laidOutB P=true):∀(ts:List TypeId) (vs:List Value) (ds:List (DataW H)) (ps:List MemPlace),(∀t∈ts,P.readableRec t=true/\t<P.types.size) ->
  (∀p∈ps,W.sameAt W' p/\sp p.block=true)->DataW.TrodAll enc P W 0 (fun _=>true) true ts vs ds ps->DataW.TrodAll enc P W' 0 sp true ts vs ds ps
 | [],[],[],ps,_,_,h=>h
 | t :: ts,v :: vs,d :: ds,ps,hp,hs,h=>by
  obtain ⟨p,q,h1,h2,rfl⟩:=h
  exact ⟨p,q,WideElems.Trod_stays hl (hp t (by simp)).1 (hp t (by simp)).2 h1 (fun x hx=>(hs x (by simp [hx])).1) (fun x hx=>(hs x (by simp [hx])).2),
   qj hl ts vs ds q (fun u hu=>hp u (by simp [hu])) (fun x hx=>hs x (by simp [hx])) h2,rfl⟩
 | [],[],_ :: _,_,_,_,h=>h.elim
 | [],_ :: _,_,_,_,_,h=>h.elim
 | _ :: _,[],_,_,_,_,h=>h.elim
 | _ :: _,_ :: _,[],_,_,_,h=>h.elim
theorem sw {W W':World} {OK OK':Nat->Prop} (h:Ext W OK aq.none W' OK' aq.none) (p:MemPlace) (hp:p.block<W.heap.size):W.sameAt W' p:=by
 cases p with
 | cell b off=>
  have e:=h.blk b hp (fun _ _ (hx:_∈[])=>by cases hx)
  simp only [World.sameAt,World.cell?,e]
 | map b=>exact h.blk b hp (fun _ _ (hx:_∈[])=>by cases hx)
theorem pM {f:FuncId} {fn:Func} {G:Nat->Option (List AV)} {n:Nat} {M:aN} (hs:ak P G f M) (hM:∀args,eE P n fn.params.toList args->M args=some (.bool true))
  {Ev:ChangeSpec} (hspec:∀ds:List (DataW H),ds.length=fn.params.toList.length->Ev.fn H ds={results:=[.lit (.bool true)],args:=ds}) (hvars:Ev.vars=[])
  (hp:fn.params.toList.all (fun t=>ed P n t && P.readableRec t && Nat.blt t P.types.size)=true) (hl:laidOutB P=true) {tb:TypeId} (hres:fn.resultTypes=#[tb]) (hb:P.underlying tb=some .bool)
  {W:World} {base:Nat} {args:Array Value} {ds gs:List (DataW H)} {before:List MemPlace} (hval:∀(j:Nat) t v,fn.params[j]?=some t->args[j]?=some v->Value.okWide P W .any base t v)
  (hW:DataW.Whole enc P fn.params.toList Ev.vars false W args.toList ds gs before) (hG:vV G W (fun b=>b<W.heap.size)) :
  Calls P f args W fun e W'=>∃v,e=.returned v/\Ev.post enc P fn false true false false W args v W':=by
 have hW':=hW
 have hlt:=hW.lt
 obtain ⟨p,q,hA,hV,rfl,hfz,hnd⟩:=hW
 rw [hvars] at hV
 obtain ⟨rfl,rfl⟩:=trodVars_none hV
 rw [List.all_eq_true] at hp
 have hp':∀t∈fn.params.toList,ed P n t=true/\P.readableRec t=true/\t<P.types.size:=fun t ht=>by
  have:=hp t ht
  simp only [Bool.and_eq_true] at this
  exact ⟨this.1.1,this.1.2,by simpa [Nat.blt_eq] using this.2⟩
 obtain ⟨hdl,ls,h1,h2⟩:=qi (n:=n) _ _ _ _ (fun t ht=>(hp' t ht).1) (fun j t v e1 e2=>⟨_,_,hval j t v (by simpa using e1) (by simpa using e2)⟩) hA
 have hc:=hs.2 ls _ (hM ls h1) W (fun b=>b<W.heap.size) args.toList (fun _ h=>h) hG h2
 rw [Array.toArray_toList] at hc
 refine hc.mono ?_
 rintro e W1 ⟨v,OK',rfl,hv,_,hx⟩
 obtain rfl:=hv.inv_bool
 refine ⟨_,rfl,ds,[],p++[],[],p,[],hW',?_,?_,?_,Lt hx _,fun h=>by cases h⟩
 ·rw [List.append_nil,hspec ds hdl,hres]
  exact trodAll_cons_mk (shut_bool hb _) trodAll_mk0
 ·rw [List.append_nil,hspec ds hdl]
  exact qj hl _ _ _ _ (fun t ht=>(hp' t ht).2) (fun x hx'=>⟨sw hx x (hlt x (by simp [hx'])),by simpa using hlt x (by simp [hx'])⟩) hA
 ·rw [List.append_nil,hspec ds hdl,hvars]
  rfl
variable {n:Nat} {t e:TypeId} {a:AV}
theorem oA {d:TypeDesc} (hu:P.underlying t=some d) (h:(match d with | .struct _=>true | .array _ _=>true | _=>false)=false):qt P t=false:=by
 unfold qt; rw [hu]
 cases d <;> simp_all
theorem TA.int {k:IntKind} (hu:P.underlying t=some (.int k)) (h:TA P n t a):∃z,a=.int k z/\k.min<=z/\z<=k.max:=by
 obtain ⟨xs,h1,_,rfl⟩:=h
 cases n with
 | zero=>exact h1.elim
 | succ n=>
  simp only [TC,hu] at h1
  obtain ⟨z,rfl,h2⟩:=h1
  exact ⟨z,by simp [fR,oA hu rfl],h2⟩
theorem TA.i64 (hu:P.underlying t=some (.int .i64)) (h:TA P n t a):∃z,a=.int .i64 z/\inI z:=by
 obtain ⟨z,h1,h2,h3⟩:=TA.int hu h
 exact ⟨z,h1,h2,h3⟩
theorem TA.slice (hu:P.underlying t=some (.slice e)) (h:TA P (n+1) t a):a=.nilS\/∃es,a=.fs (P.cellsOf e) es/\es.length<=9223372036854775807/\∀x∈es,TA P n e x:=by
 obtain ⟨xs,h1,_,rfl⟩:=h
 simp only [TC,hu] at h1
 have hw:∀x,fR P t [x]=x:=fun x=>by simp [fR,oA hu rfl]
 rcases h1 with rfl | ⟨es,rfl,h2,h3⟩
 ·exact .inl (hw _)
 ·exact .inr ⟨es,hw _,h2,h3⟩
theorem TA.agg (ha:qt P t=true) (h:TA P n t a):∃xs,a=.agg xs/\TC P n t xs/\xs.length=P.cellsOf t:=by
 obtain ⟨xs,h1,h2,rfl⟩:=h
 exact ⟨xs,by simp [fR,ha],h1,h2⟩
theorem eE.cons {ts:List TypeId} {args:List AV} (h:eE P n (t :: ts) args):∃a r,args=a :: r/\TA P n t a/\eE P n ts r:=by
 cases args with
 | nil=>exact h.elim
 | cons a r=>exact ⟨a,r,rfl,h.1,h.2⟩
theorem eE.nil {args:List AV} (h:eE P n [] args):args=[]:=by
 cases args with
 | nil=>rfl
 | cons a r=>exact h.elim
end
def SlA (esz:Nat) (xs:List AV) (a:AV):Prop:=(a=.nilS/\xs=[])\/a=.fs esz xs
section
variable {esz:Nat} {xs:List AV} {a:AV} {A:aa}
theorem SlA.len (h:SlA esz xs a):ay a=some (.int .i64 (xs.length:Int)):=by
 rcases h with ⟨rfl,rfl⟩ | rfl <;> rfl
theorem SlA.index (h:SlA esz xs a) {i:Nat} {x:AV} (hx:xs[i]?=some x) (hs:x.solid=true) (he:0<esz) (k:IntKind):ae esz A a (.int k (i:Int))=some (.fp (cellsOf x)):=by
 rcases h with ⟨rfl,rfl⟩ | rfl
 ·simp at hx
 ·simp [ae,hx,hs,he,-AV.solid]
theorem SlA.index1 (h:SlA 1 xs a) {i:Nat} {x:AV} (hx:xs[i]?=some x) (hs:x.solid=true) (hc:cellsOf x=[x]) (k:IntKind):ae 1 A a (.int k (i:Int))=some (.fp [x]):=by
 rw [h.index hx hs (by omega),hc]
theorem SlA.int (zs:List Int) (k:IntKind) (h:SlA 1 (zs.map (.int k)) a) {i:Nat} {z:Int} (hz:zs[i]?=some z) (k':IntKind):ae 1 A a (.int k' (i:Int))=some (.fp [.int k z]):=
 h.index1 (by simp [hz]) rfl rfl k'
theorem SlA.cutHi (h:SlA esz xs a) (hi:Nat) (h2:hi<=xs.length) (k':IntKind):∃b,bW esz A none (some (.int k' (hi:Int))) a=some b/\SlA esz (xs.take hi) b:=by
 rcases h with ⟨rfl,rfl⟩ | rfl
 ·obtain rfl:hi=0:=by simpa using h2
  exact ⟨.nilS,rfl,.inl ⟨rfl,rfl⟩⟩
 ·exact ⟨_,by simp [bW,h2],.inr rfl⟩
theorem SlA.frz (h:SlA esz xs a) (n:Nat):frz A n a=a:=by
 rcases h with ⟨rfl,rfl⟩ | rfl <;> cases n <;> rfl
theorem e9 {α:Type} {f:α->AV} {p:α->Prop}:∀ {l:List AV},(∀x∈l,∃z,x=f z/\p z)->∃zs:List α,l=zs.map f/\∀z∈zs,p z
 | [],_=>⟨[],rfl,fun _ h=>by cases h⟩
 | x :: l,h=>by
  obtain ⟨z,rfl,hz⟩:=h x (by simp)
  obtain ⟨zs,rfl,hzs⟩:=e9 (l:=l) (fun y hy=>h y (by simp [hy]))
  exact ⟨z :: zs,rfl,fun y hy=>by
   rcases List.mem_cons.1 hy with rfl | hy
   ·exact hz
   ·exact hzs y hy⟩
variable {P:Program} {n:Nat} {t e:TypeId}
theorem TA.sl (hu:P.underlying t=some (.slice e)) (h:TA P (n+1) t a):∃es,SlA (P.cellsOf e) es a/\es.length<=9223372036854775807/\∀x∈es,TA P n e x:=by
 rcases TA.slice hu h with rfl | ⟨es,h1,h2,h3⟩
 ·exact ⟨[],.inl ⟨rfl,rfl⟩,by simp,fun _ h=>by cases h⟩
 ·exact ⟨es,.inr h1,h2,h3⟩
end
theorem my {A:aa}:∀(n:Nat) (a:AV),br n a=true->frz A n a=a
 | 0,a,h=>by cases a <;> simp_all [br,frz]
 | n+1,a,h=>by
  have ih:=my (A:=A) n
  have hm:∀cs:List AV,(∀x∈cs,br n x=true)->cs.map (frz A n)=cs:=fun cs hc=>by
   conv=>rhs; rw [<-List.map_id cs]
   exact List.map_congr_left fun x hx=>ih x (hc x hx)
  cases a <;> simp only [br,Bool.false_eq_true,List.all_eq_true,Bool.and_eq_true] at h <;> simp only [frz]
  ·rw [hm _ h]
  ·rw [hm _ h]
  ·rw [hm _ h.1,hm _ h.2]
  ·rw [ih _ h]
theorem lZ {w:World} {OK OK2:Nat->Prop} {g g2:aq} {n:Nat} {a:AV} {v:Value} (hn:br n a=true) (h:aJ w OK g v a) (hok:∀b,OK b->OK2 b):aJ w OK2 g2 v a:=by
 have:=iJ (A:=[]) n a v hn h
 rw [my n a hn] at this
 exact this.mono hok (fun _ _=>rfl) _ g2.none_le
def oZ (n:Nat):Ent->Bool
 | .row _ _ es=>es.all (br n)
 | .map kvs=>kvs.all fun x=>br n x.1 && br n x.2
 | .loop ..=>true
 | .dead=>false
theorem jP.noRef {w:World} {OK OK2:Nat->Prop} {g g2:aq} {n:Nat} {incs:List Inc} {e:Ent} (h:jP w OK g incs e) (hn:oZ n e=true) (hok:∀b,OK b->OK2 b):jP w OK2 g2 incs e:=by
 cases e with
 | row s gr es=>
  simp only [oZ,List.all_eq_true] at hn
  refine ⟨h.1,fun inc hi=>?_⟩
  obtain ⟨h1,h2,h3,c,T,fz,h4,h5,h6,h7⟩:=h.2 inc hi
  refine ⟨h1,h2,h3,c,T,fz,h4,h5,h6,fun i hi hn'=>?_⟩
  obtain ⟨v,k1,k2,k3⟩:=h7 i hi hn'
  exact ⟨v,lZ (hn _ (List.getElem_mem _)) k1 hok,k2,k3⟩
 | map kvs=>
  simp only [oZ,List.all_eq_true,Bool.and_eq_true] at hn
  obtain ⟨inc,rfl,es,clock,h1,h2,hst,h3⟩:=h
  refine ⟨inc,rfl,es,clock,h1,h2,hst,fun i hi=>?_⟩
  obtain ⟨e,e1,e2,e3⟩:=h3 i hi
  have:=hn _ (List.getElem_mem hi)
  exact ⟨e,e1,lZ this.1 e2 hok,lZ this.2 e3 hok⟩
 | loop r k=>exact h
 | dead=>trivial
section
variable {P:Program} {G:Nat->Option (List AV)}
theorem bC.killFirst {w:World} {OK:Nat->Prop} {g:aq} {A:aa} (h:bC w OK g A) (k:Nat) (hk:k<=A.length):bC w OK g (List.replicate k .dead++A.drop k):=by
 have hl:(List.replicate k Ent.dead++A.drop k).length=A.length:=by simp; omega
 have hlt:∀id,id<k->(List.replicate k Ent.dead++A.drop k)[id]?=some .dead:=fun id hid=>by
  rw [List.getElem?_append_left (by simpa using hid)]; simp [hid]
 have hge:∀id,k<=id->(List.replicate k Ent.dead++A.drop k)[id]?=A[id]?:=fun id hid=>by
  rw [List.getElem?_append_right (by simpa using hid)]
  simp only [List.length_replicate,List.getElem?_drop]
  congr 1; omega
 have hlive:∀id,(List.replicate k Ent.dead++A.drop k)[id]?≠some Ent.dead->A[id]?≠some Ent.dead:=fun id hd=>by
  by_cases e:id<k
  ·exact absurd (hlt id e) hd
  ·rwa [hge id (by omega)] at hd
 refine ⟨fun id hid=>?_,fun id hid=>h.out id (by omega),fun id id' i i' hd hd'=>h.one id id' i i' (hlive _ hd) (hlive _ hd'),h.apart,h.low,h.ok⟩
 by_cases e:id<k
 ·have:=hlt id e
  rw [List.getElem?_eq_getElem hid] at this
  injection this with this
  rw [this]; trivial
 ·have:=hge id (by omega)
  rw [List.getElem?_eq_getElem hid,List.getElem?_eq_getElem (by omega)] at this
  injection this with this
  rw [this]; exact h.ent id (by omega)
end
section
variable {E:Env} {fuel:Nat} {a:MC} {mask:List Nat}
theorem oM (S:Nat->List AV) (B:Nat->aa) (N:Nat) {o:Out} (hc:∀i,clear mask (S i)=S i) (ho:∀ σ A,o≠.normal σ A)
  (hs:∀i,i<N->run E fuel [.code a] (S i) (B i)=some (.normal (S (i+1)) (B (i+1)))) (he:run E fuel [.code a] (S N) (B N)=some o) {m:Nat} (hm:N<m) :
  bI (evC E fuel a) mask m (S 0) (B 0)=some o:=by
 have key:∀k i m,i+k=N->k<m->bI (evC E fuel a) mask m (S i) (B i)=some o:=by
  intro k
  induction k with
  | zero=>
   intro i m hi hm
   obtain ⟨m,rfl⟩:∃j,m=j+1:=⟨m-1,by omega⟩
   obtain rfl:i=N:=by omega
   rw [aF,hc,he]
   cases o with
   | normal σ A=>exact absurd rfl (ho _ _)
   | exit _ _ _=>rfl
   | ret _ _=>rfl
  | succ k ih=>
   intro i m hi hm
   obtain ⟨m,rfl⟩:∃j,m=j+1:=⟨m-1,by omega⟩
   rw [aF,hc,hs i (by omega)]
   exact ih (i+1) m (by omega) (by omega)
 exact key N 0 m (by omega) hm
theorem dk (S:Nat->List AV) (B:Nat->aa) (n:Nat) (p:Nat->Prop) {oF:Nat->Out} {oE:Out} (hc:∀i,clear mask (S i)=S i) (hF:∀i σ A,oF i≠.normal σ A) (hE:∀ σ A,oE≠.normal σ A)
  (hs:∀i,i<n->¬ p i->run E fuel [.code a] (S i) (B i)=some (.normal (S (i+1)) (B (i+1)))) (hf:∀i,i<n->p i->run E fuel [.code a] (S i) (B i)=some (oF i)) (he:run E fuel [.code a] (S n) (B n)=some oE) {m:Nat} (hm:n<m) :
  ((∃i,i<n/\p i/\(∀j,j<i->¬ p j)/\bI (evC E fuel a) mask m (S 0) (B 0)=some (oF i))\/((∀i,i<n->¬ p i)/\bI (evC E fuel a) mask m (S 0) (B 0)=some oE)):=by
 by_cases h:∃i,i<n/\p i
 ·obtain ⟨i,⟨hi,hp⟩,hmin⟩:∃i,(i<n/\p i)/\∀j,j<i->¬ (j<n/\p j):=by
   obtain ⟨i,hi⟩:=h
   induction i using Nat.strongRecOn with
   | ind i ih=>
    by_cases hj:∃j,j<i/\(j<n/\p j)
    ·obtain ⟨j,hj,hp⟩:=hj
     exact ih j hj hp
    ·exact ⟨i,hi,fun j h hp=>hj ⟨j,h,hp⟩⟩
  have hmin':∀j,j<i->¬ p j:=fun j hj hp=>hmin j hj ⟨by omega,hp⟩
  exact .inl ⟨i,hi,hp,hmin',oM S B i hc (hF i) (fun j hj=>hs j (by omega) (hmin' j hj)) (hf i hi hp) (by omega)⟩
 ·have h':∀i,i<n->¬ p i:=fun i hi hp=>h ⟨i,hi,hp⟩
  exact .inr ⟨h',oM S B n hc hE (fun j hj=>hs j hj (h' j hj)) he hm⟩
end
def slA (esz:Nat) (es:List AV):AV:=match es with | []=>.nilS | _ :: _=>.fs esz es
section
variable {A:aa} {esz bytes:Nat} {es:List AV}
theorem bu (esz:Nat) (es:List AV):SlA esz es (slA esz es):=by
 cases es with
 | nil=>exact .inl ⟨rfl,rfl⟩
 | cons x r=>exact .inr rfl
end
theorem bK (a b:Nat) (k:IntKind):aj .lss (.int k (a:Int)) (.int k (b:Int))=some (.bool (decide (a<b))):=by
 simp [aj]
theorem AF (a b:Nat) (k k':IntKind) (h:b<=k.bits):aj .shr (.int k (a:Int)) (.int k' (b:Int))=some (.int k ((a / 2 ^ b:Nat):Int)):=by
 have hm:min b k.bits=b:=by omega
 have:(a:Int).fdiv (2 ^ b)=((a / 2 ^ b:Nat):Int):=by
  rw [Int.fdiv_eq_ediv_of_nonneg _ (Int.le_of_lt (Int.pow_pos (by decide)))]
  norm_cast
 simp only [aj]
 rw [if_neg (by omega),Int.toNat_natCast,hm,this]
theorem aY (a:Nat) (h:a<9223372036854775807):aj .add (.int .i64 (a:Int)) (.int .i64 1)=some (.int .i64 ((a+1:Nat):Int)):=by
 have:IntKind.i64.wrap ((a:Int)+1)=((a+1:Nat):Int):=by rw [eo (by unfold inI; omega)]; omega
 simp only [aj]
 rw [if_pos trivial,this]
section
variable {P:Program} {G:Nat->Option (List AV)}
theorem au.of_all {f:FuncId} {M':Nat->aB} {M:aB} (h:∀fuel,au P G f (M' fuel)) (hM:∀hd args A x,M hd args A=some x->∃fuel,M' fuel hd args A=some x):au P G f M:=by
 refine ⟨(h 0).1,fun ys hd hs args A r A' he=>?_⟩
 obtain ⟨fuel,h1⟩:=hM hd args A _ he
 exact (h fuel).2 ys hd hs args A r A' h1
end
def bV (A:aa):Nat->AV->Bool
 | _,.bool _=>true
 | _,.int ..=>true
 | _,.str _=>true
 | _,.nilS=>true
 | _,.nilP=>true
 | _,.nilM=>true
 | _,.nilF=>true
 | _,.nilI=>true
 | n+1,.agg cs=>cs.all (bV A n)
 | n+1,.tup cs=>cs.all (bV A n)
 | n+1,.iface _ v=>bV A n v
 | n+1,.sl id off len=>match A[id]? with
  | some (.row _ _ es)=>((es.drop off).take len).all (bV A n)
  | _=>false
 | n+1,.ptr id i o=>match A[id]? with
  | some (.row _ _ es)=>match es[i]? with
   | some e=>e.solid && decide (o<(cellsOf e).length) && (cellsOf e).all (bV A n)
   | none=>false
  | _=>false
 | _,_=>false
section
variable {P:Program} {G:Nat->Option (List AV)}
theorem qO {w:World} {OK OK2:Nat->Prop} {g:aq} {A:aa} (hA:bC w OK g A) (h2:∀id inc,A[id]?≠some .dead->inc∈g id->OK2 inc.b):∀(n:Nat) (a:AV) (v:Value),bV A n a=true->aJ w OK g v a->aJ w OK2 aq.none v (frz A n a):=by
 intro n
 induction n with
 | zero=>
  intro a v hs h
  cases a <;> simp only [bV,Bool.false_eq_true] at hs <;> simp only [frz] <;> first
   | (have e:=h.inv_bool; rw [e]; exact .bool _ _)
   | (have e:=h.inv_int; rw [e]; exact .int _ _ _)
   | (obtain ⟨s,e,hs⟩:=h.inv_str; rw [e]; exact .str _ _ _ hs)
   | (obtain ⟨p,e⟩:=h.inv_nilS; rw [e]; exact .nilS _ _)
   | (have e:=h.inv_nilP; rw [e]; exact .nilP _)
   | (have e:=h.inv_nilM; rw [e]; exact .nilM _)
   | (cases h; exact .nilF _)
   | (cases h; exact .nilI _)
 | succ n ih=>
  intro a v hs h
  cases a <;> simp only [bV,Bool.false_eq_true] at hs <;> simp only [frz] <;> try first
   | (have e:=h.inv_bool; rw [e]; exact .bool _ _)
   | (have e:=h.inv_int; rw [e]; exact .int _ _ _)
   | (obtain ⟨s,e,hs⟩:=h.inv_str; rw [e]; exact .str _ _ _ hs)
   | (obtain ⟨p,e⟩:=h.inv_nilS; rw [e]; exact .nilS _ _)
   | (have e:=h.inv_nilP; rw [e]; exact .nilP _)
   | (have e:=h.inv_nilM; rw [e]; exact .nilM _)
   | (cases h; exact .nilF _)
   | (cases h; exact .nilI _)
  case sl id off len=>
   split at hs
   ·rename_i s gr es hid
    try simp only [hid]
    rw [List.all_eq_true] at hs
    obtain ⟨inc,cap,ao,hinc,rfl,hl,hn,hcap,ha⟩:=h.inv_sl
    obtain ⟨hlt',hrow⟩:=List.getElem?_eq_some_iff.1 hid
    have hent:=hA.ent id hlt'
    rw [hrow] at hent
    obtain ⟨hesz,hne,hnc,c,T,fz,hh,hu,hcs,hel⟩:=hent.2 inc hinc
    have hlen:(((es.drop off).take len).map (frz A n)).length=len:=by simp; omega
    obtain ⟨vals,hvals⟩:∃vals:Nat->Value,∀i (hi:i<len),aJ w OK g (vals i) (es[off+i]'(by omega))/\(vals i).cells.size=s/\bQ (vals i)/\∀j,j<s->c[inc.o+(off+i)*s+j]?=(vals i).cells[j]?:=
     ⟨fun i=>if hi:i<len then (hel (off+i) (by omega) (by omega)).choose else undef,fun i hi=>by simp only [hi,dif_pos]; exact (hel (off+i) (by omega) (by omega)).choose_spec⟩
    have hmem:∀i (hi:i<len),es[off+i]'(by omega)∈(es.drop off).take len:=fun i hi=>by
     refine List.mem_iff_getElem.2 ⟨i,by simp; omega,?_⟩
     simp
    have:=aJ.fs (w:=w) (OK:=OK2) aq.none inc.b ao cap s T c fz (((es.drop off).take len).map (frz A n)) vals (h2 id inc (by rw [hid]; simp) hinc) hh (by omega)
     (fun i hi=>by simp only [List.getElem_map,List.getElem_take,List.getElem_drop]; exact ih _ _ (hs _ (hmem i (by omega))) (hvals i (by omega)).1)
     (fun i hi=>⟨(hvals i (by omega)).2.1,(hvals i (by omega)).2.2.1⟩)
     (fun i hi j hj=>by
      rw [<-(hvals i (by omega)).2.2.2 j hj,ha (by omega),hesz]
      congr 1; rw [Nat.add_mul]; omega)
    rwa [hlen] at this
   ·cases hs
  case ptr id i o=>
   split at hs
   ·rename_i s gr es hid
    split at hs
    ·rename_i e he
     simp only [Bool.and_eq_true,decide_eq_true_eq] at hs
     obtain ⟨⟨hsol,ho⟩,hall⟩:=hs
     rw [List.all_eq_true] at hall
     try simp only [hid,he]
     rw [if_pos ⟨hsol,ho⟩]
     obtain ⟨inc,hinc,rfl,hn,ho'⟩:=h.inv_ptr
     obtain ⟨hlt',hrow⟩:=List.getElem?_eq_some_iff.1 hid
     obtain ⟨hi',rfl⟩:=List.getElem?_eq_some_iff.1 he
     have hent:=hA.ent id hlt'
     rw [hrow] at hent
     obtain ⟨hesz,hne,hnc,c,T,fz,hh,hu,hcs,hel⟩:=hent.2 inc hinc
     obtain ⟨v,hv,hvs,hok,hc⟩:=hel i hi' hn
     obtain ⟨k1,k2,k3⟩:=hv.cells hsol
     obtain ⟨f,hf⟩:∃f:Nat->Value,∀j (hj:j<(cellsOf es[i]).length),v.cells[j]?=some (f j)/\(f j).oneCell'=true/\aJ w OK g (f j) (cellsOf es[i])[j]:=
      ⟨fun j=>(v.cells[j]?).getD undef,fun j hj=>by
       obtain ⟨x,a1,a2,a3⟩:=k3 j hj
       simp only [a1,Option.getD_some]
       exact ⟨trivial,a2,a3⟩⟩
     refine .fp _ inc.b _ T c fz _ (fun j=>f (o+j)) (h2 id inc (by rw [hid]; simp) hinc) hh (by rw [List.length_map,List.length_drop]; omega) (fun j hj=>?_) (fun j hj=>?_)
     ·simp only [List.getElem_map,List.getElem_drop]
      have hj':o+j<(cellsOf es[i]).length:=by rw [List.length_map,List.length_drop] at hj; omega
      exact ih _ _ (hall _ (List.getElem_mem _)) (hf (o+j) hj').2.2
     ·have hj':o+j<(cellsOf es[i]).length:=by rw [List.length_map,List.length_drop] at hj; omega
      refine ⟨?_,(hf (o+j) hj').2.1⟩
      rw [hesz,Nat.add_assoc,hc (o+j) (by omega)]
      exact (hf (o+j) hj').1
    ·cases hs
   ·cases hs
  case agg cs=>
   rw [List.all_eq_true] at hs
   obtain ⟨vs,vals,rfl,hl,hg,hv⟩:=h.inv_agg
   exact .agg _ vs _ (by simpa using hl) vals (fun i hi=>hg i (by simpa using hi)) (fun i hi=>by simp only [List.getElem_map]; exact ih _ _ (hs _ (List.getElem_mem _)) (hv i (by simpa using hi)))
  case tup cs=>
   rw [List.all_eq_true] at hs
   obtain ⟨vs,vals,rfl,hl,hg,hv⟩:=h.inv_tup
   exact .tup _ vs _ (by simpa using hl) vals (fun i hi=>hg i (by simpa using hi)) (fun i hi=>by simp only [List.getElem_map]; exact ih _ _ (hs _ (List.getElem_mem _)) (hv i (by simpa using hi)))
  case iface t x=>
   cases h with
   | iface _ t v a hv=>exact .iface _ t v _ (ih _ _ hs hv)
def bS (P:Program) (G:Nat->Option (List AV)) (f:FuncId) (M:aN):Prop:=
 Enters P f/\∀args r,M args=some r->∀(w:World) (OK:Nat->Prop) (vs:List Value),(∀b,OK b->b<w.heap.size)->vV G w OK->bm w OK aq.none vs args ->
  Calls P f vs.toArray w fun e w'=>∃v OK',e=.returned v/\aJ w' (fun b=>OK' b/\w.heap.size<=b) aq.none v r/\(∀b,OK' b->b<w'.heap.size)/\Ext w OK aq.none w' OK' aq.none
def Bi (n:Nat) (M:aN):rj:=fun args A=>(M (args.map (frz A n))).map fun r=>(r,A)
def ec (n:Nat) (M:aN):aB:=fun _=>Bi n M
theorem dD.of_pureF {f:FuncId} {M:aN} (h:bS P G f M) (n:Nat):dD P G f (Bi n M):=by
 refine ⟨h.1,?_⟩
 intro args A r A' he w OK g vs hA hG hl
 unfold Bi at he
 rw [Option.map_eq_some_iff] at he
 obtain ⟨r0,hM,he⟩:=he
 injection he with e1 e2
 subst e1; subst e2
 have hok2:∀b,(OK b\/∃id inc,inc∈g id/\inc.b=b)->b<w.heap.size:=fun b hb=>by
  rcases hb with hb | ⟨id,inc,hi,rfl⟩
  ·exact hA.ok b hb
  ·exact hA.low id inc hi
 have hl2:bm w (fun b=>OK b\/∃id inc,inc∈g id/\inc.b=b) aq.none vs (args.map (frz A n)):=hl.map fun v a _ hv=>mw hA (fun b hb=>Or.inl hb) (fun id inc _ hi=>Or.inr ⟨id,inc,hi,rfl⟩) n a v hv
 refine (h.2 _ _ hM w (fun b=>OK b\/∃id inc,inc∈g id/\inc.b=b) vs hok2 (hG.mono (fun b hb=>.inl hb) (fun _ _=>rfl)) hl2).mono ?_
 rintro e w' ⟨v,OK',rfl,hv,hok',hx⟩
 have hb:∀b,b<w.heap.size->w'.heap[b]?=w.heap[b]?:=fun b hb=>hx.blk b hb (fun _ _ (hi:_∈[])=>by cases hi)
 have hok3:∀b,(OK b\/(OK' b/\w.heap.size<=b))->b<w'.heap.size:=fun b hb=>by
  rcases hb with hb | hb
  ·exact Nat.lt_of_lt_of_le (hA.ok b hb) hx.size
  ·exact hok' b hb.1
 have hv2:aJ w' (fun b=>OK b\/(OK' b/\w.heap.size<=b)) aq.none v r0:=hv.mono (fun _ h=>.inr h) (fun _ _=>rfl) _ (aq.le_refl _)
 exact ⟨v,fun b=>OK b\/(OK' b/\w.heap.size<=b),g,rfl,hv2.none_to,
  hA.keep hx.size hb (fun b=>OK b\/(OK' b/\w.heap.size<=b)) (fun _ h=>.inl h) (fun _ h=>h.elim .inl fun h=>.inr h.2) hok3,
  hx.os,hx.tape,hx.output,hx.size,fun b hb' _=>hb b hb',g.le_refl,fun _ h=>.inl h,fun id inc hi=>.inl ⟨id,inc,hi,rfl⟩,fun _ h=>h.elim .inl fun h=>.inr h.2,hx.loops,fun _ _ _ _=>rfl⟩
theorem au.of_pureF {f:FuncId} {M:aN} (h:bS P G f M) (n:Nat):au P G f (ec n M):=(dD.of_pureF h n).y
def evF (E:Env) (fuel:Nat) (mf:bL) (n:Nat) (args:List AV):Option AV:=(bN E fuel mf args []).bind fun x=>if bV x.2 n x.1=true then some (frz x.2 n x.1) else none
theorem j7 {E:Env} {fuel:Nat} {n:Nat} (mf:bL) (args:List AV) (h:args.length=mf.n):evF E fuel mf n args=match run E fuel [.code mf.mc] (args++List.replicate (mf.len-mf.n) .undef) [] with
  | some (.normal σ A')=>(dh A' σ mf.res).bind fun l=>if bV A' n (nh l)=true then some (frz A' n (nh l)) else none
  | some (.ret σ A')=>(dh A' σ mf.res).bind fun l=>if bV A' n (nh l)=true then some (frz A' n (nh l)) else none
  | _=>none:=by
 unfold evF
 rw [aH mf args h]
 cases run E fuel [.code mf.mc] (args++List.replicate (mf.len-mf.n) .undef) [] with
 | none=>rfl
 | some o=>cases o with
  | normal σ A=>cases h1:dh A σ mf.res with
   | none=>simp [h1]
   | some l=>simp only [h1,Option.map_some,Option.bind_some]
  | exit id σ A=>rfl
  | ret σ A=>cases h1:dh A σ mf.res with
   | none=>simp [h1]
   | some l=>simp only [h1,Option.map_some,Option.bind_some]
theorem bS.of_ev {E:Env} {f:FuncId} {fn:Func} {k:Nat} {vs:List Nat} {pu:List FuncId} {on:Bool} {hints:pj} {mf:bL} (hE:bZ P E) (hys:E.ys=[]) (hf:P.funcs[f]?=some fn) (hc:aA P fn k vs pu on hints=some mf) (n:Nat) {M:aN}
  (hM:∀args r,M args=some r->∃fuel,evF E fuel mf n args=some r) (hpu:aU E pu:=by first | exact aU.nil | (repeat (first | exact aU.nil | refine aU.cons (M:=_) rfl ?_))):bS P E.glob f M:=by
 refine ⟨(aG (fuel:=0) hE hys hf hc hpu).1,?_⟩
 intro args r he w OK vs hok hG hl
 obtain ⟨fuel,h⟩:=hM args r he
 unfold evF at h
 rw [Option.bind_eq_some_iff] at h
 obtain ⟨⟨r0,A'⟩,h1,h⟩:=h
 simp only [Option.ite_none_right_eq_some,Option.some.injEq] at h
 obtain ⟨hf2,rfl⟩:=h
 refine ((aG (fuel:=fuel) hE hys hf hc hpu).2 _ _ _ _ h1 w OK aq.none vs (bC.nil hok) hG hl).mono ?_
 rintro e w' ⟨v,OK',g',rfl,hv,hA,hx⟩
 have hfr:∀id inc,inc∈g' id->w.heap.size<=inc.b:=fun id inc hi=>by
  rcases hx.fresh id inc hi with ⟨_,_,h0,_⟩ | h1
  ·cases h0
  ·exact h1
 refine ⟨v,fun b=>OK' b\/∃id inc,inc∈g' id/\inc.b=b,rfl,qO hA (fun id inc _ hi=>⟨.inr ⟨id,inc,hi,rfl⟩,hfr id inc hi⟩) n r0 v hf2 hv,?_,?_⟩
 ·rintro b (hb | ⟨id,inc,hi,rfl⟩)
  ·exact hA.ok b hb
  ·exact hA.low id inc hi
 ·refine ⟨hx.os,hx.tape,hx.output,hx.size,hx.blk,aq.le_refl _,fun b hb=>.inl (hx.okle b hb),fun _ _ (hi:_∈[])=>(by cases hi),?_,hx.loops,fun _ _ _ _=>rfl⟩
  rintro b (hb | ⟨id,inc,hi,rfl⟩)
  ·exact hx.okf b hb
  ·exact .inr (hfr id inc hi)
end
@[simp] theorem FY (n:Nat) (M:aN) (h:aE) (args:List AV) (A:aa):ec n M h args A=(M (args.map (frz A n))).map fun r=>(r,A):=rfl
end Go.Proofs.YtfkcoekicjjndaaGreat
