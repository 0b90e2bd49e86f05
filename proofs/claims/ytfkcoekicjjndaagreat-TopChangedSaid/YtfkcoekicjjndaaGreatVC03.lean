import Derived.Test.YtfkcoekicjjndaaGreatVC02
import Derived.Shelf.Abstract
import Derived.WideKeyArgs
import Derived.OpenShut
import Derived.ChangeOld
import Derived.RowKit
import Derived.Test.YtfkcoekicjjndaaGreatChecked
import Derived.KernelRfl
set_option maxRecDepth 100000
set_option maxHeartbeats 4000000
noncomputable section
namespace Go.Proofs.YtfkcoekicjjndaaGreat
open Go
variable {A:ac} {d7 v0 d6 d2 d3 v5 v1 v4 d4 d9 d10 d1 v3 d5 d8 d11 d13 v2 v6 d12 d14 d0 v8 a d15 d16 v11 v12 v7 v9 v10 v13:AV} {E:Env} {f:FuncId} {fuel n i:Nat} {w W W':World} {OK OK' OK2:Nat->Prop} {o:Out} {g:aA} {vs:List Nat} {pu:List FuncId} {on:Bool} {hints:qX} {t:TypeId} {v:Value} {σ:List AV} {P:Program} {G:Nat->Option (List AV)} {z:Int}
section
variable {P:Program} {E:Env} {N:Nat} {vs:List Nat} {base:Nat} {rd:Option Nat} {n:Nat}
theorem Ext.putLoop {w3:World} {OK3:Nat->Prop} {g3:aA} (h:Ext w OK g w3 OK3 g3) {n0:Nat} {inc:Inc} (hg:g n0=[inc]) {r0:Loop} (hr:w.heap[inc.b]?=some (.loop r0)) (h0:r0.state≠.busy) (o:Obj) :
  Ext w OK g (w3.putObj inc.b o) OK3 g3 where
 os:=h.os
 tape:=h.tape
 output:=h.output
 size:=by simpa using h.size
 blk b hb hu:=(World.putObj_heap_other (fun e=>hu n0 inc (by rw [hg]; simp) e.symm)).trans (h.blk b hb hu)
 gle:=h.gle
 okle:=h.okle
 fresh:=h.fresh
 okf:=h.okf
 loops b r hb hbusy:=(World.putObj_heap_other (fun e=>by
  rw [e,hr] at hb; injection hb with hb; injection hb with hb; rw [hb] at h0; exact h0 hbusy)).trans (h.loops b r hb hbusy)
 fix:=h.fix
theorem q6 (hvn:vs.Nodup) (hvl:∀t∈vs,t<N) {n0 l:Nat} {r0:Loop} {is:List Nat} {asg bdy:List AV->ac->Option Out} {tm:Array Value}
  (hr0:r0.state=.ready/\r0.pending=none) (htm:r0.tmps=tm) (hN:tm.size=N) (hlen:σ.length=vs.length) (his:pQ vs r0.params.toList=some is) (hh:gA P E.glob E.ys E.hand)
  (ha:∀(m:Nat) (σ:List AV) (A:ac) (out:Out) (a:Act) (w:World) (OK:Nat->Prop) (g:aA),SRel E N vs 0 w OK g σ A a->asg σ A=some out->r0.assign.wpIn (FW (some l)) m P (dB E N vs 0 w OK g out) a w)
  (hb:∀(m:Nat) (σ:List AV) (A:ac) (out:Out) (a:Act) (w:World) (OK:Nat->Prop) (g:aA),SRel E N vs 0 w OK g σ A a->bdy σ A=some out->r0.body.wpIn (FW (some l)) m P (dB E N vs 0 w OK g out) a w) :
  gA P E.glob (⟨n0,l,vs.map (tm.getD · undef),σ⟩ :: E.ys) (dy n0 l r0 σ is asg bdy E.hand):=by
 intro fv args A r A' he w OK g v us hA hI hv hl
 have hsub:∀y∈E.ys,y∈(⟨n0,l,vs.map (tm.getD · undef),σ⟩ :: E.ys):=fun y hy=>SV _ hy
 have other:E.hand fv args A=some (r,A')->Df P w OK g ((do let d <-Deferred.ofValue v us.toArray; invoke d.target d.args:Sem Next).run P w) r A':=fun he=>hh.sub hsub _ _ _ _ _ he w OK g v us hA hI hv hl
 unfold dy at he
 split at he
 ·rename_i l'
  split at he
  ·rename_i hll
   subst hll
   split at he
   ·rename_i r' k hAn
    split at he
    ·rename_i hrk
     obtain ⟨rfl,rfl⟩:=hrk
     split at he
     ·rename_i σ1 hset
      split at he
      ·rename_i σ2 A2 hasg
       split at he
       ·rename_i hA2
        obtain ⟨⟨inc,hg1,hg2,hg3⟩,hvals⟩:=hI.2 _ (Ty ..)
        simp only at hg1 hg2 hvals
        subst hg2
        have hn0:n0<A.length:=(Rx.1 hAn).1
        have hent:=hA.ent n0 hn0
        rw [(Rx.1 hAn).2] at hent
        obtain ⟨inc',e1,_,hheap⟩:=hent
        rw [hg1] at e1
        simp at e1; subst e1
        have hrec:gM r' 0=r':=by
         obtain ⟨h1,h2⟩:=hr0
         cases r'; simp only at h1 h2; subst h1; subst h2; rfl
        rw [hrec] at hheap
        obtain ⟨vs1,vs2,vals1,vals2,rfl,hl1,hl2,-,-,-,-⟩:=hv.inv_func
        simp at hl1 hl2
        subst hl1; subst hl2
        obtain ⟨t1,t2,t3,t4⟩:=lH hvn hvl r'.params.toList is us args σ σ1 tm his hset hl hN hlen (fun i hi=>by
         have:=hvals.get i (by simpa using hi) (by rw [hlen]; exact hi)
         simpa [RC,RD (show i<σ.length by rw [hlen]; exact hi)] using this)
        have hy:=run_yield (P:=P) (args:=us.toArray) (hheap) (by simpa using t1)
        refine .inr (.inr ⟨inc.b,r'.fn,(r'.params.zip us.toArray).foldl (fun tmps (t,a)=>tmps.setIfInBounds t a) r'.tmps,r'.assign,r'.body,?_,?_⟩)
        ·simp only [Deferred.ofValue,Sem.run_bind,Sem.run_pure,Result.andThen_ok,invoke]
         simpa using hy
        intro rd m
        have hs0:SRel E N vs 0 w OK g σ1 A {tmps:=(r'.params.zip us.toArray).foldl (fun tmps x=>tmps.setIfInBounds x.1 x.2) r'.tmps,defers:=[]}:=by
         have hf:(r'.params.zip us.toArray).foldl (fun tmps x=>tmps.setIfInBounds x.1 x.2) r'.tmps=(r'.params.toList.zip us).foldl (fun tmps x=>tmps.setIfInBounds x.1 x.2) tm:=by
          rw [<-Array.foldl_toList,htm]; simp
         rw [hf]
         exact ⟨t2,trivial,TE _,t3,t4,hA,hI.sub hsub⟩
        refine roundIn_of_wpIn (F:=FW rd) trivial (wpIn_mono (ha m σ1 A _ _ w OK g hs0 hasg) ?_)
        intro e a1 w1 hq
        cases e <;> simp only [dB] at hq
        obtain ⟨OK1,g1,hs1,hx1⟩:=hq
        have hg1':g1 n0=[inc]:=(hx1.fix n0 inc (by rw [hg1]; simp) hg3).trans hg1
        have hn1:n0<A2.length:=(Rx.1 hA2).1
        have hent1:=hs1.arena.ent n0 hn1
        rw [(Rx.1 hA2).2] at hent1
        obtain ⟨inc',e1,_,hheap1⟩:=hent1
        rw [hg1'] at e1
        simp at e1; subst e1
        rw [hrec] at hheap1
        have hlt1:inc.b<w1.heap.size:=(Sk.1 hheap1).1
        refine ⟨w1.putObj inc.b (.loop {r' with state:=.busy}),run_beginRound hheap1 hr0.1,?_⟩
        obtain ⟨u1,u2⟩:=hs1.arena.turn (w':=w1.putObj inc.b (.loop {r' with state:=.busy})) (g':=g1) n0 hn1 (by rw [hA2]; simp) inc (by rw [hg1']; simp) (by simp) rfl rfl rfl (fun b hne=>World.putObj_heap_other hne)
         (fun r2 hr2 hbusy=>by rw [hheap1] at hr2; injection hr2 with hr2; injection hr2 with hr2; rw [<-hr2,hr0.1] at hbusy; cases hbusy) g1.le_refl (fun _ _=>rfl) (fun i hi=>⟨i,hi,rfl⟩)
         (fun i i' hi hi' _=>by rw [hg1'] at hi hi'; simp at hi hi'; rw [hi,hi']) .dead (fun _=>trivial) (fun _=>rfl)
        have hs2:=hs1.ext u2 u1
        have hbusy2:(w1.putObj inc.b (.loop {r' with state:=.busy})).heap[inc.b]?=some (.loop {r' with state:=.busy}):=World.putObj_heap_same hlt1
        have fin:∀(k:Nat) (jump:Option Code) (σ3:List AV) (A3:ac) (a3:Act) (w3:World) (OK3:Nat->Prop) (g3:aA),SRel E N vs 0 w3 OK3 g3 σ3 A3 a3->Ext (w1.putObj inc.b (.loop {r' with state:=.busy})) OK1 g1 w3 OK3 g3 ->
          gM r' k={r' with state:=if jump.isNone then .ready else .done,pending:=jump} ->
          ∃v w',(Instr.endRound inc.b jump).run P w3=.ok v w'/\∃v' OK' g',Ending.returned v=.returned v'/\aN w' OK' g' v' (.bool jump.isNone)/\bZ w' OK' g' (A3.set n0 (.loop r' k))/\Ext w OK g w' OK' g':=by
         intro k jump σ3 A3 a3 w3 OK3 g3 hs3 hx3 hrk
         have hb3:=hx3.loops _ _ hbusy2 rfl
         have hg3':g3 n0=[inc]:=(hx3.fix n0 inc (by rw [hg1']; simp) hg3).trans hg1'
         have:=run_endRound (P:=P) jump hb3
         refine ⟨_,_,this,.bool jump.isNone,OK3,g3,rfl,.bool _ _,?_,?_⟩
         ·have hrv:=hs3.arena.revive hg3' hg3 hb3 rfl r' k
          rw [hrk] at hrv
          exact hrv
         ·exact ((hx1.trans u2).trans hx3).putLoop hg1 hheap (by rw [hr0.1]; simp) _
        split at he
        ·rename_i σ3 A3 hbd
         injection he with he; injection he with he1 he2; subst he1; subst he2
         refine wpIn_mono (hb m σ2 (A2.set n0 .dead) _ a1 _ OK1 g1 hs2 hbd) ?_
         intro e a3 w3 hq
         cases e <;> simp only [dB] at hq
         obtain ⟨OK3,g3,hs3,hx3⟩:=hq
         exact fin 0 none σ3 A3 a3 w3 OK3 g3 hs3 hx3 rfl
        ·rename_i σ3 A3 hbd
         injection he with he; injection he with he1 he2; subst he1; subst he2
         refine wpIn_mono (hb m σ2 (A2.set n0 .dead) _ a1 _ OK1 g1 hs2 hbd) ?_
         intro e a3 w3 hq
         cases e <;> simp only [dB] at hq
         obtain ⟨OK3,g3,hs3,hx3⟩:=hq
         exact fin 1 (some .ret) σ3 A3 a3 w3 OK3 g3 hs3 hx3 rfl
        ·rename_i id σ3 A3 hbd
         injection he with he; injection he with he1 he2; subst he1; subst he2
         refine wpIn_mono (hb m σ2 (A2.set n0 .dead) _ a1 _ OK1 g1 hs2 hbd) ?_
         intro e a3 w3 hq
         cases e <;> simp only [dB] at hq
         obtain ⟨hid,OK3,g3,hs3,hx3⟩:=hq
         subst hid
         exact fin (id+2) (some (.exit id)) σ3 A3 a3 w3 OK3 g3 hs3 hx3 (by unfold gM; rw [RN (by omega),RN (by omega)]; simp)
        ·cases he
       ·cases he
      ·cases he
     ·cases he
    ·cases he
   ·cases he
  ·exact other he
 ·exact other he
end
section
variable {P:Program} {E:Env} {N:Nat} {vs:List Nat} {base:Nat} {rd:Option Nat} {n:Nat}
theorem nJ (hE:cM P E) (hvn:vs.Nodup) (hvl:∀t∈vs,t<N) {f:Operand} {ps:Array Tmp} {asg bd:Code} {z:MX} {is:List Nat} (hz:sc vs [] f=some z) (his:pQ vs ps.toList=some is) {asgE bdE:List AV->ac->Option Out}
  (ha:∀(l m:Nat) (σ:List AV) (A:ac) (out:Out) (a:Act) (w:World) (OK:Nat->Prop) (g:aA),SRel E N vs 0 w OK g σ A a->asgE σ A=some out->asg.wpIn (FW (some l)) m P (dB E N vs 0 w OK g out) a w)
  (hb:∀(l m:Nat) (σ:List AV) (A:ac) (out:Out) (a:Act) (w:World) (OK:Nat->Prop) (g:aA),SRel E N vs 0 w OK g σ A a->bdE σ A=some out->bd.wpIn (FW (some l)) m P (dB E N vs 0 w OK g out) a w)
  {σ:List AV} {A:ac} {out:Out} {a:Act} {w:World} {OK:Nat->Prop} {g:aA} (hs:SRel E N vs base w OK g σ A a)
  (he:evR (fun (_:Nat × Loop)=>True) (fun x=>
   match E.callY (dy A.length x.1 x.2 σ is asgE bdE E.hand) (evX E σ [] z) [.func (.yield x.1) [] []] (A++[Ent.loop x.2 0]) with
   | some (_,A')=>il A.length σ A'
   | none=>none)=some out) :
  (Code.rangeFunc f ps asg bd).wpIn (FW none) n P (dB E N vs base w OK g out) a w:=by
 refine wpIn_rangeFunc ?_
 intro fn hfn
 obtain ⟨r0,hr0⟩:∃r0:Loop,r0={state:=.ready,pending:=none,fn,tmps:=a.tmps,params:=ps,assign:=asg,body:=bd,defers:=w.heap.size}:=⟨_,rfl⟩
 obtain ⟨hA1,hx1⟩:=hs.arena.alloc (.deferred (some []))
 have hD:(w.alloc (.deferred (some []))).heap[w.heap.size]?=some (.deferred (some [])):=World.alloc_heap_new w _
 obtain ⟨w1,hw1⟩:∃w1,w1=w.alloc (.deferred (some [])):=⟨_,rfl⟩
 have hsz1:w1.heap.size=w.heap.size+1:=by rw [hw1]; simp
 rw [<-hw1] at hA1 hx1 hD
 have hrec:gM r0 0=r0:=by rw [hr0]; rfl
 obtain ⟨hA2,hx2⟩:=hA1.push (w':=w1.alloc (.loop r0)) (.loop r0) rfl rfl rfl rfl (.loop r0 0) ⟨w.heap.size+1,0,0,0,0⟩ hsz1.symm (fun g' _ _ hnew=>⟨_,rfl,rfl,by rw [hrec,<-hsz1]; exact hnew⟩)
 obtain ⟨w2,hw2⟩:∃w2,w2=w1.alloc (.loop r0):=⟨_,rfl⟩
 obtain ⟨inc0,hinc0⟩:∃i:Inc,i=⟨w.heap.size+1,0,0,0,0⟩:=⟨_,rfl⟩
 rw [<-hw2,<-hinc0] at hA2 hx2
 have hx:=hx1.trans hx2
 have hg2:g.push A.length inc0 A.length=[inc0]:=by simp [aA.push]
 have hE0:=he
 have he:=Bf he (w.heap.size+1,r0) trivial
 simp only at he
 have hs2:=hs.ext hx hA2
 have hyH:gA P E.glob (⟨A.length,w.heap.size+1,vs.map (a.tmps.getD · undef),σ⟩ :: E.ys) (dy A.length (w.heap.size+1) r0 σ is asgE bdE E.hand):=
  q6 hvn hvl (by rw [hr0]; exact ⟨rfl,rfl⟩) (by rw [hr0]) hs.size hs.len (by rw [hr0]; exact his) hE.hand (by rw [hr0]; exact ha _) (by rw [hr0]; exact hb _)
 have hI2:wy E.glob (⟨A.length,w.heap.size+1,vs.map (a.tmps.getD · undef),σ⟩ :: E.ys) w2 OK (g.push A.length inc0):=by
  refine ⟨hs2.glob.1,fun y hy=>?_⟩
  rcases Sx.1 hy with rfl | hy
  ·refine ⟨⟨inc0,hg2,by rw [hinc0],by rw [hinc0]⟩,bH.of_get (by simp [hs.len]) fun i h1 h2=>?_⟩
   simp only [Sv]
   have:=hs2.vars i (by simpa using h1)
   simpa [RC,RD h2] using this
  ·exact hs2.glob.2 y hy
 split at he
 ·rename_i v0 A' hcall
  have hrr:iO E N vs base w2 OK (g.push A.length inc0) σ [] [] (A++[Ent.loop r0 0]) a:={hs2 with tlen:=rfl,temps:=fun j t hj=>by simp at hj,tok:=fun j t hj=>by simp at hj,tone:=fun j j' t hj=>by simp at hj}
  have hfv:=hrr.eval f z hz
  obtain ⟨d,fid,args',e1,e2,e3⟩:=hE.callY _ _ (fun y hy=>SV _ hy) hyH _ _ _ _ _ hcall w2 OK _ _ [.func (.yield (w.heap.size+1)) #[] #[]] hA2 hI2 hfv
   ⟨.func _ _ _ _ [] [] rfl rfl (fun _=>undef) (fun _=>undef) (fun i hi=>by simp at hi) (fun i hi=>by simp at hi) (fun i hi=>by simp at hi) (fun i hi=>by simp at hi),trivial⟩
  refine ⟨w.heap.size+1,[{target:=.collected w.heap.size,args:=#[]}],w2,d,w2,fid,args',w2,?_,?_,fun f' _=>trivial,e2,fun hd=>by simp [qx] at hd,?_⟩
  ·rw [hw2,hw1,hr0]; exact run_enterLoop_outer _ _ _ _ _
  ·have:(resolve a.eval (rangeCall f (w.heap.size+1)) 0)=Deferred.ofValue (a.eval f) #[.func (.yield (w.heap.size+1)) #[] #[]]:=by
    simp [resolve,Act.eval]
   rw [this]; exact e1
  refine (vp e3 none (n-1)).mono ?_
  rintro e w3 ⟨v,OK3,g3,rfl,hv3,hA3,hx3⟩
  simp only [il] at he
  split at he
  ·rename_i r k hAn
   have hn0:A.length<A'.length:=(Rx.1 hAn).1
   have hent:=hA3.ent A.length hn0
   rw [(Rx.1 hAn).2] at hent
   obtain ⟨inc',e4,_,hheap⟩:=hent
   have hg3:g3 A.length=[inc0]:=(hx3.fix A.length inc0 (by rw [hg2]; simp) (by rw [hinc0])).trans hg2
   rw [hg3] at e4
   simp at e4; subst e4
   have hb0:inc0.b=w.heap.size+1:=by rw [hinc0]
   have hnb:(gM r k).state≠.busy:=by unfold gM; split <;> simp
   have hend:=run_endLoop (P:=P) hheap hnb
   obtain ⟨hA4,hx4⟩:=hA3.turn (w':=w3.putObj inc0.b (.loop {gM r k with state:=.exhausted})) (g':=g3) A.length hn0 (by rw [hAn]; simp) inc0 (by rw [hg3]; simp) (by simp) rfl rfl rfl (fun b hne=>World.putObj_heap_other hne)
    (fun r2 hr2=>by rw [hheap] at hr2; injection hr2 with hr2; injection hr2 with hr2; rw [<-hr2]; exact hnb) g3.le_refl (fun _ _=>rfl) (fun i hi=>⟨i,hi,rfl⟩)
    (fun i i' hi hi' _=>by rw [hg3] at hi hi'; simp at hi hi'; rw [hi,hi']) .dead (fun _=>trivial) (fun _=>rfl)
   have hxx:=hx3.trans hx4
   have hs4:=hs2.ext hxx hA4
   have hm2:mH base w2 OK (g.push A.length inc0) ({target:=.collected w.heap.size,args:=#[]} :: a.defers):=by
    refine ⟨⟨w.heap.size,rfl,hs.low,?_,fun ho=>?_,fun id inc hi eb=>?_,?_⟩,hs2.defers⟩
    ·rw [hw2]
     show (w1.heap.push _)[w.heap.size]?=_
     rw [Tn,RN (by omega)]; exact hD
    ·have:=hs.arena.ok _ ho; omega
    ·simp only [aA.push] at hi
     split at hi
     ·simp at hi; subst hi; omega
     ·have:=hs.arena.low id inc hi; omega
    ·have:∀l:List Deferred,mH base w OK g l->∀d'∈l,d'≠{target:=.collected w.heap.size,args:=#[]}:=by
      intro l
      induction l with
      | nil=>intro _ d' hd; cases hd
      | cons x r ih=>
       rintro ⟨⟨D,hd,_,hh,_⟩,hr⟩ d' hd' eq
       rcases Sx.1 hd' with rfl | hd'
       ·rw [hd] at eq
        injection eq with eq _
        injection eq with eq
        have:=(Sk.1 hh).1
        omega
       ·exact ih hr d' hd' eq
     exact this _ hs.defers
   have hs5:SRel E N vs base (w3.putObj inc0.b (.loop {gM r k with state:=.exhausted})) OK3 g3 σ (A'.set A.length .dead) {a with defers:=[{target:=.collected w.heap.size,args:=#[]}]++a.defers}:=
    ⟨hs4.size,hm2.ext hxx,hs4.low,hs4.len,hs4.vars,hs4.arena,hs4.glob⟩
   refine ⟨_,_,by rw [<-hb0]; exact hend,?_⟩
   injection he with he
   by_cases hk0:k=0
   ·subst hk0
    rw [RL rfl] at he
    subst he
    rw [show (gM r 0).pending=none from rfl]
    exact ⟨OK3,g3,hs5,hx.trans hxx⟩
   ·by_cases hk1:k=1
    ·subst hk1
     rw [RN (by omega),RL rfl] at he
     subst he
     rw [show (gM r 1).pending=some .ret from rfl]
     exact wpIn_ret ⟨OK3,g3,hs5,hx.trans hxx⟩
    ·rw [RN hk0,RN hk1] at he
     subst he
     have:(gM r k).pending=some (.exit (k-2)):=by unfold gM; rw [RN hk0]; simp [hk1]
     split
     ·rename_i h; rw [this] at h; cases h
     ·rename_i c h
      rw [this] at h
      injection h with h; subst h
      exact wpIn_exit ⟨rfl,OK3,g3,hs5,hx.trans hxx⟩
  ·cases he
 ·cases he
theorem SRel.clear {a:Act} (mask:List Nat):∀ {σ:List AV},SRel E N vs base w OK g σ A a->SRel E N vs base w OK g (Go.Proofs.YtfkcoekicjjndaaGreat.clear mask σ) A a:=by
 induction mask with
 | nil=>intro σ h; exact h
 | cons i m ih=>
  intro σ h
  refine ih (σ:=σ.set i .undef) ⟨h.size,h.defers,h.low,by simp [h.len],fun k hk=>?_,h.arena,h.glob⟩
  by_cases e:i=k
  ·subst e
   simp [RO (show i<σ.length by rw [h.len]; exact hk),aN.undef]
  ·have:=h.vars k hk
   simpa [RC,RF e] using this
theorem yA {on:Bool} (hE:cM P E) (hvn:vs.Nodup) (hvl:∀t∈vs,t<N) {pu:List FuncId} (hpu:aW E pu) (fuel:Nat):∀(code:Code) (inR:Bool) (rd:Option Nat) (base n:Nat),(inR=false->rd=none)->∀(h:qX)
  (σ:List AV) (A:ac) (out:Out) (a:Act) (w:World) (OK:Nat->Prop) (g:aA),SRel E N vs base w OK g σ A a->evC E fuel (dA P N vs pu on inR code h).1 σ A=some out->code.wpIn (FW rd) n P (dB E N vs base w OK g out) a w:=by
 intro code
 induction code with
 | skip=>
  intro inR rd base n hrd h σ A out a w OK g hs he
  simp only [dA,evC,Ry] at he
  subst he
  exact wpIn_skip ⟨OK,g,hs,Ext.refl _ _ _⟩
 | label l=>
  intro inR rd base n hrd h σ A out a w OK g hs he
  simp only [dA,evC,Ry] at he
  subst he
  exact wpIn_label ⟨OK,g,hs,Ext.refl _ _ _⟩
 | region id ops draw=>
  intro inR rd base n hrd h σ A out a w OK g hs he
  cases draw with
  | true=>
   simp only [dA,SP] at he
   split at he
   ·rename_i hc
    rw [Sf] at hc
    split at he
    ·rename_i hp
     simp only [evC,RK] at he
     obtain ⟨⟨σ',A'⟩,he,rfl⟩:=he
     obtain ⟨fs,hfs⟩:=eM (pu:=pu) _ _ _ _ [] _ _ he
     exact gK hE hvn hvl hpu hc.1 hc.2 hs hfs (fun p hx=>by rw [hp] at hx; cases hx) (fun a1 w1 OK1 g1 k1 k2=>⟨OK1,g1,k1,k2⟩)
    ·rename_i x r hp
     simp only [evC] at he
     split at he
     ·rename_i σ' A' fs hfs
      simp only [Rz,Ry] at he
      obtain ⟨hall,rfl⟩:=he
      exact gK hE hvn hvl hpu hc.1 hc.2 hs hfs (fun p hx=>by rw [hp] at hx; exact RZ.1 hall p hx) (fun a1 w1 OK1 g1 k1 k2=>⟨OK1,g1,k1,k2⟩)
     ·cases he
   ·simp [evC] at he
  | false=>
   simp only [dA,Sa,S3,evC,RK] at he
   obtain ⟨⟨σ',A'⟩,he,rfl⟩:=he
   refine wpIn_region ?_
   have:=ob (on:=on) (rd:=rd) (n:=n) hE hvn hvl (Q:=dB E N vs base w OK g (.normal σ' A')) (fun a w' OK' g' k1 k2=>⟨OK',g',k1,k2⟩) ops.toList 0 [] σ [] A a w OK g rfl
    {hs with tlen:=rfl,temps:=fun j t hj=>by simp at hj,tok:=fun j t hj=>by simp at hj,tone:=fun j j' t hj=>by simp at hj} (Ext.refl _ _ _) he
   simpa [List.range_eq_range'] using this
 | seq x y ihx ihy=>
  intro inR rd base n hrd h σ A out a w OK g hs he
  simp only [dA,evC] at he
  cases hex:evC E fuel (dA P N vs pu on inR x h).1 σ A with
  | none=>rw [hex] at he; cases he
  | some o1=>
   rw [hex] at he
   refine wpIn_seq (wpIn_mono (ihx inR rd base n hrd h σ A o1 a w OK g hs hex) ?_)
   intro e a1 w1 hq
   cases o1 with
   | normal σ1 A1=>
    cases e <;> simp only [dB] at hq
    obtain ⟨OK1,g1,hs1,hx1⟩:=hq
    exact wpIn_mono (ihy inR rd base n hrd _ σ1 A1 out a1 w1 OK1 g1 hs1 he) (fun e a w hq=>hq.pre hx1)
   | exit id σ1 A1=>
    simp only [Ry] at he
    subst he
    cases e <;> simp only [dB] at hq
    exact hq
   | ret σ1 A1=>
    simp only [Ry] at he
    subst he
    cases e <;> simp only [dB] at hq
    exact hq
 | cond c x y ihx ihy=>
  intro inR rd base n hrd h σ A out a w OK g hs he
  simp only [dA] at he
  split at he
  ·rename_i mcx hcx
   simp only [evC] at he
   have hrr:iO E N vs base w OK g σ [] [] A a:={hs with tlen:=rfl,temps:=fun j t hj=>by simp at hj,tok:=fun j t hj=>by simp at hj,tone:=fun j j' t hj=>by simp at hj}
   have hv:=hrr.eval c mcx hcx
   split at he
   ·rename_i t ht
    rw [ht] at hv
    refine wpIn_cond (t:=t) hv.inv_bool ?_
    cases t
    ·exact ihy inR rd base n hrd _ σ A out a w OK g hs (by simpa using he)
    ·exact ihx inR rd base n hrd _ σ A out a w OK g hs (by simpa using he)
   ·cases he
  ·simp [evC] at he
 | block id x ih=>
  intro inR rd base n hrd h σ A out a w OK g hs he
  have hplain:∀out,evC E fuel (.block id (dA P N vs pu on inR x h).1) σ A=some out->(Code.block id x).wpIn (FW rd) n P (dB E N vs base w OK g out) a w:=by
   clear he
   intro out he
   simp only [evC] at he
   cases hex:evC E fuel (dA P N vs pu on inR x h).1 σ A with
   | none=>rw [hex] at he; cases he
   | some o1=>
    rw [hex] at he
    refine wpIn_block (wpIn_mono (ih inR rd base n hrd h σ A o1 a w OK g hs hex) ?_)
    intro e a1 w1 hq
    cases o1 with
    | normal σ1 A1=>
     simp only [Ry] at he
     subst he
     cases e <;> simp only [dB] at hq
     exact hq
    | exit id' σ1 A1=>
     cases e <;> simp only [dB] at hq
     rename_i id2
     obtain ⟨rfl,hq⟩:=hq
     simp only [Exit.inBlock]
     replace he:(if id'=id then some (Out.normal σ1 A1) else some (Out.exit id' σ1 A1))=some out:=he
     split at he
     ·rename_i hid
      injection he with he; subst he
      rw [RL hid]; exact hq
     ·rename_i hid
      injection he with he; subst he
      rw [RN hid]; exact ⟨rfl,hq⟩
    | ret σ1 A1=>
     simp only [Ry] at he
     subst he
     cases e <;> simp only [dB] at hq
     exact hq
  simp only [dA] at he
  split at he
  ·exact hplain out he
  ·rename_i m r hmr
   simp only [evC] at he hplain
   split at he
   ·rename_i σ1 A1 hb
    injection he with he; subst he
    refine wpIn_mono (hplain _ hb) ?_
    intro e a1 w1 hq
    cases e <;> simp only [dB] at hq
    obtain ⟨OK1,g1,hs1,hx1⟩:=hq
    exact ⟨OK1,g1,hs1.clear m,hx1⟩
   ·exact hplain out he
 | loop x ih=>
  intro inR rd base n hrd h σ A out a w OK g hs he
  simp only [dA,evC] at he
  refine wpIn_loop_ghost (fun k a' w'=>∃ σ' A' OK' g',SRel E N vs base w' OK' g' σ' A' a'/\Ext w OK g w' OK' g'/\cc (evC E fuel (dA P N vs pu on inR x (h.1.tail,h.2)).1) (h.1.headD []) k σ' A'=some out) fuel ⟨σ,A,OK,g,hs,Ext.refl _ _ _,he⟩ ?_
  rintro k a' w' ⟨σ',A',OK',g',hs',hx',hit⟩
  cases k with
  | zero=>cases hit
  | succ k=>
   simp only [cc] at hit
   cases hex:evC E fuel (dA P N vs pu on inR x (h.1.tail,h.2)).1 (clear (h.1.headD []) σ') A' with
   | none=>rw [hex] at hit; cases hit
   | some o1=>
    rw [hex] at hit
    refine wpIn_mono (ih inR rd base n hrd (h.1.tail,h.2) _ A' o1 a' w' OK' g' (hs'.clear _) hex) ?_
    intro e a1 w1 hq
    cases o1 with
    | normal σ1 A1=>
     cases e <;> simp only [dB] at hq
     obtain ⟨OK1,g1,hs1,hx1⟩:=hq
     exact ⟨k,Nat.lt_succ_self k,σ1,A1,OK1,g1,hs1,hx'.trans hx1,hit⟩
    | exit id σ1 A1=>
     simp only [Ry] at hit
     subst hit
     cases e <;> simp only [dB] at hq
     exact dB.pre (out:=.exit id σ1 A1) (e:=.exit _) hx' hq
    | ret σ1 A1=>
     simp only [Ry] at hit
     subst hit
     cases e <;> simp only [dB] at hq
     exact dB.pre (out:=.ret σ1 A1) (e:=.ret) hx' hq
 | exit id=>
  intro inR rd base n hrd h σ A out a w OK g hs he
  simp only [dA,evC,Ry] at he
  subst he
  exact wpIn_exit ⟨rfl,OK,g,hs,Ext.refl _ _ _⟩
 | scope x ih=>
  intro inR rd base n hrd h σ A out a w OK g hs he
  simp only [dA,evC] at he
  refine sS (ih inR rd base n hrd h σ A out a w OK g hs he) (fun l a w hq=>?_)
  cases out <;> exact hq
 | ret=>
  intro inR rd base n hrd h σ A out a w OK g hs he
  simp only [dA,evC,Ry] at he
  subst he
  exact wpIn_ret ⟨OK,g,hs,Ext.refl _ _ _⟩
 | rangeFunc f ps x y ihx ihy=>
  intro inR rd base n hrd h σ A out a w OK g hs he
  simp only [dA] at he
  split at he
  ·rename_i z is hz his
   obtain rfl:=hrd rfl
   simp only [evC] at he
   exact nJ hE hvn hvl hz his (fun l m σ A out a w OK g hs he=>ihx true (some l) 0 m (fun h=>by cases h) _ σ A out a w OK g hs he)
    (fun l m σ A out a w OK g hs he=>ihy true (some l) 0 m (fun h=>by cases h) _ σ A out a w OK g hs he) hs he
  ·simp [evC] at he
 | _=>
  intro inR rd base n hrd h σ A out a w OK g hs he
  simp [dA,evC] at he
end
def frz (A:ac):Nat->AV->AV
 | 0,.agg _=>.undef
 | 0,.tup _=>.undef
 | 0,.sl ..=>.undef
 | 0,.ptr ..=>.undef
 | 0,.func ..=>.undef
 | 0,.iface ..=>.undef
 | n+1,.agg cs=>.agg (cs.map (frz A n))
 | n+1,.tup cs=>.tup (cs.map (frz A n))
 | n+1,.sl id off len=>match A[id]? with
  | some (.row s _ es)=>.fs s (((es.drop off).take len).map (frz A n))
  | _=>.undef
 | n+1,.csl id off len=>match A[id]? with
  | some (.row s _ es)=>.fs s (((es.drop off).take len).map (frz A n))
  | _=>.undef
 | n+1,.ptr id i o=>match A[id]? with
  | some (.row _ _ es)=>match es[i]? with
   | some e=>if e.solid=true/\o<(cellsOf e).length then .fp (((cellsOf e).drop o).map (frz A n)) else .undef
   | none=>.undef
  | _=>.undef
 | n+1,.func fn c1 c2=>.func fn (c1.map (frz A n)) (c2.map (frz A n))
 | n+1,.iface t v=>.iface t (frz A n v)
 | _,.map _=>.undef
 | 0,.csl ..=>.undef
 | _,a=>a
section
variable {P:Program} {w:World} {OK OK2:Nat->Prop} {g:aA} {A:ac}
theorem kz (hA:bZ w OK g A) (h1:∀b,OK b->OK2 b) (h2:∀id inc,A[id]?≠some .dead->inc∈g id->OK2 inc.b):∀(n:Nat) (a:AV) (v:Value),aN w OK g v a->aN w OK2 aA.none v (frz A n a):=by
 have up:∀ {v:Value} {a:AV},aN w OK aA.none v a->aN w OK2 aA.none v a:=fun h=>h.mono h1 (fun _ _=>rfl) _ (aA.le_refl _)
 intro n
 induction n with
 | zero=>
  intro a v h
  cases a <;> simp only [frz] <;> first
   | exact .undef _ _
   | (have e:=h.inv_bool; rw [e]; exact .bool _ _)
   | (have e:=h.inv_int; rw [e]; exact .int _ _ _)
   | (obtain ⟨s,e,hs⟩:=h.inv_str; rw [e]; exact .str _ _ _ hs)
   | (obtain ⟨p,e⟩:=h.inv_nilS; rw [e]; exact .nilS _ _)
   | (have e:=h.inv_nilP; rw [e]; exact .nilP _)
   | (have e:=h.inv_nilM; rw [e]; exact .nilM _)
   | (cases h; exact .nilF _)
   | (cases h; exact .nilI _)
   | (obtain ⟨b,o,cap,T,c,fz,vals,e,hb,hh,hcap,hv,hs,hc⟩:=h.inv_fs; rw [e]; exact .fs _ b o cap _ T c fz _ vals (h1 _ hb) hh hcap (fun i hi=>up (hv i hi)) hs hc)
   | (obtain ⟨b,o,T,c,fz,vals,e,hb,hh,hne,hv,hc⟩:=h.inv_fp; rw [e]; exact .fp _ b o T c fz _ vals (h1 _ hb) hh hne (fun i hi=>up (hv i hi)) hc)
 | succ n ih=>
  intro a v h
  cases a <;> simp only [frz] <;> try first
   | exact .undef _ _
   | (have e:=h.inv_bool; rw [e]; exact .bool _ _)
   | (have e:=h.inv_int; rw [e]; exact .int _ _ _)
   | (obtain ⟨s,e,hs⟩:=h.inv_str; rw [e]; exact .str _ _ _ hs)
   | (obtain ⟨p,e⟩:=h.inv_nilS; rw [e]; exact .nilS _ _)
   | (have e:=h.inv_nilP; rw [e]; exact .nilP _)
   | (have e:=h.inv_nilM; rw [e]; exact .nilM _)
   | (cases h; exact .nilF _)
   | (cases h; exact .nilI _)
   | (obtain ⟨b,o,cap,T,c,fz,vals,e,hb,hh,hcap,hv,hs,hc⟩:=h.inv_fs; rw [e]; exact .fs _ b o cap _ T c fz _ vals (h1 _ hb) hh hcap (fun i hi=>up (hv i hi)) hs hc)
   | (obtain ⟨b,o,T,c,fz,vals,e,hb,hh,hne,hv,hc⟩:=h.inv_fp; rw [e]; exact .fp _ b o T c fz _ vals (h1 _ hb) hh hne (fun i hi=>up (hv i hi)) hc)
  case sl id off len=>
   split
   ·rename_i s gr es hid
    obtain ⟨inc,cap,ao,hinc,rfl,hl,hn,hcap,ha⟩:=h.inv_sl
    obtain ⟨hlt',hrow⟩:=Rx.1 hid
    have hent:=hA.ent id hlt'
    rw [hrow] at hent
    obtain ⟨hesz,hne,hnc,c,T,fz,hh,hu,hcs,hel⟩:=hent.2 inc hinc
    have hlen:(((es.drop off).take len).map (frz A n)).length=len:=by simp; omega
    obtain ⟨vals,hvals⟩:∃vals:Nat->Value,∀i (hi:i<len),aN w OK g (vals i) (es[off+i]'(by omega))/\(vals i).cells.size=s/\cj (vals i)/\∀j,j<s->c[inc.o+(off+i)*s+j]?=(vals i).cells[j]?:=
     ⟨fun i=>if hi:i<len then (hel (off+i) (by omega) (by omega)).choose else undef,fun i hi=>by simp only [hi,UE]; exact (hel (off+i) (by omega) (by omega)).choose_spec⟩
    have:=aN.fs (w:=w) (OK:=OK2) aA.none inc.b ao cap s T c fz (((es.drop off).take len).map (frz A n)) vals (h2 id inc (by rw [hid]; simp) hinc) hh (by omega)
     (fun i hi=>by simp only [Sv,SI,SB]; exact ih _ _ (hvals i (by omega)).1)
     (fun i hi=>⟨(hvals i (by omega)).2.1,(hvals i (by omega)).2.2.1⟩)
     (fun i hi j hj=>by
      rw [<-(hvals i (by omega)).2.2.2 j hj,ha (by omega),hesz]
      congr 1; rw [RU]; omega)
    rwa [hlen] at this
   ·exact .undef _ _
  case csl id off len=>
   split
   ·rename_i s gr es hid
    obtain ⟨inc,ao,hinc,rfl,hn,hcap,ha⟩:=h.inv_csl
    obtain ⟨hlt',hrow⟩:=Rx.1 hid
    have hent:=hA.ent id hlt'
    rw [hrow] at hent
    obtain ⟨hesz,hne,hnc,c,T,fz,hh,hu,hcs,hel⟩:=hent.2 inc hinc
    have hlen:(((es.drop off).take len).map (frz A n)).length=len:=by simp; omega
    obtain ⟨vals,hvals⟩:∃vals:Nat->Value,∀i (hi:i<len),aN w OK g (vals i) (es[off+i]'(by omega))/\(vals i).cells.size=s/\cj (vals i)/\∀j,j<s->c[inc.o+(off+i)*s+j]?=(vals i).cells[j]?:=
     ⟨fun i=>if hi:i<len then (hel (off+i) (by omega) (by omega)).choose else undef,fun i hi=>by simp only [hi,UE]; exact (hel (off+i) (by omega) (by omega)).choose_spec⟩
    have:=aN.fs (w:=w) (OK:=OK2) aA.none inc.b ao len s T c fz (((es.drop off).take len).map (frz A n)) vals (h2 id inc (by rw [hid]; simp) hinc) hh (by omega)
     (fun i hi=>by simp only [Sv,SI,SB]; exact ih _ _ (hvals i (by omega)).1)
     (fun i hi=>⟨(hvals i (by omega)).2.1,(hvals i (by omega)).2.2.1⟩)
     (fun i hi j hj=>by
      rw [<-(hvals i (by omega)).2.2.2 j hj,ha (by omega),hesz]
      congr 1; rw [RU]; omega)
    rwa [hlen] at this
   ·exact .undef _ _
  case ptr id i o=>
   split
   ·rename_i s gr es hid
    split
    ·rename_i e he
     split
     ·rename_i hc
      obtain ⟨hsol,ho⟩:=hc
      obtain ⟨inc,hinc,rfl,hn,ho'⟩:=h.inv_ptr
      obtain ⟨hlt',hrow⟩:=Rx.1 hid
      obtain ⟨hi',rfl⟩:=Rx.1 he
      have hent:=hA.ent id hlt'
      rw [hrow] at hent
      obtain ⟨hesz,hne,hnc,c,T,fz,hh,hu,hcs,hel⟩:=hent.2 inc hinc
      obtain ⟨v,hv,hvs,hok,hc⟩:=hel i hi' hn
      obtain ⟨k1,k2,k3⟩:=hv.cells hsol
      obtain ⟨f,hf⟩:∃f:Nat->Value,∀j (hj:j<(cellsOf es[i]).length),v.cells[j]?=some (f j)/\(f j).oneCell'=true/\aN w OK g (f j) (cellsOf es[i])[j]:=
       ⟨fun j=>(v.cells[j]?).getD undef,fun j hj=>by
        obtain ⟨x,a1,a2,a3⟩:=k3 j hj
        simp only [a1,So]
        exact ⟨trivial,a2,a3⟩⟩
      refine .fp _ inc.b _ T c fz _ (fun j=>f (o+j)) (h2 id inc (by rw [hid]; simp) hinc) hh (by simp; omega) (fun j hj=>?_) (fun j hj=>?_)
      ·simp only [Sv,SB]
       exact ih _ _ (hf (o+j) (by simp at hj; omega)).2.2
      ·have hj':o+j<(cellsOf es[i]).length:=by simp at hj; omega
       refine ⟨?_,(hf (o+j) hj').2.1⟩
       rw [hesz,Tu,hc (o+j) (by omega)]
       exact (hf (o+j) hj').1
     ·exact .undef _ _
    ·exact .undef _ _
   ·exact .undef _ _
  case agg cs=>
   obtain ⟨vs,vals,rfl,hl,hg,hv⟩:=h.inv_agg
   exact .agg _ vs _ (by simpa using hl) vals (fun i hi=>hg i (by simpa using hi)) (fun i hi=>by simp only [Sv]; exact ih _ _ (hv i (by simpa using hi)))
  case tup cs=>
   obtain ⟨vs,vals,rfl,hl,hg,hv⟩:=h.inv_tup
   exact .tup _ vs _ (by simpa using hl) vals (fun i hi=>hg i (by simpa using hi)) (fun i hi=>by simp only [Sv]; exact ih _ _ (hv i (by simpa using hi)))
  case func fn c1 c2=>
   obtain ⟨vs1,vs2,vals1,vals2,rfl,hl1,hl2,hg1,hg2,hv1,hv2⟩:=h.inv_func
   exact .func _ fn vs1 vs2 _ _ (by simpa using hl1) (by simpa using hl2) vals1 vals2 (fun i hi=>hg1 i (by simpa using hi)) (fun i hi=>hg2 i (by simpa using hi))
    (fun i hi=>by simp only [Sv]; exact ih _ _ (hv1 i (by simpa using hi))) (fun i hi=>by simp only [Sv]; exact ih _ _ (hv2 i (by simpa using hi)))
  case iface t x=>
   cases h with
   | iface _ t v a hv=>exact .iface _ t v _ (ih _ _ hv)
end
inductive K7 where
 | tmp (i:Nat)
 | cell (i:Nat) (agg:Bool) (size:Nat)
structure bM where
 n:Nat
 len:Nat
 mc:MC
 res:List K7
def jI (P:Program) (vs:List Nat):List ResultVar->Option (List K7)
 | []=>some []
 | .tmp t :: r=>match vs.idxOf? t,jI P vs r with
  | some i,some l=>some (.tmp i :: l)
  | _,_=>none
 | .cell a t :: r=>match vs.idxOf? a,P.info? t,fe P t,jI P vs r with
  | some i,some ti,some b,some l=>some (.cell i b ti.size :: l)
  | _,_,_,_=>none
def uL:List Nat->Bool
 | []=>true
 | x :: r=>!r.contains x && uL r
def aB (P:Program) (fn:Func) (n:Nat) (vs:List Nat) (pu:List FuncId) (on:Bool) (hints:qX):Option bM:=
 match fn.body with
 | some c=>match jI P vs fn.results.toList with
  | some rs=>if uL vs && vs.all (· < fn.ntmps) && vs.take n == List.range n && Nat.ble n fn.ntmps && !(fn.name == "runtime.NumGoroutine") then some ⟨n,vs.length,(dA P fn.ntmps vs pu on false c hints).1,rs⟩ else none
  | none=>none
 | none=>none
def dV (A:ac) (σ:List AV):List K7->Option (List AV)
 | []=>some []
 | .tmp i :: r=>(dV A σ r).map (σ.getD i .undef :: ·)
 | .cell i b s :: r=>match af b s A (σ.getD i .undef),dV A σ r with
  | some a,some l=>some (a :: l)
  | _,_=>none
def dw:List AV->AV
 | [a]=>a
 | l=>.tup l
def bp (E:Env) (fuel:Nat) (mf:bM) (args:List AV) (A:ac):Option (AV × ac):=
 if args.length=mf.n then
  match evC E fuel mf.mc (args++List.replicate (mf.len-mf.n) .undef) A with
  | some (.normal σ A')=>(dV A' σ mf.res).map fun l=>(dw l,A')
  | some (.ret σ A')=>(dV A' σ mf.res).map fun l=>(dw l,A')
  | _=>none
 else none
def ak (P:Program) (G:Nat->Option (List AV)) (f:FuncId) (M:aR->List AV->ac->Option (AV × ac)):Prop:=
 Enters P f/\∀ys h,gA P G ys h->∀args A r A',M h args A=some (r,A')->∀(w:World) (OK:Nat->Prop) (g:aA) (vs:List Value),bZ w OK g A->wy G ys w OK g->bH w OK g vs args ->
  Calls P f vs.toArray w fun e w'=>∃v OK' g',e=.returned v/\aN w' OK' g' v r/\bZ w' OK' g' A'/\Ext w OK g w' OK' g'
def fq (P:Program) (G:Nat->Option (List AV)) (f:FuncId) (M:List AV->ac->Option (AV × ac)):Prop:=
 Enters P f/\∀args A r A',M args A=some (r,A')->∀(w:World) (OK:Nat->Prop) (g:aA) (vs:List Value),bZ w OK g A->zX G w OK->bH w OK g vs args ->
  Calls P f vs.toArray w fun e w'=>∃v OK' g',e=.returned v/\aN w' OK' g' v r/\bZ w' OK' g' A'/\Ext w OK g w' OK' g'
theorem fq.y {M:List AV->ac->Option (AV × ac)} (h:fq P G f M):ak P G f (fun _=>M):=
 ⟨h.1,fun _ _ _ args A r A' he w OK g vs hA hI hl=>h.2 args A r A' he w OK g vs hA hI.1 hl⟩
section
variable {P:Program} {E:Env}
theorem pH:∀ {l:List Nat},uL l=true->l.Nodup
 | [],_=>List.nodup_nil
 | x :: r,h=>by
  simp only [uL,Sf,Sy,List.contains_eq_mem,Tk] at h
  exact List.nodup_cons.2 ⟨h.1,pH h.2⟩
def ro (tmps:Array Value):ResultVar->Sem Value
 | .tmp t=>pure (tmps.getD t undef)
 | .cell a t=>do loadVar t (<-asAddr (tmps.getD a undef))
theorem gt {N:Nat} {base:Nat} {a:Act} (h:SRel E N vs base w OK g σ A a) :
  ∀(rs:List ResultVar) (ms:List K7) (l:List AV),jI P vs rs=some ms->dV A σ ms=some l ->
   ∃us:List Value,bH w OK g us l/\(rs.mapM (ro a.tmps)).run P w=.ok us w
 | [],ms,l,hc,he=>by
  injection hc with hc; subst hc
  injection he with he; subst he
  exact ⟨[],trivial,rfl⟩
 | .tmp t :: r,ms,l,hc,he=>by
  simp only [jI] at hc
  split at hc
  ·rename_i i l' hi hl'
   injection hc with hc; subst hc
   simp only [dV,RK] at he
   obtain ⟨l2,h2,rfl⟩:=he
   obtain ⟨us,k1,k2⟩:=gt h r l' l2 hl' h2
   obtain ⟨hlt,het⟩:=SK.1 hi |> fun h=>(⟨h.1,h.2.1⟩:∃h:i<vs.length,vs[i]=t)
   refine ⟨a.tmps.getD t undef :: us,⟨by rw [<-het]; exact h.vars i hlt,k1⟩,?_⟩
   simp [List.mapM_cons,ro,k2]
  ·cases hc
 | .cell x t :: r,ms,l,hc,he=>by
  simp only [jI] at hc
  split at hc
  ·rename_i i ti b l' hi hti hb hl'
   injection hc with hc; subst hc
   simp only [dV] at he
   split at he
   ·rename_i y l2 h1 h2
    injection he with he; subst he
    obtain ⟨us,k1,k2⟩:=gt h r l' l2 hl' h2
    obtain ⟨hlt,het⟩:=SK.1 hi |> fun h=>(⟨h.1,h.2.1⟩:∃h:i<vs.length,vs[i]=x)
    have hv:=h.vars i hlt
    rw [het] at hv
    obtain ⟨u,e1,e2⟩:=l9 hti hb h.arena hv h1
    refine ⟨u :: us,⟨e2,k1⟩,?_⟩
    have e1':(ro a.tmps (.cell x t)).run P w=.ok u w:=by
     have hp:∃ad,a.tmps.getD x undef=.pointer (some ad):=by
      generalize σ.getD i .undef=y1 at h1 hv
      cases y1 <;> first | (simp [af] at h1; done) | (obtain ⟨inc,_,e,_⟩:=hv.inv_ptr; exact ⟨_,e⟩) | (obtain ⟨b,o,T,c,fz,vals,e,_⟩:=hv.inv_fp; exact ⟨_,e⟩)
     obtain ⟨ad,hp⟩:=hp
     rw [hp] at e1
     simp only [ro,hp]
     exact e1
    simp [List.mapM_cons,e1',k2]
   ·cases he
  ·cases hc
theorem bZ.putFree (h:bZ w OK g A) {D:Nat} (h1:¬ OK D) (h2:∀id inc,inc∈g id->inc.b≠D) (o:Obj):bZ (w.putObj D o) OK g A where
 ent id hi:=(h.ent id hi).mono (fun _ h=>h) (fun b hb=>World.putObj_heap_other (fun e=>h1 (e ▸ hb))) g.le_refl (fun inc hin=>World.putObj_heap_other (h2 id inc hin))
 out:=h.out
 one:=h.one
 apart:=h.apart
 low id inc hi:=by simpa using h.low id inc hi
 ok b hb:=by simpa using h.ok b hb
theorem mH.put {base:Nat} {D:Nat} (o:Obj):∀ {l:List Deferred},(∀d'∈l,d'≠⟨.collected D,#[]⟩)->mH base w OK g l->mH base (w.putObj D o) OK g l
 | [],_,_=>trivial
 | d :: r,hd,⟨⟨D',h1,h2,h3,h4,h5,h6⟩,hr⟩=>
  ⟨⟨D',h1,h2,(World.putObj_heap_other (fun e=>hd d (by simp) (by rw [h1,e]))).trans h3,h4,h5,h6⟩,mH.put o (fun d' h=>hd d' (by simp [h])) hr⟩
theorem lT {N:Nat} {fn:Func} {mrs:List K7} {w0:World} {OK0:Nat->Prop} {g0:aA} {l:List AV} {tm:Array Value} {R:Ending->World->Prop}
  (hcr:jI P vs fn.results.toList=some mrs) (hl:dV A σ mrs=some l)
  (hR:∀v w OK g,aN w OK g v (dw l)->bZ w OK g A->Ext w0 OK0 g0 w OK g->R (.returned v) w) :
  ∀(ds:List Deferred) (w:World) (OK:Nat->Prop) (g:aA),SRel E N vs w0.heap.size w OK g σ A {tmps:=tm,defers:=ds}->Ext w0 OK0 g0 w OK g->LeavesInM Fence.wide 0 P fn tm R ds .returning w
 | [],w,OK,g,hs,hx=>by
  obtain ⟨us1,k1,k2⟩:=gt hs fn.results.toList mrs l hcr hl
  refine ⟨if h:us1.toArray.size=1 then us1.toArray[0] else .tuple us1.toArray,?_,hR _ w OK g ?_ hs.arena hx⟩
  ·show (do
    let vs <-fn.results.mapM (ro tm)
    pure (if h:vs.size=1 then vs[0] else .tuple vs):Sem Value).run P w=_
   rw [Array.mapM_eq_mapM_toList]
   simp [k2]
  ·have hlen:=k1.length
   match us1,l,k1 with
   | [],[],k1=>exact .tup _ _ [] rfl (fun _=>undef) (fun i hi=>by simp at hi) (fun i hi=>by simp at hi)
   | [u],[a1],k1=>exact k1.1
   | u1 :: u2 :: ur,a1 :: a2 :: ar,k1=>
    have:¬ (u1 :: u2 :: ur).toArray.size=1:=by simp
    rw [dif_neg this]
    refine .tup _ _ _ (by simpa using hlen) (fun i=>(u1 :: u2 :: ur).getD i undef) (fun i hi=>?_) (fun i hi=>?_)
    ·have:i<(u1 :: u2 :: ur).length:=by simp at hlen hi ⊢; omega
     rw [SY,RD this]
     simp [RD this]
    ·have:i<(u1 :: u2 :: ur).length:=by simp at hlen hi ⊢; omega
     have:=k1.get i this hi
     simpa [RC,RD ‹i<(u1 :: u2 :: ur).length›] using this
 | d :: ds,w,OK,g,hs,hx=>by
  obtain ⟨⟨D,rfl,h2,h3,h4,h5,h6⟩,hr⟩:=hs.defers
  refine ⟨by simp,.inl ⟨D,w.putObj D (.deferred none),rfl,run_takeDeferred h3,?_⟩⟩
  have hok:∀b,OK b->(w.putObj D (.deferred none)).heap[b]?=w.heap[b]?:=fun b hb=>World.putObj_heap_other (fun e=>h4 (e ▸ hb))
  have hm:∀ {v:Value} {a:AV},aN w OK g v a->aN (w.putObj D (.deferred none)) OK g v a:=fun h=>h.mono (fun _ h=>h) hok g g.le_refl
  refine lT hcr hl hR ds _ OK g ⟨hs.size,hr.put _ h6,by simpa using hs.low,hs.len,fun i hi=>hm (hs.vars i hi),hs.arena.putFree h4 h5 _,
   ⟨hs.glob.1.mono (fun _ h=>h) hok,fun y hy=>⟨(hs.glob.2 y hy).1,(hs.glob.2 y hy).2.mono fun _ _ hv=>hm hv⟩⟩⟩ ?_
  exact {
      os:=hx.os,tape:=hx.tape,output:=hx.output,size:=by simpa using hx.size,blk:=fun b hb hu=>(World.putObj_heap_other (by omega)).trans (hx.blk b hb hu),gle:=hx.gle,okle:=hx.okle,fresh:=hx.fresh,okf:=hx.okf,
      loops:=fun b r hb hbusy=>(World.putObj_heap_other (by have:=(Sk.1 hb).1; omega)).trans (hx.loops b r hb hbusy),fix:=hx.fix}
theorem jE (hE:cM P E) {fn:Func} {n:Nat} {mf:bM} (hf:P.funcs[f]?=some fn) (hc:aB P fn n vs pu on hints=some mf) (hpu:aW E pu) :
  Enters P f/\∀args A r A',bp E fuel mf args A=some (r,A')->∀(w:World) (OK:Nat->Prop) (g:aA) (us:List Value),bZ w OK g A->wy E.glob E.ys w OK g->bH w OK g us args ->
  Calls P f us.toArray w fun e w'=>∃v OK' g',e=.returned v/\aN w' OK' g' v r/\bZ w' OK' g' A'/\Ext w OK g w' OK' g':=by
 unfold aB at hc
 split at hc
 ·rename_i c hb
  split at hc
  ·rename_i rs hcr
   split at hc
   ·rename_i hck
    injection hc with hc; subst hc
    simp only [Sf,Sy,RZ,Sq,S9] at hck
    obtain ⟨⟨⟨⟨h1,h2⟩,h3⟩,h4⟩,h5⟩:=hck
    have h4:n<=fn.ntmps:=Nat.le_of_ble_eq_true h4
    refine ⟨enters_of hf h5 hb,?_⟩
    intro args A r A' he w OK g us hA hG hl
    unfold bp at he
    split at he
    ·rename_i hlen
     simp only at hlen
     have hul:=hl.length
     have hvn:=pH h1
     have hnv:n<=vs.length:=by
      have:=T3 List.length h3
      simp at this; omega
     have hvi:∀i (hi:i<n),vs[i]'(by omega)=i:=fun i hi=>by
      have:=T3 (fun l=>l[i]?) h3
      simp [hi] at this
      have h':i<vs.length:=by omega
      simpa [h'] using this
     have hs0:SRel E fn.ntmps vs w.heap.size w OK g (args++List.replicate (vs.length-n) .undef) A {tmps:=us.toArray++Array.replicate (fn.ntmps-us.toArray.size) undef,defers:=[]}:=by
      refine ⟨by simp; omega,trivial,RT _,by simp; omega,fun i hi=>?_,hA,hG⟩
      rcases Ta i n with hlt | hge
      ·have e1:=hvi i hlt
       rw [e1]
       have:i<us.length:=by omega
       have e2:(us.toArray++Array.replicate (fn.ntmps-us.toArray.size) undef).getD i undef=us[i]:=by
        simp [Array.getElem?_append,this]
       have e3:(args++List.replicate (vs.length-n) AV.undef).getD i .undef=args[i]'(by omega):=by
        simp [SN,show i<args.length by omega]
       rw [e2,e3]
       exact hl.get i this (by omega)
      ·have e3:(args++List.replicate (vs.length-n) AV.undef).getD i .undef=.undef:=by
        simp [SN,show ¬ i<args.length by omega,S6]
        split <;> rfl
       rw [e3]; exact .undef _ _
     have fin:∀(out:Out) (σ:List AV),evC E fuel (dA P fn.ntmps vs pu on false c hints).1 (args++List.replicate (vs.length-n) .undef) A=some out->(out=.normal σ A'\/out=.ret σ A')->(∃l,dV A' σ rs=some l/\dw l=r) ->
       Calls P f us.toArray w fun e w'=>∃v OK' g',e=.returned v/\aN w' OK' g' v r/\bZ w' OK' g' A'/\Ext w OK g w' OK' g':=by
      intro out σ hev hout ⟨l,hl1,hl2⟩
      have hw:=yA hE hvn h2 hpu fuel c false none w.heap.size 0 (fun _=>rfl) hints _ A out _ w OK g hs0 hev
      refine callsIn_wide (n:=0).1 (callsIn_of_wp_marks (F:=Fence.wide) hf hb trivial (wpIn_mono hw ?_))
      intro e a w1 hq
      have key:∀OK1 g1,SRel E fn.ntmps vs w.heap.size w1 OK1 g1 σ A' a->Ext w OK g w1 OK1 g1 ->
        LeavesInM Fence.wide 0 P fn a.tmps (fun e w'=>∃v OK' g',e=.returned v/\aN w' OK' g' v r/\bZ w' OK' g' A'/\Ext w OK g w' OK' g') a.defers .returning w1:=by
       intro OK1 g1 hs1 hx1
       exact lT hcr hl1 (fun v w' OK' g' k1 k2 k3=>⟨v,OK',g',rfl,hl2 ▸ k1,k2,k3⟩) a.defers w1 OK1 g1 hs1 hx1
      rcases hout with rfl | rfl
      ·cases e <;> simp only [dB] at hq
       obtain ⟨OK1,g1,q1,q2⟩:=hq
       exact key OK1 g1 q1 q2
      ·cases e <;> simp only [dB] at hq
       obtain ⟨OK1,g1,q1,q2⟩:=hq
       exact key OK1 g1 q1 q2
     simp only at he
     split at he
     ·rename_i σ A1 hev
      simp only [RK,RP] at he
      obtain ⟨l,e1,e2,rfl⟩:=he
      exact fin _ σ hev (.inl rfl) ⟨l,e1,e2⟩
     ·rename_i σ A1 hev
      simp only [RK,RP] at he
      obtain ⟨l,e1,e2,rfl⟩:=he
      exact fin _ σ hev (.inr rfl) ⟨l,e1,e2⟩
     ·cases he
    ·cases he
   ·cases hc
  ·cases hc
 ·cases hc
theorem yz (ys':List Yld) (σ T:List AV) (x:MX):evX {E with ys:=ys'} σ T x=evX E σ T x:=by cases x <;> rfl
theorem vf (ys':List Yld):∀(l:List MO) (σ T:List AV) (A:ac),dM {E with ys:=ys'} l σ T A=dM E l σ T A
 | [],σ,T,A=>rfl
 | o :: l,σ,T,A=>by
  have hx:evX {E with ys:=ys'} σ T=evX E σ T:=funext fun x=>yz ys' σ T x
  have hs:∀(ρ:MX->AV) (m:MOp),aQ {E with ys:=ys'} ρ A m=aQ E ρ A m:=fun ρ m=>by cases m <;> rfl
  simp only [dM,hx,hs,vf ys' l]
theorem rW (ys':List Yld) (pu:List FuncId):∀(l:List MO) (σ T:List AV) (A:ac) (fs:List ez),dq {E with ys:=ys'} pu l σ T A fs=dq E pu l σ T A fs
 | [],σ,T,A,fs=>rfl
 | o :: l,σ,T,A,fs=>by
  have hx:evX {E with ys:=ys'} σ T=evX E σ T:=funext fun x=>yz ys' σ T x
  have hs:∀(ρ:MX->AV) (m:MOp),aQ {E with ys:=ys'} ρ A m=aQ E ρ A m:=fun ρ m=>by cases m <;> rfl
  have hf:∀(ρ:MX->AV) (m:MOp),bK {E with ys:=ys'} pu ρ A m=bK E pu ρ A m:=fun ρ m=>by cases m <;> rfl
  simp only [dq,hx,hs,hf,rW ys' pu l]
theorem J3 (ys':List Yld) (fuel:Nat):∀c:MC,evC {E with ys:=ys'} fuel c=evC E fuel c:=by
 intro c
 have hx:∀ σ T,evX {E with ys:=ys'} σ T=evX E σ T:=fun σ T=>funext fun x=>yz ys' σ T x
 induction c with
 | region ops=>funext σ A; simp only [evC,vf]
 | regionD pu ops pairs=>funext σ A; simp only [evC,rW]
 | seq a b iha ihb=>funext σ A; simp only [evC,iha,ihb]
 | cond c a b iha ihb=>funext σ A; simp only [evC,iha,ihb,hx]
 | block id a iha=>funext σ A; simp only [evC,iha]
 | loop mask a iha=>funext σ A; simp only [evC,iha]
 | rangeFunc f ps a b iha ihb=>funext σ A; simp only [evC,iha,ihb,hx]
 | scope a iha=>funext σ A; simp only [evC,iha]
 | _=>rfl
theorem Bg (ys':List Yld) (fuel:Nat) (mf:bM) (args:List AV) (A:ac):bp {E with ys:=ys'} fuel mf args A=bp E fuel mf args A:=by
 unfold bp; simp only [J3]
end
abbrev sJ:=List AV->ac->Option (AV × ac)
abbrev aI:=List AV->Option AV
abbrev aD:=aR->sJ
def aH:List (FuncId × aD)->FuncId->Option aD
 | [],_=>none
 | (g,M) :: r,f=>if f=g then some M else aH r f
def jJ (fs:List (FuncId × aD)) (h:aR):aR:=fun fv args A=>
 match fv with
 | .func (.func f) first cap=>match aH fs f with
  | some M=>M h (first++args++cap) A
  | none=>none
 | _=>none
def dl (G:Nat->Option (List AV)) (fs:List (FuncId × aD)) (h:aR):Env:=⟨jJ fs,G,[],h⟩
def ai (G:Nat->Option (List AV)) (fs:List (FuncId × aD)):Env:=dl G fs fun _ _ _=>none
def an (P:Program) (G:Nat->Option (List AV)) (f:FuncId) (M:aI):Prop:=
 Enters P f/\∀args r,M args=some r->∀(w:World) (OK:Nat->Prop) (vs:List Value),(∀b,OK b->b<w.heap.size)->zX G w OK->bH w OK aA.none vs args ->
  Calls P f vs.toArray w fun e w'=>∃v OK',e=.returned v/\aN w' OK' aA.none v r/\(∀b,OK' b->b<w'.heap.size)/\Ext w OK aA.none w' OK' aA.none
def bP:Nat->AV->Bool
 | _,.bool _=>true
 | _,.int ..=>true
 | _,.str _=>true
 | _,.nilS=>true
 | _,.nilP=>true
 | _,.nilM=>true
 | _,.nilF=>true
 | _,.nilI=>true
 | _,.undef=>true
 | n+1,.agg cs=>cs.all (bP n)
 | n+1,.tup cs=>cs.all (bP n)
 | n+1,.iface _ v=>bP n v
 | _,_=>false
def xC (n:Nat) (M:aI):sJ:=fun args A=>
 match M (args.map (frz A n)) with
 | some r=>if bP n r || args.all (bu n) then some (r,A) else none
 | none=>none
def aG (n:Nat) (M:aI):aD:=fun _=>xC n M
section
variable {P:Program} {G:Nat->Option (List AV)}
theorem s8 {w':World} {g':aA}:∀(n:Nat) (a:AV) (v:Value),bP n a=true->aN w OK g v a->aN w' OK' g' v a:=by
 intro n
 induction n with
 | zero=>
  intro a v hs h
  cases a <;> simp only [bP,Sa] at hs <;> first
   | exact .undef _ _
   | (have e:=h.inv_bool; rw [e]; exact .bool _ _)
   | (have e:=h.inv_int; rw [e]; exact .int _ _ _)
   | (obtain ⟨s,e,hs⟩:=h.inv_str; rw [e]; exact .str _ _ _ hs)
   | (obtain ⟨p,e⟩:=h.inv_nilS; rw [e]; exact .nilS _ _)
   | (have e:=h.inv_nilP; rw [e]; exact .nilP _)
   | (have e:=h.inv_nilM; rw [e]; exact .nilM _)
   | (cases h; exact .nilF _)
   | (cases h; exact .nilI _)
 | succ n ih=>
  intro a v hs h
  cases a <;> simp only [bP,Sa] at hs <;> try first
   | exact .undef _ _
   | (have e:=h.inv_bool; rw [e]; exact .bool _ _)
   | (have e:=h.inv_int; rw [e]; exact .int _ _ _)
   | (obtain ⟨s,e,hs⟩:=h.inv_str; rw [e]; exact .str _ _ _ hs)
   | (obtain ⟨p,e⟩:=h.inv_nilS; rw [e]; exact .nilS _ _)
   | (have e:=h.inv_nilP; rw [e]; exact .nilP _)
   | (have e:=h.inv_nilM; rw [e]; exact .nilM _)
   | (cases h; exact .nilF _)
   | (cases h; exact .nilI _)
  case agg cs=>
   simp only [RZ] at hs
   obtain ⟨vs,vals,rfl,hl,hg,hv⟩:=h.inv_agg
   exact .agg _ vs _ hl vals hg (fun i hi=>ih _ _ (hs _ (RM hi)) (hv i hi))
  case tup cs=>
   simp only [RZ] at hs
   obtain ⟨vs,vals,rfl,hl,hg,hv⟩:=h.inv_tup
   exact .tup _ vs _ hl vals hg (fun i hi=>ih _ _ (hs _ (RM hi)) (hv i hi))
  case iface t x=>
   cases h with
   | iface _ t v a hv=>exact .iface _ t v _ (ih _ _ hs hv)
theorem nN:∀(n:Nat) (a:AV) (v:Value),bu n a=true->aN w OK g v a->aN w OK aA.none v (frz A n a):=by
 intro n
 induction n with
 | zero=>
  intro a v hs h
  cases a <;> simp only [bu,Sa] at hs <;> simp only [frz] <;> first
   | exact .undef _ _
   | (have e:=h.inv_bool; rw [e]; exact .bool _ _)
   | (have e:=h.inv_int; rw [e]; exact .int _ _ _)
   | (obtain ⟨s,e,hs⟩:=h.inv_str; rw [e]; exact .str _ _ _ hs)
   | (obtain ⟨p,e⟩:=h.inv_nilS; rw [e]; exact .nilS _ _)
   | (have e:=h.inv_nilP; rw [e]; exact .nilP _)
   | (have e:=h.inv_nilM; rw [e]; exact .nilM _)
   | (cases h; exact .nilF _)
   | (cases h; exact .nilI _)
   | (obtain ⟨b,o,cap,T,c,fz,vals,e,hb,hh,hcap,hv,hs,hc⟩:=h.inv_fs; rw [e]; exact .fs _ b o cap _ T c fz _ vals hb hh hcap hv hs hc)
   | (obtain ⟨b,o,T,c,fz,vals,e,hb,hh,hne,hv,hc⟩:=h.inv_fp; rw [e]; exact .fp _ b o T c fz _ vals hb hh hne hv hc)
 | succ n ih=>
  intro a v hs h
  cases a <;> simp only [bu,Sa] at hs <;> simp only [frz] <;> try first
   | exact .undef _ _
   | (have e:=h.inv_bool; rw [e]; exact .bool _ _)
   | (have e:=h.inv_int; rw [e]; exact .int _ _ _)
   | (obtain ⟨s,e,hs⟩:=h.inv_str; rw [e]; exact .str _ _ _ hs)
   | (obtain ⟨p,e⟩:=h.inv_nilS; rw [e]; exact .nilS _ _)
   | (have e:=h.inv_nilP; rw [e]; exact .nilP _)
   | (have e:=h.inv_nilM; rw [e]; exact .nilM _)
   | (cases h; exact .nilF _)
   | (cases h; exact .nilI _)
   | (obtain ⟨b,o,cap,T,c,fz,vals,e,hb,hh,hcap,hv,hs,hc⟩:=h.inv_fs; rw [e]; exact .fs _ b o cap _ T c fz _ vals hb hh hcap hv hs hc)
   | (obtain ⟨b,o,T,c,fz,vals,e,hb,hh,hne,hv,hc⟩:=h.inv_fp; rw [e]; exact .fp _ b o T c fz _ vals hb hh hne hv hc)
  case agg cs=>
   simp only [RZ] at hs
   obtain ⟨vs,vals,rfl,hl,hg,hv⟩:=h.inv_agg
   exact .agg _ vs _ (by simpa using hl) vals (fun i hi=>hg i (by simpa using hi)) (fun i hi=>by simp only [Sv]; exact ih _ _ (hs _ (RM _)) (hv i (by simpa using hi)))
  case tup cs=>
   simp only [RZ] at hs
   obtain ⟨vs,vals,rfl,hl,hg,hv⟩:=h.inv_tup
   exact .tup _ vs _ (by simpa using hl) vals (fun i hi=>hg i (by simpa using hi)) (fun i hi=>by simp only [Sv]; exact ih _ _ (hs _ (RM _)) (hv i (by simpa using hi)))
  case func fn c1 c2=>
   simp only [Sf,RZ] at hs
   obtain ⟨vs1,vs2,vals1,vals2,rfl,hl1,hl2,hg1,hg2,hv1,hv2⟩:=h.inv_func
   exact .func _ fn vs1 vs2 _ _ (by simpa using hl1) (by simpa using hl2) vals1 vals2 (fun i hi=>hg1 i (by simpa using hi)) (fun i hi=>hg2 i (by simpa using hi))
    (fun i hi=>by simp only [Sv]; exact ih _ _ (hs.1 _ (RM _)) (hv1 i (by simpa using hi))) (fun i hi=>by simp only [Sv]; exact ih _ _ (hs.2 _ (RM _)) (hv2 i (by simpa using hi)))
  case iface t x=>
   cases h with
   | iface _ t v a hv=>exact .iface _ t v _ (ih _ _ hs hv)
theorem bH.map {g':aA} {vs:List Value} {l:List AV} {F:AV->AV} (h:bH w OK g vs l) (hm:∀v a,a∈l->aN w OK g v a->aN w OK' g' v (F a)):bH w OK' g' vs (l.map F):=by
 induction vs generalizing l with
 | nil=>cases l with
  | nil=>exact trivial
  | cons a r=>exact h.elim
 | cons v vs ih=>cases l with
  | nil=>exact h.elim
  | cons a r=>exact ⟨hm v a (by simp) h.1,ih h.2 fun v a ha=>hm v a (by simp [ha])⟩
theorem fq.of_pure {M:aI} (h:an P G f M) (n:Nat):fq P G f (xC n M):=by
 refine ⟨h.1,?_⟩
 intro args A r A' he w OK g vs hA hG hl
 unfold xC at he
 split at he
 ·rename_i r0 hM
  split at he
  ·rename_i hc
   injection he with he
   injection he with e1 e2
   subst e1; subst e2
   by_cases hn:args.all (bu n)=true
   ·have hn':=RZ.1 hn
    refine (h.2 _ _ hM w OK vs hA.ok hG (hl.map fun v a ha hv=>nN n a v (hn' a ha) hv)).mono ?_
    rintro e w' ⟨v,OK',rfl,hv,hok',hx⟩
    have hb:∀b,b<w.heap.size->w'.heap[b]?=w.heap[b]?:=fun b hb=>hx.blk b hb (fun _ _ (hi:_∈[])=>by cases hi)
    exact ⟨v,OK',g,rfl,hv.none_to,hA.keep hx.size hb OK' hx.okle hx.okf hok',hx.os,hx.tape,hx.output,hx.size,fun b hb' _=>hb b hb',g.le_refl,hx.okle,fun id inc hi=>.inl ⟨id,inc,hi,rfl⟩,hx.okf,hx.loops,fun _ _ _ _=>rfl⟩
   ·have hsc:bP n r0=true:=by simpa [hn] using hc
    have hok2:∀b,(OK b\/∃id inc,inc∈g id/\inc.b=b)->b<w.heap.size:=fun b hb=>by
     rcases hb with hb | ⟨id,inc,hi,rfl⟩
     ·exact hA.ok b hb
     ·exact hA.low id inc hi
    have hl2:bH w (fun b=>OK b\/∃id inc,inc∈g id/\inc.b=b) aA.none vs (args.map (frz A n)):=hl.map fun v a _ hv=>kz hA (fun b hb=>Or.inl hb) (fun id inc _ hi=>Or.inr ⟨id,inc,hi,rfl⟩) n a v hv
    refine (h.2 _ _ hM w (fun b=>OK b\/∃id inc,inc∈g id/\inc.b=b) vs hok2 (hG.mono (fun b hb=>.inl hb) (fun _ _=>rfl)) hl2).mono ?_
    rintro e w' ⟨v,OK',rfl,hv,hok',hx⟩
    have hb:∀b,b<w.heap.size->w'.heap[b]?=w.heap[b]?:=fun b hb=>hx.blk b hb (fun _ _ (hi:_∈[])=>by cases hi)
    exact ⟨v,OK,g,rfl,s8 n _ _ hsc hv,hA.keep hx.size hb OK (fun _ h=>h) (fun _ h=>.inl h) (fun b hb=>Th (hA.ok b hb) hx.size),hx.os,hx.tape,hx.output,hx.size,fun b hb' _=>hb b hb',g.le_refl,fun _ h=>h,fun id inc hi=>.inl ⟨id,inc,hi,rfl⟩,fun _ h=>.inl h,hx.loops,fun _ _ _ _=>rfl⟩
  ·cases he
 ·cases he
theorem bZ.nil (h:∀b,OK b->b<w.heap.size):bZ w OK aA.none []:=
 ⟨fun id hi=>by simp at hi,fun _ _=>rfl,fun _ _ _ _ _ _ (hi:_∈[])=>(by cases hi),fun _ _ (hi:_∈[])=>(by cases hi),fun _ _ (hi:_∈[])=>(by cases hi),h⟩
theorem an.of_fn {M':sJ} {M:aI} (h:fq P G f M') (n:Nat) (hM:∀args r,M args=some r->∃r0 A',M' args []=some (r0,A')/\frz A' n r0=r):an P G f M:=by
 refine ⟨h.1,?_⟩
 intro args r he w OK vs hok hG hl
 obtain ⟨r0,A',h1,rfl⟩:=hM args r he
 refine (h.2 _ _ _ _ h1 w OK aA.none vs (bZ.nil hok) hG hl).mono ?_
 rintro e w' ⟨v,OK',g',rfl,hv,hA,hx⟩
 refine ⟨v,fun b=>OK' b\/∃id inc,inc∈g' id/\inc.b=b,rfl,kz hA (fun b hb=>.inl hb) (fun id inc _ hi=>.inr ⟨id,inc,hi,rfl⟩) n r0 v hv,?_,?_⟩
 ·rintro b (hb | ⟨id,inc,hi,rfl⟩)
  ·exact hA.ok b hb
  ·exact hA.low id inc hi
 ·refine ⟨hx.os,hx.tape,hx.output,hx.size,hx.blk,aA.le_refl _,fun b hb=>.inl (hx.okle b hb),fun _ _ (hi:_∈[])=>(by cases hi),?_,hx.loops,fun _ _ _ _=>rfl⟩
  rintro b (hb | ⟨id,inc,hi,rfl⟩)
  ·exact hx.okf b hb
  ·rcases hx.fresh id inc hi with ⟨_,_,h0,_⟩ | h1
   ·cases h0
   ·exact .inr h1
theorem rt {B:ac}:∀(n:Nat) (a:AV),bu n a=true->frz B n a=frz A n a:=by
 intro n
 induction n with
 | zero=>intro a h; cases a <;> simp [bu] at h <;> rfl
 | succ n ih=>
  intro a h
  cases a <;> simp only [bu,Sf,RZ,Sa] at h <;> simp only [frz]
  ·congr 1; exact Sc fun x hx=>ih x (h x hx)
  ·congr 1; exact Sc fun x hx=>ih x (h x hx)
  ·congr 1
   ·exact Sc fun x hx=>ih x (h.1 x hx)
   ·exact Sc fun x hx=>ih x (h.2 x hx)
  ·rw [ih _ h]
theorem aW.cons {fs:List (FuncId × aD)} {h0:aR} {M:aI} (h:aH fs f=some (aG 4 M)) (hr:aW (dl G fs h0) pu):aW (dl G fs h0) (f :: pu):=by
 intro k hk hh args A r A' he
 rcases Sx.1 hk with rfl | hk
 ·simp only [dl,jJ,h,aG,xC,S7,Sm] at he ⊢
  split at he
  ·rename_i r' hM
   simp only [Rz,Ry,RP] at he
   obtain ⟨hc,rfl,rfl⟩:=he
   refine ⟨rfl,fun hn B=>?_⟩
   have hm:args.map (frz B 4)=args.map (frz A 4):=Sc fun x hx=>rt 4 x (RZ.1 hn x hx)
   rw [hm,hM]
   simp only [hc,SP]
  ·cases he
 ·exact hr k hk hh args A r A' he
theorem pX {fs:List (FuncId × aD)} (hfs:∀f M,aH fs f=some M->ak P G f M) {ys:List Yld} {h0:aR} (h0s:gA P G ys h0):cM P {dl G fs h0 with ys:=ys}:=by
 refine ⟨h0s,?_⟩
 intro ys' hd hsub hds fv args A r A' he w OK g v vs hA hG hv hl
 simp only [dl,jJ] at he
 split at he
 ·rename_i f first cap
  split at he
  ·rename_i M hM
   obtain ⟨vs1,vs2,vals1,vals2,rfl,hl1,hl2,hg1,hg2,hv1,hv2⟩:=hv.inv_func
   obtain ⟨hen,hcall⟩:=hfs f M hM
   have hlist:bH w OK g (vs1.toList++vs++vs2.toList) (first++args++cap):=by
    have hll:=hl.length
    refine bH.of_get (by simp [hl1,hl2,hll]) (fun i h1 h2=>?_)
    simp only [List.getElem_append]
    simp only [R8,Sb,hl1,hll]
    have k1:∀i (h:i<vs1.toList.length) (h':i<first.length),aN w OK g vs1.toList[i] first[i]:=fun i h h'=>by
     have:=hg1 i h'
     rw [R7 (by rw [hl1]; exact h')] at this
     injection this with this
     simp only [TG,this]; exact hv1 i h'
    have k2:∀i (h:i<vs2.toList.length) (h':i<cap.length),aN w OK g vs2.toList[i] cap[i]:=fun i h h'=>by
     have:=hg2 i h'
     rw [R7 (by rw [hl2]; exact h')] at this
     injection this with this
     simp only [TG,this]; exact hv2 i h'
    split
    ·split
     ·exact k1 _ _ _
     ·exact hl.get _ _ _
    ·exact k2 _ _ _
   have:=hcall ys' hd hds _ _ _ _ he w OK g _ hA hG hlist
   refine ⟨⟨.fn (.func f) vs2,vs1++vs.toArray⟩,f,(vs1.toList++vs++vs2.toList).toArray,rfl,?_,this⟩
   have e:(vs1.toList++vs++vs2.toList).toArray=vs1++vs.toArray++vs2:=by simp
   rw [e]
   exact hen _ w
  ·cases he
 ·cases he
theorem ag {fs:List (FuncId × aD)} (hfs:∀f M,aH fs f=some M->ak P G f M):cM P (ai G fs):=
 pX hfs (h0:=fun _ _ _=>none) (ys:=[]) (fun _ _ _ _ _ h=>by cases h)
theorem aM (hE:cM P E) (hys:E.ys=[]) {fn:Func} {mf:bM} {fuel:Nat} (hf:P.funcs[f]?=some fn) (hc:aB P fn n vs pu on hints=some mf) (hpu:aW E pu) :
  fq P E.glob f (bp E fuel mf):=by
 obtain ⟨h1,h2⟩:=jE (fuel:=fuel) hE hf hc hpu
 exact ⟨h1,fun args A r A' he w OK g us hA hG hl=>h2 args A r A' he w OK g us hA ⟨hG,fun y hy=>by rw [hys] at hy; cases hy⟩ hl⟩
theorem bX {fs:List (FuncId × aD)} (hfs:∀f M,aH fs f=some M->ak P G f M) {fn:Func} {mf:bM} {fuel:Nat} (hf:P.funcs[f]?=some fn) (hc:aB P fn n vs pu on hints=some mf) (hpu:aW (ai G fs) pu:=by first | exact aW.nil | (repeat (first | exact aW.nil | refine aW.cons (M:=_) rfl ?_))) :
  ak P G f (fun h=>bp (dl G fs h) fuel mf):=by
 refine ⟨(jE (fuel:=fuel) (ag hfs) hf hc hpu).1,fun ys h hh args A r A' he=>?_⟩
 have:=(jE (fuel:=fuel) (pX hfs hh) hf hc hpu).2 args A r A' (by rw [Bg]; exact he)
 exact this
theorem ak.of_pure {M:aI} (h:an P G f M) (n:Nat):ak P G f (aG n M):=(fq.of_pure h n).y
theorem aw {Q:FuncId->aD->Prop}:∀f M,aH [] f=some M->Q f M:=fun _ _ h=>by cases h
theorem ae {Q:FuncId->aD->Prop} {g:FuncId} {N:aD} {r:List (FuncId × aD)} (h1:Q g N) (h2:∀f M,aH r f=some M->Q f M):∀f M,aH ((g,N) :: r) f=some M->Q f M:=fun f M h=>by
 simp only [aH] at h
 split at h
 ·rename_i e; injection h with h; subst h; subst e; exact h1
 ·exact h2 f M h
end
inductive KC where
 | code (c:MC)
 | ops (l:List MO) (T:List AV)
 | opsF (pu:List FuncId) (l:List MO) (T:List AV) (fs:List ez) (pairs:List (Nat × Nat))
 | blk (id:Nat)
def evK (E:Env) (fuel:Nat):List KC->Option Out->Option Out
 | [],o=>o
 | .code c :: k,some (.normal σ A)=>evK E fuel k (evC E fuel c σ A)
 | .ops l T :: k,some (.normal σ A)=>evK E fuel k ((dM E l σ T A).map fun x=>.normal x.1 x.2)
 | .opsF pu l T fs pairs :: k,some (.normal σ A)=>evK E fuel k (match dq E pu l σ T A fs with
  | some (σ',A',fs')=>if pairs.all (fun p=>(fs'.getD p.1 .no).apart (fs'.getD p.2 .no)) then some (.normal σ' A') else none
  | none=>none)
 | .blk id :: k,some (.exit id' σ A)=>evK E fuel k (if id'=id then some (.normal σ A) else some (.exit id' σ A))
 | _ :: k,o=>evK E fuel k o
def run (E:Env) (fuel:Nat) (k:List KC) (σ:List AV) (A:ac):Option Out:=evK E fuel k (some (.normal σ A))
def kA (E:Env) (fuel:Nat) (id:Nat) (k:List KC) (σ:List AV) (A:ac):Option Out:=evK E fuel k (some (.exit id σ A))
def after (E:Env) (fuel:Nat) (k:List KC) (o:Out):Option Out:=evK E fuel k (some o)
section
variable {E:Env} {fuel:Nat} {σ:List AV} {A:ac} {k:List KC}
theorem dP:∀k,evK E fuel k none=none
 | []=>rfl
 | .code _ :: k=>by simp [evK,dP k]
 | .ops _ _ :: k=>by simp [evK,dP k]
 | .opsF .. :: k=>by simp [evK,dP k]
 | .blk _ :: k=>by simp [evK,dP k]
theorem jD:∀k,evK E fuel k (some (.ret σ A))=some (.ret σ A)
 | []=>rfl
 | .code _ :: k=>by simp [evK,jD k]
 | .ops _ _ :: k=>by simp [evK,jD k]
 | .opsF .. :: k=>by simp [evK,jD k]
 | .blk _ :: k=>by simp [evK,jD k]
theorem om (c:MC):evC E fuel c σ A=run E fuel [.code c] σ A:=rfl
theorem EH:run E fuel [] σ A=some (.normal σ A):=rfl
theorem Aw:run E fuel (.code .skip :: k) σ A=run E fuel k σ A:=rfl
theorem ba (a b:MC):run E fuel (.code (.seq a b) :: k) σ A=run E fuel (.code a :: .code b :: k) σ A:=by
 simp only [run,evK,evC]
 cases evC E fuel a σ A with
 | none=>simp [dP]
 | some o=>cases o <;> simp [evK]
theorem pz (l:List MO):run E fuel (.code (.region l) :: k) σ A=run E fuel (.ops l [] :: k) σ A:=rfl
theorem tc (pu:List FuncId) (l:List MO) (pairs:List (Nat × Nat)):run E fuel (.code (.regionD pu l pairs) :: k) σ A=run E fuel (.opsF pu l [] [] pairs :: k) σ A:=rfl
theorem gI (id:Nat) (a:MC):run E fuel (.code (.block id a) :: k) σ A=run E fuel (.code a :: .blk id :: k) σ A:=by
 simp only [run,evK,evC]
 cases evC E fuel a σ A with
 | none=>simp [dP]
 | some o=>cases o <;> simp [evK,jD]
theorem EI (id:Nat):run E fuel (.blk id :: k) σ A=run E fuel k σ A:=rfl
theorem xm (a:MC):run E fuel (.code (.scope a) :: k) σ A=run E fuel (.code a :: k) σ A:=rfl
theorem AA (mask:List Nat):run E fuel (.code (.kill mask) :: k) σ A=run E fuel k (clear mask σ) A:=rfl
theorem xn:run E fuel (.code .ret :: k) σ A=some (.ret σ A):=jD _
theorem AB (id:Nat):run E fuel (.code (.exit id) :: k) σ A=kA E fuel id k σ A:=rfl
theorem yu (id:Nat):kA E fuel id [] σ A=some (.exit id σ A):=rfl
theorem wi (id:Nat) (c:MC):kA E fuel id (.code c :: k) σ A=kA E fuel id k σ A:=rfl
theorem yr (id:Nat) (l:List MO) (T:List AV):kA E fuel id (.ops l T :: k) σ A=kA E fuel id k σ A:=rfl
theorem wh (id:Nat) (pu:List FuncId) (l:List MO) (T:List AV) (fs:List ez) (pairs:List (Nat × Nat)):kA E fuel id (.opsF pu l T fs pairs :: k) σ A=kA E fuel id k σ A:=rfl
theorem yw (id:Nat):kA E fuel id (.blk id :: k) σ A=run E fuel k σ A:=by simp [kA,evK,run]
theorem rS (id id':Nat) (h:id≠id'):kA E fuel id (.blk id' :: k) σ A=kA E fuel id k σ A:=by simp [kA,evK,h]
theorem uE (c:MX) (a b:MC) (t:Bool) (h:evX E σ [] c=.bool t):run E fuel (.code (.cond c a b) :: k) σ A=if t then run E fuel (.code a :: k) σ A else run E fuel (.code b :: k) σ A:=by
 simp only [run,evK,evC,h]; cases t <;> rfl
theorem vO (c:MX) (a b:MC) (h:evX E σ [] c=.bool true):run E fuel (.code (.cond c a b) :: k) σ A=run E fuel (.code a :: k) σ A:=by
 rw [uE c a b true h]; rfl
theorem vP (c:MX) (a b:MC) (h:evX E σ [] c=.bool false):run E fuel (.code (.cond c a b) :: k) σ A=run E fuel (.code b :: k) σ A:=by
 rw [uE c a b false h]; rfl
theorem td (T:List AV):run E fuel (.ops [] T :: k) σ A=run E fuel k σ A:=rfl
theorem Ie (d:Option Nat) (op:MOp) (rest:List MO) (T:List AV):run E fuel (.ops (⟨d,op,none⟩ :: rest) T :: k) σ A =
  match aQ E (evX E σ T) A op with
  | some (v,A')=>run E fuel (.ops rest (T++[v]) :: k) (di σ d v) A'
  | none=>none:=by
 simp only [run,evK,dM,cQ]
 cases aQ E (evX E σ T) A op with
 | none=>simp [dP]
 | some x=>rfl
theorem qm (d:Option Nat) (op:MOp) (rest:List MO) (T:List AV) (x:MX) (want:Bool) (h:evX E σ T x=.bool want):run E fuel (.ops (⟨d,op,some (x,want)⟩ :: rest) T :: k) σ A =
  match aQ E (evX E σ T) A op with
  | some (v,A')=>run E fuel (.ops rest (T++[v]) :: k) (di σ d v) A'
  | none=>none:=by
 simp only [run,evK,dM,cQ,h]
 cases want <;> cases aQ E (evX E σ T) A op <;> simp [dP]
theorem nF (d:Option Nat) (op:MOp) (rest:List MO) (T:List AV) (x:MX) (want:Bool) (h:evX E σ T x=.bool (!want)):run E fuel (.ops (⟨d,op,some (x,want)⟩ :: rest) T :: k) σ A =
  run E fuel (.ops rest (T++[.tup []]) :: k) (di σ d (.tup [])) A:=by
 simp only [run,evK,dM,cQ,h]
 cases want <;> rfl
theorem te (d:Option Nat) (op:MOp) (rest:List MO) (T:List AV) (x:MX) (want:Bool) (h:evX E σ T x=.tup []):run E fuel (.ops (⟨d,op,some (x,want)⟩ :: rest) T :: k) σ A =
  run E fuel (.ops rest (T++[.tup []]) :: k) (di σ d (.tup [])) A:=by
 simp only [run,evK,dM,cQ,h]
theorem rm (pu:List FuncId) (T:List AV) (fs:List ez) (pairs:List (Nat × Nat)):run E fuel (.opsF pu [] T fs pairs :: k) σ A=if pairs.all (fun p=>(fs.getD p.1 .no).apart (fs.getD p.2 .no)) then run E fuel k σ A else none:=by
 simp only [run,evK,dq]
 split
 ·rfl
 ·exact dP _
theorem EG (pu:List FuncId) (d:Option Nat) (op:MOp) (rest:List MO) (T:List AV) (fs:List ez) (pairs:List (Nat × Nat)):run E fuel (.opsF pu (⟨d,op,none⟩ :: rest) T fs pairs :: k) σ A =
  match aQ E (evX E σ T) A op with
  | some (v,A')=>run E fuel (.opsF pu rest (T++[v]) (fs++[bK E pu (evX E σ T) A op]) pairs :: k) (di σ d v) A'
  | none=>none:=by
 simp only [run,evK,dq,cQ]
 cases aQ E (evX E σ T) A op with
 | none=>simp [dP]
 | some x=>rfl
theorem oP (pu:List FuncId) (d:Option Nat) (op:MOp) (rest:List MO) (T:List AV) (fs:List ez) (pairs:List (Nat × Nat)) (x:MX) (want:Bool) (h:evX E σ T x=.bool want):run E fuel (.opsF pu (⟨d,op,some (x,want)⟩ :: rest) T fs pairs :: k) σ A =
  match aQ E (evX E σ T) A op with
  | some (v,A')=>run E fuel (.opsF pu rest (T++[v]) (fs++[bK E pu (evX E σ T) A op]) pairs :: k) (di σ d v) A'
  | none=>none:=by
 simp only [run,evK,dq,cQ,h]
 cases want <;> cases aQ E (evX E σ T) A op <;> simp [dP]
theorem mj (pu:List FuncId) (d:Option Nat) (op:MOp) (rest:List MO) (T:List AV) (fs:List ez) (pairs:List (Nat × Nat)) (x:MX) (want:Bool) (h:evX E σ T x=.bool (!want)):run E fuel (.opsF pu (⟨d,op,some (x,want)⟩ :: rest) T fs pairs :: k) σ A =
  run E fuel (.opsF pu rest (T++[.tup []]) (fs++[.no]) pairs :: k) (di σ d (.tup [])) A:=by
 simp only [run,evK,dq,cQ,h]
 cases want <;> rfl
theorem rn (pu:List FuncId) (d:Option Nat) (op:MOp) (rest:List MO) (T:List AV) (fs:List ez) (pairs:List (Nat × Nat)) (x:MX) (want:Bool) (h:evX E σ T x=.tup []):run E fuel (.opsF pu (⟨d,op,some (x,want)⟩ :: rest) T fs pairs :: k) σ A =
  run E fuel (.opsF pu rest (T++[.tup []]) (fs++[.no]) pairs :: k) (di σ d (.tup [])) A:=by
 simp only [run,evK,dq,cQ,h]
theorem Az (mask:List Nat) (a:MC) (o:Out) (h:cc (evC E fuel a) mask fuel σ A=some o):run E fuel (.code (.loop mask a) :: k) σ A=after E fuel k o:=by
 simp only [run,evK,evC,h,after]
theorem yV (mask:List Nat):∀(σ:List AV) (i:Nat),(clear mask σ).set i .undef=clear mask (σ.set i .undef):=by
 induction mask with
 | nil=>intro σ i; rfl
 | cons j m ih=>
  intro σ i
  show (clear m (σ.set j .undef)).set i .undef=clear m ((σ.set i .undef).set j .undef)
  rw [ih]
  congr 1
  by_cases h:i=j
  ·subst h; rfl
  ·exact (Tx _ _ h).symm
theorem tU (mask:List Nat):∀ σ:List AV,clear mask (clear mask σ)=clear mask σ:=by
 induction mask with
 | nil=>intro σ; rfl
 | cons j m ih=>
  intro σ
  show clear m ((clear m (σ.set j .undef)).set j .undef)=clear m (σ.set j .undef)
  rw [yV,Up,ih]
theorem pO (body:List AV->ac->Option Out) (mask:List Nat) (n:Nat) (σ:List AV) (A:ac):cc body mask n σ A=cc body mask n (clear mask σ) A:=by
 cases n with
 | zero=>rfl
 | succ n=>simp only [cc,tU]
theorem aV (mask:List Nat) (a:MC) (o:Out) (h:cc (evC E fuel a) mask fuel (clear mask σ) A=some o):run E fuel (.code (.loop mask a) :: k) σ A=after E fuel k o:=
 Az mask a o (by rw [pO]; exact h)
theorem gk {a:MC} {mask:List Nat} (I:Nat->List AV->ac->Prop) (Q:Out->Prop) (hs:∀k σ A,I k σ A->(∃ σ' A',run E fuel [.code a] (clear mask σ) A=some (.normal σ' A')/\∃k',k'<k/\I k' σ' A')\/(∃o,run E fuel [.code a] (clear mask σ) A=some o/\(∀ σ' A',o≠.normal σ' A')/\Q o)) :
  ∀(n k:Nat) (σ:List AV) (A:ac),k<n->I k σ A->∃o,cc (evC E fuel a) mask n σ A=some o/\Q o:=by
 intro n
 induction n with
 | zero=>intro k σ A h; omega
 | succ n ih=>
  intro k σ A h hi
  rw [cc]
  rcases hs k σ A hi with ⟨σ',A',h1,k',h2,h3⟩ | ⟨o,h1,h2,h3⟩
  ·rw [om,h1]
   exact ih k' σ' A' (by omega) h3
  ·rw [om,h1]
   cases o with
   | normal σ' A'=>exact absurd rfl (h2 σ' A')
   | exit id σ' A'=>exact ⟨_,rfl,h3⟩
   | ret σ' A'=>exact ⟨_,rfl,h3⟩
theorem fZ (f:MX) (ps:List Nat) (a b:MC) (o:Out)
  (h:∀(l:Nat) (r:Loop),(match E.callY (dy A.length l r σ ps (evC E fuel a) (evC E fuel b) E.hand) (evX E σ [] f) [.func (.yield l) [] []] (A++[Ent.loop r 0]) with
   | some (_,A')=>il A.length σ A'
   | none=>none)=some o):run E fuel (.code (.rangeFunc f ps a b) :: k) σ A=after E fuel k o:=by
 have:evC E fuel (.rangeFunc f ps a b) σ A=some o:=by
  simp only [evC]
  exact J2 (kT:=fun (_:Nat × Loop)=>True) (0,default) trivial fun x _=>h x.1 x.2
 simp only [run,evK,this,after]
theorem sH:after E fuel k (.normal σ A)=run E fuel k σ A:=rfl
theorem wq (id:Nat):after E fuel k (.exit id σ A)=kA E fuel id k σ A:=rfl
theorem zK:after E fuel k (.ret σ A)=some (.ret σ A):=jD _
theorem aO (a:MC) (mask:List Nat) (n:Nat):cc (evC E fuel a) mask (n+1) σ A=match run E fuel [.code a] (clear mask σ) A with
  | some (.normal σ' A')=>cc (evC E fuel a) mask n σ' A'
  | x=>x:=rfl
theorem aX (mf:bM) (args:List AV) (h:args.length=mf.n):bp E fuel mf args A=match run E fuel [.code mf.mc] (args++List.replicate (mf.len-mf.n) .undef) A with
  | some (.normal σ A')=>(dV A' σ mf.res).map fun l=>(dw l,A')
  | some (.ret σ A')=>(dV A' σ mf.res).map fun l=>(dw l,A')
  | _=>none:=by
 unfold bp; rw [RL h]; rfl
end
open Classical in
theorem an.of_fns {M':Nat->sJ} {M:aI} (h:∀fuel,fq P G f (M' fuel)) (n:Nat) (hM:∀args r,M args=some r->∃fuel r0 A',M' fuel args []=some (r0,A')/\frz A' n r0=r):an P G f M:=by
 refine ⟨(h 0).1,?_⟩
 intro args r he
 obtain ⟨fuel,r0,A',h1,h2⟩:=hM args r he
 exact (an.of_fn (M:=fun a=>if a=args then some r else none) (h fuel) n (fun a r' h'=>by
  split at h'
  ·rename_i e; injection h' with h'; subst h'; subst e; exact ⟨r0,A',h1,h2⟩
  ·cases h')).2 args r (by simp)
attribute [simp] Aw AA tc wh rm EG oP mj rn bK a7 iZ ez.apart0 ez.sees ez.apart ez.no kp0 bk jW gL dN cm bz gp mp tD oh r7 eqK ba pz gI EI xm xn AB EH yu wi yr yw rS vO vP td Ie qm nF te
 sH wq zK clear aQ evX db di aq kE rU g9 af au fV fS bO dL dh hiB loB g8 kD az g7 fh aY a6 dV dw
 aG xC jJ aH frz bP bu tN AV.solid cellsOf iJ aa jl iQ ku cr fR bq aC iK
@[simp] theorem Jj (A:ac) (v:AV) (B:ac) (id:Nat):vY A (some (v,B)) id=true↔B[id]?=A[id]?:=by
 simp only [vY]
 exact @decide_eq_true_iff _ (Classical.propDecidable _)
@[simp] theorem J6 (G:Nat->Option (List AV)) (fs:List (FuncId × aD)) (h:aR) (f:FuncId) (a b args:List AV) (A:ac):(dl G fs h).call (.func (.func f) a b) args A=jJ fs h (.func (.func f) a b) args A:=rfl
@[simp] theorem Ai (G:Nat->Option (List AV)) (fs:List (FuncId × aD)) (h:aR) (l:Nat) (a b args:List AV) (A:ac):(dl G fs h).call (.func (.yield l) a b) args A=match h (.func (.yield l) a b) args A with
 | some x=>some x
 | none=>jJ fs h (.func (.yield l) a b) args A:=rfl
@[simp] theorem J5 (G:Nat->Option (List AV)) (fs:List (FuncId × aD)) (h:aR):(dl G fs h).glob=G:=rfl
@[simp] theorem J4 (G:Nat->Option (List AV)) (fs:List (FuncId × aD)) (h:aR):(dl G fs h).hand=h:=rfl
@[simp] theorem Hk (G:Nat->Option (List AV)) (fs:List (FuncId × aD)) (h:aR):(dl G fs h).callY=jJ fs:=rfl
@[simp] theorem Hn (G:Nat->Option (List AV)) (fs:List (FuncId × aD)) (f:FuncId) (a b args:List AV) (A:ac):(ai G fs).call (.func (.func f) a b) args A=jJ fs (fun _ _ _=>none) (.func (.func f) a b) args A:=rfl
@[simp] theorem Hm (G:Nat->Option (List AV)) (fs:List (FuncId × aD)):(ai G fs).glob=G:=rfl
@[simp] theorem Hl (G:Nat->Option (List AV)) (fs:List (FuncId × aD)):(ai G fs).hand=fun _ _ _=>none:=rfl
@[simp] theorem FY (G:Nat->Option (List AV)) (fs:List (FuncId × aD)):(ai G fs).callY=jJ fs:=rfl
@[simp] theorem AY (b:Bool) (esz size:Nat):ce (.bool b) esz 0 false size=some (.bool b):=rfl
@[simp] theorem B9 (k:IntKind) (b:Int) (esz size:Nat):ce (.int k b) esz 0 false size=some (.int k b):=rfl
@[simp] theorem B6 (b:List UInt8) (esz size:Nat):ce (.str b) esz 0 false size=some (.str b):=rfl
@[simp] theorem AR (esz size:Nat):ce .nilS esz 0 false size=some .nilS:=rfl
@[simp] theorem AS (esz size:Nat):ce .nilP esz 0 false size=some .nilP:=rfl
@[simp] theorem AT (esz size:Nat):ce .nilM esz 0 false size=some .nilM:=rfl
@[simp] theorem AW (esz size:Nat):ce .nilF esz 0 false size=some .nilF:=rfl
@[simp] theorem AU (esz size:Nat):ce .nilI esz 0 false size=some .nilI:=rfl
@[simp] theorem FJ (a:Nat) (b:List AV) (esz size:Nat):ce (.fs a b) esz 0 false size=some (.fs a b):=rfl
@[simp] theorem FH (a b c:Nat) (esz size:Nat):ce (.sl a b c) esz 0 false size=some (.sl a b c):=rfl
@[simp] theorem B7 (a b c:Nat) (esz size:Nat):ce (.ptr a b c) esz 0 false size=some (.ptr a b c):=rfl
@[simp] theorem FK (a:List AV) (esz size:Nat):ce (.fp a) esz 0 false size=some (.fp a):=rfl
@[simp] theorem AX (f:Fn) (a b:List AV) (esz size:Nat):ce (.func f a b) esz 0 false size=some (.func f a b):=rfl
@[simp] theorem B8 (a:Nat) (esz size:Nat):ce (.map a) esz 0 false size=some (.map a):=rfl
@[simp] theorem Ad (t:TypeId) (v:AV) (esz size:Nat):ce (.iface t v) esz 0 false size=some (.iface t v):=rfl
@[simp] theorem bT (cs:List AV) (esz o size:Nat):ce (.agg cs) esz o false size=cs[o]?:=rfl
@[simp] theorem rC (cs:List AV) (esz:Nat):ce (.agg cs) esz 0 true esz=some (.agg cs):=by unfold ce; simp
def evP (E:Env) (fuel:Nat) (mf:bM) (n:Nat) (args:List AV):Option AV:=(bp E fuel mf args []).map fun x=>frz x.2 n x.1
theorem aT (mf:bM) (args:List AV) (h:args.length=mf.n):evP E fuel mf n args=match run E fuel [.code mf.mc] (args++List.replicate (mf.len-mf.n) .undef) [] with
  | some (.normal σ A')=>(dV A' σ mf.res).map fun l=>frz A' n (dw l)
  | some (.ret σ A')=>(dV A' σ mf.res).map fun l=>frz A' n (dw l)
  | _=>none:=by
 unfold evP
 rw [aX mf args h]
 cases run E fuel [.code mf.mc] (args++List.replicate (mf.len-mf.n) .undef) [] with
 | none=>rfl
 | some o=>cases o with
  | normal σ A=>simp [Option.map_map]; rfl
  | exit id σ A=>rfl
  | ret σ A=>simp [Option.map_map]; rfl
theorem an.of_ev {fn:Func} {k:Nat} {mf:bM} (hE:cM P E) (hys:E.ys=[]) (hf:P.funcs[f]?=some fn) (hc:aB P fn k vs pu on hints=some mf) (n:Nat) {M:aI}
  (hM:∀args r,M args=some r->∃fuel,evP E fuel mf n args=some r) (hpu:aW E pu:=by first | exact aW.nil | (repeat (first | exact aW.nil | refine aW.cons (M:=_) rfl ?_))):an P E.glob f M:=
 an.of_fns (M':=fun fuel=>bp E fuel mf) (fun fuel=>aM hE hys hf hc hpu) n fun args r h=>by
  obtain ⟨fuel,h⟩:=hM args r h
  unfold evP at h
  cases h1:bp E fuel mf args [] with
  | none=>rw [h1] at h; cases h
  | some x=>rw [h1] at h; injection h with h; exact ⟨fuel,x.1,x.2,h1,h⟩
@[simp] theorem dc (esz:Nat) (A:ac) (es:List AV):aS esz A (.fs esz es)=some es:=by simp [aS]
@[simp] theorem BN (esz:Nat) (A:ac):aS esz A .nilS=some []:=rfl
@[simp] theorem BM (A:ac) (l:List UInt8):aS 1 A (.str l)=some (l.map fun b=>.int .u8 b.toNat):=rfl
theorem sY {id:Nat} {esz:Nat} {gr:Bool} {es:List AV} (h:A[id]?=some (.row esz gr es)) (off len:Nat):aS esz A (.sl id off len)=some ((es.drop off).take len):=by simp [aS,h]
@[simp] theorem BO (A:ac) (esz:Nat) (gr:Bool) (es:List AV):aS esz (A++[Ent.row esz gr es]) (.sl A.length 0 es.length)=some es:=by simp [aS]
@[simp] theorem M7 (a b:Int):(a == b)=decide (a=b):=by
 by_cases h:a=b <;> simp [h]
@[simp] theorem M5 (a b:Int):(a != b)=!decide (a=b):=by
 by_cases h:a=b <;> simp [h]
@[simp] theorem E5 (n:Nat):((n:Int)<0)=False:=by simp
@[simp] theorem Mg:IntKind.i64.bits=64:=rfl
@[simp] theorem Md:IntKind.u64.bits=64:=rfl
@[simp] theorem Me:IntKind.u32.bits=32:=rfl
@[simp] theorem Mh:IntKind.i32.bits=32:=rfl
@[simp] theorem OW:IntKind.u8.bits=8:=rfl
def inI (a:Int):Prop:=-9223372036854775808<=a/\a<=9223372036854775807
theorem eg {a:Int} (h:inI a):IntKind.i64.wrap a=a:=qb h.1 h.2
open Go.ChangeShapes Go.WideShapes
def sQ (P:Program) (t:TypeId):Bool:=match P.underlying t with
 | some (.struct _) | some (.array _ _)=>true
 | _=>false
def gF (P:Program) (t:TypeId) (xs:List AV):AV:=if sQ P t then .agg xs else xs.headD .undef
def oy (P:Program):Nat->List Field->Nat->Bool
 | k,[],n=>k == n
 | k,f :: r,n=>f.offset == k && oy P (k+P.cellsOf f.type) r n
def fc (P:Program):Nat->TypeId->Bool
 | 0,_=>false
 | n+1,t=>match P.underlying t with
  | some .bool | some (.int _) | some .string=>P.cellsOf t == 1
  | some (.slice e)=>P.cellsOf t == 1 && Nat.blt 0 (P.cellsOf e) && fc P n e
  | some (.struct fs)=>fs.toList.all (fun f=>fc P n f.type) && oy P 0 fs.toList (P.cellsOf t)
  | some (.array m e)=>P.cellsOf t == m*P.cellsOf e && Nat.blt 0 (P.cellsOf e) && fc P n e
  | _=>false
def TCs (P:Program) (T:TypeId->List AV->Prop):List Field->List AV->Prop
 | [],ls=>ls=[]
 | f :: r,ls=>∃a b,ls=a++b/\T f.type a/\a.length=P.cellsOf f.type/\TCs P T r b
def TCa (T:List AV->Prop) (size:Nat):Nat->List AV->Prop
 | 0,ls=>ls=[]
 | m+1,ls=>∃a b,ls=a++b/\T a/\a.length=size/\TCa T size m b
def TC (P:Program):Nat->TypeId->List AV->Prop
 | 0,_,_=>False
 | n+1,t,ls=>match P.underlying t with
  | some .bool=>∃b,ls=[.bool b]
  | some (.int k)=>∃z,ls=[.int k z]/\(k.min<=z/\z<=k.max)
  | some .string=>∃s,ls=[.str s]/\s.length<=9223372036854775807
  | some (.slice e)=>ls=[.nilS]\/∃es:List AV,ls=[.fs (P.cellsOf e) es]/\es.length<=9223372036854775807/\∀x∈es,∃xs,TC P n e xs/\xs.length=P.cellsOf e/\x=gF P e xs
  | some (.struct fs)=>TCs P (TC P n) fs.toList ls
  | some (.array m e)=>TCa (TC P n e) (P.cellsOf e) m ls
  | _=>False
def TA (P:Program) (n:Nat) (t:TypeId) (a:AV):Prop:=∃xs,TC P n t xs/\xs.length=P.cellsOf t/\a=gF P t xs
section
variable {H:Type} {enc:TypeId × Value->H} {P:Program} {w:World} {held:Bool}
theorem KM {a:Addr} {cs:List Value} (h:w.cells? 0 a n=some cs):cs.length=n/\∀j,j<n->∃v,cs[j]?=some v/\w.cell? (a.add j)=some v:=by
 unfold World.cells? at h
 rw [RL (TE _)] at h
 have hl:cs.length=n:=by simpa using mapM_some_length h
 refine ⟨hl,fun j hj=>?_⟩
 have:=mapM_some_get h j j (by simp [hj])
 rw [this]
 exact ⟨cs[j],by simp [hl,hj],by simp [hl,hj]⟩
theorem sI (a:Addr) (i j:Nat) (h:a.spot=none):(a.add i).add j=⟨a.block,a.off+i+j,none⟩:=by
 obtain ⟨b,o,s⟩:=a
 simp only at h
 subst h
 rw [cF,cF]
theorem ya {α:Type} (l:List α) (d:α) (h:0<l.length):l.headD d=l[0]:=by
 cases l with
 | nil=>simp at h
 | cons y r=>rfl
theorem lJ (hp:fc P n t=true) (ha:sQ P t=false):P.cellsOf t=1:=by
 cases n with
 | zero=>cases hp
 | succ n=>
  unfold fc at hp
  unfold sQ at ha
  split at hp
  ·exact S9.1 hp
  ·exact S9.1 hp
  ·exact S9.1 hp
  ·simp only [Sf,S9] at hp; exact hp.1.1
  ·rename_i hu; rw [hu] at ha; cases ha
  ·rename_i hu; rw [hu] at ha; cases ha
  ·cases hp
theorem wS:∀(n fuel:Nat) (t:TypeId) (cs:List Value) (x:DataW H × List MemPlace),fc P n t=true->DataW.trod enc P w 0 (fun _=>true) held fuel t cs=some x ->
  ∃ls:List AV,ls.length=cs.length/\cs.length=P.cellsOf t/\TC P n t ls/\∀i (h:i<ls.length),∃v,cs[i]?=some v/\v.oneCell'=true/\aN w (fun b=>b<w.heap.size) aA.none v ls[i]:=by
 intro n
 induction n with
 | zero=>intro fuel t cs x h; cases h
 | succ n ih=>
  intro fuel t cs x hp h
  unfold fc at hp
  split at hp
  ·
   rename_i hu
   obtain ⟨b,rfl,_⟩:=DataW.trod_bool hu h
   refine ⟨[.bool b],rfl,by simpa using (S9.1 hp).symm,by simp only [TC,hu]; exact ⟨b,rfl⟩,fun i hi=>?_⟩
   obtain rfl:i=0:=by simpa using hi
   exact ⟨_,rfl,rfl,.bool _ _⟩
  ·rename_i k hu
   obtain ⟨z,rfl,_,hw⟩:=DataW.trod_int hu h
   refine ⟨[.int k z],rfl,by simpa using (S9.1 hp).symm,?_,fun i hi=>?_⟩
   ·simp only [TC,hu]
    simp only [Lit.wf,Sf,Sq] at hw
    exact ⟨z,rfl,hw⟩
   ·obtain rfl:i=0:=by simpa using hi
    exact ⟨_,rfl,rfl,.int _ _ _⟩
  ·rename_i hu
   obtain ⟨s,rfl,_,hw⟩:=DataW.trod_string hu h
   refine ⟨[.str s.data.toList],rfl,by simpa using (S9.1 hp).symm,?_,fun i hi=>?_⟩
   ·simp only [TC,hu]
    refine ⟨_,rfl,?_⟩
    have h1:s.data.toList.length=s.size:=Sb
    have h2:maxLen=9223372036854775807:=by decide
    omega
   ·obtain rfl:i=0:=by simpa using hi
    exact ⟨_,rfl,rfl,.str _ _ _ rfl⟩
  ·
   rename_i e hu
   simp only [Sf,S9] at hp
   obtain ⟨⟨hc1,hpos⟩,hpe⟩:=hp
   have hpos:0<P.cellsOf e:=by simpa [Nat.blt_eq] using hpos
   have fin:∀(v:Value) (a:AV),v.oneCell'=true->aN w (fun b=>b<w.heap.size) aA.none v a->TC P (n+1) t [a] ->
     ∃ls:List AV,ls.length=[v].length/\[v].length=P.cellsOf t/\TC P (n+1) t ls/\∀i (h:i<ls.length),∃v',[v][i]?=some v'/\v'.oneCell'=true/\aN w (fun b=>b<w.heap.size) aA.none v' ls[i]:=by
    intro v a h1 h2 h3
    refine ⟨[a],rfl,by simp [hc1],h3,fun i hi=>?_⟩
    obtain rfl:i=0:=by simpa using hi
    exact ⟨_,rfl,h1,h2⟩
   rcases DataW.trod_slice hu h with ⟨rfl,_⟩ | ⟨a,len,cap,elems,rest,m,rfl,rfl,_,_,hl,hcm,hel,hget,hrest,_⟩
   ·exact fin _ _ rfl (.nilS _ _) (by simp only [TC,hu]; exact .inl trivial)
   ·by_cases hcap:cap=0
    ·subst hcap
     obtain rfl:len=0:=by omega
     exact fin _ _ rfl (.nilS _ _) (by simp only [TC,hu]; exact .inl trivial)
    ·
     obtain ⟨hr1,hr2⟩:=hrest rfl
     have hblk:a.spot=none/\∃c T fz,w.heap[a.block]?=some (.cells c T fz):=by
      have h0:∃z cs0,w.cells? 0 (a.add 0) (P.cellsOf e)=some cs0/\DataW.trod enc P w 0 (fun _=>true) held m e cs0=some z:=by
       by_cases hl0:len=0
       ·subst hl0
        have:=hr2 0 (by omega)
        rw [RD (show 0<rest.length by omega)] at this
        simp only [RG,Ss,TX] at this
        obtain ⟨cs0,k1,k2⟩:=this
        exact ⟨_,cs0,k1,k2⟩
       ·have:=hget 0 (by omega)
        rw [RD (show 0<elems.length by omega)] at this
        simp only [RG,TX] at this
        obtain ⟨cs0,k1,k2⟩:=this
        exact ⟨_,cs0,k1,k2⟩
      obtain ⟨_,cs0,k1,_⟩:=h0
      obtain ⟨_,k2⟩:=KM k1
      obtain ⟨v,_,k3⟩:=k2 0 hpos
      have hadd:(a.add 0).add 0=a:=by simp [Addr.add]
      rw [hadd] at k3
      unfold World.cell? at k3
      split at k3
      ·rename_i c T fz hh
       split at k3
       ·cases k3
       ·rename_i hsp
        exact ⟨by simpa using hsp,c,T,fz,hh⟩
      ·cases k3
     obtain ⟨hsp,c,T,fz,hh⟩:=hblk
     have H1:∀i,∃p:List Value × List AV,i<len->(w.cells? 0 (a.add (i*P.cellsOf e)) (P.cellsOf e)=some p.1/\p.2.length=p.1.length/\p.1.length=P.cellsOf e/\TC P n e p.2 /\
       ∀j (h:j<p.2.length),∃v,p.1[j]?=some v/\v.oneCell'=true/\aN w (fun b=>b<w.heap.size) aA.none v p.2[j]):=by
      intro i
      by_cases hi:i<len
      ·have:=hget i hi
       rw [RD (show i<elems.length by omega)] at this
       simp only [RG] at this
       obtain ⟨cs0,k1,k2⟩:=this
       obtain ⟨ls,q1,q2,q3,q4⟩:=ih m e cs0 _ hpe k2
       exact ⟨(cs0,ls),fun _=>⟨k1,q1,q2,q3,q4⟩⟩
      ·exact ⟨([],[]),fun h=>absurd h hi⟩
     obtain ⟨F,hF⟩:=Classical.axiomOfChoice H1
     obtain ⟨b0,o0,s0⟩:=a
     simp only at hsp hh
     subst hsp
     have hlen:((List.range len).map fun i=>gF P e (F i).2).length=len:=by simp
     refine fin (.slice (some ⟨b0,o0,none⟩) len cap) (.fs (P.cellsOf e) ((List.range len).map fun i=>gF P e (F i).2)) rfl ?_ ?_
     ·have hV:=aN.fs (w:=w) (OK:=fun b=>b<w.heap.size) aA.none b0 o0 cap (P.cellsOf e) T c fz ((List.range len).map fun i=>gF P e (F i).2)
       (fun i=>if sQ P e then .agg (F i).1.toArray else (F i).1.headD undef) (Sk.1 hh).1 hh (by rw [hlen]; exact hl) (fun i hi=>?_) (fun i hi=>?_) (fun i hi j hj=>?_)
      ·rw [hlen] at hV; exact hV
      ·obtain ⟨_,k2,k3,_,k5⟩:=hF i (by rwa [hlen] at hi)
       simp only [Sv,List.getElem_range,gF]
       split
       ·refine .agg _ _ _ (by simp [k2]) (fun j=>(F i).1.getD j undef) (fun j hj=>?_) (fun j hj=>?_)
        ·obtain ⟨v,e1,e2,_⟩:=k5 j hj
         simp [e1,e2]
        ·obtain ⟨v,e1,_,e3⟩:=k5 j hj
         simpa [RC,e1] using e3
       ·have h0:0<(F i).2.length:=by omega
        obtain ⟨v,e1,e2,e3⟩:=k5 0 h0
        have e4:(F i).1.headD undef=v:=by
         cases hF1:(F i).1 with
         | nil=>rw [hF1] at e1; simp at e1
         | cons y r=>rw [hF1] at e1; simpa using e1
        rw [e4,ya _ _ h0]; exact e3
      ·obtain ⟨_,k2,k3,_,k5⟩:=hF i (by rwa [hlen] at hi)
       split
       ·refine ⟨by simp [Value.cells,k3],fun y hy=>?_⟩
        simp only [Value.cells] at hy
        obtain ⟨j,hj,rfl⟩:=Sz.1 hy
        obtain ⟨v,e1,e2,_⟩:=k5 j (by rw [k2]; simpa using hj)
        have:(F i).1[j]'(by simpa using hj)=v:=by rw [RD (by simpa using hj)] at e1; simpa using e1
        simpa [this] using e2
       ·rename_i hagg
        have h0:0<(F i).2.length:=by omega
        obtain ⟨v,e1,e2,e3⟩:=k5 0 h0
        have e4:(F i).1.headD undef=v:=by
         cases hF1:(F i).1 with
         | nil=>rw [hF1] at e1; simp at e1
         | cons y r=>rw [hF1] at e1; simpa using e1
        have hc1':P.cellsOf e=1:=lJ hpe (by simpa using hagg)
        rw [e4]
        cases v <;> simp [Value.oneCell'] at e2 <;> simp [Value.cells,cj,hc1',Value.oneCell']
      ·obtain ⟨k1,k2,k3,_,k5⟩:=hF i (by rwa [hlen] at hi)
       obtain ⟨_,q⟩:=KM k1
       obtain ⟨v,q1,q2⟩:=q j hj
       rw [sI _ _ _ rfl] at q2
       simp only [World.cell?,hh,Option.isSome_none,Sa,S3] at q2
       rw [q2]
       split
       ·simp [Value.cells,q1]
       ·rename_i hagg
        have hc1':P.cellsOf e=1:=lJ hpe (by simpa using hagg)
        obtain rfl:j=0:=by omega
        obtain ⟨v',e1,e2,_⟩:=k5 0 (by omega)
        have e4:(F i).1.headD undef=v:=by
         cases hF1:(F i).1 with
         | nil=>rw [hF1] at q1; simp at q1
         | cons y r=>rw [hF1] at q1; simpa using q1
        obtain rfl:v=v':=S4 (q1.symm.trans e1)
        rw [e4]
        cases v <;> simp [Value.oneCell'] at e2 <;> rfl
     ·simp only [TC,hu]
      refine .inr ⟨_,rfl,?_,fun y hy=>?_⟩
      ·have h2:maxLen=9223372036854775807:=by decide
       rw [hlen]; omega
      ·simp only [R1,SD] at hy
       obtain ⟨i,hi,rfl⟩:=hy
       obtain ⟨_,k2,k3,k4,_⟩:=hF i hi
       exact ⟨_,k4,by omega,rfl⟩
  ·
   rename_i fs hu
   simp only [Sf,RZ] at hp
   obtain ⟨hp1,hp2⟩:=hp
   obtain ⟨xs,m,rfl,_,hcl,hxl,hall⟩:=DataW.trod_struct hu h
   have key:∀(r:List Field) (k:Nat),oy P k r (P.cellsOf t)=true->(∀f∈r,fc P n f.type=true/\∃y,DataW.trod enc P w 0 (fun _=>true) held m f.type ((cs.drop f.offset).take (P.cellsOf f.type))=some y) ->
     k<=P.cellsOf t/\∃ls:List AV,k+ls.length=P.cellsOf t/\TCs P (TC P n) r ls/\∀i (h:i<ls.length),∃v,cs[k+i]?=some v/\v.oneCell'=true/\aN w (fun b=>b<w.heap.size) aA.none v ls[i]:=by
    intro r
    induction r with
    | nil=>
     intro k hk _
     simp only [oy,S9] at hk
     exact ⟨by omega,[],by simpa using hk,rfl,fun i hi=>by simp at hi⟩
    | cons f r ihr=>
     intro k hk hf
     simp only [oy,Sf,S9] at hk
     obtain ⟨hko,hk⟩:=hk
     obtain ⟨hle,ls2,l1,l2,l3⟩:=ihr _ hk (fun g hg=>hf g (by simp [hg]))
     obtain ⟨hpf,y,hy⟩:=hf f (by simp)
     obtain ⟨ls1,q1,q2,q3,q4⟩:=ih m _ _ _ hpf hy
     refine ⟨by omega,ls1++ls2,by simp; omega,⟨ls1,ls2,rfl,q3,by omega,l2⟩,fun i hi=>?_⟩
     by_cases h1:i<ls1.length
     ·obtain ⟨v,e1,e2,e3⟩:=q4 i h1
      refine ⟨v,?_,e2,by rw [R5 h1]; exact e3⟩
      rw [SZ (by omega),SJ] at e1
      rw [<-hko]; exact e1
     ·have hi2:i-ls1.length<ls2.length:=by simp at hi; omega
      obtain ⟨v,e1,e2,e3⟩:=l3 (i-ls1.length) hi2
      refine ⟨v,?_,e2,by rw [Sn (by omega)]; exact e3⟩
      rw [<-e1]; congr 1; omega
   obtain ⟨_,ls,l1,l2,l3⟩:=key fs.toList 0 hp2 (fun f hf=>⟨hp1 f hf,by
    obtain ⟨i,hi,rfl⟩:=Sz.1 hf
    have hi':i<fs.size:=by simpa using hi
    have:=hall i fs[i] (by simp [hi'])
    rw [RD (show i<xs.length by omega)] at this
    exact ⟨_,by simpa using this⟩⟩)
   refine ⟨ls,by omega,hcl,by simp only [TC,hu]; exact l2,fun i hi=>?_⟩
   obtain ⟨v,e1,e2,e3⟩:=l3 i hi
   exact ⟨v,by simpa using e1,e2,e3⟩
  ·
   rename_i m' e hu
   simp only [Sf,S9] at hp
   obtain ⟨⟨hsz,hpos⟩,hpe⟩:=hp
   obtain ⟨xs,m,rfl,_,hcl,hxl,hall⟩:=DataW.trod_array hu h
   have key:∀(r k:Nat),k+r=m'->∃ls:List AV,ls.length=r*P.cellsOf e/\TCa (TC P n e) (P.cellsOf e) r ls/\∀i (h:i<ls.length),∃v,cs[k*P.cellsOf e+i]?=some v/\v.oneCell'=true/\aN w (fun b=>b<w.heap.size) aA.none v ls[i]:=by
    intro r
    induction r with
    | zero=>intro k _; exact ⟨[],by simp,rfl,fun i hi=>by simp at hi⟩
    | succ r ihr=>
     intro k hk
     obtain ⟨ls2,l1,l2,l3⟩:=ihr (k+1) (by omega)
     have hy:=hall k (by omega)
     rw [RD (show k<xs.length by omega)] at hy
     obtain ⟨ls1,q1,q2,q3,q4⟩:=ih m _ _ _ hpe hy
     refine ⟨ls1++ls2,by simp [l1,q1,q2,RU]; omega,⟨ls1,ls2,rfl,q3,by omega,l2⟩,fun i hi=>?_⟩
     by_cases h1:i<ls1.length
     ·obtain ⟨v,e1,e2,e3⟩:=q4 i h1
      refine ⟨v,?_,e2,by rw [R5 h1]; exact e3⟩
      rw [SZ (by omega),SJ] at e1
      exact e1
     ·have hi2:i-ls1.length<ls2.length:=by simp at hi; omega
      obtain ⟨v,e1,e2,e3⟩:=l3 (i-ls1.length) hi2
      refine ⟨v,?_,e2,by rw [Sn (by omega)]; exact e3⟩
      rw [<-e1]; congr 1; rw [RU]; omega
   obtain ⟨ls,l1,l2,l3⟩:=key m' 0 (by omega)
   refine ⟨ls,by omega,hcl,by simp only [TC,hu]; exact l2,fun i hi=>?_⟩
   obtain ⟨v,e1,e2,e3⟩:=l3 i hi
   exact ⟨v,by simpa using e1,e2,e3⟩
  ·cases hp
theorem Dn {d:DataW H} {ps:List MemPlace} (hp:fc P n t=true) (hv:sQ P t=true->∃cs,v=.agg cs) (hv':sQ P t=false->v.oneCell'=true) (h:DataW.Trod enc P w 0 (fun _=>true) held t v d ps) :
  ∃a,TA P n t a/\aN w (fun b=>b<w.heap.size) aA.none v a:=by
 obtain ⟨fuel,h⟩:=h
 obtain ⟨ls,h1,h2,h3,h4⟩:=wS n fuel t _ _ hp h
 refine ⟨_,⟨ls,h3,by omega,rfl⟩,?_⟩
 unfold gF
 cases ha:sQ P t with
 | true=>
  obtain ⟨cs,rfl⟩:=hv ha
  rw [RL rfl]
  simp only [Value.cells] at h1 h4
  refine .agg _ _ _ (by simpa using h1.symm) (fun i=>cs.getD i undef) (fun i hi=>?_) (fun i hi=>?_)
  ·obtain ⟨v,e1,e2,_⟩:=h4 i hi
   have e1':cs[i]?=some v:=by simpa using e1
   simp [e1',e2]
  ·obtain ⟨v,e1,_,e3⟩:=h4 i hi
   have e1':cs[i]?=some v:=by simpa using e1
   simpa [Sd,e1'] using e3
 | false=>
  have hone:=hv' ha
  have hc:v.cells.toList=[v]:=by cases v <;> simp [Value.oneCell'] at hone <;> rfl
  rw [hc] at h1 h4
  simp only [Sa,S3]
  match ls,h1,h4 with
  | [a],_,h4=>
   obtain ⟨v',e1,_,e3⟩:=h4 0 (by simp)
   simp only [Sw,Ry] at e1
   subst e1
   exact e3
end
open Go.ChangeShapes Go.WideShapes Go.RowKit
def fD (P:Program) (n:Nat):List TypeId->List AV->Prop
 | [],[]=>True
 | t :: ts,a :: r=>TA P n t a/\fD P n ts r
 | _,_=>False
theorem M3 (h:Ext W OK aA.none W' OK' aA.none) (may:MemPlace->Prop):W.keptBut W' may:=by
 refine ⟨h.os,h.output,fun i hi=>?_⟩
 have e:=h.blk i hi (fun _ _ (hx:_∈[])=>by cases hx)
 rw [e]
 cases W.heap[i]? with
 | none=>rfl
 | some o=>cases o <;> first | exact ⟨rfl,rfl,rfl,fun _ _=>rfl⟩ | exact .inr ⟨rfl,rfl⟩ | rfl
section
variable {H:Type} {enc:TypeId × Value->H} {P:Program}
theorem vT {r:Reach} {b:Nat} (h:Value.okWide P w r b t v) (ha:sQ P t=true):∃cs,v=.agg cs:=by
 unfold sQ at ha
 unfold Value.okWide at h
 split at ha
 ·rename_i hu; rw [hu] at h; obtain ⟨cs,h,_⟩:=h; exact ⟨cs,h⟩
 ·rename_i hu; rw [hu] at h; obtain ⟨cs,h,_⟩:=h; exact ⟨cs,h⟩
 ·cases ha
theorem vS {r:Reach} {b:Nat} (h:Value.okWide P w r b t v) (hp:fc P n t=true) (ha:sQ P t=false):v.oneCell'=true:=by
 cases n with
 | zero=>cases hp
 | succ n=>
  unfold fc at hp
  unfold sQ at ha
  unfold Value.okWide Cell.okWide Cell.ok at h
  cases hu:P.underlying t with
  | none=>rw [hu] at hp; cases hp
  | some d=>
   rw [hu] at h hp ha
   cases d <;> simp only [reduceCtorEq,Sa] at hp ha <;> cases v <;> simp_all [Value.oneCell']
theorem su:∀(ts:List TypeId) (vs:List Value) (ds:List (DataW H)) (ps:List MemPlace),(∀t∈ts,fc P n t=true)->(∀(j:Nat) t v,ts[j]?=some t->vs[j]?=some v->∃r b,Value.okWide P W r b t v) ->
  DataW.TrodAll enc P W 0 (fun _=>true) true ts vs ds ps->ds.length=ts.length/\∃ls,fD P n ts ls/\bH W (fun b=>b<W.heap.size) aA.none vs ls
 | [],[],[],ps,_,_,_=>⟨rfl,[],trivial,trivial⟩
 | t :: ts,v :: vs,d :: ds,ps,hp,hv,h=>by
  obtain ⟨p,q,h1,h2,_⟩:=h
  obtain ⟨r,b,hv0⟩:=hv 0 t v rfl rfl
  obtain ⟨a,ha1,ha2⟩:=Dn (hp t (by simp)) (vT hv0) (vS hv0 (hp t (by simp))) h1
  obtain ⟨hl,ls,h3,h4⟩:=su ts vs ds q (fun u hu=>hp u (by simp [hu])) (fun j t' v' e1 e2=>hv (j+1) t' v' (by simpa using e1) (by simpa using e2)) h2
  exact ⟨by simp [hl],a :: ls,⟨ha1,h3⟩,⟨ha2,h4⟩⟩
 | [],[],_ :: _,_,_,_,h=>h.elim
 | [],_ :: _,_,_,_,_,h=>h.elim
 | _ :: _,[],_,_,_,_,h=>h.elim
 | _ :: _,_ :: _,[],_,_,_,h=>h.elim
theorem sw {sp:Nat->Bool} (hl:laidOutB P=true):∀(ts:List TypeId) (vs:List Value) (ds:List (DataW H)) (ps:List MemPlace),(∀t∈ts,P.readableRec t=true/\t<P.types.size) ->
  (∀p∈ps,W.sameAt W' p/\sp p.block=true)->DataW.TrodAll enc P W 0 (fun _=>true) true ts vs ds ps->DataW.TrodAll enc P W' 0 sp true ts vs ds ps
 | [],[],[],ps,_,_,h=>h
 | t :: ts,v :: vs,d :: ds,ps,hp,hs,h=>by
  obtain ⟨p,q,h1,h2,rfl⟩:=h
  exact ⟨p,q,WideElems.Trod_stays hl (hp t (by simp)).1 (hp t (by simp)).2 h1 (fun x hx=>(hs x (by simp [hx])).1) (fun x hx=>(hs x (by simp [hx])).2),
   sw hl ts vs ds q (fun u hu=>hp u (by simp [hu])) (fun x hx=>hs x (by simp [hx])) h2,rfl⟩
 | [],[],_ :: _,_,_,_,h=>h.elim
 | [],_ :: _,_,_,_,_,h=>h.elim
 | _ :: _,[],_,_,_,_,h=>h.elim
 | _ :: _,_ :: _,[],_,_,_,h=>h.elim
theorem vN (h:Ext W OK aA.none W' OK' aA.none) (p:MemPlace) (hp:p.block<W.heap.size):W.sameAt W' p:=by
 cases p with
 | cell b off=>
  have e:=h.blk b hp (fun _ _ (hx:_∈[])=>by cases hx)
  simp only [World.sameAt,World.cell?,e]
 | map b=>exact h.blk b hp (fun _ _ (hx:_∈[])=>by cases hx)
theorem rF {fn:Func} {n:Nat} {M:aI} (hs:an P G f M) (hM:∀args,fD P n fn.params.toList args->M args=some (.bool true))
  {Hc:ChangeSpec} (hspec:∀ds:List (DataW H),ds.length=fn.params.toList.length->Hc.fn H ds={results:=[.lit (.bool true)],args:=ds}) (hvars:Hc.vars=[])
  (hp:fn.params.toList.all (fun t=>fc P n t && P.readableRec t && Nat.blt t P.types.size)=true) (hl:laidOutB P=true) {tb:TypeId} (hres:fn.resultTypes=#[tb]) (hb:P.underlying tb=some .bool)
  {W:World} {base:Nat} {args:Array Value} {ds gs:List (DataW H)} {before:List MemPlace} (hval:∀(j:Nat) t v,fn.params[j]?=some t->args[j]?=some v->Value.okWide P W .any base t v)
  (hW:DataW.Whole enc P fn.params.toList Hc.vars false W args.toList ds gs before) (hG:zX G W (fun b=>b<W.heap.size)) :
  Calls P f args W fun e W'=>∃v,e=.returned v/\Hc.post enc P fn false true false false W args v W':=by
 have hW':=hW
 have hlt:=hW.lt
 obtain ⟨p,q,hA,hV,rfl,hfz,hnd⟩:=hW
 rw [hvars] at hV
 obtain ⟨rfl,rfl⟩:=trodVars_none hV
 rw [RZ] at hp
 have hp':∀t∈fn.params.toList,fc P n t=true/\P.readableRec t=true/\t<P.types.size:=fun t ht=>by
  have:=hp t ht
  simp only [Sf] at this
  exact ⟨this.1.1,this.1.2,by simpa [Nat.blt_eq] using this.2⟩
 obtain ⟨hdl,ls,h1,h2⟩:=su (n:=n) _ _ _ _ (fun t ht=>(hp' t ht).1) (fun j t v e1 e2=>⟨_,_,hval j t v (by simpa using e1) (by simpa using e2)⟩) hA
 have hc:=hs.2 ls _ (hM ls h1) W (fun b=>b<W.heap.size) args.toList (fun _ h=>h) hG h2
 rw [TF] at hc
 refine hc.mono ?_
 rintro e W1 ⟨v,OK',rfl,hv,_,hx⟩
 obtain rfl:=hv.inv_bool
 refine ⟨_,rfl,ds,[],p++[],[],p,[],hW',?_,?_,?_,M3 hx _,fun h=>by cases h⟩
 ·rw [Sm,hspec ds hdl,hres]
  exact trodAll_cons_mk (shut_bool hb _) trodAll_mk0
 ·rw [Sm,hspec ds hdl]
  exact sw hl _ _ _ _ (fun t ht=>(hp' t ht).2) (fun x hx'=>⟨vN hx x (hlt x (by simp [hx'])),by simpa using hlt x (by simp [hx'])⟩) hA
 ·rw [Sm,hspec ds hdl,hvars]
  rfl
variable {n:Nat} {t e:TypeId} {a:AV}
theorem p8 {d:TypeDesc} (hu:P.underlying t=some d) (h:(match d with | .struct _=>true | .array _ _=>true | _=>false)=false):sQ P t=false:=by
 unfold sQ; rw [hu]
 cases d <;> simp_all
theorem TA.int {k:IntKind} (hu:P.underlying t=some (.int k)) (h:TA P n t a):∃z,a=.int k z/\k.min<=z/\z<=k.max:=by
 obtain ⟨xs,h1,_,rfl⟩:=h
 cases n with
 | zero=>exact h1.elim
 | succ n=>
  simp only [TC,hu] at h1
  obtain ⟨z,rfl,h2⟩:=h1
  exact ⟨z,by simp [gF,p8 hu rfl],h2⟩
theorem TA.i64 (hu:P.underlying t=some (.int .i64)) (h:TA P n t a):∃z,a=.int .i64 z/\inI z:=by
 obtain ⟨z,h1,h2,h3⟩:=TA.int hu h
 exact ⟨z,h1,h2,h3⟩
theorem TA.slice (hu:P.underlying t=some (.slice e)) (h:TA P (n+1) t a):a=.nilS\/∃es,a=.fs (P.cellsOf e) es/\es.length<=9223372036854775807/\∀x∈es,TA P n e x:=by
 obtain ⟨xs,h1,_,rfl⟩:=h
 simp only [TC,hu] at h1
 have hw:∀x,gF P t [x]=x:=fun x=>by simp [gF,p8 hu rfl]
 rcases h1 with rfl | ⟨es,rfl,h2,h3⟩
 ·exact .inl (hw _)
 ·exact .inr ⟨es,hw _,h2,h3⟩
theorem TA.agg (ha:sQ P t=true) (h:TA P n t a):∃xs,a=.agg xs/\TC P n t xs/\xs.length=P.cellsOf t:=by
 obtain ⟨xs,h1,h2,rfl⟩:=h
 exact ⟨xs,by simp [gF,ha],h1,h2⟩
theorem fD.cons {ts:List TypeId} {args:List AV} (h:fD P n (t :: ts) args):∃a r,args=a :: r/\TA P n t a/\fD P n ts r:=by
 cases args with
 | nil=>exact h.elim
 | cons a r=>exact ⟨a,r,rfl,h.1,h.2⟩
theorem fD.nil {args:List AV} (h:fD P n [] args):args=[]:=by
 cases args with
 | nil=>rfl
 | cons a r=>exact h.elim
end
def SlA (esz:Nat) (xs:List AV) (a:AV):Prop:=(a=.nilS/\xs=[])\/a=.fs esz xs
section
variable {esz:Nat} {xs:List AV} {a:AV} {A:ac}
theorem SlA.len (h:SlA esz xs a):az a=some (.int .i64 (xs.length:Int)):=by
 rcases h with ⟨rfl,rfl⟩ | rfl <;> rfl
theorem SlA.src (h:SlA esz xs a):aS esz A a=some xs:=by
 rcases h with ⟨rfl,rfl⟩ | rfl <;> simp
theorem SlA.index (h:SlA esz xs a) {x:AV} (hx:xs[i]?=some x) (hs:x.solid=true) (he:0<esz) (k:IntKind):au esz A a (.int k (i:Int))=some (.fp (cellsOf x)):=by
 rcases h with ⟨rfl,rfl⟩ | rfl
 ·simp at hx
 ·simp [au,hx,hs,he,-AV.solid]
theorem SlA.index1 (h:SlA 1 xs a) {x:AV} (hx:xs[i]?=some x) (hs:x.solid=true) (hc:cellsOf x=[x]) (k:IntKind):au 1 A a (.int k (i:Int))=some (.fp [x]):=by
 rw [h.index hx hs (by omega),hc]
theorem SlA.int (zs:List Int) (k:IntKind) (h:SlA 1 (zs.map (.int k)) a) (hz:zs[i]?=some z) (k':IntKind):au 1 A a (.int k' (i:Int))=some (.fp [.int k z]):=
 h.index1 (by simp [hz]) rfl rfl k'
theorem SlA.frz (h:SlA esz xs a) (n:Nat):frz A n a=a:=by
 rcases h with ⟨rfl,rfl⟩ | rfl <;> cases n <;> rfl
theorem gg {α:Type} {f:α->AV} {p:α->Prop}:∀ {l:List AV},(∀x∈l,∃z,x=f z/\p z)->∃zs:List α,l=zs.map f/\∀z∈zs,p z
 | [],_=>⟨[],rfl,fun _ h=>by cases h⟩
 | x :: l,h=>by
  obtain ⟨z,rfl,hz⟩:=h x (by simp)
  obtain ⟨zs,rfl,hzs⟩:=gg (l:=l) (fun y hy=>h y (by simp [hy]))
  exact ⟨z :: zs,rfl,fun y hy=>by
   rcases Sx.1 hy with rfl | hy
   ·exact hz
   ·exact hzs y hy⟩
variable {P:Program} {n:Nat} {t e:TypeId}
theorem TA.sl (hu:P.underlying t=some (.slice e)) (h:TA P (n+1) t a):∃es,SlA (P.cellsOf e) es a/\es.length<=9223372036854775807/\∀x∈es,TA P n e x:=by
 rcases TA.slice hu h with rfl | ⟨es,h1,h2,h3⟩
 ·exact ⟨[],.inl ⟨rfl,rfl⟩,by simp,fun _ h=>by cases h⟩
 ·exact ⟨es,.inr h1,h2,h3⟩
theorem TA.ints (hu:P.underlying t=some (.slice e)) (he:P.underlying e=some (.int .i64)) (hc:P.cellsOf e=1) (h:TA P (n+1) t a):∃zs:List Int,SlA 1 (zs.map (.int .i64)) a/\zs.length<=9223372036854775807/\∀z∈zs,inI z:=by
 obtain ⟨es,h1,h2,h3⟩:=TA.sl hu h
 obtain ⟨zs,rfl,h4⟩:=gg (f:=AV.int .i64) (p:=inI) (fun x hx=>TA.i64 he (h3 x hx))
 rw [hc] at h1
 exact ⟨zs,h1,by simpa using h2,h4⟩
end
theorem AK (a b:Nat) (k k':IntKind):g7 false (.int k (a:Int)) (.int k' (b:Int))=some (.int k ((min a b:Nat):Int)):=by
 unfold g7
 simp only [Sa,S3]
 congr 2
 split <;> omega
theorem AQ (a b:Nat) (k k':IntKind):g7 true (.int k (a:Int)) (.int k' (b:Int))=some (.int k ((max a b:Nat):Int)):=by
 unfold g7
 simp only [SP]
 congr 2
 split <;> omega
theorem rP {A:ac}:∀(n:Nat) (a:AV),bu n a=true->frz A n a=a
 | 0,a,h=>by cases a <;> simp_all [bu,frz]
 | n+1,a,h=>by
  have ih:=rP (A:=A) n
  have hm:∀cs:List AV,(∀x∈cs,bu n x=true)->cs.map (frz A n)=cs:=fun cs hc=>by
   conv=>rhs; rw [<-List.map_id cs]
   exact Sc fun x hx=>ih x (hc x hx)
  cases a <;> simp only [bu,Sa,RZ,Sf] at h <;> simp only [frz]
  ·rw [hm _ h]
  ·rw [hm _ h]
  ·rw [hm _ h.1,hm _ h.2]
  ·rw [ih _ h]
theorem nM {g2:aA} (hn:bu n a=true) (h:aN w OK g v a) (hok:∀b,OK b->OK2 b):aN w OK2 g2 v a:=by
 have:=nN (A:=[]) n a v hn h
 rw [rP n a hn] at this
 exact this.mono hok (fun _ _=>rfl) _ g2.none_le
def mV (n:Nat):Ent->Bool
 | .row _ _ es=>es.all (bu n)
 | .map kvs=>kvs.all fun x=>bu n x.1 && bu n x.2
 | .loop ..=>true
 | .dead=>false
theorem mI.noRef {g2:aA} {incs:List Inc} {e:Ent} (h:mI w OK g incs e) (hn:mV n e=true) (hok:∀b,OK b->OK2 b):mI w OK2 g2 incs e:=by
 cases e with
 | row s gr es=>
  simp only [mV,RZ] at hn
  refine ⟨h.1,fun inc hi=>?_⟩
  obtain ⟨h1,h2,h3,c,T,fz,h4,h5,h6,h7⟩:=h.2 inc hi
  refine ⟨h1,h2,h3,c,T,fz,h4,h5,h6,fun i hi hn'=>?_⟩
  obtain ⟨v,k1,k2,k3⟩:=h7 i hi hn'
  exact ⟨v,nM (hn _ (RM _)) k1 hok,k2,k3⟩
 | map kvs=>
  simp only [mV,RZ,Sf] at hn
  obtain ⟨inc,rfl,es,clock,h1,h2,hst,h3⟩:=h
  refine ⟨inc,rfl,es,clock,h1,h2,hst,fun i hi=>?_⟩
  obtain ⟨e,e1,e2,e3⟩:=h3 i hi
  have:=hn _ (RM hi)
  exact ⟨e,e1,nM this.1 e2 hok,nM this.2 e3 hok⟩
 | loop r k=>exact h
 | dead=>trivial
section
variable {P:Program} {G:Nat->Option (List AV)}
theorem bZ.killFirst (h:bZ w OK g A) (k:Nat) (hk:k<=A.length):bZ w OK g (List.replicate k .dead++A.drop k):=by
 have hl:(List.replicate k Ent.dead++A.drop k).length=A.length:=by simp; omega
 have hlt:∀id,id<k->(List.replicate k Ent.dead++A.drop k)[id]?=some .dead:=fun id hid=>by
  rw [RE (by simpa using hid)]; simp [hid]
 have hge:∀id,k<=id->(List.replicate k Ent.dead++A.drop k)[id]?=A[id]?:=fun id hid=>by
  rw [RS (by simpa using hid)]
  simp only [Tw,SJ]
  congr 1; omega
 have hlive:∀id,(List.replicate k Ent.dead++A.drop k)[id]?≠some Ent.dead->A[id]?≠some Ent.dead:=fun id hd=>by
  by_cases e:id<k
  ·exact absurd (hlt id e) hd
  ·rwa [hge id (by omega)] at hd
 refine ⟨fun id hid=>?_,fun id hid=>h.out id (by omega),fun id id' i i' hd hd'=>h.one id id' i i' (hlive _ hd) (hlive _ hd'),h.apart,h.low,h.ok⟩
 by_cases e:id<k
 ·have:=hlt id e
  rw [RD hid] at this
  injection this with this
  rw [this]; trivial
 ·have:=hge id (by omega)
  rw [RD hid,RD (by omega)] at this
  injection this with this
  rw [this]; exact h.ent id (by omega)
open Classical in
def CC (n:Nat) (M:sJ):sJ:=fun args A=>
 match M args A with
 | some (r,A')=>if A'.take A.length=A/\A.all (mV n)=true then some (frz (List.replicate A.length .dead++A'.drop A.length) n r,A) else none
 | none=>none
theorem fq.fresh {M:sJ} (h:fq P G f M) (n:Nat):fq P G f (CC n M):=by
 refine ⟨h.1,fun args A r A1 he w OK g vs hA hG hl=>?_⟩
 unfold CC at he
 split at he
 ·rename_i r0 A' hM
  simp only [Rz,Ry,RP] at he
  obtain ⟨⟨htk,hall⟩,rfl,rfl⟩:=he
  refine (h.2 args A r0 A' hM w OK g vs hA hG hl).mono ?_
  rintro e w' ⟨v,OK',g',rfl,hv,hA',hx⟩
  rw [RZ] at hall
  have hlen:A.length<=A'.length:=by
   have:=T3 List.length htk
   simp at this; omega
  have hold:∀id,id<A.length->A'[id]?=A[id]?:=fun id hid=>by
   have:=T3 (fun l:ac=>l[id]?) htk
   simp only [SZ hid] at this
   exact this
  have hlive:∀id,id<A.length->A'[id]?≠some .dead:=fun id hid e=>by
   rw [hold id hid,RD hid] at e
   injection e with e
   have:=hall _ (RM hid)
   rw [e] at this; cases this
  have hge:∀id,A.length<=id->(List.replicate A.length Ent.dead++A'.drop A.length)[id]?=A'[id]?:=fun id hid=>by
   rw [RS (by simpa using hid)]
   simp only [Tw,SJ]
   congr 1; omega
  have hin:∀id,id<A.length->(List.replicate A.length Ent.dead++A'.drop A.length)[id]?=some .dead:=fun id hid=>by
   rw [RE (by simpa using hid)]; simp [hid]
  have hnew:∀id inc,A.length<=id->A'[id]?≠some .dead->inc∈g' id->w.heap.size<=inc.b:=fun id inc hid hd hi=>by
   rcases hx.fresh id inc hi with ⟨id0,inc0,h0,h1⟩ | h1
   ·exfalso
    have hid0:id0<A.length:=by
     rcases Ta id0 A.length with h | h
     ·exact h
     ·rw [hA.out id0 h] at h0; cases h0
    obtain ⟨n',_,hm⟩:=hx.gle id0 inc0 h0
    have:=(hA'.one id id0 inc _ hd (hlive id0 hid0) hi hm h1.symm).1
    omega
   ·exact h1
  obtain ⟨OK2,hOK2⟩:∃OK2:Nat->Prop,∀b,OK2 b↔(OK' b\/∃id inc,A.length<=id/\A'[id]?≠some Ent.dead/\inc∈g' id/\inc.b=b):=⟨_,fun _=>Iff.rfl⟩
  obtain ⟨g2,hg2,hg2'⟩:∃g2:aA,(∀id,id<A.length->g2 id=g' id)/\∀id,A.length<=id->g2 id=[]:=
   ⟨fun id=>if id<A.length then g' id else [],fun id hid=>by simp [hid],fun id hid=>by simp [Nat.not_lt.2 hid]⟩
  have hlt2:∀id inc,inc∈g2 id->id<A.length:=fun id inc hi=>by
   rcases Ta id A.length with h | h
   ·exact h
   ·rw [hg2' id h] at hi; cases hi
  refine ⟨v,OK2,g2,rfl,?_,⟨fun id hid=>?_,hg2',fun id id' i i' hd hd' hi hi' e=>?_,fun id inc hi ho=>?_,fun id inc hi=>?_,fun b hb=>?_⟩,?_⟩
  ·have:=kz (OK2:=OK2) (hA'.killFirst A.length hlen) (fun b hb=>(hOK2 b).2 (.inl hb)) (fun id inc hd hi=>(hOK2 _).2 (.inr (by
    rcases Ta id A.length with h | h
    ·exact absurd (hin id h) hd
    ·rw [hge id h] at hd
     exact ⟨id,inc,h,hd,hi,rfl⟩))) n r0 v hv
   exact this.mono (fun _ h=>h) (fun _ _=>rfl) _ g2.none_le
  ·have h1:=hA'.ent id (by omega)
   have h2:=hold id hid
   rw [RD hid,RD (by omega)] at h2
   injection h2 with h2
   rw [h2] at h1
   rw [hg2 id hid]
   exact h1.noRef (hall _ (RM hid)) (fun b hb=>(hOK2 b).2 (.inl hb))
  ·have k1:=hlt2 _ _ hi
   have k2:=hlt2 _ _ hi'
   rw [hg2 _ k1] at hi
   rw [hg2 _ k2] at hi'
   exact hA'.one id id' i i' (hlive _ k1) (hlive _ k2) hi hi' e
  ·have k1:=hlt2 _ _ hi
   rw [hg2 _ k1] at hi
   rcases (hOK2 _).1 ho with h1 | ⟨id',inc',h1,h2,h3,h4⟩
   ·exact hA'.apart _ _ hi h1
   ·have:=(hA'.one id' id inc' inc h2 (hlive _ k1) h3 hi h4).1
    omega
  ·have k1:=hlt2 _ _ hi
   rw [hg2 _ k1] at hi
   exact hA'.low _ _ hi
  ·rcases (hOK2 _).1 hb with h1 | ⟨id',inc',h1,h2,h3,rfl⟩
   ·exact hA'.ok _ h1
   ·exact hA'.low _ _ h3
  ·refine {os:=hx.os,tape:=hx.tape,output:=hx.output,size:=hx.size,blk:=hx.blk,gle:=fun id inc hi=>?_,okle:=fun b hb=>(hOK2 b).2 (.inl (hx.okle b hb)),fresh:=fun id inc hi=>?_,okf:=fun b hb=>?_,loops:=hx.loops,fix:=fun id inc hi h0=>?_}
   ·have k:id<A.length:=by
     rcases Ta id A.length with h | h
     ·exact h
     ·rw [hA.out id h] at hi; cases hi
    rw [hg2 id k]
    exact hx.gle id inc hi
   ·have k1:=hlt2 _ _ hi
    rw [hg2 _ k1] at hi
    exact hx.fresh _ _ hi
   ·rcases (hOK2 _).1 hb with h1 | ⟨id',inc',h1,h2,h3,rfl⟩
    ·exact hx.okf _ h1
    ·exact .inr (hnew _ _ h1 h2 h3)
   ·have k:id<A.length:=by
     rcases Ta id A.length with h | h
     ·exact h
     ·rw [hA.out id h] at hi; cases hi
    rw [hg2 id k]
    exact hx.fix id inc hi h0
 ·cases he
end
section
variable {E:Env} {fuel:Nat} {a:MC} {mask:List Nat}
theorem nW (S:Nat->List AV) (B:Nat->ac) (N:Nat) (hc:∀i,clear mask (S i)=S i) (ho:∀ σ A,o≠.normal σ A)
  (hs:∀i,i<N->run E fuel [.code a] (S i) (B i)=some (.normal (S (i+1)) (B (i+1)))) (he:run E fuel [.code a] (S N) (B N)=some o) {m:Nat} (hm:N<m) :
  cc (evC E fuel a) mask m (S 0) (B 0)=some o:=by
 have key:∀k i m,i+k=N->k<m->cc (evC E fuel a) mask m (S i) (B i)=some o:=by
  intro k
  induction k with
  | zero=>
   intro i m hi hm
   obtain ⟨m,rfl⟩:∃j,m=j+1:=⟨m-1,by omega⟩
   obtain rfl:i=N:=by omega
   rw [aO,hc,he]
   cases o with
   | normal σ A=>exact absurd rfl (ho _ _)
   | exit _ _ _=>rfl
   | ret _ _=>rfl
  | succ k ih=>
   intro i m hi hm
   obtain ⟨m,rfl⟩:∃j,m=j+1:=⟨m-1,by omega⟩
   rw [aO,hc,hs i (by omega)]
   exact ih (i+1) m (by omega) (by omega)
 exact key N 0 m (by omega) hm
theorem cW (S:Nat->List AV) (B:Nat->ac) (n:Nat) (p:Nat->Prop) {oF:Nat->Out} {oE:Out} (hc:∀i,clear mask (S i)=S i) (hF:∀i σ A,oF i≠.normal σ A) (hE:∀ σ A,oE≠.normal σ A)
  (hs:∀i,i<n->¬ p i->run E fuel [.code a] (S i) (B i)=some (.normal (S (i+1)) (B (i+1)))) (hf:∀i,i<n->p i->run E fuel [.code a] (S i) (B i)=some (oF i)) (he:run E fuel [.code a] (S n) (B n)=some oE) {m:Nat} (hm:n<m) :
  ((∃i,i<n/\p i/\(∀j,j<i->¬ p j)/\cc (evC E fuel a) mask m (S 0) (B 0)=some (oF i))\/((∀i,i<n->¬ p i)/\cc (evC E fuel a) mask m (S 0) (B 0)=some oE)):=by
 by_cases h:∃i,i<n/\p i
 ·obtain ⟨i,⟨hi,hp⟩,hmin⟩:∃i,(i<n/\p i)/\∀j,j<i->¬ (j<n/\p j):=by
   obtain ⟨i,hi⟩:=h
   induction i using Nat.strongRecOn with
   | ind i ih=>
    by_cases hj:∃j,j<i/\(j<n/\p j)
    ·obtain ⟨j,hj,hp⟩:=hj
     exact ih j hj hp
    ·exact ⟨i,hi,fun j h hp=>hj ⟨j,h,hp⟩⟩
  have hmin':∀j,j<i->¬ p j:=fun j hj hp=>hmin j hj ⟨by omega,hp⟩
  exact .inl ⟨i,hi,hp,hmin',nW S B i hc (hF i) (fun j hj=>hs j (by omega) (hmin' j hj)) (hf i hi hp) (by omega)⟩
 ·have h':∀i,i<n->¬ p i:=fun i hi hp=>h ⟨i,hi,hp⟩
  exact .inr ⟨h',nW S B n hc hE (fun j hj=>hs j hj (h' j hj)) he hm⟩
end
def slA (esz:Nat) (es:List AV):AV:=match es with | []=>.nilS | _ :: _=>.fs esz es
section
variable {A:ac} {esz bytes:Nat} {es:List AV}
theorem bo (esz:Nat) (es:List AV):SlA esz es (slA esz es):=by
 cases es with
 | nil=>exact .inl ⟨rfl,rfl⟩
 | cons x r=>exact .inr rfl
end
open Classical in
def A5:AV->Option Int
 | .int .i64 z=>if inI z then some z else none
 | _=>none
def t8 {α:Type} (f:AV->Option α):List AV->Option (List α)
 | []=>some []
 | x :: r=>match f x,t8 f r with
  | some y,some l=>some (y :: l)
  | _,_=>none
def rE {α:Type} (f:AV->Option α):AV->Option (List α)
 | .nilS=>some []
 | .fs 1 es=>if es.length<=9223372036854775807 then t8 f es else none
 | _=>none
def lW (a:AV):Option (List Int):=rE A5 a
theorem lh {α:Type} {f:AV->Option α}:∀ {es:List AV} {xs:List α},t8 f es=some xs->es.length=xs.length/\∀i (h:i<es.length) (h':i<xs.length),f es[i]=some xs[i]
 | [],xs,h=>by injection h with h; subst h; exact ⟨rfl,fun i h=>by cases h⟩
 | x :: r,xs,h=>by
  unfold t8 at h
  split at h
  ·rename_i y l h1 h2
   injection h with h; subst h
   obtain ⟨k1,k2⟩:=lh (es:=r) h2
   refine ⟨by simp [k1],fun i h h'=>?_⟩
   cases i with
   | zero=>exact h1
   | succ i=>exact k2 i (by simpa using h) (by simpa using h')
  ·cases h
theorem oG {α:Type} {f:AV->Option α} {c:α->AV}:∀ {xs:List α},(∀x∈xs,f (c x)=some x)->t8 f (xs.map c)=some xs
 | [],_=>rfl
 | x :: r,h=>by
  simp only [SH,t8,h x (by simp),oG (xs:=r) (fun y hy=>h y (by simp [hy]))]
theorem xQ {α:Type} {f:AV->Option α} {xs:List α} (h:rE f a=some xs):∃es,SlA 1 es a/\es.length=xs.length/\(∀i (h:i<es.length) (h':i<xs.length),f es[i]=some xs[i])/\xs.length<=9223372036854775807:=by
 unfold rE at h
 split at h
 ·injection h with h; subst h
  exact ⟨[],.inl ⟨rfl,rfl⟩,rfl,fun i h=>(by cases h),by simp⟩
 ·rename_i es
  simp only [Rz] at h
  obtain ⟨k1,k2⟩:=lh h.2
  exact ⟨es,.inr rfl,k1,k2,by omega⟩
 ·cases h
theorem xR {α:Type} {f:AV->Option α} {c:α->AV} {xs:List α} (h:SlA 1 (xs.map c) a) (hl:xs.length<=9223372036854775807) (hc:∀x∈xs,f (c x)=some x):rE f a=some xs:=by
 rcases h with ⟨rfl,h2⟩ | rfl
 ·have:xs=[]:=by simpa using h2
  subst this; rfl
 ·simp only [rE,RR]
  rw [RL hl]
  exact oG hc
theorem pP (h:A5 a=some z):a=.int .i64 z/\inI z:=by
 unfold A5 at h
 split at h
 ·simp only [Rz,Ry] at h
  obtain ⟨h1,rfl⟩:=h
  exact ⟨rfl,h1⟩
 ·cases h
theorem xZ (h:inI z):A5 (.int .i64 z)=some z:=RL h
theorem jA {xs:List Int} (h:lW a=some xs):SlA 1 (xs.map (.int .i64)) a/\(∀z∈xs,inI z)/\xs.length<=9223372036854775807:=by
 obtain ⟨es,h1,h2,h3,h4⟩:=xQ h
 have:es=xs.map (.int .i64):=TO (by simpa using h2) fun i k1 k2=>by
  rw [(pP (h3 i k1 (by simpa using k2))).1]; simp
 refine ⟨this ▸ h1,fun z hz=>?_,h4⟩
 obtain ⟨i,hi,rfl⟩:=Sz.1 hz
 exact (pP (h3 i (by omega) hi)).2
theorem rJ {xs:List Int} (h:SlA 1 (xs.map (.int .i64)) a) (hl:xs.length<=9223372036854775807) (hr:∀z∈xs,inI z):lW a=some xs:=xR h hl fun x hx=>xZ (hr x hx)
theorem bC (a b:Nat) (k:IntKind):aq .lss (.int k (a:Int)) (.int k (b:Int))=some (.bool (decide (a<b))):=by
 simp [aq]
theorem bh (a:Nat) (h:a<9223372036854775807):aq .add (.int .i64 (a:Int)) (.int .i64 1)=some (.int .i64 ((a+1:Nat):Int)):=by
 have:IntKind.i64.wrap ((a:Int)+1)=((a+1:Nat):Int):=by rw [eg (by unfold inI; omega)]; omega
 simp only [aq]
 rw [RL trivial,this]
section
variable {P:Program} {G:Nat->Option (List AV)}
theorem ak.kill {M:aD} (h:ak P G f M):ak P G f (fun hd args A=>(M hd args A).map fun x=>(x.1,x.2.set A.length .dead)):=
 ⟨h.1,fun ys hd hs args A r A' he w OK g vs hA hI hl=>by
  simp only [RK,RP] at he
  obtain ⟨⟨r0,A0⟩,h1,rfl,rfl⟩:=he
  refine (h.2 ys hd hs args A r0 A0 h1 w OK g vs hA hI hl).mono ?_
  rintro e w' ⟨v,OK',g',rfl,k1,k2,k3⟩
  exact ⟨v,OK',g',rfl,k1,k2.kill _,k3⟩⟩
end
def a5 (A:ac):Nat->AV->Bool
 | _,.bool _=>true
 | _,.int ..=>true
 | _,.str _=>true
 | _,.nilS=>true
 | _,.nilP=>true
 | _,.nilM=>true
 | _,.nilF=>true
 | _,.nilI=>true
 | n+1,.agg cs=>cs.all (a5 A n)
 | n+1,.tup cs=>cs.all (a5 A n)
 | n+1,.iface _ v=>a5 A n v
 | n+1,.sl id off len=>match A[id]? with
  | some (.row _ _ es)=>((es.drop off).take len).all (a5 A n)
  | _=>false
 | n+1,.ptr id i o=>match A[id]? with
  | some (.row _ _ es)=>match es[i]? with
   | some e=>e.solid && decide (o<(cellsOf e).length) && (cellsOf e).all (a5 A n)
   | none=>false
  | _=>false
 | _,_=>false
section
variable {P:Program} {G:Nat->Option (List AV)}
theorem tM {w:World} {OK:Nat->Prop} (hA:bZ w OK g A) (h2:∀id inc,A[id]?≠some .dead->inc∈g id->OK2 inc.b):∀(n:Nat) (a:AV) (v:Value),a5 A n a=true->aN w OK g v a->aN w OK2 aA.none v (frz A n a):=by
 intro n
 induction n with
 | zero=>
  intro a v hs h
  cases a <;> simp only [a5,Sa] at hs <;> simp only [frz] <;> first
   | (have e:=h.inv_bool; rw [e]; exact .bool _ _)
   | (have e:=h.inv_int; rw [e]; exact .int _ _ _)
   | (obtain ⟨s,e,hs⟩:=h.inv_str; rw [e]; exact .str _ _ _ hs)
   | (obtain ⟨p,e⟩:=h.inv_nilS; rw [e]; exact .nilS _ _)
   | (have e:=h.inv_nilP; rw [e]; exact .nilP _)
   | (have e:=h.inv_nilM; rw [e]; exact .nilM _)
   | (cases h; exact .nilF _)
   | (cases h; exact .nilI _)
 | succ n ih=>
  intro a v hs h
  cases a <;> simp only [a5,Sa] at hs <;> simp only [frz] <;> try first
   | (have e:=h.inv_bool; rw [e]; exact .bool _ _)
   | (have e:=h.inv_int; rw [e]; exact .int _ _ _)
   | (obtain ⟨s,e,hs⟩:=h.inv_str; rw [e]; exact .str _ _ _ hs)
   | (obtain ⟨p,e⟩:=h.inv_nilS; rw [e]; exact .nilS _ _)
   | (have e:=h.inv_nilP; rw [e]; exact .nilP _)
   | (have e:=h.inv_nilM; rw [e]; exact .nilM _)
   | (cases h; exact .nilF _)
   | (cases h; exact .nilI _)
  case sl id off len=>
   split at hs
   ·rename_i s gr es hid
    try simp only [hid]
    rw [RZ] at hs
    obtain ⟨inc,cap,ao,hinc,rfl,hl,hn,hcap,ha⟩:=h.inv_sl
    obtain ⟨hlt',hrow⟩:=Rx.1 hid
    have hent:=hA.ent id hlt'
    rw [hrow] at hent
    obtain ⟨hesz,hne,hnc,c,T,fz,hh,hu,hcs,hel⟩:=hent.2 inc hinc
    have hlen:(((es.drop off).take len).map (frz A n)).length=len:=by simp; omega
    obtain ⟨vals,hvals⟩:∃vals:Nat->Value,∀i (hi:i<len),aN w OK g (vals i) (es[off+i]'(by omega))/\(vals i).cells.size=s/\cj (vals i)/\∀j,j<s->c[inc.o+(off+i)*s+j]?=(vals i).cells[j]?:=
     ⟨fun i=>if hi:i<len then (hel (off+i) (by omega) (by omega)).choose else undef,fun i hi=>by simp only [hi,UE]; exact (hel (off+i) (by omega) (by omega)).choose_spec⟩
    have hmem:∀i (hi:i<len),es[off+i]'(by omega)∈(es.drop off).take len:=fun i hi=>by
     refine Sz.2 ⟨i,by simp; omega,?_⟩
     simp
    have:=aN.fs (w:=w) (OK:=OK2) aA.none inc.b ao cap s T c fz (((es.drop off).take len).map (frz A n)) vals (h2 id inc (by rw [hid]; simp) hinc) hh (by omega)
     (fun i hi=>by simp only [Sv,SI,SB]; exact ih _ _ (hs _ (hmem i (by omega))) (hvals i (by omega)).1)
     (fun i hi=>⟨(hvals i (by omega)).2.1,(hvals i (by omega)).2.2.1⟩)
     (fun i hi j hj=>by
      rw [<-(hvals i (by omega)).2.2.2 j hj,ha (by omega),hesz]
      congr 1; rw [RU]; omega)
    rwa [hlen] at this
   ·cases hs
  case ptr id i o=>
   split at hs
   ·rename_i s gr es hid
    split at hs
    ·rename_i e he
     simp only [Sf,Sq] at hs
     obtain ⟨⟨hsol,ho⟩,hall⟩:=hs
     rw [RZ] at hall
     try simp only [hid,he]
     rw [RL ⟨hsol,ho⟩]
     obtain ⟨inc,hinc,rfl,hn,ho'⟩:=h.inv_ptr
     obtain ⟨hlt',hrow⟩:=Rx.1 hid
     obtain ⟨hi',rfl⟩:=Rx.1 he
     have hent:=hA.ent id hlt'
     rw [hrow] at hent
     obtain ⟨hesz,hne,hnc,c,T,fz,hh,hu,hcs,hel⟩:=hent.2 inc hinc
     obtain ⟨v,hv,hvs,hok,hc⟩:=hel i hi' hn
     obtain ⟨k1,k2,k3⟩:=hv.cells hsol
     obtain ⟨f,hf⟩:∃f:Nat->Value,∀j (hj:j<(cellsOf es[i]).length),v.cells[j]?=some (f j)/\(f j).oneCell'=true/\aN w OK g (f j) (cellsOf es[i])[j]:=
      ⟨fun j=>(v.cells[j]?).getD undef,fun j hj=>by
       obtain ⟨x,a1,a2,a3⟩:=k3 j hj
       simp only [a1,So]
       exact ⟨trivial,a2,a3⟩⟩
     refine .fp _ inc.b _ T c fz _ (fun j=>f (o+j)) (h2 id inc (by rw [hid]; simp) hinc) hh (by rw [RR,List.length_drop]; omega) (fun j hj=>?_) (fun j hj=>?_)
     ·simp only [Sv,SB]
      have hj':o+j<(cellsOf es[i]).length:=by rw [RR,List.length_drop] at hj; omega
      exact ih _ _ (hall _ (RM _)) (hf (o+j) hj').2.2
     ·have hj':o+j<(cellsOf es[i]).length:=by rw [RR,List.length_drop] at hj; omega
      refine ⟨?_,(hf (o+j) hj').2.1⟩
      rw [hesz,Tu,hc (o+j) (by omega)]
      exact (hf (o+j) hj').1
    ·cases hs
   ·cases hs
  case agg cs=>
   rw [RZ] at hs
   obtain ⟨vs,vals,rfl,hl,hg,hv⟩:=h.inv_agg
   exact .agg _ vs _ (by simpa using hl) vals (fun i hi=>hg i (by simpa using hi)) (fun i hi=>by simp only [Sv]; exact ih _ _ (hs _ (RM _)) (hv i (by simpa using hi)))
  case tup cs=>
   rw [RZ] at hs
   obtain ⟨vs,vals,rfl,hl,hg,hv⟩:=h.inv_tup
   exact .tup _ vs _ (by simpa using hl) vals (fun i hi=>hg i (by simpa using hi)) (fun i hi=>by simp only [Sv]; exact ih _ _ (hs _ (RM _)) (hv i (by simpa using hi)))
  case iface t x=>
   cases h with
   | iface _ t v a hv=>exact .iface _ t v _ (ih _ _ hs hv)
def bs (P:Program) (G:Nat->Option (List AV)) (f:FuncId) (M:aI):Prop:=
 Enters P f/\∀args r,M args=some r->∀(w:World) (OK:Nat->Prop) (vs:List Value),(∀b,OK b->b<w.heap.size)->zX G w OK->bH w OK aA.none vs args ->
  Calls P f vs.toArray w fun e w'=>∃v OK',e=.returned v/\aN w' (fun b=>OK' b/\w.heap.size<=b) aA.none v r/\(∀b,OK' b->b<w'.heap.size)/\Ext w OK aA.none w' OK' aA.none
def AI (n:Nat) (M:aI):sJ:=fun args A=>(M (args.map (frz A n))).map fun r=>(r,A)
def ck (n:Nat) (M:aI):aD:=fun _=>AI n M
theorem fq.of_pureF {M:aI} (h:bs P G f M) (n:Nat):fq P G f (AI n M):=by
 refine ⟨h.1,?_⟩
 intro args A r A' he w OK g vs hA hG hl
 unfold AI at he
 rw [RK] at he
 obtain ⟨r0,hM,he⟩:=he
 injection he with e1 e2
 subst e1; subst e2
 have hok2:∀b,(OK b\/∃id inc,inc∈g id/\inc.b=b)->b<w.heap.size:=fun b hb=>by
  rcases hb with hb | ⟨id,inc,hi,rfl⟩
  ·exact hA.ok b hb
  ·exact hA.low id inc hi
 have hl2:bH w (fun b=>OK b\/∃id inc,inc∈g id/\inc.b=b) aA.none vs (args.map (frz A n)):=hl.map fun v a _ hv=>kz hA (fun b hb=>Or.inl hb) (fun id inc _ hi=>Or.inr ⟨id,inc,hi,rfl⟩) n a v hv
 refine (h.2 _ _ hM w (fun b=>OK b\/∃id inc,inc∈g id/\inc.b=b) vs hok2 (hG.mono (fun b hb=>.inl hb) (fun _ _=>rfl)) hl2).mono ?_
 rintro e w' ⟨v,OK',rfl,hv,hok',hx⟩
 have hb:∀b,b<w.heap.size->w'.heap[b]?=w.heap[b]?:=fun b hb=>hx.blk b hb (fun _ _ (hi:_∈[])=>by cases hi)
 have hok3:∀b,(OK b\/(OK' b/\w.heap.size<=b))->b<w'.heap.size:=fun b hb=>by
  rcases hb with hb | hb
  ·exact Th (hA.ok b hb) hx.size
  ·exact hok' b hb.1
 have hv2:aN w' (fun b=>OK b\/(OK' b/\w.heap.size<=b)) aA.none v r0:=hv.mono (fun _ h=>.inr h) (fun _ _=>rfl) _ (aA.le_refl _)
 exact ⟨v,fun b=>OK b\/(OK' b/\w.heap.size<=b),g,rfl,hv2.none_to,
  hA.keep hx.size hb (fun b=>OK b\/(OK' b/\w.heap.size<=b)) (fun _ h=>.inl h) (fun _ h=>h.elim .inl fun h=>.inr h.2) hok3,
  hx.os,hx.tape,hx.output,hx.size,fun b hb' _=>hb b hb',g.le_refl,fun _ h=>.inl h,fun id inc hi=>.inl ⟨id,inc,hi,rfl⟩,fun _ h=>h.elim .inl fun h=>.inr h.2,hx.loops,fun _ _ _ _=>rfl⟩
theorem ak.of_pureF {M:aI} (h:bs P G f M) (n:Nat):ak P G f (ck n M):=(fq.of_pureF h n).y
def evF (E:Env) (fuel:Nat) (mf:bM) (n:Nat) (args:List AV):Option AV:=(bp E fuel mf args []).bind fun x=>if a5 x.2 n x.1=true then some (frz x.2 n x.1) else none
theorem eO (mf:bM) (args:List AV) (h:args.length=mf.n):evF E fuel mf n args=match run E fuel [.code mf.mc] (args++List.replicate (mf.len-mf.n) .undef) [] with
  | some (.normal σ A')=>(dV A' σ mf.res).bind fun l=>if a5 A' n (dw l)=true then some (frz A' n (dw l)) else none
  | some (.ret σ A')=>(dV A' σ mf.res).bind fun l=>if a5 A' n (dw l)=true then some (frz A' n (dw l)) else none
  | _=>none:=by
 unfold evF
 rw [aX mf args h]
 cases run E fuel [.code mf.mc] (args++List.replicate (mf.len-mf.n) .undef) [] with
 | none=>rfl
 | some o=>cases o with
  | normal σ A=>cases h1:dV A σ mf.res with
   | none=>simp [h1]
   | some l=>simp only [h1,SE,Sl]
  | exit id σ A=>rfl
  | ret σ A=>cases h1:dV A σ mf.res with
   | none=>simp [h1]
   | some l=>simp only [h1,SE,Sl]
theorem bs.of_ev {fn:Func} {k:Nat} {mf:bM} (hE:cM P E) (hys:E.ys=[]) (hf:P.funcs[f]?=some fn) (hc:aB P fn k vs pu on hints=some mf) (n:Nat) {M:aI}
  (hM:∀args r,M args=some r->∃fuel,evF E fuel mf n args=some r) (hpu:aW E pu:=by first | exact aW.nil | (repeat (first | exact aW.nil | refine aW.cons (M:=_) rfl ?_))):bs P E.glob f M:=by
 refine ⟨(aM (fuel:=0) hE hys hf hc hpu).1,?_⟩
 intro args r he w OK vs hok hG hl
 obtain ⟨fuel,h⟩:=hM args r he
 unfold evF at h
 rw [RG] at h
 obtain ⟨⟨r0,A'⟩,h1,h⟩:=h
 simp only [Rz,Ry] at h
 obtain ⟨hf2,rfl⟩:=h
 refine ((aM (fuel:=fuel) hE hys hf hc hpu).2 _ _ _ _ h1 w OK aA.none vs (bZ.nil hok) hG hl).mono ?_
 rintro e w' ⟨v,OK',g',rfl,hv,hA,hx⟩
 have hfr:∀id inc,inc∈g' id->w.heap.size<=inc.b:=fun id inc hi=>by
  rcases hx.fresh id inc hi with ⟨_,_,h0,_⟩ | h1
  ·cases h0
  ·exact h1
 refine ⟨v,fun b=>OK' b\/∃id inc,inc∈g' id/\inc.b=b,rfl,tM hA (fun id inc _ hi=>⟨.inr ⟨id,inc,hi,rfl⟩,hfr id inc hi⟩) n r0 v hf2 hv,?_,?_⟩
 ·rintro b (hb | ⟨id,inc,hi,rfl⟩)
  ·exact hA.ok b hb
  ·exact hA.low id inc hi
 ·refine ⟨hx.os,hx.tape,hx.output,hx.size,hx.blk,aA.le_refl _,fun b hb=>.inl (hx.okle b hb),fun _ _ (hi:_∈[])=>(by cases hi),?_,hx.loops,fun _ _ _ _=>rfl⟩
  rintro b (hb | ⟨id,inc,hi,rfl⟩)
  ·exact hx.okf b hb
  ·exact .inr (hfr id inc hi)
end
@[simp] theorem Im (n:Nat) (M:aI) (h:aR) (args:List AV) (A:ac):ck n M h args A=(M (args.map (frz A n))).map fun r=>(r,A):=rfl
namespace Cy
def IS:bM:=⟨2,4,.seq (.region [.e 2 0]) (.seq (.seq (.region [.a 0,.U 3 0 0]) (.cond (.var 3) (.region [.a 0,.t 0 1,.b1 1,.c 0 2]) .skip)) (.seq (.region [.a 0,.a 1,.c9 0 1,.c 2 2]) .ret)),[.tmp 2]⟩
theorem KB:aB Tryz.prog Tryz.f21 2 [0,1,4,6] [] true ([],[])=some IS:=by kernel_rfl
theorem at12:Tryz.prog.funcs[21]?=some Tryz.f21:=by kernel_rfl
def kR:bM:=⟨3,12,.seq (.region [.C 3,.C 4,.f 5]) (.seq (.region [.a 0,.a 1,.a 2,.O 51 0 1 2,.h 3,.n 4 0,.n 4 1,.c 6 5,.c 7 6]) (.seq (.seq (.region [.a 7,.S 10 0]) (.cond (.var 10) (.seq (.region [.C 3,.C 4,.f 5]) .ret) .skip)) (.seq (.seq (.region [.a 6,.E 52 0,.h 1,.n 2 0,.n 2 1,.c 8 3,.c 9 4]) (.seq (.region [.T 11 9]) (.cond (.var 11) (.seq (.region [.a 8,.c 3 0,.C 4,.M 5]) .ret) .skip))) (.seq (.region [.a 6,.E 53 0,.C 3,.c 4 1,.f 5]) .ret)))),[.tmp 3,.tmp 4,.tmp 5]⟩
theorem mh:aB Tryz.prog Tryz.f17 3 [0,1,2,6,7,8,9,10,11,12,21,27] [] true ([],[])=some kR:=by kernel_rfl
theorem CW:Tryz.prog.funcs[17]?=some Tryz.f17:=by kernel_rfl
def uM:bM:=⟨2,5,.seq (.region [.y 2 0,.f 3]) (.seq (.region [.qn (.makeFunc (.func 146) [] [.var 2]),.c 4 0]) (.seq (.region [.o 1 2,.qn (.call (.fn 60) [.tmp 0,.cst (.int .i64 1),.cst (.int .i64 32)]),.h 1,.x 1 2,.au 3 2,.av 4 200 2,.i 2 5,.h 6,.x 1 7,.x 4 7,.af 147 8 9 7,.ab 10 7,.i 7 11,.c 3 12]) .ret)),[.tmp 3]⟩
theorem yU:aB Tryz.prog Tryz.f97 2 [0,1,2,4,5] [] true ([],[])=some uM:=by kernel_rfl
theorem Pr:Tryz.prog.funcs[97]?=some Tryz.f97:=by kernel_rfl
def Ac:bM:=⟨4,8,.seq (.region [.f 4]) (.seq (.region [.a 0,.a 1,.a 2,.O 51 0 1 2,.h 3,.n 4 0,.n 4 1,.c 5 5,.c 6 6]) (.seq (.region [.qs 7 (.mv (.fn 59))]) (.seq (.region [.a 6,.h 0,.x 3 1,.au 2 1,.x 0 1,.qt (.bin .eql (.tmp 3) (.tmp 4)) 1,.i 1 5,.h 6,.x 3 7,.x 7 7,.af 61 8 9 7,.ab 10 7,.i 7 11,.h 12,.x 5 13,.x 3 13,.a8 63 15 13,.af 62 14 16 13,.ab 17 13,.i 13 18,.c 4 19]) .ret))),[.tmp 4]⟩
theorem yT:aB Tryz.prog Tryz.f20 4 [0,1,2,3,8,9,10,11] [] true ([],[])=some Ac:=by kernel_rfl
theorem Pd:Tryz.prog.funcs[20]?=some Tryz.f20:=by kernel_rfl
def Hj:bM:=⟨4,9,.seq (.region [.f 4]) (.seq (.region [.a 0,.a 1,.a 2,.O 51 0 1 2,.h 3,.n 4 0,.n 4 1,.c 5 5,.c 6 6]) (.seq (.seq (.region [.a 6,.S 8 0]) (.cond (.var 8) (.seq (.region [.f 4]) .ret) .skip)) (.seq (.region [.a 5,.a 3,.q 54 0 1,.h 2,.n 3 0,.n 3 1,.n 3 2,.c 7 4,.h 5,.c 6 6]) (.seq (.region [.a 6,.h 0,.x 7 1,.b7 2 0 1,.i 1 3,.c 4 4]) .ret)))),[.tmp 4]⟩
theorem CI:aB Tryz.prog Tryz.f18 4 [0,1,2,3,8,9,10,11,21] [] true ([],[])=some Hj:=by kernel_rfl
theorem Q3:Tryz.prog.funcs[18]?=some Tryz.f18:=by kernel_rfl
def fN:MC:=.seq (.seq (.region [.a 6,.a 3,.bo 13 0 1]) (.cond (.var 13) .skip (.exit 0))) (.seq (.block 1 (.seq (.region [.a 0,.a 1,.a 6,.O 51 0 1 2,.h 3,.n 4 0,.n 4 1,.c 7 5,.c 8 6]) (.seq (.seq (.region [.a 8,.S 14 0]) (.cond (.var 14) (.exit 0) .skip)) (.seq (.seq (.region [.a 7,.E 52 0,.h 1,.n 2 0,.n 2 1,.h 3,.c 9 4]) (.seq (.region [.T 15 9]) (.cond (.var 15) (.seq (.region [.a 6,.c 4 0,.M 5]) .ret) .skip))) (.seq (.region [.a 7,.a 7,.E 53 1,.q 54 0 2,.h 3,.n 4 0,.n 4 1,.n 4 2,.c 10 5,.c 11 6,.h 7]) (.seq (.seq (.region [.a 11,.qs 16 (.bin .leq (.tmp 0) (.cst (.int .i64 0)))]) (.cond (.var 16) (.exit 0) .skip)) (.region [.a 6,.a 10,.a 11,.v 1 2,.A 3 1,.a 11,.qn (.bin .quo (.tmp 4) (.tmp 5)),.v 0 6,.c 6 7]))))))) (.kill [2,4,5,7,8,9,10,11,12,13,14,15,16]))
def Ip:bM:=⟨4,17,.seq (.region [.e 4 0,.f 5]) (.scope (.seq (.seq (.region [.a 3,.E 90 0,.S 12 1]) (.cond (.var 12) (.seq (.region [.e 4 0,.f 5]) .ret) .skip)) (.seq (.region [.a 2,.c 6 0]) (.seq .skip (.seq (.seq (.block 0 (.loop [2,4,5,7,8,9,10,11,12,13,14,15,16] fN)) (.kill [0,1,2,3,4,5,6,7,8,9,10,11,12,13,14,15,16])) (.seq (.region [.e 4 0,.f 5]) .ret)))))),[.tmp 4,.tmp 5]⟩
def iD:List Nat:=[2,4,5,7,8,9,10,11,12,13,14,15,16]
abbrev nv (v0 v1 v3 v6:AV):List AV:=[v0,v1,.undef,v3,.undef,.undef,v6,.undef,.undef,.undef,.undef,.undef,.undef,.undef,.undef,.undef,.undef]
theorem zg:clear iD [v0,v1,d2,v3,d4,d5,v6,d7,d8,d9,d10,d11,d12,d13,d14,d15,d16]=nv v0 v1 v3 v6:=rfl
theorem yc {k:List KC} (h:cc (evC E fuel fN) iD fuel (nv v0 v1 v3 v6) A=some o) :
  run E fuel (.code (.loop [2,4,5,7,8,9,10,11,12,13,14,15,16] fN) :: k) [v0,v1,d2,v3,d4,d5,v6,d7,d8,d9,d10,d11,d12,d13,d14,d15,d16] A=after E fuel k o:=aV iD _ _ (by rw [zg]; exact h)
theorem Ky:aB Tryz.prog Tryz.f40 4 [0,1,2,3,8,9,10,11,12,14,15,16,20,24,33,39,50] [] true ([[2,4,5,7,8,9,10,11,12,13,14,15,16]],[[2,4,5,7,8,9,10,11,12,13,14,15,16],[0,1,2,3,4,5,6,7,8,9,10,11,12,13,14,15,16]])=some Ip:=by kernel_rfl
theorem at23:Tryz.prog.funcs[40]?=some Tryz.f40:=by kernel_rfl
def lO:MC:=.seq (.region [.w 13 12 11]) (.seq (.cond (.var 13) .skip (.exit 0)) (.seq (.seq (.block 1 (.seq (.region [.a 12,.H 4 10 12,.F 4 1,.bh 7 4,.c 6 0,.j 4 7 2]) (.seq (.region [.k 4 7,.a 6,.d 2 7,.b 1 2,.a 2,.d 3 7,.b 1 5,.da 4 6,.cu 3 7,.a7 0 1 8,.u 8 6,.j 6 8 9]) (.seq (.region [.a 5,.a 5,.J 1,.l 1 2,.b 1 3,.k 6 8,.c8 5,.cm 6 4 6,.J 0,.l 1 8,.I 1 9 7]) (.regionD [] [.a 5,.J 0,.l 2 1,.b 1 2,.d 0 7,.b 1 4,.a 5,.J 6,.l 2 7,.b 1 8,.d 0 7,.b 1 10,.g 1 9 11,.b 1 12,.k 6 8,.c8 14,.cm 6 13 15,.g 1 3 5,.I 1 17 16] [(2,16),(3,16),(4,16),(5,16)]))))) (.kill [0,1,3,4,6,7,8,9,13])) (.region [.m 12 1,.c 12 0])))
def Ab:bM:=⟨3,14,.seq (.region [.qs 3 (.mv (.cst .nilP)),.f 4]) (.seq (.seq (.region [.a 0,.a 1,.q 97 0 1,.N 2,.h 3,.z 2 4,.qf (.call (.fn 90) [.tmp 5]) 4,.L 6 4,.G 9 4 7]) (.cond (.var 9) (.seq (.region [.qs 3 (.mv (.cst .nilP)),.f 4]) .ret) .skip)) (.seq (.region [.a 0,.a 0,.qn (.makeSlice 1 24 .nilS (.tmp 1) (.tmp 1)),.qn (.build [.int .i64 0,.nilS,.nilS] [(0,(1,.tmp 0)),(2,(1,.tmp 2))]),.qn (.box (.tmp 3)),.c 5 4]) (.seq (.seq (.region [.T 10 1,.R 11 10,.e 12 0]) (.seq (.block 0 (.loop [0,1,3,4,6,7,8,9,13] lO)) (.kill [0,1,2,3,4,6,7,8,9,10,11,12,13]))) (.seq (.region [.a 5,.c 3 0,.M 4]) .ret)))),[.tmp 3,.tmp 4]⟩
def kf:List Nat:=[0,1,3,4,6,7,8,9,13]
abbrev lC (v2 v5 v10 v11 v12:AV):List AV:=[.undef,.undef,v2,.undef,.undef,v5,.undef,.undef,.undef,.undef,v10,v11,v12,.undef]
theorem CT:clear kf [d0,d1,v2,d3,d4,v5,d6,d7,d8,d9,v10,v11,v12,d13]=lC v2 v5 v10 v11 v12:=rfl
theorem Jt {k:List KC} (h:cc (evC E fuel lO) kf fuel (lC v2 v5 v10 v11 v12) A=some o) :
  run E fuel (.code (.loop [0,1,3,4,6,7,8,9,13] lO) :: k) [d0,d1,v2,d3,d4,v5,d6,d7,d8,d9,v10,v11,v12,d13] A=after E fuel k o:=aV kf _ _ (by rw [CT]; exact h)
theorem yS:aB Tryz.prog Tryz.f51 3 [0,1,2,6,7,8,9,10,11,20,26,27,28,29] [] true ([[0,1,3,4,6,7,8,9,13]],[[0,1,3,4,6,7,8,9,13],[0,1,2,3,4,6,7,8,9,10,11,12,13]])=some Ab:=by kernel_rfl
theorem Pc:Tryz.prog.funcs[51]?=some Tryz.f51:=by kernel_rfl
def fM:MC:=.seq (.region [.w 6 5 4]) (.seq (.cond (.var 6) .skip (.exit 0)) (.seq (.seq (.block 1 (.seq (.region [.a 0,.a 3,.q 62 0 1,.S 7 2]) (.cond (.var 7) (.seq (.region [.a 3,.c 1 0,.M 2]) .ret) .skip))) (.kill [1,2,6,7])) (.region [.m 5 1,.c 5 0])))
def rz:bM:=⟨1,8,.seq (.region [.C 1,.f 2]) (.seq (.region [.a 0,.J 0,.l 0 1,.b 1 2,.bl 3 3,.c 3 4]) (.seq (.seq (.region [.a 0,.J 0,.l 0 1,.am 4 1 2,.e 5 0]) (.seq (.block 0 (.loop [1,2,6,7] fM)) (.kill [1,2,4,5,6,7]))) (.seq (.region [.a 3,.a 0,.a 3,.E 63 2,.q 62 1 3,.N 4,.c 1 0,.c 2 5]) .ret))),[.tmp 1,.tmp 2]⟩
def eE:List Nat:=[1,2,6,7]
abbrev iW (v0 v3 v4 v5:AV):List AV:=[v0,.undef,.undef,v3,v4,v5,.undef,.undef]
theorem sk:clear eE [v0,d1,d2,v3,v4,v5,d6,d7]=iW v0 v3 v4 v5:=rfl
theorem uV {k:List KC} (h:cc (evC E fuel fM) eE fuel (iW v0 v3 v4 v5) A=some o) :
  run E fuel (.code (.loop [1,2,6,7] fM) :: k) [v0,d1,d2,v3,v4,v5,d6,d7] A=after E fuel k o:=aV eE _ _ (by rw [sk]; exact h)
theorem sh:aB Tryz.prog Tryz.f52 1 [0,2,3,4,13,14,15,19] [] true ([[1,2,6,7]],[[1,2,6,7],[1,2,4,5,6,7]])=some rz:=by kernel_rfl
theorem KS:Tryz.prog.funcs[52]?=some Tryz.f52:=by kernel_rfl
def dI:MC:=.seq (.region [.u 4 6,.cd 6 4 10]) (.region [.T 5 11])
def gy:MC:=.seq (.block 3 (.seq (.region [.o 1 1,.k 6 4,.a 5,.o 1 3,.W 99 0 1 2 3,.h 4,.n 5 0,.n 5 1,.c 6 6,.c 7 7]) (.seq (.region [.T 12 7]) (.cond (.var 12) (.seq (.region [.a 6,.j 1 2 0]) .ret) .skip)))) (.kill [0,1,2,3,4,5,6,7,8,9,10,11,12,13])
def jf:MC:=.seq (.seq (.region [.o 1 3,.o 1 1,.J 1,.l 0 2,.b 1 3,.bo 8 0 4]) (.cond (.var 8) .skip (.exit 0))) (.seq (.seq (.block 1 (.seq (.region [.o 1 1,.o 1 3,.qs 9 (.call (.fn 98) [.tmp 0,.tmp 1])]) (.seq (.block 2 (.rangeFunc (.var 9) [10,11] dI gy)) (.kill [0,4,5,6,7,8,9,10,11,12,13])))) (.kill [0,4,5,6,7,8,9,10,11,12,13])) (.seq (.seq (.region [.bp 13 1 3]) (.region [.ax 3 1,.cd 1 3 13])) (.region [.o 1 3,.t 0 1,.j 1 3 1])))
def wt:bM:=⟨1,14,.seq (.region [.y 1 0,.bm 2 1]) (.seq (.seq (.region [.ax 3 1,.c1 1 3 1]) (.seq (.block 0 (.loop [0,4,5,6,7,8,9,10,11,12,13] jf)) (.kill [0,1,3,4,5,6,7,8,9,10,11,12,13]))) (.seq (.region [.qn (.store 1 (.var 2) (.cst .nilS))]) .ret)),[.cell 2 false 1]⟩
def iB:List Nat:=[0,4,5,6,7,8,9,10,11,12,13]
abbrev iV (v1 v2 v3:AV):List AV:=[.undef,v1,v2,v3,.undef,.undef,.undef,.undef,.undef,.undef,.undef,.undef,.undef,.undef]
theorem y9:clear iB [d0,v1,v2,v3,d4,d5,d6,d7,d8,d9,d10,d11,d12,d13]=iV v1 v2 v3:=rfl
theorem yb {k:List KC} (h:cc (evC E fuel jf) iB fuel (iV v1 v2 v3) A=some o) :
  run E fuel (.code (.loop [0,4,5,6,7,8,9,10,11,12,13] jf) :: k) [d0,v1,v2,v3,d4,d5,d6,d7,d8,d9,d10,d11,d12,d13] A=after E fuel k o:=aV iB _ _ (by rw [y9]; exact h)
theorem sg:aB Tryz.prog Tryz.f53 1 [0,1,2,3,4,5,6,7,13,18,19,20,29,31] [] true ([[0,4,5,6,7,8,9,10,11,12,13]],[[0,1,2,3,4,5,6,7,8,9,10,11,12,13],[0,4,5,6,7,8,9,10,11,12,13],[0,4,5,6,7,8,9,10,11,12,13],[0,1,3,4,5,6,7,8,9,10,11,12,13]])=some wt:=by kernel_rfl
theorem KR:Tryz.prog.funcs[53]?=some Tryz.f53:=by kernel_rfl
def AO:bM:=⟨2,4,.seq (.region [.y 2 0,.f 3]) (.seq (.region [.d 0 2,.b 1 0,.o 1 1,.A 2 1,.a5 60 1 3,.N 4,.h 5,.D 1 2 6,.r 1 7 6,.ad 1 1 6,.qf (.bin .sub (.tmp 9) (.cst (.int .i64 1))) 6,.a6 60 8 10 6,.L 11 6,.K 6 12,.h 13,.D 2 2 14,.r 1 15 14,.qf (.call (.fn 60) [.tmp 16,.cst (.int .i64 (-1000000)),.cst (.int .i64 1000000)]) 14,.L 17 14,.K 14 18,.h 19,.D 3 2 20,.r 1 21 20,.qf (.call (.fn 60) [.tmp 22,.cst (.int .i64 (-2)),.cst (.int .i64 2)]) 20,.L 23 20,.K 20 24,.c 3 25]) .ret),[.tmp 3]⟩
theorem yQ:aB Tryz.prog Tryz.f146 2 [0,1,2,3] [] true ([],[])=some AO:=by kernel_rfl
theorem Pa:Tryz.prog.funcs[146]?=some Tryz.f146:=by kernel_rfl
def Hh:bM:=⟨3,4,.seq (.region [.f 3]) (.seq (.region [.a 0,.a 1,.cv 0 1,.h 2,.x 0 3,.x 2 3,.ag 4 5 3,.i 3 6,.c 3 7]) .ret),[.tmp 3]⟩
theorem yP:aB Tryz.prog Tryz.f60 3 [0,1,2,6] [] true ([],[])=some Hh:=by kernel_rfl
theorem O9:Tryz.prog.funcs[60]?=some Tryz.f60:=by kernel_rfl
def Hg:bM:=⟨2,3,.seq (.region [.f 2]) (.seq (.region [.a 0,.a 1,.q 171 0 1,.P 2 0,.c 2 3]) .ret),[.tmp 2]⟩
theorem yO:aB Tryz.prog Tryz.f147 2 [0,1,4] [] true ([],[])=some Hg:=by kernel_rfl
theorem O8:Tryz.prog.funcs[147]?=some Tryz.f147:=by kernel_rfl
def Hf:bM:=⟨1,2,.seq (.region [.f 1]) (.seq (.region [.a 0,.qn (.call (.fn 60) [.tmp 0,.cst (.int .i64 0),.cst (.int .i64 1000000000)]),.N 1,.c 1 2]) .ret),[.tmp 1]⟩
theorem yN:aB Tryz.prog Tryz.f59 1 [0,2] [] true ([],[])=some Hf:=by kernel_rfl
theorem O7:Tryz.prog.funcs[59]?=some Tryz.f59:=by kernel_rfl
def AN:bM:=⟨2,3,.seq (.region [.f 2]) (.seq (.region [.a 0,.a 1,.q 101 0 1,.P 2 0,.c 2 3]) .ret),[.tmp 2]⟩
theorem vk:aB Tryz.prog Tryz.f61 2 [0,1,4] [] true ([],[])=some AN:=by kernel_rfl
theorem Mj:Tryz.prog.funcs[61]?=some Tryz.f61:=by kernel_rfl
def nT:MC:=.seq (.region [.w 8 7 6]) (.seq (.cond (.var 8) .skip (.exit 0)) (.seq (.seq (.block 1 (.seq (.region [.H 6 5 7,.F 6 0,.u 3 6,.j 6 3 1]) (.seq (.region [.a 1,.d 0 3,.l 0 1,.b 1 2,.g 1 0 3,.b 1 4,.d 5 3,.b 1 6,.v 5 7,.c 4 8]) (.seq (.region [.a 4,.a 1,.d 0 3,.l 1 2,.b 1 3,.g 1 1 4,.b 1 5,.db 9 0 6]) (.cond (.var 9) (.region [.a 1,.d 0 3,.l 1 1,.b 1 2,.a 4,.g 1 0 3,.I 1 5 4,.M 2]) .skip))))) (.kill [0,3,4,8,9])) (.region [.m 7 1,.c 7 0])))
def xM:bM:=⟨2,10,.seq (.region [.f 2]) (.seq (.seq (.region [.a 0,.J 0,.l 1 1,.am 5 1 2,.R 6 5,.e 7 0]) (.seq (.block 0 (.loop [0,3,4,8,9] nT)) (.kill [0,1,3,4,5,6,7,8,9]))) (.seq (.region [.a 2,.c 2 0]) .ret)),[.tmp 2]⟩
def mN:List Nat:=[0,3,4,8,9]
abbrev nq (v1 v2 v5 v6 v7:AV):List AV:=[.undef,v1,v2,.undef,.undef,v5,v6,v7,.undef,.undef]
theorem CS:clear mN [d0,v1,v2,d3,d4,v5,v6,v7,d8,d9]=nq v1 v2 v5 v6 v7:=rfl
theorem Jq {k:List KC} (h:cc (evC E fuel nT) mN fuel (nq v1 v2 v5 v6 v7) A=some o) :
  run E fuel (.code (.loop [0,3,4,8,9] nT) :: k) [d0,v1,v2,d3,d4,v5,v6,v7,d8,d9] A=after E fuel k o:=aV mN _ _ (by rw [CS]; exact h)
theorem Ku:aB Tryz.prog Tryz.f62 2 [0,1,4,6,7,11,12,13,14,33] [] true ([[0,3,4,8,9]],[[0,3,4,8,9],[0,1,3,4,5,6,7,8,9]])=some xM:=by kernel_rfl
theorem at37:Tryz.prog.funcs[62]?=some Tryz.f62:=by kernel_rfl
def tx:bM:=⟨1,3,.seq (.region [.C 1]) (.seq (.seq (.region [.a 0,.c2 2 0]) (.cond (.var 2) (.seq (.region [.C 1]) .ret) .skip)) (.seq (.region [.cw,.a 0,.ae 1 0 1,.c 1 2]) .ret)),[.tmp 1]⟩
theorem yM:aB Tryz.prog Tryz.f63 1 [0,2,4] [] true ([],[])=some tx:=by kernel_rfl
theorem O6:Tryz.prog.funcs[63]?=some Tryz.f63:=by kernel_rfl
def nS:MC:=.seq (.region [.w 15 14 13]) (.seq (.cond (.var 15) .skip (.exit 0)) (.seq (.seq (.block 1 (.seq (.region [.H 1 12 14,.b 1 0,.c 8 1]) (.seq (.region [.o 1 2,.J 0,.l 1 1,.b 1 2,.a 8,.g 6 3 4,.F 6 5,.u 9 6,.j 6 9 6]) (.seq (.seq (.region [.d 0 9,.l 0 0,.b 1 1,.a 7,.bb 16 2 3]) (.cond (.var 16) (.seq (.region [.e 3 0,.e 4 0,.f 5]) .ret) .skip)) (.region [.a 3,.d 5 9,.b 1 1,.v 0 2,.a 4,.d 0 9,.l 3 5,.b 1 6,.v 4 7,.d 0 9,.l 1 9,.b 1 10,.c 3 3,.c 4 8,.c 7 11]))))) (.kill [0,1,5,6,8,9,10,11,15,16])) (.region [.m 14 1,.c 14 0])))
def Aa:bM:=⟨2,17,.seq (.region [.y 2 0,.e 3 0,.e 4 0,.f 5]) (.seq (.seq (.region [.a 1,.B 0,.qn (.call (.fn 60) [.tmp 1,.cst (.int .i64 1),.cst (.int .i64 200)]),.S 10 2]) (.cond (.var 10) (.seq (.region [.e 3 0,.e 4 0,.f 5]) .ret) .skip)) (.seq (.region [.qn (.makeFunc (.func 100) [] [.var 2]),.c 6 0]) (.seq (.seq (.region [.a 1,.a 6,.qs 11 (.call (.fn 61) [.tmp 0,.tmp 1])]) (.cond (.var 11) (.seq (.region [.e 3 0,.e 4 0,.f 5]) .ret) .skip)) (.seq (.region [.o 1 2,.J 0,.l 1 1,.b 1 2,.a 1,.a 1,.B 5,.A 6 1,.g 1 4 7,.b 1 8,.g 6 3 9,.l 0 10,.l 1 11,.b 1 12,.c 7 13]) (.seq (.seq (.region [.T 12 1,.R 13 12,.e 14 0]) (.seq (.block 0 (.loop [0,1,5,6,8,9,10,11,15,16] nS)) (.kill [0,1,2,5,6,7,8,9,10,11,12,13,14,15,16]))) (.seq (.region [.a 3,.a 4,.c 3 0,.c 4 1,.M 5]) .ret)))))),[.tmp 3,.tmp 4,.tmp 5]⟩
def mM:List Nat:=[0,1,5,6,8,9,10,11,15,16]
abbrev nm (v2 v3 v4 v7 v12 v13 v14:AV):List AV:=[.undef,.undef,v2,v3,v4,.undef,.undef,v7,.undef,.undef,.undef,.undef,v12,v13,v14,.undef,.undef]
theorem CR {v14:AV}:clear mM [d0,d1,v2,v3,v4,d5,d6,v7,d8,d9,d10,d11,v12,v13,v14,d15,d16]=nm v2 v3 v4 v7 v12 v13 v14:=rfl
theorem Cs {k:List KC} {v14:AV} (h:cc (evC E fuel nS) mM fuel (nm v2 v3 v4 v7 v12 v13 v14) A=some o) :
  run E fuel (.code (.loop [0,1,5,6,8,9,10,11,15,16] nS) :: k) [d0,d1,v2,v3,v4,d5,d6,v7,d8,d9,d10,d11,v12,v13,v14,d15,d16] A=after E fuel k o:=aV mM _ _ (by rw [CR]; exact h)
theorem yL:aB Tryz.prog Tryz.f54 2 [0,1,2,4,5,6,7,8,10,11,15,19,34,35,36,37,51] [] true ([[0,1,5,6,8,9,10,11,15,16]],[[0,1,5,6,8,9,10,11,15,16],[0,1,2,5,6,7,8,9,10,11,12,13,14,15,16]])=some Aa:=by kernel_rfl
theorem O5:Tryz.prog.funcs[54]?=some Tryz.f54:=by kernel_rfl
def xL:bM:=⟨1,2,.seq (.region [.f 1]) (.seq (.region [.a 0,.qn (.call (.fn 60) [.tmp 0,.cst (.int .i64 (-1000000)),.cst (.int .i64 1000000)]),.c 1 1]) .ret),[.tmp 1]⟩
theorem sf:aB Tryz.prog Tryz.f90 1 [0,2] [] true ([],[])=some xL:=by kernel_rfl
theorem KQ:Tryz.prog.funcs[90]?=some Tryz.f90:=by kernel_rfl
def xK:bM:=⟨2,5,.seq (.region [.y 2 0,.y 3 1,.dh 4]) (.seq (.region [.qn (.makeFunc (.func 148) [] [.var 2,.var 3]),.c 4 0]) .ret),[.tmp 4]⟩
theorem se:aB Tryz.prog Tryz.f98 2 [0,1,2,3,4] [] true ([],[])=some xK:=by kernel_rfl
theorem KP:Tryz.prog.funcs[98]?=some Tryz.f98:=by kernel_rfl
def ew:MC:=.seq (.seq (.region [.o 1 11,.an 14 0 0]) (.cond (.var 14) .skip (.exit 0))) (.seq (.seq (.block 1 (.seq (.region [.a 10,.qn (.makeFunc (.func 151) [] [.var 5,.var 11,.var 9]),.q 150 0 1,.c 12 2]) (.seq (.seq (.region [.a 12,.U 15 0 0]) (.cond (.var 15) (.seq (.region [.C 6,.f 7]) .ret) .skip)) (.seq (.region [.a 10,.a 12,.g 6 0 1,.F 6 2,.u 13 6,.j 6 13 3]) (.regionD [] [.a 8,.d 4 13,.b 1 1,.bz 2,.ae 1 0 3,.o 1 9,.d 5 13,.b 1 6,.v 5 7,.a 0,.J 9,.l 2 10,.b 1 11,.d 0 13,.l 1 13,.b 1 14,.g 1 12 15,.b 1 16,.c 8 4,.j 1 9 8,.c 10 17] [(4,5),(4,6),(4,7),(4,11),(4,12),(4,13),(4,14),(4,15),(4,16),(4,17),(11,19),(12,19),(13,19),(14,19),(15,19),(16,19),(17,19)]))))) (.kill [1,2,3,4,6,7,12,13,14,15,16])) (.seq (.seq (.region [.bp 16 1 11]) (.region [.ax 11 1,.cd 1 11 16])) (.region [.o 1 11,.A 0 1,.j 1 11 1])))
def z9:bM:=⟨4,17,.seq (.region [.y 4 1,.y 5 2,.C 6,.f 7]) (.seq (.region [.C 8]) (.seq (.region [.ax 9 1,.c1 1 9 0]) (.seq (.region [.k 6 4,.dg 0,.c 10 1]) (.seq (.seq (.region [.a 3,.A 0 1,.ax 11 1,.j 1 11 1]) (.seq (.block 0 (.loop [1,2,3,4,6,7,12,13,14,15,16] ew)) (.kill [0,1,2,3,4,5,6,7,9,10,11,12,13,14,15,16]))) (.seq (.region [.a 8,.c 6 0,.M 7]) .ret))))),[.tmp 6,.tmp 7]⟩
def dG:List Nat:=[1,2,3,4,6,7,12,13,14,15,16]
abbrev eV (v0 v5 v8 v9 v10 v11:AV):List AV:=[v0,.undef,.undef,.undef,.undef,v5,.undef,.undef,v8,v9,v10,v11,.undef,.undef,.undef,.undef,.undef]
theorem oz:clear dG [v0,d1,d2,d3,d4,v5,d6,d7,v8,v9,v10,v11,d12,d13,d14,d15,d16]=eV v0 v5 v8 v9 v10 v11:=rfl
theorem rL {k:List KC} (h:cc (evC E fuel ew) dG fuel (eV v0 v5 v8 v9 v10 v11) A=some o) :
  run E fuel (.code (.loop [1,2,3,4,6,7,12,13,14,15,16] ew) :: k) [v0,d1,d2,d3,d4,v5,d6,d7,v8,v9,v10,v11,d12,d13,d14,d15,d16] A=after E fuel k o:=aV dG _ _ (by rw [oz]; exact h)
theorem yK:aB Tryz.prog Tryz.f99 4 [0,1,2,3,5,6,8,9,10,11,12,13,14,15,21,28,51] [] true ([[1,2,3,4,6,7,12,13,14,15,16]],[[1,2,3,4,6,7,12,13,14,15,16],[0,1,2,3,4,5,6,7,9,10,11,12,13,14,15,16]])=some z9:=by kernel_rfl
theorem O4:Tryz.prog.funcs[99]?=some Tryz.f99:=by kernel_rfl
def je:MC:=.seq (.region [.w 6 5 4]) (.seq (.cond (.var 6) .skip (.exit 0)) (.seq (.seq (.block 1 (.seq (.region [.a 5,.c 3 0]) (.seq (.region [.a 1,.a 0,.a 3,.g 4 1 2,.F 4 3,.aq 7 0 4]) (.cond (.var 7) (.seq (.region [.a 3,.c 2 0]) .ret) .skip)))) (.kill [2,3,6,7])) (.region [.m 5 1,.c 5 0])))
def AM:bM:=⟨2,8,.seq (.region [.e 2 0]) (.seq (.seq (.region [.a 0,.ak 4 0,.e 5 0]) (.seq (.block 0 (.loop [2,3,6,7] je)) (.kill [0,1,2,3,4,5,6,7]))) (.seq (.region [.e 2 (-1)]) .ret)),[.tmp 2]⟩
def iz:List Nat:=[2,3,6,7]
abbrev lz (v0 v1 v4 v5:AV):List AV:=[v0,v1,.undef,.undef,v4,v5,.undef,.undef]
theorem CQ:clear iz [v0,v1,d2,d3,v4,v5,d6,d7]=lz v0 v1 v4 v5:=rfl
theorem Cr {k:List KC} (h:cc (evC E fuel je) iz fuel (lz v0 v1 v4 v5) A=some o) :
  run E fuel (.code (.loop [2,3,6,7] je) :: k) [v0,v1,d2,d3,v4,v5,d6,d7] A=after E fuel k o:=aV iz _ _ (by rw [CQ]; exact h)
theorem yJ:aB Tryz.prog Tryz.f171 2 [0,1,4,5,7,8,9,16] [] true ([[2,3,6,7]],[[2,3,6,7],[0,1,2,3,4,5,6,7]])=some AM:=by kernel_rfl
theorem O3:Tryz.prog.funcs[171]?=some Tryz.f171:=by kernel_rfl
def ei:MC:=.seq (.region [.w 6 5 4]) (.seq (.cond (.var 6) .skip (.exit 0)) (.seq (.seq (.block 1 (.seq (.region [.a 5,.c 3 0]) (.seq (.region [.a 1,.a 0,.a 3,.g 1 1 2,.b 1 3,.aq 7 0 4]) (.cond (.var 7) (.seq (.region [.a 3,.c 2 0]) .ret) .skip)))) (.kill [2,3,6,7])) (.region [.m 5 1,.c 5 0])))
def ws:bM:=⟨2,8,.seq (.region [.e 2 0]) (.seq (.seq (.region [.a 0,.ak 4 0,.e 5 0]) (.seq (.block 0 (.loop [2,3,6,7] ei)) (.kill [0,1,2,3,4,5,6,7]))) (.seq (.region [.e 2 (-1)]) .ret)),[.tmp 2]⟩
def eD:List Nat:=[2,3,6,7]
abbrev eU (v0 v1 v4 v5:AV):List AV:=[v0,v1,.undef,.undef,v4,v5,.undef,.undef]
theorem yZ:clear eD [v0,v1,d2,d3,v4,v5,d6,d7]=eU v0 v1 v4 v5:=rfl
theorem uU {k:List KC} (h:cc (evC E fuel ei) eD fuel (eU v0 v1 v4 v5) A=some o) :
  run E fuel (.code (.loop [2,3,6,7] ei) :: k) [v0,v1,d2,d3,v4,v5,d6,d7] A=after E fuel k o:=aV eD _ _ (by rw [yZ]; exact h)
theorem vj:aB Tryz.prog Tryz.f101 2 [0,1,4,5,7,8,9,16] [] true ([[2,3,6,7]],[[2,3,6,7],[0,1,2,3,4,5,6,7]])=some ws:=by kernel_rfl
theorem Mi:Tryz.prog.funcs[101]?=some Tryz.f101:=by kernel_rfl
def E9:bM:=⟨2,3,.seq (.region [.f 2]) (.seq (.region [.a 0,.o 1 1,.J 1,.l 1 2,.b 1 3,.B 4,.A 5 1,.a5 60 0 6,.N 7,.c 2 8]) .ret),[.tmp 2]⟩
theorem yI:aB Tryz.prog Tryz.f100 2 [0,1,3] [] true ([],[])=some E9:=by kernel_rfl
theorem O2:Tryz.prog.funcs[100]?=some Tryz.f100:=by kernel_rfl
def jc:MC:=.seq (.region [.w 9 8 7]) (.seq (.cond (.var 9) .skip (.exit 0)) (.seq (.seq (.block 1 (.seq (.region [.H 6 6 8,.F 6 0,.u 4 6,.j 6 4 1]) (.seq (.seq (.region [.a 3,.d 0 4,.l 0 1,.b 1 2,.qn (.lookup 1 true .nilS (.tmp 0) (.tmp 3)),.h 4,.n 5 0,.n 5 1,.h 6,.c 5 7]) (.seq (.region [.a 5,.S 10 0]) (.cond (.var 10) (.region [.a 3,.d 0 4,.l 0 1,.b 1 2,.o 1 1,.d 0 4,.l 0 5,.b 1 6,.o 1 2,.O 149 4 7 8,.b5 0 3 9]) .skip))) (.seq (.region [.a 0,.k 6 4,.a 3,.d 0 4,.l 0 3,.b 1 4,.qn (.lookup 1 false .nilS (.tmp 2) (.tmp 5)),.ay 0 1 6,.S 11 7]) (.cond (.var 11) .ret .skip))))) (.kill [4,5,9,10,11])) (.region [.m 8 1,.c 8 0])))
def BY:bM:=⟨3,12,.seq (.region [.qn .makeMap,.c 3 0]) (.seq (.region [.o 1 1,.J 0,.l 1 1,.am 6 1 2,.R 7 6,.e 8 0]) (.seq (.block 0 (.loop [4,5,9,10,11] jc)) (.kill [0,1,2,3,4,5,6,7,8,9,10,11]))),[]⟩
def ge:List Nat:=[4,5,9,10,11]
abbrev jR (v0 v1 v2 v3 v6 v7 v8:AV):List AV:=[v0,v1,v2,v3,.undef,.undef,v6,v7,v8,.undef,.undef,.undef]
theorem yY:clear ge [v0,v1,v2,v3,d4,d5,v6,v7,v8,d9,d10,d11]=jR v0 v1 v2 v3 v6 v7 v8:=rfl
theorem Cq {k:List KC} (h:cc (evC E fuel jc) ge fuel (jR v0 v1 v2 v3 v6 v7 v8) A=some o) :
  run E fuel (.code (.loop [4,5,9,10,11] jc) :: k) [v0,v1,v2,v3,d4,d5,v6,v7,v8,d9,d10,d11] A=after E fuel k o:=aV ge _ _ (by rw [yY]; exact h)
theorem yH:aB Tryz.prog Tryz.f148 3 [0,1,2,4,6,8,13,14,15,16,28,47] [149] true ([[4,5,9,10,11]],[[4,5,9,10,11],[0,1,2,3,4,5,6,7,8,9,10,11]])=some BY:=by kernel_rfl
theorem O1:Tryz.prog.funcs[148]?=some Tryz.f148:=by kernel_rfl
def lM:MC:=.seq (.region [.w 14 13 12]) (.seq (.cond (.var 14) .skip (.exit 2)) (.seq (.seq (.block 3 (.seq (.region [.H 6 11 13,.F 6 0,.u 7 6,.j 6 7 1]) (.region [.a 6,.d 0 7,.l 0 1,.b 1 2,.a 6,.d 0 7,.l 0 5,.b 1 6,.g 2 4 7,.F 2 8,.a 5,.d 0 7,.l 1 11,.b 1 12,.g 2 10 13,.F 2 14,.d 5 7,.b 1 16,.q 152 15 17,.q 172 9 18,.g 2 0 3,.I 2 20 19]))) (.kill [1,2,3,7,10,14])) (.region [.m 13 1,.c 13 0])))
def nR:MC:=.seq (.region [.w 10 9 8]) (.seq (.cond (.var 10) .skip (.exit 0)) (.seq (.seq (.block 1 (.seq (.regionD [152,172] [.a 4,.a 4,.B 1,.A 2 1,.g 1 0 3,.b 1 4,.a 0,.J 6,.l 0 7,.b 1 8,.cl 9 9,.c 5 5,.c 6 10] [(4,10),(5,10)]) (.seq (.seq (.region [.a 0,.J 0,.l 1 1,.am 11 1 2,.R 12 11,.e 13 0]) (.seq (.block 2 (.loop [1,2,3,7,10,14] lM)) (.kill [1,2,3,5,7,10,11,12,13,14]))) (.region [.a 4,.a 6,.bj 1,.qn (.append 1 24 (.tmp 0) (.tmp 2)),.c 4 3])))) (.kill [1,2,3,5,6,7,10,11,12,13,14])) (.region [.m 9 1,.c 9 0])))
def MV:bM:=⟨3,15,.seq (.region [.C 3]) (.seq (.region [.a 0,.J 0,.l 0 1,.b 1 2,.cl 3 3,.bj 4,.c 4 5]) (.seq (.region [.a 4,.cy 1 0 0,.b 1 1,.a 1,.qn (.build [.int .i64 0,.bool false] [(0,(1,.cst (.int .i64 0))),(1,(1,.cst (.bool true)))]),.g 2 2 3,.I 2 5 4]) (.seq (.seq (.region [.T 8 2,.e 9 0]) (.seq (.block 0 (.loop [1,2,3,5,6,7,10,11,12,13,14] nR)) (.kill [0,1,2,3,5,6,7,8,9,10,11,12,13,14]))) (.seq (.region [.a 4,.c 3 0]) .ret)))),[.tmp 3]⟩
def ke:List Nat:=[1,2,3,7,10,14]
abbrev ly (v0 v4 v5 v6 v8 v9 v11 v12 v13:AV):List AV:=[v0,.undef,.undef,.undef,v4,v5,v6,.undef,v8,v9,.undef,v11,v12,v13,.undef]
theorem CP:clear ke [v0,d1,d2,d3,v4,v5,v6,d7,v8,v9,d10,v11,v12,v13,d14]=ly v0 v4 v5 v6 v8 v9 v11 v12 v13:=rfl
theorem Jp {k:List KC} (h:cc (evC E fuel lM) ke fuel (ly v0 v4 v5 v6 v8 v9 v11 v12 v13) A=some o) :
  run E fuel (.code (.loop [1,2,3,7,10,14] lM) :: k) [v0,d1,d2,d3,v4,v5,v6,d7,v8,v9,d10,v11,v12,v13,d14] A=after E fuel k o:=aV ke _ _ (by rw [CP]; exact h)
def mL:List Nat:=[1,2,3,5,6,7,10,11,12,13,14]
abbrev nl (v0 v4 v8 v9:AV):List AV:=[v0,.undef,.undef,.undef,v4,.undef,.undef,.undef,v8,v9,.undef,.undef,.undef,.undef,.undef]
theorem CO:clear mL [v0,d1,d2,d3,v4,d5,d6,d7,v8,v9,d10,d11,d12,d13,d14]=nl v0 v4 v8 v9:=rfl
theorem Jo {k:List KC} (h:cc (evC E fuel nR) mL fuel (nl v0 v4 v8 v9) A=some o) :
  run E fuel (.code (.loop [1,2,3,5,6,7,10,11,12,13,14] nR) :: k) [v0,d1,d2,d3,v4,d5,d6,d7,v8,v9,d10,d11,d12,d13,d14] A=after E fuel k o:=aV mL _ _ (by rw [CO]; exact h)
theorem Ks:aB Tryz.prog Tryz.f149 3 [0,1,2,6,7,8,9,11,24,25,26,41,42,43,44] [152,172] false ([[1,2,3,5,6,7,10,11,12,13,14],[1,2,3,7,10,14]],[[1,2,3,7,10,14],[1,2,3,5,7,10,11,12,13,14],[1,2,3,5,6,7,10,11,12,13,14],[0,1,2,3,5,6,7,8,9,10,11,12,13,14]])=some MV:=by kernel_rfl
theorem at48:Tryz.prog.funcs[149]?=some Tryz.f149:=by kernel_rfl
def jb:MC:=.seq (.region [.w 6 5 4]) (.seq (.cond (.var 6) .skip (.exit 0)) (.seq (.seq (.block 1 (.seq (.region [.a 5,.c 3 0]) (.seq (.region [.a 1,.a 0,.a 3,.g 6 1 2,.F 6 3,.aq 7 0 4]) (.cond (.var 7) (.seq (.region [.a 3,.c 2 0]) .ret) .skip)))) (.kill [2,3,6,7])) (.region [.m 5 1,.c 5 0])))
def LR:bM:=⟨2,8,.seq (.region [.e 2 0]) (.seq (.seq (.region [.a 0,.ak 4 0,.e 5 0]) (.seq (.block 0 (.loop [2,3,6,7] jb)) (.kill [0,1,2,3,4,5,6,7]))) (.seq (.region [.e 2 (-1)]) .ret)),[.tmp 2]⟩
def iy:List Nat:=[2,3,6,7]
abbrev lx (v0 v1 v4 v5:AV):List AV:=[v0,v1,.undef,.undef,v4,v5,.undef,.undef]
theorem CN:clear iy [v0,v1,d2,d3,v4,v5,d6,d7]=lx v0 v1 v4 v5:=rfl
theorem Cp {k:List KC} (h:cc (evC E fuel jb) iy fuel (lx v0 v1 v4 v5) A=some o) :
  run E fuel (.code (.loop [2,3,6,7] jb) :: k) [v0,v1,d2,d3,v4,v5,d6,d7] A=after E fuel k o:=aV iy _ _ (by rw [CN]; exact h)
theorem Kr:aB Tryz.prog Tryz.f150 2 [0,1,4,5,7,8,9,16] [] true ([[2,3,6,7]],[[2,3,6,7],[0,1,2,3,4,5,6,7]])=some LR:=by kernel_rfl
theorem at49:Tryz.prog.funcs[150]?=some Tryz.f150:=by kernel_rfl
def E8:bM:=⟨4,7,.seq (.region [.y 4 0,.f 5]) (.seq (.regionD [152] [.o 1 1,.o 1 2,.g 1 0 1,.b 1 2,.d 0 4,.l 1 4,.b 1 5,.g 2 3 6,.F 2 7,.o 1 3,.d 5 4,.b 1 10,.v 9 11,.q 152 8 12,.ce 6 2,.j 2 6 13] [(0,14),(1,14),(2,14),(3,14),(4,14),(5,14),(6,14),(7,14),(8,14),(9,14),(10,14),(11,14),(13,14)]) (.seq (.region [.d 1 6,.b 1 0,.h 1,.s 0 6 2,.p 1 3 2,.b7 4 0 2,.i 2 5,.c 5 6]) .ret)),[.tmp 5]⟩
theorem yG:aB Tryz.prog Tryz.f151 4 [0,1,2,3,4,5,6] [152] true ([],[])=some E8:=by kernel_rfl
theorem O0:Tryz.prog.funcs[151]?=some Tryz.f151:=by kernel_rfl
def LQ:bM:=⟨2,5,.seq (.region [.y 2 0,.ce 3 2]) (.seq (.seq (.region [.k 2 2,.qn (.build [.int .i64 0,.bool false] []),.qs 4 (.eqAgg false [(0,1),(1,0)] (.tmp 0) (.tmp 1))]) (.cond (.var 4) (.seq (.region [.k 2 2,.j 2 3 0]) .ret) .skip)) (.seq (.region [.d 0 2,.b 1 0,.a 1,.v 1 2,.d 1 2,.b 1 4,.qn (.build [.int .i64 0,.bool false] [(0,(1,.tmp 3)),(1,(1,.tmp 5))]),.j 2 3 6]) .ret)),[.cell 3 true 2]⟩
theorem Kq:aB Tryz.prog Tryz.f152 2 [0,1,2,4,7] [] true ([],[])=some LQ:=by kernel_rfl
theorem at51:Tryz.prog.funcs[152]?=some Tryz.f152:=by kernel_rfl
def AL:bM:=⟨2,6,.seq (.region [.y 2 0,.y 3 1,.ce 4 2]) (.seq (.seq (.region [.d 1 2,.b 1 0,.N 1,.h 2,.D 1 3 3,.r 1 4 3,.bq 5 3,.s 0 3 6,.p 1 7 6,.s 0 2 6,.p 1 9 6,.qt (.bin .gtr (.tmp 8) (.tmp 10)) 6,.ac 6 11 3,.G 5 3 12]) (.cond (.var 5) (.seq (.region [.k 2 3,.j 2 4 0]) .ret) .skip)) (.seq (.region [.k 2 2,.j 2 4 0]) .ret)),[.cell 4 true 2]⟩
theorem yF:aB Tryz.prog Tryz.f172 2 [0,1,2,3,4,18] [] true ([],[])=some AL:=by kernel_rfl
theorem OZ:Tryz.prog.funcs[172]?=some Tryz.f172:=by kernel_rfl
end Cy
end Go.Proofs.YtfkcoekicjjndaaGreat
