import Derived.Test.YtkcjhljbgjpklaaVI02
import Derived.Shelf.Abstract
import Derived.WideKeyArgs
import Derived.OpenShut
import Derived.ChangeOld
import Derived.RowKit
import Derived.Test.YtkcjhljbgjpklaaChecked
import Derived.KernelRfl
set_option maxRecDepth 100000
set_option maxHeartbeats 4000000
noncomputable section
namespace Go.Proofs.Ytkcjhljbgjpklaa
open Go
variable {A:ac} {d7 v0 d6 d2 d3 v5 v1 v4 d4 d9 d10 d1 v3 d5 d8 d11 d13 v2 v6 d12 d14 d0 v8 a d15 d16 v11 v12 v7 v9 v10 v13 x:AV} {E:Env} {f:FuncId} {fuel n i:Nat} {o:Out} {w W W':World} {OK OK' OK2:Nat->Prop} {g:aC} {vs:List Nat} {pu:List FuncId} {on:Bool} {hints:t7} {t:TypeId} {v:Value} {P:Program} {G:Nat->Option (List AV)} {z:Int} {xs:List Int}
section
variable {P:Program} {E:Env} {N:Nat} {vs:List Nat} {base:Nat} {rd:Option Nat} {n:Nat}
theorem pZ (hE:dj P E) (hvn:vs.Nodup) (hvl:∀t∈vs,t<N) {f:Operand} {ps:Array Tmp} {asg bd:Code} {z:MX} {is:List Nat} (hz:vk vs [] f=some z) (his:sC vs ps.toList=some is) {asgE bdE:List AV->ac->Option Out}
  (ha:∀(l m:Nat) (σ:List AV) (A:ac) (out:Out) (a:Act) (w:World) (OK:Nat->Prop) (g:aC),SRel E N vs 0 w OK g σ A a->asgE σ A=some out->asg.wpIn (FW (some l)) m P (dZ E N vs 0 w OK g out) a w)
  (hb:∀(l m:Nat) (σ:List AV) (A:ac) (out:Out) (a:Act) (w:World) (OK:Nat->Prop) (g:aC),SRel E N vs 0 w OK g σ A a->bdE σ A=some out->bd.wpIn (FW (some l)) m P (dZ E N vs 0 w OK g out) a w)
  {σ:List AV} {A:ac} {out:Out} {a:Act} {w:World} {OK:Nat->Prop} {g:aC} (hs:SRel E N vs base w OK g σ A a)
  (he:evR (fun (_:Nat × Loop)=>True) (fun x=>
   match E.callY (fU A.length x.1 x.2 σ is asgE bdE E.hand) (evX E σ [] z) [.func (.yield x.1) [] []] (A++[Ent.loop x.2 0]) with
   | some (_,A')=>mQ A.length σ A'
   | none=>none)=some out) :
  (Code.rangeFunc f ps asg bd).wpIn (FW none) n P (dZ E N vs base w OK g out) a w:=by
 refine wpIn_rangeFunc ?_
 intro fn hfn
 obtain ⟨r0,hr0⟩:∃r0:Loop,r0={state:=.ready,pending:=none,fn,tmps:=a.tmps,params:=ps,assign:=asg,body:=bd,defers:=w.heap.size}:=⟨_,rfl⟩
 obtain ⟨hA1,hx1⟩:=hs.arena.alloc (.deferred (some []))
 have hD:(w.alloc (.deferred (some []))).heap[w.heap.size]?=some (.deferred (some [])):=World.alloc_heap_new w _
 obtain ⟨w1,hw1⟩:∃w1,w1=w.alloc (.deferred (some [])):=⟨_,rfl⟩
 have hsz1:w1.heap.size=w.heap.size+1:=by rw [hw1]; simp
 rw [<-hw1] at hA1 hx1 hD
 have hrec:iW r0 0=r0:=by rw [hr0]; rfl
 obtain ⟨hA2,hx2⟩:=hA1.push (w':=w1.alloc (.loop r0)) (.loop r0) rfl rfl rfl rfl (.loop r0 0) ⟨w.heap.size+1,0,0,0,0⟩ hsz1.symm (fun g' _ _ hnew=>⟨_,rfl,rfl,by rw [hrec,<-hsz1]; exact hnew⟩)
 obtain ⟨w2,hw2⟩:∃w2,w2=w1.alloc (.loop r0):=⟨_,rfl⟩
 obtain ⟨inc0,hinc0⟩:∃i:Inc,i=⟨w.heap.size+1,0,0,0,0⟩:=⟨_,rfl⟩
 rw [<-hw2,<-hinc0] at hA2 hx2
 have hx:=hx1.trans hx2
 have hg2:g.push A.length inc0 A.length=[inc0]:=by simp [aC.push]
 have hE0:=he
 have he:=Ei he (w.heap.size+1,r0) trivial
 simp only at he
 have hs2:=hs.ext hx hA2
 have hyH:iL P E.glob (⟨A.length,w.heap.size+1,vs.map (a.tmps.getD · undef),σ⟩ :: E.ys) (fU A.length (w.heap.size+1) r0 σ is asgE bdE E.hand):=
  ua hvn hvl (by rw [hr0]; exact ⟨rfl,rfl⟩) (by rw [hr0]) hs.size hs.len (by rw [hr0]; exact his) hE.hand (by rw [hr0]; exact ha _) (by rw [hr0]; exact hb _)
 have hI2:zI E.glob (⟨A.length,w.heap.size+1,vs.map (a.tmps.getD · undef),σ⟩ :: E.ys) w2 OK (g.push A.length inc0):=by
  refine ⟨hs2.glob.1,fun y hy=>?_⟩
  rcases Su.1 hy with rfl | hy
  ·refine ⟨⟨inc0,hg2,by rw [hinc0],by rw [hinc0]⟩,bS.of_get (by simp [hs.len]) fun i h1 h2=>?_⟩
   simp only [SA]
   have:=hs2.vars i (by simpa using h1)
   simpa [Rw,Rx h2] using this
  ·exact hs2.glob.2 y hy
 split at he
 ·rename_i v0 A' hcall
  have hrr:jO E N vs base w2 OK (g.push A.length inc0) σ [] [] (A++[Ent.loop r0 0]) a:={hs2 with tlen:=rfl,temps:=fun j t hj=>by simp at hj,tok:=fun j t hj=>by simp at hj,tone:=fun j j' t hj=>by simp at hj}
  have hfv:=hrr.eval f z hz
  obtain ⟨d,fid,args',e1,e2,e3⟩:=hE.callY _ _ (fun y hy=>SK _ hy) hyH _ _ _ _ _ hcall w2 OK _ _ [.func (.yield (w.heap.size+1)) #[] #[]] hA2 hI2 hfv
   ⟨.func _ _ _ _ [] [] rfl rfl (fun _=>undef) (fun _=>undef) (fun i hi=>by simp at hi) (fun i hi=>by simp at hi) (fun i hi=>by simp at hi) (fun i hi=>by simp at hi),trivial⟩
  refine ⟨w.heap.size+1,[{target:=.collected w.heap.size,args:=#[]}],w2,d,w2,fid,args',w2,?_,?_,fun f' _=>trivial,e2,fun hd=>by simp [tJ] at hd,?_⟩
  ·rw [hw2,hw1,hr0]; exact run_enterLoop_outer _ _ _ _ _
  ·have:(resolve a.eval (rangeCall f (w.heap.size+1)) 0)=Deferred.ofValue (a.eval f) #[.func (.yield (w.heap.size+1)) #[] #[]]:=by
    simp [resolve,Act.eval]
   rw [this]; exact e1
  refine (yu e3 none (n-1)).mono ?_
  rintro e w3 ⟨v,OK3,g3,rfl,hv3,hA3,hx3⟩
  simp only [mQ] at he
  split at he
  ·rename_i r k hAn
   have hn0:A.length<A'.length:=(Rv.1 hAn).1
   have hent:=hA3.ent A.length hn0
   rw [(Rv.1 hAn).2] at hent
   obtain ⟨inc',e4,_,hheap⟩:=hent
   have hg3:g3 A.length=[inc0]:=(hx3.fix A.length inc0 (by rw [hg2]; simp) (by rw [hinc0])).trans hg2
   rw [hg3] at e4
   simp at e4; subst e4
   have hb0:inc0.b=w.heap.size+1:=by rw [hinc0]
   have hnb:(iW r k).state≠.busy:=by unfold iW; split <;> simp
   have hend:=run_endLoop (P:=P) hheap hnb
   obtain ⟨hA4,hx4⟩:=hA3.turn (w':=w3.putObj inc0.b (.loop {iW r k with state:=.exhausted})) (g':=g3) A.length hn0 (by rw [hAn]; simp) inc0 (by rw [hg3]; simp) (by simp) rfl rfl rfl (fun b hne=>World.putObj_heap_other hne)
    (fun r2 hr2=>by rw [hheap] at hr2; injection hr2 with hr2; injection hr2 with hr2; rw [<-hr2]; exact hnb) g3.le_refl (fun _ _=>rfl) (fun i hi=>⟨i,hi,rfl⟩)
    (fun i i' hi hi' _=>by rw [hg3] at hi hi'; simp at hi hi'; rw [hi,hi']) .dead (fun _=>trivial) (fun _=>rfl)
   have hxx:=hx3.trans hx4
   have hs4:=hs2.ext hxx hA4
   have hm2:oK base w2 OK (g.push A.length inc0) ({target:=.collected w.heap.size,args:=#[]} :: a.defers):=by
    refine ⟨⟨w.heap.size,rfl,hs.low,?_,fun ho=>?_,fun id inc hi eb=>?_,?_⟩,hs2.defers⟩
    ·rw [hw2]
     show (w1.heap.push _)[w.heap.size]?=_
     rw [Ts,RK (by omega)]; exact hD
    ·have:=hs.arena.ok _ ho; omega
    ·simp only [aC.push] at hi
     split at hi
     ·simp at hi; subst hi; omega
     ·have:=hs.arena.low id inc hi; omega
    ·have:∀l:List Deferred,oK base w OK g l->∀d'∈l,d'≠{target:=.collected w.heap.size,args:=#[]}:=by
      intro l
      induction l with
      | nil=>intro _ d' hd; cases hd
      | cons x r ih=>
       rintro ⟨⟨D,hd,_,hh,_⟩,hr⟩ d' hd' eq
       rcases Su.1 hd' with rfl | hd'
       ·rw [hd] at eq
        injection eq with eq _
        injection eq with eq
        have:=(Sp.1 hh).1
        omega
       ·exact ih hr d' hd' eq
     exact this _ hs.defers
   have hs5:SRel E N vs base (w3.putObj inc0.b (.loop {iW r k with state:=.exhausted})) OK3 g3 σ (A'.set A.length .dead) {a with defers:=[{target:=.collected w.heap.size,args:=#[]}]++a.defers}:=
    ⟨hs4.size,hm2.ext hxx,hs4.low,hs4.len,hs4.vars,hs4.arena,hs4.glob⟩
   refine ⟨_,_,by rw [<-hb0]; exact hend,?_⟩
   injection he with he
   by_cases hk0:k=0
   ·subst hk0
    rw [RH rfl] at he
    subst he
    rw [show (iW r 0).pending=none from rfl]
    exact ⟨OK3,g3,hs5,hx.trans hxx⟩
   ·by_cases hk1:k=1
    ·subst hk1
     rw [RK (by omega),RH rfl] at he
     subst he
     rw [show (iW r 1).pending=some .ret from rfl]
     exact wpIn_ret ⟨OK3,g3,hs5,hx.trans hxx⟩
    ·rw [RK hk0,RK hk1] at he
     subst he
     have:(iW r k).pending=some (.exit (k-2)):=by unfold iW; rw [RK hk0]; simp [hk1]
     split
     ·rename_i h; rw [this] at h; cases h
     ·rename_i c h
      rw [this] at h
      injection h with h; subst h
      exact wpIn_exit ⟨rfl,OK3,g3,hs5,hx.trans hxx⟩
  ·cases he
 ·cases he
theorem SRel.clear {a:Act} (mask:List Nat):∀ {σ:List AV},SRel E N vs base w OK g σ A a->SRel E N vs base w OK g (Go.Proofs.Ytkcjhljbgjpklaa.clear mask σ) A a:=by
 induction mask with
 | nil=>intro σ h; exact h
 | cons i m ih=>
  intro σ h
  refine ih (σ:=σ.set i .undef) ⟨h.size,h.defers,h.low,by simp [h.len],fun k hk=>?_,h.arena,h.glob⟩
  by_cases e:i=k
  ·subst e
   simp [RO (show i<σ.length by rw [h.len]; exact hk),aW.undef]
  ·have:=h.vars k hk
   simpa [Rw,RF e] using this
theorem BA {on:Bool} (hE:dj P E) (hvn:vs.Nodup) (hvl:∀t∈vs,t<N) {pu:List FuncId} (hpu:bG E pu) (fuel:Nat):∀(code:Code) (inR:Bool) (rd:Option Nat) (base n:Nat),(inR=false->rd=none)->∀(h:t7)
  (σ:List AV) (A:ac) (out:Out) (a:Act) (w:World) (OK:Nat->Prop) (g:aC),SRel E N vs base w OK g σ A a->evC E fuel (dY P N vs pu on inR code h).1 σ A=some out->code.wpIn (FW rd) n P (dZ E N vs base w OK g out) a w:=by
 intro code
 induction code with
 | skip=>
  intro inR rd base n hrd h σ A out a w OK g hs he
  simp only [dY,evC,Rz] at he
  subst he
  exact wpIn_skip ⟨OK,g,hs,Ext.refl _ _ _⟩
 | label l=>
  intro inR rd base n hrd h σ A out a w OK g hs he
  simp only [dY,evC,Rz] at he
  subst he
  exact wpIn_label ⟨OK,g,hs,Ext.refl _ _ _⟩
 | region id ops draw=>
  intro inR rd base n hrd h σ A out a w OK g hs he
  cases draw with
  | true=>
   simp only [dY,SX] at he
   split at he
   ·rename_i hc
    rw [Sd] at hc
    split at he
    ·rename_i hp
     simp only [evC,RJ] at he
     obtain ⟨⟨σ',A'⟩,he,rfl⟩:=he
     obtain ⟨fs,hfs⟩:=f9 (pu:=pu) _ _ _ _ [] _ _ he
     exact iU hE hvn hvl hpu hc.1 hc.2 hs hfs (fun p hx=>by rw [hp] at hx; cases hx) (fun a1 w1 OK1 g1 k1 k2=>⟨OK1,g1,k1,k2⟩)
    ·rename_i x r hp
     simp only [evC] at he
     split at he
     ·rename_i σ' A' fs hfs
      simp only [Ry,Rz] at he
      obtain ⟨hall,rfl⟩:=he
      exact iU hE hvn hvl hpu hc.1 hc.2 hs hfs (fun p hx=>by rw [hp] at hx; exact RZ.1 hall p hx) (fun a1 w1 OK1 g1 k1 k2=>⟨OK1,g1,k1,k2⟩)
     ·cases he
   ·simp [evC] at he
  | false=>
   simp only [dY,Sc,S8,evC,RJ] at he
   obtain ⟨⟨σ',A'⟩,he,rfl⟩:=he
   refine wpIn_region ?_
   have:=qz (on:=on) (rd:=rd) (n:=n) hE hvn hvl (Q:=dZ E N vs base w OK g (.normal σ' A')) (fun a w' OK' g' k1 k2=>⟨OK',g',k1,k2⟩) ops.toList 0 [] σ [] A a w OK g rfl
    {hs with tlen:=rfl,temps:=fun j t hj=>by simp at hj,tok:=fun j t hj=>by simp at hj,tone:=fun j j' t hj=>by simp at hj} (Ext.refl _ _ _) he
   simpa [List.range_eq_range'] using this
 | seq x y ihx ihy=>
  intro inR rd base n hrd h σ A out a w OK g hs he
  simp only [dY,evC] at he
  cases hex:evC E fuel (dY P N vs pu on inR x h).1 σ A with
  | none=>rw [hex] at he; cases he
  | some o1=>
   rw [hex] at he
   refine wpIn_seq (wpIn_mono (ihx inR rd base n hrd h σ A o1 a w OK g hs hex) ?_)
   intro e a1 w1 hq
   cases o1 with
   | normal σ1 A1=>
    cases e <;> simp only [dZ] at hq
    obtain ⟨OK1,g1,hs1,hx1⟩:=hq
    exact wpIn_mono (ihy inR rd base n hrd _ σ1 A1 out a1 w1 OK1 g1 hs1 he) (fun e a w hq=>hq.pre hx1)
   | exit id σ1 A1=>
    simp only [Rz] at he
    subst he
    cases e <;> simp only [dZ] at hq
    exact hq
   | ret σ1 A1=>
    simp only [Rz] at he
    subst he
    cases e <;> simp only [dZ] at hq
    exact hq
 | cond c x y ihx ihy=>
  intro inR rd base n hrd h σ A out a w OK g hs he
  simp only [dY] at he
  split at he
  ·rename_i mcx hcx
   simp only [evC] at he
   have hrr:jO E N vs base w OK g σ [] [] A a:={hs with tlen:=rfl,temps:=fun j t hj=>by simp at hj,tok:=fun j t hj=>by simp at hj,tone:=fun j j' t hj=>by simp at hj}
   have hv:=hrr.eval c mcx hcx
   split at he
   ·rename_i t ht
    rw [ht] at hv
    refine wpIn_cond (t:=t) hv.inv_bool ?_
    cases t
    ·exact ihy inR rd base n hrd _ σ A out a w OK g hs (by simpa using he)
    ·exact ihx inR rd base n hrd _ σ A out a w OK g hs (by simpa using he)
   ·cases he
  ·simp [evC] at he
 | block id x ih=>
  intro inR rd base n hrd h σ A out a w OK g hs he
  have hplain:∀out,evC E fuel (.block id (dY P N vs pu on inR x h).1) σ A=some out->(Code.block id x).wpIn (FW rd) n P (dZ E N vs base w OK g out) a w:=by
   clear he
   intro out he
   simp only [evC] at he
   cases hex:evC E fuel (dY P N vs pu on inR x h).1 σ A with
   | none=>rw [hex] at he; cases he
   | some o1=>
    rw [hex] at he
    refine wpIn_block (wpIn_mono (ih inR rd base n hrd h σ A o1 a w OK g hs hex) ?_)
    intro e a1 w1 hq
    cases o1 with
    | normal σ1 A1=>
     simp only [Rz] at he
     subst he
     cases e <;> simp only [dZ] at hq
     exact hq
    | exit id' σ1 A1=>
     cases e <;> simp only [dZ] at hq
     rename_i id2
     obtain ⟨rfl,hq⟩:=hq
     simp only [Exit.inBlock]
     replace he:(if id'=id then some (Out.normal σ1 A1) else some (Out.exit id' σ1 A1))=some out:=he
     split at he
     ·rename_i hid
      injection he with he; subst he
      rw [RH hid]; exact hq
     ·rename_i hid
      injection he with he; subst he
      rw [RK hid]; exact ⟨rfl,hq⟩
    | ret σ1 A1=>
     simp only [Rz] at he
     subst he
     cases e <;> simp only [dZ] at hq
     exact hq
  simp only [dY] at he
  split at he
  ·exact hplain out he
  ·rename_i m r hmr
   simp only [evC] at he hplain
   split at he
   ·rename_i σ1 A1 hb
    injection he with he; subst he
    refine wpIn_mono (hplain _ hb) ?_
    intro e a1 w1 hq
    cases e <;> simp only [dZ] at hq
    obtain ⟨OK1,g1,hs1,hx1⟩:=hq
    exact ⟨OK1,g1,hs1.clear m,hx1⟩
   ·exact hplain out he
 | loop x ih=>
  intro inR rd base n hrd h σ A out a w OK g hs he
  simp only [dY,evC] at he
  refine wpIn_loop_ghost (fun k a' w'=>∃ σ' A' OK' g',SRel E N vs base w' OK' g' σ' A' a'/\Ext w OK g w' OK' g'/\bM (evC E fuel (dY P N vs pu on inR x (h.1.tail,h.2)).1) (h.1.headD []) k σ' A'=some out) fuel ⟨σ,A,OK,g,hs,Ext.refl _ _ _,he⟩ ?_
  rintro k a' w' ⟨σ',A',OK',g',hs',hx',hit⟩
  cases k with
  | zero=>cases hit
  | succ k=>
   simp only [bM] at hit
   cases hex:evC E fuel (dY P N vs pu on inR x (h.1.tail,h.2)).1 (clear (h.1.headD []) σ') A' with
   | none=>rw [hex] at hit; cases hit
   | some o1=>
    rw [hex] at hit
    refine wpIn_mono (ih inR rd base n hrd (h.1.tail,h.2) _ A' o1 a' w' OK' g' (hs'.clear _) hex) ?_
    intro e a1 w1 hq
    cases o1 with
    | normal σ1 A1=>
     cases e <;> simp only [dZ] at hq
     obtain ⟨OK1,g1,hs1,hx1⟩:=hq
     exact ⟨k,Nat.lt_succ_self k,σ1,A1,OK1,g1,hs1,hx'.trans hx1,hit⟩
    | exit id σ1 A1=>
     simp only [Rz] at hit
     subst hit
     cases e <;> simp only [dZ] at hq
     exact dZ.pre (out:=.exit id σ1 A1) (e:=.exit _) hx' hq
    | ret σ1 A1=>
     simp only [Rz] at hit
     subst hit
     cases e <;> simp only [dZ] at hq
     exact dZ.pre (out:=.ret σ1 A1) (e:=.ret) hx' hq
 | exit id=>
  intro inR rd base n hrd h σ A out a w OK g hs he
  simp only [dY,evC,Rz] at he
  subst he
  exact wpIn_exit ⟨rfl,OK,g,hs,Ext.refl _ _ _⟩
 | scope x ih=>
  intro inR rd base n hrd h σ A out a w OK g hs he
  simp only [dY,evC] at he
  refine vX (ih inR rd base n hrd h σ A out a w OK g hs he) (fun l a w hq=>?_)
  cases out <;> exact hq
 | ret=>
  intro inR rd base n hrd h σ A out a w OK g hs he
  simp only [dY,evC,Rz] at he
  subst he
  exact wpIn_ret ⟨OK,g,hs,Ext.refl _ _ _⟩
 | rangeFunc f ps x y ihx ihy=>
  intro inR rd base n hrd h σ A out a w OK g hs he
  simp only [dY] at he
  split at he
  ·rename_i z is hz his
   obtain rfl:=hrd rfl
   simp only [evC] at he
   exact pZ hE hvn hvl hz his (fun l m σ A out a w OK g hs he=>ihx true (some l) 0 m (fun h=>by cases h) _ σ A out a w OK g hs he)
    (fun l m σ A out a w OK g hs he=>ihy true (some l) 0 m (fun h=>by cases h) _ σ A out a w OK g hs he) hs he
  ·simp [evC] at he
 | _=>
  intro inR rd base n hrd h σ A out a w OK g hs he
  simp [dY,evC] at he
end
def frz (A:ac):Nat->AV->AV
 | 0,.agg _=>.undef
 | 0,.tup _=>.undef
 | 0,.sl ..=>.undef
 | 0,.ptr ..=>.undef
 | 0,.func ..=>.undef
 | 0,.iface ..=>.undef
 | n+1,.agg cs=>.agg (cs.map (frz A n))
 | n+1,.tup cs=>.tup (cs.map (frz A n))
 | n+1,.sl id off len=>match A[id]? with
  | some (.row s _ es)=>.fs s (((es.drop off).take len).map (frz A n))
  | _=>.undef
 | n+1,.csl id off len=>match A[id]? with
  | some (.row s _ es)=>.fs s (((es.drop off).take len).map (frz A n))
  | _=>.undef
 | n+1,.ptr id i o=>match A[id]? with
  | some (.row _ _ es)=>match es[i]? with
   | some e=>if e.solid=true/\o<(cellsOf e).length then .fp (((cellsOf e).drop o).map (frz A n)) else .undef
   | none=>.undef
  | _=>.undef
 | n+1,.func fn c1 c2=>.func fn (c1.map (frz A n)) (c2.map (frz A n))
 | n+1,.iface t v=>.iface t (frz A n v)
 | _,.map _=>.undef
 | 0,.csl ..=>.undef
 | _,a=>a
section
variable {P:Program} {w:World} {OK OK2:Nat->Prop} {g:aC} {A:ac}
theorem jh (hA:cq w OK g A) (h1:∀b,OK b->OK2 b) (h2:∀id inc,A[id]?≠some .dead->inc∈g id->OK2 inc.b):∀(n:Nat) (a:AV) (v:Value),aW w OK g v a->aW w OK2 aC.none v (frz A n a):=by
 have up:∀ {v:Value} {a:AV},aW w OK aC.none v a->aW w OK2 aC.none v a:=fun h=>h.mono h1 (fun _ _=>rfl) _ (aC.le_refl _)
 intro n
 induction n with
 | zero=>
  intro a v h
  cases a <;> simp only [frz] <;> first
   | exact .undef _ _
   | (have e:=h.inv_bool; rw [e]; exact .bool _ _)
   | (have e:=h.inv_int; rw [e]; exact .int _ _ _)
   | (obtain ⟨s,e,hs⟩:=h.inv_str; rw [e]; exact .str _ _ _ hs)
   | (obtain ⟨p,e⟩:=h.inv_nilS; rw [e]; exact .nilS _ _)
   | (have e:=h.inv_nilP; rw [e]; exact .nilP _)
   | (have e:=h.inv_nilM; rw [e]; exact .nilM _)
   | (cases h; exact .nilF _)
   | (cases h; exact .nilI _)
   | (obtain ⟨b,o,cap,T,c,fz,vals,e,hb,hh,hcap,hv,hs,hc⟩:=h.inv_fs; rw [e]; exact .fs _ b o cap _ T c fz _ vals (h1 _ hb) hh hcap (fun i hi=>up (hv i hi)) hs hc)
   | (obtain ⟨b,o,T,c,fz,vals,e,hb,hh,hne,hv,hc⟩:=h.inv_fp; rw [e]; exact .fp _ b o T c fz _ vals (h1 _ hb) hh hne (fun i hi=>up (hv i hi)) hc)
 | succ n ih=>
  intro a v h
  cases a <;> simp only [frz] <;> try first
   | exact .undef _ _
   | (have e:=h.inv_bool; rw [e]; exact .bool _ _)
   | (have e:=h.inv_int; rw [e]; exact .int _ _ _)
   | (obtain ⟨s,e,hs⟩:=h.inv_str; rw [e]; exact .str _ _ _ hs)
   | (obtain ⟨p,e⟩:=h.inv_nilS; rw [e]; exact .nilS _ _)
   | (have e:=h.inv_nilP; rw [e]; exact .nilP _)
   | (have e:=h.inv_nilM; rw [e]; exact .nilM _)
   | (cases h; exact .nilF _)
   | (cases h; exact .nilI _)
   | (obtain ⟨b,o,cap,T,c,fz,vals,e,hb,hh,hcap,hv,hs,hc⟩:=h.inv_fs; rw [e]; exact .fs _ b o cap _ T c fz _ vals (h1 _ hb) hh hcap (fun i hi=>up (hv i hi)) hs hc)
   | (obtain ⟨b,o,T,c,fz,vals,e,hb,hh,hne,hv,hc⟩:=h.inv_fp; rw [e]; exact .fp _ b o T c fz _ vals (h1 _ hb) hh hne (fun i hi=>up (hv i hi)) hc)
  case sl id off len=>
   split
   ·rename_i s gr es hid
    obtain ⟨inc,cap,ao,hinc,rfl,hl,hn,hcap,ha⟩:=h.inv_sl
    obtain ⟨hlt',hrow⟩:=Rv.1 hid
    have hent:=hA.ent id hlt'
    rw [hrow] at hent
    obtain ⟨hesz,hne,hnc,c,T,fz,hh,hu,hcs,hel⟩:=hent.2 inc hinc
    have hlen:(((es.drop off).take len).map (frz A n)).length=len:=by simp; omega
    obtain ⟨vals,hvals⟩:∃vals:Nat->Value,∀i (hi:i<len),aW w OK g (vals i) (es[off+i]'(by omega))/\(vals i).cells.size=s/\cF (vals i)/\∀j,j<s->c[inc.o+(off+i)*s+j]?=(vals i).cells[j]?:=
     ⟨fun i=>if hi:i<len then (hel (off+i) (by omega) (by omega)).choose else undef,fun i hi=>by simp only [hi,UO]; exact (hel (off+i) (by omega) (by omega)).choose_spec⟩
    have:=aW.fs (w:=w) (OK:=OK2) aC.none inc.b ao cap s T c fz (((es.drop off).take len).map (frz A n)) vals (h2 id inc (by rw [hid]; simp) hinc) hh (by omega)
     (fun i hi=>by simp only [SA,SN,SF]; exact ih _ _ (hvals i (by omega)).1)
     (fun i hi=>⟨(hvals i (by omega)).2.1,(hvals i (by omega)).2.2.1⟩)
     (fun i hi j hj=>by
      rw [<-(hvals i (by omega)).2.2.2 j hj,ha (by omega),hesz]
      congr 1; rw [RY]; omega)
    rwa [hlen] at this
   ·exact .undef _ _
  case csl id off len=>
   split
   ·rename_i s gr es hid
    obtain ⟨inc,ao,hinc,rfl,hn,hcap,ha⟩:=h.inv_csl
    obtain ⟨hlt',hrow⟩:=Rv.1 hid
    have hent:=hA.ent id hlt'
    rw [hrow] at hent
    obtain ⟨hesz,hne,hnc,c,T,fz,hh,hu,hcs,hel⟩:=hent.2 inc hinc
    have hlen:(((es.drop off).take len).map (frz A n)).length=len:=by simp; omega
    obtain ⟨vals,hvals⟩:∃vals:Nat->Value,∀i (hi:i<len),aW w OK g (vals i) (es[off+i]'(by omega))/\(vals i).cells.size=s/\cF (vals i)/\∀j,j<s->c[inc.o+(off+i)*s+j]?=(vals i).cells[j]?:=
     ⟨fun i=>if hi:i<len then (hel (off+i) (by omega) (by omega)).choose else undef,fun i hi=>by simp only [hi,UO]; exact (hel (off+i) (by omega) (by omega)).choose_spec⟩
    have:=aW.fs (w:=w) (OK:=OK2) aC.none inc.b ao len s T c fz (((es.drop off).take len).map (frz A n)) vals (h2 id inc (by rw [hid]; simp) hinc) hh (by omega)
     (fun i hi=>by simp only [SA,SN,SF]; exact ih _ _ (hvals i (by omega)).1)
     (fun i hi=>⟨(hvals i (by omega)).2.1,(hvals i (by omega)).2.2.1⟩)
     (fun i hi j hj=>by
      rw [<-(hvals i (by omega)).2.2.2 j hj,ha (by omega),hesz]
      congr 1; rw [RY]; omega)
    rwa [hlen] at this
   ·exact .undef _ _
  case ptr id i o=>
   split
   ·rename_i s gr es hid
    split
    ·rename_i e he
     split
     ·rename_i hc
      obtain ⟨hsol,ho⟩:=hc
      obtain ⟨inc,hinc,rfl,hn,ho'⟩:=h.inv_ptr
      obtain ⟨hlt',hrow⟩:=Rv.1 hid
      obtain ⟨hi',rfl⟩:=Rv.1 he
      have hent:=hA.ent id hlt'
      rw [hrow] at hent
      obtain ⟨hesz,hne,hnc,c,T,fz,hh,hu,hcs,hel⟩:=hent.2 inc hinc
      obtain ⟨v,hv,hvs,hok,hc⟩:=hel i hi' hn
      obtain ⟨k1,k2,k3⟩:=hv.cells hsol
      obtain ⟨f,hf⟩:∃f:Nat->Value,∀j (hj:j<(cellsOf es[i]).length),v.cells[j]?=some (f j)/\(f j).oneCell'=true/\aW w OK g (f j) (cellsOf es[i])[j]:=
       ⟨fun j=>(v.cells[j]?).getD undef,fun j hj=>by
        obtain ⟨x,a1,a2,a3⟩:=k3 j hj
        simp only [a1,Sq]
        exact ⟨trivial,a2,a3⟩⟩
      refine .fp _ inc.b _ T c fz _ (fun j=>f (o+j)) (h2 id inc (by rw [hid]; simp) hinc) hh (by simp; omega) (fun j hj=>?_) (fun j hj=>?_)
      ·simp only [SA,SF]
       exact ih _ _ (hf (o+j) (by simp at hj; omega)).2.2
      ·have hj':o+j<(cellsOf es[i]).length:=by simp at hj; omega
       refine ⟨?_,(hf (o+j) hj').2.1⟩
       rw [hesz,TB,hc (o+j) (by omega)]
       exact (hf (o+j) hj').1
     ·exact .undef _ _
    ·exact .undef _ _
   ·exact .undef _ _
  case agg cs=>
   obtain ⟨vs,vals,rfl,hl,hg,hv⟩:=h.inv_agg
   exact .agg _ vs _ (by simpa using hl) vals (fun i hi=>hg i (by simpa using hi)) (fun i hi=>by simp only [SA]; exact ih _ _ (hv i (by simpa using hi)))
  case tup cs=>
   obtain ⟨vs,vals,rfl,hl,hg,hv⟩:=h.inv_tup
   exact .tup _ vs _ (by simpa using hl) vals (fun i hi=>hg i (by simpa using hi)) (fun i hi=>by simp only [SA]; exact ih _ _ (hv i (by simpa using hi)))
  case func fn c1 c2=>
   obtain ⟨vs1,vs2,vals1,vals2,rfl,hl1,hl2,hg1,hg2,hv1,hv2⟩:=h.inv_func
   exact .func _ fn vs1 vs2 _ _ (by simpa using hl1) (by simpa using hl2) vals1 vals2 (fun i hi=>hg1 i (by simpa using hi)) (fun i hi=>hg2 i (by simpa using hi))
    (fun i hi=>by simp only [SA]; exact ih _ _ (hv1 i (by simpa using hi))) (fun i hi=>by simp only [SA]; exact ih _ _ (hv2 i (by simpa using hi)))
  case iface t x=>
   cases h with
   | iface _ t v a hv=>exact .iface _ t v _ (ih _ _ hv)
end
inductive LT where
 | tmp (i:Nat)
 | cell (i:Nat) (agg:Bool) (size:Nat)
structure cI where
 n:Nat
 len:Nat
 mc:MC
 res:List LT
def kP (P:Program) (vs:List Nat):List ResultVar->Option (List LT)
 | []=>some []
 | .tmp t :: r=>match vs.idxOf? t,kP P vs r with
  | some i,some l=>some (.tmp i :: l)
  | _,_=>none
 | .cell a t :: r=>match vs.idxOf? a,P.info? t,gz P t,kP P vs r with
  | some i,some ti,some b,some l=>some (.cell i b ti.size :: l)
  | _,_,_,_=>none
def xP:List Nat->Bool
 | []=>true
 | x :: r=>!r.contains x && xP r
def aH (P:Program) (fn:Func) (n:Nat) (vs:List Nat) (pu:List FuncId) (on:Bool) (hints:t7):Option cI:=
 match fn.body with
 | some c=>match kP P vs fn.results.toList with
  | some rs=>if xP vs && vs.all (· < fn.ntmps) && vs.take n == List.range n && Nat.ble n fn.ntmps && !(fn.name == "runtime.NumGoroutine") then some ⟨n,vs.length,(dY P fn.ntmps vs pu on false c hints).1,rs⟩ else none
  | none=>none
 | none=>none
def iP (A:ac) (σ:List AV):List LT->Option (List AV)
 | []=>some []
 | .tmp i :: r=>(iP A σ r).map (σ.getD i .undef :: ·)
 | .cell i b s :: r=>match ab b s A (σ.getD i .undef),iP A σ r with
  | some a,some l=>some (a :: l)
  | _,_=>none
def dE:List AV->AV
 | [a]=>a
 | l=>.tup l
def cc (E:Env) (fuel:Nat) (mf:cI) (args:List AV) (A:ac):Option (AV × ac):=
 if args.length=mf.n then
  match evC E fuel mf.mc (args++List.replicate (mf.len-mf.n) .undef) A with
  | some (.normal σ A')=>(iP A' σ mf.res).map fun l=>(dE l,A')
  | some (.ret σ A')=>(iP A' σ mf.res).map fun l=>(dE l,A')
  | _=>none
 else none
def au (P:Program) (G:Nat->Option (List AV)) (f:FuncId) (M:be->List AV->ac->Option (AV × ac)):Prop:=
 Enters P f/\∀ys h,iL P G ys h->∀args A r A',M h args A=some (r,A')->∀(w:World) (OK:Nat->Prop) (g:aC) (vs:List Value),cq w OK g A->zI G ys w OK g->bS w OK g vs args ->
  Calls P f vs.toArray w fun e w'=>∃v OK' g',e=.returned v/\aW w' OK' g' v r/\cq w' OK' g' A'/\Ext w OK g w' OK' g'
def eJ (P:Program) (G:Nat->Option (List AV)) (f:FuncId) (M:List AV->ac->Option (AV × ac)):Prop:=
 Enters P f/\∀args A r A',M args A=some (r,A')->∀(w:World) (OK:Nat->Prop) (g:aC) (vs:List Value),cq w OK g A->Gm G w OK->bS w OK g vs args ->
  Calls P f vs.toArray w fun e w'=>∃v OK' g',e=.returned v/\aW w' OK' g' v r/\cq w' OK' g' A'/\Ext w OK g w' OK' g'
theorem eJ.y {M:List AV->ac->Option (AV × ac)} (h:eJ P G f M):au P G f (fun _=>M):=
 ⟨h.1,fun _ _ _ args A r A' he w OK g vs hA hI hl=>h.2 args A r A' he w OK g vs hA hI.1 hl⟩
section
variable {P:Program} {E:Env}
theorem sh:∀ {l:List Nat},xP l=true->l.Nodup
 | [],_=>List.nodup_nil
 | x :: r,h=>by
  simp only [xP,Sd,SC,List.contains_eq_mem,TU] at h
  exact List.nodup_cons.2 ⟨h.1,sh h.2⟩
def um (tmps:Array Value):ResultVar->Sem Value
 | .tmp t=>pure (tmps.getD t undef)
 | .cell a t=>do loadVar t (<-asAddr (tmps.getD a undef))
theorem iD {N:Nat} {base:Nat} {σ:List AV} {a:Act} (h:SRel E N vs base w OK g σ A a) :
  ∀(rs:List ResultVar) (ms:List LT) (l:List AV),kP P vs rs=some ms->iP A σ ms=some l ->
   ∃us:List Value,bS w OK g us l/\(rs.mapM (um a.tmps)).run P w=.ok us w
 | [],ms,l,hc,he=>by
  injection hc with hc; subst hc
  injection he with he; subst he
  exact ⟨[],trivial,rfl⟩
 | .tmp t :: r,ms,l,hc,he=>by
  simp only [kP] at hc
  split at hc
  ·rename_i i l' hi hl'
   injection hc with hc; subst hc
   simp only [iP,RJ] at he
   obtain ⟨l2,h2,rfl⟩:=he
   obtain ⟨us,k1,k2⟩:=iD h r l' l2 hl' h2
   obtain ⟨hlt,het⟩:=SR.1 hi |> fun h=>(⟨h.1,h.2.1⟩:∃h:i<vs.length,vs[i]=t)
   refine ⟨a.tmps.getD t undef :: us,⟨by rw [<-het]; exact h.vars i hlt,k1⟩,?_⟩
   simp [List.mapM_cons,um,k2]
  ·cases hc
 | .cell x t :: r,ms,l,hc,he=>by
  simp only [kP] at hc
  split at hc
  ·rename_i i ti b l' hi hti hb hl'
   injection hc with hc; subst hc
   simp only [iP] at he
   split at he
   ·rename_i y l2 h1 h2
    injection he with he; subst he
    obtain ⟨us,k1,k2⟩:=iD h r l' l2 hl' h2
    obtain ⟨hlt,het⟩:=SR.1 hi |> fun h=>(⟨h.1,h.2.1⟩:∃h:i<vs.length,vs[i]=x)
    have hv:=h.vars i hlt
    rw [het] at hv
    obtain ⟨u,e1,e2⟩:=od hti hb h.arena hv h1
    refine ⟨u :: us,⟨e2,k1⟩,?_⟩
    have e1':(um a.tmps (.cell x t)).run P w=.ok u w:=by
     have hp:∃ad,a.tmps.getD x undef=.pointer (some ad):=by
      generalize σ.getD i .undef=y1 at h1 hv
      cases y1 <;> first | (simp [ab] at h1; done) | (obtain ⟨inc,_,e,_⟩:=hv.inv_ptr; exact ⟨_,e⟩) | (obtain ⟨b,o,T,c,fz,vals,e,_⟩:=hv.inv_fp; exact ⟨_,e⟩)
     obtain ⟨ad,hp⟩:=hp
     rw [hp] at e1
     simp only [um,hp]
     exact e1
    simp [List.mapM_cons,e1',k2]
   ·cases he
  ·cases hc
theorem cq.putFree (h:cq w OK g A) {D:Nat} (h1:¬ OK D) (h2:∀id inc,inc∈g id->inc.b≠D) (o:Obj):cq (w.putObj D o) OK g A where
 ent id hi:=(h.ent id hi).mono (fun _ h=>h) (fun b hb=>World.putObj_heap_other (fun e=>h1 (e ▸ hb))) g.le_refl (fun inc hin=>World.putObj_heap_other (h2 id inc hin))
 out:=h.out
 one:=h.one
 apart:=h.apart
 low id inc hi:=by simpa using h.low id inc hi
 ok b hb:=by simpa using h.ok b hb
theorem oK.put {base:Nat} {D:Nat} (o:Obj):∀ {l:List Deferred},(∀d'∈l,d'≠⟨.collected D,#[]⟩)->oK base w OK g l->oK base (w.putObj D o) OK g l
 | [],_,_=>trivial
 | d :: r,hd,⟨⟨D',h1,h2,h3,h4,h5,h6⟩,hr⟩=>
  ⟨⟨D',h1,h2,(World.putObj_heap_other (fun e=>hd d (by simp) (by rw [h1,e]))).trans h3,h4,h5,h6⟩,oK.put o (fun d' h=>hd d' (by simp [h])) hr⟩
theorem nZ {N:Nat} {fn:Func} {mrs:List LT} {w0:World} {OK0:Nat->Prop} {g0:aC} {σ:List AV} {l:List AV} {tm:Array Value} {R:Ending->World->Prop}
  (hcr:kP P vs fn.results.toList=some mrs) (hl:iP A σ mrs=some l)
  (hR:∀v w OK g,aW w OK g v (dE l)->cq w OK g A->Ext w0 OK0 g0 w OK g->R (.returned v) w) :
  ∀(ds:List Deferred) (w:World) (OK:Nat->Prop) (g:aC),SRel E N vs w0.heap.size w OK g σ A {tmps:=tm,defers:=ds}->Ext w0 OK0 g0 w OK g->LeavesInM Fence.wide 0 P fn tm R ds .returning w
 | [],w,OK,g,hs,hx=>by
  obtain ⟨us1,k1,k2⟩:=iD hs fn.results.toList mrs l hcr hl
  refine ⟨if h:us1.toArray.size=1 then us1.toArray[0] else .tuple us1.toArray,?_,hR _ w OK g ?_ hs.arena hx⟩
  ·show (do
    let vs <-fn.results.mapM (um tm)
    pure (if h:vs.size=1 then vs[0] else .tuple vs):Sem Value).run P w=_
   rw [Array.mapM_eq_mapM_toList]
   simp [k2]
  ·have hlen:=k1.length
   match us1,l,k1 with
   | [],[],k1=>exact .tup _ _ [] rfl (fun _=>undef) (fun i hi=>by simp at hi) (fun i hi=>by simp at hi)
   | [u],[a1],k1=>exact k1.1
   | u1 :: u2 :: ur,a1 :: a2 :: ar,k1=>
    have:¬ (u1 :: u2 :: ur).toArray.size=1:=by simp
    rw [dif_neg this]
    refine .tup _ _ _ (by simpa using hlen) (fun i=>(u1 :: u2 :: ur).getD i undef) (fun i hi=>?_) (fun i hi=>?_)
    ·have:i<(u1 :: u2 :: ur).length:=by simp at hlen hi ⊢; omega
     rw [S9,Rx this]
     simp [Rx this]
    ·have:i<(u1 :: u2 :: ur).length:=by simp at hlen hi ⊢; omega
     have:=k1.get i this hi
     simpa [Rw,Rx ‹i<(u1 :: u2 :: ur).length›] using this
 | d :: ds,w,OK,g,hs,hx=>by
  obtain ⟨⟨D,rfl,h2,h3,h4,h5,h6⟩,hr⟩:=hs.defers
  refine ⟨by simp,.inl ⟨D,w.putObj D (.deferred none),rfl,run_takeDeferred h3,?_⟩⟩
  have hok:∀b,OK b->(w.putObj D (.deferred none)).heap[b]?=w.heap[b]?:=fun b hb=>World.putObj_heap_other (fun e=>h4 (e ▸ hb))
  have hm:∀ {v:Value} {a:AV},aW w OK g v a->aW (w.putObj D (.deferred none)) OK g v a:=fun h=>h.mono (fun _ h=>h) hok g g.le_refl
  refine nZ hcr hl hR ds _ OK g ⟨hs.size,hr.put _ h6,by simpa using hs.low,hs.len,fun i hi=>hm (hs.vars i hi),hs.arena.putFree h4 h5 _,
   ⟨fun gl cs hg=>(hs.glob.1 gl cs hg).mono (fun _ h=>h) hok _ (aC.le_refl _),fun y hy=>⟨(hs.glob.2 y hy).1,(hs.glob.2 y hy).2.mono fun _ _ hv=>hm hv⟩⟩⟩ ?_
  exact {
      os:=hx.os,tape:=hx.tape,output:=hx.output,size:=by simpa using hx.size,blk:=fun b hb hu=>(World.putObj_heap_other (by omega)).trans (hx.blk b hb hu),gle:=hx.gle,okle:=hx.okle,fresh:=hx.fresh,okf:=hx.okf,
      loops:=fun b r hb hbusy=>(World.putObj_heap_other (by have:=(Sp.1 hb).1; omega)).trans (hx.loops b r hb hbusy),fix:=hx.fix}
theorem kL (hE:dj P E) {fn:Func} {n:Nat} {mf:cI} (hf:P.funcs[f]?=some fn) (hc:aH P fn n vs pu on hints=some mf) (hpu:bG E pu) :
  Enters P f/\∀args A r A',cc E fuel mf args A=some (r,A')->∀(w:World) (OK:Nat->Prop) (g:aC) (us:List Value),cq w OK g A->zI E.glob E.ys w OK g->bS w OK g us args ->
  Calls P f us.toArray w fun e w'=>∃v OK' g',e=.returned v/\aW w' OK' g' v r/\cq w' OK' g' A'/\Ext w OK g w' OK' g':=by
 unfold aH at hc
 split at hc
 ·rename_i c hb
  split at hc
  ·rename_i rs hcr
   split at hc
   ·rename_i hck
    injection hc with hc; subst hc
    simp only [Sd,SC,RZ,Sr,Tg] at hck
    obtain ⟨⟨⟨⟨h1,h2⟩,h3⟩,h4⟩,h5⟩:=hck
    have h4:n<=fn.ntmps:=Nat.le_of_ble_eq_true h4
    refine ⟨enters_of hf h5 hb,?_⟩
    intro args A r A' he w OK g us hA hG hl
    unfold cc at he
    split at he
    ·rename_i hlen
     simp only at hlen
     have hul:=hl.length
     have hvn:=sh h1
     have hnv:n<=vs.length:=by
      have:=Uk List.length h3
      simp at this; omega
     have hvi:∀i (hi:i<n),vs[i]'(by omega)=i:=fun i hi=>by
      have:=Uk (fun l=>l[i]?) h3
      simp [hi] at this
      have h':i<vs.length:=by omega
      simpa [h'] using this
     have hs0:SRel E fn.ntmps vs w.heap.size w OK g (args++List.replicate (vs.length-n) .undef) A {tmps:=us.toArray++Array.replicate (fn.ntmps-us.toArray.size) undef,defers:=[]}:=by
      refine ⟨by simp; omega,trivial,RR _,by simp; omega,fun i hi=>?_,hA,hG⟩
      rcases Ti i n with hlt | hge
      ·have e1:=hvi i hlt
       rw [e1]
       have:i<us.length:=by omega
       have e2:(us.toArray++Array.replicate (fn.ntmps-us.toArray.size) undef).getD i undef=us[i]:=by
        simp [Array.getElem?_append,this]
       have e3:(args++List.replicate (vs.length-n) AV.undef).getD i .undef=args[i]'(by omega):=by
        simp [S0,show i<args.length by omega]
       rw [e2,e3]
       exact hl.get i this (by omega)
      ·have e3:(args++List.replicate (vs.length-n) AV.undef).getD i .undef=.undef:=by
        simp [S0,show ¬ i<args.length by omega,SW]
        split <;> rfl
       rw [e3]; exact .undef _ _
     have fin:∀(out:Out) (σ:List AV),evC E fuel (dY P fn.ntmps vs pu on false c hints).1 (args++List.replicate (vs.length-n) .undef) A=some out->(out=.normal σ A'\/out=.ret σ A')->(∃l,iP A' σ rs=some l/\dE l=r) ->
       Calls P f us.toArray w fun e w'=>∃v OK' g',e=.returned v/\aW w' OK' g' v r/\cq w' OK' g' A'/\Ext w OK g w' OK' g':=by
      intro out σ hev hout ⟨l,hl1,hl2⟩
      have hw:=BA hE hvn h2 hpu fuel c false none w.heap.size 0 (fun _=>rfl) hints _ A out _ w OK g hs0 hev
      refine callsIn_wide (n:=0).1 (callsIn_of_wp_marks (F:=Fence.wide) hf hb trivial (wpIn_mono hw ?_))
      intro e a w1 hq
      have key:∀OK1 g1,SRel E fn.ntmps vs w.heap.size w1 OK1 g1 σ A' a->Ext w OK g w1 OK1 g1 ->
        LeavesInM Fence.wide 0 P fn a.tmps (fun e w'=>∃v OK' g',e=.returned v/\aW w' OK' g' v r/\cq w' OK' g' A'/\Ext w OK g w' OK' g') a.defers .returning w1:=by
       intro OK1 g1 hs1 hx1
       exact nZ hcr hl1 (fun v w' OK' g' k1 k2 k3=>⟨v,OK',g',rfl,hl2 ▸ k1,k2,k3⟩) a.defers w1 OK1 g1 hs1 hx1
      rcases hout with rfl | rfl
      ·cases e <;> simp only [dZ] at hq
       obtain ⟨OK1,g1,q1,q2⟩:=hq
       exact key OK1 g1 q1 q2
      ·cases e <;> simp only [dZ] at hq
       obtain ⟨OK1,g1,q1,q2⟩:=hq
       exact key OK1 g1 q1 q2
     simp only at he
     split at he
     ·rename_i σ A1 hev
      simp only [RJ,RQ] at he
      obtain ⟨l,e1,e2,rfl⟩:=he
      exact fin _ σ hev (.inl rfl) ⟨l,e1,e2⟩
     ·rename_i σ A1 hev
      simp only [RJ,RQ] at he
      obtain ⟨l,e1,e2,rfl⟩:=he
      exact fin _ σ hev (.inr rfl) ⟨l,e1,e2⟩
     ·cases he
    ·cases he
   ·cases hc
  ·cases hc
 ·cases hc
theorem Bz (ys':List Yld) (σ T:List AV) (x:MX):evX {E with ys:=ys'} σ T x=evX E σ T x:=by cases x <;> rfl
theorem yj (ys':List Yld):∀(l:List MO) (σ T:List AV) (A:ac),eB {E with ys:=ys'} l σ T A=eB E l σ T A
 | [],σ,T,A=>rfl
 | o :: l,σ,T,A=>by
  have hx:evX {E with ys:=ys'} σ T=evX E σ T:=funext fun x=>Bz ys' σ T x
  have hs:∀(ρ:MX->AV) (m:MOp),a0 {E with ys:=ys'} ρ A m=a0 E ρ A m:=fun ρ m=>by cases m <;> rfl
  simp only [eB,hx,hs,yj ys' l]
theorem uX (ys':List Yld) (pu:List FuncId):∀(l:List MO) (σ T:List AV) (A:ac) (fs:List fJ),dO {E with ys:=ys'} pu l σ T A fs=dO E pu l σ T A fs
 | [],σ,T,A,fs=>rfl
 | o :: l,σ,T,A,fs=>by
  have hx:evX {E with ys:=ys'} σ T=evX E σ T:=funext fun x=>Bz ys' σ T x
  have hs:∀(ρ:MX->AV) (m:MOp),a0 {E with ys:=ys'} ρ A m=a0 E ρ A m:=fun ρ m=>by cases m <;> rfl
  have hf:∀(ρ:MX->AV) (m:MOp),bZ {E with ys:=ys'} pu ρ A m=bZ E pu ρ A m:=fun ρ m=>by cases m <;> rfl
  simp only [dO,hx,hs,hf,uX ys' pu l]
theorem KL (ys':List Yld) (fuel:Nat):∀c:MC,evC {E with ys:=ys'} fuel c=evC E fuel c:=by
 intro c
 have hx:∀ σ T,evX {E with ys:=ys'} σ T=evX E σ T:=fun σ T=>funext fun x=>Bz ys' σ T x
 induction c with
 | region ops=>funext σ A; simp only [evC,yj]
 | regionD pu ops pairs=>funext σ A; simp only [evC,uX]
 | seq a b iha ihb=>funext σ A; simp only [evC,iha,ihb]
 | cond c a b iha ihb=>funext σ A; simp only [evC,iha,ihb,hx]
 | block id a iha=>funext σ A; simp only [evC,iha]
 | loop mask a iha=>funext σ A; simp only [evC,iha]
 | rangeFunc f ps a b iha ihb=>funext σ A; simp only [evC,iha,ihb,hx]
 | scope a iha=>funext σ A; simp only [evC,iha]
 | _=>rfl
theorem Ej (ys':List Yld) (fuel:Nat) (mf:cI) (args:List AV) (A:ac):cc {E with ys:=ys'} fuel mf args A=cc E fuel mf args A:=by
 unfold cc; simp only [KL]
end
abbrev vM:=List AV->ac->Option (AV × ac)
abbrev aU:=List AV->Option AV
abbrev aJ:=be->vM
def aE:List (FuncId × aJ)->FuncId->Option aJ
 | [],_=>none
 | (g,M) :: r,f=>if f=g then some M else aE r f
def kQ (fs:List (FuncId × aJ)) (h:be):be:=fun fv args A=>
 match fv with
 | .func (.func f) first cap=>match aE fs f with
  | some M=>M h (first++args++cap) A
  | none=>none
 | _=>none
def dX (G:Nat->Option (List AV)) (fs:List (FuncId × aJ)) (h:be):Env:=⟨kQ fs,G,[],h⟩
def aw (G:Nat->Option (List AV)) (fs:List (FuncId × aJ)):Env:=dX G fs fun _ _ _=>none
def ax (P:Program) (G:Nat->Option (List AV)) (f:FuncId) (M:aU):Prop:=
 Enters P f/\∀args r,M args=some r->∀(w:World) (OK:Nat->Prop) (vs:List Value),(∀b,OK b->b<w.heap.size)->Gm G w OK->bS w OK aC.none vs args ->
  Calls P f vs.toArray w fun e w'=>∃v OK',e=.returned v/\aW w' OK' aC.none v r/\(∀b,OK' b->b<w'.heap.size)/\Ext w OK aC.none w' OK' aC.none
def bH:Nat->AV->Bool
 | _,.bool _=>true
 | _,.int ..=>true
 | _,.str _=>true
 | _,.nilS=>true
 | _,.nilP=>true
 | _,.nilM=>true
 | _,.nilF=>true
 | _,.nilI=>true
 | _,.undef=>true
 | n+1,.agg cs=>cs.all (bH n)
 | n+1,.tup cs=>cs.all (bH n)
 | n+1,.iface _ v=>bH n v
 | _,_=>false
def Au (n:Nat) (M:aU):vM:=fun args A=>
 match M (args.map (frz A n)) with
 | some r=>if bH n r || args.all (bu n) then some (r,A) else none
 | none=>none
def aG (n:Nat) (M:aU):aJ:=fun _=>Au n M
section
variable {P:Program} {G:Nat->Option (List AV)}
theorem g8 {w':World} {g':aC}:∀(n:Nat) (a:AV) (v:Value),bH n a=true->aW w OK g v a->aW w' OK' g' v a:=by
 intro n
 induction n with
 | zero=>
  intro a v hs h
  cases a <;> simp only [bH,Sc] at hs <;> first
   | exact .undef _ _
   | (have e:=h.inv_bool; rw [e]; exact .bool _ _)
   | (have e:=h.inv_int; rw [e]; exact .int _ _ _)
   | (obtain ⟨s,e,hs⟩:=h.inv_str; rw [e]; exact .str _ _ _ hs)
   | (obtain ⟨p,e⟩:=h.inv_nilS; rw [e]; exact .nilS _ _)
   | (have e:=h.inv_nilP; rw [e]; exact .nilP _)
   | (have e:=h.inv_nilM; rw [e]; exact .nilM _)
   | (cases h; exact .nilF _)
   | (cases h; exact .nilI _)
 | succ n ih=>
  intro a v hs h
  cases a <;> simp only [bH,Sc] at hs <;> try first
   | exact .undef _ _
   | (have e:=h.inv_bool; rw [e]; exact .bool _ _)
   | (have e:=h.inv_int; rw [e]; exact .int _ _ _)
   | (obtain ⟨s,e,hs⟩:=h.inv_str; rw [e]; exact .str _ _ _ hs)
   | (obtain ⟨p,e⟩:=h.inv_nilS; rw [e]; exact .nilS _ _)
   | (have e:=h.inv_nilP; rw [e]; exact .nilP _)
   | (have e:=h.inv_nilM; rw [e]; exact .nilM _)
   | (cases h; exact .nilF _)
   | (cases h; exact .nilI _)
  case agg cs=>
   simp only [RZ] at hs
   obtain ⟨vs,vals,rfl,hl,hg,hv⟩:=h.inv_agg
   exact .agg _ vs _ hl vals hg (fun i hi=>ih _ _ (hs _ (RM hi)) (hv i hi))
  case tup cs=>
   simp only [RZ] at hs
   obtain ⟨vs,vals,rfl,hl,hg,hv⟩:=h.inv_tup
   exact .tup _ vs _ hl vals hg (fun i hi=>ih _ _ (hs _ (RM hi)) (hv i hi))
  case iface t x=>
   cases h with
   | iface _ t v a hv=>exact .iface _ t v _ (ih _ _ hs hv)
theorem p9:∀(n:Nat) (a:AV) (v:Value),bu n a=true->aW w OK g v a->aW w OK aC.none v (frz A n a):=by
 intro n
 induction n with
 | zero=>
  intro a v hs h
  cases a <;> simp only [bu,Sc] at hs <;> simp only [frz] <;> first
   | exact .undef _ _
   | (have e:=h.inv_bool; rw [e]; exact .bool _ _)
   | (have e:=h.inv_int; rw [e]; exact .int _ _ _)
   | (obtain ⟨s,e,hs⟩:=h.inv_str; rw [e]; exact .str _ _ _ hs)
   | (obtain ⟨p,e⟩:=h.inv_nilS; rw [e]; exact .nilS _ _)
   | (have e:=h.inv_nilP; rw [e]; exact .nilP _)
   | (have e:=h.inv_nilM; rw [e]; exact .nilM _)
   | (cases h; exact .nilF _)
   | (cases h; exact .nilI _)
   | (obtain ⟨b,o,cap,T,c,fz,vals,e,hb,hh,hcap,hv,hs,hc⟩:=h.inv_fs; rw [e]; exact .fs _ b o cap _ T c fz _ vals hb hh hcap hv hs hc)
   | (obtain ⟨b,o,T,c,fz,vals,e,hb,hh,hne,hv,hc⟩:=h.inv_fp; rw [e]; exact .fp _ b o T c fz _ vals hb hh hne hv hc)
 | succ n ih=>
  intro a v hs h
  cases a <;> simp only [bu,Sc] at hs <;> simp only [frz] <;> try first
   | exact .undef _ _
   | (have e:=h.inv_bool; rw [e]; exact .bool _ _)
   | (have e:=h.inv_int; rw [e]; exact .int _ _ _)
   | (obtain ⟨s,e,hs⟩:=h.inv_str; rw [e]; exact .str _ _ _ hs)
   | (obtain ⟨p,e⟩:=h.inv_nilS; rw [e]; exact .nilS _ _)
   | (have e:=h.inv_nilP; rw [e]; exact .nilP _)
   | (have e:=h.inv_nilM; rw [e]; exact .nilM _)
   | (cases h; exact .nilF _)
   | (cases h; exact .nilI _)
   | (obtain ⟨b,o,cap,T,c,fz,vals,e,hb,hh,hcap,hv,hs,hc⟩:=h.inv_fs; rw [e]; exact .fs _ b o cap _ T c fz _ vals hb hh hcap hv hs hc)
   | (obtain ⟨b,o,T,c,fz,vals,e,hb,hh,hne,hv,hc⟩:=h.inv_fp; rw [e]; exact .fp _ b o T c fz _ vals hb hh hne hv hc)
  case agg cs=>
   simp only [RZ] at hs
   obtain ⟨vs,vals,rfl,hl,hg,hv⟩:=h.inv_agg
   exact .agg _ vs _ (by simpa using hl) vals (fun i hi=>hg i (by simpa using hi)) (fun i hi=>by simp only [SA]; exact ih _ _ (hs _ (RM _)) (hv i (by simpa using hi)))
  case tup cs=>
   simp only [RZ] at hs
   obtain ⟨vs,vals,rfl,hl,hg,hv⟩:=h.inv_tup
   exact .tup _ vs _ (by simpa using hl) vals (fun i hi=>hg i (by simpa using hi)) (fun i hi=>by simp only [SA]; exact ih _ _ (hs _ (RM _)) (hv i (by simpa using hi)))
  case func fn c1 c2=>
   simp only [Sd,RZ] at hs
   obtain ⟨vs1,vs2,vals1,vals2,rfl,hl1,hl2,hg1,hg2,hv1,hv2⟩:=h.inv_func
   exact .func _ fn vs1 vs2 _ _ (by simpa using hl1) (by simpa using hl2) vals1 vals2 (fun i hi=>hg1 i (by simpa using hi)) (fun i hi=>hg2 i (by simpa using hi))
    (fun i hi=>by simp only [SA]; exact ih _ _ (hs.1 _ (RM _)) (hv1 i (by simpa using hi))) (fun i hi=>by simp only [SA]; exact ih _ _ (hs.2 _ (RM _)) (hv2 i (by simpa using hi)))
  case iface t x=>
   cases h with
   | iface _ t v a hv=>exact .iface _ t v _ (ih _ _ hs hv)
theorem bS.map {g':aC} {vs:List Value} {l:List AV} {F:AV->AV} (h:bS w OK g vs l) (hm:∀v a,a∈l->aW w OK g v a->aW w OK' g' v (F a)):bS w OK' g' vs (l.map F):=by
 induction vs generalizing l with
 | nil=>cases l with
  | nil=>exact trivial
  | cons a r=>exact h.elim
 | cons v vs ih=>cases l with
  | nil=>exact h.elim
  | cons a r=>exact ⟨hm v a (by simp) h.1,ih h.2 fun v a ha=>hm v a (by simp [ha])⟩
theorem eJ.of_pure {M:aU} (h:ax P G f M) (n:Nat):eJ P G f (Au n M):=by
 refine ⟨h.1,?_⟩
 intro args A r A' he w OK g vs hA hG hl
 unfold Au at he
 split at he
 ·rename_i r0 hM
  split at he
  ·rename_i hc
   injection he with he
   injection he with e1 e2
   subst e1; subst e2
   by_cases hn:args.all (bu n)=true
   ·have hn':=RZ.1 hn
    refine (h.2 _ _ hM w OK vs hA.ok hG (hl.map fun v a ha hv=>p9 n a v (hn' a ha) hv)).mono ?_
    rintro e w' ⟨v,OK',rfl,hv,hok',hx⟩
    have hb:∀b,b<w.heap.size->w'.heap[b]?=w.heap[b]?:=fun b hb=>hx.blk b hb (fun _ _ (hi:_∈[])=>by cases hi)
    exact ⟨v,OK',g,rfl,hv.none_to,hA.keep hx.size hb OK' hx.okle hx.okf hok',hx.os,hx.tape,hx.output,hx.size,fun b hb' _=>hb b hb',g.le_refl,hx.okle,fun id inc hi=>.inl ⟨id,inc,hi,rfl⟩,hx.okf,hx.loops,fun _ _ _ _=>rfl⟩
   ·have hsc:bH n r0=true:=by simpa [hn] using hc
    have hok2:∀b,(OK b\/∃id inc,inc∈g id/\inc.b=b)->b<w.heap.size:=fun b hb=>by
     rcases hb with hb | ⟨id,inc,hi,rfl⟩
     ·exact hA.ok b hb
     ·exact hA.low id inc hi
    have hl2:bS w (fun b=>OK b\/∃id inc,inc∈g id/\inc.b=b) aC.none vs (args.map (frz A n)):=hl.map fun v a _ hv=>jh hA (fun b hb=>Or.inl hb) (fun id inc _ hi=>Or.inr ⟨id,inc,hi,rfl⟩) n a v hv
    refine (h.2 _ _ hM w (fun b=>OK b\/∃id inc,inc∈g id/\inc.b=b) vs hok2 (fun gl cs hg=>(hG gl cs hg).mono (fun b hb=>.inl hb) (fun _ _=>rfl) _ (aC.le_refl _)) hl2).mono ?_
    rintro e w' ⟨v,OK',rfl,hv,hok',hx⟩
    have hb:∀b,b<w.heap.size->w'.heap[b]?=w.heap[b]?:=fun b hb=>hx.blk b hb (fun _ _ (hi:_∈[])=>by cases hi)
    exact ⟨v,OK,g,rfl,g8 n _ _ hsc hv,hA.keep hx.size hb OK (fun _ h=>h) (fun _ h=>.inl h) (fun b hb=>S3 (hA.ok b hb) hx.size),hx.os,hx.tape,hx.output,hx.size,fun b hb' _=>hb b hb',g.le_refl,fun _ h=>h,fun id inc hi=>.inl ⟨id,inc,hi,rfl⟩,fun _ h=>.inl h,hx.loops,fun _ _ _ _=>rfl⟩
  ·cases he
 ·cases he
theorem cq.nil (h:∀b,OK b->b<w.heap.size):cq w OK aC.none []:=
 ⟨fun id hi=>by simp at hi,fun _ _=>rfl,fun _ _ _ _ _ _ (hi:_∈[])=>(by cases hi),fun _ _ (hi:_∈[])=>(by cases hi),fun _ _ (hi:_∈[])=>(by cases hi),h⟩
theorem ax.of_fn {M':vM} {M:aU} (h:eJ P G f M') (n:Nat) (hM:∀args r,M args=some r->∃r0 A',M' args []=some (r0,A')/\frz A' n r0=r):ax P G f M:=by
 refine ⟨h.1,?_⟩
 intro args r he w OK vs hok hG hl
 obtain ⟨r0,A',h1,rfl⟩:=hM args r he
 refine (h.2 _ _ _ _ h1 w OK aC.none vs (cq.nil hok) hG hl).mono ?_
 rintro e w' ⟨v,OK',g',rfl,hv,hA,hx⟩
 refine ⟨v,fun b=>OK' b\/∃id inc,inc∈g' id/\inc.b=b,rfl,jh hA (fun b hb=>.inl hb) (fun id inc _ hi=>.inr ⟨id,inc,hi,rfl⟩) n r0 v hv,?_,?_⟩
 ·rintro b (hb | ⟨id,inc,hi,rfl⟩)
  ·exact hA.ok b hb
  ·exact hA.low id inc hi
 ·refine ⟨hx.os,hx.tape,hx.output,hx.size,hx.blk,aC.le_refl _,fun b hb=>.inl (hx.okle b hb),fun _ _ (hi:_∈[])=>(by cases hi),?_,hx.loops,fun _ _ _ _=>rfl⟩
  rintro b (hb | ⟨id,inc,hi,rfl⟩)
  ·exact hx.okf b hb
  ·rcases hx.fresh id inc hi with ⟨_,_,h0,_⟩ | h1
   ·cases h0
   ·exact .inr h1
theorem uw {B:ac}:∀(n:Nat) (a:AV),bu n a=true->frz B n a=frz A n a:=by
 intro n
 induction n with
 | zero=>intro a h; cases a <;> simp [bu] at h <;> rfl
 | succ n ih=>
  intro a h
  cases a <;> simp only [bu,Sd,RZ,Sc] at h <;> simp only [frz]
  ·congr 1; exact Sb fun x hx=>ih x (h x hx)
  ·congr 1; exact Sb fun x hx=>ih x (h x hx)
  ·congr 1
   ·exact Sb fun x hx=>ih x (h.1 x hx)
   ·exact Sb fun x hx=>ih x (h.2 x hx)
  ·rw [ih _ h]
theorem bG.cons {fs:List (FuncId × aJ)} {h0:be} {M:aU} (h:aE fs f=some (aG 4 M)) (hr:bG (dX G fs h0) pu):bG (dX G fs h0) (f :: pu):=by
 intro k hk hh args A r A' he
 rcases Su.1 hk with rfl | hk
 ·simp only [dX,kQ,h,aG,Au,S7,Sk] at he ⊢
  split at he
  ·rename_i r' hM
   simp only [Ry,Rz,RQ] at he
   obtain ⟨hc,rfl,rfl⟩:=he
   refine ⟨rfl,fun hn B=>?_⟩
   have hm:args.map (frz B 4)=args.map (frz A 4):=Sb fun x hx=>uw 4 x (RZ.1 hn x hx)
   rw [hm,hM]
   simp only [hc,SX]
  ·cases he
 ·exact hr k hk hh args A r A' he
theorem sJ {fs:List (FuncId × aJ)} (hfs:∀f M,aE fs f=some M->au P G f M) {ys:List Yld} {h0:be} (h0s:iL P G ys h0):dj P {dX G fs h0 with ys:=ys}:=by
 refine ⟨h0s,?_⟩
 intro ys' hd hsub hds fv args A r A' he w OK g v vs hA hG hv hl
 simp only [dX,kQ] at he
 split at he
 ·rename_i f first cap
  split at he
  ·rename_i M hM
   obtain ⟨vs1,vs2,vals1,vals2,rfl,hl1,hl2,hg1,hg2,hv1,hv2⟩:=hv.inv_func
   obtain ⟨hen,hcall⟩:=hfs f M hM
   have hlist:bS w OK g (vs1.toList++vs++vs2.toList) (first++args++cap):=by
    have hll:=hl.length
    refine bS.of_get (by simp [hl1,hl2,hll]) (fun i h1 h2=>?_)
    simp only [List.getElem_append]
    simp only [RU,Sf,hl1,hll]
    have k1:∀i (h:i<vs1.toList.length) (h':i<first.length),aW w OK g vs1.toList[i] first[i]:=fun i h h'=>by
     have:=hg1 i h'
     rw [R9 (by rw [hl1]; exact h')] at this
     injection this with this
     simp only [TL,this]; exact hv1 i h'
    have k2:∀i (h:i<vs2.toList.length) (h':i<cap.length),aW w OK g vs2.toList[i] cap[i]:=fun i h h'=>by
     have:=hg2 i h'
     rw [R9 (by rw [hl2]; exact h')] at this
     injection this with this
     simp only [TL,this]; exact hv2 i h'
    split
    ·split
     ·exact k1 _ _ _
     ·exact hl.get _ _ _
    ·exact k2 _ _ _
   have:=hcall ys' hd hds _ _ _ _ he w OK g _ hA hG hlist
   refine ⟨⟨.fn (.func f) vs2,vs1++vs.toArray⟩,f,(vs1.toList++vs++vs2.toList).toArray,rfl,?_,this⟩
   have e:(vs1.toList++vs++vs2.toList).toArray=vs1++vs.toArray++vs2:=by simp
   rw [e]
   exact hen _ w
  ·cases he
 ·cases he
theorem ay {fs:List (FuncId × aJ)} (hfs:∀f M,aE fs f=some M->au P G f M):dj P (aw G fs):=
 sJ hfs (h0:=fun _ _ _=>none) (ys:=[]) (fun _ _ _ _ _ h=>by cases h)
theorem b7 (hE:dj P E) (hys:E.ys=[]) {fn:Func} {mf:cI} {fuel:Nat} (hf:P.funcs[f]?=some fn) (hc:aH P fn n vs pu on hints=some mf) (hpu:bG E pu) :
  eJ P E.glob f (cc E fuel mf):=by
 obtain ⟨h1,h2⟩:=kL (fuel:=fuel) hE hf hc hpu
 exact ⟨h1,fun args A r A' he w OK g us hA hG hl=>h2 args A r A' he w OK g us hA ⟨hG,fun y hy=>by rw [hys] at hy; cases hy⟩ hl⟩
theorem cC {fs:List (FuncId × aJ)} (hfs:∀f M,aE fs f=some M->au P G f M) {fn:Func} {mf:cI} {fuel:Nat} (hf:P.funcs[f]?=some fn) (hc:aH P fn n vs pu on hints=some mf) (hpu:bG (aw G fs) pu:=by first | exact bG.nil | (repeat (first | exact bG.nil | refine bG.cons (M:=_) rfl ?_))) :
  au P G f (fun h=>cc (dX G fs h) fuel mf):=by
 refine ⟨(kL (fuel:=fuel) (ay hfs) hf hc hpu).1,fun ys h hh args A r A' he=>?_⟩
 have:=(kL (fuel:=fuel) (sJ hfs hh) hf hc hpu).2 args A r A' (by rw [Ej]; exact he)
 exact this
theorem au.of_pure {M:aU} (h:ax P G f M) (n:Nat):au P G f (aG n M):=(eJ.of_pure h n).y
theorem aB {Q:FuncId->aJ->Prop}:∀f M,aE [] f=some M->Q f M:=fun _ _ h=>by cases h
theorem ai {Q:FuncId->aJ->Prop} {g:FuncId} {N:aJ} {r:List (FuncId × aJ)} (h1:Q g N) (h2:∀f M,aE r f=some M->Q f M):∀f M,aE ((g,N) :: r) f=some M->Q f M:=fun f M h=>by
 simp only [aE] at h
 split at h
 ·rename_i e; injection h with h; subst h; subst e; exact h1
 ·exact h2 f M h
end
inductive KC where
 | code (c:MC)
 | ops (l:List MO) (T:List AV)
 | opsF (pu:List FuncId) (l:List MO) (T:List AV) (fs:List fJ) (pairs:List (Nat × Nat))
 | blk (id:Nat)
def evK (E:Env) (fuel:Nat):List KC->Option Out->Option Out
 | [],o=>o
 | .code c :: k,some (.normal σ A)=>evK E fuel k (evC E fuel c σ A)
 | .ops l T :: k,some (.normal σ A)=>evK E fuel k ((eB E l σ T A).map fun x=>.normal x.1 x.2)
 | .opsF pu l T fs pairs :: k,some (.normal σ A)=>evK E fuel k (match dO E pu l σ T A fs with
  | some (σ',A',fs')=>if pairs.all (fun p=>(fs'.getD p.1 .no).apart (fs'.getD p.2 .no)) then some (.normal σ' A') else none
  | none=>none)
 | .blk id :: k,some (.exit id' σ A)=>evK E fuel k (if id'=id then some (.normal σ A) else some (.exit id' σ A))
 | _ :: k,o=>evK E fuel k o
def run (E:Env) (fuel:Nat) (k:List KC) (σ:List AV) (A:ac):Option Out:=evK E fuel k (some (.normal σ A))
def mz (E:Env) (fuel:Nat) (id:Nat) (k:List KC) (σ:List AV) (A:ac):Option Out:=evK E fuel k (some (.exit id σ A))
def after (E:Env) (fuel:Nat) (k:List KC) (o:Out):Option Out:=evK E fuel k (some o)
section
variable {E:Env} {fuel:Nat} {σ:List AV} {A:ac} {k:List KC}
theorem eE:∀k,evK E fuel k none=none
 | []=>rfl
 | .code _ :: k=>by simp [evK,eE k]
 | .ops _ _ :: k=>by simp [evK,eE k]
 | .opsF .. :: k=>by simp [evK,eE k]
 | .blk _ :: k=>by simp [evK,eE k]
theorem kK:∀k,evK E fuel k (some (.ret σ A))=some (.ret σ A)
 | []=>rfl
 | .code _ :: k=>by simp [evK,kK k]
 | .ops _ _ :: k=>by simp [evK,kK k]
 | .opsF .. :: k=>by simp [evK,kK k]
 | .blk _ :: k=>by simp [evK,kK k]
theorem qF (c:MC):evC E fuel c σ A=run E fuel [.code c] σ A:=rfl
theorem Hk:run E fuel [] σ A=some (.normal σ A):=rfl
theorem Dz:run E fuel (.code .skip :: k) σ A=run E fuel k σ A:=rfl
theorem Hh (a b:MC):run E fuel (.code (.seq a b) :: k) σ A=run E fuel (.code a :: .code b :: k) σ A:=by
 simp only [run,evK,evC]
 cases evC E fuel a σ A with
 | none=>simp [eE]
 | some o=>cases o <;> simp [evK]
theorem yV (l:List MO):run E fuel (.code (.region l) :: k) σ A=run E fuel (.ops l [] :: k) σ A:=rfl
theorem wo (pu:List FuncId) (l:List MO) (pairs:List (Nat × Nat)):run E fuel (.code (.regionD pu l pairs) :: k) σ A=run E fuel (.opsF pu l [] [] pairs :: k) σ A:=rfl
theorem Ak (id:Nat) (a:MC):run E fuel (.code (.block id a) :: k) σ A=run E fuel (.code a :: .blk id :: k) σ A:=by
 simp only [run,evK,evC]
 cases evC E fuel a σ A with
 | none=>simp [eE]
 | some o=>cases o <;> simp [evK,kK]
theorem Hl (id:Nat):run E fuel (.blk id :: k) σ A=run E fuel k σ A:=rfl
theorem Aj (a:MC):run E fuel (.code (.scope a) :: k) σ A=run E fuel (.code a :: k) σ A:=rfl
theorem DB (mask:List Nat):run E fuel (.code (.kill mask) :: k) σ A=run E fuel k (clear mask σ) A:=rfl
theorem Hi:run E fuel (.code .ret :: k) σ A=some (.ret σ A):=kK _
theorem DC (id:Nat):run E fuel (.code (.exit id) :: k) σ A=mz E fuel id k σ A:=rfl
theorem Bw (id:Nat):mz E fuel id [] σ A=some (.exit id σ A):=rfl
theorem zn (id:Nat) (c:MC):mz E fuel id (.code c :: k) σ A=mz E fuel id k σ A:=rfl
theorem Bv (id:Nat) (l:List MO) (T:List AV):mz E fuel id (.ops l T :: k) σ A=mz E fuel id k σ A:=rfl
theorem zm (id:Nat) (pu:List FuncId) (l:List MO) (T:List AV) (fs:List fJ) (pairs:List (Nat × Nat)):mz E fuel id (.opsF pu l T fs pairs :: k) σ A=mz E fuel id k σ A:=rfl
theorem Bx (id:Nat):mz E fuel id (.blk id :: k) σ A=run E fuel k σ A:=by simp [mz,evK,run]
theorem uU (id id':Nat) (h:id≠id'):mz E fuel id (.blk id' :: k) σ A=mz E fuel id k σ A:=by simp [mz,evK,h]
theorem xG (c:MX) (a b:MC) (t:Bool) (h:evX E σ [] c=.bool t):run E fuel (.code (.cond c a b) :: k) σ A=if t then run E fuel (.code a :: k) σ A else run E fuel (.code b :: k) σ A:=by
 simp only [run,evK,evC,h]; cases t <;> rfl
theorem yW (c:MX) (a b:MC) (h:evX E σ [] c=.bool true):run E fuel (.code (.cond c a b) :: k) σ A=run E fuel (.code a :: k) σ A:=by
 rw [xG c a b true h]; rfl
theorem yX (c:MX) (a b:MC) (h:evX E σ [] c=.bool false):run E fuel (.code (.cond c a b) :: k) σ A=run E fuel (.code b :: k) σ A:=by
 rw [xG c a b false h]; rfl
theorem wq (T:List AV):run E fuel (.ops [] T :: k) σ A=run E fuel k σ A:=rfl
theorem JL (d:Option Nat) (op:MOp) (rest:List MO) (T:List AV):run E fuel (.ops (⟨d,op,none⟩ :: rest) T :: k) σ A =
  match a0 E (evX E σ T) A op with
  | some (v,A')=>run E fuel (.ops rest (T++[v]) :: k) (dG σ d v) A'
  | none=>none:=by
 simp only [run,evK,eB,dg]
 cases a0 E (evX E σ T) A op with
 | none=>simp [eE]
 | some x=>rfl
theorem tu (d:Option Nat) (op:MOp) (rest:List MO) (T:List AV) (x:MX) (want:Bool) (h:evX E σ T x=.bool want):run E fuel (.ops (⟨d,op,some (x,want)⟩ :: rest) T :: k) σ A =
  match a0 E (evX E σ T) A op with
  | some (v,A')=>run E fuel (.ops rest (T++[v]) :: k) (dG σ d v) A'
  | none=>none:=by
 simp only [run,evK,eB,dg,h]
 cases want <;> cases a0 E (evX E σ T) A op <;> simp [eE]
theorem pV (d:Option Nat) (op:MOp) (rest:List MO) (T:List AV) (x:MX) (want:Bool) (h:evX E σ T x=.bool (!want)):run E fuel (.ops (⟨d,op,some (x,want)⟩ :: rest) T :: k) σ A =
  run E fuel (.ops rest (T++[.tup []]) :: k) (dG σ d (.tup [])) A:=by
 simp only [run,evK,eB,dg,h]
 cases want <;> rfl
theorem ws (d:Option Nat) (op:MOp) (rest:List MO) (T:List AV) (x:MX) (want:Bool) (h:evX E σ T x=.tup []):run E fuel (.ops (⟨d,op,some (x,want)⟩ :: rest) T :: k) σ A =
  run E fuel (.ops rest (T++[.tup []]) :: k) (dG σ d (.tup [])) A:=by
 simp only [run,evK,eB,dg,h]
theorem uj (pu:List FuncId) (T:List AV) (fs:List fJ) (pairs:List (Nat × Nat)):run E fuel (.opsF pu [] T fs pairs :: k) σ A=if pairs.all (fun p=>(fs.getD p.1 .no).apart (fs.getD p.2 .no)) then run E fuel k σ A else none:=by
 simp only [run,evK,dO]
 split
 ·rfl
 ·exact eE _
theorem Hj (pu:List FuncId) (d:Option Nat) (op:MOp) (rest:List MO) (T:List AV) (fs:List fJ) (pairs:List (Nat × Nat)):run E fuel (.opsF pu (⟨d,op,none⟩ :: rest) T fs pairs :: k) σ A =
  match a0 E (evX E σ T) A op with
  | some (v,A')=>run E fuel (.opsF pu rest (T++[v]) (fs++[bZ E pu (evX E σ T) A op]) pairs :: k) (dG σ d v) A'
  | none=>none:=by
 simp only [run,evK,dO,dg]
 cases a0 E (evX E σ T) A op with
 | none=>simp [eE]
 | some x=>rfl
theorem q9 (pu:List FuncId) (d:Option Nat) (op:MOp) (rest:List MO) (T:List AV) (fs:List fJ) (pairs:List (Nat × Nat)) (x:MX) (want:Bool) (h:evX E σ T x=.bool want):run E fuel (.opsF pu (⟨d,op,some (x,want)⟩ :: rest) T fs pairs :: k) σ A =
  match a0 E (evX E σ T) A op with
  | some (v,A')=>run E fuel (.opsF pu rest (T++[v]) (fs++[bZ E pu (evX E σ T) A op]) pairs :: k) (dG σ d v) A'
  | none=>none:=by
 simp only [run,evK,dO,dg,h]
 cases want <;> cases a0 E (evX E σ T) A op <;> simp [eE]
theorem ou (pu:List FuncId) (d:Option Nat) (op:MOp) (rest:List MO) (T:List AV) (fs:List fJ) (pairs:List (Nat × Nat)) (x:MX) (want:Bool) (h:evX E σ T x=.bool (!want)):run E fuel (.opsF pu (⟨d,op,some (x,want)⟩ :: rest) T fs pairs :: k) σ A =
  run E fuel (.opsF pu rest (T++[.tup []]) (fs++[.no]) pairs :: k) (dG σ d (.tup [])) A:=by
 simp only [run,evK,dO,dg,h]
 cases want <;> rfl
theorem uk (pu:List FuncId) (d:Option Nat) (op:MOp) (rest:List MO) (T:List AV) (fs:List fJ) (pairs:List (Nat × Nat)) (x:MX) (want:Bool) (h:evX E σ T x=.tup []):run E fuel (.opsF pu (⟨d,op,some (x,want)⟩ :: rest) T fs pairs :: k) σ A =
  run E fuel (.opsF pu rest (T++[.tup []]) (fs++[.no]) pairs :: k) (dG σ d (.tup [])) A:=by
 simp only [run,evK,dO,dg,h]
theorem DA (mask:List Nat) (a:MC) (o:Out) (h:bM (evC E fuel a) mask fuel σ A=some o):run E fuel (.code (.loop mask a) :: k) σ A=after E fuel k o:=by
 simp only [run,evK,evC,h,after]
theorem B6 (mask:List Nat):∀(σ:List AV) (i:Nat),(clear mask σ).set i .undef=clear mask (σ.set i .undef):=by
 induction mask with
 | nil=>intro σ i; rfl
 | cons j m ih=>
  intro σ i
  show (clear m (σ.set j .undef)).set i .undef=clear m ((σ.set i .undef).set j .undef)
  rw [ih]
  congr 1
  by_cases h:i=j
  ·subst h; rfl
  ·exact (TF _ _ h).symm
theorem w6 (mask:List Nat):∀ σ:List AV,clear mask (clear mask σ)=clear mask σ:=by
 induction mask with
 | nil=>intro σ; rfl
 | cons j m ih=>
  intro σ
  show clear m ((clear m (σ.set j .undef)).set j .undef)=clear m (σ.set j .undef)
  rw [B6,Ua,ih]
theorem sw (body:List AV->ac->Option Out) (mask:List Nat) (n:Nat) (σ:List AV) (A:ac):bM body mask n σ A=bM body mask n (clear mask σ) A:=by
 cases n with
 | zero=>rfl
 | succ n=>simp only [bM,w6]
theorem aQ (mask:List Nat) (a:MC) (o:Out) (h:bM (evC E fuel a) mask fuel (clear mask σ) A=some o):run E fuel (.code (.loop mask a) :: k) σ A=after E fuel k o:=
 DA mask a o (by rw [sw]; exact h)
theorem iq {a:MC} {mask:List Nat} (I:Nat->List AV->ac->Prop) (Q:Out->Prop) (hs:∀k σ A,I k σ A->(∃ σ' A',run E fuel [.code a] (clear mask σ) A=some (.normal σ' A')/\∃k',k'<k/\I k' σ' A')\/(∃o,run E fuel [.code a] (clear mask σ) A=some o/\(∀ σ' A',o≠.normal σ' A')/\Q o)) :
  ∀(n k:Nat) (σ:List AV) (A:ac),k<n->I k σ A->∃o,bM (evC E fuel a) mask n σ A=some o/\Q o:=by
 intro n
 induction n with
 | zero=>intro k σ A h; omega
 | succ n ih=>
  intro k σ A h hi
  rw [bM]
  rcases hs k σ A hi with ⟨σ',A',h1,k',h2,h3⟩ | ⟨o,h1,h2,h3⟩
  ·rw [qF,h1]
   exact ih k' σ' A' (by omega) h3
  ·rw [qF,h1]
   cases o with
   | normal σ' A'=>exact absurd rfl (h2 σ' A')
   | exit id σ' A'=>exact ⟨_,rfl,h3⟩
   | ret σ' A'=>exact ⟨_,rfl,h3⟩
theorem lw (f:MX) (ps:List Nat) (a b:MC) (o:Out)
  (h:∀(l:Nat) (r:Loop),(match E.callY (fU A.length l r σ ps (evC E fuel a) (evC E fuel b) E.hand) (evX E σ [] f) [.func (.yield l) [] []] (A++[Ent.loop r 0]) with
   | some (_,A')=>mQ A.length σ A'
   | none=>none)=some o):run E fuel (.code (.rangeFunc f ps a b) :: k) σ A=after E fuel k o:=by
 have:evC E fuel (.rangeFunc f ps a b) σ A=some o:=by
  simp only [evC]
  exact KJ (kX:=fun (_:Nat × Loop)=>True) (0,default) trivial fun x _=>h x.1 x.2
 simp only [run,evK,this,after]
theorem vK:after E fuel k (.normal σ A)=run E fuel k σ A:=rfl
theorem zz (id:Nat):after E fuel k (.exit id σ A)=mz E fuel id k σ A:=rfl
theorem CR:after E fuel k (.ret σ A)=some (.ret σ A):=kK _
theorem aD (a:MC) (mask:List Nat) (n:Nat):bM (evC E fuel a) mask (n+1) σ A=match run E fuel [.code a] (clear mask σ) A with
  | some (.normal σ' A')=>bM (evC E fuel a) mask n σ' A'
  | x=>x:=rfl
theorem bh (mf:cI) (args:List AV) (h:args.length=mf.n):cc E fuel mf args A=match run E fuel [.code mf.mc] (args++List.replicate (mf.len-mf.n) .undef) A with
  | some (.normal σ A')=>(iP A' σ mf.res).map fun l=>(dE l,A')
  | some (.ret σ A')=>(iP A' σ mf.res).map fun l=>(dE l,A')
  | _=>none:=by
 unfold cc; rw [RH h]; rfl
end
open Classical in
theorem ax.of_fns {M':Nat->vM} {M:aU} (h:∀fuel,eJ P G f (M' fuel)) (n:Nat) (hM:∀args r,M args=some r->∃fuel r0 A',M' fuel args []=some (r0,A')/\frz A' n r0=r):ax P G f M:=by
 refine ⟨(h 0).1,?_⟩
 intro args r he
 obtain ⟨fuel,r0,A',h1,h2⟩:=hM args r he
 exact (ax.of_fn (M:=fun a=>if a=args then some r else none) (h fuel) n (fun a r' h'=>by
  split at h'
  ·rename_i e; injection h' with h'; subst h'; subst e; exact ⟨r0,A',h1,h2⟩
  ·cases h')).2 args r (by simp)
attribute [simp] Dz DB wo zm uj Hj q9 ou uk bZ bj j6 fJ.apart0 fJ.sees fJ.apart fJ.no kp0 bI ly iV eC cH bQ iy ox wN iB qI eqK Hh yV Ak Hl Aj Hi DC Hk Bw zn Bv Bx uU yW yX wq JL tu pV ws
 vK zz CR clear a0 evX dA dG ag mE uV jm ab ae gV gT ce eA du hiB loB jl mD aq fj dq aS aI iP dE
 aG Au kQ aE frz bH bu wX AV.solid cellsOf jL aa kr my mj bU gS bq az jM
@[simp] theorem Ki (A:ac) (v:AV) (B:ac) (id:Nat):zf A (some (v,B)) id=true↔B[id]?=A[id]?:=by
 simp only [zf]
 exact @decide_eq_true_iff _ (Classical.propDecidable _)
@[simp] theorem KP (G:Nat->Option (List AV)) (fs:List (FuncId × aJ)) (h:be) (f:FuncId) (a b args:List AV) (A:ac):(dX G fs h).call (.func (.func f) a b) args A=kQ fs h (.func (.func f) a b) args A:=rfl
@[simp] theorem Dj (G:Nat->Option (List AV)) (fs:List (FuncId × aJ)) (h:be) (l:Nat) (a b args:List AV) (A:ac):(dX G fs h).call (.func (.yield l) a b) args A=match h (.func (.yield l) a b) args A with
 | some x=>some x
 | none=>kQ fs h (.func (.yield l) a b) args A:=rfl
@[simp] theorem KN (G:Nat->Option (List AV)) (fs:List (FuncId × aJ)) (h:be):(dX G fs h).glob=G:=rfl
@[simp] theorem KM (G:Nat->Option (List AV)) (fs:List (FuncId × aJ)) (h:be):(dX G fs h).hand=h:=rfl
@[simp] theorem IP (G:Nat->Option (List AV)) (fs:List (FuncId × aJ)) (h:be):(dX G fs h).callY=kQ fs:=rfl
@[simp] theorem IS (G:Nat->Option (List AV)) (fs:List (FuncId × aJ)) (f:FuncId) (a b args:List AV) (A:ac):(aw G fs).call (.func (.func f) a b) args A=kQ fs (fun _ _ _=>none) (.func (.func f) a b) args A:=rfl
@[simp] theorem IR (G:Nat->Option (List AV)) (fs:List (FuncId × aJ)):(aw G fs).glob=G:=rfl
@[simp] theorem IQ (G:Nat->Option (List AV)) (fs:List (FuncId × aJ)):(aw G fs).hand=fun _ _ _=>none:=rfl
@[simp] theorem Ig (G:Nat->Option (List AV)) (fs:List (FuncId × aJ)):(aw G fs).callY=kQ fs:=rfl
@[simp] theorem D4 (b:Bool) (esz size:Nat):cA (.bool b) esz 0 false size=some (.bool b):=rfl
@[simp] theorem E3 (k:IntKind) (b:Int) (esz size:Nat):cA (.int k b) esz 0 false size=some (.int k b):=rfl
@[simp] theorem EY (b:List UInt8) (esz size:Nat):cA (.str b) esz 0 false size=some (.str b):=rfl
@[simp] theorem DU (esz size:Nat):cA .nilS esz 0 false size=some .nilS:=rfl
@[simp] theorem DV (esz size:Nat):cA .nilP esz 0 false size=some .nilP:=rfl
@[simp] theorem DW (esz size:Nat):cA .nilM esz 0 false size=some .nilM:=rfl
@[simp] theorem DY (esz size:Nat):cA .nilF esz 0 false size=some .nilF:=rfl
@[simp] theorem DX (esz size:Nat):cA .nilI esz 0 false size=some .nilI:=rfl
@[simp] theorem H7 (a:Nat) (b:List AV) (esz size:Nat):cA (.fs a b) esz 0 false size=some (.fs a b):=rfl
@[simp] theorem H6 (a b c:Nat) (esz size:Nat):cA (.sl a b c) esz 0 false size=some (.sl a b c):=rfl
@[simp] theorem EZ (a b c:Nat) (esz size:Nat):cA (.ptr a b c) esz 0 false size=some (.ptr a b c):=rfl
@[simp] theorem H8 (a:List AV) (esz size:Nat):cA (.fp a) esz 0 false size=some (.fp a):=rfl
@[simp] theorem DZ (f:Fn) (a b:List AV) (esz size:Nat):cA (.func f a b) esz 0 false size=some (.func f a b):=rfl
@[simp] theorem E0 (a:Nat) (esz size:Nat):cA (.map a) esz 0 false size=some (.map a):=rfl
@[simp] theorem Dg (t:TypeId) (v:AV) (esz size:Nat):cA (.iface t v) esz 0 false size=some (.iface t v):=rfl
@[simp] theorem cn (cs:List AV) (esz o size:Nat):cA (.agg cs) esz o false size=cs[o]?:=rfl
@[simp] theorem uE (cs:List AV) (esz:Nat):cA (.agg cs) esz 0 true esz=some (.agg cs):=by unfold cA; simp
def evP (E:Env) (fuel:Nat) (mf:cI) (n:Nat) (args:List AV):Option AV:=(cc E fuel mf args []).map fun x=>frz x.2 n x.1
theorem aN (mf:cI) (args:List AV) (h:args.length=mf.n):evP E fuel mf n args=match run E fuel [.code mf.mc] (args++List.replicate (mf.len-mf.n) .undef) [] with
  | some (.normal σ A')=>(iP A' σ mf.res).map fun l=>frz A' n (dE l)
  | some (.ret σ A')=>(iP A' σ mf.res).map fun l=>frz A' n (dE l)
  | _=>none:=by
 unfold evP
 rw [bh mf args h]
 cases run E fuel [.code mf.mc] (args++List.replicate (mf.len-mf.n) .undef) [] with
 | none=>rfl
 | some o=>cases o with
  | normal σ A=>simp [Option.map_map]; rfl
  | exit id σ A=>rfl
  | ret σ A=>simp [Option.map_map]; rfl
theorem ax.of_ev {fn:Func} {k:Nat} {mf:cI} (hE:dj P E) (hys:E.ys=[]) (hf:P.funcs[f]?=some fn) (hc:aH P fn k vs pu on hints=some mf) (n:Nat) {M:aU}
  (hM:∀args r,M args=some r->∃fuel,evP E fuel mf n args=some r) (hpu:bG E pu:=by first | exact bG.nil | (repeat (first | exact bG.nil | refine bG.cons (M:=_) rfl ?_))):ax P E.glob f M:=
 ax.of_fns (M':=fun fuel=>cc E fuel mf) (fun fuel=>b7 hE hys hf hc hpu) n fun args r h=>by
  obtain ⟨fuel,h⟩:=hM args r h
  unfold evP at h
  cases h1:cc E fuel mf args [] with
  | none=>rw [h1] at h; cases h
  | some x=>rw [h1] at h; injection h with h; exact ⟨fuel,x.1,x.2,h1,h⟩
@[simp] theorem dr (esz:Nat) (A:ac) (es:List AV):a8 esz A (.fs esz es)=some es:=by simp [a8]
@[simp] theorem EF (esz:Nat) (A:ac):a8 esz A .nilS=some []:=rfl
@[simp] theorem ED (A:ac) (l:List UInt8):a8 1 A (.str l)=some (l.map fun b=>.int .u8 b.toNat):=rfl
theorem wc {id:Nat} {esz:Nat} {gr:Bool} {es:List AV} (h:A[id]?=some (.row esz gr es)) (off len:Nat):a8 esz A (.sl id off len)=some ((es.drop off).take len):=by simp [a8,h]
@[simp] theorem EG (A:ac) (esz:Nat) (gr:Bool) (es:List AV):a8 esz (A++[Ent.row esz gr es]) (.sl A.length 0 es.length)=some es:=by simp [a8]
@[simp] theorem NE (a b:Int):(a == b)=decide (a=b):=by
 by_cases h:a=b <;> simp [h]
@[simp] theorem ND (a b:Int):(a != b)=!decide (a=b):=by
 by_cases h:a=b <;> simp [h]
@[simp] theorem HH (n:Nat):((n:Int)<0)=False:=by simp
@[simp] theorem MW:IntKind.i64.bits=64:=rfl
@[simp] theorem MU:IntKind.u64.bits=64:=rfl
@[simp] theorem MV:IntKind.u32.bits=32:=rfl
@[simp] theorem MY:IntKind.i32.bits=32:=rfl
@[simp] theorem PR:IntKind.u8.bits=8:=rfl
def inI (a:Int):Prop:=-9223372036854775808<=a/\a<=9223372036854775807
theorem eV {a:Int} (h:inI a):IntKind.i64.wrap a=a:=s6 h.1 h.2
open Go.ChangeShapes Go.WideShapes
def q7 (P:Program) (t:TypeId):Bool:=match P.underlying t with
 | some (.struct _) | some (.array _ _)=>true
 | _=>false
def gm (P:Program) (t:TypeId) (xs:List AV):AV:=if q7 P t then .agg xs else xs.headD .undef
def qM (P:Program):Nat->List Field->Nat->Bool
 | k,[],n=>k == n
 | k,f :: r,n=>f.offset == k && qM P (k+P.cellsOf f.type) r n
def gx (P:Program):Nat->TypeId->Bool
 | 0,_=>false
 | n+1,t=>match P.underlying t with
  | some .bool | some (.int _) | some .string=>P.cellsOf t == 1
  | some (.slice e)=>P.cellsOf t == 1 && Nat.blt 0 (P.cellsOf e) && gx P n e
  | some (.struct fs)=>fs.toList.all (fun f=>gx P n f.type) && qM P 0 fs.toList (P.cellsOf t)
  | some (.array m e)=>P.cellsOf t == m*P.cellsOf e && Nat.blt 0 (P.cellsOf e) && gx P n e
  | _=>false
def TCs (P:Program) (T:TypeId->List AV->Prop):List Field->List AV->Prop
 | [],ls=>ls=[]
 | f :: r,ls=>∃a b,ls=a++b/\T f.type a/\a.length=P.cellsOf f.type/\TCs P T r b
def TCa (T:List AV->Prop) (size:Nat):Nat->List AV->Prop
 | 0,ls=>ls=[]
 | m+1,ls=>∃a b,ls=a++b/\T a/\a.length=size/\TCa T size m b
def TC (P:Program):Nat->TypeId->List AV->Prop
 | 0,_,_=>False
 | n+1,t,ls=>match P.underlying t with
  | some .bool=>∃b,ls=[.bool b]
  | some (.int k)=>∃z,ls=[.int k z]/\(k.min<=z/\z<=k.max)
  | some .string=>∃s,ls=[.str s]/\s.length<=9223372036854775807
  | some (.slice e)=>ls=[.nilS]\/∃es:List AV,ls=[.fs (P.cellsOf e) es]/\es.length<=9223372036854775807/\∀x∈es,∃xs,TC P n e xs/\xs.length=P.cellsOf e/\x=gm P e xs
  | some (.struct fs)=>TCs P (TC P n) fs.toList ls
  | some (.array m e)=>TCa (TC P n e) (P.cellsOf e) m ls
  | _=>False
def TA (P:Program) (n:Nat) (t:TypeId) (a:AV):Prop:=∃xs,TC P n t xs/\xs.length=P.cellsOf t/\a=gm P t xs
section
variable {H:Type} {enc:TypeId × Value->H} {P:Program} {w:World} {held:Bool}
theorem Ls {a:Addr} {cs:List Value} (h:w.cells? 0 a n=some cs):cs.length=n/\∀j,j<n->∃v,cs[j]?=some v/\w.cell? (a.add j)=some v:=by
 unfold World.cells? at h
 rw [RH (TJ _)] at h
 have hl:cs.length=n:=by simpa using mapM_some_length h
 refine ⟨hl,fun j hj=>?_⟩
 have:=mapM_some_get h j j (by simp [hj])
 rw [this]
 exact ⟨cs[j],by simp [hl,hj],by simp [hl,hj]⟩
theorem vL (a:Addr) (i j:Nat) (h:a.spot=none):(a.add i).add j=⟨a.block,a.off+i+j,none⟩:=by
 obtain ⟨b,o,s⟩:=a
 simp only at h
 subst h
 rw [cZ,cZ]
theorem A6 {α:Type} (l:List α) (d:α) (h:0<l.length):l.headD d=l[0]:=by
 cases l with
 | nil=>simp at h
 | cons y r=>rfl
theorem nQ (hp:gx P n t=true) (ha:q7 P t=false):P.cellsOf t=1:=by
 cases n with
 | zero=>cases hp
 | succ n=>
  unfold gx at hp
  unfold q7 at ha
  split at hp
  ·exact Tg.1 hp
  ·exact Tg.1 hp
  ·exact Tg.1 hp
  ·simp only [Sd,Tg] at hp; exact hp.1.1
  ·rename_i hu; rw [hu] at ha; cases ha
  ·rename_i hu; rw [hu] at ha; cases ha
  ·cases hp
theorem zQ:∀(n fuel:Nat) (t:TypeId) (cs:List Value) (x:DataW H × List MemPlace),gx P n t=true->DataW.trod enc P w 0 (fun _=>true) held fuel t cs=some x ->
  ∃ls:List AV,ls.length=cs.length/\cs.length=P.cellsOf t/\TC P n t ls/\∀i (h:i<ls.length),∃v,cs[i]?=some v/\v.oneCell'=true/\aW w (fun b=>b<w.heap.size) aC.none v ls[i]:=by
 intro n
 induction n with
 | zero=>intro fuel t cs x h; cases h
 | succ n ih=>
  intro fuel t cs x hp h
  unfold gx at hp
  split at hp
  ·
   rename_i hu
   obtain ⟨b,rfl,_⟩:=DataW.trod_bool hu h
   refine ⟨[.bool b],rfl,by simpa using (Tg.1 hp).symm,by simp only [TC,hu]; exact ⟨b,rfl⟩,fun i hi=>?_⟩
   obtain rfl:i=0:=by simpa using hi
   exact ⟨_,rfl,rfl,.bool _ _⟩
  ·rename_i k hu
   obtain ⟨z,rfl,_,hw⟩:=DataW.trod_int hu h
   refine ⟨[.int k z],rfl,by simpa using (Tg.1 hp).symm,?_,fun i hi=>?_⟩
   ·simp only [TC,hu]
    simp only [Lit.wf,Sd,Sr] at hw
    exact ⟨z,rfl,hw⟩
   ·obtain rfl:i=0:=by simpa using hi
    exact ⟨_,rfl,rfl,.int _ _ _⟩
  ·rename_i hu
   obtain ⟨s,rfl,_,hw⟩:=DataW.trod_string hu h
   refine ⟨[.str s.data.toList],rfl,by simpa using (Tg.1 hp).symm,?_,fun i hi=>?_⟩
   ·simp only [TC,hu]
    refine ⟨_,rfl,?_⟩
    have h1:s.data.toList.length=s.size:=Sf
    have h2:maxLen=9223372036854775807:=by decide
    omega
   ·obtain rfl:i=0:=by simpa using hi
    exact ⟨_,rfl,rfl,.str _ _ _ rfl⟩
  ·
   rename_i e hu
   simp only [Sd,Tg] at hp
   obtain ⟨⟨hc1,hpos⟩,hpe⟩:=hp
   have hpos:0<P.cellsOf e:=by simpa [Nat.blt_eq] using hpos
   have fin:∀(v:Value) (a:AV),v.oneCell'=true->aW w (fun b=>b<w.heap.size) aC.none v a->TC P (n+1) t [a] ->
     ∃ls:List AV,ls.length=[v].length/\[v].length=P.cellsOf t/\TC P (n+1) t ls/\∀i (h:i<ls.length),∃v',[v][i]?=some v'/\v'.oneCell'=true/\aW w (fun b=>b<w.heap.size) aC.none v' ls[i]:=by
    intro v a h1 h2 h3
    refine ⟨[a],rfl,by simp [hc1],h3,fun i hi=>?_⟩
    obtain rfl:i=0:=by simpa using hi
    exact ⟨_,rfl,h1,h2⟩
   rcases DataW.trod_slice hu h with ⟨rfl,_⟩ | ⟨a,len,cap,elems,rest,m,rfl,rfl,_,_,hl,hcm,hel,hget,hrest,_⟩
   ·exact fin _ _ rfl (.nilS _ _) (by simp only [TC,hu]; exact .inl trivial)
   ·by_cases hcap:cap=0
    ·subst hcap
     obtain rfl:len=0:=by omega
     exact fin _ _ rfl (.nilS _ _) (by simp only [TC,hu]; exact .inl trivial)
    ·
     obtain ⟨hr1,hr2⟩:=hrest rfl
     have hblk:a.spot=none/\∃c T fz,w.heap[a.block]?=some (.cells c T fz):=by
      have h0:∃z cs0,w.cells? 0 (a.add 0) (P.cellsOf e)=some cs0/\DataW.trod enc P w 0 (fun _=>true) held m e cs0=some z:=by
       by_cases hl0:len=0
       ·subst hl0
        have:=hr2 0 (by omega)
        rw [Rx (show 0<rest.length by omega)] at this
        simp only [RG,Sy,T9] at this
        obtain ⟨cs0,k1,k2⟩:=this
        exact ⟨_,cs0,k1,k2⟩
       ·have:=hget 0 (by omega)
        rw [Rx (show 0<elems.length by omega)] at this
        simp only [RG,T9] at this
        obtain ⟨cs0,k1,k2⟩:=this
        exact ⟨_,cs0,k1,k2⟩
      obtain ⟨_,cs0,k1,_⟩:=h0
      obtain ⟨_,k2⟩:=Ls k1
      obtain ⟨v,_,k3⟩:=k2 0 hpos
      have hadd:(a.add 0).add 0=a:=by simp [Addr.add]
      rw [hadd] at k3
      unfold World.cell? at k3
      split at k3
      ·rename_i c T fz hh
       split at k3
       ·cases k3
       ·rename_i hsp
        exact ⟨by simpa using hsp,c,T,fz,hh⟩
      ·cases k3
     obtain ⟨hsp,c,T,fz,hh⟩:=hblk
     have H1:∀i,∃p:List Value × List AV,i<len->(w.cells? 0 (a.add (i*P.cellsOf e)) (P.cellsOf e)=some p.1/\p.2.length=p.1.length/\p.1.length=P.cellsOf e/\TC P n e p.2 /\
       ∀j (h:j<p.2.length),∃v,p.1[j]?=some v/\v.oneCell'=true/\aW w (fun b=>b<w.heap.size) aC.none v p.2[j]):=by
      intro i
      by_cases hi:i<len
      ·have:=hget i hi
       rw [Rx (show i<elems.length by omega)] at this
       simp only [RG] at this
       obtain ⟨cs0,k1,k2⟩:=this
       obtain ⟨ls,q1,q2,q3,q4⟩:=ih m e cs0 _ hpe k2
       exact ⟨(cs0,ls),fun _=>⟨k1,q1,q2,q3,q4⟩⟩
      ·exact ⟨([],[]),fun h=>absurd h hi⟩
     obtain ⟨F,hF⟩:=Classical.axiomOfChoice H1
     obtain ⟨b0,o0,s0⟩:=a
     simp only at hsp hh
     subst hsp
     have hlen:((List.range len).map fun i=>gm P e (F i).2).length=len:=by simp
     refine fin (.slice (some ⟨b0,o0,none⟩) len cap) (.fs (P.cellsOf e) ((List.range len).map fun i=>gm P e (F i).2)) rfl ?_ ?_
     ·have hV:=aW.fs (w:=w) (OK:=fun b=>b<w.heap.size) aC.none b0 o0 cap (P.cellsOf e) T c fz ((List.range len).map fun i=>gm P e (F i).2)
       (fun i=>if q7 P e then .agg (F i).1.toArray else (F i).1.headD undef) (Sp.1 hh).1 hh (by rw [hlen]; exact hl) (fun i hi=>?_) (fun i hi=>?_) (fun i hi j hj=>?_)
      ·rw [hlen] at hV; exact hV
      ·obtain ⟨_,k2,k3,_,k5⟩:=hF i (by rwa [hlen] at hi)
       simp only [SA,T4,gm]
       split
       ·refine .agg _ _ _ (by simp [k2]) (fun j=>(F i).1.getD j undef) (fun j hj=>?_) (fun j hj=>?_)
        ·obtain ⟨v,e1,e2,_⟩:=k5 j hj
         simp [e1,e2]
        ·obtain ⟨v,e1,_,e3⟩:=k5 j hj
         simpa [Rw,e1] using e3
       ·have h0:0<(F i).2.length:=by omega
        obtain ⟨v,e1,e2,e3⟩:=k5 0 h0
        have e4:(F i).1.headD undef=v:=by
         cases hF1:(F i).1 with
         | nil=>rw [hF1] at e1; simp at e1
         | cons y r=>rw [hF1] at e1; simpa using e1
        rw [e4,A6 _ _ h0]; exact e3
      ·obtain ⟨_,k2,k3,_,k5⟩:=hF i (by rwa [hlen] at hi)
       split
       ·refine ⟨by simp [Value.cells,k3],fun y hy=>?_⟩
        simp only [Value.cells] at hy
        obtain ⟨j,hj,rfl⟩:=SD.1 hy
        obtain ⟨v,e1,e2,_⟩:=k5 j (by rw [k2]; simpa using hj)
        have:(F i).1[j]'(by simpa using hj)=v:=by rw [Rx (by simpa using hj)] at e1; simpa using e1
        simpa [this] using e2
       ·rename_i hagg
        have h0:0<(F i).2.length:=by omega
        obtain ⟨v,e1,e2,e3⟩:=k5 0 h0
        have e4:(F i).1.headD undef=v:=by
         cases hF1:(F i).1 with
         | nil=>rw [hF1] at e1; simp at e1
         | cons y r=>rw [hF1] at e1; simpa using e1
        have hc1':P.cellsOf e=1:=nQ hpe (by simpa using hagg)
        rw [e4]
        cases v <;> simp [Value.oneCell'] at e2 <;> simp [Value.cells,cF,hc1',Value.oneCell']
      ·obtain ⟨k1,k2,k3,_,k5⟩:=hF i (by rwa [hlen] at hi)
       obtain ⟨_,q⟩:=Ls k1
       obtain ⟨v,q1,q2⟩:=q j hj
       rw [vL _ _ _ rfl] at q2
       simp only [World.cell?,hh,Option.isSome_none,Sc,S8] at q2
       rw [q2]
       split
       ·simp [Value.cells,q1]
       ·rename_i hagg
        have hc1':P.cellsOf e=1:=nQ hpe (by simpa using hagg)
        obtain rfl:j=0:=by omega
        obtain ⟨v',e1,e2,_⟩:=k5 0 (by omega)
        have e4:(F i).1.headD undef=v:=by
         cases hF1:(F i).1 with
         | nil=>rw [hF1] at q1; simp at q1
         | cons y r=>rw [hF1] at q1; simpa using q1
        obtain rfl:v=v':=Td (q1.symm.trans e1)
        rw [e4]
        cases v <;> simp [Value.oneCell'] at e2 <;> rfl
     ·simp only [TC,hu]
      refine .inr ⟨_,rfl,?_,fun y hy=>?_⟩
      ·have h2:maxLen=9223372036854775807:=by decide
       rw [hlen]; omega
      ·simp only [Sa,SI] at hy
       obtain ⟨i,hi,rfl⟩:=hy
       obtain ⟨_,k2,k3,k4,_⟩:=hF i hi
       exact ⟨_,k4,by omega,rfl⟩
  ·
   rename_i fs hu
   simp only [Sd,RZ] at hp
   obtain ⟨hp1,hp2⟩:=hp
   obtain ⟨xs,m,rfl,_,hcl,hxl,hall⟩:=DataW.trod_struct hu h
   have key:∀(r:List Field) (k:Nat),qM P k r (P.cellsOf t)=true->(∀f∈r,gx P n f.type=true/\∃y,DataW.trod enc P w 0 (fun _=>true) held m f.type ((cs.drop f.offset).take (P.cellsOf f.type))=some y) ->
     k<=P.cellsOf t/\∃ls:List AV,k+ls.length=P.cellsOf t/\TCs P (TC P n) r ls/\∀i (h:i<ls.length),∃v,cs[k+i]?=some v/\v.oneCell'=true/\aW w (fun b=>b<w.heap.size) aC.none v ls[i]:=by
    intro r
    induction r with
    | nil=>
     intro k hk _
     simp only [qM,Tg] at hk
     exact ⟨by omega,[],by simpa using hk,rfl,fun i hi=>by simp at hi⟩
    | cons f r ihr=>
     intro k hk hf
     simp only [qM,Sd,Tg] at hk
     obtain ⟨hko,hk⟩:=hk
     obtain ⟨hle,ls2,l1,l2,l3⟩:=ihr _ hk (fun g hg=>hf g (by simp [hg]))
     obtain ⟨hpf,y,hy⟩:=hf f (by simp)
     obtain ⟨ls1,q1,q2,q3,q4⟩:=ih m _ _ _ hpf hy
     refine ⟨by omega,ls1++ls2,by simp; omega,⟨ls1,ls2,rfl,q3,by omega,l2⟩,fun i hi=>?_⟩
     by_cases h1:i<ls1.length
     ·obtain ⟨v,e1,e2,e3⟩:=q4 i h1
      refine ⟨v,?_,e2,by rw [R2 h1]; exact e3⟩
      rw [Ta (by omega),SQ] at e1
      rw [<-hko]; exact e1
     ·have hi2:i-ls1.length<ls2.length:=by simp at hi; omega
      obtain ⟨v,e1,e2,e3⟩:=l3 (i-ls1.length) hi2
      refine ⟨v,?_,e2,by rw [So (by omega)]; exact e3⟩
      rw [<-e1]; congr 1; omega
   obtain ⟨_,ls,l1,l2,l3⟩:=key fs.toList 0 hp2 (fun f hf=>⟨hp1 f hf,by
    obtain ⟨i,hi,rfl⟩:=SD.1 hf
    have hi':i<fs.size:=by simpa using hi
    have:=hall i fs[i] (by simp [hi'])
    rw [Rx (show i<xs.length by omega)] at this
    exact ⟨_,by simpa using this⟩⟩)
   refine ⟨ls,by omega,hcl,by simp only [TC,hu]; exact l2,fun i hi=>?_⟩
   obtain ⟨v,e1,e2,e3⟩:=l3 i hi
   exact ⟨v,by simpa using e1,e2,e3⟩
  ·
   rename_i m' e hu
   simp only [Sd,Tg] at hp
   obtain ⟨⟨hsz,hpos⟩,hpe⟩:=hp
   obtain ⟨xs,m,rfl,_,hcl,hxl,hall⟩:=DataW.trod_array hu h
   have key:∀(r k:Nat),k+r=m'->∃ls:List AV,ls.length=r*P.cellsOf e/\TCa (TC P n e) (P.cellsOf e) r ls/\∀i (h:i<ls.length),∃v,cs[k*P.cellsOf e+i]?=some v/\v.oneCell'=true/\aW w (fun b=>b<w.heap.size) aC.none v ls[i]:=by
    intro r
    induction r with
    | zero=>intro k _; exact ⟨[],by simp,rfl,fun i hi=>by simp at hi⟩
    | succ r ihr=>
     intro k hk
     obtain ⟨ls2,l1,l2,l3⟩:=ihr (k+1) (by omega)
     have hy:=hall k (by omega)
     rw [Rx (show k<xs.length by omega)] at hy
     obtain ⟨ls1,q1,q2,q3,q4⟩:=ih m _ _ _ hpe hy
     refine ⟨ls1++ls2,by simp [l1,q1,q2,RY]; omega,⟨ls1,ls2,rfl,q3,by omega,l2⟩,fun i hi=>?_⟩
     by_cases h1:i<ls1.length
     ·obtain ⟨v,e1,e2,e3⟩:=q4 i h1
      refine ⟨v,?_,e2,by rw [R2 h1]; exact e3⟩
      rw [Ta (by omega),SQ] at e1
      exact e1
     ·have hi2:i-ls1.length<ls2.length:=by simp at hi; omega
      obtain ⟨v,e1,e2,e3⟩:=l3 (i-ls1.length) hi2
      refine ⟨v,?_,e2,by rw [So (by omega)]; exact e3⟩
      rw [<-e1]; congr 1; rw [RY]; omega
   obtain ⟨ls,l1,l2,l3⟩:=key m' 0 (by omega)
   refine ⟨ls,by omega,hcl,by simp only [TC,hu]; exact l2,fun i hi=>?_⟩
   obtain ⟨v,e1,e2,e3⟩:=l3 i hi
   exact ⟨v,by simpa using e1,e2,e3⟩
  ·cases hp
theorem Gw {d:DataW H} {ps:List MemPlace} (hp:gx P n t=true) (hv:q7 P t=true->∃cs,v=.agg cs) (hv':q7 P t=false->v.oneCell'=true) (h:DataW.Trod enc P w 0 (fun _=>true) held t v d ps) :
  ∃a,TA P n t a/\aW w (fun b=>b<w.heap.size) aC.none v a:=by
 obtain ⟨fuel,h⟩:=h
 obtain ⟨ls,h1,h2,h3,h4⟩:=zQ n fuel t _ _ hp h
 refine ⟨_,⟨ls,h3,by omega,rfl⟩,?_⟩
 unfold gm
 cases ha:q7 P t with
 | true=>
  obtain ⟨cs,rfl⟩:=hv ha
  rw [RH rfl]
  simp only [Value.cells] at h1 h4
  refine .agg _ _ _ (by simpa using h1.symm) (fun i=>cs.getD i undef) (fun i hi=>?_) (fun i hi=>?_)
  ·obtain ⟨v,e1,e2,_⟩:=h4 i hi
   have e1':cs[i]?=some v:=by simpa using e1
   simp [e1',e2]
  ·obtain ⟨v,e1,_,e3⟩:=h4 i hi
   have e1':cs[i]?=some v:=by simpa using e1
   simpa [Sh,e1'] using e3
 | false=>
  have hone:=hv' ha
  have hc:v.cells.toList=[v]:=by cases v <;> simp [Value.oneCell'] at hone <;> rfl
  rw [hc] at h1 h4
  simp only [Sc,S8]
  match ls,h1,h4 with
  | [a],_,h4=>
   obtain ⟨v',e1,_,e3⟩:=h4 0 (by simp)
   simp only [Sz,Rz] at e1
   subst e1
   exact e3
end
open Go.ChangeShapes Go.WideShapes Go.RowKit
def gK (P:Program) (n:Nat):List TypeId->List AV->Prop
 | [],[]=>True
 | t :: ts,a :: r=>TA P n t a/\gK P n ts r
 | _,_=>False
theorem NA (h:Ext W OK aC.none W' OK' aC.none) (may:MemPlace->Prop):W.keptBut W' may:=by
 refine ⟨h.os,h.output,fun i hi=>?_⟩
 have e:=h.blk i hi (fun _ _ (hx:_∈[])=>by cases hx)
 rw [e]
 cases W.heap[i]? with
 | none=>rfl
 | some o=>cases o <;> first | exact ⟨rfl,rfl,rfl,fun _ _=>rfl⟩ | exact .inr ⟨rfl,rfl⟩ | rfl
section
variable {H:Type} {enc:TypeId × Value->H} {P:Program}
theorem y8 {r:Reach} {b:Nat} (h:Value.okWide P w r b t v) (ha:q7 P t=true):∃cs,v=.agg cs:=by
 unfold q7 at ha
 unfold Value.okWide at h
 split at ha
 ·rename_i hu; rw [hu] at h; obtain ⟨cs,h,_⟩:=h; exact ⟨cs,h⟩
 ·rename_i hu; rw [hu] at h; obtain ⟨cs,h,_⟩:=h; exact ⟨cs,h⟩
 ·cases ha
theorem yZ {r:Reach} {b:Nat} (h:Value.okWide P w r b t v) (hp:gx P n t=true) (ha:q7 P t=false):v.oneCell'=true:=by
 cases n with
 | zero=>cases hp
 | succ n=>
  unfold gx at hp
  unfold q7 at ha
  unfold Value.okWide Cell.okWide Cell.ok at h
  cases hu:P.underlying t with
  | none=>rw [hu] at hp; cases hp
  | some d=>
   rw [hu] at h hp ha
   cases d <;> simp only [reduceCtorEq,Sc] at hp ha <;> cases v <;> simp_all [Value.oneCell']
theorem vE:∀(ts:List TypeId) (vs:List Value) (ds:List (DataW H)) (ps:List MemPlace),(∀t∈ts,gx P n t=true)->(∀(j:Nat) t v,ts[j]?=some t->vs[j]?=some v->∃r b,Value.okWide P W r b t v) ->
  DataW.TrodAll enc P W 0 (fun _=>true) true ts vs ds ps->ds.length=ts.length/\∃ls,gK P n ts ls/\bS W (fun b=>b<W.heap.size) aC.none vs ls
 | [],[],[],ps,_,_,_=>⟨rfl,[],trivial,trivial⟩
 | t :: ts,v :: vs,d :: ds,ps,hp,hv,h=>by
  obtain ⟨p,q,h1,h2,_⟩:=h
  obtain ⟨r,b,hv0⟩:=hv 0 t v rfl rfl
  obtain ⟨a,ha1,ha2⟩:=Gw (hp t (by simp)) (y8 hv0) (yZ hv0 (hp t (by simp))) h1
  obtain ⟨hl,ls,h3,h4⟩:=vE ts vs ds q (fun u hu=>hp u (by simp [hu])) (fun j t' v' e1 e2=>hv (j+1) t' v' (by simpa using e1) (by simpa using e2)) h2
  exact ⟨by simp [hl],a :: ls,⟨ha1,h3⟩,⟨ha2,h4⟩⟩
 | [],[],_ :: _,_,_,_,h=>h.elim
 | [],_ :: _,_,_,_,_,h=>h.elim
 | _ :: _,[],_,_,_,_,h=>h.elim
 | _ :: _,_ :: _,[],_,_,_,h=>h.elim
theorem vF {sp:Nat->Bool} (hl:laidOutB P=true):∀(ts:List TypeId) (vs:List Value) (ds:List (DataW H)) (ps:List MemPlace),(∀t∈ts,P.readableRec t=true/\t<P.types.size) ->
  (∀p∈ps,W.sameAt W' p/\sp p.block=true)->DataW.TrodAll enc P W 0 (fun _=>true) true ts vs ds ps->DataW.TrodAll enc P W' 0 sp true ts vs ds ps
 | [],[],[],ps,_,_,h=>h
 | t :: ts,v :: vs,d :: ds,ps,hp,hs,h=>by
  obtain ⟨p,q,h1,h2,rfl⟩:=h
  exact ⟨p,q,WideElems.Trod_stays hl (hp t (by simp)).1 (hp t (by simp)).2 h1 (fun x hx=>(hs x (by simp [hx])).1) (fun x hx=>(hs x (by simp [hx])).2),
   vF hl ts vs ds q (fun u hu=>hp u (by simp [hu])) (fun x hx=>hs x (by simp [hx])) h2,rfl⟩
 | [],[],_ :: _,_,_,_,h=>h.elim
 | [],_ :: _,_,_,_,_,h=>h.elim
 | _ :: _,[],_,_,_,_,h=>h.elim
 | _ :: _,_ :: _,[],_,_,_,h=>h.elim
theorem yU (h:Ext W OK aC.none W' OK' aC.none) (p:MemPlace) (hp:p.block<W.heap.size):W.sameAt W' p:=by
 cases p with
 | cell b off=>
  have e:=h.blk b hp (fun _ _ (hx:_∈[])=>by cases hx)
  simp only [World.sameAt,World.cell?,e]
 | map b=>exact h.blk b hp (fun _ _ (hx:_∈[])=>by cases hx)
theorem uH {fn:Func} {n:Nat} {M:aU} (hs:ax P G f M) (hM:∀args,gK P n fn.params.toList args->M args=some (.bool true))
  {IH:ChangeSpec} (hspec:∀ds:List (DataW H),ds.length=fn.params.toList.length->IH.fn H ds={results:=[.lit (.bool true)],args:=ds}) (hvars:IH.vars=[])
  (hp:fn.params.toList.all (fun t=>gx P n t && P.readableRec t && Nat.blt t P.types.size)=true) (hl:laidOutB P=true) {tb:TypeId} (hres:fn.resultTypes=#[tb]) (hb:P.underlying tb=some .bool)
  {W:World} {base:Nat} {args:Array Value} {ds gs:List (DataW H)} {before:List MemPlace} (hval:∀(j:Nat) t v,fn.params[j]?=some t->args[j]?=some v->Value.okWide P W .any base t v)
  (hW:DataW.Whole enc P fn.params.toList IH.vars false W args.toList ds gs before) (hG:Gm G W (fun b=>b<W.heap.size)) :
  Calls P f args W fun e W'=>∃v,e=.returned v/\IH.post enc P fn false true false false W args v W':=by
 have hW':=hW
 have hlt:=hW.lt
 obtain ⟨p,q,hA,hV,rfl,hfz,hnd⟩:=hW
 rw [hvars] at hV
 obtain ⟨rfl,rfl⟩:=trodVars_none hV
 rw [RZ] at hp
 have hp':∀t∈fn.params.toList,gx P n t=true/\P.readableRec t=true/\t<P.types.size:=fun t ht=>by
  have:=hp t ht
  simp only [Sd] at this
  exact ⟨this.1.1,this.1.2,by simpa [Nat.blt_eq] using this.2⟩
 obtain ⟨hdl,ls,h1,h2⟩:=vE (n:=n) _ _ _ _ (fun t ht=>(hp' t ht).1) (fun j t v e1 e2=>⟨_,_,hval j t v (by simpa using e1) (by simpa using e2)⟩) hA
 have hc:=hs.2 ls _ (hM ls h1) W (fun b=>b<W.heap.size) args.toList (fun _ h=>h) hG h2
 rw [TK] at hc
 refine hc.mono ?_
 rintro e W1 ⟨v,OK',rfl,hv,_,hx⟩
 obtain rfl:=hv.inv_bool
 refine ⟨_,rfl,ds,[],p++[],[],p,[],hW',?_,?_,?_,NA hx _,fun h=>by cases h⟩
 ·rw [Sk,hspec ds hdl,hres]
  exact trodAll_cons_mk (shut_bool hb _) trodAll_mk0
 ·rw [Sk,hspec ds hdl]
  exact vF hl _ _ _ _ (fun t ht=>(hp' t ht).2) (fun x hx'=>⟨yU hx x (hlt x (by simp [hx'])),by simpa using hlt x (by simp [hx'])⟩) hA
 ·rw [Sk,hspec ds hdl,hvars]
  rfl
variable {n:Nat} {t e:TypeId} {a:AV}
theorem sX {d:TypeDesc} (hu:P.underlying t=some d) (h:(match d with | .struct _=>true | .array _ _=>true | _=>false)=false):q7 P t=false:=by
 unfold q7; rw [hu]
 cases d <;> simp_all
theorem TA.int {k:IntKind} (hu:P.underlying t=some (.int k)) (h:TA P n t a):∃z,a=.int k z/\k.min<=z/\z<=k.max:=by
 obtain ⟨xs,h1,_,rfl⟩:=h
 cases n with
 | zero=>exact h1.elim
 | succ n=>
  simp only [TC,hu] at h1
  obtain ⟨z,rfl,h2⟩:=h1
  exact ⟨z,by simp [gm,sX hu rfl],h2⟩
theorem TA.i64 (hu:P.underlying t=some (.int .i64)) (h:TA P n t a):∃z,a=.int .i64 z/\inI z:=by
 obtain ⟨z,h1,h2,h3⟩:=TA.int hu h
 exact ⟨z,h1,h2,h3⟩
theorem TA.slice (hu:P.underlying t=some (.slice e)) (h:TA P (n+1) t a):a=.nilS\/∃es,a=.fs (P.cellsOf e) es/\es.length<=9223372036854775807/\∀x∈es,TA P n e x:=by
 obtain ⟨xs,h1,_,rfl⟩:=h
 simp only [TC,hu] at h1
 have hw:∀x,gm P t [x]=x:=fun x=>by simp [gm,sX hu rfl]
 rcases h1 with rfl | ⟨es,rfl,h2,h3⟩
 ·exact .inl (hw _)
 ·exact .inr ⟨es,hw _,h2,h3⟩
theorem TA.agg (ha:q7 P t=true) (h:TA P n t a):∃xs,a=.agg xs/\TC P n t xs/\xs.length=P.cellsOf t:=by
 obtain ⟨xs,h1,h2,rfl⟩:=h
 exact ⟨xs,by simp [gm,ha],h1,h2⟩
theorem gK.cons {ts:List TypeId} {args:List AV} (h:gK P n (t :: ts) args):∃a r,args=a :: r/\TA P n t a/\gK P n ts r:=by
 cases args with
 | nil=>exact h.elim
 | cons a r=>exact ⟨a,r,rfl,h.1,h.2⟩
theorem gK.nil {args:List AV} (h:gK P n [] args):args=[]:=by
 cases args with
 | nil=>rfl
 | cons a r=>exact h.elim
end
def SlA (esz:Nat) (xs:List AV) (a:AV):Prop:=(a=.nilS/\xs=[])\/a=.fs esz xs
section
variable {esz:Nat} {xs:List AV} {a:AV} {A:ac}
theorem SlA.len (h:SlA esz xs a):aq a=some (.int .i64 (xs.length:Int)):=by
 rcases h with ⟨rfl,rfl⟩ | rfl <;> rfl
theorem SlA.src (h:SlA esz xs a):a8 esz A a=some xs:=by
 rcases h with ⟨rfl,rfl⟩ | rfl <;> simp
theorem SlA.index (h:SlA esz xs a) (hx:xs[i]?=some x) (hs:x.solid=true) (he:0<esz) (k:IntKind):ae esz A a (.int k (i:Int))=some (.fp (cellsOf x)):=by
 rcases h with ⟨rfl,rfl⟩ | rfl
 ·simp at hx
 ·simp [ae,hx,hs,he,-AV.solid]
theorem SlA.index1 (h:SlA 1 xs a) (hx:xs[i]?=some x) (hs:x.solid=true) (hc:cellsOf x=[x]) (k:IntKind):ae 1 A a (.int k (i:Int))=some (.fp [x]):=by
 rw [h.index hx hs (by omega),hc]
theorem SlA.int (zs:List Int) (k:IntKind) (h:SlA 1 (zs.map (.int k)) a) (hz:zs[i]?=some z) (k':IntKind):ae 1 A a (.int k' (i:Int))=some (.fp [.int k z]):=
 h.index1 (by simp [hz]) rfl rfl k'
theorem SlA.cutHi (h:SlA esz xs a) (hi:Nat) (h2:hi<=xs.length) (k':IntKind):∃b,ce esz A none (some (.int k' (hi:Int))) a=some b/\SlA esz (xs.take hi) b:=by
 rcases h with ⟨rfl,rfl⟩ | rfl
 ·obtain rfl:hi=0:=by simpa using h2
  exact ⟨.nilS,rfl,.inl ⟨rfl,rfl⟩⟩
 ·exact ⟨_,by simp [ce,h2],.inr rfl⟩
theorem SlA.frz (h:SlA esz xs a) (n:Nat):frz A n a=a:=by
 rcases h with ⟨rfl,rfl⟩ | rfl <;> cases n <;> rfl
theorem eu {α:Type} {f:α->AV} {p:α->Prop}:∀ {l:List AV},(∀x∈l,∃z,x=f z/\p z)->∃zs:List α,l=zs.map f/\∀z∈zs,p z
 | [],_=>⟨[],rfl,fun _ h=>by cases h⟩
 | x :: l,h=>by
  obtain ⟨z,rfl,hz⟩:=h x (by simp)
  obtain ⟨zs,rfl,hzs⟩:=eu (l:=l) (fun y hy=>h y (by simp [hy]))
  exact ⟨z :: zs,rfl,fun y hy=>by
   rcases Su.1 hy with rfl | hy
   ·exact hz
   ·exact hzs y hy⟩
variable {P:Program} {n:Nat} {t e:TypeId}
theorem TA.sl (hu:P.underlying t=some (.slice e)) (h:TA P (n+1) t a):∃es,SlA (P.cellsOf e) es a/\es.length<=9223372036854775807/\∀x∈es,TA P n e x:=by
 rcases TA.slice hu h with rfl | ⟨es,h1,h2,h3⟩
 ·exact ⟨[],.inl ⟨rfl,rfl⟩,by simp,fun _ h=>by cases h⟩
 ·exact ⟨es,.inr h1,h2,h3⟩
theorem TA.ints (hu:P.underlying t=some (.slice e)) (he:P.underlying e=some (.int .i64)) (hc:P.cellsOf e=1) (h:TA P (n+1) t a):∃zs:List Int,SlA 1 (zs.map (.int .i64)) a/\zs.length<=9223372036854775807/\∀z∈zs,inI z:=by
 obtain ⟨es,h1,h2,h3⟩:=TA.sl hu h
 obtain ⟨zs,rfl,h4⟩:=eu (f:=AV.int .i64) (p:=inI) (fun x hx=>TA.i64 he (h3 x hx))
 rw [hc] at h1
 exact ⟨zs,h1,by simpa using h2,h4⟩
end
theorem DM (a b:Nat) (k k':IntKind):fj false (.int k (a:Int)) (.int k' (b:Int))=some (.int k ((min a b:Nat):Int)):=by
 unfold fj
 simp only [Sc,S8]
 congr 2
 split <;> omega
theorem DT (a b:Nat) (k k':IntKind):fj true (.int k (a:Int)) (.int k' (b:Int))=some (.int k ((max a b:Nat):Int)):=by
 unfold fj
 simp only [SX]
 congr 2
 split <;> omega
theorem uQ {A:ac}:∀(n:Nat) (a:AV),bu n a=true->frz A n a=a
 | 0,a,h=>by cases a <;> simp_all [bu,frz]
 | n+1,a,h=>by
  have ih:=uQ (A:=A) n
  have hm:∀cs:List AV,(∀x∈cs,bu n x=true)->cs.map (frz A n)=cs:=fun cs hc=>by
   conv=>rhs; rw [<-List.map_id cs]
   exact Sb fun x hx=>ih x (hc x hx)
  cases a <;> simp only [bu,Sc,RZ,Sd] at h <;> simp only [frz]
  ·rw [hm _ h]
  ·rw [hm _ h]
  ·rw [hm _ h.1,hm _ h.2]
  ·rw [ih _ h]
theorem p8 {g2:aC} (hn:bu n a=true) (h:aW w OK g v a) (hok:∀b,OK b->OK2 b):aW w OK2 g2 v a:=by
 have:=p9 (A:=[]) n a v hn h
 rw [uQ n a hn] at this
 exact this.mono hok (fun _ _=>rfl) _ g2.none_le
def o8 (n:Nat):Ent->Bool
 | .row _ _ es=>es.all (bu n)
 | .map kvs=>kvs.all fun x=>bu n x.1 && bu n x.2
 | .loop ..=>true
 | .dead=>false
theorem nm.noRef {g2:aC} {incs:List Inc} {e:Ent} (h:nm w OK g incs e) (hn:o8 n e=true) (hok:∀b,OK b->OK2 b):nm w OK2 g2 incs e:=by
 cases e with
 | row s gr es=>
  simp only [o8,RZ] at hn
  refine ⟨h.1,fun inc hi=>?_⟩
  obtain ⟨h1,h2,h3,c,T,fz,h4,h5,h6,h7⟩:=h.2 inc hi
  refine ⟨h1,h2,h3,c,T,fz,h4,h5,h6,fun i hi hn'=>?_⟩
  obtain ⟨v,k1,k2,k3⟩:=h7 i hi hn'
  exact ⟨v,p8 (hn _ (RM _)) k1 hok,k2,k3⟩
 | map kvs=>
  simp only [o8,RZ,Sd] at hn
  obtain ⟨inc,rfl,es,clock,h1,h2,hst,h3⟩:=h
  refine ⟨inc,rfl,es,clock,h1,h2,hst,fun i hi=>?_⟩
  obtain ⟨e,e1,e2,e3⟩:=h3 i hi
  have:=hn _ (RM hi)
  exact ⟨e,e1,p8 this.1 e2 hok,p8 this.2 e3 hok⟩
 | loop r k=>exact h
 | dead=>trivial
section
variable {P:Program} {G:Nat->Option (List AV)}
theorem cq.killFirst (h:cq w OK g A) (k:Nat) (hk:k<=A.length):cq w OK g (List.replicate k .dead++A.drop k):=by
 have hl:(List.replicate k Ent.dead++A.drop k).length=A.length:=by simp; omega
 have hlt:∀id,id<k->(List.replicate k Ent.dead++A.drop k)[id]?=some .dead:=fun id hid=>by
  rw [RC (by simpa using hid)]; simp [hid]
 have hge:∀id,k<=id->(List.replicate k Ent.dead++A.drop k)[id]?=A[id]?:=fun id hid=>by
  rw [RS (by simpa using hid)]
  simp only [TE,SQ]
  congr 1; omega
 have hlive:∀id,(List.replicate k Ent.dead++A.drop k)[id]?≠some Ent.dead->A[id]?≠some Ent.dead:=fun id hd=>by
  by_cases e:id<k
  ·exact absurd (hlt id e) hd
  ·rwa [hge id (by omega)] at hd
 refine ⟨fun id hid=>?_,fun id hid=>h.out id (by omega),fun id id' i i' hd hd'=>h.one id id' i i' (hlive _ hd) (hlive _ hd'),h.apart,h.low,h.ok⟩
 by_cases e:id<k
 ·have:=hlt id e
  rw [Rx hid] at this
  injection this with this
  rw [this]; trivial
 ·have:=hge id (by omega)
  rw [Rx hid,Rx (by omega)] at this
  injection this with this
  rw [this]; exact h.ent id (by omega)
open Classical in
def FE (n:Nat) (M:vM):vM:=fun args A=>
 match M args A with
 | some (r,A')=>if A'.take A.length=A/\A.all (o8 n)=true then some (frz (List.replicate A.length .dead++A'.drop A.length) n r,A) else none
 | none=>none
theorem eJ.fresh {M:vM} (h:eJ P G f M) (n:Nat):eJ P G f (FE n M):=by
 refine ⟨h.1,fun args A r A1 he w OK g vs hA hG hl=>?_⟩
 unfold FE at he
 split at he
 ·rename_i r0 A' hM
  simp only [Ry,Rz,RQ] at he
  obtain ⟨⟨htk,hall⟩,rfl,rfl⟩:=he
  refine (h.2 args A r0 A' hM w OK g vs hA hG hl).mono ?_
  rintro e w' ⟨v,OK',g',rfl,hv,hA',hx⟩
  rw [RZ] at hall
  have hlen:A.length<=A'.length:=by
   have:=Uk List.length htk
   simp at this; omega
  have hold:∀id,id<A.length->A'[id]?=A[id]?:=fun id hid=>by
   have:=Uk (fun l:ac=>l[id]?) htk
   simp only [Ta hid] at this
   exact this
  have hlive:∀id,id<A.length->A'[id]?≠some .dead:=fun id hid e=>by
   rw [hold id hid,Rx hid] at e
   injection e with e
   have:=hall _ (RM hid)
   rw [e] at this; cases this
  have hge:∀id,A.length<=id->(List.replicate A.length Ent.dead++A'.drop A.length)[id]?=A'[id]?:=fun id hid=>by
   rw [RS (by simpa using hid)]
   simp only [TE,SQ]
   congr 1; omega
  have hin:∀id,id<A.length->(List.replicate A.length Ent.dead++A'.drop A.length)[id]?=some .dead:=fun id hid=>by
   rw [RC (by simpa using hid)]; simp [hid]
  have hnew:∀id inc,A.length<=id->A'[id]?≠some .dead->inc∈g' id->w.heap.size<=inc.b:=fun id inc hid hd hi=>by
   rcases hx.fresh id inc hi with ⟨id0,inc0,h0,h1⟩ | h1
   ·exfalso
    have hid0:id0<A.length:=by
     rcases Ti id0 A.length with h | h
     ·exact h
     ·rw [hA.out id0 h] at h0; cases h0
    obtain ⟨n',_,hm⟩:=hx.gle id0 inc0 h0
    have:=(hA'.one id id0 inc _ hd (hlive id0 hid0) hi hm h1.symm).1
    omega
   ·exact h1
  obtain ⟨OK2,hOK2⟩:∃OK2:Nat->Prop,∀b,OK2 b↔(OK' b\/∃id inc,A.length<=id/\A'[id]?≠some Ent.dead/\inc∈g' id/\inc.b=b):=⟨_,fun _=>Iff.rfl⟩
  obtain ⟨g2,hg2,hg2'⟩:∃g2:aC,(∀id,id<A.length->g2 id=g' id)/\∀id,A.length<=id->g2 id=[]:=
   ⟨fun id=>if id<A.length then g' id else [],fun id hid=>by simp [hid],fun id hid=>by simp [Nat.not_lt.2 hid]⟩
  have hlt2:∀id inc,inc∈g2 id->id<A.length:=fun id inc hi=>by
   rcases Ti id A.length with h | h
   ·exact h
   ·rw [hg2' id h] at hi; cases hi
  refine ⟨v,OK2,g2,rfl,?_,⟨fun id hid=>?_,hg2',fun id id' i i' hd hd' hi hi' e=>?_,fun id inc hi ho=>?_,fun id inc hi=>?_,fun b hb=>?_⟩,?_⟩
  ·have:=jh (OK2:=OK2) (hA'.killFirst A.length hlen) (fun b hb=>(hOK2 b).2 (.inl hb)) (fun id inc hd hi=>(hOK2 _).2 (.inr (by
    rcases Ti id A.length with h | h
    ·exact absurd (hin id h) hd
    ·rw [hge id h] at hd
     exact ⟨id,inc,h,hd,hi,rfl⟩))) n r0 v hv
   exact this.mono (fun _ h=>h) (fun _ _=>rfl) _ g2.none_le
  ·have h1:=hA'.ent id (by omega)
   have h2:=hold id hid
   rw [Rx hid,Rx (by omega)] at h2
   injection h2 with h2
   rw [h2] at h1
   rw [hg2 id hid]
   exact h1.noRef (hall _ (RM hid)) (fun b hb=>(hOK2 b).2 (.inl hb))
  ·have k1:=hlt2 _ _ hi
   have k2:=hlt2 _ _ hi'
   rw [hg2 _ k1] at hi
   rw [hg2 _ k2] at hi'
   exact hA'.one id id' i i' (hlive _ k1) (hlive _ k2) hi hi' e
  ·have k1:=hlt2 _ _ hi
   rw [hg2 _ k1] at hi
   rcases (hOK2 _).1 ho with h1 | ⟨id',inc',h1,h2,h3,h4⟩
   ·exact hA'.apart _ _ hi h1
   ·have:=(hA'.one id' id inc' inc h2 (hlive _ k1) h3 hi h4).1
    omega
  ·have k1:=hlt2 _ _ hi
   rw [hg2 _ k1] at hi
   exact hA'.low _ _ hi
  ·rcases (hOK2 _).1 hb with h1 | ⟨id',inc',h1,h2,h3,rfl⟩
   ·exact hA'.ok _ h1
   ·exact hA'.low _ _ h3
  ·refine {os:=hx.os,tape:=hx.tape,output:=hx.output,size:=hx.size,blk:=hx.blk,gle:=fun id inc hi=>?_,okle:=fun b hb=>(hOK2 b).2 (.inl (hx.okle b hb)),fresh:=fun id inc hi=>?_,okf:=fun b hb=>?_,loops:=hx.loops,fix:=fun id inc hi h0=>?_}
   ·have k:id<A.length:=by
     rcases Ti id A.length with h | h
     ·exact h
     ·rw [hA.out id h] at hi; cases hi
    rw [hg2 id k]
    exact hx.gle id inc hi
   ·have k1:=hlt2 _ _ hi
    rw [hg2 _ k1] at hi
    exact hx.fresh _ _ hi
   ·rcases (hOK2 _).1 hb with h1 | ⟨id',inc',h1,h2,h3,rfl⟩
    ·exact hx.okf _ h1
    ·exact .inr (hnew _ _ h1 h2 h3)
   ·have k:id<A.length:=by
     rcases Ti id A.length with h | h
     ·exact h
     ·rw [hA.out id h] at hi; cases hi
    rw [hg2 id k]
    exact hx.fix id inc hi h0
 ·cases he
end
section
variable {E:Env} {fuel:Nat} {a:MC} {mask:List Nat}
theorem tI (S:Nat->List AV) (B:Nat->ac) (N:Nat) (hc:∀i,clear mask (S i)=S i) (ho:∀ σ A,o≠.normal σ A)
  (hs:∀i,i<N->run E fuel [.code a] (S i) (B i)=some (.normal (S (i+1)) (B (i+1)))) (he:run E fuel [.code a] (S N) (B N)=some o) {m:Nat} (hm:N<m) :
  bM (evC E fuel a) mask m (S 0) (B 0)=some o:=by
 have key:∀k i m,i+k=N->k<m->bM (evC E fuel a) mask m (S i) (B i)=some o:=by
  intro k
  induction k with
  | zero=>
   intro i m hi hm
   obtain ⟨m,rfl⟩:∃j,m=j+1:=⟨m-1,by omega⟩
   obtain rfl:i=N:=by omega
   rw [aD,hc,he]
   cases o with
   | normal σ A=>exact absurd rfl (ho _ _)
   | exit _ _ _=>rfl
   | ret _ _=>rfl
  | succ k ih=>
   intro i m hi hm
   obtain ⟨m,rfl⟩:∃j,m=j+1:=⟨m-1,by omega⟩
   rw [aD,hc,hs i (by omega)]
   exact ih (i+1) m (by omega) (by omega)
 exact key N 0 m (by omega) hm
theorem cY (S:Nat->List AV) (B:Nat->ac) (n:Nat) (p:Nat->Prop) {oF:Nat->Out} {oE:Out} (hc:∀i,clear mask (S i)=S i) (hF:∀i σ A,oF i≠.normal σ A) (hE:∀ σ A,oE≠.normal σ A)
  (hs:∀i,i<n->¬ p i->run E fuel [.code a] (S i) (B i)=some (.normal (S (i+1)) (B (i+1)))) (hf:∀i,i<n->p i->run E fuel [.code a] (S i) (B i)=some (oF i)) (he:run E fuel [.code a] (S n) (B n)=some oE) {m:Nat} (hm:n<m) :
  ((∃i,i<n/\p i/\(∀j,j<i->¬ p j)/\bM (evC E fuel a) mask m (S 0) (B 0)=some (oF i))\/((∀i,i<n->¬ p i)/\bM (evC E fuel a) mask m (S 0) (B 0)=some oE)):=by
 by_cases h:∃i,i<n/\p i
 ·obtain ⟨i,⟨hi,hp⟩,hmin⟩:∃i,(i<n/\p i)/\∀j,j<i->¬ (j<n/\p j):=by
   obtain ⟨i,hi⟩:=h
   induction i using Nat.strongRecOn with
   | ind i ih=>
    by_cases hj:∃j,j<i/\(j<n/\p j)
    ·obtain ⟨j,hj,hp⟩:=hj
     exact ih j hj hp
    ·exact ⟨i,hi,fun j h hp=>hj ⟨j,h,hp⟩⟩
  have hmin':∀j,j<i->¬ p j:=fun j hj hp=>hmin j hj ⟨by omega,hp⟩
  exact .inl ⟨i,hi,hp,hmin',tI S B i hc (hF i) (fun j hj=>hs j (by omega) (hmin' j hj)) (hf i hi hp) (by omega)⟩
 ·have h':∀i,i<n->¬ p i:=fun i hi hp=>h ⟨i,hi,hp⟩
  exact .inr ⟨h',tI S B n hc hE (fun j hj=>hs j hj (h' j hj)) he hm⟩
end
def slA (esz:Nat) (es:List AV):AV:=match es with | []=>.nilS | _ :: _=>.fs esz es
section
variable {A:ac} {esz bytes:Nat} {es:List AV}
theorem ba (esz:Nat) (es:List AV):SlA esz es (slA esz es):=by
 cases es with
 | nil=>exact .inl ⟨rfl,rfl⟩
 | cons x r=>exact .inr rfl
end
open Classical in
def D7:AV->Option Int
 | .int .i64 z=>if inI z then some z else none
 | _=>none
def xd {α:Type} (f:AV->Option α):List AV->Option (List α)
 | []=>some []
 | x :: r=>match f x,xd f r with
  | some y,some l=>some (y :: l)
  | _,_=>none
def uG {α:Type} (f:AV->Option α):AV->Option (List α)
 | .nilS=>some []
 | .fs 1 es=>if es.length<=9223372036854775807 then xd f es else none
 | _=>none
def n8 (a:AV):Option (List Int):=uG D7 a
theorem nl {α:Type} {f:AV->Option α}:∀ {es:List AV} {xs:List α},xd f es=some xs->es.length=xs.length/\∀i (h:i<es.length) (h':i<xs.length),f es[i]=some xs[i]
 | [],xs,h=>by injection h with h; subst h; exact ⟨rfl,fun i h=>by cases h⟩
 | x :: r,xs,h=>by
  unfold xd at h
  split at h
  ·rename_i y l h1 h2
   injection h with h; subst h
   obtain ⟨k1,k2⟩:=nl (es:=r) h2
   refine ⟨by simp [k1],fun i h h'=>?_⟩
   cases i with
   | zero=>exact h1
   | succ i=>exact k2 i (by simpa using h) (by simpa using h')
  ·cases h
theorem qV {α:Type} {f:AV->Option α} {c:α->AV}:∀ {xs:List α},(∀x∈xs,f (c x)=some x)->xd f (xs.map c)=some xs
 | [],_=>rfl
 | x :: r,h=>by
  simp only [SG,xd,h x (by simp),qV (xs:=r) (fun y hy=>h y (by simp [hy]))]
theorem AL {α:Type} {f:AV->Option α} {xs:List α} (h:uG f a=some xs):∃es,SlA 1 es a/\es.length=xs.length/\(∀i (h:i<es.length) (h':i<xs.length),f es[i]=some xs[i])/\xs.length<=9223372036854775807:=by
 unfold uG at h
 split at h
 ·injection h with h; subst h
  exact ⟨[],.inl ⟨rfl,rfl⟩,rfl,fun i h=>(by cases h),by simp⟩
 ·rename_i es
  simp only [Ry] at h
  obtain ⟨k1,k2⟩:=nl h.2
  exact ⟨es,.inr rfl,k1,k2,by omega⟩
 ·cases h
theorem AM {α:Type} {f:AV->Option α} {c:α->AV} {xs:List α} (h:SlA 1 (xs.map c) a) (hl:xs.length<=9223372036854775807) (hc:∀x∈xs,f (c x)=some x):uG f a=some xs:=by
 rcases h with ⟨rfl,h2⟩ | rfl
 ·have:xs=[]:=by simpa using h2
  subst this; rfl
 ·simp only [uG,RN]
  rw [RH hl]
  exact qV hc
theorem sB (h:D7 a=some z):a=.int .i64 z/\inI z:=by
 unfold D7 at h
 split at h
 ·simp only [Ry,Rz] at h
  obtain ⟨h1,rfl⟩:=h
  exact ⟨rfl,h1⟩
 ·cases h
theorem AY (h:inI z):D7 (.int .i64 z)=some z:=RH h
theorem kH (h:n8 a=some xs):SlA 1 (xs.map (.int .i64)) a/\(∀z∈xs,inI z)/\xs.length<=9223372036854775807:=by
 obtain ⟨es,h1,h2,h3,h4⟩:=AL h
 have:es=xs.map (.int .i64):=SO (by simpa using h2) fun i k1 k2=>by
  rw [(sB (h3 i k1 (by simpa using k2))).1]; simp
 refine ⟨this ▸ h1,fun z hz=>?_,h4⟩
 obtain ⟨i,hi,rfl⟩:=SD.1 hz
 exact (sB (h3 i (by omega) hi)).2
theorem uJ (h:SlA 1 (xs.map (.int .i64)) a) (hl:xs.length<=9223372036854775807) (hr:∀z∈xs,inI z):n8 a=some xs:=AM h hl fun x hx=>AY (hr x hx)
theorem least {p:Nat->Prop} (h:∃i,p i):∃i,p i/\∀j,j<i->¬ p j:=by
 obtain ⟨i,hi⟩:=h
 induction i using Nat.strongRecOn with
 | ind i ih=>
  by_cases hj:∃j,j<i/\p j
  ·obtain ⟨j,hj,hp⟩:=hj
   exact ih j hj hp
  ·exact ⟨i,hi,fun j h hp=>hj ⟨j,h,hp⟩⟩
theorem a9 (a b:Nat) (k:IntKind):ag .lss (.int k (a:Int)) (.int k (b:Int))=some (.bool (decide (a<b))):=by
 simp [ag]
theorem aV (a:Nat) (h:a<9223372036854775807):ag .add (.int .i64 (a:Int)) (.int .i64 1)=some (.int .i64 ((a+1:Nat):Int)):=by
 have:IntKind.i64.wrap ((a:Int)+1)=((a+1:Nat):Int):=by rw [eV (by unfold inI; omega)]; omega
 simp only [ag]
 rw [RH trivial,this]
section
variable {P:Program} {G:Nat->Option (List AV)}
theorem au.kill {M:aJ} (h:au P G f M):au P G f (fun hd args A=>(M hd args A).map fun x=>(x.1,x.2.set A.length .dead)):=
 ⟨h.1,fun ys hd hs args A r A' he w OK g vs hA hI hl=>by
  simp only [RJ,RQ] at he
  obtain ⟨⟨r0,A0⟩,h1,rfl,rfl⟩:=he
  refine (h.2 ys hd hs args A r0 A0 h1 w OK g vs hA hI hl).mono ?_
  rintro e w' ⟨v,OK',g',rfl,k1,k2,k3⟩
  exact ⟨v,OK',g',rfl,k1,k2.kill _,k3⟩⟩
end
def bo (A:ac):Nat->AV->Bool
 | _,.bool _=>true
 | _,.int ..=>true
 | _,.str _=>true
 | _,.nilS=>true
 | _,.nilP=>true
 | _,.nilM=>true
 | _,.nilF=>true
 | _,.nilI=>true
 | n+1,.agg cs=>cs.all (bo A n)
 | n+1,.tup cs=>cs.all (bo A n)
 | n+1,.iface _ v=>bo A n v
 | n+1,.sl id off len=>match A[id]? with
  | some (.row _ _ es)=>((es.drop off).take len).all (bo A n)
  | _=>false
 | n+1,.ptr id i o=>match A[id]? with
  | some (.row _ _ es)=>match es[i]? with
   | some e=>e.solid && decide (o<(cellsOf e).length) && (cellsOf e).all (bo A n)
   | none=>false
  | _=>false
 | _,_=>false
section
variable {P:Program} {G:Nat->Option (List AV)}
theorem wW {w:World} {OK:Nat->Prop} (hA:cq w OK g A) (h2:∀id inc,A[id]?≠some .dead->inc∈g id->OK2 inc.b):∀(n:Nat) (a:AV) (v:Value),bo A n a=true->aW w OK g v a->aW w OK2 aC.none v (frz A n a):=by
 intro n
 induction n with
 | zero=>
  intro a v hs h
  cases a <;> simp only [bo,Sc] at hs <;> simp only [frz] <;> first
   | (have e:=h.inv_bool; rw [e]; exact .bool _ _)
   | (have e:=h.inv_int; rw [e]; exact .int _ _ _)
   | (obtain ⟨s,e,hs⟩:=h.inv_str; rw [e]; exact .str _ _ _ hs)
   | (obtain ⟨p,e⟩:=h.inv_nilS; rw [e]; exact .nilS _ _)
   | (have e:=h.inv_nilP; rw [e]; exact .nilP _)
   | (have e:=h.inv_nilM; rw [e]; exact .nilM _)
   | (cases h; exact .nilF _)
   | (cases h; exact .nilI _)
 | succ n ih=>
  intro a v hs h
  cases a <;> simp only [bo,Sc] at hs <;> simp only [frz] <;> try first
   | (have e:=h.inv_bool; rw [e]; exact .bool _ _)
   | (have e:=h.inv_int; rw [e]; exact .int _ _ _)
   | (obtain ⟨s,e,hs⟩:=h.inv_str; rw [e]; exact .str _ _ _ hs)
   | (obtain ⟨p,e⟩:=h.inv_nilS; rw [e]; exact .nilS _ _)
   | (have e:=h.inv_nilP; rw [e]; exact .nilP _)
   | (have e:=h.inv_nilM; rw [e]; exact .nilM _)
   | (cases h; exact .nilF _)
   | (cases h; exact .nilI _)
  case sl id off len=>
   split at hs
   ·rename_i s gr es hid
    try simp only [hid]
    rw [RZ] at hs
    obtain ⟨inc,cap,ao,hinc,rfl,hl,hn,hcap,ha⟩:=h.inv_sl
    obtain ⟨hlt',hrow⟩:=Rv.1 hid
    have hent:=hA.ent id hlt'
    rw [hrow] at hent
    obtain ⟨hesz,hne,hnc,c,T,fz,hh,hu,hcs,hel⟩:=hent.2 inc hinc
    have hlen:(((es.drop off).take len).map (frz A n)).length=len:=by simp; omega
    obtain ⟨vals,hvals⟩:∃vals:Nat->Value,∀i (hi:i<len),aW w OK g (vals i) (es[off+i]'(by omega))/\(vals i).cells.size=s/\cF (vals i)/\∀j,j<s->c[inc.o+(off+i)*s+j]?=(vals i).cells[j]?:=
     ⟨fun i=>if hi:i<len then (hel (off+i) (by omega) (by omega)).choose else undef,fun i hi=>by simp only [hi,UO]; exact (hel (off+i) (by omega) (by omega)).choose_spec⟩
    have hmem:∀i (hi:i<len),es[off+i]'(by omega)∈(es.drop off).take len:=fun i hi=>by
     refine SD.2 ⟨i,by simp; omega,?_⟩
     simp
    have:=aW.fs (w:=w) (OK:=OK2) aC.none inc.b ao cap s T c fz (((es.drop off).take len).map (frz A n)) vals (h2 id inc (by rw [hid]; simp) hinc) hh (by omega)
     (fun i hi=>by simp only [SA,SN,SF]; exact ih _ _ (hs _ (hmem i (by omega))) (hvals i (by omega)).1)
     (fun i hi=>⟨(hvals i (by omega)).2.1,(hvals i (by omega)).2.2.1⟩)
     (fun i hi j hj=>by
      rw [<-(hvals i (by omega)).2.2.2 j hj,ha (by omega),hesz]
      congr 1; rw [RY]; omega)
    rwa [hlen] at this
   ·cases hs
  case ptr id i o=>
   split at hs
   ·rename_i s gr es hid
    split at hs
    ·rename_i e he
     simp only [Sd,Sr] at hs
     obtain ⟨⟨hsol,ho⟩,hall⟩:=hs
     rw [RZ] at hall
     try simp only [hid,he]
     rw [RH ⟨hsol,ho⟩]
     obtain ⟨inc,hinc,rfl,hn,ho'⟩:=h.inv_ptr
     obtain ⟨hlt',hrow⟩:=Rv.1 hid
     obtain ⟨hi',rfl⟩:=Rv.1 he
     have hent:=hA.ent id hlt'
     rw [hrow] at hent
     obtain ⟨hesz,hne,hnc,c,T,fz,hh,hu,hcs,hel⟩:=hent.2 inc hinc
     obtain ⟨v,hv,hvs,hok,hc⟩:=hel i hi' hn
     obtain ⟨k1,k2,k3⟩:=hv.cells hsol
     obtain ⟨f,hf⟩:∃f:Nat->Value,∀j (hj:j<(cellsOf es[i]).length),v.cells[j]?=some (f j)/\(f j).oneCell'=true/\aW w OK g (f j) (cellsOf es[i])[j]:=
      ⟨fun j=>(v.cells[j]?).getD undef,fun j hj=>by
       obtain ⟨x,a1,a2,a3⟩:=k3 j hj
       simp only [a1,Sq]
       exact ⟨trivial,a2,a3⟩⟩
     refine .fp _ inc.b _ T c fz _ (fun j=>f (o+j)) (h2 id inc (by rw [hid]; simp) hinc) hh (by rw [RN,TX]; omega) (fun j hj=>?_) (fun j hj=>?_)
     ·simp only [SA,SF]
      have hj':o+j<(cellsOf es[i]).length:=by rw [RN,TX] at hj; omega
      exact ih _ _ (hall _ (RM _)) (hf (o+j) hj').2.2
     ·have hj':o+j<(cellsOf es[i]).length:=by rw [RN,TX] at hj; omega
      refine ⟨?_,(hf (o+j) hj').2.1⟩
      rw [hesz,TB,hc (o+j) (by omega)]
      exact (hf (o+j) hj').1
    ·cases hs
   ·cases hs
  case agg cs=>
   rw [RZ] at hs
   obtain ⟨vs,vals,rfl,hl,hg,hv⟩:=h.inv_agg
   exact .agg _ vs _ (by simpa using hl) vals (fun i hi=>hg i (by simpa using hi)) (fun i hi=>by simp only [SA]; exact ih _ _ (hs _ (RM _)) (hv i (by simpa using hi)))
  case tup cs=>
   rw [RZ] at hs
   obtain ⟨vs,vals,rfl,hl,hg,hv⟩:=h.inv_tup
   exact .tup _ vs _ (by simpa using hl) vals (fun i hi=>hg i (by simpa using hi)) (fun i hi=>by simp only [SA]; exact ih _ _ (hs _ (RM _)) (hv i (by simpa using hi)))
  case iface t x=>
   cases h with
   | iface _ t v a hv=>exact .iface _ t v _ (ih _ _ hs hv)
def cm (P:Program) (G:Nat->Option (List AV)) (f:FuncId) (M:aU):Prop:=
 Enters P f/\∀args r,M args=some r->∀(w:World) (OK:Nat->Prop) (vs:List Value),(∀b,OK b->b<w.heap.size)->Gm G w OK->bS w OK aC.none vs args ->
  Calls P f vs.toArray w fun e w'=>∃v OK',e=.returned v/\aW w' (fun b=>OK' b/\w.heap.size<=b) aC.none v r/\(∀b,OK' b->b<w'.heap.size)/\Ext w OK aC.none w' OK' aC.none
def DJ (n:Nat) (M:aU):vM:=fun args A=>(M (args.map (frz A n))).map fun r=>(r,A)
def cJ (n:Nat) (M:aU):aJ:=fun _=>DJ n M
theorem eJ.of_pureF {M:aU} (h:cm P G f M) (n:Nat):eJ P G f (DJ n M):=by
 refine ⟨h.1,?_⟩
 intro args A r A' he w OK g vs hA hG hl
 unfold DJ at he
 rw [RJ] at he
 obtain ⟨r0,hM,he⟩:=he
 injection he with e1 e2
 subst e1; subst e2
 have hok2:∀b,(OK b\/∃id inc,inc∈g id/\inc.b=b)->b<w.heap.size:=fun b hb=>by
  rcases hb with hb | ⟨id,inc,hi,rfl⟩
  ·exact hA.ok b hb
  ·exact hA.low id inc hi
 have hl2:bS w (fun b=>OK b\/∃id inc,inc∈g id/\inc.b=b) aC.none vs (args.map (frz A n)):=hl.map fun v a _ hv=>jh hA (fun b hb=>Or.inl hb) (fun id inc _ hi=>Or.inr ⟨id,inc,hi,rfl⟩) n a v hv
 refine (h.2 _ _ hM w (fun b=>OK b\/∃id inc,inc∈g id/\inc.b=b) vs hok2 (fun gl cs hg=>(hG gl cs hg).mono (fun b hb=>.inl hb) (fun _ _=>rfl) _ (aC.le_refl _)) hl2).mono ?_
 rintro e w' ⟨v,OK',rfl,hv,hok',hx⟩
 have hb:∀b,b<w.heap.size->w'.heap[b]?=w.heap[b]?:=fun b hb=>hx.blk b hb (fun _ _ (hi:_∈[])=>by cases hi)
 have hok3:∀b,(OK b\/(OK' b/\w.heap.size<=b))->b<w'.heap.size:=fun b hb=>by
  rcases hb with hb | hb
  ·exact S3 (hA.ok b hb) hx.size
  ·exact hok' b hb.1
 have hv2:aW w' (fun b=>OK b\/(OK' b/\w.heap.size<=b)) aC.none v r0:=hv.mono (fun _ h=>.inr h) (fun _ _=>rfl) _ (aC.le_refl _)
 exact ⟨v,fun b=>OK b\/(OK' b/\w.heap.size<=b),g,rfl,hv2.none_to,
  hA.keep hx.size hb (fun b=>OK b\/(OK' b/\w.heap.size<=b)) (fun _ h=>.inl h) (fun _ h=>h.elim .inl fun h=>.inr h.2) hok3,
  hx.os,hx.tape,hx.output,hx.size,fun b hb' _=>hb b hb',g.le_refl,fun _ h=>.inl h,fun id inc hi=>.inl ⟨id,inc,hi,rfl⟩,fun _ h=>h.elim .inl fun h=>.inr h.2,hx.loops,fun _ _ _ _=>rfl⟩
theorem au.of_pureF {M:aU} (h:cm P G f M) (n:Nat):au P G f (cJ n M):=(eJ.of_pureF h n).y
def evF (E:Env) (fuel:Nat) (mf:cI) (n:Nat) (args:List AV):Option AV:=(cc E fuel mf args []).bind fun x=>if bo x.2 n x.1=true then some (frz x.2 n x.1) else none
theorem gI (mf:cI) (args:List AV) (h:args.length=mf.n):evF E fuel mf n args=match run E fuel [.code mf.mc] (args++List.replicate (mf.len-mf.n) .undef) [] with
  | some (.normal σ A')=>(iP A' σ mf.res).bind fun l=>if bo A' n (dE l)=true then some (frz A' n (dE l)) else none
  | some (.ret σ A')=>(iP A' σ mf.res).bind fun l=>if bo A' n (dE l)=true then some (frz A' n (dE l)) else none
  | _=>none:=by
 unfold evF
 rw [bh mf args h]
 cases run E fuel [.code mf.mc] (args++List.replicate (mf.len-mf.n) .undef) [] with
 | none=>rfl
 | some o=>cases o with
  | normal σ A=>cases h1:iP A σ mf.res with
   | none=>simp [h1]
   | some l=>simp only [h1,Ss,Sn]
  | exit id σ A=>rfl
  | ret σ A=>cases h1:iP A σ mf.res with
   | none=>simp [h1]
   | some l=>simp only [h1,Ss,Sn]
theorem cm.of_ev {fn:Func} {k:Nat} {mf:cI} (hE:dj P E) (hys:E.ys=[]) (hf:P.funcs[f]?=some fn) (hc:aH P fn k vs pu on hints=some mf) (n:Nat) {M:aU}
  (hM:∀args r,M args=some r->∃fuel,evF E fuel mf n args=some r) (hpu:bG E pu:=by first | exact bG.nil | (repeat (first | exact bG.nil | refine bG.cons (M:=_) rfl ?_))):cm P E.glob f M:=by
 refine ⟨(b7 (fuel:=0) hE hys hf hc hpu).1,?_⟩
 intro args r he w OK vs hok hG hl
 obtain ⟨fuel,h⟩:=hM args r he
 unfold evF at h
 rw [RG] at h
 obtain ⟨⟨r0,A'⟩,h1,h⟩:=h
 simp only [Ry,Rz] at h
 obtain ⟨hf2,rfl⟩:=h
 refine ((b7 (fuel:=fuel) hE hys hf hc hpu).2 _ _ _ _ h1 w OK aC.none vs (cq.nil hok) hG hl).mono ?_
 rintro e w' ⟨v,OK',g',rfl,hv,hA,hx⟩
 have hfr:∀id inc,inc∈g' id->w.heap.size<=inc.b:=fun id inc hi=>by
  rcases hx.fresh id inc hi with ⟨_,_,h0,_⟩ | h1
  ·cases h0
  ·exact h1
 refine ⟨v,fun b=>OK' b\/∃id inc,inc∈g' id/\inc.b=b,rfl,wW hA (fun id inc _ hi=>⟨.inr ⟨id,inc,hi,rfl⟩,hfr id inc hi⟩) n r0 v hf2 hv,?_,?_⟩
 ·rintro b (hb | ⟨id,inc,hi,rfl⟩)
  ·exact hA.ok b hb
  ·exact hA.low id inc hi
 ·refine ⟨hx.os,hx.tape,hx.output,hx.size,hx.blk,aC.le_refl _,fun b hb=>.inl (hx.okle b hb),fun _ _ (hi:_∈[])=>(by cases hi),?_,hx.loops,fun _ _ _ _=>rfl⟩
  rintro b (hb | ⟨id,inc,hi,rfl⟩)
  ·exact hx.okf b hb
  ·exact .inr (hfr id inc hi)
end
@[simp] theorem JP (n:Nat) (M:aU) (h:be) (args:List AV) (A:ac):cJ n M h args A=(M (args.map (frz A n))).map fun r=>(r,A):=rfl
namespace Cy
def DS:cI:=⟨2,4,.seq (.region [.f 2 0]) (.seq (.seq (.region [.a 0,.ac 3 0 0]) (.cond (.var 3) (.region [.a 0,.i 0 1,.bn 1,.c 0 2]) .skip)) (.seq (.region [.a 0,.a 1,.cx 0 1,.c 2 2]) .ret)),[.tmp 2]⟩
theorem BZ:aH Try.prog Try.f21 2 [0,1,4,6] [] true ([],[])=some DS:=by kernel_rfl
theorem Qd:Try.prog.funcs[21]?=some Try.f21:=by kernel_rfl
def mY:cI:=⟨3,12,.seq (.region [.w 3,.w 4,.g 5]) (.seq (.region [.a 0,.a 1,.a 2,.P 73 0 1 2,.h 3,.j 4 0,.j 4 1,.c 6 5,.c 7 6]) (.seq (.seq (.region [.a 7,.V 10 0]) (.cond (.var 10) (.seq (.region [.w 3,.w 4,.g 5]) .ret) .skip)) (.seq (.seq (.region [.a 6,.J 74 0,.h 1,.j 2 0,.j 2 1,.c 8 3,.c 9 4]) (.seq (.region [.ai 11 9]) (.cond (.var 11) (.seq (.region [.a 8,.c 3 0,.w 4,.I 5]) .ret) .skip))) (.seq (.region [.a 6,.J 76 0,.w 3,.c 4 1,.g 5]) .ret)))),[.tmp 3,.tmp 4,.tmp 5]⟩
theorem mK:aH Try.prog Try.f46 3 [0,1,2,6,7,8,9,10,11,12,21,27] [] true ([],[])=some mY:=by kernel_rfl
theorem Er:Try.prog.funcs[46]?=some Try.f46:=by kernel_rfl
def si:cI:=⟨2,5,.seq (.region [.D 2 0,.g 3]) (.seq (.region [.qn (.makeFunc (.func 96) [] [.var 2]),.c 4 0]) (.seq (.region [.t 1 2,.qn (.call (.fn 88) [.tmp 0,.cst (.int .i64 1),.cst (.int .i64 32)]),.h 1,.k 1 2,.aa 3 2,.qt (.bin .leq (.tmp 4) (.cst (.int .i64 200))) 2,.p 2 5,.h 6,.k 1 7,.k 4 7,.ba 97 8 9 7,.a1 10 7,.p 7 11,.c 3 12]) .ret)),[.tmp 3]⟩
theorem vu:aH Try.prog Try.f89 2 [0,1,2,4,5] [] true ([],[])=some si:=by kernel_rfl
theorem LD:Try.prog.funcs[89]?=some Try.f89:=by kernel_rfl
def vU:cI:=⟨4,8,.seq (.region [.g 4]) (.seq (.region [.a 0,.a 1,.a 2,.P 73 0 1 2,.h 3,.j 4 0,.j 4 1,.c 5 5,.c 6 6]) (.seq (.region [.qs 7 (.mv (.fn 94))]) (.seq (.region [.a 6,.h 0,.k 3 1,.aa 2 1,.k 0 1,.br 3 4 1,.p 1 5,.h 6,.k 3 7,.k 7 7,.ba 51 8 9 7,.a1 10 7,.p 7 11,.h 12,.k 5 13,.k 3 13,.qt (.call (.fn 40) [.tmp 15]) 13,.ba 90 14 16 13,.a1 17 13,.p 13 18,.c 4 19]) .ret))),[.tmp 4]⟩
theorem vt:aH Try.prog Try.f77 4 [0,1,2,3,8,9,10,11] [] true ([],[])=some vU:=by kernel_rfl
theorem LC:Try.prog.funcs[77]?=some Try.f77:=by kernel_rfl
def IN:cI:=⟨4,9,.seq (.region [.g 4]) (.seq (.region [.a 0,.a 1,.a 2,.P 73 0 1 2,.h 3,.j 4 0,.j 4 1,.c 5 5,.c 6 6]) (.seq (.seq (.region [.a 6,.V 8 0]) (.cond (.var 8) (.seq (.region [.g 4]) .ret) .skip)) (.seq (.region [.a 5,.a 3,.E 75 0 1,.h 2,.j 3 0,.j 3 1,.j 3 2,.c 7 4,.h 5,.c 6 6]) (.seq (.region [.a 6,.h 0,.k 7 1,.bw 2 0 1,.p 1 3,.c 4 4]) .ret)))),[.tmp 4]⟩
theorem FK:aH Try.prog Try.f78 4 [0,1,2,3,8,9,10,11,21] [] true ([],[])=some IN:=by kernel_rfl
theorem Ro:Try.prog.funcs[78]?=some Try.f78:=by kernel_rfl
def gQ:MC:=.seq (.seq (.region [.a 6,.a 3,.a6 13 0 1]) (.cond (.var 13) .skip (.exit 0))) (.seq (.block 1 (.seq (.region [.a 0,.a 1,.a 6,.P 73 0 1 2,.h 3,.j 4 0,.j 4 1,.c 7 5,.c 8 6]) (.seq (.seq (.region [.a 8,.V 14 0]) (.cond (.var 14) (.exit 0) .skip)) (.seq (.seq (.region [.a 7,.J 74 0,.h 1,.j 2 0,.j 2 1,.h 3,.c 9 4]) (.seq (.region [.ai 15 9]) (.cond (.var 15) (.seq (.region [.a 6,.c 4 0,.I 5]) .ret) .skip))) (.seq (.region [.a 7,.a 7,.J 76 1,.E 75 0 2,.h 3,.j 4 0,.j 4 1,.j 4 2,.c 10 5,.c 11 6,.h 7]) (.seq (.seq (.region [.a 11,.qs 16 (.bin .leq (.tmp 0) (.cst (.int .i64 0)))]) (.cond (.var 16) (.exit 0) .skip)) (.region [.a 6,.a 10,.a 11,.o 1 2,.s 3 1,.a 11,.qn (.bin .quo (.tmp 4) (.tmp 5)),.o 0 6,.c 6 7]))))))) (.kill [2,4,5,7,8,9,10,11,12,13,14,15,16]))
def JY:cI:=⟨4,17,.seq (.region [.f 4 0,.g 5]) (.scope (.seq (.seq (.region [.a 3,.J 72 0,.V 12 1]) (.cond (.var 12) (.seq (.region [.f 4 0,.g 5]) .ret) .skip)) (.seq (.region [.a 2,.c 6 0]) (.seq .skip (.seq (.seq (.block 0 (.loop [2,4,5,7,8,9,10,11,12,13,14,15,16] gQ)) (.kill [0,1,2,3,4,5,6,7,8,9,10,11,12,13,14,15,16])) (.seq (.region [.f 4 0,.g 5]) .ret)))))),[.tmp 4,.tmp 5]⟩
def jG:List Nat:=[2,4,5,7,8,9,10,11,12,13,14,15,16]
abbrev pK (v0 v1 v3 v6:AV):List AV:=[v0,v1,.undef,v3,.undef,.undef,v6,.undef,.undef,.undef,.undef,.undef,.undef,.undef,.undef,.undef,.undef]
theorem Cp:clear jG [v0,v1,d2,v3,d4,d5,v6,d7,d8,d9,d10,d11,d12,d13,d14,d15,d16]=pK v0 v1 v3 v6:=rfl
theorem Bh {k:List KC} (h:bM (evC E fuel gQ) jG fuel (pK v0 v1 v3 v6) A=some o) :
  run E fuel (.code (.loop [2,4,5,7,8,9,10,11,12,13,14,15,16] gQ) :: k) [v0,v1,d2,v3,d4,d5,v6,d7,d8,d9,d10,d11,d12,d13,d14,d15,d16] A=after E fuel k o:=aQ jG _ _ (by rw [Cp]; exact h)
theorem Lj:aH Try.prog Try.f45 4 [0,1,2,3,8,9,10,11,12,14,15,16,20,24,33,39,50] [] true ([[2,4,5,7,8,9,10,11,12,13,14,15,16]],[[2,4,5,7,8,9,10,11,12,13,14,15,16],[0,1,2,3,4,5,6,7,8,9,10,11,12,13,14,15,16]])=some JY:=by kernel_rfl
theorem at23:Try.prog.funcs[45]?=some Try.f45:=by kernel_rfl
def nU:MC:=.seq (.region [.B 13 12 11]) (.seq (.cond (.var 13) .skip (.exit 0)) (.seq (.seq (.block 1 (.seq (.region [.a 12,.M 4 10 12,.K 4 1,.bf 7 4,.c 6 0,.r 4 7 2]) (.seq (.region [.l 4 7,.a 6,.d 2 7,.b 1 2,.a 2,.d 3 7,.b 1 5,.cy 4 6,.ap 3 7,.a2 0 1 8,.z 8 6,.r 6 8 9]) (.seq (.region [.a 5,.a 5,.R 1,.m 1 2,.b 1 3,.l 6 8,.ct 5,.cf 6 4 6,.R 0,.m 1 8,.A 1 9 7]) (.regionD [] [.a 5,.R 0,.m 2 1,.b 1 2,.d 0 7,.b 1 4,.a 5,.R 6,.m 2 7,.b 1 8,.d 0 7,.b 1 10,.e 1 9 11,.b 1 12,.l 6 8,.ct 14,.cf 6 13 15,.e 1 3 5,.A 1 17 16] [(2,16),(3,16),(4,16),(5,16)]))))) (.kill [0,1,3,4,6,7,8,9,13])) (.region [.u 12 1,.c 12 0])))
def De:cI:=⟨3,14,.seq (.region [.qs 3 (.mv (.cst .nilP)),.g 4]) (.seq (.seq (.region [.a 0,.a 1,.E 89 0 1,.W 2,.h 3,.n 2 4,.qf (.call (.fn 72) [.tmp 5]) 4,.H 6 4,.C 9 4 7]) (.cond (.var 9) (.seq (.region [.qs 3 (.mv (.cst .nilP)),.g 4]) .ret) .skip)) (.seq (.region [.a 0,.a 0,.qn (.makeSlice 1 24 .nilS (.tmp 1) (.tmp 1)),.qn (.build [.int .i64 0,.nilS,.nilS] [(0,(1,.tmp 0)),(2,(1,.tmp 2))]),.qn (.box (.tmp 3)),.c 5 4]) (.seq (.seq (.region [.ai 10 1,.ab 11 10,.f 12 0]) (.seq (.block 0 (.loop [0,1,3,4,6,7,8,9,13] nU)) (.kill [0,1,2,3,4,6,7,8,9,10,11,12,13]))) (.seq (.region [.a 5,.c 3 0,.I 4]) .ret)))),[.tmp 3,.tmp 4]⟩
def lO:List Nat:=[0,1,3,4,6,7,8,9,13]
abbrev nH (v2 v5 v10 v11 v12:AV):List AV:=[.undef,.undef,v2,.undef,.undef,v5,.undef,.undef,.undef,.undef,v10,v11,v12,.undef]
theorem F0:clear lO [d0,d1,v2,d3,d4,v5,d6,d7,d8,d9,v10,v11,v12,d13]=nH v2 v5 v10 v11 v12:=rfl
theorem Kt {k:List KC} (h:bM (evC E fuel nU) lO fuel (nH v2 v5 v10 v11 v12) A=some o) :
  run E fuel (.code (.loop [0,1,3,4,6,7,8,9,13] nU) :: k) [d0,d1,v2,d3,d4,v5,d6,d7,d8,d9,v10,v11,v12,d13] A=after E fuel k o:=aQ lO _ _ (by rw [F0]; exact h)
theorem BX:aH Try.prog Try.f73 3 [0,1,2,6,7,8,9,10,11,20,26,27,28,29] [] true ([[0,1,3,4,6,7,8,9,13]],[[0,1,3,4,6,7,8,9,13],[0,1,2,3,4,6,7,8,9,10,11,12,13]])=some De:=by kernel_rfl
theorem Qb:Try.prog.funcs[73]?=some Try.f73:=by kernel_rfl
def qj:MC:=.seq (.region [.B 6 5 4]) (.seq (.cond (.var 6) .skip (.exit 0)) (.seq (.seq (.block 1 (.seq (.region [.a 0,.a 3,.E 90 0 1,.V 7 2]) (.cond (.var 7) (.seq (.region [.a 3,.c 1 0,.I 2]) .ret) .skip))) (.kill [1,2,6,7])) (.region [.u 5 1,.c 5 0])))
def uC:cI:=⟨1,8,.seq (.region [.w 1,.g 2]) (.seq (.region [.a 0,.R 0,.m 0 1,.b 1 2,.al 3 3,.c 3 4]) (.seq (.seq (.region [.a 0,.R 0,.m 0 1,.bk 4 1 2,.f 5 0]) (.seq (.block 0 (.loop [1,2,6,7] qj)) (.kill [1,2,4,5,6,7]))) (.seq (.region [.a 3,.a 0,.a 3,.J 40 2,.E 90 1 3,.W 4,.c 1 0,.c 2 5]) .ret))),[.tmp 1,.tmp 2]⟩
def oU:List Nat:=[1,2,6,7]
abbrev rU (v0 v3 v4 v5:AV):List AV:=[v0,.undef,.undef,v3,v4,v5,.undef,.undef]
theorem FZ:clear oU [v0,d1,d2,v3,v4,v5,d6,d7]=rU v0 v3 v4 v5:=rfl
theorem Fp {k:List KC} (h:bM (evC E fuel qj) oU fuel (rU v0 v3 v4 v5) A=some o) :
  run E fuel (.code (.loop [1,2,6,7] qj) :: k) [v0,d1,d2,v3,v4,v5,d6,d7] A=after E fuel k o:=aQ oU _ _ (by rw [FZ]; exact h)
theorem vr:aH Try.prog Try.f74 1 [0,2,3,4,13,14,15,19] [] true ([[1,2,6,7]],[[1,2,6,7],[1,2,4,5,6,7]])=some uC:=by kernel_rfl
theorem LB:Try.prog.funcs[74]?=some Try.f74:=by kernel_rfl
def eY:MC:=.seq (.region [.z 4 6,.cr 6 4 10]) (.region [.ai 5 11])
def ki:MC:=.seq (.block 3 (.seq (.region [.t 1 1,.l 6 4,.a 5,.t 1 3,.Q 93 0 1 2 3,.h 4,.j 5 0,.j 5 1,.c 6 6,.c 7 7]) (.seq (.region [.ai 12 7]) (.cond (.var 12) (.seq (.region [.a 6,.r 1 2 0]) .ret) .skip)))) (.kill [0,1,2,3,4,5,6,7,8,9,10,11,12,13])
def kh:MC:=.seq (.seq (.region [.t 1 3,.t 1 1,.R 1,.m 0 2,.b 1 3,.a6 8 0 4]) (.cond (.var 8) .skip (.exit 0))) (.seq (.seq (.block 1 (.seq (.region [.t 1 1,.t 1 3,.qs 9 (.call (.fn 92) [.tmp 0,.tmp 1])]) (.seq (.block 2 (.rangeFunc (.var 9) [10,11] eY ki)) (.kill [0,4,5,6,7,8,9,10,11,12,13])))) (.kill [0,4,5,6,7,8,9,10,11,12,13])) (.seq (.seq (.region [.cd 13 1 3]) (.region [.a4 3 1,.cr 1 3 13])) (.region [.t 1 3,.i 0 1,.r 1 3 1])))
def DR:cI:=⟨1,14,.seq (.region [.D 1 0,.cs 2 1]) (.seq (.seq (.region [.a4 3 1,.cp 1 3 1]) (.seq (.block 0 (.loop [0,4,5,6,7,8,9,10,11,12,13] kh)) (.kill [0,1,3,4,5,6,7,8,9,10,11,12,13]))) (.seq (.region [.qn (.store 1 (.var 2) (.cst .nilS))]) .ret)),[.cell 2 false 1]⟩
def jE:List Nat:=[0,4,5,6,7,8,9,10,11,12,13]
abbrev jW (v1 v2 v3:AV):List AV:=[.undef,v1,v2,v3,.undef,.undef,.undef,.undef,.undef,.undef,.undef,.undef,.undef,.undef]
theorem Ck:clear jE [d0,v1,v2,v3,d4,d5,d6,d7,d8,d9,d10,d11,d12,d13]=jW v1 v2 v3:=rfl
theorem Bg {k:List KC} (h:bM (evC E fuel kh) jE fuel (jW v1 v2 v3) A=some o) :
  run E fuel (.code (.loop [0,4,5,6,7,8,9,10,11,12,13] kh) :: k) [d0,v1,v2,v3,d4,d5,d6,d7,d8,d9,d10,d11,d12,d13] A=after E fuel k o:=aQ jE _ _ (by rw [Ck]; exact h)
theorem BW:aH Try.prog Try.f76 1 [0,1,2,3,4,5,6,7,13,18,19,20,29,31] [] true ([[0,4,5,6,7,8,9,10,11,12,13]],[[0,1,2,3,4,5,6,7,8,9,10,11,12,13],[0,4,5,6,7,8,9,10,11,12,13],[0,4,5,6,7,8,9,10,11,12,13],[0,1,3,4,5,6,7,8,9,10,11,12,13]])=some DR:=by kernel_rfl
theorem Qa:Try.prog.funcs[76]?=some Try.f76:=by kernel_rfl
def DQ:cI:=⟨2,4,.seq (.region [.D 2 0,.g 3]) (.seq (.region [.d 0 2,.b 1 0,.t 1 1,.s 2 1,.am 88 1 3,.W 4,.h 5,.y 1 2 6,.q 1 7 6,.b1 1 1 6,.qf (.bin .sub (.tmp 9) (.cst (.int .i64 1))) 6,.bm 88 8 10 6,.H 11 6,.G 6 12,.h 13,.y 2 2 14,.q 1 15 14,.qf (.call (.fn 88) [.tmp 16,.cst (.int .i64 (-1000000)),.cst (.int .i64 1000000)]) 14,.H 17 14,.G 14 18,.h 19,.y 3 2 20,.q 1 21 20,.qf (.call (.fn 88) [.tmp 22,.cst (.int .i64 (-2)),.cst (.int .i64 2)]) 20,.H 23 20,.G 20 24,.c 3 25]) .ret),[.tmp 3]⟩
theorem BV:aH Try.prog Try.f96 2 [0,1,2,3] [] true ([],[])=some DQ:=by kernel_rfl
theorem P9:Try.prog.funcs[96]?=some Try.f96:=by kernel_rfl
def IM:cI:=⟨3,4,.seq (.region [.g 3]) (.seq (.region [.a 0,.a 1,.ck 0 1,.h 2,.k 0 3,.k 2 3,.bb 4 5 3,.p 3 6,.c 3 7]) .ret),[.tmp 3]⟩
theorem BU:aH Try.prog Try.f88 3 [0,1,2,6] [] true ([],[])=some IM:=by kernel_rfl
theorem P8:Try.prog.funcs[88]?=some Try.f88:=by kernel_rfl
def IL:cI:=⟨2,3,.seq (.region [.g 2]) (.seq (.region [.a 0,.a 1,.E 103 0 1,.X 2 0,.c 2 3]) .ret),[.tmp 2]⟩
theorem BS:aH Try.prog Try.f97 2 [0,1,4] [] true ([],[])=some IL:=by kernel_rfl
theorem P7:Try.prog.funcs[97]?=some Try.f97:=by kernel_rfl
def vT:cI:=⟨3,4,.seq (.region [.g 3]) (.seq (.region [.a 0,.a 1,.ck 0 1,.h 2,.k 0 3,.k 2 3,.bb 4 5 3,.p 3 6,.c 3 7]) .ret),[.tmp 3]⟩
theorem sP:aH Try.prog Try.f36 3 [0,1,2,6] [] true ([],[])=some vT:=by kernel_rfl
theorem IY:Try.prog.funcs[36]?=some Try.f36:=by kernel_rfl
def wF:cI:=⟨1,2,.seq (.region [.g 1]) (.seq (.region [.a 0,.qn (.call (.fn 88) [.tmp 0,.cst (.int .i64 0),.cst (.int .i64 1000000000)]),.W 1,.c 1 2]) .ret),[.tmp 1]⟩
theorem vq:aH Try.prog Try.f94 1 [0,2] [] true ([],[])=some wF:=by kernel_rfl
theorem LA:Try.prog.funcs[94]?=some Try.f94:=by kernel_rfl
def zC:cI:=⟨2,3,.seq (.region [.g 2]) (.seq (.region [.a 0,.a 1,.E 79 0 1,.X 2 0,.c 2 3]) .ret),[.tmp 2]⟩
theorem sO:aH Try.prog Try.f51 2 [0,1,4] [] true ([],[])=some zC:=by kernel_rfl
theorem IX:Try.prog.funcs[51]?=some Try.f51:=by kernel_rfl
def ex:MC:=.seq (.region [.B 8 7 6]) (.seq (.cond (.var 8) .skip (.exit 0)) (.seq (.seq (.block 1 (.seq (.region [.M 6 5 7,.K 6 0,.z 3 6,.r 6 3 1]) (.seq (.region [.a 1,.d 0 3,.m 0 1,.b 1 2,.e 1 0 3,.b 1 4,.d 5 3,.b 1 6,.o 5 7,.c 4 8]) (.seq (.region [.a 4,.a 1,.d 0 3,.m 1 2,.b 1 3,.e 1 1 4,.b 1 5,.bl 9 0 6]) (.cond (.var 9) (.region [.a 1,.d 0 3,.m 1 1,.b 1 2,.a 4,.e 1 0 3,.A 1 5 4,.I 2]) .skip))))) (.kill [0,3,4,8,9])) (.region [.u 7 1,.c 7 0])))
def vS:cI:=⟨2,10,.seq (.region [.g 2]) (.seq (.seq (.region [.a 0,.R 0,.m 1 1,.bk 5 1 2,.ab 6 5,.f 7 0]) (.seq (.block 0 (.loop [0,3,4,8,9] ex)) (.kill [0,1,3,4,5,6,7,8,9]))) (.seq (.region [.a 2,.c 2 0]) .ret)),[.tmp 2]⟩
def eT:List Nat:=[0,3,4,8,9]
abbrev eI (v1 v2 v5 v6 v7:AV):List AV:=[.undef,v1,v2,.undef,.undef,v5,v6,v7,.undef,.undef]
theorem qO:clear eT [d0,v1,v2,d3,d4,v5,v6,v7,d8,d9]=eI v1 v2 v5 v6 v7:=rfl
theorem Bf {k:List KC} (h:bM (evC E fuel ex) eT fuel (eI v1 v2 v5 v6 v7) A=some o) :
  run E fuel (.code (.loop [0,3,4,8,9] ex) :: k) [d0,v1,v2,d3,d4,v5,v6,v7,d8,d9] A=after E fuel k o:=aQ eT _ _ (by rw [qO]; exact h)
theorem BR:aH Try.prog Try.f90 2 [0,1,4,6,7,11,12,13,14,33] [] true ([[0,3,4,8,9]],[[0,3,4,8,9],[0,1,3,4,5,6,7,8,9]])=some vS:=by kernel_rfl
theorem P6:Try.prog.funcs[90]?=some Try.f90:=by kernel_rfl
def qb:cI:=⟨1,3,.seq (.region [.w 1]) (.seq (.seq (.region [.a 0,.c1 2 0]) (.cond (.var 2) (.seq (.region [.w 1]) .ret) .skip)) (.seq (.region [.cl,.a 0,.ax 1 0 1,.c 1 2]) .ret)),[.tmp 1]⟩
theorem sN:aH Try.prog Try.f40 1 [0,2,4] [] true ([],[])=some qb:=by kernel_rfl
theorem IW:Try.prog.funcs[40]?=some Try.f40:=by kernel_rfl
def qf:MC:=.seq (.region [.B 15 14 13]) (.seq (.cond (.var 15) .skip (.exit 0)) (.seq (.seq (.block 1 (.seq (.region [.M 1 12 14,.b 1 0,.c 8 1]) (.seq (.region [.t 1 2,.R 0,.m 1 1,.b 1 2,.a 8,.e 6 3 4,.K 6 5,.z 9 6,.r 6 9 6]) (.seq (.seq (.region [.d 0 9,.m 0 0,.b 1 1,.a 7,.bz 16 2 3]) (.cond (.var 16) (.seq (.region [.f 3 0,.f 4 0,.g 5]) .ret) .skip)) (.region [.a 3,.d 5 9,.b 1 1,.o 0 2,.a 4,.d 0 9,.m 3 5,.b 1 6,.o 4 7,.d 0 9,.m 1 9,.b 1 10,.c 3 3,.c 4 8,.c 7 11]))))) (.kill [0,1,5,6,8,9,10,11,15,16])) (.region [.u 14 1,.c 14 0])))
def Dd:cI:=⟨2,17,.seq (.region [.D 2 0,.f 3 0,.f 4 0,.g 5]) (.seq (.seq (.region [.a 1,.v 0,.qn (.call (.fn 88) [.tmp 1,.cst (.int .i64 1),.cst (.int .i64 200)]),.V 10 2]) (.cond (.var 10) (.seq (.region [.f 3 0,.f 4 0,.g 5]) .ret) .skip)) (.seq (.region [.qn (.makeFunc (.func 91) [] [.var 2]),.c 6 0]) (.seq (.seq (.region [.a 1,.a 6,.qs 11 (.call (.fn 51) [.tmp 0,.tmp 1])]) (.cond (.var 11) (.seq (.region [.f 3 0,.f 4 0,.g 5]) .ret) .skip)) (.seq (.region [.t 1 2,.R 0,.m 1 1,.b 1 2,.a 1,.a 1,.v 5,.s 6 1,.e 1 4 7,.b 1 8,.e 6 3 9,.m 0 10,.m 1 11,.b 1 12,.c 7 13]) (.seq (.seq (.region [.ai 12 1,.ab 13 12,.f 14 0]) (.seq (.block 0 (.loop [0,1,5,6,8,9,10,11,15,16] qf)) (.kill [0,1,2,5,6,7,8,9,10,11,12,13,14,15,16]))) (.seq (.region [.a 3,.a 4,.c 3 0,.c 4 1,.I 5]) .ret)))))),[.tmp 3,.tmp 4,.tmp 5]⟩
def oP:List Nat:=[0,1,5,6,8,9,10,11,15,16]
abbrev pF (v2 v3 v4 v7 v12 v13 v14:AV):List AV:=[.undef,.undef,v2,v3,v4,.undef,.undef,v7,.undef,.undef,.undef,.undef,v12,v13,v14,.undef,.undef]
theorem FY {v14:AV}:clear oP [d0,d1,v2,v3,v4,d5,d6,v7,d8,d9,d10,d11,v12,v13,v14,d15,d16]=pF v2 v3 v4 v7 v12 v13 v14:=rfl
theorem Fk {k:List KC} {v14:AV} (h:bM (evC E fuel qf) oP fuel (pF v2 v3 v4 v7 v12 v13 v14) A=some o) :
  run E fuel (.code (.loop [0,1,5,6,8,9,10,11,15,16] qf) :: k) [d0,d1,v2,v3,v4,d5,d6,v7,d8,d9,d10,d11,v12,v13,v14,d15,d16] A=after E fuel k o:=aQ oP _ _ (by rw [FY]; exact h)
theorem BQ:aH Try.prog Try.f75 2 [0,1,2,4,5,6,7,8,10,11,15,19,34,35,36,37,51] [] true ([[0,1,5,6,8,9,10,11,15,16]],[[0,1,5,6,8,9,10,11,15,16],[0,1,2,5,6,7,8,9,10,11,12,13,14,15,16]])=some Dd:=by kernel_rfl
theorem P5:Try.prog.funcs[75]?=some Try.f75:=by kernel_rfl
def AF:cI:=⟨1,2,.seq (.region [.g 1]) (.seq (.region [.a 0,.qn (.call (.fn 88) [.tmp 0,.cst (.int .i64 (-1000000)),.cst (.int .i64 1000000)]),.c 1 1]) .ret),[.tmp 1]⟩
theorem vp:aH Try.prog Try.f72 1 [0,2] [] true ([],[])=some AF:=by kernel_rfl
theorem Lz:Try.prog.funcs[72]?=some Try.f72:=by kernel_rfl
def AE:cI:=⟨2,5,.seq (.region [.D 2 0,.D 3 1,.qs 4 (.mv (.cst .nilF))]) (.seq (.region [.qn (.makeFunc (.func 98) [] [.var 2,.var 3]),.c 4 0]) .ret),[.tmp 4]⟩
theorem vo:aH Try.prog Try.f92 2 [0,1,2,3,4] [] true ([],[])=some AE:=by kernel_rfl
theorem Ly:Try.prog.funcs[92]?=some Try.f92:=by kernel_rfl
def fH:MC:=.seq (.seq (.region [.t 1 11,.ad 14 0 0]) (.cond (.var 14) .skip (.exit 0))) (.seq (.seq (.block 1 (.seq (.region [.a 10,.qn (.makeFunc (.func 101) [] [.var 5,.var 11,.var 9]),.E 100 0 1,.c 12 2]) (.seq (.seq (.region [.a 12,.ac 15 0 0]) (.cond (.var 15) (.seq (.region [.w 6,.g 7]) .ret) .skip)) (.seq (.region [.a 10,.a 12,.e 6 0 1,.K 6 2,.z 13 6,.r 6 13 3]) (.regionD [] [.a 8,.d 4 13,.b 1 1,.cu 2,.ax 1 0 3,.t 1 9,.d 5 13,.b 1 6,.o 5 7,.a 0,.R 9,.m 2 10,.b 1 11,.d 0 13,.m 1 13,.b 1 14,.e 1 12 15,.b 1 16,.c 8 4,.r 1 9 8,.c 10 17] [(4,5),(4,6),(4,7),(4,11),(4,12),(4,13),(4,14),(4,15),(4,16),(4,17),(11,19),(12,19),(13,19),(14,19),(15,19),(16,19),(17,19)]))))) (.kill [1,2,3,4,6,7,12,13,14,15,16])) (.seq (.seq (.region [.cd 16 1 11]) (.region [.a4 11 1,.cr 1 11 16])) (.region [.t 1 11,.s 0 1,.r 1 11 1])))
def Dc:cI:=⟨4,17,.seq (.region [.D 4 1,.D 5 2,.w 6,.g 7]) (.seq (.region [.w 8]) (.seq (.region [.a4 9 1,.cp 1 9 0]) (.seq (.region [.l 6 4,.qn (.buildSlice 6 [.tmp 0]),.c 10 1]) (.seq (.seq (.region [.a 3,.s 0 1,.a4 11 1,.r 1 11 1]) (.seq (.block 0 (.loop [1,2,3,4,6,7,12,13,14,15,16] fH)) (.kill [0,1,2,3,4,5,6,7,9,10,11,12,13,14,15,16]))) (.seq (.region [.a 8,.c 6 0,.I 7]) .ret))))),[.tmp 6,.tmp 7]⟩
def ej:List Nat:=[1,2,3,4,6,7,12,13,14,15,16]
abbrev gq (v0 v5 v8 v9 v10 v11:AV):List AV:=[v0,.undef,.undef,.undef,.undef,v5,.undef,.undef,v8,v9,v10,v11,.undef,.undef,.undef,.undef,.undef]
theorem qN:clear ej [v0,d1,d2,d3,d4,v5,d6,d7,v8,v9,v10,v11,d12,d13,d14,d15,d16]=gq v0 v5 v8 v9 v10 v11:=rfl
theorem uM {k:List KC} (h:bM (evC E fuel fH) ej fuel (gq v0 v5 v8 v9 v10 v11) A=some o) :
  run E fuel (.code (.loop [1,2,3,4,6,7,12,13,14,15,16] fH) :: k) [v0,d1,d2,d3,d4,v5,d6,d7,v8,v9,v10,v11,d12,d13,d14,d15,d16] A=after E fuel k o:=aQ ej _ _ (by rw [qN]; exact h)
theorem BP:aH Try.prog Try.f93 4 [0,1,2,3,5,6,8,9,10,11,12,13,14,15,21,28,51] [] true ([[1,2,3,4,6,7,12,13,14,15,16]],[[1,2,3,4,6,7,12,13,14,15,16],[0,1,2,3,4,5,6,7,9,10,11,12,13,14,15,16]])=some Dc:=by kernel_rfl
theorem P4:Try.prog.funcs[93]?=some Try.f93:=by kernel_rfl
def kg:MC:=.seq (.region [.B 6 5 4]) (.seq (.cond (.var 6) .skip (.exit 0)) (.seq (.seq (.block 1 (.seq (.region [.a 5,.c 3 0]) (.seq (.region [.a 1,.a 0,.a 3,.e 4 1 2,.K 4 3,.b7 7 0 4]) (.cond (.var 7) (.seq (.region [.a 3,.c 2 0]) .ret) .skip)))) (.kill [2,3,6,7])) (.region [.u 5 1,.c 5 0])))
def DP:cI:=⟨2,8,.seq (.region [.f 2 0]) (.seq (.seq (.region [.a 0,.bg 4 0,.f 5 0]) (.seq (.block 0 (.loop [2,3,6,7] kg)) (.kill [0,1,2,3,4,5,6,7]))) (.seq (.region [.f 2 (-1)]) .ret)),[.tmp 2]⟩
def jA:List Nat:=[2,3,6,7]
abbrev nF (v0 v1 v4 v5:AV):List AV:=[v0,v1,.undef,.undef,v4,v5,.undef,.undef]
theorem FX:clear jA [v0,v1,d2,d3,v4,v5,d6,d7]=nF v0 v1 v4 v5:=rfl
theorem Fj {k:List KC} (h:bM (evC E fuel kg) jA fuel (nF v0 v1 v4 v5) A=some o) :
  run E fuel (.code (.loop [2,3,6,7] kg) :: k) [v0,v1,d2,d3,v4,v5,d6,d7] A=after E fuel k o:=aQ jA _ _ (by rw [FX]; exact h)
theorem BO:aH Try.prog Try.f103 2 [0,1,4,5,7,8,9,16] [] true ([[2,3,6,7]],[[2,3,6,7],[0,1,2,3,4,5,6,7]])=some DP:=by kernel_rfl
theorem PZ:Try.prog.funcs[103]?=some Try.f103:=by kernel_rfl
def eW:MC:=.seq (.region [.B 6 5 4]) (.seq (.cond (.var 6) .skip (.exit 0)) (.seq (.seq (.block 1 (.seq (.region [.a 5,.c 3 0]) (.seq (.region [.a 1,.a 0,.a 3,.e 1 1 2,.b 1 3,.b7 7 0 4]) (.cond (.var 7) (.seq (.region [.a 3,.c 2 0]) .ret) .skip)))) (.kill [2,3,6,7])) (.region [.u 5 1,.c 5 0])))
def zB:cI:=⟨2,8,.seq (.region [.f 2 0]) (.seq (.seq (.region [.a 0,.bg 4 0,.f 5 0]) (.seq (.block 0 (.loop [2,3,6,7] eW)) (.kill [0,1,2,3,4,5,6,7]))) (.seq (.region [.f 2 (-1)]) .ret)),[.tmp 2]⟩
def fN:List Nat:=[2,3,6,7]
abbrev gp (v0 v1 v4 v5:AV):List AV:=[v0,v1,.undef,.undef,v4,v5,.undef,.undef]
theorem Ca:clear fN [v0,v1,d2,d3,v4,v5,d6,d7]=gp v0 v1 v4 v5:=rfl
theorem xY {k:List KC} (h:bM (evC E fuel eW) fN fuel (gp v0 v1 v4 v5) A=some o) :
  run E fuel (.code (.loop [2,3,6,7] eW) :: k) [v0,v1,d2,d3,v4,v5,d6,d7] A=after E fuel k o:=aQ fN _ _ (by rw [Ca]; exact h)
theorem ym:aH Try.prog Try.f79 2 [0,1,4,5,7,8,9,16] [] true ([[2,3,6,7]],[[2,3,6,7],[0,1,2,3,4,5,6,7]])=some zB:=by kernel_rfl
theorem MZ:Try.prog.funcs[79]?=some Try.f79:=by kernel_rfl
def HM:cI:=⟨2,3,.seq (.region [.g 2]) (.seq (.region [.a 0,.t 1 1,.R 1,.m 1 2,.b 1 3,.v 4,.s 5 1,.am 88 0 6,.W 7,.c 2 8]) .ret),[.tmp 2]⟩
theorem BN:aH Try.prog Try.f91 2 [0,1,3] [] true ([],[])=some HM:=by kernel_rfl
theorem PY:Try.prog.funcs[91]?=some Try.f91:=by kernel_rfl
def kf:MC:=.seq (.region [.B 9 8 7]) (.seq (.cond (.var 9) .skip (.exit 0)) (.seq (.seq (.block 1 (.seq (.region [.M 6 6 8,.K 6 0,.z 4 6,.r 6 4 1]) (.seq (.seq (.region [.a 3,.d 0 4,.m 0 1,.b 1 2,.qn (.lookup 1 true .nilS (.tmp 0) (.tmp 3)),.h 4,.j 5 0,.j 5 1,.h 6,.c 5 7]) (.seq (.region [.a 5,.V 10 0]) (.cond (.var 10) (.region [.a 3,.d 0 4,.m 0 1,.b 1 2,.t 1 1,.d 0 4,.m 0 5,.b 1 6,.t 1 2,.P 99 4 7 8,.bu 0 3 9]) .skip))) (.seq (.region [.a 0,.l 6 4,.a 3,.d 0 4,.m 0 3,.b 1 4,.qn (.lookup 1 false .nilS (.tmp 2) (.tmp 5)),.cg 0 1 6,.V 11 7]) (.cond (.var 11) .ret .skip))))) (.kill [4,5,9,10,11])) (.region [.u 8 1,.c 8 0])))
def EV:cI:=⟨3,12,.seq (.region [.qn .makeMap,.c 3 0]) (.seq (.region [.t 1 1,.R 0,.m 1 1,.bk 6 1 2,.ab 7 6,.f 8 0]) (.seq (.block 0 (.loop [4,5,9,10,11] kf)) (.kill [0,1,2,3,4,5,6,7,8,9,10,11]))),[]⟩
def ig:List Nat:=[4,5,9,10,11]
abbrev lq (v0 v1 v2 v3 v6 v7 v8:AV):List AV:=[v0,v1,v2,v3,.undef,.undef,v6,v7,v8,.undef,.undef,.undef]
theorem B9:clear ig [v0,v1,v2,v3,d4,d5,v6,v7,v8,d9,d10,d11]=lq v0 v1 v2 v3 v6 v7 v8:=rfl
theorem Fi {k:List KC} (h:bM (evC E fuel kf) ig fuel (lq v0 v1 v2 v3 v6 v7 v8) A=some o) :
  run E fuel (.code (.loop [4,5,9,10,11] kf) :: k) [v0,v1,v2,v3,d4,d5,v6,v7,v8,d9,d10,d11] A=after E fuel k o:=aQ ig _ _ (by rw [B9]; exact h)
theorem BM:aH Try.prog Try.f98 3 [0,1,2,4,6,8,13,14,15,16,28,47] [99] true ([[4,5,9,10,11]],[[4,5,9,10,11],[0,1,2,3,4,5,6,7,8,9,10,11]])=some EV:=by kernel_rfl
theorem PX:Try.prog.funcs[98]?=some Try.f98:=by kernel_rfl
def nS:MC:=.seq (.region [.B 14 13 12]) (.seq (.cond (.var 14) .skip (.exit 2)) (.seq (.seq (.block 3 (.seq (.region [.M 6 11 13,.K 6 0,.z 7 6,.r 6 7 1]) (.region [.a 6,.d 0 7,.m 0 1,.b 1 2,.a 6,.d 0 7,.m 0 5,.b 1 6,.e 2 4 7,.K 2 8,.a 5,.d 0 7,.m 1 11,.b 1 12,.e 2 10 13,.K 2 14,.d 5 7,.b 1 16,.E 102 15 17,.E 104 9 18,.e 2 0 3,.A 2 20 19]))) (.kill [1,2,3,7,10,14])) (.region [.u 13 1,.c 13 0])))
def qe:MC:=.seq (.region [.B 10 9 8]) (.seq (.cond (.var 10) .skip (.exit 0)) (.seq (.seq (.block 1 (.seq (.regionD [102,104] [.a 4,.a 4,.v 1,.s 2 1,.e 1 0 3,.b 1 4,.a 0,.R 6,.m 0 7,.b 1 8,.ce 9 9,.c 5 5,.c 6 10] [(4,10),(5,10)]) (.seq (.seq (.region [.a 0,.R 0,.m 1 1,.bk 11 1 2,.ab 12 11,.f 13 0]) (.seq (.block 2 (.loop [1,2,3,7,10,14] nS)) (.kill [1,2,3,5,7,10,11,12,13,14]))) (.region [.a 4,.a 6,.b6 1,.cw 1 0 2,.c 4 3])))) (.kill [1,2,3,5,6,7,10,11,12,13,14])) (.region [.u 9 1,.c 9 0])))
def Nr:cI:=⟨3,15,.seq (.region [.w 3]) (.seq (.region [.a 0,.R 0,.m 0 1,.b 1 2,.ce 3 3,.b6 4,.c 4 5]) (.seq (.region [.a 4,.qn (.indexSl 1 (.tmp 0) (.cst (.int .i64 0))),.b 1 1,.a 1,.qn (.build [.int .i64 0,.bool false] [(0,(1,.cst (.int .i64 0))),(1,(1,.cst (.bool true)))]),.e 2 2 3,.A 2 5 4]) (.seq (.seq (.region [.ai 8 2,.f 9 0]) (.seq (.block 0 (.loop [1,2,3,5,6,7,10,11,12,13,14] qe)) (.kill [0,1,2,3,5,6,7,8,9,10,11,12,13,14]))) (.seq (.region [.a 4,.c 3 0]) .ret)))),[.tmp 3]⟩
def lJ:List Nat:=[1,2,3,7,10,14]
abbrev nE (v0 v4 v5 v6 v8 v9 v11 v12 v13:AV):List AV:=[v0,.undef,.undef,.undef,v4,v5,v6,.undef,v8,v9,.undef,v11,v12,v13,.undef]
theorem FU:clear lJ [v0,d1,d2,d3,v4,v5,v6,d7,v8,v9,d10,v11,v12,v13,d14]=nE v0 v4 v5 v6 v8 v9 v11 v12 v13:=rfl
theorem Kn {k:List KC} (h:bM (evC E fuel nS) lJ fuel (nE v0 v4 v5 v6 v8 v9 v11 v12 v13) A=some o) :
  run E fuel (.code (.loop [1,2,3,7,10,14] nS) :: k) [v0,d1,d2,d3,v4,v5,v6,d7,v8,v9,d10,v11,v12,v13,d14] A=after E fuel k o:=aQ lJ _ _ (by rw [FU]; exact h)
def oO:List Nat:=[1,2,3,5,6,7,10,11,12,13,14]
abbrev pE (v0 v4 v8 v9:AV):List AV:=[v0,.undef,.undef,.undef,v4,.undef,.undef,.undef,v8,v9,.undef,.undef,.undef,.undef,.undef]
theorem Z7:clear oO [v0,d1,d2,d3,v4,d5,d6,d7,v8,v9,d10,d11,d12,d13,d14]=pE v0 v4 v8 v9:=rfl
theorem Km {k:List KC} (h:bM (evC E fuel qe) oO fuel (pE v0 v4 v8 v9) A=some o) :
  run E fuel (.code (.loop [1,2,3,5,6,7,10,11,12,13,14] qe) :: k) [v0,d1,d2,d3,v4,d5,d6,d7,v8,v9,d10,d11,d12,d13,d14] A=after E fuel k o:=aQ oO _ _ (by rw [Z7]; exact h)
theorem Le:aH Try.prog Try.f99 3 [0,1,2,6,7,8,9,11,24,25,26,41,42,43,44] [102,104] false ([[1,2,3,5,6,7,10,11,12,13,14],[1,2,3,7,10,14]],[[1,2,3,7,10,14],[1,2,3,5,7,10,11,12,13,14],[1,2,3,5,6,7,10,11,12,13,14],[0,1,2,3,5,6,7,8,9,10,11,12,13,14]])=some Nr:=by kernel_rfl
theorem at48:Try.prog.funcs[99]?=some Try.f99:=by kernel_rfl
def ke:MC:=.seq (.region [.B 6 5 4]) (.seq (.cond (.var 6) .skip (.exit 0)) (.seq (.seq (.block 1 (.seq (.region [.a 5,.c 3 0]) (.seq (.region [.a 1,.a 0,.a 3,.e 6 1 2,.K 6 3,.b7 7 0 4]) (.cond (.var 7) (.seq (.region [.a 3,.c 2 0]) .ret) .skip)))) (.kill [2,3,6,7])) (.region [.u 5 1,.c 5 0])))
def ME:cI:=⟨2,8,.seq (.region [.f 2 0]) (.seq (.seq (.region [.a 0,.bg 4 0,.f 5 0]) (.seq (.block 0 (.loop [2,3,6,7] ke)) (.kill [0,1,2,3,4,5,6,7]))) (.seq (.region [.f 2 (-1)]) .ret)),[.tmp 2]⟩
def jz:List Nat:=[2,3,6,7]
abbrev nD (v0 v1 v4 v5:AV):List AV:=[v0,v1,.undef,.undef,v4,v5,.undef,.undef]
theorem FR:clear jz [v0,v1,d2,d3,v4,v5,d6,d7]=nD v0 v1 v4 v5:=rfl
theorem Fh {k:List KC} (h:bM (evC E fuel ke) jz fuel (nD v0 v1 v4 v5) A=some o) :
  run E fuel (.code (.loop [2,3,6,7] ke) :: k) [v0,v1,d2,d3,v4,v5,d6,d7] A=after E fuel k o:=aQ jz _ _ (by rw [FR]; exact h)
theorem Ld:aH Try.prog Try.f100 2 [0,1,4,5,7,8,9,16] [] true ([[2,3,6,7]],[[2,3,6,7],[0,1,2,3,4,5,6,7]])=some ME:=by kernel_rfl
theorem at49:Try.prog.funcs[100]?=some Try.f100:=by kernel_rfl
def HL:cI:=⟨4,7,.seq (.region [.D 4 0,.g 5]) (.seq (.regionD [102] [.t 1 1,.t 1 2,.e 1 0 1,.b 1 2,.d 0 4,.m 1 4,.b 1 5,.e 2 3 6,.K 2 7,.t 1 3,.d 5 4,.b 1 10,.o 9 11,.E 102 8 12,.b8 6 2,.r 2 6 13] [(0,14),(1,14),(2,14),(3,14),(4,14),(5,14),(6,14),(7,14),(8,14),(9,14),(10,14),(11,14),(13,14)]) (.seq (.region [.d 1 6,.b 1 0,.h 1,.O 0 6 2,.x 1 3 2,.bw 4 0 2,.p 2 5,.c 5 6]) .ret)),[.tmp 5]⟩
theorem BK:aH Try.prog Try.f101 4 [0,1,2,3,4,5,6] [102] true ([],[])=some HL:=by kernel_rfl
theorem PW:Try.prog.funcs[101]?=some Try.f101:=by kernel_rfl
def MD:cI:=⟨2,5,.seq (.region [.D 2 0,.b8 3 2]) (.seq (.seq (.region [.l 2 2,.qn (.build [.int .i64 0,.bool false] []),.qs 4 (.eqAgg false [(0,1),(1,0)] (.tmp 0) (.tmp 1))]) (.cond (.var 4) (.seq (.region [.l 2 2,.r 2 3 0]) .ret) .skip)) (.seq (.region [.d 0 2,.b 1 0,.a 1,.o 1 2,.d 1 2,.b 1 4,.qn (.build [.int .i64 0,.bool false] [(0,(1,.tmp 3)),(1,(1,.tmp 5))]),.r 2 3 6]) .ret)),[.cell 3 true 2]⟩
theorem Lc:aH Try.prog Try.f102 2 [0,1,2,4,7] [] true ([],[])=some MD:=by kernel_rfl
theorem at51:Try.prog.funcs[102]?=some Try.f102:=by kernel_rfl
def DO:cI:=⟨2,6,.seq (.region [.D 2 0,.D 3 1,.b8 4 2]) (.seq (.seq (.region [.d 1 2,.b 1 0,.W 1,.h 2,.y 1 3 3,.q 1 4 3,.cm 5 3,.O 0 3 6,.x 1 7 6,.O 0 2 6,.x 1 9 6,.qt (.bin .gtr (.tmp 8) (.tmp 10)) 6,.a3 6 11 3,.C 5 3 12]) (.cond (.var 5) (.seq (.region [.l 2 3,.r 2 4 0]) .ret) .skip)) (.seq (.region [.l 2 2,.r 2 4 0]) .ret)),[.cell 4 true 2]⟩
theorem BJ:aH Try.prog Try.f104 2 [0,1,2,3,4,18] [] true ([],[])=some DO:=by kernel_rfl
theorem PV:Try.prog.funcs[104]?=some Try.f104:=by kernel_rfl
end Cy
def pick (a n:Int):Int:=(if a<0 then -(a+1) else a).tmod n
theorem fQ (a n:Int) (hn:0<n):0<=pick a n/\pick a n<n:=by
 unfold pick
 split
 ·exact ⟨Int.tmod_nonneg _ (by omega),Int.tmod_lt_of_pos _ hn⟩
 ·exact ⟨Int.tmod_nonneg _ (by omega),Int.tmod_lt_of_pos _ hn⟩
def aj (xs:List Int):List AV:=xs.map (.int .i64)
@[simp] theorem w7 (esz:Nat) (es:List AV):cellsOf (slA esz es)=[slA esz es]:=by cases es <;> rfl
@[simp] theorem Ai (esz:Nat) (es:List AV):(slA esz es).solid=true:=by cases es <;> rfl
@[simp] theorem KI (esz:Nat) (es:List AV):wX (slA esz es)=true:=by cases es <;> rfl
@[simp] theorem wV (A:ac) (n esz:Nat) (es:List AV):frz A n (slA esz es)=slA esz es:=by cases es <;> cases n <;> rfl
@[simp] theorem AB (n esz:Nat) (es:List AV):bu n (slA esz es)=true:=by cases es <;> cases n <;> rfl
@[simp] theorem tH (esz:Nat) (es:List AV):aq (slA esz es)=some (.int .i64 (es.length:Int)):=by cases es <;> rfl
def de (A:ac) (esz:Nat) (a:AV) (xs:List AV):Prop:=SlA esz xs a\/∃id off gr es,a=.sl id off xs.length/\A[id]?=some (.row esz gr es)/\(es.drop off).take xs.length=xs
section
variable {A B:ac} {esz:Nat} {a:AV} {xs:List AV}
theorem de.len (h:de A esz a xs):aq a=some (.int .i64 (xs.length:Int)):=by
 rcases h with h | ⟨id,off,gr,es,rfl,h1,h2⟩
 ·exact h.len
 ·rfl
theorem de.load1 (h:de A 1 a xs) (hAB:∀id,id<A.length->B[id]?=A[id]?) (hx:xs[i]?=some x) (hs:x.solid=true) (hc:cellsOf x=[x]) (hl:cA x 1 0 false 1=some x) (k:IntKind) :
  ∃p,ae 1 B a (.int k (i:Int))=some p/\ab false 1 B p=some x:=by
 rcases h with h | ⟨id,off,gr,es,rfl,h1,h2⟩
 ·exact ⟨_,h.index1 hx hs hc k,rfl⟩
 ·have hid:id<A.length:=(Rv.1 h1).1
  have hi:i<xs.length:=(Rv.1 hx).1
  have hB:B[id]?=some (.row 1 gr es):=(hAB id hid).trans h1
  have he:es[off+i]?=some x:=by
   rw [<-h2,Ta hi,SQ] at hx
   exact hx
  refine ⟨.ptr id (off+i) 0,?_,?_⟩
  ·simp [ae,hB,hi]
  ·simp [ab,hB,he,hl]
theorem de.int {zs:List Int} (h:de A 1 a (aj zs)) (hAB:∀id,id<A.length->B[id]?=A[id]?) (hi:i<zs.length) (k:IntKind) :
  ∃p,ae 1 B a (.int k (i:Int))=some p/\ab false 1 B p=some (.int .i64 zs[i]):=
 h.load1 hAB (x:=.int .i64 zs[i]) (by simp [aj,hi]) rfl rfl rfl k
end
theorem n7 {s:AV} (h:n8 s=some xs) (n:Nat):bu n s=true:=by
 rcases (kH h).1 with ⟨rfl,_⟩ | rfl <;> cases n <;> rfl
theorem vJ (B:ac) (n:Nat) (xs:List Int):(aj xs).all (bo B n)=true:=by
 unfold aj
 rw [RZ]
 intro x hx
 obtain ⟨z,_,rfl⟩:=Sa.1 hx
 cases n <;> rfl
theorem uR (A:ac) (n:Nat) (xs:List Int):(aj xs).map (frz A n)=aj xs:=by
 unfold aj; rw [Tc]; apply Sb; intro x _; cases n <;> rfl
end Go.Proofs.Ytkcjhljbgjpklaa
