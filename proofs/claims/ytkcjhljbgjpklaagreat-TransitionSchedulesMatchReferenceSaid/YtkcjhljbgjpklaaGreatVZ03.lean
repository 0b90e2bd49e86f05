import Derived.Test.YtkcjhljbgjpklaaGreatVZ02
import Derived.Shelf.Abstract
import Derived.WideKeyArgs
import Derived.OpenShut
import Derived.ChangeOld
import Derived.RowKit
import Derived.Test.YtkcjhljbgjpklaaGreatChecked
import Derived.KernelRfl
set_option maxRecDepth 100000
set_option maxHeartbeats 4000000
noncomputable section
namespace Go.Proofs.YtkcjhljbgjpklaaGreat
open Tryz (prog)
open Go
abbrev AV.z (n:Int):AV:=.int .i64 n
abbrev AV.u:AV:=.undef
abbrev AV.t:AV:=.bool true
abbrev AV.f:AV:=.bool false
abbrev AV.p (n:Nat):AV:=.ptr n 0 0
abbrev Ent.q (l:List AV):Ent:=.row 1 false l
variable {A:ac} {d7 v0 d6 d2 d3 v5 v1 v4 d4 d9 d10 d1 v3 d5 d8 d11 d13 v2 v6 d12 d14 d0 v8 d15 d16 v11 v12 v7 v9 a v10 v13 x:AV} {E:Env} {fuel n i:Nat} {f:FuncId} {o:Out} {w W W':World} {OK OK':Nat->Prop} {g:aC} {vs:List Nat} {pu:List FuncId} {on:Bool} {hints:uv} {t:TypeId} {P:Program} {G:Nat->Option (List AV)} {v:Value} {z:Int} {xs:List Int}
section
variable {P:Program} {E:Env} {N:Nat} {vs:List Nat} {base:Nat} {rd:Option Nat} {n:Nat}
theorem qh (hE:dq P E) (hvn:vs.Nodup) (hvl:∀t∈vs,t<N) {f:Operand} {ps:Array Tmp} {asg bd:Code} {z:MX} {is:List Nat} (hz:vM vs [] f=some z) (his:sP vs ps.toList=some is) {asgE bdE:List AV->ac->Option Out}
  (ha:∀(l m:Nat) (σ:List AV) (A:ac) (out:Out) (a:Act) (w:World) (OK:Nat->Prop) (g:aC),SRel E N vs 0 w OK g σ A a->asgE σ A=some out->asg.wpIn (FW (some l)) m P (eR E N vs 0 w OK g out) a w)
  (hb:∀(l m:Nat) (σ:List AV) (A:ac) (out:Out) (a:Act) (w:World) (OK:Nat->Prop) (g:aC),SRel E N vs 0 w OK g σ A a->bdE σ A=some out->bd.wpIn (FW (some l)) m P (eR E N vs 0 w OK g out) a w)
  {σ:List AV} {A:ac} {out:Out} {a:Act} {w:World} {OK:Nat->Prop} {g:aC} (hs:SRel E N vs base w OK g σ A a)
  (he:evR (fun (_:Nat × Loop)=>True) (fun x=>
   match E.callY (gv A.length x.1 x.2 σ is asgE bdE E.hand) (evX E σ [] z) [.func (.yield x.1) [] []] (A++[Ent.loop x.2 0]) with
   | some (_,A')=>nj A.length σ A'
   | none=>none)=some out) :
  (Code.rangeFunc f ps asg bd).wpIn (FW none) n P (eR E N vs base w OK g out) a w:=by
 refine wpIn_rangeFunc ?_
 intro fn hfn
 obtain ⟨r0,hr0⟩:∃r0:Loop,r0={state:=.ready,pending:=none,fn,tmps:=a.tmps,params:=ps,assign:=asg,body:=bd,defers:=w.heap.size}:=⟨_,rfl⟩
 obtain ⟨hA1,hx1⟩:=hs.arena.alloc (.deferred (some []))
 have hD:(w.alloc (.deferred (some []))).heap[w.heap.size]?=some (.deferred (some [])):=World.alloc_heap_new w _
 obtain ⟨w1,hw1⟩:∃w1,w1=w.alloc (.deferred (some [])):=⟨_,rfl⟩
 have hsz1:w1.heap.size=w.heap.size+1:=by rw [hw1]; simp
 rw [<-hw1] at hA1 hx1 hD
 have hrec:jt r0 0=r0:=by rw [hr0]; rfl
 obtain ⟨hA2,hx2⟩:=hA1.push (w':=w1.alloc (.loop r0)) (.loop r0) rfl rfl rfl rfl (.loop r0 0) ⟨w.heap.size+1,0,0,0,0⟩ hsz1.symm (fun g' _ _ hnew=>⟨_,rfl,rfl,by rw [hrec,<-hsz1]; exact hnew⟩)
 obtain ⟨w2,hw2⟩:∃w2,w2=w1.alloc (.loop r0):=⟨_,rfl⟩
 obtain ⟨inc0,hinc0⟩:∃i:Inc,i=⟨w.heap.size+1,0,0,0,0⟩:=⟨_,rfl⟩
 rw [<-hw2,<-hinc0] at hA2 hx2
 have hx:=hx1.trans hx2
 have hg2:g.push A.length inc0 A.length=[inc0]:=by simp [aC.push]
 have hE0:=he
 have he:=EM he (w.heap.size+1,r0) trivial
 simp only at he
 have hs2:=hs.ext hx hA2
 have hyH:jg P E.glob (⟨A.length,w.heap.size+1,vs.map (a.tmps.getD · undef),σ⟩ :: E.ys) (gv A.length (w.heap.size+1) r0 σ is asgE bdE E.hand):=
  uC hvn hvl (by rw [hr0]; exact ⟨rfl,rfl⟩) (by rw [hr0]) hs.size hs.len (by rw [hr0]; exact his) hE.hand (by rw [hr0]; exact ha _) (by rw [hr0]; exact hb _)
 have hI2:Ai E.glob (⟨A.length,w.heap.size+1,vs.map (a.tmps.getD · undef),σ⟩ :: E.ys) w2 OK (g.push A.length inc0):=by
  refine ⟨hs2.glob.1,fun y hy=>?_⟩
  rcases Tj.1 hy with rfl | hy
  ·refine ⟨⟨inc0,hg2,by rw [hinc0],by rw [hinc0]⟩,bW.of_get (by simp [hs.len]) fun i h1 h2=>?_⟩
   simp only [Tk]
   have:=hs2.vars i (by simpa using h1)
   simpa [Sr,Sq h2] using this
  ·exact hs2.glob.2 y hy
 split at he
 ·rename_i v0 A' hcall
  have hrr:km E N vs base w2 OK (g.push A.length inc0) σ [] [] (A++[Ent.loop r0 0]) a:={hs2 with tlen:=rfl,temps:=fun j t hj=>by simp at hj,tok:=fun j t hj=>by simp at hj,tone:=fun j j' t hj=>by simp at hj}
  have hfv:=hrr.eval f z hz
  obtain ⟨d,fid,args',e1,e2,e3⟩:=hE.callY _ _ (fun y hy=>TE _ hy) hyH _ _ _ _ _ hcall w2 OK _ _ [.func (.yield (w.heap.size+1)) #[] #[]] hA2 hI2 hfv
   ⟨.func _ _ _ _ [] [] rfl rfl (fun _=>undef) (fun _=>undef) (fun i hi=>by simp at hi) (fun i hi=>by simp at hi) (fun i hi=>by simp at hi) (fun i hi=>by simp at hi),trivial⟩
  refine ⟨w.heap.size+1,[{target:=.collected w.heap.size,args:=#[]}],w2,d,w2,fid,args',w2,?_,?_,fun f' _=>trivial,e2,fun hd=>by simp [t6] at hd,?_⟩
  ·rw [hw2,hw1,hr0]; exact run_enterLoop_outer _ _ _ _ _
  ·have:(resolve a.eval (rangeCall f (w.heap.size+1)) 0)=Deferred.ofValue (a.eval f) #[.func (.yield (w.heap.size+1)) #[] #[]]:=by
    simp [resolve,Act.eval]
   rw [this]; exact e1
  refine (yR e3 none (n-1)).mono ?_
  rintro e w3 ⟨v,OK3,g3,rfl,hv3,hA3,hx3⟩
  simp only [nj] at he
  split at he
  ·rename_i r k hAn
   have hn0:A.length<A'.length:=(Sp.1 hAn).1
   have hent:=hA3.ent A.length hn0
   rw [(Sp.1 hAn).2] at hent
   obtain ⟨inc',e4,_,hheap⟩:=hent
   have hg3:g3 A.length=[inc0]:=(hx3.fix A.length inc0 (by rw [hg2]; simp) (by rw [hinc0])).trans hg2
   rw [hg3] at e4
   simp at e4; subst e4
   have hb0:inc0.b=w.heap.size+1:=by rw [hinc0]
   have hnb:(jt r k).state≠.busy:=by unfold jt; split <;> simp
   have hend:=run_endLoop (P:=P) hheap hnb
   obtain ⟨hA4,hx4⟩:=hA3.turn (w':=w3.putObj inc0.b (.loop {jt r k with state:=.exhausted})) (g':=g3) A.length hn0 (by rw [hAn]; simp) inc0 (by rw [hg3]; simp) (by simp) rfl rfl rfl (fun b hne=>World.putObj_heap_other hne)
    (fun r2 hr2=>by rw [hheap] at hr2; injection hr2 with hr2; injection hr2 with hr2; rw [<-hr2]; exact hnb) g3.le_refl (fun _ _=>rfl) (fun i hi=>⟨i,hi,rfl⟩)
    (fun i i' hi hi' _=>by rw [hg3] at hi hi'; simp at hi hi'; rw [hi,hi']) .dead (fun _=>trivial) (fun _=>rfl)
   have hxx:=hx3.trans hx4
   have hs4:=hs2.ext hxx hA4
   have hm2:oZ base w2 OK (g.push A.length inc0) ({target:=.collected w.heap.size,args:=#[]} :: a.defers):=by
    refine ⟨⟨w.heap.size,rfl,hs.low,?_,fun ho=>?_,fun id inc hi eb=>?_,?_⟩,hs2.defers⟩
    ·rw [hw2]
     show (w1.heap.push _)[w.heap.size]?=_
     rw [Ur,SD (by omega)]; exact hD
    ·have:=hs.arena.ok _ ho; omega
    ·simp only [aC.push] at hi
     split at hi
     ·simp at hi; subst hi; omega
     ·have:=hs.arena.low id inc hi; omega
    ·have:∀l:List Deferred,oZ base w OK g l->∀d'∈l,d'≠{target:=.collected w.heap.size,args:=#[]}:=by
      intro l
      induction l with
      | nil=>intro _ d' hd; cases hd
      | cons x r ih=>
       rintro ⟨⟨D,hd,_,hh,_⟩,hr⟩ d' hd' eq
       rcases Tj.1 hd' with rfl | hd'
       ·rw [hd] at eq
        injection eq with eq _
        injection eq with eq
        have:=(Tg.1 hh).1
        omega
       ·exact ih hr d' hd' eq
     exact this _ hs.defers
   have hs5:SRel E N vs base (w3.putObj inc0.b (.loop {jt r k with state:=.exhausted})) OK3 g3 σ (A'.set A.length .dead) {a with defers:=[{target:=.collected w.heap.size,args:=#[]}]++a.defers}:=
    ⟨hs4.size,hm2.ext hxx,hs4.low,hs4.len,hs4.vars,hs4.arena,hs4.glob⟩
   refine ⟨_,_,by rw [<-hb0]; exact hend,?_⟩
   injection he with he
   by_cases hk0:k=0
   ·subst hk0
    rw [SA rfl] at he
    subst he
    rw [show (jt r 0).pending=none from rfl]
    exact ⟨OK3,g3,hs5,hx.trans hxx⟩
   ·by_cases hk1:k=1
    ·subst hk1
     rw [SD (by omega),SA rfl] at he
     subst he
     rw [show (jt r 1).pending=some .ret from rfl]
     exact wpIn_ret ⟨OK3,g3,hs5,hx.trans hxx⟩
    ·rw [SD hk0,SD hk1] at he
     subst he
     have:(jt r k).pending=some (.exit (k-2)):=by unfold jt; rw [SD hk0]; simp [hk1]
     split
     ·rename_i h; rw [this] at h; cases h
     ·rename_i c h
      rw [this] at h
      injection h with h; subst h
      exact wpIn_exit ⟨rfl,OK3,g3,hs5,hx.trans hxx⟩
  ·cases he
 ·cases he
theorem SRel.clear {a:Act} (mask:List Nat):∀ {σ:List AV},SRel E N vs base w OK g σ A a->SRel E N vs base w OK g (Go.Proofs.YtkcjhljbgjpklaaGreat.clear mask σ) A a:=by
 induction mask with
 | nil=>intro σ h; exact h
 | cons i m ih=>
  intro σ h
  refine ih (σ:=σ.set i .undef) ⟨h.size,h.defers,h.low,by simp [h.len],fun k hk=>?_,h.arena,h.glob⟩
  by_cases e:i=k
  ·subst e
   simp [SG (show i<σ.length by rw [h.len]; exact hk),a9.undef]
  ·have:=h.vars k hk
   simpa [Sr,Sz e] using this
theorem Ca {on:Bool} (hE:dq P E) (hvn:vs.Nodup) (hvl:∀t∈vs,t<N) {pu:List FuncId} (hpu:bO E pu) (fuel:Nat):∀(code:Code) (inR:Bool) (rd:Option Nat) (base n:Nat),(inR=false->rd=none)->∀(h:uv)
  (σ:List AV) (A:ac) (out:Out) (a:Act) (w:World) (OK:Nat->Prop) (g:aC),SRel E N vs base w OK g σ A a->evC E fuel (eQ P N vs pu on inR code h).1 σ A=some out->code.wpIn (FW rd) n P (eR E N vs base w OK g out) a w:=by
 intro code
 induction code with
 | skip=>
  intro inR rd base n hrd h σ A out a w OK g hs he
  simp only [eQ,evC,Sx] at he
  subst he
  exact wpIn_skip ⟨OK,g,hs,Ext.refl _ _ _⟩
 | label l=>
  intro inR rd base n hrd h σ A out a w OK g hs he
  simp only [eQ,evC,Sx] at he
  subst he
  exact wpIn_label ⟨OK,g,hs,Ext.refl _ _ _⟩
 | region id ops draw=>
  intro inR rd base n hrd h σ A out a w OK g hs he
  cases draw with
  | true=>
   simp only [eQ,TS] at he
   split at he
   ·rename_i hc
    rw [S4] at hc
    split at he
    ·rename_i hp
     simp only [evC,SE] at he
     obtain ⟨⟨σ',A'⟩,he,rfl⟩:=he
     obtain ⟨fs,hfs⟩:=gG (pu:=pu) _ _ _ _ [] _ _ he
     exact jr hE hvn hvl hpu hc.1 hc.2 hs hfs (fun p hx=>by rw [hp] at hx; cases hx) (fun a1 w1 OK1 g1 k1 k2=>⟨OK1,g1,k1,k2⟩)
    ·rename_i x r hp
     simp only [evC] at he
     split at he
     ·rename_i σ' A' fs hfs
      simp only [Sw,Sx] at he
      obtain ⟨hall,rfl⟩:=he
      exact jr hE hvn hvl hpu hc.1 hc.2 hs hfs (fun p hx=>by rw [hp] at hx; exact SV.1 hall p hx) (fun a1 w1 OK1 g1 k1 k2=>⟨OK1,g1,k1,k2⟩)
     ·cases he
   ·simp [evC] at he
  | false=>
   simp only [eQ,SZ,Uc,evC,SE] at he
   obtain ⟨⟨σ',A'⟩,he,rfl⟩:=he
   refine wpIn_region ?_
   have:=qP (on:=on) (rd:=rd) (n:=n) hE hvn hvl (Q:=eR E N vs base w OK g (.normal σ' A')) (fun a w' OK' g' k1 k2=>⟨OK',g',k1,k2⟩) ops.toList 0 [] σ [] A a w OK g rfl
    {hs with tlen:=rfl,temps:=fun j t hj=>by simp at hj,tok:=fun j t hj=>by simp at hj,tone:=fun j j' t hj=>by simp at hj} (Ext.refl _ _ _) he
   simpa [List.range_eq_range'] using this
 | seq x y ihx ihy=>
  intro inR rd base n hrd h σ A out a w OK g hs he
  simp only [eQ,evC] at he
  cases hex:evC E fuel (eQ P N vs pu on inR x h).1 σ A with
  | none=>rw [hex] at he; cases he
  | some o1=>
   rw [hex] at he
   refine wpIn_seq (wpIn_mono (ihx inR rd base n hrd h σ A o1 a w OK g hs hex) ?_)
   intro e a1 w1 hq
   cases o1 with
   | normal σ1 A1=>
    cases e <;> simp only [eR] at hq
    obtain ⟨OK1,g1,hs1,hx1⟩:=hq
    exact wpIn_mono (ihy inR rd base n hrd _ σ1 A1 out a1 w1 OK1 g1 hs1 he) (fun e a w hq=>hq.pre hx1)
   | exit id σ1 A1=>
    simp only [Sx] at he
    subst he
    cases e <;> simp only [eR] at hq
    exact hq
   | ret σ1 A1=>
    simp only [Sx] at he
    subst he
    cases e <;> simp only [eR] at hq
    exact hq
 | cond c x y ihx ihy=>
  intro inR rd base n hrd h σ A out a w OK g hs he
  simp only [eQ] at he
  split at he
  ·rename_i mcx hcx
   simp only [evC] at he
   have hrr:km E N vs base w OK g σ [] [] A a:={hs with tlen:=rfl,temps:=fun j t hj=>by simp at hj,tok:=fun j t hj=>by simp at hj,tone:=fun j j' t hj=>by simp at hj}
   have hv:=hrr.eval c mcx hcx
   split at he
   ·rename_i t ht
    rw [ht] at hv
    refine wpIn_cond (t:=t) hv.inv_bool ?_
    cases t
    ·exact ihy inR rd base n hrd _ σ A out a w OK g hs (by simpa using he)
    ·exact ihx inR rd base n hrd _ σ A out a w OK g hs (by simpa using he)
   ·cases he
  ·simp [evC] at he
 | block id x ih=>
  intro inR rd base n hrd h σ A out a w OK g hs he
  have hplain:∀out,evC E fuel (.block id (eQ P N vs pu on inR x h).1) σ A=some out->(Code.block id x).wpIn (FW rd) n P (eR E N vs base w OK g out) a w:=by
   clear he
   intro out he
   simp only [evC] at he
   cases hex:evC E fuel (eQ P N vs pu on inR x h).1 σ A with
   | none=>rw [hex] at he; cases he
   | some o1=>
    rw [hex] at he
    refine wpIn_block (wpIn_mono (ih inR rd base n hrd h σ A o1 a w OK g hs hex) ?_)
    intro e a1 w1 hq
    cases o1 with
    | normal σ1 A1=>
     simp only [Sx] at he
     subst he
     cases e <;> simp only [eR] at hq
     exact hq
    | exit id' σ1 A1=>
     cases e <;> simp only [eR] at hq
     rename_i id2
     obtain ⟨rfl,hq⟩:=hq
     simp only [Exit.inBlock]
     replace he:(if id'=id then some (Out.normal σ1 A1) else some (Out.exit id' σ1 A1))=some out:=he
     split at he
     ·rename_i hid
      injection he with he; subst he
      rw [SA hid]; exact hq
     ·rename_i hid
      injection he with he; subst he
      rw [SD hid]; exact ⟨rfl,hq⟩
    | ret σ1 A1=>
     simp only [Sx] at he
     subst he
     cases e <;> simp only [eR] at hq
     exact hq
  simp only [eQ] at he
  split at he
  ·exact hplain out he
  ·rename_i m r hmr
   simp only [evC] at he hplain
   split at he
   ·rename_i σ1 A1 hb
    injection he with he; subst he
    refine wpIn_mono (hplain _ hb) ?_
    intro e a1 w1 hq
    cases e <;> simp only [eR] at hq
    obtain ⟨OK1,g1,hs1,hx1⟩:=hq
    exact ⟨OK1,g1,hs1.clear m,hx1⟩
   ·exact hplain out he
 | loop x ih=>
  intro inR rd base n hrd h σ A out a w OK g hs he
  simp only [eQ,evC] at he
  refine wpIn_loop_ghost (fun k a' w'=>∃ σ' A' OK' g',SRel E N vs base w' OK' g' σ' A' a'/\Ext w OK g w' OK' g'/\bG (evC E fuel (eQ P N vs pu on inR x (h.1.tail,h.2)).1) (h.1.headD []) k σ' A'=some out) fuel ⟨σ,A,OK,g,hs,Ext.refl _ _ _,he⟩ ?_
  rintro k a' w' ⟨σ',A',OK',g',hs',hx',hit⟩
  cases k with
  | zero=>cases hit
  | succ k=>
   simp only [bG] at hit
   cases hex:evC E fuel (eQ P N vs pu on inR x (h.1.tail,h.2)).1 (clear (h.1.headD []) σ') A' with
   | none=>rw [hex] at hit; cases hit
   | some o1=>
    rw [hex] at hit
    refine wpIn_mono (ih inR rd base n hrd (h.1.tail,h.2) _ A' o1 a' w' OK' g' (hs'.clear _) hex) ?_
    intro e a1 w1 hq
    cases o1 with
    | normal σ1 A1=>
     cases e <;> simp only [eR] at hq
     obtain ⟨OK1,g1,hs1,hx1⟩:=hq
     exact ⟨k,Nat.lt_succ_self k,σ1,A1,OK1,g1,hs1,hx'.trans hx1,hit⟩
    | exit id σ1 A1=>
     simp only [Sx] at hit
     subst hit
     cases e <;> simp only [eR] at hq
     exact eR.pre (out:=.exit id σ1 A1) (e:=.exit _) hx' hq
    | ret σ1 A1=>
     simp only [Sx] at hit
     subst hit
     cases e <;> simp only [eR] at hq
     exact eR.pre (out:=.ret σ1 A1) (e:=.ret) hx' hq
 | exit id=>
  intro inR rd base n hrd h σ A out a w OK g hs he
  simp only [eQ,evC,Sx] at he
  subst he
  exact wpIn_exit ⟨rfl,OK,g,hs,Ext.refl _ _ _⟩
 | scope x ih=>
  intro inR rd base n hrd h σ A out a w OK g hs he
  simp only [eQ,evC] at he
  refine wz (ih inR rd base n hrd h σ A out a w OK g hs he) (fun l a w hq=>?_)
  cases out <;> exact hq
 | ret=>
  intro inR rd base n hrd h σ A out a w OK g hs he
  simp only [eQ,evC,Sx] at he
  subst he
  exact wpIn_ret ⟨OK,g,hs,Ext.refl _ _ _⟩
 | rangeFunc f ps x y ihx ihy=>
  intro inR rd base n hrd h σ A out a w OK g hs he
  simp only [eQ] at he
  split at he
  ·rename_i z is hz his
   obtain rfl:=hrd rfl
   simp only [evC] at he
   exact qh hE hvn hvl hz his (fun l m σ A out a w OK g hs he=>ihx true (some l) 0 m (fun h=>by cases h) _ σ A out a w OK g hs he)
    (fun l m σ A out a w OK g hs he=>ihy true (some l) 0 m (fun h=>by cases h) _ σ A out a w OK g hs he) hs he
  ·simp [evC] at he
 | _=>
  intro inR rd base n hrd h σ A out a w OK g hs he
  simp [eQ,evC] at he
end
def frz (A:ac):Nat->AV->AV
 | 0,.agg _=>.undef
 | 0,.tup _=>.undef
 | 0,.sl ..=>.undef
 | 0,.ptr ..=>.undef
 | 0,.func ..=>.undef
 | 0,.iface ..=>.undef
 | n+1,.agg cs=>.agg (cs.map (frz A n))
 | n+1,.tup cs=>.tup (cs.map (frz A n))
 | n+1,.sl id off len=>match A[id]? with
  | some (.row s _ es)=>.fs s (((es.drop off).take len).map (frz A n))
  | _=>.undef
 | n+1,.csl id off len=>match A[id]? with
  | some (.row s _ es)=>.fs s (((es.drop off).take len).map (frz A n))
  | _=>.undef
 | n+1,.ptr id i o=>match A[id]? with
  | some (.row _ _ es)=>match es[i]? with
   | some e=>if e.solid=true/\o<(cellsOf e).length then .fp (((cellsOf e).drop o).map (frz A n)) else .undef
   | none=>.undef
  | _=>.undef
 | n+1,.func fn c1 c2=>.func fn (c1.map (frz A n)) (c2.map (frz A n))
 | n+1,.iface t v=>.iface t (frz A n v)
 | _,.map _=>.undef
 | 0,.csl ..=>.undef
 | _,a=>a
section
variable {P:Program} {w:World} {OK OK2:Nat->Prop} {g:aC} {A:ac}
theorem mS (hA:cM w OK g A) (h1:∀b,OK b->OK2 b) (h2:∀id inc,A[id]?≠some .dead->inc∈g id->OK2 inc.b):∀(n:Nat) (a:AV) (v:Value),a9 w OK g v a->a9 w OK2 aC.none v (frz A n a):=by
 have up:∀ {v:Value} {a:AV},a9 w OK aC.none v a->a9 w OK2 aC.none v a:=fun h=>h.mono h1 (fun _ _=>rfl) _ (aC.le_refl _)
 intro n
 induction n with
 | zero=>
  intro a v h
  cases a <;> simp only [frz] <;> first
   | exact .undef _ _
   | (have e:=h.inv_bool; rw [e]; exact .bool _ _)
   | (have e:=h.inv_int; rw [e]; exact .int _ _ _)
   | (obtain ⟨s,e,hs⟩:=h.inv_str; rw [e]; exact .str _ _ _ hs)
   | (obtain ⟨p,e⟩:=h.inv_nilS; rw [e]; exact .nilS _ _)
   | (have e:=h.inv_nilP; rw [e]; exact .nilP _)
   | (have e:=h.inv_nilM; rw [e]; exact .nilM _)
   | (cases h; exact .nilF _)
   | (cases h; exact .nilI _)
   | (obtain ⟨b,o,cap,T,c,fz,vals,e,hb,hh,hcap,hv,hs,hc⟩:=h.inv_fs; rw [e]; exact .fs _ b o cap _ T c fz _ vals (h1 _ hb) hh hcap (fun i hi=>up (hv i hi)) hs hc)
   | (obtain ⟨b,o,T,c,fz,vals,e,hb,hh,hne,hv,hc⟩:=h.inv_fp; rw [e]; exact .fp _ b o T c fz _ vals (h1 _ hb) hh hne (fun i hi=>up (hv i hi)) hc)
 | succ n ih=>
  intro a v h
  cases a <;> simp only [frz] <;> try first
   | exact .undef _ _
   | (have e:=h.inv_bool; rw [e]; exact .bool _ _)
   | (have e:=h.inv_int; rw [e]; exact .int _ _ _)
   | (obtain ⟨s,e,hs⟩:=h.inv_str; rw [e]; exact .str _ _ _ hs)
   | (obtain ⟨p,e⟩:=h.inv_nilS; rw [e]; exact .nilS _ _)
   | (have e:=h.inv_nilP; rw [e]; exact .nilP _)
   | (have e:=h.inv_nilM; rw [e]; exact .nilM _)
   | (cases h; exact .nilF _)
   | (cases h; exact .nilI _)
   | (obtain ⟨b,o,cap,T,c,fz,vals,e,hb,hh,hcap,hv,hs,hc⟩:=h.inv_fs; rw [e]; exact .fs _ b o cap _ T c fz _ vals (h1 _ hb) hh hcap (fun i hi=>up (hv i hi)) hs hc)
   | (obtain ⟨b,o,T,c,fz,vals,e,hb,hh,hne,hv,hc⟩:=h.inv_fp; rw [e]; exact .fp _ b o T c fz _ vals (h1 _ hb) hh hne (fun i hi=>up (hv i hi)) hc)
  case sl id off len=>
   split
   ·rename_i s gr es hid
    obtain ⟨inc,cap,ao,hinc,rfl,hl,hn,hcap,ha⟩:=h.inv_sl
    obtain ⟨hlt',hrow⟩:=Sp.1 hid
    have hent:=hA.ent id hlt'
    rw [hrow] at hent
    obtain ⟨hesz,hne,hnc,c,T,fz,hh,hu,hcs,hel⟩:=hent.2 inc hinc
    have hlen:(((es.drop off).take len).map (frz A n)).length=len:=by simp; omega
    obtain ⟨vals,hvals⟩:∃vals:Nat->Value,∀i (hi:i<len),a9 w OK g (vals i) (es[off+i]'(by omega))/\(vals i).cells.size=s/\cY (vals i)/\∀j,j<s->c[inc.o+(off+i)*s+j]?=(vals i).cells[j]?:=
     ⟨fun i=>if hi:i<len then (hel (off+i) (by omega) (by omega)).choose else undef,fun i hi=>by simp only [hi,Vz]; exact (hel (off+i) (by omega) (by omega)).choose_spec⟩
    have:=a9.fs (w:=w) (OK:=OK2) aC.none inc.b ao cap s T c fz (((es.drop off).take len).map (frz A n)) vals (h2 id inc (by rw [hid]; simp) hinc) hh (by omega)
     (fun i hi=>by simp only [Tk,TG,Tv]; exact ih _ _ (hvals i (by omega)).1)
     (fun i hi=>⟨(hvals i (by omega)).2.1,(hvals i (by omega)).2.2.1⟩)
     (fun i hi j hj=>by
      rw [<-(hvals i (by omega)).2.2.2 j hj,ha (by omega),hesz]
      congr 1; rw [SP]; omega)
    rwa [hlen] at this
   ·exact .undef _ _
  case csl id off len=>
   split
   ·rename_i s gr es hid
    obtain ⟨inc,ao,hinc,rfl,hn,hcap,ha⟩:=h.inv_csl
    obtain ⟨hlt',hrow⟩:=Sp.1 hid
    have hent:=hA.ent id hlt'
    rw [hrow] at hent
    obtain ⟨hesz,hne,hnc,c,T,fz,hh,hu,hcs,hel⟩:=hent.2 inc hinc
    have hlen:(((es.drop off).take len).map (frz A n)).length=len:=by simp; omega
    obtain ⟨vals,hvals⟩:∃vals:Nat->Value,∀i (hi:i<len),a9 w OK g (vals i) (es[off+i]'(by omega))/\(vals i).cells.size=s/\cY (vals i)/\∀j,j<s->c[inc.o+(off+i)*s+j]?=(vals i).cells[j]?:=
     ⟨fun i=>if hi:i<len then (hel (off+i) (by omega) (by omega)).choose else undef,fun i hi=>by simp only [hi,Vz]; exact (hel (off+i) (by omega) (by omega)).choose_spec⟩
    have:=a9.fs (w:=w) (OK:=OK2) aC.none inc.b ao len s T c fz (((es.drop off).take len).map (frz A n)) vals (h2 id inc (by rw [hid]; simp) hinc) hh (by omega)
     (fun i hi=>by simp only [Tk,TG,Tv]; exact ih _ _ (hvals i (by omega)).1)
     (fun i hi=>⟨(hvals i (by omega)).2.1,(hvals i (by omega)).2.2.1⟩)
     (fun i hi j hj=>by
      rw [<-(hvals i (by omega)).2.2.2 j hj,ha (by omega),hesz]
      congr 1; rw [SP]; omega)
    rwa [hlen] at this
   ·exact .undef _ _
  case ptr id i o=>
   split
   ·rename_i s gr es hid
    split
    ·rename_i e he
     split
     ·rename_i hc
      obtain ⟨hsol,ho⟩:=hc
      obtain ⟨inc,hinc,rfl,hn,ho'⟩:=h.inv_ptr
      obtain ⟨hlt',hrow⟩:=Sp.1 hid
      obtain ⟨hi',rfl⟩:=Sp.1 he
      have hent:=hA.ent id hlt'
      rw [hrow] at hent
      obtain ⟨hesz,hne,hnc,c,T,fz,hh,hu,hcs,hel⟩:=hent.2 inc hinc
      obtain ⟨v,hv,hvs,hok,hc⟩:=hel i hi' hn
      obtain ⟨k1,k2,k3⟩:=hv.cells hsol
      obtain ⟨f,hf⟩:∃f:Nat->Value,∀j (hj:j<(cellsOf es[i]).length),v.cells[j]?=some (f j)/\(f j).oneCell'=true/\a9 w OK g (f j) (cellsOf es[i])[j]:=
       ⟨fun j=>(v.cells[j]?).getD undef,fun j hj=>by
        obtain ⟨x,a1,a2,a3⟩:=k3 j hj
        simp only [a1,S9]
        exact ⟨trivial,a2,a3⟩⟩
      refine .fp _ inc.b _ T c fz _ (fun j=>f (o+j)) (h2 id inc (by rw [hid]; simp) hinc) hh (by simp; omega) (fun j hj=>?_) (fun j hj=>?_)
      ·simp only [Tk,Tv]
       exact ih _ _ (hf (o+j) (by simp at hj; omega)).2.2
      ·have hj':o+j<(cellsOf es[i]).length:=by simp at hj; omega
       refine ⟨?_,(hf (o+j) hj').2.1⟩
       rw [hesz,Ux,hc (o+j) (by omega)]
       exact (hf (o+j) hj').1
     ·exact .undef _ _
    ·exact .undef _ _
   ·exact .undef _ _
  case agg cs=>
   obtain ⟨vs,vals,rfl,hl,hg,hv⟩:=h.inv_agg
   exact .agg _ vs _ (by simpa using hl) vals (fun i hi=>hg i (by simpa using hi)) (fun i hi=>by simp only [Tk]; exact ih _ _ (hv i (by simpa using hi)))
  case tup cs=>
   obtain ⟨vs,vals,rfl,hl,hg,hv⟩:=h.inv_tup
   exact .tup _ vs _ (by simpa using hl) vals (fun i hi=>hg i (by simpa using hi)) (fun i hi=>by simp only [Tk]; exact ih _ _ (hv i (by simpa using hi)))
  case func fn c1 c2=>
   obtain ⟨vs1,vs2,vals1,vals2,rfl,hl1,hl2,hg1,hg2,hv1,hv2⟩:=h.inv_func
   exact .func _ fn vs1 vs2 _ _ (by simpa using hl1) (by simpa using hl2) vals1 vals2 (fun i hi=>hg1 i (by simpa using hi)) (fun i hi=>hg2 i (by simpa using hi))
    (fun i hi=>by simp only [Tk]; exact ih _ _ (hv1 i (by simpa using hi))) (fun i hi=>by simp only [Tk]; exact ih _ _ (hv2 i (by simpa using hi)))
  case iface t x=>
   cases h with
   | iface _ t v a hv=>exact .iface _ t v _ (ih _ _ hv)
end
inductive MH where
 | tmp (i:Nat)
 | cell (i:Nat) (agg:Bool) (size:Nat)
structure cJ where
 n:Nat
 len:Nat
 mc:MC
 res:List MH
def ly (P:Program) (vs:List Nat):List ResultVar->Option (List MH)
 | []=>some []
 | .tmp t :: r=>match vs.idxOf? t,ly P vs r with
  | some i,some l=>some (.tmp i :: l)
  | _,_=>none
 | .cell a t :: r=>match vs.idxOf? a,P.info? t,jc P t,ly P vs r with
  | some i,some ti,some b,some l=>some (.cell i b ti.size :: l)
  | _,_,_,_=>none
def yj:List Nat->Bool
 | []=>true
 | x :: r=>!r.contains x && yj r
def aH (P:Program) (fn:Func) (n:Nat) (vs:List Nat) (pu:List FuncId) (on:Bool) (hints:uv):Option cJ:=
 match fn.body with
 | some c=>match ly P vs fn.results.toList with
  | some rs=>if yj vs && vs.all (· < fn.ntmps) && vs.take n == List.range n && Nat.ble n fn.ntmps && !(fn.name == "runtime.NumGoroutine") then some ⟨n,vs.length,(eQ P fn.ntmps vs pu on false c hints).1,rs⟩ else none
  | none=>none
 | none=>none
def hJ (A:ac) (σ:List AV):List MH->Option (List AV)
 | []=>some []
 | .tmp i :: r=>(hJ A σ r).map (σ.getD i .undef :: ·)
 | .cell i b s :: r=>match ab b s A (σ.getD i .undef),hJ A σ r with
  | some a,some l=>some (a :: l)
  | _,_=>none
def dI:List AV->AV
 | [a]=>a
 | l=>.tup l
def bZ (E:Env) (fuel:Nat) (mf:cJ) (args:List AV) (A:ac):Option (AV × ac):=
 if args.length=mf.n then
  match evC E fuel mf.mc (args++List.replicate (mf.len-mf.n) .undef) A with
  | some (.normal σ A')=>(hJ A' σ mf.res).map fun l=>(dI l,A')
  | some (.ret σ A')=>(hJ A' σ mf.res).map fun l=>(dI l,A')
  | _=>none
 else none
def au (P:Program) (G:Nat->Option (List AV)) (f:FuncId) (M:bj->List AV->ac->Option (AV × ac)):Prop:=
 Enters P f/\∀ys h,jg P G ys h->∀args A r A',M h args A=some (r,A')->∀(w:World) (OK:Nat->Prop) (g:aC) (vs:List Value),cM w OK g A->Ai G ys w OK g->bW w OK g vs args ->
  Calls P f vs.toArray w fun e w'=>∃v OK' g',e=.returned v/\a9 w' OK' g' v r/\cM w' OK' g' A'/\Ext w OK g w' OK' g'
def gH (P:Program) (G:Nat->Option (List AV)) (f:FuncId) (M:List AV->ac->Option (AV × ac)):Prop:=
 Enters P f/\∀args A r A',M args A=some (r,A')->∀(w:World) (OK:Nat->Prop) (g:aC) (vs:List Value),cM w OK g A->DB G w OK->bW w OK g vs args ->
  Calls P f vs.toArray w fun e w'=>∃v OK' g',e=.returned v/\a9 w' OK' g' v r/\cM w' OK' g' A'/\Ext w OK g w' OK' g'
theorem gH.y {M:List AV->ac->Option (AV × ac)} (h:gH P G f M):au P G f (fun _=>M):=
 ⟨h.1,fun _ _ _ args A r A' he w OK g vs hA hI hl=>h.2 args A r A' he w OK g vs hA hI.1 hl⟩
section
variable {P:Program} {E:Env}
theorem sE:∀ {l:List Nat},yj l=true->l.Nodup
 | [],_=>List.nodup_nil
 | x :: r,h=>by
  simp only [yj,S4,Tt,List.contains_eq_mem,Ue] at h
  exact List.nodup_cons.2 ⟨h.1,sE h.2⟩
def uN (tmps:Array Value):ResultVar->Sem Value
 | .tmp t=>pure (tmps.getD t undef)
 | .cell a t=>do loadVar t (<-asAddr (tmps.getD a undef))
theorem iX {N:Nat} {base:Nat} {σ:List AV} {a:Act} (h:SRel E N vs base w OK g σ A a) :
  ∀(rs:List ResultVar) (ms:List MH) (l:List AV),ly P vs rs=some ms->hJ A σ ms=some l ->
   ∃us:List Value,bW w OK g us l/\(rs.mapM (uN a.tmps)).run P w=.ok us w
 | [],ms,l,hc,he=>by
  injection hc with hc; subst hc
  injection he with he; subst he
  exact ⟨[],trivial,rfl⟩
 | .tmp t :: r,ms,l,hc,he=>by
  simp only [ly] at hc
  split at hc
  ·rename_i i l' hi hl'
   injection hc with hc; subst hc
   simp only [hJ,SE] at he
   obtain ⟨l2,h2,rfl⟩:=he
   obtain ⟨us,k1,k2⟩:=iX h r l' l2 hl' h2
   obtain ⟨hlt,het⟩:=TH.1 hi |> fun h=>(⟨h.1,h.2.1⟩:∃h:i<vs.length,vs[i]=t)
   refine ⟨a.tmps.getD t undef :: us,⟨by rw [<-het]; exact h.vars i hlt,k1⟩,?_⟩
   simp [List.mapM_cons,uN,k2]
  ·cases hc
 | .cell x t :: r,ms,l,hc,he=>by
  simp only [ly] at hc
  split at hc
  ·rename_i i ti b l' hi hti hb hl'
   injection hc with hc; subst hc
   simp only [hJ] at he
   split at he
   ·rename_i y l2 h1 h2
    injection he with he; subst he
    obtain ⟨us,k1,k2⟩:=iX h r l' l2 hl' h2
    obtain ⟨hlt,het⟩:=TH.1 hi |> fun h=>(⟨h.1,h.2.1⟩:∃h:i<vs.length,vs[i]=x)
    have hv:=h.vars i hlt
    rw [het] at hv
    obtain ⟨u,e1,e2⟩:=oD hti hb h.arena hv h1
    refine ⟨u :: us,⟨e2,k1⟩,?_⟩
    have e1':(uN a.tmps (.cell x t)).run P w=.ok u w:=by
     have hp:∃ad,a.tmps.getD x undef=.pointer (some ad):=by
      generalize σ.getD i .undef=y1 at h1 hv
      cases y1 <;> first | (simp [ab] at h1; done) | (obtain ⟨inc,_,e,_⟩:=hv.inv_ptr; exact ⟨_,e⟩) | (obtain ⟨b,o,T,c,fz,vals,e,_⟩:=hv.inv_fp; exact ⟨_,e⟩)
     obtain ⟨ad,hp⟩:=hp
     rw [hp] at e1
     simp only [uN,hp]
     exact e1
    simp [List.mapM_cons,e1',k2]
   ·cases he
  ·cases hc
theorem cM.putFree (h:cM w OK g A) {D:Nat} (h1:¬ OK D) (h2:∀id inc,inc∈g id->inc.b≠D) (o:Obj):cM (w.putObj D o) OK g A where
 ent id hi:=(h.ent id hi).mono (fun _ h=>h) (fun b hb=>World.putObj_heap_other (fun e=>h1 (e ▸ hb))) g.le_refl (fun inc hin=>World.putObj_heap_other (h2 id inc hin))
 out:=h.out
 one:=h.one
 apart:=h.apart
 low id inc hi:=by simpa using h.low id inc hi
 ok b hb:=by simpa using h.ok b hb
theorem oZ.put {base:Nat} {D:Nat} (o:Obj):∀ {l:List Deferred},(∀d'∈l,d'≠⟨.collected D,#[]⟩)->oZ base w OK g l->oZ base (w.putObj D o) OK g l
 | [],_,_=>trivial
 | d :: r,hd,⟨⟨D',h1,h2,h3,h4,h5,h6⟩,hr⟩=>
  ⟨⟨D',h1,h2,(World.putObj_heap_other (fun e=>hd d (by simp) (by rw [h1,e]))).trans h3,h4,h5,h6⟩,oZ.put o (fun d' h=>hd d' (by simp [h])) hr⟩
theorem ox {N:Nat} {fn:Func} {mrs:List MH} {w0:World} {OK0:Nat->Prop} {g0:aC} {σ:List AV} {l:List AV} {tm:Array Value} {R:Ending->World->Prop}
  (hcr:ly P vs fn.results.toList=some mrs) (hl:hJ A σ mrs=some l)
  (hR:∀v w OK g,a9 w OK g v (dI l)->cM w OK g A->Ext w0 OK0 g0 w OK g->R (.returned v) w) :
  ∀(ds:List Deferred) (w:World) (OK:Nat->Prop) (g:aC),SRel E N vs w0.heap.size w OK g σ A {tmps:=tm,defers:=ds}->Ext w0 OK0 g0 w OK g->LeavesInM Fence.wide 0 P fn tm R ds .returning w
 | [],w,OK,g,hs,hx=>by
  obtain ⟨us1,k1,k2⟩:=iX hs fn.results.toList mrs l hcr hl
  refine ⟨if h:us1.toArray.size=1 then us1.toArray[0] else .tuple us1.toArray,?_,hR _ w OK g ?_ hs.arena hx⟩
  ·show (do
    let vs <-fn.results.mapM (uN tm)
    pure (if h:vs.size=1 then vs[0] else .tuple vs):Sem Value).run P w=_
   rw [Array.mapM_eq_mapM_toList]
   simp [k2]
  ·have hlen:=k1.length
   match us1,l,k1 with
   | [],[],k1=>exact .tup _ _ [] rfl (fun _=>undef) (fun i hi=>by simp at hi) (fun i hi=>by simp at hi)
   | [u],[a1],k1=>exact k1.1
   | u1 :: u2 :: ur,a1 :: a2 :: ar,k1=>
    have:¬ (u1 :: u2 :: ur).toArray.size=1:=by simp
    rw [dif_neg this]
    refine .tup _ _ _ (by simpa using hlen) (fun i=>(u1 :: u2 :: ur).getD i undef) (fun i hi=>?_) (fun i hi=>?_)
    ·have:i<(u1 :: u2 :: ur).length:=by simp at hlen hi ⊢; omega
     rw [T9,Sq this]
     simp [Sq this]
    ·have:i<(u1 :: u2 :: ur).length:=by simp at hlen hi ⊢; omega
     have:=k1.get i this hi
     simpa [Sr,Sq ‹i<(u1 :: u2 :: ur).length›] using this
 | d :: ds,w,OK,g,hs,hx=>by
  obtain ⟨⟨D,rfl,h2,h3,h4,h5,h6⟩,hr⟩:=hs.defers
  refine ⟨by simp,.inl ⟨D,w.putObj D (.deferred none),rfl,run_takeDeferred h3,?_⟩⟩
  have hok:∀b,OK b->(w.putObj D (.deferred none)).heap[b]?=w.heap[b]?:=fun b hb=>World.putObj_heap_other (fun e=>h4 (e ▸ hb))
  have hm:∀ {v:Value} {a:AV},a9 w OK g v a->a9 (w.putObj D (.deferred none)) OK g v a:=fun h=>h.mono (fun _ h=>h) hok g g.le_refl
  refine ox hcr hl hR ds _ OK g ⟨hs.size,hr.put _ h6,by simpa using hs.low,hs.len,fun i hi=>hm (hs.vars i hi),hs.arena.putFree h4 h5 _,
   ⟨hs.glob.1.mono (fun _ h=>h) hok,fun y hy=>⟨(hs.glob.2 y hy).1,(hs.glob.2 y hy).2.mono fun _ _ hv=>hm hv⟩⟩⟩ ?_
  exact {
      os:=hx.os,tape:=hx.tape,output:=hx.output,size:=by simpa using hx.size,blk:=fun b hb hu=>(World.putObj_heap_other (by omega)).trans (hx.blk b hb hu),gle:=hx.gle,okle:=hx.okle,fresh:=hx.fresh,okf:=hx.okf,
      loops:=fun b r hb hbusy=>(World.putObj_heap_other (by have:=(Tg.1 hb).1; omega)).trans (hx.loops b r hb hbusy),fix:=hx.fix}
theorem lu (hE:dq P E) {fn:Func} {n:Nat} {mf:cJ} (hf:P.funcs[f]?=some fn) (hc:aH P fn n vs pu on hints=some mf) (hpu:bO E pu) :
  Enters P f/\∀args A r A',bZ E fuel mf args A=some (r,A')->∀(w:World) (OK:Nat->Prop) (g:aC) (us:List Value),cM w OK g A->Ai E.glob E.ys w OK g->bW w OK g us args ->
  Calls P f us.toArray w fun e w'=>∃v OK' g',e=.returned v/\a9 w' OK' g' v r/\cM w' OK' g' A'/\Ext w OK g w' OK' g':=by
 unfold aH at hc
 split at hc
 ·rename_i c hb
  split at hc
  ·rename_i rs hcr
   split at hc
   ·rename_i hck
    injection hc with hc; subst hc
    simp only [S4,Tt,SV,S6,Ug] at hck
    obtain ⟨⟨⟨⟨h1,h2⟩,h3⟩,h4⟩,h5⟩:=hck
    have h4:n<=fn.ntmps:=Nat.le_of_ble_eq_true h4
    refine ⟨enters_of hf h5 hb,?_⟩
    intro args A r A' he w OK g us hA hG hl
    unfold bZ at he
    split at he
    ·rename_i hlen
     simp only at hlen
     have hul:=hl.length
     have hvn:=sE h1
     have hnv:n<=vs.length:=by
      have:=Vc List.length h3
      simp at this; omega
     have hvi:∀i (hi:i<n),vs[i]'(by omega)=i:=fun i hi=>by
      have:=Vc (fun l=>l[i]?) h3
      simp [hi] at this
      have h':i<vs.length:=by omega
      simpa [h'] using this
     have hs0:SRel E fn.ntmps vs w.heap.size w OK g (args++List.replicate (vs.length-n) .undef) A {tmps:=us.toArray++Array.replicate (fn.ntmps-us.toArray.size) undef,defers:=[]}:=by
      refine ⟨by simp; omega,trivial,SK _,by simp; omega,fun i hi=>?_,hA,hG⟩
      rcases UQ i n with hlt | hge
      ·have e1:=hvi i hlt
       rw [e1]
       have:i<us.length:=by omega
       have e2:(us.toArray++Array.replicate (fn.ntmps-us.toArray.size) undef).getD i undef=us[i]:=by
        simp [Array.getElem?_append,this]
       have e3:(args++List.replicate (vs.length-n) AV.undef).getD i .undef=args[i]'(by omega):=by
        simp [TR,show i<args.length by omega]
       rw [e2,e3]
       exact hl.get i this (by omega)
      ·have e3:(args++List.replicate (vs.length-n) AV.undef).getD i .undef=.undef:=by
        simp [TR,show ¬ i<args.length by omega,TL]
        split <;> rfl
       rw [e3]; exact .undef _ _
     have fin:∀(out:Out) (σ:List AV),evC E fuel (eQ P fn.ntmps vs pu on false c hints).1 (args++List.replicate (vs.length-n) .undef) A=some out->(out=.normal σ A'\/out=.ret σ A')->(∃l,hJ A' σ rs=some l/\dI l=r) ->
       Calls P f us.toArray w fun e w'=>∃v OK' g',e=.returned v/\a9 w' OK' g' v r/\cM w' OK' g' A'/\Ext w OK g w' OK' g':=by
      intro out σ hev hout ⟨l,hl1,hl2⟩
      have hw:=Ca hE hvn h2 hpu fuel c false none w.heap.size 0 (fun _=>rfl) hints _ A out _ w OK g hs0 hev
      refine callsIn_wide (n:=0).1 (callsIn_of_wp_marks (F:=Fence.wide) hf hb trivial (wpIn_mono hw ?_))
      intro e a w1 hq
      have key:∀OK1 g1,SRel E fn.ntmps vs w.heap.size w1 OK1 g1 σ A' a->Ext w OK g w1 OK1 g1 ->
        LeavesInM Fence.wide 0 P fn a.tmps (fun e w'=>∃v OK' g',e=.returned v/\a9 w' OK' g' v r/\cM w' OK' g' A'/\Ext w OK g w' OK' g') a.defers .returning w1:=by
       intro OK1 g1 hs1 hx1
       exact ox hcr hl1 (fun v w' OK' g' k1 k2 k3=>⟨v,OK',g',rfl,hl2 ▸ k1,k2,k3⟩) a.defers w1 OK1 g1 hs1 hx1
      rcases hout with rfl | rfl
      ·cases e <;> simp only [eR] at hq
       obtain ⟨OK1,g1,q1,q2⟩:=hq
       exact key OK1 g1 q1 q2
      ·cases e <;> simp only [eR] at hq
       obtain ⟨OK1,g1,q1,q2⟩:=hq
       exact key OK1 g1 q1 q2
     simp only at he
     split at he
     ·rename_i σ A1 hev
      simp only [SE,SH] at he
      obtain ⟨l,e1,e2,rfl⟩:=he
      exact fin _ σ hev (.inl rfl) ⟨l,e1,e2⟩
     ·rename_i σ A1 hev
      simp only [SE,SH] at he
      obtain ⟨l,e1,e2,rfl⟩:=he
      exact fin _ σ hev (.inr rfl) ⟨l,e1,e2⟩
     ·cases he
    ·cases he
   ·cases hc
  ·cases hc
 ·cases hc
theorem B6 (ys':List Yld) (σ T:List AV) (x:MX):evX {E with ys:=ys'} σ T x=evX E σ T x:=by cases x <;> rfl
theorem yK (ys':List Yld):∀(l:List MO) (σ T:List AV) (A:ac),fh {E with ys:=ys'} l σ T A=fh E l σ T A
 | [],σ,T,A=>rfl
 | o :: l,σ,T,A=>by
  have hx:evX {E with ys:=ys'} σ T=evX E σ T:=funext fun x=>B6 ys' σ T x
  have hs:∀(ρ:MX->AV) (m:MOp),bh {E with ys:=ys'} ρ A m=bh E ρ A m:=fun ρ m=>by cases m <;> rfl
  simp only [fh,hx,hs,yK ys' l]
theorem vD (ys':List Yld) (pu:List FuncId):∀(l:List MO) (σ T:List AV) (A:ac) (fs:List gh),ew {E with ys:=ys'} pu l σ T A fs=ew E pu l σ T A fs
 | [],σ,T,A,fs=>rfl
 | o :: l,σ,T,A,fs=>by
  have hx:evX {E with ys:=ys'} σ T=evX E σ T:=funext fun x=>B6 ys' σ T x
  have hs:∀(ρ:MX->AV) (m:MOp),bh {E with ys:=ys'} ρ A m=bh E ρ A m:=fun ρ m=>by cases m <;> rfl
  have hf:∀(ρ:MX->AV) (m:MOp),cg {E with ys:=ys'} pu ρ A m=cg E pu ρ A m:=fun ρ m=>by cases m <;> rfl
  simp only [ew,hx,hs,hf,vD ys' pu l]
theorem LB (ys':List Yld) (fuel:Nat):∀c:MC,evC {E with ys:=ys'} fuel c=evC E fuel c:=by
 intro c
 have hx:∀ σ T,evX {E with ys:=ys'} σ T=evX E σ T:=fun σ T=>funext fun x=>B6 ys' σ T x
 induction c with
 | region ops=>funext σ A; simp only [evC,yK]
 | regionD pu ops pairs=>funext σ A; simp only [evC,vD]
 | seq a b iha ihb=>funext σ A; simp only [evC,iha,ihb]
 | cond c a b iha ihb=>funext σ A; simp only [evC,iha,ihb,hx]
 | block id a iha=>funext σ A; simp only [evC,iha]
 | loop mask a iha=>funext σ A; simp only [evC,iha]
 | rangeFunc f ps a b iha ihb=>funext σ A; simp only [evC,iha,ihb,hx]
 | scope a iha=>funext σ A; simp only [evC,iha]
 | _=>rfl
theorem EO (ys':List Yld) (fuel:Nat) (mf:cJ) (args:List AV) (A:ac):bZ {E with ys:=ys'} fuel mf args A=bZ E fuel mf args A:=by
 unfold bZ; simp only [LB]
end
abbrev Dt:=List AV->ac->Option (AV × ac)
abbrev aU:=List AV->Option AV
abbrev aJ:=bj->Dt
def aD:List (FuncId × aJ)->FuncId->Option aJ
 | [],_=>none
 | (g,M) :: r,f=>if f=g then some M else aD r f
def lz (fs:List (FuncId × aJ)) (h:bj):bj:=fun fv args A=>
 match fv with
 | .func (.func f) first cap=>match aD fs f with
  | some M=>M h (first++args++cap) A
  | none=>none
 | _=>none
def dU (G:Nat->Option (List AV)) (fs:List (FuncId × aJ)) (h:bj):Env:=⟨lz fs,G,[],h⟩
def aq (G:Nat->Option (List AV)) (fs:List (FuncId × aJ)):Env:=dU G fs fun _ _ _=>none
def aw (P:Program) (G:Nat->Option (List AV)) (f:FuncId) (M:aU):Prop:=
 Enters P f/\∀args r,M args=some r->∀(w:World) (OK:Nat->Prop) (vs:List Value),(∀b,OK b->b<w.heap.size)->DB G w OK->bW w OK aC.none vs args ->
  Calls P f vs.toArray w fun e w'=>∃v OK',e=.returned v/\a9 w' OK' aC.none v r/\(∀b,OK' b->b<w'.heap.size)/\Ext w OK aC.none w' OK' aC.none
def br:Nat->AV->Bool
 | _,.bool _=>true
 | _,.int ..=>true
 | _,.str _=>true
 | _,.nilS=>true
 | _,.nilP=>true
 | _,.nilM=>true
 | _,.nilF=>true
 | _,.nilI=>true
 | _,.undef=>true
 | n+1,.agg cs=>cs.all (br n)
 | n+1,.tup cs=>cs.all (br n)
 | n+1,.iface _ v=>br n v
 | _,_=>false
def A8 (n:Nat) (M:aU):Dt:=fun args A=>
 match M (args.map (frz A n)) with
 | some r=>if br n r || args.all (bR n) then some (r,A) else none
 | none=>none
def aE (n:Nat) (M:aU):aJ:=fun _=>A8 n M
section
variable {P:Program} {G:Nat->Option (List AV)}
theorem iH {w':World} {g':aC}:∀(n:Nat) (a:AV) (v:Value),br n a=true->a9 w OK g v a->a9 w' OK' g' v a:=by
 intro n
 induction n with
 | zero=>
  intro a v hs h
  cases a <;> simp only [br,SZ] at hs <;> first
   | exact .undef _ _
   | (have e:=h.inv_bool; rw [e]; exact .bool _ _)
   | (have e:=h.inv_int; rw [e]; exact .int _ _ _)
   | (obtain ⟨s,e,hs⟩:=h.inv_str; rw [e]; exact .str _ _ _ hs)
   | (obtain ⟨p,e⟩:=h.inv_nilS; rw [e]; exact .nilS _ _)
   | (have e:=h.inv_nilP; rw [e]; exact .nilP _)
   | (have e:=h.inv_nilM; rw [e]; exact .nilM _)
   | (cases h; exact .nilF _)
   | (cases h; exact .nilI _)
 | succ n ih=>
  intro a v hs h
  cases a <;> simp only [br,SZ] at hs <;> try first
   | exact .undef _ _
   | (have e:=h.inv_bool; rw [e]; exact .bool _ _)
   | (have e:=h.inv_int; rw [e]; exact .int _ _ _)
   | (obtain ⟨s,e,hs⟩:=h.inv_str; rw [e]; exact .str _ _ _ hs)
   | (obtain ⟨p,e⟩:=h.inv_nilS; rw [e]; exact .nilS _ _)
   | (have e:=h.inv_nilP; rw [e]; exact .nilP _)
   | (have e:=h.inv_nilM; rw [e]; exact .nilM _)
   | (cases h; exact .nilF _)
   | (cases h; exact .nilI _)
  case agg cs=>
   simp only [SV] at hs
   obtain ⟨vs,vals,rfl,hl,hg,hv⟩:=h.inv_agg
   exact .agg _ vs _ hl vals hg (fun i hi=>ih _ _ (hs _ (SC hi)) (hv i hi))
  case tup cs=>
   simp only [SV] at hs
   obtain ⟨vs,vals,rfl,hl,hg,hv⟩:=h.inv_tup
   exact .tup _ vs _ hl vals hg (fun i hi=>ih _ _ (hs _ (SC hi)) (hv i hi))
  case iface t x=>
   cases h with
   | iface _ t v a hv=>exact .iface _ t v _ (ih _ _ hs hv)
theorem w6:∀(n:Nat) (a:AV) (v:Value),bR n a=true->a9 w OK g v a->a9 w OK aC.none v (frz A n a):=by
 intro n
 induction n with
 | zero=>
  intro a v hs h
  cases a <;> simp only [bR,SZ] at hs <;> simp only [frz] <;> first
   | exact .undef _ _
   | (have e:=h.inv_bool; rw [e]; exact .bool _ _)
   | (have e:=h.inv_int; rw [e]; exact .int _ _ _)
   | (obtain ⟨s,e,hs⟩:=h.inv_str; rw [e]; exact .str _ _ _ hs)
   | (obtain ⟨p,e⟩:=h.inv_nilS; rw [e]; exact .nilS _ _)
   | (have e:=h.inv_nilP; rw [e]; exact .nilP _)
   | (have e:=h.inv_nilM; rw [e]; exact .nilM _)
   | (cases h; exact .nilF _)
   | (cases h; exact .nilI _)
   | (obtain ⟨b,o,cap,T,c,fz,vals,e,hb,hh,hcap,hv,hs,hc⟩:=h.inv_fs; rw [e]; exact .fs _ b o cap _ T c fz _ vals hb hh hcap hv hs hc)
   | (obtain ⟨b,o,T,c,fz,vals,e,hb,hh,hne,hv,hc⟩:=h.inv_fp; rw [e]; exact .fp _ b o T c fz _ vals hb hh hne hv hc)
 | succ n ih=>
  intro a v hs h
  cases a <;> simp only [bR,SZ] at hs <;> simp only [frz] <;> try first
   | exact .undef _ _
   | (have e:=h.inv_bool; rw [e]; exact .bool _ _)
   | (have e:=h.inv_int; rw [e]; exact .int _ _ _)
   | (obtain ⟨s,e,hs⟩:=h.inv_str; rw [e]; exact .str _ _ _ hs)
   | (obtain ⟨p,e⟩:=h.inv_nilS; rw [e]; exact .nilS _ _)
   | (have e:=h.inv_nilP; rw [e]; exact .nilP _)
   | (have e:=h.inv_nilM; rw [e]; exact .nilM _)
   | (cases h; exact .nilF _)
   | (cases h; exact .nilI _)
   | (obtain ⟨b,o,cap,T,c,fz,vals,e,hb,hh,hcap,hv,hs,hc⟩:=h.inv_fs; rw [e]; exact .fs _ b o cap _ T c fz _ vals hb hh hcap hv hs hc)
   | (obtain ⟨b,o,T,c,fz,vals,e,hb,hh,hne,hv,hc⟩:=h.inv_fp; rw [e]; exact .fp _ b o T c fz _ vals hb hh hne hv hc)
  case agg cs=>
   simp only [SV] at hs
   obtain ⟨vs,vals,rfl,hl,hg,hv⟩:=h.inv_agg
   exact .agg _ vs _ (by simpa using hl) vals (fun i hi=>hg i (by simpa using hi)) (fun i hi=>by simp only [Tk]; exact ih _ _ (hs _ (SC _)) (hv i (by simpa using hi)))
  case tup cs=>
   simp only [SV] at hs
   obtain ⟨vs,vals,rfl,hl,hg,hv⟩:=h.inv_tup
   exact .tup _ vs _ (by simpa using hl) vals (fun i hi=>hg i (by simpa using hi)) (fun i hi=>by simp only [Tk]; exact ih _ _ (hs _ (SC _)) (hv i (by simpa using hi)))
  case func fn c1 c2=>
   simp only [S4,SV] at hs
   obtain ⟨vs1,vs2,vals1,vals2,rfl,hl1,hl2,hg1,hg2,hv1,hv2⟩:=h.inv_func
   exact .func _ fn vs1 vs2 _ _ (by simpa using hl1) (by simpa using hl2) vals1 vals2 (fun i hi=>hg1 i (by simpa using hi)) (fun i hi=>hg2 i (by simpa using hi))
    (fun i hi=>by simp only [Tk]; exact ih _ _ (hs.1 _ (SC _)) (hv1 i (by simpa using hi))) (fun i hi=>by simp only [Tk]; exact ih _ _ (hs.2 _ (SC _)) (hv2 i (by simpa using hi)))
  case iface t x=>
   cases h with
   | iface _ t v a hv=>exact .iface _ t v _ (ih _ _ hs hv)
theorem bW.map {g':aC} {vs:List Value} {l:List AV} {F:AV->AV} (h:bW w OK g vs l) (hm:∀v a,a∈l->a9 w OK g v a->a9 w OK' g' v (F a)):bW w OK' g' vs (l.map F):=by
 induction vs generalizing l with
 | nil=>cases l with
  | nil=>exact trivial
  | cons a r=>exact h.elim
 | cons v vs ih=>cases l with
  | nil=>exact h.elim
  | cons a r=>exact ⟨hm v a (by simp) h.1,ih h.2 fun v a ha=>hm v a (by simp [ha])⟩
theorem gH.of_pure {M:aU} (h:aw P G f M) (n:Nat):gH P G f (A8 n M):=by
 refine ⟨h.1,?_⟩
 intro args A r A' he w OK g vs hA hG hl
 unfold A8 at he
 split at he
 ·rename_i r0 hM
  split at he
  ·rename_i hc
   injection he with he
   injection he with e1 e2
   subst e1; subst e2
   by_cases hn:args.all (bR n)=true
   ·have hn':=SV.1 hn
    refine (h.2 _ _ hM w OK vs hA.ok hG (hl.map fun v a ha hv=>w6 n a v (hn' a ha) hv)).mono ?_
    rintro e w' ⟨v,OK',rfl,hv,hok',hx⟩
    have hb:∀b,b<w.heap.size->w'.heap[b]?=w.heap[b]?:=fun b hb=>hx.blk b hb (fun _ _ (hi:_∈[])=>by cases hi)
    exact ⟨v,OK',g,rfl,hv.none_to,hA.keep hx.size hb OK' hx.okle hx.okf hok',hx.os,hx.tape,hx.output,hx.size,fun b hb' _=>hb b hb',g.le_refl,hx.okle,fun id inc hi=>.inl ⟨id,inc,hi,rfl⟩,hx.okf,hx.loops,fun _ _ _ _=>rfl⟩
   ·have hsc:br n r0=true:=by simpa [hn] using hc
    have hok2:∀b,(OK b\/∃id inc,inc∈g id/\inc.b=b)->b<w.heap.size:=fun b hb=>by
     rcases hb with hb | ⟨id,inc,hi,rfl⟩
     ·exact hA.ok b hb
     ·exact hA.low id inc hi
    have hl2:bW w (fun b=>OK b\/∃id inc,inc∈g id/\inc.b=b) aC.none vs (args.map (frz A n)):=hl.map fun v a _ hv=>mS hA (fun b hb=>Or.inl hb) (fun id inc _ hi=>Or.inr ⟨id,inc,hi,rfl⟩) n a v hv
    refine (h.2 _ _ hM w (fun b=>OK b\/∃id inc,inc∈g id/\inc.b=b) vs hok2 (hG.mono (fun b hb=>.inl hb) (fun _ _=>rfl)) hl2).mono ?_
    rintro e w' ⟨v,OK',rfl,hv,hok',hx⟩
    have hb:∀b,b<w.heap.size->w'.heap[b]?=w.heap[b]?:=fun b hb=>hx.blk b hb (fun _ _ (hi:_∈[])=>by cases hi)
    exact ⟨v,OK,g,rfl,iH n _ _ hsc hv,hA.keep hx.size hb OK (fun _ h=>h) (fun _ h=>.inl h) (fun b hb=>TU (hA.ok b hb) hx.size),hx.os,hx.tape,hx.output,hx.size,fun b hb' _=>hb b hb',g.le_refl,fun _ h=>h,fun id inc hi=>.inl ⟨id,inc,hi,rfl⟩,fun _ h=>.inl h,hx.loops,fun _ _ _ _=>rfl⟩
  ·cases he
 ·cases he
theorem cM.nil (h:∀b,OK b->b<w.heap.size):cM w OK aC.none []:=
 ⟨fun id hi=>by simp at hi,fun _ _=>rfl,fun _ _ _ _ _ _ (hi:_∈[])=>(by cases hi),fun _ _ (hi:_∈[])=>(by cases hi),fun _ _ (hi:_∈[])=>(by cases hi),h⟩
theorem aw.of_fn {M':Dt} {M:aU} (h:gH P G f M') (n:Nat) (hM:∀args r,M args=some r->∃r0 A',M' args []=some (r0,A')/\frz A' n r0=r):aw P G f M:=by
 refine ⟨h.1,?_⟩
 intro args r he w OK vs hok hG hl
 obtain ⟨r0,A',h1,rfl⟩:=hM args r he
 refine (h.2 _ _ _ _ h1 w OK aC.none vs (cM.nil hok) hG hl).mono ?_
 rintro e w' ⟨v,OK',g',rfl,hv,hA,hx⟩
 refine ⟨v,fun b=>OK' b\/∃id inc,inc∈g' id/\inc.b=b,rfl,mS hA (fun b hb=>.inl hb) (fun id inc _ hi=>.inr ⟨id,inc,hi,rfl⟩) n r0 v hv,?_,?_⟩
 ·rintro b (hb | ⟨id,inc,hi,rfl⟩)
  ·exact hA.ok b hb
  ·exact hA.low id inc hi
 ·refine ⟨hx.os,hx.tape,hx.output,hx.size,hx.blk,aC.le_refl _,fun b hb=>.inl (hx.okle b hb),fun _ _ (hi:_∈[])=>(by cases hi),?_,hx.loops,fun _ _ _ _=>rfl⟩
  rintro b (hb | ⟨id,inc,hi,rfl⟩)
  ·exact hx.okf b hb
  ·rcases hx.fresh id inc hi with ⟨_,_,h0,_⟩ | h1
   ·cases h0
   ·exact .inr h1
theorem uR {B:ac}:∀(n:Nat) (a:AV),bR n a=true->frz B n a=frz A n a:=by
 intro n
 induction n with
 | zero=>intro a h; cases a <;> simp [bR] at h <;> rfl
 | succ n ih=>
  intro a h
  cases a <;> simp only [bR,S4,SV,SZ] at h <;> simp only [frz]
  ·congr 1; exact S3 fun x hx=>ih x (h x hx)
  ·congr 1; exact S3 fun x hx=>ih x (h x hx)
  ·congr 1
   ·exact S3 fun x hx=>ih x (h.1 x hx)
   ·exact S3 fun x hx=>ih x (h.2 x hx)
  ·rw [ih _ h]
theorem bO.cons {fs:List (FuncId × aJ)} {h0:bj} {M:aU} (h:aD fs f=some (aE 4 M)) (hr:bO (dU G fs h0) pu):bO (dU G fs h0) (f :: pu):=by
 intro k hk hh args A r A' he
 rcases Tj.1 hk with rfl | hk
 ·simp only [dU,lz,h,aE,A8,T3,S5] at he ⊢
  split at he
  ·rename_i r' hM
   simp only [Sw,Sx,SH] at he
   obtain ⟨hc,rfl,rfl⟩:=he
   refine ⟨rfl,fun hn B=>?_⟩
   have hm:args.map (frz B 4)=args.map (frz A 4):=S3 fun x hx=>uR 4 x (SV.1 hn x hx)
   rw [hm,hM]
   simp only [hc,TS]
  ·cases he
 ·exact hr k hk hh args A r A' he
theorem sW {fs:List (FuncId × aJ)} (hfs:∀f M,aD fs f=some M->au P G f M) {ys:List Yld} {h0:bj} (h0s:jg P G ys h0):dq P {dU G fs h0 with ys:=ys}:=by
 refine ⟨h0s,?_⟩
 intro ys' hd hsub hds fv args A r A' he w OK g v vs hA hG hv hl
 simp only [dU,lz] at he
 split at he
 ·rename_i f first cap
  split at he
  ·rename_i M hM
   obtain ⟨vs1,vs2,vals1,vals2,rfl,hl1,hl2,hg1,hg2,hv1,hv2⟩:=hv.inv_func
   obtain ⟨hen,hcall⟩:=hfs f M hM
   have hlist:bW w OK g (vs1.toList++vs++vs2.toList) (first++args++cap):=by
    have hll:=hl.length
    refine bW.of_get (by simp [hl1,hl2,hll]) (fun i h1 h2=>?_)
    simp only [List.getElem_append]
    simp only [SW,Tc,hl1,hll]
    have k1:∀i (h:i<vs1.toList.length) (h':i<first.length),a9 w OK g vs1.toList[i] first[i]:=fun i h h'=>by
     have:=hg1 i h'
     rw [S0 (by rw [hl1]; exact h')] at this
     injection this with this
     simp only [UF,this]; exact hv1 i h'
    have k2:∀i (h:i<vs2.toList.length) (h':i<cap.length),a9 w OK g vs2.toList[i] cap[i]:=fun i h h'=>by
     have:=hg2 i h'
     rw [S0 (by rw [hl2]; exact h')] at this
     injection this with this
     simp only [UF,this]; exact hv2 i h'
    split
    ·split
     ·exact k1 _ _ _
     ·exact hl.get _ _ _
    ·exact k2 _ _ _
   have:=hcall ys' hd hds _ _ _ _ he w OK g _ hA hG hlist
   refine ⟨⟨.fn (.func f) vs2,vs1++vs.toArray⟩,f,(vs1.toList++vs++vs2.toList).toArray,rfl,?_,this⟩
   have e:(vs1.toList++vs++vs2.toList).toArray=vs1++vs.toArray++vs2:=by simp
   rw [e]
   exact hen _ w
  ·cases he
 ·cases he
theorem ax {fs:List (FuncId × aJ)} (hfs:∀f M,aD fs f=some M->au P G f M):dq P (aq G fs):=
 sW hfs (h0:=fun _ _ _=>none) (ys:=[]) (fun _ _ _ _ _ h=>by cases h)
theorem cj (hE:dq P E) (hys:E.ys=[]) {fn:Func} {mf:cJ} {fuel:Nat} (hf:P.funcs[f]?=some fn) (hc:aH P fn n vs pu on hints=some mf) (hpu:bO E pu) :
  gH P E.glob f (bZ E fuel mf):=by
 obtain ⟨h1,h2⟩:=lu (fuel:=fuel) hE hf hc hpu
 exact ⟨h1,fun args A r A' he w OK g us hA hG hl=>h2 args A r A' he w OK g us hA ⟨hG,fun y hy=>by rw [hys] at hy; cases hy⟩ hl⟩
theorem cw {fs:List (FuncId × aJ)} (hfs:∀f M,aD fs f=some M->au P G f M) {fn:Func} {mf:cJ} {fuel:Nat} (hf:P.funcs[f]?=some fn) (hc:aH P fn n vs pu on hints=some mf) (hpu:bO (aq G fs) pu:=by first | exact bO.nil | (repeat (first | exact bO.nil | refine bO.cons (M:=_) rfl ?_))) :
  au P G f (fun h=>bZ (dU G fs h) fuel mf):=by
 refine ⟨(lu (fuel:=fuel) (ax hfs) hf hc hpu).1,fun ys h hh args A r A' he=>?_⟩
 have:=(lu (fuel:=fuel) (sW hfs hh) hf hc hpu).2 args A r A' (by rw [EO]; exact he)
 exact this
theorem au.of_pure {M:aU} (h:aw P G f M) (n:Nat):au P G f (aE n M):=(gH.of_pure h n).y
theorem aB {Q:FuncId->aJ->Prop}:∀f M,aD [] f=some M->Q f M:=fun _ _ h=>by cases h
theorem ag {Q:FuncId->aJ->Prop} {g:FuncId} {N:aJ} {r:List (FuncId × aJ)} (h1:Q g N) (h2:∀f M,aD r f=some M->Q f M):∀f M,aD ((g,N) :: r) f=some M->Q f M:=fun f M h=>by
 simp only [aD] at h
 split at h
 ·rename_i e; injection h with h; subst h; subst e; exact h1
 ·exact h2 f M h
end
inductive KC where
 | code (c:MC)
 | ops (l:List MO) (T:List AV)
 | opsF (pu:List FuncId) (l:List MO) (T:List AV) (fs:List gh) (pairs:List (Nat × Nat))
 | blk (id:Nat)
def evK (E:Env) (fuel:Nat):List KC->Option Out->Option Out
 | [],o=>o
 | .code c :: k,some (.normal σ A)=>evK E fuel k (evC E fuel c σ A)
 | .ops l T :: k,some (.normal σ A)=>evK E fuel k ((fh E l σ T A).map fun x=>.normal x.1 x.2)
 | .opsF pu l T fs pairs :: k,some (.normal σ A)=>evK E fuel k (match ew E pu l σ T A fs with
  | some (σ',A',fs')=>if pairs.all (fun p=>(fs'.getD p.1 .no).apart (fs'.getD p.2 .no)) then some (.normal σ' A') else none
  | none=>none)
 | .blk id :: k,some (.exit id' σ A)=>evK E fuel k (if id'=id then some (.normal σ A) else some (.exit id' σ A))
 | _ :: k,o=>evK E fuel k o
def run (E:Env) (fuel:Nat) (k:List KC) (σ:List AV) (A:ac):Option Out:=evK E fuel k (some (.normal σ A))
def mU (E:Env) (fuel:Nat) (id:Nat) (k:List KC) (σ:List AV) (A:ac):Option Out:=evK E fuel k (some (.exit id σ A))
def after (E:Env) (fuel:Nat) (k:List KC) (o:Out):Option Out:=evK E fuel k (some o)
section
variable {E:Env} {fuel:Nat} {σ:List AV} {A:ac} {k:List KC}
theorem fm:∀k,evK E fuel k none=none
 | []=>rfl
 | .code _ :: k=>by simp [evK,fm k]
 | .ops _ _ :: k=>by simp [evK,fm k]
 | .opsF .. :: k=>by simp [evK,fm k]
 | .blk _ :: k=>by simp [evK,fm k]
theorem lj:∀k,evK E fuel k (some (.ret σ A))=some (.ret σ A)
 | []=>rfl
 | .code _ :: k=>by simp [evK,lj k]
 | .ops _ _ :: k=>by simp [evK,lj k]
 | .opsF .. :: k=>by simp [evK,lj k]
 | .blk _ :: k=>by simp [evK,lj k]
theorem qU (c:MC):evC E fuel c σ A=run E fuel [.code c] σ A:=rfl
theorem HI:run E fuel [] σ A=some (.normal σ A):=rfl
theorem Ea:run E fuel (.code .skip :: k) σ A=run E fuel k σ A:=rfl
theorem iJ (a b:MC):run E fuel (.code (.seq a b) :: k) σ A=run E fuel (.code a :: .code b :: k) σ A:=by
 simp only [run,evK,evC]
 cases evC E fuel a σ A with
 | none=>simp [fm]
 | some o=>cases o <;> simp [evK]
theorem zy (l:List MO):run E fuel (.code (.region l) :: k) σ A=run E fuel (.ops l [] :: k) σ A:=rfl
theorem wO (pu:List FuncId) (l:List MO) (pairs:List (Nat × Nat)):run E fuel (.code (.regionD pu l pairs) :: k) σ A=run E fuel (.opsF pu l [] [] pairs :: k) σ A:=rfl
theorem AS (id:Nat) (a:MC):run E fuel (.code (.block id a) :: k) σ A=run E fuel (.code a :: .blk id :: k) σ A:=by
 simp only [run,evK,evC]
 cases evC E fuel a σ A with
 | none=>simp [fm]
 | some o=>cases o <;> simp [evK,lj]
theorem HJ (id:Nat):run E fuel (.blk id :: k) σ A=run E fuel k σ A:=rfl
theorem AR (a:MC):run E fuel (.code (.scope a) :: k) σ A=run E fuel (.code a :: k) σ A:=rfl
theorem Ec (mask:List Nat):run E fuel (.code (.kill mask) :: k) σ A=run E fuel k (clear mask σ) A:=rfl
theorem HG:run E fuel (.code .ret :: k) σ A=some (.ret σ A):=lj _
theorem Ed (id:Nat):run E fuel (.code (.exit id) :: k) σ A=mU E fuel id k σ A:=rfl
theorem BX (id:Nat):mU E fuel id [] σ A=some (.exit id σ A):=rfl
theorem zR (id:Nat) (c:MC):mU E fuel id (.code c :: k) σ A=mU E fuel id k σ A:=rfl
theorem BW (id:Nat) (l:List MO) (T:List AV):mU E fuel id (.ops l T :: k) σ A=mU E fuel id k σ A:=rfl
theorem zQ (id:Nat) (pu:List FuncId) (l:List MO) (T:List AV) (fs:List gh) (pairs:List (Nat × Nat)):mU E fuel id (.opsF pu l T fs pairs :: k) σ A=mU E fuel id k σ A:=rfl
theorem BY (id:Nat):mU E fuel id (.blk id :: k) σ A=run E fuel k σ A:=by simp [mU,evK,run]
theorem vB (id id':Nat) (h:id≠id'):mU E fuel id (.blk id' :: k) σ A=mU E fuel id k σ A:=by simp [mU,evK,h]
theorem x5 (c:MX) (a b:MC) (t:Bool) (h:evX E σ [] c=.bool t):run E fuel (.code (.cond c a b) :: k) σ A=if t then run E fuel (.code a :: k) σ A else run E fuel (.code b :: k) σ A:=by
 simp only [run,evK,evC,h]; cases t <;> rfl
theorem zz (c:MX) (a b:MC) (h:evX E σ [] c=.bool true):run E fuel (.code (.cond c a b) :: k) σ A=run E fuel (.code a :: k) σ A:=by
 rw [x5 c a b true h]; rfl
theorem zB (c:MX) (a b:MC) (h:evX E σ [] c=.bool false):run E fuel (.code (.cond c a b) :: k) σ A=run E fuel (.code b :: k) σ A:=by
 rw [x5 c a b false h]; rfl
theorem wP (T:List AV):run E fuel (.ops [] T :: k) σ A=run E fuel k σ A:=rfl
theorem Ko (d:Option Nat) (op:MOp) (rest:List MO) (T:List AV):run E fuel (.ops (⟨d,op,none⟩ :: rest) T :: k) σ A =
  match bh E (evX E σ T) A op with
  | some (v,A')=>run E fuel (.ops rest (T++[v]) :: k) (dY σ d v) A'
  | none=>none:=by
 simp only [run,evK,fh,dm]
 cases bh E (evX E σ T) A op with
 | none=>simp [fm]
 | some x=>rfl
theorem tN (d:Option Nat) (op:MOp) (rest:List MO) (T:List AV) (x:MX) (want:Bool) (h:evX E σ T x=.bool want):run E fuel (.ops (⟨d,op,some (x,want)⟩ :: rest) T :: k) σ A =
  match bh E (evX E σ T) A op with
  | some (v,A')=>run E fuel (.ops rest (T++[v]) :: k) (dY σ d v) A'
  | none=>none:=by
 simp only [run,evK,fh,dm,h]
 cases want <;> cases bh E (evX E σ T) A op <;> simp [fm]
theorem qc (d:Option Nat) (op:MOp) (rest:List MO) (T:List AV) (x:MX) (want:Bool) (h:evX E σ T x=.bool (!want)):run E fuel (.ops (⟨d,op,some (x,want)⟩ :: rest) T :: k) σ A =
  run E fuel (.ops rest (T++[.tup []]) :: k) (dY σ d (.tup [])) A:=by
 simp only [run,evK,fh,dm,h]
 cases want <;> rfl
theorem wQ (d:Option Nat) (op:MOp) (rest:List MO) (T:List AV) (x:MX) (want:Bool) (h:evX E σ T x=.tup []):run E fuel (.ops (⟨d,op,some (x,want)⟩ :: rest) T :: k) σ A =
  run E fuel (.ops rest (T++[.tup []]) :: k) (dY σ d (.tup [])) A:=by
 simp only [run,evK,fh,dm,h]
theorem uK (pu:List FuncId) (T:List AV) (fs:List gh) (pairs:List (Nat × Nat)):run E fuel (.opsF pu [] T fs pairs :: k) σ A=if pairs.all (fun p=>(fs.getD p.1 .no).apart (fs.getD p.2 .no)) then run E fuel k σ A else none:=by
 simp only [run,evK,ew]
 split
 ·rfl
 ·exact fm _
theorem HH (pu:List FuncId) (d:Option Nat) (op:MOp) (rest:List MO) (T:List AV) (fs:List gh) (pairs:List (Nat × Nat)):run E fuel (.opsF pu (⟨d,op,none⟩ :: rest) T fs pairs :: k) σ A =
  match bh E (evX E σ T) A op with
  | some (v,A')=>run E fuel (.opsF pu rest (T++[v]) (fs++[cg E pu (evX E σ T) A op]) pairs :: k) (dY σ d v) A'
  | none=>none:=by
 simp only [run,evK,ew,dm]
 cases bh E (evX E σ T) A op with
 | none=>simp [fm]
 | some x=>rfl
theorem rE (pu:List FuncId) (d:Option Nat) (op:MOp) (rest:List MO) (T:List AV) (fs:List gh) (pairs:List (Nat × Nat)) (x:MX) (want:Bool) (h:evX E σ T x=.bool want):run E fuel (.opsF pu (⟨d,op,some (x,want)⟩ :: rest) T fs pairs :: k) σ A =
  match bh E (evX E σ T) A op with
  | some (v,A')=>run E fuel (.opsF pu rest (T++[v]) (fs++[cg E pu (evX E σ T) A op]) pairs :: k) (dY σ d v) A'
  | none=>none:=by
 simp only [run,evK,ew,dm,h]
 cases want <;> cases bh E (evX E σ T) A op <;> simp [fm]
theorem oN (pu:List FuncId) (d:Option Nat) (op:MOp) (rest:List MO) (T:List AV) (fs:List gh) (pairs:List (Nat × Nat)) (x:MX) (want:Bool) (h:evX E σ T x=.bool (!want)):run E fuel (.opsF pu (⟨d,op,some (x,want)⟩ :: rest) T fs pairs :: k) σ A =
  run E fuel (.opsF pu rest (T++[.tup []]) (fs++[.no]) pairs :: k) (dY σ d (.tup [])) A:=by
 simp only [run,evK,ew,dm,h]
 cases want <;> rfl
theorem uL (pu:List FuncId) (d:Option Nat) (op:MOp) (rest:List MO) (T:List AV) (fs:List gh) (pairs:List (Nat × Nat)) (x:MX) (want:Bool) (h:evX E σ T x=.tup []):run E fuel (.opsF pu (⟨d,op,some (x,want)⟩ :: rest) T fs pairs :: k) σ A =
  run E fuel (.opsF pu rest (T++[.tup []]) (fs++[.no]) pairs :: k) (dY σ d (.tup [])) A:=by
 simp only [run,evK,ew,dm,h]
theorem Eb (mask:List Nat) (a:MC) (o:Out) (h:bG (evC E fuel a) mask fuel σ A=some o):run E fuel (.code (.loop mask a) :: k) σ A=after E fuel k o:=by
 simp only [run,evK,evC,h,after]
theorem Cz (mask:List Nat):∀(σ:List AV) (i:Nat),(clear mask σ).set i .undef=clear mask (σ.set i .undef):=by
 induction mask with
 | nil=>intro σ i; rfl
 | cons j m ih=>
  intro σ i
  show (clear m (σ.set j .undef)).set i .undef=clear m ((σ.set i .undef).set j .undef)
  rw [ih]
  congr 1
  by_cases h:i=j
  ·subst h; rfl
  ·exact (Uz _ _ h).symm
theorem xz (mask:List Nat):∀ σ:List AV,clear mask (clear mask σ)=clear mask σ:=by
 induction mask with
 | nil=>intro σ; rfl
 | cons j m ih=>
  intro σ
  show clear m ((clear m (σ.set j .undef)).set j .undef)=clear m (σ.set j .undef)
  rw [Cz,UV,ih]
theorem sN (body:List AV->ac->Option Out) (mask:List Nat) (n:Nat) (σ:List AV) (A:ac):bG body mask n σ A=bG body mask n (clear mask σ) A:=by
 cases n with
 | zero=>rfl
 | succ n=>simp only [bG,xz]
theorem aK (mask:List Nat) (a:MC) (o:Out) (h:bG (evC E fuel a) mask fuel (clear mask σ) A=some o):run E fuel (.code (.loop mask a) :: k) σ A=after E fuel k o:=
 Eb mask a o (by rw [sN]; exact h)
theorem iR {a:MC} {mask:List Nat} (I:Nat->List AV->ac->Prop) (Q:Out->Prop) (hs:∀k σ A,I k σ A->(∃ σ' A',run E fuel [.code a] (clear mask σ) A=some (.normal σ' A')/\∃k',k'<k/\I k' σ' A')\/(∃o,run E fuel [.code a] (clear mask σ) A=some o/\(∀ σ' A',o≠.normal σ' A')/\Q o)) :
  ∀(n k:Nat) (σ:List AV) (A:ac),k<n->I k σ A->∃o,bG (evC E fuel a) mask n σ A=some o/\Q o:=by
 intro n
 induction n with
 | zero=>intro k σ A h; omega
 | succ n ih=>
  intro k σ A h hi
  rw [bG]
  rcases hs k σ A hi with ⟨σ',A',h1,k',h2,h3⟩ | ⟨o,h1,h2,h3⟩
  ·rw [qU,h1]
   exact ih k' σ' A' (by omega) h3
  ·rw [qU,h1]
   cases o with
   | normal σ' A'=>exact absurd rfl (h2 σ' A')
   | exit id σ' A'=>exact ⟨_,rfl,h3⟩
   | ret σ' A'=>exact ⟨_,rfl,h3⟩
theorem lT (f:MX) (ps:List Nat) (a b:MC) (o:Out)
  (h:∀(l:Nat) (r:Loop),(match E.callY (gv A.length l r σ ps (evC E fuel a) (evC E fuel b) E.hand) (evX E σ [] f) [.func (.yield l) [] []] (A++[Ent.loop r 0]) with
   | some (_,A')=>nj A.length σ A'
   | none=>none)=some o):run E fuel (.code (.rangeFunc f ps a b) :: k) σ A=after E fuel k o:=by
 have:evC E fuel (.rangeFunc f ps a b) σ A=some o:=by
  simp only [evC]
  exact Lz (lK:=fun (_:Nat × Loop)=>True) (0,default) trivial fun x _=>h x.1 x.2
 simp only [run,evK,this,after]
theorem wj:after E fuel k (.normal σ A)=run E fuel k σ A:=rfl
theorem z6 (id:Nat):after E fuel k (.exit id σ A)=mU E fuel id k σ A:=rfl
theorem Dl:after E fuel k (.ret σ A)=some (.ret σ A):=lj _
theorem aG (a:MC) (mask:List Nat) (n:Nat):bG (evC E fuel a) mask (n+1) σ A=match run E fuel [.code a] (clear mask σ) A with
  | some (.normal σ' A')=>bG (evC E fuel a) mask n σ' A'
  | x=>x:=rfl
theorem bo (mf:cJ) (args:List AV) (h:args.length=mf.n):bZ E fuel mf args A=match run E fuel [.code mf.mc] (args++List.replicate (mf.len-mf.n) .undef) A with
  | some (.normal σ A')=>(hJ A' σ mf.res).map fun l=>(dI l,A')
  | some (.ret σ A')=>(hJ A' σ mf.res).map fun l=>(dI l,A')
  | _=>none:=by
 unfold bZ; rw [SA h]; rfl
end
open Classical in
theorem aw.of_fns {M':Nat->Dt} {M:aU} (h:∀fuel,gH P G f (M' fuel)) (n:Nat) (hM:∀args r,M args=some r->∃fuel r0 A',M' fuel args []=some (r0,A')/\frz A' n r0=r):aw P G f M:=by
 refine ⟨(h 0).1,?_⟩
 intro args r he
 obtain ⟨fuel,r0,A',h1,h2⟩:=hM args r he
 exact (aw.of_fn (M:=fun a=>if a=args then some r else none) (h fuel) n (fun a r' h'=>by
  split at h'
  ·rename_i e; injection h' with h'; subst h'; subst e; exact ⟨r0,A',h1,h2⟩
  ·cases h')).2 args r (by simp)
attribute [simp] Ea Ec wO zQ uK HH rE oN uL cg bI ky gh.apart0 gh.sees gh.apart gh.no kp0 bp lV js fj cX bV iU oQ xj iV qX eqK iJ zy AS HJ AR HG Ed HI BX zR BW BY vB zz zB wP Ko tN qc wQ
 wj z6 Dl clear bh evX eg dY af mX qM B9 ab ae zW zU cB fg eF hiB loB jH EN aj gf dy aR aI hJ dI
 aE A8 lz aD frz br bR xr AV.solid cellsOf kg aa qO mT mL bY B7 bL aA kh
@[simp] theorem K5 (A:ac) (v:AV) (B:ac) (id:Nat):zL A (some (v,B)) id=true↔B[id]?=A[id]?:=by
 simp only [zL]
 exact @decide_eq_true_iff _ (Classical.propDecidable _)
@[simp] theorem LF (G:Nat->Option (List AV)) (fs:List (FuncId × aJ)) (h:bj) (f:FuncId) (a b args:List AV) (A:ac):(dU G fs h).call (.func (.func f) a b) args A=lz fs h (.func (.func f) a b) args A:=rfl
@[simp] theorem DN (G:Nat->Option (List AV)) (fs:List (FuncId × aJ)) (h:bj) (l:Nat) (a b args:List AV) (A:ac):(dU G fs h).call (.func (.yield l) a b) args A=match h (.func (.yield l) a b) args A with
 | some x=>some x
 | none=>lz fs h (.func (.yield l) a b) args A:=rfl
@[simp] theorem LE (G:Nat->Option (List AV)) (fs:List (FuncId × aJ)) (h:bj):(dU G fs h).glob=G:=rfl
@[simp] theorem LD (G:Nat->Option (List AV)) (fs:List (FuncId × aJ)) (h:bj):(dU G fs h).hand=h:=rfl
@[simp] theorem Jt (G:Nat->Option (List AV)) (fs:List (FuncId × aJ)) (h:bj):(dU G fs h).callY=lz fs:=rfl
@[simp] theorem Jw (G:Nat->Option (List AV)) (fs:List (FuncId × aJ)) (f:FuncId) (a b args:List AV) (A:ac):(aq G fs).call (.func (.func f) a b) args A=lz fs (fun _ _ _=>none) (.func (.func f) a b) args A:=rfl
@[simp] theorem Jv (G:Nat->Option (List AV)) (fs:List (FuncId × aJ)):(aq G fs).glob=G:=rfl
@[simp] theorem Ju (G:Nat->Option (List AV)) (fs:List (FuncId × aJ)):(aq G fs).hand=fun _ _ _=>none:=rfl
@[simp] theorem IJ (G:Nat->Option (List AV)) (fs:List (FuncId × aJ)):(aq G fs).callY=lz fs:=rfl
@[simp] theorem Ez (b:Bool) (esz size:Nat):cO (.bool b) esz 0 false size=some (.bool b):=rfl
@[simp] theorem FA (k:IntKind) (b:Int) (esz size:Nat):cO (.int k b) esz 0 false size=some (.int k b):=rfl
@[simp] theorem Fv (b:List UInt8) (esz size:Nat):cO (.str b) esz 0 false size=some (.str b):=rfl
@[simp] theorem Et (esz size:Nat):cO .nilS esz 0 false size=some .nilS:=rfl
@[simp] theorem Eu (esz size:Nat):cO .nilP esz 0 false size=some .nilP:=rfl
@[simp] theorem Ev (esz size:Nat):cO .nilM esz 0 false size=some .nilM:=rfl
@[simp] theorem Ex (esz size:Nat):cO .nilF esz 0 false size=some .nilF:=rfl
@[simp] theorem Ew (esz size:Nat):cO .nilI esz 0 false size=some .nilI:=rfl
@[simp] theorem Iz (a:Nat) (b:List AV) (esz size:Nat):cO (.fs a b) esz 0 false size=some (.fs a b):=rfl
@[simp] theorem Iy (a b c:Nat) (esz size:Nat):cO (.sl a b c) esz 0 false size=some (.sl a b c):=rfl
@[simp] theorem Fw (a b c:Nat) (esz size:Nat):cO (.ptr a b c) esz 0 false size=some (.ptr a b c):=rfl
@[simp] theorem IA (a:List AV) (esz size:Nat):cO (.fp a) esz 0 false size=some (.fp a):=rfl
@[simp] theorem Ey (f:Fn) (a b:List AV) (esz size:Nat):cO (.func f a b) esz 0 false size=some (.func f a b):=rfl
@[simp] theorem Fz (a:Nat) (esz size:Nat):cO (.map a) esz 0 false size=some (.map a):=rfl
@[simp] theorem DK (t:TypeId) (v:AV) (esz size:Nat):cO (.iface t v) esz 0 false size=some (.iface t v):=rfl
@[simp] theorem bN (cs:List AV) (esz o size:Nat):cO (.agg cs) esz o false size=cs[o]?:=rfl
@[simp] theorem uZ (cs:List AV) (esz:Nat):cO (.agg cs) esz 0 true esz=some (.agg cs):=by unfold cO; simp
def evP (E:Env) (fuel:Nat) (mf:cJ) (n:Nat) (args:List AV):Option AV:=(bZ E fuel mf args []).map fun x=>frz x.2 n x.1
theorem aO (mf:cJ) (args:List AV) (h:args.length=mf.n):evP E fuel mf n args=match run E fuel [.code mf.mc] (args++List.replicate (mf.len-mf.n) .undef) [] with
  | some (.normal σ A')=>(hJ A' σ mf.res).map fun l=>frz A' n (dI l)
  | some (.ret σ A')=>(hJ A' σ mf.res).map fun l=>frz A' n (dI l)
  | _=>none:=by
 unfold evP
 rw [bo mf args h]
 cases run E fuel [.code mf.mc] (args++List.replicate (mf.len-mf.n) .undef) [] with
 | none=>rfl
 | some o=>cases o with
  | normal σ A=>simp [Option.map_map]; rfl
  | exit id σ A=>rfl
  | ret σ A=>simp [Option.map_map]; rfl
theorem aw.of_ev {fn:Func} {k:Nat} {mf:cJ} (hE:dq P E) (hys:E.ys=[]) (hf:P.funcs[f]?=some fn) (hc:aH P fn k vs pu on hints=some mf) (n:Nat) {M:aU}
  (hM:∀args r,M args=some r->∃fuel,evP E fuel mf n args=some r) (hpu:bO E pu:=by first | exact bO.nil | (repeat (first | exact bO.nil | refine bO.cons (M:=_) rfl ?_))):aw P E.glob f M:=
 aw.of_fns (M':=fun fuel=>bZ E fuel mf) (fun fuel=>cj hE hys hf hc hpu) n fun args r h=>by
  obtain ⟨fuel,h⟩:=hM args r h
  unfold evP at h
  cases h1:bZ E fuel mf args [] with
  | none=>rw [h1] at h; cases h
  | some x=>rw [h1] at h; injection h with h; exact ⟨fuel,x.1,x.2,h1,h⟩
@[simp] theorem c9 (esz:Nat) (A:ac) (es:List AV):a8 esz A (.fs esz es)=some es:=by simp [a8]
@[simp] theorem Fa (esz:Nat) (A:ac):a8 esz A .nilS=some []:=rfl
@[simp] theorem E9 (A:ac) (l:List UInt8):a8 1 A (.str l)=some (l.map fun b=>.int .u8 b.toNat):=rfl
theorem p6 {id:Nat} {esz:Nat} {gr:Bool} {es:List AV} (h:A[id]?=some (.row esz gr es)) (off len:Nat):a8 esz A (.sl id off len)=some ((es.drop off).take len):=by simp [a8,h]
@[simp] theorem Fb (A:ac) (esz:Nat) (gr:Bool) (es:List AV):a8 esz (A++[Ent.row esz gr es]) (.sl A.length 0 es.length)=some es:=by simp [a8]
@[simp] theorem Ok (a b:Int):(a == b)=decide (a=b):=by
 by_cases h:a=b <;> simp [h]
@[simp] theorem Oj (a b:Int):(a != b)=!decide (a=b):=by
 by_cases h:a=b <;> simp [h]
@[simp] theorem H7 (n:Nat):((n:Int)<0)=False:=by simp
@[simp] theorem NI:IntKind.i64.bits=64:=rfl
@[simp] theorem NG:IntKind.u64.bits=64:=rfl
@[simp] theorem NH:IntKind.u32.bits=32:=rfl
@[simp] theorem NJ:IntKind.i32.bits=32:=rfl
@[simp] theorem QS:IntKind.u8.bits=8:=rfl
def inI (a:Int):Prop:=-9223372036854775808<=a/\a<=9223372036854775807
theorem eH {a:Int} (h:inI a):IntKind.i64.wrap a=a:=tB h.1 h.2
open Go.ChangeShapes Go.WideShapes
def uq (P:Program) (t:TypeId):Bool:=match P.underlying t with
 | some (.struct _) | some (.array _ _)=>true
 | _=>false
def ij (P:Program) (t:TypeId) (xs:List AV):AV:=if uq P t then .agg xs else xs.headD .undef
def q6 (P:Program):Nat->List Field->Nat->Bool
 | k,[],n=>k == n
 | k,f :: r,n=>f.offset == k && q6 P (k+P.cellsOf f.type) r n
def gS (P:Program):Nat->TypeId->Bool
 | 0,_=>false
 | n+1,t=>match P.underlying t with
  | some .bool | some (.int _) | some .string=>P.cellsOf t == 1
  | some (.slice e)=>P.cellsOf t == 1 && Nat.blt 0 (P.cellsOf e) && gS P n e
  | some (.struct fs)=>fs.toList.all (fun f=>gS P n f.type) && q6 P 0 fs.toList (P.cellsOf t)
  | some (.array m e)=>P.cellsOf t == m*P.cellsOf e && Nat.blt 0 (P.cellsOf e) && gS P n e
  | _=>false
def TCs (P:Program) (T:TypeId->List AV->Prop):List Field->List AV->Prop
 | [],ls=>ls=[]
 | f :: r,ls=>∃a b,ls=a++b/\T f.type a/\a.length=P.cellsOf f.type/\TCs P T r b
def TCa (T:List AV->Prop) (size:Nat):Nat->List AV->Prop
 | 0,ls=>ls=[]
 | m+1,ls=>∃a b,ls=a++b/\T a/\a.length=size/\TCa T size m b
def TC (P:Program):Nat->TypeId->List AV->Prop
 | 0,_,_=>False
 | n+1,t,ls=>match P.underlying t with
  | some .bool=>∃b,ls=[.bool b]
  | some (.int k)=>∃z,ls=[.int k z]/\(k.min<=z/\z<=k.max)
  | some .string=>∃s,ls=[.str s]/\s.length<=9223372036854775807
  | some (.slice e)=>ls=[.nilS]\/∃es:List AV,ls=[.fs (P.cellsOf e) es]/\es.length<=9223372036854775807/\∀x∈es,∃xs,TC P n e xs/\xs.length=P.cellsOf e/\x=ij P e xs
  | some (.struct fs)=>TCs P (TC P n) fs.toList ls
  | some (.array m e)=>TCa (TC P n e) (P.cellsOf e) m ls
  | _=>False
def TA (P:Program) (n:Nat) (t:TypeId) (a:AV):Prop:=∃xs,TC P n t xs/\xs.length=P.cellsOf t/\a=ij P t xs
section
variable {H:Type} {enc:TypeId × Value->H} {P:Program} {w:World} {held:Bool}
theorem Mg {a:Addr} {cs:List Value} (h:w.cells? 0 a n=some cs):cs.length=n/\∀j,j<n->∃v,cs[j]?=some v/\w.cell? (a.add j)=some v:=by
 unfold World.cells? at h
 rw [SA (UD _)] at h
 have hl:cs.length=n:=by simpa using mapM_some_length h
 refine ⟨hl,fun j hj=>?_⟩
 have:=mapM_some_get h j j (by simp [hj])
 rw [this]
 exact ⟨cs[j],by simp [hl,hj],by simp [hl,hj]⟩
theorem wl (a:Addr) (i j:Nat) (h:a.spot=none):(a.add i).add j=⟨a.block,a.off+i+j,none⟩:=by
 obtain ⟨b,o,s⟩:=a
 simp only at h
 subst h
 rw [di,di]
theorem BE {α:Type} (l:List α) (d:α) (h:0<l.length):l.headD d=l[0]:=by
 cases l with
 | nil=>simp at h
 | cons y r=>rfl
theorem oe (hp:gS P n t=true) (ha:uq P t=false):P.cellsOf t=1:=by
 cases n with
 | zero=>cases hp
 | succ n=>
  unfold gS at hp
  unfold uq at ha
  split at hp
  ·exact Ug.1 hp
  ·exact Ug.1 hp
  ·exact Ug.1 hp
  ·simp only [S4,Ug] at hp; exact hp.1.1
  ·rename_i hu; rw [hu] at ha; cases ha
  ·rename_i hu; rw [hu] at ha; cases ha
  ·cases hp
theorem Ap:∀(n fuel:Nat) (t:TypeId) (cs:List Value) (x:DataW H × List MemPlace),gS P n t=true->DataW.trod enc P w 0 (fun _=>true) held fuel t cs=some x ->
  ∃ls:List AV,ls.length=cs.length/\cs.length=P.cellsOf t/\TC P n t ls/\∀i (h:i<ls.length),∃v,cs[i]?=some v/\v.oneCell'=true/\a9 w (fun b=>b<w.heap.size) aC.none v ls[i]:=by
 intro n
 induction n with
 | zero=>intro fuel t cs x h; cases h
 | succ n ih=>
  intro fuel t cs x hp h
  unfold gS at hp
  split at hp
  ·
   rename_i hu
   obtain ⟨b,rfl,_⟩:=DataW.trod_bool hu h
   refine ⟨[.bool b],rfl,by simpa using (Ug.1 hp).symm,by simp only [TC,hu]; exact ⟨b,rfl⟩,fun i hi=>?_⟩
   obtain rfl:i=0:=by simpa using hi
   exact ⟨_,rfl,rfl,.bool _ _⟩
  ·rename_i k hu
   obtain ⟨z,rfl,_,hw⟩:=DataW.trod_int hu h
   refine ⟨[.int k z],rfl,by simpa using (Ug.1 hp).symm,?_,fun i hi=>?_⟩
   ·simp only [TC,hu]
    simp only [Lit.wf,S4,S6] at hw
    exact ⟨z,rfl,hw⟩
   ·obtain rfl:i=0:=by simpa using hi
    exact ⟨_,rfl,rfl,.int _ _ _⟩
  ·rename_i hu
   obtain ⟨s,rfl,_,hw⟩:=DataW.trod_string hu h
   refine ⟨[.str s.data.toList],rfl,by simpa using (Ug.1 hp).symm,?_,fun i hi=>?_⟩
   ·simp only [TC,hu]
    refine ⟨_,rfl,?_⟩
    have h1:s.data.toList.length=s.size:=Tc
    have h2:maxLen=9223372036854775807:=by decide
    omega
   ·obtain rfl:i=0:=by simpa using hi
    exact ⟨_,rfl,rfl,.str _ _ _ rfl⟩
  ·
   rename_i e hu
   simp only [S4,Ug] at hp
   obtain ⟨⟨hc1,hpos⟩,hpe⟩:=hp
   have hpos:0<P.cellsOf e:=by simpa [Nat.blt_eq] using hpos
   have fin:∀(v:Value) (a:AV),v.oneCell'=true->a9 w (fun b=>b<w.heap.size) aC.none v a->TC P (n+1) t [a] ->
     ∃ls:List AV,ls.length=[v].length/\[v].length=P.cellsOf t/\TC P (n+1) t ls/\∀i (h:i<ls.length),∃v',[v][i]?=some v'/\v'.oneCell'=true/\a9 w (fun b=>b<w.heap.size) aC.none v' ls[i]:=by
    intro v a h1 h2 h3
    refine ⟨[a],rfl,by simp [hc1],h3,fun i hi=>?_⟩
    obtain rfl:i=0:=by simpa using hi
    exact ⟨_,rfl,h1,h2⟩
   rcases DataW.trod_slice hu h with ⟨rfl,_⟩ | ⟨a,len,cap,elems,rest,m,rfl,rfl,_,_,hl,hcm,hel,hget,hrest,_⟩
   ·exact fin _ _ rfl (.nilS _ _) (by simp only [TC,hu]; exact .inl trivial)
   ·by_cases hcap:cap=0
    ·subst hcap
     obtain rfl:len=0:=by omega
     exact fin _ _ rfl (.nilS _ _) (by simp only [TC,hu]; exact .inl trivial)
    ·
     obtain ⟨hr1,hr2⟩:=hrest rfl
     have hblk:a.spot=none/\∃c T fz,w.heap[a.block]?=some (.cells c T fz):=by
      have h0:∃z cs0,w.cells? 0 (a.add 0) (P.cellsOf e)=some cs0/\DataW.trod enc P w 0 (fun _=>true) held m e cs0=some z:=by
       by_cases hl0:len=0
       ·subst hl0
        have:=hr2 0 (by omega)
        rw [Sq (show 0<rest.length by omega)] at this
        simp only [SB,Ts,UU] at this
        obtain ⟨cs0,k1,k2⟩:=this
        exact ⟨_,cs0,k1,k2⟩
       ·have:=hget 0 (by omega)
        rw [Sq (show 0<elems.length by omega)] at this
        simp only [SB,UU] at this
        obtain ⟨cs0,k1,k2⟩:=this
        exact ⟨_,cs0,k1,k2⟩
      obtain ⟨_,cs0,k1,_⟩:=h0
      obtain ⟨_,k2⟩:=Mg k1
      obtain ⟨v,_,k3⟩:=k2 0 hpos
      have hadd:(a.add 0).add 0=a:=by simp [Addr.add]
      rw [hadd] at k3
      unfold World.cell? at k3
      split at k3
      ·rename_i c T fz hh
       split at k3
       ·cases k3
       ·rename_i hsp
        exact ⟨by simpa using hsp,c,T,fz,hh⟩
      ·cases k3
     obtain ⟨hsp,c,T,fz,hh⟩:=hblk
     have H1:∀i,∃p:List Value × List AV,i<len->(w.cells? 0 (a.add (i*P.cellsOf e)) (P.cellsOf e)=some p.1/\p.2.length=p.1.length/\p.1.length=P.cellsOf e/\TC P n e p.2 /\
       ∀j (h:j<p.2.length),∃v,p.1[j]?=some v/\v.oneCell'=true/\a9 w (fun b=>b<w.heap.size) aC.none v p.2[j]):=by
      intro i
      by_cases hi:i<len
      ·have:=hget i hi
       rw [Sq (show i<elems.length by omega)] at this
       simp only [SB] at this
       obtain ⟨cs0,k1,k2⟩:=this
       obtain ⟨ls,q1,q2,q3,q4⟩:=ih m e cs0 _ hpe k2
       exact ⟨(cs0,ls),fun _=>⟨k1,q1,q2,q3,q4⟩⟩
      ·exact ⟨([],[]),fun h=>absurd h hi⟩
     obtain ⟨F,hF⟩:=Classical.axiomOfChoice H1
     obtain ⟨b0,o0,s0⟩:=a
     simp only at hsp hh
     subst hsp
     have hlen:((List.range len).map fun i=>ij P e (F i).2).length=len:=by simp
     refine fin (.slice (some ⟨b0,o0,none⟩) len cap) (.fs (P.cellsOf e) ((List.range len).map fun i=>ij P e (F i).2)) rfl ?_ ?_
     ·have hV:=a9.fs (w:=w) (OK:=fun b=>b<w.heap.size) aC.none b0 o0 cap (P.cellsOf e) T c fz ((List.range len).map fun i=>ij P e (F i).2)
       (fun i=>if uq P e then .agg (F i).1.toArray else (F i).1.headD undef) (Tg.1 hh).1 hh (by rw [hlen]; exact hl) (fun i hi=>?_) (fun i hi=>?_) (fun i hi j hj=>?_)
      ·rw [hlen] at hV; exact hV
      ·obtain ⟨_,k2,k3,_,k5⟩:=hF i (by rwa [hlen] at hi)
       simp only [Tk,UA,ij]
       split
       ·refine .agg _ _ _ (by simp [k2]) (fun j=>(F i).1.getD j undef) (fun j hj=>?_) (fun j hj=>?_)
        ·obtain ⟨v,e1,e2,_⟩:=k5 j hj
         simp [e1,e2]
        ·obtain ⟨v,e1,_,e3⟩:=k5 j hj
         simpa [Sr,e1] using e3
       ·have h0:0<(F i).2.length:=by omega
        obtain ⟨v,e1,e2,e3⟩:=k5 0 h0
        have e4:(F i).1.headD undef=v:=by
         cases hF1:(F i).1 with
         | nil=>rw [hF1] at e1; simp at e1
         | cons y r=>rw [hF1] at e1; simpa using e1
        rw [e4,BE _ _ h0]; exact e3
      ·obtain ⟨_,k2,k3,_,k5⟩:=hF i (by rwa [hlen] at hi)
       split
       ·refine ⟨by simp [Value.cells,k3],fun y hy=>?_⟩
        simp only [Value.cells] at hy
        obtain ⟨j,hj,rfl⟩:=Tb.1 hy
        obtain ⟨v,e1,e2,_⟩:=k5 j (by rw [k2]; simpa using hj)
        have:(F i).1[j]'(by simpa using hj)=v:=by rw [Sq (by simpa using hj)] at e1; simpa using e1
        simpa [this] using e2
       ·rename_i hagg
        have h0:0<(F i).2.length:=by omega
        obtain ⟨v,e1,e2,e3⟩:=k5 0 h0
        have e4:(F i).1.headD undef=v:=by
         cases hF1:(F i).1 with
         | nil=>rw [hF1] at e1; simp at e1
         | cons y r=>rw [hF1] at e1; simpa using e1
        have hc1':P.cellsOf e=1:=oe hpe (by simpa using hagg)
        rw [e4]
        cases v <;> simp [Value.oneCell'] at e2 <;> simp [Value.cells,cY,hc1',Value.oneCell']
      ·obtain ⟨k1,k2,k3,_,k5⟩:=hF i (by rwa [hlen] at hi)
       obtain ⟨_,q⟩:=Mg k1
       obtain ⟨v,q1,q2⟩:=q j hj
       rw [wl _ _ _ rfl] at q2
       simp only [World.cell?,hh,Option.isSome_none,SZ,Uc] at q2
       rw [q2]
       split
       ·simp [Value.cells,q1]
       ·rename_i hagg
        have hc1':P.cellsOf e=1:=oe hpe (by simpa using hagg)
        obtain rfl:j=0:=by omega
        obtain ⟨v',e1,e2,_⟩:=k5 0 (by omega)
        have e4:(F i).1.headD undef=v:=by
         cases hF1:(F i).1 with
         | nil=>rw [hF1] at q1; simp at q1
         | cons y r=>rw [hF1] at q1; simpa using q1
        obtain rfl:v=v':=Ud (q1.symm.trans e1)
        rw [e4]
        cases v <;> simp [Value.oneCell'] at e2 <;> rfl
     ·simp only [TC,hu]
      refine .inr ⟨_,rfl,?_,fun y hy=>?_⟩
      ·have h2:maxLen=9223372036854775807:=by decide
       rw [hlen]; omega
      ·simp only [SU,Ty] at hy
       obtain ⟨i,hi,rfl⟩:=hy
       obtain ⟨_,k2,k3,k4,_⟩:=hF i hi
       exact ⟨_,k4,by omega,rfl⟩
  ·
   rename_i fs hu
   simp only [S4,SV] at hp
   obtain ⟨hp1,hp2⟩:=hp
   obtain ⟨xs,m,rfl,_,hcl,hxl,hall⟩:=DataW.trod_struct hu h
   have key:∀(r:List Field) (k:Nat),q6 P k r (P.cellsOf t)=true->(∀f∈r,gS P n f.type=true/\∃y,DataW.trod enc P w 0 (fun _=>true) held m f.type ((cs.drop f.offset).take (P.cellsOf f.type))=some y) ->
     k<=P.cellsOf t/\∃ls:List AV,k+ls.length=P.cellsOf t/\TCs P (TC P n) r ls/\∀i (h:i<ls.length),∃v,cs[k+i]?=some v/\v.oneCell'=true/\a9 w (fun b=>b<w.heap.size) aC.none v ls[i]:=by
    intro r
    induction r with
    | nil=>
     intro k hk _
     simp only [q6,Ug] at hk
     exact ⟨by omega,[],by simpa using hk,rfl,fun i hi=>by simp at hi⟩
    | cons f r ihr=>
     intro k hk hf
     simp only [q6,S4,Ug] at hk
     obtain ⟨hko,hk⟩:=hk
     obtain ⟨hle,ls2,l1,l2,l3⟩:=ihr _ hk (fun g hg=>hf g (by simp [hg]))
     obtain ⟨hpf,y,hy⟩:=hf f (by simp)
     obtain ⟨ls1,q1,q2,q3,q4⟩:=ih m _ _ _ hpf hy
     refine ⟨by omega,ls1++ls2,by simp; omega,⟨ls1,ls2,rfl,q3,by omega,l2⟩,fun i hi=>?_⟩
     by_cases h1:i<ls1.length
     ·obtain ⟨v,e1,e2,e3⟩:=q4 i h1
      refine ⟨v,?_,e2,by rw [SS h1]; exact e3⟩
      rw [Ul (by omega),TW] at e1
      rw [<-hko]; exact e1
     ·have hi2:i-ls1.length<ls2.length:=by simp at hi; omega
      obtain ⟨v,e1,e2,e3⟩:=l3 (i-ls1.length) hi2
      refine ⟨v,?_,e2,by rw [Td (by omega)]; exact e3⟩
      rw [<-e1]; congr 1; omega
   obtain ⟨_,ls,l1,l2,l3⟩:=key fs.toList 0 hp2 (fun f hf=>⟨hp1 f hf,by
    obtain ⟨i,hi,rfl⟩:=Tb.1 hf
    have hi':i<fs.size:=by simpa using hi
    have:=hall i fs[i] (by simp [hi'])
    rw [Sq (show i<xs.length by omega)] at this
    exact ⟨_,by simpa using this⟩⟩)
   refine ⟨ls,by omega,hcl,by simp only [TC,hu]; exact l2,fun i hi=>?_⟩
   obtain ⟨v,e1,e2,e3⟩:=l3 i hi
   exact ⟨v,by simpa using e1,e2,e3⟩
  ·
   rename_i m' e hu
   simp only [S4,Ug] at hp
   obtain ⟨⟨hsz,hpos⟩,hpe⟩:=hp
   obtain ⟨xs,m,rfl,_,hcl,hxl,hall⟩:=DataW.trod_array hu h
   have key:∀(r k:Nat),k+r=m'->∃ls:List AV,ls.length=r*P.cellsOf e/\TCa (TC P n e) (P.cellsOf e) r ls/\∀i (h:i<ls.length),∃v,cs[k*P.cellsOf e+i]?=some v/\v.oneCell'=true/\a9 w (fun b=>b<w.heap.size) aC.none v ls[i]:=by
    intro r
    induction r with
    | zero=>intro k _; exact ⟨[],by simp,rfl,fun i hi=>by simp at hi⟩
    | succ r ihr=>
     intro k hk
     obtain ⟨ls2,l1,l2,l3⟩:=ihr (k+1) (by omega)
     have hy:=hall k (by omega)
     rw [Sq (show k<xs.length by omega)] at hy
     obtain ⟨ls1,q1,q2,q3,q4⟩:=ih m _ _ _ hpe hy
     refine ⟨ls1++ls2,by simp [l1,q1,q2,SP]; omega,⟨ls1,ls2,rfl,q3,by omega,l2⟩,fun i hi=>?_⟩
     by_cases h1:i<ls1.length
     ·obtain ⟨v,e1,e2,e3⟩:=q4 i h1
      refine ⟨v,?_,e2,by rw [SS h1]; exact e3⟩
      rw [Ul (by omega),TW] at e1
      exact e1
     ·have hi2:i-ls1.length<ls2.length:=by simp at hi; omega
      obtain ⟨v,e1,e2,e3⟩:=l3 (i-ls1.length) hi2
      refine ⟨v,?_,e2,by rw [Td (by omega)]; exact e3⟩
      rw [<-e1]; congr 1; rw [SP]; omega
   obtain ⟨ls,l1,l2,l3⟩:=key m' 0 (by omega)
   refine ⟨ls,by omega,hcl,by simp only [TC,hu]; exact l2,fun i hi=>?_⟩
   obtain ⟨v,e1,e2,e3⟩:=l3 i hi
   exact ⟨v,by simpa using e1,e2,e3⟩
  ·cases hp
theorem GW {d:DataW H} {ps:List MemPlace} (hp:gS P n t=true) (hv:uq P t=true->∃cs,v=.agg cs) (hv':uq P t=false->v.oneCell'=true) (h:DataW.Trod enc P w 0 (fun _=>true) held t v d ps) :
  ∃a,TA P n t a/\a9 w (fun b=>b<w.heap.size) aC.none v a:=by
 obtain ⟨fuel,h⟩:=h
 obtain ⟨ls,h1,h2,h3,h4⟩:=Ap n fuel t _ _ hp h
 refine ⟨_,⟨ls,h3,by omega,rfl⟩,?_⟩
 unfold ij
 cases ha:uq P t with
 | true=>
  obtain ⟨cs,rfl⟩:=hv ha
  rw [SA rfl]
  simp only [Value.cells] at h1 h4
  refine .agg _ _ _ (by simpa using h1.symm) (fun i=>cs.getD i undef) (fun i hi=>?_) (fun i hi=>?_)
  ·obtain ⟨v,e1,e2,_⟩:=h4 i hi
   have e1':cs[i]?=some v:=by simpa using e1
   simp [e1',e2]
  ·obtain ⟨v,e1,_,e3⟩:=h4 i hi
   have e1':cs[i]?=some v:=by simpa using e1
   simpa [S7,e1'] using e3
 | false=>
  have hone:=hv' ha
  have hc:v.cells.toList=[v]:=by cases v <;> simp [Value.oneCell'] at hone <;> rfl
  rw [hc] at h1 h4
  simp only [SZ,Uc]
  match ls,h1,h4 with
  | [a],_,h4=>
   obtain ⟨v',e1,_,e3⟩:=h4 0 (by simp)
   simp only [Tp,Sx] at e1
   subst e1
   exact e3
end
open Go.ChangeShapes Go.WideShapes Go.RowKit
def ic (P:Program) (n:Nat):List TypeId->List AV->Prop
 | [],[]=>True
 | t :: ts,a :: r=>TA P n t a/\ic P n ts r
 | _,_=>False
theorem Og (h:Ext W OK aC.none W' OK' aC.none) (may:MemPlace->Prop):W.keptBut W' may:=by
 refine ⟨h.os,h.output,fun i hi=>?_⟩
 have e:=h.blk i hi (fun _ _ (hx:_∈[])=>by cases hx)
 rw [e]
 cases W.heap[i]? with
 | none=>rfl
 | some o=>cases o <;> first | exact ⟨rfl,rfl,rfl,fun _ _=>rfl⟩ | exact .inr ⟨rfl,rfl⟩ | rfl
section
variable {H:Type} {enc:TypeId × Value->H} {P:Program}
theorem zF {r:Reach} {b:Nat} (h:Value.okWide P w r b t v) (ha:uq P t=true):∃cs,v=.agg cs:=by
 unfold uq at ha
 unfold Value.okWide at h
 split at ha
 ·rename_i hu; rw [hu] at h; obtain ⟨cs,h,_⟩:=h; exact ⟨cs,h⟩
 ·rename_i hu; rw [hu] at h; obtain ⟨cs,h,_⟩:=h; exact ⟨cs,h⟩
 ·cases ha
theorem zE {r:Reach} {b:Nat} (h:Value.okWide P w r b t v) (hp:gS P n t=true) (ha:uq P t=false):v.oneCell'=true:=by
 cases n with
 | zero=>cases hp
 | succ n=>
  unfold gS at hp
  unfold uq at ha
  unfold Value.okWide Cell.okWide Cell.ok at h
  cases hu:P.underlying t with
  | none=>rw [hu] at hp; cases hp
  | some d=>
   rw [hu] at h hp ha
   cases d <;> simp only [reduceCtorEq,SZ] at hp ha <;> cases v <;> simp_all [Value.oneCell']
theorem we:∀(ts:List TypeId) (vs:List Value) (ds:List (DataW H)) (ps:List MemPlace),(∀t∈ts,gS P n t=true)->(∀(j:Nat) t v,ts[j]?=some t->vs[j]?=some v->∃r b,Value.okWide P W r b t v) ->
  DataW.TrodAll enc P W 0 (fun _=>true) true ts vs ds ps->ds.length=ts.length/\∃ls,ic P n ts ls/\bW W (fun b=>b<W.heap.size) aC.none vs ls
 | [],[],[],ps,_,_,_=>⟨rfl,[],trivial,trivial⟩
 | t :: ts,v :: vs,d :: ds,ps,hp,hv,h=>by
  obtain ⟨p,q,h1,h2,_⟩:=h
  obtain ⟨r,b,hv0⟩:=hv 0 t v rfl rfl
  obtain ⟨a,ha1,ha2⟩:=GW (hp t (by simp)) (zF hv0) (zE hv0 (hp t (by simp))) h1
  obtain ⟨hl,ls,h3,h4⟩:=we ts vs ds q (fun u hu=>hp u (by simp [hu])) (fun j t' v' e1 e2=>hv (j+1) t' v' (by simpa using e1) (by simpa using e2)) h2
  exact ⟨by simp [hl],a :: ls,⟨ha1,h3⟩,⟨ha2,h4⟩⟩
 | [],[],_ :: _,_,_,_,h=>h.elim
 | [],_ :: _,_,_,_,_,h=>h.elim
 | _ :: _,[],_,_,_,_,h=>h.elim
 | _ :: _,_ :: _,[],_,_,_,h=>h.elim
theorem wg {sp:Nat->Bool} (hl:laidOutB P=true):∀(ts:List TypeId) (vs:List Value) (ds:List (DataW H)) (ps:List MemPlace),(∀t∈ts,P.readableRec t=true/\t<P.types.size) ->
  (∀p∈ps,W.sameAt W' p/\sp p.block=true)->DataW.TrodAll enc P W 0 (fun _=>true) true ts vs ds ps->DataW.TrodAll enc P W' 0 sp true ts vs ds ps
 | [],[],[],ps,_,_,h=>h
 | t :: ts,v :: vs,d :: ds,ps,hp,hs,h=>by
  obtain ⟨p,q,h1,h2,rfl⟩:=h
  exact ⟨p,q,WideElems.Trod_stays hl (hp t (by simp)).1 (hp t (by simp)).2 h1 (fun x hx=>(hs x (by simp [hx])).1) (fun x hx=>(hs x (by simp [hx])).2),
   wg hl ts vs ds q (fun u hu=>hp u (by simp [hu])) (fun x hx=>hs x (by simp [hx])) h2,rfl⟩
 | [],[],_ :: _,_,_,_,h=>h.elim
 | [],_ :: _,_,_,_,_,h=>h.elim
 | _ :: _,[],_,_,_,_,h=>h.elim
 | _ :: _,_ :: _,[],_,_,_,h=>h.elim
theorem zx (h:Ext W OK aC.none W' OK' aC.none) (p:MemPlace) (hp:p.block<W.heap.size):W.sameAt W' p:=by
 cases p with
 | cell b off=>
  have e:=h.blk b hp (fun _ _ (hx:_∈[])=>by cases hx)
  simp only [World.sameAt,World.cell?,e]
 | map b=>exact h.blk b hp (fun _ _ (hx:_∈[])=>by cases hx)
theorem vf {fn:Func} {n:Nat} {M:aU} (hs:aw P G f M) (hM:∀args,ic P n fn.params.toList args->M args=some (.bool true))
  {Jl:ChangeSpec} (hspec:∀ds:List (DataW H),ds.length=fn.params.toList.length->Jl.fn H ds={results:=[.lit (.bool true)],args:=ds}) (hvars:Jl.vars=[])
  (hp:fn.params.toList.all (fun t=>gS P n t && P.readableRec t && Nat.blt t P.types.size)=true) (hl:laidOutB P=true) {tb:TypeId} (hres:fn.resultTypes=#[tb]) (hb:P.underlying tb=some .bool)
  {W:World} {base:Nat} {args:Array Value} {ds gs:List (DataW H)} {before:List MemPlace} (hval:∀(j:Nat) t v,fn.params[j]?=some t->args[j]?=some v->Value.okWide P W .any base t v)
  (hW:DataW.Whole enc P fn.params.toList Jl.vars false W args.toList ds gs before) (hG:DB G W (fun b=>b<W.heap.size)) :
  Calls P f args W fun e W'=>∃v,e=.returned v/\Jl.post enc P fn false true false false W args v W':=by
 have hW':=hW
 have hlt:=hW.lt
 obtain ⟨p,q,hA,hV,rfl,hfz,hnd⟩:=hW
 rw [hvars] at hV
 obtain ⟨rfl,rfl⟩:=trodVars_none hV
 rw [SV] at hp
 have hp':∀t∈fn.params.toList,gS P n t=true/\P.readableRec t=true/\t<P.types.size:=fun t ht=>by
  have:=hp t ht
  simp only [S4] at this
  exact ⟨this.1.1,this.1.2,by simpa [Nat.blt_eq] using this.2⟩
 obtain ⟨hdl,ls,h1,h2⟩:=we (n:=n) _ _ _ _ (fun t ht=>(hp' t ht).1) (fun j t v e1 e2=>⟨_,_,hval j t v (by simpa using e1) (by simpa using e2)⟩) hA
 have hc:=hs.2 ls _ (hM ls h1) W (fun b=>b<W.heap.size) args.toList (fun _ h=>h) hG h2
 rw [UE] at hc
 refine hc.mono ?_
 rintro e W1 ⟨v,OK',rfl,hv,_,hx⟩
 obtain rfl:=hv.inv_bool
 refine ⟨_,rfl,ds,[],p++[],[],p,[],hW',?_,?_,?_,Og hx _,fun h=>by cases h⟩
 ·rw [S5,hspec ds hdl,hres]
  exact trodAll_cons_mk (shut_bool hb _) trodAll_mk0
 ·rw [S5,hspec ds hdl]
  exact wg hl _ _ _ _ (fun t ht=>(hp' t ht).2) (fun x hx'=>⟨zx hx x (hlt x (by simp [hx'])),by simpa using hlt x (by simp [hx'])⟩) hA
 ·rw [S5,hspec ds hdl,hvars]
  rfl
variable {n:Nat} {t e:TypeId} {a:AV}
theorem tt {d:TypeDesc} (hu:P.underlying t=some d) (h:(match d with | .struct _=>true | .array _ _=>true | _=>false)=false):uq P t=false:=by
 unfold uq; rw [hu]
 cases d <;> simp_all
theorem TA.int {k:IntKind} (hu:P.underlying t=some (.int k)) (h:TA P n t a):∃z,a=.int k z/\k.min<=z/\z<=k.max:=by
 obtain ⟨xs,h1,_,rfl⟩:=h
 cases n with
 | zero=>exact h1.elim
 | succ n=>
  simp only [TC,hu] at h1
  obtain ⟨z,rfl,h2⟩:=h1
  exact ⟨z,by simp [ij,tt hu rfl],h2⟩
theorem TA.i64 (hu:P.underlying t=some (.int .i64)) (h:TA P n t a):∃z,a=.int .i64 z/\inI z:=by
 obtain ⟨z,h1,h2,h3⟩:=TA.int hu h
 exact ⟨z,h1,h2,h3⟩
theorem TA.slice (hu:P.underlying t=some (.slice e)) (h:TA P (n+1) t a):a=.nilS\/∃es,a=.fs (P.cellsOf e) es/\es.length<=9223372036854775807/\∀x∈es,TA P n e x:=by
 obtain ⟨xs,h1,_,rfl⟩:=h
 simp only [TC,hu] at h1
 have hw:∀x,ij P t [x]=x:=fun x=>by simp [ij,tt hu rfl]
 rcases h1 with rfl | ⟨es,rfl,h2,h3⟩
 ·exact .inl (hw _)
 ·exact .inr ⟨es,hw _,h2,h3⟩
theorem TA.agg (ha:uq P t=true) (h:TA P n t a):∃xs,a=.agg xs/\TC P n t xs/\xs.length=P.cellsOf t:=by
 obtain ⟨xs,h1,h2,rfl⟩:=h
 exact ⟨xs,by simp [ij,ha],h1,h2⟩
theorem ic.cons {ts:List TypeId} {args:List AV} (h:ic P n (t :: ts) args):∃a r,args=a :: r/\TA P n t a/\ic P n ts r:=by
 cases args with
 | nil=>exact h.elim
 | cons a r=>exact ⟨a,r,rfl,h.1,h.2⟩
theorem ic.nil {args:List AV} (h:ic P n [] args):args=[]:=by
 cases args with
 | nil=>rfl
 | cons a r=>exact h.elim
end
def SlA (esz:Nat) (xs:List AV) (a:AV):Prop:=(a=.nilS/\xs=[])\/a=.fs esz xs
section
variable {esz:Nat} {xs:List AV} {a:AV} {A:ac}
theorem SlA.len (h:SlA esz xs a):aj a=some (.int .i64 (xs.length:Int)):=by
 rcases h with ⟨rfl,rfl⟩ | rfl <;> rfl
theorem SlA.src (h:SlA esz xs a):a8 esz A a=some xs:=by
 rcases h with ⟨rfl,rfl⟩ | rfl <;> simp
theorem SlA.index (h:SlA esz xs a) (hx:xs[i]?=some x) (hs:x.solid=true) (he:0<esz) (k:IntKind):ae esz A a (.int k (i:Int))=some (.fp (cellsOf x)):=by
 rcases h with ⟨rfl,rfl⟩ | rfl
 ·simp at hx
 ·simp [ae,hx,hs,he,-AV.solid]
theorem SlA.index1 (h:SlA 1 xs a) (hx:xs[i]?=some x) (hs:x.solid=true) (hc:cellsOf x=[x]) (k:IntKind):ae 1 A a (.int k (i:Int))=some (.fp [x]):=by
 rw [h.index hx hs (by omega),hc]
theorem SlA.int (zs:List Int) (k:IntKind) (h:SlA 1 (zs.map (.int k)) a) (hz:zs[i]?=some z) (k':IntKind):ae 1 A a (.int k' (i:Int))=some (.fp [.int k z]):=
 h.index1 (by simp [hz]) rfl rfl k'
theorem SlA.cutHi (h:SlA esz xs a) (hi:Nat) (h2:hi<=xs.length) (k':IntKind):∃b,cB esz A none (some (.int k' (hi:Int))) a=some b/\SlA esz (xs.take hi) b:=by
 rcases h with ⟨rfl,rfl⟩ | rfl
 ·obtain rfl:hi=0:=by simpa using h2
  exact ⟨.nilS,rfl,.inl ⟨rfl,rfl⟩⟩
 ·exact ⟨_,by simp [cB,h2],.inr rfl⟩
theorem SlA.frz (h:SlA esz xs a) (n:Nat):frz A n a=a:=by
 rcases h with ⟨rfl,rfl⟩ | rfl <;> cases n <;> rfl
theorem iP {α:Type} {f:α->AV} {p:α->Prop}:∀ {l:List AV},(∀x∈l,∃z,x=f z/\p z)->∃zs:List α,l=zs.map f/\∀z∈zs,p z
 | [],_=>⟨[],rfl,fun _ h=>by cases h⟩
 | x :: l,h=>by
  obtain ⟨z,rfl,hz⟩:=h x (by simp)
  obtain ⟨zs,rfl,hzs⟩:=iP (l:=l) (fun y hy=>h y (by simp [hy]))
  exact ⟨z :: zs,rfl,fun y hy=>by
   rcases Tj.1 hy with rfl | hy
   ·exact hz
   ·exact hzs y hy⟩
variable {P:Program} {n:Nat} {t e:TypeId}
theorem TA.sl (hu:P.underlying t=some (.slice e)) (h:TA P (n+1) t a):∃es,SlA (P.cellsOf e) es a/\es.length<=9223372036854775807/\∀x∈es,TA P n e x:=by
 rcases TA.slice hu h with rfl | ⟨es,h1,h2,h3⟩
 ·exact ⟨[],.inl ⟨rfl,rfl⟩,by simp,fun _ h=>by cases h⟩
 ·exact ⟨es,.inr h1,h2,h3⟩
theorem TA.ints (hu:P.underlying t=some (.slice e)) (he:P.underlying e=some (.int .i64)) (hc:P.cellsOf e=1) (h:TA P (n+1) t a):∃zs:List Int,SlA 1 (zs.map (.int .i64)) a/\zs.length<=9223372036854775807/\∀z∈zs,inI z:=by
 obtain ⟨es,h1,h2,h3⟩:=TA.sl hu h
 obtain ⟨zs,rfl,h4⟩:=iP (f:=AV.int .i64) (p:=inI) (fun x hx=>TA.i64 he (h3 x hx))
 rw [hc] at h1
 exact ⟨zs,h1,by simpa using h2,h4⟩
end
theorem En (a b:Nat) (k k':IntKind):gf false (.int k (a:Int)) (.int k' (b:Int))=some (.int k ((min a b:Nat):Int)):=by
 unfold gf
 simp only [SZ,Uc]
 congr 2
 split <;> omega
theorem Es (a b:Nat) (k k':IntKind):gf true (.int k (a:Int)) (.int k' (b:Int))=some (.int k ((max a b:Nat):Int)):=by
 unfold gf
 simp only [TS]
 congr 2
 split <;> omega
section
variable {P:Program} {G:Nat->Option (List AV)}
end
section
variable {E:Env} {fuel:Nat} {a:MC} {mask:List Nat}
theorem g9 (S:Nat->List AV) (B:Nat->ac) (N:Nat) (hc:∀i,clear mask (S i)=S i) (ho:∀ σ A,o≠.normal σ A)
  (hs:∀i,i<N->run E fuel [.code a] (S i) (B i)=some (.normal (S (i+1)) (B (i+1)))) (he:run E fuel [.code a] (S N) (B N)=some o) {m:Nat} (hm:N<m) :
  bG (evC E fuel a) mask m (S 0) (B 0)=some o:=by
 have key:∀k i m,i+k=N->k<m->bG (evC E fuel a) mask m (S i) (B i)=some o:=by
  intro k
  induction k with
  | zero=>
   intro i m hi hm
   obtain ⟨m,rfl⟩:∃j,m=j+1:=⟨m-1,by omega⟩
   obtain rfl:i=N:=by omega
   rw [aG,hc,he]
   cases o with
   | normal σ A=>exact absurd rfl (ho _ _)
   | exit _ _ _=>rfl
   | ret _ _=>rfl
  | succ k ih=>
   intro i m hi hm
   obtain ⟨m,rfl⟩:∃j,m=j+1:=⟨m-1,by omega⟩
   rw [aG,hc,hs i (by omega)]
   exact ih (i+1) m (by omega) (by omega)
 exact key N 0 m (by omega) hm
theorem bU (S:Nat->List AV) (B:Nat->ac) (n:Nat) (p:Nat->Prop) {oF:Nat->Out} {oE:Out} (hc:∀i,clear mask (S i)=S i) (hF:∀i σ A,oF i≠.normal σ A) (hE:∀ σ A,oE≠.normal σ A)
  (hs:∀i,i<n->¬ p i->run E fuel [.code a] (S i) (B i)=some (.normal (S (i+1)) (B (i+1)))) (hf:∀i,i<n->p i->run E fuel [.code a] (S i) (B i)=some (oF i)) (he:run E fuel [.code a] (S n) (B n)=some oE) {m:Nat} (hm:n<m) :
  ((∃i,i<n/\p i/\(∀j,j<i->¬ p j)/\bG (evC E fuel a) mask m (S 0) (B 0)=some (oF i))\/((∀i,i<n->¬ p i)/\bG (evC E fuel a) mask m (S 0) (B 0)=some oE)):=by
 by_cases h:∃i,i<n/\p i
 ·obtain ⟨i,⟨hi,hp⟩,hmin⟩:∃i,(i<n/\p i)/\∀j,j<i->¬ (j<n/\p j):=by
   obtain ⟨i,hi⟩:=h
   induction i using Nat.strongRecOn with
   | ind i ih=>
    by_cases hj:∃j,j<i/\(j<n/\p j)
    ·obtain ⟨j,hj,hp⟩:=hj
     exact ih j hj hp
    ·exact ⟨i,hi,fun j h hp=>hj ⟨j,h,hp⟩⟩
  have hmin':∀j,j<i->¬ p j:=fun j hj hp=>hmin j hj ⟨by omega,hp⟩
  exact .inl ⟨i,hi,hp,hmin',g9 S B i hc (hF i) (fun j hj=>hs j (by omega) (hmin' j hj)) (hf i hi hp) (by omega)⟩
 ·have h':∀i,i<n->¬ p i:=fun i hi hp=>h ⟨i,hi,hp⟩
  exact .inr ⟨h',g9 S B n hc hE (fun j hj=>hs j hj (h' j hj)) he hm⟩
end
def slA (esz:Nat) (es:List AV):AV:=match es with | []=>.nilS | _ :: _=>.fs esz es
section
variable {A:ac} {esz bytes:Nat} {es:List AV}
theorem aZ (esz:Nat) (es:List AV):SlA esz es (slA esz es):=by
 cases es with
 | nil=>exact .inl ⟨rfl,rfl⟩
 | cons x r=>exact .inr rfl
end
open Classical in
def EC:AV->Option Int
 | .int .i64 z=>if inI z then some z else none
 | _=>none
def xF {α:Type} (f:AV->Option α):List AV->Option (List α)
 | []=>some []
 | x :: r=>match f x,xF f r with
  | some y,some l=>some (y :: l)
  | _,_=>none
def ve {α:Type} (f:AV->Option α):AV->Option (List α)
 | .nilS=>some []
 | .fs 1 es=>if es.length<=9223372036854775807 then xF f es else none
 | _=>none
def gC (a:AV):Option (List Int):=ve EC a
theorem nJ {α:Type} {f:AV->Option α}:∀ {es:List AV} {xs:List α},xF f es=some xs->es.length=xs.length/\∀i (h:i<es.length) (h':i<xs.length),f es[i]=some xs[i]
 | [],xs,h=>by injection h with h; subst h; exact ⟨rfl,fun i h=>by cases h⟩
 | x :: r,xs,h=>by
  unfold xF at h
  split at h
  ·rename_i y l h1 h2
   injection h with h; subst h
   obtain ⟨k1,k2⟩:=nJ (es:=r) h2
   refine ⟨by simp [k1],fun i h h'=>?_⟩
   cases i with
   | zero=>exact h1
   | succ i=>exact k2 i (by simpa using h) (by simpa using h')
  ·cases h
theorem rq {α:Type} {f:AV->Option α} {c:α->AV}:∀ {xs:List α},(∀x∈xs,f (c x)=some x)->xF f (xs.map c)=some xs
 | [],_=>rfl
 | x :: r,h=>by
  simp only [Tw,xF,h x (by simp),rq (xs:=r) (fun y hy=>h y (by simp [hy]))]
theorem Bs {α:Type} {f:AV->Option α} {xs:List α} (h:ve f a=some xs):∃es,SlA 1 es a/\es.length=xs.length/\(∀i (h:i<es.length) (h':i<xs.length),f es[i]=some xs[i])/\xs.length<=9223372036854775807:=by
 unfold ve at h
 split at h
 ·injection h with h; subst h
  exact ⟨[],.inl ⟨rfl,rfl⟩,rfl,fun i h=>(by cases h),by simp⟩
 ·rename_i es
  simp only [Sw] at h
  obtain ⟨k1,k2⟩:=nJ h.2
  exact ⟨es,.inr rfl,k1,k2,by omega⟩
 ·cases h
theorem Bt {α:Type} {f:AV->Option α} {c:α->AV} {xs:List α} (h:SlA 1 (xs.map c) a) (hl:xs.length<=9223372036854775807) (hc:∀x∈xs,f (c x)=some x):ve f a=some xs:=by
 rcases h with ⟨rfl,h2⟩ | rfl
 ·have:xs=[]:=by simpa using h2
  subst this; rfl
 ·simp only [ve,SF]
  rw [SA hl]
  exact rq hc
theorem sO (h:EC a=some z):a=.int .i64 z/\inI z:=by
 unfold EC at h
 split at h
 ·simp only [Sw,Sx] at h
  obtain ⟨h1,rfl⟩:=h
  exact ⟨rfl,h1⟩
 ·cases h
theorem BB (h:inI z):EC (.int .i64 z)=some z:=SA h
theorem eJ (h:gC a=some xs):SlA 1 (xs.map (.int .i64)) a/\(∀z∈xs,inI z)/\xs.length<=9223372036854775807:=by
 obtain ⟨es,h1,h2,h3,h4⟩:=Bs h
 have:es=xs.map (.int .i64):=TB (by simpa using h2) fun i k1 k2=>by
  rw [(sO (h3 i k1 (by simpa using k2))).1]; simp
 refine ⟨this ▸ h1,fun z hz=>?_,h4⟩
 obtain ⟨i,hi,rfl⟩:=Tb.1 hz
 exact (sO (h3 i (by omega) hi)).2
theorem iA (h:SlA 1 (xs.map (.int .i64)) a) (hl:xs.length<=9223372036854775807) (hr:∀z∈xs,inI z):gC a=some xs:=Bt h hl fun x hx=>BB (hr x hx)
theorem least {p:Nat->Prop} (h:∃i,p i):∃i,p i/\∀j,j<i->¬ p j:=by
 obtain ⟨i,hi⟩:=h
 induction i using Nat.strongRecOn with
 | ind i ih=>
  by_cases hj:∃j,j<i/\p j
  ·obtain ⟨j,hj,hp⟩:=hj
   exact ih j hj hp
  ·exact ⟨i,hi,fun j h hp=>hj ⟨j,h,hp⟩⟩
theorem be (a b:Nat) (k:IntKind):af .lss (.int k (a:Int)) (.int k (b:Int))=some (.bool (decide (a<b))):=by
 simp [af]
theorem aP (a:Nat) (h:a<9223372036854775807):af .add (.int .i64 (a:Int)) (.int .i64 1)=some (.int .i64 ((a+1:Nat):Int)):=by
 have:IntKind.i64.wrap ((a:Int)+1)=((a+1:Nat):Int):=by rw [eH (by unfold inI; omega)]; omega
 simp only [af]
 rw [SA trivial,this]
section
variable {P:Program} {G:Nat->Option (List AV)}
theorem au.kill {M:aJ} (h:au P G f M):au P G f (fun hd args A=>(M hd args A).map fun x=>(x.1,x.2.set A.length .dead)):=
 ⟨h.1,fun ys hd hs args A r A' he w OK g vs hA hI hl=>by
  simp only [SE,SH] at he
  obtain ⟨⟨r0,A0⟩,h1,rfl,rfl⟩:=he
  refine (h.2 ys hd hs args A r0 A0 h1 w OK g vs hA hI hl).mono ?_
  rintro e w' ⟨v,OK',g',rfl,k1,k2,k3⟩
  exact ⟨v,OK',g',rfl,k1,k2.kill _,k3⟩⟩
end
def bA (A:ac):Nat->AV->Bool
 | _,.bool _=>true
 | _,.int ..=>true
 | _,.str _=>true
 | _,.nilS=>true
 | _,.nilP=>true
 | _,.nilM=>true
 | _,.nilF=>true
 | _,.nilI=>true
 | n+1,.agg cs=>cs.all (bA A n)
 | n+1,.tup cs=>cs.all (bA A n)
 | n+1,.iface _ v=>bA A n v
 | n+1,.sl id off len=>match A[id]? with
  | some (.row _ _ es)=>((es.drop off).take len).all (bA A n)
  | _=>false
 | n+1,.ptr id i o=>match A[id]? with
  | some (.row _ _ es)=>match es[i]? with
   | some e=>e.solid && decide (o<(cellsOf e).length) && (cellsOf e).all (bA A n)
   | none=>false
  | _=>false
 | _,_=>false
section
variable {P:Program} {G:Nat->Option (List AV)}
theorem xq {w:World} {OK OK2:Nat->Prop} (hA:cM w OK g A) (h2:∀id inc,A[id]?≠some .dead->inc∈g id->OK2 inc.b):∀(n:Nat) (a:AV) (v:Value),bA A n a=true->a9 w OK g v a->a9 w OK2 aC.none v (frz A n a):=by
 intro n
 induction n with
 | zero=>
  intro a v hs h
  cases a <;> simp only [bA,SZ] at hs <;> simp only [frz] <;> first
   | (have e:=h.inv_bool; rw [e]; exact .bool _ _)
   | (have e:=h.inv_int; rw [e]; exact .int _ _ _)
   | (obtain ⟨s,e,hs⟩:=h.inv_str; rw [e]; exact .str _ _ _ hs)
   | (obtain ⟨p,e⟩:=h.inv_nilS; rw [e]; exact .nilS _ _)
   | (have e:=h.inv_nilP; rw [e]; exact .nilP _)
   | (have e:=h.inv_nilM; rw [e]; exact .nilM _)
   | (cases h; exact .nilF _)
   | (cases h; exact .nilI _)
 | succ n ih=>
  intro a v hs h
  cases a <;> simp only [bA,SZ] at hs <;> simp only [frz] <;> try first
   | (have e:=h.inv_bool; rw [e]; exact .bool _ _)
   | (have e:=h.inv_int; rw [e]; exact .int _ _ _)
   | (obtain ⟨s,e,hs⟩:=h.inv_str; rw [e]; exact .str _ _ _ hs)
   | (obtain ⟨p,e⟩:=h.inv_nilS; rw [e]; exact .nilS _ _)
   | (have e:=h.inv_nilP; rw [e]; exact .nilP _)
   | (have e:=h.inv_nilM; rw [e]; exact .nilM _)
   | (cases h; exact .nilF _)
   | (cases h; exact .nilI _)
  case sl id off len=>
   split at hs
   ·rename_i s gr es hid
    try simp only [hid]
    rw [SV] at hs
    obtain ⟨inc,cap,ao,hinc,rfl,hl,hn,hcap,ha⟩:=h.inv_sl
    obtain ⟨hlt',hrow⟩:=Sp.1 hid
    have hent:=hA.ent id hlt'
    rw [hrow] at hent
    obtain ⟨hesz,hne,hnc,c,T,fz,hh,hu,hcs,hel⟩:=hent.2 inc hinc
    have hlen:(((es.drop off).take len).map (frz A n)).length=len:=by simp; omega
    obtain ⟨vals,hvals⟩:∃vals:Nat->Value,∀i (hi:i<len),a9 w OK g (vals i) (es[off+i]'(by omega))/\(vals i).cells.size=s/\cY (vals i)/\∀j,j<s->c[inc.o+(off+i)*s+j]?=(vals i).cells[j]?:=
     ⟨fun i=>if hi:i<len then (hel (off+i) (by omega) (by omega)).choose else undef,fun i hi=>by simp only [hi,Vz]; exact (hel (off+i) (by omega) (by omega)).choose_spec⟩
    have hmem:∀i (hi:i<len),es[off+i]'(by omega)∈(es.drop off).take len:=fun i hi=>by
     refine Tb.2 ⟨i,by simp; omega,?_⟩
     simp
    have:=a9.fs (w:=w) (OK:=OK2) aC.none inc.b ao cap s T c fz (((es.drop off).take len).map (frz A n)) vals (h2 id inc (by rw [hid]; simp) hinc) hh (by omega)
     (fun i hi=>by simp only [Tk,TG,Tv]; exact ih _ _ (hs _ (hmem i (by omega))) (hvals i (by omega)).1)
     (fun i hi=>⟨(hvals i (by omega)).2.1,(hvals i (by omega)).2.2.1⟩)
     (fun i hi j hj=>by
      rw [<-(hvals i (by omega)).2.2.2 j hj,ha (by omega),hesz]
      congr 1; rw [SP]; omega)
    rwa [hlen] at this
   ·cases hs
  case ptr id i o=>
   split at hs
   ·rename_i s gr es hid
    split at hs
    ·rename_i e he
     simp only [S4,S6] at hs
     obtain ⟨⟨hsol,ho⟩,hall⟩:=hs
     rw [SV] at hall
     try simp only [hid,he]
     rw [SA ⟨hsol,ho⟩]
     obtain ⟨inc,hinc,rfl,hn,ho'⟩:=h.inv_ptr
     obtain ⟨hlt',hrow⟩:=Sp.1 hid
     obtain ⟨hi',rfl⟩:=Sp.1 he
     have hent:=hA.ent id hlt'
     rw [hrow] at hent
     obtain ⟨hesz,hne,hnc,c,T,fz,hh,hu,hcs,hel⟩:=hent.2 inc hinc
     obtain ⟨v,hv,hvs,hok,hc⟩:=hel i hi' hn
     obtain ⟨k1,k2,k3⟩:=hv.cells hsol
     obtain ⟨f,hf⟩:∃f:Nat->Value,∀j (hj:j<(cellsOf es[i]).length),v.cells[j]?=some (f j)/\(f j).oneCell'=true/\a9 w OK g (f j) (cellsOf es[i])[j]:=
      ⟨fun j=>(v.cells[j]?).getD undef,fun j hj=>by
       obtain ⟨x,a1,a2,a3⟩:=k3 j hj
       simp only [a1,S9]
       exact ⟨trivial,a2,a3⟩⟩
     refine .fp _ inc.b _ T c fz _ (fun j=>f (o+j)) (h2 id inc (by rw [hid]; simp) hinc) hh (by rw [SF,List.length_drop]; omega) (fun j hj=>?_) (fun j hj=>?_)
     ·simp only [Tk,Tv]
      have hj':o+j<(cellsOf es[i]).length:=by rw [SF,List.length_drop] at hj; omega
      exact ih _ _ (hall _ (SC _)) (hf (o+j) hj').2.2
     ·have hj':o+j<(cellsOf es[i]).length:=by rw [SF,List.length_drop] at hj; omega
      refine ⟨?_,(hf (o+j) hj').2.1⟩
      rw [hesz,Ux,hc (o+j) (by omega)]
      exact (hf (o+j) hj').1
    ·cases hs
   ·cases hs
  case agg cs=>
   rw [SV] at hs
   obtain ⟨vs,vals,rfl,hl,hg,hv⟩:=h.inv_agg
   exact .agg _ vs _ (by simpa using hl) vals (fun i hi=>hg i (by simpa using hi)) (fun i hi=>by simp only [Tk]; exact ih _ _ (hs _ (SC _)) (hv i (by simpa using hi)))
  case tup cs=>
   rw [SV] at hs
   obtain ⟨vs,vals,rfl,hl,hg,hv⟩:=h.inv_tup
   exact .tup _ vs _ (by simpa using hl) vals (fun i hi=>hg i (by simpa using hi)) (fun i hi=>by simp only [Tk]; exact ih _ _ (hs _ (SC _)) (hv i (by simpa using hi)))
  case iface t x=>
   cases h with
   | iface _ t v a hv=>exact .iface _ t v _ (ih _ _ hs hv)
def cm (P:Program) (G:Nat->Option (List AV)) (f:FuncId) (M:aU):Prop:=
 Enters P f/\∀args r,M args=some r->∀(w:World) (OK:Nat->Prop) (vs:List Value),(∀b,OK b->b<w.heap.size)->DB G w OK->bW w OK aC.none vs args ->
  Calls P f vs.toArray w fun e w'=>∃v OK',e=.returned v/\a9 w' (fun b=>OK' b/\w.heap.size<=b) aC.none v r/\(∀b,OK' b->b<w'.heap.size)/\Ext w OK aC.none w' OK' aC.none
def El (n:Nat) (M:aU):Dt:=fun args A=>(M (args.map (frz A n))).map fun r=>(r,A)
def cU (n:Nat) (M:aU):aJ:=fun _=>El n M
theorem gH.of_pureF {M:aU} (h:cm P G f M) (n:Nat):gH P G f (El n M):=by
 refine ⟨h.1,?_⟩
 intro args A r A' he w OK g vs hA hG hl
 unfold El at he
 rw [SE] at he
 obtain ⟨r0,hM,he⟩:=he
 injection he with e1 e2
 subst e1; subst e2
 have hok2:∀b,(OK b\/∃id inc,inc∈g id/\inc.b=b)->b<w.heap.size:=fun b hb=>by
  rcases hb with hb | ⟨id,inc,hi,rfl⟩
  ·exact hA.ok b hb
  ·exact hA.low id inc hi
 have hl2:bW w (fun b=>OK b\/∃id inc,inc∈g id/\inc.b=b) aC.none vs (args.map (frz A n)):=hl.map fun v a _ hv=>mS hA (fun b hb=>Or.inl hb) (fun id inc _ hi=>Or.inr ⟨id,inc,hi,rfl⟩) n a v hv
 refine (h.2 _ _ hM w (fun b=>OK b\/∃id inc,inc∈g id/\inc.b=b) vs hok2 (hG.mono (fun b hb=>.inl hb) (fun _ _=>rfl)) hl2).mono ?_
 rintro e w' ⟨v,OK',rfl,hv,hok',hx⟩
 have hb:∀b,b<w.heap.size->w'.heap[b]?=w.heap[b]?:=fun b hb=>hx.blk b hb (fun _ _ (hi:_∈[])=>by cases hi)
 have hok3:∀b,(OK b\/(OK' b/\w.heap.size<=b))->b<w'.heap.size:=fun b hb=>by
  rcases hb with hb | hb
  ·exact TU (hA.ok b hb) hx.size
  ·exact hok' b hb.1
 have hv2:a9 w' (fun b=>OK b\/(OK' b/\w.heap.size<=b)) aC.none v r0:=hv.mono (fun _ h=>.inr h) (fun _ _=>rfl) _ (aC.le_refl _)
 exact ⟨v,fun b=>OK b\/(OK' b/\w.heap.size<=b),g,rfl,hv2.none_to,
  hA.keep hx.size hb (fun b=>OK b\/(OK' b/\w.heap.size<=b)) (fun _ h=>.inl h) (fun _ h=>h.elim .inl fun h=>.inr h.2) hok3,
  hx.os,hx.tape,hx.output,hx.size,fun b hb' _=>hb b hb',g.le_refl,fun _ h=>.inl h,fun id inc hi=>.inl ⟨id,inc,hi,rfl⟩,fun _ h=>h.elim .inl fun h=>.inr h.2,hx.loops,fun _ _ _ _=>rfl⟩
theorem au.of_pureF {M:aU} (h:cm P G f M) (n:Nat):au P G f (cU n M):=(gH.of_pureF h n).y
def evF (E:Env) (fuel:Nat) (mf:cJ) (n:Nat) (args:List AV):Option AV:=(bZ E fuel mf args []).bind fun x=>if bA x.2 n x.1=true then some (frz x.2 n x.1) else none
theorem fU (mf:cJ) (args:List AV) (h:args.length=mf.n):evF E fuel mf n args=match run E fuel [.code mf.mc] (args++List.replicate (mf.len-mf.n) .undef) [] with
  | some (.normal σ A')=>(hJ A' σ mf.res).bind fun l=>if bA A' n (dI l)=true then some (frz A' n (dI l)) else none
  | some (.ret σ A')=>(hJ A' σ mf.res).bind fun l=>if bA A' n (dI l)=true then some (frz A' n (dI l)) else none
  | _=>none:=by
 unfold evF
 rw [bo mf args h]
 cases run E fuel [.code mf.mc] (args++List.replicate (mf.len-mf.n) .undef) [] with
 | none=>rfl
 | some o=>cases o with
  | normal σ A=>cases h1:hJ A σ mf.res with
   | none=>simp [h1]
   | some l=>simp only [h1,Th,Te]
  | exit id σ A=>rfl
  | ret σ A=>cases h1:hJ A σ mf.res with
   | none=>simp [h1]
   | some l=>simp only [h1,Th,Te]
theorem cm.of_ev {fn:Func} {k:Nat} {mf:cJ} (hE:dq P E) (hys:E.ys=[]) (hf:P.funcs[f]?=some fn) (hc:aH P fn k vs pu on hints=some mf) (n:Nat) {M:aU}
  (hM:∀args r,M args=some r->∃fuel,evF E fuel mf n args=some r) (hpu:bO E pu:=by first | exact bO.nil | (repeat (first | exact bO.nil | refine bO.cons (M:=_) rfl ?_))):cm P E.glob f M:=by
 refine ⟨(cj (fuel:=0) hE hys hf hc hpu).1,?_⟩
 intro args r he w OK vs hok hG hl
 obtain ⟨fuel,h⟩:=hM args r he
 unfold evF at h
 rw [SB] at h
 obtain ⟨⟨r0,A'⟩,h1,h⟩:=h
 simp only [Sw,Sx] at h
 obtain ⟨hf2,rfl⟩:=h
 refine ((cj (fuel:=fuel) hE hys hf hc hpu).2 _ _ _ _ h1 w OK aC.none vs (cM.nil hok) hG hl).mono ?_
 rintro e w' ⟨v,OK',g',rfl,hv,hA,hx⟩
 have hfr:∀id inc,inc∈g' id->w.heap.size<=inc.b:=fun id inc hi=>by
  rcases hx.fresh id inc hi with ⟨_,_,h0,_⟩ | h1
  ·cases h0
  ·exact h1
 refine ⟨v,fun b=>OK' b\/∃id inc,inc∈g' id/\inc.b=b,rfl,xq hA (fun id inc _ hi=>⟨.inr ⟨id,inc,hi,rfl⟩,hfr id inc hi⟩) n r0 v hf2 hv,?_,?_⟩
 ·rintro b (hb | ⟨id,inc,hi,rfl⟩)
  ·exact hA.ok b hb
  ·exact hA.low id inc hi
 ·refine ⟨hx.os,hx.tape,hx.output,hx.size,hx.blk,aC.le_refl _,fun b hb=>.inl (hx.okle b hb),fun _ _ (hi:_∈[])=>(by cases hi),?_,hx.loops,fun _ _ _ _=>rfl⟩
  rintro b (hb | ⟨id,inc,hi,rfl⟩)
  ·exact hx.okf b hb
  ·exact .inr (hfr id inc hi)
end
@[simp] theorem Kt (n:Nat) (M:aU) (h:bj) (args:List AV) (A:ac):cU n M h args A=(M (args.map (frz A n))).map fun r=>(r,A):=rfl
theorem UB {E:Env} {fuel:Nat} {A:ac} {σ:List AV} {a:MC} {mask:List Nat} {n:Nat} (h:clear mask σ=σ):bG (evC E fuel a) mask (n+1) σ A=match run E fuel [.code a] σ A with
 | some (.normal σ' A')=>bG (evC E fuel a) mask n σ' A'
 | x=>x:=by rw [aG,h]
abbrev MC.r (l:List MO) (k:MC):MC:=.seq (.region l) k
namespace Cy
def KD:cJ:=⟨2,4,.r [.f 2 0] (.seq (.r [.a 0,.aj 3 0 0] (.cond (.var 3) (.region [.a 0,.h 0 1,.bj 1,.c 0 2]) .skip)) (.r [.a 0,.a 1,.ct 0 1,.c 2 2] .ret)),[.tmp 2]⟩
theorem L6:aH prog Tryz.f17 2 [0,1,4,6] [] true ([],[])=some KD:=by kernel_rfl
def oh:cJ:=⟨3,12,.r [.u 3,.u 4,.g 5] (.r [.a 0,.a 1,.a 2,.L 51 0 1 2,.i 3,.j 4 0,.j 4 1,.c 6 5,.c 7 6] (.seq (.r [.a 7,.N 10 0] (.cond (.var 10) (.r [.u 3,.u 4,.g 5] .ret) .skip)) (.seq (.r [.a 6,.H 52 0,.i 1,.j 2 0,.j 2 1,.c 8 3,.c 9 4] (.r [.am 11 9] (.cond (.var 11) (.r [.a 8,.c 3 0,.u 4,.J 5] .ret) .skip))) (.r [.a 6,.H 54 0,.u 3,.c 4 1,.g 5] .ret)))),[.tmp 3,.tmp 4,.tmp 5]⟩
theorem oJ:aH prog Tryz.f21 3 [0,1,2,6,7,8,9,10,11,12,21,27] [] true ([],[])=some oh:=by kernel_rfl
theorem Gw:prog.funcs[21]?=some Tryz.f21:=by kernel_rfl
def sG:cJ:=⟨2,5,.r [.y 2 0,.g 3] (.r [.qn (.makeFunc (.func 98) [] [.var 2]),.c 4 0] (.r [.v 1 2,.cw 82 0,.i 1,.l 1 2,.ah 3 2,.qt (.bin .leq (.tmp 4) (.cst (.z 200))) 2,.q 2 5,.i 6,.l 1 7,.l 4 7,.bp 99 8 9 7,.bb 10 7,.q 7 11,.c 3 12] .ret)),[.tmp 3]⟩
theorem vV:aH prog Tryz.f83 2 [0,1,2,4,5] [] true ([],[])=some sG:=by kernel_rfl
def DI:cJ:=⟨4,8,.r [.g 4] (.r [.a 0,.a 1,.a 2,.L 51 0 1 2,.i 3,.j 4 0,.j 4 1,.c 5 5,.c 6 6] (.r [.qs 7 (.mv (.fn 88))] (.r [.a 6,.i 0,.l 3 1,.ah 2 1,.l 0 1,.b3 3 4 1,.q 1 5,.i 6,.l 3 7,.l 7 7,.bp 66 8 9 7,.bb 10 7,.q 7 11,.i 12,.l 5 13,.l 3 13,.qt (.call (.fn 36) [.tmp 15]) 13,.bp 84 14 16 13,.bb 17 13,.q 13 18,.c 4 19] .ret))),[.tmp 4]⟩
theorem Cu:aH prog Tryz.f55 4 [0,1,2,3,8,9,10,11] [] true ([],[])=some DI:=by kernel_rfl
def Jr:cJ:=⟨4,9,.r [.g 4] (.r [.a 0,.a 1,.a 2,.L 51 0 1 2,.i 3,.j 4 0,.j 4 1,.c 5 5,.c 6 6] (.seq (.r [.a 6,.N 8 0] (.cond (.var 8) (.r [.g 4] .ret) .skip)) (.r [.a 5,.a 3,.B 53 0 1,.i 2,.j 3 0,.j 3 1,.j 3 2,.c 7 4,.i 5,.c 6 6] (.r [.a 6,.i 0,.l 7 1,.b6 2 0 1,.q 1 3,.c 4 4] .ret)))),[.tmp 4]⟩
theorem Ge:aH prog Tryz.f56 4 [0,1,2,3,8,9,10,11,21] [] true ([],[])=some Jr:=by kernel_rfl
theorem Sj:prog.funcs[56]?=some Tryz.f56:=by kernel_rfl
def iy:MC:=.seq (.r [.a 6,.a 3,.aa 13 0 1] (.cond (.var 13) .skip (.exit 0))) (.seq (.block 1 (.r [.a 0,.a 1,.a 6,.L 51 0 1 2,.i 3,.j 4 0,.j 4 1,.c 7 5,.c 8 6] (.seq (.r [.a 8,.N 14 0] (.cond (.var 14) (.exit 0) .skip)) (.seq (.r [.a 7,.H 52 0,.i 1,.j 2 0,.j 2 1,.i 3,.c 9 4] (.r [.am 15 9] (.cond (.var 15) (.r [.a 6,.c 4 0,.J 5] .ret) .skip))) (.r [.a 7,.a 7,.H 54 1,.B 53 0 2,.i 3,.j 4 0,.j 4 1,.j 4 2,.c 10 5,.c 11 6,.i 7] (.seq (.r [.a 11,.qs 16 (.bin .leq (.tmp 0) (.cst (.z 0)))] (.cond (.var 16) (.exit 0) .skip)) (.region [.a 6,.a 10,.a 11,.m 1 2,.r 3 1,.a 11,.qn (.bin .quo (.tmp 4) (.tmp 5)),.m 0 6,.c 6 7]))))))) (.kill [2,4,5,7,8,9,10,11,12,13,14,15,16]))
def jZ:List Nat:=[2,4,5,7,8,9,10,11,12,13,14,15,16]
def KB:cJ:=⟨4,17,.r [.f 4 0,.g 5] (.scope (.seq (.r [.a 3,.H 50 0,.N 12 1] (.cond (.var 12) (.r [.f 4 0,.g 5] .ret) .skip)) (.r [.a 2,.c 6 0] (.seq .skip (.seq (.seq (.block 0 (.loop jZ iy)) (.kill [0,1,2,3,4,5,6,7,8,9,10,11,12,13,14,15,16])) (.r [.f 4 0,.g 5] .ret)))))),[.tmp 4,.tmp 5]⟩
abbrev pX (v0 v1 v3 v6:AV):List AV:=[v0,v1,.u,v3,.u,.u,v6,.u,.u,.u,.u,.u,.u,.u,.u,.u,.u]
theorem BL {k:List KC} (h:bG (evC E fuel iy) jZ fuel (pX v0 v1 v3 v6) A=some o) :
  run E fuel (.code (.loop jZ iy) :: k) [v0,v1,d2,v3,d4,d5,v6,d7,d8,d9,d10,d11,d12,d13,d14,d15,d16] A=after E fuel k o:=aK jZ _ _ h
theorem L4:aH prog Tryz.f20 4 [0,1,2,3,8,9,10,11,12,14,15,16,20,24,33,39,50] [] true ([jZ],[jZ,[0,1,2,3,4,5,6,7,8,9,10,11,12,13,14,15,16]])=some KB:=by kernel_rfl
def oo:MC:=.r [.F 13 12 11] (.seq (.cond (.var 13) .skip (.exit 0)) (.seq (.seq (.block 1 (.r [.a 12,.M 4 10 12,.K 4 1,.a1 7 4,.c 6 0,.t 4 7 2] (.r [.k 4 7,.a 6,.d 2 7,.b 1 2,.a 2,.d 3 7,.b 1 5,.b8 4 6,.ai 3 7,.bd 0 1 8,.E 8 6,.t 6 8 9] (.r [.a 5,.a 5,.S 1,.o 1 2,.b 1 3,.k 6 8,.c3 5,.cm 6 4 6,.S 0,.o 1 8,.A 1 9 7] (.regionD [] [.a 5,.S 0,.o 2 1,.b 1 2,.d 0 7,.b 1 4,.a 5,.S 6,.o 2 7,.b 1 8,.d 0 7,.b 1 10,.e 1 9 11,.b 1 12,.k 6 8,.c3 14,.cm 6 13 15,.e 1 3 5,.A 1 17 16] [(2,16),(3,16),(4,16),(5,16)]))))) (.kill [0,1,3,4,6,7,8,9,13])) (.region [.w 12 1,.c 12 0])))
def mu:List Nat:=[0,1,3,4,6,7,8,9,13]
def Ic:cJ:=⟨3,14,.r [.qs 3 (.mv (.cst .nilP)),.g 4] (.seq (.r [.a 0,.a 1,.B 83 0 1,.Q 2,.i 3,.n 2 4,.qf (.call (.fn 50) [.tmp 5]) 4,.G 6 4,.x 9 4 7] (.cond (.var 9) (.r [.qs 3 (.mv (.cst .nilP)),.g 4] .ret) .skip)) (.r [.a 0,.a 0,.qn (.makeSlice 1 24 .nilS (.tmp 1) (.tmp 1)),.qn (.build [.z 0,.nilS,.nilS] [(0,(1,.tmp 0)),(2,(1,.tmp 2))]),.qn (.box (.tmp 3)),.c 5 4] (.seq (.r [.am 10 1,.ac 11 10,.f 12 0] (.seq (.block 0 (.loop mu oo)) (.kill [0,1,2,3,4,6,7,8,9,10,11,12,13]))) (.r [.a 5,.c 3 0,.J 4] .ret)))),[.tmp 3,.tmp 4]⟩
abbrev nY (v2 v5 v10 v11 v12:AV):List AV:=[.u,.u,v2,.u,.u,v5,.u,.u,.u,.u,v10,v11,v12,.u]
theorem Gq:clear mu [d0,d1,v2,d3,d4,v5,d6,d7,d8,d9,v10,v11,v12,d13]=nY v2 v5 v10 v11 v12:=rfl
theorem Lg {k:List KC} (h:bG (evC E fuel oo) mu fuel (nY v2 v5 v10 v11 v12) A=some o) :
  run E fuel (.code (.loop mu oo) :: k) [d0,d1,v2,d3,d4,v5,d6,d7,d8,d9,v10,v11,v12,d13] A=after E fuel k o:=aK mu _ _ (by rw [Gq]; exact h)
theorem Cs:aH prog Tryz.f51 3 [0,1,2,6,7,8,9,10,11,20,26,27,28,29] [] true ([mu],[mu,[0,1,2,3,4,6,7,8,9,10,11,12,13]])=some Ic:=by kernel_rfl
def qz:MC:=.r [.F 6 5 4] (.seq (.cond (.var 6) .skip (.exit 0)) (.seq (.seq (.block 1 (.r [.a 0,.a 3,.B 84 0 1,.N 7 2] (.cond (.var 7) (.r [.a 3,.c 1 0,.J 2] .ret) .skip))) (.kill [1,2,6,7])) (.region [.w 5 1,.c 5 0])))
def pq:List Nat:=[1,2,6,7]
def uV:cJ:=⟨1,8,.r [.u 1,.g 2] (.r [.a 0,.S 0,.o 0 1,.b 1 2,.ad 3 3,.c 3 4] (.seq (.r [.a 0,.S 0,.o 0 1,.b4 4 1 2,.f 5 0] (.seq (.block 0 (.loop pq qz)) (.kill [1,2,4,5,6,7]))) (.r [.a 3,.a 0,.a 3,.H 36 2,.B 84 1 3,.Q 4,.c 1 0,.c 2 5] .ret))),[.tmp 1,.tmp 2]⟩
abbrev sc (v0 v3 v4 v5:AV):List AV:=[v0,.u,.u,v3,v4,v5,.u,.u]
theorem Gp:clear pq [v0,d1,d2,v3,v4,v5,d6,d7]=sc v0 v3 v4 v5:=rfl
theorem FZ {k:List KC} (h:bG (evC E fuel qz) pq fuel (sc v0 v3 v4 v5) A=some o) :
  run E fuel (.code (.loop pq qz) :: k) [v0,d1,d2,v3,v4,v5,d6,d7] A=after E fuel k o:=aK pq _ _ (by rw [Gp]; exact h)
theorem vT:aH prog Tryz.f52 1 [0,2,3,4,13,14,15,19] [] true ([pq],[pq,[1,2,4,5,6,7]])=some uV:=by kernel_rfl
def fN:MC:=.r [.E 4 6,.c1 6 4 10] (.region [.am 5 11])
def kH:MC:=.seq (.block 3 (.r [.v 1 1,.k 6 4,.a 5,.v 1 3,.X 87 0 1 2 3,.i 4,.j 5 0,.j 5 1,.c 6 6,.c 7 7] (.r [.am 12 7] (.cond (.var 12) (.r [.a 6,.t 1 2 0] .ret) .skip)))) (.kill [0,1,2,3,4,5,6,7,8,9,10,11,12,13])
def kG:MC:=.seq (.r [.v 1 3,.v 1 1,.S 1,.o 0 2,.b 1 3,.aa 8 0 4] (.cond (.var 8) .skip (.exit 0))) (.seq (.seq (.block 1 (.r [.v 1 1,.v 1 3,.qs 9 (.call (.fn 86) [.tmp 0,.tmp 1])] (.seq (.block 2 (.rangeFunc (.var 9) [10,11] fN kH)) (.kill [0,4,5,6,7,8,9,10,11,12,13])))) (.kill [0,4,5,6,7,8,9,10,11,12,13])) (.seq (.r [.ck 13 1 3] (.region [.bf 3 1,.c1 1 3 13])) (.region [.v 1 3,.h 0 1,.t 1 3 1])))
def jX:List Nat:=[0,4,5,6,7,8,9,10,11,12,13]
def uz:cJ:=⟨1,14,.r [.y 1 0,.c2 2 1] (.seq (.r [.bf 3 1,.cy 1 3 1] (.seq (.block 0 (.loop jX kG)) (.kill [0,1,3,4,5,6,7,8,9,10,11,12,13]))) (.r [.qn (.store 1 (.var 2) (.cst .nilS))] .ret)),[.cell 2 false 1]⟩
abbrev kw (v1 v2 v3:AV):List AV:=[.u,v1,v2,v3,.u,.u,.u,.u,.u,.u,.u,.u,.u,.u]
theorem CO:clear jX [d0,v1,v2,v3,d4,d5,d6,d7,d8,d9,d10,d11,d12,d13]=kw v1 v2 v3:=rfl
theorem BK {k:List KC} (h:bG (evC E fuel kG) jX fuel (kw v1 v2 v3) A=some o) :
  run E fuel (.code (.loop jX kG) :: k) [d0,v1,v2,v3,d4,d5,d6,d7,d8,d9,d10,d11,d12,d13] A=after E fuel k o:=aK jX _ _ (by rw [CO]; exact h)
theorem vS:aH prog Tryz.f54 1 [0,1,2,3,4,5,6,7,13,18,19,20,29,31] [] true ([jX],[[0,1,2,3,4,5,6,7,8,9,10,11,12,13],jX,jX,[0,1,3,4,5,6,7,8,9,10,11,12,13]])=some uz:=by kernel_rfl
def Er:cJ:=⟨2,4,.r [.y 2 0,.g 3] (.r [.d 0 2,.b 1 0,.v 1 1,.r 2 1,.ae 82 1 3,.Q 4,.i 5,.C 1 2 6,.p 1 7 6,.ca 1 1 6,.qf (.bin .sub (.tmp 9) (.cst (.z 1))) 6,.bc 82 8 10 6,.G 11 6,.I 6 12,.i 13,.C 2 2 14,.p 1 15 14,.bx 82 16 14,.G 17 14,.I 14 18,.i 19,.C 3 2 20,.p 1 21 20,.cb 82 22 20,.G 23 20,.I 20 24,.c 3 25] .ret),[.tmp 3]⟩
theorem Cp:aH prog Tryz.f98 2 [0,1,2,3] [] true ([],[])=some Er:=by kernel_rfl
def Jp:cJ:=⟨3,4,.r [.g 3] (.r [.a 0,.a 1,.b9 0 1,.i 2,.l 0 3,.l 2 3,.a5 4 5 3,.q 3 6,.c 3 7] .ret),[.tmp 3]⟩
theorem Co:aH prog Tryz.f82 3 [0,1,2,6] [] true ([],[])=some Jp:=by kernel_rfl
def Jo:cJ:=⟨2,3,.r [.g 2] (.r [.a 0,.a 1,.B 108 0 1,.Z 2 0,.c 2 3] .ret),[.tmp 2]⟩
theorem Cn:aH prog Tryz.f99 2 [0,1,4] [] true ([],[])=some Jo:=by kernel_rfl
def tU:cJ:=⟨3,4,.r [.g 3] (.r [.a 0,.a 1,.b9 0 1,.i 2,.l 0 3,.l 2 3,.a5 4 5 3,.q 3 6,.c 3 7] .ret),[.tmp 3]⟩
theorem oI:aH prog Tryz.f28 3 [0,1,2,6] [] true ([],[])=some tU:=by kernel_rfl
theorem Gv:prog.funcs[28]?=some Tryz.f28:=by kernel_rfl
def w8:cJ:=⟨1,2,.r [.g 1] (.r [.a 0,.cf 82 0,.Q 1,.c 1 2] .ret),[.tmp 1]⟩
theorem vR:aH prog Tryz.f88 1 [0,2] [] true ([],[])=some w8:=by kernel_rfl
def z9:cJ:=⟨2,3,.r [.g 2] (.r [.a 0,.a 1,.B 95 0 1,.Z 2 0,.c 2 3] .ret),[.tmp 2]⟩
theorem s6:aH prog Tryz.f66 2 [0,1,4] [] true ([],[])=some z9:=by kernel_rfl
theorem JB:prog.funcs[66]?=some Tryz.f66:=by kernel_rfl
def ge:MC:=.r [.F 8 7 6] (.seq (.cond (.var 8) .skip (.exit 0)) (.seq (.seq (.block 1 (.r [.M 6 5 7,.K 6 0,.E 3 6,.t 6 3 1] (.r [.a 1,.d 0 3,.o 0 1,.b 1 2,.e 1 0 3,.b 1 4,.d 5 3,.b 1 6,.m 5 7,.c 4 8] (.r [.a 4,.a 1,.d 0 3,.o 1 2,.b 1 3,.e 1 1 4,.b 1 5,.bv 9 0 6] (.cond (.var 9) (.region [.a 1,.d 0 3,.o 1 1,.b 1 2,.a 4,.e 1 0 3,.A 1 5 4,.J 2]) .skip))))) (.kill [0,3,4,8,9])) (.region [.w 7 1,.c 7 0])))
def fI:List Nat:=[0,3,4,8,9]
def tT:cJ:=⟨2,10,.r [.g 2] (.seq (.r [.a 0,.S 0,.o 1 1,.b4 5 1 2,.ac 6 5,.f 7 0] (.seq (.block 0 (.loop fI ge)) (.kill [0,1,3,4,5,6,7,8,9]))) (.r [.a 2,.c 2 0] .ret)),[.tmp 2]⟩
abbrev io (v1 v2 v5 v6 v7:AV):List AV:=[.u,v1,v2,.u,.u,v5,v6,v7,.u,.u]
theorem s8:clear fI [d0,v1,v2,d3,d4,v5,v6,v7,d8,d9]=io v1 v2 v5 v6 v7:=rfl
theorem yy {k:List KC} (h:bG (evC E fuel ge) fI fuel (io v1 v2 v5 v6 v7) A=some o) :
  run E fuel (.code (.loop fI ge) :: k) [d0,v1,v2,d3,d4,v5,v6,v7,d8,d9] A=after E fuel k o:=aK fI _ _ (by rw [s8]; exact h)
theorem yO:aH prog Tryz.f84 2 [0,1,4,6,7,11,12,13,14,33] [] true ([fI],[fI,[0,1,3,4,5,6,7,8,9]])=some tT:=by kernel_rfl
theorem NL:prog.funcs[84]?=some Tryz.f84:=by kernel_rfl
def ql:cJ:=⟨1,3,.r [.u 1] (.seq (.r [.a 0,.c7 2 0] (.cond (.var 2) (.r [.u 1] .ret) .skip)) (.r [.cc,.a 0,.ao 1 0 1,.c 1 2] .ret)),[.tmp 1]⟩
theorem s5:aH prog Tryz.f36 1 [0,2,4] [] true ([],[])=some ql:=by kernel_rfl
theorem JA:prog.funcs[36]?=some Tryz.f36:=by kernel_rfl
def qu:MC:=.r [.F 15 14 13] (.seq (.cond (.var 15) .skip (.exit 0)) (.seq (.seq (.block 1 (.r [.M 1 12 14,.b 1 0,.c 8 1] (.r [.v 1 2,.S 0,.o 1 1,.b 1 2,.a 8,.e 6 3 4,.K 6 5,.E 9 6,.t 6 9 6] (.seq (.r [.d 0 9,.o 0 0,.b 1 1,.a 7,.a8 16 2 3] (.cond (.var 16) (.r [.f 3 0,.f 4 0,.g 5] .ret) .skip)) (.region [.a 3,.d 5 9,.b 1 1,.m 0 2,.a 4,.d 0 9,.o 3 5,.b 1 6,.m 4 7,.d 0 9,.o 1 9,.b 1 10,.c 3 3,.c 4 8,.c 7 11]))))) (.kill [0,1,5,6,8,9,10,11,15,16])) (.region [.w 14 1,.c 14 0])))
def pi:List Nat:=[0,1,5,6,8,9,10,11,15,16]
def DH:cJ:=⟨2,17,.r [.y 2 0,.f 3 0,.f 4 0,.g 5] (.seq (.r [.a 1,.s 0,.qn (.call (.fn 82) [.tmp 1,.cst (.z 1),.cst (.z 200)]),.N 10 2] (.cond (.var 10) (.r [.f 3 0,.f 4 0,.g 5] .ret) .skip)) (.r [.qn (.makeFunc (.func 85) [] [.var 2]),.c 6 0] (.seq (.r [.a 1,.a 6,.qs 11 (.call (.fn 66) [.tmp 0,.tmp 1])] (.cond (.var 11) (.r [.f 3 0,.f 4 0,.g 5] .ret) .skip)) (.r [.v 1 2,.S 0,.o 1 1,.b 1 2,.a 1,.a 1,.s 5,.r 6 1,.e 1 4 7,.b 1 8,.e 6 3 9,.o 0 10,.o 1 11,.b 1 12,.c 7 13] (.seq (.r [.am 12 1,.ac 13 12,.f 14 0] (.seq (.block 0 (.loop pi qu)) (.kill [0,1,2,5,6,7,8,9,10,11,12,13,14,15,16]))) (.r [.a 3,.a 4,.c 3 0,.c 4 1,.J 5] .ret)))))),[.tmp 3,.tmp 4,.tmp 5]⟩
abbrev pS (v2 v3 v4 v7 v12 v13 v14:AV):List AV:=[.u,.u,v2,v3,v4,.u,.u,v7,.u,.u,.u,.u,v12,v13,v14,.u,.u]
theorem Gn {v14:AV}:clear pi [d0,d1,v2,v3,v4,d5,d6,v7,d8,d9,d10,d11,v12,v13,v14,d15,d16]=pS v2 v3 v4 v7 v12 v13 v14:=rfl
theorem FU {k:List KC} {v14:AV} (h:bG (evC E fuel qu) pi fuel (pS v2 v3 v4 v7 v12 v13 v14) A=some o) :
  run E fuel (.code (.loop pi qu) :: k) [d0,d1,v2,v3,v4,d5,d6,v7,d8,d9,d10,d11,v12,v13,v14,d15,d16] A=after E fuel k o:=aK pi _ _ (by rw [Gn]; exact h)
theorem Cm:aH prog Tryz.f53 2 [0,1,2,4,5,6,7,8,10,11,15,19,34,35,36,37,51] [] true ([pi],[pi,[0,1,2,5,6,7,8,9,10,11,12,13,14,15,16]])=some DH:=by kernel_rfl
def Bj:cJ:=⟨1,2,.r [.g 1] (.r [.a 0,.qn (.call (.fn 82) [.tmp 0,.cst (.z (-1000000)),.cst (.z 1000000)]),.c 1 1] .ret),[.tmp 1]⟩
theorem vP:aH prog Tryz.f50 1 [0,2] [] true ([],[])=some Bj:=by kernel_rfl
def Bi:cJ:=⟨2,5,.r [.y 2 0,.y 3 1,.qs 4 (.mv (.cst .nilF))] (.r [.qn (.makeFunc (.func 100) [] [.var 2,.var 3]),.c 4 0] .ret),[.tmp 4]⟩
theorem vO:aH prog Tryz.f86 2 [0,1,2,3,4] [] true ([],[])=some Bi:=by kernel_rfl
def gc:MC:=.seq (.r [.v 1 11,.ak 14 0 0] (.cond (.var 14) .skip (.exit 0))) (.seq (.seq (.block 1 (.r [.a 10,.qn (.makeFunc (.func 103) [] [.var 5,.var 11,.var 9]),.B 102 0 1,.c 12 2] (.seq (.r [.a 12,.aj 15 0 0] (.cond (.var 15) (.r [.u 6,.g 7] .ret) .skip)) (.r [.a 10,.a 12,.e 6 0 1,.K 6 2,.E 13 6,.t 6 13 3] (.regionD [] [.a 8,.d 4 13,.b 1 1,.cu 2,.ao 1 0 3,.v 1 9,.d 5 13,.b 1 6,.m 5 7,.a 0,.S 9,.o 2 10,.b 1 11,.d 0 13,.o 1 13,.b 1 14,.e 1 12 15,.b 1 16,.c 8 4,.t 1 9 8,.c 10 17] [(4,5),(4,6),(4,7),(4,11),(4,12),(4,13),(4,14),(4,15),(4,16),(4,17),(11,19),(12,19),(13,19),(14,19),(15,19),(16,19),(17,19)]))))) (.kill [1,2,3,4,6,7,12,13,14,15,16])) (.seq (.r [.ck 16 1 11] (.region [.bf 11 1,.c1 1 11 16])) (.region [.v 1 11,.r 0 1,.t 1 11 1])))
def eV:List Nat:=[1,2,3,4,6,7,12,13,14,15,16]
def DG:cJ:=⟨4,17,.r [.y 4 1,.y 5 2,.u 6,.g 7] (.r [.u 8] (.r [.bf 9 1,.cy 1 9 0] (.r [.k 6 4,.qn (.buildSlice 6 [.tmp 0]),.c 10 1] (.seq (.r [.a 3,.r 0 1,.bf 11 1,.t 1 11 1] (.seq (.block 0 (.loop eV gc)) (.kill [0,1,2,3,4,5,6,7,9,10,11,12,13,14,15,16]))) (.r [.a 8,.c 6 0,.J 7] .ret))))),[.tmp 6,.tmp 7]⟩
abbrev gN (v0 v5 v8 v9 v10 v11:AV):List AV:=[v0,.u,.u,.u,.u,v5,.u,.u,v8,v9,v10,v11,.u,.u,.u,.u,.u]
theorem q7:clear eV [v0,d1,d2,d3,d4,v5,d6,d7,v8,v9,v10,v11,d12,d13,d14,d15,d16]=gN v0 v5 v8 v9 v10 v11:=rfl
theorem vp {k:List KC} (h:bG (evC E fuel gc) eV fuel (gN v0 v5 v8 v9 v10 v11) A=some o) :
  run E fuel (.code (.loop eV gc) :: k) [v0,d1,d2,d3,d4,v5,d6,d7,v8,v9,v10,v11,d12,d13,d14,d15,d16] A=after E fuel k o:=aK eV _ _ (by rw [q7]; exact h)
theorem Cl:aH prog Tryz.f87 4 [0,1,2,3,5,6,8,9,10,11,12,13,14,15,21,28,51] [] true ([eV],[eV,[0,1,2,3,4,5,6,7,9,10,11,12,13,14,15,16]])=some DG:=by kernel_rfl
def kE:MC:=.r [.F 6 5 4] (.seq (.cond (.var 6) .skip (.exit 0)) (.seq (.seq (.block 1 (.r [.a 5,.c 3 0] (.r [.a 1,.a 0,.a 3,.e 4 1 2,.K 4 3,.ce 7 0 4] (.cond (.var 7) (.r [.a 3,.c 2 0] .ret) .skip)))) (.kill [2,3,6,7])) (.region [.w 5 1,.c 5 0])))
def jT:List Nat:=[2,3,6,7]
def Eq:cJ:=⟨2,8,.r [.f 2 0] (.seq (.r [.a 0,.bs 4 0,.f 5 0] (.seq (.block 0 (.loop jT kE)) (.kill [0,1,2,3,4,5,6,7]))) (.r [.f 2 (-1)] .ret)),[.tmp 2]⟩
abbrev nV (v0 v1 v4 v5:AV):List AV:=[v0,v1,.u,.u,v4,v5,.u,.u]
theorem Z5 {k:List KC} (h:bG (evC E fuel kE) jT fuel (nV v0 v1 v4 v5) A=some o) :
  run E fuel (.code (.loop jT kE) :: k) [v0,v1,d2,d3,v4,v5,d6,d7] A=after E fuel k o:=aK jT _ _ h
theorem Ck:aH prog Tryz.f108 2 [0,1,4,5,7,8,9,16] [] true ([jT],[jT,[0,1,2,3,4,5,6,7]])=some Eq:=by kernel_rfl
def fM:MC:=.r [.F 6 5 4] (.seq (.cond (.var 6) .skip (.exit 0)) (.seq (.seq (.block 1 (.r [.a 5,.c 3 0] (.r [.a 1,.a 0,.a 3,.e 1 1 2,.b 1 3,.ce 7 0 4] (.cond (.var 7) (.r [.a 3,.c 2 0] .ret) .skip)))) (.kill [2,3,6,7])) (.region [.w 5 1,.c 5 0])))
def gp:List Nat:=[2,3,6,7]
def z8:cJ:=⟨2,8,.r [.f 2 0] (.seq (.r [.a 0,.bs 4 0,.f 5 0] (.seq (.block 0 (.loop gp fM)) (.kill [0,1,2,3,4,5,6,7]))) (.r [.f 2 (-1)] .ret)),[.tmp 2]⟩
abbrev gM (v0 v1 v4 v5:AV):List AV:=[v0,v1,.u,.u,v4,v5,.u,.u]
theorem yw {k:List KC} (h:bG (evC E fuel fM) gp fuel (gM v0 v1 v4 v5) A=some o) :
  run E fuel (.code (.loop gp fM) :: k) [v0,v1,d2,d3,v4,v5,d6,d7] A=after E fuel k o:=aK gp _ _ h
theorem yN:aH prog Tryz.f95 2 [0,1,4,5,7,8,9,16] [] true ([gp],[gp,[0,1,2,3,4,5,6,7]])=some z8:=by kernel_rfl
theorem NK:prog.funcs[95]?=some Tryz.f95:=by kernel_rfl
def Ib:cJ:=⟨2,3,.r [.g 2] (.r [.a 0,.v 1 1,.S 1,.o 1 2,.b 1 3,.s 4,.r 5 1,.ae 82 0 6,.Q 7,.c 2 8] .ret),[.tmp 2]⟩
theorem Cj:aH prog Tryz.f85 2 [0,1,3] [] true ([],[])=some Ib:=by kernel_rfl
def en:MC:=.r [.F 9 8 7] (.seq (.cond (.var 9) .skip (.exit 0)) (.seq (.seq (.block 1 (.r [.M 6 6 8,.K 6 0,.E 4 6,.t 6 4 1] (.seq (.r [.a 3,.d 0 4,.o 0 1,.b 1 2,.qn (.lookup 1 true .nilS (.tmp 0) (.tmp 3)),.i 4,.j 5 0,.j 5 1,.i 6,.c 5 7] (.r [.a 5,.N 10 0] (.cond (.var 10) (.region [.a 3,.d 0 4,.o 0 1,.b 1 2,.v 1 1,.d 0 4,.o 0 5,.b 1 6,.v 1 2,.L 101 4 7 8,.b5 0 3 9]) .skip))) (.r [.a 0,.k 6 4,.a 3,.d 0 4,.o 0 3,.b 1 4,.qn (.lookup 1 false .nilS (.tmp 2) (.tmp 5)),.cn 0 1 6,.N 11 7] (.cond (.var 11) .ret .skip))))) (.kill [4,5,9,10,11])) (.region [.w 8 1,.c 8 0])))
def dJ:List Nat:=[4,5,9,10,11]
def zG:cJ:=⟨3,12,.r [.qn .makeMap,.c 3 0] (.r [.v 1 1,.S 0,.o 1 1,.b4 6 1 2,.ac 7 6,.f 8 0] (.seq (.block 0 (.loop dJ en)) (.kill [0,1,2,3,4,5,6,7,8,9,10,11]))),[]⟩
abbrev fB (v0 v1 v2 v3 v6 v7 v8:AV):List AV:=[v0,v1,v2,v3,.u,.u,v6,v7,v8,.u,.u,.u]
theorem s7:clear dJ [v0,v1,v2,v3,d4,d5,v6,v7,v8,d9,d10,d11]=fB v0 v1 v2 v3 v6 v7 v8:=rfl
theorem vo {k:List KC} (h:bG (evC E fuel en) dJ fuel (fB v0 v1 v2 v3 v6 v7 v8) A=some o) :
  run E fuel (.code (.loop dJ en) :: k) [v0,v1,v2,v3,d4,d5,v6,v7,v8,d9,d10,d11] A=after E fuel k o:=aK dJ _ _ (by rw [s7]; exact h)
theorem vN:aH prog Tryz.f100 3 [0,1,2,4,6,8,13,14,15,16,28,47] [101] true ([dJ],[dJ,[0,1,2,3,4,5,6,7,8,9,10,11]])=some zG:=by kernel_rfl
def eY:MC:=.r [.F 14 13 12] (.seq (.cond (.var 14) .skip (.exit 2)) (.seq (.seq (.block 3 (.r [.M 6 11 13,.K 6 0,.E 7 6,.t 6 7 1] (.region [.a 6,.d 0 7,.o 0 1,.b 1 2,.a 6,.d 0 7,.o 0 5,.b 1 6,.e 2 4 7,.K 2 8,.a 5,.d 0 7,.o 1 11,.b 1 12,.e 2 10 13,.K 2 14,.d 5 7,.b 1 16,.B 104 15 17,.B 109 9 18,.e 2 0 3,.A 2 20 19]))) (.kill [1,2,3,7,10,14])) (.region [.w 13 1,.c 13 0])))
def eA:List Nat:=[1,2,3,7,10,14]
def qt:MC:=.r [.F 10 9 8] (.seq (.cond (.var 10) .skip (.exit 0)) (.seq (.seq (.block 1 (.seq (.regionD [104,109] [.a 4,.a 4,.s 1,.r 2 1,.e 1 0 3,.b 1 4,.a 0,.S 6,.o 0 7,.b 1 8,.cl 9 9,.c 5 5,.c 6 10] [(4,10),(5,10)]) (.seq (.r [.a 0,.S 0,.o 1 1,.b4 11 1 2,.ac 12 11,.f 13 0] (.seq (.block 2 (.loop eA eY)) (.kill [1,2,3,5,7,10,11,12,13,14]))) (.region [.a 4,.a 6,.bg 1,.co 1 0 2,.c 4 3])))) (.kill [1,2,3,5,6,7,10,11,12,13,14])) (.region [.w 9 1,.c 9 0])))
def ph:List Nat:=[1,2,3,5,6,7,10,11,12,13,14]
def Fr:cJ:=⟨3,15,.r [.u 3] (.r [.a 0,.S 0,.o 0 1,.b 1 2,.cl 3 3,.bg 4,.c 4 5] (.r [.a 4,.cx 1 0 0,.b 1 1,.a 1,.qn (.build [.z 0,.f] [(0,(1,.cst (.z 0))),(1,(1,.cst .t))]),.e 2 2 3,.A 2 5 4] (.seq (.r [.am 8 2,.f 9 0] (.seq (.block 0 (.loop ph qt)) (.kill [0,1,2,3,5,6,7,8,9,10,11,12,13,14]))) (.r [.a 4,.c 3 0] .ret)))),[.tmp 3]⟩
abbrev fK (v0 v4 v5 v6 v8 v9 v11 v12 v13:AV):List AV:=[v0,.u,.u,.u,v4,v5,v6,.u,v8,v9,.u,v11,v12,v13,.u]
theorem vW:clear eA [v0,d1,d2,d3,v4,v5,v6,d7,v8,v9,d10,v11,v12,v13,d14]=fK v0 v4 v5 v6 v8 v9 v11 v12 v13:=rfl
theorem yu {k:List KC} (h:bG (evC E fuel eY) eA fuel (fK v0 v4 v5 v6 v8 v9 v11 v12 v13) A=some o) :
  run E fuel (.code (.loop eA eY) :: k) [v0,d1,d2,d3,v4,v5,v6,d7,v8,v9,d10,v11,v12,v13,d14] A=after E fuel k o:=aK eA _ _ (by rw [vW]; exact h)
abbrev pR (v0 v4 v8 v9:AV):List AV:=[v0,.u,.u,.u,v4,.u,.u,.u,v8,v9,.u,.u,.u,.u,.u]
theorem Gl:clear ph [v0,d1,d2,d3,v4,d5,d6,d7,v8,v9,d10,d11,d12,d13,d14]=pR v0 v4 v8 v9:=rfl
theorem K9 {k:List KC} (h:bG (evC E fuel qt) ph fuel (pR v0 v4 v8 v9) A=some o) :
  run E fuel (.code (.loop ph qt) :: k) [v0,d1,d2,d3,v4,d5,d6,d7,v8,v9,d10,d11,d12,d13,d14] A=after E fuel k o:=aK ph _ _ (by rw [Gl]; exact h)
theorem Ci:aH prog Tryz.f101 3 [0,1,2,6,7,8,9,11,24,25,26,41,42,43,44] [104,109] false ([ph,eA],[eA,[1,2,3,5,7,10,11,12,13,14],ph,[0,1,2,3,5,6,7,8,9,10,11,12,13,14]])=some Fr:=by kernel_rfl
def kD:MC:=.r [.F 6 5 4] (.seq (.cond (.var 6) .skip (.exit 0)) (.seq (.seq (.block 1 (.r [.a 5,.c 3 0] (.r [.a 1,.a 0,.a 3,.e 6 1 2,.K 6 3,.ce 7 0 4] (.cond (.var 7) (.r [.a 3,.c 2 0] .ret) .skip)))) (.kill [2,3,6,7])) (.region [.w 5 1,.c 5 0])))
def jS:List Nat:=[2,3,6,7]
def Nr:cJ:=⟨2,8,.r [.f 2 0] (.seq (.r [.a 0,.bs 4 0,.f 5 0] (.seq (.block 0 (.loop jS kD)) (.kill [0,1,2,3,4,5,6,7]))) (.r [.f 2 (-1)] .ret)),[.tmp 2]⟩
abbrev nU (v0 v1 v4 v5:AV):List AV:=[v0,v1,.u,.u,v4,v5,.u,.u]
theorem FR {k:List KC} (h:bG (evC E fuel kD) jS fuel (nU v0 v1 v4 v5) A=some o) :
  run E fuel (.code (.loop jS kD) :: k) [v0,v1,d2,d3,v4,v5,d6,d7] A=after E fuel k o:=aK jS _ _ h
theorem LY:aH prog Tryz.f102 2 [0,1,4,5,7,8,9,16] [] true ([jS],[jS,[0,1,2,3,4,5,6,7]])=some Nr:=by kernel_rfl
def Ia:cJ:=⟨4,7,.r [.y 4 0,.g 5] (.seq (.regionD [104] [.v 1 1,.v 1 2,.e 1 0 1,.b 1 2,.d 0 4,.o 1 4,.b 1 5,.e 2 3 6,.K 2 7,.v 1 3,.d 5 4,.b 1 10,.m 9 11,.B 104 8 12,.cg 6 2,.t 2 6 13] [(0,14),(1,14),(2,14),(3,14),(4,14),(5,14),(6,14),(7,14),(8,14),(9,14),(10,14),(11,14),(13,14)]) (.r [.d 1 6,.b 1 0,.i 1,.R 0 6 2,.z 1 3 2,.b6 4 0 2,.q 2 5,.c 5 6] .ret)),[.tmp 5]⟩
theorem Ch:aH prog Tryz.f103 4 [0,1,2,3,4,5,6] [104] false ([],[])=some Ia:=by kernel_rfl
def Nq:cJ:=⟨2,5,.r [.y 2 0,.cg 3 2] (.seq (.r [.k 2 2,.qn (.build [.z 0,.f] []),.qs 4 (.eqAgg false [(0,1),(1,0)] (.tmp 0) (.tmp 1))] (.cond (.var 4) (.r [.k 2 2,.t 2 3 0] .ret) .skip)) (.r [.d 0 2,.b 1 0,.a 1,.m 1 2,.d 1 2,.b 1 4,.qn (.build [.z 0,.f] [(0,(1,.tmp 3)),(1,(1,.tmp 5))]),.t 2 3 6] .ret)),[.cell 3 true 2]⟩
theorem LX:aH prog Tryz.f104 2 [0,1,2,4,7] [] true ([],[])=some Nq:=by kernel_rfl
def Ep:cJ:=⟨2,6,.r [.y 2 0,.y 3 1,.cg 4 2] (.seq (.r [.d 1 2,.b 1 0,.Q 1,.i 2,.C 1 3 3,.p 1 4 3,.c4 5 3,.R 0 3 6,.z 1 7 6,.R 0 2 6,.z 1 9 6,.qt (.bin .gtr (.tmp 8) (.tmp 10)) 6,.bw 6 11 3,.x 5 3 12] (.cond (.var 5) (.r [.k 2 3,.t 2 4 0] .ret) .skip)) (.r [.k 2 2,.t 2 4 0] .ret)),[.cell 4 true 2]⟩
theorem Cg:aH prog Tryz.f109 2 [0,1,2,3,4,18] [] true ([],[])=some Ep:=by kernel_rfl
end Cy
def pick (a n:Int):Int:=(if a<0 then -(a+1) else a).tmod n
theorem gt (a n:Int) (hn:0<n):0<=pick a n/\pick a n<n:=by
 unfold pick
 split
 ·exact ⟨Int.tmod_nonneg _ (by omega),Int.tmod_lt_of_pos _ hn⟩
 ·exact ⟨Int.tmod_nonneg _ (by omega),Int.tmod_lt_of_pos _ hn⟩
def ak (xs:List Int):List AV:=xs.map (.z)
@[simp] theorem xA (esz:Nat) (es:List AV):cellsOf (slA esz es)=[slA esz es]:=by cases es <;> rfl
@[simp] theorem AP (esz:Nat) (es:List AV):(slA esz es).solid=true:=by cases es <;> rfl
@[simp] theorem Ly (esz:Nat) (es:List AV):xr (slA esz es)=true:=by cases es <;> rfl
@[simp] theorem xo (A:ac) (n esz:Nat) (es:List AV):frz A n (slA esz es)=slA esz es:=by cases es <;> cases n <;> rfl
@[simp] theorem Bf (n esz:Nat) (es:List AV):bR n (slA esz es)=true:=by cases es <;> cases n <;> rfl
@[simp] theorem tZ (esz:Nat) (es:List AV):aj (slA esz es)=some (.z (es.length:Int)):=by cases es <;> rfl
def dj (A:ac) (esz:Nat) (a:AV) (xs:List AV):Prop:=SlA esz xs a\/∃id off gr es,a=.sl id off xs.length/\A[id]?=some (.row esz gr es)/\(es.drop off).take xs.length=xs
section
variable {A B:ac} {esz:Nat} {a:AV} {xs:List AV}
theorem dj.len (h:dj A esz a xs):aj a=some (.z (xs.length:Int)):=by
 rcases h with h | ⟨id,off,gr,es,rfl,h1,h2⟩
 ·exact h.len
 ·rfl
theorem dj.load1 (h:dj A 1 a xs) (hAB:∀id,id<A.length->B[id]?=A[id]?) (hx:xs[i]?=some x) (hs:x.solid=true) (hc:cellsOf x=[x]) (hl:cO x 1 0 false 1=some x) (k:IntKind) :
  ∃p,ae 1 B a (.int k (i:Int))=some p/\ab false 1 B p=some x:=by
 rcases h with h | ⟨id,off,gr,es,rfl,h1,h2⟩
 ·exact ⟨_,h.index1 hx hs hc k,rfl⟩
 ·have hid:id<A.length:=(Sp.1 h1).1
  have hi:i<xs.length:=(Sp.1 hx).1
  have hB:B[id]?=some (.row 1 gr es):=(hAB id hid).trans h1
  have he:es[off+i]?=some x:=by
   rw [<-h2,Ul hi,TW] at hx
   exact hx
  refine ⟨.ptr id (off+i) 0,?_,?_⟩
  ·simp [ae,hB,hi]
  ·simp [ab,hB,he,hl]
theorem dj.int {zs:List Int} (h:dj A 1 a (ak zs)) (hAB:∀id,id<A.length->B[id]?=A[id]?) (hi:i<zs.length) (k:IntKind) :
  ∃p,ae 1 B a (.int k (i:Int))=some p/\ab false 1 B p=some (.z zs[i]):=
 h.load1 hAB (x:=.z zs[i]) (by simp [ak,hi]) rfl rfl rfl k
end
theorem oz {s:AV} (h:gC s=some xs) (n:Nat):bR n s=true:=by
 rcases (eJ h).1 with ⟨rfl,_⟩ | rfl <;> cases n <;> rfl
theorem wi (B:ac) (n:Nat) (xs:List Int):(ak xs).all (bA B n)=true:=by
 unfold ak
 rw [SV]
 intro x hx
 obtain ⟨z,_,rfl⟩:=SU.1 hx
 cases n <;> rfl
theorem vx (A:ac) (n:Nat) (xs:List Int):(ak xs).map (frz A n)=ak xs:=by
 unfold ak; rw [Ub]; apply S3; intro x _; cases n <;> rfl
end Go.Proofs.YtkcjhljbgjpklaaGreat
