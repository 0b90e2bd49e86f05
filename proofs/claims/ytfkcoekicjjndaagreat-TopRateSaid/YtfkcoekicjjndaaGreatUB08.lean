import Derived.Test.YtfkcoekicjjndaaGreatUB07
import Derived.Test.YtfkcoekicjjndaaGreatUB03
import Derived.KernelRfl
set_option maxRecDepth 100000
set_option maxHeartbeats 4000000
noncomputable section
namespace Go.Proofs.YtfkcoekicjjndaaGreat
namespace Sh
open Go
open Go.RowKit Go.Lib
theorem rz {w:World} {OK:Nat->Prop} {g:az} {A:ac} (hA:bK w OK g A) (o:Obj):bK (w.alloc o) OK g A/\Ext w OK g (w.alloc o) OK g:=by
 have hsz:(w.alloc o).heap.size=w.heap.size+1:=by show (w.heap.push o).size=_; exact Array.size_push ..
 refine ⟨hA.keep (w':=w.alloc o) (by omega) (fun b hb=>heap_alloc_old w _ hb) OK (fun _ h=>h) (fun _ h=>.inl h) (fun b hb=>by have:=hA.ok b hb; omega),?_⟩
 exact ⟨rfl,rfl,rfl,by omega,fun b hb _=>heap_alloc_old w _ hb,g.le_refl,fun _ h=>h,fun id inc h=>.inl ⟨id,inc,h,rfl⟩,fun _ h=>.inl h,
  fun b r hb _=>(heap_alloc_old w _ (Array.getElem?_eq_some_iff.1 hb).1).trans hb,fun _ _ _ _=>rfl⟩
section
variable {n0 l:Nat} {r:Loop} {σ σ1 σ2 σ3:List AV} {ps:List Nat} {asg bdy:List AV->ac->Option Out} {h:aZ} {args:List AV} {A A2 A3:ac}
theorem sU (h1:A[n0]?=some (.loop r 0)) (hs:gY σ ps args=some σ1) (ha:asg σ1 A=some (.normal σ2 A2)) (h2:A2[n0]?=some (.loop r 0)) (hb:bdy σ2 (A2.set n0 .dead)=some (.normal σ3 A3)):dH n0 l r σ ps asg bdy h (.func (.yield l) [] []) args A=some (.bool true,A3.set n0 (.loop r 0)):=by
 simp [dH,h1,hs,ha,h2,hb]
end
def Mx:aG:=fun args=>match args with
 | [.nilS]=>some .nilS
 | _=>none
theorem zV:ak Tryz.prog GS 63 Mx:=by
 refine ⟨zW.1,fun args r he w OK vs hok hG hl=>?_⟩
 unfold Mx at he
 split at he
 ·injection he with he
  subst he
  match vs,hl with
  | [v],hl=>
   obtain ⟨h1,_⟩:=hl
   obtain ⟨p,rfl⟩:=h1.inv_nilS
   cases p with
   | none=>
    refine (zK w).mono ?_
    rintro e w' ⟨rfl,rfl⟩
    exact ⟨_,OK,rfl,.nilS _ _,hok,Ext.refl _ _ _⟩
   | some a=>
    refine (zJ a w).mono ?_
    rintro e w' ⟨p,o,rfl,rfl⟩
    obtain ⟨k1,k2⟩:=rz (bK.nil hok) o
    exact ⟨_,OK,rfl,.nilS _ _,k1.ok,k2⟩
 ·cases he
def H63:aD:=fun _ args A=>match args with
 | [.nilS]=>some (.nilS,A)
 | _=>bA (ai GS []) 0 HK args A
theorem yz:an Tryz.prog GS 63 H63:=by
 have hn:=an.of_pure zV 4
 have hf:an Tryz.prog GS 63 (fun _=>bA (ai GS []) 0 HK):=(aN (E:=ai GS []) (aj aw) rfl Mr zh a5.nil).y
 refine ⟨hn.1,fun ys h hs args A r A' hm=>?_⟩
 unfold H63 at hm
 split at hm
 ·injection hm with hm
  injection hm with h1 h2
  subst h1 h2
  exact hn.2 ys h hs _ _ _ _ rfl
 ·exact hf.2 ys h hs _ _ _ _ hm
def Ii:aD:=fun _ args A=>match args with
 | [.nilS,.int .i64 n]=>if 0<n/\n<=1000 then some (.sl A.length 0 0,A++[.row 1 false []]) else none
 | _=>none
theorem Aj:an Tryz.prog GS 158 Ii:=by
 refine ⟨fun args w=>enters_of Tryz.func158 (by kernel_rfl) rfl args w,fun ys h hs args A r A' he w OK g vs hA hI hl=>?_⟩
 unfold Ii at he
 split at he
 ·rename_i n
  simp only [Option.ite_none_right_eq_some,Option.some.injEq,Prod.mk.injEq] at he
  obtain ⟨⟨h0,hn⟩,rfl,rfl⟩:=he
  match vs,hl with
  | [v,u],hl=>
   obtain ⟨h1,h2,_⟩:=hl
   obtain ⟨p,rfl⟩:=h1.inv_nilS
   obtain rfl:=h2.inv_int
   obtain ⟨k,rfl⟩:∃k:Nat,n=(k:Int):=⟨n.toNat,by omega⟩
   refine (zL p k w (by omega) (by omega)).mono ?_
   rintro e w' ⟨rfl,rfl⟩
   have hG:=grownCap_ge w k 0 3
   obtain ⟨c,hc⟩:∃c,c=Builtin.zeroCells #[.int .i64 0] k++Builtin.zeroCells #[.int .i64 0] (grownCap w k 0 3-k):=⟨_,rfl⟩
   have hcs:c.size=grownCap w k 0 3:=by
    rw [hc]
    simp only [Array.size_append,cc]
    simp; omega
   rw [<-hc]
   obtain ⟨q1,q2⟩:=hA.pushRow (w':=w.drew.alloc (.cells c 3)) c 3 (0,0) rfl rfl rfl rfl (bF _) 1 (grownCap w k 0 3) false [] (by simp) (by rw [hcs]; omega) (fun i hi=>by simp at hi)
   exact ⟨_,OK,_,rfl,.sl _ _ 0 0 _ _ _ (az.push_self _ _ _) (by omega) (by simp) (by simp) (fun _=>by simp),q1,q2⟩
 ·cases he
theorem FH {hd:aZ} {l b:Nat} {i n:Int} {A B:ac} (hA:A[b]?=some (.row 7 false [bg i (.fs 1 [.int .i64 n])])) (hn : -1<=n) (hy:hd (.func (.yield l) [] []) [.int .i64 n] A=some (.bool true,B)) :
  zF hd [.func (.yield l) [] [],.ptr b 0 0] A=some (.tup [],B):=by
 have lp:bM (evC (ee GS [] hd) 50 fj) gb 50 (it (.func (.yield l) [] []) (.int .i64 (-1)) (.fs 1 [.int .i64 n]) (.int .i64 1) (.int .i64 0)) A=some (.exit 0 ((it (.func (.yield l) [] []) (.int .i64 (-1)) (.fs 1 [.int .i64 n]) (.int .i64 1) (.int .i64 1)).set 7 (.bool false)) B):=by
  have hle:aq .leq (.int .i64 (-1)) (.int .i64 n)=some (.bool true):=by simp [aq,hn]
  have hge:aq .geq (.int .i64 (-1)) (.int .i64 0)=some (.bool false):=by simp [aq]
  have h1:aq .lss (.int .i64 0) (.int .i64 1)=some (.bool true):=by simp [aq]
  have h2:aq .lss (.int .i64 1) (.int .i64 1)=some (.bool false):=by simp [aq]
  have h3:aq .add (.int .i64 0) (.int .i64 1)=some (.int .i64 1):=aY 0 (by omega)
  have hc:(ee GS [] hd).call (.func (.yield l) [] []) [.int .i64 n] A=some (.bool true,B):=by simp [Env.call,ee,hy]
  have r1:run (ee GS [] hd) 50 [.code fj] (it (.func (.yield l) [] []) (.int .i64 (-1)) (.fs 1 [.int .i64 n]) (.int .i64 1) (.int .i64 0)) A=some (.normal [.func (.yield l) [] [],.undef,.int .i64 (-1),.undef,.fs 1 [.int .i64 n],.int .i64 1,.int .i64 1,.undef,.undef,.undef,.undef,.undef] B):=by
   simp [fj,hle,hge,h1,h3,hc,-aq]
  rw [aK,oY,r1]
  show bM _ _ 49 _ _=_
  rw [aK,oY]
  simp [fj,h2,-aq]
 have hge:aq .geq (.int .i64 (-1)) (.int .i64 0)=some (.bool false):=by simp [aq]
 unfold zF
 rw [bH _ _ rfl]
 unfold bg at hA
 simp [xO,hA,vk lp,hge,-aq]
theorem IQ {hd:aZ} {l b:Nat} {i:Int} {A:ac} (hA:A[b]?=some (.row 7 false [bg i .nilS])) :
  zF hd [.func (.yield l) [] [],.ptr b 0 0] A=some (.tup [],A):=by
 have lp:bM (evC (ee GS [] hd) 50 fj) gb 50 (it (.func (.yield l) [] []) (.int .i64 (-1)) .nilS (.int .i64 0) (.int .i64 0)) A=some (.exit 0 ((it (.func (.yield l) [] []) (.int .i64 (-1)) .nilS (.int .i64 0) (.int .i64 0)).set 7 (.bool false)) A):=by
  rw [aK,oY]
  have h1:aq .lss (.int .i64 0) (.int .i64 0)=some (.bool false):=by simp [aq]
  simp [fj,h1,-aq]
 have hge:aq .geq (.int .i64 (-1)) (.int .i64 0)=some (.bool false):=by simp [aq]
 unfold zF
 rw [bH _ _ rfl]
 unfold bg at hA
 simp [xO,hA,vk lp,hge,-aq]
def fN:List (FuncId × aD):=[(174,aF 4 If),(176,MQ),(183,zF)]
def zG:aD:=fun _=>bA (ai GS fN) 50 BU
theorem Ac:an Tryz.prog GS 175 zG:=(aN (E:=ai GS fN) (aj (ae (an.of_pure um 4) (ae Ab (ae z7 aw)))) rfl KD CF a5.nil).y
end Sh
namespace Sh
open Go
def BG:MC:=.region [⟨some 4,.box (.var 0),none⟩,⟨some 5,.box (.var 1),none⟩]
def BF:MC:=.region [⟨none,.load true 7 (.var 5),none⟩,⟨some 7,.call (.fn 176) [.tmp 0],none⟩]
def BE:MC:=.seq (.block 0 (.rangeFunc (.var 7) [8] iA iz)) (.kill [0,1,2,3,4,5,6,7,8,9])
theorem BS:BU=⟨4,10,.seq BG (.seq BF BE),[]⟩:=rfl
def wA1:ac:=[.row 4 false [bz],.row 4 false [bz],.row 1 false [.nilP,.nilP,.nilP],.row 1 false [.sl 2 0 3],.row 1 false [.bool false,.bool false,.bool false],.row 1 false [.func (.func 174) [] []]]
def wB1:ac:=[.row 4 false [bz],.row 4 false [bz],.row 1 false [.nilP,.ptr 10 0 0,.nilP],.row 1 false [.sl 2 0 3],.row 1 false [.bool false,.bool false,.bool false],.row 1 false [.func (.func 174) [] []],.row 2 false [.agg [.int .i64 2,.nilS]],.row 7 false [bg 0 (.fs 1 [.int .i64 1])],.row 7 false [bg 0 (.fs 1 [.int .i64 1])],.dead,.row 2 false [.agg [.int .i64 2,.nilS]]]
def wA2:ac:=[.row 4 false [bz],.row 4 false [bz],.row 1 false [.nilP,.ptr 10 0 0,.nilP],.row 1 false [.sl 2 0 3],.row 1 false [.bool false,.bool true,.bool false],.row 1 false [.func (.func 174) [] []],.row 2 false [.agg [.int .i64 2,.nilS]],.row 7 false [bg 0 (.fs 1 [.int .i64 1])],.row 7 false [bg 0 (.fs 1 [.int .i64 1])],.dead,.row 2 false [.agg [.int .i64 2,.nilS]],.row 1 false [.int .i64 1]]
def wB2:ac:=[.row 4 false [bz],.row 4 false [bz],.row 1 false [.nilP,.ptr 10 0 0,.ptr 16 0 0],.row 1 false [.sl 2 0 3],.row 1 false [.bool false,.bool true,.bool false],.row 1 false [.func (.func 174) [] []],.row 2 false [.agg [.int .i64 2,.nilS]],.row 7 false [bg 0 (.fs 1 [.int .i64 1])],.row 7 false [bg 0 (.fs 1 [.int .i64 1])],.dead,.row 2 false [.agg [.int .i64 2,.nilS]],.row 1 false [.int .i64 1],.row 2 false [.agg [.int .i64 14,.sl 11 0 1]],.row 7 false [bg 1 (.fs 1 [.int .i64 2])],.row 7 false [bg 1 (.fs 1 [.int .i64 2])],.dead,.row 2 false [.agg [.int .i64 14,.sl 11 0 1]]]
def wA3:ac:=[.row 4 false [bz],.row 4 false [bz],.row 1 false [.nilP,.ptr 10 0 0,.ptr 16 0 0],.row 1 false [.sl 2 0 3],.row 1 false [.bool false,.bool true,.bool true],.row 1 false [.func (.func 174) [] []],.row 2 false [.agg [.int .i64 2,.nilS]],.row 7 false [bg 0 (.fs 1 [.int .i64 1])],.row 7 false [bg 0 (.fs 1 [.int .i64 1])],.dead,.row 2 false [.agg [.int .i64 2,.nilS]],.row 1 false [.int .i64 1],.row 2 false [.agg [.int .i64 14,.sl 11 0 1]],.row 7 false [bg 1 (.fs 1 [.int .i64 2])],.row 7 false [bg 1 (.fs 1 [.int .i64 2])],.dead,.row 2 false [.agg [.int .i64 14,.sl 11 0 1]],.dead,.dead,.row 1 false [.int .i64 1,.int .i64 2]]
def wB3:ac:=[.row 4 false [bz],.row 4 false [bz],.row 1 false [.nilP,.ptr 10 0 0,.ptr 16 0 0],.row 1 false [.sl 2 0 3],.row 1 false [.bool false,.bool true,.bool true],.row 1 false [.func (.func 174) [] []],.row 2 false [.agg [.int .i64 2,.nilS]],.row 7 false [bg 0 (.fs 1 [.int .i64 1])],.row 7 false [bg 0 (.fs 1 [.int .i64 1])],.dead,.row 2 false [.agg [.int .i64 2,.nilS]],.row 1 false [.int .i64 1],.row 2 false [.agg [.int .i64 14,.sl 11 0 1]],.row 7 false [bg 1 (.fs 1 [.int .i64 2])],.row 7 false [bg 1 (.fs 1 [.int .i64 2])],.dead,.row 2 false [.agg [.int .i64 14,.sl 11 0 1]],.dead,.dead,.row 1 false [.int .i64 1,.int .i64 2],.row 2 false [.agg [.int .i64 26,.sl 19 0 2]],.row 7 false [bg 2 .nilS],.row 7 false [bg 2 .nilS],.dead]
theorem uz {hd:aZ} {args σ1 σ2:List AV} {A A1 A2 B:ac} {b:Nat} (hl:args.length=4) (h1:∀K,run (ai GS fN) 50 (.code BG :: K) (args++List.replicate 6 .undef) A=run (ai GS fN) 50 K σ1 A1) (h2:∀K,run (ai GS fN) 50 (.code BF :: K) σ1 A1=run (ai GS fN) 50 K σ2 A2)
  (hv:evX (ai GS fN) σ2 [] (.var 7)=.func (.func 183) [] [.ptr b 0 0])
  (h3:∀(l:Nat) (r:Loop),∃B',zF (dH A2.length l r σ2 [8] (evC (ai GS fN) 50 iA) (evC (ai GS fN) 50 iz) (fun _ _ _=>none)) [.func (.yield l) [] [],.ptr b 0 0] (A2++[.loop r 0])=some (.tup [],B')/\B'[A2.length]?=some (.loop r 0)/\B'.set A2.length .dead=B) :
  zG hd args A=some (.tup [],B):=by
 have hr:∀K,run (ai GS fN) 50 (.code (.rangeFunc (.var 7) [8] iA iz) :: K) σ2 A2=after (ai GS fN) 50 K (.normal σ2 B):=fun K=>by
  refine iX _ _ _ _ _ fun l r=>?_
  obtain ⟨B',e1,e2,e3⟩:=h3 l r
  rw [hv]
  show (match zF (dH A2.length l r σ2 [8] (evC (ai GS fN) 50 iA) (evC (ai GS fN) 50 iz) (fun _ _ _=>none)) [.func (.yield l) [] [],.ptr b 0 0] (A2++[.loop r 0]) with
   | some (_,A')=>jC A2.length σ2 A'
   | none=>none)=_
  rw [e1]
  simp [jC,e2,e3]
 unfold zG
 rw [bH _ _ (by rw [hl]; rfl),BS]
 show (match run (ai GS fN) 50 [.code (.seq BG (.seq BF BE))] (args++List.replicate 6 .undef) A with
  | some (.normal σ A')=>(dt A' σ []).map fun l=>(eH l,A')
  | some (.ret σ A')=>(dt A' σ []).map fun l=>(eH l,A')
  | _=>none)=_
 rw [aW,h1,aW,h2]
 unfold BE
 rw [aW,fR,hr]
 simp [dt]
theorem rD {σ σ3 σ4:List AV} {l:Nat} {r:Loop} {n:Int} {A2 A4:ac} (_hσ:σ.length=10) (ha:∀X,evC (ai GS fN) 50 iA (σ.set 8 (.int .i64 n)) (A2++[X])=some (.normal σ3 (A2++[X]))) (hb:evC (ai GS fN) 50 iz σ3 (A2++[.dead])=some (.normal σ4 A4)) :
  dH A2.length l r σ [8] (evC (ai GS fN) 50 iA) (evC (ai GS fN) 50 iz) (fun _ _ _=>none) (.func (.yield l) [] []) [.int .i64 n] (A2++[.loop r 0])=some (.bool true,A4.set A2.length (.loop r 0)):=
 sU (by simp) rfl (ha _) (by simp) (by
  rw [show (A2++[Ent.loop r 0]).set A2.length .dead=A2++[.dead] by simp]
  exact hb)
theorem add1 (hd:aZ):zG hd [.agg [.int .i64 2,.nilS],bg 0 (.fs 1 [.int .i64 1]),.ptr 3 0 0,.ptr 5 0 0] wA1=some (.tup [],wB1):=by
 refine uz (σ1:=[.agg [.int .i64 2,.nilS],bg 0 (.fs 1 [.int .i64 1]),.ptr 3 0 0,.ptr 5 0 0,.ptr 6 0 0,.ptr 7 0 0,.undef,.undef,.undef,.undef]) (σ2:=[.agg [.int .i64 2,.nilS],bg 0 (.fs 1 [.int .i64 1]),.ptr 3 0 0,.ptr 5 0 0,.ptr 6 0 0,.ptr 7 0 0,.undef,.func (.func 183) [] [.ptr 8 0 0],.undef,.undef]) (A1:=wA1++[.row 2 false [.agg [.int .i64 2,.nilS]],.row 7 false [bg 0 (.fs 1 [.int .i64 1])]]) (A2:=wA1++[.row 2 false [.agg [.int .i64 2,.nilS]],.row 7 false [bg 0 (.fs 1 [.int .i64 1])],.row 7 false [bg 0 (.fs 1 [.int .i64 1])]]) (b:=8) rfl (fun K=>by kernel_rfl) (fun K=>by kernel_rfl) rfl fun l r=>?_
 refine ⟨_,FH (i:=0) (n:=1) rfl (by omega) (rD (σ3:=[.agg [.int .i64 2,.nilS],bg 0 (.fs 1 [.int .i64 1]),.ptr 3 0 0,.ptr 5 0 0,.ptr 6 0 0,.ptr 7 0 0,.int .i64 1,.func (.func 183) [] [.ptr 8 0 0],.int .i64 1,.undef]) (σ4:=List.replicate 10 .undef) (A4:=wB1) rfl (fun X=>by kernel_rfl) (by kernel_rfl)),rfl,rfl⟩
theorem add2 (hd:aZ):zG hd [.agg [.int .i64 14,.sl 11 0 1],bg 1 (.fs 1 [.int .i64 2]),.ptr 3 0 0,.ptr 5 0 0] wA2=some (.tup [],wB2):=by
 refine uz (σ1:=[.agg [.int .i64 14,.sl 11 0 1],bg 1 (.fs 1 [.int .i64 2]),.ptr 3 0 0,.ptr 5 0 0,.ptr 12 0 0,.ptr 13 0 0,.undef,.undef,.undef,.undef]) (σ2:=[.agg [.int .i64 14,.sl 11 0 1],bg 1 (.fs 1 [.int .i64 2]),.ptr 3 0 0,.ptr 5 0 0,.ptr 12 0 0,.ptr 13 0 0,.undef,.func (.func 183) [] [.ptr 14 0 0],.undef,.undef]) (A1:=wA2++[.row 2 false [.agg [.int .i64 14,.sl 11 0 1]],.row 7 false [bg 1 (.fs 1 [.int .i64 2])]]) (A2:=wA2++[.row 2 false [.agg [.int .i64 14,.sl 11 0 1]],.row 7 false [bg 1 (.fs 1 [.int .i64 2])],.row 7 false [bg 1 (.fs 1 [.int .i64 2])]]) (b:=14) rfl (fun K=>by kernel_rfl) (fun K=>by kernel_rfl) rfl fun l r=>?_
 refine ⟨_,FH (i:=1) (n:=2) rfl (by omega) (rD (σ3:=[.agg [.int .i64 14,.sl 11 0 1],bg 1 (.fs 1 [.int .i64 2]),.ptr 3 0 0,.ptr 5 0 0,.ptr 12 0 0,.ptr 13 0 0,.int .i64 2,.func (.func 183) [] [.ptr 14 0 0],.int .i64 2,.undef]) (σ4:=List.replicate 10 .undef) (A4:=wB2) rfl (fun X=>by kernel_rfl) (by kernel_rfl)),rfl,rfl⟩
theorem add3 (hd:aZ):zG hd [.agg [.int .i64 26,.sl 19 0 2],bg 2 .nilS,.ptr 3 0 0,.ptr 5 0 0] wA3=some (.tup [],wB3):=by
 refine uz (σ1:=[.agg [.int .i64 26,.sl 19 0 2],bg 2 .nilS,.ptr 3 0 0,.ptr 5 0 0,.ptr 20 0 0,.ptr 21 0 0,.undef,.undef,.undef,.undef]) (σ2:=[.agg [.int .i64 26,.sl 19 0 2],bg 2 .nilS,.ptr 3 0 0,.ptr 5 0 0,.ptr 20 0 0,.ptr 21 0 0,.undef,.func (.func 183) [] [.ptr 22 0 0],.undef,.undef]) (A1:=wA3++[.row 2 false [.agg [.int .i64 26,.sl 19 0 2]],.row 7 false [bg 2 .nilS]]) (A2:=wA3++[.row 2 false [.agg [.int .i64 26,.sl 19 0 2]],.row 7 false [bg 2 .nilS],.row 7 false [bg 2 .nilS]]) (b:=22) rfl (fun K=>by kernel_rfl) (fun K=>by kernel_rfl) rfl fun l r=>?_
 refine ⟨_,IQ (i:=2) rfl,rfl,rfl⟩
end Sh
namespace Sh
open Go
def cw:List (FuncId × aD):=[(63,H63),(174,aF 4 If),(175,zG)]
@[simp] theorem H3:aI cw 63=some H63:=rfl
@[simp] theorem F5:aI cw 174=some (aF 4 If):=rfl
@[simp] theorem F4:aI cw 175=some zG:=rfl
def HC:aD:=fun _=>bA (ai GS cw) 50 BW
theorem Ak:an Tryz.prog GS 157 HC:=(aN (E:=ai GS cw) (aj (ae yz (ae (an.of_pure um 4) (ae Ac aw)))) rfl KO CO a5.nil).y
def t6:MC:=.region [⟨some 8,.mv (.cst (.int .i64 (-1))),none⟩]
def t5:MC:=.seq (.region [⟨some 11,.load false 1 (.var 4),none⟩,⟨some 12,.lenSl (.var 11),none⟩,⟨some 13,.mv (.cst (.int .i64 0)),none⟩]) (.seq (.block 2 (.loop [0,1,3,9,10,14,15,16] uQ)) (.kill [0,1,3,9,10,11,12,13,14,15,16]))
def tZ:MC:=.seq (.region [⟨none,.mv (.var 8),none⟩,⟨some 16,.bin .lss (.tmp 0) (.cst (.int .i64 0)),none⟩]) (.cond (.var 16) (.seq (.region [⟨none,.load false 1 (.var 4),none⟩,⟨some 3,.mv (.tmp 0),none⟩]) .ret) .skip)
def tY:MC:=.region [⟨none,.mv (.var 5),none⟩,⟨none,.mv (.var 8),none⟩,⟨none,.indexSl 1 (.tmp 0) (.tmp 1),none⟩,⟨none,.store 1 (.tmp 2) (.cst (.bool true)),none⟩]
def pd:MC:=.regionD [] [⟨none,.mv (.var 7),none⟩,⟨none,.load false 1 (.var 4),none⟩,⟨none,.mv (.var 8),none⟩,⟨none,.indexSl 1 (.tmp 1) (.tmp 2),none⟩,⟨none,.load false 1 (.tmp 3),none⟩,⟨none,.nilCheck (.tmp 4),none⟩,⟨none,.fieldAddr 0 (.tmp 5),none⟩,⟨none,.load false 1 (.tmp 6),none⟩,⟨none,.fieldAddr 2 (.var 2),none⟩,⟨none,.load false 1 (.tmp 8),none⟩,⟨none,.mv (.var 8),none⟩,⟨none,.indexSl 7 (.tmp 9) (.tmp 10),none⟩,⟨none,.fieldAddr 2 (.tmp 11),none⟩,⟨none,.load false 1 (.tmp 12),none⟩,⟨none,.bin .add (.tmp 7) (.tmp 13),none⟩,⟨none,.fieldAddr 0 (.var 2),none⟩,⟨none,.load false 1 (.tmp 15),none⟩,⟨none,.bin .add (.tmp 14) (.tmp 16),none⟩,⟨none,.load false 1 (.var 4),none⟩,⟨none,.mv (.var 8),none⟩,⟨none,.indexSl 1 (.tmp 18) (.tmp 19),none⟩,⟨none,.load false 1 (.tmp 20),none⟩,⟨none,.nilCheck (.tmp 21),none⟩,⟨none,.fieldAddr 1 (.tmp 22),none⟩,⟨none,.load false 1 (.tmp 23),none⟩,⟨none,.call (.fn 63) [.tmp 24],none⟩,⟨none,.mv (.var 8),none⟩,⟨none,.buildF 1 [.tmp 26],none⟩,⟨none,.appendN 1 8 (.tmp 25) (.tmp 27),none⟩,⟨none,.build [.int .i64 0,.nilS] [(0,(1,.tmp 17)),(1,(1,.tmp 28))],none⟩,⟨none,.fieldAddr 2 (.var 2),none⟩,⟨none,.load false 1 (.tmp 30),none⟩,⟨none,.mv (.var 8),none⟩,⟨none,.indexSl 7 (.tmp 31) (.tmp 32),none⟩,⟨none,.load true 7 (.tmp 33),none⟩,⟨none,.call (.tmp 0) [.tmp 29,.tmp 34],none⟩] [(1,25),(3,25),(4,25),(6,25),(7,25),(8,25),(9,25),(11,25),(12,25),(13,25),(15,25),(16,25),(1,28),(3,28),(4,28),(6,28),(7,28),(8,28),(9,28),(11,28),(12,28),(13,28),(15,28),(16,28),(25,30),(28,30),(25,31),(28,31),(25,33),(28,33),(25,34),(28,34)]
def It:MC:=.kill [0,1,3,8,9,10,11,12,13,14,15,16]
theorem pH:fk=.seq (.block 1 (.seq t6 (.seq t5 (.seq tZ (.seq tY pd))))) It:=rfl
def tX:MC:=.region [⟨some 2,.box (.var 0),none⟩,⟨some 3,.mv (.cst .nilS),none⟩]
def tW:MC:=.region [⟨none,.fieldAddr 2 (.var 2),none⟩,⟨none,.load false 1 (.tmp 0),none⟩,⟨none,.lenSl (.tmp 1),none⟩,⟨none,.makeSlice 1 8 .nilP (.tmp 2) (.tmp 2),none⟩,⟨some 4,.alloc 1 .nilS,none⟩,⟨none,.store 1 (.var 4) (.tmp 3),none⟩]
def tV:MC:=.region [⟨none,.fieldAddr 2 (.var 2),none⟩,⟨none,.load false 1 (.tmp 0),none⟩,⟨none,.lenSl (.tmp 1),none⟩,⟨none,.makeSlice 1 1 (.bool false) (.tmp 2) (.tmp 2),none⟩,⟨some 5,.mv (.tmp 3),none⟩]
def tU:MC:=.region [⟨some 6,.alloc 1 .nilF,none⟩,⟨none,.store 1 (.var 6) (.fn 174),none⟩]
def tT:MC:=.region [⟨none,.makeFunc (.func 175) [] [.var 4,.var 6],none⟩,⟨some 7,.mv (.tmp 0),none⟩]
def rE:MC:=.region [⟨none,.mv (.var 7),none⟩,⟨none,.fieldAddr 0 (.var 2),none⟩,⟨none,.load false 1 (.tmp 1),none⟩,⟨none,.build [.int .i64 0,.nilS] [(0,(1,.tmp 2))],none⟩,⟨none,.fieldAddr 2 (.var 2),none⟩,⟨none,.load false 1 (.tmp 4),none⟩,⟨none,.mv (.var 1),none⟩,⟨none,.indexSl 7 (.tmp 5) (.tmp 6),none⟩,⟨none,.load true 7 (.tmp 7),none⟩,⟨none,.call (.tmp 0) [.tmp 3,.tmp 8],none⟩]
def zM:MC:=.seq (.block 0 (.loop [0,1,3,8,9,10,11,12,13,14,15,16] fk)) (.kill [0,1,2,3,4,5,6,7,8,9,10,11,12,13,14,15,16])
theorem BV:BW=⟨2,17,.seq tX (.seq tW (.seq tV (.seq tU (.seq tT (.seq rE zM))))),[.tmp 3]⟩:=rfl
def wC2:ac:=wB1.set 4 (.row 1 false [.bool false,.bool true,.bool false])
def wC3:ac:=wB2.set 4 (.row 1 false [.bool false,.bool true,.bool true])
def wD3:ac:=wC3++[.dead,.row 1 false [.int .i64 1]]
def gV:List AV:=[bg 0 (.fs 1 [.int .i64 1]),bg 1 (.fs 1 [.int .i64 2]),bg 2 .nilS]
theorem q5a {K:List KC}:run (ai GS cw) 50 (.code pd :: K) [.undef,.undef,.ptr 1 0 0,.undef,.ptr 3 0 0,.sl 4 0 3,.ptr 5 0 0,.func (.func 175) [] [.ptr 3 0 0,.ptr 5 0 0],.int .i64 1,.undef,.undef,.undef,.undef,.undef,.undef,.undef,.bool false] wC2=run (ai GS cw) 50 K [.undef,.undef,.ptr 1 0 0,.undef,.ptr 3 0 0,.sl 4 0 3,.ptr 5 0 0,.func (.func 175) [] [.ptr 3 0 0,.ptr 5 0 0],.int .i64 1,.undef,.undef,.undef,.undef,.undef,.undef,.undef,.bool false] wB2:=by
 have f1:af false 1 wC2 (.ptr 3 0 0)=some (.sl 2 0 3):=rfl
 have f2:au 1 wC2 (.sl 2 0 3) (.int .i64 1)=some (.ptr 2 1 0):=rfl
 have f3:af false 1 wC2 (.ptr 2 1 0)=some (.ptr 10 0 0):=rfl
 have f4:aa 0 wC2 (.ptr 10 0 0)=some (.ptr 10 0 0):=rfl
 have f5:af false 1 wC2 (.ptr 10 0 0)=some (.int .i64 2):=rfl
 have f6:aa 2 wC2 (.ptr 1 0 0)=some (.ptr 1 0 2):=rfl
 have f7:af false 1 wC2 (.ptr 1 0 2)=some (.fs 7 gV):=rfl
 have f8:au 7 wC2 (.fs 7 gV) (.int .i64 1)=some (.fp [.int .i64 1,.fs 1 [.int .i64 1],.int .i64 10,.int .i64 20,.fs 1 [.int .i64 2],.int .i64 (-1),.int .i64 0]):=rfl
 have f9:aa 2 wC2 (.fp [.int .i64 1,.fs 1 [.int .i64 1],.int .i64 10,.int .i64 20,.fs 1 [.int .i64 2],.int .i64 (-1),.int .i64 0])=some (.fp [.int .i64 10,.int .i64 20,.fs 1 [.int .i64 2],.int .i64 (-1),.int .i64 0]):=rfl
 have f10:af false 1 wC2 (.fp [.int .i64 10,.int .i64 20,.fs 1 [.int .i64 2],.int .i64 (-1),.int .i64 0])=some (.int .i64 10):=rfl
 have f11:aq .add (.int .i64 2) (.int .i64 10)=some (.int .i64 12):=rfl
 have f12:aa 0 wC2 (.ptr 1 0 0)=some (.ptr 1 0 0):=rfl
 have f13:af false 1 wC2 (.ptr 1 0 0)=some (.int .i64 2):=rfl
 have f14:aq .add (.int .i64 12) (.int .i64 2)=some (.int .i64 14):=rfl
 have f15:aa 1 wC2 (.ptr 10 0 0)=some (.ptr 10 0 1):=rfl
 have f16:af false 1 wC2 (.ptr 10 0 1)=some (.nilS):=rfl
 have f17:H63 (fun _ _ _=>none) [.nilS] wC2=some (.nilS,wC2):=rfl
 have f18:cF 1 8 wC2 (.nilS) (.fs 1 [.int .i64 1])=some (.sl 11 0 1,wA2):=rfl
 have f19:aa 2 wA2 (.ptr 1 0 0)=some (.ptr 1 0 2):=rfl
 have f20:af false 1 wA2 (.ptr 1 0 2)=some (.fs 7 gV):=rfl
 have f21:au 7 wA2 (.fs 7 gV) (.int .i64 1)=some (.fp [.int .i64 1,.fs 1 [.int .i64 1],.int .i64 10,.int .i64 20,.fs 1 [.int .i64 2],.int .i64 (-1),.int .i64 0]):=rfl
 have f22:af true 7 wA2 (.fp [.int .i64 1,.fs 1 [.int .i64 1],.int .i64 10,.int .i64 20,.fs 1 [.int .i64 2],.int .i64 (-1),.int .i64 0])=some (bg 1 (.fs 1 [.int .i64 2])):=rfl
 have f23:wC2.length=11:=rfl
 have fa:=add2 (fun _ _ _=>none)
 simp (maxSteps:=1000000) [pd,f1,f2,f3,f4,f5,f6,f7,f8,f9,f10,f11,f12,f13,f14,f15,f16,f17,f18,f19,f20,f21,f22,f23,fa,-af,-au,-aa,-aq]
theorem q5b {K:List KC}:run (ai GS cw) 50 (.code pd :: K) [.undef,.undef,.ptr 1 0 0,.undef,.ptr 3 0 0,.sl 4 0 3,.ptr 5 0 0,.func (.func 175) [] [.ptr 3 0 0,.ptr 5 0 0],.int .i64 2,.undef,.undef,.undef,.undef,.undef,.undef,.undef,.bool false] wC3=run (ai GS cw) 50 K [.undef,.undef,.ptr 1 0 0,.undef,.ptr 3 0 0,.sl 4 0 3,.ptr 5 0 0,.func (.func 175) [] [.ptr 3 0 0,.ptr 5 0 0],.int .i64 2,.undef,.undef,.undef,.undef,.undef,.undef,.undef,.bool false] wB3:=by
 have f1:af false 1 wC3 (.ptr 3 0 0)=some (.sl 2 0 3):=rfl
 have f2:au 1 wC3 (.sl 2 0 3) (.int .i64 2)=some (.ptr 2 2 0):=rfl
 have f3:af false 1 wC3 (.ptr 2 2 0)=some (.ptr 16 0 0):=rfl
 have f4:aa 0 wC3 (.ptr 16 0 0)=some (.ptr 16 0 0):=rfl
 have f5:af false 1 wC3 (.ptr 16 0 0)=some (.int .i64 14):=rfl
 have f6:aa 2 wC3 (.ptr 1 0 0)=some (.ptr 1 0 2):=rfl
 have f7:af false 1 wC3 (.ptr 1 0 2)=some (.fs 7 gV):=rfl
 have f8:au 7 wC3 (.fs 7 gV) (.int .i64 2)=some (.fp [.int .i64 1,.fs 1 [.int .i64 2],.int .i64 10,.int .i64 20,.nilS,.int .i64 (-1),.int .i64 0]):=rfl
 have f9:aa 2 wC3 (.fp [.int .i64 1,.fs 1 [.int .i64 2],.int .i64 10,.int .i64 20,.nilS,.int .i64 (-1),.int .i64 0])=some (.fp [.int .i64 10,.int .i64 20,.nilS,.int .i64 (-1),.int .i64 0]):=rfl
 have f10:af false 1 wC3 (.fp [.int .i64 10,.int .i64 20,.nilS,.int .i64 (-1),.int .i64 0])=some (.int .i64 10):=rfl
 have f11:aq .add (.int .i64 14) (.int .i64 10)=some (.int .i64 24):=rfl
 have f12:aa 0 wC3 (.ptr 1 0 0)=some (.ptr 1 0 0):=rfl
 have f13:af false 1 wC3 (.ptr 1 0 0)=some (.int .i64 2):=rfl
 have f14:aq .add (.int .i64 24) (.int .i64 2)=some (.int .i64 26):=rfl
 have f15:aa 1 wC3 (.ptr 16 0 0)=some (.ptr 16 0 1):=rfl
 have f16:af false 1 wC3 (.ptr 16 0 1)=some (.sl 11 0 1):=rfl
 have f17:H63 (fun _ _ _=>none) [.sl 11 0 1] wC3=some (.sl 18 0 1,wD3):=rfl
 have f18:cF 1 8 wD3 (.sl 18 0 1) (.fs 1 [.int .i64 2])=some (.sl 19 0 2,wA3):=rfl
 have f19:aa 2 wA3 (.ptr 1 0 0)=some (.ptr 1 0 2):=rfl
 have f20:af false 1 wA3 (.ptr 1 0 2)=some (.fs 7 gV):=rfl
 have f21:au 7 wA3 (.fs 7 gV) (.int .i64 2)=some (.fp [.int .i64 1,.fs 1 [.int .i64 2],.int .i64 10,.int .i64 20,.nilS,.int .i64 (-1),.int .i64 0]):=rfl
 have f22:af true 7 wA3 (.fp [.int .i64 1,.fs 1 [.int .i64 2],.int .i64 10,.int .i64 20,.nilS,.int .i64 (-1),.int .i64 0])=some (bg 2 .nilS):=rfl
 have f23:wD3.length=19:=rfl
 have f24:wD3[1]?=wC3[1]?:=rfl
 have f25:wD3[2]?=wC3[2]?:=rfl
 have f26:wD3[3]?=wC3[3]?:=rfl
 have f27:wD3[16]?=wC3[16]?:=rfl
 have fa:=add3 (fun _ _ _=>none)
 simp (maxSteps:=1000000) [pd,f1,f2,f3,f4,f5,f6,f7,f8,f9,f10,f11,f12,f13,f14,f15,f16,f17,f18,f19,f20,f21,f22,f23,fa,-af,-au,-aa,-aq]
 refine if_pos ?_
 simp
 exact ⟨rfl,rfl,rfl,rfl⟩
def σ157:List AV:=[.undef,.undef,.ptr 1 0 0,.undef,.ptr 3 0 0,.sl 4 0 3,.ptr 5 0 0,.func (.func 175) [] [.ptr 3 0 0,.ptr 5 0 0],.undef,.undef,.undef,.undef,.undef,.undef,.undef,.undef,.undef]
theorem EB:run (ai GS cw) 50 [.code fk] σ157 wB1=some (.normal σ157 wB2):=by
 have k1:∀K,run (ai GS cw) 50 (.code t6 :: K) σ157 wB1=run (ai GS cw) 50 K [.undef,.undef,.ptr 1 0 0,.undef,.ptr 3 0 0,.sl 4 0 3,.ptr 5 0 0,.func (.func 175) [] [.ptr 3 0 0,.ptr 5 0 0],.int .i64 (-1),.undef,.undef,.undef,.undef,.undef,.undef,.undef,.undef] wB1:=fun K=>by kernel_rfl
 have k2:∀K,run (ai GS cw) 50 (.code t5 :: K) [.undef,.undef,.ptr 1 0 0,.undef,.ptr 3 0 0,.sl 4 0 3,.ptr 5 0 0,.func (.func 175) [] [.ptr 3 0 0,.ptr 5 0 0],.int .i64 (-1),.undef,.undef,.undef,.undef,.undef,.undef,.undef,.undef] wB1=run (ai GS cw) 50 K [.undef,.undef,.ptr 1 0 0,.undef,.ptr 3 0 0,.sl 4 0 3,.ptr 5 0 0,.func (.func 175) [] [.ptr 3 0 0,.ptr 5 0 0],.int .i64 1,.undef,.undef,.undef,.undef,.undef,.undef,.undef,.undef] wB1:=fun K=>by kernel_rfl
 have k3:∀K,run (ai GS cw) 50 (.code tZ :: K) [.undef,.undef,.ptr 1 0 0,.undef,.ptr 3 0 0,.sl 4 0 3,.ptr 5 0 0,.func (.func 175) [] [.ptr 3 0 0,.ptr 5 0 0],.int .i64 1,.undef,.undef,.undef,.undef,.undef,.undef,.undef,.undef] wB1=run (ai GS cw) 50 K [.undef,.undef,.ptr 1 0 0,.undef,.ptr 3 0 0,.sl 4 0 3,.ptr 5 0 0,.func (.func 175) [] [.ptr 3 0 0,.ptr 5 0 0],.int .i64 1,.undef,.undef,.undef,.undef,.undef,.undef,.undef,.bool false] wB1:=fun K=>by kernel_rfl
 have k4:∀K,run (ai GS cw) 50 (.code tY :: K) [.undef,.undef,.ptr 1 0 0,.undef,.ptr 3 0 0,.sl 4 0 3,.ptr 5 0 0,.func (.func 175) [] [.ptr 3 0 0,.ptr 5 0 0],.int .i64 1,.undef,.undef,.undef,.undef,.undef,.undef,.undef,.bool false] wB1=run (ai GS cw) 50 K [.undef,.undef,.ptr 1 0 0,.undef,.ptr 3 0 0,.sl 4 0 3,.ptr 5 0 0,.func (.func 175) [] [.ptr 3 0 0,.ptr 5 0 0],.int .i64 1,.undef,.undef,.undef,.undef,.undef,.undef,.undef,.bool false] wC2:=fun K=>by kernel_rfl
 rw [pH,aW,fR,aW,k1,aW,k2,aW,k3,aW,k4,q5a]
 rfl
theorem EA:run (ai GS cw) 50 [.code fk] σ157 wB2=some (.normal σ157 wB3):=by
 have k1:∀K,run (ai GS cw) 50 (.code t6 :: K) σ157 wB2=run (ai GS cw) 50 K [.undef,.undef,.ptr 1 0 0,.undef,.ptr 3 0 0,.sl 4 0 3,.ptr 5 0 0,.func (.func 175) [] [.ptr 3 0 0,.ptr 5 0 0],.int .i64 (-1),.undef,.undef,.undef,.undef,.undef,.undef,.undef,.undef] wB2:=fun K=>by kernel_rfl
 have k2:∀K,run (ai GS cw) 50 (.code t5 :: K) [.undef,.undef,.ptr 1 0 0,.undef,.ptr 3 0 0,.sl 4 0 3,.ptr 5 0 0,.func (.func 175) [] [.ptr 3 0 0,.ptr 5 0 0],.int .i64 (-1),.undef,.undef,.undef,.undef,.undef,.undef,.undef,.undef] wB2=run (ai GS cw) 50 K [.undef,.undef,.ptr 1 0 0,.undef,.ptr 3 0 0,.sl 4 0 3,.ptr 5 0 0,.func (.func 175) [] [.ptr 3 0 0,.ptr 5 0 0],.int .i64 2,.undef,.undef,.undef,.undef,.undef,.undef,.undef,.undef] wB2:=fun K=>by kernel_rfl
 have k3:∀K,run (ai GS cw) 50 (.code tZ :: K) [.undef,.undef,.ptr 1 0 0,.undef,.ptr 3 0 0,.sl 4 0 3,.ptr 5 0 0,.func (.func 175) [] [.ptr 3 0 0,.ptr 5 0 0],.int .i64 2,.undef,.undef,.undef,.undef,.undef,.undef,.undef,.undef] wB2=run (ai GS cw) 50 K [.undef,.undef,.ptr 1 0 0,.undef,.ptr 3 0 0,.sl 4 0 3,.ptr 5 0 0,.func (.func 175) [] [.ptr 3 0 0,.ptr 5 0 0],.int .i64 2,.undef,.undef,.undef,.undef,.undef,.undef,.undef,.bool false] wB2:=fun K=>by kernel_rfl
 have k4:∀K,run (ai GS cw) 50 (.code tY :: K) [.undef,.undef,.ptr 1 0 0,.undef,.ptr 3 0 0,.sl 4 0 3,.ptr 5 0 0,.func (.func 175) [] [.ptr 3 0 0,.ptr 5 0 0],.int .i64 2,.undef,.undef,.undef,.undef,.undef,.undef,.undef,.bool false] wB2=run (ai GS cw) 50 K [.undef,.undef,.ptr 1 0 0,.undef,.ptr 3 0 0,.sl 4 0 3,.ptr 5 0 0,.func (.func 175) [] [.ptr 3 0 0,.ptr 5 0 0],.int .i64 2,.undef,.undef,.undef,.undef,.undef,.undef,.undef,.bool false] wC3:=fun K=>by kernel_rfl
 rw [pH,aW,fR,aW,k1,aW,k2,aW,k3,aW,k4,q5b]
 rfl
theorem Ez:run (ai GS cw) 50 [.code fk] σ157 wB3=some (.ret [.undef,.undef,.ptr 1 0 0,.sl 2 0 3,.ptr 3 0 0,.sl 4 0 3,.ptr 5 0 0,.func (.func 175) [] [.ptr 3 0 0,.ptr 5 0 0],.int .i64 (-1),.undef,.undef,.undef,.undef,.undef,.undef,.undef,.bool true] wB3):=by kernel_rfl
def wZ:ac:=[.row 4 false [bz]]
theorem IC {K:List KC}:run (ai GS cw) 50 (.code rE :: K) [bz,.int .i64 0,.ptr 1 0 0,.nilS,.ptr 3 0 0,.sl 4 0 3,.ptr 5 0 0,.func (.func 175) [] [.ptr 3 0 0,.ptr 5 0 0],.undef,.undef,.undef,.undef,.undef,.undef,.undef,.undef,.undef] wA1=run (ai GS cw) 50 K [bz,.int .i64 0,.ptr 1 0 0,.nilS,.ptr 3 0 0,.sl 4 0 3,.ptr 5 0 0,.func (.func 175) [] [.ptr 3 0 0,.ptr 5 0 0],.undef,.undef,.undef,.undef,.undef,.undef,.undef,.undef,.undef] wB1:=by
 have f1:aa 0 wA1 (.ptr 1 0 0)=some (.ptr 1 0 0):=rfl
 have f2:af false 1 wA1 (.ptr 1 0 0)=some (.int .i64 2):=rfl
 have f3:aa 2 wA1 (.ptr 1 0 0)=some (.ptr 1 0 2):=rfl
 have f4:af false 1 wA1 (.ptr 1 0 2)=some (.fs 7 gV):=rfl
 have f5:au 7 wA1 (.fs 7 gV) (.int .i64 0)=some (.fp [.int .i64 1,.fs 1 [.int .i64 0],.int .i64 10,.int .i64 20,.fs 1 [.int .i64 1],.int .i64 (-1),.int .i64 0]):=rfl
 have f6:af true 7 wA1 (.fp [.int .i64 1,.fs 1 [.int .i64 0],.int .i64 10,.int .i64 20,.fs 1 [.int .i64 1],.int .i64 (-1),.int .i64 0])=some (bg 0 (.fs 1 [.int .i64 1])):=rfl
 have fa:=add1 (fun _ _ _=>none)
 simp [rE,f1,f2,f3,f4,f5,f6,fa,-af,-au,-aa]
theorem yq (hd:aZ):HC hd [bz,.int .i64 0] wZ=some (.sl 2 0 3,wB3):=by
 have k1:∀K,run (ai GS cw) 50 (.code tX :: K) ([bz,.int .i64 0]++List.replicate 15 .undef) wZ=run (ai GS cw) 50 K [bz,.int .i64 0,.ptr 1 0 0,.nilS,.undef,.undef,.undef,.undef,.undef,.undef,.undef,.undef,.undef,.undef,.undef,.undef,.undef] (wA1.take 2):=fun K=>by kernel_rfl
 have k2:∀K,run (ai GS cw) 50 (.code tW :: K) [bz,.int .i64 0,.ptr 1 0 0,.nilS,.undef,.undef,.undef,.undef,.undef,.undef,.undef,.undef,.undef,.undef,.undef,.undef,.undef] (wA1.take 2)=run (ai GS cw) 50 K [bz,.int .i64 0,.ptr 1 0 0,.nilS,.ptr 3 0 0,.undef,.undef,.undef,.undef,.undef,.undef,.undef,.undef,.undef,.undef,.undef,.undef] (wA1.take 4):=fun K=>by kernel_rfl
 have k3:∀K,run (ai GS cw) 50 (.code tV :: K) [bz,.int .i64 0,.ptr 1 0 0,.nilS,.ptr 3 0 0,.undef,.undef,.undef,.undef,.undef,.undef,.undef,.undef,.undef,.undef,.undef,.undef] (wA1.take 4)=run (ai GS cw) 50 K [bz,.int .i64 0,.ptr 1 0 0,.nilS,.ptr 3 0 0,.sl 4 0 3,.undef,.undef,.undef,.undef,.undef,.undef,.undef,.undef,.undef,.undef,.undef] (wA1.take 5):=fun K=>by kernel_rfl
 have k4:∀K,run (ai GS cw) 50 (.code tU :: K) [bz,.int .i64 0,.ptr 1 0 0,.nilS,.ptr 3 0 0,.sl 4 0 3,.undef,.undef,.undef,.undef,.undef,.undef,.undef,.undef,.undef,.undef,.undef] (wA1.take 5)=run (ai GS cw) 50 K [bz,.int .i64 0,.ptr 1 0 0,.nilS,.ptr 3 0 0,.sl 4 0 3,.ptr 5 0 0,.undef,.undef,.undef,.undef,.undef,.undef,.undef,.undef,.undef,.undef] wA1:=fun K=>by kernel_rfl
 have k5:∀K,run (ai GS cw) 50 (.code tT :: K) [bz,.int .i64 0,.ptr 1 0 0,.nilS,.ptr 3 0 0,.sl 4 0 3,.ptr 5 0 0,.undef,.undef,.undef,.undef,.undef,.undef,.undef,.undef,.undef,.undef] wA1=run (ai GS cw) 50 K [bz,.int .i64 0,.ptr 1 0 0,.nilS,.ptr 3 0 0,.sl 4 0 3,.ptr 5 0 0,.func (.func 175) [] [.ptr 3 0 0,.ptr 5 0 0],.undef,.undef,.undef,.undef,.undef,.undef,.undef,.undef,.undef] wA1:=fun K=>by kernel_rfl
 have lp:bM (evC (ai GS cw) 50 fk) gc 50 σ157 wB1=some (.ret [.undef,.undef,.ptr 1 0 0,.sl 2 0 3,.ptr 3 0 0,.sl 4 0 3,.ptr 5 0 0,.func (.func 175) [] [.ptr 3 0 0,.ptr 5 0 0],.int .i64 (-1),.undef,.undef,.undef,.undef,.undef,.undef,.undef,.bool true] wB3):=by
  have cl:clear gc σ157=σ157:=rfl
  rw [aK,cl,EB]
  show bM _ _ 49 _ _=_
  rw [aK,cl,EA]
  show bM _ _ 48 _ _=_
  rw [aK,cl,Ez]
 unfold HC
 rw [bH _ _ rfl,BV]
 show (match run (ai GS cw) 50 [.code (.seq tX (.seq tW (.seq tV (.seq tU (.seq tT (.seq rE zM))))))] ([bz,.int .i64 0]++List.replicate 15 .undef) wZ with
  | some (.normal σ A')=>(dt A' σ [.tmp 3]).map fun l=>(eH l,A')
  | some (.ret σ A')=>(dt A' σ [.tmp 3]).map fun l=>(eH l,A')
  | _=>none)=_
 rw [aW,k1,aW,k2,aW,k3,aW,k4,aW,k5,aW,IC]
 unfold zM
 unfold σ157 at lp
 rw [aW,fR,Cv lp]
 rfl
end Sh
namespace Sh
open Go
def pQ:List (FuncId × aD):=[(63,H63),(156,aF 4 Ig),(157,HC)]
@[simp] theorem H4:aI pQ 63=some H63:=rfl
@[simp] theorem Gi:aI pQ 156=some (aF 4 Ig):=rfl
@[simp] theorem Gh:aI pQ 157=some HC:=rfl
theorem rS:ck Tryz.prog (ai GS pQ):=aj (ae yz (ae (an.of_pure Al 4) (ae Ak aw)))
def Hx:aG:=fun args=>evP (ai GS pQ) 50 BY 4 args
theorem AB:ak Tryz.prog GS 118 Hx:=ak.of_ev (E:=ai GS pQ) rS rfl K8 C6 4 fun _ _ h=>⟨50,h⟩
def Hv:aG:=fun args=>evP (ai GS pQ) 50 BX 4 args
theorem AA:ak Tryz.prog GS 119 Hv:=ak.of_ev (E:=ai GS pQ) rS rfl K7 C5 4 fun _ _ h=>⟨50,h⟩
def wE:ac:=wB3++[.dead,.row 1 false [.int .i64 1]]
theorem Hw:Hx [bz,.int .i64 0,.int .i64 2]=some (.tup [.fs 1 [.int .i64 1],.bool true]):=by
 have fw:=yq (fun _ _ _=>none)
 have b1:bm (cellsOf bz).length bz []=some (.ptr 0 0 0,wZ):=rfl
 have b2:af true 4 wZ (.ptr 0 0 0)=some bz:=rfl
 have n1:bq 4 bz=true:=rfl
 have z1:frz wZ 4 bz=bz:=rfl
 have i1:au 1 wB3 (.sl 2 0 3) (.int .i64 2)=some (.ptr 2 2 0):=rfl
 have l1:af false 1 wB3 (.ptr 2 2 0)=some (.ptr 16 0 0):=rfl
 have a1:aa 1 wB3 (.ptr 16 0 0)=some (.ptr 16 0 1):=rfl
 have l2:af false 1 wB3 (.ptr 16 0 1)=some (.sl 11 0 1):=rfl
 have h63:H63 (fun _ _ _=>none) [.sl 11 0 1] wB3=some (.sl 25 0 1,wE):=rfl
 have ff:frz wE 4 (.tup [.sl 25 0 1,.bool true])=.tup [.fs 1 [.int .i64 1],.bool true]:=rfl
 have mt:=zD
 have ci:∀(k:IntKind) (n:Int),cellsOf (.int k n)=[.int k n]:=fun _ _=>rfl
 have z2:frz wZ 4 (.fs 1 [.int .i64 0,.int .i64 2])=.fs 1 [.int .i64 0,.int .i64 2]:=rfl
 unfold Hx
 rw [aS _ _ rfl]
 simp [BY,fw,b1,b2,n1,z1,i1,l1,a1,l2,h63,ff,mt,ci,z2,-bm,-af,-au,-aa,-frz,-cellsOf]
theorem Hu:Hv [bz,.int .i64 0,.int .i64 2]=some (.tup [.int .i64 14,.bool true]):=by
 have fw:=yq (fun _ _ _=>none)
 have b1:bm (cellsOf bz).length bz []=some (.ptr 0 0 0,wZ):=rfl
 have b2:af true 4 wZ (.ptr 0 0 0)=some bz:=rfl
 have n1:bq 4 bz=true:=rfl
 have z1:frz wZ 4 bz=bz:=rfl
 have i1:au 1 wB3 (.sl 2 0 3) (.int .i64 2)=some (.ptr 2 2 0):=rfl
 have l1:af false 1 wB3 (.ptr 2 2 0)=some (.ptr 16 0 0):=rfl
 have a1:aa 0 wB3 (.ptr 16 0 0)=some (.ptr 16 0 0):=rfl
 have l2:af false 1 wB3 (.ptr 16 0 0)=some (.int .i64 14):=rfl
 have ff:frz wB3 4 (.tup [.int .i64 14,.bool true])=.tup [.int .i64 14,.bool true]:=rfl
 have mt:=zD
 have ci:∀(k:IntKind) (n:Int),cellsOf (.int k n)=[.int k n]:=fun _ _=>rfl
 have z2:frz wZ 4 (.fs 1 [.int .i64 0,.int .i64 2])=.fs 1 [.int .i64 0,.int .i64 2]:=rfl
 unfold Hv
 rw [aS _ _ rfl]
 simp [BX,fw,b1,b2,n1,z1,i1,l1,a1,l2,ff,mt,ci,z2,-bm,-af,-au,-aa,-frz,-cellsOf]
def Ij:aD:=fun _=>bA (ai GS [(158,Ii)]) 50 Fb
theorem Az:an Tryz.prog GS 120 Ij:=(aN (E:=ai GS [(158,Ii)]) (aj (ae Aj aw)) rfl K6 C4 a5.nil).y
def qD:AV:=.agg [.int .i64 0,.int .i64 2,.int .i64 13]
def FT:List (FuncId × aD):=[(118,aF 4 Hx),(119,aF 4 Hv),(120,Ij)]
@[simp] theorem HR:aI FT 118=some (aF 4 Hx):=rfl
@[simp] theorem HQ:aI FT 119=some (aF 4 Hv):=rfl
@[simp] theorem HP:aI FT 120=some Ij:=rfl
def H72:aD:=fun _=>bA (ai GS FT) 50 IE
theorem DT:an Tryz.prog GS 72 H72:=(aN (E:=ai GS FT) (aj (ae (an.of_pure AB 4) (ae (an.of_pure AA 4) (ae Az aw)))) rfl at72 Gx a5.nil).y
end Sh
namespace Sh
open Go
def zPr:AV:=.agg [.int .i64 0,.nilS]
def wF:ac:=[.row 4 false [bz],.row 2 false [zPr],.row 3 false [qD]]
def wF1:ac:=wF++[.row 4 false [bz]]
def wF2:ac:=wF1++[.row 3 false [qD]]
def wF3:ac:=wF2++[.row 2 false [zPr]]
def wF4:ac:=wF3++[.row 1 false [.int .i64 0]]
def wF5:ac:=wF4++[.row 1 false [.int .i64 2]]
def wF6:ac:=wF5++[.row 1 false [.sl 6 0 1,.fs 1 [.int .i64 1],.sl 7 0 1]]
def wF7:ac:=wF6++[.dead,.row 1 true [.int .i64 0,.int .i64 1,.int .i64 2]]
def prT:AV:=.agg [.int .i64 3,.sl 10 0 3]
def wF8:ac:=wF7.set 5 (.row 2 false [prT])
theorem LJ (hd:aZ):H72 hd [bz,qD] wF=some (.tup [prT,.bool true],wF8):=by
 have b1:bm (cellsOf bz).length bz wF=some (.ptr 3 0 0,wF1):=rfl
 have b2:bm (cellsOf qD).length qD wF1=some (.ptr 4 0 0,wF2):=rfl
 have b3:bm 2 (.agg [.int .i64 0,.nilS]) wF2=some (.ptr 5 0 0,wF3):=rfl
 have l1:af true 4 wF3 (.ptr 3 0 0)=some bz:=rfl
 have a1:aa 0 wF3 (.ptr 4 0 0)=some (.ptr 4 0 0):=rfl
 have l2:af false 1 wF3 (.ptr 4 0 0)=some (.int .i64 0):=rfl
 have a2:aa 1 wF3 (.ptr 4 0 0)=some (.ptr 4 0 1):=rfl
 have l3:af false 1 wF3 (.ptr 4 0 1)=some (.int .i64 2):=rfl
 have a3:aa 2 wF3 (.ptr 4 0 0)=some (.ptr 4 0 2):=rfl
 have l4:af false 1 wF3 (.ptr 4 0 2)=some (.int .i64 13):=rfl
 have n1:bq 4 bz=true:=rfl
 have z1:frz wF3 4 bz=bz:=rfl
 have z2:∀n:Int,frz wF3 4 (.int .i64 n)=.int .i64 n:=fun _=>rfl
 have m1:=Hw
 have m2:=Hu
 have c1:aq .lss (.int .i64 13) (.int .i64 14)=some (.bool true):=rfl
 have s1:a8 1 [.int .i64 0] wF3=some (.sl 6 0 1,wF4):=rfl
 have a4:aa 1 wF4 (.ptr 4 0 0)=some (.ptr 4 0 1):=rfl
 have l5:af false 1 wF4 (.ptr 4 0 1)=some (.int .i64 2):=rfl
 have s2:a8 1 [.int .i64 2] wF4=some (.sl 7 0 1,wF5):=rfl
 have s3:a8 1 [.sl 6 0 1,.fs 1 [.int .i64 1],.sl 7 0 1] wF5=some (.sl 8 0 3,wF6):=rfl
 have h1:Ij (fun _ _ _=>none) [.sl 8 0 3] wF6=some (.sl 10 0 3,wF7):=by kernel_rfl
 have ci:∀(k:IntKind) (n:Int),cellsOf (.int k n)=[.int k n]:=fun _ _=>rfl
 have cs:∀i o l:Nat,cellsOf (.sl i o l)=[.sl i o l]:=fun _ _ _=>rfl
 have t1:aE 2 wF7 (.ptr 5 0 0) (.agg [.int .i64 3,.sl 10 0 3])=some wF8:=rfl
 have l6:af true 2 wF8 (.ptr 5 0 0)=some prT:=rfl
 unfold H72
 rw [bH _ _ rfl]
 simp [IE,b1,b2,b3,l1,a1,l2,a2,l3,a3,l4,n1,z1,z2,m1,m2,c1,s1,a4,l5,s2,s3,h1,t1,l6,ci,cs,-bm,-af,-aE,-aa,-aq,-a8,-frz,-cellsOf]
def oL:List (FuncId × aD):=[(71,aF 4 M71),(72,H72)]
@[simp] theorem Jw:aI oL 71=some (aF 4 M71):=rfl
@[simp] theorem Jv:aI oL 72=some H72:=rfl
def M26:aG:=fun args=>evF (ai GS oL) 50 pF 4 args
theorem oq:br Tryz.prog GS 26 M26:=br.of_ev (E:=ai GS oL) (aj (ae (an.of_pure yy 4) (ae DT aw))) rfl G4 qd 4 (fun _ _ h=>⟨50,h⟩)
def wG:ac:=[.row 4 false [bz],.row 2 false [zPr]]
def wG0:ac:=[.row 4 false [bz]]
def wG1:ac:=wG++[.row 3 false [.agg [.int .i64 0,.int .i64 0,.int .i64 0]]]
def wG2:ac:=wF8++[.row 2 false [zPr]]
def wG3:ac:=wF8++[.row 2 false [prT]]
def wG4:ac:=wG3.set 1 (.row 2 false [prT])
theorem LH:M26 [bz]=some (.agg [.int .i64 3,.fs 1 [.int .i64 0,.int .i64 1,.int .i64 2]]):=by
 have b1:bm (cellsOf bz).length bz []=some (.ptr 0 0 0,wG0):=rfl
 have b2:bm 2 (.agg [.int .i64 0,.nilS]) wG0=some (.ptr 1 0 0,wG):=rfl
 have l1:af true 4 wG (.ptr 0 0 0)=some bz:=rfl
 have n1:bq 4 bz=true:=rfl
 have z1:frz wG 4 bz=bz:=rfl
 have m1:=LF
 have a1:aa 3 wG (.ptr 0 0 0)=some (.ptr 0 0 3):=rfl
 have l2:af false 1 wG (.ptr 0 0 3)=some (.fs 3 [qD]):=rfl
 have e1:ay (.fs 3 [qD])=some (.int .i64 1):=rfl
 have c1:aq .lss (.int .i64 0) (.int .i64 1)=some (.bool true):=rfl
 have i1:au 3 wG (.fs 3 [qD]) (.int .i64 0)=some (.fp [.int .i64 0,.int .i64 2,.int .i64 13]):=rfl
 have l3:af true 3 wG (.fp [.int .i64 0,.int .i64 2,.int .i64 13])=some qD:=rfl
 have b3:bm 3 (.agg [.int .i64 0,.int .i64 0,.int .i64 0]) wG=some (.ptr 2 0 0,wG1):=rfl
 have t1:aE 3 wG1 (.ptr 2 0 0) qD=some wF:=rfl
 have l4:af true 4 wF (.ptr 0 0 0)=some bz:=rfl
 have l5:af true 3 wF (.ptr 2 0 0)=some qD:=rfl
 have h1:=LJ (fun _ _ _=>none)
 have b4:bm 2 (.agg [.int .i64 0,.nilS]) wF8=some (.ptr 11 0 0,wG2):=rfl
 have t2:aE 2 wG2 (.ptr 11 0 0) prT=some wG3:=rfl
 have l6:af true 2 wG3 (.ptr 11 0 0)=some prT:=rfl
 have t3:aE 2 wG3 (.ptr 1 0 0) prT=some wG4:=rfl
 have l7:af true 2 wG4 (.ptr 1 0 0)=some prT:=rfl
 have ff:a9 wG4 4 prT=true:=rfl
 have fz:frz wG4 4 prT=.agg [.int .i64 3,.fs 1 [.int .i64 0,.int .i64 1,.int .i64 2]]:=rfl
 have lp:bM (evC (ai GS oL) 50 eK) dO 50 (gX (.ptr 0 0 0) (.ptr 1 0 0) (.fs 3 [qD]) (.int .i64 1) (.int .i64 0)) wG=some (.ret [.undef,.ptr 0 0 0,.ptr 1 0 0,.ptr 2 0 0,.ptr 11 0 0,.bool true,.undef,.fs 3 [qD],.int .i64 1,.int .i64 0,.bool true,.bool true] wG4):=by
  rw [aK,qe]
  simp [eK,c1,i1,l3,b3,t1,l4,l5,h1,b4,t2,l6,t3,-bm,-af,-aE,-aa,-aq,-au]
 unfold M26
 rw [gn _ _ rfl]
 simp [pF,b1,b2,l1,n1,z1,m1,a1,l2,e1,sj lp,l7,ff,fz,-bm,-af,-aE,-aa,-aq,-ay,-frz,-cellsOf]
end Sh
namespace Sh
open Go
def M28:aG:=fun args=>evP (ai GS []) 50 LZ 1 args
theorem D9:ak Tryz.prog GS 28 M28:=ak.of_ev (E:=ai GS []) (aj aw) rfl at28 GQ 1 fun _ _ h=>⟨50,h⟩
def fs6:List (FuncId × aD):=[(26,bS 8 M26),(27,bS 8 M27),(28,aF 4 M28)]
@[simp] theorem Mm:aI fs6 26=some (bS 8 M26):=rfl
@[simp] theorem Ml:aI fs6 27=some (bS 8 M27):=rfl
@[simp] theorem Mk:aI fs6 28=some (aF 4 M28):=rfl
def M6:aG:=fun args=>evP (ai GS fs6) 50 mf6 1 args
theorem Ix:ak Tryz.prog GS 6 M6:=ak.of_ev (E:=ai GS fs6) (aj (ae (an.of_pureF oq 8) (ae (an.of_pureF zZ 8) (ae (an.of_pure D9 4) aw)))) rfl at6 Kk 1 fun _ _ h=>⟨50,h⟩
def Is:MC:=.region [⟨some 0,.mv (.cst (.bool false)),none⟩]
def Ir:MC:=.region [⟨none,.build [.int .i64 0,.int .i64 0,.int .i64 0] [(0,(1,.cst (.int .i64 0))),(1,(1,.cst (.int .i64 2))),(2,(1,.cst (.int .i64 13)))],none⟩,⟨none,.buildSlice 3 [.tmp 0],none⟩,⟨none,.build [.int .i64 0,.int .i64 0,.nilS,.nilS] [(0,(1,.cst (.int .i64 2))),(1,(1,.cst (.int .i64 5))),(3,(1,.tmp 1))],none⟩,⟨some 1,.alloc 4 (.agg [.int .i64 0,.int .i64 0,.nilS,.nilS]),none⟩,⟨none,.store 4 (.var 1) (.tmp 2),none⟩]
def Iq:MC:=.seq (.region [⟨some 2,.mv (.cst (.int .i64 0)),none⟩]) (.seq (.block 0 (.loop [0,3,4,5,6,7,8] Fo)) (.kill [0,2,3,4,5,6,7,8]))
def HF:MC:=.region [⟨none,.load true 4 (.var 1),none⟩,⟨none,.call (.fn 26) [.tmp 0],none⟩,⟨some 4,.alloc 2 (.agg [.int .i64 0,.nilS]),none⟩,⟨none,.store 2 (.var 4) (.tmp 1),none⟩]
def Ip:MC:=.region [⟨none,.build [.int .i64 0,.int .i64 0] [(0,(1,.cst (.int .i64 1))),(1,(1,.cst (.int .i64 5)))],none⟩,⟨none,.build [.int .i64 0,.int .i64 0] [(0,(1,.cst (.int .i64 2))),(1,(1,.cst (.int .i64 29)))],none⟩,⟨none,.build [.int .i64 0,.int .i64 0,.int .i64 0,.int .i64 0,.int .i64 0,.int .i64 0] [(0,(1,.cst (.int .i64 10))),(1,(1,.cst (.int .i64 20))),(2,(2,.tmp 0)),(4,(2,.tmp 1))],none⟩,⟨some 5,.alloc 6 (.agg [.int .i64 0,.int .i64 0,.int .i64 0,.int .i64 0,.int .i64 0,.int .i64 0]),none⟩,⟨none,.store 6 (.var 5) (.tmp 2),none⟩]
def HE:MC:=.region [⟨none,.load true 6 (.var 5),none⟩,⟨none,.buildSlice 6 [.tmp 0],none⟩,⟨none,.build [.int .i64 0,.int .i64 0,.int .i64 0,.nilS,.nilS] [(1,(1,.cst (.int .i64 1))),(2,(1,.cst (.int .i64 5))),(3,(1,.tmp 1))],none⟩,⟨none,.call (.fn 27) [.tmp 2],none⟩,⟨none,.mv (.tmp 3),none⟩,⟨none,.extract (.tmp 4) 0,none⟩,⟨none,.extract (.tmp 4) 1,none⟩,⟨none,.alloc 5 (.agg [.nilS,.nilS,.int .i64 0,.int .i64 0,.int .i64 0]),none⟩,⟨none,.store 5 (.tmp 7) (.tmp 5),none⟩,⟨some 6,.mv (.tmp 6),none⟩]
def Io:MC:=.region [⟨none,.fieldAddr 0 (.var 4),none⟩,⟨none,.load false 1 (.tmp 0),none⟩,⟨none,.bin .eql (.tmp 1) (.cst (.int .i64 3)),none⟩,⟨none,.mv (.tmp 2),none⟩,⟨none,.fieldAddr 1 (.var 4),some (.tmp 3,true)⟩,⟨none,.load false 1 (.tmp 4),some (.tmp 3,true)⟩,⟨none,.buildSlice 1 [.cst (.int .i64 0),.cst (.int .i64 1),.cst (.int .i64 2)],some (.tmp 3,true)⟩,⟨none,.call (.fn 28) [.tmp 5,.tmp 6],some (.tmp 3,true)⟩,⟨none,.pick (.tmp 3) (.tmp 7) (.cst (.bool false)),none⟩,⟨none,.mv (.tmp 8),none⟩,⟨none,.mv (.var 6),some (.tmp 9,true)⟩,⟨none,.pick (.tmp 9) (.tmp 10) (.cst (.bool false)),none⟩,⟨some 0,.mv (.tmp 11),none⟩]
def In:MC:=.ret
theorem IF:mf6=⟨0,9,.seq Is (.seq Ir (.seq Iq (.seq HF (.seq Ip (.seq HE (.seq Io In)))))),[.tmp 0]⟩:=rfl
def y0:ac:=[.row 3 false [qD],.row 4 false [.agg [.int .i64 2,.int .i64 5,.nilS,.sl 0 0 1]]]
def y1:ac:=[.row 3 false [qD],.row 4 false [.agg [.int .i64 2,.int .i64 5,.sl 6 0 3,.sl 0 0 1]],.row 1 false [.int .i64 0],.row 7 false [.agg [.int .i64 1,.sl 2 0 1,.int .i64 10,.int .i64 20,.sl 4 0 1,.int .i64 (-1),.int .i64 0]],.row 1 false [.int .i64 1],.row 7 false [.agg [.int .i64 1,.sl 2 0 1,.int .i64 10,.int .i64 20,.sl 4 0 1,.int .i64 (-1),.int .i64 0]],.row 7 true [.agg [.int .i64 1,.sl 2 0 1,.int .i64 10,.int .i64 20,.sl 4 0 1,.int .i64 (-1),.int .i64 0],.agg [.int .i64 1,.sl 7 0 1,.int .i64 10,.int .i64 20,.sl 9 0 1,.int .i64 (-1),.int .i64 0],.agg [.int .i64 1,.sl 11 0 1,.int .i64 10,.int .i64 20,.nilS,.int .i64 (-1),.int .i64 0]],.row 1 false [.int .i64 1],.row 7 false [.agg [.int .i64 1,.sl 7 0 1,.int .i64 10,.int .i64 20,.sl 9 0 1,.int .i64 (-1),.int .i64 0]],.row 1 false [.int .i64 2],.row 7 false [.agg [.int .i64 1,.sl 7 0 1,.int .i64 10,.int .i64 20,.sl 9 0 1,.int .i64 (-1),.int .i64 0]],.row 1 false [.int .i64 2],.row 7 false [.agg [.int .i64 1,.sl 11 0 1,.int .i64 10,.int .i64 20,.nilS,.int .i64 (-1),.int .i64 0]],.row 7 false [.agg [.int .i64 1,.sl 11 0 1,.int .i64 10,.int .i64 20,.nilS,.int .i64 (-1),.int .i64 0]]]
def pr6:AV:=.agg [.int .i64 3,.fs 1 [.int .i64 0,.int .i64 1,.int .i64 2]]
def y2:ac:=y1++[.row 2 false [pr6]]
def y3:ac:=y2++[.row 6 false [DP]]
def y4:ac:=y3++[.row 6 false [DP]]
def y5:ac:=y4++[.row 5 false [zSc]]
def y6:ac:=y5++[.row 1 false [.int .i64 0,.int .i64 1,.int .i64 2]]
theorem Dq:M6 []=some (.bool true):=by
 have k1:∀K,run (ai GS fs6) 50 (.code Is :: K) [.undef,.undef,.undef,.undef,.undef,.undef,.undef,.undef,.undef] []=run (ai GS fs6) 50 K [.bool false,.undef,.undef,.undef,.undef,.undef,.undef,.undef,.undef] []:=fun K=>by kernel_rfl
 have k2:∀K,run (ai GS fs6) 50 (.code Ir :: K) [.bool false,.undef,.undef,.undef,.undef,.undef,.undef,.undef,.undef] []=run (ai GS fs6) 50 K [.bool false,.ptr 1 0 0,.undef,.undef,.undef,.undef,.undef,.undef,.undef] y0:=fun K=>by kernel_rfl
 have k3:∀K,run (ai GS fs6) 50 (.code Iq :: K) [.bool false,.ptr 1 0 0,.undef,.undef,.undef,.undef,.undef,.undef,.undef] y0=run (ai GS fs6) 50 K [.undef,.ptr 1 0 0,.undef,.undef,.undef,.undef,.undef,.undef,.undef] y1:=fun K=>by kernel_rfl
 have l1:af true 4 y1 (.ptr 1 0 0)=some (.agg [.int .i64 2,.int .i64 5,.sl 6 0 3,.sl 0 0 1]):=rfl
 have z1:frz y1 8 (.agg [.int .i64 2,.int .i64 5,.sl 6 0 3,.sl 0 0 1])=bz:=rfl
 have m1:=LH
 have x1:bm 2 (.agg [.int .i64 0,.nilS]) y1=some (.ptr 14 0 0,y1++[.row 2 false [.agg [.int .i64 0,.nilS]]]):=rfl
 have t1:aE 2 (y1++[.row 2 false [.agg [.int .i64 0,.nilS]]]) (.ptr 14 0 0) (.agg [.int .i64 3,.fs 1 [.int .i64 0,.int .i64 1,.int .i64 2]])=some y2:=rfl
 have k4:∀K,run (ai GS fs6) 50 (.code HF :: K) [.undef,.ptr 1 0 0,.undef,.undef,.undef,.undef,.undef,.undef,.undef] y1=run (ai GS fs6) 50 K [.undef,.ptr 1 0 0,.undef,.undef,.ptr 14 0 0,.undef,.undef,.undef,.undef] y2:=fun K=>by
  simp [HF,l1,z1,m1,x1,t1,-af,-bm,-aE,-frz]
 have k5:∀K,run (ai GS fs6) 50 (.code Ip :: K) [.undef,.ptr 1 0 0,.undef,.undef,.ptr 14 0 0,.undef,.undef,.undef,.undef] y2=run (ai GS fs6) 50 K [.undef,.ptr 1 0 0,.undef,.undef,.ptr 14 0 0,.ptr 15 0 0,.undef,.undef,.undef] y3:=fun K=>by kernel_rfl
 have l2:af true 6 y3 (.ptr 15 0 0)=some (DP):=rfl
 have s1:a8 6 [DP] y3=some (.sl 16 0 1,y4):=rfl
 have fi:gT [.int .i64 0,.int .i64 0,.int .i64 0,.nilS,.nilS] [(1,1,.int .i64 1),(2,1,.int .i64 5),(3,1,.sl 16 0 1)]=some [.int .i64 0,.int .i64 1,.int .i64 5,.sl 16 0 1,.nilS]:=rfl
 have z2:frz y4 8 (.agg [.int .i64 0,.int .i64 1,.int .i64 5,.sl 16 0 1,.nilS])=pl6:=rfl
 have m2:=LG
 have x2:bm 5 (.agg [.nilS,.nilS,.int .i64 0,.int .i64 0,.int .i64 0]) y4=some (.ptr 17 0 0,y4++[.row 5 false [.agg [.nilS,.nilS,.int .i64 0,.int .i64 0,.int .i64 0]]]):=rfl
 have t2:aE 5 (y4++[.row 5 false [.agg [.nilS,.nilS,.int .i64 0,.int .i64 0,.int .i64 0]]]) (.ptr 17 0 0) zSc=some y5:=rfl
 have k6:∀K,run (ai GS fs6) 50 (.code HE :: K) [.undef,.ptr 1 0 0,.undef,.undef,.ptr 14 0 0,.ptr 15 0 0,.undef,.undef,.undef] y3=run (ai GS fs6) 50 K [.undef,.ptr 1 0 0,.undef,.undef,.ptr 14 0 0,.ptr 15 0 0,.bool true,.undef,.undef] y5:=fun K=>by
  simp [HE,l2,s1,fi,z2,m2,x2,t2,-af,-bm,-aE,-frz,-a8,-gT]
 have k7:∀K,run (ai GS fs6) 50 (.code Io :: K) [.undef,.ptr 1 0 0,.undef,.undef,.ptr 14 0 0,.ptr 15 0 0,.bool true,.undef,.undef] y5=run (ai GS fs6) 50 K [.bool true,.ptr 1 0 0,.undef,.undef,.ptr 14 0 0,.ptr 15 0 0,.bool true,.undef,.undef] y6:=fun K=>by kernel_rfl
 unfold M6
 rw [aS _ _ rfl,IF]
 show (match run (ai GS fs6) 50 [.code (.seq Is (.seq Ir (.seq Iq (.seq HF (.seq Ip (.seq HE (.seq Io In)))))))] [.undef,.undef,.undef,.undef,.undef,.undef,.undef,.undef,.undef] [] with
  | some (.normal σ A')=>(dt A' σ [.tmp 0]).map fun l=>frz A' 1 (eH l)
  | some (.ret σ A')=>(dt A' σ [.tmp 0]).map fun l=>frz A' 1 (eH l)
  | _=>none)=_
 rw [aW,k1,aW,k2,aW,k3,aW,k4,aW,k5,aW,k6,aW,k7]
 unfold In
 rw [uw]
 rfl
end Sh
namespace Tr
open Go
open Cy (GC aT bi aH)
open Clu (chA)
namespace Rt
theorem six:ak Tryz.prog GC 6 Sh.M6:=Sh.Ix
theorem sound4:∀f M,aI (fsR Sh.M6) f=some M->an Tryz.prog GC f M:=Ef six
theorem xH {x:AV} {n:Nat} (h:TA Tryz.prog (n+2) 111 x):∃y:Int × Int,x=chA y/\inI y.1/\inI y.2:=by
 obtain ⟨ls,rfl,hc,hl⟩:=TA.agg (show qA Tryz.prog 111=true by kernel_rfl) h
 simp only [TC,Tryz.underlying111] at hc
 rw [show Tryz.prog.cellsOf 3=1 by kernel_rfl] at hc
 simp only [TCa,Tryz.underlying3] at hc
 obtain ⟨_,_,rfl,⟨a,rfl,ha⟩,_,_,_,rfl,⟨b,rfl,hb⟩,_,rfl⟩:=hc
 exact ⟨(a,b),rfl,ha,hb⟩
theorem uI {raw:AV} {n:Nat} (h:TA Tryz.prog (n+3) 24 raw):∃ys:List (Int × Int),SlA 2 (ys.map chA) raw/\(∀y∈ys,inI y.1/\inI y.2):=by
 obtain ⟨es,h1,h2,h3⟩:=TA.sl Tryz.underlying24 h
 rw [show Tryz.prog.cellsOf 111=2 by kernel_rfl] at h1
 obtain ⟨ys,rfl,hy⟩:=jg (f:=chA) (p:=fun y=>inI y.1/\inI y.2) fun x hx=>xH (n:=n) (h3 x hx)
 exact ⟨ys,h1,hy⟩
theorem ud {x:AV} {n t:Nat} (ht:t=52) (h:TA Tryz.prog (n+2) t x):∃a b c:Int,x=.agg [.int .i64 a,.int .i64 b,.int .i64 c]/\inI a/\inI b/\inI c:=by
 subst ht
 obtain ⟨ls,rfl,hc,hl⟩:=TA.agg (show qA Tryz.prog 52=true by kernel_rfl) h
 simp only [TC,Tryz.underlying52] at hc
 rw [show Tryz.prog.cellsOf 3=1 by kernel_rfl] at hc
 simp only [TCa,Tryz.underlying3] at hc
 obtain ⟨_,_,rfl,⟨a,rfl,ha⟩,_,_,_,rfl,⟨b,rfl,hb⟩,_,_,_,rfl,⟨c,rfl,hc⟩,_,rfl⟩:=hc
 exact ⟨a,b,c,rfl,ha,hb,hc⟩
theorem ownK:ownKnob Tryz.prog.godebug=none:=by kernel_rfl
theorem grel0 {W:World} {OK:Nat->Prop}:wO GC W OK:=fun gl cs h=>by simp [GC] at h
def laidWorld (os:Os):World:=World.holding Tryz.prog os ⟨#[],#[],[]⟩
theorem ev4L (args:List AV) (h:eF Tryz.prog 8 Tryz.f4.params.toList args):∃fuel,evP (ai GC (fsR Sh.M6)) fuel mf4 3 args=some (.bool true):=by
 rw [Tryz.params4] at h
 obtain ⟨a0,r,rfl,t0,h⟩:=h.cons
 obtain ⟨a1,r,rfl,t1,h⟩:=h.cons
 obtain ⟨a2,r,rfl,t2,h⟩:=h.cons
 obtain rfl:=h.nil
 obtain ⟨ys,h0,k0⟩:=uI (n:=5) t0
 obtain ⟨a,b,c,rfl,ha,hb,hc⟩:=ud (n:=6) rfl t1
 obtain ⟨cy,rfl,hcy⟩:=TA.i64 Tryz.underlying3 t2
 exact ⟨300,ev4 Sh.Dq h0 k0 ha hb hc hcy⟩
end Rt
end Tr
end Go.Proofs.YtfkcoekicjjndaaGreat
