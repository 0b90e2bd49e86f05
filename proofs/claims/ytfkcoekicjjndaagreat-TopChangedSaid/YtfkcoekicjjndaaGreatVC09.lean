import Derived.Test.YtfkcoekicjjndaaGreatVC08
import Derived.Shelf.Spec.SlicesInsertGrow
import Derived.Lib.AppendZerosOnto
import Derived.Shelf.RegionOpenPlain
import Derived.Test.YtfkcoekicjjndaaGreatVC03
import Derived.KernelRfl
set_option maxRecDepth 100000
set_option maxHeartbeats 4000000
noncomputable section
namespace Go.Proofs.YtfkcoekicjjndaaGreat
variable {A:ac} {hd:aR} {l b:Nat}
namespace Sh
open Go Go.RowKit Go.Lib
theorem Dh (w:World):Calls Tryz.prog 63 #[.slice none 0 0] w fun e w'=>e=.returned (.slice none 0 0)/\w'=w:=by
 have q:∀(w:World) (a:Option Addr) (n c n' c':Nat),(binOp .eql 40 (.slice a n c) (.slice none n' c')).run Tryz.prog w=.ok (.bool a.isNone) w:=fun w a n c n' c'=>Lib.run_eql_slice_nil w _ _ a n c n' c' Tryz.underlying40
 go_enter Tryz.func63,Tryz.ntmps63
 go_wp2
 go_ret
 exact ⟨rfl,rfl⟩
theorem Dg (a:Addr) (w:World):Calls Tryz.prog 63 #[.slice (some a) 0 0] w fun e w'=>∃p o,e=.returned (.slice p 0 0)/\w'=w.alloc o:=by
 have q:∀(w:World) (a:Option Addr) (n c n' c':Nat),(binOp .eql 40 (.slice a n c) (.slice none n' c')).run Tryz.prog w=.ok (.bool a.isNone) w:=fun w a n c n' c'=>Lib.run_eql_slice_nil w _ _ a n c n' c' Tryz.underlying40
 go_enter Tryz.func63,Tryz.ntmps63
 go_wp2
 go_ret
 exact ⟨_,_,rfl,rfl⟩
theorem Mt:(Tryz.prog.info? 3).map (·.zero)=some (some (.int .i64 0)):=by kernel_rfl
theorem Dk (base:Option Addr) (n:Nat) (w:World) (h0:0<n) (hn:n<=1000):Calls Tryz.prog 158 #[.slice base 0 0,.int .i64 n] w fun e w'=>
   e=.returned (.slice (some ⟨w.heap.size,0,none⟩) 0 (grownCap w n 0 3))/\w'=w.drew.alloc (.cells (Builtin.zeroCells #[.int .i64 0] n++Builtin.zeroCells #[.int .i64 0] (grownCap w n 0 3-n)) 3):=by
 have u3:=Go.run_underlying Tryz.underlying3
 have u40:=Go.run_underlying Tryz.underlying40
 have mixed:Tryz.prog.follows .mixedOrders=true:=by kernel_rfl
 obtain ⟨i0,hi0⟩:∃i,Tryz.prog.info? 3=some i:=⟨_,rfl⟩
 have hz0:i0.zero=some (.int .i64 0):=by have:=Mt; rw [hi0] at this; simpa using this
 have hs0:i0.size=1:=by
  have:(Tryz.prog.info? 3).map (·.size)=some 1:=by kernel_rfl
  rw [hi0] at this; simpa using this
 have hb0:i0.bytes=8:=by
  have:(Tryz.prog.info? 3).map (·.bytes)=some 8:=by kernel_rfl
  rw [hi0] at this; simpa using this
 have h1:¬ ((n:Int)<0):=by omega
 have h2:wrap64 (((0:Nat):Int)-((0:Nat):Int))=0:=by unfold wrap64; omega
 have h3:wrap64 ((n:Int)-0)=(n:Int):=by unfold wrap64; omega
 have h4:(n:Int) > 0:=by omega
 have hold:(Builtin.firstCells i0.size 0 (.slice base 0 0)).run Tryz.prog w.drew=.ok #[] w.drew:=by
  cases base with
  | none=>exact run_firstCells_none w.drew i0.size 0 0 0
  | some a=>exact run_firstCells_some w.drew i0.size 0 a 0 0 [] (by simp) (fun j v hj=>by simp at hj)
 have hrz:∀ty,(Builtin.append_ #[40,3] ty #[.slice base 0 0,.int .i64 (n:Int)]).run Tryz.prog w =
   .ok (.slice (some ⟨w.heap.size,0,none⟩) n (grownCap w n 0 3)) (w.drew.alloc (.cells (Builtin.zeroCells #[.int .i64 0] n++Builtin.zeroCells #[.int .i64 0] (grownCap w n 0 3-n)) 3)):=fun ty=>by
  have h:=Lib.run_append_grow_zeros w 40 3 ty 3 i0 (.int .i64 0) .i64 .i64 Tryz.underlying40 Tryz.underlying3 hi0 hz0 base 0 0 [] hold n (by omega) (by rw [hs0]; omega) (by omega) (by omega)
   (by rw [hb0]; omega) (by rw [Tb]; exact growslice_fits (by omega) (by rw [hb0]; omega))
  rw [Tb,show (Value.int .i64 0).cells=#[.int .i64 0] from rfl] at h
  simpa using h
 have hGn:n<=grownCap w n 0 3:=grownCap_ge w _ _ _
 obtain ⟨G,hG⟩:∃G,G=grownCap w n 0 3:=⟨_,rfl⟩
 have hG63:G<=9223372036854775807:=by
  have:=grownCap_le_maxLen w n 0 3 (by unfold maxLen; omega)
  rw [<-hG] at this
  unfold maxLen at this
  omega
 rw [<-hG] at hrz hGn ⊢
 clear hold hG
 go_enter Tryz.func158,Tryz.ntmps158
 cases base with
 | none=>
  go_wp2_with (at_builtin; refine Lib.wpList_append_run _ rfl _ _ _ _ rfl _ _ rfl rfl _ _ (hrz _) ?_)
  all_goals (go_ret; exact ⟨rfl,rfl⟩)
 | some a=>
  obtain ⟨ab,ao,asp⟩:=a
  go_wp2_with (at_builtin; refine Lib.wpList_append_run _ rfl _ _ _ _ rfl _ _ rfl rfl _ _ (hrz _) ?_)
  all_goals (go_ret; exact ⟨rfl,rfl⟩)
end Sh
namespace Sh
open Go
open Go.RowKit Go.Lib
theorem t7 {w:World} {OK:Nat->Prop} {g:aA} (hA:bZ w OK g A) (o:Obj):bZ (w.alloc o) OK g A/\Ext w OK g (w.alloc o) OK g:=by
 have hsz:(w.alloc o).heap.size=w.heap.size+1:=by show (w.heap.push o).size=_; exact Array.size_push ..
 refine ⟨hA.keep (w':=w.alloc o) (by omega) (fun b hb=>heap_alloc_old w _ hb) OK (fun _ h=>h) (fun _ h=>.inl h) (fun b hb=>by have:=hA.ok b hb; omega),?_⟩
 exact ⟨rfl,rfl,rfl,by omega,fun b hb _=>heap_alloc_old w _ hb,g.le_refl,fun _ h=>h,fun id inc h=>.inl ⟨id,inc,h,rfl⟩,fun _ h=>.inl h,
  fun b r hb _=>(heap_alloc_old w _ (Sk.1 hb).1).trans hb,fun _ _ _ _=>rfl⟩
section
variable {n0 l:Nat} {r:Loop} {σ σ1 σ2 σ3:List AV} {ps:List Nat} {asg bdy:List AV->ac->Option Out} {h:aR} {args:List AV} {A A2 A3:ac}
theorem vI (h1:A[n0]?=some (.loop r 0)) (hs:gx σ ps args=some σ1) (ha:asg σ1 A=some (.normal σ2 A2)) (h2:A2[n0]?=some (.loop r 0)) (hb:bdy σ2 (A2.set n0 .dead)=some (.normal σ3 A3)):dy n0 l r σ ps asg bdy h (.func (.yield l) [] []) args A=some (.bool true,A3.set n0 (.loop r 0)):=by
 simp [dy,h1,hs,ha,h2,hb]
end
def Q7:aI:=fun args=>match args with
 | [.nilS]=>some .nilS
 | _=>none
theorem Ds:an Tryz.prog GS 63 Q7:=by
 refine ⟨Dt.1,fun args r he w OK vs hok hG hl=>?_⟩
 unfold Q7 at he
 split at he
 ·injection he with he
  subst he
  match vs,hl with
  | [v],hl=>
   obtain ⟨h1,_⟩:=hl
   obtain ⟨p,rfl⟩:=h1.inv_nilS
   cases p with
   | none=>
    refine (Dh w).mono ?_
    rintro e w' ⟨rfl,rfl⟩
    exact ⟨_,OK,rfl,.nilS _ _,hok,Ext.refl _ _ _⟩
   | some a=>
    refine (Dg a w).mono ?_
    rintro e w' ⟨p,o,rfl,rfl⟩
    obtain ⟨k1,k2⟩:=t7 (bZ.nil hok) o
    exact ⟨_,OK,rfl,.nilS _ _,k1.ok,k2⟩
 ·cases he
def H63:aD:=fun _ args A=>match args with
 | [.nilS]=>some (.nilS,A)
 | _=>bp (ai GS []) 0 LM args A
theorem BQ:ak Tryz.prog GS 63 H63:=by
 have hn:=ak.of_pure Ds 4
 have hf:ak Tryz.prog GS 63 (fun _=>bp (ai GS []) 0 LM):=(aM (E:=ai GS []) (ag aw) rfl Q1 CG aW.nil).y
 refine ⟨hn.1,fun ys h hs args A r A' hm=>?_⟩
 unfold H63 at hm
 split at hm
 ·injection hm with hm
  injection hm with h1 h2
  subst h1 h2
  exact hn.2 ys h hs _ _ _ _ rfl
 ·exact hf.2 ys h hs _ _ _ _ hm
def Mq:aD:=fun _ args A=>match args with
 | [.nilS,.int .i64 n]=>if 0<n/\n<=1000 then some (.sl A.length 0 0,A++[.row 1 false []]) else none
 | _=>none
theorem DK:ak Tryz.prog GS 158 Mq:=by
 refine ⟨fun args w=>enters_of Tryz.func158 (by kernel_rfl) rfl args w,fun ys h hs args A r A' he w OK g vs hA hI hl=>?_⟩
 unfold Mq at he
 split at he
 ·rename_i n
  simp only [Rz,Ry,RP] at he
  obtain ⟨⟨h0,hn⟩,rfl,rfl⟩:=he
  match vs,hl with
  | [v,u],hl=>
   obtain ⟨h1,h2,_⟩:=hl
   obtain ⟨p,rfl⟩:=h1.inv_nilS
   obtain rfl:=h2.inv_int
   obtain ⟨k,rfl⟩:∃k:Nat,n=(k:Int):=⟨n.toNat,by omega⟩
   refine (Dk p k w (by omega) (by omega)).mono ?_
   rintro e w' ⟨rfl,rfl⟩
   have hG:=grownCap_ge w k 0 3
   obtain ⟨c,hc⟩:∃c,c=Builtin.zeroCells #[.int .i64 0] k++Builtin.zeroCells #[.int .i64 0] (grownCap w k 0 3-k):=⟨_,rfl⟩
   have hcs:c.size=grownCap w k 0 3:=by
    rw [hc]
    simp only [TI,cD]
    simp; omega
   rw [<-hc]
   obtain ⟨q1,q2⟩:=hA.pushRow (w':=w.drew.alloc (.cells c 3)) c 3 (0,0) rfl rfl rfl rfl (cd _) 1 (grownCap w k 0 3) false [] (by simp) (by rw [hcs]; omega) (fun i hi=>by simp at hi)
   exact ⟨_,OK,_,rfl,.sl _ _ 0 0 _ _ _ (aA.push_self _ _ _) (by omega) (by simp) (by simp) (fun _=>by simp),q1,q2⟩
 ·cases he
theorem Jm {i n:Int} {B:ac} (hA:A[b]?=some (.row 7 false [bv i (.fs 1 [.int .i64 n])])) (hn : -1<=n) (hy:hd (.func (.yield l) [] []) [.int .i64 n] A=some (.bool true,B)) :
  Dc hd [.func (.yield l) [] [],.ptr b 0 0] A=some (.tup [],B):=by
 have lp:cc (evC (dl GS [] hd) 50 gh) gR 50 (jq (.func (.yield l) [] []) (.int .i64 (-1)) (.fs 1 [.int .i64 n]) (.int .i64 1) (.int .i64 0)) A=some (.exit 0 ((jq (.func (.yield l) [] []) (.int .i64 (-1)) (.fs 1 [.int .i64 n]) (.int .i64 1) (.int .i64 1)).set 7 (.bool false)) B):=by
  have hle:aq .leq (.int .i64 (-1)) (.int .i64 n)=some (.bool true):=by simp [aq,hn]
  have hge:aq .geq (.int .i64 (-1)) (.int .i64 0)=some (.bool false):=by simp [aq]
  have h1:aq .lss (.int .i64 0) (.int .i64 1)=some (.bool true):=by simp [aq]
  have h2:aq .lss (.int .i64 1) (.int .i64 1)=some (.bool false):=by simp [aq]
  have h3:aq .add (.int .i64 0) (.int .i64 1)=some (.int .i64 1):=bh 0 (by omega)
  have hc:(dl GS [] hd).call (.func (.yield l) [] []) [.int .i64 n] A=some (.bool true,B):=by simp [Env.call,dl,hy]
  have r1:run (dl GS [] hd) 50 [.code gh] (jq (.func (.yield l) [] []) (.int .i64 (-1)) (.fs 1 [.int .i64 n]) (.int .i64 1) (.int .i64 0)) A=some (.normal [.func (.yield l) [] [],.undef,.int .i64 (-1),.undef,.fs 1 [.int .i64 n],.int .i64 1,.int .i64 1,.undef,.undef,.undef,.undef,.undef] B):=by
   simp [gh,hle,hge,h1,h3,hc,-aq]
  rw [aO,qM,r1]
  show cc _ _ 49 _ _=_
  rw [aO,qM]
  simp [gh,h2,-aq]
 have hge:aq .geq (.int .i64 (-1)) (.int .i64 0)=some (.bool false):=by simp [aq]
 unfold Dc
 rw [aX _ _ rfl]
 unfold bv at hA
 simp [AP,hA,ye lp,hge,-aq]
theorem M8 {i:Int} (hA:A[b]?=some (.row 7 false [bv i .nilS])) :
  Dc hd [.func (.yield l) [] [],.ptr b 0 0] A=some (.tup [],A):=by
 have lp:cc (evC (dl GS [] hd) 50 gh) gR 50 (jq (.func (.yield l) [] []) (.int .i64 (-1)) .nilS (.int .i64 0) (.int .i64 0)) A=some (.exit 0 ((jq (.func (.yield l) [] []) (.int .i64 (-1)) .nilS (.int .i64 0) (.int .i64 0)).set 7 (.bool false)) A):=by
  rw [aO,qM]
  have h1:aq .lss (.int .i64 0) (.int .i64 0)=some (.bool false):=by simp [aq]
  simp [gh,h1,-aq]
 have hge:aq .geq (.int .i64 (-1)) (.int .i64 0)=some (.bool false):=by simp [aq]
 unfold Dc
 rw [aX _ _ rfl]
 unfold bv at hA
 simp [AP,hA,ye lp,hge,-aq]
def gD:List (FuncId × aD):=[(174,aG 4 Mn),(176,Rp),(183,Dc)]
def Dd:aD:=fun _=>bp (ai GS gD) 50 Fc
theorem DD:ak Tryz.prog GS 175 Dd:=(aM (E:=ai GS gD) (ag (ae (ak.of_pure xe 4) (ae DC (ae Dy aw)))) rfl Pj F7 aW.nil).y
end Sh
namespace Sh
open Go
def E0:MC:=.region [.y 4 0,.y 5 1]
def EZ:MC:=.region [.k 7 5,.br 7 176 0]
def EY:MC:=.seq (.block 0 (.rangeFunc (.var 7) [8] jw jv)) (.kill [0,1,2,3,4,5,6,7,8,9])
theorem Fb:Fc=⟨4,10,.seq E0 (.seq EZ EY),[]⟩:=rfl
def wA1:ac:=[.row 4 false [bV],.row 4 false [bV],.row 1 false [.nilP,.nilP,.nilP],.row 1 false [.sl 2 0 3],.row 1 false [.bool false,.bool false,.bool false],.row 1 false [.func (.func 174) [] []]]
def wB1:ac:=[.row 4 false [bV],.row 4 false [bV],.row 1 false [.nilP,.ptr 10 0 0,.nilP],.row 1 false [.sl 2 0 3],.row 1 false [.bool false,.bool false,.bool false],.row 1 false [.func (.func 174) [] []],.row 2 false [.agg [.int .i64 2,.nilS]],.row 7 false [bv 0 (.fs 1 [.int .i64 1])],.row 7 false [bv 0 (.fs 1 [.int .i64 1])],.dead,.row 2 false [.agg [.int .i64 2,.nilS]]]
def wA2:ac:=[.row 4 false [bV],.row 4 false [bV],.row 1 false [.nilP,.ptr 10 0 0,.nilP],.row 1 false [.sl 2 0 3],.row 1 false [.bool false,.bool true,.bool false],.row 1 false [.func (.func 174) [] []],.row 2 false [.agg [.int .i64 2,.nilS]],.row 7 false [bv 0 (.fs 1 [.int .i64 1])],.row 7 false [bv 0 (.fs 1 [.int .i64 1])],.dead,.row 2 false [.agg [.int .i64 2,.nilS]],.row 1 false [.int .i64 1]]
def wB2:ac:=[.row 4 false [bV],.row 4 false [bV],.row 1 false [.nilP,.ptr 10 0 0,.ptr 16 0 0],.row 1 false [.sl 2 0 3],.row 1 false [.bool false,.bool true,.bool false],.row 1 false [.func (.func 174) [] []],.row 2 false [.agg [.int .i64 2,.nilS]],.row 7 false [bv 0 (.fs 1 [.int .i64 1])],.row 7 false [bv 0 (.fs 1 [.int .i64 1])],.dead,.row 2 false [.agg [.int .i64 2,.nilS]],.row 1 false [.int .i64 1],.row 2 false [.agg [.int .i64 14,.sl 11 0 1]],.row 7 false [bv 1 (.fs 1 [.int .i64 2])],.row 7 false [bv 1 (.fs 1 [.int .i64 2])],.dead,.row 2 false [.agg [.int .i64 14,.sl 11 0 1]]]
def wA3:ac:=[.row 4 false [bV],.row 4 false [bV],.row 1 false [.nilP,.ptr 10 0 0,.ptr 16 0 0],.row 1 false [.sl 2 0 3],.row 1 false [.bool false,.bool true,.bool true],.row 1 false [.func (.func 174) [] []],.row 2 false [.agg [.int .i64 2,.nilS]],.row 7 false [bv 0 (.fs 1 [.int .i64 1])],.row 7 false [bv 0 (.fs 1 [.int .i64 1])],.dead,.row 2 false [.agg [.int .i64 2,.nilS]],.row 1 false [.int .i64 1],.row 2 false [.agg [.int .i64 14,.sl 11 0 1]],.row 7 false [bv 1 (.fs 1 [.int .i64 2])],.row 7 false [bv 1 (.fs 1 [.int .i64 2])],.dead,.row 2 false [.agg [.int .i64 14,.sl 11 0 1]],.dead,.dead,.row 1 false [.int .i64 1,.int .i64 2]]
def wB3:ac:=[.row 4 false [bV],.row 4 false [bV],.row 1 false [.nilP,.ptr 10 0 0,.ptr 16 0 0],.row 1 false [.sl 2 0 3],.row 1 false [.bool false,.bool true,.bool true],.row 1 false [.func (.func 174) [] []],.row 2 false [.agg [.int .i64 2,.nilS]],.row 7 false [bv 0 (.fs 1 [.int .i64 1])],.row 7 false [bv 0 (.fs 1 [.int .i64 1])],.dead,.row 2 false [.agg [.int .i64 2,.nilS]],.row 1 false [.int .i64 1],.row 2 false [.agg [.int .i64 14,.sl 11 0 1]],.row 7 false [bv 1 (.fs 1 [.int .i64 2])],.row 7 false [bv 1 (.fs 1 [.int .i64 2])],.dead,.row 2 false [.agg [.int .i64 14,.sl 11 0 1]],.dead,.dead,.row 1 false [.int .i64 1,.int .i64 2],.row 2 false [.agg [.int .i64 26,.sl 19 0 2]],.row 7 false [bv 2 .nilS],.row 7 false [bv 2 .nilS],.dead]
theorem xo {args σ1 σ2:List AV} {A1 A2 B:ac} (hl:args.length=4) (h1:∀K,run (ai GS gD) 50 (.code E0 :: K) (args++List.replicate 6 .undef) A=run (ai GS gD) 50 K σ1 A1) (h2:∀K,run (ai GS gD) 50 (.code EZ :: K) σ1 A1=run (ai GS gD) 50 K σ2 A2)
  (hv:evX (ai GS gD) σ2 [] (.var 7)=.func (.func 183) [] [.ptr b 0 0])
  (h3:∀(l:Nat) (r:Loop),∃B',Dc (dy A2.length l r σ2 [8] (evC (ai GS gD) 50 jw) (evC (ai GS gD) 50 jv) (fun _ _ _=>none)) [.func (.yield l) [] [],.ptr b 0 0] (A2++[.loop r 0])=some (.tup [],B')/\B'[A2.length]?=some (.loop r 0)/\B'.set A2.length .dead=B) :
  Dd hd args A=some (.tup [],B):=by
 have hr:∀K,run (ai GS gD) 50 (.code (.rangeFunc (.var 7) [8] jw jv) :: K) σ2 A2=after (ai GS gD) 50 K (.normal σ2 B):=fun K=>by
  refine fZ _ _ _ _ _ fun l r=>?_
  obtain ⟨B',e1,e2,e3⟩:=h3 l r
  rw [hv]
  show (match Dc (dy A2.length l r σ2 [8] (evC (ai GS gD) 50 jw) (evC (ai GS gD) 50 jv) (fun _ _ _=>none)) [.func (.yield l) [] [],.ptr b 0 0] (A2++[.loop r 0]) with
   | some (_,A')=>il A2.length σ2 A'
   | none=>none)=_
  rw [e1]
  simp [il,e2,e3]
 unfold Dd
 rw [aX _ _ (by rw [hl]; rfl),Fb]
 show (match run (ai GS gD) 50 [.code (.seq E0 (.seq EZ EY))] (args++List.replicate 6 .undef) A with
  | some (.normal σ A')=>(dV A' σ []).map fun l=>(dw l,A')
  | some (.ret σ A')=>(dV A' σ []).map fun l=>(dw l,A')
  | _=>none)=_
 rw [ba,h1,ba,h2]
 unfold EY
 rw [ba,gI,hr]
 simp [dV]
theorem ud {σ σ3 σ4:List AV} {r:Loop} {n:Int} {A2 A4:ac} (_hσ:σ.length=10) (ha:∀X,evC (ai GS gD) 50 jw (σ.set 8 (.int .i64 n)) (A2++[X])=some (.normal σ3 (A2++[X]))) (hb:evC (ai GS gD) 50 jv σ3 (A2++[.dead])=some (.normal σ4 A4)) :
  dy A2.length l r σ [8] (evC (ai GS gD) 50 jw) (evC (ai GS gD) 50 jv) (fun _ _ _=>none) (.func (.yield l) [] []) [.int .i64 n] (A2++[.loop r 0])=some (.bool true,A4.set A2.length (.loop r 0)):=
 vI (by simp) rfl (ha _) (by simp) (by
  rw [show (A2++[Ent.loop r 0]).set A2.length .dead=A2++[.dead] by simp]
  exact hb)
theorem add1 (hd:aR):Dd hd [.agg [.int .i64 2,.nilS],bv 0 (.fs 1 [.int .i64 1]),.ptr 3 0 0,.ptr 5 0 0] wA1=some (.tup [],wB1):=by
 refine xo (σ1:=[.agg [.int .i64 2,.nilS],bv 0 (.fs 1 [.int .i64 1]),.ptr 3 0 0,.ptr 5 0 0,.ptr 6 0 0,.ptr 7 0 0,.undef,.undef,.undef,.undef]) (σ2:=[.agg [.int .i64 2,.nilS],bv 0 (.fs 1 [.int .i64 1]),.ptr 3 0 0,.ptr 5 0 0,.ptr 6 0 0,.ptr 7 0 0,.undef,.func (.func 183) [] [.ptr 8 0 0],.undef,.undef]) (A1:=wA1++[.row 2 false [.agg [.int .i64 2,.nilS]],.row 7 false [bv 0 (.fs 1 [.int .i64 1])]]) (A2:=wA1++[.row 2 false [.agg [.int .i64 2,.nilS]],.row 7 false [bv 0 (.fs 1 [.int .i64 1])],.row 7 false [bv 0 (.fs 1 [.int .i64 1])]]) (b:=8) rfl (fun K=>by kernel_rfl) (fun K=>by kernel_rfl) rfl fun l r=>?_
 refine ⟨_,Jm (i:=0) (n:=1) rfl (by omega) (ud (σ3:=[.agg [.int .i64 2,.nilS],bv 0 (.fs 1 [.int .i64 1]),.ptr 3 0 0,.ptr 5 0 0,.ptr 6 0 0,.ptr 7 0 0,.int .i64 1,.func (.func 183) [] [.ptr 8 0 0],.int .i64 1,.undef]) (σ4:=List.replicate 10 .undef) (A4:=wB1) rfl (fun X=>by kernel_rfl) (by kernel_rfl)),rfl,rfl⟩
theorem add2 (hd:aR):Dd hd [.agg [.int .i64 14,.sl 11 0 1],bv 1 (.fs 1 [.int .i64 2]),.ptr 3 0 0,.ptr 5 0 0] wA2=some (.tup [],wB2):=by
 refine xo (σ1:=[.agg [.int .i64 14,.sl 11 0 1],bv 1 (.fs 1 [.int .i64 2]),.ptr 3 0 0,.ptr 5 0 0,.ptr 12 0 0,.ptr 13 0 0,.undef,.undef,.undef,.undef]) (σ2:=[.agg [.int .i64 14,.sl 11 0 1],bv 1 (.fs 1 [.int .i64 2]),.ptr 3 0 0,.ptr 5 0 0,.ptr 12 0 0,.ptr 13 0 0,.undef,.func (.func 183) [] [.ptr 14 0 0],.undef,.undef]) (A1:=wA2++[.row 2 false [.agg [.int .i64 14,.sl 11 0 1]],.row 7 false [bv 1 (.fs 1 [.int .i64 2])]]) (A2:=wA2++[.row 2 false [.agg [.int .i64 14,.sl 11 0 1]],.row 7 false [bv 1 (.fs 1 [.int .i64 2])],.row 7 false [bv 1 (.fs 1 [.int .i64 2])]]) (b:=14) rfl (fun K=>by kernel_rfl) (fun K=>by kernel_rfl) rfl fun l r=>?_
 refine ⟨_,Jm (i:=1) (n:=2) rfl (by omega) (ud (σ3:=[.agg [.int .i64 14,.sl 11 0 1],bv 1 (.fs 1 [.int .i64 2]),.ptr 3 0 0,.ptr 5 0 0,.ptr 12 0 0,.ptr 13 0 0,.int .i64 2,.func (.func 183) [] [.ptr 14 0 0],.int .i64 2,.undef]) (σ4:=List.replicate 10 .undef) (A4:=wB2) rfl (fun X=>by kernel_rfl) (by kernel_rfl)),rfl,rfl⟩
theorem add3 (hd:aR):Dd hd [.agg [.int .i64 26,.sl 19 0 2],bv 2 .nilS,.ptr 3 0 0,.ptr 5 0 0] wA3=some (.tup [],wB3):=by
 refine xo (σ1:=[.agg [.int .i64 26,.sl 19 0 2],bv 2 .nilS,.ptr 3 0 0,.ptr 5 0 0,.ptr 20 0 0,.ptr 21 0 0,.undef,.undef,.undef,.undef]) (σ2:=[.agg [.int .i64 26,.sl 19 0 2],bv 2 .nilS,.ptr 3 0 0,.ptr 5 0 0,.ptr 20 0 0,.ptr 21 0 0,.undef,.func (.func 183) [] [.ptr 22 0 0],.undef,.undef]) (A1:=wA3++[.row 2 false [.agg [.int .i64 26,.sl 19 0 2]],.row 7 false [bv 2 .nilS]]) (A2:=wA3++[.row 2 false [.agg [.int .i64 26,.sl 19 0 2]],.row 7 false [bv 2 .nilS],.row 7 false [bv 2 .nilS]]) (b:=22) rfl (fun K=>by kernel_rfl) (fun K=>by kernel_rfl) rfl fun l r=>?_
 refine ⟨_,M8 (i:=2) rfl,rfl,rfl⟩
end Sh
namespace Sh
open Go
def cT:List (FuncId × aD):=[(63,H63),(174,aG 4 Mn),(175,Dd)]
@[simp] theorem L7:aH cT 63=some H63:=rfl
@[simp] theorem JK:aH cT 174=some (aG 4 Mn):=rfl
@[simp] theorem JJ:aH cT 175=some Dd:=rfl
def LD:aD:=fun _=>bp (ai GS cT) 50 Fe
theorem DL:ak Tryz.prog GS 157 LD:=(aM (E:=ai GS cT) (ag (ae BQ (ae (ak.of_pure xe 4) (ae DD aw)))) rfl Pt Gg aW.nil).y
def wP:MC:=.region [.e 8 (-1)]
def wO:MC:=.seq (.region [.bp 11 1 4,.R 12 11,.e 13 0]) (.seq (.block 2 (.loop [0,1,3,9,10,14,15,16] xO)) (.kill [0,1,3,9,10,11,12,13,14,15,16]))
def wN:MC:=.seq (.region [.a 8,.U 16 0 0]) (.cond (.var 16) (.seq (.region [.o 1 4,.c 3 0]) .ret) .skip)
def wM:MC:=.region [.a 5,.a 8,.g 1 0 1,.c0 1 2]
def q8:MC:=.regionD [] [.a 7,.o 1 4,.a 8,.g 1 1 2,.b 1 3,.J 4,.l 0 5,.b 1 6,.d 2 2,.b 1 8,.a 8,.g 7 9 10,.l 2 11,.b 1 12,.v 7 13,.d 0 2,.b 1 15,.v 14 16,.o 1 4,.a 8,.g 1 18 19,.b 1 20,.J 21,.l 1 22,.b 1 23,.E 63 24,.a 8,.bz 26,.ch 25 27,.bx 17 28,.d 2 2,.b 1 30,.a 8,.g 7 31 32,.F 7 33,.ay 0 29 34] [(1,25),(3,25),(4,25),(6,25),(7,25),(8,25),(9,25),(11,25),(12,25),(13,25),(15,25),(16,25),(1,28),(3,28),(4,28),(6,28),(7,28),(8,28),(9,28),(11,28),(12,28),(13,28),(15,28),(16,28),(25,30),(28,30),(25,31),(28,31),(25,33),(28,33),(25,34),(28,34)]
def MB:MC:=.kill [0,1,3,8,9,10,11,12,13,14,15,16]
theorem rB:gi=.seq (.block 1 (.seq wP (.seq wO (.seq wN (.seq wM q8))))) MB:=rfl
def wL:MC:=.region [.y 2 0,.C 3]
def wK:MC:=.region [.d 2 2,.b 1 0,.B 1,.qn (.makeSlice 1 8 .nilP (.tmp 2) (.tmp 2)),.bm 4 1,.j 1 4 3]
def wJ:MC:=.region [.d 2 2,.b 1 0,.B 1,.cc 2 2,.c 5 3]
def wI:MC:=.region [.cn 6 1,.qn (.store 1 (.var 6) (.fn 174))]
def wH:MC:=.region [.qn (.makeFunc (.func 175) [] [.var 4,.var 6]),.c 7 0]
def ue:MC:=.region [.a 7,.d 0 2,.b 1 1,.qn (.build [.int .i64 0,.nilS] [(0,(1,.tmp 2))]),.d 2 2,.b 1 4,.a 1,.g 7 5 6,.F 7 7,.ay 0 3 8]
def Dl:MC:=.seq (.block 0 (.loop [0,1,3,8,9,10,11,12,13,14,15,16] gi)) (.kill [0,1,2,3,4,5,6,7,8,9,10,11,12,13,14,15,16])
theorem Fd:Fe=⟨2,17,.seq wL (.seq wK (.seq wJ (.seq wI (.seq wH (.seq ue Dl))))),[.tmp 3]⟩:=rfl
def wC2:ac:=wB1.set 4 (.row 1 false [.bool false,.bool true,.bool false])
def wC3:ac:=wB2.set 4 (.row 1 false [.bool false,.bool true,.bool true])
def wD3:ac:=wC3++[.dead,.row 1 false [.int .i64 1]]
def iU:List AV:=[bv 0 (.fs 1 [.int .i64 1]),bv 1 (.fs 1 [.int .i64 2]),bv 2 .nilS]
theorem q5a {K:List KC}:run (ai GS cT) 50 (.code q8 :: K) [.undef,.undef,.ptr 1 0 0,.undef,.ptr 3 0 0,.sl 4 0 3,.ptr 5 0 0,.func (.func 175) [] [.ptr 3 0 0,.ptr 5 0 0],.int .i64 1,.undef,.undef,.undef,.undef,.undef,.undef,.undef,.bool false] wC2=run (ai GS cT) 50 K [.undef,.undef,.ptr 1 0 0,.undef,.ptr 3 0 0,.sl 4 0 3,.ptr 5 0 0,.func (.func 175) [] [.ptr 3 0 0,.ptr 5 0 0],.int .i64 1,.undef,.undef,.undef,.undef,.undef,.undef,.undef,.bool false] wB2:=by
 have f1:af false 1 wC2 (.ptr 3 0 0)=some (.sl 2 0 3):=rfl
 have f2:au 1 wC2 (.sl 2 0 3) (.int .i64 1)=some (.ptr 2 1 0):=rfl
 have f3:af false 1 wC2 (.ptr 2 1 0)=some (.ptr 10 0 0):=rfl
 have f4:aa 0 wC2 (.ptr 10 0 0)=some (.ptr 10 0 0):=rfl
 have f5:af false 1 wC2 (.ptr 10 0 0)=some (.int .i64 2):=rfl
 have f6:aa 2 wC2 (.ptr 1 0 0)=some (.ptr 1 0 2):=rfl
 have f7:af false 1 wC2 (.ptr 1 0 2)=some (.fs 7 iU):=rfl
 have f8:au 7 wC2 (.fs 7 iU) (.int .i64 1)=some (.fp [.int .i64 1,.fs 1 [.int .i64 1],.int .i64 10,.int .i64 20,.fs 1 [.int .i64 2],.int .i64 (-1),.int .i64 0]):=rfl
 have f9:aa 2 wC2 (.fp [.int .i64 1,.fs 1 [.int .i64 1],.int .i64 10,.int .i64 20,.fs 1 [.int .i64 2],.int .i64 (-1),.int .i64 0])=some (.fp [.int .i64 10,.int .i64 20,.fs 1 [.int .i64 2],.int .i64 (-1),.int .i64 0]):=rfl
 have f10:af false 1 wC2 (.fp [.int .i64 10,.int .i64 20,.fs 1 [.int .i64 2],.int .i64 (-1),.int .i64 0])=some (.int .i64 10):=rfl
 have f11:aq .add (.int .i64 2) (.int .i64 10)=some (.int .i64 12):=rfl
 have f12:aa 0 wC2 (.ptr 1 0 0)=some (.ptr 1 0 0):=rfl
 have f13:af false 1 wC2 (.ptr 1 0 0)=some (.int .i64 2):=rfl
 have f14:aq .add (.int .i64 12) (.int .i64 2)=some (.int .i64 14):=rfl
 have f15:aa 1 wC2 (.ptr 10 0 0)=some (.ptr 10 0 1):=rfl
 have f16:af false 1 wC2 (.ptr 10 0 1)=some (.nilS):=rfl
 have f17:H63 (fun _ _ _=>none) [.nilS] wC2=some (.nilS,wC2):=rfl
 have f18:cg 1 8 wC2 (.nilS) (.fs 1 [.int .i64 1])=some (.sl 11 0 1,wA2):=rfl
 have f19:aa 2 wA2 (.ptr 1 0 0)=some (.ptr 1 0 2):=rfl
 have f20:af false 1 wA2 (.ptr 1 0 2)=some (.fs 7 iU):=rfl
 have f21:au 7 wA2 (.fs 7 iU) (.int .i64 1)=some (.fp [.int .i64 1,.fs 1 [.int .i64 1],.int .i64 10,.int .i64 20,.fs 1 [.int .i64 2],.int .i64 (-1),.int .i64 0]):=rfl
 have f22:af true 7 wA2 (.fp [.int .i64 1,.fs 1 [.int .i64 1],.int .i64 10,.int .i64 20,.fs 1 [.int .i64 2],.int .i64 (-1),.int .i64 0])=some (bv 1 (.fs 1 [.int .i64 2])):=rfl
 have f23:wC2.length=11:=rfl
 have fa:=add2 (fun _ _ _=>none)
 simp (maxSteps:=1000000) [q8,f1,f2,f3,f4,f5,f6,f7,f8,f9,f10,f11,f12,f13,f14,f15,f16,f17,f18,f19,f20,f21,f22,f23,fa,-af,-au,-aa,-aq]
theorem q5b {K:List KC}:run (ai GS cT) 50 (.code q8 :: K) [.undef,.undef,.ptr 1 0 0,.undef,.ptr 3 0 0,.sl 4 0 3,.ptr 5 0 0,.func (.func 175) [] [.ptr 3 0 0,.ptr 5 0 0],.int .i64 2,.undef,.undef,.undef,.undef,.undef,.undef,.undef,.bool false] wC3=run (ai GS cT) 50 K [.undef,.undef,.ptr 1 0 0,.undef,.ptr 3 0 0,.sl 4 0 3,.ptr 5 0 0,.func (.func 175) [] [.ptr 3 0 0,.ptr 5 0 0],.int .i64 2,.undef,.undef,.undef,.undef,.undef,.undef,.undef,.bool false] wB3:=by
 have f1:af false 1 wC3 (.ptr 3 0 0)=some (.sl 2 0 3):=rfl
 have f2:au 1 wC3 (.sl 2 0 3) (.int .i64 2)=some (.ptr 2 2 0):=rfl
 have f3:af false 1 wC3 (.ptr 2 2 0)=some (.ptr 16 0 0):=rfl
 have f4:aa 0 wC3 (.ptr 16 0 0)=some (.ptr 16 0 0):=rfl
 have f5:af false 1 wC3 (.ptr 16 0 0)=some (.int .i64 14):=rfl
 have f6:aa 2 wC3 (.ptr 1 0 0)=some (.ptr 1 0 2):=rfl
 have f7:af false 1 wC3 (.ptr 1 0 2)=some (.fs 7 iU):=rfl
 have f8:au 7 wC3 (.fs 7 iU) (.int .i64 2)=some (.fp [.int .i64 1,.fs 1 [.int .i64 2],.int .i64 10,.int .i64 20,.nilS,.int .i64 (-1),.int .i64 0]):=rfl
 have f9:aa 2 wC3 (.fp [.int .i64 1,.fs 1 [.int .i64 2],.int .i64 10,.int .i64 20,.nilS,.int .i64 (-1),.int .i64 0])=some (.fp [.int .i64 10,.int .i64 20,.nilS,.int .i64 (-1),.int .i64 0]):=rfl
 have f10:af false 1 wC3 (.fp [.int .i64 10,.int .i64 20,.nilS,.int .i64 (-1),.int .i64 0])=some (.int .i64 10):=rfl
 have f11:aq .add (.int .i64 14) (.int .i64 10)=some (.int .i64 24):=rfl
 have f12:aa 0 wC3 (.ptr 1 0 0)=some (.ptr 1 0 0):=rfl
 have f13:af false 1 wC3 (.ptr 1 0 0)=some (.int .i64 2):=rfl
 have f14:aq .add (.int .i64 24) (.int .i64 2)=some (.int .i64 26):=rfl
 have f15:aa 1 wC3 (.ptr 16 0 0)=some (.ptr 16 0 1):=rfl
 have f16:af false 1 wC3 (.ptr 16 0 1)=some (.sl 11 0 1):=rfl
 have f17:H63 (fun _ _ _=>none) [.sl 11 0 1] wC3=some (.sl 18 0 1,wD3):=rfl
 have f18:cg 1 8 wD3 (.sl 18 0 1) (.fs 1 [.int .i64 2])=some (.sl 19 0 2,wA3):=rfl
 have f19:aa 2 wA3 (.ptr 1 0 0)=some (.ptr 1 0 2):=rfl
 have f20:af false 1 wA3 (.ptr 1 0 2)=some (.fs 7 iU):=rfl
 have f21:au 7 wA3 (.fs 7 iU) (.int .i64 2)=some (.fp [.int .i64 1,.fs 1 [.int .i64 2],.int .i64 10,.int .i64 20,.nilS,.int .i64 (-1),.int .i64 0]):=rfl
 have f22:af true 7 wA3 (.fp [.int .i64 1,.fs 1 [.int .i64 2],.int .i64 10,.int .i64 20,.nilS,.int .i64 (-1),.int .i64 0])=some (bv 2 .nilS):=rfl
 have f23:wD3.length=19:=rfl
 have f24:wD3[1]?=wC3[1]?:=rfl
 have f25:wD3[2]?=wC3[2]?:=rfl
 have f26:wD3[3]?=wC3[3]?:=rfl
 have f27:wD3[16]?=wC3[16]?:=rfl
 have fa:=add3 (fun _ _ _=>none)
 simp (maxSteps:=1000000) [q8,f1,f2,f3,f4,f5,f6,f7,f8,f9,f10,f11,f12,f13,f14,f15,f16,f17,f18,f19,f20,f21,f22,f23,fa,-af,-au,-aa,-aq]
 refine RL ?_
 simp
 exact ⟨rfl,rfl,rfl,rfl⟩
def σ157:List AV:=[.undef,.undef,.ptr 1 0 0,.undef,.ptr 3 0 0,.sl 4 0 3,.ptr 5 0 0,.func (.func 175) [] [.ptr 3 0 0,.ptr 5 0 0],.undef,.undef,.undef,.undef,.undef,.undef,.undef,.undef,.undef]
theorem Ij:run (ai GS cT) 50 [.code gi] σ157 wB1=some (.normal σ157 wB2):=by
 have k1:∀K,run (ai GS cT) 50 (.code wP :: K) σ157 wB1=run (ai GS cT) 50 K [.undef,.undef,.ptr 1 0 0,.undef,.ptr 3 0 0,.sl 4 0 3,.ptr 5 0 0,.func (.func 175) [] [.ptr 3 0 0,.ptr 5 0 0],.int .i64 (-1),.undef,.undef,.undef,.undef,.undef,.undef,.undef,.undef] wB1:=fun K=>by kernel_rfl
 have k2:∀K,run (ai GS cT) 50 (.code wO :: K) [.undef,.undef,.ptr 1 0 0,.undef,.ptr 3 0 0,.sl 4 0 3,.ptr 5 0 0,.func (.func 175) [] [.ptr 3 0 0,.ptr 5 0 0],.int .i64 (-1),.undef,.undef,.undef,.undef,.undef,.undef,.undef,.undef] wB1=run (ai GS cT) 50 K [.undef,.undef,.ptr 1 0 0,.undef,.ptr 3 0 0,.sl 4 0 3,.ptr 5 0 0,.func (.func 175) [] [.ptr 3 0 0,.ptr 5 0 0],.int .i64 1,.undef,.undef,.undef,.undef,.undef,.undef,.undef,.undef] wB1:=fun K=>by kernel_rfl
 have k3:∀K,run (ai GS cT) 50 (.code wN :: K) [.undef,.undef,.ptr 1 0 0,.undef,.ptr 3 0 0,.sl 4 0 3,.ptr 5 0 0,.func (.func 175) [] [.ptr 3 0 0,.ptr 5 0 0],.int .i64 1,.undef,.undef,.undef,.undef,.undef,.undef,.undef,.undef] wB1=run (ai GS cT) 50 K [.undef,.undef,.ptr 1 0 0,.undef,.ptr 3 0 0,.sl 4 0 3,.ptr 5 0 0,.func (.func 175) [] [.ptr 3 0 0,.ptr 5 0 0],.int .i64 1,.undef,.undef,.undef,.undef,.undef,.undef,.undef,.bool false] wB1:=fun K=>by kernel_rfl
 have k4:∀K,run (ai GS cT) 50 (.code wM :: K) [.undef,.undef,.ptr 1 0 0,.undef,.ptr 3 0 0,.sl 4 0 3,.ptr 5 0 0,.func (.func 175) [] [.ptr 3 0 0,.ptr 5 0 0],.int .i64 1,.undef,.undef,.undef,.undef,.undef,.undef,.undef,.bool false] wB1=run (ai GS cT) 50 K [.undef,.undef,.ptr 1 0 0,.undef,.ptr 3 0 0,.sl 4 0 3,.ptr 5 0 0,.func (.func 175) [] [.ptr 3 0 0,.ptr 5 0 0],.int .i64 1,.undef,.undef,.undef,.undef,.undef,.undef,.undef,.bool false] wC2:=fun K=>by kernel_rfl
 rw [rB,ba,gI,ba,k1,ba,k2,ba,k3,ba,k4,q5a]
 rfl
theorem Ii:run (ai GS cT) 50 [.code gi] σ157 wB2=some (.normal σ157 wB3):=by
 have k1:∀K,run (ai GS cT) 50 (.code wP :: K) σ157 wB2=run (ai GS cT) 50 K [.undef,.undef,.ptr 1 0 0,.undef,.ptr 3 0 0,.sl 4 0 3,.ptr 5 0 0,.func (.func 175) [] [.ptr 3 0 0,.ptr 5 0 0],.int .i64 (-1),.undef,.undef,.undef,.undef,.undef,.undef,.undef,.undef] wB2:=fun K=>by kernel_rfl
 have k2:∀K,run (ai GS cT) 50 (.code wO :: K) [.undef,.undef,.ptr 1 0 0,.undef,.ptr 3 0 0,.sl 4 0 3,.ptr 5 0 0,.func (.func 175) [] [.ptr 3 0 0,.ptr 5 0 0],.int .i64 (-1),.undef,.undef,.undef,.undef,.undef,.undef,.undef,.undef] wB2=run (ai GS cT) 50 K [.undef,.undef,.ptr 1 0 0,.undef,.ptr 3 0 0,.sl 4 0 3,.ptr 5 0 0,.func (.func 175) [] [.ptr 3 0 0,.ptr 5 0 0],.int .i64 2,.undef,.undef,.undef,.undef,.undef,.undef,.undef,.undef] wB2:=fun K=>by kernel_rfl
 have k3:∀K,run (ai GS cT) 50 (.code wN :: K) [.undef,.undef,.ptr 1 0 0,.undef,.ptr 3 0 0,.sl 4 0 3,.ptr 5 0 0,.func (.func 175) [] [.ptr 3 0 0,.ptr 5 0 0],.int .i64 2,.undef,.undef,.undef,.undef,.undef,.undef,.undef,.undef] wB2=run (ai GS cT) 50 K [.undef,.undef,.ptr 1 0 0,.undef,.ptr 3 0 0,.sl 4 0 3,.ptr 5 0 0,.func (.func 175) [] [.ptr 3 0 0,.ptr 5 0 0],.int .i64 2,.undef,.undef,.undef,.undef,.undef,.undef,.undef,.bool false] wB2:=fun K=>by kernel_rfl
 have k4:∀K,run (ai GS cT) 50 (.code wM :: K) [.undef,.undef,.ptr 1 0 0,.undef,.ptr 3 0 0,.sl 4 0 3,.ptr 5 0 0,.func (.func 175) [] [.ptr 3 0 0,.ptr 5 0 0],.int .i64 2,.undef,.undef,.undef,.undef,.undef,.undef,.undef,.bool false] wB2=run (ai GS cT) 50 K [.undef,.undef,.ptr 1 0 0,.undef,.ptr 3 0 0,.sl 4 0 3,.ptr 5 0 0,.func (.func 175) [] [.ptr 3 0 0,.ptr 5 0 0],.int .i64 2,.undef,.undef,.undef,.undef,.undef,.undef,.undef,.bool false] wC3:=fun K=>by kernel_rfl
 rw [rB,ba,gI,ba,k1,ba,k2,ba,k3,ba,k4,q5b]
 rfl
theorem Ih:run (ai GS cT) 50 [.code gi] σ157 wB3=some (.ret [.undef,.undef,.ptr 1 0 0,.sl 2 0 3,.ptr 3 0 0,.sl 4 0 3,.ptr 5 0 0,.func (.func 175) [] [.ptr 3 0 0,.ptr 5 0 0],.int .i64 (-1),.undef,.undef,.undef,.undef,.undef,.undef,.undef,.bool true] wB3):=by kernel_rfl
def wZ:ac:=[.row 4 false [bV]]
theorem MN {K:List KC}:run (ai GS cT) 50 (.code ue :: K) [bV,.int .i64 0,.ptr 1 0 0,.nilS,.ptr 3 0 0,.sl 4 0 3,.ptr 5 0 0,.func (.func 175) [] [.ptr 3 0 0,.ptr 5 0 0],.undef,.undef,.undef,.undef,.undef,.undef,.undef,.undef,.undef] wA1=run (ai GS cT) 50 K [bV,.int .i64 0,.ptr 1 0 0,.nilS,.ptr 3 0 0,.sl 4 0 3,.ptr 5 0 0,.func (.func 175) [] [.ptr 3 0 0,.ptr 5 0 0],.undef,.undef,.undef,.undef,.undef,.undef,.undef,.undef,.undef] wB1:=by
 have f1:aa 0 wA1 (.ptr 1 0 0)=some (.ptr 1 0 0):=rfl
 have f2:af false 1 wA1 (.ptr 1 0 0)=some (.int .i64 2):=rfl
 have f3:aa 2 wA1 (.ptr 1 0 0)=some (.ptr 1 0 2):=rfl
 have f4:af false 1 wA1 (.ptr 1 0 2)=some (.fs 7 iU):=rfl
 have f5:au 7 wA1 (.fs 7 iU) (.int .i64 0)=some (.fp [.int .i64 1,.fs 1 [.int .i64 0],.int .i64 10,.int .i64 20,.fs 1 [.int .i64 1],.int .i64 (-1),.int .i64 0]):=rfl
 have f6:af true 7 wA1 (.fp [.int .i64 1,.fs 1 [.int .i64 0],.int .i64 10,.int .i64 20,.fs 1 [.int .i64 1],.int .i64 (-1),.int .i64 0])=some (bv 0 (.fs 1 [.int .i64 1])):=rfl
 have fa:=add1 (fun _ _ _=>none)
 simp [ue,f1,f2,f3,f4,f5,f6,fa,-af,-au,-aa]
theorem BL (hd:aR):LD hd [bV,.int .i64 0] wZ=some (.sl 2 0 3,wB3):=by
 have k1:∀K,run (ai GS cT) 50 (.code wL :: K) ([bV,.int .i64 0]++List.replicate 15 .undef) wZ=run (ai GS cT) 50 K [bV,.int .i64 0,.ptr 1 0 0,.nilS,.undef,.undef,.undef,.undef,.undef,.undef,.undef,.undef,.undef,.undef,.undef,.undef,.undef] (wA1.take 2):=fun K=>by kernel_rfl
 have k2:∀K,run (ai GS cT) 50 (.code wK :: K) [bV,.int .i64 0,.ptr 1 0 0,.nilS,.undef,.undef,.undef,.undef,.undef,.undef,.undef,.undef,.undef,.undef,.undef,.undef,.undef] (wA1.take 2)=run (ai GS cT) 50 K [bV,.int .i64 0,.ptr 1 0 0,.nilS,.ptr 3 0 0,.undef,.undef,.undef,.undef,.undef,.undef,.undef,.undef,.undef,.undef,.undef,.undef] (wA1.take 4):=fun K=>by kernel_rfl
 have k3:∀K,run (ai GS cT) 50 (.code wJ :: K) [bV,.int .i64 0,.ptr 1 0 0,.nilS,.ptr 3 0 0,.undef,.undef,.undef,.undef,.undef,.undef,.undef,.undef,.undef,.undef,.undef,.undef] (wA1.take 4)=run (ai GS cT) 50 K [bV,.int .i64 0,.ptr 1 0 0,.nilS,.ptr 3 0 0,.sl 4 0 3,.undef,.undef,.undef,.undef,.undef,.undef,.undef,.undef,.undef,.undef,.undef] (wA1.take 5):=fun K=>by kernel_rfl
 have k4:∀K,run (ai GS cT) 50 (.code wI :: K) [bV,.int .i64 0,.ptr 1 0 0,.nilS,.ptr 3 0 0,.sl 4 0 3,.undef,.undef,.undef,.undef,.undef,.undef,.undef,.undef,.undef,.undef,.undef] (wA1.take 5)=run (ai GS cT) 50 K [bV,.int .i64 0,.ptr 1 0 0,.nilS,.ptr 3 0 0,.sl 4 0 3,.ptr 5 0 0,.undef,.undef,.undef,.undef,.undef,.undef,.undef,.undef,.undef,.undef] wA1:=fun K=>by kernel_rfl
 have k5:∀K,run (ai GS cT) 50 (.code wH :: K) [bV,.int .i64 0,.ptr 1 0 0,.nilS,.ptr 3 0 0,.sl 4 0 3,.ptr 5 0 0,.undef,.undef,.undef,.undef,.undef,.undef,.undef,.undef,.undef,.undef] wA1=run (ai GS cT) 50 K [bV,.int .i64 0,.ptr 1 0 0,.nilS,.ptr 3 0 0,.sl 4 0 3,.ptr 5 0 0,.func (.func 175) [] [.ptr 3 0 0,.ptr 5 0 0],.undef,.undef,.undef,.undef,.undef,.undef,.undef,.undef,.undef] wA1:=fun K=>by kernel_rfl
 have lp:cc (evC (ai GS cT) 50 gi) gS 50 σ157 wB1=some (.ret [.undef,.undef,.ptr 1 0 0,.sl 2 0 3,.ptr 3 0 0,.sl 4 0 3,.ptr 5 0 0,.func (.func 175) [] [.ptr 3 0 0,.ptr 5 0 0],.int .i64 (-1),.undef,.undef,.undef,.undef,.undef,.undef,.undef,.bool true] wB3):=by
  have cl:clear gS σ157=σ157:=rfl
  rw [aO,cl,Ij]
  show cc _ _ 49 _ _=_
  rw [aO,cl,Ii]
  show cc _ _ 48 _ _=_
  rw [aO,cl,Ih]
 unfold LD
 rw [aX _ _ rfl,Fd]
 show (match run (ai GS cT) 50 [.code (.seq wL (.seq wK (.seq wJ (.seq wI (.seq wH (.seq ue Dl))))))] ([bV,.int .i64 0]++List.replicate 15 .undef) wZ with
  | some (.normal σ A')=>(dV A' σ [.tmp 3]).map fun l=>(dw l,A')
  | some (.ret σ A')=>(dV A' σ [.tmp 3]).map fun l=>(dw l,A')
  | _=>none)=_
 rw [ba,k1,ba,k2,ba,k3,ba,k4,ba,k5,ba,MN]
 unfold Dl
 unfold σ157 at lp
 rw [ba,gI,FU lp]
 rfl
end Sh
namespace Sh
open Go
def rN:List (FuncId × aD):=[(63,H63),(156,aG 4 Mo),(157,LD)]
@[simp] theorem L8:aH rN 63=some H63:=rfl
@[simp] theorem JW:aH rN 156=some (aG 4 Mo):=rfl
@[simp] theorem JV:aH rN 157=some LD:=rfl
theorem uD:cM Tryz.prog (ai GS rN):=ag (ae BQ (ae (ak.of_pure DM 4) (ae DL aw)))
def Lr:aI:=fun args=>evP (ai GS rN) 50 Fg 4 args
theorem D6:an Tryz.prog GS 118 Lr:=an.of_ev (E:=ai GS rN) uD rfl PK Gx 4 fun _ _ h=>⟨50,h⟩
def Lp:aI:=fun args=>evP (ai GS rN) 50 Ff 4 args
theorem D5:an Tryz.prog GS 119 Lp:=an.of_ev (E:=ai GS rN) uD rfl PJ Gw 4 fun _ _ h=>⟨50,h⟩
def wE:ac:=wB3++[.dead,.row 1 false [.int .i64 1]]
theorem Lq:Lr [bV,.int .i64 0,.int .i64 2]=some (.tup [.fs 1 [.int .i64 1],.bool true]):=by
 have fw:=BL (fun _ _ _=>none)
 have b1:aY (cellsOf bV).length bV []=some (.ptr 0 0 0,wZ):=rfl
 have b2:af true 4 wZ (.ptr 0 0 0)=some bV:=rfl
 have n1:bu 4 bV=true:=rfl
 have z1:frz wZ 4 bV=bV:=rfl
 have i1:au 1 wB3 (.sl 2 0 3) (.int .i64 2)=some (.ptr 2 2 0):=rfl
 have l1:af false 1 wB3 (.ptr 2 2 0)=some (.ptr 16 0 0):=rfl
 have a1:aa 1 wB3 (.ptr 16 0 0)=some (.ptr 16 0 1):=rfl
 have l2:af false 1 wB3 (.ptr 16 0 1)=some (.sl 11 0 1):=rfl
 have h63:H63 (fun _ _ _=>none) [.sl 11 0 1] wB3=some (.sl 25 0 1,wE):=rfl
 have ff:frz wE 4 (.tup [.sl 25 0 1,.bool true])=.tup [.fs 1 [.int .i64 1],.bool true]:=rfl
 have mt:=C6
 have ci:∀(k:IntKind) (n:Int),cellsOf (.int k n)=[.int k n]:=fun _ _=>rfl
 have z2:frz wZ 4 (.fs 1 [.int .i64 0,.int .i64 2])=.fs 1 [.int .i64 0,.int .i64 2]:=rfl
 unfold Lr
 rw [aT _ _ rfl]
 simp [Fg,fw,b1,b2,n1,z1,i1,l1,a1,l2,h63,ff,mt,ci,z2,-aY,-af,-au,-aa,-frz,-cellsOf]
theorem Lo:Lp [bV,.int .i64 0,.int .i64 2]=some (.tup [.int .i64 14,.bool true]):=by
 have fw:=BL (fun _ _ _=>none)
 have b1:aY (cellsOf bV).length bV []=some (.ptr 0 0 0,wZ):=rfl
 have b2:af true 4 wZ (.ptr 0 0 0)=some bV:=rfl
 have n1:bu 4 bV=true:=rfl
 have z1:frz wZ 4 bV=bV:=rfl
 have i1:au 1 wB3 (.sl 2 0 3) (.int .i64 2)=some (.ptr 2 2 0):=rfl
 have l1:af false 1 wB3 (.ptr 2 2 0)=some (.ptr 16 0 0):=rfl
 have a1:aa 0 wB3 (.ptr 16 0 0)=some (.ptr 16 0 0):=rfl
 have l2:af false 1 wB3 (.ptr 16 0 0)=some (.int .i64 14):=rfl
 have ff:frz wB3 4 (.tup [.int .i64 14,.bool true])=.tup [.int .i64 14,.bool true]:=rfl
 have mt:=C6
 have ci:∀(k:IntKind) (n:Int),cellsOf (.int k n)=[.int k n]:=fun _ _=>rfl
 have z2:frz wZ 4 (.fs 1 [.int .i64 0,.int .i64 2])=.fs 1 [.int .i64 0,.int .i64 2]:=rfl
 unfold Lp
 rw [aT _ _ rfl]
 simp [Ff,fw,b1,b2,n1,z1,i1,l1,a1,l2,ff,mt,ci,z2,-aY,-af,-au,-aa,-frz,-cellsOf]
def Mr:aD:=fun _=>bp (ai GS [(158,Mq)]) 50 IR
theorem D4:ak Tryz.prog GS 120 Mr:=(aM (E:=ai GS [(158,Mq)]) (ag (ae DK aw)) rfl PI Gv aW.nil).y
def sU:AV:=.agg [.int .i64 0,.int .i64 2,.int .i64 13]
def JB:List (FuncId × aD):=[(118,aG 4 Lr),(119,aG 4 Lp),(120,Mr)]
@[simp] theorem LU:aH JB 118=some (aG 4 Lr):=rfl
@[simp] theorem LT:aH JB 119=some (aG 4 Lp):=rfl
@[simp] theorem LS:aH JB 120=some Mr:=rfl
def H72:aD:=fun _=>bp (ai GS JB) 50 MQ
theorem HM:ak Tryz.prog GS 72 H72:=(aM (E:=ai GS JB) (ag (ae (ak.of_pure D6 4) (ae (ak.of_pure D5 4) (ae D4 aw)))) rfl at72 Kb aW.nil).y
end Sh
namespace Sh
open Go
def zPr:AV:=.agg [.int .i64 0,.nilS]
def wF:ac:=[.row 4 false [bV],.row 2 false [zPr],.row 3 false [sU]]
def wF1:ac:=wF++[.row 4 false [bV]]
def wF2:ac:=wF1++[.row 3 false [sU]]
def wF3:ac:=wF2++[.row 2 false [zPr]]
def wF4:ac:=wF3++[.row 1 false [.int .i64 0]]
def wF5:ac:=wF4++[.row 1 false [.int .i64 2]]
def wF6:ac:=wF5++[.row 1 false [.sl 6 0 1,.fs 1 [.int .i64 1],.sl 7 0 1]]
def wF7:ac:=wF6++[.dead,.row 1 true [.int .i64 0,.int .i64 1,.int .i64 2]]
def prT:AV:=.agg [.int .i64 3,.sl 10 0 3]
def wF8:ac:=wF7.set 5 (.row 2 false [prT])
theorem Qp (hd:aR):H72 hd [bV,sU] wF=some (.tup [prT,.bool true],wF8):=by
 have b1:aY (cellsOf bV).length bV wF=some (.ptr 3 0 0,wF1):=rfl
 have b2:aY (cellsOf sU).length sU wF1=some (.ptr 4 0 0,wF2):=rfl
 have b3:aY 2 (.agg [.int .i64 0,.nilS]) wF2=some (.ptr 5 0 0,wF3):=rfl
 have l1:af true 4 wF3 (.ptr 3 0 0)=some bV:=rfl
 have a1:aa 0 wF3 (.ptr 4 0 0)=some (.ptr 4 0 0):=rfl
 have l2:af false 1 wF3 (.ptr 4 0 0)=some (.int .i64 0):=rfl
 have a2:aa 1 wF3 (.ptr 4 0 0)=some (.ptr 4 0 1):=rfl
 have l3:af false 1 wF3 (.ptr 4 0 1)=some (.int .i64 2):=rfl
 have a3:aa 2 wF3 (.ptr 4 0 0)=some (.ptr 4 0 2):=rfl
 have l4:af false 1 wF3 (.ptr 4 0 2)=some (.int .i64 13):=rfl
 have n1:bu 4 bV=true:=rfl
 have z1:frz wF3 4 bV=bV:=rfl
 have z2:∀n:Int,frz wF3 4 (.int .i64 n)=.int .i64 n:=fun _=>rfl
 have m1:=Lq
 have m2:=Lo
 have c1:aq .lss (.int .i64 13) (.int .i64 14)=some (.bool true):=rfl
 have s1:a6 1 [.int .i64 0] wF3=some (.sl 6 0 1,wF4):=rfl
 have a4:aa 1 wF4 (.ptr 4 0 0)=some (.ptr 4 0 1):=rfl
 have l5:af false 1 wF4 (.ptr 4 0 1)=some (.int .i64 2):=rfl
 have s2:a6 1 [.int .i64 2] wF4=some (.sl 7 0 1,wF5):=rfl
 have s3:a6 1 [.sl 6 0 1,.fs 1 [.int .i64 1],.sl 7 0 1] wF5=some (.sl 8 0 3,wF6):=rfl
 have h1:Mr (fun _ _ _=>none) [.sl 8 0 3] wF6=some (.sl 10 0 3,wF7):=by kernel_rfl
 have ci:∀(k:IntKind) (n:Int),cellsOf (.int k n)=[.int k n]:=fun _ _=>rfl
 have cs:∀i o l:Nat,cellsOf (.sl i o l)=[.sl i o l]:=fun _ _ _=>rfl
 have t1:aC 2 wF7 (.ptr 5 0 0) (.agg [.int .i64 3,.sl 10 0 3])=some wF8:=rfl
 have l6:af true 2 wF8 (.ptr 5 0 0)=some prT:=rfl
 unfold H72
 rw [aX _ _ rfl]
 simp [MQ,b1,b2,b3,l1,a1,l2,a2,l3,a3,l4,n1,z1,z2,m1,m2,c1,s1,a4,l5,s2,s3,h1,t1,l6,ci,cs,-aY,-af,-aC,-aa,-aq,-a6,-frz,-cellsOf]
def qy:List (FuncId × aD):=[(71,aG 4 M71),(72,H72)]
@[simp] theorem NX:aH qy 71=some (aG 4 M71):=rfl
@[simp] theorem NW:aH qy 72=some H72:=rfl
def M26:aI:=fun args=>evF (ai GS qy) 50 rz 4 args
theorem qf:bs Tryz.prog GS 26 M26:=bs.of_ev (E:=ai GS qy) (ag (ae (ak.of_pure BP 4) (ae HM aw))) rfl KS sh 4 (fun _ _ h=>⟨50,h⟩)
def wG:ac:=[.row 4 false [bV],.row 2 false [zPr]]
def wG0:ac:=[.row 4 false [bV]]
def wG1:ac:=wG++[.row 3 false [.agg [.int .i64 0,.int .i64 0,.int .i64 0]]]
def wG2:ac:=wF8++[.row 2 false [zPr]]
def wG3:ac:=wF8++[.row 2 false [prT]]
def wG4:ac:=wG3.set 1 (.row 2 false [prT])
theorem Qn:M26 [bV]=some (.agg [.int .i64 3,.fs 1 [.int .i64 0,.int .i64 1,.int .i64 2]]):=by
 have b1:aY (cellsOf bV).length bV []=some (.ptr 0 0 0,wG0):=rfl
 have b2:aY 2 (.agg [.int .i64 0,.nilS]) wG0=some (.ptr 1 0 0,wG):=rfl
 have l1:af true 4 wG (.ptr 0 0 0)=some bV:=rfl
 have n1:bu 4 bV=true:=rfl
 have z1:frz wG 4 bV=bV:=rfl
 have m1:=Ql
 have a1:aa 3 wG (.ptr 0 0 0)=some (.ptr 0 0 3):=rfl
 have l2:af false 1 wG (.ptr 0 0 3)=some (.fs 3 [sU]):=rfl
 have e1:az (.fs 3 [sU])=some (.int .i64 1):=rfl
 have c1:aq .lss (.int .i64 0) (.int .i64 1)=some (.bool true):=rfl
 have i1:au 3 wG (.fs 3 [sU]) (.int .i64 0)=some (.fp [.int .i64 0,.int .i64 2,.int .i64 13]):=rfl
 have l3:af true 3 wG (.fp [.int .i64 0,.int .i64 2,.int .i64 13])=some sU:=rfl
 have b3:aY 3 (.agg [.int .i64 0,.int .i64 0,.int .i64 0]) wG=some (.ptr 2 0 0,wG1):=rfl
 have t1:aC 3 wG1 (.ptr 2 0 0) sU=some wF:=rfl
 have l4:af true 4 wF (.ptr 0 0 0)=some bV:=rfl
 have l5:af true 3 wF (.ptr 2 0 0)=some sU:=rfl
 have h1:=Qp (fun _ _ _=>none)
 have b4:aY 2 (.agg [.int .i64 0,.nilS]) wF8=some (.ptr 11 0 0,wG2):=rfl
 have t2:aC 2 wG2 (.ptr 11 0 0) prT=some wG3:=rfl
 have l6:af true 2 wG3 (.ptr 11 0 0)=some prT:=rfl
 have t3:aC 2 wG3 (.ptr 1 0 0) prT=some wG4:=rfl
 have l7:af true 2 wG4 (.ptr 1 0 0)=some prT:=rfl
 have ff:a5 wG4 4 prT=true:=rfl
 have fz:frz wG4 4 prT=.agg [.int .i64 3,.fs 1 [.int .i64 0,.int .i64 1,.int .i64 2]]:=rfl
 have lp:cc (evC (ai GS qy) 50 fM) eE 50 (iW (.ptr 0 0 0) (.ptr 1 0 0) (.fs 3 [sU]) (.int .i64 1) (.int .i64 0)) wG=some (.ret [.undef,.ptr 0 0 0,.ptr 1 0 0,.ptr 2 0 0,.ptr 11 0 0,.bool true,.undef,.fs 3 [sU],.int .i64 1,.int .i64 0,.bool true,.bool true] wG4):=by
  rw [aO,sk]
  simp [fM,c1,i1,l3,b3,t1,l4,l5,h1,b4,t2,l6,t3,-aY,-af,-aC,-aa,-aq,-au]
 unfold M26
 rw [eO _ _ rfl]
 simp [rz,b1,b2,l1,n1,z1,m1,a1,l2,e1,uV lp,l7,ff,fz,-aY,-af,-aC,-aa,-aq,-az,-frz,-cellsOf]
end Sh
namespace Sh
open Go
def M28:aI:=fun args=>evP (ai GS []) 50 Hi 1 args
theorem xd:an Tryz.prog GS 28 M28:=an.of_ev (E:=ai GS []) (ag aw) rfl Pb yR 1 fun _ _ h=>⟨50,h⟩
def fs6:List (FuncId × aD):=[(26,ck 8 M26),(27,ck 8 M27),(28,aG 4 M28)]
@[simp] theorem QT:aH fs6 26=some (ck 8 M26):=rfl
@[simp] theorem QS:aH fs6 27=some (ck 8 M27):=rfl
@[simp] theorem QR:aH fs6 28=some (aG 4 M28):=rfl
def M6:aI:=fun args=>evP (ai GS fs6) 50 mf6 1 args
theorem MI:an Tryz.prog GS 6 M6:=an.of_ev (E:=ai GS fs6) (ag (ae (ak.of_pureF qf 8) (ae (ak.of_pureF Dw 8) (ae (ak.of_pure xd 4) aw)))) rfl at6 OU 1 fun _ _ h=>⟨50,h⟩
def MA:MC:=.region [.f 0]
def Mz:MC:=.region [.a0,.qn (.buildSlice 3 [.tmp 0]),.ba 1,.c4 1 4,.j 4 1 2]
def My:MC:=.seq (.region [.e 2 0]) (.seq (.block 0 (.loop [0,3,4,5,6,7,8] I6)) (.kill [0,2,3,4,5,6,7,8]))
def LG:MC:=.region [.k 4 1,.E 26 0,.bi 4 2,.j 2 4 1]
def Mx:MC:=.region [.bu,.bt,.aj 0 1,.u 5 6,.j 6 5 2]
def LF:MC:=.region [.k 6 5,.dg 0,.a4 1,.E 27 2,.h 3,.n 4 0,.n 4 1,.cj 5,.I 5 7 5,.c 6 6]
def Mw:MC:=.region [.d 0 4,.b 1 0,.ao 1 3,.h 2,.s 1 4 3,.p 1 4 3,.b0 3,.af 28 5 6 3,.i 3 7,.h 8,.x 6 9,.i 9 10,.c 0 11]
def Mv:MC:=.ret
theorem MR:mf6=⟨0,9,.seq MA (.seq Mz (.seq My (.seq LG (.seq Mx (.seq LF (.seq Mw Mv)))))),[.tmp 0]⟩:=rfl
def y0:ac:=[.row 3 false [sU],.row 4 false [.agg [.int .i64 2,.int .i64 5,.nilS,.sl 0 0 1]]]
def y1:ac:=[.row 3 false [sU],.row 4 false [.agg [.int .i64 2,.int .i64 5,.sl 6 0 3,.sl 0 0 1]],.row 1 false [.int .i64 0],.row 7 false [.agg [.int .i64 1,.sl 2 0 1,.int .i64 10,.int .i64 20,.sl 4 0 1,.int .i64 (-1),.int .i64 0]],.row 1 false [.int .i64 1],.row 7 false [.agg [.int .i64 1,.sl 2 0 1,.int .i64 10,.int .i64 20,.sl 4 0 1,.int .i64 (-1),.int .i64 0]],.row 7 true [.agg [.int .i64 1,.sl 2 0 1,.int .i64 10,.int .i64 20,.sl 4 0 1,.int .i64 (-1),.int .i64 0],.agg [.int .i64 1,.sl 7 0 1,.int .i64 10,.int .i64 20,.sl 9 0 1,.int .i64 (-1),.int .i64 0],.agg [.int .i64 1,.sl 11 0 1,.int .i64 10,.int .i64 20,.nilS,.int .i64 (-1),.int .i64 0]],.row 1 false [.int .i64 1],.row 7 false [.agg [.int .i64 1,.sl 7 0 1,.int .i64 10,.int .i64 20,.sl 9 0 1,.int .i64 (-1),.int .i64 0]],.row 1 false [.int .i64 2],.row 7 false [.agg [.int .i64 1,.sl 7 0 1,.int .i64 10,.int .i64 20,.sl 9 0 1,.int .i64 (-1),.int .i64 0]],.row 1 false [.int .i64 2],.row 7 false [.agg [.int .i64 1,.sl 11 0 1,.int .i64 10,.int .i64 20,.nilS,.int .i64 (-1),.int .i64 0]],.row 7 false [.agg [.int .i64 1,.sl 11 0 1,.int .i64 10,.int .i64 20,.nilS,.int .i64 (-1),.int .i64 0]]]
def pr6:AV:=.agg [.int .i64 3,.fs 1 [.int .i64 0,.int .i64 1,.int .i64 2]]
def y2:ac:=y1++[.row 2 false [pr6]]
def y3:ac:=y2++[.row 6 false [HG]]
def y4:ac:=y3++[.row 6 false [HG]]
def y5:ac:=y4++[.row 5 false [zSc]]
def y6:ac:=y5++[.row 1 false [.int .i64 0,.int .i64 1,.int .i64 2]]
theorem GY:M6 []=some (.bool true):=by
 have k1:∀K,run (ai GS fs6) 50 (.code MA :: K) [.undef,.undef,.undef,.undef,.undef,.undef,.undef,.undef,.undef] []=run (ai GS fs6) 50 K [.bool false,.undef,.undef,.undef,.undef,.undef,.undef,.undef,.undef] []:=fun K=>by kernel_rfl
 have k2:∀K,run (ai GS fs6) 50 (.code Mz :: K) [.bool false,.undef,.undef,.undef,.undef,.undef,.undef,.undef,.undef] []=run (ai GS fs6) 50 K [.bool false,.ptr 1 0 0,.undef,.undef,.undef,.undef,.undef,.undef,.undef] y0:=fun K=>by kernel_rfl
 have k3:∀K,run (ai GS fs6) 50 (.code My :: K) [.bool false,.ptr 1 0 0,.undef,.undef,.undef,.undef,.undef,.undef,.undef] y0=run (ai GS fs6) 50 K [.undef,.ptr 1 0 0,.undef,.undef,.undef,.undef,.undef,.undef,.undef] y1:=fun K=>by kernel_rfl
 have l1:af true 4 y1 (.ptr 1 0 0)=some (.agg [.int .i64 2,.int .i64 5,.sl 6 0 3,.sl 0 0 1]):=rfl
 have z1:frz y1 8 (.agg [.int .i64 2,.int .i64 5,.sl 6 0 3,.sl 0 0 1])=bV:=rfl
 have m1:=Qn
 have x1:aY 2 (.agg [.int .i64 0,.nilS]) y1=some (.ptr 14 0 0,y1++[.row 2 false [.agg [.int .i64 0,.nilS]]]):=rfl
 have t1:aC 2 (y1++[.row 2 false [.agg [.int .i64 0,.nilS]]]) (.ptr 14 0 0) (.agg [.int .i64 3,.fs 1 [.int .i64 0,.int .i64 1,.int .i64 2]])=some y2:=rfl
 have k4:∀K,run (ai GS fs6) 50 (.code LG :: K) [.undef,.ptr 1 0 0,.undef,.undef,.undef,.undef,.undef,.undef,.undef] y1=run (ai GS fs6) 50 K [.undef,.ptr 1 0 0,.undef,.undef,.ptr 14 0 0,.undef,.undef,.undef,.undef] y2:=fun K=>by
  simp [LG,l1,z1,m1,x1,t1,-af,-aY,-aC,-frz]
 have k5:∀K,run (ai GS fs6) 50 (.code Mx :: K) [.undef,.ptr 1 0 0,.undef,.undef,.ptr 14 0 0,.undef,.undef,.undef,.undef] y2=run (ai GS fs6) 50 K [.undef,.ptr 1 0 0,.undef,.undef,.ptr 14 0 0,.ptr 15 0 0,.undef,.undef,.undef] y3:=fun K=>by kernel_rfl
 have l2:af true 6 y3 (.ptr 15 0 0)=some (HG):=rfl
 have s1:a6 6 [HG] y3=some (.sl 16 0 1,y4):=rfl
 have fi:iQ [.int .i64 0,.int .i64 0,.int .i64 0,.nilS,.nilS] [(1,1,.int .i64 1),(2,1,.int .i64 5),(3,1,.sl 16 0 1)]=some [.int .i64 0,.int .i64 1,.int .i64 5,.sl 16 0 1,.nilS]:=rfl
 have z2:frz y4 8 (.agg [.int .i64 0,.int .i64 1,.int .i64 5,.sl 16 0 1,.nilS])=pl6:=rfl
 have m2:=Qm
 have x2:aY 5 (.agg [.nilS,.nilS,.int .i64 0,.int .i64 0,.int .i64 0]) y4=some (.ptr 17 0 0,y4++[.row 5 false [.agg [.nilS,.nilS,.int .i64 0,.int .i64 0,.int .i64 0]]]):=rfl
 have t2:aC 5 (y4++[.row 5 false [.agg [.nilS,.nilS,.int .i64 0,.int .i64 0,.int .i64 0]]]) (.ptr 17 0 0) zSc=some y5:=rfl
 have k6:∀K,run (ai GS fs6) 50 (.code LF :: K) [.undef,.ptr 1 0 0,.undef,.undef,.ptr 14 0 0,.ptr 15 0 0,.undef,.undef,.undef] y3=run (ai GS fs6) 50 K [.undef,.ptr 1 0 0,.undef,.undef,.ptr 14 0 0,.ptr 15 0 0,.bool true,.undef,.undef] y5:=fun K=>by
  simp [LF,l2,s1,fi,z2,m2,x2,t2,-af,-aY,-aC,-frz,-a6,-iQ]
 have k7:∀K,run (ai GS fs6) 50 (.code Mw :: K) [.undef,.ptr 1 0 0,.undef,.undef,.ptr 14 0 0,.ptr 15 0 0,.bool true,.undef,.undef] y5=run (ai GS fs6) 50 K [.bool true,.ptr 1 0 0,.undef,.undef,.ptr 14 0 0,.ptr 15 0 0,.bool true,.undef,.undef] y6:=fun K=>by kernel_rfl
 unfold M6
 rw [aT _ _ rfl,MR]
 show (match run (ai GS fs6) 50 [.code (.seq MA (.seq Mz (.seq My (.seq LG (.seq Mx (.seq LF (.seq Mw Mv)))))))] [.undef,.undef,.undef,.undef,.undef,.undef,.undef,.undef,.undef] [] with
  | some (.normal σ A')=>(dV A' σ [.tmp 0]).map fun l=>frz A' 1 (dw l)
  | some (.ret σ A')=>(dV A' σ [.tmp 0]).map fun l=>frz A' 1 (dw l)
  | _=>none)=_
 rw [ba,k1,ba,k2,ba,k3,ba,k4,ba,k5,ba,k6,ba,k7]
 unfold Mv
 rw [xn]
 rfl
end Sh
namespace Tr
open Go
open Cy (GC aP bj aE)
open Clu (chA)
namespace Ch
theorem six:an Tryz.prog GC 6 Sh.M6:=Sh.MI
theorem sound5:∀f M,aH (fsC Sh.M6) f=some M->ak Tryz.prog GC f M:=H9 six
theorem AJ {x:AV} {n:Nat} (h:TA Tryz.prog (n+2) 111 x):∃y:Int × Int,x=chA y/\inI y.1/\inI y.2:=by
 obtain ⟨ls,rfl,hc,hl⟩:=TA.agg (show sQ Tryz.prog 111=true by kernel_rfl) h
 simp only [TC,Tryz.underlying111] at hc
 rw [show Tryz.prog.cellsOf 3=1 by kernel_rfl] at hc
 simp only [TCa,Tryz.underlying3] at hc
 obtain ⟨_,_,rfl,⟨a,rfl,ha⟩,_,_,_,rfl,⟨b,rfl,hb⟩,_,rfl⟩:=hc
 exact ⟨(a,b),rfl,ha,hb⟩
theorem xD {raw:AV} {n:Nat} (h:TA Tryz.prog (n+3) 24 raw):∃ys:List (Int × Int),SlA 2 (ys.map chA) raw/\(∀y∈ys,inI y.1/\inI y.2):=by
 obtain ⟨es,h1,h2,h3⟩:=TA.sl Tryz.underlying24 h
 rw [show Tryz.prog.cellsOf 111=2 by kernel_rfl] at h1
 obtain ⟨ys,rfl,hy⟩:=gg (f:=chA) (p:=fun y=>inI y.1/\inI y.2) fun x hx=>AJ (n:=n) (h3 x hx)
 exact ⟨ys,h1,hy⟩
theorem wX {x:AV} {n t:Nat} (ht:t=52) (h:TA Tryz.prog (n+2) t x):∃a b c:Int,x=.agg [.int .i64 a,.int .i64 b,.int .i64 c]/\inI a/\inI b/\inI c:=by
 subst ht
 obtain ⟨ls,rfl,hc,hl⟩:=TA.agg (show sQ Tryz.prog 52=true by kernel_rfl) h
 simp only [TC,Tryz.underlying52] at hc
 rw [show Tryz.prog.cellsOf 3=1 by kernel_rfl] at hc
 simp only [TCa,Tryz.underlying3] at hc
 obtain ⟨_,_,rfl,⟨a,rfl,ha⟩,_,_,_,rfl,⟨b,rfl,hb⟩,_,_,_,rfl,⟨c,rfl,hc⟩,_,rfl⟩:=hc
 exact ⟨a,b,c,rfl,ha,hb,hc⟩
theorem ownK:ownKnob Tryz.prog.godebug=none:=by kernel_rfl
theorem grel0 {W:World} {OK:Nat->Prop}:zX GC W OK:=fun gl cs h=>by simp [GC] at h
def laidWorld (os:Os):World:=World.holding Tryz.prog os ⟨#[],#[],[]⟩
theorem ev5L (args:List AV) (h:fD Tryz.prog 8 Tryz.f5.params.toList args):∃fuel,evP (ai GC (fsC Sh.M6)) fuel mf5 3 args=some (.bool true):=by
 rw [Tryz.params5] at h
 obtain ⟨a0,r,rfl,t0,h⟩:=h.cons
 obtain ⟨a1,r,rfl,t1,h⟩:=h.cons
 obtain ⟨a2,r,rfl,t2,h⟩:=h.cons
 obtain ⟨a3,r,rfl,t3,h⟩:=h.cons
 obtain ⟨a4,r,rfl,t4,h⟩:=h.cons
 obtain rfl:=h.nil
 obtain ⟨ys,h0,k0⟩:=xD (n:=5) t0
 obtain ⟨a,b,c,rfl,ha,hb,hc⟩:=wX (n:=6) rfl t1
 obtain ⟨xs,hx,_,hxi⟩:=TA.ints Tryz.underlying40 Tryz.underlying3 (by kernel_rfl) t2
 obtain ⟨f0,rfl,hf0⟩:=TA.i64 Tryz.underlying3 t3
 obtain ⟨l0,rfl,hl0⟩:=TA.i64 Tryz.underlying3 t4
 exact ⟨300,ev5 Sh.GY h0 k0 ha hb hc hx hxi hf0 hl0⟩
end Ch
end Tr
end Go.Proofs.YtfkcoekicjjndaaGreat
