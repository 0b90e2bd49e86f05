import Derived.Test.YtkcjhljbgjpklaaUH08
set_option maxRecDepth 100000
set_option maxHeartbeats 4000000
noncomputable section
namespace Go.Proofs.Ytkcjhljbgjpklaa
namespace Tr
open Go
open Cy (GC aI bb aB cO)
open Clu (aR a0 an chA cn Chk oN aV b7 ba cf cT bn cC cF dO gv gj pC jc)
def Eo:MC:=.seq (.region [⟨none,.load true 5 (.var 6),none⟩,⟨none,.call (.fn 23) [.tmp 0],none⟩,⟨none,.mv (.tmp 1),none⟩,⟨none,.extract (.tmp 2) 0,none⟩,⟨none,.extract (.tmp 2) 1,none⟩,⟨some 11,.alloc 4 (.agg [.int .i64 0,.nilS,.nilS,.nilS]),none⟩,⟨none,.store 4 (.var 11) (.tmp 3),none⟩,⟨some 12,.mv (.tmp 4),none⟩]) (.seq (.region [⟨none,.load true 5 (.var 6),none⟩,⟨none,.mv (.var 7),none⟩,⟨none,.mv (.var 8),none⟩,⟨none,.mv (.var 9),none⟩,⟨none,.call (.fn 17) [.tmp 0,.tmp 1,.tmp 2,.tmp 3],none⟩,⟨none,.mv (.tmp 4),none⟩,⟨none,.extract (.tmp 5) 0,none⟩,⟨none,.extract (.tmp 5) 1,none⟩,⟨none,.mv (.tmp 6),none⟩,⟨some 13,.mv (.tmp 7),none⟩]) (.seq (.region [⟨none,.load true 5 (.var 6),none⟩,⟨none,.mv (.var 7),none⟩,⟨none,.mv (.var 8),none⟩,⟨none,.mv (.var 10),none⟩,⟨none,.call (.fn 14) [.tmp 0,.tmp 1,.tmp 2,.tmp 3],none⟩,⟨none,.mv (.tmp 4),none⟩,⟨none,.extract (.tmp 5) 0,none⟩,⟨none,.extract (.tmp 5) 1,none⟩,⟨some 14,.mv (.tmp 6),none⟩,⟨some 15,.mv (.tmp 7),none⟩]) (.seq (.region [⟨none,.load true 5 (.var 6),none⟩,⟨none,.mv (.var 7),none⟩,⟨none,.mv (.var 8),none⟩,⟨none,.load true 4 (.var 11),none⟩,⟨none,.call (.fn 25) [.tmp 0,.tmp 1,.tmp 2,.tmp 3],none⟩,⟨none,.mv (.tmp 4),none⟩,⟨none,.extract (.tmp 5) 0,none⟩,⟨none,.extract (.tmp 5) 1,none⟩,⟨some 16,.mv (.tmp 6),none⟩,⟨some 17,.mv (.tmp 7),none⟩]) (.seq (.region [⟨none,.mv (.var 1),none⟩,⟨none,.call (.fn 21) [.tmp 0,.cst (.int .i64 6)],none⟩,⟨none,.bin .lss (.tmp 1) (.cst (.int .i64 5)),none⟩,⟨some 18,.mv (.tmp 2),none⟩]) (.seq (.region [⟨none,.mv (.var 5),none⟩,⟨none,.mv (.tmp 0),none⟩,⟨none,.mv (.var 13),some (.tmp 1,true)⟩,⟨none,.un .not (.tmp 2),some (.tmp 1,true)⟩,⟨none,.pick (.tmp 1) (.tmp 3) (.cst (.bool false)),none⟩,⟨none,.mv (.tmp 4),none⟩,⟨none,.mv (.var 15),some (.tmp 5,true)⟩,⟨none,.un .not (.tmp 6),some (.tmp 5,true)⟩,⟨none,.pick (.tmp 5) (.tmp 7) (.cst (.bool false)),none⟩,⟨none,.mv (.tmp 8),none⟩,⟨none,.mv (.var 14),some (.tmp 9,true)⟩,⟨none,.lenSl (.tmp 10),some (.tmp 9,true)⟩,⟨none,.bin .eql (.tmp 11) (.cst (.int .i64 0)),some (.tmp 9,true)⟩,⟨none,.pick (.tmp 9) (.tmp 12) (.cst (.bool false)),none⟩,⟨none,.mv (.tmp 13),none⟩,⟨none,.mv (.var 18),some (.tmp 14,true)⟩,⟨none,.un .not (.tmp 15),some (.tmp 14,true)⟩,⟨none,.mv (.tmp 16),some (.tmp 14,true)⟩,⟨none,.mv (.var 17),some (.tmp 17,false)⟩,⟨none,.bin .eql (.tmp 18) (.cst (.int .i64 140)),some (.tmp 17,false)⟩,⟨none,.mv (.tmp 19),some (.tmp 17,false)⟩,⟨none,.mv (.var 16),some (.tmp 20,true)⟩,⟨none,.lenSl (.tmp 21),some (.tmp 20,true)⟩,⟨none,.bin .eql (.tmp 22) (.cst (.int .i64 0)),some (.tmp 20,true)⟩,⟨none,.pick (.tmp 20) (.tmp 23) (.cst (.bool false)),some (.tmp 17,false)⟩,⟨none,.pick (.tmp 17) (.cst (.bool true)) (.tmp 24),some (.tmp 14,true)⟩,⟨none,.pick (.tmp 14) (.tmp 25) (.cst (.bool false)),none⟩,⟨none,.mv (.tmp 26),none⟩,⟨none,.mv (.var 12),some (.tmp 27,true)⟩,⟨none,.bin .eql (.tmp 28) (.cst (.int .i64 0)),some (.tmp 27,true)⟩,⟨none,.mv (.tmp 29),some (.tmp 27,true)⟩,⟨none,.mv (.var 17),some (.tmp 30,false)⟩,⟨none,.bin .eql (.tmp 31) (.cst (.int .i64 140)),some (.tmp 30,false)⟩,⟨none,.pick (.tmp 30) (.cst (.bool true)) (.tmp 32),some (.tmp 27,true)⟩,⟨none,.pick (.tmp 27) (.tmp 33) (.cst (.bool false)),none⟩,⟨some 4,.mv (.tmp 34),none⟩]) .ret)))))
theorem eY:Ia=⟨3,26,.seq (.region [⟨some 3,.box (.var 0),none⟩,⟨some 4,.mv (.cst (.bool false)),none⟩]) (.seq (.region [⟨none,.call (.fn 11) [],none⟩,⟨some 5,.mv (.tmp 0),none⟩]) (.seq (.region [⟨none,.load true 6 (.var 3),none⟩,⟨none,.call (.fn 13) [.tmp 0],none⟩,⟨none,.mv (.tmp 1),none⟩,⟨none,.extract (.tmp 2) 0,none⟩,⟨none,.extract (.tmp 2) 1,none⟩,⟨none,.extract (.tmp 2) 2,none⟩,⟨some 6,.alloc 5 (.agg [.nilS,.int .i64 0,.int .i64 0,.int .i64 0,.int .i64 0]),none⟩,⟨none,.store 5 (.var 6) (.tmp 3),none⟩,⟨some 7,.mv (.tmp 4),none⟩,⟨some 8,.mv (.tmp 5),none⟩]) (.seq (.region [⟨none,.mv (.var 8),none⟩,⟨none,.bin .add (.tmp 0) (.cst (.int .i64 100)),none⟩,⟨none,.build [.int .i64 0,.int .i64 0] [(0,(1,.cst (.int .i64 0))),(1,(1,.tmp 1))],none⟩,⟨none,.buildSlice 2 [.tmp 2],none⟩,⟨some 9,.mv (.tmp 3),none⟩]) (.seq (.region [⟨some 10,.mv (.cst (.int .i64 0)),none⟩]) (.seq (.seq (.region [⟨none,.mv (.var 1),none⟩,⟨some 19,.call (.fn 21) [.tmp 0,.cst (.int .i64 6)],none⟩]) (.seq (.block 0 (.seq (.region [⟨none,.bin .eql (.var 19) (.cst (.int .i64 0)),none⟩,⟨some 21,.mv (.tmp 0),none⟩]) (.cond (.var 21) (.region [⟨none,.fieldAddr 4 (.var 6),none⟩,⟨none,.store 1 (.tmp 0) (.cst (.int .i64 2)),none⟩]) (.seq (.region [⟨none,.bin .eql (.var 19) (.cst (.int .i64 1)),none⟩,⟨some 22,.mv (.tmp 0),none⟩]) (.cond (.var 22) (.region [⟨none,.mv (.var 7),none⟩,⟨none,.buildF 1 [.cst (.int .i64 (-1))],none⟩,⟨none,.append 1 8 (.tmp 0) (.tmp 1),none⟩,⟨some 7,.mv (.tmp 2),none⟩]) (.seq (.region [⟨none,.bin .eql (.var 19) (.cst (.int .i64 2)),none⟩,⟨some 23,.mv (.tmp 0),none⟩]) (.cond (.var 23) (.region [⟨none,.mv (.var 7),none⟩,⟨none,.indexSl 1 (.tmp 0) (.cst (.int .i64 0)),none⟩,⟨none,.store 1 (.tmp 1) (.cst (.int .i64 (-2))),none⟩]) (.seq (.region [⟨none,.bin .eql (.var 19) (.cst (.int .i64 3)),none⟩,⟨some 24,.mv (.tmp 0),none⟩]) (.cond (.var 24) (.region [⟨none,.mv (.var 7),none⟩,⟨none,.indexSl 1 (.tmp 0) (.cst (.int .i64 0)),none⟩,⟨none,.store 1 (.tmp 1) (.cst (.int .i64 500001)),none⟩]) (.seq (.region [⟨none,.bin .eql (.var 19) (.cst (.int .i64 4)),none⟩,⟨some 25,.mv (.tmp 0),none⟩]) (.cond (.var 25) (.region [⟨none,.mv (.var 2),none⟩,⟨none,.call (.fn 21) [.tmp 0,.cst (.int .i64 100)],none⟩,⟨none,.bin .sub (.cst (.int .i64 (-1))) (.tmp 1),none⟩,⟨some 8,.mv (.tmp 2),none⟩]) (.seq (.seq (.region [⟨none,.mv (.var 2),none⟩,⟨none,.bin .geq (.tmp 0) (.cst (.int .i64 0)),none⟩,⟨none,.mv (.tmp 1),none⟩,⟨none,.mv (.var 2),some (.tmp 2,true)⟩,⟨none,.mv (.var 7),some (.tmp 2,true)⟩,⟨none,.lenSl (.tmp 4),some (.tmp 2,true)⟩,⟨none,.bin .leq (.tmp 3) (.tmp 5),some (.tmp 2,true)⟩,⟨some 20,.pick (.tmp 2) (.tmp 6) (.cst (.bool false)),none⟩]) (.cond (.var 20) (.region [⟨none,.mv (.var 7),none⟩,⟨none,.lenSl (.tmp 0),none⟩,⟨none,.bin .add (.tmp 1) (.cst (.int .i64 1)),none⟩,⟨some 2,.mv (.tmp 2),none⟩]) .skip)) (.seq (.region [⟨none,.mv (.var 2),none⟩,⟨some 10,.mv (.tmp 0),none⟩]) (.region [⟨none,.mv (.var 9),none⟩,⟨none,.mv (.var 2),none⟩,⟨none,.indexSl 2 (.tmp 0) (.cst (.int .i64 0)),none⟩,⟨none,.fieldAddr 0 (.tmp 2),none⟩,⟨none,.store 1 (.tmp 3) (.tmp 1),none⟩])))))))))))))) (.kill [0,2,3,4,11,12,13,14,15,16,17,18,19,20,21,22,23,24,25]))) Eo))))),[.tmp 4]⟩:=rfl
def wd:List (FuncId × aG):=(13,H13) :: (25,cq 4 EU) :: fsL
@[simp] theorem KZ:aC wd 13=some H13:=rfl
@[simp] theorem KT:aC wd 25=some (cq 4 EU):=rfl
@[simp] theorem K3:aC wd 11=some (aD 4 M11):=rfl
@[simp] theorem KY:aC wd 14=some (cq 4 EC):=rfl
@[simp] theorem KW:aC wd 17=some (aD 4 M17):=rfl
@[simp] theorem KV:aC wd 21=some (aD 4 Cy.M12):=rfl
@[simp] theorem KU:aC wd 23=some (aD 4 Clu.M22):=rfl
theorem Dp:∀f M,aC wd f=some M->aj Try.prog GC f M:=ae CV (ae (aj.of_pureF kI 4) Fw)
theorem gU {T:aR} {rd:List Int} {free:Int} (h:¬ Sit T rd free) (l:List c9):ei T rd free l=none:=by unfold ei; rw [if_neg h]
theorem eH {T:aR} {rd:List Int} {free:Int} (h:¬ Sit T rd free) (lost:Int):cM T rd free lost=none:=by unfold cM; rw [if_neg (fun k=>h k.1)]
theorem dW {T:aR} {rd:List Int} {free:Int} (h:¬ Sit T rd free) (s:cn):cB T rd free s=none:=by
 unfold cB bY
 rw [if_neg h]; rfl
theorem AZ {T:aR} {rd:List Int} {free:Int} {t:c9} (h:¬ (0<=t.1/\t.1<=rd.length)):ei T rd free [t]=none:=by
 unfold ei
 split
 ·simp only [tY,gi]
  rw [if_neg (fun k=>h k.1)]; rfl
 ·rfl
theorem wq {T:aR} {rd:List Int} {free lost:Int} (h:¬ (0<=lost/\lost<=rd.length)):cM T rd free lost=none:=by unfold cM; rw [if_neg (fun k=>h k.2)]
theorem AY {T:aR}:¬ Chk T ⟨0,[],[],[]⟩:=fun h=>by
 have:=(kW h).1
 simp at this
theorem rf (T:aR) (rd:List Int) (free:Int):cB T rd free ⟨0,[],[],[]⟩=none:=by
 unfold cB
 cases bY T rd free with
 | none=>rfl
 | some l=>
  rw [Option.bind_some]
  unfold kP
  rw [if_neg (fun h=>AY h.2.1)]; rfl
theorem pF {x:XC} {E:aa} (hE:E.length=8) {T:aR} (hTc:T.ch=x.T.ch) (lT:E[6]?=some (.row 5 false [an T x.ch])) {k:Nat} {g:Bool} {R:List Int} (hk:k=R.length) (hRl:R.length<=200) (hR:E[5]?=some (.row 1 g (ak R))) {l:List c9} (hl1:l.length=1) (hl:E[7]?=some (.row 2 false (l.map aP))) {w F lost:Int} (hw:inI w)
  (h1:ei T R F l=none) (h2:cM T R F lost=none) (h3:pick w 6<5->∀s,cB T R F s=none) :
  ∃ σ A,run (ax GC wd) 300 [.code Eo] [.undef,.int .i64 w,.undef,.undef,.undef,.bool true,.ptr 6 0 0,.sl 5 0 k,.int .i64 F,.sl 7 0 1,.int .i64 lost,.undef,.undef,.undef,.undef,.undef,.undef,.undef,.undef,.undef,.undef,.undef,.undef,.undef,.undef,.undef] E=some (.ret σ A)/\σ[4]?=some (.bool true):=by
 have hcS:SlA 2 (T.ch.map chA) x.ch:=by rw [hTc]; exact x.chS
 have hcl:T.ch.length<=200:=by rw [hTc]; exact x.chl
 have tf:∀A,frz A 4 (an T x.ch)=an T x.ch:=fun A=>aV (fun A n=>hcS.frz (A:=A) n) A 3
 have tn:bo 4 (an T x.ch)=true:=b7 (fun n=>hcS.noRef n) 3
 have mB:=Clu.zC hcS hcl
 obtain ⟨s,e,sA,hs,hsA,mB',hbest⟩:∃(s:cn) (e:Int) (sA:AV),oN s (slA 1 (ak s.order)) (slA 1 (ak s.starts)) (slA 1 (ak s.proof))/\sA=pC s/\Clu.M22 [an T x.ch]=some (.tup [sA,.int .i64 e])/\(e=0\/cB T R F s=none):=by
  cases hb:gv T with
  | none=>
   rw [hb] at mB
   exact ⟨⟨0,[],[],[]⟩,130,zSA,⟨.inl ⟨rfl,rfl⟩,.inl ⟨rfl,rfl⟩,.inl ⟨rfl,rfl⟩,by unfold inI; simp,by simp,by simp,by simp,by simp,by simp⟩,rfl,mB,.inr (rf _ _ _)⟩
  | some s=>
   rw [hb] at mB
   exact ⟨s,0,pC s,jc (gj hb),rfl,mB,.inl rfl⟩
 have sf:∀A,frz A 4 sA=sA:=fun A=>by rw [hsA]; exact xb s A 3
 have sn:bo 4 sA=true:=by rw [hsA]; exact xa s 3
 have bz:aT 4 zSA E=some (.ptr 8 0 0,E++[.row 4 false [zSA]]):=by rw [<-hE]; rfl
 have bs:az 4 (E++[.row 4 false [zSA]]) (.ptr 8 0 0) sA=some (E++[.row 4 false [sA]]):=by
  have:(E++[Ent.row 4 false [zSA]])[8]?=some (.row 4 false [zSA]):=by rw [<-hE]; simp
  have hset:(E++[Ent.row 4 false [zSA]]).set 8 (.row 4 false [sA])=E++[.row 4 false [sA]]:=by
   rw [List.set_append_right _ _ (by omega),hE]; rfl
  rw [<-hset,hsA]
  simp only [az,this]
  rcases a9 1 (ak s.order) with ⟨e1,_⟩ | e1 <;> rcases a9 1 (ak s.starts) with ⟨e2,_⟩ | e2 <;> rcases a9 1 (ak s.proof) with ⟨e3,_⟩ | e3 <;> simp only [pC,e1,e2,e3] <;> rfl
 have l6:ac true 5 E (.ptr 6 0 0)=some (an T x.ch):=by simp only [ac,lT]; rfl
 obtain ⟨D,hD⟩:∃D,D=E++[Ent.row 4 false [sA]]:=⟨_,rfl⟩
 rw [<-hD] at bs
 have hDj:∀j,j<8->D[j]?=E[j]?:=fun j hj=>by rw [hD,List.getElem?_append_left (by omega)]
 have l6d:ac true 5 D (.ptr 6 0 0)=some (an T x.ch):=by
  have:=hDj 6 (by omega)
  simp only [ac,this,lT]; rfl
 have l8d:ac true 4 D (.ptr 8 0 0)=some sA:=by
  have:D[8]?=some (.row 4 false [sA]):=by rw [hD,<-hE]; simp
  simp only [ac,this]; rw [hsA]; rfl
 have fR:frz D 4 (.sl 5 0 k)=.fs 1 (ak R):=mX (by rw [hDj 5 (by omega)]; exact hR) hk 2
 have fl:frz D 4 (.sl 7 0 1)=.fs 2 (l.map aP):=by
  have:=kg (A:=D) (i:=7) (g:=false) (l:=l) (by rw [hDj 7 (by omega)]; exact hl)
  rw [hl1] at this
  exact this
 have hRS:SlA 1 (ak R) (.fs 1 (ak R)):=.inr rfl
 have m17:=qi hcS hcl hRS hRl F (l:=l) (lv:=.fs 2 (l.map aP)) (.inr rfl) (by omega)
 rw [h1] at m17
 have m17':M17 [an T x.ch,.fs 1 (ak R),.int .i64 F,.fs 2 (l.map aP)]=some (.tup [.int .i64 0,.bool false]):=m17
 obtain ⟨dv,m14,rd⟩:=EB (free:=F) (lost:=lost) hcS hRS hcl hRl
 rw [h2] at m14 rd
 have m14':EC [an T x.ch,.fs 1 (ak R),.int .i64 F,.int .i64 lost]=some (.tup [dv,.bool false]):=m14
 have ld:aq dv=some (.int .i64 0):=rd.len
 obtain ⟨wv,m25,rw25⟩:=EA (free:=F) hcS hcl hRS hRl hs
 have m25':EU [an T x.ch,.fs 1 (ak R),.int .i64 F,sA]=some (.tup [wv,.int .i64 (Eh (cB T R F s))]):=by rw [hsA]; exact m25
 have lw:=rw25.len
 rw [List.length_map] at lw
 have m12:=cO hw (n:=6) (by omega)
 have b5:=cC (pick w 6) 5
 have b0:=bn 0 0
 rw [decide_eq_true rfl] at b0
 have be:=bn e 0
 have bf:=bn (Eh (cB T R F s)) 140
 clear mB m17 m14 m25 rd rw25 hs hsA hR hl lT hDj hD hRS hcS
 generalize errT_eq:Eh (cB T R F s)=ef at *
 have hnone:cB T R F s=none->ef=140:=fun h=>by rw [<-errT_eq,h]; rfl
 have hln:cB T R F s=none->((cB T R F s).getD []).length=0:=fun h=>by rw [h]; rfl
 generalize hLN:((cB T R F s).getD []).length=LN at *
 have bl:=bn (LN:Int) 0
 generalize E++[Ent.row 4 false [zSA]]=D0 at *
 generalize AV.fs 1 (ak R)=FR at *
 generalize AV.fs 2 (l.map aP)=FL at *
 generalize an T x.ch=TV at *
 generalize pick w 6=pw at *
 by_cases hp:pw<5
 ·have hsw:=h3 hp s
  have h140:=hnone hsw
  have hl0:=hln hsw
  rw [decide_eq_true hp] at b5
  rw [decide_eq_true h140] at bf
  rw [decide_eq_true (by omega)] at bl
  clear hbest h3 hnone hln errT_eq hLN
  by_cases he:e=0
  ·rw [decide_eq_true he] at be
   exact ⟨_,_,by simp [Eo,l6,tf,tn,mB',bz,bs,l6d,l8d,fR,fl,m17',m14',ld,m25',lw,m12,b5,b0,be,bf,bl,sf,aI,-aT,-az,-ac,-frz,-cellsOf,-aq,-ag]; exact ⟨rfl,rfl⟩,rfl⟩
  ·rw [decide_eq_false he] at be
   exact ⟨_,_,by simp [Eo,l6,tf,tn,mB',bz,bs,l6d,l8d,fR,fl,m17',m14',ld,m25',lw,m12,b5,b0,be,bf,bl,sf,aI,-aT,-az,-ac,-frz,-cellsOf,-aq,-ag]; exact ⟨rfl,rfl⟩,rfl⟩
 ·rw [decide_eq_false hp] at b5
  clear h3
  by_cases he:e=0
  ·rw [decide_eq_true he] at be
   clear hbest hnone hln errT_eq hLN
   exact ⟨_,_,by simp [Eo,l6,tf,tn,mB',bz,bs,l6d,l8d,fR,fl,m17',m14',ld,m25',m12,b5,b0,be,sf,aI,-aT,-az,-ac,-frz,-cellsOf,-aq,-ag]; exact ⟨rfl,rfl⟩,rfl⟩
  ·rw [decide_eq_false he] at be
   have h140:=hnone (hbest.resolve_left he)
   rw [decide_eq_true h140] at bf
   clear hbest hnone hln errT_eq hLN
   exact ⟨_,_,by simp [Eo,l6,tf,tn,mB',bz,bs,l6d,l8d,fR,fl,m17',m14',ld,m25',m12,b5,b0,be,bf,sf,aI,-aT,-az,-ac,-frz,-cellsOf,-aq,-ag]; exact ⟨rfl,rfl⟩,rfl⟩
section
variable {x:XC} {yv rv:AV}
def E10 (x:XC) (yv rv:AV):aa:=Q13 x yv rv++[.row 5 false [x.tv]]++[.row 2 false [aP (0,x.F+100)]]
theorem eI:(E10 x yv rv).length=8:=rfl
theorem sL:(E10 x yv rv)[5]?=some (.row 1 false (ak x.R)):=rfl
theorem uf:(E10 x yv rv)[6]?=some (.row 5 false [an x.T x.ch]):=rfl
theorem sK:(E10 x yv rv)[7]?=some (.row 2 false ([((0:Int),x.F+100)].map aP)):=rfl
abbrev G10 (x:XC) (yv rv:AV) (w z:Int):Prop:=evP (ax GC wd) 300 Ia 1 [x.A yv rv,.int .i64 w,.int .i64 z]=some (.bool true)
abbrev σ10 (w:Int) (k:Nat) (F lost:Int):List AV:=[.undef,.int .i64 w,.undef,.undef,.undef,.bool true,.ptr 6 0 0,.sl 5 0 k,.int .i64 F,.sl 7 0 1,.int .i64 lost,.undef,.undef,.undef,.undef,.undef,.undef,.undef,.undef,.undef,.undef,.undef,.undef,.undef,.undef,.undef]
structure S10 (x:XC) (yv rv:AV):Prop where
 a:aT 6 (x.A yv rv) []=some (.ptr 0 0 0,[.row 6 false [x.A yv rv]])
 b:ac true 6 [.row 6 false [x.A yv rv]] (.ptr 0 0 0)=some (x.A yv rv)
 c:∀hh,H13 hh [x.A yv rv] [.row 6 false [x.A yv rv]]=some (.tup [x.tv,.sl 5 0 x.n,.int .i64 x.F],Q13 x yv rv)
 d:aT 5 zT (Q13 x yv rv)=some (.ptr 6 0 0,Q13 x yv rv++[.row 5 false [zT]])
 e:az 5 (Q13 x yv rv++[.row 5 false [zT]]) (.ptr 6 0 0) x.tv=some (Q13 x yv rv++[.row 5 false [x.tv]])
 f:ag .add (.int .i64 x.F) (.int .i64 100)=some (.int .i64 (x.F+100))
 g:bk 2 [.agg [.int .i64 0,.int .i64 (x.F+100)]] (Q13 x yv rv++[.row 5 false [x.tv]])=some (.sl 7 0 1,E10 x yv rv)
 h:(cellsOf (x.A yv rv)).length=6
 i:∀z:Int,cellsOf (.int .i64 z)=[.int .i64 z]
theorem s10 (h:XV x yv rv):S10 x yv rv:=by
 have hF:=de x.free 60 (by omega)
 refine ⟨Hp,Ew _,fun _=>HY h,rfl,?_,ba (by unfold XC.F; omega),?_,rfl,fun _=>rfl⟩
 ·have et:x.tv=.agg [x.ch,.int .i64 x.T.pick,.int .i64 x.T.place,.int .i64 x.T.travel,.int .i64 1]:=by
   have:=(rE x.ys x.a x.b x.c).2
   show AV.agg [x.ch,_,_,_,.int .i64 x.T.blades]=_
   rw [show x.T.blades=1 from this]
  rw [et]; rfl
 ·simp [bk,E10,Q13,aP]
theorem GH (h:XV x yv rv) {w:Int} (hw:inI w) (z:Int) (hp:pick w 6=0):G10 x yv rv w z:=by
 have q:=s10 h
 obtain ⟨s0,s1,s2,s3,s4,s5,s6,s7,s8⟩:=q
 have m12:=cO hw (n:=6) (by omega)
 rw [hp] at m12
 obtain ⟨T2,hT2⟩:∃T2:aR,T2={x.T with blades:=2}:=⟨_,rfl⟩
 have hns:¬ Sit T2 x.R x.F:=fun k=>by have:=k.1.2; rw [hT2] at this; cases this
 obtain ⟨E2,hE2⟩:∃E2,E2=(E10 x yv rv).set 6 (.row 5 false [an T2 x.ch]):=⟨_,rfl⟩
 have fa:ab 4 (E10 x yv rv) (.ptr 6 0 0)=some (.ptr 6 0 4):=by simp [ab,uf]
 have st:az 1 (E10 x yv rv) (.ptr 6 0 4) (.int .i64 2)=some E2:=by
  rw [hE2,hT2]
  simp only [az,uf]
  rfl
 have e5:E2[5]?=some (.row 1 false (ak x.R)):=by rw [hE2,List.getElem?_set_ne (by omega)]; exact sL
 have e6:E2[6]?=some (.row 5 false [an T2 x.ch]):=by rw [hE2,List.getElem?_set_self (by rw [eI]; omega)]
 have e7:E2[7]?=some (.row 2 false ([((0:Int),x.F+100)].map aP)):=by rw [hE2,List.getElem?_set_ne (by omega)]; exact sK
 obtain ⟨σ,A,r1,r2⟩:=pF (x:=x) (E:=E2) (by rw [hE2,List.length_set,eI]) (T:=T2) (by rw [hT2]) e6 (k:=x.n) (R:=x.R) (by rw [XC.R,je]) x.Rl e5 (l:=[((0:Int),x.F+100)]) rfl e7 (F:=x.F) (lost:=0) hw (gU hns _) (eH hns _) (fun _=>dW hns)
 clear hT2 hE2 e5 e6 e7 hns
 unfold G10
 generalize x.F+100=F100 at *
 generalize E10 x yv rv=E1 at *
 generalize Q13 x yv rv++[Ent.row 5 false [x.tv]]=Q2 at *
 generalize Q13 x yv rv++[Ent.row 5 false [zT]]=Q1 at *
 generalize Q13 x yv rv=Q0 at *
 generalize [Ent.row 6 false [x.A yv rv]]=A0 at *
 generalize x.F=FV at *
 generalize x.tv=TV at *
 generalize x.A yv rv=XA at *
 rw [aJ _ _ rfl]
 simp [eY,s0,s1,s2,s3,s4,s5,s6,s7,s8,m12,bn,fa,st,r1,r2,aI,bb,-aT,-az,-ac,-ab,-ai,-frz,-cellsOf,-aq,-ag,-bk]
theorem GG (h:XV x yv rv) {w:Int} (hw:inI w) (z:Int) (hp:pick w 6=1):G10 x yv rv w z:=by
 have q:=s10 h
 obtain ⟨s0,s1,s2,s3,s4,s5,s6,s7,s8⟩:=q
 have m12:=cO hw (n:=6) (by omega)
 rw [hp] at m12
 have hRn:x.R.length=x.n:=by rw [XC.R,je]
 have hns:¬ Sit x.T (x.R++[-1]) x.F:=fun k=>by have:=k.2.1; rw [List.length_append,hRn] at this; unfold XC.n at this; simp at this
 have hnb:=x.nb
 obtain ⟨E2,hE2⟩:∃E2,E2=(E10 x yv rv).set 5 (.row 1 true (ak (x.R++[-1]))):=⟨_,rfl⟩
 have bf:bg 1 [.int .i64 (-1)]=some (.fs 1 [.int .i64 (-1)]):=rfl
 have ap:aM 1 8 (E10 x yv rv) (.sl 5 0 x.n) (.fs 1 [.int .i64 (-1)])=some (.sl 5 0 (x.n+1),E2):=by
  simp only [aM,cU,sL,List.length_singleton]
  rw [if_pos ⟨trivial,by omega,by omega,by omega⟩,if_pos ⟨trivial,by rw [aB,hRn],by omega⟩,hE2]
  unfold ak
  rw [List.map_append]; rfl
 have e5:E2[5]?=some (.row 1 true (ak (x.R++[-1]))):=by rw [hE2,List.getElem?_set_self (by rw [eI]; omega)]
 have e6:E2[6]?=some (.row 5 false [an x.T x.ch]):=by rw [hE2,List.getElem?_set_ne (by omega)]; exact uf
 have e7:E2[7]?=some (.row 2 false ([((0:Int),x.F+100)].map aP)):=by rw [hE2,List.getElem?_set_ne (by omega)]; exact sK
 obtain ⟨σ,A,r1,r2⟩:=pF (x:=x) (E:=E2) (by rw [hE2,List.length_set,eI]) (T:=x.T) rfl e6 (k:=x.n+1) (R:=x.R++[-1]) (by rw [List.length_append,hRn]; rfl) (by rw [List.length_append,hRn]; simp; omega) e5 (l:=[((0:Int),x.F+100)]) rfl e7 (F:=x.F) (lost:=0) hw (gU hns _) (eH hns _) (fun _=>dW hns)
 clear hE2 e5 e6 e7 hns hRn hnb
 unfold G10
 generalize x.F+100=F100 at *
 generalize E10 x yv rv=E1 at *
 generalize Q13 x yv rv++[Ent.row 5 false [x.tv]]=Q2 at *
 generalize Q13 x yv rv++[Ent.row 5 false [zT]]=Q1 at *
 generalize Q13 x yv rv=Q0 at *
 generalize [Ent.row 6 false [x.A yv rv]]=A0 at *
 generalize x.n=nn at *
 generalize x.F=FV at *
 generalize x.tv=TV at *
 generalize x.A yv rv=XA at *
 rw [aJ _ _ rfl]
 simp [eY,s0,s1,s2,s3,s4,s5,s6,s7,s8,m12,bn,bf,ap,r1,r2,-bg,aI,bb,-aT,-az,-ac,-ab,-ai,-frz,-cellsOf,-aq,-ag,-bk]
theorem GF (h:XV x yv rv) {w:Int} (hw:inI w) (z:Int) (hp:pick w 6=2):G10 x yv rv w z:=by
 have q:=s10 h
 obtain ⟨s0,s1,s2,s3,s4,s5,s6,s7,s8⟩:=q
 have m12:=cO hw (n:=6) (by omega)
 rw [hp] at m12
 have hRn:x.R.length=x.n:=by rw [XC.R,je]
 have hnb:=x.nb
 have h0:0<x.R.length:=by omega
 have hns:¬ Sit x.T (x.R.set 0 (-2)) x.F:=fun k=>by
  have:=k.2.2.2 (-2) (List.mem_of_getElem? (i:=0) (by rw [List.getElem?_set_self h0]))
  omega
 obtain ⟨E2,hE2⟩:∃E2,E2=(E10 x yv rv).set 5 (.row 1 false (ak (x.R.set 0 (-2)))):=⟨_,rfl⟩
 have ix:ai 1 (E10 x yv rv) (.sl 5 0 x.n) (.int .i64 0)=some (.ptr 5 0 0):=dD (n:=x.n) sL (k:=0) (by omega) .i64
 have st:az 1 (E10 x yv rv) (.ptr 5 0 0) (.int .i64 (-2))=some E2:=by rw [iI sL h0,hE2]
 have e5:E2[5]?=some (.row 1 false (ak (x.R.set 0 (-2)))):=by rw [hE2,List.getElem?_set_self (by rw [eI]; omega)]
 have e6:E2[6]?=some (.row 5 false [an x.T x.ch]):=by rw [hE2,List.getElem?_set_ne (by omega)]; exact uf
 have e7:E2[7]?=some (.row 2 false ([((0:Int),x.F+100)].map aP)):=by rw [hE2,List.getElem?_set_ne (by omega)]; exact sK
 obtain ⟨σ,A,r1,r2⟩:=pF (x:=x) (E:=E2) (by rw [hE2,List.length_set,eI]) (T:=x.T) rfl e6 (k:=x.n) (R:=x.R.set 0 (-2)) (by rw [List.length_set,hRn]) (by rw [List.length_set,hRn]; omega) e5 (l:=[((0:Int),x.F+100)]) rfl e7 (F:=x.F) (lost:=0) hw (gU hns _) (eH hns _) (fun _=>dW hns)
 clear hE2 e5 e6 e7 hns hRn hnb h0
 unfold G10
 generalize x.F+100=F100 at *
 generalize E10 x yv rv=E1 at *
 generalize Q13 x yv rv++[Ent.row 5 false [x.tv]]=Q2 at *
 generalize Q13 x yv rv++[Ent.row 5 false [zT]]=Q1 at *
 generalize Q13 x yv rv=Q0 at *
 generalize [Ent.row 6 false [x.A yv rv]]=A0 at *
 generalize x.n=nn at *
 generalize x.F=FV at *
 generalize x.tv=TV at *
 generalize x.A yv rv=XA at *
 rw [aJ _ _ rfl]
 simp [eY,s0,s1,s2,s3,s4,s5,s6,s7,s8,m12,bn,ix,st,r1,r2,aI,bb,-aT,-az,-ac,-ab,-ai,-frz,-cellsOf,-aq,-ag,-bk]
theorem GE (h:XV x yv rv) {w:Int} (hw:inI w) (z:Int) (hp:pick w 6=3):G10 x yv rv w z:=by
 have q:=s10 h
 obtain ⟨s0,s1,s2,s3,s4,s5,s6,s7,s8⟩:=q
 have m12:=cO hw (n:=6) (by omega)
 rw [hp] at m12
 have hRn:x.R.length=x.n:=by rw [XC.R,je]
 have hnb:=x.nb
 have h0:0<x.R.length:=by omega
 have hns:¬ Sit x.T (x.R.set 0 500001) x.F:=fun k=>by
  have:=k.2.2.2 500001 (List.mem_of_getElem? (i:=0) (by rw [List.getElem?_set_self h0]))
  omega
 obtain ⟨E2,hE2⟩:∃E2,E2=(E10 x yv rv).set 5 (.row 1 false (ak (x.R.set 0 500001))):=⟨_,rfl⟩
 have ix:ai 1 (E10 x yv rv) (.sl 5 0 x.n) (.int .i64 0)=some (.ptr 5 0 0):=dD (n:=x.n) sL (k:=0) (by omega) .i64
 have st:az 1 (E10 x yv rv) (.ptr 5 0 0) (.int .i64 500001)=some E2:=by rw [iI sL h0,hE2]
 have e5:E2[5]?=some (.row 1 false (ak (x.R.set 0 500001))):=by rw [hE2,List.getElem?_set_self (by rw [eI]; omega)]
 have e6:E2[6]?=some (.row 5 false [an x.T x.ch]):=by rw [hE2,List.getElem?_set_ne (by omega)]; exact uf
 have e7:E2[7]?=some (.row 2 false ([((0:Int),x.F+100)].map aP)):=by rw [hE2,List.getElem?_set_ne (by omega)]; exact sK
 obtain ⟨σ,A,r1,r2⟩:=pF (x:=x) (E:=E2) (by rw [hE2,List.length_set,eI]) (T:=x.T) rfl e6 (k:=x.n) (R:=x.R.set 0 500001) (by rw [List.length_set,hRn]) (by rw [List.length_set,hRn]; omega) e5 (l:=[((0:Int),x.F+100)]) rfl e7 (F:=x.F) (lost:=0) hw (gU hns _) (eH hns _) (fun _=>dW hns)
 clear hE2 e5 e6 e7 hns hRn hnb h0
 unfold G10
 generalize x.F+100=F100 at *
 generalize E10 x yv rv=E1 at *
 generalize Q13 x yv rv++[Ent.row 5 false [x.tv]]=Q2 at *
 generalize Q13 x yv rv++[Ent.row 5 false [zT]]=Q1 at *
 generalize Q13 x yv rv=Q0 at *
 generalize [Ent.row 6 false [x.A yv rv]]=A0 at *
 generalize x.n=nn at *
 generalize x.F=FV at *
 generalize x.tv=TV at *
 generalize x.A yv rv=XA at *
 rw [aJ _ _ rfl]
 simp [eY,s0,s1,s2,s3,s4,s5,s6,s7,s8,m12,bn,ix,st,r1,r2,aI,bb,-aT,-az,-ac,-ab,-ai,-frz,-cellsOf,-aq,-ag,-bk]
theorem GD (h:XV x yv rv) {w:Int} (hw:inI w) {z:Int} (hz:inI z) (hp:pick w 6=4):G10 x yv rv w z:=by
 have q:=s10 h
 obtain ⟨s0,s1,s2,s3,s4,s5,s6,s7,s8⟩:=q
 have m12:=cO hw (n:=6) (by omega)
 rw [hp] at m12
 have hRn:x.R.length=x.n:=by rw [XC.R,je]
 have m100:=cO hz (n:=100) (by omega)
 have hz2:=de z 100 (by omega)
 have bs:ag .sub (.int .i64 (-1)) (.int .i64 (pick z 100))=some (.int .i64 (-1-pick z 100)):=cf (by omega)
 have hns:¬ Sit x.T x.R (-1-pick z 100):=fun k=>by have:=k.2.2.1; omega
 obtain ⟨σ,A,r1,r2⟩:=pF (x:=x) (E:=E10 x yv rv) eI (T:=x.T) rfl uf (k:=x.n) (R:=x.R) hRn.symm x.Rl sL (l:=[((0:Int),x.F+100)]) rfl sK (F:=-1-pick z 100) (lost:=0) hw (gU hns _) (eH hns _) (fun _=>dW hns)
 clear hns hRn hz2
 generalize -1-pick z 100=F2 at *
 generalize pick z 100=pz at *
 unfold G10
 generalize x.F+100=F100 at *
 generalize E10 x yv rv=E1 at *
 generalize Q13 x yv rv++[Ent.row 5 false [x.tv]]=Q2 at *
 generalize Q13 x yv rv++[Ent.row 5 false [zT]]=Q1 at *
 generalize Q13 x yv rv=Q0 at *
 generalize [Ent.row 6 false [x.A yv rv]]=A0 at *
 generalize x.n=nn at *
 generalize x.F=FV at *
 generalize x.tv=TV at *
 generalize x.A yv rv=XA at *
 rw [aJ _ _ rfl]
 simp [eY,s0,s1,s2,s3,s4,s5,s6,s7,s8,m12,bn,m100,bs,r1,r2,aI,bb,-aT,-az,-ac,-ab,-ai,-frz,-cellsOf,-aq,-ag,-bk]
theorem GB (h:XV x yv rv) {w:Int} (hw:inI w) {z:Int} (_hz:inI z) (hp:pick w 6=5):G10 x yv rv w z:=by
 have q:=s10 h
 obtain ⟨s0,s1,s2,s3,s4,s5,s6,s7,s8⟩:=q
 have m12:=cO hw (n:=6) (by omega)
 rw [hp] at m12
 have hRn:x.R.length=x.n:=by rw [XC.R,je]
 have hnb:=x.nb
 have go:∀z':Int,¬ (0<=z'/\z'<=x.R.length)->∃E2 σ A,az 1 (E10 x yv rv) (.ptr 7 0 0) (.int .i64 z')=some E2/\run (ax GC wd) 300 [.code Eo] (σ10 w x.n x.F z') E2=some (.ret σ A)/\σ[4]?=some (.bool true):=fun z' hz'=>by
  obtain ⟨E2,hE2⟩:∃E2,E2=(E10 x yv rv).set 7 (.row 2 false ([(z',x.F+100)].map aP)):=⟨_,rfl⟩
  have st:az 1 (E10 x yv rv) (.ptr 7 0 0) (.int .i64 z')=some E2:=by
   rw [hE2]
   simp only [az,sK]
   rfl
  have e5:E2[5]?=some (.row 1 false (ak x.R)):=by rw [hE2,List.getElem?_set_ne (by omega)]; exact sL
  have e6:E2[6]?=some (.row 5 false [an x.T x.ch]):=by rw [hE2,List.getElem?_set_ne (by omega)]; exact uf
  have e7:E2[7]?=some (.row 2 false ([(z',x.F+100)].map aP)):=by rw [hE2,List.getElem?_set_self (by rw [eI]; omega)]
  obtain ⟨σ,A,r1,r2⟩:=pF (x:=x) (E:=E2) (by rw [hE2,List.length_set,eI]) (T:=x.T) rfl e6 (k:=x.n) (R:=x.R) hRn.symm x.Rl e5 (l:=[(z',x.F+100)]) rfl e7 (F:=x.F) (lost:=z') hw (AZ hz') (wq hz') (fun k=>by rw [hp] at k; omega)
  exact ⟨E2,σ,A,st,r1,r2⟩
 have lnI:aq (.sl 5 0 x.n)=some (.int .i64 (x.n:Int)):=rfl
 have b1:ag .geq (.int .i64 z) (.int .i64 0)=some (.bool (decide (0<=z))):=by simp [ag]
 have b2:=dO z (x.n:Int)
 have b3:=bc x.n (by omega)
 have ix:ai 2 (E10 x yv rv) (.sl 7 0 1) (.int .i64 0)=some (.ptr 7 0 0):=IZ (n:=1) sK (k:=0) (by omega)
 have fa:ab 0 (E10 x yv rv) (.ptr 7 0 0)=some (.ptr 7 0 0):=by simp [ab,sK]
 by_cases hz0:0<=z
 ·rw [decide_eq_true hz0] at b1
  by_cases hzn:z<=x.n
  ·rw [decide_eq_true hzn] at b2
   obtain ⟨E2,σ,A,st,r1,r2⟩:=go ((x.n+1:Nat):Int) (by omega)
   clear go hRn hnb hz0 hzn
   generalize ((x.n+1:Nat):Int)=N1 at *
   unfold G10
   generalize x.F+100=F100 at *
   generalize E10 x yv rv=E1 at *
   generalize Q13 x yv rv++[Ent.row 5 false [x.tv]]=Q2 at *
   generalize Q13 x yv rv++[Ent.row 5 false [zT]]=Q1 at *
   generalize Q13 x yv rv=Q0 at *
   generalize [Ent.row 6 false [x.A yv rv]]=A0 at *
   generalize (x.n:Int)=nI at *
   generalize x.n=nn at *
   generalize x.F=FV at *
   generalize x.tv=TV at *
   generalize x.A yv rv=XA at *
   rw [aJ _ _ rfl]
   simp [eY,s0,s1,s2,s3,s4,s5,s6,s7,s8,m12,bn,lnI,b1,b2,b3,ix,fa,st,r1,r2,aI,bb,-aT,-az,-ac,-ab,-ai,-frz,-cellsOf,-aq,-ag,-bk]
  ·rw [decide_eq_false hzn] at b2
   obtain ⟨E2,σ,A,st,r1,r2⟩:=go z (by omega)
   clear go hRn hnb hz0 hzn b3
   unfold G10
   generalize x.F+100=F100 at *
   generalize E10 x yv rv=E1 at *
   generalize Q13 x yv rv++[Ent.row 5 false [x.tv]]=Q2 at *
   generalize Q13 x yv rv++[Ent.row 5 false [zT]]=Q1 at *
   generalize Q13 x yv rv=Q0 at *
   generalize [Ent.row 6 false [x.A yv rv]]=A0 at *
   generalize (x.n:Int)=nI at *
   generalize x.n=nn at *
   generalize x.F=FV at *
   generalize x.tv=TV at *
   generalize x.A yv rv=XA at *
   rw [aJ _ _ rfl]
   simp [eY,s0,s1,s2,s3,s4,s5,s6,s7,s8,m12,bn,lnI,b1,b2,ix,fa,st,r1,r2,aI,bb,-aT,-az,-ac,-ab,-ai,-frz,-cellsOf,-aq,-ag,-bk]
 ·rw [decide_eq_false hz0] at b1
  obtain ⟨E2,σ,A,st,r1,r2⟩:=go z (by omega)
  clear go hRn hnb hz0 b2 b3
  unfold G10
  generalize x.F+100=F100 at *
  generalize E10 x yv rv=E1 at *
  generalize Q13 x yv rv++[Ent.row 5 false [x.tv]]=Q2 at *
  generalize Q13 x yv rv++[Ent.row 5 false [zT]]=Q1 at *
  generalize Q13 x yv rv=Q0 at *
  generalize [Ent.row 6 false [x.A yv rv]]=A0 at *
  generalize (x.n:Int)=nI at *
  generalize x.n=nn at *
  generalize x.F=FV at *
  generalize x.tv=TV at *
  generalize x.A yv rv=XA at *
  rw [aJ _ _ rfl]
  simp [eY,s0,s1,s2,s3,s4,s5,s6,s7,s8,m12,bn,b1,ix,fa,st,r1,r2,aI,bb,-aT,-az,-ac,-ab,-ai,-frz,-cellsOf,-aq,-ag,-bk]
theorem ev10 (h:XV x yv rv) {w:Int} (hw:inI w) {z:Int} (hz:inI z):G10 x yv rv w z:=by
 have hp:=de w 6 (by omega)
 have:pick w 6=0\/pick w 6=1\/pick w 6=2\/pick w 6=3\/pick w 6=4\/pick w 6=5:=by omega
 rcases this with k | k | k | k | k | k
 ·exact GH h hw z k
 ·exact GG h hw z k
 ·exact GF h hw z k
 ·exact GE h hw z k
 ·exact GD h hw hz k
 ·exact GB h hw hz k
end
theorem K5 (args:List AV) (h:fC Try.prog 8 Try.f10.params.toList args):∃fuel,evP (ax GC wd) fuel Ia 1 args=some (.bool true):=by
 rw [Try.params10] at h
 obtain ⟨a,r,rfl,h0,h⟩:=h.cons
 obtain ⟨b,r,rfl,h1,h⟩:=h.cons
 obtain ⟨c,r,rfl,h2,h⟩:=h.cons
 obtain rfl:=h.nil
 obtain ⟨x,yv,rv,rfl,hx⟩:=A4 (n:=3) h0
 obtain ⟨z,rfl,hz⟩:=TA.int Try.underlying3 h1
 obtain ⟨z2,rfl,hz2⟩:=TA.int Try.underlying3 h2
 exact ⟨300,ev10 hx hz hz2⟩
end Tr
end Go.Proofs.Ytkcjhljbgjpklaa
