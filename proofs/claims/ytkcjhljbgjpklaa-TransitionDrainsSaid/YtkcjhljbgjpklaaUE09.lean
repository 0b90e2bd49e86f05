import Derived.Test.YtkcjhljbgjpklaaUE08
import Derived.Test.YtkcjhljbgjpklaaChecked
import Derived.KernelRfl
set_option maxRecDepth 100000
set_option maxHeartbeats 4000000
noncomputable section
namespace Go.Proofs.Ytkcjhljbgjpklaa
namespace Tr
open Go
def mf4:cu:=⟨2,17,.seq (.region [⟨some 2,.box (.var 0),none⟩,⟨some 3,.mv (.cst (.bool false)),none⟩]) (.seq (.region [⟨none,.call (.fn 11) [],none⟩,⟨some 4,.mv (.tmp 0),none⟩]) (.seq (.region [⟨none,.load true 6 (.var 2),none⟩,⟨none,.call (.fn 13) [.tmp 0],none⟩,⟨none,.mv (.tmp 1),none⟩,⟨none,.extract (.tmp 2) 0,none⟩,⟨none,.extract (.tmp 2) 1,none⟩,⟨none,.extract (.tmp 2) 2,none⟩,⟨some 5,.alloc 5 (.agg [.nilS,.int .i64 0,.int .i64 0,.int .i64 0,.int .i64 0]),none⟩,⟨none,.store 5 (.var 5) (.tmp 3),none⟩,⟨some 6,.mv (.tmp 4),none⟩,⟨some 7,.mv (.tmp 5),none⟩]) (.seq (.region [⟨none,.load true 5 (.var 5),none⟩,⟨none,.mv (.var 6),none⟩,⟨none,.mv (.var 7),none⟩,⟨none,.call (.fn 14) [.tmp 0,.tmp 1,.tmp 2,.cst (.int .i64 0)],none⟩,⟨none,.mv (.tmp 3),none⟩,⟨none,.extract (.tmp 4) 0,none⟩,⟨none,.extract (.tmp 4) 1,none⟩,⟨some 8,.mv (.tmp 5),none⟩,⟨some 9,.mv (.tmp 6),none⟩]) (.seq (.region [⟨none,.load true 5 (.var 5),none⟩,⟨none,.mv (.var 6),none⟩,⟨none,.mv (.var 7),none⟩,⟨none,.mv (.var 8),none⟩,⟨none,.call (.fn 17) [.tmp 0,.tmp 1,.tmp 2,.tmp 3],none⟩,⟨none,.mv (.tmp 4),none⟩,⟨none,.extract (.tmp 5) 0,none⟩,⟨none,.extract (.tmp 5) 1,none⟩,⟨some 10,.mv (.tmp 6),none⟩,⟨some 11,.mv (.tmp 7),none⟩]) (.seq (.seq (.region [⟨none,.mv (.var 9),none⟩,⟨none,.mv (.tmp 0),none⟩,⟨none,.mv (.var 11),some (.tmp 1,true)⟩,⟨none,.un .not (.tmp 2),some (.tmp 1,true)⟩,⟨none,.mv (.tmp 3),some (.tmp 1,true)⟩,⟨none,.load true 5 (.var 5),some (.tmp 4,false)⟩,⟨none,.mv (.var 6),some (.tmp 4,false)⟩,⟨none,.mv (.var 8),some (.tmp 4,false)⟩,⟨none,.call (.fn 19) [.tmp 5,.tmp 6,.tmp 7],some (.tmp 4,false)⟩,⟨none,.un .not (.tmp 8),some (.tmp 4,false)⟩,⟨none,.pick (.tmp 4) (.cst (.bool true)) (.tmp 9),some (.tmp 1,true)⟩,⟨none,.pick (.tmp 1) (.tmp 10) (.cst (.bool false)),none⟩,⟨none,.mv (.tmp 11),none⟩,⟨none,.mv (.var 9),some (.tmp 12,false)⟩,⟨none,.un .not (.tmp 13),some (.tmp 12,false)⟩,⟨none,.mv (.tmp 14),some (.tmp 12,false)⟩,⟨none,.mv (.var 8),some (.tmp 15,true)⟩,⟨none,.lenSl (.tmp 16),some (.tmp 15,true)⟩,⟨none,.bin .neq (.tmp 17) (.cst (.int .i64 0)),some (.tmp 15,true)⟩,⟨none,.pick (.tmp 15) (.tmp 18) (.cst (.bool false)),some (.tmp 12,false)⟩,⟨some 15,.pick (.tmp 12) (.cst (.bool true)) (.tmp 19),none⟩]) (.cond (.var 15) (.seq (.region [⟨some 3,.mv (.cst (.bool false)),none⟩]) .ret) .skip)) (.seq (.region [⟨none,.load true 5 (.var 5),none⟩,⟨none,.mv (.var 6),none⟩,⟨none,.mv (.var 7),none⟩,⟨none,.mv (.var 1),none⟩,⟨none,.call (.fn 20) [.tmp 0,.tmp 1,.tmp 2,.tmp 3],none⟩,⟨some 12,.mv (.tmp 4),none⟩]) (.seq (.region [⟨none,.load true 5 (.var 5),none⟩,⟨none,.mv (.var 6),none⟩,⟨none,.mv (.var 7),none⟩,⟨none,.mv (.var 12),none⟩,⟨none,.call (.fn 17) [.tmp 0,.tmp 1,.tmp 2,.tmp 3],none⟩,⟨none,.mv (.tmp 4),none⟩,⟨none,.extract (.tmp 5) 0,none⟩,⟨none,.extract (.tmp 5) 1,none⟩,⟨some 13,.mv (.tmp 6),none⟩,⟨some 14,.mv (.tmp 7),none⟩]) (.seq (.seq (.region [⟨none,.mv (.var 14),none⟩,⟨none,.un .not (.tmp 0),none⟩,⟨none,.mv (.tmp 1),none⟩,⟨none,.load true 5 (.var 5),some (.tmp 2,false)⟩,⟨none,.mv (.var 6),some (.tmp 2,false)⟩,⟨none,.mv (.var 12),some (.tmp 2,false)⟩,⟨none,.call (.fn 19) [.tmp 3,.tmp 4,.tmp 5],some (.tmp 2,false)⟩,⟨none,.un .not (.tmp 6),some (.tmp 2,false)⟩,⟨some 16,.pick (.tmp 2) (.cst (.bool true)) (.tmp 7),none⟩]) (.cond (.var 16) (.seq (.region [⟨none,.mv (.var 4),none⟩,⟨some 3,.mv (.tmp 0),none⟩]) .ret) .skip)) (.seq (.region [⟨none,.mv (.var 4),none⟩,⟨none,.mv (.tmp 0),none⟩,⟨none,.mv (.var 9),some (.tmp 1,true)⟩,⟨none,.pick (.tmp 1) (.tmp 2) (.cst (.bool false)),none⟩,⟨none,.mv (.tmp 3),none⟩,⟨none,.mv (.var 10),some (.tmp 4,true)⟩,⟨none,.mv (.var 13),some (.tmp 4,true)⟩,⟨none,.bin .leq (.tmp 5) (.tmp 6),some (.tmp 4,true)⟩,⟨none,.pick (.tmp 4) (.tmp 7) (.cst (.bool false)),none⟩,⟨some 3,.mv (.tmp 8),none⟩]) .ret))))))))),[.tmp 3]⟩
theorem Lt:aE Try.prog Try.f4 2 [0,1,2,4,5,6,7,8,9,10,11,12,13,14,15,58,80] [] true ([],[])=some mf4:=by kernel_rfl
theorem at4:Try.prog.funcs[4]?=some Try.f4:=by kernel_rfl
end Tr
namespace Tr
open Go
open Cy (GC aJ bb aB dg)
open Clu (aR aZ pV cD Chk rA an chA a7 bV dm ce cM br cB cT aT bX)
def fsD:List (FuncId × aG):=(19,aD 4 M19) :: (20,aD 4 M20) :: fsL
@[simp] theorem MH:aC fsD 19=some (aD 4 M19):=rfl
@[simp] theorem MG:aC fsD 20=some (aD 4 M20):=rfl
@[simp] theorem MM:aC fsD 11=some (aD 4 M11):=rfl
@[simp] theorem ML:aC fsD 13=some (aD 4 M13):=rfl
@[simp] theorem MK:aC fsD 14=some (cA 4 E1):=rfl
@[simp] theorem MJ:aC fsD 17=some (aD 4 M17):=rfl
theorem FY:∀f M,aC fsD f=some M->aj Try.prog GC f M:=af (aj.of_pure pO 4) (af (aj.of_pure Z7 4) FX)
theorem ev4 {x:XC} {yv rv:AV} (h:XV x yv rv) {ys:List (Int × Int)} (hys:∀y∈ys,inI y.1/\inI y.2) {wv:AV} (hw:SlA 2 (ys.map chA) wv):evP (ax GC fsD) 300 mf4 1 [x.A yv rv,wv]=some (.bool true):=by
 obtain ⟨A0,Az,s0,s1,s2,s3,s4,s5,s6,s7⟩:=I9 h
 have f1:∀A,frz A 4 x.tv=x.tv:=x.tfrz
 have f2:∀A n,frz A n x.rv=x.rv:=x.rfrz
 have n1:=x.tref
 have n2:=x.rref
 have hn4:=x.nb
 have hRl:x.R.length=x.T.ch.length:=tT _ _
 unfold XC.n at hn4
 have lt:ac true 5 (B0 x yv rv) (.ptr 1 0 0)=some x.tv:=rfl
 obtain ⟨B1,hB1⟩:∃B,B=B0 x yv rv:=⟨_,rfl⟩
 rw [<-hB1] at s7 lt
 obtain ⟨dv,m14,rd⟩:=E0 (free:=x.F) (lost:=0) x.chS x.rvS x.chl x.Rl
 rw [dm0] at m14 rd
 have m14:E1 [x.tv,x.rv,.int .i64 x.F,.int .i64 0]=_:=m14
 have hl10:=uq (T:=x.T) (rd:=x.R) (free:=x.F)
 obtain ⟨l,hl⟩:∃l,l=(bH x.T x.R x.F).getD []:=⟨_,rfl⟩
 rw [<-hl] at rd hl10
 obtain ⟨mv,m,m20,rm,hm10⟩:=Ig x.chS hn4.1 (by omega) x.rvS hRl x.F hys hw (z9 x.ch x.sit.1.1)
 have m20:M20 [x.tv,x.rv,.int .i64 x.F,wv]=some mv:=m20
 have m17a:M17 [x.tv,x.rv,.int .i64 x.F,dv]=some (.tup [.int .i64 ((dX x.T x.R x.F l).getD 0),.bool (dX x.T x.R x.F l).isSome]):=qx (T:=x.T) x.chS x.chl x.rvS x.Rl x.F rd (by omega)
 have m17b:M17 [x.tv,x.rv,.int .i64 x.F,mv]=some (.tup [.int .i64 ((dX x.T x.R x.F m).getD 0),.bool (dX x.T x.R x.F m).isSome]):=qx (T:=x.T) x.chS x.chl x.rvS x.Rl x.F rm (by omega)
 have m19a:M19 [x.tv,x.rv,dv]=some (.bool (wK (b0 x.R) (l.map (·.1)))):=te x.chS hn4.1 (by omega) x.rvS hRl rd (by omega)
 have m19b:M19 [x.tv,x.rv,mv]=some (.bool (wK (b0 x.R) (m.map (·.1)))):=te x.chS hn4.1 (by omega) x.rvS hRl rm (by omega)
 have ll:=rd.len
 rw [List.length_map] at ll
 have fdv:∀A,frz A 4 dv=dv:=fun A=>rd.frz 4
 have fmv:∀A,frz A 4 mv=mv:=fun A=>rm.frz 4
 have fwv:∀A,frz A 4 wv=wv:=fun A=>hw.frz 4
 have nwv:bh 4 wv=true:=hw.noRef 4
 have ndv:bh 4 dv=true:=rd.noRef 4
 have nmv:bh 4 mv=true:=rm.noRef 4
 have best:(dX x.T x.R x.F m).isSome=true->wK (b0 x.R) (m.map (·.1))=true->(bH x.T x.R x.F).isSome=true/\(dX x.T x.R x.F l).getD 0<=(dX x.T x.R x.F m).getD 0:=fun k1 k2=>by
  obtain ⟨e',he'⟩:=Option.isSome_iff_exists.1 k1
  obtain ⟨l',e,h1,h2,h3⟩:=wN x.sit ((rk _ _).1 k2) he'
  rw [hl,h1,Option.getD_some,h2,he']
  exact ⟨rfl,h3⟩
 have jD:(bH x.T x.R x.F).isSome=true->(dX x.T x.R x.F l).isSome=true/\wK (b0 x.R) (l.map (·.1))=true:=fun k=>by
  obtain ⟨d,hd⟩:=Option.isSome_iff_exists.1 k
  obtain ⟨xx,_,x2,_⟩:=yK hd
  rw [hl,hd,Option.getD_some,x2]
  exact ⟨rfl,(rk _ _).2 (kG hd)⟩
 have none':(bH x.T x.R x.F).isSome=false->l.length=0:=fun k=>by
  rw [hl]
  cases hd:bH x.T x.R x.F with
  | none=>rfl
  | some d=>rw [hd] at k; cases k
 have bl:=cT ((dX x.T x.R x.F l).getD 0) ((dX x.T x.R x.F m).getD 0)
 have bz:=cM (l.length:Int) 0
 obtain ⟨o1,ho1⟩:∃o,o=(bH x.T x.R x.F).isSome:=⟨_,rfl⟩
 rw [<-ho1] at m14 best jD none'
 clear hl rd rm hB1 ho1 hw
 unfold tY at s2
 generalize (dX x.T x.R x.F l).getD 0=c1 at *
 generalize (dX x.T x.R x.F l).isSome=c1b at *
 generalize (dX x.T x.R x.F m).getD 0=c2 at *
 generalize (dX x.T x.R x.F m).isSome=c2b at *
 generalize wK (b0 x.R) (l.map (·.1))=em1 at *
 generalize wK (b0 x.R) (m.map (·.1))=em2 at *
 generalize x.F=FV at *
 generalize x.tv=TV at *
 generalize x.rv=RV at *
 generalize x.A yv rv=XA at *
 have fin:∀b,evP (ax GC fsD) 300 mf4 1 [XA,wv]=some (.bool b)->b=true->evP (ax GC fsD) 300 mf4 1 [XA,wv]=some (.bool true):=fun b h1 h2=>by rw [h1,h2]
 cases o1
 ·have z:=none' rfl
  rw [z] at ll bz
  rw [decide_eq_false (by simp)] at bz
  have ll:aq dv=some (.int .i64 0):=ll
  have bz:ai .neq (.int .i64 0) (.int .i64 0)=some (.bool false):=bz
  rw [aK _ _ rfl]
  cases c2b
  ·simp [mf4,s0,s1,s2,s3,s4,s5,s6,s7,lt,f1,f2,n1,n2,fdv,fmv,ndv,nmv,fwv,nwv,m14,m17a,m17b,m20,ll,bz,aJ,bb,-aX,-az,-ac,-aa,-frz,-cellsOf,-aq,-ai]
  ·cases em2
   ·simp [mf4,s0,s1,s2,s3,s4,s5,s6,s7,lt,f1,f2,n1,n2,fdv,fmv,ndv,nmv,fwv,nwv,m14,m17a,m17b,m19b,m20,ll,bz,aJ,bb,-aX,-az,-ac,-aa,-frz,-cellsOf,-aq,-ai]
   ·exact absurd (best rfl rfl).1 (by decide)
 ·obtain ⟨k1,k2⟩:=jD rfl
  subst k1
  subst k2
  rw [aK _ _ rfl]
  cases c2b
  ·simp [mf4,s0,s1,s2,s3,s4,s5,s6,s7,lt,f1,f2,n1,n2,fdv,fmv,ndv,nmv,fwv,nwv,m14,m17a,m17b,m19a,m20,aJ,bb,-aX,-az,-ac,-aa,-frz,-cellsOf,-aq,-ai]
  ·cases em2
   ·simp [mf4,s0,s1,s2,s3,s4,s5,s6,s7,lt,f1,f2,n1,n2,fdv,fmv,ndv,nmv,fwv,nwv,m14,m17a,m17b,m19a,m19b,m20,aJ,bb,-aX,-az,-ac,-aa,-frz,-cellsOf,-aq,-ai]
   ·rw [decide_eq_true (best rfl rfl).2] at bl
    simp [mf4,s0,s1,s2,s3,s4,s5,s6,s7,lt,f1,f2,n1,n2,fdv,fmv,ndv,nmv,fwv,nwv,m14,m17a,m17b,m19a,m19b,m20,bl,aJ,bb,-aX,-az,-ac,-aa,-frz,-cellsOf,-aq,-ai]
theorem ev4L (args:List AV) (h:fL Try.prog 8 Try.f4.params.toList args):∃fuel,evP (ax GC fsD) fuel mf4 1 args=some (.bool true):=by
 rw [Try.params4] at h
 obtain ⟨a,r,rfl,h0,h⟩:=h.cons
 obtain ⟨b,r,rfl,h1,h⟩:=h.cons
 obtain rfl:=h.nil
 obtain ⟨x,yv,rv,rfl,hx⟩:=Bu (n:=3) h0
 obtain ⟨ys,h2,h3,_⟩:=uM (n:=5) h1
 exact ⟨300,ev4 hx h3 h2⟩
end Tr
end Go.Proofs.Ytkcjhljbgjpklaa
