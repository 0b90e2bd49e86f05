import Derived.Test.YtkcjhljbgjpklaaVI08
import Derived.Test.YtkcjhljbgjpklaaChecked
import Derived.KernelRfl
import Derived.Test.YtkcjhljbgjpklaaVI06
import Derived.Test.YtkcjhljbgjpklaaVI03
set_option maxRecDepth 100000
set_option maxHeartbeats 4000000
noncomputable section
namespace Go.Proofs.Ytkcjhljbgjpklaa
variable {A:ac} {xs o ys rd:List Int} {i e lo id K fuel:Nat} {v d0 d3 d4 v5 v6 d9 d11 d12 d13 d14 d15 chv v2 d8 d10 d1 d7:AV} {free:Int} {s:List Int × Bool} {E:Env}
namespace Tr
open Go
open Cy (GC aM bc aA dH)
open Clu (aT aY ky c9 Chk t6 af chA aZ bD dP bK cB bA bL cK aK bC)
theorem qJ {T:aT}:((bV T rd free).getD []).length<=10:=by
 cases h:bV T rd free with
 | none=>simp
 | some d=>exact (mI h).1
theorem mw {g:Bool} {l:List Int} {n:Nat} (h:A[id]?=some (.row 1 g (aj l))) (hn:n=l.length) (k:Nat):frz A (k+2) (.sl id 0 n)=.fs 1 (aj l):=by
 have:=dz (off:=0) (xs:=aj l) h (by rw [RT]; exact RX (RR _)) (fun k x hx=>by
  obtain ⟨c,_,rfl⟩:=Sa.1 hx
  exact aM _ _ _ _) k
 rw [hn,<-aA l]; exact this
theorem If {g:Bool} {l:List (Int × Int)} {n:Nat} (h:A[id]?=some (.row 2 g (l.map chA))) (hn:n=l.length) (k:Nat):frz A (k+3) (.sl id 0 n)=.fs 2 (l.map chA):=by
 have e:((l.map chA).drop 0).take n=l.map chA:=by
  rw [RT]
  exact RX (by simp [hn])
 have hm:(l.map chA).map (frz A (k+2))=l.map chA:=by
  rw [Tc]
  exact Sb fun x _=>by simp [chA,frz]
 rw [show k+3=(k+2)+1 from rfl]
 simp only [frz,h]
 rw [e,hm]
end Tr
namespace Tr
open Go
open Cy (GC aM bc aA dH)
open Clu (aT aY ky af chA aZ bD dP bK cB bA bL cK aK bC)
def OV (e lo:Nat) (A:ac) (v:AV) (xs:List AV):Prop:=(v=.nilS/\xs=[])\/∃id g,v=.sl id 0 xs.length/\xs≠[]/\lo<=id/\A[id]?=some (.row e g xs)
theorem CW {bytes:Nat} (he:0<e) (hb:0<bytes) {xs:List AV} (h:OV e lo A v xs) (hlo:lo<=A.length) (x:AV) (hl:(xs.length+1)*bytes<=140737488355328) :
  ∃v' A',aR e bytes A v (.fs e [x])=some (v',A')/\OV e lo A' v' (xs++[x])/\(∀j,j<lo->A'[j]?=A[j]?)/\A.length<=A'.length:=by
 rcases h with ⟨rfl,rfl⟩ | ⟨id,g,rfl,hne,hid,hrow⟩
 ·refine ⟨.sl A.length 0 1,A++[.row e false [x]],?_,.inr ⟨A.length,false,rfl,by simp,hlo,by simp⟩,fun j hj=>by rw [RC (by omega)],by simp⟩
  have hb1:0<e/\0<bytes/\bytes<=140737488355328:=⟨he,hb,by simpa using hl⟩
  simp [aR,hb1]
 ·have hil:=(Rv.1 hrow).1
  have hz:xs.length≠0:=fun h=>hne (Si.1 h)
  refine ⟨.sl id 0 (xs.length+1),A.set id (.row e true (xs++[x])),?_,.inr ⟨id,true,by simp,by simp,hid,by rw [RO hil]⟩,fun j hj=>by rw [RF (by omega)],by simp⟩
  simp only [aR,dr,hrow,SU]
  rw [RH ⟨trivial,he,hb,hl⟩,RH ⟨trivial,trivial,hz⟩]
theorem OV.keep {B:ac} {xs:List AV} (h:OV e lo A v xs) (hk:∀j,lo<=j->j<A.length->B[j]?=A[j]?):OV e lo B v xs:=by
 rcases h with h | ⟨id,g,h1,h2,h3,h4⟩
 ·exact .inl h
 ·exact .inr ⟨id,g,h1,h2,h3,by rw [hk id h3 (Rv.1 h4).1]; exact h4⟩
theorem OV.len {xs:List AV} (h:OV e lo A v xs):aq v=some (.int .i64 (xs.length:Int)):=by
 rcases h with ⟨rfl,rfl⟩ | ⟨id,g,rfl,_⟩ <;> rfl
theorem OV.frz {xs:List AV} (h:OV e lo A v xs) (k:Nat) (hx:∀x∈xs,Go.Proofs.Ytkcjhljbgjpklaa.frz A k x=x):SlA e xs (Go.Proofs.Ytkcjhljbgjpklaa.frz A (k+1) v):=by
 rcases h with ⟨rfl,rfl⟩ | ⟨id,g,rfl,_,_,hr⟩
 ·exact .inl ⟨rfl,rfl⟩
 ·right
  simp only [Go.Proofs.Ytkcjhljbgjpklaa.frz,hr]
  rw [RT,RX (RR _),Sb hx,List.map_id']
structure MI (A:ac) (T:aT) (chv:AV) (inn:List Int) (ov:AV) (out:List cO):Prop where
 t:A[0]?=some (.row 5 false [af T chv])
 i:A[2]?=some (.row 1 false (aj inn))
 l:inn.length=T.ch.length
 o:OV 2 3 A ov (out.map aL)
 n:3<=A.length
end Tr
namespace Tr
open Go
end Tr
namespace Tr
open Go
open Cy (GC aM bc aA dH)
open Clu (aT aY ky af chA aZ bD dP bK cB bA bL cK aK bC)
def RdV (D:Nat) (A:ac) (v:AV) (l:List cO):Prop:=SlA 2 (l.map aL) v\/∃id g,v=.sl id 0 l.length/\id<D/\A[id]?=some (.row 2 g (l.map aL))
theorem RdV.len {D:Nat} {l:List cO} (h:RdV D A v l):aq v=some (.int .i64 (l.length:Int)):=by
 rcases h with h | ⟨id,g,rfl,_⟩
 ·have:=h.len
  rw [RN] at this
  exact this
 ·rfl
theorem RdV.get {D:Nat} {A:ac} {l:List cO} (h:RdV D A v l) {i:Nat} {t:cO} (ht:l[i]?=some t) (_hl:l.length<=100000):∃p q0 q1,ae 2 A v (.int .i64 (i:Int))=some p/\aa 0 A p=some q0/\ab false 1 A q0=some (.int .i64 t.1)/\aa 1 A p=some q1/\ab false 1 A q1=some (.int .i64 t.2):=by
 have hil:=(Rv.1 ht).1
 rcases h with h | ⟨id,g,rfl,_,hr⟩
 ·refine ⟨_,.fp [.int .i64 t.1,.int .i64 t.2],.fp [.int .i64 t.2],h.index (A:=A) (x:=aL t) (i:=i) (by rw [SY,ht]; rfl) rfl (by omega) .i64,rfl,rfl,rfl,rfl⟩
 ·have e:(l.map aL)[i]?=some (aL t):=by rw [SY,ht]; rfl
  refine ⟨.ptr id i 0,.ptr id i 0,.ptr id i 1,NB hr hil,by simp [aa,hr],?_,by simp [aa,hr],?_⟩
  ·simp only [ab,hr,e]; rfl
  ·simp only [ab,hr,e]; rfl
theorem yQ {T:aT} {s s':St} {t:cO} (h:eO T s t=some s') (hn:s.inn.length=T.ch.length) :
  (0<=t.1/\t.1<=T.ch.length)/\s.fin+btw T s.last t.1<=t.2/\t.2<=1000000000 /\
  ∃a,(1<=t.1->(0<=s.inn.getD (t.1-1).toNat 0/\s.inn.getD (t.1-1).toNat 0<=t.2/\t.2<=s.inn.getD (t.1-1).toNat 0+syT T (t.1-1).toNat)/\a=s.inn.set (t.1-1).toNat (-1))/\(¬ 1<=t.1->a=s.inn) /\
  (t.1<T.ch.length->a.getD t.1.toNat 0<0/\s'.inn=a.set t.1.toNat (t.2+wT T+tmT T t.1.toNat))/\(¬ t.1<T.ch.length->s'.inn=a)/\a.length=T.ch.length/\s'.inn.length=T.ch.length/\s'.last=t.1/\s'.fin=t.2+wT T:=by
 unfold eO at h
 split at h
 ·rename_i hc
  rw [hn] at hc
  rw [RG] at h
  obtain ⟨a,ha,h⟩:=h
  rw [RJ] at h
  obtain ⟨b,hb,rfl⟩:=h
  refine ⟨hc.1,hc.2.1,hc.2.2,a,?_⟩
  unfold kw at ha
  unfold vR at hb
  have hal:a.length=T.ch.length:=by
   split at ha
   ·split at ha
    ·injection ha with ha; rw [<-ha,Sm,hn]
    ·cases ha
   ·injection ha with ha; rw [<-ha,hn]
  rw [hal] at hb
  have hbl:b.length=T.ch.length:=by
   split at hb
   ·split at hb
    ·cases hb
    ·injection hb with hb; rw [<-hb,Sm,hal]
   ·injection hb with hb; rw [<-hb,hal]
  refine ⟨fun h1=>?_,fun h1=>?_,fun h2=>?_,fun h2=>?_,hal,hbl,rfl,rfl⟩
  ·rw [RH h1] at ha
   split at ha
   ·rename_i hh; injection ha with ha; exact ⟨hh,ha.symm⟩
   ·cases ha
  ·rw [RK h1] at ha; injection ha with ha; exact ha.symm
  ·rw [RH h2] at hb
   split at hb
   ·cases hb
   ·rename_i hh; injection hb with hb; exact ⟨by omega,hb.symm⟩
  ·rw [RK h2] at hb; injection hb with hb; exact hb.symm
 ·cases h
section
variable {x:XC} {B:ac} {lv:AV} {l:List cO}
theorem pA {T:aT} (h:A[id]?=some (.row 5 false [af T chv])):(∀k,k<5->aa k A (.ptr id 0 0)=some (.ptr id 0 k))/\ab false 1 A (.ptr id 0 0)=some chv/\ab false 1 A (.ptr id 0 1)=some (.int .i64 T.pick)/\ab false 1 A (.ptr id 0 2)=some (.int .i64 T.place)/\ab false 1 A (.ptr id 0 3)=some (.int .i64 T.travel):=
 ⟨fun k hk=>by simp [aa,h]; exact hk,me (k:=5) (es:=[chv,.int .i64 T.pick,.int .i64 T.place,.int .i64 T.travel,.int .i64 T.blades]) h rfl,me (k:=5) (es:=[chv,.int .i64 T.pick,.int .i64 T.place,.int .i64 T.travel,.int .i64 T.blades]) h rfl,me (k:=5) (es:=[chv,.int .i64 T.pick,.int .i64 T.place,.int .i64 T.travel,.int .i64 T.blades]) h rfl,me (k:=5) (es:=[chv,.int .i64 T.pick,.int .i64 T.place,.int .i64 T.travel,.int .i64 T.blades]) h rfl⟩
end
end Tr
namespace Tr
open Go
open Cy (GC aM bc aA)
open Clu (aT aY af chA aK fh aZ bD cB bA bK bL cK)
def IV:MC:=.cond (.var 21) (.seq (.seq (.region [.a 8,.d 0 12,.b 1 1,.e 1 0 2,.b 1 3,.ad 22 4 0]) (.cond (.var 22) (.seq (.region [.f 5 0,.g 6]) .ret) .skip)) (.region [.a 8,.d 0 12,.b 1 1,.a 10,.d 0 4,.b 1 4,.d 0 12,.b 1 6,.e 2 5 7,.m 0 8,.b 1 9,.o 3 10,.e 1 0 2,.A 1 12 11])) .skip
def Io:MC:=.seq (.region [.d 0 12,.b 1 0,.ae 19 1 0]) (.cond (.var 19) (.seq (.region [.d 0 12,.b 1 0,.s 1 1,.c 14 2]) (.seq (.seq (.region [.a 8,.a 14,.e 1 0 1,.b 1 2,.af 3 0,.h 4,.y 1 12 5,.q 1 6 5,.n 8 5,.n 14 5,.U 1 8 9 5,.q 1 10 5,.n 8 5,.n 14 5,.U 1 12 13 5,.q 1 14 5,.y 0 4 5,.q 1 16 5,.n 14 5,.U 2 17 18 5,.b4 1 19 5,.q 1 20 5,.av 15 21 5,.ao 36 7 11 22 5,.H 23 5,.C 20 5 24]) (.cond (.var 20) (.seq (.region [.f 5 0,.g 6]) .ret) .skip)) (.region [.a 8,.a 14,.e 1 0 1,.aq 1 2 (-1)]))) .skip)
def Dk:MC:=.seq (.region [.a 11,.qn (.bin .gtr (.tmp 0) (.cst (.int .i64 0))),.h 1,.O 0 12 2,.x 1 3 2,.k 3 2,.k 11 2,.a9 6 1 2,.L 2 5 7 2,.ak 0 8 2,.x 1 9 2,.au 10 1 2,.br 4 11 2,.Z 17 2 12]) (.cond (.var 17) (.region [.a 10,.c 13 0]) .skip)
theorem zc:jc=.seq (.seq (.region [.a 11,.a 3,.v 1,.F 16 0 2]) (.cond (.var 16) .skip (.exit 0))) (.seq (.seq (.block 1 (.seq (.region [.a 3,.a 11,.e 2 0 1,.K 2 2,.ah 12 2,.r 2 12 3]) (.seq (.region [.a 10,.d 3 4,.b 1 1,.o 0 2,.c 13 3]) (.seq Dk (.seq (.seq (.region [.d 0 12,.b 1 0,.a 7,.am 36 1 2,.W 3,.h 4,.y 1 12 5,.q 1 6 5,.n 13 5,.ar 36 7 8 5,.H 9 5,.C 18 5 10]) (.cond (.var 18) (.seq (.region [.f 5 0,.g 6]) .ret) .skip)) (.seq Io (.seq (.region [.d 1 12,.b 1 0,.a 9,.o 1 2,.c 10 3]) (.seq (.region [.d 0 12,.b 1 0,.a 7,.F 21 1 2]) IV)))))))) (.kill [0,1,2,5,6,12,13,14,15,16,17,18,19,20,21,22])) (.region [.a 11,.i 0 1,.c 11 1])):=rfl
def o5:List (FuncId × aJ):=[(22,aG 4 M22),(35,aG 4 M35),(36,aG 4 M30)]
@[simp] theorem Pj:aE o5 22=some (aG 4 M22):=rfl
@[simp] theorem Pi:aE o5 35=some (aG 4 M35):=rfl
@[simp] theorem Ph:aE o5 36=some (aG 4 M30):=rfl
theorem G9:∀f M,aE o5 f=some M->au Try.prog GC f M:=ai (au.of_pure rY 4) (ai (au.of_pure rX 4) (ai (au.of_pure nK 4) aB))
def M18:aU:=fun args=>evP (aw GC o5) 300 JZ 4 args
theorem Jz:ax Try.prog GC 18 M18:=ax.of_ev (E:=aw GC o5) (ay G9) rfl at18 Lk 4 fun _ _ h=>⟨300,h⟩
section
variable {T:aT} {chv:AV} {A:ac} {inn:List Int} {n p:Nat} {tn ts:Int} {lv:AV} {fin fr:Int} {i:Nat}
theorem Ni (hb:SlA 2 (T.ch.map chA) chv) (hv:aY T) (hA:A17 A T chv inn) (hn:inn.length=T.ch.length) (hnn:n=T.ch.length) (hp:A[p]?=some (.row 2 false [aL (tn,ts)])) (h0:0<=tn) (hts:0<=ts/\ts<=1000000000)
  (v0 v1 v2 v5 v6 v14 v15 v16 v17 v18 v19 v20 v22:AV) :
  match vR T inn (tn,ts) with
  | some inn2=>∃e22 B,(∀K,run (aw GC o5) 300 (.code IV :: K) [v0,v1,v2,lv,.ptr 0 0 0,v5,v6,.int .i64 (n:Int),.sl 2 0 n,.int .i64 (wT T),.int .i64 (ts+wT T),.int .i64 (i:Int),.ptr p 0 0,.int .i64 fr,v14,v15,v16,v17,v18,v19,v20,.bool (decide (tn<(n:Int))),v22] A=run (aw GC o5) 300 K [v0,v1,v2,lv,.ptr 0 0 0,v5,v6,.int .i64 (n:Int),.sl 2 0 n,.int .i64 (wT T),.int .i64 (ts+wT T),.int .i64 (i:Int),.ptr p 0 0,.int .i64 fr,v14,v15,v16,v17,v18,v19,v20,.bool (decide (tn<(n:Int))),e22] B)/\A17 B T chv inn2
  | none=>∃ σ B,(∀K,run (aw GC o5) 300 (.code IV :: K) [v0,v1,v2,lv,.ptr 0 0 0,v5,v6,.int .i64 (n:Int),.sl 2 0 n,.int .i64 (wT T),.int .i64 (ts+wT T),.int .i64 (i:Int),.ptr p 0 0,.int .i64 fr,v14,v15,v16,v17,v18,v19,v20,.bool (decide (tn<(n:Int))),v22] A=some (.ret σ B))/\σ[5]?=some (.int .i64 0)/\σ[6]?=some (.bool false):=by
 obtain ⟨f0,_,l0,_⟩:=g7 hp
 simp only at l0
 obtain ⟨_,g0,g1⟩:=hA.tool hb
 have hw:=da hv
 unfold vR
 simp only
 by_cases h1:tn<(inn.length:Int)
 rotate_left
 ·rw [RK h1,RD (show ¬ tn<(n:Int) by omega)]
  refine ⟨v22,A,fun K=>?_,hA⟩
  generalize (n:Int)=N at *
  simp [IV]
 rw [RH h1,RE (show tn<(n:Int) by omega)]
 obtain ⟨t,rfl⟩:∃t:Nat,tn=(t:Int):=⟨tn.toNat,by omega⟩
 rw [RW]
 have i1:=cE hA.r (n:=n) (k:=t) (by omega) .i64
 have d1:=fg hA.r (k:=t) (by omega)
 have b2:=Cy.iO (inn.getD t 0)
 have hc:=wL hb (k:=t) (by omega) A .i64
 have htm:=di hv t
 have b3:ag .add (.int .i64 (ts+wT T)) (.int .i64 (tmT T t))=some (.int .i64 (ts+wT T+tmT T t)):=aZ (by omega)
 have s1:=iH hA.r (k:=t) (by omega) (ts+wT T+tmT T t)
 obtain ⟨I,hI⟩:∃I,I=inn.getD t 0:=⟨_,rfl⟩
 rw [<-hI] at d1 b2 ⊢
 obtain ⟨E,hE⟩:∃E,E=ts+wT T+tmT T t:=⟨_,rfl⟩
 rw [<-hE] at b3 s1 ⊢
 have y1:∀A u v,aa 0 A (.fp [u,v])=some (.fp [u,v]):=fun _ _ _=>rfl
 have y2:∀A z v,ab false 1 A (.fp [.int .i64 z,v])=some (.int .i64 z):=fun _ _ _=>rfl
 by_cases h2:0<=I
 ·rw [RH h2]
  rw [RE h2] at b2
  refine ⟨[v0,v1,v2,lv,.ptr 0 0 0,.int .i64 0,.bool false,.int .i64 (n:Int),.sl 2 0 n,.int .i64 (wT T),.int .i64 (ts+wT T),.int .i64 (i:Int),.ptr p 0 0,.int .i64 fr,v14,v15,v16,v17,v18,v19,v20,.bool true,.bool true],A,fun K=>?_,rfl,rfl⟩
  generalize (n:Int)=N at *
  generalize (t:Int)=TT at *
  simp [IV,f0,l0,i1,d1,b2,-ag,-ab,-aa,-ae]
 ·rw [RK h2]
  rw [RD h2] at b2
  refine ⟨.bool false,A.set 2 (.row 1 false (aj (inn.set t E))),fun K=>?_,hA.set _⟩
  generalize (n:Int)=N at *
  generalize (t:Int)=TT at *
  simp [IV,f0,l0,i1,d1,b2,b3,g0,g1,hc,y1,y2,s1,-ag,-ab,-aa,-ae,-az]
theorem Jd (hb:SlA 2 (T.ch.map chA) chv) (hv:aY T) (hA:A17 A T chv inn) (hn:inn.length=T.ch.length) (hnn:n=T.ch.length) (hp:A[p]?=some (.row 2 false [aL (tn,ts)])) (hp2:p≠2) (h0:0<=tn/\tn<=inn.length) (hin:∀z∈inn,-1<=z/\z<=3000000000)
  (v0 v1 v2 v5 v6 v14 v15 v16 v17 v18 v19 v20 v21 v22:AV) :
  match kw T inn (tn,ts) with
  | some a=>∃e14 e19 e20 B,(∀K,run (aw GC o5) 300 (.code Io :: K) [v0,v1,v2,lv,.ptr 0 0 0,v5,v6,.int .i64 (n:Int),.sl 2 0 n,.int .i64 (wT T),.int .i64 fin,.int .i64 (i:Int),.ptr p 0 0,.int .i64 fr,v14,v15,v16,v17,v18,v19,v20,v21,v22] A=run (aw GC o5) 300 K [v0,v1,v2,lv,.ptr 0 0 0,v5,v6,.int .i64 (n:Int),.sl 2 0 n,.int .i64 (wT T),.int .i64 fin,.int .i64 (i:Int),.ptr p 0 0,.int .i64 fr,e14,v15,v16,v17,v18,e19,e20,v21,v22] B)/\A17 B T chv a/\B[p]?=A[p]?/\a.length=inn.length
  | none=>∃ σ B,(∀K,run (aw GC o5) 300 (.code Io :: K) [v0,v1,v2,lv,.ptr 0 0 0,v5,v6,.int .i64 (n:Int),.sl 2 0 n,.int .i64 (wT T),.int .i64 fin,.int .i64 (i:Int),.ptr p 0 0,.int .i64 fr,v14,v15,v16,v17,v18,v19,v20,v21,v22] A=some (.ret σ B))/\σ[5]?=some (.int .i64 0)/\σ[6]?=some (.bool false):=by
 obtain ⟨f0,f1,l0,l1⟩:=g7 hp
 simp only at l0 l1
 obtain ⟨_,g0,g1⟩:=hA.tool hb
 have b1:=bL tn 0
 have hn4:=hv.2.2.2.1
 unfold kw
 simp only
 by_cases h1:1<=tn
 rotate_left
 ·rw [RK h1]
  rw [RD (by omega)] at b1
  refine ⟨v14,.bool false,v20,A,fun K=>?_,hA,rfl,rfl⟩
  generalize (n:Int)=N at *
  simp [Io,f0,l0,b1,-ag,-ab,-aa]
 rw [RH h1]
 rw [RE (by omega)] at b1
 obtain ⟨k,hk⟩:∃k:Nat,tn=(k:Int)+1:=⟨(tn-1).toNat,by omega⟩
 have ek:(tn-1).toNat=k:=by omega
 rw [ek]
 have hkn:k<inn.length:=by omega
 have bs:ag .sub (.int .i64 tn) (.int .i64 1)=some (.int .i64 (k:Int)):=by rw [bD (by omega)]; congr 2; omega
 have i1:=cE hA.r (n:=n) (k:=k) (by omega) .i64
 have d1:=fg hA.r (k:=k) (by omega)
 have b2:=bK (inn.getD k 0) 0
 have hz:=hin (inn.getD k 0) (by rw [Rw,Rx hkn]; exact RM hkn)
 have hc:=wL hb (k:=k) (by omega) A .i64
 have htm:=di hv k
 have b3:ag .add (.int .i64 (inn.getD k 0)) (.int .i64 (syT T k))=some (.int .i64 (inn.getD k 0+syT T k)):=aZ (by omega)
 have m3:=cf ts (inn.getD k 0) (inn.getD k 0+syT T k)
 have s1:=iH hA.r (k:=k) (by omega) (-1)
 have y1:∀A u v,aa 1 A (.fp [u,v])=some (.fp [v]):=fun _ _ _=>rfl
 have y2:∀A z,ab false 1 A (.fp [.int .i64 z])=some (.int .i64 z):=fun _ _=>rfl
 obtain ⟨I,hI⟩:∃I,I=inn.getD k 0:=⟨_,rfl⟩
 rw [<-hI] at d1 b2 b3 m3 ⊢
 by_cases h2:0<=I
 rotate_left
 ·rw [RK (fun h=>h2 h.1)]
  rw [RE (by omega)] at b2
  refine ⟨[v0,v1,v2,lv,.ptr 0 0 0,.int .i64 0,.bool false,.int .i64 (n:Int),.sl 2 0 n,.int .i64 (wT T),.int .i64 fin,.int .i64 (i:Int),.ptr p 0 0,.int .i64 fr,.int .i64 (k:Int),v15,v16,v17,v18,.bool true,.bool true,v21,v22],A,fun K=>?_,rfl,rfl⟩
  generalize (n:Int)=N at *
  generalize (k:Int)=TT at *
  simp [Io,f0,l0,b1,bs,i1,d1,b2,-ag,-ab,-aa,-ae]
 rw [RD (by omega)] at b2
 by_cases h3:I<=ts/\ts<=I+syT T k
 ·rw [RH ⟨h2,h3⟩]
  rw [cD.2 h3] at m3
  refine ⟨.int .i64 (k:Int),.bool true,.bool false,A.set 2 (.row 1 false (aj (inn.set k (-1)))),fun K=>?_,hA.set _,RF (fun e=>hp2 e.symm),by rw [Sm]⟩
  generalize (n:Int)=N at *
  generalize (k:Int)=TT at *
  generalize I+syT T k=II at *
  simp [Io,f0,f1,l0,l1,b1,bs,i1,d1,b2,g0,g1,hc,y1,y2,b3,m3,s1,aM,-cf,-ag,-ab,-aa,-ae,-az,-frz]
 ·rw [RK (fun h=>h3 h.2)]
  have mb:iE ts I (I+syT T k)=false:=by
   cases e:iE ts I (I+syT T k)
   ·rfl
   ·exact absurd (cD.1 e) h3
  rw [mb] at m3
  refine ⟨[v0,v1,v2,lv,.ptr 0 0 0,.int .i64 0,.bool false,.int .i64 (n:Int),.sl 2 0 n,.int .i64 (wT T),.int .i64 fin,.int .i64 (i:Int),.ptr p 0 0,.int .i64 fr,.int .i64 (k:Int),v15,v16,v17,v18,.bool true,.bool true,v21,v22],A,fun K=>?_,rfl,rfl⟩
  generalize (n:Int)=N at *
  generalize (k:Int)=TT at *
  generalize I+syT T k=II at *
  simp [Io,f0,f1,l0,l1,b1,bs,i1,d1,b2,g0,g1,hc,y1,y2,b3,m3,aM,-cf,-ag,-ab,-aa,-ae,-az,-frz]
theorem KF {l:List cO} (hlv:SlA 2 (l.map aL) lv) (hll:l.length<=200) (hp:A[p]?=some (.row 2 false [aL (tn,ts)])) (h0:0<=tn) {last:Int} (hi0:i=0->last = -2) (hil:i<=l.length) (hi1:0<i->∃t,l[i-1]?=some t/\t.1=last) (hla : -1000<=last/\last<=1000) (hfr:fr=fin+T.travel)
  (v0 v1 v2 v5 v6 v14 v15 v16 v17 v18 v19 v20 v21 v22:AV) :
  ∃e17,∀K,run (aw GC o5) 300 (.code Dk :: K) [v0,v1,v2,lv,.ptr 0 0 0,v5,v6,.int .i64 (n:Int),.sl 2 0 n,.int .i64 (wT T),.int .i64 fin,.int .i64 (i:Int),.ptr p 0 0,.int .i64 fr,v14,v15,v16,v17,v18,v19,v20,v21,v22] A=run (aw GC o5) 300 K [v0,v1,v2,lv,.ptr 0 0 0,v5,v6,.int .i64 (n:Int),.sl 2 0 n,.int .i64 (wT T),.int .i64 fin,.int .i64 (i:Int),.ptr p 0 0,.int .i64 (fin+btw T last tn),v14,v15,v16,e17,v18,v19,v20,v21,v22] A:=by
 obtain ⟨f0,_,l0,_⟩:=g7 hp
 simp only at l0
 have b1:=bL (i:Int) 0
 have hbt:btw T last tn=if tn=last+1 then 0 else T.travel:=rfl
 by_cases h1:0<i
 rotate_left
 ·rw [RD (by omega)] at b1
  rw [hbt,RK (by have:=hi0 (by omega); omega),<-hfr]
  refine ⟨.bool false,fun K=>?_⟩
  generalize (n:Int)=N at *
  simp [Dk,b1,-ag,-ab,-aa,-ae]
 rw [RE (by omega)] at b1
 obtain ⟨t,ht,htl⟩:=hi1 h1
 have b2:ag .sub (.int .i64 (i:Int)) (.int .i64 1)=some (.int .i64 ((i-1:Nat):Int)):=by rw [bD (by omega)]; congr 2; omega
 have x1:ae 2 A lv (.int .i64 ((i-1:Nat):Int))=some (.fp [.int .i64 t.1,.int .i64 t.2]):=hlv.index (A:=A) (x:=aL t) (i:=i-1) (by rw [SY,ht]; rfl) rfl (by omega) .i64
 have y1:∀A u v,aa 0 A (.fp [u,v])=some (.fp [u,v]):=fun _ _ _=>rfl
 have y2:∀A z v,ab false 1 A (.fp [.int .i64 z,v])=some (.int .i64 z):=fun _ _ _=>rfl
 have b3:ag .add (.int .i64 t.1) (.int .i64 1)=some (.int .i64 (last+1)):=by rw [htl]; exact aZ (by omega)
 have b4:=bA tn (last+1)
 rw [hbt]
 generalize ((i-1:Nat):Int)=im at *
 generalize t.2=t2 at *
 generalize t.1=t1 at *
 by_cases h2:tn=last+1
 ·rw [RE h2] at b4
  rw [RH h2,Int.add_zero]
  refine ⟨.bool true,fun K=>?_⟩
  generalize last+1=L1 at *
  generalize (n:Int)=N at *
  generalize (i:Int)=iI at *
  simp [Dk,f0,l0,b1,b2,x1,y1,y2,b3,b4,-ag,-ab,-aa,-ae]
 ·rw [RD h2] at b4
  rw [RK h2,<-hfr]
  refine ⟨.bool false,fun K=>?_⟩
  generalize last+1=L1 at *
  generalize (n:Int)=N at *
  generalize (i:Int)=iI at *
  simp [Dk,f0,l0,b1,b2,x1,y1,y2,b3,b4,-ag,-ab,-aa,-ae]
theorem Qg {l:List cO} (hlv:SlA 2 (l.map aL) lv) (hll:l.length<=200) (hp:A[p]?=some (.row 2 false [aL (tn,ts)])) {last:Int} (hil:i<=l.length) (hi1:0<i->∃t,l[i-1]?=some t/\t.1=last) (hla : -1000<=last/\last<=1000) (_hdum:0<=i)
  (v0 v1 v2 v5 v6 v14 v15 v16:AV) :
  ∃e13 e17,∀K,run (aw GC o5) 300 (.code Dk :: K) [v0,v1,v2,lv,.ptr 0 0 0,v5,v6,.int .i64 (n:Int),.sl 2 0 n,.int .i64 (wT T),.int .i64 fin,.int .i64 (i:Int),.ptr p 0 0,.int .i64 fr,v14,v15,v16,.undef,.undef,.undef,.undef,.undef,.undef] A=run (aw GC o5) 300 K [v0,v1,v2,lv,.ptr 0 0 0,v5,v6,.int .i64 (n:Int),.sl 2 0 n,.int .i64 (wT T),.int .i64 fin,.int .i64 (i:Int),.ptr p 0 0,e13,v14,v15,v16,e17,.undef,.undef,.undef,.undef,.undef] A:=by
 obtain ⟨f0,_,l0,_⟩:=g7 hp
 simp only at l0
 have b1:=bL (i:Int) 0
 by_cases h1:0<i
 rotate_left
 ·rw [RD (by omega)] at b1
  refine ⟨.int .i64 fr,.bool false,fun K=>?_⟩
  generalize (n:Int)=N at *
  simp [Dk,b1,-ag,-ab,-aa,-ae]
 rw [RE (by omega)] at b1
 obtain ⟨t,ht,htl⟩:=hi1 h1
 have b2:ag .sub (.int .i64 (i:Int)) (.int .i64 1)=some (.int .i64 ((i-1:Nat):Int)):=by rw [bD (by omega)]; congr 2; omega
 have x1:ae 2 A lv (.int .i64 ((i-1:Nat):Int))=some (.fp [.int .i64 t.1,.int .i64 t.2]):=hlv.index (A:=A) (x:=aL t) (i:=i-1) (by rw [SY,ht]; rfl) rfl (by omega) .i64
 have y1:∀A u v,aa 0 A (.fp [u,v])=some (.fp [u,v]):=fun _ _ _=>rfl
 have y2:∀A z v,ab false 1 A (.fp [.int .i64 z,v])=some (.int .i64 z):=fun _ _ _=>rfl
 have b3:ag .add (.int .i64 t.1) (.int .i64 1)=some (.int .i64 (last+1)):=by rw [htl]; exact aZ (by omega)
 have b4:=bA tn (last+1)
 generalize ((i-1:Nat):Int)=im at *
 generalize t.2=t2 at *
 generalize t.1=t1 at *
 by_cases h2:tn=last+1
 ·rw [RE h2] at b4
  refine ⟨.int .i64 fin,.bool true,fun K=>?_⟩
  generalize last+1=L1 at *
  generalize (n:Int)=N at *
  generalize (i:Int)=iI at *
  simp [Dk,f0,l0,b1,b2,x1,y1,y2,b3,b4,-ag,-ab,-aa,-ae]
 ·rw [RD h2] at b4
  refine ⟨.int .i64 fr,.bool false,fun K=>?_⟩
  generalize last+1=L1 at *
  generalize (n:Int)=N at *
  generalize (i:Int)=iI at *
  simp [Dk,f0,l0,b1,b2,x1,y1,y2,b3,b4,-ag,-ab,-aa,-ae]
end
abbrev s18 (T:aT) (lv:AV) (n:Nat) (fin:Int) (i:Nat):List AV:=ue lv (.ptr 0 0 0) (.int .i64 (n:Int)) (.sl 2 0 n) (.int .i64 (wT T)) (.int .i64 fin) (.int .i64 (i:Int))
theorem Hv {T:aT} (hb:SlA 2 (T.ch.map chA) chv) (hv:aY T) {lv:AV} {l:List cO} (hlv:SlA 2 (l.map aL) lv) {A:ac} {x:St} (hA:A17 A T chv x.inn) (hx:OkS T x) {i:Nat} (hi:i<l.length) (hil:l.length<=200) (hi0:i=0->x.last = -2) (hi1:0<i->∃t,l[i-1]?=some t/\t.1=x.last) :
  match eO T x l[i] with
  | some y=>∃B,run (aw GC o5) 300 [.code jc] (s18 T lv T.ch.length x.fin i) A=some (.normal (s18 T lv T.ch.length y.fin (i+1)) B)/\A17 B T chv y.inn
  | none=>∃ σ B,run (aw GC o5) 300 [.code jc] (s18 T lv T.ch.length x.fin i) A=some (.ret σ B)/\σ[5]?=some (.int .i64 0)/\σ[6]?=some (.bool false):=by
 obtain ⟨inn,last,fin⟩:=x
 obtain ⟨hn,hlast,hfin,hin⟩:=hx
 simp only at hA hn hlast hfin hin hi0 hi1 ⊢
 have hw:=da hv
 have hn4:=hv.2.2.2.1
 have x1:=hlv.index (A:=A) (i:=i) (x:=aL l[i]) (by simp [hi]) rfl (by omega) .i64
 have hlen:=hlv.len
 rw [RN] at hlen
 have b0:=a9 i l.length .i64
 rw [RE hi] at b0
 have b9:=aV i (by omega)
 obtain ⟨⟨tn,ts⟩,hti⟩:∃t,t=l[i]:=⟨_,rfl⟩
 rw [<-hti] at x1 ⊢
 have x1':ae 2 A lv (.int .i64 (i:Int))=some (.fp [.int .i64 tn,.int .i64 ts]):=x1
 obtain ⟨B,hB⟩:∃B,B=A++[Ent.row 2 false [aL (tn,ts)]]:=⟨_,rfl⟩
 have s0:az 2 (A++[.row 2 false [.agg [.int .i64 0,.int .i64 0]]]) (.ptr A.length 0 0) (.agg [.int .i64 tn,.int .i64 ts])=some B:=by
  rw [hB]
  simp only [az,Tv,Sz]
  rw [RH ⟨trivial,rfl,rfl,by omega⟩]
  simp [bq,cellsOf,aL]
 have hAB:A17 B T chv inn:=by
  have hl:=hA.l
  rw [hB]
  exact ⟨by rw [RC (by omega)]; exact hA.t,by rw [RC (by omega)]; exact hA.r,by simp; omega⟩
 have hp:B[A.length]?=some (.row 2 false [aL (tn,ts)]):=by rw [hB]; simp
 have hp2:A.length≠2:=by have:=hA.l; omega
 obtain ⟨f0,f1,l0,l1⟩:=g7 hp
 simp only at l0 l1
 obtain ⟨u0,_,_,_,u3⟩:=pA hAB.t
 have u03:=u0 3 (by omega)
 have bt:ag .add (.int .i64 fin) (.int .i64 T.travel)=some (.int .i64 (fin+T.travel)):=aZ (by omega)
 have m1:=cf tn 0 (T.ch.length:Int)
 have hbt:=mN hv last tn
 have bz:aS 2 (.agg [.int .i64 0,.int .i64 0]) A=some (.ptr A.length 0 0,A++[.row 2 false [.agg [.int .i64 0,.int .i64 0]]]):=rfl
 unfold eO
 simp only
 unfold s18
 rw [zc]
 by_cases c1:0<=tn
 rotate_left
 ·rw [RK (fun h=>c1 h.1.1)]
  have mb:iE tn 0 (T.ch.length:Int)=false:=by
   cases e:iE tn 0 (T.ch.length:Int)
   ·rfl
   ·exact absurd (cD.1 e).1 c1
  rw [mb] at m1
  have pre:∃e13 e17,∀K,run (aw GC o5) 300 (.code Dk :: K) [.undef,.undef,.undef,lv,.ptr 0 0 0,.undef,.undef,.int .i64 (T.ch.length:Int),.sl 2 0 T.ch.length,.int .i64 (wT T),.int .i64 fin,.int .i64 (i:Int),.ptr A.length 0 0,.int .i64 (fin+T.travel),.undef,.undef,.bool true,.undef,.undef,.undef,.undef,.undef,.undef] B=run (aw GC o5) 300 K [.undef,.undef,.undef,lv,.ptr 0 0 0,.undef,.undef,.int .i64 (T.ch.length:Int),.sl 2 0 T.ch.length,.int .i64 (wT T),.int .i64 fin,.int .i64 (i:Int),.ptr A.length 0 0,e13,.undef,.undef,.bool true,e17,.undef,.undef,.undef,.undef,.undef] B:=Qg hlv hil hp (by omega) hi1 hlast (by omega) _ _ _ _ _ _ _ _
  obtain ⟨e13,e17,pre⟩:=pre
  refine ⟨[.undef,.undef,.undef,lv,.ptr 0 0 0,.int .i64 0,.bool false,.int .i64 (T.ch.length:Int),.sl 2 0 T.ch.length,.int .i64 (wT T),.int .i64 fin,.int .i64 (i:Int),.ptr A.length 0 0,e13,.undef,.undef,.bool true,e17,.bool true,.undef,.undef,.undef,.undef],B,?_,rfl,rfl⟩
  generalize (T.ch.length:Int)=N at *
  generalize fin+T.travel=FT at *
  generalize T.travel=tr at *
  generalize wT T=wt at *
  generalize A++[Ent.row 2 false [.agg [.int .i64 0,.int .i64 0]]]=A1 at *
  generalize hAl:A.length=pp at *
  simp [x1',b0,hlen,bz,s0,f0,l0,u03,u3,bt,pre,m1,aM,fh,-aS,-cf,-ag,-ab,-aa,-aq,-ae,-az,-frz]
 obtain ⟨e17,pre⟩:=KF (n:=T.ch.length) (T:=T) (fin:=fin) (fr:=fin+T.travel) hlv hil hp c1 hi0 (by omega) hi1 hlast rfl .undef .undef .undef .undef .undef .undef .undef (.bool true) .undef .undef .undef .undef .undef .undef
 by_cases c1b:tn<=(inn.length:Int)
 rotate_left
 ·rw [RK (fun h=>c1b h.1.2)]
  have mb:iE tn 0 (T.ch.length:Int)=false:=by
   cases e:iE tn 0 (T.ch.length:Int)
   ·rfl
   ·exact absurd (cD.1 e).2 (by omega)
  rw [mb] at m1
  refine ⟨[.undef,.undef,.undef,lv,.ptr 0 0 0,.int .i64 0,.bool false,.int .i64 (T.ch.length:Int),.sl 2 0 T.ch.length,.int .i64 (wT T),.int .i64 fin,.int .i64 (i:Int),.ptr A.length 0 0,.int .i64 (fin+btw T last tn),.undef,.undef,.bool true,e17,.bool true,.undef,.undef,.undef,.undef],B,?_,rfl,rfl⟩
  generalize (T.ch.length:Int)=N at *
  generalize fin+btw T last tn=FB at *
  generalize fin+T.travel=FT at *
  generalize T.travel=tr at *
  generalize wT T=wt at *
  generalize A++[Ent.row 2 false [.agg [.int .i64 0,.int .i64 0]]]=A1 at *
  generalize hAl:A.length=pp at *
  simp [x1',b0,hlen,bz,s0,f0,l0,u03,u3,bt,pre,m1,aM,fh,-aS,-cf,-ag,-ab,-aa,-aq,-ae,-az,-frz]
 rw [cD.2 ⟨c1,by omega⟩] at m1
 have m3:=cf ts (fin+btw T last tn) 1000000000
 by_cases c2:fin+btw T last tn<=ts/\ts<=1000000000
 rotate_left
 ·rw [RK (fun h=>c2 h.2)]
  have mb:iE ts (fin+btw T last tn) 1000000000=false:=by
   cases e:iE ts (fin+btw T last tn) 1000000000
   ·rfl
   ·exact absurd (cD.1 e) c2
  rw [mb] at m3
  refine ⟨[.undef,.undef,.undef,lv,.ptr 0 0 0,.int .i64 0,.bool false,.int .i64 (T.ch.length:Int),.sl 2 0 T.ch.length,.int .i64 (wT T),.int .i64 fin,.int .i64 (i:Int),.ptr A.length 0 0,.int .i64 (fin+btw T last tn),.undef,.undef,.bool true,e17,.bool true,.undef,.undef,.undef,.undef],B,?_,rfl,rfl⟩
  generalize (T.ch.length:Int)=N at *
  generalize fin+btw T last tn=FB at *
  generalize fin+T.travel=FT at *
  generalize T.travel=tr at *
  generalize wT T=wt at *
  generalize A++[Ent.row 2 false [.agg [.int .i64 0,.int .i64 0]]]=A1 at *
  generalize hAl:A.length=pp at *
  simp [x1',b0,hlen,bz,s0,f0,f1,l0,l1,u03,u3,bt,pre,m1,m3,aM,fh,-aS,-cf,-ag,-ab,-aa,-aq,-ae,-az,-frz]
 rw [cD.2 c2] at m3
 rw [RH ⟨⟨c1,c1b⟩,c2⟩]
 have tk:=Jd (n:=T.ch.length) (lv:=lv) (fin:=fin) (fr:=fin+btw T last tn) (i:=i) hb hv hAB hn rfl hp hp2 ⟨c1,c1b⟩ hin .undef .undef .undef .undef .undef .undef .undef (.bool true) e17 (.bool false) .undef .undef .undef .undef
 cases h1:kw T inn (tn,ts) with
 | none=>
  rw [h1] at tk
  obtain ⟨σ,B',k1,k2⟩:=tk
  rw [Um]
  refine ⟨σ,B',?_,k2⟩
  generalize (T.ch.length:Int)=N at *
  generalize fin+btw T last tn=FB at *
  generalize fin+T.travel=FT at *
  generalize T.travel=tr at *
  generalize wT T=wt at *
  generalize A++[Ent.row 2 false [.agg [.int .i64 0,.int .i64 0]]]=A1 at *
  generalize hAl:A.length=pp at *
  simp [x1',b0,hlen,bz,s0,f0,f1,l0,l1,u03,u3,bt,pre,m1,m3,k1,aM,fh,-aS,-cf,-ag,-ab,-aa,-aq,-ae,-az,-frz]
 | some a=>
  rw [h1] at tk
  obtain ⟨e14,e19,e20,B',k1,k2,k3,k4⟩:=tk
  rw [Sn]
  have hp':B'[A.length]?=some (.row 2 false [aL (tn,ts)]):=by rw [k3]; exact hp
  obtain ⟨f0',f1',l0',l1'⟩:=g7 hp'
  simp only at l0' l1'
  have bw:ag .add (.int .i64 ts) (.int .i64 (wT T))=some (.int .i64 (ts+wT T)):=aZ (by omega)
  have bl:=bK tn (T.ch.length:Int)
  have pt:=Ni (n:=T.ch.length) (lv:=lv) (fr:=fin+btw T last tn) (i:=i) hb hv k2 (by rw [k4]; exact hn) rfl hp' c1 (by omega) .undef .undef .undef .undef .undef e14 .undef (.bool true) e17 (.bool false) e19 e20 .undef
  cases h2:vR T a (tn,ts) with
  | none=>
   rw [h2] at pt
   obtain ⟨σ,B2,q1,q2⟩:=pt
   rw [Option.map_none]
   refine ⟨σ,B2,?_,q2⟩
   generalize decide (tn<(T.ch.length:Int))=dd at *
   generalize (T.ch.length:Int)=N at *
   generalize fin+btw T last tn=FB at *
   generalize fin+T.travel=FT at *
   generalize T.travel=tr at *
   generalize ts+wT T=te at *
   generalize wT T=wt at *
   generalize A++[Ent.row 2 false [.agg [.int .i64 0,.int .i64 0]]]=A1 at *
   generalize hAl:A.length=pp at *
   simp [x1',b0,hlen,bz,s0,f0,f1,l0,l1,f0',f1',l0',l1',u03,u3,bt,pre,m1,m3,k1,bw,bl,q1,aM,fh,-aS,-cf,-ag,-ab,-aa,-aq,-ae,-az,-frz]
  | some b=>
   rw [h2] at pt
   obtain ⟨e22,B2,q1,q2⟩:=pt
   rw [Ss]
   refine ⟨B2,?_,q2⟩
   simp only
   obtain ⟨i1,hi1'⟩:∃i1:Nat,i1=i+1:=⟨_,rfl⟩
   rw [<-hi1'] at b9 ⊢
   generalize decide (tn<(T.ch.length:Int))=dd at *
   generalize (T.ch.length:Int)=N at *
   generalize fin+btw T last tn=FB at *
   generalize fin+T.travel=FT at *
   generalize T.travel=tr at *
   generalize ts+wT T=te at *
   generalize wT T=wt at *
   generalize A++[Ent.row 2 false [.agg [.int .i64 0,.int .i64 0]]]=A1 at *
   generalize hAl:A.length=pp at *
   simp [x1',b0,b9,hlen,bz,s0,f0,f1,l0,l1,f0',f1',l0',l1',u03,u3,bt,pre,m1,m3,k1,bw,bl,q1,aM,fh,-aS,-cf,-ag,-ab,-aa,-aq,-ae,-az,-frz]
theorem Kc {T:aT} (hb:SlA 2 (T.ch.map chA) chv) (hv:aY T) {lv:AV} {l:List cO} (hlv:SlA 2 (l.map aL) lv) (hil:l.length<=200):∀(c i:Nat) (A:ac) (x:St) (m:Nat),i+c=l.length->A17 A T chv x.inn->OkS T x->c<m->(i=0->x.last = -2)->(0<i->∃t,l[i-1]?=some t/\t.1=x.last) ->
  match rF T x (l.drop i) with
  | some y=>∃B,bM (evC (aw GC o5) 300 jc) ik m (s18 T lv T.ch.length x.fin i) A=some (.exit 0 ((s18 T lv T.ch.length y.fin l.length).set 16 (.bool false)) B)
  | none=>∃ σ B,bM (evC (aw GC o5) 300 jc) ik m (s18 T lv T.ch.length x.fin i) A=some (.ret σ B)/\σ[5]?=some (.int .i64 0)/\σ[6]?=some (.bool false):=by
 intro c
 induction c with
 | zero=>
  intro i A x m hi hA hx hm h0 h1
  obtain ⟨m,rfl⟩:∃j,m=j+1:=⟨m-1,by omega⟩
  obtain rfl:i=l.length:=by omega
  rw [SP]
  simp only [rF]
  refine ⟨A,?_⟩
  have hlen:=hlv.len
  rw [RN] at hlen
  have b0:=a9 l.length l.length .i64
  rw [RD (by omega)] at b0
  unfold s18
  rw [aD,Cq]
  simp [jc,hlen,b0,-ag,-aq]
 | succ c ih=>
  intro i A x m hi hA hx hm h0 h1
  obtain ⟨m,rfl⟩:∃j,m=j+1:=⟨m-1,by omega⟩
  have hil':i<l.length:=by omega
  rw [Sw hil']
  simp only [rF]
  have hr:=Hv hb hv hlv hA hx hil' hil h0 h1
  unfold s18 at hr ⊢
  rw [aD,Cq]
  cases hs:eO T x l[i] with
  | none=>
   rw [hs] at hr
   obtain ⟨σ,B,h1,h2⟩:=hr
   rw [Um,h1]
   exact ⟨σ,B,rfl,h2⟩
  | some y=>
   rw [hs] at hr
   obtain ⟨B,h1,h2⟩:=hr
   rw [Sn,h1]
   have hy:=(yQ hs hx.n).2.2.2
   obtain ⟨_,_,_,_,_,_,_,hla,_⟩:=hy
   exact ih (i+1) B y m (by omega) h2 (hx.step hv hs) (by omega) (fun e=>absurd e (by omega)) (fun _=>⟨l[i],by rw [show i+1-1=i by omega]; exact Rx hil',hla.symm⟩)
theorem Ge {T:aT} {rdv:AV} (hb:SlA 2 (T.ch.map chA) chv) (hl:T.ch.length<=200) (hr:SlA 1 (aj rd) rdv) (hrl:rd.length<=200) (free:Int) {lv:AV} {l:List cO} (hlv:SlA 2 (l.map aL) lv) (hll:l.length<=200):M18 [af T chv,rdv,.int .i64 free,lv]=some (Cx (fP T rd free l)):=by
 have m:=vN hb hl hr hrl free
 have ft:=fun A=>aK (T:=T) (fun A n=>hb.frz (A:=A) n) A 3
 have fr:∀A n,frz A n rdv=rdv:=fun A n=>hr.frz n
 have tn:bu 4 (af T chv)=true:=Clu.bC (fun n=>hb.noRef n) 3
 have bx:aS 5 (af T chv) []=some (.ptr 0 0 0,[.row 5 false [af T chv]]):=rfl
 have ct:(cellsOf (af T chv)).length=5:=rfl
 obtain ⟨A0,hA0⟩:∃A:ac,A=[.row 5 false [af T chv]]:=⟨_,rfl⟩
 have lt:ab true 5 A0 (.ptr 0 0 0)=some (af T chv):=by rw [hA0]; rfl
 rw [<-hA0] at bx
 have fz:∀A z b,frz A 4 (.tup [.int .i64 z,.bool b])=.tup [.int .i64 z,.bool b]:=fun A z b=>x7 A z b
 unfold M18 fP Cx
 by_cases hS:Sit T rd free
 rotate_left
 ·rw [RK hS]
  rw [RD hS] at m
  generalize af T chv=tv at *
  rw [aN _ _ rfl]
  simp [JZ,bx,ct,lt,m,ft,fr,fz,aM,dE,-aS,-ab,-frz,-cellsOf]
 rw [RH hS]
 rw [RE hS] at m
 have hv:=hS.1.1
 have hw:=da hv
 have fa:aa 0 A0 (.ptr 0 0 0)=some (.ptr 0 0 0):=by rw [hA0]; simp [aa]
 have l0:ab false 1 A0 (.ptr 0 0 0)=some chv:=by
  rw [hA0]
  rcases hb with ⟨rfl,_⟩ | rfl <;> rfl
 have lnc:=hb.len
 rw [RN] at lnc
 have hAl:A0.length=1:=by rw [hA0]; rfl
 have bs:aI 1 [] A0=some (.sl 1 0 0,A0++[.row 1 false []]):=by simp [aI,hAl]
 have ap:=gW (esz:=1) (bytes:=8) (by omega) (by omega) hAl.symm hr (by rw [aA]; omega)
 rw [aA,hS.2.1] at ap
 obtain ⟨A1,hA1⟩:∃A1,A1=A0++[Ent.dead,.row 1 false (aj rd)]:=⟨_,rfl⟩
 rw [<-hA1] at ap
 have lt1:ab true 5 A1 (.ptr 0 0 0)=some (af T chv):=by rw [hA1,hA0]; rfl
 have h17:A17 A1 T chv rd:=⟨by rw [hA1,hA0]; rfl,by rw [hA1,hA0]; rfl,by rw [hA1,hA0]; simp⟩
 have m22:=yI chv hv
 have lp:=Kc hb hv hlv hll l.length 0 A1 (st0 rd free) 300 (by omega) h17 ⟨hS.2.1,by simp [st0],by show 0<=free/\free<=_; have:=hS.2.2.1; omega,fun z hz=>by have:=hS.2.2.2 z hz; omega⟩ (by omega) (fun _=>rfl) (fun h=>absurd h (by omega))
 rw [RT] at lp
 unfold s18 at lp
 rw [show ((0:Nat):Int)=0 from rfl] at lp
 clear hA1 hA0 h17
 cases hc:rF T (st0 rd free) l with
 | none=>
  rw [hc] at lp
  obtain ⟨σ,B,h1,h2,h3⟩:=lp
  have h1':bM (evC (aw GC o5) 300 jc) ik 300 (ue lv (.ptr 0 0 0) (.int .i64 (T.ch.length:Int)) (.sl 2 0 T.ch.length) (.int .i64 (wT T)) (.int .i64 free) (.int .i64 0)) A1=some (.ret σ B):=h1
  clear h1 hc
  generalize af T chv=tv at *
  generalize T.ch.length=n at *
  generalize wT T=w at *
  generalize A0++[Ent.row 1 false []]=A2 at *
  rw [aN _ _ rfl]
  simp [JZ,bx,ct,lt,m,ft,fr,tn,fa,l0,lnc,bs,ap,lt1,m22,Fr h1',h2,h3,fz,aM,dE,-aS,-ab,-aa,-aq,-aI,-frz,-cellsOf]
 | some y=>
  rw [hc] at lp
  obtain ⟨B,h1⟩:=lp
  have h1':bM (evC (aw GC o5) 300 jc) ik 300 (ue lv (.ptr 0 0 0) (.int .i64 (T.ch.length:Int)) (.sl 2 0 T.ch.length) (.int .i64 (wT T)) (.int .i64 free) (.int .i64 0)) A1=_:=h1
  clear h1 hc
  show evP _ _ _ _ _=some (.tup [.int .i64 y.fin,.bool true])
  generalize af T chv=tv at *
  generalize T.ch.length=n at *
  generalize wT T=w at *
  generalize y.fin=yf at *
  generalize A0++[Ent.row 1 false []]=A2 at *
  rw [aN _ _ rfl]
  simp [JZ,bx,ct,lt,m,ft,fr,tn,fa,l0,lnc,bs,ap,lt1,m22,Fr h1',fz,aM,dE,-aS,-ab,-aa,-aq,-aI,-frz,-cellsOf]
end Tr
namespace Tr
open Go
structure TP where
 m:Nat
 hd:Nat->Int
 bf:Nat->Int
 dn:Nat->Int
 st:Nat->Int
namespace TP
variable (t:TP)
def pv (xs:List Int) (i:Nat):Int:=if i=0 then 0 else xs.getD (i-1) 0
def sr (xs:List Int) (i:Nat):Int:=if t.bf i<0 then 0 else xs.getD (t.bf i).toNat 0
def okI (xs:List Int) (i:Nat):Prop:=pv xs i+t.hd i<=xs.getD i 0/\t.sr xs i+t.dn i<=xs.getD i 0/\xs.getD i 0-(t.dn i+t.st i)<=t.sr xs i
def ok (xs:List Int):Prop:=xs.length=t.m/\∀i,i<t.m->t.okI xs i
def up (s:List Int × Bool) (i:Nat) (l:Int):List Int × Bool:=if l > s.1.getD i 0 then (s.1.set i l,true) else s
def step (s:List Int × Bool) (i:Nat):Option (List Int × Bool):=
 if t.bf i<0 then
  if max (s.1.getD i 0) (max (pv s.1 i+t.hd i) (t.dn i)) > t.dn i+t.st i then none
  else some (up s i (max (pv s.1 i+t.hd i) (t.dn i)))
 else
  some (up (up s i (max (pv s.1 i+t.hd i) (s.1.getD (t.bf i).toNat 0+t.dn i))) (t.bf i).toNat ((up s i (max (pv s.1 i+t.hd i) (s.1.getD (t.bf i).toNat 0+t.dn i))).1.getD i 0-t.dn i-t.st i))
def rnd:Nat->List Int × Bool->Option (List Int × Bool)
 | 0,s=>some s
 | c+1,s=>(t.step s (t.m-(c+1))).bind (rnd c)
def ref:Nat->List Int->Option (List Int)
 | 0,_=>none
 | c+1,xs=>(t.rnd t.m (xs,false)).bind fun s=>if s.2 then ref c s.1 else some s.1
def le (xs ys:List Int):Prop:=xs.length=ys.length/\∀j,j<xs.length->xs.getD j 0<=ys.getD j 0
theorem le_refl (xs:List Int):le xs xs:=⟨rfl,fun _ _=>S5 _⟩
theorem le_trans {zs:List Int} (h:le xs ys) (k:le ys zs):le xs zs:=⟨h.1.trans k.1,fun j hj=>UA (h.2 j hj) (k.2 j (by rw [<-h.1]; exact hj))⟩
theorem fZ (h:le xs ys) (k:le ys xs):xs=ys:=by
 apply SO h.1
 intro j h1 h2
 have a:=h.2 j h1
 have b:=k.2 j h2
 rw [Rw,Rw,Rx h1,Rx h2] at a b
 simp only [Sq] at a b
 omega
theorem up_len (s:List Int × Bool) (i:Nat) (l:Int):(up s i l).1.length=s.1.length:=by unfold up; split <;> simp
theorem Gu (s:List Int × Bool) (hi:i<s.1.length) (l:Int):le s.1 (up s i l).1/\l<=(up s i l).1.getD i 0:=by
 unfold up
 split
 ·rename_i h
  refine ⟨⟨by simp,fun j hj=>?_⟩,?_⟩
  ·rw [dp]
   split
   ·rename_i h2; rw [<-h2.1]; omega
   ·exact S5 _
  ·rw [dp,RH ⟨rfl,hi⟩]; exact S5 _
 ·exact ⟨le_refl _,by omega⟩
theorem s9 {l:Int} (h:le s.1 ys) (hl:l<=ys.getD i 0):le (up s i l).1 ys:=by
 unfold up
 split
 ·refine ⟨by simpa using h.1,fun j hj=>?_⟩
  rw [dp]
  split
  ·rename_i h2; rw [<-h2.1]; exact hl
  ·exact h.2 j (by simpa using hj)
 ·exact h
theorem wa (s:List Int × Bool) (hi:i<s.1.length) (l:Int):((up s i l).2=false->up s i l=s/\s.2=false/\l<=s.1.getD i 0)/\((up s i l).1=s.1->up s i l=s/\l<=s.1.getD i 0):=by
 unfold up
 split
 ·rename_i h
  refine ⟨fun e=>by simp at e,fun e=>?_⟩
  have:s.1.getD i 0=l:=by
   have e:s.1.set i l=s.1:=e
   have:(s.1.set i l).getD i 0=s.1.getD i 0:=by rw [e]
   rw [dp,RH ⟨rfl,hi⟩] at this
   exact this.symm
  omega
 ·exact ⟨fun e=>⟨rfl,e,by omega⟩,fun _=>⟨rfl,by omega⟩⟩
theorem JO (h:le xs ys) (hi:i<xs.length):pv xs i<=pv ys i:=by
 unfold pv
 split
 ·exact S5 _
 ·exact h.2 _ (by omega)
structure wf:Prop where
 b:∀i,i<t.m->t.bf i<i /\ -1<=t.bf i
variable {t}
theorem GB (hw:t.wf) (h:le xs ys) (hl:xs.length=t.m) (hi:i<t.m):t.sr xs i<=t.sr ys i:=by
 have:=hw.b i hi
 unfold sr
 split
 ·exact S5 _
 ·exact h.2 _ (by omega)
theorem step_spec (hw:t.wf) (hl:s.1.length=t.m) {i:Nat} (hi:i<t.m) {s':List Int × Bool} (h:t.step s i=some s') :
  s'.1.length=t.m/\le s.1 s'.1/\(s'.2=false->s'=s/\s.2=false/\t.okI s.1 i)/\(s'.1=s.1->s'=s) /\
  pv s.1 i+t.hd i<=s'.1.getD i 0/\t.sr s.1 i+t.dn i<=s'.1.getD i 0/\s.1.getD i 0-(t.dn i+t.st i)<=t.sr s'.1 i:=by
 have hb:=hw.b i hi
 unfold step at h
 by_cases hn:t.bf i<0
 ·rw [RH hn] at h
  split at h
  ·cases h
  ·rename_i hc
   injection h with h
   subst h
   have h1:=Gu s (i:=i) (by omega) (max (pv s.1 i+t.hd i) (t.dn i))
   have h2:=wa s (i:=i) (by omega) (max (pv s.1 i+t.hd i) (t.dn i))
   refine ⟨by rw [up_len,hl],h1.1,fun e=>?_,fun e=>(h2.2 e).1,by omega,?_,?_⟩
   ·obtain ⟨e1,e2,e3⟩:=h2.1 e
    refine ⟨e1,e2,by omega,?_,?_⟩
    ·unfold sr; rw [RH hn]; omega
    ·unfold sr; rw [RH hn]; omega
   ·unfold sr; rw [RH hn]; omega
   ·unfold sr; rw [RH hn]; omega
 ·rw [RK hn] at h
  injection h with h
  obtain ⟨l,hll⟩:∃l,l=max (pv s.1 i+t.hd i) (s.1.getD (t.bf i).toNat 0+t.dn i):=⟨_,rfl⟩
  rw [<-hll] at h
  obtain ⟨s1,hs1⟩:∃s1,s1=up s i l:=⟨_,rfl⟩
  rw [<-hs1] at h
  obtain ⟨p,hp⟩:∃p,p=(t.bf i).toNat:=⟨_,rfl⟩
  rw [<-hp] at h hll
  have hpi:p<i:=by omega
  have hl1:s1.1.length=t.m:=by rw [hs1,up_len,hl]
  have a1:=Gu s (i:=i) (by omega) l
  have a2:=wa s (i:=i) (by omega) l
  rw [<-hs1] at a1 a2
  have b1:=Gu s1 (i:=p) (by omega) (s1.1.getD i 0-t.dn i-t.st i)
  have b2:=wa s1 (i:=p) (by omega) (s1.1.getD i 0-t.dn i-t.st i)
  rw [h] at b1 b2
  have hl':s'.1.length=t.m:=by rw [<-h,up_len,hl1]
  have c1:=b1.1.2 i (by omega)
  have c2:=a1.1.2 i (by omega)
  have esr:∀xs,t.sr xs i=xs.getD p 0:=fun xs=>by unfold sr; rw [RK hn,hp]
  refine ⟨hl',le_trans a1.1 b1.1,fun e=>?_,fun e=>?_,by omega,?_,?_⟩
  ·obtain ⟨e1,e2,e3⟩:=b2.1 e
   obtain ⟨d1,d2,d3⟩:=a2.1 e2
   rw [e1,d1]
   rw [d1] at e3
   refine ⟨rfl,d2,by omega,?_,?_⟩
   ·rw [esr]; omega
   ·rw [esr]; omega
  ·have e1:s1.1=s.1:=fZ (by rw [<-e]; exact b1.1) a1.1
   have e2:=(a2.2 e1).1
   have e3:=b2.2 (by rw [e,e1])
   rw [e3.1,e2]
  ·rw [esr]; omega
  ·rw [esr]; have:=b1.2; omega
theorem yR (hw:t.wf) (hl:s.1.length=t.m) {i:Nat} (hi:i<t.m) (hy:t.ok ys) (h:le s.1 ys):∃s',t.step s i=some s'/\le s'.1 ys:=by
 have hb:=hw.b i hi
 obtain ⟨k1,k2,k3⟩:=hy.2 i hi
 have p1:=JO h (i:=i) (by omega)
 have p2:=GB hw h hl hi
 have p3:=h.2 i (by omega)
 unfold step
 by_cases hn:t.bf i<0
 ·rw [RH hn]
  have e:t.sr ys i=0:=by unfold sr; rw [RH hn]
  rw [RK (by omega)]
  exact ⟨_,rfl,s9 h (by omega)⟩
 ·rw [RK hn]
  have e:∀xs,t.sr xs i=xs.getD (t.bf i).toNat 0:=fun xs=>by unfold sr; rw [RK hn]
  rw [e,e] at p2
  rw [e] at k2 k3
  have h1:le (up s i (max (pv s.1 i+t.hd i) (s.1.getD (t.bf i).toNat 0+t.dn i))).1 ys:=s9 h (by omega)
  refine ⟨_,rfl,s9 h1 ?_⟩
  have:=h1.2 i (by rw [up_len]; omega)
  omega
theorem tz (hw:t.wf):∀(c:Nat) (s s':List Int × Bool),c<=t.m->s.1.length=t.m->t.rnd c s=some s' ->
  s'.1.length=t.m/\le s.1 s'.1/\(s'.2=false->s'=s/\s.2=false/\∀i,t.m-c<=i->i<t.m->t.okI s.1 i)/\(s'.1=s.1->s'=s) /\
  ∀i,t.m-c<=i->i<t.m->pv s.1 i+t.hd i<=s'.1.getD i 0/\t.sr s.1 i+t.dn i<=s'.1.getD i 0/\s.1.getD i 0-(t.dn i+t.st i)<=t.sr s'.1 i
 | 0,s,s',_,hl,h=>by
  injection h with h
  subst h
  exact ⟨hl,le_refl _,fun e=>⟨rfl,e,fun i h1 h2=>absurd h2 (by omega)⟩,fun _=>rfl,fun i h1 h2=>absurd h2 (by omega)⟩
 | c+1,s,s',hc,hl,h=>by
  unfold rnd at h
  rw [RG] at h
  obtain ⟨s1,h1,h2⟩:=h
  obtain ⟨i,hi⟩:∃i,i=t.m-(c+1):=⟨_,rfl⟩
  rw [<-hi] at h1
  have him:i<t.m:=by omega
  obtain ⟨a1,a2,a3,a4,a5,a6,a7⟩:=step_spec hw hl him h1
  obtain ⟨b1,b2,b3,b4,b5⟩:=tz hw c s1 s' (by omega) a1 h2
  have ei:t.m-c=i+1:=by omega
  rw [ei] at b3 b5
  refine ⟨b1,le_trans a2 b2,fun e=>?_,fun e=>?_,fun j hj hj2=>?_⟩
  ·obtain ⟨e1,e2,e3⟩:=b3 e
   obtain ⟨d1,d2,d3⟩:=a3 e2
   refine ⟨by rw [e1,d1],d2,fun j hj hj2=>?_⟩
   by_cases hji:j=i
   ·rw [hji]; exact d3
   ·have:=e3 j (by omega) hj2
    rw [d1] at this
    exact this
  ·have e1:s1.1=s.1:=fZ (by rw [<-e]; exact b2) a2
   have e2:=a4 e1
   have e3:=b4 (by rw [e,e1])
   rw [e3,e2]
  ·by_cases hji:j=i
   ·subst hji
    have k1:=b2.2 j (by omega)
    have k2:=GB hw b2 a1 hj2
    omega
   ·obtain ⟨k1,k2,k3⟩:=b5 j (by omega) hj2
    have p1:=JO a2 (i:=j) (by omega)
    have p2:=GB hw a2 hl hj2
    have p3:=a2.2 j (by omega)
    omega
theorem ul (hw:t.wf) (hy:t.ok ys):∀(c:Nat) (s:List Int × Bool),c<=t.m->s.1.length=t.m->le s.1 ys->∃s',t.rnd c s=some s'/\le s'.1 ys
 | 0,s,_,_,h=>⟨s,rfl,h⟩
 | c+1,s,hc,hl,h=>by
  obtain ⟨s1,h1,h2⟩:=yR hw hl (show t.m-(c+1)<t.m by omega) hy h
  obtain ⟨s2,h3,h4⟩:=ul hw hy c s1 (by omega) (by rw [h2.1,<-h.1,hl]) h2
  refine ⟨s2,?_,h4⟩
  unfold rnd
  rw [h1]; exact h3
theorem ref_ok (hw:t.wf):∀(c:Nat) (xs ys:List Int),xs.length=t.m->t.ref c xs=some ys->t.ok ys
 | 0,_,_,_,h=>by cases h
 | c+1,xs,ys,hl,h=>by
  unfold ref at h
  rw [RG] at h
  obtain ⟨s,h1,h2⟩:=h
  obtain ⟨a1,_,a3,_,_⟩:=tz hw t.m (xs,false) s (RR _) hl h1
  cases hs:s.2 with
  | true=>rw [hs] at h2; exact ref_ok hw c s.1 ys a1 h2
  | false=>
   rw [hs] at h2
   injection h2 with h2
   obtain ⟨e1,_,e3⟩:=a3 hs
   subst h2
   rw [e1]
   exact ⟨hl,fun i hi=>e3 i (by omega) hi⟩
def S (L xs:List Int):Nat:=((List.range L.length).filter fun j=>decide (xs.getD j 0=L.getD j 0)).length
theorem S_le (L xs:List Int):S L xs<=L.length:=by
 unfold S
 exact ST (List.length_filter_le _ _) (by simp)
theorem uS {p q:Nat->Bool}:∀(l:List Nat),(∀j∈l,p j=true->q j=true)->(∃j,j∈l/\p j=false/\q j=true)->(l.filter p).length<(l.filter q).length
 | [],_,h=>by obtain ⟨j,hj,_⟩:=h; cases hj
 | a :: r,h1,h2=>by
  have hle:(r.filter p).length<=(r.filter q).length:=by
   clear h2
   induction r with
   | nil=>simp
   | cons b r ih=>
    have:=ih (fun j hj=>h1 j (by rcases Su.1 hj with e | e; exact e ▸ To; exact SK _ (SK _ e)))
    rw [TZ,TZ]
    by_cases hb:p b=true
    ·rw [RH hb,RH (h1 b (by simp) hb)]; simp; exact this
    ·rw [RK hb]; split
     ·simp; omega
     ·exact this
  obtain ⟨j,hj,hp,hq⟩:=h2
  rw [TZ,TZ]
  by_cases hja:j=a
  ·subst hja
   rw [RK (by rw [hp]; decide),RH hq]
   simp; omega
  ·have hjr:j∈r:=by rcases Su.1 hj with e | e; exact absurd e hja; exact e
   have ih:=uS r (fun k hk=>h1 k (SK _ hk)) ⟨j,hjr,hp,hq⟩
   by_cases hb:p a=true
   ·rw [RH hb,RH (h1 a To hb)]; simp; exact ih
   ·rw [RK hb]; split
    ·simp; omega
    ·exact ih
structure least (t:TP) (L:List Int):Prop where
 o:t.ok L
 l:∀ys,t.ok ys->le L ys
theorem JI (hw:t.wf) {L:List Int} (hL:least t L) {xs':List Int} (hx:le xs L) (hx':le xs xs') (hxl:le xs' L) (hne:xs≠L)
  (h:∀i,i<t.m->pv xs i+t.hd i<=xs'.getD i 0/\t.sr xs i+t.dn i<=xs'.getD i 0/\xs.getD i 0-(t.dn i+t.st i)<=t.sr xs' i):S L xs<S L xs':=by
 have hLl:=hL.o.1
 have hxm:xs.length=t.m:=by rw [hx.1,hLl]
 unfold S
 refine uS _ (fun j hj hp=>?_) ?_
 ·have hj:=SI.1 hj
  have e:=Ue hp
  have a:=hx'.2 j (by omega)
  have b:=hxl.2 j (by rw [<-hx'.1]; omega)
  exact RE (by omega)
 ·
  refine Classical.byContradiction fun hno=>?_
  have hno:∀j,j<t.m->xs.getD j 0≠L.getD j 0->xs'.getD j 0≠L.getD j 0:=fun j hj h1 h2=>hno ⟨j,SI.2 (by omega),RD h1,RE h2⟩
  obtain ⟨ys,hys⟩:∃ys:List Int,ys=(List.range t.m).map fun j=>if xs.getD j 0=L.getD j 0 then L.getD j 0 else L.getD j 0-1:=⟨_,rfl⟩
  have hyl:ys.length=t.m:=by rw [hys]; simp
  have hyg:∀j,j<t.m->ys.getD j 0=if xs.getD j 0=L.getD j 0 then L.getD j 0 else L.getD j 0-1:=fun j hj=>by
   rw [hys,Rw,SY,Tj hj]; rfl
  have hyL:∀j,j<t.m->ys.getD j 0<=L.getD j 0/\L.getD j 0-1<=ys.getD j 0:=fun j hj=>by rw [hyg j hj]; split <;> omega
  have low:∀j,j<t.m->xs.getD j 0≠L.getD j 0->xs'.getD j 0<L.getD j 0:=fun j hj hne=>by
   have a:=hxl.2 j (by rw [<-hx'.1]; omega)
   have:=hno j hj hne
   omega
  have hok:t.ok ys:=by
   refine ⟨hyl,fun i hi=>?_⟩
   obtain ⟨k1,k2,k3⟩:=hL.o.2 i hi
   obtain ⟨g1,g2,g3⟩:=h i hi
   have hb:=hw.b i hi
   have yi:=hyg i hi
   have yb:=hyL i hi
   refine ⟨?_,?_,?_⟩
   ·unfold pv at k1 g1 ⊢
    by_cases h0:i=0
    ·rw [RH h0] at k1 g1 ⊢
     rw [yi]
     split
     ·exact k1
     ·rename_i hne; have:=low i hi hne; omega
    ·rw [RK h0] at k1 g1 ⊢
     have y1:=hyg (i-1) (by omega)
     rw [yi,y1]
     split <;> split
     ·exact k1
     ·rename_i e hne; have:=low i hi hne; omega
     ·omega
     ·omega
   ·by_cases hn:t.bf i<0
    ·unfold sr at k2 g2 ⊢
     rw [RH hn] at k2 g2 ⊢
     rw [yi]
     split
     ·exact k2
     ·rename_i hne; have:=low i hi hne; omega
    ·unfold sr at k2 g2 ⊢
     rw [RK hn] at k2 g2 ⊢
     have y1:=hyg (t.bf i).toNat (by omega)
     rw [yi,y1]
     split <;> split
     ·exact k2
     ·rename_i e hne; have:=low i hi hne; omega
     ·omega
     ·omega
   ·by_cases hn:t.bf i<0
    ·unfold sr at k3 ⊢
     rw [RH hn] at k3 ⊢
     omega
    ·unfold sr at k3 g3 ⊢
     rw [RK hn] at k3 g3 ⊢
     have y1:=hyg (t.bf i).toNat (by omega)
     rw [yi,y1]
     split <;> split
     ·exact k3
     ·rename_i e hne; have:=low (t.bf i).toNat (by omega) hne; omega
     ·omega
     ·omega
  have hle:=hL.l ys hok
  refine hne (fZ hx ⟨hx.1.symm,fun j hj=>?_⟩)
  have:=hle.2 j hj
  rw [hyg j (by omega)] at this
  split at this
  ·rename_i e; omega
  ·omega
theorem ref_least (hw:t.wf) {L:List Int} (hL:least t L):∀(c:Nat) (xs:List Int),le xs L->t.m+1<=S L xs+c->t.ref c xs=some L
 | 0,xs,_,h=>absurd (S_le L xs) (by have:=hL.o.1; omega)
 | c+1,xs,hx,h=>by
  have hxm:xs.length=t.m:=by rw [hx.1,hL.o.1]
  obtain ⟨s,h1,h2⟩:=ul hw hL.o t.m (xs,false) (RR _) hxm hx
  obtain ⟨a1,a2,a3,a4,a5⟩:=tz hw t.m (xs,false) s (RR _) hxm h1
  unfold ref
  rw [h1,Sn]
  cases hs:s.2 with
  | false=>
   obtain ⟨e1,_,e3⟩:=a3 hs
   have hok:t.ok xs:=⟨hxm,fun i hi=>e3 i (by omega) hi⟩
   have:xs=L:=fZ hx (hL.l xs hok)
   rw [e1,<-this]; rfl
  | true=>
   have hne:xs≠L:=fun e=>by
    have:s.1=xs:=fZ (by rw [e]; exact h2) a2
    have:=a4 this
    rw [this] at hs; cases hs
   have:=JI hw hL hx a2 h2 hne (fun i hi=>a5 i (by omega) hi)
   exact ref_least hw hL c s.1 h2 (by omega)
end TP
end Tr
namespace Tr
open Go
open Clu (aT aY)
def bfK (o:List Int) (k:Int):Nat->Int
 | 0=>-1
 | j+1=>if o.getD j 0=k then (j:Int) else bfK o k j
theorem vC (o:List Int) (k:Int):∀j:Nat,-1<=bfK o k j/\bfK o k j<j
 | 0=>by simp [bfK]
 | j+1=>by
  have:=vC o k j
  unfold bfK
  split <;> omega
def cg (T:aT) (rd:List Int) (free:Int) (o:List Int):TP where
 m:=o.length
 hd i:=if i=0 then free+T.travel else wT T+btw T (o.getD (i-1) 0) (o.getD i 0)
 bf i:=bfK o (o.getD i 0-1) i
 dn i:=if bfK o (o.getD i 0-1) i<0 then rd.getD (o.getD i 0-1).toNat 0 else wT T+tmT T (o.getD i 0-1).toNat
 st i:=syT T (o.getD i 0-1).toNat
theorem Jc (T:aT) (rd:List Int) (free:Int) (o:List Int):(cg T rd free o).wf:=⟨fun i _=>by
 have:=vC o (o.getD i 0-1) i
 exact ⟨this.2,this.1⟩⟩
def nX (xs:List Int) (j:Nat):Int:=if j=0 then 0 else xs.getD (j-1) 0
def aOf (o:List Int) (i:Nat) (k:Nat):Option Nat:=if bfK o (k:Int) i<0 then none else some ((bfK o (k:Int) i).toNat+1)
theorem Ex (h:1<=o.getD i 0):upd (aOf o i) (o.getD i 0).toNat (i+1)=aOf o (i+1):=by
 funext k
 unfold upd aOf
 rw [show bfK o (k:Int) (i+1)=if o.getD i 0=(k:Int) then (i:Int) else bfK o k i from rfl]
 by_cases e:o.getD i 0=(k:Int)
 ·rw [RH (by omega),RH e,RK (by omega)]; simp
 ·rw [RK (by omega),RK e]
theorem JV {T:aT} {rd:List Int} {free:Int} (ho:∀t∈o,1<=t) (xs:List Int):∀(c i:Nat) (last:Int),i+c=o.length->(0<i->last=o.getD (i-1) 0) ->
  (KX (nX xs) (gh T rd free i last (aOf o i) (o.drop i))↔∀j,i<=j->j<o.length->(cg T rd free o).okI xs j)
 | 0,i,last,hi,_=>by
  obtain rfl:i=o.length:=by omega
  rw [SP]
  exact ⟨fun _ j h1 h2=>absurd h2 (by omega),fun _=>by intro a ha; cases ha⟩
 | c+1,i,last,hi,hl=>by
  have hil:i<o.length:=by omega
  have hge:o.getD i 0=o[i]:=by rw [Rw,Rx hil]; rfl
  have h1:1<=o.getD i 0:=by rw [hge]; exact ho _ (RM hil)
  have ih:=JV ho xs (T:=T) (rd:=rd) (free:=free) c (i+1) (o.getD i 0) (by omega) (fun _=>rfl)
  rw [Sw hil,<-hge]
  simp only [gh]
  rw [kU,kU,kU,Ex h1,ih]
  have hb:=vC o (o.getD i 0-1) i
  obtain ⟨k,hk⟩:∃k:Nat,o.getD i 0-1=(k:Int):=⟨(o.getD i 0-1).toNat,by omega⟩
  have e0:(((i:Int)+1).toNat)=i+1:=by omega
  have eX:nX xs (i+1)=xs.getD i 0:=rfl
  have epv:TP.pv xs i=nX xs i:=rfl
  have esrc:gu T rd (aOf o i) (o.getD i 0-1).toNat=(if bfK o (o.getD i 0-1) i<0 then (0,rd.getD (o.getD i 0-1).toNat 0) else ((bfK o (o.getD i 0-1) i).toNat+1,wT T+tmT T (o.getD i 0-1).toNat)):=by
   unfold gu aOf
   rw [hk,RW]
   by_cases hn:bfK o (k:Int) i<0
   ·rw [RH hn,RH hn]
   ·rw [RK hn,RK hn]
  rw [esrc]
  have head:(nX xs (hdT T free i last (o.getD i 0)).f.toNat+(hdT T free i last (o.getD i 0)).w<=nX xs (hdT T free i last (o.getD i 0)).t.toNat)↔TP.pv xs i+(cg T rd free o).hd i<=xs.getD i 0:=by
   unfold hdT
   show _↔TP.pv xs i+(if i=0 then free+T.travel else wT T+btw T (o.getD (i-1) 0) (o.getD i 0))<=_
   by_cases h0:i=0
   ·subst h0
    rw [RH rfl,RH rfl]
    exact Iff.rfl
   ·rw [RK h0,RK h0,hl (by omega),epv]
    simp only [RW,e0]
    rw [eX]
  rw [head]
  have hst:(cg T rd free o).st i=syT T (o.getD i 0-1).toNat:=rfl
  have hbf:(cg T rd free o).bf i=bfK o (o.getD i 0-1) i:=rfl
  have hdn:(cg T rd free o).dn i=if bfK o (o.getD i 0-1) i<0 then rd.getD (o.getD i 0-1).toNat 0 else wT T+tmT T (o.getD i 0-1).toNat:=rfl
  have key:(cg T rd free o).okI xs i↔TP.pv xs i+(cg T rd free o).hd i<=xs.getD i 0/\_/\_:=Iff.rfl
  have split:(∀j,i<=j->j<o.length->(cg T rd free o).okI xs j)↔(cg T rd free o).okI xs i/\∀j,i+1<=j->j<o.length->(cg T rd free o).okI xs j:=
   ⟨fun h=>⟨h i (RR _) hil,fun j h1 h2=>h j (by omega) h2⟩,fun h j h1 h2=>by
    by_cases e:j=i
    ·rw [e]; exact h.1
    ·exact h.2 j (by omega) h2⟩
  rw [split,key]
  unfold TP.sr
  rw [hbf,hdn,hst]
  by_cases hn:bfK o (o.getD i 0-1) i<0
  ·rw [RH hn,RH hn,RH hn]
   have z:nX xs 0=0:=rfl
   simp only [e0,eX]
   rw [show (((0:Nat):Int)).toNat=0 from rfl,z]
   constructor
   ·rintro ⟨a,b,c,d⟩; exact ⟨⟨a,b,by omega⟩,d⟩
   ·rintro ⟨⟨a,b,c⟩,d⟩; exact ⟨a,b,by omega,d⟩
  ·rw [RK hn,RK hn,RK hn]
   have z:∀p:Nat,nX xs (((p+1:Nat):Int)).toNat=xs.getD p 0:=fun p=>by rw [RW]; rfl
   simp only [e0,eX,z]
   constructor
   ·rintro ⟨a,b,c,d⟩; exact ⟨⟨a,b,by omega⟩,d⟩
   ·rintro ⟨⟨a,b,c⟩,d⟩; exact ⟨a,b,by omega,d⟩
theorem ES {T:aT} {rd:List Int} {free:Int} (ho:∀t∈o,1<=t) (hx:xs.length=o.length):KX (nX xs) (ck T rd free o)↔(cg T rd free o).ok xs:=by
 have h:=JV (T:=T) (rd:=rd) (free:=free) ho xs o.length 0 (-2) (by omega) (fun h=>absurd h (by omega))
 have ea:aOf o 0=fun _=>none:=by funext k; simp [aOf,bfK]
 rw [ea,RT] at h
 unfold ck
 rw [h]
 exact ⟨fun h=>⟨hx,fun i hi=>h i (by omega) hi⟩,fun h j _ hj=>h.2 j hj⟩
def xJ (T:aT) (rd:List Int) (free:Int) (o:List Int):Option (List cO):=((cg T rd free o).ref (o.length+2) (List.replicate o.length 0)).map fun xs=>mkX (nX xs) 0 o
theorem wB {T:aT} {rd:List Int} {free:Int} (hS:Sit T rd free) (hE:Emp (b0 rd) o):xJ T rd free o=dc T rd free o:=by
 have hn:=qX hE
 have ho:∀t∈o,1<=t:=fun t ht=>(hn t ht).1
 have hw:=Jc T rd free o
 have kX:∀ys,(cg T rd free o).ok ys->KX (nX ys) (ck T rd free o)/\∃s,rF T (st0 rd free) (mkX (nX ys) 0 o)=some s:=fun ys hy=>by
  have hK:=(ES (T:=T) (rd:=rd) (free:=free) ho hy.1).2 hy
  exact ⟨hK,(mM hS (X:=nX ys) rfl hE).1.2 ⟨hK,fun j _ hj=>by have:=Jb hS (X:=nX ys) rfl hE hK hj; omega⟩⟩
 unfold xJ
 cases ht:dc T rd free o with
 | none=>
  cases hr:(cg T rd free o).ref (o.length+2) (List.replicate o.length 0) with
  | none=>rfl
  | some ys=>
   have hy:=TP.ref_ok hw _ _ _ (by simp [cg]) hr
   obtain ⟨_,s,hs⟩:=kX ys hy
   rw [yN hS hE ht (Y:=nX ys) rfl] at hs
   cases hs
 | some l=>
  obtain ⟨X,x0,hl,hs,hX⟩:=gM hS hE ht
  rw [hl] at hs
  have hK:=((mM hS x0 hE).1.1 hs).1
  obtain ⟨L,hL⟩:∃L:List Int,L=(List.range o.length).map fun j=>X (j+1):=⟨_,rfl⟩
  have hLl:L.length=o.length:=by rw [hL]; simp
  have hLg:∀j,j<o.length->L.getD j 0=X (j+1):=fun j hj=>by
   rw [hL,Rw,SY,Tj hj]; rfl
  have hnX:∀j,j<=o.length->nX L j=X j:=fun j hj=>by
   unfold nX
   split
   ·rename_i e; rw [e,x0]
   ·rename_i e; rw [hLg _ (by omega),show j-1+1=j by omega]
  have hKL:KX (nX L) (ck T rd free o):=fun a ha=>by
   have:=hK a ha
   obtain ⟨⟨o1,o2,_,_⟩,_⟩:=(fM hS hE (fun hne=>uL hS x0 hE hne hK)).2 a ha
   rw [hnX _ (by omega),hnX _ (by omega)]
   exact this
  have hok:(cg T rd free o).ok L:=(ES ho hLl).1 hKL
  have hleast:TP.least (cg T rd free o) L:=⟨hok,fun ys hy=>by
   obtain ⟨_,hs2⟩:=kX ys hy
   have:=hX (nX ys) rfl hs2
   refine ⟨by rw [hLl,hy.1]; rfl,fun j hj=>?_⟩
   have h1:=this (j+1) (by omega)
   rw [hLg j (by omega)]
   exact h1⟩
  have hpos:=C5 hS (X:=X) x0 o 0 (-2) (fun _=>none) hK (by omega)
  have hr:=TP.ref_least hw hleast (o.length+2) (List.replicate o.length 0) ⟨by simp [hLl],fun j hj=>by
   have hj:j<o.length:=by simpa using hj
   rw [hLg j hj,Rw,SW,RH hj]
   exact hpos (j+1) (by omega) (by omega)⟩ (by show o.length+1<=_; omega)
  rw [hr,hl,Ss]
  congr 1
  exact uA o 0 fun j h1 h2=>hnX j (by omega)
end Tr
namespace Tr
open Go
open Cy (GC aM bc aA)
open Clu (aT aY af chA aK aZ bD cB bA bK bL cK)
def Lu:MC:=.seq (.region [.a 15,.ae 25 0 0]) (.cond (.var 25) (.seq (.region [.a 9,.a 15,.s 1 1,.e 1 0 2,.b 1 3,.a 7,.o 4 5,.d 3 4,.b 1 7,.o 6 8,.c 16 9]) (.seq (.region [.a 3,.a 15,.e 1 0 1,.b 1 2,.a 3,.a 15,.s 5 1,.e 1 4 6,.b 1 7,.i 8 1,.ay 26 3 9]) (.cond (.var 26) (.region [.a 9,.a 15,.s 1 1,.e 1 0 2,.b 1 3,.a 7,.o 4 5,.c 16 6]) .skip))) .skip)
def IU:MC:=.seq (.region [.a 10,.a 15,.e 1 0 1,.b 1 2,.ac 27 3 0]) (.cond (.var 27) (.seq (.region [.a 16,.a 1,.a 17,.e 1 1 2,.b 1 3,.bd 0 4,.c 16 5]) (.seq (.region [.a 9,.a 15,.e 1 0 1,.b 1 2,.a 16,.bd 3 4,.a 1,.a 17,.e 1 6 7,.b 1 8,.d 0 4,.b 1 10,.a 17,.e 2 11 12,.m 1 13,.b 1 14,.o 9 15,.bl 28 5 16]) (.cond (.var 28) (.seq (.region [.w 5,.g 6]) .ret) .skip))) (.region [.a 16,.a 9,.a 10,.a 15,.e 1 2 3,.b 1 4,.e 1 1 5,.b 1 6,.a 7,.o 7 8,.d 0 4,.b 1 10,.a 17,.e 2 11 12,.m 0 13,.b 1 14,.o 9 15,.bd 0 16,.c 16 17]))
def MS:MC:=.seq (.region [.a 16,.a 9,.a 15,.e 1 1 2,.b 1 3,.bl 29 0 4]) (.cond (.var 29) (.seq (.region [.a 9,.a 15,.a 16,.e 1 0 1,.A 1 3 2]) (.region [.I 14])) .skip)
def Lt:MC:=.seq (.region [.a 10,.a 15,.e 1 0 1,.b 1 2,.X 3 0,.h 4,.k 9 5,.k 10 5,.k 15 5,.L 1 7 8 5,.x 1 9 5,.L 1 6 10 5,.x 1 11 5,.k 9 5,.k 15 5,.L 1 13 14 5,.x 1 15 5,.k 7 5,.aw 16 17 5,.O 0 4 5,.x 1 19 5,.k 17 5,.L 2 20 21 5,.ak 0 22 5,.x 1 23 5,.aw 18 24 5,.O 0 4 5,.x 1 26 5,.k 17 5,.L 2 27 28 5,.ak 1 29 5,.x 1 30 5,.aw 25 31 5,.cj 12 32 5,.Z 30 5 33]) (.cond (.var 30) (.seq (.region [.a 9,.a 10,.a 15,.e 1 1 2,.b 1 3,.a 9,.a 15,.e 1 5 6,.b 1 7,.a 7,.ap 8 9,.d 0 4,.b 1 11,.a 17,.e 2 12 13,.m 0 14,.b 1 15,.ap 10 16,.d 0 4,.b 1 18,.a 17,.e 2 19 20,.m 1 21,.b 1 22,.ap 17 23,.e 1 0 4,.A 1 25 24]) (.region [.I 14])) .skip)
theorem sk:jb=.seq (.seq (.region [.a 15,.a 8,.F 24 0 1]) (.cond (.var 24) .skip (.exit 6))) (.seq (.seq (.block 7 (.seq (.region [.a 2,.d 3 4,.b 1 1,.o 0 2,.c 16 3]) (.seq Lu (.seq (.region [.a 3,.a 15,.e 1 0 1,.b 1 2,.s 3 1,.c 17 4]) (.seq IU (.seq MS Lt)))))) (.kill [0,5,6,11,12,16,17,18,19,20,21,22,23,24,25,26,27,28,29,30,31,32])) (.region [.a 15,.i 0 1,.c 15 1])):=rfl
def ir:List (FuncId × aJ):=[(22,aG 4 M22)]
@[simp] theorem Ob:aE ir 22=some (aG 4 M22):=rfl
theorem tc:∀f M,aE ir f=some M->au Try.prog GC f M:=ai (au.of_pure rY 4) aB
def M39:aU:=fun args=>evP (aw GC ir) 300 AG 4 args
theorem EI:ax Try.prog GC 39 M39:=ax.of_ev (E:=aw GC ir) (ay tc) rfl M2 yn 4 fun _ _ h=>⟨300,h⟩
def Bd (K:Nat) (xs:List Int):Prop:=∀j,0<=xs.getD j 0/\xs.getD j 0<=3000000*(K:Int)
theorem Bd.set (h:Bd K xs) {v:Int} (hv:0<=v/\v<=3000000*((K+1:Nat):Int)):Bd (K+1) (xs.set i v):=fun j=>by
 rw [dp]
 split
 ·exact hv
 ·have:=h j; omega
theorem Bd.mono (h:Bd K xs):Bd (K+1) xs:=fun j=>by have:=h j; omega
theorem Bd.set2 (h:Bd K xs) {v:Int} (hv:0<=v/\v<=3000000*(K:Int)):Bd K (xs.set i v):=fun j=>by
 rw [dp]
 split
 ·exact hv
 ·exact h j
structure yJ (T:aT) (rd:List Int) (free:Int) (o:List Int):Prop where
 v:aY T
 f:0<=free/\free<=2000000
 r:rd.length=T.ch.length
 rb:∀k,-1<=rd.getD k 0/\rd.getD k 0<=500000
 ob:∀t∈o,1<=t/\t<=T.ch.length
 m:o.length<=10
theorem yJ.og {T:aT} (h:yJ T rd free o) (hi:i<o.length):1<=o.getD i 0/\o.getD i 0<=T.ch.length:=by
 rw [Rw,Rx hi]; exact h.ob _ (RM hi)
theorem yJ.w {T:aT} (h:yJ T rd free o) (i:Nat) (_hi:i<o.length):0<=(cg T rd free o).hd i/\(cg T rd free o).hd i<=2100000 /\ -1<=(cg T rd free o).dn i/\(cg T rd free o).dn i<=500000/\0<=(cg T rd free o).st i/\(cg T rd free o).st i<=100000:=by
 have hw:=da h.v
 have hc:=di h.v (o.getD i 0-1).toNat
 have hr:=h.rb (o.getD i 0-1).toNat
 have hb:=mN h.v (o.getD (i-1) 0) (o.getD i 0)
 have hf:=h.f
 unfold cg
 simp only
 refine ⟨?_,?_,?_,?_,by omega,by omega⟩
 ·split <;> omega
 ·split <;> omega
 ·split <;> omega
 ·split <;> omega
theorem Gz {T:aT} (h:yJ T rd free o) {s':List Int × Bool} (hb:Bd K s.1) (hl:s.1.length=o.length) (hi:i<o.length) (hs:(cg T rd free o).step s i=some s'):Bd (K+1) s'.1/\s'.1.length=o.length:=by
 have hw:=Jc T rd free o
 refine ⟨?_,(TP.step_spec hw hl hi hs).1⟩
 obtain ⟨a1,a2,a3,a4,a5,a6⟩:=h.w i hi
 have hpv:0<=TP.pv s.1 i/\TP.pv s.1 i<=3000000*(K:Int):=by
  unfold TP.pv
  split
  ·omega
  ·exact hb _
 have b1:=hb i
 unfold TP.step at hs
 split at hs
 ·split at hs
  ·cases hs
  ·injection hs with hs
   rw [<-hs]
   unfold TP.up
   split
   ·exact hb.set ⟨by omega,by omega⟩
   ·exact hb.mono
 ·injection hs with hs
  have b2:=hb ((cg T rd free o).bf i).toNat
  have u1:Bd (K+1) (TP.up s i (max (TP.pv s.1 i+(cg T rd free o).hd i) (s.1.getD ((cg T rd free o).bf i).toNat 0+(cg T rd free o).dn i))).1:=by
   unfold TP.up
   split
   ·exact hb.set ⟨by omega,by omega⟩
   ·exact hb.mono
  generalize TP.up s i (max (TP.pv s.1 i+(cg T rd free o).hd i) (s.1.getD ((cg T rd free o).bf i).toNat 0+(cg T rd free o).dn i))=s1 at *
  rw [<-hs]
  unfold TP.up
  have c1:=u1 i
  have c2:=u1 ((cg T rd free o).bf i).toNat
  split
  ·refine u1.set2 ⟨by omega,?_⟩
   by_cases hd0:0<=(cg T rd free o).dn i
   ·omega
   ·
    rename_i hn _
    have:(cg T rd free o).dn i=wT T+tmT T (o.getD i 0-1).toNat:=RK hn
    have:=da h.v
    have:=di h.v (o.getD i 0-1).toNat
    omega
  ·exact u1
def A39 (tv:AV) (xs bs:List Int):ac:=[.row 5 false [tv],.row 1 false (aj xs),.row 1 false (aj bs)]
theorem kV (tv:AV) (xs bs:List Int):(A39 tv xs bs)[1]?=some (.row 1 false (aj xs)):=rfl
theorem vQ (tv:AV) (xs bs:List Int):(A39 tv xs bs)[2]?=some (.row 1 false (aj bs)):=rfl
theorem Gq (tv:AV) (xs xs' bs:List Int):(A39 tv xs bs).set 1 (.row 1 false (aj xs'))=A39 tv xs' bs:=rfl
theorem Gp (tv:AV) (xs bs bs':List Int):(A39 tv xs bs).set 2 (.row 1 false (aj bs'))=A39 tv xs bs':=rfl
def bfL (o:List Int):List Int:=(List.range o.length).map fun j=>bfK o (o.getD j 0-1) j
theorem CD (o:List Int):(bfL o).length=o.length:=by simp [bfL]
theorem CE (o:List Int) (h:i<o.length):(bfL o).getD i 0=bfK o (o.getD i 0-1) i:=by
 unfold bfL
 rw [Rw,SY,Tj h]; rfl
section
variable {T:aT} {chv rv ov:AV} {rd o xs:List Int} {free:Int} {i K:Nat} {ch:Bool} {v13:AV}
theorem pa39 (h:yJ T rd free o) (ho:SlA 1 (aj o) ov) (hi:i<o.length) (hx:xs.length=o.length) (hb:Bd K xs) (hK:K<=1000) :
  ∃e25 e26,∀KK,run (aw GC ir) 300 (.code Lu :: KK) (.undef :: rv :: .int .i64 free :: ov :: .ptr 0 0 0 :: .undef :: .undef :: .int .i64 (wT T) :: .int .i64 (o.length:Int) :: .sl 1 0 o.length :: .sl 2 0 o.length :: .undef :: .undef :: v13 :: .bool ch :: .int .i64 (i:Int) :: .int .i64 (free+T.travel) :: .undef :: .undef :: .undef :: .undef :: .undef :: .undef :: .undef :: .bool true :: .undef :: .undef :: .undef :: .undef :: .undef :: .undef :: .undef :: .undef :: []) (A39 (af T chv) xs (bfL o))=run (aw GC ir) 300 KK (.undef :: rv :: .int .i64 free :: ov :: .ptr 0 0 0 :: .undef :: .undef :: .int .i64 (wT T) :: .int .i64 (o.length:Int) :: .sl 1 0 o.length :: .sl 2 0 o.length :: .undef :: .undef :: v13 :: .bool ch :: .int .i64 (i:Int) :: .int .i64 (TP.pv xs i+(cg T rd free o).hd i) :: .undef :: .undef :: .undef :: .undef :: .undef :: .undef :: .undef :: .bool true :: e25 :: e26 :: .undef :: .undef :: .undef :: .undef :: .undef :: .undef :: []) (A39 (af T chv) xs (bfL o)):=by
 have b1:=bL (i:Int) 0
 have hw:=da h.v
 have hhd:(cg T rd free o).hd i=if i=0 then free+T.travel else wT T+btw T (o.getD (i-1) 0) (o.getD i 0):=rfl
 by_cases h0:i=0
 ·rw [RD (by omega)] at b1
  have e:TP.pv xs i+(cg T rd free o).hd i=free+T.travel:=by
   unfold TP.pv
   rw [hhd,RH h0,RH h0,Int.zero_add]
  rw [e]
  refine ⟨.bool false,.undef,fun KK=>?_⟩
  generalize A39 (af T chv) xs (bfL o)=A at *
  generalize free+T.travel=FT at *
  generalize (o.length:Int)=M at *
  simp [Lu,b1,-ag]
 rw [RE (by omega)] at b1
 have hpv:TP.pv xs i=xs.getD (i-1) 0:=RK h0
 rw [hpv,hhd,RK h0]
 have b2:ag .sub (.int .i64 (i:Int)) (.int .i64 1)=some (.int .i64 ((i-1:Nat):Int)):=by rw [bD (by have:=h.m; omega)]; congr 2; omega
 have i1:=cE (n:=o.length) (kV (af T chv) xs (bfL o)) (show i-1<o.length by omega) .i64
 have d1:=fg (kV (af T chv) xs (bfL o)) (show i-1<xs.length by omega)
 have hbx:=hb (i-1)
 have hog:=h.og (show i-1<o.length by omega)
 have hn4:=h.v.2.2.2.1
 obtain ⟨z,hz⟩:∃z,z=xs.getD (i-1) 0:=⟨_,rfl⟩
 rw [<-hz] at d1 hbx ⊢
 have b3:ag .add (.int .i64 z) (.int .i64 (wT T))=some (.int .i64 (z+wT T)):=aZ (by omega)
 have b4:ag .add (.int .i64 (z+wT T)) (.int .i64 T.travel)=some (.int .i64 (z+wT T+T.travel)):=aZ (by omega)
 obtain ⟨u0,_,_,_,u3⟩:=pA (A:=A39 (af T chv) xs (bfL o)) (id:=0) (T:=T) (chv:=chv) rfl
 have u03:=u0 3 (by omega)
 have x1:∀j,j<o.length->ae 1 (A39 (af T chv) xs (bfL o)) ov (.int .i64 (j:Int))=some (.fp [.int .i64 (o.getD j 0)]):=fun j hj=>by
  have e:o.getD j 0=o[j]:=by rw [Rw,Rx hj]; rfl
  rw [e]
  exact ho.index1 (x:=.int .i64 o[j]) (i:=j) (by simp [aj,hj]) rfl rfl .i64
 have y1:=x1 i hi
 have y2:=x1 (i-1) (by omega)
 have l1:∀A z,ab false 1 A (.fp [.int .i64 z])=some (.int .i64 z):=fun _ _=>rfl
 have b5:ag .add (.int .i64 (o.getD (i-1) 0)) (.int .i64 1)=some (.int .i64 (o.getD (i-1) 0+1)):=aZ (by omega)
 have b6:=bA (o.getD i 0) (o.getD (i-1) 0+1)
 have hbt:btw T (o.getD (i-1) 0) (o.getD i 0)=if o.getD i 0=o.getD (i-1) 0+1 then 0 else T.travel:=rfl
 rw [hbt]
 clear x1 u0
 by_cases hc:o.getD i 0=o.getD (i-1) 0+1
 ·rw [RE hc] at b6
  rw [RH hc,Int.add_zero]
  refine ⟨.bool true,.bool true,fun KK=>?_⟩
  generalize A39 (af T chv) xs (bfL o)=A at *
  generalize free+T.travel=FT at *
  generalize z+wT T+T.travel=z2 at *
  generalize z+wT T=z1 at *
  generalize o.getD (i-1) 0+1=o2 at *
  generalize o.getD (i-1) 0=o1 at *
  generalize o.getD i 0=o0 at *
  generalize ((i-1:Nat):Int)=im at *
  generalize (o.length:Int)=M at *
  simp [Lu,b1,b2,i1,d1,b3,b4,u03,u3,y1,y2,l1,b5,b6,-ag,-ab,-ae,-aa]
 ·rw [RD hc] at b6
  rw [RK hc,<-Int.add_assoc]
  refine ⟨.bool true,.bool false,fun KK=>?_⟩
  generalize A39 (af T chv) xs (bfL o)=A at *
  generalize free+T.travel=FT at *
  generalize z+wT T+T.travel=z2 at *
  generalize z+wT T=z1 at *
  generalize o.getD (i-1) 0+1=o2 at *
  generalize o.getD (i-1) 0=o1 at *
  generalize o.getD i 0=o0 at *
  generalize ((i-1:Nat):Int)=im at *
  generalize (o.length:Int)=M at *
  simp [Lu,b1,b2,i1,d1,b3,b4,u03,u3,y1,y2,l1,b5,b6,-ag,-ab,-ae,-aa]
theorem Nv (a b:Int):dq true (.int .i64 a) [.int .i64 b]=some (.int .i64 (max a b)):=by
 simp only [dq,fj]
 by_cases h:a<=b
 ·rw [show max a b=b by omega]; simp; omega
 ·rw [show max a b=a by omega]; simp; omega
def l1T (t:TP) (xs:List Int) (i:Nat):Int:=max (TP.pv xs i+t.hd i) (if t.bf i<0 then t.dn i else xs.getD (t.bf i).toNat 0+t.dn i)
theorem pb39 (h:yJ T rd free o) (hcv:SlA 2 (T.ch.map chA) chv) (hr:SlA 1 (aj rd) rv) (hi:i<o.length) (hx:xs.length=o.length) (hb:Bd K xs) (hK:K<=1000) {kk:Nat} (hk:o.getD i 0-1=(kk:Int)) (e25 e26:AV) :
  (((cg T rd free o).bf i<0/\max (xs.getD i 0) (l1T (cg T rd free o) xs i) > (cg T rd free o).dn i+(cg T rd free o).st i)->∃ σ B,(∀KK,run (aw GC ir) 300 (.code IU :: KK) (.undef :: rv :: .int .i64 free :: ov :: .ptr 0 0 0 :: .undef :: .undef :: .int .i64 (wT T) :: .int .i64 (o.length:Int) :: .sl 1 0 o.length :: .sl 2 0 o.length :: .undef :: .undef :: v13 :: .bool ch :: .int .i64 (i:Int) :: .int .i64 (TP.pv xs i+(cg T rd free o).hd i) :: .int .i64 (kk:Int) :: .undef :: .undef :: .undef :: .undef :: .undef :: .undef :: .bool true :: e25 :: e26 :: .undef :: .undef :: .undef :: .undef :: .undef :: .undef :: []) (A39 (af T chv) xs (bfL o))=some (.ret σ B))/\σ[5]?=some .nilS/\σ[6]?=some (.bool false)) /\
  (¬ ((cg T rd free o).bf i<0/\max (xs.getD i 0) (l1T (cg T rd free o) xs i) > (cg T rd free o).dn i+(cg T rd free o).st i)->∃e27 e28,∀KK,run (aw GC ir) 300 (.code IU :: KK) (.undef :: rv :: .int .i64 free :: ov :: .ptr 0 0 0 :: .undef :: .undef :: .int .i64 (wT T) :: .int .i64 (o.length:Int) :: .sl 1 0 o.length :: .sl 2 0 o.length :: .undef :: .undef :: v13 :: .bool ch :: .int .i64 (i:Int) :: .int .i64 (TP.pv xs i+(cg T rd free o).hd i) :: .int .i64 (kk:Int) :: .undef :: .undef :: .undef :: .undef :: .undef :: .undef :: .bool true :: e25 :: e26 :: .undef :: .undef :: .undef :: .undef :: .undef :: .undef :: []) (A39 (af T chv) xs (bfL o))=run (aw GC ir) 300 KK (.undef :: rv :: .int .i64 free :: ov :: .ptr 0 0 0 :: .undef :: .undef :: .int .i64 (wT T) :: .int .i64 (o.length:Int) :: .sl 1 0 o.length :: .sl 2 0 o.length :: .undef :: .undef :: v13 :: .bool ch :: .int .i64 (i:Int) :: .int .i64 (l1T (cg T rd free o) xs i) :: .int .i64 (kk:Int) :: .undef :: .undef :: .undef :: .undef :: .undef :: .undef :: .bool true :: e25 :: e26 :: e27 :: e28 :: .undef :: .undef :: .undef :: .undef :: []) (A39 (af T chv) xs (bfL o))):=by
 have hw:=da h.v
 have hn4:=h.v.2.2.2.1
 obtain ⟨a1,a2,a3,a4,a5,a6⟩:=h.w i hi
 have i2:=cE (n:=o.length) (vQ (af T chv) xs (bfL o)) hi .i64
 have d2:=fg (vQ (af T chv) xs (bfL o)) (show i<(bfL o).length by rw [CD]; exact hi)
 rw [CE o hi] at d2
 have hbf:(cg T rd free o).bf i=bfK o (o.getD i 0-1) i:=rfl
 have hdn:(cg T rd free o).dn i=if bfK o (o.getD i 0-1) i<0 then rd.getD (o.getD i 0-1).toNat 0 else wT T+tmT T (o.getD i 0-1).toNat:=rfl
 have hst:(cg T rd free o).st i=syT T (o.getD i 0-1).toNat:=rfl
 have hbd:=vC o (o.getD i 0-1) i
 have hog:=h.og hi
 have hkl:kk<rd.length:=by rw [h.r]; omega
 rw [<-hbf] at d2 hdn hbd
 rw [hk,RW] at hdn hst
 unfold l1T
 have b1:=bK ((cg T rd free o).bf i) 0
 have hpvb:0<=TP.pv xs i/\TP.pv xs i<=3000000*(K:Int):=by
  unfold TP.pv
  split
  ·omega
  ·exact hb _
 obtain ⟨u0,u1,_,_,u3⟩:=pA (A:=A39 (af T chv) xs (bfL o)) (id:=0) (T:=T) (chv:=chv) rfl
 have u00:=u0 0 (by omega)
 have hc:=wL hcv (k:=kk) (by rw [<-h.r]; exact hkl) (A39 (af T chv) xs (bfL o)) .i64
 have hch:=di h.v kk
 have y0:∀A u v,aa 0 A (.fp [u,v])=some (.fp [u,v]):=fun _ _ _=>rfl
 have y1:∀A u v,aa 1 A (.fp [u,v])=some (.fp [v]):=fun _ _ _=>rfl
 have z0:∀A z v,ab false 1 A (.fp [.int .i64 z,v])=some (.int .i64 z):=fun _ _ _=>rfl
 have z1:∀A z,ab false 1 A (.fp [.int .i64 z])=some (.int .i64 z):=fun _ _=>rfl
 obtain ⟨b,hbb⟩:∃b,b=(cg T rd free o).bf i:=⟨_,rfl⟩
 rw [<-hbb] at d2 hdn hbd b1 ⊢
 obtain ⟨l0,hl0⟩:∃l0,l0=TP.pv xs i+(cg T rd free o).hd i:=⟨_,rfl⟩
 have hl0b:0<=l0/\l0<=3100000000:=by omega
 rw [<-hl0]
 by_cases hn:b<0
 ·rw [RE hn] at b1
  rw [RH hn] at hdn ⊢
  have x1:ae 1 (A39 (af T chv) xs (bfL o)) rv (.int .i64 (kk:Int))=some (.fp [.int .i64 (rd.getD kk 0)]):=by
   have e:rd.getD kk 0=rd[kk]:=by rw [Rw,Rx hkl]; rfl
   rw [e]
   exact hr.index1 (x:=.int .i64 rd[kk]) (i:=kk) (by simp [aj,hkl]) rfl rfl .i64
  rw [<-hdn] at x1
  have m1:=Nv l0 ((cg T rd free o).dn i)
  have i1:=cE (n:=o.length) (kV (af T chv) xs (bfL o)) hi .i64
  have d1:=fg (kV (af T chv) xs (bfL o)) (show i<xs.length by omega)
  have m2:=Nv (xs.getD i 0) (max l0 ((cg T rd free o).dn i))
  have b2:ag .add (.int .i64 ((cg T rd free o).dn i)) (.int .i64 (syT T kk))=some (.int .i64 ((cg T rd free o).dn i+(cg T rd free o).st i)):=by rw [hst]; exact aZ (by omega)
  have b3:=bL (max (xs.getD i 0) (max l0 ((cg T rd free o).dn i))) ((cg T rd free o).dn i+(cg T rd free o).st i)
  clear u0
  refine ⟨fun hh=>?_,fun hh=>?_⟩
  ·rw [RE hh.2] at b3
   refine ⟨(.undef :: rv :: .int .i64 free :: ov :: .ptr 0 0 0 :: .nilS :: .bool false :: .int .i64 (wT T) :: .int .i64 (o.length:Int) :: .sl 1 0 o.length :: .sl 2 0 o.length :: .undef :: .undef :: v13 :: .bool ch :: .int .i64 (i:Int) :: .int .i64 (max l0 ((cg T rd free o).dn i)) :: .int .i64 (kk:Int) :: .undef :: .undef :: .undef :: .undef :: .undef :: .undef :: .bool true :: e25 :: e26 :: .bool true :: .bool true :: .undef :: .undef :: .undef :: .undef :: []),A39 (af T chv) xs (bfL o),fun KK=>?_,rfl,rfl⟩
   generalize A39 (af T chv) xs (bfL o)=A at *
   generalize max (xs.getD i 0) (max l0 ((cg T rd free o).dn i))=q1 at *
   generalize max l0 ((cg T rd free o).dn i)=q2 at *
   generalize (cg T rd free o).dn i+(cg T rd free o).st i=q3 at *
   generalize xs.getD i 0=xi at *
   generalize (o.length:Int)=M at *
   simp [IU,i2,d2,b1,x1,z1,m1,i1,d1,m2,u00,u1,hc,y1,b2,b3,-ag,-ab,-ae,-aa,-dq,-fj]
  ·rw [RD (fun k=>hh ⟨hn,k⟩)] at b3
   refine ⟨.bool true,.bool false,fun KK=>?_⟩
   generalize A39 (af T chv) xs (bfL o)=A at *
   generalize max (xs.getD i 0) (max l0 ((cg T rd free o).dn i))=q1 at *
   generalize max l0 ((cg T rd free o).dn i)=q2 at *
   generalize (cg T rd free o).dn i+(cg T rd free o).st i=q3 at *
   generalize xs.getD i 0=xi at *
   generalize (o.length:Int)=M at *
   simp [IU,i2,d2,b1,x1,z1,m1,i1,d1,m2,u00,u1,hc,y1,b2,b3,-ag,-ab,-ae,-aa,-dq,-fj]
 ·rw [RD hn] at b1
  rw [RK hn] at hdn ⊢
  refine ⟨fun hh=>absurd hh.1 hn,fun _=>?_⟩
  obtain ⟨p,hp⟩:∃p:Nat,b=(p:Int):=⟨b.toNat,by omega⟩
  rw [hp] at d2 b1 hbd ⊢
  rw [RW]
  have i1:=cE (n:=o.length) (kV (af T chv) xs (bfL o)) (show p<o.length by omega) .i64
  have d1:=fg (kV (af T chv) xs (bfL o)) (show p<xs.length by omega)
  have hbx:=hb p
  have b2:ag .add (.int .i64 (xs.getD p 0)) (.int .i64 (wT T))=some (.int .i64 (xs.getD p 0+wT T)):=aZ (by omega)
  have b3:ag .add (.int .i64 (xs.getD p 0+wT T)) (.int .i64 (tmT T kk))=some (.int .i64 (xs.getD p 0+(cg T rd free o).dn i)):=by rw [aZ (by omega),hdn,Int.add_assoc]
  have m1:=Nv l0 (xs.getD p 0+(cg T rd free o).dn i)
  clear u0
  refine ⟨.bool false,.undef,fun KK=>?_⟩
  generalize A39 (af T chv) xs (bfL o)=A at *
  generalize max l0 (xs.getD p 0+(cg T rd free o).dn i)=q2 at *
  generalize xs.getD p 0+(cg T rd free o).dn i=q3 at *
  generalize xs.getD p 0+wT T=q4 at *
  generalize xs.getD p 0=xp at *
  generalize (p:Int)=pI at *
  generalize (o.length:Int)=M at *
  simp [IU,i2,d2,b1,i1,d1,b2,b3,m1,u00,u1,hc,y0,z0,-ag,-ab,-ae,-aa,-dq,-fj]
theorem pc39 (hi:i<o.length) (hx:xs.length=o.length) (l:Int) (x17 e25 e26 e27 e28:AV) :
  ∃e29,∀KK,run (aw GC ir) 300 (.code MS :: KK) (.undef :: rv :: .int .i64 free :: ov :: .ptr 0 0 0 :: .undef :: .undef :: .int .i64 (wT T) :: .int .i64 (o.length:Int) :: .sl 1 0 o.length :: .sl 2 0 o.length :: .undef :: .undef :: v13 :: .bool ch :: .int .i64 (i:Int) :: .int .i64 l :: x17 :: .undef :: .undef :: .undef :: .undef :: .undef :: .undef :: .bool true :: e25 :: e26 :: e27 :: e28 :: .undef :: .undef :: .undef :: .undef :: []) (A39 (af T chv) xs (bfL o))=run (aw GC ir) 300 KK (.undef :: rv :: .int .i64 free :: ov :: .ptr 0 0 0 :: .undef :: .undef :: .int .i64 (wT T) :: .int .i64 (o.length:Int) :: .sl 1 0 o.length :: .sl 2 0 o.length :: .undef :: .undef :: v13 :: .bool (TP.up (xs,ch) i l).2 :: .int .i64 (i:Int) :: .int .i64 l :: x17 :: .undef :: .undef :: .undef :: .undef :: .undef :: .undef :: .bool true :: e25 :: e26 :: e27 :: e28 :: e29 :: .undef :: .undef :: .undef :: []) (A39 (af T chv) (TP.up (xs,ch) i l).1 (bfL o)):=by
 have i1:=cE (n:=o.length) (kV (af T chv) xs (bfL o)) hi .i64
 have d1:=fg (kV (af T chv) xs (bfL o)) (show i<xs.length by omega)
 have b1:=bL l (xs.getD i 0)
 have s1:=iH (kV (af T chv) xs (bfL o)) (show i<xs.length by omega) l
 rw [Gq] at s1
 unfold TP.up
 simp only
 by_cases h:l > xs.getD i 0
 ·rw [RH h]
  rw [RE h] at b1
  refine ⟨.bool true,fun KK=>?_⟩
  generalize A39 (af T chv) xs (bfL o)=A at *
  generalize A39 (af T chv) (xs.set i l) (bfL o)=B at *
  generalize xs.getD i 0=xi at *
  generalize (o.length:Int)=M at *
  simp [MS,i1,d1,b1,s1,-ag,-ab,-ae,-az]
 ·rw [RK h]
  rw [RD h] at b1
  refine ⟨.bool false,fun KK=>?_⟩
  generalize A39 (af T chv) xs (bfL o)=A at *
  generalize xs.getD i 0=xi at *
  generalize (o.length:Int)=M at *
  simp [MS,i1,d1,b1,-ag,-ab,-ae,-az]
theorem pd39 (h:yJ T rd free o) (hcv:SlA 2 (T.ch.map chA) chv) (hi:i<o.length) (hx:xs.length=o.length) (hb:Bd K xs) (hK:K<=1000) {kk:Nat} (hk:o.getD i 0-1=(kk:Int)) (x16 e25 e26 e27 e28 e29:AV) :
  ∃e30,∀KK,run (aw GC ir) 300 (.code Lt :: KK) (.undef :: rv :: .int .i64 free :: ov :: .ptr 0 0 0 :: .undef :: .undef :: .int .i64 (wT T) :: .int .i64 (o.length:Int) :: .sl 1 0 o.length :: .sl 2 0 o.length :: .undef :: .undef :: v13 :: .bool ch :: .int .i64 (i:Int) :: x16 :: .int .i64 (kk:Int) :: .undef :: .undef :: .undef :: .undef :: .undef :: .undef :: .bool true :: e25 :: e26 :: e27 :: e28 :: e29 :: .undef :: .undef :: .undef :: []) (A39 (af T chv) xs (bfL o))=run (aw GC ir) 300 KK (.undef :: rv :: .int .i64 free :: ov :: .ptr 0 0 0 :: .undef :: .undef :: .int .i64 (wT T) :: .int .i64 (o.length:Int) :: .sl 1 0 o.length :: .sl 2 0 o.length :: .undef :: .undef :: v13 :: .bool (if (cg T rd free o).bf i<0 then (xs,ch) else TP.up (xs,ch) ((cg T rd free o).bf i).toNat (xs.getD i 0-(cg T rd free o).dn i-(cg T rd free o).st i)).2 :: .int .i64 (i:Int) :: x16 :: .int .i64 (kk:Int) :: .undef :: .undef :: .undef :: .undef :: .undef :: .undef :: .bool true :: e25 :: e26 :: e27 :: e28 :: e29 :: e30 :: .undef :: .undef :: []) (A39 (af T chv) (if (cg T rd free o).bf i<0 then (xs,ch) else TP.up (xs,ch) ((cg T rd free o).bf i).toNat (xs.getD i 0-(cg T rd free o).dn i-(cg T rd free o).st i)).1 (bfL o)):=by
 have hw:=da h.v
 have hn4:=h.v.2.2.2.1
 have i2:=cE (n:=o.length) (vQ (af T chv) xs (bfL o)) hi .i64
 have d2:=fg (vQ (af T chv) xs (bfL o)) (show i<(bfL o).length by rw [CD]; exact hi)
 rw [CE o hi] at d2
 have hbf:(cg T rd free o).bf i=bfK o (o.getD i 0-1) i:=rfl
 have hdn:(cg T rd free o).dn i=if bfK o (o.getD i 0-1) i<0 then rd.getD (o.getD i 0-1).toNat 0 else wT T+tmT T (o.getD i 0-1).toNat:=rfl
 have hst:(cg T rd free o).st i=syT T (o.getD i 0-1).toNat:=rfl
 have hbd:=vC o (o.getD i 0-1) i
 have hog:=h.og hi
 rw [<-hbf] at d2 hdn hbd
 rw [hk,RW] at hdn hst
 obtain ⟨b,hbb⟩:∃b,b=(cg T rd free o).bf i:=⟨_,rfl⟩
 rw [<-hbb] at d2 hdn hbd ⊢
 have b1:=Cy.iO b
 by_cases hn:b<0
 ·rw [RH hn]
  rw [RD (by omega)] at b1
  refine ⟨.bool false,fun KK=>?_⟩
  generalize A39 (af T chv) xs (bfL o)=A at *
  generalize (o.length:Int)=M at *
  simp [Lt,i2,d2,b1,-ag,-ab,-ae,-az]
 rw [RK hn] at hdn ⊢
 rw [RE (by omega)] at b1
 obtain ⟨p,hp⟩:∃p:Nat,b=(p:Int):=⟨b.toNat,by omega⟩
 rw [hp] at d2 b1 hbd ⊢
 rw [RW]
 have i1:=cE (n:=o.length) (kV (af T chv) xs (bfL o)) (show p<o.length by omega) .i64
 have d1:=fg (kV (af T chv) xs (bfL o)) (show p<xs.length by omega)
 have i3:=cE (n:=o.length) (kV (af T chv) xs (bfL o)) hi .i64
 have d3:=fg (kV (af T chv) xs (bfL o)) (show i<xs.length by omega)
 have hbx:=hb i
 obtain ⟨u0,u1,_,_,_⟩:=pA (A:=A39 (af T chv) xs (bfL o)) (id:=0) (T:=T) (chv:=chv) rfl
 have u00:=u0 0 (by omega)
 have hc:=wL hcv (k:=kk) (by omega) (A39 (af T chv) xs (bfL o)) .i64
 have hch:=di h.v kk
 have y0:∀A u v,aa 0 A (.fp [u,v])=some (.fp [u,v]):=fun _ _ _=>rfl
 have y1:∀A u v,aa 1 A (.fp [u,v])=some (.fp [v]):=fun _ _ _=>rfl
 have z0:∀A z v,ab false 1 A (.fp [.int .i64 z,v])=some (.int .i64 z):=fun _ _ _=>rfl
 have z1:∀A z,ab false 1 A (.fp [.int .i64 z])=some (.int .i64 z):=fun _ _=>rfl
 have b2:ag .sub (.int .i64 (xs.getD i 0)) (.int .i64 (wT T))=some (.int .i64 (xs.getD i 0-wT T)):=bD (by omega)
 have b3:ag .sub (.int .i64 (xs.getD i 0-wT T)) (.int .i64 (tmT T kk))=some (.int .i64 (xs.getD i 0-(cg T rd free o).dn i)):=by rw [bD (by omega),hdn]; congr 2; omega
 have b4:ag .sub (.int .i64 (xs.getD i 0-(cg T rd free o).dn i)) (.int .i64 (syT T kk))=some (.int .i64 (xs.getD i 0-(cg T rd free o).dn i-(cg T rd free o).st i)):=by rw [hst]; exact bD (by omega)
 obtain ⟨l,hl⟩:∃l,l=xs.getD i 0-(cg T rd free o).dn i-(cg T rd free o).st i:=⟨_,rfl⟩
 rw [<-hl] at b4 ⊢
 have b5:=bK (xs.getD p 0) l
 have s1:=iH (kV (af T chv) xs (bfL o)) (show p<xs.length by omega) l
 rw [Gq] at s1
 clear u0
 unfold TP.up
 simp only
 by_cases hg:l > xs.getD p 0
 ·rw [RH hg]
  rw [RE (by omega)] at b5
  refine ⟨.bool true,fun KK=>?_⟩
  generalize A39 (af T chv) (xs.set p l) (bfL o)=B at *
  generalize A39 (af T chv) xs (bfL o)=A at *
  generalize xs.getD i 0-(cg T rd free o).dn i=q1 at *
  generalize xs.getD i 0-wT T=q2 at *
  generalize xs.getD p 0=q3 at *
  generalize xs.getD i 0=q4 at *
  generalize (p:Int)=pI at *
  generalize (o.length:Int)=M at *
  simp [Lt,i2,d2,b1,i1,d1,i3,d3,u00,u1,hc,y0,y1,z0,z1,b2,b3,b4,b5,s1,-ag,-ab,-ae,-az,-aa]
 ·rw [RK hg]
  rw [RD (by omega)] at b5
  refine ⟨.bool false,fun KK=>?_⟩
  generalize A39 (af T chv) xs (bfL o)=A at *
  generalize xs.getD i 0-(cg T rd free o).dn i=q1 at *
  generalize xs.getD i 0-wT T=q2 at *
  generalize xs.getD p 0=q3 at *
  generalize xs.getD i 0=q4 at *
  generalize (p:Int)=pI at *
  generalize (o.length:Int)=M at *
  simp [Lt,i2,d2,b1,i1,d1,i3,d3,u00,u1,hc,y0,y1,z0,z1,b2,b3,b4,b5,-ag,-ab,-ae,-az,-aa]
end
end Tr
namespace Tr
open Go
open Cy (GC aM bc aA)
open Clu (aT aY af chA aK aZ bD cB bA bK bL cK)
theorem Du (t:TP) (s:List Int × Bool) (i:Nat):t.step s i=if t.bf i<0/\max (s.1.getD i 0) (l1T t s.1 i) > t.dn i+t.st i then none else some (if t.bf i<0 then TP.up s i (l1T t s.1 i) else TP.up (TP.up s i (l1T t s.1 i)) (t.bf i).toNat ((TP.up s i (l1T t s.1 i)).1.getD i 0-t.dn i-t.st i)):=by
 unfold TP.step l1T
 by_cases h:t.bf i<0
 ·rw [RH h,RH h,RH h]
  by_cases h2:max (s.1.getD i 0) (max (TP.pv s.1 i+t.hd i) (t.dn i)) > t.dn i+t.st i
  ·rw [RH h2,RH ⟨h,h2⟩]
  ·rw [RK h2,RK (fun k=>h2 k.2)]
 ·rw [RK h,RK h,RK h,RK (fun k=>h k.1)]
section
variable {T:aT} {chv rv ov:AV} {rd o xs:List Int} {free:Int} {i K:Nat} {ch:Bool} {v13:AV}
abbrev wm (T:aT) (rv:AV) (free:Int) (ov:AV) (m:Nat) (v13:AV) (ch:Bool) (i:Nat):List AV:=z6 rv (.int .i64 free) ov (.ptr 0 0 0) (.int .i64 (wT T)) (.int .i64 (m:Int)) (.sl 1 0 m) (.sl 2 0 m) v13 (.bool ch) (.int .i64 (i:Int))
theorem Hp (h:yJ T rd free o) (hcv:SlA 2 (T.ch.map chA) chv) (hr:SlA 1 (aj rd) rv) (ho:SlA 1 (aj o) ov) (hi:i<o.length) (hx:xs.length=o.length) (hb:Bd K xs) (hK:K<=900) :
  match (cg T rd free o).step (xs,ch) i with
  | some s=>run (aw GC ir) 300 [.code jb] (wm T rv free ov o.length v13 ch i) (A39 (af T chv) xs (bfL o))=some (.normal (wm T rv free ov o.length v13 s.2 (i+1)) (A39 (af T chv) s.1 (bfL o)))
  | none=>∃ σ B,run (aw GC ir) 300 [.code jb] (wm T rv free ov o.length v13 ch i) (A39 (af T chv) xs (bfL o))=some (.ret σ B)/\σ[5]?=some .nilS/\σ[6]?=some (.bool false):=by
 have hw:=da h.v
 have hf:=h.f
 have hm:=h.m
 have hog:=h.og hi
 have hn4:=h.v.2.2.2.1
 obtain ⟨kk,hk⟩:∃kk:Nat,o.getD i 0-1=(kk:Int):=⟨(o.getD i 0-1).toNat,by omega⟩
 have b0':=a9 i o.length .i64
 rw [RE hi] at b0'
 have b9:=aV i (by omega)
 obtain ⟨u0,_,_,_,u3⟩:=pA (A:=A39 (af T chv) xs (bfL o)) (id:=0) (T:=T) (chv:=chv) rfl
 have u03:=u0 3 (by omega)
 have bF:ag .add (.int .i64 free) (.int .i64 T.travel)=some (.int .i64 (free+T.travel)):=aZ (by omega)
 obtain ⟨e25,e26,pa⟩:=pa39 (chv:=chv) (rv:=rv) (ch:=ch) (v13:=v13) h ho hi hx hb (by omega)
 have y1:ae 1 (A39 (af T chv) xs (bfL o)) ov (.int .i64 (i:Int))=some (.fp [.int .i64 (o.getD i 0)]):=by
  have e:o.getD i 0=o[i]:=by rw [Rw,Rx hi]; rfl
  rw [e]
  exact ho.index1 (x:=.int .i64 o[i]) (i:=i) (by simp [aj,hi]) rfl rfl .i64
 have l1:∀A z,ab false 1 A (.fp [.int .i64 z])=some (.int .i64 z):=fun _ _=>rfl
 have bk:ag .sub (.int .i64 (o.getD i 0)) (.int .i64 1)=some (.int .i64 (kk:Int)):=by rw [bD (by omega),hk]
 obtain ⟨pb1,pb2⟩:=pb39 (ov:=ov) (ch:=ch) (v13:=v13) h hcv hr hi hx hb (by omega) hk e25 e26
 rw [Du]
 clear u0
 by_cases hc:(cg T rd free o).bf i<0/\max (xs.getD i 0) (l1T (cg T rd free o) xs i) > (cg T rd free o).dn i+(cg T rd free o).st i
 ·rw [RH hc]
  obtain ⟨σ,B,q1,q2⟩:=pb1 hc
  refine ⟨σ,B,?_,q2⟩
  clear pb1 pb2 hc
  unfold wm
  rw [sk]
  generalize A39 (af T chv) xs (bfL o)=A at *
  generalize TP.pv xs i+(cg T rd free o).hd i=L0 at *
  generalize free+T.travel=FT at *
  generalize T.travel=tr at *
  generalize o.getD i 0=oi at *
  generalize wT T=wt at *
  generalize o.length=M at *
  simp [b0',u03,u3,bF,pa,y1,l1,bk,q1,-ag,-ab,-ae,-aa]
 rw [RK hc]
 obtain ⟨e27,e28,pb⟩:=pb2 hc
 clear pb1 pb2 hc
 obtain ⟨e29,pc⟩:=pc39 (T:=T) (chv:=chv) (rv:=rv) (ov:=ov) (free:=free) (v13:=v13) (ch:=ch) hi hx (l1T (cg T rd free o) xs i) (.int .i64 (kk:Int)) e25 e26 e27 e28
 obtain ⟨s1,hs1⟩:∃s1,s1=TP.up (xs,ch) i (l1T (cg T rd free o) xs i):=⟨_,rfl⟩
 have hl1:s1.1.length=o.length:=by rw [hs1,TP.up_len]; exact hx
 have hB1:Bd (K+1) s1.1:=by
  obtain ⟨a1,a2,a3,a4,a5,a6⟩:=h.w i hi
  have hpv:0<=TP.pv xs i/\TP.pv xs i<=3000000*(K:Int):=by
   unfold TP.pv
   split
   ·omega
   ·exact hb _
  have b2:=hb ((cg T rd free o).bf i).toNat
  rw [hs1]
  unfold TP.up
  split
  ·refine hb.set ?_
   unfold l1T
   split <;> constructor <;> omega
  ·exact hb.mono
 obtain ⟨e30,pd⟩:=pd39 (chv:=chv) (rv:=rv) (ov:=ov) (v13:=v13) (ch:=s1.2) h hcv hi hl1 hB1 (by omega) hk (.int .i64 (l1T (cg T rd free o) xs i)) e25 e26 e27 e28 e29
 rw [<-hs1] at pc
 show run (aw GC ir) 300 [.code jb] (wm T rv free ov o.length v13 ch i) (A39 (af T chv) xs (bfL o))=some (.normal (wm T rv free ov o.length v13 (if (cg T rd free o).bf i<0 then TP.up (xs,ch) i (l1T (cg T rd free o) xs i) else TP.up (TP.up (xs,ch) i (l1T (cg T rd free o) xs i)) ((cg T rd free o).bf i).toNat ((TP.up (xs,ch) i (l1T (cg T rd free o) xs i)).1.getD i 0-(cg T rd free o).dn i-(cg T rd free o).st i)).2 (i+1)) (A39 (af T chv) (if (cg T rd free o).bf i<0 then TP.up (xs,ch) i (l1T (cg T rd free o) xs i) else TP.up (TP.up (xs,ch) i (l1T (cg T rd free o) xs i)) ((cg T rd free o).bf i).toNat ((TP.up (xs,ch) i (l1T (cg T rd free o) xs i)).1.getD i 0-(cg T rd free o).dn i-(cg T rd free o).st i)).1 (bfL o)))
 rw [<-hs1]
 generalize (if (cg T rd free o).bf i<0 then (s1.1,s1.2) else TP.up (s1.1,s1.2) ((cg T rd free o).bf i).toNat (s1.1.getD i 0-(cg T rd free o).dn i-(cg T rd free o).st i))=s2 at *
 show run (aw GC ir) 300 [.code jb] (wm T rv free ov o.length v13 ch i) (A39 (af T chv) xs (bfL o))=some (.normal (wm T rv free ov o.length v13 s2.2 (i+1)) (A39 (af T chv) s2.1 (bfL o)))
 unfold wm
 rw [sk]
 obtain ⟨i1,hi1⟩:∃j,j=i+1:=⟨_,rfl⟩
 rw [<-hi1] at b9 ⊢
 clear hs1 hl1 hB1
 generalize A39 (af T chv) xs (bfL o)=A at *
 generalize A39 (af T chv) s1.1 (bfL o)=A1 at *
 generalize A39 (af T chv) s2.1 (bfL o)=A2 at *
 generalize TP.pv xs i+(cg T rd free o).hd i=L0 at *
 generalize l1T (cg T rd free o) xs i=L1 at *
 generalize s1.2=ch1 at *
 generalize s2.2=ch2 at *
 generalize free+T.travel=FT at *
 generalize T.travel=tr at *
 generalize o.getD i 0=oi at *
 generalize wT T=wt at *
 generalize o.length=M at *
 simp [b0',b9,u03,u3,bF,pa,y1,l1,bk,pb,pc,pd,-ag,-ab,-ae,-aa]
end
end Tr
open Go
def zX (L:Nat) (B:ac):AV->Option (AV × ac)
 | .nilS=>some (.nilS,[])
 | .sl id off k=>match B[id]? with
  | some (.row e _ es)=>if off=0/\k=es.length/\es.all (bH 4)=true then some (.sl L 0 k,[.row e false es]) else none
  | _=>none
 | .tup [.nilS,s]=>if bH 4 s=true then some (.tup [.nilS,s],[]) else none
 | .tup [.sl id off k,s]=>match B[id]? with
  | some (.row e _ es)=>if off=0/\k=es.length/\bH 4 s=true/\es.all (bH 4)=true then some (.tup [.sl L 0 k,s],[.row e false es]) else none
  | _=>none
 | _=>none
def Gy (n:Nat) (M:List AV->ac->Option (AV × ac)):List AV->ac->Option (AV × ac):=fun args A=>
 (M (args.map (frz A n)) []).bind fun x=>(zX A.length x.2 x.1).map fun y=>(y.1,A++y.2)
def Ds (n:Nat) (M:List AV->ac->Option (AV × ac)):aJ:=fun _=>Gy n M
section
variable {P:Program} {G:Nat->Option (List AV)} {w w':World} {OK OK':Nat->Prop} {g g':aC} {A B:ac}
theorem cq.over (hA:cq w OK g A) (hB:cq w' OK' g' B) (hs:w.heap.size<=w'.heap.size) (hb:∀b,b<w.heap.size->w'.heap[b]?=w.heap[b]?)
  (hf:∀id inc,inc∈g' id->w.heap.size<=inc.b) {id:Nat} {e:Nat} {gr:Bool} {es:List AV} (hid:B[id]?=some (.row e gr es)) (hes:es.all (bH 4)=true) {i0:Inc} (hi0:i0∈g' id) (hn0:i0.n=es.length) :
  cq w' OK (fun k=>if k=A.length then [i0] else g k) (A++[.row e false es]):=by
 obtain ⟨hlt,hrow⟩:=Rv.1 hid
 have hgl:g.le (fun k=>if k=A.length then [i0] else g k):=fun k inc hi=>by
  refine ⟨inc.n,RR _,?_⟩
  by_cases hk:k=A.length
  ·subst hk; rw [hA.out _ (RR _)] at hi; cases hi
  ·show inc∈(if k=A.length then [i0] else g k)
   rw [RK hk]; exact hi
 have hlow:∀k inc,inc∈g k->inc.b<w.heap.size:=hA.low
 refine ⟨fun k hk=>?_,fun k hk=>?_,fun k k' inc inc' h1 h2 i1 i2 hbb=>?_,fun k inc hi ho=>?_,fun k inc hi=>?_,fun b hb'=>S3 (hA.ok b hb') hs⟩
 ·by_cases hkA:k<A.length
  ·rw [R2 hkA]
   show nm w' OK _ (if k=A.length then [i0] else g k) _
   rw [RK (by omega)]
   exact (hA.ent k hkA).mono (fun _ h=>h) (fun b hb'=>hb b (hA.ok b hb')) hgl (fun inc hi=>hb _ (hA.low k inc hi))
  ·have hkl:k=A.length:=by simp at hk; omega
   subst hkl
   rw [So (RR _)]
   simp only [Tq,List.getElem_cons_zero,SX]
   have hent:=hB.ent id hlt
   rw [hrow] at hent
   rw [RZ] at hes
   refine ⟨fun _=>⟨RR _,fun inc hi=>by rw [Sg.1 hi]; exact hn0⟩,fun inc hi=>?_⟩
   obtain ⟨h1,h2,h3,c,T,fz,h4,h5,h6,h7⟩:=hent.2 inc (by rw [Sg.1 hi]; exact hi0)
   refine ⟨h1,h2,h3,c,T,fz,h4,h5,h6,fun i hi hn'=>?_⟩
   obtain ⟨v,k1,k2,k3⟩:=h7 i hi hn'
   exact ⟨v,g8 4 _ _ (hes _ (RM _)) k1,k2,k3⟩
 ·rw [RU] at hk
  simp at hk
  show (if k=A.length then [i0] else g k)=[]
  rw [RK (by omega)]
  exact hA.out k (by omega)
 ·have i1:inc∈(if k=A.length then [i0] else g k):=i1
  have i2:inc'∈(if k'=A.length then [i0] else g k'):=i2
  have old:∀j i,i∈g j->j<A.length:=fun j i hi=>by
   by_cases h:j<A.length
   ·exact h
   ·rw [hA.out j (by omega)] at hi; cases hi
  have live:∀j,j<A.length->(A++[Ent.row e false es])[j]?≠some .dead->A[j]?≠some .dead:=fun j hj h=>by rwa [RC hj] at h
  by_cases hk:k=A.length
  ·rw [RH hk] at i1
   by_cases hk':k'=A.length
   ·rw [RH hk'] at i2
    exact ⟨by rw [hk,hk'],by rw [Sg.1 i1,Sg.1 i2]⟩
   ·rw [RK hk'] at i2
    have:=hf id inc (by rw [Sg.1 i1]; exact hi0)
    have:=hA.low k' inc' i2
    omega
  ·rw [RK hk] at i1
   by_cases hk':k'=A.length
   ·rw [RH hk'] at i2
    have:=hf id inc' (by rw [Sg.1 i2]; exact hi0)
    have:=hA.low k inc i1
    omega
   ·rw [RK hk'] at i2
    exact hA.one k k' inc inc' (live k (old k inc i1) h1) (live k' (old k' inc' i2) h2) i1 i2 hbb
 ·have hi:inc∈(if k=A.length then [i0] else g k):=hi
  by_cases hk:k=A.length
  ·rw [RH hk] at hi
   have h1:=hf id inc (by rw [Sg.1 hi]; exact hi0)
   have:=hA.ok _ ho
   omega
  ·rw [RK hk] at hi
   exact hA.apart k inc hi ho
 ·have hi:inc∈(if k=A.length then [i0] else g k):=hi
  by_cases hk:k=A.length
  ·rw [RH hk] at hi
   exact hB.low id inc (by rw [Sg.1 hi]; exact hi0)
  ·rw [RK hk] at hi
   exact S3 (hA.low k inc hi) hs
theorem zV {v:Value} {k:Nat} (h:aW w' OK' g' v (.sl id 0 k)) (hB:cq w' OK' g' B) {gr:Bool} {es:List AV} (hid:B[id]?=some (.row e gr es)) (hk:k=es.length) (L:Nat) (g:aC):∃i0,i0∈g' id/\i0.n=es.length/\aW w' OK (fun j=>if j=L then [i0] else g j) v (.sl L 0 k):=by
 cases h with
 | sl _ _ _ _ cap ao inc hi hl hn hcap ha=>
  obtain ⟨hlt,hrow⟩:=Rv.1 hid
  have hent:=hB.ent id hlt
  rw [hrow] at hent
  have h2:=(hent.2 inc hi).2.1
  exact ⟨inc,hi,by omega,.sl _ L 0 k cap ao inc (by show inc∈(if L=L then [inc] else g L); rw [RH rfl]; exact Sg.2 rfl) hl hn hcap ha⟩
theorem eJ.thaw {f:FuncId} {M:List AV->ac->Option (AV × ac)} (h:eJ P G f M) (n:Nat):eJ P G f (Gy n M):=by
 refine ⟨h.1,?_⟩
 intro args A r A' he w OK g vs hA hG hl
 unfold Gy at he
 rw [RG] at he
 obtain ⟨⟨r0,B⟩,hM,he⟩:=he
 rw [RJ] at he
 obtain ⟨⟨r1,X⟩,ht,he⟩:=he
 injection he with e1 e2
 simp only at e1 e2 ht
 subst e1
 subst e2
 have hok2:∀b,(OK b\/∃id inc,inc∈g id/\inc.b=b)->b<w.heap.size:=fun b hb=>by
  rcases hb with hb | ⟨id,inc,hi,rfl⟩
  ·exact hA.ok b hb
  ·exact hA.low id inc hi
 have hl2:bS w (fun b=>OK b\/∃id inc,inc∈g id/\inc.b=b) aC.none vs (args.map (frz A n)):=hl.map fun v a _ hv=>jh hA (fun b hb=>Or.inl hb) (fun id inc _ hi=>Or.inr ⟨id,inc,hi,rfl⟩) n a v hv
 refine (h.2 _ _ _ _ hM w (fun b=>OK b\/∃id inc,inc∈g id/\inc.b=b) aC.none vs (cq.nil hok2) (fun gl cs hg=>(hG gl cs hg).mono (fun b hb=>.inl hb) (fun _ _=>rfl) _ (aC.le_refl _)) hl2).mono ?_
 rintro e w' ⟨v,OK',g',rfl,hv,hB,hx⟩
 have hb:∀b,b<w.heap.size->w'.heap[b]?=w.heap[b]?:=fun b hb=>hx.blk b hb (fun _ _ (hi:_∈[])=>by cases hi)
 have hf:∀id inc,inc∈g' id->w.heap.size<=inc.b:=fun id inc hi=>by
  rcases hx.fresh id inc hi with ⟨_,_,h0,_⟩ | h0
  ·cases h0
  ·exact h0
 have noRow:∀r1,aW w' OK g v r1->∃OKn gn,aW w' OKn gn v r1/\cq w' OKn gn (A++[])/\Ext w OK g w' OKn gn:=fun r1 hv1=>by
  refine ⟨OK,g,hv1,?_,hx.os,hx.tape,hx.output,hx.size,fun b hb' _=>hb b hb',g.le_refl,fun _ h=>h,fun id inc hi=>.inl ⟨id,inc,hi,rfl⟩,fun _ h=>.inl h,hx.loops,fun _ _ _ _=>rfl⟩
  rw [Sk]
  exact hA.keep hx.size hb OK (fun _ h=>h) (fun _ h=>.inl h) (fun b hb'=>S3 (hA.ok b hb') hx.size)
 have oneRow:∀(id:Nat) (e:Nat) (gr:Bool) (es:List AV) r1,B[id]?=some (.row e gr es)->es.all (bH 4)=true->(∃i0,i0∈g' id/\i0.n=es.length/\aW w' OK (fun j=>if j=A.length then [i0] else g j) v r1)->∃OKn gn,aW w' OKn gn v r1/\cq w' OKn gn (A++[.row e false es])/\Ext w OK g w' OKn gn:=fun id e gr es r1 hid hes ⟨i0,hi0,hn0,hv1⟩=>by
  refine ⟨OK,fun j=>if j=A.length then [i0] else g j,hv1,hA.over hB hx.size hb hf hid hes hi0 hn0,hx.os,hx.tape,hx.output,hx.size,fun b hb' _=>hb b hb',fun k inc hi=>?_,fun _ h=>h,fun k inc hi=>?_,fun _ h=>.inl h,hx.loops,fun k inc hi _=>?_⟩
  ·refine ⟨inc.n,RR _,?_⟩
   by_cases hk:k=A.length
   ·subst hk; rw [hA.out _ (RR _)] at hi; cases hi
   ·show inc∈(if k=A.length then [i0] else g k)
    rw [RK hk]; exact hi
  ·have hi:inc∈(if k=A.length then [i0] else g k):=hi
   by_cases hk:k=A.length
   ·rw [RH hk] at hi; exact .inr (hf id inc (by rw [Sg.1 hi]; exact hi0))
   ·rw [RK hk] at hi; exact .inl ⟨k,inc,hi,rfl⟩
  ·show (if k=A.length then [i0] else g k)=g k
   by_cases hk:k=A.length
   ·subst hk; rw [hA.out _ (RR _)] at hi; cases hi
   ·rw [RK hk]
 suffices hh:∃OKn gn,aW w' OKn gn v r1/\cq w' OKn gn (A++X)/\Ext w OK g w' OKn gn by
  obtain ⟨OKn,gn,h1,h2,h3⟩:=hh
  exact ⟨v,OKn,gn,rfl,h1,h2,h3⟩
 unfold zX at ht
 split at ht
 ·injection ht with ht
  injection ht with h1 h2
  subst h1; subst h2
  refine noRow _ ?_
  cases hv with
  | nilS _ p=>exact .nilS _ p
 ·rename_i id off k
  split at ht
  ·rename_i e gr es hid
   split at ht
   ·rename_i hes
    injection ht with ht
    injection ht with h1 h2
    subst h1; subst h2
    obtain ⟨rfl,hk,hes⟩:=hes
    exact oneRow id e _ es _ hid hes (zV hv hB hid hk _ _)
   ·cases ht
  ·cases ht
 ·rename_i s
  split at ht
  ·rename_i hsc
   injection ht with ht
   injection ht with h1 h2
   subst h1; subst h2
   refine noRow _ ?_
   obtain ⟨vs,vals,rfl,hl,hg,hv⟩:=hv.inv_tup
   refine .tup _ vs _ hl vals hg (fun i hi=>?_)
   have hvi:=hv i hi
   have hi2:i<2:=hi
   rcases (show i=0\/i=1 by omega) with rfl | rfl
   ·have hvi:aW w' OK' g' (vals 0) .nilS:=hvi
    show aW w' OK g (vals 0) .nilS
    generalize vals 0=v0 at *
    cases hvi with
    | nilS _ p=>exact .nilS _ p
   ·exact g8 4 s _ hsc hvi
  ·cases ht
 ·rename_i id off k s
  split at ht
  ·rename_i e gr es hid
   split at ht
   ·rename_i hes
    injection ht with ht
    injection ht with h1 h2
    subst h1; subst h2
    obtain ⟨rfl,hk,hsc,hes⟩:=hes
    refine oneRow id e _ es _ hid hes ?_
    obtain ⟨vs,vals,rfl,hl,hg,hv⟩:=hv.inv_tup
    obtain ⟨i0,q1,q2,q3⟩:=zV (OK:=OK) (hv 0 (by simp)) hB hid hk A.length g
    refine ⟨i0,q1,q2,.tup _ vs _ hl vals hg (fun i hi=>?_)⟩
    have hvi:=hv i hi
    have hi2:i<2:=hi
    rcases (show i=0\/i=1 by omega) with rfl | rfl
    ·exact q3
    ·exact g8 4 s _ hsc hvi
   ·cases ht
  ·cases ht
 ·cases ht
theorem au.thaw {f:FuncId} {M:List AV->ac->Option (AV × ac)} (h:eJ P G f M) (n:Nat):au P G f (Ds n M):=(h.thaw n).y
@[simp] theorem xm (n:Nat) (M:List AV->ac->Option (AV × ac)) (h:be) (args:List AV) (A:ac):Ds n M h args A=(M (args.map (frz A n)) []).bind fun x=>(zX A.length x.2 x.1).map fun y=>(y.1,A++y.2):=rfl
end
namespace Tr
open Cy (GC aM bc aA)
open Clu (aT aY af chA aK aZ bD cB bA bK bL cK)
theorem QH (T:aT) (rd:List Int) (free:Int) (o:List Int):(cg T rd free o).m=o.length:=rfl
section
variable {T:aT} {chv rv ov:AV} {rd o:List Int} {free:Int}
theorem HU (h:yJ T rd free o) (hcv:SlA 2 (T.ch.map chA) chv) (hr:SlA 1 (aj rd) rv) (ho:SlA 1 (aj o) ov) (v13:AV):∀(c i m:Nat) (s:List Int × Bool) (K:Nat),i+c=o.length->c<m->s.1.length=o.length->Bd K s.1->K+c<=900 ->
  match (cg T rd free o).rnd c s with
  | some s'=>bM (evC (aw GC ir) 300 jb) jB m (wm T rv free ov o.length v13 s.2 i) (A39 (af T chv) s.1 (bfL o))=some (.exit 6 ((wm T rv free ov o.length v13 s'.2 o.length).set 24 (.bool false)) (A39 (af T chv) s'.1 (bfL o)))/\s'.1.length=o.length/\Bd (K+c) s'.1
  | none=>∃ σ B,bM (evC (aw GC ir) 300 jb) jB m (wm T rv free ov o.length v13 s.2 i) (A39 (af T chv) s.1 (bfL o))=some (.ret σ B)/\σ[5]?=some .nilS/\σ[6]?=some (.bool false):=by
 intro c
 induction c with
 | zero=>
  intro i m s K hi hm hl hb hK
  obtain ⟨m,rfl⟩:∃j,m=j+1:=⟨m-1,by omega⟩
  obtain rfl:i=o.length:=by omega
  simp only [TP.rnd]
  refine ⟨?_,hl,hb⟩
  have b0:=a9 o.length o.length .i64
  rw [RD (by omega)] at b0
  unfold wm
  rw [aD,Cd]
  generalize A39 (af T chv) s.1 (bfL o)=A at *
  simp [jb,b0,-ag]
 | succ c ih=>
  intro i m s K hi hm hl hb hK
  obtain ⟨m,rfl⟩:∃j,m=j+1:=⟨m-1,by omega⟩
  have hil:i<o.length:=by omega
  have hr1:=Hp (v13:=v13) (ch:=s.2) h hcv hr ho hil hl hb (by omega)
  have e:(cg T rd free o).m-(c+1)=i:=by rw [QH]; omega
  simp only [TP.rnd,e]
  unfold wm at hr1 ⊢
  rw [aD,Cd]
  have es:((s.1,s.2):List Int × Bool)=s:=rfl
  rw [es] at hr1
  cases hst:(cg T rd free o).step s i with
  | none=>
   rw [hst] at hr1
   obtain ⟨σ,B,q1,q2⟩:=hr1
   rw [Um,q1]
   exact ⟨σ,B,rfl,q2⟩
  | some s1=>
   rw [hst] at hr1
   obtain ⟨b1,b2⟩:=Gz h hb hl hil hst
   rw [Sn,hr1]
   have:=ih (i+1) m s1 (K+1) (by omega) (by omega) b2 b1 (by omega)
   rw [show K+1+c=K+(c+1) by omega] at this
   exact this
theorem ET (X:Nat->Int):∀(o:List Int) (i j:Nat),j<o.length->(mkX X i o)[j]?=some (o.getD j 0,X (i+1+j))
 | [],_,_,h=>by simp at h
 | t :: r,i,0,_=>rfl
 | t :: r,i,j+1,h=>by
  have:=ET X r (i+1) j (by simpa using h)
  simp only [mkX,SV,List.getD_cons_succ]
  rw [this,show i+1+1+j=i+1+(j+1) by omega]
abbrev JK (ov:AV) (m:Nat) (v:AV) (i:Nat):List AV:=uc ov (.int .i64 (m:Int)) (.sl 1 0 m) v (.int .i64 (i:Int))
theorem HS (hm10:o.length<=10) (ho:SlA 1 (aj o) ov) {bs:List Int} (hx:xs.length=o.length):∀(c i m:Nat) (A:ac) (v:AV),i+c=o.length->c<m->A[1]?=some (.row 1 false (aj xs))->3<=A.length->OV 2 3 A v (((mkX (nX xs) 0 o).take i).map aL) ->
  ∃v' B,bM (evC (aw GC ir) 300 qg) lK m (JK ov o.length v i) A=some (.exit 8 ((JK ov o.length v' o.length).set 32 (.bool false)) B)/\OV 2 3 B v' ((mkX (nX xs) 0 o).map aL):=by
 intro c
 induction c with
 | zero=>
  intro i m A v hi hm h1 hA hv
  obtain ⟨m,rfl⟩:∃j,m=j+1:=⟨m-1,by omega⟩
  obtain rfl:i=o.length:=by omega
  rw [RX (by rw [fW]; omega)] at hv
  refine ⟨v,A,?_,hv⟩
  have b0:=a9 o.length o.length .i64
  rw [RD (by omega)] at b0
  unfold JK
  rw [aD,Cc]
  simp [qg,b0,-ag]
 | succ c ih=>
  intro i m A v hi hm h1 hA hv
  obtain ⟨m,rfl⟩:∃j,m=j+1:=⟨m-1,by omega⟩
  have hil:i<o.length:=by omega
  have b0:=a9 i o.length .i64
  rw [RE hil] at b0
  have b9:=aV i (by omega)
  have y1:ae 1 A ov (.int .i64 (i:Int))=some (.fp [.int .i64 (o.getD i 0)]):=by
   have e:o.getD i 0=o[i]:=by rw [Rw,Rx hil]; rfl
   rw [e]
   exact ho.index1 (x:=.int .i64 o[i]) (i:=i) (by simp [aj,hil]) rfl rfl .i64
  have l1:∀A z,ab false 1 A (.fp [.int .i64 z])=some (.int .i64 z):=fun _ _=>rfl
  have i1:=cE (n:=o.length) h1 hil .i64
  have d1:=fg h1 (show i<xs.length by omega)
  have hlt:((mkX (nX xs) 0 o).take i).length=i:=by rw [SM,fW]; omega
  obtain ⟨v1,B1,ap,a1,a2,a3⟩:=CW (e:=2) (bytes:=16) (by omega) (by omega) hv hA (aL (o.getD i 0,xs.getD i 0)) (by rw [RN,hlt]; omega)
  have ap':aR 2 16 A v (.fs 2 [.agg [.int .i64 (o.getD i 0),.int .i64 (xs.getD i 0)]])=some (v1,B1):=ap
  have et:((mkX (nX xs) 0 o).take i).map aL++[aL (o.getD i 0,xs.getD i 0)]=((mkX (nX xs) 0 o).take (i+1)).map aL:=by
   have hg:=ET (nX xs) o 0 i hil
   rw [List.take_add_one,hg,SH]
   have:nX xs (0+1+i)=xs.getD i 0:=by unfold nX; rw [RK (by omega),show 0+1+i-1=i by omega]
   rw [this]; rfl
  rw [et] at a1
  obtain ⟨v2,B2,g1,g2⟩:=ih (i+1) m B1 v1 (by omega) (by omega) (by rw [a2 1 (by omega)]; exact h1) (by omega) a1
  refine ⟨v2,B2,?_,g2⟩
  unfold JK at g1 ⊢
  rw [aD,Cc]
  obtain ⟨w,hw⟩:∃w,w=((i+1:Nat):Int):=⟨_,rfl⟩
  rw [<-hw] at b9 g1
  have e:run (aw GC ir) 300 [.code qg] (uc ov (.int .i64 (o.length:Int)) (.sl 1 0 o.length) v (.int .i64 (i:Int))) A=some (.normal (uc ov (.int .i64 (o.length:Int)) (.sl 1 0 o.length) v1 (.int .i64 w)) B1):=by
   clear g1 ih ap et a1 a2 hv hlt
   generalize o.getD i 0=oi at *
   generalize xs.getD i 0=xi at *
   simp [qg,b0,b9,y1,l1,i1,d1,ap',-ag,-ab,-ae]
  rw [e]
  exact g1
abbrev EN (T:aT) (rv:AV) (free:Int) (ov:AV) (m r:Nat):List AV:=pG rv (.int .i64 free) ov (.ptr 0 0 0) (.int .i64 (wT T)) (.int .i64 (m:Int)) (.sl 1 0 m) (.sl 2 0 m) (.int .i64 (r:Int))
theorem HR (h:yJ T rd free o) (hcv:SlA 2 (T.ch.map chA) chv) (hr:SlA 1 (aj rd) rv) (ho:SlA 1 (aj o) ov):∀(c r m:Nat) (xs:List Int) (K:Nat),r+c=o.length+2->c<m->xs.length=o.length->Bd K xs->K+c*o.length<=900 ->
  match (cg T rd free o).ref c xs with
  | some ys=>∃ σ B v,bM (evC (aw GC ir) 300 gP) ij m (EN T rv free ov o.length r) (A39 (af T chv) xs (bfL o))=some (.ret σ B)/\σ[5]?=some v/\σ[6]?=some (.bool true)/\OV 2 3 B v ((mkX (nX ys) 0 o).map aL)
  | none=>(∃ σ B,bM (evC (aw GC ir) 300 gP) ij m (EN T rv free ov o.length r) (A39 (af T chv) xs (bfL o))=some (.ret σ B)/\σ[5]?=some .nilS/\σ[6]?=some (.bool false)) \/
   ∃r' B,bM (evC (aw GC ir) 300 gP) ij m (EN T rv free ov o.length r) (A39 (af T chv) xs (bfL o))=some (.exit 4 ((EN T rv free ov o.length r').set 23 (.bool false)) B):=by
 have hm:=h.m
 intro c
 induction c with
 | zero=>
  intro r m xs K hi hm' hl hb hK
  obtain ⟨m,rfl⟩:∃j,m=j+1:=⟨m-1,by omega⟩
  simp only [TP.ref]
  right
  refine ⟨r,A39 (af T chv) xs (bfL o),?_⟩
  have b1:ag .add (.int .i64 (o.length:Int)) (.int .i64 1)=some (.int .i64 ((o.length+1:Nat):Int)):=aV _ (by omega)
  have b0:=cK (r:Int) ((o.length+1:Nat):Int)
  rw [RD (by omega)] at b0
  unfold EN
  rw [aD,Cb]
  generalize A39 (af T chv) xs (bfL o)=A at *
  generalize ((o.length+1:Nat):Int)=m1 at *
  simp [gP,b0,b1,-ag]
 | succ c ih=>
  intro r m xs K hi hm' hl hb hK
  obtain ⟨m,rfl⟩:∃j,m=j+1:=⟨m-1,by omega⟩
  have b1:ag .add (.int .i64 (o.length:Int)) (.int .i64 1)=some (.int .i64 ((o.length+1:Nat):Int)):=aV _ (by omega)
  have b0:=cK (r:Int) ((o.length+1:Nat):Int)
  rw [RE (by omega)] at b0
  have b9:=aV r (by omega)
  rw [Nat.succ_mul] at hK
  have lc:=HU h hcv hr ho (.int .i64 (r:Int)) o.length 0 300 (xs,false) K (by omega) (by omega) hl hb (by omega)
  simp only at lc
  unfold wm at lc
  rw [show ((0:Nat):Int)=0 from rfl] at lc
  simp only [TP.ref,QH]
  unfold EN
  rw [aD,Cb]
  cases hs:(cg T rd free o).rnd o.length (xs,false) with
  | none=>
   rw [hs] at lc
   obtain ⟨σ,B,q1,q2⟩:=lc
   rw [Um]
   left
   refine ⟨σ,B,?_,q2⟩
   have e:run (aw GC ir) 300 [.code gP] (pG rv (.int .i64 free) ov (.ptr 0 0 0) (.int .i64 (wT T)) (.int .i64 (o.length:Int)) (.sl 1 0 o.length) (.sl 2 0 o.length) (.int .i64 (r:Int))) (A39 (af T chv) xs (bfL o))=some (.ret σ B):=by
    clear hs ih
    generalize A39 (af T chv) xs (bfL o)=A at *
    generalize ((o.length+1:Nat):Int)=m1 at *
    simp [gP,b0,b1,A9 q1,-ag]
   rw [e]
  | some s=>
   rw [hs] at lc
   obtain ⟨q1,q2,q3⟩:=lc
   rw [Sn]
   cases hs2:s.2 with
   | true=>
    rw [hs2] at q1
    have:=ih (r+1) m s.1 (K+o.length) (by omega) (by omega) q2 q3 (by omega)
    rw [RH rfl]
    unfold EN at this
    obtain ⟨w,hw⟩:∃w,w=((r+1:Nat):Int):=⟨_,rfl⟩
    rw [<-hw] at b9 this
    have e:run (aw GC ir) 300 [.code gP] (pG rv (.int .i64 free) ov (.ptr 0 0 0) (.int .i64 (wT T)) (.int .i64 (o.length:Int)) (.sl 1 0 o.length) (.sl 2 0 o.length) (.int .i64 (r:Int))) (A39 (af T chv) xs (bfL o))=some (.normal (pG rv (.int .i64 free) ov (.ptr 0 0 0) (.int .i64 (wT T)) (.int .i64 (o.length:Int)) (.sl 1 0 o.length) (.sl 2 0 o.length) (.int .i64 w)) (A39 (af T chv) s.1 (bfL o))):=by
     clear hs ih this
     generalize A39 (af T chv) xs (bfL o)=A at *
     generalize A39 (af T chv) s.1 (bfL o)=B at *
     generalize ((o.length+1:Nat):Int)=m1 at *
     simp [gP,b0,b1,b9,A9 q1,-ag]
    rw [e]
    exact this
   | false=>
    rw [hs2] at q1
    rw [RK (by decide)]
    obtain ⟨v,B,g1,g2⟩:=HS (bs:=bfL o) hm ho q2 o.length 0 300 (A39 (af T chv) s.1 (bfL o)) .nilS (by omega) (by omega) (kV _ _ _) (by simp [A39]) (.inl ⟨rfl,by simp⟩)
    unfold JK at g1
    rw [show ((0:Nat):Int)=0 from rfl] at g1
    refine ⟨[.undef,.undef,.undef,.undef,.undef,v,.bool true,.undef,.undef,.undef,.undef,.undef,.undef,.undef,.undef,.undef,.undef,.undef,v,.undef,.undef,.undef,.undef,.undef,.undef,.undef,.undef,.undef,.undef,.undef,.undef,.undef,.undef],B,v,?_,rfl,rfl,g2⟩
    have e:run (aw GC ir) 300 [.code gP] (pG rv (.int .i64 free) ov (.ptr 0 0 0) (.int .i64 (wT T)) (.int .i64 (o.length:Int)) (.sl 1 0 o.length) (.sl 2 0 o.length) (.int .i64 (r:Int))) (A39 (af T chv) xs (bfL o))=some (.ret [.undef,.undef,.undef,.undef,.undef,v,.bool true,.undef,.undef,.undef,.undef,.undef,.undef,.undef,.undef,.undef,.undef,.undef,v,.undef,.undef,.undef,.undef,.undef,.undef,.undef,.undef,.undef,.undef,.undef,.undef,.undef,.undef] B):=by
     clear hs ih g2
     generalize A39 (af T chv) xs (bfL o)=A at *
     generalize A39 (af T chv) s.1 (bfL o)=A2 at *
     generalize ((o.length+1:Nat):Int)=m1 at *
     simp [gP,b0,b1,A9 q1,Ko g1,-ag]
    rw [e]
def bJ (o:List Int) (i:Nat):List Int:=rJ (fun j=>bfK o (o.getD j 0-1) j) (fun _=>0) o.length i
theorem CK (o:List Int) (i:Nat):(bJ o i).length=o.length:=EQ _ _ _ _
theorem HW (hm10:o.length<=10) (hob:∀t∈o,1<=t/\t<=1000) (ho:SlA 1 (aj o) ov) {tv:AV} {i:Nat} (hi:i<o.length) (v1 v2 v4 v7 v9:AV):∀(c k m:Nat) (bs:List Int),k+c=i->c<m->bs.length=o.length->bs.getD i 0=bfK o (o.getD i 0-1) k ->
  bM (evC (aw GC ir) 300 lW) lM m (nG v1 v2 ov v4 v7 (.int .i64 (o.length:Int)) v9 (.sl 2 0 o.length) (.int .i64 (i:Int)) (.int .i64 (k:Int))) (A39 tv xs bs)=some (.exit 2 ((nG v1 v2 ov v4 v7 (.int .i64 (o.length:Int)) v9 (.sl 2 0 o.length) (.int .i64 (i:Int)) (.int .i64 (i:Int))).set 21 (.bool false)) (A39 tv xs (bs.set i (bfK o (o.getD i 0-1) i)))):=by
 intro c
 induction c with
 | zero=>
  intro k m bs hk hm hl hb
  obtain ⟨m,rfl⟩:∃j,m=j+1:=⟨m-1,by omega⟩
  obtain rfl:k=i:=by omega
  have e:bs.set k (bfK o (o.getD k 0-1) k)=bs:=by
   rw [<-hb,Rw,Rx (by omega),Sq,List.set_getElem_self]
  rw [e]
  have b0:=a9 k k .i64
  rw [RD (by omega)] at b0
  rw [aD,Cf]
  generalize A39 tv xs bs=A at *
  simp [lW,b0,-ag]
 | succ c ih=>
  intro k m bs hk hm hl hb
  obtain ⟨m,rfl⟩:∃j,m=j+1:=⟨m-1,by omega⟩
  have b0:=a9 k i .i64
  rw [RE (by omega)] at b0
  have b9:=aV k (by omega)
  have x1:∀j,j<o.length->ae 1 (A39 tv xs bs) ov (.int .i64 (j:Int))=some (.fp [.int .i64 (o.getD j 0)])/\1<=o.getD j 0/\o.getD j 0<=1000:=fun j hj=>by
   have e:o.getD j 0=o[j]:=by rw [Rw,Rx hj]; rfl
   rw [e]
   exact ⟨ho.index1 (x:=.int .i64 o[j]) (i:=j) (by simp [aj,hj]) rfl rfl .i64,hob _ (RM hj)⟩
  obtain ⟨y1,_⟩:=x1 k (by omega)
  obtain ⟨y2,z1,z2⟩:=x1 i hi
  have l1:∀A z,ab false 1 A (.fp [.int .i64 z])=some (.int .i64 z):=fun _ _=>rfl
  have b1:ag .sub (.int .i64 (o.getD i 0)) (.int .i64 1)=some (.int .i64 (o.getD i 0-1)):=bD (by omega)
  have b2:=bA (o.getD k 0) (o.getD i 0-1)
  have i2:=cE (n:=o.length) (vQ tv xs bs) hi .i64
  have s2:=iH (vQ tv xs bs) (show i<bs.length by omega) (k:Int)
  rw [Gp] at s2
  have eK:bfK o (o.getD i 0-1) (k+1)=if o.getD k 0=o.getD i 0-1 then (k:Int) else bfK o (o.getD i 0-1) k:=rfl
  rw [aD,Cf]
  clear x1
  obtain ⟨w,hw⟩:∃w,w=((k+1:Nat):Int):=⟨_,rfl⟩
  by_cases hc:o.getD k 0=o.getD i 0-1
  ·rw [RH hc] at eK
   rw [RE hc] at b2
   have:=ih (k+1) m (bs.set i (k:Int)) (by omega) (by omega) (by rw [Sm]; exact hl) (by rw [dp,RH ⟨rfl,by omega⟩,eK])
   rw [Ua] at this
   rw [<-hw] at b9 this
   have e:run (aw GC ir) 300 [.code lW] (nG v1 v2 ov v4 v7 (.int .i64 (o.length:Int)) v9 (.sl 2 0 o.length) (.int .i64 (i:Int)) (.int .i64 (k:Int))) (A39 tv xs bs)=some (.normal (nG v1 v2 ov v4 v7 (.int .i64 (o.length:Int)) v9 (.sl 2 0 o.length) (.int .i64 (i:Int)) (.int .i64 w)) (A39 tv xs (bs.set i (k:Int)))):=by
    clear this ih hb eK
    generalize A39 tv xs (bs.set i (k:Int))=B at *
    generalize A39 tv xs bs=A at *
    generalize o.getD i 0-1=o1 at *
    generalize o.getD i 0=oi at *
    generalize o.getD k 0=ok at *
    simp [lW,b0,b9,y1,y2,l1,b1,b2,i2,s2,-ag,-ab,-ae,-az]
   rw [e]
   exact this
  ·rw [RK hc] at eK
   rw [RD hc] at b2
   have:=ih (k+1) m bs (by omega) (by omega) hl (by rw [hb,eK])
   rw [<-hw] at b9 this
   have e:run (aw GC ir) 300 [.code lW] (nG v1 v2 ov v4 v7 (.int .i64 (o.length:Int)) v9 (.sl 2 0 o.length) (.int .i64 (i:Int)) (.int .i64 (k:Int))) (A39 tv xs bs)=some (.normal (nG v1 v2 ov v4 v7 (.int .i64 (o.length:Int)) v9 (.sl 2 0 o.length) (.int .i64 (i:Int)) (.int .i64 w)) (A39 tv xs bs)):=by
    clear this ih hb eK
    generalize A39 tv xs bs=A at *
    generalize o.getD i 0-1=o1 at *
    generalize o.getD i 0=oi at *
    generalize o.getD k 0=ok at *
    simp [lW,b0,b9,y1,y2,l1,b1,b2,-ag,-ab,-ae,-az]
   rw [e]
   exact this
theorem HV (hm10:o.length<=10) (hob:∀t∈o,1<=t/\t<=1000) (ho:SlA 1 (aj o) ov) {tv:AV} {xs:List Int} (v1 v2 v4 v7 v9:AV):∀(c i m:Nat),i+c=o.length->c<m ->
  bM (evC (aw GC ir) 300 qh) lL m (rP v1 v2 ov v4 v7 (.int .i64 (o.length:Int)) v9 (.sl 2 0 o.length) (.int .i64 (i:Int))) (A39 tv xs (bJ o i))=some (.exit 0 ((rP v1 v2 ov v4 v7 (.int .i64 (o.length:Int)) v9 (.sl 2 0 o.length) (.int .i64 (o.length:Int))).set 20 (.bool false)) (A39 tv xs (bfL o))):=by
 intro c
 induction c with
 | zero=>
  intro i m hi hm
  obtain ⟨m,rfl⟩:∃j,m=j+1:=⟨m-1,by omega⟩
  obtain rfl:i=o.length:=by omega
  rw [show bJ o o.length=bfL o from ER _ _ _]
  have b0:=a9 o.length o.length .i64
  rw [RD (by omega)] at b0
  rw [aD,Ce]
  generalize A39 tv xs (bfL o)=A at *
  simp [qh,b0,-ag]
 | succ c ih=>
  intro i m hi hm
  obtain ⟨m,rfl⟩:∃j,m=j+1:=⟨m-1,by omega⟩
  have hil:i<o.length:=by omega
  have ih:=ih (i+1) m (by omega) (by omega)
  have b0:=a9 i o.length .i64
  rw [RE hil] at b0
  have b9:=aV i (by omega)
  have i2:=cE (n:=o.length) (vQ tv xs (bJ o i)) hil .i64
  have s2:=iH (vQ tv xs (bJ o i)) (show i<(bJ o i).length by rw [CK]; exact hil) (-1)
  rw [Gp] at s2
  have lp:=HW hm10 hob ho (tv:=tv) (xs:=xs) hil v1 v2 v4 v7 v9 i 0 300 ((bJ o i).set i (-1)) (by omega) (by omega) (by rw [Sm,CK]) (by rw [dp,RH ⟨rfl,by rw [CK]; exact hil⟩]; rfl)
  rw [Ua,show (bJ o i).set i (bfK o (o.getD i 0-1) i)=bJ o (i+1) from As (fun j=>bfK o (o.getD j 0-1) j) (fun _=>0) hil,show ((0:Nat):Int)=0 from rfl] at lp
  rw [aD,Ce]
  obtain ⟨w,hw⟩:∃w,w=((i+1:Nat):Int):=⟨_,rfl⟩
  rw [<-hw] at b9 ih
  have e:run (aw GC ir) 300 [.code qh] (rP v1 v2 ov v4 v7 (.int .i64 (o.length:Int)) v9 (.sl 2 0 o.length) (.int .i64 (i:Int))) (A39 tv xs (bJ o i))=some (.normal (rP v1 v2 ov v4 v7 (.int .i64 (o.length:Int)) v9 (.sl 2 0 o.length) (.int .i64 w)) (A39 tv xs (bJ o (i+1)))):=by
   clear ih
   generalize A39 tv xs (bJ o (i+1))=C at *
   generalize A39 tv xs ((bJ o i).set i (-1))=B at *
   generalize A39 tv xs (bJ o i)=A at *
   simp [qh,b0,b9,i2,s2,Kp lp,-ag,-ae,-az]
  rw [e]
  exact ih
theorem IA (h:yJ T rd free o) (hcv:SlA 2 (T.ch.map chA) chv) (hr:SlA 1 (aj rd) rv) (ho:SlA 1 (aj o) ov):∃v B,cc (aw GC ir) 300 AG [af T chv,rv,.int .i64 free,ov] []=some (.tup [v,.bool (xJ T rd free o).isSome],B)/\OV 2 3 B v (((xJ T rd free o).getD []).map aL):=by
 have hm:=h.m
 have hn4:=h.v.2.2.2.1
 have ft:=fun A=>aK (T:=T) (fun A n=>hcv.frz (A:=A) n) A 3
 have tn:bu 4 (af T chv)=true:=Clu.bC (fun n=>hcv.noRef n) 3
 have bx:aS 5 (af T chv) []=some (.ptr 0 0 0,[.row 5 false [af T chv]]):=rfl
 have ct:(cellsOf (af T chv)).length=5:=rfl
 have lt:ab true 5 [.row 5 false [af T chv]] (.ptr 0 0 0)=some (af T chv):=rfl
 have m22:=yI chv h.v
 have lno:=ho.len
 rw [aA] at lno
 obtain ⟨A0,hA0⟩:∃A:ac,A=[.row 5 false [af T chv]]:=⟨_,rfl⟩
 rw [<-hA0] at bx lt
 have mk1:bU 1 8 (.int .i64 0) A0 (.int .i64 (o.length:Int)) (.int .i64 (o.length:Int))=some (.sl 1 0 o.length,A0++[.row 1 false (aj (List.replicate o.length 0))]):=by
  simp only [bU]
  rw [RH ⟨by omega,by omega,by omega,by omega,rfl,rfl,by omega⟩,RW,hA0]
  unfold aj
  rw [T6]; rfl
 have ebz:bJ o 0=List.replicate o.length 0:=by
  apply SO
  ·simp [bJ,rJ]
  ·intro i _ _; simp [bJ,rJ]
 have mk2:bU 1 8 (.int .i64 0) (A0++[.row 1 false (aj (List.replicate o.length 0))]) (.int .i64 (o.length:Int)) (.int .i64 (o.length:Int))=some (.sl 2 0 o.length,A39 (af T chv) (List.replicate o.length 0) (bJ o 0)):=by
  simp only [bU]
  rw [RH ⟨by omega,by omega,by omega,by omega,rfl,rfl,by omega⟩,RW,ebz,hA0]
  unfold A39 aj
  rw [T6]; rfl
 have lpb:=HV hm (fun t ht=>by have:=h.ob t ht; omega) ho (tv:=af T chv) (xs:=List.replicate o.length 0) rv (.int .i64 free) (.ptr 0 0 0) (.int .i64 (wT T)) (.sl 1 0 o.length) o.length 0 300 (by omega) (by omega)
 rw [show ((0:Nat):Int)=0 from rfl] at lpb
 have lpe:=HR h hcv hr ho (o.length+2) 0 300 (List.replicate o.length 0) 0 (by omega) (by omega) (by simp) (fun j=>by
  rw [Rw,SW]
  split <;> simp) (by have:(o.length+2)*o.length<=12*10:=Nat.mul_le_mul (by omega) hm; omega)
 unfold xJ
 unfold EN at lpe
 rw [show ((0:Nat):Int)=0 from rfl] at lpe
 clear hA0 ebz
 cases hre:(cg T rd free o).ref (o.length+2) (List.replicate o.length 0) with
 | none=>
  rw [hre] at lpe
  rcases lpe with ⟨σ,B,q1,q2,q3⟩ | ⟨r',B,q1⟩
  ·clear hre
   refine ⟨.nilS,B,?_,.inl ⟨rfl,rfl⟩⟩
   show cc _ _ _ _ _=some (.tup [.nilS,.bool false],B)
   generalize A39 (af T chv) (List.replicate o.length 0) (bJ o 0)=A2 at *
   generalize A39 (af T chv) (List.replicate o.length 0) (bfL o)=A3 at *
   generalize A0++[Ent.row 1 false (aj (List.replicate o.length 0))]=A1 at *
   generalize af T chv=tv at *
   generalize wT T=w at *
   rw [bh _ _ rfl]
   simp [AG,bx,ct,lt,ft,tn,m22,lno,mk1,mk2,Bc lpb,A8 q1,q2,q3,dE,-aS,-ab,-bU,-aq,-frz,-cellsOf]
  ·clear hre
   refine ⟨.nilS,B,?_,.inl ⟨rfl,rfl⟩⟩
   show cc _ _ _ _ _=some (.tup [.nilS,.bool false],B)
   generalize A39 (af T chv) (List.replicate o.length 0) (bJ o 0)=A2 at *
   generalize A39 (af T chv) (List.replicate o.length 0) (bfL o)=A3 at *
   generalize A0++[Ent.row 1 false (aj (List.replicate o.length 0))]=A1 at *
   generalize af T chv=tv at *
   generalize wT T=w at *
   rw [bh _ _ rfl]
   simp [AG,bx,ct,lt,ft,tn,m22,lno,mk1,mk2,Bc lpb,A8 q1,dE,-aS,-ab,-bU,-aq,-frz,-cellsOf]
 | some ys=>
  rw [hre] at lpe
  obtain ⟨σ,B,v,q1,q2,q3,q4⟩:=lpe
  refine ⟨v,B,?_,q4⟩
  show cc _ _ _ _ _=some (.tup [v,.bool true],B)
  clear hre q4
  generalize A39 (af T chv) (List.replicate o.length 0) (bJ o 0)=A2 at *
  generalize A39 (af T chv) (List.replicate o.length 0) (bfL o)=A3 at *
  generalize A0++[Ent.row 1 false (aj (List.replicate o.length 0))]=A1 at *
  generalize af T chv=tv at *
  generalize wT T=w at *
  rw [bh _ _ rfl]
  simp [AG,bx,ct,lt,ft,tn,m22,lno,mk1,mk2,Bc lpb,A8 q1,q2,q3,dE,-aS,-ab,-bU,-aq,-frz,-cellsOf]
end
theorem zW {L:Nat} {B:ac} {l:List cO} (h:OV 2 lo B v (l.map aL)) (b:Bool):∃v' X,zX L B (.tup [v,.bool b])=some (.tup [v',.bool b],X)/\∀A:ac,A.length=L->RV L (A++X) v' l/\OV 2 L (A++X) v' (l.map aL):=by
 rcases h with ⟨rfl,e⟩ | ⟨id,g,rfl,hne,_,hr⟩
 ·exact ⟨.nilS,[],rfl,fun A _=>⟨.inl ⟨rfl,Tw.1 e⟩,.inl ⟨rfl,e⟩⟩⟩
 ·refine ⟨.sl L 0 (l.map aL).length,[.row 2 false (l.map aL)],?_,fun A hA=>⟨.inr ⟨L,RR _,by rw [RN],by rw [<-hA]; simp⟩,.inr ⟨L,false,rfl,hne,RR _,by rw [<-hA]; simp⟩⟩⟩
  unfold zX
  simp only [hr]
  rw [RH]
  refine ⟨trivial,trivial,rfl,?_⟩
  rw [RZ]
  intro x hx
  obtain ⟨t,_,rfl⟩:=Sa.1 hx
  rfl
def H39:aJ:=Ds 4 (cc (aw GC ir) 300 AG)
theorem GG:au Try.prog GC 39 H39:=au.thaw (b7 (ay tc) rfl M2 yn bG.nil) 4
theorem Gk {T:aT} {rv ov:AV} (h:yJ T rd free o) (hcv:SlA 2 (T.ch.map chA) chv) (hr:SlA 1 (aj rd) rv) (ho:SlA 1 (aj o) ov) (hh:be) {args:List AV} (A:ac) (hargs:args.map (frz A 4)=[af T chv,rv,.int .i64 free,ov]) :
  ∃v X,H39 hh args A=some (.tup [v,.bool (xJ T rd free o).isSome],A++X)/\OV 2 A.length (A++X) v (((xJ T rd free o).getD []).map aL):=by
 obtain ⟨v,B,h1,h2⟩:=IA h hcv hr ho
 obtain ⟨v',X,h3,h4⟩:=zW (L:=A.length) h2 (xJ T rd free o).isSome
 refine ⟨v',X,?_,(h4 A rfl).2⟩
 unfold H39
 rw [xm,hargs,h1,Sn]
 simp only [h3,Ss]
end Tr
namespace Tr
def dN:MC:=.seq (.seq (.region [.a 7,.a 5,.F 11 0 1]) (.cond (.var 11) .skip (.exit 0))) (.seq (.seq (.block 1 (.region [.a 6,.a 7,.i 1 1,.a 1,.a 7,.e 1 3 4,.b 1 5,.X 6 0,.e 1 0 2,.A 1 8 7])) (.kill [0,3,4,8,9,10,11,12,13,14,15])) (.region [.a 7,.i 0 1,.c 7 1]))
def dC:MC:=.seq (.seq (.region [.a 8,.a 2,.v 1,.F 12 0 2]) (.cond (.var 12) .skip (.exit 2))) (.seq (.seq (.block 3 (.seq (.region [.a 2,.a 8,.e 2 0 1,.m 0 2,.b 1 3,.c 9 4]) (.seq (.seq (.region [.a 9,.af 0 1,.h 1,.n 9 2,.n 5 2,.qf (.bin .gtr (.tmp 3) (.tmp 4)) 2,.G 2 5,.h 6,.n 6 7,.n 9 7,.U 1 8 9 7,.q 1 10 7,.H 11 7,.G 7 12,.h 13,.n 9 14,.n 5 14,.qf (.bin .lss (.tmp 15) (.tmp 16)) 14,.cm 17 14,.k 6 18,.k 9 18,.au 20 1 18,.L 1 19 21 18,.x 1 22 18,.a3 18 23 14,.C 13 14 24]) (.cond (.var 13) (.seq (.region [.g 4]) .ret) .skip)) (.seq (.region [.a 6,.a 9,.e 1 0 1,.co 1 2]) (.region [.a 6,.a 9,.i 1 1,.a 9,.a 5,.cz 3 4,.e 1 0 2,.A 1 6 5]))))) (.kill [0,1,3,4,7,9,10,11,12,13,14,15])) (.region [.a 8,.i 0 1,.c 8 1]))
def l8:MC:=.seq (.seq (.region [.a 10,.a 5,.a6 14 0 1]) (.cond (.var 14) .skip (.exit 4))) (.seq (.seq (.block 5 (.seq (.region [.a 6,.a 10,.e 1 0 1,.bk 15 1 2]) (.cond (.var 15) (.seq (.region [.g 4]) .ret) .skip))) (.kill [0,1,2,3,4,7,8,9,11,12,13,14,15])) (.region [.a 10,.i 0 1,.c 10 1]))
def vU:cI:=⟨3,16,.seq (.region [.D 3 0,.g 4]) (.seq (.region [.d 0 3,.b 1 0,.v 1,.c 5 2]) (.seq (.region [.a 5,.i 0 2,.b5 1 1,.c 6 2]) (.seq (.seq (.region [.f 7 0]) (.seq (.block 0 (.loop [0,3,4,8,9,10,11,12,13,14,15] dN)) (.kill [0,1,3,4,7,8,9,10,11,12,13,14,15]))) (.seq (.seq (.region [.f 8 0]) (.seq (.block 2 (.loop [0,1,3,4,7,9,10,11,12,13,14,15] dC)) (.kill [0,1,2,3,4,7,8,9,10,11,12,13,14,15]))) (.seq (.seq (.region [.f 10 1]) (.seq (.block 4 (.loop [0,1,2,3,4,7,8,9,11,12,13,14,15] l8)) (.kill [0,1,2,3,4,5,6,7,8,9,10,11,12,13,14,15]))) (.seq (.region [.I 4]) .ret)))))),[.tmp 4]⟩
def en:List Nat:=[0,3,4,8,9,10,11,12,13,14,15]
abbrev gt (v1 v2 v5 v6 v7:AV):List AV:=[.undef,v1,v2,.undef,.undef,v5,v6,v7,.undef,.undef,.undef,.undef,.undef,.undef,.undef,.undef]
theorem qQ {v1 v7:AV}:clear en [d0,v1,v2,d3,d4,v5,v6,v7,d8,d9,d10,d11,d12,d13,d14,d15]=gt v1 v2 v5 v6 v7:=rfl
theorem uP {o:Out} {k:List KC} {v1 v7:AV} (h:bM (evC E fuel dN) en fuel (gt v1 v2 v5 v6 v7) A=some o) :
  run E fuel (.code (.loop [0,3,4,8,9,10,11,12,13,14,15] dN) :: k) [d0,v1,v2,d3,d4,v5,v6,v7,d8,d9,d10,d11,d12,d13,d14,d15] A=after E fuel k o:=aQ en _ _ (by rw [qQ]; exact h)
def dS:List Nat:=[0,1,3,4,7,9,10,11,12,13,14,15]
abbrev fD (v2 v5 v6 v8:AV):List AV:=[.undef,.undef,v2,.undef,.undef,v5,v6,.undef,v8,.undef,.undef,.undef,.undef,.undef,.undef,.undef]
theorem mL {v8:AV}:clear dS [d0,d1,v2,d3,d4,v5,v6,d7,v8,d9,d10,d11,d12,d13,d14,d15]=fD v2 v5 v6 v8:=rfl
theorem uO {o:Out} {k:List KC} {v8:AV} (h:bM (evC E fuel dC) dS fuel (fD v2 v5 v6 v8) A=some o) :
  run E fuel (.code (.loop [0,1,3,4,7,9,10,11,12,13,14,15] dC) :: k) [d0,d1,v2,d3,d4,v5,v6,d7,v8,d9,d10,d11,d12,d13,d14,d15] A=after E fuel k o:=aQ dS _ _ (by rw [mL]; exact h)
def lS:List Nat:=[0,1,2,3,4,7,8,9,11,12,13,14,15]
abbrev pM (v5 v6 v10:AV):List AV:=[.undef,.undef,.undef,.undef,.undef,v5,v6,.undef,.undef,.undef,v10,.undef,.undef,.undef,.undef,.undef]
theorem vx {d2 v10:AV}:clear lS [d0,d1,d2,d3,d4,v5,v6,d7,d8,d9,v10,d11,d12,d13,d14,d15]=pM v5 v6 v10:=rfl
theorem Fq {o:Out} {k:List KC} {d2 v10:AV} (h:bM (evC E fuel l8) lS fuel (pM v5 v6 v10) A=some o) :
  run E fuel (.code (.loop [0,1,2,3,4,7,8,9,11,12,13,14,15] l8) :: k) [d0,d1,d2,d3,d4,v5,v6,d7,d8,d9,v10,d11,d12,d13,d14,d15] A=after E fuel k o:=aQ lS _ _ (by rw [vx]; exact h)
theorem vt:aH Try.prog Try.f19 3 [0,1,2,3,6,7,8,9,10,11,12,21,36,69,82,88] [] true ([[0,3,4,8,9,10,11,12,13,14,15],[0,1,3,4,7,9,10,11,12,13,14,15],[0,1,2,3,4,7,8,9,11,12,13,14,15]],[[0,3,4,8,9,10,11,12,13,14,15],[0,1,3,4,7,8,9,10,11,12,13,14,15],[0,1,3,4,7,9,10,11,12,13,14,15],[0,1,2,3,4,7,8,9,10,11,12,13,14,15],[0,1,2,3,4,7,8,9,11,12,13,14,15],[0,1,2,3,4,5,6,7,8,9,10,11,12,13,14,15]])=some vU:=by kernel_rfl
theorem LC:Try.prog.funcs[19]?=some Try.f19:=by kernel_rfl
end Tr
end Go.Proofs.Ytkcjhljbgjpklaa
