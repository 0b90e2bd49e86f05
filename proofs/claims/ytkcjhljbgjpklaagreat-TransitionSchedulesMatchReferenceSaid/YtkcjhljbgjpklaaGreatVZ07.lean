import Derived.Test.YtkcjhljbgjpklaaGreatVZ06
import Derived.WalkKit
import Derived.Deep.LoopGhost
import Derived.Lib.Walk
import Derived.Lib.SliceRun
import Derived.Deep.RegionLaw
import Derived.Shelf.RegionOpenPlain
import Derived.Laws.IdiomCopy
import Derived.KernelRfl
import Derived.Below
set_option maxRecDepth 100000
set_option maxHeartbeats 4000000
noncomputable section
namespace Go.Proofs.YtkcjhljbgjpklaaGreat
open Tryz (prog)
variable {A X:ac} {k j i n bi n0:Nat} {es:List AV} {chv a tv lv rdv b:AV} {e:Ent} {rd xs:List Int} {g:Bool} {Hd:ac->List Int->ac}
namespace Tr
open Go
open Cy (GC aM aV az)
open Clu (aW aT ai chA aQ aY bK bu bQ dZ cr bP sL fP)
section
variable {A:ac} {id:Nat} {xs:List Int}
theorem cG (h:A[id]?=some (.row 1 g es)) (hk:k<n) (kk:IntKind):ae 1 A (.sl id 0 n) (.int kk (k:Int))=some (.ptr id k 0):=by
 simp only [ae,h]
 rw [SA ⟨trivial,by omega,by omega,by omega⟩]
 simp
theorem dN (h:A[id]?=some (.q (ak xs))) (hk:k<xs.length):ab false 1 A (.ptr id k 0)=some (.z (xs.getD k 0)):=by
 have e:(ak xs)[k]?=some (.z (xs.getD k 0)):=by
  simp [ak,Sq hk]
 simp only [ab,h,e]
 rfl
theorem gw (h:A[id]?=some (.q (ak xs))) (hk:k<xs.length) (v:Int):aA 1 A (.ptr id k 0) (.z v)=some (A.set id (.q (ak (xs.set k v)))):=by
 have e:(ak xs)[k]?=some (.z (xs.getD k 0)):=by
  simp [ak,Sq hk]
 have e2:(ak xs).set k (.z v)=ak (xs.set k v):=by simp [ak]
 simp only [aA,h,e]
 rw [SA ⟨trivial,rfl,rfl,by omega⟩]
 simp only [bL,cellsOf]
 rw [<-e2]
 rfl
end
def aX (t:dc):AV:=.agg [.z t.1,.z t.2]
@[simp] theorem Sa (A:ac) (a b:AV):aa 0 A (.fp [a,b])=some (.fp [a,b]):=rfl
@[simp] theorem R9 (A:ac) (a b:AV):aa 1 A (.fp [a,b])=some (.fp [b]):=rfl
@[simp] theorem RY (A:ac) (a:AV) (r:List AV):ab false 1 A (.fp (a :: r))=some a:=rfl
theorem xf {T:aW} (hb:SlA 2 (T.ch.map chA) chv) (hk:k<T.ch.length) (A:ac) (kk:IntKind):ae 2 A chv (.int kk (k:Int))=some (.fp [.z (tmT T k),.z (syT T k)]):=by
 have:=hb.index (A:=A) (i:=k) (x:=chA (T.ch.getD k (0,0))) (by simp [Sq hk]) rfl (by omega) kk
 rw [this]; rfl
def oS:List (FuncId × aJ):=[(31,aE 4 M29),(24,aE 4 M30),(37,aE 4 M41),(38,aE 4 M42),(36,fun _=>bZ (aq GC []) 0 Cy.ql)]
@[simp] theorem Qn:aD oS 31=some (aE 4 M29):=rfl
@[simp] theorem Qm:aD oS 24=some (aE 4 M30):=rfl
@[simp] theorem Qk:aD oS 37=some (aE 4 M41):=rfl
@[simp] theorem Qj:aD oS 38=some (aE 4 M42):=rfl
@[simp] theorem Ql:aD oS 36=some (fun _=>bZ (aq GC []) 0 Cy.ql):=rfl
theorem Hy:∀f M,aD oS f=some M->au prog GC f M:=ag (au.of_pure xT 4) (ag (au.of_pure uI 4) (ag (au.of_pure p7 4) (ag (au.of_pure sf 4) (ag Cy.jm aB))))
def M17:aU:=fun args=>evP (aq GC oS) 300 Aa 4 args
theorem uJ:aw prog GC 14 M17:=aw.of_ev (E:=aq GC oS) (ax Hy) rfl (by kernel_rfl) Cw 4 fun _ _ h=>⟨300,h⟩
def I2:MC:=.r [.d 0 10,.b 1 0,.c 12 1] (.r [.a 12,.a 7,.s 1,.D 21 0 2] (.cond (.var 21) (.seq (.r [.a 7,.a 12,.e 1 0 1,.b 1 2,.ak 22 3 0] (.cond (.var 22) (.r [.f 5 0,.g 6] .ret) .skip)) (.region [.a 7,.a 12,.a 9,.d 0 4,.b 1 3,.a 12,.e 2 4 5,.o 0 6,.b 1 7,.m 2 8,.e 1 0 1,.A 1 10 9])) .skip))
def DP:MC:=.seq (.r [.d 0 10,.b 1 0,.r 1 1,.c 11 2] (.r [.a 11,.ak 19 0 0] (.cond (.var 19) (.seq (.r [.a 7,.a 11,.e 1 0 1,.b 1 2,.au 3 0,.i 4,.C 1 10 5,.p 1 6 5,.n 7 5,.n 11 5,.O 1 8 9 5,.p 1 10 5,.n 7 5,.n 11 5,.O 1 12 13 5,.p 1 14 5,.C 0 4 5,.p 1 16 5,.n 11 5,.O 2 17 18 5,.a2 1 19 5,.p 1 20 5,.a3 15 21 5,.ax 24 7 11 22 5,.G 23 5,.x 20 5 24] (.cond (.var 20) (.r [.f 5 0,.g 6] .ret) .skip)) (.region [.a 7,.a 11,.e 1 0 1,.az 1 2 (-1)])) .skip))) I2
theorem zJ:dE=.r [.F 17 16 15] (.seq (.cond (.var 17) .skip (.exit 0)) (.seq (.seq (.block 1 (.r [.M 2 14 16,.K 2 0,.ag 10 2,.t 2 10 1] (.seq (.r [.d 0 10,.b 1 0,.a 7,.s 2,.ae 24 1 3,.Q 4,.i 5,.C 1 10 6,.p 1 7 6,.n 9 6,.bh 5 4 6,.n 8 6,.C 0 10 6,.p 1 12 6,.ax 37 10 11 13 6,.a3 9 14 6,.a0 24 8 15 6,.G 16 6,.x 18 6 17] (.cond (.var 18) (.r [.f 5 0,.g 6] .ret) .skip)) (.r [.d 0 10,.b 1 0,.d 1 10,.b 1 2,.k 5 4,.H 38 4,.m 3 5,.c 8 1,.c 9 6] DP)))) (.kill [0,1,2,3,5,6,10,11,12,13,17,18,19,20,21,22])) (.region [.w 16 1,.c 16 0]))):=rfl
structure A17 (A:ac) (T:aW) (chv:AV) (inn:List Int):Prop where
 t:A[0]?=some (.row 5 false [ai T chv])
 r:A[2]?=some (.q (ak inn))
 l:2<A.length
theorem A17.set {T:aW} {inn:List Int} (h:A17 A T chv inn) (inn':List Int):A17 (A.set 2 (.q (ak inn'))) T chv inn':=
 ⟨by rw [Sz (by omega)]; exact h.t,by rw [SG h.l],by rw [Ti]; exact h.l⟩
theorem A17.tool {T:aW} {inn:List Int} (h:A17 A T chv inn) (hb:SlA 2 (T.ch.map chA) chv):ab true 5 A (.p 0)=some (ai T chv)/\aa 0 A (.p 0)=some (.p 0)/\ab false 1 A (.p 0)=some chv:=by
 have h1:∀B:ac,B[0]?=A[0]?->ab true 5 B (.p 0)=ab true 5 A (.p 0):=fun B e=>by simp only [ab,e]
 refine ⟨?_,?_,?_⟩
 ·simp only [ab,h.t]; rfl
 ·simp only [aa,h.t]; rfl
 ·simp only [ab,h.t]
  rcases hb with ⟨rfl,_⟩ | rfl <;> rfl
theorem iG {p:Nat} {t:dc} (h:A[p]?=some (.row 2 false [aX t])):aa 0 A (.p p)=some (.p p)/\aa 1 A (.p p)=some (.ptr p 0 1)/\ab false 1 A (.p p)=some (.z t.1)/\ab false 1 A (.ptr p 0 1)=some (.z t.2):=by
 refine ⟨?_,?_,?_,?_⟩
 ·simp only [aa,h]; rfl
 ·simp only [aa,h]; rfl
 ·simp only [ab,h]; rfl
 ·simp only [ab,h]; rfl
abbrev s17 (n:Nat) (last fin:Int) (lv:AV) (m i:Nat):List AV:=gO (.p 0) (.sl 2 0 n) (.z last) (.z fin) lv (.z (m:Int)) (.z (i:Int))
section
variable {T:aW} {chv:AV} {A:ac} {inn:List Int} {n p:Nat} {tn ts:Int}
theorem NT (hb:SlA 2 (T.ch.map chA) chv) (hv:aT T) (hA:A17 A T chv inn) (hn:inn.length=T.ch.length) (hnn:n=T.ch.length) (hp:A[p]?=some (.row 2 false [aX (tn,ts)])) (h0:0<=tn) (hts:0<=ts/\ts<=1000000000)
  (v0 v1 v2 v3 v5 v6 v8 v11 v12 v13 v14 v15 v16 v17 v18 v19 v20 v21 v22:AV) :
  match wu T inn (tn,ts) with
  | some inn2=>∃e12 e21 e22 B,(∀K,run (aq GC oS) 300 (.code I2 :: K) [v0,v1,v2,v3,.p 0,v5,v6,.sl 2 0 n,v8,.z (ts+wT T),.p p,v11,v12,v13,v14,v15,v16,v17,v18,v19,v20,v21,v22] A =
    run (aq GC oS) 300 K [v0,v1,v2,v3,.p 0,v5,v6,.sl 2 0 n,v8,.z (ts+wT T),.p p,v11,e12,v13,v14,v15,v16,v17,v18,v19,v20,e21,e22] B)/\A17 B T chv inn2
  | none=>∃ σ B,(∀K,run (aq GC oS) 300 (.code I2 :: K) [v0,v1,v2,v3,.p 0,v5,v6,.sl 2 0 n,v8,.z (ts+wT T),.p p,v11,v12,v13,v14,v15,v16,v17,v18,v19,v20,v21,v22] A=some (.ret σ B))/\σ[5]?=some (.z 0)/\σ[6]?=some .f:=by
 obtain ⟨f0,_,l0,_⟩:=iG hp
 simp only at l0
 obtain ⟨_,g0,g1⟩:=hA.tool hb
 have hw:=de hv
 have ln:aj (.sl 2 0 n)=some (.z (n:Int)):=rfl
 have b1:=bP tn (n:Int)
 unfold wu
 simp only
 by_cases h1:tn<(inn.length:Int)
 rotate_left
 ·rw [SD h1]
  rw [Ss (by omega)] at b1
  refine ⟨.z tn,.f,v22,A,fun K=>?_,hA⟩
  generalize (n:Int)=N at *
  simp [I2,f0,l0,ln,b1,-af,-ab,-aa,-aj]
 rw [SA h1]
 rw [Su (by omega)] at b1
 obtain ⟨t,rfl⟩:∃t:Nat,tn=(t:Int):=⟨tn.toNat,by omega⟩
 rw [SM]
 have i1:=cG hA.r (n:=n) (k:=t) (by omega) .i64
 have d1:=dN hA.r (k:=t) (by omega)
 have b2:=Cy.je (inn.getD t 0)
 have hc:=xf hb (k:=t) (by omega) A .i64
 have htm:=dp hv t
 have b3:af .add (.z (ts+wT T)) (.z (tmT T t))=some (.z (ts+wT T+tmT T t)):=aY (by omega)
 have s1:=gw hA.r (k:=t) (by omega) (ts+wT T+tmT T t)
 obtain ⟨I,hI⟩:∃I,I=inn.getD t 0:=⟨_,rfl⟩
 rw [<-hI] at d1 b2 ⊢
 obtain ⟨E,hE⟩:∃E,E=ts+wT T+tmT T t:=⟨_,rfl⟩
 rw [<-hE] at b3 s1 ⊢
 by_cases h2:0<=I
 ·rw [SA h2]
  rw [Su h2] at b2
  refine ⟨[v0,v1,v2,v3,.p 0,.z 0,.f,.sl 2 0 n,v8,.z (ts+wT T),.p p,v11,.z (t:Int),v13,v14,v15,v16,v17,v18,v19,v20,.t,.t],A,fun K=>?_,rfl,rfl⟩
  generalize (n:Int)=N at *
  generalize (t:Int)=TT at *
  simp [I2,f0,l0,ln,b1,i1,d1,b2,-af,-ab,-aa,-aj,-ae]
 ·rw [SD h2]
  rw [Ss h2] at b2
  refine ⟨.z (t:Int),.t,.f,A.set 2 (.q (ak (inn.set t E))),fun K=>?_,hA.set _⟩
  generalize (n:Int)=N at *
  generalize (t:Int)=TT at *
  simp [I2,f0,l0,ln,b1,i1,d1,b2,b3,g0,g1,hc,s1,-af,-ab,-aa,-aj,-ae,-aA]
theorem N7 (hb:SlA 2 (T.ch.map chA) chv) (hv:aT T) (hA:A17 A T chv inn) (hn:inn.length=T.ch.length) (hnn:n=T.ch.length) (hp:A[p]?=some (.row 2 false [aX (tn,ts)])) (hp2:p≠2) (h0:0<=tn/\tn<=inn.length) (hts:0<=ts/\ts<=1000000000) (hin:∀z∈inn,-1<=z/\z<=3000000000)
  (v0 v1 v2 v3 v5 v6 v8 v11 v12 v13 v14 v15 v16 v17 v18 v19 v20 v21 v22:AV) :
  match (kQ T inn (tn,ts)).bind fun a=>wu T a (tn,ts) with
  | some inn2=>∃e11 e12 e19 e20 e21 e22 B,(∀K,run (aq GC oS) 300 (.code DP :: K) [v0,v1,v2,v3,.p 0,v5,v6,.sl 2 0 n,v8,.z (ts+wT T),.p p,v11,v12,v13,v14,v15,v16,v17,v18,v19,v20,v21,v22] A =
    run (aq GC oS) 300 K [v0,v1,v2,v3,.p 0,v5,v6,.sl 2 0 n,v8,.z (ts+wT T),.p p,e11,e12,v13,v14,v15,v16,v17,v18,e19,e20,e21,e22] B)/\A17 B T chv inn2
  | none=>∃ σ B,(∀K,run (aq GC oS) 300 (.code DP :: K) [v0,v1,v2,v3,.p 0,v5,v6,.sl 2 0 n,v8,.z (ts+wT T),.p p,v11,v12,v13,v14,v15,v16,v17,v18,v19,v20,v21,v22] A=some (.ret σ B))/\σ[5]?=some (.z 0)/\σ[6]?=some .f:=by
 obtain ⟨f0,f1,l0,l1⟩:=iG hp
 simp only at l0 l1
 obtain ⟨_,g0,g1⟩:=hA.tool hb
 have hn4:=hv.2.2.2.1
 have b1:af .sub (.z tn) (.z 1)=some (.z (tn-1)):=bK (by omega)
 have b2:=Cy.je (tn-1)
 have key:∀(inn1:List Int) (B:ac) (e11 e19 e20:AV),A17 B T chv inn1->inn1.length=T.ch.length->B[p]?=some (.row 2 false [aX (tn,ts)]) ->
   (∀K,run (aq GC oS) 300 (.code DP :: K) [v0,v1,v2,v3,.p 0,v5,v6,.sl 2 0 n,v8,.z (ts+wT T),.p p,v11,v12,v13,v14,v15,v16,v17,v18,v19,v20,v21,v22] A =
    run (aq GC oS) 300 (.code I2 :: K) [v0,v1,v2,v3,.p 0,v5,v6,.sl 2 0 n,v8,.z (ts+wT T),.p p,e11,v12,v13,v14,v15,v16,v17,v18,e19,e20,v21,v22] B) ->
   match (some inn1).bind fun a=>wu T a (tn,ts) with
   | some inn2=>∃e11 e12 e19 e20 e21 e22 B,(∀K,run (aq GC oS) 300 (.code DP :: K) [v0,v1,v2,v3,.p 0,v5,v6,.sl 2 0 n,v8,.z (ts+wT T),.p p,v11,v12,v13,v14,v15,v16,v17,v18,v19,v20,v21,v22] A =
     run (aq GC oS) 300 K [v0,v1,v2,v3,.p 0,v5,v6,.sl 2 0 n,v8,.z (ts+wT T),.p p,e11,e12,v13,v14,v15,v16,v17,v18,e19,e20,e21,e22] B)/\A17 B T chv inn2
   | none=>∃ σ B,(∀K,run (aq GC oS) 300 (.code DP :: K) [v0,v1,v2,v3,.p 0,v5,v6,.sl 2 0 n,v8,.z (ts+wT T),.p p,v11,v12,v13,v14,v15,v16,v17,v18,v19,v20,v21,v22] A=some (.ret σ B))/\σ[5]?=some (.z 0)/\σ[6]?=some .f:=by
  intro inn1 B e11 e19 e20 hA1 hn1 hp1 hrun
  have h:=NT hb hv hA1 hn1 hnn hp1 h0.1 hts v0 v1 v2 v3 v5 v6 v8 e11 v12 v13 v14 v15 v16 v17 v18 e19 e20 v21 v22
  rw [Te]
  cases hput:wu T inn1 (tn,ts) with
  | none=>
   rw [hput] at h
   obtain ⟨σ,B',h1,h2⟩:=h
   exact ⟨σ,B',fun K=>by rw [hrun,h1],h2⟩
  | some inn2=>
   rw [hput] at h
   obtain ⟨e12,e21,e22,B',h1,h2⟩:=h
   exact ⟨e11,e12,e19,e20,e21,e22,B',fun K=>by rw [hrun,h1],h2⟩
 unfold kQ
 simp only
 by_cases h1:1<=tn
 rotate_left
 ·rw [SD h1]
  rw [Ss (by omega)] at b2
  refine key inn A (.z (tn-1)) .f v20 hA hn hp fun K=>?_
  generalize tn-1=T1 at *
  simp [DP,f0,l0,b1,b2,-af,-ab,-aa,-aj]
 rw [SA h1]
 rw [Su (by omega)] at b2
 obtain ⟨k,hk⟩:∃k:Nat,tn-1=(k:Int):=⟨(tn-1).toNat,by omega⟩
 rw [hk,SM]
 rw [hk] at b1 b2
 have i1:=cG hA.r (n:=n) (k:=k) (by omega) .i64
 have d1:=dN hA.r (k:=k) (by omega)
 have b3:=bP (inn.getD k 0) 0
 have hc:=xf hb (k:=k) (by omega) A .i64
 have hch:=dp hv k
 have hI : -1<=inn.getD k 0/\inn.getD k 0<=3000000000:=by
  rw [Sr,Sq (show k<inn.length by omega)]
  exact hin _ (SC _)
 have b4:af .add (.z (inn.getD k 0)) (.z (syT T k))=some (.z (inn.getD k 0+syT T k)):=aY (by omega)
 have m1:=cq ts (inn.getD k 0) (inn.getD k 0+syT T k)
 have s1:=gw hA.r (k:=k) (by omega) (-1)
 have hA1:=hA.set (inn.set k (-1))
 have hp1:(A.set 2 (.q (ak (inn.set k (-1)))))[p]?=some (.row 2 false [aX (tn,ts)]):=by rw [Sz (TX hp2)]; exact hp
 have key1:=key (inn.set k (-1)) (A.set 2 (.q (ak (inn.set k (-1))))) (.z (k:Int)) .t .f hA1 (by simp [hn]) hp1
 obtain ⟨A1,hAe⟩:∃X,X=A.set 2 (.q (ak (inn.set k (-1)))):=⟨_,rfl⟩
 rw [<-hAe] at s1 key1
 obtain ⟨I,hIe⟩:∃I,I=inn.getD k 0:=⟨_,rfl⟩
 rw [<-hIe] at d1 b3 b4 m1 hI ⊢
 obtain ⟨E,hE⟩:∃E,E=I+syT T k:=⟨_,rfl⟩
 rw [<-hE] at b4 m1 ⊢
 by_cases h2:0<=I
 rotate_left
 ·rw [SD (fun h=>h2 h.1)]
  rw [Su (by omega)] at b3
  refine ⟨[v0,v1,v2,v3,.p 0,.z 0,.f,.sl 2 0 n,v8,.z (ts+wT T),.p p,.z (k:Int),v12,v13,v14,v15,v16,v17,v18,.t,.t,v21,v22],A,fun K=>?_,rfl,rfl⟩
  generalize (k:Int)=KK at *
  simp [DP,f0,l0,i1,d1,b1,b2,b3,-af,-ab,-aa,-aj,-ae]
 rw [Ss (by omega)] at b3
 by_cases h3:I<=ts/\ts<=E
 rotate_left
 ·rw [SD (fun h=>h3 h.2)]
  have mb:iD ts I E=false:=by
   cases e:iD ts I E
   ·rfl
   ·exact absurd (cP.1 e) h3
  rw [mb] at m1
  refine ⟨[v0,v1,v2,v3,.p 0,.z 0,.f,.sl 2 0 n,v8,.z (ts+wT T),.p p,.z (k:Int),v12,v13,v14,v15,v16,v17,v18,.t,.t,v21,v22],A,fun K=>?_,rfl,rfl⟩
  generalize (k:Int)=KK at *
  simp [DP,f0,f1,l0,l1,g0,g1,hc,i1,d1,b1,b2,b3,b4,m1,-cq,-af,-ab,-aa,-aj,-ae]
 ·rw [SA ⟨h2,h3⟩]
  rw [cP.2 h3] at m1
  refine key1 fun K=>?_
  generalize (k:Int)=KK at *
  simp [DP,f0,f1,l0,l1,g0,g1,hc,i1,d1,b1,b2,b3,b4,m1,s1,-cq,-af,-ab,-aa,-aj,-ae,-aA]
end
structure OkS (T:aW) (x:St):Prop where
 n:x.inn.length=T.ch.length
 la : -1000<=x.last/\x.last<=1000
 fi:0<=x.fin/\x.fin<=2000000000
 inn:∀z∈x.inn,-1<=z/\z<=3000000000
theorem OkS.step {T:aW} (hv:aT T) {x y:St} (h:OkS T x) {t:dc} (hs:fD T x t=some y):OkS T y:=by
 have hw:=de hv
 have hn4:=hv.2.2.2.1
 unfold fD at hs
 split at hs
 ·rename_i hc
  obtain ⟨⟨c1,c2⟩,c3,c4⟩:=hc
  have hbt:=nh hv x.last t.1
  cases h1:kQ T x.inn t with
  | none=>rw [h1] at hs; cases hs
  | some a=>
   rw [h1,Te] at hs
   cases h2:wu T a t with
   | none=>rw [h2] at hs; cases hs
   | some b=>
    rw [h2] at hs
    injection hs with hs
    subst hs
    have ha:a.length=T.ch.length/\∀z∈a,-1<=z/\z<=3000000000:=by
     unfold kQ at h1
     split at h1
     ·split at h1
      ·injection h1 with h1; subst h1
       refine ⟨by simp [h.n],fun z hz=>?_⟩
       rcases List.mem_or_eq_of_mem_set hz with hz | rfl
       ·exact h.inn z hz
       ·omega
      ·cases h1
     ·injection h1 with h1; subst h1
      exact ⟨h.n,h.inn⟩
    have hb:b.length=T.ch.length/\∀z∈b,-1<=z/\z<=3000000000:=by
     have htm:=dp hv t.1.toNat
     have:=h.fi
     unfold wu at h2
     split at h2
     ·split at h2
      ·cases h2
      ·injection h2 with h2; subst h2
       refine ⟨by simp [ha.1],fun z hz=>?_⟩
       rcases List.mem_or_eq_of_mem_set hz with hz | rfl
       ·exact ha.2 z hz
       ·omega
     ·injection h2 with h2; subst h2
      exact ha
    have:=h.n
    have:=h.fi
    exact ⟨hb.1,by simp only; omega,by simp only; omega,hb.2⟩
 ·cases hs
theorem tO {T:aW} (hb:SlA 2 (T.ch.map chA) chv) (hv:aT T) {l:List dc} (hlv:SlA 2 (l.map aX) lv) {A:ac} {x:St} (hA:A17 A T chv x.inn) (hx:OkS T x) {i:Nat} (hi:i<l.length) (hil:l.length<=200) :
  match fD T x l[i] with
  | some y=>∃B,run (aq GC oS) 300 [.code dE] (s17 T.ch.length x.last x.fin lv l.length i) A=some (.normal (s17 T.ch.length y.last y.fin lv l.length (i+1)) B)/\A17 B T chv y.inn
  | none=>∃ σ B,run (aq GC oS) 300 [.code dE] (s17 T.ch.length x.last x.fin lv l.length i) A=some (.ret σ B)/\σ[5]?=some (.z 0)/\σ[6]?=some .f:=by
 obtain ⟨inn,last,fin⟩:=x
 obtain ⟨hn,hlast,hfin,hin⟩:=hx
 simp only at hA hn hlast hfin hin ⊢
 have hw:=de hv
 have hn4:=hv.2.2.2.1
 have ft:=fun A=>aQ (T:=T) (fun A n=>hb.frz (A:=A) n) A 3
 have x1:=hlv.index (A:=A) (i:=i) (x:=aX l[i]) (by simp [hi]) rfl (by omega) .i64
 have b0:=be i l.length .i64
 rw [Su hi] at b0
 have b9:=aP i (by omega)
 obtain ⟨⟨tn,ts⟩,hti⟩:∃t,t=l[i]:=⟨_,rfl⟩
 rw [<-hti] at x1 ⊢
 have x1:ae 2 A lv (.z (i:Int))=some (.fp [.z tn,.z ts]):=x1
 obtain ⟨B,hB⟩:∃B,B=A++[Ent.row 2 false [aX (tn,ts)]]:=⟨_,rfl⟩
 have s0:aA 2 (A++[.row 2 false [.agg [.z 0,.z 0]]]) (.p A.length) (.agg [.z tn,.z ts])=some B:=by
  rw [hB]
  simp only [aA,Uf,Tp]
  rw [SA ⟨trivial,rfl,rfl,by omega⟩]
  simp [bL,cellsOf,aX]
 have hAB:A17 B T chv inn:=by
  have hl:=hA.l
  rw [hB]
  exact ⟨by rw [Sy (by omega)]; exact hA.t,by rw [Sy (by omega)]; exact hA.r,by simp; omega⟩
 have hp:B[A.length]?=some (.row 2 false [aX (tn,ts)]):=by rw [hB]; simp
 have hp2:A.length≠2:=by have:=hA.l; omega
 obtain ⟨f0,f1,l0,l1⟩:=iG hp
 simp only at l0 l1
 obtain ⟨lt,g0,g1⟩:=hAB.tool hb
 have ln:aj (.sl 2 0 T.ch.length)=some (.z (T.ch.length:Int)):=rfl
 have m1:=cq tn 0 (T.ch.length:Int)
 have m2:=zc (T:=T) chv last tn hlast
 have hbt:=nh hv last tn
 have b1:af .add (.z fin) (.z (btw T last tn))=some (.z (fin+btw T last tn)):=aY (by omega)
 have m3:=cq ts (fin+btw T last tn) 1000000000
 have m4:=y9 (T:=T) chv hv
 generalize hp0:A.length=p at *
 rw [zJ]
 obtain ⟨t,ht⟩:∃t,t=ai T chv:=⟨_,rfl⟩
 rw [<-ht] at ft lt m2 m4
 unfold fD
 simp only
 by_cases c1:0<=tn/\tn<=(inn.length:Int)
 rotate_left
 ·rw [SD (fun h=>c1 h.1)]
  have mb:iD tn 0 (T.ch.length:Int)=false:=by
   cases e:iD tn 0 (T.ch.length:Int)
   ·rfl
   ·exact absurd (cP.1 e) (by rw [hn] at c1; exact c1)
  rw [mb] at m1
  refine ⟨[.u,.u,.u,.u,.p 0,.z 0,.f,.sl 2 0 T.ch.length,.z last,.z fin,.p p,.u,.u,.u,lv,.z (l.length:Int),.z (i:Int),.t,.t,.u,.u,.u,.u],B,?_,rfl,rfl⟩
  generalize (T.ch.length:Int)=N at *
  simp [x1,b0,s0,f0,l0,ln,m1,fP,hp0,-cq,-af,-ab,-aa,-aj,-ae,-aA]
 have mb1:iD tn 0 (T.ch.length:Int)=true:=cP.2 (by rw [hn] at c1; exact c1)
 rw [mb1] at m1
 by_cases c2:fin+btw T last tn<=ts/\ts<=1000000000
 rotate_left
 ·rw [SD (fun h=>c2 h.2)]
  have mb:iD ts (fin+btw T last tn) 1000000000=false:=by
   cases e:iD ts (fin+btw T last tn) 1000000000
   ·rfl
   ·exact absurd (cP.1 e) c2
  rw [mb] at m3
  refine ⟨[.u,.u,.u,.u,.p 0,.z 0,.f,.sl 2 0 T.ch.length,.z last,.z fin,.p p,.u,.u,.u,lv,.z (l.length:Int),.z (i:Int),.t,.t,.u,.u,.u,.u],B,?_,rfl,rfl⟩
  generalize (T.ch.length:Int)=N at *
  generalize btw T last tn=BT at *
  simp [x1,b0,s0,f0,f1,l0,l1,lt,ft,ln,m1,m2,m3,b1,fP,hp0,-cq,-af,-ab,-aa,-aj,-ae,-aA]
 have mb2:iD ts (fin+btw T last tn) 1000000000=true:=cP.2 c2
 rw [mb2] at m3
 rw [SA ⟨c1,c2⟩]
 have b2:af .add (.z ts) (.z (wT T))=some (.z (ts+wT T)):=aY (by omega)
 have hmid:=N7 (n:=T.ch.length) hb hv hAB hn rfl hp hp2 c1 (by omega) hin .u .u .u .u .u .u (.z tn) .u .u .u lv (.z (l.length:Int)) (.z (i:Int)) .t .f .u .u .u .u
 cases hput:(kQ T inn (tn,ts)).bind fun a=>wu T a (tn,ts) with
 | none=>
  have e:((kQ T inn (tn,ts)).bind fun a=>(wu T a (tn,ts)).map fun b=>(⟨b,tn,ts+wT T⟩:St))=none:=by
   cases h1:kQ T inn (tn,ts) with
   | none=>rfl
   | some a=>
    rw [h1,Te] at hput
    rw [Te,hput]; rfl
  rw [e]
  rw [hput] at hmid
  obtain ⟨σ,B',h1,h2⟩:=hmid
  refine ⟨σ,B',?_,h2⟩
  generalize hN:(T.ch.length:Int)=N at *
  generalize btw T last tn=BT at *
  generalize ts+wT T=EE at *
  simp [x1,b0,s0,f0,f1,l0,l1,lt,ft,ln,m1,m2,m3,m4,b1,b2,fP,hp0,h1,-cq,-af,-ab,-aa,-aj,-ae,-aA]
 | some inn2=>
  have e:((kQ T inn (tn,ts)).bind fun a=>(wu T a (tn,ts)).map fun b=>(⟨b,tn,ts+wT T⟩:St))=some ⟨inn2,tn,ts+wT T⟩:=by
   cases h1:kQ T inn (tn,ts) with
   | none=>rw [h1] at hput; cases hput
   | some a=>
    rw [h1,Te] at hput
    rw [Te,hput]; rfl
  rw [e]
  rw [hput] at hmid
  obtain ⟨e11,e12,e19,e20,e21,e22,B',h1,h2⟩:=hmid
  refine ⟨B',?_,h2⟩
  simp only
  generalize hN:(T.ch.length:Int)=N at *
  generalize btw T last tn=BT at *
  generalize ts+wT T=EE at *
  obtain ⟨i1,hi1⟩:∃i1:Nat,i1=i+1:=⟨_,rfl⟩
  rw [<-hi1] at b9 ⊢
  simp [x1,b0,b9,s0,f0,f1,l0,l1,lt,ft,ln,m1,m2,m3,m4,b1,b2,fP,hp0,h1,-cq,-af,-ab,-aa,-aj,-ae,-aA]
theorem KV {T:aW} (hb:SlA 2 (T.ch.map chA) chv) (hv:aT T) {l:List dc} (hlv:SlA 2 (l.map aX) lv) (hil:l.length<=200):∀(c i:Nat) (A:ac) (x:St) (m:Nat),i+c=l.length->A17 A T chv x.inn->OkS T x->c<m ->
  match rV T x (l.drop i) with
  | some y=>∃B,bG (evC (aq GC oS) 300 dE) dK m (s17 T.ch.length x.last x.fin lv l.length i) A=some (.exit 0 ((s17 T.ch.length y.last y.fin lv l.length l.length).set 17 .f) B)
  | none=>∃ σ B,bG (evC (aq GC oS) 300 dE) dK m (s17 T.ch.length x.last x.fin lv l.length i) A=some (.ret σ B)/\σ[5]?=some (.z 0)/\σ[6]?=some .f:=by
 intro c
 induction c with
 | zero=>
  intro i A x m hi hA hx hm
  obtain ⟨m,rfl⟩:∃j,m=j+1:=⟨m-1,by omega⟩
  obtain rfl:i=l.length:=by omega
  rw [TN]
  simp only [rV]
  refine ⟨A,?_⟩
  have b0:=be l.length l.length .i64
  rw [Ss (by omega)] at b0
  rw [aG,tc]
  simp [dE,b0,-af]
 | succ c ih=>
  intro i A x m hi hA hx hm
  obtain ⟨m,rfl⟩:∃j,m=j+1:=⟨m-1,by omega⟩
  have hil':i<l.length:=by omega
  rw [To hil']
  simp only [rV]
  have hr:=tO hb hv hlv hA hx hil' hil
  rw [aG,tc]
  cases hs:fD T x l[i] with
  | none=>
   rw [hs] at hr
   obtain ⟨σ,B,h1,h2⟩:=hr
   rw [U7,h1]
   exact ⟨σ,B,rfl,h2⟩
  | some y=>
   rw [hs] at hr
   obtain ⟨B,h1,h2⟩:=hr
   rw [Te,h1]
   exact ih (i+1) B y m (by omega) h2 (hx.step hv hs) (by omega)
theorem yD (A:ac) (z:Int) (b:Bool):frz A 4 (.tup [.z z,.bool b])=.tup [.z z,.bool b]:=rfl
def EW (r:Option Int):AV:=.tup [.z (r.getD 0),.bool r.isSome]
theorem zf {T:aW} (hb:SlA 2 (T.ch.map chA) chv) (hl:T.ch.length<=200) (hr:SlA 1 (ak rd) rdv) (hrl:rd.length<=200) (free:Int) {l:List dc} (hlv:SlA 2 (l.map aX) lv) (hll:l.length<=200):M17 [ai T chv,rdv,.z free,lv]=some (EW (gV T rd free l)):=by
 have m:=wm hb hl hr hrl free
 have ft:=fun A=>aQ (T:=T) (fun A n=>hb.frz (A:=A) n) A 3
 have fr:∀A n,frz A n rdv=rdv:=fun A n=>hr.frz n
 have bx:aR 5 (ai T chv) []=some (.p 0,[.row 5 false [ai T chv]]):=rfl
 have ct:(cellsOf (ai T chv)).length=5:=rfl
 obtain ⟨A0,hA0⟩:∃A:ac,A=[.row 5 false [ai T chv]]:=⟨_,rfl⟩
 have lt:ab true 5 A0 (.p 0)=some (ai T chv):=by rw [hA0]; rfl
 have hll2:=hlv.len
 rw [SF] at hll2
 have hA0':=hA0
 obtain ⟨t,ht⟩:∃t,t=ai T chv:=⟨_,rfl⟩
 rw [<-ht] at m ft bx ct lt hA0 ⊢
 rw [<-hA0] at bx
 unfold M17
 rw [aO _ _ rfl]
 unfold gV
 by_cases hS:Sit T rd free
 rotate_left
 ·rw [Ss hS] at m
  rw [SD hS]
  simp [Aa,m,ft,fr,bx,ct,lt,aM,yD,dI,EW,-aR,-ab,-aj,-frz,-cellsOf]
 rw [Su hS] at m
 rw [SA hS]
 have hv:=hS.1.1
 have hsl:=gY hS
 have hne:rd≠[]:=by intro e; rw [e] at hsl; simp at hsl
 have hcl:=Cy.NB (aq GC []) 0 (A:=A0) (a:=rdv) (xs:=rd) (.inl hr) hne (by omega)
 have hA2:A17 (A0++[.dead,.q (ak rd)]) T chv rd:=by
  rw [hA0']
  exact ⟨rfl,rfl,by simp⟩
 have hx:OkS T (st0 rd free):=⟨hS.2.1,by simp [st0],by have:=hS.2.2.1; simp only [st0]; omega,fun z hz=>by have:=hS.2.2.2 z hz; omega⟩
 have hlp:=KV hb hv hlv hll l.length 0 _ (st0 rd free) 300 (by omega) hA2 hx (by omega)
 have hA0l:A0.length=1:=by rw [hA0]; rfl
 rw [hA0l] at hcl
 generalize hA1:A0++[.dead,.q (ak rd)]=A1 at *
 rw [SL] at hlp
 rw [hS.2.1] at hcl
 cases hc:rV T (st0 rd free) l with
 | some y=>
  rw [hc] at hlp
  obtain ⟨B,hlp⟩:=hlp
  simp only [st0] at hlp
  have hlp:bG (evC (aq GC oS) 300 dE) dK 300 (gO (.p 0) (.sl 2 0 T.ch.length) (.z (-2)) (.z free) lv (.z (l.length:Int)) (.z 0)) A1=_:=hlp
  simp [Aa,m,ft,fr,bx,ct,lt,hcl,hll2,vu hlp,aM,yD,dI,EW,-aR,-ab,-aj,-frz,-cellsOf]
 | none=>
  rw [hc] at hlp
  obtain ⟨σ,B,hlp,h5,h6⟩:=hlp
  simp only [st0] at hlp
  have hlp:bG (evC (aq GC oS) 300 dE) dK 300 (gO (.p 0) (.sl 2 0 T.ch.length) (.z (-2)) (.z free) lv (.z (l.length:Int)) (.z 0)) A1=_:=hlp
  simp [Aa,m,ft,fr,bx,ct,lt,hcl,hll2,vu hlp,h5,h6,aM,yD,dI,EW,-aR,-ab,-aj,-frz,-cellsOf]
end Tr
namespace Tr
open Go
open Cy (GC aM aV az bq cQ lvM lvT)
open Clu (aW aT ai chA aQ aY bK bu bQ dZ cr bP sL fP)
structure Tl (A:ac) (T:aW) (chv chF:AV):Prop where
 h:dj A 2 chv (T.ch.map chA)
 fz:∀X,frz (A++X) 4 (ai T chv)=ai T chF
 sF:SlA 2 (T.ch.map chA) chF
theorem da (A X:ac):∀id,id<A.length->(A++X)[id]?=A[id]?:=fun id h=>by rw [Sy h]
theorem _root_.Go.Proofs.YtkcjhljbgjpklaaGreat.dj.app {e:Nat} {xs:List AV} (h:dj A e a xs) (X:ac):dj (A++X) e a xs:=by
 rcases h with h | ⟨id,off,gr,es,rfl,h1,h2⟩
 ·exact .inl h
 ·exact .inr ⟨id,off,gr,es,rfl,by rw [da A X id (Sp.1 h1).1,h1],h2⟩
theorem dB {id off:Nat} {xs:List AV} {e:Nat} (h:A[id]?=some (.row e g es)) (h2:(es.drop off).take xs.length=xs) (hx:∀n,∀x∈xs,frz A (n+1) x=x) (n:Nat):frz A (n+2) (.sl id off xs.length)=.fs e xs:=by
 simp only [frz,h,h2]
 congr 1
 conv=>rhs; rw [<-List.map_id xs]
 exact S3 fun x hm=>hx n x hm
theorem Tl.of {A:ac} {T:aW} (h:dj A 2 chv (T.ch.map chA)):∃chF,Tl A T chv chF:=by
 rcases h with h | ⟨id,off,gr,es,rfl,h1,h2⟩
 ·exact ⟨chv,.inl h,fun X=>aQ (fun A n=>h.frz (A:=A) n) _ 3,h⟩
 ·refine ⟨.fs 2 (T.ch.map chA),.inr ⟨id,off,gr,es,rfl,h1,h2⟩,fun X=>?_,.inr rfl⟩
  have h1':(A++X)[id]?=some (.row 2 gr es):=by rw [da A X id (Sp.1 h1).1,h1]
  have e:frz (A++X) 3 (.sl id off (T.ch.map chA).length)=.fs 2 (T.ch.map chA):=dB h1' h2 (fun n x hx=>by
   obtain ⟨c,_,rfl⟩:=SU.1 hx
   cases n <;> rfl) 1
  show AV.agg [frz (A++X) 3 (.sl id off (T.ch.map chA).length),_,_,_,_]=_
  rw [e]; rfl
theorem Tl.ix {T:aW} {chF:AV} (h:Tl A T chv chF) (hk:k<T.ch.length):∃p q,∀X,ae 2 (A++X) chv (.z (k:Int))=some p/\aa 0 (A++X) p=some p/\ab false 1 (A++X) p=some (.z (tmT T k))/\aa 1 (A++X) p=some q/\ab false 1 (A++X) q=some (.z (syT T k)):=by
 rcases h.h with h | ⟨id,off,gr,es,rfl,h1,h2⟩
 ·exact ⟨.fp [.z (tmT T k),.z (syT T k)],.fp [.z (syT T k)],fun X=>⟨xf h hk _ _,rfl,rfl,rfl,rfl⟩⟩
 ·have e:es[off+k]?=some (chA (T.ch.getD k (0,0))):=by
   have:((es.drop off).take (T.ch.map chA).length)[k]?=(T.ch.map chA)[k]?:=by rw [h2]
   rw [UC,SA (by simpa using hk),TW] at this
   rw [this]
   simp [Sq hk]
  refine ⟨.ptr id (off+k) 0,.ptr id (off+k) 1,fun X=>?_⟩
  have h1':(A++X)[id]?=some (.row 2 gr es):=by rw [da A X id (Sp.1 h1).1,h1]
  refine ⟨?_,?_,?_,?_,?_⟩
  ·simp only [ae,h1',SF]
   rw [SA ⟨trivial,by omega,by omega,by omega⟩]
   simp
  ·simp [aa,h1']
  ·simp only [ab,h1',e]; rfl
  ·simp [aa,h1']
  ·simp only [ab,h1',e]; rfl
def lk (k:Int):List (Int × Int)->Option Int
 | []=>none
 | x :: r=>if k=x.1 then some x.2 else lk k r
def kvU (t v:Int):List (Int × Int)->List (Int × Int)
 | []=>[(t,v)]
 | x :: r=>if t=x.1 then (t,v) :: r else x :: kvU t v r
theorem FC (t v k:Int):∀l:List (Int × Int),lk k (kvU t v l)=if k=t then some v else lk k l
 | []=>by simp [kvU,lk]
 | x :: r=>by
  unfold kvU
  by_cases h:t=x.1
  ·rw [SA h]
   simp only [lk]
   by_cases h2:k=t
   ·rw [SA h2,SA h2]
   ·rw [SD h2,SD h2,SD (by omega)]
  ·rw [SD h]
   simp only [lk,FC t v k r]
   by_cases h2:k=x.1
   ·rw [SA h2,SA h2,SD (by omega)]
   ·rw [SD h2,SD h2]
def kvA (x:Int × Int):AV × AV:=(.z x.1,.z x.2)
theorem t9 (k:Int):∀(l:List (Int × Int)) (n:Nat),(lk k l=none/\iU (.z k) (l.map kvA) n=some none/\∀v,l++[(k,v)]=kvU k v l) \/
  ∃j v,lk k l=some v/\iU (.z k) (l.map kvA) n=some (some (n+j,.z v))/\∀w,l.set j (k,w)=kvU k w l
 | [],n=>.inl ⟨rfl,rfl,fun _=>rfl⟩
 | x :: r,n=>by
  by_cases h:k=x.1
  ·refine .inr ⟨0,x.2,by simp [lk,h],?_,fun w=>by simp [kvU,h]⟩
   simp [iU,kvA,oQ,h]
  ·have hne:(k == x.1)=false:=by simpa using h
   rcases t9 k r (n+1) with ⟨h1,h2,h3⟩ | ⟨j,v,h1,h2,h3⟩
   ·refine .inl ⟨by simp [lk,h,h1],?_,fun v=>by simp [kvU,h,h3 v]⟩
    simp only [Tw,iU,kvA,oQ,TS,hne]
    exact h2
   ·refine .inr ⟨j+1,v,by simp [lk,h,h1],?_,fun w=>by simp [kvU,h,h3 w]⟩
    simp only [Tw,iU,kvA,oQ,TS,hne]
    rw [show n+(j+1)=n+1+j by omega]
    exact h2
theorem If {id:Nat} {l:List (Int × Int)} (h:A[id]?=some (.map (l.map kvA))) (k:Int):cX true (.z 0) A (.map id) (.z k)=some (match lk k l with | some v=>.tup [.z v,.t] | none=>.tup [.z 0,.f]):=by
 simp only [cX,h]
 rcases t9 k l 0 with ⟨h1,h2,_⟩ | ⟨j,v,h1,h2,_⟩
 ·rw [h1,h2]; rfl
 ·rw [h1,h2]; rfl
theorem map_set {id:Nat} {l:List (Int × Int)} (h:A[id]?=some (.map (l.map kvA))) (k v:Int):bV A (.map id) (.z k) (.z v)=some (A.set id (.map ((kvU k v l).map kvA))):=by
 simp only [bV,h]
 rcases t9 k l 0 with ⟨h1,h2,h3⟩ | ⟨j,w,h1,h2,h3⟩
 ·rw [h2,<-h3 v]
  simp [kvA]
 ·rw [h2,<-h3 v,Up]
  simp [kvA]
def XA (n0:Nat) (tv:AV) (L:List bq) (kvs:List (Int × Int)):ac:=
 if L=[] then [.row 5 false [tv],.q [.nilS],.map (kvs.map kvA)]
 else [.row 5 false [tv],.q [.sl (n0+3) 0 L.length],.map (kvs.map kvA),.row 4 (decide (1<L.length)) (L.map cQ)]
def H60:aJ:=fun _=>bZ (aq GC []) 0 No
theorem JX:au prog GC 75 H60:=(cj (ax aB) rfl (by kernel_rfl) LQ bO.nil).y
section
variable {A:ac} {T:aW} {chv chF tv:AV} {L:List bq} {kvs:List (Int × Int)}
theorem bD (A X:ac) (i:Nat):(A++X)[A.length+i]?=X[i]?:=by
 rw [SJ (by omega),Tm]
theorem xa0:(A++XA A.length tv L kvs)[A.length]?=some (.row 5 false [tv]):=by
 have:=bD A (XA A.length tv L kvs) 0
 rw [Ts] at this
 rw [this]; unfold XA; split <;> rfl
theorem xa2:(A++XA A.length tv L kvs)[A.length+2]?=some (.map (kvs.map kvA)):=by
 rw [bD]; unfold XA; split <;> rfl
theorem GI (h:bj) {xs:List bq} (hx:xs≠[]) (h1:L=[]->xs.length=1) (hb:L.length+xs.length<=1000) :
  H60 h [.fs 4 (xs.map cQ),.p (A.length+1)] (A++XA A.length tv L kvs)=some (.tup [],A++XA A.length tv (L++xs) kvs):=by
 have hxl:0<xs.length:=TI.2 hx
 have hne:L++xs≠[]:=by simp [hx]
 by_cases hL:L=[]
 ·subst hL
  have hx1:=h1 rfl
  have e0:A++XA A.length tv [] kvs=A++[.row 5 false [tv],.q [.nilS],.map (kvs.map kvA)]:=by unfold XA; rw [SA rfl]
  have e9:A++XA A.length tv ([]++xs) kvs=A++[.row 5 false [tv],.q [.sl (A.length+3) 0 xs.length],.map (kvs.map kvA),.row 4 false (xs.map cQ)]:=by
   unfold XA; rw [SD (by simpa using hx),T3,hx1]; rfl
  rw [e0,e9]
  obtain ⟨A0,hA0⟩:∃X,X=A++[Ent.row 5 false [tv],.q [.nilS],.map (kvs.map kvA)]:=⟨_,rfl⟩
  have hl:A0.length=A.length+3:=by rw [hA0]; simp
  have l1:ab false 1 A0 (.p (A.length+1))=some .nilS:=by
   have:A0[A.length+1]?=some (.q [.nilS]):=by rw [hA0,bD]; rfl
   simp only [ab,this]; rfl
  have a1:aL 4 32 A0 .nilS (.fs 4 (xs.map cQ))=some (.sl (A.length+3) 0 xs.length,A0++[.row 4 false (xs.map cQ)]):=by
   simp only [aL,c9,SF]
   rw [SD (by omega),SA ⟨by omega,by omega,by omega⟩,hl]
  have s1:aA 1 (A0++[.row 4 false (xs.map cQ)]) (.p (A.length+1)) (.sl (A.length+3) 0 xs.length)=some (A++[.row 5 false [tv],.q [.sl (A.length+3) 0 xs.length],.map (kvs.map kvA),.row 4 false (xs.map cQ)]):=by
   have e:A0++[Ent.row 4 false (xs.map cQ)]=A++[.row 5 false [tv],.q [.nilS],.map (kvs.map kvA),.row 4 false (xs.map cQ)]:=by rw [hA0,SO]; rfl
   rw [e]
   have:(A++[Ent.row 5 false [tv],.q [.nilS],.map (kvs.map kvA),.row 4 false (xs.map cQ)])[A.length+1]?=some (.q [.nilS]):=by rw [bD]; rfl
   simp only [aA,this]
   simp [AV.solid,cellsOf,bL]
  rw [<-hA0]
  unfold H60
  rw [bo _ _ rfl]
  simp [No,l1,a1,s1,-ab,-aA]
 ·have hlz:L.length≠0:=fun e=>hL (S8.1 e)
  have e0:A++XA A.length tv L kvs=A++[.row 5 false [tv],.q [.sl (A.length+3) 0 L.length],.map (kvs.map kvA),.row 4 (decide (1<L.length)) (L.map cQ)]:=by unfold XA; rw [SD hL]
  have e9:A++XA A.length tv (L++xs) kvs=A++[.row 5 false [tv],.q [.sl (A.length+3) 0 (L.length+xs.length)],.map (kvs.map kvA),.row 4 true (L.map cQ++xs.map cQ)]:=by
   unfold XA; rw [SD hne,SW,Su (by omega),TD]
  rw [e0,e9]
  obtain ⟨A0,hA0⟩:∃X,X=A++[Ent.row 5 false [tv],.q [.sl (A.length+3) 0 L.length],.map (kvs.map kvA),.row 4 (decide (1<L.length)) (L.map cQ)]:=⟨_,rfl⟩
  have l1:ab false 1 A0 (.p (A.length+1))=some (.sl (A.length+3) 0 L.length):=by
   have:A0[A.length+1]?=some (.q [.sl (A.length+3) 0 L.length]):=by rw [hA0,bD]; rfl
   simp only [ab,this]; rfl
  have r3:A0[A.length+3]?=some (.row 4 (decide (1<L.length)) (L.map cQ)):=by rw [hA0,bD]; rfl
  have a1:aL 4 32 A0 (.sl (A.length+3) 0 L.length) (.fs 4 (xs.map cQ))=some (.sl (A.length+3) 0 (L.length+xs.length),A0.set (A.length+3) (.row 4 true (L.map cQ++xs.map cQ))):=by
   simp only [aL,c9,SF,r3]
   rw [SA ⟨trivial,by omega,by omega,by omega⟩,SA ⟨trivial,trivial,hlz⟩]
  have eS:A0.set (A.length+3) (.row 4 true (L.map cQ++xs.map cQ))=A++[.row 5 false [tv],.q [.sl (A.length+3) 0 L.length],.map (kvs.map kvA),.row 4 true (L.map cQ++xs.map cQ)]:=by
   rw [hA0,SQ _ _ (by omega),Tm]; rfl
  have s1:aA 1 (A0.set (A.length+3) (.row 4 true (L.map cQ++xs.map cQ))) (.p (A.length+1)) (.sl (A.length+3) 0 (L.length+xs.length))=some (A++[.row 5 false [tv],.q [.sl (A.length+3) 0 (L.length+xs.length)],.map (kvs.map kvA),.row 4 true (L.map cQ++xs.map cQ)]):=by
   rw [eS]
   have:(A++[Ent.row 5 false [tv],.q [.sl (A.length+3) 0 L.length],.map (kvs.map kvA),.row 4 true (L.map cQ++xs.map cQ)])[A.length+1]?=some (.q [.sl (A.length+3) 0 L.length]):=by rw [bD]; rfl
   simp only [aA,this]
   simp [AV.solid,cellsOf,bL]
  rw [<-hA0]
  unfold H60
  rw [bo _ _ rfl]
  simp [No,l1,a1,s1,-ab,-aA]
theorem JF (k v:Int):bV (A++XA A.length tv L kvs) (.map (A.length+2)) (.z k) (.z v)=some (A++XA A.length tv L (kvU k v kvs)):=by
 rw [map_set xa2]
 congr 1
 rw [SQ _ _ (by omega),Tm]
 unfold XA
 split <;> rfl
theorem wy (hc:(chv=.nilS\/(∃e l,chv=.fs e l))\/∃a b c,chv=.sl a b c):ab true 5 (A++XA A.length (ai T chv) L kvs) (.p A.length)=some (ai T chv) /\
  aa 0 (A++XA A.length (ai T chv) L kvs) (.p A.length)=some (.p A.length)/\ab false 1 (A++XA A.length (ai T chv) L kvs) (.p A.length)=some chv /\
  aa 3 (A++XA A.length (ai T chv) L kvs) (.p A.length)=some (.ptr A.length 0 3)/\ab false 1 (A++XA A.length (ai T chv) L kvs) (.ptr A.length 0 3)=some (.z T.travel):=by
 have h:=xa0 (A:=A) (tv:=ai T chv) (L:=L) (kvs:=kvs)
 refine ⟨?_,?_,?_,?_,?_⟩
 ·simp only [ab,h]; rfl
 ·simp only [aa,h]; rfl
 ·simp only [ab,h]
  rcases hc with (rfl | ⟨e,l,rfl⟩) | ⟨a,b,c,rfl⟩ <;> rfl
 ·simp only [aa,h]; rfl
 ·simp only [ab,h]; rfl
end
theorem _root_.Go.Proofs.YtkcjhljbgjpklaaGreat.dj.form {e:Nat} {xs:List AV} (h:dj A e a xs):(a=.nilS\/(∃e l,a=.fs e l))\/∃x y z,a=.sl x y z:=by
 rcases h with (⟨rfl,_⟩ | rfl) | ⟨id,off,gr,es,rfl,_⟩
 ·exact .inl (.inl rfl)
 ·exact .inl (.inr ⟨_,_,rfl⟩)
 ·exact .inr ⟨_,_,_,rfl⟩
end Tr
namespace Tr
open Go
open Cy (GC aM aV az bq cQ lvM lvT)
open Clu (aW aT ai chA aQ aY bK bu cH bQ dZ cr bP sL fP)
def NF:MC:=.r [.a 12,.r 0 1,.c 13 1] (.r [.a 1,.a 13,.e 1 0 1,.b 1 2,.f 14 0,.c 15 3] (.seq (.r [.a 9,.a 13,.qn (.lookup 1 true (.z 0) (.tmp 0) (.tmp 1)),.i 2,.j 3 0,.j 3 1,.c 16 4,.c 17 5] (.r [.am 28 17] (.cond (.var 28) (.region [.a 16,.a 10,.d 0 4,.b 1 2,.a 13,.e 2 3 4,.o 0 5,.b 1 6,.m 1 7,.c 14 0,.c 15 8]) .skip))) (.r [.a 8,.a 14,.a 11,.h 2 1,.a 15,.T 1 3 4,.a 11,.h 6 1,.a 14,.a 15,.d 0 4,.b 1 10,.a 13,.e 2 11 12,.o 1 13,.b 1 14,.m 9 15,.bj 16,.T 7 8 17,.c0 5 18,.a9 0 19] (.region [.a 9,.a 12,.a 11,.h 2 1,.b5 0 1 3]))))
theorem sI:eM=.r [.F 26 25 24] (.seq (.cond (.var 26) .skip (.exit 0)) (.seq (.seq (.block 1 (.r [.a 25,.M 1 23 25,.b 1 1,.c 11 0,.c 12 2] (.seq (.r [.a 11,.ab 27 0 0] (.cond (.var 27) (.region [.a 8,.a 2,.d 3 4,.b 1 2,.m 1 3,.ba 4,.cd 5,.a9 0 6]) (.region [.a 8,.a 11,.a 11,.h 2 1,.a 10,.k 5 4,.a 3,.a 11,.r 7 1,.e 1 6 8,.b 1 9,.a 12,.L 37 5 10 11,.m 4 12,.T 1 3 13,.cd 14,.a9 0 15]))) NF))) (.kill [0,5,6,11,12,13,14,15,16,17,18,19,20,21,22,26,27,28,29,30,31,32,33])) (.region [.w 25 1,.c 25 0]))):=rfl
def xn:List (FuncId × aJ):=[(75,H60),(37,aE 4 M41),(38,aE 4 M42),(21,Cy.H14)]
@[simp] theorem O8:aD xn 75=some H60:=rfl
@[simp] theorem Pb:aD xn 37=some (aE 4 M41):=rfl
@[simp] theorem Pa:aD xn 38=some (aE 4 M42):=rfl
@[simp] theorem O9:aD xn 21=some Cy.H14:=rfl
theorem Hp:∀f M,aD xn f=some M->au prog GC f M:=ag JX (ag (au.of_pure p7 4) (ag (au.of_pure sf 4) (ag Cy.n9 aB)))
theorem pu34:bO (aq GC xn) [37]:=by
 first | exact bO.nil | (repeat (first | exact bO.nil | refine bO.cons (M:=_) rfl ?_))
def H34:aJ:=fun _=>bZ (aq GC xn) 300 tU
theorem jn:au prog GC 35 H34:=(cj (ax Hp) rfl Gv oI pu34).y
abbrev s34 (n0:Nat) (rdv:AV) (free:Int) (ov:AV) (W:Int) (m i:Nat):List AV:=
 i9 rdv (.z free) ov (.p n0) (.p (n0+1)) (.func (.func 75) [] [.p (n0+1)]) (.map (n0+2)) (.z W) ov (.z (m:Int)) (.z (i:Int))
def a1F (T:aW) (rd:List Int) (a:Nat->Option Nat) (i k:Nat):bq:=⟨((gP T rd a k).1:Int),(i:Int)+1,(gP T rd a k).2,0⟩
def a2F (T:aW) (rd:List Int) (a:Nat->Option Nat) (i k:Nat):bq:=⟨(i:Int)+1,((gP T rd a k).1:Int),-((gP T rd a k).2+syT T k),0⟩
section
variable {A:ac} {T:aW} {chv chF rdv:AV} {rd:List Int} {free:Int} {L:List bq} {kvs:List (Int × Int)} {a:Nat->Option Nat}
theorem NS (hT:Tl A T chv chF) (hv:aT T) (hr:dj A 1 rdv (ak rd)) (hrd:∀k,-1<=rd.getD k 0/\rd.getD k 0<=500000) (hrl:rd.length=T.ch.length) {i:Nat} (hk:k<T.ch.length) (hi:i<=100) (hkv:∀k:Nat,lk k kvs=(a k).map fun p=>(p:Int)) (hL:L.length<=500) (hLne:L≠[])
  (v0 v2 v3 v5 v6 _v8 v13 v14 v15 v16 v17 v18 v19 v20 v21 v22 v23 v24 v25 v26 v27 v28 v29 v30 v31 v32 v33:AV) :
  ∃e13 e14 e15 e16 e17 e28,∀K,run (aq GC xn) 300 (.code NF :: K) [v0,rdv,v2,v3,.p A.length,v5,v6,.p (A.length+1),.func (.func 75) [] [.p (A.length+1)],.map (A.length+2),.z (wT T),.z (i:Int),.z ((k:Int)+1),v13,v14,v15,v16,v17,v18,v19,v20,v21,v22,v23,v24,v25,v26,v27,v28,v29,v30,v31,v32,v33] (A++XA A.length (ai T chv) L kvs) =
   run (aq GC xn) 300 K [v0,rdv,v2,v3,.p A.length,v5,v6,.p (A.length+1),.func (.func 75) [] [.p (A.length+1)],.map (A.length+2),.z (wT T),.z (i:Int),.z ((k:Int)+1),e13,e14,e15,e16,e17,v18,v19,v20,v21,v22,v23,v24,v25,v26,v27,e28,v29,v30,v31,v32,v33] (A++XA A.length (ai T chv) (L++[a1F T rd a i k,a2F T rd a i k]) (kvU ((k:Int)+1) ((i:Int)+1) kvs)):=by
 have hw:=de hv
 have hc:=dp hv k
 obtain ⟨pr,hpr⟩:=hr.int (B:=A++XA A.length (ai T chv) L kvs) (da A _) (i:=k) (by omega) .i64
 have hrk:rd[k]'(by omega)=rd.getD k 0:=by rw [Sr,Sq (by omega)]; rfl
 rw [hrk] at hpr
 obtain ⟨r1,r2⟩:=hpr
 obtain ⟨p,q,hpq⟩:=hT.ix hk
 have hrk:=hrd k
 have t0:=fun L kvs=>wy (A:=A) (T:=T) (L:=L) (kvs:=kvs) hT.h.form
 have g1:=If (xa2 (A:=A) (tv:=ai T chv) (L:=L) (kvs:=kvs)) (k:Int)
 rw [hkv k] at g1
 have u1:=fun L=>JF (A:=A) (tv:=ai T chv) (L:=L) (kvs:=kvs) ((k:Int)+1) ((i:Int)+1)
 have b1:af .sub (.z ((k:Int)+1)) (.z 1)=some (.z (k:Int)):=by
  have:=bK (a:=(k:Int)+1) (b:=1) (by have:=hv.2.2.2.1; omega)
  rw [this,show (k:Int)+1-1=k by omega]
 have b2:af .add (.z (i:Int)) (.z 1)=some (.z ((i:Int)+1)):=aY (by omega)
 have b3:af .add (.z (wT T)) (.z (tmT T k))=some (.z (wT T+tmT T k)):=aY (by omega)
 have hcall:=GI (A:=A) (tv:=ai T chv) (L:=L) (kvs:=kvs) (fun _ _ _=>none) (xs:=[a1F T rd a i k,a2F T rd a i k]) (by simp) (fun h=>absurd h hLne) (by simp; omega)
 have hc1:=hpq (XA A.length (ai T chv) L kvs)
 obtain ⟨i1,f0,l0,f1,l1⟩:=hc1
 obtain ⟨_,g3,g4,_,_⟩:=t0 L kvs
 cases hak:a k with
 | none=>
  rw [hak] at g1
  have es:gP T rd a k=(0,rd.getD k 0):=by unfold gP; rw [hak]
  have b4:af .add (.z (rd.getD k 0)) (.z (syT T k))=some (.z (rd.getD k 0+syT T k)):=aY (by omega)
  have b5:qM .neg (.z (rd.getD k 0+syT T k))=some (.z (-(rd.getD k 0+syT T k))):=dZ (by omega)
  refine ⟨.z (k:Int),.z 0,.z (rd.getD k 0),.z 0,.f,.f,fun K=>?_⟩
  have hcall:H60 (fun _ _ _=>none) [.fs 4 [.agg [.z 0,.z ((i:Int)+1),.z (rd.getD k 0),.z 0],.agg [.z ((i:Int)+1),.z 0,.z (-(rd.getD k 0+syT T k)),.z 0]],.p (A.length+1)] (A++XA A.length (ai T chv) L kvs)=some (.tup [],A++XA A.length (ai T chv) (L++[a1F T rd a i k,a2F T rd a i k]) kvs):=by
   have e1:a1F T rd a i k=⟨0,(i:Int)+1,rd.getD k 0,0⟩:=by unfold a1F; rw [es]; rfl
   have e2:a2F T rd a i k=⟨(i:Int)+1,0,-(rd.getD k 0+syT T k),0⟩:=by unfold a2F; rw [es]; rfl
   rw [e1,e2] at hcall ⊢
   exact hcall
  have u1:=u1 (L++[a1F T rd a i k,a2F T rd a i k])
  generalize L++[a1F T rd a i k,a2F T rd a i k]=L2 at *
  generalize kvU ((k:Int)+1) ((i:Int)+1) kvs=kv2 at *
  generalize A++XA A.length (ai T chv) L kvs=B0 at *
  generalize A++XA A.length (ai T chv) L2 kvs=B1 at *
  generalize A++XA A.length (ai T chv) L2 kv2=B2 at *
  generalize rd.getD k 0+syT T k=z1 at *
  generalize rd.getD k 0=z0 at *
  generalize -z1=z2 at *
  generalize (k:Int)+1=K1 at *
  generalize (i:Int)+1=I1 at *
  generalize hsl:bp 4 [.agg [.z 0,.z I1,.z z0,.z 0],.agg [.z I1,.z 0,.z z2,.z 0]]=sl at *
  have hsl':sl=some (.fs 4 [.agg [.z 0,.z I1,.z z0,.z 0],.agg [.z I1,.z 0,.z z2,.z 0]]):=by rw [<-hsl]; rfl
  rw [hsl'] at hsl
  simp [NF,r1,r2,g1,g3,g4,i1,f1,l1,b1,b2,b4,b5,hcall,hsl,u1,-af,-ab,-aa,-ae,-bp,-qM,-cX,-bV]
 | some pp=>
  rw [hak] at g1
  have g1:cX true (.z 0) (A++XA A.length (ai T chv) L kvs) (.map (A.length+2)) (.z (k:Int))=some (.tup [.z (pp:Int),.t]):=g1
  have es:gP T rd a k=(pp,wT T+tmT T k):=by unfold gP; rw [hak]
  have b4:af .add (.z (wT T+tmT T k)) (.z (syT T k))=some (.z (wT T+tmT T k+syT T k)):=aY (by omega)
  have b5:qM .neg (.z (wT T+tmT T k+syT T k))=some (.z (-(wT T+tmT T k+syT T k))):=dZ (by omega)
  refine ⟨.z (k:Int),.z (pp:Int),.z (wT T+tmT T k),.z (pp:Int),.t,.t,fun K=>?_⟩
  have hcall:H60 (fun _ _ _=>none) [.fs 4 [.agg [.z (pp:Int),.z ((i:Int)+1),.z (wT T+tmT T k),.z 0],.agg [.z ((i:Int)+1),.z (pp:Int),.z (-(wT T+tmT T k+syT T k)),.z 0]],.p (A.length+1)] (A++XA A.length (ai T chv) L kvs)=some (.tup [],A++XA A.length (ai T chv) (L++[a1F T rd a i k,a2F T rd a i k]) kvs):=by
   have e1:a1F T rd a i k=⟨(pp:Int),(i:Int)+1,wT T+tmT T k,0⟩:=by unfold a1F; rw [es]
   have e2:a2F T rd a i k=⟨(i:Int)+1,(pp:Int),-(wT T+tmT T k+syT T k),0⟩:=by unfold a2F; rw [es]
   rw [e1,e2] at hcall ⊢
   exact hcall
  have u1:=u1 (L++[a1F T rd a i k,a2F T rd a i k])
  generalize L++[a1F T rd a i k,a2F T rd a i k]=L2 at *
  generalize kvU ((k:Int)+1) ((i:Int)+1) kvs=kv2 at *
  generalize A++XA A.length (ai T chv) L kvs=B0 at *
  generalize A++XA A.length (ai T chv) L2 kvs=B1 at *
  generalize A++XA A.length (ai T chv) L2 kv2=B2 at *
  generalize rd.getD k 0=zr at *
  generalize wT T+tmT T k+syT T k=z1 at *
  generalize wT T+tmT T k=z0 at *
  generalize wT T=zw at *
  generalize tmT T k=zt at *
  generalize -z1=z2 at *
  generalize (k:Int)+1=K1 at *
  generalize (i:Int)+1=I1 at *
  generalize (pp:Int)=P1 at *
  have hsl:bp 4 [.agg [.z P1,.z I1,.z z0,.z 0],.agg [.z I1,.z P1,.z z2,.z 0]]=some (.fs 4 [.agg [.z P1,.z I1,.z z0,.z 0],.agg [.z I1,.z P1,.z z2,.z 0]]):=rfl
  simp [NF,r1,r2,g1,g3,g4,i1,f0,f1,l0,l1,b1,b2,b3,b4,b5,hcall,hsl,u1,-af,-ab,-aa,-ae,-bp,-qM,-cX,-bV]
end
end Tr
namespace Tr
open Go
open Cy (GC aM aV az bq cQ lvM lvT)
open Clu (aW aT ai chA aQ aY bK bu cH bQ dZ cr bP sL fP)
section
variable {A:ac} {T:aW} {chv chF rdv ov:AV} {rd o:List Int} {free:Int} {L:List bq} {kvs:List (Int × Int)} {a:Nat->Option Nat}
theorem wU (hT:Tl A T chv chF) (hS:Sit T rd free) (hr:dj A 1 rdv (ak rd)) (ho:dj A 1 ov (ak o)) {i:Nat} (hi:i<o.length) (hol:o.length<=100) (hok:o[i]=(k:Int)+1) (hk:k<T.ch.length) {last:Int} (hlast:i≠0->o.getD (i-1) 0=last) (hlb : -1000<=last/\last<=1000)
  (hkv:∀k:Nat,lk k kvs=(a k).map fun p=>(p:Int)) (hL:L.length=3*i) :
  run (aq GC xn) 300 [.code eM] (s34 A.length rdv free ov (wT T) o.length i) (A++XA A.length (ai T chv) L kvs) =
   some (.normal (s34 A.length rdv free ov (wT T) o.length (i+1)) (A++XA A.length (ai T chv) (L++[hdT T free i last ((k:Int)+1)]++[a1F T rd a i k,a2F T rd a i k]) (kvU ((k:Int)+1) ((i:Int)+1) kvs))):=by
 unfold s34
 have hv:=hS.1.1
 have hw:=de hv
 have hfr:=hS.2.2.1
 obtain ⟨e13,e14,e15,e16,e17,e28,hs⟩:=NS (A:=A) (L:=L++[hdT T free i last ((k:Int)+1)]) (kvs:=kvs) (a:=a) hT hv hr (w4 hS) hS.2.1 (i:=i) hk (by omega) hkv (by simp; omega) (by simp)
  .u (.z free) ov .u .u (.func (.func 75) [] [.p (A.length+1)]) .u .u .u .u .u .u .u .u .u .u ov (.z (o.length:Int)) (.z (i:Int)) .t (.bool (decide (i=0))) .u .u .u .u .u .u
 obtain ⟨po,hpo1,hpo2⟩:=ho.int (B:=A++XA A.length (ai T chv) L kvs) (da A _) hi .i64
 rw [hok] at hpo2
 have b0:=be i o.length .i64
 rw [Su hi] at b0
 have b1:=aP i (by omega)
 have hbE:=bu (i:Int) 0
 have hbE:af .eql (.z (i:Int)) (.z 0)=some (.bool (decide (i=0))):=by
  rw [hbE]; congr 2; exact TO.2 (by omega)
 obtain ⟨g1,g3,g4,g5,g6⟩:=wy (A:=A) (T:=T) (L:=L) (kvs:=kvs) hT.h.form
 have hcall:=GI (A:=A) (tv:=ai T chv) (L:=L) (kvs:=kvs) (fun _ _ _=>none) (xs:=[hdT T free i last ((k:Int)+1)]) (by simp) (fun _=>rfl) (by simp; omega)
 by_cases h0:i=0
 ·rw [Su h0] at hbE hs
  have ehd:hdT T free i last ((k:Int)+1)=⟨0,1,free+T.travel,0⟩:=by unfold hdT; rw [SA h0]
  rw [ehd] at hcall hs ⊢
  have b2:af .add (.z free) (.z T.travel)=some (.z (free+T.travel)):=aY (by omega)
  generalize L++[(⟨0,1,free+T.travel,0⟩:bq)]=L1 at *
  generalize L1++[a1F T rd a i k,a2F T rd a i k]=L2 at *
  generalize kvU ((k:Int)+1) ((i:Int)+1) kvs=kv2 at *
  obtain ⟨i1,hi1⟩:∃i1:Nat,i1=i+1:=⟨_,rfl⟩
  rw [<-hi1] at b1 ⊢
  generalize A++XA A.length (ai T chv) L kvs=B0 at *
  generalize A++XA A.length (ai T chv) L1 kvs=B1 at *
  generalize A++XA A.length (ai T chv) L2 kv2=B2 at *
  have hcall:H60 (fun _ _ _=>none) [.fs 4 [.agg [.z 0,.z 1,.z (free+T.travel),.z 0]],.p (A.length+1)] B0=some (.tup [],B1):=hcall
  generalize free+T.travel=z1 at *
  generalize (k:Int)+1=K1 at *
  generalize (i:Int)=I0 at *
  generalize (i1:Int)=I1 at *
  have hsl:bp 4 [.agg [.z 0,.z 1,.z z1,.z 0]]=some (.fs 4 [.agg [.z 0,.z 1,.z z1,.z 0]]):=rfl
  rw [sI]
  simp [hpo1,hpo2,b0,b1,b2,hbE,g5,g6,hcall,hsl,hs,-af,-ab,-aa,-ae,-bp]
 ·rw [Ss h0] at hbE hs
  have ehd:hdT T free i last ((k:Int)+1)=⟨(i:Int),(i:Int)+1,wT T+btw T last ((k:Int)+1),0⟩:=by unfold hdT; rw [SD h0]
  rw [ehd] at hcall hs ⊢
  have m:=zc (T:=T) chF last ((k:Int)+1) hlb
  have hf:=hT.fz (XA A.length (ai T chv) L kvs)
  have hbt:=nh hv last ((k:Int)+1)
  obtain ⟨pl,hpl1,hpl2⟩:=ho.int (B:=A++XA A.length (ai T chv) L kvs) (da A _) (i:=i-1) (by omega) .i64
  have hlo:o[i-1]'(by omega)=last:=by
   rw [<-hlast h0,Sr,Sq (by omega)]; rfl
  rw [hlo] at hpl2
  have b3:af .sub (.z (i:Int)) (.z 1)=some (.z ((i-1:Nat):Int)):=by
   rw [bK (by omega),show ((i-1:Nat):Int)=(i:Int)-1 by omega]
  have b2:af .add (.z (wT T)) (.z (btw T last ((k:Int)+1)))=some (.z (wT T+btw T last ((k:Int)+1))):=aY (by omega)
  have b4:af .add (.z (i:Int)) (.z 1)=some (.z ((i:Int)+1)):=aY (by omega)
  generalize L++[(⟨(i:Int),(i:Int)+1,wT T+btw T last ((k:Int)+1),0⟩:bq)]=L1 at *
  generalize L1++[a1F T rd a i k,a2F T rd a i k]=L2 at *
  generalize kvU ((k:Int)+1) ((i:Int)+1) kvs=kv2 at *
  obtain ⟨i1,hi1⟩:∃i1:Nat,i1=i+1:=⟨_,rfl⟩
  have hi1':(i:Int)+1=(i1:Int):=by omega
  rw [<-hi1] at b1 ⊢
  generalize A++XA A.length (ai T chv) L kvs=B0 at *
  generalize A++XA A.length (ai T chv) L1 kvs=B1 at *
  generalize A++XA A.length (ai T chv) L2 kv2=B2 at *
  have hcall:H60 (fun _ _ _=>none) [.fs 4 [.agg [.z (i:Int),.z ((i:Int)+1),.z (wT T+btw T last ((k:Int)+1)),.z 0]],.p (A.length+1)] B0=some (.tup [],B1):=hcall
  rw [hi1'] at hcall b4
  generalize wT T+btw T last ((k:Int)+1)=z1 at *
  generalize btw T last ((k:Int)+1)=zb at *
  generalize wT T=zw at *
  generalize ai T chv=tv at *
  generalize ai T chF=tF at *
  generalize (k:Int)+1=K1 at *
  generalize ((i-1:Nat):Int)=J at *
  generalize (i:Int)=I0 at *
  generalize (i1:Int)=I1 at *
  have hsl:bp 4 [.agg [.z I0,.z I1,.z z1,.z 0]]=some (.fs 4 [.agg [.z I0,.z I1,.z z1,.z 0]]):=rfl
  rw [sI]
  simp [hpo1,hpo2,hpl1,hpl2,b0,b1,b2,b3,hbE,g1,m,hf,hcall,hsl,hs,aM,-af,-ab,-aa,-ae,-bp,-frz]
def FK:Nat->List (Int × Int)->List Int->List (Int × Int)
 | _,kvs,[]=>kvs
 | i,kvs,t :: r=>FK (i+1) (kvU t ((i:Int)+1) kvs) r
theorem KO (hT:Tl A T chv chF) (hS:Sit T rd free) (hr:dj A 1 rdv (ak rd)) (ho:dj A 1 ov (ak o)) (hol:o.length<=100) (hob:∀t∈o,1<=t/\t<=T.ch.length):∀(c i:Nat) (last:Int) (L:List bq) (kvs:List (Int × Int)) (a:Nat->Option Nat) (m:Nat),i+c=o.length->(i≠0->o.getD (i-1) 0=last)->(-1000<=last/\last<=1000) ->
  (∀k:Nat,lk k kvs=(a k).map fun p=>(p:Int))->L.length=3*i->c<m ->
  bG (evC (aq GC xn) 300 eM) eB m (s34 A.length rdv free ov (wT T) o.length i) (A++XA A.length (ai T chv) L kvs) =
   some (.exit 0 ((s34 A.length rdv free ov (wT T) o.length o.length).set 26 .f) (A++XA A.length (ai T chv) (L++gK T rd free i last a (o.drop i)) (FK i kvs (o.drop i)))):=by
 intro c
 induction c with
 | zero=>
  intro i last L kvs a m hi _ _ _ _ hm
  obtain ⟨m,rfl⟩:∃j,m=j+1:=⟨m-1,by omega⟩
  obtain rfl:i=o.length:=by omega
  rw [TN]
  simp only [gK,FK,S5]
  have b0:=be o.length o.length .i64
  rw [Ss (by omega)] at b0
  rw [aG,q8]
  simp [eM,b0,-af]
 | succ c ih=>
  intro i last L kvs a m hi h1 h2 h3 h4 hm
  obtain ⟨m,rfl⟩:∃j,m=j+1:=⟨m-1,by omega⟩
  have hil:i<o.length:=by omega
  have hb:=hob _ (SC hil)
  obtain ⟨k,hk⟩:∃k:Nat,o[i]=(k:Int)+1:=⟨(o[i]-1).toNat,by omega⟩
  have hr34:=wU (a:=a) hT hS hr ho hil hol hk (by omega) h1 h2 h3 h4
  rw [aG,q8,hr34]
  have:=ih (i+1) ((k:Int)+1) (L++[hdT T free i last ((k:Int)+1)]++[a1F T rd a i k,a2F T rd a i k]) (kvU ((k:Int)+1) ((i:Int)+1) kvs) (upd a (k+1) (i+1)) m (by omega) (fun _=>by
   rw [Nat.add_sub_cancel,Sr,Sq hil,hk]; rfl) (by have:=hS.1.1.2.2.2.1; omega) (fun j=>by
   rw [FC]
   unfold upd
   by_cases hj:j=k+1
   ·subst hj; rw [SA (by push_cast; rfl),SA rfl]; simp
   ·rw [SD (by omega),SD hj]; exact h3 j) (by simp; omega) (by omega)
  refine this.trans ?_
  have e1:((k:Int)+1-1).toNat=k:=by omega
  have e2:((k:Int)+1).toNat=k+1:=by omega
  rw [To hil,hk]
  simp only [gK,FK,e1,e2]
  congr 4
  simp [a1F,a2F]
end
end Tr
namespace Tr
open Go
open Cy (GC aM aV az bq cQ lvM lvT)
open Clu (aW aT ai chA aQ aY bK bu cH bQ dZ cr bP sL fP)
def OA (l:List dc):ac:=List.replicate l.length .dead++[.row 2 false (l.map aX)]
theorem Dr (D:ac) (l:List dc) (t:dc) (hl:l.length<=1000):db 2 16 (D++OA l) (.sl (D.length+l.length) 0 l.length) (.fs 2 [aX t])=some (.sl (D.length+(l.length+1)) 0 (l.length+1),D++OA (l++[t])):=by
 have h:(D++OA l)[D.length+l.length]?=some (.row 2 false (l.map aX)):=by
  rw [bD]
  unfold OA
  rw [SJ (by simp)]
  simp
 have e:(D++OA l).length=D.length+(l.length+1):=by simp [OA]
 have e2:(D++OA l).set (D.length+l.length) .dead++[Ent.row 2 false ((l.map aX).take l.length++[aX t])]=D++OA (l++[t]):=by
  rw [SQ _ _ (by omega),Tm]
  unfold OA
  rw [SQ _ _ (by simp)]
  simp only [List.length_replicate,Uq,Tq,SO,SW,T5,TD,Tw,U9]
  rw [List.replicate_succ',SO]
  congr 3
  have:l.length=(l.map aX).length:=by simp
  rw [this,SX]
 simp only [db,c9,h,T5,SL]
 rw [SA ⟨trivial,by omega,by omega,by omega⟩,e,e2]
theorem Bg (X:Nat->Int):∀(o:List Int) (i j:Nat),(h:j<o.length)->(mkX X i o)[j]?=some (o[j],X (i+j+1))
 | t :: r,i,0,_=>rfl
 | t :: r,i,j+1,h=>by
  have:=Bg X r (i+1) j (by simpa using h)
  simp only [mkX,T6,this,List.getElem_cons_succ]
  rw [show i+1+j+1=i+(j+1)+1 by omega]
section
variable {A:ac} {T:aW} {chv chF rdv ov:AV} {rd o:List Int} {free:Int}
theorem In {D:ac} {ov sv:AV} {o st:List Int} (ho:∀X,dj (D++X) 1 ov (ak o)) (hs:SlA 1 (ak st) sv) (hsl:st.length=o.length+1) (hol:o.length<=100):∀(c j m:Nat),j+c=o.length->c<m ->
  bG (evC (aq GC xn) 300 om) jW m (pW sv (.sl (D.length+j) 0 j) ov (.z (o.length:Int)) (.z (j:Int))) (D++OA ((mkX (fun k=>st.getD k 0) 0 o).take j)) =
   some (.exit 2 ((pW sv (.sl (D.length+o.length) 0 o.length) ov (.z (o.length:Int)) (.z (o.length:Int))).set 32 .f) (D++OA (mkX (fun k=>st.getD k 0) 0 o))):=by
 intro c
 induction c with
 | zero=>
  intro j m hj hm
  obtain ⟨m,rfl⟩:∃j,m=j+1:=⟨m-1,by omega⟩
  obtain rfl:j=o.length:=by omega
  have b0:=be o.length o.length .i64
  rw [Ss (by omega)] at b0
  have e:(mkX (fun k=>st.getD k 0) 0 o).take o.length=mkX (fun k=>st.getD k 0) 0 o:=SR (by rw [gy]; exact SK _)
  rw [e,aG,CM]
  simp [om,b0,-af]
 | succ c ih=>
  intro j m hj hm
  obtain ⟨m,rfl⟩:∃j,m=j+1:=⟨m-1,by omega⟩
  have hjl:j<o.length:=by omega
  have b0:=be j o.length .i64
  rw [Su hjl] at b0
  have b1:=aP j (by omega)
  obtain ⟨po,h1,h2⟩:=(ho (OA ((mkX (fun k=>st.getD k 0) 0 o).take j))).int (B:=D++OA ((mkX (fun k=>st.getD k 0) 0 o).take j)) (fun _ _=>rfl) hjl .i64
  have h3:=hs.int (A:=D++OA ((mkX (fun k=>st.getD k 0) 0 o).take j)) _ _ (Sq (show j+1<st.length by omega)) .i64
  have ht:=Bg (fun k=>st.getD k 0) o 0 j hjl
  have hX:st.getD (0+j+1) 0=st[j+1]'(by omega):=by rw [Up,Sr,Sq (by omega)]; rfl
  rw [hX] at ht
  have htl:((mkX (fun k=>st.getD k 0) 0 o).take j).length=j:=by rw [TM,gy]; omega
  have ha:=Dr D ((mkX (fun k=>st.getD k 0) 0 o).take j) (o[j],st[j+1]'(by omega)) (by omega)
  rw [htl] at ha
  have e:(mkX (fun k=>st.getD k 0) 0 o).take j++[(o[j],st[j+1]'(by omega))]=(mkX (fun k=>st.getD k 0) 0 o).take (j+1):=by
   rw [List.take_add_one,ht]; rfl
  rw [e] at ha
  have hr:=ih (j+1) m (by omega) (by omega)
  rw [aG,CM]
  have ha:db 2 16 (D++OA ((mkX (fun k=>st.getD k 0) 0 o).take j)) (.sl (D.length+j) 0 j) (.fs 2 [.agg [.z o[j],.z (st[j+1]'(by omega))]])=_:=ha
  have hbf:bp 2 [.agg [.z o[j],.z (st[j+1]'(by omega))]]=some (.fs 2 [.agg [.z o[j],.z (st[j+1]'(by omega))]]):=rfl
  generalize D++OA ((mkX (fun k=>st.getD k 0) 0 o).take j)=B0 at *
  generalize D++OA ((mkX (fun k=>st.getD k 0) 0 o).take (j+1))=B1 at *
  generalize o[j]=oj at *
  generalize (st[j+1]'(by omega):Int)=sj at *
  obtain ⟨i1,hi1⟩:∃i1:Nat,i1=j+1:=⟨_,rfl⟩
  rw [<-hi1] at b1 h3 ha hr
  have hrun:run (aq GC xn) 300 [.code om] (pW sv (.sl (D.length+j) 0 j) ov (.z (o.length:Int)) (.z (j:Int))) B0 =
    some (.normal (pW sv (.sl (D.length+i1) 0 i1) ov (.z (o.length:Int)) (.z (i1:Int))) B1):=by
   generalize (i1:Int)=I1 at *
   generalize (j:Int)=J at *
   generalize (o.length:Int)=M at *
   simp [om,b0,b1,h1,h2,h3,ha,hbf,-af,-ab,-ae,-bp]
  rw [hrun]
  exact hr
end
end Tr
namespace Tr
open Go
open Cy (GC aM aV az bq cQ lvM lvT bS eW)
open Clu (aW aT ai chA aQ aY bK bu cH bQ dZ cr bP sL fP)
theorem yV {T:aW} {free:Int} (hS:Sit T rd free):∀(o:List Int) (i:Nat) (last:Int) (a:Nat->Option Nat),(∀k p,a k=some p->p<=i)->i+o.length<=1000->∀x∈gK T rd free i last a o,x.inR
 | [],i,last,a,ha,hn=>fun x hx=>by cases hx
 | t :: r,i,last,a,ha,hn=>fun x hx=>by
  have hw:=de hS.1.1
  have hb:=nh hS.1.1 last t
  have hc:=dp hS.1.1 (t-1).toNat
  have hfr:=hS.2.2.1
  have hrd:=w4 hS (t-1).toNat
  have hs:(gP T rd a (t-1).toNat).1<=i /\ -1<=(gP T rd a (t-1).toNat).2/\(gP T rd a (t-1).toNat).2<=500000:=by
   unfold gP
   split
   ·rename_i p hp
    exact ⟨ha _ _ hp,by simp only; omega,by simp only; omega⟩
   ·exact ⟨UD _,by simp only; omega,by simp only; omega⟩
  obtain ⟨s1,s2,s3⟩:=hs
  simp only [Tn] at hn
  simp only [gK,Tj] at hx
  unfold bq.inR inI
  rcases hx with rfl | rfl | rfl | hx
  ·unfold hdT
   split
   ·simp only; omega
   ·simp only; omega
  ·simp only; omega
  ·simp only; omega
  ·have:=yV hS r (i+1) t _ (fun k p hp=>by
    unfold upd at hp
    split at hp
    ·injection hp with hp; omega
    ·have:=ha k p hp; omega) (by omega) x hx
   unfold bq.inR inI at this
   exact this
def v34 (D:Nat) (r:Option (List dc)):AV:=match r with
 | some l=>.tup [.sl (D+l.length) 0 l.length,.t]
 | none=>.tup [.nilS,.f]
def XF (n0:Nat) (tv:AV) (T:aW) (rd:List Int) (free:Int) (o:List Int):ac:=XA n0 tv (cC T rd free o) (FK 0 [] o)
def G34 (n0:Nat) (tv:AV) (T:aW) (rd:List Int) (free:Int) (o:List Int):ac:=XF n0 tv T rd free o++(match dg T rd free o with | some l=>OA l | none=>[])
section
variable {A:ac} {T:aW} {chv chF rdv ov:AV} {rd o:List Int} {free:Int}
theorem Nc (h:bj) (hT:Tl A T chv chF) (hS:Sit T rd free) (hr:dj A 1 rdv (ak rd)) (ho:dj A 1 ov (ak o)) (hE:Emp (b0 rd) o) :
  H34 h [ai T chv,rdv,.z free,ov] A=some (v34 (A.length+(XF A.length (ai T chv) T rd free o).length) (dg T rd free o),A++G34 A.length (ai T chv) T rd free o):=by
 have hv:=hS.1.1
 have hol:=nE hS hE
 have hob:∀t∈o,1<=t/\t<=T.ch.length:=fun t ht=>by
  have:=ru hE t ht
  rw [eO,hS.2.1] at this; exact this
 have lp:=KO (free:=free) hT hS hr ho (by omega) hob o.length 0 (-2) [] [] (fun _=>none) 300 (by omega) (fun h=>absurd rfl h) (by omega) (fun k=>rfl) rfl (by omega)
 rw [SL,T3] at lp
 have hlo:=ho.len
 rw [az] at hlo
 obtain ⟨tv,htv⟩:∃tv,tv=ai T chv:=⟨_,rfl⟩
 have hB0:A++[Ent.row 5 false [tv],.q [.nilS],.map []]=A++XA A.length tv [] []:=by unfold XA; rw [SA rfl]; rfl
 have bx:aR 5 tv A=some (.p A.length,A++[.row 5 false [tv]]):=by rw [htv]; rfl
 have bx2:aR 1 .nilS (A++[Ent.row 5 false [tv]])=some (.p (A.length+1),A++[.row 5 false [tv],.q [.nilS]]):=by simp [aR,AV.solid,cellsOf]
 have ct:(cellsOf tv).length=5:=by rw [htv]; rfl
 obtain ⟨g1,_,_,_,_⟩:=wy (A:=A) (T:=T) (L:=[]) (kvs:=[]) hT.h.form
 have hf0:=hT.fz (XA A.length (ai T chv) [] [])
 have m42:=y9 (T:=T) chF hv
 rw [<-htv] at lp g1 hf0 ⊢
 generalize hBe:A++XA A.length tv [] []=B0 at *
 have lp:bG (evC (aq GC xn) 300 eM) eB 300 (i9 rdv (.z free) ov (.p A.length) (.p (A.length+1)) (.func (.func 75) [] [.p (A.length+1)]) (.map (A.length+2)) (.z (wT T)) ov (.z (o.length:Int)) (.z 0)) B0 =
   some (.exit 0 ((s34 A.length rdv free ov (wT T) o.length o.length).set 26 .f) (A++XF A.length tv T rd free o)):=lp
 have hin:=yV hS o 0 (-2) (fun _=>none) (fun k p h=>by cases h) (by omega)
 have hLl:=rk T rd free o 0 (-2) (fun _=>none)
 have hfrz:∃v,ab false 1 (A++XF A.length tv T rd free o) (.p (A.length+1))=some v/\frz (A++XF A.length tv T rd free o) 4 v=slA 4 ((cC T rd free o).map cQ):=by
  unfold XF XA
  by_cases hL:cC T rd free o=[]
  ·rw [SA hL]
   have:(A++[Ent.row 5 false [tv],.q [.nilS],.map ((FK 0 [] o).map kvA)])[A.length+1]?=some (.q [.nilS]):=by rw [bD]; rfl
   refine ⟨.nilS,by simp only [ab,this]; rfl,?_⟩
   rw [hL]; rfl
  ·rw [SD hL]
   have h1:(A++[Ent.row 5 false [tv],.q [.sl (A.length+3) 0 (cC T rd free o).length],.map ((FK 0 [] o).map kvA),.row 4 (decide (1<(cC T rd free o).length)) ((cC T rd free o).map cQ)])[A.length+1]?=some (.q [.sl (A.length+3) 0 (cC T rd free o).length]):=by rw [bD]; rfl
   have h3:(A++[Ent.row 5 false [tv],.q [.sl (A.length+3) 0 (cC T rd free o).length],.map ((FK 0 [] o).map kvA),.row 4 (decide (1<(cC T rd free o).length)) ((cC T rd free o).map cQ)])[A.length+3]?=some (.row 4 (decide (1<(cC T rd free o).length)) ((cC T rd free o).map cQ)):=by rw [bD]; rfl
   refine ⟨.sl (A.length+3) 0 (cC T rd free o).length,by simp only [ab,h1]; rfl,?_⟩
   have e:=dB (xs:=(cC T rd free o).map cQ) (off:=0) h3 (by rw [SL,SX]) (fun n x hx=>by
    obtain ⟨c,_,rfl⟩:=SU.1 hx
    cases n <;> rfl) 2
   rw [SF] at e
   rw [e]
   unfold slA
   cases hm:(cC T rd free o).map cQ with
   | nil=>exact absurd (UM.1 hm) hL
   | cons x r=>rfl
 obtain ⟨v,hv1,hv2⟩:=hfrz
 have harcs:Cy.bT (slA 4 ((cC T rd free o).map cQ))=some (cC T rd free o):=Cy.gu (by unfold cC; rw [hLl]; omega) hin
 have hlev:=fun hh=>Cy.GN hh (A:=A++XF A.length tv T rd free o) hv2 harcs ((o.length:Int)+1) 0
 have b1:af .add (.z (o.length:Int)) (.z 1)=some (.z ((o.length:Int)+1)):=aY (by omega)
 unfold G34 dg
 have hDo:∀X,dj (A++XF A.length tv T rd free o++X) 1 ov (ak o):=fun X=>(ho.app _).app X
 have hDl:(A++XF A.length tv T rd free o).length=A.length+(XF A.length tv T rd free o).length:=SW
 rw [<-hDl,<-SO]
 generalize hDe:A++XF A.length tv T rd free o=D at *
 by_cases hok:(lvM ((o.length:Int)+1) (cC T rd free o) 0).2.2=true
 rotate_left
 ·rw [SD (fun h=>hok h.1)]
  rw [Bool.not_eq_true] at hok
  have hlev:∀hh,Cy.H14 hh [.z ((o.length:Int)+1),v,.z 0] D=some (.tup [slA 1 (ak (lvM ((o.length:Int)+1) (cC T rd free o) 0).1),slA 1 (ak (lvM ((o.length:Int)+1) (cC T rd free o) 0).2.1),.f],D):=fun hh=>by rw [hlev hh]; unfold lvT; rw [hok]
  generalize slA 1 (ak (lvM ((o.length:Int)+1) (cC T rd free o) 0).1)=w1 at *
  generalize slA 1 (ak (lvM ((o.length:Int)+1) (cC T rd free o) 0).2.1)=w2 at *
  generalize (o.length:Int)+1=M1 at *
  unfold H34
  rw [bo _ _ rfl]
  simp [tU,bx,bx2,ct,hB0,g1,hf0,m42,hlo,vq lp,hv1,hlev,b1,fj,dI,v34,-aR,-ab,-aj,-frz,-cellsOf,-af]
 have hR:bS ((o.length:Int)+1) (cC T rd free o) 0:=by
  unfold lvM at hok
  split at hok
  ·assumption
  ·cases hok
 obtain ⟨_,hver,_,_⟩:=eW hR hok
 obtain ⟨st,hst⟩:∃st,st=(lvM ((o.length:Int)+1) (cC T rd free o) 0).1:=⟨_,rfl⟩
 have hsl:st.length=o.length+1:=by have:=hver.2.1; rw [hst]; omega
 have hlev:∀hh,Cy.H14 hh [.z ((o.length:Int)+1),v,.z 0] D=some (.tup [slA 1 (ak st),slA 1 (ak (lvM ((o.length:Int)+1) (cC T rd free o) 0).2.1),.t],D):=fun hh=>by rw [hlev hh]; unfold lvT; rw [hok,hst]
 rw [<-hst]
 have hx0:=(aZ 1 (ak st)).int (A:=D) _ _ (Sq (show 0<st.length by omega)) .i64
 have hx0:ae 1 D (slA 1 (ak st)) (.z 0)=some (.fp [.z st[0]]):=hx0
 have hg0:st.getD 0 0=st[0]:=by rw [Sr,Sq (by omega)]; rfl
 have b2:=cH (st[0]'(by omega)) 0
 have lpb:=In (sv:=slA 1 (ak st)) hDo (aZ 1 (ak st)) hsl (by omega) o.length 0 300 (by omega) (by omega)
 rw [List.take_zero] at lpb
 have mk:bY 2 16 (.agg [.z 0,.z 0]) D (.z 0) (.z (o.length:Int))=some (.sl D.length 0 0,D++OA []):=by
  simp only [bY]
  rw [SA ⟨by omega,by omega,by omega,by omega,rfl,rfl,by omega⟩]
  rfl
 have lpb:bG (evC (aq GC xn) 300 om) jW 300 (pW (slA 1 (ak st)) (.sl D.length 0 0) ov (.z (o.length:Int)) (.z 0)) (D++OA [])=_:=lpb
 rw [hg0]
 by_cases h0:st[0]=0
 rotate_left
 ·rw [SD (fun h=>h0 h.2)]
  rw [Su h0] at b2
  generalize slA 1 (ak st)=w1 at *
  generalize slA 1 (ak (lvM ((o.length:Int)+1) (cC T rd free o) 0).2.1)=w2 at *
  generalize (o.length:Int)+1=M1 at *
  generalize st[0]=s0 at *
  unfold H34
  rw [bo _ _ rfl]
  simp [tU,bx,bx2,ct,hB0,g1,hf0,m42,hlo,vq lp,hv1,hlev,b1,b2,hx0,fj,dI,v34,-aR,-ab,-aj,-frz,-cellsOf,-af,-ae]
 ·rw [SA ⟨hok,h0⟩]
  rw [Ss (fun h=>h h0)] at b2
  have el:(mkX (fun j=>st.getD j 0) 0 o).length=o.length:=gy _ _ _
  simp only [v34,el]
  generalize mkX (fun j=>st.getD j 0) 0 o=l at *
  generalize slA 1 (ak st)=w1 at *
  generalize slA 1 (ak (lvM ((o.length:Int)+1) (cC T rd free o) 0).2.1)=w2 at *
  generalize (o.length:Int)+1=M1 at *
  generalize st[0]=s0 at *
  unfold H34
  rw [bo _ _ rfl]
  simp [tU,bx,bx2,ct,hB0,g1,hf0,m42,hlo,vq lp,hv1,hlev,b1,b2,hx0,mk,Ld lpb,fj,dI,-aR,-ab,-aj,-frz,-cellsOf,-af,-ae,-bY]
end
end Tr
namespace Tr
open Go
open Cy (GC)
theorem GS (w:World):Calls prog 36 #[.slice none 0 0] w fun e w'=>e=.returned (.slice none 0 0)/\w'=w:=by
 have q22:∀(w:World) (a:Option Addr) (n c n' c':Nat),(binOp .eql 24 (.slice a n c) (.slice none n' c')).run prog w=.ok (.bool a.isNone) w:=fun w a n c n' c'=>Lib.run_eql_slice_nil w _ _ a n c n' c' Tryz.underlying24
 go_enter Tryz.func36,Tryz.ntmps36
 go_wp2
 go_ret
 exact ⟨rfl,rfl⟩
theorem GR (a:Addr) (w:World):Calls prog 36 #[.slice (some a) 0 0] w fun e w'=>∃p o,e=.returned (.slice p 0 0)/\w'=w.alloc o:=by
 have q22:∀(w:World) (a:Option Addr) (n c n' c':Nat),(binOp .eql 24 (.slice a n c) (.slice none n' c')).run prog w=.ok (.bool a.isNone) w:=fun w a n c n' c'=>Lib.run_eql_slice_nil w _ _ a n c n' c' Tryz.underlying24
 go_enter Tryz.func36,Tryz.ntmps36
 go_wp2
 go_ret
 exact ⟨_,_,rfl,rfl⟩
def H40:aJ:=fun _h args A=>match args with
 | [.nilS]=>some (.nilS,A)
 | _=>bZ (aq GC []) 0 Cy.ql args A
theorem p8:au prog GC 36 H40:=by
 refine ⟨Cy.jm.1,fun ys h hs args A r A' he w OK g vs hA hI hl=>?_⟩
 unfold H40 at he
 split at he
 ·injection he with he
  injection he with h1 h2
  subst h1 h2
  match vs,hl with
  | [v],hl=>
   obtain ⟨h1,_⟩:=hl
   obtain ⟨p,rfl⟩:=h1.inv_nilS
   cases p with
   | none=>
    refine (GS w).mono ?_
    rintro e w' ⟨rfl,rfl⟩
    exact ⟨_,OK,g,rfl,.nilS _ _,hA,Ext.refl _ _ _⟩
   | some a=>
    refine (GR a w).mono ?_
    rintro e w' ⟨p,o,rfl,rfl⟩
    have hsz:(w.alloc o).heap.size=w.heap.size+1:=by show (w.heap.push o).size=_; exact Array.size_push ..
    refine ⟨_,OK,g,rfl,.nilS _ _,?_,?_⟩
    ·refine hA.keep (w':=w.alloc o) ?_ (fun b hb=>?_) OK (fun _ h=>h) (fun _ h=>.inl h) (fun b hb=>?_)
     ·omega
     ·exact heap_alloc_old w _ hb
     ·have:=hA.ok b hb
      omega
    ·exact ⟨rfl,rfl,rfl,by omega,fun b hb _=>heap_alloc_old w _ hb,g.le_refl,fun _ h=>h,fun id inc h=>.inl ⟨id,inc,h,rfl⟩,fun _ h=>.inl h,
      fun b r hb _=>(heap_alloc_old w _ (Tg.1 hb).1).trans hb,fun _ _ _ _=>rfl⟩
 ·exact Cy.jm.2 ys h hs args A r A' he w OK g vs hA hI hl
theorem Jg (h:bj) (A:ac):H40 h [.nilS] A=some (.nilS,A):=rfl
theorem GK (h:bj) (ha:dj A 1 a (ak xs)) (hne:xs≠[]) (hl:xs.length<=1000):H40 h [a] A=some (.sl (A.length+1) 0 xs.length,A++[.dead,.q (ak xs)]):=by
 have:=Cy.NB (aq GC []) 0 ha hne hl
 unfold H40
 split
 ·rename_i hh
  injection hh with hh
  subst hh
  rcases ha with (⟨_,h⟩ | h) | ⟨id,off,gr,es,h,_⟩
  ·exact absurd (UM.1 h) hne
  ·cases h
  ·cases h
 ·exact this
end Tr
namespace Tr
open Go
open Cy (GC je df bC bH cW aM aV az)
open Clu (aW aT aY bK bu)
def aS (b:List Bool):List AV:=b.map .bool
theorem cZ (b:List Bool):(aS b).length=b.length:=by simp [aS]
def M80:aU:=fun args=>evP (aq GC []) 300 Nj 1 args
theorem JQ:aw prog GC 96 M80:=aw.of_ev (E:=aq GC []) (ax aB) rfl (by kernel_rfl) LI 1 fun _ _ h=>⟨300,h⟩
def isB (v x:Bool):Bool:=v == x
theorem xg {xs:List Bool} (hb:SlA 1 (aS xs) b) (hi:i<xs.length) (k:IntKind):ae 1 A b (.int k (i:Int))=some (.fp [.bool xs[i]]):=
 hb.index1 (x:=.bool xs[i]) (by simp [aS,hi]) rfl rfl k
theorem MJ {xs:List Bool} (hb:SlA 1 (aS xs) b) (hl:xs.length<=200) (v:Bool):M80 [b,.bool v]=some (.z (df (isB v) xs)):=by
 have hlen:=hb.len
 rw [cZ] at hlen
 have round:∀(A:ac) (i:Nat) (hi:i<xs.length),run (aq GC []) 300 [.code mA] (nP b (.bool v) (.z (xs.length:Int)) (.z (i:Int))) A =
   if isB v xs[i]=false then some (.normal (nP b (.bool v) (.z (xs.length:Int)) (.z ((i+1:Nat):Int))) A) else some (.ret [b,.bool v,.z (i:Int),.z (i:Int),.z (xs.length:Int),.z (i:Int),.t,.t] A):=fun A i hi=>by
  have x1:=xg hb (A:=A) hi .i64
  have b1:=be i xs.length .i64
  rw [Su hi] at b1
  have b3:=aP i (by omega)
  obtain ⟨i1,hi1⟩:∃i1:Nat,i1=i+1:=⟨_,rfl⟩
  rw [<-hi1] at b3 ⊢
  generalize xs[i]=x at *
  cases v <;> cases x <;> simp [mA,isB,x1,b1,b3,-af,-ae,-aj]
 unfold M80
 rw [aO _ _ rfl]
 rcases bU (E:=aq GC []) (fuel:=300) (a:=mA) (mask:=jO) (fun i=>nP b (.bool v) (.z (xs.length:Int)) (.z (i:Int))) (fun _=>[]) xs.length (fun i=>¬ ∀hi:i<xs.length,isB v xs[i]=false)
  (oF:=fun i=>.ret [b,.bool v,.z (i:Int),.z (i:Int),.z (xs.length:Int),.z (i:Int),.t,.t] []) (oE:=.exit 0 ((nP b (.bool v) (.z (xs.length:Int)) (.z (xs.length:Int))).set 6 .f) [])
  (fun _=>rfl) (fun _ _ _ h=>by cases h) (fun _ _ h=>by cases h)
  (fun i hi hp=>by
   rw [round [] i hi]
   exact SA (SI.1 hp hi))
  (fun i hi hp=>by
   rw [round [] i hi]
   exact SD fun h=>hp fun _=>h)
  (by simp [mA]) (show xs.length<300 by omega) with ⟨i,hi,hp,hj,lp⟩ | ⟨hp,lp⟩
 ·have lp:bG (evC (aq GC []) 300 mA) jO 300 (nP b (.bool v) (.z (xs.length:Int)) (.z 0)) []=_:=lp
  have e:df (isB v) xs=(i:Int):=bC hi (by
   cases h':isB v xs[i] with
   | true=>rfl
   | false=>exact absurd (fun _=>h') hp) (fun j hj'=>SI.1 (hj j hj') (by omega))
  rw [e]
  simp [Nj,hlen,FN lp,-af,-aj]
 ·have lp:bG (evC (aq GC []) 300 mA) jO 300 (nP b (.bool v) (.z (xs.length:Int)) (.z 0)) []=_:=lp
  have e:df (isB v) xs = -1:=bH fun i hi=>SI.1 (hp i hi) hi
  rw [e]
  simp [Nj,hlen,FN lp,-af,-aj]
def OD:List (FuncId × aJ):=[(96,aE 4 M80)]
@[simp] theorem OC:aD OD 96=some (aE 4 M80):=rfl
def M58:aU:=fun args=>evP (aq GC OD) 0 Oa 1 args
theorem JZ:aw prog GC 73 M58:=aw.of_ev (E:=aq GC OD) (ax (ag (au.of_pure JQ 4) aB)) rfl (by kernel_rfl) LS 1 fun _ _ h=>⟨0,h⟩
theorem GE {xs:List Bool} (hb:SlA 1 (aS xs) b) (hl:xs.length<=200):M58 [b,.t]=some (.bool (xs.any id)):=by
 have m1:=MJ hb hl true
 have b1:=je (df (isB true) xs)
 rw [cW] at b1
 have e:xs.any (isB true)=xs.any id:=by
  congr 1; funext x; cases x <;> rfl
 rw [e] at b1
 have f1:∀A n,frz A n b=b:=fun A n=>hb.frz n
 obtain ⟨z,hz⟩:∃z,z=df (isB true) xs:=⟨_,rfl⟩
 rw [<-hz] at m1 b1
 unfold M58
 rw [aO _ _ rfl]
 simp [Oa,f1,m1,b1,aV,br,-af,-frz]
theorem ev59 (E:Env) (fuel:Nat) (h:dj A 1 a es) (hne:es≠[]) (hl:es.length<=1000):bZ E fuel KA [a] A=some (.sl (A.length+1) 0 es.length,A++[.dead,.row 1 false es]):=by
 rw [bo _ _ rfl]
 have hb:es.length*1<=140737488355328:=by omega
 have hb':es.length<=140737488355328:=by omega
 rcases h with h | ⟨id,off,gr,rs,rfl,h1,h2⟩
 ·rcases h with ⟨_,h⟩ | rfl
  ·exact absurd h hne
  ·simp [KA,dI,aL,a8,hb']
 ·have hid:=(Sp.1 h1).1
  have h1':∀T,(A++T)[id]?=some (.row 1 gr rs):=fun T=>by rw [Sy hid,h1]
  simp [KA,dI,aL,a8,h1',h2,hb']
def H59:aJ:=fun _=>bZ (aq GC []) 0 KA
theorem JY:au prog GC 74 H59:=(cj (ax aB) rfl (by kernel_rfl) LR bO.nil).y
theorem M7 (h:bj) {xs:List Bool} (ha:dj A 1 a (aS xs)) (hne:xs≠[]) (hl:xs.length<=1000):H59 h [a] A=some (.sl (A.length+1) 0 xs.length,A++[.dead,.q (aS xs)]):=by
 have:=ev59 (aq GC []) 0 ha (fun e=>hne (UM.1 e)) (by rw [cZ]; exact hl)
 rw [cZ] at this
 exact this
def clR (done:List Int):ac:=if done=[] then [] else [.dead,.q (ak done)]
def clV (n:Nat) (done:List Int):AV:=if done=[] then .nilS else .sl (n+1) 0 done.length
def apR (done:List Int) (k:Nat):ac:=if done=[] then [.q (ak [(k:Int)+1])] else [.dead,.dead,.q (ak (done++[(k:Int)+1]))]
def apV (n:Nat) (done:List Int):AV:=if done=[] then .sl n 0 1 else .sl (n+2) 0 (done.length+1)
def g7 (b:List Bool) (done:List Int) (k:Nat):ac:=[.dead,.q (aS (mvB b k))]++apR done k
def F57 (Hd:ac->List Int->ac):Nat->List Bool->List Int->ac->ac
 | 0,b,done,X=>if b.any id then X else Hd (X++clR done) done
 | d+1,b,done,X=>if b.any id then (List.range b.length).foldl (fun X k=>if kP b k then F57 Hd d (mvB b k) (done++[(k:Int)+1]) (X++g7 b done k) else X) X else Hd (X++clR done) done
def lL (pb pe pf:Nat) (X Y:ac):Prop:=X.length<=Y.length/\∀j,j<X.length->j≠pb->j≠pe->j≠pf->Y[j]?=X[j]?
section
variable {pb pe pf:Nat} {X Y Z:ac}
theorem lL.refl:lL pb pe pf X X:=⟨SK _,fun _ _ _ _ _=>rfl⟩
theorem lL.trans (h:lL pb pe pf X Y) (k:lL pb pe pf Y Z):lL pb pe pf X Z:=⟨TK h.1 k.1,fun j h1 h2 h3 h4=>by rw [k.2 j (by have:=h.1; omega) h2 h3 h4,h.2 j h1 h2 h3 h4]⟩
theorem lL.app (X W:ac):lL pb pe pf X (X++W):=⟨by simp,fun j h _ _ _=>by rw [Sy h]⟩
end
theorem uw {pb pe pf:Nat} (h:∀X o,lL pb pe pf X (Hd X o)):∀(d:Nat) (b:List Bool) (done:List Int) (X:ac),lL pb pe pf X (F57 Hd d b done X)
 | 0,b,done,X=>by
  unfold F57
  split
  ·exact lL.refl
  ·exact (lL.app _ _).trans (h _ _)
 | d+1,b,done,X=>by
  unfold F57
  split
  ·have:∀(l:List Nat) (X:ac),lL pb pe pf X (l.foldl (fun X k=>if kP b k then F57 Hd d (mvB b k) (done++[(k:Int)+1]) (X++g7 b done k) else X) X):=by
    intro l
    induction l with
    | nil=>intro X; exact lL.refl
    | cons k l ih=>
     intro X
     rw [Ta]
     refine lL.trans ?_ (ih _)
     split
     ·exact (lL.app _ _).trans (uw h d _ _ _)
     ·exact lL.refl
   exact this _ _
  ·exact (lL.app _ _).trans (h _ _)
theorem DC (hl:∀X o,X.length<=(Hd X o).length) (h:∀X o,j<X.length->(Hd X o).set j e=Hd (X.set j e) o):∀(d:Nat) (b:List Bool) (done:List Int) (X:ac),j<X.length->X.length<=(F57 Hd d b done X).length/\(F57 Hd d b done X).set j e=F57 Hd d b done (X.set j e)
 | 0,b,done,X,hj=>by
  unfold F57
  split
  ·exact ⟨SK _,rfl⟩
  ·refine ⟨TK (by simp) (hl _ _),?_⟩
   rw [h _ _ (by simp; omega),Un _ _ hj]
 | d+1,b,done,X,hj=>by
  unfold F57
  split
  ·have:∀(l:List Nat) (X:ac),j<X.length->X.length<=(l.foldl (fun X k=>if kP b k then F57 Hd d (mvB b k) (done++[(k:Int)+1]) (X++g7 b done k) else X) X).length/\(l.foldl (fun X k=>if kP b k then F57 Hd d (mvB b k) (done++[(k:Int)+1]) (X++g7 b done k) else X) X).set j e=l.foldl (fun X k=>if kP b k then F57 Hd d (mvB b k) (done++[(k:Int)+1]) (X++g7 b done k) else X) (X.set j e):=by
    intro l
    induction l with
    | nil=>intro X hj; exact ⟨SK _,rfl⟩
    | cons k l ih=>
     intro X hj
     rw [Ta,Ta]
     cases hc:kP b k with
     | false=>exact ih X hj
     | true=>
      simp only [TS]
      obtain ⟨h1,h2⟩:=DC hl h d (mvB b k) (done++[(k:Int)+1]) (X++g7 b done k) (by simp; omega)
      have hle:X.length<=(X++g7 b done k).length:=by simp
      obtain ⟨h3,h4⟩:=ih (F57 Hd d (mvB b k) (done++[(k:Int)+1]) (X++g7 b done k)) (by omega)
      refine ⟨by omega,?_⟩
      rw [h4,h2,Un _ _ hj]
   exact this _ _ hj
  ·refine ⟨TK (by simp) (hl _ _),?_⟩
   rw [h _ _ (by simp; omega),Un _ _ hj]
theorem xH {S:Type} {R:ac->S->Prop} {st:S->List Int->S} {E:List Int->Prop} (hW:∀X W s,R X s->R (X++W) s) (h:∀X s o,E o->R X s->R (Hd X o) (st s o)):∀(d:Nat) (b:List Bool) (done:List Int) (X:ac) (s:S),mB b<=d->(∀r,Emp b r->E (done++r))->R X s ->
  R (F57 Hd d b done X) (((gZ d b).map (done ++ ·)).foldl st s)
 | 0,b,done,X,s,hd,hE,hR=>by
  have ha:=qs b (by omega)
  unfold F57 gZ
  rw [ha]
  have:=hE [] ha
  rw [S5] at this
  simpa using h _ s done this (hW _ _ _ hR)
 | d+1,b,done,X,s,hd,hE,hR=>by
  unfold F57 gZ
  cases ha:b.any id with
  | false=>
   have:=hE [] ha
   rw [S5] at this
   simpa using h _ s done this (hW _ _ _ hR)
  | true=>
   simp only [TS]
   have:∀(l:List Nat) (X:ac) (s:S),(∀k∈l,k<b.length)->R X s->R (l.foldl (fun X k=>if kP b k then F57 Hd d (mvB b k) (done++[(k:Int)+1]) (X++g7 b done k) else X) X)
     (((l.flatMap fun k=>if kP b k then (gZ d (mvB b k)).map (((k:Int)+1) :: ·) else []).map (done ++ ·)).foldl st s):=by
    intro l
    induction l with
    | nil=>intro X s _ hR; exact hR
    | cons k l ih=>
     intro X s hk hR
     rw [Ta,Uj,TD,List.foldl_append]
     refine ih _ _ (fun j hj=>hk j (TE _ hj)) ?_
     have hkl:=hk k Um
     cases hc:kP b k with
     | false=>simpa using hR
     | true=>
      simp only [TS,Ub]
      have hm:=w9 hkl hc
      have:=xH hW h d (mvB b k) (done++[(k:Int)+1]) (X++g7 b done k) s (by omega) (fun r hr=>by
       rw [SO]
       exact hE _ ⟨k,rfl,hkl,hc,hr⟩) (hW _ _ _ hR)
      have e:((done++[(k:Int)+1]) ++ ·)=(fun x=>done++x) ∘ (((k:Int)+1) :: ·):=by
       funext r; simp
      rw [<-e]
      exact this
   exact this _ _ _ (fun k hk=>Ty.1 hk) hR
end Tr
namespace Tr
open Go
open Cy (GC je aM aV az)
open Clu (aW aT aY bK bu)
section
variable {A:ac} {id:Nat} {xs:List Bool}
theorem xd (h:A[id]?=some (.row 1 g (aS xs))) (hk:k<xs.length):ab false 1 A (.ptr id k 0)=some (.bool (xs.getD k false)):=by
 have e:(aS xs)[k]?=some (.bool (xs.getD k false)):=by
  simp [aS,Sq hk]
 simp only [ab,h,e]
 cases g <;> rfl
theorem kR (h:A[id]?=some (.q (aS xs))) (hk:k<xs.length) (v:Bool):aA 1 A (.ptr id k 0) (.bool v)=some (A.set id (.q (aS (xs.set k v)))):=by
 have e:(aS xs)[k]?=some (.bool (xs.getD k false)):=by
  simp [aS,Sq hk]
 have e2:(aS xs).set k (.bool v)=aS (xs.set k v):=by simp [aS]
 simp only [aA,h,e]
 rw [SA ⟨trivial,rfl,rfl,by omega⟩]
 simp only [bL,cellsOf]
 rw [<-e2]
 rfl
end
def EH:List (FuncId × aJ):=[(73,aE 4 M58),(74,H59),(36,H40)]
def H57:Nat->aJ
 | 0=>fun h=>bZ (dU GC EH h) 100 Jn
 | k+1=>fun h=>bZ (dU GC ((72,H57 k) :: EH) h) 100 Jn
theorem AO:∀f M,aD EH f=some M->au prog GC f M:=ag (au.of_pure JZ 4) (ag JY (ag p8 aB))
theorem Fe:∀k,au prog GC 72 (H57 k)
 | 0=>cw AO Si Gd bO.nil
 | k+1=>cw (ag (Fe k) AO) Si Gd bO.nil
structure Yl (h:bj) (yv:AV) (Hd:ac->List Int->ac) (Inv:ac->Prop) (E:List Int->Prop) (pb pe pf:Nat):Prop where
 isY:∃L,yv=.func (.yield L) [] []
 run:∀X o ov,Inv X->E o->dj X 1 ov (ak o)->h yv [ov] X=some (.t,Hd X o)
 inv:∀X o,Inv X->E o->Inv (Hd X o)
 app:∀X W,Inv X->Inv (X++W)
 keep:∀X o,lL pb pe pf X (Hd X o)
def eT (yp fp:Nat):AV:=.func (.func 72) [] [.p yp,.p fp]
theorem CA (X:ac) (done:List Int):dj (X++clR done) 1 (clV X.length done) (ak done):=by
 unfold clR clV
 by_cases h:done=[]
 ·rw [SA h,SA h,h]; exact .inl (.inl ⟨rfl,rfl⟩)
 ·rw [SD h,SD h]
  refine .inr ⟨X.length+1,0,false,ak done,by rw [az],by rw [bD]; rfl,?_⟩
  rw [SL,SX]
theorem GL (h:bj) {dv:AV} {done:List Int} (hd:dj X 1 dv (ak done)) (hn:done=[]->dv=.nilS) (hl:done.length<=1000):H40 h [dv] X=some (clV X.length done,X++clR done):=by
 by_cases he:done=[]
 ·rw [hn he]
  unfold clV clR
  rw [SA he,SA he,S5]
  exact Jg h X
 ·rw [GK h hd he hl]
  unfold clV clR
  rw [SD he,SD he]
theorem Rf (X:ac) (done:List Int) (k:Nat) (hl:done.length<=1000):db 1 8 (X++clR done) (clV X.length done) (.fs 1 [.z ((k:Int)+1)])=some (apV X.length done,X++apR done k):=by
 unfold clR clV apV apR
 by_cases h:done=[]
 ·rw [SA h,SA h,SA h,SA h,S5]
  simp [db,a8,ak]
 ·rw [SD h,SD h,SD h,SD h]
  have h1:(X++[Ent.dead,.q (ak done)])[X.length+1]?=some (.q (ak done)):=by rw [bD]; rfl
  have e:(X++[Ent.dead,.q (ak done)]).set (X.length+1) .dead++[Ent.q ((ak done).take done.length++[.z ((k:Int)+1)])]=X++[.dead,.dead,.q (ak (done++[(k:Int)+1]))]:=by
   rw [SQ _ _ (by omega),Tm,<-az done,SX]
   simp [ak]
  simp only [db,c9,h1,T5,SL]
  rw [SA ⟨trivial,by omega,by omega,by omega⟩,e]
  simp
section
variable {h:bj} {yv:AV} {Hd:ac->List Int->ac} {Inv:ac->Prop} {E:List Int->Prop} {pb pe pf yp fp:Nat}
theorem FF (hy:Yl h yv Hd Inv E pb pe pf) (fs:List (FuncId × aJ)) (h58:aD fs 73=some (aE 4 M58)) (h40:aD fs 36=some H40) (hI:Inv X) (h1:X[yp]?=some (.q [yv])) {b:List Bool} (hb:X[bi]?=some (.q (aS b))) (hbl:b.length<=100) (hany:b.any id=false)
  {done:List Int} {dv:AV} (hd:dj X 1 dv (ak done)) (hn:done=[]->dv=.nilS) (hl:done.length<=1000) (hE:E done) :
  bZ (dU GC fs h) 100 Jn [.sl bi 0 b.length,dv,.p yp,.p fp] X=some (.t,Hd (X++clR done) done):=by
 obtain ⟨L,rfl⟩:=hy.isY
 have hf:frz X 4 (.sl bi 0 b.length)=.fs 1 (aS b):=by
  have:=dB (off:=0) (xs:=aS b) hb (by rw [SL,SX]) (fun n x hx=>by
   obtain ⟨c,_,rfl⟩:=SU.1 hx
   cases n <;> rfl) 2
  rw [cZ] at this
  exact this
 have m:=GE (xs:=b) (.inr rfl) (by omega)
 rw [hany] at m
 have l1:ab false 1 X (.p yp)=some (.func (.yield L) [] []):=by simp only [ab,h1]; rfl
 have hypl:=(Sp.1 h1).1
 have h1':(X++clR done)[yp]?=some (.q [.func (.yield L) [] []]):=by rw [da X _ yp hypl,h1]
 have c:=fun hh=>GL hh hd hn hl
 have hr:=hy.run (X++clR done) done (clV X.length done) (hy.app _ _ hI) hE (CA X done)
 have hct:frz X 4 .t=.t:=rfl
 generalize clV X.length done=cv at *
 generalize X++clR done=X1 at *
 generalize Hd X1 done=X2 at *
 generalize b.length=n at *
 generalize (AV.fs 1 (aS b))=F at *
 rw [bo _ _ rfl]
 simp [Jn,hf,hct,m,h58,h40,l1,c,hr,dI,h1,h1',-ab,-frz]
theorem HN (h:bj) (fs:List (FuncId × aJ)) {H:aJ} (h57:aD fs 72=some H) (h59:aD fs 74=some H59) (h40:aD fs 36=some H40) (h3:X[fp]?=some (.q [eT yp fp])) {b:List Bool} (hb:X[bi]?=some (.q (aS b))) (hbl:b.length<=100)
  {done:List Int} {dv:AV} (hd:dj X 1 dv (ak done)) (hn:done=[]->dv=.nilS) (hl:done.length<=1000) {k:Nat} (hk:k<b.length) {Y:ac}
  (hr:kP b k=true->H h [.sl (X.length+1) 0 b.length,apV (X.length+2) done,.p yp,.p fp] (X++g7 b done k)=some (.t,Y)) (hY:kP b k=false->Y=X) :
  run (dU GC fs h) 100 [.code jz] (pQ (.sl bi 0 b.length) dv (.p fp) (.sl bi 0 b.length) (.z (b.length:Int)) (.z (k:Int))) X =
   some (.normal (pQ (.sl bi 0 b.length) dv (.p fp) (.sl bi 0 b.length) (.z (b.length:Int)) (.z ((k+1:Nat):Int))) Y):=by
 have hfl:=(Sp.1 h3).1
 have hbil:=(Sp.1 hb).1
 have b0:=be k b.length .i64
 rw [Su hk] at b0
 have i1:=cG hb hk .i64
 have d1:=xd hb hk
 have b1:af .sub (.z (b.length:Int)) (.z 1)=some (.z ((b.length:Int)-1)):=bK (by omega)
 have b2:=bu (k:Int) ((b.length:Int)-1)
 have b3:=aP k (by omega)
 have ln:aj (.sl bi 0 b.length)=some (.z (b.length:Int)):=rfl
 cases hc:kP b k with
 | false=>
  rw [hY hc]
  have hc':¬ (b.getD k false=true/\(k+1=b.length\/b.getD (k+1) false=false)):=fun hh=>by rw [iZ.2 hh] at hc; cases hc
  cases hf:b.getD k false with
  | false=>
   rw [hf] at d1
   generalize decide ((k:Int)=(b.length:Int)-1)=q at *
   generalize (b.length:Int)-1=N1 at *
   generalize hNN:(b.length:Int)=N at *
   obtain ⟨i1',hi1'⟩:∃i1:Nat,i1=k+1:=⟨_,rfl⟩
   rw [<-hi1'] at b3 ⊢
   generalize (k:Int)=K at *
   simp [jz,b0,i1,d1,ln,b1,b2,b3,-af,-ab,-ae,-aj]
  | true=>
   have hne:k+1<b.length:=by
    rcases UQ (k+1) b.length with h' | h'
    ·exact h'
    ·exact absurd ⟨hf,.inl (by omega)⟩ hc'
   have hf2:b.getD (k+1) false=true:=by
    cases h':b.getD (k+1) false
    ·exact absurd ⟨hf,.inr h'⟩ hc'
    ·rfl
   have i2:=cG hb hne .i64
   have d2:=xd hb hne
   rw [hf] at d1
   rw [hf2] at d2
   rw [Ss (by omega)] at b2
   generalize (b.length:Int)-1=N1 at *
   generalize hNN:(b.length:Int)=N at *
   obtain ⟨i1',hi1'⟩:∃i1:Nat,i1=k+1:=⟨_,rfl⟩
   rw [<-hi1'] at b3 i2 d2 ⊢
   generalize (k:Int)=K at *
   generalize (i1':Int)=K1 at *
   simp [jz,b0,i1,i2,d1,d2,ln,b1,b2,b3,-af,-ab,-ae,-aj]
 | true=>
  obtain ⟨hf,hlast⟩:=iZ.1 hc
  have hr:=hr hc
  rw [hf] at d1
  have hbne:b≠[]:=fun e=>by rw [e] at hk; exact absurd hk (Uv _)
  have hbh:dj X 1 (.sl bi 0 b.length) (aS b):=.inr ⟨bi,0,false,aS b,by rw [cZ],hb,by rw [SL,SX]⟩
  have c59:=fun hh=>M7 hh hbh hbne (by omega)
  have r1:(X++[Ent.dead,.q (aS b)])[X.length+1]?=some (.q (aS b)):=by rw [bD]; rfl
  have i3:=cG (n:=b.length) r1 hk .i64
  have s1:=kR r1 hk false
  have e1:(X++[Ent.dead,.q (aS b)]).set (X.length+1) (.q (aS (b.set k false)))=X++[.dead,.q (aS (b.set k false))]:=by
   rw [SQ _ _ (by omega),Tm]; rfl
  rw [e1] at s1
  have hX2l:∀c,(X++[Ent.dead,.q (aS c)]).length=X.length+2:=fun c=>by simp
  have ld3:∀W,ab false 1 (X++W) (.p fp)=some (eT yp fp):=fun W=>by
   have:(X++W)[fp]?=some (.q [eT yp fp]):=by rw [da X W fp hfl,h3]
   simp only [ab,this]; rfl
  have hfp:∀W,(X++W)[fp]?=some (.q [eT yp fp]):=fun W=>by rw [da X W fp hfl,h3]
  have hd2:dj (X++[Ent.dead,.q (aS (mvB b k))]) 1 dv (ak done):=hd.app _
  have c40:=fun hh=>GL hh hd2 hn hl
  have ap:=Rf (X++[Ent.dead,.q (aS (mvB b k))]) done k hl
  rw [hX2l] at c40 ap
  have b4:af .add (.z (k:Int)) (.z 1)=some (.z ((k:Int)+1)):=aY (by omega)
  have ldX2:=ld3 [Ent.dead,.q (aS (mvB b k))]
  have g1:=hfp [Ent.dead,.q (aS (mvB b k))]
  have g2:=hfp ([Ent.dead,.q (aS (mvB b k))]++clR done)
  have g3:=hfp ([Ent.dead,.q (aS (mvB b k))]++apR done k)
  rw [<-SO] at g2 g3
  have eN:X++g7 b done k=X++[Ent.dead,.q (aS (mvB b k))]++apR done k:=by unfold g7; rw [SO]
  rw [eN] at hr
  have hsl:bp 1 [.z ((k:Int)+1)]=some (.fs 1 [.z ((k:Int)+1)]):=rfl
  have e9:((k+1:Nat):Int)=(k:Int)+1:=by push_cast; rfl
  have q1:fp≠(X++[Ent.dead,.q (aS (mvB b k))]++clR done).length:=by simp; omega
  have q2:¬ fp∈bI (clV (X.length+2) done):=by
   unfold clV
   split
   ·simp [bI]
   ·simp [bI]; omega
  by_cases hl1:k+1=b.length
  ·rw [Su (by omega)] at b2
   have em:mvB b k=b.set k false:=by unfold mvB; rw [SA hl1]
   rw [<-em] at s1
   generalize aS (mvB b k)=bm at *
   generalize X++[Ent.dead,.row 1 false bm]++apR done k=X4 at *
   generalize X++[Ent.dead,.row 1 false bm]++clR done=X3 at *
   generalize X++[Ent.dead,.row 1 false bm]=X2 at *
   generalize X++[Ent.dead,.q (aS b)]=X1 at *
   generalize clV (X.length+2) done=cv at *
   generalize apV (X.length+2) done=av at *
   rw [e9]
   generalize (b.length:Int)-1=N1 at *
   generalize hNN:(b.length:Int)=N at *
   generalize hKK:(k:Int)+1=K1 at *
   generalize (k:Int)=K at *
   simp [jz,b0,i1,i3,d1,ln,b1,b2,b4,h57,h59,h40,c59,c40,s1,ldX2,eT,hsl,ap,hr,g1,g2,-af,-ab,-ae,-aj,-aA,-bp]
   exact ⟨q1,q2⟩
  ·rw [Ss (by omega)] at b2
   have hne:k+1<b.length:=by omega
   have hf2:b.getD (k+1) false=false:=hlast.resolve_left hl1
   have i2:=cG hb hne .i64
   have d2:=xd hb hne
   rw [hf2] at d2
   have r2:(X++[Ent.dead,.q (aS (b.set k false))])[X.length+1]?=some (.q (aS (b.set k false))):=by rw [bD]; rfl
   have i4:=cG (n:=b.length) r2 hne .i64
   have s2:=kR r2 (show k+1<(b.set k false).length by simp; omega) true
   have e2:(X++[Ent.dead,.q (aS (b.set k false))]).set (X.length+1) (.q (aS ((b.set k false).set (k+1) true)))=X++[.dead,.q (aS ((b.set k false).set (k+1) true))]:=by
    rw [SQ _ _ (by omega),Tm]; rfl
   have em:mvB b k=(b.set k false).set (k+1) true:=by unfold mvB; rw [SD hl1]
   rw [e2,<-em] at s2
   rw [e9] at i2 i4
   generalize aS (mvB b k)=bm at *
   generalize X++[Ent.dead,.row 1 false bm]++apR done k=X4 at *
   generalize X++[Ent.dead,.row 1 false bm]++clR done=X3 at *
   generalize X++[Ent.dead,.row 1 false bm]=X2 at *
   generalize X++[Ent.dead,.q (aS (b.set k false))]=Xm at *
   generalize X++[Ent.dead,.q (aS b)]=X1 at *
   generalize clV (X.length+2) done=cv at *
   generalize apV (X.length+2) done=av at *
   rw [e9]
   generalize (b.length:Int)-1=N1 at *
   generalize hNN:(b.length:Int)=N at *
   generalize hKK:(k:Int)+1=K1 at *
   generalize (k:Int)=K at *
   simp [jz,b0,i1,i2,i3,i4,d1,d2,ln,b1,b2,b4,h57,h59,h40,c59,c40,s1,s2,ldX2,eT,hsl,ap,hr,g1,g2,-af,-ab,-ae,-aj,-aA,-bp]
   exact ⟨q1,q2⟩
theorem mK {Y:ac} (hk:lL pb pe pf X Y) (h:X[j]?=some e) (h1:j≠pb/\j≠pe/\j≠pf):Y[j]?=some e:=by
 rw [hk.2 j (Sp.1 h).1 h1.1 h1.2.1 h1.2.2,h]
def SlR (pb pe pf:Nat) (X:ac) (v:AV) (xs:List Int):Prop:=(v=.nilS/\xs=[])\/(xs≠[]/\∃i,v=.sl i 0 xs.length/\X[i]?=some (.q (ak xs))/\i≠pb/\i≠pe/\i≠pf)
theorem SlR.holds {v:AV} (h:SlR pb pe pf X v xs):dj X 1 v (ak xs)/\(xs=[]->v=.nilS):=by
 rcases h with ⟨rfl,rfl⟩ | ⟨hne,i,rfl,h1,_⟩
 ·exact ⟨.inl (.inl ⟨rfl,rfl⟩),fun _=>rfl⟩
 ·exact ⟨.inr ⟨i,0,false,ak xs,by rw [az],h1,by rw [SL,SX]⟩,fun e=>absurd e hne⟩
theorem SlR.keep {Y:ac} {v:AV} (h:SlR pb pe pf X v xs) (hk:lL pb pe pf X Y):SlR pb pe pf Y v xs:=by
 rcases h with h | ⟨hne,i,h1,h2,h3⟩
 ·exact .inl h
 ·exact .inr ⟨hne,i,h1,mK hk h2 h3,h3⟩
theorem SlR.ap (hb:pb<X.length/\pe<X.length/\pf<X.length) (done:List Int) (k:Nat):SlR pb pe pf (X++apR done k) (apV X.length done) (done++[(k:Int)+1]):=by
 refine .inr ⟨by simp,?_⟩
 unfold apR apV
 by_cases h:done=[]
 ·rw [SA h,SA h,h]
  refine ⟨X.length,rfl,?_,by omega,by omega,by omega⟩
  have:=bD X [Ent.q (ak [(k:Int)+1])] 0
  rw [Ts] at this
  rw [this]; rfl
 ·rw [SD h,SD h]
  exact ⟨X.length+2,by simp,by rw [bD]; rfl,by omega,by omega,by omega⟩
theorem Sb (hy:Yl h yv Hd Inv E pb pe pf) (hyp:yp≠pb/\yp≠pe/\yp≠pf) (hfp:fp≠pb/\fp≠pe/\fp≠pf):∀(d:Nat) (X:ac) (b:List Bool) (done:List Int) (bi:Nat) (dv:AV),Inv X->(pb<X.length/\pe<X.length/\pf<X.length)->X[yp]?=some (.q [yv])->X[fp]?=some (.q [eT yp fp])->X[bi]?=some (.q (aS b))->(bi≠pb/\bi≠pe/\bi≠pf)->b.length<=50 ->
  SlR pb pe pf X dv done->done.length+d<=100->mB b<=d->(∀r,Emp b r->E (done++r)) ->
  H57 d h [.sl bi 0 b.length,dv,.p yp,.p fp] X=some (.t,F57 Hd d b done X)
 | 0,X,b,done,bi,dv,hI,hp,h1,h2,h3,h4,h5,h6,h9,h10,h11=>by
  have ha:=qs b (by omega)
  have hE:=h11 [] ha
  rw [S5] at hE
  have:=FF (fp:=fp) hy EH rfl rfl hI h1 h3 (by omega) ha h6.holds.1 h6.holds.2 (by omega) hE
  unfold H57 F57
  rw [ha]
  exact this
 | d+1,X,b,done,bi,dv,hI,hp,h1,h2,h3,h4,h5,h6,h9,h10,h11=>by
  cases ha:b.any id with
  | false=>
   have hE:=h11 [] ha
   rw [S5] at hE
   have:=FF (fp:=fp) hy ((72,H57 d) :: EH) rfl rfl hI h1 h3 (by omega) ha h6.holds.1 h6.holds.2 (by omega) hE
   unfold H57 F57
   rw [ha]
   exact this
  | true=>
   have hInv:∀(e:Nat) (b':List Bool) (done':List Int) (X:ac),Inv X->mB b'<=e->(∀r,Emp b' r->E (done'++r))->Inv (F57 Hd e b' done' X):=fun e b' done' X hI hm hE=>by
    have:=xH (S:=Unit) (Hd:=Hd) (R:=fun X _=>Inv X) (st:=fun _ _=>()) (E:=E) (fun X W _ h=>hy.app X W h) (fun X _ o hE h=>hy.inv X o h hE) e b' done' X () hm hE hI
    exact this
   have loop:∀(c k:Nat) (Y:ac) (m:Nat),k+c=b.length->Inv Y->lL pb pe pf X Y->c<m ->
     bG (evC (dU GC ((72,H57 d) :: EH) h) 100 jz) mh m (pQ (.sl bi 0 b.length) dv (.p fp) (.sl bi 0 b.length) (.z (b.length:Int)) (.z (k:Int))) Y =
      some (.exit 0 ((pQ (.sl bi 0 b.length) dv (.p fp) (.sl bi 0 b.length) (.z (b.length:Int)) (.z (b.length:Int))).set 13 .f)
       ((List.range' k c).foldl (fun X k=>if kP b k then F57 Hd d (mvB b k) (done++[(k:Int)+1]) (X++g7 b done k) else X) Y)):=by
    intro c
    induction c with
    | zero=>
     intro k Y m hk _ _ hm
     obtain ⟨m,rfl⟩:∃j,m=j+1:=⟨m-1,by omega⟩
     obtain rfl:k=b.length:=by omega
     have b0:=be b.length b.length .i64
     rw [Ss (by omega)] at b0
     rw [UB rfl]
     simp [jz,b0,-af]
    | succ c ih=>
     intro k Y m hk hIY hK hm
     obtain ⟨m,rfl⟩:∃j,m=j+1:=⟨m-1,by omega⟩
     have hkl:k<b.length:=by omega
     have hpY:pb<Y.length/\pe<Y.length/\pf<Y.length:=by have:=hK.1; omega
     obtain ⟨Z,hZ⟩:∃Z,Z=if kP b k then F57 Hd d (mvB b k) (done++[(k:Int)+1]) (Y++g7 b done k) else Y:=⟨_,rfl⟩
     have hdY:=h6.keep hK
     have hE':kP b k=true->∀r,Emp (mvB b k) r->E (done++[(k:Int)+1]++r):=fun hc r hr=>by
      rw [SO]
      exact h11 _ ⟨k,rfl,hkl,hc,hr⟩
     have hrun:=HN (Y:=Z) (X:=Y) (H:=H57 d) h ((72,H57 d) :: EH) rfl rfl rfl (mK hK h2 hfp) (mK hK h3 h4) (by omega) hdY.holds.1 hdY.holds.2 (by omega) hkl (fun hc=>by
      have hm':=w9 hkl hc
      have hl2:(Y++[Ent.dead,.q (aS (mvB b k))]).length=Y.length+2:=by simp
      have hap:=SlR.ap (pb:=pb) (pe:=pe) (pf:=pf) (X:=Y++[Ent.dead,.q (aS (mvB b k))]) (by rw [hl2]; omega) done k
      rw [hl2] at hap
      have eN:Y++g7 b done k=Y++[Ent.dead,.q (aS (mvB b k))]++apR done k:=by unfold g7; rw [SO]
      have hKN:lL pb pe pf X (Y++g7 b done k):=hK.trans (lL.app _ _)
      have hrow:(Y++g7 b done k)[Y.length+1]?=some (.q (aS (mvB b k))):=by rw [bD]; rfl
      have:=Sb hy hyp hfp d (Y++g7 b done k) (mvB b k) (done++[(k:Int)+1]) (Y.length+1) (apV (Y.length+2) done) (hy.app _ _ hIY) (by have:=hKN.1; omega) (mK hKN h1 hyp) (mK hKN h2 hfp) hrow (by omega) (by rw [g8]; exact h5) (by rw [eN]; exact hap) (by simp; omega) (by omega) (hE' hc)
      rw [g8] at this
      rw [this,hZ,hc]; rfl) (fun hc=>by rw [hZ,hc]; rfl)
     rw [UB rfl,hrun,U5,Ta,<-hZ]
     refine ih (k+1) Z m (by omega) ?_ ?_ (by omega)
     ·rw [hZ]
      split
      ·rename_i hc
       have hm':=w9 hkl hc
       exact hInv _ _ _ _ (hy.app _ _ hIY) (by omega) (hE' hc)
      ·exact hIY
     ·rw [hZ]
      refine hK.trans ?_
      split
      ·exact (lL.app _ _).trans (uw hy.keep _ _ _ _)
      ·exact lL.refl
   have lp:=loop b.length 0 X 100 (by omega) hI lL.refl (by omega)
   have hf:frz X 4 (.sl bi 0 b.length)=.fs 1 (aS b):=by
    have:=dB (off:=0) (xs:=aS b) h3 (by rw [SL,SX]) (fun n x hx=>by
     obtain ⟨c,_,rfl⟩:=SU.1 hx
     cases n <;> rfl) 2
    rw [cZ] at this
    exact this
   have m:=GE (xs:=b) (.inr rfl) (by omega)
   rw [ha] at m
   have hct:frz X 4 .t=.t:=rfl
   have l58:aD EH 73=some (aE 4 M58):=rfl
   have ln:aj (.sl bi 0 b.length)=some (.z (b.length:Int)):=rfl
   unfold F57
   rw [ha,SA rfl,List.range_eq_range']
   have lp:bG (evC (dU GC ((72,H57 d) :: EH) h) 100 jz) mh 100 (pQ (.sl bi 0 b.length) dv (.p fp) (.sl bi 0 b.length) (.z (b.length:Int)) (.z 0)) X=_:=lp
   generalize (List.range' 0 b.length).foldl (fun X k=>if kP b k then F57 Hd d (mvB b k) (done++[(k:Int)+1]) (X++g7 b done k) else X) X=Y at *
   generalize b.length=n at *
   generalize (AV.fs 1 (aS b))=F at *
   unfold H57
   rw [bo _ _ rfl]
   simp [Jn,hf,hct,m,l58,ln,K8 lp,dI,-ab,-aj,-frz]
end
end Tr
namespace Tr
open Go
open Cy (GC je aM aV az)
open Clu (aW aT ai chA aY bK bu bP bQ)
def R6:List (FuncId × aJ):=[(72,H57 10)]
@[simp] theorem OE:aD R6 72=some (H57 10):=rfl
def H56:aJ:=fun hd args A=>(bZ (dU GC R6 hd) 0 Ob args A).map fun x=>(x.1,x.2.set A.length .dead)
theorem J0:au prog GC 71 H56:=(cw (ag (Fe 10) aB) (by kernel_rfl) LT bO.nil).kill
def H33:aJ:=fun hd=>bZ (dU GC [] hd) 0 Jo
theorem AG:au prog GC 34 H33:=cw aB (by kernel_rfl) Cn bO.nil
theorem Nd (h:bj) (A:ac) (i n:Nat):H33 h [.sl i 0 n] A=some (.func (.func 71) [] [.p A.length],A++[.q [.sl i 0 n]]):=by
 unfold H33
 rw [bo _ _ rfl]
 simp [Jo]
def A56 (A:ac) (yv:AV):ac:=A++[.q [yv],.q [eT A.length (A.length+1)]]
section
variable {h:bj} {yv:AV} {Hd:ac->List Int->ac} {Inv:ac->Prop} {E:List Int->Prop} {pb pe pf:Nat}
theorem M9 (hy:Yl h yv Hd Inv E pb pe pf) {b:List Bool} {ip:Nat} (hp:pb<A.length/\pe<A.length/\pf<A.length) (hI:Inv (A56 A yv)) (hb:A[bi]?=some (.q (aS b))) (hbi:bi≠pb/\bi≠pe/\bi≠pf) (hip:A[ip]?=some (.q [.sl bi 0 b.length])) (hbl:b.length<=4) (hE:∀r,Emp b r->E r) :
  H56 h [yv,.p ip] A=some (.tup [],(F57 Hd 10 b [] (A56 A yv)).set A.length .dead):=by
 obtain ⟨L,rfl⟩:=hy.isY
 have hbl':=(Sp.1 hb).1
 have hil:=(Sp.1 hip).1
 have e1:(A56 A (.func (.yield L) [] []))[A.length]?=some (.q [.func (.yield L) [] []]):=by simp [A56]
 have e2:(A56 A (.func (.yield L) [] []))[A.length+1]?=some (.q [eT A.length (A.length+1)]):=by unfold A56; rw [bD]; rfl
 have e3:(A56 A (.func (.yield L) [] []))[bi]?=some (.q (aS b)):=by unfold A56; rw [da A _ bi hbl',hb]
 have e4:(A56 A (.func (.yield L) [] []))[ip]?=some (.q [.sl bi 0 b.length]):=by unfold A56; rw [da A _ ip hil,hip]
 have hal:(A56 A (.func (.yield L) [] [])).length=A.length+2:=by simp [A56]
 have hm:=Sb hy (yp:=A.length) (fp:=A.length+1) (by omega) (by omega) 10 _ b [] bi .nilS hI (by omega) e1 e2 e3 hbi (by omega) (.inl ⟨rfl,rfl⟩) (by simp) (KF b hbl) (fun r hr=>hE r hr)
 have s1:aA 1 (A++[.q [.func (.yield L) [] []],.q [.nilF]]) (.p (A.length+1)) (.func (.func 72) [] [.p A.length,.p (A.length+1)])=some (A56 A (.func (.yield L) [] [])):=by
  have:(A++[Ent.q [.func (.yield L) [] []],.q [.nilF]])[A.length+1]?=some (.q [.nilF]):=by rw [bD]; rfl
  simp only [aA,this]
  simp [AV.solid,cellsOf,bL,A56,eT]
 have l1:ab false 1 (A56 A (.func (.yield L) [] [])) (.p (A.length+1))=some (eT A.length (A.length+1)):=by simp only [ab,e2]; rfl
 have l2:ab false 1 (A56 A (.func (.yield L) [] [])) (.p ip)=some (.sl bi 0 b.length):=by simp only [ab,e4]; rfl
 generalize hX:A56 A (.func (.yield L) [] [])=X1 at *
 generalize F57 Hd 10 b [] X1=X2 at *
 generalize b.length=n at *
 unfold H56
 rw [bo _ _ rfl]
 unfold eT at l1
 simp [Ob,s1,l1,l2,hm,dI,-ab,-aA]
end
def bet (X:ac) (pe pf:Nat) (t:Int):Bool:=match X[pf]?,X[pe]? with
 | some (.row _ _ [.bool f]),some (.row _ _ [.int _ e])=>!f || decide (t<e)
 | _,_=>false
section
variable (T:aW) (tv:AV) (rd:List Int) (free:Int) (pb pe pf:Nat)
def HdD (X:ac) (o:List Int):ac:=
 match dg T rd free o with
 | none=>X++G34 X.length tv T rd free o
 | some l=>if bet X pe pf ((gV T rd free l).getD 0) then
   (((X++G34 X.length tv T rd free o).set pb (.q [.sl (X.length+(XF X.length tv T rd free o).length+l.length) 0 l.length])).set pe (.q [.z ((gV T rd free l).getD 0)])).set pf (.q [.t])
  else X++G34 X.length tv T rd free o
theorem pJ (X:ac) (o:List Int):lL pb pe pf X (HdD T tv rd free pb pe pf X o):=by
 unfold HdD
 split
 ·exact lL.app _ _
 ·split
  ·refine ⟨by simp,fun j h1 h2 h3 h4=>?_⟩
   rw [Sz (TX h4),Sz (TX h3),Sz (TX h2),Sy h1]
  ·exact lL.app _ _
theorem DA (X:ac) (o:List Int):X.length<=(HdD T tv rd free pb pe pf X o).length:=(pJ T tv rd free pb pe pf X o).1
theorem Dz (h1:j≠pb) (h2:j≠pe) (h3:j≠pf) (X:ac) (o:List Int) (hj:j<X.length):(HdD T tv rd free pb pe pf X o).set j e=HdD T tv rd free pb pe pf (X.set j e) o:=by
 have hb:∀t,bet (X.set j e) pe pf t=bet X pe pf t:=fun t=>by
  unfold bet
  rw [Sz h3,Sz h2]
 have ha:∀W,(X++W).set j e=X.set j e++W:=fun W=>Un _ _ hj
 unfold HdD
 simp only [hb,Ti]
 split
 ·rw [ha]
 ·split
  ·rw [Uz _ _ (TX h3),Uz _ _ (TX h2),Uz _ _ (TX h1),ha]
  ·rw [ha]
def Rep (n0:Nat) (X:ac) (s:Option (List dc × Int)):Prop:=(pb<X.length/\pe<X.length/\pf<X.length)/\match s with
 | none=>X[pb]?=some (.q [.nilS])/\(∃e,X[pe]?=some (.q [.z e]))/\X[pf]?=some (.q [.f])
 | some x=>(∃i,n0<i/\X[pb]?=some (.q [.sl i 0 x.1.length])/\X[i]?=some (.row 2 false (x.1.map aX)))/\X[pe]?=some (.q [.z x.2])/\X[pf]?=some (.q [.t])
end
section
variable {T:aW} {tv:AV} {rd:List Int} {free:Int} {pb pe pf n0:Nat}
theorem Rep.app {s:Option (List dc × Int)} (h:Rep pb pe pf n0 X s) (W:ac):Rep pb pe pf n0 (X++W) s:=by
 obtain ⟨⟨a1,a2,a3⟩,h⟩:=h
 refine ⟨by simp; omega,?_⟩
 cases s with
 | none=>
  obtain ⟨b1,⟨e,b2⟩,b3⟩:=h
  exact ⟨by rw [da X W _ a1,b1],⟨e,by rw [da X W _ a2,b2]⟩,by rw [da X W _ a3,b3]⟩
 | some x=>
  obtain ⟨⟨i,b0,b1,b2⟩,b3,b4⟩:=h
  exact ⟨⟨i,b0,by rw [da X W _ a1,b1],by rw [da X W _ (Sp.1 b2).1,b2]⟩,by rw [da X W _ a2,b3],by rw [da X W _ a3,b4]⟩
def QT (s:Option (List dc × Int)) (t:Int):Bool:=match s with
 | none=>true
 | some x=>decide (t<x.2)
theorem Rep.bet {s:Option (List dc × Int)} (h:Rep pb pe pf n0 X s) (t:Int):Tr.bet X pe pf t=QT s t:=by
 obtain ⟨_,h⟩:=h
 unfold Tr.bet
 cases s with
 | none=>
  obtain ⟨_,⟨e,b2⟩,b3⟩:=h
  rw [b2,b3]; rfl
 | some x=>
  obtain ⟨_,b3,b4⟩:=h
  rw [b3,b4]; rfl
theorem Rep.step (hne:pb≠pe/\pb≠pf/\pe≠pf) (_hp0:pb<=n0/\pe<=n0/\pf<=n0) (hn:n0<X.length) {s:Option (List dc × Int)} (h:Rep pb pe pf n0 X s) (o:List Int):Rep pb pe pf n0 (HdD T tv rd free pb pe pf X o) (gg T rd free s o):=by
 have hb:=h.bet
 have ha:=h.app (G34 X.length tv T rd free o)
 obtain ⟨⟨a1,a2,a3⟩,_⟩:=id h
 have hset:∀l,dg T rd free o=some l->Rep pb pe pf n0 ((((X++G34 X.length tv T rd free o).set pb (.q [.sl (X.length+(XF X.length tv T rd free o).length+l.length) 0 l.length])).set pe (.q [.z ((gV T rd free l).getD 0)])).set pf (.q [.t])) (some (l,(gV T rd free l).getD 0)):=fun l hl=>by
  have hlen:X.length<=(X++G34 X.length tv T rd free o).length:=by simp
  have hrow:(X++G34 X.length tv T rd free o)[X.length+(XF X.length tv T rd free o).length+l.length]?=some (.row 2 false (l.map aX)):=by
   rw [Ux,bD]
   unfold G34
   rw [hl,bD]
   unfold OA
   rw [SJ (by simp)]
   simp
  refine ⟨by simp only [Ti]; omega,⟨⟨X.length+(XF X.length tv T rd free o).length+l.length,by omega,?_,?_⟩,?_,?_⟩⟩
  ·rw [Sz (TX hne.2.1),Sz (TX hne.1),SG (by omega)]
  ·rw [Sz (by omega),Sz (by omega),Sz (by omega),hrow]
  ·rw [Sz (TX hne.2.2),SG (by simp only [Ti]; omega)]
  ·rw [SG (by simp only [Ti]; omega)]
 unfold HdD gg
 cases ht:dg T rd free o with
 | none=>exact ha
 | some l=>
  simp only [hb]
  cases s with
  | none=>exact hset l ht
  | some x=>
   by_cases hlt:(gV T rd free l).getD 0<x.2
   ·have e:QT (some x) ((gV T rd free l).getD 0)=true:=Su hlt
    rw [SA e]
    simp only
    rw [SA hlt]; exact hset l ht
   ·have e:QT (some x) ((gV T rd free l).getD 0)=false:=Ss hlt
    rw [e,SD (by decide)]
    simp only
    rw [SD hlt]; exact ha
end
end Tr
namespace Tr
open Go
open Cy (GC je aM aV az)
open Clu (aW aT ai chA aY bK bu bP bQ)
theorem jl {id:Nat} {e:AV} (h:A[id]?=some (.q [e])) (hs:a.solid=true) (hc:cellsOf a=[a]):aA 1 A (.p id) a=some (A.set id (.q [a])):=by
 simp only [aA,h,Tp]
 rw [SA ⟨trivial,hs,by rw [hc]; rfl,by omega⟩]
 unfold bL
 rw [SA ⟨rfl,by rw [hc]; rfl⟩]
 rfl
theorem Tl.app {T:aW} {chF:AV} (h:Tl A T chv chF) (W:ac):Tl (A++W) T chv chF:=⟨h.h.app W,fun X=>by rw [SO]; exact h.fz _,h.sF⟩
structure Rl (A:ac) (rd:List Int) (rdv rdF:AV):Prop where
 h:dj A 1 rdv (ak rd)
 fz:∀X,frz (A++X) 4 rdv=rdF
 sF:SlA 1 (ak rd) rdF
theorem Rl.app {rdF:AV} (h:Rl A rd rdv rdF) (W:ac):Rl (A++W) rd rdv rdF:=⟨h.h.app W,fun X=>by rw [SO]; exact h.fz _,h.sF⟩
theorem Rl.of (h:dj A 1 rdv (ak rd)):∃rdF,Rl A rd rdv rdF:=by
 rcases h with h | ⟨id,off,gr,es,rfl,h1,h2⟩
 ·exact ⟨rdv,.inl h,fun X=>h.frz 4,h⟩
 ·refine ⟨.fs 1 (ak rd),.inr ⟨id,off,gr,es,rfl,h1,h2⟩,fun X=>?_,.inr rfl⟩
  have h1':(A++X)[id]?=some (.row 1 gr es):=by rw [da A X id (Sp.1 h1).1,h1]
  exact dB h1' h2 (fun n x hx=>by
   obtain ⟨c,_,rfl⟩:=SU.1 hx
   cases n <;> rfl) 2
theorem vw {l:List dc} (h:A[i]?=some (.row 2 g (l.map aX))):frz A 4 (.sl i 0 l.length)=.fs 2 (l.map aX):=by
 have:=dB (off:=0) (xs:=l.map aX) h (by rw [SL,SX]) (fun n x hx=>by
  obtain ⟨c,_,rfl⟩:=SU.1 hx
  cases n <;> rfl) 2
 rw [SF] at this
 exact this
structure D14 (A:ac) (tv rdv:AV) (free:Int) (Z:ac):Prop where
 pre:∃R,Z=A++R
 r0:Z[A.length]?=some (.row 5 false [tv])
 r1:Z[A.length+1]?=some (.q [rdv])
 r2:Z[A.length+2]?=some (.q [.z free])
section
variable {A Z:ac} {T:aW} {chv chF rdv rdF ov:AV} {rd o:List Int} {free:Int}
theorem D14.app (h:D14 A tv rdv free Z) (W:ac):D14 A tv rdv free (Z++W):=by
 obtain ⟨⟨R,hR⟩,h0,h1,h2⟩:=h
 exact ⟨⟨R++W,by rw [hR,SO]⟩,by rw [da Z W _ (Sp.1 h0).1,h0],by rw [da Z W _ (Sp.1 h1).1,h1],by rw [da Z W _ (Sp.1 h2).1,h2]⟩
theorem D14.set (h:D14 A tv rdv free Z) (hj:A.length+2<j) (e:Ent):D14 A tv rdv free (Z.set j e):=by
 obtain ⟨⟨R,hR⟩,h0,h1,h2⟩:=h
 refine ⟨⟨R.set (j-A.length) e,by rw [hR,SQ _ _ (by omega)]⟩,?_,?_,?_⟩
 ·rw [Sz (by omega)]; exact h0
 ·rw [Sz (by omega)]; exact h1
 ·rw [Sz (by omega)]; exact h2
theorem D14.loads {tv:AV} (h:D14 A (ai T chv) rdv free Z) (hc:(rdv=.nilS\/(∃e l,rdv=.fs e l))\/∃a b c,rdv=.sl a b c):ab true 5 Z (.p A.length)=some (ai T chv)/\ab false 1 Z (.p (A.length+1))=some rdv/\ab false 1 Z (.p (A.length+2))=some (.z free):=by
 refine ⟨?_,?_,?_⟩
 ·simp only [ab,h.r0]; rfl
 ·simp only [ab,h.r1]
  rcases hc with (rfl | ⟨e,l,rfl⟩) | ⟨a,b,c,rfl⟩ <;> rfl
 ·simp only [ab,h.r2]; rfl
end
def yC:List (FuncId × aJ):=[(31,aE 4 M29),(24,aE 4 M30),(35,H34),(14,aE 4 M17),(34,H33),(71,H56)]
theorem qa:∀f M,aD yC f=some M->au prog GC f M:=ag (au.of_pure xT 4) (ag (au.of_pure uI 4) (ag jn (ag (au.of_pure uJ 4) (ag AG (ag J0 aB)))))
section
variable {A Z:ac} {T:aW} {chv chF rdv rdF ov:AV} {rd o:List Int} {free:Int}
theorem Mj (h:bj) (fs:List (FuncId × aJ)) (h34:aD fs 35=some H34) (h17:aD fs 14=some (aE 4 M17)) (hT:Tl A T chv chF) (hr:Rl A rd rdv rdF) (hS:Sit T rd free) (hD:D14 A (ai T chv) rdv free Z) (ho:dj Z 1 ov (ak o)) (hE:Emp (b0 rd) o) {s:Option (List dc × Int)} (hR:Rep (A.length+4) (A.length+5) (A.length+6) n0 Z s)
  (v0 v1 v2 v3 v7 v8 v9 v10 v11 v12 v13 v14 v19 v20 v21 v22 v23 v24 v25 v26 v27 v28 v29 v30 v31 v32 v33 u34 v35 v36:AV) :
  run (dU GC fs h) 300 [.code mH] [v0,v1,v2,v3,.p A.length,.p (A.length+1),.p (A.length+2),v7,v8,v9,v10,v11,v12,v13,v14,.p (A.length+4),.p (A.length+5),.p (A.length+6),ov,v19,v20,v21,v22,v23,v24,v25,v26,v27,v28,v29,v30,v31,v32,v33,u34,v35,v36] Z =
   some (.normal (List.replicate 37 .u) (HdD T (ai T chv) rd free (A.length+4) (A.length+5) (A.length+6) Z o)):=by
 obtain ⟨R,hZ⟩:=hD.pre
 have hTZ:Tl Z T chv chF:=by rw [hZ]; exact hT.app R
 have hrZ:Rl Z rd rdv rdF:=by rw [hZ]; exact hr.app R
 obtain ⟨l4,l5,l6⟩:=hD.loads (tv:=ai T chv) hr.h.form
 have c34:=Nc (free:=free) (fun _ _ _=>none) hTZ hS hrZ.h ho hE
 have c34:∀hh,H34 hh [ai T chv,rdv,.z free,ov] Z=_:=fun _=>c34
 have hD1:=hD.app (G34 Z.length (ai T chv) T rd free o)
 obtain ⟨k4,k5,k6⟩:=hD1.loads (tv:=ai T chv) hr.h.form
 have f4:=hTZ.fz (G34 Z.length (ai T chv) T rd free o)
 have f5:=hrZ.fz (G34 Z.length (ai T chv) T rd free o)
 have hR1:=hR.app (G34 Z.length (ai T chv) T rd free o)
 have hsl:=gY hS
 unfold HdD
 cases ht:dg T rd free o with
 | none=>
  rw [ht] at c34
  simp only [v34] at c34
  generalize Z++G34 Z.length (ai T chv) T rd free o=Z1 at *
  generalize ai T chv=tv at *
  simp [mH,l4,l5,l6,h34,c34,-ab,List.replicate]
 | some l=>
  rw [ht] at c34
  simp only [v34] at c34
  dsimp only
  have hrow:(Z++G34 Z.length (ai T chv) T rd free o)[Z.length+(XF Z.length (ai T chv) T rd free o).length+l.length]?=some (.row 2 false (l.map aX)):=by
   rw [Ux,bD]
   unfold G34
   rw [ht,bD]
   unfold OA
   rw [SJ (by simp)]
   simp
  have fl:=vw hrow
  have hll:l.length<=10:=by
   obtain ⟨X,_,rfl,_⟩:=il hS hE ht
   rw [gy]; exact nE hS hE
  have m17:=zf hTZ.sF (by have:=hS.1.1.2.2.2.1; omega) hr.sF (by omega) free (lv:=.fs 2 (l.map aX)) (l:=l) (.inr rfl) (by omega)
  unfold EW at m17
  have hb:=hR.bet ((gV T rd free l).getD 0)
  generalize Z.length+(XF Z.length (ai T chv) T rd free o).length+l.length=li at *
  generalize hZ1:Z++G34 Z.length (ai T chv) T rd free o=Z1 at *
  generalize (gV T rd free l).getD 0=t at *
  generalize (gV T rd free l).isSome=tb at *
  generalize hgF:(AV.fs 2 (l.map aX))=lF at *
  generalize hgn:l.length=ln at *
  generalize ai T chv=tv at *
  generalize ai T chF=tF at *
  obtain ⟨⟨p1,p2,p3⟩,hR1⟩:=hR1
  cases s with
  | none=>
   obtain ⟨q1,⟨e,q2⟩,q3⟩:=hR1
   have lf:ab false 1 Z1 (.p (A.length+6))=some .f:=by simp only [ab,q3]; rfl
   have s1:=jl q1 (a:=.sl li 0 ln) rfl rfl
   have s2:=jl (A:=Z1.set (A.length+4) (.q [.sl li 0 ln])) (id:=A.length+5) (e:=.z e) (a:=.z t) (by rw [Sz (by omega)]; exact q2) rfl rfl
   have s3:=jl (A:=(Z1.set (A.length+4) (.q [.sl li 0 ln])).set (A.length+5) (.q [.z t])) (id:=A.length+6) (e:=.f) (a:=.t) (by rw [Sz (by omega),Sz (by omega)]; exact q3) rfl rfl
   have hb:bet Z (A.length+5) (A.length+6) t=true:=hb
   simp only [hb,TS]
   generalize ((Z1.set (A.length+4) (.q [.sl li 0 ln])).set (A.length+5) (.q [.z t])).set (A.length+6) (.q [.t])=Z4 at *
   generalize (Z1.set (A.length+4) (.q [.sl li 0 ln])).set (A.length+5) (.q [.z t])=Z3 at *
   generalize Z1.set (A.length+4) (.q [.sl li 0 ln])=Z2 at *
   simp [mH,l4,l5,l6,k4,k5,k6,f4,f5,fl,aM,h34,h17,c34,m17,lf,s1,s2,s3,br,-ab,-aA,-frz,List.replicate]
  | some x=>
   obtain ⟨⟨i,_,q1,_⟩,q2,q3⟩:=hR1
   have lf:ab false 1 Z1 (.p (A.length+6))=some .t:=by simp only [ab,q3]; rfl
   have le:ab false 1 Z1 (.p (A.length+5))=some (.z x.2):=by simp only [ab,q2]; rfl
   have b1:=bP t x.2
   have s1:=jl q1 (a:=.sl li 0 ln) rfl rfl
   have s2:=jl (A:=Z1.set (A.length+4) (.q [.sl li 0 ln])) (id:=A.length+5) (e:=.z x.2) (a:=.z t) (by rw [Sz (by omega)]; exact q2) rfl rfl
   have s3:=jl (A:=(Z1.set (A.length+4) (.q [.sl li 0 ln])).set (A.length+5) (.q [.z t])) (id:=A.length+6) (e:=.t) (a:=.t) (by rw [Sz (by omega),Sz (by omega)]; exact q3) rfl rfl
   have hb:bet Z (A.length+5) (A.length+6) t=decide (t<x.2):=hb
   simp only [hb]
   generalize ((Z1.set (A.length+4) (.q [.sl li 0 ln])).set (A.length+5) (.q [.z t])).set (A.length+6) (.q [.t])=Z4 at *
   generalize (Z1.set (A.length+4) (.q [.sl li 0 ln])).set (A.length+5) (.q [.z t])=Z3 at *
   generalize Z1.set (A.length+4) (.q [.sl li 0 ln])=Z2 at *
   generalize decide (t<x.2)=q at *
   generalize x.2=x2 at *
   cases q with
   | true=>simp [mH,l4,l5,l6,k4,k5,k6,f4,f5,fl,aM,h34,h17,c34,m17,lf,le,b1,s1,s2,s3,br,-ab,-aA,-frz,-af,List.replicate]
   | false=>simp [mH,l4,l5,l6,k4,k5,k6,f4,f5,fl,aM,h34,h17,c34,m17,lf,le,b1,br,-ab,-aA,-frz,-af,List.replicate]
end
end Tr
namespace Tr
open Go
open Cy (GC je aM aV az)
open Clu (aW aT ai chA aY bK bu bP bQ)
theorem tA {E:Env} {fuel l:Nat} {r:Loop} {σ σ1 σ2 σ3 args:List AV} {ps:List Nat} {asg bdy:MC} {h:bj} {A2 A3:ac} (h1:A[n0]?=some (.loop r 0)) (h2:jp σ ps args=some σ1)
  (h3:run E fuel [.code asg] σ1 A=some (.normal σ2 A2)) (h4:A2[n0]?=some (.loop r 0)) (h5:run E fuel [.code bdy] σ2 (A2.set n0 .dead)=some (.normal σ3 A3)) :
  gv n0 l r σ ps (evC E fuel asg) (evC E fuel bdy) h (.func (.yield l) [] []) args A=some (.t,A3.set n0 (.loop r 0)):=by
 unfold gv
 simp only [qU,h1,h2,h3,h4,h5,and_self,TS]
theorem tM (h:A[n]?=some e) (x:Ent):(A.set n x).set n e=A:=by
 rw [UV]
 apply UH
 intro i
 by_cases hi:n=i
 ·subst hi; rw [SG (Sp.1 h).1,h]
 ·rw [Sz hi]
theorem Rep.set {pb pe pf:Nat} {s:Option (List dc × Int)} (h:Rep pb pe pf n0 X s) (h1:j≠pb) (h2:j≠pe) (h3:j≠pf) (hj:j<=n0) (e:Ent):Rep pb pe pf n0 (X.set j e) s:=by
 obtain ⟨⟨a1,a2,a3⟩,h⟩:=h
 refine ⟨by simp; omega,?_⟩
 cases s with
 | none=>
  obtain ⟨b1,⟨x,b2⟩,b3⟩:=h
  exact ⟨by rw [Sz h1,b1],⟨x,by rw [Sz h2,b2]⟩,by rw [Sz h3,b3]⟩
 | some x=>
  obtain ⟨⟨i,b0,b1,b2⟩,b3,b4⟩:=h
  exact ⟨⟨i,b0,by rw [Sz h1,b1],by rw [Sz (by omega),b2]⟩,by rw [Sz h2,b3],by rw [Sz h3,b4]⟩
section
variable {A:ac} {T:aW} {chv chF rdv rdF:AV} {rd:List Int} {free:Int}
def I14 (A:ac) (tv rdv:AV) (free:Int) (r:Loop) (X:ac):Prop:=D14 A tv rdv free X/\X[A.length+8]?=some (.loop r 0)/\∃s,Rep (A.length+4) (A.length+5) (A.length+6) (A.length+8) X s
noncomputable abbrev Hd14 (A:ac) (T:aW) (tv:AV) (rd:List Int) (free:Int):ac->List Int->ac:=HdD T tv rd free (A.length+4) (A.length+5) (A.length+6)
theorem D14.hd (h:D14 A tv rdv free X) (o:List Int):D14 A tv rdv free (Hd14 A T tv rd free X o):=by
 unfold Hd14 HdD
 split
 ·exact h.app _
 ·split
  ·exact (((h.app _).set (by omega) _).set (by omega) _).set (by omega) _
  ·exact h.app _
theorem yl14 (h0:bj) (fs:List (FuncId × aJ)) (h34:aD fs 35=some H34) (h17:aD fs 14=some (aE 4 M17)) (hT:Tl A T chv chF) (hr:Rl A rd rdv rdF) (hS:Sit T rd free) (L:Nat) (r:Loop)
  (v0 v1 v2 v3 v7 v8 v9 v10 v11 v12 v13 v14 v18 v19 v20 v21 v22 v23 v24 v25 v26 v27 v28 v29 v30 v31 v32 v33 u34 v35 v36:AV) :
  Yl (gv (A.length+8) L r [v0,v1,v2,v3,.p A.length,.p (A.length+1),.p (A.length+2),v7,v8,v9,v10,v11,v12,v13,v14,.p (A.length+4),.p (A.length+5),.p (A.length+6),v18,v19,v20,v21,v22,v23,v24,v25,v26,v27,v28,v29,v30,v31,v32,v33,u34,v35,v36] [34] (evC (dU GC fs h0) 300 sJ) (evC (dU GC fs h0) 300 mH) h0)
   (.func (.yield L) [] []) (Hd14 A T (ai T chv) rd free) (I14 A (ai T chv) rdv free r) (Emp (b0 rd)) (A.length+4) (A.length+5) (A.length+6):=by
 refine ⟨⟨L,rfl⟩,fun X o ov hI hE ho=>?_,fun X o hI hE=>?_,fun X W hI=>?_,fun X o=>pJ ..⟩
 ·obtain ⟨hD,hL,s,hR⟩:=hI
  have hll:=(Sp.1 hL).1
  have hbody:=Mj (Z:=X.set (A.length+8) .dead) (ov:=ov) (o:=o) h0 fs h34 h17 hT hr hS (hD.set (by omega) _) (by
    rcases ho with ho | ⟨id,off,gr,es,rfl,h1,h2⟩
    ·exact .inl ho
    ·refine .inr ⟨id,off,gr,es,rfl,?_,h2⟩
     rw [Sz (fun e=>by rw [<-e,hL] at h1; cases h1)]; exact h1) hE (hR.set (by omega) (by omega) (by omega) (SK _) .dead)
   v0 v1 v2 v3 v7 v8 v9 v10 v11 v12 v13 v14 v19 v20 v21 v22 v23 v24 v25 v26 v27 v28 v29 v30 v31 v32 v33 ov v35 v36
  have hset:jp [v0,v1,v2,v3,.p A.length,.p (A.length+1),.p (A.length+2),v7,v8,v9,v10,v11,v12,v13,v14,.p (A.length+4),.p (A.length+5),.p (A.length+6),v18,v19,v20,v21,v22,v23,v24,v25,v26,v27,v28,v29,v30,v31,v32,v33,u34,v35,v36] [34] [ov] =
   some [v0,v1,v2,v3,.p A.length,.p (A.length+1),.p (A.length+2),v7,v8,v9,v10,v11,v12,v13,v14,.p (A.length+4),.p (A.length+5),.p (A.length+6),v18,v19,v20,v21,v22,v23,v24,v25,v26,v27,v28,v29,v30,v31,v32,v33,ov,v35,v36]:=rfl
  have hasg:run (dU GC fs h0) 300 [.code sJ] [v0,v1,v2,v3,.p A.length,.p (A.length+1),.p (A.length+2),v7,v8,v9,v10,v11,v12,v13,v14,.p (A.length+4),.p (A.length+5),.p (A.length+6),v18,v19,v20,v21,v22,v23,v24,v25,v26,v27,v28,v29,v30,v31,v32,v33,ov,v35,v36] X =
   some (.normal [v0,v1,v2,v3,.p A.length,.p (A.length+1),.p (A.length+2),v7,v8,v9,v10,v11,v12,v13,v14,.p (A.length+4),.p (A.length+5),.p (A.length+6),ov,v19,v20,v21,v22,v23,v24,v25,v26,v27,v28,v29,v30,v31,v32,v33,ov,v35,v36] X):=by simp [sJ]
  rw [tA hL hset hasg hL hbody,Dz T _ rd free _ _ _ (by omega) (by omega) (by omega) _ _ (by simpa using hll),tM hL]
 ·obtain ⟨hD,hL,s,hR⟩:=hI
  have hll:=(Sp.1 hL).1
  exact ⟨hD.hd o,by rw [(pJ ..).2 _ hll (by omega) (by omega) (by omega)]; exact hL,_,hR.step (by omega) (by omega) hll o⟩
 ·obtain ⟨hD,hL,s,hR⟩:=hI
  exact ⟨hD.app W,by rw [da X W _ (Sp.1 hL).1]; exact hL,s,hR.app W⟩
def X14 (A:ac) (tv rdv:AV) (free:Int) (b:List Bool):ac:=A++[.row 5 false [tv],.q [rdv],.q [.z free],.q (aS b),.q [.nilS],.q [.z 0],.q [.f],.q [.sl (A.length+3) 0 b.length]]
def E14 (A:ac) (T:aW) (tv rdv:AV) (rd:List Int) (free:Int):ac:=
 F57 (Hd14 A T tv rd free) 10 (b0 rd) [] (X14 A tv rdv free (b0 rd)++[.dead,.dead,.q [eT (A.length+9) (A.length+10)]])
theorem DD (hS:Sit T rd free) (tv:AV):(∃R,E14 A T tv rdv rd free=A++R)/\Rep (A.length+4) (A.length+5) (A.length+6) (A.length+8) (E14 A T tv rdv rd free) (drF T rd free):=by
 have hx:(X14 A tv rdv free (b0 rd)++[Ent.dead,.dead,.q [eT (A.length+9) (A.length+10)]])=A++[.row 5 false [tv],.q [rdv],.q [.z free],.q (aS (b0 rd)),.q [.nilS],.q [.z 0],.q [.f],.q [.sl (A.length+3) 0 (b0 rd).length],.dead,.dead,.q [eT (A.length+9) (A.length+10)]]:=by
  unfold X14; rw [SO]; rfl
 have h0:D14 A tv rdv free (X14 A tv rdv free (b0 rd)++[Ent.dead,.dead,.q [eT (A.length+9) (A.length+10)]])/\Rep (A.length+4) (A.length+5) (A.length+6) (A.length+8) (X14 A tv rdv free (b0 rd)++[Ent.dead,.dead,.q [eT (A.length+9) (A.length+10)]]) none:=by
  rw [hx]
  refine ⟨⟨⟨_,rfl⟩,by simp,by rw [bD]; rfl,by rw [bD]; rfl⟩,⟨by simp,?_⟩⟩
  exact ⟨by rw [bD]; rfl,⟨0,by rw [bD]; rfl⟩,by rw [bD]; rfl⟩
 have hlen:A.length+8<(X14 A tv rdv free (b0 rd)++[Ent.dead,.dead,.q [eT (A.length+9) (A.length+10)]]).length:=by rw [hx]; simp
 have:=xH (S:=Option (List dc × Int)) (Hd:=Hd14 A T tv rd free) (R:=fun X s=>D14 A tv rdv free X/\A.length+8<X.length/\Rep (A.length+4) (A.length+5) (A.length+6) (A.length+8) X s) (st:=gg T rd free) (E:=fun _=>True)
  (fun X W s h=>⟨h.1.app W,by simp; omega,h.2.2.app W⟩) (fun X s o _ h=>⟨h.1.hd o,TU h.2.1 (DA T tv rd free (A.length+4) (A.length+5) (A.length+6) X o),h.2.2.step (by omega) (by omega) h.2.1 o⟩)
  10 (b0 rd) [] _ none (wd (gY hS).2) (fun _ _=>trivial) ⟨h0.1,hlen,h0.2⟩
 have e:((gZ 10 (b0 rd)).map (([]:List Int) ++ ·))=gZ 10 (b0 rd):=by simp
 rw [e] at this
 exact ⟨this.1.pre,this.2.2⟩
theorem H0 (fs:List (FuncId × aJ)) (h34:aD fs 35=some H34) (h17:aD fs 14=some (aE 4 M17)) (h56:aD fs 71=some H56) (hT:Tl A T chv chF) (hr:Rl A rd rdv rdF) (hS:Sit T rd free)
  (v0 v1 v2 v3 v7 v8 v9 v10 v11 v12 v13 v14 v18 v19 v20 v21 v22 v23 v24 v25 v26 v27 v28 v29 v30 v31 v32 u34 v35 v36:AV) (K:List KC) :
  run (aq GC fs) 300 (.code (.rangeFunc (.var 33) [34] sJ mH) :: K) [v0,v1,v2,v3,.p A.length,.p (A.length+1),.p (A.length+2),v7,v8,v9,v10,v11,v12,v13,v14,.p (A.length+4),.p (A.length+5),.p (A.length+6),v18,v19,v20,v21,v22,v23,v24,v25,v26,v27,v28,v29,v30,v31,v32,.func (.func 71) [] [.p (A.length+7)],u34,v35,v36] (X14 A (ai T chv) rdv free (b0 rd)) =
   after (aq GC fs) 300 K (.normal [v0,v1,v2,v3,.p A.length,.p (A.length+1),.p (A.length+2),v7,v8,v9,v10,v11,v12,v13,v14,.p (A.length+4),.p (A.length+5),.p (A.length+6),v18,v19,v20,v21,v22,v23,v24,v25,v26,v27,v28,v29,v30,v31,v32,.func (.func 71) [] [.p (A.length+7)],u34,v35,v36] (E14 A T (ai T chv) rdv rd free)):=by
 refine lT _ _ _ _ _ fun L r=>?_
 have hl8:(X14 A (ai T chv) rdv free (b0 rd)).length=A.length+8:=by simp [X14]
 obtain ⟨X0,hX0⟩:∃X0,X0=X14 A (ai T chv) rdv free (b0 rd)++[Ent.loop r 0]:=⟨_,rfl⟩
 have hX0':X0=A++[.row 5 false [ai T chv],.q [rdv],.q [.z free],.q (aS (b0 rd)),.q [.nilS],.q [.z 0],.q [.f],.q [.sl (A.length+3) 0 (b0 rd).length],.loop r 0]:=by
  rw [hX0]; unfold X14; rw [SO]; rfl
 have hX0l:X0.length=A.length+9:=by rw [hX0']; simp
 have hA56:A56 X0 (.func (.yield L) [] [])=A++[.row 5 false [ai T chv],.q [rdv],.q [.z free],.q (aS (b0 rd)),.q [.nilS],.q [.z 0],.q [.f],.q [.sl (A.length+3) 0 (b0 rd).length],.loop r 0,.q [.func (.yield L) [] []],.q [eT (A.length+9) (A.length+10)]]:=by
  unfold A56; rw [hX0l,hX0',SO]; rfl
 have hy:=yl14 (fun _ _ _=>none) fs h34 h17 hT hr hS L r v0 v1 v2 v3 v7 v8 v9 v10 v11 v12 v13 v14 v18 v19 v20 v21 v22 v23 v24 v25 v26 v27 v28 v29 v30 v31 v32 (.func (.func 71) [] [.p (A.length+7)]) u34 v35 v36
 have hI:I14 A (ai T chv) rdv free r (A56 X0 (.func (.yield L) [] [])):=by
  rw [hA56]
  refine ⟨⟨⟨_,rfl⟩,by simp,by rw [bD]; rfl,by rw [bD]; rfl⟩,by rw [bD]; rfl,none,⟨by simp,?_⟩⟩
  exact ⟨by rw [bD]; rfl,⟨0,by rw [bD]; rfl⟩,by rw [bD]; rfl⟩
 have hc:=M9 (A:=X0) (b:=b0 rd) (bi:=A.length+3) (ip:=A.length+7) hy (by omega) hI (by rw [hX0',bD]; rfl) (by omega) (by rw [hX0',bD]; rfl) (by rw [eO]; exact (gY hS).2) (fun _ h=>h)
 have hs:=fun (j:Nat) (e:Ent) (h1:j≠A.length+4) (h2:j≠A.length+5) (h3:j≠A.length+6)=>DC (Hd:=Hd14 A T (ai T chv) rd free) (j:=j) (e:=e) (fun X o=>DA ..) (fun X o hj=>Dz T _ rd free _ _ _ h1 h2 h3 X o hj) 10 (b0 rd) []
 have hAl:(A56 X0 (.func (.yield L) [] [])).length=A.length+11:=by rw [hA56]; simp
 obtain ⟨k1,k2⟩:=hs (A.length+9) .dead (by omega) (by omega) (by omega) (A56 X0 (.func (.yield L) [] [])) (by omega)
 rw [hX0l,k2] at hc
 have hkeep:=uw (Hd:=Hd14 A T (ai T chv) rd free) (pb:=A.length+4) (pe:=A.length+5) (pf:=A.length+6) (fun X o=>pJ ..) 10 (b0 rd) [] ((A56 X0 (.func (.yield L) [] [])).set (A.length+9) .dead)
 have hloop:(F57 (Hd14 A T (ai T chv) rd free) 10 (b0 rd) [] ((A56 X0 (.func (.yield L) [] [])).set (A.length+9) .dead))[A.length+8]?=some (.loop r 0):=by
  rw [hkeep.2 (A.length+8) (by simp; omega) (by omega) (by omega) (by omega),Sz (by omega),hA56,bD]; rfl
 obtain ⟨_,k4⟩:=hs (A.length+8) .dead (by omega) (by omega) (by omega) ((A56 X0 (.func (.yield L) [] [])).set (A.length+9) .dead) (by simp; omega)
 have hend:(F57 (Hd14 A T (ai T chv) rd free) 10 (b0 rd) [] ((A56 X0 (.func (.yield L) [] [])).set (A.length+9) .dead)).set (A.length+8) .dead=E14 A T (ai T chv) rdv rd free:=by
  rw [k4]
  unfold E14
  congr 1
  rw [hA56,SQ _ _ (by omega),SQ _ _ (by omega),Tm,Tm]
  unfold X14
  rw [SO]
  rfl
 rw [<-hX0,hl8]
 have hcall:lz fs (gv (A.length+8) L r [v0,v1,v2,v3,.p A.length,.p (A.length+1),.p (A.length+2),v7,v8,v9,v10,v11,v12,v13,v14,.p (A.length+4),.p (A.length+5),.p (A.length+6),v18,v19,v20,v21,v22,v23,v24,v25,v26,v27,v28,v29,v30,v31,v32,.func (.func 71) [] [.p (A.length+7)],u34,v35,v36] [34] (evC (dU GC fs fun _ _ _=>none) 300 sJ) (evC (dU GC fs fun _ _ _=>none) 300 mH) fun _ _ _=>none)
   (.func (.func 71) [] [.p (A.length+7)]) [.func (.yield L) [] []] X0=some (.tup [],F57 (Hd14 A T (ai T chv) rd free) 10 (b0 rd) [] ((A56 X0 (.func (.yield L) [] [])).set (A.length+9) .dead)):=by
  rw [<-hc]
  simp [lz,h56]
 show (match lz fs _ (.func (.func 71) [] [.p (A.length+7)]) [.func (.yield L) [] []] X0 with
  | some (_,A')=>nj (A.length+8) _ A'
  | none=>none)=_
 erw [hcall]
 simp only [nj,hloop,TS,hend]
end
end Tr
namespace Tr
open Go
open Cy (GC)
theorem vZ {w:World} {b o T:Nat} {c:Array Value} {fz:Nat × Nat} (P:Program) (hh:w.heap[b]?=some (.cells c T fz)) (hu:fG c fz) (vs:List Value) (hl:o+vs.length<=c.size) (h1:∀v∈vs,v.oneCell'=true):w.setCells b o vs=w.setRow b (splice c o vs):=by
 have a:=cn P b o T fz vs 0 c w hh hu (by omega) h1
 have e:=run_storeCells_cells (P:=P) b o vs 0 w (fun j hj=>by
  rw [jJ hh,S0 (by omega)]; rfl) (fun j hj=>by
  have:=hu (o+0+j) (by omega)
  unfold World.frozen?
  rw [hh]
  exact this) h1
 rw [a] at e
 injection e with e1 e2
 rw [Ts] at e2
 exact e2.symm
theorem Ki:(prog.info? 68).map (·.size)=some 2:=by kernel_rfl
theorem NX:(prog.info? 3).map (·.size)=some 1:=by kernel_rfl
theorem Fq:prog.follows .mixedOrders=true:=by kernel_rfl
theorem JH (b ao n cap i j:Nat) (w:World) (ad:Addr) (news:List Value) (hij:i<j) (hjn:j<=n) (hn:n<=cap)
  (had:(if cap=j then some (⟨b,ao,none⟩:Addr) else some ⟨b,ao+j*2,none⟩)=some ad)
  (s1:news.length=(n-j)*2) (s0:∀t u,news[t]?=some u->w.drew.cell? (ad.add t)=some u) (s2:∀u∈news,u.oneCell'=true)
  (s3:∀t,t<news.length->(w.drew.cell? ⟨b,ao+i*2+t,none⟩).isSome=true/\w.drew.frozen? ⟨b,ao+i*2+t,none⟩=false) (W1 W2:World) (hW:W1=w.drew.setCells b (ao+i*2) news)
  (hcl:∀ty,(Builtin.clear_ #[30] ty #[.slice (some ⟨b,ao+(i+(n-j))*2,none⟩) (n-(i+(n-j))) (cap-(i+(n-j)))]).run prog W1=.ok (.tuple #[]) W2) :
  Calls prog 68 #[.slice (some ⟨b,ao,none⟩) n cap,.int .i64 i,.int .i64 j] w fun e w'=>e=.returned (.slice (some ⟨b,ao,none⟩) (i+(n-j)) cap)/\w'=W2:=by
 have mixed:=Fq
 obtain ⟨i0,hi,hz1⟩:∃i0,prog.info? 68=some i0/\i0.size=2:=by
  have h:=Ki
  cases e:prog.info? 68 with
  | none=>rw [e] at h; cases h
  | some i0=>rw [e] at h; injection h with h; exact ⟨i0,rfl,h⟩
 have hic:i<=cap:=by omega
 have hjc:j<=cap:=by omega
 have hW':RowKit.Hid (W1=w.drew.setCells b (ao+i*2) news):=hW
 clear hW
 go_enter Tryz.func68,Tryz.ntmps68
 go_wp2_with fail
 go_region_law_o (refine step_append_room rfl (.tmp 22) (.tmp 25) 30 rfl 68 i0 2 Tryz.underlying30 hi hz1 b ao i cap (by simp [Act.eval,Act.put]) ad (n-j) (cap-j) news (by simp [Act.eval,Act.put]) s1 s0 s2 (by omega) s3 ?_; rw [<-hW'.out])
 go_wp2
 go_ret
 exact ⟨rfl,rfl⟩
theorem JG (b ao n cap i j:Nat) (w:World) (ad:Addr) (news:List Value) (hij:i<j) (hjn:j<=n) (hn:n<=cap)
  (had:(if cap=j then some (⟨b,ao,none⟩:Addr) else some ⟨b,ao+j,none⟩)=some ad)
  (s1:news.length=(n-j)*1) (s0:∀t u,news[t]?=some u->w.drew.cell? (ad.add t)=some u) (s2:∀u∈news,u.oneCell'=true)
  (s3:∀t,t<news.length->(w.drew.cell? ⟨b,ao+i*1+t,none⟩).isSome=true/\w.drew.frozen? ⟨b,ao+i*1+t,none⟩=false) (W1 W2:World) (hW:W1=w.drew.setCells b (ao+i*1) news)
  (hcl:∀ty,(Builtin.clear_ #[24] ty #[.slice (some ⟨b,ao+(i+(n-j)),none⟩) (n-(i+(n-j))) (cap-(i+(n-j)))]).run prog W1=.ok (.tuple #[]) W2) :
  Calls prog 70 #[.slice (some ⟨b,ao,none⟩) n cap,.int .i64 i,.int .i64 j] w fun e w'=>e=.returned (.slice (some ⟨b,ao,none⟩) (i+(n-j)) cap)/\w'=W2:=by
 have mixed:=Fq
 obtain ⟨i0,hi,hz1⟩:∃i0,prog.info? 3=some i0/\i0.size=1:=by
  have h:=NX
  cases e:prog.info? 3 with
  | none=>rw [e] at h; cases h
  | some i0=>rw [e] at h; injection h with h; exact ⟨i0,rfl,h⟩
 have hic:i<=cap:=by omega
 have hjc:j<=cap:=by omega
 have hW':RowKit.Hid (W1=w.drew.setCells b (ao+i*1) news):=hW
 clear hW
 go_enter Tryz.func70,Tryz.ntmps70
 go_wp2_with fail
 go_region_law_o (refine step_append_room rfl (.tmp 22) (.tmp 25) 24 rfl 3 i0 1 Tryz.underlying24 hi hz1 b ao i cap (by simp [Act.eval,Act.put]) ad (n-j) (cap-j) news (by simp [Act.eval,Act.put]) s1 s0 s2 (by omega) s3 ?_; rw [<-hW'.out])
 go_wp2
 go_ret
 exact ⟨rfl,rfl⟩
end Tr
namespace Tr
open Go
open Cy (GC)
def rR (es:List AV) (i:Nat) (za:AV):List AV:=es.take i++es.drop (i+1)++[za]
theorem pF (h:i<es.length) (za:AV):(rR es i za).length=es.length:=by simp [rR]; omega
theorem EQ (h:i<es.length) (za:AV) (k:Nat) (hk:k<(rR es i za).length):(rR es i za)[k]=if h1:k<i then es[k] else if h2:k+1<es.length then es[k+1] else za:=by
 have hl:=pF h za
 have e:(rR es i za)[k]?=some (if h1:k<i then es[k] else if h2:k+1<es.length then es[k+1] else za):=by
  unfold rR
  by_cases h1:k<i
  ·rw [Vz h1,SO,Sy (by simp; omega),UC,SA h1,Sq (by omega)]
  ·rw [dif_neg h1]
   by_cases h2:k+1<es.length
   ·rw [Vz h2,SO,SJ (by simp; omega),Sy (by simp; omega),TW]
    simp only [TM]
    rw [show i+1+(k-min i es.length)=k+1 by omega,Sq h2]
   ·rw [dif_neg h2,SJ (by simp; omega)]
    have:k-(es.take i++es.drop (i+1)).length=0:=by simp; omega
    rw [this]; rfl
 rw [Sq hk] at e
 injection e
def jh (c:Array Value) (o sz n i:Nat):List Value:=(c.toList.drop (o+(i+1)*sz)).take ((n-(i+1))*sz)
def c1C (c:Array Value) (o sz n i:Nat):Array Value:=splice c (o+i*sz) (jh c o sz n i)
def c2C (c:Array Value) (o sz n i:Nat) (zs:List Value):Array Value:=splice (c1C c o sz n i) (o+(n-1)*sz) zs
section
variable {c:Array Value} {o sz n i:Nat} {zs:List Value}
theorem lZ (hi:i<n) (hl:o+n*sz<=c.size):(jh c o sz n i).length=(n-(i+1))*sz:=by
 unfold jh
 rw [TM,List.length_drop,Tc]
 have:n*sz=(i+1)*sz+(n-(i+1))*sz:=by rw [<-SP]; congr 1; omega
 omega
theorem l7 (q:Nat) (hq:q<(n-(i+1))*sz):(jh c o sz n i)[q]?=c[o+(i+1)*sz+q]?:=by
 unfold jh
 rw [UC,SA hq,TW,Array.getElem?_toList]
theorem jx (hi:i<n):n*sz=i*sz+sz+(n-(i+1))*sz/\(i+1)*sz=i*sz+sz/\(n-1)*sz=i*sz+(n-(i+1))*sz:=by
 refine ⟨?_,by rw [SP,US],?_⟩
 ·have:n=i+1+(n-(i+1)):=by omega
  conv=>lhs; rw [this,SP,SP,US]
 ·rw [<-SP]; congr 1; omega
theorem pG (hi:i<n) (hl:o+n*sz<=c.size):(c1C c o sz n i).size=c.size/\o+i*sz+(jh c o sz n i).length<=c.size:=by
 have h:=lZ hi hl
 obtain ⟨m1,m2,m3⟩:=jx (sz:=sz) hi
 have:o+i*sz+(jh c o sz n i).length<=c.size:=by rw [h]; omega
 exact ⟨cE _ _ _ this,this⟩
theorem ui (hi:i<n) (hl:o+n*sz<=c.size) (hz:zs.length=sz):(c2C c o sz n i zs).size=c.size/\o+(n-1)*sz+zs.length<=(c1C c o sz n i).size:=by
 obtain ⟨h1,h2⟩:=pG hi hl
 obtain ⟨m1,m2,m3⟩:=jx (sz:=sz) hi
 have:o+(n-1)*sz+zs.length<=(c1C c o sz n i).size:=by rw [h1,hz]; omega
 exact ⟨by unfold c2C; rw [cE _ _ _ this,h1],this⟩
end
section
variable {w:World} {OK:Nat->Prop} {g:aC} {A:ac}
theorem Cd (hA:cM w OK g A) {id sz:Nat} (hid:A[id]?=some (.row sz false es)) {inc:Inc} (hinc:inc∈g id) {i:Nat} (hi:i<es.length) (hpos:0<sz) {zv:Value} {za:AV} (hz:∀(w:World) (OK:Nat->Prop) (g:aC),a9 w OK g zv za) (hzc:zv.cells.size=sz) (hzo:cY zv) :
  inc.esz=sz/\inc.n=es.length/\∃c T fz,w.heap[inc.b]?=some (.cells c T fz)/\fG c fz/\inc.o+es.length*sz<=c.size/\(∀u∈jh c inc.o sz es.length i,u.oneCell'=true) /\
   cM ((w.setRow inc.b (c1C c inc.o sz es.length i)).setRow inc.b (c2C c inc.o sz es.length i zv.cells.toList)) OK g (A.set id (.row sz false (rR es i za))) /\
   Ext w OK g ((w.setRow inc.b (c1C c inc.o sz es.length i)).setRow inc.b (c2C c inc.o sz es.length i zv.cells.toList)) OK g:=by
 obtain ⟨hlt',hrow⟩:=Sp.1 hid
 have hdead:A[id]?≠some Ent.dead:=by rw [hid]; simp
 have hent:=hA.ent id hlt'
 rw [hrow] at hent
 obtain ⟨h0,hinv⟩:=hent
 obtain ⟨hone,hnn⟩:=h0 rfl
 obtain ⟨hesz,hne,hnc,c,T,fz,hh,hu,hcs,hel⟩:=hinv inc hinc
 have hnn':=hnn inc hinc
 have hle:inc.o+es.length*sz<=c.size:=by
  have:es.length*sz<=inc.cap*sz:=ST _ (by omega)
  omega
 have hzl:zv.cells.toList.length=sz:=by rw [Tc,hzc]
 obtain ⟨k1,k2⟩:=pG (c:=c) (o:=inc.o) (sz:=sz) hi hle
 obtain ⟨k3,k4⟩:=ui (c:=c) (o:=inc.o) (sz:=sz) (zs:=zv.cells.toList) hi hle hzl
 obtain ⟨m1,m2,m3⟩:=jx (n:=es.length) (sz:=sz) hi
 have hnl:=lZ (c:=c) (o:=inc.o) (sz:=sz) hi hle
 have hxe:∀x∈g id,x=inc:=fun x hx=>by
  match hgi:g id,hone,hx,hinc with
  | [],_,hx,_=>cases hx
  | [y],_,hx,hinc=>simp at hx hinc; rw [hx,hinc]
  | _ :: _ :: _,ho,_,_=>simp at ho
 have hnews:∀u∈jh c inc.o sz es.length i,u.oneCell'=true:=by
  intro u hu'
  obtain ⟨q,hq,rfl⟩:=Tb.1 hu'
  have hq':q<(es.length-(i+1))*sz:=by rw [<-hnl]; exact hq
  have e:=l7 (c:=c) (o:=inc.o) (sz:=sz) (n:=es.length) (i:=i) q hq'
  rw [Sq hq] at e
  have hdm:q / sz*sz+q % sz=q:=by rw [Vk]; exact Nat.div_add_mod q sz
  have hr:=Nat.mod_lt q hpos
  have hqd:q / sz<es.length-(i+1):=(Nat.div_lt_iff_lt_mul hpos).2 hq'
  obtain ⟨v,_,v2,v3,v4⟩:=hel (i+1+q / sz) (by omega) (by omega)
  have v4:=v4 (q % sz) hr
  have e2:inc.o+(i+1+q / sz)*sz+q % sz=inc.o+(i+1)*sz+q:=by rw [SP]; omega
  rw [e2,<-e] at v4
  have hlt:q % sz<v.cells.size:=by omega
  rw [S0 hlt] at v4
  injection v4 with v4
  rw [v4]
  exact v3 _ (by simp)
 have hhr:∀b,b≠inc.b->((w.setRow inc.b (c1C c inc.o sz es.length i)).setRow inc.b (c2C c inc.o sz es.length i zv.cells.toList)).heap[b]?=w.heap[b]?:=fun b hb=>by rw [setRow_other _ inc.b b _ hb,setRow_other w inc.b b _ hb]
 have hrow2:((w.setRow inc.b (c1C c inc.o sz es.length i)).setRow inc.b (c2C c inc.o sz es.length i zv.cells.toList)).heap[inc.b]?=some (.cells (c2C c inc.o sz es.length i zv.cells.toList) T fz):=setRow_heap _ inc.b _ _ T fz (setRow_heap w inc.b c _ T fz hh)
 refine ⟨hesz,hnn',c,T,fz,hh,hu,hle,hnews,?_⟩
 refine hA.turn (w':=(w.setRow inc.b (c1C c inc.o sz es.length i)).setRow inc.b (c2C c inc.o sz es.length i zv.cells.toList)) (g':=g) id hlt' hdead inc hinc (by simp) rfl rfl rfl hhr (fun r hr _=>by rw [hh] at hr; cases hr) g.le_refl (fun _ _=>rfl) (fun i hi=>⟨i,hi,rfl⟩)
  (fun i i' hi hi' e=>(hA.one id id i i' hdead hdead hi hi' e).2) (.row sz false (rR es i za)) (fun hokb=>?_) (fun _=>rfl)
 refine ⟨fun _=>⟨hone,fun x hx=>by rw [pF hi]; exact hnn x hx⟩,fun x hx=>?_⟩
 obtain rfl:=hxe x hx
 refine ⟨hesz,by rw [pF hi]; exact hne,hnc,_,T,fz,hrow2,?_,by rw [k3]; exact hcs,fun k hk hkn=>?_⟩
 ·exact ce (ce hu _ _ k2) _ _ k4
 have hk':k<es.length:=by rw [pF hi] at hk; exact hk
 rw [EQ hi za k hk]
 by_cases c1:k<i
 ·rw [Vz c1]
  have hks:(k+1)*sz<=i*sz:=ST _ c1
  rw [SP,US] at hks
  refine cI.mono (cI.splice_out (cI.splice_out (hel k hk' (by omega)) k2 (.inl (by omega))) k4 (.inl (by omega))) (fun _ h=>h) hokb g.le_refl
 ·rw [dif_neg c1]
  by_cases c2:k+1<es.length
  ·rw [Vz c2]
   obtain ⟨v,v1,v2,v3,v4⟩:=hel (k+1) c2 (by omega)
   refine ⟨v,v1.mono (fun _ h=>h) hokb g g.le_refl,v2,v3,fun q hq=>?_⟩
   have e1:(k+1)*sz=k*sz+sz:=by rw [SP,US]
   have e2:k*sz=i*sz+(k-i)*sz:=by rw [<-SP]; congr 1; omega
   have e3:(k+1)*sz<=(es.length-1)*sz:=ST _ (by omega)
   unfold c2C
   rw [splice_out _ _ _ k4 _ (.inl (by omega))]
   have hqn:(k-i)*sz+q<(jh c x.o sz es.length i).length:=by omega
   have e5:x.o+k*sz+q=x.o+i*sz+((k-i)*sz+q):=by omega
   unfold c1C
   rw [e5,dw _ _ _ k2 _ hqn,l7 _ (by omega)]
   have v4:=v4 q hq
   rw [show x.o+(i+1)*sz+((k-i)*sz+q)=x.o+(k+1)*sz+q by omega]
   exact v4
  ·rw [dif_neg c2]
   refine ⟨zv,hz _ _ _,hzc,hzo,fun q hq=>?_⟩
   unfold c2C
   have:k=es.length-1:=by omega
   subst this
   rw [dw _ _ _ k4 q (by omega)]
   simp
end
end Tr
namespace Tr
open Go
open Cy (GC aM aV az)
open Clu (aW aT ai chA aY bK bu)
theorem ss {P:Program} {w w':World} {t e ty:TypeId} {i:TypeInfo} {z:Value} (ht:P.underlying t=some (.slice e)) (hi:P.info? e=some i) (hz:i.zero=some z) {b o len cap:Nat} (hl:0<len) (hst:(storeCells ⟨b,o,none⟩ (Builtin.zeroCells z.cells len).toList).run P w=.ok () w') :
  (Builtin.clear_ #[t] ty #[.slice (some ⟨b,o,none⟩) len cap]).run P w=.ok (.tuple #[]) w':=by
 obtain ⟨m,rfl⟩:∃m,len=m+1:=⟨len-1,by omega⟩
 simp only [Builtin.clear_,Sem.run_bind,ay ht,Result.andThen_ok,T9,Tp]
 rw [cz hi hz]
 simp only [Result.andThen_ok,hst]
 rfl
theorem lN (z:Array Value):(Builtin.zeroCells z 1).toList=z.toList:=by
 apply TB
 ·simp [Builtin.zeroCells]
 ·intro i h1 h2
  have:i<z.size:=by simpa using h2
  simp [Builtin.zeroCells,Nat.mod_eq_of_lt this]
  exact getElem!_pos z i this
def DE:AV:=.agg [.z 0,.z 0]
theorem JE:((prog.info? 68).bind fun i=>i.zero.map fun z=>(ofValue z,z.cells.size,i.size))=some (some DE,2,2):=by kernel_rfl
def H53:aJ:=fun _ args A=>match args with
 | [.sl id 0 n,.int .i64 i,.int .i64 j]=>match A[id]? with
  | some (.row 2 false es)=>if n=es.length/\0<=i/\j=i+1/\j<=n then some (.sl id 0 (n-1),A.set id (.row 2 false (rR es i.toNat DE))) else none
  | _=>none
 | _=>none
theorem J4:au prog GC 68 H53:=by
 have hen:au prog GC 68 (fun h=>bZ (dU GC [] h) 0 RT):=cw aB (by kernel_rfl) LW bO.nil
 refine ⟨hen.1,fun ys h hs args A r A' he w OK g vs hA hI hl=>?_⟩
 unfold H53 at he
 split at he
 ·rename_i id n i j
  split at he
  ·rename_i es hid
   simp only [Sw,Sx,SH] at he
   obtain ⟨⟨hn,hi0,hj,hjn⟩,rfl,rfl⟩:=he
   subst hn hj
   match vs,hl with
   | [v1,v2,v3],hl=>
    obtain ⟨h1,h2,h3,_⟩:=hl
    obtain rfl:=h2.inv_int
    obtain rfl:=h3.inv_int
    obtain ⟨inc,cap,ao,hinc,rfl,hl',hn,hcap,ha⟩:=h1.inv_sl
    obtain ⟨k,rfl⟩:∃k:Nat,i=(k:Int):=⟨i.toNat,by omega⟩
    have hk:k<es.length:=by omega
    obtain ⟨i0,z,hi,hz,hza,hzc,hisz⟩:∃i0 z,prog.info? 68=some i0/\i0.zero=some z/\ofValue z=some DE/\z.cells.size=2/\i0.size=2:=by
     have h:=JE
     cases e:prog.info? 68 with
     | none=>rw [e] at h; cases h
     | some i0=>
      rw [e] at h
      cases e2:i0.zero with
      | none=>rw [Te,e2] at h; cases h
      | some z=>
       rw [Te,e2] at h
       injection h with h
       injection h with h1 h2
       injection h2 with h2 h3
       exact ⟨i0,z,rfl,e2,h1,h2,h3⟩
    have hzr:∀(w:World) (OK:Nat->Prop) (g:aC),a9 w OK g z DE:=fun w OK g=>eI hza
    obtain ⟨_,hok,_⟩:=(hzr w OK g).cells (show DE.solid=true from rfl)
    have hAd:cM w.drew OK g A:=hA.drew (w.drawn+1)
    obtain ⟨hesz,hnn,c,T,fz,hh,hu,hle,hnews,hR,hE⟩:=Cd hAd hid hinc hk (by omega) hzr hzc hok
    have hao:ao=inc.o:=by
     have:=ha (by omega)
     omega
    subst hao
    obtain ⟨m1,m2,m3⟩:=jx (n:=es.length) (sz:=2) hk
    have hnl:=lZ (c:=c) (o:=inc.o) (sz:=2) hk hle
    obtain ⟨k1,k2⟩:=pG (c:=c) (o:=inc.o) (sz:=2) hk hle
    have hzl:z.cells.toList.length=2:=by rw [Tc,hzc]
    obtain ⟨k3,k4⟩:=ui (c:=c) (o:=inc.o) (sz:=2) (zs:=z.cells.toList) hk hle hzl
    have hW:=vZ prog hh hu (jh c inc.o 2 es.length k) k2 hnews
    have hh1:=setRow_heap w.drew inc.b c (c1C c inc.o 2 es.length k) T fz hh
    have hu1:fG (c1C c inc.o 2 es.length k) fz:=ce hu _ _ k2
    obtain ⟨ad,had⟩:∃ad,(if cap=k+1 then some (⟨inc.b,inc.o,none⟩:Addr) else some ⟨inc.b,inc.o+(k+1)*2,none⟩)=some ad:=by
     split
     ·exact ⟨_,rfl⟩
     ·exact ⟨_,rfl⟩
    have s0:∀t u,(jh c inc.o 2 es.length k)[t]?=some u->w.drew.cell? (ad.add t)=some u:=by
     intro t u htu
     have ht:=(Sp.1 htu).1
     rw [l7 _ (by omega)] at htu
     split at had
     ·exfalso
      have h0:es.length-(k+1)=0:=by omega
      rw [hnl,h0,UU] at ht
      exact absurd ht (Uv _)
     ·have had':=Ud had
      rw [<-had',di,jJ hh,<-htu]
      skip
    have s3:∀t,t<(jh c inc.o 2 es.length k).length->(w.drew.cell? ⟨inc.b,inc.o+k*2+t,none⟩).isSome=true/\w.drew.frozen? ⟨inc.b,inc.o+k*2+t,none⟩=false:=by
     intro t ht
     refine ⟨?_,?_⟩
     ·rw [jJ hh,S0 (by omega)]; rfl
     ·have:=hu (inc.o+k*2+t) (by omega)
      unfold World.frozen?
      rw [hh]
      exact this
    have hst:=cn prog inc.b (inc.o+(es.length-1)*2) T fz z.cells.toList 0 _ _ hh1 hu1 (by omega) hok
    have hlast:k+(es.length-(k+1))=es.length-1:=by omega
    have hcl:∀ty,(Builtin.clear_ #[30] ty #[.slice (some ⟨inc.b,inc.o+(k+(es.length-(k+1)))*2,none⟩) (es.length-(k+(es.length-(k+1)))) (cap-(k+(es.length-(k+1))))]).run prog (w.drew.setRow inc.b (c1C c inc.o 2 es.length k))=.ok (.tuple #[]) ((w.drew.setRow inc.b (c1C c inc.o 2 es.length k)).setRow inc.b (c2C c inc.o 2 es.length k z.cells.toList)):=fun ty=>by
     rw [hlast,show es.length-(es.length-1)=1 by omega]
     refine ss Tryz.underlying30 hi hz (by omega) ?_
     rw [lN]
     skip
     rw [hst]
     unfold c2C
     rfl
    refine (JH inc.b inc.o es.length cap k (k+1) w ad (jh c inc.o 2 es.length k) (by omega) (by omega) (by omega) had (by omega) s0 hnews s3 _ _ hW.symm hcl).mono ?_
    rintro e w' ⟨rfl,rfl⟩
    refine ⟨_,OK,g,rfl,?_,hR,(Ext.drew w OK g (w.drawn+1)).trans hE⟩
    rw [hlast]
    exact .sl _ id 0 (es.length-1) cap inc.o inc hinc (by omega) (by omega) hcap (fun h=>by simp)
  ·cases he
 ·cases he
def DR:AV:=.z 0
theorem JD:((prog.info? 3).bind fun i=>i.zero.map fun z=>(ofValue z,z.cells.size,i.size))=some (some DR,1,1):=by kernel_rfl
def H55:aJ:=fun _ args A=>match args with
 | [.sl id 0 n,.int .i64 i,.int .i64 j]=>match A[id]? with
  | some (.row 1 false es)=>if n=es.length/\0<=i/\j=i+1/\j<=n then some (.sl id 0 (n-1),A.set id (.q (rR es i.toNat DR))) else none
  | _=>none
 | _=>none
theorem J2:au prog GC 70 H55:=by
 have hen:au prog GC 70 (fun h=>bZ (dU GC [] h) 0 RS):=cw aB (by kernel_rfl) LU bO.nil
 refine ⟨hen.1,fun ys h hs args A r A' he w OK g vs hA hI hl=>?_⟩
 unfold H55 at he
 split at he
 ·rename_i id n i j
  split at he
  ·rename_i es hid
   simp only [Sw,Sx,SH] at he
   obtain ⟨⟨hn,hi0,hj,hjn⟩,rfl,rfl⟩:=he
   subst hn hj
   match vs,hl with
   | [v1,v2,v3],hl=>
    obtain ⟨h1,h2,h3,_⟩:=hl
    obtain rfl:=h2.inv_int
    obtain rfl:=h3.inv_int
    obtain ⟨inc,cap,ao,hinc,rfl,hl',hn,hcap,ha⟩:=h1.inv_sl
    obtain ⟨k,rfl⟩:∃k:Nat,i=(k:Int):=⟨i.toNat,by omega⟩
    have hk:k<es.length:=by omega
    obtain ⟨i0,z,hi,hz,hza,hzc,hisz⟩:∃i0 z,prog.info? 3=some i0/\i0.zero=some z/\ofValue z=some DR/\z.cells.size=1/\i0.size=1:=by
     have h:=JD
     cases e:prog.info? 3 with
     | none=>rw [e] at h; cases h
     | some i0=>
      rw [e] at h
      cases e2:i0.zero with
      | none=>rw [Te,e2] at h; cases h
      | some z=>
       rw [Te,e2] at h
       injection h with h
       injection h with h1 h2
       injection h2 with h2 h3
       exact ⟨i0,z,rfl,e2,h1,h2,h3⟩
    have hzr:∀(w:World) (OK:Nat->Prop) (g:aC),a9 w OK g z DR:=fun w OK g=>eI hza
    obtain ⟨_,hok,_⟩:=(hzr w OK g).cells (show DR.solid=true from rfl)
    have hAd:cM w.drew OK g A:=hA.drew (w.drawn+1)
    obtain ⟨hesz,hnn,c,T,fz,hh,hu,hle,hnews,hR,hE⟩:=Cd hAd hid hinc hk (by omega) hzr hzc hok
    have hao:ao=inc.o:=by
     have:=ha (by omega)
     omega
    subst hao
    obtain ⟨m1,m2,m3⟩:=jx (n:=es.length) (sz:=1) hk
    have hnl:=lZ (c:=c) (o:=inc.o) (sz:=1) hk hle
    obtain ⟨k1,k2⟩:=pG (c:=c) (o:=inc.o) (sz:=1) hk hle
    have hzl:z.cells.toList.length=1:=by rw [Tc,hzc]
    obtain ⟨k3,k4⟩:=ui (c:=c) (o:=inc.o) (sz:=1) (zs:=z.cells.toList) hk hle hzl
    have hW:=vZ prog hh hu (jh c inc.o 1 es.length k) k2 hnews
    have hh1:=setRow_heap w.drew inc.b c (c1C c inc.o 1 es.length k) T fz hh
    have hu1:fG (c1C c inc.o 1 es.length k) fz:=ce hu _ _ k2
    obtain ⟨ad,had⟩:∃ad,(if cap=k+1 then some (⟨inc.b,inc.o,none⟩:Addr) else some ⟨inc.b,inc.o+(k+1),none⟩)=some ad:=by
     split
     ·exact ⟨_,rfl⟩
     ·exact ⟨_,rfl⟩
    have s0:∀t u,(jh c inc.o 1 es.length k)[t]?=some u->w.drew.cell? (ad.add t)=some u:=by
     intro t u htu
     have ht:=(Sp.1 htu).1
     rw [l7 _ (by omega)] at htu
     split at had
     ·exfalso
      have h0:es.length-(k+1)=0:=by omega
      rw [hnl,h0,UU] at ht
      exact absurd ht (Uv _)
     ·have had':=Ud had
      rw [<-had',di,jJ hh,<-htu]
      rw [show inc.o+(k+1)+t=inc.o+(k+1)*1+t by omega]
    have s3:∀t,t<(jh c inc.o 1 es.length k).length->(w.drew.cell? ⟨inc.b,inc.o+k*1+t,none⟩).isSome=true/\w.drew.frozen? ⟨inc.b,inc.o+k*1+t,none⟩=false:=by
     intro t ht
     refine ⟨?_,?_⟩
     ·rw [jJ hh,S0 (by omega)]; rfl
     ·have:=hu (inc.o+k*1+t) (by omega)
      unfold World.frozen?
      rw [hh]
      exact this
    have hst:=cn prog inc.b (inc.o+(es.length-1)*1) T fz z.cells.toList 0 _ _ hh1 hu1 (by omega) hok
    have hlast:k+(es.length-(k+1))=es.length-1:=by omega
    have hcl:∀ty,(Builtin.clear_ #[24] ty #[.slice (some ⟨inc.b,inc.o+(k+(es.length-(k+1))),none⟩) (es.length-(k+(es.length-(k+1)))) (cap-(k+(es.length-(k+1))))]).run prog (w.drew.setRow inc.b (c1C c inc.o 1 es.length k))=.ok (.tuple #[]) ((w.drew.setRow inc.b (c1C c inc.o 1 es.length k)).setRow inc.b (c2C c inc.o 1 es.length k z.cells.toList)):=fun ty=>by
     rw [hlast,show es.length-(es.length-1)=1 by omega]
     refine ss Tryz.underlying24 hi hz (by omega) ?_
     rw [lN]
     rw [Nat.mul_one] at hst
     rw [hst]
     unfold c2C
     rw [Nat.mul_one]; rfl
    refine (JG inc.b inc.o es.length cap k (k+1) w ad (jh c inc.o 1 es.length k) (by omega) (by omega) (by omega) had (by omega) s0 hnews s3 _ _ hW.symm hcl).mono ?_
    rintro e w' ⟨rfl,rfl⟩
    refine ⟨_,OK,g,rfl,?_,hR,(Ext.drew w OK g (w.drawn+1)).trans hE⟩
    rw [hlast]
    exact .sl _ id 0 (es.length-1) cap inc.o inc hinc (by omega) (by omega) hcap (fun h=>by simp)
  ·cases he
 ·cases he
end Tr
namespace Tr
open Go
open Cy (GC aM aV az)
open Clu (aW aT ai chA aY bK bu)
def H54:aJ:=fun _=>bZ (aq GC []) 0 Np
theorem J3:au prog GC 69 H54:=(cj (ax aB) rfl (by kernel_rfl) LV bO.nil).y
theorem Na (h:bj) (ha:dj A 2 a es) (hne:es≠[]) (hl:es.length<=1000):H54 h [a] A=some (.sl (A.length+1) 0 es.length,A++[.dead,.row 2 false es]):=by
 unfold H54
 rw [bo _ _ rfl]
 have hb:es.length*16<=140737488355328:=by omega
 rcases ha with h | ⟨id,off,gr,rs,rfl,h1,h2⟩
 ·rcases h with ⟨_,h⟩ | rfl
  ·exact absurd h hne
  ·simp [Np,dI,aL,a8,hb]
 ·have hid:=(Sp.1 h1).1
  have h1':∀T,(A++T)[id]?=some (.row 2 gr rs):=fun T=>by rw [Sy hid,h1]
  simp [Np,dI,aL,a8,h1',h2,hb]
def Pj:List (FuncId × aJ):=[(69,H54),(68,H53)]
@[simp] theorem Ph:aD Pj 69=some H54:=rfl
@[simp] theorem Pi:aD Pj 68=some H53:=rfl
def H31:aJ:=fun _=>bZ (aq GC Pj) 0 Er
theorem AH:au prog GC 32 H31:=(cj (ax (ag J3 (ag J4 aB))) rfl (by kernel_rfl) Cp bO.nil).y
theorem Ng (h:bj) (ha:dj A 2 a es) (hl:es.length<=1000) (hk:k<es.length):H31 h [a,.z (k:Int)] A=some (.sl (A.length+1) 0 (es.length-1),A++[.dead,.row 2 false (rR es k DE)]):=by
 have hne:es≠[]:=fun e=>by rw [e] at hk; exact absurd hk (Uv _)
 have c54:=fun hh=>Na hh ha hne hl
 have b1:af .add (.z (k:Int)) (.z 1)=some (.z ((k:Int)+1)):=aY (by omega)
 have c53:∀hh,H53 hh [.sl (A.length+1) 0 es.length,.z (k:Int),.z ((k:Int)+1)] (A++[.dead,.row 2 false es])=some (.sl (A.length+1) 0 (es.length-1),A++[.dead,.row 2 false (rR es k DE)]):=fun hh=>by
  have:(A++[Ent.dead,.row 2 false es])[A.length+1]?=some (.row 2 false es):=by rw [bD]; rfl
  simp only [H53,this]
  rw [SA ⟨trivial,by omega,trivial,by omega⟩,SM,SQ _ _ (by omega),Tm]
  rfl
 generalize A++[Ent.dead,.row 2 false es]=A1 at *
 generalize (k:Int)+1=K1 at *
 unfold H31
 rw [bo _ _ rfl]
 simp [Er,c54,c53,b1,-af]
def Pg:List (FuncId × aJ):=[(36,H40),(70,H55)]
@[simp] theorem Pf:aD Pg 36=some H40:=rfl
@[simp] theorem Pe:aD Pg 70=some H55:=rfl
def H32:aJ:=fun _=>bZ (aq GC Pg) 0 Jp
theorem sh:au prog GC 33 H32:=(cj (ax (ag p8 (ag J2 aB))) rfl (by kernel_rfl) Co bO.nil).y
theorem Nf (h:bj) (ha:dj A 1 a (ak xs)) (hl:xs.length<=1000) (hk:k<xs.length):H32 h [a,.z (k:Int)] A=some (.sl (A.length+1) 0 (xs.length-1),A++[.dead,.q (rR (ak xs) k DR)]):=by
 have hne:xs≠[]:=fun e=>by rw [e] at hk; exact absurd hk (Uv _)
 have c40:=fun hh=>GK hh ha hne hl
 have b1:af .add (.z (k:Int)) (.z 1)=some (.z ((k:Int)+1)):=aY (by omega)
 have c55:∀hh,H55 hh [.sl (A.length+1) 0 xs.length,.z (k:Int),.z ((k:Int)+1)] (A++[.dead,.q (ak xs)])=some (.sl (A.length+1) 0 (xs.length-1),A++[.dead,.q (rR (ak xs) k DR)]):=fun hh=>by
  have:(A++[Ent.dead,.q (ak xs)])[A.length+1]?=some (.q (ak xs)):=by rw [bD]; rfl
  simp only [H55,this]
  rw [SA ⟨by rw [az],by omega,trivial,by omega⟩,SM,SQ _ _ (by omega),Tm]
  rfl
 generalize A++[Ent.dead,.q (ak xs)]=A1 at *
 generalize (k:Int)+1=K1 at *
 unfold H32
 rw [bo _ _ rfl]
 simp [Jp,c40,c55,b1,-af]
def sZ {α:Type} (l:List α) (k:Nat):List α:=l.take k++l.drop (k+1)
theorem ne {α:Type} {l:List α} (h:k<l.length):(sZ l k).length=l.length-1:=by simp [sZ]; omega
theorem vJ {id sz:Nat} {za:AV} (h:A[id]?=some (.row sz false (rR es k za))) (hk:k<es.length):dj A sz (.sl id 0 (es.length-1)) (sZ es k):=by
 refine .inr ⟨id,0,false,_,by rw [ne hk],h,?_⟩
 rw [SL,ne hk]
 unfold rR sZ
 rw [List.take_append_of_le_length (by simp; omega)]
 exact SR (by simp; omega)
theorem Cf {α β:Type} (f:α->β) (l:List α) (k:Nat):sZ (l.map f) k=(sZ l k).map f:=by simp [sZ]
def uB (T:aW) (k:Nat):aW:={T with ch:=sZ T.ch k}
end Tr
namespace Tr
open Go
open Cy (GC je aM aV az)
open Clu (aW aT ai chA aY bK bu bP bQ)
def jC:List (FuncId × aJ):=(32,H31) :: (33,H32) :: yC
theorem tJ:∀f M,aD jC f=some M->au prog GC f M:=ag AH (ag sh qa)
def H14:Nat->aJ
 | 0=>fun h=>bZ (dU GC jC h) 300 oh
 | k+1=>fun h=>bZ (dU GC ((13,H14 k) :: jC) h) 300 oh
theorem n9:∀k,au prog GC 13 (H14 k)
 | 0=>cw tJ Gw oJ bO.nil
 | k+1=>cw (ag (n9 k) tJ) Gw oJ bO.nil
section
variable {A:ac} {T:aW} {chv chF rdv rdF:AV} {rd:List Int} {free:Int}
def bB (rd:List Int) (i:Nat):List Bool:=(b0 rd).take i++List.replicate (rd.length-i) false
theorem Gt (rd:List Int) (h:i<=rd.length):(bB rd i).length=rd.length:=by simp [bB,eO]; omega
theorem Mm (rd:List Int) (h:i<rd.length):(bB rd i).set i (decide (0<=rd.getD i 0))=bB rd (i+1):=by
 apply UH
 intro j
 have hb:(b0 rd)[i]?=some (decide (0<=rd.getD i 0)):=by
  have h1:=Gu h
  rw [Sr,Sq (by rw [eO]; exact h)] at h1
  rw [Sq (by rw [eO]; exact h)]
  simpa using h1
 by_cases hj:i=j
 ·subst hj
  rw [SG (by rw [Gt rd (by omega)]; exact h)]
  unfold bB
  rw [Sy (by simp [eO]; omega),UC,SA (by omega),hb]
 ·rw [Sz hj]
  unfold bB
  by_cases h2:j<i
  ·rw [Sy (by simp [eO]; omega),Sy (by simp [eO]; omega),UC,UC,SA h2,SA (by omega)]
  ·rw [SJ (by simp [eO]; omega),SJ (by simp [eO]; omega)]
   simp only [TM,eO,TL]
   by_cases h3:j<rd.length
   ·rw [SA (by omega),SA (by omega)]
   ·rw [SD (by omega),SD (by omega)]
def Z14 (A:ac) (tv rdv:AV) (free:Int) (b:List Bool):ac:=A++[.row 5 false [tv],.q [rdv],.q [.z free],.q (aS b)]
theorem Iw (h:bj) (fs:List (FuncId × aJ)) (hr:dj A 1 rdv (ak rd)) (hrl:rd.length<=100):∀(c i m:Nat),i+c=rd.length->c<m ->
  bG (evC (dU GC fs h) 300 ou) kc m (p5 (.p A.length) (.p (A.length+1)) (.p (A.length+2)) (.sl (A.length+3) 0 rd.length) rdv (.z (rd.length:Int)) (.z (i:Int))) (Z14 A tv rdv free (bB rd i)) =
   some (.exit 2 ((p5 (.p A.length) (.p (A.length+1)) (.p (A.length+2)) (.sl (A.length+3) 0 rd.length) rdv (.z (rd.length:Int)) (.z (rd.length:Int))).set 32 .f) (Z14 A tv rdv free (bB rd rd.length))):=by
 intro c
 induction c with
 | zero=>
  intro i m hi hm
  obtain ⟨m,rfl⟩:∃j,m=j+1:=⟨m-1,by omega⟩
  obtain rfl:i=rd.length:=by omega
  have b0':=be rd.length rd.length .i64
  rw [Ss (by omega)] at b0'
  rw [aG,CX]
  simp [ou,b0',-af]
 | succ c ih=>
  intro i m hi hm
  obtain ⟨m,rfl⟩:∃j,m=j+1:=⟨m-1,by omega⟩
  have hil:i<rd.length:=by omega
  have b0':=be i rd.length .i64
  rw [Su hil] at b0'
  have b1:=aP i (by omega)
  obtain ⟨p,h1,h2⟩:=hr.int (B:=Z14 A tv rdv free (bB rd i)) (da A _) hil .i64
  have hrd:rd[i]=rd.getD i 0:=by rw [Sr,Sq hil]; rfl
  rw [hrd] at h2
  have b2:=je (rd.getD i 0)
  have hrow:(Z14 A tv rdv free (bB rd i))[A.length+3]?=some (.q (aS (bB rd i))):=by unfold Z14; rw [bD]; rfl
  have i1:=cG (n:=rd.length) hrow hil .i64
  have s1:=kR hrow (show i<(bB rd i).length by rw [Gt rd (by omega)]; exact hil) (decide (0<=rd.getD i 0))
  rw [Mm rd hil] at s1
  have eS:(Z14 A tv rdv free (bB rd i)).set (A.length+3) (.q (aS (bB rd (i+1))))=Z14 A tv rdv free (bB rd (i+1)):=by
   unfold Z14
   rw [SQ _ _ (by omega),Tm]; rfl
  rw [eS] at s1
  have hr':=ih (i+1) m (by omega) (by omega)
  obtain ⟨i1',hi1'⟩:∃i1:Nat,i1=i+1:=⟨_,rfl⟩
  rw [<-hi1'] at b1 s1 hr'
  have hrun:run (dU GC fs h) 300 [.code ou] (p5 (.p A.length) (.p (A.length+1)) (.p (A.length+2)) (.sl (A.length+3) 0 rd.length) rdv (.z (rd.length:Int)) (.z (i:Int))) (Z14 A tv rdv free (bB rd i)) =
    some (.normal (p5 (.p A.length) (.p (A.length+1)) (.p (A.length+2)) (.sl (A.length+3) 0 rd.length) rdv (.z (rd.length:Int)) (.z (i1':Int))) (Z14 A tv rdv free (bB rd i1'))):=by
   generalize Z14 A tv rdv free (bB rd i)=B0 at *
   generalize Z14 A tv rdv free (bB rd i1')=B1 at *
   generalize decide (0<=rd.getD i 0)=q at *
   generalize rd.getD i 0=z at *
   simp [ou,b0',b1,b2,h1,h2,i1,s1,-af,-ab,-ae,-aA]
  rw [aG,CX,hrun]
  exact hr'
theorem tL (h:X[n]?=some e):X.set n e=X:=by
 apply UH
 intro q
 by_cases hq:n=q
 ·subst hq; rw [SG (Sp.1 h).1,h]
 ·rw [Sz hq]
def RV (lo:Nat) (B:ac) (v:AV) (l:List dc):Prop:=(v=.nilS/\l=[])\/∃i,lo<=i/\v=.sl i 0 l.length/\B[i]?=some (.row 2 false (l.map aX))
theorem sX (fs:List (FuncId × aJ)) (h29:aD fs 31=some (aE 4 M29)) (h30:aD fs 24=some (aE 4 M30)) (h34:aD fs 35=some H34) (h17:aD fs 14=some (aE 4 M17)) (h33:aD fs 34=some H33) (h56:aD fs 71=some H56) (hT:Tl A T chv chF) (hr:Rl A rd rdv rdF) (hTl:T.ch.length<=200) (hrl:rd.length<=200) :
  ∃v B,bZ (aq GC fs) 300 oh [ai T chv,rdv,.z free,.z 0] A=some (.tup [v,.bool (cK T rd free).isSome],B)/\(∃R,B=A++R)/\RV A.length B v ((cK T rd free).getD []):=by
 have m29:=wm hT.sF hTl hr.sF hrl free
 obtain ⟨tv,htv⟩:∃tv,tv=ai T chv:=⟨_,rfl⟩
 obtain ⟨R0,hR0⟩:∃R0,R0=[Ent.row 5 false [tv],.q [rdv],.q [.z free]]:=⟨_,rfl⟩
 have hsol:rdv.solid=true/\cellsOf rdv=[rdv]:=by rcases hr.h.form with (e | ⟨e,l,e'⟩) | ⟨a,b,c,e⟩ <;> simp_all [AV.solid,cellsOf]
 have bx1:aR 5 tv A=some (.p A.length,A++[.row 5 false [tv]]):=by rw [htv]; rfl
 have bx2:aR 1 rdv (A++[.row 5 false [tv]])=some (.p (A.length+1),A++[.row 5 false [tv],.q [rdv]]):=by
  unfold aR
  rw [SA ⟨by omega,hsol.1,by rw [hsol.2]; rfl⟩]
  simp
 have bx3:aR 1 (.z free) (A++[.row 5 false [tv],.q [rdv]])=some (.p (A.length+2),A++R0):=by rw [hR0]; simp [aR,AV.solid,cellsOf]
 have ct:(cellsOf tv).length=5:=by rw [htv]; rfl
 have ci:(cellsOf (.z free)).length=1:=rfl
 have hD:D14 A tv rdv free (A++R0):=by
  rw [hR0]
  exact ⟨⟨_,rfl⟩,by simp,by rw [bD]; rfl,by rw [bD]; rfl⟩
 obtain ⟨l4,l5,l6⟩:=(htv ▸ hD:D14 A (ai T chv) rdv free (A++R0)).loads (tv:=tv) hr.h.form
 have f4:=hT.fz R0
 have f5:=hr.fz R0
 have lnr:=hr.h.len
 rw [az] at lnr
 have m30:M30 [.z 0,.z 0,.z (rd.length:Int)]=some .t:=by
  rw [cq,cP.2 (by omega)]
 have b1:=bQ 0 0
 rw [Ss (by omega)] at b1
 rw [<-htv] at l4 f4
 by_cases hS:Sit T rd free
 rotate_left
 ·rw [Ss hS] at m29
  have hd:cK T rd free=none:=SD hS
  refine ⟨.nilS,A++R0,?_,⟨R0,rfl⟩,.inl ⟨rfl,by rw [hd]; rfl⟩⟩
  rw [hd,<-htv]
  generalize A++R0=Z at *
  rw [bo _ _ rfl]
  simp [oh,bx1,bx2,bx3,ct,ci,hsol.2,l4,l5,l6,h29,f4,f5,aM,m29,br,dI,-aR,-ab,-frz,-cellsOf]
 rw [Su hS] at m29
 have hsl:=gY hS
 have hd:(cK T rd free).isSome=(drF T rd free).isSome/\(cK T rd free).getD []=((drF T rd free).map (·.1)).getD []:=by
  unfold cK
  rw [SA hS]
  cases drF T rd free <;> exact ⟨rfl,rfl⟩
 obtain ⟨hE1,hE2⟩:=DD (A:=A) (rdv:=rdv) hS tv
 have mk:bY 1 1 .f (A++R0) (.z (rd.length:Int)) (.z (rd.length:Int))=some (.sl (A.length+3) 0 rd.length,Z14 A tv rdv free (bB rd 0)):=by
  have hl3:(A++R0).length=A.length+3:=by rw [hR0]; simp
  simp only [bY]
  have eZ:A++R0++[Ent.q (List.replicate rd.length .f)]=Z14 A tv rdv free (bB rd 0):=by
   unfold Z14 bB aS
   rw [hR0]
   simp
  rw [SA ⟨by omega,by omega,by omega,by omega,rfl,rfl,by omega⟩,hl3,SM,eZ]
 have lpb:=Iw (tv:=tv) (free:=free) (fun _ _ _=>none) fs hr.h (by omega) rd.length 0 300 (by omega) (by omega)
 have lpb:bG (evC (aq GC fs) 300 ou) kc 300 (p5 (.p A.length) (.p (A.length+1)) (.p (A.length+2)) (.sl (A.length+3) 0 rd.length) rdv (.z (rd.length:Int)) (.z 0)) (Z14 A tv rdv free (bB rd 0))=_:=lpb
 have hbB:bB rd rd.length=b0 rd:=by
  unfold bB
  rw [Uq,List.replicate_zero,S5]
  exact SR (by rw [eO]; exact SK _)
 rw [hbB] at lpb
 have hDZ:∀W,D14 A tv rdv free (Z14 A tv rdv free (bB rd 0)++W):=fun W=>by
  unfold Z14
  rw [SO]
  exact ⟨⟨_,rfl⟩,by simp,by rw [bD]; rfl,by rw [bD]; rfl⟩
 obtain ⟨_,l5b,_⟩:=(htv ▸ (by simpa using hDZ []):D14 A (ai T chv) rdv free (Z14 A tv rdv free (bB rd 0))).loads (tv:=tv) hr.h.form
 obtain ⟨ZA,hZA⟩:∃ZA,ZA=Z14 A tv rdv free (b0 rd):=⟨_,rfl⟩
 have hZAl:ZA.length=A.length+4:=by rw [hZA]; simp [Z14]
 have e15:aR 1 .nilS ZA=some (.p (A.length+4),ZA++[.q [.nilS]]):=by simp [aR,AV.solid,cellsOf,hZAl]
 have e16:aR 1 (.z 0) (ZA++[.q [.nilS]])=some (.p (A.length+5),ZA++[.q [.nilS],.q [.z 0]]):=by simp [aR,AV.solid,cellsOf,hZAl]
 have e17:aR 1 .f (ZA++[.q [.nilS],.q [.z 0]])=some (.p (A.length+6),ZA++[.q [.nilS],.q [.z 0],.q [.f]]):=by simp [aR,AV.solid,cellsOf,hZAl]
 obtain ⟨ZB,hZB⟩:∃ZB,ZB=ZA++[Ent.q [.nilS],.q [.z 0],.q [.f]]:=⟨_,rfl⟩
 have g5:ZB[A.length+5]?=some (.q [.z 0]):=by rw [hZB,show A.length+5=ZA.length+1 by omega,bD]; rfl
 have g6:ZB[A.length+6]?=some (.q [.f]):=by rw [hZB,show A.length+6=ZA.length+2 by omega,bD]; rfl
 have s16:aA 1 ZB (.p (A.length+5)) (.z 0)=some ZB:=by
  rw [jl g5 rfl rfl,tL g5]
 have s17:aA 1 ZB (.p (A.length+6)) .f=some ZB:=by
  rw [jl g6 rfl rfl,tL g6]
 have c33:∀hh,H33 hh [.sl (A.length+3) 0 rd.length] ZB=some (.func (.func 71) [] [.p (A.length+7)],X14 A tv rdv free (b0 rd)):=fun hh=>by
  have hl7:ZB.length=A.length+7:=by rw [hZB]; simp [hZAl]
  have eX:ZB++[Ent.q [.sl (A.length+3) 0 rd.length]]=X14 A tv rdv free (b0 rd):=by
   rw [hZB,hZA]
   unfold X14 Z14
   rw [eO]
   simp
  rw [Nd,hl7,eX]
 have rg:=fun K=>H0 (A:=A) (T:=T) (chv:=chv) (rdv:=rdv) (free:=free) fs h34 h17 h56 hT hr hS .u .u .u .u .u .u .u .u .u (.sl (A.length+3) 0 rd.length) .u .u .u .u .u .u .u .u .u .u .u .u .u .u .u .u .u .u .u .u K
 rw [hd.1,hd.2]
 obtain ⟨EE,hEE⟩:∃EE,EE=E14 A T tv rdv rd free:=⟨_,rfl⟩
 rw [<-hEE] at hE1 hE2
 rw [<-htv,<-hEE] at rg
 have fin:∀(v:AV) (q:Bool),ab false 1 EE (.p (A.length+4))=some v->ab false 1 EE (.p (A.length+6))=some (.bool q) ->
   bZ (aq GC fs) 300 oh [ai T chv,rdv,.z free,.z 0] A=some (.tup [v,.bool q],EE):=fun v q hv hq=>by
  rw [<-htv]
  rw [hZB] at s16 s17 c33
  generalize hXX:X14 A tv rdv free (b0 rd)=XX at *
  generalize ZA++[Ent.q [.nilS],.q [.z 0],.q [.f]]=ZB1 at *
  generalize ZA++[Ent.q [.nilS],.q [.z 0]]=ZB2 at *
  generalize ZA++[Ent.q [.nilS]]=ZB3 at *
  rw [<-hZA] at lpb
  generalize Z14 A tv rdv free (bB rd 0)=Z0 at *
  generalize A++R0=Z at *
  generalize hn:(rd.length:Int)=n at *
  rw [bo _ _ rfl]
  simp [oh,bx1,bx2,bx3,ct,ci,hsol.2,l4,l5,l6,h29,h30,f4,f5,aM,m29,m30,br,lnr,b1,mk,l5b,Ln lpb,e15,e16,e17,s16,s17,h33,c33,rg,hv,hq,dI,-aR,-ab,-aA,-frz,-cellsOf,-af,-bY,-aj,-cq]
 cases hdF:drF T rd free with
 | none=>
  rw [hdF] at hE2
  obtain ⟨_,q1,_,q3⟩:=hE2
  refine ⟨.nilS,EE,fin _ _ (by simp only [ab,q1]; rfl) (by simp only [ab,q3]; rfl),hE1,.inl ⟨rfl,rfl⟩⟩
 | some x=>
  rw [hdF] at hE2
  obtain ⟨_,⟨i,hi,q1,q2⟩,_,q3⟩:=hE2
  refine ⟨.sl i 0 x.1.length,EE,fin _ _ (by simp only [ab,q1]; rfl) (by simp only [ab,q3]; rfl),hE1,.inr ⟨i,by omega,rfl,q2⟩⟩
end
end Tr
namespace Tr
open Go
open Cy (GC je aM aV az)
open Clu (aW aT ai chA aY bK bu bP bQ)
def oY (lost:Int) (t:dc):dc:=if lost<=t.1 then (t.1+1,t.2) else t
def kq (lost:Int) (l:List dc) (j:Nat):List dc:=(l.take j).map (oY lost)++l.drop j
theorem C4 (lost:Int) (l:List dc) (j:Nat):(kq lost l j).length=l.length:=by simp [kq]; omega
theorem C5 (lost:Int) {l:List dc} (h:j<l.length):(kq lost l j)[j]?=some l[j]:=by
 unfold kq
 rw [SJ (by simp; omega),TW]
 simp only [SF,TM]
 rw [show j+(j-min j l.length)=j by omega,Sq h]
theorem C3 (lost:Int) {l:List dc} (h:j<l.length):(kq lost l j).set j (oY lost l[j])=kq lost l (j+1):=by
 unfold kq
 rw [SQ _ _ (by simp; omega),List.take_add_one,TD,Sq h,SO]
 congr 1
 simp only [SF,TM]
 rw [show j-min j l.length=0 by omega,To h]
 rfl
section
variable {B:ac} {i:Nat} {l:List dc} {lost:Int}
theorem IE (h:B[i]?=some (.row 2 false (l.map aX))) (hj:j<n) (kk:IntKind):ae 2 B (.sl i 0 n) (.int kk (j:Int))=some (.ptr i j 0):=by
 simp only [ae,h]
 rw [SA ⟨trivial,by omega,by omega,by omega⟩]
 simp
theorem IC (h:B[i]?=some (.row 2 false (l.map aX))) {t:dc} (hj:l[j]?=some t):aa 0 B (.ptr i j 0)=some (.ptr i j 0)/\ab false 1 B (.ptr i j 0)=some (.z t.1):=by
 have e:(l.map aX)[j]?=some (aX t):=by simp [hj]
 refine ⟨by simp [aa,h],?_⟩
 simp only [ab,h,e]
 rfl
theorem G1 (h:B[i]?=some (.row 2 false (l.map aX))) {t:dc} (hj:l[j]?=some t) (z:Int):aA 1 B (.ptr i j 0) (.z z)=some (B.set i (.row 2 false ((l.set j (z,t.2)).map aX))):=by
 have e:(l.map aX)[j]?=some (aX t):=by simp [hj]
 have e2:(l.map aX).set j (aX (z,t.2))=(l.set j (z,t.2)).map aX:=by rw [Va]
 simp only [aA,h,e]
 rw [SA ⟨trivial,rfl,rfl,by omega⟩,<-e2]
 rfl
theorem Ix (h:bj) (fs:List (FuncId × aJ)) (ok:AV) (hl:l.length<=100) (hb:∀t∈l,-1000<=t.1/\t.1<=1000):∀(c j m:Nat) (B:ac),j+c=l.length->B[i]?=some (.row 2 false ((kq lost l j).map aX))->c<m ->
  ∃B',bG (evC (dU GC fs h) 300 kL) ke m (n7 (.z lost) (.sl i 0 l.length) ok (.z (l.length:Int)) (.z (j:Int))) B =
   some (.exit 0 ((n7 (.z lost) (.sl i 0 l.length) ok (.z (l.length:Int)) (.z (l.length:Int))).set 27 .f) B')/\B'=B.set i (.row 2 false ((l.map (oY lost)).map aX)):=by
 intro c
 induction c with
 | zero=>
  intro j m B hj hB hm
  obtain ⟨m,rfl⟩:∃j,m=j+1:=⟨m-1,by omega⟩
  obtain rfl:j=l.length:=by omega
  have b0':=be l.length l.length .i64
  rw [Ss (by omega)] at b0'
  have e:kq lost l l.length=l.map (oY lost):=by unfold kq; rw [SX,TN,S5]
  rw [e] at hB
  refine ⟨B,?_,(tL hB).symm⟩
  rw [aG,yQ]
  simp [kL,b0',-af]
 | succ c ih=>
  intro j m B hj hB hm
  obtain ⟨m,rfl⟩:∃j,m=j+1:=⟨m-1,by omega⟩
  have hjl:j<l.length:=by omega
  have hil:=(Sp.1 hB).1
  have b0':=be j l.length .i64
  rw [Su hjl] at b0'
  have b1:=aP j (by omega)
  have i1:=IE (n:=l.length) hB hjl .i64
  have hg:=C5 lost hjl
  obtain ⟨f0,l0⟩:=IC hB hg
  have s1:=G1 hB hg (l[j].1+1)
  have hbj:=hb _ (SC hjl)
  have b2:af .geq (.z l[j].1) (.z lost)=some (.bool (decide (lost<=l[j].1))):=by simp [af]
  have b3:af .add (.z l[j].1) (.z 1)=some (.z (l[j].1+1)):=aY (by omega)
  have hset:=C3 lost hjl
  obtain ⟨B1,hrun,hB1,hBB⟩:∃B1,run (dU GC fs h) 300 [.code kL] (n7 (.z lost) (.sl i 0 l.length) ok (.z (l.length:Int)) (.z (j:Int))) B =
    some (.normal (n7 (.z lost) (.sl i 0 l.length) ok (.z (l.length:Int)) (.z ((j+1:Nat):Int))) B1)/\B1[i]?=some (.row 2 false ((kq lost l (j+1)).map aX))/\∀e,B1.set i e=B.set i e:=by
   obtain ⟨i1',hi1'⟩:∃i1:Nat,i1=j+1:=⟨_,rfl⟩
   rw [<-hi1'] at b1 ⊢
   unfold oY at hset
   by_cases hlo:lost<=l[j].1
   ·rw [SA hlo,<-hi1'] at hset
    rw [Su hlo] at b2
    rw [hset] at s1
    refine ⟨_,?_,SG hil,fun e=>UV ..⟩
    generalize B.set i (.row 2 false ((kq lost l i1').map aX))=B1 at *
    generalize l[j].1+1=z1 at *
    generalize l[j].1=z0 at *
    generalize (l.length:Int)=M at *
    generalize (i1':Int)=I1 at *
    generalize (j:Int)=J at *
    simp [kL,b0',b1,b2,b3,i1,f0,l0,s1,-af,-ab,-aa,-ae,-aA]
   ·rw [SD hlo,<-hi1'] at hset
    rw [Ss hlo] at b2
    refine ⟨B,?_,?_,fun e=>rfl⟩
    ·generalize l[j].1=z0 at *
     generalize (l.length:Int)=M at *
     generalize (i1':Int)=I1 at *
     generalize (j:Int)=J at *
     simp [kL,b0',b1,b2,i1,f0,l0,-af,-ab,-aa,-ae,-aA]
    ·have:(kq lost l j).set j l[j]=kq lost l j:=by
      apply UH
      intro q
      by_cases hq:j=q
      ·subst hq; rw [SG (by rw [C4]; exact hjl),hg]
      ·rw [Sz hq]
     rw [<-hset,this]; exact hB
  obtain ⟨B',h1,h2⟩:=ih (j+1) m B1 (by omega) hB1 (by omega)
  refine ⟨B',?_,by rw [h2,hBB]⟩
  rw [aG,yQ,hrun]
  exact h1
end
def dO (T:aW) (rd:List Int) (free lost:Int):Option (List dc):=
 if Sit T rd free/\0<=lost/\lost<=rd.length then
  (if lost=0 then cK T rd free else if T.ch.length=1 then some [] else (cK (uB T (lost-1).toNat) (sZ rd (lost-1).toNat) free).map fun l=>l.map (oY lost))
 else none
theorem qY {T:aW} {free:Int} {l:List dc} (h:cK T rd free=some l):l.length<=10/\∀t∈l,1<=t.1/\t.1<=T.ch.length:=by
 have hE:=ug h
 obtain ⟨hS,_⟩:=sY h
 refine ⟨by have:=nE hS hE; rw [SF] at this; exact this,fun t ht=>?_⟩
 have:=ru hE t.1 (SU.2 ⟨t,ht,rfl⟩)
 rw [eO,hS.2.1] at this
 exact this
end Tr
namespace Tr
open Go
open Cy (GC je aM aV az)
open Clu (aW aT ai chA aY bK bu bP bQ)
section
variable {A:ac} {T:aW} {chv chF rdv rdF:AV} {rd:List Int} {free:Int}
theorem D7 {R:ac} {e':Ent} (_h:(A++R)[A.length]?=some e):∃R',(A++R).set A.length e'=A++R':=⟨R.set 0 e',by rw [SQ _ _ (SK _),Uq]⟩
theorem zY {lost:Int} (hl0:lost≠0) (hT:Tl A T chv chF) (hr:Rl A rd rdv rdF) (hTl:T.ch.length<=200) (hrl:rd.length<=200) :
  ∃v B,bZ (aq GC ((13,H14 0) :: jC)) 300 oh [ai T chv,rdv,.z free,.z lost] A=some (.tup [v,.bool (dO T rd free lost).isSome],B)/\(∃R,B=A++R)/\RV A.length B v ((dO T rd free lost).getD []):=by
 have m29:=wm hT.sF hTl hr.sF hrl free
 obtain ⟨tv,htv⟩:∃tv,tv=ai T chv:=⟨_,rfl⟩
 obtain ⟨R0,hR0⟩:∃R0,R0=[Ent.row 5 false [tv],.q [rdv],.q [.z free]]:=⟨_,rfl⟩
 have hsol:rdv.solid=true/\cellsOf rdv=[rdv]:=by rcases hr.h.form with (e | ⟨e,l,e'⟩) | ⟨a,b,c,e⟩ <;> simp_all [AV.solid,cellsOf]
 have bx1:aR 5 tv A=some (.p A.length,A++[.row 5 false [tv]]):=by rw [htv]; rfl
 have bx2:aR 1 rdv (A++[.row 5 false [tv]])=some (.p (A.length+1),A++[.row 5 false [tv],.q [rdv]]):=by
  unfold aR
  rw [SA ⟨by omega,hsol.1,by rw [hsol.2]; rfl⟩]
  simp
 have bx3:aR 1 (.z free) (A++[.row 5 false [tv],.q [rdv]])=some (.p (A.length+2),A++R0):=by rw [hR0]; simp [aR,AV.solid,cellsOf]
 have ct:(cellsOf tv).length=5:=by rw [htv]; rfl
 have ci:(cellsOf (.z free)).length=1:=rfl
 have hD:D14 A tv rdv free (A++R0):=by
  rw [hR0]
  exact ⟨⟨_,rfl⟩,by simp,by rw [bD]; rfl,by rw [bD]; rfl⟩
 obtain ⟨l4,l5,l6⟩:=(htv ▸ hD:D14 A (ai T chv) rdv free (A++R0)).loads (tv:=tv) hr.h.form
 have f4:=hT.fz R0
 have f5:=hr.fz R0
 have lnr:=hr.h.len
 rw [az] at lnr
 have m30:=cq lost 0 (rd.length:Int)
 have h29:aD jC 31=some (aE 4 M29):=rfl
 have h30:aD jC 24=some (aE 4 M30):=rfl
 have b1:=bQ lost 0
 rw [<-htv] at l4 f4
 by_cases hS:Sit T rd free
 rotate_left
 ·rw [Ss hS] at m29
  have hd:dO T rd free lost=none:=SD (fun h=>hS h.1)
  refine ⟨.nilS,A++R0,?_,⟨R0,rfl⟩,.inl ⟨rfl,by rw [hd]; rfl⟩⟩
  rw [hd,<-htv]
  generalize A++R0=Z at *
  rw [bo _ _ rfl]
  simp [oh,bx1,bx2,bx3,ct,ci,hsol.2,l4,l5,l6,h29,f4,f5,aM,m29,br,dI,-aR,-ab,-frz,-cellsOf]
 rw [Su hS] at m29
 by_cases hl:0<=lost/\lost<=(rd.length:Int)
 rotate_left
 ·have mb:iD lost 0 (rd.length:Int)=false:=by
   cases e:iD lost 0 (rd.length:Int)
   ·rfl
   ·exact absurd (cP.1 e) hl
  rw [mb] at m30
  have hd:dO T rd free lost=none:=SD (fun h=>hl h.2)
  refine ⟨.nilS,A++R0,?_,⟨R0,rfl⟩,.inl ⟨rfl,by rw [hd]; rfl⟩⟩
  rw [hd,<-htv]
  generalize A++R0=Z at *
  generalize (rd.length:Int)=N at *
  rw [bo _ _ rfl]
  simp [oh,bx1,bx2,bx3,ct,ci,hsol.2,l4,l5,l6,h29,h30,f4,f5,aM,m29,m30,lnr,br,dI,-aR,-ab,-aj,-frz,-cellsOf,-cq]
 have mb:iD lost 0 (rd.length:Int)=true:=cP.2 hl
 rw [mb] at m30
 rw [Su (by omega)] at b1
 have hsl:=gY hS
 obtain ⟨k,hk⟩:∃k:Nat,lost-1=(k:Int):=⟨(lost-1).toNat,by omega⟩
 have hkr:k<rd.length:=by omega
 have hkc:k<T.ch.length:=by rw [<-hS.2.1]; exact hkr
 have hTeq:(lost-1).toNat=k:=by omega
 have b2:af .sub (.z lost) (.z 1)=some (.z (k:Int)):=by rw [bK (by omega),hk]
 have hdM:dO T rd free lost=if T.ch.length=1 then some [] else (cK (uB T k) (sZ rd k) free).map fun l=>l.map (oY lost):=by
  unfold dO
  rw [SA ⟨hS,hl⟩,SD hl0,hTeq]
 have hcm:k<(T.ch.map chA).length:=by rw [SF]; exact hkc
 have hZl:(A++R0).length=A.length+3:=by rw [hR0]; simp
 have c31:=fun hh=>Ng hh (hT.h.app R0) (by rw [SF]; omega) hcm
 rw [SF,hZl] at c31
 obtain ⟨Z2,hZ2⟩:∃Z2,Z2=A++R0++[Ent.dead,.row 2 false (rR (T.ch.map chA) k DE)]:=⟨_,rfl⟩
 rw [<-hZ2] at c31
 have hD2:D14 A tv rdv free Z2:=by rw [hZ2]; exact hD.app _
 have hZ2r:Z2[A.length+4]?=some (.row 2 false (rR (T.ch.map chA) k DE)):=by rw [hZ2,show A.length+4=(A++R0).length+1 by omega,bD]; rfl
 have hZ2l:Z2.length=A.length+5:=by rw [hZ2,SW,hZl]; rfl
 obtain ⟨tv',htv'⟩:∃tv',tv'=ai (uB T k) (.sl (A.length+3+1) 0 (T.ch.length-1)):=⟨_,rfl⟩
 obtain ⟨Z3,hZ3⟩:∃Z3,Z3=Z2.set A.length (.row 5 false [tv']):=⟨_,rfl⟩
 have fa:∀(Z:ac) (t:AV),Z[A.length]?=some (.row 5 false [t])->aa 0 Z (.p A.length)=some (.p A.length):=fun Z t h=>by simp [aa,h]
 have fa1:=fa _ _ hD.r0
 have fa2:=fa _ _ hD2.r0
 have lc:ab false 1 (A++R0) (.p A.length)=some chv:=by
  simp only [ab,hD.r0,htv]
  rcases hT.h.form with (rfl | ⟨e,l,rfl⟩) | ⟨a,b,c,rfl⟩ <;> rfl
 have st3:aA 1 Z2 (.p A.length) (.sl (A.length+3+1) 0 (T.ch.length-1))=some Z3:=by
  have:=hD2.r0
  rw [htv] at this
  rw [hZ3,htv']
  simp only [aA,this]
  rfl
 have hZ3l:Z3.length=A.length+5:=by rw [hZ3,Ti,hZ2l]
 obtain ⟨R3,hR3⟩:∃R3,Z3=A++R3:=by
  obtain ⟨R,hR⟩:=hD2.pre
  rw [hZ3,hR]
  exact D7 (by rw [<-hR]; exact hD2.r0)
 have hD3:D14 A tv' rdv free Z3:=⟨⟨R3,hR3⟩,by rw [hZ3,SG (by omega)],by rw [hZ3,Sz (by omega)]; exact hD2.r1,by rw [hZ3,Sz (by omega)]; exact hD2.r2⟩
 have fa3:=fa _ _ hD3.r0
 have lc3:ab false 1 Z3 (.p A.length)=some (.sl (A.length+3+1) 0 (T.ch.length-1)):=by simp only [ab,hD3.r0,htv']; rfl
 have lnc:aj (.sl (A.length+3+1) 0 (T.ch.length-1))=some (.z ((T.ch.length-1:Nat):Int)):=rfl
 have b3:=bu ((T.ch.length-1:Nat):Int) 0
 have h31:aD jC 32=some H31:=rfl
 rw [hdM]
 by_cases hn1:T.ch.length=1
 ·rw [SA hn1]
  rw [Su (by omega)] at b3
  refine ⟨.nilS,Z3,?_,⟨R3,hR3⟩,.inl ⟨rfl,rfl⟩⟩
  rw [<-htv]
  generalize A++R0=Z at *
  generalize (rd.length:Int)=N at *
  generalize ((T.ch.length-1:Nat):Int)=N1 at *
  generalize T.ch.length-1=n1 at *
  rw [bo _ _ rfl]
  simp [oh,bx1,bx2,bx3,ct,ci,hsol.2,l4,l5,l6,h29,h30,h31,f4,f5,aM,m29,m30,lnr,b1,b2,b3,fa1,fa2,fa3,lc,lc3,lnc,c31,st3,br,dI,-aR,-ab,-aA,-aa,-aj,-frz,-cellsOf,-af,-cq]
 rw [SD hn1]
 rw [Ss (by omega)] at b3
 have hr3:Rl Z3 rd rdv rdF:=by rw [hR3]; exact hr.app R3
 have c32:=fun hh=>Nf hh hr3.h (by omega) hkr
 obtain ⟨Z4,hZ4⟩:∃Z4,Z4=Z3++[Ent.dead,.q (rR (ak rd) k DR)]:=⟨_,rfl⟩
 rw [<-hZ4,hZ3l] at c32
 have hD4:D14 A tv' rdv free Z4:=by rw [hZ4]; exact hD3.app _
 obtain ⟨g4,g5,g6⟩:=(htv' ▸ hD3:D14 A (ai (uB T k) (.sl (A.length+3+1) 0 (T.ch.length-1))) rdv free Z3).loads (tv:=tv) hr.h.form
 obtain ⟨_,_,k6⟩:=(htv' ▸ hD4:D14 A (ai (uB T k) (.sl (A.length+3+1) 0 (T.ch.length-1))) rdv free Z4).loads (tv:=tv) hr.h.form
 rw [<-htv'] at g4
 have hh1:dj Z4 2 (.sl (A.length+3+1) 0 (T.ch.length-1)) ((uB T k).ch.map chA):=by
  have hrow:Z4[A.length+4]?=some (.row 2 false (rR (T.ch.map chA) k DE)):=by
   rw [hZ4,da Z3 _ _ (by omega),hZ3,Sz (by omega),hZ2r]
  have:=vJ hrow hcm
  rw [SF,Cf] at this
  exact this
 have hh2:dj Z4 1 (.sl (A.length+5+1) 0 (rd.length-1)) (ak (sZ rd k)):=by
  have hrow:Z4[A.length+6]?=some (.q (rR (ak rd) k DR)):=by
   rw [hZ4,show A.length+6=Z3.length+1 by omega,bD]; rfl
  have:=vJ hrow (show k<(ak rd).length by rw [az]; exact hkr)
  rw [az] at this
  unfold ak at this ⊢
  rw [Cf] at this
  exact this
 obtain ⟨aF,hTa⟩:=Tl.of hh1
 obtain ⟨bF,hRb⟩:=Rl.of hh2
 obtain ⟨v,B,hc14,⟨RB,hB⟩,hRV⟩:=sX (A:=Z4) (T:=uB T k) (rd:=sZ rd k) (free:=free) jC rfl rfl rfl rfl rfl rfl hTa hRb (by rw [show (uB T k).ch.length=T.ch.length-1 from ne hkc]; omega) (by rw [ne hkr]; omega)
 rw [<-htv'] at hc14
 have hc14:H14 0 (fun _ _ _=>none) [tv',.sl (A.length+5+1) 0 (rd.length-1),.z free,.z 0] Z4=_:=hc14
 have h32:aD jC 33=some H32:=rfl
 have hq1:Z4[A.length]?=Z3[A.length]?:=by rw [hD4.r0,hD3.r0]
 have hq2:Z4[A.length+2]?=Z3[A.length+2]?:=by rw [hD4.r2,hD3.r2]
 have r40:=hD4.r0
 have r42:=hD4.r2
 have r30:=hD3.r0
 have r32:=hD3.r2
 obtain ⟨L,hL⟩:∃L,L=(cK (uB T k) (sZ rd k) free).getD []:=⟨_,rfl⟩
 rw [<-hL] at hRV
 have hLb:L.length<=10/\∀t∈L,1<=t.1/\t.1<=4:=by
  rw [hL]
  cases hdr:cK (uB T k) (sZ rd k) free with
  | none=>exact ⟨by simp,fun t ht=>by simp at ht⟩
  | some l=>
   obtain ⟨q1,q2⟩:=qY hdr
   have:(uB T k).ch.length=T.ch.length-1:=ne hkc
   refine ⟨q1,fun t ht=>?_⟩
   have:=q2 t ht
   have:=hS.1.1.2.2.2.1
   omega
 have hres:(((cK (uB T k) (sZ rd k) free).map fun l=>l.map (oY lost)).isSome=(cK (uB T k) (sZ rd k) free).isSome)/\((cK (uB T k) (sZ rd k) free).map fun l=>l.map (oY lost)).getD []=L.map (oY lost):=by
  rw [hL]
  cases cK (uB T k) (sZ rd k) free <;> exact ⟨rfl,rfl⟩
 rw [hres.1,hres.2]
 generalize (cK (uB T k) (sZ rd k) free).isSome=ok at *
 obtain ⟨R4,hR4⟩:=hD4.pre
 have hZ4l:A.length<=Z4.length:=by rw [hR4]; simp
 obtain ⟨lnv,B',lp,hB',hRV'⟩:aj v=some (.z (L.length:Int))/\∃B',bG (evC (aq GC ((13,H14 0) :: jC)) 300 kL) ke 300 (n7 (.z lost) v (.bool ok) (.z (L.length:Int)) (.z 0)) B =
   some (.exit 0 ((n7 (.z lost) v (.bool ok) (.z (L.length:Int)) (.z (L.length:Int))).set 27 .f) B')/\(∃R,B'=A++R)/\RV A.length B' v (L.map (oY lost)):=by
  rcases hRV with ⟨rfl,hnil⟩ | ⟨i,hi,rfl,hrow⟩
  ·rw [hnil]
   refine ⟨rfl,B,?_,⟨R4++RB,by rw [hB,hR4,SO]⟩,.inl ⟨rfl,rfl⟩⟩
   have b0':=be 0 0 .i64
   rw [Ss (by omega)] at b0'
   have b0':af .lss (.z 0) (.z 0)=some .f:=b0'
   rw [show (300:Nat)=299+1 from rfl,aG,yQ]
   simp [kL,b0',-af]
  ·have h0:kq lost L 0=L:=by simp [kq]
   obtain ⟨B',h1,h2⟩:=Ix (i:=i) (l:=L) (lost:=lost) (fun _ _ _=>none) ((13,H14 0) :: jC) (.bool ok) (by omega) (fun t ht=>by have:=hLb.2 t ht; omega) L.length 0 300 B (by omega) (by rw [h0]; exact hrow) (by omega)
   refine ⟨rfl,B',h1,?_,.inr ⟨i,by omega,by rw [SF],?_⟩⟩
   ·refine ⟨(R4++RB).set (i-A.length) (.row 2 false ((L.map (oY lost)).map aX)),?_⟩
    rw [h2,hB,hR4,SO,SQ _ _ (by omega)]
   ·rw [h2,SG (Sp.1 hrow).1]
 refine ⟨v,B',?_,hB',hRV'⟩
 rw [<-htv]
 generalize A++R0=Z at *
 generalize (rd.length:Int)=N at *
 generalize ((T.ch.length-1:Nat):Int)=N1 at *
 generalize T.ch.length-1=n1 at *
 generalize rd.length-1=n2 at *
 generalize (L.length:Int)=N3 at *
 rw [bo _ _ rfl]
 simp [oh,bx1,bx2,bx3,ct,ci,hsol.2,l4,l5,l6,h29,h30,h31,h32,f4,f5,aM,m29,m30,lnr,b1,b2,b3,fa1,fa2,fa3,lc,lc3,lnc,c31,st3,g4,g5,k6,c32,hc14,lnv,Lo lp,br,dI,r40,r42,r30,r32,-aR,-ab,-aA,-aa,-aj,-frz,-cellsOf,-af,-cq]
end
end Tr
end Go.Proofs.YtkcjhljbgjpklaaGreat
