import Derived.Test.YtkcjhljbgjpklaaGreatVZ05
import Derived.Test.YtkcjhljbgjpklaaGreatChecked
import Derived.KernelRfl
set_option maxRecDepth 100000
set_option maxHeartbeats 4000000
noncomputable section
namespace Go.Proofs.YtkcjhljbgjpklaaGreat
open Tryz (prog)
variable {d6 d5 d0 d13 v4 v3 d14 d12 d7 d15 d2 d11 d16 d17 d18 d19 d22 d1 d21 v1 v10 d20 v8 v2 d8 v9 d23 d9 v7 d27 d28 d32 d3 d10 d24 d29 d26 d4 d30 d31 d25 v11 v0 v5 v12 d33 v16 v25 d34 d35 d36 v6 v30 v31 v14 v15 v17 v19 v20 v18 v13:AV} {E:Env} {fuel k j n:Nat} {A:ac} {o:Out} {rd:List Int} {free q:Int} {X Y:Nat->Int} {b:List Bool}
namespace Clu
open Go
open Cy (GC bq cQ bT cA cR okA smM smT lvM lvT dG ey bS Pos tV eW tW lar cD nu)
def t1:aW:=⟨[(20,12),(30,12)],1,1,2,1⟩
def t2:aW:=⟨[(20,12),(30,12)],1,1,2,2⟩
def t3:aW:=⟨[(20,9),(30,9)],1,1,2,2⟩
theorem N5:aN t1=[[0,1,2],[0,2,1]]:=by decide +kernel
def ar1:List bq:=[⟨0,2,6,0⟩,⟨2,1,6,0⟩,⟨1,0,6,1⟩,⟨0,1,24,0⟩,⟨1,0,-36,0⟩,⟨1,2,34,1⟩,⟨2,1,-46,-1⟩]
def ar0:List bq:=[⟨0,1,4,0⟩,⟨1,2,4,0⟩,⟨2,0,6,1⟩,⟨0,1,24,0⟩,⟨1,0,-36,0⟩,⟨1,2,34,0⟩,⟨2,1,-46,0⟩]
instance:DecidableEq bq:=fun a b=>by
 obtain ⟨a1,a2,a3,a4⟩:=a
 obtain ⟨b1,b2,b3,b4⟩:=b
 exact decidable_of_iff (a1=b1/\a2=b2/\a3=b3/\a4=b4) ⟨fun ⟨h1,h2,h3,h4⟩=>by rw [h1,h2,h3,h4],fun h=>by injection h with h1 h2 h3 h4; exact ⟨h1,h2,h3,h4⟩⟩
theorem I8:bM t1 [0,2,1]=ar1:=by decide +kernel
theorem cC:bM t1 [0,1,2]=ar0:=by decide +kernel
theorem A9 {l:List bq} (c:List (bq × Nat)) (u:Int) (hw:Cy.xh l u c u) (hl:0<Cy.mI q c):Pos l q:=⟨u,c,hw,hl⟩
theorem qm {l:List bq} {x:bq} {i:Nat} (h:l[i]?=some x):(x,i)∈Cy.num l:=by
 obtain ⟨hi,rfl⟩:=Sp.1 h
 exact TF (Cy.iL l i hi)
theorem pos1 (h:q<40):Pos ar1 q:=A9 [(⟨2,1,6,0⟩,1),(⟨1,2,34,1⟩,5)] 2 ⟨qm rfl,rfl,qm rfl,rfl,rfl⟩ (by simp [Cy.mI,bq.len]; omega)
theorem N4 (h:q<64):Pos ar0 q:=A9 [(⟨0,1,24,0⟩,3),(⟨1,2,34,0⟩,5),(⟨2,0,6,1⟩,2)] 0 ⟨qm rfl,rfl,qm rfl,rfl,qm rfl,rfl,rfl⟩ (by simp [Cy.mI,bq.len]; omega)
theorem in1:[0,2,1]∈aN t1:=by rw [N5]; decide
theorem N6:¬ Pos (bM t1 [0,2,1]) 40:=(nu (n:=3) (gm in1 (by omega) (by omega))).1 (by rw [I8]; decide +kernel)
theorem QU:ul t1=some (40,[0,2,1]):=by
 obtain ⟨o,h1,h2,h3⟩:=I5 in1 (by omega) (by omega) N6 (fun o ho q h1 h2=>by
  rw [N5] at ho
  rcases Tj.1 ho with rfl | ho
  ·rw [cC]; exact N4 (by omega)
  ·rcases Tj.1 ho with rfl | ho
   ·rw [I8]; exact pos1 h2
   ·cases ho)
 rw [N5] at h1
 rcases Tj.1 h1 with rfl | h1
 ·rw [cC] at h2; exact absurd (N4 (by omega)) h2
 ·rcases Tj.1 h1 with rfl | h1
  ·exact h3
  ·cases h1
theorem lv1:(lvM 3 (bM t1 [0,2,1]) 40).1=[0,24,18]:=by
 have hr:bS 3 (bM t1 [0,2,1]) 40:=gm in1 (by omega) (by omega)
 have h1:cD (lar 40 (bM t1 [0,2,1])) 3=([0,24,18],true):=by rw [I8]; decide +kernel
 unfold lvM
 rw [SA hr,show (3:Int).toNat=3 from rfl,h1,SA rfl]
theorem bm1:∃pr,gq t1=some ⟨40,[0,2,1],[0,24,18],pr⟩:=by
 refine ⟨(lvM 3 (bM t1 [0,2,1]) 39).2.1,?_⟩
 unfold gq
 rw [QU,Th]
 show some (cy.mk 40 [0,2,1] (lvM 3 (bM t1 [0,2,1]) 40).1 _)=_
 rw [lv1]
 rfl
theorem xZ {T:aW} {s:cy} (h:Chk T s):(s.order.length<=5/\∀z∈s.order,inI z)/\(s.starts.length<=32/\∀z∈s.starts,inI z)/\(s.proof.length<=200/\∀z∈s.proof,inI z):=by
 obtain ⟨h1,h2,h3,h4⟩:=h
 have k:=cd h1
 have kb:=gx h1
 refine ⟨⟨by have:=k.1.2.2.2.1; omega,fun z hz=>by have:=kb z hz; have:=k.1.2.2.2.1; unfold inI; omega⟩,Cy.JJ h3,?_⟩
 split at h4
 ·rw [h4]; simp
 ·obtain ⟨hR,a,b,h5,_⟩:=h4
  unfold Cy.exM at h5
  simp only [Sw] at h5
  refine ⟨h5.1.1.2,fun z hz=>?_⟩
  have:=h5.1.2 z hz
  have:=hR.1.2.1
  unfold inI; omega
theorem kS {T:aW} {s:cy} (h:Chk T s):jf s (slA 1 (ak s.order)) (slA 1 (ak s.starts)) (slA 1 (ak s.proof)):=by
 obtain ⟨⟨h1,h2⟩,⟨h3,h4⟩,h5,h6⟩:=xZ h
 exact ⟨aZ _ _,aZ _ _,aZ _ _,by have:=h.2.1; unfold inI; omega,by omega,by omega,h4,by omega,h6⟩
end Clu
namespace Tr
open Go
def kL:MC:=.r [.F 27 26 25] (.seq (.cond (.var 27) .skip (.exit 0)) (.seq (.seq (.block 1 (.r [.a 26,.c 11 0] (.r [.a 9,.a 11,.e 2 0 1,.o 0 2,.b 1 3,.a 3,.qs 28 (.bin .geq (.tmp 4) (.tmp 5))] (.cond (.var 28) (.region [.a 9,.a 11,.e 2 0 1,.o 0 2,.b 1 3,.h 4 1,.e 2 0 1,.o 0 6,.A 1 7 5]) .skip)))) (.kill [0,1,2,4,5,6,7,8,11,12,13,14,15,16,17,18,19,20,21,22,23,24,27,28,29,30,31,32,33,34,35,36])) (.region [.w 26 1,.c 26 0])))
def ou:MC:=.r [.F 32 31 30] (.seq (.cond (.var 32) .skip (.exit 2)) (.seq (.seq (.block 3 (.r [.a 31,.M 1 29 31,.b 1 1,.c 13 0,.c 14 2] (.region [.a 12,.a 13,.a 14,.Z 2 0,.e 1 0 1,.A 1 4 3]))) (.kill [0,1,2,3,7,8,9,10,11,13,14,15,16,17,18,19,20,21,22,23,24,25,26,27,28,32,33,34,35,36])) (.region [.w 31 1,.c 31 0])))
def sJ:MC:=.region [.am 18 34]
def mH:MC:=.seq (.block 5 (.r [.k 5 4,.v 1 5,.v 1 6,.a 18,.X 35 0 1 2 3,.i 4,.j 5 0,.j 5 1,.c 19 6,.c 20 7] (.seq (.r [.a 20,.N 35 0] (.cond (.var 35) (.exit 5) .skip)) (.r [.k 5 4,.v 1 5,.v 1 6,.a 19,.X 14 0 1 2 3,.i 4,.j 5 0,.j 5 1,.c 21 6,.i 7] (.r [.v 1 17,.Q 0,.i 1,.n 21 2,.ca 1 16 2,.qf (.bin .lss (.tmp 3) (.tmp 4)) 2,.x 36 2 5] (.cond (.var 36) (.region [.a 19,.a 21,.t 1 15 0,.t 1 16 1,.qn (.store 1 (.var 17) (.cst .t))]) .skip)))))) (.kill [0,1,2,3,4,5,6,7,8,9,10,11,12,13,14,15,16,17,18,19,20,21,22,23,24,25,26,27,28,29,30,31,32,33,34,35,36])
def ke:List Nat:=[0,1,2,4,5,6,7,8,11,12,13,14,15,16,17,18,19,20,21,22,23,24,27,28,29,30,31,32,33,34,35,36]
def kc:List Nat:=[0,1,2,3,7,8,9,10,11,13,14,15,16,17,18,19,20,21,22,23,24,25,26,27,28,32,33,34,35,36]
def oh:cJ:=⟨4,37,.r [.y 4 0,.y 5 1,.y 6 2,.u 7,.g 8] (.seq (.r [.k 5 4,.v 1 5,.v 1 6,.L 31 0 1 2,.Q 3,.i 4,.n 3 5,.ca 1 5 5,.ar 7 5,.bc 24 6 8 5,.G 9 5,.x 22 5 10] (.cond (.var 22) (.r [.u 7,.g 8] .ret) .skip)) (.seq (.r [.a 3,.al 23 0 0] (.cond (.var 23) (.r [.d 0 4,.b 1 0,.a 3,.r 2 1,.B 32 1 3,.d 0 4,.A 1 5 4] (.seq (.r [.d 0 4,.b 1 0,.s 1,.ab 24 2 0] (.cond (.var 24) (.r [.u 7,.J 8] .ret) .skip)) (.seq (.regionD [] [.k 5 4,.v 1 5,.a 3,.r 2 1,.B 33 1 3,.v 1 6,.b7 13 0 4 5,.i 6,.j 7 0,.j 7 1,.c 9 8,.c 10 9] [(0,4),(4,5)]) (.seq (.r [.a 9,.bs 25 0,.f 26 0] (.seq (.block 0 (.loop ke kL)) (.kill [0,1,2,3,4,5,6,7,8,11,12,13,14,15,16,17,18,19,20,21,22,23,24,25,26,27,28,29,30,31,32,33,34,35,36]))) (.r [.a 9,.a 10,.c 7 0,.c 8 1] .ret))))) .skip)) (.r [.v 1 5,.s 0,.qn (.makeSlice 1 1 .f (.tmp 1) (.tmp 1)),.c 12 2] (.seq (.r [.ck 29 1 5,.ac 30 29,.f 31 0] (.seq (.block 2 (.loop kc ou)) (.kill [0,1,2,3,7,8,9,10,11,13,14,15,16,17,18,19,20,21,22,23,24,25,26,27,28,29,30,31,32,33,34,35,36]))) (.r [.c2 15 1] (.r [.bf 16 1,.qs 17 (.alloc 1 .f),.cy 1 16 0,.qn (.store 1 (.var 17) (.cst .f))] (.seq (.r [.a 12,.qs 33 (.call (.fn 34) [.tmp 0])] (.seq (.block 4 (.rangeFunc (.var 33) [34] sJ mH)) (.kill [0,1,2,3,4,5,6,7,8,9,10,11,12,13,14,16,18,19,20,21,22,23,24,25,26,27,28,29,30,31,32,33,34,35,36]))) (.r [.v 1 15,.v 1 17,.c 7 0,.c 8 1] .ret)))))))),[.tmp 7,.tmp 8]⟩
abbrev n7 (v3 v9 v10 v25 v26:AV):List AV:=[.u,.u,.u,v3,.u,.u,.u,.u,.u,v9,v10,.u,.u,.u,.u,.u,.u,.u,.u,.u,.u,.u,.u,.u,.u,v25,v26,.u,.u,.u,.u,.u,.u,.u,.u,.u,.u]
theorem yQ {v26:AV}:clear ke [d0,d1,d2,v3,d4,d5,d6,d7,d8,v9,v10,d11,d12,d13,d14,d15,d16,d17,d18,d19,d20,d21,d22,d23,d24,v25,v26,d27,d28,d29,d30,d31,d32,d33,d34,d35,d36]=n7 v3 v9 v10 v25 v26:=by simp only [ke,clear,Ta,TJ,Tq,Tx]
theorem Lo {k:List KC} {v26:AV} (h:bG (evC E fuel kL) ke fuel (n7 v3 v9 v10 v25 v26) A=some o) :
  run E fuel (.code (.loop ke kL) :: k) [d0,d1,d2,v3,d4,d5,d6,d7,d8,v9,v10,d11,d12,d13,d14,d15,d16,d17,d18,d19,d20,d21,d22,d23,d24,v25,v26,d27,d28,d29,d30,d31,d32,d33,d34,d35,d36] A=after E fuel k o:=aK ke _ _ (by rw [yQ]; exact h)
abbrev p5 (v4 v5 v6 v12 v29 v30 v31:AV):List AV:=[.u,.u,.u,.u,v4,v5,v6,.u,.u,.u,.u,.u,v12,.u,.u,.u,.u,.u,.u,.u,.u,.u,.u,.u,.u,.u,.u,.u,.u,v29,v30,v31,.u,.u,.u,.u,.u]
theorem CX {v29:AV}:clear kc [d0,d1,d2,d3,v4,v5,v6,d7,d8,d9,d10,d11,v12,d13,d14,d15,d16,d17,d18,d19,d20,d21,d22,d23,d24,d25,d26,d27,d28,v29,v30,v31,d32,d33,d34,d35,d36]=p5 v4 v5 v6 v12 v29 v30 v31:=by simp only [kc,clear,Ta,TJ,Tq,Tx]
theorem Ln {k:List KC} {v29:AV} (h:bG (evC E fuel ou) kc fuel (p5 v4 v5 v6 v12 v29 v30 v31) A=some o) :
  run E fuel (.code (.loop kc ou) :: k) [d0,d1,d2,d3,v4,v5,v6,d7,d8,d9,d10,d11,v12,d13,d14,d15,d16,d17,d18,d19,d20,d21,d22,d23,d24,d25,d26,d27,d28,v29,v30,v31,d32,d33,d34,d35,d36] A=after E fuel k o:=aK kc _ _ (by rw [CX]; exact h)
theorem oJ:aH prog Tryz.f13 4 [0,1,2,3,4,5,6,8,9,10,11,12,13,14,15,16,17,18,19,20,21,22,35,37,47,59,60,61,69,84,85,86,87,98,99,109,124] [] true ([ke,kc],[ke,[0,1,2,3,4,5,6,7,8,11,12,13,14,15,16,17,18,19,20,21,22,23,24,25,26,27,28,29,30,31,32,33,34,35,36],kc,[0,1,2,3,7,8,9,10,11,13,14,15,16,17,18,19,20,21,22,23,24,25,26,27,28,29,30,31,32,33,34,35,36],[0,1,2,3,4,5,6,7,8,9,10,11,12,13,14,15,16,17,18,19,20,21,22,23,24,25,26,27,28,29,30,31,32,33,34,35,36],[0,1,2,3,4,5,6,7,8,9,10,11,12,13,14,16,18,19,20,21,22,23,24,25,26,27,28,29,30,31,32,33,34,35,36]])=some oh:=by kernel_rfl
theorem Gw:prog.funcs[13]?=some Tryz.f13:=by kernel_rfl
def dE:MC:=.r [.F 17 16 15] (.seq (.cond (.var 17) .skip (.exit 0)) (.seq (.seq (.block 1 (.r [.M 2 14 16,.K 2 0,.ag 10 2,.t 2 10 1] (.seq (.r [.d 0 10,.b 1 0,.a 7,.s 2,.ae 24 1 3,.Q 4,.i 5,.C 1 10 6,.p 1 7 6,.n 9 6,.bh 5 4 6,.n 8 6,.C 0 10 6,.p 1 12 6,.ax 37 10 11 13 6,.a3 9 14 6,.a0 24 8 15 6,.G 16 6,.x 18 6 17] (.cond (.var 18) (.r [.f 5 0,.g 6] .ret) .skip)) (.r [.d 0 10,.b 1 0,.d 1 10,.b 1 2,.k 5 4,.H 38 4,.m 3 5,.c 8 1,.c 9 6] (.seq (.r [.d 0 10,.b 1 0,.r 1 1,.c 11 2] (.r [.a 11,.ak 19 0 0] (.cond (.var 19) (.seq (.r [.a 7,.a 11,.e 1 0 1,.b 1 2,.au 3 0,.i 4,.C 1 10 5,.p 1 6 5,.n 7 5,.n 11 5,.O 1 8 9 5,.p 1 10 5,.n 7 5,.n 11 5,.O 1 12 13 5,.p 1 14 5,.C 0 4 5,.p 1 16 5,.n 11 5,.O 2 17 18 5,.a2 1 19 5,.p 1 20 5,.a3 15 21 5,.ax 24 7 11 22 5,.G 23 5,.x 20 5 24] (.cond (.var 20) (.r [.f 5 0,.g 6] .ret) .skip)) (.region [.a 7,.a 11,.e 1 0 1,.az 1 2 (-1)])) .skip))) (.r [.d 0 10,.b 1 0,.c 12 1] (.r [.a 12,.a 7,.s 1,.D 21 0 2] (.cond (.var 21) (.seq (.r [.a 7,.a 12,.e 1 0 1,.b 1 2,.ak 22 3 0] (.cond (.var 22) (.r [.f 5 0,.g 6] .ret) .skip)) (.region [.a 7,.a 12,.a 9,.d 0 4,.b 1 3,.a 12,.e 2 4 5,.o 0 6,.b 1 7,.m 2 8,.e 1 0 1,.A 1 10 9])) .skip)))))))) (.kill [0,1,2,3,5,6,10,11,12,13,17,18,19,20,21,22])) (.region [.w 16 1,.c 16 0])))
def dK:List Nat:=[0,1,2,3,5,6,10,11,12,13,17,18,19,20,21,22]
def Aa:cJ:=⟨4,23,.r [.y 4 0,.f 5 0,.g 6] (.seq (.r [.k 5 4,.a 1,.a 2,.L 31 0 1 2,.N 13 3] (.cond (.var 13) (.r [.f 5 0,.g 6] .ret) .skip)) (.r [.a 1,.H 36 0,.c 7 1] (.r [.a 2,.f 8 (-2),.c 9 0] (.seq (.r [.am 14 3,.ac 15 14,.f 16 0] (.seq (.block 0 (.loop dK dE)) (.kill [0,1,2,3,4,5,6,7,8,10,11,12,13,14,15,16,17,18,19,20,21,22]))) (.r [.a 9,.c 5 0,.J 6] .ret))))),[.tmp 5,.tmp 6]⟩
abbrev gO (v4 v7 v8 v9 v14 v15 v16:AV):List AV:=[.u,.u,.u,.u,v4,.u,.u,v7,v8,v9,.u,.u,.u,.u,v14,v15,v16,.u,.u,.u,.u,.u,.u]
theorem tc:clear dK [d0,d1,d2,d3,v4,d5,d6,v7,v8,v9,d10,d11,d12,d13,v14,v15,v16,d17,d18,d19,d20,d21,d22]=gO v4 v7 v8 v9 v14 v15 v16:=rfl
theorem vu {k:List KC} (h:bG (evC E fuel dE) dK fuel (gO v4 v7 v8 v9 v14 v15 v16) A=some o) :
  run E fuel (.code (.loop dK dE) :: k) [d0,d1,d2,d3,v4,d5,d6,v7,v8,v9,d10,d11,d12,d13,v14,v15,v16,d17,d18,d19,d20,d21,d22] A=after E fuel k o:=aK dK _ _ (by rw [tc]; exact h)
theorem Cw:aH prog Tryz.f14 4 [0,1,2,3,4,8,9,10,11,12,14,15,16,21,25,26,27,28,49,61,87,96,101] [24,37,38] true ([dK],[dK,[0,1,2,3,4,5,6,7,8,10,11,12,13,14,15,16,17,18,19,20,21,22]])=some Aa:=by kernel_rfl
def mG:MC:=.seq (.r [.a 9,.a 7,.aa 14 0 1] (.cond (.var 14) .skip (.exit 0))) (.seq (.seq (.block 1 (.r [.a 8,.a 9,.a 8,.a 9,.r 3 1,.e 1 2 4,.b 1 5,.e 1 0 1,.A 1 7 6] (.r [.d 1 4,.b 1 0,.a 9,.B 25 1 2,.d 1 4,.b 1 4,.a 9,.r 6 1,.B 25 5 7,.D 15 3 8] (.cond (.var 15) (.region [.a 8,.a 9,.e 1 0 1,.b 1 2,.h 3 1,.e 1 0 1,.A 1 5 4]) .skip)))) (.kill [0,1,5,6,10,11,12,13,14,15,16,17,18,19,20,21,22,23])) (.region [.a 9,.h 0 1,.c 9 1]))
def kI:MC:=.r [.F 22 21 20] (.seq (.cond (.var 22) .skip (.exit 4)) (.seq (.seq (.block 5 (.r [.M 1 19 21,.b 1 0,.c 12 1] (.r [.a 8,.a 12,.e 1 0 1,.b 1 2,.a 11,.aa 23 3 4] (.cond (.var 23) (.region [.a 10,.a 12,.a 2,.d 3 3,.b 1 3,.m 2 4,.d 2 4,.b 1 6,.cx 1 7 0,.b 1 8,.ai 5 9,.a 11,.d 0 4,.b 1 12,.b8 11 13,.m 10 14,.d 2 4,.b 1 16,.a 12,.e 1 17 18,.b 1 19,.m 15 20,.a4 1 21,.cv 22,.aw 2 0 23,.c 10 24]) .skip)))) (.kill [0,1,5,6,7,9,12,13,14,15,18,22,23])) (.region [.w 21 1,.c 21 0])))
def jY:List Nat:=[0,1,5,6,7,9,12,13,14,15,18,22,23]
def oq:MC:=.r [.F 18 17 16] (.seq (.cond (.var 18) .skip (.exit 2)) (.seq (.seq (.block 3 (.r [.a 17,.c 11 0] (.r [.d 1 4,.b4 19 1 0,.ac 20 19,.f 21 0] (.seq (.block 4 (.loop jY kI)) (.kill [0,1,5,6,7,9,11,12,13,14,15,18,19,20,21,22,23]))))) (.kill [0,1,5,6,7,9,11,12,13,14,15,18,19,20,21,22,23])) (.region [.w 17 1,.c 17 0])))
def my:List Nat:=[0,1,5,6,10,11,12,13,14,15,16,17,18,19,20,21,22,23]
def mw:List Nat:=[0,1,5,6,7,9,11,12,13,14,15,18,19,20,21,22,23]
def Id:cJ:=⟨3,24,.r [.y 3 0,.y 4 1,.u 5,.f 6 0] (.seq (.r [.k 5 3,.H 22 0,.Q 1,.i 2,.bh 5 3 3,.bh 4 4 3,.bz 23 4 5 3,.G 6 3,.I 3 7,.i 8,.n 2 9,.be 24 10 9,.G 11 9,.x 13 9 12] (.cond (.var 13) (.r [.u 5,.f 6 140] .ret) .skip)) (.r [.d 0 3,.b 1 0,.s 1,.c 7 2] (.r [.a 7,.h 0 1,.ad 1 1,.c 8 2] (.seq (.r [.f 9 1] (.seq (.block 0 (.loop my mG)) (.kill [0,1,5,6,9,10,11,12,13,14,15,16,17,18,19,20,21,22,23]))) (.r [.u 10] (.seq (.r [.a 8,.a 7,.e 1 0 1,.b 1 2,.qs 16 (.bin .add (.tmp 3) (.cst (.z 1))),.f 17 0] (.seq (.block 2 (.loop mw oq)) (.kill [0,1,2,3,4,5,6,7,8,9,11,12,13,14,15,16,17,18,19,20,21,22,23]))) (.r [.a 10,.c 5 0,.f 6 0] .ret))))))),[.tmp 5,.tmp 6]⟩
abbrev uG (v2 v3 v4 v8 v10 v11 v16 v17 v19 v20 v21:AV):List AV:=[.u,.u,v2,v3,v4,.u,.u,.u,v8,.u,v10,v11,.u,.u,.u,.u,v16,v17,.u,v19,v20,v21,.u,.u]
theorem Li {k:List KC} {v21:AV} (h:bG (evC E fuel kI) jY fuel (uG v2 v3 v4 v8 v10 v11 v16 v17 v19 v20 v21) A=some o) :
  run E fuel (.code (.loop jY kI) :: k) [d0,d1,v2,v3,v4,d5,d6,d7,v8,d9,v10,v11,d12,d13,d14,d15,v16,v17,d18,v19,v20,v21,d22,d23] A=after E fuel k o:=aK jY _ _ h
abbrev xQ (v2 v3 v4 v7 v8 v9:AV):List AV:=[.u,.u,v2,v3,v4,.u,.u,v7,v8,v9,.u,.u,.u,.u,.u,.u,.u,.u,.u,.u,.u,.u,.u,.u]
theorem Lj {k:List KC} (h:bG (evC E fuel mG) my fuel (xQ v2 v3 v4 v7 v8 v9) A=some o) :
  run E fuel (.code (.loop my mG) :: k) [d0,d1,v2,v3,v4,d5,d6,v7,v8,v9,d10,d11,d12,d13,d14,d15,d16,d17,d18,d19,d20,d21,d22,d23] A=after E fuel k o:=aK my _ _ h
abbrev xP (v2 v3 v4 v8 v10 v16 v17:AV):List AV:=[.u,.u,v2,v3,v4,.u,.u,.u,v8,.u,v10,.u,.u,.u,.u,.u,v16,v17,.u,.u,.u,.u,.u,.u]
theorem Lh {k:List KC} (h:bG (evC E fuel oq) mw fuel (xP v2 v3 v4 v8 v10 v16 v17) A=some o) :
  run E fuel (.code (.loop mw oq) :: k) [d0,d1,v2,v3,v4,d5,d6,d7,v8,d9,v10,d11,d12,d13,d14,d15,v16,v17,d18,d19,d20,d21,d22,d23] A=after E fuel k o:=aK mw _ _ h
theorem L3:aH prog Tryz.f7 3 [0,1,2,3,4,6,7,8,9,10,11,12,14,28,37,57,68,69,70,73,74,75,76,84] [25] true ([my,mw,jY],[my,[0,1,5,6,9,10,11,12,13,14,15,16,17,18,19,20,21,22,23],jY,mw,mw,[0,1,2,3,4,5,6,7,8,9,11,12,13,14,15,16,17,18,19,20,21,22,23]])=some Id:=by kernel_rfl
def Ic:cJ:=⟨4,15,.r [.y 4 0,.y 5 3,.u 6,.f 7 0] (.r [.k 5 4,.a 1,.a 2,.b7 13 0 1 2,.i 3,.j 4 0,.j 4 1,.c 8 5,.c 9 6] (.seq (.r [.a 9,.N 13 0] (.cond (.var 13) (.r [.u 6,.f 7 140] .ret) .skip)) (.r [.k 5 4,.a 1,.a 2,.a 8,.X 14 0 1 2 3,.i 4,.j 5 0,.j 5 1,.c 10 6,.i 7] (.r [.k 5 4,.k 4 5,.a 10,.L 7 0 1 2,.i 3,.j 4 0,.j 4 1,.c 11 5,.c 12 6] (.seq (.r [.a 12,.cq 14 0 0] (.cond (.var 14) (.r [.a 12,.u 6,.c 7 0] .ret) .skip)) (.r [.a 8,.a 11,.aw 2 0 1,.c 6 2,.f 7 0] .ret)))))),[.tmp 6,.tmp 7]⟩
theorem Cs:aH prog Tryz.f9 4 [0,1,2,3,4,7,8,9,10,11,12,14,15,24,41] [] true ([],[])=some Ic:=by kernel_rfl
def Ft:cJ:=⟨3,5,.r [.y 3 0,.g 4] (.r [.k 5 3,.H 22 0,.i 1,.l 1 2,.ah 3 2,.R 0 3 2,.z 1 5 2,.ah 6 2,.b3 4 7 2,.q 2 8,.i 9,.l 2 10,.qt (.call (.fn 24) [.tmp 11,.cst (.z 0),.cst (.z 2000000)]) 10,.q 10 12,.i 13,.l 1 14,.qt (.call (.fn 66) [.tmp 15,.fn 67]) 14,.bb 16 14,.q 14 17,.c 4 18] .ret),[.tmp 4]⟩
theorem Cq:aH prog Tryz.f31 3 [0,1,2,3,6] [] true ([],[])=some Ft:=by kernel_rfl
def RU:cJ:=⟨3,4,.r [.g 3] (.r [.a 0,.a 1,.b9 0 1,.i 2,.l 0 3,.l 2 3,.a5 4 5 3,.q 3 6,.c 3 7] .ret),[.tmp 3]⟩
theorem LZ:aH prog Tryz.f24 3 [0,1,2,6] [] true ([],[])=some RU:=by kernel_rfl
def Er:cJ:=⟨2,3,.r [.u 2] (.r [.a 0,.H 69 0,.a 1,.a 1,.h 3 1,.L 68 1 2 4,.c 2 5] .ret),[.tmp 2]⟩
theorem Cp:aH prog Tryz.f32 2 [0,1,4] [] true ([],[])=some Er:=by kernel_rfl
def Jp:cJ:=⟨2,3,.r [.u 2] (.r [.a 0,.H 36 0,.a 1,.a 1,.h 3 1,.L 70 1 2 4,.c 2 5] .ret),[.tmp 2]⟩
theorem Co:aH prog Tryz.f33 2 [0,1,4] [] true ([],[])=some Jp:=by kernel_rfl
def Jo:cJ:=⟨1,3,.r [.y 1 0,.qs 2 (.mv (.cst .nilF))] (.r [.qn (.makeFunc (.func 71) [] [.var 1]),.c 2 0] .ret),[.tmp 2]⟩
theorem Cn:aH prog Tryz.f34 1 [0,1,2] [] true ([],[])=some Jo:=by kernel_rfl
def eM:MC:=.r [.F 26 25 24] (.seq (.cond (.var 26) .skip (.exit 0)) (.seq (.seq (.block 1 (.r [.a 25,.M 1 23 25,.b 1 1,.c 11 0,.c 12 2] (.seq (.r [.a 11,.ab 27 0 0] (.cond (.var 27) (.region [.a 8,.a 2,.d 3 4,.b 1 2,.m 1 3,.ba 4,.cd 5,.a9 0 6]) (.region [.a 8,.a 11,.a 11,.h 2 1,.a 10,.k 5 4,.a 3,.a 11,.r 7 1,.e 1 6 8,.b 1 9,.a 12,.L 37 5 10 11,.m 4 12,.T 1 3 13,.cd 14,.a9 0 15]))) (.r [.a 12,.r 0 1,.c 13 1] (.r [.a 1,.a 13,.e 1 0 1,.b 1 2,.f 14 0,.c 15 3] (.seq (.r [.a 9,.a 13,.qn (.lookup 1 true (.z 0) (.tmp 0) (.tmp 1)),.i 2,.j 3 0,.j 3 1,.c 16 4,.c 17 5] (.r [.am 28 17] (.cond (.var 28) (.region [.a 16,.a 10,.d 0 4,.b 1 2,.a 13,.e 2 3 4,.o 0 5,.b 1 6,.m 1 7,.c 14 0,.c 15 8]) .skip))) (.r [.a 8,.a 14,.a 11,.h 2 1,.a 15,.T 1 3 4,.a 11,.h 6 1,.a 14,.a 15,.d 0 4,.b 1 10,.a 13,.e 2 11 12,.o 1 13,.b 1 14,.m 9 15,.bj 16,.T 7 8 17,.c0 5 18,.a9 0 19] (.region [.a 9,.a 12,.a 11,.h 2 1,.b5 0 1 3])))))))) (.kill [0,5,6,11,12,13,14,15,16,17,18,19,20,21,22,26,27,28,29,30,31,32,33])) (.region [.w 25 1,.c 25 0])))
def om:MC:=.r [.F 32 33 31] (.seq (.cond (.var 32) .skip (.exit 2)) (.seq (.seq (.block 3 (.r [.a 33,.M 1 30 33,.b 1 1,.c 21 0,.c 22 2] (.region [.a 20,.a 22,.a 18,.a 21,.h 3 1,.e 1 2 4,.b 1 5,.a4 1 6,.cv 7,.qn (.appendN 2 16 (.tmp 0) (.tmp 8)),.c 20 9]))) (.kill [0,1,2,3,4,5,6,7,8,9,10,11,12,13,14,15,16,17,19,21,22,23,24,25,26,27,28,29,32])) (.region [.w 33 1,.c 33 0])))
def eB:List Nat:=[0,5,6,11,12,13,14,15,16,17,18,19,20,21,22,26,27,28,29,30,31,32,33]
def jW:List Nat:=[0,1,2,3,4,5,6,7,8,9,10,11,12,13,14,15,16,17,19,21,22,23,24,25,26,27,28,29,32]
def tU:cJ:=⟨4,34,.r [.y 4 0,.u 5,.g 6] (.r [.c2 7 1] (.r [.qn (.makeFunc (.func 75) [] [.var 7]),.c 8 0] (.r [.qn .makeMap,.c 9 0] (.r [.k 5 4,.H 38 0,.c 10 1] (.seq (.r [.am 23 3,.ac 24 23,.f 25 0] (.seq (.block 0 (.loop eB eM)) (.kill [0,1,2,4,5,6,8,9,10,11,12,13,14,15,16,17,18,19,20,21,22,23,24,25,26,27,28,29,30,31,32,33]))) (.r [.a 3,.s 0,.h 1 1,.v 1 7,.qn (.call (.fn 21) [.tmp 2,.tmp 3,.cst (.z 0)]),.i 4,.j 5 0,.j 5 1,.j 5 2,.c 18 6,.i 7,.c 19 8] (.seq (.r [.a 19,.Q 0,.i 1,.n 18 2,.qf (.indexSl 1 (.tmp 3) (.cst (.z 0))) 2,.p 1 4 2,.qf (.bin .neq (.tmp 5) (.cst (.z 0))) 2,.x 29 2 6] (.cond (.var 29) (.r [.u 5,.g 6] .ret) .skip)) (.r [.a 3,.s 0,.qn (.makeSlice 2 16 (.agg [.z 0,.z 0]) (.cst (.z 0)) (.tmp 1)),.c 20 2] (.seq (.r [.am 30 3,.ac 31 30,.f 33 0] (.seq (.block 2 (.loop jW om)) (.kill [0,1,2,3,4,5,6,7,8,9,10,11,12,13,14,15,16,17,18,19,21,22,23,24,25,26,27,28,29,30,31,32,33]))) (.r [.a 20,.c 5 0,.J 6] .ret)))))))))),[.tmp 5,.tmp 6]⟩
abbrev i9 (v1 v2 v3 v4 v7 v8 v9 v10 v23 v24 v25:AV):List AV:=[.u,v1,v2,v3,v4,.u,.u,v7,v8,v9,v10,.u,.u,.u,.u,.u,.u,.u,.u,.u,.u,.u,.u,v23,v24,v25,.u,.u,.u,.u,.u,.u,.u,.u]
theorem q8 {v23 v24:AV}:clear eB [d0,v1,v2,v3,v4,d5,d6,v7,v8,v9,v10,d11,d12,d13,d14,d15,d16,d17,d18,d19,d20,d21,d22,v23,v24,v25,d26,d27,d28,d29,d30,d31,d32,d33]=i9 v1 v2 v3 v4 v7 v8 v9 v10 v23 v24 v25:=by simp only [eB,clear,Ta,TJ,Tq,Tx]
theorem vq {k:List KC} {v23 v24:AV} (h:bG (evC E fuel eM) eB fuel (i9 v1 v2 v3 v4 v7 v8 v9 v10 v23 v24 v25) A=some o) :
  run E fuel (.code (.loop eB eM) :: k) [d0,v1,v2,v3,v4,d5,d6,v7,v8,v9,v10,d11,d12,d13,d14,d15,d16,d17,d18,d19,d20,d21,d22,v23,v24,v25,d26,d27,d28,d29,d30,d31,d32,d33] A=after E fuel k o:=aK eB _ _ (by rw [q8]; exact h)
abbrev pW (v18 v20 v30 v31 v33:AV):List AV:=[.u,.u,.u,.u,.u,.u,.u,.u,.u,.u,.u,.u,.u,.u,.u,.u,.u,.u,v18,.u,v20,.u,.u,.u,.u,.u,.u,.u,.u,.u,v30,v31,.u,v33]
theorem CM {v33:AV}:clear jW [d0,d1,d2,d3,d4,d5,d6,d7,d8,d9,d10,d11,d12,d13,d14,d15,d16,d17,v18,d19,v20,d21,d22,d23,d24,d25,d26,d27,d28,d29,v30,v31,d32,v33]=pW v18 v20 v30 v31 v33:=by simp only [jW,clear,Ta,TJ,Tq,Tx]
theorem Ld {k:List KC} {v33:AV} (h:bG (evC E fuel om) jW fuel (pW v18 v20 v30 v31 v33) A=some o) :
  run E fuel (.code (.loop jW om) :: k) [d0,d1,d2,d3,d4,d5,d6,d7,d8,d9,d10,d11,d12,d13,d14,d15,d16,d17,v18,d19,v20,d21,d22,d23,d24,d25,d26,d27,d28,d29,v30,v31,d32,v33] A=after E fuel k o:=aK jW _ _ (by rw [CM]; exact h)
theorem oI:aH prog Tryz.f35 4 [0,1,2,3,4,8,9,10,11,12,13,14,15,16,17,18,19,20,21,23,24,25,26,31,32,33,34,39,77,129,133,134,136,135] [37] true ([eB,jW],[eB,[0,1,2,4,5,6,8,9,10,11,12,13,14,15,16,17,18,19,20,21,22,23,24,25,26,27,28,29,30,31,32,33],jW,[0,1,2,3,4,5,6,7,8,9,10,11,12,13,14,15,16,17,18,19,21,22,23,24,25,26,27,28,29,30,31,32,33]])=some tU:=by kernel_rfl
theorem Gv:prog.funcs[35]?=some Tryz.f35:=by kernel_rfl
def Bj:cJ:=⟨3,6,.r [.y 3 0,.f 4 0] (.seq (.r [.a 2,.a 1,.h 1 1,.ap 5 0 2] (.cond (.var 5) (.r [.f 4 0] .ret) .skip)) (.r [.d 3 3,.b 1 0,.c 4 1] .ret)),[.tmp 4]⟩
theorem vP:aH prog Tryz.f37 3 [0,1,2,3,6,10] [] true ([],[])=some Bj:=by kernel_rfl
def Bi:cJ:=⟨1,3,.r [.y 1 0,.f 2 0] (.r [.d 1 1,.b 1 0,.d 3 1,.b 1 2,.m 1 3,.d 2 1,.b 1 5,.m 4 6,.c 2 7] .ret),[.tmp 2]⟩
theorem vO:aH prog Tryz.f38 1 [0,1,2] [] true ([],[])=some Bi:=by kernel_rfl
def zG:cJ:=⟨1,3,.r [.y 1 0,.g 2] (.r [.d 4 1,.b 1 0,.a6 1 1,.i 2,.qt (.load true 5 (.var 1)) 3,.qt (.call (.fn 40) [.tmp 4]) 3,.q 3 5,.c 2 6] .ret),[.tmp 2]⟩
theorem vN:aH prog Tryz.f22 1 [0,1,2] [] true ([],[])=some zG:=by kernel_rfl
def Ep:cJ:=⟨1,2,.r [.g 1] (.r [.a 0,.cj 24 0,.Q 1,.c 1 2] .ret),[.tmp 1]⟩
theorem Cg:aH prog Tryz.f67 1 [0,2] [] true ([],[])=some Ep:=by kernel_rfl
def RT:cJ:=⟨3,6,.r [.u 3] (.r [.a 0,.a 1,.a 2,.a 0,.s 3,.qn (.sliceM 2 (.tmp 0) (some (.tmp 1)) (.tmp 2) (.tmp 4))] (.seq (.r [.a 1,.a 2,.ap 5 0 1] (.cond (.var 5) (.r [.a 0,.c 3 0] .ret) .skip)) (.r [.a 0,.s 0,.c 4 1] (.r [.a 0,.a 1,.an 2 0 1,.a 0,.a 2,.qn (.sliceSl 2 (.tmp 3) (some (.tmp 4)) none),.aw 2 2 5,.c 0 6] (.r [.a 0,.a 0,.s 1,.a 4,.qn (.sliceSl 2 (.tmp 0) (some (.tmp 2)) (some (.tmp 3))),.qn (.clear 2 (.agg [.z 0,.z 0]) (.tmp 4))] (.r [.a 0,.c 3 0] .ret)))))),[.tmp 3]⟩
theorem LW:aH prog Tryz.f68 3 [0,1,2,6,7,16] [] true ([],[])=some RT:=by kernel_rfl
def Np:cJ:=⟨1,3,.r [.u 1] (.seq (.r [.a 0,.c7 2 0] (.cond (.var 2) (.r [.u 1] .ret) .skip)) (.r [.qn (.buildSlice 2 []),.a 0,.aw 2 0 1,.c 1 2] .ret)),[.tmp 1]⟩
theorem LV:aH prog Tryz.f69 1 [0,2,4] [] true ([],[])=some Np:=by kernel_rfl
def RS:cJ:=⟨3,6,.r [.u 3] (.r [.a 0,.a 1,.a 2,.a 0,.s 3,.qn (.sliceM 1 (.tmp 0) (some (.tmp 1)) (.tmp 2) (.tmp 4))] (.seq (.r [.a 1,.a 2,.ap 5 0 1] (.cond (.var 5) (.r [.a 0,.c 3 0] .ret) .skip)) (.r [.a 0,.s 0,.c 4 1] (.r [.a 0,.a 1,.an 1 0 1,.a 0,.a 2,.qn (.sliceSl 1 (.tmp 3) (some (.tmp 4)) none),.ao 1 2 5,.c 0 6] (.r [.a 0,.a 0,.s 1,.a 4,.qn (.sliceSl 1 (.tmp 0) (some (.tmp 2)) (some (.tmp 3))),.qn (.clear 1 (.z 0) (.tmp 4))] (.r [.a 0,.c 3 0] .ret)))))),[.tmp 3]⟩
theorem LU:aH prog Tryz.f70 3 [0,1,2,6,7,16] [] true ([],[])=some RS:=by kernel_rfl
def Ob:cJ:=⟨2,4,.r [.y 2 0] (.r [.qs 3 (.alloc 1 .nilF)] (.r [.qn (.makeFunc (.func 72) [] [.var 2,.var 3]),.t 1 3 0] (.region [.v 1 3,.v 1 1,.qn (.call (.tmp 0) [.tmp 1,.cst .nilS])]))),[]⟩
theorem LT:aH prog Tryz.f71 2 [0,1,2,3] [] true ([],[])=some Ob:=by kernel_rfl
def jz:MC:=.r [.F 13 12 11] (.seq (.cond (.var 13) .skip (.exit 0)) (.seq (.seq (.block 1 (.r [.a 12,.M 1 10 12,.b 1 1,.c 5 0,.c 6 2] (.r [.a 5,.a 0,.s 1,.r 2 1,.qn (.bin .eql (.tmp 0) (.tmp 3)),.c 7 4] (.seq (.r [.a 6,.Q 0,.i 1,.n 7 2,.G 3 2,.c4 4 2,.l 0 5,.l 5 5,.bm 7 1 5,.P 1 6 8 5,.z 1 9 5,.bw 5 10 2,.x 14 2 11] (.cond (.var 14) (.exit 1) .skip)) (.r [.a 0,.H 74 0,.c 8 1] (.r [.a 8,.a 5,.e 1 0 1,.qn (.store 1 (.tmp 2) (.cst .f))] (.seq (.r [.a 7,.N 15 0] (.cond (.var 15) (.region [.a 8,.a 5,.h 1 1,.e 1 0 2,.qn (.store 1 (.tmp 3) (.cst .t))]) .skip)) (.seq (.regionD [] [.v 1 3,.a 8,.a 1,.H 36 2,.a 5,.h 4 1,.cu 5,.qn (.appendN 1 8 (.tmp 3) (.tmp 6)),.cn 0 1 7,.N 16 8] [(0,3),(0,7)]) (.cond (.var 16) (.r [.g 4] .ret) .skip))))))))) (.kill [2,4,5,6,7,8,9,13,14,15,16])) (.region [.w 12 1,.c 12 0])))
def mh:List Nat:=[2,4,5,6,7,8,9,13,14,15,16]
def Jn:cJ:=⟨4,17,.r [.g 4] (.seq (.r [.a 0,.qn (.call (.fn 73) [.tmp 0,.cst .t]),.N 9 1] (.cond (.var 9) (.seq (.regionD [] [.v 1 2,.a 1,.H 36 1,.a9 0 2,.c 4 3] [(0,2)]) .ret) .skip)) (.seq (.r [.am 10 0,.ac 11 10,.f 12 0] (.seq (.block 0 (.loop mh jz)) (.kill [0,1,2,3,4,5,6,7,8,9,10,11,12,13,14,15,16]))) (.r [.J 4] .ret))),[.tmp 4]⟩
abbrev pQ (v0 v1 v3 v10 v11 v12:AV):List AV:=[v0,v1,.u,v3,.u,.u,.u,.u,.u,.u,v10,v11,v12,.u,.u,.u,.u]
theorem K8 {k:List KC} (h:bG (evC E fuel jz) mh fuel (pQ v0 v1 v3 v10 v11 v12) A=some o) :
  run E fuel (.code (.loop mh jz) :: k) [v0,v1,d2,v3,d4,d5,d6,d7,d8,d9,v10,v11,v12,d13,d14,d15,d16] A=after E fuel k o:=aK mh _ _ h
theorem Gd:aH prog Tryz.f72 4 [0,1,2,3,6,7,8,9,10,13,18,19,20,21,42,49,63] [] true ([mh],[mh,[0,1,2,3,4,5,6,7,8,9,10,11,12,13,14,15,16]])=some Jn:=by kernel_rfl
theorem Si:prog.funcs[72]?=some Tryz.f72:=by kernel_rfl
def Oa:cJ:=⟨2,3,.r [.g 2] (.r [.a 0,.a 1,.B 96 0 1,.Z 2 0,.c 2 3] .ret),[.tmp 2]⟩
theorem LS:aH prog Tryz.f73 2 [0,1,4] [] true ([],[])=some Oa:=by kernel_rfl
def KA:cJ:=⟨1,3,.r [.u 1] (.seq (.r [.a 0,.c7 2 0] (.cond (.var 2) (.r [.u 1] .ret) .skip)) (.r [.cc,.a 0,.qn (.append 1 1 (.tmp 0) (.tmp 1)),.c 1 2] .ret)),[.tmp 1]⟩
theorem LR:aH prog Tryz.f74 1 [0,2,4] [] true ([],[])=some KA:=by kernel_rfl
def No:cJ:=⟨2,2,.region [.v 1 1,.a 0,.cp 4 0 1,.t 1 1 2],[]⟩
theorem LQ:aH prog Tryz.f75 2 [0,1] [] true ([],[])=some No:=by kernel_rfl
def mA:MC:=.r [.F 6 5 4] (.seq (.cond (.var 6) .skip (.exit 0)) (.seq (.seq (.block 1 (.r [.a 5,.c 3 0] (.r [.a 1,.a 0,.a 3,.e 1 1 2,.b 1 3,.qs 7 (.eqBool false (.tmp 0) (.tmp 4))] (.cond (.var 7) (.r [.a 3,.c 2 0] .ret) .skip)))) (.kill [2,3,6,7])) (.region [.w 5 1,.c 5 0])))
def jO:List Nat:=[2,3,6,7]
def Nj:cJ:=⟨2,8,.r [.f 2 0] (.seq (.r [.a 0,.bs 4 0,.f 5 0] (.seq (.block 0 (.loop jO mA)) (.kill [0,1,2,3,4,5,6,7]))) (.r [.f 2 (-1)] .ret)),[.tmp 2]⟩
abbrev nP (v0 v1 v4 v5:AV):List AV:=[v0,v1,.u,.u,v4,v5,.u,.u]
theorem FN {k:List KC} (h:bG (evC E fuel mA) jO fuel (nP v0 v1 v4 v5) A=some o) :
  run E fuel (.code (.loop jO mA) :: k) [v0,v1,d2,d3,v4,v5,d6,d7] A=after E fuel k o:=aK jO _ _ h
theorem LI:aH prog Tryz.f96 2 [0,1,4,5,7,8,9,16] [] true ([jO],[jO,[0,1,2,3,4,5,6,7]])=some Nj:=by kernel_rfl
end Tr
namespace Tr
open Go
def RW:cJ:=⟨0,20,.r [.g 0] (.r [.c5 12,.V 1 5,.t 5 1 0] (.r [.k 5 1,.qn (.buildF 1 [.cst (.z 10),.cst (.z (-1))]),.bu 13 0 1,.i 2,.j 3 0,.j 3 1,.c 2 4,.c 3 5] (.r [.k 5 1,.b2,.bu 13 0 1,.i 2,.j 3 0,.j 3 1,.i 4,.c 4 5] (.r [.k 5 1,.bi,.bu 13 0 1,.i 2,.j 3 0,.j 3 1,.c 5 4,.c 6 5] (.r [.k 5 1,.b2,.qn (.call (.fn 13) [.tmp 0,.tmp 1,.cst (.z 0),.cst (.z 2)]),.i 2,.j 3 0,.j 3 1,.c 7 4,.c 8 5] (.r [.k 5 1,.bi,.a 5,.bn 14 0 1 2,.i 3,.j 4 0,.j 4 1,.c 9 5,.c 10 6] (.r [.k 5 1,.bi,.qn (.build [.z 0,.z 0] [(0,(1,.cst (.z 2))),(1,(1,.cst (.z 30)))]),.qn (.build [.z 0,.z 0] [(0,(1,.cst (.z 1))),(1,(1,.cst (.z 35)))]),.qn (.buildF 2 [.tmp 2,.tmp 3]),.bn 14 0 1 4,.i 5,.j 6 0,.j 6 1,.i 7,.c 11 8] (.r [.k 5 1,.H 6 0,.i 1,.j 2 0,.j 2 1,.aq 12 4,.t 4 12 3,.c 13 4] (.r [.k 5 1,.k 4 12,.qn (.call (.fn 7) [.tmp 0,.tmp 1,.cst (.z 0)]),.i 2,.j 3 0,.j 3 1,.c 14 4,.c 15 5] (.r [.k 5 1,.bi,.k 4 12,.bn 9 0 1 2,.i 3,.j 4 0,.j 4 1,.c 16 5,.c 17 6] (.r [.k 5 1,.b2,.k 4 12,.bn 9 0 1 2,.i 3,.j 4 0,.j 4 1,.i 5,.c 18 6] (.r [.a 3,.i 0,.l 4 1,.bb 2 1,.q 1 3,.i 4,.l 6 5,.q 5 6,.i 7,.l 8 8,.q 8 9,.i 10,.l 10 11,.q 11 12,.i 13,.l 11 14,.bb 15 14,.q 14 16,.i 17,.l 9 18,.U 19 78 18,.q 18 20,.i 21,.l 2 22,.br 22,.qt (.build [.z 0,.z 0] [(0,(1,.cst (.z 2))),(1,(1,.cst (.z 44)))]) 22,.qt (.buildF 2 [.tmp 24,.tmp 25]) 22,.bp 11 23 26 22,.q 22 27,.i 28,.l 5 29,.ah 30 29,.U 31 3 29,.q 29 32,.i 33,.l 7 34,.br 34,.qt (.buildF 2 [.tmp 36]) 34,.bp 11 35 37 34,.q 34 38,.c 19 39] (.r [.a 19,.i 0,.l 13 1,.U 2 0 1,.q 1 3,.i 4,.l 15 5,.U 6 0 5,.q 5 7,.i 8,.l 14 9,.ah 10 9,.U 11 5 9,.q 9 12,.i 13,.l 14 14,.qt (.indexSl 2 (.tmp 15) (.cst (.z 0))) 14,.qt (.load true 2 (.tmp 16)) 14,.qt (.build [.z 0,.z 0] [(1,(1,.cst (.z 2)))]) 14,.qt (.eqAgg false [(0,1),(1,1)] (.tmp 17) (.tmp 18)) 14,.q 14 19,.i 20,.l 17 21,.U 22 0 21,.q 21 23,.i 24,.l 16 25,.ah 26 25,.U 27 8 25,.q 25 28,.i 29,.l 18 30,.U 31 140 30,.q 30 32,.c 0 33] .ret))))))))))))),[.tmp 0]⟩
theorem L7:aH prog Tryz.f4 0 [0,1,2,3,5,6,7,8,9,10,11,13,14,15,16,17,18,19,21,22] [] true ([],[])=some RW:=by kernel_rfl
def Oc:cJ:=⟨1,6,.r [.y 1 0,.V 2 5,.u 3,.f 4 0] (.r [.d 0 1,.b 1 0,.d 1 1,.K 3 2,.B 15 1 3,.V 5 5,.t 5 5 4] (.r [.k 5 5,.k 5 5,.d 4 1,.b 1 2,.B 16 1 3,.d 5 1,.b 1 5,.qn (.call (.fn 17) [.tmp 6,.cst (.z 60)]),.t 5 2 0,.c 3 4,.c 4 7] .ret)),[.cell 2 true 5,.tmp 3,.tmp 4]⟩
theorem L5:aH prog Tryz.f5 1 [0,1,2,3,4,5] [16,17] true ([],[])=some Oc:=by kernel_rfl
def kK:MC:=.seq (.r [.a 3,.a 0,.s 1,.D 5 0 2] (.cond (.var 5) .skip (.exit 0))) (.seq (.seq (.block 1 (.r [.a 0,.a 3,.e 2 0 1,.K 2 2,.a 1,.a 3,.e 2 4 5,.K 2 6,.qs 6 (.eqAgg true [(0,1),(1,1)] (.tmp 3) (.tmp 7))] (.cond (.var 6) (.r [.g 2] .ret) .skip))) (.kill [2,4,5,6])) (.region [.a 3,.h 0 1,.c 3 1]))
def j9:List Nat:=[2,4,5,6]
def sG:cJ:=⟨2,7,.r [.g 2] (.seq (.r [.a 0,.s 0,.a 1,.s 2,.a8 4 1 3] (.cond (.var 4) (.r [.g 2] .ret) .skip)) (.seq (.r [.f 3 0] (.seq (.block 0 (.loop j9 kK)) (.kill [0,1,2,3,4,5,6]))) (.r [.J 2] .ret))),[.tmp 2]⟩
abbrev n6 (v0 v1 v3:AV):List AV:=[v0,v1,.u,v3,.u,.u,.u]
theorem F2 {k:List KC} (h:bG (evC E fuel kK) j9 fuel (n6 v0 v1 v3) A=some o) :
  run E fuel (.code (.loop j9 kK) :: k) [v0,v1,d2,v3,d4,d5,d6] A=after E fuel k o:=aK j9 _ _ h
theorem vV:aH prog Tryz.f11 2 [0,1,4,5,10,14,25] [] true ([j9],[j9,[0,1,2,3,4,5,6]])=some sG:=by kernel_rfl
def Jr:cJ:=⟨2,4,.r [.f 2 0] (.seq (.r [.a 0,.aj 3 0 0] (.cond (.var 3) (.region [.a 0,.h 0 1,.bj 1,.c 0 2]) .skip)) (.r [.a 0,.a 1,.ct 0 1,.c 2 2] .ret)),[.tmp 2]⟩
theorem Ge:aH prog Tryz.f17 2 [0,1,4,6] [] true ([],[])=some Jr:=by kernel_rfl
theorem Sj:prog.funcs[17]?=some Tryz.f17:=by kernel_rfl
def uW:cJ:=⟨1,3,.r [.y 1 0,.f 2 0] (.r [.d 1 1,.b 1 0,.d 3 1,.b 1 2,.m 1 3,.d 2 1,.b 1 5,.m 4 6,.c 2 7] .ret),[.tmp 2]⟩
theorem vU:aH prog Tryz.f65 1 [0,1,2] [] true ([],[])=some uW:=by kernel_rfl
def uV:cJ:=⟨0,1,.r [.V 0 5] (.r [.qn (.build [.z 0,.z 0] [(0,(1,.cst (.z 20))),(1,(1,.cst (.z 12)))]),.qn (.build [.z 0,.z 0] [(0,(1,.cst (.z 30))),(1,(1,.cst (.z 12)))]),.qn (.buildSlice 2 [.tmp 0,.tmp 1]),.qn (.build [.nilS,.z 0,.z 0,.z 0,.z 0] [(0,(1,.tmp 2)),(1,(1,.cst (.z 1))),(2,(1,.cst (.z 1))),(3,(1,.cst (.z 2))),(4,(1,.cst (.z 1)))]),.t 5 0 3] .ret),[.cell 0 true 5]⟩
theorem vT:aH prog Tryz.f12 0 [0] [] true ([],[])=some uV:=by kernel_rfl
def fN:MC:=.seq (.r [.a 5,.a 0,.s 1,.qn (.minmax false (.tmp 2) [.cst (.z 4)]),.qn (.minmax true (.cst (.z 1)) [.tmp 3]),.D 7 0 4] (.cond (.var 7) .skip (.exit 0))) (.seq (.seq (.block 1 (.r [.qn (.build [.z 0,.z 0] [(0,(1,.cst (.z 20))),(1,(1,.cst (.z 30)))]),.ag 6 2,.t 2 6 0] (.seq (.r [.a 5,.a 0,.s 1,.D 8 0 2] (.cond (.var 8) (.r [.a 0,.a 5,.e 2 0 1,.ch 2 0,.b 1 3,.qn (.call (.fn 39) [.tmp 4,.cst (.z 60)]),.d 0 6,.A 1 6 5] (.r [.a 0,.a 5,.e 2 0 1,.ch 2 1,.b 1 3,.qn (.call (.fn 39) [.tmp 4,.cst (.z 50)]),.d 1 6,.A 1 6 5] (.r [.a 0,.a 5,.e 2 0 1,.ch 2 1,.b 1 3,.qn (.bin .quo (.tmp 4) (.cst (.z 50))),.qn (.call (.fn 39) [.tmp 5,.cst (.z 3)]),.ab 9 6 0] (.cond (.var 9) (.region [.d 1 6,.b 1 0,.h 1 200,.d 1 6,.A 1 3 2]) .skip)))) .skip)) (.region [.d 0 4,.b 1 0,.k 2 6,.cv 2,.aw 2 1 3,.d 0 4,.A 1 5 4])))) (.kill [1,2,6,7,8,9])) (.region [.a 5,.h 0 1,.c 5 1]))
def pn:List Nat:=[1,2,6,7,8,9]
def uz:cJ:=⟨2,10,.r [.y 2 1,.V 3 5] (.seq (.regionD [39] [.ci 2 0,.b 1 0,.qn (.call (.fn 39) [.tmp 1,.cst (.z 4)]),.ci 2 1,.b 1 3,.qn (.call (.fn 39) [.tmp 4,.cst (.z 4)]),.ci 2 2,.b 1 6,.qn (.call (.fn 39) [.tmp 7,.cst (.z 5)]),.qn (.build [.nilS,.z 0,.z 0,.z 0,.z 0] [(4,(1,.cst (.z 1))),(1,(1,.tmp 2)),(2,(1,.tmp 5)),(3,(1,.tmp 8))]),.V 4 5,.t 5 4 9] [(0,10),(1,10),(2,10),(3,10),(4,10),(5,10),(6,10),(7,10),(8,10)]) (.seq (.r [.f 5 0] (.seq (.block 0 (.loop pn fN)) (.kill [0,1,2,5,6,7,8,9]))) (.r [.k 5 4,.t 5 3 0] .ret))),[.cell 3 true 5]⟩
abbrev r9 (v0 v3 v4 v5:AV):List AV:=[v0,.u,.u,v3,v4,v5,.u,.u,.u,.u]
theorem Lf {k:List KC} (h:bG (evC E fuel fN) pn fuel (r9 v0 v3 v4 v5) A=some o) :
  run E fuel (.code (.loop pn fN) :: k) [v0,d1,d2,v3,v4,v5,d6,d7,d8,d9] A=after E fuel k o:=aK pn _ _ h
theorem vS:aH prog Tryz.f15 2 [0,1,3,4,5,6,7,23,30,52] [39] true ([pn],[pn,[0,1,2,5,6,7,8,9]])=some uz:=by kernel_rfl
def mF:MC:=.seq (.r [.a 5,.a 4,.s 1,.D 6 0 2] (.cond (.var 6) .skip (.exit 0))) (.seq (.seq (.block 1 (.r [.a 4,.a 5,.e 1 0 1,.az 1 2 (-1)] (.r [.a 5,.a 1,.s 1,.qn (.bin .lss (.tmp 0) (.tmp 2)),.i 3,.l 1 4,.l 5 4,.P 1 5 6 4,.z 1 7 4,.qt (.call (.fn 39) [.tmp 8,.cst (.z 4)]) 4,.b6 9 0 4,.af 7 4 10] (.cond (.var 7) (.region [.a 4,.a 5,.a 1,.a 5,.e 1 2 3,.b 1 4,.qn (.bin .quo (.tmp 5) (.cst (.z 4))),.qn (.call (.fn 39) [.tmp 6,.cst (.z 120)]),.e 1 0 1,.A 1 8 7]) .skip)))) (.kill [0,2,3,6,7])) (.region [.a 5,.h 0 1,.c 5 1]))
def pm:List Nat:=[0,2,3,6,7]
def Jq:cJ:=⟨2,8,.r [.y 2 0,.u 3] (.r [.d 0 2,.b 1 0,.s 1,.ad 2 2,.c 4 3] (.seq (.r [.f 5 0] (.seq (.block 0 (.loop pm mF)) (.kill [0,1,2,3,5,6,7]))) (.r [.a 4,.c 3 0] .ret))),[.tmp 3]⟩
abbrev r8 (v1 v4 v5:AV):List AV:=[.u,v1,.u,.u,v4,v5,.u,.u]
theorem Le {k:List KC} (h:bG (evC E fuel mF) pm fuel (r8 v1 v4 v5) A=some o) :
  run E fuel (.code (.loop pm mF) :: k) [d0,v1,d2,d3,v4,v5,d6,d7] A=after E fuel k o:=aK pm _ _ h
theorem Cr:aH prog Tryz.f16 2 [0,1,2,4,5,6,14,31] [] true ([pm],[pm,[0,1,2,3,5,6,7]])=some Jq:=by kernel_rfl
def Ia:cJ:=⟨2,4,.r [.f 2 0] (.seq (.r [.a 0,.aj 3 0 0] (.cond (.var 3) (.region [.a 0,.h 0 1,.bj 1,.c 0 2]) .skip)) (.r [.a 0,.a 1,.ct 0 1,.c 2 2] .ret)),[.tmp 2]⟩
theorem Ch:aH prog Tryz.f39 2 [0,1,4,6] [] true ([],[])=some Ia:=by kernel_rfl
end Tr
namespace Tr
open Go
def qy:MC:=.seq (.r [.a 7,.a 6,.s 1,.D 12 0 2] (.cond (.var 12) .skip (.exit 2))) (.seq (.seq (.block 3 (.region [.a 2,.a 4,.h 1 1,.bg 2,.a 6,.a 7,.e 1 4 5,.b 1 6,.ao 1 3 7,.bg 8,.co 1 0 9,.c 2 10])) (.kill [1,5,8,9,10,11,12,13])) (.region [.a 7,.h 0 1,.c 7 1]))
def pj:List Nat:=[1,5,8,9,10,11,12,13]
def gz:MC:=.seq (.r [.a 4,.a 0,.s 1,.D 8 0 2] (.cond (.var 8) .skip (.exit 0))) (.seq (.seq (.block 1 (.seq (.r [.a 0,.a 4,.e 1 0 1,.b 1 2,.N 9 3] (.cond (.var 9) (.exit 1) .skip)) (.r [.g 3] (.seq (.r [.a 4,.h 0 1,.a 0,.s 2,.qn (.bin .lss (.tmp 1) (.tmp 3)),.i 4,.l 0 5,.l 4 5,.bm 7 1 5,.P 1 6 8 5,.z 1 9 5,.af 10 5 10] (.cond (.var 10) (.exit 1) .skip)) (.r [.cc,.a 0,.qn (.append 1 1 (.tmp 0) (.tmp 1)),.c 5 2] (.r [.a 5,.a 4,.e 1 0 1,.qn (.store 1 (.tmp 2) (.cst .f))] (.seq (.r [.a 4,.h 0 1,.a 0,.s 2,.D 11 1 3] (.cond (.var 11) (.region [.a 5,.a 4,.h 1 1,.e 1 0 2,.qn (.store 1 (.tmp 3) (.cst .t))]) .skip)) (.r [.a 5,.H 63 0,.c 6 1] (.r [.f 7 0] (.seq (.block 2 (.loop pj qy)) (.kill [1,5,6,7,8,9,10,11,12,13]))))))))))) (.kill [1,5,6,7,8,9,10,11,12,13])) (.region [.a 4,.h 0 1,.c 4 1]))
def jV:List Nat:=[1,5,6,7,8,9,10,11,12,13]
def ql:cJ:=⟨1,14,.r [.u 1] (.r [.u 2] (.r [.J 3] (.seq (.r [.f 4 0] (.seq (.block 0 (.loop jV gz)) (.kill [0,1,4,5,6,7,8,9,10,11,12,13]))) (.seq (.r [.am 13 3] (.cond (.var 13) (.r [.qn (.buildSlice 1 [.cst .nilS]),.c 1 0] .ret) .skip)) (.r [.a 2,.c 1 0] .ret))))),[.tmp 1]⟩
abbrev r7 (v0 v2 v3 v4 v6 v7:AV):List AV:=[v0,.u,v2,v3,v4,.u,v6,v7,.u,.u,.u,.u,.u,.u]
theorem FX {k:List KC} (h:bG (evC E fuel qy) pj fuel (r7 v0 v2 v3 v4 v6 v7) A=some o) :
  run E fuel (.code (.loop pj qy) :: k) [v0,d1,v2,v3,v4,d5,v6,v7,d8,d9,d10,d11,d12,d13] A=after E fuel k o:=aK pj _ _ h
abbrev fW (v0 v2 v3 v4:AV):List AV:=[v0,.u,v2,v3,v4,.u,.u,.u,.u,.u,.u,.u,.u,.u]
theorem BJ {k:List KC} (h:bG (evC E fuel gz) jV fuel (fW v0 v2 v3 v4) A=some o) :
  run E fuel (.code (.loop jV gz) :: k) [v0,d1,v2,v3,v4,d5,d6,d7,d8,d9,d10,d11,d12,d13] A=after E fuel k o:=aK jV _ _ h
theorem s5:aH prog Tryz.f63 1 [0,2,3,4,5,6,7,8,12,19,31,42,52,66] [] false ([jV,pj],[pj,jV,jV,[0,1,4,5,6,7,8,9,10,11,12,13]])=some ql:=by kernel_rfl
theorem JA:prog.funcs[63]?=some Tryz.f63:=by kernel_rfl
end Tr
namespace Tr
open Go
def jB:MC:=.seq (.r [.a 8,.a 1,.s 1,.D 17 0 2] (.cond (.var 17) .skip (.exit 0))) (.seq (.seq (.block 1 (.region [.a 7,.a 8,.a 1,.a 8,.e 1 2 3,.b 1 4,.Z 5 0,.e 1 0 1,.A 1 7 6])) (.kill [0,3,5,6,9,10,11,12,13,14,15,16,17,18,19])) (.region [.a 8,.h 0 1,.c 8 1]))
def jb:MC:=.seq (.r [.a 12,.a 9,.s 1,.D 18 0 2] (.cond (.var 18) .skip (.exit 2))) (.seq (.seq (.block 3 (.r [.k 5 4,.a 1,.a 2,.a 9,.a 12,.e 1 3 4,.b 1 5,.X 64 0 1 2 6,.i 7,.j 8 0,.j 8 1,.c 13 9,.c 14 10] (.r [.a 14,.i 0,.l 11 1,.bb 2 1,.c6 3 1,.n 13 4,.ar 5 4,.Y 6 0 4,.c4 7 4,.l 13 8,.l 13 8,.ah 10 8,.bo 11 1 8,.P 2 9 12 8,.av 1 13 8,.z 1 14 8,.l 10 8,.l 10 8,.ah 17 8,.bo 18 1 8,.P 2 16 19 8,.av 1 20 8,.z 1 21 8,.cr 15 22 8,.bw 8 23 4,.b0 4 24 1,.af 19 1 25] (.cond (.var 19) (.r [.a 13,.c 10 0] (.region [.J 11])) .skip)))) (.kill [0,3,5,6,7,8,13,14,15,16,17,18,19])) (.region [.a 12,.h 0 1,.c 12 1]))
def gT:List Nat:=[0,3,5,6,9,10,11,12,13,14,15,16,17,18,19]
def mz:List Nat:=[0,3,5,6,7,8,13,14,15,16,17,18,19]
def DJ:cJ:=⟨4,20,.r [.y 4 0,.u 5,.g 6] (.seq (.r [.k 5 4,.a 1,.a 2,.L 61 0 1 2,.Q 3,.i 4,.n 3 5,.n 1 5,.ar 7 5,.bc 28 6 8 5,.G 9 5,.x 15 5 10] (.cond (.var 15) (.r [.u 5,.g 6] .ret) .skip)) (.seq (.r [.a 3,.al 16 0 0] (.cond (.var 16) (.r [.k 5 4,.a 1,.a 2,.a 3,.X 62 0 1 2 3,.j 4 0,.j 4 1,.c 5 5,.c 6 6] .ret) .skip)) (.r [.a 1,.s 0,.qn (.makeSlice 1 1 .f (.tmp 1) (.tmp 1)),.c 7 2] (.seq (.r [.f 8 0] (.seq (.block 0 (.loop gT jB)) (.kill [0,3,5,6,8,9,10,11,12,13,14,15,16,17,18,19]))) (.r [.a 7,.H 63 0,.c 9 1] (.r [.u 10] (.r [.g 11] (.seq (.r [.f 12 0] (.seq (.block 2 (.loop mz jb)) (.kill [0,1,2,3,4,5,6,7,8,9,12,13,14,15,16,17,18,19]))) (.r [.a 10,.a 11,.c 5 0,.c 6 1] .ret))))))))),[.tmp 5,.tmp 6]⟩
abbrev lQ (v1 v2 v4 v7 v8:AV):List AV:=[.u,v1,v2,.u,v4,.u,.u,v7,v8,.u,.u,.u,.u,.u,.u,.u,.u,.u,.u,.u]
theorem vY:clear gT [d0,v1,v2,d3,v4,d5,d6,v7,v8,d9,d10,d11,d12,d13,d14,d15,d16,d17,d18,d19]=lQ v1 v2 v4 v7 v8:=rfl
theorem F3 {k:List KC} (h:bG (evC E fuel jB) gT fuel (lQ v1 v2 v4 v7 v8) A=some o) :
  run E fuel (.code (.loop gT jB) :: k) [d0,v1,v2,d3,v4,d5,d6,v7,v8,d9,d10,d11,d12,d13,d14,d15,d16,d17,d18,d19] A=after E fuel k o:=aK gT _ _ (by rw [vY]; exact h)
abbrev iq (v1 v2 v4 v9 v10 v11 v12:AV):List AV:=[.u,v1,v2,.u,v4,.u,.u,.u,.u,v9,v10,v11,v12,.u,.u,.u,.u,.u,.u,.u]
theorem Lm {k:List KC} (h:bG (evC E fuel jb) mz fuel (iq v1 v2 v4 v9 v10 v11 v12) A=some o) :
  run E fuel (.code (.loop mz jb) :: k) [d0,v1,v2,d3,v4,d5,d6,d7,d8,v9,v10,v11,v12,d13,d14,d15,d16,d17,d18,d19] A=after E fuel k o:=aK mz _ _ h
theorem Cx:aH prog Tryz.f29 4 [0,1,2,3,4,8,9,10,11,12,13,14,15,16,17,29,31,45,61,101] [] true ([gT,mz],[gT,[0,3,5,6,8,9,10,11,12,13,14,15,16,17,18,19],mz,[0,1,2,3,4,5,6,7,8,9,12,13,14,15,16,17,18,19]])=some DJ:=by kernel_rfl
end Tr
namespace Tr
open Go
def ev:MC:=.seq (.r [.a 11,.a 3,.s 1,.D 16 0 2] (.cond (.var 16) .skip (.exit 0))) (.seq (.seq (.block 1 (.r [.a 3,.a 11,.e 2 0 1,.K 2 2,.ag 12 2,.t 2 12 3] (.r [.a 10,.d 3 4,.b 1 1,.m 0 2,.c 13 3] (.seq (.r [.a 11,.cs 0 0,.i 1,.R 0 12 2,.z 1 3 2,.l 3 2,.l 11 2,.bo 6 1 2,.P 2 5 7 2,.av 0 8 2,.z 1 9 2,.bm 10 1 2,.b3 4 11 2,.af 17 2 12] (.cond (.var 17) (.region [.a 10,.c 13 0]) .skip)) (.seq (.r [.d 0 12,.b 1 0,.a 7,.ae 28 1 2,.Q 3,.i 4,.C 1 12 5,.p 1 6 5,.n 13 5,.a0 28 7 8 5,.G 9 5,.x 18 5 10] (.cond (.var 18) (.r [.f 5 0,.g 6] .ret) .skip)) (.seq (.r [.d 0 12,.b 1 0,.al 19 1 0] (.cond (.var 19) (.r [.d 0 12,.b 1 0,.r 1 1,.c 14 2] (.seq (.r [.a 8,.a 14,.e 1 0 1,.b 1 2,.au 3 0,.i 4,.C 1 12 5,.p 1 6 5,.n 8 5,.n 14 5,.O 1 8 9 5,.p 1 10 5,.n 8 5,.n 14 5,.O 1 12 13 5,.p 1 14 5,.C 0 4 5,.p 1 16 5,.n 14 5,.O 2 17 18 5,.a2 1 19 5,.p 1 20 5,.a3 15 21 5,.ax 28 7 11 22 5,.G 23 5,.x 20 5 24] (.cond (.var 20) (.r [.f 5 0,.g 6] .ret) .skip)) (.region [.a 8,.a 14,.e 1 0 1,.az 1 2 (-1)]))) .skip)) (.r [.d 1 12,.b 1 0,.a 9,.m 1 2,.c 10 3] (.r [.d 0 12,.b 1 0,.a 7,.D 21 1 2] (.cond (.var 21) (.seq (.r [.a 8,.d 0 12,.b 1 1,.e 1 0 2,.b 1 3,.ak 22 4 0] (.cond (.var 22) (.r [.f 5 0,.g 6] .ret) .skip)) (.region [.a 8,.d 0 12,.b 1 1,.a 10,.d 0 4,.b 1 4,.d 0 12,.b 1 6,.e 2 5 7,.o 0 8,.b 1 9,.m 3 10,.e 1 0 2,.A 1 12 11])) .skip))))))))) (.kill [0,1,2,5,6,12,13,14,15,16,17,18,19,20,21,22])) (.region [.a 11,.h 0 1,.c 11 1]))
def dW:List Nat:=[0,1,2,5,6,12,13,14,15,16,17,18,19,20,21,22]
def Bl:cJ:=⟨4,23,.r [.y 4 0,.f 5 0,.g 6] (.seq (.r [.k 5 4,.a 1,.a 2,.L 61 0 1 2,.N 15 3] (.cond (.var 15) (.r [.f 5 0,.g 6] .ret) .skip)) (.r [.d 0 4,.b 1 0,.s 1,.c 7 2] (.r [.cc,.a 1,.ao 1 0 1,.c 8 2] (.r [.k 5 4,.H 65 0,.c 9 1] (.r [.a 2,.c 10 0] (.seq (.r [.f 11 0] (.seq (.block 0 (.loop dW ev)) (.kill [0,1,2,3,4,5,6,7,8,9,11,12,13,14,15,16,17,18,19,20,21,22]))) (.r [.a 10,.c 5 0,.J 6] .ret))))))),[.tmp 5,.tmp 6]⟩
abbrev fL (v3 v4 v7 v8 v9 v10 v11:AV):List AV:=[.u,.u,.u,v3,v4,.u,.u,v7,v8,v9,v10,v11,.u,.u,.u,.u,.u,.u,.u,.u,.u,.u,.u]
theorem re:clear dW [d0,d1,d2,v3,v4,d5,d6,v7,v8,v9,v10,v11,d12,d13,d14,d15,d16,d17,d18,d19,d20,d21,d22]=fL v3 v4 v7 v8 v9 v10 v11:=rfl
theorem vt {k:List KC} (h:bG (evC E fuel ev) dW fuel (fL v3 v4 v7 v8 v9 v10 v11) A=some o) :
  run E fuel (.code (.loop dW ev) :: k) [d0,d1,d2,v3,v4,d5,d6,v7,v8,v9,v10,v11,d12,d13,d14,d15,d16,d17,d18,d19,d20,d21,d22] A=after E fuel k o:=aK dW _ _ (by rw [re]; exact h)
theorem Cv:aH prog Tryz.f30 4 [0,1,2,3,4,8,9,10,11,12,13,14,15,16,17,22,35,59,72,75,104,115,121] [28] true ([dW],[dW,[0,1,2,3,4,5,6,7,8,9,11,12,13,14,15,16,17,18,19,20,21,22]])=some Bl:=by kernel_rfl
def mE:MC:=.seq (.r [.a 5,.a 1,.s 1,.D 7 0 2] (.cond (.var 7) .skip (.exit 0))) (.seq (.seq (.block 1 (.r [.a 1,.a 5,.e 1 0 1,.b 1 2,.cj 28 3,.N 8 4] (.cond (.var 8) (.r [.g 4] .ret) .skip))) (.kill [0,2,3,4,6,7,8])) (.region [.a 5,.h 0 1,.c 5 1]))
def mt:List Nat:=[0,2,3,4,6,7,8]
def w8:cJ:=⟨3,9,.r [.y 3 0,.g 4] (.seq (.r [.k 5 3,.H 26 0,.Q 1,.i 2,.n 1 3,.ar 4 3,.C 0 3 3,.p 1 6 3,.ar 7 3,.bk 5 8 3,.I 3 9,.i 10,.n 2 11,.be 28 12 11,.G 13 11,.x 6 11 14] (.cond (.var 6) (.r [.g 4] .ret) .skip)) (.seq (.r [.f 5 0] (.seq (.block 0 (.loop mt mE)) (.kill [0,1,2,3,4,5,6,7,8]))) (.r [.J 4] .ret))),[.tmp 4]⟩
abbrev pV (v1 v5:AV):List AV:=[.u,v1,.u,.u,.u,v5,.u,.u,.u]
theorem FY {k:List KC} (h:bG (evC E fuel mE) mt fuel (pV v1 v5) A=some o) :
  run E fuel (.code (.loop mt mE) :: k) [d0,v1,d2,d3,d4,v5,d6,d7,d8] A=after E fuel k o:=aK mt _ _ h
theorem vR:aH prog Tryz.f61 3 [0,1,2,3,6,7,23,27,35] [] true ([mt],[mt,[0,1,2,3,4,5,6,7,8]])=some w8:=by kernel_rfl
def z9:cJ:=⟨3,4,.r [.g 3] (.r [.a 0,.a 1,.b9 0 1,.i 2,.l 0 3,.l 2 3,.a5 4 5 3,.q 3 6,.c 3 7] .ret),[.tmp 3]⟩
theorem s6:aH prog Tryz.f28 3 [0,1,2,6] [] true ([],[])=some z9:=by kernel_rfl
theorem JB:prog.funcs[28]?=some Tryz.f28:=by kernel_rfl
def mC:MC:=.seq (.r [.a 12,.a 11,.D 21 0 1] (.cond (.var 21) .skip (.exit 2))) (.seq (.seq (.block 3 (.r [.a 3,.a 12,.e 1 0 1,.b 1 2,.a 3,.a 11,.e 1 4 5,.b 1 6,.r 7 1,.ap 22 3 8] (.cond (.var 22) (.region [.a 10,.a 11,.a 12,.e 1 0 1,.A 1 3 2]) .skip))) (.kill [0,5,6,13,14,15,16,17,18,19,20,21,22,23,24,25,26,27,28,29,30,31,32])) (.region [.a 12,.h 0 1,.c 12 1]))
def mp:List Nat:=[0,5,6,13,14,15,16,17,18,19,20,21,22,23,24,25,26,27,28,29,30,31,32]
def qx:MC:=.seq (.r [.a 11,.a 8,.D 20 0 1] (.cond (.var 20) .skip (.exit 0))) (.seq (.seq (.block 1 (.r [.a 10,.a 11,.e 1 0 1,.az 1 2 (-1)] (.r [.f 12 0] (.seq (.block 2 (.loop mp mC)) (.kill [0,5,6,12,13,14,15,16,17,18,19,20,21,22,23,24,25,26,27,28,29,30,31,32]))))) (.kill [0,5,6,12,13,14,15,16,17,18,19,20,21,22,23,24,25,26,27,28,29,30,31,32])) (.region [.a 11,.h 0 1,.c 11 1]))
def jA:MC:=.seq (.r [.a 15,.a 8,.D 24 0 1] (.cond (.var 24) .skip (.exit 6))) (.seq (.seq (.block 7 (.r [.a 2,.d 3 4,.b 1 1,.m 0 2,.c 16 3] (.seq (.r [.a 15,.al 25 0 0] (.cond (.var 25) (.r [.a 9,.a 15,.r 1 1,.e 1 0 2,.b 1 3,.a 7,.m 4 5,.d 3 4,.b 1 7,.m 6 8,.c 16 9] (.r [.a 3,.a 15,.e 1 0 1,.b 1 2,.a 3,.a 15,.r 5 1,.e 1 4 6,.b 1 7,.h 8 1,.ap 26 3 9] (.cond (.var 26) (.region [.a 9,.a 15,.r 1 1,.e 1 0 2,.b 1 3,.a 7,.m 4 5,.c 16 6]) .skip))) .skip)) (.r [.a 3,.a 15,.e 1 0 1,.b 1 2,.r 3 1,.c 17 4] (.seq (.r [.a 10,.a 15,.e 1 0 1,.b 1 2,.aj 27 3 0] (.cond (.var 27) (.r [.a 16,.a 1,.a 17,.e 1 1 2,.b 1 3,.bq 0 4,.c 16 5] (.r [.a 9,.a 15,.e 1 0 1,.b 1 2,.a 16,.bq 3 4,.a 1,.a 17,.e 1 6 7,.b 1 8,.d 0 4,.b 1 10,.a 17,.e 2 11 12,.o 1 13,.b 1 14,.m 9 15,.bv 28 5 16] (.cond (.var 28) (.r [.u 5,.g 6] .ret) .skip))) (.region [.a 16,.a 9,.a 10,.a 15,.e 1 2 3,.b 1 4,.e 1 1 5,.b 1 6,.a 7,.m 7 8,.d 0 4,.b 1 10,.a 17,.e 2 11 12,.o 0 13,.b 1 14,.m 9 15,.bq 0 16,.c 16 17]))) (.seq (.r [.a 16,.a 9,.a 15,.e 1 1 2,.b 1 3,.bv 29 0 4] (.cond (.var 29) (.r [.a 9,.a 15,.a 16,.e 1 0 1,.A 1 3 2] (.region [.J 14])) .skip)) (.r [.a 10,.a 15,.e 1 0 1,.b 1 2,.Z 3 0,.i 4,.l 9 5,.l 10 5,.l 15 5,.P 1 7 8 5,.z 1 9 5,.P 1 6 10 5,.z 1 11 5,.l 9 5,.l 15 5,.P 1 13 14 5,.z 1 15 5,.l 7 5,.a7 16 17 5,.R 0 4 5,.z 1 19 5,.l 17 5,.P 2 20 21 5,.av 0 22 5,.z 1 23 5,.a7 18 24 5,.R 0 4 5,.z 1 26 5,.l 17 5,.P 2 27 28 5,.av 1 29 5,.z 1 30 5,.a7 25 31 5,.cr 12 32 5,.af 30 5 33] (.cond (.var 30) (.r [.a 9,.a 10,.a 15,.e 1 1 2,.b 1 3,.a 9,.a 15,.e 1 5 6,.b 1 7,.a 7,.ai 8 9,.d 0 4,.b 1 11,.a 17,.e 2 12 13,.o 0 14,.b 1 15,.ai 10 16,.d 0 4,.b 1 18,.a 17,.e 2 19 20,.o 1 21,.b 1 22,.ai 17 23,.e 1 0 4,.A 1 25 24] (.region [.J 14])) .skip)))))))) (.kill [0,5,6,11,12,16,17,18,19,20,21,22,23,24,25,26,27,28,29,30,31,32])) (.region [.a 15,.h 0 1,.c 15 1]))
def qw:MC:=.seq (.r [.a 19,.a 8,.D 32 0 1] (.cond (.var 32) .skip (.exit 8))) (.seq (.seq (.block 9 (.region [.a 18,.a 3,.a 19,.e 1 1 2,.b 1 3,.a 9,.a 19,.e 1 5 6,.b 1 7,.a4 4 8,.cv 9,.aw 2 0 10,.c 18 11])) (.kill [0,1,2,4,5,6,7,10,11,12,13,14,15,16,17,20,21,22,23,24,25,26,27,28,29,30,31,32])) (.region [.a 19,.h 0 1,.c 19 1]))
def jU:List Nat:=[0,5,6,11,12,16,17,18,19,20,21,22,23,24,25,26,27,28,29,30,31,32]
def mi:List Nat:=[0,1,2,4,5,6,7,10,11,12,13,14,15,16,17,20,21,22,23,24,25,26,27,28,29,30,31,32]
def iw:MC:=.seq (.r [.a 13,.a 8,.h 1 1,.aa 23 0 2] (.cond (.var 23) .skip (.exit 4))) (.seq (.seq (.block 5 (.r [.g 14] (.seq (.r [.f 15 0] (.seq (.block 6 (.loop jU jA)) (.kill [0,5,6,11,12,15,16,17,18,19,20,21,22,23,24,25,26,27,28,29,30,31,32]))) (.r [.a 14,.N 31 0] (.cond (.var 31) (.r [.u 18] (.seq (.r [.f 19 0] (.seq (.block 8 (.loop mi qw)) (.kill [0,1,2,3,4,5,6,7,8,9,10,11,12,13,14,15,16,17,19,20,21,22,23,24,25,26,27,28,29,30,31,32]))) (.r [.a 18,.c 5 0,.J 6] .ret))) .skip))))) (.kill [0,5,6,11,12,14,15,16,17,18,19,20,21,22,23,24,25,26,27,28,29,30,31,32])) (.region [.a 13,.h 0 1,.c 13 1]))
def mj:List Nat:=[0,5,6,12,13,14,15,16,17,18,19,20,21,22,23,24,25,26,27,28,29,30,31,32]
def iO:List Nat:=[0,5,6,11,12,14,15,16,17,18,19,20,21,22,23,24,25,26,27,28,29,30,31,32]
def zH:cJ:=⟨4,33,.r [.y 4 0,.u 5,.g 6] (.r [.k 5 4,.H 65 0,.c 7 1] (.r [.a 3,.s 0,.c 8 1] (.r [.a 8,.ad 0 0,.c 9 1] (.r [.a 8,.ad 0 0,.c 10 1] (.seq (.r [.f 11 0] (.seq (.block 0 (.loop mj qx)) (.kill [0,5,6,11,12,13,14,15,16,17,18,19,20,21,22,23,24,25,26,27,28,29,30,31,32]))) (.seq (.r [.f 13 0] (.seq (.block 4 (.loop iO iw)) (.kill [0,1,2,3,4,5,6,7,8,9,10,11,12,13,14,15,16,17,18,19,20,21,22,23,24,25,26,27,28,29,30,31,32]))) (.r [.u 5,.g 6] .ret))))))),[.tmp 5,.tmp 6]⟩
abbrev nW (v1 v2 v3 v4 v7 v8 v9 v10 v11 v12:AV):List AV:=[.u,v1,v2,v3,v4,.u,.u,v7,v8,v9,v10,v11,v12,.u,.u,.u,.u,.u,.u,.u,.u,.u,.u,.u,.u,.u,.u,.u,.u,.u,.u,.u,.u]
theorem CI:clear mp [d0,v1,v2,v3,v4,d5,d6,v7,v8,v9,v10,v11,v12,d13,d14,d15,d16,d17,d18,d19,d20,d21,d22,d23,d24,d25,d26,d27,d28,d29,d30,d31,d32]=nW v1 v2 v3 v4 v7 v8 v9 v10 v11 v12:=by simp only [mp,clear,Ta,TJ,Tq,Tx]
theorem Lb {k:List KC} (h:bG (evC E fuel mC) mp fuel (nW v1 v2 v3 v4 v7 v8 v9 v10 v11 v12) A=some o) :
  run E fuel (.code (.loop mp mC) :: k) [d0,v1,v2,v3,v4,d5,d6,v7,v8,v9,v10,v11,v12,d13,d14,d15,d16,d17,d18,d19,d20,d21,d22,d23,d24,d25,d26,d27,d28,d29,d30,d31,d32] A=after E fuel k o:=aK mp _ _ (by rw [CI]; exact h)
abbrev Az (v1 v2 v3 v4 v7 v8 v9 v10 v13 v14 v15:AV):List AV:=[.u,v1,v2,v3,v4,.u,.u,v7,v8,v9,v10,.u,.u,v13,v14,v15,.u,.u,.u,.u,.u,.u,.u,.u,.u,.u,.u,.u,.u,.u,.u,.u,.u]
theorem CF:clear jU [d0,v1,v2,v3,v4,d5,d6,v7,v8,v9,v10,d11,d12,v13,v14,v15,d16,d17,d18,d19,d20,d21,d22,d23,d24,d25,d26,d27,d28,d29,d30,d31,d32]=Az v1 v2 v3 v4 v7 v8 v9 v10 v13 v14 v15:=by simp only [jU,clear,Ta,TJ,Tq,Tx]
theorem BH {k:List KC} (h:bG (evC E fuel jA) jU fuel (Az v1 v2 v3 v4 v7 v8 v9 v10 v13 v14 v15) A=some o) :
  run E fuel (.code (.loop jU jA) :: k) [d0,v1,v2,v3,v4,d5,d6,v7,v8,v9,v10,d11,d12,v13,v14,v15,d16,d17,d18,d19,d20,d21,d22,d23,d24,d25,d26,d27,d28,d29,d30,d31,d32] A=after E fuel k o:=aK jU _ _ (by rw [CF]; exact h)
abbrev uF (v3 v8 v9 v18 v19:AV):List AV:=[.u,.u,.u,v3,.u,.u,.u,.u,v8,v9,.u,.u,.u,.u,.u,.u,.u,.u,v18,v19,.u,.u,.u,.u,.u,.u,.u,.u,.u,.u,.u,.u,.u]
theorem CE:clear mi [d0,d1,d2,v3,d4,d5,d6,d7,v8,v9,d10,d11,d12,d13,d14,d15,d16,d17,v18,v19,d20,d21,d22,d23,d24,d25,d26,d27,d28,d29,d30,d31,d32]=uF v3 v8 v9 v18 v19:=by simp only [mi,clear,Ta,TJ,Tq,Tx]
theorem La {k:List KC} (h:bG (evC E fuel qw) mi fuel (uF v3 v8 v9 v18 v19) A=some o) :
  run E fuel (.code (.loop mi qw) :: k) [d0,d1,d2,v3,d4,d5,d6,d7,v8,v9,d10,d11,d12,d13,d14,d15,d16,d17,v18,v19,d20,d21,d22,d23,d24,d25,d26,d27,d28,d29,d30,d31,d32] A=after E fuel k o:=aK mi _ _ (by rw [CE]; exact h)
abbrev r6 (v1 v2 v3 v4 v7 v8 v9 v10 v11:AV):List AV:=[.u,v1,v2,v3,v4,.u,.u,v7,v8,v9,v10,v11,.u,.u,.u,.u,.u,.u,.u,.u,.u,.u,.u,.u,.u,.u,.u,.u,.u,.u,.u,.u,.u]
theorem CG:clear mj [d0,v1,v2,v3,v4,d5,d6,v7,v8,v9,v10,v11,d12,d13,d14,d15,d16,d17,d18,d19,d20,d21,d22,d23,d24,d25,d26,d27,d28,d29,d30,d31,d32]=r6 v1 v2 v3 v4 v7 v8 v9 v10 v11:=by simp only [mj,clear,Ta,TJ,Tq,Tx]
theorem BI {k:List KC} (h:bG (evC E fuel qx) mj fuel (r6 v1 v2 v3 v4 v7 v8 v9 v10 v11) A=some o) :
  run E fuel (.code (.loop mj qx) :: k) [d0,v1,v2,v3,v4,d5,d6,v7,v8,v9,v10,v11,d12,d13,d14,d15,d16,d17,d18,d19,d20,d21,d22,d23,d24,d25,d26,d27,d28,d29,d30,d31,d32] A=after E fuel k o:=aK mj _ _ (by rw [CG]; exact h)
abbrev pT (v1 v2 v3 v4 v7 v8 v9 v10 v13:AV):List AV:=[.u,v1,v2,v3,v4,.u,.u,v7,v8,v9,v10,.u,.u,v13,.u,.u,.u,.u,.u,.u,.u,.u,.u,.u,.u,.u,.u,.u,.u,.u,.u,.u,.u]
theorem CD:clear iO [d0,v1,v2,v3,v4,d5,d6,v7,v8,v9,v10,d11,d12,v13,d14,d15,d16,d17,d18,d19,d20,d21,d22,d23,d24,d25,d26,d27,d28,d29,d30,d31,d32]=pT v1 v2 v3 v4 v7 v8 v9 v10 v13:=by simp only [iO,clear,Ta,TJ,Tq,Tx]
theorem BG {k:List KC} (h:bG (evC E fuel iw) iO fuel (pT v1 v2 v3 v4 v7 v8 v9 v10 v13) A=some o) :
  run E fuel (.code (.loop iO iw) :: k) [d0,v1,v2,v3,v4,d5,d6,v7,v8,v9,v10,d11,d12,v13,d14,d15,d16,d17,d18,d19,d20,d21,d22,d23,d24,d25,d26,d27,d28,d29,d30,d31,d32] A=after E fuel k o:=aK iO _ _ (by rw [CD]; exact h)
theorem vQ:aH prog Tryz.f64 4 [0,1,2,3,4,8,9,10,11,12,13,14,15,16,17,18,19,20,21,22,33,41,53,61,66,74,95,112,136,160,199,227,230] [] true ([mj,mp,iO,jU,mi],[mp,mj,mj,[0,5,6,11,12,13,14,15,16,17,18,19,20,21,22,23,24,25,26,27,28,29,30,31,32],jU,[0,5,6,11,12,15,16,17,18,19,20,21,22,23,24,25,26,27,28,29,30,31,32],mi,[0,1,2,3,4,5,6,7,8,9,10,11,12,13,14,15,16,17,19,20,21,22,23,24,25,26,27,28,29,30,31,32],iO,[0,1,2,3,4,5,6,7,8,9,10,11,12,13,14,15,16,17,18,19,20,21,22,23,24,25,26,27,28,29,30,31,32]])=some zH:=by kernel_rfl
def N9:cJ:=⟨1,3,.r [.y 1 0,.g 2] (.r [.k 5 1,.H 57 0,.i 1,.R 4 1 2,.z 1 3 2,.U 4 1 2,.q 2 5,.c 2 6] .ret),[.tmp 2]⟩
theorem LO:aH prog Tryz.f26 1 [0,1,2] [] true ([],[])=some N9:=by kernel_rfl
def gU:MC:=.seq (.r [.a 4,.a 3,.D 8 0 1] (.cond (.var 8) .skip (.exit 0))) (.seq (.seq (.block 1 (.r [.d 0 1,.b 1 0,.a 4,.e 2 1 2,.K 2 3,.ag 5 2,.t 2 5 4] (.r [.d 0 5,.b 1 0,.au 1 0,.i 2,.C 0 5 3,.p 1 4 3,.Y 5 100000 3,.I 3 6,.i 7,.C 1 5 8,.p 1 9 8,.bl 10 0 8,.I 8 11,.i 12,.C 1 5 13,.p 1 14 13,.Y 15 100000 13,.x 9 13 16] (.cond (.var 9) (.r [.g 2] .ret) .skip)))) (.kill [0,2,5,6,7,8,9,10,11,12,13,14])) (.region [.a 4,.h 0 1,.c 4 1]))
def kz:MC:=.r [.F 13 12 11] (.seq (.cond (.var 13) .skip (.exit 2)) (.seq (.seq (.block 3 (.r [.M 1 10 12,.b 1 0,.c 6 1] (.r [.a 6,.au 0 0,.i 1,.n 6 2,.Y 3 10000 2,.x 14 2 4] (.cond (.var 14) (.r [.g 2] .ret) .skip)))) (.kill [0,1,2,3,4,5,6,7,8,9,13,14])) (.region [.w 12 1,.c 12 0])))
def iN:List Nat:=[0,2,5,6,7,8,9,10,11,12,13,14]
def me:List Nat:=[0,1,2,3,4,5,6,7,8,9,13,14]
def Eo:cJ:=⟨1,15,.r [.y 1 0,.g 2] (.r [.d 0 1,.b 1 0,.s 1,.c 3 2] (.seq (.r [.a 3,.au 0 1,.i 1,.n 3 2,.Y 3 4 2,.I 2 4,.i 5,.C 4 1 6,.p 1 7 6,.bl 8 1 6,.I 6 9,.i 10,.C 4 1 11,.p 1 12 11,.Y 13 2 11,.x 7 11 14] (.cond (.var 7) (.r [.g 2] .ret) .skip)) (.seq (.r [.f 4 0] (.seq (.block 0 (.loop iN gU)) (.kill [0,2,3,4,5,6,7,8,9,10,11,12,13,14]))) (.seq (.r [.d 1 1,.b 1 0,.d 2 1,.b 1 2,.d 3 1,.b 1 4,.qs 10 (.buildSlice 1 [.tmp 1,.tmp 3,.tmp 5]),.ac 11 10,.f 12 0] (.seq (.block 2 (.loop me kz)) (.kill [0,1,2,3,4,5,6,7,8,9,10,11,12,13,14]))) (.r [.J 2] .ret))))),[.tmp 2]⟩
abbrev kv (v1 v3 v4:AV):List AV:=[.u,v1,.u,v3,v4,.u,.u,.u,.u,.u,.u,.u,.u,.u,.u]
theorem BF {k:List KC} (h:bG (evC E fuel gU) iN fuel (kv v1 v3 v4) A=some o) :
  run E fuel (.code (.loop iN gU) :: k) [d0,v1,d2,v3,v4,d5,d6,d7,d8,d9,d10,d11,d12,d13,d14] A=after E fuel k o:=aK iN _ _ h
abbrev nN (v10 v11 v12:AV):List AV:=[.u,.u,.u,.u,.u,.u,.u,.u,.u,.u,v10,v11,v12,.u,.u]
theorem FM {k:List KC} (h:bG (evC E fuel kz) me fuel (nN v10 v11 v12) A=some o) :
  run E fuel (.code (.loop me kz) :: k) [d0,d1,d2,d3,d4,d5,d6,d7,d8,d9,v10,v11,v12,d13,d14] A=after E fuel k o:=aK me _ _ h
theorem LH:aH prog Tryz.f57 1 [0,1,2,3,4,5,7,26,29,54,61,62,63,64,72] [] true ([iN,me],[iN,[0,2,3,4,5,6,7,8,9,10,11,12,13,14],me,[0,1,2,3,4,5,6,7,8,9,10,11,12,13,14]])=some Eo:=by kernel_rfl
end Tr
namespace Tr
open Go
open Clu (aW aT)
open Cy (bq lar lE dG bS cR okA lvM)
abbrev dc:=Int × Int
def wT (T:aW):Int:=T.pick+T.travel+T.place
def tmT (T:aW) (k:Nat):Int:=(T.ch.getD k (0,0)).1
def syT (T:aW) (k:Nat):Int:=(T.ch.getD k (0,0)).2
def btw (T:aW) (last next:Int):Int:=if next=last+1 then 0 else T.travel
def kQ (T:aW) (inn:List Int) (t:dc):Option (List Int):=
 if 1<=t.1 then (if 0<=inn.getD (t.1-1).toNat 0/\inn.getD (t.1-1).toNat 0<=t.2/\t.2<=inn.getD (t.1-1).toNat 0+syT T (t.1-1).toNat then some (inn.set (t.1-1).toNat (-1)) else none) else some inn
def wu (T:aW) (inn:List Int) (t:dc):Option (List Int):=
 if t.1<inn.length then (if 0<=inn.getD t.1.toNat 0 then none else some (inn.set t.1.toNat (t.2+wT T+tmT T t.1.toNat))) else some inn
structure St where
 inn:List Int
 last:Int
 fin:Int
def fD (T:aW) (s:St) (t:dc):Option St:=
 if (0<=t.1/\t.1<=s.inn.length)/\s.fin+btw T s.last t.1<=t.2/\t.2<=1000000000 then
  (kQ T s.inn t).bind fun a=>(wu T a t).map fun b=>⟨b,t.1,t.2+wT T⟩
 else none
def rV (T:aW):St->List dc->Option St
 | s,[]=>some s
 | s,t :: r=>(fD T s t).bind fun s'=>rV T s' r
def Sit (T:aW) (rd:List Int) (free:Int):Prop:=(aT T/\T.blades=1)/\rd.length=T.ch.length/\(0<=free/\free<=2000000)/\∀t∈rd,-1<=t/\t<=500000
instance (T:aW) (rd:List Int) (free:Int):Decidable (Sit T rd free):=inferInstanceAs (Decidable (_/\_))
def st0 (rd:List Int) (free:Int):St:=⟨rd,-2,free⟩
def gV (T:aW) (rd:List Int) (free:Int) (l:List dc):Option Int:=if Sit T rd free then (rV T (st0 rd free) l).map (·.fin) else none
def mvB (b:List Bool) (k:Nat):List Bool:=if k+1=b.length then b.set k false else (b.set k false).set (k+1) true
def kP (b:List Bool) (k:Nat):Bool:=b.getD k false && (decide (k+1=b.length) || !b.getD (k+1) false)
def gZ:Nat->List Bool->List (List Int)
 | 0,b=>if b.any id then [] else [[]]
 | d+1,b=>if b.any id then (List.range b.length).flatMap fun k=>if kP b k then (gZ d (mvB b k)).map (((k:Int)+1) :: ·) else [] else [[]]
def Emp:List Bool->List Int->Prop
 | b,[]=>b.any id=false
 | b,t :: r=>∃k:Nat,t=(k:Int)+1/\k<b.length/\kP b k=true/\Emp (mvB b k) r
def mB:List Bool->Nat
 | []=>0
 | x :: r=>(if x then r.length+1 else 0)+mB r
theorem qs:∀b:List Bool,mB b=0->b.any id=false
 | [],_=>rfl
 | x :: r,h=>by
  simp only [mB] at h
  cases x
  ·simp only [List.any_cons,id,Bool.false_or]
   exact qs r (by simpa using h)
  ·simp at h
theorem KE:∀b:List Bool,b.any id=false->mB b=0
 | [],_=>rfl
 | x :: r,h=>by
  simp only [List.any_cons,id,Bool.or_eq_false_iff] at h
  simp only [mB,h.1,KE r h.2]; rfl
theorem Bo (v:Bool):∀(b:List Bool) (k:Nat),k<b.length->mB (b.set k v)+(if b.getD k false then b.length-k else 0)=mB b+(if v then b.length-k else 0)
 | [],k,h=>absurd h (Uv _)
 | x :: r,0,_=>by simp [mB]; omega
 | x :: r,k+1,h=>by
  have:=Bo v r k (by simpa using h)
  simp only [Tx,mB,Ti,List.getD_cons_succ,Tn,Nat.add_sub_add_right]
  omega
theorem g8 (b:List Bool) (k:Nat):(mvB b k).length=b.length:=by
 unfold mvB; split <;> simp
theorem iZ:kP b k=true↔b.getD k false=true/\(k+1=b.length\/b.getD (k+1) false=false):=by
 simp [kP]
theorem mR (b:List Bool) (i j:Nat) (v:Bool):(b.set i v).getD j false=if i=j/\i<b.length then v else b.getD j false:=by
 simp only [Sr,List.getElem?_set]
 by_cases h:i=j
 ·subst h
  by_cases h2:i<b.length
  ·simp [h2]
  ·simp [h2]
 ·simp [h]
theorem H8 (hk:k<b.length) (j:Nat):(mvB b k).getD j false=if j=k then false else if j=k+1/\k+1<b.length then true else b.getD j false:=by
 unfold mvB
 split
 ·rw [mR]
  by_cases h:j=k
  ·subst h; simp [hk]
  ·rw [SD (by omega),SD h,SD (by omega)]
 ·rw [mR,mR,Ti]
  by_cases h:j=k
  ·subst h; rw [SD (by omega),SA ⟨rfl,hk⟩,SA rfl]
  ·by_cases h2:j=k+1
   ·subst h2; rw [SA ⟨rfl,by omega⟩,SD (by omega),SA ⟨rfl,by omega⟩]
   ·rw [SD (by omega),SD (by omega),SD h,SD (by omega)]
theorem w9 (hk:k<b.length) (hc:kP b k=true):mB (mvB b k)+1=mB b:=by
 obtain ⟨h1,h2⟩:=iZ.1 hc
 have e1:=Bo false b k hk
 rw [h1] at e1
 unfold mvB
 split
 ·simp at e1; omega
 ·rename_i h
  have e2:=Bo true (b.set k false) (k+1) (by simp; omega)
  have e3:(b.set k false).getD (k+1) false=false:=by
   rw [mR,SD (by omega)]
   exact h2.resolve_left h
  rw [e3] at e2
  simp at e1 e2
  omega
theorem nK:∀ {b:List Bool} {o:List Int},Emp b o->o.length=mB b
 | b,[],h=>(KE b h).symm
 | b,t :: r,⟨k,_,hk,hc,hr⟩=>by
  have:=nK hr
  have:=w9 hk hc
  simp only [Tn]; omega
theorem Jb:b.any id=true↔∃k,k<b.length/\b.getD k false=true:=by
 rw [List.any_eq_true]
 constructor
 ·rintro ⟨x,hx,h⟩
  obtain ⟨k,hk,rfl⟩:=Tb.1 hx
  exact ⟨k,hk,by rw [Sr,Sq hk]; exact h⟩
 ·rintro ⟨k,hk,h⟩
  rw [Sr,Sq hk] at h
  exact ⟨b[k],SC hk,h⟩
theorem pH (h:b.any id=false) (k:Nat):b.getD k false=false:=by
 by_cases hk:k<b.length
 ·cases e:b.getD k false
  ·rfl
  ·rw [Jb.2 ⟨k,hk,e⟩] at h; cases h
 ·rw [Sr,Tf (UN hk)]; rfl
theorem tR:∀(d:Nat) (b:List Bool) (o:List Int),mB b<=d->(o∈gZ d b↔Emp b o)
 | 0,b,o,hd=>by
  have ha:=qs b (by omega)
  unfold gZ
  rw [ha]
  cases o with
  | nil=>simp [Emp,ha]
  | cons t r=>
   simp only [SZ,Uc,SY,Emp]
   constructor
   ·intro h; cases h
   ·rintro ⟨k,_,_,hc,_⟩
    exact absurd (pH ha k) (by rw [(iZ.1 hc).1]; decide)
 | d+1,b,o,hd=>by
  unfold gZ
  cases ha:b.any id
  ·cases o with
   | nil=>simp [Emp,ha]
   | cons t r=>
    simp only [SZ,Uc,SY,Emp]
    constructor
    ·intro h; cases h
    ·rintro ⟨k,_,_,hc,_⟩
     exact absurd (pH ha k) (by rw [(iZ.1 hc).1]; decide)
  ·simp only [TS,U6,Ty]
   cases o with
   | nil=>
    simp only [Emp,ha]
    constructor
    ·rintro ⟨k,_,h⟩
     split at h
     ·simp at h
     ·simp at h
    ·intro h; cases h
   | cons t r=>
    simp only [Emp]
    constructor
    ·rintro ⟨k,hk,h⟩
     split at h
     ·rename_i hc
      obtain ⟨r',hr',e⟩:=SU.1 h
      injection e with e1 e2
      subst e2
      have:=w9 hk hc
      exact ⟨k,e1.symm,hk,hc,(tR d _ _ (by omega)).1 hr'⟩
     ·cases h
    ·rintro ⟨k,rfl,hk,hc,hr⟩
     have:=w9 hk hc
     refine ⟨k,hk,?_⟩
     rw [SA hc]
     exact SU.2 ⟨r,(tR d _ _ (by omega)).2 hr,rfl⟩
theorem KF:∀b:List Bool,b.length<=4->mB b<=10
 | [],_=>by simp [mB]
 | [a],_=>by cases a <;> decide
 | [a,b],_=>by cases a <;> cases b <;> decide
 | [a,b,c],_=>by cases a <;> cases b <;> cases c <;> decide
 | [a,b,c,d],_=>by cases a <;> cases b <;> cases c <;> cases d <;> decide
 | _ :: _ :: _ :: _ :: _ :: _,h=>by simp at h
def upd (a:Nat->Option Nat) (k v:Nat):Nat->Option Nat:=fun j=>if j=k then some v else a j
def gP (T:aW) (rd:List Int) (a:Nat->Option Nat) (k:Nat):Nat × Int:=match a k with | some p=>(p,wT T+tmT T k) | none=>(0,rd.getD k 0)
def hdT (T:aW) (free:Int) (i:Nat) (last t:Int):bq:=if i=0 then ⟨0,1,free+T.travel,0⟩ else ⟨i,(i:Int)+1,wT T+btw T last t,0⟩
def gK (T:aW) (rd:List Int) (free:Int):Nat->Int->(Nat->Option Nat)->List Int->List bq
 | _,_,_,[]=>[]
 | i,last,a,t :: r=>hdT T free i last t :: ⟨((gP T rd a (t-1).toNat).1:Int),(i:Int)+1,(gP T rd a (t-1).toNat).2,0⟩ ::
   ⟨(i:Int)+1,((gP T rd a (t-1).toNat).1:Int),-((gP T rd a (t-1).toNat).2+syT T (t-1).toNat),0⟩ :: gK T rd free (i+1) t (upd a t.toNat (i+1)) r
def cC (T:aW) (rd:List Int) (free:Int) (o:List Int):List bq:=gK T rd free 0 (-2) (fun _=>none) o
def mkX (X:Nat->Int):Nat->List Int->List dc
 | _,[]=>[]
 | i,t :: r=>(t,X (i+1)) :: mkX X (i+1) r
def KX (X:Nat->Int) (L:List bq):Prop:=∀a∈L,X a.f.toNat+a.w<=X a.t.toNat
theorem lG {a:bq} {L:List bq}:KX X (a :: L)↔X a.f.toNat+a.w<=X a.t.toNat/\KX X L:=by simp [KX]
def RI (T:aW) (rd:List Int) (X:Nat->Int) (b:List Bool) (inn:List Int) (a:Nat->Option Nat):Prop:=
 b.length=T.ch.length/\inn.length=T.ch.length/\∀k,k<T.ch.length->(b.getD k false=true->0<=inn.getD k 0/\inn.getD k 0=X (gP T rd a k).1+(gP T rd a k).2)/\(b.getD k false=false->inn.getD k 0 = -1)
theorem dh (l:List Int) (i j:Nat) (v:Int):(l.set i v).getD j 0=if i=j/\i<l.length then v else l.getD j 0:=by
 simp only [Sr,List.getElem?_set]
 by_cases h:i=j
 ·subst h
  by_cases h2:i<l.length
  ·simp [h2]
  ·simp [h2]
 ·simp [h]
theorem dp {T:aW} (hv:aT T) (k:Nat):0<=tmT T k/\tmT T k<=100000/\0<=syT T k/\syT T k<=100000:=by
 unfold tmT syT
 by_cases hk:k<T.ch.length
 ·rw [Sr,Sq hk]
  have:=hv.1 _ (SC hk)
  unfold Clu.lJ at this
  simp only [S9]
  omega
 ·rw [Sr,Tf (UN hk)]
  simp
theorem de {T:aW} (hv:aT T):(0<=T.travel/\T.travel<=10000)/\0<=wT T/\wT T<=30000:=by
 obtain ⟨_,⟨h1,h2,h3⟩,_⟩:=hv
 unfold wT; omega
theorem nh {T:aW} (hv:aT T) (a b:Int):0<=btw T a b/\btw T a b<=T.travel:=by
 have:=(de hv).1
 unfold btw; split <;> omega
theorem DX {T:aW} {inn:List Int} {a:Nat->Option Nat} (_hv:aT T) (hR:RI T rd X b inn a) (hk:k<b.length) (hc:kP b k=true) (i:Nat) (last e:Int) (_he:0<=e) :
  fD T ⟨inn,last,e⟩ ((k:Int)+1,X (i+1)) =
   if (e+btw T last ((k:Int)+1)<=X (i+1))/\(X (gP T rd a k).1+(gP T rd a k).2<=X (i+1)/\X (i+1)<=X (gP T rd a k).1+(gP T rd a k).2+syT T k)/\X (i+1)<=1000000000 then
    some ⟨if k+1=b.length then inn.set k (-1) else (inn.set k (-1)).set (k+1) (X (i+1)+wT T+tmT T (k+1)),(k:Int)+1,X (i+1)+wT T⟩ else none:=by
 obtain ⟨hb,hi,hA⟩:=hR
 obtain ⟨h1,h2⟩:=iZ.1 hc
 obtain ⟨h3,h4⟩:=(hA k (by omega)).1 h1
 have e1:((k:Int)+1-1).toNat=k:=by omega
 have e2:((k:Int)+1).toNat=k+1:=by omega
 unfold fD kQ wu
 simp only [e1,e2,<-h4]
 by_cases c1:e+btw T last ((k:Int)+1)<=X (i+1)
 rotate_left
 ·rw [SD (fun h=>c1 h.2.1),SD (fun h=>c1 h.1)]
 by_cases c4:X (i+1)<=1000000000
 rotate_left
 ·rw [SD (fun h=>c4 h.2.2),SD (fun h=>c4 h.2.2)]
 rw [SA ⟨by omega,c1,c4⟩,SA (by omega)]
 by_cases c2:inn.getD k 0<=X (i+1)/\X (i+1)<=inn.getD k 0+syT T k
 rotate_left
 ·rw [SD (fun h=>c2 h.2),SD (fun h=>c2 h.2.1)]; rfl
 rw [SA ⟨h3,c2⟩,SA ⟨c1,c2,c4⟩]
 simp only [Te,Ti]
 by_cases c5:k+1=b.length
 ·rw [SD (by omega),SA c5]; rfl
 ·rw [SA (by omega),SD c5]
  have hn:inn.getD (k+1) 0 = -1:=(hA (k+1) (by omega)).2 (h2.resolve_left c5)
  have hn2:(inn.set k (-1)).getD (k+1) 0 = -1:=by rw [dh,SD (by omega)]; exact hn
  rw [hn2,SD (by omega)]; rfl
theorem G0 {T:aW} {inn:List Int} {a:Nat->Option Nat} (hR:RI T rd X b inn a) (hk:k<b.length) (i:Nat) (h0:0<=X (i+1)+wT T+tmT T (k+1)) :
  RI T rd X (mvB b k) (if k+1=b.length then inn.set k (-1) else (inn.set k (-1)).set (k+1) (X (i+1)+wT T+tmT T (k+1))) (upd a (k+1) (i+1)):=by
 obtain ⟨hb,hi,hA⟩:=hR
 refine ⟨by rw [g8]; exact hb,by split <;> simp [hi],fun j hj=>?_⟩
 rw [H8 hk]
 by_cases c5:k+1=b.length
 ·rw [SA c5,dh]
  by_cases h:j=k
  ·subst h
   rw [SA rfl,SA ⟨rfl,by omega⟩]
   exact ⟨fun h=>by simp at h,fun _=>rfl⟩
  ·rw [SD h,SD (by omega),SD (by omega)]
   have e:gP T rd (upd a (k+1) (i+1)) j=gP T rd a j:=by
    unfold gP upd; rw [SD (by omega)]
   rw [e]; exact hA j hj
 ·rw [SD c5,dh,dh,Ti]
  by_cases h:j=k
  ·subst h
   rw [SA rfl,SD (by omega),SA ⟨rfl,by omega⟩]
   exact ⟨fun h=>by simp at h,fun _=>rfl⟩
  ·by_cases h2:j=k+1
   ·subst h2
    rw [SD h,SA ⟨rfl,by omega⟩,SA ⟨rfl,by omega⟩]
    have e:gP T rd (upd a (k+1) (i+1)) (k+1)=(i+1,wT T+tmT T (k+1)):=by
     unfold gP upd; rw [SA rfl]
    rw [e]
    exact ⟨fun _=>⟨h0,by simp only; omega⟩,fun h=>by simp at h⟩
   ·rw [SD h,SD (by omega),SD (by omega),SD (by omega)]
    have e:gP T rd (upd a (k+1) (i+1)) j=gP T rd a j:=by
     unfold gP upd; rw [SD (by omega)]
    rw [e]; exact hA j hj
theorem CZ {T:aW} (hv:aT T) (hf:0<=free) (hX0:X 0=0):∀(o:List Int) (b:List Bool) (inn:List Int) (a:Nat->Option Nat) (i:Nat) (last e:Int),Emp b o->RI T rd X b inn a->0<=e->(if i=0 then e=free/\last = -2 else e=X i+wT T) ->
  ((∃s,rV T ⟨inn,last,e⟩ (mkX X i o)=some s)↔KX X (gK T rd free i last a o)/\∀j,i<j->j<=i+o.length->X j<=1000000000) /\
  ∀s,rV T ⟨inn,last,e⟩ (mkX X i o)=some s->s.fin=(if o=[] then e else X (i+o.length)+wT T)/\(∀k,s.inn.getD k 0<=0->True)/\s.inn.length=T.ch.length/\∀k,k<T.ch.length->s.inn.getD k 0 = -1
 | [],b,inn,a,i,last,e,hE,hR,he,hi=>by
  refine ⟨⟨fun _=>⟨fun a ha=>(by simp [gK] at ha),fun j h1 h2=>(by simp at h2; omega)⟩,fun _=>⟨_,rfl⟩⟩,fun s hs=>?_⟩
  injection hs with hs; subst hs
  refine ⟨by rw [SA rfl],fun _ _=>trivial,hR.2.1,fun k hk=>?_⟩
  exact (hR.2.2 k hk).2 (pH hE k)
 | t :: r,b,inn,a,i,last,e,⟨k,ht,hk,hc,hr⟩,hR,he,hi=>by
  subst ht
  have hw:=de hv
  have hb:=nh hv last ((k:Int)+1)
  have e1:((k:Int)+1-1).toNat=k:=by omega
  have e2:((k:Int)+1).toNat=k+1:=by omega
  have hs:=DX hv hR hk hc i last e he
  have hh:(X (hdT T free i last ((k:Int)+1)).f.toNat+(hdT T free i last ((k:Int)+1)).w<=X (hdT T free i last ((k:Int)+1)).t.toNat)↔e+btw T last ((k:Int)+1)<=X (i+1):=by
   unfold hdT
   by_cases h:i=0
   ·subst h
    rw [SA rfl] at hi ⊢
    have:btw T last ((k:Int)+1)=T.travel:=by
     unfold btw; rw [SD (by omega)]
    rw [this,hi.1]
    simp only [Int.toNat_zero,hX0,Up]
    show 0+(free+T.travel)<=X 1↔_
    omega
   ·rw [SD h] at hi ⊢
    rw [hi]
    simp only [SM]
    have:((i:Int)+1).toNat=i+1:=by omega
    rw [this]; omega
  have e3:((i:Int)+1).toNat=i+1:=by omega
  simp only [mkX,rV,gK,lG,hh,e1,e2,e3,SM,hs]
  by_cases hcond:(e+btw T last ((k:Int)+1)<=X (i+1))/\(X (gP T rd a k).1+(gP T rd a k).2<=X (i+1)/\X (i+1)<=X (gP T rd a k).1+(gP T rd a k).2+syT T k)/\X (i+1)<=1000000000
  rotate_left
  ·rw [SD hcond]
   refine ⟨⟨(by rintro ⟨s,h⟩; cases h),?_⟩,fun s h=>by cases h⟩
   rintro ⟨⟨h1,h2,h3,_⟩,h4⟩
   exact absurd ⟨h1,⟨h2,by omega⟩,h4 (i+1) (by omega) (by simp)⟩ hcond
  rw [SA hcond]
  obtain ⟨g1,g2,g3⟩:=hcond
  have hR':=G0 hR hk i (by have:=(dp hv (k+1)).1; omega)
  have ih:=CZ hv hf hX0 r (mvB b k) _ (upd a (k+1) (i+1)) (i+1) ((k:Int)+1) (X (i+1)+wT T) hr hR' (by omega) (by rw [SD (by omega)])
  simp only [Te]
  refine ⟨ih.1.trans ⟨?_,?_⟩,fun s hs=>?_⟩
  ·rintro ⟨h1,h2⟩
   refine ⟨⟨g1,g2.1,by omega,h1⟩,fun j j1 j2=>?_⟩
   by_cases hj:j=i+1
   ·subst hj; exact g3
   ·exact h2 j (by omega) (by simp at j2; omega)
  ·rintro ⟨⟨_,_,_,h1⟩,h2⟩
   exact ⟨h1,fun j j1 j2=>h2 j (by omega) (by simp; omega)⟩
  ·obtain ⟨q1,q2⟩:=ih.2 s hs
   refine ⟨?_,q2⟩
   rw [q1,SD (show ¬ (((k:Int)+1) :: r=[]) by simp)]
   cases r with
   | nil=>simp
   | cons t' r'=>
    rw [SD (by simp)]
    simp only [Tn]
    rw [show i+1+(r'.length+1)=i+(r'.length+1+1) by omega]
end Tr
namespace Tr
open Go
open Clu (aW aT)
open Cy (bq lar lE dG bS cR okA lvM Pos tV eW)
def b0 (rd:List Int):List Bool:=rd.map fun t=>decide (0<=t)
theorem eO (rd:List Int):(b0 rd).length=rd.length:=by simp [b0]
theorem Gu (hk:k<rd.length):(b0 rd).getD k false=decide (0<=rd.getD k 0):=by
 simp [b0,Sq hk]
theorem w4 {T:aW} (hS:Sit T rd free) (k:Nat) : -1<=rd.getD k 0/\rd.getD k 0<=500000:=by
 by_cases hk:k<rd.length
 ·rw [Sr,Sq hk]
  exact hS.2.2.2 _ (SC hk)
 ·rw [Sr,Tf (UN hk)]
  simp
theorem RI0 {T:aW} (hS:Sit T rd free) (hX:X 0=0):RI T rd X (b0 rd) rd (fun _=>none):=by
 refine ⟨by rw [eO]; exact hS.2.1,hS.2.1,fun k hk=>?_⟩
 have hk':k<rd.length:=by rw [hS.2.1]; exact hk
 have:=w4 hS k
 rw [Gu hk']
 refine ⟨fun h=>?_,fun h=>?_⟩
 ·have h:=UI h
  refine ⟨h,?_⟩
  show _=X 0+rd.getD k 0
  omega
 ·have h:=of_decide_eq_false h
  omega
theorem ng {T:aW} {rd:List Int} {free:Int} (hS:Sit T rd free) (hX:X 0=0) {o:List Int} (hE:Emp (b0 rd) o) :
  ((∃s,rV T (st0 rd free) (mkX X 0 o)=some s)↔KX X (cC T rd free o)/\∀j,0<j->j<=o.length->X j<=1000000000) /\
  ∀s,rV T (st0 rd free) (mkX X 0 o)=some s->s.fin=(if o=[] then free else X o.length+wT T)/\s.inn.length=T.ch.length/\∀k,k<T.ch.length->s.inn.getD k 0 = -1:=by
 have h:=CZ (T:=T) (rd:=rd) (free:=free) hS.1.1 hS.2.2.1.1 hX o (b0 rd) rd (fun _=>none) 0 (-2) free hE (RI0 hS hX) hS.2.2.1.1 (by rw [SA rfl]; exact ⟨rfl,rfl⟩)
 rw [Up] at h
 exact ⟨h.1,fun s hs=>⟨(h.2 s hs).1,(h.2 s hs).2.2⟩⟩
theorem ru:∀ {b:List Bool} {o:List Int},Emp b o->∀t∈o,1<=t/\t<=b.length
 | _,[],_=>fun t ht=>by cases ht
 | b,t :: r,⟨k,e,hk,_,hr⟩=>fun x hx=>by
  rcases Tj.1 hx with rfl | hx
  ·omega
  ·have:=ru hr x hx
   rw [g8] at this; exact this
theorem yU {T:aW} (hS:Sit T rd free) (N:Int):∀(o:List Int) (i:Nat) (last:Int) (a:Nat->Option Nat),(∀k p,a k=some p->p<=i)->(i:Int)+o.length<=N-1->(i=0->o≠[]->free+T.travel<=1000000)->∀x∈gK T rd free i last a o,okA N x/\x.k=0
 | [],i,last,a,ha,hn,hf=>fun x hx=>by cases hx
 | t :: r,i,last,a,ha,hn,hf=>fun x hx=>by
  have hw:=de hS.1.1
  have hb:=nh hS.1.1 last t
  have hc:=dp hS.1.1 (t-1).toNat
  have hfr:=hS.2.2.1
  have hrd:=w4 hS (t-1).toNat
  have hs:(gP T rd a (t-1).toNat).1<=i /\ -1<=(gP T rd a (t-1).toNat).2/\(gP T rd a (t-1).toNat).2<=500000:=by
   unfold gP
   split
   ·rename_i p hp
    exact ⟨ha _ _ hp,by simp only; omega,by simp only; omega⟩
   ·exact ⟨UD _,by simp only; omega,by simp only; omega⟩
  obtain ⟨s1,s2,s3⟩:=hs
  simp only [Tn] at hn
  simp only [gK,Tj] at hx
  rcases hx with rfl | rfl | rfl | hx
  ·unfold hdT
   split
   ·have:=hf (by assumption) (by simp)
    refine ⟨⟨⟨by simp,by simp only; omega⟩,⟨by simp,by simp only; omega⟩,⟨by simp only; omega,by simp only; omega⟩,by simp⟩,rfl⟩
   ·refine ⟨⟨⟨by simp,by simp only; omega⟩,⟨by simp only; omega,by simp only; omega⟩,⟨by simp only; omega,by simp only; omega⟩,by simp⟩,rfl⟩
  ·exact ⟨⟨⟨by simp,by simp only; omega⟩,⟨by simp only; omega,by simp only; omega⟩,⟨by simp only; omega,by simp only; omega⟩,by simp⟩,rfl⟩
  ·exact ⟨⟨⟨by simp only; omega,by simp only; omega⟩,⟨by simp,by simp only; omega⟩,⟨by simp only; omega,by simp only; omega⟩,by simp⟩,rfl⟩
  ·refine yU hS N r (i+1) t _ (fun k p hp=>?_) (by push_cast; omega) (fun h=>by omega) x hx
   unfold upd at hp
   split at hp
   ·injection hp with hp; omega
   ·have:=ha k p hp; omega
theorem rk (T:aW) (rd:List Int) (free:Int):∀(o:List Int) (i:Nat) (last:Int) (a:Nat->Option Nat),(gK T rd free i last a o).length=3*o.length
 | [],_,_,_=>rfl
 | t :: r,i,last,a=>by simp only [gK,Tn,rk T rd free r]; omega
theorem Dy {T:aW} (hS:Sit T rd free) (hX0:X 0=0):∀(o:List Int) (i:Nat) (last:Int) (a:Nat->Option Nat),KX X (gK T rd free i last a o)->0<=X i->∀j,i<=j->j<=i+o.length->0<=X j
 | [],i,last,a,hK,hi,j,h1,h2=>by
  have:j=i:=by simp at h2; omega
  rw [this]; exact hi
 | t :: r,i,last,a,hK,hi,j,h1,h2=>by
  by_cases hj:j=i
  ·rw [hj]; exact hi
  simp only [gK,lG] at hK
  obtain ⟨k1,_,_,k4⟩:=hK
  have hw:=de hS.1.1
  have hb:=nh hS.1.1 last t
  have hfr:=hS.2.2.1
  have:0<=X (i+1):=by
   unfold hdT at k1
   split at k1
   ·rename_i h0
    subst h0
    simp only [Int.toNat_zero] at k1
    have e:(1:Int).toNat=1:=rfl
    rw [e] at k1
    show 0<=X 1
    omega
   ·simp only [SM] at k1
    have e:((i:Int)+1).toNat=i+1:=by omega
    rw [e] at k1
    omega
  exact Dy hS hX0 r (i+1) t _ k4 this j (by omega) (by simp at h2; omega)
def lX (X:Nat->Int) (m:Nat):List Int:=(List.range m).map X
theorem By (X:Nat->Int) {m:Nat} (h:j<m):(lX X m).getD j 0=X j:=by simp [lX,h]
theorem K3 (X:Nat->Int) (m:Nat):(lX X m).length=m:=by simp [lX]
theorem yo {n:Int} {L:List bq} (hL:∀x∈L,okA n x/\x.k=0) {s:List Int} (hs:∀j:Nat,(j:Int)<n->s.getD j 0=X j):lE (lar 0 L) s↔KX X L:=by
 unfold lE KX lar
 constructor
 ·intro h a ha
  have:=h _ (SU.2 ⟨a,ha,rfl⟩)
  obtain ⟨⟨o1,o2,_,_⟩,o3⟩:=hL a ha
  simp only [bq.len,o3] at this
  rw [hs _ (by omega),hs _ (by omega)] at this
  omega
 ·intro h x hx
  obtain ⟨a,ha,rfl⟩:=SU.1 hx
  have:=h a ha
  obtain ⟨⟨o1,o2,_,_⟩,o3⟩:=hL a ha
  simp only [bq.len,o3]
  rw [hs _ (by omega),hs _ (by omega)]
  omega
def dg (T:aW) (rd:List Int) (free:Int) (o:List Int):Option (List dc):=
 if (lvM ((o.length:Int)+1) (cC T rd free o) 0).2.2=true/\(lvM ((o.length:Int)+1) (cC T rd free o) 0).1.getD 0 0=0 then
  some (mkX (fun j=>(lvM ((o.length:Int)+1) (cC T rd free o) 0).1.getD j 0) 0 o) else none
theorem wd (h4:rd.length<=4):mB (b0 rd)<=10:=KF _ (by rw [eO]; exact h4)
theorem gY {T:aW} (hS:Sit T rd free):1<=rd.length/\rd.length<=4:=by
 have:=hS.1.1.2.2; rw [hS.2.1]; omega
theorem nE {T:aW} (hS:Sit T rd free) {o:List Int} (hE:Emp (b0 rd) o):o.length<=10:=by
 rw [nK hE]; exact wd (gY hS).2
theorem gm {T:aW} (hS:Sit T rd free) {o:List Int} (hE:Emp (b0 rd) o) (hf:o≠[]->free+T.travel<=1000000):bS ((o.length:Int)+1) (cC T rd free o) 0/\∀x∈cC T rd free o,okA ((o.length:Int)+1) x/\x.k=0:=by
 have hl:=nE hS hE
 have h:=yU hS ((o.length:Int)+1) o 0 (-2) (fun _=>none) (fun k p h=>by cases h) (by push_cast; omega) (fun _=>hf)
 refine ⟨⟨⟨⟨by omega,by omega⟩,?_,fun a ha=>(h a ha).1⟩,by unfold Cy.cA; omega⟩,h⟩
 unfold cC
 rw [rk]; omega
theorem vk {T:aW} (hS:Sit T rd free) (hX:X 0=0) {o:List Int} (hE:Emp (b0 rd) o) (hne:o≠[]) (hK:KX X (cC T rd free o)):free+T.travel<=1000000:=by
 cases o with
 | nil=>exact absurd rfl hne
 | cons t r=>
  unfold cC at hK
  simp only [gK,lG] at hK
  obtain ⟨k1,_,k3,_⟩:=hK
  have hc:=dp hS.1.1 (t-1).toNat
  have hrd:=w4 hS (t-1).toNat
  have e1:(1:Int).toNat=1:=rfl
  have e2:((0:Nat):Int)+1=1:=rfl
  simp only [hdT,SA,gP,Int.toNat_zero,e1,e2,SM,hX] at k1 k3
  omega
theorem CY {T:aW} (hS:Sit T rd free) (hY:Y 0=0) {o:List Int} (hE:Emp (b0 rd) o) (h:∃s,rV T (st0 rd free) (mkX Y 0 o)=some s) :
  bS ((o.length:Int)+1) (cC T rd free o) 0/\dG ((o.length:Int)+1) (cC T rd free o) 0 (lX Y (o.length+1)):=by
 obtain ⟨hK,hB⟩:=(ng hS hY hE).1.1 h
 obtain ⟨hR,hA⟩:=gm hS hE (fun hne=>vk hS hY hE hne hK)
 refine ⟨hR,hR,by rw [K3]; push_cast; rfl,fun x hx=>?_,(yo hA (fun j hj=>By Y (by omega))).2 hK⟩
 obtain ⟨j,hj,rfl⟩:=SU.1 hx
 have hj:=Ty.1 hj
 have hp:=Dy hS hY o 0 _ _ hK (by omega) j (UD _) (by omega)
 refine ⟨hp,?_⟩
 by_cases h0:j=0
 ·rw [h0,hY]; omega
 ·exact hB j (by omega) (by omega)
theorem il {T:aW} (hS:Sit T rd free) {o:List Int} (hE:Emp (b0 rd) o) {l:List dc} (h:dg T rd free o=some l) :
  ∃X:Nat->Int,X 0=0/\l=mkX X 0 o/\(∃s,rV T (st0 rd free) l=some s)/\∀Y:Nat->Int,Y 0=0->(∃s,rV T (st0 rd free) (mkX Y 0 o)=some s)->∀j,j<=o.length->X j<=Y j:=by
 unfold dg at h
 split at h
 ·rename_i hc
  obtain ⟨h1,h2⟩:=hc
  injection h with h
  have hR:bS ((o.length:Int)+1) (cC T rd free o) 0:=by
   unfold lvM at h1
   split at h1
   ·assumption
   ·cases h1
  obtain ⟨_,hv,hm,hl⟩:=eW hR h1
  have hA:∀x∈cC T rd free o,okA ((o.length:Int)+1) x/\x.k=0:=by
   refine (gm hS hE (fun hne=>?_)).2
   cases o with
   | nil=>exact absurd rfl hne
   | cons t r=>
    have:=(hR.1.2.2 (hdT T free 0 (-2) t) (by unfold cC; simp [gK])).2.2.1.2
    simpa [hdT] using this
  refine ⟨_,h2,h.symm,?_,fun Y hY hYc j hj=>?_⟩
  ·rw [<-h]
   refine (ng hS h2 hE).1.2 ⟨(yo hA (fun j _=>rfl)).1 hv.2.2.2,fun j hj1 hj2=>?_⟩
   have hjl:j<(lvM ((o.length:Int)+1) (cC T rd free o) 0).1.length:=by have:=hv.2.1; omega
   have:=(hv.2.2.1 _ (SC hjl)).2
   simp only [Sr,Sq hjl,S9]
   exact this
  ·have:=hl _ (CY hS hY hE hYc).2 j (by omega)
   rw [By Y (by omega)] at this
   exact this
 ·cases h
theorem zj {T:aW} (hS:Sit T rd free) {o:List Int} (hE:Emp (b0 rd) o) (h:dg T rd free o=none) (hY:Y 0=0):rV T (st0 rd free) (mkX Y 0 o)=none:=by
 cases hc:rV T (st0 rd free) (mkX Y 0 o) with
 | none=>rfl
 | some s=>
  obtain ⟨hR,hV⟩:=CY hS hY hE ⟨s,hc⟩
  have hok:(lvM ((o.length:Int)+1) (cC T rd free o) 0).2.2=true:=(tV hR).2 (Cy.vg hR.1.2.2 hV.2.2.2)
  obtain ⟨_,hv,_,hl⟩:=eW hR hok
  have h0:=hl _ hV 0 (by omega)
  rw [By Y (by omega),hY] at h0
  have hz:(lvM ((o.length:Int)+1) (cC T rd free o) 0).1.getD 0 0=0:=by
   have hjl:0<(lvM ((o.length:Int)+1) (cC T rd free o) 0).1.length:=by have:=hv.2.1; omega
   have:=(hv.2.2.1 _ (SC hjl)).1
   rw [Sr,Sq hjl,S9] at h0 ⊢
   omega
  unfold dg at h
  rw [SA ⟨hok,hz⟩] at h
  cases h
def gg (T:aW) (rd:List Int) (free:Int) (s:Option (List dc × Int)) (o:List Int):Option (List dc × Int):=
 match dg T rd free o with
 | none=>s
 | some l=>match s with
  | none=>some (l,(gV T rd free l).getD 0)
  | some x=>if (gV T rd free l).getD 0<x.2 then some (l,(gV T rd free l).getD 0) else some x
def drF (T:aW) (rd:List Int) (free:Int):Option (List dc × Int):=(gZ 10 (b0 rd)).foldl (gg T rd free) none
def cK (T:aW) (rd:List Int) (free:Int):Option (List dc):=if Sit T rd free then (drF T rd free).map (·.1) else none
theorem BS (T:aW) (rd:List Int) (free:Int):∀(os:List (List Int)) (s:Option (List dc × Int)),
  (os.foldl (gg T rd free) s=none↔s=none/\∀o∈os,dg T rd free o=none) /\
  ∀x,os.foldl (gg T rd free) s=some x->(s=some x\/∃o∈os,dg T rd free o=some x.1/\x.2=(gV T rd free x.1).getD 0)/\(∀y,s=some y->x.2<=y.2)/\∀o∈os,∀l,dg T rd free o=some l->x.2<=(gV T rd free l).getD 0
 | [],s=>⟨⟨fun h=>⟨h,fun o ho=>by cases ho⟩,fun h=>h.1⟩,fun x hx=>⟨.inl hx,fun y hy=>(by
   have hx':s=some x:=hx
   rw [hx'] at hy; injection hy with hy; rw [hy]; exact TY _),fun o ho=>(by cases ho)⟩⟩
 | o :: os,s=>by
  have ih:=BS T rd free os (gg T rd free s o)
  simp only [Ta]
  cases ht:dg T rd free o with
  | none=>
   have e:gg T rd free s o=s:=by unfold gg; rw [ht]
   rw [e] at ih ⊢
   refine ⟨ih.1.trans ⟨fun h=>⟨h.1,fun o' ho'=>?_⟩,fun h=>⟨h.1,fun o' ho'=>h.2 o' (TE _ ho')⟩⟩,fun x hx=>?_⟩
   ·rcases Tj.1 ho' with rfl | ho'
    ·exact ht
    ·exact h.2 o' ho'
   ·obtain ⟨h1,h2,h3⟩:=ih.2 x hx
    refine ⟨h1.imp id (fun ⟨o',k1,k2⟩=>⟨o',TE _ k1,k2⟩),h2,fun o' ho' l hl=>?_⟩
    rcases Tj.1 ho' with rfl | ho'
    ·rw [ht] at hl; cases hl
    ·exact h3 o' ho' l hl
  | some l=>
   obtain ⟨z,hz,hz1,hz2,hz3⟩:∃z,gg T rd free s o=some z/\(s=some z\/z.1=l/\z.2=(gV T rd free l).getD 0)/\(∀y,s=some y->z.2<=y.2)/\z.2<=(gV T rd free l).getD 0:=by
    unfold gg
    rw [ht]
    cases s with
    | none=>exact ⟨_,rfl,.inr ⟨rfl,rfl⟩,fun y hy=>(by cases hy),TY _⟩
    | some y=>
     simp only
     split
     ·rename_i hlt
      exact ⟨_,rfl,.inr ⟨rfl,rfl⟩,fun y' hy=>(by injection hy with hy; subst hy; simp only; omega),TY _⟩
     ·rename_i hlt
      exact ⟨_,rfl,.inl rfl,fun y' hy=>(by injection hy with hy; subst hy; exact TY _),by omega⟩
   rw [hz] at ih ⊢
   refine ⟨⟨fun h=>(by have:=ih.1.1 h; cases this.1),fun h=>(by have:=h.2 o Um; rw [ht] at this; cases this)⟩,fun x hx=>?_⟩
   obtain ⟨h1,h2,h3⟩:=ih.2 x hx
   refine ⟨?_,fun y hy=>?_,fun o' ho' l' hl'=>?_⟩
   ·rcases h1 with h1 | ⟨o',k1,k2⟩
    ·injection h1 with h1
     subst h1
     rcases hz1 with h | ⟨e1,e2⟩
     ·exact .inl h
     ·exact .inr ⟨o,Um,by rw [e1]; exact ht,by rw [e1,e2]⟩
    ·exact .inr ⟨o',TE _ k1,k2⟩
   ·have:=h2 z rfl
    have:=hz2 y hy
    omega
   ·rcases Tj.1 ho' with rfl | ho'
    ·rw [ht] at hl'; injection hl' with hl'
     subst hl'
     have:=h2 z rfl
     omega
    ·exact h3 o' ho' l' hl'
theorem qi {T:aW} (hS:Sit T rd free) {o:List Int}:o∈gZ 10 (b0 rd)↔Emp (b0 rd) o:=tR 10 _ _ (wd (gY hS).2)
theorem As {T:aW} (hS:Sit T rd free) {o:List Int} (hE:Emp (b0 rd) o) {l:List dc} (h:dg T rd free o=some l):∃e,gV T rd free l=some e:=by
 obtain ⟨X,_,_,⟨s,hs⟩,_⟩:=il hS hE h
 exact ⟨s.fin,by unfold gV; rw [SA hS,hs]; rfl⟩
theorem sY {T:aW} {l:List dc} (h:cK T rd free=some l) :
  Sit T rd free/\∃o e,Emp (b0 rd) o/\dg T rd free o=some l/\gV T rd free l=some e/\drF T rd free=some (l,e)/\∀o' l' e',Emp (b0 rd) o'->dg T rd free o'=some l'->gV T rd free l'=some e'->e<=e':=by
 unfold cK at h
 split at h
 ·rename_i hS
  refine ⟨hS,?_⟩
  cases hd:drF T rd free with
  | none=>rw [hd] at h; cases h
  | some x=>
   rw [hd] at h
   injection h with h
   have h:x.1=l:=h
   obtain ⟨h1,_,h3⟩:=(BS T rd free (gZ 10 (b0 rd)) none).2 x hd
   rcases h1 with h1 | ⟨o,k1,k2,k3⟩
   ·cases h1
   ·have hE:=(qi hS).1 k1
    obtain ⟨e,he⟩:=As hS hE k2
    rw [he] at k3
    have k3:x.2=e:=k3
    rw [h] at k2 he
    refine ⟨o,e,hE,k2,he,by rw [<-h,<-k3],fun o' l' e' hE' ht' he'=>?_⟩
    have:=h3 o' ((qi hS).2 hE') l' ht'
    rw [he'] at this
    have this:x.2<=e':=this
    omega
 ·cases h
end Tr
namespace Tr
open Go
open Clu (aW aT)
open Cy (bq)
theorem M6 {T:aW} {C:Int} (hC:0<=C) (h1:∀k,rd.getD k 0+syT T k<=C) (h2:∀k,wT T+tmT T k+syT T k<=C):∀(o:List Int) (i:Nat) (last:Int) (a:Nat->Option Nat),(∀k p,a k=some p->p<=i)->KX X (gK T rd free i last a o)->(∀p,p<=i->X p<=C*i)->∀j,j<=i+o.length->X j<=C*((i:Int)+o.length)
 | [],i,last,a,ha,hK,hi,j,hj=>by
  have:=hi j (by simpa using hj)
  simpa using this
 | t :: r,i,last,a,ha,hK,hi,j,hj=>by
  simp only [gK,lG] at hK
  obtain ⟨_,_,k3,k4⟩:=hK
  have e1:((i:Int)+1).toNat=i+1:=by omega
  simp only [e1,SM] at k3
  have hs:(gP T rd a (t-1).toNat).1<=i/\(gP T rd a (t-1).toNat).2+syT T (t-1).toNat<=C:=by
   unfold gP
   split
   ·rename_i p hp
    exact ⟨ha _ _ hp,h2 _⟩
   ·exact ⟨UD _,h1 _⟩
  have hb:=hi _ hs.1
  have em:C*((i:Int)+1)=C*i+C:=by rw [Int.mul_add,Int.mul_one]
  have hi':∀p,p<=i+1->X p<=C*((i+1:Nat):Int):=by
   intro p hp
   push_cast
   rw [em]
   by_cases h:p=i+1
   ·subst h; omega
   ·have:=hi p (by omega); omega
  have:=M6 hC h1 h2 r (i+1) t (upd a t.toNat (i+1)) (fun k p hp=>by
   unfold upd at hp
   split at hp
   ·injection hp with hp; omega
   ·have:=ha k p hp; omega) k4 hi' j (by simp at hj; omega)
  have e2:((i+1:Nat):Int)+(r.length:Int)=(i:Int)+((t :: r).length:Int):=by push_cast [Tn]; omega
  rw [e2] at this
  exact this
theorem ub0 {T:aW} {C:Int} (hC:0<=C) (h1:∀k,rd.getD k 0+syT T k<=C) (h2:∀k,wT T+tmT T k+syT T k<=C) (hX:X 0=0) {o:List Int} (hK:KX X (cC T rd free o)) (hj:j<=o.length):X j<=C*o.length:=by
 have:=M6 hC h1 h2 o 0 (-2) (fun _=>none) (fun k p h=>by cases h) hK (fun p hp=>by
  have:p=0:=by omega
  rw [this,hX]; simp) j (by omega)
 simpa using this
theorem JL {T:aW} (hS:Sit T rd free) (hX:X 0=0) {o:List Int} (hE:Emp (b0 rd) o) (hK:KX X (cC T rd free o)) (hj:j<=o.length):X j<=6000000:=by
 have:=ub0 (C:=600000) (by omega) (fun k=>by have:=w4 hS k; have:=dp hS.1.1 k; omega) (fun k=>by have:=de hS.1.1; have:=dp hS.1.1 k; omega) hX hK hj
 have:=nE hS hE
 omega
theorem w7 (X:Nat->Int):∀(o:List Int) (i:Nat),(mkX X i o).map (·.1)=o
 | [],_=>rfl
 | t :: r,i=>by simp [mkX,w7 X r]
theorem gy (X:Nat->Int) (o:List Int) (i:Nat):(mkX X i o).length=o.length:=by
 rw [<-SF (f:=(·.1)),w7]
theorem uT:∀(o:List Int) (i:Nat),(∀j,i<j->j<=i+o.length->X j=Y j)->mkX X i o=mkX Y i o
 | [],_,_=>rfl
 | t :: r,i,h=>by
  simp only [mkX]
  rw [h (i+1) (by omega) (by simp),uT r (i+1) fun j h1 h2=>h j (by omega) (by simp; omega)]
theorem ug {T:aW} {l:List dc} (h:cK T rd free=some l):Emp (b0 rd) (l.map (·.1)):=by
 obtain ⟨hS,o,e,k1,k2,_⟩:=sY h
 obtain ⟨X,x0,rfl,_⟩:=il hS k1 k2
 rw [w7]; exact k1
end Tr
namespace Tr
open Go
open Clu (aW aT Chk cy aN cd gx isI bM tj rp lkT oP dt)
open Cy (bq lar lE df bC)
theorem sw:∀(n:Nat) (l:List Nat),l.Nodup->(∀x∈l,x<n)->l.length<=n/\(l.length=n->∀x,x<n->x∈l)
 | 0,l,_,h=>by
  cases l with
  | nil=>exact ⟨SK _,fun _ x hx=>absurd hx (Uv _)⟩
  | cons a r=>exact absurd (h a Um) (Uv _)
 | n+1,l,hn,h=>by
  by_cases hm:n∈l
  ·have h1:=sw n (l.erase n) (hn.erase n) fun x hx=>by
    obtain ⟨h1,h2⟩:=(hn.mem_erase_iff).1 hx
    have:=h x h2; omega
   rw [List.length_erase_of_mem hm] at h1
   have hp:0<l.length:=List.length_pos_of_mem hm
   refine ⟨by omega,fun he x hx=>?_⟩
   by_cases hx':x=n
   ·subst hx'; exact hm
   ·exact List.mem_of_mem_erase (h1.2 (by omega) x (by omega))
  ·have h1:=sw n l hn fun x hx=>by
    have:=h x hx
    have:x≠n:=fun e=>hm (e ▸ hx)
    omega
   exact ⟨by omega,fun he=>by omega⟩
def pos (o:List Int) (t:Int):Int:=df (isI t) o
structure Ord (n:Nat) (o:List Int):Prop where
 len:o.length=n+1
 nd:o.Nodup
 bd:∀x∈o,0<=x/\x<=n
 z:o.getD 0 0=0
theorem Fl {T:aW} {o:List Int} (h:o∈aN T):Ord T.ch.length o:=by
 obtain ⟨_,h2,⟨r,h3,_⟩,h4⟩:=cd h
 exact ⟨h2,h4,gx h,by rw [h3]; rfl⟩
theorem Ord.pos_get {o:List Int} (h:Ord n o) {p:Nat} (hp:p<o.length):pos o (o.getD p 0)=p:=by
 unfold pos
 rw [Sr,Sq hp,S9]
 refine bC hp (by simp [isI]) fun j hj=>?_
 have:=(List.nodup_iff_pairwise_ne.1 h.nd)
 rw [List.pairwise_iff_getElem] at this
 have:=this j p (by omega) hp hj
 simp only [isI,Ue]
 exact fun e=>this e.symm
theorem Ord.has {o:List Int} (h:Ord n o) {t:Nat} (ht:t<=n):∃p,p<o.length/\o.getD p 0=(t:Int):=by
 have hnd:(o.map Int.toNat).Nodup:=by
  rw [List.nodup_iff_pairwise_ne,List.pairwise_map]
  refine List.Pairwise.imp_of_mem ?_ (List.nodup_iff_pairwise_ne.1 h.nd)
  intro a b ha hb hab
  have:=h.bd a ha
  have:=h.bd b hb
  omega
 have:=(sw (n+1) (o.map Int.toNat) hnd fun x hx=>by
  obtain ⟨y,hy,rfl⟩:=SU.1 hx
  have:=h.bd y hy
  omega).2 (by rw [SF,h.len]) t (by omega)
 obtain ⟨y,hy,e⟩:=SU.1 this
 obtain ⟨p,hp,rfl⟩:=Tb.1 hy
 refine ⟨p,hp,?_⟩
 rw [Sr,Sq hp,S9]
 have:=h.bd _ hy
 omega
theorem Ord.pos_eq {o:List Int} (h:Ord n o) {t:Nat} (ht:t<=n) {p:Nat} (hp:p<o.length):pos o t=p↔o.getD p 0=(t:Int):=by
 obtain ⟨q,hq,e⟩:=h.has ht
 constructor
 ·intro hh
  rw [<-e,h.pos_get hq] at hh
  rw [<-e]; congr 1; omega
 ·intro hh
  rw [<-hh,h.pos_get hp]
def hF (o:List Int) (i:Nat):Int:=if pos o ((i:Int)+1)<pos o (i:Int) then 1 else 0
def kF (o:List Int):Nat->Int
 | 0=>0
 | i+1=>kF o i+hF o i
theorem Ol (o:List Int) (i:Nat):0<=hF o i/\hF o i<=1:=by unfold hF; split <;> omega
theorem zM (o:List Int):∀i:Nat,0<=kF o i/\kF o i<=i
 | 0=>by simp [kF]
 | i+1=>by have:=zM o i; have:=Ol o i; simp only [kF]; push_cast; omega
def stD (s:cy) (t:Nat):Int:=s.starts.getD t 0
def bsF (T:aW) (s:cy) (free:Int):Int:=free+T.travel-stD s 0
def tk (T:aW) (s:cy) (free:Int) (r:Nat) (t:Int):dc:=(t,bsF T s free+(r:Int)*s.period+stD s t.toNat)
def cyc (T:aW) (s:cy) (free:Int) (r:Nat):List dc:=(s.order.filter fun t=>decide (kF s.order t.toNat<=r)).map (tk T s free r)
def dC (T:aW) (s:cy) (free:Int) (R:Nat):List dc:=(List.range R).flatMap (cyc T s free)
def rl (s:cy) (r p t:Nat):Int:=if pos s.order t<p then (r:Int) else (r:Int)-1
def onF (s:cy) (p t:Nat):Int:=if pos s.order t<p then 1 else 0
def Lp (s:cy) (r p j:Nat):Prop:=hF s.order j+onF s p j-onF s p (j+1)=1/\kF s.order j<=rl s r p j
structure FI (T:aW) (s:cy) (free:Int) (r p:Nat) (x:St):Prop where
 len:x.inn.length=T.ch.length
 full:∀j,j<T.ch.length->Lp s r p j->0<=x.inn.getD j 0/\x.inn.getD j 0=bsF T s free+rl s r p j*s.period+stD s j+wT T+tmT T j
 emp:∀j,j<T.ch.length->¬ Lp s r p j->x.inn.getD j 0 = -1
 N4:0<=x.fin
 next:p<=T.ch.length->x.fin+btw T x.last (s.order.getD p 0)<=(tk T s free r (s.order.getD p 0)).2
end Tr
namespace Tr
open Go
open Cy (GC je df bC bH cW aM aV az)
open Clu (aW aT ai chA M16 n8 oL aQ aY bK bu bQ dZ cr)
def iD (n lo hi:Int):Bool:=decide (lo<=n) && decide (n<=hi)
theorem cP {n lo hi:Int}:iD n lo hi=true↔lo<=n/\n<=hi:=by simp [iD]
def M30:aU:=fun args=>match args with
 | [.int .i64 n,.int .i64 lo,.int .i64 hi]=>some (.bool (iD n lo hi))
 | _=>none
theorem uI:aw prog GC 24 M30:=by
 refine aw.of_ev (E:=aq GC []) (ax aB) rfl (by kernel_rfl) LZ 1 ?_
 intro args r h
 unfold M30 at h
 split at h
 ·rename_i n lo hi
  injection h with h; subst h
  refine ⟨0,?_⟩
  have b1:af .geq (.z n) (.z lo)=some (.bool (decide (lo<=n))):=by simp [af]
  have b2:af .leq (.z n) (.z hi)=some (.bool (decide (n<=hi))):=by simp [af]
  unfold iD
  obtain ⟨p,hp⟩:∃p,p=decide (lo<=n):=⟨_,rfl⟩
  obtain ⟨q,hq⟩:∃q,q=decide (n<=hi):=⟨_,rfl⟩
  rw [<-hp] at b1 ⊢
  rw [<-hq] at b2 ⊢
  rw [aO _ _ rfl]
  cases p <;> simp [RU,b1,b2,-af]
 ·cases h
@[simp] theorem cq (n lo hi:Int):M30 [.z n,.z lo,.z hi]=some (.bool (iD n lo hi)):=rfl
def qE:List (FuncId × aJ):=[(40,aE 4 M16)]
@[simp] theorem ON:aD qE 40=some (aE 4 M16):=rfl
def M47:aU:=fun args=>evP (aq GC qE) 0 zG 1 args
theorem se:aw prog GC 22 M47:=aw.of_ev (E:=aq GC qE) (ax (ag (au.of_pure n8 4) aB)) rfl (by kernel_rfl) vN 1 fun _ _ h=>⟨0,h⟩
def isT (T:aW):Prop:=aT T/\T.blades=1
instance (T:aW):Decidable (isT T):=inferInstanceAs (Decidable (_/\_))
theorem yZ {T:aW} {chv:AV} (hb:SlA 2 (T.ch.map chA) chv) (hl:T.ch.length<=200):M47 [ai T chv]=some (.bool (decide (isT T))):=by
 have m:=oL hb hl
 have ft:=fun A=>aQ (T:=T) (fun A n=>hb.frz (A:=A) n) A 3
 have bx:aR 5 (ai T chv) []=some (.p 0,[.row 5 false [ai T chv]]):=rfl
 have ct:(cellsOf (ai T chv)).length=5:=rfl
 obtain ⟨A0,hA0⟩:∃A:ac,A=[.row 5 false [ai T chv]]:=⟨_,rfl⟩
 have lt:ab true 5 A0 (.p 0)=some (ai T chv):=by rw [hA0]; rfl
 have fa:aa 4 A0 (.p 0)=some (.ptr 0 0 4):=by rw [hA0]; simp [aa]
 have l4:ab false 1 A0 (.ptr 0 0 4)=some (.z T.blades):=by rw [hA0]; rfl
 have b1:=bu T.blades 1
 have e:decide (isT T)=(decide (T.blades=1) && decide (aT T)):=by
  unfold isT
  by_cases h1:T.blades=1 <;> by_cases h2:aT T <;> simp [h1,h2]
 rw [e]
 obtain ⟨t,ht⟩:∃t,t=ai T chv:=⟨_,rfl⟩
 rw [<-ht] at m ft bx ct lt hA0 ⊢
 rw [<-hA0] at bx
 obtain ⟨p,hp⟩:∃p,p=decide (T.blades=1):=⟨_,rfl⟩
 obtain ⟨q,hq⟩:∃q,q=decide (aT T):=⟨_,rfl⟩
 rw [<-hp] at b1 ⊢
 rw [<-hq] at m ⊢
 unfold M47
 rw [aO _ _ rfl]
 cases p <;> simp [zG,m,ft,bx,ct,lt,fa,l4,b1,aV,-aR,-ab,-aa,-frz,-cellsOf,-af]
def tg (x:Int):Bool:=!iD x (-1) 500000
def Nu:List (FuncId × aJ):=[(24,aE 4 M30)]
@[simp] theorem OF:aD Nu 24=some (aE 4 M30):=rfl
theorem Hf:∀f M,aD Nu f=some M->au prog GC f M:=ag (au.of_pure uI 4) aB
def M52:aU:=fun args=>evP (aq GC Nu) 0 Ep 1 args
theorem AA:aw prog GC 67 M52:=aw.of_ev (E:=aq GC Nu) (ax Hf) rfl (by kernel_rfl) Cg 1 fun _ _ h=>⟨0,h⟩
theorem MQ (x:Int):M52 [.z x]=some (.bool (tg x)):=by
 have m:M30 [.z x,.z (-1),.z 500000]=some (.bool (iD x (-1) 500000)):=rfl
 unfold tg
 obtain ⟨p,hp⟩:∃p,p=iD x (-1) 500000:=⟨_,rfl⟩
 rw [<-hp] at m ⊢
 unfold M52
 rw [aO _ _ rfl]
 simp [Ep,m]
def kn:AV:=.func (.func 67) [] []
def F4:List (FuncId × aJ):=[(67,aE 4 M52)]
@[simp] theorem Ow:aD F4 67=some (aE 4 M52):=rfl
theorem G9:∀f M,aD F4 f=some M->au prog GC f M:=ag (au.of_pure AA 4) aB
def M79:aU:=fun args=>evP (aq GC F4) 300 Cy.z8 1 args
theorem JS:aw prog GC 95 M79:=aw.of_ev (E:=aq GC F4) (ax G9) rfl Cy.NK Cy.yN 1 fun _ _ h=>⟨300,h⟩
theorem MK {xs:List Int} {b:AV} (hb:SlA 1 (ak xs) b) (hl:xs.length<=200):M79 [b,kn]=some (.z (df tg xs)):=by
 have hlen:=hb.len
 rw [az] at hlen
 have round:∀(A:ac) (i:Nat) (hi:i<xs.length),run (aq GC F4) 300 [.code Cy.fM] (Cy.gM b kn (.z (xs.length:Int)) (.z (i:Int))) A =
   if tg xs[i]=false then some (.normal (Cy.gM b kn (.z (xs.length:Int)) (.z ((i+1:Nat):Int))) A) else some (.ret [b,kn,.z (i:Int),.z (i:Int),.z (xs.length:Int),.z (i:Int),.t,.t] A):=fun A i hi=>by
  have x1:=hb.int (A:=A) _ _ (Sq hi) .i64
  have m:=MQ xs[i]
  have b1:=be i xs.length .i64
  rw [Su hi] at b1
  have b3:=aP i (by omega)
  obtain ⟨i1,hi1⟩:∃i1:Nat,i1=i+1:=⟨_,rfl⟩
  rw [<-hi1] at b3 ⊢
  obtain ⟨d,hd⟩:∃d,d=tg xs[i]:=⟨_,rfl⟩
  rw [<-hd] at m ⊢
  cases d with
  | false=>simp [Cy.fM,kn,x1,m,b1,b3,-af,-ae,-aj]
  | true=>simp [Cy.fM,kn,x1,m,b1,-af,-ae,-aj]
 unfold M79
 rw [aO _ _ rfl]
 rcases bU (E:=aq GC F4) (fuel:=300) (a:=Cy.fM) (mask:=Cy.gp) (fun i=>Cy.gM b kn (.z (xs.length:Int)) (.z (i:Int))) (fun _=>[]) xs.length (fun i=>¬ ∀hi:i<xs.length,tg xs[i]=false)
  (oF:=fun i=>.ret [b,kn,.z (i:Int),.z (i:Int),.z (xs.length:Int),.z (i:Int),.t,.t] []) (oE:=.exit 0 ((Cy.gM b kn (.z (xs.length:Int)) (.z (xs.length:Int))).set 6 .f) [])
  (fun _=>rfl) (fun _ _ _ h=>by cases h) (fun _ _ h=>by cases h)
  (fun i hi hp=>by
   rw [round [] i hi]
   exact SA (SI.1 hp hi))
  (fun i hi hp=>by
   rw [round [] i hi]
   exact SD fun h=>hp fun _=>h)
  (by simp [Cy.fM]) (show xs.length<300 by omega) with ⟨i,hi,hp,hj,lp⟩ | ⟨hp,lp⟩
 ·have lp:bG (evC (aq GC F4) 300 Cy.fM) Cy.gp 300 (Cy.gM b kn (.z (xs.length:Int)) (.z 0)) []=_:=lp
  have e:df tg xs=(i:Int):=bC hi (by
   cases h':tg xs[i] with
   | true=>rfl
   | false=>exact absurd (fun _=>h') hp) (fun j hj'=>SI.1 (hj j hj') (by omega))
  rw [e]
  simp [Cy.z8,hlen,Cy.yw lp,-af,-aj]
 ·have lp:bG (evC (aq GC F4) 300 Cy.fM) Cy.gp 300 (Cy.gM b kn (.z (xs.length:Int)) (.z 0)) []=_:=lp
  have e:df tg xs = -1:=bH fun i hi=>SI.1 (hp i hi) hi
  rw [e]
  simp [Cy.z8,hlen,Cy.yw lp,-af,-aj]
def OH:List (FuncId × aJ):=[(95,aE 4 M79)]
@[simp] theorem OG:aD OH 95=some (aE 4 M79):=rfl
def M51:aU:=fun args=>evP (aq GC OH) 0 Cy.z9 1 args
theorem xS:aw prog GC 66 M51:=aw.of_ev (E:=aq GC OH) (ax (ag (au.of_pure JS 4) aB)) rfl Cy.JB Cy.s6 1 fun _ _ h=>⟨0,h⟩
theorem MR {xs:List Int} {b:AV} (hb:SlA 1 (ak xs) b) (hl:xs.length<=200):M51 [b,kn]=some (.bool (xs.any tg)):=by
 have h:=MK hb hl
 have b1:=je (df tg xs)
 rw [cW] at b1
 have f1:∀A n,frz A n b=b:=fun A n=>hb.frz n
 have hF:∀A,frz A 4 kn=kn:=fun _=>rfl
 obtain ⟨z,hz⟩:∃z,z=df tg xs:=⟨_,rfl⟩
 rw [<-hz] at h b1
 obtain ⟨F,hFF⟩:∃F,F=kn:=⟨_,rfl⟩
 rw [<-hFF] at h hF ⊢
 unfold M51
 rw [aO _ _ rfl]
 simp [Cy.z9,f1,hF,h,b1,br,aV,-af,-frz]
def Ls:List (FuncId × aJ):=[(22,aE 4 M47),(24,aE 4 M30),(66,aE 4 M51)]
@[simp] theorem Pl:aD Ls 22=some (aE 4 M47):=rfl
@[simp] theorem Pm:aD Ls 24=some (aE 4 M30):=rfl
@[simp] theorem Pk:aD Ls 66=some (aE 4 M51):=rfl
def M29:aU:=fun args=>evP (aq GC Ls) 0 Ft 1 args
theorem xT:aw prog GC 31 M29:=aw.of_ev (E:=aq GC Ls) (ax (ag (au.of_pure se 4) (ag (au.of_pure uI 4) (ag (au.of_pure xS 4) aB)))) rfl (by kernel_rfl) Cq 1 fun _ _ h=>⟨0,h⟩
theorem Kj (T:aW) (rd:List Int) (free:Int):decide (Sit T rd free)=(decide (isT T) && (decide ((rd.length:Int)=(T.ch.length:Int)) && (iD free 0 2000000 && !(rd.any tg)))):=by
 have e:(!(rd.any tg))=decide (∀t∈rd,-1<=t/\t<=500000):=by
  rw [T4,S6,Tt,Ui]
  unfold tg iD
  simp
 rw [e,T4,S6]
 simp only [S4,S6,cP]
 unfold Sit isT
 constructor
 ·rintro ⟨h1,h2,h3,h4⟩; exact ⟨h1,by omega,h3,h4⟩
 ·rintro ⟨h1,h2,h3,h4⟩; exact ⟨h1,by omega,h3,h4⟩
theorem wm {T:aW} {chv rdv:AV} (hb:SlA 2 (T.ch.map chA) chv) (hl:T.ch.length<=200) (hr:SlA 1 (ak rd) rdv) (hrl:rd.length<=200) (free:Int):M29 [ai T chv,rdv,.z free]=some (.bool (decide (Sit T rd free))):=by
 have m:=yZ hb hl
 have m2:=MR hr hrl
 have m3:M30 [.z free,.z 0,.z 2000000]=some (.bool (iD free 0 2000000)):=rfl
 have ft:=fun A=>aQ (T:=T) (fun A n=>hb.frz (A:=A) n) A 3
 have fr:∀A n,frz A n rdv=rdv:=fun A n=>hr.frz n
 have fb:∀A,frz A 4 (.func (.func 67) [] [])=kn:=fun _=>rfl
 have hl1:=hb.len
 rw [SF] at hl1
 have hl2:=hr.len
 rw [az] at hl2
 have bx:aR 5 (ai T chv) []=some (.p 0,[.row 5 false [ai T chv]]):=rfl
 have ct:(cellsOf (ai T chv)).length=5:=rfl
 obtain ⟨A0,hA0⟩:∃A:ac,A=[.row 5 false [ai T chv]]:=⟨_,rfl⟩
 have lt:ab true 5 A0 (.p 0)=some (ai T chv):=by rw [hA0]; rfl
 have fa:aa 0 A0 (.p 0)=some (.p 0):=by rw [hA0]; simp [aa]
 have l0:ab false 1 A0 (.p 0)=some chv:=by
  rw [hA0]
  rcases hb with ⟨rfl,_⟩ | rfl <;> rfl
 have b1:=bu (rd.length:Int) (T.ch.length:Int)
 rw [Kj]
 obtain ⟨t,ht⟩:∃t,t=ai T chv:=⟨_,rfl⟩
 rw [<-ht] at m ft bx ct lt hA0 ⊢
 rw [<-hA0] at bx
 obtain ⟨p,hp⟩:∃p,p=decide (isT T):=⟨_,rfl⟩
 obtain ⟨q,hq⟩:∃q,q=decide ((rd.length:Int)=(T.ch.length:Int)):=⟨_,rfl⟩
 obtain ⟨u,hu⟩:∃u,u=iD free 0 2000000:=⟨_,rfl⟩
 obtain ⟨v,hv⟩:∃v,v=rd.any tg:=⟨_,rfl⟩
 obtain ⟨z1,hz1⟩:∃z1,z1=(rd.length:Int):=⟨_,rfl⟩
 obtain ⟨z2,hz2⟩:∃z2,z2=(T.ch.length:Int):=⟨_,rfl⟩
 rw [<-hp] at m ⊢
 rw [<-hq] at b1 ⊢
 rw [<-hu] at m3 ⊢
 rw [<-hv] at m2 ⊢
 rw [<-hz1] at hl2 b1
 rw [<-hz2] at hl1 b1
 unfold M29
 rw [aO _ _ rfl]
 cases p <;> cases q <;> cases u <;> simp [Ft,m,m2,m3,ft,fr,fb,bx,ct,lt,fa,l0,b1,hl1,hl2,aV,aM,-aR,-ab,-aa,-aj,-frz,-cellsOf,-af,-cq]
def M42:aU:=fun args=>evP (aq GC []) 0 Bi 1 args
theorem sf:aw prog GC 38 M42:=aw.of_ev (E:=aq GC []) (ax aB) rfl (by kernel_rfl) vO 1 fun _ _ h=>⟨0,h⟩
theorem y9 {T:aW} (chv:AV) (hv:aT T):M42 [ai T chv]=some (.z (wT T)):=by
 obtain ⟨_,⟨h1,h2,h3⟩,_⟩:=hv
 have b1:af .add (.z T.pick) (.z T.travel)=some (.z (T.pick+T.travel)):=aY (by omega)
 have b2:af .add (.z (T.pick+T.travel)) (.z T.place)=some (.z (wT T)):=aY (by omega)
 unfold M42
 rw [aO _ _ rfl]
 simp [Bi,ai,b1,b2,-af]
def M41:aU:=fun args=>evP (aq GC []) 0 Bj 1 args
theorem p7:aw prog GC 37 M41:=aw.of_ev (E:=aq GC []) (ax aB) rfl (by kernel_rfl) vP 1 fun _ _ h=>⟨0,h⟩
theorem zc {T:aW} (chv:AV) (a b:Int) (ha : -1000<=a/\a<=1000):M41 [ai T chv,.z a,.z b]=some (.z (btw T a b)):=by
 have b1:af .add (.z a) (.z 1)=some (.z (a+1)):=aY (by omega)
 have b2:=bu b (a+1)
 obtain ⟨a1,ha1⟩:∃a1,a1=a+1:=⟨_,rfl⟩
 unfold btw
 rw [<-ha1] at b1 b2 ⊢
 unfold M41
 rw [aO _ _ rfl]
 by_cases h:b=a1
 ·rw [Su h] at b2
  rw [SA h]
  simp [Bj,ai,b1,b2,-af]
 ·rw [Ss h] at b2
  rw [SD h]
  simp [Bj,ai,b1,b2,-af]
end Tr
end Go.Proofs.YtkcjhljbgjpklaaGreat
