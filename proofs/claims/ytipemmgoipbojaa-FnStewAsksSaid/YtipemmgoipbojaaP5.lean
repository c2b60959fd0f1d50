/- Part 5 of the proof: an abstract machine proved sound over the model, the functions that it reckons, the plain law. Names made short by a program. No conditions. -/
import Derived.Test.YtipemmgoipbojaaP4
set_option linter.unusedVariables false
set_option linter.unusedSimpArgs false
set_option linter.unusedSectionVars false
noncomputable section
set_option maxRecDepth 100000
namespace Go.Proofs.Ytipemmgoipbojaa.Ab
open Go Go.RowKit Go.IntKind
def F16 (n:Nat):Cf:={ N:=n,keep:=[0,2,3,4,5,6,7,20,31],live:=lk [(0,[3,4,5,6,7])] }
def FN (os:cm C) (ls:List (Lf C)) (rs:List (Bool×List (Lf C))):Option (Int×aa):=match os,ls,rs with
 | [(77777777,.ghost)],[],[(false,[.int .i64 wo]),(true,[.int .i64 NU,.row .bD z1_1,.row .bX z1_2,.row .cC z1_3])]=>some (wo,(⟨NU,z1_1,z1_2,z1_3⟩:aa))
 | _,_,_=>none
abbrev GX:Type:=Int×ed×Int
section
variable (x0 x2:Int) (x3:aB) (x4:ay) (x5:aA) (x8:Int) (x9:aB) (aK:ay) (aN:aA)
def s16_0:GX→St C:=fun (x1,x6,x7)=>{ env:=[(3,.one (.ptr 1048768 0)),(4,.one (.ptr 42949674271360 0)),(5,.one (.ptr 1048896 0)),(6,.one (.int .i64 x0)),(7,.one (.int .i64 x1)),(90000,.frame),(90001,.bz (true,[]) 0)],aj:=[(1048768,.box .mem [.int .i64 x2,.ref 105876801 [],.ref 105876802 [],.ref 105876803 []]),(105876801,.row .bD x3 false),(105876802,.row .bX x4 false),(105876803,.row .cC x5 false),(42949674271360,.box .mem [.row .e5 x6,.int .i64 x7]),(1048896,.box .mem [.int .i64 x8,.row .bD x9,.row .bX aK,.row .cC aN]),(77777777,.ghost)],base:=0 }
end
def Ae (x0 x8:Int) (x9:aB) (aK:ay) (aN:aA) (n:Nat) (rc:(ed)→Option (Int×aa))  (aM:GX→Option (Int×aa)):GX→Option (Int×aa):=fun (x1,x6,x7)=>
 cond (decide (x1<6))
 (Option.bind ((cE n n) 8 x6 x7) fun r3=>
 cond (decide (r3.2.2>0))
 (cond (decide (6=0)) none (Option.bind (ND (i64.wrap (1+((i64.wrap (x0+x1)).tmod 6))) (⟨x8,x9,aK,aN⟩:aa)) fun r4=>
 cond (decide ((r4.length:Int)>0))
 (cond (decide (6=0)) none ((fun y=>alt y (y))
 (some (i64.wrap (1+((i64.wrap (x0+x1)).tmod 6)),(⟨x8,x9,aK,aN⟩:aa)))))
 (aM ((i64.wrap (x1+1),r3.1,r3.2.1)))))
 (Option.bind ((cE n n) 8 r3.1 r3.2.1) fun r5=>
 (fun y=>alt y (y))
 (some (r5.2.2,(⟨x8,x9,aK,aN⟩:aa)))))
 (Option.bind ((cE n n) 8 x6 x7) fun r6=>
 (fun y=>alt y (y))
 (some (r6.2.2,(⟨x8,x9,aK,aN⟩:aa))))
def B16 (n:Nat) (rc:(ed)→Option (Int×aa)) (a0:ed):Option (Int×aa):=
 cond (decide ((a0.length:Int)>2000))
 (cond (decide ((0:Int)≤0)) (cond (decide ((0:Int)≤2000)) (cond (decide (2000≤(a0.length:Int))) (Option.bind ((pI n n) ((a0.take (2000:Int).toNat).drop (0:Int).toNat) 0) fun r1=>
 Option.bind ((cE n n) 6 r1.1 r1.2.1) fun r2=>
 bS (Ae r2.2.2 r1.2.2.bM r1.2.2.af r1.2.2.ah r1.2.2.ak n rc ) n (0,r2.1,r2.2.1)) none) none) none)
 (Option.bind ((pI n n) a0 0) fun r7=>
 Option.bind ((cE n n) 6 r7.1 r7.2.1) fun r8=>
 bS (Ae r8.2.2 r7.2.2.bM r7.2.2.af r7.2.2.ah r7.2.2.ak n rc ) n (0,r8.1,r8.2.1))
def zI (n:Nat):Nat→(ed)→Option (Int×aa)
 | 0=>fun _=>none
 | d+1=>B16 n (zI n d)
def DT (n d:Nat):iR C:={ ids:=[],roots:=[],eU:=[],R0:=Int×aa,out:=fun r=>[],ret:=fun r=>[(false,[.int .i64 r.1]),(true,[.int .i64 r.2.bM,.row .bD r.2.af,.row .bX r.2.ah,.row .cC r.2.ak])],g:=fun vs O=>match vs,O with
 | [.one (.row .e5 y0)],[]=>zI n d y0
 | _,_=>none }
def X16 (n d:Nat):Cx C:=eP [(19,(Fz KL))] [] [(16,de (DT n d)),(20,I20 n),(21,I21 n),(23,Yo n)] [2,3,4,5,6,7,9,11,13,16,18,19,20,38,39,40] 1048576 []
section
variable (x0 x2:Int) (x3:aB) (x4:ay) (x5:aA) (x8:Int) (x9:aB) (aK:ay) (aN:aA)
def I2 (n d:Nat)  (x:GX):Option (Int×aa):=iter (fun rec S=>run (X16 n d) (F16 n) (aw (av Try.f16) [1,1,1,1,0,1,0,0]) 0 S (cH rec (bW 0 (bA (run (X16 n d) (F16 n) (aw (av Try.f16) [1,1,1,1,1]) 0) (j8 (X16 n d) Try.f16 FN))))) [3,4,5,6,7] n (s16_0 x0 x2 x3 x4 x5 x8 x9 aK aN x)
theorem m16_0 (n d:Nat)  (x:GX):I2 x0 x2 x3 x4 x5 x8 x9 aK aN n d  x=bS (Ae x0 x8 x9 aK aN n (zI n d) ) n x:=by
 refine iter_eq _ _ (fun aM x=>?_) n x;obtain ⟨x1,x6,x7⟩:=x
 kernel_rfl
end
theorem t16 (n d:Nat) (a0:ed):gF (X16 n d) (F16 n) Try.f16 (DT n (d+1)) [.one (.row .e5 a0)] [] FN=B16 n (zI n d) a0:=by
 have h:gF (X16 n d) (F16 n) Try.f16 (DT n (d+1)) [.one (.row .e5 a0)] [] FN =
  cond (decide ((a0.length:Int)>2000))
  (cond (decide ((0:Int)≤0)) (cond (decide ((0:Int)≤2000)) (cond (decide (2000≤(a0.length:Int))) (Option.bind ((pI n n) ((a0.take (2000:Int).toNat).drop (0:Int).toNat) 0) fun r1=>
  Option.bind ((cE n n) 6 r1.1 r1.2.1) fun r2=>
  I2 r2.2.2 0 (([]:aB)) (([]:ay)) (([]:aA)) r1.2.2.bM r1.2.2.af r1.2.2.ah r1.2.2.ak n d  (0,r2.1,r2.2.1)) none) none) none)
  (Option.bind ((pI n n) a0 0) fun r7=>
  Option.bind ((cE n n) 6 r7.1 r7.2.1) fun r8=>
  I2 r8.2.2 0 (([]:aB)) (([]:ay)) (([]:aA)) r7.2.2.bM r7.2.2.af r7.2.2.ah r7.2.2.ak n d  (0,r8.1,r8.2.1)):=by kernel_rfl
 simp only [h,B16,m16_0]
def I16 (n:Nat):lz C:=de (DT n n)
theorem i16d (n:Nat):∀ d:Nat,cG Try.prog KK 16 (de (DT n d))
 | 0=>gX (fn:=Try.f16) (by kernel_rfl) (by kernel_rfl) (iD (by kernel_rfl)) _ (fun vs O=>by simp only [DT];split<;>rfl)
 | d+1=>by
  have ih:=i16d n d;have x:jk Try.prog (X16 n d):=jw;have q:Cons Try.prog (X16 n d):=fV ⟨c19,trivial⟩ trivial ⟨ih,i20 n,i21 n,i23 n,trivial⟩;refine lB x q (by kernel_rfl) (f:=16) (fn:=Try.f16) (c:=av Try.f16) (by kernel_rfl) (by kernel_rfl) (by kernel_rfl) (iD (by kernel_rfl)) (DT n (d+1)) (Nat.le_of_ble_eq_true (by kernel_rfl)) FN (fun os ls rs r0 h=>?_) (fun vs O r0 hk h=>?_)
  ·unfold FN at h
   split at h
   ·cases h;exact ⟨rfl,rfl,rfl⟩
   ·cases h
  ·simp only [DT] at h
   split at h
   ·rename_i y0
    exact ⟨lQ,Nat.le_of_ble_eq_true (by kernel_rfl),F16 n,(t16 n d y0).trans h⟩
   ·cases h
theorem iz16 (n:Nat):cG Try.prog KK 16 (I16 n):=i16d n n
def X33:Cx C:=eP [] [] [] [] 2162688 []
def F33 (n:Nat):Cf:={ N:=n,keep:=[0,1,2,6],live:=lk [] }
abbrev dec33:=iX KK [.bool]
def G33n (n:Nat) (a0 a1 a2:Int):Option (Bool):=
 cond (decide (a0≥a1))
 (some (decide (a0≤a2)))
 (some (false))
theorem t33 (n:Nat) (a0 a1 a2:Int):db X33 (F33 n) Try.f33 [.one (.int .i64 a0),.one (.int .i64 a1),.one (.int .i64 a2)] dec33=G33n n a0 a1 a2:=by
 kernel_rfl
def u0 (a0 a1 a2:Int):Option (Bool):=G33n fuel a0 a1 a2
def FU:iu C:=kD KK [.int .i64,.int .i64,.int .i64] [.bool] u0
theorem c33:cL Try.prog KK 33 FU:=cP (fV trivial trivial trivial:Cons Try.prog X33) (fn:=Try.f33) (F33 fuel) (fun a0 a1 a2=>t33 fuel a0 a1 a2)
def X35:Cx C:=eP [] [] [] [] 2293760 []
def F35 (n:Nat):Cf:={ N:=n,keep:=[0,2,3,4,12,14,15,16,39],live:=lk [(0,[0,14,15])] }
abbrev Xq:=iX KK [.bool]
abbrev GP:Type:=Int
section
variable (x0:BA) (x1:Int)
def s35_0:GP→St C:=fun x2=>{ env:=[(0,.one (.str x0)),(14,.one (.int .i64 x1)),(15,.one (.int .i64 x2))],aj:=[],base:=0 }
end
def JC (x0:BA) (x1:Int) (n:Nat)   (aM:GP→Option (Bool)):GP→Option (Bool):=fun x2=>
 cond (decide (x2<x1))
 (cond (decide (0≤x2)) (cond (decide (x2<(x0.size:Int))) (cond (decide ((uF x0 x2)≥97))
 (cond (decide ((uF x0 x2)≤122))
 (aM (i64.wrap (x2+1)))
 (cond (decide ((uF x0 x2)≥48))
 (cond (decide ((uF x0 x2)≤57))
 (aM (i64.wrap (x2+1)))
 (cond (!((uF x0 x2)==45))
 (some (false))
 (aM (i64.wrap (x2+1)))))
 (cond (!((uF x0 x2)==45))
 (some (false))
 (aM (i64.wrap (x2+1))))))
 (cond (decide ((uF x0 x2)≥48))
 (cond (decide ((uF x0 x2)≤57))
 (aM (i64.wrap (x2+1)))
 (cond (!((uF x0 x2)==45))
 (some (false))
 (aM (i64.wrap (x2+1)))))
 (cond (!((uF x0 x2)==45))
 (some (false))
 (aM (i64.wrap (x2+1)))))) none) none)
 (some (true))
section
variable (x0:BA) (x1:Int)
def So (n:Nat)  (x:GP):Option (Bool):=iter (fun rec S=>run X35 (F35 n) (aw (av Try.f35) [1,1,0,1,0,0]) 0 S (cH rec (bW 0 (bA (run X35 (F35 n) (aw (av Try.f35) [1,1,1]) 0) (dM X35 Try.f35 Xq))))) [0,14,15] n (s35_0 x0 x1 x)
theorem m35_0 (n:Nat)  (x:GP):So x0 x1 n  x=bS (JC x0 x1 n  ) n x:=by
 refine iter_eq _ _ (fun aM x2=>?_) n x
 kernel_rfl
end
def VN (n:Nat) (a0:BA):Option (Bool):=
 cond (decide ((a0.size:Int)<1))
 (some (false))
 (cond (decide ((a0.size:Int)>20))
 (some (false))
 (bS (JC a0 (a0.size:Int) n ) n 0))
theorem t35 (n:Nat) (a0:BA):db X35 (F35 n) Try.f35 [.one (.str a0)] Xq=VN n a0:=by
 refine Eq.trans (b:=
  cond (decide ((a0.size:Int)<1))
  (some (false))
  (cond (decide ((a0.size:Int)>20))
  (some (false))
  (So a0 (a0.size:Int) n   0))) (by kernel_rfl) ?_
 simp only [VN,m35_0]
def G35 (a0:BA):Option (Bool):=VN fuel a0
def QO:iu C:=kD KK [.str] [.bool] G35
theorem c35:cL Try.prog KK 35 QO:=cP (fV trivial trivial trivial:Cons Try.prog X35) (fn:=Try.f35) (F35 fuel) (fun a0=>t35 fuel a0)
def X34:Cx C:=eP [(33,FU),(35,QO)] [] [] [] 2228224 []
def F34 (n:Nat):Cf:={ N:=n,keep:=[0,1,2,4,53,88],live:=lk [] }
abbrev dec34:=iX KK [.bool]
def G34n (n:Nat) (a0:ae) (a1:Int):Option (Bool):=
 Option.bind (G35 a0.Name) fun r1=>
 cond (!r1)
 (some (false))
 (Option.bind (u0 a0.Version 1 a1) fun r2=>
 cond (!r2)
 (some (false))
 (Option.bind (u0 a0.ax 1 1000000) fun r3=>
 cond (!r3)
 (some (false))
 (Option.bind (u0 a0.Next 1 1000000) fun r4=>
 cond (!r4)
 (some (false))
 (Option.bind (u0 a0.Want 0 10) fun r5=>
 cond (!r5)
 (some (false))
 (Option.bind (u0 a0.Down 0 10) fun r6=>
 cond (!r6)
 (some (false))
 (Option.bind (u0 a0.bg 0 10) fun r7=>
 cond (!r7)
 (some (false))
 (cond ((i64.wrap (a0.Down+a0.bg))==0)
 (some (false))
 (Option.bind (u0 a0.bY 0 1000000) fun r8=>
 cond (!r8)
 (some (false))
 (Option.bind (u0 a0.bF 0 1000000) fun r9=>
 cond (!r9)
 (some (false))
 (Option.bind (u0 a0.aD 0 10) fun ib=>
 cond (!ib)
 (some (false))
 (Option.bind (u0 a0.aU 0 10) fun rT=>
 cond (!rT)
 (some (false))
 (cond (decide (a0.aD>a0.aU))
 (some (false))
 (Option.bind (u0 a0.bb 0 3) fun s6=>
 cond (!s6)
 (some (false))
 (cond (decide (a0.bY>0))
 (some (true))
 (cond (a0.aD==0)
 (cond (a0.aU==0)
 (cond (a0.bF==0)
 (some (a0.bb==0))
 (some (false)))
 (some (false)))
 (some (false)))))))))))))))))
theorem t34 (n:Nat) (a0:ae) (a1:Int):db X34 (F34 n) Try.f34 [.agg [.str a0.Name,.int .i64 a0.Version,.bool a0.bq,.int .i64 a0.ax,.int .i64 a0.Want,.int .i64 a0.Down,.int .i64 a0.bg,.int .i64 a0.Next,.int .i64 a0.bY,.int .i64 a0.aD,.int .i64 a0.aU,.int .i64 a0.bF,.int .i64 a0.bb],.one (.int .i64 a1)] dec34=G34n n a0 a1:=by
 kernel_rfl
def G34 (a0:ae) (a1:Int):Option (Bool):=G34n fuel a0 a1
def XI:iu C:=kD KK [.el .bD,.int .i64] [.bool] G34
theorem c34:cL Try.prog KK 34 XI:=cP (fV ⟨c33,c35,trivial⟩ trivial trivial:Cons Try.prog X34) (fn:=Try.f34) (F34 fuel) (fun a0 a1=>t34 fuel a0 a1)
def Yh:Cx C:=eP [] [] [] [] 2359296 []
def F36 (n:Nat):Cf:={ N:=n,keep:=[0,1,4,5,10,11,12,23],live:=lk [(0,[0,1,10,11])] }
def I36 (n:Nat):lz C:=gg Yh (F36 n) Try.f36
theorem i36 (n:Nat):cG Try.prog KK 36 (I36 n):=iP (fV trivial trivial trivial:Cons Try.prog Yh) (F36 n) (fn:=Try.f36)
def Yg:Cx C:=eP [] [] [] [] 2424832 []
def F37 (n:Nat):Cf:={ N:=n,keep:=[0,1,4,5,10,11,12,23],live:=lk [(0,[0,1,10,11])] }
def I37 (n:Nat):lz C:=gg Yg (F37 n) Try.f37
theorem i37 (n:Nat):cG Try.prog KK 37 (I37 n):=iP (fV trivial trivial trivial:Cons Try.prog Yg) (F37 n) (fn:=Try.f37)
def zo (n:Nat):Cx C:=eP [(33,FU),(34,XI),(35,QO)] [] [(36,I36 n),(37,I37 n)] [1,7,8,9,93,94,95,102,144,148,151,152,153,154] 720896 []
def Gq (n:Nat):Cf:={ N:=n,keep:=[0,1,2,3,4,5,6,7,8,9,10,32,34,35,36,37,61,64,65,66,67,90,93,94,95,96,135,154,156,181],live:=lk [(0,[1,34,35,36]),(2,[1,64,65,66]),(4,[1,93,94,95])] }
abbrev Bg:=iX KK [.bool]
abbrev BU:Type:=Int
abbrev yY:Type:=Int
abbrev s5:Type:=Int
abbrev vh:Type:=Int
abbrev yZ:Type:=Int
section
variable (x0:BA) (x1 x3:Int) (x4:C .bD) (x5:ay) (x6 x7:Int) (x8 x9:Bool) (aK:Int) (aN:aB) (aP:ay) (aX:aA) (bf:BA) (aS aO aT aW:Int) (bh:Bool) (bJ:BA)
def s11_4:BU→St C:=fun x2=>{ env:=[(0,.one (.ptr 720960 0)),(1,.one (.str x0)),(10,.one (.int .i64 x1)),(11,.one (.int .i64 x2)),(1001,.bz (false,[.ptr 720960 0]) 152001),(1007,.bz (false,[.int .i64 x3]) 152007),(1008,.bz (false,[.ptr 721408 0]) 152008),(1009,.bz (false,[.eS .bD x4 0]) 152009),(1093,.bz (false,[.row .bX x5]) 152093),(1094,.bz (false,[.int .i64 x6]) 152094),(1095,.bz (false,[.int .i64 x7]) 152095),(1144,.bz (false,[.bool x8]) 152144),(1148,.bz (false,[.bool x9]) 152148)],aj:=[(720960,.box .mem [.int .i64 aK,.row .bD aN,.row .bX aP,.row .cC aX]),(721408,.box .mem [.str bf,.int .i64 aS,.int .i64 aO,.int .i64 aT,.int .i64 aW,.bool bh,.str bJ])],base:=152000 }
end
def EE (x0:BA) (x1 x3 x7:Int) (x8 x9:Bool) (aP:ay) (aX:aA) (bf:BA) (aS:Int) (n:Nat)  (dD:s5→Option (Bool)) (qp:BU→Option (Bool)):BU→Option (Bool):=fun x2=>
 cond (decide (x2<x1))
 (cond (decide (0≤x2)) (Option.bind aX[x2.toNat]? fun qd=>cond (decide (qd.Name=x0))
 (cond (decide (0≤x2)) (Option.bind aX[x2.toNat]? fun gb=>cond x9
 (cond x8
 (some (false))
 (cond (decide (x3>0))
 (cond (decide (0≤i64.wrap (x3-1))) (Option.bind aP[(i64.wrap (x3-1)).toNat]? fun bQ=>cond (slt bf bQ.aq)
 (some (false))
 (cond (decide (bf=bQ.aq))
 (cond (decide (aS≤bQ.Number))
 (some (false))
 (dD (i64.wrap (x7+1))))
 (dD (i64.wrap (x7+1))))) none)
 (dD (i64.wrap (x7+1)))))
 (cond x8
 (some (false))
 (cond (decide (x3>0))
 (cond (decide (0≤i64.wrap (x3-1))) (Option.bind aP[(i64.wrap (x3-1)).toNat]? fun U8=>cond (slt bf U8.aq)
 (some (false))
 (cond (decide (bf=U8.aq))
 (cond (decide (aS≤U8.Number))
 (some (false))
 (dD (i64.wrap (x7+1))))
 (dD (i64.wrap (x7+1))))) none)
 (dD (i64.wrap (x7+1)))))) none)
 (qp (i64.wrap (x2+1)))) none)
 (cond x9
 (cond x8
 (some (false))
 (some (false)))
 (cond x8
 (some (false))
 (cond (decide (x3>0))
 (cond (decide (0≤i64.wrap (x3-1))) (Option.bind aP[(i64.wrap (x3-1)).toNat]? fun Tx=>cond (slt bf Tx.aq)
 (some (false))
 (cond (decide (bf=Tx.aq))
 (cond (decide (aS≤Tx.Number))
 (some (false))
 (dD (i64.wrap (x7+1))))
 (dD (i64.wrap (x7+1))))) none)
 (dD (i64.wrap (x7+1))))))
section
variable (x0:BA) (x1 x3:Int) (x4:ay) (x5 x6 x7:Int) (x8:aB) (x9:ay) (aK:aA) (aN:BA) (aP aX bf aS:Int) (aO:Bool) (aT:BA)
def Wn:yY→St C:=fun x2=>{ env:=[(0,.one (.ptr 720960 0)),(1,.one (.str x0)),(10,.one (.int .i64 x1)),(11,.one (.int .i64 x2)),(1001,.bz (false,[.ptr 720960 0]) 103001),(1007,.bz (false,[.int .i64 x3]) 103007),(1008,.bz (false,[.ptr 721408 0]) 103008),(1093,.bz (false,[.row .bX x4]) 103093),(1094,.bz (false,[.int .i64 x5]) 103094),(1095,.bz (false,[.int .i64 x6]) 103095)],aj:=[(720960,.box .mem [.int .i64 x7,.row .bD x8,.row .bX x9,.row .cC aK]),(721408,.box .mem [.str aN,.int .i64 aP,.int .i64 aX,.int .i64 bf,.int .i64 aS,.bool aO,.str aT])],base:=103000 }
end
def K2 (x0:BA) (x1 x3 x6 x7:Int) (x8:aB) (x9:ay) (aK:aA) (aN:BA) (aP aX bf aS:Int) (aT:BA) (n:Nat)  (dD:s5→Option (Bool)) (dz:yY→Option (Bool)) (l4:(Int)→(C .bD)→BU→Option (Bool)):yY→Option (Bool):=fun x2=>
 cond (decide (x2<x1))
 (cond (decide (0≤x2)) (Option.bind x8[x2.toNat]? fun e9=>cond (decide (e9.Name=x0))
 (cond (decide (0≤x2)) (Option.bind x8[x2.toNat]? fun DC=>Option.bind (u0 aP 1 (i64.wrap (DC.Next-1))) fun rT=>
 cond (!rT)
 (some (false))
 (Option.bind (u0 aX 1 x7) fun s6=>
 cond (!s6)
 (some (false))
 (Option.bind (u0 bf 1 1000000) fun qL=>
 cond (!qL)
 (some (false))
 (Option.bind (u0 aS 1 4) fun gM=>
 cond (!gM)
 (some (false))
 (cond (aS==1)
 (cond (!decide (aT=(⟨#[]⟩:BA)))
 (some (false))
 (cond (aS != 1)
 (l4 (aK.length:Int) DC 0)
 (cond (decide (x3>0))
 (cond (decide (0≤i64.wrap (x3-1))) (Option.bind x9[(i64.wrap (x3-1)).toNat]? fun e20=>cond (slt aN e20.aq)
 (some (false))
 (cond (decide (aN=e20.aq))
 (cond (decide (aP≤e20.Number))
 (some (false))
 (dD (i64.wrap (x6+1))))
 (dD (i64.wrap (x6+1))))) none)
 (dD (i64.wrap (x6+1))))))
 (cond (aS != 1)
 (l4 (aK.length:Int) DC 0)
 (cond (decide (x3>0))
 (cond (decide (0≤i64.wrap (x3-1))) (Option.bind x9[(i64.wrap (x3-1)).toNat]? fun DB=>cond (slt aN DB.aq)
 (some (false))
 (cond (decide (aN=DB.aq))
 (cond (decide (aP≤DB.Number))
 (some (false))
 (dD (i64.wrap (x6+1))))
 (dD (i64.wrap (x6+1))))) none)
 (dD (i64.wrap (x6+1)))))))))) none)
 (dz (i64.wrap (x2+1)))) none)
 (some (false))
def xg (x0:BA) (x1 x3 x6 x7:Int) (x8:aB) (x9:ay) (aK:aA) (aN:BA) (aP aX bf aS:Int) (aT:BA) (n:Nat)  (dD:s5→Option (Bool)) (dz:yY→Option (Bool)):yY→Option (Bool):=K2 x0 x1 x3 x6 x7 x8 x9 aK aN aP aX bf aS aT n dD dz (fun y1 y3 z=>bS (EE aT y1 x3 x6 false true x9 aK aN aP n dD) n z)
section
variable (x0:ay) (x1 x3:Int) (x4:aB) (x5:ay) (x6:aA)
def Jq:s5→St C:=fun x2=>{ env:=[(1,.one (.ptr 720960 0)),(93,.one (.row .bX x0)),(94,.one (.int .i64 x1)),(95,.one (.int .i64 x2))],aj:=[(720960,.box .mem [.int .i64 x3,.row .bD x4,.row .bX x5,.row .cC x6])],base:=0 }
end
def EF (x0:ay) (x1 x3:Int) (x4:aB) (x5:ay) (x6:aA) (n:Nat)   (dD:s5→Option (Bool)):s5→Option (Bool):=fun x2=>
 cond (decide (x2<x1))
 (cond (decide (0≤x2)) (Option.bind x0[x2.toNat]? fun e8=>bS (xg e8.aq (x4.length:Int) x2 x2 x3 x4 x5 x6 e8.aq e8.Number e8.Version e8.ax e8.State e8.bE n dD) n 0) none)
 (some (true))
section
variable (x0:aA) (x1 x3:Int) (x4:aB) (x5:ay) (x6:aA)
def Wo:vh→St C:=fun x2=>{ env:=[(1,.one (.ptr 720960 0)),(64,.one (.row .cC x0)),(65,.one (.int .i64 x1)),(66,.one (.int .i64 x2))],aj:=[(720960,.box .mem [.int .i64 x3,.row .bD x4,.row .bX x5,.row .cC x6])],base:=0 }
end
def K3 (x0:aA) (x1:Int) (x5:ay) (x6:aA) (n:Nat)   (dg:vh→Option (Bool)) (l2:(Int)→s5→Option (Bool)):vh→Option (Bool):=fun x2=>
 cond (decide (x2<x1))
 (cond (decide (0≤x2)) (Option.bind x0[x2.toNat]? fun e5=>Option.bind (G35 e5.Name) fun r6=>
 cond (!r6)
 (some (false))
 (cond (decide (x2>0))
 (cond (decide (0≤i64.wrap (x2-1))) (Option.bind x6[(i64.wrap (x2-1)).toNat]? fun e7=>cond (!slt e7.Name e5.Name)
 (some (false))
 (dg (i64.wrap (x2+1)))) none)
 (dg (i64.wrap (x2+1))))) none)
 (l2 (x5.length:Int) 0)
def xh (x0:aA) (x1 x3:Int) (x4:aB) (x5:ay) (x6:aA) (n:Nat)   (dg:vh→Option (Bool)):vh→Option (Bool):=K3 x0 x1 x5 x6 n  dg (fun y1 z=>bS (EF x5 y1 x3 x4 x5 x6 n ) n z)
section
variable (x0:aB) (x1 x3:Int) (x4:aB) (x5:ay) (x6:aA)
def Wp:yZ→St C:=fun x2=>{ env:=[(1,.one (.ptr 720960 0)),(34,.one (.row .bD x0)),(35,.one (.int .i64 x1)),(36,.one (.int .i64 x2))],aj:=[(720960,.box .mem [.int .i64 x3,.row .bD x4,.row .bX x5,.row .cC x6])],base:=0 }
end
def K4 (x0:aB) (x1 x3:Int) (x4:aB) (x6:aA) (n:Nat)   (aM:yZ→Option (Bool)) (l1:(Int)→vh→Option (Bool)):yZ→Option (Bool):=fun x2=>
 cond (decide (x2<x1))
 (cond (decide (0≤x2)) (Option.bind x0[x2.toNat]? fun e2=>Option.bind (G34 e2 x3) fun r3=>
 cond (!r3)
 (some (false))
 (cond (decide (x2>0))
 (cond (decide (0≤i64.wrap (x2-1))) (Option.bind x4[(i64.wrap (x2-1)).toNat]? fun e4=>cond (!slt e4.Name e2.Name)
 (some (false))
 (aM (i64.wrap (x2+1)))) none)
 (aM (i64.wrap (x2+1))))) none)
 (l1 (x6.length:Int) 0)
def Ai (x0:aB) (x1 x3:Int) (x4:aB) (x5:ay) (x6:aA) (n:Nat)   (aM:yZ→Option (Bool)):yZ→Option (Bool):=K4 x0 x1 x3 x4 x6 n  aM (fun y1 z=>bS (xh x6 y1 x3 x4 x5 x6 n ) n z)
section
variable (x0:BA) (x1 x3:Int) (x4:C .bD) (x5:ay) (x6 x7:Int) (x8 x9:Bool) (aK:Int) (aN:aB) (aP:ay) (aX:aA) (bf:BA) (aS aO aT aW:Int) (bh:Bool) (bJ:BA)
def SL (n:Nat) (dD:St C→Option (Bool)) (x:BU):Option (Bool):=iter (fun rec S=>run Yg (F37 n) (aw (av Try.f37) [1,0,1,0,0]) 0 S (cH rec (bW 0 (bA (run Yg (F37 n) (aw (av Try.f37) [1,1]) 0) (fu Yg Try.f37 (dB 151000 0 (some 151) (eJ (zo n) (aw (av Try.f11) [1,1,1,1,0,1,0,0,1,1,0,0,1,1,1,0,0]) 16 (fq (Gq n) (bA (run (zo n) (Gq n) (aw (av Try.f11) [1,1,1,1,0,1,0,0,1,1,0,0,1,1,1,0,1]) 5) (bA (run (zo n) (Gq n) (aw (av Try.f11) [1,1,1,1,0,1,0,0,1,1,0,0,1,1,1,1]) 5) (bW 5 (bA (run (zo n) (Gq n) (aw (av Try.f11) [1,1,1,1,0,1,0,0,1,1,1]) 4) (cH (fR [1,93,94,95] dD) (bW 4 (bA (run (zo n) (Gq n) (aw (av Try.f11) [1,1,1,1,1]) 0) (dM (zo n) Try.f11 Bg)))))))))))))))) [0,1,10,11] n (s11_4 x0 x1 x3 x4 x5 x6 x7 x8 x9 aK aN aP aX bf aS aO aT aW bh bJ x)
theorem m11_4 (n:Nat) (dD:St C→Option (Bool)) (x:BU):SL x0 x1 x3 x4 x5 x6 x7 x8 x9 aK aN aP aX bf aS aO aT aW bh bJ n dD x=bS (EE x0 x1 x3 x7 x8 x9 aP aX bf aS n  (fun x=>dD (Jq x5 x6 aK aN aP aX x))) n x:=by
 refine iter_eq _ _ (fun qp x2=>?_) n x
 kernel_rfl
end
section
variable (x0:BA) (x1 x3:Int) (x4:ay) (x5 x6 x7:Int) (x8:aB) (x9:ay) (aK:aA) (aN:BA) (aP aX bf aS:Int) (aO:Bool) (aT:BA)
def SM (n:Nat) (dD:St C→Option (Bool)) (x:yY):Option (Bool):=iter (fun rec S=>run Yh (F36 n) (aw (av Try.f36) [1,0,1,0,0]) 0 S (cH rec (bW 0 (bA (run Yh (F36 n) (aw (av Try.f36) [1,1]) 0) (fu Yh Try.f36 (dB 102000 0 (some 102) (eJ (zo n) (aw (av Try.f11) [1,1,1,1,0,1,0,0,1,1,0,0,1,0]) 3 (fq (Gq n) (bA (run (zo n) (Gq n) (aw (av Try.f11) [1,1,1,1,0,1,0,0,1,1,0,0,1,1]) 5) (bW 5 (bA (run (zo n) (Gq n) (aw (av Try.f11) [1,1,1,1,0,1,0,0,1,1,1]) 4) (cH (fR [1,93,94,95] dD) (bW 4 (bA (run (zo n) (Gq n) (aw (av Try.f11) [1,1,1,1,1]) 0) (dM (zo n) Try.f11 Bg))))))))))))))) [0,1,10,11] n (Wn x0 x1 x3 x4 x5 x6 x7 x8 x9 aK aN aP aX bf aS aO aT x)
theorem m11_3 (n:Nat) (dD:St C→Option (Bool)) (x:yY):SM x0 x1 x3 x4 x5 x6 x7 x8 x9 aK aN aP aX bf aS aO aT n dD x=bS (xg x0 x1 x3 x6 x7 x8 x9 aK aN aP aX bf aS aT n  (fun x=>dD (Jq x4 x5 x7 x8 x9 aK x))) n x:=by
 refine iter_eq _ _ (fun dz x2=>?_) n x;refine Eq.trans (b:=K2 x0 x1 x3 x6 x7 x8 x9 aK aN aP aX bf aS aT n  (fun x=>dD (Jq x4 x5 x7 x8 x9 aK x)) (fun x=>dz (Wn x0 x1 x3 x4 x5 x6 x7 x8 x9 aK aN aP aX bf aS aO aT x)) (fun y1 y3 z=>SL aT y1 x3 y3 x4 x5 x6 false true x7 x8 x9 aK aN aP aX bf aS aO aT n  dD z) x2) (by kernel_rfl) ?_;simp only [xg,m11_4]
end
section
variable (x0:ay) (x1 x3:Int) (x4:aB) (x5:ay) (x6:aA)
def SN (n:Nat)  (x:s5):Option (Bool):=iter (fun rec S=>run (zo n) (Gq n) (aw (av Try.f11) [1,1,1,1,0,1,0,0]) 4 S (cH rec (bW 4 (bA (run (zo n) (Gq n) (aw (av Try.f11) [1,1,1,1,1]) 0) (dM (zo n) Try.f11 Bg))))) [1,93,94,95] n (Jq x0 x1 x3 x4 x5 x6 x)
theorem m11_2 (n:Nat)  (x:s5):SN x0 x1 x3 x4 x5 x6 n  x=bS (EF x0 x1 x3 x4 x5 x6 n  ) n x:=by
 refine iter_eq _ _ (fun dD x2=>?_) n x
 refine Eq.trans (b:=
  cond (decide (x2<x1))
  (cond (decide (0≤x2)) (Option.bind x0[x2.toNat]? fun e8=>SM e8.aq (x4.length:Int) x2 x0 x1 x2 x3 x4 x5 x6 e8.aq e8.Number e8.Version e8.ax e8.State e8.Ending e8.bE n  dD 0) none)
  (some (true))) (by kernel_rfl) ?_
 simp only [m11_3];rfl
end
section
variable (x0:aA) (x1 x3:Int) (x4:aB) (x5:ay) (x6:aA)
def SQ (n:Nat)  (x:vh):Option (Bool):=iter (fun rec S=>run (zo n) (Gq n) (aw (av Try.f11) [1,1,1,0,1,0,0]) 2 S (cH rec (bW 2 (bA (run (zo n) (Gq n) (aw (av Try.f11) [1,1,1,1]) 0) (dM (zo n) Try.f11 Bg))))) [1,64,65,66] n (Wo x0 x1 x3 x4 x5 x6 x)
theorem m11_1 (n:Nat)  (x:vh):SQ x0 x1 x3 x4 x5 x6 n  x=bS (xh x0 x1 x3 x4 x5 x6 n  ) n x:=by
 refine iter_eq _ _ (fun dg x2=>?_) n x;refine Eq.trans (b:=K3 x0 x1 x5 x6 n   (fun x=>dg (Wo x0 x1 x3 x4 x5 x6 x)) (fun y1 z=>SN x5 y1 x3 x4 x5 x6 n   z) x2) (by kernel_rfl) ?_;simp only [xh,m11_2]
end
section
variable (x0:aB) (x1 x3:Int) (x4:aB) (x5:ay) (x6:aA)
def SR (n:Nat)  (x:yZ):Option (Bool):=iter (fun rec S=>run (zo n) (Gq n) (aw (av Try.f11) [1,1,0,1,0,0]) 0 S (cH rec (bW 0 (bA (run (zo n) (Gq n) (aw (av Try.f11) [1,1,1]) 0) (dM (zo n) Try.f11 Bg))))) [1,34,35,36] n (Wp x0 x1 x3 x4 x5 x6 x)
theorem m11_0 (n:Nat)  (x:yZ):SR x0 x1 x3 x4 x5 x6 n  x=bS (Ai x0 x1 x3 x4 x5 x6 n  ) n x:=by
 refine iter_eq _ _ (fun aM x2=>?_) n x;refine Eq.trans (b:=K4 x0 x1 x3 x4 x6 n   (fun x=>aM (Wp x0 x1 x3 x4 x5 x6 x)) (fun y1 z=>SQ x6 y1 x3 x4 x5 x6 n   z) x2) (by kernel_rfl) ?_;simp only [Ai,m11_1]
end
def VS (n:Nat) (a0:aa):Option (Bool):=
 Option.bind (u0 a0.bM 0 1000000) fun r1=>
 cond (!r1)
 (some (false))
 (cond (decide ((a0.af.length:Int)>8))
 (some (false))
 (cond (decide ((a0.ah.length:Int)>200))
 (some (false))
 (cond (decide ((a0.ak.length:Int)>6))
 (some (false))
 (bS (Ai a0.af (a0.af.length:Int) a0.bM a0.af a0.ah a0.ak n ) n 0))))
theorem t11 (n:Nat) (a0:aa):db (zo n) (Gq n) Try.f11 [.agg [.int .i64 a0.bM,.row .bD a0.af,.row .bX a0.ah,.row .cC a0.ak]] Bg=VS n a0:=by
 refine Eq.trans (b:=
  Option.bind (u0 a0.bM 0 1000000) fun r1=>
  cond (!r1)
  (some (false))
  (cond (decide ((a0.af.length:Int)>8))
  (some (false))
  (cond (decide ((a0.ah.length:Int)>200))
  (some (false))
  (cond (decide ((a0.ak.length:Int)>6))
  (some (false))
  (SR a0.af (a0.af.length:Int) a0.bM a0.af a0.ah a0.ak n   0))))) (by kernel_rfl) ?_
 simp only [VS,m11_0]
def G11 (a0:aa):Option (Bool):=VS fuel a0
def QW:iu C:=kD KK [.el .bU] [.bool] G11
theorem c11:cL Try.prog KK 11 QW:=cP (fV ⟨c33,c34,c35,trivial⟩ trivial ⟨i36 _,i37 _,trivial⟩:Cons Try.prog (zo fuel)) (fn:=Try.f11) (Gq fuel) (fun a0=>t11 fuel a0)
def X24:Cx C:=eP [] [] [] [] 1572864 []
def F24 (n:Nat):Cf:={ N:=n,keep:=[0,1,2],live:=lk [] }
abbrev dec24:=iX KK [.el .bU]
def G24n (n:Nat) (a0:aa):Option (aa):=
 cond (decide (((([]:aB)).length+a0.af.length)*112≤140737488355328)) (cond (decide (((([]:ay)).length+a0.ah.length)*72≤140737488355328)) (cond (decide (((([]:aA)).length+a0.ak.length)*24≤140737488355328)) (some ((⟨a0.bM,(([]:aB))++a0.af,(([]:ay))++a0.ah,(([]:aA))++a0.ak⟩:aa))) none) none) none
theorem t24 (n:Nat) (a0:aa):db X24 (F24 n) Try.f24 [.agg [.int .i64 a0.bM,.row .bD a0.af,.row .bX a0.ah,.row .cC a0.ak]] dec24=G24n n a0:=by
 kernel_rfl
def iV (a0:aa):Option (aa):=G24n fuel a0
def XN:iu C:=kD KK [.el .bU] [.el .bU] iV
theorem c24:cL Try.prog KK 24 XN:=cP (fV trivial trivial trivial:Cons Try.prog X24) (fn:=Try.f24) (F24 fuel) (fun a0=>t24 fuel a0)
def X75:Cx C:=eP [(33,FU)] [] [] [] 4915200 []
def F75 (n:Nat):Cf:={ N:=n,keep:=[0,1,2,3,13,18,34,63],live:=lk [(0,[1,3])] }
abbrev Xi:=iX KK [.bool]
abbrev GF:Type:=Int
section
variable (x1:BA) (x2 x3 x4 x5:Int) (x6:Bool) (x7:aI) (x8:Bool)
def s75_0:GF→St C:=fun x0=>{ env:=[(1,.one (.ptr 4915264 0)),(3,.one (.int .i64 x0))],aj:=[(4915264,.box .mem [.str x1,.int .i64 x2,.int .i64 x3,.int .i64 x4,.int .i64 x5,.bool x6,.row .fw x7,.bool x8])],base:=0 }
end
def Jt (x3 x4 x5:Int) (x6:Bool) (x7:aI) (x8:Bool) (n:Nat)   (aM:GF→Option (Bool)):GF→Option (Bool):=fun x0=>
 cond (decide (x0<(x7.length:Int)))
 (cond (decide (0≤x0)) (Option.bind x7[x0.toNat]? fun e2=>cond (decide (0≤i64.wrap (x0-1))) (Option.bind x7[(i64.wrap (x0-1)).toNat]? fun e3=>cond (decide (e2.Number≤e3.Number))
 (some (false))
 (aM (i64.wrap (x0+1)))) none) none)
 (cond x6
 (Option.bind (u0 x4 0 10) fun r4=>
 cond (!r4)
 (some (false))
 (Option.bind (u0 x5 0 3) fun r5=>
 cond (!r5)
 (some (false))
 (cond (!x6)
 (cond (x4 != 0)
 (some (false))
 (cond (x5 != 0)
 (some (false))
 (cond (!x8)
 (some (true))
 (cond (x3==0)
 (cond (!x6)
 (some ((x7.length:Int)==0))
 (some (false)))
 (some (false))))))
 (cond (!x8)
 (some (true))
 (cond (x3==0)
 (cond (!x6)
 (some ((x7.length:Int)==0))
 (some (false)))
 (some (false)))))))
 (cond (!x6)
 (cond (x4 != 0)
 (some (false))
 (cond (x5 != 0)
 (some (false))
 (cond (!x8)
 (some (true))
 (cond (x3==0)
 (cond (!x6)
 (some ((x7.length:Int)==0))
 (some (false)))
 (some (false))))))
 (cond (!x8)
 (some (true))
 (cond (x3==0)
 (cond (!x6)
 (some ((x7.length:Int)==0))
 (some (false)))
 (some (false))))))
section
variable (x1:BA) (x2 x3 x4 x5:Int) (x6:Bool) (x7:aI) (x8:Bool)
def RO (n:Nat)  (x:GF):Option (Bool):=iter (fun rec S=>run X75 (F75 n) (aw (av Try.f75) [1,1,0,1,0,0]) 0 S (cH rec (bW 0 (bA (run X75 (F75 n) (aw (av Try.f75) [1,1,1]) 0) (dM X75 Try.f75 Xi))))) [1,3] n (s75_0 x1 x2 x3 x4 x5 x6 x7 x8 x)
theorem m75_0 (n:Nat)  (x:GF):RO x1 x2 x3 x4 x5 x6 x7 x8 n  x=bS (Jt x3 x4 x5 x6 x7 x8 n  ) n x:=by
 refine iter_eq _ _ (fun aM x0=>?_) n x
 kernel_rfl
end
def Vz (n:Nat) (a0:au):Option (Bool):=
 Option.bind (u0 a0.bK 0 20) fun r1=>
 cond (!r1)
 (some (false))
 (cond (decide ((a0.Ends.length:Int)>200))
 (some (false))
 (bS (Jt a0.bK a0.Want a0.bb a0.cM a0.Ends a0.Drop n ) n 1))
theorem t75 (n:Nat) (a0:au):db X75 (F75 n) Try.f75 [.agg [.str a0.aq,.int .i64 a0.Seen,.int .i64 a0.bK,.int .i64 a0.Want,.int .i64 a0.bb,.bool a0.cM,.row .fw a0.Ends,.bool a0.Drop]] Xi=Vz n a0:=by
 refine Eq.trans (b:=
  Option.bind (u0 a0.bK 0 20) fun r1=>
  cond (!r1)
  (some (false))
  (cond (decide ((a0.Ends.length:Int)>200))
  (some (false))
  (RO a0.aq a0.Seen a0.bK a0.Want a0.bb a0.cM a0.Ends a0.Drop n   1))) (by kernel_rfl) ?_
 simp only [Vz,m75_0]
def G75 (a0:au):Option (Bool):=Vz fuel a0
def XA:iu C:=kD KK [.el .jq] [.bool] G75
theorem c75:cL Try.prog KK 75 XA:=cP (fV ⟨c33,trivial⟩ trivial trivial:Cons Try.prog X75) (fn:=Try.f75) (F75 fuel) (fun a0=>t75 fuel a0)
def sV:Cx C:=eP [] [] [] [] 3670016 []
def BD (n:Nat):Cf:={ N:=n,keep:=[0,1,2,6,7,12,13,14,37],live:=lk [(0,[0,1,2,12,13])] }
def I56 (n:Nat):lz C:=gg sV (BD n) Try.f56
theorem i56 (n:Nat):cG Try.prog KK 56 (I56 n):=iP (fV trivial trivial trivial:Cons Try.prog sV) (BD n) (fn:=Try.f56)
def X77:Cx C:=eP [] [] [] [] 5046272 []
def F77 (n:Nat):Cf:={ N:=n,keep:=[0,1,4,5,7,11,12,13,14,23,34,41,46,54],live:=lk [(0,[1,4,5,11,12,13])] }
abbrev Xh:=iX KK [.el .Bd]
abbrev BH:Type:=Int×Int×Int×Int×Int×Int
section
variable (x0:C .bD) (x1:ay) (x2 x4 x5 x6 x7 x8:Int)
def s77_0:BH→St C:=fun (x3,x9,aK,aN,aP,aX)=>{ env:=[(1,.one (.eS .bD x0 0)),(4,.one (.ptr 5046528 0)),(5,.one (.ptr 5046592 0)),(11,.one (.row .bX x1)),(12,.one (.int .i64 x2)),(13,.one (.int .i64 x3))],aj:=[(5046528,.box .mem [.int .i64 x4,.int .i64 x5,.int .i64 x6,.int .i64 x7,.int .i64 x8]),(5046592,.box .mem [.int .i64 x9,.int .i64 aK,.int .i64 aN,.int .i64 aP,.int .i64 aX])],base:=0 }
end
def zY (x0:C .bD) (x1:ay) (x2:Int) (n:Nat)   (aM:BH→Option (dm)):BH→Option (dm):=fun (x3,x9,aK,aN,aP,aX)=>
 cond (decide (x3<x2))
 (cond (decide (0≤x3)) (Option.bind x1[x3.toNat]? fun e1=>cond (!decide (e1.aq=x0.Name))
 (aM ((i64.wrap (x3+1),x9,aK,aN,aP,aX)))
 (cond e1.Ending
 (aM ((i64.wrap (x3+1),x9,aK,aN,aP,i64.wrap (aX+1))))
 (cond (e1.State==3)
 (cond (e1.ax != x0.ax)
 (cond (e1.State==4)
 (aM ((i64.wrap (x3+1),i64.wrap (x9+1),i64.wrap (aK+1),i64.wrap (aN+1),i64.wrap (aP+1),aX)))
 (aM ((i64.wrap (x3+1),i64.wrap (x9+1),i64.wrap (aK+1),i64.wrap (aN+1),aP,aX))))
 (cond (e1.State==4)
 (aM ((i64.wrap (x3+1),i64.wrap (x9+1),i64.wrap (aK+1),aN,i64.wrap (aP+1),aX)))
 (aM ((i64.wrap (x3+1),i64.wrap (x9+1),i64.wrap (aK+1),aN,aP,aX)))))
 (cond (e1.ax != x0.ax)
 (cond (e1.State==4)
 (aM ((i64.wrap (x3+1),i64.wrap (x9+1),aK,i64.wrap (aN+1),i64.wrap (aP+1),aX)))
 (aM ((i64.wrap (x3+1),i64.wrap (x9+1),aK,i64.wrap (aN+1),aP,aX))))
 (cond (e1.State==4)
 (aM ((i64.wrap (x3+1),i64.wrap (x9+1),aK,aN,i64.wrap (aP+1),aX)))
 (aM ((i64.wrap (x3+1),i64.wrap (x9+1),aK,aN,aP,aX)))))))) none)
 (some ((⟨x9,aK,aN,aP,aX⟩:dm)))
section
variable (x0:C .bD) (x1:ay) (x2 x4 x5 x6 x7 x8:Int)
def RN (n:Nat)  (x:BH):Option (dm):=iter (fun rec S=>run X77 (F77 n) (aw (av Try.f77) [1,1,0,1,0,0]) 0 S (cH rec (bW 0 (bA (run X77 (F77 n) (aw (av Try.f77) [1,1,1]) 0) (dM X77 Try.f77 Xh))))) [1,4,5,11,12,13] n (s77_0 x0 x1 x2 x4 x5 x6 x7 x8 x)
theorem m77_0 (n:Nat)  (x:BH):RN x0 x1 x2 x4 x5 x6 x7 x8 n  x=bS (zY x0 x1 x2 n  ) n x:=by
 refine iter_eq _ _ (fun aM x=>?_) n x;obtain ⟨x3,x9,aK,aN,aP,aX⟩:=x
 kernel_rfl
end
def G77n (n:Nat) (a0:C .bU) (a1:C .bD):Option (dm):=
 bS (zY a1 a0.ah (a0.ah.length:Int) n ) n (0,0,0,0,0,0)
theorem t77 (n:Nat) (a0:C .bU) (a1:C .bD):db X77 (F77 n) Try.f77 [.one (.eS .bU a0 0),.one (.eS .bD a1 0)] Xh=G77n n a0 a1:=by
 refine Eq.trans (b:=
  RN a1 a0.ah (a0.ah.length:Int) 0 0 0 0 0 n   (0,0,0,0,0,0)) (by kernel_rfl) ?_
 simp only [G77n,m77_0]
def NC (a0:C .bU) (a1:C .bD):Option (dm):=G77n fuel a0 a1
def KH:iu C:=kD KK [.ptr .bU,.ptr .bD] [.el .Bd] NC
theorem c77:cL Try.prog KK 77 KH:=cP (fV trivial trivial trivial:Cons Try.prog X77) (fn:=Try.f77) (F77 fuel) (fun a0 a1=>t77 fuel a0 a1)
def X76:Cx C:=eP [(77,KH)] [] [] [] 4980736 []
def F76 (n:Nat):Cf:={ N:=n,keep:=[0,1,2,6,14],live:=lk [] }
def I76 (n:Nat):lz C:=gg X76 (F76 n) Try.f76
theorem i76 (n:Nat):cG Try.prog KK 76 (I76 n):=iP (fV ⟨c77,trivial⟩ trivial trivial:Cons Try.prog X76) (F76 n) (fn:=Try.f76)
def X80:Cx C:=eP [] [] [] [] 5242880 []
def F80 (n:Nat):Cf:={ N:=n,keep:=[0,1,2,3],live:=lk [] }
abbrev dec80:=iX KK [.bool]
def Vx (n:Nat) (a0:ae) (a1:C .jq):Option (Bool):=
 some (decide (a0.Name=a1.aq))
theorem t80 (n:Nat) (a0:ae) (a1:C .jq):db X80 (F80 n) Try.f80 [.agg [.str a0.Name,.int .i64 a0.Version,.bool a0.bq,.int .i64 a0.ax,.int .i64 a0.Want,.int .i64 a0.Down,.int .i64 a0.bg,.int .i64 a0.Next,.int .i64 a0.bY,.int .i64 a0.aD,.int .i64 a0.aU,.int .i64 a0.bF,.int .i64 a0.bb],.one (.eS .jq a1 0)] dec80=Vx n a0 a1:=by
 kernel_rfl
def G80 (a0:ae) (a1:C .jq):Option (Bool):=Vx fuel a0 a1
def KG:iu C:=kD KK [.el .bD,.ptr .jq] [.bool] G80
theorem c80:cL Try.prog KK 80 KG:=cP (fV trivial trivial trivial:Cons Try.prog X80) (fn:=Try.f80) (F80 fuel) (fun a0 a1=>t80 fuel a0 a1)
def X53:Cx C:=eP [(80,KG)] [] [] [] 3473408 []
def F53 (n:Nat):Cf:={ N:=n,keep:=[0,1,4,5,7,8,9,16],live:=lk [(0,[0,1,7,8])] }
def I53 (n:Nat):lz C:=gg X53 (F53 n) Try.f53
theorem i53 (n:Nat):cG Try.prog KK 53 (I53 n):=iP (fV ⟨c80,trivial⟩ trivial trivial:Cons Try.prog X53) (F53 n) (fn:=Try.f53)
def Yc (n:Nat):Cx C:=eP [(80,KG)] [] [(53,I53 n)] [0,1,5,6,7,10,28,29] 5177344 [38]
def F79 (n:Nat):Cf:={ N:=n,keep:=[0,1,4,5,6,7,12,19,29],live:=lk [(0,[0,1,5,6])] }
def I79 (n:Nat):lz C:=gg (Yc n) (F79 n) Try.f79
theorem i79 (n:Nat):cG Try.prog KK 79 (I79 n):=iP (fV ⟨c80,trivial⟩ trivial ⟨i53 _,trivial⟩:Cons Try.prog (Yc n)) (F79 n) (fn:=Try.f79)
def kR (n:Nat):Cx C:=eP [(33,FU),(75,XA),(77,KH),(80,KG)] [] [(36,I36 n),(56,I56 n),(76,I76 n),(79,I79 n)] [0,3,5,9,12,21,25,26,27,36,37,47,48,49,53,54,55,56,57,58,59,60,61,62,63,64,67,68,69,78,82,83,280,286,287,288] 2686976 []
def oh (n:Nat):Cf:={ N:=n,keep:=[0,1,3,4,5,7,9,11,12,13,14,17,23,25,26,27,28,37,45,47,48,49,50,64,67,68,69,70,83,115,117,136,172,198,234,238,239,240,279],live:=lk [(0,[0,3,5,25,26,27]),(2,[0,3,5,47,48,49]),(4,[0,3,5,67,68,69]),(6,[0,3,5,14]),(8,[0,3,5,14,238,239])] }
def I41 (n:Nat):lz C:=gg (kR n) (oh n) Try.f41
theorem i41 (n:Nat):cG Try.prog KK 41 (I41 n):=iP (fV ⟨c33,c75,c77,c80,trivial⟩ trivial ⟨i36 _,i56 _,i76 _,i79 _,trivial⟩:Cons Try.prog (kR n)) (oh n) (fn:=Try.f41)
def jV (n:Nat):Cx C:=eP [(11,QW),(24,XN)] [] [(41,I41 n)] [2,4,6,7,15] 851968 []
def m9 (n:Nat):Cf:={ N:=n,keep:=[0,1,2,3,4,5,6,7,10,17],live:=lk [] }
abbrev mr:=iX KK [.el .bU,.int .i64]
abbrev BT:Type:=Int
abbrev BS:Type:=Int
abbrev BR:Type:=Int
abbrev BQ:Type:=Int
abbrev BP:Type:=Int
abbrev uA:Type:=aB×Int×Int
abbrev pK:Type:=Int
abbrev pL:Type:=aB×Int×Int×ay
abbrev vg:Type:=Int
abbrev ng:Type:=Int×ay
abbrev lV:Type:=Int
abbrev pM:Type:=Int
abbrev yX:Type:=Int
section
variable (x0:BA) (x1 x2:Int) (x4:aB) (x5:Nat) (x6:aI) (x7 x8 x9:Int) (aK:ay) (aN:aA) (aP:BA) (aX bf aS aO:Int) (aT:Bool) (aW:aI) (bh:Bool) (bJ:Int) (bG:aB) (bL:ay) (bZ:aA) (da:Int) (cW:aB) (dE:ay) (dI:aA)
def s13_2:BT→St C:=fun x3=>{ env:=[(0,.one (.ptr 852352 0)),(1,.one (.str x0)),(2,.one (.int .i64 x1)),(12,.one (.int .i64 x2)),(13,.one (.int .i64 x3)),(1000,.bz (false,[.ptr 852352 0]) 16037000),(1003,.bz (false,[.ptr 68719479423168 0]) 16037003),(1005,.bz (false,[.ep 86235201 [] x5 0]) 16037005),(1025,.bz (false,[.row .fw x6]) 16037025),(1026,.bz (false,[.int .i64 x7]) 16037026),(1027,.bz (false,[.int .i64 x8]) 16037027),(2002,.bz (false,[.ptr 852096 0]) 16002),(2004,.bz (false,[.ptr 852224 0]) 16004),(2006,.bz (false,[.ptr 852352 0]) 16006)],aj:=[(86235201,.row .bD x4 false),(852352,.box .mem [.int .i64 x9,.ref 86235201 [],.ref 86235202 [],.ref 86235203 []]),(86235202,.row .bX aK false),(86235203,.row .cC aN false),(68719479423168,.box .mem [.str aP,.int .i64 aX,.int .i64 bf,.int .i64 aS,.int .i64 aO,.bool aT,.row .fw aW,.bool bh]),(852096,.box .mem [.int .i64 bJ,.row .bD bG,.row .bX bL,.row .cC bZ]),(852224,.box .mem [.int .i64 da,.ref 86222401 [],.ref 86222402 [],.ref 86222403 []]),(86222401,.row .bD cW false),(86222402,.row .bX dE false),(86222403,.row .cC dI false)],base:=16037000 }
end
def Ag (x0:BA) (x1 x2:Int) (x4:aB) (x8 x9:Int) (aK:ay) (aN:aA) (bJ:Int) (bG:aB) (bL:ay) (bZ:aA) (n:Nat)  (dg:pM→Option (aa×Int)) (dD:BT→Option (aa×Int)):BT→Option (aa×Int):=fun x3=>
 cond (decide (x3<x2))
 (cond (decide (0≤x3)) (cond (decide (x3<(aK.length:Int))) (Option.bind aK[x3.toNat]? fun e7=>cond (decide (e7.aq=x0))
 (cond (decide (0≤x3)) (cond (decide (x3<(aK.length:Int))) (Option.bind aK[x3.toNat]? fun e8=>cond (e8.Number==x1)
 (cond (decide (0≤x3)) (cond (decide (x3<(aK.length:Int))) (dg (i64.wrap (x8+1))) none) none)
 (dD (i64.wrap (x3+1)))) none) none)
 (dD (i64.wrap (x3+1)))) none) none)
 (cond (3 != 0)
 (Option.bind (iV (⟨bJ,bG,bL,bZ⟩:aa)) fun r9=>
 some (r9,3))
 (some ((⟨x9,x4,aK,aN⟩:aa),0)))
section
variable (x0:BA) (x1 x2:Int) (x4:aB) (x5:Nat) (x6:aI) (x7 x8:Int) (x9:BA) (aK aN aP:Int) (aX:ay) (bf:aA) (aS:BA) (aO aT aW bh:Int) (bJ:Bool) (bG:aI) (bL:Bool) (bZ da cW:Int) (dE:aB) (dI:ay) (dS:aA) (gz:Int) (gi:aB) (gy:ay) (lW:aA)
def s13_4:BS→St C:=fun x3=>{ env:=[(0,.one (.ptr 852352 0)),(1,.one (.str x0)),(2,.one (.int .i64 x1)),(12,.one (.int .i64 x2)),(13,.one (.int .i64 x3)),(1000,.bz (false,[.ptr 852352 0]) 16059000),(1003,.bz (false,[.ptr 68719479423168 0]) 16059003),(1005,.bz (false,[.ep 86235201 [] x5 0]) 16059005),(1009,.bz (false,[.ptr 68719479423552 0]) 16059009),(1047,.bz (false,[.row .fw x6]) 16059047),(1048,.bz (false,[.int .i64 x7]) 16059048),(1049,.bz (false,[.int .i64 x8]) 16059049),(1053,.bz (false,[.ptr 852352 0]) 16059053),(1054,.bz (false,[.ptr 68719479423168 0]) 16059054),(1055,.bz (false,[.str x9]) 16059055),(1056,.bz (false,[.ptr 68719479423552 0]) 16059056),(1057,.bz (false,[.int .i64 aK]) 16059057),(1062,.bz (false,[.ptr 68719479423552 1]) 16059062),(1063,.bz (false,[.int .i64 aN]) 16059063),(2002,.bz (false,[.ptr 852096 0]) 16002),(2004,.bz (false,[.ptr 852224 0]) 16004),(2006,.bz (false,[.ptr 852352 0]) 16006)],aj:=[(86235201,.row .bD x4 false),(852352,.box .mem [.int .i64 aP,.ref 86235201 [],.ref 86235202 [],.ref 86235203 []]),(86235202,.row .bX aX false),(86235203,.row .cC bf false),(68719479423168,.box .mem [.str aS,.int .i64 aO,.int .i64 aT,.int .i64 aW,.int .i64 bh,.bool bJ,.row .fw bG,.bool bL]),(68719479423552,.box .mem [.int .i64 bZ,.int .i64 da]),(852096,.box .mem [.int .i64 cW,.row .bD dE,.row .bX dI,.row .cC dS]),(852224,.box .mem [.int .i64 gz,.ref 86222401 [],.ref 86222402 [],.ref 86222403 []]),(86222401,.row .bD gi false),(86222402,.row .bX gy false),(86222403,.row .cC lW false)],base:=16059000 }
end
def uM (x0:BA) (x1 x2:Int) (x4:aB) (x8 aN aP:Int) (aX:ay) (bf:aA) (cW:Int) (dE:aB) (dI:ay) (dS:aA) (n:Nat)  (dz:lV→Option (aa×Int)) (qp:BS→Option (aa×Int)):BS→Option (aa×Int):=fun x3=>
 cond (decide (x3<x2))
 (cond (decide (0≤x3)) (cond (decide (x3<(aX.length:Int))) (Option.bind aX[x3.toNat]? fun FJ=>cond (decide (FJ.aq=x0))
 (cond (decide (0≤x3)) (cond (decide (x3<(aX.length:Int))) (Option.bind aX[x3.toNat]? fun e14=>cond (e14.Number==x1)
 (cond (decide (0≤x3)) (cond (decide (x3<(aX.length:Int))) (Option.bind aX[x3.toNat]? fun qd=>cond (qd.Version != aN)
 (cond (4 != 0)
 (Option.bind (iV (⟨cW,dE,dI,dS⟩:aa)) fun r16=>
 some (r16,4))
 (some ((⟨aP,x4,aX,bf⟩:aa),0)))
 (dz (i64.wrap (x8+1)))) none) none)
 (qp (i64.wrap (x3+1)))) none) none)
 (qp (i64.wrap (x3+1)))) none) none)
 (none)
section
variable (x0:BA) (x1 x2:Int) (x4:aB) (x5:Nat) (x6:aI) (x7 x8:Int) (x9:BA) (aK aN:Int) (aP:ay) (aX:aA) (bf:BA) (aS aO aT aW:Int) (bh:Bool) (bJ:aI) (bG:Bool) (bL bZ da:Int) (cW:aB) (dE:ay) (dI:aA) (dS:Int) (gz:aB) (gi:ay) (gy:aA)
def s13_5:BR→St C:=fun x3=>{ env:=[(0,.one (.ptr 852352 0)),(1,.one (.str x0)),(2,.one (.int .i64 x1)),(12,.one (.int .i64 x2)),(13,.one (.int .i64 x3)),(1000,.bz (false,[.ptr 852352 0]) 16059000),(1003,.bz (false,[.ptr 68719479423168 0]) 16059003),(1005,.bz (false,[.ep 86235201 [] x5 0]) 16059005),(1009,.bz (false,[.ptr 68719479423552 0]) 16059009),(1047,.bz (false,[.row .fw x6]) 16059047),(1048,.bz (false,[.int .i64 x7]) 16059048),(1049,.bz (false,[.int .i64 x8]) 16059049),(1053,.bz (false,[.ptr 852352 0]) 16059053),(1054,.bz (false,[.ptr 68719479423168 0]) 16059054),(1055,.bz (false,[.str x9]) 16059055),(1056,.bz (false,[.ptr 68719479423552 0]) 16059056),(1057,.bz (false,[.int .i64 aK]) 16059057),(1062,.bz (false,[.ptr 68719479423552 1]) 16059062),(2002,.bz (false,[.ptr 852096 0]) 16002),(2004,.bz (false,[.ptr 852224 0]) 16004),(2006,.bz (false,[.ptr 852352 0]) 16006)],aj:=[(86235201,.row .bD x4 false),(852352,.box .mem [.int .i64 aN,.ref 86235201 [],.ref 86235202 [],.ref 86235203 []]),(86235202,.row .bX aP false),(86235203,.row .cC aX false),(68719479423168,.box .mem [.str bf,.int .i64 aS,.int .i64 aO,.int .i64 aT,.int .i64 aW,.bool bh,.row .fw bJ,.bool bG]),(68719479423552,.box .mem [.int .i64 bL,.int .i64 bZ]),(852096,.box .mem [.int .i64 da,.row .bD cW,.row .bX dE,.row .cC dI]),(852224,.box .mem [.int .i64 dS,.ref 86222401 [],.ref 86222402 [],.ref 86222403 []]),(86222401,.row .bD gz false),(86222402,.row .bX gi false),(86222403,.row .cC gy false)],base:=16059000 }
end
def OX (x0:BA) (x1 x2:Int) (x4:aB) (x8 aN:Int) (aP:ay) (aX:aA) (bZ da:Int) (cW:aB) (dE:ay) (dI:aA) (n:Nat)  (dz:lV→Option (aa×Int)) (LY:BR→Option (aa×Int)):BR→Option (aa×Int):=fun x3=>
 cond (decide (x3<x2))
 (cond (decide (0≤x3)) (cond (decide (x3<(aP.length:Int))) (Option.bind aP[x3.toNat]? fun bQ=>cond (decide (bQ.aq=x0))
 (cond (decide (0≤x3)) (cond (decide (x3<(aP.length:Int))) (Option.bind aP[x3.toNat]? fun U8=>cond (U8.Number==x1)
 (cond (decide (0≤x3)) (cond (decide (x3<(aP.length:Int))) (Option.bind aP[x3.toNat]? fun Tx=>cond (Tx.Version != bZ)
 (cond (4 != 0)
 (Option.bind (iV (⟨da,cW,dE,dI⟩:aa)) fun kH=>
 some (kH,4))
 (some ((⟨aN,x4,aP,aX⟩:aa),0)))
 (dz (i64.wrap (x8+1)))) none) none)
 (LY (i64.wrap (x3+1)))) none) none)
 (LY (i64.wrap (x3+1)))) none) none)
 (none)
section
variable (x0:BA) (x1 x2:Int) (x4:aB) (x5:Nat) (x6:aI) (x7 x8:Int) (x9:BA) (aK aN:Int) (aP:ay) (aX:aA) (bf:BA) (aS aO aT aW:Int) (bh:Bool) (bJ:aI) (bG:Bool) (bL bZ da:Int) (cW:aB) (dE:ay) (dI:aA) (dS:Int) (gz:aB) (gi:ay) (gy:aA)
def s13_6:BQ→St C:=fun x3=>{ env:=[(0,.one (.ptr 852352 0)),(1,.one (.str x0)),(2,.one (.int .i64 x1)),(12,.one (.int .i64 x2)),(13,.one (.int .i64 x3)),(1000,.bz (false,[.ptr 852352 0]) 16059000),(1003,.bz (false,[.ptr 68719479423168 0]) 16059003),(1005,.bz (false,[.ep 86235201 [] x5 0]) 16059005),(1009,.bz (false,[.ptr 68719479423552 0]) 16059009),(1047,.bz (false,[.row .fw x6]) 16059047),(1048,.bz (false,[.int .i64 x7]) 16059048),(1049,.bz (false,[.int .i64 x8]) 16059049),(1053,.bz (false,[.ptr 852352 0]) 16059053),(1054,.bz (false,[.ptr 68719479423168 0]) 16059054),(1055,.bz (false,[.str x9]) 16059055),(1056,.bz (false,[.ptr 68719479423552 0]) 16059056),(1057,.bz (false,[.int .i64 aK]) 16059057),(2002,.bz (false,[.ptr 852096 0]) 16002),(2004,.bz (false,[.ptr 852224 0]) 16004),(2006,.bz (false,[.ptr 852352 0]) 16006)],aj:=[(86235201,.row .bD x4 false),(852352,.box .mem [.int .i64 aN,.ref 86235201 [],.ref 86235202 [],.ref 86235203 []]),(86235202,.row .bX aP false),(86235203,.row .cC aX false),(68719479423168,.box .mem [.str bf,.int .i64 aS,.int .i64 aO,.int .i64 aT,.int .i64 aW,.bool bh,.row .fw bJ,.bool bG]),(68719479423552,.box .mem [.int .i64 bL,.int .i64 bZ]),(852096,.box .mem [.int .i64 da,.row .bD cW,.row .bX dE,.row .cC dI]),(852224,.box .mem [.int .i64 dS,.ref 86222401 [],.ref 86222402 [],.ref 86222403 []]),(86222401,.row .bD gz false),(86222402,.row .bX gi false),(86222403,.row .cC gy false)],base:=16059000 }
end
def OW (x0:BA) (x1 x2:Int) (x4:aB) (x8 aN:Int) (aP:ay) (aX:aA) (bZ da:Int) (cW:aB) (dE:ay) (dI:aA) (n:Nat)  (dz:lV→Option (aa×Int)) (zu:BQ→Option (aa×Int)):BQ→Option (aa×Int):=fun x3=>
 cond (decide (x3<x2))
 (cond (decide (0≤x3)) (cond (decide (x3<(aP.length:Int))) (Option.bind aP[x3.toNat]? fun DB=>cond (decide (DB.aq=x0))
 (cond (decide (0≤x3)) (cond (decide (x3<(aP.length:Int))) (Option.bind aP[x3.toNat]? fun e22=>cond (e22.Number==x1)
 (cond (decide (0≤x3)) (cond (decide (x3<(aP.length:Int))) (Option.bind aP[x3.toNat]? fun e23=>cond (e23.Version != bZ)
 (cond (4 != 0)
 (Option.bind (iV (⟨da,cW,dE,dI⟩:aa)) fun jX=>
 some (jX,4))
 (some ((⟨aN,x4,aP,aX⟩:aa),0)))
 (dz (i64.wrap (x8+1)))) none) none)
 (zu (i64.wrap (x3+1)))) none) none)
 (zu (i64.wrap (x3+1)))) none) none)
 (none)
section
variable (x0:BA) (x1 x2:Int) (x4:aB) (x5:Nat) (x6:aI) (x7 x8 x9:Int) (aK:ay) (aN:aA) (aP:BA) (aX bf aS aO:Int) (aT:Bool) (aW:aI) (bh:Bool) (bJ:Int) (bG:aB) (bL:ay) (bZ:aA) (da:Int) (cW:aB) (dE:ay) (dI:aA)
def s13_8:BP→St C:=fun x3=>{ env:=[(0,.one (.ptr 852352 0)),(1,.one (.str x0)),(2,.one (.int .i64 x1)),(12,.one (.int .i64 x2)),(13,.one (.int .i64 x3)),(1000,.bz (false,[.ptr 852352 0]) 16079000),(1003,.bz (false,[.ptr 68719479423168 0]) 16079003),(1005,.bz (false,[.ep 86235201 [] x5 0]) 16079005),(1067,.bz (false,[.row .fw x6]) 16079067),(1068,.bz (false,[.int .i64 x7]) 16079068),(1069,.bz (false,[.int .i64 x8]) 16079069),(2002,.bz (false,[.ptr 852096 0]) 16002),(2004,.bz (false,[.ptr 852224 0]) 16004),(2006,.bz (false,[.ptr 852352 0]) 16006)],aj:=[(86235201,.row .bD x4 false),(852352,.box .mem [.int .i64 x9,.ref 86235201 [],.ref 86235202 [],.ref 86235203 []]),(86235202,.row .bX aK false),(86235203,.row .cC aN false),(68719479423168,.box .mem [.str aP,.int .i64 aX,.int .i64 bf,.int .i64 aS,.int .i64 aO,.bool aT,.row .fw aW,.bool bh]),(852096,.box .mem [.int .i64 bJ,.row .bD bG,.row .bX bL,.row .cC bZ]),(852224,.box .mem [.int .i64 da,.ref 86222401 [],.ref 86222402 [],.ref 86222403 []]),(86222401,.row .bD cW false),(86222402,.row .bX dE false),(86222403,.row .cC dI false)],base:=16079000 }
end
def Af (x0:BA) (x1 x2:Int) (x4:aB) (x5:Nat) (x8 x9:Int) (aK:ay) (aN:aA) (bJ:Int) (bG:aB) (bL:ay) (bZ:aA) (n:Nat)  (jP:ng→Option (aa×Int)) (wZ:BP→Option (aa×Int)):BP→Option (aa×Int):=fun x3=>
 cond (decide (x3<x2))
 (cond (decide (0≤x3)) (cond (decide (x3<(aK.length:Int))) (Option.bind aK[x3.toNat]? fun e26=>cond (decide (e26.aq=x0))
 (cond (decide (0≤x3)) (cond (decide (x3<(aK.length:Int))) (Option.bind aK[x3.toNat]? fun bU=>cond (bU.Number==x1)
 (cond (decide (0≤x3)) (cond (decide (x3<(aK.length:Int))) (Option.bind aK[x3.toNat]? fun e28=>cond e28.Ending
 (cond (5 != 0)
 (Option.bind (iV (⟨bJ,bG,bL,bZ⟩:aa)) fun Aa=>
 some (Aa,5))
 (some ((⟨x9,x4,aK,aN⟩:aa),0)))
 (Option.bind aK[x3.toNat]? fun Kw=>cond (Kw.State != 3)
 (Option.bind aK[x3.toNat]? fun s8=>Option.bind (aK.set x3.toNat (⟨s8.aq,s8.Number,s8.Version,s8.ax,s8.State,true,s8.bE⟩:ai))[x3.toNat]? fun W9=>jP ((i64.wrap (x8+1),(aK.set x3.toNat (⟨s8.aq,s8.Number,s8.Version,s8.ax,s8.State,true,s8.bE⟩:ai)).set x3.toNat ((⟨W9.aq,W9.Number,i64.wrap (x9+1),W9.ax,W9.State,W9.Ending,W9.bE⟩:ai)))))
 (Option.bind x4[x5]? fun Kv=>cond Kv.bq
 (Option.bind aK[x3.toNat]? fun NA=>Option.bind (aK.set x3.toNat (⟨NA.aq,NA.Number,NA.Version,NA.ax,NA.State,true,NA.bE⟩:ai))[x3.toNat]? fun W8=>jP ((i64.wrap (x8+1),(aK.set x3.toNat (⟨NA.aq,NA.Number,NA.Version,NA.ax,NA.State,true,NA.bE⟩:ai)).set x3.toNat ((⟨W8.aq,W8.Number,i64.wrap (x9+1),W8.ax,W8.State,W8.Ending,W8.bE⟩:ai)))))
 (Option.bind x4[x5]? fun Ku=>Option.bind (NC (⟨x9,x4,aK,aN⟩:aa) Ku) fun Y6=>
 Option.bind x4[x5]? fun e38=>Option.bind x4[x5]? fun Kt=>cond (!(decide ((i64.wrap (Y6.qE-1))≥(i64.wrap (e38.Want-Kt.Down)))))
 (cond (5 != 0)
 (Option.bind (iV (⟨bJ,bG,bL,bZ⟩:aa)) fun Y5=>
 some (Y5,5))
 (some ((⟨x9,x4,aK,aN⟩:aa),0)))
 (Option.bind aK[x3.toNat]? fun jq=>Option.bind (aK.set x3.toNat (⟨jq.aq,jq.Number,jq.Version,jq.ax,jq.State,true,jq.bE⟩:ai))[x3.toNat]? fun C3=>jP ((i64.wrap (x8+1),(aK.set x3.toNat (⟨jq.aq,jq.Number,jq.Version,jq.ax,jq.State,true,jq.bE⟩:ai)).set x3.toNat ((⟨C3.aq,C3.Number,i64.wrap (x9+1),C3.ax,C3.State,C3.Ending,C3.bE⟩:ai))))))))) none) none)
 (wZ (i64.wrap (x3+1)))) none) none)
 (wZ (i64.wrap (x3+1)))) none) none)
 (cond (5 != 0)
 (Option.bind (iV (⟨bJ,bG,bL,bZ⟩:aa)) fun r43=>
 some (r43,5))
 (some ((⟨x9,x4,aK,aN⟩:aa),0)))
section
variable (x3:Nat) (x4:Int) (x5:ay) (x6:aA) (x7:BA) (x8 x9 aK aN:Int) (aP:Bool) (aX:aI) (bf:Bool) (aS:Int) (aO:aB) (aT:ay) (aW:aA) (bh:Int) (bJ:aB) (bG:ay) (bL:aA)
def YM:uA→St C:=fun (x0,x1,x2)=>{ env:=[(0,.one (.ref 100000 [])),(1,.one (.vo 68719479441216)),(5,.one (.int .i64 x1)),(6,.one (.int .i64 x2)),(1000,.bz (false,[.ptr 852352 0]) 16287000),(1003,.bz (false,[.ptr 68719479423168 0]) 16287003),(1005,.bz (false,[.ep 100000 [] x3 0]) 16287005),(1280,.bz (false,[.ptr 852352 0]) 16287280),(2002,.bz (false,[.ptr 852096 0]) 16002),(2004,.bz (false,[.ptr 852224 0]) 16004),(2006,.bz (false,[.ptr 852352 0]) 16006)],aj:=[(100000,.row .bD x0 false),(68719479441216,.box (.gV 80 0 [(false,1)]) [.ptr 68719479423168 0]),(852352,.box .mem [.int .i64 x4,.ref 100000 [],.ref 86235202 [],.ref 86235203 []]),(86235202,.row .bX x5 false),(86235203,.row .cC x6 false),(68719479423168,.box .mem [.str x7,.int .i64 x8,.int .i64 x9,.int .i64 aK,.int .i64 aN,.bool aP,.row .fw aX,.bool bf]),(852096,.box .mem [.int .i64 aS,.row .bD aO,.row .bX aT,.row .cC aW]),(852224,.box .mem [.int .i64 bh,.ref 86222401 [],.ref 86222402 [],.ref 86222403 []]),(86222401,.row .bD bJ false),(86222402,.row .bX bG false),(86222403,.row .cC bL false)],base:=16287000 }
end
def tz (x4:Int) (x5:ay) (x6:aA) (x7:BA) (x8 x9 aK aN:Int) (aP:Bool) (aX:aI) (bf:Bool) (aS:Int) (aO:aB) (aT:ay) (aW:aA) (n:Nat)   (OP:uA→Option (aa×Int)):uA→Option (aa×Int):=fun (x0,x1,x2)=>
 cond (decide (x2<(x0.length:Int)))
 (cond (decide (0≤x2)) (cond (decide (x2<(x0.length:Int))) (Option.bind x0[x2.toNat]? fun e77=>Option.bind (G80 e77 (⟨x7,x8,x9,aK,aN,aP,aX,bf⟩:au)) fun r78=>
 cond (!r78)
 (cond (decide (0≤x1)) (cond (decide (x1<(x0.length:Int))) (Option.bind x0[x1.toNat]? fun e79=>OP ((x0.set x1.toNat e77,i64.wrap (x1+1),i64.wrap (x2+1)))) none) none)
 (OP ((x0,x1,i64.wrap (x2+1))))) none) none)
 (cond (decide ((0:Int)≤x1)) (cond (decide ((x1:Int)≤(x0.length:Int))) (cond (decide ((x0.length:Int)≤(x0.length:Int))) (cond (decide ((0:Int)≤x1)) (cond (decide (x1≤((x0.take ((x1:Int).toNat)++List.replicate (((x0.length:Int).toNat)-((x1:Int).toNat)) (⟨⟨#[]⟩,0,false,0,0,0,0,0,0,0,0,0,0⟩:C .bD)++x0.drop ((x0.length:Int).toNat)).length:Int))) (cond (0 != 0)
 (Option.bind (iV (⟨aS,aO,aT,aW⟩:aa)) fun r80=>
 some (r80,0))
 (some ((⟨x4,(x0.take ((x1:Int).toNat)++List.replicate (((x0.length:Int).toNat)-((x1:Int).toNat)) (⟨⟨#[]⟩,0,false,0,0,0,0,0,0,0,0,0,0⟩:C .bD)++x0.drop ((x0.length:Int).toNat)).take x1.toNat,x5,x6⟩:aa),0))) none) none) none) none) none)
section
variable (x0:aB) (x1:Int) (x3:Nat) (x4:Int) (x5:ay) (x6:aA) (x7:BA) (x8 x9 aK aN:Int) (aP:Bool) (aX:aI) (bf:Bool) (aS:Int) (aO:aB) (aT:ay) (aW:aA) (bh:Int) (bJ:aB) (bG:ay) (bL:aA)
def OD:pK→St C:=fun x2=>{ env:=[(0,.one (.ref 100000 [])),(1,.one (.vo 68719479441216)),(7,.one (.int .i64 x1)),(8,.one (.int .i64 x2)),(1000,.bz (false,[.ref 100000 []]) 16287011000),(1001,.bz (false,[.vo 68719479441216]) 16287011001),(2000,.bz (false,[.ptr 852352 0]) 16287000),(2003,.bz (false,[.ptr 68719479423168 0]) 16287003),(2005,.bz (false,[.ep 100000 [] x3 0]) 16287005),(2280,.bz (false,[.ptr 852352 0]) 16287280),(3002,.bz (false,[.ptr 852096 0]) 16002),(3004,.bz (false,[.ptr 852224 0]) 16004),(3006,.bz (false,[.ptr 852352 0]) 16006)],aj:=[(100000,.row .bD x0 false),(68719479441216,.box (.gV 80 0 [(false,1)]) [.ptr 68719479423168 0]),(852352,.box .mem [.int .i64 x4,.ref 100000 [],.ref 86235202 [],.ref 86235203 []]),(86235202,.row .bX x5 false),(86235203,.row .cC x6 false),(68719479423168,.box .mem [.str x7,.int .i64 x8,.int .i64 x9,.int .i64 aK,.int .i64 aN,.bool aP,.row .fw aX,.bool bf]),(852096,.box .mem [.int .i64 aS,.row .bD aO,.row .bX aT,.row .cC aW]),(852224,.box .mem [.int .i64 bh,.ref 86222401 [],.ref 86222402 [],.ref 86222403 []]),(86222401,.row .bD bJ false),(86222402,.row .bX bG false),(86222403,.row .cC bL false)],base:=16287011000 }
end
def Di (x0:aB) (x1 x4:Int) (x5:ay) (x6:aA) (x7:BA) (x8 x9 aK aN:Int) (aP:Bool) (aX:aI) (bf:Bool) (aS:Int) (aO:aB) (aT:ay) (aW:aA) (n:Nat)   (Ed:pK→Option (aa×Int)) (l12:uA→Option (aa×Int)):pK→Option (aa×Int):=fun x2=>
 cond (decide (x2<x1))
 (cond (decide (0≤x2)) (cond (decide (x2<(x0.length:Int))) (Option.bind x0[x2.toNat]? fun e74=>Option.bind (G80 e74 (⟨x7,x8,x9,aK,aN,aP,aX,bf⟩:au)) fun YZ=>
 cond YZ
 (cond (x2==(-1))
 (cond (0 != 0)
 (Option.bind (iV (⟨aS,aO,aT,aW⟩:aa)) fun r76=>
 some (r76,0))
 (some ((⟨x4,x0,x5,x6⟩:aa),0)))
 (l12 ((x0,x2,i64.wrap (x2+1)))))
 (Ed (i64.wrap (x2+1)))) none) none)
 (cond ((-1)==(-1))
 (cond (0 != 0)
 (Option.bind (iV (⟨aS,aO,aT,aW⟩:aa)) fun r81=>
 some (r81,0))
 (some ((⟨x4,x0,x5,x6⟩:aa),0)))
 (l12 ((x0,(-1),i64.wrap ((-1)+1)))))
def tC (x0:aB) (x1 x4:Int) (x5:ay) (x6:aA) (x7:BA) (x8 x9 aK aN:Int) (aP:Bool) (aX:aI) (bf:Bool) (aS:Int) (aO:aB) (aT:ay) (aW:aA) (n:Nat)   (Ed:pK→Option (aa×Int)):pK→Option (aa×Int):=Di x0 x1 x4 x5 x6 x7 x8 x9 aK aN aP aX bf aS aO aT aW n  Ed (fun z=>bS (tz x4 x5 x6 x7 x8 x9 aK aN aP aX bf aS aO aT aW n ) n z)
section
variable (x1:Nat) (x3 x5:Int) (x7:aA) (x8:BA) (x9 aK aN aP:Int) (aX:Bool) (bf:aI) (aS:Bool) (aO:Int) (aT:aB) (aW:ay) (bh:aA) (bJ:Int) (bG:aB) (bL:ay) (bZ:aA)
def OE:pL→St C:=fun (x0,x2,x4,x6)=>{ env:=[(0,.one (.ptr 852352 0)),(3,.one (.ptr 68719479423168 0)),(5,.one (.ep 86235201 [] x1 0)),(14,.one (.int .i64 x2)),(238,.one (.int .i64 x3)),(239,.one (.int .i64 x4)),(1002,.bz (false,[.ptr 852096 0]) 16002),(1004,.bz (false,[.ptr 852224 0]) 16004),(1006,.bz (false,[.ptr 852352 0]) 16006)],aj:=[(86235201,.row .bD x0 false),(852352,.box .mem [.int .i64 x5,.ref 86235201 [],.ref 86235202 [],.ref 86235203 []]),(86235202,.row .bX x6 false),(86235203,.row .cC x7 false),(68719479423168,.box .mem [.str x8,.int .i64 x9,.int .i64 aK,.int .i64 aN,.int .i64 aP,.bool aX,.row .fw bf,.bool aS]),(852096,.box .mem [.int .i64 aO,.row .bD aT,.row .bX aW,.row .cC bh]),(852224,.box .mem [.int .i64 bJ,.ref 86222401 [],.ref 86222402 [],.ref 86222403 []]),(86222401,.row .bD bG false),(86222402,.row .bX bL false),(86222403,.row .cC bZ false)],base:=16000 }
end
def yI (x1:Nat) (x3 x5:Int) (x7:aA) (aS:Bool) (aO:Int) (aT:aB) (aW:ay) (bh:aA) (n:Nat)   (uI:pL→Option (aa×Int)) (l11:(aB)→(Int)→(ay)→pK→Option (aa×Int)):pL→Option (aa×Int):=fun (x0,x2,x4,x6)=>
 cond (decide (x4<x3))
 (Option.bind x0[x1]? fun e69=>Option.bind x0[x1]? fun Tw=>Option.bind x0[x1]? fun e71=>cond (Nat.beq (([(⟨e69.Name,Tw.Next,x5,e71.ax,1,false,(⟨#[]⟩:BA)⟩:ai)]:ay)).length 1&&decide (0≤x2)) (cond (decide (x2≤(x6.length:Int))) (cond (decide ((x6.length+(([(⟨e69.Name,Tw.Next,x5,e71.ax,1,false,(⟨#[]⟩:BA)⟩:ai)]:ay)).length)*72≤140737488355328)) (Option.bind x0[x1]? fun e72=>Option.bind x0[x1]? fun C2=>uI ((x0.set x1 ((⟨C2.Name,C2.Version,C2.bq,C2.ax,C2.Want,C2.Down,C2.bg,i64.wrap (e72.Next+1),C2.bY,C2.aD,C2.aU,C2.bF,C2.bb⟩:ae)),i64.wrap (x2+1),i64.wrap (x4+1),x6.take x2.toNat++(([(⟨e69.Name,Tw.Next,x5,e71.ax,1,false,(⟨#[]⟩:BA)⟩:ai)]:ay))++x6.drop x2.toNat))) none) none) none)
 (cond aS
 (l11 x0 (x0.length:Int) x6 0)
 (cond (0 != 0)
 (Option.bind (iV (⟨aO,aT,aW,bh⟩:aa)) fun r82=>
 some (r82,0))
 (some ((⟨x5,x0,x6,x7⟩:aa),0))))
def nD (x1:Nat) (x3 x5:Int) (x7:aA) (x8:BA) (x9 aK aN aP:Int) (aX:Bool) (bf:aI) (aS:Bool) (aO:Int) (aT:aB) (aW:ay) (bh:aA) (n:Nat)   (uI:pL→Option (aa×Int)):pL→Option (aa×Int):=yI x1 x3 x5 x7 aS aO aT aW bh n  uI (fun y0 y1 y4 z=>bS (tC y0 y1 x5 y4 x7 x8 x9 aK aN aP aX bf aS aO aT aW bh n ) n z)
section
variable (x0:aB) (x1:Nat) (x3:Int) (x4:ay) (x5:aA) (x6:BA) (x7 x8 x9 aK:Int) (aN:Bool) (aP:aI) (aX:Bool) (bf:Int) (aS:aB) (aO:ay) (aT:aA) (aW:Int) (bh:aB) (bJ:ay) (bG:aA)
def Wl:vg→St C:=fun x2=>{ env:=[(0,.one (.ptr 852352 0)),(3,.one (.ptr 68719479423168 0)),(5,.one (.ep 86235201 [] x1 0)),(14,.one (.int .i64 x2)),(1002,.bz (false,[.ptr 852096 0]) 16002),(1004,.bz (false,[.ptr 852224 0]) 16004),(1006,.bz (false,[.ptr 852352 0]) 16006)],aj:=[(86235201,.row .bD x0 false),(852352,.box .mem [.int .i64 x3,.ref 86235201 [],.ref 86235202 [],.ref 86235203 []]),(86235202,.row .bX x4 false),(86235203,.row .cC x5 false),(68719479423168,.box .mem [.str x6,.int .i64 x7,.int .i64 x8,.int .i64 x9,.int .i64 aK,.bool aN,.row .fw aP,.bool aX]),(852096,.box .mem [.int .i64 bf,.row .bD aS,.row .bX aO,.row .cC aT]),(852224,.box .mem [.int .i64 aW,.ref 86222401 [],.ref 86222402 [],.ref 86222403 []]),(86222401,.row .bD bh false),(86222402,.row .bX bJ false),(86222403,.row .cC bG false)],base:=16000 }
end
def BB (x0:aB) (x1:Nat) (x4:ay) (n:Nat)   (Ec:vg→Option (aa×Int)) (ZJ:pL→Option (aa×Int)):vg→Option (aa×Int):=fun x2=>
 cond (decide (x2<(x4.length:Int)))
 (cond (decide (0≤x2)) (cond (decide (x2<(x4.length:Int))) (Option.bind x4[x2.toNat]? fun W7=>Option.bind x0[x1]? fun e68=>cond (!slt e68.Name W7.aq)
 (Ec (i64.wrap (x2+1)))
 (ZJ (x0,x2,0,x4))) none) none)
 (ZJ (x0,x2,0,x4))
def lD (x0:aB) (x1:Nat) (x3:Int) (x4:ay) (x5:aA) (x6:BA) (x7 x8 x9 aK:Int) (aN:Bool) (aP:aI) (aX:Bool) (bf:Int) (aS:aB) (aO:ay) (aT:aA) (n:Nat)   (Ec:vg→Option (aa×Int)):vg→Option (aa×Int):=BB x0 x1 x4 n  Ec (fun z=>bS (nD x1 x8 x3 x5 x6 x7 x8 x9 aK aN aP aX bf aS aO aT n ) n z)
section
variable (x0:aB) (x1:Nat) (x2:aI) (x3 x5:Int) (x7:aA) (x8:BA) (x9 aK aN aP:Int) (aX:Bool) (bf:aI) (aS:Bool) (aO:Int) (aT:aB) (aW:ay) (bh:aA) (bJ:Int) (bG:aB) (bL:ay) (bZ:aA)
def OC:ng→St C:=fun (x4,x6)=>{ env:=[(0,.one (.ptr 852352 0)),(3,.one (.ptr 68719479423168 0)),(5,.one (.ep 86235201 [] x1 0)),(67,.one (.row .fw x2)),(68,.one (.int .i64 x3)),(69,.one (.int .i64 x4)),(1002,.bz (false,[.ptr 852096 0]) 16002),(1004,.bz (false,[.ptr 852224 0]) 16004),(1006,.bz (false,[.ptr 852352 0]) 16006)],aj:=[(86235201,.row .bD x0 false),(852352,.box .mem [.int .i64 x5,.ref 86235201 [],.ref 86235202 [],.ref 86235203 []]),(86235202,.row .bX x6 false),(86235203,.row .cC x7 false),(68719479423168,.box .mem [.str x8,.int .i64 x9,.int .i64 aK,.int .i64 aN,.int .i64 aP,.bool aX,.row .fw bf,.bool aS]),(852096,.box .mem [.int .i64 aO,.row .bD aT,.row .bX aW,.row .cC bh]),(852224,.box .mem [.int .i64 bJ,.ref 86222401 [],.ref 86222402 [],.ref 86222403 []]),(86222401,.row .bD bG false),(86222402,.row .bX bL false),(86222403,.row .cC bZ false)],base:=16000 }
end
def BC (x0:aB) (x1:Nat) (x2:aI) (x3 x5:Int) (x7:aA) (aK aN aP:Int) (aX aS:Bool) (aO:Int) (aT:aB) (aW:ay) (bh:aA) (n:Nat)   (jP:ng→Option (aa×Int)) (l8:(Int)→(Int)→(Int)→(ay)→BP→Option (aa×Int)) (l9:(aB)→(Int)→(ay)→vg→Option (aa×Int)):ng→Option (aa×Int):=fun (x4,x6)=>
 cond (decide (x4<x3))
 (cond (decide (0≤x4)) (Option.bind x2[x4.toNat]? fun e25=>l8 e25.Number (x6.length:Int) x4 x6 0) none)
 (Option.bind x0[x1]? fun e44=>Option.bind (NC (⟨x5,x0,x6,x7⟩:aa) e44) fun r45=>
 cond aS
 (Option.bind x0[x1]? fun Ks=>cond (!Ks.bq)
 (cond (6 != 0)
 (Option.bind (iV (⟨aO,aT,aW,bh⟩:aa)) fun Y4=>
 some (Y4,6))
 (some ((⟨x5,x0,x6,x7⟩:aa),0)))
 (cond (decide ((i64.wrap (r45.Live+r45.Ending))>0))
 (cond (6 != 0)
 (Option.bind (iV (⟨aO,aT,aW,bh⟩:aa)) fun r48=>
 some (r48,6))
 (some ((⟨x5,x0,x6,x7⟩:aa),0)))
 (cond aX
 (Option.bind x0[x1]? fun Kr=>cond (Kr.bY==0)
 (cond (6 != 0)
 (Option.bind (iV (⟨aO,aT,aW,bh⟩:aa)) fun Y3=>
 some (Y3,6))
 (some ((⟨x5,x0,x6,x7⟩:aa),0)))
 (Option.bind x0[x1]? fun e51=>Option.bind x0[x1]? fun Kq=>Option.bind (u0 aN e51.aD Kq.aU) fun Y2=>
 cond (!Y2)
 (cond (6 != 0)
 (Option.bind (iV (⟨aO,aT,aW,bh⟩:aa)) fun r54=>
 some (r54,6))
 (some ((⟨x5,x0,x6,x7⟩:aa),0)))
 ((fun y=>alt y (alt y (y)))
 (Option.bind x0[x1]? fun ck=>Option.bind (x0.set x1 (⟨ck.Name,ck.Version,ck.bq,ck.ax,aN,ck.Down,ck.bg,ck.Next,ck.bY,ck.aD,ck.aU,ck.bF,ck.bb⟩:ae))[x1]? fun cF=>cond (decide (aK>0))
 (Option.bind ((x0.set x1 (⟨ck.Name,ck.Version,ck.bq,ck.ax,aN,ck.Down,ck.bg,ck.Next,ck.bY,ck.aD,ck.aU,ck.bF,ck.bb⟩:ae)).set x1 (⟨cF.Name,cF.Version,cF.bq,cF.ax,cF.Want,cF.Down,cF.bg,cF.Next,cF.bY,cF.aD,cF.aU,cF.bF,aP⟩:ae))[x1]? fun e57=>cond e57.bq
 (cond (6 != 0)
 (Option.bind (iV (⟨aO,aT,aW,bh⟩:aa)) fun r58=>
 some (r58,6))
 (some ((⟨x5,(x0.set x1 (⟨ck.Name,ck.Version,ck.bq,ck.ax,aN,ck.Down,ck.bg,ck.Next,ck.bY,ck.aD,ck.aU,ck.bF,ck.bb⟩:ae)).set x1 (⟨cF.Name,cF.Version,cF.bq,cF.ax,cF.Want,cF.Down,cF.bg,cF.Next,cF.bY,cF.aD,cF.aU,cF.bF,aP⟩:ae),x6,x7⟩:aa),0)))
 (Option.bind ((x0.set x1 (⟨ck.Name,ck.Version,ck.bq,ck.ax,aN,ck.Down,ck.bg,ck.Next,ck.bY,ck.aD,ck.aU,ck.bF,ck.bb⟩:ae)).set x1 (⟨cF.Name,cF.Version,cF.bq,cF.ax,cF.Want,cF.Down,cF.bg,cF.Next,cF.bY,cF.aD,cF.aU,cF.bF,aP⟩:ae))[x1]? fun e59=>Option.bind ((x0.set x1 (⟨ck.Name,ck.Version,ck.bq,ck.ax,aN,ck.Down,ck.bg,ck.Next,ck.bY,ck.aD,ck.aU,ck.bF,ck.bb⟩:ae)).set x1 (⟨cF.Name,cF.Version,cF.bq,cF.ax,cF.Want,cF.Down,cF.bg,cF.Next,cF.bY,cF.aD,cF.aU,cF.bF,aP⟩:ae))[x1]? fun e60=>cond (decide ((i64.wrap (r45.Live+aK))>(i64.wrap (e59.Want+e60.bg))))
 (cond (6 != 0)
 (Option.bind (iV (⟨aO,aT,aW,bh⟩:aa)) fun r61=>
 some (r61,6))
 (some ((⟨x5,(x0.set x1 (⟨ck.Name,ck.Version,ck.bq,ck.ax,aN,ck.Down,ck.bg,ck.Next,ck.bY,ck.aD,ck.aU,ck.bF,ck.bb⟩:ae)).set x1 (⟨cF.Name,cF.Version,cF.bq,cF.ax,cF.Want,cF.Down,cF.bg,cF.Next,cF.bY,cF.aD,cF.aU,cF.bF,aP⟩:ae),x6,x7⟩:aa),0)))
 (cond (decide ((i64.wrap ((x6.length:Int)+aK))>200))
 (cond (7 != 0)
 (Option.bind (iV (⟨aO,aT,aW,bh⟩:aa)) fun Y1=>
 some (Y1,7))
 (some ((⟨x5,(x0.set x1 (⟨ck.Name,ck.Version,ck.bq,ck.ax,aN,ck.Down,ck.bg,ck.Next,ck.bY,ck.aD,ck.aU,ck.bF,ck.bb⟩:ae)).set x1 (⟨cF.Name,cF.Version,cF.bq,cF.ax,cF.Want,cF.Down,cF.bg,cF.Next,cF.bY,cF.aD,cF.aU,cF.bF,aP⟩:ae),x6,x7⟩:aa),0)))
 (Option.bind ((x0.set x1 (⟨ck.Name,ck.Version,ck.bq,ck.ax,aN,ck.Down,ck.bg,ck.Next,ck.bY,ck.aD,ck.aU,ck.bF,ck.bb⟩:ae)).set x1 (⟨cF.Name,cF.Version,cF.bq,cF.ax,cF.Want,cF.Down,cF.bg,cF.Next,cF.bY,cF.aD,cF.aU,cF.bF,aP⟩:ae))[x1]? fun e63=>cond (decide ((i64.wrap (e63.Next+aK))>1000000))
 (cond (7 != 0)
 (Option.bind (iV (⟨aO,aT,aW,bh⟩:aa)) fun r64=>
 some (r64,7))
 (some ((⟨x5,(x0.set x1 (⟨ck.Name,ck.Version,ck.bq,ck.ax,aN,ck.Down,ck.bg,ck.Next,ck.bY,ck.aD,ck.aU,ck.bF,ck.bb⟩:ae)).set x1 (⟨cF.Name,cF.Version,cF.bq,cF.ax,cF.Want,cF.Down,cF.bg,cF.Next,cF.bY,cF.aD,cF.aU,cF.bF,aP⟩:ae),x6,x7⟩:aa),0)))
 (cond (x5==1000000)
 (cond (7 != 0)
 (Option.bind (iV (⟨aO,aT,aW,bh⟩:aa)) fun Y0=>
 some (Y0,7))
 (some ((⟨x5,(x0.set x1 (⟨ck.Name,ck.Version,ck.bq,ck.ax,aN,ck.Down,ck.bg,ck.Next,ck.bY,ck.aD,ck.aU,ck.bF,ck.bb⟩:ae)).set x1 (⟨cF.Name,cF.Version,cF.bq,cF.ax,cF.Want,cF.Down,cF.bg,cF.Next,cF.bY,cF.aD,cF.aU,cF.bF,aP⟩:ae),x6,x7⟩:aa),0)))
 (Option.bind ((x0.set x1 (⟨ck.Name,ck.Version,ck.bq,ck.ax,aN,ck.Down,ck.bg,ck.Next,ck.bY,ck.aD,ck.aU,ck.bF,ck.bb⟩:ae)).set x1 (⟨cF.Name,cF.Version,cF.bq,cF.ax,cF.Want,cF.Down,cF.bg,cF.Next,cF.bY,cF.aD,cF.aU,cF.bF,aP⟩:ae))[x1]? fun Ko=>l9 (((x0.set x1 (⟨ck.Name,ck.Version,ck.bq,ck.ax,aN,ck.Down,ck.bg,ck.Next,ck.bY,ck.aD,ck.aU,ck.bF,ck.bb⟩:ae)).set x1 (⟨cF.Name,cF.Version,cF.bq,cF.ax,cF.Want,cF.Down,cF.bg,cF.Next,cF.bY,cF.aD,cF.aU,cF.bF,aP⟩:ae)).set x1 ((⟨Ko.Name,i64.wrap (x5+1),Ko.bq,Ko.ax,Ko.Want,Ko.Down,Ko.bg,Ko.Next,Ko.bY,Ko.aD,Ko.aU,Ko.bF,Ko.bb⟩:ae))) (i64.wrap (x5+1)) x6 0))))))
 (cond (decide ((i64.wrap ((x6.length:Int)+aK))>200))
 (cond (7 != 0)
 (Option.bind (iV (⟨aO,aT,aW,bh⟩:aa)) fun r83=>
 some (r83,7))
 (some ((⟨x5,(x0.set x1 (⟨ck.Name,ck.Version,ck.bq,ck.ax,aN,ck.Down,ck.bg,ck.Next,ck.bY,ck.aD,ck.aU,ck.bF,ck.bb⟩:ae)).set x1 (⟨cF.Name,cF.Version,cF.bq,cF.ax,cF.Want,cF.Down,cF.bg,cF.Next,cF.bY,cF.aD,cF.aU,cF.bF,aP⟩:ae),x6,x7⟩:aa),0)))
 (Option.bind ((x0.set x1 (⟨ck.Name,ck.Version,ck.bq,ck.ax,aN,ck.Down,ck.bg,ck.Next,ck.bY,ck.aD,ck.aU,ck.bF,ck.bb⟩:ae)).set x1 (⟨cF.Name,cF.Version,cF.bq,cF.ax,cF.Want,cF.Down,cF.bg,cF.Next,cF.bY,cF.aD,cF.aU,cF.bF,aP⟩:ae))[x1]? fun e84=>cond (decide ((i64.wrap (e84.Next+aK))>1000000))
 (cond (7 != 0)
 (Option.bind (iV (⟨aO,aT,aW,bh⟩:aa)) fun r85=>
 some (r85,7))
 (some ((⟨x5,(x0.set x1 (⟨ck.Name,ck.Version,ck.bq,ck.ax,aN,ck.Down,ck.bg,ck.Next,ck.bY,ck.aD,ck.aU,ck.bF,ck.bb⟩:ae)).set x1 (⟨cF.Name,cF.Version,cF.bq,cF.ax,cF.Want,cF.Down,cF.bg,cF.Next,cF.bY,cF.aD,cF.aU,cF.bF,aP⟩:ae),x6,x7⟩:aa),0)))
 (cond (x5==1000000)
 (cond (7 != 0)
 (Option.bind (iV (⟨aO,aT,aW,bh⟩:aa)) fun r86=>
 some (r86,7))
 (some ((⟨x5,(x0.set x1 (⟨ck.Name,ck.Version,ck.bq,ck.ax,aN,ck.Down,ck.bg,ck.Next,ck.bY,ck.aD,ck.aU,ck.bF,ck.bb⟩:ae)).set x1 (⟨cF.Name,cF.Version,cF.bq,cF.ax,cF.Want,cF.Down,cF.bg,cF.Next,cF.bY,cF.aD,cF.aU,cF.bF,aP⟩:ae),x6,x7⟩:aa),0)))
 (Option.bind ((x0.set x1 (⟨ck.Name,ck.Version,ck.bq,ck.ax,aN,ck.Down,ck.bg,ck.Next,ck.bY,ck.aD,ck.aU,ck.bF,ck.bb⟩:ae)).set x1 (⟨cF.Name,cF.Version,cF.bq,cF.ax,cF.Want,cF.Down,cF.bg,cF.Next,cF.bY,cF.aD,cF.aU,cF.bF,aP⟩:ae))[x1]? fun Nw=>l9 (((x0.set x1 (⟨ck.Name,ck.Version,ck.bq,ck.ax,aN,ck.Down,ck.bg,ck.Next,ck.bY,ck.aD,ck.aU,ck.bF,ck.bb⟩:ae)).set x1 (⟨cF.Name,cF.Version,cF.bq,cF.ax,cF.Want,cF.Down,cF.bg,cF.Next,cF.bY,cF.aD,cF.aU,cF.bF,aP⟩:ae)).set x1 ((⟨Nw.Name,i64.wrap (x5+1),Nw.bq,Nw.ax,Nw.Want,Nw.Down,Nw.bg,Nw.Next,Nw.bY,Nw.aD,Nw.aU,Nw.bF,Nw.bb⟩:ae))) (i64.wrap (x5+1)) x6 0))))))))
 (cond (decide (aK>0))
 (Option.bind x0[x1]? fun e122=>cond e122.bq
 (cond (6 != 0)
 (Option.bind (iV (⟨aO,aT,aW,bh⟩:aa)) fun r123=>
 some (r123,6))
 (some ((⟨x5,x0,x6,x7⟩:aa),0)))
 (Option.bind x0[x1]? fun e124=>Option.bind x0[x1]? fun e125=>cond (decide ((i64.wrap (r45.Live+aK))>(i64.wrap (e124.Want+e125.bg))))
 (cond (6 != 0)
 (Option.bind (iV (⟨aO,aT,aW,bh⟩:aa)) fun r126=>
 some (r126,6))
 (some ((⟨x5,x0,x6,x7⟩:aa),0)))
 (cond (decide ((i64.wrap ((x6.length:Int)+aK))>200))
 (cond (7 != 0)
 (Option.bind (iV (⟨aO,aT,aW,bh⟩:aa)) fun r127=>
 some (r127,7))
 (some ((⟨x5,x0,x6,x7⟩:aa),0)))
 (Option.bind x0[x1]? fun e128=>cond (decide ((i64.wrap (e128.Next+aK))>1000000))
 (cond (7 != 0)
 (Option.bind (iV (⟨aO,aT,aW,bh⟩:aa)) fun r129=>
 some (r129,7))
 (some ((⟨x5,x0,x6,x7⟩:aa),0)))
 (cond (x5==1000000)
 (cond (7 != 0)
 (Option.bind (iV (⟨aO,aT,aW,bh⟩:aa)) fun r130=>
 some (r130,7))
 (some ((⟨x5,x0,x6,x7⟩:aa),0)))
 (Option.bind x0[x1]? fun vG=>l9 (x0.set x1 ((⟨vG.Name,i64.wrap (x5+1),vG.bq,vG.ax,vG.Want,vG.Down,vG.bg,vG.Next,vG.bY,vG.aD,vG.aU,vG.bF,vG.bb⟩:ae))) (i64.wrap (x5+1)) x6 0))))))
 (cond (decide ((i64.wrap ((x6.length:Int)+aK))>200))
 (cond (7 != 0)
 (Option.bind (iV (⟨aO,aT,aW,bh⟩:aa)) fun r132=>
 some (r132,7))
 (some ((⟨x5,x0,x6,x7⟩:aa),0)))
 (Option.bind x0[x1]? fun e133=>cond (decide ((i64.wrap (e133.Next+aK))>1000000))
 (cond (7 != 0)
 (Option.bind (iV (⟨aO,aT,aW,bh⟩:aa)) fun r134=>
 some (r134,7))
 (some ((⟨x5,x0,x6,x7⟩:aa),0)))
 (cond (x5==1000000)
 (cond (7 != 0)
 (Option.bind (iV (⟨aO,aT,aW,bh⟩:aa)) fun r135=>
 some (r135,7))
 (some ((⟨x5,x0,x6,x7⟩:aa),0)))
 (Option.bind x0[x1]? fun vF=>l9 (x0.set x1 ((⟨vF.Name,i64.wrap (x5+1),vF.bq,vF.ax,vF.Want,vF.Down,vF.bg,vF.Next,vF.bY,vF.aD,vF.aU,vF.bF,vF.bb⟩:ae))) (i64.wrap (x5+1)) x6 0))))))))
 (cond aX
 (Option.bind x0[x1]? fun e137=>cond (e137.bY==0)
 (cond (6 != 0)
 (Option.bind (iV (⟨aO,aT,aW,bh⟩:aa)) fun r138=>
 some (r138,6))
 (some ((⟨x5,x0,x6,x7⟩:aa),0)))
 (Option.bind x0[x1]? fun e139=>Option.bind x0[x1]? fun e140=>Option.bind (u0 aN e139.aD e140.aU) fun r141=>
 cond (!r141)
 (cond (6 != 0)
 (Option.bind (iV (⟨aO,aT,aW,bh⟩:aa)) fun r142=>
 some (r142,6))
 (some ((⟨x5,x0,x6,x7⟩:aa),0)))
 ((fun y=>alt y (alt y (y)))
 (Option.bind x0[x1]? fun aY=>Option.bind (x0.set x1 (⟨aY.Name,aY.Version,aY.bq,aY.ax,aN,aY.Down,aY.bg,aY.Next,aY.bY,aY.aD,aY.aU,aY.bF,aY.bb⟩:ae))[x1]? fun bl=>cond (decide (aK>0))
 (Option.bind ((x0.set x1 (⟨aY.Name,aY.Version,aY.bq,aY.ax,aN,aY.Down,aY.bg,aY.Next,aY.bY,aY.aD,aY.aU,aY.bF,aY.bb⟩:ae)).set x1 (⟨bl.Name,bl.Version,bl.bq,bl.ax,bl.Want,bl.Down,bl.bg,bl.Next,bl.bY,bl.aD,bl.aU,bl.bF,aP⟩:ae))[x1]? fun e145=>cond e145.bq
 (cond (6 != 0)
 (Option.bind (iV (⟨aO,aT,aW,bh⟩:aa)) fun r146=>
 some (r146,6))
 (some ((⟨x5,(x0.set x1 (⟨aY.Name,aY.Version,aY.bq,aY.ax,aN,aY.Down,aY.bg,aY.Next,aY.bY,aY.aD,aY.aU,aY.bF,aY.bb⟩:ae)).set x1 (⟨bl.Name,bl.Version,bl.bq,bl.ax,bl.Want,bl.Down,bl.bg,bl.Next,bl.bY,bl.aD,bl.aU,bl.bF,aP⟩:ae),x6,x7⟩:aa),0)))
 (Option.bind ((x0.set x1 (⟨aY.Name,aY.Version,aY.bq,aY.ax,aN,aY.Down,aY.bg,aY.Next,aY.bY,aY.aD,aY.aU,aY.bF,aY.bb⟩:ae)).set x1 (⟨bl.Name,bl.Version,bl.bq,bl.ax,bl.Want,bl.Down,bl.bg,bl.Next,bl.bY,bl.aD,bl.aU,bl.bF,aP⟩:ae))[x1]? fun e147=>Option.bind ((x0.set x1 (⟨aY.Name,aY.Version,aY.bq,aY.ax,aN,aY.Down,aY.bg,aY.Next,aY.bY,aY.aD,aY.aU,aY.bF,aY.bb⟩:ae)).set x1 (⟨bl.Name,bl.Version,bl.bq,bl.ax,bl.Want,bl.Down,bl.bg,bl.Next,bl.bY,bl.aD,bl.aU,bl.bF,aP⟩:ae))[x1]? fun e148=>cond (decide ((i64.wrap (r45.Live+aK))>(i64.wrap (e147.Want+e148.bg))))
 (cond (6 != 0)
 (Option.bind (iV (⟨aO,aT,aW,bh⟩:aa)) fun r149=>
 some (r149,6))
 (some ((⟨x5,(x0.set x1 (⟨aY.Name,aY.Version,aY.bq,aY.ax,aN,aY.Down,aY.bg,aY.Next,aY.bY,aY.aD,aY.aU,aY.bF,aY.bb⟩:ae)).set x1 (⟨bl.Name,bl.Version,bl.bq,bl.ax,bl.Want,bl.Down,bl.bg,bl.Next,bl.bY,bl.aD,bl.aU,bl.bF,aP⟩:ae),x6,x7⟩:aa),0)))
 (cond (decide ((i64.wrap ((x6.length:Int)+aK))>200))
 (cond (7 != 0)
 (Option.bind (iV (⟨aO,aT,aW,bh⟩:aa)) fun r150=>
 some (r150,7))
 (some ((⟨x5,(x0.set x1 (⟨aY.Name,aY.Version,aY.bq,aY.ax,aN,aY.Down,aY.bg,aY.Next,aY.bY,aY.aD,aY.aU,aY.bF,aY.bb⟩:ae)).set x1 (⟨bl.Name,bl.Version,bl.bq,bl.ax,bl.Want,bl.Down,bl.bg,bl.Next,bl.bY,bl.aD,bl.aU,bl.bF,aP⟩:ae),x6,x7⟩:aa),0)))
 (Option.bind ((x0.set x1 (⟨aY.Name,aY.Version,aY.bq,aY.ax,aN,aY.Down,aY.bg,aY.Next,aY.bY,aY.aD,aY.aU,aY.bF,aY.bb⟩:ae)).set x1 (⟨bl.Name,bl.Version,bl.bq,bl.ax,bl.Want,bl.Down,bl.bg,bl.Next,bl.bY,bl.aD,bl.aU,bl.bF,aP⟩:ae))[x1]? fun e151=>cond (decide ((i64.wrap (e151.Next+aK))>1000000))
 (cond (7 != 0)
 (Option.bind (iV (⟨aO,aT,aW,bh⟩:aa)) fun r152=>
 some (r152,7))
 (some ((⟨x5,(x0.set x1 (⟨aY.Name,aY.Version,aY.bq,aY.ax,aN,aY.Down,aY.bg,aY.Next,aY.bY,aY.aD,aY.aU,aY.bF,aY.bb⟩:ae)).set x1 (⟨bl.Name,bl.Version,bl.bq,bl.ax,bl.Want,bl.Down,bl.bg,bl.Next,bl.bY,bl.aD,bl.aU,bl.bF,aP⟩:ae),x6,x7⟩:aa),0)))
 (cond (x5==1000000)
 (cond (7 != 0)
 (Option.bind (iV (⟨aO,aT,aW,bh⟩:aa)) fun r153=>
 some (r153,7))
 (some ((⟨x5,(x0.set x1 (⟨aY.Name,aY.Version,aY.bq,aY.ax,aN,aY.Down,aY.bg,aY.Next,aY.bY,aY.aD,aY.aU,aY.bF,aY.bb⟩:ae)).set x1 (⟨bl.Name,bl.Version,bl.bq,bl.ax,bl.Want,bl.Down,bl.bg,bl.Next,bl.bY,bl.aD,bl.aU,bl.bF,aP⟩:ae),x6,x7⟩:aa),0)))
 (Option.bind ((x0.set x1 (⟨aY.Name,aY.Version,aY.bq,aY.ax,aN,aY.Down,aY.bg,aY.Next,aY.bY,aY.aD,aY.aU,aY.bF,aY.bb⟩:ae)).set x1 (⟨bl.Name,bl.Version,bl.bq,bl.ax,bl.Want,bl.Down,bl.bg,bl.Next,bl.bY,bl.aD,bl.aU,bl.bF,aP⟩:ae))[x1]? fun vE=>l9 (((x0.set x1 (⟨aY.Name,aY.Version,aY.bq,aY.ax,aN,aY.Down,aY.bg,aY.Next,aY.bY,aY.aD,aY.aU,aY.bF,aY.bb⟩:ae)).set x1 (⟨bl.Name,bl.Version,bl.bq,bl.ax,bl.Want,bl.Down,bl.bg,bl.Next,bl.bY,bl.aD,bl.aU,bl.bF,aP⟩:ae)).set x1 ((⟨vE.Name,i64.wrap (x5+1),vE.bq,vE.ax,vE.Want,vE.Down,vE.bg,vE.Next,vE.bY,vE.aD,vE.aU,vE.bF,vE.bb⟩:ae))) (i64.wrap (x5+1)) x6 0))))))
 (cond (decide ((i64.wrap ((x6.length:Int)+aK))>200))
 (cond (7 != 0)
 (Option.bind (iV (⟨aO,aT,aW,bh⟩:aa)) fun r155=>
 some (r155,7))
 (some ((⟨x5,(x0.set x1 (⟨aY.Name,aY.Version,aY.bq,aY.ax,aN,aY.Down,aY.bg,aY.Next,aY.bY,aY.aD,aY.aU,aY.bF,aY.bb⟩:ae)).set x1 (⟨bl.Name,bl.Version,bl.bq,bl.ax,bl.Want,bl.Down,bl.bg,bl.Next,bl.bY,bl.aD,bl.aU,bl.bF,aP⟩:ae),x6,x7⟩:aa),0)))
 (Option.bind ((x0.set x1 (⟨aY.Name,aY.Version,aY.bq,aY.ax,aN,aY.Down,aY.bg,aY.Next,aY.bY,aY.aD,aY.aU,aY.bF,aY.bb⟩:ae)).set x1 (⟨bl.Name,bl.Version,bl.bq,bl.ax,bl.Want,bl.Down,bl.bg,bl.Next,bl.bY,bl.aD,bl.aU,bl.bF,aP⟩:ae))[x1]? fun e156=>cond (decide ((i64.wrap (e156.Next+aK))>1000000))
 (cond (7 != 0)
 (Option.bind (iV (⟨aO,aT,aW,bh⟩:aa)) fun r157=>
 some (r157,7))
 (some ((⟨x5,(x0.set x1 (⟨aY.Name,aY.Version,aY.bq,aY.ax,aN,aY.Down,aY.bg,aY.Next,aY.bY,aY.aD,aY.aU,aY.bF,aY.bb⟩:ae)).set x1 (⟨bl.Name,bl.Version,bl.bq,bl.ax,bl.Want,bl.Down,bl.bg,bl.Next,bl.bY,bl.aD,bl.aU,bl.bF,aP⟩:ae),x6,x7⟩:aa),0)))
 (cond (x5==1000000)
 (cond (7 != 0)
 (Option.bind (iV (⟨aO,aT,aW,bh⟩:aa)) fun r158=>
 some (r158,7))
 (some ((⟨x5,(x0.set x1 (⟨aY.Name,aY.Version,aY.bq,aY.ax,aN,aY.Down,aY.bg,aY.Next,aY.bY,aY.aD,aY.aU,aY.bF,aY.bb⟩:ae)).set x1 (⟨bl.Name,bl.Version,bl.bq,bl.ax,bl.Want,bl.Down,bl.bg,bl.Next,bl.bY,bl.aD,bl.aU,bl.bF,aP⟩:ae),x6,x7⟩:aa),0)))
 (Option.bind ((x0.set x1 (⟨aY.Name,aY.Version,aY.bq,aY.ax,aN,aY.Down,aY.bg,aY.Next,aY.bY,aY.aD,aY.aU,aY.bF,aY.bb⟩:ae)).set x1 (⟨bl.Name,bl.Version,bl.bq,bl.ax,bl.Want,bl.Down,bl.bg,bl.Next,bl.bY,bl.aD,bl.aU,bl.bF,aP⟩:ae))[x1]? fun vD=>l9 (((x0.set x1 (⟨aY.Name,aY.Version,aY.bq,aY.ax,aN,aY.Down,aY.bg,aY.Next,aY.bY,aY.aD,aY.aU,aY.bF,aY.bb⟩:ae)).set x1 (⟨bl.Name,bl.Version,bl.bq,bl.ax,bl.Want,bl.Down,bl.bg,bl.Next,bl.bY,bl.aD,bl.aU,bl.bF,aP⟩:ae)).set x1 ((⟨vD.Name,i64.wrap (x5+1),vD.bq,vD.ax,vD.Want,vD.Down,vD.bg,vD.Next,vD.bY,vD.aD,vD.aU,vD.bF,vD.bb⟩:ae))) (i64.wrap (x5+1)) x6 0))))))))
 (cond (decide (aK>0))
 (Option.bind x0[x1]? fun e194=>cond e194.bq
 (cond (6 != 0)
 (Option.bind (iV (⟨aO,aT,aW,bh⟩:aa)) fun r195=>
 some (r195,6))
 (some ((⟨x5,x0,x6,x7⟩:aa),0)))
 (Option.bind x0[x1]? fun e196=>Option.bind x0[x1]? fun e197=>cond (decide ((i64.wrap (r45.Live+aK))>(i64.wrap (e196.Want+e197.bg))))
 (cond (6 != 0)
 (Option.bind (iV (⟨aO,aT,aW,bh⟩:aa)) fun r198=>
 some (r198,6))
 (some ((⟨x5,x0,x6,x7⟩:aa),0)))
 (cond (decide ((i64.wrap ((x6.length:Int)+aK))>200))
 (cond (7 != 0)
 (Option.bind (iV (⟨aO,aT,aW,bh⟩:aa)) fun r199=>
 some (r199,7))
 (some ((⟨x5,x0,x6,x7⟩:aa),0)))
 (Option.bind x0[x1]? fun e200=>cond (decide ((i64.wrap (e200.Next+aK))>1000000))
 (cond (7 != 0)
 (Option.bind (iV (⟨aO,aT,aW,bh⟩:aa)) fun r201=>
 some (r201,7))
 (some ((⟨x5,x0,x6,x7⟩:aa),0)))
 (cond (x5==1000000)
 (cond (7 != 0)
 (Option.bind (iV (⟨aO,aT,aW,bh⟩:aa)) fun r202=>
 some (r202,7))
 (some ((⟨x5,x0,x6,x7⟩:aa),0)))
 (Option.bind x0[x1]? fun vC=>l9 (x0.set x1 ((⟨vC.Name,i64.wrap (x5+1),vC.bq,vC.ax,vC.Want,vC.Down,vC.bg,vC.Next,vC.bY,vC.aD,vC.aU,vC.bF,vC.bb⟩:ae))) (i64.wrap (x5+1)) x6 0))))))
 (cond (decide ((i64.wrap ((x6.length:Int)+aK))>200))
 (cond (7 != 0)
 (Option.bind (iV (⟨aO,aT,aW,bh⟩:aa)) fun r204=>
 some (r204,7))
 (some ((⟨x5,x0,x6,x7⟩:aa),0)))
 (Option.bind x0[x1]? fun e205=>cond (decide ((i64.wrap (e205.Next+aK))>1000000))
 (cond (7 != 0)
 (Option.bind (iV (⟨aO,aT,aW,bh⟩:aa)) fun r206=>
 some (r206,7))
 (some ((⟨x5,x0,x6,x7⟩:aa),0)))
 (cond (x5==1000000)
 (cond (7 != 0)
 (Option.bind (iV (⟨aO,aT,aW,bh⟩:aa)) fun r207=>
 some (r207,7))
 (some ((⟨x5,x0,x6,x7⟩:aa),0)))
 (Option.bind x0[x1]? fun vA=>l9 (x0.set x1 ((⟨vA.Name,i64.wrap (x5+1),vA.bq,vA.ax,vA.Want,vA.Down,vA.bg,vA.Next,vA.bY,vA.aD,vA.aU,vA.bF,vA.bb⟩:ae))) (i64.wrap (x5+1)) x6 0)))))))
def nW (x0:aB) (x1:Nat) (x2:aI) (x3 x5:Int) (x7:aA) (x8:BA) (x9 aK aN aP:Int) (aX:Bool) (bf:aI) (aS:Bool) (aO:Int) (aT:aB) (aW:ay) (bh:aA) (n:Nat)   (jP:ng→Option (aa×Int)):ng→Option (aa×Int):=BC x0 x1 x2 x3 x5 x7 aK aN aP aX aS aO aT aW bh n  jP (fun y1 y2 y7 y9 z=>bS (Af x8 y1 y2 x0 x1 y7 x5 y9 x7 aO aT aW bh n jP) n z) (fun y0 y2 y3 z=>bS (lD y0 x1 y2 y3 x7 x8 x9 aK aN aP aX bf aS aO aT aW bh n ) n z)
section
variable (x0:aB) (x1:Nat) (x2:aI) (x3 x5:Int) (x6:ay) (x7:aA) (x8:BA) (x9 aK aN aP:Int) (aX:Bool) (bf:aI) (aS:Bool) (aO:Int) (aT:aB) (aW:ay) (bh:aA) (bJ:Int) (bG:aB) (bL:ay) (bZ:aA)
def D6:lV→St C:=fun x4=>{ env:=[(0,.one (.ptr 852352 0)),(3,.one (.ptr 68719479423168 0)),(5,.one (.ep 86235201 [] x1 0)),(47,.one (.row .fw x2)),(48,.one (.int .i64 x3)),(49,.one (.int .i64 x4)),(1002,.bz (false,[.ptr 852096 0]) 16002),(1004,.bz (false,[.ptr 852224 0]) 16004),(1006,.bz (false,[.ptr 852352 0]) 16006)],aj:=[(86235201,.row .bD x0 false),(852352,.box .mem [.int .i64 x5,.ref 86235201 [],.ref 86235202 [],.ref 86235203 []]),(86235202,.row .bX x6 false),(86235203,.row .cC x7 false),(68719479423168,.box .mem [.str x8,.int .i64 x9,.int .i64 aK,.int .i64 aN,.int .i64 aP,.bool aX,.row .fw bf,.bool aS]),(852096,.box .mem [.int .i64 aO,.row .bD aT,.row .bX aW,.row .cC bh]),(852224,.box .mem [.int .i64 bJ,.ref 86222401 [],.ref 86222402 [],.ref 86222403 []]),(86222401,.row .bD bG false),(86222402,.row .bX bL false),(86222403,.row .cC bZ false)],base:=16000 }
end
def KZ (x2:aI) (x3:Int) (x6:ay) (bf:aI) (n:Nat)   (dz:lV→Option (aa×Int)) (l4:(Int)→(Int)→(Int)→(Int)→(Int)→(Int)→(Int)→BS→Option (aa×Int)) (l5:(Int)→(Int)→(Int)→(Int)→(Int)→(Int)→BR→Option (aa×Int)) (l6:(Int)→(Int)→(Int)→(Int)→(Int)→(Int)→BQ→Option (aa×Int)) (l7:(Int)→ng→Option (aa×Int)):lV→Option (aa×Int):=fun x4=>
 cond (decide (x4<x3))
 (cond (decide (0≤x4)) (Option.bind x2[x4.toNat]? fun nu=>alt (l4 nu.Number (x6.length:Int) x4 nu.Number nu.Seen nu.Number nu.Seen 0)
 (alt (l5 nu.Number (x6.length:Int) x4 nu.Number nu.Number nu.Seen 0)
 (l6 nu.Number (x6.length:Int) x4 nu.Number nu.Number nu.Seen 0))) none)
 (l7 (bf.length:Int) (0,x6))
def xf (x0:aB) (x1:Nat) (x2:aI) (x3 x5:Int) (x6:ay) (x7:aA) (x8:BA) (x9 aK aN aP:Int) (aX:Bool) (bf:aI) (aS:Bool) (aO:Int) (aT:aB) (aW:ay) (bh:aA) (n:Nat)   (dz:lV→Option (aa×Int)):lV→Option (aa×Int):=KZ x2 x3 x6 bf n  dz (fun y1 y2 y7 y9 wy zi LA z=>bS (uM x8 y1 y2 x0 y7 wy x5 x6 x7 aO aT aW bh n dz) n z) (fun y1 y2 y7 y9 G2 zi z=>bS (OX x8 y1 y2 x0 y7 x5 x6 x7 zi aO aT aW bh n dz) n z) (fun y1 y2 y7 y9 G2 zi z=>bS (OW x8 y1 y2 x0 y7 x5 x6 x7 zi aO aT aW bh n dz) n z) (fun y3 z=>bS (nW x0 x1 bf y3 x5 x7 x8 x9 aK aN aP aX bf aS aO aT aW bh n ) n z)
section
variable (x0:aB) (x1:Nat) (x2:aI) (x3 x5:Int) (x6:ay) (x7:aA) (x8:BA) (x9 aK aN aP:Int) (aX:Bool) (bf:aI) (aS:Bool) (aO:Int) (aT:aB) (aW:ay) (bh:aA) (bJ:Int) (bG:aB) (bL:ay) (bZ:aA)
def OG:pM→St C:=fun x4=>{ env:=[(0,.one (.ptr 852352 0)),(3,.one (.ptr 68719479423168 0)),(5,.one (.ep 86235201 [] x1 0)),(25,.one (.row .fw x2)),(26,.one (.int .i64 x3)),(27,.one (.int .i64 x4)),(1002,.bz (false,[.ptr 852096 0]) 16002),(1004,.bz (false,[.ptr 852224 0]) 16004),(1006,.bz (false,[.ptr 852352 0]) 16006)],aj:=[(86235201,.row .bD x0 false),(852352,.box .mem [.int .i64 x5,.ref 86235201 [],.ref 86235202 [],.ref 86235203 []]),(86235202,.row .bX x6 false),(86235203,.row .cC x7 false),(68719479423168,.box .mem [.str x8,.int .i64 x9,.int .i64 aK,.int .i64 aN,.int .i64 aP,.bool aX,.row .fw bf,.bool aS]),(852096,.box .mem [.int .i64 aO,.row .bD aT,.row .bX aW,.row .cC bh]),(852224,.box .mem [.int .i64 bJ,.ref 86222401 [],.ref 86222402 [],.ref 86222403 []]),(86222401,.row .bD bG false),(86222402,.row .bX bL false),(86222403,.row .cC bZ false)],base:=16000 }
end
def K0 (x0:aB) (x1:Nat) (x2:aI) (x3 x5:Int) (x6:ay) (x7:aA) (x9:Int) (bf:aI) (aO:Int) (aT:aB) (aW:ay) (bh:aA) (n:Nat)   (dg:pM→Option (aa×Int)) (l2:(Int)→(Int)→(Int)→BT→Option (aa×Int)) (l3:(Int)→lV→Option (aa×Int)):pM→Option (aa×Int):=fun x4=>
 cond (decide (x4<x3))
 (cond (decide (0≤x4)) (Option.bind x2[x4.toNat]? fun e6=>l2 e6.Number (x6.length:Int) x4 0) none)
 (Option.bind x0[x1]? fun DC=>cond (DC.Version != x9)
 (cond (4 != 0)
 (Option.bind (iV (⟨aO,aT,aW,bh⟩:aa)) fun rT=>
 some (rT,4))
 (some ((⟨x5,x0,x6,x7⟩:aa),0)))
 (l3 (bf.length:Int) 0))
def uN (x0:aB) (x1:Nat) (x2:aI) (x3 x5:Int) (x6:ay) (x7:aA) (x8:BA) (x9 aK aN aP:Int) (aX:Bool) (bf:aI) (aS:Bool) (aO:Int) (aT:aB) (aW:ay) (bh:aA) (n:Nat)   (dg:pM→Option (aa×Int)):pM→Option (aa×Int):=K0 x0 x1 x2 x3 x5 x6 x7 x9 bf aO aT aW bh n  dg (fun y1 y2 y7 z=>bS (Ag x8 y1 y2 x0 y7 x5 x6 x7 aO aT aW bh n dg) n z) (fun y3 z=>bS (xf x0 x1 bf y3 x5 x6 x7 x8 x9 aK aN aP aX bf aS aO aT aW bh n ) n z)
section
variable (x0:BA) (x1 x3:Int) (x4:aB) (x5:ay) (x6:aA) (x7:BA) (x8 x9 aK aN:Int) (aP:Bool) (aX:aI) (bf:Bool) (aS:Int) (aO:aB) (aT:ay) (aW:aA) (bh:Int) (bJ:aB) (bG:ay) (bL:aA)
def Wm:yX→St C:=fun x2=>{ env:=[(0,.one (.ptr 852352 0)),(1,.one (.str x0)),(10,.one (.int .i64 x1)),(11,.one (.int .i64 x2)),(1000,.bz (false,[.ptr 852352 0]) 16022000),(1003,.bz (false,[.ptr 68719479423168 0]) 16022003),(2002,.bz (false,[.ptr 852096 0]) 16002),(2004,.bz (false,[.ptr 852224 0]) 16004),(2006,.bz (false,[.ptr 852352 0]) 16006)],aj:=[(852352,.box .mem [.int .i64 x3,.ref 86235201 [],.ref 86235202 [],.ref 86235203 []]),(86235201,.row .bD x4 false),(86235202,.row .bX x5 false),(86235203,.row .cC x6 false),(68719479423168,.box .mem [.str x7,.int .i64 x8,.int .i64 x9,.int .i64 aK,.int .i64 aN,.bool aP,.row .fw aX,.bool bf]),(852096,.box .mem [.int .i64 aS,.row .bD aO,.row .bX aT,.row .cC aW]),(852224,.box .mem [.int .i64 bh,.ref 86222401 [],.ref 86222402 [],.ref 86222403 []]),(86222401,.row .bD bJ false),(86222402,.row .bX bG false),(86222403,.row .cC bL false)],base:=16022000 }
end
def K1 (x0:BA) (x1 x3:Int) (x4:aB) (x5:ay) (x6:aA) (aX:aI) (aS:Int) (aO:aB) (aT:ay) (aW:aA) (n:Nat)   (aM:yX→Option (aa×Int)) (l1:(Nat)→(Int)→pM→Option (aa×Int)):yX→Option (aa×Int):=fun x2=>
 cond (decide (x2<x1))
 (cond (decide (0≤x2)) (cond (decide (x2<(x4.length:Int))) (Option.bind x4[x2.toNat]? fun e5=>cond (decide (e5.Name=x0))
 (cond (decide (0≤x2)) (cond (decide (x2<(x4.length:Int))) (l1 x2.toNat (aX.length:Int) 0) none) none)
 (aM (i64.wrap (x2+1)))) none) none)
 (cond (3 != 0)
 (Option.bind (iV (⟨aS,aO,aT,aW⟩:aa)) fun r209=>
 some (r209,3))
 (some ((⟨x3,x4,x5,x6⟩:aa),0)))
def Ah (x0:BA) (x1 x3:Int) (x4:aB) (x5:ay) (x6:aA) (x7:BA) (x8 x9 aK aN:Int) (aP:Bool) (aX:aI) (bf:Bool) (aS:Int) (aO:aB) (aT:ay) (aW:aA) (n:Nat)   (aM:yX→Option (aa×Int)):yX→Option (aa×Int):=K1 x0 x1 x3 x4 x5 x6 aX aS aO aT aW n  aM (fun y1 y3 z=>bS (uN x4 y1 aX y3 x3 x5 x6 x7 x8 x9 aK aN aP aX bf aS aO aT aW n ) n z)
section
variable (x0:BA) (x1 x2:Int) (x4:aB) (x5:Nat) (x6:aI) (x7 x8 x9:Int) (aK:ay) (aN:aA) (aP:BA) (aX bf aS aO:Int) (aT:Bool) (aW:aI) (bh:Bool) (bJ:Int) (bG:aB) (bL:ay) (bZ:aA) (da:Int) (cW:aB) (dE:ay) (dI:aA)
def SI (n:Nat) (dg:St C→Option (aa×Int)) (x:BT):Option (aa×Int):=iter (fun rec S=>run sV (BD n) (aw (av Try.f56) [1,0,1,0,0]) 0 S (cH rec (bW 0 (bA (run sV (BD n) (aw (av Try.f56) [1,1]) 0) (fu sV Try.f56 (dB 16036000 16000 (some 36) (eJ (kR n) (aw (av Try.f41) [1,1,1,1,0,1,0,0,1,1,0,0,1,0]) 6 (fq (oh n) (bA (run (kR n) (oh n) (aw (av Try.f41) [1,1,1,1,0,1,0,0,1,1,0,0,1,1]) 1) (bW 1 (bA (run (kR n) (oh n) (aw (av Try.f41) [1,1,1,1,0,1,0,0,1,1,1]) 0) (cH (fR [0,3,5,25,26,27] dg) (bW 0 (bA (run (kR n) (oh n) (aw (av Try.f41) [1,1,1,1,1]) 0) (fu (kR n) Try.f41 (dB 15000 0 (some 15) (eJ (jV n) (aw (av Try.f13) [1,1,1,0,0]) 2 (fq (m9 n) (bA (run (jV n) (m9 n) (aw (av Try.f13) [1,1,1,0,1]) 0) (bA (run (jV n) (m9 n) (aw (av Try.f13) [1,1,1,1]) 0) (dM (jV n) Try.f13 mr))))))))))))))))))))) [0,1,2,12,13] n (s13_2 x0 x1 x2 x4 x5 x6 x7 x8 x9 aK aN aP aX bf aS aO aT aW bh bJ bG bL bZ da cW dE dI x)
theorem m13_2 (n:Nat) (dg:St C→Option (aa×Int)) (x:BT):SI x0 x1 x2 x4 x5 x6 x7 x8 x9 aK aN aP aX bf aS aO aT aW bh bJ bG bL bZ da cW dE dI n dg x=bS (Ag x0 x1 x2 x4 x8 x9 aK aN bJ bG bL bZ n  (fun x=>dg (OG x4 x5 x6 x7 x9 aK aN aP aX bf aS aO aT aW bh bJ bG bL bZ da cW dE dI x))) n x:=by
 refine iter_eq _ _ (fun dD x3=>?_) n x
 kernel_rfl
end
section
variable (x0:BA) (x1 x2:Int) (x4:aB) (x5:Nat) (x6:aI) (x7 x8:Int) (x9:BA) (aK aN aP:Int) (aX:ay) (bf:aA) (aS:BA) (aO aT aW bh:Int) (bJ:Bool) (bG:aI) (bL:Bool) (bZ da cW:Int) (dE:aB) (dI:ay) (dS:aA) (gz:Int) (gi:aB) (gy:ay) (lW:aA)
def SG (n:Nat) (dz:St C→Option (aa×Int)) (x:BS):Option (aa×Int):=iter (fun rec S=>run sV (BD n) (aw (av Try.f56) [1,0,1,0,0]) 0 S (cH rec (bW 0 (bA (run sV (BD n) (aw (av Try.f56) [1,1]) 0) (fu sV Try.f56 (dB 16058000 16000 (some 58) (mq (kR n) (aw (av Try.f41) [1,1,1,1,1,1,0,1,0,0,1,1,0,0,1,0]) 4089 [6,7,8,11] (fq (oh n) (bA (run (kR n) (oh n) (aw (av Try.f41) [1,1,1,1,1,1,0,1,0,0,1,1,0,0,1,1]) 3) (bW 3 (bA (run (kR n) (oh n) (aw (av Try.f41) [1,1,1,1,1,1,0,1,0,0,1,1,1]) 2) (cH (fR [0,3,5,47,48,49] dz) (bW 2 (bA (run (kR n) (oh n) (aw (av Try.f41) [1,1,1,1,1,1,1]) 0) (fu (kR n) Try.f41 (dB 15000 0 (some 15) (eJ (jV n) (aw (av Try.f13) [1,1,1,0,0]) 2 (fq (m9 n) (bA (run (jV n) (m9 n) (aw (av Try.f13) [1,1,1,0,1]) 0) (bA (run (jV n) (m9 n) (aw (av Try.f13) [1,1,1,1]) 0) (dM (jV n) Try.f13 mr))))))))))))))))))))) [0,1,2,12,13] n (s13_4 x0 x1 x2 x4 x5 x6 x7 x8 x9 aK aN aP aX bf aS aO aT aW bh bJ bG bL bZ da cW dE dI dS gz gi gy lW x)
theorem m13_4 (n:Nat) (dz:St C→Option (aa×Int)) (x:BS):SG x0 x1 x2 x4 x5 x6 x7 x8 x9 aK aN aP aX bf aS aO aT aW bh bJ bG bL bZ da cW dE dI dS gz gi gy lW n dz x=bS (uM x0 x1 x2 x4 x8 aN aP aX bf cW dE dI dS n  (fun x=>dz (D6 x4 x5 x6 x7 aP aX bf aS aO aT aW bh bJ bG bL cW dE dI dS gz gi gy lW x))) n x:=by
 refine iter_eq _ _ (fun qp x3=>?_) n x
 kernel_rfl
end
section
variable (x0:BA) (x1 x2:Int) (x4:aB) (x5:Nat) (x6:aI) (x7 x8:Int) (x9:BA) (aK aN:Int) (aP:ay) (aX:aA) (bf:BA) (aS aO aT aW:Int) (bh:Bool) (bJ:aI) (bG:Bool) (bL bZ da:Int) (cW:aB) (dE:ay) (dI:aA) (dS:Int) (gz:aB) (gi:ay) (gy:aA)
def SF (n:Nat) (dz:St C→Option (aa×Int)) (x:BR):Option (aa×Int):=iter (fun rec S=>run sV (BD n) (aw (av Try.f56) [1,0,1,0,0]) 0 S (cH rec (bW 0 (bA (run sV (BD n) (aw (av Try.f56) [1,1]) 0) (fu sV Try.f56 (dB 16058000 16000 (some 58) (mq (kR n) (aw (av Try.f41) [1,1,1,1,1,1,0,1,0,0,1,1,0,0,1,0]) 4089 [10,6,7,8,11] (fq (oh n) (bA (run (kR n) (oh n) (aw (av Try.f41) [1,1,1,1,1,1,0,1,0,0,1,1,0,0,1,1]) 3) (bW 3 (bA (run (kR n) (oh n) (aw (av Try.f41) [1,1,1,1,1,1,0,1,0,0,1,1,1]) 2) (cH (fR [0,3,5,47,48,49] dz) (bW 2 (bA (run (kR n) (oh n) (aw (av Try.f41) [1,1,1,1,1,1,1]) 0) (fu (kR n) Try.f41 (dB 15000 0 (some 15) (eJ (jV n) (aw (av Try.f13) [1,1,1,0,0]) 2 (fq (m9 n) (bA (run (jV n) (m9 n) (aw (av Try.f13) [1,1,1,0,1]) 0) (bA (run (jV n) (m9 n) (aw (av Try.f13) [1,1,1,1]) 0) (dM (jV n) Try.f13 mr))))))))))))))))))))) [0,1,2,12,13] n (s13_5 x0 x1 x2 x4 x5 x6 x7 x8 x9 aK aN aP aX bf aS aO aT aW bh bJ bG bL bZ da cW dE dI dS gz gi gy x)
theorem m13_5 (n:Nat) (dz:St C→Option (aa×Int)) (x:BR):SF x0 x1 x2 x4 x5 x6 x7 x8 x9 aK aN aP aX bf aS aO aT aW bh bJ bG bL bZ da cW dE dI dS gz gi gy n dz x=bS (OX x0 x1 x2 x4 x8 aN aP aX bZ da cW dE dI n  (fun x=>dz (D6 x4 x5 x6 x7 aN aP aX bf aS aO aT aW bh bJ bG da cW dE dI dS gz gi gy x))) n x:=by
 refine iter_eq _ _ (fun LY x3=>?_) n x
 kernel_rfl
end
section
variable (x0:BA) (x1 x2:Int) (x4:aB) (x5:Nat) (x6:aI) (x7 x8:Int) (x9:BA) (aK aN:Int) (aP:ay) (aX:aA) (bf:BA) (aS aO aT aW:Int) (bh:Bool) (bJ:aI) (bG:Bool) (bL bZ da:Int) (cW:aB) (dE:ay) (dI:aA) (dS:Int) (gz:aB) (gi:ay) (gy:aA)
def SE (n:Nat) (dz:St C→Option (aa×Int)) (x:BQ):Option (aa×Int):=iter (fun rec S=>run sV (BD n) (aw (av Try.f56) [1,0,1,0,0]) 0 S (cH rec (bW 0 (bA (run sV (BD n) (aw (av Try.f56) [1,1]) 0) (fu sV Try.f56 (dB 16058000 16000 (some 58) (mq (kR n) (aw (av Try.f41) [1,1,1,1,1,1,0,1,0,0,1,1,0,0,1,0]) 4089 [9,10,6,7,8,11] (fq (oh n) (bA (run (kR n) (oh n) (aw (av Try.f41) [1,1,1,1,1,1,0,1,0,0,1,1,0,0,1,1]) 3) (bW 3 (bA (run (kR n) (oh n) (aw (av Try.f41) [1,1,1,1,1,1,0,1,0,0,1,1,1]) 2) (cH (fR [0,3,5,47,48,49] dz) (bW 2 (bA (run (kR n) (oh n) (aw (av Try.f41) [1,1,1,1,1,1,1]) 0) (fu (kR n) Try.f41 (dB 15000 0 (some 15) (eJ (jV n) (aw (av Try.f13) [1,1,1,0,0]) 2 (fq (m9 n) (bA (run (jV n) (m9 n) (aw (av Try.f13) [1,1,1,0,1]) 0) (bA (run (jV n) (m9 n) (aw (av Try.f13) [1,1,1,1]) 0) (dM (jV n) Try.f13 mr))))))))))))))))))))) [0,1,2,12,13] n (s13_6 x0 x1 x2 x4 x5 x6 x7 x8 x9 aK aN aP aX bf aS aO aT aW bh bJ bG bL bZ da cW dE dI dS gz gi gy x)
theorem m13_6 (n:Nat) (dz:St C→Option (aa×Int)) (x:BQ):SE x0 x1 x2 x4 x5 x6 x7 x8 x9 aK aN aP aX bf aS aO aT aW bh bJ bG bL bZ da cW dE dI dS gz gi gy n dz x=bS (OW x0 x1 x2 x4 x8 aN aP aX bZ da cW dE dI n  (fun x=>dz (D6 x4 x5 x6 x7 aN aP aX bf aS aO aT aW bh bJ bG da cW dE dI dS gz gi gy x))) n x:=by
 refine iter_eq _ _ (fun zu x3=>?_) n x
 kernel_rfl
end
section
variable (x0:BA) (x1 x2:Int) (x4:aB) (x5:Nat) (x6:aI) (x7 x8 x9:Int) (aK:ay) (aN:aA) (aP:BA) (aX bf aS aO:Int) (aT:Bool) (aW:aI) (bh:Bool) (bJ:Int) (bG:aB) (bL:ay) (bZ:aA) (da:Int) (cW:aB) (dE:ay) (dI:aA)
def SB (n:Nat) (jP:St C→Option (aa×Int)) (x:BP):Option (aa×Int):=iter (fun rec S=>run sV (BD n) (aw (av Try.f56) [1,0,1,0,0]) 0 S (cH rec (bW 0 (bA (run sV (BD n) (aw (av Try.f56) [1,1]) 0) (fu sV Try.f56 (dB 16078000 16000 (some 78) (eJ (kR n) (aw (av Try.f41) [1,1,1,1,1,1,1,0,1,0,0,1,1,0,0,1,0]) 6 (fq (oh n) (bA (run (kR n) (oh n) (aw (av Try.f41) [1,1,1,1,1,1,1,0,1,0,0,1,1,0,0,1,1]) 5) (bW 5 (bA (run (kR n) (oh n) (aw (av Try.f41) [1,1,1,1,1,1,1,0,1,0,0,1,1,1]) 4) (cH (fR [0,3,5,67,68,69] jP) (bW 4 (bA (run (kR n) (oh n) (aw (av Try.f41) [1,1,1,1,1,1,1,1]) 0) (fu (kR n) Try.f41 (dB 15000 0 (some 15) (eJ (jV n) (aw (av Try.f13) [1,1,1,0,0]) 2 (fq (m9 n) (bA (run (jV n) (m9 n) (aw (av Try.f13) [1,1,1,0,1]) 0) (bA (run (jV n) (m9 n) (aw (av Try.f13) [1,1,1,1]) 0) (dM (jV n) Try.f13 mr))))))))))))))))))))) [0,1,2,12,13] n (s13_8 x0 x1 x2 x4 x5 x6 x7 x8 x9 aK aN aP aX bf aS aO aT aW bh bJ bG bL bZ da cW dE dI x)
theorem m13_8 (n:Nat) (jP:St C→Option (aa×Int)) (x:BP):SB x0 x1 x2 x4 x5 x6 x7 x8 x9 aK aN aP aX bf aS aO aT aW bh bJ bG bL bZ da cW dE dI n jP x=bS (Af x0 x1 x2 x4 x5 x8 x9 aK aN bJ bG bL bZ n  (fun x=>jP (OC x4 x5 x6 x7 x9 aN aP aX bf aS aO aT aW bh bJ bG bL bZ da cW dE dI x))) n x:=by
 refine iter_eq _ _ (fun wZ x3=>?_) n x
 kernel_rfl
end
section
variable (x3:Nat) (x4:Int) (x5:ay) (x6:aA) (x7:BA) (x8 x9 aK aN:Int) (aP:Bool) (aX:aI) (bf:Bool) (aS:Int) (aO:aB) (aT:ay) (aW:aA) (bh:Int) (bJ:aB) (bG:ay) (bL:aA)
def La (n:Nat)  (x:uA):Option (aa×Int):=iter (fun rec S=>run (Yc n) (F79 n) (aw (av Try.f79) [1,1,1,0,1,0,0]) 0 S (cH rec (bW 0 (bA (run (Yc n) (F79 n) (aw (av Try.f79) [1,1,1,1]) 0) (fu (Yc n) Try.f79 (dB 16286000 16000 (some 286) (eJ (kR n) (aw (av Try.f41) [1,1,1,1,1,1,1,1,1,1,1,1,1,1,1,1,1,1,0,1,0]) 7 (fq (oh n) (bA (run (kR n) (oh n) (aw (av Try.f41) [1,1,1,1,1,1,1,1,1,1,1,1,1,1,1,1,1,1,1]) 0) (fu (kR n) Try.f41 (dB 15000 0 (some 15) (eJ (jV n) (aw (av Try.f13) [1,1,1,0,0]) 2 (fq (m9 n) (bA (run (jV n) (m9 n) (aw (av Try.f13) [1,1,1,0,1]) 0) (bA (run (jV n) (m9 n) (aw (av Try.f13) [1,1,1,1]) 0) (dM (jV n) Try.f13 mr)))))))))))))))) [0,1,5,6] n (YM x3 x4 x5 x6 x7 x8 x9 aK aN aP aX bf aS aO aT aW bh bJ bG bL x)
theorem Zl (n:Nat)  (x:uA):La x3 x4 x5 x6 x7 x8 x9 aK aN aP aX bf aS aO aT aW bh bJ bG bL n  x=bS (tz x4 x5 x6 x7 x8 x9 aK aN aP aX bf aS aO aT aW n  ) n x:=by
 refine iter_eq _ _ (fun OP x=>?_) n x;obtain ⟨x0,x1,x2⟩:=x
 kernel_rfl
end
section
variable (x0:aB) (x1:Int) (x3:Nat) (x4:Int) (x5:ay) (x6:aA) (x7:BA) (x8 x9 aK aN:Int) (aP:Bool) (aX:aI) (bf:Bool) (aS:Int) (aO:aB) (aT:ay) (aW:aA) (bh:Int) (bJ:aB) (bG:ay) (bL:aA)
def Lb (n:Nat)  (x:pK):Option (aa×Int):=iter (fun rec S=>run X53 (F53 n) (aw (av Try.f53) [1,0,1,0,0]) 0 S (cH rec (bW 0 (bA (run X53 (F53 n) (aw (av Try.f53) [1,1]) 0) (fu X53 Try.f53 (dB 16287010000 16287000 (some 10) (eJ (Yc n) (aw (av Try.f79) [1,0]) 3 (fq (F79 n) (bA (run (Yc n) (F79 n) (aw (av Try.f79) [1,1]) 0) (fu (Yc n) Try.f79 (dB 16286000 16000 (some 286) (eJ (kR n) (aw (av Try.f41) [1,1,1,1,1,1,1,1,1,1,1,1,1,1,1,1,1,1,0,1,0]) 7 (fq (oh n) (bA (run (kR n) (oh n) (aw (av Try.f41) [1,1,1,1,1,1,1,1,1,1,1,1,1,1,1,1,1,1,1]) 0) (fu (kR n) Try.f41 (dB 15000 0 (some 15) (eJ (jV n) (aw (av Try.f13) [1,1,1,0,0]) 2 (fq (m9 n) (bA (run (jV n) (m9 n) (aw (av Try.f13) [1,1,1,0,1]) 0) (bA (run (jV n) (m9 n) (aw (av Try.f13) [1,1,1,1]) 0) (dM (jV n) Try.f13 mr))))))))))))))))))))) [0,1,7,8] n (OD x0 x1 x3 x4 x5 x6 x7 x8 x9 aK aN aP aX bf aS aO aT aW bh bJ bG bL x)
theorem Zm (n:Nat)  (x:pK):Lb x0 x1 x3 x4 x5 x6 x7 x8 x9 aK aN aP aX bf aS aO aT aW bh bJ bG bL n  x=bS (tC x0 x1 x4 x5 x6 x7 x8 x9 aK aN aP aX bf aS aO aT aW n  ) n x:=by
 refine iter_eq _ _ (fun Ed x2=>?_) n x;refine Eq.trans (b:=Di x0 x1 x4 x5 x6 x7 x8 x9 aK aN aP aX bf aS aO aT aW n   (fun x=>Ed (OD x0 x1 x3 x4 x5 x6 x7 x8 x9 aK aN aP aX bf aS aO aT aW bh bJ bG bL x)) (fun z=>La x3 x4 x5 x6 x7 x8 x9 aK aN aP aX bf aS aO aT aW bh bJ bG bL n   z) x2) (by kernel_rfl) ?_;simp only [tC,Zl]
end
section
variable (x1:Nat) (x3 x5:Int) (x7:aA) (x8:BA) (x9 aK aN aP:Int) (aX:Bool) (bf:aI) (aS:Bool) (aO:Int) (aT:aB) (aW:ay) (bh:aA) (bJ:Int) (bG:aB) (bL:ay) (bZ:aA)
def Lc (n:Nat)  (x:pL):Option (aa×Int):=iter (fun rec S=>run (kR n) (oh n) (aw (av Try.f41) [1,1,1,1,1,1,1,1,1,1,1,1,1,1,1,1,1,0,1,0,0]) 8 S (cH rec (bW 8 (bA (run (kR n) (oh n) (aw (av Try.f41) [1,1,1,1,1,1,1,1,1,1,1,1,1,1,1,1,1,1]) 0) (fu (kR n) Try.f41 (dB 15000 0 (some 15) (eJ (jV n) (aw (av Try.f13) [1,1,1,0,0]) 2 (fq (m9 n) (bA (run (jV n) (m9 n) (aw (av Try.f13) [1,1,1,0,1]) 0) (bA (run (jV n) (m9 n) (aw (av Try.f13) [1,1,1,1]) 0) (dM (jV n) Try.f13 mr))))))))))) [0,3,5,14,238,239] n (OE x1 x3 x5 x7 x8 x9 aK aN aP aX bf aS aO aT aW bh bJ bG bL bZ x)
theorem Zn (n:Nat)  (x:pL):Lc x1 x3 x5 x7 x8 x9 aK aN aP aX bf aS aO aT aW bh bJ bG bL bZ n  x=bS (nD x1 x3 x5 x7 x8 x9 aK aN aP aX bf aS aO aT aW bh n  ) n x:=by
 refine iter_eq _ _ (fun uI x=>?_) n x;obtain ⟨x0,x2,x4,x6⟩:=x;refine Eq.trans (b:=yI x1 x3 x5 x7 aS aO aT aW bh n   (fun x=>uI (OE x1 x3 x5 x7 x8 x9 aK aN aP aX bf aS aO aT aW bh bJ bG bL bZ x)) (fun y0 y1 y4 z=>Lb y0 y1 x1 x5 y4 x7 x8 x9 aK aN aP aX bf aS aO aT aW bh bJ bG bL bZ n   z) (x0,x2,x4,x6)) (by kernel_rfl) ?_;simp only [nD,Zm]
end
section
variable (x0:aB) (x1:Nat) (x3:Int) (x4:ay) (x5:aA) (x6:BA) (x7 x8 x9 aK:Int) (aN:Bool) (aP:aI) (aX:Bool) (bf:Int) (aS:aB) (aO:ay) (aT:aA) (aW:Int) (bh:aB) (bJ:ay) (bG:aA)
def SA (n:Nat)  (x:vg):Option (aa×Int):=iter (fun rec S=>run (kR n) (oh n) (aw (av Try.f41) [1,1,1,1,1,1,1,1,1,1,1,1,1,1,1,1,0,0,0]) 6 S (cH rec (bW 6 (bA (run (kR n) (oh n) (aw (av Try.f41) [1,1,1,1,1,1,1,1,1,1,1,1,1,1,1,1,1]) 0) (fu (kR n) Try.f41 (dB 15000 0 (some 15) (eJ (jV n) (aw (av Try.f13) [1,1,1,0,0]) 2 (fq (m9 n) (bA (run (jV n) (m9 n) (aw (av Try.f13) [1,1,1,0,1]) 0) (bA (run (jV n) (m9 n) (aw (av Try.f13) [1,1,1,1]) 0) (dM (jV n) Try.f13 mr))))))))))) [0,3,5,14] n (Wl x0 x1 x3 x4 x5 x6 x7 x8 x9 aK aN aP aX bf aS aO aT aW bh bJ bG x)
theorem m13_9 (n:Nat)  (x:vg):SA x0 x1 x3 x4 x5 x6 x7 x8 x9 aK aN aP aX bf aS aO aT aW bh bJ bG n  x=bS (lD x0 x1 x3 x4 x5 x6 x7 x8 x9 aK aN aP aX bf aS aO aT n  ) n x:=by
 refine iter_eq _ _ (fun Ec x2=>?_) n x;refine Eq.trans (b:=BB x0 x1 x4 n   (fun x=>Ec (Wl x0 x1 x3 x4 x5 x6 x7 x8 x9 aK aN aP aX bf aS aO aT aW bh bJ bG x)) (fun z=>Lc x1 x8 x3 x5 x6 x7 x8 x9 aK aN aP aX bf aS aO aT aW bh bJ bG n   z) x2) (by kernel_rfl) ?_;simp only [lD,Zn]
end
section
variable (x0:aB) (x1:Nat) (x2:aI) (x3 x5:Int) (x7:aA) (x8:BA) (x9 aK aN aP:Int) (aX:Bool) (bf:aI) (aS:Bool) (aO:Int) (aT:aB) (aW:ay) (bh:aA) (bJ:Int) (bG:aB) (bL:ay) (bZ:aA)
def SC (n:Nat)  (x:ng):Option (aa×Int):=iter (fun rec S=>run (kR n) (oh n) (aw (av Try.f41) [1,1,1,1,1,1,1,0,1,0,0]) 4 S (cH rec (bW 4 (bA (run (kR n) (oh n) (aw (av Try.f41) [1,1,1,1,1,1,1,1]) 0) (fu (kR n) Try.f41 (dB 15000 0 (some 15) (eJ (jV n) (aw (av Try.f13) [1,1,1,0,0]) 2 (fq (m9 n) (bA (run (jV n) (m9 n) (aw (av Try.f13) [1,1,1,0,1]) 0) (bA (run (jV n) (m9 n) (aw (av Try.f13) [1,1,1,1]) 0) (dM (jV n) Try.f13 mr))))))))))) [0,3,5,67,68,69] n (OC x0 x1 x2 x3 x5 x7 x8 x9 aK aN aP aX bf aS aO aT aW bh bJ bG bL bZ x)
theorem m13_7 (n:Nat)  (x:ng):SC x0 x1 x2 x3 x5 x7 x8 x9 aK aN aP aX bf aS aO aT aW bh bJ bG bL bZ n  x=bS (nW x0 x1 x2 x3 x5 x7 x8 x9 aK aN aP aX bf aS aO aT aW bh n  ) n x:=by
 refine iter_eq _ _ (fun jP x=>?_) n x;obtain ⟨x4,x6⟩:=x;refine Eq.trans (b:=BC x0 x1 x2 x3 x5 x7 aK aN aP aX aS aO aT aW bh n   (fun x=>jP (OC x0 x1 x2 x3 x5 x7 x8 x9 aK aN aP aX bf aS aO aT aW bh bJ bG bL bZ x)) (fun y1 y2 y7 y9 z=>SB x8 y1 y2 x0 x1 x2 x3 y7 x5 y9 x7 x8 x9 aK aN aP aX bf aS aO aT aW bh bJ bG bL bZ n  jP z) (fun y0 y2 y3 z=>SA y0 x1 y2 y3 x7 x8 x9 aK aN aP aX bf aS aO aT aW bh bJ bG bL bZ n   z) (x4,x6)) (by kernel_rfl) ?_;simp only [nW,m13_8,m13_9]
end
section
variable (x0:aB) (x1:Nat) (x2:aI) (x3 x5:Int) (x6:ay) (x7:aA) (x8:BA) (x9 aK aN aP:Int) (aX:Bool) (bf:aI) (aS:Bool) (aO:Int) (aT:aB) (aW:ay) (bh:aA) (bJ:Int) (bG:aB) (bL:ay) (bZ:aA)
def SH (n:Nat)  (x:lV):Option (aa×Int):=iter (fun rec S=>run (kR n) (oh n) (aw (av Try.f41) [1,1,1,1,1,1,0,1,0,0]) 2 S (cH rec (bW 2 (bA (run (kR n) (oh n) (aw (av Try.f41) [1,1,1,1,1,1,1]) 0) (fu (kR n) Try.f41 (dB 15000 0 (some 15) (eJ (jV n) (aw (av Try.f13) [1,1,1,0,0]) 2 (fq (m9 n) (bA (run (jV n) (m9 n) (aw (av Try.f13) [1,1,1,0,1]) 0) (bA (run (jV n) (m9 n) (aw (av Try.f13) [1,1,1,1]) 0) (dM (jV n) Try.f13 mr))))))))))) [0,3,5,47,48,49] n (D6 x0 x1 x2 x3 x5 x6 x7 x8 x9 aK aN aP aX bf aS aO aT aW bh bJ bG bL bZ x)
theorem m13_3 (n:Nat)  (x:lV):SH x0 x1 x2 x3 x5 x6 x7 x8 x9 aK aN aP aX bf aS aO aT aW bh bJ bG bL bZ n  x=bS (xf x0 x1 x2 x3 x5 x6 x7 x8 x9 aK aN aP aX bf aS aO aT aW bh n  ) n x:=by
 refine iter_eq _ _ (fun dz x4=>?_) n x;refine Eq.trans (b:=KZ x2 x3 x6 bf n   (fun x=>dz (D6 x0 x1 x2 x3 x5 x6 x7 x8 x9 aK aN aP aX bf aS aO aT aW bh bJ bG bL bZ x)) (fun y1 y2 y7 y9 wy zi LA z=>SG x8 y1 y2 x0 x1 x2 x3 y7 x8 y9 wy x5 x6 x7 x8 x9 aK aN aP aX bf aS zi LA aO aT aW bh bJ bG bL bZ n  dz z) (fun y1 y2 y7 y9 G2 zi z=>SF x8 y1 y2 x0 x1 x2 x3 y7 x8 y9 x5 x6 x7 x8 x9 aK aN aP aX bf aS G2 zi aO aT aW bh bJ bG bL bZ n  dz z) (fun y1 y2 y7 y9 G2 zi z=>SE x8 y1 y2 x0 x1 x2 x3 y7 x8 y9 x5 x6 x7 x8 x9 aK aN aP aX bf aS G2 zi aO aT aW bh bJ bG bL bZ n  dz z) (fun y3 z=>SC x0 x1 bf y3 x5 x7 x8 x9 aK aN aP aX bf aS aO aT aW bh bJ bG bL bZ n   z) x4) (by kernel_rfl) ?_;simp only [xf,m13_4,m13_5,m13_6,m13_7]
end
section
variable (x0:aB) (x1:Nat) (x2:aI) (x3 x5:Int) (x6:ay) (x7:aA) (x8:BA) (x9 aK aN aP:Int) (aX:Bool) (bf:aI) (aS:Bool) (aO:Int) (aT:aB) (aW:ay) (bh:aA) (bJ:Int) (bG:aB) (bL:ay) (bZ:aA)
def SJ (n:Nat)  (x:pM):Option (aa×Int):=iter (fun rec S=>run (kR n) (oh n) (aw (av Try.f41) [1,1,1,1,0,1,0,0]) 0 S (cH rec (bW 0 (bA (run (kR n) (oh n) (aw (av Try.f41) [1,1,1,1,1]) 0) (fu (kR n) Try.f41 (dB 15000 0 (some 15) (eJ (jV n) (aw (av Try.f13) [1,1,1,0,0]) 2 (fq (m9 n) (bA (run (jV n) (m9 n) (aw (av Try.f13) [1,1,1,0,1]) 0) (bA (run (jV n) (m9 n) (aw (av Try.f13) [1,1,1,1]) 0) (dM (jV n) Try.f13 mr))))))))))) [0,3,5,25,26,27] n (OG x0 x1 x2 x3 x5 x6 x7 x8 x9 aK aN aP aX bf aS aO aT aW bh bJ bG bL bZ x)
theorem m13_1 (n:Nat)  (x:pM):SJ x0 x1 x2 x3 x5 x6 x7 x8 x9 aK aN aP aX bf aS aO aT aW bh bJ bG bL bZ n  x=bS (uN x0 x1 x2 x3 x5 x6 x7 x8 x9 aK aN aP aX bf aS aO aT aW bh n  ) n x:=by
 refine iter_eq _ _ (fun dg x4=>?_) n x;refine Eq.trans (b:=K0 x0 x1 x2 x3 x5 x6 x7 x9 bf aO aT aW bh n   (fun x=>dg (OG x0 x1 x2 x3 x5 x6 x7 x8 x9 aK aN aP aX bf aS aO aT aW bh bJ bG bL bZ x)) (fun y1 y2 y7 z=>SI x8 y1 y2 x0 x1 x2 x3 y7 x5 x6 x7 x8 x9 aK aN aP aX bf aS aO aT aW bh bJ bG bL bZ n  dg z) (fun y3 z=>SH x0 x1 bf y3 x5 x6 x7 x8 x9 aK aN aP aX bf aS aO aT aW bh bJ bG bL bZ n   z) x4) (by kernel_rfl) ?_;simp only [uN,m13_2,m13_3]
end
section
variable (x0:BA) (x1 x3:Int) (x4:aB) (x5:ay) (x6:aA) (x7:BA) (x8 x9 aK aN:Int) (aP:Bool) (aX:aI) (bf:Bool) (aS:Int) (aO:aB) (aT:ay) (aW:aA) (bh:Int) (bJ:aB) (bG:ay) (bL:aA)
def SK (n:Nat)  (x:yX):Option (aa×Int):=iter (fun rec S=>run Yh (F36 n) (aw (av Try.f36) [1,0,1,0,0]) 0 S (cH rec (bW 0 (bA (run Yh (F36 n) (aw (av Try.f36) [1,1]) 0) (fu Yh Try.f36 (dB 16021000 16000 (some 21) (eJ (kR n) (aw (av Try.f41) [1,1,0]) 4 (fq (oh n) (bA (run (kR n) (oh n) (aw (av Try.f41) [1,1,1]) 0) (fu (kR n) Try.f41 (dB 15000 0 (some 15) (eJ (jV n) (aw (av Try.f13) [1,1,1,0,0]) 2 (fq (m9 n) (bA (run (jV n) (m9 n) (aw (av Try.f13) [1,1,1,0,1]) 0) (bA (run (jV n) (m9 n) (aw (av Try.f13) [1,1,1,1]) 0) (dM (jV n) Try.f13 mr)))))))))))))))) [0,1,10,11] n (Wm x0 x1 x3 x4 x5 x6 x7 x8 x9 aK aN aP aX bf aS aO aT aW bh bJ bG bL x)
theorem m13_0 (n:Nat)  (x:yX):SK x0 x1 x3 x4 x5 x6 x7 x8 x9 aK aN aP aX bf aS aO aT aW bh bJ bG bL n  x=bS (Ah x0 x1 x3 x4 x5 x6 x7 x8 x9 aK aN aP aX bf aS aO aT aW n  ) n x:=by
 refine iter_eq _ _ (fun aM x2=>?_) n x;refine Eq.trans (b:=K1 x0 x1 x3 x4 x5 x6 aX aS aO aT aW n   (fun x=>aM (Wm x0 x1 x3 x4 x5 x6 x7 x8 x9 aK aN aP aX bf aS aO aT aW bh bJ bG bL x)) (fun y1 y3 z=>SJ x4 y1 aX y3 x3 x5 x6 x7 x8 x9 aK aN aP aX bf aS aO aT aW bh bJ bG bL n   z) x2) (by kernel_rfl) ?_;simp only [Ah,m13_1]
end
def VR (n:Nat) (a0:aa) (a1:au):Option (aa×Int):=
 Option.bind (G11 a0) fun r1=>
 cond (!r1)
 (some ((⟨0,([]:aB),([]:ay),([]:aA)⟩:aa),1))
 (Option.bind (iV a0) fun r2=>
 Option.bind (G75 a1) fun r3=>
 cond (!r3)
 (cond (2 != 0)
 (Option.bind (iV a0) fun r4=>
 some (r4,2))
 (some (r2,0)))
 (bS (Ah a1.aq (r2.af.length:Int) r2.bM r2.af r2.ah r2.ak a1.aq a1.Seen a1.bK a1.Want a1.bb a1.cM a1.Ends a1.Drop a0.bM a0.af a0.ah a0.ak n ) n 0))
theorem t13 (n:Nat) (a0:aa) (a1:au):db (jV n) (m9 n) Try.f13 [.agg [.int .i64 a0.bM,.row .bD a0.af,.row .bX a0.ah,.row .cC a0.ak],.agg [.str a1.aq,.int .i64 a1.Seen,.int .i64 a1.bK,.int .i64 a1.Want,.int .i64 a1.bb,.bool a1.cM,.row .fw a1.Ends,.bool a1.Drop]] mr=VR n a0 a1:=by
 refine Eq.trans (b:=
  Option.bind (G11 a0) fun r1=>
  cond (!r1)
  (some ((⟨0,([]:aB),([]:ay),([]:aA)⟩:aa),1))
  (Option.bind (iV a0) fun r2=>
  Option.bind (G75 a1) fun r3=>
  cond (!r3)
  (cond (2 != 0)
  (Option.bind (iV a0) fun r4=>
  some (r4,2))
  (some (r2,0)))
  (SK a1.aq (r2.af.length:Int) r2.bM r2.af r2.ah r2.ak a1.aq a1.Seen a1.bK a1.Want a1.bb a1.cM a1.Ends a1.Drop a0.bM a0.af a0.ah a0.ak 0 (([]:aB)) (([]:ay)) (([]:aA)) n   0))) (by kernel_rfl) ?_
 simp only [VR,m13_0]
def Dn (a0:aa) (a1:au):Option (aa×Int):=VR fuel a0 a1
def XR:iu C:=kD KK [.el .bU,.el .jq] [.el .bU,.int .i64] Dn
theorem c13:cL Try.prog KK 13 XR:=cP (fV ⟨c11,c24,trivial⟩ trivial ⟨i41 _,trivial⟩:Cons Try.prog (jV fuel)) (fn:=Try.f13) (m9 fuel) (fun a0 a1=>t13 fuel a0 a1)
def X84:Cx C:=eP [] [] [] [] 5505024 []
def F84 (n:Nat):Cf:={ N:=n,keep:=[0,2,3],live:=lk [] }
abbrev dec84:=iX KK [.int .i64]
def G84n (n:Nat) (a0:Bool):Option (Int):=
 cond a0
 (some (1))
 (some (0))
theorem t84 (n:Nat) (a0:Bool):db X84 (F84 n) Try.f84 [.one (.bool a0)] dec84=G84n n a0:=by
 kernel_rfl
def Vv (a0:Bool):Option (Int):=G84n fuel a0
def QM:iu C:=kD KK [.bool] [.int .i64] Vv
theorem c84:cL Try.prog KK 84 QM:=cP (fV trivial trivial trivial:Cons Try.prog X84) (fn:=Try.f84) (F84 fuel) (fun a0=>t84 fuel a0)
def X85 (n:Nat):Cx C:=eP [] [] [(37,I37 n)] [5,9] 5570560 []
def F85 (n:Nat):Cf:={ N:=n,keep:=[0,1,3,4,5],live:=lk [] }
abbrev Xe:=iX KK [.bool]
abbrev GC:Type:=Int
section
variable (x0:C .bU) (x1:BA) (x2:Int)
def s85_0:GC→St C:=fun x3=>{ env:=[(0,.one (.eS .bU x0 0)),(1,.one (.str x1)),(10,.one (.int .i64 x2)),(11,.one (.int .i64 x3))],aj:=[],base:=10000 }
end
def Ek (x0:C .bU) (x1:BA) (x2:Int) (n:Nat)   (aM:GC→Option (Bool)):GC→Option (Bool):=fun x3=>
 cond (decide (x3<x2))
 (cond (decide (0≤x3)) (Option.bind x0.ak[x3.toNat]? fun e1=>cond (decide (e1.Name=x1))
 (cond (decide (0≤x3)) (Option.bind x0.ak[x3.toNat]? fun e2=>some (e2.qF)) none)
 (aM (i64.wrap (x3+1)))) none)
 (some (false))
section
variable (x0:C .bU) (x1:BA) (x2:Int)
def RK (n:Nat)  (x:GC):Option (Bool):=iter (fun rec S=>run Yg (F37 n) (aw (av Try.f37) [1,0,1,0,0]) 0 S (cH rec (bW 0 (bA (run Yg (F37 n) (aw (av Try.f37) [1,1]) 0) (fu Yg Try.f37 (dB 9000 0 (some 9) (eJ (X85 n) (aw (av Try.f85) [1,0]) 4 (fq (F85 n) (bA (run (X85 n) (F85 n) (aw (av Try.f85) [1,1]) 0) (dM (X85 n) Try.f85 Xe)))))))))) [0,1,10,11] n (s85_0 x0 x1 x2 x)
theorem m85_0 (n:Nat)  (x:GC):RK x0 x1 x2 n  x=bS (Ek x0 x1 x2 n  ) n x:=by
 refine iter_eq _ _ (fun aM x3=>?_) n x
 kernel_rfl
end
def Vu (n:Nat) (a0:C .bU) (a1:ai):Option (Bool):=
 bS (Ek a0 a1.bE (a0.ak.length:Int) n ) n 0
theorem t85 (n:Nat) (a0:C .bU) (a1:ai):db (X85 n) (F85 n) Try.f85 [.one (.eS .bU a0 0),.agg [.str a1.aq,.int .i64 a1.Number,.int .i64 a1.Version,.int .i64 a1.ax,.int .i64 a1.State,.bool a1.Ending,.str a1.bE]] Xe=Vu n a0 a1:=by
 refine Eq.trans (b:=
  RK a0 a1.bE (a0.ak.length:Int) n   0) (by kernel_rfl) ?_
 simp only [Vu,m85_0]
def G85 (a0:C .bU) (a1:ai):Option (Bool):=Vu fuel a0 a1
def KD:iu C:=kD KK [.ptr .bU,.el .bX] [.bool] G85
theorem c85:cL Try.prog KK 85 KD:=cP (fV trivial trivial ⟨i37 _,trivial⟩:Cons Try.prog (X85 fuel)) (fn:=Try.f85) (F85 fuel) (fun a0 a1=>t85 fuel a0 a1)
def Rq:Cx C:=eP [(84,QM),(85,KD)] [] [] [] 7602176 []
def VY (n:Nat):Cf:={ N:=n,keep:=[0,1,2,3,4,5,6,8,46,47,48,49,53],live:=lk [(0,[4,5,46,47,48])] }
def I116 (n:Nat):lz C:=gg Rq (VY n) Try.f116
theorem i116 (n:Nat):cG Try.prog KK 116 (I116 n):=iP (fV ⟨c84,c85,trivial⟩ trivial trivial:Cons Try.prog Rq) (VY n) (fn:=Try.f116)
def zD (n:Nat):Cx C:=eP [] [] [(116,I116 n)] [0,1,4,5,6,20,21,22,23,24,25,26,27] 7536640 [26]
def Gn (n:Nat):Cf:={ N:=n,keep:=[0,1,4,5,6,9,17,27],live:=lk [(0,[0,1,4,5,6])] }
def I115 (n:Nat):lz C:=gg (zD n) (Gn n) Try.f115
theorem i115 (n:Nat):cG Try.prog KK 115 (I115 n):=iP (fV trivial trivial ⟨i116 _,trivial⟩:Cons Try.prog (zD n)) (Gn n) (fn:=Try.f115)
end Go.Proofs.Ytipemmgoipbojaa.Ab
set_option maxRecDepth 100000
namespace Go.Proofs.Ytipemmgoipbojaa.Ab
open Go Go.RowKit Go.IntKind
def Ya (n:Nat):Cx C:=eP [] [] [(115,I115 n),(116,I116 n)] [6,9] 5963776 []
def F91 (n:Nat):Cf:={ N:=n,keep:=[0,1,2,3,4,6],live:=lk [] }
abbrev Qz:=iX KK [.el .bX]
abbrev BF:Type:=Int
abbrev qG:Type:=Int×BA×Int×Int×Int×Int×Bool×BA
section
variable (x0:cJ) (x1:Int) (x3:ay) (x4:Int) (x5:ay) (x6:Int) (x7:C .bX) (x8:BA) (x9 aK aN aP:Int) (aX:Bool) (bf aS:BA) (aO aT aW bh:Int) (bJ:Bool) (bG bL:BA) (bZ da cW dE:Int) (dI:Bool) (dS gz:BA) (gi gy lW mw:Int) (qn:Bool) (qm pQ:BA) (pP pO pN zM:Int) (zL:Bool) (Hs Dw:BA) (Dv Du Dt Dr:Int) (Dq:Bool) (Dp Hr:BA) (Hq Hp Ho x54:Int) (x55:Bool) (x56:BA) (x57:C .bD) (x58:C .bU)
def s91_1:BF→St C:=fun x2=>{ env:=[(4,.one (.ptr 43065637084594432 0)),(5,.one (.ptr 43065637084594496 0)),(46,.one (.ref 100046 [])),(47,.one (.int .i64 x1)),(48,.one (.int .i64 x2)),(1000,.bz (false,[.row .bX x3]) 10027000),(1001,.bz (false,[.vo 5964288]) 10027001),(1004,.bz (false,[.ptr 42949680496896 0]) 10027004),(1005,.bz (false,[.ptr 42949680496960 0]) 10027005),(1006,.bz (false,[.int .i64 x4]) 10027006),(1020,.bz (false,[.vo 5964288]) 10027020),(1021,.bz (false,[.row .bX x5]) 10027021),(1022,.bz (false,[.int .i64 x6]) 10027022),(1023,.bz (false,[.eS .bX x7 0]) 10027023),(1024,.bz (true,[.str x8,.int .i64 x9,.int .i64 aK,.int .i64 aN,.int .i64 aP,.bool aX,.str bf]) 10027024),(1025,.bz (true,[.str aS,.int .i64 aO,.int .i64 aT,.int .i64 aW,.int .i64 bh,.bool bJ,.str bG]) 10027025),(2006,.bz (false,[.ptr 5964160 0]) 10006)],aj:=[(100046,.row .e3 x0 false),(43065637084594432,.box .mem [.str bL,.int .i64 bZ,.int .i64 da,.int .i64 cW,.int .i64 dE,.bool dI,.str dS]),(43065637084594496,.box .mem [.str gz,.int .i64 gi,.int .i64 gy,.int .i64 lW,.int .i64 mw,.bool qn,.str qm]),(5964288,.box (.gV 116 0 [(false,1),(false,1)]) [.ptr 5964032 0,.ptr 5963968 0]),(42949680496896,.box .mem [.str pQ,.int .i64 pP,.int .i64 pO,.int .i64 pN,.int .i64 zM,.bool zL,.str Hs]),(42949680496960,.box .mem [.str Dw,.int .i64 Dv,.int .i64 Du,.int .i64 Dt,.int .i64 Dr,.bool Dq,.str Dp]),(5964160,.box .mem [.str Hr,.int .i64 Hq,.int .i64 Hp,.int .i64 Ho,.int .i64 x54,.bool x55,.str x56]),(5964032,.box .mem [.eS .bD x57 0]),(5963968,.box .mem [.eS .bU x58 0])],base:=10027000 }
end
def zX (x0:cJ) (x1:Int) (x3:ay) (x4 bZ gi:Int) (Dw:BA) (Dv Du Dt Dr:Int) (Dq:Bool) (Dp:BA) (n:Nat)  (aM:qG→Option (ai)) (dg:BF→Option (ai)):BF→Option (ai):=fun x2=>
 cond (decide (x2<x1))
 (cond (decide (0≤x2)) (cond (decide (x2<(x0.length:Int))) (Option.bind x0[x2.toNat]? fun IC=>cond (IC != 0)
 (cond (decide (IC<0))
 (cond (decide (0≤x4)) (Option.bind x3[x4.toNat]? fun nu=>aM ((i64.wrap (x4+1),nu.aq,nu.Number,nu.Version,nu.ax,nu.State,nu.Ending,nu.bE))) none)
 (aM ((i64.wrap (x4+1),Dw,Dv,Du,Dt,Dr,Dq,Dp))))
 (dg (i64.wrap (x2+1)))) none) none)
 (cond (decide ((i64.wrap (gi-bZ))<0))
 (cond (decide (0≤x4)) (Option.bind x3[x4.toNat]? fun FJ=>aM ((i64.wrap (x4+1),FJ.aq,FJ.Number,FJ.Version,FJ.ax,FJ.State,FJ.Ending,FJ.bE))) none)
 (aM ((i64.wrap (x4+1),Dw,Dv,Du,Dt,Dr,Dq,Dp))))
section
variable (x0:ay) (x2:BA) (x3 x4 x5 x6:Int) (x7:Bool) (x8 aO:BA) (aT aW bh bJ:Int) (bG:Bool) (bL:BA) (bZ:C .bD) (da:C .bU)
def Oz:qG→St C:=fun (x1,x9,aK,aN,aP,aX,bf,aS)=>{ env:=[(0,.one (.row .bX x0)),(1,.one (.vo 5964288)),(4,.one (.ptr 42949680496896 0)),(5,.one (.ptr 42949680496960 0)),(6,.one (.int .i64 x1)),(1006,.bz (false,[.ptr 5964160 0]) 10006)],aj:=[(5964288,.box (.gV 116 0 [(false,1),(false,1)]) [.ptr 5964032 0,.ptr 5963968 0]),(42949680496896,.box .mem [.str x2,.int .i64 x3,.int .i64 x4,.int .i64 x5,.int .i64 x6,.bool x7,.str x8]),(42949680496960,.box .mem [.str x9,.int .i64 aK,.int .i64 aN,.int .i64 aP,.int .i64 aX,.bool bf,.str aS]),(5964160,.box .mem [.str aO,.int .i64 aT,.int .i64 aW,.int .i64 bh,.int .i64 bJ,.bool bG,.str bL]),(5964032,.box .mem [.eS .bD bZ 0]),(5963968,.box .mem [.eS .bU da 0])],base:=10000 }
end
def KT (x0:ay) (bZ:C .bD) (da:C .bU) (n:Nat)   (aM:qG→Option (ai)) (l1:(cJ)→(Int)→(Int)→(Int)→(C .bX)→(BA)→(Int)→(Int)→(Int)→(Int)→(Bool)→(BA)→(BA)→(Int)→(Int)→(Int)→(Int)→(Bool)→(BA)→(BA)→(Int)→(Int)→(Int)→(Int)→(Bool)→(BA)→(BA)→(Int)→(Int)→(Int)→(Int)→(Bool)→(BA)→(BA)→(Int)→(Int)→(Int)→(Int)→(Bool)→(BA)→BF→Option (ai)):qG→Option (ai):=fun (x1,x9,aK,aN,aP,aX,bf,aS)=>
 cond (decide (x1<(x0.length:Int)))
 (cond (decide (0≤x1)) (Option.bind x0[x1.toNat]? fun e2=>Option.bind (Vv (e2.State==3)) fun r3=>
 Option.bind (Vv (aX==3)) fun r4=>
 Option.bind (Vv (e2.ax==bZ.ax)) fun r5=>
 Option.bind (Vv (aP==bZ.ax)) fun r6=>
 Option.bind (G85 da e2) fun r7=>
 Option.bind (Vv (!r7)) fun r8=>
 Option.bind (G85 da (⟨x9,aK,aN,aP,aX,bf,aS⟩:ai)) fun r9=>
 Option.bind (Vv (!r9)) fun ib=>
 l1 (([i64.wrap (r3-r4),i64.wrap (r5-r6),i64.wrap (r8-ib)]:cJ)) (((([i64.wrap (r3-r4),i64.wrap (r5-r6),i64.wrap (r8-ib)]:cJ)).length:Int)) x1 x1 e2 e2.aq e2.Number e2.Version e2.ax e2.State e2.Ending e2.bE x9 aK aN aP aX bf aS e2.aq e2.Number e2.Version e2.ax e2.State e2.Ending e2.bE x9 aK aN aP aX bf aS x9 aK aN aP aX bf aS 0) none)
 (some ((⟨x9,aK,aN,aP,aX,bf,aS⟩:ai)))
def uJ (x0:ay) (bZ:C .bD) (da:C .bU) (n:Nat)   (aM:qG→Option (ai)):qG→Option (ai):=KT x0 bZ da n  aM (fun y0 y1 y3 y5 y6 y7 y8 y9 wy G4 Nj y13 y14 Hm TF Ja G3 I9 zK G2 zi LA y24 y25 GZ y27 Ni TE V5 y31 y32 TD y34 y42 y43 y44 y45 y46 y47 y48 z=>bS (zX y0 y1 x0 y3 zi TE y42 y43 y44 y45 y46 y47 y48 n aM) n z)
section
variable (x0:cJ) (x1:Int) (x3:ay) (x4:Int) (x5:ay) (x6:Int) (x7:C .bX) (x8:BA) (x9 aK aN aP:Int) (aX:Bool) (bf aS:BA) (aO aT aW bh:Int) (bJ:Bool) (bG bL:BA) (bZ da cW dE:Int) (dI:Bool) (dS gz:BA) (gi gy lW mw:Int) (qn:Bool) (qm pQ:BA) (pP pO pN zM:Int) (zL:Bool) (Hs Dw:BA) (Dv Du Dt Dr:Int) (Dq:Bool) (Dp Hr:BA) (Hq Hp Ho x54:Int) (x55:Bool) (x56:BA) (x57:C .bD) (x58:C .bU)
def RE (n:Nat) (aM:St C→Option (ai)) (x:BF):Option (ai):=iter (fun rec S=>run Rq (VY n) (aw (av Try.f116) [1,0,1,0,0]) 0 S (cH rec (bW 0 (bA (run Rq (VY n) (aw (av Try.f116) [1,1]) 0) (fu Rq Try.f116 (dB 10026000 10000 (some 26) (mq (zD n) (aw (av Try.f115) [1,1,1,0,1,0,0,1,0,0,0]) 4092 [7] (fq (Gn n) (bA (run (zD n) (Gn n) (aw (av Try.f115) [1,1,1,0,1,0,0,1,0,0,1]) 1) (bW 1 (bA (run (zD n) (Gn n) (aw (av Try.f115) [1,1,1,0,1,0,0,1,1]) 0) (cH (fR [0,1,4,5,6] aM) (bW 0 (bA (run (zD n) (Gn n) (aw (av Try.f115) [1,1,1,1]) 0) (fu (zD n) Try.f115 (dB 9000 0 (some 9) (eJ (Ya n) (aw (av Try.f91) [1,0]) 3 (fq (F91 n) (bA (run (Ya n) (F91 n) (aw (av Try.f91) [1,1]) 0) (dM (Ya n) Try.f91 Qz)))))))))))))))))))) [4,5,46,47,48] n (s91_1 x0 x1 x3 x4 x5 x6 x7 x8 x9 aK aN aP aX bf aS aO aT aW bh bJ bG bL bZ da cW dE dI dS gz gi gy lW mw qn qm pQ pP pO pN zM zL Hs Dw Dv Du Dt Dr Dq Dp Hr Hq Hp Ho x54 x55 x56 x57 x58 x)
theorem m91_1 (n:Nat) (aM:St C→Option (ai)) (x:BF):RE x0 x1 x3 x4 x5 x6 x7 x8 x9 aK aN aP aX bf aS aO aT aW bh bJ bG bL bZ da cW dE dI dS gz gi gy lW mw qn qm pQ pP pO pN zM zL Hs Dw Dv Du Dt Dr Dq Dp Hr Hq Hp Ho x54 x55 x56 x57 x58 n aM x=bS (zX x0 x1 x3 x4 bZ gi Dw Dv Du Dt Dr Dq Dp n  (fun x=>aM (Oz x3 pQ pP pO pN zM zL Hs Hr Hq Hp Ho x54 x55 x56 x57 x58 x))) n x:=by
 refine iter_eq _ _ (fun dg x2=>?_) n x
 kernel_rfl
end
section
variable (x0:ay) (x2:BA) (x3 x4 x5 x6:Int) (x7:Bool) (x8 aO:BA) (aT aW bh bJ:Int) (bG:Bool) (bL:BA) (bZ:C .bD) (da:C .bU)
def RF (n:Nat)  (x:qG):Option (ai):=iter (fun rec S=>run (zD n) (Gn n) (aw (av Try.f115) [1,1,1,0,1,0,0]) 0 S (cH rec (bW 0 (bA (run (zD n) (Gn n) (aw (av Try.f115) [1,1,1,1]) 0) (fu (zD n) Try.f115 (dB 9000 0 (some 9) (eJ (Ya n) (aw (av Try.f91) [1,0]) 3 (fq (F91 n) (bA (run (Ya n) (F91 n) (aw (av Try.f91) [1,1]) 0) (dM (Ya n) Try.f91 Qz)))))))))) [0,1,4,5,6] n (Oz x0 x2 x3 x4 x5 x6 x7 x8 aO aT aW bh bJ bG bL bZ da x)
theorem m91_0 (n:Nat)  (x:qG):RF x0 x2 x3 x4 x5 x6 x7 x8 aO aT aW bh bJ bG bL bZ da n  x=bS (uJ x0 bZ da n  ) n x:=by
 refine iter_eq _ _ (fun aM x=>?_) n x;obtain ⟨x1,x9,aK,aN,aP,aX,bf,aS⟩:=x;refine Eq.trans (b:=KT x0 bZ da n   (fun x=>aM (Oz x0 x2 x3 x4 x5 x6 x7 x8 aO aT aW bh bJ bG bL bZ da x)) (fun y0 y1 y3 y5 y6 y7 y8 y9 wy G4 Nj y13 y14 Hm TF Ja G3 I9 zK G2 zi LA y24 y25 GZ y27 Ni TE V5 y31 y32 TD y34 y42 y43 y44 y45 y46 y47 y48 z=>RE y0 y1 x0 y3 x0 y5 y6 y7 y8 y9 wy G4 Nj y13 y14 Hm TF Ja G3 I9 zK G2 zi LA y24 y25 GZ y27 Ni TE V5 y31 y32 TD y34 x2 x3 x4 x5 x6 x7 x8 y42 y43 y44 y45 y46 y47 y48 aO aT aW bh bJ bG bL bZ da n  aM z) (x1,x9,aK,aN,aP,aX,bf,aS)) (by kernel_rfl) ?_;simp only [uJ,m91_1]
end
def Vt (n:Nat) (a0:C .bU) (a1:C .bD) (a2:ay):Option (ai):=
 cond (decide ((a2.length:Int)<1))
 (none)
 (cond (decide (0≤0)) (Option.bind a2[(0:Int).toNat]? fun e1=>bS (uJ a2 a1 a0 n ) n (1,e1.aq,e1.Number,e1.Version,e1.ax,e1.State,e1.Ending,e1.bE)) none)
theorem t91 (n:Nat) (a0:C .bU) (a1:C .bD) (a2:ay):db (Ya n) (F91 n) Try.f91 [.one (.eS .bU a0 0),.one (.eS .bD a1 0),.one (.row .bX a2)] Qz=Vt n a0 a1 a2:=by
 refine Eq.trans (b:=
  cond (decide ((a2.length:Int)<1))
  (none)
  (cond (decide (0≤0)) (Option.bind a2[(0:Int).toNat]? fun e1=>RF a2 (⟨#[]⟩:BA) 0 0 0 0 false (⟨#[]⟩:BA) (⟨#[]⟩:BA) 0 0 0 0 false (⟨#[]⟩:BA) a1 a0 n   (1,e1.aq,e1.Number,e1.Version,e1.ax,e1.State,e1.Ending,e1.bE)) none)) (by kernel_rfl) ?_
 simp only [Vt,m91_0]
def M6 (a0:C .bU) (a1:C .bD) (a2:ay):Option (ai):=Vt fuel a0 a1 a2
def QL:iu C:=kD KK [.ptr .bU,.ptr .bD,.row .bX] [.el .bX] M6
theorem c91:cL Try.prog KK 91 QL:=cP (fV trivial trivial ⟨i115 _,i116 _,trivial⟩:Cons Try.prog (Ya fuel)) (fn:=Try.f91) (F91 fuel) (fun a0 a1 a2=>t91 fuel a0 a1 a2)
def Tf (n:Nat):Cf:={ N:=n,keep:=[0,1,2,3,4],live:=lk [] }
def uY (os:cm C) (ls:List (Lf C)) (rs:List (Bool×List (Lf C))):Option (C .bU×C .bD×Bool):=match os,ls,rs with
 | [(3014848,.box .mem [.eS .bU z0 0]),(3014976,.box .mem [.eS .bD z1 0]),(77777777,.ghost)],[.ptr 3014848 0,.ptr 3014976 0],[(false,[.bool wm])]=>some (z0,z1,wm)
 | _,_,_=>none
abbrev GA:Type:=Int
abbrev Gz:Type:=Int
abbrev Gy:Type:=Int
abbrev Gx:Type:=Int
section
variable (x0:C .bU) (x1:BA) (x2 x3:Int) (x5:Bool) (x6:C .bU) (x7:C .bD) (x8:C .bU) (x9:BA) (aK:Int) (aN:C .bU) (aP:C .bD) (aX:BA) (bf aS aO aT:Int) (aW:Bool) (bh:BA)
def s87_0:GA→St C:=fun x4=>{ env:=[(0,.one (.eS .bU x0 0)),(1,.one (.str x1)),(2,.one (.int .i64 x2)),(12,.one (.int .i64 x3)),(13,.one (.int .i64 x4)),(1001,.bz (false,[.ptr 3014848 0]) 13001),(1002,.bz (false,[.ptr 3014976 0]) 13002),(1003,.bz (false,[.ptr 5701824 0]) 13003),(1004,.bz (false,[.bool x5]) 13004),(1005,.bz (false,[.eS .bU x6 0]) 13005),(1006,.bz (false,[.eS .bD x7 0]) 13006),(1007,.bz (false,[.eS .bU x8 0]) 13007),(1008,.bz (false,[.ptr 5701824 0]) 13008),(1009,.bz (false,[.str x9]) 13009),(1010,.bz (false,[.ptr 5701824 1]) 13010),(1011,.bz (false,[.int .i64 aK]) 13011),(91000,.frame),(91001,.bz (true,[.ptr 3014848 0,.ptr 3014976 0]) 0)],aj:=[(3014848,.box .mem [.eS .bU aN 0]),(3014976,.box .mem [.eS .bD aP 0]),(5701824,.box .mem [.str aX,.int .i64 bf,.int .i64 aS,.int .i64 aO,.int .i64 aT,.bool aW,.str bh]),(77777777,.ghost)],base:=13000 }
end
def Ej (x0:C .bU) (x1:BA) (x2 x3:Int) (x6:C .bU) (x7:C .bD) (aN:C .bU) (aP:C .bD) (n:Nat) (rc:(BA)→(Int)→(Int)→(Int)→(Int)→(Bool)→(BA)→(C .bU)→(C .bD)→Option (C .bU×C .bD×Bool))  (aM:GA→Option (C .bU×C .bD×Bool)):GA→Option (C .bU×C .bD×Bool):=fun x4=>
 cond (decide (x4<x3))
 (cond (decide (0≤x4)) (Option.bind x0.ah[x4.toNat]? fun e1=>cond (decide (e1.aq=x1))
 (cond (decide (0≤x4)) (Option.bind x0.ah[x4.toNat]? fun e2=>cond (e2.Number==x2)
 (cond (decide (0≤x4)) (Option.bind x0.ah[x4.toNat]? fun e3=>cond e3.Ending
 (some (aN,aP,false))
 (cond (e3.State != 3)
 (some (aN,aP,true))
 (cond x7.bq
 (some (aN,aP,true))
 (Option.bind (NC x6 x7) fun r4=>
 some (aN,aP,decide ((i64.wrap (r4.qE-1))≥(i64.wrap (x7.Want-x7.Down)))))))) none)
 (aM (i64.wrap (x4+1)))) none)
 (aM (i64.wrap (x4+1)))) none)
 (some (aN,aP,false))
section
variable (x0:C .bU) (x1:BA) (x2 x3:Int) (x5:Bool) (x6 x7:C .bU) (x8:BA) (x9:Int) (aK:C .bU) (aN:C .bD) (aP:BA) (aX bf aS aO:Int) (aT:Bool) (aW:BA)
def s87_1:Gz→St C:=fun x4=>{ env:=[(0,.one (.eS .bU x0 0)),(1,.one (.str x1)),(2,.one (.int .i64 x2)),(12,.one (.int .i64 x3)),(13,.one (.int .i64 x4)),(1001,.bz (false,[.ptr 3014848 0]) 13001),(1002,.bz (false,[.ptr 3014976 0]) 13002),(1003,.bz (false,[.ptr 5701824 0]) 13003),(1004,.bz (false,[.bool x5]) 13004),(1005,.bz (false,[.eS .bU x6 0]) 13005),(1007,.bz (false,[.eS .bU x7 0]) 13007),(1008,.bz (false,[.ptr 5701824 0]) 13008),(1009,.bz (false,[.str x8]) 13009),(1010,.bz (false,[.ptr 5701824 1]) 13010),(1011,.bz (false,[.int .i64 x9]) 13011),(91000,.frame),(91001,.bz (true,[.ptr 3014848 0,.ptr 3014976 0]) 0)],aj:=[(3014848,.box .mem [.eS .bU aK 0]),(3014976,.box .mem [.eS .bD aN 0]),(5701824,.box .mem [.str aP,.int .i64 aX,.int .i64 bf,.int .i64 aS,.int .i64 aO,.bool aT,.str aW]),(77777777,.ghost)],base:=13000 }
end
def Ei (x0:C .bU) (x1:BA) (x2 x3:Int) (x6 aK:C .bU) (aN:C .bD) (n:Nat) (rc:(BA)→(Int)→(Int)→(Int)→(Int)→(Bool)→(BA)→(C .bU)→(C .bD)→Option (C .bU×C .bD×Bool))  (dg:Gz→Option (C .bU×C .bD×Bool)):Gz→Option (C .bU×C .bD×Bool):=fun x4=>
 cond (decide (x4<x3))
 (cond (decide (0≤x4)) (Option.bind x0.ah[x4.toNat]? fun e5=>cond (decide (e5.aq=x1))
 (cond (decide (0≤x4)) (Option.bind x0.ah[x4.toNat]? fun e6=>cond (e6.Number==x2)
 (cond (decide (0≤x4)) (Option.bind x0.ah[x4.toNat]? fun e7=>cond e7.Ending
 (some (aK,aN,false))
 (cond (e7.State != 3)
 (some (aK,aN,true))
 (cond aN.bq
 (some (aK,aN,true))
 (Option.bind (NC x6 aN) fun r8=>
 some (aK,aN,decide ((i64.wrap (r8.qE-1))≥(i64.wrap (aN.Want-aN.Down)))))))) none)
 (dg (i64.wrap (x4+1)))) none)
 (dg (i64.wrap (x4+1)))) none)
 (some (aK,aN,false))
section
variable (x0:C .bU) (x1:BA) (x2 x3:Int) (x5:Bool) (x6:C .bD) (x7:C .bU) (x8:BA) (x9:Int) (aK:C .bU) (aN:C .bD) (aP:BA) (aX bf aS aO:Int) (aT:Bool) (aW:BA)
def s87_2:Gy→St C:=fun x4=>{ env:=[(0,.one (.eS .bU x0 0)),(1,.one (.str x1)),(2,.one (.int .i64 x2)),(12,.one (.int .i64 x3)),(13,.one (.int .i64 x4)),(1001,.bz (false,[.ptr 3014848 0]) 13001),(1002,.bz (false,[.ptr 3014976 0]) 13002),(1003,.bz (false,[.ptr 5701824 0]) 13003),(1004,.bz (false,[.bool x5]) 13004),(1006,.bz (false,[.eS .bD x6 0]) 13006),(1007,.bz (false,[.eS .bU x7 0]) 13007),(1008,.bz (false,[.ptr 5701824 0]) 13008),(1009,.bz (false,[.str x8]) 13009),(1010,.bz (false,[.ptr 5701824 1]) 13010),(1011,.bz (false,[.int .i64 x9]) 13011),(91000,.frame),(91001,.bz (true,[.ptr 3014848 0,.ptr 3014976 0]) 0)],aj:=[(3014848,.box .mem [.eS .bU aK 0]),(3014976,.box .mem [.eS .bD aN 0]),(5701824,.box .mem [.str aP,.int .i64 aX,.int .i64 bf,.int .i64 aS,.int .i64 aO,.bool aT,.str aW]),(77777777,.ghost)],base:=13000 }
end
def Eh (x0:C .bU) (x1:BA) (x2 x3:Int) (x6:C .bD) (aK:C .bU) (aN:C .bD) (n:Nat) (rc:(BA)→(Int)→(Int)→(Int)→(Int)→(Bool)→(BA)→(C .bU)→(C .bD)→Option (C .bU×C .bD×Bool))  (dD:Gy→Option (C .bU×C .bD×Bool)):Gy→Option (C .bU×C .bD×Bool):=fun x4=>
 cond (decide (x4<x3))
 (cond (decide (0≤x4)) (Option.bind x0.ah[x4.toNat]? fun e9=>cond (decide (e9.aq=x1))
 (cond (decide (0≤x4)) (Option.bind x0.ah[x4.toNat]? fun DC=>cond (DC.Number==x2)
 (cond (decide (0≤x4)) (Option.bind x0.ah[x4.toNat]? fun IC=>cond IC.Ending
 (some (aK,aN,false))
 (cond (IC.State != 3)
 (some (aK,aN,true))
 (cond x6.bq
 (some (aK,aN,true))
 (Option.bind (NC aK x6) fun s6=>
 some (aK,aN,decide ((i64.wrap (s6.qE-1))≥(i64.wrap (x6.Want-x6.Down)))))))) none)
 (dD (i64.wrap (x4+1)))) none)
 (dD (i64.wrap (x4+1)))) none)
 (some (aK,aN,false))
section
variable (x0:C .bU) (x1:BA) (x2 x3:Int) (x5:Bool) (x6:C .bU) (x7:BA) (x8:Int) (x9:C .bU) (aK:C .bD) (aN:BA) (aP aX bf aS:Int) (aO:Bool) (aT:BA)
def s87_3:Gx→St C:=fun x4=>{ env:=[(0,.one (.eS .bU x0 0)),(1,.one (.str x1)),(2,.one (.int .i64 x2)),(12,.one (.int .i64 x3)),(13,.one (.int .i64 x4)),(1001,.bz (false,[.ptr 3014848 0]) 13001),(1002,.bz (false,[.ptr 3014976 0]) 13002),(1003,.bz (false,[.ptr 5701824 0]) 13003),(1004,.bz (false,[.bool x5]) 13004),(1007,.bz (false,[.eS .bU x6 0]) 13007),(1008,.bz (false,[.ptr 5701824 0]) 13008),(1009,.bz (false,[.str x7]) 13009),(1010,.bz (false,[.ptr 5701824 1]) 13010),(1011,.bz (false,[.int .i64 x8]) 13011),(91000,.frame),(91001,.bz (true,[.ptr 3014848 0,.ptr 3014976 0]) 0)],aj:=[(3014848,.box .mem [.eS .bU x9 0]),(3014976,.box .mem [.eS .bD aK 0]),(5701824,.box .mem [.str aN,.int .i64 aP,.int .i64 aX,.int .i64 bf,.int .i64 aS,.bool aO,.str aT]),(77777777,.ghost)],base:=13000 }
end
def Eg (x0:C .bU) (x1:BA) (x2 x3:Int) (x9:C .bU) (aK:C .bD) (n:Nat) (rc:(BA)→(Int)→(Int)→(Int)→(Int)→(Bool)→(BA)→(C .bU)→(C .bD)→Option (C .bU×C .bD×Bool))  (dz:Gx→Option (C .bU×C .bD×Bool)):Gx→Option (C .bU×C .bD×Bool):=fun x4=>
 cond (decide (x4<x3))
 (cond (decide (0≤x4)) (Option.bind x0.ah[x4.toNat]? fun FJ=>cond (decide (FJ.aq=x1))
 (cond (decide (0≤x4)) (Option.bind x0.ah[x4.toNat]? fun e14=>cond (e14.Number==x2)
 (cond (decide (0≤x4)) (Option.bind x0.ah[x4.toNat]? fun qd=>cond qd.Ending
 (some (x9,aK,false))
 (cond (qd.State != 3)
 (some (x9,aK,true))
 (cond aK.bq
 (some (x9,aK,true))
 (Option.bind (NC x9 aK) fun r16=>
 some (x9,aK,decide ((i64.wrap (r16.qE-1))≥(i64.wrap (aK.Want-aK.Down)))))))) none)
 (dz (i64.wrap (x4+1)))) none)
 (dz (i64.wrap (x4+1)))) none)
 (some (x9,aK,false))
def B87 (n:Nat) (rc:(BA)→(Int)→(Int)→(Int)→(Int)→(Bool)→(BA)→(C .bU)→(C .bD)→Option (C .bU×C .bD×Bool)) (a0:BA) (a1 a2 a3 a4:Int) (a5:Bool) (a6:BA) (a7:C .bU) (a8:C .bD):Option (C .bU×C .bD×Bool):=
 alt (bS (Ej a7 a0 a1 (a7.ah.length:Int) a7 a8 a7 a8 n rc ) n 0)
 (alt (bS (Ei a7 a0 a1 (a7.ah.length:Int) a7 a7 a8 n rc ) n 0)
 (alt (bS (Eh a7 a0 a1 (a7.ah.length:Int) a8 a7 a8 n rc ) n 0)
 (bS (Eg a7 a0 a1 (a7.ah.length:Int) a7 a8 n rc ) n 0)))
def mK (n:Nat):Nat→(BA)→(Int)→(Int)→(Int)→(Int)→(Bool)→(BA)→(C .bU)→(C .bD)→Option (C .bU×C .bD×Bool)
 | 0=>fun _ _ _ _ _ _ _ _ _=>none
 | d+1=>B87 n (mK n d)
def DO (n d:Nat):iR C:={ ids:=[3014848,3014976],roots:=[.ptr 3014848 0,.ptr 3014976 0],eU:=[],R0:=C .bU×C .bD×Bool,out:=fun r=>[(3014848,.box .mem [.eS .bU r.1 0]),(3014976,.box .mem [.eS .bD r.2.1 0])],ret:=fun r=>[(false,[.bool r.2.2])],g:=fun vs O=>match vs,O with
 | [.agg [.str y0,.int .i64 y1,.int .i64 y2,.int .i64 y3,.int .i64 y4,.bool y5,.str y6],.one (.ptr 3014848 0),.one (.ptr 3014976 0)],[(3014848,.box .mem [.eS .bU y7 0]),(3014976,.box .mem [.eS .bD y8 0])]=>mK n d y0 y1 y2 y3 y4 y5 y6 y7 y8
 | _,_=>none }
def Hd (n d:Nat):Cx C:=eP [] [] [(87,de (DO n d)),(56,I56 n),(76,I76 n)] [1,2,3,4,5,6,7,8,9,10,11,12,13] 5701632 []
section
variable (x0:C .bU) (x1:BA) (x2 x3:Int) (x5:Bool) (x6:C .bU) (x7:C .bD) (x8:C .bU) (x9:BA) (aK:Int) (aN:C .bU) (aP:C .bD) (aX:BA) (bf aS aO aT:Int) (aW:Bool) (bh:BA)
def RJ (n d:Nat)  (x:GA):Option (C .bU×C .bD×Bool):=iter (fun rec S=>run sV (BD n) (aw (av Try.f56) [1,0,1,0,0]) 0 S (cH rec (bW 0 (bA (run sV (BD n) (aw (av Try.f56) [1,1]) 0) (fu sV Try.f56 (dB 12000 0 (some 12) (mq (Hd n d) (aw (av Try.f87) [1,0]) 4088 [8,9] (fq (Tf n) (bA (run (Hd n d) (Tf n) (aw (av Try.f87) [1,1]) 0) (j8 (Hd n d) Try.f87 uY)))))))))) [0,1,2,12,13] n (s87_0 x0 x1 x2 x3 x5 x6 x7 x8 x9 aK aN aP aX bf aS aO aT aW bh x)
theorem m87_0 (n d:Nat)  (x:GA):RJ x0 x1 x2 x3 x5 x6 x7 x8 x9 aK aN aP aX bf aS aO aT aW bh n d  x=bS (Ej x0 x1 x2 x3 x6 x7 aN aP n (mK n d) ) n x:=by
 refine iter_eq _ _ (fun aM x4=>?_) n x
 kernel_rfl
end
section
variable (x0:C .bU) (x1:BA) (x2 x3:Int) (x5:Bool) (x6 x7:C .bU) (x8:BA) (x9:Int) (aK:C .bU) (aN:C .bD) (aP:BA) (aX bf aS aO:Int) (aT:Bool) (aW:BA)
def RI (n d:Nat)  (x:Gz):Option (C .bU×C .bD×Bool):=iter (fun rec S=>run sV (BD n) (aw (av Try.f56) [1,0,1,0,0]) 0 S (cH rec (bW 0 (bA (run sV (BD n) (aw (av Try.f56) [1,1]) 0) (fu sV Try.f56 (dB 12000 0 (some 12) (mq (Hd n d) (aw (av Try.f87) [1,0]) 4088 [1,8,9] (fq (Tf n) (bA (run (Hd n d) (Tf n) (aw (av Try.f87) [1,1]) 0) (j8 (Hd n d) Try.f87 uY)))))))))) [0,1,2,12,13] n (s87_1 x0 x1 x2 x3 x5 x6 x7 x8 x9 aK aN aP aX bf aS aO aT aW x)
theorem m87_1 (n d:Nat)  (x:Gz):RI x0 x1 x2 x3 x5 x6 x7 x8 x9 aK aN aP aX bf aS aO aT aW n d  x=bS (Ei x0 x1 x2 x3 x6 aK aN n (mK n d) ) n x:=by
 refine iter_eq _ _ (fun dg x4=>?_) n x
 kernel_rfl
end
section
variable (x0:C .bU) (x1:BA) (x2 x3:Int) (x5:Bool) (x6:C .bD) (x7:C .bU) (x8:BA) (x9:Int) (aK:C .bU) (aN:C .bD) (aP:BA) (aX bf aS aO:Int) (aT:Bool) (aW:BA)
def RH (n d:Nat)  (x:Gy):Option (C .bU×C .bD×Bool):=iter (fun rec S=>run sV (BD n) (aw (av Try.f56) [1,0,1,0,0]) 0 S (cH rec (bW 0 (bA (run sV (BD n) (aw (av Try.f56) [1,1]) 0) (fu sV Try.f56 (dB 12000 0 (some 12) (mq (Hd n d) (aw (av Try.f87) [1,0]) 4088 [0,8,9] (fq (Tf n) (bA (run (Hd n d) (Tf n) (aw (av Try.f87) [1,1]) 0) (j8 (Hd n d) Try.f87 uY)))))))))) [0,1,2,12,13] n (s87_2 x0 x1 x2 x3 x5 x6 x7 x8 x9 aK aN aP aX bf aS aO aT aW x)
theorem m87_2 (n d:Nat)  (x:Gy):RH x0 x1 x2 x3 x5 x6 x7 x8 x9 aK aN aP aX bf aS aO aT aW n d  x=bS (Eh x0 x1 x2 x3 x6 aK aN n (mK n d) ) n x:=by
 refine iter_eq _ _ (fun dD x4=>?_) n x
 kernel_rfl
end
section
variable (x0:C .bU) (x1:BA) (x2 x3:Int) (x5:Bool) (x6:C .bU) (x7:BA) (x8:Int) (x9:C .bU) (aK:C .bD) (aN:BA) (aP aX bf aS:Int) (aO:Bool) (aT:BA)
def RG (n d:Nat)  (x:Gx):Option (C .bU×C .bD×Bool):=iter (fun rec S=>run sV (BD n) (aw (av Try.f56) [1,0,1,0,0]) 0 S (cH rec (bW 0 (bA (run sV (BD n) (aw (av Try.f56) [1,1]) 0) (fu sV Try.f56 (dB 12000 0 (some 12) (mq (Hd n d) (aw (av Try.f87) [1,0]) 4088 [0,1,8,9] (fq (Tf n) (bA (run (Hd n d) (Tf n) (aw (av Try.f87) [1,1]) 0) (j8 (Hd n d) Try.f87 uY)))))))))) [0,1,2,12,13] n (s87_3 x0 x1 x2 x3 x5 x6 x7 x8 x9 aK aN aP aX bf aS aO aT x)
theorem m87_3 (n d:Nat)  (x:Gx):RG x0 x1 x2 x3 x5 x6 x7 x8 x9 aK aN aP aX bf aS aO aT n d  x=bS (Eg x0 x1 x2 x3 x9 aK n (mK n d) ) n x:=by
 refine iter_eq _ _ (fun dz x4=>?_) n x
 kernel_rfl
end
theorem t87 (n d:Nat) (a0:BA) (a1 a2 a3 a4:Int) (a5:Bool) (a6:BA) (a7:C .bU) (a8:C .bD):gF (Hd n d) (Tf n) Try.f87 (DO n (d+1)) [.agg [.str a0,.int .i64 a1,.int .i64 a2,.int .i64 a3,.int .i64 a4,.bool a5,.str a6],.one (.ptr 3014848 0),.one (.ptr 3014976 0)] [(3014848,.box .mem [.eS .bU a7 0]),(3014976,.box .mem [.eS .bD a8 0])] uY=B87 n (mK n d) a0 a1 a2 a3 a4 a5 a6 a7 a8:=by
 have h:gF (Hd n d) (Tf n) Try.f87 (DO n (d+1)) [.agg [.str a0,.int .i64 a1,.int .i64 a2,.int .i64 a3,.int .i64 a4,.bool a5,.str a6],.one (.ptr 3014848 0),.one (.ptr 3014976 0)] [(3014848,.box .mem [.eS .bU a7 0]),(3014976,.box .mem [.eS .bD a8 0])] uY =
  alt (RJ a7 a0 a1 (a7.ah.length:Int) false a7 a8 a7 a0 a1 a7 a8 a0 a1 a2 a3 a4 a5 a6 n d  0)
  (alt (RI a7 a0 a1 (a7.ah.length:Int) false a7 a7 a0 a1 a7 a8 a0 a1 a2 a3 a4 a5 a6 n d  0)
  (alt (RH a7 a0 a1 (a7.ah.length:Int) false a8 a7 a0 a1 a7 a8 a0 a1 a2 a3 a4 a5 a6 n d  0)
  (RG a7 a0 a1 (a7.ah.length:Int) false a7 a0 a1 a7 a8 a0 a1 a2 a3 a4 a5 a6 n d  0))):=by kernel_rfl
 simp only [h,B87,m87_0,m87_1,m87_2,m87_3]
def I87 (n:Nat):lz C:=de (DO n n)
theorem i87d (n:Nat):∀ d:Nat,cG Try.prog KK 87 (de (DO n d))
 | 0=>gX (fn:=Try.f87) (by kernel_rfl) (by kernel_rfl) (iD (by kernel_rfl)) _ (fun vs O=>by simp only [DO];split<;>rfl)
 | d+1=>by
  have ih:=i87d n d;have x:jk Try.prog (Hd n d):=jw;have q:Cons Try.prog (Hd n d):=fV trivial trivial ⟨ih,i56 n,i76 n,trivial⟩;refine lB x q (by kernel_rfl) (f:=87) (fn:=Try.f87) (c:=av Try.f87) (by kernel_rfl) (by kernel_rfl) (by kernel_rfl) (iD (by kernel_rfl)) (DO n (d+1)) (Nat.le_of_ble_eq_true (by kernel_rfl)) uY (fun os ls rs r0 h=>?_) (fun vs O r0 hk h=>?_)
  ·unfold uY at h
   split at h
   ·cases h;exact ⟨rfl,rfl,rfl⟩
   ·cases h
  ·simp only [DO] at h
   split at h
   ·rename_i y0 y1 y2 y3 y4 y5 y6 y7 y8
    exact ⟨lQ,Nat.le_of_ble_eq_true (by kernel_rfl),Tf n,(t87 n d y0 y1 y2 y3 y4 y5 y6 y7 y8).trans h⟩
   ·cases h
theorem i87 (n:Nat):cG Try.prog KK 87 (I87 n):=i87d n n
def X94:Cx C:=eP [] [] [] [] 6160384 []
def F94 (n:Nat):Cf:={ N:=n,keep:=[0,1,2],live:=lk [] }
def I94 (n:Nat):lz C:=gg X94 (F94 n) Try.f94
theorem i94 (n:Nat):cG Try.prog KK 94 (I94 n):=iP (fV trivial trivial trivial:Cons Try.prog X94) (F94 n) (fn:=Try.f94)
def X93 (n:Nat):Cx C:=eP [] [] [(87,I87 n)] [1,2,3,4,5,6,7,8,9,10,11,12,13,14,15,16] 6094848 [15]
def F93 (n:Nat):Cf:={ N:=n,keep:=[0,1,2,3,4],live:=lk [] }
def I93 (n:Nat):lz C:=gg (X93 n) (F93 n) Try.f93
theorem i93 (n:Nat):cG Try.prog KK 93 (I93 n):=iP (fV trivial trivial ⟨i87 _,trivial⟩:Cons Try.prog (X93 n)) (F93 n) (fn:=Try.f93)
def X96 (n:Nat):Cx C:=eP [(85,KD)] [] [(87,I87 n)] [4,8,11,12] 6291456 []
def F96 (n:Nat):Cf:={ N:=n,keep:=[0,1,2,3,4],live:=lk [] }
def I96 (n:Nat):lz C:=gg (X96 n) (F96 n) Try.f96
theorem i96 (n:Nat):cG Try.prog KK 96 (I96 n):=iP (fV ⟨c85,trivial⟩ trivial ⟨i87 _,trivial⟩:Cons Try.prog (X96 n)) (F96 n) (fn:=Try.f96)
def KS (n:Nat):Cx C:=eP [] [] [(93,I93 n),(94,I94 n),(96,I96 n)] [0,4,6,7,8,9,15] 5636096 []
def TA (n:Nat):Cf:={ N:=n,keep:=[0,1,3,4,6,7,8,9,10,15],live:=lk [(0,[0,4,7,8,9])] }
def I86 (n:Nat):lz C:=gg (KS n) (TA n) Try.f86
theorem i86 (n:Nat):cG Try.prog KK 86 (I86 n):=iP (fV trivial trivial ⟨i93 _,i94 _,i96 _,trivial⟩:Cons Try.prog (KS n)) (TA n) (fn:=Try.f86)
def Bz:Cx C:=eP [] [] [] [] 5767168 []
def Lx (n:Nat):Cf:={ N:=n,keep:=[0,1,3,4,6,7,8,9,10],live:=lk [(0,[0,1,3,7,8,9])] }
def I88 (n:Nat):lz C:=gg Bz (Lx n) Try.f88
theorem i88 (n:Nat):cG Try.prog KK 88 (I88 n):=iP (fV trivial trivial trivial:Cons Try.prog Bz) (Lx n) (fn:=Try.f88)
def X89:Cx C:=eP [] [] [] [] 5832704 []
def F89 (n:Nat):Cf:={ N:=n,keep:=[0,1,3,4],live:=lk [] }
def I89 (n:Nat):lz C:=gg X89 (F89 n) Try.f89
theorem i89 (n:Nat):cG Try.prog KK 89 (I89 n):=iP (fV trivial trivial trivial:Cons Try.prog X89) (F89 n) (fn:=Try.f89)
def Yb (n:Nat):Cx C:=eP [(91,QL)] [] [(88,I88 n)] [0,2,3,4,6,7,12,13,14,15,16,17,18,19,20] 5898240 [18]
def F90 (n:Nat):Cf:={ N:=n,keep:=[0,1,2,3,4,6,7,10],live:=lk [] }
def I90 (n:Nat):lz C:=gg (Yb n) (F90 n) Try.f90
theorem i90 (n:Nat):cG Try.prog KK 90 (I90 n):=iP (fV ⟨c91,trivial⟩ trivial ⟨i88 _,trivial⟩:Cons Try.prog (Yb n)) (F90 n) (fn:=Try.f90)
def X92:Cx C:=eP [] [] [] [] 6029312 []
def F92 (n:Nat):Cf:={ N:=n,keep:=[0,1,2,5,6],live:=lk [] }
def I92 (n:Nat):lz C:=gg X92 (F92 n) Try.f92
theorem i92 (n:Nat):cG Try.prog KK 92 (I92 n):=iP (fV trivial trivial trivial:Cons Try.prog X92) (F92 n) (fn:=Try.f92)
def X95:Cx C:=eP [] [] [] [] 6225920 []
def F95 (n:Nat):Cf:={ N:=n,keep:=[0,2],live:=lk [] }
abbrev dec95:=iX KK [.int .i64]
def G95n (n:Nat) (a0:C .bD):Option (Int):=
 cond (decide (a0.bY=0)) none (some (cond (decide (a0.aU<(cond (decide (a0.aD>(i64.wrap ((i64.wrap ((i64.wrap (a0.bF+a0.bY))-1)).tdiv a0.bY)))) a0.aD (i64.wrap ((i64.wrap ((i64.wrap (a0.bF+a0.bY))-1)).tdiv a0.bY))))) a0.aU (cond (decide (a0.aD>(i64.wrap ((i64.wrap ((i64.wrap (a0.bF+a0.bY))-1)).tdiv a0.bY)))) a0.aD (i64.wrap ((i64.wrap ((i64.wrap (a0.bF+a0.bY))-1)).tdiv a0.bY)))))
theorem t95 (n:Nat) (a0:C .bD):db X95 (F95 n) Try.f95 [.one (.eS .bD a0 0)] dec95=G95n n a0:=by
 kernel_rfl
def G95 (a0:C .bD):Option (Int):=G95n fuel a0
def Xy:iu C:=kD KK [.ptr .bD] [.int .i64] G95
theorem c95:cL Try.prog KK 95 Xy:=cP (fV trivial trivial trivial:Cons Try.prog X95) (fn:=Try.f95) (F95 fuel) (fun a0=>t95 fuel a0)
def me (n:Nat):Cx C:=eP [(77,KH),(84,QM),(85,KD),(91,QL),(95,Xy)] [] [(86,I86 n),(87,I87 n),(88,I88 n),(89,I89 n),(90,I90 n),(92,I92 n),(93,I93 n),(94,I94 n),(96,I96 n)] [5,6,7,8,9,14,16,17,19,20,94,95,96,107,108,109,110,111,112,113,114,115,116,117,154,158,159,160,189,190,191,192,195,196,197,198,201,202,203,204,205,206,232,233,234,250,251,252,262,263,264,285,286,287,295,296,297,298,299,300,301,302,303,304,305,306,307,319,320,321,354,355,356,357,360,361,362,363] 3014656 [115,203,204,305]
def ql (n:Nat):Cf:={ N:=n,keep:=[0,1,2,3,5,6,7,8,9,10,11,13,14,15,16,17,18,19,20,21,37,38,39,40,54,75,81,84,88,97,98,106,147,154,161,174,187,199,207,213,217,235,253,265,288,308,322,339,352],live:=lk [(0,[1,3,5,6,8,9,10,11,37,38,39])] }
abbrev n9:=iX KK [.el .jq,.bool]
abbrev BN:Type:=Int×aI
abbrev BM:Type:=Int×aI
abbrev u6:Type:=ay×Int×C .bD×C .bU
abbrev BL:Type:=Int×aI
abbrev u5:Type:=ay×Int
abbrev BK:Type:=Int×aI
abbrev u4:Type:=ay×Int
abbrev BJ:Type:=Int×aI
abbrev u3:Type:=ay×Int×C .bD×C .bU
abbrev uz:Type:=Int×aI
abbrev u7:Type:=Int×Int×ay
section
variable (x0:ay) (x1:Int) (x3:Bool) (x4:BA) (x5 x6 x7 x8:Int) (x9 aN:Bool) (aP:BA) (aX bf aS aO:Int) (aT:Bool) (aW:aI) (bh:Bool) (bJ:C .bD) (bG:BA) (bL bZ da cW:Int) (dE:Bool) (dI:aI) (dS:Bool) (gz gi gy lW mw:Int) (qn:BA) (qm pQ pP pO:Int) (pN:Bool) (zM:BA) (zL:ay)
def s46_1:BN→St C:=fun (x2,aK)=>{ env:=[(0,.one (.ref 100000 [])),(1,.one (.ptr 3015168 0)),(3,.one (.ptr 682899805831360 0)),(7,.one (.ref 100000 [])),(8,.one (.int .i64 x1)),(9,.one (.int .i64 x2)),(1005,.bz (false,[.ptr 3014976 0]) 159005),(1006,.bz (false,[.ptr 3015040 0]) 159006),(1008,.bz (false,[.ptr 3015168 0]) 159008),(1009,.bz (false,[.ptr 3015232 0]) 159009),(1014,.bz (false,[.vo 3018880]) 159014),(1016,.bz (false,[.ptr 3015680 0]) 159016),(1017,.bz (false,[.vo 3019072]) 159017),(1019,.bz (false,[.vo 3019200]) 159019),(1020,.bz (false,[.ptr 3015936 0]) 159020),(1154,.bz (false,[.bool x3]) 159154)],aj:=[(100000,.row .bX x0 false),(3015168,.box .mem [.str x4,.int .i64 x5,.int .i64 x6,.int .i64 x7,.int .i64 x8,.bool x9,.ref 302516806 [],.bool aN]),(302516806,.row .fw aK false),(682899805831360,.box .mem [.str aP,.int .i64 aX,.int .i64 bf,.int .i64 aS,.int .i64 aO,.bool aT,.ref 68289980584136006 [],.bool bh]),(68289980584136006,.row .fw aW false),(3014976,.box .mem [.eS .bD bJ 0]),(3015040,.box .mem [.str bG,.int .i64 bL,.int .i64 bZ,.int .i64 da,.int .i64 cW,.bool dE,.ref 302504006 [],.bool dS]),(302504006,.row .fw dI false),(3015232,.box .mem [.int .i64 gz,.int .i64 gi,.int .i64 gy,.int .i64 lW,.int .i64 mw]),(3018880,.box (.gV 86 0 [(false,1)]) [.ptr 3015296 0]),(3015680,.box .mem [.vo 3019008]),(3019072,.box (.gV 89 0 [(false,1)]) [.ptr 3015168 0]),(3019200,.box (.gV 92 0 [(false,1)]) [.ptr 3015168 0]),(3015936,.box .mem [.str qn,.int .i64 qm,.int .i64 pQ,.int .i64 pP,.int .i64 pO,.bool pN,.str zM]),(3015296,.box .mem [.ref 302529600 []]),(302529600,.row .bX zL false),(3019008,.box (.gV 88 0 [(false,1)]) [.ptr 3015168 0])],base:=159000 }
end
def zZ (x0:ay) (x1:Int) (x4:BA) (x5 x6 x7 x8:Int) (x9 aN:Bool) (n:Nat)   (dg:BN→Option (au×Bool)):BN→Option (au×Bool):=fun (x2,aK)=>
 cond (decide (x2<x1))
 (cond (decide (0≤x2)) (cond (decide (x2<(x0.length:Int))) (Option.bind x0[x2.toNat]? fun e7=>cond (decide ((aK.length+(([(⟨e7.Number,e7.Version⟩:cu)]:aI)).length)*16≤140737488355328)) (dg ((i64.wrap (x2+1),aK++(([(⟨e7.Number,e7.Version⟩:cu)]:aI))))) none) none) none)
 (some ((⟨x4,x5,x6,x7,x8,x9,aK,aN⟩:au),decide ((x0.length:Int)>0)))
section
variable (x0:ay) (x1:Int) (x3:ay) (x4:Bool) (x5:C .bU) (x6:C .bD) (x7:BA) (x8 x9 aK aN:Int) (aP:Bool) (aX bf:BA) (aS aO aT aW:Int) (bh bG:Bool) (bL:BA) (bZ da cW dE:Int) (dI:Bool) (dS:aI) (gz:Bool) (gi:C .bU) (gy:C .bD) (lW:BA) (mw qn qm pQ:Int) (pP:Bool) (pO:aI) (pN:Bool) (zM:BA) (zL Hs Dw Dv:Int) (Du:Bool) (Dt:aI) (Dr:Bool) (Dq Dp Hr Hq Hp:Int) (Ho:ay)
def s46_3:BM→St C:=fun (x2,bJ)=>{ env:=[(0,.one (.ref 100000 [])),(1,.one (.ptr 3015168 0)),(3,.one (.ptr 846190161696391360 0)),(7,.one (.ref 100000 [])),(8,.one (.int .i64 x1)),(9,.one (.int .i64 x2)),(1000,.bz (false,[.ref 30100000 []]) 197019000),(1002,.bz (false,[.ptr 3015680 0]) 197019002),(1003,.bz (false,[.ptr 3014848 0]) 197019003),(1004,.bz (false,[.ptr 3014976 0]) 197019004),(1006,.bz (false,[.ptr 846108563210624 0]) 197019006),(1007,.bz (false,[.bool x4]) 197019007),(1012,.bz (false,[.vo 3019008]) 197019012),(1013,.bz (false,[.eS .bU x5 0]) 197019013),(1014,.bz (false,[.eS .bD x6 0]) 197019014),(1015,.bz (false,[.ref 30100000 []]) 197019015),(1016,.bz (true,[.str x7,.int .i64 x8,.int .i64 x9,.int .i64 aK,.int .i64 aN,.bool aP,.str aX]) 197019016),(1017,.bz (false,[.ref 100000 []]) 197019017),(2005,.bz (false,[.ptr 3014976 0]) 197005),(2006,.bz (false,[.ptr 3015040 0]) 197006),(2008,.bz (false,[.ptr 3015168 0]) 197008),(2009,.bz (false,[.ptr 3015232 0]) 197009),(2014,.bz (false,[.vo 3018880]) 197014),(2016,.bz (false,[.ptr 3015680 0]) 197016),(2017,.bz (false,[.vo 3019072]) 197017),(2019,.bz (false,[.vo 3019200]) 197019),(2192,.bz (false,[.vo 3019136]) 197192),(2195,.bz (false,[.ref 30100000 []]) 197195)],aj:=[(100000,.row .bX x0 false),(30100000,.row .bX x3 false),(3015168,.box .mem [.str bf,.int .i64 aS,.int .i64 aO,.int .i64 aT,.int .i64 aW,.bool bh,.ref 302516806 [],.bool bG]),(302516806,.row .fw bJ false),(846190161696391360,.box .mem [.str bL,.int .i64 bZ,.int .i64 da,.int .i64 cW,.int .i64 dE,.bool dI,.ref 84619016169640136006 [],.bool gz]),(84619016169640136006,.row .fw dS false),(3015680,.box .mem [.vo 3019008]),(3014848,.box .mem [.eS .bU gi 0]),(3014976,.box .mem [.eS .bD gy 0]),(846108563210624,.box .mem [.str lW,.int .i64 mw,.int .i64 qn,.int .i64 qm,.int .i64 pQ,.bool pP,.ref 84610856322062406 [],.bool pN]),(84610856322062406,.row .fw pO false),(3019008,.box (.gV 88 0 [(false,1)]) [.ptr 3015168 0]),(3015040,.box .mem [.str zM,.int .i64 zL,.int .i64 Hs,.int .i64 Dw,.int .i64 Dv,.bool Du,.ref 302504006 [],.bool Dr]),(302504006,.row .fw Dt false),(3015232,.box .mem [.int .i64 Dq,.int .i64 Dp,.int .i64 Hr,.int .i64 Hq,.int .i64 Hp]),(3018880,.box (.gV 86 0 [(false,1)]) [.ptr 3015296 0]),(3019072,.box (.gV 89 0 [(false,1)]) [.ptr 3015168 0]),(3019200,.box (.gV 92 0 [(false,1)]) [.ptr 3015168 0]),(3019136,.box (.gV 90 0 [(false,1),(false,1),(false,1),(false,1)]) [.ptr 3015168 0,.ptr 3015680 0,.ptr 3014848 0,.ptr 3014976 0]),(3015296,.box .mem [.ref 302529600 []]),(302529600,.row .bX Ho false)],base:=197019000 }
end
def Eu (x0:ay) (x1:Int) (bf:BA) (aS aO aT aW:Int) (bh bG:Bool) (n:Nat)   (dz:BM→Option (au×Bool)):BM→Option (au×Bool):=fun (x2,bJ)=>
 cond (decide (x2<x1))
 (cond (decide (0≤x2)) (cond (decide (x2<(x0.length:Int))) (Option.bind x0[x2.toNat]? fun qd=>cond (decide ((bJ.length+(([(⟨qd.Number,qd.Version⟩:cu)]:aI)).length)*16≤140737488355328)) (dz ((i64.wrap (x2+1),bJ++(([(⟨qd.Number,qd.Version⟩:cu)]:aI))))) none) none) none)
 (some ((⟨bf,aS,aO,aT,aW,bh,bJ,bG⟩:au),decide ((x0.length:Int)>0)))
section
variable (x1:ay) (x2:Int) (x5:BA) (x6 x7 x8 x9:Int) (aK:Bool) (aN:aI) (aP:Bool) (aX:BA) (bf aS aO aT:Int) (aW:Bool) (bh:aI) (bJ:Bool) (bG bL bZ da cW:Int)
def Wd:u6→St C:=fun (x0,x3,x4,dE)=>{ env:=[(0,.one (.vo 3027072)),(4,.one (.ref 100004 [])),(7,.one (.ref 100007 [])),(8,.one (.int .i64 x2)),(9,.one (.int .i64 x3)),(1005,.bz (false,[.ptr 3014976 0]) 196005),(1006,.bz (false,[.ptr 3015040 0]) 196006),(1008,.bz (false,[.ptr 3015168 0]) 196008),(1009,.bz (false,[.ptr 3015232 0]) 196009),(1014,.bz (false,[.vo 3018880]) 196014),(1016,.bz (false,[.ptr 3015680 0]) 196016),(1017,.bz (false,[.vo 3019072]) 196017),(1019,.bz (false,[.vo 3019200]) 196019),(1192,.bz (false,[.vo 3019136]) 196192)],aj:=[(100004,.row .bX x0 false),(100007,.row .bX x1 false),(3027072,.box (.gV 93 0 [(false,1),(false,1)]) [.ptr 3014976 0,.ptr 3015616 0]),(3014976,.box .mem [.eS .bD x4 0]),(3015040,.box .mem [.str x5,.int .i64 x6,.int .i64 x7,.int .i64 x8,.int .i64 x9,.bool aK,.ref 302504006 [],.bool aP]),(302504006,.row .fw aN false),(3015168,.box .mem [.str aX,.int .i64 bf,.int .i64 aS,.int .i64 aO,.int .i64 aT,.bool aW,.ref 302516806 [],.bool bJ]),(302516806,.row .fw bh false),(3015232,.box .mem [.int .i64 bG,.int .i64 bL,.int .i64 bZ,.int .i64 da,.int .i64 cW]),(3018880,.box (.gV 86 0 [(false,1)]) [.ptr 3015296 0]),(3015680,.box .mem [.vo 3019008]),(3019072,.box (.gV 89 0 [(false,1)]) [.ptr 3015168 0]),(3019200,.box (.gV 92 0 [(false,1)]) [.ptr 3015168 0]),(3019136,.box (.gV 90 0 [(false,1),(false,1),(false,1),(false,1)]) [.ptr 3015168 0,.ptr 3015680 0,.ptr 3014848 0,.ptr 3014976 0]),(3015616,.box .mem [.vo 3018944]),(3015296,.box .mem [.ref 100007 []]),(3019008,.box (.gV 88 0 [(false,1)]) [.ptr 3015168 0]),(3014848,.box .mem [.eS .bU dE 0]),(3018944,.box (.gV 87 0 [(false,1),(false,1)]) [.ptr 3014848 0,.ptr 3014976 0])],base:=196000 }
end
def KY (x1:ay) (x2:Int) (aX:BA) (bf aS aO aT:Int) (aW:Bool) (bh:aI) (bJ:Bool) (n:Nat)   (dD:u6→Option (au×Bool)) (l3:(ay)→(Int)→(ay)→(C .bU)→(C .bD)→(BA)→(Int)→(Int)→(Int)→(Int)→(Bool)→(BA)→(BA)→(aI)→(C .bU)→(C .bD)→(BA)→(aI)→BM→Option (au×Bool)):u6→Option (au×Bool):=fun (x0,x3,x4,dE)=>
 cond (decide (x3<x2))
 (cond (decide (0≤x3)) (cond (decide (x3<(x1.length:Int))) (Option.bind x1[x3.toNat]? fun nu=>cond (nu.ax != x4.ax)
 (Option.bind ((mK n n) nu.aq nu.Number nu.Version nu.ax nu.State nu.Ending nu.bE dE x4) fun qL=>
 cond qL.2.2
 (cond (decide ((x0.length+(([nu]:ay)).length)*72≤140737488355328)) (dD ((x0++(([nu]:ay)),i64.wrap (x3+1),qL.2.1,qL.1))) none)
 (dD ((x0,i64.wrap (x3+1),qL.2.1,qL.1))))
 (dD ((x0,i64.wrap (x3+1),x4,dE)))) none) none)
 (cond ((x0.length:Int)==0)
 (some ((⟨aX,bf,aS,aO,aT,aW,bh,bJ⟩:au),false))
 (Option.bind (M6 dE x4 x0) fun gM=>
 l3 (([gM]:ay)) (((([gM]:ay)).length:Int)) x0 dE x4 gM.aq gM.Number gM.Version gM.ax gM.State gM.Ending gM.bE (⟨#[]⟩:BA) (([]:aI)) dE x4 (⟨#[]⟩:BA) (([]:aI)) (0,bh)))
def xc (x1:ay) (x2:Int) (aX:BA) (bf aS aO aT:Int) (aW:Bool) (bh:aI) (bJ:Bool) (n:Nat)   (dD:u6→Option (au×Bool)):u6→Option (au×Bool):=KY x1 x2 aX bf aS aO aT aW bh bJ n  dD (fun y0 y1 y2 y4 y5 y6 y7 y8 y9 wy G4 Nj zK GZ Ni TE V5 V4 z=>bS (Eu y0 y1 aX bf aS aO aT aW bJ n ) n z)
section
variable (x0:ay) (x1:Int) (x3:BA) (x4 x5 x6 x7:Int) (x8 aK:Bool) (aN:BA) (aP aX bf aS:Int) (aO:Bool) (aT:aI) (aW:Bool) (bh:C .bD) (bJ:BA) (bG bL bZ da:Int) (cW:Bool) (dE:aI) (dI:Bool) (dS gz gi gy lW:Int) (mw:ay)
def s46_5:BL→St C:=fun (x2,x9)=>{ env:=[(0,.one (.ref 100000 [])),(1,.one (.ptr 3015168 0)),(3,.one (.ptr 880468301447360 0)),(7,.one (.ref 100000 [])),(8,.one (.int .i64 x1)),(9,.one (.int .i64 x2)),(1005,.bz (false,[.ptr 3014976 0]) 205005),(1006,.bz (false,[.ptr 3015040 0]) 205006),(1008,.bz (false,[.ptr 3015168 0]) 205008),(1009,.bz (false,[.ptr 3015232 0]) 205009),(1014,.bz (false,[.vo 3018880]) 205014),(1016,.bz (false,[.ptr 3015680 0]) 205016),(1017,.bz (false,[.vo 3019072]) 205017),(1019,.bz (false,[.vo 3019200]) 205019),(1201,.bz (false,[.vo 3019008]) 205201),(1202,.bz (false,[.vo 3018880]) 205202),(1203,.bz (false,[.ref 100000 []]) 205203)],aj:=[(100000,.row .bX x0 false),(3015168,.box .mem [.str x3,.int .i64 x4,.int .i64 x5,.int .i64 x6,.int .i64 x7,.bool x8,.ref 302516806 [],.bool aK]),(302516806,.row .fw x9 false),(880468301447360,.box .mem [.str aN,.int .i64 aP,.int .i64 aX,.int .i64 bf,.int .i64 aS,.bool aO,.ref 88046830145736006 [],.bool aW]),(88046830145736006,.row .fw aT false),(3014976,.box .mem [.eS .bD bh 0]),(3015040,.box .mem [.str bJ,.int .i64 bG,.int .i64 bL,.int .i64 bZ,.int .i64 da,.bool cW,.ref 302504006 [],.bool dI]),(302504006,.row .fw dE false),(3015232,.box .mem [.int .i64 dS,.int .i64 gz,.int .i64 gi,.int .i64 gy,.int .i64 lW]),(3018880,.box (.gV 86 0 [(false,1)]) [.ptr 3015296 0]),(3015680,.box .mem [.vo 3019008]),(3019072,.box (.gV 89 0 [(false,1)]) [.ptr 3015168 0]),(3019200,.box (.gV 92 0 [(false,1)]) [.ptr 3015168 0]),(3019008,.box (.gV 88 0 [(false,1)]) [.ptr 3015168 0]),(3015296,.box .mem [.ref 302529600 []]),(302529600,.row .bX mw false)],base:=205000 }
end
def Et (x0:ay) (x1:Int) (x3:BA) (x4 x5 x6 x7:Int) (x8 aK:Bool) (n:Nat)   (LY:BL→Option (au×Bool)):BL→Option (au×Bool):=fun (x2,x9)=>
 cond (decide (x2<x1))
 (cond (decide (0≤x2)) (cond (decide (x2<(x0.length:Int))) (Option.bind x0[x2.toNat]? fun bQ=>cond (decide ((x9.length+(([(⟨bQ.Number,bQ.Version⟩:cu)]:aI)).length)*16≤140737488355328)) (LY ((i64.wrap (x2+1),x9++(([(⟨bQ.Number,bQ.Version⟩:cu)]:aI))))) none) none) none)
 (some ((⟨x3,x4,x5,x6,x7,x8,x9,aK⟩:au),decide ((x0.length:Int)>0)))
section
variable (x1:ay) (x2:Int) (x4:C .bD) (x5:BA) (x6 x7 x8 x9:Int) (aK:Bool) (aN:aI) (aP:Bool) (aX:BA) (bf aS aO aT:Int) (aW:Bool) (bh:aI) (bJ:Bool) (bG bL bZ da cW:Int)
def Wc:u5→St C:=fun (x0,x3)=>{ env:=[(0,.one (.dP (some 94))),(4,.one (.ref 100004 [])),(7,.one (.ref 100007 [])),(8,.one (.int .i64 x2)),(9,.one (.int .i64 x3)),(1005,.bz (false,[.ptr 3014976 0]) 204005),(1006,.bz (false,[.ptr 3015040 0]) 204006),(1008,.bz (false,[.ptr 3015168 0]) 204008),(1009,.bz (false,[.ptr 3015232 0]) 204009),(1014,.bz (false,[.vo 3018880]) 204014),(1016,.bz (false,[.ptr 3015680 0]) 204016),(1017,.bz (false,[.vo 3019072]) 204017),(1019,.bz (false,[.vo 3019200]) 204019),(1201,.bz (false,[.vo 3019008]) 204201),(1202,.bz (false,[.vo 3018880]) 204202)],aj:=[(100004,.row .bX x0 false),(100007,.row .bX x1 false),(3014976,.box .mem [.eS .bD x4 0]),(3015040,.box .mem [.str x5,.int .i64 x6,.int .i64 x7,.int .i64 x8,.int .i64 x9,.bool aK,.ref 302504006 [],.bool aP]),(302504006,.row .fw aN false),(3015168,.box .mem [.str aX,.int .i64 bf,.int .i64 aS,.int .i64 aO,.int .i64 aT,.bool aW,.ref 302516806 [],.bool bJ]),(302516806,.row .fw bh false),(3015232,.box .mem [.int .i64 bG,.int .i64 bL,.int .i64 bZ,.int .i64 da,.int .i64 cW]),(3018880,.box (.gV 86 0 [(false,1)]) [.ptr 3015296 0]),(3015680,.box .mem [.vo 3019008]),(3019072,.box (.gV 89 0 [(false,1)]) [.ptr 3015168 0]),(3019200,.box (.gV 92 0 [(false,1)]) [.ptr 3015168 0]),(3019008,.box (.gV 88 0 [(false,1)]) [.ptr 3015168 0]),(3015296,.box .mem [.ref 100007 []])],base:=204000 }
end
def KX (x1:ay) (x2:Int) (bh:aI) (n:Nat)   (qp:u5→Option (au×Bool)) (l5:(ay)→(Int)→(BA)→(aI)→BL→Option (au×Bool)):u5→Option (au×Bool):=fun (x0,x3)=>
 cond (decide (x3<x2))
 (cond (decide (0≤x3)) (cond (decide (x3<(x1.length:Int))) (Option.bind x1[x3.toNat]? fun gb=>cond (gb.State==4)
 (cond (decide ((x0.length+(([gb]:ay)).length)*72≤140737488355328)) (qp ((x0++(([gb]:ay)),i64.wrap (x3+1)))) none)
 (qp ((x0,i64.wrap (x3+1))))) none) none)
 (l5 x0 (x0.length:Int) (⟨#[]⟩:BA) (([]:aI)) (0,bh))
def xb (x1:ay) (x2:Int) (aX:BA) (bf aS aO aT:Int) (aW:Bool) (bh:aI) (bJ:Bool) (n:Nat)   (qp:u5→Option (au×Bool)):u5→Option (au×Bool):=KX x1 x2 bh n  qp (fun y0 y1 y9 Hm z=>bS (Et y0 y1 aX bf aS aO aT aW bJ n ) n z)
section
variable (x0:ay) (x1:Int) (x3:BA) (x4 x5 x6 x7:Int) (x8 aK:Bool) (aN:BA) (aP aX bf aS:Int) (aO:Bool) (aT:aI) (aW:Bool) (bh:C .bD) (bJ:BA) (bG bL bZ da:Int) (cW:Bool) (dE:aI) (dI:Bool) (dS gz gi gy lW:Int) (mw:ay)
def s46_7:BK→St C:=fun (x2,x9)=>{ env:=[(0,.one (.ref 100000 [])),(1,.one (.ptr 3015168 0)),(3,.one (.ptr 880468301447360 0)),(7,.one (.ref 100000 [])),(8,.one (.int .i64 x1)),(9,.one (.int .i64 x2)),(1005,.bz (false,[.ptr 3014976 0]) 205005),(1006,.bz (false,[.ptr 3015040 0]) 205006),(1008,.bz (false,[.ptr 3015168 0]) 205008),(1009,.bz (false,[.ptr 3015232 0]) 205009),(1014,.bz (false,[.vo 3018880]) 205014),(1016,.bz (false,[.ptr 3015680 0]) 205016),(1017,.bz (false,[.vo 3019072]) 205017),(1019,.bz (false,[.vo 3019200]) 205019),(1201,.bz (false,[.vo 3019008]) 205201),(1202,.bz (false,[.vo 3018880]) 205202),(1203,.bz (false,[.ref 100000 []]) 205203)],aj:=[(100000,.row .bX x0 false),(3015168,.box .mem [.str x3,.int .i64 x4,.int .i64 x5,.int .i64 x6,.int .i64 x7,.bool x8,.ref 302516806 [],.bool aK]),(302516806,.row .fw x9 false),(880468301447360,.box .mem [.str aN,.int .i64 aP,.int .i64 aX,.int .i64 bf,.int .i64 aS,.bool aO,.ref 88046830145736006 [],.bool aW]),(88046830145736006,.row .fw aT false),(3014976,.box .mem [.eS .bD bh 0]),(3015040,.box .mem [.str bJ,.int .i64 bG,.int .i64 bL,.int .i64 bZ,.int .i64 da,.bool cW,.ref 302504006 [],.bool dI]),(302504006,.row .fw dE false),(3015232,.box .mem [.int .i64 dS,.int .i64 gz,.int .i64 gi,.int .i64 gy,.int .i64 lW]),(3018880,.box (.gV 86 0 [(false,1)]) [.ptr 3015296 0]),(3015680,.box .mem [.vo 3019008]),(3019072,.box (.gV 89 0 [(false,1)]) [.ptr 3015168 0]),(3019200,.box (.gV 92 0 [(false,1)]) [.ptr 3015168 0]),(3019008,.box (.gV 88 0 [(false,1)]) [.ptr 3015168 0]),(3015296,.box .mem [.ref 302529600 []]),(302529600,.row .bX mw false)],base:=205000 }
end
def Es (x0:ay) (x1:Int) (x3:BA) (x4 x5 x6 x7:Int) (x8 aK:Bool) (n:Nat)   (jP:BK→Option (au×Bool)):BK→Option (au×Bool):=fun (x2,x9)=>
 cond (decide (x2<x1))
 (cond (decide (0≤x2)) (cond (decide (x2<(x0.length:Int))) (Option.bind x0[x2.toNat]? fun Tx=>cond (decide ((x9.length+(([(⟨Tx.Number,Tx.Version⟩:cu)]:aI)).length)*16≤140737488355328)) (jP ((i64.wrap (x2+1),x9++(([(⟨Tx.Number,Tx.Version⟩:cu)]:aI))))) none) none) none)
 (some ((⟨x3,x4,x5,x6,x7,x8,x9,aK⟩:au),decide ((x0.length:Int)>0)))
section
variable (x1:ay) (x2:Int) (x4:C .bD) (x5:BA) (x6 x7 x8 x9:Int) (aK:Bool) (aN:aI) (aP:Bool) (aX:BA) (bf aS aO aT:Int) (aW:Bool) (bh:aI) (bJ:Bool) (bG bL bZ da cW:Int)
def Wb:u4→St C:=fun (x0,x3)=>{ env:=[(0,.one (.dP (some 94))),(4,.one (.ref 100004 [])),(7,.one (.ref 100007 [])),(8,.one (.int .i64 x2)),(9,.one (.int .i64 x3)),(1005,.bz (false,[.ptr 3014976 0]) 204005),(1006,.bz (false,[.ptr 3015040 0]) 204006),(1008,.bz (false,[.ptr 3015168 0]) 204008),(1009,.bz (false,[.ptr 3015232 0]) 204009),(1014,.bz (false,[.vo 3018880]) 204014),(1016,.bz (false,[.ptr 3015680 0]) 204016),(1017,.bz (false,[.vo 3019072]) 204017),(1019,.bz (false,[.vo 3019200]) 204019),(1202,.bz (false,[.vo 3018880]) 204202)],aj:=[(100004,.row .bX x0 false),(100007,.row .bX x1 false),(3014976,.box .mem [.eS .bD x4 0]),(3015040,.box .mem [.str x5,.int .i64 x6,.int .i64 x7,.int .i64 x8,.int .i64 x9,.bool aK,.ref 302504006 [],.bool aP]),(302504006,.row .fw aN false),(3015168,.box .mem [.str aX,.int .i64 bf,.int .i64 aS,.int .i64 aO,.int .i64 aT,.bool aW,.ref 302516806 [],.bool bJ]),(302516806,.row .fw bh false),(3015232,.box .mem [.int .i64 bG,.int .i64 bL,.int .i64 bZ,.int .i64 da,.int .i64 cW]),(3018880,.box (.gV 86 0 [(false,1)]) [.ptr 3015296 0]),(3015680,.box .mem [.vo 3019008]),(3019072,.box (.gV 89 0 [(false,1)]) [.ptr 3015168 0]),(3019200,.box (.gV 92 0 [(false,1)]) [.ptr 3015168 0]),(3015296,.box .mem [.ref 100007 []]),(3019008,.box (.gV 88 0 [(false,1)]) [.ptr 3015168 0])],base:=204000 }
end
def KW (x1:ay) (x2:Int) (bh:aI) (n:Nat)   (zu:u4→Option (au×Bool)) (l7:(ay)→(Int)→(BA)→(aI)→BK→Option (au×Bool)):u4→Option (au×Bool):=fun (x0,x3)=>
 cond (decide (x3<x2))
 (cond (decide (0≤x3)) (cond (decide (x3<(x1.length:Int))) (Option.bind x1[x3.toNat]? fun U8=>cond (U8.State==4)
 (cond (decide ((x0.length+(([U8]:ay)).length)*72≤140737488355328)) (zu ((x0++(([U8]:ay)),i64.wrap (x3+1)))) none)
 (zu ((x0,i64.wrap (x3+1))))) none) none)
 (l7 x0 (x0.length:Int) (⟨#[]⟩:BA) (([]:aI)) (0,bh))
def w9 (x1:ay) (x2:Int) (aX:BA) (bf aS aO aT:Int) (aW:Bool) (bh:aI) (bJ:Bool) (n:Nat)   (zu:u4→Option (au×Bool)):u4→Option (au×Bool):=KW x1 x2 bh n  zu (fun y0 y1 y9 Hm z=>bS (Es y0 y1 aX bf aS aO aT aW bJ n ) n z)
section
variable (x0:ay) (x1:Int) (x3:ay) (x4:Bool) (x5:C .bU) (x6:C .bD) (x7:BA) (x8 x9 aK aN:Int) (aP:Bool) (aX bf:BA) (aS aO aT aW:Int) (bh bG:Bool) (bL:BA) (bZ da cW dE:Int) (dI:Bool) (dS:aI) (gz:Bool) (gi:C .bU) (gy:C .bD) (lW:BA) (mw qn qm pQ:Int) (pP:Bool) (pO:aI) (pN:Bool) (zM:BA) (zL Hs Dw Dv:Int) (Du:Bool) (Dt:aI) (Dr:Bool) (Dq Dp Hr Hq Hp:Int) (Ho:ay)
def s46_9:BJ→St C:=fun (x2,bJ)=>{ env:=[(0,.one (.ref 100000 [])),(1,.one (.ptr 3015168 0)),(3,.one (.ptr 1554859765536391360 0)),(7,.one (.ref 100000 [])),(8,.one (.int .i64 x1)),(9,.one (.int .i64 x2)),(1000,.bz (false,[.ref 30100000 []]) 362019000),(1002,.bz (false,[.ptr 3015680 0]) 362019002),(1003,.bz (false,[.ptr 3014848 0]) 362019003),(1004,.bz (false,[.ptr 3014976 0]) 362019004),(1006,.bz (false,[.ptr 1554778167050624 0]) 362019006),(1007,.bz (false,[.bool x4]) 362019007),(1012,.bz (false,[.vo 3019008]) 362019012),(1013,.bz (false,[.eS .bU x5 0]) 362019013),(1014,.bz (false,[.eS .bD x6 0]) 362019014),(1015,.bz (false,[.ref 30100000 []]) 362019015),(1016,.bz (true,[.str x7,.int .i64 x8,.int .i64 x9,.int .i64 aK,.int .i64 aN,.bool aP,.str aX]) 362019016),(1017,.bz (false,[.ref 100000 []]) 362019017),(2005,.bz (false,[.ptr 3014976 0]) 362005),(2006,.bz (false,[.ptr 3015040 0]) 362006),(2008,.bz (false,[.ptr 3015168 0]) 362008),(2009,.bz (false,[.ptr 3015232 0]) 362009),(2014,.bz (false,[.vo 3018880]) 362014),(2016,.bz (false,[.ptr 3015680 0]) 362016),(2017,.bz (false,[.vo 3019072]) 362017),(2019,.bz (false,[.vo 3019200]) 362019),(2357,.bz (false,[.vo 3019136]) 362357),(2360,.bz (false,[.ref 30100000 []]) 362360)],aj:=[(100000,.row .bX x0 false),(30100000,.row .bX x3 false),(3015168,.box .mem [.str bf,.int .i64 aS,.int .i64 aO,.int .i64 aT,.int .i64 aW,.bool bh,.ref 302516806 [],.bool bG]),(302516806,.row .fw bJ false),(1554859765536391360,.box .mem [.str bL,.int .i64 bZ,.int .i64 da,.int .i64 cW,.int .i64 dE,.bool dI,.ref 155485976553640136006 [],.bool gz]),(155485976553640136006,.row .fw dS false),(3015680,.box .mem [.vo 3019008]),(3014848,.box .mem [.eS .bU gi 0]),(3014976,.box .mem [.eS .bD gy 0]),(1554778167050624,.box .mem [.str lW,.int .i64 mw,.int .i64 qn,.int .i64 qm,.int .i64 pQ,.bool pP,.ref 155477816706062406 [],.bool pN]),(155477816706062406,.row .fw pO false),(3019008,.box (.gV 88 0 [(false,1)]) [.ptr 3015168 0]),(3015040,.box .mem [.str zM,.int .i64 zL,.int .i64 Hs,.int .i64 Dw,.int .i64 Dv,.bool Du,.ref 302504006 [],.bool Dr]),(302504006,.row .fw Dt false),(3015232,.box .mem [.int .i64 Dq,.int .i64 Dp,.int .i64 Hr,.int .i64 Hq,.int .i64 Hp]),(3018880,.box (.gV 86 0 [(false,1)]) [.ptr 3015296 0]),(3019072,.box (.gV 89 0 [(false,1)]) [.ptr 3015168 0]),(3019200,.box (.gV 92 0 [(false,1)]) [.ptr 3015168 0]),(3019136,.box (.gV 90 0 [(false,1),(false,1),(false,1),(false,1)]) [.ptr 3015168 0,.ptr 3015680 0,.ptr 3014848 0,.ptr 3014976 0]),(3015296,.box .mem [.ref 302529600 []]),(302529600,.row .bX Ho false)],base:=362019000 }
end
def Er (x0:ay) (x1:Int) (bf:BA) (aS aO aT aW:Int) (bh bG:Bool) (n:Nat)   (Ec:BJ→Option (au×Bool)):BJ→Option (au×Bool):=fun (x2,bJ)=>
 cond (decide (x2<x1))
 (cond (decide (0≤x2)) (cond (decide (x2<(x0.length:Int))) (Option.bind x0[x2.toNat]? fun e25=>cond (decide ((bJ.length+(([(⟨e25.Number,e25.Version⟩:cu)]:aI)).length)*16≤140737488355328)) (Ec ((i64.wrap (x2+1),bJ++(([(⟨e25.Number,e25.Version⟩:cu)]:aI))))) none) none) none)
 (some ((⟨bf,aS,aO,aT,aW,bh,bJ,bG⟩:au),decide ((x0.length:Int)>0)))
section
variable (x1:ay) (x2:Int) (x5:BA) (x6 x7 x8 x9:Int) (aK:Bool) (aN:aI) (aP:Bool) (aX:BA) (bf aS aO aT:Int) (aW:Bool) (bh:aI) (bJ:Bool) (bG bL bZ da cW:Int)
def Wa:u3→St C:=fun (x0,x3,x4,dE)=>{ env:=[(0,.one (.vo 3037632)),(4,.one (.ref 100004 [])),(7,.one (.ref 100007 [])),(8,.one (.int .i64 x2)),(9,.one (.int .i64 x3)),(1005,.bz (false,[.ptr 3014976 0]) 361005),(1006,.bz (false,[.ptr 3015040 0]) 361006),(1008,.bz (false,[.ptr 3015168 0]) 361008),(1009,.bz (false,[.ptr 3015232 0]) 361009),(1014,.bz (false,[.vo 3018880]) 361014),(1016,.bz (false,[.ptr 3015680 0]) 361016),(1017,.bz (false,[.vo 3019072]) 361017),(1019,.bz (false,[.vo 3019200]) 361019),(1357,.bz (false,[.vo 3019136]) 361357)],aj:=[(100004,.row .bX x0 false),(100007,.row .bX x1 false),(3037632,.box (.gV 96 0 [(false,1),(false,1)]) [.ptr 3014848 0,.ptr 3015616 0]),(3014976,.box .mem [.eS .bD x4 0]),(3015040,.box .mem [.str x5,.int .i64 x6,.int .i64 x7,.int .i64 x8,.int .i64 x9,.bool aK,.ref 302504006 [],.bool aP]),(302504006,.row .fw aN false),(3015168,.box .mem [.str aX,.int .i64 bf,.int .i64 aS,.int .i64 aO,.int .i64 aT,.bool aW,.ref 302516806 [],.bool bJ]),(302516806,.row .fw bh false),(3015232,.box .mem [.int .i64 bG,.int .i64 bL,.int .i64 bZ,.int .i64 da,.int .i64 cW]),(3018880,.box (.gV 86 0 [(false,1)]) [.ptr 3015296 0]),(3015680,.box .mem [.vo 3019008]),(3019072,.box (.gV 89 0 [(false,1)]) [.ptr 3015168 0]),(3019200,.box (.gV 92 0 [(false,1)]) [.ptr 3015168 0]),(3019136,.box (.gV 90 0 [(false,1),(false,1),(false,1),(false,1)]) [.ptr 3015168 0,.ptr 3015680 0,.ptr 3014848 0,.ptr 3014976 0]),(3014848,.box .mem [.eS .bU dE 0]),(3015616,.box .mem [.vo 3018944]),(3015296,.box .mem [.ref 100007 []]),(3019008,.box (.gV 88 0 [(false,1)]) [.ptr 3015168 0]),(3018944,.box (.gV 87 0 [(false,1),(false,1)]) [.ptr 3014848 0,.ptr 3014976 0])],base:=361000 }
end
def KV (x1:ay) (x2:Int) (aX:BA) (bf aS aO aT:Int) (aW:Bool) (bh:aI) (bJ:Bool) (n:Nat)   (wZ:u3→Option (au×Bool)) (l9:(ay)→(Int)→(ay)→(C .bU)→(C .bD)→(BA)→(Int)→(Int)→(Int)→(Int)→(Bool)→(BA)→(BA)→(aI)→(C .bU)→(C .bD)→(BA)→(aI)→BJ→Option (au×Bool)):u3→Option (au×Bool):=fun (x0,x3,x4,dE)=>
 cond (decide (x3<x2))
 (cond (decide (0≤x3)) (cond (decide (x3<(x1.length:Int))) (Option.bind x1[x3.toNat]? fun DB=>Option.bind (G85 dE DB) fun dx=>
 cond dx
 (Option.bind ((mK n n) DB.aq DB.Number DB.Version DB.ax DB.State DB.Ending DB.bE dE x4) fun gZ=>
 cond gZ.2.2
 (cond (decide ((x0.length+(([DB]:ay)).length)*72≤140737488355328)) (wZ ((x0++(([DB]:ay)),i64.wrap (x3+1),gZ.2.1,gZ.1))) none)
 (wZ ((x0,i64.wrap (x3+1),gZ.2.1,gZ.1))))
 (wZ ((x0,i64.wrap (x3+1),x4,dE)))) none) none)
 (cond ((x0.length:Int)==0)
 (some ((⟨aX,bf,aS,aO,aT,aW,bh,bJ⟩:au),false))
 (Option.bind (M6 dE x4 x0) fun jX=>
 l9 (([jX]:ay)) (((([jX]:ay)).length:Int)) x0 dE x4 jX.aq jX.Number jX.Version jX.ax jX.State jX.Ending jX.bE (⟨#[]⟩:BA) (([]:aI)) dE x4 (⟨#[]⟩:BA) (([]:aI)) (0,bh)))
def w8 (x1:ay) (x2:Int) (aX:BA) (bf aS aO aT:Int) (aW:Bool) (bh:aI) (bJ:Bool) (n:Nat)   (wZ:u3→Option (au×Bool)):u3→Option (au×Bool):=KV x1 x2 aX bf aS aO aT aW bh bJ n  wZ (fun y0 y1 y2 y4 y5 y6 y7 y8 y9 wy G4 Nj zK GZ Ni TE V5 V4 z=>bS (Er y0 y1 aX bf aS aO aT aW bJ n ) n z)
section
variable (x0:ay) (x1:Int) (x3:BA) (x4 x5 x6 x7:Int) (x8 aK:Bool) (aN:BA) (aP aX bf aS:Int) (aO:Bool) (aT:aI) (aW:Bool) (bh:C .bD) (bJ:BA) (bG bL bZ da:Int) (cW:Bool) (dE:aI) (dI:Bool) (dS gz gi gy lW:Int)
def YL:uz→St C:=fun (x2,x9)=>{ env:=[(0,.one (.ref 100000 [])),(1,.one (.ptr 3015168 0)),(3,.one (.ptr 408021898887360 0)),(7,.one (.ref 100000 [])),(8,.one (.int .i64 x1)),(9,.one (.int .i64 x2)),(1005,.bz (false,[.ptr 3014976 0]) 95005),(1006,.bz (false,[.ptr 3015040 0]) 95006),(1008,.bz (false,[.ptr 3015168 0]) 95008),(1009,.bz (false,[.ptr 3015232 0]) 95009),(1014,.bz (false,[.vo 3018880]) 95014),(1016,.bz (false,[.ptr 3015680 0]) 95016),(1017,.bz (false,[.vo 3019072]) 95017),(1019,.bz (false,[.vo 3019200]) 95019)],aj:=[(100000,.row .bX x0 false),(3015168,.box .mem [.str x3,.int .i64 x4,.int .i64 x5,.int .i64 x6,.int .i64 x7,.bool x8,.ref 302516806 [],.bool aK]),(302516806,.row .fw x9 false),(408021898887360,.box .mem [.str aN,.int .i64 aP,.int .i64 aX,.int .i64 bf,.int .i64 aS,.bool aO,.ref 40802189889736006 [],.bool aW]),(40802189889736006,.row .fw aT false),(3014976,.box .mem [.eS .bD bh 0]),(3015040,.box .mem [.str bJ,.int .i64 bG,.int .i64 bL,.int .i64 bZ,.int .i64 da,.bool cW,.ref 302504006 [],.bool dI]),(302504006,.row .fw dE false),(3015232,.box .mem [.int .i64 dS,.int .i64 gz,.int .i64 gi,.int .i64 gy,.int .i64 lW]),(3018880,.box (.gV 86 0 [(false,1)]) [.ptr 3015296 0]),(3015680,.box .mem [.vo 3019008]),(3019072,.box (.gV 89 0 [(false,1)]) [.ptr 3015168 0]),(3019200,.box (.gV 92 0 [(false,1)]) [.ptr 3015168 0]),(3015296,.box .mem [.ref 100000 []]),(3019008,.box (.gV 88 0 [(false,1)]) [.ptr 3015168 0])],base:=95000 }
end
def xe (x0:ay) (x1:Int) (x3:BA) (x4 x5 x6 x7:Int) (x8 aK:Bool) (n:Nat)   (uI:uz→Option (au×Bool)):uz→Option (au×Bool):=fun (x2,x9)=>
 cond (decide (x2<x1))
 (cond (decide (0≤x2)) (cond (decide (x2<(x0.length:Int))) (Option.bind x0[x2.toNat]? fun e26=>cond (decide ((x9.length+(([(⟨e26.Number,e26.Version⟩:cu)]:aI)).length)*16≤140737488355328)) (uI ((i64.wrap (x2+1),x9++(([(⟨e26.Number,e26.Version⟩:cu)]:aI))))) none) none) none)
 (some ((⟨x3,x4,x5,x6,x7,x8,x9,aK⟩:au),decide ((x0.length:Int)>0)))
section
variable (x0:Int) (x2:ay) (x3:Int) (x5:C .bU) (x6:C .bD) (x7:BA) (x8 x9 aK aN:Int) (aP:Bool) (aX:aI) (bf:Bool) (aS:BA) (aO aT aW bh:Int) (bJ:Bool) (bG:aI) (bL:Bool) (bZ da cW dE dI:Int)
def We:u7→St C:=fun (x1,x4,dS)=>{ env:=[(1,.one (.int .i64 x0)),(3,.one (.ptr 3014848 0)),(5,.one (.ptr 3014976 0)),(6,.one (.ptr 3015040 0)),(8,.one (.ptr 3015168 0)),(9,.one (.ptr 3015232 0)),(10,.one (.ptr 3015296 0)),(11,.one (.int .i64 x1)),(37,.one (.row .bX x2)),(38,.one (.int .i64 x3)),(39,.one (.int .i64 x4))],aj:=[(3014848,.box .mem [.eS .bU x5 0]),(3014976,.box .mem [.eS .bD x6 0]),(3015040,.box .mem [.str x7,.int .i64 x8,.int .i64 x9,.int .i64 aK,.int .i64 aN,.bool aP,.ref 302504006 [],.bool bf]),(302504006,.row .fw aX false),(3015168,.box .mem [.str aS,.int .i64 aO,.int .i64 aT,.int .i64 aW,.int .i64 bh,.bool bJ,.ref 302516806 [],.bool bL]),(302516806,.row .fw bG false),(3015232,.box .mem [.int .i64 bZ,.int .i64 da,.int .i64 cW,.int .i64 dE,.int .i64 dI]),(3015296,.box .mem [.ref 302529600 []]),(302529600,.row .bX dS false)],base:=0 }
end
def Gd (x0:Int) (x2:ay) (x3:Int) (x5:C .bU) (x6:C .bD) (aS:BA) (aO aT aW bh:Int) (bJ:Bool) (bG:aI) (bL:Bool) (bZ cW dI:Int) (n:Nat)   (aM:u7→Option (au×Bool)) (l1:(ay)→(Int)→(BA)→(aI)→(C .bD)→(BA)→(Int)→(Int)→(Int)→(Int)→(Bool)→(BA)→(ay)→BN→Option (au×Bool)) (l2:(ay)→(Int)→u6→Option (au×Bool)) (l4:(ay)→(Int)→u5→Option (au×Bool)) (l6:(ay)→(Int)→u4→Option (au×Bool)) (l8:(ay)→(Int)→u3→Option (au×Bool)) (ZJ:(ay)→(Int)→(BA)→(aI)→uz→Option (au×Bool)):u7→Option (au×Bool):=fun (x1,x4,dS)=>
 cond (decide (x4<x3))
 (cond (decide (0≤x4)) (Option.bind x2[x4.toNat]? fun e2=>cond (decide (e2.aq=x6.Name))
 (cond (!e2.Ending)
 (cond (decide ((dS.length+(([e2]:ay)).length)*72≤140737488355328)) (Option.bind (G85 x5 e2) fun r3=>
 Option.bind (Vv r3) fun r4=>
 aM ((i64.wrap (x1+r4),i64.wrap (x4+1),dS++(([e2]:ay))))) none)
 (aM ((x1,i64.wrap (x4+1),dS))))
 (aM ((x1,i64.wrap (x4+1),dS)))) none)
 (cond x6.bq
 (cond (x0==3)
 (cond (x0==1)
 (cond (decide (bZ<x6.Want))
 (some ((⟨aS,aO,i64.wrap (x6.Want-bZ),aW,bh,bJ,bG,bL⟩:au),true))
 (cond (decide (bZ>x6.Want))
 (cond (cW==0)
 (cond (x1==0)
 (Option.bind (M6 x5 x6 dS) fun r5=>
 Option.bind ((mK n n) r5.aq r5.Number r5.Version r5.ax r5.State r5.Ending r5.bE x5 x6) fun r6=>
 cond r6.2.2
 (l1 (([r5]:ay)) (((([r5]:ay)).length:Int)) (⟨#[]⟩:BA) (([]:aI)) r6.2.1 r5.aq r5.Number r5.Version r5.ax r5.State r5.Ending r5.bE dS (0,bG))
 (some ((⟨aS,aO,aT,aW,bh,bJ,bG,bL⟩:au),false)))
 (cond (decide (bZ>(i64.wrap (x6.Want+x6.bg))))
 (Option.bind (M6 x5 x6 dS) fun r8=>
 Option.bind ((mK n n) r8.aq r8.Number r8.Version r8.ax r8.State r8.Ending r8.bE x5 x6) fun r9=>
 cond r9.2.2
 (l1 (([r8]:ay)) (((([r8]:ay)).length:Int)) (⟨#[]⟩:BA) (([]:aI)) r9.2.1 r8.aq r8.Number r8.Version r8.ax r8.State r8.Ending r8.bE dS (0,bG))
 (some ((⟨aS,aO,aT,aW,bh,bJ,bG,bL⟩:au),false)))
 (some ((⟨aS,aO,aT,aW,bh,bJ,bG,bL⟩:au),false))))
 (cond (decide (bZ>(i64.wrap (x6.Want+x6.bg))))
 (Option.bind (M6 x5 x6 dS) fun ib=>
 Option.bind ((mK n n) ib.aq ib.Number ib.Version ib.ax ib.State ib.Ending ib.bE x5 x6) fun rT=>
 cond rT.2.2
 (l1 (([ib]:ay)) (((([ib]:ay)).length:Int)) (⟨#[]⟩:BA) (([]:aI)) rT.2.1 ib.aq ib.Number ib.Version ib.ax ib.State ib.Ending ib.bE dS (0,bG))
 (some ((⟨aS,aO,aT,aW,bh,bJ,bG,bL⟩:au),false)))
 (some ((⟨aS,aO,aT,aW,bh,bJ,bG,bL⟩:au),false))))
 (some ((⟨aS,aO,aT,aW,bh,bJ,bG,bL⟩:au),false))))
 (cond (x0==2)
 (cond (cW==0)
 (some ((⟨aS,aO,aT,aW,bh,bJ,bG,bL⟩:au),false))
 (cond (decide (bZ<x6.Want))
 (some ((⟨aS,aO,aT,aW,bh,bJ,bG,bL⟩:au),false))
 (cond (decide (bZ<(i64.wrap (x6.Want+x6.bg))))
 (some ((⟨aS,aO,1,aW,bh,bJ,bG,bL⟩:au),true))
 (l2 dS (dS.length:Int) ((([]:ay),0,x6,x5))))))
 (cond (x0==3)
 (alt (l4 dS (dS.length:Int) ((([]:ay),0)))
 (l6 dS (dS.length:Int) ((([]:ay),0))))
 (cond (x0==4)
 (cond (x6.bY==0)
 (some ((⟨aS,aO,aT,aW,bh,bJ,bG,bL⟩:au),false))
 (Option.bind (G95 x6) fun kH=>
 cond (decide (x6.Want<x6.aD))
 (some ((⟨aS,aO,aT,x6.aD,0,true,bG,bL⟩:au),true))
 (cond (decide (x6.Want>x6.aU))
 (some ((⟨aS,aO,aT,x6.aU,0,true,bG,bL⟩:au),true))
 (cond (decide (kH>x6.Want))
 (some ((⟨aS,aO,aT,kH,0,true,bG,bL⟩:au),true))
 (cond (decide (kH<x6.Want))
 (cond (x6.bb==3)
 (some ((⟨aS,aO,aT,i64.wrap (x6.Want-1),0,true,bG,bL⟩:au),true))
 (cond (decide (kH<x6.Want))
 (some ((⟨aS,aO,aT,x6.Want,i64.wrap (x6.bb+1),true,bG,bL⟩:au),true))
 (cond (x6.bb != 0)
 (some ((⟨aS,aO,aT,x6.Want,0,true,bG,bL⟩:au),true))
 (some ((⟨aS,aO,aT,aW,bh,bJ,bG,bL⟩:au),false)))))
 (cond (decide (kH<x6.Want))
 (some ((⟨aS,aO,aT,x6.Want,i64.wrap (x6.bb+1),true,bG,bL⟩:au),true))
 (cond (x6.bb != 0)
 (some ((⟨aS,aO,aT,x6.Want,0,true,bG,bL⟩:au),true))
 (some ((⟨aS,aO,aT,aW,bh,bJ,bG,bL⟩:au),false)))))))))
 (cond (x0==6)
 (cond (decide (cW>0))
 (some ((⟨aS,aO,aT,aW,bh,bJ,bG,bL⟩:au),false))
 (cond (x1==0)
 (some ((⟨aS,aO,aT,aW,bh,bJ,bG,bL⟩:au),false))
 (cond (decide (bZ<x6.Want))
 (some ((⟨aS,aO,aT,aW,bh,bJ,bG,bL⟩:au),false))
 (cond (decide (bZ<(i64.wrap (x6.Want+x6.bg))))
 (some ((⟨aS,aO,1,aW,bh,bJ,bG,bL⟩:au),true))
 (l8 dS (dS.length:Int) ((([]:ay),0,x6,x5)))))))
 (some ((⟨aS,aO,aT,aW,bh,bJ,bG,bL⟩:au),false)))))))
 (cond (x0 != 5)
 (some ((⟨aS,aO,aT,aW,bh,bJ,bG,bL⟩:au),false))
 (cond (decide ((dS.length:Int)>0))
 (ZJ dS (dS.length:Int) (⟨#[]⟩:BA) (([]:aI)) (0,bG))
 ((fun y=>alt y (alt y (alt y (y))))
 (some ((⟨aS,aO,aT,aW,bh,bJ,bG,true⟩:au),dI==0))))))
 (cond (x0==1)
 (cond (decide (bZ<x6.Want))
 (some ((⟨aS,aO,i64.wrap (x6.Want-bZ),aW,bh,bJ,bG,bL⟩:au),true))
 (cond (decide (bZ>x6.Want))
 (cond (cW==0)
 (cond (x1==0)
 (Option.bind (M6 x5 x6 dS) fun vM=>
 Option.bind ((mK n n) vM.aq vM.Number vM.Version vM.ax vM.State vM.Ending vM.bE x5 x6) fun Tk=>
 cond Tk.2.2
 (l1 (([vM]:ay)) (((([vM]:ay)).length:Int)) (⟨#[]⟩:BA) (([]:aI)) Tk.2.1 vM.aq vM.Number vM.Version vM.ax vM.State vM.Ending vM.bE dS (0,bG))
 (some ((⟨aS,aO,aT,aW,bh,bJ,bG,bL⟩:au),false)))
 (cond (decide (bZ>(i64.wrap (x6.Want+x6.bg))))
 (Option.bind (M6 x5 x6 dS) fun Aa=>
 Option.bind ((mK n n) Aa.aq Aa.Number Aa.Version Aa.ax Aa.State Aa.Ending Aa.bE x5 x6) fun r30=>
 cond r30.2.2
 (l1 (([Aa]:ay)) (((([Aa]:ay)).length:Int)) (⟨#[]⟩:BA) (([]:aI)) r30.2.1 Aa.aq Aa.Number Aa.Version Aa.ax Aa.State Aa.Ending Aa.bE dS (0,bG))
 (some ((⟨aS,aO,aT,aW,bh,bJ,bG,bL⟩:au),false)))
 (some ((⟨aS,aO,aT,aW,bh,bJ,bG,bL⟩:au),false))))
 (cond (decide (bZ>(i64.wrap (x6.Want+x6.bg))))
 (Option.bind (M6 x5 x6 dS) fun vL=>
 Option.bind ((mK n n) vL.aq vL.Number vL.Version vL.ax vL.State vL.Ending vL.bE x5 x6) fun r32=>
 cond r32.2.2
 (l1 (([vL]:ay)) (((([vL]:ay)).length:Int)) (⟨#[]⟩:BA) (([]:aI)) r32.2.1 vL.aq vL.Number vL.Version vL.ax vL.State vL.Ending vL.bE dS (0,bG))
 (some ((⟨aS,aO,aT,aW,bh,bJ,bG,bL⟩:au),false)))
 (some ((⟨aS,aO,aT,aW,bh,bJ,bG,bL⟩:au),false))))
 (some ((⟨aS,aO,aT,aW,bh,bJ,bG,bL⟩:au),false))))
 (cond (x0==2)
 (cond (cW==0)
 (some ((⟨aS,aO,aT,aW,bh,bJ,bG,bL⟩:au),false))
 (cond (decide (bZ<x6.Want))
 (some ((⟨aS,aO,aT,aW,bh,bJ,bG,bL⟩:au),false))
 (cond (decide (bZ<(i64.wrap (x6.Want+x6.bg))))
 (some ((⟨aS,aO,1,aW,bh,bJ,bG,bL⟩:au),true))
 (l2 dS (dS.length:Int) ((([]:ay),0,x6,x5))))))
 (cond (x0==3)
 (alt (l4 dS (dS.length:Int) ((([]:ay),0)))
 (l6 dS (dS.length:Int) ((([]:ay),0))))
 (cond (x0==4)
 (cond (x6.bY==0)
 (some ((⟨aS,aO,aT,aW,bh,bJ,bG,bL⟩:au),false))
 (Option.bind (G95 x6) fun Y7=>
 cond (decide (x6.Want<x6.aD))
 (some ((⟨aS,aO,aT,x6.aD,0,true,bG,bL⟩:au),true))
 (cond (decide (x6.Want>x6.aU))
 (some ((⟨aS,aO,aT,x6.aU,0,true,bG,bL⟩:au),true))
 (cond (decide (Y7>x6.Want))
 (some ((⟨aS,aO,aT,Y7,0,true,bG,bL⟩:au),true))
 (cond (decide (Y7<x6.Want))
 (cond (x6.bb==3)
 (some ((⟨aS,aO,aT,i64.wrap (x6.Want-1),0,true,bG,bL⟩:au),true))
 (cond (decide (Y7<x6.Want))
 (some ((⟨aS,aO,aT,x6.Want,i64.wrap (x6.bb+1),true,bG,bL⟩:au),true))
 (cond (x6.bb != 0)
 (some ((⟨aS,aO,aT,x6.Want,0,true,bG,bL⟩:au),true))
 (some ((⟨aS,aO,aT,aW,bh,bJ,bG,bL⟩:au),false)))))
 (cond (decide (Y7<x6.Want))
 (some ((⟨aS,aO,aT,x6.Want,i64.wrap (x6.bb+1),true,bG,bL⟩:au),true))
 (cond (x6.bb != 0)
 (some ((⟨aS,aO,aT,x6.Want,0,true,bG,bL⟩:au),true))
 (some ((⟨aS,aO,aT,aW,bh,bJ,bG,bL⟩:au),false)))))))))
 (cond (x0==6)
 (cond (decide (cW>0))
 (some ((⟨aS,aO,aT,aW,bh,bJ,bG,bL⟩:au),false))
 (cond (x1==0)
 (some ((⟨aS,aO,aT,aW,bh,bJ,bG,bL⟩:au),false))
 (cond (decide (bZ<x6.Want))
 (some ((⟨aS,aO,aT,aW,bh,bJ,bG,bL⟩:au),false))
 (cond (decide (bZ<(i64.wrap (x6.Want+x6.bg))))
 (some ((⟨aS,aO,1,aW,bh,bJ,bG,bL⟩:au),true))
 (l8 dS (dS.length:Int) ((([]:ay),0,x6,x5)))))))
 (some ((⟨aS,aO,aT,aW,bh,bJ,bG,bL⟩:au),false))))))))
def uL (x0:Int) (x2:ay) (x3:Int) (x5:C .bU) (x6:C .bD) (aS:BA) (aO aT aW bh:Int) (bJ:Bool) (bG:aI) (bL:Bool) (bZ cW dI:Int) (n:Nat)   (aM:u7→Option (au×Bool)):u7→Option (au×Bool):=Gd x0 x2 x3 x5 x6 aS aO aT aW bh bJ bG bL bZ cW dI n  aM (fun y0 y1 wy TF G3 y32 TD y34 y35 V4 y37 y38 y39 z=>bS (zZ y0 y1 aS aO aT aW bh bJ bL n ) n z) (fun y0 y1 z=>bS (xc y0 y1 aS aO aT aW bh bJ bG bL n ) n z) (fun y0 y1 z=>bS (xb y0 y1 aS aO aT aW bh bJ bG bL n ) n z) (fun y0 y1 z=>bS (w9 y0 y1 aS aO aT aW bh bJ bG bL n ) n z) (fun y0 y1 z=>bS (w8 y0 y1 aS aO aT aW bh bJ bG bL n ) n z) (fun y0 y1 y9 Hm z=>bS (xe y0 y1 aS aO aT aW bh bJ bL n ) n z)
section
variable (x0:ay) (x1:Int) (x3:Bool) (x4:BA) (x5 x6 x7 x8:Int) (x9 aN:Bool) (aP:BA) (aX bf aS aO:Int) (aT:Bool) (aW:aI) (bh:Bool) (bJ:C .bD) (bG:BA) (bL bZ da cW:Int) (dE:Bool) (dI:aI) (dS:Bool) (gz gi gy lW mw:Int) (qn:BA) (qm pQ pP pO:Int) (pN:Bool) (zM:BA) (zL:ay)
def Sf (n:Nat)  (x:BN):Option (au×Bool):=iter (fun rec S=>run Bz (Lx n) (aw (av Try.f88) [1,0,1,0,0]) 0 S (cH rec (bW 0 (bA (run Bz (Lx n) (aw (av Try.f88) [1,1]) 0) (fu Bz Try.f88 (dB 158000 0 (some 158) (eJ (me n) (aw (av Try.f46) [1,1,1,1,1,1,1,1,1,1,1,1,1,0,1,0,1,0,1,1,0,1,1,0,0]) 4 (fq (ql n) (bA (run (me n) (ql n) (aw (av Try.f46) [1,1,1,1,1,1,1,1,1,1,1,1,1,0,1,0,1,0,1,1,0,1,1,0,1]) 3) (bW 3 (bA (run (me n) (ql n) (aw (av Try.f46) [1,1,1,1,1,1,1,1,1,1,1,1,1,1]) 0) (dM (me n) Try.f46 n9)))))))))))) [0,1,3,7,8,9] n (s46_1 x0 x1 x3 x4 x5 x6 x7 x8 x9 aN aP aX bf aS aO aT aW bh bJ bG bL bZ da cW dE dI dS gz gi gy lW mw qn qm pQ pP pO pN zM zL x)
theorem m46_1 (n:Nat)  (x:BN):Sf x0 x1 x3 x4 x5 x6 x7 x8 x9 aN aP aX bf aS aO aT aW bh bJ bG bL bZ da cW dE dI dS gz gi gy lW mw qn qm pQ pP pO pN zM zL n  x=bS (zZ x0 x1 x4 x5 x6 x7 x8 x9 aN n  ) n x:=by
 refine iter_eq _ _ (fun dg x=>?_) n x;obtain ⟨x2,aK⟩:=x
 kernel_rfl
end
section
variable (x0:ay) (x1:Int) (x3:ay) (x4:Bool) (x5:C .bU) (x6:C .bD) (x7:BA) (x8 x9 aK aN:Int) (aP:Bool) (aX bf:BA) (aS aO aT aW:Int) (bh bG:Bool) (bL:BA) (bZ da cW dE:Int) (dI:Bool) (dS:aI) (gz:Bool) (gi:C .bU) (gy:C .bD) (lW:BA) (mw qn qm pQ:Int) (pP:Bool) (pO:aI) (pN:Bool) (zM:BA) (zL Hs Dw Dv:Int) (Du:Bool) (Dt:aI) (Dr:Bool) (Dq Dp Hr Hq Hp:Int) (Ho:ay)
def Sd (n:Nat)  (x:BM):Option (au×Bool):=iter (fun rec S=>run Bz (Lx n) (aw (av Try.f88) [1,0,1,0,0]) 0 S (cH rec (bW 0 (bA (run Bz (Lx n) (aw (av Try.f88) [1,1]) 0) (fu Bz Try.f88 (dB 197018000 197000 (some 18) (mq (Yb n) (aw (av Try.f90) [1,1,0]) 4090 [7,8,9,10] (fq (F90 n) (bA (run (Yb n) (F90 n) (aw (av Try.f90) [1,1,1]) 0) (fu (Yb n) Try.f90 (dB 196000 0 (some 196) (eJ (me n) (aw (av Try.f46) [1,1,1,1,1,1,1,1,1,1,1,1,1,0,1,0,1,1,1,0,1,1,0]) 5 (fq (ql n) (bA (run (me n) (ql n) (aw (av Try.f46) [1,1,1,1,1,1,1,1,1,1,1,1,1,0,1,0,1,1,1,0,1,1,1]) 3) (bW 3 (bA (run (me n) (ql n) (aw (av Try.f46) [1,1,1,1,1,1,1,1,1,1,1,1,1,1]) 0) (dM (me n) Try.f46 n9))))))))))))))))) [0,1,3,7,8,9] n (s46_3 x0 x1 x3 x4 x5 x6 x7 x8 x9 aK aN aP aX bf aS aO aT aW bh bG bL bZ da cW dE dI dS gz gi gy lW mw qn qm pQ pP pO pN zM zL Hs Dw Dv Du Dt Dr Dq Dp Hr Hq Hp Ho x)
theorem m46_3 (n:Nat)  (x:BM):Sd x0 x1 x3 x4 x5 x6 x7 x8 x9 aK aN aP aX bf aS aO aT aW bh bG bL bZ da cW dE dI dS gz gi gy lW mw qn qm pQ pP pO pN zM zL Hs Dw Dv Du Dt Dr Dq Dp Hr Hq Hp Ho n  x=bS (Eu x0 x1 bf aS aO aT aW bh bG n  ) n x:=by
 refine iter_eq _ _ (fun dz x=>?_) n x;obtain ⟨x2,bJ⟩:=x
 kernel_rfl
end
section
variable (x1:ay) (x2:Int) (x5:BA) (x6 x7 x8 x9:Int) (aK:Bool) (aN:aI) (aP:Bool) (aX:BA) (bf aS aO aT:Int) (aW:Bool) (bh:aI) (bJ:Bool) (bG bL bZ da cW:Int)
def Se (n:Nat)  (x:u6):Option (au×Bool):=iter (fun rec S=>run (KS n) (TA n) (aw (av Try.f86) [1,1,0,1,0,0]) 0 S (cH rec (bW 0 (bA (run (KS n) (TA n) (aw (av Try.f86) [1,1,1]) 0) (fu (KS n) Try.f86 (dB 195000 0 (some 195) (eJ (me n) (aw (av Try.f46) [1,1,1,1,1,1,1,1,1,1,1,1,1,0,1,0,1,1,1,0,1,1,0]) 4 (fq (ql n) (bA (run (me n) (ql n) (aw (av Try.f46) [1,1,1,1,1,1,1,1,1,1,1,1,1,0,1,0,1,1,1,0,1,1,1]) 3) (bW 3 (bA (run (me n) (ql n) (aw (av Try.f46) [1,1,1,1,1,1,1,1,1,1,1,1,1,1]) 0) (dM (me n) Try.f46 n9)))))))))))) [0,4,7,8,9] n (Wd x1 x2 x5 x6 x7 x8 x9 aK aN aP aX bf aS aO aT aW bh bJ bG bL bZ da cW x)
theorem m46_2 (n:Nat)  (x:u6):Se x1 x2 x5 x6 x7 x8 x9 aK aN aP aX bf aS aO aT aW bh bJ bG bL bZ da cW n  x=bS (xc x1 x2 aX bf aS aO aT aW bh bJ n  ) n x:=by
 refine iter_eq _ _ (fun dD x=>?_) n x;obtain ⟨x0,x3,x4,dE⟩:=x;refine Eq.trans (b:=KY x1 x2 aX bf aS aO aT aW bh bJ n   (fun x=>dD (Wd x1 x2 x5 x6 x7 x8 x9 aK aN aP aX bf aS aO aT aW bh bJ bG bL bZ da cW x)) (fun y0 y1 y2 y4 y5 y6 y7 y8 y9 wy G4 Nj zK GZ Ni TE V5 V4 z=>Sd y0 y1 y2 false y4 y5 y6 y7 y8 y9 wy G4 Nj aX bf aS aO aT aW bJ zK 0 0 0 0 false GZ false Ni TE V5 0 0 0 0 false V4 false x5 x6 x7 x8 x9 aK aN aP bG bL bZ da cW x1 n   z) (x0,x3,x4,dE)) (by kernel_rfl) ?_;simp only [xc,m46_3]
end
section
variable (x0:ay) (x1:Int) (x3:BA) (x4 x5 x6 x7:Int) (x8 aK:Bool) (aN:BA) (aP aX bf aS:Int) (aO:Bool) (aT:aI) (aW:Bool) (bh:C .bD) (bJ:BA) (bG bL bZ da:Int) (cW:Bool) (dE:aI) (dI:Bool) (dS gz gi gy lW:Int) (mw:ay)
def Sb (n:Nat)  (x:BL):Option (au×Bool):=iter (fun rec S=>run Bz (Lx n) (aw (av Try.f88) [1,0,1,0,0]) 0 S (cH rec (bW 0 (bA (run Bz (Lx n) (aw (av Try.f88) [1,1]) 0) (fu Bz Try.f88 (dB 204000 0 (some 204) (mq (me n) (aw (av Try.f46) [1,1,1,1,1,1,1,1,1,1,1,1,1,0,1,0,1,1,1,1,1,0,0]) 4093 [4,5,6,7] (fq (ql n) (bA (run (me n) (ql n) (aw (av Try.f46) [1,1,1,1,1,1,1,1,1,1,1,1,1,0,1,0,1,1,1,1,1,0,1]) 3) (bW 3 (bA (run (me n) (ql n) (aw (av Try.f46) [1,1,1,1,1,1,1,1,1,1,1,1,1,1]) 0) (dM (me n) Try.f46 n9)))))))))))) [0,1,3,7,8,9] n (s46_5 x0 x1 x3 x4 x5 x6 x7 x8 aK aN aP aX bf aS aO aT aW bh bJ bG bL bZ da cW dE dI dS gz gi gy lW mw x)
theorem m46_5 (n:Nat)  (x:BL):Sb x0 x1 x3 x4 x5 x6 x7 x8 aK aN aP aX bf aS aO aT aW bh bJ bG bL bZ da cW dE dI dS gz gi gy lW mw n  x=bS (Et x0 x1 x3 x4 x5 x6 x7 x8 aK n  ) n x:=by
 refine iter_eq _ _ (fun LY x=>?_) n x;obtain ⟨x2,x9⟩:=x
 kernel_rfl
end
section
variable (x1:ay) (x2:Int) (x4:C .bD) (x5:BA) (x6 x7 x8 x9:Int) (aK:Bool) (aN:aI) (aP:Bool) (aX:BA) (bf aS aO aT:Int) (aW:Bool) (bh:aI) (bJ:Bool) (bG bL bZ da cW:Int)
def Sc (n:Nat)  (x:u5):Option (au×Bool):=iter (fun rec S=>run (KS n) (TA n) (aw (av Try.f86) [1,1,0,1,0,0]) 0 S (cH rec (bW 0 (bA (run (KS n) (TA n) (aw (av Try.f86) [1,1,1]) 0) (fu (KS n) Try.f86 (dB 203000 0 (some 203) (mq (me n) (aw (av Try.f46) [1,1,1,1,1,1,1,1,1,1,1,1,1,0,1,0,1,1,1,1,1,0,0]) 4094 [3,4,5,6,7] (fq (ql n) (bA (run (me n) (ql n) (aw (av Try.f46) [1,1,1,1,1,1,1,1,1,1,1,1,1,0,1,0,1,1,1,1,1,0,1]) 3) (bW 3 (bA (run (me n) (ql n) (aw (av Try.f46) [1,1,1,1,1,1,1,1,1,1,1,1,1,1]) 0) (dM (me n) Try.f46 n9)))))))))))) [0,4,7,8,9] n (Wc x1 x2 x4 x5 x6 x7 x8 x9 aK aN aP aX bf aS aO aT aW bh bJ bG bL bZ da cW x)
theorem m46_4 (n:Nat)  (x:u5):Sc x1 x2 x4 x5 x6 x7 x8 x9 aK aN aP aX bf aS aO aT aW bh bJ bG bL bZ da cW n  x=bS (xb x1 x2 aX bf aS aO aT aW bh bJ n  ) n x:=by
 refine iter_eq _ _ (fun qp x=>?_) n x;obtain ⟨x0,x3⟩:=x;refine Eq.trans (b:=KX x1 x2 bh n   (fun x=>qp (Wc x1 x2 x4 x5 x6 x7 x8 x9 aK aN aP aX bf aS aO aT aW bh bJ bG bL bZ da cW x)) (fun y0 y1 y9 Hm z=>Sb y0 y1 aX bf aS aO aT aW bJ y9 0 0 0 0 false Hm false x4 x5 x6 x7 x8 x9 aK aN aP bG bL bZ da cW x1 n   z) (x0,x3)) (by kernel_rfl) ?_;simp only [xb,m46_5]
end
section
variable (x0:ay) (x1:Int) (x3:BA) (x4 x5 x6 x7:Int) (x8 aK:Bool) (aN:BA) (aP aX bf aS:Int) (aO:Bool) (aT:aI) (aW:Bool) (bh:C .bD) (bJ:BA) (bG bL bZ da:Int) (cW:Bool) (dE:aI) (dI:Bool) (dS gz gi gy lW:Int) (mw:ay)
def R7 (n:Nat)  (x:BK):Option (au×Bool):=iter (fun rec S=>run Bz (Lx n) (aw (av Try.f88) [1,0,1,0,0]) 0 S (cH rec (bW 0 (bA (run Bz (Lx n) (aw (av Try.f88) [1,1]) 0) (fu Bz Try.f88 (dB 204000 0 (some 204) (mq (me n) (aw (av Try.f46) [1,1,1,1,1,1,1,1,1,1,1,1,1,0,1,0,1,1,1,1,1,0,0]) 4092 [4,5,6,7] (fq (ql n) (bA (run (me n) (ql n) (aw (av Try.f46) [1,1,1,1,1,1,1,1,1,1,1,1,1,0,1,0,1,1,1,1,1,0,1]) 3) (bW 3 (bA (run (me n) (ql n) (aw (av Try.f46) [1,1,1,1,1,1,1,1,1,1,1,1,1,1]) 0) (dM (me n) Try.f46 n9)))))))))))) [0,1,3,7,8,9] n (s46_7 x0 x1 x3 x4 x5 x6 x7 x8 aK aN aP aX bf aS aO aT aW bh bJ bG bL bZ da cW dE dI dS gz gi gy lW mw x)
theorem m46_7 (n:Nat)  (x:BK):R7 x0 x1 x3 x4 x5 x6 x7 x8 aK aN aP aX bf aS aO aT aW bh bJ bG bL bZ da cW dE dI dS gz gi gy lW mw n  x=bS (Es x0 x1 x3 x4 x5 x6 x7 x8 aK n  ) n x:=by
 refine iter_eq _ _ (fun jP x=>?_) n x;obtain ⟨x2,x9⟩:=x
 kernel_rfl
end
section
variable (x1:ay) (x2:Int) (x4:C .bD) (x5:BA) (x6 x7 x8 x9:Int) (aK:Bool) (aN:aI) (aP:Bool) (aX:BA) (bf aS aO aT:Int) (aW:Bool) (bh:aI) (bJ:Bool) (bG bL bZ da cW:Int)
def R9 (n:Nat)  (x:u4):Option (au×Bool):=iter (fun rec S=>run (KS n) (TA n) (aw (av Try.f86) [1,1,0,1,0,0]) 0 S (cH rec (bW 0 (bA (run (KS n) (TA n) (aw (av Try.f86) [1,1,1]) 0) (fu (KS n) Try.f86 (dB 203000 0 (some 203) (mq (me n) (aw (av Try.f46) [1,1,1,1,1,1,1,1,1,1,1,1,1,0,1,0,1,1,1,1,1,0,0]) 4094 [0,3,4,5,6,7] (fq (ql n) (bA (run (me n) (ql n) (aw (av Try.f46) [1,1,1,1,1,1,1,1,1,1,1,1,1,0,1,0,1,1,1,1,1,0,1]) 3) (bW 3 (bA (run (me n) (ql n) (aw (av Try.f46) [1,1,1,1,1,1,1,1,1,1,1,1,1,1]) 0) (dM (me n) Try.f46 n9)))))))))))) [0,4,7,8,9] n (Wb x1 x2 x4 x5 x6 x7 x8 x9 aK aN aP aX bf aS aO aT aW bh bJ bG bL bZ da cW x)
theorem m46_6 (n:Nat)  (x:u4):R9 x1 x2 x4 x5 x6 x7 x8 x9 aK aN aP aX bf aS aO aT aW bh bJ bG bL bZ da cW n  x=bS (w9 x1 x2 aX bf aS aO aT aW bh bJ n  ) n x:=by
 refine iter_eq _ _ (fun zu x=>?_) n x;obtain ⟨x0,x3⟩:=x;refine Eq.trans (b:=KW x1 x2 bh n   (fun x=>zu (Wb x1 x2 x4 x5 x6 x7 x8 x9 aK aN aP aX bf aS aO aT aW bh bJ bG bL bZ da cW x)) (fun y0 y1 y9 Hm z=>R7 y0 y1 aX bf aS aO aT aW bJ y9 0 0 0 0 false Hm false x4 x5 x6 x7 x8 x9 aK aN aP bG bL bZ da cW x1 n   z) (x0,x3)) (by kernel_rfl) ?_;simp only [w9,m46_7]
end
section
variable (x0:ay) (x1:Int) (x3:ay) (x4:Bool) (x5:C .bU) (x6:C .bD) (x7:BA) (x8 x9 aK aN:Int) (aP:Bool) (aX bf:BA) (aS aO aT aW:Int) (bh bG:Bool) (bL:BA) (bZ da cW dE:Int) (dI:Bool) (dS:aI) (gz:Bool) (gi:C .bU) (gy:C .bD) (lW:BA) (mw qn qm pQ:Int) (pP:Bool) (pO:aI) (pN:Bool) (zM:BA) (zL Hs Dw Dv:Int) (Du:Bool) (Dt:aI) (Dr:Bool) (Dq Dp Hr Hq Hp:Int) (Ho:ay)
def R5 (n:Nat)  (x:BJ):Option (au×Bool):=iter (fun rec S=>run Bz (Lx n) (aw (av Try.f88) [1,0,1,0,0]) 0 S (cH rec (bW 0 (bA (run Bz (Lx n) (aw (av Try.f88) [1,1]) 0) (fu Bz Try.f88 (dB 362018000 362000 (some 18) (mq (Yb n) (aw (av Try.f90) [1,1,0]) 4090 [7,8,9,10] (fq (F90 n) (bA (run (Yb n) (F90 n) (aw (av Try.f90) [1,1,1]) 0) (fu (Yb n) Try.f90 (dB 361000 0 (some 361) (eJ (me n) (aw (av Try.f46) [1,1,1,1,1,1,1,1,1,1,1,1,1,0,1,0,1,1,1,1,1,1,1,1,1,0,1,1,0]) 5 (fq (ql n) (bA (run (me n) (ql n) (aw (av Try.f46) [1,1,1,1,1,1,1,1,1,1,1,1,1,0,1,0,1,1,1,1,1,1,1,1,1,0,1,1,1]) 3) (bW 3 (bA (run (me n) (ql n) (aw (av Try.f46) [1,1,1,1,1,1,1,1,1,1,1,1,1,1]) 0) (dM (me n) Try.f46 n9))))))))))))))))) [0,1,3,7,8,9] n (s46_9 x0 x1 x3 x4 x5 x6 x7 x8 x9 aK aN aP aX bf aS aO aT aW bh bG bL bZ da cW dE dI dS gz gi gy lW mw qn qm pQ pP pO pN zM zL Hs Dw Dv Du Dt Dr Dq Dp Hr Hq Hp Ho x)
theorem m46_9 (n:Nat)  (x:BJ):R5 x0 x1 x3 x4 x5 x6 x7 x8 x9 aK aN aP aX bf aS aO aT aW bh bG bL bZ da cW dE dI dS gz gi gy lW mw qn qm pQ pP pO pN zM zL Hs Dw Dv Du Dt Dr Dq Dp Hr Hq Hp Ho n  x=bS (Er x0 x1 bf aS aO aT aW bh bG n  ) n x:=by
 refine iter_eq _ _ (fun Ec x=>?_) n x;obtain ⟨x2,bJ⟩:=x
 kernel_rfl
end
section
variable (x1:ay) (x2:Int) (x5:BA) (x6 x7 x8 x9:Int) (aK:Bool) (aN:aI) (aP:Bool) (aX:BA) (bf aS aO aT:Int) (aW:Bool) (bh:aI) (bJ:Bool) (bG bL bZ da cW:Int)
def R6 (n:Nat)  (x:u3):Option (au×Bool):=iter (fun rec S=>run (KS n) (TA n) (aw (av Try.f86) [1,1,0,1,0,0]) 0 S (cH rec (bW 0 (bA (run (KS n) (TA n) (aw (av Try.f86) [1,1,1]) 0) (fu (KS n) Try.f86 (dB 360000 0 (some 360) (eJ (me n) (aw (av Try.f46) [1,1,1,1,1,1,1,1,1,1,1,1,1,0,1,0,1,1,1,1,1,1,1,1,1,0,1,1,0]) 4 (fq (ql n) (bA (run (me n) (ql n) (aw (av Try.f46) [1,1,1,1,1,1,1,1,1,1,1,1,1,0,1,0,1,1,1,1,1,1,1,1,1,0,1,1,1]) 3) (bW 3 (bA (run (me n) (ql n) (aw (av Try.f46) [1,1,1,1,1,1,1,1,1,1,1,1,1,1]) 0) (dM (me n) Try.f46 n9)))))))))))) [0,4,7,8,9] n (Wa x1 x2 x5 x6 x7 x8 x9 aK aN aP aX bf aS aO aT aW bh bJ bG bL bZ da cW x)
theorem m46_8 (n:Nat)  (x:u3):R6 x1 x2 x5 x6 x7 x8 x9 aK aN aP aX bf aS aO aT aW bh bJ bG bL bZ da cW n  x=bS (w8 x1 x2 aX bf aS aO aT aW bh bJ n  ) n x:=by
 refine iter_eq _ _ (fun wZ x=>?_) n x;obtain ⟨x0,x3,x4,dE⟩:=x;refine Eq.trans (b:=KV x1 x2 aX bf aS aO aT aW bh bJ n   (fun x=>wZ (Wa x1 x2 x5 x6 x7 x8 x9 aK aN aP aX bf aS aO aT aW bh bJ bG bL bZ da cW x)) (fun y0 y1 y2 y4 y5 y6 y7 y8 y9 wy G4 Nj zK GZ Ni TE V5 V4 z=>R5 y0 y1 y2 false y4 y5 y6 y7 y8 y9 wy G4 Nj aX bf aS aO aT aW bJ zK 0 0 0 0 false GZ false Ni TE V5 0 0 0 0 false V4 false x5 x6 x7 x8 x9 aK aN aP bG bL bZ da cW x1 n   z) (x0,x3,x4,dE)) (by kernel_rfl) ?_;simp only [w8,m46_9]
end
section
variable (x0:ay) (x1:Int) (x3:BA) (x4 x5 x6 x7:Int) (x8 aK:Bool) (aN:BA) (aP aX bf aS:Int) (aO:Bool) (aT:aI) (aW:Bool) (bh:C .bD) (bJ:BA) (bG bL bZ da:Int) (cW:Bool) (dE:aI) (dI:Bool) (dS gz gi gy lW:Int)
def K9 (n:Nat)  (x:uz):Option (au×Bool):=iter (fun rec S=>run Bz (Lx n) (aw (av Try.f88) [1,0,1,0,0]) 0 S (cH rec (bW 0 (bA (run Bz (Lx n) (aw (av Try.f88) [1,1]) 0) (fu Bz Try.f88 (dB 94000 0 (some 94) (eJ (me n) (aw (av Try.f46) [1,1,1,1,1,1,1,1,1,1,1,1,0,1,0,0,1,1,1,1,1,0,0]) 3 (fq (ql n) (bA (run (me n) (ql n) (aw (av Try.f46) [1,1,1,1,1,1,1,1,1,1,1,1,0,1,0,0,1,1,1,1,1,0,1]) 2) (bW 2 (bA (run (me n) (ql n) (aw (av Try.f46) [1,1,1,1,1,1,1,1,1,1,1,1,1]) 0) (dM (me n) Try.f46 n9)))))))))))) [0,1,3,7,8,9] n (YL x0 x1 x3 x4 x5 x6 x7 x8 aK aN aP aX bf aS aO aT aW bh bJ bG bL bZ da cW dE dI dS gz gi gy lW x)
theorem Zk (n:Nat)  (x:uz):K9 x0 x1 x3 x4 x5 x6 x7 x8 aK aN aP aX bf aS aO aT aW bh bJ bG bL bZ da cW dE dI dS gz gi gy lW n  x=bS (xe x0 x1 x3 x4 x5 x6 x7 x8 aK n  ) n x:=by
 refine iter_eq _ _ (fun uI x=>?_) n x;obtain ⟨x2,x9⟩:=x
 kernel_rfl
end
section
variable (x0:Int) (x2:ay) (x3:Int) (x5:C .bU) (x6:C .bD) (x7:BA) (x8 x9 aK aN:Int) (aP:Bool) (aX:aI) (bf:Bool) (aS:BA) (aO aT aW bh:Int) (bJ:Bool) (bG:aI) (bL:Bool) (bZ da cW dE dI:Int)
def Sg (n:Nat)  (x:u7):Option (au×Bool):=iter (fun rec S=>run (me n) (ql n) (aw (av Try.f46) [1,1,1,1,1,0,1,0,0]) 0 S (cH rec (bW 0 (bA (run (me n) (ql n) (aw (av Try.f46) [1,1,1,1,1,1]) 0) (dM (me n) Try.f46 n9))))) [1,3,5,6,8,9,10,11,37,38,39] n (We x0 x2 x3 x5 x6 x7 x8 x9 aK aN aP aX bf aS aO aT aW bh bJ bG bL bZ da cW dE dI x)
theorem m46_0 (n:Nat)  (x:u7):Sg x0 x2 x3 x5 x6 x7 x8 x9 aK aN aP aX bf aS aO aT aW bh bJ bG bL bZ da cW dE dI n  x=bS (uL x0 x2 x3 x5 x6 aS aO aT aW bh bJ bG bL bZ cW dI n  ) n x:=by
 refine iter_eq _ _ (fun aM x=>?_) n x;obtain ⟨x1,x4,dS⟩:=x;refine Eq.trans (b:=Gd x0 x2 x3 x5 x6 aS aO aT aW bh bJ bG bL bZ cW dI n   (fun x=>aM (We x0 x2 x3 x5 x6 x7 x8 x9 aK aN aP aX bf aS aO aT aW bh bJ bG bL bZ da cW dE dI x)) (fun y0 y1 wy TF G3 y32 TD y34 y35 V4 y37 y38 y39 z=>Sf y0 y1 true aS aO aT aW bh bJ bL wy 0 0 0 0 false TF false G3 x7 x8 x9 aK aN aP aX bf bZ da cW dE dI y32 TD y34 y35 V4 y37 y38 y39 n   z) (fun y0 y1 z=>Se y0 y1 x7 x8 x9 aK aN aP aX bf aS aO aT aW bh bJ bG bL bZ da cW dE dI n   z) (fun y0 y1 z=>Sc y0 y1 x6 x7 x8 x9 aK aN aP aX bf aS aO aT aW bh bJ bG bL bZ da cW dE dI n   z) (fun y0 y1 z=>R9 y0 y1 x6 x7 x8 x9 aK aN aP aX bf aS aO aT aW bh bJ bG bL bZ da cW dE dI n   z) (fun y0 y1 z=>R6 y0 y1 x7 x8 x9 aK aN aP aX bf aS aO aT aW bh bJ bG bL bZ da cW dE dI n   z) (fun y0 y1 y9 Hm z=>K9 y0 y1 aS aO aT aW bh bJ bL y9 0 0 0 0 false Hm false x6 x7 x8 x9 aK aN aP aX bf bZ da cW dE dI n   z) (x1,x4,dS)) (by kernel_rfl) ?_;simp only [uL,m46_1,Zk,m46_2,m46_4,m46_6,m46_8]
end
def VM (n:Nat) (a0:C .bU) (a1:Int) (a2:C .bD):Option (au×Bool):=
 Option.bind (NC a0 a2) fun r1=>
 bS (uL a1 a0.ah (a0.ah.length:Int) a0 a2 a2.Name a2.Version 0 0 0 false (([]:aI)) false r1.Live r1.Old r1.Ending n ) n ((0,0,([]:ay)))
theorem t46 (n:Nat) (a0:C .bU) (a1:Int) (a2:C .bD):db (me n) (ql n) Try.f46 [.one (.eS .bU a0 0),.one (.int .i64 a1),.one (.eS .bD a2 0)] n9=VM n a0 a1 a2:=by
 refine Eq.trans (b:=
  Option.bind (NC a0 a2) fun r1=>
  Sg a1 a0.ah (a0.ah.length:Int) a0 a2 (⟨#[]⟩:BA) 0 0 0 0 false (([]:aI)) false a2.Name a2.Version 0 0 0 false (([]:aI)) false r1.Live r1.qE r1.Old r1.Failed r1.Ending n   ((0,0,([]:ay)))) (by kernel_rfl) ?_
 simp only [VM,m46_0]
def G46 (a0:C .bU) (a1:Int) (a2:C .bD):Option (au×Bool):=VM fuel a0 a1 a2
def XH:iu C:=kD KK [.ptr .bU,.int .i64,.ptr .bD] [.el .jq,.bool] G46
theorem c46:cL Try.prog KK 46 XH:=cP (fV ⟨c77,c84,c85,c91,c95,trivial⟩ trivial ⟨i86 _,i87 _,i88 _,i89 _,i90 _,i92 _,i93 _,i94 _,i96 _,trivial⟩:Cons Try.prog (me fuel)) (fn:=Try.f46) (ql fuel) (fun a0 a1 a2=>t46 fuel a0 a1 a2)
def X17:Cx C:=eP [(11,QW),(46,XH)] [] [] [] 1114112 []
def F17 (n:Nat):Cf:={ N:=n,keep:=[0,1,3,4,5,6,7,8,19,22,23,24,35],live:=lk [(0,[0,3,5,22,23])] }
abbrev Xw:=iX KK [.row .jq]
abbrev GW:Type:=eI×Int
section
variable (x0 x2 x4:Int) (x5:aB) (x6:ay) (x7:aA)
def s17_0:GW→St C:=fun (x1,x3)=>{ env:=[(0,.one (.int .i64 x0)),(3,.one (.ptr 1114304 0)),(5,.one (.ref 100005 [])),(22,.one (.int .i64 x2)),(23,.one (.int .i64 x3))],aj:=[(100005,.row .jq x1 false),(1114304,.box .mem [.int .i64 x4,.row .bD x5,.row .bX x6,.row .cC x7])],base:=0 }
end
def ED (x0 x2 x4:Int) (x5:aB) (x6:ay) (x7:aA) (n:Nat)   (aM:GW→Option (eI)):GW→Option (eI):=fun (x1,x3)=>
 cond (decide (x3<x2))
 (cond (decide (0≤x3)) (Option.bind x5[x3.toNat]? fun e2=>Option.bind (G46 (⟨x4,x5,x6,x7⟩:aa) x0 e2) fun r3=>
 cond r3.2
 (cond (decide ((x1.length+(([r3.1]:eI)).length)*88≤140737488355328)) (aM ((x1++(([r3.1]:eI)),i64.wrap (x3+1)))) none)
 (aM ((x1,i64.wrap (x3+1))))) none)
 (some (x1))
section
variable (x0 x2 x4:Int) (x5:aB) (x6:ay) (x7:aA)
def Sz (n:Nat)  (x:GW):Option (eI):=iter (fun rec S=>run X17 (F17 n) (aw (av Try.f17) [1,1,1,0,1,0,0]) 0 S (cH rec (bW 0 (bA (run X17 (F17 n) (aw (av Try.f17) [1,1,1,1]) 0) (dM X17 Try.f17 Xw))))) [0,3,5,22,23] n (s17_0 x0 x2 x4 x5 x6 x7 x)
theorem m17_0 (n:Nat)  (x:GW):Sz x0 x2 x4 x5 x6 x7 n  x=bS (ED x0 x2 x4 x5 x6 x7 n  ) n x:=by
 refine iter_eq _ _ (fun aM x=>?_) n x;obtain ⟨x1,x3⟩:=x
 kernel_rfl
end
def Na (n:Nat) (a0:Int) (a1:aa):Option (eI):=
 Option.bind (G11 a1) fun r1=>
 cond (!r1)
 (some (([]:eI)))
 (cond (decide (a0<1))
 (some (([]:eI)))
 (cond (decide (a0>6))
 (some (([]:eI)))
 (bS (ED a0 (a1.af.length:Int) a1.bM a1.af a1.ah a1.ak n ) n ((([]:eI),0)))))
theorem t17 (n:Nat) (a0:Int) (a1:aa):db X17 (F17 n) Try.f17 [.one (.int .i64 a0),.agg [.int .i64 a1.bM,.row .bD a1.af,.row .bX a1.ah,.row .cC a1.ak]] Xw=Na n a0 a1:=by
 refine Eq.trans (b:=
  Option.bind (G11 a1) fun r1=>
  cond (!r1)
  (some (([]:eI)))
  (cond (decide (a0<1))
  (some (([]:eI)))
  (cond (decide (a0>6))
  (some (([]:eI)))
  (Sz a0 (a1.af.length:Int) a1.bM a1.af a1.ah a1.ak n   ((([]:eI),0)))))) (by kernel_rfl) ?_
 simp only [Na,m17_0]
def Yp (a0:Int) (a1:aa):Option (eI):=Na fuel a0 a1
def XP:iu C:=kD KK [.int .i64,.el .bU] [.row .jq] Yp
theorem c17:cL Try.prog KK 17 XP:=cP (fV ⟨c11,c46,trivial⟩ trivial trivial:Cons Try.prog X17) (fn:=Try.f17) (F17 fuel) (fun a0 a1=>t17 fuel a0 a1)
def X47:Cx C:=eP [] [] [] [] 3080192 []
def F47 (n:Nat):Cf:={ N:=n,keep:=[0,1,2,3,4,5,61,66,79],live:=lk [(0,[2,3,5])] }
abbrev Xp:=iX KK [.bool]
abbrev GN:Type:=Int
section
variable (x1:BA) (x2 x3 x4 x5:Int) (x6:Bool) (x7:aI) (x8:Bool) (x9:BA) (aK aN aP aX:Int) (bf:Bool) (aS:aI) (aO:Bool)
def s47_0:GN→St C:=fun x0=>{ env:=[(2,.one (.ptr 3080320 0)),(3,.one (.ptr 3080384 0)),(5,.one (.int .i64 x0))],aj:=[(3080320,.box .mem [.str x1,.int .i64 x2,.int .i64 x3,.int .i64 x4,.int .i64 x5,.bool x6,.row .fw x7,.bool x8]),(3080384,.box .mem [.str x9,.int .i64 aK,.int .i64 aN,.int .i64 aP,.int .i64 aX,.bool bf,.row .fw aS,.bool aO])],base:=0 }
end
def Ep (x7 aS:aI) (n:Nat)   (aM:GN→Option (Bool)):GN→Option (Bool):=fun x0=>
 cond (decide (x0<(x7.length:Int)))
 (cond (decide (0≤x0)) (Option.bind x7[x0.toNat]? fun e1=>cond (decide (0≤x0)) (Option.bind aS[x0.toNat]? fun e2=>cond (!(decide (e1.Number=e2.Number)&&(decide (e1.Seen=e2.Seen)&&(true))))
 (some (false))
 (aM (i64.wrap (x0+1)))) none) none)
 (some (true))
section
variable (x1:BA) (x2 x3 x4 x5:Int) (x6:Bool) (x7:aI) (x8:Bool) (x9:BA) (aK aN aP aX:Int) (bf:Bool) (aS:aI) (aO:Bool)
def R4 (n:Nat)  (x:GN):Option (Bool):=iter (fun rec S=>run X47 (F47 n) (aw (av Try.f47) [1,1,0,1,0,0]) 0 S (cH rec (bW 0 (bA (run X47 (F47 n) (aw (av Try.f47) [1,1,1]) 0) (dM X47 Try.f47 Xp))))) [2,3,5] n (s47_0 x1 x2 x3 x4 x5 x6 x7 x8 x9 aK aN aP aX bf aS aO x)
theorem m47_0 (n:Nat)  (x:GN):R4 x1 x2 x3 x4 x5 x6 x7 x8 x9 aK aN aP aX bf aS aO n  x=bS (Ep x7 aS n  ) n x:=by
 refine iter_eq _ _ (fun aM x0=>?_) n x
 kernel_rfl
end
def VL (n:Nat) (a0 a1:au):Option (Bool):=
 cond (!decide (a0.aq=a1.aq))
 (some (false))
 (cond (a0.Seen != a1.Seen)
 (some (false))
 (cond (a0.bK != a1.bK)
 (some (false))
 (cond (a0.Want != a1.Want)
 (some (false))
 (cond (a0.bb != a1.bb)
 (some (false))
 (cond (!(a0.cM==a1.cM))
 (some (false))
 (cond (!(a0.Drop==a1.Drop))
 (some (false))
 (cond ((a0.Ends.length:Int) != (a1.Ends.length:Int))
 (some (false))
 (bS (Ep a0.Ends a1.Ends n ) n 0))))))))
theorem t47 (n:Nat) (a0 a1:au):db X47 (F47 n) Try.f47 [.agg [.str a0.aq,.int .i64 a0.Seen,.int .i64 a0.bK,.int .i64 a0.Want,.int .i64 a0.bb,.bool a0.cM,.row .fw a0.Ends,.bool a0.Drop],.agg [.str a1.aq,.int .i64 a1.Seen,.int .i64 a1.bK,.int .i64 a1.Want,.int .i64 a1.bb,.bool a1.cM,.row .fw a1.Ends,.bool a1.Drop]] Xp=VL n a0 a1:=by
 refine Eq.trans (b:=
  cond (!decide (a0.aq=a1.aq))
  (some (false))
  (cond (a0.Seen != a1.Seen)
  (some (false))
  (cond (a0.bK != a1.bK)
  (some (false))
  (cond (a0.Want != a1.Want)
  (some (false))
  (cond (a0.bb != a1.bb)
  (some (false))
  (cond (!(a0.cM==a1.cM))
  (some (false))
  (cond (!(a0.Drop==a1.Drop))
  (some (false))
  (cond ((a0.Ends.length:Int) != (a1.Ends.length:Int))
  (some (false))
  (R4 a0.aq a0.Seen a0.bK a0.Want a0.bb a0.cM a0.Ends a0.Drop a1.aq a1.Seen a1.bK a1.Want a1.bb a1.cM a1.Ends a1.Drop n   0))))))))) (by kernel_rfl) ?_
 simp only [VL,m47_0]
def G47 (a0 a1:au):Option (Bool):=VL fuel a0 a1
def XG:iu C:=kD KK [.el .jq,.el .jq] [.bool] G47
theorem c47:cL Try.prog KK 47 XG:=cP (fV trivial trivial trivial:Cons Try.prog X47) (fn:=Try.f47) (F47 fuel) (fun a0 a1=>t47 fuel a0 a1)
def X18:Cx C:=eP [(47,XG)] [] [] [] 1179648 []
def F18 (n:Nat):Cf:={ N:=n,keep:=[0,1,4,5,10,14,26],live:=lk [(0,[0,1,5])] }
abbrev Xv:=iX KK [.bool]
abbrev GV:Type:=Int
section
variable (x0 x1:eI)
def s18_0:GV→St C:=fun x2=>{ env:=[(0,.one (.row .jq x0)),(1,.one (.row .jq x1)),(5,.one (.int .i64 x2))],aj:=[],base:=0 }
end
def EC (x0 x1:eI) (n:Nat)   (aM:GV→Option (Bool)):GV→Option (Bool):=fun x2=>
 cond (decide (x2<(x0.length:Int)))
 (cond (decide (0≤x2)) (Option.bind x0[x2.toNat]? fun e1=>cond (decide (0≤x2)) (Option.bind x1[x2.toNat]? fun e2=>Option.bind (G47 e1 e2) fun r3=>
 cond (!r3)
 (some (false))
 (aM (i64.wrap (x2+1)))) none) none)
 (some (true))
section
variable (x0 x1:eI)
def Sy (n:Nat)  (x:GV):Option (Bool):=iter (fun rec S=>run X18 (F18 n) (aw (av Try.f18) [1,1,0,1,0,0]) 0 S (cH rec (bW 0 (bA (run X18 (F18 n) (aw (av Try.f18) [1,1,1]) 0) (dM X18 Try.f18 Xv))))) [0,1,5] n (s18_0 x0 x1 x)
theorem m18_0 (n:Nat)  (x:GV):Sy x0 x1 n  x=bS (EC x0 x1 n  ) n x:=by
 refine iter_eq _ _ (fun aM x2=>?_) n x
 kernel_rfl
end
def VQ (n:Nat) (a0 a1:eI):Option (Bool):=
 cond ((a0.length:Int) != (a1.length:Int))
 (some (false))
 (bS (EC a0 a1 n ) n 0)
theorem t18 (n:Nat) (a0 a1:eI):db X18 (F18 n) Try.f18 [.one (.row .jq a0),.one (.row .jq a1)] Xv=VQ n a0 a1:=by
 refine Eq.trans (b:=
  cond ((a0.length:Int) != (a1.length:Int))
  (some (false))
  (Sy a0 a1 n   0)) (by kernel_rfl) ?_
 simp only [VQ,m18_0]
def G18 (a0 a1:eI):Option (Bool):=VQ fuel a0 a1
def XO:iu C:=kD KK [.row .jq,.row .jq] [.bool] G18
theorem c18:cL Try.prog KK 18 XO:=cP (fV ⟨c47,trivial⟩ trivial trivial:Cons Try.prog X18) (fn:=Try.f18) (F18 fuel) (fun a0 a1=>t18 fuel a0 a1)
def X9:Cx C:=eP [] [] [] [] 589824 []
def F9 (n:Nat):Cf:={ N:=n,keep:=[0,1,2,3,4,5,6,7,39,44,57,62,75,80,93],live:=lk [(0,[2,3,5]),(2,[2,3,6]),(4,[2,3,7])] }
abbrev Vb:=iX KK [.bool]
abbrev Ng:Type:=Int
abbrev Gt:Type:=Int
abbrev I6:Type:=Int
section
variable (x1:Int) (x2:aB) (x3:ay) (x4:aA) (x5:Int) (x6:aB) (x7:ay) (x8:aA)
def s9_2:Ng→St C:=fun x0=>{ env:=[(2,.one (.ptr 589952 0)),(3,.one (.ptr 590016 0)),(7,.one (.int .i64 x0))],aj:=[(589952,.box .mem [.int .i64 x1,.row .bD x2,.row .bX x3,.row .cC x4]),(590016,.box .mem [.int .i64 x5,.row .bD x6,.row .bX x7,.row .cC x8])],base:=0 }
end
def r9_2 (x4 x8:aA) (n:Nat)   (dD:Ng→Option (Bool)):Ng→Option (Bool):=fun x0=>
 cond (decide (x0<(x4.length:Int)))
 (cond (decide (0≤x0)) (Option.bind x4[x0.toNat]? fun e5=>cond (decide (0≤x0)) (Option.bind x8[x0.toNat]? fun e6=>cond (!(decide (e5.Name=e6.Name)&&((e5.qF==e6.qF)&&(true))))
 (some (false))
 (dD (i64.wrap (x0+1)))) none) none)
 (some (true))
section
variable (x1:Int) (x2:aB) (x3:ay) (x4:aA) (x5:Int) (x6:aB) (x7:ay) (x8:aA)
def s9_1:Gt→St C:=fun x0=>{ env:=[(2,.one (.ptr 589952 0)),(3,.one (.ptr 590016 0)),(6,.one (.int .i64 x0))],aj:=[(589952,.box .mem [.int .i64 x1,.row .bD x2,.row .bX x3,.row .cC x4]),(590016,.box .mem [.int .i64 x5,.row .bD x6,.row .bX x7,.row .cC x8])],base:=0 }
end
def T9_1 (x3 x7:ay) (n:Nat)   (dg:Gt→Option (Bool)) (l2:Ng→Option (Bool)):Gt→Option (Bool):=fun x0=>
 cond (decide (x0<(x3.length:Int)))
 (cond (decide (0≤x0)) (Option.bind x3[x0.toNat]? fun e3=>cond (decide (0≤x0)) (Option.bind x7[x0.toNat]? fun e4=>cond (!(decide (e3.aq=e4.aq)&&(decide (e3.Number=e4.Number)&&(decide (e3.Version=e4.Version)&&(decide (e3.ax=e4.ax)&&(decide (e3.State=e4.State)&&((e3.Ending==e4.Ending)&&(decide (e3.bE=e4.bE)&&(true)))))))))
 (some (false))
 (dg (i64.wrap (x0+1)))) none) none)
 (l2 0)
def YW (x3:ay) (x4:aA) (x7:ay) (x8:aA) (n:Nat)   (dg:Gt→Option (Bool)):Gt→Option (Bool):=T9_1 x3 x7 n  dg (fun z=>bS (r9_2 x4 x8 n ) n z)
section
variable (x1:Int) (x2:aB) (x3:ay) (x4:aA) (x5:Int) (x6:aB) (x7:ay) (x8:aA)
def s9_0:I6→St C:=fun x0=>{ env:=[(2,.one (.ptr 589952 0)),(3,.one (.ptr 590016 0)),(5,.one (.int .i64 x0))],aj:=[(589952,.box .mem [.int .i64 x1,.row .bD x2,.row .bX x3,.row .cC x4]),(590016,.box .mem [.int .i64 x5,.row .bD x6,.row .bX x7,.row .cC x8])],base:=0 }
end
def T9_0 (x2 x6:aB) (n:Nat)   (aM:I6→Option (Bool)) (l1:Gt→Option (Bool)):I6→Option (Bool):=fun x0=>
 cond (decide (x0<(x2.length:Int)))
 (cond (decide (0≤x0)) (Option.bind x2[x0.toNat]? fun e1=>cond (decide (0≤x0)) (Option.bind x6[x0.toNat]? fun e2=>cond (!(decide (e1.Name=e2.Name)&&(decide (e1.Version=e2.Version)&&((e1.bq==e2.bq)&&(decide (e1.ax=e2.ax)&&(decide (e1.Want=e2.Want)&&(decide (e1.Down=e2.Down)&&(decide (e1.bg=e2.bg)&&(decide (e1.Next=e2.Next)&&(decide (e1.bY=e2.bY)&&(decide (e1.aD=e2.aD)&&(decide (e1.aU=e2.aU)&&(decide (e1.bF=e2.bF)&&(decide (e1.bb=e2.bb)&&(true)))))))))))))))
 (some (false))
 (aM (i64.wrap (x0+1)))) none) none)
 (l1 0)
def YX (x2:aB) (x3:ay) (x4:aA) (x6:aB) (x7:ay) (x8:aA) (n:Nat)   (aM:I6→Option (Bool)):I6→Option (Bool):=T9_0 x2 x6 n  aM (fun z=>bS (YW x3 x4 x7 x8 n ) n z)
section
variable (x1:Int) (x2:aB) (x3:ay) (x4:aA) (x5:Int) (x6:aB) (x7:ay) (x8:aA)
def Yk (n:Nat)  (x:Ng):Option (Bool):=iter (fun rec S=>run X9 (F9 n) (aw (av Try.f9) [1,1,1,1,0,1,0,0]) 4 S (cH rec (bW 4 (bA (run X9 (F9 n) (aw (av Try.f9) [1,1,1,1,1]) 0) (dM X9 Try.f9 Vb))))) [2,3,7] n (s9_2 x1 x2 x3 x4 x5 x6 x7 x8 x)
theorem m9_2 (n:Nat)  (x:Ng):Yk x1 x2 x3 x4 x5 x6 x7 x8 n  x=bS (r9_2 x4 x8 n  ) n x:=by
 refine iter_eq _ _ (fun dD x0=>?_) n x
 kernel_rfl
end
section
variable (x1:Int) (x2:aB) (x3:ay) (x4:aA) (x5:Int) (x6:aB) (x7:ay) (x8:aA)
def Yl (n:Nat)  (x:Gt):Option (Bool):=iter (fun rec S=>run X9 (F9 n) (aw (av Try.f9) [1,1,1,0,1,0,0]) 2 S (cH rec (bW 2 (bA (run X9 (F9 n) (aw (av Try.f9) [1,1,1,1]) 0) (dM X9 Try.f9 Vb))))) [2,3,6] n (s9_1 x1 x2 x3 x4 x5 x6 x7 x8 x)
theorem m9_1 (n:Nat)  (x:Gt):Yl x1 x2 x3 x4 x5 x6 x7 x8 n  x=bS (YW x3 x4 x7 x8 n  ) n x:=by
 refine iter_eq _ _ (fun dg x0=>?_) n x;refine Eq.trans (b:=T9_1 x3 x7 n   (fun x=>dg (s9_1 x1 x2 x3 x4 x5 x6 x7 x8 x)) (fun z=>Yk x1 x2 x3 x4 x5 x6 x7 x8 n   z) x0) (by kernel_rfl) ?_;simp only [YW,m9_2]
end
section
variable (x1:Int) (x2:aB) (x3:ay) (x4:aA) (x5:Int) (x6:aB) (x7:ay) (x8:aA)
def Ym (n:Nat)  (x:I6):Option (Bool):=iter (fun rec S=>run X9 (F9 n) (aw (av Try.f9) [1,1,0,1,0,0]) 0 S (cH rec (bW 0 (bA (run X9 (F9 n) (aw (av Try.f9) [1,1,1]) 0) (dM X9 Try.f9 Vb))))) [2,3,5] n (s9_0 x1 x2 x3 x4 x5 x6 x7 x8 x)
theorem m9_0 (n:Nat)  (x:I6):Ym x1 x2 x3 x4 x5 x6 x7 x8 n  x=bS (YX x2 x3 x4 x6 x7 x8 n  ) n x:=by
 refine iter_eq _ _ (fun aM x0=>?_) n x;refine Eq.trans (b:=T9_0 x2 x6 n   (fun x=>aM (s9_0 x1 x2 x3 x4 x5 x6 x7 x8 x)) (fun z=>Yl x1 x2 x3 x4 x5 x6 x7 x8 n   z) x0) (by kernel_rfl) ?_;simp only [YX,m9_1]
end
def G9n (n:Nat) (a0 a1:aa):Option (Bool):=
 cond (a0.bM != a1.bM)
 (some (false))
 (cond ((a0.af.length:Int) != (a1.af.length:Int))
 (some (false))
 (cond ((a0.ah.length:Int) != (a1.ah.length:Int))
 (some (false))
 (cond ((a0.ak.length:Int) != (a1.ak.length:Int))
 (some (false))
 (bS (YX a0.af a0.ah a0.ak a1.af a1.ah a1.ak n ) n 0))))
theorem t9 (n:Nat) (a0 a1:aa):db X9 (F9 n) Try.f9 [.agg [.int .i64 a0.bM,.row .bD a0.af,.row .bX a0.ah,.row .cC a0.ak],.agg [.int .i64 a1.bM,.row .bD a1.af,.row .bX a1.ah,.row .cC a1.ak]] Vb=G9n n a0 a1:=by
 refine Eq.trans (b:=
  cond (a0.bM != a1.bM)
  (some (false))
  (cond ((a0.af.length:Int) != (a1.af.length:Int))
  (some (false))
  (cond ((a0.ah.length:Int) != (a1.ah.length:Int))
  (some (false))
  (cond ((a0.ak.length:Int) != (a1.ak.length:Int))
  (some (false))
  (Ym a0.bM a0.af a0.ah a0.ak a1.bM a1.af a1.ah a1.ak n   0))))) (by kernel_rfl) ?_
 simp only [G9n,m9_0]
def G9 (a0 a1:aa):Option (Bool):=G9n fuel a0 a1
def con9:iu C:=kD KK [.el .bU,.el .bU] [.bool] G9
theorem c9:cL Try.prog KK 9 con9:=cP (fV trivial trivial trivial:Cons Try.prog X9) (fn:=Try.f9) (F9 fuel) (fun a0 a1=>t9 fuel a0 a1)
def X5 (n:Nat):Cx C:=eP [(10,Bk),(13,(Fz XR)),(17,(Fz XP)),(18,XO),(19,(Fz KL))] [] [(16,I16 n)] [3,4,15,17,18,19] 327680 []
def F5 (n:Nat):Cf:={ N:=n,keep:=[0,2,3,4,5,6,7,9,10,11,14,28,39,47,81],live:=lk [(0,[4,5,6,7])] }
abbrev dec5:=iX KK [.bool]
abbrev Tg:Type:=Int×Int×aB×ay×aA
section
variable (x0:eI) (x2:Int) (x3:aB) (x4:ay) (x5:aA)
def s5_0:Tg→St C:=fun (x1,x6,x7,x8,x9)=>{ env:=[(4,.one (.ptr 327936 0)),(5,.one (.row .jq x0)),(6,.one (.ptr 328064 0)),(7,.one (.int .i64 x1))],aj:=[(327936,.box .mem [.int .i64 x2,.row .bD x3,.row .bX x4,.row .cC x5]),(328064,.box .mem [.int .i64 x6,.row .bD x7,.row .bX x8,.row .cC x9])],base:=0 }
end
def OV (x0:eI) (x2:Int) (x3:aB) (x4:ay) (x5:aA) (n:Nat)   (aM:Tg→Option (Bool)):Tg→Option (Bool):=fun (x1,x6,x7,x8,x9)=>
 cond (decide (x1<(x0.length:Int)))
 (cond (decide (0≤x1)) (Option.bind x0[x1.toNat]? fun e6=>Option.bind (Dn (⟨x2,x3,x4,x5⟩:aa) e6) fun r7=>
 (fun y=>alt y (y))
 (cond (decide (0≤x1)) (Option.bind x0[x1.toNat]? fun e8=>Option.bind (Dn (⟨x6,x7,x8,x9⟩:aa) e8) fun r9=>
 (fun y=>alt y (y))
 (cond (r7.2 != 0)
 (cond (r7.2 != 7)
 (some (false))
 (cond (r9.2 != 0)
 (cond (r9.2 != 7)
 (some (false))
 (aM ((i64.wrap (x1+1),r9.1.bM,r9.1.af,r9.1.ah,r9.1.ak))))
 (aM ((i64.wrap (x1+1),r9.1.bM,r9.1.af,r9.1.ah,r9.1.ak)))))
 (cond (r9.2 != 0)
 (cond (r9.2 != 7)
 (some (false))
 (aM ((i64.wrap (x1+1),r9.1.bM,r9.1.af,r9.1.ah,r9.1.ak))))
 (aM ((i64.wrap (x1+1),r9.1.bM,r9.1.af,r9.1.ah,r9.1.ak)))))) none)) none)
 (some (true))
section
variable (x0:eI) (x2:Int) (x3:aB) (x4:ay) (x5:aA)
def Yn (n:Nat)  (x:Tg):Option (Bool):=iter (fun rec S=>run (X5 n) (F5 n) (aw (av Try.f5) [1,1,1,1,1,1,1,0,1,0,0]) 0 S (cH rec (bW 0 (bA (run (X5 n) (F5 n) (aw (av Try.f5) [1,1,1,1,1,1,1,1]) 0) (dM (X5 n) Try.f5 dec5))))) [4,5,6,7] n (s5_0 x0 x2 x3 x4 x5 x)
theorem m5_0 (n:Nat)  (x:Tg):Yn x0 x2 x3 x4 x5 n  x=bS (OV x0 x2 x3 x4 x5 n  ) n x:=by
 refine iter_eq _ _ (fun aM x=>?_) n x;obtain ⟨x1,x6,x7,x8,x9⟩:=x
 kernel_rfl
end
def G5n (n:Nat) (a0:ed):Option (Bool):=
 cond (decide ((a0.length:Int)>1048576))
 (some (true))
 (Option.bind ((zI n n) a0) fun r1=>
 Option.bind (Yp r1.1 r1.2) fun r2=>
 Option.bind (ND r1.1 r1.2) fun r3=>
 Option.bind (G18 r2 r3) fun r4=>
 cond (!r4)
 (some (false))
 (Option.bind (Nd r1.2) fun r5=>
 cond (!r5)
 (some ((r2.length:Int)==0))
 (cond (decide (r1.1<1))
 (some ((r2.length:Int)==0))
 (cond (decide (r1.1>6))
 (some ((r2.length:Int)==0))
 (bS (OV r2 r1.2.bM r1.2.af r1.2.ah r1.2.ak n ) n (0,r1.2.bM,r1.2.af,r1.2.ah,r1.2.ak))))))
theorem t5 (n:Nat) (a0:ed):db (X5 n) (F5 n) Try.f5 [.one (.row .e5 a0)] dec5=G5n n a0:=by
 refine Eq.trans (b:=
  cond (decide ((a0.length:Int)>1048576))
  (some (true))
  (Option.bind ((zI n n) a0) fun r1=>
  Option.bind (Yp r1.1 r1.2) fun r2=>
  Option.bind (ND r1.1 r1.2) fun r3=>
  Option.bind (G18 r2 r3) fun r4=>
  cond (!r4)
  (some (false))
  (Option.bind (Nd r1.2) fun r5=>
  cond (!r5)
  (some ((r2.length:Int)==0))
  (cond (decide (r1.1<1))
  (some ((r2.length:Int)==0))
  (cond (decide (r1.1>6))
  (some ((r2.length:Int)==0))
  (Yn r2 r1.2.bM r1.2.af r1.2.ah r1.2.ak n   (0,r1.2.bM,r1.2.af,r1.2.ah,r1.2.ak))))))) (by kernel_rfl) ?_
 simp only [G5n,m5_0]
def G5 (a0:ed):Option (Bool):=G5n fuel a0
def con5:iu C:=kD KK [.row .e5] [.bool] G5
theorem c5:cL Try.prog KK 5 con5:=cP (fV ⟨c10,c13,c17,c18,c19,trivial⟩ trivial ⟨iz16 _,trivial⟩:Cons Try.prog (X5 fuel)) (fn:=Try.f5) (F5 fuel) (fun a0=>t5 fuel a0)
end Go.Proofs.Ytipemmgoipbojaa.Ab
namespace Go.Proofs.Ytipemmgoipbojaa.Ab
open Go Go.RowKit Go.IntKind
theorem bB {n:Int} (h0 : -9223372036854775808≤n) (h1:n<9223372036854775808):i64.wrap n=n:=by
 simp [IntKind.wrap,IntKind.bits,IntKind.signed];omega
theorem CB {A R:Type} {eR:(A→Option R)→A→Option R} {n:Nat} {x:A} (h:0<n):bS eR n x=eR (bS eR (n-1)) x:=by
 obtain ⟨m,rfl⟩:∃ k,n=k+1:=⟨n-1,by omega⟩;rfl
def gK (p:Nat→Bool) (len i:Nat):Bool:=(List.range' i (len-i)).all p
theorem uu {p:Nat→Bool} {len i:Nat} (h:i<len):gK p len i=(p i&&gK p len (i+1)):=by
 unfold gK;rw [show len-i=(len-(i+1))+1 by omega,List.range'_succ];rfl
theorem yE (p:Nat→Bool) (len:Nat):gK p len len=true:=by simp [gK]
theorem jM {i:Nat} (h:0<i) (h2:i<4611686018427387904):i64.wrap ((i:Int)-1)=((i-1:Nat):Int):=by
 rw [bB (by omega) (by omega)];omega
theorem bT:1152921504606846976≤fuel:=by unfold fuel;omega
theorem jG {R:Type} (a:Option R):alt a a=a:=by
 rw [Db];cases a<;>simp
theorem aZ {i:Nat} (h:i<4611686018427387904):i64.wrap ((i:Int)+1)=((i+1:Nat):Int):=by
 rw [bB (by omega) (by omega)];rfl
theorem kY {A R:Type} (eR:(A→Option R)→A→Option R) (n:Nat) (x:A):bS eR (n+1) x=eR (bS eR n) x:=rfl
theorem kL {A R:Type} {eR:(A→Option R)→A→Option R} (st:Nat→A) (val:Nat→Option R) (len:Nat) (hend:∀ rec,eR rec (st len)=val len) (hstep:∀ rec i,i<len→rec (st (i+1))=val (i+1)→eR rec (st i)=val i) :
  ∀ n i,i≤len→len-i<n→bS eR n (st i)=val i:=by
 intro n
 induction n with
 | zero=>intro i _ h;omega
 | succ n ih=>
  intro i hi hn;rw [kY]
  rcases Nat.lt_or_ge i len with h | h
  ·exact hstep _ i h (ih (i+1) (by omega) (by omega))
  ·have e:i=len:=by omega
   subst e;exact hend _
theorem get_cast {α:Type} {xs:List α} {i:Nat} (h:i<xs.length):xs[((i:Int)).toNat]?=some xs[i]:=by simp [h]
end Go.Proofs.Ytipemmgoipbojaa.Ab
set_option maxRecDepth 10000
namespace Go.Proofs.Ytipemmgoipbojaa.Ab
open Go Go.RowKit Go.IntKind
theorem Uv {A R:Type} {f g:(A→Option R)→A→Option R} (h:∀ r x,f r x=g r x) (n:Nat) (x:A):bS f n x=bS g n x:=by
 have:f=g:=funext fun r=>funext fun x=>h r x
 rw [this]
def dv {α:Type} (p:α→Bool):List α→Nat→Int
 | [],_=> -1
 | x::r,i=>cond (p x) (i:Int) (dv p r (i+1))
theorem L5 {α:Type} {p:α→Bool} {xs:List α} {i:Nat} (h:i<xs.length):dv p (xs.drop i) i=cond (p xs[i]) (i:Int) (dv p (xs.drop (i+1)) (i+1)):=by
 rw [List.drop_eq_getElem_cons h];rfl
theorem dQ {α:Type} (p:α→Bool) (xs:List α):(dv p xs 0 = -1∧∀ x∈xs,p x=false)∨∃ i:Nat,∃ h:i<xs.length,dv p xs 0=(i:Int)∧p xs[i]=true∧∀ j,(hj:j<i)→p (xs[j]'(by omega))=false:=by
 have key:∀ (ys:List α) (i:Nat),(dv p ys i = -1∧∀ x∈ys,p x=false)∨∃ k:Nat,∃ h:k<ys.length,dv p ys i=((i+k:Nat):Int)∧p ys[k]=true∧∀ j,(hj:j<k)→p (ys[j]'(by omega))=false:=by
  intro ys
  induction ys with
  | nil=>intro i;exact .inl ⟨rfl,fun x hx=>by cases hx⟩
  | cons y ys ih=>
   intro i
   cases hp:p y with
   | true=>exact .inr ⟨0,by simp,by simp [dv,hp],by simpa using hp,fun j hj=>by omega⟩
   | false=>
    rcases ih (i+1) with ⟨h1,h2⟩ | ⟨k,hk,h1,h2,h3⟩
    ·refine .inl ⟨by simp [dv,hp,h1],fun x hx=>?_⟩
     rcases List.mem_cons.1 hx with e | hx
     ·subst e;exact hp
     ·exact h2 x hx
    ·refine .inr ⟨k+1,by simpa using hk,by simp only [dv,hp,cond_false,h1];omega,by simpa using h2,fun j hj=>?_⟩
     cases j with
     | zero=>exact hp
     | succ j=>exact h3 j (by omega)
 rcases key xs 0 with h | ⟨k,hk,h1,h2,h3⟩
 ·exact .inl h
 ·exact .inr ⟨k,hk,by simpa using h1,h2,h3⟩
theorem kI {α R:Type} {p:α→Bool} {xs:List α} {A:Type} {st:Nat→A} {eR:(A→Option R)→A→Option R} (hl:xs.length≤1048576) (fnd:Nat→Option R) (nf:Option R)
  (hend:∀ rec,eR rec (st xs.length)=nf)
  (hstep:∀ rec i (hi:i<xs.length),eR rec (st i)=cond (p xs[i]) (fnd i) (rec (st (i+1)))):bS eR fuel (st 0)=cond (decide (dv p xs 0<0)) nf (fnd (dv p xs 0).toNat):=by
 have:=kL (eR:=eR) (st:=st) (val:=fun i=>cond (decide (dv p (xs.drop i) i<0)) nf (fnd (dv p (xs.drop i) i).toNat)) xs.length (fun rec=>by rw [hend];simp [dv]) (fun rec i hi hr=>by
  rw [hstep rec i hi,L5 hi]
  cases p xs[i] with
  | true=>
   have h0:¬ ((i:Nat):Int)<0:=by omega
   simp only [cond_true,h0,decide_false,cond_false,Int.toNat_natCast]
  | false=>exact hr) fuel 0 (Nat.zero_le _) (by have:=bT;omega)
 simpa using this
theorem ur {A R:Type} {p:Nat→Bool} {len:Nat} {st:Nat→A} {eR:(A→Option R)→A→Option R} (yes no:Option R) (hl:len≤1048576)
  (hend:∀ rec,eR rec (st len)=yes)
  (hstep:∀ rec i (hi:i<len),eR rec (st i)=cond (p i) (rec (st (i+1))) no):bS eR fuel (st 0)=cond (gK p len 0) yes no:=by
 have:=kL (eR:=eR) (st:=st) (val:=fun i=>cond (gK p len i) yes no) len (fun rec=>by rw [hend,yE,cond_true]) (fun rec i hi hr=>by
  rw [hstep rec i hi,uu hi]
  cases p i with
  | true=>simpa using hr
  | false=>rfl) fuel 0 (Nat.zero_le _) (by have:=bT;omega)
 exact this
theorem kC {p:Nat→Bool} {len:Nat} (h:gK p len 0=true) {i:Nat} (hi:i<len):p i=true:=by
 unfold gK at h;rw [List.all_eq_true] at h;exact h i (by simp [List.mem_range'];omega)
theorem Cb (a b:BA):(slt a b=true∧slt b a=false∧a≠b)∨(slt a b=false∧slt b a=true∧a≠b)∨(slt a b=false∧slt b a=false∧a=b):=by
 unfold slt
 cases h:Go.Op.bytesLess a.toList b.toList with
 | true=>
  obtain ⟨h1,h2⟩:=kP _ _ h;exact .inl ⟨rfl,h1,fun e=>by subst e;simp at h2⟩
 | false=>
  cases he:(a.toList==b.toList) with
  | true=>
   have e:a=b:=toList_inj (by simpa using he);subst e;exact .inr (.inr ⟨rfl,h,rfl⟩)
  | false=>
   have:=nQ _ _ h he;exact .inr (.inl ⟨rfl,this,fun e=>by subst e;simp at he⟩)
theorem H7:∀ x y z:List UInt8,Go.Op.bytesLess x y=true→Go.Op.bytesLess y z=true→Go.Op.bytesLess x z=true:=by
 intro x
 induction x with
 | nil=>
  intro y z h h'
  cases z with
  | nil=>cases y<;>simp [Go.Op.bytesLess] at h'
  | cons z zs=>rfl
 | cons x xs ih=>
  intro y z h h'
  cases y with
  | nil=>simp [Go.Op.bytesLess] at h
  | cons y ys=>
   cases z with
   | nil=>simp [Go.Op.bytesLess] at h'
   | cons z zs=>
    simp only [Go.Op.bytesLess,Bool.or_eq_true,Bool.and_eq_true,decide_eq_true_eq,beq_iff_eq] at h h' ⊢
    rcases h with h1 | ⟨h1,h2⟩
    ·rcases h' with h3 | ⟨h3,h4⟩
     ·exact .inl (UInt8.lt_trans h1 h3)
     ·subst h3;exact .inl h1
    ·subst h1
     rcases h' with h3 | ⟨h3,h4⟩
     ·exact .inl h3
     ·exact .inr ⟨h3,ih ys zs h2 h4⟩
theorem pR {a b c:BA} (h:slt a b=true) (h':slt b c=true):slt a c=true:=H7 _ _ _ h h'
theorem mh (a:BA):slt a a=false:=by
 rcases Cb a a with ⟨_,_,h⟩ | ⟨_,_,h⟩ | ⟨h,_,_⟩
 ·exact absurd rfl h
 ·exact absurd rfl h
 ·exact h
def eC (a b c:Int):Bool:=decide (b≤a)&&decide (a≤c)
theorem Qk (a b c:Int):nS a b c=some (eC a b c):=by
 unfold nS G26n eC
 by_cases h:b≤a<;>simp [h]
theorem g33 (a b c:Int):u0 a b c=some (eC a b c):=by
 unfold u0 G33n eC
 by_cases h:b≤a<;>simp [h]
theorem di {a b c:Int}:eC a b c=true↔b≤a∧a≤c:=by simp [eC]
theorem vU {A:Type} {p:Nat→Bool} {len:Nat} {st:Nat→A} {eR:(A→Option Bool)→A→Option Bool} (hl:len<1152921504606846976)
  (hend:∀ rec,eR rec (st len)=some true) (hstep:∀ rec i (hi:i<len),eR rec (st i)=cond (p i) (rec (st (i+1))) (some false)):bS eR fuel (st 0)=some (gK p len 0):=
 kL (eR:=eR) (st:=st) (val:=fun i=>some (gK p len i)) len (fun rec=>by rw [hend,yE]) (fun rec i hi hr=>by
  rw [hstep rec i hi,uu hi]
  cases p i with
  | true=>simpa using hr
  | false=>rfl) fuel 0 (Nat.zero_le _) (by have:=bT;omega)
def bOk (c:Int):Bool:=(decide (97≤c)&&decide (c≤122))||(decide (48≤c)&&decide (c≤57))||c==45
theorem Au {c:Int} {R:Type} (a b:R):(cond (decide (c≥97))
 (cond (decide (c≤122)) a
 (cond (decide (c≥48))
 (cond (decide (c≤57)) a
 (cond (!(c==45)) b a))
 (cond (!(c==45)) b a)))
 (cond (decide (c≥48))
 (cond (decide (c≤57)) a
 (cond (!(c==45)) b a))
 (cond (!(c==45)) b a)))=cond (bOk c) a b:=by
 unfold bOk
 by_cases h1:97≤c<;>by_cases h2:c≤122<;>by_cases h3:48≤c<;>by_cases h4:c≤57<;>by_cases h5:c=45<;>simp [h1,h2,h3,h4,h5]<;>omega
def HX (s:BA):Bool:=eC (s.size:Int) 1 20&&gK (fun j=>bOk (uF s (j:Int))) s.size 0
theorem g30 (s:BA):G30 s=some (HX s):=by
 unfold G30 VO HX;rw [Qk]
 cases h:eC (s.size:Int) 1 20 with
 | false=>rfl
 | true=>
  have h2:=(di.1 h).2;simp only [Option.bind_some,Bool.not_true,cond_false,Bool.true_and];refine vU (st:=fun i=>((i:Nat):Int)) (by omega) (fun rec=>by simp [JD]) (fun rec i hi=>?_)
  have h1:(i:Int)<(s.size:Int):=by omega
  simp only [JD,h1,decide_true,cond_true,Int.natCast_nonneg];rw [Au,aZ (by omega)]
theorem g35 (s:BA):G35 s=some (HX s):=by
 unfold G35 VN HX eC
 by_cases h1:(s.size:Int)<1
 ·have:¬ (1:Int)≤(s.size:Int):=by omega
  simp [h1,this]
 ·by_cases h2:(s.size:Int)>20
  ·have:¬ (s.size:Int)≤20:=by omega
   simp [h1,h2,this]
  ·have e1:(1:Int)≤(s.size:Int):=by omega
   have e2:(s.size:Int)≤20:=by omega
   simp only [h1,h2,decide_false,cond_false,e1,e2,decide_true,Bool.and_self,Bool.true_and];refine vU (st:=fun i=>((i:Nat):Int)) (by omega) (fun rec=>by simp [JC]) (fun rec i hi=>?_)
   have h1:(i:Int)<(s.size:Int):=by omega
   simp only [JC,h1,decide_true,cond_true,Int.natCast_nonneg];rw [Au,aZ (by omega)]
def vk (s:ae) (now:Int):Bool:=HX s.Name&&(eC s.Version 1 now&&(eC s.ax 1 1000000&&(eC s.Next 1 1000000&&(eC s.Want 0 10&&(eC s.Down 0 10&&(eC s.bg 0 10&&((!(i64.wrap (s.Down+s.bg)==0)) &&
 (cond (s.bY==0) ((s.aD==0)&&((s.aU==0)&&((s.bF==0)&&(s.bb==0)))) (eC s.bY 0 1000000&&(eC s.bF 0 1000000&&(eC s.aD 0 10&&(eC s.aU s.aD 10&&eC s.bb 0 3))))))))))))
theorem g29 (s:ae) (now:Int):G29 s now=some (vk s now):=by
 unfold G29 G29n vk;simp only [g30,Qk,Option.bind_some];cases HX s.Name<;>(try rfl);cases eC s.Version 1 now<;>(try rfl);cases eC s.ax 1 1000000<;>(try rfl);cases eC s.Next 1 1000000<;>(try rfl);cases eC s.Want 0 10<;>(try rfl);cases eC s.Down 0 10<;>(try rfl);cases eC s.bg 0 10<;>(try rfl);cases (i64.wrap (s.Down+s.bg)==0)<;>(try rfl);cases (s.bY==0)
 ·cases eC s.bY 0 1000000<;>(try rfl)
  cases eC s.bF 0 1000000<;>(try rfl);cases eC s.aD 0 10<;>(try rfl);cases eC s.aU s.aD 10<;>rfl
 ·cases (s.aD==0)<;>(try rfl)
  cases (s.aU==0)<;>(try rfl);cases (s.bF==0)<;>rfl
theorem g34 (s:ae) (now:Int):G34 s now=some (vk s now):=by
 unfold G34 G34n vk;simp only [g35,g33,Option.bind_some];cases HX s.Name<;>(try rfl);cases eC s.Version 1 now<;>(try rfl);cases eC s.ax 1 1000000<;>(try rfl);cases eC s.Next 1 1000000<;>(try rfl);cases eC s.Want 0 10<;>(try rfl);cases eC s.Down 0 10<;>(try rfl);cases eC s.bg 0 10<;>(try rfl);cases (i64.wrap (s.Down+s.bg)==0)<;>(try rfl);simp only [Bool.true_and,Bool.not_true,Bool.not_false,cond_false,cond_true]
 by_cases h0:s.bY=0
 ·have e:eC s.bY 0 1000000=true:=by rw [di];omega
  have e1:¬ s.bY>0:=by omega
  have e2:(s.bY==0)=true:=by simp [h0]
  simp only [e,e1,e2,decide_false,cond_false,cond_true,Bool.not_true]
  by_cases a1:s.aD=0
  ·by_cases a2:s.aU=0
   ·by_cases a3:s.bF=0
    ·simp only [a1,a2,a3]
     by_cases a4:s.bb=0
     ·simp [a4,eC]
     ·have:(s.bb==0)=false:=by simp [a4]
      rw [this];cases eC s.bb 0 3<;>simp [eC]
    ·have:(s.bF==0)=false:=by simp [a3]
     simp only [a1,a2,this];cases eC s.bF 0 1000000<;>cases eC s.bb 0 3<;>simp [eC]
   ·have:(s.aU==0)=false:=by simp [a2]
    simp only [a1,this];cases eC s.bF 0 1000000<;>cases eC s.bb 0 3<;>cases eC s.aU 0 10<;>cases decide ((0:Int)>s.aU)<;>simp [eC]
  ·have:(s.aD==0)=false:=by simp [a1]
   simp only [this];cases eC s.bF 0 1000000<;>cases eC s.bb 0 3<;>cases eC s.aU 0 10<;>cases eC s.aD 0 10<;>cases decide (s.aD>s.aU)<;>simp
 ·have e2:(s.bY==0)=false:=by simp [h0]
  simp only [e2,cond_false]
  cases h1:eC s.bY 0 1000000 with
  | false=>rfl
  | true=>
   have e1:s.bY>0:=by have:=(di.1 h1).1;omega
   cases eC s.bF 0 1000000<;>(try rfl)
   cases h2:eC s.aD 0 10 with
   | false=>rfl
   | true=>
    have h3:=(di.1 h2).1
    by_cases h4:s.aD>s.aU
    ·have h5:eC s.aU s.aD 10=false:=by cases h:eC s.aU s.aD 10 with | false=>rfl | true=>have:=di.1 h;omega
     cases eC s.aU 0 10<;>simp [h4,h5]
    ·have h5:eC s.aU 0 10=eC s.aU s.aD 10:=by
      unfold eC
      have q1:(0:Int)≤s.aU:=by omega
      have q2:s.aD≤s.aU:=by omega
      simp [q1,q2]
     rw [h5];cases eC s.aU s.aD 10<;>cases eC s.bb 0 3<;>simp [h4,e1]
end Go.Proofs.Ytipemmgoipbojaa.Ab
set_option maxRecDepth 10000
namespace Go.Proofs.Ytipemmgoipbojaa.Ab
open Go Go.RowKit Go.IntKind
theorem tE {α:Type} (p:α→Bool) (xs:List α):cond (decide (dv p xs 0<0)) (some (-1)) (some (((dv p xs 0).toNat:Nat):Int))=some (dv p xs 0):=by
 rcases dQ p xs with ⟨h,_⟩ | ⟨i,hi,h,_⟩<;>rw [h]
 ·rfl
 ·have:¬ ((i:Nat):Int)<0:=by omega
  simp [this]
def lY (n:BA) (s:ae):Bool:=decide (s.Name=n)
def il (n:BA) (k:Int) (c:ai):Bool:=decide (c.aq=n)&&(c.Number==k)
def Bq (n:BA) (c:aG):Bool:=decide (c.Name=n)
theorem g69 {b:aa} {n:BA} (h:b.af.length≤1048576):Ta b n=some (dv (lY n) b.af 0):=by
 unfold Ta VD;rw [←tE]
 exact kI (st:=fun i=>((i:Nat):Int)) h (fun i=>some ((i:Nat):Int)) (some (-1)) (fun rec=>by simp [Jv]) (fun rec i hi=>by
  have h1:(i:Int)<(b.af.length:Int):=by omega
  simp only [Jv,h1,decide_true,cond_true,Int.natCast_nonneg,get_cast hi,Option.bind_some,lY]
  rw [aZ (by omega)])
theorem g67 {b:aa} {n:BA} (h:b.ak.length≤1048576):G67 b n=some (dv (Bq n) b.ak 0):=by
 unfold G67 VF;rw [←tE]
 exact kI (st:=fun i=>((i:Nat):Int)) h (fun i=>some ((i:Nat):Int)) (some (-1)) (fun rec=>by simp [Jw]) (fun rec i hi=>by
  have h1:(i:Int)<(b.ak.length:Int):=by omega
  simp only [Jw,h1,decide_true,cond_true,Int.natCast_nonneg,get_cast hi,Option.bind_some,Bq]
  rw [aZ (by omega)])
theorem g66 {b:aa} {n:BA} {k:Int} (h:b.ah.length≤1048576):VH b n k=some (dv (il n k) b.ah 0):=by
 unfold VH VG;rw [←tE]
 exact kI (st:=fun i=>((i:Nat):Int)) h (fun i=>some ((i:Nat):Int)) (some (-1)) (fun rec=>by simp [Jy]) (fun rec i hi=>by
  have h1:(i:Int)<(b.ah.length:Int):=by omega
  simp only [Jy,h1,decide_true,cond_true,Int.natCast_nonneg,get_cast hi,Option.bind_some,il];rw [aZ (by omega)]
  cases decide (b.ah[i].aq=n)<;>rfl)
def KC (b:aa) (c:ai):Bool:=match b.af[(dv (lY c.aq) b.af 0).toNat]? with
 | some s=>(!decide (dv (lY c.aq) b.af 0<0))&&(eC c.Number 1 (i64.wrap (s.Next-1))&&(eC c.Version 1 b.bM&&(eC c.ax 1 1000000&&(eC c.State 1 4&&cond (c.State==1) (decide (c.bE=⟨#[]⟩)) (decide (dv (Bq c.bE) b.ak 0≥0))))))
 | none=>false
theorem g31 {b:aa} {c:ai} (h:b.af.length≤1048576) (h2:b.ak.length≤1048576):G31 b c=some (KC b c):=by
 unfold G31 G31n KC;rw [g69 h]
 rcases dQ (lY c.aq) b.af with ⟨e,_⟩ | ⟨i,hi,e,_⟩
 ·rw [e];simp only [Option.bind_some]
  cases b.af[(-1:Int).toNat]?<;>rfl
 ·have h0:¬ ((i:Nat):Int)<0:=by omega
  rw [e];simp only [Option.bind_some,h0,decide_false,cond_false,Int.natCast_nonneg,decide_true,cond_true,get_cast hi,Qk,g67 h2,Bool.not_false,Bool.true_and];cases eC c.Number 1 (i64.wrap (b.af[i].Next-1))<;>(try rfl);cases eC c.Version 1 b.bM<;>(try rfl);cases eC c.ax 1 1000000<;>(try rfl);cases eC c.State 1 4<;>(try rfl);cases (c.State==1)<;>rfl
def KR (d c:ai):Bool:=slt d.aq c.aq||(decide (d.aq=c.aq)&&decide (d.Number<c.Number))
theorem g32 (d c:ai):G32 d c=some (KR d c):=by
 unfold G32 G32n KR;cases slt d.aq c.aq<;>cases decide (d.aq=c.aq)<;>rfl
def zv {α:Type} (f:α→Bool) (g:α→α→Bool) (xs:List α) (i:Nat):Bool:=match xs[i]?,xs[i-1]? with
 | some c,some d=>f c&&(decide (i=0)||g d c)
 | _,_=>false
theorem mC {α:Type} {f:α→Bool} {g:α→α→Bool} {xs:List α} {i:Nat} (h:i<xs.length):zv f g xs i=(f xs[i]&&(decide (i=0)||g (xs[i-1]'(by omega)) xs[i])):=by
 unfold zv;rw [List.getElem?_eq_getElem h,List.getElem?_eq_getElem (by omega)]
def vB (b:aa):Bool:=eC b.bM 0 1000000&&((!decide ((b.af.length:Int)>8))&&((!decide ((b.ah.length:Int)>200))&&((!decide ((b.ak.length:Int)>6)) &&
 (gK (zv (fun s=>vk s b.bM) (fun d s=>slt d.Name s.Name) b.af) b.af.length 0&&(gK (zv (fun s=>HX s.Name) (fun d s=>slt d.Name s.Name) b.ak) b.ak.length 0&&gK (zv (KC b) KR b.ah) b.ah.length 0)))))
theorem LX {α R:Type} {f:α→Bool} {g:α→α→Bool} {xs:List α} {i:Nat} (h:i<xs.length) (yes no:Option R) (X:Option R)
  (hX:X=cond (f xs[i]) (cond (decide (i=0)) yes (cond (g (xs[i-1]'(by omega)) xs[i]) yes no)) no):X=cond (zv f g xs i) yes no:=by
 rw [hX,mC h];cases f xs[i]<;>cases decide (i=0)<;>cases g (xs[i-1]'(by omega)) xs[i]<;>rfl
theorem Fv {b:aa} (h1:b.af.length≤1048576) (h2:b.ah.length≤1048576) (h3:b.ak.length≤1048576):Nd b=some (vB b):=by
 unfold Nd VU vB;rw [Qk];cases eC b.bM 0 1000000<;>(try rfl);cases decide ((b.af.length:Int)>8)<;>(try rfl);cases decide ((b.ah.length:Int)>200)<;>(try rfl);cases decide ((b.ak.length:Int)>6)<;>(try rfl);simp only [Option.bind_some,Bool.not_true,Bool.not_false,cond_false,cond_true,Bool.true_and]
 have e2:bS (EG b.bM b.af b.ah b.ak fuel) fuel 0=some (gK (zv (KC b) KR b.ah) b.ah.length 0):=
  vU (st:=fun i=>((i:Nat):Int)) (by omega) (fun rec=>by simp [EG]) (fun rec i hi=>by
   have q1:(i:Int)<(b.ah.length:Int):=by omega
   refine LX hi _ _ _ ?_;have e:(⟨b.bM,b.af,b.ah,b.ak⟩:aa)=b:=rfl;simp only [EG,q1,decide_true,cond_true,Int.natCast_nonneg,get_cast hi,Option.bind_some,e,g31 h1 h3,aZ (show i<4611686018427387904 by omega)];cases KC b b.ah[i]<;>(try rfl);simp only [Bool.not_true,cond_false,cond_true]
   by_cases h0:i=0
   ·subst h0;simp
   ·have p1:(i:Int)>0:=by omega
    simp only [p1,h0,decide_true,decide_false,cond_true,cond_false,jM (show 0<i by omega) (by omega),Int.natCast_nonneg,get_cast (show i-1<b.ah.length by omega),Option.bind_some,g32]
    cases KR (b.ah[i-1]'(by omega)) b.ah[i]<;>rfl)
 have e1:bS (xk b.bM b.af b.ah b.ak fuel) fuel 0=cond (gK (zv (fun s=>HX s.Name) (fun d s=>slt d.Name s.Name) b.ak) b.ak.length 0) (some (gK (zv (KC b) KR b.ah) b.ah.length 0)) (some false):=
  ur (st:=fun i=>((i:Nat):Int)) _ _ h3 (fun rec=>by simp [xk,K5,e2]) (fun rec i hi=>by
   have q1:(i:Int)<(b.ak.length:Int):=by omega
   refine LX hi _ _ _ ?_;simp only [xk,K5,q1,decide_true,cond_true,Int.natCast_nonneg,get_cast hi,Option.bind_some,g30,aZ (show i<4611686018427387904 by omega)];cases HX b.ak[i].Name<;>(try rfl);simp only [Bool.not_true,cond_false,cond_true]
   by_cases h0:i=0
   ·subst h0;simp
   ·have p1:(i:Int)>0:=by omega
    simp only [p1,h0,decide_true,decide_false,cond_true,cond_false,jM (show 0<i by omega) (by omega),Int.natCast_nonneg,get_cast (show i-1<b.ak.length by omega),Option.bind_some]
    cases slt (b.ak[i-1]'(by omega)).Name b.ak[i].Name<;>rfl)
 have e0:bS (Aj b.bM b.af b.ah b.ak fuel) fuel 0=cond (gK (zv (fun s=>vk s b.bM) (fun d s=>slt d.Name s.Name) b.af) b.af.length 0) (bS (xk b.bM b.af b.ah b.ak fuel) fuel 0) (some false):=
  ur (st:=fun i=>((i:Nat):Int)) _ _ h1 (fun rec=>by simp [Aj,K6]) (fun rec i hi=>by
   have q1:(i:Int)<(b.af.length:Int):=by omega
   refine LX hi _ _ _ ?_;simp only [Aj,K6,q1,decide_true,cond_true,Int.natCast_nonneg,get_cast hi,Option.bind_some,g29,aZ (show i<4611686018427387904 by omega)];cases vk b.af[i] b.bM<;>(try rfl);simp only [Bool.not_true,cond_false,cond_true]
   by_cases h0:i=0
   ·subst h0;simp
   ·have p1:(i:Int)>0:=by omega
    simp only [p1,h0,decide_true,decide_false,cond_true,cond_false,jM (show 0<i by omega) (by omega),Int.natCast_nonneg,get_cast (show i-1<b.af.length by omega),Option.bind_some]
    cases slt (b.af[i-1]'(by omega)).Name b.af[i].Name<;>rfl)
 rw [e0,e1];cases gK (zv (fun s=>vk s b.bM) (fun d s=>slt d.Name s.Name) b.af) b.af.length 0<;>cases gK (zv (fun s=>HX s.Name) (fun d s=>slt d.Name s.Name) b.ak) b.ak.length 0<;>rfl
theorem ah_tri (d c:ai) {R:Type} (yes no:R):cond (slt c.aq d.aq) no (cond (decide (c.aq=d.aq)) (cond (decide (c.Number≤d.Number)) no yes) yes)=cond (KR d c) yes no:=by
 unfold KR
 rcases Cb c.aq d.aq with ⟨h1,h2,h3⟩ | ⟨h1,h2,h3⟩ | ⟨h1,h2,h3⟩
 ·have Tr:d.aq≠c.aq:=fun e=>h3 e.symm
  simp [h1,h2,Tr]
 ·simp [h1,h2,h3]
 ·rw [h3,mh]
  by_cases h4:c.Number≤d.Number
  ·have:¬ d.Number<c.Number:=by omega
   simp [h4,this]
  ·have:d.Number<c.Number:=by omega
   simp [h4,this]
def tlC (cs:List ai) (i:Nat) (c:ai) (yes:Option Bool):Option Bool:=cond (decide ((i:Int)>0)) (cond (decide (0≤i64.wrap ((i:Int)-1))) (Option.bind cs[(i64.wrap ((i:Int)-1)).toNat]? fun e=>cond (slt c.aq e.aq) (some false) (cond (decide (c.aq=e.aq)) (cond (decide (c.Number≤e.Number)) (some false) yes) yes)) none) yes
theorem YA {cs:List ai} {i:Nat} (hi:i<cs.length) (hl:cs.length≤1048576) (yes:Option Bool):tlC cs i cs[i] yes=cond (decide (i=0)) yes (cond (KR (cs[i-1]'(by omega)) cs[i]) yes (some false)):=by
 unfold tlC
 by_cases h0:i=0
 ·subst h0;simp
 ·have p1:(i:Int)>0:=by omega
  simp only [p1,h0,decide_true,decide_false,cond_true,cond_false,jM (show 0<i by omega) (by omega),Int.natCast_nonneg,get_cast (show i-1<cs.length by omega),Option.bind_some];exact ah_tri _ _ _ _
theorem ZG {bs:List aG} {cs:List ai} {i:Nat} {n:BA} {c:ai} {dD:Int→Option Bool} (hb:bs.length≤1048576) :
  bS (EE n (bs.length:Int) (i:Int) (i:Int) false true cs bs c.aq c.Number fuel dD) fuel 0=cond (decide (dv (Bq n) bs 0<0)) (some false) (tlC cs i c (dD (i64.wrap ((i:Int)+1)))):=
 kI (st:=fun i=>((i:Nat):Int)) hb (fun _=>tlC cs i c (dD (i64.wrap ((i:Int)+1)))) (some false) (fun rec=>by simp [EE]) (fun rec j hj=>by
  have q1:(j:Int)<(bs.length:Int):=by omega
  simp only [EE,q1,decide_true,cond_true,cond_false,Int.natCast_nonneg,get_cast hj,Option.bind_some,Bq];rw [aZ (show j<4611686018427387904 by omega)]
  rfl)
theorem Tt {b:aa} (h1:b.af.length≤1048576) (h2:b.ah.length≤1048576) (h3:b.ak.length≤1048576):G11 b=some (vB b):=by
 unfold G11 VS vB;rw [g33];cases eC b.bM 0 1000000<;>(try rfl);cases decide ((b.af.length:Int)>8)<;>(try rfl);cases decide ((b.ah.length:Int)>200)<;>(try rfl);cases decide ((b.ak.length:Int)>6)<;>(try rfl);simp only [Option.bind_some,Bool.not_true,Bool.not_false,cond_false,cond_true,Bool.true_and]
 have e2:bS (EF b.ah (b.ah.length:Int) b.bM b.af b.ah b.ak fuel) fuel 0=some (gK (zv (KC b) KR b.ah) b.ah.length 0):=
  vU (st:=fun i=>((i:Nat):Int)) (by omega) (fun rec=>by simp [EF]) (fun rec i hi=>by
   have q1:(i:Int)<(b.ah.length:Int):=by omega
   refine LX hi _ _ _ ?_;simp only [EF,q1,decide_true,cond_true,Int.natCast_nonneg,get_cast hi,Option.bind_some];rw [←YA hi h2,← aZ (show i<4611686018427387904 by omega)];generalize hc:b.ah[i]=c
   have hp:=kI (eR:=xg c.aq (b.af.length:Int) (i:Int) (i:Int) b.bM b.af b.ah b.ak c.aq c.Number c.Version c.ax c.State c.bE fuel rec) (p:=lY c.aq) (st:=fun i=>((i:Nat):Int)) h1
    (fun j=>match b.af[j]? with
     | some s=>cond (eC c.Number 1 (i64.wrap (s.Next-1))&&(eC c.Version 1 b.bM&&(eC c.ax 1 1000000&&(eC c.State 1 4&&cond (c.State==1) (decide (c.bE=⟨#[]⟩)) (decide (dv (Bq c.bE) b.ak 0≥0)))))) (tlC b.ah i c (rec (i64.wrap ((i:Int)+1)))) (some false)
     | none=>none) (some false) (fun rec=>by simp [xg,K2]) (fun rec j hj=>by
     have q1:(j:Int)<(b.af.length:Int):=by omega
     simp only [xg,K2,q1,decide_true,cond_true,Int.natCast_nonneg,get_cast hj,Option.bind_some,g33,List.getElem?_eq_getElem hj]
     cases hsv:lY c.aq b.af[j] with
     | false=>
      have:decide (b.af[j].Name=c.aq)=false:=hsv;rw [this,aZ (show j<4611686018427387904 by omega)];rfl
     | true=>
      have:decide (b.af[j].Name=c.aq)=true:=hsv;rw [this];simp only [cond_true];cases eC c.Number 1 (i64.wrap (b.af[j].Next-1))<;>(try rfl);cases eC c.Version 1 b.bM<;>(try rfl);cases eC c.ax 1 1000000<;>(try rfl);cases eC c.State 1 4<;>(try rfl)
      by_cases hs1:c.State=1
      ·have a1:(c.State==1)=true:=by simp [hs1]
       have a2:(c.State != 1)=false:=by simp [hs1]
       simp only [a1,a2,cond_true,cond_false,Bool.not_true,Bool.true_and];cases decide (c.bE=⟨#[]⟩)<;>rfl
      ·have a1:(c.State==1)=false:=by simp [hs1]
       have a2:(c.State != 1)=true:=by simp [hs1]
       simp only [a1,a2,cond_true,cond_false,Bool.not_true,Bool.true_and];rw [ZG h3]
       rcases dQ (Bq c.bE) b.ak with ⟨e,_⟩ | ⟨i,hi,e,_⟩<;>rw [e]
       ·rfl
       ·have b1:¬ ((i:Nat):Int)<0:=by omega
        have b2:((i:Nat):Int)≥0:=by omega
        simp only [b1,b2,decide_true,decide_false,cond_true,cond_false])
   rw [show (bS (xg c.aq (b.af.length:Int) (i:Int) (i:Int) b.bM b.af b.ah b.ak c.aq c.Number c.Version c.ax c.State c.bE fuel rec) fuel 0)=_ from hp];unfold KC
   rcases dQ (lY c.aq) b.af with ⟨e,_⟩ | ⟨j,hj,e,_⟩<;>rw [e]
   ·cases b.af[(-1:Int).toNat]?<;>rfl
   ·have b1:¬ ((j:Nat):Int)<0:=by omega
    simp only [b1,decide_false,cond_false,Int.toNat_natCast,List.getElem?_eq_getElem hj,Bool.not_false,Bool.true_and])
 have e1:bS (xh b.ak (b.ak.length:Int) b.bM b.af b.ah b.ak fuel) fuel 0=cond (gK (zv (fun s=>HX s.Name) (fun d s=>slt d.Name s.Name) b.ak) b.ak.length 0) (some (gK (zv (KC b) KR b.ah) b.ah.length 0)) (some false):=
  ur (st:=fun i=>((i:Nat):Int)) _ _ h3 (fun rec=>by simp [xh,K3,e2]) (fun rec i hi=>by
   have q1:(i:Int)<(b.ak.length:Int):=by omega
   refine LX hi _ _ _ ?_;simp only [xh,K3,q1,decide_true,cond_true,Int.natCast_nonneg,get_cast hi,Option.bind_some,g35,aZ (show i<4611686018427387904 by omega)];cases HX b.ak[i].Name<;>(try rfl);simp only [Bool.not_true,cond_false,cond_true]
   by_cases h0:i=0
   ·subst h0;simp
   ·have p1:(i:Int)>0:=by omega
    simp only [p1,h0,decide_true,decide_false,cond_true,cond_false,jM (show 0<i by omega) (by omega),Int.natCast_nonneg,get_cast (show i-1<b.ak.length by omega),Option.bind_some]
    cases slt (b.ak[i-1]'(by omega)).Name b.ak[i].Name<;>rfl)
 have e0:bS (Ai b.af (b.af.length:Int) b.bM b.af b.ah b.ak fuel) fuel 0=cond (gK (zv (fun s=>vk s b.bM) (fun d s=>slt d.Name s.Name) b.af) b.af.length 0) (bS (xh b.ak (b.ak.length:Int) b.bM b.af b.ah b.ak fuel) fuel 0) (some false):=
  ur (st:=fun i=>((i:Nat):Int)) _ _ h1 (fun rec=>by simp [Ai,K4]) (fun rec i hi=>by
   have q1:(i:Int)<(b.af.length:Int):=by omega
   refine LX hi _ _ _ ?_;simp only [Ai,K4,q1,decide_true,cond_true,Int.natCast_nonneg,get_cast hi,Option.bind_some,g34,aZ (show i<4611686018427387904 by omega)];cases vk b.af[i] b.bM<;>(try rfl);simp only [Bool.not_true,cond_false,cond_true]
   by_cases h0:i=0
   ·subst h0;simp
   ·have p1:(i:Int)>0:=by omega
    simp only [p1,h0,decide_true,decide_false,cond_true,cond_false,jM (show 0<i by omega) (by omega),Int.natCast_nonneg,get_cast (show i-1<b.af.length by omega),Option.bind_some]
    cases slt (b.af[i-1]'(by omega)).Name b.af[i].Name<;>rfl)
 rw [e0,e1];cases gK (zv (fun s=>vk s b.bM) (fun d s=>slt d.Name s.Name) b.af) b.af.length 0<;>cases gK (zv (fun s=>HX s.Name) (fun d s=>slt d.Name s.Name) b.ak) b.ak.length 0<;>rfl
end Go.Proofs.Ytipemmgoipbojaa.Ab
set_option maxRecDepth 10000
namespace Go.Proofs.Ytipemmgoipbojaa.Ab
open Go Go.RowKit Go.IntKind
def V6 (a:au):Bool:=(cond a.cM (eC a.Want 0 10&&eC a.bb 0 3) ((a.Want==0)&&(a.bb==0)))&&((!a.Drop)||((a.bK==0)&&((!a.cM)&&((a.Ends.length:Int)==0))))
def enP (xs:List cu) (i:Nat):Bool:=match xs[i-1]?,xs[i]? with
 | some d,some c=> !decide (d.Number≥c.Number)
 | _,_=>false
def Kh (a:au):Bool:=eC a.bK 0 20&&((!decide ((a.Ends.length:Int)>200))&&(gK (enP a.Ends) a.Ends.length 1&&V6 a))
theorem Jz (a:au) (n:Nat) (rec:Int→Option Bool) (x:Int) (h:¬ x<(a.Ends.length:Int)):uK a.bK a.Want a.bb a.cM a.Ends a.Drop n rec x=some (V6 a):=by
 unfold V6;simp only [uK,h,decide_false,cond_false,Qk,Option.bind_some];cases a.cM
 ·simp only [cond_false,Bool.not_false,cond_true]
  by_cases h1:a.Want=0
  ·by_cases h2:a.bb=0
   ·simp only [h1,h2,bne_self_eq_false,cond_false,beq_self_eq_true,Bool.and_self,Bool.true_and]
    cases a.Drop<;>(try rfl);cases (a.bK==0)<;>rfl
   ·have q1:(a.bb != 0)=true:=by simp [h2]
    have q2:(a.bb==0)=false:=by simp [h2]
    simp only [h1,q1,q2,bne_self_eq_false,cond_false,cond_true,Bool.and_false,Bool.false_and]
  ·have q1:(a.Want != 0)=true:=by simp [h1]
   have q2:(a.Want==0)=false:=by simp [h1]
   simp only [q1,q2,cond_true,Bool.false_and]
 ·simp only [cond_true,Bool.not_true,cond_false]
  cases eC a.Want 0 10<;>(try rfl);cases eC a.bb 0 3<;>(try rfl);cases a.Drop<;>(try rfl);cases (a.bK==0)<;>rfl
theorem g81 {a:au} (h:a.Ends.length≤1048576):G81 a=some (Kh a):=by
 unfold G81 S9 Kh;rw [Qk];cases eC a.bK 0 20<;>(try rfl);cases decide ((a.Ends.length:Int)>200)<;>(try rfl);simp only [Option.bind_some,Bool.not_true,Bool.not_false,cond_false,Bool.true_and]
 rcases Nat.eq_zero_or_pos a.Ends.length with h0 | h0
 ·rw [CB (show 0<fuel by unfold fuel;omega),Jz a fuel _ 1 (by omega)]
  simp [gK,h0]
 ·have key:∀ n i,1≤i→i≤a.Ends.length→a.Ends.length-i<n→bS (uK a.bK a.Want a.bb a.cM a.Ends a.Drop fuel) n ((i:Nat):Int)=some (gK (enP a.Ends) a.Ends.length i&&V6 a):=by
   intro n
   induction n with
   | zero=>intro i _ _ h;omega
   | succ n ih=>
    intro i h1 h2 hn;rw [kY]
    rcases Nat.lt_or_ge i a.Ends.length with h3 | h3
    ·have q1:(i:Int)<(a.Ends.length:Int):=by omega
     have e:=ih (i+1) (by omega) (by omega) (by omega);rw [←aZ (by omega)] at e;rw [uu h3]
     have he:enP a.Ends i = !decide ((a.Ends[i-1]'(by omega)).Number≥a.Ends[i].Number):=by
      unfold enP;rw [List.getElem?_eq_getElem h3,List.getElem?_eq_getElem (by omega)]
     rw [he];simp only [uK,q1,decide_true,cond_true,jM (show 0<i by omega) (by omega),Int.natCast_nonneg,get_cast (show i-1<a.Ends.length by omega),get_cast h3,Option.bind_some]
     cases decide ((a.Ends[i-1]'(by omega)).Number≥a.Ends[i].Number) with
     | true=>rfl
     | false=>simpa using e
    ·have:i=a.Ends.length:=by omega
     subst this;rw [Jz a fuel _ _ (by omega),yE,Bool.true_and]
  exact key fuel 1 (by omega) h0 (by have:=bT;omega)
theorem CS {α B A R:Type} {f:B→α→B} {xs:List α} {st:Nat→B→A} {eR:(A→Option R)→A→Option R} (fin:B→Option R) (hl:xs.length≤1048576)
  (hend:∀ rec b,eR rec (st xs.length b)=fin b) (hstep:∀ rec i (hi:i<xs.length) b,eR rec (st i b)=rec (st (i+1) (f b xs[i]))) (b:B):bS eR fuel (st 0 b)=fin (xs.foldl f b):=by
 have key:∀ n i b,i≤xs.length→xs.length-i<n→bS eR n (st i b)=fin ((xs.drop i).foldl f b):=by
  intro n
  induction n with
  | zero=>intro i b _ h;omega
  | succ n ih=>
   intro i b hi hn;rw [kY]
   rcases Nat.lt_or_ge i xs.length with h | h
   ·rw [hstep _ i h,ih (i+1) _ (by omega) (by omega),List.drop_eq_getElem_cons h,List.foldl_cons]
   ·have:i=xs.length:=by omega
    subst this;rw [hend,List.drop_length];rfl
 simpa using key fuel 0 b (Nat.zero_le _) (by have:=bT;omega)
abbrev CT:Type:=Int×Int×Int×Int×Int
def KA (n:BA) (gD:Int) (t:CT) (c:ai):CT:=cond (decide (c.aq=n)) (cond c.Ending (t.1,t.2.1,t.2.2.1,t.2.2.2.1,i64.wrap (t.2.2.2.2+1))
 (i64.wrap (t.1+1),cond (c.State==3) (i64.wrap (t.2.1+1)) t.2.1,cond (c.ax != gD) (i64.wrap (t.2.2.1+1)) t.2.2.1,cond (c.State==4) (i64.wrap (t.2.2.2.1+1)) t.2.2.2.1,t.2.2.2.2)) t
def ctV (t:CT):dm:=⟨t.1,t.2.1,t.2.2.1,t.2.2.2.1,t.2.2.2.2⟩
def FO (n:BA) (gD:Int) (cs:List ai):dm:=ctV (cs.foldl (KA n gD) (0,0,0,0,0))
def Oi (i:Nat) (t:CT):Int×Int×Int×Int×Int×Int:=(((i:Nat):Int),t.1,t.2.1,t.2.2.1,t.2.2.2.1,t.2.2.2.2)
theorem ct52 {cs:List ai} {ss:List ae} {n:BA} {k:Nat} (hk:k<ss.length) (rec:BG→Option dm) (i:Nat) (hi:i<cs.length) (h:cs.length≤1048576) (t:CT) (m:Nat):w7 n ((k:Nat):Int) ss cs m rec (Oi i t)=rec (Oi (i+1) (KA n ss[k].ax t cs[i])):=by
 have q1:(i:Int)<(cs.length:Int):=by omega
 have q2:((k:Nat):Int)≥0:=by omega
 simp only [Oi,w7,q1,q2,decide_true,cond_true,Int.natCast_nonneg,get_cast hi,get_cast hk,Option.bind_some,aZ (show i<4611686018427387904 by omega),KA];cases decide (cs[i].aq=n)<;>(try rfl);cases cs[i].Ending<;>(try rfl);cases (cs[i].State==3)<;>cases (cs[i].ax != ss[k].ax)<;>cases (cs[i].State==4)<;>rfl
theorem lp83 {cs:List ai} {ss:List ae} {n:BA} {k:Nat} (hk:k<ss.length) (h:cs.length≤1048576) (t:CT):bS (w7 n ((k:Nat):Int) ss cs fuel) fuel (Oi 0 t)=some (ctV (cs.foldl (KA n ss[k].ax) t)):=
 CS (st:=Oi) (f:=KA n ss[k].ax) (fun t=>some (ctV t)) h (fun rec t=>by simp [Oi,w7,ctV]) (fun rec i hi t=>ct52 hk rec i hi h t fuel) t
theorem g83 {b:aa} {n:BA} {k:Nat} (hs:b.af.length≤1048576) (h:b.ah.length≤1048576) (hk:k<b.af.length) (hp:dv (lY n) b.af 0=(k:Int)):M7 b n=some (FO n b.af[k].ax b.ah):=by
 have:=lp83 (n:=n) hk h (0,0,0,0,0);unfold M7 S8;rw [g69 hs,hp];exact this
theorem g27 {b:aa} (h1:b.af.length≤1048576) (h2:b.ah.length≤1048576) (h3:b.ak.length≤1048576):DE b=some b:=by
 unfold DE G27n
 have e1:(([]:aB).length+b.af.length)*112≤140737488355328:=by simp only [List.length_nil];omega
 have e2:(([]:ay).length+b.ah.length)*72≤140737488355328:=by simp only [List.length_nil];omega
 have e3:(([]:aA).length+b.ak.length)*24≤140737488355328:=by simp only [List.length_nil];omega
 simp only [e1,e2,e3,decide_true,cond_true,List.nil_append]
theorem g24 {b:aa} (h1:b.af.length≤1048576) (h2:b.ah.length≤1048576) (h3:b.ak.length≤1048576):iV b=some b:=by
 unfold iV G24n
 have e1:(([]:aB).length+b.af.length)*112≤140737488355328:=by simp only [List.length_nil];omega
 have e2:(([]:ay).length+b.ah.length)*72≤140737488355328:=by simp only [List.length_nil];omega
 have e3:(([]:aA).length+b.ak.length)*24≤140737488355328:=by simp only [List.length_nil];omega
 simp only [e1,e2,e3,decide_true,cond_true,List.nil_append]
def lead {α:Type} (p:α→Bool) (xs:List α):Nat:=(xs.takeWhile p).length
theorem CD {α:Type} (p:α→Bool) (xs:List α):lead p xs≤xs.length:=by
 unfold lead
 induction xs with
 | nil=>simp
 | cons x xs ih=>simp only [List.takeWhile_cons];split<;>simp;omega
theorem Mn {α:Type} {p:α→Bool} {xs:List α} {i:Nat} (h:i<xs.length):i+lead p (xs.drop i)=cond (p xs[i]) (i+1+lead p (xs.drop (i+1))) i:=by
 rw [List.drop_eq_getElem_cons h];unfold lead;rw [List.takeWhile_cons];cases p xs[i]<;>simp;omega
theorem Jg {α R:Type} {p:α→Bool} {xs:List α} {A:Type} {st:Nat→A} {eR:(A→Option R)→A→Option R} (hl:xs.length≤1048576) (fin:Nat→Option R)
  (hend:∀ rec,eR rec (st xs.length)=fin xs.length)
  (hstep:∀ rec i (hi:i<xs.length),eR rec (st i)=cond (p xs[i]) (rec (st (i+1))) (fin i)):bS eR fuel (st 0)=fin (lead p xs):=by
 have:=kL (eR:=eR) (st:=st) (val:=fun i=>fin (i+lead p (xs.drop i))) xs.length (fun rec=>by rw [hend,List.drop_length];simp [lead]) (fun rec i hi hr=>by
  rw [hstep rec i hi,Mn hi]
  cases p xs[i] with
  | true=>exact hr
  | false=>rfl) fuel 0 (Nat.zero_le _) (by have:=bT;omega)
 simpa using this
end Go.Proofs.Ytipemmgoipbojaa.Ab
set_option maxRecDepth 10000
namespace Go.Proofs.Ytipemmgoipbojaa.Ab
open Go Go.RowKit Go.IntKind
def Ok {α:Type} (o:Option α) (Q:α→Prop):Prop:=∃ r,o=some r∧Q r
theorem aC {α:Type} {x:α} {Q:α→Prop} (h:Q x):Ok (some x) Q:=⟨x,rfl,h⟩
theorem bO {α β:Type} {o:Option α} {f:α→Option β} {P:α→Prop} {Q:β→Prop} (h:Ok o P) (hf:∀ r,P r→Ok (f r) Q):Ok (Option.bind o f) Q:=by
 obtain ⟨r,e,p⟩:=h;rw [e];exact hf r p
theorem rZ {α:Type} {o:Option α} {P Q:α→Prop} (h:Ok o P) (hf:∀ r,P r→Q r):Ok o Q:=by
 obtain ⟨r,e,p⟩:=h;exact ⟨r,e,hf r p⟩
theorem bR {α:Type} {b:Bool} {x y:Option α} {Q:α→Prop} (h1:b=true→Ok x Q) (h2:b=false→Ok y Q):Ok (cond b x y) Q:=by
 cases b
 ·exact h2 rfl
 ·exact h1 rfl
theorem eV {α:Type} {b:Bool} {x y:Option α} {Q:α→Prop} (h:b=true) (hx:Ok x Q):Ok (cond b x y) Q:=by rw [h];exact hx
theorem lH {α:Type} {y:Option α} {Q:α→Prop} (h:Ok y Q):Ok ((fun y=>alt y (y)) y) Q:=by
 show Ok (alt y y) Q;rw [jG];exact h
theorem Pd {α β:Type} {xs:List α} {i:Nat} {f:α→Option β} {Q:β→Prop} (h:i<xs.length) (hf:∀ x,xs[i]?=some x→Ok (f x) Q):Ok (Option.bind xs[i]? f) Q:=by
 have e:=List.getElem?_eq_getElem h;have:=hf _ e;rw [e];exact this
theorem gT {α β:Type} {xs:List α} {i:Int} {f:α→Option β} {Q:β→Prop} (h0:0≤i) (h1:i<(xs.length:Int)) (hf:∀ x,xs[i.toNat]?=some x→Ok (f x) Q):Ok (cond (decide (0≤i)) (cond (decide (i<(xs.length:Int))) (Option.bind xs[i.toNat]? f) none) none) Q:=
 eV (by simp [h0]) (eV (by simp [h1]) (Pd (by omega) hf))
theorem cT {α β:Type} {xs:List α} {i:Int} {f:α→Option β} {Q:β→Prop} (h0:0≤i) (h1:i<(xs.length:Int)) (hf:∀ x,xs[i.toNat]?=some x→Ok (f x) Q):Ok (cond (decide (0≤i)) (Option.bind xs[i.toNat]? f) none) Q:=
 eV (by simp [h0]) (Pd (by omega) hf)
theorem eh {A R:Type} {eR:(A→Option R)→A→Option R} {Q:R→Prop} (I:A→Prop) (m:A→Nat) (h:∀ rec x,I x→(∀ y,I y→m y<m x→Ok (rec y) Q)→Ok (eR rec x) Q):∀ n x,I x→m x<n→Ok (bS eR n x) Q:=by
 intro n
 induction n with
 | zero=>intro x _ h;omega
 | succ n ih=>
  intro x hx hm;rw [kY]
  exact h _ x hx fun y hy hlt=>ih y hy (by omega)
theorem Ok.out {α:Type} {o:Option α} {Q:α→Prop} {x:α} (h:Ok o Q) (e:o=some x):Q x:=by
 obtain ⟨r,e',q⟩:=h;rw [e] at e';cases e';exact q
theorem ik:0<fuel:=by unfold fuel;omega
theorem Yv {a b:Int} (ha:0≤a) (hb:0≤b) (ha2:a<4611686018427387904) (Ip:b<4611686018427387904):0≤NV .i64 a b:=by
 obtain ⟨n,rfl⟩:=Int.eq_ofNat_of_zero_le ha;obtain ⟨m,rfl⟩:=Int.eq_ofNat_of_zero_le hb
 have e1:(BitVec.ofInt 64 (n:Int)).toNat=n:=by rw [BitVec.ofInt_natCast,BitVec.toNat_ofNat];omega
 have e2:(BitVec.ofInt 64 (m:Int)).toNat=m:=by rw [BitVec.ofInt_natCast,BitVec.toNat_ofNat];omega
 have h:n ^^^ m<2 ^ 62:=Nat.xor_lt_two_pow (by omega) (by omega)
 have e:NV .i64 (n:Int) (m:Int)=((n ^^^ m:Nat):Int):=by
  show i64.wrap (((BitVec.ofInt 64 (n:Int) ^^^ BitVec.ofInt 64 (m:Int)).toNat:Nat):Int)=_;rw [BitVec.toNat_xor,e1,e2,bB (by omega) (by omega)]
 rw [e];omega
def I5 (bs:ed):Prop:=bs.length≤2000∧∀ b:Int,b∈(bs:List Int)→0≤b∧b<256
abbrev PT:Int:=1000000000000
theorem d23 (n d:Nat) (h:0<d):cE n d=B23 n (cE n (d-1)):=by
 obtain ⟨m,rfl⟩:∃ k,d=k+1:=⟨d-1,by omega⟩;rfl
theorem pk {bs:ed} {p m:Int} (hb:I5 bs) (h0:0≤p) (h1:p≤PT):Ok ((cE fuel fuel) m bs p) (fun r=>r.1=bs∧r.2.1=p+1∧0≤r.2.2∧(1≤m→r.2.2<m)):=by
 unfold PT at h1;obtain ⟨hl,hv⟩:=hb;rw [d23 _ _ ik];unfold B23;have w1:i64.wrap (p+1)=p+1:=bB (by omega) (by omega)
 have w2:i64.wrap (p+1-1)=p:=by rw [bB (by omega) (by omega)];omega
 simp only [w1,w2]
 refine bR (fun h=>aC ⟨rfl,rfl,Int.le_refl 0,fun h'=>?_⟩) fun hm=>?_
 ·show (0:Int)<m
  omega
 have hm:1≤m:=by have:=of_decide_eq_false hm;omega
 refine bR (fun h=>aC ⟨rfl,rfl,Int.le_refl 0,fun h'=>show (0:Int)<m by omega⟩) fun hn=>?_
 have hn:0<bs.length:=by
  have:¬ ((bs.length:Int)=0):=by simpa using hn
  omega
 have hm0:¬ m=0:=by omega
 have hn0:¬ (bs.length:Int)=0:=by omega
 refine bR (fun h=>?_) fun h=>?_
 ·have h:=of_decide_eq_true h
  refine cT h0 h fun (e:Int) he=>?_
  obtain ⟨v1,v2⟩:=hv e (List.mem_of_getElem? he);have w:i64.wrap e=e:=bB (by omega) (by omega);simp only [hm0,decide_false,cond_false,w];exact aC ⟨rfl,rfl,Int.tmod_nonneg _ v1,fun _=>Int.tmod_lt_of_pos _ (show (0:Int)<m by omega)⟩
 ·have t1:=Int.tmod_nonneg (bs.length:Int) h0
  have t2:=Int.tmod_lt_of_pos p (show 0<(bs.length:Int) by omega);have w3:i64.wrap (p*7)=p*7:=bB (by omega) (by omega);have w4:i64.wrap (p*7+3)=p*7+3:=bB (by omega) (by omega);have t3:=Int.tmod_nonneg (bs.length:Int) (show 0≤p*7+3 by omega);have t4:=Int.tmod_lt_of_pos (p*7+3) (show 0<(bs.length:Int) by omega);simp only [hn0,hm0,decide_false,cond_false,w3,w4,show ¬ (64:Int)=0 by omega]
  refine cT t1 t2 fun (e:Int) he=>?_
  refine cT t3 t4 fun (f:Int) hf=>?_
  obtain ⟨v1,v2⟩:=hv e (List.mem_of_getElem? he);obtain ⟨u1,u2⟩:=hv f (List.mem_of_getElem? hf);have q1:=Int.tdiv_nonneg h0 (show 0≤(bs.length:Int) by omega);have q2:p.tdiv (bs.length:Int)≤p:=Int.tdiv_le_self _ h0;have z1:i64.wrap (e:Int)=e:=bB (by omega) (by omega);have z2:i64.wrap (f:Int)=f:=bB (by omega) (by omega);have z3:i64.wrap (p.tdiv (bs.length:Int))=p.tdiv (bs.length:Int):=bB (by omega) (by omega);have z4:i64.wrap ((e:Int)*131)=e*131:=bB (by omega) (by omega);have z5:i64.wrap ((f:Int)*1117)=f*1117:=bB (by omega) (by omega);have z6:i64.wrap (p*29)=p*29:=bB (by omega) (by omega);have z7:i64.wrap (p.tdiv (bs.length:Int)*53)=p.tdiv (bs.length:Int)*53:=bB (by omega) (by omega);have z8:i64.wrap ((e:Int)*131+f*1117)=e*131+f*1117:=bB (by omega) (by omega);have z9:i64.wrap ((e:Int)*131+f*1117+p*29)=e*131+f*1117+p*29:=bB (by omega) (by omega);have za:i64.wrap ((e:Int)*131+f*1117+p*29+p.tdiv (bs.length:Int)*53)=e*131+f*1117+p*29+p.tdiv (bs.length:Int)*53:=bB (by omega) (by omega);simp only [z1,z2,z3,z4,z5,z6,z7,z8,z9,za]
  have nn:0≤(e:Int)*131+f*1117+p*29+p.tdiv (bs.length:Int)*53:=by omega
  generalize hx:(e:Int)*131+f*1117+p*29+p.tdiv (bs.length:Int)*53=x at nn
  have ZT:x<4611686018427387904:=by omega
  have d1:=Int.tdiv_nonneg nn (show (0:Int)≤64 by omega);have d2:x.tdiv 64≤x:=Int.tdiv_le_self _ nn;have zb:i64.wrap (x.tdiv 64)=x.tdiv 64:=bB (by omega) (by omega);rw [zb]
  have d3:x.tdiv 64<4611686018427387904:=by omega
  exact aC ⟨rfl,rfl,Int.tmod_nonneg _ (Yv nn d1 ZT d3),fun _=>Int.tmod_lt_of_pos _ (show (0:Int)<m by omega)⟩
end Go.Proofs.Ytipemmgoipbojaa.Ab
set_option maxRecDepth 10000
namespace Go.Proofs.Ytipemmgoipbojaa.Ab
open Go Go.RowKit
theorem gC {β:Type} {bs:ed} {p m:Int} {f:ed×Int×Int→Option β} {Q:β→Prop} (hb:I5 bs) (h0:0≤p) (h1:p≤PT) (hf:∀ v,0≤v→(1≤m→v<m)→Ok (f (bs,p+1,v)) Q):Ok (Option.bind ((cE fuel fuel) m bs p) f) Q:=
 bO (pk hb h0 h1) fun r ⟨e1,e2,e3,e4⟩=>by
  obtain ⟨b,q,v⟩:=r;simp only at e1 e2;subst e1 e2;exact hf v e3 e4
theorem d51 (n d:Nat) (h:0<d):sW n d=B51 n (sW n (d-1)):=by
 obtain ⟨m,rfl⟩:∃ k,d=k+1:=⟨d-1,by omega⟩;rfl
theorem d22 (n d:Nat) (h:0<d):Dm n d=B22 n (Dm n (d-1)):=by
 obtain ⟨m,rfl⟩:∃ k,d=k+1:=⟨d-1,by omega⟩;rfl
theorem d71 (n d:Nat) (h:0<d):Gi n d=B71 n (Gi n (d-1)):=by
 obtain ⟨m,rfl⟩:∃ k,d=k+1:=⟨d-1,by omega⟩;rfl
def Rp {α:Type} (bs:ed) (p c:Int) (r:ed×Int×α):Prop:=r.1=bs∧p≤r.2.1∧r.2.1≤p+c
theorem dw {bs:ed} {p:Int} (hb:I5 bs) (h0:0≤p) (h1:p≤PT-100):Ok ((sW fuel fuel) bs p) (Rp bs p 100):=by
 unfold PT at h1;rw [d51 _ _ ik];unfold B51
 repeat' (first
  | (refine gC hb (by omega) (by unfold PT;omega) fun v g1 g2=>?_;have g3:=g2 (by omega);clear g2;dsimp only)
  | (refine gT (by omega) (by simp only [List.length_cons,List.length_nil];omega) fun e he=>?_)
  | (refine aC ⟨rfl,?_,?_⟩<;>dsimp only<;>omega)
  | (refine bR (fun _=>?_) fun _=>?_))
theorem Wx {β:Type} {bs:ed} {p:Int} {f:ed×Int×ae→Option β} {Q:β→Prop} (hb:I5 bs) (h0:0≤p) (h1:p≤PT-100) (hf:∀ p' s,p≤p'→p'≤p+100→Ok (f (bs,p',s)) Q):Ok (Option.bind ((sW fuel fuel) bs p) f) Q:=
 bO (dw hb h0 h1) fun r ⟨e1,e2,e3⟩=>by
  obtain ⟨b,q,v⟩:=r;simp only at e1;subst e1;exact hf q v e2 e3
theorem lp22 {bs:ed} {p:Int} {sv:aB} {cp:ay} {rc:(Int)→(aB)→(ay)→(aA)→(ed)→(Int)→Option (ed×Int×aJ)} (hb:I5 bs) (h0:0≤p) (h1:p≤PT-2000) (hs:sv.length≤1000) (hc:cp.length≤2000) :
  Ok (bS (JE sv cp fuel rc) fuel (0,bs,p)) (Rp bs p 1500):=by
 unfold PT at h1;refine eh (I:=fun x=>0≤x.1∧x.1≤(sv.length:Int)∧x.2.1=bs∧p≤x.2.2∧x.2.2≤p+x.1) (m:=fun x=>((sv.length:Int)-x.1).toNat) (fun rec x hI hr=>?_) fuel _ ⟨by simp,by simp,rfl,by simp,by simp⟩ (by simp;have:=bT;omega);obtain ⟨i,b,q⟩:=x;obtain ⟨i0,i1,rfl,q0,q1⟩:=hI;dsimp only at i0 i1 q0 q1 hr;unfold JE
 refine bR (fun h=>?_) fun h=>?_
 ·have h:=of_decide_eq_true h
  refine gC hb (by omega) (by unfold PT;omega) fun v g1 g2=>?_
  dsimp only
  refine bR (fun _=>?_) fun _=>?_
  ·refine cT i0 h fun e he=>aC ⟨rfl,?_,?_⟩<;>dsimp only<;>omega
  ·rw [bB (by omega) (by omega)]
   refine hr _ ⟨?_,?_,rfl,?_,?_⟩ ?_<;>dsimp only<;>omega
 ·repeat' (first
  | (refine gC hb (by omega) (by unfold PT;omega) fun v g1 g2=>?_;dsimp only)
  | (refine cT (by omega) (by simp at *;omega) fun e he=>?_)
  | (refine aC ⟨rfl,?_,?_⟩<;>dsimp only<;>omega)
  | (refine bR (fun _=>?_) fun _=>?_))
theorem evd {now:Int} {sv:aB} {cp:ay} {be:aA} {bs:ed} {p:Int} (hb:I5 bs) (h0:0≤p) (h1:p≤PT-3000) (hs:sv.length≤1000) (hc:cp.length≤2000):Ok ((Dm fuel fuel) now sv cp be bs p) (Rp bs p 2000):=by
 unfold PT at h1;rw [d22 _ _ ik];unfold B22
 refine gC hb (by omega) (by unfold PT;omega) fun v g1 g2=>?_
 have g3:=g2 (by omega);clear g2;dsimp only
 refine gT (by omega) (by simp only [List.length_cons,List.length_nil];omega) fun e he=>?_
 refine gC hb (by omega) (by unfold PT;omega) fun v g1 g2=>?_
 clear g2;dsimp only
 repeat' (first
  | (refine gC hb (by omega) (by unfold PT;omega) fun v g1 g2=>?_;dsimp only)
  | (refine Wx hb (by omega) (by unfold PT;omega) fun p' s g1 g2=>?_;dsimp only)
  | (refine rZ (lp22 hb (by omega) (by unfold PT;omega) hs hc) ?_;rintro r ⟨z1,z2,z3⟩;refine ⟨z1,?_,?_⟩<;>omega)
  | (refine gT (by omega) (by simp at *;omega) fun e he=>?_)
  | (refine cT (by omega) (by simp at *;omega) fun e he=>?_)
  | (refine aC ⟨rfl,?_,?_⟩<;>dsimp only<;>omega)
  | (refine bR (fun _=>?_) fun _=>?_))
theorem ok_ev {β:Type} {now:Int} {sv:aB} {cp:ay} {be:aA} {bs:ed} {p:Int} {f:ed×Int×aJ→Option β} {Q:β→Prop} (hb:I5 bs) (h0:0≤p) (h1:p≤PT-3000) (hs:sv.length≤1000) (hc:cp.length≤2000) (hf:∀ p' s,p≤p'→p'≤p+2000→Ok (f (bs,p',s)) Q):Ok (Option.bind ((Dm fuel fuel) now sv cp be bs p) f) Q:=
 bO (evd hb h0 h1 hs hc) fun r ⟨e1,e2,e3⟩=>by
  obtain ⟨b,q,v⟩:=r;simp only at e1;subst e1;exact hf q v e2 e3
theorem mvd {now:Int} {sv:aB} {cp:ay} {be:aA} {bs:ed} {p:Int} (hb:I5 bs) (h0:0≤p) (h1:p≤PT-4000) (hs:sv.length≤1000) (hc:cp.length≤2000):Ok ((Gi fuel fuel) now sv cp be bs p) (Rp bs p 3000):=by
 unfold PT at h1;rw [d71 _ _ ik];unfold B71
 repeat' (first
  | (refine gC hb (by omega) (by unfold PT;omega) fun v g1 g2=>?_;have g3:=g2 (by omega);clear g2;dsimp only)
  | (refine ok_ev hb (by omega) (by unfold PT;omega) hs hc fun p' s g1 g2=>?_;dsimp only)
  | (refine gT (by omega) (by simp only [List.length_cons,List.length_nil];omega) fun e he=>?_)
  | (refine aC ⟨rfl,?_,?_⟩<;>dsimp only<;>omega)
  | (refine bR (fun _=>?_) fun _=>?_))
theorem ok_mv {β:Type} {now:Int} {sv:aB} {cp:ay} {be:aA} {bs:ed} {p:Int} {f:ed×Int×gw→Option β} {Q:β→Prop} (hb:I5 bs) (h0:0≤p) (h1:p≤PT-4000) (hs:sv.length≤1000) (hc:cp.length≤2000) (hf:∀ p' s,p≤p'→p'≤p+3000→Ok (f (bs,p',s)) Q):Ok (Option.bind ((Gi fuel fuel) now sv cp be bs p) f) Q:=
 bO (mvd hb h0 h1 hs hc) fun r ⟨e1,e2,e3⟩=>by
  obtain ⟨b,q,v⟩:=r;simp only at e1;subst e1;exact hf q v e2 e3
end Go.Proofs.Ytipemmgoipbojaa.Ab
set_option maxRecDepth 10000
namespace Go.Proofs.Ytipemmgoipbojaa.Ab
open Go Go.RowKit Go.IntKind
theorem cU {α:Type} {P:Prop} [Decidable P] {x y:Option α} {Q:α→Prop} (h1:P→Ok x Q) (h2:¬ P→Ok y Q):Ok (cond (decide P) x y) Q:=
 bR (fun h=>h1 (of_decide_eq_true h)) fun h=>h2 (of_decide_eq_false h)
theorem qS {α:Type} {b:Bool} {x y:Option α} {Q:α→Prop} (h1:b=false→Ok x Q) (h2:b=true→Ok y Q):Ok (cond (!b) x y) Q:=by
 cases b
 ·exact h1 rfl
 ·exact h2 rfl
theorem qN {α:Type} (p:α→Bool) (xs:List α) : -1≤dv p xs 0∧dv p xs 0<(xs.length:Int):=by
 rcases dQ p xs with ⟨e,_⟩ | ⟨i,hi,e,_⟩<;>rw [e]<;>omega
def Dx (b:aa):Prop:=b.af.length≤1000∧b.ah.length≤1000∧b.ak.length≤1000
theorem rG {b:aa} (h:vB b=true):b.af.length≤8∧b.ah.length≤200∧b.ak.length≤6:=by
 simp only [vB,Bool.and_eq_true,Bool.not_eq_true',decide_eq_false_iff_not] at h;omega
theorem Ui {b:aa} {n:BA} (hs:b.af.length≤1048576) (hc:b.ah.length≤1048576):Ok (M7 b n) (fun _=>True):=by
 rcases dQ (lY n) b.af with ⟨e,_⟩ | ⟨i,hi,e,_⟩
 ·unfold M7 S8
  rw [g69 hs,e,Option.bind_some,CB ik];unfold w7
  have h1:¬ ((-1:Int)≥0):=by omega
  simp only [h1,decide_false,cond_false]
  exact bR (fun _=>aC trivial) fun _=>aC trivial
 ·rw [g83 hs hc hi e];exact aC trivial
theorem ok82 {b:aa} {n:BA} {k:Int} (hs:b.af.length≤1048576) (hc:b.ah.length≤1048576) (hv:0≤dv (lY n) b.af 0):Ok (M8 b n k) (fun r=>r=true→0≤dv (il n k) b.ah 0):=by
 have l1:=qN (lY n) b.af;have l2:=qN (il n k) b.ah;unfold M8 Vw;rw [g66 hc,Option.bind_some]
 refine cU (fun h=>aC fun h=>by cases h) fun h=>?_
 have h':0≤dv (il n k) b.ah 0:=by omega
 refine cT h' l2.2 fun e _=>?_
 refine bR (fun _=>aC fun h=>by cases h) fun _=>?_
 rw [g69 hs,Option.bind_some]
 refine cT hv l1.2 fun e _=>cT h' l2.2 fun e _=>?_
 refine bR (fun _=>aC fun _=>h') fun _=>bR (fun _=>aC fun _=>h') fun _=>?_
 exact bO (Ui hs hc) fun r _=>aC fun _=>h'
theorem Pe {β:Type} {b:aa} {n:BA} {k:Int} {f:Bool→Option β} {Q:β→Prop} (hs:b.af.length≤1048576) (hc:b.ah.length≤1048576) (hv:0≤dv (lY n) b.af 0) (hf:∀ r,(r=true→0≤dv (il n k) b.ah 0)→Ok (f r) Q):Ok (Option.bind (M8 b n k) f) Q:=bO (ok82 hs hc hv) hf
theorem Wy {β:Type} {a b c:Int} {f:Bool→Option β} {Q:β→Prop} (hf:∀ r,r=eC a b c→Ok (f r) Q):Ok (Option.bind (nS a b c) f) Q:=by
 rw [Qk];exact hf _ rfl
section
variable {rc:(Int)→(aB)→(ay)→(aA)→(BA)→(Int)→(Int)→(Int)→(Int)→(Bool)→(aI)→(Bool)→Option (aa×Int)} {Q:aa×Int→Prop}
theorem ZA {L:ay} (hL:L.length≤1048000) {x2 dI n2 v gD st:Int} {n1 be:BA} {en:Bool} {dz:qH→Option (aa×Int)} (hr:∀ L':ay,L'.length=L.length+1→Ok (dz (i64.wrap (x2+1),L',i64.wrap (dI+1))) Q) :
  Ok (bS (JA x2 L dI n1 n2 v gD st en be fuel rc dz) fuel 0) Q:=by
 refine eh (I:=fun x:Int=>0≤x∧x≤(L.length:Int)) (m:=fun x:Int=>((L.length:Int)-x).toNat) (fun rec (x:Int) hI hrc=>?_) fuel (0:Int) ⟨by omega,by omega⟩ (by have:=bT;omega);obtain ⟨h0,h1⟩:=hI;unfold JA
 refine cU (fun h=>gT h0 h fun e _=>?_) fun h=>?_
 ·have h:x<(L.length:Int):=h
  rw [g32,Option.bind_some]
  refine bR (fun _=>?_) fun _=>?_
  ·rw [bB (by omega) (by omega)]
   exact hrc _ ⟨by omega,by omega⟩ (by omega)
  ·repeat' (refine eV (by first | (simp;done) | (simp;omega) | (simp only [decide_eq_true_eq];omega)) ?_)
   exact hr _ (by simp;omega)
 ·repeat' (refine eV (by first | (simp;done) | (simp;omega) | (simp only [decide_eq_true_eq];omega)) ?_)
  exact hr _ (by simp;omega)
theorem ZB {ss:aB} {bs:aA} {x0 v M:Int} {sn nm:BA} {dr go:Bool} {im wa dn ov pe le mo lo co:Int} (hM:M≤20) (h0:0≤x0) (h1:x0<(ss.length:Int)) (hs:ss.length≤1000) (hb:bs.length≤1000) {L:ay} {nx:Int} (hL:L.length≤900) :
  Ok (bS (Ev x0 v sn M dr ss bs nm go im wa dn ov pe le mo lo co fuel rc) fuel (0,L,nx)) (fun r=>Dx r.1):=by
 refine eh (I:=fun x=>0≤x.1∧x.1≤20∧(x.2.1.length:Int)≤900+x.1) (m:=fun x=>(20-x.1).toNat) (fun rec x hI hrc=>?_) fuel _ ⟨by simp,by simp,by simp;omega⟩ (by simp;have:=bT;omega);obtain ⟨i,L,nx⟩:=x;obtain ⟨i0,i1,i2⟩:=hI;dsimp only at i0 i1 i2 hrc;unfold Ev Ru
 refine cU (fun h=>?_) fun h=>?_
 ·refine ZA (by omega) fun L' hL'=>?_
  rw [bB (by omega) (by omega)];refine hrc _ ⟨?_,?_,?_⟩ ?_<;>dsimp only<;>omega
 ·refine gT h0 h1 fun e _=>?_
  have w:i64.wrap (x0+1)=x0+1:=bB (by omega) (by omega);rw [w]
  refine bR (fun _=>?_) fun _=>?_
  ·repeat' (refine eV (by first | (simp;done) | (simp;omega) | (simp only [decide_eq_true_eq];omega)) ?_)
   exact aC ⟨by simp;omega,by dsimp only;omega,hb⟩
  ·exact aC ⟨by simp;omega,by dsimp only;omega,hb⟩
theorem ZC {ss s2:aB} {cs:ay} {bs b2:aA} {x0 v nw n2 M wa co:Int} {sn:BA} {sc dr:Bool} {en:aI} (hM:M≤20) (h0:0≤x0) (h1:x0<(s2.length:Int)) (hs:ss.length≤1000) (hc:cs.length≤900) (hb:bs.length≤1000) (Ih:s2.length≤1000) (Ip:b2.length≤1000) (he:en.length≤1000) (hv:0≤dv (lY sn) s2 0) {L:ay} (hL:L.length≤900) :
  Ok (bS (Ew x0 v nw ss cs bs sn M wa co sc en dr n2 s2 b2 fuel rc) fuel (0,L)) (fun r=>Dx r.1):=by
 have Ha:Dx (⟨nw,ss,cs,bs⟩:aa):=⟨hs,by dsimp only;omega,hb⟩;refine eh (I:=fun x=>0≤x.1∧x.1≤(en.length:Int)∧x.2.length≤900) (m:=fun x=>((en.length:Int)-x.1).toNat) (fun rec x hI hrc=>?_) fuel _ ⟨by simp,by simp,hL⟩ (by simp;have:=bT;omega);obtain ⟨i,L⟩:=x;obtain ⟨i0,i1,i2⟩:=hI;dsimp only at i0 i1 i2 hrc;unfold Ew Rv
 refine cU (fun h=>?_) fun h=>?_
 ·refine cT i0 h fun e he0=>?_
  refine Pe (by dsimp only;omega) (by dsimp only;omega) hv fun r hr=>?_
  refine qS (fun _=>aC Ha) fun hrt=>?_
  have hr:=hr hrt
  refine cT i0 h fun e' he'=>?_
  rw [g66 (by dsimp only;omega),Option.bind_some];have l2:=qN (il sn e'.Number) L
  have l3:0≤dv (il sn e'.Number) L 0:=by
   rw [he0] at he';cases he';exact hr
  refine gT l3 l2.2 fun e3 _=>gT l3 (by simpa using l2.2) fun e4 _=>?_
  rw [bB (by omega) (by omega)];refine hrc _ ⟨?_,?_,?_⟩ ?_<;>dsimp only<;>(try simp)<;>omega
 ·refine gT h0 h1 fun e _=>?_
  refine bO (Ui (by dsimp only;omega) (by dsimp only;omega)) fun r _=>?_
  repeat' (first
   | exact aC Ha
   | exact ZB hM h0 h1 Ih Ip i2
   | (refine bO (Ui (by dsimp only;omega) (by dsimp only;omega)) fun r _=>?_)
   | (refine Wy fun r _=>?_)
   | (refine bR (fun _=>?_) fun _=>?_))
theorem ZD {ss:aB} {cs:ay} {bs:aA} {x0 nw M wa co:Int} {sn:BA} {sc dr:Bool} {en:aI} (hM:M≤20) (h0:0≤x0) (h1:x0<(ss.length:Int)) (hs:ss.length≤1000) (hc:cs.length≤900) (hb:bs.length≤1000) (he:en.length≤1000) (hv:0≤dv (lY sn) ss 0) (hall:∀ (j:Nat) e,en[j]?=some e→0≤dv (il sn e.Number) cs 0) :
  Ok (bS (Ey x0 nw ss cs bs sn M wa co sc en dr fuel rc) fuel 0) (fun r=>Dx r.1):=by
 have Ha:Dx (⟨nw,ss,cs,bs⟩:aa):=⟨hs,by dsimp only;omega,hb⟩;refine eh (I:=fun x:Int=>0≤x∧x≤(en.length:Int)) (m:=fun x:Int=>((en.length:Int)-x).toNat) (fun rec (i:Int) hI hrc=>?_) fuel (0:Int) ⟨by omega,by omega⟩ (by have:=bT;omega);obtain ⟨i0,i1⟩:=hI;unfold Ey Rw
 refine cU (fun h=>?_) fun h=>?_
 ·have h:i<(en.length:Int):=h
  refine cT i0 h fun e he0=>?_
  rw [g66 (by dsimp only;omega),Option.bind_some];have l2:=qN (il sn e.Number) cs
  refine cT (hall _ e he0) l2.2 fun e3 _=>cT i0 h fun e4 _=>?_
  refine bR (fun _=>aC Ha) fun _=>?_
  rw [bB (by omega) (by omega)];exact hrc _ ⟨by omega,by omega⟩ (by omega)
 ·rw [g27 (by dsimp only;omega) (by dsimp only;omega) (by dsimp only;omega),Option.bind_some]
  exact ZC hM h0 h1 hs hc hb hs hb he hv hc
theorem ok42 {ss:aB} {cs:ay} {bs:aA} {nw a5 a6 a7 a8:Int} {sn:BA} {a9 Dh:Bool} {en:aI} (hs:ss.length≤1000) (hc:cs.length≤900) (hb:bs.length≤1000) (he:en.length≤1048576) :
  Ok ((oz fuel fuel) nw ss cs bs sn a5 a6 a7 a8 a9 en Dh) (fun r=>Dx r.1):=by
 have Ha:Dx (⟨nw,ss,cs,bs⟩:aa):=⟨hs,by dsimp only;omega,hb⟩;obtain ⟨m,hm⟩:∃ k,fuel=k+1:=⟨fuel-1,by have:=ik;omega⟩
 have e0:oz fuel fuel=B42 fuel (oz fuel m):=by
  have:∀ d,oz fuel (d+1)=B42 fuel (oz fuel d):=fun _=>rfl
  rw [←this m,← hm]
 rw [e0];unfold B42;rw [g81 (by exact he),Option.bind_some]
 refine qS (fun _=>aC Ha) fun hf=>?_
 simp only [Kh,Bool.and_eq_true,di,Bool.not_eq_true',decide_eq_false_iff_not] at hf;obtain ⟨⟨hM0,hM⟩,hl,-⟩:=hf;rw [g69 (by dsimp only;omega),Option.bind_some];have l1:=qN (lY sn) ss
 refine cU (fun _=>aC Ha) fun hv=>?_
 have hv:0≤dv (lY sn) ss 0:=by dsimp only at hv;omega
 refine eh (I:=fun x:Int=>0≤x∧x≤(en.length:Int)∧∀ (j:Nat) e,(j:Int)<x→en[j]?=some e→0≤dv (il sn e.Number) cs 0) (m:=fun x:Int=>((en.length:Int)-x).toNat) (fun rec (i:Int) hI hrc=>?_) fuel (0:Int) ⟨by omega,by omega,fun j e h=>by omega⟩ (by have:=bT;omega);obtain ⟨i0,i1,i2⟩:=hI;unfold JB Rx
 refine cU (fun h=>?_) fun h=>?_
 ·have h:i<(en.length:Int):=h
  refine cT i0 h fun e he0=>?_
  rw [g66 (by dsimp only;omega),Option.bind_some]
  refine cU (fun _=>aC Ha) fun hp=>?_
  rw [bB (by omega) (by omega)];refine hrc _ ⟨by omega,by omega,fun j e' hj hje=>?_⟩ (by omega)
  rcases Int.lt_or_le (j:Int) i with h' | h'
  ·exact i2 j e' h' hje
  ·have ej:j=i.toNat:=by omega
   rw [ej,he0] at hje;cases hje;dsimp only at hp;omega
 ·have h:¬ i<(en.length:Int):=h
  refine cT hv l1.2 fun e _=>?_
  refine bR (fun _=>aC Ha) fun _=>?_
  refine ZD hM hv l1.2 hs hc hb (by omega) hv fun j e hj=>i2 j e ?_ hj
  have:=(List.getElem?_eq_some_iff.1 hj).1;omega
end
theorem ok14 {b:aa} {a:au} (hs:b.af.length≤1048576) (hc:b.ah.length≤1048576) (hb:b.ak.length≤1048576) (he:a.Ends.length≤1048576):Ok (G14 b a) (fun r=>Dx r.1):=by
 unfold G14 G14n;rw [Fv hs hc hb,Option.bind_some]
 refine qS (fun _=>aC ⟨by simp,by simp,by simp⟩) fun hv=>?_
 obtain ⟨v1,v2,v3⟩:=rG hv
 refine bO (ok42 (by omega) (by omega) (by omega) he) fun r hr=>?_
 obtain ⟨r1,r2,r3⟩:=hr;rw [g27 (by omega) (by omega) (by omega),Option.bind_some];exact aC ⟨r1,r2,r3⟩
end Go.Proofs.Ytipemmgoipbojaa.Ab
set_option maxRecDepth 10000
namespace Go.Proofs.Ytipemmgoipbojaa.Ab
open Go Go.RowKit
theorem jS {α β:Type} {xs:List α} {x:α} {s:Nat} {z:Option β} {Q:β→Prop} (hl:xs.length≤1048576) (hs:s≤1000) (h:Ok z Q):Ok (cond (decide ((xs.length+([x]:List α).length)*s≤140737488355328)) z none) Q:=by
 refine eV ?_ h;simp only [List.length_cons,List.length_nil,decide_eq_true_eq];have:(xs.length+(0+1))*s≤1048577*1000:=Nat.mul_le_mul (by omega) hs;omega
def T8 (cs:ay) (l:cJ):Prop:=l.length≤1000∧∀ x:Int,x∈(l:List Int)→0≤x∧x<(cs.length:Int)
theorem ok99 {b:aa} {n:BA} (hc:b.ah.length≤1000):Ok (S4 b n) (T8 b.ah):=by
 unfold S4 SZ;refine eh (I:=fun x=>0≤x.2∧x.2≤(b.ah.length:Int)∧(x.1.length:Int)≤x.2∧∀ y:Int,y∈(x.1:List Int)→0≤y∧y<(b.ah.length:Int)) (m:=fun x=>((b.ah.length:Int)-x.2).toNat) (fun rec x hI hrc=>?_) fuel _ ⟨by simp,by simp,by simp,fun y hy=>by cases hy⟩ (by simp;have:=bT;omega);obtain ⟨l,i⟩:=x;obtain ⟨i0,i1,i2,i3⟩:=hI;dsimp only at i0 i1 i2 i3 hrc;unfold Ee
 refine cU (fun h=>?_) fun h=>aC ⟨by omega,i3⟩
 refine cT i0 h fun e _=>?_
 rw [bB (show -9223372036854775808≤i+1 by omega) (by omega)];have skip:Ok (rec (l,i+1)) (T8 b.ah):=hrc _ ⟨by dsimp only;omega,by dsimp only;omega,by dsimp only;omega,i3⟩ (by dsimp only;omega)
 refine bR (fun _=>cT i0 h fun e _=>qS (fun _=>?_) fun _=>skip) fun _=>skip
 refine jS (by omega) (by omega) (hrc _ ⟨by dsimp only;omega,by dsimp only;omega,by simp;omega,fun y hy=>?_⟩ (by dsimp only;omega))
 rcases List.mem_append.1 hy with hy | hy
 ·exact i3 y hy
 ·rcases List.mem_singleton.1 hy with rfl
  exact ⟨i0,h⟩
theorem ok97 {b:aa} {l:cJ} (hl:T8 b.ah l):Ok (G97 b l) (fun r=>r.length≤1000):=by
 obtain ⟨l1,l2⟩:=hl;unfold G97 S7;refine eh (I:=fun x=>0≤x.2∧x.2≤(l.length:Int)∧(x.1.length:Int)≤x.2) (m:=fun x=>((l.length:Int)-x.2).toNat) (fun rec x hI hrc=>?_) fuel _ ⟨by simp,by simp,by simp⟩ (by simp;have:=bT;omega);obtain ⟨r,i⟩:=x;obtain ⟨i0,i1,i2⟩:=hI;dsimp only at i0 i1 i2 hrc;unfold zW
 refine cU (fun h=>?_) fun h=>aC (by omega)
 refine cT i0 h fun (e:Int) he=>?_
 obtain ⟨e0,e1⟩:=l2 e (List.mem_of_getElem? he)
 refine cT e0 e1 fun c _=>cT i0 h fun (e':Int) he'=>?_
 obtain ⟨e2,e3⟩:=l2 e' (List.mem_of_getElem? he')
 refine cT e2 e3 fun c _=>?_
 rw [bB (by omega) (by omega)];exact jS (by omega) (by omega) (hrc _ ⟨by dsimp only;omega,by dsimp only;omega,by simp;omega⟩ (by dsimp only;omega))
theorem ok117 {b:aa} {c:ai} (hb:b.ak.length≤1048576):Ok (yN b c) (fun _=>True):=by
 unfold yN Ls;rw [g67 hb,Option.bind_some];have l:=qN (Bq c.bE) b.ak
 exact cU (fun h=>cT (by omega) l.2 fun e _=>aC trivial) fun _=>aC trivial
theorem Pf {β:Type} {b:aa} {c:ai} {f:Bool→Option β} {Q:β→Prop} (hb:b.ak.length≤1048576) (hf:∀ r,Ok (f r) Q):Ok (Option.bind (yN b c) f) Q:=bO (ok117 hb) fun r _=>hf r
theorem ok98 {b:aa} {s:ae} {k:Int} (hc:b.ah.length≤1000) (hb:b.ak.length≤1048576):Ok (S6 b s k) (T8 b.ah):=by
 unfold S6 S5
 refine bO (ok99 hc) fun lv hlv=>?_
 obtain ⟨l1,l2⟩:=hlv;refine eh (I:=fun x=>0≤x.2∧x.2≤(lv.length:Int)∧(x.1.length:Int)≤x.2∧∀ y:Int,y∈(x.1:List Int)→0≤y∧y<(b.ah.length:Int)) (m:=fun x=>((lv.length:Int)-x.2).toNat) (fun rec x hI hrc=>?_) fuel _ ⟨by simp,by simp,by simp,fun y hy=>by cases hy⟩ (by simp;have:=bT;omega);obtain ⟨l,i⟩:=x;obtain ⟨i0,i1,i2,i3⟩:=hI;dsimp only at i0 i1 i2 i3 hrc;unfold Ef
 refine cU (fun h=>?_) fun h=>aC ⟨by omega,i3⟩
 refine gT i0 h fun (e:Int) he=>?_
 obtain ⟨e0,e1⟩:=l2 e (List.mem_of_getElem? he)
 refine cT e0 e1 fun c _=>?_
 rw [bB (show -9223372036854775808≤i+1 by omega) (by omega)];have skip:Ok (rec (l,i+1)) (T8 b.ah):=hrc _ ⟨by dsimp only;omega,by dsimp only;omega,by dsimp only;omega,i3⟩ (by dsimp only;omega)
 have put:∀ y,lv[i.toNat]?=some y→Ok (cond (decide ((l.length+(([y]:cJ)).length)*8≤140737488355328)) (rec (l++[y],i+1)) none) (T8 b.ah):=fun y hy=>
  jS (by omega) (by omega) (hrc _ ⟨by dsimp only;omega,by dsimp only;omega,by simp;omega,fun z hz=>by
   rcases List.mem_append.1 hz with hz | hz
   ·exact i3 z hz
   ·rcases List.mem_singleton.1 hz with rfl
    exact l2 _ (List.mem_of_getElem? hy)⟩ (by dsimp only;omega))
 repeat' (first
  | exact skip
  | (refine gT i0 h fun y hy=>?_;exact put y hy)
  | (refine Pf hb fun r=>?_)
  | (refine bR (fun _=>?_) fun _=>?_))
theorem ok124 {b:aa} {c d:ai} {k:Int} (hb:b.ak.length≤1048576):Ok (Nb b c d k) (fun _=>True):=by
 unfold Nb Lp
 repeat' (first
  | exact aC trivial
  | (refine Pf hb fun r=>?_)
  | (refine bR (fun _=>?_) fun _=>?_))
theorem ok118 {b:aa} {s:ae} {l:cJ} (hl:T8 b.ah l) (hb:b.ak.length≤1048576):Ok (ux b s l) (fun r=>r.length≤1∧(0<l.length→0<r.length)):=by
 obtain ⟨l1,l2⟩:=hl;unfold ux Gm
 refine bR (fun h=>aC ⟨by simp,fun h'=>?_⟩) fun h=>?_
 ·have:(l.length:Int)=0:=by simpa using h
  omega
 have hn:0<l.length:=by
  have:¬ (l.length:Int)=0:=by simpa using h
  omega
 refine cT (i:=(0:Int)) (Int.le_refl 0) (by omega) fun (e:Int) he=>?_
 obtain ⟨e0,e1⟩:=l2 e (List.mem_of_getElem? he)
 refine cT e0 e1 fun c _=>?_
 refine eh (I:=fun x=>0≤x.1∧x.1≤(l.length:Int)) (m:=fun x=>((l.length:Int)-x.1).toNat) (fun rec x hI hrc=>?_) fuel _ ⟨by simp,by simp;omega⟩ (by simp;have:=bT;omega);obtain ⟨i,d1,d2,d3,d4,d5,d6,d7⟩:=x;obtain ⟨i0,i1⟩:=hI;dsimp only at i0 i1 hrc;unfold qM
 refine cU (fun h=>?_) fun h=>aC ⟨by simp,fun _=>by simp⟩
 refine cT i0 h fun (e:Int) he=>?_
 obtain ⟨e0,e1⟩:=l2 e (List.mem_of_getElem? he)
 refine cT e0 e1 fun c _=>?_
 rw [bB (show -9223372036854775808≤i+1 by omega) (by omega)]
 refine bO (ok124 hb) fun r _=>bR (fun _=>?_) fun _=>hrc _ ⟨by dsimp only;omega,by dsimp only;omega⟩ (by dsimp only;omega)
 refine cT i0 h fun (e:Int) he=>?_
 obtain ⟨e0,e1⟩:=l2 e (List.mem_of_getElem? he)
 exact cT e0 e1 fun c _=>hrc _ ⟨by dsimp only;omega,by dsimp only;omega⟩ (by dsimp only;omega)
def srv (b:aa):Prop:=∀ c,c∈b.ah→0≤dv (lY c.aq) b.af 0
theorem Yz {b:aa} (h:vB b=true):srv b:=by
 intro c hc;obtain ⟨i,hi,rfl⟩:=List.getElem_of_mem hc;simp only [vB,Bool.and_eq_true] at h;have:=kC h.2.2.2.2.2.2 hi;rw [mC hi,Bool.and_eq_true] at this;have:=this.1;unfold KC at this;split at this
 ·simp only [Bool.and_eq_true,Bool.not_eq_true',decide_eq_false_iff_not] at this
  have:=this.1;omega
 ·cases this
theorem ok119 {b:aa} {l:cJ} (hl:T8 b.ah l) (hs:b.af.length≤1000) (hc:b.ah.length≤1000) (hv:srv b):Ok (Gl b l) (T8 b.ah):=by
 obtain ⟨l1,l2⟩:=hl;unfold Gl Gk;refine eh (I:=fun x=>0≤x.2∧x.2≤(l.length:Int)∧(x.1.length:Int)≤x.2∧∀ y:Int,y∈(x.1:List Int)→0≤y∧y<(b.ah.length:Int)) (m:=fun x=>((l.length:Int)-x.2).toNat) (fun rec x hI hrc=>?_) fuel _ ⟨by simp,by simp,by simp,fun y hy=>by cases hy⟩ (by simp;have:=bT;omega);obtain ⟨r,i⟩:=x;obtain ⟨i0,i1,i2,i3⟩:=hI;dsimp only at i0 i1 i2 i3 hrc;unfold xj
 refine cU (fun h=>?_) fun h=>aC ⟨by omega,i3⟩
 refine cT i0 h fun (e:Int) he=>?_
 obtain ⟨e0,e1⟩:=l2 e (List.mem_of_getElem? he)
 refine cT e0 e1 fun c hcm=>cT i0 h fun (e':Int) he'=>?_
 obtain ⟨e2,e3⟩:=l2 e' (List.mem_of_getElem? he')
 refine cT e2 e3 fun c' _=>?_
 refine Pe (by dsimp only;omega) (by dsimp only;omega) (hv c (List.mem_of_getElem? hcm)) fun q _=>?_
 rw [bB (show -9223372036854775808≤i+1 by omega) (by omega)]
 refine bR (fun _=>cT i0 h fun y hy=>?_) fun _=>hrc _ ⟨by dsimp only;omega,by dsimp only;omega,by dsimp only;omega,i3⟩ (by dsimp only;omega)
 refine jS (by omega) (by omega) (hrc _ ⟨by dsimp only;omega,by dsimp only;omega,by simp;omega,fun z hz=>?_⟩ (by dsimp only;omega))
 rcases List.mem_append.1 hz with hz | hz
 ·exact i3 z hz
 ·rcases List.mem_singleton.1 hz with rfl
  exact l2 _ (List.mem_of_getElem? hy)
theorem ok120 {s:ae} (h:s.bY>0):Ok (Nc s) (fun _=>True):=by
 unfold Nc Lr
 have h1:¬ s.bY=0:=by omega
 simp only [h1,decide_false,cond_false]
 repeat' (first
  | exact aC trivial
  | (refine bR (fun _=>?_) fun _=>?_))
theorem ok48 {b:aa} {s:ae} {k:Int} (hs:b.af.length≤1000) (hc:b.ah.length≤1000) (hb:b.ak.length≤1000) (hv:srv b) (hm:s∈b.af) (hw:0≤s.Want):Ok (G48 k b s) (fun r=>r.Ends.length≤1000):=by
 have hp:0≤dv (lY s.Name) b.af 0:=by
  rcases dQ (lY s.Name) b.af with ⟨e,h⟩ | ⟨i,hi,e,_⟩
  ·have:=h s hm
   simp [lY] at this
  ·rw [e];omega
 have hs':b.af.length≤1048576:=by omega
 have Ka:b.ah.length≤1048576:=by omega
 have hb':b.ak.length≤1048576:=by omega
 unfold G48 VK
 repeat' (first
  | (refine aC ?_;first | assumption | (simp;done) | (dsimp only;omega))
  | (refine bO (ok98 hc hb') fun r _=>?_)
  | (refine bO (ok99 hc) fun r _=>?_)
  | (refine bO (ok97 (by assumption)) fun r _=>?_)
  | (refine bO (Ui hs' Ka) fun r _=>?_)
  | (refine bO (ok118 (by assumption) hb') ?_;rintro r ⟨q1,q2⟩)
  | (refine bO (ok119 (by assumption) hs hc hv) fun r _=>?_)
  | (refine Pe hs' Ka hp fun r _=>?_)
  | (refine bO (ok120 (by assumption)) fun r _=>?_)
  | (refine gT (i:=(0:Int)) (Int.le_refl 0) (by omega) fun e _=>?_)
  | (refine cU (fun _=>?_) fun _=>?_)
  | (refine bR (fun _=>?_) fun _=>?_))
def acS (l:eI):Prop:=l.length≤1000∧∀ a:au,a∈l→a.Ends.length≤1000
theorem ok19 {b:aa} {k:Int} (hs:b.af.length≤1048576) (hc:b.ah.length≤1048576) (hb:b.ak.length≤1048576):Ok (ND k b) acS:=by
 unfold ND M9;rw [Fv hs hc hb,Option.bind_some]
 refine qS (fun _=>aC ⟨by simp,fun a ha=>by cases ha⟩) fun hv=>?_
 obtain ⟨v1,v2,v3⟩:=rG hv;have hsr:=Yz hv
 have hwant:∀ s:ae,s∈b.af→0≤s.Want:=fun s hm=>by
  obtain ⟨i,hi,rfl⟩:=List.getElem_of_mem hm;simp only [vB,Bool.and_eq_true] at hv;have:=kC hv.2.2.2.2.1 hi;rw [mC hi,Bool.and_eq_true] at this;have:=this.1;simp only [vk,Bool.and_eq_true,di] at this;exact this.2.2.2.2.1.1
 refine eh (I:=fun x=>0≤x.2∧x.2≤(b.af.length:Int)∧(x.1.length:Int)≤x.2∧∀ a:au,a∈x.1→a.Ends.length≤1000) (m:=fun x=>((b.af.length:Int)-x.2).toNat) (fun rec x hI hrc=>?_) fuel _ ⟨by simp,by simp,by simp,fun y hy=>by cases hy⟩ (by simp;have:=bT;omega);obtain ⟨l,i⟩:=x;obtain ⟨i0,i1,i2,i3⟩:=hI;dsimp only at i0 i1 i2 i3 hrc;unfold Ad
 refine cU (fun h=>?_) fun h=>aC ⟨by omega,i3⟩
 refine cT i0 h fun s Ha=>?_
 have hm:=List.mem_of_getElem? Ha
 refine bO (ok48 (by dsimp only;omega) (by dsimp only;omega) (by dsimp only;omega) hsr hm (hwant s hm)) fun a ha=>?_
 rw [bB (show -9223372036854775808≤i+1 by omega) (by omega)];have skip:Ok (rec (l,i+1)) acS:=hrc _ ⟨by dsimp only;omega,by dsimp only;omega,by dsimp only;omega,i3⟩ (by dsimp only;omega)
 have put:Ok (cond (decide ((l.length+(([a]:eI)).length)*88≤140737488355328)) (rec (l++[a],i+1)) none) acS:=
  jS (by omega) (by omega) (hrc _ ⟨by dsimp only;omega,by dsimp only;omega,by simp;omega,fun z hz=>by
   rcases List.mem_append.1 hz with hz | hz
   ·exact i3 z hz
   ·rcases List.mem_singleton.1 hz with rfl
    exact ha⟩ (by dsimp only;omega))
 repeat' (first
  | exact skip
  | exact put
  | (refine bR (fun _=>?_) fun _=>?_))
end Go.Proofs.Ytipemmgoipbojaa.Ab
set_option maxRecDepth 10000
namespace Go.Proofs.Ytipemmgoipbojaa.Ab
open Go Go.RowKit
def cN {α:Type} (p:α→Bool) (cs:List α) (i:Nat):Nat:=(cs.take i).countP p
theorem Vj {α:Type} {p:α→Bool} {cs:List α} {i:Nat} (h:i<cs.length):cN p cs (i+1)=cond (p cs[i]) (cN p cs i+1) (cN p cs i):=by
 unfold cN;rw [List.take_add_one,List.getElem?_eq_getElem h,List.countP_append];cases hp:p cs[i]<;>simp [hp]
theorem cN_le {α:Type} (p:α→Bool) (cs:List α) (i:Nat):cN p cs i≤i:=by
 unfold cN;have:=List.countP_le_length (p:=p) (l:=cs.take i);simp at this;omega
end Go.Proofs.Ytipemmgoipbojaa.Ab
set_option maxRecDepth 10000
namespace Go.Proofs.Ytipemmgoipbojaa.Ab
open Go Go.RowKit
def Hc (n:BA) (c:ai):Bool:=decide (c.bE=n)
def cB (n:BA) (cs:List ai):Int:=((cN (Hc n) cs cs.length:Nat):Int)
def wQ (cs:List ai) (t:BA×Int) (be:aG):BA×Int:=cond (!be.qF) (cond (decide (t.1=⟨#[]⟩)) (be.Name,cB be.Name cs) (cond (decide (cB be.Name cs<t.2)) (be.Name,cB be.Name cs) t)) t
theorem Uw {cs:List ai} {bs:List aG} {j:Nat} (hj:j<bs.length) (hc:cs.length≤1048576) (hb:bs.length≤1048576) {t:BA×Int} {aM:rB→Option BA} :
  bS (xm t.1 t.2 ((j:Nat):Int) cs bs fuel aM) fuel (0,0)=aM ((wQ cs t bs[j]).1,(wQ cs t bs[j]).2,((j+1:Nat):Int)):=by
 refine kL (st:=fun i=>(((cN (Hc bs[j].Name) cs i:Nat):Int),((i:Nat):Int))) (val:=fun _=>aM ((wQ cs t bs[j]).1,(wQ cs t bs[j]).2,((j+1:Nat):Int))) cs.length (fun rec=>?_) (fun rec i hi hr=>?_) fuel 0 (Nat.zero_le _) (by have:=bT;omega)
 ·simp only [xm,Int.lt_irrefl,decide_false,cond_false,Int.natCast_nonneg,decide_true,cond_true,get_cast hj,Option.bind_some,aZ (show j<4611686018427387904 by omega),wQ,cB]
  cases bs[j].qF<;>simp only [Bool.not_true,Bool.not_false,cond_true,cond_false];cases decide (t.1=⟨#[]⟩)<;>simp only [cond_true,cond_false]
  by_cases hlt:((cN (Hc bs[j].Name) cs cs.length:Nat):Int)<t.2<;>simp only [hlt,decide_true,decide_false,cond_true,cond_false]
 ·have q1:(i:Int)<(cs.length:Int):=by omega
  have e:=Vj (p:=Hc bs[j].Name) hi;have l:=cN_le (Hc bs[j].Name) cs i;simp only [xm,q1,decide_true,cond_true,Int.natCast_nonneg,get_cast hi,get_cast hj,Option.bind_some];rw [aZ (show i<4611686018427387904 by omega),aZ (show cN (Hc bs[j].Name) cs i<4611686018427387904 by omega),← hr];have hb:Hc bs[j].Name cs[i]=decide (cs[i].bE=bs[j].Name):=rfl;cases hd:decide (cs[i].bE=bs[j].Name)<;>rw [hb,hd] at e<;>simp only [cond_true,cond_false] at e ⊢ <;>rw [e]
def lst (cs:List ai) (bs:List aG):BA:=(bs.foldl (wQ cs) (⟨#[]⟩,0)).1
theorem g109 {b:aa} (hc:b.ah.length≤1048576) (hb:b.ak.length≤1048576):Te b=some (lst b.ah b.ak):=by
 unfold Te Lv
 exact CS (f:=wQ b.ah) (st:=fun i (t:BA×Int)=>(t.1,t.2,((i:Nat):Int))) (fun t=>some t.1) hb (fun rec t=>by simp only [Cj,Int.lt_irrefl,decide_false,cond_false]) (fun rec i hi t=>by
  have q1:(i:Int)<(b.ak.length:Int):=by omega
  simp only [Cj,q1,decide_true,cond_true]
  exact Uw hi hc hb) (⟨#[]⟩,0)
def upC (bs:List aG) (v:Int) (cs:List ai) (i:Nat):List ai:=match cs[i]? with
 | some c=>cond (c.State==1) (cond (!decide (lst cs bs=⟨#[]⟩)) (cs.set i ⟨c.aq,c.Number,v,c.ax,2,c.Ending,lst cs bs⟩) cs) cs
 | none=>cs
def G6 (bs:List aG) (v:Int) (cs:List ai):Nat→List ai
 | 0=>cs
 | i+1=>upC bs v (G6 bs v cs i) i
theorem TH {bs:List aG} {v:Int} {cs:List ai} {i:Nat}:(upC bs v cs i).length=cs.length:=by
 unfold upC;split
 ·rename_i c _
  cases c.State==1<;>cases decide (lst cs bs=⟨#[]⟩)<;>simp
 ·rfl
theorem vJ {bs:List aG} {v:Int} {cs:List ai}:∀ i,(G6 bs v cs i).length=cs.length
 | 0=>rfl
 | i+1=>by unfold G6;rw [TH,vJ i]
def rdy (v:Int) (c:ai):ai:=cond (c.State==2) ⟨c.aq,c.Number,v,c.ax,3,c.Ending,c.bE⟩ c
def lf (v:Int) (cs:List ai) (i:Nat):List ai:=((cs.take i).filter fun c=> !c.Ending).map (rdy v)
theorem Uy {v:Int} {cs:List ai} {i:Nat} (h:i<cs.length):lf v cs (i+1)=cond cs[i].Ending (lf v cs i) (lf v cs i++[rdy v cs[i]]):=by
 unfold lf;rw [List.take_add_one,List.getElem?_eq_getElem h,List.filter_append,List.map_append];cases hp:cs[i].Ending<;>simp [hp]
theorem PN (v:Int) (cs:List ai) (i:Nat):(lf v cs i).length≤i:=by
 unfold lf;have:=List.length_filter_le (fun c:ai=> !c.Ending) (cs.take i);simp at this ⊢;omega
def Jd (bs:List aG) (v:Int) (cs:List ai):List ai:=G6 bs v (lf v cs cs.length) (lf v cs cs.length).length
theorem Zz {ss:List ae} {cs:List ai} {bs:List aG} {v nw:Int} (hc:cs.length≤1048576) (hb:bs.length≤1048576):bS (En v nw ss bs fuel) fuel (0,cs)=some (⟨nw,ss,G6 bs v cs cs.length,bs⟩:aa):=by
 refine kL (st:=fun i=>(((i:Nat):Int),G6 bs v cs i)) (val:=fun _=>some (⟨nw,ss,G6 bs v cs cs.length,bs⟩:aa)) cs.length (fun rec=>?_) (fun rec i hi hr=>?_) fuel 0 (Nat.zero_le _) (by have:=bT;omega)
 ·simp only [En,vJ,Int.lt_irrefl,decide_false,cond_false]
 ·have hl:(G6 bs v cs i).length=cs.length:=vJ i
  have eN:i<(G6 bs v cs i).length:=by omega
  have q1:(i:Int)<((G6 bs v cs i).length:Int):=by omega
  have hg:Te (⟨nw,ss,G6 bs v cs i,bs⟩:aa)=some (lst (G6 bs v cs i) bs):=g109 (by dsimp only;omega) hb;have hr:rec (((i+1:Nat):Int),upC bs v (G6 bs v cs i) i)=some (⟨nw,ss,G6 bs v cs cs.length,bs⟩:aa):=hr;unfold upC at hr;rw [List.getElem?_eq_getElem eN] at hr;simp only at hr;simp only [En,q1,decide_true,cond_true,hg,Int.natCast_nonneg,List.getElem?_eq_getElem eN,Option.bind_some,Int.toNat_natCast,List.length_set,List.getElem?_set_self eN,List.set_set,aZ (show i<4611686018427387904 by omega)]
  cases hs:((G6 bs v cs i)[i].State==1) with
  | false=>rw [hs] at hr;exact hr
  | true=>
   rw [hs] at hr
   cases hd:decide (lst (G6 bs v cs i) bs=⟨#[]⟩) with
   | false=>rw [hd] at hr;exact hr
   | true=>rw [hd] at hr;exact hr
theorem g64 {b:aa} {v:Int} (hc:b.ah.length≤1048576) (hb:b.ak.length≤1048576):G64 b v=some (⟨b.bM,b.af,Jd b.ak v b.ah,b.ak⟩:aa):=by
 unfold G64 VJ;refine kL (st:=fun i=>(lf v b.ah i,((i:Nat):Int))) (val:=fun _=>some (⟨b.bM,b.af,Jd b.ak v b.ah,b.ak⟩:aa)) b.ah.length (fun rec=>?_) (fun rec i hi hr=>?_) fuel 0 (Nat.zero_le _) (by have:=bT;omega)
 ·have l:=PN v b.ah b.ah.length
  simp only [Eo,KU,Int.lt_irrefl,decide_false,cond_false];exact Zz (by omega) hb
 ·have q1:(i:Int)<(b.ah.length:Int):=by omega
  have l:=PN v b.ah i
  have q2:∀ c:ai,((lf v b.ah i).length+([c]:ay).length)*72≤140737488355328:=fun c=>by simp only [List.length_cons,List.length_nil];omega
  simp only [Uy hi] at hr;simp only [Eo,KU,q1,decide_true,cond_true,Int.natCast_nonneg,get_cast hi,Option.bind_some,q2,aZ (show i<4611686018427387904 by omega)]
  cases he:b.ah[i].Ending with
  | true=>rw [he] at hr;exact hr
  | false=>
   rw [he] at hr;simp only [cond_false] at hr ⊢;unfold rdy at hr
   cases hs:(b.ah[i].State==2) with
   | true=>rw [hs] at hr;rw [←he];exact hr
   | false=>rw [hs] at hr;exact hr
end Go.Proofs.Ytipemmgoipbojaa.Ab
set_option maxRecDepth 10000
namespace Go.Proofs.Ytipemmgoipbojaa.Ab
open Go Go.RowKit
theorem Pc {α R:Type} {p:α→Bool} {xs:List α} {eR:(Int→Option R)→Int→Option R} {Q:R→Prop} (hl:xs.length≤1048576)
  (hno:(∀ x∈xs,p x=false)→∀ rec,Ok (eR rec ((xs.length:Nat):Int)) Q)
  (hyes:∀ (i:Nat) (hi:i<xs.length),p xs[i]=true→(∀ j (hj:j<i),p (xs[j]'(by omega))=false)→∀ rec,Ok (eR rec ((i:Nat):Int)) Q)
  (hgo:∀ rec (i:Nat) (hi:i<xs.length),p xs[i]=false→Ok (rec ((i+1:Nat):Int)) Q→Ok (eR rec ((i:Nat):Int)) Q):Ok (bS eR fuel 0) Q:=by
 have key:∀ n i,i≤xs.length→(∀ j (hj:j<i) (h:j<xs.length),p xs[j]=false)→xs.length-i<n→Ok (bS eR n ((i:Nat):Int)) Q:=by
  intro n
  induction n with
  | zero=>intro i _ _ h;omega
  | succ n ih=>
   intro i hi hb hn;rw [kY]
   rcases Nat.lt_or_ge i xs.length with h | h
   ·cases hp:p xs[i] with
    | true=>exact hyes i h hp (fun j hj=>hb j hj (by omega)) _
    | false=>exact hgo _ i h hp (ih (i+1) (by omega) (fun j hj hj2=>by
      rcases Nat.lt_or_ge j i with h' | h'
      ·exact hb j h' hj2
      ·have:j=i:=by omega
       subst this;exact hp) (by omega))
   ·have:i=xs.length:=by omega
    subst this
    exact hno (fun x hx=>by
     obtain ⟨j,hj,rfl⟩:=List.getElem_of_mem hx
     exact hb j hj hj) _
 exact key fuel 0 (Nat.zero_le _) (fun j hj=>by omega) (by have:=bT;omega)
theorem Cm {α β:Type} {xs:List α} {i:Nat} {f:α→Option β} {Q:β→Prop} (h:i<xs.length) (hf:Ok (f xs[i]) Q):Ok (cond (decide (0≤((i:Nat):Int))) (cond (decide (((i:Nat):Int)<(xs.length:Int))) (Option.bind xs[((i:Nat):Int).toNat]? f) none) none) Q:=
 eV (by simp) (eV (by simp;omega) (by rw [get_cast h];exact hf))
theorem Is {α:Type} {p:α→Bool} {xs:List α} {i j:Nat} (hi:i<xs.length) (hj:j<xs.length) (pi:p xs[i]=true) (pj:p xs[j]=true) (bi:∀ k (hk:k<i),p (xs[k]'(by omega))=false) (bj:∀ k (hk:k<j),p (xs[k]'(by omega))=false):i=j:=by
 rcases Nat.lt_trichotomy i j with h | h | h
 ·rw [bj i h] at pi;cases pi
 ·exact h
 ·rw [bi j h] at pj;cases pj
theorem sr {α:Type} {p:α→Bool}:∀ {xs:List α} {i:Nat},i≤xs.length→(∀ j (hj:j<i) (h:j<xs.length),p xs[j]=true)→(∀ h:i<xs.length,p xs[i]=false)→lead p xs=i
 | [],i,hi,_,_=>by simp at hi;subst hi;rfl
 | x::xs,0,_,_,h=>by
  have:=h (by simp);simp at this;unfold lead;rw [List.takeWhile_cons,this];rfl
 | x::xs,i+1,hi,h1,h2=>by
  have hx:p x=true:=h1 0 (by omega) (by simp);have ih:=sr (p:=p) (xs:=xs) (i:=i) (by simpa using hi) (fun j hj h=>h1 (j+1) (by omega) (by simpa using h)) (fun h=>h2 (by simpa using h));unfold lead at ih ⊢;rw [List.takeWhile_cons,hx]
  simpa using ih
section
variable {α:Type} {nm:α→BA} {xs:List α} {n:BA}
def EL (nm:α→BA) (n:BA) (old:α→α) (new:α) (xs:List α):List α:=
 match xs[lead (fun s=>slt (nm s) n) xs]? with
 | some s=>cond (decide (nm s=n)) (xs.take (lead (fun s=>slt (nm s) n) xs)++[old s]++xs.drop (lead (fun s=>slt (nm s) n) xs+1)) (xs.take (lead (fun s=>slt (nm s) n) xs)++[new]++xs.drop (lead (fun s=>slt (nm s) n) xs))
 | none=>xs.take (lead (fun s=>slt (nm s) n) xs)++[new]++xs.drop (lead (fun s=>slt (nm s) n) xs)
theorem EI {old:α→α} {new:α} {i:Nat} (hi:i<xs.length) (e:lead (fun s=>slt (nm s) n) xs=i) (h:nm xs[i]=n):EL nm n old new xs=xs.take i++[old xs[i]]++xs.drop (i+1):=by
 unfold EL;rw [e,List.getElem?_eq_getElem hi];simp [h]
theorem rU {old:α→α} {new:α} {i:Nat} (e:lead (fun s=>slt (nm s) n) xs=i) (h:∀ hi:i<xs.length,nm xs[i]≠n):EL nm n old new xs=xs.take i++[new]++xs.drop i:=by
 unfold EL;rw [e]
 rcases Nat.lt_or_ge i xs.length with hi | hi
 ·rw [List.getElem?_eq_getElem hi]
  simp [h hi]
 ·rw [List.getElem?_eq_none hi]
theorem EJ {old:α→α} {new:α}:(EL nm n old new xs).length≤xs.length+1:=by
 have l:=CD (fun s=>slt (nm s) n) xs;unfold EL;split
 ·rename_i s _
  cases decide (nm s=n)<;>simp<;>omega
 ·simp;omega
end
def fin (a x:aa):aa×Int:=cond (vB x) (x,0) (a,2)
def E6 (b:aa):Prop:=b.af.length≤1048576∧b.ah.length≤1048576∧b.ak.length≤1048576
end Go.Proofs.Ytipemmgoipbojaa.Ab
set_option maxRecDepth 10000
namespace Go.Proofs.Ytipemmgoipbojaa.Ab
open Go Go.RowKit
def HZ (w:ae) (v nx:Int):ae:=⟨w.Name,v,w.bq,w.ax,w.Want,w.Down,w.bg,nx,w.bY,w.aD,w.aU,w.bF,0⟩
def DI (w:ae) (v:Int) (ss:List ae):List ae:=EL (fun s:ae=>s.Name) w.Name (fun s=>HZ w v s.Next) (HZ w v 1) ss
theorem ok65 {b:aa} {w:ae} {v:Int} (hs:b.af.length≤1000):Ok (G65 b w v) (fun r=>r=(⟨b.bM,DI w v b.af,b.ah,b.ak⟩:aa)):=by
 unfold G65 VI
 have fin:∀ (i:Nat) (rec:Int→Option aa),i≤b.af.length→lead (fun s:ae=>slt s.Name w.Name) b.af=i→(∀ hi:i<b.af.length,slt b.af[i].Name w.Name=false)→Ok (Em v b.bM b.af b.ah b.ak w.Name w.bq w.ax w.Want w.Down w.bg w.bY w.aD w.aU w.bF fuel rec ((i:Nat):Int)) (fun r=>r=(⟨b.bM,DI w v b.af,b.ah,b.ak⟩:aa)):=by
  intro i rec hi he hn;unfold Em DI
  rcases Nat.lt_or_ge i b.af.length with h | h
  ·refine eV (by simp;omega) (Cm h ?_)
   rw [hn h,cond_false];have hx:b.af[i+0]?=some b.af[i]:=List.getElem?_eq_getElem h
   by_cases hb:b.af[i].Name=w.Name
   ·rw [EI h he hb]
    repeat' (first
     | (refine eV (by first | (simp;done) | (simp;omega)) ?_)
     | (simp only [Int.toNat_natCast,Int.toNat_zero,hx,Option.bind_some,hb,decide_true,cond_true]))
    refine aC ?_
    have e9:i+(b.af.length-i)=b.af.length:=by omega
    simp [HZ,List.take_of_length_le,e9]
   ·rw [rU he fun _=>hb]
    repeat' (first
     | (refine eV (by first | (simp;done) | (simp;omega)) ?_)
     | (simp only [Int.toNat_natCast,Int.toNat_zero,hx,Option.bind_some,hb,decide_false,cond_false]))
    refine aC ?_;simp [HZ,List.take_of_length_le]
  ·have hh:i=b.af.length:=by omega
   subst hh;rw [rU he fun h=>by omega]
   have e1:¬ ((b.af.length:Nat):Int)<(b.af.length:Int):=by omega
   simp only [e1,decide_false,cond_false]
   repeat' (first
    | (refine eV (by first | (simp;done) | (simp;omega)) ?_)
    | (refine bR (fun h=>absurd h (by simp)) fun _=>?_))
   refine aC ?_;simp [HZ,List.take_of_length_le]
 refine Pc (p:=fun s:ae=> !slt s.Name w.Name) (xs:=b.af) (by omega) (fun hno rec=>?_) (fun i hi h1 h2 rec=>?_) (fun rec i hi h1 hr=>?_)
 ·refine fin _ rec (Nat.le_refl _) (sr (Nat.le_refl _) (fun j hj h=>?_) (fun h=>by omega)) (fun h=>by omega)
  have:=hno _ (List.getElem_mem h)
  simpa using this
 ·have h1:slt b.af[i].Name w.Name=false:=by simpa using h1
  exact fin i rec (by omega) (sr (by omega) (fun j hj h=>by simpa using h2 j hj) (fun h=>h1)) (fun h=>h1)
 ·have h1:slt b.af[i].Name w.Name=true:=by simpa using h1
  unfold Em;refine eV (by simp;omega) (Cm hi ?_);rw [h1,cond_true,aZ (by omega)];exact hr
section
variable {a:aa} {ss:List ae} {cs:List ai} {bs:List aG} {v:Int} {w:ae} {n:BA} {j:Nat}
end
end Go.Proofs.Ytipemmgoipbojaa.Ab
set_option maxRecDepth 10000
namespace Go.Proofs.Ytipemmgoipbojaa.Ab
open Go Go.RowKit
theorem pos_eq {α:Type} {p:α→Bool} {xs:List α} {i:Nat} (hi:i<xs.length) (h1:p xs[i]=true) (h2:∀ j (hj:j<i),p (xs[j]'(by omega))=false):dv p xs 0=(i:Int):=by
 rcases dQ p xs with ⟨e,hn⟩ | ⟨j,hj,e,q1,q2⟩
 ·have:=hn _ (List.getElem_mem hi)
  rw [h1] at this;cases this
 ·rw [e,Is hj hi q1 h1 q2 h2]
theorem OZ {α:Type} {p:α→Bool} {xs:List α} (h:∀ x∈xs,p x=false):dv p xs 0 = -1:=by
 rcases dQ p xs with ⟨e,hn⟩ | ⟨j,hj,e,q1,q2⟩
 ·exact e
 ·rw [h _ (List.getElem_mem hj)] at q1;cases q1
section
variable {a:aa} {ss:List ae} {cs:List ai} {bs:List aG} {v:Int} {w:ae}
def flC (c:ai) (v:Int):ai:=⟨c.aq,c.Number,v,c.ax,4,c.Ending,c.bE⟩
def A9 (b:aa) (n:BA) (k v:Int):aa×Int:=match b.ah[(dv (il n k) b.ah 0).toNat]? with
 | some c=>cond (decide (dv (il n k) b.ah 0<0)) (b,3) (cond (c.State==3||c.State==2) (⟨v,b.af,b.ah.set (dv (il n k) b.ah 0).toNat (flC c v),b.ak⟩,0) (b,3))
 | none=>(b,3)
def UZ (a:aa) (x:aa×Int):aa×Int:=cond (x.2==0) (fin a x.1) (a,x.2)
theorem Qr {b:aa} {n:BA} {k v:Int} (h:∀ c∈b.ah,il n k c=false):A9 b n k v=(b,3):=by
 unfold A9;rw [OZ h];split<;>rfl
theorem Qs {b:aa} {n:BA} {k v:Int} {i:Nat} (hi:i<b.ah.length) (h1:il n k b.ah[i]=true) (h2:∀ j (hj:j<i),il n k (b.ah[j]'(by omega))=false) :
  A9 b n k v=cond (b.ah[i].State==3||b.ah[i].State==2) (⟨v,b.af,b.ah.set i (flC b.ah[i] v),b.ak⟩,0) (b,3):=by
 unfold A9;rw [pos_eq hi h1 h2]
 have e1:¬ ((i:Nat):Int)<0:=by omega
 simp only [Int.toNat_natCast,List.getElem?_eq_getElem hi,e1,decide_false,cond_false]
def ldS (s:ae) (k v:Int):ae:=⟨s.Name,v,s.bq,s.ax,s.Want,s.Down,s.bg,s.Next,s.bY,s.aD,s.aU,k,s.bb⟩
def AH (b:aa) (n:BA) (k v:Int):aa×Int:=match b.af[(dv (lY n) b.af 0).toNat]? with
 | some c=>cond (decide (dv (lY n) b.af 0<0)) (b,3) (cond (c.bY==0) (b,3) (⟨v,b.af.set (dv (lY n) b.af 0).toNat (ldS c k v),b.ah,b.ak⟩,0))
 | none=>(b,3)
theorem PD {b:aa} {n:BA} {k v:Int} (h:∀ c∈b.af,lY n c=false):AH b n k v=(b,3):=by
 unfold AH;rw [OZ h];split<;>rfl
theorem PE {b:aa} {n:BA} {k v:Int} {i:Nat} (hi:i<b.af.length) (h1:lY n b.af[i]=true) (h2:∀ j (hj:j<i),lY n (b.af[j]'(by omega))=false) :
  AH b n k v=cond (b.af[i].bY==0) (b,3) (⟨v,b.af.set i (ldS b.af[i] k v),b.ah,b.ak⟩,0):=by
 unfold AH;rw [pos_eq hi h1 h2]
 have e1:¬ ((i:Nat):Int)<0:=by omega
 simp only [Int.toNat_natCast,List.getElem?_eq_getElem hi,e1,decide_false,cond_false]
end
end Go.Proofs.Ytipemmgoipbojaa.Ab
