/- Part 5 of the proof: an abstract machine proved sound over the model, the functions that it reckons, the plain law. Names made short by a program. No conditions. -/
import Derived.Test.YtipemmgoipbojaaP4
set_option linter.unusedVariables false
set_option linter.unusedSimpArgs false
set_option linter.unusedSectionVars false
set_option maxRecDepth 100000
namespace Go.Proofs.Ytipemmgoipbojaa.Ab
open Go Go.RowKit
noncomputable def F22 (n:Nat):Cf:={ N:=n,keep:=[0,1,3,4,5,6,7,8,15,16,25,32,38,43,55,59,67,86],live:=lk [(1,[0,3,4,6])] }
def C0 (os:cW C) (ls:List (Lf C)) (rs:List (Bool×List (Lf C))):Option (List (C .e5)×Int×az):=match os,ls,rs with
 | [(38654706975360,.box .mem [.row .e5 z0,.int .i64 z1]),(77777777,.ghost)],[.ptr 38654706975360 0],[(true,[.int .i64 zn,.str Ez,.int .i64 Ey,.bool Ew,.int .i64 J1,.int .i64 J0,.int .i64 JZ,.int .i64 JY,.int .i64 JX,.int .i64 JW,.int .i64 Bc,.int .i64 Bb,.int .i64 Ba,.int .i64 J5,.str J4,.int .i64 J3,.bool J2])]=>some (z0,z1,(⟨zn,Ez,Ey,Ew,J1,J0,JZ,JY,JX,JW,Bc,Bb,Ba,J5,J4,J3,J2⟩:az))
 | _,_,_=>none
abbrev Ed:Type:=Int×List (C .e5)×Int
section
variable (x3:Int) (x4:List (C .aA)) (x5:List (C .aC)) (x6:List (C .ay)) (x7:Int) (x8:ByteArray) (x9:Int) (aM:Bool) (aS aQ aZ aV aY aW bq bC bz bD:Int) (aR:ByteArray) (bF:Int) (aX:Bool)
def aat:Ed→St C:=fun (x0,x1,x2)=>{ env:=[(0,.one (.ptr 38654706975360 0)),(3,.one (.ptr 1441984 0)),(4,.one (.ptr 1442048 0)),(6,.one (.int .i64 x0)),(90000,.frame),(90001,.bQ (true,[.ptr 38654706975360 0]) 0)],ah:=[(38654706975360,.box .mem [.row .e5 x1,.int .i64 x2]),(1441984,.box .mem [.int .i64 x3,.row .aA x4,.row .aC x5,.row .ay x6]),(1442048,.box .mem [.int .i64 x7,.str x8,.int .i64 x9,.bool aM,.int .i64 aS,.int .i64 aQ,.int .i64 aZ,.int .i64 aV,.int .i64 aY,.int .i64 aW,.int .i64 bq,.int .i64 bC,.int .i64 bz,.int .i64 bD,.str aR,.int .i64 bF,.bool aX]),(77777777,.ghost)],base:=0 }
end
noncomputable def GS (x4:List (C .aA)) (x5:List (C .aC)) (n:Nat) (rc:(Int)→(List (C .aA))→(List (C .aC))→(List (C .ay))→(List (C .e5))→(Int)→Option (List (C .e5)×Int×az))  (bu:Ed→Option (List (C .e5)×Int×az)):Ed→Option (List (C .e5)×Int×az):=fun (x0,x1,x2)=>
 cond (decide (x0<(x4.length:Int)))
 (Option.bind ((cA n n) 2 x1 x2) fun r7=>
 cond (r7.2.2==0)
 (cond (decide (0≤x0)) (Option.bind x4[x0.toNat]? fun e8=>some (r7.1,r7.2.1,(⟨2,e8.Name,e8.Version,e8.cC,IntKind.i64.wrap (e8.aB+1),e8.Want,e8.Down,e8.ct,e8.Next,e8.dA,e8.aP,e8.bN,e8.cK,e8.cE,(⟨#[]⟩:ByteArray),0,false⟩:az))) none)
 (bu ((IntKind.i64.wrap (x0+1),r7.1,r7.2.1))))
 (cond (decide ((x5.length:Int)>0))
 (Option.bind ((cA n n) 8 x1 x2) fun r9=>
 cond (decide (r9.2.2>0))
 (Option.bind ((cA n n) (x5.length:Int) r9.1 r9.2.1) fun iJ=>
 cond (decide (0≤iJ.2.2)) (Option.bind x5[iJ.2.2.toNat]? fun CX=>some (iJ.1,iJ.2.1,(⟨3,(⟨#[]⟩:ByteArray),0,false,0,0,0,0,0,0,0,0,0,0,CX.ax,CX.Number,false⟩:az))) none)
 (Option.bind ((cA n n) 6 r9.1 r9.2.1) fun lC=>
 some (lC.1,lC.2.1,(⟨3,(⟨#[]⟩:ByteArray),0,false,0,0,0,0,0,0,0,0,0,0,(⟨#[119,101,98]⟩:ByteArray),IntKind.i64.wrap (1+lC.2.2),false⟩:az))))
 (Option.bind ((cA n n) 6 x1 x2) fun eX=>
 some (eX.1,eX.2.1,(⟨3,(⟨#[]⟩:ByteArray),0,false,0,0,0,0,0,0,0,0,0,0,(⟨#[119,101,98]⟩:ByteArray),IntKind.i64.wrap (1+eX.2.2),false⟩:az))))
noncomputable def B22 (n:Nat) (rc:(Int)→(List (C .aA))→(List (C .aC))→(List (C .ay))→(List (C .e5))→(Int)→Option (List (C .e5)×Int×az)) (a0:Int) (a1:List (C .aA)) (a2:List (C .aC)) (a3:List (C .ay)) (a4:List (C .e5)) (a5:Int):Option (List (C .e5)×Int×az):=
 Option.bind ((cA n n) 3 a4 a5) fun r1=>
 cond (decide (0≤r1.2.2)) (cond (decide (r1.2.2<((([(⟨#[97]⟩:ByteArray),(⟨#[98]⟩:ByteArray),(⟨#[99]⟩:ByteArray)]:List (C .e9))).length:Int))) (Option.bind (([(⟨#[97]⟩:ByteArray),(⟨#[98]⟩:ByteArray),(⟨#[99]⟩:ByteArray)]:List (C .e9)))[r1.2.2.toNat]? fun e2=>Option.bind ((cA n n) 20 r1.1 r1.2.1) fun r3=>
 cond (r3.2.2==0)
 (some (r3.1,r3.2.1,(⟨1,(⟨#[]⟩:ByteArray),0,false,0,0,0,0,0,0,0,0,0,0,(⟨#[]⟩:ByteArray),0,false⟩:az)))
 (cond (r3.2.2==1)
 (some (r3.1,r3.2.1,(⟨1,(⟨#[]⟩:ByteArray),0,false,0,0,0,0,0,0,0,0,0,0,(⟨#[]⟩:ByteArray),0,false⟩:az)))
 (cond (r3.2.2==2)
 (some (r3.1,r3.2.1,(⟨1,(⟨#[]⟩:ByteArray),0,false,0,0,0,0,0,0,0,0,0,0,(⟨#[]⟩:ByteArray),0,false⟩:az)))
 (cond (r3.2.2==3)
 (some (r3.1,r3.2.1,(⟨1,(⟨#[]⟩:ByteArray),0,false,0,0,0,0,0,0,0,0,0,0,(⟨#[]⟩:ByteArray),0,false⟩:az)))
 (cond (r3.2.2==4)
 (some (r3.1,r3.2.1,(⟨1,(⟨#[]⟩:ByteArray),0,false,0,0,0,0,0,0,0,0,0,0,(⟨#[]⟩:ByteArray),0,false⟩:az)))
 (cond (r3.2.2==5)
 (some (r3.1,r3.2.1,(⟨1,(⟨#[]⟩:ByteArray),0,false,0,0,0,0,0,0,0,0,0,0,(⟨#[]⟩:ByteArray),0,false⟩:az)))
 (cond (r3.2.2==6)
 (some (r3.1,r3.2.1,(⟨1,(⟨#[]⟩:ByteArray),0,false,0,0,0,0,0,0,0,0,0,0,(⟨#[]⟩:ByteArray),0,false⟩:az)))
 (cond (r3.2.2==7)
 (Option.bind ((qc n n) r3.1 r3.2.1) fun r4=>
 some (r4.1,r4.2.1,(⟨2,r4.2.2.Name,r4.2.2.Version,r4.2.2.cC,r4.2.2.aB,r4.2.2.Want,r4.2.2.Down,r4.2.2.ct,r4.2.2.Next,r4.2.2.dA,r4.2.2.aP,r4.2.2.bN,r4.2.2.cK,r4.2.2.cE,(⟨#[]⟩:ByteArray),0,false⟩:az)))
 (cond (r3.2.2==8)
 (Option.bind ((qc n n) r3.1 r3.2.1) fun r5=>
 some (r5.1,r5.2.1,(⟨2,r5.2.2.Name,r5.2.2.Version,r5.2.2.cC,r5.2.2.aB,r5.2.2.Want,r5.2.2.Down,r5.2.2.ct,r5.2.2.Next,r5.2.2.dA,r5.2.2.aP,r5.2.2.bN,r5.2.2.cK,r5.2.2.cE,(⟨#[]⟩:ByteArray),0,false⟩:az)))
 (cond (r3.2.2==9)
 (Option.bind ((qc n n) r3.1 r3.2.1) fun r6=>
 some (r6.1,r6.2.1,(⟨2,r6.2.2.Name,r6.2.2.Version,r6.2.2.cC,r6.2.2.aB,r6.2.2.Want,r6.2.2.Down,r6.2.2.ct,r6.2.2.Next,r6.2.2.dA,r6.2.2.aP,r6.2.2.bN,r6.2.2.cK,r6.2.2.cE,(⟨#[]⟩:ByteArray),0,false⟩:az)))
 (cond (r3.2.2==10)
 (cu (GS a1 a2 n rc ) n (0,r3.1,r3.2.1))
 (cond (r3.2.2==11)
 (some (r3.1,r3.2.1,(⟨4,(⟨#[]⟩:ByteArray),0,false,0,0,0,0,0,0,0,0,0,0,e2,0,false⟩:az)))
 (cond (r3.2.2==12)
 (Option.bind ((cA n n) 3 r3.1 r3.2.1) fun eU=>
 some (eU.1,eU.2.1,(⟨5,(⟨#[]⟩:ByteArray),0,false,0,0,0,0,0,0,0,0,0,0,e2,0,eU.2.2==0⟩:az)))
 (cond (r3.2.2==13)
 (Option.bind ((cA n n) 3 r3.1 r3.2.1) fun wY=>
 some (wY.1,wY.2.1,(⟨5,(⟨#[]⟩:ByteArray),0,false,0,0,0,0,0,0,0,0,0,0,e2,0,wY.2.2==0⟩:az)))
 (cond (r3.2.2==14)
 (Option.bind ((cA n n) 3 r3.1 r3.2.1) fun r16=>
 cond (decide (0≤r16.2.2)) (cond (decide (r16.2.2<((([(⟨#[100,98]⟩:ByteArray),(⟨#[119,101,98]⟩:ByteArray),(⟨#[120,45,49]⟩:ByteArray)]:List (C .e9))).length:Int))) (Option.bind (([(⟨#[100,98]⟩:ByteArray),(⟨#[119,101,98]⟩:ByteArray),(⟨#[120,45,49]⟩:ByteArray)]:List (C .e9)))[r16.2.2.toNat]? fun aK=>Option.bind ((cA n n) 60 r16.1 r16.2.1) fun xc=>
 some (xc.1,xc.2.1,(⟨6,(⟨#[]⟩:ByteArray),0,false,0,0,0,0,0,0,0,0,0,0,aK,xc.2.2,false⟩:az))) none) none)
 (cond (r3.2.2==15)
 (Option.bind ((cA n n) 3 r3.1 r3.2.1) fun pA=>
 cond (decide (0≤pA.2.2)) (cond (decide (pA.2.2<((([(⟨#[100,98]⟩:ByteArray),(⟨#[119,101,98]⟩:ByteArray),(⟨#[120,45,49]⟩:ByteArray)]:List (C .e9))).length:Int))) (Option.bind (([(⟨#[100,98]⟩:ByteArray),(⟨#[119,101,98]⟩:ByteArray),(⟨#[120,45,49]⟩:ByteArray)]:List (C .e9)))[pA.2.2.toNat]? fun Ju=>Option.bind ((cA n n) 60 pA.1 pA.2.1) fun jk=>
 some (jk.1,jk.2.1,(⟨6,(⟨#[]⟩:ByteArray),0,false,0,0,0,0,0,0,0,0,0,0,Ju,jk.2.2,false⟩:az))) none) none)
 (cond (decide ((a2.length:Int)>0))
 (Option.bind ((cA n n) 8 r3.1 r3.2.1) fun ck=>
 cond (decide (ck.2.2>0))
 (Option.bind ((cA n n) (a2.length:Int) ck.1 ck.2.1) fun ee=>
 cond (decide (0≤ee.2.2)) (Option.bind a2[ee.2.2.toNat]? fun WB=>some (ee.1,ee.2.1,(⟨3,(⟨#[]⟩:ByteArray),0,false,0,0,0,0,0,0,0,0,0,0,WB.ax,WB.Number,false⟩:az))) none)
 (Option.bind ((cA n n) 6 ck.1 ck.2.1) fun dP=>
 some (dP.1,dP.2.1,(⟨3,(⟨#[]⟩:ByteArray),0,false,0,0,0,0,0,0,0,0,0,0,(⟨#[119,101,98]⟩:ByteArray),IntKind.i64.wrap (1+dP.2.2),false⟩:az))))
 (Option.bind ((cA n n) 6 r3.1 r3.2.1) fun tJ=>
 some (tJ.1,tJ.2.1,(⟨3,(⟨#[]⟩:ByteArray),0,false,0,0,0,0,0,0,0,0,0,0,(⟨#[119,101,98]⟩:ByteArray),IntKind.i64.wrap (1+tJ.2.2),false⟩:az)))))))))))))))))))) none) none
noncomputable def wH (n:Nat):Nat→(Int)→(List (C .aA))→(List (C .aC))→(List (C .ay))→(List (C .e5))→(Int)→Option (List (C .e5)×Int×az)
 | 0=>fun _ _ _ _ _ _=>none
 | d+1=>B22 n (wH n d)
noncomputable def Bp (n d:Nat):jw C:={ ids:=[38654706975360],roots:=[.ptr 38654706975360 0],fQ:=[],R0:=List (C .e5)×Int×az,out:=fun r=>[(38654706975360,.box .mem [.row .e5 r.1,.int .i64 r.2.1])],ret:=fun r=>[(true,[.int .i64 r.2.2.Kind,.str r.2.2.bO,.int .i64 r.2.2.bg,.bool r.2.2.bV,.int .i64 r.2.2.bL,.int .i64 r.2.2.cm,.int .i64 r.2.2.bW,.int .i64 r.2.2.bS,.int .i64 r.2.2.cz,.int .i64 r.2.2.cw,.int .i64 r.2.2.bK,.int .i64 r.2.2.bT,.int .i64 r.2.2.bU,.int .i64 r.2.2.bX,.str r.2.2.Name,.int .i64 r.2.2.Number,.bool r.2.2.jx])],g:=fun vs O=>match vs,O with
 | [.one (.ptr 38654706975360 0),.agg [.int .i64 y0,.row .aA y1,.row .aC y2,.row .ay y3]],[(38654706975360,.box .mem [.row .e5 y4,.int .i64 y5])]=>wH n d y0 y1 y2 y3 y4 y5
 | _,_=>none }
noncomputable def Xf (n d:Nat):Cx C:=fT [] [] [(22,dH (Bp n d)),(23,Uo n),(51,I51 n)] [0,3,4,5,6,8,9,11,12,13,15,30,31,42,43,62,64,65,66,70,71,72,73,74,75,76,77,82,84,85,86,87,88,89,90,91,92,93,94,95,102,103,104] 1441792 []
section
variable (x3:Int) (x4:List (C .aA)) (x5:List (C .aC)) (x6:List (C .ay)) (x7:Int) (x8:ByteArray) (x9:Int) (aM:Bool) (aS aQ aZ aV aY aW bq bC bz bD:Int) (aR:ByteArray) (bF:Int) (aX:Bool)
noncomputable def Oz (n d:Nat)  (x:Ed):Option (List (C .e5)×Int×az):=iter (fun rec S=>run (Xf n d) (F22 n) (au (ak Try.f22) [1,1,0,1,0,1,1,1,1,1,0,1,0,0]) 1 S (dq rec (cJ 1 (cJ 0 (bf (run (Xf n d) (F22 n) (au (ak Try.f22) [1,1,1]) 0) (nG (Xf n d) Try.f22 C0)))))) [0,3,4,6] n (aat x3 x4 x5 x6 x7 x8 x9 aM aS aQ aZ aV aY aW bq bC bz bD aR bF aX x)
theorem abE (n d:Nat)  (x:Ed):Oz x3 x4 x5 x6 x7 x8 x9 aM aS aQ aZ aV aY aW bq bC bz bD aR bF aX n d  x=cu (GS x4 x5 n (wH n d) ) n x:=by
 refine iter_eq _ _ (fun bu x=>?_) n x;obtain ⟨x0,x1,x2⟩:=x
 kernel_rfl
end
theorem t22 (n d:Nat) (a0:Int) (a1:List (C .aA)) (a2:List (C .aC)) (a3:List (C .ay)) (a4:List (C .e5)) (a5:Int):iD (Xf n d) (F22 n) Try.f22 (Bp n (d+1)) [.one (.ptr 38654706975360 0),.agg [.int .i64 a0,.row .aA a1,.row .aC a2,.row .ay a3]] [(38654706975360,.box .mem [.row .e5 a4,.int .i64 a5])] C0=B22 n (wH n d) a0 a1 a2 a3 a4 a5:=by
 have h:iD (Xf n d) (F22 n) Try.f22 (Bp n (d+1)) [.one (.ptr 38654706975360 0),.agg [.int .i64 a0,.row .aA a1,.row .aC a2,.row .ay a3]] [(38654706975360,.box .mem [.row .e5 a4,.int .i64 a5])] C0 =
  Option.bind ((cA n n) 3 a4 a5) fun r1=>
  cond (decide (0≤r1.2.2)) (cond (decide (r1.2.2<((([(⟨#[97]⟩:ByteArray),(⟨#[98]⟩:ByteArray),(⟨#[99]⟩:ByteArray)]:List (C .e9))).length:Int))) (Option.bind (([(⟨#[97]⟩:ByteArray),(⟨#[98]⟩:ByteArray),(⟨#[99]⟩:ByteArray)]:List (C .e9)))[r1.2.2.toNat]? fun e2=>Option.bind ((cA n n) 20 r1.1 r1.2.1) fun r3=>
  cond (r3.2.2==0)
  (some (r3.1,r3.2.1,(⟨1,(⟨#[]⟩:ByteArray),0,false,0,0,0,0,0,0,0,0,0,0,(⟨#[]⟩:ByteArray),0,false⟩:az)))
  (cond (r3.2.2==1)
  (some (r3.1,r3.2.1,(⟨1,(⟨#[]⟩:ByteArray),0,false,0,0,0,0,0,0,0,0,0,0,(⟨#[]⟩:ByteArray),0,false⟩:az)))
  (cond (r3.2.2==2)
  (some (r3.1,r3.2.1,(⟨1,(⟨#[]⟩:ByteArray),0,false,0,0,0,0,0,0,0,0,0,0,(⟨#[]⟩:ByteArray),0,false⟩:az)))
  (cond (r3.2.2==3)
  (some (r3.1,r3.2.1,(⟨1,(⟨#[]⟩:ByteArray),0,false,0,0,0,0,0,0,0,0,0,0,(⟨#[]⟩:ByteArray),0,false⟩:az)))
  (cond (r3.2.2==4)
  (some (r3.1,r3.2.1,(⟨1,(⟨#[]⟩:ByteArray),0,false,0,0,0,0,0,0,0,0,0,0,(⟨#[]⟩:ByteArray),0,false⟩:az)))
  (cond (r3.2.2==5)
  (some (r3.1,r3.2.1,(⟨1,(⟨#[]⟩:ByteArray),0,false,0,0,0,0,0,0,0,0,0,0,(⟨#[]⟩:ByteArray),0,false⟩:az)))
  (cond (r3.2.2==6)
  (some (r3.1,r3.2.1,(⟨1,(⟨#[]⟩:ByteArray),0,false,0,0,0,0,0,0,0,0,0,0,(⟨#[]⟩:ByteArray),0,false⟩:az)))
  (cond (r3.2.2==7)
  (Option.bind ((qc n n) r3.1 r3.2.1) fun r4=>
  some (r4.1,r4.2.1,(⟨2,r4.2.2.Name,r4.2.2.Version,r4.2.2.cC,r4.2.2.aB,r4.2.2.Want,r4.2.2.Down,r4.2.2.ct,r4.2.2.Next,r4.2.2.dA,r4.2.2.aP,r4.2.2.bN,r4.2.2.cK,r4.2.2.cE,(⟨#[]⟩:ByteArray),0,false⟩:az)))
  (cond (r3.2.2==8)
  (Option.bind ((qc n n) r3.1 r3.2.1) fun r5=>
  some (r5.1,r5.2.1,(⟨2,r5.2.2.Name,r5.2.2.Version,r5.2.2.cC,r5.2.2.aB,r5.2.2.Want,r5.2.2.Down,r5.2.2.ct,r5.2.2.Next,r5.2.2.dA,r5.2.2.aP,r5.2.2.bN,r5.2.2.cK,r5.2.2.cE,(⟨#[]⟩:ByteArray),0,false⟩:az)))
  (cond (r3.2.2==9)
  (Option.bind ((qc n n) r3.1 r3.2.1) fun r6=>
  some (r6.1,r6.2.1,(⟨2,r6.2.2.Name,r6.2.2.Version,r6.2.2.cC,r6.2.2.aB,r6.2.2.Want,r6.2.2.Down,r6.2.2.ct,r6.2.2.Next,r6.2.2.dA,r6.2.2.aP,r6.2.2.bN,r6.2.2.cK,r6.2.2.cE,(⟨#[]⟩:ByteArray),0,false⟩:az)))
  (cond (r3.2.2==10)
  (Oz a0 a1 a2 a3 0 (⟨#[]⟩:ByteArray) 0 false 0 0 0 0 0 0 0 0 0 0 (⟨#[]⟩:ByteArray) 0 false n d  (0,r3.1,r3.2.1))
  (cond (r3.2.2==11)
  (some (r3.1,r3.2.1,(⟨4,(⟨#[]⟩:ByteArray),0,false,0,0,0,0,0,0,0,0,0,0,e2,0,false⟩:az)))
  (cond (r3.2.2==12)
  (Option.bind ((cA n n) 3 r3.1 r3.2.1) fun eU=>
  some (eU.1,eU.2.1,(⟨5,(⟨#[]⟩:ByteArray),0,false,0,0,0,0,0,0,0,0,0,0,e2,0,eU.2.2==0⟩:az)))
  (cond (r3.2.2==13)
  (Option.bind ((cA n n) 3 r3.1 r3.2.1) fun wY=>
  some (wY.1,wY.2.1,(⟨5,(⟨#[]⟩:ByteArray),0,false,0,0,0,0,0,0,0,0,0,0,e2,0,wY.2.2==0⟩:az)))
  (cond (r3.2.2==14)
  (Option.bind ((cA n n) 3 r3.1 r3.2.1) fun r16=>
  cond (decide (0≤r16.2.2)) (cond (decide (r16.2.2<((([(⟨#[100,98]⟩:ByteArray),(⟨#[119,101,98]⟩:ByteArray),(⟨#[120,45,49]⟩:ByteArray)]:List (C .e9))).length:Int))) (Option.bind (([(⟨#[100,98]⟩:ByteArray),(⟨#[119,101,98]⟩:ByteArray),(⟨#[120,45,49]⟩:ByteArray)]:List (C .e9)))[r16.2.2.toNat]? fun aK=>Option.bind ((cA n n) 60 r16.1 r16.2.1) fun xc=>
  some (xc.1,xc.2.1,(⟨6,(⟨#[]⟩:ByteArray),0,false,0,0,0,0,0,0,0,0,0,0,aK,xc.2.2,false⟩:az))) none) none)
  (cond (r3.2.2==15)
  (Option.bind ((cA n n) 3 r3.1 r3.2.1) fun pA=>
  cond (decide (0≤pA.2.2)) (cond (decide (pA.2.2<((([(⟨#[100,98]⟩:ByteArray),(⟨#[119,101,98]⟩:ByteArray),(⟨#[120,45,49]⟩:ByteArray)]:List (C .e9))).length:Int))) (Option.bind (([(⟨#[100,98]⟩:ByteArray),(⟨#[119,101,98]⟩:ByteArray),(⟨#[120,45,49]⟩:ByteArray)]:List (C .e9)))[pA.2.2.toNat]? fun Ju=>Option.bind ((cA n n) 60 pA.1 pA.2.1) fun jk=>
  some (jk.1,jk.2.1,(⟨6,(⟨#[]⟩:ByteArray),0,false,0,0,0,0,0,0,0,0,0,0,Ju,jk.2.2,false⟩:az))) none) none)
  (cond (decide ((a2.length:Int)>0))
  (Option.bind ((cA n n) 8 r3.1 r3.2.1) fun ck=>
  cond (decide (ck.2.2>0))
  (Option.bind ((cA n n) (a2.length:Int) ck.1 ck.2.1) fun ee=>
  cond (decide (0≤ee.2.2)) (Option.bind a2[ee.2.2.toNat]? fun WB=>some (ee.1,ee.2.1,(⟨3,(⟨#[]⟩:ByteArray),0,false,0,0,0,0,0,0,0,0,0,0,WB.ax,WB.Number,false⟩:az))) none)
  (Option.bind ((cA n n) 6 ck.1 ck.2.1) fun dP=>
  some (dP.1,dP.2.1,(⟨3,(⟨#[]⟩:ByteArray),0,false,0,0,0,0,0,0,0,0,0,0,(⟨#[119,101,98]⟩:ByteArray),IntKind.i64.wrap (1+dP.2.2),false⟩:az))))
  (Option.bind ((cA n n) 6 r3.1 r3.2.1) fun tJ=>
  some (tJ.1,tJ.2.1,(⟨3,(⟨#[]⟩:ByteArray),0,false,0,0,0,0,0,0,0,0,0,0,(⟨#[119,101,98]⟩:ByteArray),IntKind.i64.wrap (1+tJ.2.2),false⟩:az)))))))))))))))))))) none) none:=by kernel_rfl
 simp only [h,B22,abE]
noncomputable def I22 (n:Nat):mP C:=dH (Bp n n)
theorem i22d (n:Nat):∀ d:Nat,dx Try.prog KK 22 (dH (Bp n d))
 | 0=>iL (fn:=Try.f22) (by kernel_rfl) (by kernel_rfl) (iY (by kernel_rfl)) _ (fun vs O=>by simp only [Bp];split<;>rfl)
 | d+1=>by
  have ih:=i22d n d;have x:je Try.prog (Xf n d):=jG;have q:Cons Try.prog (Xf n d):=gO trivial trivial ⟨ih,i23 n,i51 n,trivial⟩;refine lP x q (by kernel_rfl) (f:=22) (fn:=Try.f22) (c:=ak Try.f22) (by kernel_rfl) (by kernel_rfl) (by kernel_rfl) (iY (by kernel_rfl)) (Bp n (d+1)) (Nat.le_of_ble_eq_true (by kernel_rfl)) C0 (fun os ls rs r0 h=>?_) (fun vs O r0 hk h=>?_)
  ·unfold C0 at h
   split at h
   ·cases h;exact ⟨rfl,rfl,rfl⟩
   ·cases h
  ·simp only [Bp] at h
   split at h
   ·rename_i y0 y1 y2 y3 y4 y5
    exact ⟨mf (by kernel_rfl) (by kernel_rfl) (by kernel_rfl) (by kernel_rfl) (by kernel_rfl) (by kernel_rfl) (by kernel_rfl) (by kernel_rfl) (by kernel_rfl),Nat.le_of_ble_eq_true (by kernel_rfl),F22 n,(t22 n d y0 y1 y2 y3 y4 y5).trans h⟩
   ·cases h
theorem i22 (n:Nat):dx Try.prog KK 22 (I22 n):=i22d n n
end Go.Proofs.Ytipemmgoipbojaa.Ab
set_option maxRecDepth 100000
namespace Go.Proofs.Ytipemmgoipbojaa.Ab
open Go Go.RowKit
noncomputable def F71 (n:Nat):Cf:={ N:=n,keep:=[0,1,3,4,7],live:=lk [] }
def MX (os:cW C) (ls:List (Lf C)) (rs:List (Bool×List (Lf C))):Option (List (C .e5)×Int×gm):=match os,ls,rs with
 | [(38654706975360,.box .mem [.row .e5 z0,.int .i64 z1]),(77777777,.ghost)],[.ptr 38654706975360 0],[(true,[.int .i64 zn,.int .i64 Ez,.int .i64 Ey,.str Ew,.int .i64 J1,.bool J0,.int .i64 JZ,.int .i64 JY,.int .i64 JX,.int .i64 JW,.int .i64 Bc,.int .i64 Bb,.int .i64 Ba,.int .i64 J5,.int .i64 J4,.int .i64 J3,.str J2,.int .i64 Yh,.bool Yg])]=>some (z0,z1,(⟨zn,Ez,Ey,Ew,J1,J0,JZ,JY,JX,JW,Bc,Bb,Ba,J5,J4,J3,J2,Yh,Yg⟩:gm))
 | _,_,_=>none
noncomputable def B71 (n:Nat) (rc:(Int)→(List (C .aA))→(List (C .aC))→(List (C .ay))→(List (C .e5))→(Int)→Option (List (C .e5)×Int×gm)) (a0:Int) (a1:List (C .aA)) (a2:List (C .aC)) (a3:List (C .ay)) (a4:List (C .e5)) (a5:Int):Option (List (C .e5)×Int×gm):=
 Option.bind ((cA n n) 5 a4 a5) fun r1=>
 cond (decide (r1.2.2<3))
 (Option.bind ((cA n n) 6 r1.1 r1.2.1) fun r2=>
 Option.bind ((cA n n) 6 r2.1 r2.2.1) fun r3=>
 cond (decide (0≤r3.2.2)) (cond (decide (r3.2.2<((([0,0,1,2,5,9]:List (C .e3))).length:Int))) (Option.bind (([0,0,1,2,5,9]:List (C .e3)))[r3.2.2.toNat]? fun e4=>some (r3.1,r3.2.1,(⟨IntKind.i64.wrap (1+r2.2.2),e4,0,(⟨#[]⟩:ByteArray),0,false,0,0,0,0,0,0,0,0,0,0,(⟨#[]⟩:ByteArray),0,false⟩:gm))) none) none)
 (Option.bind ((wH n n) a0 a1 a2 a3 r1.1 r1.2.1) fun r5=>
 some (r5.1,r5.2.1,(⟨0,0,r5.2.2.Kind,r5.2.2.bO,r5.2.2.bg,r5.2.2.bV,r5.2.2.bL,r5.2.2.cm,r5.2.2.bW,r5.2.2.bS,r5.2.2.cz,r5.2.2.cw,r5.2.2.bK,r5.2.2.bT,r5.2.2.bU,r5.2.2.bX,r5.2.2.Name,r5.2.2.Number,r5.2.2.jx⟩:gm)))
noncomputable def AU (n:Nat):Nat→(Int)→(List (C .aA))→(List (C .aC))→(List (C .ay))→(List (C .e5))→(Int)→Option (List (C .e5)×Int×gm)
 | 0=>fun _ _ _ _ _ _=>none
 | d+1=>B71 n (AU n d)
noncomputable def EI (n d:Nat):jw C:={ ids:=[38654706975360],roots:=[.ptr 38654706975360 0],fQ:=[],R0:=List (C .e5)×Int×gm,out:=fun r=>[(38654706975360,.box .mem [.row .e5 r.1,.int .i64 r.2.1])],ret:=fun r=>[(true,[.int .i64 r.2.2.uz,.int .i64 r.2.2.Age,.int .i64 r.2.2.nv,.str r.2.2.gE,.int .i64 r.2.2.fm,.bool r.2.2.gH,.int .i64 r.2.2.ga,.int .i64 r.2.2.gB,.int .i64 r.2.2.gI,.int .i64 r.2.2.gC,.int .i64 r.2.2.gD,.int .i64 r.2.2.gU,.int .i64 r.2.2.fZ,.int .i64 r.2.2.gF,.int .i64 r.2.2.gG,.int .i64 r.2.2.gJ,.str r.2.2.nu,.int .i64 r.2.2.kP,.bool r.2.2.ny])],g:=fun vs O=>match vs,O with
 | [.one (.ptr 38654706975360 0),.agg [.int .i64 y0,.row .aA y1,.row .aC y2,.row .ay y3]],[(38654706975360,.box .mem [.row .e5 y4,.int .i64 y5])]=>AU n d y0 y1 y2 y3 y4 y5
 | _,_=>none }
noncomputable def X71 (n d:Nat):Cx C:=fT [] [] [(71,dH (EI n d)),(22,I22 n),(23,Uo n)] [0,3,4,6,7,9,10,11,12,13,14,15,16,19,20] 4653056 []
theorem t71 (n d:Nat) (a0:Int) (a1:List (C .aA)) (a2:List (C .aC)) (a3:List (C .ay)) (a4:List (C .e5)) (a5:Int):iD (X71 n d) (F71 n) Try.f71 (EI n (d+1)) [.one (.ptr 38654706975360 0),.agg [.int .i64 a0,.row .aA a1,.row .aC a2,.row .ay a3]] [(38654706975360,.box .mem [.row .e5 a4,.int .i64 a5])] MX=B71 n (AU n d) a0 a1 a2 a3 a4 a5:=by
 kernel_rfl
noncomputable def I71 (n:Nat):mP C:=dH (EI n n)
theorem i71d (n:Nat):∀ d:Nat,dx Try.prog KK 71 (dH (EI n d))
 | 0=>iL (fn:=Try.f71) (by kernel_rfl) (by kernel_rfl) (iY (by kernel_rfl)) _ (fun vs O=>by simp only [EI];split<;>rfl)
 | d+1=>by
  have ih:=i71d n d;have x:je Try.prog (X71 n d):=jG;have q:Cons Try.prog (X71 n d):=gO trivial trivial ⟨ih,i22 n,i23 n,trivial⟩;refine lP x q (by kernel_rfl) (f:=71) (fn:=Try.f71) (c:=ak Try.f71) (by kernel_rfl) (by kernel_rfl) (by kernel_rfl) (iY (by kernel_rfl)) (EI n (d+1)) (Nat.le_of_ble_eq_true (by kernel_rfl)) MX (fun os ls rs r0 h=>?_) (fun vs O r0 hk h=>?_)
  ·unfold MX at h
   split at h
   ·cases h;exact ⟨rfl,rfl,rfl⟩
   ·cases h
  ·simp only [EI] at h
   split at h
   ·rename_i y0 y1 y2 y3 y4 y5
    exact ⟨mf (by kernel_rfl) (by kernel_rfl) (by kernel_rfl) (by kernel_rfl) (by kernel_rfl) (by kernel_rfl) (by kernel_rfl) (by kernel_rfl) (by kernel_rfl),Nat.le_of_ble_eq_true (by kernel_rfl),F71 n,(t71 n d y0 y1 y2 y3 y4 y5).trans h⟩
   ·cases h
theorem i71 (n:Nat):dx Try.prog KK 71 (I71 n):=i71d n n
noncomputable def T9 (n:Nat):Cx C:=fT [(72,(ML TC)),(73,M9)] [] [(23,Uo n),(51,I51 n),(70,I70 n),(71,I71 n)] [0,2,3,4,5,7,11,12,15,16,17,21,22,25,26,31,32,33,34,35,36,37,38,41,46,47,48,49,50,51,52,53,56,57,58,59,60,61,62,63,64,65,66,67,68] 2490368 []
def Yd (n:Nat):Cf:={ N:=n,keep:=[0,2,3,4,5,16,28,43,57],live:=lk [(0,[0,2,3,4]),(2,[0,2,3,5])] }
noncomputable def I38 (n:Nat):mP C:=iZ (T9 n) (Yd n) Try.f38
theorem i38 (n:Nat):dx Try.prog KK 38 (I38 n):=iO (gO ⟨c72,c73,trivial⟩ trivial ⟨i23 _,i51 _,i70 _,i71 _,trivial⟩:Cons Try.prog (T9 n)) (Yd n) (fn:=Try.f38) (by kernel_rfl) (by kernel_rfl) (by kernel_rfl) (by kernel_rfl)
noncomputable def T8 (n:Nat):Cx C:=fT [] [] [(38,I38 n)] [2,4,5] 3211264 []
def Yc (n:Nat):Cf:={ N:=n,keep:=[0,2],live:=lk [] }
noncomputable def I49 (n:Nat):mP C:=iZ (T8 n) (Yc n) Try.f49
theorem i49 (n:Nat):dx Try.prog KK 49 (I49 n):=iO (gO trivial trivial ⟨i38 _,trivial⟩:Cons Try.prog (T8 n)) (Yc n) (fn:=Try.f49) (by kernel_rfl) (by kernel_rfl) (by kernel_rfl) (by kernel_rfl)
noncomputable def X50 (n:Nat):Cx C:=fT [(27,yT)] [] [(23,Uo n)] [0,4,5,6,7,14,19,32,47,49,50,51,52,55,56,57,58,59,60,61,62,63,64,67,68,69,70,71,72,73,74,75,76,77,78,79,80,81,84,85,86,87,88,89,90,91,92,93,96,97,98,99,100,101,102,103,104,105,108,109,110,111,112,113,114,115,116,117,125,126,127,128,129,130,131,132,133,134,137,138,139,140,141,142,143,144,145,146,149,150,151,152,153,154,155,156,157,158,161,162,163,164,165,166,167,168,169,170,173,174,175,176,177,178,179,180,181,182,185,186,187,188,189,190,191,192,193,194,197,198,199,200,201,202,203,204,205,206,209,210,211,212,213,214,215,216,217,218,221,222,223,224,225,226,227,228,229,230,233,234,235,236,237,238,239,240,241,242,257,258,259,260,261,262,263,264,265,266,267,270,271,272,273,274,275,276,277,278,279,280,281,282] 3276800 []
def F50 (n:Nat):Cf:={ N:=n,keep:=[0,1,3,4,5,6,7,29,32,45,53,65,82,94,106,118,135,147,159,171,183,195,207,219,231,243,255,268],live:=lk [] }
noncomputable def I50 (n:Nat):mP C:=iZ (X50 n) (F50 n) Try.f50
theorem i50 (n:Nat):dx Try.prog KK 50 (I50 n):=iO (gO ⟨c27,trivial⟩ trivial ⟨i23 _,trivial⟩:Cons Try.prog (X50 n)) (F50 n) (fn:=Try.f50) (by kernel_rfl) (by kernel_rfl) (by kernel_rfl) (by kernel_rfl)
end Go.Proofs.Ytipemmgoipbojaa.Ab
set_option maxRecDepth 100000
namespace Go.Proofs.Ytipemmgoipbojaa.Ab
open Go Go.RowKit
noncomputable def RP (n:Nat):Cf:={ N:=n,keep:=[0,2,3,4,5,9,10,15,21,32,44,80,85],live:=lk [(1,[0,2,3,4,5])] }
def vX (os:cW C) (ls:List (Lf C)) (rs:List (Bool×List (Lf C))):Option (List (C .e5)×Int×aa):=match os,ls,rs with
 | [(38654706975360,.box .mem [.row .e5 z0,.int .i64 z1]),(77777777,.ghost)],[.ptr 38654706975360 0],[(true,[.int .i64 zn,.row .aA Ez,.row .aC Ey,.row .ay Ew])]=>some (z0,z1,(⟨zn,Ez,Ey,Ew⟩:aa))
 | _,_,_=>none
abbrev wO:Type:=List (C .e5)×Int×List (C .aA)×List (C .aC)
abbrev wP:Type:=Int×List (C .e5)×Int×List (C .dv)×Int×List (C .aA)×List (C .aC)×List (C .ay)
abbrev wQ:Type:=Int×List (C .e5)×Int×List (C .dv)×Int×List (C .aA)×List (C .aC)×List (C .ay)
section
variable (x0 x1 x4:Int) (x5:List (C .aA)) (x6:List (C .aC)) (x7:List (C .ay)) (x8:Int) (aS:List (C .ay))
def aau:wO→St C:=fun (x2,x3,x9,aM)=>{ env:=[(0,.one (.ptr 38654706975360 0)),(2,.one (.ptr 1376384 0)),(3,.one (.ptr 1376448 0)),(4,.one (.int .i64 x0)),(5,.one (.int .i64 x1)),(90000,.frame),(90001,.bQ (true,[.ptr 38654706975360 0]) 0)],ah:=[(38654706975360,.box .mem [.row .e5 x2,.int .i64 x3]),(1376384,.box .mem [.int .i64 x4,.ref 138638401 [],.ref 138638402 [],.ref 138638403 []]),(138638401,.row .aA x5 false),(138638402,.row .aC x6 false),(138638403,.row .ay x7 false),(1376448,.box .mem [.int .i64 x8,.ref 138644801 [],.ref 138644802 [],.ref 138644803 []]),(138644801,.row .aA x9 false),(138644802,.row .aC aM false),(138644803,.row .ay aS false),(77777777,.ghost)],base:=0 }
end
noncomputable def GU (x0 x1 x8:Int) (aS:List (C .ay)) (n:Nat) (rc:(List (C .e5))→(Int)→Option (List (C .e5)×Int×aa))  (de:wO→Option (List (C .e5)×Int×aa)):wO→Option (List (C .e5)×Int×aa):=fun (x2,x3,x9,aM)=>
 cond (decide ((aM.length:Int)<x1))
 (cond (decide (0≤x0)) (cond (decide (x0<(x9.length:Int))) (Option.bind x9[x0.toNat]? fun e84=>cond (decide (0≤x0)) (cond (decide (x0<(x9.length:Int))) (Option.bind x9[x0.toNat]? fun A8=>cond (decide (0≤0)) (cond (decide (0<(aS.length:Int))) (Option.bind aS[(0:Int).toNat]? fun XR=>Option.bind ((cA n n) 2 x2 x3) fun r87=>
 cond (decide ((aM.length+(([(⟨e84.Name,A8.Next,1,1,3,r87.2.2==0,XR.Name⟩:aq)]:List (C .aC))).length)*72≤140737488355328)) (cond (decide (0≤x0)) (cond (decide (x0<(x9.length:Int))) (Option.bind x9[x0.toNat]? fun e88=>cond (decide (0≤x0)) (cond (decide (x0<(x9.length:Int))) (Option.bind x9[x0.toNat]? fun JQ=>de ((r87.1,r87.2.1,x9.set x0.toNat ((⟨JQ.Name,JQ.Version,JQ.cC,JQ.aB,JQ.Want,JQ.Down,JQ.ct,IntKind.i64.wrap (e88.Next+1),JQ.dA,JQ.aP,JQ.bN,JQ.cK,JQ.cE⟩:af)),aM++(([(⟨e84.Name,A8.Next,1,1,3,r87.2.2==0,XR.Name⟩:aq)]:List (C .aC)))))) none) none) none) none) none) none) none) none) none) none) none)
 (some (x2,x3,(⟨x8,x9,aM,aS⟩:aa)))
section
variable (x3:List (C .dv)) (x4:Int) (x5:List (C .aA)) (x6:List (C .aC)) (x7:List (C .ay)) (aZ:Int) (aV:List (C .aA)) (aY:List (C .aC)) (aW:List (C .ay)) (bq:Int) (bC:List (C .aA)) (bz:List (C .aC)) (bD:List (C .ay))
def KG:wP→St C:=fun (x0,x1,x2,x8,x9,aM,aS,aQ)=>{ env:=[(0,.one (.ptr 38654706975360 0)),(2,.one (.ptr 34381213206970496 0)),(3,.one (.ptr 34381213206970560 0)),(5,.one (.int .i64 x0)),(1002,.bQ (false,[.ptr 34359741579392 0]) 8005002),(2000,.bQ (false,[.ptr 38654706975360 0]) 8000),(2002,.bQ (false,[.ptr 1376384 0]) 8002),(92000,.frame),(92001,.bQ (true,[.ptr 38654706975360 0]) 0)],ah:=[(38654706975360,.box .mem [.row .e5 x1,.int .i64 x2]),(34381213206970496,.box .mem [.ref 3438121320698049600 [],.int .i64 x4,.ref 3438121320698049602 [],.ref 3438121320698049603 [],.ref 3438121320698049604 []]),(3438121320698049600,.row .dv x3 false),(3438121320698049602,.row .aA x5 false),(3438121320698049603,.row .aC x6 false),(3438121320698049604,.row .ay x7 false),(34381213206970560,.box .mem [.row .dv x8,.int .i64 x9,.row .aA aM,.row .aC aS,.row .ay aQ]),(34359741579392,.box .mem [.int .i64 aZ,.ref 3435974158939201 [],.ref 3435974158939202 [],.ref 3435974158939203 []]),(3435974158939201,.row .aA aV false),(3435974158939202,.row .aC aY false),(3435974158939203,.row .ay aW false),(1376384,.box .mem [.int .i64 bq,.ref 138638401 [],.ref 138638402 [],.ref 138638403 []]),(138638401,.row .aA bC false),(138638402,.row .aC bz false),(138638403,.row .ay bD false),(77777777,.ghost)],base:=8005000 }
end
noncomputable def GV  (n:Nat) (rc:(List (C .e5))→(Int)→Option (List (C .e5)×Int×aa))  (eW:wP→Option (List (C .e5)×Int×aa)):wP→Option (List (C .e5)×Int×aa):=fun (x0,x1,x2,x8,x9,aM,aS,aQ)=>
 cond (decide (x0>0))
 (Option.bind ((AU n n) x9 aM aS aQ x1 x2) fun r8=>
 Option.bind ((nN n n) x8 x9 aM aS aQ r8.2.2.uz r8.2.2.Age r8.2.2.nv r8.2.2.gE r8.2.2.fm r8.2.2.gH r8.2.2.ga r8.2.2.gB r8.2.2.gI r8.2.2.gC r8.2.2.gD r8.2.2.gU r8.2.2.fZ r8.2.2.gF r8.2.2.gG r8.2.2.gJ r8.2.2.nu r8.2.2.kP r8.2.2.ny) fun r9=>
 (fun y=>alt y (y))
 (Option.bind ((cA n n) 8 r8.1 r8.2.1) fun iJ=>
 cond (iJ.2.2==0)
 (Option.bind ((cA n n) 7 iJ.1 iJ.2.1) fun s7=>
 Option.bind ((cA n n) 6 s7.1 s7.2.1) fun lC=>
 Option.bind ((cA n n) 6 lC.1 lC.2.1) fun eX=>
 Option.bind (G72 r9.1 s7.2.2 (([IntKind.i64.wrap (1+lC.2.2),IntKind.i64.wrap (1+eX.2.2)]:List (C .e3)))) fun eU=>
 eW ((IntKind.i64.wrap (x0-1),eX.1,eX.2.1,eU.gZ,eU.cr,eU.aG,eU.aU,eU.aT)))
 (eW ((IntKind.i64.wrap (x0-1),iJ.1,iJ.2.1,r9.1.gZ,r9.1.cr,r9.1.aG,r9.1.aU,r9.1.aT)))))
 (Option.bind (Rx (⟨x8,x9,aM,aS,aQ⟩:aO)) fun fU=>
 Option.bind ((cA n n) 24 x1 x2) fun jk=>
 cond (jk.2.2==0)
 (Option.bind (zi (⟨fU.cr,fU.aG,fU.aU,fU.aT⟩:aa)) fun ck=>
 Option.bind ((cA n n) (ck.ae.length:Int) jk.1 jk.2.1) fun ee=>
 Option.bind ((cA n n) (ck.ai.length:Int) ee.1 ee.2.1) fun gv=>
 cond ((ck.ae.length:Int)==0)
 (some (gv.1,gv.2.1,(⟨(-1),([]:List (C .aA)),([]:List (C .aC)),([]:List (C .ay))⟩:aa)))
 (cond ((ck.ai.length:Int)==0)
 (some (gv.1,gv.2.1,(⟨(-1),([]:List (C .aA)),([]:List (C .aC)),([]:List (C .ay))⟩:aa)))
 (Option.bind ((cA n n) 20 gv.1 gv.2.1) fun dP=>
 cond (dP.2.2==0)
 (Option.bind ((cA n n) 5 dP.1 dP.2.1) fun tJ=>
 cond (decide (0≤tJ.2.2)) (cond (decide (tJ.2.2<((([(-1),0,1,1000000,1000001]:List (C .e3))).length:Int))) (Option.bind (([(-1),0,1,1000000,1000001]:List (C .e3)))[tJ.2.2.toNat]? fun dv=>some (tJ.1,tJ.2.1,(⟨dv,ck.ae,ck.ai,ck.aj⟩:aa))) none) none)
 (cond (dP.2.2==1)
 (Option.bind ((cA n n) 3 dP.1 dP.2.1) fun E0=>
 cond (decide (0≤E0.2.2)) (cond (decide (E0.2.2<((([(⟨#[]⟩:ByteArray),(⟨#[88]⟩:ByteArray),(⟨#[122,122]⟩:ByteArray)]:List (C .e9))).length:Int))) (Option.bind (([(⟨#[]⟩:ByteArray),(⟨#[88]⟩:ByteArray),(⟨#[122,122]⟩:ByteArray)]:List (C .e9)))[E0.2.2.toNat]? fun aA=>cond (decide (0≤ee.2.2)) (cond (decide (ee.2.2<(ck.ae.length:Int))) (Option.bind ck.ae[ee.2.2.toNat]? fun ua=>some (E0.1,E0.2.1,(⟨ck.b8,ck.ae.set ee.2.2.toNat (⟨aA,ua.Version,ua.cC,ua.aB,ua.Want,ua.Down,ua.ct,ua.Next,ua.dA,ua.aP,ua.bN,ua.cK,ua.cE⟩:af),ck.ai,ck.aj⟩:aa))) none) none) none) none)
 (cond (dP.2.2==2)
 (Option.bind ((cA n n) 3 dP.1 dP.2.1) fun xb=>
 cond (decide (0≤xb.2.2)) (cond (decide (xb.2.2<((([0,ck.b8,IntKind.i64.wrap (ck.b8+1)]:List (C .e3))).length:Int))) (Option.bind (([0,ck.b8,IntKind.i64.wrap (ck.b8+1)]:List (C .e3)))[xb.2.2.toNat]? fun e32=>cond (decide (0≤ee.2.2)) (cond (decide (ee.2.2<(ck.ae.length:Int))) (Option.bind ck.ae[ee.2.2.toNat]? fun tE=>some (xb.1,xb.2.1,(⟨ck.b8,ck.ae.set ee.2.2.toNat (⟨tE.Name,e32,tE.cC,tE.aB,tE.Want,tE.Down,tE.ct,tE.Next,tE.dA,tE.aP,tE.bN,tE.cK,tE.cE⟩:af),ck.ai,ck.aj⟩:aa))) none) none) none) none)
 (cond (dP.2.2==3)
 (Option.bind ((cA n n) 3 dP.1 dP.2.1) fun IQ=>
 cond (decide (0≤IQ.2.2)) (cond (decide (IQ.2.2<((([0,1000000,1000001]:List (C .e3))).length:Int))) (Option.bind (([0,1000000,1000001]:List (C .e3)))[IQ.2.2.toNat]? fun e35=>cond (decide (0≤ee.2.2)) (cond (decide (ee.2.2<(ck.ae.length:Int))) (Option.bind ck.ae[ee.2.2.toNat]? fun tZ=>some (IQ.1,IQ.2.1,(⟨ck.b8,ck.ae.set ee.2.2.toNat (⟨tZ.Name,tZ.Version,tZ.cC,e35,tZ.Want,tZ.Down,tZ.ct,tZ.Next,tZ.dA,tZ.aP,tZ.bN,tZ.cK,tZ.cE⟩:af),ck.ai,ck.aj⟩:aa))) none) none) none) none)
 (cond (dP.2.2==4)
 (Option.bind ((cA n n) 3 dP.1 dP.2.1) fun Lr=>
 cond (decide (0≤Lr.2.2)) (cond (decide (Lr.2.2<((([(-1),10,11]:List (C .e3))).length:Int))) (Option.bind (([(-1),10,11]:List (C .e3)))[Lr.2.2.toNat]? fun e38=>cond (decide (0≤ee.2.2)) (cond (decide (ee.2.2<(ck.ae.length:Int))) (Option.bind ck.ae[ee.2.2.toNat]? fun sJ=>some (Lr.1,Lr.2.1,(⟨ck.b8,ck.ae.set ee.2.2.toNat (⟨sJ.Name,sJ.Version,sJ.cC,sJ.aB,e38,sJ.Down,sJ.ct,sJ.Next,sJ.dA,sJ.aP,sJ.bN,sJ.cK,sJ.cE⟩:af),ck.ai,ck.aj⟩:aa))) none) none) none) none)
 (cond (dP.2.2==5)
 (Option.bind ((cA n n) 3 dP.1 dP.2.1) fun Lp=>
 cond (decide (0≤Lp.2.2)) (cond (decide (Lp.2.2<((([(-1),10,11]:List (C .e3))).length:Int))) (Option.bind (([(-1),10,11]:List (C .e3)))[Lp.2.2.toNat]? fun kF=>cond (decide (0≤ee.2.2)) (cond (decide (ee.2.2<(ck.ae.length:Int))) (Option.bind ck.ae[ee.2.2.toNat]? fun tY=>some (Lp.1,Lp.2.1,(⟨ck.b8,ck.ae.set ee.2.2.toNat (⟨tY.Name,tY.Version,tY.cC,tY.aB,tY.Want,kF,tY.ct,tY.Next,tY.dA,tY.aP,tY.bN,tY.cK,tY.cE⟩:af),ck.ai,ck.aj⟩:aa))) none) none) none) none)
 (cond (dP.2.2==6)
 (cond (decide (0≤ee.2.2)) (cond (decide (ee.2.2<(ck.ae.length:Int))) (Option.bind ck.ae[ee.2.2.toNat]? fun gX=>Option.bind ((cA n n) 3 dP.1 dP.2.1) fun Ll=>
 cond (decide (0≤Ll.2.2)) (cond (decide (Ll.2.2<((([0,1,11]:List (C .e3))).length:Int))) (Option.bind (([0,1,11]:List (C .e3)))[Ll.2.2.toNat]? fun e45=>cond (decide (0≤ee.2.2)) (cond (decide (ee.2.2<((ck.ae.set ee.2.2.toNat (⟨gX.Name,gX.Version,gX.cC,gX.aB,gX.Want,0,gX.ct,gX.Next,gX.dA,gX.aP,gX.bN,gX.cK,gX.cE⟩:af)).length:Int))) (Option.bind (ck.ae.set ee.2.2.toNat (⟨gX.Name,gX.Version,gX.cC,gX.aB,gX.Want,0,gX.ct,gX.Next,gX.dA,gX.aP,gX.bN,gX.cK,gX.cE⟩:af))[ee.2.2.toNat]? fun tX=>some (Ll.1,Ll.2.1,(⟨ck.b8,(ck.ae.set ee.2.2.toNat (⟨gX.Name,gX.Version,gX.cC,gX.aB,gX.Want,0,gX.ct,gX.Next,gX.dA,gX.aP,gX.bN,gX.cK,gX.cE⟩:af)).set ee.2.2.toNat (⟨tX.Name,tX.Version,tX.cC,tX.aB,tX.Want,tX.Down,e45,tX.Next,tX.dA,tX.aP,tX.bN,tX.cK,tX.cE⟩:af),ck.ai,ck.aj⟩:aa))) none) none) none) none) none) none)
 (cond (dP.2.2==7)
 (Option.bind ((cA n n) 4 dP.1 dP.2.1) fun IP=>
 cond (decide (0≤IP.2.2)) (cond (decide (IP.2.2<((([0,1,1000000,1000001]:List (C .e3))).length:Int))) (Option.bind (([0,1,1000000,1000001]:List (C .e3)))[IP.2.2.toNat]? fun e48=>cond (decide (0≤ee.2.2)) (cond (decide (ee.2.2<(ck.ae.length:Int))) (Option.bind ck.ae[ee.2.2.toNat]? fun sI=>some (IP.1,IP.2.1,(⟨ck.b8,ck.ae.set ee.2.2.toNat (⟨sI.Name,sI.Version,sI.cC,sI.aB,sI.Want,sI.Down,sI.ct,e48,sI.dA,sI.aP,sI.bN,sI.cK,sI.cE⟩:af),ck.ai,ck.aj⟩:aa))) none) none) none) none)
 (cond (dP.2.2==8)
 (Option.bind ((cA n n) 4 dP.1 dP.2.1) fun Lj=>
 cond (decide (0≤Lj.2.2)) (cond (decide (Lj.2.2<((([(-1),0,5,1000001]:List (C .e3))).length:Int))) (Option.bind (([(-1),0,5,1000001]:List (C .e3)))[Lj.2.2.toNat]? fun e51=>cond (decide (0≤ee.2.2)) (cond (decide (ee.2.2<(ck.ae.length:Int))) (Option.bind ck.ae[ee.2.2.toNat]? fun sH=>some (Lj.1,Lj.2.1,(⟨ck.b8,ck.ae.set ee.2.2.toNat (⟨sH.Name,sH.Version,sH.cC,sH.aB,sH.Want,sH.Down,sH.ct,sH.Next,e51,sH.aP,sH.bN,sH.cK,sH.cE⟩:af),ck.ai,ck.aj⟩:aa))) none) none) none) none)
 (cond (dP.2.2==9)
 (Option.bind ((cA n n) 3 dP.1 dP.2.1) fun IM=>
 cond (decide (0≤IM.2.2)) (cond (decide (IM.2.2<((([(-1),1,11]:List (C .e3))).length:Int))) (Option.bind (([(-1),1,11]:List (C .e3)))[IM.2.2.toNat]? fun rF=>cond (decide (0≤ee.2.2)) (cond (decide (ee.2.2<(ck.ae.length:Int))) (Option.bind ck.ae[ee.2.2.toNat]? fun lM=>some (IM.1,IM.2.1,(⟨ck.b8,ck.ae.set ee.2.2.toNat (⟨lM.Name,lM.Version,lM.cC,lM.aB,lM.Want,lM.Down,lM.ct,lM.Next,lM.dA,rF,lM.bN,lM.cK,lM.cE⟩:af),ck.ai,ck.aj⟩:aa))) none) none) none) none)
 (cond (dP.2.2==10)
 (Option.bind ((cA n n) 4 dP.1 dP.2.1) fun IL=>
 cond (decide (0≤IL.2.2)) (cond (decide (IL.2.2<((([(-1),1,3,4]:List (C .e3))).length:Int))) (Option.bind (([(-1),1,3,4]:List (C .e3)))[IL.2.2.toNat]? fun e57=>cond (decide (0≤ee.2.2)) (cond (decide (ee.2.2<(ck.ae.length:Int))) (Option.bind ck.ae[ee.2.2.toNat]? fun tV=>some (IL.1,IL.2.1,(⟨ck.b8,ck.ae.set ee.2.2.toNat (⟨tV.Name,tV.Version,tV.cC,tV.aB,tV.Want,tV.Down,tV.ct,tV.Next,tV.dA,tV.aP,tV.bN,tV.cK,e57⟩:af),ck.ai,ck.aj⟩:aa))) none) none) none) none)
 (cond (dP.2.2==11)
 (Option.bind ((cA n n) 3 dP.1 dP.2.1) fun Li=>
 cond (decide (0≤Li.2.2)) (cond (decide (Li.2.2<((([(-1),1,1000001]:List (C .e3))).length:Int))) (Option.bind (([(-1),1,1000001]:List (C .e3)))[Li.2.2.toNat]? fun w6=>cond (decide (0≤ee.2.2)) (cond (decide (ee.2.2<(ck.ae.length:Int))) (Option.bind ck.ae[ee.2.2.toNat]? fun tU=>some (Li.1,Li.2.1,(⟨ck.b8,ck.ae.set ee.2.2.toNat (⟨tU.Name,tU.Version,tU.cC,tU.aB,tU.Want,tU.Down,tU.ct,tU.Next,tU.dA,tU.aP,tU.bN,w6,tU.cE⟩:af),ck.ai,ck.aj⟩:aa))) none) none) none) none)
 (cond (dP.2.2==12)
 (Option.bind ((cA n n) 2 dP.1 dP.2.1) fun IK=>
 cond (decide (0≤IK.2.2)) (cond (decide (IK.2.2<((([(⟨#[110,111,110,101]⟩:ByteArray),(⟨#[]⟩:ByteArray)]:List (C .e9))).length:Int))) (Option.bind (([(⟨#[110,111,110,101]⟩:ByteArray),(⟨#[]⟩:ByteArray)]:List (C .e9)))[IK.2.2.toNat]? fun e63=>cond (decide (0≤gv.2.2)) (cond (decide (gv.2.2<(ck.ai.length:Int))) (Option.bind ck.ai[gv.2.2.toNat]? fun ay=>some (IK.1,IK.2.1,(⟨ck.b8,ck.ae,ck.ai.set gv.2.2.toNat (⟨e63,ay.Number,ay.Version,ay.aB,ay.State,ay.Ending,ay.bw⟩:aq),ck.aj⟩:aa))) none) none) none) none)
 (cond (dP.2.2==13)
 (Option.bind ((cA n n) 2 dP.1 dP.2.1) fun Lh=>
 cond (decide (0≤Lh.2.2)) (cond (decide (Lh.2.2<((([0,999]:List (C .e3))).length:Int))) (Option.bind (([0,999]:List (C .e3)))[Lh.2.2.toNat]? fun WA=>cond (decide (0≤gv.2.2)) (cond (decide (gv.2.2<(ck.ai.length:Int))) (Option.bind ck.ai[gv.2.2.toNat]? fun Jt=>some (Lh.1,Lh.2.1,(⟨ck.b8,ck.ae,ck.ai.set gv.2.2.toNat (⟨Jt.ax,WA,Jt.Version,Jt.aB,Jt.State,Jt.Ending,Jt.bw⟩:aq),ck.aj⟩:aa))) none) none) none) none)
 (cond (dP.2.2==14)
 (Option.bind ((cA n n) 4 dP.1 dP.2.1) fun Lg=>
 cond (decide (0≤Lg.2.2)) (cond (decide (Lg.2.2<((([0,1,3,5]:List (C .e3))).length:Int))) (Option.bind (([0,1,3,5]:List (C .e3)))[Lg.2.2.toNat]? fun e69=>cond (decide (0≤gv.2.2)) (cond (decide (gv.2.2<(ck.ai.length:Int))) (Option.bind ck.ai[gv.2.2.toNat]? fun Js=>some (Lg.1,Lg.2.1,(⟨ck.b8,ck.ae,ck.ai.set gv.2.2.toNat (⟨Js.ax,Js.Number,Js.Version,Js.aB,e69,Js.Ending,Js.bw⟩:aq),ck.aj⟩:aa))) none) none) none) none)
 (cond (dP.2.2==15)
 (Option.bind ((cA n n) 3 dP.1 dP.2.1) fun EZ=>
 cond (decide (0≤EZ.2.2)) (cond (decide (EZ.2.2<((([(⟨#[]⟩:ByteArray),(⟨#[97]⟩:ByteArray),(⟨#[110,111,110,101]⟩:ByteArray)]:List (C .e9))).length:Int))) (Option.bind (([(⟨#[]⟩:ByteArray),(⟨#[97]⟩:ByteArray),(⟨#[110,111,110,101]⟩:ByteArray)]:List (C .e9)))[EZ.2.2.toNat]? fun e72=>cond (decide (0≤gv.2.2)) (cond (decide (gv.2.2<(ck.ai.length:Int))) (Option.bind ck.ai[gv.2.2.toNat]? fun Es=>some (EZ.1,EZ.2.1,(⟨ck.b8,ck.ae,ck.ai.set gv.2.2.toNat (⟨Es.ax,Es.Number,Es.Version,Es.aB,Es.State,Es.Ending,e72⟩:aq),ck.aj⟩:aa))) none) none) none) none)
 (cond (dP.2.2==16)
 (cond (decide (0≤gv.2.2)) (cond (decide (gv.2.2<(ck.ai.length:Int))) (Option.bind ck.ai[gv.2.2.toNat]? fun e74=>cond (decide ((ck.ai.length+(([e74]:List (C .aC))).length)*72≤140737488355328)) (some (dP.1,dP.2.1,(⟨ck.b8,ck.ae,ck.ai++(([e74]:List (C .aC))),ck.aj⟩:aa))) none) none) none)
 (cond (dP.2.2==17)
 (Option.bind ((cA n n) 3 dP.1 dP.2.1) fun K9=>
 cond (decide (0≤K9.2.2)) (cond (decide (K9.2.2<((([(⟨#[]⟩:ByteArray),(⟨#[122]⟩:ByteArray),(⟨#[97]⟩:ByteArray)]:List (C .e9))).length:Int))) (Option.bind (([(⟨#[]⟩:ByteArray),(⟨#[122]⟩:ByteArray),(⟨#[97]⟩:ByteArray)]:List (C .e9)))[K9.2.2.toNat]? fun e76=>cond (decide ((ck.aj.length+(([(⟨e76,false⟩:av)]:List (C .ay))).length)*24≤140737488355328)) (some (K9.1,K9.2.1,(⟨ck.b8,ck.ae,ck.ai,ck.aj++(([(⟨e76,false⟩:av)]:List (C .ay)))⟩:aa))) none) none) none)
 (cond (dP.2.2==18)
 (Option.bind ((cA n n) 2 dP.1 dP.2.1) fun IJ=>
 cond (decide (0≤IJ.2.2)) (cond (decide (IJ.2.2<((([0,IntKind.i64.wrap (ck.b8+1)]:List (C .e3))).length:Int))) (Option.bind (([0,IntKind.i64.wrap (ck.b8+1)]:List (C .e3)))[IJ.2.2.toNat]? fun e78=>cond (decide (0≤gv.2.2)) (cond (decide (gv.2.2<(ck.ai.length:Int))) (Option.bind ck.ai[gv.2.2.toNat]? fun Jr=>some (IJ.1,IJ.2.1,(⟨ck.b8,ck.ae,ck.ai.set gv.2.2.toNat (⟨Jr.ax,Jr.Number,e78,Jr.aB,Jr.State,Jr.Ending,Jr.bw⟩:aq),ck.aj⟩:aa))) none) none) none) none)
 (cond (decide (0≤gv.2.2)) (cond (decide (gv.2.2<(ck.ai.length:Int))) (Option.bind ck.ai[gv.2.2.toNat]? fun eC=>cond (decide (0≤gv.2.2)) (cond (decide (gv.2.2<(ck.ai.length:Int))) (Option.bind ck.ai[gv.2.2.toNat]? fun Jq=>some (dP.1,dP.2.1,(⟨ck.b8,ck.ae,ck.ai.set gv.2.2.toNat (⟨Jq.ax,Jq.Number,Jq.Version,Jq.aB,Jq.State,!eC.Ending,Jq.bw⟩:aq),ck.aj⟩:aa))) none) none) none) none))))))))))))))))))))))
 (cond (jk.2.2==1)
 (Option.bind ((cA n n) 2 jk.1 jk.2.1) fun U4=>
 some (U4.1,U4.2.1,(⟨IntKind.i64.wrap (1000000-U4.2.2),fU.aG,fU.aU,fU.aT⟩:aa)))
 (cond (jk.2.2==2)
 (cond (decide ((fU.aG.length:Int)>0))
 (cond (decide ((fU.aT.length:Int)>0))
 (Option.bind ((cA n n) 4 jk.1 jk.2.1) fun K4=>
 cu (GU (IntKind.i64.wrap ((fU.aG.length:Int)-1)) (IntKind.i64.wrap (200-K4.2.2)) fU.cr fU.aT n rc ) n (K4.1,K4.2.1,fU.aG,fU.aU))
 (some (jk.1,jk.2.1,(⟨fU.cr,fU.aG,fU.aU,fU.aT⟩:aa))))
 (some (jk.1,jk.2.1,(⟨fU.cr,fU.aG,fU.aU,fU.aT⟩:aa))))
 (cond (jk.2.2==3)
 (cond (decide ((fU.aG.length:Int)>0))
 (Option.bind ((cA n n) 2 jk.1 jk.2.1) fun P6=>
 cond (decide (0≤0)) (cond (decide (0<(fU.aG.length:Int))) (Option.bind fU.aG[(0:Int).toNat]? fun tT=>some (P6.1,P6.2.1,(⟨fU.cr,fU.aG.set ((0:Int).toNat) ((⟨tT.Name,tT.Version,tT.cC,tT.aB,tT.Want,tT.Down,tT.ct,IntKind.i64.wrap (1000000-P6.2.2),tT.dA,tT.aP,tT.bN,tT.cK,tT.cE⟩:af)),fU.aU,fU.aT⟩:aa))) none) none)
 (some (jk.1,jk.2.1,(⟨fU.cr,fU.aG,fU.aU,fU.aT⟩:aa))))
 (some (jk.1,jk.2.1,(⟨fU.cr,fU.aG,fU.aU,fU.aT⟩:aa)))))))
section
variable (x3:List (C .dv)) (x4:Int) (x5:List (C .aA)) (x6:List (C .aC)) (x7:List (C .ay)) (aZ:Int) (aV:List (C .aA)) (aY:List (C .aC)) (aW:List (C .ay)) (bq:Int) (bC:List (C .aA)) (bz:List (C .aC)) (bD:List (C .ay))
def Si:wQ→St C:=fun (x0,x1,x2,x8,x9,aM,aS,aQ)=>{ env:=[(0,.one (.ptr 38654706975360 0)),(2,.one (.ptr 34381213206970496 0)),(3,.one (.ptr 34381213206970560 0)),(4,.one (.int .i64 x0)),(1002,.bQ (false,[.ptr 34359741579392 0]) 8005002),(2000,.bQ (false,[.ptr 38654706975360 0]) 8000),(2002,.bQ (false,[.ptr 1376384 0]) 8002),(92000,.frame),(92001,.bQ (true,[.ptr 38654706975360 0]) 0)],ah:=[(38654706975360,.box .mem [.row .e5 x1,.int .i64 x2]),(34381213206970496,.box .mem [.ref 3438121320698049600 [],.int .i64 x4,.ref 3438121320698049602 [],.ref 3438121320698049603 [],.ref 3438121320698049604 []]),(3438121320698049600,.row .dv x3 false),(3438121320698049602,.row .aA x5 false),(3438121320698049603,.row .aC x6 false),(3438121320698049604,.row .ay x7 false),(34381213206970560,.box .mem [.row .dv x8,.int .i64 x9,.row .aA aM,.row .aC aS,.row .ay aQ]),(34359741579392,.box .mem [.int .i64 aZ,.ref 3435974158939201 [],.ref 3435974158939202 [],.ref 3435974158939203 []]),(3435974158939201,.row .aA aV false),(3435974158939202,.row .aC aY false),(3435974158939203,.row .ay aW false),(1376384,.box .mem [.int .i64 bq,.ref 138638401 [],.ref 138638402 [],.ref 138638403 []]),(138638401,.row .aA bC false),(138638402,.row .aC bz false),(138638403,.row .ay bD false),(77777777,.ghost)],base:=8005000 }
end
noncomputable def BP  (n:Nat) (rc:(List (C .e5))→(Int)→Option (List (C .e5)×Int×aa))  (bu:wQ→Option (List (C .e5)×Int×aa)):wQ→Option (List (C .e5)×Int×aa):=fun (x0,x1,x2,x8,x9,aM,aS,aQ)=>
 cond (decide (x0>0))
 (Option.bind ((qc n n) x1 x2) fun r5=>
 Option.bind ((nN n n) x8 x9 aM aS aQ 0 0 2 r5.2.2.Name r5.2.2.Version r5.2.2.cC r5.2.2.aB r5.2.2.Want r5.2.2.Down r5.2.2.ct r5.2.2.Next r5.2.2.dA r5.2.2.aP r5.2.2.bN r5.2.2.cK r5.2.2.cE (⟨#[]⟩:ByteArray) 0 false) fun r6=>
 (fun y=>alt y (y))
 (bu ((IntKind.i64.wrap (x0-1),r5.1,r5.2.1,r6.1.gZ,r6.1.cr,r6.1.aG,r6.1.aU,r6.1.aT))))
 (Option.bind ((cA n n) 50 x1 x2) fun r7=>
 cu (GV  n rc ) n (r7.2.2,r7.1,r7.2.1,x8,x9,aM,aS,aQ))
noncomputable def B21 (n:Nat) (rc:(List (C .e5))→(Int)→Option (List (C .e5)×Int×aa)) (a0:List (C .e5)) (a1:Int):Option (List (C .e5)×Int×aa):=
 Option.bind ((nN n n) (([]:List (C .dv))) 0 (([]:List (C .aA))) (([]:List (C .aC))) (([]:List (C .ay))) 0 0 5 (⟨#[]⟩:ByteArray) 0 false 0 0 0 0 0 0 0 0 0 0 (⟨#[97]⟩:ByteArray) 0 false) fun r1=>
 Option.bind ((cA n n) 3 a0 a1) fun r2=>
 cond (decide (r2.2.2>0))
 (Option.bind ((nN n n) r1.1.gZ r1.1.cr r1.1.aG r1.1.aU r1.1.aT 0 0 5 (⟨#[]⟩:ByteArray) 0 false 0 0 0 0 0 0 0 0 0 0 (⟨#[98]⟩:ByteArray) 0 false) fun r3=>
 Option.bind ((cA n n) 2 r2.1 r2.2.1) fun r4=>
 cu (BP  n rc ) n ((IntKind.i64.wrap (1+r4.2.2),r4.1,r4.2.1,r3.1.gZ,r3.1.cr,r3.1.aG,r3.1.aU,r3.1.aT)))
 (Option.bind ((cA n n) 2 r2.1 r2.2.1) fun U3=>
 cu (BP  n rc ) n ((IntKind.i64.wrap (1+U3.2.2),U3.1,U3.2.1,r1.1.gZ,r1.1.cr,r1.1.aG,r1.1.aU,r1.1.aT)))
noncomputable def sV (n:Nat):Nat→(List (C .e5))→(Int)→Option (List (C .e5)×Int×aa)
 | 0=>fun _ _=>none
 | d+1=>B21 n (sV n d)
noncomputable def Bq (n d:Nat):jw C:={ ids:=[38654706975360],roots:=[.ptr 38654706975360 0],fQ:=[],R0:=List (C .e5)×Int×aa,out:=fun r=>[(38654706975360,.box .mem [.row .e5 r.1,.int .i64 r.2.1])],ret:=fun r=>[(true,[.int .i64 r.2.2.b8,.row .aA r.2.2.ae,.row .aC r.2.2.ai,.row .ay r.2.2.aj])],g:=fun vs O=>match vs,O with
 | [.one (.ptr 38654706975360 0)],[(38654706975360,.box .mem [.row .e5 y0,.int .i64 y1])]=>sV n d y0 y1
 | _,_=>none }
noncomputable def JE (n d:Nat):Cx C:=fT [] [] [(21,dH (Bq n d)),(23,Uo n),(49,I49 n),(50,I50 n)] [0,2,3,4,5,7,9,14,18,19,20,38,39,45,46,47,48,49,50,51,52,53,54,55,56,57,58,59,60,61,62,63,64,65,66,67,68,69,70,86,87,88,89,90,91,92] 1376256 []
section
variable (x0 x1 x4:Int) (x5:List (C .aA)) (x6:List (C .aC)) (x7:List (C .ay)) (x8:Int) (aS:List (C .ay))
noncomputable def OA (n d:Nat)  (x:wO):Option (List (C .e5)×Int×aa):=iter (fun rec S=>run (JE n d) (RP n) (au (ak Try.f21) [1,1,0,1,0,1,1,1,1,1,0,1,0,1,1,0,0]) 1 S (dq rec (cJ 1 (cJ 0 (bf (run (JE n d) (RP n) (au (ak Try.f21) [1,1,1]) 0) (nG (JE n d) Try.f21 vX)))))) [0,2,3,4,5] n (aau x0 x1 x4 x5 x6 x7 x8 aS x)
theorem abF (n d:Nat)  (x:wO):OA x0 x1 x4 x5 x6 x7 x8 aS n d  x=cu (GU x0 x1 x8 aS n (sV n d) ) n x:=by
 refine iter_eq _ _ (fun de x=>?_) n x;obtain ⟨x2,x3,x9,aM⟩:=x
 kernel_rfl
end
section
variable (x3:List (C .dv)) (x4:Int) (x5:List (C .aA)) (x6:List (C .aC)) (x7:List (C .ay)) (aZ:Int) (aV:List (C .aA)) (aY:List (C .aC)) (aW:List (C .ay)) (bq:Int) (bC:List (C .aA)) (bz:List (C .aC)) (bD:List (C .ay))
noncomputable def OB (n d:Nat)  (x:wP):Option (List (C .e5)×Int×aa):=iter (fun rec S=>run (T9 n) (Yd n) (au (ak Try.f38) [1,1,1,1,1,0,1,0,0]) 2 S (dq rec (cJ 2 (bf (run (T9 n) (Yd n) (au (ak Try.f38) [1,1,1,1,1,1]) 0) (dU (T9 n) Try.f38 (da 8004000 8000 (some 4) (dz (T8 n) (au (ak Try.f49) [1,0]) 2 (dS (Yc n) (bf (run (T8 n) (Yc n) (au (ak Try.f49) [1,1]) 0) (dU (T8 n) Try.f49 (da 7000 0 (some 7) (dz (JE n d) (au (ak Try.f21) [1,0]) 2 (dS (RP n) (bf (run (JE n d) (RP n) (au (ak Try.f21) [1,1]) 0) (nG (JE n d) Try.f21 vX))))))))))))))) [0,2,3,5] n (KG x3 x4 x5 x6 x7 aZ aV aY aW bq bC bz bD x)
theorem abG (n d:Nat)  (x:wP):OB x3 x4 x5 x6 x7 aZ aV aY aW bq bC bz bD n d  x=cu (GV  n (sV n d) ) n x:=by
 refine iter_eq _ _ (fun eW x=>?_) n x;obtain ⟨x0,x1,x2,x8,x9,aM,aS,aQ⟩:=x
 refine Eq.trans (b:=
  cond (decide (x0>0))
  (Option.bind ((AU n n) x9 aM aS aQ x1 x2) fun r8=>
  Option.bind ((nN n n) x8 x9 aM aS aQ r8.2.2.uz r8.2.2.Age r8.2.2.nv r8.2.2.gE r8.2.2.fm r8.2.2.gH r8.2.2.ga r8.2.2.gB r8.2.2.gI r8.2.2.gC r8.2.2.gD r8.2.2.gU r8.2.2.fZ r8.2.2.gF r8.2.2.gG r8.2.2.gJ r8.2.2.nu r8.2.2.kP r8.2.2.ny) fun r9=>
  (fun y=>alt y (y))
  (Option.bind ((cA n n) 8 r8.1 r8.2.1) fun iJ=>
  cond (iJ.2.2==0)
  (Option.bind ((cA n n) 7 iJ.1 iJ.2.1) fun s7=>
  Option.bind ((cA n n) 6 s7.1 s7.2.1) fun lC=>
  Option.bind ((cA n n) 6 lC.1 lC.2.1) fun eX=>
  Option.bind (G72 r9.1 s7.2.2 (([IntKind.i64.wrap (1+lC.2.2),IntKind.i64.wrap (1+eX.2.2)]:List (C .e3)))) fun eU=>
  (fun x=>eW (KG x3 x4 x5 x6 x7 aZ aV aY aW bq bC bz bD x)) ((IntKind.i64.wrap (x0-1),eX.1,eX.2.1,eU.gZ,eU.cr,eU.aG,eU.aU,eU.aT)))
  ((fun x=>eW (KG x3 x4 x5 x6 x7 aZ aV aY aW bq bC bz bD x)) ((IntKind.i64.wrap (x0-1),iJ.1,iJ.2.1,r9.1.gZ,r9.1.cr,r9.1.aG,r9.1.aU,r9.1.aT)))))
  (Option.bind (Rx (⟨x8,x9,aM,aS,aQ⟩:aO)) fun fU=>
  Option.bind ((cA n n) 24 x1 x2) fun jk=>
  cond (jk.2.2==0)
  (Option.bind (zi (⟨fU.cr,fU.aG,fU.aU,fU.aT⟩:aa)) fun ck=>
  Option.bind ((cA n n) (ck.ae.length:Int) jk.1 jk.2.1) fun ee=>
  Option.bind ((cA n n) (ck.ai.length:Int) ee.1 ee.2.1) fun gv=>
  cond ((ck.ae.length:Int)==0)
  (some (gv.1,gv.2.1,(⟨(-1),([]:List (C .aA)),([]:List (C .aC)),([]:List (C .ay))⟩:aa)))
  (cond ((ck.ai.length:Int)==0)
  (some (gv.1,gv.2.1,(⟨(-1),([]:List (C .aA)),([]:List (C .aC)),([]:List (C .ay))⟩:aa)))
  (Option.bind ((cA n n) 20 gv.1 gv.2.1) fun dP=>
  cond (dP.2.2==0)
  (Option.bind ((cA n n) 5 dP.1 dP.2.1) fun tJ=>
  cond (decide (0≤tJ.2.2)) (cond (decide (tJ.2.2<((([(-1),0,1,1000000,1000001]:List (C .e3))).length:Int))) (Option.bind (([(-1),0,1,1000000,1000001]:List (C .e3)))[tJ.2.2.toNat]? fun dv=>some (tJ.1,tJ.2.1,(⟨dv,ck.ae,ck.ai,ck.aj⟩:aa))) none) none)
  (cond (dP.2.2==1)
  (Option.bind ((cA n n) 3 dP.1 dP.2.1) fun E0=>
  cond (decide (0≤E0.2.2)) (cond (decide (E0.2.2<((([(⟨#[]⟩:ByteArray),(⟨#[88]⟩:ByteArray),(⟨#[122,122]⟩:ByteArray)]:List (C .e9))).length:Int))) (Option.bind (([(⟨#[]⟩:ByteArray),(⟨#[88]⟩:ByteArray),(⟨#[122,122]⟩:ByteArray)]:List (C .e9)))[E0.2.2.toNat]? fun aA=>cond (decide (0≤ee.2.2)) (cond (decide (ee.2.2<(ck.ae.length:Int))) (Option.bind ck.ae[ee.2.2.toNat]? fun ua=>some (E0.1,E0.2.1,(⟨ck.b8,ck.ae.set ee.2.2.toNat (⟨aA,ua.Version,ua.cC,ua.aB,ua.Want,ua.Down,ua.ct,ua.Next,ua.dA,ua.aP,ua.bN,ua.cK,ua.cE⟩:af),ck.ai,ck.aj⟩:aa))) none) none) none) none)
  (cond (dP.2.2==2)
  (Option.bind ((cA n n) 3 dP.1 dP.2.1) fun xb=>
  cond (decide (0≤xb.2.2)) (cond (decide (xb.2.2<((([0,ck.b8,IntKind.i64.wrap (ck.b8+1)]:List (C .e3))).length:Int))) (Option.bind (([0,ck.b8,IntKind.i64.wrap (ck.b8+1)]:List (C .e3)))[xb.2.2.toNat]? fun e32=>cond (decide (0≤ee.2.2)) (cond (decide (ee.2.2<(ck.ae.length:Int))) (Option.bind ck.ae[ee.2.2.toNat]? fun tE=>some (xb.1,xb.2.1,(⟨ck.b8,ck.ae.set ee.2.2.toNat (⟨tE.Name,e32,tE.cC,tE.aB,tE.Want,tE.Down,tE.ct,tE.Next,tE.dA,tE.aP,tE.bN,tE.cK,tE.cE⟩:af),ck.ai,ck.aj⟩:aa))) none) none) none) none)
  (cond (dP.2.2==3)
  (Option.bind ((cA n n) 3 dP.1 dP.2.1) fun IQ=>
  cond (decide (0≤IQ.2.2)) (cond (decide (IQ.2.2<((([0,1000000,1000001]:List (C .e3))).length:Int))) (Option.bind (([0,1000000,1000001]:List (C .e3)))[IQ.2.2.toNat]? fun e35=>cond (decide (0≤ee.2.2)) (cond (decide (ee.2.2<(ck.ae.length:Int))) (Option.bind ck.ae[ee.2.2.toNat]? fun tZ=>some (IQ.1,IQ.2.1,(⟨ck.b8,ck.ae.set ee.2.2.toNat (⟨tZ.Name,tZ.Version,tZ.cC,e35,tZ.Want,tZ.Down,tZ.ct,tZ.Next,tZ.dA,tZ.aP,tZ.bN,tZ.cK,tZ.cE⟩:af),ck.ai,ck.aj⟩:aa))) none) none) none) none)
  (cond (dP.2.2==4)
  (Option.bind ((cA n n) 3 dP.1 dP.2.1) fun Lr=>
  cond (decide (0≤Lr.2.2)) (cond (decide (Lr.2.2<((([(-1),10,11]:List (C .e3))).length:Int))) (Option.bind (([(-1),10,11]:List (C .e3)))[Lr.2.2.toNat]? fun e38=>cond (decide (0≤ee.2.2)) (cond (decide (ee.2.2<(ck.ae.length:Int))) (Option.bind ck.ae[ee.2.2.toNat]? fun sJ=>some (Lr.1,Lr.2.1,(⟨ck.b8,ck.ae.set ee.2.2.toNat (⟨sJ.Name,sJ.Version,sJ.cC,sJ.aB,e38,sJ.Down,sJ.ct,sJ.Next,sJ.dA,sJ.aP,sJ.bN,sJ.cK,sJ.cE⟩:af),ck.ai,ck.aj⟩:aa))) none) none) none) none)
  (cond (dP.2.2==5)
  (Option.bind ((cA n n) 3 dP.1 dP.2.1) fun Lp=>
  cond (decide (0≤Lp.2.2)) (cond (decide (Lp.2.2<((([(-1),10,11]:List (C .e3))).length:Int))) (Option.bind (([(-1),10,11]:List (C .e3)))[Lp.2.2.toNat]? fun kF=>cond (decide (0≤ee.2.2)) (cond (decide (ee.2.2<(ck.ae.length:Int))) (Option.bind ck.ae[ee.2.2.toNat]? fun tY=>some (Lp.1,Lp.2.1,(⟨ck.b8,ck.ae.set ee.2.2.toNat (⟨tY.Name,tY.Version,tY.cC,tY.aB,tY.Want,kF,tY.ct,tY.Next,tY.dA,tY.aP,tY.bN,tY.cK,tY.cE⟩:af),ck.ai,ck.aj⟩:aa))) none) none) none) none)
  (cond (dP.2.2==6)
  (cond (decide (0≤ee.2.2)) (cond (decide (ee.2.2<(ck.ae.length:Int))) (Option.bind ck.ae[ee.2.2.toNat]? fun gX=>Option.bind ((cA n n) 3 dP.1 dP.2.1) fun Ll=>
  cond (decide (0≤Ll.2.2)) (cond (decide (Ll.2.2<((([0,1,11]:List (C .e3))).length:Int))) (Option.bind (([0,1,11]:List (C .e3)))[Ll.2.2.toNat]? fun e45=>cond (decide (0≤ee.2.2)) (cond (decide (ee.2.2<((ck.ae.set ee.2.2.toNat (⟨gX.Name,gX.Version,gX.cC,gX.aB,gX.Want,0,gX.ct,gX.Next,gX.dA,gX.aP,gX.bN,gX.cK,gX.cE⟩:af)).length:Int))) (Option.bind (ck.ae.set ee.2.2.toNat (⟨gX.Name,gX.Version,gX.cC,gX.aB,gX.Want,0,gX.ct,gX.Next,gX.dA,gX.aP,gX.bN,gX.cK,gX.cE⟩:af))[ee.2.2.toNat]? fun tX=>some (Ll.1,Ll.2.1,(⟨ck.b8,(ck.ae.set ee.2.2.toNat (⟨gX.Name,gX.Version,gX.cC,gX.aB,gX.Want,0,gX.ct,gX.Next,gX.dA,gX.aP,gX.bN,gX.cK,gX.cE⟩:af)).set ee.2.2.toNat (⟨tX.Name,tX.Version,tX.cC,tX.aB,tX.Want,tX.Down,e45,tX.Next,tX.dA,tX.aP,tX.bN,tX.cK,tX.cE⟩:af),ck.ai,ck.aj⟩:aa))) none) none) none) none) none) none)
  (cond (dP.2.2==7)
  (Option.bind ((cA n n) 4 dP.1 dP.2.1) fun IP=>
  cond (decide (0≤IP.2.2)) (cond (decide (IP.2.2<((([0,1,1000000,1000001]:List (C .e3))).length:Int))) (Option.bind (([0,1,1000000,1000001]:List (C .e3)))[IP.2.2.toNat]? fun e48=>cond (decide (0≤ee.2.2)) (cond (decide (ee.2.2<(ck.ae.length:Int))) (Option.bind ck.ae[ee.2.2.toNat]? fun sI=>some (IP.1,IP.2.1,(⟨ck.b8,ck.ae.set ee.2.2.toNat (⟨sI.Name,sI.Version,sI.cC,sI.aB,sI.Want,sI.Down,sI.ct,e48,sI.dA,sI.aP,sI.bN,sI.cK,sI.cE⟩:af),ck.ai,ck.aj⟩:aa))) none) none) none) none)
  (cond (dP.2.2==8)
  (Option.bind ((cA n n) 4 dP.1 dP.2.1) fun Lj=>
  cond (decide (0≤Lj.2.2)) (cond (decide (Lj.2.2<((([(-1),0,5,1000001]:List (C .e3))).length:Int))) (Option.bind (([(-1),0,5,1000001]:List (C .e3)))[Lj.2.2.toNat]? fun e51=>cond (decide (0≤ee.2.2)) (cond (decide (ee.2.2<(ck.ae.length:Int))) (Option.bind ck.ae[ee.2.2.toNat]? fun sH=>some (Lj.1,Lj.2.1,(⟨ck.b8,ck.ae.set ee.2.2.toNat (⟨sH.Name,sH.Version,sH.cC,sH.aB,sH.Want,sH.Down,sH.ct,sH.Next,e51,sH.aP,sH.bN,sH.cK,sH.cE⟩:af),ck.ai,ck.aj⟩:aa))) none) none) none) none)
  (cond (dP.2.2==9)
  (Option.bind ((cA n n) 3 dP.1 dP.2.1) fun IM=>
  cond (decide (0≤IM.2.2)) (cond (decide (IM.2.2<((([(-1),1,11]:List (C .e3))).length:Int))) (Option.bind (([(-1),1,11]:List (C .e3)))[IM.2.2.toNat]? fun rF=>cond (decide (0≤ee.2.2)) (cond (decide (ee.2.2<(ck.ae.length:Int))) (Option.bind ck.ae[ee.2.2.toNat]? fun lM=>some (IM.1,IM.2.1,(⟨ck.b8,ck.ae.set ee.2.2.toNat (⟨lM.Name,lM.Version,lM.cC,lM.aB,lM.Want,lM.Down,lM.ct,lM.Next,lM.dA,rF,lM.bN,lM.cK,lM.cE⟩:af),ck.ai,ck.aj⟩:aa))) none) none) none) none)
  (cond (dP.2.2==10)
  (Option.bind ((cA n n) 4 dP.1 dP.2.1) fun IL=>
  cond (decide (0≤IL.2.2)) (cond (decide (IL.2.2<((([(-1),1,3,4]:List (C .e3))).length:Int))) (Option.bind (([(-1),1,3,4]:List (C .e3)))[IL.2.2.toNat]? fun e57=>cond (decide (0≤ee.2.2)) (cond (decide (ee.2.2<(ck.ae.length:Int))) (Option.bind ck.ae[ee.2.2.toNat]? fun tV=>some (IL.1,IL.2.1,(⟨ck.b8,ck.ae.set ee.2.2.toNat (⟨tV.Name,tV.Version,tV.cC,tV.aB,tV.Want,tV.Down,tV.ct,tV.Next,tV.dA,tV.aP,tV.bN,tV.cK,e57⟩:af),ck.ai,ck.aj⟩:aa))) none) none) none) none)
  (cond (dP.2.2==11)
  (Option.bind ((cA n n) 3 dP.1 dP.2.1) fun Li=>
  cond (decide (0≤Li.2.2)) (cond (decide (Li.2.2<((([(-1),1,1000001]:List (C .e3))).length:Int))) (Option.bind (([(-1),1,1000001]:List (C .e3)))[Li.2.2.toNat]? fun w6=>cond (decide (0≤ee.2.2)) (cond (decide (ee.2.2<(ck.ae.length:Int))) (Option.bind ck.ae[ee.2.2.toNat]? fun tU=>some (Li.1,Li.2.1,(⟨ck.b8,ck.ae.set ee.2.2.toNat (⟨tU.Name,tU.Version,tU.cC,tU.aB,tU.Want,tU.Down,tU.ct,tU.Next,tU.dA,tU.aP,tU.bN,w6,tU.cE⟩:af),ck.ai,ck.aj⟩:aa))) none) none) none) none)
  (cond (dP.2.2==12)
  (Option.bind ((cA n n) 2 dP.1 dP.2.1) fun IK=>
  cond (decide (0≤IK.2.2)) (cond (decide (IK.2.2<((([(⟨#[110,111,110,101]⟩:ByteArray),(⟨#[]⟩:ByteArray)]:List (C .e9))).length:Int))) (Option.bind (([(⟨#[110,111,110,101]⟩:ByteArray),(⟨#[]⟩:ByteArray)]:List (C .e9)))[IK.2.2.toNat]? fun e63=>cond (decide (0≤gv.2.2)) (cond (decide (gv.2.2<(ck.ai.length:Int))) (Option.bind ck.ai[gv.2.2.toNat]? fun ay=>some (IK.1,IK.2.1,(⟨ck.b8,ck.ae,ck.ai.set gv.2.2.toNat (⟨e63,ay.Number,ay.Version,ay.aB,ay.State,ay.Ending,ay.bw⟩:aq),ck.aj⟩:aa))) none) none) none) none)
  (cond (dP.2.2==13)
  (Option.bind ((cA n n) 2 dP.1 dP.2.1) fun Lh=>
  cond (decide (0≤Lh.2.2)) (cond (decide (Lh.2.2<((([0,999]:List (C .e3))).length:Int))) (Option.bind (([0,999]:List (C .e3)))[Lh.2.2.toNat]? fun WA=>cond (decide (0≤gv.2.2)) (cond (decide (gv.2.2<(ck.ai.length:Int))) (Option.bind ck.ai[gv.2.2.toNat]? fun Jt=>some (Lh.1,Lh.2.1,(⟨ck.b8,ck.ae,ck.ai.set gv.2.2.toNat (⟨Jt.ax,WA,Jt.Version,Jt.aB,Jt.State,Jt.Ending,Jt.bw⟩:aq),ck.aj⟩:aa))) none) none) none) none)
  (cond (dP.2.2==14)
  (Option.bind ((cA n n) 4 dP.1 dP.2.1) fun Lg=>
  cond (decide (0≤Lg.2.2)) (cond (decide (Lg.2.2<((([0,1,3,5]:List (C .e3))).length:Int))) (Option.bind (([0,1,3,5]:List (C .e3)))[Lg.2.2.toNat]? fun e69=>cond (decide (0≤gv.2.2)) (cond (decide (gv.2.2<(ck.ai.length:Int))) (Option.bind ck.ai[gv.2.2.toNat]? fun Js=>some (Lg.1,Lg.2.1,(⟨ck.b8,ck.ae,ck.ai.set gv.2.2.toNat (⟨Js.ax,Js.Number,Js.Version,Js.aB,e69,Js.Ending,Js.bw⟩:aq),ck.aj⟩:aa))) none) none) none) none)
  (cond (dP.2.2==15)
  (Option.bind ((cA n n) 3 dP.1 dP.2.1) fun EZ=>
  cond (decide (0≤EZ.2.2)) (cond (decide (EZ.2.2<((([(⟨#[]⟩:ByteArray),(⟨#[97]⟩:ByteArray),(⟨#[110,111,110,101]⟩:ByteArray)]:List (C .e9))).length:Int))) (Option.bind (([(⟨#[]⟩:ByteArray),(⟨#[97]⟩:ByteArray),(⟨#[110,111,110,101]⟩:ByteArray)]:List (C .e9)))[EZ.2.2.toNat]? fun e72=>cond (decide (0≤gv.2.2)) (cond (decide (gv.2.2<(ck.ai.length:Int))) (Option.bind ck.ai[gv.2.2.toNat]? fun Es=>some (EZ.1,EZ.2.1,(⟨ck.b8,ck.ae,ck.ai.set gv.2.2.toNat (⟨Es.ax,Es.Number,Es.Version,Es.aB,Es.State,Es.Ending,e72⟩:aq),ck.aj⟩:aa))) none) none) none) none)
  (cond (dP.2.2==16)
  (cond (decide (0≤gv.2.2)) (cond (decide (gv.2.2<(ck.ai.length:Int))) (Option.bind ck.ai[gv.2.2.toNat]? fun e74=>cond (decide ((ck.ai.length+(([e74]:List (C .aC))).length)*72≤140737488355328)) (some (dP.1,dP.2.1,(⟨ck.b8,ck.ae,ck.ai++(([e74]:List (C .aC))),ck.aj⟩:aa))) none) none) none)
  (cond (dP.2.2==17)
  (Option.bind ((cA n n) 3 dP.1 dP.2.1) fun K9=>
  cond (decide (0≤K9.2.2)) (cond (decide (K9.2.2<((([(⟨#[]⟩:ByteArray),(⟨#[122]⟩:ByteArray),(⟨#[97]⟩:ByteArray)]:List (C .e9))).length:Int))) (Option.bind (([(⟨#[]⟩:ByteArray),(⟨#[122]⟩:ByteArray),(⟨#[97]⟩:ByteArray)]:List (C .e9)))[K9.2.2.toNat]? fun e76=>cond (decide ((ck.aj.length+(([(⟨e76,false⟩:av)]:List (C .ay))).length)*24≤140737488355328)) (some (K9.1,K9.2.1,(⟨ck.b8,ck.ae,ck.ai,ck.aj++(([(⟨e76,false⟩:av)]:List (C .ay)))⟩:aa))) none) none) none)
  (cond (dP.2.2==18)
  (Option.bind ((cA n n) 2 dP.1 dP.2.1) fun IJ=>
  cond (decide (0≤IJ.2.2)) (cond (decide (IJ.2.2<((([0,IntKind.i64.wrap (ck.b8+1)]:List (C .e3))).length:Int))) (Option.bind (([0,IntKind.i64.wrap (ck.b8+1)]:List (C .e3)))[IJ.2.2.toNat]? fun e78=>cond (decide (0≤gv.2.2)) (cond (decide (gv.2.2<(ck.ai.length:Int))) (Option.bind ck.ai[gv.2.2.toNat]? fun Jr=>some (IJ.1,IJ.2.1,(⟨ck.b8,ck.ae,ck.ai.set gv.2.2.toNat (⟨Jr.ax,Jr.Number,e78,Jr.aB,Jr.State,Jr.Ending,Jr.bw⟩:aq),ck.aj⟩:aa))) none) none) none) none)
  (cond (decide (0≤gv.2.2)) (cond (decide (gv.2.2<(ck.ai.length:Int))) (Option.bind ck.ai[gv.2.2.toNat]? fun eC=>cond (decide (0≤gv.2.2)) (cond (decide (gv.2.2<(ck.ai.length:Int))) (Option.bind ck.ai[gv.2.2.toNat]? fun Jq=>some (dP.1,dP.2.1,(⟨ck.b8,ck.ae,ck.ai.set gv.2.2.toNat (⟨Jq.ax,Jq.Number,Jq.Version,Jq.aB,Jq.State,!eC.Ending,Jq.bw⟩:aq),ck.aj⟩:aa))) none) none) none) none))))))))))))))))))))))
  (cond (jk.2.2==1)
  (Option.bind ((cA n n) 2 jk.1 jk.2.1) fun U4=>
  some (U4.1,U4.2.1,(⟨IntKind.i64.wrap (1000000-U4.2.2),fU.aG,fU.aU,fU.aT⟩:aa)))
  (cond (jk.2.2==2)
  (cond (decide ((fU.aG.length:Int)>0))
  (cond (decide ((fU.aT.length:Int)>0))
  (Option.bind ((cA n n) 4 jk.1 jk.2.1) fun K4=>
  OA (IntKind.i64.wrap ((fU.aG.length:Int)-1)) (IntKind.i64.wrap (200-K4.2.2)) bq bC bz bD fU.cr fU.aT n d  (K4.1,K4.2.1,fU.aG,fU.aU))
  (some (jk.1,jk.2.1,(⟨fU.cr,fU.aG,fU.aU,fU.aT⟩:aa))))
  (some (jk.1,jk.2.1,(⟨fU.cr,fU.aG,fU.aU,fU.aT⟩:aa))))
  (cond (jk.2.2==3)
  (cond (decide ((fU.aG.length:Int)>0))
  (Option.bind ((cA n n) 2 jk.1 jk.2.1) fun P6=>
  cond (decide (0≤0)) (cond (decide (0<(fU.aG.length:Int))) (Option.bind fU.aG[(0:Int).toNat]? fun tT=>some (P6.1,P6.2.1,(⟨fU.cr,fU.aG.set ((0:Int).toNat) ((⟨tT.Name,tT.Version,tT.cC,tT.aB,tT.Want,tT.Down,tT.ct,IntKind.i64.wrap (1000000-P6.2.2),tT.dA,tT.aP,tT.bN,tT.cK,tT.cE⟩:af)),fU.aU,fU.aT⟩:aa))) none) none)
  (some (jk.1,jk.2.1,(⟨fU.cr,fU.aG,fU.aU,fU.aT⟩:aa))))
  (some (jk.1,jk.2.1,(⟨fU.cr,fU.aG,fU.aU,fU.aT⟩:aa)))))))) (by kernel_rfl) ?_
 simp only [abF];rfl
end
section
variable (x3:List (C .dv)) (x4:Int) (x5:List (C .aA)) (x6:List (C .aC)) (x7:List (C .ay)) (aZ:Int) (aV:List (C .aA)) (aY:List (C .aC)) (aW:List (C .ay)) (bq:Int) (bC:List (C .aA)) (bz:List (C .aC)) (bD:List (C .ay))
noncomputable def Gd (n d:Nat)  (x:wQ):Option (List (C .e5)×Int×aa):=iter (fun rec S=>run (T9 n) (Yd n) (au (ak Try.f38) [1,1,1,1,0,1,0,0]) 0 S (dq rec (cJ 0 (bf (run (T9 n) (Yd n) (au (ak Try.f38) [1,1,1,1,1]) 0) (dU (T9 n) Try.f38 (da 8004000 8000 (some 4) (dz (T8 n) (au (ak Try.f49) [1,0]) 2 (dS (Yc n) (bf (run (T8 n) (Yc n) (au (ak Try.f49) [1,1]) 0) (dU (T8 n) Try.f49 (da 7000 0 (some 7) (dz (JE n d) (au (ak Try.f21) [1,0]) 2 (dS (RP n) (bf (run (JE n d) (RP n) (au (ak Try.f21) [1,1]) 0) (nG (JE n d) Try.f21 vX))))))))))))))) [0,2,3,4] n (Si x3 x4 x5 x6 x7 aZ aV aY aW bq bC bz bD x)
theorem abH (n d:Nat)  (x:wQ):Gd x3 x4 x5 x6 x7 aZ aV aY aW bq bC bz bD n d  x=cu (BP  n (sV n d) ) n x:=by
 refine iter_eq _ _ (fun bu x=>?_) n x;obtain ⟨x0,x1,x2,x8,x9,aM,aS,aQ⟩:=x
 refine Eq.trans (b:=
  cond (decide (x0>0))
  (Option.bind ((qc n n) x1 x2) fun r5=>
  Option.bind ((nN n n) x8 x9 aM aS aQ 0 0 2 r5.2.2.Name r5.2.2.Version r5.2.2.cC r5.2.2.aB r5.2.2.Want r5.2.2.Down r5.2.2.ct r5.2.2.Next r5.2.2.dA r5.2.2.aP r5.2.2.bN r5.2.2.cK r5.2.2.cE (⟨#[]⟩:ByteArray) 0 false) fun r6=>
  (fun y=>alt y (y))
  ((fun x=>bu (Si x3 x4 x5 x6 x7 aZ aV aY aW bq bC bz bD x)) ((IntKind.i64.wrap (x0-1),r5.1,r5.2.1,r6.1.gZ,r6.1.cr,r6.1.aG,r6.1.aU,r6.1.aT))))
  (Option.bind ((cA n n) 50 x1 x2) fun r7=>
  OB x3 x4 x5 x6 x7 aZ aV aY aW bq bC bz bD n d  (r7.2.2,r7.1,r7.2.1,x8,x9,aM,aS,aQ))) (by kernel_rfl) ?_
 simp only [abG];rfl
end
theorem t21 (n d:Nat) (a0:List (C .e5)) (a1:Int):iD (JE n d) (RP n) Try.f21 (Bq n (d+1)) [.one (.ptr 38654706975360 0)] [(38654706975360,.box .mem [.row .e5 a0,.int .i64 a1])] vX=B21 n (sV n d) a0 a1:=by
 have h:iD (JE n d) (RP n) Try.f21 (Bq n (d+1)) [.one (.ptr 38654706975360 0)] [(38654706975360,.box .mem [.row .e5 a0,.int .i64 a1])] vX =
  Option.bind ((nN n n) (([]:List (C .dv))) 0 (([]:List (C .aA))) (([]:List (C .aC))) (([]:List (C .ay))) 0 0 5 (⟨#[]⟩:ByteArray) 0 false 0 0 0 0 0 0 0 0 0 0 (⟨#[97]⟩:ByteArray) 0 false) fun r1=>
  Option.bind ((cA n n) 3 a0 a1) fun r2=>
  cond (decide (r2.2.2>0))
  (Option.bind ((nN n n) r1.1.gZ r1.1.cr r1.1.aG r1.1.aU r1.1.aT 0 0 5 (⟨#[]⟩:ByteArray) 0 false 0 0 0 0 0 0 0 0 0 0 (⟨#[98]⟩:ByteArray) 0 false) fun r3=>
  Option.bind ((cA n n) 2 r2.1 r2.2.1) fun r4=>
  Gd (([]:List (C .dv))) 0 (([]:List (C .aA))) (([]:List (C .aC))) (([]:List (C .ay))) 0 (([]:List (C .aA))) (([]:List (C .aC))) (([]:List (C .ay))) 0 (([]:List (C .aA))) (([]:List (C .aC))) (([]:List (C .ay))) n d  ((IntKind.i64.wrap (1+r4.2.2),r4.1,r4.2.1,r3.1.gZ,r3.1.cr,r3.1.aG,r3.1.aU,r3.1.aT)))
  (Option.bind ((cA n n) 2 r2.1 r2.2.1) fun U3=>
  Gd (([]:List (C .dv))) 0 (([]:List (C .aA))) (([]:List (C .aC))) (([]:List (C .ay))) 0 (([]:List (C .aA))) (([]:List (C .aC))) (([]:List (C .ay))) 0 (([]:List (C .aA))) (([]:List (C .aC))) (([]:List (C .ay))) n d  ((IntKind.i64.wrap (1+U3.2.2),U3.1,U3.2.1,r1.1.gZ,r1.1.cr,r1.1.aG,r1.1.aU,r1.1.aT))):=by kernel_rfl
 simp only [h,B21,abH]
noncomputable def I21 (n:Nat):mP C:=dH (Bq n n)
theorem i21d (n:Nat):∀ d:Nat,dx Try.prog KK 21 (dH (Bq n d))
 | 0=>iL (fn:=Try.f21) (by kernel_rfl) (by kernel_rfl) (iY (by kernel_rfl)) _ (fun vs O=>by simp only [Bq];split<;>rfl)
 | d+1=>by
  have ih:=i21d n d;have x:je Try.prog (JE n d):=jG;have q:Cons Try.prog (JE n d):=gO trivial trivial ⟨ih,i23 n,i49 n,i50 n,trivial⟩;refine lP x q (by kernel_rfl) (f:=21) (fn:=Try.f21) (c:=ak Try.f21) (by kernel_rfl) (by kernel_rfl) (by kernel_rfl) (iY (by kernel_rfl)) (Bq n (d+1)) (Nat.le_of_ble_eq_true (by kernel_rfl)) vX (fun os ls rs r0 h=>?_) (fun vs O r0 hk h=>?_)
  ·unfold vX at h
   split at h
   ·cases h;exact ⟨rfl,rfl,rfl⟩
   ·cases h
  ·simp only [Bq] at h
   split at h
   ·rename_i y0 y1
    exact ⟨mf (by kernel_rfl) (by kernel_rfl) (by kernel_rfl) (by kernel_rfl) (by kernel_rfl) (by kernel_rfl) (by kernel_rfl) (by kernel_rfl) (by kernel_rfl),Nat.le_of_ble_eq_true (by kernel_rfl),RP n,(t21 n d y0 y1).trans h⟩
   ·cases h
theorem i21 (n:Nat):dx Try.prog KK 21 (I21 n):=i21d n n
end Go.Proofs.Ytipemmgoipbojaa.Ab
set_option maxRecDepth 100000
namespace Go.Proofs.Ytipemmgoipbojaa.Ab
open Go Go.RowKit
noncomputable def F6 (n:Nat):Cf:={ N:=n,keep:=[0,2,3,4,5,6,15,16,24,32,40],live:=lk [] }
def WK (os:cW C) (ls:List (Lf C)) (rs:List (Bool×List (Lf C))):Option (aa×az):=match os,ls,rs with
 | [(77777777,.ghost)],[],[(true,[.int .i64 uC,.row .aA zt,.row .aC zq,.row .ay zo]),(true,[.int .i64 J6,.str z1_1,.int .i64 z1_2,.bool z1_3,.int .i64 z1_4,.int .i64 z1_5,.int .i64 z1_6,.int .i64 z1_7,.int .i64 z1_8,.int .i64 z1_9,.int .i64 Yo,.int .i64 Yn,.int .i64 Ym,.int .i64 Yl,.str Yk,.int .i64 Yj,.bool Yi])]=>some ((⟨uC,zt,zq,zo⟩:aa),(⟨J6,z1_1,z1_2,z1_3,z1_4,z1_5,z1_6,z1_7,z1_8,z1_9,Yo,Yn,Ym,Yl,Yk,Yj,Yi⟩:az))
 | _,_,_=>none
noncomputable def B6 (n:Nat) (rc:(List (C .e5))→Option (aa×az)) (a0:List (C .e5)):Option (aa×az):=
 cond (decide ((a0.length:Int)>2000))
 (cond (decide ((0:Int)≤0)) (cond (decide ((0:Int)≤2000)) (cond (decide (2000≤(a0.length:Int))) (Option.bind ((sV n n) ((a0.take (2000:Int).toNat).drop (0:Int).toNat) 0) fun r1=>
 Option.bind ((wH n n) r1.2.2.b8 r1.2.2.ae r1.2.2.ai r1.2.2.aj r1.1 r1.2.1) fun r2=>
 Option.bind ((cA n n) 12 r2.1 r2.2.1) fun r3=>
 cond (r3.2.2==0)
 (Option.bind ((cA n n) 3 r3.1 r3.2.1) fun r4=>
 cond (decide (0≤r4.2.2)) (cond (decide (r4.2.2<((([0,7,(-1)]:List (C .e3))).length:Int))) (Option.bind (([0,7,(-1)]:List (C .e3)))[r4.2.2.toNat]? fun e5=>(fun y=>alt y (y))
 (some (r1.2.2,(⟨e5,r2.2.2.bO,r2.2.2.bg,r2.2.2.bV,r2.2.2.bL,r2.2.2.cm,r2.2.2.bW,r2.2.2.bS,r2.2.2.cz,r2.2.2.cw,r2.2.2.bK,r2.2.2.bT,r2.2.2.bU,r2.2.2.bX,r2.2.2.Name,r2.2.2.Number,r2.2.2.jx⟩:az)))) none) none)
 (cond (r3.2.2==1)
 (Option.bind ((cA n n) 4 r3.1 r3.2.1) fun r6=>
 cond (decide (0≤r6.2.2)) (cond (decide (r6.2.2<((([(⟨#[]⟩:ByteArray),(⟨#[88]⟩:ByteArray),(⟨#[100]⟩:ByteArray),(⟨#[110,111,110,101]⟩:ByteArray)]:List (C .e9))).length:Int))) (Option.bind (([(⟨#[]⟩:ByteArray),(⟨#[88]⟩:ByteArray),(⟨#[100]⟩:ByteArray),(⟨#[110,111,110,101]⟩:ByteArray)]:List (C .e9)))[r6.2.2.toNat]? fun e7=>(fun y=>alt y (y))
 (some (r1.2.2,(⟨r2.2.2.Kind,r2.2.2.bO,r2.2.2.bg,r2.2.2.bV,r2.2.2.bL,r2.2.2.cm,r2.2.2.bW,r2.2.2.bS,r2.2.2.cz,r2.2.2.cw,r2.2.2.bK,r2.2.2.bT,r2.2.2.bU,r2.2.2.bX,e7,r2.2.2.Number,r2.2.2.jx⟩:az)))) none) none)
 (cond (r3.2.2==2)
 (Option.bind ((cA n n) 3 r3.1 r3.2.1) fun r8=>
 cond (decide (0≤r8.2.2)) (cond (decide (r8.2.2<((([(-1),1000000,1000001]:List (C .e3))).length:Int))) (Option.bind (([(-1),1000000,1000001]:List (C .e3)))[r8.2.2.toNat]? fun e9=>(fun y=>alt y (y))
 (some (r1.2.2,(⟨r2.2.2.Kind,r2.2.2.bO,r2.2.2.bg,r2.2.2.bV,r2.2.2.bL,r2.2.2.cm,r2.2.2.bW,r2.2.2.bS,r2.2.2.cz,r2.2.2.cw,r2.2.2.bK,r2.2.2.bT,r2.2.2.bU,r2.2.2.bX,r2.2.2.Name,e9,r2.2.2.jx⟩:az)))) none) none)
 (cond (r3.2.2==3)
 (Option.bind ((cA n n) 3 r3.1 r3.2.1) fun iJ=>
 cond (decide (0≤iJ.2.2)) (cond (decide (iJ.2.2<((([(-1),10,11]:List (C .e3))).length:Int))) (Option.bind (([(-1),10,11]:List (C .e3)))[iJ.2.2.toNat]? fun CX=>(fun y=>alt y (y))
 (some (r1.2.2,(⟨r2.2.2.Kind,r2.2.2.bO,r2.2.2.bg,r2.2.2.bV,r2.2.2.bL,CX,r2.2.2.bW,r2.2.2.bS,7,r2.2.2.cw,r2.2.2.bK,r2.2.2.bT,r2.2.2.bU,r2.2.2.bX,r2.2.2.Name,r2.2.2.Number,r2.2.2.jx⟩:az)))) none) none)
 ((fun y=>alt y (y))
 (some (r1.2.2,r2.2.2))))))) none) none) none)
 (Option.bind ((sV n n) a0 0) fun lC=>
 Option.bind ((wH n n) lC.2.2.b8 lC.2.2.ae lC.2.2.ai lC.2.2.aj lC.1 lC.2.1) fun eX=>
 Option.bind ((cA n n) 12 eX.1 eX.2.1) fun eU=>
 cond (eU.2.2==0)
 (Option.bind ((cA n n) 3 eU.1 eU.2.1) fun wY=>
 cond (decide (0≤wY.2.2)) (cond (decide (wY.2.2<((([0,7,(-1)]:List (C .e3))).length:Int))) (Option.bind (([0,7,(-1)]:List (C .e3)))[wY.2.2.toNat]? fun dV=>(fun y=>alt y (y))
 (some (lC.2.2,(⟨dV,eX.2.2.bO,eX.2.2.bg,eX.2.2.bV,eX.2.2.bL,eX.2.2.cm,eX.2.2.bW,eX.2.2.bS,eX.2.2.cz,eX.2.2.cw,eX.2.2.bK,eX.2.2.bT,eX.2.2.bU,eX.2.2.bX,eX.2.2.Name,eX.2.2.Number,eX.2.2.jx⟩:az)))) none) none)
 (cond (eU.2.2==1)
 (Option.bind ((cA n n) 4 eU.1 eU.2.1) fun Pd=>
 cond (decide (0≤Pd.2.2)) (cond (decide (Pd.2.2<((([(⟨#[]⟩:ByteArray),(⟨#[88]⟩:ByteArray),(⟨#[100]⟩:ByteArray),(⟨#[110,111,110,101]⟩:ByteArray)]:List (C .e9))).length:Int))) (Option.bind (([(⟨#[]⟩:ByteArray),(⟨#[88]⟩:ByteArray),(⟨#[100]⟩:ByteArray),(⟨#[110,111,110,101]⟩:ByteArray)]:List (C .e9)))[Pd.2.2.toNat]? fun Aw=>(fun y=>alt y (y))
 (some (lC.2.2,(⟨eX.2.2.Kind,eX.2.2.bO,eX.2.2.bg,eX.2.2.bV,eX.2.2.bL,eX.2.2.cm,eX.2.2.bW,eX.2.2.bS,eX.2.2.cz,eX.2.2.cw,eX.2.2.bK,eX.2.2.bT,eX.2.2.bU,eX.2.2.bX,Aw,eX.2.2.Number,eX.2.2.jx⟩:az)))) none) none)
 (cond (eU.2.2==2)
 (Option.bind ((cA n n) 3 eU.1 eU.2.1) fun pA=>
 cond (decide (0≤pA.2.2)) (cond (decide (pA.2.2<((([(-1),1000000,1000001]:List (C .e3))).length:Int))) (Option.bind (([(-1),1000000,1000001]:List (C .e3)))[pA.2.2.toNat]? fun Ju=>(fun y=>alt y (y))
 (some (lC.2.2,(⟨eX.2.2.Kind,eX.2.2.bO,eX.2.2.bg,eX.2.2.bV,eX.2.2.bL,eX.2.2.cm,eX.2.2.bW,eX.2.2.bS,eX.2.2.cz,eX.2.2.cw,eX.2.2.bK,eX.2.2.bT,eX.2.2.bU,eX.2.2.bX,eX.2.2.Name,Ju,eX.2.2.jx⟩:az)))) none) none)
 (cond (eU.2.2==3)
 (Option.bind ((cA n n) 3 eU.1 eU.2.1) fun jk=>
 cond (decide (0≤jk.2.2)) (cond (decide (jk.2.2<((([(-1),10,11]:List (C .e3))).length:Int))) (Option.bind (([(-1),10,11]:List (C .e3)))[jk.2.2.toNat]? fun WC=>(fun y=>alt y (y))
 (some (lC.2.2,(⟨eX.2.2.Kind,eX.2.2.bO,eX.2.2.bg,eX.2.2.bV,eX.2.2.bL,WC,eX.2.2.bW,eX.2.2.bS,7,eX.2.2.cw,eX.2.2.bK,eX.2.2.bT,eX.2.2.bU,eX.2.2.bX,eX.2.2.Name,eX.2.2.Number,eX.2.2.jx⟩:az)))) none) none)
 ((fun y=>alt y (y))
 (some (lC.2.2,eX.2.2)))))))
noncomputable def Xk (n:Nat):Nat→(List (C .e5))→Option (aa×az)
 | 0=>fun _=>none
 | d+1=>B6 n (Xk n d)
noncomputable def UG (n d:Nat):jw C:={ ids:=[],roots:=[],fQ:=[],R0:=aa×az,out:=fun r=>[],ret:=fun r=>[(true,[.int .i64 r.1.b8,.row .aA r.1.ae,.row .aC r.1.ai,.row .ay r.1.aj]),(true,[.int .i64 r.2.Kind,.str r.2.bO,.int .i64 r.2.bg,.bool r.2.bV,.int .i64 r.2.bL,.int .i64 r.2.cm,.int .i64 r.2.bW,.int .i64 r.2.bS,.int .i64 r.2.cz,.int .i64 r.2.cw,.int .i64 r.2.bK,.int .i64 r.2.bT,.int .i64 r.2.bU,.int .i64 r.2.bX,.str r.2.Name,.int .i64 r.2.Number,.bool r.2.jx])],g:=fun vs O=>match vs,O with
 | [.one (.row .e5 y0)],[]=>Xk n d y0
 | _,_=>none }
noncomputable def X6 (n d:Nat):Cx C:=fT [] [] [(6,dH (UG n d)),(20,I20 n),(21,I21 n),(22,I22 n),(23,Uo n)] [2,3,4,5,6,8,10,13,15,18,20,21,22,23,26,28,29,30,31,34,36,37,38,39,42,44,45,46,47,48] 393216 []
theorem t6 (n d:Nat) (a0:List (C .e5)):iD (X6 n d) (F6 n) Try.f6 (UG n (d+1)) [.one (.row .e5 a0)] [] WK=B6 n (Xk n d) a0:=by
 kernel_rfl
noncomputable def I6 (n:Nat):mP C:=dH (UG n n)
theorem i6d (n:Nat):∀ d:Nat,dx Try.prog KK 6 (dH (UG n d))
 | 0=>iL (fn:=Try.f6) (by kernel_rfl) (by kernel_rfl) (iY (by kernel_rfl)) _ (fun vs O=>by simp only [UG];split<;>rfl)
 | d+1=>by
  have ih:=i6d n d;have x:je Try.prog (X6 n d):=jG;have q:Cons Try.prog (X6 n d):=gO trivial trivial ⟨ih,i20 n,i21 n,i22 n,i23 n,trivial⟩;refine lP x q (by kernel_rfl) (f:=6) (fn:=Try.f6) (c:=ak Try.f6) (by kernel_rfl) (by kernel_rfl) (by kernel_rfl) (iY (by kernel_rfl)) (UG n (d+1)) (Nat.le_of_ble_eq_true (by kernel_rfl)) WK (fun os ls rs r0 h=>?_) (fun vs O r0 hk h=>?_)
  ·unfold WK at h
   split at h
   ·cases h;exact ⟨rfl,rfl,rfl⟩
   ·cases h
  ·simp only [UG] at h
   split at h
   ·rename_i y0
    exact ⟨mf (by kernel_rfl) (by kernel_rfl) (by kernel_rfl) (by kernel_rfl) (by kernel_rfl) (by kernel_rfl) (by kernel_rfl) (by kernel_rfl) (by kernel_rfl),Nat.le_of_ble_eq_true (by kernel_rfl),F6 n,(t6 n d y0).trans h⟩
   ·cases h
theorem i6 (n:Nat):dx Try.prog KK 6 (I6 n):=i6d n n
noncomputable def X33:Cx C:=fT [] [] [] [] 2162688 []
def F33 (n:Nat):Cf:={ N:=n,keep:=[0,1,2,6],live:=lk [] }
noncomputable abbrev dec33:=jB KK [.bool]
noncomputable def Xp (n:Nat) (a0 a1 a2:Int):Option (Bool):=
 cond (decide (a0≥a1))
 (some (decide (a0≤a2)))
 (some (false))
theorem t33 (n:Nat) (a0 a1 a2:Int):dG X33 (F33 n) Try.f33 [.one (.int .i64 a0),.one (.int .i64 a1),.one (.int .i64 a2)] dec33=Xp n a0 a1 a2:=by
 kernel_rfl
noncomputable def uA (a0 a1 a2:Int):Option (Bool):=Xp fuel a0 a1 a2
noncomputable def Nd:iK C:=lD KK [.int .i64,.int .i64,.int .i64] [.bool] uA
theorem c33:dm Try.prog KK 33 Nd:=cO (gO trivial trivial trivial:Cons Try.prog X33) (fn:=Try.f33) (by kernel_rfl) (by kernel_rfl) (by kernel_rfl) (by kernel_rfl) (F33 fuel) (by kernel_rfl) (fun a0 a1 a2=>t33 fuel a0 a1 a2)
noncomputable def X35:Cx C:=fT [] [] [] [] 2293760 []
def F35 (n:Nat):Cf:={ N:=n,keep:=[0,2,3,4,12,14,15,16,39],live:=lk [(0,[0,14,15])] }
noncomputable abbrev Tu:=jB KK [.bool]
abbrev Ea:Type:=Int
section
variable (x0:ByteArray) (x1:Int)
def aaq:Ea→St C:=fun x2=>{ env:=[(0,.one (.str x0)),(14,.one (.int .i64 x1)),(15,.one (.int .i64 x2))],ah:=[],base:=0 }
end
noncomputable def GQ (x0:ByteArray) (x1:Int) (n:Nat)   (bu:Ea→Option (Bool)):Ea→Option (Bool):=fun x2=>
 cond (decide (x2<x1))
 (cond (decide (0≤x2)) (cond (decide (x2<(x0.size:Int))) (cond (decide ((s5 x0 x2)≥97))
 (cond (decide ((s5 x0 x2)≤122))
 (bu (IntKind.i64.wrap (x2+1)))
 (cond (decide ((s5 x0 x2)≥48))
 (cond (decide ((s5 x0 x2)≤57))
 (bu (IntKind.i64.wrap (x2+1)))
 (cond (!((s5 x0 x2)==45))
 (some (false))
 (bu (IntKind.i64.wrap (x2+1)))))
 (cond (!((s5 x0 x2)==45))
 (some (false))
 (bu (IntKind.i64.wrap (x2+1))))))
 (cond (decide ((s5 x0 x2)≥48))
 (cond (decide ((s5 x0 x2)≤57))
 (bu (IntKind.i64.wrap (x2+1)))
 (cond (!((s5 x0 x2)==45))
 (some (false))
 (bu (IntKind.i64.wrap (x2+1)))))
 (cond (!((s5 x0 x2)==45))
 (some (false))
 (bu (IntKind.i64.wrap (x2+1)))))) none) none)
 (some (true))
section
variable (x0:ByteArray) (x1:Int)
noncomputable def Ow (n:Nat)  (x:Ea):Option (Bool):=iter (fun rec S=>run X35 (F35 n) (au (ak Try.f35) [1,1,0,1,0,0]) 0 S (dq rec (cJ 0 (bf (run X35 (F35 n) (au (ak Try.f35) [1,1,1]) 0) (eu X35 Try.f35 Tu))))) [0,14,15] n (aaq x0 x1 x)
theorem abB (n:Nat)  (x:Ea):Ow x0 x1 n  x=cu (GQ x0 x1 n  ) n x:=by
 refine iter_eq _ _ (fun bu x2=>?_) n x
 kernel_rfl
end
noncomputable def RH (n:Nat) (a0:ByteArray):Option (Bool):=
 cond (decide ((a0.size:Int)<1))
 (some (false))
 (cond (decide ((a0.size:Int)>20))
 (some (false))
 (cu (GQ a0 (a0.size:Int) n ) n 0))
theorem t35 (n:Nat) (a0:ByteArray):dG X35 (F35 n) Try.f35 [.one (.str a0)] Tu=RH n a0:=by
 refine Eq.trans (b:=
  cond (decide ((a0.size:Int)<1))
  (some (false))
  (cond (decide ((a0.size:Int)>20))
  (some (false))
  (Ow a0 (a0.size:Int) n   0))) (by kernel_rfl) ?_
 simp only [RH,abB]
noncomputable def X0 (a0:ByteArray):Option (Bool):=RH fuel a0
noncomputable def Nc:iK C:=lD KK [.str] [.bool] X0
theorem c35:dm Try.prog KK 35 Nc:=cO (gO trivial trivial trivial:Cons Try.prog X35) (fn:=Try.f35) (by kernel_rfl) (by kernel_rfl) (by kernel_rfl) (by kernel_rfl) (F35 fuel) (by kernel_rfl) (fun a0=>t35 fuel a0)
noncomputable def X34:Cx C:=fT [(33,Nd),(35,Nc)] [] [] [] 2228224 []
def F34 (n:Nat):Cf:={ N:=n,keep:=[0,1,2,4,53,88],live:=lk [] }
noncomputable abbrev dec34:=jB KK [.bool]
noncomputable def Xo (n:Nat) (a0:af) (a1:Int):Option (Bool):=
 Option.bind (X0 a0.Name) fun r1=>
 cond (!r1)
 (some (false))
 (Option.bind (uA a0.Version 1 a1) fun r2=>
 cond (!r2)
 (some (false))
 (Option.bind (uA a0.aB 1 1000000) fun r3=>
 cond (!r3)
 (some (false))
 (Option.bind (uA a0.Next 1 1000000) fun r4=>
 cond (!r4)
 (some (false))
 (Option.bind (uA a0.Want 0 10) fun r5=>
 cond (!r5)
 (some (false))
 (Option.bind (uA a0.Down 0 10) fun r6=>
 cond (!r6)
 (some (false))
 (Option.bind (uA a0.ct 0 10) fun r7=>
 cond (!r7)
 (some (false))
 (cond ((IntKind.i64.wrap (a0.Down+a0.ct))==0)
 (some (false))
 (Option.bind (uA a0.dA 0 1000000) fun r8=>
 cond (!r8)
 (some (false))
 (Option.bind (uA a0.cK 0 1000000) fun r9=>
 cond (!r9)
 (some (false))
 (Option.bind (uA a0.aP 0 10) fun iJ=>
 cond (!iJ)
 (some (false))
 (Option.bind (uA a0.bN 0 10) fun s7=>
 cond (!s7)
 (some (false))
 (cond (decide (a0.aP>a0.bN))
 (some (false))
 (Option.bind (uA a0.cE 0 3) fun lC=>
 cond (!lC)
 (some (false))
 (cond (decide (a0.dA>0))
 (some (true))
 (cond (a0.aP==0)
 (cond (a0.bN==0)
 (cond (a0.cK==0)
 (some (a0.cE==0))
 (some (false)))
 (some (false)))
 (some (false)))))))))))))))))
theorem t34 (n:Nat) (a0:af) (a1:Int):dG X34 (F34 n) Try.f34 [.agg [.str a0.Name,.int .i64 a0.Version,.bool a0.cC,.int .i64 a0.aB,.int .i64 a0.Want,.int .i64 a0.Down,.int .i64 a0.ct,.int .i64 a0.Next,.int .i64 a0.dA,.int .i64 a0.aP,.int .i64 a0.bN,.int .i64 a0.cK,.int .i64 a0.cE],.one (.int .i64 a1)] dec34=Xo n a0 a1:=by
 kernel_rfl
noncomputable def G34 (a0:af) (a1:Int):Option (Bool):=Xo fuel a0 a1
noncomputable def TH:iK C:=lD KK [.el .aA,.int .i64] [.bool] G34
theorem c34:dm Try.prog KK 34 TH:=cO (gO ⟨c33,c35,trivial⟩ trivial trivial:Cons Try.prog X34) (fn:=Try.f34) (by kernel_rfl) (by kernel_rfl) (by kernel_rfl) (by kernel_rfl) (F34 fuel) (by kernel_rfl) (fun a0 a1=>t34 fuel a0 a1)
noncomputable def wu:Cx C:=fT [] [] [] [] 2359296 []
def Eu (n:Nat):Cf:={ N:=n,keep:=[0,1,4,5,10,11,12,23],live:=lk [(0,[0,1,10,11])] }
noncomputable def I36 (n:Nat):mP C:=iZ wu (Eu n) Try.f36
theorem i36 (n:Nat):dx Try.prog KK 36 (I36 n):=iO (gO trivial trivial trivial:Cons Try.prog wu) (Eu n) (fn:=Try.f36) (by kernel_rfl) (by kernel_rfl) (by kernel_rfl) (by kernel_rfl)
noncomputable def rz:Cx C:=fT [] [] [] [] 2424832 []
def zk (n:Nat):Cf:={ N:=n,keep:=[0,1,4,5,10,11,12,23],live:=lk [(0,[0,1,10,11])] }
noncomputable def I37 (n:Nat):mP C:=iZ rz (zk n) Try.f37
theorem i37 (n:Nat):dx Try.prog KK 37 (I37 n):=iO (gO trivial trivial trivial:Cons Try.prog rz) (zk n) (fn:=Try.f37) (by kernel_rfl) (by kernel_rfl) (by kernel_rfl) (by kernel_rfl)
end Go.Proofs.Ytipemmgoipbojaa.Ab
set_option maxRecDepth 100000
namespace Go.Proofs.Ytipemmgoipbojaa.Ab
open Go Go.RowKit
noncomputable def w7 (n:Nat):Cx C:=fT [(33,Nd),(34,TH),(35,Nc)] [] [(36,I36 n),(37,I37 n)] [1,7,8,9,93,94,95,102,144,148,151,152,153,154] 720896 []
def Dw (n:Nat):Cf:={ N:=n,keep:=[0,1,2,3,4,5,6,7,8,9,10,32,34,35,36,37,61,64,65,66,67,90,93,94,95,96,135,154,156,181],live:=lk [(0,[1,34,35,36]),(2,[1,64,65,66]),(4,[1,93,94,95])] }
noncomputable abbrev yQ:=jB KK [.bool]
abbrev Ef:Type:=Int
abbrev Eg:Type:=Int
abbrev wR:Type:=Int
abbrev Eh:Type:=Int
abbrev Ei:Type:=Int
section
variable (x0:ByteArray) (x1 x3:Int) (x4:C .aA) (x5:List (C .aC)) (x6 x7:Int) (x8 x9:Bool) (aM:Int) (aS:List (C .aA)) (aQ:List (C .aC)) (aZ:List (C .ay)) (aV:ByteArray) (aY aW bq bC:Int) (bz:Bool) (bD:ByteArray)
def aaw:Ef→St C:=fun x2=>{ env:=[(0,.one (.ptr 720960 0)),(1,.one (.str x0)),(10,.one (.int .i64 x1)),(11,.one (.int .i64 x2)),(1001,.bQ (false,[.ptr 720960 0]) 152001),(1007,.bQ (false,[.int .i64 x3]) 152007),(1008,.bQ (false,[.ptr 721408 0]) 152008),(1009,.bQ (false,[.nH .aA x4 0]) 152009),(1093,.bQ (false,[.row .aC x5]) 152093),(1094,.bQ (false,[.int .i64 x6]) 152094),(1095,.bQ (false,[.int .i64 x7]) 152095),(1144,.bQ (false,[.bool x8]) 152144),(1148,.bQ (false,[.bool x9]) 152148)],ah:=[(720960,.box .mem [.int .i64 aM,.row .aA aS,.row .aC aQ,.row .ay aZ]),(721408,.box .mem [.str aV,.int .i64 aY,.int .i64 aW,.int .i64 bq,.int .i64 bC,.bool bz,.str bD])],base:=152000 }
end
noncomputable def xV (x0:ByteArray) (x1 x3 x7:Int) (x8 x9:Bool) (aQ:List (C .aC)) (aZ:List (C .ay)) (aV:ByteArray) (aY:Int) (n:Nat)  (de:wR→Option (Bool)) (zQ:Ef→Option (Bool)):Ef→Option (Bool):=fun x2=>
 cond (decide (x2<x1))
 (cond (decide (0≤x2)) (Option.bind aZ[x2.toNat]? fun mg=>cond (decide (mg.Name=x0))
 (cond (decide (0≤x2)) (Option.bind aZ[x2.toNat]? fun dV=>cond x9
 (cond x8
 (some (false))
 (cond (decide (x3>0))
 (cond (decide (0≤IntKind.i64.wrap (x3-1))) (Option.bind aQ[(IntKind.i64.wrap (x3-1)).toNat]? fun aK=>cond (slt aV aK.ax)
 (some (false))
 (cond (decide (aV=aK.ax))
 (cond (decide (aY≤aK.Number))
 (some (false))
 (de (IntKind.i64.wrap (x7+1))))
 (de (IntKind.i64.wrap (x7+1))))) none)
 (de (IntKind.i64.wrap (x7+1)))))
 (cond x8
 (some (false))
 (cond (decide (x3>0))
 (cond (decide (0≤IntKind.i64.wrap (x3-1))) (Option.bind aQ[(IntKind.i64.wrap (x3-1)).toNat]? fun Aw=>cond (slt aV Aw.ax)
 (some (false))
 (cond (decide (aV=Aw.ax))
 (cond (decide (aY≤Aw.Number))
 (some (false))
 (de (IntKind.i64.wrap (x7+1))))
 (de (IntKind.i64.wrap (x7+1))))) none)
 (de (IntKind.i64.wrap (x7+1)))))) none)
 (zQ (IntKind.i64.wrap (x2+1)))) none)
 (cond x9
 (cond x8
 (some (false))
 (some (false)))
 (cond x8
 (some (false))
 (cond (decide (x3>0))
 (cond (decide (0≤IntKind.i64.wrap (x3-1))) (Option.bind aQ[(IntKind.i64.wrap (x3-1)).toNat]? fun e19=>cond (slt aV e19.ax)
 (some (false))
 (cond (decide (aV=e19.ax))
 (cond (decide (aY≤e19.Number))
 (some (false))
 (de (IntKind.i64.wrap (x7+1))))
 (de (IntKind.i64.wrap (x7+1))))) none)
 (de (IntKind.i64.wrap (x7+1))))))
section
variable (x0:ByteArray) (x1 x3:Int) (x4:List (C .aC)) (x5 x6 x7:Int) (x8:List (C .aA)) (x9:List (C .aC)) (aM:List (C .ay)) (aS:ByteArray) (aQ aZ aV aY:Int) (aW:Bool) (bq:ByteArray)
def Sj:Eg→St C:=fun x2=>{ env:=[(0,.one (.ptr 720960 0)),(1,.one (.str x0)),(10,.one (.int .i64 x1)),(11,.one (.int .i64 x2)),(1001,.bQ (false,[.ptr 720960 0]) 103001),(1007,.bQ (false,[.int .i64 x3]) 103007),(1008,.bQ (false,[.ptr 721408 0]) 103008),(1093,.bQ (false,[.row .aC x4]) 103093),(1094,.bQ (false,[.int .i64 x5]) 103094),(1095,.bQ (false,[.int .i64 x6]) 103095)],ah:=[(720960,.box .mem [.int .i64 x7,.row .aA x8,.row .aC x9,.row .ay aM]),(721408,.box .mem [.str aS,.int .i64 aQ,.int .i64 aZ,.int .i64 aV,.int .i64 aY,.bool aW,.str bq])],base:=103000 }
end
noncomputable def xW (x0:ByteArray) (x1 x3 x6 x7:Int) (x8:List (C .aA)) (x9:List (C .aC)) (aM:List (C .ay)) (aS:ByteArray) (aQ aZ aV aY:Int) (bq:ByteArray) (n:Nat)  (de:wR→Option (Bool)) (gN:Eg→Option (Bool)):Eg→Option (Bool):=fun x2=>
 cond (decide (x2<x1))
 (cond (decide (0≤x2)) (Option.bind x8[x2.toNat]? fun e9=>cond (decide (e9.Name=x0))
 (cond (decide (0≤x2)) (Option.bind x8[x2.toNat]? fun tF=>Option.bind (uA aQ 1 (IntKind.i64.wrap (tF.Next-1))) fun s7=>
 cond (!s7)
 (some (false))
 (Option.bind (uA aZ 1 x7) fun lC=>
 cond (!lC)
 (some (false))
 (Option.bind (uA aV 1 1000000) fun eX=>
 cond (!eX)
 (some (false))
 (Option.bind (uA aY 1 4) fun eU=>
 cond (!eU)
 (some (false))
 (cond (aY==1)
 (cond (!decide (bq=(⟨#[]⟩:ByteArray)))
 (some (false))
 (cond (aY != 1)
 (cu (xV bq (aM.length:Int) x3 x6 false true x9 aM aS aQ n de) n 0)
 (cond (decide (x3>0))
 (cond (decide (0≤IntKind.i64.wrap (x3-1))) (Option.bind x9[(IntKind.i64.wrap (x3-1)).toNat]? fun Ju=>cond (slt aS Ju.ax)
 (some (false))
 (cond (decide (aS=Ju.ax))
 (cond (decide (aQ≤Ju.Number))
 (some (false))
 (de (IntKind.i64.wrap (x6+1))))
 (de (IntKind.i64.wrap (x6+1))))) none)
 (de (IntKind.i64.wrap (x6+1))))))
 (cond (aY != 1)
 (cu (xV bq (aM.length:Int) x3 x6 false true x9 aM aS aQ n de) n 0)
 (cond (decide (x3>0))
 (cond (decide (0≤IntKind.i64.wrap (x3-1))) (Option.bind x9[(IntKind.i64.wrap (x3-1)).toNat]? fun Q4=>cond (slt aS Q4.ax)
 (some (false))
 (cond (decide (aS=Q4.ax))
 (cond (decide (aQ≤Q4.Number))
 (some (false))
 (de (IntKind.i64.wrap (x6+1))))
 (de (IntKind.i64.wrap (x6+1))))) none)
 (de (IntKind.i64.wrap (x6+1)))))))))) none)
 (gN (IntKind.i64.wrap (x2+1)))) none)
 (some (false))
section
variable (x0:List (C .aC)) (x1 x3:Int) (x4:List (C .aA)) (x5:List (C .aC)) (x6:List (C .ay))
def qw:wR→St C:=fun x2=>{ env:=[(1,.one (.ptr 720960 0)),(93,.one (.row .aC x0)),(94,.one (.int .i64 x1)),(95,.one (.int .i64 x2))],ah:=[(720960,.box .mem [.int .i64 x3,.row .aA x4,.row .aC x5,.row .ay x6])],base:=0 }
end
noncomputable def BQ (x0:List (C .aC)) (x1 x3:Int) (x4:List (C .aA)) (x5:List (C .aC)) (x6:List (C .ay)) (n:Nat)   (de:wR→Option (Bool)):wR→Option (Bool):=fun x2=>
 cond (decide (x2<x1))
 (cond (decide (0≤x2)) (Option.bind x0[x2.toNat]? fun e8=>cu (xW e8.ax (x4.length:Int) x2 x2 x3 x4 x5 x6 e8.ax e8.Number e8.Version e8.aB e8.State e8.bw n de) n 0) none)
 (some (true))
section
variable (x0:List (C .ay)) (x1 x3:Int) (x4:List (C .aA)) (x5:List (C .aC)) (x6:List (C .ay))
def KH:Eh→St C:=fun x2=>{ env:=[(1,.one (.ptr 720960 0)),(64,.one (.row .ay x0)),(65,.one (.int .i64 x1)),(66,.one (.int .i64 x2))],ah:=[(720960,.box .mem [.int .i64 x3,.row .aA x4,.row .aC x5,.row .ay x6])],base:=0 }
end
noncomputable def xX (x0:List (C .ay)) (x1 x3:Int) (x4:List (C .aA)) (x5:List (C .aC)) (x6:List (C .ay)) (n:Nat)   (eW:Eh→Option (Bool)):Eh→Option (Bool):=fun x2=>
 cond (decide (x2<x1))
 (cond (decide (0≤x2)) (Option.bind x0[x2.toNat]? fun e5=>Option.bind (X0 e5.Name) fun r6=>
 cond (!r6)
 (some (false))
 (cond (decide (x2>0))
 (cond (decide (0≤IntKind.i64.wrap (x2-1))) (Option.bind x6[(IntKind.i64.wrap (x2-1)).toNat]? fun e7=>cond (!slt e7.Name e5.Name)
 (some (false))
 (eW (IntKind.i64.wrap (x2+1)))) none)
 (eW (IntKind.i64.wrap (x2+1))))) none)
 (cu (BQ x5 (x5.length:Int) x3 x4 x5 x6 n ) n 0)
section
variable (x0:List (C .aA)) (x1 x3:Int) (x4:List (C .aA)) (x5:List (C .aC)) (x6:List (C .ay))
def KI:Ei→St C:=fun x2=>{ env:=[(1,.one (.ptr 720960 0)),(34,.one (.row .aA x0)),(35,.one (.int .i64 x1)),(36,.one (.int .i64 x2))],ah:=[(720960,.box .mem [.int .i64 x3,.row .aA x4,.row .aC x5,.row .ay x6])],base:=0 }
end
noncomputable def BR (x0:List (C .aA)) (x1 x3:Int) (x4:List (C .aA)) (x5:List (C .aC)) (x6:List (C .ay)) (n:Nat)   (bu:Ei→Option (Bool)):Ei→Option (Bool):=fun x2=>
 cond (decide (x2<x1))
 (cond (decide (0≤x2)) (Option.bind x0[x2.toNat]? fun e2=>Option.bind (G34 e2 x3) fun r3=>
 cond (!r3)
 (some (false))
 (cond (decide (x2>0))
 (cond (decide (0≤IntKind.i64.wrap (x2-1))) (Option.bind x4[(IntKind.i64.wrap (x2-1)).toNat]? fun e4=>cond (!slt e4.Name e2.Name)
 (some (false))
 (bu (IntKind.i64.wrap (x2+1)))) none)
 (bu (IntKind.i64.wrap (x2+1))))) none)
 (cu (xX x6 (x6.length:Int) x3 x4 x5 x6 n ) n 0)
section
variable (x0:ByteArray) (x1 x3:Int) (x4:C .aA) (x5:List (C .aC)) (x6 x7:Int) (x8 x9:Bool) (aM:Int) (aS:List (C .aA)) (aQ:List (C .aC)) (aZ:List (C .ay)) (aV:ByteArray) (aY aW bq bC:Int) (bz:Bool) (bD:ByteArray)
noncomputable def Gf (n:Nat) (de:St C→Option (Bool)) (x:Ef):Option (Bool):=iter (fun rec S=>run rz (zk n) (au (ak Try.f37) [1,0,1,0,0]) 0 S (dq rec (cJ 0 (bf (run rz (zk n) (au (ak Try.f37) [1,1]) 0) (dU rz Try.f37 (da 151000 0 (some 151) (dz (w7 n) (au (ak Try.f11) [1,1,1,1,0,1,0,0,1,1,0,0,1,1,1,0,0]) 16 (dS (Dw n) (bf (run (w7 n) (Dw n) (au (ak Try.f11) [1,1,1,1,0,1,0,0,1,1,0,0,1,1,1,0,1]) 5) (bf (run (w7 n) (Dw n) (au (ak Try.f11) [1,1,1,1,0,1,0,0,1,1,0,0,1,1,1,1]) 5) (cJ 5 (bf (run (w7 n) (Dw n) (au (ak Try.f11) [1,1,1,1,0,1,0,0,1,1,1]) 4) (dq (gR [1,93,94,95] de) (cJ 4 (bf (run (w7 n) (Dw n) (au (ak Try.f11) [1,1,1,1,1]) 0) (eu (w7 n) Try.f11 yQ)))))))))))))))) [0,1,10,11] n (aaw x0 x1 x3 x4 x5 x6 x7 x8 x9 aM aS aQ aZ aV aY aW bq bC bz bD x)
theorem abJ (n:Nat) (de:St C→Option (Bool)) (x:Ef):Gf x0 x1 x3 x4 x5 x6 x7 x8 x9 aM aS aQ aZ aV aY aW bq bC bz bD n de x=cu (xV x0 x1 x3 x7 x8 x9 aQ aZ aV aY n  (fun x=>de (qw x5 x6 aM aS aQ aZ x))) n x:=by
 refine iter_eq _ _ (fun zQ x2=>?_) n x
 kernel_rfl
end
section
variable (x0:ByteArray) (x1 x3:Int) (x4:List (C .aC)) (x5 x6 x7:Int) (x8:List (C .aA)) (x9:List (C .aC)) (aM:List (C .ay)) (aS:ByteArray) (aQ aZ aV aY:Int) (aW:Bool) (bq:ByteArray)
noncomputable def OD (n:Nat) (de:St C→Option (Bool)) (x:Eg):Option (Bool):=iter (fun rec S=>run wu (Eu n) (au (ak Try.f36) [1,0,1,0,0]) 0 S (dq rec (cJ 0 (bf (run wu (Eu n) (au (ak Try.f36) [1,1]) 0) (dU wu Try.f36 (da 102000 0 (some 102) (dz (w7 n) (au (ak Try.f11) [1,1,1,1,0,1,0,0,1,1,0,0,1,0]) 3 (dS (Dw n) (bf (run (w7 n) (Dw n) (au (ak Try.f11) [1,1,1,1,0,1,0,0,1,1,0,0,1,1]) 5) (cJ 5 (bf (run (w7 n) (Dw n) (au (ak Try.f11) [1,1,1,1,0,1,0,0,1,1,1]) 4) (dq (gR [1,93,94,95] de) (cJ 4 (bf (run (w7 n) (Dw n) (au (ak Try.f11) [1,1,1,1,1]) 0) (eu (w7 n) Try.f11 yQ))))))))))))))) [0,1,10,11] n (Sj x0 x1 x3 x4 x5 x6 x7 x8 x9 aM aS aQ aZ aV aY aW bq x)
theorem abK (n:Nat) (de:St C→Option (Bool)) (x:Eg):OD x0 x1 x3 x4 x5 x6 x7 x8 x9 aM aS aQ aZ aV aY aW bq n de x=cu (xW x0 x1 x3 x6 x7 x8 x9 aM aS aQ aZ aV aY bq n  (fun x=>de (qw x4 x5 x7 x8 x9 aM x))) n x:=by
 refine iter_eq _ _ (fun gN x2=>?_) n x
 refine Eq.trans (b:=
  cond (decide (x2<x1))
  (cond (decide (0≤x2)) (Option.bind x8[x2.toNat]? fun e9=>cond (decide (e9.Name=x0))
  (cond (decide (0≤x2)) (Option.bind x8[x2.toNat]? fun tF=>Option.bind (uA aQ 1 (IntKind.i64.wrap (tF.Next-1))) fun s7=>
  cond (!s7)
  (some (false))
  (Option.bind (uA aZ 1 x7) fun lC=>
  cond (!lC)
  (some (false))
  (Option.bind (uA aV 1 1000000) fun eX=>
  cond (!eX)
  (some (false))
  (Option.bind (uA aY 1 4) fun eU=>
  cond (!eU)
  (some (false))
  (cond (aY==1)
  (cond (!decide (bq=(⟨#[]⟩:ByteArray)))
  (some (false))
  (cond (aY != 1)
  (Gf bq (aM.length:Int) x3 tF x4 x5 x6 false true x7 x8 x9 aM aS aQ aZ aV aY aW bq n  de 0)
  (cond (decide (x3>0))
  (cond (decide (0≤IntKind.i64.wrap (x3-1))) (Option.bind x9[(IntKind.i64.wrap (x3-1)).toNat]? fun Ju=>cond (slt aS Ju.ax)
  (some (false))
  (cond (decide (aS=Ju.ax))
  (cond (decide (aQ≤Ju.Number))
  (some (false))
  ((fun x=>de (qw x4 x5 x7 x8 x9 aM x)) (IntKind.i64.wrap (x6+1))))
  ((fun x=>de (qw x4 x5 x7 x8 x9 aM x)) (IntKind.i64.wrap (x6+1))))) none)
  ((fun x=>de (qw x4 x5 x7 x8 x9 aM x)) (IntKind.i64.wrap (x6+1))))))
  (cond (aY != 1)
  (Gf bq (aM.length:Int) x3 tF x4 x5 x6 false true x7 x8 x9 aM aS aQ aZ aV aY aW bq n  de 0)
  (cond (decide (x3>0))
  (cond (decide (0≤IntKind.i64.wrap (x3-1))) (Option.bind x9[(IntKind.i64.wrap (x3-1)).toNat]? fun Q4=>cond (slt aS Q4.ax)
  (some (false))
  (cond (decide (aS=Q4.ax))
  (cond (decide (aQ≤Q4.Number))
  (some (false))
  ((fun x=>de (qw x4 x5 x7 x8 x9 aM x)) (IntKind.i64.wrap (x6+1))))
  ((fun x=>de (qw x4 x5 x7 x8 x9 aM x)) (IntKind.i64.wrap (x6+1))))) none)
  ((fun x=>de (qw x4 x5 x7 x8 x9 aM x)) (IntKind.i64.wrap (x6+1)))))))))) none)
  ((fun x=>gN (Sj x0 x1 x3 x4 x5 x6 x7 x8 x9 aM aS aQ aZ aV aY aW bq x)) (IntKind.i64.wrap (x2+1)))) none)
  (some (false))) (by kernel_rfl) ?_
 simp only [abJ];rfl
end
section
variable (x0:List (C .aC)) (x1 x3:Int) (x4:List (C .aA)) (x5:List (C .aC)) (x6:List (C .ay))
noncomputable def OE (n:Nat)  (x:wR):Option (Bool):=iter (fun rec S=>run (w7 n) (Dw n) (au (ak Try.f11) [1,1,1,1,0,1,0,0]) 4 S (dq rec (cJ 4 (bf (run (w7 n) (Dw n) (au (ak Try.f11) [1,1,1,1,1]) 0) (eu (w7 n) Try.f11 yQ))))) [1,93,94,95] n (qw x0 x1 x3 x4 x5 x6 x)
theorem abL (n:Nat)  (x:wR):OE x0 x1 x3 x4 x5 x6 n  x=cu (BQ x0 x1 x3 x4 x5 x6 n  ) n x:=by
 refine iter_eq _ _ (fun de x2=>?_) n x
 refine Eq.trans (b:=
  cond (decide (x2<x1))
  (cond (decide (0≤x2)) (Option.bind x0[x2.toNat]? fun e8=>OD e8.ax (x4.length:Int) x2 x0 x1 x2 x3 x4 x5 x6 e8.ax e8.Number e8.Version e8.aB e8.State e8.Ending e8.bw n  de 0) none)
  (some (true))) (by kernel_rfl) ?_
 simp only [abK];rfl
end
section
variable (x0:List (C .ay)) (x1 x3:Int) (x4:List (C .aA)) (x5:List (C .aC)) (x6:List (C .ay))
noncomputable def OG (n:Nat)  (x:Eh):Option (Bool):=iter (fun rec S=>run (w7 n) (Dw n) (au (ak Try.f11) [1,1,1,0,1,0,0]) 2 S (dq rec (cJ 2 (bf (run (w7 n) (Dw n) (au (ak Try.f11) [1,1,1,1]) 0) (eu (w7 n) Try.f11 yQ))))) [1,64,65,66] n (KH x0 x1 x3 x4 x5 x6 x)
theorem abM (n:Nat)  (x:Eh):OG x0 x1 x3 x4 x5 x6 n  x=cu (xX x0 x1 x3 x4 x5 x6 n  ) n x:=by
 refine iter_eq _ _ (fun eW x2=>?_) n x
 refine Eq.trans (b:=
  cond (decide (x2<x1))
  (cond (decide (0≤x2)) (Option.bind x0[x2.toNat]? fun e5=>Option.bind (X0 e5.Name) fun r6=>
  cond (!r6)
  (some (false))
  (cond (decide (x2>0))
  (cond (decide (0≤IntKind.i64.wrap (x2-1))) (Option.bind x6[(IntKind.i64.wrap (x2-1)).toNat]? fun e7=>cond (!slt e7.Name e5.Name)
  (some (false))
  ((fun x=>eW (KH x0 x1 x3 x4 x5 x6 x)) (IntKind.i64.wrap (x2+1)))) none)
  ((fun x=>eW (KH x0 x1 x3 x4 x5 x6 x)) (IntKind.i64.wrap (x2+1))))) none)
  (OE x5 (x5.length:Int) x3 x4 x5 x6 n   0)) (by kernel_rfl) ?_
 simp only [abL];rfl
end
section
variable (x0:List (C .aA)) (x1 x3:Int) (x4:List (C .aA)) (x5:List (C .aC)) (x6:List (C .ay))
noncomputable def OH (n:Nat)  (x:Ei):Option (Bool):=iter (fun rec S=>run (w7 n) (Dw n) (au (ak Try.f11) [1,1,0,1,0,0]) 0 S (dq rec (cJ 0 (bf (run (w7 n) (Dw n) (au (ak Try.f11) [1,1,1]) 0) (eu (w7 n) Try.f11 yQ))))) [1,34,35,36] n (KI x0 x1 x3 x4 x5 x6 x)
theorem abN (n:Nat)  (x:Ei):OH x0 x1 x3 x4 x5 x6 n  x=cu (BR x0 x1 x3 x4 x5 x6 n  ) n x:=by
 refine iter_eq _ _ (fun bu x2=>?_) n x
 refine Eq.trans (b:=
  cond (decide (x2<x1))
  (cond (decide (0≤x2)) (Option.bind x0[x2.toNat]? fun e2=>Option.bind (G34 e2 x3) fun r3=>
  cond (!r3)
  (some (false))
  (cond (decide (x2>0))
  (cond (decide (0≤IntKind.i64.wrap (x2-1))) (Option.bind x4[(IntKind.i64.wrap (x2-1)).toNat]? fun e4=>cond (!slt e4.Name e2.Name)
  (some (false))
  ((fun x=>bu (KI x0 x1 x3 x4 x5 x6 x)) (IntKind.i64.wrap (x2+1)))) none)
  ((fun x=>bu (KI x0 x1 x3 x4 x5 x6 x)) (IntKind.i64.wrap (x2+1))))) none)
  (OG x6 (x6.length:Int) x3 x4 x5 x6 n   0)) (by kernel_rfl) ?_
 simp only [abM];rfl
end
noncomputable def RN (n:Nat) (a0:aa):Option (Bool):=
 Option.bind (uA a0.b8 0 1000000) fun r1=>
 cond (!r1)
 (some (false))
 (cond (decide ((a0.ae.length:Int)>8))
 (some (false))
 (cond (decide ((a0.ai.length:Int)>200))
 (some (false))
 (cond (decide ((a0.aj.length:Int)>6))
 (some (false))
 (cu (BR a0.ae (a0.ae.length:Int) a0.b8 a0.ae a0.ai a0.aj n ) n 0))))
theorem t11 (n:Nat) (a0:aa):dG (w7 n) (Dw n) Try.f11 [.agg [.int .i64 a0.b8,.row .aA a0.ae,.row .aC a0.ai,.row .ay a0.aj]] yQ=RN n a0:=by
 refine Eq.trans (b:=
  Option.bind (uA a0.b8 0 1000000) fun r1=>
  cond (!r1)
  (some (false))
  (cond (decide ((a0.ae.length:Int)>8))
  (some (false))
  (cond (decide ((a0.ai.length:Int)>200))
  (some (false))
  (cond (decide ((a0.aj.length:Int)>6))
  (some (false))
  (OH a0.ae (a0.ae.length:Int) a0.b8 a0.ae a0.ai a0.aj n   0))))) (by kernel_rfl) ?_
 simp only [RN,abN]
noncomputable def qj (a0:aa):Option (Bool):=RN fuel a0
noncomputable def HT:iK C:=lD KK [.el .dv] [.bool] qj
theorem c11:dm Try.prog KK 11 HT:=cO (gO ⟨c33,c34,c35,trivial⟩ trivial ⟨i36 _,i37 _,trivial⟩:Cons Try.prog (w7 fuel)) (fn:=Try.f11) (by kernel_rfl) (by kernel_rfl) (by kernel_rfl) (by kernel_rfl) (Dw fuel) (by kernel_rfl) (fun a0=>t11 fuel a0)
end Go.Proofs.Ytipemmgoipbojaa.Ab
set_option maxRecDepth 100000
namespace Go.Proofs.Ytipemmgoipbojaa.Ab
open Go Go.RowKit
noncomputable def X24:Cx C:=fT [] [] [] [] 1572864 []
def F24 (n:Nat):Cf:={ N:=n,keep:=[0,1,2],live:=lk [] }
noncomputable abbrev dec24:=jB KK [.el .dv]
noncomputable def Xw (n:Nat) (a0:aa):Option (aa):=
 cond (decide (((([]:List (C .aA))).length+a0.ae.length)*112≤140737488355328)) (cond (decide (((([]:List (C .aC))).length+a0.ai.length)*72≤140737488355328)) (cond (decide (((([]:List (C .ay))).length+a0.aj.length)*24≤140737488355328)) (some ((⟨a0.b8,(([]:List (C .aA)))++a0.ae,(([]:List (C .aC)))++a0.ai,(([]:List (C .ay)))++a0.aj⟩:aa))) none) none) none
theorem t24 (n:Nat) (a0:aa):dG X24 (F24 n) Try.f24 [.agg [.int .i64 a0.b8,.row .aA a0.ae,.row .aC a0.ai,.row .ay a0.aj]] dec24=Xw n a0:=by
 kernel_rfl
noncomputable def iR (a0:aa):Option (aa):=Xw fuel a0
noncomputable def TM:iK C:=lD KK [.el .dv] [.el .dv] iR
theorem c24:dm Try.prog KK 24 TM:=cO (gO trivial trivial trivial:Cons Try.prog X24) (fn:=Try.f24) (by kernel_rfl) (by kernel_rfl) (by kernel_rfl) (by kernel_rfl) (F24 fuel) (by kernel_rfl) (fun a0=>t24 fuel a0)
noncomputable def X84:Cx C:=fT [] [] [] [] 5505024 []
def F84 (n:Nat):Cf:={ N:=n,keep:=[0,2,3],live:=lk [] }
noncomputable abbrev dec84:=jB KK [.int .i64]
noncomputable def Xi (n:Nat) (a0:Bool):Option (Int):=
 cond a0
 (some (1))
 (some (0))
theorem t84 (n:Nat) (a0:Bool):dG X84 (F84 n) Try.f84 [.one (.bool a0)] dec84=Xi n a0:=by
 kernel_rfl
noncomputable def G84 (a0:Bool):Option (Int):=Xi fuel a0
noncomputable def TA:iK C:=lD KK [.bool] [.int .i64] G84
theorem c84:dm Try.prog KK 84 TA:=cO (gO trivial trivial trivial:Cons Try.prog X84) (fn:=Try.f84) (by kernel_rfl) (by kernel_rfl) (by kernel_rfl) (by kernel_rfl) (F84 fuel) (by kernel_rfl) (fun a0=>t84 fuel a0)
noncomputable def X56:Cx C:=fT [] [] [] [] 3670016 []
def F56 (n:Nat):Cf:={ N:=n,keep:=[0,1,2,6,7,12,13,14,37],live:=lk [(0,[0,1,2,12,13])] }
noncomputable def I56 (n:Nat):mP C:=iZ X56 (F56 n) Try.f56
theorem i56 (n:Nat):dx Try.prog KK 56 (I56 n):=iO (gO trivial trivial trivial:Cons Try.prog X56) (F56 n) (fn:=Try.f56) (by kernel_rfl) (by kernel_rfl) (by kernel_rfl) (by kernel_rfl)
noncomputable def X54:Cx C:=fT [] [] [] [] 3538944 []
def F54 (n:Nat):Cf:={ N:=n,keep:=[0,1,2,3],live:=lk [] }
noncomputable abbrev dec54:=jB KK [.bool]
noncomputable def RG (n:Nat) (a0:af) (a1:C .aA):Option (Bool):=
 some (slt a1.Name a0.Name)
theorem t54 (n:Nat) (a0:af) (a1:C .aA):dG X54 (F54 n) Try.f54 [.agg [.str a0.Name,.int .i64 a0.Version,.bool a0.cC,.int .i64 a0.aB,.int .i64 a0.Want,.int .i64 a0.Down,.int .i64 a0.ct,.int .i64 a0.Next,.int .i64 a0.dA,.int .i64 a0.aP,.int .i64 a0.bN,.int .i64 a0.cK,.int .i64 a0.cE],.one (.nH .aA a1 0)] dec54=RG n a0 a1:=by
 kernel_rfl
noncomputable def G54 (a0:af) (a1:C .aA):Option (Bool):=RG fuel a0 a1
noncomputable def Nb:iK C:=lD KK [.el .aA,.ptr .aA] [.bool] G54
theorem c54:dm Try.prog KK 54 Nb:=cO (gO trivial trivial trivial:Cons Try.prog X54) (fn:=Try.f54) (by kernel_rfl) (by kernel_rfl) (by kernel_rfl) (by kernel_rfl) (F54 fuel) (by kernel_rfl) (fun a0 a1=>t54 fuel a0 a1)
noncomputable def X58:Cx C:=fT [] [] [] [] 3801088 []
def F58 (n:Nat):Cf:={ N:=n,keep:=[0,1,2,3],live:=lk [] }
noncomputable abbrev dec58:=jB KK [.bool]
noncomputable def G58n (n:Nat) (a0:av) (a1:C .p7):Option (Bool):=
 some (decide (a0.Name=a1.Name))
theorem t58 (n:Nat) (a0:av) (a1:C .p7):dG X58 (F58 n) Try.f58 [.agg [.str a0.Name,.bool a0.kJ],.one (.nH .p7 a1 0)] dec58=G58n n a0 a1:=by
 kernel_rfl
noncomputable def XZ (a0:av) (a1:C .p7):Option (Bool):=G58n fuel a0 a1
noncomputable def HS:iK C:=lD KK [.el .ay,.ptr .p7] [.bool] XZ
theorem c58:dm Try.prog KK 58 HS:=cO (gO trivial trivial trivial:Cons Try.prog X58) (fn:=Try.f58) (by kernel_rfl) (by kernel_rfl) (by kernel_rfl) (by kernel_rfl) (F58 fuel) (by kernel_rfl) (fun a0 a1=>t58 fuel a0 a1)
noncomputable def X60:Cx C:=fT [] [] [] [] 3932160 []
def F60 (n:Nat):Cf:={ N:=n,keep:=[0,1,2,3],live:=lk [] }
noncomputable abbrev dec60:=jB KK [.bool]
noncomputable def Xm (n:Nat) (a0:aq) (a1:C .p7):Option (Bool):=
 cond (a0.State != 1)
 (some (decide (a0.bw=a1.Name)))
 (some (false))
theorem t60 (n:Nat) (a0:aq) (a1:C .p7):dG X60 (F60 n) Try.f60 [.agg [.str a0.ax,.int .i64 a0.Number,.int .i64 a0.Version,.int .i64 a0.aB,.int .i64 a0.State,.bool a0.Ending,.str a0.bw],.one (.nH .p7 a1 0)] dec60=Xm n a0 a1:=by
 kernel_rfl
noncomputable def XY (a0:aq) (a1:C .p7):Option (Bool):=Xm fuel a0 a1
noncomputable def HR:iK C:=lD KK [.el .aC,.ptr .p7] [.bool] XY
theorem c60:dm Try.prog KK 60 HR:=cO (gO trivial trivial trivial:Cons Try.prog X60) (fn:=Try.f60) (by kernel_rfl) (by kernel_rfl) (by kernel_rfl) (by kernel_rfl) (F60 fuel) (by kernel_rfl) (fun a0 a1=>t60 fuel a0 a1)
noncomputable def X62:Cx C:=fT [] [] [] [] 4063232 []
def F62 (n:Nat):Cf:={ N:=n,keep:=[0,1,2,3],live:=lk [] }
noncomputable abbrev dec62:=jB KK [.bool]
noncomputable def RF (n:Nat) (a0:av) (a1:C .p7):Option (Bool):=
 some (slt a1.Name a0.Name)
theorem t62 (n:Nat) (a0:av) (a1:C .p7):dG X62 (F62 n) Try.f62 [.agg [.str a0.Name,.bool a0.kJ],.one (.nH .p7 a1 0)] dec62=RF n a0 a1:=by
 kernel_rfl
noncomputable def G62 (a0:av) (a1:C .p7):Option (Bool):=RF fuel a0 a1
noncomputable def Na:iK C:=lD KK [.el .ay,.ptr .p7] [.bool] G62
theorem c62:dm Try.prog KK 62 Na:=cO (gO trivial trivial trivial:Cons Try.prog X62) (fn:=Try.f62) (by kernel_rfl) (by kernel_rfl) (by kernel_rfl) (by kernel_rfl) (F62 fuel) (by kernel_rfl) (fun a0 a1=>t62 fuel a0 a1)
noncomputable def X103:Cx C:=fT [] [] [] [] 6750208 []
def F103 (n:Nat):Cf:={ N:=n,keep:=[0,1,2],live:=lk [] }
noncomputable abbrev WO:=jB KK [.bool]
noncomputable def Dr (n:Nat) (a0:aq):Option (Bool):=
 some (a0.Ending)
theorem t103 (n:Nat) (a0:aq):dG X103 (F103 n) Try.f103 [.agg [.str a0.ax,.int .i64 a0.Number,.int .i64 a0.Version,.int .i64 a0.aB,.int .i64 a0.State,.bool a0.Ending,.str a0.bw]] WO=Dr n a0:=by
 kernel_rfl
noncomputable def Dt (a0:aq):Option (Bool):=Dr fuel a0
noncomputable def AA:iK C:=lD KK [.el .aC] [.bool] Dt
theorem W7:dm Try.prog KK 103 AA:=cO (gO trivial trivial trivial:Cons Try.prog X103) (fn:=Try.f103) (by kernel_rfl) (by kernel_rfl) (by kernel_rfl) (by kernel_rfl) (F103 fuel) (by kernel_rfl) (fun a0=>t103 fuel a0)
noncomputable def X53:Cx C:=fT [(54,Nb)] [] [] [] 3473408 []
def F53 (n:Nat):Cf:={ N:=n,keep:=[0,1,4,5,7,8,9,16],live:=lk [(0,[0,1,7,8])] }
noncomputable def I53 (n:Nat):mP C:=iZ X53 (F53 n) Try.f53
theorem i53 (n:Nat):dx Try.prog KK 53 (I53 n):=iO (gO ⟨c54,trivial⟩ trivial trivial:Cons Try.prog X53) (F53 n) (fn:=Try.f53) (by kernel_rfl) (by kernel_rfl) (by kernel_rfl) (by kernel_rfl)
noncomputable def Dk:Cx C:=fT [(60,HR),(103,AA)] [] [] [] 6946816 []
def JH (n:Nat):Cf:={ N:=n,keep:=[0,1,4,5,7,8,9,16],live:=lk [(0,[0,1,7,8])] }
noncomputable def I106 (n:Nat):mP C:=iZ Dk (JH n) Try.f106
theorem i106 (n:Nat):dx Try.prog KK 106 (I106 n):=iO (gO ⟨c60,W7,trivial⟩ trivial trivial:Cons Try.prog Dk) (JH n) (fn:=Try.f106) (by kernel_rfl) (by kernel_rfl) (by kernel_rfl) (by kernel_rfl)
noncomputable def H2 (n:Nat):Cx C:=fT [(60,HR),(103,AA)] [] [(106,I106 n)] [0,1,5,6,7,10,28,29] 3866624 [38]
def Ps (n:Nat):Cf:={ N:=n,keep:=[0,1,4,5,6,7,12,19,29],live:=lk [(0,[0,1,5,6])] }
noncomputable def I59 (n:Nat):mP C:=iZ (H2 n) (Ps n) Try.f59
theorem i59 (n:Nat):dx Try.prog KK 59 (I59 n):=iO (gO ⟨c60,W7,trivial⟩ trivial ⟨i106 _,trivial⟩:Cons Try.prog (H2 n)) (Ps n) (fn:=Try.f59) (by kernel_rfl) (by kernel_rfl) (by kernel_rfl) (by kernel_rfl)
noncomputable def T6:Cx C:=fT [(58,HS),(62,Na)] [] [] [] 3997696 []
def Ya (n:Nat):Cf:={ N:=n,keep:=[0,1,4,5,7,8,9,16],live:=lk [(0,[0,1,7,8])] }
noncomputable def I61 (n:Nat):mP C:=iZ T6 (Ya n) Try.f61
theorem i61 (n:Nat):dx Try.prog KK 61 (I61 n):=iO (gO ⟨c58,c62,trivial⟩ trivial trivial:Cons Try.prog T6) (Ya n) (fn:=Try.f61) (by kernel_rfl) (by kernel_rfl) (by kernel_rfl) (by kernel_rfl)
noncomputable def T7 (n:Nat):Cx C:=fT [(58,HS)] [] [(61,I61 n)] [0,1,5,6,7,10,28,29] 3735552 [38]
def Yb (n:Nat):Cf:={ N:=n,keep:=[0,1,4,5,6,7,12,19,29],live:=lk [(0,[0,1,5,6])] }
noncomputable def I57 (n:Nat):mP C:=iZ (T7 n) (Yb n) Try.f57
theorem i57 (n:Nat):dx Try.prog KK 57 (I57 n):=iO (gO ⟨c58,trivial⟩ trivial ⟨i61 _,trivial⟩:Cons Try.prog (T7 n)) (Yb n) (fn:=Try.f57) (by kernel_rfl) (by kernel_rfl) (by kernel_rfl) (by kernel_rfl)
noncomputable def wo (n:Nat):Cx C:=fT [(84,TA),(103,AA)] [] [(59,I59 n)] [0,13,18,19,20] 3407872 []
def Du (n:Nat):Cf:={ N:=n,keep:=[0,2,3,4,5,6,7,9,10,12,25,26,27,39,55,56,57,69,73,74,75,76,80,84,85,86,87,110,116],live:=lk [(0,[0,25,26]),(2,[0,55,56]),(4,[0,5,6,7,55,56,73,74,75]),(6,[0,5,6,7,9,10,55,56,73,74,75,84,85,86])] }
noncomputable def I52 (n:Nat):mP C:=iZ (wo n) (Du n) Try.f52
theorem i52 (n:Nat):dx Try.prog KK 52 (I52 n):=iO (gO ⟨c84,W7,trivial⟩ trivial ⟨i59 _,trivial⟩:Cons Try.prog (wo n)) (Du n) (fn:=Try.f52) (by kernel_rfl) (by kernel_rfl) (by kernel_rfl) (by kernel_rfl)
noncomputable def fb (n:Nat):Cx C:=fT [(11,HT),(54,Nb),(58,HS),(60,HR),(62,Na)] [] [(36,I36 n),(37,I37 n),(52,I52 n),(53,I53 n),(56,I56 n),(57,I57 n),(59,I59 n),(61,I61 n)] [0,3,5,6,7,8,9,10,44,58,85,86,87,88,89,90,98,130,131,132,138,139,140,141,147,148,149,155,156,162,183,184,185,186,187,188,189,190,196] 1638400 []
def iu (n:Nat):Cf:={ N:=n,keep:=[0,1,3,4,5,6,7,8,9,10,18,23,32,33,37,46,60,91,114,125,131,150,156,164,191,205,222],live:=lk [] }
noncomputable def I25 (n:Nat):mP C:=iZ (fb n) (iu n) Try.f25
theorem i25 (n:Nat):dx Try.prog KK 25 (I25 n):=iO (gO ⟨c11,c54,c58,c60,c62,trivial⟩ trivial ⟨i36 _,i37 _,i52 _,i53 _,i56 _,i57 _,i59 _,i61 _,trivial⟩:Cons Try.prog (fb n)) (iu n) (fn:=Try.f25) (by kernel_rfl) (by kernel_rfl) (by kernel_rfl) (by kernel_rfl)
end Go.Proofs.Ytipemmgoipbojaa.Ab
set_option maxRecDepth 100000
namespace Go.Proofs.Ytipemmgoipbojaa.Ab
open Go Go.RowKit
noncomputable def X7 (n:Nat):Cx C:=fT [(11,HT),(24,TM)] [] [(25,I25 n)] [2,4,6,7,15] 458752 []
def F7 (n:Nat):Cf:={ N:=n,keep:=[0,1,2,3,4,5,6,7,10,17],live:=lk [] }
noncomputable abbrev jA:=jB KK [.el .dv,.int .i64]
abbrev O7:Type:=Int×Int
abbrev Gj:Type:=ByteArray×Int×Int
abbrev AW:Type:=Int×List (C .aC)
abbrev O8:Type:=Int×List (C .aC)
abbrev O6:Type:=List (C .aC)×Int×Int
abbrev O9:Type:=Int
abbrev O4:Type:=Int
abbrev O2:Type:=Int
abbrev DT:Type:=Int
abbrev DS:Type:=Int
abbrev O0:Type:=Int
abbrev O5:Type:=Int
abbrev DR:Type:=Int
abbrev DN:Type:=List (C .aC)×Int×Int
abbrev DO:Type:=Int
abbrev DM:Type:=List (C .ay)×Int×Int
abbrev DP:Type:=Int
abbrev DQ:Type:=Int
abbrev DK:Type:=Int
abbrev DJ:Type:=Int
abbrev DI:Type:=Int
abbrev DG:Type:=Int
abbrev DF:Type:=Int
abbrev DE:Type:=Int
abbrev DH:Type:=Int
abbrev DL:Type:=Int
abbrev DD:Type:=Int
section
variable (x0:List (C .aC)) (x1:Nat) (x2:ByteArray) (x3 x5 x6:Int) (x7:List (C .ay)) (x8 x9 aM aQ:Int) (aZ:List (C .aA)) (aV:ByteArray) (aY:Bool) (aW:Int) (bq:ByteArray) (bC:Int) (bz:Bool) (bD aR bF aX bI bB bt bA bR bZ:Int) (b9:ByteArray) (cQ:Int) (dQ:Bool) (dN:Int) (dZ:List (C .aA)) (fB:List (C .aC)) (fV:List (C .ay)) (fM:Int) (fK:List (C .aA)) (fR:List (C .aC)) (iX:List (C .ay))
def s7_4:O7→St C:=fun (x4,aS)=>{ env:=[(0,.one (.ptr 459136 0)),(5,.one (.ep 100084 [] x1 0)),(6,.one (.str x2)),(7,.one (.int .i64 x3)),(9,.one (.ptr 68878390529360448 0)),(10,.one (.int .i64 x4)),(55,.one (.int .i64 x5)),(56,.one (.int .i64 x6)),(73,.one (.ref 100073 [])),(74,.one (.int .i64 x8)),(75,.one (.int .i64 x9)),(84,.one (.ref 100084 [])),(85,.one (.int .i64 aM)),(86,.one (.int .i64 aS)),(1000,.bQ (false,[.ptr 459136 0]) 16037000),(1003,.bQ (false,[.ptr 68719478374592 0]) 16037003),(2002,.bQ (false,[.ptr 458880 0]) 16002),(2004,.bQ (false,[.ptr 459008 0]) 16004),(2006,.bQ (false,[.ptr 459136 0]) 16006)],ah:=[(100084,.row .aC x0 false),(100073,.row .ay x7 false),(459136,.box .mem [.int .i64 aQ,.ref 46913601 [],.ref 100084 [],.ref 100073 []]),(46913601,.row .aA aZ false),(68878390529360448,.box .mem [.str aV,.bool aY]),(68719478374592,.box .mem [.int .i64 aW,.str bq,.int .i64 bC,.bool bz,.int .i64 bD,.int .i64 aR,.int .i64 bF,.int .i64 aX,.int .i64 bI,.int .i64 bB,.int .i64 bt,.int .i64 bA,.int .i64 bR,.int .i64 bZ,.str b9,.int .i64 cQ,.bool dQ]),(458880,.box .mem [.int .i64 dN,.row .aA dZ,.row .aC fB,.row .ay fV]),(459008,.box .mem [.int .i64 fM,.ref 46900801 [],.ref 46900802 [],.ref 46900803 []]),(46900801,.row .aA fK false),(46900802,.row .aC fR false),(46900803,.row .ay iX false)],base:=16037000 }
end
noncomputable def K7 (x0:List (C .aC)) (x2:ByteArray) (x3 x9 aM:Int) (aV:ByteArray) (n:Nat)  (de:AW→Option (aa×Int)) (gN:Gj→Option (aa×Int)) (zQ:O7→Option (aa×Int)):O7→Option (aa×Int):=fun (x4,aS)=>
 cond (decide (aS<aM))
 (cond (decide (0≤aS)) (cond (decide (aS<(x0.length:Int))) (Option.bind x0[aS.toNat]? fun Po=>cond (Po.State != 1)
 (Option.bind (G84 (decide (Po.bw=aV))) fun eU=>
 zQ ((IntKind.i64.wrap (x4+eU),IntKind.i64.wrap (aS+1))))
 (Option.bind (G84 false) fun wY=>
 zQ ((IntKind.i64.wrap (x4+wY),IntKind.i64.wrap (aS+1))))) none) none)
 (cond (decide (x3<0))
 (gN ((aV,x4,IntKind.i64.wrap (x9+1))))
 (cond (decide (x4<x3))
 (gN ((aV,x4,IntKind.i64.wrap (x9+1))))
 (gN ((x2,x3,IntKind.i64.wrap (x9+1))))))
section
variable (x0:List (C .aC)) (x1:Nat) (x4 x5:Int) (x6:List (C .ay)) (x7 x9:Int) (aM:List (C .aA)) (aS:Int) (aQ:ByteArray) (aZ:Int) (aV:Bool) (aY aW bq bC bz bD aR bF aX bI:Int) (bB:ByteArray) (bt:Int) (bA:Bool) (bR:Int) (bZ:List (C .aA)) (b9:List (C .aC)) (cQ:List (C .ay)) (dQ:Int) (dN:List (C .aA)) (dZ:List (C .aC)) (fB:List (C .ay))
def UP:Gj→St C:=fun (x2,x3,x8)=>{ env:=[(0,.one (.ptr 459136 0)),(5,.one (.ep 46913602 [] x1 0)),(6,.one (.str x2)),(7,.one (.int .i64 x3)),(55,.one (.int .i64 x4)),(56,.one (.int .i64 x5)),(73,.one (.ref 100073 [])),(74,.one (.int .i64 x7)),(75,.one (.int .i64 x8)),(1000,.bQ (false,[.ptr 459136 0]) 16037000),(1003,.bQ (false,[.ptr 68719478374592 0]) 16037003),(2002,.bQ (false,[.ptr 458880 0]) 16002),(2004,.bQ (false,[.ptr 459008 0]) 16004),(2006,.bQ (false,[.ptr 459136 0]) 16006)],ah:=[(46913602,.row .aC x0 false),(100073,.row .ay x6 false),(459136,.box .mem [.int .i64 x9,.ref 46913601 [],.ref 46913602 [],.ref 100073 []]),(46913601,.row .aA aM false),(68719478374592,.box .mem [.int .i64 aS,.str aQ,.int .i64 aZ,.bool aV,.int .i64 aY,.int .i64 aW,.int .i64 bq,.int .i64 bC,.int .i64 bz,.int .i64 bD,.int .i64 aR,.int .i64 bF,.int .i64 aX,.int .i64 bI,.str bB,.int .i64 bt,.bool bA]),(458880,.box .mem [.int .i64 bR,.row .aA bZ,.row .aC b9,.row .ay cQ]),(459008,.box .mem [.int .i64 dQ,.ref 46900801 [],.ref 46900802 [],.ref 46900803 []]),(46900801,.row .aA dN false),(46900802,.row .aC dZ false),(46900803,.row .ay fB false)],base:=16037000 }
end
noncomputable def K8 (x0:List (C .aC)) (x1:Nat) (x5:Int) (x6:List (C .ay)) (x7 x9:Int) (n:Nat)  (de:AW→Option (aa×Int)) (gN:Gj→Option (aa×Int)):Gj→Option (aa×Int):=fun (x2,x3,x8)=>
 cond (decide (x8<x7))
 (cond (decide (0≤x8)) (cond (decide (x8<(x6.length:Int))) (Option.bind x6[x8.toNat]? fun HJ=>cond HJ.kJ
 (gN ((x2,x3,IntKind.i64.wrap (x8+1))))
 (cu (K7 x0 x2 x3 x8 (x0.length:Int) HJ.Name n de gN) n (0,0))) none) none)
 (cond (decide (x3≥0))
 (Option.bind x0[x1]? fun dV=>Option.bind (x0.set x1 (⟨dV.ax,dV.Number,dV.Version,dV.aB,2,dV.Ending,dV.bw⟩:aq))[x1]? fun aK=>Option.bind ((x0.set x1 (⟨dV.ax,dV.Number,dV.Version,dV.aB,2,dV.Ending,dV.bw⟩:aq)).set x1 (⟨aK.ax,aK.Number,x9,aK.aB,aK.State,aK.Ending,aK.bw⟩:aq))[x1]? fun Aw=>de ((IntKind.i64.wrap (x5+1),((x0.set x1 (⟨dV.ax,dV.Number,dV.Version,dV.aB,2,dV.Ending,dV.bw⟩:aq)).set x1 (⟨aK.ax,aK.Number,x9,aK.aB,aK.State,aK.Ending,aK.bw⟩:aq)).set x1 (⟨Aw.ax,Aw.Number,Aw.Version,Aw.aB,Aw.State,Aw.Ending,x2⟩:aq))))
 (de ((IntKind.i64.wrap (x5+1),x0))))
section
variable (x0 x2:Int) (x3:List (C .aA)) (x5:List (C .ay)) (x6:Int) (x7:ByteArray) (x8:Int) (x9:Bool) (aM aS aQ aZ aV aY aW bq bC bz:Int) (bD:ByteArray) (aR:Int) (bF:Bool) (aX:Int) (bI:List (C .aA)) (bB:List (C .aC)) (bt:List (C .ay)) (bA:Int) (bR:List (C .aA)) (bZ:List (C .aC)) (b9:List (C .ay))
def IB:AW→St C:=fun (x1,x4)=>{ env:=[(0,.one (.ptr 459136 0)),(55,.one (.int .i64 x0)),(56,.one (.int .i64 x1)),(1000,.bQ (false,[.ptr 459136 0]) 16037000),(1003,.bQ (false,[.ptr 68719478374592 0]) 16037003),(2002,.bQ (false,[.ptr 458880 0]) 16002),(2004,.bQ (false,[.ptr 459008 0]) 16004),(2006,.bQ (false,[.ptr 459136 0]) 16006)],ah:=[(459136,.box .mem [.int .i64 x2,.ref 46913601 [],.ref 46913602 [],.ref 46913603 []]),(46913601,.row .aA x3 false),(46913602,.row .aC x4 false),(46913603,.row .ay x5 false),(68719478374592,.box .mem [.int .i64 x6,.str x7,.int .i64 x8,.bool x9,.int .i64 aM,.int .i64 aS,.int .i64 aQ,.int .i64 aZ,.int .i64 aV,.int .i64 aY,.int .i64 aW,.int .i64 bq,.int .i64 bC,.int .i64 bz,.str bD,.int .i64 aR,.bool bF]),(458880,.box .mem [.int .i64 aX,.row .aA bI,.row .aC bB,.row .ay bt]),(459008,.box .mem [.int .i64 bA,.ref 46900801 [],.ref 46900802 [],.ref 46900803 []]),(46900801,.row .aA bR false),(46900802,.row .aC bZ false),(46900803,.row .ay b9 false)],base:=16037000 }
end
noncomputable def BJ (x0 x2:Int) (x3:List (C .aA)) (x5:List (C .ay)) (aX:Int) (bI:List (C .aA)) (bB:List (C .aC)) (bt:List (C .ay)) (n:Nat)   (de:AW→Option (aa×Int)):AW→Option (aa×Int):=fun (x1,x4)=>
 cond (decide (x1<x0))
 (cond (decide (0≤x1)) (cond (decide (x1<(x4.length:Int))) (Option.bind x4[x1.toNat]? fun CX=>cond (CX.State != 1)
 (de ((IntKind.i64.wrap (x1+1),x4)))
 (cu (K8 x4 x1.toNat x1 x5 (x5.length:Int) x2 n de) n (((⟨#[]⟩:ByteArray),(-1),0)))) none) none)
 (Option.bind (qj (⟨x2,x3,x4,x5⟩:aa)) fun pA=>
 cond (!pA)
 (cond (2 != 0)
 (Option.bind (iR (⟨aX,bI,bB,bt⟩:aa)) fun fU=>
 some (fU,2))
 (some ((⟨x2,x3,x4,x5⟩:aa),0)))
 (cond (0 != 0)
 (Option.bind (iR (⟨aX,bI,bB,bt⟩:aa)) fun jk=>
 some (jk,0))
 (some ((⟨x2,x3,x4,x5⟩:aa),0))))
section
variable (x0 x2:Int) (x3:List (C .aA)) (x5:List (C .ay)) (x6:Int) (x7:ByteArray) (x8:Int) (x9:Bool) (aM aS aQ aZ aV aY aW bq bC bz:Int) (bD:ByteArray) (aR:Int) (bF:Bool) (aX:Int) (bI:List (C .aA)) (bB:List (C .aC)) (bt:List (C .ay)) (bA:Int) (bR:List (C .aA)) (bZ:List (C .aC)) (b9:List (C .ay))
def UQ:O8→St C:=fun (x1,x4)=>{ env:=[(0,.one (.ptr 459136 0)),(25,.one (.int .i64 x0)),(26,.one (.int .i64 x1)),(1000,.bQ (false,[.ptr 459136 0]) 16037000),(1003,.bQ (false,[.ptr 68719478374592 0]) 16037003),(2002,.bQ (false,[.ptr 458880 0]) 16002),(2004,.bQ (false,[.ptr 459008 0]) 16004),(2006,.bQ (false,[.ptr 459136 0]) 16006)],ah:=[(459136,.box .mem [.int .i64 x2,.ref 46913601 [],.ref 46913602 [],.ref 46913603 []]),(46913601,.row .aA x3 false),(46913602,.row .aC x4 false),(46913603,.row .ay x5 false),(68719478374592,.box .mem [.int .i64 x6,.str x7,.int .i64 x8,.bool x9,.int .i64 aM,.int .i64 aS,.int .i64 aQ,.int .i64 aZ,.int .i64 aV,.int .i64 aY,.int .i64 aW,.int .i64 bq,.int .i64 bC,.int .i64 bz,.str bD,.int .i64 aR,.bool bF]),(458880,.box .mem [.int .i64 aX,.row .aA bI,.row .aC bB,.row .ay bt]),(459008,.box .mem [.int .i64 bA,.ref 46900801 [],.ref 46900802 [],.ref 46900803 []]),(46900801,.row .aA bR false),(46900802,.row .aC bZ false),(46900803,.row .ay b9 false)],base:=16037000 }
end
noncomputable def u0 (x0 x2:Int) (x3:List (C .aA)) (x5:List (C .ay)) (aX:Int) (bI:List (C .aA)) (bB:List (C .aC)) (bt:List (C .ay)) (n:Nat)   (eW:O8→Option (aa×Int)):O8→Option (aa×Int):=fun (x1,x4)=>
 cond (decide (x1<x0))
 (cond (decide (0≤x1)) (cond (decide (x1<(x4.length:Int))) (Option.bind x4[x1.toNat]? fun e8=>cond (e8.State==2)
 (Option.bind x4[x1.toNat]? fun e9=>Option.bind (x4.set x1.toNat (⟨e9.ax,e9.Number,e9.Version,e9.aB,3,e9.Ending,e9.bw⟩:aq))[x1.toNat]? fun tF=>eW ((IntKind.i64.wrap (x1+1),(x4.set x1.toNat (⟨e9.ax,e9.Number,e9.Version,e9.aB,3,e9.Ending,e9.bw⟩:aq)).set x1.toNat (⟨tF.ax,tF.Number,x2,tF.aB,tF.State,tF.Ending,tF.bw⟩:aq))))
 (eW ((IntKind.i64.wrap (x1+1),x4)))) none) none)
 (cu (BJ (x4.length:Int) x2 x3 x5 aX bI bB bt n ) n (0,x4))
section
variable (x3:Int) (x4:List (C .aA)) (x5:List (C .ay)) (x6:Int) (x7:ByteArray) (x8:Int) (x9:Bool) (aM aS aQ aZ aV aY aW bq bC bz:Int) (bD:ByteArray) (aR:Int) (bF:Bool) (aX:Int) (bI:List (C .aA)) (bB:List (C .aC)) (bt:List (C .ay)) (bA:Int) (bR:List (C .aA)) (bZ:List (C .aC)) (b9:List (C .ay))
def UO:O6→St C:=fun (x0,x1,x2)=>{ env:=[(0,.one (.ref 100000 [])),(1,.one (.bP (some 103))),(5,.one (.int .i64 x1)),(6,.one (.int .i64 x2)),(1000,.bQ (false,[.ptr 459136 0]) 16037019000),(1013,.bQ (false,[.ptr 459136 0]) 16037019013),(2000,.bQ (false,[.ptr 459136 0]) 16037000),(2003,.bQ (false,[.ptr 68719478374592 0]) 16037003),(3002,.bQ (false,[.ptr 458880 0]) 16002),(3004,.bQ (false,[.ptr 459008 0]) 16004),(3006,.bQ (false,[.ptr 459136 0]) 16006)],ah:=[(100000,.row .aC x0 false),(459136,.box .mem [.int .i64 x3,.ref 46913601 [],.ref 100000 [],.ref 46913603 []]),(46913601,.row .aA x4 false),(46913603,.row .ay x5 false),(68719478374592,.box .mem [.int .i64 x6,.str x7,.int .i64 x8,.bool x9,.int .i64 aM,.int .i64 aS,.int .i64 aQ,.int .i64 aZ,.int .i64 aV,.int .i64 aY,.int .i64 aW,.int .i64 bq,.int .i64 bC,.int .i64 bz,.str bD,.int .i64 aR,.bool bF]),(458880,.box .mem [.int .i64 aX,.row .aA bI,.row .aC bB,.row .ay bt]),(459008,.box .mem [.int .i64 bA,.ref 46900801 [],.ref 46900802 [],.ref 46900803 []]),(46900801,.row .aA bR false),(46900802,.row .aC bZ false),(46900803,.row .ay b9 false)],base:=16037019000 }
end
noncomputable def IG (x3:Int) (x4:List (C .aA)) (x5:List (C .ay)) (aX:Int) (bI:List (C .aA)) (bB:List (C .aC)) (bt:List (C .ay)) (n:Nat)   (KS:O6→Option (aa×Int)):O6→Option (aa×Int):=fun (x0,x1,x2)=>
 cond (decide (x2<(x0.length:Int)))
 (cond (decide (0≤x2)) (cond (decide (x2<(x0.length:Int))) (Option.bind x0[x2.toNat]? fun WC=>Option.bind (Dt WC) fun ee=>
 cond (!ee)
 (cond (decide (0≤x1)) (cond (decide (x1<(x0.length:Int))) (Option.bind x0[x1.toNat]? fun WB=>KS ((x0.set x1.toNat WC,IntKind.i64.wrap (x1+1),IntKind.i64.wrap (x2+1)))) none) none)
 (KS ((x0,x1,IntKind.i64.wrap (x2+1))))) none) none)
 (cond (decide ((0:Int)≤x1)) (cond (decide ((x1:Int)≤(x0.length:Int))) (cond (decide ((x0.length:Int)≤(x0.length:Int))) (cond (decide ((0:Int)≤x1)) (cond (decide (x1≤((x0.take ((x1:Int).toNat)++List.replicate (((x0.length:Int).toNat)-((x1:Int).toNat)) (⟨⟨#[]⟩,0,0,0,0,false,⟨#[]⟩⟩:C .aC)++x0.drop ((x0.length:Int).toNat)).length:Int))) (cu (u0 ((((x0.take ((x1:Int).toNat)++List.replicate (((x0.length:Int).toNat)-((x1:Int).toNat)) (⟨⟨#[]⟩,0,0,0,0,false,⟨#[]⟩⟩:C .aC)++x0.drop ((x0.length:Int).toNat)).take x1.toNat).length:Int)) x3 x4 x5 aX bI bB bt n ) n ((0,(x0.take ((x1:Int).toNat)++List.replicate (((x0.length:Int).toNat)-((x1:Int).toNat)) (⟨⟨#[]⟩,0,0,0,0,false,⟨#[]⟩⟩:C .aC)++x0.drop ((x0.length:Int).toNat)).take x1.toNat))) none) none) none) none) none)
section
variable (x0:List (C .aC)) (x1 x3:Int) (x4:List (C .aA)) (x5:List (C .ay)) (x6:Int) (x7:ByteArray) (x8:Int) (x9:Bool) (aM aS aQ aZ aV aY aW bq bC bz:Int) (bD:ByteArray) (aR:Int) (bF:Bool) (aX:Int) (bI:List (C .aA)) (bB:List (C .aC)) (bt:List (C .ay)) (bA:Int) (bR:List (C .aA)) (bZ:List (C .aC)) (b9:List (C .ay))
def aaf:O9→St C:=fun x2=>{ env:=[(0,.one (.ref 100000 [])),(1,.one (.bP (some 103))),(7,.one (.int .i64 x1)),(8,.one (.int .i64 x2)),(1000,.bQ (false,[.ref 100000 []]) 16037019011000),(1001,.bQ (false,[.bP (some 103)]) 16037019011001),(2000,.bQ (false,[.ptr 459136 0]) 16037019000),(2013,.bQ (false,[.ptr 459136 0]) 16037019013),(3000,.bQ (false,[.ptr 459136 0]) 16037000),(3003,.bQ (false,[.ptr 68719478374592 0]) 16037003),(4002,.bQ (false,[.ptr 458880 0]) 16002),(4004,.bQ (false,[.ptr 459008 0]) 16004),(4006,.bQ (false,[.ptr 459136 0]) 16006)],ah:=[(100000,.row .aC x0 false),(459136,.box .mem [.int .i64 x3,.ref 46913601 [],.ref 100000 [],.ref 46913603 []]),(46913601,.row .aA x4 false),(46913603,.row .ay x5 false),(68719478374592,.box .mem [.int .i64 x6,.str x7,.int .i64 x8,.bool x9,.int .i64 aM,.int .i64 aS,.int .i64 aQ,.int .i64 aZ,.int .i64 aV,.int .i64 aY,.int .i64 aW,.int .i64 bq,.int .i64 bC,.int .i64 bz,.str bD,.int .i64 aR,.bool bF]),(458880,.box .mem [.int .i64 aX,.row .aA bI,.row .aC bB,.row .ay bt]),(459008,.box .mem [.int .i64 bA,.ref 46900801 [],.ref 46900802 [],.ref 46900803 []]),(46900801,.row .aA bR false),(46900802,.row .aC bZ false),(46900803,.row .ay b9 false)],base:=16037019011000 }
end
noncomputable def II (x0:List (C .aC)) (x1 x3:Int) (x4:List (C .aA)) (x5:List (C .ay)) (aX:Int) (bI:List (C .aA)) (bB:List (C .aC)) (bt:List (C .ay)) (n:Nat)   (bu:O9→Option (aa×Int)):O9→Option (aa×Int):=fun x2=>
 cond (decide (x2<x1))
 (cond (decide (0≤x2)) (cond (decide (x2<(x0.length:Int))) (Option.bind x0[x2.toNat]? fun e6=>Option.bind (Dt e6) fun r7=>
 cond r7
 (cond (x2==(-1))
 (cu (u0 (x0.length:Int) x3 x4 x5 aX bI bB bt n ) n (0,x0))
 (cu (IG x3 x4 x5 aX bI bB bt n ) n ((x0,x2,IntKind.i64.wrap (x2+1)))))
 (bu (IntKind.i64.wrap (x2+1)))) none) none)
 (cond ((-1)==(-1))
 (cu (u0 (x0.length:Int) x3 x4 x5 aX bI bB bt n ) n (0,x0))
 (cu (IG x3 x4 x5 aX bI bB bt n ) n ((x0,(-1),IntKind.i64.wrap ((-1)+1)))))
section
variable (x0:ByteArray) (x1:Int) (x3:List (C .aA)) (x4:Nat) (x5 x6:ByteArray) (x7:Int) (x8:Bool) (x9 aM aS aQ aZ aV aY aW bq bC bz:Int) (bD:List (C .aC)) (aR:List (C .ay)) (bF:Int) (aX:ByteArray) (bI:Int) (bB:Bool) (bt bA bR bZ b9 cQ dQ dN dZ fB:Int) (fV:ByteArray) (fM:Int) (fK:Bool) (fR:ByteArray) (iX:Int) (kC:Bool) (kz mh rD zv zu PD PC PB PA Pz Bh:Int) (Bg:List (C .aA)) (Bf:List (C .aC)) (Be:List (C .ay)) (Py:Int) (Px:List (C .aA)) (Pw:List (C .aC)) (Pv:List (C .ay))
def s7_7:O4→St C:=fun x2=>{ env:=[(0,.one (.ptr 459136 0)),(1,.one (.str x0)),(10,.one (.int .i64 x1)),(11,.one (.int .i64 x2)),(1000,.bQ (false,[.ptr 459136 0]) 16089000),(1003,.bQ (false,[.ptr 68719478374592 0]) 16089003),(1005,.bQ (false,[.ptr 68719478374720 0]) 16089005),(1006,.bQ (false,[.ep 46913601 [] x4 0]) 16089006),(1085,.bQ (false,[.ptr 459136 0]) 16089085),(1086,.bQ (false,[.ptr 68719478374720 0]) 16089086),(1087,.bQ (false,[.str x5]) 16089087),(1089,.bQ (true,[.str x6,.int .i64 x7,.bool x8,.int .i64 x9,.int .i64 aM,.int .i64 aS,.int .i64 aQ,.int .i64 aZ,.int .i64 aV,.int .i64 aY,.int .i64 aW,.int .i64 bq,.int .i64 bC]) 16089089),(2002,.bQ (false,[.ptr 458880 0]) 16002),(2004,.bQ (false,[.ptr 459008 0]) 16004),(2006,.bQ (false,[.ptr 459136 0]) 16006)],ah:=[(46913601,.row .aA x3 false),(459136,.box .mem [.int .i64 bz,.ref 46913601 [],.ref 46913602 [],.ref 46913603 []]),(46913602,.row .aC bD false),(46913603,.row .ay aR false),(68719478374592,.box .mem [.int .i64 bF,.str aX,.int .i64 bI,.bool bB,.int .i64 bt,.int .i64 bA,.int .i64 bR,.int .i64 bZ,.int .i64 b9,.int .i64 cQ,.int .i64 dQ,.int .i64 dN,.int .i64 dZ,.int .i64 fB,.str fV,.int .i64 fM,.bool fK]),(68719478374720,.box .mem [.str fR,.int .i64 iX,.bool kC,.int .i64 kz,.int .i64 mh,.int .i64 rD,.int .i64 zv,.int .i64 zu,.int .i64 PD,.int .i64 PC,.int .i64 PB,.int .i64 PA,.int .i64 Pz]),(458880,.box .mem [.int .i64 Bh,.row .aA Bg,.row .aC Bf,.row .ay Be]),(459008,.box .mem [.int .i64 Py,.ref 46900801 [],.ref 46900802 [],.ref 46900803 []]),(46900801,.row .aA Px false),(46900802,.row .aC Pw false),(46900803,.row .ay Pv false)],base:=16089000 }
end
noncomputable def K6 (x0:ByteArray) (x1:Int) (x3:List (C .aA)) (x6:ByteArray) (x7:Int) (x8:Bool) (x9 aM aS aQ aZ aV aY aW bq bC bz:Int) (bD:List (C .aC)) (aR:List (C .ay)) (Bh:Int) (Bg:List (C .aA)) (Bf:List (C .aC)) (Be:List (C .ay)) (n:Nat)   (aaD:O4→Option (aa×Int)):O4→Option (aa×Int):=fun x2=>
 cond (decide (x2<x1))
 (cond (decide (0≤x2)) (cond (decide (x2<(x3.length:Int))) (Option.bind x3[x2.toNat]? fun dv=>cond (decide (dv.Name=x0))
 (cond (decide (0≤x2)) (cond (decide (x2<(x3.length:Int))) (Option.bind x3[x2.toNat]? fun e28=>Option.bind (qj ((⟨bz,x3.set x2.toNat (⟨x6,x7,x8,x9,aM,aS,aQ,aZ,aV,aY,aW,bq,bC⟩:af),bD,aR⟩:aa))) fun P8=>
 cond (!P8)
 (cond (2 != 0)
 (Option.bind (iR (⟨Bh,Bg,Bf,Be⟩:aa)) fun P7=>
 some (P7,2))
 (some ((⟨bz,x3.set x2.toNat (⟨x6,x7,x8,x9,aM,aS,aQ,aZ,aV,aY,aW,bq,bC⟩:af),bD,aR⟩:aa),0)))
 (cond (0 != 0)
 (Option.bind (iR (⟨Bh,Bg,Bf,Be⟩:aa)) fun xb=>
 some (xb,0))
 (some ((⟨bz,x3.set x2.toNat (⟨x6,x7,x8,x9,aM,aS,aQ,aZ,aV,aY,aW,bq,bC⟩:af),bD,aR⟩:aa),0)))) none) none)
 (aaD (IntKind.i64.wrap (x2+1)))) none) none)
 (none)
section
variable (x0:ByteArray) (x1:Int) (x3:List (C .aA)) (x4:Nat) (x5:ByteArray) (x6:Int) (x7:List (C .aC)) (x8:List (C .ay)) (x9:Int) (aM:ByteArray) (aS:Int) (aQ:Bool) (aZ aV aY aW bq bC bz bD aR bF:Int) (aX:ByteArray) (bI:Int) (bB:Bool) (bt:ByteArray) (bA:Int) (bR:Bool) (bZ b9 cQ dQ dN dZ fB fV fM fK fR:Int) (iX:List (C .aA)) (kC:List (C .aC)) (kz:List (C .ay)) (mh:Int) (rD:List (C .aA)) (zv:List (C .aC)) (zu:List (C .ay))
def s7_8:O2→St C:=fun x2=>{ env:=[(0,.one (.ptr 459136 0)),(1,.one (.str x0)),(10,.one (.int .i64 x1)),(11,.one (.int .i64 x2)),(1000,.bQ (false,[.ptr 459136 0]) 16089000),(1003,.bQ (false,[.ptr 68719478374592 0]) 16089003),(1005,.bQ (false,[.ptr 68719478374720 0]) 16089005),(1006,.bQ (false,[.ep 46913601 [] x4 0]) 16089006),(1085,.bQ (false,[.ptr 459136 0]) 16089085),(1086,.bQ (false,[.ptr 68719478374720 0]) 16089086),(1087,.bQ (false,[.str x5]) 16089087),(2002,.bQ (false,[.ptr 458880 0]) 16002),(2004,.bQ (false,[.ptr 459008 0]) 16004),(2006,.bQ (false,[.ptr 459136 0]) 16006)],ah:=[(46913601,.row .aA x3 false),(459136,.box .mem [.int .i64 x6,.ref 46913601 [],.ref 46913602 [],.ref 46913603 []]),(46913602,.row .aC x7 false),(46913603,.row .ay x8 false),(68719478374592,.box .mem [.int .i64 x9,.str aM,.int .i64 aS,.bool aQ,.int .i64 aZ,.int .i64 aV,.int .i64 aY,.int .i64 aW,.int .i64 bq,.int .i64 bC,.int .i64 bz,.int .i64 bD,.int .i64 aR,.int .i64 bF,.str aX,.int .i64 bI,.bool bB]),(68719478374720,.box .mem [.str bt,.int .i64 bA,.bool bR,.int .i64 bZ,.int .i64 b9,.int .i64 cQ,.int .i64 dQ,.int .i64 dN,.int .i64 dZ,.int .i64 fB,.int .i64 fV,.int .i64 fM,.int .i64 fK]),(458880,.box .mem [.int .i64 fR,.row .aA iX,.row .aC kC,.row .ay kz]),(459008,.box .mem [.int .i64 mh,.ref 46900801 [],.ref 46900802 [],.ref 46900803 []]),(46900801,.row .aA rD false),(46900802,.row .aC zv false),(46900803,.row .ay zu false)],base:=16089000 }
end
noncomputable def K5 (x0:ByteArray) (x1:Int) (x3:List (C .aA)) (x6:Int) (x7:List (C .aC)) (x8:List (C .ay)) (bt:ByteArray) (bA:Int) (bR:Bool) (bZ b9 cQ dQ dN dZ fB fV fM fK fR:Int) (iX:List (C .aA)) (kC:List (C .aC)) (kz:List (C .ay)) (n:Nat)   (aaC:O2→Option (aa×Int)):O2→Option (aa×Int):=fun x2=>
 cond (decide (x2<x1))
 (cond (decide (0≤x2)) (cond (decide (x2<(x3.length:Int))) (Option.bind x3[x2.toNat]? fun e32=>cond (decide (e32.Name=x0))
 (cond (decide (0≤x2)) (cond (decide (x2<(x3.length:Int))) (Option.bind x3[x2.toNat]? fun tE=>Option.bind (qj ((⟨x6,x3.set x2.toNat (⟨bt,bA,bR,bZ,b9,cQ,dQ,dN,dZ,fB,fV,fM,fK⟩:af),x7,x8⟩:aa))) fun IQ=>
 cond (!IQ)
 (cond (2 != 0)
 (Option.bind (iR (⟨fR,iX,kC,kz⟩:aa)) fun r35=>
 some (r35,2))
 (some ((⟨x6,x3.set x2.toNat (⟨bt,bA,bR,bZ,b9,cQ,dQ,dN,dZ,fB,fV,fM,fK⟩:af),x7,x8⟩:aa),0)))
 (cond (0 != 0)
 (Option.bind (iR (⟨fR,iX,kC,kz⟩:aa)) fun r36=>
 some (r36,0))
 (some ((⟨x6,x3.set x2.toNat (⟨bt,bA,bR,bZ,b9,cQ,dQ,dN,dZ,fB,fV,fM,fK⟩:af),x7,x8⟩:aa),0)))) none) none)
 (aaC (IntKind.i64.wrap (x2+1)))) none) none)
 (none)
section
variable (x0:ByteArray) (x1 x3:Int) (x4 x5:ByteArray) (x6:Int) (x7:Bool) (x8 x9 aM aS aQ aZ aV aY aW bq bC:Int) (bz:List (C .aA)) (bD:List (C .aC)) (aR:List (C .ay)) (bF:Int) (aX:ByteArray) (bI:Int) (bB:Bool) (bt bA bR bZ b9 cQ dQ dN dZ fB:Int) (fV:ByteArray) (fM:Int) (fK:Bool) (fR:ByteArray) (iX:Int) (kC:Bool) (kz mh rD zv zu PD PC PB PA Pz Bh:Int) (Bg:List (C .aA)) (Bf:List (C .aC)) (Be:List (C .ay)) (Py:Int) (Px:List (C .aA)) (Pw:List (C .aC)) (Pv:List (C .ay))
def aae:DT→St C:=fun x2=>{ env:=[(0,.one (.ptr 459136 0)),(1,.one (.str x0)),(10,.one (.int .i64 x1)),(11,.one (.int .i64 x2)),(1000,.bQ (false,[.ptr 459136 0]) 16089000),(1003,.bQ (false,[.ptr 68719478374592 0]) 16089003),(1005,.bQ (false,[.ptr 68719478374720 0]) 16089005),(1006,.bQ (false,[.pP]) 16089006),(1007,.bQ (false,[.int .i64 x3]) 16089007),(1085,.bQ (false,[.ptr 459136 0]) 16089085),(1086,.bQ (false,[.ptr 68719478374720 0]) 16089086),(1087,.bQ (false,[.str x4]) 16089087),(1089,.bQ (true,[.str x5,.int .i64 x6,.bool x7,.int .i64 x8,.int .i64 x9,.int .i64 aM,.int .i64 aS,.int .i64 aQ,.int .i64 aZ,.int .i64 aV,.int .i64 aY,.int .i64 aW,.int .i64 bq]) 16089089),(2002,.bQ (false,[.ptr 458880 0]) 16002),(2004,.bQ (false,[.ptr 459008 0]) 16004),(2006,.bQ (false,[.ptr 459136 0]) 16006)],ah:=[(459136,.box .mem [.int .i64 bC,.ref 46913601 [],.ref 46913602 [],.ref 46913603 []]),(46913601,.row .aA bz false),(46913602,.row .aC bD false),(46913603,.row .ay aR false),(68719478374592,.box .mem [.int .i64 bF,.str aX,.int .i64 bI,.bool bB,.int .i64 bt,.int .i64 bA,.int .i64 bR,.int .i64 bZ,.int .i64 b9,.int .i64 cQ,.int .i64 dQ,.int .i64 dN,.int .i64 dZ,.int .i64 fB,.str fV,.int .i64 fM,.bool fK]),(68719478374720,.box .mem [.str fR,.int .i64 iX,.bool kC,.int .i64 kz,.int .i64 mh,.int .i64 rD,.int .i64 zv,.int .i64 zu,.int .i64 PD,.int .i64 PC,.int .i64 PB,.int .i64 PA,.int .i64 Pz]),(458880,.box .mem [.int .i64 Bh,.row .aA Bg,.row .aC Bf,.row .ay Be]),(459008,.box .mem [.int .i64 Py,.ref 46900801 [],.ref 46900802 [],.ref 46900803 []]),(46900801,.row .aA Px false),(46900802,.row .aC Pw false),(46900803,.row .ay Pv false)],base:=16089000 }
end
noncomputable def qH (x0:ByteArray) (x1:Int) (x5:ByteArray) (x6:Int) (x7:Bool) (x8 x9 aM aS aQ aZ aV aY aW bq bC:Int) (bz:List (C .aA)) (bD:List (C .aC)) (aR:List (C .ay)) (Bh:Int) (Bg:List (C .aA)) (Bf:List (C .aC)) (Be:List (C .ay)) (n:Nat)   (Sw:DT→Option (aa×Int)):DT→Option (aa×Int):=fun x2=>
 cond (decide (x2<x1))
 (cond (decide (0≤x2)) (cond (decide (x2<(bz.length:Int))) (Option.bind bz[x2.toNat]? fun sJ=>cond (decide (sJ.Name=x0))
 (cond (decide (0≤x2)) (cond (decide (x2<(bz.length:Int))) (Option.bind bz[x2.toNat]? fun e40=>Option.bind (qj ((⟨bC,bz.set x2.toNat (⟨x5,x6,x7,x8,x9,aM,aS,aQ,aZ,aV,aY,aW,bq⟩:af),bD,aR⟩:aa))) fun r41=>
 cond (!r41)
 (cond (2 != 0)
 (Option.bind (iR (⟨Bh,Bg,Bf,Be⟩:aa)) fun r42=>
 some (r42,2))
 (some ((⟨bC,bz.set x2.toNat (⟨x5,x6,x7,x8,x9,aM,aS,aQ,aZ,aV,aY,aW,bq⟩:af),bD,aR⟩:aa),0)))
 (cond (0 != 0)
 (Option.bind (iR (⟨Bh,Bg,Bf,Be⟩:aa)) fun r43=>
 some (r43,0))
 (some ((⟨bC,bz.set x2.toNat (⟨x5,x6,x7,x8,x9,aM,aS,aQ,aZ,aV,aY,aW,bq⟩:af),bD,aR⟩:aa),0)))) none) none)
 (Sw (IntKind.i64.wrap (x2+1)))) none) none)
 (none)
section
variable (x0:ByteArray) (x1 x3:Int) (x4:ByteArray) (x5:Int) (x6:List (C .aA)) (x7:List (C .aC)) (x8:List (C .ay)) (x9:Int) (aM:ByteArray) (aS:Int) (aQ:Bool) (aZ aV aY aW bq bC bz bD aR bF:Int) (aX:ByteArray) (bI:Int) (bB:Bool) (bt:ByteArray) (bA:Int) (bR:Bool) (bZ b9 cQ dQ dN dZ fB fV fM fK fR:Int) (iX:List (C .aA)) (kC:List (C .aC)) (kz:List (C .ay)) (mh:Int) (rD:List (C .aA)) (zv:List (C .aC)) (zu:List (C .ay))
def aad:DS→St C:=fun x2=>{ env:=[(0,.one (.ptr 459136 0)),(1,.one (.str x0)),(10,.one (.int .i64 x1)),(11,.one (.int .i64 x2)),(1000,.bQ (false,[.ptr 459136 0]) 16089000),(1003,.bQ (false,[.ptr 68719478374592 0]) 16089003),(1005,.bQ (false,[.ptr 68719478374720 0]) 16089005),(1006,.bQ (false,[.pP]) 16089006),(1007,.bQ (false,[.int .i64 x3]) 16089007),(1085,.bQ (false,[.ptr 459136 0]) 16089085),(1086,.bQ (false,[.ptr 68719478374720 0]) 16089086),(1087,.bQ (false,[.str x4]) 16089087),(2002,.bQ (false,[.ptr 458880 0]) 16002),(2004,.bQ (false,[.ptr 459008 0]) 16004),(2006,.bQ (false,[.ptr 459136 0]) 16006)],ah:=[(459136,.box .mem [.int .i64 x5,.ref 46913601 [],.ref 46913602 [],.ref 46913603 []]),(46913601,.row .aA x6 false),(46913602,.row .aC x7 false),(46913603,.row .ay x8 false),(68719478374592,.box .mem [.int .i64 x9,.str aM,.int .i64 aS,.bool aQ,.int .i64 aZ,.int .i64 aV,.int .i64 aY,.int .i64 aW,.int .i64 bq,.int .i64 bC,.int .i64 bz,.int .i64 bD,.int .i64 aR,.int .i64 bF,.str aX,.int .i64 bI,.bool bB]),(68719478374720,.box .mem [.str bt,.int .i64 bA,.bool bR,.int .i64 bZ,.int .i64 b9,.int .i64 cQ,.int .i64 dQ,.int .i64 dN,.int .i64 dZ,.int .i64 fB,.int .i64 fV,.int .i64 fM,.int .i64 fK]),(458880,.box .mem [.int .i64 fR,.row .aA iX,.row .aC kC,.row .ay kz]),(459008,.box .mem [.int .i64 mh,.ref 46900801 [],.ref 46900802 [],.ref 46900803 []]),(46900801,.row .aA rD false),(46900802,.row .aC zv false),(46900803,.row .ay zu false)],base:=16089000 }
end
noncomputable def qG (x0:ByteArray) (x1 x5:Int) (x6:List (C .aA)) (x7:List (C .aC)) (x8:List (C .ay)) (bt:ByteArray) (bA:Int) (bR:Bool) (bZ b9 cQ dQ dN dZ fB fV fM fK fR:Int) (iX:List (C .aA)) (kC:List (C .aC)) (kz:List (C .ay)) (n:Nat)   (Sv:DS→Option (aa×Int)):DS→Option (aa×Int):=fun x2=>
 cond (decide (x2<x1))
 (cond (decide (0≤x2)) (cond (decide (x2<(x6.length:Int))) (Option.bind x6[x2.toNat]? fun e44=>cond (decide (e44.Name=x0))
 (cond (decide (0≤x2)) (cond (decide (x2<(x6.length:Int))) (Option.bind x6[x2.toNat]? fun e45=>Option.bind (qj ((⟨x5,x6.set x2.toNat (⟨bt,bA,bR,bZ,b9,cQ,dQ,dN,dZ,fB,fV,fM,fK⟩:af),x7,x8⟩:aa))) fun r46=>
 cond (!r46)
 (cond (2 != 0)
 (Option.bind (iR (⟨fR,iX,kC,kz⟩:aa)) fun IP=>
 some (IP,2))
 (some ((⟨x5,x6.set x2.toNat (⟨bt,bA,bR,bZ,b9,cQ,dQ,dN,dZ,fB,fV,fM,fK⟩:af),x7,x8⟩:aa),0)))
 (cond (0 != 0)
 (Option.bind (iR (⟨fR,iX,kC,kz⟩:aa)) fun r48=>
 some (r48,0))
 (some ((⟨x5,x6.set x2.toNat (⟨bt,bA,bR,bZ,b9,cQ,dQ,dN,dZ,fB,fV,fM,fK⟩:af),x7,x8⟩:aa),0)))) none) none)
 (Sv (IntKind.i64.wrap (x2+1)))) none) none)
 (none)
section
variable (x0:List (C .aA)) (x1 x3:Int) (x4:List (C .aC)) (x5:List (C .ay)) (x6:Int) (x7:ByteArray) (x8:Int) (x9:Bool) (aM aS aQ aZ aV aY aW bq bC bz:Int) (bD:ByteArray) (aR:Int) (bF:Bool) (aX:ByteArray) (bI:Int) (bB:Bool) (bt bA bR bZ b9 cQ dQ dN dZ fB fV:Int) (fM:List (C .aA)) (fK:List (C .aC)) (fR:List (C .ay)) (iX:Int) (kC:List (C .aA)) (kz:List (C .aC)) (mh:List (C .ay))
def ZY:O0→St C:=fun x2=>{ env:=[(0,.one (.ref 100000 [])),(1,.one (.vo 68719478378048)),(7,.one (.int .i64 x1)),(8,.one (.int .i64 x2)),(1000,.bQ (false,[.ptr 459136 0]) 16059000),(1003,.bQ (false,[.ptr 68719478374592 0]) 16059003),(1005,.bQ (false,[.ptr 68719478374720 0]) 16059005),(1006,.bQ (false,[.pP]) 16059006),(2002,.bQ (false,[.ptr 458880 0]) 16002),(2004,.bQ (false,[.ptr 459008 0]) 16004),(2006,.bQ (false,[.ptr 459136 0]) 16006)],ah:=[(100000,.row .aA x0 false),(68719478378048,.box (.sM 54 0 [(false,1)]) [.ptr 68719478374720 0]),(459136,.box .mem [.int .i64 x3,.ref 100000 [],.ref 46913602 [],.ref 46913603 []]),(46913602,.row .aC x4 false),(46913603,.row .ay x5 false),(68719478374592,.box .mem [.int .i64 x6,.str x7,.int .i64 x8,.bool x9,.int .i64 aM,.int .i64 aS,.int .i64 aQ,.int .i64 aZ,.int .i64 aV,.int .i64 aY,.int .i64 aW,.int .i64 bq,.int .i64 bC,.int .i64 bz,.str bD,.int .i64 aR,.bool bF]),(68719478374720,.box .mem [.str aX,.int .i64 bI,.bool bB,.int .i64 bt,.int .i64 bA,.int .i64 bR,.int .i64 bZ,.int .i64 b9,.int .i64 cQ,.int .i64 dQ,.int .i64 dN,.int .i64 dZ,.int .i64 fB]),(458880,.box .mem [.int .i64 fV,.row .aA fM,.row .aC fK,.row .ay fR]),(459008,.box .mem [.int .i64 iX,.ref 46900801 [],.ref 46900802 [],.ref 46900803 []]),(46900801,.row .aA kC false),(46900802,.row .aC kz false),(46900803,.row .ay mh false)],base:=16059000 }
end
noncomputable def IE (x0:List (C .aA)) (x1 x3:Int) (x4:List (C .aC)) (x5:List (C .ay)) (aX:ByteArray) (bI:Int) (bB:Bool) (bt bA bR bZ b9 cQ dQ dN dZ fB fV:Int) (fM:List (C .aA)) (fK:List (C .aC)) (fR:List (C .ay)) (n:Nat)   (U1:O0→Option (aa×Int)):O0→Option (aa×Int):=fun x2=>
 cond (decide (x2<x1))
 (cond (decide (0≤x2)) (cond (decide (x2<(x0.length:Int))) (Option.bind x0[x2.toNat]? fun e37=>Option.bind (G54 e37 (⟨aX,bI,bB,bt,bA,bR,bZ,b9,cQ,dQ,dN,dZ,fB⟩:af)) fun r38=>
 cond r38
 (cond (decide (x2<0))
 (cond (Nat.beq (([(⟨aX,0,false,0,0,0,0,0,0,0,0,0,0⟩:af)]:List (C .aA))).length 1&&decide (0≤(x0.length:Int))) (cond (decide ((x0.length:Int)≤(x0.length:Int))) (cond (decide ((x0.length+(([(⟨aX,0,false,0,0,0,0,0,0,0,0,0,0⟩:af)]:List (C .aA))).length)*112≤140737488355328)) (alt (cu (qH aX (((x0.take (x0.length:Int).toNat++(([(⟨aX,0,false,0,0,0,0,0,0,0,0,0,0⟩:af)]:List (C .aA)))++x0.drop (x0.length:Int).toNat).length:Int)) aX x3 bB bt bA bR bZ b9 cQ dQ dN dZ 0 x3 (x0.take (x0.length:Int).toNat++(([(⟨aX,0,false,0,0,0,0,0,0,0,0,0,0⟩:af)]:List (C .aA)))++x0.drop (x0.length:Int).toNat) x4 x5 fV fM fK fR n ) n 0)
 (cu (qG aX (((x0.take (x0.length:Int).toNat++(([(⟨aX,0,false,0,0,0,0,0,0,0,0,0,0⟩:af)]:List (C .aA)))++x0.drop (x0.length:Int).toNat).length:Int)) x3 (x0.take (x0.length:Int).toNat++(([(⟨aX,0,false,0,0,0,0,0,0,0,0,0,0⟩:af)]:List (C .aA)))++x0.drop (x0.length:Int).toNat) x4 x5 aX x3 bB bt bA bR bZ b9 cQ dQ dN dZ 0 fV fM fK fR n ) n 0)) none) none) none)
 (cond (Nat.beq (([(⟨aX,0,false,0,0,0,0,0,0,0,0,0,0⟩:af)]:List (C .aA))).length 1&&decide (0≤x2)) (cond (decide (x2≤(x0.length:Int))) (cond (decide ((x0.length+(([(⟨aX,0,false,0,0,0,0,0,0,0,0,0,0⟩:af)]:List (C .aA))).length)*112≤140737488355328)) (alt (cu (qH aX (((x0.take x2.toNat++(([(⟨aX,0,false,0,0,0,0,0,0,0,0,0,0⟩:af)]:List (C .aA)))++x0.drop x2.toNat).length:Int)) aX x3 bB bt bA bR bZ b9 cQ dQ dN dZ 0 x3 (x0.take x2.toNat++(([(⟨aX,0,false,0,0,0,0,0,0,0,0,0,0⟩:af)]:List (C .aA)))++x0.drop x2.toNat) x4 x5 fV fM fK fR n ) n 0)
 (cu (qG aX (((x0.take x2.toNat++(([(⟨aX,0,false,0,0,0,0,0,0,0,0,0,0⟩:af)]:List (C .aA)))++x0.drop x2.toNat).length:Int)) x3 (x0.take x2.toNat++(([(⟨aX,0,false,0,0,0,0,0,0,0,0,0,0⟩:af)]:List (C .aA)))++x0.drop x2.toNat) x4 x5 aX x3 bB bt bA bR bZ b9 cQ dQ dN dZ 0 fV fM fK fR n ) n 0)) none) none) none))
 (U1 (IntKind.i64.wrap (x2+1)))) none) none)
 (cond (decide ((-1)<0))
 (cond (Nat.beq (([(⟨aX,0,false,0,0,0,0,0,0,0,0,0,0⟩:af)]:List (C .aA))).length 1&&decide (0≤(x0.length:Int))) (cond (decide ((x0.length:Int)≤(x0.length:Int))) (cond (decide ((x0.length+(([(⟨aX,0,false,0,0,0,0,0,0,0,0,0,0⟩:af)]:List (C .aA))).length)*112≤140737488355328)) (alt (cu (qH aX (((x0.take (x0.length:Int).toNat++(([(⟨aX,0,false,0,0,0,0,0,0,0,0,0,0⟩:af)]:List (C .aA)))++x0.drop (x0.length:Int).toNat).length:Int)) aX x3 bB bt bA bR bZ b9 cQ dQ dN dZ 0 x3 (x0.take (x0.length:Int).toNat++(([(⟨aX,0,false,0,0,0,0,0,0,0,0,0,0⟩:af)]:List (C .aA)))++x0.drop (x0.length:Int).toNat) x4 x5 fV fM fK fR n ) n 0)
 (cu (qG aX (((x0.take (x0.length:Int).toNat++(([(⟨aX,0,false,0,0,0,0,0,0,0,0,0,0⟩:af)]:List (C .aA)))++x0.drop (x0.length:Int).toNat).length:Int)) x3 (x0.take (x0.length:Int).toNat++(([(⟨aX,0,false,0,0,0,0,0,0,0,0,0,0⟩:af)]:List (C .aA)))++x0.drop (x0.length:Int).toNat) x4 x5 aX x3 bB bt bA bR bZ b9 cQ dQ dN dZ 0 fV fM fK fR n ) n 0)) none) none) none)
 (cond (Nat.beq (([(⟨aX,0,false,0,0,0,0,0,0,0,0,0,0⟩:af)]:List (C .aA))).length 1&&decide (0≤(-1))) (cond (decide ((-1)≤(x0.length:Int))) (cond (decide ((x0.length+(([(⟨aX,0,false,0,0,0,0,0,0,0,0,0,0⟩:af)]:List (C .aA))).length)*112≤140737488355328)) (alt (cu (qH aX (((x0.take (-1).toNat++(([(⟨aX,0,false,0,0,0,0,0,0,0,0,0,0⟩:af)]:List (C .aA)))++x0.drop (-1).toNat).length:Int)) aX x3 bB bt bA bR bZ b9 cQ dQ dN dZ 0 x3 (x0.take (-1).toNat++(([(⟨aX,0,false,0,0,0,0,0,0,0,0,0,0⟩:af)]:List (C .aA)))++x0.drop (-1).toNat) x4 x5 fV fM fK fR n ) n 0)
 (cu (qG aX (((x0.take (-1).toNat++(([(⟨aX,0,false,0,0,0,0,0,0,0,0,0,0⟩:af)]:List (C .aA)))++x0.drop (-1).toNat).length:Int)) x3 (x0.take (-1).toNat++(([(⟨aX,0,false,0,0,0,0,0,0,0,0,0,0⟩:af)]:List (C .aA)))++x0.drop (-1).toNat) x4 x5 aX x3 bB bt bA bR bZ b9 cQ dQ dN dZ 0 fV fM fK fR n ) n 0)) none) none) none))
section
variable (x0:ByteArray) (x1 x3:Int) (x4:List (C .aA)) (x5:List (C .aC)) (x6:List (C .ay)) (x7:Int) (x8:ByteArray) (x9:Int) (aM:Bool) (aS aQ aZ aV aY aW bq bC bz bD:Int) (aR:ByteArray) (bF:Int) (aX:Bool) (bI:ByteArray) (bB:Int) (bt:Bool) (bA bR bZ b9 cQ dQ dN dZ fB fV fM:Int) (fK:List (C .aA)) (fR:List (C .aC)) (iX:List (C .ay)) (kC:Int) (kz:List (C .aA)) (mh:List (C .aC)) (rD:List (C .ay))
def ZZ:O5→St C:=fun x2=>{ env:=[(0,.one (.ptr 459136 0)),(1,.one (.str x0)),(10,.one (.int .i64 x1)),(11,.one (.int .i64 x2)),(1000,.bQ (false,[.ptr 459136 0]) 16045000),(1003,.bQ (false,[.ptr 68719478374592 0]) 16045003),(1005,.bQ (false,[.ptr 68719478374720 0]) 16045005),(2002,.bQ (false,[.ptr 458880 0]) 16002),(2004,.bQ (false,[.ptr 459008 0]) 16004),(2006,.bQ (false,[.ptr 459136 0]) 16006)],ah:=[(459136,.box .mem [.int .i64 x3,.ref 46913601 [],.ref 46913602 [],.ref 46913603 []]),(46913601,.row .aA x4 false),(46913602,.row .aC x5 false),(46913603,.row .ay x6 false),(68719478374592,.box .mem [.int .i64 x7,.str x8,.int .i64 x9,.bool aM,.int .i64 aS,.int .i64 aQ,.int .i64 aZ,.int .i64 aV,.int .i64 aY,.int .i64 aW,.int .i64 bq,.int .i64 bC,.int .i64 bz,.int .i64 bD,.str aR,.int .i64 bF,.bool aX]),(68719478374720,.box .mem [.str bI,.int .i64 bB,.bool bt,.int .i64 bA,.int .i64 bR,.int .i64 bZ,.int .i64 b9,.int .i64 cQ,.int .i64 dQ,.int .i64 dN,.int .i64 dZ,.int .i64 fB,.int .i64 fV]),(458880,.box .mem [.int .i64 fM,.row .aA fK,.row .aC fR,.row .ay iX]),(459008,.box .mem [.int .i64 kC,.ref 46900801 [],.ref 46900802 [],.ref 46900803 []]),(46900801,.row .aA kz false),(46900802,.row .aC mh false),(46900803,.row .ay rD false)],base:=16045000 }
end
noncomputable def IF (x0:ByteArray) (x1 x3:Int) (x4:List (C .aA)) (x5:List (C .aC)) (x6:List (C .ay)) (bI:ByteArray) (bB:Int) (bt:Bool) (bA bR bZ b9 dQ dN dZ fB fV fM:Int) (fK:List (C .aA)) (fR:List (C .aC)) (iX:List (C .ay)) (n:Nat)   (U2:O5→Option (aa×Int)):O5→Option (aa×Int):=fun x2=>
 cond (decide (x2<x1))
 (cond (decide (0≤x2)) (cond (decide (x2<(x4.length:Int))) (Option.bind x4[x2.toNat]? fun e25=>cond (decide (e25.Name=x0))
 (cond (decide (0≤x2)) (cond (decide (x2<(x4.length:Int))) (Option.bind x4[x2.toNat]? fun XT=>alt (cu (K6 bI (x4.length:Int) x4 bI x3 bt bA bR bZ b9 XT.Next dQ dN dZ fB 0 x3 x5 x6 fM fK fR iX n ) n 0)
 (cu (K5 bI (x4.length:Int) x4 x3 x5 x6 bI x3 bt bA bR bZ b9 XT.Next dQ dN dZ fB 0 fM fK fR iX n ) n 0)) none) none)
 (U2 (IntKind.i64.wrap (x2+1)))) none) none)
 (cu (IE x4 (x4.length:Int) x3 x5 x6 bI bB bt bA bR bZ b9 1 dQ dN dZ fB fV fM fK fR iX n ) n 0)
section
variable (x0:ByteArray) (x1 x2 x4:Int) (x5:List (C .aA)) (x6:List (C .aC)) (x7:List (C .ay)) (x8:Int) (x9:ByteArray) (aM:Int) (aS:Bool) (aQ aZ aV aY aW bq bC bz bD aR:Int) (bF:ByteArray) (aX:Int) (bI:Bool) (bB:Int) (bt:List (C .aA)) (bA:List (C .aC)) (bR:List (C .ay)) (bZ:Int) (b9:List (C .aA)) (cQ:List (C .aC)) (dQ:List (C .ay))
def aac:DR→St C:=fun x3=>{ env:=[(0,.one (.ptr 459136 0)),(1,.one (.str x0)),(2,.one (.int .i64 x1)),(12,.one (.int .i64 x2)),(13,.one (.int .i64 x3)),(1000,.bQ (false,[.ptr 459136 0]) 16099000),(1003,.bQ (false,[.ptr 68719478374592 0]) 16099003),(2002,.bQ (false,[.ptr 458880 0]) 16002),(2004,.bQ (false,[.ptr 459008 0]) 16004),(2006,.bQ (false,[.ptr 459136 0]) 16006)],ah:=[(459136,.box .mem [.int .i64 x4,.ref 46913601 [],.ref 46913602 [],.ref 46913603 []]),(46913601,.row .aA x5 false),(46913602,.row .aC x6 false),(46913603,.row .ay x7 false),(68719478374592,.box .mem [.int .i64 x8,.str x9,.int .i64 aM,.bool aS,.int .i64 aQ,.int .i64 aZ,.int .i64 aV,.int .i64 aY,.int .i64 aW,.int .i64 bq,.int .i64 bC,.int .i64 bz,.int .i64 bD,.int .i64 aR,.str bF,.int .i64 aX,.bool bI]),(458880,.box .mem [.int .i64 bB,.row .aA bt,.row .aC bA,.row .ay bR]),(459008,.box .mem [.int .i64 bZ,.ref 46900801 [],.ref 46900802 [],.ref 46900803 []]),(46900801,.row .aA b9 false),(46900802,.row .aC cQ false),(46900803,.row .ay dQ false)],base:=16099000 }
end
noncomputable def xU (x0:ByteArray) (x1 x2 x4:Int) (x5:List (C .aA)) (x6:List (C .aC)) (x7:List (C .ay)) (bB:Int) (bt:List (C .aA)) (bA:List (C .aC)) (bR:List (C .ay)) (n:Nat)   (KZ:DR→Option (aa×Int)):DR→Option (aa×Int):=fun x3=>
 cond (decide (x3<x2))
 (cond (decide (0≤x3)) (cond (decide (x3<(x6.length:Int))) (Option.bind x6[x3.toNat]? fun sI=>cond (decide (sI.ax=x0))
 (cond (decide (0≤x3)) (cond (decide (x3<(x6.length:Int))) (Option.bind x6[x3.toNat]? fun e50=>cond (e50.Number==x1)
 (cond (decide (0≤x3)) (cond (decide (x3<(x6.length:Int))) (Option.bind x6[x3.toNat]? fun e51=>cond (e51.State != 3)
 (Option.bind x6[x3.toNat]? fun sH=>cond (sH.State != 2)
 (cond (3 != 0)
 (Option.bind (iR (⟨bB,bt,bA,bR⟩:aa)) fun IM=>
 some (IM,3))
 (some ((⟨x4,x5,x6,x7⟩:aa),0)))
 (Option.bind x6[x3.toNat]? fun rF=>Option.bind (x6.set x3.toNat (⟨rF.ax,rF.Number,rF.Version,rF.aB,4,rF.Ending,rF.bw⟩:aq))[x3.toNat]? fun lM=>Option.bind (qj ((⟨x4,x5,(x6.set x3.toNat (⟨rF.ax,rF.Number,rF.Version,rF.aB,4,rF.Ending,rF.bw⟩:aq)).set x3.toNat (⟨lM.ax,lM.Number,x4,lM.aB,lM.State,lM.Ending,lM.bw⟩:aq),x7⟩:aa))) fun IL=>
 cond (!IL)
 (cond (2 != 0)
 (Option.bind (iR (⟨bB,bt,bA,bR⟩:aa)) fun r57=>
 some (r57,2))
 (some ((⟨x4,x5,(x6.set x3.toNat (⟨rF.ax,rF.Number,rF.Version,rF.aB,4,rF.Ending,rF.bw⟩:aq)).set x3.toNat (⟨lM.ax,lM.Number,x4,lM.aB,lM.State,lM.Ending,lM.bw⟩:aq),x7⟩:aa),0)))
 (cond (0 != 0)
 (Option.bind (iR (⟨bB,bt,bA,bR⟩:aa)) fun r58=>
 some (r58,0))
 (some ((⟨x4,x5,(x6.set x3.toNat (⟨rF.ax,rF.Number,rF.Version,rF.aB,4,rF.Ending,rF.bw⟩:aq)).set x3.toNat (⟨lM.ax,lM.Number,x4,lM.aB,lM.State,lM.Ending,lM.bw⟩:aq),x7⟩:aa),0)))))
 (Option.bind x6[x3.toNat]? fun uv=>Option.bind (x6.set x3.toNat (⟨uv.ax,uv.Number,uv.Version,uv.aB,4,uv.Ending,uv.bw⟩:aq))[x3.toNat]? fun w6=>Option.bind (qj ((⟨x4,x5,(x6.set x3.toNat (⟨uv.ax,uv.Number,uv.Version,uv.aB,4,uv.Ending,uv.bw⟩:aq)).set x3.toNat (⟨w6.ax,w6.Number,x4,w6.aB,w6.State,w6.Ending,w6.bw⟩:aq),x7⟩:aa))) fun r61=>
 cond (!r61)
 (cond (2 != 0)
 (Option.bind (iR (⟨bB,bt,bA,bR⟩:aa)) fun IK=>
 some (IK,2))
 (some ((⟨x4,x5,(x6.set x3.toNat (⟨uv.ax,uv.Number,uv.Version,uv.aB,4,uv.Ending,uv.bw⟩:aq)).set x3.toNat (⟨w6.ax,w6.Number,x4,w6.aB,w6.State,w6.Ending,w6.bw⟩:aq),x7⟩:aa),0)))
 (cond (0 != 0)
 (Option.bind (iR (⟨bB,bt,bA,bR⟩:aa)) fun r63=>
 some (r63,0))
 (some ((⟨x4,x5,(x6.set x3.toNat (⟨uv.ax,uv.Number,uv.Version,uv.aB,4,uv.Ending,uv.bw⟩:aq)).set x3.toNat (⟨w6.ax,w6.Number,x4,w6.aB,w6.State,w6.Ending,w6.bw⟩:aq),x7⟩:aa),0))))) none) none)
 (KZ (IntKind.i64.wrap (x3+1)))) none) none)
 (KZ (IntKind.i64.wrap (x3+1)))) none) none)
 (cond (3 != 0)
 (Option.bind (iR (⟨bB,bt,bA,bR⟩:aa)) fun r64=>
 some (r64,3))
 (some ((⟨x4,x5,x6,x7⟩:aa),0)))
section
variable (x3:Bool) (x4:Int) (x5:List (C .aA)) (x6:List (C .ay)) (x7:Int) (x8:ByteArray) (x9:Int) (aM:Bool) (aS aQ aZ aV aY aW bq bC bz bD:Int) (aR:ByteArray) (bF:Int) (aX:Bool) (bI:Int) (bB:List (C .aA)) (bt:List (C .aC)) (bA:List (C .ay)) (bR:Int) (bZ:List (C .aA)) (b9:List (C .aC)) (cQ:List (C .ay))
def aab:DN→St C:=fun (x0,x1,x2)=>{ env:=[(0,.one (.ref 100000 [])),(1,.one (.vo 68719478383744)),(5,.one (.int .i64 x1)),(6,.one (.int .i64 x2)),(1000,.bQ (false,[.ptr 459136 0]) 16148000),(1003,.bQ (false,[.ptr 68719478374592 0]) 16148003),(1131,.bQ (false,[.bool x3]) 16148131),(1141,.bQ (false,[.ptr 459136 0]) 16148141),(2002,.bQ (false,[.ptr 458880 0]) 16002),(2004,.bQ (false,[.ptr 459008 0]) 16004),(2006,.bQ (false,[.ptr 459136 0]) 16006)],ah:=[(100000,.row .aC x0 false),(68719478383744,.box (.sM 60 0 [(false,1)]) [.ptr 68719478374592 0]),(459136,.box .mem [.int .i64 x4,.ref 46913601 [],.ref 100000 [],.ref 46913603 []]),(46913601,.row .aA x5 false),(46913603,.row .ay x6 false),(68719478374592,.box .mem [.int .i64 x7,.str x8,.int .i64 x9,.bool aM,.int .i64 aS,.int .i64 aQ,.int .i64 aZ,.int .i64 aV,.int .i64 aY,.int .i64 aW,.int .i64 bq,.int .i64 bC,.int .i64 bz,.int .i64 bD,.str aR,.int .i64 bF,.bool aX]),(458880,.box .mem [.int .i64 bI,.row .aA bB,.row .aC bt,.row .ay bA]),(459008,.box .mem [.int .i64 bR,.ref 46900801 [],.ref 46900802 [],.ref 46900803 []]),(46900801,.row .aA bZ false),(46900802,.row .aC b9 false),(46900803,.row .ay cQ false)],base:=16148000 }
end
noncomputable def xQ (x4:Int) (x5:List (C .aA)) (x6:List (C .ay)) (x7:Int) (x8:ByteArray) (x9:Int) (aM:Bool) (aS aQ aZ aV aY aW bq bC bz bD:Int) (aR:ByteArray) (bF:Int) (aX:Bool) (bI:Int) (bB:List (C .aA)) (bt:List (C .aC)) (bA:List (C .ay)) (n:Nat)   (KV:DN→Option (aa×Int)):DN→Option (aa×Int):=fun (x0,x1,x2)=>
 cond (decide (x2<(x0.length:Int)))
 (cond (decide (0≤x2)) (cond (decide (x2<(x0.length:Int))) (Option.bind x0[x2.toNat]? fun Es=>Option.bind (XY Es (⟨x7,x8,x9,aM,aS,aQ,aZ,aV,aY,aW,bq,bC,bz,bD,aR,bF,aX⟩:az)) fun r74=>
 cond (!r74)
 (cond (decide (0≤x1)) (cond (decide (x1<(x0.length:Int))) (Option.bind x0[x1.toNat]? fun xk=>KV ((x0.set x1.toNat Es,IntKind.i64.wrap (x1+1),IntKind.i64.wrap (x2+1)))) none) none)
 (KV ((x0,x1,IntKind.i64.wrap (x2+1))))) none) none)
 (cond (decide ((0:Int)≤x1)) (cond (decide ((x1:Int)≤(x0.length:Int))) (cond (decide ((x0.length:Int)≤(x0.length:Int))) (cond (decide ((0:Int)≤x1)) (cond (decide (x1≤((x0.take ((x1:Int).toNat)++List.replicate (((x0.length:Int).toNat)-((x1:Int).toNat)) (⟨⟨#[]⟩,0,0,0,0,false,⟨#[]⟩⟩:C .aC)++x0.drop ((x0.length:Int).toNat)).length:Int))) (Option.bind (qj ((⟨x4,x5,(x0.take ((x1:Int).toNat)++List.replicate (((x0.length:Int).toNat)-((x1:Int).toNat)) (⟨⟨#[]⟩,0,0,0,0,false,⟨#[]⟩⟩:C .aC)++x0.drop ((x0.length:Int).toNat)).take x1.toNat,x6⟩:aa))) fun r76=>
 cond (!r76)
 (cond (2 != 0)
 (Option.bind (iR (⟨bI,bB,bt,bA⟩:aa)) fun IJ=>
 some (IJ,2))
 (some ((⟨x4,x5,(x0.take ((x1:Int).toNat)++List.replicate (((x0.length:Int).toNat)-((x1:Int).toNat)) (⟨⟨#[]⟩,0,0,0,0,false,⟨#[]⟩⟩:C .aC)++x0.drop ((x0.length:Int).toNat)).take x1.toNat,x6⟩:aa),0)))
 (cond (0 != 0)
 (Option.bind (iR (⟨bI,bB,bt,bA⟩:aa)) fun r78=>
 some (r78,0))
 (some ((⟨x4,x5,(x0.take ((x1:Int).toNat)++List.replicate (((x0.length:Int).toNat)-((x1:Int).toNat)) (⟨⟨#[]⟩,0,0,0,0,false,⟨#[]⟩⟩:C .aC)++x0.drop ((x0.length:Int).toNat)).take x1.toNat,x6⟩:aa),0)))) none) none) none) none) none)
section
variable (x0:List (C .aC)) (x1:Int) (x3:Bool) (x4:Int) (x5:List (C .aA)) (x6:List (C .ay)) (x7:Int) (x8:ByteArray) (x9:Int) (aM:Bool) (aS aQ aZ aV aY aW bq bC bz bD:Int) (aR:ByteArray) (bF:Int) (aX:Bool) (bI:Int) (bB:List (C .aA)) (bt:List (C .aC)) (bA:List (C .ay)) (bR:Int) (bZ:List (C .aA)) (b9:List (C .aC)) (cQ:List (C .ay))
def R7:DO→St C:=fun x2=>{ env:=[(0,.one (.ref 100000 [])),(1,.one (.vo 68719478383744)),(7,.one (.int .i64 x1)),(8,.one (.int .i64 x2)),(1000,.bQ (false,[.ref 100000 []]) 16148011000),(1001,.bQ (false,[.vo 68719478383744]) 16148011001),(2000,.bQ (false,[.ptr 459136 0]) 16148000),(2003,.bQ (false,[.ptr 68719478374592 0]) 16148003),(2131,.bQ (false,[.bool x3]) 16148131),(2141,.bQ (false,[.ptr 459136 0]) 16148141),(3002,.bQ (false,[.ptr 458880 0]) 16002),(3004,.bQ (false,[.ptr 459008 0]) 16004),(3006,.bQ (false,[.ptr 459136 0]) 16006)],ah:=[(100000,.row .aC x0 false),(68719478383744,.box (.sM 60 0 [(false,1)]) [.ptr 68719478374592 0]),(459136,.box .mem [.int .i64 x4,.ref 46913601 [],.ref 100000 [],.ref 46913603 []]),(46913601,.row .aA x5 false),(46913603,.row .ay x6 false),(68719478374592,.box .mem [.int .i64 x7,.str x8,.int .i64 x9,.bool aM,.int .i64 aS,.int .i64 aQ,.int .i64 aZ,.int .i64 aV,.int .i64 aY,.int .i64 aW,.int .i64 bq,.int .i64 bC,.int .i64 bz,.int .i64 bD,.str aR,.int .i64 bF,.bool aX]),(458880,.box .mem [.int .i64 bI,.row .aA bB,.row .aC bt,.row .ay bA]),(459008,.box .mem [.int .i64 bR,.ref 46900801 [],.ref 46900802 [],.ref 46900803 []]),(46900801,.row .aA bZ false),(46900802,.row .aC b9 false),(46900803,.row .ay cQ false)],base:=16148011000 }
end
noncomputable def pz (x0:List (C .aC)) (x1 x4:Int) (x5:List (C .aA)) (x6:List (C .ay)) (x7:Int) (x8:ByteArray) (x9:Int) (aM:Bool) (aS aQ aZ aV aY aW bq bC bz bD:Int) (aR:ByteArray) (bF:Int) (aX:Bool) (bI:Int) (bB:List (C .aA)) (bt:List (C .aC)) (bA:List (C .ay)) (n:Nat)   (KW:DO→Option (aa×Int)):DO→Option (aa×Int):=fun x2=>
 cond (decide (x2<x1))
 (cond (decide (0≤x2)) (cond (decide (x2<(x0.length:Int))) (Option.bind x0[x2.toNat]? fun e68=>Option.bind (XY e68 (⟨x7,x8,x9,aM,aS,aQ,aZ,aV,aY,aW,bq,bC,bz,bD,aR,bF,aX⟩:az)) fun r69=>
 cond r69
 (cond (x2==(-1))
 (Option.bind (qj (⟨x4,x5,x0,x6⟩:aa)) fun r70=>
 cond (!r70)
 (cond (2 != 0)
 (Option.bind (iR (⟨bI,bB,bt,bA⟩:aa)) fun EZ=>
 some (EZ,2))
 (some ((⟨x4,x5,x0,x6⟩:aa),0)))
 (cond (0 != 0)
 (Option.bind (iR (⟨bI,bB,bt,bA⟩:aa)) fun r72=>
 some (r72,0))
 (some ((⟨x4,x5,x0,x6⟩:aa),0))))
 (cu (xQ x4 x5 x6 x7 x8 x9 aM aS aQ aZ aV aY aW bq bC bz bD aR bF aX bI bB bt bA n ) n ((x0,x2,IntKind.i64.wrap (x2+1)))))
 (KW (IntKind.i64.wrap (x2+1)))) none) none)
 (cond ((-1)==(-1))
 (Option.bind (qj (⟨x4,x5,x0,x6⟩:aa)) fun r79=>
 cond (!r79)
 (cond (2 != 0)
 (Option.bind (iR (⟨bI,bB,bt,bA⟩:aa)) fun r80=>
 some (r80,2))
 (some ((⟨x4,x5,x0,x6⟩:aa),0)))
 (cond (0 != 0)
 (Option.bind (iR (⟨bI,bB,bt,bA⟩:aa)) fun r81=>
 some (r81,0))
 (some ((⟨x4,x5,x0,x6⟩:aa),0))))
 (cu (xQ x4 x5 x6 x7 x8 x9 aM aS aQ aZ aV aY aW bq bC bz bD aR bF aX bI bB bt bA n ) n ((x0,(-1),IntKind.i64.wrap ((-1)+1)))))
section
variable (x3:Bool) (x4:Int) (x5:List (C .aA)) (x6:List (C .aC)) (x7:Int) (x8:ByteArray) (x9:Int) (aM:Bool) (aS aQ aZ aV aY aW bq bC bz bD:Int) (aR:ByteArray) (bF:Int) (aX:Bool) (bI:Int) (bB:List (C .aA)) (bt:List (C .aC)) (bA:List (C .ay)) (bR:Int) (bZ:List (C .aA)) (b9:List (C .aC)) (cQ:List (C .ay))
def KF:DM→St C:=fun (x0,x1,x2)=>{ env:=[(0,.one (.ref 100000 [])),(1,.one (.vo 68719478383168)),(5,.one (.int .i64 x1)),(6,.one (.int .i64 x2)),(1000,.bQ (false,[.ptr 459136 0]) 16139000),(1003,.bQ (false,[.ptr 68719478374592 0]) 16139003),(1131,.bQ (false,[.bool x3]) 16139131),(1132,.bQ (false,[.ptr 459136 0]) 16139132),(2002,.bQ (false,[.ptr 458880 0]) 16002),(2004,.bQ (false,[.ptr 459008 0]) 16004),(2006,.bQ (false,[.ptr 459136 0]) 16006)],ah:=[(100000,.row .ay x0 false),(68719478383168,.box (.sM 58 0 [(false,1)]) [.ptr 68719478374592 0]),(459136,.box .mem [.int .i64 x4,.ref 46913601 [],.ref 46913602 [],.ref 100000 []]),(46913601,.row .aA x5 false),(46913602,.row .aC x6 false),(68719478374592,.box .mem [.int .i64 x7,.str x8,.int .i64 x9,.bool aM,.int .i64 aS,.int .i64 aQ,.int .i64 aZ,.int .i64 aV,.int .i64 aY,.int .i64 aW,.int .i64 bq,.int .i64 bC,.int .i64 bz,.int .i64 bD,.str aR,.int .i64 bF,.bool aX]),(458880,.box .mem [.int .i64 bI,.row .aA bB,.row .aC bt,.row .ay bA]),(459008,.box .mem [.int .i64 bR,.ref 46900801 [],.ref 46900802 [],.ref 46900803 []]),(46900801,.row .aA bZ false),(46900802,.row .aC b9 false),(46900803,.row .ay cQ false)],base:=16139000 }
end
noncomputable def xP (x4:Int) (x5:List (C .aA)) (x6:List (C .aC)) (x7:Int) (x8:ByteArray) (x9:Int) (aM:Bool) (aS aQ aZ aV aY aW bq bC bz bD:Int) (aR:ByteArray) (bF:Int) (aX:Bool) (bI:Int) (bB:List (C .aA)) (bt:List (C .aC)) (bA:List (C .ay)) (n:Nat)   (BG:DM→Option (aa×Int)):DM→Option (aa×Int):=fun (x0,x1,x2)=>
 cond (decide (x2<(x0.length:Int)))
 (cond (decide (0≤x2)) (cond (decide (x2<(x0.length:Int))) (Option.bind x0[x2.toNat]? fun e82=>Option.bind (XZ e82 (⟨x7,x8,x9,aM,aS,aQ,aZ,aV,aY,aW,bq,bC,bz,bD,aR,bF,aX⟩:az)) fun K4=>
 cond (!K4)
 (cond (decide (0≤x1)) (cond (decide (x1<(x0.length:Int))) (Option.bind x0[x1.toNat]? fun e84=>BG ((x0.set x1.toNat e82,IntKind.i64.wrap (x1+1),IntKind.i64.wrap (x2+1)))) none) none)
 (BG ((x0,x1,IntKind.i64.wrap (x2+1))))) none) none)
 (cond (decide ((0:Int)≤x1)) (cond (decide ((x1:Int)≤(x0.length:Int))) (cond (decide ((x0.length:Int)≤(x0.length:Int))) (cond (decide ((0:Int)≤x1)) (cond (decide (x1≤((x0.take ((x1:Int).toNat)++List.replicate (((x0.length:Int).toNat)-((x1:Int).toNat)) (⟨⟨#[]⟩,false⟩:C .ay)++x0.drop ((x0.length:Int).toNat)).length:Int))) (cu (pz x6 (x6.length:Int) x4 x5 ((x0.take ((x1:Int).toNat)++List.replicate (((x0.length:Int).toNat)-((x1:Int).toNat)) (⟨⟨#[]⟩,false⟩:C .ay)++x0.drop ((x0.length:Int).toNat)).take x1.toNat) x7 x8 x9 aM aS aQ aZ aV aY aW bq bC bz bD aR bF aX bI bB bt bA n ) n 0) none) none) none) none) none)
section
variable (x0:List (C .ay)) (x1:Int) (x3:Bool) (x4:Int) (x5:List (C .aA)) (x6:List (C .aC)) (x7:Int) (x8:ByteArray) (x9:Int) (aM:Bool) (aS aQ aZ aV aY aW bq bC bz bD:Int) (aR:ByteArray) (bF:Int) (aX:Bool) (bI:Int) (bB:List (C .aA)) (bt:List (C .aC)) (bA:List (C .ay)) (bR:Int) (bZ:List (C .aA)) (b9:List (C .aC)) (cQ:List (C .ay))
def R9:DP→St C:=fun x2=>{ env:=[(0,.one (.ref 100000 [])),(1,.one (.vo 68719478383168)),(7,.one (.int .i64 x1)),(8,.one (.int .i64 x2)),(1000,.bQ (false,[.ref 100000 []]) 16139011000),(1001,.bQ (false,[.vo 68719478383168]) 16139011001),(2000,.bQ (false,[.ptr 459136 0]) 16139000),(2003,.bQ (false,[.ptr 68719478374592 0]) 16139003),(2131,.bQ (false,[.bool x3]) 16139131),(2132,.bQ (false,[.ptr 459136 0]) 16139132),(3002,.bQ (false,[.ptr 458880 0]) 16002),(3004,.bQ (false,[.ptr 459008 0]) 16004),(3006,.bQ (false,[.ptr 459136 0]) 16006)],ah:=[(100000,.row .ay x0 false),(68719478383168,.box (.sM 58 0 [(false,1)]) [.ptr 68719478374592 0]),(459136,.box .mem [.int .i64 x4,.ref 46913601 [],.ref 46913602 [],.ref 100000 []]),(46913601,.row .aA x5 false),(46913602,.row .aC x6 false),(68719478374592,.box .mem [.int .i64 x7,.str x8,.int .i64 x9,.bool aM,.int .i64 aS,.int .i64 aQ,.int .i64 aZ,.int .i64 aV,.int .i64 aY,.int .i64 aW,.int .i64 bq,.int .i64 bC,.int .i64 bz,.int .i64 bD,.str aR,.int .i64 bF,.bool aX]),(458880,.box .mem [.int .i64 bI,.row .aA bB,.row .aC bt,.row .ay bA]),(459008,.box .mem [.int .i64 bR,.ref 46900801 [],.ref 46900802 [],.ref 46900803 []]),(46900801,.row .aA bZ false),(46900802,.row .aC b9 false),(46900803,.row .ay cQ false)],base:=16139011000 }
end
noncomputable def xR (x0:List (C .ay)) (x1 x4:Int) (x5:List (C .aA)) (x6:List (C .aC)) (x7:Int) (x8:ByteArray) (x9:Int) (aM:Bool) (aS aQ aZ aV aY aW bq bC bz bD:Int) (aR:ByteArray) (bF:Int) (aX:Bool) (bI:Int) (bB:List (C .aA)) (bt:List (C .aC)) (bA:List (C .ay)) (n:Nat)   (KX:DP→Option (aa×Int)):DP→Option (aa×Int):=fun x2=>
 cond (decide (x2<x1))
 (cond (decide (0≤x2)) (cond (decide (x2<(x0.length:Int))) (Option.bind x0[x2.toNat]? fun WA=>Option.bind (XZ WA (⟨x7,x8,x9,aM,aS,aQ,aZ,aV,aY,aW,bq,bC,bz,bD,aR,bF,aX⟩:az)) fun r67=>
 cond r67
 (cond (x2==(-1))
 (cu (pz x6 (x6.length:Int) x4 x5 x0 x7 x8 x9 aM aS aQ aZ aV aY aW bq bC bz bD aR bF aX bI bB bt bA n ) n 0)
 (cu (xP x4 x5 x6 x7 x8 x9 aM aS aQ aZ aV aY aW bq bC bz bD aR bF aX bI bB bt bA n ) n ((x0,x2,IntKind.i64.wrap (x2+1)))))
 (KX (IntKind.i64.wrap (x2+1)))) none) none)
 (cond ((-1)==(-1))
 (cu (pz x6 (x6.length:Int) x4 x5 x0 x7 x8 x9 aM aS aQ aZ aV aY aW bq bC bz bD aR bF aX bI bB bt bA n ) n 0)
 (cu (xP x4 x5 x6 x7 x8 x9 aM aS aQ aZ aV aY aW bq bC bz bD aR bF aX bI bB bt bA n ) n ((x0,(-1),IntKind.i64.wrap ((-1)+1)))))
section
variable (x0:ByteArray) (x1 x3:Int) (x4:List (C .aA)) (x5:List (C .aC)) (x6:List (C .ay)) (x7:Int) (x8:ByteArray) (x9:Int) (aM:Bool) (aS aQ aZ aV aY aW bq bC bz bD:Int) (aR:ByteArray) (bF:Int) (aX:Bool) (bI:Int) (bB:List (C .aA)) (bt:List (C .aC)) (bA:List (C .ay)) (bR:Int) (bZ:List (C .aA)) (b9:List (C .aC)) (cQ:List (C .ay))
def Sb:DQ→St C:=fun x2=>{ env:=[(0,.one (.ptr 459136 0)),(1,.one (.str x0)),(10,.one (.int .i64 x1)),(11,.one (.int .i64 x2)),(1000,.bQ (false,[.ptr 459136 0]) 16131000),(1003,.bQ (false,[.ptr 68719478374592 0]) 16131003),(2002,.bQ (false,[.ptr 458880 0]) 16002),(2004,.bQ (false,[.ptr 459008 0]) 16004),(2006,.bQ (false,[.ptr 459136 0]) 16006)],ah:=[(459136,.box .mem [.int .i64 x3,.ref 46913601 [],.ref 46913602 [],.ref 46913603 []]),(46913601,.row .aA x4 false),(46913602,.row .aC x5 false),(46913603,.row .ay x6 false),(68719478374592,.box .mem [.int .i64 x7,.str x8,.int .i64 x9,.bool aM,.int .i64 aS,.int .i64 aQ,.int .i64 aZ,.int .i64 aV,.int .i64 aY,.int .i64 aW,.int .i64 bq,.int .i64 bC,.int .i64 bz,.int .i64 bD,.str aR,.int .i64 bF,.bool aX]),(458880,.box .mem [.int .i64 bI,.row .aA bB,.row .aC bt,.row .ay bA]),(459008,.box .mem [.int .i64 bR,.ref 46900801 [],.ref 46900802 [],.ref 46900803 []]),(46900801,.row .aA bZ false),(46900802,.row .aC b9 false),(46900803,.row .ay cQ false)],base:=16131000 }
end
noncomputable def xS (x0:ByteArray) (x1 x3:Int) (x4:List (C .aA)) (x5:List (C .aC)) (x6:List (C .ay)) (x7:Int) (x8:ByteArray) (x9:Int) (aM:Bool) (aS aQ aZ aV aY aW bq bC bz bD:Int) (aR:ByteArray) (bF:Int) (aX:Bool) (bI:Int) (bB:List (C .aA)) (bt:List (C .aC)) (bA:List (C .ay)) (n:Nat)   (KY:DQ→Option (aa×Int)):DQ→Option (aa×Int):=fun x2=>
 cond (decide (x2<x1))
 (cond (decide (0≤x2)) (cond (decide (x2<(x6.length:Int))) (Option.bind x6[x2.toNat]? fun e65=>cond (decide (e65.Name=x0))
 (cond (decide (0≤x2)) (cond (decide (x2<(x6.length:Int))) (cu (xR x6 (x6.length:Int) x3 x4 x5 x7 x8 x9 aM aS aQ aZ aV aY aW bq bC bz bD aR bF aX bI bB bt bA n ) n 0) none) none)
 (KY (IntKind.i64.wrap (x2+1)))) none) none)
 (cond (3 != 0)
 (Option.bind (iR (⟨bI,bB,bt,bA⟩:aa)) fun r85=>
 some (r85,3))
 (some ((⟨x3,x4,x5,x6⟩:aa),0)))
section
variable (x0:ByteArray) (x1:Int) (x3:Bool) (x4:ByteArray) (x5:Bool) (x6:Int) (x7:List (C .aA)) (x8:List (C .aC)) (x9:List (C .ay)) (aM:Int) (aS:ByteArray) (aQ:Int) (aZ:Bool) (aV aY aW bq bC bz bD aR bF aX:Int) (bI:ByteArray) (bB:Int) (bt:Bool) (bA:Int) (bR:List (C .aA)) (bZ:List (C .aC)) (b9:List (C .ay)) (cQ:Int) (dQ:List (C .aA)) (dN:List (C .aC)) (dZ:List (C .ay))
def Z9:DK→St C:=fun x2=>{ env:=[(0,.one (.ptr 459136 0)),(1,.one (.str x0)),(10,.one (.int .i64 x1)),(11,.one (.int .i64 x2)),(1000,.bQ (false,[.ptr 459136 0]) 16187000),(1003,.bQ (false,[.ptr 68719478374592 0]) 16187003),(1156,.bQ (false,[.bool x3]) 16187156),(1183,.bQ (false,[.ptr 459136 0]) 16187183),(1184,.bQ (false,[.ptr 68719478374592 14]) 16187184),(1185,.bQ (false,[.str x4]) 16187185),(1187,.bQ (false,[.ptr 68719478374592 16]) 16187187),(1188,.bQ (false,[.bool x5]) 16187188),(2002,.bQ (false,[.ptr 458880 0]) 16002),(2004,.bQ (false,[.ptr 459008 0]) 16004),(2006,.bQ (false,[.ptr 459136 0]) 16006)],ah:=[(459136,.box .mem [.int .i64 x6,.ref 46913601 [],.ref 46913602 [],.ref 46913603 []]),(46913601,.row .aA x7 false),(46913602,.row .aC x8 false),(46913603,.row .ay x9 false),(68719478374592,.box .mem [.int .i64 aM,.str aS,.int .i64 aQ,.bool aZ,.int .i64 aV,.int .i64 aY,.int .i64 aW,.int .i64 bq,.int .i64 bC,.int .i64 bz,.int .i64 bD,.int .i64 aR,.int .i64 bF,.int .i64 aX,.str bI,.int .i64 bB,.bool bt]),(458880,.box .mem [.int .i64 bA,.row .aA bR,.row .aC bZ,.row .ay b9]),(459008,.box .mem [.int .i64 cQ,.ref 46900801 [],.ref 46900802 [],.ref 46900803 []]),(46900801,.row .aA dQ false),(46900802,.row .aC dN false),(46900803,.row .ay dZ false)],base:=16187000 }
end
noncomputable def BK (x0:ByteArray) (x1:Int) (x5:Bool) (x6:Int) (x7:List (C .aA)) (x8:List (C .aC)) (x9:List (C .ay)) (bA:Int) (bR:List (C .aA)) (bZ:List (C .aC)) (b9:List (C .ay)) (n:Nat)   (Su:DK→Option (aa×Int)):DK→Option (aa×Int):=fun x2=>
 cond (decide (x2<x1))
 (cond (decide (0≤x2)) (cond (decide (x2<(x9.length:Int))) (Option.bind x9[x2.toNat]? fun e87=>cond (decide (e87.Name=x0))
 (cond (decide (0≤x2)) (cond (decide (x2<(x9.length:Int))) (Option.bind x9[x2.toNat]? fun e88=>Option.bind (qj ((⟨x6,x7,x8,x9.set x2.toNat (⟨e88.Name,x5⟩:av)⟩:aa))) fun r89=>
 cond (!r89)
 (cond (2 != 0)
 (Option.bind (iR (⟨bA,bR,bZ,b9⟩:aa)) fun P6=>
 some (P6,2))
 (some ((⟨x6,x7,x8,x9.set x2.toNat (⟨e88.Name,x5⟩:av)⟩:aa),0)))
 (cond (0 != 0)
 (Option.bind (iR (⟨bA,bR,bZ,b9⟩:aa)) fun r91=>
 some (r91,0))
 (some ((⟨x6,x7,x8,x9.set x2.toNat (⟨e88.Name,x5⟩:av)⟩:aa),0)))) none) none)
 (Su (IntKind.i64.wrap (x2+1)))) none) none)
 (none)
section
variable (x0:ByteArray) (x1:Int) (x3:Bool) (x4:ByteArray) (x5:Int) (x6:List (C .aA)) (x7:List (C .aC)) (x8:List (C .ay)) (x9:Int) (aM:ByteArray) (aS:Int) (aQ:Bool) (aZ aV aY aW bq bC bz bD aR bF:Int) (aX:ByteArray) (bI:Int) (bB:Bool) (bt:Int) (bA:List (C .aA)) (bR:List (C .aC)) (bZ:List (C .ay)) (b9:Int) (cQ:List (C .aA)) (dQ:List (C .aC)) (dN:List (C .ay))
def Z8:DJ→St C:=fun x2=>{ env:=[(0,.one (.ptr 459136 0)),(1,.one (.str x0)),(10,.one (.int .i64 x1)),(11,.one (.int .i64 x2)),(1000,.bQ (false,[.ptr 459136 0]) 16187000),(1003,.bQ (false,[.ptr 68719478374592 0]) 16187003),(1156,.bQ (false,[.bool x3]) 16187156),(1183,.bQ (false,[.ptr 459136 0]) 16187183),(1184,.bQ (false,[.ptr 68719478374592 14]) 16187184),(1185,.bQ (false,[.str x4]) 16187185),(1187,.bQ (false,[.ptr 68719478374592 16]) 16187187),(2002,.bQ (false,[.ptr 458880 0]) 16002),(2004,.bQ (false,[.ptr 459008 0]) 16004),(2006,.bQ (false,[.ptr 459136 0]) 16006)],ah:=[(459136,.box .mem [.int .i64 x5,.ref 46913601 [],.ref 46913602 [],.ref 46913603 []]),(46913601,.row .aA x6 false),(46913602,.row .aC x7 false),(46913603,.row .ay x8 false),(68719478374592,.box .mem [.int .i64 x9,.str aM,.int .i64 aS,.bool aQ,.int .i64 aZ,.int .i64 aV,.int .i64 aY,.int .i64 aW,.int .i64 bq,.int .i64 bC,.int .i64 bz,.int .i64 bD,.int .i64 aR,.int .i64 bF,.str aX,.int .i64 bI,.bool bB]),(458880,.box .mem [.int .i64 bt,.row .aA bA,.row .aC bR,.row .ay bZ]),(459008,.box .mem [.int .i64 b9,.ref 46900801 [],.ref 46900802 [],.ref 46900803 []]),(46900801,.row .aA cQ false),(46900802,.row .aC dQ false),(46900803,.row .ay dN false)],base:=16187000 }
end
noncomputable def BI (x0:ByteArray) (x1 x5:Int) (x6:List (C .aA)) (x7:List (C .aC)) (x8:List (C .ay)) (bB:Bool) (bt:Int) (bA:List (C .aA)) (bR:List (C .aC)) (bZ:List (C .ay)) (n:Nat)   (Ss:DJ→Option (aa×Int)):DJ→Option (aa×Int):=fun x2=>
 cond (decide (x2<x1))
 (cond (decide (0≤x2)) (cond (decide (x2<(x8.length:Int))) (Option.bind x8[x2.toNat]? fun e92=>cond (decide (e92.Name=x0))
 (cond (decide (0≤x2)) (cond (decide (x2<(x8.length:Int))) (Option.bind x8[x2.toNat]? fun e93=>Option.bind (qj ((⟨x5,x6,x7,x8.set x2.toNat (⟨e93.Name,bB⟩:av)⟩:aa))) fun r94=>
 cond (!r94)
 (cond (2 != 0)
 (Option.bind (iR (⟨bt,bA,bR,bZ⟩:aa)) fun r95=>
 some (r95,2))
 (some ((⟨x5,x6,x7,x8.set x2.toNat (⟨e93.Name,bB⟩:av)⟩:aa),0)))
 (cond (0 != 0)
 (Option.bind (iR (⟨bt,bA,bR,bZ⟩:aa)) fun r96=>
 some (r96,0))
 (some ((⟨x5,x6,x7,x8.set x2.toNat (⟨e93.Name,bB⟩:av)⟩:aa),0)))) none) none)
 (Ss (IntKind.i64.wrap (x2+1)))) none) none)
 (none)
section
variable (x0:ByteArray) (x1:Int) (x3:Bool) (x4:ByteArray) (x5:Int) (x6:List (C .aA)) (x7:List (C .aC)) (x8:List (C .ay)) (x9:Int) (aM:ByteArray) (aS:Int) (aQ:Bool) (aZ aV aY aW bq bC bz bD aR bF:Int) (aX:ByteArray) (bI:Int) (bB:Bool) (bt:Int) (bA:List (C .aA)) (bR:List (C .aC)) (bZ:List (C .ay)) (b9:Int) (cQ:List (C .aA)) (dQ:List (C .aC)) (dN:List (C .ay))
def Z7:DI→St C:=fun x2=>{ env:=[(0,.one (.ptr 459136 0)),(1,.one (.str x0)),(10,.one (.int .i64 x1)),(11,.one (.int .i64 x2)),(1000,.bQ (false,[.ptr 459136 0]) 16187000),(1003,.bQ (false,[.ptr 68719478374592 0]) 16187003),(1156,.bQ (false,[.bool x3]) 16187156),(1183,.bQ (false,[.ptr 459136 0]) 16187183),(1184,.bQ (false,[.ptr 68719478374592 14]) 16187184),(1185,.bQ (false,[.str x4]) 16187185),(2002,.bQ (false,[.ptr 458880 0]) 16002),(2004,.bQ (false,[.ptr 459008 0]) 16004),(2006,.bQ (false,[.ptr 459136 0]) 16006)],ah:=[(459136,.box .mem [.int .i64 x5,.ref 46913601 [],.ref 46913602 [],.ref 46913603 []]),(46913601,.row .aA x6 false),(46913602,.row .aC x7 false),(46913603,.row .ay x8 false),(68719478374592,.box .mem [.int .i64 x9,.str aM,.int .i64 aS,.bool aQ,.int .i64 aZ,.int .i64 aV,.int .i64 aY,.int .i64 aW,.int .i64 bq,.int .i64 bC,.int .i64 bz,.int .i64 bD,.int .i64 aR,.int .i64 bF,.str aX,.int .i64 bI,.bool bB]),(458880,.box .mem [.int .i64 bt,.row .aA bA,.row .aC bR,.row .ay bZ]),(459008,.box .mem [.int .i64 b9,.ref 46900801 [],.ref 46900802 [],.ref 46900803 []]),(46900801,.row .aA cQ false),(46900802,.row .aC dQ false),(46900803,.row .ay dN false)],base:=16187000 }
end
noncomputable def BH (x0:ByteArray) (x1 x5:Int) (x6:List (C .aA)) (x7:List (C .aC)) (x8:List (C .ay)) (bB:Bool) (bt:Int) (bA:List (C .aA)) (bR:List (C .aC)) (bZ:List (C .ay)) (n:Nat)   (Sr:DI→Option (aa×Int)):DI→Option (aa×Int):=fun x2=>
 cond (decide (x2<x1))
 (cond (decide (0≤x2)) (cond (decide (x2<(x8.length:Int))) (Option.bind x8[x2.toNat]? fun e97=>cond (decide (e97.Name=x0))
 (cond (decide (0≤x2)) (cond (decide (x2<(x8.length:Int))) (Option.bind x8[x2.toNat]? fun e98=>Option.bind (qj ((⟨x5,x6,x7,x8.set x2.toNat (⟨e98.Name,bB⟩:av)⟩:aa))) fun r99=>
 cond (!r99)
 (cond (2 != 0)
 (Option.bind (iR (⟨bt,bA,bR,bZ⟩:aa)) fun r100=>
 some (r100,2))
 (some ((⟨x5,x6,x7,x8.set x2.toNat (⟨e98.Name,bB⟩:av)⟩:aa),0)))
 (cond (0 != 0)
 (Option.bind (iR (⟨bt,bA,bR,bZ⟩:aa)) fun r101=>
 some (r101,0))
 (some ((⟨x5,x6,x7,x8.set x2.toNat (⟨e98.Name,bB⟩:av)⟩:aa),0)))) none) none)
 (Sr (IntKind.i64.wrap (x2+1)))) none) none)
 (none)
section
variable (x0:ByteArray) (x1 x3:Int) (x4:Bool) (x5:ByteArray) (x6:Bool) (x7:Int) (x8:List (C .aA)) (x9:List (C .aC)) (aM:List (C .ay)) (aS:Int) (aQ:ByteArray) (aZ:Int) (aV:Bool) (aY aW bq bC bz bD aR bF aX bI:Int) (bB:ByteArray) (bt:Int) (bA:Bool) (bR:Int) (bZ:List (C .aA)) (b9:List (C .aC)) (cQ:List (C .ay)) (dQ:Int) (dN:List (C .aA)) (dZ:List (C .aC)) (fB:List (C .ay))
def Z6:DG→St C:=fun x2=>{ env:=[(0,.one (.ptr 459136 0)),(1,.one (.str x0)),(10,.one (.int .i64 x1)),(11,.one (.int .i64 x2)),(1000,.bQ (false,[.ptr 459136 0]) 16187000),(1003,.bQ (false,[.ptr 68719478374592 0]) 16187003),(1009,.bQ (false,[.int .i64 x3]) 16187009),(1156,.bQ (false,[.bool x4]) 16187156),(1183,.bQ (false,[.ptr 459136 0]) 16187183),(1184,.bQ (false,[.ptr 68719478374592 14]) 16187184),(1185,.bQ (false,[.str x5]) 16187185),(1187,.bQ (false,[.ptr 68719478374592 16]) 16187187),(1188,.bQ (false,[.bool x6]) 16187188),(2002,.bQ (false,[.ptr 458880 0]) 16002),(2004,.bQ (false,[.ptr 459008 0]) 16004),(2006,.bQ (false,[.ptr 459136 0]) 16006)],ah:=[(459136,.box .mem [.int .i64 x7,.ref 46913601 [],.ref 46913602 [],.ref 46913603 []]),(46913601,.row .aA x8 false),(46913602,.row .aC x9 false),(46913603,.row .ay aM false),(68719478374592,.box .mem [.int .i64 aS,.str aQ,.int .i64 aZ,.bool aV,.int .i64 aY,.int .i64 aW,.int .i64 bq,.int .i64 bC,.int .i64 bz,.int .i64 bD,.int .i64 aR,.int .i64 bF,.int .i64 aX,.int .i64 bI,.str bB,.int .i64 bt,.bool bA]),(458880,.box .mem [.int .i64 bR,.row .aA bZ,.row .aC b9,.row .ay cQ]),(459008,.box .mem [.int .i64 dQ,.ref 46900801 [],.ref 46900802 [],.ref 46900803 []]),(46900801,.row .aA dN false),(46900802,.row .aC dZ false),(46900803,.row .ay fB false)],base:=16187000 }
end
noncomputable def qF (x0:ByteArray) (x1:Int) (x6:Bool) (x7:Int) (x8:List (C .aA)) (x9:List (C .aC)) (aM:List (C .ay)) (bR:Int) (bZ:List (C .aA)) (b9:List (C .aC)) (cQ:List (C .ay)) (n:Nat)   (Sq:DG→Option (aa×Int)):DG→Option (aa×Int):=fun x2=>
 cond (decide (x2<x1))
 (cond (decide (0≤x2)) (cond (decide (x2<(aM.length:Int))) (Option.bind aM[x2.toNat]? fun e104=>cond (decide (e104.Name=x0))
 (cond (decide (0≤x2)) (cond (decide (x2<(aM.length:Int))) (Option.bind aM[x2.toNat]? fun WG=>Option.bind (qj ((⟨x7,x8,x9,aM.set x2.toNat (⟨WG.Name,x6⟩:av)⟩:aa))) fun r106=>
 cond (!r106)
 (cond (2 != 0)
 (Option.bind (iR (⟨bR,bZ,b9,cQ⟩:aa)) fun r107=>
 some (r107,2))
 (some ((⟨x7,x8,x9,aM.set x2.toNat (⟨WG.Name,x6⟩:av)⟩:aa),0)))
 (cond (0 != 0)
 (Option.bind (iR (⟨bR,bZ,b9,cQ⟩:aa)) fun r108=>
 some (r108,0))
 (some ((⟨x7,x8,x9,aM.set x2.toNat (⟨WG.Name,x6⟩:av)⟩:aa),0)))) none) none)
 (Sq (IntKind.i64.wrap (x2+1)))) none) none)
 (none)
section
variable (x0:ByteArray) (x1 x3:Int) (x4:Bool) (x5:ByteArray) (x6:Int) (x7:List (C .aA)) (x8:List (C .aC)) (x9:List (C .ay)) (aM:Int) (aS:ByteArray) (aQ:Int) (aZ:Bool) (aV aY aW bq bC bz bD aR bF aX:Int) (bI:ByteArray) (bB:Int) (bt:Bool) (bA:Int) (bR:List (C .aA)) (bZ:List (C .aC)) (b9:List (C .ay)) (cQ:Int) (dQ:List (C .aA)) (dN:List (C .aC)) (dZ:List (C .ay))
def Z5:DF→St C:=fun x2=>{ env:=[(0,.one (.ptr 459136 0)),(1,.one (.str x0)),(10,.one (.int .i64 x1)),(11,.one (.int .i64 x2)),(1000,.bQ (false,[.ptr 459136 0]) 16187000),(1003,.bQ (false,[.ptr 68719478374592 0]) 16187003),(1009,.bQ (false,[.int .i64 x3]) 16187009),(1156,.bQ (false,[.bool x4]) 16187156),(1183,.bQ (false,[.ptr 459136 0]) 16187183),(1184,.bQ (false,[.ptr 68719478374592 14]) 16187184),(1185,.bQ (false,[.str x5]) 16187185),(1187,.bQ (false,[.ptr 68719478374592 16]) 16187187),(2002,.bQ (false,[.ptr 458880 0]) 16002),(2004,.bQ (false,[.ptr 459008 0]) 16004),(2006,.bQ (false,[.ptr 459136 0]) 16006)],ah:=[(459136,.box .mem [.int .i64 x6,.ref 46913601 [],.ref 46913602 [],.ref 46913603 []]),(46913601,.row .aA x7 false),(46913602,.row .aC x8 false),(46913603,.row .ay x9 false),(68719478374592,.box .mem [.int .i64 aM,.str aS,.int .i64 aQ,.bool aZ,.int .i64 aV,.int .i64 aY,.int .i64 aW,.int .i64 bq,.int .i64 bC,.int .i64 bz,.int .i64 bD,.int .i64 aR,.int .i64 bF,.int .i64 aX,.str bI,.int .i64 bB,.bool bt]),(458880,.box .mem [.int .i64 bA,.row .aA bR,.row .aC bZ,.row .ay b9]),(459008,.box .mem [.int .i64 cQ,.ref 46900801 [],.ref 46900802 [],.ref 46900803 []]),(46900801,.row .aA dQ false),(46900802,.row .aC dN false),(46900803,.row .ay dZ false)],base:=16187000 }
end
noncomputable def qE (x0:ByteArray) (x1 x6:Int) (x7:List (C .aA)) (x8:List (C .aC)) (x9:List (C .ay)) (bt:Bool) (bA:Int) (bR:List (C .aA)) (bZ:List (C .aC)) (b9:List (C .ay)) (n:Nat)   (So:DF→Option (aa×Int)):DF→Option (aa×Int):=fun x2=>
 cond (decide (x2<x1))
 (cond (decide (0≤x2)) (cond (decide (x2<(x9.length:Int))) (Option.bind x9[x2.toNat]? fun e109=>cond (decide (e109.Name=x0))
 (cond (decide (0≤x2)) (cond (decide (x2<(x9.length:Int))) (Option.bind x9[x2.toNat]? fun WE=>Option.bind (qj ((⟨x6,x7,x8,x9.set x2.toNat (⟨WE.Name,bt⟩:av)⟩:aa))) fun r111=>
 cond (!r111)
 (cond (2 != 0)
 (Option.bind (iR (⟨bA,bR,bZ,b9⟩:aa)) fun r112=>
 some (r112,2))
 (some ((⟨x6,x7,x8,x9.set x2.toNat (⟨WE.Name,bt⟩:av)⟩:aa),0)))
 (cond (0 != 0)
 (Option.bind (iR (⟨bA,bR,bZ,b9⟩:aa)) fun r113=>
 some (r113,0))
 (some ((⟨x6,x7,x8,x9.set x2.toNat (⟨WE.Name,bt⟩:av)⟩:aa),0)))) none) none)
 (So (IntKind.i64.wrap (x2+1)))) none) none)
 (none)
section
variable (x0:ByteArray) (x1 x3:Int) (x4:Bool) (x5:ByteArray) (x6:Int) (x7:List (C .aA)) (x8:List (C .aC)) (x9:List (C .ay)) (aM:Int) (aS:ByteArray) (aQ:Int) (aZ:Bool) (aV aY aW bq bC bz bD aR bF aX:Int) (bI:ByteArray) (bB:Int) (bt:Bool) (bA:Int) (bR:List (C .aA)) (bZ:List (C .aC)) (b9:List (C .ay)) (cQ:Int) (dQ:List (C .aA)) (dN:List (C .aC)) (dZ:List (C .ay))
def Z4:DE→St C:=fun x2=>{ env:=[(0,.one (.ptr 459136 0)),(1,.one (.str x0)),(10,.one (.int .i64 x1)),(11,.one (.int .i64 x2)),(1000,.bQ (false,[.ptr 459136 0]) 16187000),(1003,.bQ (false,[.ptr 68719478374592 0]) 16187003),(1009,.bQ (false,[.int .i64 x3]) 16187009),(1156,.bQ (false,[.bool x4]) 16187156),(1183,.bQ (false,[.ptr 459136 0]) 16187183),(1184,.bQ (false,[.ptr 68719478374592 14]) 16187184),(1185,.bQ (false,[.str x5]) 16187185),(2002,.bQ (false,[.ptr 458880 0]) 16002),(2004,.bQ (false,[.ptr 459008 0]) 16004),(2006,.bQ (false,[.ptr 459136 0]) 16006)],ah:=[(459136,.box .mem [.int .i64 x6,.ref 46913601 [],.ref 46913602 [],.ref 46913603 []]),(46913601,.row .aA x7 false),(46913602,.row .aC x8 false),(46913603,.row .ay x9 false),(68719478374592,.box .mem [.int .i64 aM,.str aS,.int .i64 aQ,.bool aZ,.int .i64 aV,.int .i64 aY,.int .i64 aW,.int .i64 bq,.int .i64 bC,.int .i64 bz,.int .i64 bD,.int .i64 aR,.int .i64 bF,.int .i64 aX,.str bI,.int .i64 bB,.bool bt]),(458880,.box .mem [.int .i64 bA,.row .aA bR,.row .aC bZ,.row .ay b9]),(459008,.box .mem [.int .i64 cQ,.ref 46900801 [],.ref 46900802 [],.ref 46900803 []]),(46900801,.row .aA dQ false),(46900802,.row .aC dN false),(46900803,.row .ay dZ false)],base:=16187000 }
end
noncomputable def qD (x0:ByteArray) (x1 x6:Int) (x7:List (C .aA)) (x8:List (C .aC)) (x9:List (C .ay)) (bt:Bool) (bA:Int) (bR:List (C .aA)) (bZ:List (C .aC)) (b9:List (C .ay)) (n:Nat)   (Sn:DE→Option (aa×Int)):DE→Option (aa×Int):=fun x2=>
 cond (decide (x2<x1))
 (cond (decide (0≤x2)) (cond (decide (x2<(x9.length:Int))) (Option.bind x9[x2.toNat]? fun e114=>cond (decide (e114.Name=x0))
 (cond (decide (0≤x2)) (cond (decide (x2<(x9.length:Int))) (Option.bind x9[x2.toNat]? fun WD=>Option.bind (qj ((⟨x6,x7,x8,x9.set x2.toNat (⟨WD.Name,bt⟩:av)⟩:aa))) fun r116=>
 cond (!r116)
 (cond (2 != 0)
 (Option.bind (iR (⟨bA,bR,bZ,b9⟩:aa)) fun r117=>
 some (r117,2))
 (some ((⟨x6,x7,x8,x9.set x2.toNat (⟨WD.Name,bt⟩:av)⟩:aa),0)))
 (cond (0 != 0)
 (Option.bind (iR (⟨bA,bR,bZ,b9⟩:aa)) fun r118=>
 some (r118,0))
 (some ((⟨x6,x7,x8,x9.set x2.toNat (⟨WD.Name,bt⟩:av)⟩:aa),0)))) none) none)
 (Sn (IntKind.i64.wrap (x2+1)))) none) none)
 (none)
section
variable (x0:List (C .ay)) (x1:Int) (x3:Bool) (x4:Int) (x5:List (C .aA)) (x6:List (C .aC)) (x7:Int) (x8:ByteArray) (x9:Int) (aM:Bool) (aS aQ aZ aV aY aW bq bC bz bD:Int) (aR:ByteArray) (bF:Int) (aX:Bool) (bI:Int) (bB:List (C .aA)) (bt:List (C .aC)) (bA:List (C .ay)) (bR:Int) (bZ:List (C .aA)) (b9:List (C .aC)) (cQ:List (C .ay))
def R5:DH→St C:=fun x2=>{ env:=[(0,.one (.ref 100000 [])),(1,.one (.vo 68719478384704)),(7,.one (.int .i64 x1)),(8,.one (.int .i64 x2)),(1000,.bQ (false,[.ptr 459136 0]) 16163000),(1003,.bQ (false,[.ptr 68719478374592 0]) 16163003),(1156,.bQ (false,[.bool x3]) 16163156),(2002,.bQ (false,[.ptr 458880 0]) 16002),(2004,.bQ (false,[.ptr 459008 0]) 16004),(2006,.bQ (false,[.ptr 459136 0]) 16006)],ah:=[(100000,.row .ay x0 false),(68719478384704,.box (.sM 62 0 [(false,1)]) [.ptr 68719478374592 0]),(459136,.box .mem [.int .i64 x4,.ref 46913601 [],.ref 46913602 [],.ref 100000 []]),(46913601,.row .aA x5 false),(46913602,.row .aC x6 false),(68719478374592,.box .mem [.int .i64 x7,.str x8,.int .i64 x9,.bool aM,.int .i64 aS,.int .i64 aQ,.int .i64 aZ,.int .i64 aV,.int .i64 aY,.int .i64 aW,.int .i64 bq,.int .i64 bC,.int .i64 bz,.int .i64 bD,.str aR,.int .i64 bF,.bool aX]),(458880,.box .mem [.int .i64 bI,.row .aA bB,.row .aC bt,.row .ay bA]),(459008,.box .mem [.int .i64 bR,.ref 46900801 [],.ref 46900802 [],.ref 46900803 []]),(46900801,.row .aA bZ false),(46900802,.row .aC b9 false),(46900803,.row .ay cQ false)],base:=16163000 }
end
noncomputable def xN (x0:List (C .ay)) (x1 x4:Int) (x5:List (C .aA)) (x6:List (C .aC)) (x7:Int) (x8:ByteArray) (x9:Int) (aM:Bool) (aS aQ aZ aV aY aW bq bC bz bD:Int) (aR:ByteArray) (bF:Int) (aX:Bool) (bI:Int) (bB:List (C .aA)) (bt:List (C .aC)) (bA:List (C .ay)) (n:Nat)   (KT:DH→Option (aa×Int)):DH→Option (aa×Int):=fun x2=>
 cond (decide (x2<x1))
 (cond (decide (0≤x2)) (cond (decide (x2<(x0.length:Int))) (Option.bind x0[x2.toNat]? fun WH=>Option.bind (G62 WH (⟨x7,x8,x9,aM,aS,aQ,aZ,aV,aY,aW,bq,bC,bz,bD,aR,bF,aX⟩:az)) fun U8=>
 cond U8
 (cond (decide (x2<0))
 (cond (Nat.beq (([(⟨aR,false⟩:av)]:List (C .ay))).length 1&&decide (0≤(x0.length:Int))) (cond (decide ((x0.length:Int)≤(x0.length:Int))) (cond (decide ((x0.length+(([(⟨aR,false⟩:av)]:List (C .ay))).length)*24≤140737488355328)) (alt (cu (qF aR (((x0.take (x0.length:Int).toNat++(([(⟨aR,false⟩:av)]:List (C .ay)))++x0.drop (x0.length:Int).toNat).length:Int)) aX x4 x5 x6 (x0.take (x0.length:Int).toNat++(([(⟨aR,false⟩:av)]:List (C .ay)))++x0.drop (x0.length:Int).toNat) bI bB bt bA n ) n 0)
 (alt (cu (qE aR (((x0.take (x0.length:Int).toNat++(([(⟨aR,false⟩:av)]:List (C .ay)))++x0.drop (x0.length:Int).toNat).length:Int)) x4 x5 x6 (x0.take (x0.length:Int).toNat++(([(⟨aR,false⟩:av)]:List (C .ay)))++x0.drop (x0.length:Int).toNat) aX bI bB bt bA n ) n 0)
 (cu (qD aR (((x0.take (x0.length:Int).toNat++(([(⟨aR,false⟩:av)]:List (C .ay)))++x0.drop (x0.length:Int).toNat).length:Int)) x4 x5 x6 (x0.take (x0.length:Int).toNat++(([(⟨aR,false⟩:av)]:List (C .ay)))++x0.drop (x0.length:Int).toNat) aX bI bB bt bA n ) n 0))) none) none) none)
 (cond (Nat.beq (([(⟨aR,false⟩:av)]:List (C .ay))).length 1&&decide (0≤x2)) (cond (decide (x2≤(x0.length:Int))) (cond (decide ((x0.length+(([(⟨aR,false⟩:av)]:List (C .ay))).length)*24≤140737488355328)) (alt (cu (qF aR (((x0.take x2.toNat++(([(⟨aR,false⟩:av)]:List (C .ay)))++x0.drop x2.toNat).length:Int)) aX x4 x5 x6 (x0.take x2.toNat++(([(⟨aR,false⟩:av)]:List (C .ay)))++x0.drop x2.toNat) bI bB bt bA n ) n 0)
 (alt (cu (qE aR (((x0.take x2.toNat++(([(⟨aR,false⟩:av)]:List (C .ay)))++x0.drop x2.toNat).length:Int)) x4 x5 x6 (x0.take x2.toNat++(([(⟨aR,false⟩:av)]:List (C .ay)))++x0.drop x2.toNat) aX bI bB bt bA n ) n 0)
 (cu (qD aR (((x0.take x2.toNat++(([(⟨aR,false⟩:av)]:List (C .ay)))++x0.drop x2.toNat).length:Int)) x4 x5 x6 (x0.take x2.toNat++(([(⟨aR,false⟩:av)]:List (C .ay)))++x0.drop x2.toNat) aX bI bB bt bA n ) n 0))) none) none) none))
 (KT (IntKind.i64.wrap (x2+1)))) none) none)
 (cond (decide ((-1)<0))
 (cond (Nat.beq (([(⟨aR,false⟩:av)]:List (C .ay))).length 1&&decide (0≤(x0.length:Int))) (cond (decide ((x0.length:Int)≤(x0.length:Int))) (cond (decide ((x0.length+(([(⟨aR,false⟩:av)]:List (C .ay))).length)*24≤140737488355328)) (alt (cu (qF aR (((x0.take (x0.length:Int).toNat++(([(⟨aR,false⟩:av)]:List (C .ay)))++x0.drop (x0.length:Int).toNat).length:Int)) aX x4 x5 x6 (x0.take (x0.length:Int).toNat++(([(⟨aR,false⟩:av)]:List (C .ay)))++x0.drop (x0.length:Int).toNat) bI bB bt bA n ) n 0)
 (alt (cu (qE aR (((x0.take (x0.length:Int).toNat++(([(⟨aR,false⟩:av)]:List (C .ay)))++x0.drop (x0.length:Int).toNat).length:Int)) x4 x5 x6 (x0.take (x0.length:Int).toNat++(([(⟨aR,false⟩:av)]:List (C .ay)))++x0.drop (x0.length:Int).toNat) aX bI bB bt bA n ) n 0)
 (cu (qD aR (((x0.take (x0.length:Int).toNat++(([(⟨aR,false⟩:av)]:List (C .ay)))++x0.drop (x0.length:Int).toNat).length:Int)) x4 x5 x6 (x0.take (x0.length:Int).toNat++(([(⟨aR,false⟩:av)]:List (C .ay)))++x0.drop (x0.length:Int).toNat) aX bI bB bt bA n ) n 0))) none) none) none)
 (cond (Nat.beq (([(⟨aR,false⟩:av)]:List (C .ay))).length 1&&decide (0≤(-1))) (cond (decide ((-1)≤(x0.length:Int))) (cond (decide ((x0.length+(([(⟨aR,false⟩:av)]:List (C .ay))).length)*24≤140737488355328)) (alt (cu (qF aR (((x0.take (-1).toNat++(([(⟨aR,false⟩:av)]:List (C .ay)))++x0.drop (-1).toNat).length:Int)) aX x4 x5 x6 (x0.take (-1).toNat++(([(⟨aR,false⟩:av)]:List (C .ay)))++x0.drop (-1).toNat) bI bB bt bA n ) n 0)
 (alt (cu (qE aR (((x0.take (-1).toNat++(([(⟨aR,false⟩:av)]:List (C .ay)))++x0.drop (-1).toNat).length:Int)) x4 x5 x6 (x0.take (-1).toNat++(([(⟨aR,false⟩:av)]:List (C .ay)))++x0.drop (-1).toNat) aX bI bB bt bA n ) n 0)
 (cu (qD aR (((x0.take (-1).toNat++(([(⟨aR,false⟩:av)]:List (C .ay)))++x0.drop (-1).toNat).length:Int)) x4 x5 x6 (x0.take (-1).toNat++(([(⟨aR,false⟩:av)]:List (C .ay)))++x0.drop (-1).toNat) aX bI bB bt bA n ) n 0))) none) none) none))
section
variable (x0:ByteArray) (x1 x3:Int) (x4:List (C .aA)) (x5:List (C .aC)) (x6:List (C .ay)) (x7:Int) (x8:ByteArray) (x9:Int) (aM:Bool) (aS aQ aZ aV aY aW bq bC bz bD:Int) (aR:ByteArray) (bF:Int) (aX:Bool) (bI:Int) (bB:List (C .aA)) (bt:List (C .aC)) (bA:List (C .ay)) (bR:Int) (bZ:List (C .aA)) (b9:List (C .aC)) (cQ:List (C .ay))
def R6:DL→St C:=fun x2=>{ env:=[(0,.one (.ptr 459136 0)),(1,.one (.str x0)),(10,.one (.int .i64 x1)),(11,.one (.int .i64 x2)),(1000,.bQ (false,[.ptr 459136 0]) 16156000),(1003,.bQ (false,[.ptr 68719478374592 0]) 16156003),(2002,.bQ (false,[.ptr 458880 0]) 16002),(2004,.bQ (false,[.ptr 459008 0]) 16004),(2006,.bQ (false,[.ptr 459136 0]) 16006)],ah:=[(459136,.box .mem [.int .i64 x3,.ref 46913601 [],.ref 46913602 [],.ref 46913603 []]),(46913601,.row .aA x4 false),(46913602,.row .aC x5 false),(46913603,.row .ay x6 false),(68719478374592,.box .mem [.int .i64 x7,.str x8,.int .i64 x9,.bool aM,.int .i64 aS,.int .i64 aQ,.int .i64 aZ,.int .i64 aV,.int .i64 aY,.int .i64 aW,.int .i64 bq,.int .i64 bC,.int .i64 bz,.int .i64 bD,.str aR,.int .i64 bF,.bool aX]),(458880,.box .mem [.int .i64 bI,.row .aA bB,.row .aC bt,.row .ay bA]),(459008,.box .mem [.int .i64 bR,.ref 46900801 [],.ref 46900802 [],.ref 46900803 []]),(46900801,.row .aA bZ false),(46900802,.row .aC b9 false),(46900803,.row .ay cQ false)],base:=16156000 }
end
noncomputable def xO (x0:ByteArray) (x1 x3:Int) (x4:List (C .aA)) (x5:List (C .aC)) (x6:List (C .ay)) (x7:Int) (x8:ByteArray) (x9:Int) (aM:Bool) (aS aQ aZ aV aY aW bq bC bz bD:Int) (aR:ByteArray) (bF:Int) (aX:Bool) (bI:Int) (bB:List (C .aA)) (bt:List (C .aC)) (bA:List (C .ay)) (n:Nat)   (KU:DL→Option (aa×Int)):DL→Option (aa×Int):=fun x2=>
 cond (decide (x2<x1))
 (cond (decide (0≤x2)) (cond (decide (x2<(x6.length:Int))) (Option.bind x6[x2.toNat]? fun XR=>cond (decide (XR.Name=x0))
 (cond (decide (0≤x2)) (cond (decide (x2<(x6.length:Int))) (alt (cu (BK aR (x6.length:Int) aX x3 x4 x5 x6 bI bB bt bA n ) n 0)
 (alt (cu (BI aR (x6.length:Int) x3 x4 x5 x6 aX bI bB bt bA n ) n 0)
 (cu (BH aR (x6.length:Int) x3 x4 x5 x6 aX bI bB bt bA n ) n 0))) none) none)
 (KU (IntKind.i64.wrap (x2+1)))) none) none)
 (cu (xN x6 (x6.length:Int) x3 x4 x5 x7 x8 x9 aM aS aQ aZ aV aY aW bq bC bz bD aR bF aX bI bB bt bA n ) n 0)
section
variable (x0:ByteArray) (x1 x3:Int) (x4:List (C .aA)) (x5:List (C .aC)) (x6:List (C .ay)) (x7:Int) (x8:ByteArray) (x9:Int) (aM:Bool) (aS aQ aZ aV aY aW bq bC bz bD:Int) (aR:ByteArray) (bF:Int) (aX:Bool) (bI:Int) (bB:List (C .aA)) (bt:List (C .aC)) (bA:List (C .ay)) (bR:Int) (bZ:List (C .aA)) (b9:List (C .aC)) (cQ:List (C .ay))
def Z0:DD→St C:=fun x2=>{ env:=[(0,.one (.ptr 459136 0)),(1,.one (.str x0)),(10,.one (.int .i64 x1)),(11,.one (.int .i64 x2)),(1000,.bQ (false,[.ptr 459136 0]) 16197000),(1003,.bQ (false,[.ptr 68719478374592 0]) 16197003),(2002,.bQ (false,[.ptr 458880 0]) 16002),(2004,.bQ (false,[.ptr 459008 0]) 16004),(2006,.bQ (false,[.ptr 459136 0]) 16006)],ah:=[(459136,.box .mem [.int .i64 x3,.ref 46913601 [],.ref 46913602 [],.ref 46913603 []]),(46913601,.row .aA x4 false),(46913602,.row .aC x5 false),(46913603,.row .ay x6 false),(68719478374592,.box .mem [.int .i64 x7,.str x8,.int .i64 x9,.bool aM,.int .i64 aS,.int .i64 aQ,.int .i64 aZ,.int .i64 aV,.int .i64 aY,.int .i64 aW,.int .i64 bq,.int .i64 bC,.int .i64 bz,.int .i64 bD,.str aR,.int .i64 bF,.bool aX]),(458880,.box .mem [.int .i64 bI,.row .aA bB,.row .aC bt,.row .ay bA]),(459008,.box .mem [.int .i64 bR,.ref 46900801 [],.ref 46900802 [],.ref 46900803 []]),(46900801,.row .aA bZ false),(46900802,.row .aC b9 false),(46900803,.row .ay cQ false)],base:=16197000 }
end
noncomputable def xM (x0:ByteArray) (x1 x3:Int) (x4:List (C .aA)) (x5:List (C .aC)) (x6:List (C .ay)) (bF bI:Int) (bB:List (C .aA)) (bt:List (C .aC)) (bA:List (C .ay)) (n:Nat)   (Sl:DD→Option (aa×Int)):DD→Option (aa×Int):=fun x2=>
 cond (decide (x2<x1))
 (cond (decide (0≤x2)) (cond (decide (x2<(x4.length:Int))) (Option.bind x4[x2.toNat]? fun e119=>cond (decide (e119.Name=x0))
 (cond (decide (0≤x2)) (cond (decide (x2<(x4.length:Int))) (Option.bind x4[x2.toNat]? fun e120=>cond (e120.dA==0)
 (cond (3 != 0)
 (Option.bind (iR (⟨bI,bB,bt,bA⟩:aa)) fun r121=>
 some (r121,3))
 (some ((⟨x3,x4,x5,x6⟩:aa),0)))
 (Option.bind x4[x2.toNat]? fun fa=>Option.bind (x4.set x2.toNat (⟨fa.Name,fa.Version,fa.cC,fa.aB,fa.Want,fa.Down,fa.ct,fa.Next,fa.dA,fa.aP,fa.bN,bF,fa.cE⟩:af))[x2.toNat]? fun gY=>Option.bind (qj ((⟨x3,(x4.set x2.toNat (⟨fa.Name,fa.Version,fa.cC,fa.aB,fa.Want,fa.Down,fa.ct,fa.Next,fa.dA,fa.aP,fa.bN,bF,fa.cE⟩:af)).set x2.toNat (⟨gY.Name,x3,gY.cC,gY.aB,gY.Want,gY.Down,gY.ct,gY.Next,gY.dA,gY.aP,gY.bN,gY.cK,gY.cE⟩:af),x5,x6⟩:aa))) fun r124=>
 cond (!r124)
 (cond (2 != 0)
 (Option.bind (iR (⟨bI,bB,bt,bA⟩:aa)) fun r125=>
 some (r125,2))
 (some ((⟨x3,(x4.set x2.toNat (⟨fa.Name,fa.Version,fa.cC,fa.aB,fa.Want,fa.Down,fa.ct,fa.Next,fa.dA,fa.aP,fa.bN,bF,fa.cE⟩:af)).set x2.toNat (⟨gY.Name,x3,gY.cC,gY.aB,gY.Want,gY.Down,gY.ct,gY.Next,gY.dA,gY.aP,gY.bN,gY.cK,gY.cE⟩:af),x5,x6⟩:aa),0)))
 (cond (0 != 0)
 (Option.bind (iR (⟨bI,bB,bt,bA⟩:aa)) fun r126=>
 some (r126,0))
 (some ((⟨x3,(x4.set x2.toNat (⟨fa.Name,fa.Version,fa.cC,fa.aB,fa.Want,fa.Down,fa.ct,fa.Next,fa.dA,fa.aP,fa.bN,bF,fa.cE⟩:af)).set x2.toNat (⟨gY.Name,x3,gY.cC,gY.aB,gY.Want,gY.Down,gY.ct,gY.Next,gY.dA,gY.aP,gY.bN,gY.cK,gY.cE⟩:af),x5,x6⟩:aa),0))))) none) none)
 (Sl (IntKind.i64.wrap (x2+1)))) none) none)
 (cond (3 != 0)
 (Option.bind (iR (⟨bI,bB,bt,bA⟩:aa)) fun r127=>
 some (r127,3))
 (some ((⟨x3,x4,x5,x6⟩:aa),0)))
section
variable (x0:List (C .aC)) (x1:Nat) (x2:ByteArray) (x3 x5 x6:Int) (x7:List (C .ay)) (x8 x9 aM aQ:Int) (aZ:List (C .aA)) (aV:ByteArray) (aY:Bool) (aW:Int) (bq:ByteArray) (bC:Int) (bz:Bool) (bD aR bF aX bI bB bt bA bR bZ:Int) (b9:ByteArray) (cQ:Int) (dQ:Bool) (dN:Int) (dZ:List (C .aA)) (fB:List (C .aC)) (fV:List (C .ay)) (fM:Int) (fK:List (C .aA)) (fR:List (C .aC)) (iX:List (C .ay))
noncomputable def Uk (n:Nat) (de gN:St C→Option (aa×Int)) (x:O7):Option (aa×Int):=iter (fun rec S=>run (wo n) (Du n) (au (ak Try.f52) [1,1,1,0,0,1,1,0,0,1,1,1,1,0,1,0,0,1,1,0,0,1,1,1,0,1,0,0]) 6 S (dq rec (cJ 6 (bf (run (wo n) (Du n) (au (ak Try.f52) [1,1,1,0,0,1,1,0,0,1,1,1,1,0,1,0,0,1,1,0,0,1,1,1,1]) 5) (cJ 5 (bf (run (wo n) (Du n) (au (ak Try.f52) [1,1,1,0,0,1,1,0,0,1,1,1,1,0,1,0,0,1,1,1]) 4) (dq (gR [0,5,6,7,55,56,73,74,75] gN) (cJ 4 (bf (run (wo n) (Du n) (au (ak Try.f52) [1,1,1,0,0,1,1,0,0,1,1,1,1,1]) 3) (cJ 3 (bf (run (wo n) (Du n) (au (ak Try.f52) [1,1,1,0,0,1,1,1]) 2) (dq (gR [0,55,56] de) (cJ 2 (dU (wo n) Try.f52 (da 16036000 16000 (some 36) (dz (fb n) (au (ak Try.f25) [1,1,1,1,0,1,0,1,0]) 2 (dS (iu n) (cJ 0 (bf (run (fb n) (iu n) (au (ak Try.f25) [1,1,1,1,1]) 0) (dU (fb n) Try.f25 (da 15000 0 (some 15) (dz (X7 n) (au (ak Try.f7) [1,1,1,0,0]) 2 (dS (F7 n) (bf (run (X7 n) (F7 n) (au (ak Try.f7) [1,1,1,0,1]) 0) (bf (run (X7 n) (F7 n) (au (ak Try.f7) [1,1,1,1]) 0) (eu (X7 n) Try.f7 jA)))))))))))))))))))))))))) [0,5,6,7,9,10,55,56,73,74,75,84,85,86] n (s7_4 x0 x1 x2 x3 x5 x6 x7 x8 x9 aM aQ aZ aV aY aW bq bC bz bD aR bF aX bI bB bt bA bR bZ b9 cQ dQ dN dZ fB fV fM fK fR iX x)
theorem m7_4 (n:Nat) (de gN:St C→Option (aa×Int)) (x:O7):Uk x0 x1 x2 x3 x5 x6 x7 x8 x9 aM aQ aZ aV aY aW bq bC bz bD aR bF aX bI bB bt bA bR bZ b9 cQ dQ dN dZ fB fV fM fK fR iX n de gN x=cu (K7 x0 x2 x3 x9 aM aV n  (fun x=>de (IB x5 aQ aZ x7 aW bq bC bz bD aR bF aX bI bB bt bA bR bZ b9 cQ dQ dN dZ fB fV fM fK fR iX x)) (fun x=>gN (UP x0 x1 x5 x6 x7 x8 aQ aZ aW bq bC bz bD aR bF aX bI bB bt bA bR bZ b9 cQ dQ dN dZ fB fV fM fK fR iX x))) n x:=by
 refine iter_eq _ _ (fun zQ x=>?_) n x;obtain ⟨x4,aS⟩:=x
 kernel_rfl
end
section
variable (x0:List (C .aC)) (x1:Nat) (x4 x5:Int) (x6:List (C .ay)) (x7 x9:Int) (aM:List (C .aA)) (aS:Int) (aQ:ByteArray) (aZ:Int) (aV:Bool) (aY aW bq bC bz bD aR bF aX bI:Int) (bB:ByteArray) (bt:Int) (bA:Bool) (bR:Int) (bZ:List (C .aA)) (b9:List (C .aC)) (cQ:List (C .ay)) (dQ:Int) (dN:List (C .aA)) (dZ:List (C .aC)) (fB:List (C .ay))
noncomputable def Ul (n:Nat) (de:St C→Option (aa×Int)) (x:Gj):Option (aa×Int):=iter (fun rec S=>run (wo n) (Du n) (au (ak Try.f52) [1,1,1,0,0,1,1,0,0,1,1,1,1,0,1,0,0]) 4 S (dq rec (cJ 4 (bf (run (wo n) (Du n) (au (ak Try.f52) [1,1,1,0,0,1,1,0,0,1,1,1,1,1]) 3) (cJ 3 (bf (run (wo n) (Du n) (au (ak Try.f52) [1,1,1,0,0,1,1,1]) 2) (dq (gR [0,55,56] de) (cJ 2 (dU (wo n) Try.f52 (da 16036000 16000 (some 36) (dz (fb n) (au (ak Try.f25) [1,1,1,1,0,1,0,1,0]) 2 (dS (iu n) (cJ 0 (bf (run (fb n) (iu n) (au (ak Try.f25) [1,1,1,1,1]) 0) (dU (fb n) Try.f25 (da 15000 0 (some 15) (dz (X7 n) (au (ak Try.f7) [1,1,1,0,0]) 2 (dS (F7 n) (bf (run (X7 n) (F7 n) (au (ak Try.f7) [1,1,1,0,1]) 0) (bf (run (X7 n) (F7 n) (au (ak Try.f7) [1,1,1,1]) 0) (eu (X7 n) Try.f7 jA))))))))))))))))))))) [0,5,6,7,55,56,73,74,75] n (UP x0 x1 x4 x5 x6 x7 x9 aM aS aQ aZ aV aY aW bq bC bz bD aR bF aX bI bB bt bA bR bZ b9 cQ dQ dN dZ fB x)
theorem m7_3 (n:Nat) (de:St C→Option (aa×Int)) (x:Gj):Ul x0 x1 x4 x5 x6 x7 x9 aM aS aQ aZ aV aY aW bq bC bz bD aR bF aX bI bB bt bA bR bZ b9 cQ dQ dN dZ fB n de x=cu (K8 x0 x1 x5 x6 x7 x9 n  (fun x=>de (IB x4 x9 aM x6 aS aQ aZ aV aY aW bq bC bz bD aR bF aX bI bB bt bA bR bZ b9 cQ dQ dN dZ fB x))) n x:=by
 refine iter_eq _ _ (fun gN x=>?_) n x;obtain ⟨x2,x3,x8⟩:=x
 refine Eq.trans (b:=
  cond (decide (x8<x7))
  (cond (decide (0≤x8)) (cond (decide (x8<(x6.length:Int))) (Option.bind x6[x8.toNat]? fun HJ=>cond HJ.kJ
  ((fun x=>gN (UP x0 x1 x4 x5 x6 x7 x9 aM aS aQ aZ aV aY aW bq bC bz bD aR bF aX bI bB bt bA bR bZ b9 cQ dQ dN dZ fB x)) ((x2,x3,IntKind.i64.wrap (x8+1))))
  (Uk x0 x1 x2 x3 x4 x5 x6 x7 x8 (x0.length:Int) x9 aM HJ.Name HJ.kJ aS aQ aZ aV aY aW bq bC bz bD aR bF aX bI bB bt bA bR bZ b9 cQ dQ dN dZ fB n  de gN (0,0))) none) none)
  (cond (decide (x3≥0))
  (Option.bind x0[x1]? fun dV=>Option.bind (x0.set x1 (⟨dV.ax,dV.Number,dV.Version,dV.aB,2,dV.Ending,dV.bw⟩:aq))[x1]? fun aK=>Option.bind ((x0.set x1 (⟨dV.ax,dV.Number,dV.Version,dV.aB,2,dV.Ending,dV.bw⟩:aq)).set x1 (⟨aK.ax,aK.Number,x9,aK.aB,aK.State,aK.Ending,aK.bw⟩:aq))[x1]? fun Aw=>(fun x=>de (IB x4 x9 aM x6 aS aQ aZ aV aY aW bq bC bz bD aR bF aX bI bB bt bA bR bZ b9 cQ dQ dN dZ fB x)) ((IntKind.i64.wrap (x5+1),((x0.set x1 (⟨dV.ax,dV.Number,dV.Version,dV.aB,2,dV.Ending,dV.bw⟩:aq)).set x1 (⟨aK.ax,aK.Number,x9,aK.aB,aK.State,aK.Ending,aK.bw⟩:aq)).set x1 (⟨Aw.ax,Aw.Number,Aw.Version,Aw.aB,Aw.State,Aw.Ending,x2⟩:aq))))
  ((fun x=>de (IB x4 x9 aM x6 aS aQ aZ aV aY aW bq bC bz bD aR bF aX bI bB bt bA bR bZ b9 cQ dQ dN dZ fB x)) ((IntKind.i64.wrap (x5+1),x0))))) (by kernel_rfl) ?_
 simp only [m7_4];rfl
end
section
variable (x0 x2:Int) (x3:List (C .aA)) (x5:List (C .ay)) (x6:Int) (x7:ByteArray) (x8:Int) (x9:Bool) (aM aS aQ aZ aV aY aW bq bC bz:Int) (bD:ByteArray) (aR:Int) (bF:Bool) (aX:Int) (bI:List (C .aA)) (bB:List (C .aC)) (bt:List (C .ay)) (bA:Int) (bR:List (C .aA)) (bZ:List (C .aC)) (b9:List (C .ay))
noncomputable def Um (n:Nat)  (x:AW):Option (aa×Int):=iter (fun rec S=>run (wo n) (Du n) (au (ak Try.f52) [1,1,1,0,0]) 2 S (dq rec (cJ 2 (dU (wo n) Try.f52 (da 16036000 16000 (some 36) (dz (fb n) (au (ak Try.f25) [1,1,1,1,0,1,0,1,0]) 2 (dS (iu n) (cJ 0 (bf (run (fb n) (iu n) (au (ak Try.f25) [1,1,1,1,1]) 0) (dU (fb n) Try.f25 (da 15000 0 (some 15) (dz (X7 n) (au (ak Try.f7) [1,1,1,0,0]) 2 (dS (F7 n) (bf (run (X7 n) (F7 n) (au (ak Try.f7) [1,1,1,0,1]) 0) (bf (run (X7 n) (F7 n) (au (ak Try.f7) [1,1,1,1]) 0) (eu (X7 n) Try.f7 jA)))))))))))))))) [0,55,56] n (IB x0 x2 x3 x5 x6 x7 x8 x9 aM aS aQ aZ aV aY aW bq bC bz bD aR bF aX bI bB bt bA bR bZ b9 x)
theorem m7_2 (n:Nat)  (x:AW):Um x0 x2 x3 x5 x6 x7 x8 x9 aM aS aQ aZ aV aY aW bq bC bz bD aR bF aX bI bB bt bA bR bZ b9 n  x=cu (BJ x0 x2 x3 x5 aX bI bB bt n  ) n x:=by
 refine iter_eq _ _ (fun de x=>?_) n x;obtain ⟨x1,x4⟩:=x
 refine Eq.trans (b:=
  cond (decide (x1<x0))
  (cond (decide (0≤x1)) (cond (decide (x1<(x4.length:Int))) (Option.bind x4[x1.toNat]? fun CX=>cond (CX.State != 1)
  ((fun x=>de (IB x0 x2 x3 x5 x6 x7 x8 x9 aM aS aQ aZ aV aY aW bq bC bz bD aR bF aX bI bB bt bA bR bZ b9 x)) ((IntKind.i64.wrap (x1+1),x4)))
  (Ul x4 x1.toNat x0 x1 x5 (x5.length:Int) x2 x3 x6 x7 x8 x9 aM aS aQ aZ aV aY aW bq bC bz bD aR bF aX bI bB bt bA bR bZ b9 n  de (((⟨#[]⟩:ByteArray),(-1),0)))) none) none)
  (Option.bind (qj (⟨x2,x3,x4,x5⟩:aa)) fun pA=>
  cond (!pA)
  (cond (2 != 0)
  (Option.bind (iR (⟨aX,bI,bB,bt⟩:aa)) fun fU=>
  some (fU,2))
  (some ((⟨x2,x3,x4,x5⟩:aa),0)))
  (cond (0 != 0)
  (Option.bind (iR (⟨aX,bI,bB,bt⟩:aa)) fun jk=>
  some (jk,0))
  (some ((⟨x2,x3,x4,x5⟩:aa),0))))) (by kernel_rfl) ?_
 simp only [m7_3];rfl
end
section
variable (x0 x2:Int) (x3:List (C .aA)) (x5:List (C .ay)) (x6:Int) (x7:ByteArray) (x8:Int) (x9:Bool) (aM aS aQ aZ aV aY aW bq bC bz:Int) (bD:ByteArray) (aR:Int) (bF:Bool) (aX:Int) (bI:List (C .aA)) (bB:List (C .aC)) (bt:List (C .ay)) (bA:Int) (bR:List (C .aA)) (bZ:List (C .aC)) (b9:List (C .ay))
noncomputable def H4 (n:Nat)  (x:O8):Option (aa×Int):=iter (fun rec S=>run (wo n) (Du n) (au (ak Try.f52) [1,0,1,0,0]) 0 S (dq rec (cJ 0 (bf (run (wo n) (Du n) (au (ak Try.f52) [1,1]) 0) (dU (wo n) Try.f52 (da 16036000 16000 (some 36) (dz (fb n) (au (ak Try.f25) [1,1,1,1,0,1,0,1,0]) 2 (dS (iu n) (cJ 0 (bf (run (fb n) (iu n) (au (ak Try.f25) [1,1,1,1,1]) 0) (dU (fb n) Try.f25 (da 15000 0 (some 15) (dz (X7 n) (au (ak Try.f7) [1,1,1,0,0]) 2 (dS (F7 n) (bf (run (X7 n) (F7 n) (au (ak Try.f7) [1,1,1,0,1]) 0) (bf (run (X7 n) (F7 n) (au (ak Try.f7) [1,1,1,1]) 0) (eu (X7 n) Try.f7 jA))))))))))))))))) [0,25,26] n (UQ x0 x2 x3 x5 x6 x7 x8 x9 aM aS aQ aZ aV aY aW bq bC bz bD aR bF aX bI bB bt bA bR bZ b9 x)
theorem abj (n:Nat)  (x:O8):H4 x0 x2 x3 x5 x6 x7 x8 x9 aM aS aQ aZ aV aY aW bq bC bz bD aR bF aX bI bB bt bA bR bZ b9 n  x=cu (u0 x0 x2 x3 x5 aX bI bB bt n  ) n x:=by
 refine iter_eq _ _ (fun eW x=>?_) n x;obtain ⟨x1,x4⟩:=x
 refine Eq.trans (b:=
  cond (decide (x1<x0))
  (cond (decide (0≤x1)) (cond (decide (x1<(x4.length:Int))) (Option.bind x4[x1.toNat]? fun e8=>cond (e8.State==2)
  (Option.bind x4[x1.toNat]? fun e9=>Option.bind (x4.set x1.toNat (⟨e9.ax,e9.Number,e9.Version,e9.aB,3,e9.Ending,e9.bw⟩:aq))[x1.toNat]? fun tF=>(fun x=>eW (UQ x0 x2 x3 x5 x6 x7 x8 x9 aM aS aQ aZ aV aY aW bq bC bz bD aR bF aX bI bB bt bA bR bZ b9 x)) ((IntKind.i64.wrap (x1+1),(x4.set x1.toNat (⟨e9.ax,e9.Number,e9.Version,e9.aB,3,e9.Ending,e9.bw⟩:aq)).set x1.toNat (⟨tF.ax,tF.Number,x2,tF.aB,tF.State,tF.Ending,tF.bw⟩:aq))))
  ((fun x=>eW (UQ x0 x2 x3 x5 x6 x7 x8 x9 aM aS aQ aZ aV aY aW bq bC bz bD aR bF aX bI bB bt bA bR bZ b9 x)) ((IntKind.i64.wrap (x1+1),x4)))) none) none)
  (Um (x4.length:Int) x2 x3 x5 x6 x7 x8 x9 aM aS aQ aZ aV aY aW bq bC bz bD aR bF aX bI bB bt bA bR bZ b9 n   (0,x4))) (by kernel_rfl) ?_
 simp only [m7_2];rfl
end
section
variable (x3:Int) (x4:List (C .aA)) (x5:List (C .ay)) (x6:Int) (x7:ByteArray) (x8:Int) (x9:Bool) (aM aS aQ aZ aV aY aW bq bC bz:Int) (bD:ByteArray) (aR:Int) (bF:Bool) (aX:Int) (bI:List (C .aA)) (bB:List (C .aC)) (bt:List (C .ay)) (bA:Int) (bR:List (C .aA)) (bZ:List (C .aC)) (b9:List (C .ay))
noncomputable def NZ (n:Nat)  (x:O6):Option (aa×Int):=iter (fun rec S=>run (H2 n) (Ps n) (au (ak Try.f59) [1,1,1,0,1,0,0]) 0 S (dq rec (cJ 0 (bf (run (H2 n) (Ps n) (au (ak Try.f59) [1,1,1,1]) 0) (dU (H2 n) Try.f59 (da 16037018000 16037000 (some 18) (dz (wo n) (au (ak Try.f52) [0]) 6 (dS (Du n) (bf (run (wo n) (Du n) (au (ak Try.f52) [1]) 0) (dU (wo n) Try.f52 (da 16036000 16000 (some 36) (dz (fb n) (au (ak Try.f25) [1,1,1,1,0,1,0,1,0]) 2 (dS (iu n) (cJ 0 (bf (run (fb n) (iu n) (au (ak Try.f25) [1,1,1,1,1]) 0) (dU (fb n) Try.f25 (da 15000 0 (some 15) (dz (X7 n) (au (ak Try.f7) [1,1,1,0,0]) 2 (dS (F7 n) (bf (run (X7 n) (F7 n) (au (ak Try.f7) [1,1,1,0,1]) 0) (bf (run (X7 n) (F7 n) (au (ak Try.f7) [1,1,1,1]) 0) (eu (X7 n) Try.f7 jA)))))))))))))))))))))) [0,1,5,6] n (UO x3 x4 x5 x6 x7 x8 x9 aM aS aQ aZ aV aY aW bq bC bz bD aR bF aX bI bB bt bA bR bZ b9 x)
theorem m7_5 (n:Nat)  (x:O6):NZ x3 x4 x5 x6 x7 x8 x9 aM aS aQ aZ aV aY aW bq bC bz bD aR bF aX bI bB bt bA bR bZ b9 n  x=cu (IG x3 x4 x5 aX bI bB bt n  ) n x:=by
 refine iter_eq _ _ (fun KS x=>?_) n x;obtain ⟨x0,x1,x2⟩:=x
 refine Eq.trans (b:=
  cond (decide (x2<(x0.length:Int)))
  (cond (decide (0≤x2)) (cond (decide (x2<(x0.length:Int))) (Option.bind x0[x2.toNat]? fun WC=>Option.bind (Dt WC) fun ee=>
  cond (!ee)
  (cond (decide (0≤x1)) (cond (decide (x1<(x0.length:Int))) (Option.bind x0[x1.toNat]? fun WB=>(fun x=>KS (UO x3 x4 x5 x6 x7 x8 x9 aM aS aQ aZ aV aY aW bq bC bz bD aR bF aX bI bB bt bA bR bZ b9 x)) ((x0.set x1.toNat WC,IntKind.i64.wrap (x1+1),IntKind.i64.wrap (x2+1)))) none) none)
  ((fun x=>KS (UO x3 x4 x5 x6 x7 x8 x9 aM aS aQ aZ aV aY aW bq bC bz bD aR bF aX bI bB bt bA bR bZ b9 x)) ((x0,x1,IntKind.i64.wrap (x2+1))))) none) none)
  (cond (decide ((0:Int)≤x1)) (cond (decide ((x1:Int)≤(x0.length:Int))) (cond (decide ((x0.length:Int)≤(x0.length:Int))) (cond (decide ((0:Int)≤x1)) (cond (decide (x1≤((x0.take ((x1:Int).toNat)++List.replicate (((x0.length:Int).toNat)-((x1:Int).toNat)) (⟨⟨#[]⟩,0,0,0,0,false,⟨#[]⟩⟩:C .aC)++x0.drop ((x0.length:Int).toNat)).length:Int))) (H4 ((((x0.take ((x1:Int).toNat)++List.replicate (((x0.length:Int).toNat)-((x1:Int).toNat)) (⟨⟨#[]⟩,0,0,0,0,false,⟨#[]⟩⟩:C .aC)++x0.drop ((x0.length:Int).toNat)).take x1.toNat).length:Int)) x3 x4 x5 x6 x7 x8 x9 aM aS aQ aZ aV aY aW bq bC bz bD aR bF aX bI bB bt bA bR bZ b9 n   ((0,(x0.take ((x1:Int).toNat)++List.replicate (((x0.length:Int).toNat)-((x1:Int).toNat)) (⟨⟨#[]⟩,0,0,0,0,false,⟨#[]⟩⟩:C .aC)++x0.drop ((x0.length:Int).toNat)).take x1.toNat))) none) none) none) none) none)) (by kernel_rfl) ?_
 simp only [abj];rfl
end
section
variable (x0:List (C .aC)) (x1 x3:Int) (x4:List (C .aA)) (x5:List (C .ay)) (x6:Int) (x7:ByteArray) (x8:Int) (x9:Bool) (aM aS aQ aZ aV aY aW bq bC bz:Int) (bD:ByteArray) (aR:Int) (bF:Bool) (aX:Int) (bI:List (C .aA)) (bB:List (C .aC)) (bt:List (C .ay)) (bA:Int) (bR:List (C .aA)) (bZ:List (C .aC)) (b9:List (C .ay))
noncomputable def Un (n:Nat)  (x:O9):Option (aa×Int):=iter (fun rec S=>run Dk (JH n) (au (ak Try.f106) [1,0,1,0,0]) 0 S (dq rec (cJ 0 (bf (run Dk (JH n) (au (ak Try.f106) [1,1]) 0) (dU Dk Try.f106 (da 16037019010000 16037019000 (some 10) (dz (H2 n) (au (ak Try.f59) [1,0]) 3 (dS (Ps n) (bf (run (H2 n) (Ps n) (au (ak Try.f59) [1,1]) 0) (dU (H2 n) Try.f59 (da 16037018000 16037000 (some 18) (dz (wo n) (au (ak Try.f52) [0]) 6 (dS (Du n) (bf (run (wo n) (Du n) (au (ak Try.f52) [1]) 0) (dU (wo n) Try.f52 (da 16036000 16000 (some 36) (dz (fb n) (au (ak Try.f25) [1,1,1,1,0,1,0,1,0]) 2 (dS (iu n) (cJ 0 (bf (run (fb n) (iu n) (au (ak Try.f25) [1,1,1,1,1]) 0) (dU (fb n) Try.f25 (da 15000 0 (some 15) (dz (X7 n) (au (ak Try.f7) [1,1,1,0,0]) 2 (dS (F7 n) (bf (run (X7 n) (F7 n) (au (ak Try.f7) [1,1,1,0,1]) 0) (bf (run (X7 n) (F7 n) (au (ak Try.f7) [1,1,1,1]) 0) (eu (X7 n) Try.f7 jA))))))))))))))))))))))))))) [0,1,7,8] n (aaf x0 x1 x3 x4 x5 x6 x7 x8 x9 aM aS aQ aZ aV aY aW bq bC bz bD aR bF aX bI bB bt bA bR bZ b9 x)
theorem m7_0 (n:Nat)  (x:O9):Un x0 x1 x3 x4 x5 x6 x7 x8 x9 aM aS aQ aZ aV aY aW bq bC bz bD aR bF aX bI bB bt bA bR bZ b9 n  x=cu (II x0 x1 x3 x4 x5 aX bI bB bt n  ) n x:=by
 refine iter_eq _ _ (fun bu x2=>?_) n x
 refine Eq.trans (b:=
  cond (decide (x2<x1))
  (cond (decide (0≤x2)) (cond (decide (x2<(x0.length:Int))) (Option.bind x0[x2.toNat]? fun e6=>Option.bind (Dt e6) fun r7=>
  cond r7
  (cond (x2==(-1))
  (H4 (x0.length:Int) x3 x4 x5 x6 x7 x8 x9 aM aS aQ aZ aV aY aW bq bC bz bD aR bF aX bI bB bt bA bR bZ b9 n   (0,x0))
  (NZ x3 x4 x5 x6 x7 x8 x9 aM aS aQ aZ aV aY aW bq bC bz bD aR bF aX bI bB bt bA bR bZ b9 n   ((x0,x2,IntKind.i64.wrap (x2+1)))))
  ((fun x=>bu (aaf x0 x1 x3 x4 x5 x6 x7 x8 x9 aM aS aQ aZ aV aY aW bq bC bz bD aR bF aX bI bB bt bA bR bZ b9 x)) (IntKind.i64.wrap (x2+1)))) none) none)
  (cond ((-1)==(-1))
  (H4 (x0.length:Int) x3 x4 x5 x6 x7 x8 x9 aM aS aQ aZ aV aY aW bq bC bz bD aR bF aX bI bB bt bA bR bZ b9 n   (0,x0))
  (NZ x3 x4 x5 x6 x7 x8 x9 aM aS aQ aZ aV aY aW bq bC bz bD aR bF aX bI bB bt bA bR bZ b9 n   ((x0,(-1),IntKind.i64.wrap ((-1)+1)))))) (by kernel_rfl) ?_
 simp only [abj,m7_5];rfl
end
section
variable (x0:ByteArray) (x1:Int) (x3:List (C .aA)) (x4:Nat) (x5 x6:ByteArray) (x7:Int) (x8:Bool) (x9 aM aS aQ aZ aV aY aW bq bC bz:Int) (bD:List (C .aC)) (aR:List (C .ay)) (bF:Int) (aX:ByteArray) (bI:Int) (bB:Bool) (bt bA bR bZ b9 cQ dQ dN dZ fB:Int) (fV:ByteArray) (fM:Int) (fK:Bool) (fR:ByteArray) (iX:Int) (kC:Bool) (kz mh rD zv zu PD PC PB PA Pz Bh:Int) (Bg:List (C .aA)) (Bf:List (C .aC)) (Be:List (C .ay)) (Py:Int) (Px:List (C .aA)) (Pw:List (C .aC)) (Pv:List (C .ay))
noncomputable def Ui (n:Nat)  (x:O4):Option (aa×Int):=iter (fun rec S=>run wu (Eu n) (au (ak Try.f36) [1,0,1,0,0]) 0 S (dq rec (cJ 0 (bf (run wu (Eu n) (au (ak Try.f36) [1,1]) 0) (dU wu Try.f36 (da 16088000 16000 (some 88) (pC (fb n) (au (ak Try.f25) [1,1,1,1,0,1,0,1,1,1,0,1,1,1]) 4092 [5,6] (dS (iu n) (cJ 0 (bf (run (fb n) (iu n) (au (ak Try.f25) [1,1,1,1,1]) 0) (dU (fb n) Try.f25 (da 15000 0 (some 15) (dz (X7 n) (au (ak Try.f7) [1,1,1,0,0]) 2 (dS (F7 n) (bf (run (X7 n) (F7 n) (au (ak Try.f7) [1,1,1,0,1]) 0) (bf (run (X7 n) (F7 n) (au (ak Try.f7) [1,1,1,1]) 0) (eu (X7 n) Try.f7 jA))))))))))))))))) [0,1,10,11] n (s7_7 x0 x1 x3 x4 x5 x6 x7 x8 x9 aM aS aQ aZ aV aY aW bq bC bz bD aR bF aX bI bB bt bA bR bZ b9 cQ dQ dN dZ fB fV fM fK fR iX kC kz mh rD zv zu PD PC PB PA Pz Bh Bg Bf Be Py Px Pw Pv x)
theorem m7_7 (n:Nat)  (x:O4):Ui x0 x1 x3 x4 x5 x6 x7 x8 x9 aM aS aQ aZ aV aY aW bq bC bz bD aR bF aX bI bB bt bA bR bZ b9 cQ dQ dN dZ fB fV fM fK fR iX kC kz mh rD zv zu PD PC PB PA Pz Bh Bg Bf Be Py Px Pw Pv n  x=cu (K6 x0 x1 x3 x6 x7 x8 x9 aM aS aQ aZ aV aY aW bq bC bz bD aR Bh Bg Bf Be n  ) n x:=by
 refine iter_eq _ _ (fun aaD x2=>?_) n x
 kernel_rfl
end
section
variable (x0:ByteArray) (x1:Int) (x3:List (C .aA)) (x4:Nat) (x5:ByteArray) (x6:Int) (x7:List (C .aC)) (x8:List (C .ay)) (x9:Int) (aM:ByteArray) (aS:Int) (aQ:Bool) (aZ aV aY aW bq bC bz bD aR bF:Int) (aX:ByteArray) (bI:Int) (bB:Bool) (bt:ByteArray) (bA:Int) (bR:Bool) (bZ b9 cQ dQ dN dZ fB fV fM fK fR:Int) (iX:List (C .aA)) (kC:List (C .aC)) (kz:List (C .ay)) (mh:Int) (rD:List (C .aA)) (zv:List (C .aC)) (zu:List (C .ay))
noncomputable def Uh (n:Nat)  (x:O2):Option (aa×Int):=iter (fun rec S=>run wu (Eu n) (au (ak Try.f36) [1,0,1,0,0]) 0 S (dq rec (cJ 0 (bf (run wu (Eu n) (au (ak Try.f36) [1,1]) 0) (dU wu Try.f36 (da 16088000 16000 (some 88) (pC (fb n) (au (ak Try.f25) [1,1,1,1,0,1,0,1,1,1,0,1,1,1]) 4092 [4,5,6] (dS (iu n) (cJ 0 (bf (run (fb n) (iu n) (au (ak Try.f25) [1,1,1,1,1]) 0) (dU (fb n) Try.f25 (da 15000 0 (some 15) (dz (X7 n) (au (ak Try.f7) [1,1,1,0,0]) 2 (dS (F7 n) (bf (run (X7 n) (F7 n) (au (ak Try.f7) [1,1,1,0,1]) 0) (bf (run (X7 n) (F7 n) (au (ak Try.f7) [1,1,1,1]) 0) (eu (X7 n) Try.f7 jA))))))))))))))))) [0,1,10,11] n (s7_8 x0 x1 x3 x4 x5 x6 x7 x8 x9 aM aS aQ aZ aV aY aW bq bC bz bD aR bF aX bI bB bt bA bR bZ b9 cQ dQ dN dZ fB fV fM fK fR iX kC kz mh rD zv zu x)
theorem m7_8 (n:Nat)  (x:O2):Uh x0 x1 x3 x4 x5 x6 x7 x8 x9 aM aS aQ aZ aV aY aW bq bC bz bD aR bF aX bI bB bt bA bR bZ b9 cQ dQ dN dZ fB fV fM fK fR iX kC kz mh rD zv zu n  x=cu (K5 x0 x1 x3 x6 x7 x8 bt bA bR bZ b9 cQ dQ dN dZ fB fV fM fK fR iX kC kz n  ) n x:=by
 refine iter_eq _ _ (fun aaC x2=>?_) n x
 kernel_rfl
end
section
variable (x0:ByteArray) (x1 x3:Int) (x4 x5:ByteArray) (x6:Int) (x7:Bool) (x8 x9 aM aS aQ aZ aV aY aW bq bC:Int) (bz:List (C .aA)) (bD:List (C .aC)) (aR:List (C .ay)) (bF:Int) (aX:ByteArray) (bI:Int) (bB:Bool) (bt bA bR bZ b9 cQ dQ dN dZ fB:Int) (fV:ByteArray) (fM:Int) (fK:Bool) (fR:ByteArray) (iX:Int) (kC:Bool) (kz mh rD zv zu PD PC PB PA Pz Bh:Int) (Bg:List (C .aA)) (Bf:List (C .aC)) (Be:List (C .ay)) (Py:Int) (Px:List (C .aA)) (Pw:List (C .aC)) (Pv:List (C .ay))
noncomputable def wF (n:Nat)  (x:DT):Option (aa×Int):=iter (fun rec S=>run wu (Eu n) (au (ak Try.f36) [1,0,1,0,0]) 0 S (dq rec (cJ 0 (bf (run wu (Eu n) (au (ak Try.f36) [1,1]) 0) (dU wu Try.f36 (da 16088000 16000 (some 88) (pC (fb n) (au (ak Try.f25) [1,1,1,1,0,1,0,1,1,1,0,1,1,1]) 4092 [5,6] (dS (iu n) (cJ 0 (bf (run (fb n) (iu n) (au (ak Try.f25) [1,1,1,1,1]) 0) (dU (fb n) Try.f25 (da 15000 0 (some 15) (dz (X7 n) (au (ak Try.f7) [1,1,1,0,0]) 2 (dS (F7 n) (bf (run (X7 n) (F7 n) (au (ak Try.f7) [1,1,1,0,1]) 0) (bf (run (X7 n) (F7 n) (au (ak Try.f7) [1,1,1,1]) 0) (eu (X7 n) Try.f7 jA))))))))))))))))) [0,1,10,11] n (aae x0 x1 x3 x4 x5 x6 x7 x8 x9 aM aS aQ aZ aV aY aW bq bC bz bD aR bF aX bI bB bt bA bR bZ b9 cQ dQ dN dZ fB fV fM fK fR iX kC kz mh rD zv zu PD PC PB PA Pz Bh Bg Bf Be Py Px Pw Pv x)
theorem abi (n:Nat)  (x:DT):wF x0 x1 x3 x4 x5 x6 x7 x8 x9 aM aS aQ aZ aV aY aW bq bC bz bD aR bF aX bI bB bt bA bR bZ b9 cQ dQ dN dZ fB fV fM fK fR iX kC kz mh rD zv zu PD PC PB PA Pz Bh Bg Bf Be Py Px Pw Pv n  x=cu (qH x0 x1 x5 x6 x7 x8 x9 aM aS aQ aZ aV aY aW bq bC bz bD aR Bh Bg Bf Be n  ) n x:=by
 refine iter_eq _ _ (fun Sw x2=>?_) n x
 kernel_rfl
end
section
variable (x0:ByteArray) (x1 x3:Int) (x4:ByteArray) (x5:Int) (x6:List (C .aA)) (x7:List (C .aC)) (x8:List (C .ay)) (x9:Int) (aM:ByteArray) (aS:Int) (aQ:Bool) (aZ aV aY aW bq bC bz bD aR bF:Int) (aX:ByteArray) (bI:Int) (bB:Bool) (bt:ByteArray) (bA:Int) (bR:Bool) (bZ b9 cQ dQ dN dZ fB fV fM fK fR:Int) (iX:List (C .aA)) (kC:List (C .aC)) (kz:List (C .ay)) (mh:Int) (rD:List (C .aA)) (zv:List (C .aC)) (zu:List (C .ay))
noncomputable def wE (n:Nat)  (x:DS):Option (aa×Int):=iter (fun rec S=>run wu (Eu n) (au (ak Try.f36) [1,0,1,0,0]) 0 S (dq rec (cJ 0 (bf (run wu (Eu n) (au (ak Try.f36) [1,1]) 0) (dU wu Try.f36 (da 16088000 16000 (some 88) (pC (fb n) (au (ak Try.f25) [1,1,1,1,0,1,0,1,1,1,0,1,1,1]) 4092 [4,5,6] (dS (iu n) (cJ 0 (bf (run (fb n) (iu n) (au (ak Try.f25) [1,1,1,1,1]) 0) (dU (fb n) Try.f25 (da 15000 0 (some 15) (dz (X7 n) (au (ak Try.f7) [1,1,1,0,0]) 2 (dS (F7 n) (bf (run (X7 n) (F7 n) (au (ak Try.f7) [1,1,1,0,1]) 0) (bf (run (X7 n) (F7 n) (au (ak Try.f7) [1,1,1,1]) 0) (eu (X7 n) Try.f7 jA))))))))))))))))) [0,1,10,11] n (aad x0 x1 x3 x4 x5 x6 x7 x8 x9 aM aS aQ aZ aV aY aW bq bC bz bD aR bF aX bI bB bt bA bR bZ b9 cQ dQ dN dZ fB fV fM fK fR iX kC kz mh rD zv zu x)
theorem abh (n:Nat)  (x:DS):wE x0 x1 x3 x4 x5 x6 x7 x8 x9 aM aS aQ aZ aV aY aW bq bC bz bD aR bF aX bI bB bt bA bR bZ b9 cQ dQ dN dZ fB fV fM fK fR iX kC kz mh rD zv zu n  x=cu (qG x0 x1 x5 x6 x7 x8 bt bA bR bZ b9 cQ dQ dN dZ fB fV fM fK fR iX kC kz n  ) n x:=by
 refine iter_eq _ _ (fun Sv x2=>?_) n x
 kernel_rfl
end
section
variable (x0:List (C .aA)) (x1 x3:Int) (x4:List (C .aC)) (x5:List (C .ay)) (x6:Int) (x7:ByteArray) (x8:Int) (x9:Bool) (aM aS aQ aZ aV aY aW bq bC bz:Int) (bD:ByteArray) (aR:Int) (bF:Bool) (aX:ByteArray) (bI:Int) (bB:Bool) (bt bA bR bZ b9 cQ dQ dN dZ fB fV:Int) (fM:List (C .aA)) (fK:List (C .aC)) (fR:List (C .ay)) (iX:Int) (kC:List (C .aA)) (kz:List (C .aC)) (mh:List (C .ay))
noncomputable def Ug (n:Nat)  (x:O0):Option (aa×Int):=iter (fun rec S=>run X53 (F53 n) (au (ak Try.f53) [1,0,1,0,0]) 0 S (dq rec (cJ 0 (bf (run X53 (F53 n) (au (ak Try.f53) [1,1]) 0) (dU X53 Try.f53 (da 16058000 16000 (some 58) (dz (fb n) (au (ak Try.f25) [1,1,1,1,0,1,0,1,1,1,0,1,0,1,1,1,1,0]) 6 (dS (iu n) (bf (run (fb n) (iu n) (au (ak Try.f25) [1,1,1,1,0,1,0,1,1,1,0,1,0,1,1,1,1,1]) 0) (bf (run (fb n) (iu n) (au (ak Try.f25) [1,1,1,1,0,1,0,1,1,1,0,1,1]) 0) (cJ 0 (bf (run (fb n) (iu n) (au (ak Try.f25) [1,1,1,1,1]) 0) (dU (fb n) Try.f25 (da 15000 0 (some 15) (dz (X7 n) (au (ak Try.f7) [1,1,1,0,0]) 2 (dS (F7 n) (bf (run (X7 n) (F7 n) (au (ak Try.f7) [1,1,1,0,1]) 0) (bf (run (X7 n) (F7 n) (au (ak Try.f7) [1,1,1,1]) 0) (eu (X7 n) Try.f7 jA))))))))))))))))))) [0,1,7,8] n (ZY x0 x1 x3 x4 x5 x6 x7 x8 x9 aM aS aQ aZ aV aY aW bq bC bz bD aR bF aX bI bB bt bA bR bZ b9 cQ dQ dN dZ fB fV fM fK fR iX kC kz mh x)
theorem m7_9 (n:Nat)  (x:O0):Ug x0 x1 x3 x4 x5 x6 x7 x8 x9 aM aS aQ aZ aV aY aW bq bC bz bD aR bF aX bI bB bt bA bR bZ b9 cQ dQ dN dZ fB fV fM fK fR iX kC kz mh n  x=cu (IE x0 x1 x3 x4 x5 aX bI bB bt bA bR bZ b9 cQ dQ dN dZ fB fV fM fK fR n  ) n x:=by
 refine iter_eq _ _ (fun U1 x2=>?_) n x
 refine Eq.trans (b:=
  cond (decide (x2<x1))
  (cond (decide (0≤x2)) (cond (decide (x2<(x0.length:Int))) (Option.bind x0[x2.toNat]? fun e37=>Option.bind (G54 e37 (⟨aX,bI,bB,bt,bA,bR,bZ,b9,cQ,dQ,dN,dZ,fB⟩:af)) fun r38=>
  cond r38
  (cond (decide (x2<0))
  (cond (Nat.beq (([(⟨aX,0,false,0,0,0,0,0,0,0,0,0,0⟩:af)]:List (C .aA))).length 1&&decide (0≤(x0.length:Int))) (cond (decide ((x0.length:Int)≤(x0.length:Int))) (cond (decide ((x0.length+(([(⟨aX,0,false,0,0,0,0,0,0,0,0,0,0⟩:af)]:List (C .aA))).length)*112≤140737488355328)) (alt (wF aX (((x0.take (x0.length:Int).toNat++(([(⟨aX,0,false,0,0,0,0,0,0,0,0,0,0⟩:af)]:List (C .aA)))++x0.drop (x0.length:Int).toNat).length:Int)) (x0.length:Int) aX aX x3 bB bt bA bR bZ b9 cQ dQ dN dZ 0 x3 (x0.take (x0.length:Int).toNat++(([(⟨aX,0,false,0,0,0,0,0,0,0,0,0,0⟩:af)]:List (C .aA)))++x0.drop (x0.length:Int).toNat) x4 x5 x6 x7 x8 x9 aM aS aQ aZ aV aY aW bq bC bz bD aR bF aX x3 bB bt bA bR bZ b9 cQ dQ dN dZ 0 fV fM fK fR iX kC kz mh n   0)
  (wE aX (((x0.take (x0.length:Int).toNat++(([(⟨aX,0,false,0,0,0,0,0,0,0,0,0,0⟩:af)]:List (C .aA)))++x0.drop (x0.length:Int).toNat).length:Int)) (x0.length:Int) aX x3 (x0.take (x0.length:Int).toNat++(([(⟨aX,0,false,0,0,0,0,0,0,0,0,0,0⟩:af)]:List (C .aA)))++x0.drop (x0.length:Int).toNat) x4 x5 x6 x7 x8 x9 aM aS aQ aZ aV aY aW bq bC bz bD aR bF aX x3 bB bt bA bR bZ b9 cQ dQ dN dZ 0 fV fM fK fR iX kC kz mh n   0)) none) none) none)
  (cond (Nat.beq (([(⟨aX,0,false,0,0,0,0,0,0,0,0,0,0⟩:af)]:List (C .aA))).length 1&&decide (0≤x2)) (cond (decide (x2≤(x0.length:Int))) (cond (decide ((x0.length+(([(⟨aX,0,false,0,0,0,0,0,0,0,0,0,0⟩:af)]:List (C .aA))).length)*112≤140737488355328)) (alt (wF aX (((x0.take x2.toNat++(([(⟨aX,0,false,0,0,0,0,0,0,0,0,0,0⟩:af)]:List (C .aA)))++x0.drop x2.toNat).length:Int)) x2 aX aX x3 bB bt bA bR bZ b9 cQ dQ dN dZ 0 x3 (x0.take x2.toNat++(([(⟨aX,0,false,0,0,0,0,0,0,0,0,0,0⟩:af)]:List (C .aA)))++x0.drop x2.toNat) x4 x5 x6 x7 x8 x9 aM aS aQ aZ aV aY aW bq bC bz bD aR bF aX x3 bB bt bA bR bZ b9 cQ dQ dN dZ 0 fV fM fK fR iX kC kz mh n   0)
  (wE aX (((x0.take x2.toNat++(([(⟨aX,0,false,0,0,0,0,0,0,0,0,0,0⟩:af)]:List (C .aA)))++x0.drop x2.toNat).length:Int)) x2 aX x3 (x0.take x2.toNat++(([(⟨aX,0,false,0,0,0,0,0,0,0,0,0,0⟩:af)]:List (C .aA)))++x0.drop x2.toNat) x4 x5 x6 x7 x8 x9 aM aS aQ aZ aV aY aW bq bC bz bD aR bF aX x3 bB bt bA bR bZ b9 cQ dQ dN dZ 0 fV fM fK fR iX kC kz mh n   0)) none) none) none))
  ((fun x=>U1 (ZY x0 x1 x3 x4 x5 x6 x7 x8 x9 aM aS aQ aZ aV aY aW bq bC bz bD aR bF aX bI bB bt bA bR bZ b9 cQ dQ dN dZ fB fV fM fK fR iX kC kz mh x)) (IntKind.i64.wrap (x2+1)))) none) none)
  (cond (decide ((-1)<0))
  (cond (Nat.beq (([(⟨aX,0,false,0,0,0,0,0,0,0,0,0,0⟩:af)]:List (C .aA))).length 1&&decide (0≤(x0.length:Int))) (cond (decide ((x0.length:Int)≤(x0.length:Int))) (cond (decide ((x0.length+(([(⟨aX,0,false,0,0,0,0,0,0,0,0,0,0⟩:af)]:List (C .aA))).length)*112≤140737488355328)) (alt (wF aX (((x0.take (x0.length:Int).toNat++(([(⟨aX,0,false,0,0,0,0,0,0,0,0,0,0⟩:af)]:List (C .aA)))++x0.drop (x0.length:Int).toNat).length:Int)) (x0.length:Int) aX aX x3 bB bt bA bR bZ b9 cQ dQ dN dZ 0 x3 (x0.take (x0.length:Int).toNat++(([(⟨aX,0,false,0,0,0,0,0,0,0,0,0,0⟩:af)]:List (C .aA)))++x0.drop (x0.length:Int).toNat) x4 x5 x6 x7 x8 x9 aM aS aQ aZ aV aY aW bq bC bz bD aR bF aX x3 bB bt bA bR bZ b9 cQ dQ dN dZ 0 fV fM fK fR iX kC kz mh n   0)
  (wE aX (((x0.take (x0.length:Int).toNat++(([(⟨aX,0,false,0,0,0,0,0,0,0,0,0,0⟩:af)]:List (C .aA)))++x0.drop (x0.length:Int).toNat).length:Int)) (x0.length:Int) aX x3 (x0.take (x0.length:Int).toNat++(([(⟨aX,0,false,0,0,0,0,0,0,0,0,0,0⟩:af)]:List (C .aA)))++x0.drop (x0.length:Int).toNat) x4 x5 x6 x7 x8 x9 aM aS aQ aZ aV aY aW bq bC bz bD aR bF aX x3 bB bt bA bR bZ b9 cQ dQ dN dZ 0 fV fM fK fR iX kC kz mh n   0)) none) none) none)
  (cond (Nat.beq (([(⟨aX,0,false,0,0,0,0,0,0,0,0,0,0⟩:af)]:List (C .aA))).length 1&&decide (0≤(-1))) (cond (decide ((-1)≤(x0.length:Int))) (cond (decide ((x0.length+(([(⟨aX,0,false,0,0,0,0,0,0,0,0,0,0⟩:af)]:List (C .aA))).length)*112≤140737488355328)) (alt (wF aX (((x0.take (-1).toNat++(([(⟨aX,0,false,0,0,0,0,0,0,0,0,0,0⟩:af)]:List (C .aA)))++x0.drop (-1).toNat).length:Int)) (-1) aX aX x3 bB bt bA bR bZ b9 cQ dQ dN dZ 0 x3 (x0.take (-1).toNat++(([(⟨aX,0,false,0,0,0,0,0,0,0,0,0,0⟩:af)]:List (C .aA)))++x0.drop (-1).toNat) x4 x5 x6 x7 x8 x9 aM aS aQ aZ aV aY aW bq bC bz bD aR bF aX x3 bB bt bA bR bZ b9 cQ dQ dN dZ 0 fV fM fK fR iX kC kz mh n   0)
  (wE aX (((x0.take (-1).toNat++(([(⟨aX,0,false,0,0,0,0,0,0,0,0,0,0⟩:af)]:List (C .aA)))++x0.drop (-1).toNat).length:Int)) (-1) aX x3 (x0.take (-1).toNat++(([(⟨aX,0,false,0,0,0,0,0,0,0,0,0,0⟩:af)]:List (C .aA)))++x0.drop (-1).toNat) x4 x5 x6 x7 x8 x9 aM aS aQ aZ aV aY aW bq bC bz bD aR bF aX x3 bB bt bA bR bZ b9 cQ dQ dN dZ 0 fV fM fK fR iX kC kz mh n   0)) none) none) none))) (by kernel_rfl) ?_
 simp only [abi,abh];rfl
end
section
variable (x0:ByteArray) (x1 x3:Int) (x4:List (C .aA)) (x5:List (C .aC)) (x6:List (C .ay)) (x7:Int) (x8:ByteArray) (x9:Int) (aM:Bool) (aS aQ aZ aV aY aW bq bC bz bD:Int) (aR:ByteArray) (bF:Int) (aX:Bool) (bI:ByteArray) (bB:Int) (bt:Bool) (bA bR bZ b9 cQ dQ dN dZ fB fV fM:Int) (fK:List (C .aA)) (fR:List (C .aC)) (iX:List (C .ay)) (kC:Int) (kz:List (C .aA)) (mh:List (C .aC)) (rD:List (C .ay))
noncomputable def Uj (n:Nat)  (x:O5):Option (aa×Int):=iter (fun rec S=>run wu (Eu n) (au (ak Try.f36) [1,0,1,0,0]) 0 S (dq rec (cJ 0 (bf (run wu (Eu n) (au (ak Try.f36) [1,1]) 0) (dU wu Try.f36 (da 16044000 16000 (some 44) (dz (fb n) (au (ak Try.f25) [1,1,1,1,0,1,0,1,1,1,0,1,0,0]) 4 (dS (iu n) (bf (run (fb n) (iu n) (au (ak Try.f25) [1,1,1,1,0,1,0,1,1,1,0,1,0,1]) 0) (bf (run (fb n) (iu n) (au (ak Try.f25) [1,1,1,1,0,1,0,1,1,1,0,1,1]) 0) (cJ 0 (bf (run (fb n) (iu n) (au (ak Try.f25) [1,1,1,1,1]) 0) (dU (fb n) Try.f25 (da 15000 0 (some 15) (dz (X7 n) (au (ak Try.f7) [1,1,1,0,0]) 2 (dS (F7 n) (bf (run (X7 n) (F7 n) (au (ak Try.f7) [1,1,1,0,1]) 0) (bf (run (X7 n) (F7 n) (au (ak Try.f7) [1,1,1,1]) 0) (eu (X7 n) Try.f7 jA))))))))))))))))))) [0,1,10,11] n (ZZ x0 x1 x3 x4 x5 x6 x7 x8 x9 aM aS aQ aZ aV aY aW bq bC bz bD aR bF aX bI bB bt bA bR bZ b9 cQ dQ dN dZ fB fV fM fK fR iX kC kz mh rD x)
theorem m7_6 (n:Nat)  (x:O5):Uj x0 x1 x3 x4 x5 x6 x7 x8 x9 aM aS aQ aZ aV aY aW bq bC bz bD aR bF aX bI bB bt bA bR bZ b9 cQ dQ dN dZ fB fV fM fK fR iX kC kz mh rD n  x=cu (IF x0 x1 x3 x4 x5 x6 bI bB bt bA bR bZ b9 dQ dN dZ fB fV fM fK fR iX n  ) n x:=by
 refine iter_eq _ _ (fun U2 x2=>?_) n x
 refine Eq.trans (b:=
  cond (decide (x2<x1))
  (cond (decide (0≤x2)) (cond (decide (x2<(x4.length:Int))) (Option.bind x4[x2.toNat]? fun e25=>cond (decide (e25.Name=x0))
  (cond (decide (0≤x2)) (cond (decide (x2<(x4.length:Int))) (Option.bind x4[x2.toNat]? fun XT=>alt (Ui bI (x4.length:Int) x4 x2.toNat bI bI x3 bt bA bR bZ b9 XT.Next dQ dN dZ fB 0 x3 x5 x6 x7 x8 x9 aM aS aQ aZ aV aY aW bq bC bz bD aR bF aX bI x3 bt bA bR bZ b9 XT.Next dQ dN dZ fB 0 fM fK fR iX kC kz mh rD n   0)
  (Uh bI (x4.length:Int) x4 x2.toNat bI x3 x5 x6 x7 x8 x9 aM aS aQ aZ aV aY aW bq bC bz bD aR bF aX bI x3 bt bA bR bZ b9 XT.Next dQ dN dZ fB 0 fM fK fR iX kC kz mh rD n   0)) none) none)
  ((fun x=>U2 (ZZ x0 x1 x3 x4 x5 x6 x7 x8 x9 aM aS aQ aZ aV aY aW bq bC bz bD aR bF aX bI bB bt bA bR bZ b9 cQ dQ dN dZ fB fV fM fK fR iX kC kz mh rD x)) (IntKind.i64.wrap (x2+1)))) none) none)
  (Ug x4 (x4.length:Int) x3 x5 x6 x7 x8 x9 aM aS aQ aZ aV aY aW bq bC bz bD aR bF aX bI bB bt bA bR bZ b9 1 dQ dN dZ fB fV fM fK fR iX kC kz mh rD n   0)) (by kernel_rfl) ?_
 simp only [m7_7,m7_8,m7_9];rfl
end
section
variable (x0:ByteArray) (x1 x2 x4:Int) (x5:List (C .aA)) (x6:List (C .aC)) (x7:List (C .ay)) (x8:Int) (x9:ByteArray) (aM:Int) (aS:Bool) (aQ aZ aV aY aW bq bC bz bD aR:Int) (bF:ByteArray) (aX:Int) (bI:Bool) (bB:Int) (bt:List (C .aA)) (bA:List (C .aC)) (bR:List (C .ay)) (bZ:Int) (b9:List (C .aA)) (cQ:List (C .aC)) (dQ:List (C .ay))
noncomputable def N9 (n:Nat)  (x:DR):Option (aa×Int):=iter (fun rec S=>run X56 (F56 n) (au (ak Try.f56) [1,0,1,0,0]) 0 S (dq rec (cJ 0 (bf (run X56 (F56 n) (au (ak Try.f56) [1,1]) 0) (dU X56 Try.f56 (da 16098000 16000 (some 98) (dz (fb n) (au (ak Try.f25) [1,1,1,1,0,1,0,1,1,1,1,1,0,0]) 6 (dS (iu n) (bf (run (fb n) (iu n) (au (ak Try.f25) [1,1,1,1,0,1,0,1,1,1,1,1,0,1]) 0) (cJ 0 (bf (run (fb n) (iu n) (au (ak Try.f25) [1,1,1,1,1]) 0) (dU (fb n) Try.f25 (da 15000 0 (some 15) (dz (X7 n) (au (ak Try.f7) [1,1,1,0,0]) 2 (dS (F7 n) (bf (run (X7 n) (F7 n) (au (ak Try.f7) [1,1,1,0,1]) 0) (bf (run (X7 n) (F7 n) (au (ak Try.f7) [1,1,1,1]) 0) (eu (X7 n) Try.f7 jA)))))))))))))))))) [0,1,2,12,13] n (aac x0 x1 x2 x4 x5 x6 x7 x8 x9 aM aS aQ aZ aV aY aW bq bC bz bD aR bF aX bI bB bt bA bR bZ b9 cQ dQ x)
theorem abg (n:Nat)  (x:DR):N9 x0 x1 x2 x4 x5 x6 x7 x8 x9 aM aS aQ aZ aV aY aW bq bC bz bD aR bF aX bI bB bt bA bR bZ b9 cQ dQ n  x=cu (xU x0 x1 x2 x4 x5 x6 x7 bB bt bA bR n  ) n x:=by
 refine iter_eq _ _ (fun KZ x3=>?_) n x
 kernel_rfl
end
section
variable (x3:Bool) (x4:Int) (x5:List (C .aA)) (x6:List (C .ay)) (x7:Int) (x8:ByteArray) (x9:Int) (aM:Bool) (aS aQ aZ aV aY aW bq bC bz bD:Int) (aR:ByteArray) (bF:Int) (aX:Bool) (bI:Int) (bB:List (C .aA)) (bt:List (C .aC)) (bA:List (C .ay)) (bR:Int) (bZ:List (C .aA)) (b9:List (C .aC)) (cQ:List (C .ay))
noncomputable def Gc (n:Nat)  (x:DN):Option (aa×Int):=iter (fun rec S=>run (H2 n) (Ps n) (au (ak Try.f59) [1,1,1,0,1,0,0]) 0 S (dq rec (cJ 0 (bf (run (H2 n) (Ps n) (au (ak Try.f59) [1,1,1,1]) 0) (dU (H2 n) Try.f59 (da 16147000 16000 (some 147) (dz (fb n) (au (ak Try.f25) [1,1,1,1,0,1,0,1,1,1,1,1,1,1,0,1,1]) 7 (dS (iu n) (cJ 0 (bf (run (fb n) (iu n) (au (ak Try.f25) [1,1,1,1,1]) 0) (dU (fb n) Try.f25 (da 15000 0 (some 15) (dz (X7 n) (au (ak Try.f7) [1,1,1,0,0]) 2 (dS (F7 n) (bf (run (X7 n) (F7 n) (au (ak Try.f7) [1,1,1,0,1]) 0) (bf (run (X7 n) (F7 n) (au (ak Try.f7) [1,1,1,1]) 0) (eu (X7 n) Try.f7 jA))))))))))))))))) [0,1,5,6] n (aab x3 x4 x5 x6 x7 x8 x9 aM aS aQ aZ aV aY aW bq bC bz bD aR bF aX bI bB bt bA bR bZ b9 cQ x)
theorem abd (n:Nat)  (x:DN):Gc x3 x4 x5 x6 x7 x8 x9 aM aS aQ aZ aV aY aW bq bC bz bD aR bF aX bI bB bt bA bR bZ b9 cQ n  x=cu (xQ x4 x5 x6 x7 x8 x9 aM aS aQ aZ aV aY aW bq bC bz bD aR bF aX bI bB bt bA n  ) n x:=by
 refine iter_eq _ _ (fun KV x=>?_) n x;obtain ⟨x0,x1,x2⟩:=x
 kernel_rfl
end
section
variable (x0:List (C .aC)) (x1:Int) (x3:Bool) (x4:Int) (x5:List (C .aA)) (x6:List (C .ay)) (x7:Int) (x8:ByteArray) (x9:Int) (aM:Bool) (aS aQ aZ aV aY aW bq bC bz bD:Int) (aR:ByteArray) (bF:Int) (aX:Bool) (bI:Int) (bB:List (C .aA)) (bt:List (C .aC)) (bA:List (C .ay)) (bR:Int) (bZ:List (C .aA)) (b9:List (C .aC)) (cQ:List (C .ay))
noncomputable def AQ (n:Nat)  (x:DO):Option (aa×Int):=iter (fun rec S=>run Dk (JH n) (au (ak Try.f106) [1,0,1,0,0]) 0 S (dq rec (cJ 0 (bf (run Dk (JH n) (au (ak Try.f106) [1,1]) 0) (dU Dk Try.f106 (da 16148010000 16148000 (some 10) (dz (H2 n) (au (ak Try.f59) [1,0]) 3 (dS (Ps n) (bf (run (H2 n) (Ps n) (au (ak Try.f59) [1,1]) 0) (dU (H2 n) Try.f59 (da 16147000 16000 (some 147) (dz (fb n) (au (ak Try.f25) [1,1,1,1,0,1,0,1,1,1,1,1,1,1,0,1,1]) 7 (dS (iu n) (cJ 0 (bf (run (fb n) (iu n) (au (ak Try.f25) [1,1,1,1,1]) 0) (dU (fb n) Try.f25 (da 15000 0 (some 15) (dz (X7 n) (au (ak Try.f7) [1,1,1,0,0]) 2 (dS (F7 n) (bf (run (X7 n) (F7 n) (au (ak Try.f7) [1,1,1,0,1]) 0) (bf (run (X7 n) (F7 n) (au (ak Try.f7) [1,1,1,1]) 0) (eu (X7 n) Try.f7 jA)))))))))))))))))))))) [0,1,7,8] n (R7 x0 x1 x3 x4 x5 x6 x7 x8 x9 aM aS aQ aZ aV aY aW bq bC bz bD aR bF aX bI bB bt bA bR bZ b9 cQ x)
theorem SL (n:Nat)  (x:DO):AQ x0 x1 x3 x4 x5 x6 x7 x8 x9 aM aS aQ aZ aV aY aW bq bC bz bD aR bF aX bI bB bt bA bR bZ b9 cQ n  x=cu (pz x0 x1 x4 x5 x6 x7 x8 x9 aM aS aQ aZ aV aY aW bq bC bz bD aR bF aX bI bB bt bA n  ) n x:=by
 refine iter_eq _ _ (fun KW x2=>?_) n x
 refine Eq.trans (b:=
  cond (decide (x2<x1))
  (cond (decide (0≤x2)) (cond (decide (x2<(x0.length:Int))) (Option.bind x0[x2.toNat]? fun e68=>Option.bind (XY e68 (⟨x7,x8,x9,aM,aS,aQ,aZ,aV,aY,aW,bq,bC,bz,bD,aR,bF,aX⟩:az)) fun r69=>
  cond r69
  (cond (x2==(-1))
  (Option.bind (qj (⟨x4,x5,x0,x6⟩:aa)) fun r70=>
  cond (!r70)
  (cond (2 != 0)
  (Option.bind (iR (⟨bI,bB,bt,bA⟩:aa)) fun EZ=>
  some (EZ,2))
  (some ((⟨x4,x5,x0,x6⟩:aa),0)))
  (cond (0 != 0)
  (Option.bind (iR (⟨bI,bB,bt,bA⟩:aa)) fun r72=>
  some (r72,0))
  (some ((⟨x4,x5,x0,x6⟩:aa),0))))
  (Gc x3 x4 x5 x6 x7 x8 x9 aM aS aQ aZ aV aY aW bq bC bz bD aR bF aX bI bB bt bA bR bZ b9 cQ n   ((x0,x2,IntKind.i64.wrap (x2+1)))))
  ((fun x=>KW (R7 x0 x1 x3 x4 x5 x6 x7 x8 x9 aM aS aQ aZ aV aY aW bq bC bz bD aR bF aX bI bB bt bA bR bZ b9 cQ x)) (IntKind.i64.wrap (x2+1)))) none) none)
  (cond ((-1)==(-1))
  (Option.bind (qj (⟨x4,x5,x0,x6⟩:aa)) fun r79=>
  cond (!r79)
  (cond (2 != 0)
  (Option.bind (iR (⟨bI,bB,bt,bA⟩:aa)) fun r80=>
  some (r80,2))
  (some ((⟨x4,x5,x0,x6⟩:aa),0)))
  (cond (0 != 0)
  (Option.bind (iR (⟨bI,bB,bt,bA⟩:aa)) fun r81=>
  some (r81,0))
  (some ((⟨x4,x5,x0,x6⟩:aa),0))))
  (Gc x3 x4 x5 x6 x7 x8 x9 aM aS aQ aZ aV aY aW bq bC bz bD aR bF aX bI bB bt bA bR bZ b9 cQ n   ((x0,(-1),IntKind.i64.wrap ((-1)+1)))))) (by kernel_rfl) ?_
 simp only [abd];rfl
end
section
variable (x3:Bool) (x4:Int) (x5:List (C .aA)) (x6:List (C .aC)) (x7:Int) (x8:ByteArray) (x9:Int) (aM:Bool) (aS aQ aZ aV aY aW bq bC bz bD:Int) (aR:ByteArray) (bF:Int) (aX:Bool) (bI:Int) (bB:List (C .aA)) (bt:List (C .aC)) (bA:List (C .ay)) (bR:Int) (bZ:List (C .aA)) (b9:List (C .aC)) (cQ:List (C .ay))
noncomputable def Gb (n:Nat)  (x:DM):Option (aa×Int):=iter (fun rec S=>run (T7 n) (Yb n) (au (ak Try.f57) [1,1,1,0,1,0,0]) 0 S (dq rec (cJ 0 (bf (run (T7 n) (Yb n) (au (ak Try.f57) [1,1,1,1]) 0) (dU (T7 n) Try.f57 (da 16138000 16000 (some 138) (dz (fb n) (au (ak Try.f25) [1,1,1,1,0,1,0,1,1,1,1,1,1,1,0,1,0]) 7 (dS (iu n) (bf (run (fb n) (iu n) (au (ak Try.f25) [1,1,1,1,0,1,0,1,1,1,1,1,1,1,0,1,1]) 0) (cJ 0 (bf (run (fb n) (iu n) (au (ak Try.f25) [1,1,1,1,1]) 0) (dU (fb n) Try.f25 (da 15000 0 (some 15) (dz (X7 n) (au (ak Try.f7) [1,1,1,0,0]) 2 (dS (F7 n) (bf (run (X7 n) (F7 n) (au (ak Try.f7) [1,1,1,0,1]) 0) (bf (run (X7 n) (F7 n) (au (ak Try.f7) [1,1,1,1]) 0) (eu (X7 n) Try.f7 jA)))))))))))))))))) [0,1,5,6] n (KF x3 x4 x5 x6 x7 x8 x9 aM aS aQ aZ aV aY aW bq bC bz bD aR bF aX bI bB bt bA bR bZ b9 cQ x)
theorem abb (n:Nat)  (x:DM):Gb x3 x4 x5 x6 x7 x8 x9 aM aS aQ aZ aV aY aW bq bC bz bD aR bF aX bI bB bt bA bR bZ b9 cQ n  x=cu (xP x4 x5 x6 x7 x8 x9 aM aS aQ aZ aV aY aW bq bC bz bD aR bF aX bI bB bt bA n  ) n x:=by
 refine iter_eq _ _ (fun BG x=>?_) n x;obtain ⟨x0,x1,x2⟩:=x
 refine Eq.trans (b:=
  cond (decide (x2<(x0.length:Int)))
  (cond (decide (0≤x2)) (cond (decide (x2<(x0.length:Int))) (Option.bind x0[x2.toNat]? fun e82=>Option.bind (XZ e82 (⟨x7,x8,x9,aM,aS,aQ,aZ,aV,aY,aW,bq,bC,bz,bD,aR,bF,aX⟩:az)) fun K4=>
  cond (!K4)
  (cond (decide (0≤x1)) (cond (decide (x1<(x0.length:Int))) (Option.bind x0[x1.toNat]? fun e84=>(fun x=>BG (KF x3 x4 x5 x6 x7 x8 x9 aM aS aQ aZ aV aY aW bq bC bz bD aR bF aX bI bB bt bA bR bZ b9 cQ x)) ((x0.set x1.toNat e82,IntKind.i64.wrap (x1+1),IntKind.i64.wrap (x2+1)))) none) none)
  ((fun x=>BG (KF x3 x4 x5 x6 x7 x8 x9 aM aS aQ aZ aV aY aW bq bC bz bD aR bF aX bI bB bt bA bR bZ b9 cQ x)) ((x0,x1,IntKind.i64.wrap (x2+1))))) none) none)
  (cond (decide ((0:Int)≤x1)) (cond (decide ((x1:Int)≤(x0.length:Int))) (cond (decide ((x0.length:Int)≤(x0.length:Int))) (cond (decide ((0:Int)≤x1)) (cond (decide (x1≤((x0.take ((x1:Int).toNat)++List.replicate (((x0.length:Int).toNat)-((x1:Int).toNat)) (⟨⟨#[]⟩,false⟩:C .ay)++x0.drop ((x0.length:Int).toNat)).length:Int))) (AQ x6 (x6.length:Int) x3 x4 x5 ((x0.take ((x1:Int).toNat)++List.replicate (((x0.length:Int).toNat)-((x1:Int).toNat)) (⟨⟨#[]⟩,false⟩:C .ay)++x0.drop ((x0.length:Int).toNat)).take x1.toNat) x7 x8 x9 aM aS aQ aZ aV aY aW bq bC bz bD aR bF aX bI bB bt bA bR bZ b9 cQ n   0) none) none) none) none) none)) (by kernel_rfl) ?_
 simp only [SL];rfl
end
section
variable (x0:List (C .ay)) (x1:Int) (x3:Bool) (x4:Int) (x5:List (C .aA)) (x6:List (C .aC)) (x7:Int) (x8:ByteArray) (x9:Int) (aM:Bool) (aS aQ aZ aV aY aW bq bC bz bD:Int) (aR:ByteArray) (bF:Int) (aX:Bool) (bI:Int) (bB:List (C .aA)) (bt:List (C .aC)) (bA:List (C .ay)) (bR:Int) (bZ:List (C .aA)) (b9:List (C .aC)) (cQ:List (C .ay))
noncomputable def N7 (n:Nat)  (x:DP):Option (aa×Int):=iter (fun rec S=>run T6 (Ya n) (au (ak Try.f61) [1,0,1,0,0]) 0 S (dq rec (cJ 0 (bf (run T6 (Ya n) (au (ak Try.f61) [1,1]) 0) (dU T6 Try.f61 (da 16139010000 16139000 (some 10) (dz (T7 n) (au (ak Try.f57) [1,0]) 3 (dS (Yb n) (bf (run (T7 n) (Yb n) (au (ak Try.f57) [1,1]) 0) (dU (T7 n) Try.f57 (da 16138000 16000 (some 138) (dz (fb n) (au (ak Try.f25) [1,1,1,1,0,1,0,1,1,1,1,1,1,1,0,1,0]) 7 (dS (iu n) (bf (run (fb n) (iu n) (au (ak Try.f25) [1,1,1,1,0,1,0,1,1,1,1,1,1,1,0,1,1]) 0) (cJ 0 (bf (run (fb n) (iu n) (au (ak Try.f25) [1,1,1,1,1]) 0) (dU (fb n) Try.f25 (da 15000 0 (some 15) (dz (X7 n) (au (ak Try.f7) [1,1,1,0,0]) 2 (dS (F7 n) (bf (run (X7 n) (F7 n) (au (ak Try.f7) [1,1,1,0,1]) 0) (bf (run (X7 n) (F7 n) (au (ak Try.f7) [1,1,1,1]) 0) (eu (X7 n) Try.f7 jA))))))))))))))))))))))) [0,1,7,8] n (R9 x0 x1 x3 x4 x5 x6 x7 x8 x9 aM aS aQ aZ aV aY aW bq bC bz bD aR bF aX bI bB bt bA bR bZ b9 cQ x)
theorem abe (n:Nat)  (x:DP):N7 x0 x1 x3 x4 x5 x6 x7 x8 x9 aM aS aQ aZ aV aY aW bq bC bz bD aR bF aX bI bB bt bA bR bZ b9 cQ n  x=cu (xR x0 x1 x4 x5 x6 x7 x8 x9 aM aS aQ aZ aV aY aW bq bC bz bD aR bF aX bI bB bt bA n  ) n x:=by
 refine iter_eq _ _ (fun KX x2=>?_) n x
 refine Eq.trans (b:=
  cond (decide (x2<x1))
  (cond (decide (0≤x2)) (cond (decide (x2<(x0.length:Int))) (Option.bind x0[x2.toNat]? fun WA=>Option.bind (XZ WA (⟨x7,x8,x9,aM,aS,aQ,aZ,aV,aY,aW,bq,bC,bz,bD,aR,bF,aX⟩:az)) fun r67=>
  cond r67
  (cond (x2==(-1))
  (AQ x6 (x6.length:Int) x3 x4 x5 x0 x7 x8 x9 aM aS aQ aZ aV aY aW bq bC bz bD aR bF aX bI bB bt bA bR bZ b9 cQ n   0)
  (Gb x3 x4 x5 x6 x7 x8 x9 aM aS aQ aZ aV aY aW bq bC bz bD aR bF aX bI bB bt bA bR bZ b9 cQ n   ((x0,x2,IntKind.i64.wrap (x2+1)))))
  ((fun x=>KX (R9 x0 x1 x3 x4 x5 x6 x7 x8 x9 aM aS aQ aZ aV aY aW bq bC bz bD aR bF aX bI bB bt bA bR bZ b9 cQ x)) (IntKind.i64.wrap (x2+1)))) none) none)
  (cond ((-1)==(-1))
  (AQ x6 (x6.length:Int) x3 x4 x5 x0 x7 x8 x9 aM aS aQ aZ aV aY aW bq bC bz bD aR bF aX bI bB bt bA bR bZ b9 cQ n   0)
  (Gb x3 x4 x5 x6 x7 x8 x9 aM aS aQ aZ aV aY aW bq bC bz bD aR bF aX bI bB bt bA bR bZ b9 cQ n   ((x0,(-1),IntKind.i64.wrap ((-1)+1)))))) (by kernel_rfl) ?_
 simp only [SL,abb];rfl
end
section
variable (x0:ByteArray) (x1 x3:Int) (x4:List (C .aA)) (x5:List (C .aC)) (x6:List (C .ay)) (x7:Int) (x8:ByteArray) (x9:Int) (aM:Bool) (aS aQ aZ aV aY aW bq bC bz bD:Int) (aR:ByteArray) (bF:Int) (aX:Bool) (bI:Int) (bB:List (C .aA)) (bt:List (C .aC)) (bA:List (C .ay)) (bR:Int) (bZ:List (C .aA)) (b9:List (C .aC)) (cQ:List (C .ay))
noncomputable def N8 (n:Nat)  (x:DQ):Option (aa×Int):=iter (fun rec S=>run rz (zk n) (au (ak Try.f37) [1,0,1,0,0]) 0 S (dq rec (cJ 0 (bf (run rz (zk n) (au (ak Try.f37) [1,1]) 0) (dU rz Try.f37 (da 16130000 16000 (some 130) (dz (fb n) (au (ak Try.f25) [1,1,1,1,0,1,0,1,1,1,1,1,1,1,0,0,0]) 4 (dS (iu n) (bf (run (fb n) (iu n) (au (ak Try.f25) [1,1,1,1,0,1,0,1,1,1,1,1,1,1,0,0,1]) 0) (bf (run (fb n) (iu n) (au (ak Try.f25) [1,1,1,1,0,1,0,1,1,1,1,1,1,1,0,1]) 0) (cJ 0 (bf (run (fb n) (iu n) (au (ak Try.f25) [1,1,1,1,1]) 0) (dU (fb n) Try.f25 (da 15000 0 (some 15) (dz (X7 n) (au (ak Try.f7) [1,1,1,0,0]) 2 (dS (F7 n) (bf (run (X7 n) (F7 n) (au (ak Try.f7) [1,1,1,0,1]) 0) (bf (run (X7 n) (F7 n) (au (ak Try.f7) [1,1,1,1]) 0) (eu (X7 n) Try.f7 jA))))))))))))))))))) [0,1,10,11] n (Sb x0 x1 x3 x4 x5 x6 x7 x8 x9 aM aS aQ aZ aV aY aW bq bC bz bD aR bF aX bI bB bt bA bR bZ b9 cQ x)
theorem abf (n:Nat)  (x:DQ):N8 x0 x1 x3 x4 x5 x6 x7 x8 x9 aM aS aQ aZ aV aY aW bq bC bz bD aR bF aX bI bB bt bA bR bZ b9 cQ n  x=cu (xS x0 x1 x3 x4 x5 x6 x7 x8 x9 aM aS aQ aZ aV aY aW bq bC bz bD aR bF aX bI bB bt bA n  ) n x:=by
 refine iter_eq _ _ (fun KY x2=>?_) n x
 refine Eq.trans (b:=
  cond (decide (x2<x1))
  (cond (decide (0≤x2)) (cond (decide (x2<(x6.length:Int))) (Option.bind x6[x2.toNat]? fun e65=>cond (decide (e65.Name=x0))
  (cond (decide (0≤x2)) (cond (decide (x2<(x6.length:Int))) (N7 x6 (x6.length:Int) false x3 x4 x5 x7 x8 x9 aM aS aQ aZ aV aY aW bq bC bz bD aR bF aX bI bB bt bA bR bZ b9 cQ n   0) none) none)
  ((fun x=>KY (Sb x0 x1 x3 x4 x5 x6 x7 x8 x9 aM aS aQ aZ aV aY aW bq bC bz bD aR bF aX bI bB bt bA bR bZ b9 cQ x)) (IntKind.i64.wrap (x2+1)))) none) none)
  (cond (3 != 0)
  (Option.bind (iR (⟨bI,bB,bt,bA⟩:aa)) fun r85=>
  some (r85,3))
  (some ((⟨x3,x4,x5,x6⟩:aa),0)))) (by kernel_rfl) ?_
 simp only [abe];rfl
end
section
variable (x0:ByteArray) (x1:Int) (x3:Bool) (x4:ByteArray) (x5:Bool) (x6:Int) (x7:List (C .aA)) (x8:List (C .aC)) (x9:List (C .ay)) (aM:Int) (aS:ByteArray) (aQ:Int) (aZ:Bool) (aV aY aW bq bC bz bD aR bF aX:Int) (bI:ByteArray) (bB:Int) (bt:Bool) (bA:Int) (bR:List (C .aA)) (bZ:List (C .aC)) (b9:List (C .ay)) (cQ:Int) (dQ:List (C .aA)) (dN:List (C .aC)) (dZ:List (C .ay))
noncomputable def N5 (n:Nat)  (x:DK):Option (aa×Int):=iter (fun rec S=>run rz (zk n) (au (ak Try.f37) [1,0,1,0,0]) 0 S (dq rec (cJ 0 (bf (run rz (zk n) (au (ak Try.f37) [1,1]) 0) (dU rz Try.f37 (da 16186000 16000 (some 186) (pC (fb n) (au (ak Try.f25) [1,1,1,1,0,1,0,1,1,1,1,1,1,1,1,1,0,1]) 4091 [6,7,8] (dS (iu n) (cJ 0 (bf (run (fb n) (iu n) (au (ak Try.f25) [1,1,1,1,1]) 0) (dU (fb n) Try.f25 (da 15000 0 (some 15) (dz (X7 n) (au (ak Try.f7) [1,1,1,0,0]) 2 (dS (F7 n) (bf (run (X7 n) (F7 n) (au (ak Try.f7) [1,1,1,0,1]) 0) (bf (run (X7 n) (F7 n) (au (ak Try.f7) [1,1,1,1]) 0) (eu (X7 n) Try.f7 jA))))))))))))))))) [0,1,10,11] n (Z9 x0 x1 x3 x4 x5 x6 x7 x8 x9 aM aS aQ aZ aV aY aW bq bC bz bD aR bF aX bI bB bt bA bR bZ b9 cQ dQ dN dZ x)
theorem aa9 (n:Nat)  (x:DK):N5 x0 x1 x3 x4 x5 x6 x7 x8 x9 aM aS aQ aZ aV aY aW bq bC bz bD aR bF aX bI bB bt bA bR bZ b9 cQ dQ dN dZ n  x=cu (BK x0 x1 x5 x6 x7 x8 x9 bA bR bZ b9 n  ) n x:=by
 refine iter_eq _ _ (fun Su x2=>?_) n x
 kernel_rfl
end
section
variable (x0:ByteArray) (x1:Int) (x3:Bool) (x4:ByteArray) (x5:Int) (x6:List (C .aA)) (x7:List (C .aC)) (x8:List (C .ay)) (x9:Int) (aM:ByteArray) (aS:Int) (aQ:Bool) (aZ aV aY aW bq bC bz bD aR bF:Int) (aX:ByteArray) (bI:Int) (bB:Bool) (bt:Int) (bA:List (C .aA)) (bR:List (C .aC)) (bZ:List (C .ay)) (b9:Int) (cQ:List (C .aA)) (dQ:List (C .aC)) (dN:List (C .ay))
noncomputable def N4 (n:Nat)  (x:DJ):Option (aa×Int):=iter (fun rec S=>run rz (zk n) (au (ak Try.f37) [1,0,1,0,0]) 0 S (dq rec (cJ 0 (bf (run rz (zk n) (au (ak Try.f37) [1,1]) 0) (dU rz Try.f37 (da 16186000 16000 (some 186) (pC (fb n) (au (ak Try.f25) [1,1,1,1,0,1,0,1,1,1,1,1,1,1,1,1,0,1]) 4091 [5,6,7,8] (dS (iu n) (cJ 0 (bf (run (fb n) (iu n) (au (ak Try.f25) [1,1,1,1,1]) 0) (dU (fb n) Try.f25 (da 15000 0 (some 15) (dz (X7 n) (au (ak Try.f7) [1,1,1,0,0]) 2 (dS (F7 n) (bf (run (X7 n) (F7 n) (au (ak Try.f7) [1,1,1,0,1]) 0) (bf (run (X7 n) (F7 n) (au (ak Try.f7) [1,1,1,1]) 0) (eu (X7 n) Try.f7 jA))))))))))))))))) [0,1,10,11] n (Z8 x0 x1 x3 x4 x5 x6 x7 x8 x9 aM aS aQ aZ aV aY aW bq bC bz bD aR bF aX bI bB bt bA bR bZ b9 cQ dQ dN x)
theorem aa8 (n:Nat)  (x:DJ):N4 x0 x1 x3 x4 x5 x6 x7 x8 x9 aM aS aQ aZ aV aY aW bq bC bz bD aR bF aX bI bB bt bA bR bZ b9 cQ dQ dN n  x=cu (BI x0 x1 x5 x6 x7 x8 bB bt bA bR bZ n  ) n x:=by
 refine iter_eq _ _ (fun Ss x2=>?_) n x
 kernel_rfl
end
section
variable (x0:ByteArray) (x1:Int) (x3:Bool) (x4:ByteArray) (x5:Int) (x6:List (C .aA)) (x7:List (C .aC)) (x8:List (C .ay)) (x9:Int) (aM:ByteArray) (aS:Int) (aQ:Bool) (aZ aV aY aW bq bC bz bD aR bF:Int) (aX:ByteArray) (bI:Int) (bB:Bool) (bt:Int) (bA:List (C .aA)) (bR:List (C .aC)) (bZ:List (C .ay)) (b9:Int) (cQ:List (C .aA)) (dQ:List (C .aC)) (dN:List (C .ay))
noncomputable def N3 (n:Nat)  (x:DI):Option (aa×Int):=iter (fun rec S=>run rz (zk n) (au (ak Try.f37) [1,0,1,0,0]) 0 S (dq rec (cJ 0 (bf (run rz (zk n) (au (ak Try.f37) [1,1]) 0) (dU rz Try.f37 (da 16186000 16000 (some 186) (pC (fb n) (au (ak Try.f25) [1,1,1,1,0,1,0,1,1,1,1,1,1,1,1,1,0,1]) 4091 [4,5,6,7,8] (dS (iu n) (cJ 0 (bf (run (fb n) (iu n) (au (ak Try.f25) [1,1,1,1,1]) 0) (dU (fb n) Try.f25 (da 15000 0 (some 15) (dz (X7 n) (au (ak Try.f7) [1,1,1,0,0]) 2 (dS (F7 n) (bf (run (X7 n) (F7 n) (au (ak Try.f7) [1,1,1,0,1]) 0) (bf (run (X7 n) (F7 n) (au (ak Try.f7) [1,1,1,1]) 0) (eu (X7 n) Try.f7 jA))))))))))))))))) [0,1,10,11] n (Z7 x0 x1 x3 x4 x5 x6 x7 x8 x9 aM aS aQ aZ aV aY aW bq bC bz bD aR bF aX bI bB bt bA bR bZ b9 cQ dQ dN x)
theorem aa7 (n:Nat)  (x:DI):N3 x0 x1 x3 x4 x5 x6 x7 x8 x9 aM aS aQ aZ aV aY aW bq bC bz bD aR bF aX bI bB bt bA bR bZ b9 cQ dQ dN n  x=cu (BH x0 x1 x5 x6 x7 x8 bB bt bA bR bZ n  ) n x:=by
 refine iter_eq _ _ (fun Sr x2=>?_) n x
 kernel_rfl
end
section
variable (x0:ByteArray) (x1 x3:Int) (x4:Bool) (x5:ByteArray) (x6:Bool) (x7:Int) (x8:List (C .aA)) (x9:List (C .aC)) (aM:List (C .ay)) (aS:Int) (aQ:ByteArray) (aZ:Int) (aV:Bool) (aY aW bq bC bz bD aR bF aX bI:Int) (bB:ByteArray) (bt:Int) (bA:Bool) (bR:Int) (bZ:List (C .aA)) (b9:List (C .aC)) (cQ:List (C .ay)) (dQ:Int) (dN:List (C .aA)) (dZ:List (C .aC)) (fB:List (C .ay))
noncomputable def wD (n:Nat)  (x:DG):Option (aa×Int):=iter (fun rec S=>run rz (zk n) (au (ak Try.f37) [1,0,1,0,0]) 0 S (dq rec (cJ 0 (bf (run rz (zk n) (au (ak Try.f37) [1,1]) 0) (dU rz Try.f37 (da 16186000 16000 (some 186) (pC (fb n) (au (ak Try.f25) [1,1,1,1,0,1,0,1,1,1,1,1,1,1,1,1,0,1]) 4091 [6,7,8] (dS (iu n) (cJ 0 (bf (run (fb n) (iu n) (au (ak Try.f25) [1,1,1,1,1]) 0) (dU (fb n) Try.f25 (da 15000 0 (some 15) (dz (X7 n) (au (ak Try.f7) [1,1,1,0,0]) 2 (dS (F7 n) (bf (run (X7 n) (F7 n) (au (ak Try.f7) [1,1,1,0,1]) 0) (bf (run (X7 n) (F7 n) (au (ak Try.f7) [1,1,1,1]) 0) (eu (X7 n) Try.f7 jA))))))))))))))))) [0,1,10,11] n (Z6 x0 x1 x3 x4 x5 x6 x7 x8 x9 aM aS aQ aZ aV aY aW bq bC bz bD aR bF aX bI bB bt bA bR bZ b9 cQ dQ dN dZ fB x)
theorem aa5 (n:Nat)  (x:DG):wD x0 x1 x3 x4 x5 x6 x7 x8 x9 aM aS aQ aZ aV aY aW bq bC bz bD aR bF aX bI bB bt bA bR bZ b9 cQ dQ dN dZ fB n  x=cu (qF x0 x1 x6 x7 x8 x9 aM bR bZ b9 cQ n  ) n x:=by
 refine iter_eq _ _ (fun Sq x2=>?_) n x
 kernel_rfl
end
section
variable (x0:ByteArray) (x1 x3:Int) (x4:Bool) (x5:ByteArray) (x6:Int) (x7:List (C .aA)) (x8:List (C .aC)) (x9:List (C .ay)) (aM:Int) (aS:ByteArray) (aQ:Int) (aZ:Bool) (aV aY aW bq bC bz bD aR bF aX:Int) (bI:ByteArray) (bB:Int) (bt:Bool) (bA:Int) (bR:List (C .aA)) (bZ:List (C .aC)) (b9:List (C .ay)) (cQ:Int) (dQ:List (C .aA)) (dN:List (C .aC)) (dZ:List (C .ay))
noncomputable def wC (n:Nat)  (x:DF):Option (aa×Int):=iter (fun rec S=>run rz (zk n) (au (ak Try.f37) [1,0,1,0,0]) 0 S (dq rec (cJ 0 (bf (run rz (zk n) (au (ak Try.f37) [1,1]) 0) (dU rz Try.f37 (da 16186000 16000 (some 186) (pC (fb n) (au (ak Try.f25) [1,1,1,1,0,1,0,1,1,1,1,1,1,1,1,1,0,1]) 4091 [5,6,7,8] (dS (iu n) (cJ 0 (bf (run (fb n) (iu n) (au (ak Try.f25) [1,1,1,1,1]) 0) (dU (fb n) Try.f25 (da 15000 0 (some 15) (dz (X7 n) (au (ak Try.f7) [1,1,1,0,0]) 2 (dS (F7 n) (bf (run (X7 n) (F7 n) (au (ak Try.f7) [1,1,1,0,1]) 0) (bf (run (X7 n) (F7 n) (au (ak Try.f7) [1,1,1,1]) 0) (eu (X7 n) Try.f7 jA))))))))))))))))) [0,1,10,11] n (Z5 x0 x1 x3 x4 x5 x6 x7 x8 x9 aM aS aQ aZ aV aY aW bq bC bz bD aR bF aX bI bB bt bA bR bZ b9 cQ dQ dN dZ x)
theorem aa4 (n:Nat)  (x:DF):wC x0 x1 x3 x4 x5 x6 x7 x8 x9 aM aS aQ aZ aV aY aW bq bC bz bD aR bF aX bI bB bt bA bR bZ b9 cQ dQ dN dZ n  x=cu (qE x0 x1 x6 x7 x8 x9 bt bA bR bZ b9 n  ) n x:=by
 refine iter_eq _ _ (fun So x2=>?_) n x
 kernel_rfl
end
section
variable (x0:ByteArray) (x1 x3:Int) (x4:Bool) (x5:ByteArray) (x6:Int) (x7:List (C .aA)) (x8:List (C .aC)) (x9:List (C .ay)) (aM:Int) (aS:ByteArray) (aQ:Int) (aZ:Bool) (aV aY aW bq bC bz bD aR bF aX:Int) (bI:ByteArray) (bB:Int) (bt:Bool) (bA:Int) (bR:List (C .aA)) (bZ:List (C .aC)) (b9:List (C .ay)) (cQ:Int) (dQ:List (C .aA)) (dN:List (C .aC)) (dZ:List (C .ay))
noncomputable def wA (n:Nat)  (x:DE):Option (aa×Int):=iter (fun rec S=>run rz (zk n) (au (ak Try.f37) [1,0,1,0,0]) 0 S (dq rec (cJ 0 (bf (run rz (zk n) (au (ak Try.f37) [1,1]) 0) (dU rz Try.f37 (da 16186000 16000 (some 186) (pC (fb n) (au (ak Try.f25) [1,1,1,1,0,1,0,1,1,1,1,1,1,1,1,1,0,1]) 4091 [4,5,6,7,8] (dS (iu n) (cJ 0 (bf (run (fb n) (iu n) (au (ak Try.f25) [1,1,1,1,1]) 0) (dU (fb n) Try.f25 (da 15000 0 (some 15) (dz (X7 n) (au (ak Try.f7) [1,1,1,0,0]) 2 (dS (F7 n) (bf (run (X7 n) (F7 n) (au (ak Try.f7) [1,1,1,0,1]) 0) (bf (run (X7 n) (F7 n) (au (ak Try.f7) [1,1,1,1]) 0) (eu (X7 n) Try.f7 jA))))))))))))))))) [0,1,10,11] n (Z4 x0 x1 x3 x4 x5 x6 x7 x8 x9 aM aS aQ aZ aV aY aW bq bC bz bD aR bF aX bI bB bt bA bR bZ b9 cQ dQ dN dZ x)
theorem aa3 (n:Nat)  (x:DE):wA x0 x1 x3 x4 x5 x6 x7 x8 x9 aM aS aQ aZ aV aY aW bq bC bz bD aR bF aX bI bB bt bA bR bZ b9 cQ dQ dN dZ n  x=cu (qD x0 x1 x6 x7 x8 x9 bt bA bR bZ b9 n  ) n x:=by
 refine iter_eq _ _ (fun Sn x2=>?_) n x
 kernel_rfl
end
section
variable (x0:List (C .ay)) (x1:Int) (x3:Bool) (x4:Int) (x5:List (C .aA)) (x6:List (C .aC)) (x7:Int) (x8:ByteArray) (x9:Int) (aM:Bool) (aS aQ aZ aV aY aW bq bC bz bD:Int) (aR:ByteArray) (bF:Int) (aX:Bool) (bI:Int) (bB:List (C .aA)) (bt:List (C .aC)) (bA:List (C .ay)) (bR:Int) (bZ:List (C .aA)) (b9:List (C .aC)) (cQ:List (C .ay))
noncomputable def N2 (n:Nat)  (x:DH):Option (aa×Int):=iter (fun rec S=>run T6 (Ya n) (au (ak Try.f61) [1,0,1,0,0]) 0 S (dq rec (cJ 0 (bf (run T6 (Ya n) (au (ak Try.f61) [1,1]) 0) (dU T6 Try.f61 (da 16162000 16000 (some 162) (dz (fb n) (au (ak Try.f25) [1,1,1,1,0,1,0,1,1,1,1,1,1,1,1,1,0,0,1,0,0]) 6 (dS (iu n) (bf (run (fb n) (iu n) (au (ak Try.f25) [1,1,1,1,0,1,0,1,1,1,1,1,1,1,1,1,0,0,1,0,1]) 0) (bf (run (fb n) (iu n) (au (ak Try.f25) [1,1,1,1,0,1,0,1,1,1,1,1,1,1,1,1,0,1]) 0) (cJ 0 (bf (run (fb n) (iu n) (au (ak Try.f25) [1,1,1,1,1]) 0) (dU (fb n) Try.f25 (da 15000 0 (some 15) (dz (X7 n) (au (ak Try.f7) [1,1,1,0,0]) 2 (dS (F7 n) (bf (run (X7 n) (F7 n) (au (ak Try.f7) [1,1,1,0,1]) 0) (bf (run (X7 n) (F7 n) (au (ak Try.f7) [1,1,1,1]) 0) (eu (X7 n) Try.f7 jA))))))))))))))))))) [0,1,7,8] n (R5 x0 x1 x3 x4 x5 x6 x7 x8 x9 aM aS aQ aZ aV aY aW bq bC bz bD aR bF aX bI bB bt bA bR bZ b9 cQ x)
theorem aa6 (n:Nat)  (x:DH):N2 x0 x1 x3 x4 x5 x6 x7 x8 x9 aM aS aQ aZ aV aY aW bq bC bz bD aR bF aX bI bB bt bA bR bZ b9 cQ n  x=cu (xN x0 x1 x4 x5 x6 x7 x8 x9 aM aS aQ aZ aV aY aW bq bC bz bD aR bF aX bI bB bt bA n  ) n x:=by
 refine iter_eq _ _ (fun KT x2=>?_) n x
 refine Eq.trans (b:=
  cond (decide (x2<x1))
  (cond (decide (0≤x2)) (cond (decide (x2<(x0.length:Int))) (Option.bind x0[x2.toNat]? fun WH=>Option.bind (G62 WH (⟨x7,x8,x9,aM,aS,aQ,aZ,aV,aY,aW,bq,bC,bz,bD,aR,bF,aX⟩:az)) fun U8=>
  cond U8
  (cond (decide (x2<0))
  (cond (Nat.beq (([(⟨aR,false⟩:av)]:List (C .ay))).length 1&&decide (0≤(x0.length:Int))) (cond (decide ((x0.length:Int)≤(x0.length:Int))) (cond (decide ((x0.length+(([(⟨aR,false⟩:av)]:List (C .ay))).length)*24≤140737488355328)) (alt (wD aR (((x0.take (x0.length:Int).toNat++(([(⟨aR,false⟩:av)]:List (C .ay)))++x0.drop (x0.length:Int).toNat).length:Int)) (x0.length:Int) x3 aR aX x4 x5 x6 (x0.take (x0.length:Int).toNat++(([(⟨aR,false⟩:av)]:List (C .ay)))++x0.drop (x0.length:Int).toNat) x7 x8 x9 aM aS aQ aZ aV aY aW bq bC bz bD aR bF aX bI bB bt bA bR bZ b9 cQ n   0)
  (alt (wC aR (((x0.take (x0.length:Int).toNat++(([(⟨aR,false⟩:av)]:List (C .ay)))++x0.drop (x0.length:Int).toNat).length:Int)) (x0.length:Int) x3 aR x4 x5 x6 (x0.take (x0.length:Int).toNat++(([(⟨aR,false⟩:av)]:List (C .ay)))++x0.drop (x0.length:Int).toNat) x7 x8 x9 aM aS aQ aZ aV aY aW bq bC bz bD aR bF aX bI bB bt bA bR bZ b9 cQ n   0)
  (wA aR (((x0.take (x0.length:Int).toNat++(([(⟨aR,false⟩:av)]:List (C .ay)))++x0.drop (x0.length:Int).toNat).length:Int)) (x0.length:Int) x3 aR x4 x5 x6 (x0.take (x0.length:Int).toNat++(([(⟨aR,false⟩:av)]:List (C .ay)))++x0.drop (x0.length:Int).toNat) x7 x8 x9 aM aS aQ aZ aV aY aW bq bC bz bD aR bF aX bI bB bt bA bR bZ b9 cQ n   0))) none) none) none)
  (cond (Nat.beq (([(⟨aR,false⟩:av)]:List (C .ay))).length 1&&decide (0≤x2)) (cond (decide (x2≤(x0.length:Int))) (cond (decide ((x0.length+(([(⟨aR,false⟩:av)]:List (C .ay))).length)*24≤140737488355328)) (alt (wD aR (((x0.take x2.toNat++(([(⟨aR,false⟩:av)]:List (C .ay)))++x0.drop x2.toNat).length:Int)) x2 x3 aR aX x4 x5 x6 (x0.take x2.toNat++(([(⟨aR,false⟩:av)]:List (C .ay)))++x0.drop x2.toNat) x7 x8 x9 aM aS aQ aZ aV aY aW bq bC bz bD aR bF aX bI bB bt bA bR bZ b9 cQ n   0)
  (alt (wC aR (((x0.take x2.toNat++(([(⟨aR,false⟩:av)]:List (C .ay)))++x0.drop x2.toNat).length:Int)) x2 x3 aR x4 x5 x6 (x0.take x2.toNat++(([(⟨aR,false⟩:av)]:List (C .ay)))++x0.drop x2.toNat) x7 x8 x9 aM aS aQ aZ aV aY aW bq bC bz bD aR bF aX bI bB bt bA bR bZ b9 cQ n   0)
  (wA aR (((x0.take x2.toNat++(([(⟨aR,false⟩:av)]:List (C .ay)))++x0.drop x2.toNat).length:Int)) x2 x3 aR x4 x5 x6 (x0.take x2.toNat++(([(⟨aR,false⟩:av)]:List (C .ay)))++x0.drop x2.toNat) x7 x8 x9 aM aS aQ aZ aV aY aW bq bC bz bD aR bF aX bI bB bt bA bR bZ b9 cQ n   0))) none) none) none))
  ((fun x=>KT (R5 x0 x1 x3 x4 x5 x6 x7 x8 x9 aM aS aQ aZ aV aY aW bq bC bz bD aR bF aX bI bB bt bA bR bZ b9 cQ x)) (IntKind.i64.wrap (x2+1)))) none) none)
  (cond (decide ((-1)<0))
  (cond (Nat.beq (([(⟨aR,false⟩:av)]:List (C .ay))).length 1&&decide (0≤(x0.length:Int))) (cond (decide ((x0.length:Int)≤(x0.length:Int))) (cond (decide ((x0.length+(([(⟨aR,false⟩:av)]:List (C .ay))).length)*24≤140737488355328)) (alt (wD aR (((x0.take (x0.length:Int).toNat++(([(⟨aR,false⟩:av)]:List (C .ay)))++x0.drop (x0.length:Int).toNat).length:Int)) (x0.length:Int) x3 aR aX x4 x5 x6 (x0.take (x0.length:Int).toNat++(([(⟨aR,false⟩:av)]:List (C .ay)))++x0.drop (x0.length:Int).toNat) x7 x8 x9 aM aS aQ aZ aV aY aW bq bC bz bD aR bF aX bI bB bt bA bR bZ b9 cQ n   0)
  (alt (wC aR (((x0.take (x0.length:Int).toNat++(([(⟨aR,false⟩:av)]:List (C .ay)))++x0.drop (x0.length:Int).toNat).length:Int)) (x0.length:Int) x3 aR x4 x5 x6 (x0.take (x0.length:Int).toNat++(([(⟨aR,false⟩:av)]:List (C .ay)))++x0.drop (x0.length:Int).toNat) x7 x8 x9 aM aS aQ aZ aV aY aW bq bC bz bD aR bF aX bI bB bt bA bR bZ b9 cQ n   0)
  (wA aR (((x0.take (x0.length:Int).toNat++(([(⟨aR,false⟩:av)]:List (C .ay)))++x0.drop (x0.length:Int).toNat).length:Int)) (x0.length:Int) x3 aR x4 x5 x6 (x0.take (x0.length:Int).toNat++(([(⟨aR,false⟩:av)]:List (C .ay)))++x0.drop (x0.length:Int).toNat) x7 x8 x9 aM aS aQ aZ aV aY aW bq bC bz bD aR bF aX bI bB bt bA bR bZ b9 cQ n   0))) none) none) none)
  (cond (Nat.beq (([(⟨aR,false⟩:av)]:List (C .ay))).length 1&&decide (0≤(-1))) (cond (decide ((-1)≤(x0.length:Int))) (cond (decide ((x0.length+(([(⟨aR,false⟩:av)]:List (C .ay))).length)*24≤140737488355328)) (alt (wD aR (((x0.take (-1).toNat++(([(⟨aR,false⟩:av)]:List (C .ay)))++x0.drop (-1).toNat).length:Int)) (-1) x3 aR aX x4 x5 x6 (x0.take (-1).toNat++(([(⟨aR,false⟩:av)]:List (C .ay)))++x0.drop (-1).toNat) x7 x8 x9 aM aS aQ aZ aV aY aW bq bC bz bD aR bF aX bI bB bt bA bR bZ b9 cQ n   0)
  (alt (wC aR (((x0.take (-1).toNat++(([(⟨aR,false⟩:av)]:List (C .ay)))++x0.drop (-1).toNat).length:Int)) (-1) x3 aR x4 x5 x6 (x0.take (-1).toNat++(([(⟨aR,false⟩:av)]:List (C .ay)))++x0.drop (-1).toNat) x7 x8 x9 aM aS aQ aZ aV aY aW bq bC bz bD aR bF aX bI bB bt bA bR bZ b9 cQ n   0)
  (wA aR (((x0.take (-1).toNat++(([(⟨aR,false⟩:av)]:List (C .ay)))++x0.drop (-1).toNat).length:Int)) (-1) x3 aR x4 x5 x6 (x0.take (-1).toNat++(([(⟨aR,false⟩:av)]:List (C .ay)))++x0.drop (-1).toNat) x7 x8 x9 aM aS aQ aZ aV aY aW bq bC bz bD aR bF aX bI bB bt bA bR bZ b9 cQ n   0))) none) none) none))) (by kernel_rfl) ?_
 simp only [aa5,aa4,aa3];rfl
end
section
variable (x0:ByteArray) (x1 x3:Int) (x4:List (C .aA)) (x5:List (C .aC)) (x6:List (C .ay)) (x7:Int) (x8:ByteArray) (x9:Int) (aM:Bool) (aS aQ aZ aV aY aW bq bC bz bD:Int) (aR:ByteArray) (bF:Int) (aX:Bool) (bI:Int) (bB:List (C .aA)) (bt:List (C .aC)) (bA:List (C .ay)) (bR:Int) (bZ:List (C .aA)) (b9:List (C .aC)) (cQ:List (C .ay))
noncomputable def N6 (n:Nat)  (x:DL):Option (aa×Int):=iter (fun rec S=>run rz (zk n) (au (ak Try.f37) [1,0,1,0,0]) 0 S (dq rec (cJ 0 (bf (run rz (zk n) (au (ak Try.f37) [1,1]) 0) (dU rz Try.f37 (da 16155000 16000 (some 155) (dz (fb n) (au (ak Try.f25) [1,1,1,1,0,1,0,1,1,1,1,1,1,1,1,1,0,0,0]) 4 (dS (iu n) (bf (run (fb n) (iu n) (au (ak Try.f25) [1,1,1,1,0,1,0,1,1,1,1,1,1,1,1,1,0,0,1]) 0) (bf (run (fb n) (iu n) (au (ak Try.f25) [1,1,1,1,0,1,0,1,1,1,1,1,1,1,1,1,0,1]) 0) (cJ 0 (bf (run (fb n) (iu n) (au (ak Try.f25) [1,1,1,1,1]) 0) (dU (fb n) Try.f25 (da 15000 0 (some 15) (dz (X7 n) (au (ak Try.f7) [1,1,1,0,0]) 2 (dS (F7 n) (bf (run (X7 n) (F7 n) (au (ak Try.f7) [1,1,1,0,1]) 0) (bf (run (X7 n) (F7 n) (au (ak Try.f7) [1,1,1,1]) 0) (eu (X7 n) Try.f7 jA))))))))))))))))))) [0,1,10,11] n (R6 x0 x1 x3 x4 x5 x6 x7 x8 x9 aM aS aQ aZ aV aY aW bq bC bz bD aR bF aX bI bB bt bA bR bZ b9 cQ x)
theorem aba (n:Nat)  (x:DL):N6 x0 x1 x3 x4 x5 x6 x7 x8 x9 aM aS aQ aZ aV aY aW bq bC bz bD aR bF aX bI bB bt bA bR bZ b9 cQ n  x=cu (xO x0 x1 x3 x4 x5 x6 x7 x8 x9 aM aS aQ aZ aV aY aW bq bC bz bD aR bF aX bI bB bt bA n  ) n x:=by
 refine iter_eq _ _ (fun KU x2=>?_) n x
 refine Eq.trans (b:=
  cond (decide (x2<x1))
  (cond (decide (0≤x2)) (cond (decide (x2<(x6.length:Int))) (Option.bind x6[x2.toNat]? fun XR=>cond (decide (XR.Name=x0))
  (cond (decide (0≤x2)) (cond (decide (x2<(x6.length:Int))) (alt (N5 aR (x6.length:Int) false aR aX x3 x4 x5 x6 x7 x8 x9 aM aS aQ aZ aV aY aW bq bC bz bD aR bF aX bI bB bt bA bR bZ b9 cQ n   0)
  (alt (N4 aR (x6.length:Int) false aR x3 x4 x5 x6 x7 x8 x9 aM aS aQ aZ aV aY aW bq bC bz bD aR bF aX bI bB bt bA bR bZ b9 cQ n   0)
  (N3 aR (x6.length:Int) false aR x3 x4 x5 x6 x7 x8 x9 aM aS aQ aZ aV aY aW bq bC bz bD aR bF aX bI bB bt bA bR bZ b9 cQ n   0))) none) none)
  ((fun x=>KU (R6 x0 x1 x3 x4 x5 x6 x7 x8 x9 aM aS aQ aZ aV aY aW bq bC bz bD aR bF aX bI bB bt bA bR bZ b9 cQ x)) (IntKind.i64.wrap (x2+1)))) none) none)
  (N2 x6 (x6.length:Int) true x3 x4 x5 x7 x8 x9 aM aS aQ aZ aV aY aW bq bC bz bD aR bF aX bI bB bt bA bR bZ b9 cQ n   0)) (by kernel_rfl) ?_
 simp only [aa9,aa8,aa7,aa6];rfl
end
section
variable (x0:ByteArray) (x1 x3:Int) (x4:List (C .aA)) (x5:List (C .aC)) (x6:List (C .ay)) (x7:Int) (x8:ByteArray) (x9:Int) (aM:Bool) (aS aQ aZ aV aY aW bq bC bz bD:Int) (aR:ByteArray) (bF:Int) (aX:Bool) (bI:Int) (bB:List (C .aA)) (bt:List (C .aC)) (bA:List (C .ay)) (bR:Int) (bZ:List (C .aA)) (b9:List (C .aC)) (cQ:List (C .ay))
noncomputable def N0 (n:Nat)  (x:DD):Option (aa×Int):=iter (fun rec S=>run wu (Eu n) (au (ak Try.f36) [1,0,1,0,0]) 0 S (dq rec (cJ 0 (bf (run wu (Eu n) (au (ak Try.f36) [1,1]) 0) (dU wu Try.f36 (da 16196000 16000 (some 196) (dz (fb n) (au (ak Try.f25) [1,1,1,1,0,1,0,1,1,1,1,1,1,1,1,1,1,1,0,0]) 4 (dS (iu n) (bf (run (fb n) (iu n) (au (ak Try.f25) [1,1,1,1,0,1,0,1,1,1,1,1,1,1,1,1,1,1,0,1]) 0) (cJ 0 (bf (run (fb n) (iu n) (au (ak Try.f25) [1,1,1,1,1]) 0) (dU (fb n) Try.f25 (da 15000 0 (some 15) (dz (X7 n) (au (ak Try.f7) [1,1,1,0,0]) 2 (dS (F7 n) (bf (run (X7 n) (F7 n) (au (ak Try.f7) [1,1,1,0,1]) 0) (bf (run (X7 n) (F7 n) (au (ak Try.f7) [1,1,1,1]) 0) (eu (X7 n) Try.f7 jA)))))))))))))))))) [0,1,10,11] n (Z0 x0 x1 x3 x4 x5 x6 x7 x8 x9 aM aS aQ aZ aV aY aW bq bC bz bD aR bF aX bI bB bt bA bR bZ b9 cQ x)
theorem aa2 (n:Nat)  (x:DD):N0 x0 x1 x3 x4 x5 x6 x7 x8 x9 aM aS aQ aZ aV aY aW bq bC bz bD aR bF aX bI bB bt bA bR bZ b9 cQ n  x=cu (xM x0 x1 x3 x4 x5 x6 bF bI bB bt bA n  ) n x:=by
 refine iter_eq _ _ (fun Sl x2=>?_) n x
 kernel_rfl
end
noncomputable def G7n (n:Nat) (a0:aa) (a1:az):Option (aa×Int):=
 Option.bind (qj a0) fun r1=>
 cond (!r1)
 (some ((⟨0,([]:List (C .aA)),([]:List (C .aC)),([]:List (C .ay))⟩:aa),1))
 (Option.bind (iR a0) fun r2=>
 cond (decide (a1.Kind<1))
 (cond (4 != 0)
 (Option.bind (iR a0) fun r3=>
 some (r3,4))
 (some (r2,0)))
 (cond (decide (a1.Kind>6))
 (cond (4 != 0)
 (Option.bind (iR a0) fun r4=>
 some (r4,4))
 (some (r2,0)))
 (cond (r2.b8==1000000)
 (cond (7 != 0)
 (Option.bind (iR a0) fun r5=>
 some (r5,7))
 (some (r2,0)))
 (cond (a1.Kind==1)
 (cu (II r2.ai (r2.ai.length:Int) (IntKind.i64.wrap (r2.b8+1)) r2.ae r2.aj a0.b8 a0.ae a0.ai a0.aj n ) n 0)
 (cond (a1.Kind==2)
 (cu (IF a1.bO (r2.ae.length:Int) (IntKind.i64.wrap (r2.b8+1)) r2.ae r2.ai r2.aj a1.bO a1.bg a1.bV a1.bL a1.cm a1.bW a1.bS a1.cw a1.bK a1.bT a1.bU a1.bX a0.b8 a0.ae a0.ai a0.aj n ) n 0)
 (cond (a1.Kind==3)
 (cu (xU a1.Name a1.Number (r2.ai.length:Int) (IntKind.i64.wrap (r2.b8+1)) r2.ae r2.ai r2.aj a0.b8 a0.ae a0.ai a0.aj n ) n 0)
 (cond (a1.Kind==4)
 (cu (xS a1.Name (r2.aj.length:Int) (IntKind.i64.wrap (r2.b8+1)) r2.ae r2.ai r2.aj a1.Kind a1.bO a1.bg a1.bV a1.bL a1.cm a1.bW a1.bS a1.cz a1.cw a1.bK a1.bT a1.bU a1.bX a1.Name a1.Number a1.jx a0.b8 a0.ae a0.ai a0.aj n ) n 0)
 (cond (a1.Kind==5)
 (cu (xO a1.Name (r2.aj.length:Int) (IntKind.i64.wrap (r2.b8+1)) r2.ae r2.ai r2.aj a1.Kind a1.bO a1.bg a1.bV a1.bL a1.cm a1.bW a1.bS a1.cz a1.cw a1.bK a1.bT a1.bU a1.bX a1.Name a1.Number a1.jx a0.b8 a0.ae a0.ai a0.aj n ) n 0)
 (cond (a1.Kind==6)
 (cu (xM a1.Name (r2.ae.length:Int) (IntKind.i64.wrap (r2.b8+1)) r2.ae r2.ai r2.aj a1.Number a0.b8 a0.ae a0.ai a0.aj n ) n 0)
 (Option.bind (qj ((⟨IntKind.i64.wrap (r2.b8+1),r2.ae,r2.ai,r2.aj⟩:aa))) fun U7=>
 cond (!U7)
 (cond (2 != 0)
 (Option.bind (iR a0) fun U6=>
 some (U6,2))
 (some ((⟨IntKind.i64.wrap (r2.b8+1),r2.ae,r2.ai,r2.aj⟩:aa),0)))
 (cond (0 != 0)
 (Option.bind (iR a0) fun U5=>
 some (U5,0))
 (some ((⟨IntKind.i64.wrap (r2.b8+1),r2.ae,r2.ai,r2.aj⟩:aa),0)))))))))))))
theorem t7 (n:Nat) (a0:aa) (a1:az):dG (X7 n) (F7 n) Try.f7 [.agg [.int .i64 a0.b8,.row .aA a0.ae,.row .aC a0.ai,.row .ay a0.aj],.agg [.int .i64 a1.Kind,.str a1.bO,.int .i64 a1.bg,.bool a1.bV,.int .i64 a1.bL,.int .i64 a1.cm,.int .i64 a1.bW,.int .i64 a1.bS,.int .i64 a1.cz,.int .i64 a1.cw,.int .i64 a1.bK,.int .i64 a1.bT,.int .i64 a1.bU,.int .i64 a1.bX,.str a1.Name,.int .i64 a1.Number,.bool a1.jx]] jA=G7n n a0 a1:=by
 refine Eq.trans (b:=
  Option.bind (qj a0) fun r1=>
  cond (!r1)
  (some ((⟨0,([]:List (C .aA)),([]:List (C .aC)),([]:List (C .ay))⟩:aa),1))
  (Option.bind (iR a0) fun r2=>
  cond (decide (a1.Kind<1))
  (cond (4 != 0)
  (Option.bind (iR a0) fun r3=>
  some (r3,4))
  (some (r2,0)))
  (cond (decide (a1.Kind>6))
  (cond (4 != 0)
  (Option.bind (iR a0) fun r4=>
  some (r4,4))
  (some (r2,0)))
  (cond (r2.b8==1000000)
  (cond (7 != 0)
  (Option.bind (iR a0) fun r5=>
  some (r5,7))
  (some (r2,0)))
  (cond (a1.Kind==1)
  (Un r2.ai (r2.ai.length:Int) (IntKind.i64.wrap (r2.b8+1)) r2.ae r2.aj a1.Kind a1.bO a1.bg a1.bV a1.bL a1.cm a1.bW a1.bS a1.cz a1.cw a1.bK a1.bT a1.bU a1.bX a1.Name a1.Number a1.jx a0.b8 a0.ae a0.ai a0.aj 0 (([]:List (C .aA))) (([]:List (C .aC))) (([]:List (C .ay))) n   0)
  (cond (a1.Kind==2)
  (Uj a1.bO (r2.ae.length:Int) (IntKind.i64.wrap (r2.b8+1)) r2.ae r2.ai r2.aj a1.Kind a1.bO a1.bg a1.bV a1.bL a1.cm a1.bW a1.bS a1.cz a1.cw a1.bK a1.bT a1.bU a1.bX a1.Name a1.Number a1.jx a1.bO a1.bg a1.bV a1.bL a1.cm a1.bW a1.bS a1.cz a1.cw a1.bK a1.bT a1.bU a1.bX a0.b8 a0.ae a0.ai a0.aj 0 (([]:List (C .aA))) (([]:List (C .aC))) (([]:List (C .ay))) n   0)
  (cond (a1.Kind==3)
  (N9 a1.Name a1.Number (r2.ai.length:Int) (IntKind.i64.wrap (r2.b8+1)) r2.ae r2.ai r2.aj a1.Kind a1.bO a1.bg a1.bV a1.bL a1.cm a1.bW a1.bS a1.cz a1.cw a1.bK a1.bT a1.bU a1.bX a1.Name a1.Number a1.jx a0.b8 a0.ae a0.ai a0.aj 0 (([]:List (C .aA))) (([]:List (C .aC))) (([]:List (C .ay))) n   0)
  (cond (a1.Kind==4)
  (N8 a1.Name (r2.aj.length:Int) (IntKind.i64.wrap (r2.b8+1)) r2.ae r2.ai r2.aj a1.Kind a1.bO a1.bg a1.bV a1.bL a1.cm a1.bW a1.bS a1.cz a1.cw a1.bK a1.bT a1.bU a1.bX a1.Name a1.Number a1.jx a0.b8 a0.ae a0.ai a0.aj 0 (([]:List (C .aA))) (([]:List (C .aC))) (([]:List (C .ay))) n   0)
  (cond (a1.Kind==5)
  (N6 a1.Name (r2.aj.length:Int) (IntKind.i64.wrap (r2.b8+1)) r2.ae r2.ai r2.aj a1.Kind a1.bO a1.bg a1.bV a1.bL a1.cm a1.bW a1.bS a1.cz a1.cw a1.bK a1.bT a1.bU a1.bX a1.Name a1.Number a1.jx a0.b8 a0.ae a0.ai a0.aj 0 (([]:List (C .aA))) (([]:List (C .aC))) (([]:List (C .ay))) n   0)
  (cond (a1.Kind==6)
  (N0 a1.Name (r2.ae.length:Int) (IntKind.i64.wrap (r2.b8+1)) r2.ae r2.ai r2.aj a1.Kind a1.bO a1.bg a1.bV a1.bL a1.cm a1.bW a1.bS a1.cz a1.cw a1.bK a1.bT a1.bU a1.bX a1.Name a1.Number a1.jx a0.b8 a0.ae a0.ai a0.aj 0 (([]:List (C .aA))) (([]:List (C .aC))) (([]:List (C .ay))) n   0)
  (Option.bind (qj ((⟨IntKind.i64.wrap (r2.b8+1),r2.ae,r2.ai,r2.aj⟩:aa))) fun U7=>
  cond (!U7)
  (cond (2 != 0)
  (Option.bind (iR a0) fun U6=>
  some (U6,2))
  (some ((⟨IntKind.i64.wrap (r2.b8+1),r2.ae,r2.ai,r2.aj⟩:aa),0)))
  (cond (0 != 0)
  (Option.bind (iR a0) fun U5=>
  some (U5,0))
  (some ((⟨IntKind.i64.wrap (r2.b8+1),r2.ae,r2.ai,r2.aj⟩:aa),0)))))))))))))) (by kernel_rfl) ?_
 simp only [G7n,m7_0,abg,abf,aba,aa2,m7_6]
noncomputable def G7 (a0:aa) (a1:az):Option (aa×Int):=G7n fuel a0 a1
noncomputable def con7:iK C:=lD KK [.el .dv,.el .p7] [.el .dv,.int .i64] G7
theorem c7:dm Try.prog KK 7 con7:=cO (gO ⟨c11,c24,trivial⟩ trivial ⟨i25 _,trivial⟩:Cons Try.prog (X7 fuel)) (fn:=Try.f7) (by kernel_rfl) (by kernel_rfl) (by kernel_rfl) (by kernel_rfl) (F7 fuel) (by kernel_rfl) (fun a0 a1=>t7 fuel a0 a1)
end Go.Proofs.Ytipemmgoipbojaa.Ab
set_option maxRecDepth 100000
namespace Go.Proofs.Ytipemmgoipbojaa.Ab
open Go Go.RowKit
noncomputable def X9:Cx C:=fT [] [] [] [] 589824 []
def F9 (n:Nat):Cf:={ N:=n,keep:=[0,1,2,3,4,5,6,7,39,44,57,62,75,80,93],live:=lk [(0,[2,3,5]),(2,[2,3,6]),(4,[2,3,7])] }
noncomputable abbrev Q7:=jB KK [.bool]
abbrev OX:Type:=Int
abbrev OY:Type:=Int
abbrev OZ:Type:=Int
section
variable (x1:Int) (x2:List (C .aA)) (x3:List (C .aC)) (x4:List (C .ay)) (x5:Int) (x6:List (C .aA)) (x7:List (C .aC)) (x8:List (C .ay))
def s9_2:OX→St C:=fun x0=>{ env:=[(2,.one (.ptr 589952 0)),(3,.one (.ptr 590016 0)),(7,.one (.int .i64 x0))],ah:=[(589952,.box .mem [.int .i64 x1,.row .aA x2,.row .aC x3,.row .ay x4]),(590016,.box .mem [.int .i64 x5,.row .aA x6,.row .aC x7,.row .ay x8])],base:=0 }
end
noncomputable def EX (x4 x8:List (C .ay)) (n:Nat)   (de:OX→Option (Bool)):OX→Option (Bool):=fun x0=>
 cond (decide (x0<(x4.length:Int)))
 (cond (decide (0≤x0)) (Option.bind x4[x0.toNat]? fun e5=>cond (decide (0≤x0)) (Option.bind x8[x0.toNat]? fun e6=>cond (!(decide (e5.Name=e6.Name)&&((e5.kJ==e6.kJ)&&(true))))
 (some (false))
 (de (IntKind.i64.wrap (x0+1)))) none) none)
 (some (true))
section
variable (x1:Int) (x2:List (C .aA)) (x3:List (C .aC)) (x4:List (C .ay)) (x5:Int) (x6:List (C .aA)) (x7:List (C .aC)) (x8:List (C .ay))
def ZR:OY→St C:=fun x0=>{ env:=[(2,.one (.ptr 589952 0)),(3,.one (.ptr 590016 0)),(6,.one (.int .i64 x0))],ah:=[(589952,.box .mem [.int .i64 x1,.row .aA x2,.row .aC x3,.row .ay x4]),(590016,.box .mem [.int .i64 x5,.row .aA x6,.row .aC x7,.row .ay x8])],base:=0 }
end
noncomputable def EY (x3:List (C .aC)) (x4:List (C .ay)) (x7:List (C .aC)) (x8:List (C .ay)) (n:Nat)   (eW:OY→Option (Bool)):OY→Option (Bool):=fun x0=>
 cond (decide (x0<(x3.length:Int)))
 (cond (decide (0≤x0)) (Option.bind x3[x0.toNat]? fun e3=>cond (decide (0≤x0)) (Option.bind x7[x0.toNat]? fun e4=>cond (!(decide (e3.ax=e4.ax)&&(decide (e3.Number=e4.Number)&&(decide (e3.Version=e4.Version)&&(decide (e3.aB=e4.aB)&&(decide (e3.State=e4.State)&&((e3.Ending==e4.Ending)&&(decide (e3.bw=e4.bw)&&(true)))))))))
 (some (false))
 (eW (IntKind.i64.wrap (x0+1)))) none) none)
 (cu (EX x4 x8 n ) n 0)
section
variable (x1:Int) (x2:List (C .aA)) (x3:List (C .aC)) (x4:List (C .ay)) (x5:Int) (x6:List (C .aA)) (x7:List (C .aC)) (x8:List (C .ay))
def ZS:OZ→St C:=fun x0=>{ env:=[(2,.one (.ptr 589952 0)),(3,.one (.ptr 590016 0)),(5,.one (.int .i64 x0))],ah:=[(589952,.box .mem [.int .i64 x1,.row .aA x2,.row .aC x3,.row .ay x4]),(590016,.box .mem [.int .i64 x5,.row .aA x6,.row .aC x7,.row .ay x8])],base:=0 }
end
noncomputable def ID (x2:List (C .aA)) (x3:List (C .aC)) (x4:List (C .ay)) (x6:List (C .aA)) (x7:List (C .aC)) (x8:List (C .ay)) (n:Nat)   (bu:OZ→Option (Bool)):OZ→Option (Bool):=fun x0=>
 cond (decide (x0<(x2.length:Int)))
 (cond (decide (0≤x0)) (Option.bind x2[x0.toNat]? fun e1=>cond (decide (0≤x0)) (Option.bind x6[x0.toNat]? fun e2=>cond (!(decide (e1.Name=e2.Name)&&(decide (e1.Version=e2.Version)&&((e1.cC==e2.cC)&&(decide (e1.aB=e2.aB)&&(decide (e1.Want=e2.Want)&&(decide (e1.Down=e2.Down)&&(decide (e1.ct=e2.ct)&&(decide (e1.Next=e2.Next)&&(decide (e1.dA=e2.dA)&&(decide (e1.aP=e2.aP)&&(decide (e1.bN=e2.bN)&&(decide (e1.cK=e2.cK)&&(decide (e1.cE=e2.cE)&&(true)))))))))))))))
 (some (false))
 (bu (IntKind.i64.wrap (x0+1)))) none) none)
 (cu (EY x3 x4 x7 x8 n ) n 0)
section
variable (x1:Int) (x2:List (C .aA)) (x3:List (C .aC)) (x4:List (C .ay)) (x5:Int) (x6:List (C .aA)) (x7:List (C .aC)) (x8:List (C .ay))
noncomputable def Ud (n:Nat)  (x:OX):Option (Bool):=iter (fun rec S=>run X9 (F9 n) (au (ak Try.f9) [1,1,1,1,0,1,0,0]) 4 S (dq rec (cJ 4 (bf (run X9 (F9 n) (au (ak Try.f9) [1,1,1,1,1]) 0) (eu X9 Try.f9 Q7))))) [2,3,7] n (s9_2 x1 x2 x3 x4 x5 x6 x7 x8 x)
theorem m9_2 (n:Nat)  (x:OX):Ud x1 x2 x3 x4 x5 x6 x7 x8 n  x=cu (EX x4 x8 n  ) n x:=by
 refine iter_eq _ _ (fun de x0=>?_) n x
 kernel_rfl
end
section
variable (x1:Int) (x2:List (C .aA)) (x3:List (C .aC)) (x4:List (C .ay)) (x5:Int) (x6:List (C .aA)) (x7:List (C .aC)) (x8:List (C .ay))
noncomputable def Ue (n:Nat)  (x:OY):Option (Bool):=iter (fun rec S=>run X9 (F9 n) (au (ak Try.f9) [1,1,1,0,1,0,0]) 2 S (dq rec (cJ 2 (bf (run X9 (F9 n) (au (ak Try.f9) [1,1,1,1]) 0) (eu X9 Try.f9 Q7))))) [2,3,6] n (ZR x1 x2 x3 x4 x5 x6 x7 x8 x)
theorem m9_1 (n:Nat)  (x:OY):Ue x1 x2 x3 x4 x5 x6 x7 x8 n  x=cu (EY x3 x4 x7 x8 n  ) n x:=by
 refine iter_eq _ _ (fun eW x0=>?_) n x
 refine Eq.trans (b:=
  cond (decide (x0<(x3.length:Int)))
  (cond (decide (0≤x0)) (Option.bind x3[x0.toNat]? fun e3=>cond (decide (0≤x0)) (Option.bind x7[x0.toNat]? fun e4=>cond (!(decide (e3.ax=e4.ax)&&(decide (e3.Number=e4.Number)&&(decide (e3.Version=e4.Version)&&(decide (e3.aB=e4.aB)&&(decide (e3.State=e4.State)&&((e3.Ending==e4.Ending)&&(decide (e3.bw=e4.bw)&&(true)))))))))
  (some (false))
  ((fun x=>eW (ZR x1 x2 x3 x4 x5 x6 x7 x8 x)) (IntKind.i64.wrap (x0+1)))) none) none)
  (Ud x1 x2 x3 x4 x5 x6 x7 x8 n   0)) (by kernel_rfl) ?_
 simp only [m9_2];rfl
end
section
variable (x1:Int) (x2:List (C .aA)) (x3:List (C .aC)) (x4:List (C .ay)) (x5:Int) (x6:List (C .aA)) (x7:List (C .aC)) (x8:List (C .ay))
noncomputable def Uf (n:Nat)  (x:OZ):Option (Bool):=iter (fun rec S=>run X9 (F9 n) (au (ak Try.f9) [1,1,0,1,0,0]) 0 S (dq rec (cJ 0 (bf (run X9 (F9 n) (au (ak Try.f9) [1,1,1]) 0) (eu X9 Try.f9 Q7))))) [2,3,5] n (ZS x1 x2 x3 x4 x5 x6 x7 x8 x)
theorem m9_0 (n:Nat)  (x:OZ):Uf x1 x2 x3 x4 x5 x6 x7 x8 n  x=cu (ID x2 x3 x4 x6 x7 x8 n  ) n x:=by
 refine iter_eq _ _ (fun bu x0=>?_) n x
 refine Eq.trans (b:=
  cond (decide (x0<(x2.length:Int)))
  (cond (decide (0≤x0)) (Option.bind x2[x0.toNat]? fun e1=>cond (decide (0≤x0)) (Option.bind x6[x0.toNat]? fun e2=>cond (!(decide (e1.Name=e2.Name)&&(decide (e1.Version=e2.Version)&&((e1.cC==e2.cC)&&(decide (e1.aB=e2.aB)&&(decide (e1.Want=e2.Want)&&(decide (e1.Down=e2.Down)&&(decide (e1.ct=e2.ct)&&(decide (e1.Next=e2.Next)&&(decide (e1.dA=e2.dA)&&(decide (e1.aP=e2.aP)&&(decide (e1.bN=e2.bN)&&(decide (e1.cK=e2.cK)&&(decide (e1.cE=e2.cE)&&(true)))))))))))))))
  (some (false))
  ((fun x=>bu (ZS x1 x2 x3 x4 x5 x6 x7 x8 x)) (IntKind.i64.wrap (x0+1)))) none) none)
  (Ue x1 x2 x3 x4 x5 x6 x7 x8 n   0)) (by kernel_rfl) ?_
 simp only [m9_1];rfl
end
noncomputable def G9n (n:Nat) (a0 a1:aa):Option (Bool):=
 cond (a0.b8 != a1.b8)
 (some (false))
 (cond ((a0.ae.length:Int) != (a1.ae.length:Int))
 (some (false))
 (cond ((a0.ai.length:Int) != (a1.ai.length:Int))
 (some (false))
 (cond ((a0.aj.length:Int) != (a1.aj.length:Int))
 (some (false))
 (cu (ID a0.ae a0.ai a0.aj a1.ae a1.ai a1.aj n ) n 0))))
theorem t9 (n:Nat) (a0 a1:aa):dG X9 (F9 n) Try.f9 [.agg [.int .i64 a0.b8,.row .aA a0.ae,.row .aC a0.ai,.row .ay a0.aj],.agg [.int .i64 a1.b8,.row .aA a1.ae,.row .aC a1.ai,.row .ay a1.aj]] Q7=G9n n a0 a1:=by
 refine Eq.trans (b:=
  cond (a0.b8 != a1.b8)
  (some (false))
  (cond ((a0.ae.length:Int) != (a1.ae.length:Int))
  (some (false))
  (cond ((a0.ai.length:Int) != (a1.ai.length:Int))
  (some (false))
  (cond ((a0.aj.length:Int) != (a1.aj.length:Int))
  (some (false))
  (Uf a0.b8 a0.ae a0.ai a0.aj a1.b8 a1.ae a1.ai a1.aj n   0))))) (by kernel_rfl) ?_
 simp only [G9n,m9_0]
noncomputable def G9 (a0 a1:aa):Option (Bool):=G9n fuel a0 a1
noncomputable def con9:iK C:=lD KK [.el .dv,.el .dv] [.bool] G9
theorem c9:dm Try.prog KK 9 con9:=cO (gO trivial trivial trivial:Cons Try.prog X9) (fn:=Try.f9) (by kernel_rfl) (by kernel_rfl) (by kernel_rfl) (by kernel_rfl) (F9 fuel) (by kernel_rfl) (fun a0 a1=>t9 fuel a0 a1)
noncomputable def X3 (n:Nat):Cx C:=fT [(7,con7),(8,(ML W4)),(9,con9),(10,yU),(11,HT)] [] [(6,I6 n)] [3,4,12,14,15,16] 196608 []
def F3 (n:Nat):Cf:={ N:=n,keep:=[0,2,3,4,5,6,7,8,11,37,40,44],live:=lk [] }
noncomputable abbrev dec3:=jB KK [.bool]
noncomputable def G3n (n:Nat) (a0:List (C .e5)):Option (Bool):=
 cond (decide ((a0.length:Int)>1048576))
 (some (true))
 (Option.bind ((Xk n n) a0) fun r1=>
 Option.bind (G7 r1.1 r1.2) fun r2=>
 Option.bind (G8 r1.1 r1.2) fun r3=>
 cond (r2.2 != r3.2)
 (some (false))
 (Option.bind (G9 r2.1 r3.1) fun r4=>
 cond (!r4)
 (some (false))
 (Option.bind (JG r1.1) fun r5=>
 cond (!r5)
 (some (r2.2==1))
 (cond (r2.2 != 0)
 (Option.bind (G9 r2.1 r1.1) fun r6=>
 some (r6))
 (Option.bind (qj r2.1) fun r7=>
 cond r7
 (Option.bind (JG r2.1) fun r8=>
 cond r8
 (some (r2.1.b8==(IntKind.i64.wrap (r1.1.b8+1))))
 (some (false)))
 (some (false)))))))
theorem t3 (n:Nat) (a0:List (C .e5)):dG (X3 n) (F3 n) Try.f3 [.one (.row .e5 a0)] dec3=G3n n a0:=by
 kernel_rfl
noncomputable def G3 (a0:List (C .e5)):Option (Bool):=G3n fuel a0
noncomputable def con3:iK C:=lD KK [.row .e5] [.bool] G3
theorem c3:dm Try.prog KK 3 con3:=cO (gO ⟨c7,c8,c9,c10,c11,trivial⟩ trivial ⟨i6 _,trivial⟩:Cons Try.prog (X3 fuel)) (fn:=Try.f3) (by kernel_rfl) (by kernel_rfl) (by kernel_rfl) (by kernel_rfl) (F3 fuel) (by kernel_rfl) (fun a0=>t3 fuel a0)
theorem cH {n:Int} (h0 : -9223372036854775808≤n) (h1:n<9223372036854775808):IntKind.i64.wrap n=n:=by
 simp [IntKind.wrap,IntKind.bits,IntKind.signed];omega
theorem Hh {A R:Type} {jd:(A→Option R)→A→Option R} {n:Nat} {x:A} (h:0<n):cu jd n x=jd (cu jd (n-1)) x:=by
 obtain ⟨m,rfl⟩:∃ k,n=k+1:=⟨n-1,by omega⟩;rfl
def iH (p:Nat→Bool) (len i:Nat):Bool:=(List.range' i (len-i)).all p
theorem sS {p:Nat→Bool} {len i:Nat} (h:i<len):iH p len i=(p i&&iH p len (i+1)):=by
 unfold iH;rw [show len-i=(len-(i+1))+1 by omega,List.range'_succ];rfl
theorem wk (p:Nat→Bool) (len:Nat):iH p len len=true:=by simp [iH]
theorem jC {i:Nat} (h:0<i) (h2:i<4611686018427387904):IntKind.i64.wrap ((i:Int)-1)=((i-1:Nat):Int):=by
 rw [cH (by omega) (by omega)];omega
theorem cU:1152921504606846976≤fuel:=by unfold fuel;omega
theorem Dh {R:Type} (a:Option R):alt a a=a:=by
 rw [AJ];cases a<;>simp
theorem bh {i:Nat} (h:i<4611686018427387904):IntKind.i64.wrap ((i:Int)+1)=((i+1:Nat):Int):=by
 rw [cH (by omega) (by omega)];rfl
theorem oS {A R:Type} (jd:(A→Option R)→A→Option R) (n:Nat) (x:A):cu jd (n+1) x=jd (cu jd n) x:=rfl
theorem lW {A R:Type} {jd:(A→Option R)→A→Option R} (st:Nat→A) (val:Nat→Option R) (len:Nat) (hend:∀ rec,jd rec (st len)=val len) (hstep:∀ rec i,i<len→rec (st (i+1))=val (i+1)→jd rec (st i)=val i) :
  ∀ n i,i≤len→len-i<n→cu jd n (st i)=val i:=by
 intro n
 induction n with
 | zero=>intro i _ h;omega
 | succ n ih=>
  intro i hi hn;rw [oS]
  rcases Nat.lt_or_ge i len with h | h
  ·exact hstep _ i h (ih (i+1) (by omega) (by omega))
  ·have e:i=len:=by omega
   subst e;exact hend _
theorem get_cast {α:Type} {xs:List α} {i:Nat} (h:i<xs.length):xs[((i:Int)).toNat]?=some xs[i]:=by simp [h]
end Go.Proofs.Ytipemmgoipbojaa.Ab
set_option maxRecDepth 10000
namespace Go.Proofs.Ytipemmgoipbojaa.Ab
open Go Go.RowKit
def ed {α:Type} (p:α→Bool):List α→Nat→Int
 | [],_=> -1
 | x::r,i=>cond (p x) (i:Int) (ed p r (i+1))
theorem IX {α:Type} {p:α→Bool} {xs:List α} {i:Nat} (h:i<xs.length):ed p (xs.drop i) i=cond (p xs[i]) (i:Int) (ed p (xs.drop (i+1)) (i+1)):=by
 rw [List.drop_eq_getElem_cons h];rfl
theorem eQ {α:Type} (p:α→Bool) (xs:List α):(ed p xs 0 = -1∧∀ x∈xs,p x=false)∨∃ i:Nat,∃ h:i<xs.length,ed p xs 0=(i:Int)∧p xs[i]=true∧∀ j,(hj:j<i)→p (xs[j]'(by omega))=false:=by
 have key:∀ (ys:List α) (i:Nat),(ed p ys i = -1∧∀ x∈ys,p x=false)∨∃ k:Nat,∃ h:k<ys.length,ed p ys i=((i+k:Nat):Int)∧p ys[k]=true∧∀ j,(hj:j<k)→p (ys[j]'(by omega))=false:=by
  intro ys
  induction ys with
  | nil=>intro i;exact .inl ⟨rfl,fun x hx=>by cases hx⟩
  | cons y ys ih=>
   intro i
   cases hp:p y with
   | true=>exact .inr ⟨0,by simp,by simp [ed,hp],by simpa using hp,fun j hj=>by omega⟩
   | false=>
    rcases ih (i+1) with ⟨h1,h2⟩ | ⟨k,hk,h1,h2,h3⟩
    ·refine .inl ⟨by simp [ed,hp,h1],fun x hx=>?_⟩
     rcases List.mem_cons.1 hx with e | hx
     ·subst e;exact hp
     ·exact h2 x hx
    ·refine .inr ⟨k+1,by simpa using hk,by simp only [ed,hp,cond_false,h1];omega,by simpa using h2,fun j hj=>?_⟩
     cases j with
     | zero=>exact hp
     | succ j=>exact h3 j (by omega)
 rcases key xs 0 with h | ⟨k,hk,h1,h2,h3⟩
 ·exact .inl h
 ·exact .inr ⟨k,hk,by simpa using h1,h2,h3⟩
theorem u5 {α R:Type} {p:α→Bool} {xs:List α} {A:Type} {st:Nat→A} {jd:(A→Option R)→A→Option R} (hl:xs.length≤1048576) (fnd:Nat→Option R) (nf:Option R)
  (hend:∀ rec,jd rec (st xs.length)=nf)
  (hstep:∀ rec i (hi:i<xs.length),jd rec (st i)=cond (p xs[i]) (fnd i) (rec (st (i+1)))):cu jd fuel (st 0)=cond (decide (ed p xs 0<0)) nf (fnd (ed p xs 0).toNat):=by
 have:=lW (jd:=jd) (st:=st) (val:=fun i=>cond (decide (ed p (xs.drop i) i<0)) nf (fnd (ed p (xs.drop i) i).toNat)) xs.length (fun rec=>by rw [hend];simp [ed]) (fun rec i hi hr=>by
  rw [hstep rec i hi,IX hi]
  cases p xs[i] with
  | true=>
   have h0:¬ ((i:Nat):Int)<0:=by omega
   simp only [cond_true,h0,decide_false,cond_false,Int.toNat_natCast]
  | false=>exact hr) fuel 0 (Nat.zero_le _) (by have:=cU;omega)
 simpa using this
theorem sQ {A R:Type} {p:Nat→Bool} {len:Nat} {st:Nat→A} {jd:(A→Option R)→A→Option R} (yes no:Option R) (hl:len≤1048576)
  (hend:∀ rec,jd rec (st len)=yes)
  (hstep:∀ rec i (hi:i<len),jd rec (st i)=cond (p i) (rec (st (i+1))) no):cu jd fuel (st 0)=cond (iH p len 0) yes no:=by
 have:=lW (jd:=jd) (st:=st) (val:=fun i=>cond (iH p len i) yes no) len (fun rec=>by rw [hend,wk,cond_true]) (fun rec i hi hr=>by
  rw [hstep rec i hi,sS hi]
  cases p i with
  | true=>simpa using hr
  | false=>rfl) fuel 0 (Nat.zero_le _) (by have:=cU;omega)
 exact this
theorem oH {p:Nat→Bool} {len:Nat} (h:iH p len 0=true) {i:Nat} (hi:i<len):p i=true:=by
 unfold iH at h;rw [List.all_eq_true] at h;exact h i (by simp [List.mem_range'];omega)
theorem qq (a b:ByteArray):(slt a b=true∧slt b a=false∧a≠b)∨(slt a b=false∧slt b a=true∧a≠b)∨(slt a b=false∧slt b a=false∧a=b):=by
 unfold slt
 cases h:Go.Op.bytesLess a.toList b.toList with
 | true=>
  obtain ⟨h1,h2⟩:=ku _ _ h;exact .inl ⟨rfl,h1,fun e=>by subst e;simp at h2⟩
 | false=>
  cases he:(a.toList==b.toList) with
  | true=>
   have e:a=b:=toList_inj (by simpa using he);subst e;exact .inr (.inr ⟨rfl,h,rfl⟩)
  | false=>
   have:=np _ _ h he;exact .inr (.inl ⟨rfl,this,fun e=>by subst e;simp at he⟩)
theorem Fi:∀ x y z:List UInt8,Go.Op.bytesLess x y=true→Go.Op.bytesLess y z=true→Go.Op.bytesLess x z=true:=by
 intro x
 induction x with
 | nil=>
  intro y z h h'
  cases z with
  | nil=>cases y<;>simp [Go.Op.bytesLess] at h'
  | cons z zs=>rfl
 | cons x xs ih=>
  intro y z h h'
  cases y with
  | nil=>simp [Go.Op.bytesLess] at h
  | cons y ys=>
   cases z with
   | nil=>simp [Go.Op.bytesLess] at h'
   | cons z zs=>
    simp only [Go.Op.bytesLess,Bool.or_eq_true,Bool.and_eq_true,decide_eq_true_eq,beq_iff_eq] at h h' ⊢
    rcases h with h1 | ⟨h1,h2⟩
    ·rcases h' with h3 | ⟨h3,h4⟩
     ·exact .inl (UInt8.lt_trans h1 h3)
     ·subst h3;exact .inl h1
    ·subst h1
     rcases h' with h3 | ⟨h3,h4⟩
     ·exact .inl h3
     ·exact .inr ⟨h3,ih ys zs h2 h4⟩
theorem Iw {a b c:ByteArray} (h:slt a b=true) (h':slt b c=true):slt a c=true:=Fi _ _ _ h h'
theorem zJ (a:ByteArray):slt a a=false:=by
 rcases qq a a with ⟨_,_,h⟩ | ⟨_,_,h⟩ | ⟨h,_,_⟩
 ·exact absurd rfl h
 ·exact absurd rfl h
 ·exact h
def eZ (a b c:Int):Bool:=decide (b≤a)&&decide (a≤c)
theorem QS (a b c:Int):lB a b c=some (eZ a b c):=by
 unfold lB Xv eZ
 by_cases h:b≤a<;>simp [h]
theorem g33 (a b c:Int):uA a b c=some (eZ a b c):=by
 unfold uA Xp eZ
 by_cases h:b≤a<;>simp [h]
theorem jK {a b c:Int}:eZ a b c=true↔b≤a∧a≤c:=by simp [eZ]
theorem qR {A:Type} {p:Nat→Bool} {len:Nat} {st:Nat→A} {jd:(A→Option Bool)→A→Option Bool} (hl:len<1152921504606846976)
  (hend:∀ rec,jd rec (st len)=some true) (hstep:∀ rec i (hi:i<len),jd rec (st i)=cond (p i) (rec (st (i+1))) (some false)):cu jd fuel (st 0)=some (iH p len 0):=
 lW (jd:=jd) (st:=st) (val:=fun i=>some (iH p len i)) len (fun rec=>by rw [hend,wk]) (fun rec i hi hr=>by
  rw [hstep rec i hi,sS hi]
  cases p i with
  | true=>simpa using hr
  | false=>rfl) fuel 0 (Nat.zero_le _) (by have:=cU;omega)
def bOk (c:Int):Bool:=(decide (97≤c)&&decide (c≤122))||(decide (48≤c)&&decide (c≤57))||c==45
theorem yj {c:Int} {R:Type} (a b:R):(cond (decide (c≥97))
 (cond (decide (c≤122)) a
 (cond (decide (c≥48))
 (cond (decide (c≤57)) a
 (cond (!(c==45)) b a))
 (cond (!(c==45)) b a)))
 (cond (decide (c≥48))
 (cond (decide (c≤57)) a
 (cond (!(c==45)) b a))
 (cond (!(c==45)) b a)))=cond (bOk c) a b:=by
 unfold bOk
 by_cases h1:97≤c<;>by_cases h2:c≤122<;>by_cases h3:48≤c<;>by_cases h4:c≤57<;>by_cases h5:c=45<;>simp [h1,h2,h3,h4,h5]<;>omega
def En (s:ByteArray):Bool:=eZ (s.size:Int) 1 20&&iH (fun j=>bOk (s5 s (j:Int))) s.size 0
theorem g30 (s:ByteArray):X4 s=some (En s):=by
 unfold X4 RI En;rw [QS]
 cases h:eZ (s.size:Int) 1 20 with
 | false=>rfl
 | true=>
  have h2:=(jK.1 h).2;simp only [Option.bind_some,Bool.not_true,cond_false,Bool.true_and];refine qR (st:=fun i=>((i:Nat):Int)) (by omega) (fun rec=>by simp [GR]) (fun rec i hi=>?_)
  have h1:(i:Int)<(s.size:Int):=by omega
  simp only [GR,h1,decide_true,cond_true,Int.natCast_nonneg];rw [yj,bh (by omega)]
theorem g35 (s:ByteArray):X0 s=some (En s):=by
 unfold X0 RH En eZ
 by_cases h1:(s.size:Int)<1
 ·have:¬ (1:Int)≤(s.size:Int):=by omega
  simp [h1,this]
 ·by_cases h2:(s.size:Int)>20
  ·have:¬ (s.size:Int)≤20:=by omega
   simp [h1,h2,this]
  ·have e1:(1:Int)≤(s.size:Int):=by omega
   have e2:(s.size:Int)≤20:=by omega
   simp only [h1,h2,decide_false,cond_false,e1,e2,decide_true,Bool.and_self,Bool.true_and];refine qR (st:=fun i=>((i:Nat):Int)) (by omega) (fun rec=>by simp [GQ]) (fun rec i hi=>?_)
   have h1:(i:Int)<(s.size:Int):=by omega
   simp only [GQ,h1,decide_true,cond_true,Int.natCast_nonneg];rw [yj,bh (by omega)]
def JK (s:af) (now:Int):Bool:=En s.Name&&(eZ s.Version 1 now&&(eZ s.aB 1 1000000&&(eZ s.Next 1 1000000&&(eZ s.Want 0 10&&(eZ s.Down 0 10&&(eZ s.ct 0 10&&((!(IntKind.i64.wrap (s.Down+s.ct)==0)) &&
 (cond (s.dA==0) ((s.aP==0)&&((s.bN==0)&&((s.cK==0)&&(s.cE==0)))) (eZ s.dA 0 1000000&&(eZ s.cK 0 1000000&&(eZ s.aP 0 10&&(eZ s.bN s.aP 10&&eZ s.cE 0 3))))))))))))
theorem g29 (s:af) (now:Int):G29 s now=some (JK s now):=by
 unfold G29 Xt JK;simp only [g30,QS,Option.bind_some];cases En s.Name<;>(try rfl);cases eZ s.Version 1 now<;>(try rfl);cases eZ s.aB 1 1000000<;>(try rfl);cases eZ s.Next 1 1000000<;>(try rfl);cases eZ s.Want 0 10<;>(try rfl);cases eZ s.Down 0 10<;>(try rfl);cases eZ s.ct 0 10<;>(try rfl);cases (IntKind.i64.wrap (s.Down+s.ct)==0)<;>(try rfl);cases (s.dA==0)
 ·cases eZ s.dA 0 1000000<;>(try rfl)
  cases eZ s.cK 0 1000000<;>(try rfl);cases eZ s.aP 0 10<;>(try rfl);cases eZ s.bN s.aP 10<;>rfl
 ·cases (s.aP==0)<;>(try rfl)
  cases (s.bN==0)<;>(try rfl);cases (s.cK==0)<;>rfl
theorem g34 (s:af) (now:Int):G34 s now=some (JK s now):=by
 unfold G34 Xo JK;simp only [g35,g33,Option.bind_some];cases En s.Name<;>(try rfl);cases eZ s.Version 1 now<;>(try rfl);cases eZ s.aB 1 1000000<;>(try rfl);cases eZ s.Next 1 1000000<;>(try rfl);cases eZ s.Want 0 10<;>(try rfl);cases eZ s.Down 0 10<;>(try rfl);cases eZ s.ct 0 10<;>(try rfl);cases (IntKind.i64.wrap (s.Down+s.ct)==0)<;>(try rfl);simp only [Bool.true_and,Bool.not_true,Bool.not_false,cond_false,cond_true]
 by_cases h0:s.dA=0
 ·have e:eZ s.dA 0 1000000=true:=by rw [jK];omega
  have e1:¬ s.dA>0:=by omega
  have e2:(s.dA==0)=true:=by simp [h0]
  simp only [e,e1,e2,decide_false,cond_false,cond_true,Bool.not_true]
  by_cases a1:s.aP=0
  ·by_cases a2:s.bN=0
   ·by_cases a3:s.cK=0
    ·simp only [a1,a2,a3]
     by_cases a4:s.cE=0
     ·simp [a4,eZ]
     ·have:(s.cE==0)=false:=by simp [a4]
      rw [this];cases eZ s.cE 0 3<;>simp [eZ]
    ·have:(s.cK==0)=false:=by simp [a3]
     simp only [a1,a2,this];cases eZ s.cK 0 1000000<;>cases eZ s.cE 0 3<;>simp [eZ]
   ·have:(s.bN==0)=false:=by simp [a2]
    simp only [a1,this];cases eZ s.cK 0 1000000<;>cases eZ s.cE 0 3<;>cases eZ s.bN 0 10<;>cases decide ((0:Int)>s.bN)<;>simp [eZ]
  ·have:(s.aP==0)=false:=by simp [a1]
   simp only [this];cases eZ s.cK 0 1000000<;>cases eZ s.cE 0 3<;>cases eZ s.bN 0 10<;>cases eZ s.aP 0 10<;>cases decide (s.aP>s.bN)<;>simp
 ·have e2:(s.dA==0)=false:=by simp [h0]
  simp only [e2,cond_false]
  cases h1:eZ s.dA 0 1000000 with
  | false=>rfl
  | true=>
   have e1:s.dA>0:=by have:=(jK.1 h1).1;omega
   cases eZ s.cK 0 1000000<;>(try rfl)
   cases h2:eZ s.aP 0 10 with
   | false=>rfl
   | true=>
    have h3:=(jK.1 h2).1
    by_cases h4:s.aP>s.bN
    ·have h5:eZ s.bN s.aP 10=false:=by cases h:eZ s.bN s.aP 10 with | false=>rfl | true=>have:=jK.1 h;omega
     cases eZ s.bN 0 10<;>simp [h4,h5]
    ·have h5:eZ s.bN 0 10=eZ s.bN s.aP 10:=by
      unfold eZ
      have q1:(0:Int)≤s.bN:=by omega
      have q2:s.aP≤s.bN:=by omega
      simp [q1,q2]
     rw [h5];cases eZ s.bN s.aP 10<;>cases eZ s.cE 0 3<;>simp [h4,e1]
end Go.Proofs.Ytipemmgoipbojaa.Ab
