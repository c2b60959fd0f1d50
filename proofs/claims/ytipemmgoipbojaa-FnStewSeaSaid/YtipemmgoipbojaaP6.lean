/- Part 6 of the proof: an abstract machine proved sound over the model, the functions that it reckons, the plain law. Names made short by a program. No conditions. -/
import Derived.Test.YtipemmgoipbojaaP5
set_option linter.unusedVariables false
set_option linter.unusedSimpArgs false
set_option linter.unusedSectionVars false
set_option maxRecDepth 10000
namespace Go.Proofs.Ytipemmgoipbojaa.Ab
open Go Go.RowKit
theorem rQ {α:Type} (p:α→Bool) (xs:List α):cond (decide (ed p xs 0<0)) (some (-1)) (some (((ed p xs 0).toNat:Nat):Int))=some (ed p xs 0):=by
 rcases eQ p xs with ⟨h,_⟩ | ⟨i,hi,h,_⟩<;>rw [h]
 ·rfl
 ·have:¬ ((i:Nat):Int)<0:=by omega
  simp [this]
def kD (n:ByteArray) (s:af):Bool:=decide (s.Name=n)
def vY (n:ByteArray) (k:Int) (c:aq):Bool:=decide (c.ax=n)&&(c.Number==k)
def iU (n:ByteArray) (c:av):Bool:=decide (c.Name=n)
theorem XP {b:aa} {n:ByteArray} (h:b.ae.length≤1048576):OO b n=some (ed (kD n) b.ae 0):=by
 unfold OO Rz;rw [←rQ]
 exact u5 (st:=fun i=>((i:Nat):Int)) h (fun i=>some ((i:Nat):Int)) (some (-1)) (fun rec=>by simp [GH]) (fun rec i hi=>by
  have h1:(i:Int)<(b.ae.length:Int):=by omega
  simp only [GH,h1,decide_true,cond_true,Int.natCast_nonneg,get_cast hi,Option.bind_some,kD]
  rw [bh (by omega)])
theorem g67 {b:aa} {n:ByteArray} (h:b.aj.length≤1048576):Xl b n=some (ed (iU n) b.aj 0):=by
 unfold Xl RB;rw [←rQ]
 exact u5 (st:=fun i=>((i:Nat):Int)) h (fun i=>some ((i:Nat):Int)) (some (-1)) (fun rec=>by simp [GI]) (fun rec i hi=>by
  have h1:(i:Int)<(b.aj.length:Int):=by omega
  simp only [GI,h1,decide_true,cond_true,Int.natCast_nonneg,get_cast hi,Option.bind_some,iU]
  rw [bh (by omega)])
theorem g66 {b:aa} {n:ByteArray} {k:Int} (h:b.ai.length≤1048576):JR b n k=some (ed (vY n k) b.ai 0):=by
 unfold JR RC;rw [←rQ]
 exact u5 (st:=fun i=>((i:Nat):Int)) h (fun i=>some ((i:Nat):Int)) (some (-1)) (fun rec=>by simp [GJ]) (fun rec i hi=>by
  have h1:(i:Int)<(b.ai.length:Int):=by omega
  simp only [GJ,h1,decide_true,cond_true,Int.natCast_nonneg,get_cast hi,Option.bind_some,vY];rw [bh (by omega)]
  cases decide (b.ai[i].ax=n)<;>rfl)
def M7 (b:aa) (c:aq):Bool:=match b.ae[(ed (kD c.ax) b.ae 0).toNat]? with
 | some s=>(!decide (ed (kD c.ax) b.ae 0<0))&&(eZ c.Number 1 (IntKind.i64.wrap (s.Next-1))&&(eZ c.Version 1 b.b8&&(eZ c.aB 1 1000000&&(eZ c.State 1 4&&cond (c.State==1) (decide (c.bw=⟨#[]⟩)) (decide (ed (iU c.bw) b.aj 0≥0))))))
 | none=>false
theorem g31 {b:aa} {c:aq} (h:b.ae.length≤1048576) (h2:b.aj.length≤1048576):G31 b c=some (M7 b c):=by
 unfold G31 Xr M7;rw [XP h]
 rcases eQ (kD c.ax) b.ae with ⟨e,_⟩ | ⟨i,hi,e,_⟩
 ·rw [e];simp only [Option.bind_some]
  cases b.ae[(-1:Int).toNat]?<;>rfl
 ·have h0:¬ ((i:Nat):Int)<0:=by omega
  rw [e];simp only [Option.bind_some,h0,decide_false,cond_false,Int.natCast_nonneg,decide_true,cond_true,get_cast hi,QS,g67 h2,Bool.not_false,Bool.true_and];cases eZ c.Number 1 (IntKind.i64.wrap (b.ae[i].Next-1))<;>(try rfl);cases eZ c.Version 1 b.b8<;>(try rfl);cases eZ c.aB 1 1000000<;>(try rfl);cases eZ c.State 1 4<;>(try rfl);cases (c.State==1)<;>rfl
def NM (d c:aq):Bool:=slt d.ax c.ax||(decide (d.ax=c.ax)&&decide (d.Number<c.Number))
theorem g32 (d c:aq):G32 d c=some (NM d c):=by
 unfold G32 Xq NM;cases slt d.ax c.ax<;>cases decide (d.ax=c.ax)<;>rfl
def zS {α:Type} (f:α→Bool) (g:α→α→Bool) (xs:List α) (i:Nat):Bool:=match xs[i]?,xs[i-1]? with
 | some c,some d=>f c&&(decide (i=0)||g d c)
 | _,_=>false
theorem rU {α:Type} {f:α→Bool} {g:α→α→Bool} {xs:List α} {i:Nat} (h:i<xs.length):zS f g xs i=(f xs[i]&&(decide (i=0)||g (xs[i-1]'(by omega)) xs[i])):=by
 unfold zS;rw [List.getElem?_eq_getElem h,List.getElem?_eq_getElem (by omega)]
def vB (b:aa):Bool:=eZ b.b8 0 1000000&&((!decide ((b.ae.length:Int)>8))&&((!decide ((b.ai.length:Int)>200))&&((!decide ((b.aj.length:Int)>6)) &&
 (iH (zS (fun s=>JK s b.b8) (fun d s=>slt d.Name s.Name) b.ae) b.ae.length 0&&(iH (zS (fun s=>En s.Name) (fun d s=>slt d.Name s.Name) b.aj) b.aj.length 0&&iH (zS (M7 b) NM b.ai) b.ai.length 0)))))
theorem IC {α R:Type} {f:α→Bool} {g:α→α→Bool} {xs:List α} {i:Nat} (h:i<xs.length) (yes no:Option R) (X:Option R)
  (hX:X=cond (f xs[i]) (cond (decide (i=0)) yes (cond (g (xs[i-1]'(by omega)) xs[i]) yes no)) no):X=cond (zS f g xs i) yes no:=by
 rw [hX,rU h];cases f xs[i]<;>cases decide (i=0)<;>cases g (xs[i-1]'(by omega)) xs[i]<;>rfl
theorem Er {b:aa} (h1:b.ae.length≤1048576) (h2:b.ai.length≤1048576) (h3:b.aj.length≤1048576):JG b=some (vB b):=by
 unfold JG RO vB;rw [QS];cases eZ b.b8 0 1000000<;>(try rfl);cases decide ((b.ae.length:Int)>8)<;>(try rfl);cases decide ((b.ai.length:Int)>200)<;>(try rfl);cases decide ((b.aj.length:Int)>6)<;>(try rfl);simp only [Option.bind_some,Bool.not_true,Bool.not_false,cond_false,cond_true,Bool.true_and]
 have e2:cu (BS b.b8 b.ae b.ai b.aj fuel) fuel 0=some (iH (zS (M7 b) NM b.ai) b.ai.length 0):=
  qR (st:=fun i=>((i:Nat):Int)) (by omega) (fun rec=>by simp [BS]) (fun rec i hi=>by
   have q1:(i:Int)<(b.ai.length:Int):=by omega
   refine IC hi _ _ _ ?_;have e:(⟨b.b8,b.ae,b.ai,b.aj⟩:aa)=b:=rfl;simp only [BS,q1,decide_true,cond_true,Int.natCast_nonneg,get_cast hi,Option.bind_some,e,g31 h1 h3,bh (show i<4611686018427387904 by omega)];cases M7 b b.ai[i]<;>(try rfl);simp only [Bool.not_true,cond_false,cond_true]
   by_cases h0:i=0
   ·subst h0;simp
   ·have p1:(i:Int)>0:=by omega
    simp only [p1,h0,decide_true,decide_false,cond_true,cond_false,jC (show 0<i by omega) (by omega),Int.natCast_nonneg,get_cast (show i-1<b.ai.length by omega),Option.bind_some,g32]
    cases NM (b.ai[i-1]'(by omega)) b.ai[i]<;>rfl)
 have e1:cu (xY b.b8 b.ae b.ai b.aj fuel) fuel 0=cond (iH (zS (fun s=>En s.Name) (fun d s=>slt d.Name s.Name) b.aj) b.aj.length 0) (some (iH (zS (M7 b) NM b.ai) b.ai.length 0)) (some false):=
  sQ (st:=fun i=>((i:Nat):Int)) _ _ h3 (fun rec=>by simp [xY,e2]) (fun rec i hi=>by
   have q1:(i:Int)<(b.aj.length:Int):=by omega
   refine IC hi _ _ _ ?_;simp only [xY,q1,decide_true,cond_true,Int.natCast_nonneg,get_cast hi,Option.bind_some,g30,bh (show i<4611686018427387904 by omega)];cases En b.aj[i].Name<;>(try rfl);simp only [Bool.not_true,cond_false,cond_true]
   by_cases h0:i=0
   ·subst h0;simp
   ·have p1:(i:Int)>0:=by omega
    simp only [p1,h0,decide_true,decide_false,cond_true,cond_false,jC (show 0<i by omega) (by omega),Int.natCast_nonneg,get_cast (show i-1<b.aj.length by omega),Option.bind_some]
    cases slt (b.aj[i-1]'(by omega)).Name b.aj[i].Name<;>rfl)
 have e0:cu (BT b.b8 b.ae b.ai b.aj fuel) fuel 0=cond (iH (zS (fun s=>JK s b.b8) (fun d s=>slt d.Name s.Name) b.ae) b.ae.length 0) (cu (xY b.b8 b.ae b.ai b.aj fuel) fuel 0) (some false):=
  sQ (st:=fun i=>((i:Nat):Int)) _ _ h1 (fun rec=>by simp [BT]) (fun rec i hi=>by
   have q1:(i:Int)<(b.ae.length:Int):=by omega
   refine IC hi _ _ _ ?_;simp only [BT,q1,decide_true,cond_true,Int.natCast_nonneg,get_cast hi,Option.bind_some,g29,bh (show i<4611686018427387904 by omega)];cases JK b.ae[i] b.b8<;>(try rfl);simp only [Bool.not_true,cond_false,cond_true]
   by_cases h0:i=0
   ·subst h0;simp
   ·have p1:(i:Int)>0:=by omega
    simp only [p1,h0,decide_true,decide_false,cond_true,cond_false,jC (show 0<i by omega) (by omega),Int.natCast_nonneg,get_cast (show i-1<b.ae.length by omega),Option.bind_some]
    cases slt (b.ae[i-1]'(by omega)).Name b.ae[i].Name<;>rfl)
 rw [e0,e1];cases iH (zS (fun s=>JK s b.b8) (fun d s=>slt d.Name s.Name) b.ae) b.ae.length 0<;>cases iH (zS (fun s=>En s.Name) (fun d s=>slt d.Name s.Name) b.aj) b.aj.length 0<;>rfl
theorem Xd (d c:aq) {R:Type} (yes no:R):cond (slt c.ax d.ax) no (cond (decide (c.ax=d.ax)) (cond (decide (c.Number≤d.Number)) no yes) yes)=cond (NM d c) yes no:=by
 unfold NM
 rcases qq c.ax d.ax with ⟨h1,h2,h3⟩ | ⟨h1,h2,h3⟩ | ⟨h1,h2,h3⟩
 ·have Pm:d.ax≠c.ax:=fun e=>h3 e.symm
  simp [h1,h2,Pm]
 ·simp [h1,h2,h3]
 ·rw [h3,zJ]
  by_cases h4:c.Number≤d.Number
  ·have:¬ d.Number<c.Number:=by omega
   simp [h4,this]
  ·have:d.Number<c.Number:=by omega
   simp [h4,this]
def Yv (cs:List aq) (i:Nat) (c:aq) (yes:Option Bool):Option Bool:=cond (decide ((i:Int)>0)) (cond (decide (0≤IntKind.i64.wrap ((i:Int)-1))) (Option.bind cs[(IntKind.i64.wrap ((i:Int)-1)).toNat]? fun e=>cond (slt c.ax e.ax) (some false) (cond (decide (c.ax=e.ax)) (cond (decide (c.Number≤e.Number)) (some false) yes) yes)) none) yes
theorem UB {cs:List aq} {i:Nat} (hi:i<cs.length) (hl:cs.length≤1048576) (yes:Option Bool):Yv cs i cs[i] yes=cond (decide (i=0)) yes (cond (NM (cs[i-1]'(by omega)) cs[i]) yes (some false)):=by
 unfold Yv
 by_cases h0:i=0
 ·subst h0;simp
 ·have p1:(i:Int)>0:=by omega
  simp only [p1,h0,decide_true,decide_false,cond_true,cond_false,jC (show 0<i by omega) (by omega),Int.natCast_nonneg,get_cast (show i-1<cs.length by omega),Option.bind_some];exact Xd _ _ _ _
theorem VS {bs:List av} {cs:List aq} {i:Nat} {n:ByteArray} {c:aq} {de:Int→Option Bool} (hb:bs.length≤1048576) :
  cu (xV n (bs.length:Int) (i:Int) (i:Int) false true cs bs c.ax c.Number fuel de) fuel 0=cond (decide (ed (iU n) bs 0<0)) (some false) (Yv cs i c (de (IntKind.i64.wrap ((i:Int)+1)))):=
 u5 (st:=fun i=>((i:Nat):Int)) hb (fun _=>Yv cs i c (de (IntKind.i64.wrap ((i:Int)+1)))) (some false) (fun rec=>by simp [xV]) (fun rec j hj=>by
  have q1:(j:Int)<(bs.length:Int):=by omega
  simp only [xV,q1,decide_true,cond_true,cond_false,Int.natCast_nonneg,get_cast hj,Option.bind_some,iU];rw [bh (show j<4611686018427387904 by omega)]
  rfl)
theorem QT {b:aa} (h1:b.ae.length≤1048576) (h2:b.ai.length≤1048576) (h3:b.aj.length≤1048576):qj b=some (vB b):=by
 unfold qj RN vB;rw [g33];cases eZ b.b8 0 1000000<;>(try rfl);cases decide ((b.ae.length:Int)>8)<;>(try rfl);cases decide ((b.ai.length:Int)>200)<;>(try rfl);cases decide ((b.aj.length:Int)>6)<;>(try rfl);simp only [Option.bind_some,Bool.not_true,Bool.not_false,cond_false,cond_true,Bool.true_and]
 have e2:cu (BQ b.ai (b.ai.length:Int) b.b8 b.ae b.ai b.aj fuel) fuel 0=some (iH (zS (M7 b) NM b.ai) b.ai.length 0):=
  qR (st:=fun i=>((i:Nat):Int)) (by omega) (fun rec=>by simp [BQ]) (fun rec i hi=>by
   have q1:(i:Int)<(b.ai.length:Int):=by omega
   refine IC hi _ _ _ ?_;simp only [BQ,q1,decide_true,cond_true,Int.natCast_nonneg,get_cast hi,Option.bind_some];rw [←UB hi h2,← bh (show i<4611686018427387904 by omega)];generalize hc:b.ai[i]=c
   have hp:=u5 (jd:=xW c.ax (b.ae.length:Int) (i:Int) (i:Int) b.b8 b.ae b.ai b.aj c.ax c.Number c.Version c.aB c.State c.bw fuel rec) (p:=kD c.ax) (st:=fun i=>((i:Nat):Int)) h1
    (fun j=>match b.ae[j]? with
     | some s=>cond (eZ c.Number 1 (IntKind.i64.wrap (s.Next-1))&&(eZ c.Version 1 b.b8&&(eZ c.aB 1 1000000&&(eZ c.State 1 4&&cond (c.State==1) (decide (c.bw=⟨#[]⟩)) (decide (ed (iU c.bw) b.aj 0≥0)))))) (Yv b.ai i c (rec (IntKind.i64.wrap ((i:Int)+1)))) (some false)
     | none=>none) (some false) (fun rec=>by simp [xW]) (fun rec j hj=>by
     have q1:(j:Int)<(b.ae.length:Int):=by omega
     simp only [xW,q1,decide_true,cond_true,Int.natCast_nonneg,get_cast hj,Option.bind_some,g33,List.getElem?_eq_getElem hj]
     cases hsv:kD c.ax b.ae[j] with
     | false=>
      have:decide (b.ae[j].Name=c.ax)=false:=hsv;rw [this,bh (show j<4611686018427387904 by omega)];rfl
     | true=>
      have:decide (b.ae[j].Name=c.ax)=true:=hsv;rw [this];simp only [cond_true];cases eZ c.Number 1 (IntKind.i64.wrap (b.ae[j].Next-1))<;>(try rfl);cases eZ c.Version 1 b.b8<;>(try rfl);cases eZ c.aB 1 1000000<;>(try rfl);cases eZ c.State 1 4<;>(try rfl)
      by_cases hs1:c.State=1
      ·have a1:(c.State==1)=true:=by simp [hs1]
       have a2:(c.State != 1)=false:=by simp [hs1]
       simp only [a1,a2,cond_true,cond_false,Bool.not_true,Bool.true_and];cases decide (c.bw=⟨#[]⟩)<;>rfl
      ·have a1:(c.State==1)=false:=by simp [hs1]
       have a2:(c.State != 1)=true:=by simp [hs1]
       simp only [a1,a2,cond_true,cond_false,Bool.not_true,Bool.true_and];rw [VS h3]
       rcases eQ (iU c.bw) b.aj with ⟨e,_⟩ | ⟨i,hi,e,_⟩<;>rw [e]
       ·rfl
       ·have b1:¬ ((i:Nat):Int)<0:=by omega
        have b2:((i:Nat):Int)≥0:=by omega
        simp only [b1,b2,decide_true,decide_false,cond_true,cond_false])
   rw [show (cu (xW c.ax (b.ae.length:Int) (i:Int) (i:Int) b.b8 b.ae b.ai b.aj c.ax c.Number c.Version c.aB c.State c.bw fuel rec) fuel 0)=_ from hp];unfold M7
   rcases eQ (kD c.ax) b.ae with ⟨e,_⟩ | ⟨j,hj,e,_⟩<;>rw [e]
   ·cases b.ae[(-1:Int).toNat]?<;>rfl
   ·have b1:¬ ((j:Nat):Int)<0:=by omega
    simp only [b1,decide_false,cond_false,Int.toNat_natCast,List.getElem?_eq_getElem hj,Bool.not_false,Bool.true_and])
 have e1:cu (xX b.aj (b.aj.length:Int) b.b8 b.ae b.ai b.aj fuel) fuel 0=cond (iH (zS (fun s=>En s.Name) (fun d s=>slt d.Name s.Name) b.aj) b.aj.length 0) (some (iH (zS (M7 b) NM b.ai) b.ai.length 0)) (some false):=
  sQ (st:=fun i=>((i:Nat):Int)) _ _ h3 (fun rec=>by simp [xX,e2]) (fun rec i hi=>by
   have q1:(i:Int)<(b.aj.length:Int):=by omega
   refine IC hi _ _ _ ?_;simp only [xX,q1,decide_true,cond_true,Int.natCast_nonneg,get_cast hi,Option.bind_some,g35,bh (show i<4611686018427387904 by omega)];cases En b.aj[i].Name<;>(try rfl);simp only [Bool.not_true,cond_false,cond_true]
   by_cases h0:i=0
   ·subst h0;simp
   ·have p1:(i:Int)>0:=by omega
    simp only [p1,h0,decide_true,decide_false,cond_true,cond_false,jC (show 0<i by omega) (by omega),Int.natCast_nonneg,get_cast (show i-1<b.aj.length by omega),Option.bind_some]
    cases slt (b.aj[i-1]'(by omega)).Name b.aj[i].Name<;>rfl)
 have e0:cu (BR b.ae (b.ae.length:Int) b.b8 b.ae b.ai b.aj fuel) fuel 0=cond (iH (zS (fun s=>JK s b.b8) (fun d s=>slt d.Name s.Name) b.ae) b.ae.length 0) (cu (xX b.aj (b.aj.length:Int) b.b8 b.ae b.ai b.aj fuel) fuel 0) (some false):=
  sQ (st:=fun i=>((i:Nat):Int)) _ _ h1 (fun rec=>by simp [BR]) (fun rec i hi=>by
   have q1:(i:Int)<(b.ae.length:Int):=by omega
   refine IC hi _ _ _ ?_;simp only [BR,q1,decide_true,cond_true,Int.natCast_nonneg,get_cast hi,Option.bind_some,g34,bh (show i<4611686018427387904 by omega)];cases JK b.ae[i] b.b8<;>(try rfl);simp only [Bool.not_true,cond_false,cond_true]
   by_cases h0:i=0
   ·subst h0;simp
   ·have p1:(i:Int)>0:=by omega
    simp only [p1,h0,decide_true,decide_false,cond_true,cond_false,jC (show 0<i by omega) (by omega),Int.natCast_nonneg,get_cast (show i-1<b.ae.length by omega),Option.bind_some]
    cases slt (b.ae[i-1]'(by omega)).Name b.ae[i].Name<;>rfl)
 rw [e0,e1];cases iH (zS (fun s=>JK s b.b8) (fun d s=>slt d.Name s.Name) b.ae) b.ae.length 0<;>cases iH (zS (fun s=>En s.Name) (fun d s=>slt d.Name s.Name) b.aj) b.aj.length 0<;>rfl
end Go.Proofs.Ytipemmgoipbojaa.Ab
set_option maxRecDepth 10000
namespace Go.Proofs.Ytipemmgoipbojaa.Ab
open Go Go.RowKit
def tlF (a:bJ):Bool:=(cond a.nJ (eZ a.Want 0 10&&eZ a.cE 0 3) ((a.Want==0)&&(a.cE==0)))&&((!a.Drop)||((a.iI==0)&&((!a.nJ)&&((a.Ends.length:Int)==0))))
def enP (xs:List lA) (i:Nat):Bool:=match xs[i-1]?,xs[i]? with
 | some d,some c=> !decide (d.Number≥c.Number)
 | _,_=>false
def fmB (a:bJ):Bool:=eZ a.iI 0 20&&((!decide ((a.Ends.length:Int)>200))&&(iH (enP a.Ends) a.Ends.length 1&&tlF a))
theorem GL (a:bJ) (n:Nat) (rec:Int→Option Bool) (x:Int) (h:¬ x<(a.Ends.length:Int)):xL a.iI a.Want a.cE a.nJ a.Ends a.Drop n rec x=some (tlF a):=by
 unfold tlF;simp only [xL,h,decide_false,cond_false,QS,Option.bind_some];cases a.nJ
 ·simp only [cond_false,Bool.not_false,cond_true]
  by_cases h1:a.Want=0
  ·by_cases h2:a.cE=0
   ·simp only [h1,h2,bne_self_eq_false,cond_false,beq_self_eq_true,Bool.and_self,Bool.true_and]
    cases a.Drop<;>(try rfl);cases (a.iI==0)<;>rfl
   ·have q1:(a.cE != 0)=true:=by simp [h2]
    have q2:(a.cE==0)=false:=by simp [h2]
    simp only [h1,q1,q2,bne_self_eq_false,cond_false,cond_true,Bool.and_false,Bool.false_and]
  ·have q1:(a.Want != 0)=true:=by simp [h1]
   have q2:(a.Want==0)=false:=by simp [h1]
   simp only [q1,q2,cond_true,Bool.false_and]
 ·simp only [cond_true,Bool.not_true,cond_false]
  cases eZ a.Want 0 10<;>(try rfl);cases eZ a.cE 0 3<;>(try rfl);cases a.Drop<;>(try rfl);cases (a.iI==0)<;>rfl
theorem g81 {a:bJ} (h:a.Ends.length≤1048576):G81 a=some (fmB a):=by
 unfold G81 Rv fmB;rw [QS];cases eZ a.iI 0 20<;>(try rfl);cases decide ((a.Ends.length:Int)>200)<;>(try rfl);simp only [Option.bind_some,Bool.not_true,Bool.not_false,cond_false,Bool.true_and]
 rcases Nat.eq_zero_or_pos a.Ends.length with h0 | h0
 ·rw [Hh (show 0<fuel by unfold fuel;omega),GL a fuel _ 1 (by omega)]
  simp [iH,h0]
 ·have key:∀ n i,1≤i→i≤a.Ends.length→a.Ends.length-i<n→cu (xL a.iI a.Want a.cE a.nJ a.Ends a.Drop fuel) n ((i:Nat):Int)=some (iH (enP a.Ends) a.Ends.length i&&tlF a):=by
   intro n
   induction n with
   | zero=>intro i _ _ h;omega
   | succ n ih=>
    intro i h1 h2 hn;rw [oS]
    rcases Nat.lt_or_ge i a.Ends.length with h3 | h3
    ·have q1:(i:Int)<(a.Ends.length:Int):=by omega
     have e:=ih (i+1) (by omega) (by omega) (by omega);rw [←bh (by omega)] at e;rw [sS h3]
     have he:enP a.Ends i = !decide ((a.Ends[i-1]'(by omega)).Number≥a.Ends[i].Number):=by
      unfold enP;rw [List.getElem?_eq_getElem h3,List.getElem?_eq_getElem (by omega)]
     rw [he];simp only [xL,q1,decide_true,cond_true,jC (show 0<i by omega) (by omega),Int.natCast_nonneg,get_cast (show i-1<a.Ends.length by omega),get_cast h3,Option.bind_some]
     cases decide ((a.Ends[i-1]'(by omega)).Number≥a.Ends[i].Number) with
     | true=>rfl
     | false=>simpa using e
    ·have:i=a.Ends.length:=by omega
     subst this;rw [GL a fuel _ _ (by omega),wk,Bool.true_and]
  exact key fuel 1 (by omega) h0 (by have:=cU;omega)
theorem Ao {α B A R:Type} {f:B→α→B} {xs:List α} {st:Nat→B→A} {jd:(A→Option R)→A→Option R} (fin:B→Option R) (hl:xs.length≤1048576)
  (hend:∀ rec b,jd rec (st xs.length b)=fin b) (hstep:∀ rec i (hi:i<xs.length) b,jd rec (st i b)=rec (st (i+1) (f b xs[i]))) (b:B):cu jd fuel (st 0 b)=fin (xs.foldl f b):=by
 have key:∀ n i b,i≤xs.length→xs.length-i<n→cu jd n (st i b)=fin ((xs.drop i).foldl f b):=by
  intro n
  induction n with
  | zero=>intro i b _ h;omega
  | succ n ih=>
   intro i b hi hn;rw [oS]
   rcases Nat.lt_or_ge i xs.length with h | h
   ·rw [hstep _ i h,ih (i+1) _ (by omega) (by omega),List.drop_eq_getElem_cons h,List.foldl_cons]
   ·have:i=xs.length:=by omega
    subst this;rw [hend,List.drop_length];rfl
 simpa using key fuel 0 b (Nat.zero_le _) (by have:=cU;omega)
abbrev CT:Type:=Int×Int×Int×Int×Int
def ctS (n:ByteArray) (img:Int) (t:CT) (c:aq):CT:=cond (decide (c.ax=n)) (cond c.Ending (t.1,t.2.1,t.2.2.1,t.2.2.2.1,IntKind.i64.wrap (t.2.2.2.2+1))
 (IntKind.i64.wrap (t.1+1),cond (c.State==3) (IntKind.i64.wrap (t.2.1+1)) t.2.1,cond (c.aB != img) (IntKind.i64.wrap (t.2.2.1+1)) t.2.2.1,cond (c.State==4) (IntKind.i64.wrap (t.2.2.2.1+1)) t.2.2.2.1,t.2.2.2.2)) t
def ctV (t:CT):eT:=⟨t.1,t.2.1,t.2.2.1,t.2.2.2.1,t.2.2.2.2⟩
def ctB (n:ByteArray) (img:Int) (cs:List aq):eT:=ctV (cs.foldl (ctS n img) (0,0,0,0,0))
def XB (i:Nat) (t:CT):Int×Int×Int×Int×Int×Int:=(((i:Nat):Int),t.1,t.2.1,t.2.2.1,t.2.2.2.1,t.2.2.2.2)
theorem ct52 {cs:List aq} {ss:List af} {n:ByteArray} {k:Nat} (hk:k<ss.length) (rec:zl→Option eT) (i:Nat) (hi:i<cs.length) (h:cs.length≤1048576) (t:CT) (m:Nat):uZ n ((k:Nat):Int) ss cs m rec (XB i t)=rec (XB (i+1) (ctS n ss[k].aB t cs[i])):=by
 have q1:(i:Int)<(cs.length:Int):=by omega
 have q2:((k:Nat):Int)≥0:=by omega
 simp only [XB,uZ,q1,q2,decide_true,cond_true,Int.natCast_nonneg,get_cast hi,get_cast hk,Option.bind_some,bh (show i<4611686018427387904 by omega),ctS];cases decide (cs[i].ax=n)<;>(try rfl);cases cs[i].Ending<;>(try rfl);cases (cs[i].State==3)<;>cases (cs[i].aB != ss[k].aB)<;>cases (cs[i].State==4)<;>rfl
theorem lp83 {cs:List aq} {ss:List af} {n:ByteArray} {k:Nat} (hk:k<ss.length) (h:cs.length≤1048576) (t:CT):cu (uZ n ((k:Nat):Int) ss cs fuel) fuel (XB 0 t)=some (ctV (cs.foldl (ctS n ss[k].aB) t)):=
 Ao (st:=XB) (f:=ctS n ss[k].aB) (fun t=>some (ctV t)) h (fun rec t=>by simp [XB,uZ,ctV]) (fun rec i hi t=>ct52 hk rec i hi h t fuel) t
theorem g83 {b:aa} {n:ByteArray} {k:Nat} (hs:b.ae.length≤1048576) (h:b.ai.length≤1048576) (hk:k<b.ae.length) (hp:ed (kD n) b.ae 0=(k:Int)):Dn b n=some (ctB n b.ae[k].aB b.ai):=by
 have:=lp83 (n:=n) hk h (0,0,0,0,0);unfold Dn OM;rw [XP hs,hp];exact this
theorem Wt {b:aa} (h1:b.ae.length≤1048576) (h2:b.ai.length≤1048576) (h3:b.aj.length≤1048576):zi b=some b:=by
 unfold zi Xu
 have e1:(([]:List (C .aA)).length+b.ae.length)*112≤140737488355328:=by simp only [List.length_nil];omega
 have e2:(([]:List (C .aC)).length+b.ai.length)*72≤140737488355328:=by simp only [List.length_nil];omega
 have e3:(([]:List (C .ay)).length+b.aj.length)*24≤140737488355328:=by simp only [List.length_nil];omega
 simp only [e1,e2,e3,decide_true,cond_true,List.nil_append]
theorem g24 {b:aa} (h1:b.ae.length≤1048576) (h2:b.ai.length≤1048576) (h3:b.aj.length≤1048576):iR b=some b:=by
 unfold iR Xw
 have e1:(([]:List (C .aA)).length+b.ae.length)*112≤140737488355328:=by simp only [List.length_nil];omega
 have e2:(([]:List (C .aC)).length+b.ai.length)*72≤140737488355328:=by simp only [List.length_nil];omega
 have e3:(([]:List (C .ay)).length+b.aj.length)*24≤140737488355328:=by simp only [List.length_nil];omega
 simp only [e1,e2,e3,decide_true,cond_true,List.nil_append]
def lead {α:Type} (p:α→Bool) (xs:List α):Nat:=(xs.takeWhile p).length
theorem QB {α:Type} (p:α→Bool) (xs:List α):lead p xs≤xs.length:=by
 unfold lead
 induction xs with
 | nil=>simp
 | cons x xs ih=>simp only [List.takeWhile_cons];split<;>simp;omega
end Go.Proofs.Ytipemmgoipbojaa.Ab
set_option maxRecDepth 10000
namespace Go.Proofs.Ytipemmgoipbojaa.Ab
open Go Go.RowKit
def Ok {α:Type} (o:Option α) (Q:α→Prop):Prop:=∃ r,o=some r∧Q r
theorem aJ {α:Type} {x:α} {Q:α→Prop} (h:Q x):Ok (some x) Q:=⟨x,rfl,h⟩
theorem cV {α β:Type} {o:Option α} {f:α→Option β} {P:α→Prop} {Q:β→Prop} (h:Ok o P) (hf:∀ r,P r→Ok (f r) Q):Ok (Option.bind o f) Q:=by
 obtain ⟨r,e,p⟩:=h;rw [e];exact hf r p
theorem iS {α:Type} {o:Option α} {P Q:α→Prop} (h:Ok o P) (hf:∀ r,P r→Q r):Ok o Q:=by
 obtain ⟨r,e,p⟩:=h;exact ⟨r,e,hf r p⟩
theorem bH {α:Type} {b:Bool} {x y:Option α} {Q:α→Prop} (h1:b=true→Ok x Q) (h2:b=false→Ok y Q):Ok (cond b x y) Q:=by
 cases b
 ·exact h2 rfl
 ·exact h1 rfl
theorem bM {α:Type} {b:Bool} {x y:Option α} {Q:α→Prop} (h:b=true) (hx:Ok x Q):Ok (cond b x y) Q:=by rw [h];exact hx
theorem nX {α:Type} {y:Option α} {Q:α→Prop} (h:Ok y Q):Ok ((fun y=>alt y (y)) y) Q:=by
 show Ok (alt y y) Q;rw [Dh];exact h
theorem LD {α β:Type} {xs:List α} {i:Nat} {f:α→Option β} {Q:β→Prop} (h:i<xs.length) (hf:∀ x,xs[i]?=some x→Ok (f x) Q):Ok (Option.bind xs[i]? f) Q:=by
 have e:=List.getElem?_eq_getElem h;have:=hf _ e;rw [e];exact this
theorem gx {α β:Type} {xs:List α} {i:Int} {f:α→Option β} {Q:β→Prop} (h0:0≤i) (h1:i<(xs.length:Int)) (hf:∀ x,xs[i.toNat]?=some x→Ok (f x) Q):Ok (cond (decide (0≤i)) (cond (decide (i<(xs.length:Int))) (Option.bind xs[i.toNat]? f) none) none) Q:=
 bM (by simp [h0]) (bM (by simp [h1]) (LD (by omega) hf))
theorem dh {α β:Type} {xs:List α} {i:Int} {f:α→Option β} {Q:β→Prop} (h0:0≤i) (h1:i<(xs.length:Int)) (hf:∀ x,xs[i.toNat]?=some x→Ok (f x) Q):Ok (cond (decide (0≤i)) (Option.bind xs[i.toNat]? f) none) Q:=
 bM (by simp [h0]) (LD (by omega) hf)
theorem eE {A R:Type} {jd:(A→Option R)→A→Option R} {Q:R→Prop} (I:A→Prop) (m:A→Nat) (h:∀ rec x,I x→(∀ y,I y→m y<m x→Ok (rec y) Q)→Ok (jd rec x) Q):∀ n x,I x→m x<n→Ok (cu jd n x) Q:=by
 intro n
 induction n with
 | zero=>intro x _ h;omega
 | succ n ih=>
  intro x hx hm;rw [oS]
  exact h _ x hx fun y hy hlt=>ih y hy (by omega)
theorem Ok.out {α:Type} {o:Option α} {Q:α→Prop} {x:α} (h:Ok o Q) (e:o=some x):Q x:=by
 obtain ⟨r,e',q⟩:=h;rw [e] at e';cases e';exact q
theorem il:0<fuel:=by unfold fuel;omega
theorem Uv {a b:Int} (ha:0≤a) (hb:0≤b) (ha2:a<4611686018427387904) (Ep:b<4611686018427387904):0≤J7 .i64 a b:=by
 obtain ⟨n,rfl⟩:=Int.eq_ofNat_of_zero_le ha;obtain ⟨m,rfl⟩:=Int.eq_ofNat_of_zero_le hb
 have e1:(BitVec.ofInt 64 (n:Int)).toNat=n:=by rw [BitVec.ofInt_natCast,BitVec.toNat_ofNat];omega
 have e2:(BitVec.ofInt 64 (m:Int)).toNat=m:=by rw [BitVec.ofInt_natCast,BitVec.toNat_ofNat];omega
 have h:n ^^^ m<2 ^ 62:=Nat.xor_lt_two_pow (by omega) (by omega)
 have e:J7 .i64 (n:Int) (m:Int)=((n ^^^ m:Nat):Int):=by
  show IntKind.i64.wrap (((BitVec.ofInt 64 (n:Int) ^^^ BitVec.ofInt 64 (m:Int)).toNat:Nat):Int)=_;rw [BitVec.toNat_xor,e1,e2,cH (by omega) (by omega)]
 rw [e];omega
def Dy (bs:List (C .e5)):Prop:=bs.length≤2000∧∀ b:Int,b∈(bs:List Int)→0≤b∧b<256
abbrev PT:Int:=1000000000000
theorem d23 (n d:Nat) (h:0<d):cA n d=B23 n (cA n (d-1)):=by
 obtain ⟨m,rfl⟩:∃ k,d=k+1:=⟨d-1,by omega⟩;rfl
theorem pk {bs:List (C .e5)} {p m:Int} (hb:Dy bs) (h0:0≤p) (h1:p≤PT):Ok ((cA fuel fuel) m bs p) (fun r=>r.1=bs∧r.2.1=p+1∧0≤r.2.2∧(1≤m→r.2.2<m)):=by
 unfold PT at h1;obtain ⟨hl,hv⟩:=hb;rw [d23 _ _ il];unfold B23;have w1:IntKind.i64.wrap (p+1)=p+1:=cH (by omega) (by omega)
 have w2:IntKind.i64.wrap (p+1-1)=p:=by rw [cH (by omega) (by omega)];omega
 simp only [w1,w2]
 refine bH (fun h=>aJ ⟨rfl,rfl,Int.le_refl 0,fun h'=>?_⟩) fun hm=>?_
 ·show (0:Int)<m
  omega
 have hm:1≤m:=by have:=of_decide_eq_false hm;omega
 refine bH (fun h=>aJ ⟨rfl,rfl,Int.le_refl 0,fun h'=>show (0:Int)<m by omega⟩) fun hn=>?_
 have hn:0<bs.length:=by
  have:¬ ((bs.length:Int)=0):=by simpa using hn
  omega
 have hm0:¬ m=0:=by omega
 have hn0:¬ (bs.length:Int)=0:=by omega
 refine bH (fun h=>?_) fun h=>?_
 ·have h:=of_decide_eq_true h
  refine dh h0 h fun (e:Int) he=>?_
  obtain ⟨v1,v2⟩:=hv e (List.mem_of_getElem? he);have w:IntKind.i64.wrap e=e:=cH (by omega) (by omega);simp only [hm0,decide_false,cond_false,w];exact aJ ⟨rfl,rfl,Int.tmod_nonneg _ v1,fun _=>Int.tmod_lt_of_pos _ (show (0:Int)<m by omega)⟩
 ·have t1:=Int.tmod_nonneg (bs.length:Int) h0
  have t2:=Int.tmod_lt_of_pos p (show 0<(bs.length:Int) by omega);have w3:IntKind.i64.wrap (p*7)=p*7:=cH (by omega) (by omega);have w4:IntKind.i64.wrap (p*7+3)=p*7+3:=cH (by omega) (by omega);have t3:=Int.tmod_nonneg (bs.length:Int) (show 0≤p*7+3 by omega);have t4:=Int.tmod_lt_of_pos (p*7+3) (show 0<(bs.length:Int) by omega);simp only [hn0,hm0,decide_false,cond_false,w3,w4,show ¬ (64:Int)=0 by omega]
  refine dh t1 t2 fun (e:Int) he=>?_
  refine dh t3 t4 fun (f:Int) hf=>?_
  obtain ⟨v1,v2⟩:=hv e (List.mem_of_getElem? he);obtain ⟨u1,u2⟩:=hv f (List.mem_of_getElem? hf);have q1:=Int.tdiv_nonneg h0 (show 0≤(bs.length:Int) by omega);have q2:p.tdiv (bs.length:Int)≤p:=Int.tdiv_le_self _ h0;have z1:IntKind.i64.wrap (e:Int)=e:=cH (by omega) (by omega);have z2:IntKind.i64.wrap (f:Int)=f:=cH (by omega) (by omega);have z3:IntKind.i64.wrap (p.tdiv (bs.length:Int))=p.tdiv (bs.length:Int):=cH (by omega) (by omega);have z4:IntKind.i64.wrap ((e:Int)*131)=e*131:=cH (by omega) (by omega);have z5:IntKind.i64.wrap ((f:Int)*1117)=f*1117:=cH (by omega) (by omega);have z6:IntKind.i64.wrap (p*29)=p*29:=cH (by omega) (by omega);have z7:IntKind.i64.wrap (p.tdiv (bs.length:Int)*53)=p.tdiv (bs.length:Int)*53:=cH (by omega) (by omega);have z8:IntKind.i64.wrap ((e:Int)*131+f*1117)=e*131+f*1117:=cH (by omega) (by omega);have z9:IntKind.i64.wrap ((e:Int)*131+f*1117+p*29)=e*131+f*1117+p*29:=cH (by omega) (by omega);have za:IntKind.i64.wrap ((e:Int)*131+f*1117+p*29+p.tdiv (bs.length:Int)*53)=e*131+f*1117+p*29+p.tdiv (bs.length:Int)*53:=cH (by omega) (by omega);simp only [z1,z2,z3,z4,z5,z6,z7,z8,z9,za]
  have nn:0≤(e:Int)*131+f*1117+p*29+p.tdiv (bs.length:Int)*53:=by omega
  generalize hx:(e:Int)*131+f*1117+p*29+p.tdiv (bs.length:Int)*53=x at nn
  have V6:x<4611686018427387904:=by omega
  have d1:=Int.tdiv_nonneg nn (show (0:Int)≤64 by omega);have d2:x.tdiv 64≤x:=Int.tdiv_le_self _ nn;have zb:IntKind.i64.wrap (x.tdiv 64)=x.tdiv 64:=cH (by omega) (by omega);rw [zb]
  have d3:x.tdiv 64<4611686018427387904:=by omega
  exact aJ ⟨rfl,rfl,Int.tmod_nonneg _ (Uv nn d1 V6 d3),fun _=>Int.tmod_lt_of_pos _ (show (0:Int)<m by omega)⟩
end Go.Proofs.Ytipemmgoipbojaa.Ab
set_option maxRecDepth 10000
namespace Go.Proofs.Ytipemmgoipbojaa.Ab
open Go Go.RowKit
theorem gw {β:Type} {bs:List (C .e5)} {p m:Int} {f:List (C .e5)×Int×Int→Option β} {Q:β→Prop} (hb:Dy bs) (h0:0≤p) (h1:p≤PT) (hf:∀ v,0≤v→(1≤m→v<m)→Ok (f (bs,p+1,v)) Q):Ok (Option.bind ((cA fuel fuel) m bs p) f) Q:=
 cV (pk hb h0 h1) fun r ⟨e1,e2,e3,e4⟩=>by
  obtain ⟨b,q,v⟩:=r;simp only at e1 e2;subst e1 e2;exact hf v e3 e4
theorem d51 (n d:Nat) (h:0<d):qc n d=B51 n (qc n (d-1)):=by
 obtain ⟨m,rfl⟩:∃ k,d=k+1:=⟨d-1,by omega⟩;rfl
theorem d22 (n d:Nat) (h:0<d):wH n d=B22 n (wH n (d-1)):=by
 obtain ⟨m,rfl⟩:∃ k,d=k+1:=⟨d-1,by omega⟩;rfl
theorem d71 (n d:Nat) (h:0<d):AU n d=B71 n (AU n (d-1)):=by
 obtain ⟨m,rfl⟩:∃ k,d=k+1:=⟨d-1,by omega⟩;rfl
def Rp {α:Type} (bs:List (C .e5)) (p c:Int) (r:List (C .e5)×Int×α):Prop:=r.1=bs∧p≤r.2.1∧r.2.1≤p+c
theorem dw {bs:List (C .e5)} {p:Int} (hb:Dy bs) (h0:0≤p) (h1:p≤PT-100):Ok ((qc fuel fuel) bs p) (Rp bs p 100):=by
 unfold PT at h1;rw [d51 _ _ il];unfold B51
 repeat' (first
  | (refine gw hb (by omega) (by unfold PT;omega) fun v g1 g2=>?_;have g3:=g2 (by omega);clear g2;dsimp only)
  | (refine gx (by omega) (by simp only [List.length_cons,List.length_nil];omega) fun e he=>?_)
  | (refine aJ ⟨rfl,?_,?_⟩<;>dsimp only<;>omega)
  | (refine bH (fun _=>?_) fun _=>?_))
theorem SA {β:Type} {bs:List (C .e5)} {p:Int} {f:List (C .e5)×Int×af→Option β} {Q:β→Prop} (hb:Dy bs) (h0:0≤p) (h1:p≤PT-100) (hf:∀ p' s,p≤p'→p'≤p+100→Ok (f (bs,p',s)) Q):Ok (Option.bind ((qc fuel fuel) bs p) f) Q:=
 cV (dw hb h0 h1) fun r ⟨e1,e2,e3⟩=>by
  obtain ⟨b,q,v⟩:=r;simp only at e1;subst e1;exact hf q v e2 e3
theorem lp22 {bs:List (C .e5)} {p:Int} {sv:List (C .aA)} {cp:List (C .aC)} {rc:(Int)→(List (C .aA))→(List (C .aC))→(List (C .ay))→(List (C .e5))→(Int)→Option (List (C .e5)×Int×az)} (hb:Dy bs) (h0:0≤p) (h1:p≤PT-2000) (hs:sv.length≤1000) (hc:cp.length≤2000) :
  Ok (cu (GS sv cp fuel rc) fuel (0,bs,p)) (Rp bs p 1500):=by
 unfold PT at h1;refine eE (I:=fun x=>0≤x.1∧x.1≤(sv.length:Int)∧x.2.1=bs∧p≤x.2.2∧x.2.2≤p+x.1) (m:=fun x=>((sv.length:Int)-x.1).toNat) (fun rec x hI hr=>?_) fuel _ ⟨by simp,by simp,rfl,by simp,by simp⟩ (by simp;have:=cU;omega);obtain ⟨i,b,q⟩:=x;obtain ⟨i0,i1,rfl,q0,q1⟩:=hI;dsimp only at i0 i1 q0 q1 hr;unfold GS
 refine bH (fun h=>?_) fun h=>?_
 ·have h:=of_decide_eq_true h
  refine gw hb (by omega) (by unfold PT;omega) fun v g1 g2=>?_
  dsimp only
  refine bH (fun _=>?_) fun _=>?_
  ·refine dh i0 h fun e he=>aJ ⟨rfl,?_,?_⟩<;>dsimp only<;>omega
  ·rw [cH (by omega) (by omega)]
   refine hr _ ⟨?_,?_,rfl,?_,?_⟩ ?_<;>dsimp only<;>omega
 ·repeat' (first
  | (refine gw hb (by omega) (by unfold PT;omega) fun v g1 g2=>?_;dsimp only)
  | (refine dh (by omega) (by simp at *;omega) fun e he=>?_)
  | (refine aJ ⟨rfl,?_,?_⟩<;>dsimp only<;>omega)
  | (refine bH (fun _=>?_) fun _=>?_))
theorem evd {now:Int} {sv:List (C .aA)} {cp:List (C .aC)} {be:List (C .ay)} {bs:List (C .e5)} {p:Int} (hb:Dy bs) (h0:0≤p) (h1:p≤PT-3000) (hs:sv.length≤1000) (hc:cp.length≤2000):Ok ((wH fuel fuel) now sv cp be bs p) (Rp bs p 2000):=by
 unfold PT at h1;rw [d22 _ _ il];unfold B22
 refine gw hb (by omega) (by unfold PT;omega) fun v g1 g2=>?_
 have g3:=g2 (by omega);clear g2;dsimp only
 refine gx (by omega) (by simp only [List.length_cons,List.length_nil];omega) fun e he=>?_
 refine gw hb (by omega) (by unfold PT;omega) fun v g1 g2=>?_
 clear g2;dsimp only
 repeat' (first
  | (refine gw hb (by omega) (by unfold PT;omega) fun v g1 g2=>?_;dsimp only)
  | (refine SA hb (by omega) (by unfold PT;omega) fun p' s g1 g2=>?_;dsimp only)
  | (refine iS (lp22 hb (by omega) (by unfold PT;omega) hs hc) ?_;rintro r ⟨z1,z2,z3⟩;refine ⟨z1,?_,?_⟩<;>omega)
  | (refine gx (by omega) (by simp at *;omega) fun e he=>?_)
  | (refine dh (by omega) (by simp at *;omega) fun e he=>?_)
  | (refine aJ ⟨rfl,?_,?_⟩<;>dsimp only<;>omega)
  | (refine bH (fun _=>?_) fun _=>?_))
theorem LF {β:Type} {now:Int} {sv:List (C .aA)} {cp:List (C .aC)} {be:List (C .ay)} {bs:List (C .e5)} {p:Int} {f:List (C .e5)×Int×az→Option β} {Q:β→Prop} (hb:Dy bs) (h0:0≤p) (h1:p≤PT-3000) (hs:sv.length≤1000) (hc:cp.length≤2000) (hf:∀ p' s,p≤p'→p'≤p+2000→Ok (f (bs,p',s)) Q):Ok (Option.bind ((wH fuel fuel) now sv cp be bs p) f) Q:=
 cV (evd hb h0 h1 hs hc) fun r ⟨e1,e2,e3⟩=>by
  obtain ⟨b,q,v⟩:=r;simp only at e1;subst e1;exact hf q v e2 e3
theorem mvd {now:Int} {sv:List (C .aA)} {cp:List (C .aC)} {be:List (C .ay)} {bs:List (C .e5)} {p:Int} (hb:Dy bs) (h0:0≤p) (h1:p≤PT-4000) (hs:sv.length≤1000) (hc:cp.length≤2000):Ok ((AU fuel fuel) now sv cp be bs p) (Rp bs p 3000):=by
 unfold PT at h1;rw [d71 _ _ il];unfold B71
 repeat' (first
  | (refine gw hb (by omega) (by unfold PT;omega) fun v g1 g2=>?_;have g3:=g2 (by omega);clear g2;dsimp only)
  | (refine LF hb (by omega) (by unfold PT;omega) hs hc fun p' s g1 g2=>?_;dsimp only)
  | (refine gx (by omega) (by simp only [List.length_cons,List.length_nil];omega) fun e he=>?_)
  | (refine aJ ⟨rfl,?_,?_⟩<;>dsimp only<;>omega)
  | (refine bH (fun _=>?_) fun _=>?_))
theorem aaG {β:Type} {now:Int} {sv:List (C .aA)} {cp:List (C .aC)} {be:List (C .ay)} {bs:List (C .e5)} {p:Int} {f:List (C .e5)×Int×gm→Option β} {Q:β→Prop} (hb:Dy bs) (h0:0≤p) (h1:p≤PT-4000) (hs:sv.length≤1000) (hc:cp.length≤2000) (hf:∀ p' s,p≤p'→p'≤p+3000→Ok (f (bs,p',s)) Q):Ok (Option.bind ((AU fuel fuel) now sv cp be bs p) f) Q:=
 cV (mvd hb h0 h1 hs hc) fun r ⟨e1,e2,e3⟩=>by
  obtain ⟨b,q,v⟩:=r;simp only at e1;subst e1;exact hf q v e2 e3
end Go.Proofs.Ytipemmgoipbojaa.Ab
set_option maxRecDepth 10000
namespace Go.Proofs.Ytipemmgoipbojaa.Ab
open Go Go.RowKit
theorem dF {α:Type} {P:Prop} [Decidable P] {x y:Option α} {Q:α→Prop} (h1:P→Ok x Q) (h2:¬ P→Ok y Q):Ok (cond (decide P) x y) Q:=
 bH (fun h=>h1 (of_decide_eq_true h)) fun h=>h2 (of_decide_eq_false h)
theorem mX {α:Type} {b:Bool} {x y:Option α} {Q:α→Prop} (h1:b=false→Ok x Q) (h2:b=true→Ok y Q):Ok (cond (!b) x y) Q:=by
 cases b
 ·exact h1 rfl
 ·exact h2 rfl
theorem pK {α:Type} (p:α→Bool) (xs:List α) : -1≤ed p xs 0∧ed p xs 0<(xs.length:Int):=by
 rcases eQ p xs with ⟨e,_⟩ | ⟨i,hi,e,_⟩<;>rw [e]<;>omega
def AX (b:aa):Prop:=b.ae.length≤1000∧b.ai.length≤1000∧b.aj.length≤1000
theorem mm {b:aa} (h:vB b=true):b.ae.length≤8∧b.ai.length≤200∧b.aj.length≤6:=by
 simp only [vB,Bool.and_eq_true,Bool.not_eq_true',decide_eq_false_iff_not] at h;omega
theorem Qn {b:aa} {n:ByteArray} (hs:b.ae.length≤1048576) (hc:b.ai.length≤1048576):Ok (Dn b n) (fun _=>True):=by
 rcases eQ (kD n) b.ae with ⟨e,_⟩ | ⟨i,hi,e,_⟩
 ·unfold Dn OM
  rw [XP hs,e,Option.bind_some,Hh il];unfold uZ
  have h1:¬ ((-1:Int)≥0):=by omega
  simp only [h1,decide_false,cond_false]
  exact bH (fun _=>aJ trivial) fun _=>aJ trivial
 ·rw [g83 hs hc hi e];exact aJ trivial
theorem ok82 {b:aa} {n:ByteArray} {k:Int} (hs:b.ae.length≤1048576) (hc:b.ai.length≤1048576) (hv:0≤ed (kD n) b.ae 0):Ok (Pq b n k) (fun r=>r=true→0≤ed (vY n k) b.ai 0):=by
 have l1:=pK (kD n) b.ae;have l2:=pK (vY n k) b.ai;unfold Pq Xj;rw [g66 hc,Option.bind_some]
 refine dF (fun h=>aJ fun h=>by cases h) fun h=>?_
 have h':0≤ed (vY n k) b.ai 0:=by omega
 refine dh h' l2.2 fun e _=>?_
 refine bH (fun _=>aJ fun h=>by cases h) fun _=>?_
 rw [XP hs,Option.bind_some]
 refine dh hv l1.2 fun e _=>dh h' l2.2 fun e _=>?_
 refine bH (fun _=>aJ fun _=>h') fun _=>bH (fun _=>aJ fun _=>h') fun _=>?_
 exact cV (Qn hs hc) fun r _=>aJ fun _=>h'
theorem LG {β:Type} {b:aa} {n:ByteArray} {k:Int} {f:Bool→Option β} {Q:β→Prop} (hs:b.ae.length≤1048576) (hc:b.ai.length≤1048576) (hv:0≤ed (kD n) b.ae 0) (hf:∀ r,(r=true→0≤ed (vY n k) b.ai 0)→Ok (f r) Q):Ok (Option.bind (Pq b n k) f) Q:=cV (ok82 hs hc hv) hf
theorem SB {β:Type} {a b c:Int} {f:Bool→Option β} {Q:β→Prop} (hf:∀ r,r=eZ a b c→Ok (f r) Q):Ok (Option.bind (lB a b c) f) Q:=by
 rw [QS];exact hf _ rfl
section
variable {rc:(Int)→(List (C .aA))→(List (C .aC))→(List (C .ay))→(ByteArray)→(Int)→(Int)→(Int)→(Int)→(Bool)→(List (C .eC))→(Bool)→Option (aa×Int)} {Q:aa×Int→Prop}
theorem VM {L:List (C .aC)} (hL:L.length≤1048000) {x2 bA n2 v img st:Int} {n1 be:ByteArray} {en:Bool} {gN:wN→Option (aa×Int)} (hr:∀ L':List (C .aC),L'.length=L.length+1→Ok (gN (IntKind.i64.wrap (x2+1),L',IntKind.i64.wrap (bA+1))) Q) :
  Ok (cu (GM x2 L bA n1 n2 v img st en be fuel rc gN) fuel 0) Q:=by
 refine eE (I:=fun x:Int=>0≤x∧x≤(L.length:Int)) (m:=fun x:Int=>((L.length:Int)-x).toNat) (fun rec (x:Int) hI hrc=>?_) fuel (0:Int) ⟨by omega,by omega⟩ (by have:=cU;omega);obtain ⟨h0,h1⟩:=hI;unfold GM
 refine dF (fun h=>gx h0 h fun e _=>?_) fun h=>?_
 ·have h:x<(L.length:Int):=h
  rw [g32,Option.bind_some]
  refine bH (fun _=>?_) fun _=>?_
  ·rw [cH (by omega) (by omega)]
   exact hrc _ ⟨by omega,by omega⟩ (by omega)
  ·repeat' (refine bM (by first | (simp;done) | (simp;omega) | (simp only [decide_eq_true_eq];omega)) ?_)
   exact hr _ (by simp;omega)
 ·repeat' (refine bM (by first | (simp;done) | (simp;omega) | (simp only [decide_eq_true_eq];omega)) ?_)
  exact hr _ (by simp;omega)
theorem VN {ss:List (C .aA)} {bs:List (C .ay)} {x0 v M:Int} {sn nm:ByteArray} {dr go:Bool} {im wa dn ov pe le mo lo co:Int} (hM:M≤20) (h0:0≤x0) (h1:x0<(ss.length:Int)) (hs:ss.length≤1000) (hb:bs.length≤1000) {L:List (C .aC)} {nx:Int} (hL:L.length≤900) :
  Ok (cu (jj x0 v sn M dr ss bs nm go im wa dn ov pe le mo lo co fuel rc) fuel (0,L,nx)) (fun r=>AX r.1):=by
 refine eE (I:=fun x=>0≤x.1∧x.1≤20∧(x.2.1.length:Int)≤900+x.1) (m:=fun x=>(20-x.1).toNat) (fun rec x hI hrc=>?_) fuel _ ⟨by simp,by simp,by simp;omega⟩ (by simp;have:=cU;omega);obtain ⟨i,L,nx⟩:=x;obtain ⟨i0,i1,i2⟩:=hI;dsimp only at i0 i1 i2 hrc;unfold jj
 refine dF (fun h=>?_) fun h=>?_
 ·refine VM (by omega) fun L' hL'=>?_
  rw [cH (by omega) (by omega)];refine hrc _ ⟨?_,?_,?_⟩ ?_<;>dsimp only<;>omega
 ·refine gx h0 h1 fun e _=>?_
  have w:IntKind.i64.wrap (x0+1)=x0+1:=cH (by omega) (by omega);rw [w]
  refine bH (fun _=>?_) fun _=>?_
  ·repeat' (refine bM (by first | (simp;done) | (simp;omega) | (simp only [decide_eq_true_eq];omega)) ?_)
   exact aJ ⟨by simp;omega,by dsimp only;omega,hb⟩
  ·exact aJ ⟨by simp;omega,by dsimp only;omega,hb⟩
theorem VO {ss s2:List (C .aA)} {cs:List (C .aC)} {bs b2:List (C .ay)} {x0 v nw n2 M wa co:Int} {sn:ByteArray} {sc dr:Bool} {en:List (C .eC)} (hM:M≤20) (h0:0≤x0) (h1:x0<(s2.length:Int)) (hs:ss.length≤1000) (hc:cs.length≤900) (hb:bs.length≤1000) (A7:s2.length≤1000) (Ep:b2.length≤1000) (he:en.length≤1000) (hv:0≤ed (kD sn) s2 0) {L:List (C .aC)} (hL:L.length≤900) :
  Ok (cu (GN x0 v nw ss cs bs sn M wa co sc en dr n2 s2 b2 fuel rc) fuel (0,L)) (fun r=>AX r.1):=by
 have Mw:AX (⟨nw,ss,cs,bs⟩:aa):=⟨hs,by dsimp only;omega,hb⟩;refine eE (I:=fun x=>0≤x.1∧x.1≤(en.length:Int)∧x.2.length≤900) (m:=fun x=>((en.length:Int)-x.1).toNat) (fun rec x hI hrc=>?_) fuel _ ⟨by simp,by simp,hL⟩ (by simp;have:=cU;omega);obtain ⟨i,L⟩:=x;obtain ⟨i0,i1,i2⟩:=hI;dsimp only at i0 i1 i2 hrc;unfold GN
 refine dF (fun h=>?_) fun h=>?_
 ·refine dh i0 h fun e he0=>?_
  refine LG (by dsimp only;omega) (by dsimp only;omega) hv fun r hr=>?_
  refine mX (fun _=>aJ Mw) fun hrt=>?_
  have hr:=hr hrt
  refine dh i0 h fun e' he'=>?_
  rw [g66 (by dsimp only;omega),Option.bind_some];have l2:=pK (vY sn e'.Number) L
  have l3:0≤ed (vY sn e'.Number) L 0:=by
   rw [he0] at he';cases he';exact hr
  refine gx l3 l2.2 fun e3 _=>gx l3 (by simpa using l2.2) fun e4 _=>?_
  rw [cH (by omega) (by omega)];refine hrc _ ⟨?_,?_,?_⟩ ?_<;>dsimp only<;>(try simp)<;>omega
 ·refine gx h0 h1 fun e _=>?_
  refine cV (Qn (by dsimp only;omega) (by dsimp only;omega)) fun r _=>?_
  repeat' (first
   | exact aJ Mw
   | exact VN hM h0 h1 A7 Ep i2
   | (refine cV (Qn (by dsimp only;omega) (by dsimp only;omega)) fun r _=>?_)
   | (refine SB fun r _=>?_)
   | (refine bH (fun _=>?_) fun _=>?_))
theorem VP {ss:List (C .aA)} {cs:List (C .aC)} {bs:List (C .ay)} {x0 nw M wa co:Int} {sn:ByteArray} {sc dr:Bool} {en:List (C .eC)} (hM:M≤20) (h0:0≤x0) (h1:x0<(ss.length:Int)) (hs:ss.length≤1000) (hc:cs.length≤900) (hb:bs.length≤1000) (he:en.length≤1000) (hv:0≤ed (kD sn) ss 0) (hall:∀ (j:Nat) e,en[j]?=some e→0≤ed (vY sn e.Number) cs 0) :
  Ok (cu (GP x0 nw ss cs bs sn M wa co sc en dr fuel rc) fuel 0) (fun r=>AX r.1):=by
 have Mw:AX (⟨nw,ss,cs,bs⟩:aa):=⟨hs,by dsimp only;omega,hb⟩;refine eE (I:=fun x:Int=>0≤x∧x≤(en.length:Int)) (m:=fun x:Int=>((en.length:Int)-x).toNat) (fun rec (i:Int) hI hrc=>?_) fuel (0:Int) ⟨by omega,by omega⟩ (by have:=cU;omega);obtain ⟨i0,i1⟩:=hI;unfold GP
 refine dF (fun h=>?_) fun h=>?_
 ·have h:i<(en.length:Int):=h
  refine dh i0 h fun e he0=>?_
  rw [g66 (by dsimp only;omega),Option.bind_some];have l2:=pK (vY sn e.Number) cs
  refine dh (hall _ e he0) l2.2 fun e3 _=>dh i0 h fun e4 _=>?_
  refine bH (fun _=>aJ Mw) fun _=>?_
  rw [cH (by omega) (by omega)];exact hrc _ ⟨by omega,by omega⟩ (by omega)
 ·rw [Wt (by dsimp only;omega) (by dsimp only;omega) (by dsimp only;omega),Option.bind_some]
  exact VO hM h0 h1 hs hc hb hs hb he hv hc
theorem ok42 {ss:List (C .aA)} {cs:List (C .aC)} {bs:List (C .ay)} {nw a5 a6 a7 a8:Int} {sn:ByteArray} {a9 AO:Bool} {en:List (C .eC)} (hs:ss.length≤1000) (hc:cs.length≤900) (hb:bs.length≤1000) (he:en.length≤1048576) :
  Ok ((rA fuel fuel) nw ss cs bs sn a5 a6 a7 a8 a9 en AO) (fun r=>AX r.1):=by
 have Mw:AX (⟨nw,ss,cs,bs⟩:aa):=⟨hs,by dsimp only;omega,hb⟩;obtain ⟨m,hm⟩:∃ k,fuel=k+1:=⟨fuel-1,by have:=il;omega⟩
 have e0:rA fuel fuel=Ye fuel (rA fuel m):=by
  have:∀ d,rA fuel (d+1)=Ye fuel (rA fuel d):=fun _=>rfl
  rw [←this m,← hm]
 rw [e0];unfold Ye;rw [g81 (by exact he),Option.bind_some]
 refine mX (fun _=>aJ Mw) fun hf=>?_
 simp only [fmB,Bool.and_eq_true,jK,Bool.not_eq_true',decide_eq_false_iff_not] at hf;obtain ⟨⟨hM0,hM⟩,hl,-⟩:=hf;rw [XP (by dsimp only;omega),Option.bind_some];have l1:=pK (kD sn) ss
 refine dF (fun _=>aJ Mw) fun hv=>?_
 have hv:0≤ed (kD sn) ss 0:=by dsimp only at hv;omega
 refine eE (I:=fun x:Int=>0≤x∧x≤(en.length:Int)∧∀ (j:Nat) e,(j:Int)<x→en[j]?=some e→0≤ed (vY sn e.Number) cs 0) (m:=fun x:Int=>((en.length:Int)-x).toNat) (fun rec (i:Int) hI hrc=>?_) fuel (0:Int) ⟨by omega,by omega,fun j e h=>by omega⟩ (by have:=cU;omega);obtain ⟨i0,i1,i2⟩:=hI;unfold Lm
 refine dF (fun h=>?_) fun h=>?_
 ·have h:i<(en.length:Int):=h
  refine dh i0 h fun e he0=>?_
  rw [g66 (by dsimp only;omega),Option.bind_some]
  refine dF (fun _=>aJ Mw) fun hp=>?_
  rw [cH (by omega) (by omega)];refine hrc _ ⟨by omega,by omega,fun j e' hj hje=>?_⟩ (by omega)
  rcases Int.lt_or_le (j:Int) i with h' | h'
  ·exact i2 j e' h' hje
  ·have ej:j=i.toNat:=by omega
   rw [ej,he0] at hje;cases hje;dsimp only at hp;omega
 ·have h:¬ i<(en.length:Int):=h
  refine dh hv l1.2 fun e _=>?_
  refine bH (fun _=>aJ Mw) fun _=>?_
  refine VP hM hv l1.2 hs hc hb (by omega) hv fun j e hj=>i2 j e ?_ hj
  have:=(List.getElem?_eq_some_iff.1 hj).1;omega
end
theorem ok14 {b:aa} {a:bJ} (hs:b.ae.length≤1048576) (hc:b.ai.length≤1048576) (hb:b.aj.length≤1048576) (he:a.Ends.length≤1048576):Ok (G14 b a) (fun r=>AX r.1):=by
 unfold G14 Xx;rw [Er hs hc hb,Option.bind_some]
 refine mX (fun _=>aJ ⟨by simp,by simp,by simp⟩) fun hv=>?_
 obtain ⟨v1,v2,v3⟩:=mm hv
 refine cV (ok42 (by omega) (by omega) (by omega) he) fun r hr=>?_
 obtain ⟨r1,r2,r3⟩:=hr;rw [Wt (by omega) (by omega) (by omega),Option.bind_some];exact aJ ⟨r1,r2,r3⟩
end Go.Proofs.Ytipemmgoipbojaa.Ab
set_option maxRecDepth 10000
namespace Go.Proofs.Ytipemmgoipbojaa.Ab
open Go Go.RowKit
theorem lU {α β:Type} {xs:List α} {x:α} {s:Nat} {z:Option β} {Q:β→Prop} (hl:xs.length≤1048576) (hs:s≤1000) (h:Ok z Q):Ok (cond (decide ((xs.length+([x]:List α).length)*s≤140737488355328)) z none) Q:=by
 refine bM ?_ h;simp only [List.length_cons,List.length_nil,decide_eq_true_eq];have:(xs.length+(0+1))*s≤1048577*1000:=Nat.mul_le_mul (by omega) hs;omega
def Qd (cs:List (C .aC)) (l:List (C .e3)):Prop:=l.length≤1000∧∀ x:Int,x∈(l:List Int)→0≤x∧x<(cs.length:Int)
theorem aaI {b:aa} {n:ByteArray} (hc:b.ai.length≤1000):Ok (Rr b n) (Qd b.ai):=by
 unfold Rr Rq;refine eE (I:=fun x=>0≤x.2∧x.2≤(b.ai.length:Int)∧(x.1.length:Int)≤x.2∧∀ y:Int,y∈(x.1:List Int)→0≤y∧y<(b.ai.length:Int)) (m:=fun x=>((b.ai.length:Int)-x.2).toNat) (fun rec x hI hrc=>?_) fuel _ ⟨by simp,by simp,by simp,fun y hy=>by cases hy⟩ (by simp;have:=cU;omega);obtain ⟨l,i⟩:=x;obtain ⟨i0,i1,i2,i3⟩:=hI;dsimp only at i0 i1 i2 i3 hrc;unfold K1
 refine dF (fun h=>?_) fun h=>aJ ⟨by omega,i3⟩
 refine dh i0 h fun e _=>?_
 rw [cH (show -9223372036854775808≤i+1 by omega) (by omega)];have skip:Ok (rec (l,i+1)) (Qd b.ai):=hrc _ ⟨by dsimp only;omega,by dsimp only;omega,by dsimp only;omega,i3⟩ (by dsimp only;omega)
 refine bH (fun _=>dh i0 h fun e _=>mX (fun _=>?_) fun _=>skip) fun _=>skip
 refine lU (by omega) (by omega) (hrc _ ⟨by dsimp only;omega,by dsimp only;omega,by simp;omega,fun y hy=>?_⟩ (by dsimp only;omega))
 rcases List.mem_append.1 hy with hy | hy
 ·exact i3 y hy
 ·rcases List.mem_singleton.1 hy with rfl
  exact ⟨i0,h⟩
theorem ok97 {b:aa} {l:List (C .e3)} (hl:Qd b.ai l):Ok (G97 b l) (fun r=>r.length≤1000):=by
 obtain ⟨l1,l2⟩:=hl;unfold G97 Ru;refine eE (I:=fun x=>0≤x.2∧x.2≤(l.length:Int)∧(x.1.length:Int)≤x.2) (m:=fun x=>((l.length:Int)-x.2).toNat) (fun rec x hI hrc=>?_) fuel _ ⟨by simp,by simp,by simp⟩ (by simp;have:=cU;omega);obtain ⟨r,i⟩:=x;obtain ⟨i0,i1,i2⟩:=hI;dsimp only at i0 i1 i2 hrc;unfold K3
 refine dF (fun h=>?_) fun h=>aJ (by omega)
 refine dh i0 h fun (e:Int) he=>?_
 obtain ⟨e0,e1⟩:=l2 e (List.mem_of_getElem? he)
 refine dh e0 e1 fun c _=>dh i0 h fun (e':Int) he'=>?_
 obtain ⟨e2,e3⟩:=l2 e' (List.mem_of_getElem? he')
 refine dh e2 e3 fun c _=>?_
 rw [cH (by omega) (by omega)];exact lU (by omega) (by omega) (hrc _ ⟨by dsimp only;omega,by dsimp only;omega,by simp;omega⟩ (by dsimp only;omega))
theorem aaR {b:aa} {c:aq} (hb:b.aj.length≤1048576):Ok (AV b c) (fun _=>True):=by
 unfold AV OT;rw [g67 hb,Option.bind_some];have l:=pK (iU c.bw) b.aj
 exact dF (fun h=>dh (by omega) l.2 fun e _=>aJ trivial) fun _=>aJ trivial
theorem LH {β:Type} {b:aa} {c:aq} {f:Bool→Option β} {Q:β→Prop} (hb:b.aj.length≤1048576) (hf:∀ r,Ok (f r) Q):Ok (Option.bind (AV b c) f) Q:=cV (aaR hb) fun r _=>hf r
theorem ok98 {b:aa} {s:af} {k:Int} (hc:b.ai.length≤1000) (hb:b.aj.length≤1048576):Ok (Rt b s k) (Qd b.ai):=by
 unfold Rt Rs
 refine cV (aaI hc) fun lv hlv=>?_
 obtain ⟨l1,l2⟩:=hlv;refine eE (I:=fun x=>0≤x.2∧x.2≤(lv.length:Int)∧(x.1.length:Int)≤x.2∧∀ y:Int,y∈(x.1:List Int)→0≤y∧y<(b.ai.length:Int)) (m:=fun x=>((lv.length:Int)-x.2).toNat) (fun rec x hI hrc=>?_) fuel _ ⟨by simp,by simp,by simp,fun y hy=>by cases hy⟩ (by simp;have:=cU;omega);obtain ⟨l,i⟩:=x;obtain ⟨i0,i1,i2,i3⟩:=hI;dsimp only at i0 i1 i2 i3 hrc;unfold K2
 refine dF (fun h=>?_) fun h=>aJ ⟨by omega,i3⟩
 refine gx i0 h fun (e:Int) he=>?_
 obtain ⟨e0,e1⟩:=l2 e (List.mem_of_getElem? he)
 refine dh e0 e1 fun c _=>?_
 rw [cH (show -9223372036854775808≤i+1 by omega) (by omega)];have skip:Ok (rec (l,i+1)) (Qd b.ai):=hrc _ ⟨by dsimp only;omega,by dsimp only;omega,by dsimp only;omega,i3⟩ (by dsimp only;omega)
 have put:∀ y,lv[i.toNat]?=some y→Ok (cond (decide ((l.length+(([y]:List (C .e3))).length)*8≤140737488355328)) (rec (l++[y],i+1)) none) (Qd b.ai):=fun y hy=>
  lU (by omega) (by omega) (hrc _ ⟨by dsimp only;omega,by dsimp only;omega,by simp;omega,fun z hz=>by
   rcases List.mem_append.1 hz with hz | hz
   ·exact i3 z hz
   ·rcases List.mem_singleton.1 hz with rfl
    exact l2 _ (List.mem_of_getElem? hy)⟩ (by dsimp only;omega))
 repeat' (first
  | exact skip
  | (refine gx i0 h fun y hy=>?_;exact put y hy)
  | (refine LH hb fun r=>?_)
  | (refine bH (fun _=>?_) fun _=>?_))
theorem aaN {b:aa} {c d:aq} {k:Int} (hb:b.aj.length≤1048576):Ok (RL b c d k) (fun _=>True):=by
 unfold RL OP
 repeat' (first
  | exact aJ trivial
  | (refine LH hb fun r=>?_)
  | (refine bH (fun _=>?_) fun _=>?_))
theorem aaQ {b:aa} {s:af} {l:List (C .e3)} (hl:Qd b.ai l) (hb:b.aj.length≤1048576):Ok (Dq b s l) (fun r=>r.length≤1∧(0<l.length→0<r.length)):=by
 obtain ⟨l1,l2⟩:=hl;unfold Dq Ig
 refine bH (fun h=>aJ ⟨by simp,fun h'=>?_⟩) fun h=>?_
 ·have:(l.length:Int)=0:=by simpa using h
  omega
 have hn:0<l.length:=by
  have:¬ (l.length:Int)=0:=by simpa using h
  omega
 refine dh (i:=(0:Int)) (Int.le_refl 0) (by omega) fun (e:Int) he=>?_
 obtain ⟨e0,e1⟩:=l2 e (List.mem_of_getElem? he)
 refine dh e0 e1 fun c _=>?_
 refine eE (I:=fun x=>0≤x.1∧x.1≤(l.length:Int)) (m:=fun x=>((l.length:Int)-x.1).toNat) (fun rec x hI hrc=>?_) fuel _ ⟨by simp,by simp;omega⟩ (by simp;have:=cU;omega);obtain ⟨i,d1,d2,d3,d4,d5,d6,d7⟩:=x;obtain ⟨i0,i1⟩:=hI;dsimp only at i0 i1 hrc;unfold E2
 refine dF (fun h=>?_) fun h=>aJ ⟨by simp,fun _=>by simp⟩
 refine dh i0 h fun (e:Int) he=>?_
 obtain ⟨e0,e1⟩:=l2 e (List.mem_of_getElem? he)
 refine dh e0 e1 fun c _=>?_
 rw [cH (show -9223372036854775808≤i+1 by omega) (by omega)]
 refine cV (aaN hb) fun r _=>bH (fun _=>?_) fun _=>hrc _ ⟨by dsimp only;omega,by dsimp only;omega⟩ (by dsimp only;omega)
 refine dh i0 h fun (e:Int) he=>?_
 obtain ⟨e0,e1⟩:=l2 e (List.mem_of_getElem? he)
 exact dh e0 e1 fun c _=>hrc _ ⟨by dsimp only;omega,by dsimp only;omega⟩ (by dsimp only;omega)
def srv (b:aa):Prop:=∀ c,c∈b.ai→0≤ed (kD c.ax) b.ae 0
theorem Uz {b:aa} (h:vB b=true):srv b:=by
 intro c hc;obtain ⟨i,hi,rfl⟩:=List.getElem_of_mem hc;simp only [vB,Bool.and_eq_true] at h;have:=oH h.2.2.2.2.2.2 hi;rw [rU hi,Bool.and_eq_true] at this;have:=this.1;unfold M7 at this;split at this
 ·simp only [Bool.and_eq_true,Bool.not_eq_true',decide_eq_false_iff_not] at this
  have:=this.1;omega
 ·cases this
theorem aaP {b:aa} {l:List (C .e3)} (hl:Qd b.ai l) (hs:b.ae.length≤1000) (hc:b.ai.length≤1000) (hv:srv b):Ok (OS b l) (Qd b.ai):=by
 obtain ⟨l1,l2⟩:=hl;unfold OS Ie;refine eE (I:=fun x=>0≤x.2∧x.2≤(l.length:Int)∧(x.1.length:Int)≤x.2∧∀ y:Int,y∈(x.1:List Int)→0≤y∧y<(b.ai.length:Int)) (m:=fun x=>((l.length:Int)-x.2).toNat) (fun rec x hI hrc=>?_) fuel _ ⟨by simp,by simp,by simp,fun y hy=>by cases hy⟩ (by simp;have:=cU;omega);obtain ⟨r,i⟩:=x;obtain ⟨i0,i1,i2,i3⟩:=hI;dsimp only at i0 i1 i2 i3 hrc;unfold E1
 refine dF (fun h=>?_) fun h=>aJ ⟨by omega,i3⟩
 refine dh i0 h fun (e:Int) he=>?_
 obtain ⟨e0,e1⟩:=l2 e (List.mem_of_getElem? he)
 refine dh e0 e1 fun c hcm=>dh i0 h fun (e':Int) he'=>?_
 obtain ⟨e2,e3⟩:=l2 e' (List.mem_of_getElem? he')
 refine dh e2 e3 fun c' _=>?_
 refine LG (by dsimp only;omega) (by dsimp only;omega) (hv c (List.mem_of_getElem? hcm)) fun q _=>?_
 rw [cH (show -9223372036854775808≤i+1 by omega) (by omega)]
 refine bH (fun _=>dh i0 h fun y hy=>?_) fun _=>hrc _ ⟨by dsimp only;omega,by dsimp only;omega,by dsimp only;omega,i3⟩ (by dsimp only;omega)
 refine lU (by omega) (by omega) (hrc _ ⟨by dsimp only;omega,by dsimp only;omega,by simp;omega,fun z hz=>?_⟩ (by dsimp only;omega))
 rcases List.mem_append.1 hz with hz | hz
 ·exact i3 z hz
 ·rcases List.mem_singleton.1 hz with rfl
  exact l2 _ (List.mem_of_getElem? hy)
theorem aaO {s:af} (h:s.dA>0):Ok (RM s) (fun _=>True):=by
 unfold RM OQ
 have h1:¬ s.dA=0:=by omega
 simp only [h1,decide_false,cond_false]
 repeat' (first
  | exact aJ trivial
  | (refine bH (fun _=>?_) fun _=>?_))
theorem ok48 {b:aa} {s:af} {k:Int} (hs:b.ae.length≤1000) (hc:b.ai.length≤1000) (hb:b.aj.length≤1000) (hv:srv b) (hm:s∈b.ae) (hw:0≤s.Want):Ok (G48 k b s) (fun r=>r.Ends.length≤1000):=by
 have hp:0≤ed (kD s.Name) b.ae 0:=by
  rcases eQ (kD s.Name) b.ae with ⟨e,h⟩ | ⟨i,hi,e,_⟩
  ·have:=h s hm
   simp [kD] at this
  ·rw [e];omega
 have hs':b.ae.length≤1048576:=by omega
 have Hz:b.ai.length≤1048576:=by omega
 have hb':b.aj.length≤1048576:=by omega
 unfold G48 Xn
 repeat' (first
  | (refine aJ ?_;first | assumption | (simp;done) | (dsimp only;omega))
  | (refine cV (ok98 hc hb') fun r _=>?_)
  | (refine cV (aaI hc) fun r _=>?_)
  | (refine cV (ok97 (by assumption)) fun r _=>?_)
  | (refine cV (Qn hs' Hz) fun r _=>?_)
  | (refine cV (aaQ (by assumption) hb') ?_;rintro r ⟨q1,q2⟩)
  | (refine cV (aaP (by assumption) hs hc hv) fun r _=>?_)
  | (refine LG hs' Hz hp fun r _=>?_)
  | (refine cV (aaO (by assumption)) fun r _=>?_)
  | (refine gx (i:=(0:Int)) (Int.le_refl 0) (by omega) fun e _=>?_)
  | (refine dF (fun _=>?_) fun _=>?_)
  | (refine bH (fun _=>?_) fun _=>?_))
def acS (l:List (C .kF)):Prop:=l.length≤1000∧∀ a:bJ,a∈l→a.Ends.length≤1000
theorem ok19 {b:aa} {k:Int} (hs:b.ae.length≤1048576) (hc:b.ai.length≤1048576) (hb:b.aj.length≤1048576):Ok (G19 k b) acS:=by
 unfold G19 RK;rw [Er hs hc hb,Option.bind_some]
 refine mX (fun _=>aJ ⟨by simp,fun a ha=>by cases ha⟩) fun hv=>?_
 obtain ⟨v1,v2,v3⟩:=mm hv;have hsr:=Uz hv
 have hwant:∀ s:af,s∈b.ae→0≤s.Want:=fun s hm=>by
  obtain ⟨i,hi,rfl⟩:=List.getElem_of_mem hm;simp only [vB,Bool.and_eq_true] at hv;have:=oH hv.2.2.2.2.1 hi;rw [rU hi,Bool.and_eq_true] at this;have:=this.1;simp only [JK,Bool.and_eq_true,jK] at this;exact this.2.2.2.2.1.1
 refine eE (I:=fun x=>0≤x.2∧x.2≤(b.ae.length:Int)∧(x.1.length:Int)≤x.2∧∀ a:bJ,a∈x.1→a.Ends.length≤1000) (m:=fun x=>((b.ae.length:Int)-x.2).toNat) (fun rec x hI hrc=>?_) fuel _ ⟨by simp,by simp,by simp,fun y hy=>by cases hy⟩ (by simp;have:=cU;omega);obtain ⟨l,i⟩:=x;obtain ⟨i0,i1,i2,i3⟩:=hI;dsimp only at i0 i1 i2 i3 hrc;unfold Ls
 refine dF (fun h=>?_) fun h=>aJ ⟨by omega,i3⟩
 refine dh i0 h fun s Mw=>?_
 have hm:=List.mem_of_getElem? Mw
 refine cV (ok48 (by dsimp only;omega) (by dsimp only;omega) (by dsimp only;omega) hsr hm (hwant s hm)) fun a ha=>?_
 rw [cH (show -9223372036854775808≤i+1 by omega) (by omega)];have skip:Ok (rec (l,i+1)) acS:=hrc _ ⟨by dsimp only;omega,by dsimp only;omega,by dsimp only;omega,i3⟩ (by dsimp only;omega)
 have put:Ok (cond (decide ((l.length+(([a]:List (C .kF))).length)*88≤140737488355328)) (rec (l++[a],i+1)) none) acS:=
  lU (by omega) (by omega) (hrc _ ⟨by dsimp only;omega,by dsimp only;omega,by simp;omega,fun z hz=>by
   rcases List.mem_append.1 hz with hz | hz
   ·exact i3 z hz
   ·rcases List.mem_singleton.1 hz with rfl
    exact ha⟩ (by dsimp only;omega))
 repeat' (first
  | exact skip
  | exact put
  | (refine bH (fun _=>?_) fun _=>?_))
end Go.Proofs.Ytipemmgoipbojaa.Ab
set_option maxRecDepth 10000
namespace Go.Proofs.Ytipemmgoipbojaa.Ab
open Go Go.RowKit
def cN {α:Type} (p:α→Bool) (cs:List α) (i:Nat):Nat:=(cs.take i).countP p
theorem HY {α:Type} {p:α→Bool} {cs:List α} {i:Nat} (h:i<cs.length):cN p cs (i+1)=cond (p cs[i]) (cN p cs i+1) (cN p cs i):=by
 unfold cN;rw [List.take_add_one,List.getElem?_eq_getElem h,List.countP_append];cases hp:p cs[i]<;>simp [hp]
theorem TR {α:Type} (p:α→Bool) (cs:List α) (i:Nat):cN p cs i≤i:=by
 unfold cN;have:=List.countP_le_length (p:=p) (l:=cs.take i);simp at this;omega
def ml {α:Type} (f:α→α) (L:List α) (i:Nat):List α:=(L.take i).map f++L.drop i
theorem Vn {α:Type} {f:α→α} {L:List α} {i:Nat} (h:i≤L.length):(ml f L i).length=L.length:=by unfold ml;simp;omega
theorem LV {α:Type} {f:α→α} {L:List α} {i:Nat} (h:i<L.length):(ml f L i)[i]?=some L[i]:=by
 unfold ml;rw [List.getElem?_append_right (by simp;omega)];simp [show i-min i L.length=0 by omega]
theorem LU {α:Type} {f:α→α} {L:List α} {i:Nat} (h:i<L.length):(ml f L i).set i (f L[i])=ml f L (i+1):=by
 unfold ml
 have e:((L.take i).map f).length=i:=by simp;omega
 rw [List.set_append_right _ _ (by omega),e,Nat.sub_self,List.drop_eq_getElem_cons h,List.set_cons_zero,List.take_add_one,List.getElem?_eq_getElem h,List.map_append,List.append_assoc];rfl
theorem Kv {α:Type} {xs:List α} {i:Nat} {x:α} (h:xs[i]?=some x):xs.set i x=xs:=by
 obtain ⟨hi,rfl⟩:=List.getElem?_eq_some_iff.1 h;exact List.set_getElem_self hi
theorem Qu {α:Type} {f:α→α} {L:List α} {i:Nat} (h:i<L.length) (hf:f L[i]=L[i]):ml f L i=ml f L (i+1):=by
 rw [←LU h,hf];exact (Kv (LV h)).symm
theorem Vo {α:Type} (f:α→α) (L:List α):ml f L L.length=L.map f:=by simp [ml]
theorem FO {α R:Type} {p:α→Bool} {xs:List α} {jd:(List α×Int×Int→Option R)→List α×Int×Int→Option R} (hl:xs.length≤1048576) (fin:List α→Option R)
  (hend:∀ rec L (w:Nat),L.length=xs.length→w≤L.length→jd rec (L,(w:Int),(xs.length:Int))=fin (L.take w))
  (hstep:∀ rec L (w r:Nat) (h:r<L.length),L.length=xs.length→w<r→jd rec (L,(w:Int),(r:Int))=cond (!p L[r]) (rec (L.set w L[r],((w+1:Nat):Int),((r+1:Nat):Int))) (rec (L,(w:Int),((r+1:Nat):Int))))
  {i:Nat} (hi:i<xs.length) (hp:p xs[i]=true) (hq:∀ j (hj:j<i),p (xs[j]'(by omega))=false):cu jd fuel (xs,(i:Int),((i+1:Nat):Int))=fin (xs.filter fun x=> !p x):=by
 have key:∀ m r L (w:Nat),L.length=xs.length→w<r→r≤xs.length→L.take w=(xs.take r).filter (fun x=> !p x)→L.drop r=xs.drop r→xs.length-r<m→cu jd m (L,(w:Int),(r:Int))=fin (xs.filter fun x=> !p x):=by
  intro m
  induction m with
  | zero=>intro r L w _ _ _ _ _ h;omega
  | succ m ih=>
   intro r L w h1 h2 h3 h4 h5 h6;rw [oS]
   rcases Nat.lt_or_ge r xs.length with h | h
   ·have hL:r<L.length:=by omega
    have hx:L[r]=xs[r]:=by
     have:=congrArg (fun l=>l[0]?) h5
     simpa [List.getElem?_drop,List.getElem?_eq_getElem hL,List.getElem?_eq_getElem h] using this
    have ht:(xs.take (r+1)).filter (fun x=> !p x)=cond (!p xs[r]) ((xs.take r).filter (fun x=> !p x)++[xs[r]]) ((xs.take r).filter fun x=> !p x):=by
     rw [List.take_add_one,List.getElem?_eq_getElem h,List.filter_append];cases hpx:p xs[r]<;>simp [hpx]
    have hd:L.drop (r+1)=xs.drop (r+1):=by
     have:=congrArg (fun l=>l.drop 1) h5
     simpa [List.drop_drop,Nat.add_comm] using this
    rw [hstep _ L w r hL h1 h2,hx]
    cases hpx:p xs[r] with
    | true=>
     rw [hpx] at ht;simp only [Bool.not_true,cond_false] at ht ⊢;exact ih (r+1) L w h1 (by omega) (by omega) (by rw [ht];exact h4) hd (by omega)
    | false=>
     rw [hpx] at ht;simp only [Bool.not_false,cond_true] at ht ⊢;refine ih (r+1) _ (w+1) (by simpa using h1) (by omega) (by omega) ?_ ?_ (by omega)
     ·rw [ht,← h4,List.take_add_one,List.getElem?_set_self (by omega)]
      rw [List.take_set_of_le (Nat.le_refl _)];rfl
     ·rw [List.drop_set_of_lt (by omega)]
      exact hd
   ·have:r=xs.length:=by omega
    subst this;rw [hend _ L w h1 (by omega),h4,List.take_length]
 refine key fuel (i+1) xs i rfl (by omega) (by omega) ?_ rfl (by have:=cU;omega);rw [List.take_add_one,List.getElem?_eq_getElem hi,List.filter_append]
 have e:(xs.take i).filter (fun x=> !p x)=xs.take i:=by
  rw [List.filter_eq_self];intro x hx;obtain ⟨j,hj,rfl⟩:=List.getElem_of_mem hx
  have gW:j<i:=by simp at hj;omega
  rw [List.getElem_take,hq j gW];rfl
 rw [e];simp [hp]
theorem filter_none {α:Type} {p:α→Bool} {xs:List α} (h:∀ x∈xs,p x=false):xs.filter (fun x=> !p x)=xs:=by
 rw [List.filter_eq_self];intro x hx;rw [h x hx];rfl
end Go.Proofs.Ytipemmgoipbojaa.Ab
set_option maxRecDepth 10000
namespace Go.Proofs.Ytipemmgoipbojaa.Ab
open Go Go.RowKit
def AF (n:ByteArray) (c:aq):Bool:=decide (c.bw=n)
def uy (n:ByteArray) (c:aq):Bool:=(c.State != 1)&&decide (c.bw=n)
def cB (n:ByteArray) (cs:List aq):Int:=((cN (AF n) cs cs.length:Nat):Int)
def cI (n:ByteArray) (cs:List aq):Int:=((cN (uy n) cs cs.length:Nat):Int)
def py (cs:List aq) (t:ByteArray×Int) (be:av):ByteArray×Int:=cond (!be.kJ) (cond (decide (t.1=⟨#[]⟩)) (be.Name,cB be.Name cs) (cond (decide (cB be.Name cs<t.2)) (be.Name,cB be.Name cs) t)) t
def nC (cs:List aq) (t:ByteArray×Int) (be:av):ByteArray×Int:=cond be.kJ t (cond (decide (t.2<0)) (be.Name,cI be.Name cs) (cond (decide (cI be.Name cs<t.2)) (be.Name,cI be.Name cs) t))
theorem Qy {cs:List aq} {bs:List av} {j:Nat} (hj:j<bs.length) (hc:cs.length≤1048576) (hb:bs.length≤1048576) {t:ByteArray×Int} {bu:qf→Option ByteArray} :
  cu (u3 t.1 t.2 ((j:Nat):Int) cs bs fuel bu) fuel (0,0)=bu ((py cs t bs[j]).1,(py cs t bs[j]).2,((j+1:Nat):Int)):=by
 refine lW (st:=fun i=>(((cN (AF bs[j].Name) cs i:Nat):Int),((i:Nat):Int))) (val:=fun _=>bu ((py cs t bs[j]).1,(py cs t bs[j]).2,((j+1:Nat):Int))) cs.length (fun rec=>?_) (fun rec i hi hr=>?_) fuel 0 (Nat.zero_le _) (by have:=cU;omega)
 ·simp only [u3,Int.lt_irrefl,decide_false,cond_false,Int.natCast_nonneg,decide_true,cond_true,get_cast hj,Option.bind_some,bh (show j<4611686018427387904 by omega),py,cB]
  cases bs[j].kJ<;>simp only [Bool.not_true,Bool.not_false,cond_true,cond_false];cases decide (t.1=⟨#[]⟩)<;>simp only [cond_true,cond_false]
  by_cases hlt:((cN (AF bs[j].Name) cs cs.length:Nat):Int)<t.2<;>simp only [hlt,decide_true,decide_false,cond_true,cond_false]
 ·have q1:(i:Int)<(cs.length:Int):=by omega
  have e:=HY (p:=AF bs[j].Name) hi;have l:=TR (AF bs[j].Name) cs i;simp only [u3,q1,decide_true,cond_true,Int.natCast_nonneg,get_cast hi,get_cast hj,Option.bind_some];rw [bh (show i<4611686018427387904 by omega),bh (show cN (AF bs[j].Name) cs i<4611686018427387904 by omega),← hr];have hb:AF bs[j].Name cs[i]=decide (cs[i].bw=bs[j].Name):=rfl;cases hd:decide (cs[i].bw=bs[j].Name)<;>rw [hb,hd] at e<;>simp only [cond_true,cond_false] at e ⊢ <;>rw [e]
def Pg (cs:List aq) (bs:List av):ByteArray:=(bs.foldl (py cs) (⟨#[]⟩,0)).1
theorem g109 {b:aa} (hc:b.ai.length≤1048576) (hb:b.aj.length≤1048576):OW b=some (Pg b.ai b.aj):=by
 unfold OW Ij
 exact Ao (f:=py b.ai) (st:=fun i (t:ByteArray×Int)=>(t.1,t.2,((i:Nat):Int))) (fun t=>some t.1) hb (fun rec t=>by simp only [zR,Int.lt_irrefl,decide_false,cond_false]) (fun rec i hi t=>by
  have q1:(i:Int)<(b.aj.length:Int):=by omega
  simp only [zR,q1,decide_true,cond_true]
  exact Qy hi hc hb) (⟨#[]⟩,0)
def PH (bs:List av) (v:Int) (cs:List aq) (i:Nat):List aq:=match cs[i]? with
 | some c=>cond (c.State==1) (cond (!decide (Pg cs bs=⟨#[]⟩)) (cs.set i ⟨c.ax,c.Number,v,c.aB,2,c.Ending,Pg cs bs⟩) cs) cs
 | none=>cs
def zF (bs:List av) (v:Int) (cs:List aq):Nat→List aq
 | 0=>cs
 | i+1=>PH bs v (zF bs v cs i) i
theorem PG {bs:List av} {v:Int} {cs:List aq} {i:Nat}:(PH bs v cs i).length=cs.length:=by
 unfold PH;split
 ·rename_i c _
  cases c.State==1<;>cases decide (Pg cs bs=⟨#[]⟩)<;>simp
 ·rfl
theorem uc {bs:List av} {v:Int} {cs:List aq}:∀ i,(zF bs v cs i).length=cs.length
 | 0=>rfl
 | i+1=>by unfold zF;rw [PG,uc i]
def w9 (v:Int) (c:aq):aq:=cond (c.State==2) ⟨c.ax,c.Number,v,c.aB,3,c.Ending,c.bw⟩ c
def lf (v:Int) (cs:List aq) (i:Nat):List aq:=((cs.take i).filter fun c=> !c.Ending).map (w9 v)
theorem QA {v:Int} {cs:List aq} {i:Nat} (h:i<cs.length):lf v cs (i+1)=cond cs[i].Ending (lf v cs i) (lf v cs i++[w9 v cs[i]]):=by
 unfold lf;rw [List.take_add_one,List.getElem?_eq_getElem h,List.filter_append,List.map_append];cases hp:cs[i].Ending<;>simp [hp]
theorem Mf (v:Int) (cs:List aq) (i:Nat):(lf v cs i).length≤i:=by
 unfold lf;have:=List.length_filter_le (fun c:aq=> !c.Ending) (cs.take i);simp at this ⊢;omega
def Gn (bs:List av) (v:Int) (cs:List aq):List aq:=zF bs v (lf v cs cs.length) (lf v cs cs.length).length
theorem VL {ss:List af} {cs:List aq} {bs:List av} {v nw:Int} (hc:cs.length≤1048576) (hb:bs.length≤1048576):cu (BN v nw ss bs fuel) fuel (0,cs)=some (⟨nw,ss,zF bs v cs cs.length,bs⟩:aa):=by
 refine lW (st:=fun i=>(((i:Nat):Int),zF bs v cs i)) (val:=fun _=>some (⟨nw,ss,zF bs v cs cs.length,bs⟩:aa)) cs.length (fun rec=>?_) (fun rec i hi hr=>?_) fuel 0 (Nat.zero_le _) (by have:=cU;omega)
 ·simp only [BN,uc,Int.lt_irrefl,decide_false,cond_false]
 ·have hl:(zF bs v cs i).length=cs.length:=uc i
  have eR:i<(zF bs v cs i).length:=by omega
  have q1:(i:Int)<((zF bs v cs i).length:Int):=by omega
  have hg:OW (⟨nw,ss,zF bs v cs i,bs⟩:aa)=some (Pg (zF bs v cs i) bs):=g109 (by dsimp only;omega) hb;have hr:rec (((i+1:Nat):Int),PH bs v (zF bs v cs i) i)=some (⟨nw,ss,zF bs v cs cs.length,bs⟩:aa):=hr;unfold PH at hr;rw [List.getElem?_eq_getElem eR] at hr;simp only at hr;simp only [BN,q1,decide_true,cond_true,hg,Int.natCast_nonneg,List.getElem?_eq_getElem eR,Option.bind_some,Int.toNat_natCast,List.length_set,List.getElem?_set_self eR,List.set_set,bh (show i<4611686018427387904 by omega)]
  cases hs:((zF bs v cs i)[i].State==1) with
  | false=>rw [hs] at hr;exact hr
  | true=>
   rw [hs] at hr
   cases hd:decide (Pg (zF bs v cs i) bs=⟨#[]⟩) with
   | false=>rw [hd] at hr;exact hr
   | true=>rw [hd] at hr;exact hr
theorem g64 {b:aa} {v:Int} (hc:b.ai.length≤1048576) (hb:b.aj.length≤1048576):G64 b v=some (⟨b.b8,b.ae,Gn b.aj v b.ai,b.aj⟩:aa):=by
 unfold G64 RE;refine lW (st:=fun i=>(lf v b.ai i,((i:Nat):Int))) (val:=fun _=>some (⟨b.b8,b.ae,Gn b.aj v b.ai,b.aj⟩:aa)) b.ai.length (fun rec=>?_) (fun rec i hi hr=>?_) fuel 0 (Nat.zero_le _) (by have:=cU;omega)
 ·have l:=Mf v b.ai b.ai.length
  simp only [GK,Int.lt_irrefl,decide_false,cond_false];exact VL (by omega) hb
 ·have q1:(i:Int)<(b.ai.length:Int):=by omega
  have l:=Mf v b.ai i
  have q2:∀ c:aq,((lf v b.ai i).length+([c]:List (C .aC)).length)*72≤140737488355328:=fun c=>by simp only [List.length_cons,List.length_nil];omega
  simp only [QA hi] at hr;simp only [GK,q1,decide_true,cond_true,Int.natCast_nonneg,get_cast hi,Option.bind_some,q2,bh (show i<4611686018427387904 by omega)]
  cases he:b.ai[i].Ending with
  | true=>rw [he] at hr;exact hr
  | false=>
   rw [he] at hr;simp only [cond_false] at hr ⊢;unfold w9 at hr
   cases hs:(b.ai[i].State==2) with
   | true=>rw [hs] at hr;rw [←he];exact hr
   | false=>rw [hs] at hr;exact hr
end Go.Proofs.Ytipemmgoipbojaa.Ab
set_option maxRecDepth 10000
namespace Go.Proofs.Ytipemmgoipbojaa.Ab
open Go Go.RowKit
theorem fw {α R:Type} {p:α→Bool} {xs:List α} {jd:(Int→Option R)→Int→Option R} {Q:R→Prop} (hl:xs.length≤1048576)
  (hno:(∀ x∈xs,p x=false)→∀ rec,Ok (jd rec ((xs.length:Nat):Int)) Q)
  (hyes:∀ (i:Nat) (hi:i<xs.length),p xs[i]=true→(∀ j (hj:j<i),p (xs[j]'(by omega))=false)→∀ rec,Ok (jd rec ((i:Nat):Int)) Q)
  (hgo:∀ rec (i:Nat) (hi:i<xs.length),p xs[i]=false→Ok (rec ((i+1:Nat):Int)) Q→Ok (jd rec ((i:Nat):Int)) Q):Ok (cu jd fuel 0) Q:=by
 have key:∀ n i,i≤xs.length→(∀ j (hj:j<i) (h:j<xs.length),p xs[j]=false)→xs.length-i<n→Ok (cu jd n ((i:Nat):Int)) Q:=by
  intro n
  induction n with
  | zero=>intro i _ _ h;omega
  | succ n ih=>
   intro i hi hb hn;rw [oS]
   rcases Nat.lt_or_ge i xs.length with h | h
   ·cases hp:p xs[i] with
    | true=>exact hyes i h hp (fun j hj=>hb j hj (by omega)) _
    | false=>exact hgo _ i h hp (ih (i+1) (by omega) (fun j hj hj2=>by
      rcases Nat.lt_or_ge j i with h' | h'
      ·exact hb j h' hj2
      ·have:j=i:=by omega
       subst this;exact hp) (by omega))
   ·have:i=xs.length:=by omega
    subst this
    exact hno (fun x hx=>by
     obtain ⟨j,hj,rfl⟩:=List.getElem_of_mem hx
     exact hb j hj hj) _
 exact key fuel 0 (Nat.zero_le _) (fun j hj=>by omega) (by have:=cU;omega)
theorem cL {α β:Type} {xs:List α} {i:Nat} {f:α→Option β} {Q:β→Prop} (h:i<xs.length) (hf:Ok (f xs[i]) Q):Ok (cond (decide (0≤((i:Nat):Int))) (cond (decide (((i:Nat):Int)<(xs.length:Int))) (Option.bind xs[((i:Nat):Int).toNat]? f) none) none) Q:=
 bM (by simp) (bM (by simp;omega) (by rw [get_cast h];exact hf))
theorem oQ {α:Type} {a b:Option α} {r:α} (ha:Ok a (fun x=>x=r)) (hb:Ok b (fun x=>x=r)):Ok (alt a b) (fun x=>x=r):=by
 obtain ⟨x,rfl,rfl⟩:=ha;obtain ⟨y,rfl,rfl⟩:=hb;rw [Dh];exact aJ rfl
theorem ff {α:Type} {p:α→Bool} {xs:List α} {i j:Nat} (hi:i<xs.length) (hj:j<xs.length) (pi:p xs[i]=true) (pj:p xs[j]=true) (bi:∀ k (hk:k<i),p (xs[k]'(by omega))=false) (bj:∀ k (hk:k<j),p (xs[k]'(by omega))=false):i=j:=by
 rcases Nat.lt_trichotomy i j with h | h | h
 ·rw [bj i h] at pi;cases pi
 ·exact h
 ·rw [bi j h] at pj;cases pj
theorem lL {α:Type} {p:α→Bool}:∀ {xs:List α} {i:Nat},i≤xs.length→(∀ j (hj:j<i) (h:j<xs.length),p xs[j]=true)→(∀ h:i<xs.length,p xs[i]=false)→lead p xs=i
 | [],i,hi,_,_=>by simp at hi;subst hi;rfl
 | x::xs,0,_,_,h=>by
  have:=h (by simp);simp at this;unfold lead;rw [List.takeWhile_cons,this];rfl
 | x::xs,i+1,hi,h1,h2=>by
  have hx:p x=true:=h1 0 (by omega) (by simp);have ih:=lL (p:=p) (xs:=xs) (i:=i) (by simpa using hi) (fun j hj h=>h1 (j+1) (by omega) (by simpa using h)) (fun h=>h2 (by simpa using h));unfold lead at ih ⊢;rw [List.takeWhile_cons,hx]
  simpa using ih
def AG {α:Type} (nm:α→ByteArray) (xs:List α):Prop:=∀ (i j:Nat) (hi:i<j) (hj:j<xs.length),slt (nm (xs[i]'(by omega))) (nm xs[j])=true
theorem H0 {α:Type} {nm:α→ByteArray} {f:α→Bool} {xs:List α} (h:iH (zS f (fun d s=>slt (nm d) (nm s)) xs) xs.length 0=true):AG nm xs:=by
 have step:∀ (i:Nat) (hi:i+1<xs.length),slt (nm (xs[i]'(by omega))) (nm xs[i+1])=true:=fun i hi=>by
  have:=oH h hi;rw [rU hi,Bool.and_eq_true] at this;have:=this.2
  simpa using this
 intro i j
 induction j with
 | zero=>intro hi;omega
 | succ j ih=>
  intro hi hj
  rcases Nat.lt_or_ge i j with h' | h'
  ·exact Iw (ih h' (by omega)) (step j hj)
  ·have:i=j:=by omega
   subst this;exact step i hj
section
variable {α:Type} {nm:α→ByteArray} {xs:List α} {n:ByteArray}
theorem NG (ha:AG nm xs) {j:Nat} (hj:j<xs.length) (he:nm xs[j]=n):lead (fun s=>slt (nm s) n) xs=j:=
 lL (by omega) (fun i hi h=>by rw [←he];exact ha i j hi hj) (fun h=>by rw [he,zJ])
theorem ND (ha:AG nm xs) (hno:∀ x∈xs,nm x≠n) {i:Nat} (hi:i<xs.length) (h1:slt n (nm xs[i])=true) (h2:∀ j (hj:j<i),slt n (nm (xs[j]'(by omega)))=false):lead (fun s=>slt (nm s) n) xs=i:=
 lL (by omega) (fun j hj h=>by
  rcases qq (nm xs[j]) n with ⟨a,_,_⟩ | ⟨_,b,_⟩ | ⟨_,_,c⟩
  ·exact a
  ·rw [h2 j hj] at b;cases b
  ·exact absurd c (hno _ (List.getElem_mem h))) (fun h=>by
  rcases qq (nm xs[i]) n with ⟨_,b,_⟩ | ⟨a,_,_⟩ | ⟨a,_,_⟩
  ·rw [h1] at b;cases b
  ·exact a
  ·exact a)
theorem HZ (hno:∀ x∈xs,nm x≠n) (h2:∀ x∈xs,slt n (nm x)=false):lead (fun s=>slt (nm s) n) xs=xs.length:=
 lL (Nat.le_refl _) (fun j hj h=>by
  rcases qq (nm xs[j]) n with ⟨a,_,_⟩ | ⟨_,b,_⟩ | ⟨_,_,c⟩
  ·exact a
  ·rw [h2 _ (List.getElem_mem h)] at b;cases b
  ·exact absurd c (hno _ (List.getElem_mem h))) (fun h=>by omega)
def BW (nm:α→ByteArray) (n:ByteArray) (old:α→α) (new:α) (xs:List α):List α:=
 match xs[lead (fun s=>slt (nm s) n) xs]? with
 | some s=>cond (decide (nm s=n)) (xs.take (lead (fun s=>slt (nm s) n) xs)++[old s]++xs.drop (lead (fun s=>slt (nm s) n) xs+1)) (xs.take (lead (fun s=>slt (nm s) n) xs)++[new]++xs.drop (lead (fun s=>slt (nm s) n) xs))
 | none=>xs.take (lead (fun s=>slt (nm s) n) xs)++[new]++xs.drop (lead (fun s=>slt (nm s) n) xs)
theorem qI {old:α→α} {new:α} {i:Nat} (hi:i<xs.length) (e:lead (fun s=>slt (nm s) n) xs=i) (h:nm xs[i]=n):BW nm n old new xs=xs.take i++[old xs[i]]++xs.drop (i+1):=by
 unfold BW;rw [e,List.getElem?_eq_getElem hi];simp [h]
theorem jM {old:α→α} {new:α} {i:Nat} (e:lead (fun s=>slt (nm s) n) xs=i) (h:∀ hi:i<xs.length,nm xs[i]≠n):BW nm n old new xs=xs.take i++[new]++xs.drop i:=by
 unfold BW;rw [e]
 rcases Nat.lt_or_ge i xs.length with hi | hi
 ·rw [List.getElem?_eq_getElem hi]
  simp [h hi]
 ·rw [List.getElem?_eq_none hi]
theorem BV {old:α→α} {new:α}:(BW nm n old new xs).length≤xs.length+1:=by
 have l:=QB (fun s=>slt (nm s) n) xs;unfold BW;split
 ·rename_i s _
  cases decide (nm s=n)<;>simp<;>omega
 ·simp;omega
end
theorem Gw {α:Type} {xs:List α} {i:Nat} {x:α} (hi:i<xs.length):xs.set i x=xs.take i++[x]++xs.drop (i+1):=by
 rw [List.set_eq_take_append_cons_drop,if_pos hi];simp
theorem Hm {α:Type} {xs:List α} {i:Nat} {y x:α} (hi:i≤xs.length):(xs.take i++[y]++xs.drop i).set i x=xs.take i++[x]++xs.drop i:=by
 have e:(xs.take i).length=i:=by simp;omega
 rw [List.append_assoc,List.set_append_right _ _ (by omega),e,Nat.sub_self];simp
theorem Hn {α:Type} {xs:List α} {i:Nat} {y:α} (hi:i≤xs.length):(xs.take i++[y]++xs.drop i)[i]?=some y:=by
 have e:(xs.take i).length=i:=by simp;omega
 rw [List.append_assoc,List.getElem?_append_right (by omega),e,Nat.sub_self];rfl
theorem Mk {α:Type} {xs:List α} {i j:Nat} {y:α} (hi:i≤xs.length) (hj:j<i):(xs.take i++[y]++xs.drop i)[j]?=xs[j]?:=by
 have e:(xs.take i).length=i:=by simp;omega
 rw [List.append_assoc,List.getElem?_append_left (by omega),List.getElem?_take_of_lt hj]
def fin (a x:aa):aa×Int:=cond (vB x) (x,0) (a,2)
def gV (b:aa):Prop:=b.ae.length≤1048576∧b.ai.length≤1048576∧b.aj.length≤1048576
theorem iE {x a:aa} (hx:gV x) (ha:gV a):Ok (Option.bind (qj x) fun P8=>
 cond (!P8)
 (cond (2 != 0)
 (Option.bind (iR a) fun P7=>
 some (P7,(2:Int)))
 (some (x,0)))
 (cond (0 != 0)
 (Option.bind (iR a) fun xb=>
 some (xb,0))
 (some (x,0)))) (fun r=>r=fin a x):=by
 rw [QT hx.1 hx.2.1 hx.2.2,g24 ha.1 ha.2.1 ha.2.2];unfold fin;cases vB x<;>exact aJ rfl
end Go.Proofs.Ytipemmgoipbojaa.Ab
set_option maxRecDepth 10000
namespace Go.Proofs.Ytipemmgoipbojaa.Ab
open Go Go.RowKit
def po (w:af) (v nx:Int):af:=⟨w.Name,v,w.cC,w.aB,w.Want,w.Down,w.ct,nx,w.dA,w.aP,w.bN,w.cK,0⟩
def px (w:af) (v:Int) (ss:List af):List af:=BW (fun s:af=>s.Name) w.Name (fun s=>po w v s.Next) (po w v 1) ss
theorem UH {a b:ByteArray} (h:slt a b=true):a≠b:=by
 intro e;subst e;rw [zJ] at h;cases h
theorem ok65 {b:aa} {w:af} {v:Int} (hs:b.ae.length≤1000):Ok (G65 b w v) (fun r=>r=(⟨b.b8,px w v b.ae,b.ai,b.aj⟩:aa)):=by
 unfold G65 RD
 have fin:∀ (i:Nat) (rec:Int→Option aa),i≤b.ae.length→lead (fun s:af=>slt s.Name w.Name) b.ae=i→(∀ hi:i<b.ae.length,slt b.ae[i].Name w.Name=false)→Ok (BM v b.b8 b.ae b.ai b.aj w.Name w.cC w.aB w.Want w.Down w.ct w.dA w.aP w.bN w.cK fuel rec ((i:Nat):Int)) (fun r=>r=(⟨b.b8,px w v b.ae,b.ai,b.aj⟩:aa)):=by
  intro i rec hi he hn;unfold BM px
  rcases Nat.lt_or_ge i b.ae.length with h | h
  ·refine bM (by simp;omega) (cL h ?_)
   rw [hn h,cond_false];have hx:b.ae[i+0]?=some b.ae[i]:=List.getElem?_eq_getElem h
   by_cases hb:b.ae[i].Name=w.Name
   ·rw [qI h he hb]
    repeat' (first
     | (refine bM (by first | (simp;done) | (simp;omega)) ?_)
     | (simp only [Int.toNat_natCast,Int.toNat_zero,hx,Option.bind_some,hb,decide_true,cond_true]))
    refine aJ ?_
    have e9:i+(b.ae.length-i)=b.ae.length:=by omega
    simp [po,List.take_of_length_le,e9]
   ·rw [jM he fun _=>hb]
    repeat' (first
     | (refine bM (by first | (simp;done) | (simp;omega)) ?_)
     | (simp only [Int.toNat_natCast,Int.toNat_zero,hx,Option.bind_some,hb,decide_false,cond_false]))
    refine aJ ?_;simp [po,List.take_of_length_le]
  ·have hh:i=b.ae.length:=by omega
   subst hh;rw [jM he fun h=>by omega]
   have e1:¬ ((b.ae.length:Nat):Int)<(b.ae.length:Int):=by omega
   simp only [e1,decide_false,cond_false]
   repeat' (first
    | (refine bM (by first | (simp;done) | (simp;omega)) ?_)
    | (refine bH (fun h=>absurd h (by simp)) fun _=>?_))
   refine aJ ?_;simp [po,List.take_of_length_le]
 refine fw (p:=fun s:af=> !slt s.Name w.Name) (xs:=b.ae) (by omega) (fun hno rec=>?_) (fun i hi h1 h2 rec=>?_) (fun rec i hi h1 hr=>?_)
 ·refine fin _ rec (Nat.le_refl _) (lL (Nat.le_refl _) (fun j hj h=>?_) (fun h=>by omega)) (fun h=>by omega)
  have:=hno _ (List.getElem_mem h)
  simpa using this
 ·have h1:slt b.ae[i].Name w.Name=false:=by simpa using h1
  exact fin i rec (by omega) (lL (by omega) (fun j hj h=>by simpa using h2 j hj) (fun h=>h1)) (fun h=>h1)
 ·have h1:slt b.ae[i].Name w.Name=true:=by simpa using h1
  unfold BM;refine bM (by simp;omega) (cL hi ?_);rw [h1,cond_true,bh (by omega)];exact hr
section
variable {a:aa} {ss:List af} {cs:List aq} {bs:List av} {v:Int} {w:af} {n:ByteArray} {j:Nat}
theorem abW (ha:gV a) (hs:ss.length≤1000) (hc:cs.length≤1000) (hb:bs.length≤1000) (hj:j<ss.length) (pj:kD n ss[j]=true) (bj:∀ k (hk:k<j),kD n (ss[k]'(by omega))=false) :
  Ok (cu (K6 n (ss.length:Int) ss w.Name w.Version w.cC w.aB w.Want w.Down w.ct w.Next w.dA w.aP w.bN w.cK w.cE v cs bs a.b8 a.ae a.ai a.aj fuel) fuel 0) (fun r=>r=fin a ⟨v,ss.set j w,cs,bs⟩):=by
 refine fw (p:=kD n) (xs:=ss) (by omega) (fun hno rec=>?_) (fun i hi h1 h2 rec=>?_) (fun rec i hi h1 hr=>?_)
 ·rw [hno _ (List.getElem_mem hj)] at pj;cases pj
 ·have:=ff hi hj h1 pj h2 bj
  subst this;have h1:decide (ss[i].Name=n)=true:=h1;unfold K6;refine bM (by simp;omega) (cL hi ?_);rw [h1,cond_true];refine cL hi ?_;exact iE (x:=⟨v,ss.set i w,cs,bs⟩) ⟨by simp;omega,by dsimp only;omega,by dsimp only;omega⟩ ha
 ·have h1:decide (ss[i].Name=n)=false:=h1
  unfold K6;refine bM (by simp;omega) (cL hi ?_);rw [h1,cond_false,bh (by omega)];exact hr
theorem abV (ha:gV a) (hs:ss.length≤1000) (hc:cs.length≤1000) (hb:bs.length≤1000) (hj:j<ss.length) (pj:kD n ss[j]=true) (bj:∀ k (hk:k<j),kD n (ss[k]'(by omega))=false) :
  Ok (cu (K5 n (ss.length:Int) ss v cs bs w.Name w.Version w.cC w.aB w.Want w.Down w.ct w.Next w.dA w.aP w.bN w.cK w.cE a.b8 a.ae a.ai a.aj fuel) fuel 0) (fun r=>r=fin a ⟨v,ss.set j w,cs,bs⟩):=by
 refine fw (p:=kD n) (xs:=ss) (by omega) (fun hno rec=>?_) (fun i hi h1 h2 rec=>?_) (fun rec i hi h1 hr=>?_)
 ·rw [hno _ (List.getElem_mem hj)] at pj;cases pj
 ·have:=ff hi hj h1 pj h2 bj
  subst this;have h1:decide (ss[i].Name=n)=true:=h1;unfold K5;refine bM (by simp;omega) (cL hi ?_);rw [h1,cond_true];refine cL hi ?_;exact iE (x:=⟨v,ss.set i w,cs,bs⟩) ⟨by simp;omega,by dsimp only;omega,by dsimp only;omega⟩ ha
 ·have h1:decide (ss[i].Name=n)=false:=h1
  unfold K5;refine bM (by simp;omega) (cL hi ?_);rw [h1,cond_false,bh (by omega)];exact hr
theorem VK (ha:gV a) (hs:ss.length≤1001) (hc:cs.length≤1000) (hb:bs.length≤1000) (hj:j<ss.length) (pj:kD n ss[j]=true) (bj:∀ k (hk:k<j),kD n (ss[k]'(by omega))=false) :
  Ok (cu (qH n (ss.length:Int) w.Name w.Version w.cC w.aB w.Want w.Down w.ct w.Next w.dA w.aP w.bN w.cK w.cE v ss cs bs a.b8 a.ae a.ai a.aj fuel) fuel 0) (fun r=>r=fin a ⟨v,ss.set j w,cs,bs⟩):=by
 refine fw (p:=kD n) (xs:=ss) (by omega) (fun hno rec=>?_) (fun i hi h1 h2 rec=>?_) (fun rec i hi h1 hr=>?_)
 ·rw [hno _ (List.getElem_mem hj)] at pj;cases pj
 ·have:=ff hi hj h1 pj h2 bj
  subst this;have h1:decide (ss[i].Name=n)=true:=h1;unfold qH;refine bM (by simp;omega) (cL hi ?_);rw [h1,cond_true];refine cL hi ?_;exact iE (x:=⟨v,ss.set i w,cs,bs⟩) ⟨by simp;omega,by dsimp only;omega,by dsimp only;omega⟩ ha
 ·have h1:decide (ss[i].Name=n)=false:=h1
  unfold qH;refine bM (by simp;omega) (cL hi ?_);rw [h1,cond_false,bh (by omega)];exact hr
theorem VJ (ha:gV a) (hs:ss.length≤1001) (hc:cs.length≤1000) (hb:bs.length≤1000) (hj:j<ss.length) (pj:kD n ss[j]=true) (bj:∀ k (hk:k<j),kD n (ss[k]'(by omega))=false) :
  Ok (cu (qG n (ss.length:Int) v ss cs bs w.Name w.Version w.cC w.aB w.Want w.Down w.ct w.Next w.dA w.aP w.bN w.cK w.cE a.b8 a.ae a.ai a.aj fuel) fuel 0) (fun r=>r=fin a ⟨v,ss.set j w,cs,bs⟩):=by
 refine fw (p:=kD n) (xs:=ss) (by omega) (fun hno rec=>?_) (fun i hi h1 h2 rec=>?_) (fun rec i hi h1 hr=>?_)
 ·rw [hno _ (List.getElem_mem hj)] at pj;cases pj
 ·have:=ff hi hj h1 pj h2 bj
  subst this;have h1:decide (ss[i].Name=n)=true:=h1;unfold qG;refine bM (by simp;omega) (cL hi ?_);rw [h1,cond_true];refine cL hi ?_;exact iE (x:=⟨v,ss.set i w,cs,bs⟩) ⟨by simp;omega,by dsimp only;omega,by dsimp only;omega⟩ ha
 ·have h1:decide (ss[i].Name=n)=false:=h1
  unfold qG;refine bM (by simp;omega) (cL hi ?_);rw [h1,cond_false,bh (by omega)];exact hr
end
end Go.Proofs.Ytipemmgoipbojaa.Ab
set_option maxRecDepth 10000
namespace Go.Proofs.Ytipemmgoipbojaa.Ab
open Go Go.RowKit
theorem Ak {α:Type} {xs:List α} {i:Nat} {y:α} (h:i<xs.length) (e:xs[i]?=some y):xs[i]=y:=by
 rw [List.getElem?_eq_getElem h] at e;exact Option.some.inj e
theorem pos_eq {α:Type} {p:α→Bool} {xs:List α} {i:Nat} (hi:i<xs.length) (h1:p xs[i]=true) (h2:∀ j (hj:j<i),p (xs[j]'(by omega))=false):ed p xs 0=(i:Int):=by
 rcases eQ p xs with ⟨e,hn⟩ | ⟨j,hj,e,q1,q2⟩
 ·have:=hn _ (List.getElem_mem hi)
  rw [h1] at this;cases this
 ·rw [e,ff hj hi q1 h1 q2 h2]
theorem E7 {α:Type} {p:α→Bool} {xs:List α} (h:∀ x∈xs,p x=false):ed p xs 0 = -1:=by
 rcases eQ p xs with ⟨e,hn⟩ | ⟨j,hj,e,q1,q2⟩
 ·exact e
 ·rw [h _ (List.getElem_mem hj)] at q1;cases q1
section
variable {a:aa} {ss:List af} {cs:List aq} {bs:List av} {v:Int} {w:af}
theorem ins7 (ha:gV a) (hs:ss.length≤1000) (hc:cs.length≤1000) (hb:bs.length≤1000) {i:Nat} (hi:i≤ss.length) {y:af} (hy:y.Name=w.Name) (hn:∀ j (hj:j<i),(ss[j]'(by omega)).Name≠w.Name) :
  Ok (alt (cu (qH w.Name (((ss.take i++[y]++ss.drop i).length:Int)) w.Name v w.cC w.aB w.Want w.Down w.ct 1 w.dA w.aP w.bN w.cK 0 v (ss.take i++[y]++ss.drop i) cs bs a.b8 a.ae a.ai a.aj fuel) fuel 0)
 (cu (qG w.Name (((ss.take i++[y]++ss.drop i).length:Int)) v (ss.take i++[y]++ss.drop i) cs bs w.Name v w.cC w.aB w.Want w.Down w.ct 1 w.dA w.aP w.bN w.cK 0 a.b8 a.ae a.ai a.aj fuel) fuel 0)) (fun r=>r=fin a ⟨v,ss.take i++[po w v 1]++ss.drop i,cs,bs⟩):=by
 have hl:(ss.take i++[y]++ss.drop i).length=ss.length+1:=by simp;omega
 have hj:i<(ss.take i++[y]++ss.drop i).length:=by omega
 have pj:kD w.Name ((ss.take i++[y]++ss.drop i)[i]'hj)=true:=by rw [Ak hj (Hn hi)];simp [kD,hy]
 have bj:∀ k (hk:k<i),kD w.Name ((ss.take i++[y]++ss.drop i)[k]'(by omega))=false:=fun k hk=>by
  rw [Ak (show k<(ss.take i++[y]++ss.drop i).length by omega) ((Mk hi hk).trans (List.getElem?_eq_getElem (by omega)))];have:=hn k hk;simp [kD,this]
 have e:=Hm (y:=y) (x:=po w v 1) hi;rw [←e];exact oQ (VK (w:=po w v 1) ha (by omega) hc hb hj pj bj) (VJ (w:=po w v 1) ha (by omega) hc hb hj pj bj)
theorem aaJ (ha:gV a) (hs:ss.length≤1000) (hc:cs.length≤1000) (hb:bs.length≤1000) (hasc:AG (fun s:af=>s.Name) ss) (hno:∀ s∈ss,s.Name≠w.Name) :
  Ok (cu (IE ss (ss.length:Int) v cs bs w.Name w.Version w.cC w.aB w.Want w.Down w.ct 1 w.dA w.aP w.bN w.cK w.cE a.b8 a.ae a.ai a.aj fuel) fuel 0) (fun r=>r=fin a ⟨v,px w v ss,cs,bs⟩):=by
 refine fw (p:=fun s:af=>slt w.Name s.Name) (xs:=ss) (by omega) (fun hn rec=>?_) (fun i hi h1 h2 rec=>?_) (fun rec i hi h1 hr=>?_)
 ·have hw:px w v ss=ss.take ss.length++[po w v 1]++ss.drop ss.length:=jM (HZ hno hn) (fun h=>by omega)
  rw [hw];unfold IE
  have e1:¬ ((ss.length:Nat):Int)<(ss.length:Int):=by omega
  simp only [e1,decide_false,cond_false,Int.toNat_natCast]
  repeat' (refine bM (by first | (simp;done) | (simp;omega)) ?_)
  exact ins7 ha hs hc hb (Nat.le_refl _) rfl fun j hj=>hno _ (List.getElem_mem _)
 ·have hw:px w v ss=ss.take i++[po w v 1]++ss.drop i:=jM (ND hasc hno hi h1 h2) (fun h=>hno _ (List.getElem_mem _))
  rw [hw];unfold IE;have h1:slt w.Name ss[i].Name=true:=h1;refine bM (by simp;omega) (cL hi ?_)
  have e1:¬ ((i:Nat):Int)<0:=by omega
  simp only [G54,RG,Option.bind_some,h1,cond_true,e1,decide_false,cond_false,Int.toNat_natCast]
  repeat' (refine bM (by first | (simp;done) | (simp;omega)) ?_)
  exact ins7 ha hs hc hb (by omega) rfl fun j hj=>hno _ (List.getElem_mem _)
 ·have h1:slt w.Name ss[i].Name=false:=h1
  unfold IE;refine bM (by simp;omega) (cL hi ?_);simp only [G54,RG,Option.bind_some,h1,cond_false];rw [bh (by omega)];exact hr
theorem aaK (ha:gV a) (hs:ss.length≤1000) (hc:cs.length≤1000) (hb:bs.length≤1000) (hasc:AG (fun s:af=>s.Name) ss) :
  Ok (cu (IF w.Name (ss.length:Int) v ss cs bs w.Name w.Version w.cC w.aB w.Want w.Down w.ct w.dA w.aP w.bN w.cK w.cE a.b8 a.ae a.ai a.aj fuel) fuel 0) (fun r=>r=fin a ⟨v,px w v ss,cs,bs⟩):=by
 refine fw (p:=kD w.Name) (xs:=ss) (by omega) (fun hn rec=>?_) (fun i hi h1 h2 rec=>?_) (fun rec i hi h1 hr=>?_)
 ·unfold IF
  have e1:¬ ((ss.length:Nat):Int)<(ss.length:Int):=by omega
  simp only [e1,decide_false,cond_false]
  exact aaJ ha hs hc hb hasc fun s hs e=>by
   have:=hn s hs;simp [kD,e] at this
 ·have hx:ss[i].Name=w.Name:=by simpa [kD] using h1
  have hw:px w v ss=ss.set i (po w v ss[i].Next):=by
   rw [Gw hi];exact qI hi (NG hasc hi hx) hx
  rw [hw];unfold IF;refine bM (by simp;omega) (cL hi ?_);refine bM (by simp [hx]) (cL hi ?_);exact oQ (abW (w:=po w v ss[i].Next) ha hs hc hb hi h1 h2) (abV (w:=po w v ss[i].Next) ha hs hc hb hi h1 h2)
 ·have h1:decide (ss[i].Name=w.Name)=false:=h1
  unfold IF;refine bM (by simp;omega) (cL hi ?_);rw [h1,cond_false,bh (by omega)];exact hr
def flC (c:aq) (v:Int):aq:=⟨c.ax,c.Number,v,c.aB,4,c.Ending,c.bw⟩
def tz (b:aa) (n:ByteArray) (k v:Int):aa×Int:=match b.ai[(ed (vY n k) b.ai 0).toNat]? with
 | some c=>cond (decide (ed (vY n k) b.ai 0<0)) (b,3) (cond (c.State==3||c.State==2) (⟨v,b.ae,b.ai.set (ed (vY n k) b.ai 0).toNat (flC c v),b.aj⟩,0) (b,3))
 | none=>(b,3)
def vR (a:aa) (x:aa×Int):aa×Int:=cond (x.2==0) (fin a x.1) (a,x.2)
theorem CP {b:aa} {n:ByteArray} {k v:Int} (h:∀ c∈b.ai,vY n k c=false):tz b n k v=(b,3):=by
 unfold tz;rw [E7 h];split<;>rfl
theorem qZ {b:aa} {n:ByteArray} {k v:Int} {i:Nat} (hi:i<b.ai.length) (h1:vY n k b.ai[i]=true) (h2:∀ j (hj:j<i),vY n k (b.ai[j]'(by omega))=false) :
  tz b n k v=cond (b.ai[i].State==3||b.ai[i].State==2) (⟨v,b.ae,b.ai.set i (flC b.ai[i] v),b.aj⟩,0) (b,3):=by
 unfold tz;rw [pos_eq hi h1 h2]
 have e1:¬ ((i:Nat):Int)<0:=by omega
 simp only [Int.toNat_natCast,List.getElem?_eq_getElem hi,e1,decide_false,cond_false]
theorem Vi {n:ByteArray} {k:Int} (ha:gV a) (hs:ss.length≤1000) (hc:cs.length≤1000) (hb:bs.length≤1000) :
  Ok (cu (xU n k (cs.length:Int) v ss cs bs a.b8 a.ae a.ai a.aj fuel) fuel 0) (fun r=>∀ b:aa,b.ae=ss→b.ai=cs→b.aj=bs→r=vR a (tz b n k v)):=by
 have g:=g24 ha.1 ha.2.1 ha.2.2;refine fw (p:=vY n k) (xs:=cs) (by omega) (fun hn rec=>?_) (fun i hi h1 h2 rec=>?_) (fun rec i hi h1 hr=>?_)
 ·unfold xU
  have e1:¬ ((cs.length:Nat):Int)<(cs.length:Int):=by omega
  simp only [e1,decide_false,cond_false];rw [show (⟨a.b8,a.ae,a.ai,a.aj⟩:aa)=a from rfl,g];refine aJ ?_
  rintro b rfl rfl rfl
  rw [CP hn];rfl
 ·have hx:=h1
  simp only [vY,Bool.and_eq_true] at h1;unfold xU;refine bM (by simp;omega) (cL hi ?_);refine bM h1.1 (cL hi ?_);refine bM h1.2 (cL hi ?_);simp only [Int.toNat_natCast,List.getElem?_eq_getElem hi,Option.bind_some,List.getElem?_set_self hi,List.set_set];rw [show (⟨a.b8,a.ae,a.ai,a.aj⟩:aa)=a from rfl,g]
  by_cases s3:cs[i].State=3
  ·refine bH (fun h=>absurd s3 (by simpa using h)) fun _=>?_
   refine iS (iE (x:=⟨v,ss,cs.set i (flC cs[i] v),bs⟩) (a:=a) ⟨by dsimp only;omega,by simp;omega,by dsimp only;omega⟩ ha |> fun h=>by rw [g] at h;exact h) ?_
   rintro r rfl b rfl rfl rfl
   rw [qZ hi hx h2];simp [s3,vR]
  ·refine bH (fun _=>?_) fun h=>absurd h (by simpa using s3)
   by_cases s2:cs[i].State=2
   ·refine bH (fun h=>absurd s2 (by simpa using h)) fun _=>?_
    refine iS (iE (x:=⟨v,ss,cs.set i (flC cs[i] v),bs⟩) (a:=a) ⟨by dsimp only;omega,by simp;omega,by dsimp only;omega⟩ ha |> fun h=>by rw [g] at h;exact h) ?_
    rintro r rfl b rfl rfl rfl
    rw [qZ hi hx h2];simp [s2,vR]
   ·refine bH (fun _=>?_) fun h=>absurd h (by simpa using s2)
    refine aJ ?_
    rintro b rfl rfl rfl
    rw [qZ hi hx h2]
    have q1:(b.ai[i].State==3||b.ai[i].State==2)=false:=by simp [s3,s2]
    rw [q1];rfl
 ·unfold xU
  refine bM (by simp;omega) (cL hi ?_);rw [bh (by omega)]
  refine bH (fun q1=>cL hi (bH (fun q2=>?_) fun _=>hr)) fun _=>hr
  simp [vY,q1] at h1;simp [h1] at q2
def ldS (s:af) (k v:Int):af:=⟨s.Name,v,s.cC,s.aB,s.Want,s.Down,s.ct,s.Next,s.dA,s.aP,s.bN,k,s.cE⟩
def tj (b:aa) (n:ByteArray) (k v:Int):aa×Int:=match b.ae[(ed (kD n) b.ae 0).toNat]? with
 | some c=>cond (decide (ed (kD n) b.ae 0<0)) (b,3) (cond (c.dA==0) (b,3) (⟨v,b.ae.set (ed (kD n) b.ae 0).toNat (ldS c k v),b.ai,b.aj⟩,0))
 | none=>(b,3)
theorem Ci {b:aa} {n:ByteArray} {k v:Int} (h:∀ c∈b.ae,kD n c=false):tj b n k v=(b,3):=by
 unfold tj;rw [E7 h];split<;>rfl
theorem vr {b:aa} {n:ByteArray} {k v:Int} {i:Nat} (hi:i<b.ae.length) (h1:kD n b.ae[i]=true) (h2:∀ j (hj:j<i),kD n (b.ae[j]'(by omega))=false) :
  tj b n k v=cond (b.ae[i].dA==0) (b,3) (⟨v,b.ae.set i (ldS b.ae[i] k v),b.ai,b.aj⟩,0):=by
 unfold tj;rw [pos_eq hi h1 h2]
 have e1:¬ ((i:Nat):Int)<0:=by omega
 simp only [Int.toNat_natCast,List.getElem?_eq_getElem hi,e1,decide_false,cond_false]
theorem Vd {n:ByteArray} {k:Int} (ha:gV a) (hs:ss.length≤1000) (hc:cs.length≤1000) (hb:bs.length≤1000) :
  Ok (cu (xM n (ss.length:Int) v ss cs bs k a.b8 a.ae a.ai a.aj fuel) fuel 0) (fun r=>∀ b:aa,b.ae=ss→b.ai=cs→b.aj=bs→r=vR a (tj b n k v)):=by
 have g:=g24 ha.1 ha.2.1 ha.2.2;refine fw (p:=kD n) (xs:=ss) (by omega) (fun hn rec=>?_) (fun i hi h1 h2 rec=>?_) (fun rec i hi h1 hr=>?_)
 ·unfold xM
  have e1:¬ ((ss.length:Nat):Int)<(ss.length:Int):=by omega
  simp only [e1,decide_false,cond_false];rw [show (⟨a.b8,a.ae,a.ai,a.aj⟩:aa)=a from rfl,g];refine aJ ?_
  rintro b rfl rfl rfl
  rw [Ci hn];rfl
 ·have hx:=h1
  unfold xM;refine bM (by simp;omega) (cL hi ?_);refine bM h1 (cL hi ?_);simp only [Int.toNat_natCast,List.getElem?_eq_getElem hi,Option.bind_some,List.getElem?_set_self hi,List.set_set];rw [show (⟨a.b8,a.ae,a.ai,a.aj⟩:aa)=a from rfl,g]
  refine bH (fun h=>aJ ?_) fun h=>?_
  ·rintro b rfl rfl rfl
   rw [vr hi hx h2,h];rfl
  ·refine iS (iE (x:=⟨v,ss.set i (ldS ss[i] k v),cs,bs⟩) (a:=a) ⟨by simp;omega,by dsimp only;omega,by dsimp only;omega⟩ ha |> fun h=>by rw [g] at h;exact h) ?_
   rintro r rfl b rfl rfl rfl
   rw [vr hi hx h2,h];rfl
 ·have h1:decide (ss[i].Name=n)=false:=h1
  unfold xM;refine bM (by simp;omega) (cL hi ?_);rw [h1,cond_false,bh (by omega)];exact hr
end
end Go.Proofs.Ytipemmgoipbojaa.Ab
set_option maxRecDepth 10000
namespace Go.Proofs.Ytipemmgoipbojaa.Ab
open Go Go.RowKit
def lQ (n:ByteArray) (fl:Bool) (bs:List av):List av:=BW (fun s:av=>s.Name) n (fun _=>⟨n,fl⟩) ⟨n,fl⟩ bs
theorem ok68 {b:aa} {n:ByteArray} {fl:Bool} (hs:b.aj.length≤1000):Ok (G68 b n fl) (fun r=>r=(⟨b.b8,b.ae,b.ai,lQ n fl b.aj⟩:aa)):=by
 unfold G68 RA
 have fin:∀ (i:Nat) (rec:Int→Option aa),i≤b.aj.length→lead (fun s:av=>slt s.Name n) b.aj=i→(∀ hi:i<b.aj.length,slt b.aj[i].Name n=false)→Ok (BL n fl b.b8 b.ae b.ai b.aj fuel rec ((i:Nat):Int)) (fun r=>r=(⟨b.b8,b.ae,b.ai,lQ n fl b.aj⟩:aa)):=by
  intro i rec hi he hn;unfold BL lQ
  rcases Nat.lt_or_ge i b.aj.length with h | h
  ·refine bM (by simp;omega) (cL h ?_)
   rw [hn h,cond_false];have hx:b.aj[i+0]?=some b.aj[i]:=List.getElem?_eq_getElem h
   by_cases hb:b.aj[i].Name=n
   ·rw [qI h he hb]
    repeat' (first
     | (refine bM (by first | (simp;done) | (simp;omega)) ?_)
     | (simp only [Int.toNat_natCast,Int.toNat_zero,hx,Option.bind_some,hb,decide_true,cond_true]))
    refine aJ ?_
    have e9:i+(b.aj.length-i)=b.aj.length:=by omega
    simp [List.take_of_length_le,e9]
   ·rw [jM he fun _=>hb]
    repeat' (first
     | (refine bM (by first | (simp;done) | (simp;omega)) ?_)
     | (simp only [Int.toNat_natCast,Int.toNat_zero,hx,Option.bind_some,hb,decide_false,cond_false]))
    refine aJ ?_;simp [List.take_of_length_le]
  ·have hh:i=b.aj.length:=by omega
   subst hh;rw [jM he fun h=>by omega]
   have e1:¬ ((b.aj.length:Nat):Int)<(b.aj.length:Int):=by omega
   simp only [e1,decide_false,cond_false]
   repeat' (first
    | (refine bM (by first | (simp;done) | (simp;omega)) ?_)
    | (refine bH (fun h=>absurd h (by simp)) fun _=>?_))
   refine aJ ?_;simp [List.take_of_length_le]
 refine fw (p:=fun s:av=> !slt s.Name n) (xs:=b.aj) (by omega) (fun hno rec=>?_) (fun i hi h1 h2 rec=>?_) (fun rec i hi h1 hr=>?_)
 ·refine fin _ rec (Nat.le_refl _) (lL (Nat.le_refl _) (fun j hj h=>?_) (fun h=>by omega)) (fun h=>by omega)
  have:=hno _ (List.getElem_mem h)
  simpa using this
 ·have h1:slt b.aj[i].Name n=false:=by simpa using h1
  exact fin i rec (by omega) (lL (by omega) (fun j hj h=>by simpa using h2 j hj) (fun h=>h1)) (fun h=>h1)
 ·have h1:slt b.aj[i].Name n=true:=by simpa using h1
  unfold BL;refine bM (by simp;omega) (cL hi ?_);rw [h1,cond_true,bh (by omega)];exact hr
section
variable {a:aa} {ss:List af} {cs:List aq} {bs:List av} {v:Int} {n:ByteArray} {fl:Bool}
theorem VG {j:Nat} (ha:gV a) (hs:ss.length≤1000) (hc:cs.length≤1000) (hb:bs.length≤1001) (hj:j<bs.length) (pj:iU n bs[j]=true) (bj:∀ k (hk:k<j),iU n (bs[k]'(by omega))=false) :
  Ok (cu (BK n (bs.length:Int) fl v ss cs bs a.b8 a.ae a.ai a.aj fuel) fuel 0) (fun r=>r=fin a ⟨v,ss,cs,bs.set j ⟨n,fl⟩⟩):=by
 refine fw (p:=iU n) (xs:=bs) (by omega) (fun hno rec=>?_) (fun i hi h1 h2 rec=>?_) (fun rec i hi h1 hr=>?_)
 ·rw [hno _ (List.getElem_mem hj)] at pj;cases pj
 ·have:=ff hi hj h1 pj h2 bj
  subst this
  have hx:bs[i].Name=n:=by simpa [iU] using h1
  have h1:decide (bs[i].Name=n)=true:=h1;unfold BK;refine bM (by simp;omega) (cL hi ?_);rw [h1,cond_true];refine cL hi ?_;rw [hx];exact iE (x:=⟨v,ss,cs,bs.set i ⟨n,fl⟩⟩) ⟨by dsimp only;omega,by dsimp only;omega,by simp;omega⟩ ha
 ·have h1:decide (bs[i].Name=n)=false:=h1
  unfold BK;refine bM (by simp;omega) (cL hi ?_);rw [h1,cond_false,bh (by omega)];exact hr
theorem VF {j:Nat} (ha:gV a) (hs:ss.length≤1000) (hc:cs.length≤1000) (hb:bs.length≤1001) (hj:j<bs.length) (pj:iU n bs[j]=true) (bj:∀ k (hk:k<j),iU n (bs[k]'(by omega))=false) :
  Ok (cu (BI n (bs.length:Int) v ss cs bs fl a.b8 a.ae a.ai a.aj fuel) fuel 0) (fun r=>r=fin a ⟨v,ss,cs,bs.set j ⟨n,fl⟩⟩):=by
 refine fw (p:=iU n) (xs:=bs) (by omega) (fun hno rec=>?_) (fun i hi h1 h2 rec=>?_) (fun rec i hi h1 hr=>?_)
 ·rw [hno _ (List.getElem_mem hj)] at pj;cases pj
 ·have:=ff hi hj h1 pj h2 bj
  subst this
  have hx:bs[i].Name=n:=by simpa [iU] using h1
  have h1:decide (bs[i].Name=n)=true:=h1;unfold BI;refine bM (by simp;omega) (cL hi ?_);rw [h1,cond_true];refine cL hi ?_;rw [hx];exact iE (x:=⟨v,ss,cs,bs.set i ⟨n,fl⟩⟩) ⟨by dsimp only;omega,by dsimp only;omega,by simp;omega⟩ ha
 ·have h1:decide (bs[i].Name=n)=false:=h1
  unfold BI;refine bM (by simp;omega) (cL hi ?_);rw [h1,cond_false,bh (by omega)];exact hr
theorem VE {j:Nat} (ha:gV a) (hs:ss.length≤1000) (hc:cs.length≤1000) (hb:bs.length≤1001) (hj:j<bs.length) (pj:iU n bs[j]=true) (bj:∀ k (hk:k<j),iU n (bs[k]'(by omega))=false) :
  Ok (cu (BH n (bs.length:Int) v ss cs bs fl a.b8 a.ae a.ai a.aj fuel) fuel 0) (fun r=>r=fin a ⟨v,ss,cs,bs.set j ⟨n,fl⟩⟩):=by
 refine fw (p:=iU n) (xs:=bs) (by omega) (fun hno rec=>?_) (fun i hi h1 h2 rec=>?_) (fun rec i hi h1 hr=>?_)
 ·rw [hno _ (List.getElem_mem hj)] at pj;cases pj
 ·have:=ff hi hj h1 pj h2 bj
  subst this
  have hx:bs[i].Name=n:=by simpa [iU] using h1
  have h1:decide (bs[i].Name=n)=true:=h1;unfold BH;refine bM (by simp;omega) (cL hi ?_);rw [h1,cond_true];refine cL hi ?_;rw [hx];exact iE (x:=⟨v,ss,cs,bs.set i ⟨n,fl⟩⟩) ⟨by dsimp only;omega,by dsimp only;omega,by simp;omega⟩ ha
 ·have h1:decide (bs[i].Name=n)=false:=h1
  unfold BH;refine bM (by simp;omega) (cL hi ?_);rw [h1,cond_false,bh (by omega)];exact hr
theorem VD {j:Nat} (ha:gV a) (hs:ss.length≤1000) (hc:cs.length≤1000) (hb:bs.length≤1001) (hj:j<bs.length) (pj:iU n bs[j]=true) (bj:∀ k (hk:k<j),iU n (bs[k]'(by omega))=false) :
  Ok (cu (qF n (bs.length:Int) fl v ss cs bs a.b8 a.ae a.ai a.aj fuel) fuel 0) (fun r=>r=fin a ⟨v,ss,cs,bs.set j ⟨n,fl⟩⟩):=by
 refine fw (p:=iU n) (xs:=bs) (by omega) (fun hno rec=>?_) (fun i hi h1 h2 rec=>?_) (fun rec i hi h1 hr=>?_)
 ·rw [hno _ (List.getElem_mem hj)] at pj;cases pj
 ·have:=ff hi hj h1 pj h2 bj
  subst this
  have hx:bs[i].Name=n:=by simpa [iU] using h1
  have h1:decide (bs[i].Name=n)=true:=h1;unfold qF;refine bM (by simp;omega) (cL hi ?_);rw [h1,cond_true];refine cL hi ?_;rw [hx];exact iE (x:=⟨v,ss,cs,bs.set i ⟨n,fl⟩⟩) ⟨by dsimp only;omega,by dsimp only;omega,by simp;omega⟩ ha
 ·have h1:decide (bs[i].Name=n)=false:=h1
  unfold qF;refine bM (by simp;omega) (cL hi ?_);rw [h1,cond_false,bh (by omega)];exact hr
theorem VC {j:Nat} (ha:gV a) (hs:ss.length≤1000) (hc:cs.length≤1000) (hb:bs.length≤1001) (hj:j<bs.length) (pj:iU n bs[j]=true) (bj:∀ k (hk:k<j),iU n (bs[k]'(by omega))=false) :
  Ok (cu (qE n (bs.length:Int) v ss cs bs fl a.b8 a.ae a.ai a.aj fuel) fuel 0) (fun r=>r=fin a ⟨v,ss,cs,bs.set j ⟨n,fl⟩⟩):=by
 refine fw (p:=iU n) (xs:=bs) (by omega) (fun hno rec=>?_) (fun i hi h1 h2 rec=>?_) (fun rec i hi h1 hr=>?_)
 ·rw [hno _ (List.getElem_mem hj)] at pj;cases pj
 ·have:=ff hi hj h1 pj h2 bj
  subst this
  have hx:bs[i].Name=n:=by simpa [iU] using h1
  have h1:decide (bs[i].Name=n)=true:=h1;unfold qE;refine bM (by simp;omega) (cL hi ?_);rw [h1,cond_true];refine cL hi ?_;rw [hx];exact iE (x:=⟨v,ss,cs,bs.set i ⟨n,fl⟩⟩) ⟨by dsimp only;omega,by dsimp only;omega,by simp;omega⟩ ha
 ·have h1:decide (bs[i].Name=n)=false:=h1
  unfold qE;refine bM (by simp;omega) (cL hi ?_);rw [h1,cond_false,bh (by omega)];exact hr
theorem VB {j:Nat} (ha:gV a) (hs:ss.length≤1000) (hc:cs.length≤1000) (hb:bs.length≤1001) (hj:j<bs.length) (pj:iU n bs[j]=true) (bj:∀ k (hk:k<j),iU n (bs[k]'(by omega))=false) :
  Ok (cu (qD n (bs.length:Int) v ss cs bs fl a.b8 a.ae a.ai a.aj fuel) fuel 0) (fun r=>r=fin a ⟨v,ss,cs,bs.set j ⟨n,fl⟩⟩):=by
 refine fw (p:=iU n) (xs:=bs) (by omega) (fun hno rec=>?_) (fun i hi h1 h2 rec=>?_) (fun rec i hi h1 hr=>?_)
 ·rw [hno _ (List.getElem_mem hj)] at pj;cases pj
 ·have:=ff hi hj h1 pj h2 bj
  subst this
  have hx:bs[i].Name=n:=by simpa [iU] using h1
  have h1:decide (bs[i].Name=n)=true:=h1;unfold qD;refine bM (by simp;omega) (cL hi ?_);rw [h1,cond_true];refine cL hi ?_;rw [hx];exact iE (x:=⟨v,ss,cs,bs.set i ⟨n,fl⟩⟩) ⟨by dsimp only;omega,by dsimp only;omega,by simp;omega⟩ ha
 ·have h1:decide (bs[i].Name=n)=false:=h1
  unfold qD;refine bM (by simp;omega) (cL hi ?_);rw [h1,cond_false,bh (by omega)];exact hr
theorem insB (ha:gV a) (hs:ss.length≤1000) (hc:cs.length≤1000) (hb:bs.length≤1000) {i:Nat} (hi:i≤bs.length) {y:av} (hy:y.Name=n) (hn:∀ j (hj:j<i),(bs[j]'(by omega)).Name≠n) :
  Ok (alt (cu (qF n (((bs.take i++[y]++bs.drop i).length:Int)) fl v ss cs (bs.take i++[y]++bs.drop i) a.b8 a.ae a.ai a.aj fuel) fuel 0)
 (alt (cu (qE n (((bs.take i++[y]++bs.drop i).length:Int)) v ss cs (bs.take i++[y]++bs.drop i) fl a.b8 a.ae a.ai a.aj fuel) fuel 0)
 (cu (qD n (((bs.take i++[y]++bs.drop i).length:Int)) v ss cs (bs.take i++[y]++bs.drop i) fl a.b8 a.ae a.ai a.aj fuel) fuel 0))) (fun r=>r=fin a ⟨v,ss,cs,bs.take i++[⟨n,fl⟩]++bs.drop i⟩):=by
 have hl:(bs.take i++[y]++bs.drop i).length=bs.length+1:=by simp;omega
 have hj:i<(bs.take i++[y]++bs.drop i).length:=by omega
 have pj:iU n ((bs.take i++[y]++bs.drop i)[i]'hj)=true:=by rw [Ak hj (Hn hi)];simp [iU,hy]
 have bj:∀ k (hk:k<i),iU n ((bs.take i++[y]++bs.drop i)[k]'(by omega))=false:=fun k hk=>by
  rw [Ak (show k<(bs.take i++[y]++bs.drop i).length by omega) ((Mk hi hk).trans (List.getElem?_eq_getElem (by omega)))];have:=hn k hk;simp [iU,this]
 have e:=Hm (y:=y) (x:=(⟨n,fl⟩:av)) hi;rw [←e];exact oQ (VD ha hs hc (by omega) hj pj bj) (oQ (VC ha hs hc (by omega) hj pj bj) (VB ha hs hc (by omega) hj pj bj))
section
variable {k1:Int} {k2:ByteArray} {k3:Int} {k4:Bool} {k5 k6 k7 k8 k9 ka kb kc kd ke kf:Int}
theorem Ve (ha:gV a) (hs:ss.length≤1000) (hc:cs.length≤1000) (hb:bs.length≤1000) (hasc:AG (fun s:av=>s.Name) bs) (hno:∀ s∈bs,s.Name≠n) :
  Ok (cu (xN bs (bs.length:Int) v ss cs k1 k2 k3 k4 k5 k6 k7 k8 k9 ka kb kc kd ke n kf fl a.b8 a.ae a.ai a.aj fuel) fuel 0) (fun r=>r=fin a ⟨v,ss,cs,lQ n fl bs⟩):=by
 refine fw (p:=fun s:av=>slt n s.Name) (xs:=bs) (by omega) (fun hn rec=>?_) (fun i hi h1 h2 rec=>?_) (fun rec i hi h1 hr=>?_)
 ·have hw:lQ n fl bs=bs.take bs.length++[⟨n,fl⟩]++bs.drop bs.length:=jM (HZ hno hn) (fun h=>by omega)
  rw [hw];unfold xN
  have e1:¬ ((bs.length:Nat):Int)<(bs.length:Int):=by omega
  simp only [e1,decide_false,cond_false,Int.toNat_natCast]
  repeat' (refine bM (by first | (simp;done) | (simp;omega)) ?_)
  exact insB ha hs hc hb (Nat.le_refl _) rfl fun j hj=>hno _ (List.getElem_mem _)
 ·have hw:lQ n fl bs=bs.take i++[⟨n,fl⟩]++bs.drop i:=jM (ND hasc hno hi h1 h2) (fun h=>hno _ (List.getElem_mem _))
  rw [hw];unfold xN;have h1:slt n bs[i].Name=true:=h1;refine bM (by simp;omega) (cL hi ?_)
  have e1:¬ ((i:Nat):Int)<0:=by omega
  simp only [G62,RF,Option.bind_some,h1,cond_true,e1,decide_false,cond_false,Int.toNat_natCast]
  repeat' (refine bM (by first | (simp;done) | (simp;omega)) ?_)
  exact insB ha hs hc hb (by omega) rfl fun j hj=>hno _ (List.getElem_mem _)
 ·have h1:slt n bs[i].Name=false:=h1
  unfold xN;refine bM (by simp;omega) (cL hi ?_);simp only [G62,RF,Option.bind_some,h1,cond_false];rw [bh (by omega)];exact hr
theorem Vf (ha:gV a) (hs:ss.length≤1000) (hc:cs.length≤1000) (hb:bs.length≤1000) (hasc:AG (fun s:av=>s.Name) bs) :
  Ok (cu (xO n (bs.length:Int) v ss cs bs k1 k2 k3 k4 k5 k6 k7 k8 k9 ka kb kc kd ke n kf fl a.b8 a.ae a.ai a.aj fuel) fuel 0) (fun r=>r=fin a ⟨v,ss,cs,lQ n fl bs⟩):=by
 refine fw (p:=iU n) (xs:=bs) (by omega) (fun hn rec=>?_) (fun i hi h1 h2 rec=>?_) (fun rec i hi h1 hr=>?_)
 ·unfold xO
  have e1:¬ ((bs.length:Nat):Int)<(bs.length:Int):=by omega
  simp only [e1,decide_false,cond_false]
  exact Ve ha hs hc hb hasc fun s hs e=>by
   have:=hn s hs;simp [iU,e] at this
 ·have hx:bs[i].Name=n:=by simpa [iU] using h1
  have hw:lQ n fl bs=bs.set i ⟨n,fl⟩:=by
   rw [Gw hi];exact qI hi (NG hasc hi hx) hx
  rw [hw];unfold xO;refine bM (by simp;omega) (cL hi ?_);refine bM (by simp [hx]) (bM (by simp) (bM (by simp;omega) ?_));exact oQ (VG ha hs hc (by omega) hi h1 h2) (oQ (VF ha hs hc (by omega) hi h1 h2) (VE ha hs hc (by omega) hi h1 h2))
 ·have h1:decide (bs[i].Name=n)=false:=h1
  unfold xO;refine bM (by simp;omega) (cL hi ?_);rw [h1,cond_false,bh (by omega)];exact hr
end
end
end Go.Proofs.Ytipemmgoipbojaa.Ab
set_option maxRecDepth 10000
namespace Go.Proofs.Ytipemmgoipbojaa.Ab
open Go Go.RowKit
noncomputable def MP (a x:aa):Option (aa×Int):=Option.bind (qj x) fun P8=>
 cond (!P8)
 (cond (2 != 0)
 (Option.bind (iR a) fun P7=>
 some (P7,(2:Int)))
 (some (x,0)))
 (cond (0 != 0)
 (Option.bind (iR a) fun xb=>
 some (xb,0))
 (some (x,0)))
theorem EF {α:Type} {L R D:List α} {w:Nat} (h:w≤L.length):(L.take w++R++D).take w=L.take w:=by
 rw [List.append_assoc];exact List.take_left' (by simp;omega)
theorem g60 (c:aq) (e:az):XY c e=some (uy e.Name c):=by
 unfold XY Xm uy;cases (c.State != 1)<;>rfl
theorem g58 (c:av) (e:az):XZ c e=some (iU e.Name c):=rfl
section
variable {a:aa} {ss:List af} {cs:List aq} {bs:List av} {v:Int} {n:ByteArray} {fl:Bool}
variable {k1:Int} {k2:ByteArray} {k3:Int} {k4:Bool} {k5 k6 k7 k8 k9 ka kb kc kd ke kf:Int}
theorem VI (hc:cs.length≤1000) {i:Nat} (hi:i<cs.length) (h1:uy n cs[i]=true) (h2:∀ j (hj:j<i),uy n (cs[j]'(by omega))=false) :
  cu (xQ v ss bs k1 k2 k3 k4 k5 k6 k7 k8 k9 ka kb kc kd ke n kf fl a.b8 a.ae a.ai a.aj fuel) fuel (cs,(i:Int),((i+1:Nat):Int))=MP a ⟨v,ss,cs.filter (fun c=> !uy n c),bs⟩:=by
 refine FO (p:=uy n) (by omega) (fun l=>MP a ⟨v,ss,l,bs⟩) (fun rec L w hL hw=>?_) (fun rec L w r hr hL hw=>?_) hi h1 h2
 ·have q1:¬ ((cs.length:Nat):Int)<(L.length:Int):=by omega
  have q2:(w:Int)≤(L.length:Int):=by omega
  have q3:∀ z:C .aC,(w:Int)≤((L.take w++List.replicate (L.length-w) z++L.drop L.length).length:Int):=fun z=>by simp;omega
  simp only [xQ,q1,decide_false,cond_false,Int.toNat_natCast,Int.natCast_nonneg,q2,q3,Int.le_refl,decide_true,cond_true,EF hw];rfl
 ·have q1:((r:Nat):Int)<(L.length:Int):=by omega
  have q2:((w:Nat):Int)<(L.length:Int):=by omega
  have hw':w<L.length:=by omega
  simp only [xQ,q1,q2,decide_true,cond_true,Int.natCast_nonneg,Int.toNat_natCast,List.getElem?_eq_getElem hr,List.getElem?_eq_getElem hw',Option.bind_some,g60];rw [bh (by omega),bh (by omega)]
theorem LI (ha:gV a) (hs:ss.length≤1000) (hc:cs.length≤1000) (hb:bs.length≤1000) :
  Ok (cu (pz cs (cs.length:Int) v ss bs k1 k2 k3 k4 k5 k6 k7 k8 k9 ka kb kc kd ke n kf fl a.b8 a.ae a.ai a.aj fuel) fuel 0) (fun r=>r=fin a ⟨v,ss,cs.filter (fun c=> !uy n c),bs⟩):=by
 have hl:(cs.filter fun c=> !uy n c).length≤cs.length:=List.length_filter_le _ _;refine fw (p:=uy n) (xs:=cs) (by omega) (fun hn rec=>?_) (fun i hi h1 h2 rec=>?_) (fun rec i hi h1 hr=>?_)
 ·rw [filter_none hn]
  unfold pz
  have e1:¬ ((cs.length:Nat):Int)<(cs.length:Int):=by omega
  simp only [e1,decide_false,cond_false];refine bM (by simp) ?_;exact iE (x:=⟨v,ss,cs,bs⟩) ⟨by dsimp only;omega,by dsimp only;omega,by dsimp only;omega⟩ ha
 ·unfold pz
  refine bM (by simp;omega) (cL hi ?_)
  have e1:(((i:Nat):Int) == -1)=false:=by simp
  simp only [g60,Option.bind_some,h1,cond_true,e1,cond_false];rw [bh (by omega),VI hc hi h1 h2];exact iE ⟨by dsimp only;omega,by dsimp only;omega,by dsimp only;omega⟩ ha
 ·unfold pz
  refine bM (by simp;omega) (cL hi ?_);simp only [g60,Option.bind_some,h1,cond_false];rw [bh (by omega)];exact hr
theorem VH (hc:bs.length≤1000) {i:Nat} (hi:i<bs.length) (h1:iU n bs[i]=true) (h2:∀ j (hj:j<i),iU n (bs[j]'(by omega))=false) :
  cu (xP v ss cs k1 k2 k3 k4 k5 k6 k7 k8 k9 ka kb kc kd ke n kf fl a.b8 a.ae a.ai a.aj fuel) fuel (bs,(i:Int),((i+1:Nat):Int))=cu (pz cs (cs.length:Int) v ss (bs.filter (fun c=> !iU n c)) k1 k2 k3 k4 k5 k6 k7 k8 k9 ka kb kc kd ke n kf fl a.b8 a.ae a.ai a.aj fuel) fuel 0:=by
 refine FO (p:=iU n) (by omega) (fun l=>cu (pz cs (cs.length:Int) v ss l k1 k2 k3 k4 k5 k6 k7 k8 k9 ka kb kc kd ke n kf fl a.b8 a.ae a.ai a.aj fuel) fuel 0) (fun rec L w hL hw=>?_) (fun rec L w r hr hL hw=>?_) hi h1 h2
 ·have q1:¬ ((bs.length:Nat):Int)<(L.length:Int):=by omega
  have q2:(w:Int)≤(L.length:Int):=by omega
  have q3:∀ z:C .ay,(w:Int)≤((L.take w++List.replicate (L.length-w) z++L.drop L.length).length:Int):=fun z=>by simp;omega
  simp only [xP,q1,decide_false,cond_false,Int.toNat_natCast,Int.natCast_nonneg,q2,q3,Int.le_refl,decide_true,cond_true,EF hw]
 ·have q1:((r:Nat):Int)<(L.length:Int):=by omega
  have q2:((w:Nat):Int)<(L.length:Int):=by omega
  have hw':w<L.length:=by omega
  simp only [xP,q1,q2,decide_true,cond_true,Int.natCast_nonneg,Int.toNat_natCast,List.getElem?_eq_getElem hr,List.getElem?_eq_getElem hw',Option.bind_some,g58];rw [bh (by omega),bh (by omega)]
theorem Vg (ha:gV a) (hs:ss.length≤1000) (hc:cs.length≤1000) (hb:bs.length≤1000) :
  Ok (cu (xR bs (bs.length:Int) v ss cs k1 k2 k3 k4 k5 k6 k7 k8 k9 ka kb kc kd ke n kf fl a.b8 a.ae a.ai a.aj fuel) fuel 0) (fun r=>r=fin a ⟨v,ss,cs.filter (fun c=> !uy n c),bs.filter (fun c=> !iU n c)⟩):=by
 have hl:(bs.filter fun c=> !iU n c).length≤bs.length:=List.length_filter_le _ _;refine fw (p:=iU n) (xs:=bs) (by omega) (fun hn rec=>?_) (fun i hi h1 h2 rec=>?_) (fun rec i hi h1 hr=>?_)
 ·rw [filter_none hn]
  unfold xR
  have e1:¬ ((bs.length:Nat):Int)<(bs.length:Int):=by omega
  simp only [e1,decide_false,cond_false];refine bM (by simp) ?_;exact LI ha hs hc hb
 ·unfold xR
  refine bM (by simp;omega) (cL hi ?_)
  have e1:(((i:Nat):Int) == -1)=false:=by simp
  simp only [g58,Option.bind_some,h1,cond_true,e1,cond_false];rw [bh (by omega),VH hb hi h1 h2];exact LI ha hs hc (Nat.le_trans hl hb)
 ·unfold xR
  refine bM (by simp;omega) (cL hi ?_);simp only [g58,Option.bind_some,h1,cond_false];rw [bh (by omega)];exact hr
theorem Vh (ha:gV a) (hs:ss.length≤1000) (hc:cs.length≤1000) (hb:bs.length≤1000) :
  Ok (cu (xS n (bs.length:Int) v ss cs bs k1 k2 k3 k4 k5 k6 k7 k8 k9 ka kb kc kd ke n kf fl a.b8 a.ae a.ai a.aj fuel) fuel 0) (fun r=>r=cond (decide (ed (iU n) bs 0<0)) (a,3) (fin a ⟨v,ss,cs.filter (fun c=> !uy n c),bs.filter (fun c=> !iU n c)⟩)):=by
 refine fw (p:=iU n) (xs:=bs) (by omega) (fun hn rec=>?_) (fun i hi h1 h2 rec=>?_) (fun rec i hi h1 hr=>?_)
 ·rw [E7 hn]
  unfold xS
  have e1:¬ ((bs.length:Nat):Int)<(bs.length:Int):=by omega
  simp only [e1,decide_false,cond_false];rw [show (⟨a.b8,a.ae,a.ai,a.aj⟩:aa)=a from rfl,g24 ha.1 ha.2.1 ha.2.2];exact aJ rfl
 ·rw [pos_eq hi h1 h2]
  have e0:¬ ((i:Nat):Int)<0:=by omega
  unfold xS;refine bM (by simp;omega) (cL hi ?_);refine bM h1 (bM (by simp) (bM (by simp;omega) ?_));simp only [e0,decide_false,cond_false];exact Vg ha hs hc hb
 ·have h1:decide (bs[i].Name=n)=false:=h1
  unfold xS;refine bM (by simp;omega) (cL hi ?_);rw [h1,cond_false,bh (by omega)];exact hr
end
end Go.Proofs.Ytipemmgoipbojaa.Ab
set_option maxRecDepth 10000
namespace Go.Proofs.Ytipemmgoipbojaa.Ab
open Go Go.RowKit
def JM (cs:List aq) (bs:List av):ByteArray×Int:=bs.foldl (nC cs) (⟨#[]⟩,-1)
section
variable {a:aa} {ss:List af} {cs:List aq} {bs:List av} {v:Int}
theorem abY {j:Nat} (hj:j<bs.length) (hc:cs.length≤1048576) (hb:bs.length≤1048576) {t:ByteArray×Int} {de:AW→Option (aa×Int)} {gN:Gj→Option (aa×Int)} (hd:bs[j].kJ=false) :
  cu (K7 cs t.1 t.2 ((j:Nat):Int) (cs.length:Int) bs[j].Name fuel de gN) fuel (0,0)=gN ((nC cs t bs[j]).1,(nC cs t bs[j]).2,((j+1:Nat):Int)):=by
 refine lW (st:=fun i=>(((cN (uy bs[j].Name) cs i:Nat):Int),((i:Nat):Int))) (val:=fun _=>gN ((nC cs t bs[j]).1,(nC cs t bs[j]).2,((j+1:Nat):Int))) cs.length (fun rec=>?_) (fun rec i hi hr=>?_) fuel 0 (Nat.zero_le _) (by have:=cU;omega)
 ·simp only [K7,Int.lt_irrefl,decide_false,cond_false,bh (show j<4611686018427387904 by omega),nC,cI,hd]
  by_cases h0:t.2<0
  ·simp only [h0,decide_true,cond_true]
  ·by_cases hlt:((cN (uy bs[j].Name) cs cs.length:Nat):Int)<t.2<;>simp only [h0,hlt,decide_true,decide_false,cond_true,cond_false]
 ·have q1:(i:Int)<(cs.length:Int):=by omega
  have e:=HY (p:=uy bs[j].Name) hi;have l:=TR (uy bs[j].Name) cs i;have w1:=bh (show cN (uy bs[j].Name) cs i<4611686018427387904 by omega)
  have w0:IntKind.i64.wrap (((cN (uy bs[j].Name) cs i:Nat):Int)+0)=((cN (uy bs[j].Name) cs i:Nat):Int):=by rw [cH (by omega) (by omega)];omega
  simp only [K7,q1,decide_true,cond_true,Int.natCast_nonneg,get_cast hi,Option.bind_some,G84,Xi];rw [bh (show i<4611686018427387904 by omega),← hr];unfold uy at e w0 w1 ⊢;cases hs:(cs[i].State != 1)<;>rw [hs] at e
  ·simp only [cond_false,Bool.false_and,Option.bind_some] at e ⊢
   rw [w0,e]
  ·simp only [cond_true,Bool.true_and] at e ⊢
   cases hdd:decide (cs[i].bw=bs[j].Name)<;>rw [hdd] at e<;>simp only [cond_true,cond_false,Option.bind_some] at e ⊢
   ·rw [w0,e]
   ·rw [w1,e]
theorem abZ {i:Nat} (hi:i<cs.length) (hc:cs.length≤1048576) (hb:bs.length≤1048576) {de:AW→Option (aa×Int)} :
  cu (K8 cs i ((i:Nat):Int) bs (bs.length:Int) v fuel de) fuel (((⟨#[]⟩:ByteArray),(-1),0))=cond (decide ((JM cs bs).2≥0)) (de (((i+1:Nat):Int),cs.set i ⟨cs[i].ax,cs[i].Number,v,cs[i].aB,2,cs[i].Ending,(JM cs bs).1⟩)) (de (((i+1:Nat):Int),cs)):=by
 refine Ao (f:=nC cs) (st:=fun j (t:ByteArray×Int)=>(t.1,t.2,((j:Nat):Int))) (fun t=>cond (decide (t.2≥0)) (de (((i+1:Nat):Int),cs.set i ⟨cs[i].ax,cs[i].Number,v,cs[i].aB,2,cs[i].Ending,t.1⟩)) (de (((i+1:Nat):Int),cs))) hb (fun rec t=>?_) (fun rec j hj t=>?_) (⟨#[]⟩,-1)
 ·simp only [K8,Int.lt_irrefl,decide_false,cond_false,List.getElem?_eq_getElem hi,Option.bind_some,List.getElem?_set_self hi,List.set_set,List.length_set,bh (show i<4611686018427387904 by omega)]
 ·have q1:(j:Int)<(bs.length:Int):=by omega
  simp only [K8,q1,decide_true,cond_true,Int.natCast_nonneg,get_cast hj,Option.bind_some]
  cases hd:bs[j].kJ with
  | true=>
   rw [bh (by omega),cond_true]
   have:nC cs t bs[j]=t:=by unfold nC;rw [hd];rfl
   rw [this]
  | false=>
   rw [cond_false];exact abY hj hc hb hd
def UA (bs:List av) (v:Int) (cs:List aq) (i:Nat):List aq:=match cs[i]? with
 | some c=>cond (c.State != 1) cs (cond (decide ((JM cs bs).2≥0)) (cs.set i ⟨c.ax,c.Number,v,c.aB,2,c.Ending,(JM cs bs).1⟩) cs)
 | none=>cs
def zD (bs:List av) (v:Int) (cs:List aq):Nat→List aq
 | 0=>cs
 | i+1=>UA bs v (zD bs v cs i) i
theorem PF {i:Nat}:(UA bs v cs i).length=cs.length:=by
 unfold UA;split
 ·rename_i c _
  cases c.State != 1<;>cases decide ((JM cs bs).2≥0)<;>simp
 ·rfl
theorem zC:∀ i,(zD bs v cs i).length=cs.length
 | 0=>rfl
 | i+1=>by unfold zD;rw [PF,zC i]
theorem aaL (ha:gV a) (hs:ss.length≤1000) (hc:cs.length≤1000) (hb:bs.length≤1000) :
  Ok (cu (BJ (cs.length:Int) v ss bs a.b8 a.ae a.ai a.aj fuel) fuel (0,cs)) (fun r=>r=fin a ⟨v,ss,zD bs v cs cs.length,bs⟩):=by
 have:=lW (jd:=BJ (cs.length:Int) v ss bs a.b8 a.ae a.ai a.aj fuel) (st:=fun i=>(((i:Nat):Int),zD bs v cs i)) (val:=fun _=>MP a ⟨v,ss,zD bs v cs cs.length,bs⟩) cs.length (fun rec=>by
  simp only [BJ,Int.lt_irrefl,decide_false,cond_false]
  rfl) (fun rec i hi hr=>by
  have hl:(zD bs v cs i).length=cs.length:=zC i
  have eR:i<(zD bs v cs i).length:=by omega
  have q0:(i:Int)<(cs.length:Int):=by omega
  have q1:(i:Int)<((zD bs v cs i).length:Int):=by omega
  have hr:rec (((i+1:Nat):Int),UA bs v (zD bs v cs i) i)=MP a ⟨v,ss,zD bs v cs cs.length,bs⟩:=hr;unfold UA at hr;rw [List.getElem?_eq_getElem eR] at hr;simp only at hr;simp only [BJ,q0,q1,decide_true,cond_true,Int.natCast_nonneg,List.getElem?_eq_getElem eR,Option.bind_some,Int.toNat_natCast,abZ eR (show (zD bs v cs i).length≤1048576 by omega) (show bs.length≤1048576 by omega),bh (show i<4611686018427387904 by omega)]
  cases hs:((zD bs v cs i)[i].State != 1) with
  | true=>rw [hs] at hr;exact hr
  | false=>
   rw [hs] at hr
   cases hd:decide ((JM (zD bs v cs i) bs).2≥0) with
   | false=>rw [hd] at hr;exact hr
   | true=>rw [hd] at hr;exact hr) fuel 0 (Nat.zero_le _) (by have:=cU;omega)
 have e:cu (BJ (cs.length:Int) v ss bs a.b8 a.ae a.ai a.aj fuel) fuel (0,cs)=MP a ⟨v,ss,zD bs v cs cs.length,bs⟩:=this;rw [e];exact iE ⟨by dsimp only;omega,by dsimp only;rw [zC];omega,by dsimp only;omega⟩ ha
theorem SC (ha:gV a) (hs:ss.length≤1000) (hc:cs.length≤1000) (hb:bs.length≤1000) :
  Ok (cu (u0 (cs.length:Int) v ss bs a.b8 a.ae a.ai a.aj fuel) fuel (0,cs)) (fun r=>r=fin a ⟨v,ss,zD bs v (cs.map (w9 v)) (cs.map (w9 v)).length,bs⟩):=by
 have:=lW (jd:=u0 (cs.length:Int) v ss bs a.b8 a.ae a.ai a.aj fuel) (st:=fun i=>(((i:Nat):Int),ml (w9 v) cs i)) (val:=fun _=>cu (BJ ((cs.map (w9 v)).length:Int) v ss bs a.b8 a.ae a.ai a.aj fuel) fuel (0,cs.map (w9 v))) cs.length (fun rec=>by
  simp only [u0,Int.lt_irrefl,decide_false,cond_false,Vo]) (fun rec i hi hr=>by
  have hl:(ml (w9 v) cs i).length=cs.length:=Vn (by omega)
  have eR:i<(ml (w9 v) cs i).length:=by omega
  have q0:(i:Int)<(cs.length:Int):=by omega
  have q1:(i:Int)<((ml (w9 v) cs i).length:Int):=by omega
  simp only [u0,q0,q1,decide_true,cond_true,Int.natCast_nonneg,Int.toNat_natCast,LV hi,Option.bind_some,List.getElem?_set_self eR,List.set_set,bh (show i<4611686018427387904 by omega)]
  cases hs:(cs[i].State==2) with
  | true=>
   have e:ml (w9 v) cs (i+1)=(ml (w9 v) cs i).set i ⟨cs[i].ax,cs[i].Number,v,cs[i].aB,3,cs[i].Ending,cs[i].bw⟩:=by
    rw [←LU hi];unfold w9;rw [hs];rfl
   simp only [e] at hr;exact hr
  | false=>
   have e:ml (w9 v) cs (i+1)=ml (w9 v) cs i:=(Qu hi (by unfold w9;rw [hs];rfl)).symm;simp only [e] at hr
   exact hr) fuel 0 (Nat.zero_le _) (by have:=cU;omega)
 have e:cu (u0 (cs.length:Int) v ss bs a.b8 a.ae a.ai a.aj fuel) fuel (0,cs)=_:=this;rw [e];exact aaL ha hs (by simp;omega) hb
theorem abX (hc:cs.length≤1000) {i:Nat} (hi:i<cs.length) (h1:cs[i].Ending=true) (h2:∀ j (hj:j<i),(cs[j]'(by omega)).Ending=false) :
  cu (IG v ss bs a.b8 a.ae a.ai a.aj fuel) fuel (cs,(i:Int),((i+1:Nat):Int))=cu (u0 ((cs.filter fun c=> !c.Ending).length:Int) v ss bs a.b8 a.ae a.ai a.aj fuel) fuel (0,cs.filter fun c=> !c.Ending):=by
 refine FO (p:=fun c:aq=>c.Ending) (by omega) (fun l=>cu (u0 (l.length:Int) v ss bs a.b8 a.ae a.ai a.aj fuel) fuel (0,l)) (fun rec L w hL hw=>?_) (fun rec L w r hr hL hw=>?_) hi h1 h2
 ·have q1:¬ ((cs.length:Nat):Int)<(L.length:Int):=by omega
  have q2:(w:Int)≤(L.length:Int):=by omega
  have q3:∀ z:C .aC,(w:Int)≤((L.take w++List.replicate (L.length-w) z++L.drop L.length).length:Int):=fun z=>by simp;omega
  simp only [IG,q1,decide_false,cond_false,Int.toNat_natCast,Int.natCast_nonneg,q2,q3,Int.le_refl,decide_true,cond_true,EF hw]
 ·have q1:((r:Nat):Int)<(L.length:Int):=by omega
  have q2:((w:Nat):Int)<(L.length:Int):=by omega
  have hw':w<L.length:=by omega
  simp only [IG,q1,q2,decide_true,cond_true,Int.natCast_nonneg,Int.toNat_natCast,List.getElem?_eq_getElem hr,List.getElem?_eq_getElem hw',Option.bind_some,Dt,Dr];rw [bh (by omega),bh (by omega)]
theorem aaM (ha:gV a) (hs:ss.length≤1000) (hc:cs.length≤1000) (hb:bs.length≤1000) :
  Ok (cu (II cs (cs.length:Int) v ss bs a.b8 a.ae a.ai a.aj fuel) fuel 0) (fun r=>r=fin a ⟨v,ss,zD bs v ((cs.filter fun c=> !c.Ending).map (w9 v)) ((cs.filter fun c=> !c.Ending).map (w9 v)).length,bs⟩):=by
 have hl:(cs.filter fun c=> !c.Ending).length≤cs.length:=List.length_filter_le _ _;refine fw (p:=fun c:aq=>c.Ending) (xs:=cs) (by omega) (fun hn rec=>?_) (fun i hi h1 h2 rec=>?_) (fun rec i hi h1 hr=>?_)
 ·rw [filter_none (p:=fun c:aq=>c.Ending) hn]
  unfold II
  have e1:¬ ((cs.length:Nat):Int)<(cs.length:Int):=by omega
  simp only [e1,decide_false,cond_false];refine bM (by simp) ?_;exact SC ha hs hc hb
 ·unfold II
  refine bM (by simp;omega) (cL hi ?_);have lZ:cs[i].Ending=true:=h1
  have e1:(((i:Nat):Int) == -1)=false:=by simp
  simp only [Dt,Dr,Option.bind_some,lZ,cond_true,e1,cond_false];rw [bh (by omega),abX hc hi h1 h2];exact SC ha hs (Nat.le_trans hl hc) hb
 ·have lZ:cs[i].Ending=false:=h1
  unfold II;refine bM (by simp;omega) (cL hi ?_);simp only [Dt,Dr,Option.bind_some,lZ,cond_false];rw [bh (by omega)];exact hr
end
end Go.Proofs.Ytipemmgoipbojaa.Ab
set_option maxRecDepth 10000
namespace Go.Proofs.Ytipemmgoipbojaa.Ab
open Go Go.RowKit
def wB (cs:List aq):Prop:=∀ c,c∈cs→c.State=1→c.bw=⟨#[]⟩
theorem cB_cI {cs:List aq} (h:wB cs) {n:ByteArray} (hn:n≠⟨#[]⟩):cB n cs=cI n cs:=by
 unfold cB cI cN
 congr 1
 refine List.countP_congr fun c hc=>?_
 have hc:=List.mem_of_mem_take hc;unfold AF uy
 by_cases h1:c.State=1
 ·have:=h c hc h1
  have h2:¬ c.bw=n:=fun e=>hn (e▸this)
  simp [h1,h2]
 ·simp [h1]
def Rl (t s:ByteArray×Int):Prop:=t.1=s.1∧(s.2<0↔t.1=⟨#[]⟩)∧(t.1≠⟨#[]⟩→t.2=s.2)
theorem PY {cs:List aq} (h:wB cs) {be:av} (hn:be.Name≠⟨#[]⟩) {t s:ByteArray×Int} (hr:Rl t s):Rl (py cs t be) (nC cs s be):=by
 obtain ⟨t1,t2⟩:=t;obtain ⟨s1,s2⟩:=s;obtain ⟨e1,e2,e3⟩:=hr;simp only at e1 e2 e3;subst e1;have hc:=cB_cI h hn
 have h0:¬ cI be.Name cs<0:=by unfold cI;omega
 unfold py nC;rw [hc];cases be.kJ
 ·simp only [Bool.not_false,cond_true,cond_false]
  by_cases ht:t1=⟨#[]⟩
  ·have hs:s2<0:=e2.2 ht
   simp only [ht,hs,decide_true,cond_true];exact ⟨rfl,⟨fun h=>absurd h h0,fun h=>absurd h hn⟩,fun _=>rfl⟩
  ·have hs:¬ s2<0:=fun h=>ht (e2.1 h)
   have e3:=e3 ht;subst e3;simp only [ht,hs,decide_false,cond_false]
   by_cases hl:cI be.Name cs<t2
   ·simp only [hl,decide_true,cond_true]
    exact ⟨rfl,⟨fun h=>absurd h h0,fun h=>absurd h hn⟩,fun _=>rfl⟩
   ·simp only [hl,decide_false,cond_false]
    exact ⟨rfl,⟨fun h=>absurd h hs,fun h=>absurd h ht⟩,fun _=>rfl⟩
 ·simp only [Bool.not_true,cond_true,cond_false]
  exact ⟨rfl,e2,e3⟩
theorem GD {cs:List aq} (h:wB cs):∀ {bs:List av},(∀ b∈bs,b.Name≠⟨#[]⟩)→∀ {t s:ByteArray×Int},Rl t s→Rl (bs.foldl (py cs) t) (bs.foldl (nC cs) s)
 | [],_,_,_,hr=>hr
 | b::bs,hb,t,s,hr=>GD h (bs:=bs) (fun x hx=>hb x (by simp [hx])) (PY h (hb b (by simp)) hr)
theorem Yt {cs:List aq} {bs:List av} (h:wB cs) (hb:∀ b∈bs,b.Name≠⟨#[]⟩) {v:Int} {i:Nat}:PH bs v cs i=UA bs v cs i:=by
 obtain ⟨r1,r2,r3⟩:=GD h hb (t:=(⟨#[]⟩,0)) (s:=(⟨#[]⟩,-1)) ⟨rfl,by simp,fun h=>absurd rfl h⟩;unfold PH UA
 cases cs[i]? with
 | none=>rfl
 | some c=>
  simp only;have e1:Pg cs bs=(JM cs bs).1:=r1;have e2:(JM cs bs).2<0↔Pg cs bs=⟨#[]⟩:=r2;have e3:(c.State != 1) = !(c.State==1):=rfl;rw [e3]
  cases (c.State==1) with
  | false=>rfl
  | true=>
   simp only [Bool.not_true,cond_true,cond_false]
   by_cases hl:Pg cs bs=⟨#[]⟩
   ·have h1:¬ (JM cs bs).2≥0:=by have:=e2.2 hl;omega
    simp only [hl,h1,decide_true,decide_false,Bool.not_true,cond_false]
   ·have h1:(JM cs bs).2≥0:=by
     rcases Int.lt_or_le (JM cs bs).2 0 with h' | h'
     ·exact absurd (e2.1 h') hl
     ·exact h'
    have hl':¬ (JM cs bs).1=⟨#[]⟩:=e1▸hl;simp only [e1,hl',h1,decide_true,decide_false,Bool.not_false,cond_true]
theorem Yr {cs:List aq} {bs:List av} (h:wB cs) {v:Int} {i:Nat}:wB (PH bs v cs i):=by
 unfold PH;split
 ·rename_i c _
  cases c.State==1<;>cases decide (Pg cs bs=⟨#[]⟩)<;>simp only [Bool.not_true,Bool.not_false,cond_true,cond_false]<;>try exact h
  intro d hd h1
  rcases List.mem_or_eq_of_mem_set hd with hd | rfl
  ·exact h d hd h1
  ·simp at h1
 ·exact h
theorem RY {cs:List aq} {bs:List av} (h:wB cs) {v:Int}:∀ i,wB (zF bs v cs i)
 | 0=>h
 | i+1=>Yr (RY h i)
theorem RZ {cs:List aq} {bs:List av} (h:wB cs) (hb:∀ b∈bs,b.Name≠⟨#[]⟩) {v:Int}:∀ i,zD bs v cs i=zF bs v cs i
 | 0=>rfl
 | i+1=>by
  unfold zD zF;rw [RZ h hb i];exact (Yt (RY h i) hb).symm
theorem lf_wB {cs:List aq} (h:wB cs) {v:Int} {i:Nat}:wB (lf v cs i):=by
 intro c hc h1;unfold lf at hc;obtain ⟨d,hd,rfl⟩:=List.mem_map.1 hc;have hd:=List.mem_of_mem_take (List.mem_filter.1 hd).1;unfold w9 at h1 ⊢
 cases hs:(d.State==2) with
 | true=>rw [hs] at h1;simp at h1
 | false=>rw [hs] at h1;exact h d hd h1
theorem aaU {s:ByteArray} (h:En s=true):s≠⟨#[]⟩:=by
 intro e;subst e;have h0:((⟨#[]⟩:ByteArray).size:Int)=0:=rfl;simp only [En,eZ,h0] at h;simp at h
theorem xC {b:aa} (h:vB b=true):∀ x∈b.aj,x.Name≠⟨#[]⟩:=by
 intro x hx;obtain ⟨i,hi,rfl⟩:=List.getElem_of_mem hx;simp only [vB,Bool.and_eq_true] at h;have:=oH h.2.2.2.2.2.1 hi;rw [rU hi,Bool.and_eq_true] at this;exact aaU this.1
theorem RW {b:aa} (h:vB b=true):wB b.ai:=by
 intro c hc h1;obtain ⟨i,hi,rfl⟩:=List.getElem_of_mem hc;simp only [vB,Bool.and_eq_true] at h;have:=oH h.2.2.2.2.2.2 hi;rw [rU hi,Bool.and_eq_true] at this;have:=this.1;unfold M7 at this;split at this
 ·rw [h1] at this
  simp only [Bool.and_eq_true,beq_self_eq_true,cond_true,decide_eq_true_eq] at this;exact this.2.2.2.2.2
 ·cases this
theorem Kg {b:aa} (h:vB b=true):AG (fun s:af=>s.Name) b.ae∧AG (fun s:av=>s.Name) b.aj:=by
 simp only [vB,Bool.and_eq_true] at h;exact ⟨H0 h.2.2.2.2.1,H0 h.2.2.2.2.2.1⟩
def ZH (e:az):af:=⟨e.bO,e.bg,e.bV,e.bL,e.cm,e.bW,e.bS,e.cz,e.cw,e.bK,e.bT,e.bU,e.bX⟩
def xH (b:aa) (n:ByteArray) (v:Int):aa×Int:=cond (decide (ed (iU n) b.aj 0<0)) (b,3) (⟨v,b.ae,b.ai.filter (fun c=> !AF n c),b.aj.take (ed (iU n) b.aj 0).toNat++b.aj.drop ((ed (iU n) b.aj 0).toNat+1)⟩,0)
def vN (b:aa):Int:=IntKind.i64.wrap (b.b8+1)
def lE (b:aa) (e:az):aa×Int:=
 cond (e.Kind==1) (⟨vN b,b.ae,Gn b.aj (vN b) b.ai,b.aj⟩,0)
 (cond (e.Kind==2) (⟨vN b,px (ZH e) (vN b) b.ae,b.ai,b.aj⟩,0)
 (cond (e.Kind==3) (tz b e.Name e.Number (vN b))
 (cond (e.Kind==4) (xH b e.Name (vN b))
 (cond (e.Kind==5) (⟨vN b,b.ae,b.ai,lQ e.Name e.jx b.aj⟩,0)
 (cond (e.Kind==6) (tj b e.Name e.Number (vN b))
 (b,4))))))
def QX (n:ByteArray) (cs:List aq) (i:Nat):List aq:=(cs.take i).filter fun c=> !AF n c
theorem MO {n:ByteArray} {cs:List aq} {i:Nat} (h:i<cs.length):QX n cs (i+1)=cond (!AF n cs[i]) (QX n cs i++[cs[i]]) (QX n cs i):=by
 unfold QX;rw [List.take_add_one,List.getElem?_eq_getElem h,List.filter_append];cases hp:AF n cs[i]<;>simp [hp]
theorem Wu (n:ByteArray) (cs:List aq) (i:Nat):(QX n cs i).length≤i:=by
 unfold QX;have:=List.length_filter_le (fun c:aq=> !AF n c) (cs.take i);simp at this ⊢;omega
theorem lp28 {v:Int} {ss:List af} {cs:List aq} {bs:List av} {n:ByteArray} (hc:cs.length≤1000):cu (BO v ss cs bs n fuel) fuel ([],0)=some ((⟨v,ss,cs.filter (fun c=> !AF n c),bs⟩:aa),0):=by
 refine lW (st:=fun i=>(QX n cs i,((i:Nat):Int))) (val:=fun _=>some ((⟨v,ss,cs.filter (fun c=> !AF n c),bs⟩:aa),0)) cs.length (fun rec=>?_) (fun rec i hi hr=>?_) fuel 0 (Nat.zero_le _) (by have:=cU;omega)
 ·simp only [BO,Int.lt_irrefl,decide_false,cond_false,QX,List.take_length]
 ·have q1:(i:Int)<(cs.length:Int):=by omega
  have l:=Wu n cs i
  have q2:∀ c:aq,((QX n cs i).length+([c]:List (C .aC)).length)*72≤140737488355328:=fun c=>by simp only [List.length_cons,List.length_nil];omega
  simp only [MO hi] at hr;simp only [BO,q1,decide_true,cond_true,Int.natCast_nonneg,get_cast hi,Option.bind_some,q2,bh (show i<4611686018427387904 by omega)];have hb:AF n cs[i]=decide (cs[i].bw=n):=rfl;rw [hb] at hr;cases hd:decide (cs[i].bw=n)<;>rw [hd] at hr<;>exact hr
theorem ok28 {b:aa} {e:az} (hs:b.ae.length≤1000) (hc:b.ai.length≤1000) (hb:b.aj.length≤1000):Ok (G28 b e) (fun r=>r=lE b e):=by
 unfold G28 RJ lE
 cases e.Kind==1 with
 | true=>
  rw [cond_true,cond_true,g64 (by omega) (by omega)];exact aJ rfl
 | false=>
 rw [cond_false,cond_false]
 cases e.Kind==2 with
 | true=>
  rw [cond_true,cond_true];refine cV (ok65 hs) ?_
  rintro r rfl
  exact aJ rfl
 | false=>
 rw [cond_false,cond_false]
 cases e.Kind==3 with
 | true=>
  rw [cond_true,cond_true,g66 (by omega),Option.bind_some]
  rcases eQ (vY e.Name e.Number) b.ai with ⟨q,hn⟩ | ⟨i,hi,q,h1,h2⟩
  ·rw [q,CP hn];exact aJ rfl
  ·rw [qZ hi h1 h2,q]
   have e0:¬ ((i:Nat):Int)<0:=by omega
   have e1:(i:Int)<(b.ai.length:Int):=by omega
   simp only [e0,e1,decide_false,cond_false,decide_true,cond_true,Int.natCast_nonneg,Int.toNat_natCast,List.getElem?_eq_getElem hi,Option.bind_some,List.getElem?_set_self hi,List.set_set,List.length_set]
   by_cases s3:b.ai[i].State=3
   ·have q1:(b.ai[i].State != 3)=false:=by simp [s3]
    have q2:(b.ai[i].State==3||b.ai[i].State==2)=true:=by simp [s3]
    rw [q1,q2];exact aJ rfl
   ·have q1:(b.ai[i].State != 3)=true:=by simp [s3]
    rw [q1,cond_true]
    by_cases s2:b.ai[i].State=2
    ·have q3:(b.ai[i].State != 2)=false:=by simp [s2]
     have q2:(b.ai[i].State==3||b.ai[i].State==2)=true:=by simp [s2]
     rw [q3,q2];exact aJ rfl
    ·have q3:(b.ai[i].State != 2)=true:=by simp [s2]
     have q2:(b.ai[i].State==3||b.ai[i].State==2)=false:=by simp [s3,s2]
     rw [q3,q2];exact aJ rfl
 | false=>
 rw [cond_false,cond_false]
 cases e.Kind==4 with
 | true=>
  rw [cond_true,cond_true,g67 (by omega),Option.bind_some];unfold xH;have l:=pK (iU e.Name) b.aj;generalize ed (iU e.Name) b.aj 0=p at l
  by_cases h:p<0
  ·simp only [h,decide_true,cond_true];exact aJ rfl
  ·obtain ⟨i,rfl⟩:∃ i:Nat,p=(i:Int):=⟨p.toNat,by omega⟩
   have w:=bh (show i<4611686018427387904 by omega);simp only [h,decide_false,cond_false,w,Int.toNat_natCast]
   iterate 8 (refine bM (by first | (simp;done) | (simp;omega)) ?_)
   simp only [List.nil_append,Int.toNat_zero,List.drop_zero,List.take_length];rw [lp28 hc];refine aJ ?_;simp [vN,List.take_of_length_le]
 | false=>
 rw [cond_false,cond_false]
 cases e.Kind==5 with
 | true=>
  rw [cond_true,cond_true];refine cV (ok68 hb) ?_
  rintro r rfl
  exact aJ rfl
 | false=>
 rw [cond_false,cond_false]
 cases e.Kind==6 with
 | true=>
  rw [cond_true,cond_true,XP (by omega),Option.bind_some]
  rcases eQ (kD e.Name) b.ae with ⟨q,hn⟩ | ⟨i,hi,q,h1,h2⟩
  ·rw [q,Ci hn];exact aJ rfl
  ·rw [vr hi h1 h2,q]
   have e0:¬ ((i:Nat):Int)<0:=by omega
   have e1:(i:Int)<(b.ae.length:Int):=by omega
   simp only [e0,e1,decide_false,cond_false,decide_true,cond_true,Int.natCast_nonneg,Int.toNat_natCast,List.getElem?_eq_getElem hi,Option.bind_some,List.getElem?_set_self hi,List.set_set,List.length_set];cases (b.ae[i].dA==0)<;>exact aJ rfl
 | false=>exact aJ rfl
end Go.Proofs.Ytipemmgoipbojaa.Ab
set_option maxRecDepth 10000
namespace Go.Proofs.Ytipemmgoipbojaa.Ab
open Go Go.RowKit
theorem FI {α:Type} (p:α→Bool) (xs:List α):(xs.filter p).length≤xs.length:=List.length_filter_le _ _
theorem Kx {b:aa} {e:az} (hs:b.ae.length≤1000) (hc:b.ai.length≤1000) (hb:b.aj.length≤1000):(lE b e).1.ae.length≤1001∧(lE b e).1.ai.length≤1000∧(lE b e).1.aj.length≤1001:=by
 unfold lE
 cases e.Kind==1 with
 | true=>
  simp only [cond_true];refine ⟨by omega,?_,by omega⟩;unfold Gn;rw [uc];have:=Mf (vN b) b.ai b.ai.length;omega
 | false=>
 simp only [cond_false]
 cases e.Kind==2 with
 | true=>
  simp only [cond_true];have:=BV (nm:=fun s:af=>s.Name) (n:=(ZH e).Name) (old:=fun s=>po (ZH e) (vN b) s.Next) (new:=po (ZH e) (vN b) 1) (xs:=b.ae);refine ⟨?_,by omega,by omega⟩;unfold px;omega
 | false=>
 simp only [cond_false]
 cases e.Kind==3 with
 | true=>
  simp only [cond_true];unfold tz;split
  ·rename_i c _
   cases decide (ed (vY e.Name e.Number) b.ai 0<0)<;>cases (c.State==3||c.State==2)<;>simp<;>omega
  ·simp;omega
 | false=>
 simp only [cond_false]
 cases e.Kind==4 with
 | true=>
  simp only [cond_true];unfold xH;have:=FI (fun c=> !AF e.Name c) b.ai;cases decide (ed (iU e.Name) b.aj 0<0)<;>simp only [cond_true,cond_false]<;>refine ⟨by omega,by omega,?_⟩<;>(try simp)<;>omega
 | false=>
 simp only [cond_false]
 cases e.Kind==5 with
 | true=>
  simp only [cond_true];have:=BV (nm:=fun s:av=>s.Name) (n:=e.Name) (old:=fun _=>⟨e.Name,e.jx⟩) (new:=⟨e.Name,e.jx⟩) (xs:=b.aj);refine ⟨by omega,by omega,?_⟩;unfold lQ;omega
 | false=>
 simp only [cond_false]
 cases e.Kind==6 with
 | true=>
  simp only [cond_true];unfold tj;split
  ·rename_i c _
   cases decide (ed (kD e.Name) b.ae 0<0)<;>cases (c.dA==0)<;>simp<;>omega
  ·simp;omega
 | false=>simp;omega
def FL:aa:=⟨0,[],[],[]⟩
def res (b:aa) (e:az):aa×Int:=cond (!vB b) (FL,1) (cond (decide (b.b8≥1000000)) (cond (!eZ e.Kind 1 6) (b,4) (b,7)) (vR b (lE b e)))
theorem g8 {b:aa} {e:az} (hb:gV b):G8 b e=some (res b e):=by
 obtain ⟨h1,h2,h3⟩:=hb
 have:Ok (G8 b e) (fun r=>r=res b e):=by
  unfold G8 G8n res;rw [Er h1 h2 h3,Option.bind_some]
  refine mX (fun h=>?_) fun h=>?_
  ·rw [h];exact aJ rfl
  obtain ⟨v1,v2,v3⟩:=mm h;rw [h,Wt h1 h2 h3];simp only [Option.bind_some,Bool.not_true,cond_false]
  refine dF (fun h=>?_) fun h=>?_
  ·simp only [h,decide_true,cond_true,QS,Option.bind_some]
   cases eZ e.Kind 1 6<;>exact aJ rfl
  simp only [h,decide_false,cond_false];refine nX (cV (ok28 (by omega) (by omega) (by omega)) ?_)
  rintro r rfl
  obtain ⟨l1,l2,l3⟩:=Kx (b:=b) (e:=e) (by omega) (by omega) (by omega);refine nX ?_;rw [Er (by omega) (by omega) (by omega),Wt (by omega) (by omega) (by omega)];simp only [Option.bind_some];unfold vR fin
  cases hc:((lE b e).2==0) with
  | false=>
   have:((lE b e).2 != 0)=true:=by simp only [bne,hc];rfl
   rw [this];exact aJ rfl
  | true=>
   have h0:((lE b e).2 != 0)=false:=by simp only [bne,hc];rfl
   rw [h0];cases vB (lE b e).1<;>exact aJ rfl
 obtain ⟨r,e1,rfl⟩:=this;exact e1
theorem PL {b:aa} (h:vB b=true) {n:ByteArray} {v:Int}:cond (decide (ed (iU n) b.aj 0<0)) (b,3) (fin b ⟨v,b.ae,b.ai.filter (fun c=> !uy n c),b.aj.filter (fun c=> !iU n c)⟩)=vR b (xH b n v):=by
 unfold xH
 rcases eQ (iU n) b.aj with ⟨q,hn⟩ | ⟨i,hi,q,h1,h2⟩
 ·rw [q];rfl
 ·rw [q]
  have e0:¬ ((i:Nat):Int)<0:=by omega
  have hname:b.aj[i].Name=n:=by simpa [iU] using h1
  have hn:n≠⟨#[]⟩:=hname▸xC h _ (List.getElem_mem hi)
  have e1:b.ai.filter (fun c=> !uy n c)=b.ai.filter (fun c=> !AF n c):=by
   refine List.filter_congr fun c hc=>?_
   unfold uy AF
   by_cases hs:c.State=1
   ·have:=RW h c hc hs
    have h2:¬ c.bw=n:=fun e=>hn (e▸this)
    simp [hs,h2]
   ·simp [hs]
  have e2:b.aj.filter (fun c=> !iU n c)=b.aj.take i++b.aj.drop (i+1):=by
   have hsp:b.aj=b.aj.take i++b.aj[i]::b.aj.drop (i+1):=by
    rw [←List.drop_eq_getElem_cons hi,List.take_append_drop]
   conv=>lhs;rw [hsp]
   rw [List.filter_append,List.filter_cons,h1];simp only [Bool.not_true,Bool.false_eq_true,if_false]
   congr 1
   ·rw [List.filter_eq_self]
    intro x hx;obtain ⟨j,hj,rfl⟩:=List.getElem_of_mem hx
    have gW:j<i:=by simp at hj;omega
    rw [List.getElem_take,h2 j gW];rfl
   ·rw [List.filter_eq_self]
    intro x hx;obtain ⟨j,hj,rfl⟩:=List.getElem_of_mem hx
    have gW:i+1+j<b.aj.length:=by simp at hj;omega
    rw [List.getElem_drop];have:=(Kg h).2 i (i+1+j) (by omega) gW;simp only [hname] at this;have hne:=UH this
    have:iU n (b.aj[i+1+j])=false:=by
     unfold iU
     exact decide_eq_false fun e=>hne e.symm
    rw [this];rfl
  simp only [e0,decide_false,cond_false,e1,e2,Int.toNat_natCast];rfl
theorem g7 {b:aa} {e:az} (hb:gV b):G7 b e=some (res b e):=by
 have hb':=hb;obtain ⟨h1,h2,h3⟩:=hb
 have:Ok (G7 b e) (fun r=>r=res b e):=by
  unfold G7 G7n res;rw [QT h1 h2 h3,Option.bind_some]
  refine mX (fun h=>?_) fun h=>?_
  ·rw [h];exact aJ rfl
  obtain ⟨v1,v2,v3⟩:=mm h
  have hnow:0≤b.b8∧b.b8≤1000000:=by
   have:=h;simp only [vB,Bool.and_eq_true,jK] at this;exact this.1
  rw [h,g24 h1 h2 h3];simp only [Option.bind_some,Bool.not_true,cond_false]
  have out:(e.Kind<1∨e.Kind>6)→cond (decide (b.b8≥1000000)) (cond (!eZ e.Kind 1 6) (b,4) (b,7)) (vR b (lE b e))=(b,4):=fun hk=>by
   have k1:eZ e.Kind 1 6=false:=by
    cases hi:eZ e.Kind 1 6 with
    | false=>rfl
    | true=>have:=jK.1 hi;omega
   rw [k1]
   by_cases hN:b.b8≥1000000
   ·simp only [hN,decide_true,cond_true,Bool.not_false]
   ·have q1:(e.Kind==1)=false:=by simp;omega
    have q2:(e.Kind==2)=false:=by simp;omega
    have q3:(e.Kind==3)=false:=by simp;omega
    have q4:(e.Kind==4)=false:=by simp;omega
    have q5:(e.Kind==5)=false:=by simp;omega
    have q6:(e.Kind==6)=false:=by simp;omega
    simp only [hN,decide_false,cond_false,lE,q1,q2,q3,q4,q5,q6];rfl
  refine dF (fun k=>?_) fun k=>dF (fun k'=>?_) fun k'=>?_
  ·rw [out (.inl k)];exact aJ rfl
  ·rw [out (.inr k')];exact aJ rfl
  have k1:eZ e.Kind 1 6=true:=jK.2 ⟨by omega,by omega⟩
  refine bH (fun hN=>?_) fun hN=>?_
  ·have hN:b.b8=1000000:=by simpa using hN
   have:b.b8≥1000000:=by omega
   simp only [this,decide_true,cond_true,k1,Bool.not_true,cond_false];exact aJ rfl
  have hN:¬ b.b8≥1000000:=by
   have:¬ b.b8=1000000:=by simpa using hN
   omega
  simp only [hN,decide_false,cond_false]
  have l1:b.ae.length≤1000:=by omega
  have l2:b.ai.length≤1000:=by omega
  have l3:b.aj.length≤1000:=by omega
  obtain ⟨a1,a2⟩:=Kg h;unfold lE
  refine bH (fun q=>?_) fun q=>?_
  ·rw [q]
   refine iS (aaM (ss:=b.ae) (v:=vN b) hb' l1 l2 l3) ?_
   rintro r rfl
   have e1:(b.ai.filter fun c=> !c.Ending).map (w9 (vN b))=lf (vN b) b.ai b.ai.length:=by unfold lf;rw [List.take_length]
   rw [e1,RZ (lf_wB (RW h)) (xC h)];rfl
  rw [q,cond_false]
  refine bH (fun q=>?_) fun q=>?_
  ·rw [q]
   exact aaK (w:=ZH e) (v:=vN b) hb' l1 l2 l3 a1
  rw [q,cond_false]
  refine bH (fun q=>?_) fun q=>?_
  ·rw [q]
   exact iS (Vi (v:=vN b) hb' l1 l2 l3) fun r hr=>hr b rfl rfl rfl
  rw [q,cond_false]
  refine bH (fun q=>?_) fun q=>?_
  ·rw [q]
   refine iS (Vh (v:=vN b) hb' l1 l2 l3) fun r hr=>hr.trans (PL h)
  rw [q,cond_false]
  refine bH (fun q=>?_) fun q=>?_
  ·rw [q]
   exact Vf (v:=vN b) hb' l1 l2 l3 a2
  rw [q,cond_false]
  refine bH (fun q=>?_) fun q=>?_
  ·rw [q]
   exact iS (Vd (v:=vN b) hb' l1 l2 l3) fun r hr=>hr b rfl rfl rfl
  ·exfalso
   simp at *;omega
 obtain ⟨r,e1,rfl⟩:=this;exact e1
end Go.Proofs.Ytipemmgoipbojaa.Ab
set_option maxRecDepth 10000
namespace Go.Proofs.Ytipemmgoipbojaa.Ab
open Go Go.RowKit
theorem d110 (n d:Nat) (h:0<d):rB n d=RV n (rB n (d-1)):=by
 obtain ⟨m,rfl⟩:∃ k,d=k+1:=⟨d-1,by omega⟩;rfl
theorem d40 (n d:Nat) (h:0<d):Dp n d=B40 n (Dp n (d-1)):=by
 obtain ⟨m,rfl⟩:∃ k,d=k+1:=⟨d-1,by omega⟩;rfl
theorem d70 (n d:Nat) (h:0<d):nN n d=B70 n (nN n (d-1)):=by
 obtain ⟨m,rfl⟩:∃ k,d=k+1:=⟨d-1,by omega⟩;rfl
theorem Wv {a x:aa} (ha:AX a):AX (fin a x).1:=by
 unfold fin
 cases h:vB x with
 | false=>exact ha
 | true=>
  obtain ⟨v1,v2,v3⟩:=mm h;exact ⟨by simp;omega,by simp;omega,by simp;omega⟩
theorem U0 {b:aa} {e:az} (hb:AX b):AX (res b e).1:=by
 unfold res;cases vB b
 ·exact ⟨by simp [FL],by simp [FL],by simp [FL]⟩
 ·cases decide (b.b8≥1000000)
  ·show AX (vR b (lE b e)).1
   unfold vR;cases ((lE b e).2==0)
   ·exact hb
   ·exact Wv hb
  ·cases eZ e.Kind 1 6<;>exact hb
def JJ (p:List aa) (ss:List af) (cs:List aq) (bs:List av):Prop:=p.length≤8∧(∀ x,x∈p→AX x)∧ss.length≤1000∧cs.length≤1000∧bs.length≤1000
def Ux (r:aO):Prop:=JJ r.gZ r.aG r.aU r.aT
theorem SE {p:List aa} {nw:Int} {ss:List af} {cs:List aq} {bs:List av} {x:aa} (h:JJ p ss cs bs) (hx:AX x):Ok ((rB fuel fuel) p nw ss cs bs x.b8 x.ae x.ai x.aj) Ux:=by
 obtain ⟨h1,h2,h3,h4,h5⟩:=h;rw [d110 _ _ il];unfold RV
 have hall:∀ y,y∈p++[(⟨nw,ss,cs,bs⟩:aa)]→AX y:=fun y hy=>by
  rcases List.mem_append.1 hy with hy | hy
  ·exact h2 y hy
  ·rcases List.mem_singleton.1 hy with rfl
   exact ⟨h3,h4,h5⟩
 refine bH (fun _=>aJ ⟨h1,h2,h3,h4,h5⟩) fun _=>?_
 iterate 2 (refine bM (by first | (simp;done) | (simp;omega)) ?_)
 refine dF (fun hl=>?_) fun hl=>?_
 ·iterate 3 (refine bM (by first | (simp;done) | (simp;omega)) ?_)
  refine aJ ⟨?_,fun y hy=>hall y ?_,hx.1,hx.2.1,hx.2.2⟩
  ·simp;omega
  ·have hy:=List.mem_of_mem_drop hy
   have hy:=List.mem_of_mem_take hy
   simpa using hy
 ·refine aJ ⟨?_,fun y hy=>hall y (by simpa using hy),hx.1,hx.2.1,hx.2.2⟩
  simp at hl ⊢;omega
theorem ok40 {p:List aa} {nw age:Int} {ss:List af} {cs:List aq} {bs:List av} (h:JJ p ss cs bs):Ok ((Dp fuel fuel) p nw ss cs bs age) AX:=by
 obtain ⟨h1,h2,h3,h4,h5⟩:=h;rw [d40 _ _ il];unfold B40
 refine dF (fun _=>aJ ⟨h3,h4,h5⟩) fun ha=>?_
 refine bH (fun _=>aJ ⟨h3,h4,h5⟩) fun hn=>?_
 have hn:0<p.length:=by
  have:¬ (p.length:Int)=0:=by simpa using hn
  omega
 refine dF (fun hl=>?_) fun hl=>?_
 ·rw [cH (by omega) (by omega)]
  exact dh (by omega) (by omega) fun e he=>aJ (h2 e (List.mem_of_getElem? he))
 ·rw [cH (by omega) (by omega)]
  exact dh (by omega) (by omega) fun e he=>aJ (h2 e (List.mem_of_getElem? he))
theorem I1 {p:List aa} {nw a5 a6 a7 a9 AO T3 T2 T0 TZ a16 TY TX TW a20 a22:Int} {a8 TV:ByteArray} {Dj TU:Bool} {ss:List af} {cs:List aq} {bs:List av} (h:JJ p ss cs bs) :
  Ok ((nN fuel fuel) p nw ss cs bs a5 a6 a7 a8 a9 Dj AO T3 T2 T0 TZ a16 TY TX TW a20 TV a22 TU) (fun r=>Ux r.1):=by
 have hs:=h;obtain ⟨h1,h2,h3,h4,h5⟩:=h;rw [d70 _ _ il];unfold B70;rw [QS,Option.bind_some]
 refine mX (fun _=>?_) fun _=>?_
 ·rw [g8 ⟨by dsimp only;omega,by dsimp only;omega,by dsimp only;omega⟩,Option.bind_some]
  exact cV (SE hs (U0 ⟨h3,h4,h5⟩)) fun r hr=>aJ hr
 ·refine cV (ok40 hs) fun b hb=>?_
  refine cV (ok19 (by have:=hb.1;omega) (by have:=hb.2.1;omega) (by have:=hb.2.2;omega)) ?_
  rintro acts ⟨q1,q2⟩
  refine eE (I:=fun x=>0≤x.2.1∧x.2.1≤(acts.length:Int)∧(x.1.length:Int)≤x.2.1∧JJ x.2.2.1 x.2.2.2.2.1 x.2.2.2.2.2.1 x.2.2.2.2.2.2) (m:=fun x=>((acts.length:Int)-x.2.1).toNat) (fun rec x hI hrc=>?_) fuel _ ⟨by simp,by simp,by simp,hs⟩ (by simp;have:=cU;omega);obtain ⟨cd,i,p',nw',ss',cs',bs'⟩:=x;obtain ⟨i0,i1,i2,i3⟩:=hI;dsimp only at i0 i1 i2 i3 hrc;unfold Ld
  refine dF (fun hlt=>?_) fun _=>aJ i3
  refine dh i0 hlt fun a ha=>?_
  have i3':=i3;obtain ⟨j1,j2,j3,j4,j5⟩:=i3;have:=q2 a (List.mem_of_getElem? ha)
  refine cV (ok14 (by dsimp only;omega) (by dsimp only;omega) (by dsimp only;omega) (by omega)) fun r hr=>?_
  refine nX (cV (SE i3' hr) fun w hw=>?_);rw [cH (show -9223372036854775808≤i+1 by omega) (by omega)];exact lU (by omega) (by omega) (hrc _ ⟨by dsimp only;omega,by dsimp only;omega,by simp;omega,hw⟩ (by dsimp only;omega))
theorem Vj {w:aO} (h:Ux w):Ok (Rx w) Ux:=by
 obtain ⟨h1,h2,h3,h4,h5⟩:=h;unfold Rx Rw;rw [Wt (by dsimp only;omega) (by dsimp only;omega) (by dsimp only;omega),Option.bind_some];refine eE (I:=fun x=>0≤x.1∧x.1≤(w.gZ.length:Int)∧(x.2.length:Int)≤x.1∧∀ y:aa,y∈x.2→AX y) (m:=fun x=>((w.gZ.length:Int)-x.1).toNat) (fun rec x hI hrc=>?_) fuel _ ⟨by simp,by simp,by simp,fun y hy=>by cases hy⟩ (by simp;have:=cU;omega);obtain ⟨i,l⟩:=x;obtain ⟨i0,i1,i2,i3⟩:=hI;dsimp only at i0 i1 i2 i3 hrc;unfold La
 refine dF (fun hlt=>?_) fun _=>aJ ⟨by dsimp only;omega,i3,h3,h4,h5⟩
 refine dh i0 hlt fun b hb=>?_
 have hsb:=h2 b (List.mem_of_getElem? hb);obtain ⟨s1,s2,s3⟩:=hsb;rw [Wt (by omega) (by omega) (by omega),Option.bind_some,cH (by omega) (by omega)];refine lU (by omega) (by omega) (hrc _ ⟨by dsimp only;omega,by dsimp only;omega,by simp;omega,fun z hz=>?_⟩ (by dsimp only;omega))
 rcases List.mem_append.1 hz with hz | hz
 ·exact i3 z hz
 ·rcases List.mem_singleton.1 hz with rfl
  exact ⟨s1,s2,s3⟩
theorem aaT {w:aO} (h:Ux w):Ok (OV w) (fun _=>True):=by
 obtain ⟨h1,h2,h3,h4,h5⟩:=h;unfold OV Ii;rw [Er (by dsimp only;omega) (by dsimp only;omega) (by dsimp only;omega),Option.bind_some]
 refine bH (fun _=>aJ trivial) fun _=>bH (fun _=>aJ trivial) fun _=>?_
 refine eE (I:=fun x:Int=>0≤x∧x≤(w.gZ.length:Int)) (m:=fun x:Int=>((w.gZ.length:Int)-x).toNat) (fun rec (i:Int) hI hrc=>?_) fuel (0:Int) ⟨by omega,by omega⟩ (by have:=cU;omega);obtain ⟨i0,i1⟩:=hI;unfold E5
 refine dF (fun hlt=>?_) fun _=>aJ trivial
 have hlt:i<(w.gZ.length:Int):=hlt
 refine dh i0 hlt fun b hb=>?_
 obtain ⟨s1,s2,s3⟩:=h2 b (List.mem_of_getElem? hb);rw [Er (by omega) (by omega) (by omega),Option.bind_some]
 refine bH (fun _=>aJ trivial) fun _=>dh i0 hlt fun c _=>bH (fun _=>aJ trivial) fun _=>?_
 have w1:IntKind.i64.wrap (i+1)=i+1:=cH (by omega) (by omega);have w2:IntKind.i64.wrap (i-1)=i-1:=cH (by omega) (by omega);rw [w1,w2];have skip:Ok (rec (i+1)) (fun _=>True):=hrc (i+1) ⟨by omega,by omega⟩ (by omega)
 refine dF (fun hp=>?_) fun _=>skip
 have hp:i>0:=hp
 exact dh (by omega) (by omega) fun c _=>dh i0 hlt fun c _=>bH (fun _=>aJ trivial) fun _=>skip
theorem aaS {l:List (C .e3)} (hl:l.length≤1000):Ok (OU l) (fun r=>r.length≤2000):=by
 unfold OU Ih
 iterate 2 (refine bM (by first | (simp;done) | (simp;omega)) ?_)
 generalize hL:(([]:List (C .e3))++l)++([1,2,3,4,5,6]:List (C .e3))=L
 have hLl:L.length≤1006:=by rw [←hL];simp;omega
 clear hL;refine eE (I:=fun x=>0≤x.2∧x.2≤(L.length:Int)∧(x.1.length:Int)≤x.2) (m:=fun x=>((L.length:Int)-x.2).toNat) (fun rec x hI hrc=>?_) fuel _ ⟨by simp,by simp,by simp⟩ (by simp;have:=cU;omega);obtain ⟨out,i⟩:=x;obtain ⟨i0,i1,i2⟩:=hI;dsimp only at i0 i1 i2 hrc;unfold E4
 refine dF (fun hlt=>?_) fun _=>aJ (by omega)
 refine eE (I:=fun x=>0≤x.2∧x.2≤(out.length:Int)) (m:=fun x=>((out.length:Int)-x.2).toNat) (fun eW x hI1 Ji=>?_) fuel _ ⟨by simp,by simp⟩ (by simp;have:=cU;omega);obtain ⟨g,k⟩:=x;obtain ⟨k0,k1⟩:=hI1;dsimp only at k0 k1 Ji;unfold E3;dsimp only;have w1:IntKind.i64.wrap (i+1)=i+1:=cH (by omega) (by omega);have w2:IntKind.i64.wrap (k+1)=k+1:=cH (by omega) (by omega);rw [w1,w2];have skip:Ok (rec (out,i+1)) (fun r=>r.length≤2000):=hrc _ ⟨by dsimp only;omega,by dsimp only;omega,by dsimp only;omega⟩ (by dsimp only;omega)
 refine dF (fun hk=>?_) fun hk=>?_
 ·refine bH (fun _=>Ji _ ⟨by dsimp only;omega,by dsimp only;omega⟩ (by dsimp only;omega)) fun _=>?_
  exact gx k0 hk fun e _=>gx i0 hlt fun f _=>Ji _ ⟨by dsimp only;omega,by dsimp only;omega⟩ (by dsimp only;omega)
 ·refine bH (fun _=>gx i0 hlt fun e _=>?_) fun _=>skip
  refine SB fun r _=>bH (fun _=>gx i0 hlt fun f _=>?_) fun _=>skip
  exact lU (by omega) (by omega) (hrc _ ⟨by dsimp only;omega,by dsimp only;omega,by simp;omega⟩ (by dsimp only;omega))
theorem ok72 {w:aO} {k:Int} {l:List (C .e3)} (h:Ux w) (hl:l.length≤1000):Ok (G72 w k l) Ux:=by
 unfold G72 Ry
 refine cV (aaT h) fun r _=>bH (fun _=>aJ ⟨by simp,fun y hy=>(by cases hy),by simp,by simp,by simp⟩) fun _=>?_
 refine cV (aaS hl) fun st hst=>?_
 refine eE (I:=fun x:wM=>0≤x.1∧x.1≤1000∧JJ x.2.1 x.2.2.2.1 x.2.2.2.2.1 x.2.2.2.2.2) (m:=fun x=>(1000-x.1).toNat) (fun rec x hI hrc=>?_) fuel _ ⟨by simp,by simp,h⟩ (by simp;have:=cU;omega);obtain ⟨i,p',nw',ss',cs',bs'⟩:=x;obtain ⟨i0,i1,i2⟩:=hI;dsimp only at i0 i1 i2 hrc;unfold Lc
 refine dF (fun _=>dF (fun hlt=>?_) fun _=>cV (Vj i2) fun r hr=>aJ hr) fun _=>cV (Vj i2) fun r hr=>aJ hr
 refine cV (I1 i2) fun r hr=>?_
 refine eE (I:=fun x:zm=>0≤x.1∧x.1≤(st.length:Int)∧JJ x.2.1 x.2.2.2.1 x.2.2.2.2.1 x.2.2.2.2.2) (m:=fun x=>((st.length:Int)-x.1).toNat) (fun eW x hI1 Ji=>?_) fuel _ ⟨by simp,by simp,hr⟩ (by simp;have:=cU;omega);obtain ⟨j,p2,nw2,ss2,cs2,bs2⟩:=x;obtain ⟨j0,j1,j2⟩:=hI1;dsimp only at j0 j1 j2 Ji;unfold Lb;dsimp only;have w1:IntKind.i64.wrap (i+1)=i+1:=cH (by omega) (by omega);have w2:IntKind.i64.wrap (j+1)=j+1:=cH (by omega) (by omega);rw [w1,w2]
 refine dF (fun hj=>gx j0 hj fun e _=>cV (I1 j2) fun r hr=>nX (Ji _ ⟨by dsimp only;omega,by dsimp only;omega,hr⟩ (by dsimp only;omega))) fun _=>hrc _ ⟨by dsimp only;omega,by dsimp only;omega,j2⟩ (by dsimp only;omega)
end Go.Proofs.Ytipemmgoipbojaa.Ab
set_option maxRecDepth 10000
namespace Go.Proofs.Ytipemmgoipbojaa.Ab
open Go Go.RowKit
theorem d21 (n d:Nat) (h:0<d):sV n d=B21 n (sV n (d-1)):=by
 obtain ⟨m,rfl⟩:∃ k,d=k+1:=⟨d-1,by omega⟩;rfl
theorem d6 (n d:Nat) (h:0<d):Xk n d=B6 n (Xk n (d-1)):=by
 obtain ⟨m,rfl⟩:∃ k,d=k+1:=⟨d-1,by omega⟩;rfl
def Ri (bs:List (C .e5)) (p c:Int) (r:List (C .e5)×Int×aa):Prop:=r.1=bs∧p≤r.2.1∧r.2.1≤p+c∧r.2.2.ae.length≤1000∧r.2.2.ai.length≤2000∧r.2.2.aj.length≤2000
section
variable {bs:List (C .e5)} {rc:(List (C .e5))→(Int)→Option (List (C .e5)×Int×aa)}
theorem VQ {p nw v:Int} {ss:List af} {cs:List aq} {be:List av} (hb:Dy bs) (h0:0≤p) (h1:p≤PT-3000) (hs:ss.length≤1000) (hs0:0<ss.length) (hc:cs.length≤1000) (Ta:be.length≤1000) (hbe0:0<be.length) (hv:0≤v) (hv2:v<10) :
  Ok (cu (GU (IntKind.i64.wrap ((ss.length:Int)-1)) (IntKind.i64.wrap (200-v)) nw be fuel rc) fuel (bs,p,ss,cs)) (Ri bs p 2000):=by
 unfold PT at h1;rw [cH (show -9223372036854775808≤(ss.length:Int)-1 by omega) (by omega),cH (show -9223372036854775808≤200-v by omega) (by omega)];refine eE (I:=fun x:wO=>x.1=bs∧p≤x.2.1∧x.2.1≤p+(x.2.2.2.length:Int)∧x.2.2.1.length=ss.length∧x.2.2.2.length≤1000) (m:=fun x:wO=>(1000-(x.2.2.2.length:Int)).toNat) (fun rec x hI hrc=>?_) fuel _ ⟨rfl,by dsimp only;omega,by dsimp only;omega,rfl,hc⟩ (by dsimp only;have:=cU;omega);obtain ⟨b,q,s',c'⟩:=x;obtain ⟨rfl,i1,i2,i3,i4⟩:=hI;dsimp only at i1 i2 i3 i4 hrc;unfold GU
 refine dF (fun hlt=>?_) fun _=>aJ ⟨rfl,by dsimp only;omega,by dsimp only;omega,by dsimp only;omega,by dsimp only;omega,by dsimp only;omega⟩
 refine gx (by omega) (by omega) fun e1 _=>gx (by omega) (by omega) fun e2 _=>gx (i:=(0:Int)) (Int.le_refl 0) (by omega) fun e3 _=>?_
 refine gw hb (by omega) (by unfold PT;omega) fun v g1 g2=>?_
 dsimp only;refine lU (by omega) (by omega) (gx (by omega) (by omega) fun e1 _=>gx (by omega) (by omega) fun e2 _=>?_);refine hrc _ ⟨rfl,?_,?_,?_,?_⟩ ?_<;>dsimp only<;>(try simp only [List.length_append,List.length_cons,List.length_nil,List.length_set])<;>omega
theorem VR {p nw k:Int} {pa:List aa} {ss:List af} {cs:List aq} {be:List av} (hb:Dy bs) (h0:0≤p) (h1:p≤PT-400000) (hk:k≤50) (hw:JJ pa ss cs be) :
  Ok (cu (GV fuel rc) fuel (k,bs,p,pa,nw,ss,cs,be)) (Ri bs p 300000):=by
 unfold PT at h1;refine eE (I:=fun x:wP=>x.1≤50∧x.2.1=bs∧p≤x.2.2.1∧(x.2.2.1≤p+(50-x.1)*3100)∧(0≤x.1∨x.1=k)∧(x.1<0→x.2.2.1≤p)∧JJ x.2.2.2.1 x.2.2.2.2.2.1 x.2.2.2.2.2.2.1 x.2.2.2.2.2.2.2) (m:=fun x:wP=>x.1.toNat) (fun rec x hI hrc=>?_) fuel _ ⟨hk,rfl,Int.le_refl _,by dsimp only;omega,.inr rfl,fun _=>Int.le_refl _,hw⟩ (by dsimp only;have:=cU;omega);obtain ⟨i,b,q,p',nw',s',c',be'⟩:=x;obtain ⟨i0,rfl,i1,i2,i3,i4,i5⟩:=hI;dsimp only at i0 i1 i2 i3 i4 i5 hrc;have i5':=i5;obtain ⟨w1,w2,w3,w4,w5⟩:=i5;unfold GV;dsimp only
 refine dF (fun hlt=>?_) fun hlt=>?_
 ·refine aaG hb (by omega) (by unfold PT;omega) w3 (by omega) fun q' m m1 m2=>?_
  dsimp only
  refine cV (I1 i5') fun r hr=>nX ?_
  refine gw hb (by omega) (by unfold PT;omega) fun v g1 g2=>?_
  dsimp only;rw [cH (show -9223372036854775808≤i-1 by omega) (by omega)]
  refine bH (fun _=>?_) fun _=>?_
  ·iterate 3 (refine gw hb (by omega) (by unfold PT;omega) fun v g1 g2=>?_;dsimp only)
   refine cV (ok72 hr (by simp)) fun z hz=>?_
   refine hrc _ ⟨?_,rfl,?_,?_,?_,?_,hz⟩ ?_<;>dsimp only<;>omega
  ·refine hrc _ ⟨?_,rfl,?_,?_,?_,?_,hr⟩ ?_<;>dsimp only<;>omega
 ·have hq:q≤p+160000:=by
   rcases i3 with i3 | i3
   ·omega
   ·rcases Int.lt_or_le i 0 with hi | hi
    ·have:=i4 hi;omega
    ·omega
  refine cV (Vj i5') fun w hw=>?_
  obtain ⟨z1,z2,z3,z4,z5⟩:=hw
  refine gw hb (by omega) (by unfold PT;omega) fun u g1 g2=>?_
  have g3:=g2 (by omega);clear g2;dsimp only
  refine bH (fun _=>?_) fun _=>?_
  ·rw [Wt (by dsimp only;omega) (by dsimp only;omega) (by dsimp only;omega),Option.bind_some]
   refine gw hb (by omega) (by unfold PT;omega) fun v a1 a2=>?_
   refine gw hb (by dsimp only;omega) (by dsimp only;unfold PT;omega) fun y b1 b2=>?_
   dsimp only at a2 b2 ⊢
   refine bH (fun _=>aJ ⟨rfl,?_,?_,?_,?_,?_⟩) fun n1=>?_
   iterate 5 (simp<;>omega)
   refine bH (fun _=>aJ ⟨rfl,?_,?_,?_,?_,?_⟩) fun n2=>?_
   iterate 5 (simp<;>omega)
   have n1:¬ (w.aG.length:Int)=0:=by simpa using n1
   have n2:¬ (w.aU.length:Int)=0:=by simpa using n2
   have a3:=a2 (by omega);have b3:=b2 (by omega);clear a2 b2
   refine gw hb (by omega) (by unfold PT;omega) fun t g1 g2=>?_
   clear g2;dsimp only
   repeat' (first
    | (refine gw hb (by omega) (by unfold PT;omega) fun t g1 g2=>?_;have g3:=g2 (by omega);clear g2;dsimp only)
    | (refine gx (by omega) (by first | omega | (simp only [List.length_cons,List.length_nil];omega) | (simp only [List.length_set];omega)) fun e he=>?_)
    | (refine lU (by omega) (by omega) ?_)
    | (refine aJ ⟨rfl,?_,?_,?_,?_,?_⟩<;>(dsimp only;(try simp only [List.length_append,List.length_cons,List.length_nil,List.length_set]);omega))
    | (refine bH (fun _=>?_) fun _=>?_))
  ·refine bH (fun _=>?_) fun _=>bH (fun _=>?_) fun _=>bH (fun _=>?_) fun _=>aJ ⟨rfl,?_,?_,?_,?_,?_⟩
   ·refine gw hb (by omega) (by unfold PT;omega) fun v a1 a2=>?_
    dsimp only;refine aJ ⟨rfl,?_,?_,?_,?_,?_⟩<;>dsimp only<;>omega
   ·refine dF (fun s1=>dF (fun s2=>?_) fun _=>aJ ⟨rfl,?_,?_,?_,?_,?_⟩) fun _=>aJ ⟨rfl,?_,?_,?_,?_,?_⟩
    ·refine gw hb (by omega) (by unfold PT;omega) fun v a1 a2=>?_
     have a3:=a2 (by omega);dsimp only;refine iS (VQ hb (by omega) (by unfold PT;omega) z3 (by omega) z4 z5 (by omega) a1 (by omega)) ?_
     rintro r ⟨y1,y2,y3,y4,y5,y6⟩
     exact ⟨y1,by omega,by omega,y4,y5,y6⟩
    all_goals (dsimp only;omega)
   ·refine dF (fun s1=>?_) fun _=>aJ ⟨rfl,?_,?_,?_,?_,?_⟩
    ·refine gw hb (by omega) (by unfold PT;omega) fun v a1 a2=>?_
     dsimp only
     refine gx (i:=(0:Int)) (Int.le_refl 0) (by omega) fun e _=>aJ ⟨rfl,?_,?_,?_,?_,?_⟩<;>dsimp only<;>(try simp only [List.length_set])<;>omega
    all_goals (dsimp only;omega)
   all_goals (dsimp only;omega)
theorem L5 {p nw k:Int} {pa:List aa} {ss:List af} {cs:List aq} {be:List av} (hb:Dy bs) (h0:0≤p) (h1:p≤PT-500000) (hk0:0≤k) (hk:k≤10) (hw:JJ pa ss cs be) :
  Ok (cu (BP fuel rc) fuel (k,bs,p,pa,nw,ss,cs,be)) (Ri bs p 310000):=by
 unfold PT at h1;refine eE (I:=fun x:wQ=>0≤x.1∧x.1≤10∧x.2.1=bs∧p≤x.2.2.1∧(x.2.2.1≤p+(10-x.1)*100)∧JJ x.2.2.2.1 x.2.2.2.2.2.1 x.2.2.2.2.2.2.1 x.2.2.2.2.2.2.2) (m:=fun x:wQ=>x.1.toNat) (fun rec x hI hrc=>?_) fuel _ ⟨hk0,hk,rfl,Int.le_refl _,by dsimp only;omega,hw⟩ (by dsimp only;have:=cU;omega);obtain ⟨i,b,q,p',nw',s',c',be'⟩:=x;obtain ⟨i0,i0',rfl,i1,i2,i5⟩:=hI;dsimp only at i0 i0' i1 i2 i5 hrc;unfold BP;dsimp only
 refine dF (fun hlt=>?_) fun hlt=>?_
 ·refine SA hb (by omega) (by unfold PT;omega) fun q' s g1 g2=>?_
  dsimp only
  refine cV (I1 i5) fun r hr=>nX ?_
  rw [cH (show -9223372036854775808≤i-1 by omega) (by omega)];refine hrc _ ⟨?_,?_,rfl,?_,?_,hr⟩ ?_<;>dsimp only<;>omega
 ·refine gw hb (by omega) (by unfold PT;omega) fun v g1 g2=>?_
  have g3:=g2 (by omega);dsimp only;refine iS (VR hb (by omega) (by unfold PT;omega) (by omega) i5) ?_
  rintro r ⟨y1,y2,y3,y4,y5,y6⟩
  exact ⟨y1,by omega,by omega,y4,y5,y6⟩
theorem ok21 {p:Int} (hb:Dy bs) (h0:0≤p) (h1:p≤PT-600000):Ok ((sV fuel fuel) bs p) (Ri bs p 320000):=by
 unfold PT at h1;have hw0:JJ [] [] [] []:=⟨by simp,fun x hx=>(by cases hx),by simp,by simp,by simp⟩;rw [d21 _ _ il];unfold B21
 refine cV (I1 hw0) fun r hr=>?_
 refine gw hb (by omega) (by unfold PT;omega) fun v g1 g2=>?_
 dsimp only
 refine bH (fun _=>?_) fun _=>?_
 ·refine cV (I1 hr) fun r hr=>?_
  refine gw hb (by omega) (by unfold PT;omega) fun v g1 g2=>?_
  have g3:=g2 (by omega);dsimp only;rw [cH (by omega) (by omega)];refine iS (L5 hb (by omega) (by unfold PT;omega) (by omega) (by omega) hr) ?_
  rintro r ⟨y1,y2,y3,y4,y5,y6⟩
  exact ⟨y1,by omega,by omega,y4,y5,y6⟩
 ·refine gw hb (by omega) (by unfold PT;omega) fun v g1 g2=>?_
  have g3:=g2 (by omega);dsimp only;rw [cH (by omega) (by omega)];refine iS (L5 hb (by omega) (by unfold PT;omega) (by omega) (by omega) hr) ?_
  rintro r ⟨y1,y2,y3,y4,y5,y6⟩
  exact ⟨y1,by omega,by omega,y4,y5,y6⟩
end
theorem aaH {β:Type} {bs:List (C .e5)} {p:Int} {f:List (C .e5)×Int×aa→Option β} {Q:β→Prop} (hb:Dy bs) (h0:0≤p) (h1:p≤PT-600000) (hf:∀ p' b,p≤p'→p'≤p+320000→b.ae.length≤1000→b.ai.length≤2000→b.aj.length≤2000→Ok (f (bs,p',b)) Q):Ok (Option.bind ((sV fuel fuel) bs p) f) Q:=
 cV (ok21 hb h0 h1) fun r ⟨e1,e2,e3,e4,e5,e6⟩=>by
  obtain ⟨b,q,v⟩:=r;simp only at e1;subst e1;exact hf q v e2 e3 e4 e5 e6
theorem ok6 {a:List (C .e5)} (hv:∀ b:Int,b∈(a:List Int)→0≤b∧b<256):Ok ((Xk fuel fuel) a) (fun r=>gV r.1):=by
 rw [d6 _ _ il];unfold B6
 have fin:∀ (bs:List (C .e5)),Dy bs→∀ (f:List (C .e5)×Int×aa→Option (aa×az)),(∀ p' b,0≤p'→p'≤320000→b.ae.length≤1000→b.ai.length≤2000→b.aj.length≤2000→Ok (f (bs,p',b)) (fun r=>gV r.1))→Ok (Option.bind ((sV fuel fuel) bs 0) f) (fun r=>gV r.1):=fun bs hb f hf=>
  aaH hb (Int.le_refl 0) (by unfold PT;omega) fun p' b l1 l2 l3 l4 l5=>hf p' b l1 (by omega) l3 l4 l5
 refine dF (fun hl=>?_) fun hl=>?_
 ·iterate 3 (refine bM (by first | (simp;done) | (simp;omega)) ?_)
  have hb:Dy (((a.take (2000:Int).toNat).drop (0:Int).toNat)):=⟨by simp;omega,fun b hb=>hv b (List.mem_of_mem_take (List.mem_of_mem_drop hb))⟩
  refine fin _ hb _ fun p' b l1 l2 l3 l4 l5=>?_
  dsimp only;have hlen:gV b:=⟨by omega,by omega,by omega⟩
  refine LF hb l1 (by unfold PT;omega) l3 l4 fun p2 e m1 m2=>?_
  dsimp only
  refine gw hb (by omega) (by unfold PT;omega) fun t g1 g2=>?_
  clear g2;dsimp only
  repeat' (first
   | (refine gw hb (by omega) (by unfold PT;omega) fun t g1 g2=>?_;have g3:=g2 (by omega);clear g2;dsimp only)
   | (refine gx (by omega) (by simp only [List.length_cons,List.length_nil];omega) fun e he=>?_)
   | exact nX (aJ hlen)
   | (refine bH (fun _=>?_) fun _=>?_))
 ·have hb:Dy a:=⟨by omega,hv⟩
  refine fin _ hb _ fun p' b l1 l2 l3 l4 l5=>?_
  dsimp only;have hlen:gV b:=⟨by omega,by omega,by omega⟩
  refine LF hb l1 (by unfold PT;omega) l3 l4 fun p2 e m1 m2=>?_
  dsimp only
  refine gw hb (by omega) (by unfold PT;omega) fun t g1 g2=>?_
  clear g2;dsimp only
  repeat' (first
   | (refine gw hb (by omega) (by unfold PT;omega) fun t g1 g2=>?_;have g3:=g2 (by omega);clear g2;dsimp only)
   | (refine gx (by omega) (by simp only [List.length_cons,List.length_nil];omega) fun e he=>?_)
   | exact nX (aJ hlen)
   | (refine bH (fun _=>?_) fun _=>?_))
end Go.Proofs.Ytipemmgoipbojaa.Ab
set_option maxRecDepth 10000
namespace Go.Proofs.Ytipemmgoipbojaa.Ab
open Go Go.RowKit
theorem sR (n:Nat):iH (fun _=>true) n 0=true:=by
 unfold iH
 exact List.all_eq_true.2 fun _ _=>rfl
theorem g9_2 (bs:List av) (h:bs.length≤1048576):cu (EX bs bs fuel) fuel ((0:Nat):Int)=some true:=by
 have:=qR (st:=fun i=>((i:Nat):Int)) (p:=fun _=>true) (jd:=EX bs bs fuel) (len:=bs.length) (by omega) (fun rec=>by simp only [EX,Int.lt_irrefl,decide_false,cond_false]) (fun rec i hi=>by
   have q1:(i:Int)<(bs.length:Int):=by omega
   simp only [EX,q1,decide_true,cond_true,Int.natCast_nonneg,get_cast hi,Option.bind_some,beq_self_eq_true,Bool.and_self,Bool.not_true,cond_false]
   rw [bh (by omega)])
 rw [sR] at this;exact this
theorem g9_1 (cs:List aq) (bs:List av) (h:bs.length≤1048576) (h2:cs.length≤1048576):cu (EY cs bs cs bs fuel) fuel ((0:Nat):Int)=some true:=by
 have e:=g9_2 bs h
 have:=sQ (st:=fun i=>((i:Nat):Int)) (p:=fun _=>true) (jd:=EY cs bs cs bs fuel) (len:=cs.length) (cu (EX bs bs fuel) fuel ((0:Nat):Int)) (some false) h2 (fun rec=>by simp only [EY,Int.lt_irrefl,decide_false,cond_false];rfl) (fun rec i hi=>by
   have q1:(i:Int)<(cs.length:Int):=by omega
   simp only [EY,q1,decide_true,cond_true,Int.natCast_nonneg,get_cast hi,Option.bind_some,beq_self_eq_true,Bool.and_self,Bool.not_true,cond_false]
   rw [bh (by omega)])
 rw [sR,cond_true,e] at this;exact this
theorem g9_0 (ss:List af) (cs:List aq) (bs:List av) (h:bs.length≤1048576) (h2:cs.length≤1048576) (h1:ss.length≤1048576):cu (ID ss cs bs ss cs bs fuel) fuel ((0:Nat):Int)=some true:=by
 have e:=g9_1 cs bs h h2
 have:=sQ (st:=fun i=>((i:Nat):Int)) (p:=fun _=>true) (jd:=ID ss cs bs ss cs bs fuel) (len:=ss.length) (cu (EY cs bs cs bs fuel) fuel ((0:Nat):Int)) (some false) h1 (fun rec=>by simp only [ID,Int.lt_irrefl,decide_false,cond_false];rfl) (fun rec i hi=>by
   have q1:(i:Int)<(ss.length:Int):=by omega
   simp only [ID,q1,decide_true,cond_true,Int.natCast_nonneg,get_cast hi,Option.bind_some,beq_self_eq_true,Bool.and_self,Bool.not_true,cond_false]
   rw [bh (by omega)])
 rw [sR,cond_true,e] at this;exact this
theorem g9 {b:aa} (hb:gV b):G9 b b=some true:=by
 obtain ⟨h1,h2,h3⟩:=hb;have e:=g9_0 b.ae b.ai b.aj h3 h2 h1
 have q0:(b.b8 != b.b8)=false:=by simp
 have q1:((b.ae.length:Int) != (b.ae.length:Int))=false:=by simp
 have q2:((b.ai.length:Int) != (b.ai.length:Int))=false:=by simp
 have q3:((b.aj.length:Int) != (b.aj.length:Int))=false:=by simp
 unfold G9 G9n;simp only [q0,q1,q2,q3,cond_false];exact e
theorem Kw {b:aa} {e:az} (h:(lE b e).2=0):(lE b e).1.b8=vN b:=by
 unfold lE at h ⊢
 cases q1:e.Kind==1 with
 | true=>rfl
 | false=>
 cases q2:e.Kind==2 with
 | true=>rfl
 | false=>
 cases q3:e.Kind==3 with
 | true=>
  rw [q1,q2,q3] at h;simp only [cond_true,cond_false] at h ⊢;unfold tz at h ⊢;split
  ·rename_i c hc
   rw [hc] at h;simp only at h;cases p1:decide (ed (vY e.Name e.Number) b.ai 0<0)<;>cases p2:(c.State==3||c.State==2)<;>rw [p1,p2] at h<;>simp at h ⊢
  ·rename_i hc
   rw [hc] at h;simp at h
 | false=>
 cases q4:e.Kind==4 with
 | true=>
  rw [q1,q2,q3,q4] at h;simp only [cond_true,cond_false] at h ⊢;unfold xH at h ⊢;cases p1:decide (ed (iU e.Name) b.aj 0<0)<;>rw [p1] at h<;>simp at h ⊢
 | false=>
 cases q5:e.Kind==5 with
 | true=>rfl
 | false=>
 cases q6:e.Kind==6 with
 | true=>
  rw [q1,q2,q3,q4,q5,q6] at h;simp only [cond_true,cond_false] at h ⊢;unfold tj at h ⊢;split
  ·rename_i c hc
   rw [hc] at h;simp only at h;cases p1:decide (ed (kD e.Name) b.ae 0<0)<;>cases p2:(c.dA==0)<;>rw [p1,p2] at h<;>simp at h ⊢
  ·rename_i hc
   rw [hc] at h;simp at h
 | false=>
  rw [q1,q2,q3,q4,q5,q6] at h;simp at h
theorem xK {b:aa} {e:az} (h:vB b=true):((res b e).2≠0∧(res b e).1=b)∨((res b e).2=0∧vB (res b e).1=true∧(res b e).1.b8=vN b):=by
 unfold res;rw [h];simp only [Bool.not_true,cond_false]
 cases decide (b.b8≥1000000) with
 | true=>
  left;cases eZ e.Kind 1 6<;>simp
 | false=>
  simp only [cond_false];unfold vR
  cases hc:((lE b e).2==0) with
  | false=>
   left;simp only [cond_false];exact ⟨by simpa using hc,trivial⟩
  | true=>
   have hc:(lE b e).2=0:=by simpa using hc
   simp only [cond_true];unfold fin
   cases hv:vB (lE b e).1 with
   | false=>left;simp
   | true=>right;exact ⟨by simp,hv,Kw hc⟩
theorem PZ {b:aa} {e:az} (hb:gV b):gV (res b e).1:=by
 cases h:vB b with
 | false=>
  unfold res;rw [h];exact ⟨by simp [FL],by simp [FL],by simp [FL]⟩
 | true=>
  rcases xK (e:=e) h with ⟨_,q⟩ | ⟨_,q,_⟩
  ·rw [q];exact hb
  ·obtain ⟨v1,v2,v3⟩:=mm q
   exact ⟨by omega,by omega,by omega⟩
theorem NA {a:List (C .e5)} (h:Sm KK (.row .e5 a)):∀ b:Int,b∈(a:List Int)→0≤b∧b<256:=by
 intro b hb
 cases h with
 | row _ _ _ h2=>
  obtain ⟨j,hj,rfl⟩:=List.getElem_of_mem hb;have:=h2 j hj 0 (.int .u8 a[j]) rfl
  cases this with
  | int _ _ h=>
   simp [Lit.wf,IntKind.min,IntKind.max,IntKind.bits,IntKind.signed] at h;omega
theorem aaE (a0:List (C .e5)) (h0:Sm KK (.row .e5 a0)):G3 a0=some true:=by
 have:Ok (G3 a0) (fun r=>r=true):=by
  unfold G3 G3n
  refine bH (fun _=>aJ rfl) fun _=>?_
  refine cV (ok6 (NA h0)) fun r hb=>?_
  obtain ⟨b,e⟩:=r;dsimp only at hb ⊢;have hr:=PZ (e:=e) hb;rw [g7 hb,g8 hb];simp only [Option.bind_some];rw [show ((res b e).2 != (res b e).2)=false by simp,cond_false,g9 hr,Er hb.1 hb.2.1 hb.2.2];simp only [Option.bind_some,Bool.not_true,cond_false]
  refine mX (fun hv=>?_) fun hv=>?_
  ·unfold res
   rw [hv];exact aJ rfl
  rcases xK (e:=e) hv with ⟨q1,q2⟩ | ⟨q1,q2,q3⟩
  ·have:((res b e).2 != 0)=true:=by simpa using q1
   rw [this,cond_true,q2,g9 hb];exact aJ rfl
  ·have:((res b e).2 != 0)=false:=by simpa using q1
   rw [this,cond_false,QT hr.1 hr.2.1 hr.2.2,Option.bind_some,q2,cond_true,Er hr.1 hr.2.1 hr.2.2,Option.bind_some,q2,cond_true,q3];refine aJ ?_;unfold vN;simp
 obtain ⟨r,e,rfl⟩:=this;exact e
theorem ek3:∀ ls:List (Lf C),eI [.int .i64] ls=true→∃ x,d3 ls=some x:=by
 intro AY g0;obtain ⟨l0,Cc,rfl,h0,g1⟩:=aF g0;obtain ⟨x0,rfl⟩:=bE h0;obtain rfl:=eP g1;exact ⟨_,rfl⟩
theorem ek5:∀ ls:List (Lf C),eI [.int .u8] ls=true→∃ x,d5 ls=some x:=by
 intro AY g0;obtain ⟨l0,Cc,rfl,h0,g1⟩:=aF g0;obtain ⟨x0,rfl⟩:=bE h0;obtain rfl:=eP g1;exact ⟨_,rfl⟩
theorem ek9:∀ ls:List (Lf C),eI [.str] ls=true→∃ x,d9 ls=some x:=by
 intro AY g0;obtain ⟨l0,Cc,rfl,h0,g1⟩:=aF g0;obtain ⟨x0,rfl⟩:=iN h0;obtain rfl:=eP g1;exact ⟨_,rfl⟩
theorem ek27:∀ ls:List (Lf C),eI [.int .i64,.dR .aA,.dR .aC,.dR .ay] ls=true→∃ x,d27 ls=some x:=by
 intro AY g0;obtain ⟨l0,Cc,rfl,h0,g1⟩:=aF g0;obtain ⟨x0,rfl⟩:=bE h0;obtain ⟨l1,Cb,rfl,h1,g2⟩:=aF g1;obtain ⟨x1,rfl⟩:=jq h1;obtain ⟨l2,VA,rfl,h2,g3⟩:=aF g2;obtain ⟨x2,rfl⟩:=jq h2;obtain ⟨l3,Vz,rfl,h3,g4⟩:=aF g3;obtain ⟨x3,rfl⟩:=jq h3;obtain rfl:=eP g4;exact ⟨_,rfl⟩
theorem ek29:∀ ls:List (Lf C),eI [.str,.int .i64,.bool,.int .i64,.int .i64,.int .i64,.int .i64,.int .i64,.int .i64,.int .i64,.int .i64,.int .i64,.int .i64] ls=true→∃ x,d29 ls=some x:=by
 intro AY g0;obtain ⟨l0,Cc,rfl,h0,g1⟩:=aF g0;obtain ⟨x0,rfl⟩:=iN h0;obtain ⟨l1,Cb,rfl,h1,g2⟩:=aF g1;obtain ⟨x1,rfl⟩:=bE h1;obtain ⟨l2,VA,rfl,h2,g3⟩:=aF g2;obtain ⟨x2,rfl⟩:=iv h2;obtain ⟨l3,Vz,rfl,h3,g4⟩:=aF g3;obtain ⟨x3,rfl⟩:=bE h3;obtain ⟨l4,XF,rfl,h4,g5⟩:=aF g4;obtain ⟨x4,rfl⟩:=bE h4;obtain ⟨l5,ls6,rfl,h5,g6⟩:=aF g5;obtain ⟨x5,rfl⟩:=bE h5;obtain ⟨l6,ls7,rfl,h6,g7⟩:=aF g6;obtain ⟨x6,rfl⟩:=bE h6;obtain ⟨l7,ls8,rfl,h7,g8⟩:=aF g7;obtain ⟨x7,rfl⟩:=bE h7;obtain ⟨l8,ls9,rfl,h8,g9⟩:=aF g8;obtain ⟨x8,rfl⟩:=bE h8;obtain ⟨l9,abU,rfl,h9,Er⟩:=aF g9;obtain ⟨x9,rfl⟩:=bE h9;obtain ⟨l10,abT,rfl,h10,QT⟩:=aF Er;obtain ⟨aM,rfl⟩:=bE h10;obtain ⟨l11,abS,rfl,h11,g12⟩:=aF QT;obtain ⟨aS,rfl⟩:=bE h11;obtain ⟨l12,abR,rfl,h12,g13⟩:=aF g12;obtain ⟨aQ,rfl⟩:=bE h12;obtain rfl:=eP g13;exact ⟨_,rfl⟩
theorem ek31:∀ ls:List (Lf C),eI [.int .i64,.str,.int .i64,.bool,.int .i64,.int .i64,.int .i64,.int .i64,.int .i64,.int .i64,.int .i64,.int .i64,.int .i64,.int .i64,.str,.int .i64,.bool] ls=true→∃ x,d31 ls=some x:=by
 intro AY g0;obtain ⟨l0,Cc,rfl,h0,g1⟩:=aF g0;obtain ⟨x0,rfl⟩:=bE h0;obtain ⟨l1,Cb,rfl,h1,g2⟩:=aF g1;obtain ⟨x1,rfl⟩:=iN h1;obtain ⟨l2,VA,rfl,h2,g3⟩:=aF g2;obtain ⟨x2,rfl⟩:=bE h2;obtain ⟨l3,Vz,rfl,h3,g4⟩:=aF g3;obtain ⟨x3,rfl⟩:=iv h3;obtain ⟨l4,XF,rfl,h4,g5⟩:=aF g4;obtain ⟨x4,rfl⟩:=bE h4;obtain ⟨l5,ls6,rfl,h5,g6⟩:=aF g5;obtain ⟨x5,rfl⟩:=bE h5;obtain ⟨l6,ls7,rfl,h6,g7⟩:=aF g6;obtain ⟨x6,rfl⟩:=bE h6;obtain ⟨l7,ls8,rfl,h7,g8⟩:=aF g7;obtain ⟨x7,rfl⟩:=bE h7;obtain ⟨l8,ls9,rfl,h8,g9⟩:=aF g8;obtain ⟨x8,rfl⟩:=bE h8;obtain ⟨l9,abU,rfl,h9,Er⟩:=aF g9;obtain ⟨x9,rfl⟩:=bE h9;obtain ⟨l10,abT,rfl,h10,QT⟩:=aF Er;obtain ⟨aM,rfl⟩:=bE h10;obtain ⟨l11,abS,rfl,h11,g12⟩:=aF QT;obtain ⟨aS,rfl⟩:=bE h11;obtain ⟨l12,abR,rfl,h12,g13⟩:=aF g12;obtain ⟨aQ,rfl⟩:=bE h12;obtain ⟨l13,ls14,rfl,h13,g14⟩:=aF g13;obtain ⟨aZ,rfl⟩:=bE h13;obtain ⟨l14,ls15,rfl,h14,g15⟩:=aF g14;obtain ⟨aV,rfl⟩:=iN h14;obtain ⟨l15,ls16,rfl,h15,g16⟩:=aF g15;obtain ⟨aY,rfl⟩:=bE h15;obtain ⟨l16,ls17,rfl,h16,g17⟩:=aF g16;obtain ⟨aW,rfl⟩:=iv h16;obtain rfl:=eP g17;exact ⟨_,rfl⟩
theorem ek41:∀ ls:List (Lf C),eI [.str,.int .i64,.int .i64,.int .i64,.int .i64,.bool,.dR .eC,.bool] ls=true→∃ x,d41 ls=some x:=by
 intro AY g0;obtain ⟨l0,Cc,rfl,h0,g1⟩:=aF g0;obtain ⟨x0,rfl⟩:=iN h0;obtain ⟨l1,Cb,rfl,h1,g2⟩:=aF g1;obtain ⟨x1,rfl⟩:=bE h1;obtain ⟨l2,VA,rfl,h2,g3⟩:=aF g2;obtain ⟨x2,rfl⟩:=bE h2;obtain ⟨l3,Vz,rfl,h3,g4⟩:=aF g3;obtain ⟨x3,rfl⟩:=bE h3;obtain ⟨l4,XF,rfl,h4,g5⟩:=aF g4;obtain ⟨x4,rfl⟩:=bE h4;obtain ⟨l5,ls6,rfl,h5,g6⟩:=aF g5;obtain ⟨x5,rfl⟩:=iv h5;obtain ⟨l6,ls7,rfl,h6,g7⟩:=aF g6;obtain ⟨x6,rfl⟩:=jq h6;obtain ⟨l7,ls8,rfl,h7,g8⟩:=aF g7;obtain ⟨x7,rfl⟩:=iv h7;obtain rfl:=eP g8;exact ⟨_,rfl⟩
theorem ek62:∀ ls:List (Lf C),eI [.str,.int .i64,.int .i64,.int .i64,.int .i64,.bool,.str] ls=true→∃ x,d62 ls=some x:=by
 intro AY g0;obtain ⟨l0,Cc,rfl,h0,g1⟩:=aF g0;obtain ⟨x0,rfl⟩:=iN h0;obtain ⟨l1,Cb,rfl,h1,g2⟩:=aF g1;obtain ⟨x1,rfl⟩:=bE h1;obtain ⟨l2,VA,rfl,h2,g3⟩:=aF g2;obtain ⟨x2,rfl⟩:=bE h2;obtain ⟨l3,Vz,rfl,h3,g4⟩:=aF g3;obtain ⟨x3,rfl⟩:=bE h3;obtain ⟨l4,XF,rfl,h4,g5⟩:=aF g4;obtain ⟨x4,rfl⟩:=bE h4;obtain ⟨l5,ls6,rfl,h5,g6⟩:=aF g5;obtain ⟨x5,rfl⟩:=iv h5;obtain ⟨l6,ls7,rfl,h6,g7⟩:=aF g6;obtain ⟨x6,rfl⟩:=iN h6;obtain rfl:=eP g7;exact ⟨_,rfl⟩
theorem ek64:∀ ls:List (Lf C),eI [.str,.bool] ls=true→∃ x,d64 ls=some x:=by
 intro AY g0;obtain ⟨l0,Cc,rfl,h0,g1⟩:=aF g0;obtain ⟨x0,rfl⟩:=iN h0;obtain ⟨l1,Cb,rfl,h1,g2⟩:=aF g1;obtain ⟨x1,rfl⟩:=iv h1;obtain rfl:=eP g2;exact ⟨_,rfl⟩
theorem ek75:∀ ls:List (Lf C),eI [.dR .dv,.int .i64,.dR .aA,.dR .aC,.dR .ay] ls=true→∃ x,d75 ls=some x:=by
 intro AY g0;obtain ⟨l0,Cc,rfl,h0,g1⟩:=aF g0;obtain ⟨x0,rfl⟩:=jq h0;obtain ⟨l1,Cb,rfl,h1,g2⟩:=aF g1;obtain ⟨x1,rfl⟩:=bE h1;obtain ⟨l2,VA,rfl,h2,g3⟩:=aF g2;obtain ⟨x2,rfl⟩:=jq h2;obtain ⟨l3,Vz,rfl,h3,g4⟩:=aF g3;obtain ⟨x3,rfl⟩:=jq h3;obtain ⟨l4,XF,rfl,h4,g5⟩:=aF g4;obtain ⟨x4,rfl⟩:=jq h4;obtain rfl:=eP g5;exact ⟨_,rfl⟩
theorem ek80:∀ ls:List (Lf C),eI [.int .i64,.int .i64] ls=true→∃ x,d80 ls=some x:=by
 intro AY g0;obtain ⟨l0,Cc,rfl,h0,g1⟩:=aF g0;obtain ⟨x0,rfl⟩:=bE h0;obtain ⟨l1,Cb,rfl,h1,g2⟩:=aF g1;obtain ⟨x1,rfl⟩:=bE h1;obtain rfl:=eP g2;exact ⟨_,rfl⟩
theorem ek85:∀ ls:List (Lf C),eI [.int .i64,.int .i64,.int .i64,.int .i64,.int .i64] ls=true→∃ x,d85 ls=some x:=by
 intro AY g0;obtain ⟨l0,Cc,rfl,h0,g1⟩:=aF g0;obtain ⟨x0,rfl⟩:=bE h0;obtain ⟨l1,Cb,rfl,h1,g2⟩:=aF g1;obtain ⟨x1,rfl⟩:=bE h1;obtain ⟨l2,VA,rfl,h2,g3⟩:=aF g2;obtain ⟨x2,rfl⟩:=bE h2;obtain ⟨l3,Vz,rfl,h3,g4⟩:=aF g3;obtain ⟨x3,rfl⟩:=bE h3;obtain ⟨l4,XF,rfl,h4,g5⟩:=aF g4;obtain ⟨x4,rfl⟩:=bE h4;obtain rfl:=eP g5;exact ⟨_,rfl⟩
theorem ek117:∀ ls:List (Lf C),eI [.int .i64,.int .i64,.int .i64,.str,.int .i64,.bool,.int .i64,.int .i64,.int .i64,.int .i64,.int .i64,.int .i64,.int .i64,.int .i64,.int .i64,.int .i64,.str,.int .i64,.bool] ls=true→∃ x,d117 ls=some x:=by
 intro AY g0;obtain ⟨l0,Cc,rfl,h0,g1⟩:=aF g0;obtain ⟨x0,rfl⟩:=bE h0;obtain ⟨l1,Cb,rfl,h1,g2⟩:=aF g1;obtain ⟨x1,rfl⟩:=bE h1;obtain ⟨l2,VA,rfl,h2,g3⟩:=aF g2;obtain ⟨x2,rfl⟩:=bE h2;obtain ⟨l3,Vz,rfl,h3,g4⟩:=aF g3;obtain ⟨x3,rfl⟩:=iN h3;obtain ⟨l4,XF,rfl,h4,g5⟩:=aF g4;obtain ⟨x4,rfl⟩:=bE h4;obtain ⟨l5,ls6,rfl,h5,g6⟩:=aF g5;obtain ⟨x5,rfl⟩:=iv h5;obtain ⟨l6,ls7,rfl,h6,g7⟩:=aF g6;obtain ⟨x6,rfl⟩:=bE h6;obtain ⟨l7,ls8,rfl,h7,g8⟩:=aF g7;obtain ⟨x7,rfl⟩:=bE h7;obtain ⟨l8,ls9,rfl,h8,g9⟩:=aF g8;obtain ⟨x8,rfl⟩:=bE h8;obtain ⟨l9,abU,rfl,h9,Er⟩:=aF g9;obtain ⟨x9,rfl⟩:=bE h9;obtain ⟨l10,abT,rfl,h10,QT⟩:=aF Er;obtain ⟨aM,rfl⟩:=bE h10;obtain ⟨l11,abS,rfl,h11,g12⟩:=aF QT;obtain ⟨aS,rfl⟩:=bE h11;obtain ⟨l12,abR,rfl,h12,g13⟩:=aF g12;obtain ⟨aQ,rfl⟩:=bE h12;obtain ⟨l13,ls14,rfl,h13,g14⟩:=aF g13;obtain ⟨aZ,rfl⟩:=bE h13;obtain ⟨l14,ls15,rfl,h14,g15⟩:=aF g14;obtain ⟨aV,rfl⟩:=bE h14;obtain ⟨l15,ls16,rfl,h15,g16⟩:=aF g15;obtain ⟨aY,rfl⟩:=bE h15;obtain ⟨l16,ls17,rfl,h16,g17⟩:=aF g16;obtain ⟨aW,rfl⟩:=iN h16;obtain ⟨l17,ls18,rfl,h17,g18⟩:=aF g17;obtain ⟨bq,rfl⟩:=bE h17;obtain ⟨l18,ls19,rfl,h18,g19⟩:=aF g18;obtain ⟨bC,rfl⟩:=iv h18;obtain rfl:=eP g19;exact ⟨_,rfl⟩
def okT:Ty→Bool
 | .e3=>true
 | .e5=>true
 | .e9=>true
 | .dv=>true
 | .aA=>true
 | .p7=>true
 | .kF=>true
 | .aC=>true
 | .ay=>true
 | .xk=>true
 | .eC=>true
 | .A8=>true
 | .sK=>true
set_option maxRecDepth 100000 in
theorem UC:Tab Go.Proofs.Try.prog KK (lk tks) okT:=by
 refine UD Km MS (by kernel_rfl) fun t ht=>?_
 cases t
 ·exact ⟨_,rfl,rfl,ek3⟩
 ·exact ⟨_,rfl,rfl,ek5⟩
 ·exact ⟨_,rfl,rfl,ek9⟩
 ·exact ⟨_,rfl,rfl,ek27⟩
 ·exact ⟨_,rfl,rfl,ek29⟩
 ·exact ⟨_,rfl,rfl,ek31⟩
 ·exact ⟨_,rfl,rfl,ek41⟩
 ·exact ⟨_,rfl,rfl,ek62⟩
 ·exact ⟨_,rfl,rfl,ek64⟩
 ·exact ⟨_,rfl,rfl,ek75⟩
 ·exact ⟨_,rfl,rfl,ek80⟩
 ·exact ⟨_,rfl,rfl,ek85⟩
 ·exact ⟨_,rfl,rfl,ek117⟩
end Go.Proofs.Ytipemmgoipbojaa.Ab
