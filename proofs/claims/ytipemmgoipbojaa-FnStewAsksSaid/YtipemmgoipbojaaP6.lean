/- Part 6 of the proof: an abstract machine proved sound over the model, the functions that it reckons, the plain law. Names made short by a program. No conditions. -/
import Derived.Test.YtipemmgoipbojaaP5
set_option linter.unusedVariables false
set_option linter.unusedSimpArgs false
set_option linter.unusedSectionVars false
noncomputable section
set_option maxRecDepth 10000
namespace Go.Proofs.Ytipemmgoipbojaa.Ab
open Go Go.RowKit
def w6 (n:BA) (fl:Bool) (bs:List aG):List aG:=EL (fun s:aG=>s.Name) n (fun _=>⟨n,fl⟩) ⟨n,fl⟩ bs
theorem ok68 {b:aa} {n:BA} {fl:Bool} (hs:b.ak.length≤1000):Ok (G68 b n fl) (fun r=>r=(⟨b.bM,b.af,b.ah,w6 n fl b.ak⟩:aa)):=by
 unfold G68 VE
 have fin:∀ (i:Nat) (rec:Int→Option aa),i≤b.ak.length→lead (fun s:aG=>slt s.Name n) b.ak=i→(∀ hi:i<b.ak.length,slt b.ak[i].Name n=false)→Ok (El n fl b.bM b.af b.ah b.ak fuel rec ((i:Nat):Int)) (fun r=>r=(⟨b.bM,b.af,b.ah,w6 n fl b.ak⟩:aa)):=by
  intro i rec hi he hn;unfold El w6
  rcases Nat.lt_or_ge i b.ak.length with h | h
  ·refine eV (by simp;omega) (Cm h ?_)
   rw [hn h,cond_false];have hx:b.ak[i+0]?=some b.ak[i]:=List.getElem?_eq_getElem h
   by_cases hb:b.ak[i].Name=n
   ·rw [EI h he hb]
    repeat' (first
     | (refine eV (by first | (simp;done) | (simp;omega)) ?_)
     | (simp only [Int.toNat_natCast,Int.toNat_zero,hx,Option.bind_some,hb,decide_true,cond_true]))
    refine aC ?_
    have e9:i+(b.ak.length-i)=b.ak.length:=by omega
    simp [List.take_of_length_le,e9]
   ·rw [rU he fun _=>hb]
    repeat' (first
     | (refine eV (by first | (simp;done) | (simp;omega)) ?_)
     | (simp only [Int.toNat_natCast,Int.toNat_zero,hx,Option.bind_some,hb,decide_false,cond_false]))
    refine aC ?_;simp [List.take_of_length_le]
  ·have hh:i=b.ak.length:=by omega
   subst hh;rw [rU he fun h=>by omega]
   have e1:¬ ((b.ak.length:Nat):Int)<(b.ak.length:Int):=by omega
   simp only [e1,decide_false,cond_false]
   repeat' (first
    | (refine eV (by first | (simp;done) | (simp;omega)) ?_)
    | (refine bR (fun h=>absurd h (by simp)) fun _=>?_))
   refine aC ?_;simp [List.take_of_length_le]
 refine Pc (p:=fun s:aG=> !slt s.Name n) (xs:=b.ak) (by omega) (fun hno rec=>?_) (fun i hi h1 h2 rec=>?_) (fun rec i hi h1 hr=>?_)
 ·refine fin _ rec (Nat.le_refl _) (sr (Nat.le_refl _) (fun j hj h=>?_) (fun h=>by omega)) (fun h=>by omega)
  have:=hno _ (List.getElem_mem h)
  simpa using this
 ·have h1:slt b.ak[i].Name n=false:=by simpa using h1
  exact fin i rec (by omega) (sr (by omega) (fun j hj h=>by simpa using h2 j hj) (fun h=>h1)) (fun h=>h1)
 ·have h1:slt b.ak[i].Name n=true:=by simpa using h1
  unfold El;refine eV (by simp;omega) (Cm hi ?_);rw [h1,cond_true,aZ (by omega)];exact hr
section
variable {a:aa} {ss:List ae} {cs:List ai} {bs:List aG} {v:Int} {n:BA} {fl:Bool}
section
variable {k1:Int} {k2:BA} {k3:Int} {k4:Bool} {k5 k6 k7 k8 k9 ka kb kc kd ke kf:Int}
end
end
end Go.Proofs.Ytipemmgoipbojaa.Ab
set_option maxRecDepth 10000
namespace Go.Proofs.Ytipemmgoipbojaa.Ab
open Go Go.RowKit
section
variable {a:aa} {ss:List ae} {cs:List ai} {bs:List aG} {v:Int} {n:BA} {fl:Bool}
variable {k1:Int} {k2:BA} {k3:Int} {k4:Bool} {k5 k6 k7 k8 k9 ka kb kc kd ke kf:Int}
end
end Go.Proofs.Ytipemmgoipbojaa.Ab
set_option maxRecDepth 10000
namespace Go.Proofs.Ytipemmgoipbojaa.Ab
open Go Go.RowKit
section
variable {a:aa} {ss:List ae} {cs:List ai} {bs:List aG} {v:Int}
end
end Go.Proofs.Ytipemmgoipbojaa.Ab
set_option maxRecDepth 10000
namespace Go.Proofs.Ytipemmgoipbojaa.Ab
open Go Go.RowKit Go.IntKind
def svE (e:aJ):ae:=⟨e.eZ,e.dN,e.ff,e.eF,e.eW,e.fg,e.eX,e.eY,e.fU,e.eE,e.fb,e.fe,e.fm⟩
def Oj (b:aa) (n:BA) (v:Int):aa×Int:=cond (decide (dv (Bq n) b.ak 0<0)) (b,3) (⟨v,b.af,b.ah.filter (fun c=> !Hc n c),b.ak.take (dv (Bq n) b.ak 0).toNat++b.ak.drop ((dv (Bq n) b.ak 0).toNat+1)⟩,0)
def vN (b:aa):Int:=i64.wrap (b.bM+1)
def tq (b:aa) (e:aJ):aa×Int:=
 cond (e.Kind==1) (⟨vN b,b.af,Jd b.ak (vN b) b.ah,b.ak⟩,0)
 (cond (e.Kind==2) (⟨vN b,DI (svE e) (vN b) b.af,b.ah,b.ak⟩,0)
 (cond (e.Kind==3) (A9 b e.Name e.Number (vN b))
 (cond (e.Kind==4) (Oj b e.Name (vN b))
 (cond (e.Kind==5) (⟨vN b,b.af,b.ah,w6 e.Name e.yO b.ak⟩,0)
 (cond (e.Kind==6) (AH b e.Name e.Number (vN b))
 (b,4))))))
def UY (n:BA) (cs:List ai) (i:Nat):List ai:=(cs.take i).filter fun c=> !Hc n c
theorem Qp {n:BA} {cs:List ai} {i:Nat} (h:i<cs.length):UY n cs (i+1)=cond (!Hc n cs[i]) (UY n cs i++[cs[i]]) (UY n cs i):=by
 unfold UY;rw [List.take_add_one,List.getElem?_eq_getElem h,List.filter_append];cases hp:Hc n cs[i]<;>simp [hp]
theorem flt_le (n:BA) (cs:List ai) (i:Nat):(UY n cs i).length≤i:=by
 unfold UY;have:=List.length_filter_le (fun c:ai=> !Hc n c) (cs.take i);simp at this ⊢;omega
theorem lp28 {v:Int} {ss:List ae} {cs:List ai} {bs:List aG} {n:BA} (hc:cs.length≤1000):bS (Ez v ss cs bs n fuel) fuel ([],0)=some ((⟨v,ss,cs.filter (fun c=> !Hc n c),bs⟩:aa),0):=by
 refine kL (st:=fun i=>(UY n cs i,((i:Nat):Int))) (val:=fun _=>some ((⟨v,ss,cs.filter (fun c=> !Hc n c),bs⟩:aa),0)) cs.length (fun rec=>?_) (fun rec i hi hr=>?_) fuel 0 (Nat.zero_le _) (by have:=bT;omega)
 ·simp only [Ez,Int.lt_irrefl,decide_false,cond_false,UY,List.take_length]
 ·have q1:(i:Int)<(cs.length:Int):=by omega
  have l:=flt_le n cs i
  have q2:∀ c:ai,((UY n cs i).length+([c]:ay).length)*72≤140737488355328:=fun c=>by simp only [List.length_cons,List.length_nil];omega
  simp only [Qp hi] at hr;simp only [Ez,q1,decide_true,cond_true,Int.natCast_nonneg,get_cast hi,Option.bind_some,q2,aZ (show i<4611686018427387904 by omega)];have hb:Hc n cs[i]=decide (cs[i].bE=n):=rfl;rw [hb] at hr;cases hd:decide (cs[i].bE=n)<;>rw [hd] at hr<;>exact hr
theorem ok28 {b:aa} {e:aJ} (hs:b.af.length≤1000) (hc:b.ah.length≤1000) (hb:b.ak.length≤1000):Ok (G28 b e) (fun r=>r=tq b e):=by
 unfold G28 VP tq
 cases e.Kind==1 with
 | true=>
  rw [cond_true,cond_true,g64 (by omega) (by omega)];exact aC rfl
 | false=>
 rw [cond_false,cond_false]
 cases e.Kind==2 with
 | true=>
  rw [cond_true,cond_true];refine bO (ok65 hs) ?_
  rintro r rfl
  exact aC rfl
 | false=>
 rw [cond_false,cond_false]
 cases e.Kind==3 with
 | true=>
  rw [cond_true,cond_true,g66 (by omega),Option.bind_some]
  rcases dQ (il e.Name e.Number) b.ah with ⟨q,hn⟩ | ⟨i,hi,q,h1,h2⟩
  ·rw [q,Qr hn];exact aC rfl
  ·rw [Qs hi h1 h2,q]
   have e0:¬ ((i:Nat):Int)<0:=by omega
   have e1:(i:Int)<(b.ah.length:Int):=by omega
   simp only [e0,e1,decide_false,cond_false,decide_true,cond_true,Int.natCast_nonneg,Int.toNat_natCast,List.getElem?_eq_getElem hi,Option.bind_some,List.getElem?_set_self hi,List.set_set,List.length_set]
   by_cases s3:b.ah[i].State=3
   ·have q1:(b.ah[i].State != 3)=false:=by simp [s3]
    have q2:(b.ah[i].State==3||b.ah[i].State==2)=true:=by simp [s3]
    rw [q1,q2];exact aC rfl
   ·have q1:(b.ah[i].State != 3)=true:=by simp [s3]
    rw [q1,cond_true]
    by_cases s2:b.ah[i].State=2
    ·have q3:(b.ah[i].State != 2)=false:=by simp [s2]
     have q2:(b.ah[i].State==3||b.ah[i].State==2)=true:=by simp [s2]
     rw [q3,q2];exact aC rfl
    ·have q3:(b.ah[i].State != 2)=true:=by simp [s2]
     have q2:(b.ah[i].State==3||b.ah[i].State==2)=false:=by simp [s3,s2]
     rw [q3,q2];exact aC rfl
 | false=>
 rw [cond_false,cond_false]
 cases e.Kind==4 with
 | true=>
  rw [cond_true,cond_true,g67 (by omega),Option.bind_some];unfold Oj;have l:=qN (Bq e.Name) b.ak;generalize dv (Bq e.Name) b.ak 0=p at l
  by_cases h:p<0
  ·simp only [h,decide_true,cond_true];exact aC rfl
  ·obtain ⟨i,rfl⟩:∃ i:Nat,p=(i:Int):=⟨p.toNat,by omega⟩
   have w:=aZ (show i<4611686018427387904 by omega);simp only [h,decide_false,cond_false,w,Int.toNat_natCast]
   iterate 8 (refine eV (by first | (simp;done) | (simp;omega)) ?_)
   simp only [List.nil_append,Int.toNat_zero,List.drop_zero,List.take_length];rw [lp28 hc];refine aC ?_;simp [vN,List.take_of_length_le]
 | false=>
 rw [cond_false,cond_false]
 cases e.Kind==5 with
 | true=>
  rw [cond_true,cond_true];refine bO (ok68 hb) ?_
  rintro r rfl
  exact aC rfl
 | false=>
 rw [cond_false,cond_false]
 cases e.Kind==6 with
 | true=>
  rw [cond_true,cond_true,g69 (by omega),Option.bind_some]
  rcases dQ (lY e.Name) b.af with ⟨q,hn⟩ | ⟨i,hi,q,h1,h2⟩
  ·rw [q,PD hn];exact aC rfl
  ·rw [PE hi h1 h2,q]
   have e0:¬ ((i:Nat):Int)<0:=by omega
   have e1:(i:Int)<(b.af.length:Int):=by omega
   simp only [e0,e1,decide_false,cond_false,decide_true,cond_true,Int.natCast_nonneg,Int.toNat_natCast,List.getElem?_eq_getElem hi,Option.bind_some,List.getElem?_set_self hi,List.set_set,List.length_set];cases (b.af[i].bY==0)<;>exact aC rfl
 | false=>exact aC rfl
end Go.Proofs.Ytipemmgoipbojaa.Ab
set_option maxRecDepth 10000
namespace Go.Proofs.Ytipemmgoipbojaa.Ab
open Go Go.RowKit
theorem Iv {α:Type} (p:α→Bool) (xs:List α):(xs.filter p).length≤xs.length:=List.length_filter_le _ _
theorem Oo {b:aa} {e:aJ} (hs:b.af.length≤1000) (hc:b.ah.length≤1000) (hb:b.ak.length≤1000):(tq b e).1.af.length≤1001∧(tq b e).1.ah.length≤1000∧(tq b e).1.ak.length≤1001:=by
 unfold tq
 cases e.Kind==1 with
 | true=>
  simp only [cond_true];refine ⟨by omega,?_,by omega⟩;unfold Jd;rw [vJ];have:=PN (vN b) b.ah b.ah.length;omega
 | false=>
 simp only [cond_false]
 cases e.Kind==2 with
 | true=>
  simp only [cond_true];have:=EJ (nm:=fun s:ae=>s.Name) (n:=(svE e).Name) (old:=fun s=>HZ (svE e) (vN b) s.Next) (new:=HZ (svE e) (vN b) 1) (xs:=b.af);refine ⟨?_,by omega,by omega⟩;unfold DI;omega
 | false=>
 simp only [cond_false]
 cases e.Kind==3 with
 | true=>
  simp only [cond_true];unfold A9;split
  ·rename_i c _
   cases decide (dv (il e.Name e.Number) b.ah 0<0)<;>cases (c.State==3||c.State==2)<;>simp<;>omega
  ·simp;omega
 | false=>
 simp only [cond_false]
 cases e.Kind==4 with
 | true=>
  simp only [cond_true];unfold Oj;have:=Iv (fun c=> !Hc e.Name c) b.ah;cases decide (dv (Bq e.Name) b.ak 0<0)<;>simp only [cond_true,cond_false]<;>refine ⟨by omega,by omega,?_⟩<;>(try simp)<;>omega
 | false=>
 simp only [cond_false]
 cases e.Kind==5 with
 | true=>
  simp only [cond_true];have:=EJ (nm:=fun s:aG=>s.Name) (n:=e.Name) (old:=fun _=>⟨e.Name,e.yO⟩) (new:=⟨e.Name,e.yO⟩) (xs:=b.ak);refine ⟨by omega,by omega,?_⟩;unfold w6;omega
 | false=>
 simp only [cond_false]
 cases e.Kind==6 with
 | true=>
  simp only [cond_true];unfold AH;split
  ·rename_i c _
   cases decide (dv (lY e.Name) b.af 0<0)<;>cases (c.bY==0)<;>simp<;>omega
  ·simp;omega
 | false=>simp;omega
def U7:aa:=⟨0,[],[],[]⟩
def res (b:aa) (e:aJ):aa×Int:=cond (!vB b) (U7,1) (cond (decide (b.bM≥1000000)) (cond (!eC e.Kind 1 6) (b,4) (b,7)) (UZ b (tq b e)))
theorem g8 {b:aa} {e:aJ} (hb:E6 b):G8 b e=some (res b e):=by
 obtain ⟨h1,h2,h3⟩:=hb
 have:Ok (G8 b e) (fun r=>r=res b e):=by
  unfold G8 G8n res;rw [Fv h1 h2 h3,Option.bind_some]
  refine qS (fun h=>?_) fun h=>?_
  ·rw [h];exact aC rfl
  obtain ⟨v1,v2,v3⟩:=rG h;rw [h,g27 h1 h2 h3];simp only [Option.bind_some,Bool.not_true,cond_false]
  refine cU (fun h=>?_) fun h=>?_
  ·simp only [h,decide_true,cond_true,Qk,Option.bind_some]
   cases eC e.Kind 1 6<;>exact aC rfl
  simp only [h,decide_false,cond_false];refine lH (bO (ok28 (by omega) (by omega) (by omega)) ?_)
  rintro r rfl
  obtain ⟨l1,l2,l3⟩:=Oo (b:=b) (e:=e) (by omega) (by omega) (by omega);refine lH ?_;rw [Fv (by omega) (by omega) (by omega),g27 (by omega) (by omega) (by omega)];simp only [Option.bind_some];unfold UZ fin
  cases hc:((tq b e).2==0) with
  | false=>
   have:((tq b e).2 != 0)=true:=by simp only [bne,hc];rfl
   rw [this];exact aC rfl
  | true=>
   have h0:((tq b e).2 != 0)=false:=by simp only [bne,hc];rfl
   rw [h0];cases vB (tq b e).1<;>exact aC rfl
 obtain ⟨r,e1,rfl⟩:=this;exact e1
end Go.Proofs.Ytipemmgoipbojaa.Ab
set_option maxRecDepth 10000
namespace Go.Proofs.Ytipemmgoipbojaa.Ab
open Go Go.RowKit Go.IntKind
theorem d110 (n d:Nat) (h:0<d):sX n d=V3 n (sX n (d-1)):=by
 obtain ⟨m,rfl⟩:∃ k,d=k+1:=⟨d-1,by omega⟩;rfl
theorem d40 (n d:Nat) (h:0<d):Gj n d=B40 n (Gj n (d-1)):=by
 obtain ⟨m,rfl⟩:∃ k,d=k+1:=⟨d-1,by omega⟩;rfl
theorem d70 (n d:Nat) (h:0<d):rq n d=B70 n (rq n (d-1)):=by
 obtain ⟨m,rfl⟩:∃ k,d=k+1:=⟨d-1,by omega⟩;rfl
theorem fin_sm {a x:aa} (ha:Dx a):Dx (fin a x).1:=by
 unfold fin
 cases h:vB x with
 | false=>exact ha
 | true=>
  obtain ⟨v1,v2,v3⟩:=rG h;exact ⟨by simp;omega,by simp;omega,by simp;omega⟩
theorem YV {b:aa} {e:aJ} (hb:Dx b):Dx (res b e).1:=by
 unfold res;cases vB b
 ·exact ⟨by simp [U7],by simp [U7],by simp [U7]⟩
 ·cases decide (b.bM≥1000000)
  ·show Dx (UZ b (tq b e)).1
   unfold UZ;cases ((tq b e).2==0)
   ·exact hb
   ·exact fin_sm hb
  ·cases eC e.Kind 1 6<;>exact hb
def Nk (p:List aa) (ss:List ae) (cs:List ai) (bs:List aG):Prop:=p.length≤8∧(∀ x,x∈p→Dx x)∧ss.length≤1000∧cs.length≤1000∧bs.length≤1000
def Yx (r:aR):Prop:=Nk r.iS r.aV r.bH r.bI
theorem Wz {p:List aa} {nw:Int} {ss:List ae} {cs:List ai} {bs:List aG} {x:aa} (h:Nk p ss cs bs) (hx:Dx x):Ok ((sX fuel fuel) p nw ss cs bs x.bM x.af x.ah x.ak) Yx:=by
 obtain ⟨h1,h2,h3,h4,h5⟩:=h;rw [d110 _ _ ik];unfold V3
 have hall:∀ y,y∈p++[(⟨nw,ss,cs,bs⟩:aa)]→Dx y:=fun y hy=>by
  rcases List.mem_append.1 hy with hy | hy
  ·exact h2 y hy
  ·rcases List.mem_singleton.1 hy with rfl
   exact ⟨h3,h4,h5⟩
 refine bR (fun _=>aC ⟨h1,h2,h3,h4,h5⟩) fun _=>?_
 iterate 2 (refine eV (by first | (simp;done) | (simp;omega)) ?_)
 refine cU (fun hl=>?_) fun hl=>?_
 ·iterate 3 (refine eV (by first | (simp;done) | (simp;omega)) ?_)
  refine aC ⟨?_,fun y hy=>hall y ?_,hx.1,hx.2.1,hx.2.2⟩
  ·simp;omega
  ·have hy:=List.mem_of_mem_drop hy
   have hy:=List.mem_of_mem_take hy
   simpa using hy
 ·refine aC ⟨?_,fun y hy=>hall y (by simpa using hy),hx.1,hx.2.1,hx.2.2⟩
  simp at hl ⊢;omega
theorem ok40 {p:List aa} {nw age:Int} {ss:List ae} {cs:List ai} {bs:List aG} (h:Nk p ss cs bs):Ok ((Gj fuel fuel) p nw ss cs bs age) Dx:=by
 obtain ⟨h1,h2,h3,h4,h5⟩:=h;rw [d40 _ _ ik];unfold B40
 refine cU (fun _=>aC ⟨h3,h4,h5⟩) fun ha=>?_
 refine bR (fun _=>aC ⟨h3,h4,h5⟩) fun hn=>?_
 have hn:0<p.length:=by
  have:¬ (p.length:Int)=0:=by simpa using hn
  omega
 refine cU (fun hl=>?_) fun hl=>?_
 ·rw [bB (by omega) (by omega)]
  exact cT (by omega) (by omega) fun e he=>aC (h2 e (List.mem_of_getElem? he))
 ·rw [bB (by omega) (by omega)]
  exact cT (by omega) (by omega) fun e he=>aC (h2 e (List.mem_of_getElem? he))
theorem Ma {p:List aa} {nw a5 a6 a7 a9 Dh X7 X6 X4 X3 a16 X0 XZ XY a20 a22:Int} {a8 XX:BA} {Gc XW:Bool} {ss:List ae} {cs:List ai} {bs:List aG} (h:Nk p ss cs bs) :
  Ok ((rq fuel fuel) p nw ss cs bs a5 a6 a7 a8 a9 Gc Dh X7 X6 X4 X3 a16 X0 XZ XY a20 XX a22 XW) (fun r=>Yx r.1):=by
 have hs:=h;obtain ⟨h1,h2,h3,h4,h5⟩:=h;rw [d70 _ _ ik];unfold B70;rw [Qk,Option.bind_some]
 refine qS (fun _=>?_) fun _=>?_
 ·rw [g8 ⟨by dsimp only;omega,by dsimp only;omega,by dsimp only;omega⟩,Option.bind_some]
  exact bO (Wz hs (YV ⟨h3,h4,h5⟩)) fun r hr=>aC hr
 ·refine bO (ok40 hs) fun b hb=>?_
  refine bO (ok19 (by have:=hb.1;omega) (by have:=hb.2.1;omega) (by have:=hb.2.2;omega)) ?_
  rintro sU ⟨q1,q2⟩
  refine eh (I:=fun x=>0≤x.2.1∧x.2.1≤(sU.length:Int)∧(x.1.length:Int)≤x.2.1∧Nk x.2.2.1 x.2.2.2.2.1 x.2.2.2.2.2.1 x.2.2.2.2.2.2) (m:=fun x=>((sU.length:Int)-x.2.1).toNat) (fun rec x hI hrc=>?_) fuel _ ⟨by simp,by simp,by simp,hs⟩ (by simp;have:=bT;omega);obtain ⟨cd,i,p',nw',ss',cs',bs'⟩:=x;obtain ⟨i0,i1,i2,i3⟩:=hI;dsimp only at i0 i1 i2 i3 hrc;unfold OU
  refine cU (fun hlt=>?_) fun _=>aC i3
  refine cT i0 hlt fun a ha=>?_
  have i3':=i3;obtain ⟨j1,j2,j3,j4,j5⟩:=i3;have:=q2 a (List.mem_of_getElem? ha)
  refine bO (ok14 (by dsimp only;omega) (by dsimp only;omega) (by dsimp only;omega) (by omega)) fun r hr=>?_
  refine lH (bO (Wz i3' hr) fun w hw=>?_);rw [bB (show -9223372036854775808≤i+1 by omega) (by omega)];exact jS (by omega) (by omega) (hrc _ ⟨by dsimp only;omega,by dsimp only;omega,by simp;omega,hw⟩ (by dsimp only;omega))
theorem Zc {w:aR} (h:Yx w):Ok (G73 w) Yx:=by
 obtain ⟨h1,h2,h3,h4,h5⟩:=h;unfold G73 VA;rw [g27 (by dsimp only;omega) (by dsimp only;omega) (by dsimp only;omega),Option.bind_some];refine eh (I:=fun x=>0≤x.1∧x.1≤(w.iS.length:Int)∧(x.2.length:Int)≤x.1∧∀ y:aa,y∈x.2→Dx y) (m:=fun x=>((w.iS.length:Int)-x.1).toNat) (fun rec x hI hrc=>?_) fuel _ ⟨by simp,by simp,by simp,fun y hy=>by cases hy⟩ (by simp;have:=bT;omega);obtain ⟨i,l⟩:=x;obtain ⟨i0,i1,i2,i3⟩:=hI;dsimp only at i0 i1 i2 i3 hrc;unfold OS
 refine cU (fun hlt=>?_) fun _=>aC ⟨by dsimp only;omega,i3,h3,h4,h5⟩
 refine cT i0 hlt fun b hb=>?_
 have hsb:=h2 b (List.mem_of_getElem? hb);obtain ⟨s1,s2,s3⟩:=hsb;rw [g27 (by omega) (by omega) (by omega),Option.bind_some,bB (by omega) (by omega)];refine jS (by omega) (by omega) (hrc _ ⟨by dsimp only;omega,by dsimp only;omega,by simp;omega,fun z hz=>?_⟩ (by dsimp only;omega))
 rcases List.mem_append.1 hz with hz | hz
 ·exact i3 z hz
 ·rcases List.mem_singleton.1 hz with rfl
  exact ⟨s1,s2,s3⟩
theorem ok111 {w:aR} (h:Yx w):Ok (Td w) (fun _=>True):=by
 obtain ⟨h1,h2,h3,h4,h5⟩:=h;unfold Td Lu;rw [Fv (by dsimp only;omega) (by dsimp only;omega) (by dsimp only;omega),Option.bind_some]
 refine bR (fun _=>aC trivial) fun _=>bR (fun _=>aC trivial) fun _=>?_
 refine eh (I:=fun x:Int=>0≤x∧x≤(w.iS.length:Int)) (m:=fun x:Int=>((w.iS.length:Int)-x).toNat) (fun rec (i:Int) hI hrc=>?_) fuel (0:Int) ⟨by omega,by omega⟩ (by have:=bT;omega);obtain ⟨i0,i1⟩:=hI;unfold HS
 refine cU (fun hlt=>?_) fun _=>aC trivial
 have hlt:i<(w.iS.length:Int):=hlt
 refine cT i0 hlt fun b hb=>?_
 obtain ⟨s1,s2,s3⟩:=h2 b (List.mem_of_getElem? hb);rw [Fv (by omega) (by omega) (by omega),Option.bind_some]
 refine bR (fun _=>aC trivial) fun _=>cT i0 hlt fun c _=>bR (fun _=>aC trivial) fun _=>?_
 have w1:i64.wrap (i+1)=i+1:=bB (by omega) (by omega);have w2:i64.wrap (i-1)=i-1:=bB (by omega) (by omega);rw [w1,w2];have skip:Ok (rec (i+1)) (fun _=>True):=hrc (i+1) ⟨by omega,by omega⟩ (by omega)
 refine cU (fun hp=>?_) fun _=>skip
 have hp:i>0:=hp
 exact cT (by omega) (by omega) fun c _=>cT i0 hlt fun c _=>bR (fun _=>aC trivial) fun _=>skip
theorem ok112 {l:cJ} (hl:l.length≤1000):Ok (Tc l) (fun r=>r.length≤2000):=by
 unfold Tc Lt
 iterate 2 (refine eV (by first | (simp;done) | (simp;omega)) ?_)
 generalize hL:(([]:cJ)++l)++([1,2,3,4,5,6]:cJ)=L
 have hLl:L.length≤1006:=by rw [←hL];simp;omega
 clear hL;refine eh (I:=fun x=>0≤x.2∧x.2≤(L.length:Int)∧(x.1.length:Int)≤x.2) (m:=fun x=>((L.length:Int)-x.2).toNat) (fun rec x hI hrc=>?_) fuel _ ⟨by simp,by simp,by simp⟩ (by simp;have:=bT;omega);obtain ⟨out,i⟩:=x;obtain ⟨i0,i1,i2⟩:=hI;dsimp only at i0 i1 i2 hrc;unfold HR
 refine cU (fun hlt=>?_) fun _=>aC (by omega)
 refine eh (I:=fun x=>0≤x.2∧x.2≤(out.length:Int)) (m:=fun x=>((out.length:Int)-x.2).toNat) (fun dg x hI1 MF=>?_) fuel _ ⟨by simp,by simp⟩ (by simp;have:=bT;omega);obtain ⟨g,k⟩:=x;obtain ⟨k0,k1⟩:=hI1;dsimp only at k0 k1 MF;unfold HQ;dsimp only;have w1:i64.wrap (i+1)=i+1:=bB (by omega) (by omega);have w2:i64.wrap (k+1)=k+1:=bB (by omega) (by omega);rw [w1,w2];have skip:Ok (rec (out,i+1)) (fun r=>r.length≤2000):=hrc _ ⟨by dsimp only;omega,by dsimp only;omega,by dsimp only;omega⟩ (by dsimp only;omega)
 refine cU (fun hk=>?_) fun hk=>?_
 ·refine bR (fun _=>MF _ ⟨by dsimp only;omega,by dsimp only;omega⟩ (by dsimp only;omega)) fun _=>?_
  exact gT k0 hk fun e _=>gT i0 hlt fun f _=>MF _ ⟨by dsimp only;omega,by dsimp only;omega⟩ (by dsimp only;omega)
 ·refine bR (fun _=>gT i0 hlt fun e _=>?_) fun _=>skip
  refine Wy fun r _=>bR (fun _=>gT i0 hlt fun f _=>?_) fun _=>skip
  exact jS (by omega) (by omega) (hrc _ ⟨by dsimp only;omega,by dsimp only;omega,by simp;omega⟩ (by dsimp only;omega))
theorem ok72 {w:aR} {k:Int} {l:cJ} (h:Yx w) (hl:l.length≤1000):Ok (G72 w k l) Yx:=by
 unfold G72 VC
 refine bO (ok111 h) fun r _=>bR (fun _=>aC ⟨by simp,fun y hy=>(by cases hy),by simp,by simp,by simp⟩) fun _=>?_
 refine bO (ok112 hl) fun st hst=>?_
 refine eh (I:=fun x:sZ=>0≤x.1∧x.1≤1000∧Nk x.2.1 x.2.2.2.1 x.2.2.2.2.1 x.2.2.2.2.2) (m:=fun x=>(1000-x.1).toNat) (fun rec x hI hrc=>?_) fuel _ ⟨by simp,by simp,h⟩ (by simp;have:=bT;omega);obtain ⟨i,p',nw',ss',cs',bs'⟩:=x;obtain ⟨i0,i1,i2⟩:=hI;dsimp only at i0 i1 i2 hrc;unfold Ju Rt
 refine cU (fun _=>cU (fun hlt=>?_) fun _=>bO (Zc i2) fun r hr=>aC hr) fun _=>bO (Zc i2) fun r hr=>aC hr
 refine bO (Ma i2) fun r hr=>?_
 refine eh (I:=fun x:yU=>0≤x.1∧x.1≤(st.length:Int)∧Nk x.2.1 x.2.2.2.1 x.2.2.2.2.1 x.2.2.2.2.2) (m:=fun x=>((st.length:Int)-x.1).toNat) (fun dg x hI1 MF=>?_) fuel _ ⟨by simp,by simp,hr⟩ (by simp;have:=bT;omega);obtain ⟨j,p2,nw2,ss2,cs2,bs2⟩:=x;obtain ⟨j0,j1,j2⟩:=hI1;dsimp only at j0 j1 j2 MF;unfold OT;dsimp only;have w1:i64.wrap (i+1)=i+1:=bB (by omega) (by omega);have w2:i64.wrap (j+1)=j+1:=bB (by omega) (by omega);rw [w1,w2]
 refine cU (fun hj=>gT j0 hj fun e _=>bO (Ma j2) fun r hr=>lH (MF _ ⟨by dsimp only;omega,by dsimp only;omega,hr⟩ (by dsimp only;omega))) fun _=>hrc _ ⟨by dsimp only;omega,by dsimp only;omega,j2⟩ (by dsimp only;omega)
end Go.Proofs.Ytipemmgoipbojaa.Ab
set_option maxRecDepth 10000
namespace Go.Proofs.Ytipemmgoipbojaa.Ab
open Go Go.RowKit Go.IntKind
theorem d21 (n d:Nat) (h:0<d):pI n d=B21 n (pI n (d-1)):=by
 obtain ⟨m,rfl⟩:∃ k,d=k+1:=⟨d-1,by omega⟩;rfl
def Vo (bs:ed) (p c:Int) (r:ed×Int×aa):Prop:=r.1=bs∧p≤r.2.1∧r.2.1≤p+c∧r.2.2.af.length≤1000∧r.2.2.ah.length≤2000∧r.2.2.ak.length≤2000
section
variable {bs:ed} {rc:(ed)→(Int)→Option (ed×Int×aa)}
theorem ZE {p nw v:Int} {ss:List ae} {cs:List ai} {be:List aG} (hb:I5 bs) (h0:0≤p) (h1:p≤PT-3000) (hs:ss.length≤1000) (hs0:0<ss.length) (hc:cs.length≤1000) (Hb:be.length≤1000) (hbe0:0<be.length) (hv:0≤v) (hv2:v<10) :
  Ok (bS (JF (i64.wrap ((ss.length:Int)-1)) (i64.wrap (200-v)) nw be fuel rc) fuel (bs,p,ss,cs)) (Vo bs p 2000):=by
 unfold PT at h1;rw [bB (show -9223372036854775808≤(ss.length:Int)-1 by omega) (by omega),bB (show -9223372036854775808≤200-v by omega) (by omega)];refine eh (I:=fun x:vf=>x.1=bs∧p≤x.2.1∧x.2.1≤p+(x.2.2.2.length:Int)∧x.2.2.1.length=ss.length∧x.2.2.2.length≤1000) (m:=fun x:vf=>(1000-(x.2.2.2.length:Int)).toNat) (fun rec x hI hrc=>?_) fuel _ ⟨rfl,by dsimp only;omega,by dsimp only;omega,rfl,hc⟩ (by dsimp only;have:=bT;omega);obtain ⟨b,q,s',c'⟩:=x;obtain ⟨rfl,i1,i2,i3,i4⟩:=hI;dsimp only at i1 i2 i3 i4 hrc;unfold JF
 refine cU (fun hlt=>?_) fun _=>aC ⟨rfl,by dsimp only;omega,by dsimp only;omega,by dsimp only;omega,by dsimp only;omega,by dsimp only;omega⟩
 refine gT (by omega) (by omega) fun e1 _=>gT (by omega) (by omega) fun e2 _=>gT (i:=(0:Int)) (Int.le_refl 0) (by omega) fun e3 _=>?_
 refine gC hb (by omega) (by unfold PT;omega) fun v g1 g2=>?_
 dsimp only;refine jS (by omega) (by omega) (gT (by omega) (by omega) fun e1 _=>gT (by omega) (by omega) fun e2 _=>?_);refine hrc _ ⟨rfl,?_,?_,?_,?_⟩ ?_<;>dsimp only<;>(try simp only [List.length_append,List.length_cons,List.length_nil,List.length_set])<;>omega
theorem ZF {p nw k:Int} {pa:List aa} {ss:List ae} {cs:List ai} {be:List aG} (hb:I5 bs) (h0:0≤p) (h1:p≤PT-400000) (hk:k≤50) (hw:Nk pa ss cs be) :
  Ok (bS (EB fuel rc) fuel (k,bs,p,pa,nw,ss,cs,be)) (Vo bs p 300000):=by
 unfold PT at h1;refine eh (I:=fun x:qI=>x.1≤50∧x.2.1=bs∧p≤x.2.2.1∧(x.2.2.1≤p+(50-x.1)*3100)∧(0≤x.1∨x.1=k)∧(x.1<0→x.2.2.1≤p)∧Nk x.2.2.2.1 x.2.2.2.2.2.1 x.2.2.2.2.2.2.1 x.2.2.2.2.2.2.2) (m:=fun x:qI=>x.1.toNat) (fun rec x hI hrc=>?_) fuel _ ⟨hk,rfl,Int.le_refl _,by dsimp only;omega,.inr rfl,fun _=>Int.le_refl _,hw⟩ (by dsimp only;have:=bT;omega);obtain ⟨i,b,q,p',nw',s',c',be'⟩:=x;obtain ⟨i0,rfl,i1,i2,i3,i4,i5⟩:=hI;dsimp only at i0 i1 i2 i3 i4 i5 hrc;have i5':=i5;obtain ⟨w1,w2,w3,w4,w5⟩:=i5;unfold EB Ry;dsimp only
 refine cU (fun hlt=>?_) fun hlt=>?_
 ·refine ok_mv hb (by omega) (by unfold PT;omega) w3 (by omega) fun q' m m1 m2=>?_
  dsimp only
  refine bO (Ma i5') fun r hr=>lH ?_
  refine gC hb (by omega) (by unfold PT;omega) fun v g1 g2=>?_
  dsimp only;rw [bB (show -9223372036854775808≤i-1 by omega) (by omega)]
  refine bR (fun _=>?_) fun _=>?_
  ·iterate 3 (refine gC hb (by omega) (by unfold PT;omega) fun v g1 g2=>?_;dsimp only)
   refine bO (ok72 hr (by simp)) fun z hz=>?_
   refine hrc _ ⟨?_,rfl,?_,?_,?_,?_,hz⟩ ?_<;>dsimp only<;>omega
  ·refine hrc _ ⟨?_,rfl,?_,?_,?_,?_,hr⟩ ?_<;>dsimp only<;>omega
 ·have hq:q≤p+160000:=by
   rcases i3 with i3 | i3
   ·omega
   ·rcases Int.lt_or_le i 0 with hi | hi
    ·have:=i4 hi;omega
    ·omega
  refine bO (Zc i5') fun w hw=>?_
  obtain ⟨z1,z2,z3,z4,z5⟩:=hw
  refine gC hb (by omega) (by unfold PT;omega) fun u g1 g2=>?_
  have g3:=g2 (by omega);clear g2;dsimp only
  refine bR (fun _=>?_) fun _=>?_
  ·rw [g27 (by dsimp only;omega) (by dsimp only;omega) (by dsimp only;omega),Option.bind_some]
   refine gC hb (by omega) (by unfold PT;omega) fun v a1 a2=>?_
   refine gC hb (by dsimp only;omega) (by dsimp only;unfold PT;omega) fun y b1 b2=>?_
   dsimp only at a2 b2 ⊢
   refine bR (fun _=>aC ⟨rfl,?_,?_,?_,?_,?_⟩) fun n1=>?_
   iterate 5 (simp<;>omega)
   refine bR (fun _=>aC ⟨rfl,?_,?_,?_,?_,?_⟩) fun n2=>?_
   iterate 5 (simp<;>omega)
   have n1:¬ (w.aV.length:Int)=0:=by simpa using n1
   have n2:¬ (w.bH.length:Int)=0:=by simpa using n2
   have a3:=a2 (by omega);have b3:=b2 (by omega);clear a2 b2
   refine gC hb (by omega) (by unfold PT;omega) fun t g1 g2=>?_
   clear g2;dsimp only
   repeat' (first
    | (refine gC hb (by omega) (by unfold PT;omega) fun t g1 g2=>?_;have g3:=g2 (by omega);clear g2;dsimp only)
    | (refine gT (by omega) (by first | omega | (simp only [List.length_cons,List.length_nil];omega) | (simp only [List.length_set];omega)) fun e he=>?_)
    | (refine jS (by omega) (by omega) ?_)
    | (refine aC ⟨rfl,?_,?_,?_,?_,?_⟩<;>(dsimp only;(try simp only [List.length_append,List.length_cons,List.length_nil,List.length_set]);omega))
    | (refine bR (fun _=>?_) fun _=>?_))
  ·refine bR (fun _=>?_) fun _=>bR (fun _=>?_) fun _=>bR (fun _=>?_) fun _=>aC ⟨rfl,?_,?_,?_,?_,?_⟩
   ·refine gC hb (by omega) (by unfold PT;omega) fun v a1 a2=>?_
    dsimp only;refine aC ⟨rfl,?_,?_,?_,?_,?_⟩<;>dsimp only<;>omega
   ·refine cU (fun s1=>cU (fun s2=>?_) fun _=>aC ⟨rfl,?_,?_,?_,?_,?_⟩) fun _=>aC ⟨rfl,?_,?_,?_,?_,?_⟩
    ·refine gC hb (by omega) (by unfold PT;omega) fun v a1 a2=>?_
     have a3:=a2 (by omega);dsimp only;refine rZ (ZE hb (by omega) (by unfold PT;omega) z3 (by omega) z4 z5 (by omega) a1 (by omega)) ?_
     rintro r ⟨y1,y2,y3,y4,y5,y6⟩
     exact ⟨y1,by omega,by omega,y4,y5,y6⟩
    all_goals (dsimp only;omega)
   ·refine cU (fun s1=>?_) fun _=>aC ⟨rfl,?_,?_,?_,?_,?_⟩
    ·refine gC hb (by omega) (by unfold PT;omega) fun v a1 a2=>?_
     dsimp only
     refine gT (i:=(0:Int)) (Int.le_refl 0) (by omega) fun e _=>aC ⟨rfl,?_,?_,?_,?_,?_⟩<;>dsimp only<;>(try simp only [List.length_set])<;>omega
    all_goals (dsimp only;omega)
   all_goals (dsimp only;omega)
theorem PA {p nw k:Int} {pa:List aa} {ss:List ae} {cs:List ai} {be:List aG} (hb:I5 bs) (h0:0≤p) (h1:p≤PT-500000) (hk0:0≤k) (hk:k≤10) (hw:Nk pa ss cs be) :
  Ok (bS (Ac fuel rc) fuel (k,bs,p,pa,nw,ss,cs,be)) (Vo bs p 310000):=by
 unfold PT at h1;refine eh (I:=fun x:s4=>0≤x.1∧x.1≤10∧x.2.1=bs∧p≤x.2.2.1∧(x.2.2.1≤p+(10-x.1)*100)∧Nk x.2.2.2.1 x.2.2.2.2.2.1 x.2.2.2.2.2.2.1 x.2.2.2.2.2.2.2) (m:=fun x:s4=>x.1.toNat) (fun rec x hI hrc=>?_) fuel _ ⟨hk0,hk,rfl,Int.le_refl _,by dsimp only;omega,hw⟩ (by dsimp only;have:=bT;omega);obtain ⟨i,b,q,p',nw',s',c',be'⟩:=x;obtain ⟨i0,i0',rfl,i1,i2,i5⟩:=hI;dsimp only at i0 i0' i1 i2 i5 hrc;unfold Ac Rz;dsimp only
 refine cU (fun hlt=>?_) fun hlt=>?_
 ·refine Wx hb (by omega) (by unfold PT;omega) fun q' s g1 g2=>?_
  dsimp only
  refine bO (Ma i5) fun r hr=>lH ?_
  rw [bB (show -9223372036854775808≤i-1 by omega) (by omega)];refine hrc _ ⟨?_,?_,rfl,?_,?_,hr⟩ ?_<;>dsimp only<;>omega
 ·refine gC hb (by omega) (by unfold PT;omega) fun v g1 g2=>?_
  have g3:=g2 (by omega);dsimp only;refine rZ (ZF hb (by omega) (by unfold PT;omega) (by omega) i5) ?_
  rintro r ⟨y1,y2,y3,y4,y5,y6⟩
  exact ⟨y1,by omega,by omega,y4,y5,y6⟩
theorem ok21 {p:Int} (hb:I5 bs) (h0:0≤p) (h1:p≤PT-600000):Ok ((pI fuel fuel) bs p) (Vo bs p 320000):=by
 unfold PT at h1;have hw0:Nk [] [] [] []:=⟨by simp,fun x hx=>(by cases hx),by simp,by simp,by simp⟩;rw [d21 _ _ ik];unfold B21
 refine bO (Ma hw0) fun r hr=>?_
 refine gC hb (by omega) (by unfold PT;omega) fun v g1 g2=>?_
 dsimp only
 refine bR (fun _=>?_) fun _=>?_
 ·refine bO (Ma hr) fun r hr=>?_
  refine gC hb (by omega) (by unfold PT;omega) fun v g1 g2=>?_
  have g3:=g2 (by omega);dsimp only;rw [bB (by omega) (by omega)];refine rZ (PA hb (by omega) (by unfold PT;omega) (by omega) (by omega) hr) ?_
  rintro r ⟨y1,y2,y3,y4,y5,y6⟩
  exact ⟨y1,by omega,by omega,y4,y5,y6⟩
 ·refine gC hb (by omega) (by unfold PT;omega) fun v g1 g2=>?_
  have g3:=g2 (by omega);dsimp only;rw [bB (by omega) (by omega)];refine rZ (PA hb (by omega) (by unfold PT;omega) (by omega) (by omega) hr) ?_
  rintro r ⟨y1,y2,y3,y4,y5,y6⟩
  exact ⟨y1,by omega,by omega,y4,y5,y6⟩
end
theorem ok_21 {β:Type} {bs:ed} {p:Int} {f:ed×Int×aa→Option β} {Q:β→Prop} (hb:I5 bs) (h0:0≤p) (h1:p≤PT-600000) (hf:∀ p' b,p≤p'→p'≤p+320000→b.af.length≤1000→b.ah.length≤2000→b.ak.length≤2000→Ok (f (bs,p',b)) Q):Ok (Option.bind ((pI fuel fuel) bs p) f) Q:=
 bO (ok21 hb h0 h1) fun r ⟨e1,e2,e3,e4,e5,e6⟩=>by
  obtain ⟨b,q,v⟩:=r;simp only at e1;subst e1;exact hf q v e2 e3 e4 e5 e6
end Go.Proofs.Ytipemmgoipbojaa.Ab
set_option maxRecDepth 10000
namespace Go.Proofs.Ytipemmgoipbojaa.Ab
open Go Go.RowKit Go.IntKind
theorem foldI {α B A R:Type} {f:B→α→B} {xs:List α} {st:Nat→B→A} {eR:(A→Option R)→A→Option R} (I:Nat→B→Prop) (fin:B→Option R) (hl:xs.length≤1048576)
  (hend:∀ rec b,I xs.length b→eR rec (st xs.length b)=fin b) (hstep:∀ rec i (hi:i<xs.length) b,I i b→eR rec (st i b)=rec (st (i+1) (f b xs[i]))∧I (i+1) (f b xs[i])) {i0:Nat} (h0:i0≤xs.length) (b:B) (hI:I i0 b):bS eR fuel (st i0 b)=fin ((xs.drop i0).foldl f b):=by
 have key:∀ n i b,i≤xs.length→I i b→xs.length-i<n→bS eR n (st i b)=fin ((xs.drop i).foldl f b):=by
  intro n
  induction n with
  | zero=>intro i b _ _ h;omega
  | succ n ih=>
   intro i b hi hb hn;rw [kY]
   rcases Nat.lt_or_ge i xs.length with h | h
   ·obtain ⟨e1,e2⟩:=hstep (bS eR n) i h b hb
    rw [e1,ih (i+1) _ (by omega) e2 (by omega),List.drop_eq_getElem_cons h,List.foldl_cons]
   ·have:i=xs.length:=by omega
    subst this;rw [hend _ _ hb,List.drop_length];rfl
 exact key fuel i0 b h0 hI (by have:=bT;omega)
theorem mP {α:Type} (p:α→Bool) (xs:List α):(dv p xs 0 = -1∧xs.find? p=none)∨∃ i:Nat,∃ h:i<xs.length,dv p xs 0=(i:Int)∧xs.find? p=some xs[i]∧p xs[i]=true:=by
 rcases dQ p xs with ⟨e,h⟩ | ⟨i,hi,e,hp,hb⟩
 ·exact .inl ⟨e,List.find?_eq_none.2 fun x hx=>by rw [h x hx];simp⟩
 ·refine .inr ⟨i,hi,e,?_,hp⟩
  rw [List.find?_eq_some_iff_getElem];exact ⟨hp,i,hi,rfl,fun j hj=>by rw [hb j hj];rfl⟩
def n8 (bs:List aG) (c:ai):Bool:=match bs.find? (Bq c.bE) with
 | some x=>x.qF
 | none=>false
theorem g117 {b:aa} {c:ai} (hb:b.ak.length≤1048576):yN b c=some (n8 b.ak c):=by
 unfold yN Ls n8;rw [g67 hb,Option.bind_some]
 rcases mP (Bq c.bE) b.ak with ⟨e,h⟩ | ⟨i,hi,e,h,_⟩
 ·rw [e,h];rfl
 ·have h0:((i:Nat):Int)≥0:=by omega
  rw [e,h];simp only [h0,decide_true,cond_true,Int.natCast_nonneg,get_cast hi,Option.bind_some]
theorem g85 {b:aa} {c:ai} (hb:b.ak.length≤1048576):G85 b c=some (n8 b.ak c):=by
 unfold G85 Vu n8
 have:=kI (p:=Bq c.bE) (st:=fun i=>((i:Nat):Int)) (eR:=Ek b c.bE (b.ak.length:Int) fuel) hb (fun i=>match b.ak[i]? with | some x=>some x.qF | none=>none) (some false) (fun rec=>by simp [Ek]) (fun rec i hi=>by
  have h1:(i:Int)<(b.ak.length:Int):=by omega
  simp only [Ek,h1,decide_true,cond_true,Int.natCast_nonneg,get_cast hi,Option.bind_some,Bq,List.getElem?_eq_getElem hi]
  rw [aZ (by omega)])
 refine Eq.trans this ?_
 rcases mP (Bq c.bE) b.ak with ⟨e,h⟩ | ⟨i,hi,e,h,_⟩
 ·rw [e,h];rfl
 ·have h0:¬ ((i:Nat):Int)<0:=by omega
  rw [e,h];simp only [h0,decide_false,cond_false,Int.toNat_natCast,List.getElem?_eq_getElem hi]
def one (x:Bool):Int:=cond x 1 0
theorem g84 (x:Bool):Vv x=some (one x):=by cases x<;>rfl
def DV (gD:Int) (bs:List aG) (x y:ai):Bool:=
 cond (!((x.State != 3)==(y.State != 3))) (x.State != 3) (cond (!((x.ax != gD)==(y.ax != gD))) (x.ax != gD) (cond (!(n8 bs x==n8 bs y)) (n8 bs x) (decide (x.Number>y.Number))))
theorem g124 {b:aa} {x y:ai} {gD:Int} (hb:b.ak.length≤1048576):Nb b x y gD=some (DV gD b.ak x y):=by
 unfold Nb Lp DV;simp only [g117 hb,Option.bind_some];cases (!((x.State != 3)==(y.State != 3)))<;>(try rfl);cases (!((x.ax != gD)==(y.ax != gD)))<;>(try rfl);cases (!(n8 b.ak x==n8 b.ak y))<;>rfl
def pick (gD:Int) (bs:List aG) (m c:ai):ai:=cond (DV gD bs c m) c m
def ou (c:ai):Prop:=0≤c.Number∧c.Number≤1000000
def stF (i:Nat) (m:ai):qG:=(((i:Nat):Int),m.aq,m.Number,m.Version,m.ax,m.State,m.Ending,m.bE)
theorem Zy {bs:List aG} {gD:Int} {l:List ai} {i:Nat} (hi:i<l.length) (hl:l.length≤1048576) (m:ai) (hc:ou l[i]) (hm:ou m) (aM:qG→Option ai) :
  bS (zX ([i64.wrap (one (l[i].State==3)-one (m.State==3)),i64.wrap (one (l[i].ax==gD)-one (m.ax==gD)),i64.wrap (one (!n8 bs l[i])-one (!n8 bs m))]:cJ) (([i64.wrap (one (l[i].State==3)-one (m.State==3)),i64.wrap (one (l[i].ax==gD)-one (m.ax==gD)),i64.wrap (one (!n8 bs l[i])-one (!n8 bs m))]:cJ).length:Int) l ((i:Nat):Int) l[i].Number m.Number m.aq m.Number m.Version m.ax m.State m.Ending m.bE fuel aM) fuel 0 =
   aM (stF (i+1) (pick gD bs m l[i])):=by
 obtain ⟨n,hn⟩:∃ n,fuel=n+4:=⟨fuel-4,by have:=bT;omega⟩
 have hd:decide (i64.wrap (m.Number-l[i].Number)<0)=decide (l[i].Number>m.Number):=by
  rw [bB (by unfold ou at *;omega) (by unfold ou at *;omega)]
  congr 1
  exact propext ⟨fun h=>by omega,fun h=>by omega⟩
 rw [show bS (zX ([i64.wrap (one (l[i].State==3)-one (m.State==3)),i64.wrap (one (l[i].ax==gD)-one (m.ax==gD)),i64.wrap (one (!n8 bs l[i])-one (!n8 bs m))]:cJ) (([i64.wrap (one (l[i].State==3)-one (m.State==3)),i64.wrap (one (l[i].ax==gD)-one (m.ax==gD)),i64.wrap (one (!n8 bs l[i])-one (!n8 bs m))]:cJ).length:Int) l ((i:Nat):Int) l[i].Number m.Number m.aq m.Number m.Version m.ax m.State m.Ending m.bE fuel aM) fuel 0=bS (zX ([i64.wrap (one (l[i].State==3)-one (m.State==3)),i64.wrap (one (l[i].ax==gD)-one (m.ax==gD)),i64.wrap (one (!n8 bs l[i])-one (!n8 bs m))]:cJ) (([i64.wrap (one (l[i].State==3)-one (m.State==3)),i64.wrap (one (l[i].ax==gD)-one (m.ax==gD)),i64.wrap (one (!n8 bs l[i])-one (!n8 bs m))]:cJ).length:Int) l ((i:Nat):Int) l[i].Number m.Number m.aq m.Number m.Version m.ax m.State m.Ending m.bE fuel aM) (n+4) 0 by rw [←hn]];have e0:i64.wrap ((0:Int)+1)=1:=rfl;have e1:i64.wrap ((1:Int)+1)=2:=rfl;have e2:i64.wrap ((2:Int)+1)=3:=rfl
 have f0:((0:Int)<3):=by omega
 have f1:((1:Int)<3):=by omega
 have f2:((2:Int)<3):=by omega
 have f3:¬ ((3:Int)<3):=by omega
 have z0:(0:Int)≤0:=by omega
 have z1:(0:Int)≤1:=by omega
 have z2:(0:Int)≤2:=by omega
 have hlen:∀ a b c:Int,(([a,b,c]:cJ).length:Int)=3:=fun _ _ _=>rfl
 have t0:(0:Int).toNat=0:=rfl;have t1:(1:Int).toNat=1:=rfl;have t2:(2:Int).toNat=2:=rfl
 have g0:∀ a b c:Int,([a,b,c]:cJ)[0]?=some a:=fun _ _ _=>rfl
 have g1:∀ a b c:Int,([a,b,c]:cJ)[1]?=some b:=fun _ _ _=>rfl
 have g2:∀ a b c:Int,([a,b,c]:cJ)[2]?=some c:=fun _ _ _=>rfl
 have w1:i64.wrap ((1:Int)-1)=0:=rfl;have w2:i64.wrap ((1:Int)-0)=1:=rfl;have w3:i64.wrap ((0:Int)-1) = -1:=rfl;have w4:i64.wrap ((0:Int)-0)=0:=rfl;have n1:((0:Int) != 0)=false:=rfl;have n2:((1:Int) != 0)=true:=rfl;have n3:((-1:Int) != 0)=true:=rfl;have m1:decide ((1:Int)<0)=false:=rfl;have m2:decide ((-1:Int)<0)=true:=rfl;have hs:(l[i].State != 3) = !(l[i].State==3):=rfl;have Ih:(m.State != 3) = !(m.State==3):=rfl;have hi1:(l[i].ax != gD) = !(l[i].ax==gD):=rfl;have hi2:(m.ax != gD) = !(m.ax==gD):=rfl;unfold pick DV;rw [hs,Ih,hi1,hi2];simp only [kY,zX,hlen,f0,f1,f2,f3,z0,z1,z2,t0,t1,t2,g0,g1,g2,decide_true,decide_false,cond_true,cond_false,Option.bind_some,e0,e1,e2,hd,Int.natCast_nonneg,get_cast hi,aZ (show i<4611686018427387904 by omega)];generalize (l[i].State==3)=b1;generalize (m.State==3)=b2;generalize (l[i].ax==gD)=b3;generalize (m.ax==gD)=b4;generalize n8 bs l[i]=b5;generalize n8 bs m=b6;generalize decide (l[i].Number>m.Number)=b7;cases b1<;>cases b2<;>cases b3<;>cases b4<;>cases b5<;>cases b6<;>cases b7<;>rfl
theorem Mb {gD:Int} {bs:List aG} {m c:ai} (h:ou m) (h2:ou c):ou (pick gD bs m c):=by unfold pick;cases DV gD bs c m<;>assumption
theorem g91 {b:aa} {s:ae} {c:ai} {r:List ai} (hb:b.ak.length≤1048576) (hl:(c::r).length≤1048576) (hn:∀ x∈c::r,ou x):M6 b s (c::r)=some (r.foldl (pick s.ax b.ak) c):=by
 unfold M6 Vt
 have h0:¬ (((c::r).length:Int)<1):=by simp only [List.length_cons];omega
 have z0:(0:Int)≤0:=by omega
 simp only [h0,decide_false,cond_false,z0,decide_true,cond_true];show bS (uJ (c::r) s b fuel) fuel (stF 1 c)=_
 have:=foldI (α:=ai) (f:=pick s.ax b.ak) (xs:=c::r) (st:=stF) (eR:=uJ (c::r) s b fuel) (fun _ m=>ou m) (fun m=>some m) hl (fun rec m _=>by
   simp only [stF,uJ,KT,Int.lt_irrefl,decide_false,cond_false]) (fun rec i hi m hm=>by
   have q1:(i:Int)<((c::r).length:Int):=by omega
   refine ⟨?_,Mb hm (hn _ (List.getElem_mem hi))⟩;show uJ (c::r) s b fuel rec (stF i m)=_;rw [←Zy hi hl m (hn _ (List.getElem_mem hi)) hm rec]
   simp only [stF,uJ,KT,q1,decide_true,cond_true,Int.natCast_nonneg,get_cast hi,Option.bind_some,g84,g85 hb]) (i0:=1) (by simp) c (hn c (by simp))
 exact this
end Go.Proofs.Ytipemmgoipbojaa.Ab
set_option maxRecDepth 10000
namespace Go.Proofs.Ytipemmgoipbojaa.Ab
open Go Go.RowKit
theorem okI {B A R:Type} {st:Nat→B→A} {eR:(A→Option R)→A→Option R} {Q:R→Prop} {len:Nat} (I:Nat→B→Prop) (hl:len≤1048576)
  (hend:∀ rec b,I len b→Ok (eR rec (st len b)) Q) (hstep:∀ rec i,i<len→∀ b,I i b→(∀ b',I (i+1) b'→Ok (rec (st (i+1) b')) Q)→Ok (eR rec (st i b)) Q) (b:B) (hI:I 0 b):Ok (bS eR fuel (st 0 b)) Q:=by
 have key:∀ n i b,i≤len→I i b→len-i<n→Ok (bS eR n (st i b)) Q:=by
  intro n
  induction n with
  | zero=>intro i b _ _ h;omega
  | succ n ih=>
   intro i b hi hb hn;rw [kY]
   rcases Nat.lt_or_ge i len with h | h
   ·exact hstep _ i h b hb fun b' hb'=>ih (i+1) b' (by omega) hb' (by omega)
   ·have:i=len:=by omega
    subst this;exact hend _ b hb
 exact key fuel 0 b (Nat.zero_le _) hI (by have:=bT;omega)
def yL (cs:List ai) (L:List Int) (l:List ai):Prop:=L.length=l.length∧∀ j (h:j<l.length),∃ i:Int,L[j]?=some i∧0≤i∧cs[i.toNat]?=some l[j]
theorem yL.snoc {cs l:List ai} {L:List Int} {i:Int} {c:ai} (h:yL cs L l) (h0:0≤i) (hc:cs[i.toNat]?=some c):yL cs (L++[i]) (l++[c]):=by
 obtain ⟨h1,h2⟩:=h;refine ⟨by simp [h1],fun j hj=>?_⟩
 rcases Nat.lt_or_ge j l.length with h | h
 ·obtain ⟨i',e,q⟩:=h2 j h
  exact ⟨i',by rw [List.getElem?_append_left (by omega)];exact e,by rw [List.getElem_append_left h];exact q⟩
 ·have:j=l.length:=by simp at hj;omega
  subst this;exact ⟨i,by rw [←h1];simp,h0,by simpa using hc⟩
theorem yL.nil (cs:List ai):yL cs [] []:=⟨rfl,fun j h=>by simp at h⟩
theorem wK {α:Type} {p:α→Bool} {xs:List α} {i:Nat} (h:i<xs.length):(xs.take (i+1)).filter p=(xs.take i).filter p++cond (p xs[i]) [xs[i]] []:=by
 rw [List.take_succ_eq_append_getElem h,List.filter_append];cases hp:p xs[i]<;>simp [hp]
theorem CW {α:Type} (p:α→Bool) (xs:List α):(xs.filter p).length≤xs.length:=List.length_filter_le p xs
def lN (n:BA) (c:ai):Bool:=decide (c.aq=n) && !c.Ending
def dV (cs:List ai) (n:BA):List ai:=cs.filter (lN n)
theorem k99 {b:aa} {n:BA} (hc:b.ah.length≤1000):Ok (S4 b n) (fun L=>yL b.ah L (dV b.ah n)):=by
 unfold S4 SZ;refine okI (st:=fun i (L:cJ)=>(L,((i:Nat):Int))) (len:=b.ah.length) (fun i L=>yL b.ah L ((b.ah.take i).filter (lN n))∧L.length≤i) (by omega) (fun rec L h=>?_) (fun rec i hi L h hr=>?_) [] ⟨yL.nil _,Nat.zero_le _⟩
 ·simp only [Ee,Int.lt_irrefl,decide_false,cond_false]
  obtain ⟨h,_⟩:=h;rw [List.take_length] at h;exact aC h
 ·obtain ⟨h,hlen⟩:=h
  have q1:(i:Int)<(b.ah.length:Int):=by omega
  rw [wK hi] at hr;simp only [Ee,q1,decide_true,cond_true,Int.natCast_nonneg,get_cast hi,Option.bind_some,aZ (show i<4611686018427387904 by omega)];have e:lN n b.ah[i]=(decide (b.ah[i].aq=n) && !b.ah[i].Ending):=rfl;rw [e] at hr
  cases h1:decide (b.ah[i].aq=n) with
  | false=>
   rw [h1] at hr;simp only [Bool.false_and,cond_false,List.append_nil] at hr ⊢;exact hr _ ⟨h,by omega⟩
  | true=>
   rw [h1] at hr
   cases h2:b.ah[i].Ending with
   | true=>
    rw [h2] at hr;simp only [Bool.not_true,Bool.and_false,cond_false,List.append_nil,cond_true] at hr ⊢;exact hr _ ⟨h,by omega⟩
   | false=>
    rw [h2] at hr;simp only [Bool.not_false,Bool.and_true,cond_true] at hr ⊢;exact jS (by omega) (by omega) (hr _ ⟨h.snoc (by omega) (by simp [hi]),by simp;omega⟩)
def Jb (w gD:Int) (bs:List aG) (c:ai):Bool:=((w==2)&&(c.ax != gD))||(((w==6)&&n8 bs c)||((w==3)&&(c.State==4)))
theorem k98 {b:aa} {s:ae} {w:Int} (hc:b.ah.length≤1000) (hb:b.ak.length≤1048576):Ok (S6 b s w) (fun L=>yL b.ah L ((dV b.ah s.Name).filter (Jb w s.ax b.ak))):=by
 unfold S6 S5
 refine bO (k99 hc) fun L0 hL=>?_
 have MI:=CW (lN s.Name) b.ah;generalize hlv:dV b.ah s.Name=l at hL ⊢
 have hl:l.length≤1000:=by rw [←hlv];exact Nat.le_trans MI hc
 have MN:L0.length=l.length:=hL.1;refine okI (st:=fun i (L:cJ)=>(L,((i:Nat):Int))) (len:=l.length) (fun i L=>yL b.ah L ((l.take i).filter (Jb w s.ax b.ak))∧L.length≤i) (by omega) (fun rec L h=>?_) (fun rec i hi L h hr=>?_) [] ⟨yL.nil _,Nat.zero_le _⟩
 ·simp only [Ef,MN,Int.lt_irrefl,decide_false,cond_false]
  obtain ⟨h,_⟩:=h;rw [List.take_length] at h;exact aC h
 ·obtain ⟨h,hlen⟩:=h
  obtain ⟨k,e1,e2,e3⟩:=hL.2 i hi
  have q1:(i:Int)<(l.length:Int):=by omega
  have Qw:(L0:cJ)[((i:Nat):Int).toNat]?=some k:=by simpa using e1
  rw [wK hi] at hr;simp only [Ef,MN,q1,decide_true,cond_true,Int.natCast_nonneg,Qw,e2,e3,Option.bind_some,aZ (show i<4611686018427387904 by omega),g117 hb]
  have no:Jb w s.ax b.ak l[i]=false→Ok (rec (L,((i+1:Nat):Int))) (fun L=>yL b.ah L (l.filter (Jb w s.ax b.ak))):=fun hp=>by
   rw [hp] at hr;simp only [cond_false,List.append_nil] at hr;exact hr _ ⟨h,by omega⟩
  have yes:Jb w s.ax b.ak l[i]=true→Ok (cond (decide ((L.length+([k]:cJ).length)*8≤140737488355328)) (rec (L++([k]:cJ),((i+1:Nat):Int))) none) (fun L=>yL b.ah L (l.filter (Jb w s.ax b.ak))):=fun hp=>by
   rw [hp] at hr;simp only [cond_true] at hr;exact jS (by omega) (by omega) (hr _ ⟨h.snoc e2 e3,by simp;omega⟩)
  clear hr;have e:Jb w s.ax b.ak l[i]=(((w==2)&&(l[i].ax != s.ax))||(((w==6)&&n8 b.ak l[i])||((w==3)&&(l[i].State==4)))):=rfl;generalize Jb w s.ax b.ak l[i]=bv at e no yes
  cases h2:(w==2)<;>cases h3:(l[i].ax != s.ax)<;>cases h4:(w==6)<;>cases h5:n8 b.ak l[i]<;>cases h6:(w==3)<;>cases h7:(l[i].State==4)<;>rw [h2,h3,h4,h5,h6,h7] at e<;>simp only [cond_true,cond_false,Bool.and_true,Bool.and_false,Bool.or_true,Bool.or_false,Bool.true_or,Bool.false_or] at e ⊢ <;>first | exact no e | exact yes e
def toEnd (c:ai):cu:=⟨c.Number,c.Version⟩
theorem k97 {b:aa} {L:cJ} {l:List ai} (hL:yL b.ah L l) (hl:l.length≤1000):G97 b L=some (l.map toEnd):=by
 have MN:L.length=l.length:=hL.1;unfold G97 S7
 have:=foldI (f:=fun (r:List cu) c=>r++[toEnd c]) (xs:=l) (st:=fun i (r:aI)=>(r,((i:Nat):Int))) (eR:=zW L b.ah fuel) (fun i r=>r.length≤i) (fun r=>some r) (by omega) (fun rec r _=>by simp only [zW,MN,Int.lt_irrefl,decide_false,cond_false]) (fun rec i hi r hr=>by
  obtain ⟨k,e1,e2,e3⟩:=hL.2 i hi
  have q1:(i:Int)<(l.length:Int):=by omega
  have Qw:(L:cJ)[((i:Nat):Int).toNat]?=some k:=by simpa using e1
  have q2:(r.length+([(⟨l[i].Number,l[i].Version⟩:cu)]:aI).length)*16≤140737488355328:=by simp only [List.length_cons,List.length_nil];omega
  refine ⟨?_,by simp;omega⟩;simp only [zW,MN,q1,decide_true,cond_true,Int.natCast_nonneg,Qw,e2,e3,Option.bind_some,aZ (show i<4611686018427387904 by omega),q2]
  rfl) (i0:=0) (Nat.zero_le _) [] (Nat.le_refl 0)
 refine Eq.trans this ?_;rw [List.drop_zero]
 congr 1
 have:∀ (l:List ai) (r:List cu),l.foldl (fun (r:List cu) c=>r++[toEnd c]) r=r++l.map toEnd:=by
  intro l
  induction l with
  | nil=>intro r;simp
  | cons c l ih=>intro r;simp [ih]
 simpa using this l []
def ub (gD:Int) (bs:List aG) (l:List ai):List cu:=match l with
 | []=>[]
 | c::r=>[toEnd (r.foldl (pick gD bs) c)]
def stG (i:Nat) (m:ai):uB:=(((i:Nat):Int),m.aq,m.Number,m.Version,m.ax,m.State,m.Ending,m.bE)
theorem k118 {b:aa} {s:ae} {L:cJ} {l:List ai} (hb:b.ak.length≤1048576) (hL:yL b.ah L l) (hl:l.length≤1000):ux b s L=some (ub s.ax b.ak l):=by
 have MN:L.length=l.length:=hL.1;unfold ux Gm
 cases l with
 | nil=>
  have:((L.length:Int)==0)=true:=by rw [MN];rfl
  rw [this];rfl
 | cons c r=>
  have h0:((L.length:Int)==0)=false:=by rw [MN];simp;omega
  obtain ⟨k,e1,e2,e3⟩:=hL.2 0 (by simp)
  have z0:(0:Int)≤0:=by omega
  have Qw:(L:cJ)[(0:Int).toNat]?=some k:=by simpa using e1
  simp only [h0,cond_false,z0,decide_true,cond_true,Qw,e2,e3,Option.bind_some];show bS (qM L b.bM b.af b.ah b.ak s.ax fuel) fuel (stG 1 c)=_
  have:=foldI (f:=pick s.ax b.ak) (xs:=c::r) (st:=stG) (eR:=qM L b.bM b.af b.ah b.ak s.ax fuel) (fun _ _=>True) (fun m=>some [toEnd m]) (by omega) (fun rec m _=>by
    simp only [stG,qM,MN,Int.lt_irrefl,decide_false,cond_false];rfl) (fun rec i hi m _=>by
    obtain ⟨k,e1,e2,e3⟩:=hL.2 i hi
    have q1:(i:Int)<((c::r).length:Int):=by omega
    have Qw:(L:cJ)[((i:Nat):Int).toNat]?=some k:=by simpa using e1
    refine ⟨?_,trivial⟩;simp only [stG,qM,MN,q1,decide_true,cond_true,Int.natCast_nonneg,Qw,e2,e3,Option.bind_some,aZ (show i<4611686018427387904 by omega),g124 (b:=(⟨b.bM,b.af,b.ah,b.ak⟩:aa)) hb];unfold pick
    cases DV s.ax b.ak (c::r)[i] m<;>rfl) (i0:=1) (by simp) c trivial
  exact this
end Go.Proofs.Ytipemmgoipbojaa.Ab
set_option maxRecDepth 10000
namespace Go.Proofs.Ytipemmgoipbojaa.Ab
open Go Go.RowKit Go.IntKind
theorem ct77 {cs:List ai} {s:ae} (rec:BH→Option dm) (i:Nat) (hi:i<cs.length) (h:cs.length≤1048576) (t:CT) (m:Nat):zY s cs (cs.length:Int) m rec (Oi i t)=rec (Oi (i+1) (KA s.Name s.ax t cs[i])):=by
 have q1:(i:Int)<(cs.length:Int):=by omega
 simp only [Oi,zY,q1,decide_true,cond_true,Int.natCast_nonneg,get_cast hi,Option.bind_some,aZ (show i<4611686018427387904 by omega),KA];cases decide (cs[i].aq=s.Name)<;>(try rfl);cases cs[i].Ending<;>(try rfl);cases (cs[i].State==3)<;>cases (cs[i].ax != s.ax)<;>cases (cs[i].State==4)<;>rfl
theorem g77 {b:aa} {s:ae} (h:b.ah.length≤1048576):NC b s=some (FO s.Name s.ax b.ah):=
 CS (st:=Oi) (f:=KA s.Name s.ax) (eR:=zY s b.ah (b.ah.length:Int) fuel) (fun t=>some (ctV t)) h (fun rec t=>by simp [Oi,zY,ctV]) (fun rec i hi t=>ct77 rec i hi h t fuel) (0,0,0,0,0)
def Ml (s:ae) (cs:List ai) (c:ai):Bool:=cond c.Ending false (cond (c.State != 3) true (cond s.bq true (decide (i64.wrap ((FO s.Name s.ax cs).qE-1)≥i64.wrap (s.Want-s.Down)))))
def iF (b:aa) (s:ae) (n:BA) (m:Int):Bool:=match b.ah.find? (il n m) with
 | some e=>Ml s b.ah e
 | none=>false
theorem CA {b:aa} {s:ae} {n:BA} {m:Int} {eR:(Int→Option (aa×ae×Bool))→Int→Option (aa×ae×Bool)} (hc:b.ah.length≤1048576)
  (hend:∀ rec,eR rec (b.ah.length:Int)=some (b,s,false)) (hstep:∀ rec (i:Nat) (hi:i<b.ah.length),eR rec ((i:Nat):Int)=cond (il n m b.ah[i]) (some (b,s,Ml s b.ah b.ah[i])) (rec ((i+1:Nat):Int))):bS eR fuel 0=some (b,s,iF b s n m):=by
 have:=kI (p:=il n m) (xs:=b.ah) (st:=fun i=>((i:Nat):Int)) (eR:=eR) hc (fun i=>match b.ah[i]? with | some e=>some (b,s,Ml s b.ah e) | none=>none) (some (b,s,false)) hend (fun rec i hi=>by rw [hstep rec i hi,List.getElem?_eq_getElem hi]);refine Eq.trans this ?_;unfold iF
 rcases mP (il n m) b.ah with ⟨e,h⟩ | ⟨i,hi,e,h,_⟩
 ·rw [e,h];rfl
 ·have h0:¬ ((i:Nat):Int)<0:=by omega
  rw [e,h];simp only [h0,decide_false,cond_false,Int.toNat_natCast,List.getElem?_eq_getElem hi]
theorem g87 {b:aa} {s:ae} {n:BA} {m a2 a3 a4:Int} {a5:Bool} {a6:BA} (hc:b.ah.length≤1048576):(mK fuel fuel) n m a2 a3 a4 a5 a6 b s=some (b,s,iF b s n m):=by
 obtain ⟨d,hd⟩:∃ d,fuel=d+1:=⟨fuel-1,by have:=bT;omega⟩
 have e:mK fuel fuel=mK fuel (d+1):=by rw [←hd]
 rw [e];show B87 fuel (mK fuel d) n m a2 a3 a4 a5 a6 b s=_;unfold B87;generalize mK fuel d=rc
 have e0:bS (Ej b n m (b.ah.length:Int) b s b s fuel rc) fuel 0=some (b,s,iF b s n m):=CA hc (fun rec=>by simp only [Ej,Int.lt_irrefl,decide_false,cond_false]) (fun rec i hi=>by
  have h1:(i:Int)<(b.ah.length:Int):=by omega
  simp only [Ej,h1,decide_true,cond_true,Int.natCast_nonneg,get_cast hi,Option.bind_some,il,Ml,g77 hc];rw [aZ (by omega)];cases decide (b.ah[i].aq=n)<;>cases (b.ah[i].Number==m)<;>(try rfl);cases b.ah[i].Ending<;>(try rfl);cases (b.ah[i].State != 3)<;>(try rfl)
  cases s.bq<;>rfl)
 have e1:bS (Ei b n m (b.ah.length:Int) b b s fuel rc) fuel 0=some (b,s,iF b s n m):=CA hc (fun rec=>by simp only [Ei,Int.lt_irrefl,decide_false,cond_false]) (fun rec i hi=>by
  have h1:(i:Int)<(b.ah.length:Int):=by omega
  simp only [Ei,h1,decide_true,cond_true,Int.natCast_nonneg,get_cast hi,Option.bind_some,il,Ml,g77 hc];rw [aZ (by omega)];cases decide (b.ah[i].aq=n)<;>cases (b.ah[i].Number==m)<;>(try rfl);cases b.ah[i].Ending<;>(try rfl);cases (b.ah[i].State != 3)<;>(try rfl)
  cases s.bq<;>rfl)
 have e2:bS (Eh b n m (b.ah.length:Int) s b s fuel rc) fuel 0=some (b,s,iF b s n m):=CA hc (fun rec=>by simp only [Eh,Int.lt_irrefl,decide_false,cond_false]) (fun rec i hi=>by
  have h1:(i:Int)<(b.ah.length:Int):=by omega
  simp only [Eh,h1,decide_true,cond_true,Int.natCast_nonneg,get_cast hi,Option.bind_some,il,Ml,g77 hc];rw [aZ (by omega)];cases decide (b.ah[i].aq=n)<;>cases (b.ah[i].Number==m)<;>(try rfl);cases b.ah[i].Ending<;>(try rfl);cases (b.ah[i].State != 3)<;>(try rfl)
  cases s.bq<;>rfl)
 have e3:bS (Eg b n m (b.ah.length:Int) b s fuel rc) fuel 0=some (b,s,iF b s n m):=CA hc (fun rec=>by simp only [Eg,Int.lt_irrefl,decide_false,cond_false]) (fun rec i hi=>by
  have h1:(i:Int)<(b.ah.length:Int):=by omega
  simp only [Eg,h1,decide_true,cond_true,Int.natCast_nonneg,get_cast hi,Option.bind_some,il,Ml,g77 hc];rw [aZ (by omega)];cases decide (b.ah[i].aq=n)<;>cases (b.ah[i].Number==m)<;>(try rfl);cases b.ah[i].Ending<;>(try rfl);cases (b.ah[i].State != 3)<;>(try rfl)
  cases s.bq<;>rfl)
 rw [e0,e1,e2,e3,jG,jG,jG]
def AtS (b:aa) (s:ae):Prop:=∃ k:Nat,∃ hk:k<b.af.length,b.af[k]=s∧dv (lY s.Name) b.af 0=(k:Int)
theorem g82 {b:aa} {s:ae} {m:Int} (hs:b.af.length≤1048576) (hc:b.ah.length≤1048576) (hat:AtS b s):M8 b s.Name m=some (iF b s s.Name m):=by
 obtain ⟨k,hk,e,hp⟩:=hat;unfold M8 Vw iF;rw [g66 hc,Option.bind_some,g69 hs,hp]
 have hk0:(0:Int)≤((k:Nat):Int):=by omega
 have g:=g83 hs hc hk hp;rw [e] at g
 rcases mP (il s.Name m) b.ah with ⟨e1,h⟩ | ⟨i,hi,e1,h,_⟩
 ·rw [e1,h];rfl
 ·have h0:¬ ((i:Nat):Int)<0:=by omega
  rw [e1,h];simp only [h0,decide_false,cond_false,Int.natCast_nonneg,decide_true,cond_true,get_cast hi,get_cast hk,Option.bind_some,e,g,Ml];cases b.ah[i].Ending<;>(try rfl);cases (b.ah[i].State != 3)<;>(try rfl);cases s.bq<;>rfl
theorem k119 {b:aa} {s:ae} {L:cJ} {l:List ai} (hs:b.af.length≤1048576) (hc:b.ah.length≤1000) (hat:AtS b s) (hL:yL b.ah L l) (hl:l.length≤1000) (hn:∀ c∈l,c.aq=s.Name) :
  Ok (Gl b L) (fun L=>yL b.ah L (l.filter fun c=>iF b s c.aq c.Number)):=by
 have MN:L.length=l.length:=hL.1;unfold Gl Gk;refine okI (st:=fun i (L:cJ)=>(L,((i:Nat):Int))) (len:=l.length) (fun i L=>yL b.ah L ((l.take i).filter fun c=>iF b s c.aq c.Number)∧L.length≤i) (by omega) (fun rec L h=>?_) (fun rec i hi L' h hr=>?_) [] ⟨yL.nil _,Nat.zero_le _⟩
 ·simp only [xj,MN,Int.lt_irrefl,decide_false,cond_false]
  obtain ⟨h,_⟩:=h;rw [List.take_length] at h;exact aC h
 ·obtain ⟨h,hlen⟩:=h
  obtain ⟨k,e1,e2,e3⟩:=hL.2 i hi
  have q1:(i:Int)<(l.length:Int):=by omega
  have Qw:(L:cJ)[((i:Nat):Int).toNat]?=some k:=by simpa using e1
  rw [wK hi] at hr;have qv:=hn l[i] (List.getElem_mem hi);have g:=g82 (m:=l[i].Number) hs (by omega) hat;simp only [xj,MN,q1,decide_true,cond_true,Int.natCast_nonneg,Qw,e2,e3,Option.bind_some,aZ (show i<4611686018427387904 by omega),qv];rw [show (⟨b.bM,b.af,b.ah,b.ak⟩:aa)=b from rfl,g];simp only [qv] at hr;simp only [Option.bind_some]
  cases hm:iF b s s.Name l[i].Number with
  | true=>
   rw [hm] at hr;simp only [cond_true] at hr ⊢;exact jS (by omega) (by omega) (hr _ ⟨h.snoc e2 e3,by simp;omega⟩)
  | false=>
   rw [hm] at hr;simp only [cond_false,List.append_nil] at hr ⊢;exact hr _ ⟨h,by omega⟩
def mJ (n:BA) (c:ai):Bool:=decide (c.aq=n)&&c.Ending
def tJ (gD:Int) (c:ai):Bool:=c.ax != gD
theorem Kj {α:Type} (p:α→Bool) (x:α) (l:List α):((x::l).filter p).length=cond (p x) 1 0+(l.filter p).length:=by
 rw [List.filter_cons];cases p x<;>simp [Nat.add_comm]
theorem jE {n:BA} {gD:Int}:∀ (cs:List ai) (a b c d e:Nat),a+b+c+d+e+5*cs.length<1000000000000 →
  cs.foldl (KA n gD) ((a:Int),(b:Int),(c:Int),(d:Int),(e:Int))=(((a+(dV cs n).length:Nat):Int),((b+((dV cs n).filter fun c=>c.State==3).length:Nat):Int),((c+((dV cs n).filter (tJ gD)).length:Nat):Int),((d+((dV cs n).filter fun c=>c.State==4).length:Nat):Int),((e+(cs.filter (mJ n)).length:Nat):Int))
 | [],a,b,c,d,e,h=>by simp [dV]
 | x::cs,a,b,c,d,e,h=>by
  simp only [List.length_cons] at h;rw [List.foldl_cons]
  have w:∀ k:Nat,k<1000000000000→i64.wrap ((k:Int)+1)=((k+1:Nat):Int):=fun k hk=>aZ (by omega)
  have lv:dV (x::cs) n=cond (lN n x) (x::dV cs n) (dV cs n):=by unfold dV;rw [List.filter_cons];cases lN n x<;>rfl
  have en:(x::cs).filter (mJ n)=cond (mJ n x) (x::cs.filter (mJ n)) (cs.filter (mJ n)):=by rw [List.filter_cons];cases mJ n x<;>rfl
  have e0:KA n gD ((a:Int),(b:Int),(c:Int),(d:Int),(e:Int)) x=cond (decide (x.aq=n)) (cond x.Ending ((a:Int),(b:Int),(c:Int),(d:Int),i64.wrap ((e:Int)+1))
   (i64.wrap ((a:Int)+1),cond (x.State==3) (i64.wrap ((b:Int)+1)) (b:Int),cond (x.ax != gD) (i64.wrap ((c:Int)+1)) (c:Int),cond (x.State==4) (i64.wrap ((d:Int)+1)) (d:Int),(e:Int))) ((a:Int),(b:Int),(c:Int),(d:Int),(e:Int)):=rfl
  rw [lv,en,e0,show lN n x=(decide (x.aq=n) && !x.Ending) from rfl,show mJ n x=(decide (x.aq=n)&&x.Ending) from rfl]
  cases decide (x.aq=n) with
  | false=>simp only [Bool.false_and,cond_false];exact jE cs a b c d e (by omega)
  | true=>
   cases x.Ending with
   | true=>
    simp only [cond_true,Bool.not_true,Bool.and_false,cond_false,Bool.and_true,List.length_cons];rw [w e (by omega),jE cs a b c d (e+1) (by omega)];simp only [Prod.mk.injEq,true_and];omega
   | false=>
    simp only [cond_true,Bool.not_false,Bool.and_true,cond_false,Bool.and_false,List.length_cons,Kj];rw [show tJ gD x=(x.ax != gD) from rfl];generalize (x.State==3)=b3;generalize (x.ax != gD)=b4;generalize (x.State==4)=b5
    have fin:∀ b' c' d':Nat,b'≤b+1→c'≤c+1→d'≤d+1→(b':Int)=cond b3 ((b+1:Nat):Int) (b:Int)→(c':Int)=cond b4 ((c+1:Nat):Int) (c:Int)→(d':Int)=cond b5 ((d+1:Nat):Int) (d:Int)→List.foldl (KA n gD) (i64.wrap ((a:Int)+1),cond b3 (i64.wrap ((b:Int)+1)) (b:Int),cond b4 (i64.wrap ((c:Int)+1)) (c:Int),cond b5 (i64.wrap ((d:Int)+1)) (d:Int),(e:Int)) cs=List.foldl (KA n gD) (((a+1:Nat):Int),((b':Nat):Int),((c':Nat):Int),((d':Nat):Int),(e:Int)) cs:=by
     intro b' c' d' _ _ _ h1 h2 h3;rw [w a (by omega),w b (by omega),w c (by omega),w d (by omega),h1,h2,h3]
    cases b3<;>cases b4<;>cases b5<;>simp only [cond_true,cond_false] at fin ⊢
    ·rw [fin b c d (by omega) (by omega) (by omega) rfl rfl rfl,jE cs (a+1) b c d e (by omega)];simp only [Prod.mk.injEq,and_true];omega
    ·rw [fin b c (d+1) (by omega) (by omega) (by omega) rfl rfl rfl,jE cs (a+1) b c (d+1) e (by omega)];simp only [Prod.mk.injEq,and_true];omega
    ·rw [fin b (c+1) d (by omega) (by omega) (by omega) rfl rfl rfl,jE cs (a+1) b (c+1) d e (by omega)];simp only [Prod.mk.injEq,and_true];omega
    ·rw [fin b (c+1) (d+1) (by omega) (by omega) (by omega) rfl rfl rfl,jE cs (a+1) b (c+1) (d+1) e (by omega)];simp only [Prod.mk.injEq,and_true];omega
    ·rw [fin (b+1) c d (by omega) (by omega) (by omega) rfl rfl rfl,jE cs (a+1) (b+1) c d e (by omega)];simp only [Prod.mk.injEq,and_true];omega
    ·rw [fin (b+1) c (d+1) (by omega) (by omega) (by omega) rfl rfl rfl,jE cs (a+1) (b+1) c (d+1) e (by omega)];simp only [Prod.mk.injEq,and_true];omega
    ·rw [fin (b+1) (c+1) d (by omega) (by omega) (by omega) rfl rfl rfl,jE cs (a+1) (b+1) (c+1) d e (by omega)];simp only [Prod.mk.injEq,and_true];omega
    ·rw [fin (b+1) (c+1) (d+1) (by omega) (by omega) (by omega) rfl rfl rfl,jE cs (a+1) (b+1) (c+1) (d+1) e (by omega)];simp only [Prod.mk.injEq,and_true];omega
theorem pq {n:BA} {gD:Int} {cs:List ai} (h:cs.length≤1048576):FO n gD cs=⟨((dV cs n).length:Int),(((dV cs n).filter fun c=>c.State==3).length:Int),(((dV cs n).filter (tJ gD)).length:Int),(((dV cs n).filter fun c=>c.State==4).length:Int),((cs.filter (mJ n)).length:Int)⟩:=by
 unfold FO ctV;have:=jE (n:=n) (gD:=gD) cs 0 0 0 0 0 (by omega);rw [show cs.foldl (KA n gD) (0,0,0,0,0)=cs.foldl (KA n gD) (((0:Nat):Int),((0:Nat):Int),((0:Nat):Int),((0:Nat):Int),((0:Nat):Int)) from rfl,this];simp
end Go.Proofs.Ytipemmgoipbojaa.Ab
set_option maxRecDepth 10000
namespace Go.Proofs.Ytipemmgoipbojaa.Ab
open Go Go.RowKit Go.IntKind
theorem wh2 (gD:Int) (bs:List aG):Jb 2 gD bs=tJ gD:=by funext c;simp [Jb,tJ]
theorem wh6 (gD:Int) (bs:List aG):Jb 6 gD bs=n8 bs:=by funext c;simp [Jb]
theorem wh3 (gD:Int) (bs:List aG):Jb 3 gD bs=fun c=>c.State==4:=by funext c;simp [Jb]
def jJ (s:ae) (es:List cu):au:=⟨s.Name,s.Version,0,0,0,false,es,false⟩
def NB (s:ae) (k:Int):au:=⟨s.Name,s.Version,k,0,0,false,[],false⟩
def Dg (s:ae) (w c:Int):au:=⟨s.Name,s.Version,0,w,c,true,[],false⟩
def fI (b:aa) (s:ae):List ai:=dV b.ah s.Name
def lG (b:aa) (s:ae):List ai:=(fI b s).filter (tJ s.ax)
def vH (b:aa) (s:ae):List ai:=(fI b s).filter (n8 b.ak)
def Iz (b:aa) (s:ae):List ai:=(fI b s).filter fun c=>c.State==4
def WH (b:aa) (s:ae) (l:List ai):List ai:=l.filter fun c=>iF b s c.aq c.Number
def fsN (gD:Int) (bs:List aG) (l:List ai):Int:=match l with
 | []=>0
 | c::r=>(r.foldl (pick gD bs) c).Number
def oN (b:aa) (s:ae):au:=cond (iF b s s.Name (fsN s.ax b.ak (fI b s))) (jJ s (ub s.ax b.ak (fI b s))) (jJ s [])
def IJ (b:aa) (s:ae):au:=
 cond (decide (((fI b s).length:Int)<s.Want)) (NB s (i64.wrap (s.Want-((fI b s).length:Int))))
  (cond (((lG b s).length:Int)==0)
   (cond (decide (((fI b s).length:Int)>s.Want)) (cond (((vH b s).length:Int)==0) (oN b s) (cond (decide (((fI b s).length:Int)>i64.wrap (s.Want+s.bg))) (oN b s) (jJ s []))) (jJ s []))
   (cond (decide (((fI b s).length:Int)>s.Want)) (cond (decide (((fI b s).length:Int)>i64.wrap (s.Want+s.bg))) (oN b s) (jJ s [])) (jJ s [])))
def vn (b:aa) (s:ae) (l:List ai):au:=
 cond ((l.length:Int)==0) (jJ s []) (cond (decide (((fI b s).length:Int)<s.Want)) (jJ s []) (cond (decide (((fI b s).length:Int)<i64.wrap (s.Want+s.bg))) (NB s 1) (jJ s (ub s.ax b.ak (WH b s l)))))
def dsQ (s:ae):Int:=(i64.wrap (i64.wrap (s.bF+s.bY)-1)).tdiv s.bY
def Kx (s:ae):Int:=i64.wrap (dsQ s)
def C4 (s:ae):Int:=cond (decide (Kx s<s.aD)) (cond (decide (s.aD>s.aU)) s.aU s.aD) (cond (decide (Kx s>s.aU)) s.aU (Kx s))
def LR (s:ae):au:=
 cond (decide (s.Want<s.aD)) (Dg s s.aD 0) (cond (decide (s.Want>s.aU)) (Dg s s.aU 0) (cond (decide (C4 s>s.Want)) (Dg s (C4 s) 0)
  (cond (decide (C4 s<s.Want)) (cond (decide (s.bb≥3)) (Dg s (i64.wrap (s.Want-1)) 0) (Dg s s.Want (i64.wrap (s.bb+1)))) (cond (s.bb==0) (jJ s []) (Dg s s.Want 0)))))
def gm (k:Int) (b:aa) (s:ae):au:=
 cond (k==3) (jJ s ((Iz b s).map toEnd))
  (cond s.bq (cond (k==5) ⟨s.Name,s.Version,0,0,0,false,(fI b s).map toEnd,i64.wrap ((FO s.Name s.ax b.ah).Live+(FO s.Name s.ax b.ah).Ending)==0⟩ (jJ s []))
   (cond (k==1) (IJ b s) (cond (k==2) (vn b s (lG b s)) (cond (k==6) (cond (((lG b s).length:Int)==0) (vn b s (vH b s)) (jJ s [])) (cond (k==4) (cond (decide (s.bY>0)) (LR s) (jJ s [])) (jJ s []))))))
theorem H6 {b:aa} {s:ae} (hc:b.ah.length≤1000):(fI b s).length≤1000:=Nat.le_trans (CW _ _) hc
theorem uU {b:aa} {s:ae}:∀ c∈fI b s,c∈b.ah∧c.aq=s.Name:=fun c hc=>by
 unfold fI dV at hc;obtain ⟨h1,h2⟩:=List.mem_filter.1 hc;simp only [lN,Bool.and_eq_true,decide_eq_true_eq] at h2;exact ⟨h1,h2.1⟩
theorem okOne {b:aa} {s:ae} {L:cJ} {Z:List cu→Option au} (hZ:Z=fun r9=>cond (decide ((0:Int)≤0)) (cond (decide ((0:Int)<(r9.length:Int))) (Option.bind r9[(0:Int).toNat]? fun DC=>Option.bind (M8 b s.Name DC.Number) fun rT=>cond rT (some (⟨s.Name,s.Version,0,0,0,false,r9,false⟩:au)) (some (⟨s.Name,s.Version,0,0,0,false,([]:aI),false⟩:au))) none) none)
  (hs:b.af.length≤1048576) (hc:b.ah.length≤1000) (hb:b.ak.length≤1048576) (hat:AtS b s) (hL:yL b.ah L (fI b s)) (hne:fI b s≠[]):Ok (Option.bind (ux b s L) Z) (fun r=>r=oN b s):=by
 rw [k118 hb hL (H6 hc),Option.bind_some,hZ];unfold oN
 cases e:fI b s with
 | nil=>exact absurd e hne
 | cons c r=>
  have z0:(0:Int)≤0:=by omega
  have z1:(0:Int)<((ub s.ax b.ak (c::r)).length:Int):=by simp [ub]
  simp only [z0,z1,decide_true,cond_true];have e0:(ub s.ax b.ak (c::r))[(0:Int).toNat]?=some (toEnd (r.foldl (pick s.ax b.ak) c)):=rfl;rw [e0,Option.bind_some,g82 hs (by omega) hat,Option.bind_some];have e1:(toEnd (r.foldl (pick s.ax b.ak) c)).Number=fsN s.ax b.ak (c::r):=rfl;rw [e1];cases iF b s s.Name (fsN s.ax b.ak (c::r))<;>exact aC rfl
theorem g120 {s:ae} (h:s.bY≠0):Nc s=some (C4 s):=by
 unfold Nc Lr C4 Kx dsQ
 have:decide (s.bY=0)=false:=by simp [h]
 rw [this,cond_false]
 cases decide (i64.wrap ((i64.wrap (i64.wrap (s.bF+s.bY)-1)).tdiv s.bY)<s.aD) with
 | true=>cases decide (s.aD>s.aU)<;>rfl
 | false=>simp only [cond_false];cases decide (i64.wrap ((i64.wrap (i64.wrap (s.bF+s.bY)-1)).tdiv s.bY)>s.aU)<;>rfl
theorem g95 {s:ae} (h:s.bY≠0) (hlm:s.aD≤s.aU):G95 s=some (C4 s):=by
 unfold G95 G95n C4
 have:decide (s.bY=0)=false:=by simp [h]
 rw [this,cond_false];have e:i64.wrap ((i64.wrap (i64.wrap (s.bF+s.bY)-1)).tdiv s.bY)=Kx s:=rfl;rw [e]
 congr 1
 rcases Int.lt_or_le (Kx s) s.aD with h1 | h1
 ·have h2:s.aD>Kx s:=h1
  have h3:¬ s.aU<s.aD:=by omega
  have h4:¬ s.aD>s.aU:=by omega
  simp only [h1,h2,h3,h4,decide_true,decide_false,cond_true,cond_false]
 ·have h2:¬ s.aD>Kx s:=by omega
  have h3:¬ Kx s<s.aD:=by omega
  simp only [h2,h3,decide_false,cond_false]
theorem act48 {k:Int} {b:aa} {s:ae} (hs:b.af.length≤1048576) (hc:b.ah.length≤1000) (hb:b.ak.length≤1048576) (hat:AtS b s) (hw:0≤s.Want):Ok (G48 k b s) (fun r=>r=gm k b s):=by
 have MI:=H6 (b:=b) (s:=s) hc
 have hsub:∀ p,((fI b s).filter p).length≤1000:=fun p=>Nat.le_trans (CW _ _) MI
 have hin:=uU (b:=b) (s:=s)
 have h83:M7 b s.Name=some (FO s.Name s.ax b.ah):=by
  obtain ⟨j,hj,e,hp⟩:=hat;rw [g83 hs (by omega) hj hp,e]
 have one:∀ {L:cJ},yL b.ah L (fI b s)→fI b s≠[]→Ok (Option.bind (ux b s L) fun r9=>cond (decide ((0:Int)≤0)) (cond (decide ((0:Int)<(r9.length:Int))) (Option.bind r9[(0:Int).toNat]? fun DC=>Option.bind (M8 b s.Name DC.Number) fun rT=>cond rT (some (⟨s.Name,s.Version,0,0,0,false,r9,false⟩:au)) (some (⟨s.Name,s.Version,0,0,0,false,([]:aI),false⟩:au))) none) none) (fun r=>r=oN b s):=fun hL hne=>okOne rfl hs hc hb hat hL hne
 have rep:∀ {l:List ai} {L L2:cJ},(∀ c∈l,c.aq=s.Name)→l.length≤1000→yL b.ah L l→yL b.ah L2 (fI b s)→Ok (cond ((L.length:Int)==0)
   (some ((⟨s.Name,s.Version,0,0,0,false,([]:aI),false⟩:au)))
   (cond (decide ((L2.length:Int)<s.Want))
   (some ((⟨s.Name,s.Version,0,0,0,false,([]:aI),false⟩:au)))
   (cond (decide ((L2.length:Int)<(i64.wrap (s.Want+s.bg))))
   (some ((⟨s.Name,s.Version,1,0,0,false,([]:aI),false⟩:au)))
   (Option.bind (Gl b L) fun kH=>Option.bind (ux b s kH) fun qz=>some ((⟨s.Name,s.Version,0,0,0,false,qz,false⟩:au)))))) (fun r=>r=vn b s l):=fun {l L L2} hn hl hL Tp=>by
  unfold vn;rw [show L.length=l.length from hL.1,show L2.length=(fI b s).length from Tp.1]
  cases ((l.length:Int)==0) with
  | true=>exact aC rfl
  | false=>
   simp only [cond_false]
   cases decide (((fI b s).length:Int)<s.Want) with
   | true=>exact aC rfl
   | false=>
    simp only [cond_false]
    cases decide (((fI b s).length:Int)<i64.wrap (s.Want+s.bg)) with
    | true=>exact aC rfl
    | false=>
     simp only [cond_false]
     refine bO (k119 hs hc hat hL hl hn) fun L3 hL3=>?_
     rw [k118 hb hL3 (Nat.le_trans (CW _ _) hl)];exact aC rfl
 unfold G48 VK gm
 cases h3:(k==3) with
 | true=>
  have:k=3:=by simpa using h3
  subst this;simp only [cond_true]
  refine bO (k98 hc hb) fun L hL=>?_
  rw [wh3] at hL;rw [k97 hL (hsub _)];exact aC rfl
 | false=>
 simp only [cond_false]
 cases hg:s.bq with
 | true=>
  simp only [cond_true]
  cases (k==5) with
  | true=>
   simp only [cond_true]
   refine bO (k99 hc) fun L hL=>?_
   rw [k97 hL MI,h83];exact aC rfl
  | false=>exact aC rfl
 | false=>
 simp only [cond_false]
 cases h1:(k==1) with
 | true=>
  simp only [cond_true]
  refine bO (k99 hc) fun L hL=>?_
  have hlen:L.length=(fI b s).length:=hL.1;unfold IJ;rw [hlen]
  rcases Int.lt_or_le ((fI b s).length:Int) s.Want with q | q
  ·simp only [q,decide_true,cond_true]
   exact aC rfl
  ·have q':¬ ((fI b s).length:Int)<s.Want:=by omega
   simp only [q',decide_false,cond_false]
   refine bO (k98 hc hb) fun L2 Tp=>?_
   rw [wh2] at Tp;rw [show L2.length=(lG b s).length from Tp.1]
   have ne:((fI b s).length:Int)>s.Want→fI b s≠[]:=fun h e=>by rw [e] at h;simp at h;omega
   cases ((lG b s).length:Int)==0 with
   | true=>
    simp only [cond_true]
    refine bO (k98 hc hb) fun L3 hL3=>?_
    rw [wh6] at hL3;rw [show L3.length=(vH b s).length from hL3.1]
    cases h4:decide (((fI b s).length:Int)>s.Want) with
    | false=>exact aC rfl
    | true=>
     have hne:=ne (of_decide_eq_true h4);simp only [cond_true]
     cases ((vH b s).length:Int)==0 with
     | true=>exact one hL hne
     | false=>
      simp only [cond_false]
      cases decide (((fI b s).length:Int)>i64.wrap (s.Want+s.bg)) with
      | true=>exact one hL hne
      | false=>exact aC rfl
   | false=>
    simp only [cond_false]
    cases h4:decide (((fI b s).length:Int)>s.Want) with
    | false=>exact aC rfl
    | true=>
     have hne:=ne (of_decide_eq_true h4);simp only [cond_true]
     cases decide (((fI b s).length:Int)>i64.wrap (s.Want+s.bg)) with
     | true=>exact one hL hne
     | false=>exact aC rfl
 | false=>
 simp only [cond_false]
 cases h2:(k==2) with
 | true=>
  have:k=2:=by simpa using h2
  subst this;simp only [cond_true]
  refine bO (k98 hc hb) fun L hL=>bO (k99 hc) fun L2 Tp=>?_
  rw [wh2] at hL;exact rep (fun c hcm=>(hin c (List.mem_filter.1 hcm).1).2) (hsub _) hL Tp
 | false=>
 simp only [cond_false]
 cases h6:(k==6) with
 | true=>
  have:k=6:=by simpa using h6
  subst this;simp only [cond_true]
  refine bO (k98 hc hb) fun L hL=>?_
  rw [wh2] at hL;rw [show L.length=(lG b s).length from hL.1]
  cases ((lG b s).length:Int)==0 with
  | false=>exact aC rfl
  | true=>
   simp only [cond_true]
   refine bO (k98 hc hb) fun L hL=>bO (k99 hc) fun L2 Tp=>?_
   rw [wh6] at hL;exact rep (fun c hcm=>(hin c (List.mem_filter.1 hcm).1).2) (hsub _) hL Tp
 | false=>
 simp only [cond_false]
 cases h4:(k==4) with
 | false=>exact aC rfl
 | true=>
  simp only [cond_true]
  rcases Int.lt_or_le 0 s.bY with q | q
  ·have q':s.bY>0:=q
   simp only [q',decide_true,cond_true];rw [g120 (by omega),Option.bind_some];unfold LR;cases decide (s.Want<s.aD)<;>simp only [cond_true,cond_false]<;>(try exact aC rfl);cases decide (s.Want>s.aU)<;>simp only [cond_true,cond_false]<;>(try exact aC rfl);cases decide (C4 s>s.Want)<;>simp only [cond_true,cond_false]<;>(try exact aC rfl);cases decide (C4 s<s.Want)<;>cases decide (s.bb≥3)<;>cases (s.bb==0)<;>exact aC rfl
  ·have q':¬ s.bY>0:=by omega
   simp only [q',decide_false,cond_false];exact aC rfl
end Go.Proofs.Ytipemmgoipbojaa.Ab
set_option maxRecDepth 10000
namespace Go.Proofs.Ytipemmgoipbojaa.Ab
open Go Go.RowKit
theorem EX {α β:Type} (g:α→β):∀ (l:List α) (r:List β),l.foldl (fun (r:List β) c=>r++[g c]) r=r++l.map g
 | [],r=>by simp
 | c::l,r=>by simp [EX g l]
theorem qb {s:ae} {l:List ai} {eR:(Int×aI→Option (au×Bool))→Int×aI→Option (au×Bool)} (hl:l.length≤1000)
  (hend:∀ rec (es:aI),eR rec ((l.length:Int),es)=some ((⟨s.Name,s.Version,0,0,0,false,es,false⟩:au),decide ((l.length:Int)>0)))
  (hstep:∀ rec i (hi:i<l.length) (es:aI),es.length≤i→eR rec (((i:Nat):Int),es)=rec (((i+1:Nat):Int),es++([toEnd l[i]]:aI))):bS eR fuel (0,([]:aI))=some (jJ s (l.map toEnd),decide ((l.length:Int)>0)):=by
 have:=foldI (f:=fun (r:List cu) c=>r++[toEnd c]) (xs:=l) (st:=fun i (r:aI)=>(((i:Nat):Int),r)) (eR:=eR) (fun i r=>r.length≤i) (fun r=>some ((⟨s.Name,s.Version,0,0,0,false,r,false⟩:au),decide ((l.length:Int)>0))) (by omega) (fun rec r _=>hend rec r) (fun rec i hi r hr=>⟨hstep rec i hi r hr,by simp;omega⟩) (i0:=0) (Nat.zero_le _) [] (Nat.le_refl 0);refine Eq.trans this ?_;rw [List.drop_zero,EX];rfl
section
variable {s:ae} {l:List ai} (hl:l.length≤1000)
include hl
theorem q16 (r:aI) (i:Nat) (h:r.length≤i) (hi:i<l.length) (e:cu):(r.length+([e]:aI).length)*16≤140737488355328:=by simp only [List.length_cons,List.length_nil];omega
theorem e46_1:bS (zZ l (l.length:Int) s.Name s.Version 0 0 0 false false fuel) fuel (0,([]:aI))=some (jJ s (l.map toEnd),decide ((l.length:Int)>0)):=
 qb hl (fun rec es=>by simp only [zZ,Int.lt_irrefl,decide_false,cond_false]) (fun rec i hi es he=>by
  have q1:(i:Int)<(l.length:Int):=by omega
  simp only [zZ,q1,decide_true,cond_true,Int.natCast_nonneg,get_cast hi,Option.bind_some,aZ (show i<4611686018427387904 by omega),q16 hl es i he hi];rfl)
theorem e46_3:bS (Eu l (l.length:Int) s.Name s.Version 0 0 0 false false fuel) fuel (0,([]:aI))=some (jJ s (l.map toEnd),decide ((l.length:Int)>0)):=
 qb hl (fun rec es=>by simp only [Eu,Int.lt_irrefl,decide_false,cond_false]) (fun rec i hi es he=>by
  have q1:(i:Int)<(l.length:Int):=by omega
  simp only [Eu,q1,decide_true,cond_true,Int.natCast_nonneg,get_cast hi,Option.bind_some,aZ (show i<4611686018427387904 by omega),q16 hl es i he hi];rfl)
theorem e46_5:bS (Et l (l.length:Int) s.Name s.Version 0 0 0 false false fuel) fuel (0,([]:aI))=some (jJ s (l.map toEnd),decide ((l.length:Int)>0)):=
 qb hl (fun rec es=>by simp only [Et,Int.lt_irrefl,decide_false,cond_false]) (fun rec i hi es he=>by
  have q1:(i:Int)<(l.length:Int):=by omega
  simp only [Et,q1,decide_true,cond_true,Int.natCast_nonneg,get_cast hi,Option.bind_some,aZ (show i<4611686018427387904 by omega),q16 hl es i he hi];rfl)
theorem e46_7:bS (Es l (l.length:Int) s.Name s.Version 0 0 0 false false fuel) fuel (0,([]:aI))=some (jJ s (l.map toEnd),decide ((l.length:Int)>0)):=
 qb hl (fun rec es=>by simp only [Es,Int.lt_irrefl,decide_false,cond_false]) (fun rec i hi es he=>by
  have q1:(i:Int)<(l.length:Int):=by omega
  simp only [Es,q1,decide_true,cond_true,Int.natCast_nonneg,get_cast hi,Option.bind_some,aZ (show i<4611686018427387904 by omega),q16 hl es i he hi];rfl)
theorem e46_9:bS (Er l (l.length:Int) s.Name s.Version 0 0 0 false false fuel) fuel (0,([]:aI))=some (jJ s (l.map toEnd),decide ((l.length:Int)>0)):=
 qb hl (fun rec es=>by simp only [Er,Int.lt_irrefl,decide_false,cond_false]) (fun rec i hi es he=>by
  have q1:(i:Int)<(l.length:Int):=by omega
  simp only [Er,q1,decide_true,cond_true,Int.natCast_nonneg,get_cast hi,Option.bind_some,aZ (show i<4611686018427387904 by omega),q16 hl es i he hi];rfl)
theorem e46_10:bS (xe l (l.length:Int) s.Name s.Version 0 0 0 false false fuel) fuel (0,([]:aI))=some (jJ s (l.map toEnd),decide ((l.length:Int)>0)):=
 qb hl (fun rec es=>by simp only [xe,Int.lt_irrefl,decide_false,cond_false]) (fun rec i hi es he=>by
  have q1:(i:Int)<(l.length:Int):=by omega
  simp only [xe,q1,decide_true,cond_true,Int.natCast_nonneg,get_cast hi,Option.bind_some,aZ (show i<4611686018427387904 by omega),q16 hl es i he hi];rfl)
end
theorem pf {α:Type} (p:α→Bool):∀ (l r:List α),l.foldl (fun r c=>cond (p c) (r++[c]) r) r=r++l.filter p
 | [],r=>by simp
 | c::l,r=>by rw [List.foldl_cons,pf p l,List.filter_cons];cases p c<;>simp
theorem q72 (r:ay) (i:Nat) (h:r.length≤i) (hi:i≤1000) (e:ai):(r.length+([e]:ay).length)*72≤140737488355328:=by simp only [List.length_cons,List.length_nil];omega
section
variable {s:ae} {l:List ai} (hl:l.length≤1000)
include hl
theorem f46_4:bS (xb l (l.length:Int) s.Name s.Version 0 0 0 false ([]:aI) false fuel) fuel (([]:ay),0)=some (jJ s ((l.filter fun c=>c.State==4).map toEnd),decide (((l.filter fun c=>c.State==4).length:Int)>0)):=by
 have:=foldI (f:=fun (r:List ai) c=>cond (c.State==4) (r++[c]) r) (xs:=l) (st:=fun i (r:ay)=>(r,((i:Nat):Int))) (eR:=xb l (l.length:Int) s.Name s.Version 0 0 0 false ([]:aI) false fuel) (fun i r=>r.length≤i) (fun r=>some (jJ s (r.map toEnd),decide ((r.length:Int)>0))) (by omega) (fun rec r hr=>by
   simp only [xb,KX,Int.lt_irrefl,decide_false,cond_false]
   exact e46_5 (l:=r) (by omega)) (fun rec i hi r hr=>by
   have q1:(i:Int)<(l.length:Int):=by omega
   simp only [xb,KX,q1,decide_true,cond_true,Int.natCast_nonneg,get_cast hi,Option.bind_some,aZ (show i<4611686018427387904 by omega),q72 r i hr (by omega)]
   cases (l[i].State==4)<;>simp<;>omega) (i0:=0) (Nat.zero_le _) [] (Nat.le_refl 0)
 refine Eq.trans this ?_;rw [List.drop_zero,pf (fun c:ai=>c.State==4)];rfl
theorem f46_6:bS (w9 l (l.length:Int) s.Name s.Version 0 0 0 false ([]:aI) false fuel) fuel (([]:ay),0)=some (jJ s ((l.filter fun c=>c.State==4).map toEnd),decide (((l.filter fun c=>c.State==4).length:Int)>0)):=by
 have:=foldI (f:=fun (r:List ai) c=>cond (c.State==4) (r++[c]) r) (xs:=l) (st:=fun i (r:ay)=>(r,((i:Nat):Int))) (eR:=w9 l (l.length:Int) s.Name s.Version 0 0 0 false ([]:aI) false fuel) (fun i r=>r.length≤i) (fun r=>some (jJ s (r.map toEnd),decide ((r.length:Int)>0))) (by omega) (fun rec r hr=>by
   simp only [w9,KW,Int.lt_irrefl,decide_false,cond_false]
   exact e46_7 (l:=r) (by omega)) (fun rec i hi r hr=>by
   have q1:(i:Int)<(l.length:Int):=by omega
   simp only [w9,KW,q1,decide_true,cond_true,Int.natCast_nonneg,get_cast hi,Option.bind_some,aZ (show i<4611686018427387904 by omega),q72 r i hr (by omega)]
   cases (l[i].State==4)<;>simp<;>omega) (i0:=0) (Nat.zero_le _) [] (Nat.le_refl 0)
 refine Eq.trans this ?_;rw [List.drop_zero,pf (fun c:ai=>c.State==4)];rfl
end
def Zb (s:ae) (bs:List aG) (l:List ai):au×Bool:=(jJ s (ub s.ax bs l),decide ((l.length:Int)>0))
theorem A8 {b:aa} {s:ae} {l:List ai} {Z:ai→Option (au×Bool)} (hZ:∀ c,Z c=some (jJ s [toEnd c],true)) (hb:b.ak.length≤1048576) (hl:l.length≤1000) (hn:∀ x∈l,ou x) :
  cond ((l.length:Int)==0) (some ((⟨s.Name,s.Version,0,0,0,false,([]:aI),false⟩:au),false)) (Option.bind (M6 b s l) Z)=some (Zb s b.ak l):=by
 cases l with
 | nil=>rfl
 | cons c r=>
  have h0:(((c::r).length:Int)==0)=false:=by simp;omega
  rw [h0,cond_false,g91 hb (by omega) hn,Option.bind_some,hZ];unfold Zb
  have h1:decide (((c::r).length:Int)>0)=true:=by simp
  rw [h1];rfl
theorem f46_2 {b:aa} {s:ae} {l:List ai} (hl:l.length≤1000) (hc:b.ah.length≤1000) (hb:b.ak.length≤1048576) (hn:∀ x∈l,ou x) :
  bS (xc l (l.length:Int) s.Name s.Version 0 0 0 false ([]:aI) false fuel) fuel (([]:ay),0,s,b)=some (Zb s b.ak (l.filter fun c=>tJ s.ax c&&iF b s c.aq c.Number)):=by
 have:=foldI (f:=fun (r:List ai) c=>cond (tJ s.ax c&&iF b s c.aq c.Number) (r++[c]) r) (xs:=l) (st:=fun i (r:ay)=>(r,((i:Nat):Int),s,b)) (eR:=xc l (l.length:Int) s.Name s.Version 0 0 0 false ([]:aI) false fuel) (fun i r=>r.length≤i∧∀ x∈r,ou x) (fun r=>some (Zb s b.ak r)) (by omega) (fun rec r hr=>by
   simp only [xc,KY,Int.lt_irrefl,decide_false,cond_false]
   exact A8 (fun c=>by
    have:=e46_3 (s:=s) (l:=[c]) (by simp);refine Eq.trans this ?_
    rfl) hb (by omega) hr.2) (fun rec i hi r hr=>by
   have q1:(i:Int)<(l.length:Int):=by omega
   simp only [xc,KY,q1,decide_true,cond_true,Int.natCast_nonneg,get_cast hi,Option.bind_some,aZ (show i<4611686018427387904 by omega),q72 r i hr.1 (by omega),g87 (b:=b) (s:=s) (show b.ah.length≤1048576 by omega),tJ];have hx:=hn l[i] (List.getElem_mem hi);have hr2:=hr.2;have hr1:=hr.1
   cases (l[i].ax != s.ax)<;>cases iF b s l[i].aq l[i].Number<;>simp only [cond_true,cond_false,Bool.and_true,Bool.and_false,Bool.and_self]<;>refine ⟨by first | rfl | trivial,?_,?_⟩<;>first | omega | (simp;omega) | exact hr2 | (intro x hxm;rcases List.mem_append.1 hxm with h | h;exact hr2 x h;simp at h;subst h;exact hx)) (i0:=0) (Nat.zero_le _) [] ⟨Nat.le_refl 0,fun x h=>by cases h⟩
 refine Eq.trans this ?_;rw [List.drop_zero,pf (fun c:ai=>tJ s.ax c&&iF b s c.aq c.Number)];rfl
theorem f46_8 {b:aa} {s:ae} {l:List ai} (hl:l.length≤1000) (hc:b.ah.length≤1000) (hb:b.ak.length≤1048576) (hn:∀ x∈l,ou x) :
  bS (w8 l (l.length:Int) s.Name s.Version 0 0 0 false ([]:aI) false fuel) fuel (([]:ay),0,s,b)=some (Zb s b.ak (l.filter fun c=>n8 b.ak c&&iF b s c.aq c.Number)):=by
 have:=foldI (f:=fun (r:List ai) c=>cond (n8 b.ak c&&iF b s c.aq c.Number) (r++[c]) r) (xs:=l) (st:=fun i (r:ay)=>(r,((i:Nat):Int),s,b)) (eR:=w8 l (l.length:Int) s.Name s.Version 0 0 0 false ([]:aI) false fuel) (fun i r=>r.length≤i∧∀ x∈r,ou x) (fun r=>some (Zb s b.ak r)) (by omega) (fun rec r hr=>by
   simp only [w8,KV,Int.lt_irrefl,decide_false,cond_false]
   exact A8 (fun c=>by
    have:=e46_9 (s:=s) (l:=[c]) (by simp);refine Eq.trans this ?_
    rfl) hb (by omega) hr.2) (fun rec i hi r hr=>by
   have q1:(i:Int)<(l.length:Int):=by omega
   simp only [w8,KV,q1,decide_true,cond_true,Int.natCast_nonneg,get_cast hi,Option.bind_some,aZ (show i<4611686018427387904 by omega),q72 r i hr.1 (by omega),g87 (b:=b) (s:=s) (show b.ah.length≤1048576 by omega),g85 hb];have hx:=hn l[i] (List.getElem_mem hi);have hr2:=hr.2;have hr1:=hr.1
   cases n8 b.ak l[i]<;>cases iF b s l[i].aq l[i].Number<;>simp only [cond_true,cond_false,Bool.and_true,Bool.and_false,Bool.and_self]<;>refine ⟨by first | rfl | trivial,?_,?_⟩<;>first | omega | (simp;omega) | exact hr2 | (intro x hxm;rcases List.mem_append.1 hxm with h | h;exact hr2 x h;simp at h;subst h;exact hx)) (i0:=0) (Nat.zero_le _) [] ⟨Nat.le_refl 0,fun x h=>by cases h⟩
 refine Eq.trans this ?_;rw [List.drop_zero,pf (fun c:ai=>n8 b.ak c&&iF b s c.aq c.Number)];rfl
end Go.Proofs.Ytipemmgoipbojaa.Ab
set_option maxRecDepth 10000
namespace Go.Proofs.Ytipemmgoipbojaa.Ab
open Go Go.RowKit Go.IntKind
def pW (a:au):Bool:=decide (a.bK>0)||(a.cM||(decide ((a.Ends.length:Int)>0)||a.Drop))
theorem xK (s:ae) (es:List cu):pW (jJ s es)=decide ((es.length:Int)>0):=by simp [pW,jJ]
theorem HY (s:ae) {k:Int} (h:k>0):pW (NB s k)=true:=by simp [pW,NB,h]
theorem xJ (s:ae) (w c:Int):pW (Dg s w c)=true:=by simp [pW,Dg]
theorem UT (gD:Int) (bs:List aG) (l:List ai):decide (((ub gD bs l).length:Int)>0)=decide ((l.length:Int)>0):=by
 cases l with
 | nil=>rfl
 | cons c r=>simp [ub]
def Gs (r:au×Bool) (a:au):Prop:=r.2=pW a∧(r.2=true→r.1=a)
theorem gI {s:ae} {x:au}:Gs (x,false) (jJ s []):=⟨by rw [xK];rfl,fun h=>by cases h⟩
theorem ku {x:au} (h:pW x=true):Gs (x,true) x:=⟨h.symm,fun _=>rfl⟩
theorem wj {s:ae} {es:List cu} {q:Bool} (h:q=decide ((es.length:Int)>0)):Gs (jJ s es,q) (jJ s es):=⟨by rw [xK];exact h,fun _=>rfl⟩
def onF (bs:List aG) (n:BA) (t:Int×List ai) (c:ai):Int×List ai:=cond (lN n c) (i64.wrap (t.1+one (n8 bs c)),t.2++[c]) t
theorem vR {bs:List aG} {n:BA}:∀ (cs:List ai) (a:Nat) (l:List ai),a+cs.length<1000000000000→cs.foldl (onF bs n) ((a:Int),l)=(((a+((dV cs n).filter (n8 bs)).length:Nat):Int),l++dV cs n)
 | [],a,l,h=>by simp [dV]
 | x::cs,a,l,h=>by
  simp only [List.length_cons] at h;rw [List.foldl_cons]
  have lv:dV (x::cs) n=cond (lN n x) (x::dV cs n) (dV cs n):=by unfold dV;rw [List.filter_cons];cases lN n x<;>rfl
  rw [lv];have e:onF bs n ((a:Int),l) x=cond (lN n x) (i64.wrap ((a:Int)+one (n8 bs x)),l++[x]) ((a:Int),l):=rfl;rw [e]
  cases lN n x with
  | false=>simp only [cond_false];exact vR cs a l (by omega)
  | true=>
   simp only [cond_true,Kj]
   cases n8 bs x with
   | true=>
    rw [show i64.wrap ((a:Int)+one true)=((a+1:Nat):Int) from aZ (by omega),vR cs (a+1) _ (by omega)];simp only [cond_true,Prod.mk.injEq,List.append_assoc,List.cons_append,List.nil_append,and_true];omega
   | false=>
    rw [show i64.wrap ((a:Int)+one false)=(a:Int) from by show i64.wrap ((a:Int)+0)=_;rw [bB (by omega) (by omega)];omega,vR cs a _ (by omega)];simp only [cond_false,Prod.mk.injEq,List.append_assoc,List.cons_append,List.nil_append,and_true];omega
structure Svc (b:aa) (s:ae):Prop where
 at_:AtS b s
 want:0≤s.Want∧s.Want≤10
 over:0≤s.bg∧s.bg≤10
 down:0≤s.Down∧s.Down≤10
 MV:0≤s.bb∧s.bb≤3
 per:s.bY=0∨(0<s.bY∧0≤s.aD∧s.aD≤s.aU∧s.aU≤10)
theorem ask46 {k:Int} {b:aa} {s:ae} (hk1:1≤k) (Nq:k≤6) (hs:b.af.length≤1048576) (hc:b.ah.length≤1000) (hb:b.ak.length≤1048576) (hn:∀ c∈b.ah,ou c) (F:Svc b s):Ok (G46 b k s) (fun r=>Gs r (gm k b s)):=by
 have MI:=H6 (b:=b) (s:=s) hc;have hin:=uU (b:=b) (s:=s)
 have hnl:∀ c∈fI b s,ou c:=fun c h=>hn c (hin c h).1
 unfold G46 VM;rw [g77 (by omega),Option.bind_some,pq (by omega)];dsimp only
 have hfold:=foldI (f:=onF b.ak s.Name) (xs:=b.ah) (st:=fun i (t:Int×List ai)=>((t.1,((i:Nat):Int),(t.2:ay)):u7))
  (eR:=uL k b.ah (b.ah.length:Int) b s s.Name s.Version 0 0 0 false ([]:aI) false ((dV b.ah s.Name).length:Int) (((dV b.ah s.Name).filter (tJ s.ax)).length:Int) ((b.ah.filter (mJ s.Name)).length:Int) fuel)
  (fun i t=>t.2.length≤i) (fun t=>uL k b.ah (b.ah.length:Int) b s s.Name s.Version 0 0 0 false ([]:aI) false ((dV b.ah s.Name).length:Int) (((dV b.ah s.Name).filter (tJ s.ax)).length:Int) ((b.ah.filter (mJ s.Name)).length:Int) fuel (fun _=>none) (t.1,(b.ah.length:Int),t.2)) (by omega)
  (fun rec t _=>by simp only [uL,Gd,Int.lt_irrefl,decide_false,cond_false]) (fun rec i hi t ht=>by
   have q1:(i:Int)<(b.ah.length:Int):=by omega
   have q2:=q72 t.2 i ht (by omega) b.ah[i];have q3:i64.wrap (((i:Nat):Int)+1)=((i+1:Nat):Int):=aZ (by omega);have e:onF b.ak s.Name t b.ah[i]=cond (decide (b.ah[i].aq=s.Name) && !b.ah[i].Ending) (i64.wrap (t.1+one (n8 b.ak b.ah[i])),t.2++[b.ah[i]]) t:=rfl;rw [e];refine ⟨?_,by cases (decide (b.ah[i].aq=s.Name) && !b.ah[i].Ending)<;>simp<;>omega⟩;simp only [uL,Gd,q1,decide_true,cond_true,Int.natCast_nonneg,get_cast hi,Option.bind_some,q2,q3,g85 hb,g84]
   cases decide (b.ah[i].aq=s.Name)<;>cases b.ah[i].Ending<;>rfl) (i0:=0) (Nat.zero_le _) (0,[]) (Nat.le_refl 0)
 refine Eq.mpr (congrArg (fun o=>Ok o (fun r=>Gs r (gm k b s))) hfold) ?_;rw [List.drop_zero,show ((0:Int),([]:List ai))=(((0:Nat):Int),[]) from rfl,vR b.ah 0 [] (by omega),List.nil_append,Nat.zero_add];rw [show dV b.ah s.Name=fI b s from rfl,show (fI b s).filter (n8 b.ak)=vH b s from rfl,show (fI b s).filter (tJ s.ax)=lG b s from rfl];dsimp only;have hE0:((⟨s.Name,s.Version,0,0,0,false,([]:aI),false⟩:au))=jJ s []:=rfl
 have one:fI b s≠[]→Ok (Option.bind (M6 b s (fI b s)) fun r5=>
   Option.bind ((mK fuel fuel) r5.aq r5.Number r5.Version r5.ax r5.State r5.Ending r5.bE b s) fun r6=>
   cond r6.2.2
   (bS (zZ (([r5]:ay)) (((([r5]:ay)).length:Int)) s.Name s.Version 0 0 0 false false fuel) fuel (0,([]:aI)))
   (some ((⟨s.Name,s.Version,0,0,0,false,([]:aI),false⟩:au),false))) (fun r=>Gs r (oN b s)):=fun hne=>by
  unfold oN
  cases e:fI b s with
  | nil=>exact absurd e hne
  | cons c r=>
   rw [g91 hb (by rw [←e];omega) (by rw [←e];exact hnl),Option.bind_some,g87 (by omega),Option.bind_some]
   have hserv:(r.foldl (pick s.ax b.ak) c).aq=s.Name:=by
    have:∀ (r:List ai) (c:ai),c.aq=s.Name→(∀ x∈r,x.aq=s.Name)→(r.foldl (pick s.ax b.ak) c).aq=s.Name:=by
     intro r
     induction r with
     | nil=>intro c h _;exact h
     | cons x r ih=>
      intro c h1 h2
      refine ih _ ?_ fun y hy=>h2 y (by simp [hy])
      unfold pick;cases DV s.ax b.ak x c
      ·exact h1
      ·exact h2 x (by simp)
    exact this r c (hin c (by rw [e];simp)).2 fun x hx=>(hin x (by rw [e];simp [hx])).2
   dsimp only;rw [hserv,e46_1 (s:=s) (l:=[r.foldl (pick s.ax b.ak) c]) (by simp)];show Ok (cond (iF b s s.Name (fsN s.ax b.ak (c::r))) _ _) _
   cases iF b s s.Name (fsN s.ax b.ak (c::r)) with
   | true=>exact aC (wj rfl)
   | false=>exact aC gI
 have rep:∀ {l:List ai},Gs (Zb s b.ak (WH b s l)) (jJ s (ub s.ax b.ak (WH b s l))):=fun {l}=>wj (UT ..).symm
 have hf:∀ p:ai→Bool,((fI b s).filter fun c=>p c&&iF b s c.aq c.Number)=WH b s ((fI b s).filter p):=fun p=>by
  unfold WH;rw [List.filter_filter]
  exact List.filter_congr fun c _=>Bool.and_comm ..
 have hW:=F.want;have hO:=F.over;have hwo:i64.wrap (s.Want+s.bg)=s.Want+s.bg:=bB (by omega) (by omega);have hwl:i64.wrap (s.Want-((fI b s).length:Int))=s.Want-((fI b s).length:Int):=bB (by omega) (by omega)
 have ne:((fI b s).length:Int)>s.Want→fI b s≠[]:=fun h e=>by rw [e] at h;simp at h;omega
 have hmend:Gs (jJ s ((Iz b s).map toEnd),decide (((Iz b s).length:Int)>0)) (jJ s ((Iz b s).map toEnd)):=wj (by simp);unfold uL Gd gm;simp only [Int.lt_irrefl,decide_false,cond_false]
 have hk:k=1∨k=2∨k=3∨k=4∨k=5∨k=6:=by omega
 rcases hk with rfl | rfl | rfl | rfl | rfl | rfl<;>simp only [Int.reduceBEq,Int.reduceBNe,cond_true,cond_false]
 ·
  cases hg:s.bq with
  | true=>exact aC gI
  | false=>
  simp only [cond_false];unfold IJ
  rcases Int.lt_or_le ((fI b s).length:Int) s.Want with q | q
  ·simp only [q,decide_true,cond_true]
   exact aC (ku (HY s (by rw [hwl];omega)))
  ·have q':¬ ((fI b s).length:Int)<s.Want:=by omega
   simp only [q',decide_false,cond_false]
   cases h4:decide (((fI b s).length:Int)>s.Want) with
   | false=>cases ((lG b s).length:Int)==0<;>exact aC gI
   | true=>
    have hne:=ne (of_decide_eq_true h4);simp only [cond_true]
    cases ((lG b s).length:Int)==0<;>cases ((vH b s).length:Int)==0<;>cases decide (((fI b s).length:Int)>i64.wrap (s.Want+s.bg))<;>simp only [cond_true,cond_false]<;>first | exact one hne | exact aC gI
 ·
  cases hg:s.bq with
  | true=>exact aC gI
  | false=>
  simp only [cond_false];unfold vn
  cases ((lG b s).length:Int)==0 with
  | true=>exact aC gI
  | false=>
   simp only [cond_false]
   cases decide (((fI b s).length:Int)<s.Want) with
   | true=>exact aC gI
   | false=>
    simp only [cond_false]
    cases decide (((fI b s).length:Int)<i64.wrap (s.Want+s.bg)) with
    | true=>exact aC (ku (HY s (by omega)))
    | false=>
     simp only [cond_false];rw [f46_2 MI hc hb hnl,hf];exact aC rep
 ·
  cases hg:s.bq<;>simp only [cond_true,cond_false]<;>rw [f46_4 MI,f46_6 MI,jG]<;>exact aC hmend
 ·
  cases hg:s.bq with
  | true=>exact aC gI
  | false=>
  simp only [cond_false];have hC:=F.MV
  rcases F.per with h0 | ⟨h0,h1,h2,h3⟩
  ·have e1:(s.bY==0)=true:=by rw [h0];rfl
   have e2:¬ s.bY>0:=by omega
   simp only [e1,e2,decide_false,cond_true,cond_false];exact aC gI
  ·have e1:(s.bY==0)=false:=by simp;omega
   have e2:s.bY>0:=h0;simp only [e1,e2,decide_true,cond_true,cond_false];rw [g95 (by omega) h2,Option.bind_some];unfold LR
   have e3:decide (s.bb≥3)=(s.bb==3):=by
    rcases Int.lt_or_le s.bb 3 with h | h
    ·have a1:¬ s.bb≥3:=by omega
     have a2:(s.bb==3)=false:=by simp;omega
     rw [a2];simp [a1]
    ·have a1:s.bb=3:=by omega
     rw [a1];rfl
   have e4:(s.bb != 0) = !(s.bb==0):=rfl;rw [e3,e4];cases decide (s.Want<s.aD)<;>simp only [cond_true,cond_false]<;>(try exact aC (ku (xJ ..)));cases decide (s.Want>s.aU)<;>simp only [cond_true,cond_false]<;>(try exact aC (ku (xJ ..)));cases decide (C4 s>s.Want)<;>simp only [cond_true,cond_false]<;>(try exact aC (ku (xJ ..)));cases decide (C4 s<s.Want)<;>simp only [cond_true,cond_false]
   ·cases (s.bb==0)
    ·exact aC (ku (xJ ..))
    ·exact aC gI
   ·cases (s.bb==3)<;>exact aC (ku (xJ ..))
 ·
  cases hg:s.bq with
  | false=>exact aC gI
  | true=>
  simp only [cond_true];rw [pq (by omega)];dsimp only;rw [show dV b.ah s.Name=fI b s from rfl,e46_10 MI];have hle:(b.ah.filter (mJ s.Name)).length≤1000:=Nat.le_trans (CW _ _) hc
  cases e:fI b s with
  | nil=>
   have z:¬ ((([]:List ai).length:Int)>0):=by simp
   simp only [z,decide_false,cond_false,jG];refine aC ⟨?_,fun h=>?_⟩
   ·show _=pW _
    unfold pW;simp;rw [bB (by omega) (by omega)]
   ·have h:(((b.ah.filter (mJ s.Name)).length:Int)==0)=true:=h
    have h':((b.ah.filter (mJ s.Name)).length:Int)=0:=by simpa using h
    rw [h'];rfl
  | cons c r=>
   have z:(((c::r).length:Int)>0):=by simp
   rw [e] at MI
   have z2:(i64.wrap (((c::r).length:Int)+((b.ah.filter (mJ s.Name)).length:Int))==0)=false:=by
    rw [bB (by omega) (by omega)];simp only [List.length_cons];simp;omega
   simp only [z,decide_true,cond_true,z2];exact aC (wj (by simp))
 ·
  cases hg:s.bq with
  | true=>exact aC gI
  | false=>
  simp only [cond_false]
  have hgt:decide (((lG b s).length:Int)>0) = !(((lG b s).length:Int)==0):=by
   cases h:(((lG b s).length:Int)==0) with
   | true=>
    have:((lG b s).length:Int)=0:=by simpa using h
    rw [this];rfl
   | false=>
    have:((lG b s).length:Int)≠0:=by simpa using h
    simp;omega
  rw [hgt];unfold vn
  cases ((lG b s).length:Int)==0 with
  | false=>exact aC gI
  | true=>
   simp only [Bool.not_true,cond_false,cond_true]
   cases ((vH b s).length:Int)==0 with
   | true=>exact aC gI
   | false=>
    simp only [cond_false]
    cases decide (((fI b s).length:Int)<s.Want) with
    | true=>exact aC gI
    | false=>
     simp only [cond_false]
     cases decide (((fI b s).length:Int)<i64.wrap (s.Want+s.bg)) with
     | true=>exact aC (ku (HY s (by omega)))
     | false=>
      simp only [cond_false];rw [f46_8 MI hc hb hnl,hf];exact aC rep
end Go.Proofs.Ytipemmgoipbojaa.Ab
set_option maxRecDepth 10000
namespace Go.Proofs.Ytipemmgoipbojaa.Ab
open Go Go.RowKit Go.IntKind
theorem JK {α:Type} {f:α→Bool} {g:α→α→Bool} {xs:List α} (ht:∀ x y z,g x y=true→g y z=true→g x z=true):gK (zv f g xs) xs.length 0=true↔(∀ x∈xs,f x=true)∧xs.Pairwise (fun x y=>g x y=true):=by
 constructor
 ·intro h
  refine ⟨fun x hx=>?_,List.pairwise_iff_getElem.2 fun i j hi hj hij=>?_⟩
  ·obtain ⟨i,hi,rfl⟩:=List.mem_iff_getElem.1 hx
   have:=kC h hi;rw [mC hi] at this;simp only [Bool.and_eq_true] at this;exact this.1
  ·have key:∀ n i (h2:i+n+1<xs.length),g (xs[i]'(by omega)) (xs[i+n+1]'h2)=true:=by
    intro n
    have adj:∀ i (h2:i+1<xs.length),g (xs[i]'(by omega)) (xs[i+1]'h2)=true:=fun i h2=>by
     have:=kC h h2;rw [mC h2] at this;simp only [Bool.and_eq_true,Bool.or_eq_true,decide_eq_true_eq,Nat.add_sub_cancel] at this
     rcases this.2 with e | e
     ·omega
     ·exact e
    induction n with
    | zero=>exact fun i h2=>adj i h2
    | succ n ih=>exact fun i h2=>ht _ _ _ (ih i (by omega)) (adj (i+n+1) h2)
   have:=key (j-i-1) i (by omega)
   have e:i+(j-i-1)+1=j:=by omega
   simpa [e] using this
 ·rintro ⟨h1,h2⟩
  unfold gK;rw [List.all_eq_true];intro i hi
  have eN:i<xs.length:=by simp [List.mem_range'] at hi;omega
  rw [mC eN];simp only [Bool.and_eq_true,Bool.or_eq_true,decide_eq_true_eq];refine ⟨h1 _ (List.getElem_mem eN),?_⟩
  by_cases e:i=0
  ·exact .inl e
  ·exact .inr (List.pairwise_iff_getElem.1 h2 (i-1) i (by omega) eN (by omega))
def eB (c:ai):BA×Int:=(c.aq,c.Number)
def CF (a b:BA×Int):Bool:=slt a.1 b.1||(decide (a.1=b.1)&&decide (a.2<b.2))
theorem pZ {a b:BA×Int}:CF a b=true↔slt a.1 b.1=true∨(a.1=b.1∧a.2<b.2):=by simp [CF]
theorem Mp {a b c:BA×Int} (h:CF a b=true) (h':CF b c=true):CF a c=true:=by
 rw [pZ] at *
 rcases h with h | ⟨h1,h2⟩<;>rcases h' with h' | ⟨mL,zn⟩
 ·exact .inl (pR h h')
 ·exact .inl (mL▸h)
 ·exact .inl (h1▸h')
 ·exact .inr ⟨h1.trans mL,by omega⟩
theorem vY (a:BA×Int):CF a a=false:=by
 simp [CF,mh]
def cpQ (b:aa) (c:ai) (s:ae):Prop:=s∈b.af∧s.Name=c.aq∧eC c.Number 1 (i64.wrap (s.Next-1))=true∧eC c.Version 1 b.bM=true∧eC c.ax 1 1000000=true∧eC c.State 1 4=true∧cond (c.State==1) (decide (c.bE=⟨#[]⟩)) (decide (dv (Bq c.bE) b.ak 0≥0))=true
structure VB (b:aa):Prop where
 now:0≤b.bM∧b.bM≤1000000
 ls:b.af.length≤8
 lc:b.ah.length≤200
 lb:b.ak.length≤6
 sv:∀ s∈b.af,vk s b.bM=true
 so:(b.af.map (·.Name)).Pairwise (fun x y=>slt x y=true)
 be:gK (zv (fun s=>HX s.Name) (fun d s=>slt d.Name s.Name) b.ak) b.ak.length 0=true
 cp:∀ c∈b.ah,∃ s,cpQ b c s
 co:(b.ah.map eB).Pairwise (fun x y=>CF x y=true)
theorem tO {ss:List ae} (h:(ss.map (·.Name)).Pairwise (fun x y=>slt x y=true)) {s t:ae} (hs:s∈ss) (ht:t∈ss) (e:s.Name=t.Name):s=t:=by
 obtain ⟨i,hi,rfl⟩:=List.mem_iff_getElem.1 hs;obtain ⟨j,hj,rfl⟩:=List.mem_iff_getElem.1 ht;rw [List.pairwise_map] at h
 rcases Nat.lt_trichotomy i j with h' | h' | h'
 ·have:=List.pairwise_iff_getElem.1 h i j hi hj h'
  rw [e,mh] at this;cases this
 ·subst h';rfl
 ·have:=List.pairwise_iff_getElem.1 h j i hj hi h'
  rw [e,mh] at this;cases this
theorem PR {cs:List ai} (h:(cs.map eB).Pairwise (fun x y=>CF x y=true)) {s t:ai} (hs:s∈cs) (ht:t∈cs) (e:eB s=eB t):s=t:=by
 obtain ⟨i,hi,rfl⟩:=List.mem_iff_getElem.1 hs;obtain ⟨j,hj,rfl⟩:=List.mem_iff_getElem.1 ht;rw [List.pairwise_map] at h
 rcases Nat.lt_trichotomy i j with h' | h' | h'
 ·have:=List.pairwise_iff_getElem.1 h i j hi hj h'
  rw [e,vY] at this;cases this
 ·subst h';rfl
 ·have:=List.pairwise_iff_getElem.1 h j i hj hi h'
  rw [e,vY] at this;cases this
theorem at_mem {b:aa} {s:ae} (h:(b.af.map (·.Name)).Pairwise (fun x y=>slt x y=true)) (hs:s∈b.af):AtS b s:=by
 rcases dQ (lY s.Name) b.af with ⟨_,e⟩ | ⟨i,hi,e,hp,_⟩
 ·have:=e s hs
  simp [lY] at this
 ·refine ⟨i,hi,?_,e⟩
  exact tO h (List.getElem_mem hi) hs (by simpa [lY] using hp)
theorem KB {b:aa} {c:ai} (h:(b.af.map (·.Name)).Pairwise (fun x y=>slt x y=true)):KC b c=true↔∃ s,cpQ b c s:=by
 constructor
 ·intro hc
  unfold KC at hc;split at hc
  ·rename_i s hs
   simp only [Bool.and_eq_true,Bool.not_eq_true',decide_eq_false_iff_not] at hc
   rcases dQ (lY c.aq) b.af with ⟨e,_⟩ | ⟨i,hi,e,hp,_⟩
   ·rw [e] at hc;omega
   ·rw [e,Int.toNat_natCast,List.getElem?_eq_getElem hi] at hs
    cases hs;exact ⟨_,List.getElem_mem hi,by simpa [lY] using hp,hc.2⟩
  ·cases hc
 ·rintro ⟨s,hs,hn,hr⟩
  obtain ⟨i,hi,e,hp⟩:=at_mem h hs;unfold KC;rw [←hn,hp,Int.toNat_natCast,List.getElem?_eq_getElem hi,e]
  have:¬ ((i:Nat):Int)<0:=by omega
  simp only [this,decide_false,Bool.not_false,Bool.true_and,Bool.and_eq_true];exact hr
theorem oE {b:aa}:vB b=true↔VB b:=by
 have h1:∀ x y z:ae,slt x.Name y.Name=true→slt y.Name z.Name=true→slt x.Name z.Name=true:=fun _ _ _ h h'=>pR h h'
 have h2:∀ x y z:ai,KR x y=true→KR y z=true→KR x z=true:=fun x y z h h'=>Mp (a:=eB x) (b:=eB y) (c:=eB z) h h'
 unfold vB;simp only [Bool.and_eq_true,Bool.not_eq_true',decide_eq_false_iff_not,JK h1,JK h2,di];constructor
 ·rintro ⟨a,l1,l2,l3,⟨s1,s2⟩,be,c1,c2⟩
  have so:(b.af.map (·.Name)).Pairwise (fun x y=>slt x y=true):=List.pairwise_map.2 s2;exact ⟨a,by omega,by omega,by omega,s1,so,be,fun c hc=>(KB so).1 (c1 c hc),List.pairwise_map.2 c2⟩
 ·intro V
  exact ⟨V.now,by have:=V.ls;omega,by have:=V.lc;omega,by have:=V.lb;omega,⟨V.sv,List.pairwise_map.1 V.so⟩,V.be,fun c hc=>(KB V.so).2 (V.cp c hc),List.pairwise_map.1 V.co⟩
structure Sok (s:ae):Prop where
 next:1≤s.Next∧s.Next≤1000000
 want:0≤s.Want∧s.Want≤10
 over:0≤s.bg∧s.bg≤10
 down:0≤s.Down∧s.Down≤10
 MV:0≤s.bb∧s.bb≤3
 image:1≤s.ax∧s.ax≤1000000
 per:s.bY=0∨(0<s.bY∧0≤s.aD∧s.aD≤s.aU∧s.aU≤10)
theorem jO {s:ae} {n:Int} (h:vk s n=true):Sok s:=by
 simp only [vk,Bool.and_eq_true,di] at h;obtain ⟨_,_,i,x,w,d,o,_,p⟩:=h
 cases hp:(s.bY==0) with
 | true=>
  rw [hp] at p;simp only [cond_true,Bool.and_eq_true,beq_iff_eq] at p;exact ⟨x,w,o,d,by omega,i,.inl (by simpa using hp)⟩
 | false=>
  rw [hp] at p;simp only [cond_false,Bool.and_eq_true,di] at p
  have hp:s.bY≠0:=by simpa using hp
  exact ⟨x,w,o,d,p.2.2.2.2,i,.inr (by omega)⟩
theorem VB.svc {b:aa} (V:VB b) {s:ae} (hs:s∈b.af):Svc b s:=by
 have S:=jO (V.sv s hs);exact ⟨at_mem V.so hs,S.want,S.over,S.down,S.MV,S.per⟩
theorem VB.num {b:aa} (V:VB b):∀ c∈b.ah,ou c:=fun c hc=>by
 obtain ⟨s,h1,h2,h3,_⟩:=V.cp c hc;have S:=jO (V.sv s h1);have h3:=di.1 h3;have hx:=S.next;rw [bB (by omega) (by omega)] at h3;unfold ou;omega
def sU (k:Int) (b:aa):List au:=(b.af.map (gm k b)).filter pW
theorem yG (k:Int) (b:aa):∀ (ss:List ae) (r:List au),ss.foldl (fun r s=>cond (pW (gm k b s)) (r++[gm k b s]) r) r=r++(ss.map (gm k b)).filter pW
 | [],r=>by simp
 | s::ss,r=>by rw [List.foldl_cons,yG k b ss,List.map_cons,List.filter_cons];cases pW (gm k b s)<;>simp
theorem q88 (r:eI) (i:Nat) (h:r.length≤i) (hi:i≤1000) (e:au):(r.length+([e]:eI).length)*88≤140737488355328:=by simp only [List.length_cons,List.length_nil];omega
theorem g17 {k:Int} {b:aa} (hl:E6 b) (hv:vB b=true) (hk1:1≤k) (Nq:k≤6):Yp k b=some (sU k b):=by
 obtain ⟨h1,h2,h3⟩:=hl;have V:=oE.1 hv;have l1:=V.ls;have l2:=V.lc;unfold Yp Na
 have a1:¬ k<1:=by omega
 have a2:¬ k>6:=by omega
 rw [Tt h1 h2 h3,Option.bind_some,hv];simp only [Bool.not_true,cond_false,a1,a2,decide_false]
 have:=foldI (f:=fun (r:List au) s=>cond (pW (gm k b s)) (r++[gm k b s]) r) (xs:=b.af) (st:=fun i (r:eI)=>(r,((i:Nat):Int))) (eR:=ED k (b.af.length:Int) b.bM b.af b.ah b.ak fuel) (fun i r=>r.length≤i) (fun r=>some r) (by omega) (fun rec r _=>by simp only [ED,Int.lt_irrefl,decide_false,cond_false]) (fun rec i hi r hr=>by
  have q1:(i:Int)<(b.af.length:Int):=by omega
  obtain ⟨x,e,x1,x2⟩:=ask46 hk1 Nq h1 (by omega) h3 V.num (V.svc (List.getElem_mem hi));have e':G46 (⟨b.bM,b.af,b.ah,b.ak⟩:aa) k b.af[i]=some x:=e;refine ⟨?_,by cases pW (gm k b b.af[i])<;>simp<;>omega⟩;simp only [ED,q1,decide_true,cond_true,Int.natCast_nonneg,get_cast hi,Option.bind_some,e',aZ (show i<4611686018427387904 by omega),q88 r i hr (by omega),x1]
  cases hne:pW (gm k b b.af[i]) with
  | true=>rw [hne] at x1;rw [x2 x1];rfl
  | false=>rfl) (i0:=0) (Nat.zero_le _) [] (Nat.le_refl 0)
 refine Eq.trans this ?_;rw [List.drop_zero,yG];rfl
theorem g19 {k:Int} {b:aa} (hl:E6 b) (hv:vB b=true):ND k b=some (sU k b):=by
 obtain ⟨h1,h2,h3⟩:=hl;have V:=oE.1 hv;have l1:=V.ls;have l2:=V.lc;unfold ND M9;rw [Fv h1 h2 h3,Option.bind_some,hv];simp only [Bool.not_true,cond_false]
 have:=foldI (f:=fun (r:List au) s=>cond (pW (gm k b s)) (r++[gm k b s]) r) (xs:=b.af) (st:=fun i (r:eI)=>(r,((i:Nat):Int))) (eR:=Ad k b.bM b.af b.ah b.ak fuel) (fun i r=>r.length≤i) (fun r=>some r) (by omega) (fun rec r _=>by simp only [Ad,Int.lt_irrefl,decide_false,cond_false]) (fun rec i hi r hr=>by
  have q1:(i:Int)<(b.af.length:Int):=by omega
  have F:=V.svc (List.getElem_mem hi);obtain ⟨x,e,rfl⟩:=act48 (k:=k) h1 (by omega) h3 F.at_ F.want.1;have e':G48 k (⟨b.bM,b.af,b.ah,b.ak⟩:aa) b.af[i]=some (gm k b b.af[i]):=e;refine ⟨?_,by cases pW (gm k b b.af[i])<;>simp<;>omega⟩;simp only [Ad,q1,decide_true,cond_true,Int.natCast_nonneg,get_cast hi,Option.bind_some,e',aZ (show i<4611686018427387904 by omega),q88 r i hr (by omega),pW]
  cases decide ((gm k b b.af[i]).bK>0)<;>cases (gm k b b.af[i]).cM<;>cases decide (((gm k b b.af[i]).Ends.length:Int)>0)<;>cases (gm k b b.af[i]).Drop<;>rfl) (i0:=0) (Nat.zero_le _) [] (Nat.le_refl 0)
 refine Eq.trans this ?_;rw [List.drop_zero,yG];rfl
theorem Rm {k:Int} {b:aa} {s:ae} (h:¬ (1≤k∧k≤6)):gm k b s=jJ s []:=by
 unfold gm
 have e:∀ j:Int,1≤j→j≤6→(k==j)=false:=fun j h1 h2=>by simp;omega
 rw [e 3 (by omega) (by omega),e 5 (by omega) (by omega),e 1 (by omega) (by omega),e 2 (by omega) (by omega),e 6 (by omega) (by omega),e 4 (by omega) (by omega)];cases s.bq<;>rfl
theorem uv {k:Int} {b:aa} (h:¬ (1≤k∧k≤6)):sU k b=[]:=by
 unfold sU;rw [List.filter_eq_nil_iff];intro a ha;obtain ⟨s,_,rfl⟩:=List.mem_map.1 ha;rw [Rm h,xK];simp
theorem g17' {k:Int} {b:aa} (hl:E6 b):Yp k b=some (cond (vB b) (sU k b) []):=by
 obtain ⟨h1,h2,h3⟩:=hl
 cases hv:vB b with
 | false=>
  unfold Yp Na;rw [Tt h1 h2 h3,Option.bind_some,hv];rfl
 | true=>
  by_cases h:1≤k∧k≤6
  ·rw [g17 ⟨h1,h2,h3⟩ hv h.1 h.2];rfl
  ·rw [uv h]
   unfold Yp Na;rw [Tt h1 h2 h3,Option.bind_some,hv];simp only [Bool.not_true,cond_false,cond_true]
   by_cases h':k<1
   ·simp only [h',decide_true,cond_true]
   ·have h'':k>6:=by omega
    simp only [h',h'',decide_true,decide_false,cond_true,cond_false]
theorem g19' {k:Int} {b:aa} (hl:E6 b):ND k b=some (cond (vB b) (sU k b) []):=by
 obtain ⟨h1,h2,h3⟩:=hl
 cases hv:vB b with
 | false=>
  unfold ND M9;rw [Fv h1 h2 h3,Option.bind_some,hv];rfl
 | true=>rw [g19 ⟨h1,h2,h3⟩ hv];rfl
end Go.Proofs.Ytipemmgoipbojaa.Ab
set_option maxRecDepth 10000
namespace Go.Proofs.Ytipemmgoipbojaa.Ab
open Go Go.RowKit Go.IntKind
def jL {α:Type} (i:Nat) (xs ys:List α):List α:=xs.take i++ys++xs.drop i
theorem Fa {α:Type} {i:Nat} {xs ys:List α} (h:i≤xs.length):(jL i xs ys).length=xs.length+ys.length:=by
 unfold jL;simp;omega
theorem Mq {α:Type} {i:Nat} {xs ys:List α} (h:i≤xs.length) (c:α):(jL i xs ys).take (i+ys.length)++[c]++(jL i xs ys).drop (i+ys.length)=jL i xs (ys++[c]):=by
 unfold jL
 have e:(xs.take i++ys).length=i+ys.length:=by simp;omega
 rw [List.take_left' e,List.drop_left' e];simp [List.append_assoc]
def sw (n:BA) (c:ai):Bool:= !slt n c.aq
def Mg (v:Int) (s:ae) (j:Nat):ai:=⟨s.Name,s.Next+(j:Int),v,s.ax,1,false,⟨#[]⟩⟩
def news (v:Int) (s:ae) (j:Nat):List ai:=(List.range j).map (Mg v s)
theorem Mf (v:Int) (s:ae) (j:Nat):news v s (j+1)=news v s j++[Mg v s j]:=by unfold news;rw [List.range_succ];simp
theorem EV (v:Int) (s:ae) (j:Nat):(news v s j).length=j:=by simp [news]
def xE (v:Int) (ss:List ae) (cs:List ai) (bs:List aG):aa:=⟨v,ss,cs,bs⟩
def ot (s:ae) (v W Co:Int) (j:Nat):ae:=⟨s.Name,v,s.bq,s.ax,W,s.Down,s.bg,s.Next+(j:Int),s.bY,s.aD,s.aU,s.bF,Co⟩
section
variable {ss:List ae} {cs:List ai} {bs:List aG} {s:ae} {k M:Nat} {v W Co:Int}
theorem My {N0:Int} {S0:List ae} {C0:List ai} {B0:List aG} {A:au} (hA:A.bK=((M:Nat):Int)) (hD:A.Drop=false) (hk:k<ss.length) (hs:ss[k]=ot s v W Co 0) (hcs:cs.length≤1000) (hC:M≤1000) (hN0:0≤s.Next) (hN:s.Next≤1000000) :
  bS (lD ss k v cs bs A.aq A.Seen A.bK A.Want A.bb A.cM A.Ends A.Drop N0 S0 C0 B0 fuel) fuel 0=some (xE v (ss.set k (ot s v W Co M)) (jL (lead (sw s.Name) cs) cs (news v s M)) bs,0):=by
 have hg:ss[k]?=some (ot s v W Co 0):=by rw [List.getElem?_eq_getElem hk,hs]
 have h9:=Jg (p:=sw s.Name) (xs:=cs) (eR:=lD ss k v cs bs A.aq A.Seen A.bK A.Want A.bb A.cM A.Ends A.Drop N0 S0 C0 B0 fuel) (st:=fun i=>((i:Nat):Int)) (by omega) (fun i=>bS (nD k A.bK v bs A.aq A.Seen A.bK A.Want A.bb A.cM A.Ends A.Drop N0 S0 C0 B0 fuel) fuel (ss,((i:Nat):Int),0,cs)) (fun rec=>by simp [lD,BB]) (fun rec i hi=>by
  have q1:(i:Int)<(cs.length:Int):=by omega
  simp only [lD,BB,q1,decide_true,cond_true,Int.natCast_nonneg,get_cast hi,Option.bind_some,hg,sw];rw [aZ (by omega)]
  rfl)
 refine Eq.trans h9 ?_;have hi0:=CD (sw s.Name) cs;generalize hi0e:lead (sw s.Name) cs=i0 at hi0
 have h:=kL (eR:=nD k A.bK v bs A.aq A.Seen A.bK A.Want A.bb A.cM A.Ends A.Drop N0 S0 C0 B0 fuel)
  (st:=fun j=>(ss.set k (ot s v W Co j),((i0+j:Nat):Int),((j:Nat):Int),jL i0 cs (news v s j))) (val:=fun _=>some (xE v (ss.set k (ot s v W Co M)) (jL i0 cs (news v s M)) bs,0)) M (fun rec=>by
  simp only [nD,yI,hA,hD,Int.lt_irrefl,decide_false,cond_false]
  rfl) (fun rec j hj hr=>by
  have q1:((j:Nat):Int)<((M:Nat):Int):=by omega
  have hlen:=Fa (ys:=news v s j) hi0;have hnl:=EV v s j;rw [hnl] at hlen
  have q2:((i0+j:Nat):Int)≤((jL i0 cs (news v s j)).length:Int):=by omega
  have q3:∀ c:ai,((jL i0 cs (news v s j)).length+([c]:ay).length)*72≤140737488355328:=fun c=>by simp only [List.length_cons,List.length_nil];omega
  have q4:∀ c:ai,Nat.beq ([c]:ay).length 1=true:=fun c=>rfl
  have hgj:(ss.set k (ot s v W Co j))[k]?=some (ot s v W Co j):=by simp [hk]
  simp only [nD,yI,hA,q1,decide_true,cond_true,hgj,Option.bind_some,q4,Int.natCast_nonneg,Bool.and_self,q2,q3,List.set_set,Int.toNat_natCast]
  have e1:i64.wrap (s.Next+(j:Int)+1)=s.Next+((j+1:Nat):Int):=by rw [bB (by omega) (by omega)];omega
  have e3:(jL i0 cs (news v s j)).take (i0+j)++[Mg v s j]++(jL i0 cs (news v s j)).drop (i0+j)=jL i0 cs (news v s (j+1)):=by
   rw [Mf];have:=Mq (ys:=news v s j) hi0 (Mg v s j);rw [hnl] at this;exact this
  have e4:(⟨(ot s v W Co j).Name,(ot s v W Co j).Next,v,(ot s v W Co j).ax,1,false,⟨#[]⟩⟩:ai)=Mg v s j:=rfl
  have e5:(⟨(ot s v W Co j).Name,(ot s v W Co j).Version,(ot s v W Co j).bq,(ot s v W Co j).ax,(ot s v W Co j).Want,(ot s v W Co j).Down,(ot s v W Co j).bg,i64.wrap ((ot s v W Co j).Next+1),(ot s v W Co j).bY,(ot s v W Co j).aD,(ot s v W Co j).aU,(ot s v W Co j).bF,(ot s v W Co j).bb⟩:ae)=ot s v W Co (j+1):=by
   show (⟨s.Name,v,s.bq,s.ax,W,s.Down,s.bg,i64.wrap (s.Next+(j:Int)+1),s.bY,s.aD,s.aU,s.bF,Co⟩:ae)=_;rw [e1];rfl
  rw [e4,e5,e3,aZ (by omega),aZ (by omega)]
  exact hr) fuel 0 (Nat.zero_le _) (by have:=bT;omega)
 have e0:jL i0 cs (news v s 0)=cs:=by simp [jL,news]
 have e1:ss.set k (ot s v W Co 0)=ss:=by rw [←hs];exact List.set_getElem_self hk
 simp only [e0,e1,Nat.add_zero] at h;exact h
end
end Go.Proofs.Ytipemmgoipbojaa.Ab
set_option maxRecDepth 10000
namespace Go.Proofs.Ytipemmgoipbojaa.Ab
open Go Go.RowKit Go.IntKind
section
variable {ss:List ae} {cs:List ai} {bs:List aG} {s:ae} {k:Nat} {v W Co:Int}
theorem Ph:(⟨s.Name,v,s.bq,s.ax,W,s.Down,s.bg,s.Next,s.bY,s.aD,s.aU,s.bF,Co⟩:ae)=ot s v W Co 0:=by
 unfold ot;simp
def Cw (ss:List ae) (k t:Nat):List ae:=ss.take k++(ss.drop (k+1)).take t++ss.drop (k+t)
theorem Cv {t:Nat} (hk:k+t<ss.length):(Cw ss k t).length=ss.length:=by unfold Cw;simp;omega
theorem Uq {t:Nat} (h:k+t+1<ss.length):(Cw ss k t)[k+1+t]?=ss[k+1+t]?:=by
 unfold Cw
 have e:(ss.take k++(ss.drop (k+1)).take t).length=k+t:=by simp;omega
 rw [List.getElem?_append_right (by omega),e,List.getElem?_drop]
 congr 1;omega
theorem Zg {t:Nat} (h:k+t<ss.length):∃ x,(Cw ss k t)[k+t]?=some x:=by
 exact ⟨_,List.getElem?_eq_getElem (by rw [Cv h];exact h)⟩
theorem Up {t:Nat} (h:k+t+1<ss.length):(Cw ss k t).set (k+t) (ss[k+1+t]'(by omega))=Cw ss k (t+1):=by
 unfold Cw
 have e:(ss.take k++(ss.drop (k+1)).take t).length=k+t:=by simp;omega
 rw [List.set_append_right _ _ (by omega),e,Nat.sub_self,List.drop_eq_getElem_cons (show k+t<ss.length by omega),List.set_cons_zero]
 have e2:(ss.drop (k+1)).take (t+1)=(ss.drop (k+1)).take t++[ss[k+1+t]'(by omega)]:=by
  rw [List.take_add_one,List.getElem?_drop,List.getElem?_eq_getElem (by omega)];rfl
 rw [e2,show k+(t+1)=k+t+1 by omega];simp [List.append_assoc]
theorem Ur (h:k<ss.length):(Cw ss k (ss.length-1-k)).take (ss.length-1)=ss.take k++ss.drop (k+1):=by
 unfold Cw;have e0:(ss.drop (k+1)).take (ss.length-1-k)=ss.drop (k+1):=List.take_of_length_le (by simp;omega);rw [e0];exact List.take_left' (by simp;omega)
theorem MB {N0:Int} {S0:List ae} {C0:List ai} {B0:List aG} {A:au} (hA:A.bK=0) (hD:A.Drop=true) (hk:k<ss.length) (hss:ss.length≤1048576) (hcs:cs.length≤1048576)
  (h0:∀ j (hj:j<ss.length),ss[j].Name=A.aq↔j=k) :
  bS (lD ss k v cs bs A.aq A.Seen A.bK A.Want A.bb A.cM A.Ends A.Drop N0 S0 C0 B0 fuel) fuel 0=some (xE v (ss.take k++ss.drop (k+1)) cs bs,0):=by
 have hg:ss[k]?=some ss[k]:=List.getElem?_eq_getElem hk
 have h9:=Jg (p:=sw ss[k].Name) (xs:=cs) (eR:=lD ss k v cs bs A.aq A.Seen A.bK A.Want A.bb A.cM A.Ends A.Drop N0 S0 C0 B0 fuel) (st:=fun i=>((i:Nat):Int)) hcs (fun i=>bS (nD k A.bK v bs A.aq A.Seen A.bK A.Want A.bb A.cM A.Ends A.Drop N0 S0 C0 B0 fuel) fuel (ss,((i:Nat):Int),0,cs)) (fun rec=>by simp [lD,BB]) (fun rec i hi=>by
  have q1:(i:Int)<(cs.length:Int):=by omega
  simp only [lD,BB,q1,decide_true,cond_true,Int.natCast_nonneg,get_cast hi,Option.bind_some,hg,sw]
  rw [aZ (by omega)])
 refine Eq.trans h9 ?_;rw [CB (show 0<fuel by unfold fuel;omega)];simp only [nD,yI,hA,hD,Int.lt_irrefl,decide_false,cond_false,cond_true]
 have h11:=kI (p:=lY A.aq) (xs:=ss) (eR:=tC ss (ss.length:Int) v cs bs A.aq A.Seen 0 A.Want A.bb A.cM A.Ends true N0 S0 C0 B0 fuel) (st:=fun i=>((i:Nat):Int)) hss
  (fun j=>bS (tz v cs bs A.aq A.Seen 0 A.Want A.bb A.cM A.Ends true N0 S0 C0 B0 fuel) fuel (ss,((j:Nat):Int),i64.wrap (((j:Nat):Int)+1))) (some (xE v ss cs bs,0)) (fun rec=>by simp only [tC,Di,Int.lt_irrefl,decide_false,cond_false];rfl) (fun rec i hi=>by
  have q1:(i:Int)<(ss.length:Int):=by omega
  have q2:(((i:Nat):Int) == -1)=false:=by simp
  simp only [tC,Di,q1,decide_true,cond_true,Int.natCast_nonneg,get_cast hi,Option.bind_some,G80,Vx,lY,q2,cond_false]
  rw [aZ (show i<4611686018427387904 by omega)])
 refine Eq.trans h11 ?_
 have hpos:dv (lY A.aq) ss 0=((k:Nat):Int):=by
  rcases dQ (lY A.aq) ss with ⟨e,hn⟩ | ⟨i,hi,e,hp,_⟩
  ·have:=hn ss[k] (List.getElem_mem hk)
   have h2:=(h0 k hk).2 rfl;simp [lY,h2] at this
  ·have:ss[i].Name=A.aq:=by simpa [lY] using hp
   rw [e,(h0 i hi).1 this]
 have q0:¬ ((k:Nat):Int)<0:=by omega
 rw [hpos];simp only [q0,decide_false,cond_false,Int.toNat_natCast,aZ (show k<4611686018427387904 by omega)]
 have h:=kL (eR:=tz v cs bs A.aq A.Seen 0 A.Want A.bb A.cM A.Ends true N0 S0 C0 B0 fuel) (st:=fun t=>(Cw ss k t,((k+t:Nat):Int),((k+1+t:Nat):Int))) (val:=fun _=>some (xE v (ss.take k++ss.drop (k+1)) cs bs,0)) (ss.length-1-k) (fun rec=>by
  have hm:(Cw ss k (ss.length-1-k)).length=ss.length:=Cv (by omega)
  have q1:¬ ((k+1+(ss.length-1-k):Nat):Int)<(ss.length:Int):=by omega
  have q2:k+(ss.length-1-k)=ss.length-1:=by omega
  have q3:((ss.length-1:Nat):Int)≤(ss.length:Int):=by omega
  have q4:(((Cw ss k (ss.length-1-k)).take (ss.length-1)++List.replicate (ss.length-(ss.length-1)) (⟨⟨#[]⟩,0,false,0,0,0,0,0,0,0,0,0,0⟩:C .bD)++(Cw ss k (ss.length-1-k)).drop ss.length).length:Nat)=ss.length:=by
   simp [hm]
  have q5:((Cw ss k (ss.length-1-k)).take (ss.length-1)++List.replicate (ss.length-(ss.length-1)) (⟨⟨#[]⟩,0,false,0,0,0,0,0,0,0,0,0,0⟩:C .bD)++(Cw ss k (ss.length-1-k)).drop ss.length).take (ss.length-1)=ss.take k++ss.drop (k+1):=by
   rw [List.append_assoc,List.take_left' (by simp [hm]),Ur hk]
  simp only [tz,hm,q1,decide_false,cond_false,q2,Int.natCast_nonneg,decide_true,cond_true,q3,Int.le_refl,Int.toNat_natCast,q4,q5]
  rfl) (fun rec t ht hr=>by
  have hm:(Cw ss k t).length=ss.length:=Cv (by omega)
  have q1:((k+1+t:Nat):Int)<(ss.length:Int):=by omega
  have q2:((k+t:Nat):Int)<(ss.length:Int):=by omega
  obtain ⟨x,hx⟩:=Zg (ss:=ss) (k:=k) (t:=t) (by omega)
  have hj:k+1+t<ss.length:=by omega
  have hne:decide ((ss[k+1+t]'hj).Name=A.aq)=false:=by
   apply decide_eq_false;intro e;have:=(h0 _ hj).1 e;omega
  simp only [tz,hm,q1,q2,decide_true,cond_true,Int.natCast_nonneg,Int.toNat_natCast,Uq (show k+t+1<ss.length by omega),List.getElem?_eq_getElem hj,Option.bind_some,G80,Vx,hne,Bool.not_false,hx,Up (show k+t+1<ss.length by omega)];rw [aZ (by omega),aZ (by omega)]
  exact hr) fuel 0 (Nat.zero_le _) (by have:=bT;omega)
 have e0:Cw ss k 0=ss:=by unfold Cw;simp
 simp only [e0,Nat.add_zero] at h;exact h
end
end Go.Proofs.Ytipemmgoipbojaa.Ab
set_option maxRecDepth 10000
namespace Go.Proofs.Ytipemmgoipbojaa.Ab
open Go Go.RowKit Go.IntKind
def rF (b:aa):Int:=i64.wrap (b.bM+1)
structure kV (b:aa) (A:au) (s:ae) (k:Nat):Prop where
 h1:b.af.length≤1048576
 h2:b.ah.length≤900
 h3:b.ak.length≤1048576
 he:A.Ends.length≤1048576
 n0:0≤b.bM
 n1:b.bM≤1000000
 hk:k<b.af.length
 hs:b.af[k]?=some s
 name:s.Name=A.aq
 pos:dv (lY A.aq) b.af 0=(k:Int)
 nx0:0≤s.Next
 nx1:s.Next≤1000000
 c0:0≤A.bK
 c1:A.bK≤1000
 num:∀ c∈b.ah,c.aq=s.Name→c.Number<s.Next
 uni:∀ (j:Nat) (t:ae),b.af[j]?=some t→(t.Name=A.aq↔j=k)
 drop:A.Drop=true→A.bK=0∧A.cM=false∧A.Ends=[]
section
variable {b:aa} {A:au} {s:ae} {k:Nat} {cs:List ai}
theorem kV.gs (F:kV b A s k):b.af[k]'F.hk=s:=by
 have h:=F.hs;rw [List.getElem?_eq_getElem F.hk] at h;exact Option.some.inj h
theorem vX (h:cs.map eB=b.ah.map eB):cs.length=b.ah.length:=by
 have:=congrArg List.length h
 simpa using this
def Iu (b:aa) (A:au) (s:ae) (k:Nat) (cs:List ai) (W Co:Int):Option (aa×Int):=
 some (xE (rF b) (b.af.set k (ot s (rF b) W Co A.bK.toNat)) (jL (lead (sw s.Name) cs) cs (news (rF b) s A.bK.toNat)) b.ak,0)
def Qq (b:aa) (k:Nat) (cs:List ai):Option (aa×Int):=some (xE (rF b) (b.af.take k++b.af.drop (k+1)) cs b.ak,0)
theorem Mz (F:kV b A s k) (h:cs.map eB=b.ah.map eB) (hD:A.Drop=false) (W Co:Int) {N0:Int} {S0:List ae} {C0:List ai} {B0:List aG} :
  bS (lD (b.af.set k (⟨s.Name,rF b,s.bq,s.ax,W,s.Down,s.bg,s.Next,s.bY,s.aD,s.aU,s.bF,Co⟩:ae)) k (rF b) cs b.ak A.aq A.Seen A.bK A.Want A.bb A.cM A.Ends A.Drop N0 S0 C0 B0 fuel) fuel 0=Iu b A s k cs W Co:=by
 have hl:=vX h;have q:=F.h2;have c0:=F.c0;have c1:=F.c1;obtain ⟨M,hM⟩:∃ M:Nat,A.bK=(M:Int):=⟨A.bK.toNat,by omega⟩;unfold Iu;rw [Ph];have:=My (ss:=b.af.set k (ot s (rF b) W Co 0)) (cs:=cs) (bs:=b.ak) (s:=s) (k:=k) (M:=M) (v:=rF b) (W:=W) (Co:=Co) (N0:=N0) (S0:=S0) (C0:=C0) (B0:=B0) (A:=A) hM hD (by simpa using F.hk) (by simp) (by omega) (by omega) F.nx0 F.nx1;rw [this,hM,Int.toNat_natCast,List.set_set]
theorem MA (F:kV b A s k) (h:cs.map eB=b.ah.map eB) (hD:A.Drop=true) (W Co:Int) {N0:Int} {S0:List ae} {C0:List ai} {B0:List aG} :
  bS (lD (b.af.set k (⟨s.Name,rF b,s.bq,s.ax,W,s.Down,s.bg,s.Next,s.bY,s.aD,s.aU,s.bF,Co⟩:ae)) k (rF b) cs b.ak A.aq A.Seen A.bK A.Want A.bb A.cM A.Ends A.Drop N0 S0 C0 B0 fuel) fuel 0=Qq b k cs:=by
 have hl:=vX h;have q:=F.h2
 have:=MB (ss:=b.af.set k (⟨s.Name,rF b,s.bq,s.ax,W,s.Down,s.bg,s.Next,s.bY,s.aD,s.aU,s.bF,Co⟩:ae)) (cs:=cs) (bs:=b.ak) (k:=k) (v:=rF b) (N0:=N0) (S0:=S0) (C0:=C0) (B0:=B0) (A:=A) (F.drop hD).1 hD (by simpa using F.hk) (by simpa using F.h1) (by omega) (fun j hj=>by
  have iK:j<b.af.length:=by simpa using hj
  by_cases e:j=k
  ·subst e;simp [F.name]
  ·have e':¬ k=j:=fun x=>e x.symm
   simp only [List.getElem_set,e',if_false];have:=F.uni j _ (List.getElem?_eq_getElem iK)
   exact this)
 rw [this];unfold Qq
 have t1:∀ t:ae,(b.af.set k t).take k=b.af.take k:=fun t=>by rw [List.take_set];exact List.set_eq_of_length_le (by simp;omega)
 have t2:∀ t:ae,(b.af.set k t).drop (k+1)=b.af.drop (k+1):=fun t=>by rw [List.drop_set];simp
 rw [t1,t2]
def f7 (b:aa) (A:au) (s:ae) (y:Option (aa×Int)):Option (aa×Int):=
 cond (decide (i64.wrap ((b.ah.length:Int)+A.bK)>200)) (some (b,7)) (cond (decide (i64.wrap (s.Next+A.bK)>1000000)) (some (b,7)) (cond (decide (b.bM≥1000000)) (some (b,7)) y))
def fS (b:aa) (A:au) (s:ae) (y:Option (aa×Int)):Option (aa×Int):=
 cond (s.bY==0) (some (b,6)) (cond (!eC A.Want s.aD s.aU) (some (b,6)) y)
def fC (b:aa) (A:au) (s:ae) (cs:List ai) (W:Int) (y:Option (aa×Int)):Option (aa×Int):=
 cond (decide (A.bK>0)) (cond s.bq (some (b,6)) (cond (decide (i64.wrap ((FO s.Name s.ax cs).Live+A.bK)>i64.wrap (W+s.bg))) (some (b,6)) y)) y
def fD (b:aa) (s:ae) (cs:List ai) (y:Option (aa×Int)):Option (aa×Int):=
 cond (!s.bq) (some (b,6)) (cond (decide (i64.wrap ((FO s.Name s.ax cs).Live+(FO s.Name s.ax cs).Ending)>0)) (some (b,6)) y)
def LI (b:aa) (A:au) (s:ae) (k:Nat) (cs:List ai):Option (aa×Int):=
 cond A.Drop (fD b s cs (f7 b A s (Qq b k cs))) (cond A.cM (fC b A s cs A.Want (fS b A s (f7 b A s (Iu b A s k cs A.Want A.bb)))) (fC b A s cs s.Want (f7 b A s (Iu b A s k cs s.Want s.bb))))
theorem fCS {W:Int} (y:Option (aa×Int)):fS b A s (fC b A s cs W y)=fC b A s cs W (fS b A s y):=by
 unfold fS fC;cases (s.bY==0)<;>cases eC A.Want s.aD s.aU<;>cases decide (A.bK>0)<;>cases s.bq<;>cases decide (i64.wrap ((FO s.Name s.ax cs).Live+A.bK)>i64.wrap (W+s.bg))<;>rfl
theorem PX (F:kV b A s k) (h:cs.map eB=b.ah.map eB) (n:Nat) (i:Int) (hi:¬ i<(A.Ends.length:Int)) (rec:ng→Option (aa×Int))
  (hM:A.Drop=false→∀ W Co,bS (lD (b.af.set k (⟨s.Name,rF b,s.bq,s.ax,W,s.Down,s.bg,s.Next,s.bY,s.aD,s.aU,s.bF,Co⟩:ae)) k (rF b) cs b.ak A.aq A.Seen A.bK A.Want A.bb A.cM A.Ends A.Drop b.bM b.af b.ah b.ak n) n 0=Iu b A s k cs W Co)
  (hDr:A.Drop=true→∀ W Co,bS (lD (b.af.set k (⟨s.Name,rF b,s.bq,s.ax,W,s.Down,s.bg,s.Next,s.bY,s.aD,s.aU,s.bF,Co⟩:ae)) k (rF b) cs b.ak A.aq A.Seen A.bK A.Want A.bb A.cM A.Ends A.Drop b.bM b.af b.ah b.ak n) n 0=Qq b k cs) :
  nW b.af k A.Ends (A.Ends.length:Int) b.bM b.ak A.aq A.Seen A.bK A.Want A.bb A.cM A.Ends A.Drop b.bM b.af b.ah b.ak n rec (i,cs)=LI b A s k cs:=by
 have hl:=vX h;have q:=F.h2;have bU:iV (⟨b.bM,b.af,b.ah,b.ak⟩:aa)=some b:=g24 (b:=b) F.h1 (by have:=F.h2;omega) F.h3;have e65:NC (⟨b.bM,b.af,cs,b.ak⟩:aa) s=some (FO s.Name s.ax cs):=g77 (by show cs.length≤_;omega)
 have Qj:∀ t:ae,(b.af.set k t)[k]?=some t:=fun t=>by simp [F.hk]
 have n6:((6:Nat) != 0)=true:=rfl;have n7:((7:Nat) != 0)=true:=rfl;have nv:i64.wrap (b.bM+1)=rF b:=rfl
 have nw:(b.bM==1000000)=decide (b.bM≥1000000):=by
  have:=F.n1
  by_cases e:b.bM=1000000
  ·simp [e]
  ·have:¬ b.bM≥1000000:=by omega
   simp [e,this]
 unfold LI
 cases hD:A.Drop with
 | true=>
  obtain ⟨hC,hS,hE⟩:=F.drop hD
  have z:¬ (0:Int)>0:=by omega
  have hDr':=hDr hD;rw [hD,hC,hS] at hDr';simp only [nW,BC,hi,decide_false,cond_false,cond_true,F.hs,Option.bind_some,hC,hS,z,e65,bU,fD,f7,n6,n7,nv,nw,hl,hDr',Qj,List.set_set]
 | false=>
  have hM':=hM hD;rw [hD] at hM'
  cases hS:A.cM with
  | true=>
   rw [hS] at hM';rw [←fCS];simp only [nW,BC,hi,decide_false,cond_false,cond_true,F.hs,Option.bind_some,e65,bU,fC,fS,f7,n6,n7,nv,nw,hl,hM',Qj,List.set_set,g33,jG]
  | false=>
   rw [hS] at hM';simp only [nW,BC,hi,decide_false,cond_false,cond_true,F.hs,Option.bind_some,e65,bU,fC,fS,f7,n6,n7,nv,nw,hl,hM',Qj,List.set_set,g33,jG]
theorem Mv (F:kV b A s k) (h:cs.map eB=b.ah.map eB) (i:Int) (hi:¬ i<(A.Ends.length:Int)) (rec:ng→Option (aa×Int)) :
  nW b.af k A.Ends (A.Ends.length:Int) b.bM b.ak A.aq A.Seen A.bK A.Want A.bb A.cM A.Ends A.Drop b.bM b.af b.ah b.ak fuel rec (i,cs)=LI b A s k cs:=
 PX F h fuel i hi rec (fun hD W Co=>Mz F h hD W Co) (fun hD W Co=>MA F h hD W Co)
end
end Go.Proofs.Ytipemmgoipbojaa.Ab
set_option maxRecDepth 10000
namespace Go.Proofs.Ytipemmgoipbojaa.Ab
open Go Go.RowKit Go.IntKind
section
variable {b:aa} {A:au} {s:ae} {k:Nat} {cs:List ai}
def IA (v:Int) (cs:List ai) (j:Nat) (c:ai):List ai:=cs.set j (⟨c.aq,c.Number,v,c.ax,c.State,true,c.bE⟩:ai)
def OL (b:aa) (s:ae) (cs:List ai) (go:List ai→Option (aa×Int)) (j:Nat):Option (aa×Int):=match cs[j]? with
 | some c=>cond (Ml s cs c) (go (IA (rF b) cs j c)) (some (b,5))
 | none=>none
def uH (b:aa) (s:ae) (cs:List ai) (p:Int) (go:List ai→Option (aa×Int)):Option (aa×Int):=cond (decide (p<0)) (some (b,5)) (OL b s cs go p.toNat)
theorem PW (F:kV b A s k) (h:cs.map eB=b.ah.map eB) (n i:Nat) (hi:i<A.Ends.length) (rec:ng→Option (aa×Int))
  (hin:∀ m jP,bS (Af A.aq m (cs.length:Int) b.af k ((i:Nat):Int) b.bM cs b.ak b.bM b.af b.ah b.ak n jP) n 0=uH b s cs (dv (il A.aq m) cs 0) fun x=>jP (((i+1:Nat):Int),x)) :
  nW b.af k A.Ends (A.Ends.length:Int) b.bM b.ak A.aq A.Seen A.bK A.Want A.bb A.cM A.Ends A.Drop b.bM b.af b.ah b.ak n rec (((i:Nat):Int),cs) =
   uH b s cs (dv (il A.aq A.Ends[i].Number) cs 0) fun x=>rec (((i+1:Nat):Int),x):=by
 have q1:(i:Int)<(A.Ends.length:Int):=by omega
 simp only [nW,BC,q1,decide_true,cond_true,Int.natCast_nonneg,get_cast hi,Option.bind_some,hin]
theorem lp9_8 (F:kV b A s k) (h:cs.map eB=b.ah.map eB) (n i:Nat) (hi:i<A.Ends.length) (m:Int) (jP:ng→Option (aa×Int)) :
  bS (Af A.aq m (cs.length:Int) b.af k ((i:Nat):Int) b.bM cs b.ak b.bM b.af b.ah b.ak n jP) fuel 0=uH b s cs (dv (il A.aq m) cs 0) fun x=>jP (((i+1:Nat):Int),x):=by
 have hl:=vX h;have q:=F.h2;have he:=F.he;have bU:iV (⟨b.bM,b.af,b.ah,b.ak⟩:aa)=some b:=g24 (b:=b) F.h1 (by have:=F.h2;omega) F.h3;have e65:NC (⟨b.bM,b.af,cs,b.ak⟩:aa) s=some (FO s.Name s.ax cs):=g77 (by show cs.length≤_;omega);have n5:((5:Nat) != 0)=true:=rfl;have nv:i64.wrap (b.bM+1)=rF b:=rfl;refine kI (p:=il A.aq m) (xs:=cs) (st:=fun j=>((j:Nat):Int)) (by omega) (fun j=>OL b s cs (fun x=>jP (((i+1:Nat):Int),x)) j) (some (b,5)) (fun rec=>?_) (fun rec j hj=>?_)
 ·simp only [Af,Int.lt_irrefl,decide_false,cond_false,n5,cond_true,bU,Option.bind_some]
 ·have b2:((j:Nat):Int)<(cs.length:Int):=by omega
  have Qj:∀ t:ai,(cs.set j t)[j]?=some t:=fun t=>by simp [hj]
  simp only [Af,b2,decide_true,cond_true,Int.natCast_nonneg,get_cast hj,Int.toNat_natCast,Option.bind_some,n5,bU,e65,F.hs,Qj,List.set_set,nv,aZ (show i<4611686018427387904 by omega),aZ (show j<4611686018427387904 by omega),il,OL,List.getElem?_eq_getElem hj,Ml,IA];cases decide (cs[j].aq=A.aq)<;>(try rfl);cases (cs[j].Number==m)<;>(try rfl);cases cs[j].Ending<;>(try rfl);cases (cs[j].State != 3)<;>(try rfl);cases s.bq<;>(try rfl);cases decide (i64.wrap ((FO s.Name s.ax cs).qE-1)≥i64.wrap (s.Want-s.Down))<;>rfl
theorem U6 {v:Int} {j:Nat} {c:ai} (hc:cs[j]?=some c):(IA v cs j c).map eB=cs.map eB:=by
 unfold IA;rw [List.map_set];apply List.ext_getElem?;intro i;rw [List.getElem?_set]
 by_cases e:j=i
 ·subst e
  simp only [if_true,List.length_map,List.getElem?_map,hc,Option.map_some];have:j<cs.length:=(List.getElem?_eq_some_iff.1 hc).1;simp [this,eB]
 ·simp [e]
theorem D9 {p:Int} {f g:List ai→Option (aa×Int)} (h:cs.map eB=b.ah.map eB) (hfg:∀ x:List ai,x.map eB=b.ah.map eB→f x=g x):uH b s cs p f=uH b s cs p g:=by
 unfold uH OL
 cases hc:cs[p.toNat]? with
 | none=>rfl
 | some c=>
  have:=hfg (IA (rF b) cs p.toNat c) (by rw [U6 hc,h]);simp only [this]
def TW (b:aa) (p x:Int) (go:Option (aa×Int)):Option (aa×Int):=cond (decide (p<0)) none (match b.ah[p.toNat]? with
 | some c=>cond (c.Version != x) (some (b,4)) go
 | none=>none)
theorem lp9_4 (F:kV b A s k) (n i:Nat) (hi:i<A.Ends.length) (m x:Int) (rec:lV→Option (aa×Int)) :
  bS (uM A.aq m (b.ah.length:Int) b.af ((i:Nat):Int) x b.bM b.ah b.ak b.bM b.af b.ah b.ak n rec) fuel 0=TW b (dv (il A.aq m) b.ah 0) x (rec ((i+1:Nat):Int)):=by
 have q:=F.h2;have he:=F.he;have bU:iV (⟨b.bM,b.af,b.ah,b.ak⟩:aa)=some b:=g24 (b:=b) F.h1 (by have:=F.h2;omega) F.h3;have n4:((4:Nat) != 0)=true:=rfl
 refine kI (p:=il A.aq m) (xs:=b.ah) (st:=fun j=>((j:Nat):Int)) (by omega) (fun j=>match b.ah[j]? with
  | some c=>cond (c.Version != x) (some (b,4)) (rec ((i+1:Nat):Int))
  | none=>none) none (fun rec=>?_) (fun rec j hj=>?_)
 ·simp only [uM,Int.lt_irrefl,decide_false,cond_false]
 ·have b2:((j:Nat):Int)<(b.ah.length:Int):=by omega
  simp only [uM,b2,decide_true,cond_true,Int.natCast_nonneg,get_cast hj,Option.bind_some,n4,bU,aZ (show i<4611686018427387904 by omega),aZ (show j<4611686018427387904 by omega),il,List.getElem?_eq_getElem hj];cases decide (b.ah[j].aq=A.aq)<;>(try rfl)
theorem T3 (x0:BA) (x1 x2:Int) (x4:aB) (x8 aN:Int) (aP:ay) (aX:aA) (bZ da:Int) (cW:aB) (dE:ay) (dI:aA) (n:Nat) (dz:lV→Option (aa×Int)) :
  OX x0 x1 x2 x4 x8 aN aP aX bZ da cW dE dI n dz=uM x0 x1 x2 x4 x8 bZ aN aP aX da cW dE dI n dz:=rfl
theorem T2 (x0:BA) (x1 x2:Int) (x4:aB) (x8 aN:Int) (aP:ay) (aX:aA) (bZ da:Int) (cW:aB) (dE:ay) (dI:aA) (n:Nat) (dz:lV→Option (aa×Int)) :
  OW x0 x1 x2 x4 x8 aN aP aX bZ da cW dE dI n dz=uM x0 x1 x2 x4 x8 bZ aN aP aX da cW dE dI n dz:=rfl
theorem Mw (n i:Nat) (hi:i<A.Ends.length) (rec:lV→Option (aa×Int))
  (hin:∀ m x dz,bS (uM A.aq m (b.ah.length:Int) b.af ((i:Nat):Int) x b.bM b.ah b.ak b.bM b.af b.ah b.ak n dz) n 0=TW b (dv (il A.aq m) b.ah 0) x (dz ((i+1:Nat):Int))) :
  xf b.af k A.Ends (A.Ends.length:Int) b.bM b.ah b.ak A.aq A.Seen A.bK A.Want A.bb A.cM A.Ends A.Drop b.bM b.af b.ah b.ak n rec ((i:Nat):Int) =
   TW b (dv (il A.aq A.Ends[i].Number) b.ah 0) A.Ends[i].Seen (rec ((i+1:Nat):Int)):=by
 have q1:(i:Int)<(A.Ends.length:Int):=by omega
 simp only [xf,KZ,T3,T2,q1,decide_true,cond_true,Int.natCast_nonneg,get_cast hi,Option.bind_some,hin,jG]
def TX (b:aa) (p:Int) (go:Option (aa×Int)):Option (aa×Int):=cond (decide (p<0)) (some (b,3)) go
theorem lp9_2 (F:kV b A s k) (n i:Nat) (hi:i<A.Ends.length) (m:Int) (rec:pM→Option (aa×Int)) :
  bS (Ag A.aq m (b.ah.length:Int) b.af ((i:Nat):Int) b.bM b.ah b.ak b.bM b.af b.ah b.ak n rec) fuel 0=TX b (dv (il A.aq m) b.ah 0) (rec ((i+1:Nat):Int)):=by
 have q:=F.h2;have he:=F.he;have bU:iV (⟨b.bM,b.af,b.ah,b.ak⟩:aa)=some b:=g24 (b:=b) F.h1 (by have:=F.h2;omega) F.h3;have n3:((3:Nat) != 0)=true:=rfl;refine kI (p:=il A.aq m) (xs:=b.ah) (st:=fun j=>((j:Nat):Int)) (by omega) (fun j=>rec ((i+1:Nat):Int)) (some (b,3)) (fun rec=>?_) (fun rec j hj=>?_)
 ·simp only [Ag,Int.lt_irrefl,decide_false,cond_false,n3,cond_true,bU,Option.bind_some]
 ·have b2:((j:Nat):Int)<(b.ah.length:Int):=by omega
  simp only [Ag,b2,decide_true,cond_true,Int.natCast_nonneg,get_cast hj,Option.bind_some,aZ (show i<4611686018427387904 by omega),aZ (show j<4611686018427387904 by omega),il];cases decide (b.ah[j].aq=A.aq)<;>(try rfl)
theorem Mx (n i:Nat) (hi:i<A.Ends.length) (rec:pM→Option (aa×Int))
  (hin:∀ m dg,bS (Ag A.aq m (b.ah.length:Int) b.af ((i:Nat):Int) b.bM b.ah b.ak b.bM b.af b.ah b.ak n dg) n 0=TX b (dv (il A.aq m) b.ah 0) (dg ((i+1:Nat):Int))) :
  uN b.af k A.Ends (A.Ends.length:Int) b.bM b.ah b.ak A.aq A.Seen A.bK A.Want A.bb A.cM A.Ends A.Drop b.bM b.af b.ah b.ak n rec ((i:Nat):Int) =
   TX b (dv (il A.aq A.Ends[i].Number) b.ah 0) (rec ((i+1:Nat):Int)):=by
 have q1:(i:Int)<(A.Ends.length:Int):=by omega
 simp only [uN,K0,q1,decide_true,cond_true,Int.natCast_nonneg,get_cast hi,Option.bind_some,hin]
end
end Go.Proofs.Ytipemmgoipbojaa.Ab
set_option maxRecDepth 10000
namespace Go.Proofs.Ytipemmgoipbojaa.Ab
open Go Go.RowKit
theorem O6 {ss:List ae} {now:Int} (h:gK (zv (fun s=>vk s now) (fun d s=>slt d.Name s.Name) ss) ss.length 0=true):∀ (n i:Nat) (hi:i+n+1<ss.length),slt (ss[i]'(by omega)).Name (ss[i+n+1]'hi).Name=true:=by
 intro n
 induction n with
 | zero=>
  intro i hi;have:=kC h (i:=i+1) (by omega);rw [mC (by omega)] at this;simp only [Bool.and_eq_true,Bool.or_eq_true,decide_eq_true_eq,Nat.add_sub_cancel] at this
  rcases this.2 with e | e
  ·omega
  ·exact e
 | succ n ih=>
  intro i hi;have h1:=ih i (by omega);have:=kC h (i:=i+n+1+1) (by omega);rw [mC (by omega)] at this;simp only [Bool.and_eq_true,Bool.or_eq_true,decide_eq_true_eq,Nat.add_sub_cancel] at this
  rcases this.2 with e | e
  ·omega
  ·exact pR h1 e
theorem facts {b:aa} {A:au} {k:Nat} (h1:b.af.length≤1048576) (h3:b.ak.length≤1048576) (hk:k<b.af.length) (hp:dv (lY A.aq) b.af 0=(k:Int)) (hn:b.af[k].Name=A.aq) (hv:vB b=true) (hf:Kh A=true):kV b A b.af[k] k:=by
 unfold vB at hv;simp only [Bool.and_eq_true] at hv;obtain ⟨v1,v2,v3,v4,v5,v6,v7⟩:=hv;unfold Kh at hf;simp only [Bool.and_eq_true] at hf;obtain ⟨f1,f2,f3,f4⟩:=hf;have n:=di.1 v1;have c:=di.1 f1
 have lc:b.ah.length≤200:=by simp at v3;omega
 have le:A.Ends.length≤200:=by simp at f2;omega
 have sv:∀ (i:Nat) (hi:i<b.af.length),vk b.af[i] b.bM=true:=fun i hi=>by
  have:=kC v5 hi;rw [mC hi] at this;simp only [Bool.and_eq_true] at this;exact this.1
 have nx:=sv k hk;unfold vk at nx;simp only [Bool.and_eq_true] at nx;have nx:=di.1 nx.2.2.2.1;refine ⟨h1,by omega,h3,by omega,n.1,n.2,hk,List.getElem?_eq_getElem hk,hn,hp,by omega,nx.2,c.1,by omega,?_,?_,?_⟩
 ·intro x hx e
  obtain ⟨i,hi,rfl⟩:=List.mem_iff_getElem.1 hx;have:=kC v7 hi;rw [mC hi] at this;simp only [Bool.and_eq_true] at this;have:=this.1;unfold KC at this;rw [e,hn,hp,Int.toNat_natCast,List.getElem?_eq_getElem hk] at this;simp only [Bool.and_eq_true] at this;have q:=di.1 this.2.1;rw [bB (by omega) (by omega)] at q;omega
 ·intro j t ht
  obtain ⟨hj,rfl⟩:=List.getElem?_eq_some_iff.1 ht;constructor
  ·intro e
   rcases Nat.lt_trichotomy j k with h | h | h
   ·have:=O6 v5 (k-j-1) j (by omega)
    have e2:b.af[j+(k-j-1)+1]'(by omega)=b.af[k]:=by congr 1;omega
    rw [e2,e,hn,mh] at this;cases this
   ·exact h
   ·have:=O6 v5 (j-k-1) k (by omega)
    have e2:b.af[k+(j-k-1)+1]'(by omega)=b.af[j]:=by congr 1;omega
    rw [e2,e,hn,mh] at this;cases this
  ·intro e;subst e;exact hn
 ·intro hD
  unfold V6 at f4;rw [hD] at f4;simp only [Bool.and_eq_true,Bool.not_true,Bool.false_or,beq_iff_eq,Bool.not_eq_true'] at f4;exact ⟨f4.2.1,f4.2.2.1,List.eq_nil_of_length_eq_zero (by omega)⟩
section
variable {b:aa} {A:au} {s:ae} {k:Nat} {cs:List ai}
end
end Go.Proofs.Ytipemmgoipbojaa.Ab
set_option maxRecDepth 10000
namespace Go.Proofs.Ytipemmgoipbojaa.Ab
open Go Go.RowKit Go.IntKind
theorem g75 (a:au):G75 a=G81 a:=by
 unfold G75 Vz G81 S9;rw [Qk,g33]
 have e:bS (Jt a.bK a.Want a.bb a.cM a.Ends a.Drop fuel) fuel 1=bS (uK a.bK a.Want a.bb a.cM a.Ends a.Drop fuel) fuel 1:=by
  refine Uv (fun rec x=>?_) fuel 1;simp only [Jt,uK,Qk,g33]
  cases decide (x<(a.Ends.length:Int)) with
  | false=>rfl
  | true=>
   simp only [cond_true];cases decide (0≤x)<;>cases decide (0≤i64.wrap (x-1))<;>cases a.Ends[x.toNat]?<;>cases a.Ends[(i64.wrap (x-1)).toNat]?<;>rfl
 rw [e]
section
variable {b:aa} {A:au} {s:ae} {k:Nat}
def nZ (b:aa) (A:au) (s:ae) (k:Nat):List cu→List ai→Option (aa×Int)
 | [],cs=>LI b A s k cs
 | e::es,cs=>uH b s cs (dv (il A.aq e.Number) cs 0) fun x=>nZ b A s k es x
theorem run7 (F:kV b A s k):bS (nW b.af k A.Ends (A.Ends.length:Int) b.bM b.ak A.aq A.Seen A.bK A.Want A.bb A.cM A.Ends A.Drop b.bM b.af b.ah b.ak fuel) fuel (0,b.ah)=nZ b A s k A.Ends b.ah:=by
 have he:=F.he
 have key:∀ n i (cs:List ai),i≤A.Ends.length→cs.map eB=b.ah.map eB→A.Ends.length-i<n→bS (nW b.af k A.Ends (A.Ends.length:Int) b.bM b.ak A.aq A.Seen A.bK A.Want A.bb A.cM A.Ends A.Drop b.bM b.af b.ah b.ak fuel) n (((i:Nat):Int),cs)=nZ b A s k (A.Ends.drop i) cs:=by
  intro n
  induction n with
  | zero=>intro i cs _ _ h;omega
  | succ n ih=>
   intro i cs hi hk hn;rw [kY]
   rcases Nat.lt_or_ge i A.Ends.length with h | h
   ·rw [PW F hk fuel i h _ (fun m jP=>lp9_8 F hk fuel i h m jP),List.drop_eq_getElem_cons h]
    unfold nZ
    exact D9 hk fun x hx=>ih (i+1) x (by omega) hx (by omega)
   ·have:i=A.Ends.length:=by omega
    subst this;rw [Mv F hk _ (by omega),List.drop_length];rfl
 exact key fuel 0 b.ah (Nat.zero_le _) rfl (by have:=bT;omega)
def K8 (b:aa) (A:au):Prop:=∀ e∈A.Ends,∃ c,b.ah.find? (il A.aq e.Number)=some c∧c.Version=e.Seen
theorem As {e:cu} {c:ai} (h:b.ah.find? (il A.aq e.Number)=some c):¬ dv (il A.aq e.Number) b.ah 0<0∧b.ah[(dv (il A.aq e.Number) b.ah 0).toNat]?=some c:=by
 rcases mP (il A.aq e.Number) b.ah with ⟨_,h'⟩ | ⟨i,hi,e',h',_⟩
 ·rw [h] at h';cases h'
 ·rw [h] at h'
  rw [e'];exact ⟨by omega,by rw [Int.toNat_natCast,List.getElem?_eq_getElem hi];exact h'.symm⟩
theorem run3 (F:kV b A s k) (hN:K8 b A):bS (xf b.af k A.Ends (A.Ends.length:Int) b.bM b.ah b.ak A.aq A.Seen A.bK A.Want A.bb A.cM A.Ends A.Drop b.bM b.af b.ah b.ak fuel) fuel 0=nZ b A s k A.Ends b.ah:=by
 have he:=F.he;refine kL (st:=fun i=>((i:Nat):Int)) (val:=fun _=>nZ b A s k A.Ends b.ah) A.Ends.length (fun rec=>?_) (fun rec i hi hr=>?_) fuel 0 (Nat.zero_le _) (by have:=bT;omega)
 ·simp only [xf,KZ,Int.lt_irrefl,decide_false,cond_false]
  exact run7 F
 ·rw [Mw fuel i hi rec (fun m x dz=>lp9_4 F fuel i hi m x dz)]
  obtain ⟨c,h1,h2⟩:=hN _ (List.getElem_mem hi);obtain ⟨p1,p2⟩:=As h1;unfold TW;rw [p2];simp only [p1,decide_false,cond_false,h2,bne_self_eq_false];exact hr
theorem run1 (F:kV b A s k) (hN:K8 b A) (hs:s.Version=A.Seen):bS (uN b.af k A.Ends (A.Ends.length:Int) b.bM b.ah b.ak A.aq A.Seen A.bK A.Want A.bb A.cM A.Ends A.Drop b.bM b.af b.ah b.ak fuel) fuel 0=nZ b A s k A.Ends b.ah:=by
 have he:=F.he;refine kL (st:=fun i=>((i:Nat):Int)) (val:=fun _=>nZ b A s k A.Ends b.ah) A.Ends.length (fun rec=>?_) (fun rec i hi hr=>?_) fuel 0 (Nat.zero_le _) (by have:=bT;omega)
 ·simp only [uN,K0,Int.lt_irrefl,decide_false,cond_false,F.hs,Option.bind_some,hs,bne_self_eq_false]
  exact run3 F hN
 ·rw [Mx fuel i hi rec (fun m dg=>lp9_2 F fuel i hi m dg)]
  obtain ⟨c,h1,h2⟩:=hN _ (List.getElem_mem hi);obtain ⟨p1,p2⟩:=As h1;unfold TX;simp only [p1,decide_false,cond_false];exact hr
theorem wc (hv:vB b=true) (hf:Kh A=true) (F:kV b A s k) (hN:K8 b A) (hs:s.Version=A.Seen):Dn b A=nZ b A s k A.Ends b.ah:=by
 have h1:=F.h1
 have h2:b.ah.length≤1048576:=by have:=F.h2;omega
 have h3:=F.h3;have Xa:iV b=some b:=g24 h1 h2 h3;unfold Dn VR;rw [Tt h1 h2 h3,Option.bind_some,hv,Xa,g75,g81 F.he,hf];simp only [Bool.not_true,cond_false,Option.bind_some]
 have:=kI (p:=lY A.aq) (xs:=b.af) (st:=fun i=>((i:Nat):Int)) (eR:=Ah A.aq (b.af.length:Int) b.bM b.af b.ah b.ak A.aq A.Seen A.bK A.Want A.bb A.cM A.Ends A.Drop b.bM b.af b.ah b.ak fuel) h1
  (fun i=>bS (uN b.af i A.Ends (A.Ends.length:Int) b.bM b.ah b.ak A.aq A.Seen A.bK A.Want A.bb A.cM A.Ends A.Drop b.bM b.af b.ah b.ak fuel) fuel 0) (some (b,3)) (fun rec=>by
   have n3:((3:Nat) != 0)=true:=rfl;have e24':iV (⟨b.bM,b.af,b.ah,b.ak⟩:aa)=some b:=Xa
   simp only [Ah,K1,Int.lt_irrefl,decide_false,cond_false,n3,cond_true,e24',Option.bind_some]) (fun rec i hi=>by
   have q1:(i:Int)<(b.af.length:Int):=by omega
   simp only [Ah,K1,q1,decide_true,cond_true,Int.natCast_nonneg,get_cast hi,Option.bind_some,aZ (show i<4611686018427387904 by omega),lY,Int.toNat_natCast,List.getElem?_eq_getElem hi])
 refine Eq.trans this ?_
 have hp:¬ ((k:Nat):Int)<0:=by omega
 rw [F.pos];simp only [hp,decide_false,cond_false,Int.toNat_natCast];exact run1 F hN hs
end
end Go.Proofs.Ytipemmgoipbojaa.Ab
set_option maxRecDepth 10000
namespace Go.Proofs.Ytipemmgoipbojaa.Ab
open Go Go.RowKit Go.IntKind
def DM (n:BA) (c:ai):Bool:=decide (c.aq=n)
def mkd (v:Int) (c:ai):ai:=⟨c.aq,c.Number,v,c.ax,c.State,true,c.bE⟩
structure Mk (v:Int) (n:BA) (cs cs':List ai):Prop where
 key:cs'.map eB=cs.map eB
 mem:∀ c'∈cs',c'∈cs∨∃ c∈cs,c.aq=n∧c'=mkd v c
 oth:∀ m,m≠n→cs'.filter (DM m)=cs.filter (DM m)
theorem Mk.refl (v:Int) (n:BA) (cs:List ai):Mk v n cs cs:=⟨rfl,fun c h=>.inl h,fun _ _=>rfl⟩
def Mh (v:Int) (n:BA) (m:Int) (c:ai):ai:=cond (il n m c) (mkd v c) c
theorem JS (v:Int) (n:BA) (m:Int) (c:ai):eB (Mh v n m c)=eB c:=by unfold Mh;cases il n m c<;>rfl
theorem Pq (v:Int) (n:BA) (m:Int) (c:ai):(Mh v n m c).aq=c.aq:=by unfold Mh;cases il n m c<;>rfl
theorem Ki {α:Type} {p:α→Bool} {f:α→α} (h1:∀ c,p (f c)=p c) (h2:∀ c,p c=true→f c=c):∀ (l:List α),(l.map f).filter p=l.filter p
 | []=>rfl
 | c::l=>by
  rw [List.map_cons,List.filter_cons,List.filter_cons,h1,Ki h1 h2 l]
  cases hp:p c with
  | true=>simp [h2 c hp]
  | false=>simp
theorem Mk.mark {v:Int} {n:BA} {cs cs':List ai} (h:Mk v n cs cs') (m:Int):Mk v n cs (cs'.map (Mh v n m)):=by
 refine ⟨by rw [List.map_map,← h.key];exact List.map_congr_left fun c _=>JS v n m c,fun c' hc=>?_,fun m' hm=>?_⟩
 ·obtain ⟨d,hd,rfl⟩:=List.mem_map.1 hc
  unfold Mh
  cases hp:il n m d with
  | false=>exact h.mem d hd
  | true=>
   have hs:d.aq=n:=by simp only [il,Bool.and_eq_true,decide_eq_true_eq] at hp;exact hp.1
   rcases h.mem d hd with e | ⟨c,hc,e1,e2⟩
   ·exact .inr ⟨d,e,hs,rfl⟩
   ·exact .inr ⟨c,hc,e1,by rw [e2];rfl⟩
 ·rw [←h.oth m' hm]
  refine Ki (fun c=>by unfold DM;rw [Pq]) (fun c hc=>?_) cs'
  have hs:c.aq=m':=by simpa [DM] using hc
  have:il n m c=false:=by
   unfold il
   have:decide (c.aq=n)=false:=by rw [hs];simp [hm]
   rw [this];rfl
  unfold Mh;rw [this];rfl
structure Step (x y:aa) (n:BA):Prop where
 val:VB y
 ber:y.ak=x.ak
 ser:∀ t,t.Name≠n→(t∈y.af↔t∈x.af)
 cop:∀ m,m≠n→y.ah.filter (DM m)=x.ah.filter (DM m)
theorem Oc {t:ae} {n:Int} (h:vk t n=true):vk t (n+1)=true:=by
 unfold vk at h ⊢;simp only [Bool.and_eq_true,di] at h ⊢;exact ⟨h.1,by omega,h.2.2⟩
theorem IK {x y:aa} {c:ai} {s t:ae} (h:cpQ x c s) (hm:t∈y.af) (hn:t.Name=s.Name) (h0:1≤s.Next∧s.Next≤1000000) (hx:s.Next≤t.Next∧t.Next≤1000000) (Z8:y.bM=x.bM+1) (hb:y.ak=x.ak):cpQ y c t:=by
 obtain ⟨_,q1,q2,q3,q4,q5,q6⟩:=h;refine ⟨hm,hn.trans q1,?_,?_,q4,q5,by rw [hb];exact q6⟩
 ·have:=di.1 q2
  rw [bB (by omega) (by omega)] at this;rw [di,bB (by omega) (by omega)];omega
 ·have:=di.1 q3
  rw [di,Z8];omega
theorem Ve {y:aa} {c:ai} {t:ae} (h:cpQ y c t) (hv:1≤y.bM):cpQ y (mkd y.bM c) t:=by
 obtain ⟨q0,q1,q2,q3,q4,q5,q6⟩:=h;exact ⟨q0,q1,q2,by rw [di];exact ⟨hv,Int.le_refl _⟩,q4,q5,q6⟩
theorem UG {n:BA} {cs ns:List ai} (h:(cs.map eB).Pairwise (fun x y=>CF x y=true)) (h1:(ns.map eB).Pairwise (fun x y=>CF x y=true)) (h2:∀ c∈ns,c.aq=n) (h3:∀ c∈cs,c.aq=n→∀ d∈ns,c.Number<d.Number) :
  ((jL (lead (sw n) cs) cs ns).map eB).Pairwise (fun x y=>CF x y=true):=by
 unfold jL lead
 have ht:cs.take (cs.takeWhile (sw n)).length=cs.takeWhile (sw n):=by
  have:=List.takeWhile_append_dropWhile (p:=sw n) (l:=cs)
  conv=>lhs;rw [←this]
  rw [List.take_left'];rw [this]
 have hd:cs.drop (cs.takeWhile (sw n)).length=cs.dropWhile (sw n):=by
  have:=List.takeWhile_append_dropWhile (p:=sw n) (l:=cs)
  conv=>lhs;rw [←this]
  rw [List.drop_left'];rw [this]
 rw [ht,hd];have hall:=List.takeWhile_append_dropWhile (p:=sw n) (l:=cs);rw [←hall,List.map_append,List.pairwise_append] at h;obtain ⟨p1,p2,p3⟩:=h
 have big:∀ d∈cs.dropWhile (sw n),slt n d.aq=true:=by
  intro d hd
  cases e:cs.dropWhile (sw n) with
  | nil=>rw [e] at hd;cases hd
  | cons c r=>
   have hc:slt n c.aq=true:=by
    have:sw n c=false:=by
     have:=List.head_dropWhile_not (sw n) (l:=cs) (by rw [e];simp)
     simpa [e] using this
    simpa [sw] using this
   rw [e] at hd p2
   rcases List.mem_cons.1 hd with rfl | hd
   ·exact hc
   ·rw [List.map_cons,List.pairwise_cons] at p2
    have:=p2.1 (eB d) (List.mem_map.2 ⟨d,hd,rfl⟩);rw [pZ] at this
    rcases this with h | h
    ·exact pR hc h
    ·have:c.aq=d.aq:=h.1
     rw [←this];exact hc
 rw [List.map_append,List.map_append,List.pairwise_append,List.pairwise_append];refine ⟨⟨p1,h1,fun a ha b hb=>?_⟩,p2,fun a ha b hb=>?_⟩
 ·obtain ⟨c,hc,rfl⟩:=List.mem_map.1 ha
  obtain ⟨d,hd,rfl⟩:=List.mem_map.1 hb
  have hcc:c∈cs:=by rw [←hall];exact List.mem_append.2 (.inl hc)
  have hle:sw n c=true:=by
   have:=List.all_takeWhile (p:=sw n) (l:=cs);rw [List.all_eq_true] at this;exact this c hc
  have hle:slt n c.aq=false:=by simpa [sw] using hle
  rw [pZ];show slt c.aq d.aq=true∨(c.aq=d.aq∧c.Number<d.Number);rw [h2 d hd]
  rcases Cb c.aq n with h | h | h
  ·exact .inl h.1
  ·rw [hle] at h;cases h.2.1
  ·exact .inr ⟨h.2.2,h3 c hcc h.2.2 d hd⟩
 ·obtain ⟨d,hd,rfl⟩:=List.mem_map.1 hb
  rcases List.mem_append.1 ha with ha | ha
  ·exact p3 a ha (eB d) hb
  ·obtain ⟨c,hc,rfl⟩:=List.mem_map.1 ha
   rw [pZ];refine .inl ?_;show slt c.aq d.aq=true;rw [h2 c hc];exact big d hd
theorem UD {α:Type} {i:Nat} {xs ys:List α} {c:α}:c∈jL i xs ys↔c∈xs∨c∈ys:=by
 unfold jL;simp only [List.mem_append];constructor
 ·rintro ((h | h) | h)
  ·exact .inl (List.mem_of_mem_take h)
  ·exact .inr h
  ·exact .inl (List.mem_of_mem_drop h)
 ·rintro (h | h)
  ·have:c∈xs.take i++xs.drop i:=by rw [List.take_append_drop];exact h
   rcases List.mem_append.1 this with h | h
   ·exact .inl (.inl h)
   ·exact .inr h
  ·exact .inl (.inr h)
theorem UE {α:Type} {i:Nat} {xs ys:List α} {p:α→Bool} (h:∀ c∈ys,p c=false):(jL i xs ys).filter p=xs.filter p:=by
 unfold jL;rw [List.filter_append,List.filter_append]
 have:ys.filter p=[]:=by rw [List.filter_eq_nil_iff];intro c hc;rw [h c hc];simp
 rw [this,List.append_nil,← List.filter_append,List.take_append_drop]
theorem se {v:Int} {s:ae} {M:Nat} {c:ai} (h:c∈news v s M):∃ j,j<M∧c=Mg v s j:=by
 unfold news at h;obtain ⟨j,hj,rfl⟩:=List.mem_map.1 h;exact ⟨j,List.mem_range.1 hj,rfl⟩
theorem Jl {α:Type} {ss:List α} {k:Nat} {t u:α} (hk:k<ss.length):u∈ss.set k t→u=t∨u∈ss:=by
 intro h
 rcases List.mem_or_eq_of_mem_set h with h | h
 ·exact .inr h
 ·exact .inl h
theorem LP {x:aa} {s:ae} {k M:Nat} {cs:List ai} {W Co:Int} (V:VB x) (hk:k<x.af.length) (hs:x.af[k]=s) (hmk:Mk (x.bM+1) s.Name x.ah cs) (Z8:x.bM<1000000) (hM:x.ah.length+M≤200) (hN:s.Next+(M:Int)≤1000000)
  (hW:0≤W∧W≤10) (hC:0≤Co∧Co≤3) (hP:s.bY=0→Co=0):Step x (xE (x.bM+1) (x.af.set k (ot s (x.bM+1) W Co M)) (jL (lead (sw s.Name) cs) cs (news (x.bM+1) s M)) x.ak) s.Name:=by
 have Ha:s∈x.af:=by rw [←hs];exact List.getElem_mem hk
 have S:=jO (V.sv s Ha);have n0:=V.now
 have aac:(x.af.set k (ot s (x.bM+1) W Co M)).map (·.Name)=x.af.map (·.Name):=by
  rw [List.map_set];apply List.ext_getElem?;intro i;rw [List.getElem?_set]
  by_cases e:k=i
  ·subst e;simp [hk,hs,ot]
  ·simp [e]
 have hlen:cs.length=x.ah.length:=by have:=congrArg List.length hmk.key;simpa using this
 have hnum:∀ c∈x.ah,c.aq=s.Name→c.Number<s.Next:=fun c hc e=>by
  obtain ⟨t,q0,q1,q2,_⟩:=V.cp c hc;have:t=s:=tO V.so q0 Ha (q1.trans e);subst this;have:=di.1 q2;rw [bB (by have:=S.next;omega) (by have:=S.next;omega)] at this;omega
 have hsv:=V.sv s Ha;have hnx:=S.next
 have hco:(cs.map eB).Pairwise (fun x y=>CF x y=true):=by rw [hmk.key];exact V.co
 have hnew:ot s (x.bM+1) W Co M∈x.af.set k (ot s (x.bM+1) W Co M):=List.mem_set hk _
 have other:∀ t,t.Name≠s.Name→(t∈x.af.set k (ot s (x.bM+1) W Co M)↔t∈x.af):=fun t ht=>by
  constructor
  ·intro h
   rcases Jl hk h with e | e
   ·exact absurd (by rw [e];rfl) ht
   ·exact e
  ·intro h
   obtain ⟨i,hi,rfl⟩:=List.mem_iff_getElem.1 h
   have hne:k≠i:=fun e=>ht (by subst e;rw [hs])
   rw [List.mem_iff_getElem];exact ⟨i,by simpa using hi,by rw [List.getElem_set_ne hne]⟩
 have hcp:∀ c∈x.ah,∃ t,cpQ (xE (x.bM+1) (x.af.set k (ot s (x.bM+1) W Co M)) (jL (lead (sw s.Name) cs) cs (news (x.bM+1) s M)) x.ak) c t:=fun c hc=>by
  obtain ⟨t,q⟩:=V.cp c hc;have T:=jO (V.sv t q.1)
  by_cases e:t.Name=s.Name
  ·have:t=s:=tO V.so q.1 Ha e
   subst this;exact ⟨_,IK q hnew rfl T.next ⟨by show _≤t.Next+(M:Int);omega,hN⟩ rfl rfl⟩
  ·exact ⟨t,IK q ((other t e).2 q.1) rfl T.next ⟨Int.le_refl _,T.next.2⟩ rfl rfl⟩
 refine ⟨⟨⟨by show 0≤x.bM+1;omega,by show x.bM+1≤1000000;omega⟩,by simpa [xE] using V.ls,?_,V.lb,fun t ht=>?_,?_,V.be,fun c hc=>?_,?_⟩,rfl,other,fun m hm=>?_⟩
 ·show (jL (lead (sw s.Name) cs) cs (news (x.bM+1) s M)).length≤200
  rw [Fa (CD _ _),EV];omega
 ·rcases Jl hk ht with e | e
  ·rw [e]
   show vk _ (x.bM+1)=true;simp only [vk,Bool.and_eq_true,di] at hsv ⊢;obtain ⟨a1,a2,a3,a4,a5,a6,a7,a8,a9⟩:=hsv;refine ⟨a1,by show 1≤x.bM+1∧x.bM+1≤x.bM+1;omega,a3,by show 1≤s.Next+(M:Int)∧s.Next+(M:Int)≤1000000;omega,hW,a6,a7,a8,?_⟩;show cond (s.bY==0) ((s.aD==0)&&((s.aU==0)&&((s.bF==0)&&(Co==0)))) (eC s.bY 0 1000000&&(eC s.bF 0 1000000&&(eC s.aD 0 10&&(eC s.aU s.aD 10&&eC Co 0 3))))=true
   cases hp:(s.bY==0) with
   | true=>
    rw [hp] at a9;simp only [cond_true,Bool.and_eq_true] at a9 ⊢;exact ⟨a9.1,a9.2.1,a9.2.2.1,by rw [hP (by simpa using hp)];rfl⟩
   | false=>
    rw [hp] at a9;simp only [cond_false,Bool.and_eq_true,di] at a9 ⊢;exact ⟨a9.1,a9.2.1,a9.2.2.1,a9.2.2.2.1,hC⟩
  ·exact Oc (V.sv t e)
 ·show ((x.af.set k (ot s (x.bM+1) W Co M)).map (·.Name)).Pairwise _
  rw [aac];exact V.so
 ·rcases UD.1 hc with h | h
  ·rcases hmk.mem c h with e | ⟨d,hd,e1,e2⟩
   ·exact hcp c e
   ·obtain ⟨t,q⟩:=hcp d hd
    rw [e2];exact ⟨t,Ve q (by show 1≤x.bM+1;omega)⟩
  ·obtain ⟨j,hj,rfl⟩:=se h
   refine ⟨_,hnew,rfl,?_,?_,?_,rfl,rfl⟩
   ·show eC (s.Next+(j:Int)) 1 (i64.wrap (s.Next+(M:Int)-1))=true
    rw [di,bB (by omega) (by omega)];omega
   ·show eC (x.bM+1) 1 (x.bM+1)=true
    rw [di];omega
   ·show eC s.ax 1 1000000=true
    rw [di];exact S.image
 ·show ((jL (lead (sw s.Name) cs) cs (news (x.bM+1) s M)).map eB).Pairwise _
  refine UG hco ?_ (fun c hc=>?_) (fun c hc e d hd=>?_)
  ·unfold news
   rw [List.map_map,List.pairwise_map];refine List.Pairwise.imp ?_ List.pairwise_lt_range;intro a b hab;show CF (s.Name,s.Next+(a:Int)) (s.Name,s.Next+(b:Int))=true;rw [pZ];exact .inr ⟨rfl,by show s.Next+(a:Int)<s.Next+(b:Int);omega⟩
  ·obtain ⟨j,hj,rfl⟩:=se hc;rfl
  ·obtain ⟨j,hj,rfl⟩:=se hd
   have:eB c∈x.ah.map eB:=by rw [←hmk.key];exact List.mem_map.2 ⟨c,hc,rfl⟩
   obtain ⟨c0,h0,e0⟩:=List.mem_map.1 this;have e1:c0.aq=c.aq:=congrArg Prod.fst e0;have e2:c0.Number=c.Number:=congrArg Prod.snd e0;have:=hnum c0 h0 (e1.trans e);show c.Number<s.Next+(j:Int);omega
 ·show (jL (lead (sw s.Name) cs) cs (news (x.bM+1) s M)).filter (DM m)=_
  have hf:∀ c∈news (x.bM+1) s M,DM m c=false:=fun c hc=>by
   obtain ⟨j,hj,rfl⟩:=se hc
   exact decide_eq_false fun e=>hm (Eq.symm e)
  rw [UE hf];exact hmk.oth m hm
theorem step_drop {x:aa} {s:ae} {k:Nat} (V:VB x) (hk:k<x.af.length) (hs:x.af[k]=s) (Z8:x.bM<1000000) (hno:∀ c∈x.ah,c.aq≠s.Name) :
  Step x (xE (x.bM+1) (x.af.take k++x.af.drop (k+1)) x.ah x.ak) s.Name:=by
 have n0:=V.now
 have hsub:(x.af.take k++x.af.drop (k+1)).Sublist x.af:=by
  have:=List.eraseIdx_sublist x.af k
  rwa [List.eraseIdx_eq_take_drop_succ] at this
 have other:∀ t,t.Name≠s.Name→(t∈x.af.take k++x.af.drop (k+1)↔t∈x.af):=fun t ht=>by
  constructor
  ·exact fun h=>hsub.subset h
  ·intro h
   obtain ⟨i,hi,rfl⟩:=List.mem_iff_getElem.1 h;rw [List.mem_append]
   rcases Nat.lt_trichotomy i k with h1 | h1 | h1
   ·exact .inl (List.mem_iff_getElem.2 ⟨i,by simp;omega,by simp⟩)
   ·subst h1;exact absurd (by rw [hs]) ht
   ·exact .inr (List.mem_iff_getElem.2 ⟨i-(k+1),by simp;omega,by simp;congr 1;omega⟩)
 refine ⟨⟨⟨by show 0≤x.bM+1;omega,by show x.bM+1≤1000000;omega⟩,Nat.le_trans hsub.length_le V.ls,V.lc,V.lb,fun t ht=>Oc (V.sv t (hsub.subset ht)),?_,V.be,fun c hc=>?_,V.co⟩,rfl,other,fun m hm=>rfl⟩
 ·exact List.Pairwise.sublist (hsub.map _) V.so
 ·obtain ⟨t,q⟩:=V.cp c hc
  have T:=jO (V.sv t q.1)
  have hne:t.Name≠s.Name:=fun e=>hno c hc (q.2.1.symm.trans e)
  exact ⟨t,IK q ((other t hne).2 q.1) rfl T.next ⟨Int.le_refl _,T.next.2⟩ rfl rfl⟩
end Go.Proofs.Ytipemmgoipbojaa.Ab
set_option maxRecDepth 10000
namespace Go.Proofs.Ytipemmgoipbojaa.Ab
open Go Go.RowKit Go.IntKind
theorem yf {cs:List ai} (h:(cs.map eB).Pairwise (fun x y=>CF x y=true)) {c:ai} (hc:c∈cs):cs.find? (il c.aq c.Number)=some c:=by
 cases e:cs.find? (il c.aq c.Number) with
 | none=>
  have:=List.find?_eq_none.1 e c hc;simp [il] at this
 | some d=>
  have h1:=List.find?_some e;have h2:=List.mem_of_find?_eq_some e;simp only [il,Bool.and_eq_true,decide_eq_true_eq,beq_iff_eq] at h1;rw [PR h h2 hc (by unfold eB;rw [h1.1,h1.2])]
theorem U5 {cs:List ai} (h:(cs.map eB).Pairwise (fun x y=>CF x y=true)) {v:Int} {j:Nat} {c:ai} (hj:cs[j]?=some c):IA v cs j c=cs.map (Mh v c.aq c.Number):=by
 obtain ⟨hlt,hc⟩:=List.getElem?_eq_some_iff.1 hj;unfold IA;apply List.ext_getElem?;intro i;rw [List.getElem?_set,List.getElem?_map]
 by_cases e:j=i
 ·subst e
  simp only [if_true,hj,Option.map_some,hlt];unfold Mh
  have:il c.aq c.Number c=true:=by simp [il]
  rw [this];rfl
 ·simp only [e,if_false]
  cases hi:cs[i]? with
  | none=>rfl
  | some d=>
   obtain ⟨hilt,hd⟩:=List.getElem?_eq_some_iff.1 hi;simp only [Option.map_some];unfold Mh
   cases hp:il c.aq c.Number d with
   | false=>rfl
   | true=>
    exfalso;simp only [il,Bool.and_eq_true,decide_eq_true_eq,beq_iff_eq] at hp
    have ek:eB d=eB c:=by unfold eB;rw [hp.1,hp.2]
    rw [List.pairwise_map] at h
    rcases Nat.lt_trichotomy i j with h' | h' | h'
    ·have:=List.pairwise_iff_getElem.1 h i j hilt hlt h'
     rw [hd,hc,ek,vY] at this;cases this
    ·exact e h'.symm
    ·have:=List.pairwise_iff_getElem.1 h j i hlt hilt h'
     rw [hd,hc,ek,vY] at this;cases this
def Dk (v:Int) (s:ae):List cu→List ai→Prop
 | [],_=>True
 | e::es,cs=>∃ c,cs.find? (il s.Name e.Number)=some c∧Ml s cs c=true∧Dk v s es (cs.map (Mh v s.Name e.Number))
theorem FG {x:aa} {A:au} {s:ae} {k:Nat} (V:VB x) (hA:A.aq=s.Name):∀ (es:List cu) (cs:List ai),Mk (rF x) s.Name x.ah cs→Dk (rF x) s es cs→∃ cs',Mk (rF x) s.Name x.ah cs'∧nZ x A s k es cs=LI x A s k cs'
 | [],cs,hmk,_=>⟨cs,hmk,rfl⟩
 | e::es,cs,hmk,hm=>by
  obtain ⟨c,h1,h2,h3⟩:=hm
  have hco:(cs.map eB).Pairwise (fun x y=>CF x y=true):=by rw [hmk.key];exact V.co
  unfold nZ;rw [hA]
  rcases mP (il s.Name e.Number) cs with ⟨_,h'⟩ | ⟨i,hi,e',h',hp⟩
  ·rw [h1] at h';cases h'
  ·rw [h1] at h'
   have hci:cs[i]?=some c:=by rw [List.getElem?_eq_getElem hi];exact h'.symm
   have hc:c=cs[i]:=Option.some.inj h'
   have hp':c.aq=s.Name∧c.Number=e.Number:=by
    rw [←hc] at hp
    simpa [il] using hp
   rw [e'];unfold uH OL
   have h0:¬ ((i:Nat):Int)<0:=by omega
   simp only [h0,decide_false,cond_false,Int.toNat_natCast,hci,h2,cond_true];rw [U5 hco hci,hp'.1,hp'.2];exact FG V hA es _ (hmk.mark e.Number) h3
def rr (x:aa) (n:BA) (r:aa×Int):Prop:=(r.2=7∧r.1=x)∨(r.2=0∧Step x r.1 n)
theorem ud {x:aa} {A:au} {s:ae} {k M:Nat} {cs:List ai} {W Co:Int} (V:VB x) (hk:k<x.af.length) (hs:x.af[k]=s) (hmk:Mk (rF x) s.Name x.ah cs) (hA:A.bK=(M:Int)) (hM:M≤20)
  (hW:0≤W∧W≤10) (hC:0≤Co∧Co≤3) (hP:s.bY=0→Co=0):Ok (f7 x A s (Iu x A s k cs W Co)) (rr x s.Name):=by
 have n0:=V.now;have l:=V.lc;have S:=jO (V.sv s (by rw [←hs];exact List.getElem_mem hk));have hnx:=S.next;have hv:rF x=x.bM+1:=bB (by omega) (by omega);unfold f7 Iu;rw [hA,Int.toNat_natCast,bB (n:=(x.ah.length:Int)+(M:Int)) (by omega) (by omega),bB (n:=s.Next+(M:Int)) (by omega) (by omega)]
 refine cU (fun _=>aC (.inl ⟨rfl,rfl⟩)) fun h1=>cU (fun _=>aC (.inl ⟨rfl,rfl⟩)) fun h2=>cU (fun _=>aC (.inl ⟨rfl,rfl⟩)) fun h3=>aC (.inr ⟨rfl,?_⟩)
 rw [hv] at hmk ⊢;exact LP V hk hs hmk (by omega) (by omega) (by omega) hW hC hP
theorem Rc {l:List ai} (h:(l.map (·.Number)).Pairwise (· < ·)):gK (enP (l.map toEnd)) (l.map toEnd).length 1=true:=by
 unfold gK;rw [List.all_eq_true];intro i hi
 have eN:1≤i∧i<(l.map toEnd).length:=by simp [List.mem_range'] at hi ⊢;omega
 have hl:i<l.length:=by simpa using eN.2
 unfold enP;rw [List.getElem?_eq_getElem (by omega),List.getElem?_eq_getElem eN.2];rw [List.pairwise_map] at h;have:=List.pairwise_iff_getElem.1 h (i-1) i (by omega) hl (by omega);simp only [List.getElem_map];show (!decide ((l[i-1]'(by omega)).Number≥l[i].Number))=true;simp;omega
theorem Rb {cs l:List ai} {n:BA} (h:(cs.map eB).Pairwise (fun x y=>CF x y=true)) (hl:l.Sublist cs) (hn:∀ c∈l,c.aq=n):(l.map (·.Number)).Pairwise (· < ·):=by
 rw [List.pairwise_map] at h ⊢
 refine (h.sublist hl).imp_of_mem fun {a b} ha hb hab=>?_
 rw [pZ] at hab
 rcases hab with e | e
 ·have e:slt a.aq b.aq=true:=e
  rw [hn a ha,hn b hb,mh] at e;cases e
 ·exact e.2
section
variable {x:aa} {s:ae}
theorem fm_acE {l:List ai} (V:VB x) (hl:l.Sublist x.ah) (hn:∀ c∈l,c.aq=s.Name):Kh (jJ s (l.map toEnd))=true:=by
 have h1:=Rc (Rb V.co hl hn);have h2:l.length≤200:=Nat.le_trans hl.length_le V.lc;unfold Kh V6
 have h3:¬ (((l.map toEnd).length:Int)>200):=by simp;omega
 simp only [jJ,h1,h3,decide_false,Bool.not_false,Bool.true_and,Bool.and_true,cond_false,beq_self_eq_true,Bool.true_or]
 decide
theorem sG {A:au} (V:VB x) (hs:s∈x.af) (hA:A.aq=s.Name) (hf:Kh A=true):∃ k,∃ hk:k<x.af.length,x.af[k]=s∧kV x A s k:=by
 obtain ⟨k,hk,e,hp⟩:=at_mem V.so hs;have:=facts (b:=x) (A:=A) (k:=k) (by have:=V.ls;omega) (by have:=V.lb;omega) hk (by rw [hA];exact hp) (by rw [hA,e]) (oE.2 V) hf;rw [e] at this;exact ⟨k,hk,e,this⟩
theorem Pp {l:List ai} (V:VB x) (hl:∀ c∈l,c∈x.ah∧c.aq=s.Name):K8 x (jJ s (l.map toEnd)):=by
 intro e he;obtain ⟨c,hc,rfl⟩:=List.mem_map.1 he;obtain ⟨h1,h2⟩:=hl c hc;refine ⟨c,?_,rfl⟩;have:=yf V.co h1;rw [h2] at this;exact this
theorem Ba {l:List ai} (V:VB x) (hs:s∈x.af) (hl:l.Sublist x.ah) (hn:∀ c∈l,c.aq=s.Name) (hm:Dk (rF x) s (l.map toEnd) x.ah):Ok (Dn x (jJ s (l.map toEnd))) (rr x s.Name):=by
 have hf:=fm_acE (s:=s) V hl hn;obtain ⟨k,hk,e,F⟩:=sG V hs rfl hf;have S:=jO (V.sv s hs);rw [wc (oE.2 V) hf F (Pp V fun c hc=>⟨hl.subset hc,hn c hc⟩) rfl];obtain ⟨cs',hmk,hr⟩:=FG (A:=jJ s (l.map toEnd)) (k:=k) V rfl (l.map toEnd) x.ah (Mk.refl _ _ _) hm;have hr':nZ x (jJ s (l.map toEnd)) s k (jJ s (l.map toEnd)).Ends x.ah=LI x (jJ s (l.map toEnd)) s k cs':=hr;rw [hr']
 have h0:¬ ((jJ s (l.map toEnd)).bK>0):=by simp [jJ]
 unfold LI fC;rw [show (jJ s (l.map toEnd)).Drop=false from rfl,show (jJ s (l.map toEnd)).cM=false from rfl];simp only [cond_false,h0,decide_false]
 exact ud (M:=0) V hk e hmk rfl (by omega) S.want S.MV fun hp=>by
  have:=V.sv s hs;simp only [vk,Bool.and_eq_true] at this;have:=this.2.2.2.2.2.2.2.2;rw [hp] at this;simp at this;omega
theorem JX:∀ (l cs:List ai),(cs.map eB).Pairwise (fun x y=>CF x y=true)→(l.map (·.Number)).Pairwise (· < ·)→(∀ c∈l,c∈cs∧c.aq=s.Name∧c.Ending=false∧(c.State≠3∨s.bq=true))→Dk (rF x) s (l.map toEnd) cs
 | [],cs,_,_,_=>trivial
 | c::r,cs,hco,hp,hall=>by
  obtain ⟨h1,h2,h3,h4⟩:=hall c (by simp);have hf:=yf hco h1;rw [h2] at hf;rw [List.map_cons,List.pairwise_cons] at hp;refine ⟨c,hf,?_,?_⟩
  ·unfold Ml
   rw [h3]
   rcases h4 with h | h
   ·have:(c.State != 3)=true:=by simpa using h
    rw [this];rfl
   ·rw [h];cases (c.State != 3)<;>rfl
  ·refine JX r _ ?_ hp.2 fun d hd=>?_
   ·have:(cs.map (Mh (rF x) s.Name (toEnd c).Number)).map eB=cs.map eB:=by rw [List.map_map];exact List.map_congr_left fun c _=>JS _ _ _ c
    rw [this];exact hco
   ·obtain ⟨g1,g2,g3,g4⟩:=hall d (by simp [hd])
    refine ⟨List.mem_map.2 ⟨d,g1,?_⟩,g2,g3,g4⟩;have hlt:=hp.1 d.Number (List.mem_map.2 ⟨d,hd,rfl⟩);unfold Mh
    have:il s.Name (toEnd c).Number d=false:=by
     have:(d.Number==(toEnd c).Number)=false:=by show (d.Number==c.Number)=false;simp;omega
     unfold il;rw [this];simp
    rw [this];rfl
theorem Zv:∀ c∈fI x s,c.Ending=false:=fun c hc=>by
 unfold fI dV at hc;have:=(List.mem_filter.1 hc).2;simp only [lN,Bool.and_eq_true,Bool.not_eq_true'] at this;exact this.2
theorem AF {l:List ai} (V:VB x) (hs:s∈x.af) (hl:l.Sublist (fI x s)) (h:∀ c∈l,c.State≠3∨s.bq=true):Ok (Dn x (jJ s (l.map toEnd))) (rr x s.Name):=by
 have hsub:(fI x s).Sublist x.ah:=List.filter_sublist
 have hn:∀ c∈l,c.aq=s.Name:=fun c hc=>(uU c (hl.subset hc)).2
 exact Ba V hs (hl.trans hsub) hn (JX l x.ah V.co (Rb V.co (hl.trans hsub) hn) fun c hc=>⟨(uU c (hl.subset hc)).1,hn c hc,Zv c (hl.subset hc),h c hc⟩)
theorem EO {gD:Int} {bs:List aG}:∀ (r:List ai) (c:ai),r.foldl (pick gD bs) c∈c::r
 | [],c=>by simp
 | d::r,c=>by
  rw [List.foldl_cons];have:=EO (gD:=gD) (bs:=bs) r (pick gD bs c d)
  rcases List.mem_cons.1 this with h | h
  ·rw [h];unfold pick;cases DV gD bs d c<;>simp
  ·simp [h]
theorem O8 {m:ai} (V:VB x) (hs:s∈x.af) (hm:m∈fI x s) (Qb:iF x s s.Name m.Number=true):Ok (Dn x (jJ s [toEnd m])) (rr x s.Name):=by
 obtain ⟨h1,h2⟩:=uU m hm;have hf:=yf V.co h1;rw [h2] at hf;unfold iF at Qb;rw [hf] at Qb;exact Ba (l:=[m]) V hs (List.singleton_sublist.2 h1) (fun c hc=>by simp at hc;rw [hc];exact h2) ⟨m,hf,Qb,trivial⟩
theorem Fw {l:List ai} (V:VB x) (hs:s∈x.af) (hl:∀ c∈l,c∈fI x s) (Qb:∀ c∈l,fsN s.ax x.ak l=c.Number→iF x s s.Name c.Number=true) (hne:pW (jJ s (ub s.ax x.ak l))=true):Ok (Dn x (jJ s (ub s.ax x.ak l))) (rr x s.Name):=by
 cases l with
 | nil=>rw [xK] at hne;simp [ub] at hne
 | cons c r=>
  have hm:=EO (gD:=s.ax) (bs:=x.ak) r c;exact O8 V hs (hl _ hm) (Qb _ hm rfl)
theorem AG {j:Int} (V:VB x) (hs:s∈x.af) (hg:s.bq=false) (hj:0<j) (hj2:j≤20) (hw:((fI x s).length:Int)+j≤s.Want+s.bg):Ok (Dn x (NB s j)) (rr x s.Name):=by
 have S:=jO (V.sv s hs)
 have hf:Kh (NB s j)=true:=by
  unfold Kh V6
  have h1:eC j 0 20=true:=by rw [di];omega
  simp only [NB,h1];rfl
 obtain ⟨k,hk,e,F⟩:=sG V hs rfl hf;rw [wc (oE.2 V) hf F (fun e he=>by cases he) rfl];show Ok (LI x (NB s j) s k x.ah) _;obtain ⟨M,hM⟩:∃ M:Nat,j=(M:Int):=⟨j.toNat,by omega⟩;have l:=V.lc;have ll:(fI x s).length≤200:=Nat.le_trans (CW _ _) l;have hW:=S.want;have hO:=S.over;have c1:(NB s j).bK>0:=hj
 have c2:¬ (i64.wrap (((fI x s).length:Int)+j)>i64.wrap (s.Want+s.bg)):=by
  rw [bB (by omega) (by omega),bB (by omega) (by omega)];omega
 unfold LI fC;rw [show (NB s j).Drop=false from rfl,show (NB s j).cM=false from rfl,show (NB s j).bK=j from rfl,pq (by omega),hg];dsimp only;rw [show dV x.ah s.Name=fI x s from rfl];have c1':j>0:=hj;simp only [cond_false,cond_true,c1',c2,decide_true,decide_false]
 exact ud (M:=M) V hk e (Mk.refl _ _ _) hM (by omega) S.want S.MV fun hp=>by
  have:=V.sv s hs;simp only [vk,Bool.and_eq_true] at this;have:=this.2.2.2.2.2.2.2.2;rw [hp] at this;simp at this;omega
theorem HH {w c:Int} (V:VB x) (hs:s∈x.af) (hp:s.bY≠0) (hw:s.aD≤w∧w≤s.aU) (hw0:0≤w∧w≤10) (hc:0≤c∧c≤3):Ok (Dn x (Dg s w c)) (rr x s.Name):=by
 have S:=jO (V.sv s hs)
 have hf:Kh (Dg s w c)=true:=by
  unfold Kh V6
  have h1:eC w 0 10=true:=by rw [di];omega
  have h2:eC c 0 3=true:=by rw [di];omega
  simp only [Dg,h1,h2];rfl
 obtain ⟨k,hk,e,F⟩:=sG V hs rfl hf;rw [wc (oE.2 V) hf F (fun e he=>by cases he) rfl];show Ok (LI x (Dg s w c) s k x.ah) _
 have h0:¬ ((Dg s w c).bK>0):=by simp [Dg]
 have h1:(s.bY==0)=false:=by simpa using hp
 have h2:eC w s.aD s.aU=true:=by rw [di];exact hw
 unfold LI fC fS;rw [show (Dg s w c).Drop=false from rfl,show (Dg s w c).cM=true from rfl,show (Dg s w c).Want=w from rfl,show (Dg s w c).bb=c from rfl];simp only [cond_false,cond_true,h0,decide_false,h1,h2,Bool.not_true]
 exact ud (M:=0) V hk e (Mk.refl _ _ _) rfl (by omega) hw0 hc fun h=>absurd h hp
theorem MS (V:VB x) (hs:s∈x.af) (hg:s.bq=true) (hl:fI x s=[]) (he:(x.ah.filter (mJ s.Name))=[]):Ok (Dn x ⟨s.Name,s.Version,0,0,0,false,[],true⟩) (rr x s.Name):=by
 have hf:Kh (⟨s.Name,s.Version,0,0,0,false,[],true⟩:au)=true:=rfl;obtain ⟨k,hk,e,F⟩:=sG V hs rfl hf;rw [wc (oE.2 V) hf F (fun e he=>by cases he) rfl];have n0:=V.now;have l:=V.lc;have S:=jO (V.sv s hs);have hnx:=S.next;have hv:rF x=x.bM+1:=bB (by omega) (by omega);show Ok (LI x (⟨s.Name,s.Version,0,0,0,false,[],true⟩:au) s k x.ah) _;unfold LI fD f7 Qq;rw [pq (by omega),hg];dsimp only;rw [show dV x.ah s.Name=fI x s from rfl,hl,he,hv]
 have z:¬ (i64.wrap ((([]:List ai).length:Int)+(([]:List ai).length:Int))>0):=by decide
 simp only [cond_true,Bool.not_true,cond_false,z,decide_false]
 refine cU (fun _=>aC (.inl ⟨rfl,rfl⟩)) fun h1=>cU (fun _=>aC (.inl ⟨rfl,rfl⟩)) fun h2=>cU (fun _=>aC (.inl ⟨rfl,rfl⟩)) fun h3=>aC (.inr ⟨rfl,?_⟩)
 refine step_drop V hk e (by omega) fun c hc hcs=>?_
 cases hE:c.Ending with
 | false=>
  have:c∈fI x s:=List.mem_filter.2 ⟨hc,by simp [lN,hcs,hE]⟩;rw [hl] at this;cases this
 | true=>
  have:c∈x.ah.filter (mJ s.Name):=List.mem_filter.2 ⟨hc,by simp [mJ,hcs,hE]⟩;rw [he] at this;cases this
end
end Go.Proofs.Ytipemmgoipbojaa.Ab
set_option maxRecDepth 10000
namespace Go.Proofs.Ytipemmgoipbojaa.Ab
open Go Go.RowKit Go.IntKind
section
variable {x b:aa} {s:ae}
theorem nG {Q:Prop} (h:pW (jJ s [])=true):Q:=by rw [xK] at h;simp at h
theorem oneOk (V:VB x) (hs:s∈x.af) (hne:pW (oN x s)=true):Ok (Dn x (oN x s)) (rr x s.Name):=by
 unfold oN at hne ⊢
 cases h:iF x s s.Name (fsN s.ax x.ak (fI x s)) with
 | false=>rw [h] at hne;exact nG hne
 | true=>
  rw [h] at hne;exact Fw V hs (fun c hc=>hc) (fun c _ e=>by rw [←e];exact h) hne
theorem Wt {l:List ai} (V:VB x) (hs:s∈x.af) (hg:s.bq=false) (hl:∀ c∈l,c∈fI x s) (hne:pW (vn x s l)=true):Ok (Dn x (vn x s l)) (rr x s.Name):=by
 have S:=jO (V.sv s hs);have hW:=S.want;have hO:=S.over;unfold vn at hne ⊢
 cases h1:((l.length:Int)==0) with
 | true=>rw [h1] at hne;exact nG hne
 | false=>
  rw [h1] at hne;simp only [cond_false] at hne ⊢
  cases h2:decide (((fI x s).length:Int)<s.Want) with
  | true=>rw [h2] at hne;exact nG hne
  | false=>
   rw [h2] at hne;simp only [cond_false] at hne ⊢
   cases h3:decide (((fI x s).length:Int)<i64.wrap (s.Want+s.bg)) with
   | true=>
    have h3:=of_decide_eq_true h3;rw [bB (by omega) (by omega)] at h3;exact AG V hs hg (by omega) (by omega) (by omega)
   | false=>
    rw [h3] at hne;simp only [cond_false] at hne ⊢;refine Fw V hs (fun c hc=>hl c (List.mem_filter.1 hc).1) (fun c hc _=>?_) hne;obtain ⟨g1,g2⟩:=List.mem_filter.1 hc;have:=(uU c (hl c g1)).2
    simpa [this] using g2
theorem dsr_in (h:s.aD≤s.aU):s.aD≤C4 s∧C4 s≤s.aU:=by
 unfold C4
 rcases Int.lt_or_le (Kx s) s.aD with h1 | h1
 ·have h2:¬ s.aD>s.aU:=by omega
  simp only [h1,h2,decide_true,decide_false,cond_true,cond_false];omega
 ·have h2:¬ Kx s<s.aD:=by omega
  simp only [h2,decide_false,cond_false]
  rcases Int.lt_or_le s.aU (Kx s) with h3 | h3
  ·have h4:Kx s>s.aU:=h3
   simp only [h4,decide_true,cond_true];omega
  ·have h4:¬ Kx s>s.aU:=by omega
   simp only [h4,decide_false,cond_false];omega
theorem sclOk (V:VB x) (hs:s∈x.af) (hp:s.bY>0) (hne:pW (LR s)=true):Ok (Dn x (LR s)) (rr x s.Name):=by
 have S:=jO (V.sv s hs);have hW:=S.want;have hC:=S.MV;obtain ⟨_,p1,p2,p3⟩:=S.per.resolve_left (by omega);obtain ⟨d1,d2⟩:=dsr_in p2
 have sc:∀ {w c:Int},s.aD≤w→w≤s.aU→0≤c→c≤3→Ok (Dn x (Dg s w c)) (rr x s.Name):=fun h1 h2 h3 h4=>HH V hs (by omega) ⟨h1,h2⟩ (by omega) ⟨h3,h4⟩
 unfold LR at hne ⊢
 rcases Int.lt_or_le s.Want s.aD with q1 | q1
 ·simp only [q1,decide_true,cond_true];exact sc (by omega) (by omega) (by omega) (by omega)
 ·have Np:¬ s.Want<s.aD:=by omega
  simp only [Np,decide_false,cond_false] at hne ⊢
  rcases Int.lt_or_le s.aU s.Want with q2 | q2
  ·have Wu:s.Want>s.aU:=q2
   simp only [Wu,decide_true,cond_true];exact sc (by omega) (by omega) (by omega) (by omega)
  ·have Wu:¬ s.Want>s.aU:=by omega
   simp only [Wu,decide_false,cond_false] at hne ⊢
   rcases Int.lt_or_le s.Want (C4 s) with q3 | q3
   ·have q3':C4 s>s.Want:=q3
    simp only [q3',decide_true,cond_true];exact sc (by omega) (by omega) (by omega) (by omega)
   ·have q3':¬ C4 s>s.Want:=by omega
    simp only [q3',decide_false,cond_false] at hne ⊢
    rcases Int.lt_or_le (C4 s) s.Want with q4 | q4
    ·simp only [q4,decide_true,cond_true]
     rcases Int.lt_or_le s.bb 3 with q5 | q5
     ·have q5':¬ s.bb≥3:=by omega
      simp only [q5',decide_false,cond_false];rw [bB (by omega) (by omega)];exact sc (by omega) (by omega) (by omega) (by omega)
     ·have q5':s.bb≥3:=q5
      simp only [q5',decide_true,cond_true];rw [bB (by omega) (by omega)];exact sc (by omega) (by omega) (by omega) (by omega)
    ·have q4':¬ C4 s<s.Want:=by omega
     simp only [q4',decide_false,cond_false] at hne ⊢
     cases h:(s.bb==0) with
     | true=>rw [h] at hne;exact nG hne
     | false=>exact sc (by omega) (by omega) (by omega) (by omega)
theorem Gb {k:Int} (V:VB x) (hs:s∈x.af) (hne:pW (gm k x s)=true):Ok (Dn x (gm k x s)) (rr x s.Name):=by
 have S:=jO (V.sv s hs);have hW:=S.want;have l:=V.lc
 have hfl:∀ p,((fI x s).filter p).Sublist (fI x s):=fun p=>List.filter_sublist
 unfold gm at hne ⊢
 cases h3:(k==3) with
 | true=>
  simp only [cond_true]
  refine AF V hs (hfl _) fun c hc=>.inl ?_
  have:=(List.mem_filter.1 hc).2
  have:c.State=4:=by simpa using this
  omega
 | false=>
 rw [h3] at hne;simp only [cond_false] at hne ⊢
 cases hg:s.bq with
 | true=>
  rw [hg] at hne;simp only [cond_true] at hne ⊢
  cases h5:(k==5) with
  | false=>rw [h5] at hne;exact nG hne
  | true=>
   rw [h5,pq (by omega)] at hne;rw [pq (by omega)];dsimp only at hne ⊢;rw [show dV x.ah s.Name=fI x s from rfl] at hne ⊢;have MI:(fI x s).length≤200:=Nat.le_trans (CW _ _) l;have hel:(x.ah.filter (mJ s.Name)).length≤200:=Nat.le_trans (CW _ _) l;rw [bB (by omega) (by omega)] at hne ⊢;simp only [cond_true] at hne ⊢
   cases e:fI x s with
   | nil=>
    rw [e] at hne
    cases he:x.ah.filter (mJ s.Name) with
    | nil=>exact MS V hs hg e he
    | cons d r=>
     rw [he] at hne;exfalso
     have z:((([]:List ai).length:Int)+((d::r).length:Int)==0)=false:=by
      simp only [List.length_nil,List.length_cons];simp;omega
     rw [z] at hne;simp [pW] at hne
   | cons c r=>
    have z:(((c::r).length:Int)+((x.ah.filter (mJ s.Name)).length:Int)==0)=false:=by
     simp only [List.length_cons];simp;omega
    rw [z]
    have:=AF (l:=fI x s) V hs (List.Sublist.refl _) fun c _=>.inr hg
    rw [e] at this;exact this
 | false=>
 rw [hg] at hne;simp only [cond_false] at hne ⊢
 cases h1:(k==1) with
 | true=>
  rw [h1] at hne;simp only [cond_true] at hne ⊢;unfold IJ at hne ⊢;have MI:(fI x s).length≤200:=Nat.le_trans (CW _ _) l
  rcases Int.lt_or_le ((fI x s).length:Int) s.Want with q | q
  ·simp only [q,decide_true,cond_true]
   rw [bB (by omega) (by omega)];exact AG V hs hg (by omega) (by omega) (by have:=S.over;omega)
  ·have q':¬ ((fI x s).length:Int)<s.Want:=by omega
   simp only [q',decide_false,cond_false] at hne ⊢;have ho:pW (oN x s)=true→Ok (Dn x (oN x s)) (rr x s.Name):=oneOk V hs
   have he:pW (jJ s [])=true→Ok (Dn x (jJ s [])) (rr x s.Name):=fun h=>nG h
   clear q q';generalize oN x s=o at ho hne ⊢;generalize jJ s []=e at he hne ⊢;generalize (((lG x s).length:Int)==0)=b1 at hne ⊢;generalize decide (((fI x s).length:Int)>s.Want)=b2 at hne ⊢;generalize (((vH x s).length:Int)==0)=b3 at hne ⊢;generalize decide (((fI x s).length:Int)>i64.wrap (s.Want+s.bg))=b4 at hne ⊢
   cases b1<;>cases b2<;>cases b3<;>cases b4<;>first | exact ho hne | exact he hne
 | false=>
 rw [h1] at hne;simp only [cond_false] at hne ⊢
 cases h2:(k==2) with
 | true=>
  rw [h2] at hne;simp only [cond_true] at hne ⊢;exact Wt V hs hg (fun c hc=>(List.mem_filter.1 hc).1) hne
 | false=>
 rw [h2] at hne;simp only [cond_false] at hne ⊢
 cases h6:(k==6) with
 | true=>
  rw [h6] at hne;simp only [cond_true] at hne ⊢
  cases h7:((lG x s).length:Int)==0 with
  | false=>rw [h7] at hne;exact nG hne
  | true=>
   rw [h7] at hne;simp only [cond_true] at hne ⊢;exact Wt V hs hg (fun c hc=>(List.mem_filter.1 hc).1) hne
 | false=>
 rw [h6] at hne;simp only [cond_false] at hne ⊢
 cases h4:(k==4) with
 | false=>rw [h4] at hne;exact nG hne
 | true=>
  rw [h4] at hne;simp only [cond_true] at hne ⊢
  cases h7:decide (s.bY>0) with
  | false=>rw [h7] at hne;exact nG hne
  | true=>
   rw [h7] at hne;simp only [cond_true] at hne ⊢;exact sclOk V hs (of_decide_eq_true h7) hne
theorem yg {n:BA} {m:Int}:∀ (cs:List ai),cs.find? (il n m)=(cs.filter (DM n)).find? (fun c=>c.Number==m)
 | []=>rfl
 | c::cs=>by
  rw [List.find?_cons,List.filter_cons,yg cs];have e:il n m c=(DM n c&&(c.Number==m)):=rfl;rw [e]
  cases h1:DM n c with
  | false=>simp
  | true=>cases h2:(c.Number==m)<;>simp [h2,List.find?_cons]
theorem E5 (n:BA) (cs:List ai):dV cs n=(cs.filter (DM n)).filter fun c=> !c.Ending:=by
 unfold dV;rw [List.filter_filter]
 exact List.filter_congr fun c _=>Bool.and_comm ..
theorem Kn (n:BA) (cs:List ai):cs.filter (mJ n)=(cs.filter (DM n)).filter fun c=>c.Ending:=by
 rw [List.filter_filter]
 exact List.filter_congr fun c _=>Bool.and_comm ..
theorem Rl {k:Int} (hx:x.ah.length≤1048576) (hb:b.ah.length≤1048576) (Hb:x.ak=b.ak) (hf:x.ah.filter (DM s.Name)=b.ah.filter (DM s.Name)):gm k x s=gm k b s:=by
 have lv:fI x s=fI b s:=by unfold fI;rw [E5,E5,hf]
 have hlv:dV x.ah s.Name=dV b.ah s.Name:=lv
 have ct:FO s.Name s.ax x.ah=FO s.Name s.ax b.ah:=by
  rw [pq hx,pq hb,hlv,Kn,Kn,hf]
 have my:∀ m,iF x s s.Name m=iF b s s.Name m:=fun m=>by
  unfold iF Ml;rw [yg,yg,hf,ct]
 have old:lG x s=lG b s:=by unfold lG;rw [lv]
 have dr:vH x s=vH b s:=by unfold vH;rw [lv,Hb]
 have fa:Iz x s=Iz b s:=by unfold Iz;rw [lv]
 have ma:∀ l:List ai,(∀ c∈l,c.aq=s.Name)→WH x s l=WH b s l:=fun l hl=>by
  unfold WH
  exact List.filter_congr fun c hc=>by rw [hl c hc,my]
 have on:oN x s=oN b s:=by unfold oN;rw [lv,Hb,my]
 have cr:IJ x s=IJ b s:=by unfold IJ;rw [lv,old,dr,on]
 have rp:∀ l:List ai,(∀ c∈l,c.aq=s.Name)→vn x s l=vn b s l:=fun l hl=>by unfold vn;rw [lv,Hb,ma l hl]
 have in1:∀ c∈lG b s,c.aq=s.Name:=fun c hc=>(uU c (List.mem_filter.1 hc).1).2
 have in2:∀ c∈vH b s,c.aq=s.Name:=fun c hc=>(uU c (List.mem_filter.1 hc).1).2
 unfold gm;rw [fa,lv,ct,cr,old,dr,rp _ in1,rp _ in2]
end
end Go.Proofs.Ytipemmgoipbojaa.Ab
set_option maxRecDepth 10000
namespace Go.Proofs.Ytipemmgoipbojaa.Ab
open Go Go.RowKit
theorem Q8 {a:ed} (h:Sm KK (.row .e5 a)):∀ b:Int,b∈(a:List Int)→0≤b∧b<256:=by
 intro b hb
 cases h with
 | row _ _ _ h2=>
  obtain ⟨j,hj,rfl⟩:=List.getElem_of_mem hb;have:=h2 j hj 0 (.int .u8 a[j]) rfl
  cases this with
  | int _ _ h=>
   simp [Lit.wf,IntKind.min,IntKind.max,IntKind.bits,IntKind.signed] at h;omega
theorem KQ (n:Nat):gK (fun _=>true) n 0=true:=by
 unfold gK
 exact List.all_eq_true.2 fun _ _=>rfl
theorem g47 {a:au} (h:a.Ends.length≤1048576):G47 a a=some true:=by
 have e:=ur (st:=fun i=>((i:Nat):Int)) (p:=fun _=>true) (eR:=Ep a.Ends a.Ends fuel) (len:=a.Ends.length) (some true) (some false) h (fun rec=>by simp only [Ep,Int.lt_irrefl,decide_false,cond_false]) (fun rec i hi=>by
   have q1:(i:Int)<(a.Ends.length:Int):=by omega
   simp only [Ep,q1,decide_true,cond_true,Int.natCast_nonneg,get_cast hi,Option.bind_some,Bool.and_self,Bool.not_true,cond_false]
   rw [aZ (by omega)])
 rw [KQ,cond_true] at e;unfold G47 VL;simp only [decide_true,Bool.not_true,cond_false,bne_self_eq_false,beq_self_eq_true];exact e
theorem g18 {l:List au} (h:l.length≤1048576) (hl:∀ a∈l,a.Ends.length≤1000):G18 l l=some true:=by
 have e:=ur (st:=fun i=>((i:Nat):Int)) (p:=fun _=>true) (eR:=EC l l fuel) (len:=l.length) (some true) (some false) h (fun rec=>by simp only [EC,Int.lt_irrefl,decide_false,cond_false]) (fun rec i hi=>by
   have q1:(i:Int)<(l.length:Int):=by omega
   have q2:=hl l[i] (List.getElem_mem hi);simp only [EC,q1,decide_true,cond_true,Int.natCast_nonneg,get_cast hi,Option.bind_some,g47 (show l[i].Ends.length≤1048576 by omega),Bool.not_true,cond_false]
   rw [aZ (by omega)])
 rw [KQ,cond_true] at e;unfold G18 VQ;simp only [bne_self_eq_false,cond_false];exact e
theorem d16 (n d:Nat) (h:0<d):zI n d=B16 n (zI n (d-1)):=by
 obtain ⟨m,rfl⟩:∃ k,d=k+1:=⟨d-1,by omega⟩;rfl
theorem ok16 {a:ed} (hv:∀ b:Int,b∈(a:List Int)→0≤b∧b<256):Ok ((zI fuel fuel) a) (fun r=>E6 r.2):=by
 rw [d16 _ _ ik];generalize zI fuel (fuel-1)=rc;unfold B16
 have fin:∀ (bs:ed),I5 bs→Ok (Option.bind ((pI fuel fuel) bs 0) fun r1=>
   Option.bind ((cE fuel fuel) 6 r1.1 r1.2.1) fun r2=>
   bS (Ae r2.2.2 r1.2.2.bM r1.2.2.af r1.2.2.ah r1.2.2.ak fuel rc) fuel (0,r2.1,r2.2.1)) (fun r=>E6 r.2):=fun bs hb=>by
  refine ok_21 hb (Int.le_refl 0) (by unfold PT;omega) fun p' b l1 l2 l3 l4 l5=>?_
  dsimp only;have hlen:E6 b:=⟨by omega,by omega,by omega⟩
  refine gC hb (by omega) (by unfold PT;omega) fun t g1 g2=>?_
  clear g2;dsimp only;refine okI (st:=fun i (p:Int)=>(((i:Nat):Int),bs,p)) (len:=6) (fun i p=>0≤p∧p≤400000+10*(i:Int)) (by omega) (fun rec p hp=>?_) (fun rec i hi p hp hr=>?_) (p'+1) ⟨by omega,by omega⟩
  ·unfold Ae
   have z:¬ (((6:Nat):Int)<6):=by omega
   simp only [z,decide_false,cond_false]
   exact gC hb (by omega) (by unfold PT;omega) fun v _ _=>lH (aC hlen)
  ·unfold Ae
   have z:((i:Nat):Int)<6:=by omega
   have z6:¬ ((6:Nat)=0):=by omega
   simp only [z,z6,decide_true,decide_false,cond_true,cond_false]
   refine gC hb (by omega) (by unfold PT;omega) fun v g1 g2=>?_
   dsimp only
   refine bR (fun _=>?_) fun _=>?_
   ·rw [show (⟨b.bM,b.af,b.ah,b.ak⟩:aa)=b from rfl,g19' hlen,Option.bind_some]
    refine bR (fun _=>lH (aC hlen)) fun _=>?_
    rw [aZ (by omega)];exact hr _ ⟨by omega,by omega⟩
   ·exact gC hb (by omega) (by unfold PT;omega) fun v _ _=>lH (aC hlen)
 refine cU (fun hl=>?_) fun hl=>?_
 ·iterate 3 (refine eV (by first | (simp;done) | (simp;omega)) ?_)
  exact fin _ ⟨by simp;omega,fun b hb=>hv b (List.mem_of_mem_take (List.mem_of_mem_drop hb))⟩
 ·exact fin a ⟨by omega,hv⟩
theorem Rk {k:Int} {b:aa} (V:VB b):Ok (bS (OV (sU k b) b.bM b.af b.ah b.ak fuel) fuel (0,b.bM,b.af,b.ah,b.ak)) (fun r=>r=true):=by
 have hac:sU k b=(b.af.filter fun s=>pW (gm k b s)).map (gm k b):=by
  unfold sU;rw [List.filter_map];rfl
 have hsub:(b.af.filter fun s=>pW (gm k b s)).Sublist b.af:=List.filter_sublist
 have hne:∀ s∈b.af.filter fun s=>pW (gm k b s),pW (gm k b s)=true:=fun s hs=>(List.mem_filter.1 hs).2
 rw [hac];generalize (b.af.filter fun s=>pW (gm k b s))=ss at hsub hne ⊢;have hl8:ss.length≤8:=Nat.le_trans hsub.length_le V.ls;have hasc:=V.so.sublist (hsub.map (·.Name));have lb:=V.lc
 have e0:∀ {i:Nat} (hi:i<ss.length),(ss.map (gm k b))[((i:Nat):Int).toNat]?=some (gm k b ss[i]):=fun {i} hi=>by simp [hi]
 refine okI (st:=fun i (y:aa)=>(((i:Nat):Int),y.bM,y.af,y.ah,y.ak)) (len:=ss.length) (fun i y=>VB y∧y.ak=b.ak∧∀ j,i≤j→∀ (hj:j<ss.length),ss[j]∈y.af∧y.ah.filter (DM ss[j].Name)=b.ah.filter (DM ss[j].Name)) (by omega) (fun rec y hy=>?_) (fun rec i hi y hy hr=>?_) b ⟨V,rfl,fun j _ hj=>⟨hsub.subset (List.getElem_mem hj),rfl⟩⟩
 ·simp only [OV,List.length_map,Int.lt_irrefl,decide_false,cond_false]
  exact aC rfl
 ·obtain ⟨Vy,Hb,hall⟩:=hy
  obtain ⟨hm,hf⟩:=hall i (Nat.le_refl i) hi;have ly:=Vy.lc;have hs:=gm k b ss[i];have hn:=hne ss[i] (List.getElem_mem hi);have same:gm k y ss[i]=gm k b ss[i]:=Rl (by omega) (by omega) Hb hf;have hb:=Gb (k:=k) V (hsub.subset (List.getElem_mem hi)) hn;have hy:=Gb (k:=k) Vy hm (by rw [same];exact hn);rw [same] at hy
  have q1:((i:Nat):Int)<((ss.map (gm k b)).length:Int):=by simp;omega
  simp only [OV,q1,decide_true,cond_true,Int.natCast_nonneg,e0 hi,Option.bind_some,aZ (show i<4611686018427387904 by omega)]
  refine bO hb fun r7 h7=>lH (bO hy fun r9 h9=>lH ?_)
  have c7:r7.2=7∨r7.2=0:=h7.elim (fun h=>.inl h.1) fun h=>.inr h.1
  have c9:r9.2=7∨r9.2=0:=h9.elim (fun h=>.inl h.1) fun h=>.inr h.1
  have go:Ok (rec (((i+1:Nat):Int),r9.1.bM,r9.1.af,r9.1.ah,r9.1.ak)) (fun r=>r=true):=by
   refine hr r9.1 ?_
   rcases h9 with ⟨_,e⟩ | ⟨_,S⟩
   ·rw [e];exact ⟨Vy,Hb,fun j hj hj2=>hall j (by omega) hj2⟩
   ·refine ⟨S.val,S.ber.trans Hb,fun j hj hj2=>?_⟩
    have hne:ss[j].Name≠ss[i].Name:=fun e=>by
     rw [List.pairwise_map] at hasc;have:=List.pairwise_iff_getElem.1 hasc i j hi hj2 (by omega);rw [e,mh] at this;cases this
    obtain ⟨g1,g2⟩:=hall j (by omega) hj2;exact ⟨(S.ser _ hne).2 g1,(S.cop _ hne).trans g2⟩
  have z0:((7:Int) != 0)=true:=rfl;have z1:((7:Int) != 7)=false:=rfl;have z2:((0:Int) != 0)=false:=rfl
  rcases c7 with h | h<;>rcases c9 with h' | h'<;>rw [h,h']<;>simp only [z0,z1,z2,cond_true,cond_false]<;>exact go
theorem pure5 (a0:ed) (h0:Sm KK (.row .e5 a0)):G5 a0=some true:=by
 have:Ok (G5 a0) (fun r=>r=true):=by
  unfold G5 G5n
  refine bR (fun _=>aC rfl) fun _=>?_
  refine bO (ok16 (Q8 h0)) fun r hb=>?_
  obtain ⟨k,b⟩:=r;dsimp only at hb ⊢;obtain ⟨L,eL,hL1,Tp⟩:=ok19 (b:=b) (k:=k) hb.1 hb.2.1 hb.2.2;rw [g17' hb,Option.bind_some,g19' hb,Option.bind_some];rw [g19' hb] at eL;have eL:=Option.some.inj eL
  have hl:(cond (vB b) (sU k b) []).length≤1048576:=by rw [eL];exact Nat.le_trans hL1 (by omega)
  have Io:∀ a∈cond (vB b) (sU k b) [],a.Ends.length≤1000:=by rw [eL];exact Tp
  rw [g18 hl Io,Option.bind_some,Fv hb.1 hb.2.1 hb.2.2,Option.bind_some];simp only [Bool.not_true,cond_false]
  cases hv:vB b with
  | false=>exact aC rfl
  | true=>
   simp only [Bool.not_true,cond_false,cond_true]
   refine cU (fun h=>?_) fun h1=>cU (fun h=>?_) fun h2=>Rk (oE.1 hv)
   ·rw [uv (by omega)];exact aC rfl
   ·rw [uv (by omega)];exact aC rfl
 obtain ⟨r,e,rfl⟩:=this;exact e
theorem ek3:∀ ls:List (Lf C),ez [.int .i64] ls=true→∃ x,d3 ls=some x:=by
 intro Dz g0;obtain ⟨l0,EZ,rfl,h0,g1⟩:=aF g0;obtain ⟨x0,rfl⟩:=bC h0;obtain rfl:=eM g1;exact ⟨_,rfl⟩
theorem ek5:∀ ls:List (Lf C),ez [.int .u8] ls=true→∃ x,d5 ls=some x:=by
 intro Dz g0;obtain ⟨l0,EZ,rfl,h0,g1⟩:=aF g0;obtain ⟨x0,rfl⟩:=bC h0;obtain rfl:=eM g1;exact ⟨_,rfl⟩
theorem ek9:∀ ls:List (Lf C),ez [.str] ls=true→∃ x,d9 ls=some x:=by
 intro Dz g0;obtain ⟨l0,EZ,rfl,h0,g1⟩:=aF g0;obtain ⟨x0,rfl⟩:=iN h0;obtain rfl:=eM g1;exact ⟨_,rfl⟩
theorem ek27:∀ ls:List (Lf C),ez [.int .i64,.er .bD,.er .bX,.er .cC] ls=true→∃ x,d27 ls=some x:=by
 intro Dz g0;obtain ⟨l0,EZ,rfl,h0,g1⟩:=aF g0;obtain ⟨x0,rfl⟩:=bC h0;obtain ⟨l1,EY,rfl,h1,g2⟩:=aF g1;obtain ⟨x1,rfl⟩:=jB h1;obtain ⟨l2,Zx,rfl,h2,g3⟩:=aF g2;obtain ⟨x2,rfl⟩:=jB h2;obtain ⟨l3,Zw,rfl,h3,g4⟩:=aF g3;obtain ⟨x3,rfl⟩:=jB h3;obtain rfl:=eM g4;exact ⟨_,rfl⟩
theorem ek29:∀ ls:List (Lf C),ez [.str,.int .i64,.bool,.int .i64,.int .i64,.int .i64,.int .i64,.int .i64,.int .i64,.int .i64,.int .i64,.int .i64,.int .i64] ls=true→∃ x,d29 ls=some x:=by
 intro Dz g0;obtain ⟨l0,EZ,rfl,h0,g1⟩:=aF g0;obtain ⟨x0,rfl⟩:=iN h0;obtain ⟨l1,EY,rfl,h1,g2⟩:=aF g1;obtain ⟨x1,rfl⟩:=bC h1;obtain ⟨l2,Zx,rfl,h2,g3⟩:=aF g2;obtain ⟨x2,rfl⟩:=iv h2;obtain ⟨l3,Zw,rfl,h3,g4⟩:=aF g3;obtain ⟨x3,rfl⟩:=bC h3;obtain ⟨l4,ls5,rfl,h4,g5⟩:=aF g4;obtain ⟨x4,rfl⟩:=bC h4;obtain ⟨l5,ls6,rfl,h5,g6⟩:=aF g5;obtain ⟨x5,rfl⟩:=bC h5;obtain ⟨l6,ls7,rfl,h6,g7⟩:=aF g6;obtain ⟨x6,rfl⟩:=bC h6;obtain ⟨l7,ls8,rfl,h7,g8⟩:=aF g7;obtain ⟨x7,rfl⟩:=bC h7;obtain ⟨l8,ls9,rfl,h8,g9⟩:=aF g8;obtain ⟨x8,rfl⟩:=bC h8;obtain ⟨l9,ls10,rfl,h9,Fv⟩:=aF g9;obtain ⟨x9,rfl⟩:=bC h9;obtain ⟨ZJ,ls11,rfl,h10,Tt⟩:=aF Fv;obtain ⟨aK,rfl⟩:=bC h10;obtain ⟨l11,ls12,rfl,h11,g12⟩:=aF Tt;obtain ⟨aN,rfl⟩:=bC h11;obtain ⟨l12,ls13,rfl,h12,g13⟩:=aF g12;obtain ⟨aP,rfl⟩:=bC h12;obtain rfl:=eM g13;exact ⟨_,rfl⟩
theorem ek31:∀ ls:List (Lf C),ez [.int .i64,.str,.int .i64,.bool,.int .i64,.int .i64,.int .i64,.int .i64,.int .i64,.int .i64,.int .i64,.int .i64,.int .i64,.int .i64,.str,.int .i64,.bool] ls=true→∃ x,d31 ls=some x:=by
 intro Dz g0;obtain ⟨l0,EZ,rfl,h0,g1⟩:=aF g0;obtain ⟨x0,rfl⟩:=bC h0;obtain ⟨l1,EY,rfl,h1,g2⟩:=aF g1;obtain ⟨x1,rfl⟩:=iN h1;obtain ⟨l2,Zx,rfl,h2,g3⟩:=aF g2;obtain ⟨x2,rfl⟩:=bC h2;obtain ⟨l3,Zw,rfl,h3,g4⟩:=aF g3;obtain ⟨x3,rfl⟩:=iv h3;obtain ⟨l4,ls5,rfl,h4,g5⟩:=aF g4;obtain ⟨x4,rfl⟩:=bC h4;obtain ⟨l5,ls6,rfl,h5,g6⟩:=aF g5;obtain ⟨x5,rfl⟩:=bC h5;obtain ⟨l6,ls7,rfl,h6,g7⟩:=aF g6;obtain ⟨x6,rfl⟩:=bC h6;obtain ⟨l7,ls8,rfl,h7,g8⟩:=aF g7;obtain ⟨x7,rfl⟩:=bC h7;obtain ⟨l8,ls9,rfl,h8,g9⟩:=aF g8;obtain ⟨x8,rfl⟩:=bC h8;obtain ⟨l9,ls10,rfl,h9,Fv⟩:=aF g9;obtain ⟨x9,rfl⟩:=bC h9;obtain ⟨ZJ,ls11,rfl,h10,Tt⟩:=aF Fv;obtain ⟨aK,rfl⟩:=bC h10;obtain ⟨l11,ls12,rfl,h11,g12⟩:=aF Tt;obtain ⟨aN,rfl⟩:=bC h11;obtain ⟨l12,ls13,rfl,h12,g13⟩:=aF g12;obtain ⟨aP,rfl⟩:=bC h12;obtain ⟨l13,ls14,rfl,h13,g14⟩:=aF g13;obtain ⟨aX,rfl⟩:=bC h13;obtain ⟨l14,ls15,rfl,h14,g15⟩:=aF g14;obtain ⟨bf,rfl⟩:=iN h14;obtain ⟨l15,ls16,rfl,h15,g16⟩:=aF g15;obtain ⟨aS,rfl⟩:=bC h15;obtain ⟨l16,ls17,rfl,h16,g17⟩:=aF g16;obtain ⟨aO,rfl⟩:=iv h16;obtain rfl:=eM g17;exact ⟨_,rfl⟩
theorem ek41:∀ ls:List (Lf C),ez [.str,.int .i64,.int .i64,.int .i64,.int .i64,.bool,.er .fw,.bool] ls=true→∃ x,d41 ls=some x:=by
 intro Dz g0;obtain ⟨l0,EZ,rfl,h0,g1⟩:=aF g0;obtain ⟨x0,rfl⟩:=iN h0;obtain ⟨l1,EY,rfl,h1,g2⟩:=aF g1;obtain ⟨x1,rfl⟩:=bC h1;obtain ⟨l2,Zx,rfl,h2,g3⟩:=aF g2;obtain ⟨x2,rfl⟩:=bC h2;obtain ⟨l3,Zw,rfl,h3,g4⟩:=aF g3;obtain ⟨x3,rfl⟩:=bC h3;obtain ⟨l4,ls5,rfl,h4,g5⟩:=aF g4;obtain ⟨x4,rfl⟩:=bC h4;obtain ⟨l5,ls6,rfl,h5,g6⟩:=aF g5;obtain ⟨x5,rfl⟩:=iv h5;obtain ⟨l6,ls7,rfl,h6,g7⟩:=aF g6;obtain ⟨x6,rfl⟩:=jB h6;obtain ⟨l7,ls8,rfl,h7,g8⟩:=aF g7;obtain ⟨x7,rfl⟩:=iv h7;obtain rfl:=eM g8;exact ⟨_,rfl⟩
theorem ek62:∀ ls:List (Lf C),ez [.str,.int .i64,.int .i64,.int .i64,.int .i64,.bool,.str] ls=true→∃ x,d62 ls=some x:=by
 intro Dz g0;obtain ⟨l0,EZ,rfl,h0,g1⟩:=aF g0;obtain ⟨x0,rfl⟩:=iN h0;obtain ⟨l1,EY,rfl,h1,g2⟩:=aF g1;obtain ⟨x1,rfl⟩:=bC h1;obtain ⟨l2,Zx,rfl,h2,g3⟩:=aF g2;obtain ⟨x2,rfl⟩:=bC h2;obtain ⟨l3,Zw,rfl,h3,g4⟩:=aF g3;obtain ⟨x3,rfl⟩:=bC h3;obtain ⟨l4,ls5,rfl,h4,g5⟩:=aF g4;obtain ⟨x4,rfl⟩:=bC h4;obtain ⟨l5,ls6,rfl,h5,g6⟩:=aF g5;obtain ⟨x5,rfl⟩:=iv h5;obtain ⟨l6,ls7,rfl,h6,g7⟩:=aF g6;obtain ⟨x6,rfl⟩:=iN h6;obtain rfl:=eM g7;exact ⟨_,rfl⟩
theorem ek64:∀ ls:List (Lf C),ez [.str,.bool] ls=true→∃ x,d64 ls=some x:=by
 intro Dz g0;obtain ⟨l0,EZ,rfl,h0,g1⟩:=aF g0;obtain ⟨x0,rfl⟩:=iN h0;obtain ⟨l1,EY,rfl,h1,g2⟩:=aF g1;obtain ⟨x1,rfl⟩:=iv h1;obtain rfl:=eM g2;exact ⟨_,rfl⟩
theorem ek75:∀ ls:List (Lf C),ez [.er .bU,.int .i64,.er .bD,.er .bX,.er .cC] ls=true→∃ x,d75 ls=some x:=by
 intro Dz g0;obtain ⟨l0,EZ,rfl,h0,g1⟩:=aF g0;obtain ⟨x0,rfl⟩:=jB h0;obtain ⟨l1,EY,rfl,h1,g2⟩:=aF g1;obtain ⟨x1,rfl⟩:=bC h1;obtain ⟨l2,Zx,rfl,h2,g3⟩:=aF g2;obtain ⟨x2,rfl⟩:=jB h2;obtain ⟨l3,Zw,rfl,h3,g4⟩:=aF g3;obtain ⟨x3,rfl⟩:=jB h3;obtain ⟨l4,ls5,rfl,h4,g5⟩:=aF g4;obtain ⟨x4,rfl⟩:=jB h4;obtain rfl:=eM g5;exact ⟨_,rfl⟩
theorem ek80:∀ ls:List (Lf C),ez [.int .i64,.int .i64] ls=true→∃ x,d80 ls=some x:=by
 intro Dz g0;obtain ⟨l0,EZ,rfl,h0,g1⟩:=aF g0;obtain ⟨x0,rfl⟩:=bC h0;obtain ⟨l1,EY,rfl,h1,g2⟩:=aF g1;obtain ⟨x1,rfl⟩:=bC h1;obtain rfl:=eM g2;exact ⟨_,rfl⟩
theorem ek85:∀ ls:List (Lf C),ez [.int .i64,.int .i64,.int .i64,.int .i64,.int .i64] ls=true→∃ x,d85 ls=some x:=by
 intro Dz g0;obtain ⟨l0,EZ,rfl,h0,g1⟩:=aF g0;obtain ⟨x0,rfl⟩:=bC h0;obtain ⟨l1,EY,rfl,h1,g2⟩:=aF g1;obtain ⟨x1,rfl⟩:=bC h1;obtain ⟨l2,Zx,rfl,h2,g3⟩:=aF g2;obtain ⟨x2,rfl⟩:=bC h2;obtain ⟨l3,Zw,rfl,h3,g4⟩:=aF g3;obtain ⟨x3,rfl⟩:=bC h3;obtain ⟨l4,ls5,rfl,h4,g5⟩:=aF g4;obtain ⟨x4,rfl⟩:=bC h4;obtain rfl:=eM g5;exact ⟨_,rfl⟩
theorem ek117:∀ ls:List (Lf C),ez [.int .i64,.int .i64,.int .i64,.str,.int .i64,.bool,.int .i64,.int .i64,.int .i64,.int .i64,.int .i64,.int .i64,.int .i64,.int .i64,.int .i64,.int .i64,.str,.int .i64,.bool] ls=true→∃ x,d117 ls=some x:=by
 intro Dz g0;obtain ⟨l0,EZ,rfl,h0,g1⟩:=aF g0;obtain ⟨x0,rfl⟩:=bC h0;obtain ⟨l1,EY,rfl,h1,g2⟩:=aF g1;obtain ⟨x1,rfl⟩:=bC h1;obtain ⟨l2,Zx,rfl,h2,g3⟩:=aF g2;obtain ⟨x2,rfl⟩:=bC h2;obtain ⟨l3,Zw,rfl,h3,g4⟩:=aF g3;obtain ⟨x3,rfl⟩:=iN h3;obtain ⟨l4,ls5,rfl,h4,g5⟩:=aF g4;obtain ⟨x4,rfl⟩:=bC h4;obtain ⟨l5,ls6,rfl,h5,g6⟩:=aF g5;obtain ⟨x5,rfl⟩:=iv h5;obtain ⟨l6,ls7,rfl,h6,g7⟩:=aF g6;obtain ⟨x6,rfl⟩:=bC h6;obtain ⟨l7,ls8,rfl,h7,g8⟩:=aF g7;obtain ⟨x7,rfl⟩:=bC h7;obtain ⟨l8,ls9,rfl,h8,g9⟩:=aF g8;obtain ⟨x8,rfl⟩:=bC h8;obtain ⟨l9,ls10,rfl,h9,Fv⟩:=aF g9;obtain ⟨x9,rfl⟩:=bC h9;obtain ⟨ZJ,ls11,rfl,h10,Tt⟩:=aF Fv;obtain ⟨aK,rfl⟩:=bC h10;obtain ⟨l11,ls12,rfl,h11,g12⟩:=aF Tt;obtain ⟨aN,rfl⟩:=bC h11;obtain ⟨l12,ls13,rfl,h12,g13⟩:=aF g12;obtain ⟨aP,rfl⟩:=bC h12;obtain ⟨l13,ls14,rfl,h13,g14⟩:=aF g13;obtain ⟨aX,rfl⟩:=bC h13;obtain ⟨l14,ls15,rfl,h14,g15⟩:=aF g14;obtain ⟨bf,rfl⟩:=bC h14;obtain ⟨l15,ls16,rfl,h15,g16⟩:=aF g15;obtain ⟨aS,rfl⟩:=bC h15;obtain ⟨l16,ls17,rfl,h16,g17⟩:=aF g16;obtain ⟨aO,rfl⟩:=iN h16;obtain ⟨l17,ls18,rfl,h17,g18⟩:=aF g17;obtain ⟨aT,rfl⟩:=bC h17;obtain ⟨l18,ls19,rfl,h18,g19⟩:=aF g18;obtain ⟨aW,rfl⟩:=iv h18;obtain rfl:=eM g19;exact ⟨_,rfl⟩
def okT:Ty→Bool
 | .e3=>true
 | .e5=>true
 | .e9=>true
 | .bU=>true
 | .bD=>true
 | .s8=>true
 | .jq=>true
 | .bX=>true
 | .cC=>true
 | .Be=>true
 | .fw=>true
 | .Bd=>true
 | .ui=>true
set_option maxRecDepth 100000 in
theorem YB:Tab Try.prog KK (lk tks) okT:=by
 refine YC N9 Qv (by kernel_rfl) fun t ht=>?_
 cases t
 ·exact ⟨_,rfl,rfl,ek3⟩
 ·exact ⟨_,rfl,rfl,ek5⟩
 ·exact ⟨_,rfl,rfl,ek9⟩
 ·exact ⟨_,rfl,rfl,ek27⟩
 ·exact ⟨_,rfl,rfl,ek29⟩
 ·exact ⟨_,rfl,rfl,ek31⟩
 ·exact ⟨_,rfl,rfl,ek41⟩
 ·exact ⟨_,rfl,rfl,ek62⟩
 ·exact ⟨_,rfl,rfl,ek64⟩
 ·exact ⟨_,rfl,rfl,ek75⟩
 ·exact ⟨_,rfl,rfl,ek80⟩
 ·exact ⟨_,rfl,rfl,ek85⟩
 ·exact ⟨_,rfl,rfl,ek117⟩
end Go.Proofs.Ytipemmgoipbojaa.Ab
