/- Part 2 of the proof: an abstract machine proved sound over the model, the functions that it reckons, the plain law. Names made short by a program. No conditions. -/
import Derived.Test.YtipemmgoipbojaaP1
import Derived.ChangeMaps5
import Derived.LoopN
import Derived.Orders
set_option linter.unusedVariables false
set_option linter.unusedSimpArgs false
set_option linter.unusedSectionVars false
namespace Go.Proofs.Ytipemmgoipbojaa.Ab
open Go Go.RowKit
section
variable {Ty:Type} [DecidableEq Ty] {C:Ty→Type}
variable {P:Program} {X:Cx C} {w0 w:World} {nt:Nat} {S:St C} {β:Nat→Value} {fp:Nat→Nat→Prop} {a:Act} {R:Type} {k:St C→Option R} {r:R}
variable {dst:Option Tmp} {ty:TypeId} {pos:String} {dL:Array Edge} {gd:Option (Nat×Bool)} {Q:Exit→Act→World→Prop}
theorem KE (hX:je P X) (hs:dc X.K w0 nt S β fp a w) (hd:slot dst nt) {as:Array Operand} {ts:Array TypeId} (h:ev X ⟨dst,.call { callee:=.builtin .append,args:=as,argTypes:=ts },ty,pos,dL,gd⟩ S k=some r):Goal P X w0 nt k r Q ⟨dst,.call { callee:=.builtin .append,args:=as,argTypes:=ts },ty,pos,dL,gd⟩ a w:=by
 obtain ⟨al⟩:=as;obtain ⟨tl⟩:=ts;simp only [ev] at h;split at h
 ·rename_i s x t t'
  split at h
  ·rename_i t1 l m ht hl hm
   obtain ⟨he,h⟩:=aw h;have he:=Nat.eq_of_beq_eq_true he;simp only [List.headD_cons] at he;subst he;have hl:=fu (dM hs hl);have hm:=fu (dM hs hm)
   have fin:∀ {t0 EG:Ty} {xs:List (C t0)} {ys:List (C EG)} {dK iT:Option Nat} {gq nL:Bool},
     oG none X ⟨dst,.call { callee:=.builtin .append,args:=⟨[s,x]⟩,argTypes:=⟨[t,t]⟩ },ty,pos,dL,gd⟩ S t1 t0 EG xs ys dK iT (gq||nL) k=some r→(∀ i,dK=some i→iT≠some i) →
     (∃ cs,w.ownsRow w0.heap.size (X.K.tid t0) (X.K.sz t0) (a.eval s) xs.length cs∧(∀ g,(a.eval s).ownBlock=some g→iM fp dK g)∧kI X.K w w0.heap.size (aH S.ah fp w) (iM fp dK) t0 xs (a.eval s).ownBlock (fun m=>cs.getD m undef) gq) →
     (∀ i,dK=some i→∃ ob,lk S.ah i=some ob)→(∀ i,iT=some i→∃ ob,lk S.ah i=some ob) →
     Handed X.K w w0.heap.size (aH S.ah fp w) (iM fp iT) EG ys (a.eval x) nL→(∀ i g,iT=some i→(a.eval x).ownBlock=some g→fp i g) →
     Goal P X w0 nt k r Q ⟨dst,.call { callee:=.builtin .append,args:=⟨[s,x]⟩,argTypes:=⟨[t,t]⟩ },ty,pos,dL,gd⟩ a w:=by
    intro t0 EG xs ys dK iT gq nL ha hne hb h0 h1 hh Hr;obtain ⟨v',w',hr,hn⟩:=Rh (P:=P) hX hs hd (o:=⟨dst,.call { callee:=.builtin .append,args:=⟨[s,x]⟩,argTypes:=⟨[t,t]⟩ },ty,pos,dL,gd⟩) rfl ht ha hne hb h0 h1 hh Hr (ty:=ty);refine bl (v:=v') (w':=w') ?_ hn;simp only [execOp,resolve,Sem.run_bind,Sem.run_pure,Result.andThen_ok,invoke,builtin,List.map_toArray,List.map_cons,List.map_nil];rw [hr];rfl
   have vq:∀ {t0:Ty},l = .nil t0→∃ cs,w.ownsRow w0.heap.size (X.K.tid t0) (X.K.sz t0) (a.eval s) ([]:List (C t0)).length cs∧(∀ g,(a.eval s).ownBlock=some g→iM fp none g)∧kI X.K w w0.heap.size (aH S.ah fp w) (iM fp none) t0 [] (a.eval s).ownBlock (fun m=>cs.getD m undef) false:=by
    intro t0 e;subst e;have e:a.eval s = .slice none 0 0:=hl;rw [e];exact ⟨[],World.ownsRow_nil ..,fun g hg=>by simp [Value.ownBlock] at hg,o5⟩
   have P5:∀ {dK:Nat} {t0:Ty} {xs:List (C t0)} {gq:Bool},l = .ref dK []→lk S.ah dK=some (.row t0 xs gq)→∃ cs,w.ownsRow w0.heap.size (X.K.tid t0) (X.K.sz t0) (a.eval s) xs.length cs∧(∀ g,(a.eval s).ownBlock=some g→iM fp (some dK) g)∧kI X.K w w0.heap.size (aH S.ah fp w) (iM fp (some dK)) t0 xs (a.eval s).ownBlock (fun m=>cs.getD m undef) gq:=by
    intro dK t0 xs gq e ho;subst e;rw [hl.2];exact nY (hs.ah dK _ ho)
   have aaB:∀ {iT:Nat} {t0:Ty} {xs:List (C t0)} {gq:Bool},m = .ref iT []→lk S.ah iT=some (.row t0 xs gq)→Handed X.K w w0.heap.size (aH S.ah fp w) (iM fp (some iT)) t0 xs (a.eval x) gq:=by
    intro dK t0 xs gq e ho;subst e;rw [hm.2];exact sA (hs.ah dK _ ho)
   have aay:∀ {t0:Ty} {xs:List (C t0)},m = .row t0 xs→Handed X.K w w0.heap.size (aH S.ah fp w) (iM fp none) t0 xs (a.eval x) true:=by
    intro t0 xs e;subst e;exact vL hm
   have aaV:∀ {t0:Ty},m = .nil t0→Handed X.K w w0.heap.size (aH S.ah fp w) (iM fp none) t0 [] (a.eval x) false:=by
    intro t0 e;subst e;have e:a.eval x = .slice none 0 0:=hm;rw [e];exact vM
   have one:∀ {i:Nat} {ob:Ob C},lk S.ah i=some ob→∀ j,some i=some j→∃ ob,lk S.ah j=some ob:=fun h j e=>by cases e;exact ⟨_,h⟩
   have Pf:∀ j,(none:Option Nat)=some j→∃ ob,lk S.ah j=some ob:=fun j e=>by cases e
   have I2:∀ i g,(none:Option Nat)=some i→(a.eval x).ownBlock=some g→fp i g:=fun i g e=>by cases e
   have aaA:∀ {iT:Nat} {t0:Ty} {xs:List (C t0)} {gq:Bool},m = .ref iT []→lk S.ah iT=some (.row t0 xs gq)→∀ i g,some iT=some i→(a.eval x).ownBlock=some g→fp i g:=by
    intro dK t0 xs gq e ho i g e' hg;cases e';subst e;rw [hm.2] at hg;obtain ⟨_,_,h2,_⟩:=nY (hs.ah dK _ ho);exact h2 g hg
   have ZI:∀ {id lo hi:Nat} {t0:Ty} {xs:List (C t0)} {gq:Bool},m = .sub id lo hi→lk S.ah id=some (.row t0 xs gq)→X.K.flat t0=true→Handed X.K w w0.heap.size (aH S.ah fp w) (iM fp none) t0 ((xs.take hi).drop lo) (a.eval x) false:=by
    intro id lo hi t0 xs gq e ho hf;subst e;obtain ⟨F,hr⟩:=zU (hs.ah id _ ho);exact CG hf (qp hr (hm.2 t0 xs gq ho))
   split at h
   ·rename_i t0
    split at h
    ·rename_i id
     split at h
     ·rename_i EG ys sh ho
      exact fin (gq:=false) (nL:=sh) (by simpa using h) (fun i e=>by cases e) (vq rfl) Pf (one ho) (aaB rfl ho) (aaA rfl ho)
     ·cases h
    ·rename_i id lo hi
     split at h
     ·rename_i EG ys sh ho
      obtain ⟨hf,h⟩:=aw h;exact fin (gq:=false) (nL:=false) (by simpa using h) (fun i e=>by cases e) (vq rfl) Pf Pf (ZI rfl ho hf) I2
     ·cases h
    ·exact fin (gq:=false) (nL:=true) (by simpa using h) (fun i e=>by cases e) (vq rfl) Pf Pf (aay rfl) I2
    ·exact fin (gq:=false) (nL:=false) (by simpa using h) (fun i e=>by cases e) (vq rfl) Pf Pf (aaV rfl) I2
    ·cases h
   ·rename_i dK
    split at h
    ·rename_i t0 xs gq uq
     split at h
     ·rename_i id
      obtain ⟨hne,h⟩:=eS h;split at h
      ·rename_i EG ys sh ho
       refine fin (gq:=gq) (nL:=sh) h (fun i e e'=>?_) (P5 rfl uq) (one uq) (one ho) (aaB rfl ho) (aaA rfl ho);cases e;cases e';simp [Nat.beq_refl] at hne
      ·cases h
     ·rename_i id lo hi
      split at h
      ·rename_i EG ys sh ho
       obtain ⟨hf,h⟩:=aw h;exact fin (gq:=gq) (nL:=false) (by simpa using h) (fun i e=>by simp) (P5 rfl uq) (one uq) Pf (ZI rfl ho hf) I2
      ·cases h
     ·exact fin (gq:=gq) (nL:=true) (by simpa using h) (fun i e=>by simp) (P5 rfl uq) (one uq) Pf (aay rfl) I2
     ·exact fin (gq:=gq) (nL:=false) (by simpa using h) (fun i e=>by simp) (P5 rfl uq) (one uq) Pf (aaV rfl) I2
     ·cases h
    ·cases h
   ·cases h
  ·cases h
 ·cases h
theorem xD {id:Nat}:∀ (E:List (Nat×SV C)) t v,lk (jg id E) t=some v→lk E t=some v∧vW id v=false:=by
 intro E
 induction E with
 | nil=>intro t v h;simp [jg,lk] at h
 | cons y r ih=>
  intro t v h;obtain ⟨n,u⟩:=y;simp only [jg] at h
  cases hd:vW id u with
  | true=>
   rw [hd,cond_true] at h;rw [lg] at h;split at h
   ·cases h
   ·rename_i e
    rw [aN,if_neg e];exact ih t v h
  | false=>
   rw [hd,cond_false,aN] at h;rw [aN];split at h
   ·rename_i e;rw [if_pos e];cases h;exact ⟨rfl,hd⟩
   ·rename_i e;rw [if_neg e];exact ih t v h
theorem CY {id:Nat} {O:cW C} (h:O.any (fun x=>yP id x.2)=false) {j:Nat} {kd0:VT} {AY:List (Lf C)} (hj:lk O j=some (.box kd0 AY)):AY.any (lp id)=false:=by
 induction O with
 | nil=>simp [lk] at hj
 | cons y r ih=>
  obtain ⟨n,u⟩:=y;rw [aN] at hj;simp only [List.any_cons,Bool.or_eq_false_iff] at h;split at hj
  ·cases hj;exact h.1
  ·exact ih h.2 hj
theorem vk {α:Type} (xs ys:List α):(ys.take xs.length++xs.drop ys.length).length=xs.length:=by
 simp only [List.length_append,List.length_take,List.length_drop];omega
theorem Lv {α:Type} {xs ys:List α} {j:Nat} (hj:j<xs.length):(ys.take xs.length++xs.drop ys.length)[j]?=if j<ys.length then ys[j]? else xs[j]?:=by
 have hl:(ys.take xs.length).length=min xs.length ys.length:=by simp
 by_cases h:j<ys.length
 ·rw [if_pos h,List.getElem?_append_left (by omega),List.getElem?_take,if_pos hj]
 ·rw [if_neg h,List.getElem?_append_right (by omega),List.getElem?_drop]
  congr 1;omega
theorem Jv (hX:je P X) (hs:dc X.K w0 nt S β fp a w) (hd:slot dst nt) {o:Oper} (ho:o.dst=dst) {T T':TypeId} {t t1:Ty} (hT:X.tk T=some (.one (.dR t))) {xs:List (C t)} {id:Nat} (fO:lk S.ah id=some (.row t xs false))
  {ys:List (C t1)} {v1:Value} {D:Nat→Prop} {nL:Bool} (hh:Handed X.K w w0.heap.size (aH S.ah fp w) D t1 ys v1 nL) (h:sL X o S t xs id t1 ys k=some r) :
  ∃ v' w',(Builtin.copy_ #[T,T'] ty #[β id,v1]).run P w = .ok v' w'∧Next X.K w0 nt k r (a.put dst v') w':=by
 unfold sL kH at h;split at h
 ·rename_i Pb hy
  split at hy
  ·rename_i e _
   have e2:=e.symm;subst e2;cases hy;obtain ⟨hf,h⟩:=aw h;obtain ⟨CC,h⟩:=eS h;obtain ⟨i,z,hi,hsz,hby,hpos,hz,hzs,Pj⟩:=hX.el t;have hO:=hs.ah id _ fO;obtain ⟨gP,hown0,QR⟩:=vm hO;obtain ⟨A,c,f,rfl,hA,hel⟩:=hh;have hoc:=pZ hel;obtain ⟨A0,c0,e0,hA0⟩:=fC hown0;have hu:=(hX.tk _ _ hT).dR
   have hold:∀ (j:Nat) (hj:j<xs.length) (i:Nat) (l:Lf C),(X.K.enc t xs[j])[i]?=some l→∃ F,gT X.K w F l (gP.getD (j*X.K.sz t+i) undef):=fun j hj i l hl=>by
    cases hO with
    | row _ _ _ _ cells G q0 q1 q2 q3 q4=>
     have hc:cells=gP:=lK q0 hown0;subst hc;exact ⟨_,(q4 j hj i l hl).rep⟩
   have hnew:∀ (j:Nat) (hj:j<ys.length) (i:Nat) (l:Lf C),(X.K.enc t ys[j])[i]?=some l→∃ F,gT X.K w F l (f (j*X.K.sz t+i)):=fun j hj i l hl=>by
    obtain ⟨G,_,_,q⟩:=hel;exact ⟨_,(q j ys[j] (by simp [hj]) i l hl).2⟩
   have fin:∀ (w':World) (p8:List Value),w'.ownsRow w0.heap.size (X.K.tid t) (X.K.sz t) (β id) xs.length p8→Below w0.heap.size w w'→(∀ k,¬ fp id k→w'.heap[k]?=w.heap[k]?) →
     (∀ j i,j<xs.length→i<X.K.sz t→p8.getD (j*X.K.sz t+i) undef=if j<ys.length then f (j*X.K.sz t+i) else gP.getD (j*X.K.sz t+i) undef) →
     Next X.K w0 nt k r (a.put dst (goInt (Nat.min ys.length xs.length))) w':=by
    intro w' p8 hown' hw hb hcell
    have gi:dc X.K w0 nt ({ S.setObj id (.row t (ys.take xs.length++xs.drop ys.length) false) with env:=jg id S.env }:St C) β (upd fp id (fp id)) a w':=by
     refine hs.ub (O1:=S.ah) (fun _ _ h=>h) fO (vk xs ys) (F':=fp id) (fun k hk=>.inl hk) hw hb ?_ (fun j kd ls hj=>CY CC hj) (xD S.env) S.base;refine .row _ t _ _ _ (fun _ _ _=>False) (by rw [vk];exact hown') QR (fun j o k hk=>hk.elim) (fun j o j' o' k hk=>hk.elim) (fun j hj i l hl=>?_)
     have Ht:j<xs.length:=by rw [vk] at hj;exact hj
     have eR:=iG hl;rw [hcell j i Ht eR];have hz:=Lv (xs:=xs) (ys:=ys) Ht;rw [List.getElem?_eq_getElem hj] at hz
     by_cases hlt:j<ys.length
     ·rw [if_pos hlt] at hz ⊢
      rw [List.getElem?_eq_getElem hlt] at hz;have V4:=Option.some.inj hz;rw [V4] at hl;obtain ⟨F,hr⟩:=hnew j hlt i l hl;exact mD hf hl hr
     ·rw [if_neg hlt] at hz ⊢
      rw [List.getElem?_eq_getElem Ht] at hz;have V4:=Option.some.inj hz;rw [V4] at hl;obtain ⟨F,hr⟩:=hold j Ht i l hl;exact mD hf hl hr
    subst ho;exact bn gi hd (v:=.one (.int .i64 (Nat.min ys.length xs.length:Nat))) (show goInt _=_ from rfl) h
   rcases Nat.eq_zero_or_pos (Nat.min ys.length xs.length) with h0 | h0
   ·refine ⟨goInt (Nat.min ys.length xs.length),w,?_,fin w gP hown0 (Below.refl _ _) (fun _ _=>rfl) (fun j i hj hi=>?_)⟩
    ·rw [e0,h0]
     have h0':Nat.min ys.length xs.length=0:=h0
     have hfc0:(Builtin.firstCells (X.K.sz t) 0 (.slice A ys.length c)).run P w = .ok #[] w:=by
      cases A with
      | none=>exact run_firstCells_none (P:=P) w _ _ _ _
      | some p=>exact run_firstCells_some (P:=P) w _ 0 p _ _ [] (by simp) (fun j v h=>by simp at h)
     cases A0<;>simp [Builtin.copy_,run_underlying hu,sizeOf,typeInfo,hi,hsz,Builtin.lenOf,h0',hfc0,storeCells,Sem.run_bind]
    ·rw [if_neg]
     intro hlt;have:Nat.min ys.length xs.length=min ys.length xs.length:=rfl;omega
   ·have hmin:Nat.min ys.length xs.length=min ys.length xs.length:=rfl
    have hx0:0<xs.length:=by omega
    have hy0:0<ys.length:=by omega
    obtain ⟨g,rfl⟩:=hA0 hx0;obtain ⟨p,rfl,hcp⟩:=hA hy0;have Cu:=hown0;rw [e0] at Cu;have hmul:min ys.length xs.length*X.K.sz t≤xs.length*X.K.sz t:=Nat.mul_le_mul_right _ (Nat.min_le_right _ _);have hmul2:min ys.length xs.length*X.K.sz t≤ys.length*X.K.sz t:=Nat.mul_le_mul_right _ (Nat.min_le_left _ _)
    have hfc:=run_firstCells_some (P:=P) w (X.K.sz t) (min ys.length xs.length) p ys.length c ((List.range (min ys.length xs.length*X.K.sz t)).map f) (by simp) (fun j v hv=>by
     simp only [List.getElem?_map,Option.map_eq_some_iff] at hv;obtain ⟨j',hj,rfl⟩:=hv;have hlt:=eD hj;simp only [List.length_range] at hlt
     have:j'=j:=by simp [hlt] at hj;exact hj.symm
     subst this
     exact hcp _ (by omega))
    obtain ⟨jU,hrun,hown'⟩:=jI (P:=P) Cu (m:=0) (vs:=(List.range (min ys.length xs.length*X.K.sz t)).map f) (by simp;omega) (fun v hv=>by
     obtain ⟨j,hj,rfl⟩:=List.mem_map.1 hv;rw [List.mem_range] at hj
     exact hoc j (by omega))
    have hFg:fp id g:=QR g (by rw [e0];rfl);refine ⟨goInt (Nat.min ys.length xs.length),w.setRow g jU,?_,fin _ _ (by rw [e0];exact hown') (iy g jU (hs.fresh id _ g fO hFg).1) (fun k hk=>setRow_other w g k jU fun e=>hk (by rw [e];exact hFg)) (fun j i hj hi=>?_)⟩
    ·rw [e0]
     simp only [Builtin.copy_,List.getElem?_toArray,List.getElem?_cons_zero,List.getElem?_cons_succ,Sem.run_bind,Result.andThen_ok,Sem.run_pure,run_underlying hu,sizeOf,typeInfo,hi,Builtin.lenOf,hsz];simp [hmin,hsz,hi,hfc,hrun,Sem.run_bind]
    ·have hcl:0+((List.range (min ys.length xs.length*X.K.sz t)).map f).length≤gP.length:=by rw [hown0.1];simp;omega
     have hidx:j*X.K.sz t+i<min ys.length xs.length*X.K.sz t↔j<ys.length:=by
      constructor
      ·intro hlt
       have h1:j*X.K.sz t<min ys.length xs.length*X.K.sz t:=by omega
       have:=Nat.lt_of_mul_lt_mul_right h1;omega
      ·intro hlt
       have:(j+1)*X.K.sz t≤min ys.length xs.length*X.K.sz t:=Nat.mul_le_mul_right _ (by omega);rw [Nat.succ_mul] at this;omega
     rw [List.getD_eq_getElem?_getD,fP hcl]
     by_cases hlt:j<ys.length
     ·have Jk:=hidx.2 hlt
      rw [if_neg (by omega),if_pos (by simpa using Jk),if_pos hlt];simp [Jk]
     ·have Jk:¬ j*X.K.sz t+i<min ys.length xs.length*X.K.sz t:=fun hc=>hlt (hidx.1 hc)
      rw [if_neg (by omega),if_neg (by simpa using Jk),if_neg hlt,← List.getD_eq_getElem?_getD]
  ·cases hy
 ·cases h
theorem UN (hX:je P X) (hs:dc X.K w0 nt S β fp a w) (hd:slot dst nt) {as:Array Operand} {ts:Array TypeId} (h:ev X ⟨dst,.call { callee:=.builtin .copy,args:=as,argTypes:=ts },ty,pos,dL,gd⟩ S k=some r):Goal P X w0 nt k r Q ⟨dst,.call { callee:=.builtin .copy,args:=as,argTypes:=ts },ty,pos,dL,gd⟩ a w:=by
 obtain ⟨al⟩:=as;obtain ⟨tl⟩:=ts;simp only [ev] at h;split at h
 ·rename_i s x t t'
  split at h
  ·rename_i t1 l m ht hl hm
   have hl:=fu (dM hs hl);have hm:=fu (dM hs hm);unfold copyV at h;split at h
   ·rename_i id _
    split at h
    ·rename_i t0 EA ho
     unfold kH at h;split at h
     ·rename_i xs hx
      split at hx
      ·rename_i e _
       have e2:=e.symm;subst e2;cases hx
       have fin:∀ {EG:Ty} {ys:List (C EG)} {D:Nat→Prop} {nL:Bool},sL X ⟨dst,.call { callee:=.builtin .copy,args:=⟨[s,x]⟩,argTypes:=⟨[t,t']⟩ },ty,pos,dL,gd⟩ S t1 EA id EG ys k=some r →
         Handed X.K w w0.heap.size (aH S.ah fp w) D EG ys (a.eval x) nL→Goal P X w0 nt k r Q ⟨dst,.call { callee:=.builtin .copy,args:=⟨[s,x]⟩,argTypes:=⟨[t,t']⟩ },ty,pos,dL,gd⟩ a w:=by
        intro EG ys D nL hc hh;obtain ⟨v',w',hr,hn⟩:=Jv (P:=P) (T':=t') (ty:=ty) hX hs hd (o:=⟨dst,.call { callee:=.builtin .copy,args:=⟨[s,x]⟩,argTypes:=⟨[t,t']⟩ },ty,pos,dL,gd⟩) rfl ht ho hh hc;refine bl (v:=v') (w':=w') ?_ hn;have hle:a.eval s=β id:=hl.2;rw [←hle] at hr;simp only [execOp,resolve,Sem.run_bind,Sem.run_pure,Result.andThen_ok,invoke,builtin,List.map_toArray,List.map_cons,List.map_nil];rw [hr];rfl
       split at h
       ·exact fin h (vL hm)
       ·rename_i t2
        have e:a.eval x = .slice none 0 0:=hm;refine fin (D:=fun _=>False) (nL:=false) h ?_;rw [e];exact vM
       ·rename_i i2 _
        split at h
        ·rename_i t2 ys sh ho2
         refine fin (D:=fp i2) (nL:=sh) h ?_;rw [hm.2];exact sA (hs.ah i2 _ ho2)
        ·cases h
       ·cases h
      ·cases hx
     ·cases h
    ·cases h
   ·cases h
  ·cases h
 ·cases h
theorem PR (hX:je P X) (hs:dc X.K w0 nt S β fp a w) {as:Array Operand} {ts:Array TypeId} (h:ev X ⟨dst,.call { callee:=.builtin .clear,args:=as,argTypes:=ts },ty,pos,dL,gd⟩ S k=some r):Goal P X w0 nt k r Q ⟨dst,.call { callee:=.builtin .clear,args:=as,argTypes:=ts },ty,pos,dL,gd⟩ a w:=by
 obtain ⟨al⟩:=as;obtain ⟨tl⟩:=ts;simp only [ev] at h;split at h
 case h_2=>cases h
 rename_i x T;split at h
 case h_2=>cases h
 rename_i t1 l hT hx;unfold clrV at h;split at h
 case h_2=>cases h
 rename_i id lo hi;split at h
 case h_2=>cases h
 rename_i t xs fO;obtain ⟨hc,hB⟩:=aw h;obtain ⟨CC,hC⟩:=eS hB;clear h hB;have h:=hC;clear hC;simp only [Bool.and_eq_true,decide_eq_true_eq] at hc;obtain ⟨e,hf⟩:=hc;subst e;have hxv:db X.K w S.ah β fp (aH S.ah fp w) (.sub id lo hi) (a.eval x):=fu (cG hs hx);obtain ⟨h1,h2,A0,c0,B0,e0,hc0,ev0,hB0⟩:=hxv.2 t xs false fO;obtain ⟨i,z,eR,hsz,hby,hpos,hz,hzs,Pj⟩:=hX.el t;have hO:=hs.ah id _ fO;obtain ⟨gP,hown0,QR⟩:=vm hO;have hu:=(hX.tk _ _ hT).dR
 have hold:∀ (j:Nat) (hj:j<xs.length) (i:Nat) (l:Lf C),(X.K.enc t xs[j])[i]?=some l→∃ F,gT X.K w F l (gP.getD (j*X.K.sz t+i) undef):=fun j hj i l hl=>by
  cases hO with
  | row _ _ _ _ cells G q0 q1 q2 q3 q4=>
   have hc:cells=gP:=lK q0 hown0;subst hc;exact ⟨_,(q4 j hj i l hl).rep⟩
 have hlen:(xs.take lo++List.replicate (hi-lo) (X.K.zero t)++xs.drop hi).length=xs.length:=by simp;omega
 have oh:∀ j,j<xs.length→(xs.take lo++List.replicate (hi-lo) (X.K.zero t)++xs.drop hi)[j]?=if j<lo then xs[j]? else if j<hi then some (X.K.zero t) else xs[j]?:=fun j hj=>by
  have hl:(xs.take lo).length=lo:=by simp;omega
  by_cases q1:j<lo
  ·rw [if_pos q1,List.append_assoc,List.getElem?_append_left (by omega),List.getElem?_take,if_pos q1]
  ·rw [if_neg q1]
   by_cases q2:j<hi
   ·rw [if_pos q2,List.getElem?_append_left (by simp;omega),List.getElem?_append_right (by omega),List.getElem?_replicate,if_pos (by omega)]
   ·rw [if_neg q2,List.getElem?_append_right (by simp;omega),List.getElem?_drop]
    congr 1;simp;omega
 have fin:∀ (w':World) (p8:List Value),w'.ownsRow w0.heap.size (X.K.tid t) (X.K.sz t) (β id) xs.length p8→Below w0.heap.size w w'→(∀ k,¬ fp id k→w'.heap[k]?=w.heap[k]?) →
   (∀ j i,j<xs.length→i<X.K.sz t→p8.getD (j*X.K.sz t+i) undef=if lo≤j∧j<hi then z.cells.getD i undef else gP.getD (j*X.K.sz t+i) undef) →
   Next X.K w0 nt k r (a.put dst (.tuple #[])) w':=by
  intro w' p8 hown' hw hb hcell
  have gi:dc X.K w0 nt ({ S.setObj id (.row t (xs.take lo++List.replicate (hi-lo) (X.K.zero t)++xs.drop hi) false) with env:=jg id S.env }:St C) β (upd fp id (fp id)) a w':=by
   refine hs.ub (O1:=S.ah) (fun _ _ h=>h) fO hlen (F':=fp id) (fun k hk=>.inl hk) hw hb ?_ (fun j kd ls hj=>CY CC hj) (xD S.env) S.base;refine .row _ t _ _ _ (fun _ _ _=>False) (by rw [hlen];exact hown') QR (fun j o k hk=>hk.elim) (fun j o j' o' k hk=>hk.elim) (fun j hj i l hl=>?_)
   have Ht:j<xs.length:=by rw [hlen] at hj;exact hj
   have eR:=iG hl;rw [hcell j i Ht eR];have hz:=oh j Ht;rw [List.getElem?_eq_getElem hj] at hz
   by_cases hlt:lo≤j∧j<hi
   ·rw [if_pos hlt]
    rw [if_neg (by omega),if_pos hlt.2] at hz;have V4:=Option.some.inj hz;rw [V4] at hl;exact Pj i l hl _ _ _
   ·rw [if_neg hlt]
    have hz':xs[j]?=some (xs.take lo++List.replicate (hi-lo) (X.K.zero t)++xs.drop hi)[j]:=by
     rw [hz]
     by_cases q1:j<lo
     ·rw [if_pos q1]
     ·rw [if_neg q1,if_neg (by omega)]
    rw [List.getElem?_eq_getElem Ht] at hz';have V4:=Option.some.inj hz';rw [←V4] at hl;obtain ⟨F,hr⟩:=hold j Ht i l hl;exact mD hf hl hr
  exact ⟨_,⟨_,_,gi.drop dst _⟩,h⟩
 have SY:∀ (w':World),(Builtin.clear_ #[T] ty #[a.eval x]).run P w = .ok (.tuple #[]) w'→Next X.K w0 nt k r (a.put dst (.tuple #[])) w'→Goal P X w0 nt k r Q ⟨dst,.call { callee:=.builtin .clear,args:=⟨[x]⟩,argTypes:=⟨[T]⟩ },ty,pos,dL,gd⟩ a w:=fun w' hr hn=>by
  refine bl (v:=.tuple #[]) (w':=w') ?_ hn;simp only [execOp,resolve,Sem.run_bind,Sem.run_pure,Result.andThen_ok,invoke,builtin,List.map_toArray,List.map_cons,List.map_nil];rw [hr];rfl
 by_cases hn:hi-lo=0
 ·refine SY w ?_ (fin w gP hown0 (Below.refl _ _) (fun _ _=>rfl) (fun j i hj hi=>by rw [if_neg (by omega)]))
  rw [ev0,hn];cases B0<;>simp [Builtin.clear_,run_underlying hu]
 ·obtain ⟨A,c,e1,hA⟩:=fC hown0
  rw [e0] at e1;cases e1;obtain ⟨g,rfl⟩:=hA (by omega);have Cu:=hown0;rw [e0] at Cu;have hsub:(hi-lo)*X.K.sz t=hi*X.K.sz t-lo*X.K.sz t:=Nat.sub_mul _ _ _;have hle1:lo*X.K.sz t≤hi*X.K.sz t:=Nat.mul_le_mul_right _ h1;have hle2:hi*X.K.sz t≤xs.length*X.K.sz t:=Nat.mul_le_mul_right _ h2
  have My:(madeCells z.cells ((hi-lo)*X.K.sz t)).toList.length=(hi-lo)*X.K.sz t:=by simp [madeCells]
  have hmc:∀ j i',j<hi-lo→i'<X.K.sz t→(madeCells z.cells ((hi-lo)*X.K.sz t)).toList.getD (j*X.K.sz t+i') undef=z.cells.getD i' undef:=fun j i' hj eR=>by
   have hm:j*X.K.sz t+i'<(hi-lo)*X.K.sz t:=iw hj eR
   have Wl:(j*X.K.sz t+i') % X.K.sz t=i':=by rw [Nat.add_comm,Nat.add_mul_mod_self_right,Nat.mod_eq_of_lt eR]
   simp [madeCells,List.getD,hm,hzs,Wl,getElem!_def,Array.getD_eq_getD_getElem?,eR]
  have hone:∀ v∈(madeCells z.cells ((hi-lo)*X.K.sz t)).toList,v.oneCell'=true:=fun v hv=>by
   obtain ⟨m,hm,rfl⟩:=List.getElem_of_mem hv;rw [My] at hm;have hp:=X.K.pos t;have hj:m / X.K.sz t<hi-lo:=Nat.div_lt_of_lt_mul (by rw [Nat.mul_comm];exact hm);have hi1:m % X.K.sz t<X.K.sz t:=Nat.mod_lt _ hp;have h3:=hmc (m / X.K.sz t) (m % X.K.sz t) hj hi1;rw [show m / X.K.sz t*X.K.sz t+m % X.K.sz t=m by rw [Nat.mul_comm];exact Nat.div_add_mod ..] at h3
   have hi2:m % X.K.sz t<(X.K.enc t (X.K.zero t)).length:=by rw [X.K.gA];exact hi1
   have h4:=(Pj (m % X.K.sz t) (X.K.enc t (X.K.zero t))[m % X.K.sz t] (by simp [hi2]) w w0.heap.size (fun _=>False)).one;rw [←h3,List.getD_eq_getElem?_getD,List.getElem?_eq_getElem (by rw [My];exact hm)] at h4;exact h4
  obtain ⟨jU,hrun,hown'⟩:=jI (P:=P) Cu (m:=lo*X.K.sz t) (vs:=(madeCells z.cells ((hi-lo)*X.K.sz t)).toList) (by rw [My];omega) hone;have hFg:fp id g:=QR g (by rw [e0];rfl);refine SY (w.setRow g jU) ?_ (fin _ _ (by rw [e0];exact hown') (iy g jU (hs.fresh id _ g fO hFg).1) (fun k hk=>setRow_other w g k jU fun e=>hk (by rw [e];exact hFg)) (fun j i hj hi9=>?_))
  ·rw [hB0 (by omega)] at ev0
   have hzr:(zeroValue (X.K.tid t)).run P w = .ok z w:=by simp [zeroValue,typeInfo,eR,hz]
   obtain ⟨m,hm⟩:∃ m,hi-lo=m+1:=⟨hi-lo-1,by omega⟩
   have hzc:(Builtin.zeroCells z.cells (m+1)).toList=(madeCells z.cells ((hi-lo)*X.K.sz t)).toList:=by
    rw [hm,← hzs];rfl
   rw [ev0,hm];simp only [Option.map_some,eL,Nat.zero_add];simp only [Builtin.clear_,List.getElem?_toArray,List.getElem?_cons_zero,Sem.run_bind,run_underlying hu,Result.andThen_ok,hzr,hzc,hrun,Sem.run_pure]
  ·have hcl:lo*X.K.sz t+(madeCells z.cells ((hi-lo)*X.K.sz t)).toList.length≤gP.length:=by rw [My,hown0.1];omega
   rw [List.getD_eq_getElem?_getD,fP hcl,My]
   by_cases q1:j<lo
   ·have:=iw q1 hi9
    rw [if_pos (by omega),if_neg (by omega),← List.getD_eq_getElem?_getD]
   ·have q3:lo*X.K.sz t≤j*X.K.sz t:=Nat.mul_le_mul_right _ (by omega)
    by_cases q2:j<hi
    ·have:=iw q2 hi9
     rw [if_neg (by omega),if_pos (by omega),if_pos ⟨by omega,q2⟩,← List.getD_eq_getElem?_getD,← hmc (j-lo) i (by omega) hi9]
     congr 1;rw [Nat.sub_mul];omega
    ·have q4:hi*X.K.sz t≤j*X.K.sz t:=Nat.mul_le_mul_right _ (by omega)
     rw [if_neg (by omega),if_neg (by omega),if_neg (by omega),← List.getD_eq_getElem?_getD]
theorem IY {K:Cd C} {base:Nat} {F F':Nat→Prop} {l:Lf C} {v:Value} (h:Own K w base F l v) (hF:∀ k,F k↔F' k):Own K w base F' l v:=by
 have:F=F':=funext fun k=>propext (hF k)
 rw [←this];exact h
theorem Ky (hX:je P X) (hs:dc X.K w0 nt S β fp a w) (hd:slot dst nt) {t:TypeId} {x:Operand} {lo hi mx:Option Operand} {t1:Ty} {id:Nat} (hm:mx=none) (ht:X.tk t=some (.one (.dR t1))) (hx:eG S x=some (.one (.ref id [])))
  (h:zK X S ⟨dst,.slice t x lo hi mx,ty,pos,dL,gd⟩ t1 id lo hi k=some r):Goal P X w0 nt k r Q ⟨dst,.slice t x lo hi mx,ty,pos,dL,gd⟩ a w:=by
 subst hm;generalize ho:(⟨dst,.slice t x lo hi none,ty,pos,dL,gd⟩:Oper)=o at h ⊢
 have S4:o.dst=dst:=by rw [←ho]
 subst S4;unfold zK at h;split at h
 case h_2=>cases h
 rename_i t0 xs fO;split at h
 case h_2=>cases h
 rename_i q hq;obtain ⟨e,hC⟩:=aw h;obtain ⟨h0,hD⟩:=aw hC;obtain ⟨h2,hE⟩:=aw hD;clear h hC hD;have e:=of_decide_eq_true e;have h0:=of_decide_eq_true h0;have h2:=of_decide_eq_true h2;subst e;split at hE
 case h_2=>cases hE
 rename_i S' gu;have h:=hE;clear hE;obtain ⟨hn,rfl⟩:=jv gu;have hxv:db X.K w S.ah β fp (aH S.ah fp w) (.ref id []) (a.eval x):=fu (cG hs hx);have Jj:Own X.K w w0.heap.size (fp id) (.row t0 xs) (β id):=hs.ah id _ fO;generalize hv:β id=v at Jj
 have qh:a.eval x=v:=by rw [←hv];exact hxv.2
 cases Jj with
 | row _ _ _ _ cells G hown hF hG hdj qi=>
 obtain ⟨A,c,Jh,hcl,hgc⟩:∃ A c,v = .slice A xs.length c∧xs.length≤c∧(A=none∨∃ g,A=some ⟨g,0,none⟩):=by
  rcases hown.2 with ⟨e,e2⟩ | ⟨g,cap,cur,e,_,_,hcap,_⟩
  ·exact ⟨none,0,by rw [e,e2],by omega,.inl rfl⟩
  ·exact ⟨_,cap,e,hcap,.inr ⟨g,rfl⟩⟩
 have ME:=mH (P:=P) hs (XG:=true) (lo:=none) (l:=0) rfl hq (Int.le_refl 0) h0 h2 hcl
 have hA:(if c=0 then A else A.map (·.add (0*X.K.sz t0)))=A:=by
  rcases hgc with e | ⟨g,e⟩
  ·subst e;simp
  ·subst e;simp [Addr.add]
 have hrun:(execOp a.eval o).run P w = .ok (.value (.slice A q.toNat c)) w:=by
  rw [←ho];simp only [execOp,Instr.sliceAt,Sem.run_bind,bb (hX.tk _ _ ht).dR,Result.andThen_ok];have hA':=hA;simp only [Nat.zero_mul] at hA';have hbd':=ME;simp only [Option.map_none,Int.toNat_zero] at hbd';simp [Instr.slice,bb (hX.tk _ _ ht).dR,qh,Jh,hbd',(hX.el t0).size,hA']
 have hlen:(xs.take q.toNat).length=q.toNat:=by simp;omega
 have hown':w.ownsRow w0.heap.size (X.K.tid t0) (X.K.sz t0) (.slice A q.toNat c) (xs.take q.toNat).length (cells.take (q.toNat*X.K.sz t0)):=by
  have hle:q.toNat*X.K.sz t0≤xs.length*X.K.sz t0:=Nat.mul_le_mul_right _ (by omega);refine ⟨by rw [hlen,List.length_take,hown.1];omega,?_⟩
  rcases hown.2 with ⟨e,e2⟩ | ⟨g,cap,cur,e,hb,hg,hcap,hmx,hsz,hcur⟩
  ·rw [Jh] at e
   injection e with e1 e3 e4;subst e1 e4;exact .inl ⟨by rw [show q.toNat=0 by omega],by rw [hlen];omega⟩
  ·rw [Jh] at e
   injection e with e1 e3 e4;subst e1 e4;refine .inr ⟨g,c,cur,by rw [hlen],hb,hg,by rw [hlen];omega,hmx,hsz,?_⟩;rw [hlen,← hcur,List.take_take,Nat.min_eq_left hle]
 have hvb:∀ g,(Value.slice A q.toNat c).ownBlock=some g→v.ownBlock=some g:=fun g hg=>by
  rw [Jh]
  cases A with
  | none=>cases hg
  | some b=>exact hg
 have hO:∀ j ob,lk (fA S (some id)).ah j=some ob→lk S.ah j=some ob:=fun j ob hj=>(oV hj).1
 have yF:lk (fA S (some id)).ah id=none:=by
  cases e:lk (fA S (some id)).ah id with
  | none=>rfl
  | some ob=>exact absurd rfl (oV e).2
 have h3:=hs.KR hO (Below.refl _ w) (fun k _ _=>rfl) (id:=cg X S o) (by
  have:=hn;unfold fJ at this;rw [mG] at this
  exact this) (ob:=.row t0 (xs.take q.toNat) false) (hv:=.slice A q.toNat c) (F:=fp id) (fun k hk=>.inl ⟨id,_,fO,yF,hk⟩)
  (by
   show Own X.K w w0.heap.size (fp id) (.row t0 (xs.take q.toNat)) (.slice A q.toNat c)
   refine .row _ _ _ _ (cells.take (q.toNat*X.K.sz t0)) (fun j i k=>j<q.toNat∧G j i k) hown' (fun g hg=>hF g (hvb g hg)) (fun j i k hk=>⟨(hG j i k hk.2).1,fun e=>(hG j i k hk.2).2 (hvb k e)⟩) (fun j i j' i' k h1 h2=>hdj j i j' i' k h1.2 h2.2) fun j hj i l hl=>?_
   have gW:j<q.toNat:=by rw [hlen] at hj;exact hj
   have hx':(xs.take q.toNat)[j]=xs[j]'(by omega):=by simp
   rw [hx'] at hl
   have hi:i<X.K.sz t0:=by
    have:=(List.getElem?_eq_some_iff.1 hl).1;rw [X.K.gA] at this;exact this
   have hix:j*X.K.sz t0+i<q.toNat*X.K.sz t0:=by
    have:(j+1)*X.K.sz t0≤q.toNat*X.K.sz t0:=Nat.mul_le_mul_right _ gW;rw [Nat.add_mul] at this;omega
   have hcg:(cells.take (q.toNat*X.K.sz t0)).getD (j*X.K.sz t0+i) undef=cells.getD (j*X.K.sz t0+i) undef:=by
    simp only [List.getD_eq_getElem?_getD,List.getElem?_take,if_pos hix]
   rw [hcg]
   exact IY (qi j (by omega) i l hl) fun k=>⟨fun hk=>⟨gW,hk⟩,fun hk=>hk.2⟩) (fA S (some id)).base
 have hSe:(⟨S.env,(cg X S o,.row t0 (xs.take q.toNat) false)::(fA S (some id)).ah,(fA S (some id)).base⟩:St C)=(fA S (some id)).setObj (cg X S o) (.row t0 (xs.take q.toNat) false):=by
  unfold St.setObj;rw [mG]
 rw [hSe] at h3;exact bl hrun (bn h3 hd (v:=.one (.ref (cg X S o) [])) ⟨rfl,(cZ _ _ _).symm⟩ h)
end
section
variable {Ty:Type} [DecidableEq Ty] {C:Ty→Type}
variable {P:Program} {X:Cx C} {w0 w:World} {nt:Nat} {S:St C} {β:Nat→Value} {fp:Nat→Nat→Prop} {a:Act} {R:Type} {k:St C→Option R} {r:R}
variable {dst:Option Tmp} {ty:TypeId} {pos:String} {dL:Array Edge} {gd:Option (Nat×Bool)} {Q:Exit→Act→World→Prop}
theorem yK (off:Nat):∀ (vs:List Value) (n:Nat) (cs:Array Value),(vs.zipIdx n).foldl (fun cs (x:Value×Nat)=>cs.setIfInBounds (off+x.2) x.1) cs=⟨setAt cs.toList (off+n) vs⟩
 | [],n,cs=>by simp [setAt]
 | v::vs,n,cs=>by
  simp only [List.zipIdx_cons,List.foldl_cons];rw [yK off vs (n+1)];simp [setAt,Nat.add_assoc]
theorem CO {place:Nat→Option (Nat×Nat)} {cs:Array Value} {i off n:Nat} {v:Value} {rest:List (Nat×Value)} (hp:place i=some (off,n)) (hn:v.cells.size=n) (hf:off+n≤cs.size) :
  Instr.fill place cs ((i,v)::rest)=Instr.fill place ⟨setAt cs.toList off v.cells.toList⟩ rest:=by
 have h1:¬ (v.cells.size≠n||off+v.cells.size>cs.size)=true:=by simp [hn];omega
 simp only [Instr.fill,hp];rw [if_neg (by simpa using h1)]
 congr 1
 have:=yK off v.cells.toList 0 cs;rw [←Array.foldl_toList]
 simpa using this
theorem u9 (hs:dc X.K w0 nt S β fp a w) {fs:List (Nat×Nat×Bool)} {place:Nat→Option (Nat×Nat)} (hp:∀ (i off n:Nat) (ag:Bool),fs[i]?=some (off,n,ag)→place i=some (off,n)) :
  ∀ (ps:List (Nat×Operand)) (ls ls':List (Lf C)) (cs:List Value),partsOf X fs S ps ls=some ls'→(∀ (i off n:Nat) (ag:Bool),fs[i]?=some (off,n,ag)→off+n≤ls.length)→cT X.K w S.ah β fp (aH S.ah fp w) ls cs →
   ∃ cs',Instr.fill place ⟨cs⟩ (ps.map fun (x:Nat×Operand)=>(x.1,a.eval x.2))=some ⟨cs'⟩∧cT X.K w S.ah β fp (aH S.ah fp w) ls' cs'
 | [],ls,ls',cs,h,_,hl=>by
  simp only [partsOf,Option.some.injEq] at h;subst h;exact ⟨cs,rfl,hl⟩
 | (i,x)::ps,ls,ls',cs,h,hb,hl=>by
  simp only [partsOf] at h;split at h
  ·rename_i off n ag v hf hx
   obtain ⟨hc,h⟩:=aw h;simp only [Bool.and_eq_true] at hc;have h1:=Nat.eq_of_beq_eq_true hc.1;have h2:=Nat.le_of_ble_eq_true hc.2;have hv:=nQ (cG hs hx) (by omega)
   have ho:off+v.leaves.length≤ls.length:=by rw [h1];exact hb i off n ag hf
   have Jk:=vz hl hv ho;have hcs:cs.length=ls.length:=hl.1
   have hcl:(a.eval x).cells.size=n:=by rw [←h1,← hv.1];simp
   have e:setAt cs off (a.eval x).cells.toList=cs.take off++(a.eval x).cells.toList++cs.drop (off+(a.eval x).cells.toList.length):=mu _ _ _ (by rw [hv.1,hcs];exact ho);obtain ⟨cs',q1,q2⟩:=u9 hs hp ps _ ls' _ h (by rw [mr];exact hb) Jk;refine ⟨cs',?_,q2⟩;simp only [List.map_cons];rw [CO (hp i off n ag hf) hcl (by have:=hb i off n ag hf;simp;omega)];simp only [e];exact q1
  ·cases h
theorem yw {α eK:Type} {g:α→Sem eK} {g':α→eK}:∀ (l:List α),(∀ x∈l,(g x).run P w = .ok (g' x) w)→(l.mapM g).run P w = .ok (l.map g') w
 | [],_=>by simp
 | x::l,h=>by
  have h1:=h x (by simp);have h2:=yw l (fun y hy=>h y (by simp [hy]));simp [List.mapM_cons,h1,h2]
theorem wh {sz:Nat} {ag:Bool}:∀ {n o i off m:Nat} {XW:Bool},(wi sz ag o n)[i]?=some (off,m,XW)→off=o+i*sz∧m=sz∧i<n
 | 0,o,i,off,m,XW,h=>by simp [wi] at h
 | n+1,o,0,off,m,XW,h=>by simp [wi] at h;obtain ⟨rfl,rfl,_⟩:=h;exact ⟨by omega,rfl,by omega⟩
 | n+1,o,i+1,off,m,XW,h=>by
  simp only [wi,List.getElem?_cons_succ] at h;obtain ⟨h1,h2,h3⟩:=wh h;refine ⟨?_,h2,by omega⟩;rw [Nat.add_mul];omega
theorem PV (hX:je P X) (hs:dc X.K w0 nt S β fp a w) (hd:slot dst nt) {t:TypeId} {ps:Array (Nat×Operand)} (h:ev X ⟨dst,.build t ps,ty,pos,dL,gd⟩ S k=some r):Goal P X w0 nt k r Q ⟨dst,.build t ps,ty,pos,dL,gd⟩ a w:=by
 obtain ⟨ps⟩:=ps;simp only [ev] at h;split at h
 ·rename_i fs zs ht
  split at h
  ·rename_i ls hp
   obtain ⟨hb,h⟩:=aw h;obtain ⟨⟨i,h1,h2,h3⟩,fields,hu,hl,hF⟩:=hX.tk _ _ ht
   have hsz:∀ f∈fields.toList,(do pure (f.offset,← sizeOf f.type):Sem (Nat×Nat)).run P w = .ok (f.offset,((P.info? f.type).map (·.size)).getD 0) w:=by
    intro f hf;obtain ⟨j,hj,rfl⟩:=List.getElem_of_mem hf
    have gW:j<fs.length:=by rw [←hl];simpa using hj
    obtain ⟨f',i',q1,q2,q3,q4,_⟩:=hF j (fs[j]).1 (fs[j]).2.1 (fs[j]).2.2 (by simp [gW])
    have:fields.toList[j]=f':=by
     have hj2:j<fields.size:=by simpa using hj
     rw [Array.getElem?_eq_getElem hj2] at q1
     simpa using q1
    rw [this];simp [sizeOf,typeInfo,q3]
   have hm:=yw (P:=P) (w:=w) (g:=fun f=>(do pure (f.offset,← sizeOf f.type):Sem (Nat×Nat))) (g':=fun f=>(f.offset,((P.info? f.type).map (·.size)).getD 0)) fields.toList hsz
   have Wf:∀ (i off n:Nat) (ag:Bool),fs[i]?=some (off,n,ag)→((fields.toList.map fun f=>(f.offset,((P.info? f.type).map (·.size)).getD 0)).toArray)[i]?=some (off,n):=fun j off n ag hj=>by
    obtain ⟨f',i',q1,q2,q3,q4,_⟩:=hF j off n ag hj
    have Pe:fields.toList[j]?=some f':=by simpa using q1
    simp only [List.getElem?_toArray,List.getElem?_map,Pe,Option.map_some,q2,q3,q4,Option.getD_some]
   obtain ⟨cs',q1,q2⟩:=u9 hs (place:=fun i=>((fields.toList.map fun f=>(f.offset,((P.info? f.type).map (·.size)).getD 0)).toArray)[i]?) Wf ps _ ls _ hp
    (fun i off n ag hi=>by
     have:=List.all_eq_true.1 hb (off,n,ag) (List.mem_of_getElem? hi);have:=Nat.le_of_ble_eq_true this
     simpa using this) (uB zs)
   refine bl (v:=.agg cs'.toArray) ?_ (bn hs hd (v:=.agg ls) ⟨cs',rfl,q2⟩ h);simp only [execOp,Instr.build,Sem.run_bind,zeroValue,typeInfo,run_program,h1,h3,Result.andThen_ok,Sem.run_pure,bb hu];rw [Array.mapM_eq_mapM_toList];simp only [Sem.run_bind,Sem.run_map,hm,Result.andThen_ok]
   have:(List.map (fun x:Nat×Operand=>(x.fst,a.eval x.snd)) ps)=(Array.map (fun x:Nat×Operand=>(x.fst,a.eval x.snd)) ps.toArray).toList:=by simp
   rw [←this];simp only [Value.cells];rw [q1];rfl
  ·cases h
 ·rename_i n sz ag zs ht
  split at h
  ·rename_i ls hp
   obtain ⟨⟨i,h1,h2,h3⟩,hz,hp0,e,ie,hu,he,hsz,d,Wp,hd2⟩:=hX.tk _ _ ht
   obtain ⟨cs',q1,q2⟩:=u9 hs (place:=fun i=>some (i*sz,sz)) (fun i off m XW hi=>by
     obtain ⟨e1,e2,e3⟩:=wh hi;simp only [Option.some.injEq,Prod.mk.injEq]
     exact ⟨by omega,e2.symm⟩) ps _ ls _ hp
    (fun i off m XW hi=>by
     obtain ⟨e1,e2,e3⟩:=wh hi;have:(i+1)*sz≤n*sz:=Nat.mul_le_mul_right _ e3;rw [Nat.add_mul] at this;simp only [List.length_map,hz]
     omega) (uB zs)
   refine bl (v:=.agg cs'.toArray) ?_ (bn hs hd (v:=.agg ls) ⟨cs',rfl,q2⟩ h)
   have hsize:(sizeOf e).run P w = .ok sz w:=by simp [sizeOf,typeInfo,he,hsz]
   simp only [execOp,Instr.build,Sem.run_bind,zeroValue,typeInfo,run_program,h1,h3,Result.andThen_ok,Sem.run_pure,bb hu,hsize]
   have:(List.map (fun x:Nat×Operand=>(x.fst,a.eval x.snd)) ps)=(Array.map (fun x:Nat×Operand=>(x.fst,a.eval x.snd)) ps.toArray).toList:=by simp
   rw [←this];simp only [Value.cells];rw [q1];rfl
  ·cases h
 ·cases h
theorem CV (hs:dc X.K w0 nt S β fp a w) {t:Ty}:∀ (ps:List (Nat×Operand)) (n:Nat) (O:cW C) (es:List (C t)) (S':St C) (b:Bool) (cs:List Value),(∀ id ob,lk O id=some ob→lk S.ah id=some ob) →
  elems X t { S with ah:=O } n ps=some (es,S',b)→(n+ps.length)*X.K.sz t≤cs.length →
  S'.env=S.env∧S'.base=S.base∧(∀ id ob,lk S'.ah id=some ob→lk O id=some ob)∧es.length=ps.length ∧
  ∃ cs',Instr.fill (fun i=>some (i*X.K.sz t,X.K.sz t)) ⟨cs⟩ (ps.map fun (x:Nat×Operand)=>(x.1,a.eval x.2))=some ⟨cs'⟩∧cs'.length=cs.length∧(∀ m,m<n*X.K.sz t→cs'[m]?=cs[m]?) ∧
  ∃ G:Nat→Nat→Nat→Prop,(∀ j i k,G j i k→∃ id ob,lk O id=some ob∧lk S'.ah id=none∧fp id k)∧(∀ j i j' i' k,G j i k→G j' i' k→j=j'∧i=i') ∧
   ∀ (j:Nat) (x:C t),es[j]?=some x→∀ (i:Nat) (l:Lf C),(X.K.enc t x)[i]?=some l→(b=false→Own X.K w w0.heap.size (G j i) l (cs'.getD ((n+j)*X.K.sz t+i) undef))∧gT X.K w (fun k=>aH S.ah fp w k∨G j i k) l (cs'.getD ((n+j)*X.K.sz t+i) undef)
 | [],n,O,es,S',b,cs,hO,h,hb=>by
  simp only [elems,Option.some.injEq,Prod.mk.injEq] at h;obtain ⟨rfl,rfl,rfl⟩:=h;exact ⟨rfl,rfl,fun _ _ h=>h,rfl,cs,rfl,rfl,fun _ _=>rfl,fun _ _ _=>False,fun _ _ _ h=>h.elim,fun _ _ _ _ _ h=>h.elim,fun j x h=>by simp at h⟩
 | (i0,x0)::ps,n,O,es,S',b,cs,hO,h,hb=>by
  simp only [elems] at h;split at h
  ·rename_i v hv
   split at h
   ·rename_i ls S1 b1 hab
    split at h
    ·rename_i e Aj
     split at h
     ·rename_i es' S2 b2 hel
      obtain ⟨hi,hk⟩:=aw h;have hi:=Nat.eq_of_beq_eq_true hi;simp only [Option.some.injEq,Prod.mk.injEq] at hk;obtain ⟨rfl,rfl,rfl⟩:=hk;clear h;subst hi
      have hv':dD X.K w S.ah β fp (aH S.ah fp w) v (a.eval x0):=dM hs (T:=X.K.tid t) (x:=x0) (by
       have:gb X { S with ah:=O } (X.K.tid t) x0=gb X S (X.K.tid t) x0:=by
        unfold gb;split
        ·rfl
        ·cases x0<;>rfl
       rw [←this];exact hv)
      have henc:=X.K.js t _ _ Aj
      have hls:ls.length=X.K.sz t:=by rw [←henc,X.K.gA]
      have hlv:0<v.leaves.length:=by
       rcases Nat.eq_zero_or_pos v.leaves.length with h0 | h0
       ·have:v.leaves=[]:=List.eq_nil_of_length_eq_zero h0
        rw [this] at hab;simp only [di,Option.some.injEq,Prod.mk.injEq] at hab;rw [←hab.1] at hls;have:=X.K.pos t;simp at hls;omega
       ·exact h0
      have hc:=nQ hv' hlv;obtain ⟨g1,XQ,g2,g3,G,g4,g5,g6⟩:=o9 hs v.leaves (a.eval x0).cells.toList O ls S1 b1 hO hab hc
      have hcl:(a.eval x0).cells.size=X.K.sz t:=by
       have:=hc.1;simp only [Array.length_toList] at this;rw [this,← g3,hls]
      have Jm:S1={ S with ah:=S1.ah }:=by
       obtain ⟨e1,o1,b1⟩:=S1;rw [St.mk.injEq];exact ⟨g1,rfl,XQ⟩
      rw [Jm] at hel
      have hfit:i0*X.K.sz t+X.K.sz t≤cs.length:=by
       rw [←Nat.succ_mul];refine Nat.le_trans (Nat.mul_le_mul_right _ ?_) hb;simp only [List.length_cons];omega
      have Hu:i0*X.K.sz t+(a.eval x0).cells.toList.length≤cs.length:=by simpa [hcl] using hfit
      obtain ⟨q1,Pe,q2,q3,cs',q4,q5,q6,G',q7,q8,q9⟩:=CV hs ps (i0+1) S1.ah es' S2 b2 (setAt cs (i0*X.K.sz t) (a.eval x0).cells.toList) (fun id ob h=>hO id ob (g2 id ob h)) hel (by rw [mr];refine Nat.le_trans (Nat.mul_le_mul_right _ ?_) hb;simp;omega);refine ⟨q1,Pe,fun id ob h=>g2 id ob (q2 id ob h),by simp [q3],cs',?_,by rw [q5,mr],fun m hm=>?_,fun j i k=>match j with | 0=>G i k | j+1=>G' j i k,fun j i k hk=>?_,fun j i j' i' k hk hk'=>?_,fun j x hx i l hl=>?_⟩
      ·simp only [List.map_cons]
       rw [CO (off:=i0*X.K.sz t) (n:=X.K.sz t) rfl hcl (by simpa using hfit)];exact q4
      ·rw [q6 m (by rw [Nat.succ_mul];omega),mu _ _ _ Hu,fP Hu,if_pos hm]
      ·cases j with
       | zero=>
        obtain ⟨id,ob,h1,h2,h3⟩:=g4 i k hk;refine ⟨id,ob,h1,?_,h3⟩
        cases e2:lk S2.ah id with
        | none=>rfl
        | some dY=>have:=q2 id dY e2;rw [h2] at this;cases this
       | succ j=>
        obtain ⟨id,ob,h1,h2,h3⟩:=q7 j i k hk;exact ⟨id,ob,g2 id ob h1,h2,h3⟩
      ·have C1:∀ i j' i' k,G i k→G' j' i' k→False:=fun i j' i' k hk hk'=>by
        obtain ⟨id,ob,h1,h2,h3⟩:=g4 i k hk;obtain ⟨gM,dY,lZ,xj,Pm⟩:=q7 j' i' k hk';have:=hs.eM id gM ob dY k (hO _ _ h1) (hO _ _ (g2 _ _ lZ)) h3 Pm;subst this;rw [lZ] at h2;cases h2
       cases j with
       | zero=>cases j' with
        | zero=>exact ⟨rfl,g5 _ _ k hk hk'⟩
        | succ j'=>exact (C1 _ _ _ k hk hk').elim
       | succ j=>cases j' with
        | zero=>exact (C1 _ _ _ k hk' hk).elim
        | succ j'=>have:=q8 _ _ _ _ k hk hk';exact ⟨by rw [this.1],this.2⟩
      ·cases j with
       | zero=>
        simp at hx;subst hx;have hil:=iG hl
        have hcell:cs'.getD ((i0+0)*X.K.sz t+i) undef=(a.eval x0).cells.toList.getD i undef:=by
         rw [List.getD_eq_getElem?_getD,List.getD_eq_getElem?_getD,q6 _ (by rw [Nat.succ_mul];simp;omega),mu _ _ _ Hu,fP Hu,if_neg (by simp),if_pos (by simp [hcl];omega)]
         congr 2
         simp
        rw [hcell];have:=g6 i l (by rw [←henc];exact hl);exact ⟨fun hb=>this.1 (by cases b1<;>simp at hb ⊢),this.2⟩
       | succ j=>
        have hx:es'[j]?=some x:=by simpa using hx
        have:=q9 j x hx i l hl
        have e:i0+1+j=i0+(j+1):=by omega
        rw [e] at this;exact ⟨fun hb=>this.1 (by cases b2<;>simp at hb ⊢),this.2⟩
     ·cases h
    ·cases h
   ·cases h
  ·cases h
theorem yO {t:Ty}:∀ {ps:List (Nat×Operand)} {n:Nat} {S:St C} {es:List (C t)} {S':St C} {b:Bool},elems X t S n ps=some (es,S',b)→es.length=ps.length
 | [],n,S,es,S',b,h=>by simp only [elems,Option.some.injEq,Prod.mk.injEq] at h;rw [←h.1];rfl
 | (i,x)::ps,n,S,es,S',b,h=>by
  simp only [elems] at h;split at h
  ·split at h
   ·split at h
    ·split at h
     ·rename_i hel
      obtain ⟨_,h⟩:=aw h;simp only [Option.some.injEq,Prod.mk.injEq] at h;rw [←h.1];simp [yO hel]
     ·cases h
    ·cases h
   ·cases h
  ·cases h
theorem zL (hX:je P X) (hs:dc X.K w0 nt S β fp a w) (hd:slot dst nt) {t:TypeId} {n:Nat} {ps:Array (Nat×Operand)} (h:ev X ⟨dst,.buildSlice t n ps,ty,pos,dL,gd⟩ S k=some r):Goal P X w0 nt k r Q ⟨dst,.buildSlice t n ps,ty,pos,dL,gd⟩ a w:=by
 obtain ⟨ps⟩:=ps;simp only [ev] at h;split at h
 ·rename_i t1 ht
  split at h
  ·rename_i es S' b hel
   obtain ⟨hc,h⟩:=aw h;simp only [Bool.and_eq_true] at hc;have hlen:=Nat.eq_of_beq_eq_true hc.1;have hroom:=Nat.le_of_ble_eq_true hc.2;split at h
   ·rename_i A9 gu
    obtain ⟨hn,rfl⟩:=jv gu;obtain ⟨i,z,hi,hsz,hby,hpos,hz,hzs,Pj⟩:=hX.el t1
    let zs:List Value:=(madeCells z.cells (n*X.K.sz t1)).toList
    have hzs':zs.length=n*X.K.sz t1:=by simp [zs,madeCells]
    have hps0:n=ps.length:=by rw [←hlen];exact yO hel
    obtain ⟨q1,Pe,q2,q3,cs',q4,q5,q6,G,q7,q8,q9⟩:=CV hs ps 0 S.ah es S' b zs (fun _ _ h=>h) hel (by rw [hzs',hps0];simp)
    have hrun:(execOp a.eval ⟨dst,.buildSlice t n ps.toArray,ty,pos,dL,gd⟩).run P w = .ok (.value (.slice (some ⟨w.heap.size,0,none⟩) n n)) (w.alloc (.cells cs'.toArray (X.K.tid t1))):=by
     have hmap:(Array.map (fun x:Nat×Operand=>(x.fst,a.eval x.snd)) ps.toArray).toList=ps.map fun x=>(x.1,a.eval x.2):=by simp
     simp only [execOp,Instr.buildSlice,Sem.run_bind,bb (hX.tk _ _ ht).dR,(hX.el t1).size,Result.andThen_ok,Sem.run_pure];rw [if_neg (by omega)]
     by_cases h0:n*X.K.sz t1=0
     ·rw [if_pos h0]
      have V5:(Array.range (n*X.K.sz t1)).map ((#[]:Array Value)[· % (#[]:Array Value).size]!)=zs.toArray:=by simp [h0,zs,madeCells]
      simp only [Sem.run_bind,Sem.run_pure,Result.andThen_ok,hmap];rw [V5,q4];simp [newRow]
     ·rw [if_neg h0]
      have V5:(Array.range (n*X.K.sz t1)).map (z.cells[· % z.cells.size]!)=zs.toArray:=by
       show madeCells z.cells (n*X.K.sz t1)=_;simp [zs]
      have hz2:(zeroValue (X.K.tid t1)).run P w = .ok z w:=by simp [zeroValue,typeInfo,hi,hz]
      simp only [Sem.run_bind,hz2,Sem.run_pure,Result.andThen_ok,hmap];rw [V5,q4];simp [newRow]
    have hO:=q2
    have hnl:∀ k,aH S.ah fp w k→¬ jc S fp S'.ah k:=fun k hk ⟨j,ob,h1,_,h3⟩=>hk.2 j ob h1 h3
    have hle:∀ k,jc S fp S'.ah k→k<w.heap.size:=fun k ⟨j,ob,h1,_,h3⟩=>(hs.fresh j ob k h1 h3).2
    have MC:cs'.length=n*X.K.sz t1:=by rw [q5,hzs']
    have hsz0:=hs.below.size
    let w':=w.alloc (.cells cs'.toArray (X.K.tid t1))
    have hwk:∀ k,k<w.heap.size→w'.heap[k]?=w.heap[k]?:=fun k hk=>Below.heap_alloc w _ k hk
    have hw:Below w0.heap.size w w':=(Below.refl _ _).alloc hsz0 _
    have hsize:w'.heap.size=w.heap.size+1:=by simp [w']
    have hcr:(List.range (es.length*X.K.sz t1)).map (fun m=>cs'.getD m undef)=cs':=by
     apply List.ext_getElem?;intro m;rw [hlen]
     by_cases hm:m<n*X.K.sz t1
     ·simp [hm,List.getD,MC]
     ·simp [hm,MC]
    have hown:w'.ownsRow w0.heap.size (X.K.tid t1) (X.K.sz t1) (.slice (some ⟨w.heap.size,0,none⟩) n n) (([]:List (C t1)).length+es.length) ([]++(List.range (es.length*X.K.sz t1)).map (fun m=>cs'.getD m undef)):=by
     rw [hcr]
     refine ⟨by simp [MC,hlen],.inr ⟨w.heap.size,n,cs'.toArray,by simp [hlen],hsz0,heap_alloc_new w _,by simp [hlen],by simp only [maxLen];have:=Nat.le_mul_of_pos_right n (X.K.pos t1);omega,by simp [MC],by
      simp only [List.length_nil,Nat.zero_add,hlen,List.nil_append]
      exact List.take_of_length_le (by simp [MC])⟩⟩
    let sh:=cond (X.K.flat t1) false b
    let F:Nat→Prop:=cond sh (fun g=>(Value.slice (some ⟨w.heap.size,0,none⟩) n n).ownBlock=some g) (fun k=>(Value.slice (some ⟨w.heap.size,0,none⟩) n n).ownBlock=some k∨False∨jc S fp S'.ah k)
    have XN:∀ g,(Value.slice (some ⟨w.heap.size,0,none⟩) n n).ownBlock=some g→g=w.heap.size:=fun g hg=>by simp [Value.ownBlock] at hg;exact hg.symm
    have hF:∀ k,F k→jc S fp S'.ah k∨(w.heap.size≤k∧k<w'.heap.size):=fun k hk=>by
     cases e:sh with
     | true=>simp only [F,e,cond_true] at hk;have:=XN k hk;exact .inr ⟨by omega,by omega⟩
     | false=>
      simp only [F,e,cond_false] at hk
      rcases hk with h | h | h
      ·have:=XN k h;exact .inr ⟨by omega,by omega⟩
      ·exact h.elim
      ·exact .inl h
    have hst:=fun k hk=>rK hs hO (w':=w') (by omega) (fun k hk _=>hwk k hk) (id:=cg X S ⟨dst,.buildSlice t n ps.toArray,ty,pos,dL,gd⟩) (ob:=.row t1 es sh) (F:=F) (fun k hk=>(hF k hk).imp (fun h=>h) fun h=>h.1) (k:=k) hk
    have fO:=Nt (K:=X.K) (w:=w) (β:=upd β (cg X S ⟨dst,.buildSlice t n ps.toArray,ty,pos,dL,gd⟩) (.slice (some ⟨w.heap.size,0,none⟩) n n)) (fp:=upd fp (cg X S ⟨dst,.buildSlice t n ps.toArray,ty,pos,dL,gd⟩) F)
     (ah:=(cg X S ⟨dst,.buildSlice t n ps.toArray,ty,pos,dL,gd⟩,.row t1 es sh)::S'.ah) (eH:=aH ((cg X S ⟨dst,.buildSlice t n ps.toArray,ty,pos,dL,gd⟩,.row t1 es sh)::S'.ah) (upd fp (cg X S ⟨dst,.buildSlice t n ps.toArray,ty,pos,dL,gd⟩) F) w')
     (xs:=[]) (ys:=es) (kW:=none) (IZ:=none) (gq:=false) (nL:=b) (sh:=sh) (D0:=fun _=>False) (D1:=jc S fp S'.ah) (cM:=aH S.ah fp w) (cs:=[])
     o5 (f:=fun m=>cs'.getD m undef) ⟨G,fun j i k hk=>⟨q7 j i k hk,by simp⟩,q8,fun j x hx i l hl=>by have:=q9 j x hx i l hl;simpa using this⟩ (fun k h=>h.elim) (by simp) hown
     (fun g hg=>⟨.inr fun h=>h,fun h=>by have:=XN g hg;have:=hle g h;omega⟩) (fun k hk _=>hwk k (by rcases hk with h | h | h;exact h.elim;exact hle k h;exact h.1)) (fun k _=>by simp) (by simp [sh]) (fun k hk=>(hst k hk).1)
     (fun k hs1 hk Wk _=>by
      have hk':jc S fp S'.ah k:=hk.elim (fun h=>h.elim) id;refine ⟨by have:=hle k hk';omega,fun j dY hj=>?_⟩;rw [aN] at hj
      by_cases e:j=cg X S ⟨dst,.buildSlice t n ps.toArray,ty,pos,dL,gd⟩
      ·rw [e,cZ]
       show ¬ (cond sh (fun g=>(Value.slice (some ⟨w.heap.size,0,none⟩) n n).ownBlock=some g) (fun k=>(Value.slice (some ⟨w.heap.size,0,none⟩) n n).ownBlock=some k∨False∨jc S fp S'.ah k)) k;have We:sh=true:=hs1;rw [We];exact Wk
      ·rw [if_neg e] at hj
       rw [dE _ _ e];intro QL
       exact n9 hs hO hj QL hk') (fun g hg=>by cases hg)
    have h2:=hs.KR hO hw (fun k hk _=>hwk k hk) (id:=cg X S ⟨dst,.buildSlice t n ps.toArray,ty,pos,dL,gd⟩) (by
     have:=hn;unfold fJ at this;rw [q1] at this
     exact this) (ob:=.row t1 es sh) (hv:=.slice (some ⟨w.heap.size,0,none⟩) n n) (F:=F) hF fO S'.base
    have hSe:(⟨S.env,(cg X S ⟨dst,.buildSlice t n ps.toArray,ty,pos,dL,gd⟩,.row t1 es sh)::S'.ah,S'.base⟩:St C)=S'.setObj (cg X S ⟨dst,.buildSlice t n ps.toArray,ty,pos,dL,gd⟩) (.row t1 es sh):=by
     unfold St.setObj;rw [←q1]
    rw [hSe] at h2;exact bl hrun (bn h2 hd (v:=.one (.ref _ [])) ⟨rfl,(cZ _ _ _).symm⟩ h)
   ·cases h
  ·cases h
 ·cases h
end
section
variable {Ty:Type} [DecidableEq Ty] {C:Ty→Type}
variable {P:Program} {X:Cx C} {w0 w:World} {nt:Nat} {S:St C} {β:Nat→Value} {fp:Nat→Nat→Prop} {a:Act} {R:Type} {k:St C→Option R} {r:R}
variable {dst:Option Tmp} {ty:TypeId} {pos:String} {dL:Array Edge} {gd:Option (Nat×Bool)} {Q:Exit→Act→World→Prop}
def wL (K:Cd C) (w:World) (F:Nat→Prop):SV C→Value→Prop
 | .one (.nH t x o),u=>∃ (a:Addr) (U:Nat→Value),u = .pointer (some (a.add o))∧F a.block∧(∀ i,i<K.sz t→w.cell? (a.add i)=some (U i))∧∀ i l,(K.enc t x)[i]?=some l→gT K w F l (U i)
 | .one l,u=>l.plain=true∧gT K w F l u
 | .agg ls,u=>∃ us:List Value,u = .agg us.toArray∧us.length=ls.length∧∀ (i:Nat) (l:Lf C),ls[i]?=some l→gT K w F l (us.getD i undef)
 | _,_=>False
def lJ:Bool×List (Lf C)→List Value→Value
 | (true,_),us=>.agg us.toArray
 | (false,_),us=>us.headD undef
def dC:List (Bool×List (Lf C))→List Value→List Value
 | [],_=>[]
 | x::r,us=>lJ x (us.take x.2.length)::dC r (us.drop x.2.length)
def pack (rs:List (Bool×List (Lf C))) (us:List Value):Value:=match dC rs us with
 | [v]=>v
 | vs=>.tuple vs.toArray
def fF:List (Bool×List (Lf C))→Bool
 | []=>true
 | (b,ls)::r=>(b||Nat.beq ls.length 1)&&fF r
def H3 (K:Cd C) (w w':World) (rs:List (Bool×List (Lf C))) (v:Value):Prop:=
 ∃ (us:List Value) (G:Nat→Nat→Prop),v=pack rs us∧us.length=(flatten rs).length∧fF rs=true ∧
  (∀ m k,G m k→w.heap.size≤k∧k<w'.heap.size)∧(∀ m m' k,G m k→G m' k→m=m') ∧
  ∀ (m:Nat) (l:Lf C),(flatten rs)[m]?=some l→Own K w' w.heap.size (G m) l (us.getD m undef)
def dm (P:Program) (K:Cd C) (f:Nat) (c:iK C):Prop:=
 (∃ fn,P.funcs[f]?=some fn∧fn.body.isNone=false∧fn.name ≠ "runtime.NumGoroutine") ∧
 ∀ (w:World) (vs:List (SV C)) (us:List Value) (r0:c.R0),K.inv w→us.length=vs.length→(∀ (i:Nat) (v:SV C),vs[i]?=some v→wL K w (fun k=>k<w.heap.size) v (us.getD i undef))→c.g vs=some r0 →
  Calls P f us.toArray w fun e w'=>∃ v,e = .returned v∧Below w.heap.size w w'∧H3 K w w' (c.ret r0) v∧(c.nz=true→∀ t,c.ret r0=[(false,[.row t []])]→v = .slice none 0 0)
theorem BC (hs:dc X.K w0 nt S β fp a w) {id:Nat} {t:Ty} {xs:List (C t)} {sh:Bool} (ho:lk S.ah id=some (.row t xs sh)):gT X.K w (fun k=>k<w.heap.size) (.row t xs) (β id):=by
 have fO:=hs.ah id _ ho
 cases sh with
 | false=>exact (Own.rep fO).mono fun k hk=>(hs.fresh id _ k ho hk).2
 | true=>
  obtain ⟨cells,h1,h2,h3⟩:=fO
  by_cases hx:xs=[]
  ·subst hx
   obtain ⟨A,c,e,_⟩:=fC h1;rw [e];exact .row t [] A c default (fun _=>undef) (Nat.zero_le _) (fun h=>absurd rfl h) (fun h=>absurd rfl h) (fun j hj=>absurd hj (by simp))
  ·obtain ⟨g,cap,e,hb,hn,hcell⟩:=j8 h1 (Nat.mul_pos (List.length_pos_iff.2 hx) (X.K.pos t))
   rw [e]
   refine .row t xs _ cap ⟨g,0,none⟩ (fun m=>cells.getD m undef) hn (fun _=>⟨rfl,(hs.fresh id _ g ho ((h2 g).2 (by rw [e];rfl))).2⟩) (fun _=>hcell) fun j hj i l hl=>?_
   exact (h3 j xs[j] (by simp [hj]) i l hl).mono fun k hk=>hk.1
theorem uE (hs:dc X.K w0 nt S β fp a w) {l l':Lf C} {v:Value} (h:iC S l=some l') (hl:db X.K w S.ah β fp (aH S.ah fp w) l v):l'.plain=true∧gT X.K w (fun k=>k<w.heap.size) l' v:=by
 cases l with
 | ref id p=>
  cases p with
  | cons s p=>simp [iC] at h
  | nil=>
   simp only [iC] at h;split at h
   ·rename_i t xs sh ho
    cases h;refine ⟨rfl,?_⟩;have e:v=β id:=hl.2;subst e;exact BC hs ho
   ·cases h
 | sub id lo hi=>
  simp only [iC] at h;split at h
  ·rename_i t xs sh ho
   cases h;exact ⟨rfl,qp (BC hs ho) (hl.2 t xs sh ho)⟩
  ·cases h
 | nil t=>
  simp only [iC] at h;cases h;have e:v = .slice none 0 0:=hl;subst e;exact ⟨rfl,.row t [] none 0 default (fun _=>undef) (Nat.zero_le _) (fun h=>absurd rfl h) (fun h=>absurd rfl h) (fun j hj=>absurd hj (by simp))⟩
 | row t xs=>
  simp only [iC] at h;cases h;exact ⟨rfl,gT.mono hl fun k hk=>hk.1⟩
 | int ki n=>simp only [iC] at h;cases h;have e:v=_:=hl;subst e;exact ⟨rfl,.int ..⟩
 | bool b=>simp only [iC] at h;cases h;have e:v=_:=hl;subst e;exact ⟨rfl,.bool ..⟩
 | str s=>simp only [iC] at h;cases h;have e:v=_:=hl;subst e;exact ⟨rfl,.str ..⟩
 | bP s=>simp only [iC] at h;cases h;have e:v=_:=hl;subst e;exact ⟨rfl,.bP ..⟩
 | _=>simp [iC] at h
theorem xA (hs:dc X.K w0 nt S β fp a w):∀ {ls ls':List (Lf C)} {vs:List Value},nP S ls=some ls'→cT X.K w S.ah β fp (aH S.ah fp w) ls vs →
  ls'.length=ls.length∧∀ (i:Nat) (l:Lf C),ls'[i]?=some l→gT X.K w (fun k=>k<w.heap.size) l (vs.getD i undef)
 | [],ls',vs,h,hl=>by simp only [nP,Option.some.injEq] at h;subst h;exact ⟨rfl,fun i l h=>by simp at h⟩
 | l::ls,ls',vs,h,hl=>by
  simp only [nP] at h;split at h
  ·rename_i l1 h1
   split at h
   ·rename_i r' h2
    cases h
    obtain ⟨u,us,rfl⟩:∃ u us,vs=u::us:=by
     cases vs with
     | nil=>have:=hl.1;simp at this
     | cons u us=>exact ⟨u,us,rfl⟩
    have hl1:cT X.K w S.ah β fp (aH S.ah fp w) ls us:=⟨by have:=hl.1;simpa using this,fun i l' hi=>hl.2 (i+1) l' (by simpa using hi)⟩;have ih:=xA hs h2 hl1;refine ⟨by simp [ih.1],fun i l' hi=>?_⟩
    cases i with
    | zero=>simp at hi;subst hi;exact (uE hs h1 (hl.2 0 l rfl)).2
    | succ i=>exact ih.2 i l' (by simpa using hi)
   ·cases h
  ·cases h
theorem J8 (hs:dc X.K w0 nt S β fp a w) {v v':SV C} {u:Value} (h:nA S v=some v') (hv:dD X.K w S.ah β fp (aH S.ah fp w) v u):wL X.K w (fun k=>k<w.heap.size) v' u:=by
 cases v with
 | one l=>
  simp only [nA] at h;split at h
  ·rename_i l' hl
   cases h;have:=uE hs hl hv
   cases l'<;>first | exact this | cases this.1
  ·cases h
 | agg ls=>
  simp only [nA] at h;split at h
  ·rename_i ls' hl
   cases h;obtain ⟨vs,rfl,hv⟩:=hv;obtain ⟨h1,h2⟩:=xA hs hl hv;exact ⟨vs,rfl,by rw [hv.1,h1],h2⟩
  ·cases h
 | _=>simp [nA] at h
theorem ru (hs:dc X.K w0 nt S β fp a w):∀ {xs:List Operand} {ts:List TypeId} {vs:List (SV C)},fg X S xs ts=some vs→vs.length=xs.length∧∀ (i:Nat) (v:SV C),vs[i]?=some v→dD X.K w S.ah β fp (aH S.ah fp w) v ((xs.map a.eval).getD i undef)
 | [],ts,vs,h=>by
  simp only [fg,Option.some.injEq] at h;subst h;exact ⟨rfl,fun i v h=>by simp at h⟩
 | x::xs,ts,vs,h=>by
  simp only [fg] at h;split at h
  ·rename_i l hv
   split at h
   ·rename_i vs' hr
    cases h;obtain ⟨h1,h2⟩:=ru hs hr;refine ⟨by simp [h1],fun i v hi=>?_⟩
    cases i with
    | zero=>simp at hi;subst hi;exact dM hs hv
    | succ i=>simpa using h2 i v (by simpa using hi)
   ·cases h
  ·rename_i ls hv
   split at h
   ·rename_i vs' hr
    cases h;obtain ⟨h1,h2⟩:=ru hs hr;refine ⟨by simp [h1],fun i v hi=>?_⟩
    cases i with
    | zero=>simp at hi;subst hi;exact dM hs hv
    | succ i=>simpa using h2 i v (by simpa using hi)
   ·cases h
  ·cases h
theorem Da {w:World} {p:Addr} {u:Value} (h:w.cell? p=some u):p.block<w.heap.size:=by
 unfold World.cell? at h
 cases e:w.heap[p.block]? with
 | none=>rw [e] at h;cases h
 | some o=>exact (Array.getElem?_eq_some_iff.1 e).1
theorem gT.lt {K:Cd C} {F:Nat→Prop} {l:Lf C} {v:Value} (h:gT K w F l v):gT K w (fun k=>k<w.heap.size) l v:=by
 induction h with
 | int=>exact .int ..
 | bool=>exact .bool ..
 | str=>exact .str ..
 | bP=>exact .bP ..
 | row t xs A c p U hc hA hcell m4 ih=>
  refine .row t xs A c p U hc (fun hx=>⟨(hA hx).1,?_⟩) hcell ih;have:=Da (hcell hx 0 (Nat.mul_pos (List.length_pos_iff.2 hx) (K.pos t)))
  rwa [mL] at this
theorem Il (hs:dc X.K w0 nt S β fp a w) {l l':Lf C} {v:Value} (h:jZ X S l=some l') (hl:db X.K w S.ah β fp (aH S.ah fp w) l v):l'.plain=true∧gT X.K w (fun k=>k<w.heap.size) l' v:=by
 unfold jZ at h;split at h
 ·obtain ⟨t,xs,F,h1,h2⟩:=Gu hs hl h
  cases h1;exact ⟨rfl,h2.lt⟩
 ·exact uE hs h hl
theorem uG (hs:dc X.K w0 nt S β fp a w):∀ {ls ls':List (Lf C)} ,gy X S ls=some ls'→ls'.length=ls.length ∧
  ∀ (i:Nat) (l':Lf C),ls'[i]?=some l'→∃ l,ls[i]?=some l∧∀ v,db X.K w S.ah β fp (aH S.ah fp w) l v→gT X.K w (fun k=>k<w.heap.size) l' v
 | [],ls',h=>by simp only [gy,Option.some.injEq] at h;subst h;exact ⟨rfl,fun i l h=>by simp at h⟩
 | l::ls,ls',h=>by
  simp only [gy] at h;split at h
  ·rename_i l1 h1
   split at h
   ·rename_i r' h2
    cases h;obtain ⟨q1,q2⟩:=uG hs h2;refine ⟨by simp [q1],fun i l' hi=>?_⟩
    cases i with
    | zero=>simp at hi;subst hi;exact ⟨l,rfl,fun v hv=>(Il hs h1 hv).2⟩
    | succ i=>exact q2 i l' (by simpa using hi)
   ·cases h
  ·cases h
theorem Ka (hs:dc X.K w0 nt S β fp a w) {pt:Option Ty} {v v':SV C} {u:Value} (h:nB X S pt v=some v') (hv:dD X.K w S.ah β fp (aH S.ah fp w) v u):wL X.K w (fun k=>k<w.heap.size) v' u:=by
 unfold nB at h;split at h
 ·exact J8 hs h hv
 ·rename_i t l
  obtain ⟨ls,p,h,rfl,hc⟩:=rk hs hv h;split at h
  ·rename_i ls' hls
   split at h
   ·rename_i x hx
    cases h;obtain ⟨q1,q2⟩:=uG hs hls;have henc:=X.K.js _ _ _ hx
    have hlen:ls'.length=X.K.sz t:=by rw [←henc,X.K.gA]
    have hle:X.K.sz t≤ls.length:=by simp at q1;omega
    have hcell:∀ i,i<X.K.sz t→∃ l' u,ls[i]?=some l'∧w.cell? (p.add i)=some u∧db X.K w S.ah β fp (aH S.ah fp w) l' u:=fun i hi=>by
     have e:ls[i]?=some (ls[i]'(by omega)):=by simp
     obtain ⟨u,h1,h2⟩:=hc i _ e;exact ⟨_,u,e,h1,h2⟩
    have hz:p.add 0=p:=rfl;refine ⟨p,fun i=>(w.cell? (p.add i)).getD undef,rfl,?_,fun i hi=>?_,fun i l hl=>?_⟩
    ·obtain ⟨_,u,_,h1,_⟩:=hcell 0 (X.K.pos t)
     exact Da (p:=p) h1
    ·obtain ⟨_,u,_,h1,_⟩:=hcell i hi
     simp only [h1];rfl
    ·rw [henc] at hl
     have hi:i<X.K.sz t:=by have:=eD hl;omega
     obtain ⟨l1,e1,e2⟩:=q2 i l hl;obtain ⟨l2,u,e3,h1,h2⟩:=hcell i hi;rw [List.getElem?_take,if_pos hi,e3] at e1;cases e1;simp only [h1];exact e2 _ h2
   ·cases h
  ·cases h
 ·cases h
theorem Bi (hs:dc X.K w0 nt S β fp a w):∀ {vs:List (SV C)} {pt:List (Option Ty)} {vs':List (SV C)} {us:List Value},views X S pt vs=some vs'→us.length=vs.length →
  (∀ (i:Nat) (v:SV C),vs[i]?=some v→dD X.K w S.ah β fp (aH S.ah fp w) v (us.getD i undef)) →
  us.length=vs'.length∧∀ (i:Nat) (v:SV C),vs'[i]?=some v→wL X.K w (fun k=>k<w.heap.size) v (us.getD i undef)
 | [],pt,vs',us,h,hl,hv=>by simp only [views,Option.some.injEq] at h;subst h;exact ⟨hl,fun i v h=>by simp at h⟩
 | v::vs,pt,vs',us,h,hl,hv=>by
  simp only [views] at h;split at h
  ·rename_i v1 h1
   split at h
   ·rename_i r' h2
    cases h
    obtain ⟨u,us,rfl⟩:∃ u mM,us=u::mM:=by
     cases us with
     | nil=>simp at hl
     | cons u us=>exact ⟨u,us,rfl⟩
    obtain ⟨q1,q2⟩:=Bi hs h2 (us:=us) (by simpa using hl) (fun i v hi=>hv (i+1) v (by simpa using hi));refine ⟨by simp [q1],fun i v' hi=>?_⟩
    cases i with
    | zero=>simp at hi;subst hi;exact Ka hs h1 (hv 0 v rfl)
    | succ i=>exact q2 i v' (by simpa using hi)
   ·cases h
  ·cases h
def gp (K:Cd C) (w:World) (ah:cW C) (β:Nat→Value) (fp:Nat→Nat→Prop) (cM:Nat→Prop) (vs:List (SV C)) (us:List Value):Prop:=
 us.length=vs.length∧∀ (i:Nat) (v:SV C),vs[i]?=some v→dD K w ah β fp cM v (us.getD i undef)
theorem gp.nil {K:Cd C} {ah:cW C} {cM:Nat→Prop}:gp K w ah β fp cM [] []:=⟨rfl,fun i v h=>by simp at h⟩
theorem gp.append {K:Cd C} {ah:cW C} {cM:Nat→Prop} {vs vs':List (SV C)} {us mM:List Value} (h:gp K w ah β fp cM vs us) (h':gp K w ah β fp cM vs' mM):gp K w ah β fp cM (vs++vs') (us++mM):=by
 refine ⟨by simp [h.1,h'.1],fun i v hi=>?_⟩
 have e:(us++mM).getD i undef=if i<us.length then us.getD i undef else mM.getD (i-us.length) undef:=by
  simp only [List.getD_eq_getElem?_getD,List.getElem?_append];split<;>rfl
 rw [List.getElem?_append] at hi;rw [e,h.1];split at hi
 ·rename_i hlt;rw [if_pos hlt];exact h.2 i v hi
 ·rename_i hlt;rw [if_neg hlt];exact h'.2 _ v hi
theorem gp.take {K:Cd C} {ah:cW C} {cM:Nat→Prop} {vs:List (SV C)} {us:List Value} (h:gp K w ah β fp cM vs us) (n:Nat):gp K w ah β fp cM (vs.take n) (us.take n):=by
 refine ⟨by simp [h.1],fun i v hi=>?_⟩
 have hlt:i<n:=by
  rcases Nat.lt_or_ge i n with hn | hn
  ·exact hn
  ·rw [List.getElem?_take,if_neg (by omega)] at hi;cases hi
 rw [List.getElem?_take,if_pos hlt] at hi
 have e:(us.take n).getD i undef=us.getD i undef:=by simp only [List.getD_eq_getElem?_getD,List.getElem?_take,if_pos hlt]
 rw [e];exact h.2 i v hi
theorem gp.drop {K:Cd C} {ah:cW C} {cM:Nat→Prop} {vs:List (SV C)} {us:List Value} (h:gp K w ah β fp cM vs us) (n:Nat):gp K w ah β fp cM (vs.drop n) (us.drop n):=by
 refine ⟨by simp [h.1],fun i v hi=>?_⟩;rw [List.getElem?_drop] at hi
 have e:(us.drop n).getD i undef=us.getD (n+i) undef:=by simp only [List.getD_eq_getElem?_getD,List.getElem?_drop]
 rw [e];exact h.2 _ v hi
theorem zz {K:Cd C} {ah:cW C} {cM:Nat→Prop}:∀ {sh:List (Bool×Nat)} {ls:List (Lf C)} {us:List Value},Ku sh ls.length=true→cT K w ah β fp cM ls us→gp K w ah β fp cM (rI sh ls) (jE sh us)
 | [],ls,us,h,hl=>⟨rfl,fun i v h=>by simp [rI] at h⟩
 | (b,n)::sh,ls,us,h,hl=>by
  simp only [Ku,Bool.and_eq_true,Bool.or_eq_true] at h;obtain ⟨⟨h1,h2⟩,h3⟩:=h;have h2:=Nat.le_of_ble_eq_true h2
  have hd:cT K w ah β fp cM (ls.drop n) (us.drop n):=⟨by simp [hl.1],fun i l hi=>by
   rw [List.getElem?_drop] at hi
   have e:(us.drop n).getD i undef=us.getD (n+i) undef:=by simp only [List.getD_eq_getElem?_getD,List.getElem?_drop]
   rw [e]
   exact hl.2 _ l hi⟩
  have ih:=zz (sh:=sh) (ls:=ls.drop n) (us:=us.drop n) (by simpa using h3) hd;refine ⟨by simp [rI,jE,ih.1],fun i v hi=>?_⟩
  cases i with
  | succ i=>simpa [jE] using ih.2 i v (by simpa [rI] using hi)
  | zero=>
   simp only [rI,List.getElem?_cons_zero,Option.some.injEq] at hi;subst hi
   cases b with
   | true=>
    refine ⟨us.take n,rfl,by simp [hl.1],fun i l hi=>?_⟩
    have hlt:i<n:=by
     rcases Nat.lt_or_ge i n with hn | hn
     ·exact hn
     ·rw [List.getElem?_take,if_neg (by omega)] at hi;cases hi
    rw [List.getElem?_take,if_pos hlt] at hi
    have e:(us.take n).getD i undef=us.getD i undef:=by simp only [List.getD_eq_getElem?_getD,List.getElem?_take,if_pos hlt]
    rw [e];exact hl.2 i l hi
   | false=>
    have hn:n=1:=by
     rcases h1 with h1 | h1
     ·cases h1
     ·exact Nat.eq_of_beq_eq_true h1
    subst hn
    cases ls with
    | nil=>simp at h2
    | cons l ls=>cases us with
     | nil=>have:=hl.1;simp at this
     | cons u us=>exact hl.2 0 l rfl
theorem oF (hs:dc X.K w0 nt S β fp a w) {xs:List Operand} {ts:List TypeId} {vs:List (SV C)} (h:fg X S xs ts=some vs):gp X.K w S.ah β fp (aH S.ah fp w) vs (xs.map a.eval):=by
 obtain ⟨h1,h2⟩:=ru hs h;exact ⟨by simp [h1],h2⟩
theorem Db (hs:dc X.K w0 nt S β fp a w) {pt:List (Option Ty)} {pre post:List (SV C)} {pu qu:List Value} {xs:List Operand} {ts:List TypeId} {vs:List (SV C)} (h:mJ X S pt pre xs ts post=some vs)
  (hpre:gp X.K w S.ah β fp (aH S.ah fp w) pre pu) (qW:gp X.K w S.ah β fp (aH S.ah fp w) post qu) :
  (pu++(xs.map a.eval++qu)).length=vs.length∧∀ (i:Nat) (v:SV C),vs[i]?=some v→wL X.K w (fun k=>k<w.heap.size) v ((pu++(xs.map a.eval++qu)).getD i undef):=by
 unfold mJ at h;split at h
 ·rename_i vs' hvs
  have:=hpre.append ((oF hs hvs).append qW);exact Bi hs h this.1 this.2
 ·cases h
theorem dB {α:Type} (l r:List (Nat×α)) (n:Nat):lk (l++r) n=match lk l n with
  | some v=>some v
  | none=>lk r n:=by
 induction l with
 | nil=>rfl
 | cons x l ih=>
  obtain ⟨m,v⟩:=x;rw [List.cons_append,aN,aN,ih];split<;>rfl
theorem dc.AL {K:Cd C} (h:dc K w0 nt S β fp a w) {w':World} (hw:Below w.heap.size w w') {news:cW C} (Cz:∀ id ob,lk news id=some ob→fJ S id)
  {hv:Nat→Value} {F:Nat→Nat→Prop} (hF:∀ id ob k,lk news id=some ob→F id k→w.heap.size≤k∧k<w'.heap.size)
  (Jl:∀ id gM ob dY k,lk news id=some ob→lk news gM=some dY→F id k→F gM k→id=gM)
  (fO:∀ id ob,lk news id=some ob→∃ t xs,ob = .row t xs false∧Own K w' w0.heap.size (F id) (.row t xs) (hv id)) :
  dc K w0 nt { S with ah:=news++S.ah } (fun i=>if (lk news i).isSome then hv i else β i) (fun i k=>if (lk news i).isSome then F i k else fp i k) a w':=by
 have hsz:w0.heap.size≤w.heap.size:=h.below.size;have hsz':=hw.size
 have new:∀ i ob,lk news i=some ob→lk (news++S.ah) i=some ob:=fun i ob hi=>by rw [dB,hi]
 have old:∀ i,lk news i=none→lk (news++S.ah) i=lk S.ah i:=fun i hi=>by rw [dB,hi]
 have keep:∀ i,lk news i=none→iQ w w' S.ah (news++S.ah) β (fun i=>if (lk news i).isSome then hv i else β i) fp (fun i k=>if (lk news i).isSome then F i k else fp i k) i:=fun i hi=>by
  refine ⟨by simp [hi],fun t xs sh ho=>?_⟩;rw [old i hi] at ho;exact ⟨ho,fun k hk=>⟨by simpa [hi] using hk,hw.block k (h.fresh i _ k ho hk).2⟩⟩
 have hst:∀ k,aH S.ah fp w k→aH (news++S.ah) (fun i k=>if (lk news i).isSome then F i k else fp i k) w' k∧w'.heap[k]?=w.heap[k]?:=fun k hk=>by
  refine ⟨⟨by have:=hk.1;omega,fun j ob hj=>?_⟩,hw.block k hk.1⟩
  cases e:lk news j with
  | some dY=>
   simp only [e,Option.isSome_some,if_true];intro hf;have:=hF j dY k e hf;have:=hk.1;omega
  | none=>
   rw [old j e] at hj;simp only [e,Option.isSome_none,Bool.false_eq_true,if_false];exact hk.2 j ob hj
 have SI:∀ i,(i∈gg S.env∨i∈eB S.ah)→lk news i=none:=fun i hi=>by
  cases e:lk news i with
  | none=>rfl
  | some ob=>have:=Cz i ob e;rcases hi with hi | hi;exact absurd hi this.1;exact absurd hi this.2
 refine ⟨h.below.trans (hw.mono hsz),h.defers,h.size,fun j ob k ho hk=>?_,fun i j oi oj k hi hj kR jY=>?_,fun j ob ho=>?_,fun t v ht=>?_⟩
 ·cases e:lk news j with
  | some dY=>
   simp only [e,Option.isSome_some,if_true] at hk;have:=hF j dY k e hk;omega
  | none=>
   simp only at ho;rw [old j e] at ho;simp only [e,Option.isSome_none,Bool.false_eq_true,if_false] at hk;have:=h.fresh j ob k ho hk;omega
 ·simp only at hi hj
  cases ei:lk news i with
  | some oi'=>
   simp only [ei,Option.isSome_some,if_true] at kR
   cases ej:lk news j with
   | some oj'=>
    simp only [ej,Option.isSome_some,if_true] at jY;exact Jl i j oi' oj' k ei ej kR jY
   | none=>
    rw [old j ej] at hj;simp only [ej,Option.isSome_none,Bool.false_eq_true,if_false] at jY;have:=hF i oi' k ei kR;have:=h.fresh j oj k hj jY;omega
  | none=>
   rw [old i ei] at hi;simp only [ei,Option.isSome_none,Bool.false_eq_true,if_false] at kR
   cases ej:lk news j with
   | some oj'=>
    simp only [ej,Option.isSome_some,if_true] at jY;have:=hF j oj' k ej jY;have:=h.fresh i oi k hi kR;omega
   | none=>
    rw [old j ej] at hj;simp only [ej,Option.isSome_none,Bool.false_eq_true,if_false] at jY;exact h.eM i j oi oj k hi hj kR jY
 ·simp only at ho
  cases e:lk news j with
  | some dY=>
   rw [new j dY e] at ho;cases ho;obtain ⟨t,xs,rfl,hO⟩:=fO j _ e;simp only [e,Option.isSome_some,if_true];exact hO
  | none=>
   rw [old j e] at ho
   have:=(h.ah j ob ho).tr (dX:=news++S.ah) (eK:=fun i=>if (lk news i).isSome then hv i else β i) (eJ:=fun i k=>if (lk news i).isSome then F i k else fp i k) hst (fun k hk=>hw.block k (h.fresh j ob k ho hk).2) fun kd ls els i hi=>keep i (SI i (.inr ((kY ho).2 kd ls els i hi)))
   simp only [e,Option.isSome_none,Bool.false_eq_true,if_false];exact this
 ·exact (h.env t v ht).tr hst fun i hi=>keep i (SI i (.inl (kZ ht hi)))
end
section
variable {Ty:Type} [DecidableEq Ty] {C:Ty→Type}
variable {P:Program} {X:Cx C} {w0 w:World} {nt:Nat} {S:St C} {β:Nat→Value} {fp:Nat→Nat→Prop} {a:Act} {R:Type} {k:St C→Option R} {r:R}
variable {dst:Option Tmp} {ty:TypeId} {pos:String} {dL:Array Edge} {gd:Option (Nat×Bool)} {Q:Exit→Act→World→Prop}
theorem o8:∀ {news:cW C} {S S':St C},S.kv news=some S'→S'.env=S.env∧S'.base=S.base∧(∀ j,lk S'.ah j=lk (news++S.ah) j)∧∀ j ob,lk news j=some ob→fJ S j
 | [],S,S',h=>by simp only [St.kv,Option.some.injEq] at h;subst h;exact ⟨rfl,rfl,fun j=>rfl,fun j ob h=>by simp [lk] at h⟩
 | (id,ob)::r,S,S',h=>by
  simp only [St.kv] at h;split at h
  ·rename_i S1 h1
   obtain ⟨hn,rfl⟩:=jv h1;obtain ⟨g1,g2,g3,g4⟩:=o8 h
   have hne:∀ j dY,lk r j=some dY→j≠id:=fun j dY hj e=>by
    subst e;have:=(g4 j dY hj).2;exact this (by cases ob<;>simp [St.setObj,eB])
   refine ⟨g1,g2,fun j=>?_,fun j dY hj=>?_⟩
   ·rw [g3,dB,List.cons_append,aN,dB]
    simp only [St.setObj,aN]
    cases e:lk r j with
    | some dY=>have:=hne j dY e;simp [this]
    | none=>split<;>simp_all
   ·rw [aN] at hj
    split at hj
    ·rename_i e;subst e;exact hn
    ·have:=g4 j dY hj
     refine ⟨this.1,fun hm=>this.2 ?_⟩;cases ob<;>simp [St.setObj,eB,hm]
  ·cases h
theorem mZ:∀ (ls:List (Lf C)) (id:Nat),(intern id ls).1.length=ls.length
 | [],id=>rfl
 | l::r,id=>by cases l<;>simp [intern,mZ r]
theorem vE:∀ (ls:List (Lf C)) (id m:Nat) (l:Lf C),(intern id ls).1[m]?=some l →
  (∃ t xs,ls[m]?=some (.row t xs)∧l = .ref (id+m) []∧lk (intern id ls).2 (id+m)=some (.row t xs false))∨(ls[m]?=some l∧∀ t xs,l ≠ .row t xs)
 | [],id,m,l,h=>by simp [intern] at h
 | x::r,id,m,l,h=>by
  have ih:=vE r (id+1)
  cases m with
  | zero=>
   cases x with
   | row t xs=>simp [intern] at h;exact .inl ⟨t,xs,rfl,h.symm,by simp [intern,aN]⟩
   | _=>simp [intern] at h;subst h;exact .inr ⟨rfl,fun t xs=>by simp⟩
  | succ m=>
   have hm:(intern (id+1) r).1[m]?=some l:=by cases x<;>simpa [intern] using h
   rcases ih m l hm with ⟨t,xs,h1,h2,h3⟩ | h1
   ·refine .inl ⟨t,xs,by simpa using h1,by rw [h2];congr 1;omega,?_⟩
    have e:id+1+m=id+(m+1):=by omega
    rw [e] at h3
    cases x with
    | row t' ys=>rw [show (intern id (Lf.row t' ys::r)).2=(id,.row t' ys false)::(intern (id+1) r).2 from rfl,aN,if_neg (by omega)];exact h3
    | _=>exact h3
   ·exact .inr (by simpa using h1)
theorem sx:∀ (ls:List (Lf C)) (id j:Nat) (ob:Ob C),lk (intern id ls).2 j=some ob→∃ m t xs,j=id+m∧ls[m]?=some (.row t xs)∧ob = .row t xs false
 | [],id,j,ob,h=>by simp [intern,lk] at h
 | x::r,id,j,ob,h=>by
  have ih:=sx r (id+1) j ob
  have up:lk (intern (id+1) r).2 j=some ob→∃ m t xs,j=id+m∧(x::r)[m]?=some (.row t xs)∧ob = .row t xs false:=fun h=>by
   obtain ⟨m,t,xs,h1,h2,h3⟩:=ih h;exact ⟨m+1,t,xs,by omega,by simpa using h2,h3⟩
  cases x with
  | row t xs=>
   rw [show (intern id (Lf.row t xs::r)).2=(id,.row t xs false)::(intern (id+1) r).2 from rfl,aN] at h;split at h
   ·rename_i e;cases h;exact ⟨0,t,xs,by omega,rfl,rfl⟩
   ·exact up h
  | _=>exact up h
theorem ry:∀ (rs:List (Bool×List (Lf C))) (id m:Nat) (l:Lf C),(flatten (bY id rs).1)[m]?=some l →
  (∃ t xs,(flatten rs)[m]?=some (.row t xs)∧l = .ref (id+m) []∧lk (bY id rs).2 (id+m)=some (.row t xs false))∨((flatten rs)[m]?=some l∧∀ t xs,l ≠ .row t xs)
 | [],id,m,l,h=>by simp [bY,flatten] at h
 | (b,ls)::r,id,m,l,h=>by
  simp only [bY,flatten] at h
  rcases AD h with ⟨hj,hx⟩ | ⟨hj,hx⟩
  ·rw [mZ] at hj
   rcases vE ls id m l hx with ⟨t,xs,h1,h2,h3⟩ | ⟨h1,h2⟩
   ·exact .inl ⟨t,xs,by simp only [flatten];rw [List.getElem?_append_left hj];exact h1,h2,by simp only [bY];rw [dB,h3]⟩
   ·exact .inr ⟨by simp only [flatten];rw [List.getElem?_append_left hj];exact h1,h2⟩
  ·rw [mZ] at hj hx
   have e:id+ls.length+(m-ls.length)=id+m:=by omega
   rcases ry r (id+ls.length) (m-ls.length) l hx with ⟨t,xs,h1,h2,h3⟩ | ⟨h1,h2⟩
   ·rw [e] at h2 h3
    refine .inl ⟨t,xs,by simp only [flatten];rw [List.getElem?_append_right hj];exact h1,h2,?_⟩;simp only [bY];rw [dB]
    cases e2:lk (intern id ls).2 (id+m) with
    | none=>exact h3
    | some ob=>
     obtain ⟨m',t',xs',q1,q2,q3⟩:=sx ls id _ ob e2;have:=eD q2;omega
   ·exact .inr ⟨by simp only [flatten];rw [List.getElem?_append_right hj];exact h1,h2⟩
theorem qb:∀ (rs:List (Bool×List (Lf C))) (id j:Nat) (ob:Ob C),lk (bY id rs).2 j=some ob→∃ m t xs,j=id+m∧(flatten rs)[m]?=some (.row t xs)∧ob = .row t xs false
 | [],id,j,ob,h=>by simp [bY,lk] at h
 | (b,ls)::r,id,j,ob,h=>by
  simp only [bY] at h;rw [dB] at h;split at h
  ·rename_i dY h1
   cases h;obtain ⟨m,t,xs,q1,q2,q3⟩:=sx ls id j ob h1;exact ⟨m,t,xs,q1,by simp only [flatten];rw [List.getElem?_append_left (eD q2)];exact q2,q3⟩
  ·obtain ⟨m,t,xs,q1,q2,q3⟩:=qb r _ j ob h
   refine ⟨ls.length+m,t,xs,by omega,?_,q3⟩;simp only [flatten];rw [List.getElem?_append_right (by omega),Nat.add_sub_cancel_left];exact q2
def eV:List (Bool×List (Lf C))→List (Bool×Nat)
 | []=>[]
 | (b,ls)::r=>(b,ls.length)::eV r
theorem lS:∀ {rs rs':List (Bool×List (Lf C))} {us:List Value},eV rs=eV rs'→dC rs us=dC rs' us
 | [],[],us,h=>rfl
 | [],(b,ls)::r,us,h=>by simp [eV] at h
 | (b,ls)::r,[],us,h=>by simp [eV] at h
 | (b,ls)::r,(b',ls')::r',us,h=>by
  simp only [eV,List.cons.injEq,Prod.mk.injEq] at h;obtain ⟨⟨rfl,hl⟩,hr⟩:=h;have ih:=lS (us:=us.drop ls.length) hr;simp only [dC,hl] at ih ⊢;rw [ih];cases b<;>rfl
theorem kV {rs rs':List (Bool×List (Lf C))} {us:List Value} (h:eV rs=eV rs'):pack rs us=pack rs' us:=by
 unfold pack;rw [lS h]
theorem ig:∀ {rs rs':List (Bool×List (Lf C))},eV rs=eV rs'→fF rs=fF rs'
 | [],[],h=>rfl
 | [],(b,ls)::r,h=>by simp [eV] at h
 | (b,ls)::r,[],h=>by simp [eV] at h
 | (b,ls)::r,(b',ls')::r',h=>by
  simp only [eV,List.cons.injEq,Prod.mk.injEq] at h;obtain ⟨⟨rfl,hl⟩,hr⟩:=h;simp only [fF,hl,ig hr]
theorem jh:∀ (rs:List (Bool×List (Lf C))) (id:Nat),eV (bY id rs).1=eV rs
 | [],id=>rfl
 | (b,ls)::r,id=>by simp [bY,eV,mZ,jh r]
theorem Vb {K:Cd C} {ah:cW C} {cM:Nat→Prop} {b:Bool} {ls:List (Lf C)} {us:List Value} (hok:(b||Nat.beq ls.length 1)=true) (hl:cT K w ah β fp cM ls us):gL K w ah β fp cM (b,ls) (lJ (b,ls) us):=by
 cases b with
 | true=>exact ⟨us,rfl,hl⟩
 | false=>
  simp only [Bool.false_or] at hok;have h1:=Nat.eq_of_beq_eq_true hok;obtain ⟨l,rfl⟩:=List.length_eq_one_iff.1 h1;obtain ⟨u,rfl⟩:=List.length_eq_one_iff.1 (hl.1.trans h1);exact ⟨l,rfl,hl.2 0 l rfl⟩
theorem pM {K:Cd C} {ah:cW C} {cM:Nat→Prop}:∀ {rs:List (Bool×List (Lf C))} {us:List Value},fF rs=true→cT K w ah β fp cM (flatten rs) us →
  (dC rs us).length=rs.length∧∀ (i:Nat) (x:Bool×List (Lf C)),rs[i]?=some x→gL K w ah β fp cM x ((dC rs us).getD i undef)
 | [],us,_,_=>⟨rfl,fun i x h=>by simp at h⟩
 | (b,ls)::r,us,hok,hl=>by
  simp only [fF,Bool.and_eq_true] at hok
  have hlen:us.length=ls.length+(flatten r).length:=by have:=hl.1;simpa [flatten] using this
  have h1:cT K w ah β fp cM ls (us.take ls.length):=⟨by simp;omega,fun i l hi=>by
   have hlt:=eD hi;have:=hl.2 i l (by simp only [flatten];rw [List.getElem?_append_left hlt];exact hi)
   have e:(us.take ls.length).getD i undef=us.getD i undef:=by simp [List.getD,List.getElem?_take,hlt]
   rw [e];exact this⟩
  have h2:cT K w ah β fp cM (flatten r) (us.drop ls.length):=⟨by simp;omega,fun i l hi=>by
   have:=hl.2 (ls.length+i) l (by simp only [flatten];rw [List.getElem?_append_right (by omega),Nat.add_sub_cancel_left];exact hi)
   have e:(us.drop ls.length).getD i undef=us.getD (ls.length+i) undef:=by simp [List.getD]
   rw [e];exact this⟩
  have ih:=pM hok.2 h2;refine ⟨by simp [dC,ih.1],fun i x hi=>?_⟩
  cases i with
  | zero=>simp at hi;subst hi;exact Vb hok.1 h1
  | succ i=>exact ih.2 i x (by simpa using hi)
theorem uW {K:Cd C} {ah:cW C} {cM:Nat→Prop} {rs:List (Bool×List (Lf C))} {us:List Value} {v:SV C} (hok:fF rs=true) (hv:rJ rs=some v) (hl:cT K w ah β fp cM (flatten rs) us):dD K w ah β fp cM v (pack rs us):=by
 obtain ⟨h1,h2⟩:=pM hok hl;unfold rJ at hv;split at hv
 ·rename_i l
  cases hv;obtain ⟨l',e,h3⟩:=h2 0 _ rfl;cases e;exact h3
 ·rename_i ls
  cases hv;exact h2 0 _ rfl
 ·cases hv
 ·rename_i hn1 hn2 hn3
  cases hv
  have hne:rs.length≠1:=fun e=>by
   obtain ⟨x,rfl⟩:=List.length_eq_one_iff.1 e;exact hn3 x rfl
  refine ⟨dC rs us,?_,h1,h2⟩;unfold pack;split
  ·rename_i u hu
   rw [hu] at h1;exact absurd h1.symm hne
  ·rfl
theorem Lu {K:Cd C} {b b':Nat} {F:Nat→Prop} {l:Lf C} {v:Value} (h:Own K w b F l v) (hb:b'≤b):Own K w b' F l v:=by
 induction h with
 | int=>exact .int ..
 | bool=>exact .bool ..
 | str=>exact .str ..
 | bP=>exact .bP ..
 | row F t xs v cells G h hF hG hd _ ih=>exact .row F t xs v cells G (rV h hb) hF hG hd ih
theorem jS:∀ {rs rs':List (Bool×List (Lf C))},eV rs=eV rs'→(flatten rs).length=(flatten rs').length
 | [],[],h=>rfl
 | [],(b,ls)::r,h=>by simp [eV] at h
 | (b,ls)::r,[],h=>by simp [eV] at h
 | (b,ls)::r,(b',ls')::r',h=>by
  simp only [eV,List.cons.injEq,Prod.mk.injEq] at h;simp [flatten,h.1.2,jS h.2]
theorem mE {f:Nat} {us:Array Value} {fn:Func} (rE:P.funcs[f]?=some fn) (qX:fn.body.isNone=false) (tN:fn.name ≠ "runtime.NumGoroutine"):(callFunc f us).run P w = .ok (.enter f us) w:=by
 have MB:(fn.name == "runtime.NumGoroutine")=false:=by simpa using tN
 simp [callFunc,rE,qX,MB];rw [if_neg tN,if_neg (by intro hb;simp [hb] at qX)]
theorem GA (hs:dc X.K w0 nt S β fp a w) {o:Oper} {c:iK C} {f:Nat} (hc:dm P X.K f c) {pre post:List (SV C)} {pu qu:List Value} {as:List Operand} {ts:List TypeId}
  (h:pG X c S pre as ts post o k=some r) (hpre:gp X.K w S.ah β fp (aH S.ah fp w) pre pu) (qW:gp X.K w S.ah β fp (aH S.ah fp w) post qu)
  (ik:∀ fn,P.funcs[f]?=some fn→fn.body.isNone=false→fn.name ≠ "runtime.NumGoroutine" → (execOp a.eval o).run P w = .ok (.enter f (pu++(as.map a.eval++qu)).toArray) w) (hd:slot o.dst nt):Goal P X w0 nt k r Q o a w:=by
 rw [rr] at h;unfold wc at h;split at h
 case h_2=>cases h
 rename_i vs hvs
 cases hg:c.g vs with
 | none=>rw [hg] at h;cases h
 | some r0=>
  rw [hg] at h;simp only [Option.bind_some] at h;obtain ⟨⟨fn,rE,qX,tN⟩,lY⟩:=hc
  cases QJ:c.nz with
  | true=>
   rw [QJ] at h;simp only at h;split at h
   case h_2=>cases h
   rename_i t xs hret;obtain ⟨hl,hargs⟩:=Db hs hvs hpre qW;have hcall:=lY w vs _ r0 (X.K.yC _ _ hs.defers.2 hs.below) hl hargs hg;show o.wp P a w (Next X.K w0 nt k r) Q;unfold Oper.wp;rw [ik fn rE qX tN];show Calls P f _ w _
   refine hcall.mono fun en w' ⟨v0,he,hb,⟨us,G,hp,vG,hok,CI,Pk,FG⟩,hz⟩=>?_
   subst he;rw [hret] at hp vG FG;have gi:=hs.AL hb (news:=[]) (S:=S) (fun j ob hj=>by simp [lk] at hj) (hv:=β) (F:=fp) (fun id ob k hi _=>by simp [lk] at hi) (fun i j oi oj k hi _ _ _=>by simp [lk] at hi) (fun i ob hi=>by simp [lk] at hi)
   have vH:dc X.K w0 nt S β fp a w':=by simpa [lk] using gi
   obtain ⟨u,rfl⟩:=List.length_eq_one_iff.1 (show us.length=1 from vG);have hv0:v0=u:=hp;subst hv0;have hO:=FG 0 (.row t xs) rfl
   have hst:∀ k,G 0 k→aH S.ah fp w' k:=fun k hk=>⟨(CI 0 k hk).2,fun id ob hi hf=>by
    have:=(hs.fresh id ob k hi hf).2;have:=(CI 0 k hk).1
    omega⟩
   cases xs with
   | nil=>exact bn vH hd (v:=.one (.nil t)) (hz QJ t hret) h
   | cons x xs=>exact bn vH hd (v:=.one (.row t (x::xs))) ((Own.rep hO).mono hst) h
  | false=>
  rw [QJ] at h;simp only at h;split at h
  case h_2=>cases h
  rename_i v S' hv gu;obtain ⟨hl,hargs⟩:=Db hs hvs hpre qW;have hcall:=lY w vs _ r0 (X.K.yC _ _ hs.defers.2 hs.below) hl hargs hg;show o.wp P a w (Next X.K w0 nt k r) Q;unfold Oper.wp;rw [ik fn rE qX tN];show Calls P f _ w _
  refine hcall.mono fun en w' ⟨v0,he,hb,⟨us,G,hp,vG,hok,CI,Pk,FG⟩,_⟩=>?_
  subst he
  cases pX:c.frz with
  | true=>
   simp only [B8,pX] at hv gu
   have hS':S=S':=by simpa [St.kv] using gu
   subst hS';have gi:=hs.AL hb (news:=[]) (S:=S) (fun j ob hj=>by simp [lk] at hj) (hv:=β) (F:=fp) (fun id ob k hi _=>by simp [lk] at hi) (fun i j oi oj k hi _ _ _=>by simp [lk] at hi) (fun i ob hi=>by simp [lk] at hi)
   have vH:dc X.K w0 nt S β fp a w':=by simpa [lk] using gi
   have hval:cT X.K w' S.ah β fp (aH S.ah fp w') (flatten (c.ret r0)) us:=by
    refine ⟨vG,fun m l hm=>?_⟩;have hO:=FG m l hm
    have hst:∀ k,G m k→aH S.ah fp w' k:=fun k hk=>⟨(CI m k hk).2,fun id ob hi hf=>by
     have:=(hs.fresh id ob k hi hf).2;have:=(CI m k hk).1
     omega⟩
    cases l with
    | row t xs=>exact (Own.rep hO).mono hst
    | _=>exact pN hO (by intro t xs e;cases e)
   have hsv:=uW hok hv hval;rw [←hp] at hsv;exact bn vH hd hsv h
  | false=>
  simp only [B8,pX] at hv gu
  let dK:=cg X S o
  let news:=(bY dK (c.ret r0)).2
  obtain ⟨g1,g2,g3,g4⟩:=o8 gu;have hsz0:=hs.below.size
  have hF:∀ id ob k,lk news id=some ob→G (id-dK) k→w.heap.size≤k∧k<w'.heap.size:=fun id ob k _ hk=>CI _ k hk
  have gi:=hs.AL hb (news:=news) g4 (hv:=fun id=>us.getD (id-dK) undef) (F:=fun id=>G (id-dK)) hF
   (fun i j oi oj k hi hj kR jY=>by
    obtain ⟨m,t,xs,q1,q2,q3⟩:=qb _ _ _ _ hi;obtain ⟨m',t',xs',Pe,q2',q3'⟩:=qb _ _ _ _ hj;have:=Pk _ _ k kR jY
    omega)
   (fun i ob hi=>by
    obtain ⟨m,t,xs,q1,q2,q3⟩:=qb _ _ _ _ hi
    have e:i-dK=m:=by omega
    refine ⟨t,xs,q3,?_⟩;simp only [e]
    exact Lu (FG m _ q2) hsz0)
  have Ct:=gi.sub (O:=S'.ah) (fun j ob hj=>by rw [←g3 j];exact hj)
  have hS':({ S with ah:=S'.ah }:St C)=S':=by
   obtain ⟨e1,o1,b1⟩:=S';rw [St.mk.injEq];exact ⟨g1.symm,rfl,g2.symm⟩
  have vH:=Ct;rw [hS'] at vH;have hsh:=jh (c.ret r0) dK
  have hval:cT X.K w' S'.ah (fun i=>if (lk news i).isSome then us.getD (i-dK) undef else β i) (fun i k=>if (lk news i).isSome then G (i-dK) k else fp i k) (aH S'.ah (fun i k=>if (lk news i).isSome then G (i-dK) k else fp i k) w') (flatten (bY dK (c.ret r0)).1) us:=by
   refine ⟨by rw [vG,jS hsh],fun m l hm=>?_⟩
   rcases ry (c.ret r0) dK m l hm with ⟨t,xs,q1,q2,q3⟩ | ⟨q1,q2⟩
   ·subst q2
    have hO:=FG m _ q1;refine ⟨hO.one,?_⟩
    have e:dK+m-dK=m:=by omega
    have e2:lk news (dK+m)=some (.row t xs false):=q3;simp only [e2,Option.isSome_some,if_true,e]
   ·exact pN (FG m l q1) q2
  have hsv:=uW (by rw [ig hsh];exact hok) hv hval;rw [kV hsh (us:=us),← hp] at hsv;exact bn vH hd hsv h
theorem Hk (hs:dc X.K w0 nt S β fp a w):∀ {vs:List (SV C)} {us:List Value} {qs:List Value},I8 vs=some us→qs.length=vs.length→(∀ (i:Nat) (v:SV C),vs[i]?=some v→dD X.K w S.ah β fp (aH S.ah fp w) v (qs.getD i undef))→qs=us
 | [],us,qs,h,hl,hv=>by
  simp only [I8,Option.some.injEq] at h;subst h;exact List.length_eq_zero_iff.1 hl
 | v::vs,us,qs,h,hl,hv=>by
  cases v with
  | one l=>
   simp only [I8] at h;split at h
   case h_2=>cases h
   rename_i u mM h1 h2;cases h
   cases qs with
   | nil=>simp at hl
   | cons q qs=>
    have e:=Hk hs (qs:=qs) h2 (by simpa using hl) fun i v hi=>by simpa using hv (i+1) v (by simpa using hi)
    have hq:dD X.K w S.ah β fp (aH S.ah fp w) (.one l) q:=by simpa using hv 0 _ rfl
    rw [e]
    congr 1
    cases l with
    | int k n=>simp only [lfV,Option.some.injEq] at h1;rw [←h1];exact hq
    | bool b=>simp only [lfV,Option.some.injEq] at h1;rw [←h1];exact hq
    | str s=>simp only [lfV,Option.some.injEq] at h1;rw [←h1];exact hq
    | _=>simp [lfV] at h1
  | _=>simp [I8] at h
theorem ZP (hX:je P X) (hs:dc X.K w0 nt S β fp a w) {o:Oper} {f:FuncId} {e:List Value→Option Value} (he:X.ext f=some e) {as:Array Operand} {ts:Array TypeId}
  (hi:X.ins f=none) (h:oC X S f as.toList ts.toList o k=some r) (hd:slot o.dst nt) (ho:o.op = .call { callee:=.value (.func f),args:=as,argTypes:=ts }):Goal P X w0 nt k r Q o a w:=by
 simp only [oC,hi,he] at h;split at h
 case h_2=>cases h
 rename_i vs hvs;split at h
 case h_2=>cases h
 rename_i us AZ;split at h
 case h_2=>cases h
 rename_i v hv;split at h
 case h_2=>cases h
 rename_i l hl;obtain ⟨h1,h2⟩:=ru hs hvs;have hq:=Hk hs AZ (by simpa using h1.symm) h2;have hrun:=hX.ext f e he us v hv w;refine bl (v:=v) ?_ (bn hs hd (v:=.one l) ?_ h)
 ·obtain ⟨dst,op,ty,pos,dL,gd⟩:=o
  have ho:op=_:=ho;subst ho
  have e1:(as.map a.eval)=us.toArray:=by rw [←hq,← Array.toList_map,Array.toArray_toList]
  simp [execOp,resolve,Deferred.ofValue,invoke,Act.eval] at hrun ⊢
  first | (rw [←e1] at hrun;simpa [Act.eval] using hrun) | (rw [e1];exact hrun)
 ·cases v<;>simp only [vLf,Option.some.injEq,reduceCtorEq] at hl<;>(rw [←hl];rfl)
theorem ZO (hX:je P X) (hs:dc X.K w0 nt S β fp a w) {o:Oper} {f:FuncId} {t:Ty} (he:X.ins f=some t) {as:List Operand} {ts:List TypeId}
  (h:Ja X t S as ts o k=some r) (hd:slot o.dst nt)
  (ik:∀ fn,P.funcs[f]?=some fn→fn.body.isNone=false→fn.name ≠ "runtime.NumGoroutine" → (execOp a.eval o).run P w = .ok (.enter f (as.map a.eval).toArray) w):Goal P X w0 nt k r Q o a w:=by
 unfold Ja at h;split at h
 case h_2=>cases h
 rename_i s i x T T1 T';split at h
 case h_2=>cases h
 rename_i l n id hl0 hi0 hx0;split at h
 case h_2=>cases h
 rename_i t1 ys sh ho;have h':=aw h;clear h;obtain ⟨hc,h⟩:=h';simp only [Bool.and_eq_true,decide_eq_true_eq] at hc;obtain ⟨⟨hy1,e1⟩,h0⟩:=hc;have hy1:=Nat.eq_of_beq_eq_true hy1;subst e1;have hl:=fu (dM hs hl0);have hx:db X.K w S.ah β fp (aH S.ah fp w) (.ref id []) (a.eval x):=fu (cG hs hx0);have hi:a.eval i = .int .i64 n:=cG hs hi0;have fO:=hs.ah id _ ho;obtain ⟨gs,g1,g2,g3⟩:=nY fO
 have hh:Handed X.K w w0.heap.size (aH S.ah fp w) (iM fp (some id)) t1 ys (a.eval x) sh:=by rw [hx.2];exact sA fO
 have qh:a.eval x=β id:=hx.2
 have fin:∀ {t0:Ty} {xs:List (C t0)} {dK:Option Nat} {gq:Bool},n≤(xs.length:Int) →
   oG (some n.toNat) X o S t1 t0 t1 xs ys dK (some id) (gq||sh) k=some r→(∀ i,dK=some i→some id≠some i) →
   (∃ cs,w.ownsRow w0.heap.size (X.K.tid t0) (X.K.sz t0) (a.eval s) xs.length cs∧(∀ g,(a.eval s).ownBlock=some g→iM fp dK g)∧kI X.K w w0.heap.size (aH S.ah fp w) (iM fp dK) t0 xs (a.eval s).ownBlock (fun m=>cs.getD m undef) gq) →
   (∀ i,dK=some i→∃ ob,lk S.ah i=some ob)→Goal P X w0 nt k r Q o a w:=by
  intro t0 xs dK gq hn ha hne hb h0';obtain ⟨cs,A,c,f',e0,_,hown,Jh,hA,h1,h2,ME,Jl,K⟩:=zf hX hs hd rfl ha hne (fun i e=>by cases e;omega) hb h0' (fun i e=>by cases e;exact ⟨_,ho⟩) hh (fun i g e hg=>by cases e;rw [qh] at hg;exact g2 g hg);subst e0
  have hg1:w.ownsRow w0.heap.size (X.K.tid t0) (X.K.sz t0) (a.eval x) 1 gs:=by rw [qh];rw [hy1] at g1;exact g1
  have S7:(List.range (ys.length*X.K.sz t0)).map f'=gs:=by
   have CA:gs.length=ys.length*X.K.sz t0:=by rw [hg1.1,hy1]
   obtain ⟨g,cap,e',_,_,hcell⟩:=j8 hg1 (by have:=X.K.pos t0;omega);obtain ⟨p,eA,hp⟩:=hA (by omega);rw [Jh] at e';injection e' with q1 q2 q3;rw [q1] at eA;cases eA;apply List.ext_getElem
   ·simp [CA]
   ·intro m Cw Eo
    have hm:m<ys.length*X.K.sz t0:=by simpa using Cw
    have q4:=hp m hm;rw [hcell m (by rw [←hy1];exact hm)] at q4;have q4:=Option.some.inj q4;simp [List.getD_eq_getElem?_getD,Eo] at q4 ⊢;exact q4.symm
  have hone:∀ u,u∈gs→u.oneCell'=true:=fun u hu=>by
   rw [←S7] at hu;obtain ⟨m,hm,rfl⟩:=List.mem_map.1 hu;exact h1 m (by simpa using hm)
  have hone2:∀ u,u∈cs→u.oneCell'=true:=fun u hu=>by
   obtain ⟨m,hm,rfl⟩:=List.getElem_of_mem hu;have:=h2 m (by rw [←hown.1];exact hm)
   simpa [List.getD_eq_getElem?_getD,hm] using this
  obtain ⟨⟨fn,rE,qX,tN⟩,hins⟩:=hX.ins f t0 he;have hcall:=hins w w0.heap.size (a.eval s) (a.eval x) xs.length n.toNat cs gs hown hg1 hs.below.size (by omega) (by rw [hy1] at ME;exact ME) (fun g hg=>(Jl g hg).elim (fun h=>h) fun h=>by cases h) hone2 hone;show o.wp P a w (Next X.K w0 nt k r) Q;unfold Oper.wp;rw [ik fn rE qX tN]
  have hargs:(List.map a.eval [s,i,x]).toArray = #[a.eval s,.int .i64 (n.toNat:Nat),a.eval x]:=by
   simp [hi];omega
  rw [hargs];show Calls P f _ w _
  refine hcall.mono fun en w' ⟨v0,he,q1,q2,q3⟩=>?_
  subst he;refine K v0 w' ?_ q2 q3;rw [S7,hy1];exact q1
 clear hl0;split at h
 ·rename_i t0
  obtain ⟨hn,h⟩:=aw h;have hn:=of_decide_eq_true hn;have e:a.eval s = .slice none 0 0:=hl;refine fin (xs:=([]:List (C t0))) (gq:=false) (by simp [hn]) (by simpa using h) (fun i e=>by cases e) ?_ (fun i e=>by cases e);rw [e];exact ⟨[],World.ownsRow_nil ..,fun g hg=>by simp [Value.ownBlock] at hg,o5⟩
 ·rename_i dK
  obtain ⟨hne,h⟩:=eS h;split at h
  ·rename_i t0 xs gq uq
   obtain ⟨hn,h⟩:=aw h;have hn:=of_decide_eq_true hn;refine fin hn h (fun i e e'=>?_) ?_ (fun i e=>by cases e;exact ⟨_,uq⟩)
   ·cases e;cases e';simp [Nat.beq_refl] at hne
   ·rw [hl.2]
    exact nY (hs.ah dK _ uq)
  ·cases h
 ·cases h
theorem s_call (hX:je P X) (Wq:∀ f c,X.HU f=some c→dm P X.K f c) (hs:dc X.K w0 nt S β fp a w) (hd:slot dst nt) {f:FuncId} {as:Array Operand} {ts:Array TypeId}
  (h:ev X ⟨dst,.call { callee:=.value (.func f),args:=as,argTypes:=ts },ty,pos,dL,gd⟩ S k=some r)
  (hW:∀ o:Oper,o=⟨dst,.call { callee:=.value (.func f),args:=as,argTypes:=ts },ty,pos,dL,gd⟩→(match X.vZ f with | some _=>tG X S f as.toList ts.toList o k | none=>oC X S f as.toList ts.toList o k)=some r→Goal P X w0 nt k r Q o a w) :
  Goal P X w0 nt k r Q ⟨dst,.call { callee:=.value (.func f),args:=as,argTypes:=ts },ty,pos,dL,gd⟩ a w:=by
 generalize ho:(⟨dst,.call { callee:=.value (.func f),args:=as,argTypes:=ts },ty,pos,dL,gd⟩:Oper)=o at h ⊢
 have S4:o.dst=dst:=by rw [←ho]
 subst S4
 have hev:ev X o S k=match X.HU f with
   | some c'=>pG X c' S [] as.toList ts.toList [] o k
   | none=>(match X.vZ f with | some _=>tG X S f as.toList ts.toList o k | none=>oC X S f as.toList ts.toList o k):=by rw [←ho];rfl
 rw [hev] at h;split at h
 ·rename_i c hc
  refine GA hs (Wq f c hc) h .nil .nil (fun fn rE qX tN=>?_) hd
  have e:([]++(as.toList.map a.eval++[]):List Value).toArray=as.map a.eval:=by rw [List.nil_append,List.append_nil,← Array.toList_map,Array.toArray_toList]
  rw [e,← mE (us:=as.map a.eval) rE qX tN,← ho];simp [execOp,resolve,Deferred.ofValue,invoke,Act.eval]
 ·rw [←ho];rw [←ho] at h;exact hW _ rfl h
end
section
variable {Ty:Type} [DecidableEq Ty] {C:Ty→Type}
variable {P:Program} {X:Cx C} {w0 w:World} {nt:Nat} {S:St C} {β:Nat→Value} {fp:Nat→Nat→Prop} {a:Act} {R:Type} {k:St C→Option R} {r:R}
def rowsOf:List (Lf C)→List Value→List Value
 | .row _ _::r,u::us=>u::rowsOf r us
 | _::r,_::us=>rowsOf r us
 | _,_=>[]
def sW (P:Program) (K:Cd C) (f:Nat) (c:qd C):Prop:=
 (∃ fn,P.funcs[f]?=some fn∧fn.body.isNone=false∧fn.name ≠ "runtime.NumGoroutine") ∧
 ∀ (w0 w:World) (rs:List (Bool×List (Lf C))) (j6:List Value) (r0:c.R0) (G:Nat→Nat→Prop),K.inv w0→Below w0.heap.size w0 w→fF rs=true→j6.length=(flatten rs).length →
  (∀ m k,G m k→w0.heap.size≤k∧k<w.heap.size)→(∀ m m' k,G m k→G m' k→m=m') →
  (∀ (m:Nat) (l:Lf C),(flatten rs)[m]?=some l→l.plain=true∧Own K w w0.heap.size (G m) l (j6.getD m undef))→c.g rs=some r0 →
  Calls P f (dC rs j6).toArray w fun e w'=>∃ v,e = .returned v∧Below w0.heap.size w0 w'∧(∀ k,k<w.heap.size→(∀ m,¬ G m k)→k<w'.heap.size∧w'.heap[k]?=w.heap[k]?) ∧
   ∃ (mR:List Value) (G':Nat→Nat→Prop),v=pack (c.ret r0) mR∧mR.length=(flatten (c.ret r0)).length∧fF (c.ret r0)=true∧(c.out r0).length=(rowsOf (flatten rs) j6).length ∧
    (∀ m k,G' m k→((∃ m0,G m0 k)∨w.heap.size≤k)∧w0.heap.size≤k∧k<w'.heap.size)∧(∀ m m' k,G' m k→G' m' k→m=m') ∧
    ∀ (m:Nat) (l:Lf C),(c.out r0++flatten (c.ret r0))[m]?=some l→Own K w' w0.heap.size (G' m) l ((rowsOf (flatten rs) j6++mR).getD m undef)
theorem Qf {K:Cd C} {base:Nat} {F:Nat→Prop} (t:Ty):Own K w base F (.row t []) (.slice none 0 0):=
 .row F t [] _ [] (fun _ _ _=>False) (World.ownsRow_nil ..) (fun g hg=>by simp [Value.ownBlock] at hg) (fun _ _ _ h=>h.elim) (fun _ _ _ _ _ h=>h.elim) (fun j hj=>absurd hj (by simp))
theorem Qe {K:Cd C} {F0:Nat→Prop} {base:Nat} {t:Ty} {xs:List (C t)} {v:Value} {p:List (Nat×Nat)} {t':Ty} {zs:List (C t')} {v':Value}
  (h:nM K w F0 t xs v p t' zs v'):∀ F,Own K w base F (.row t xs) v→∃ F1,(∀ k,F1 k→F k)∧Own K w base F1 (.row t' zs) v' ∧
   ∀ (w':World) (JT:Nat→Prop) (l:Lf C),(∀ k,F k→¬ F1 k→w'.heap[k]?=w.heap[k]?)→(∀ k,JT k→F1 k∨¬ F k)→Own K w' base JT l v' →
    ∀ (R:Type) (kk:List (C t)→Option R) (r:R),setPath K p t xs l kk=some r→∃ xs',kk xs'=some r∧Own K w' base (fun k=>(F k∧¬ F1 k)∨JT k) (.row t xs') v:=by
 induction h with
 | nil t xs v=>
  intro F hO;refine ⟨F,fun _ h=>h,hO,fun w' JT l _ _ hl R kk r hs=>?_⟩
  cases l with
  | row t2 ys=>
   simp only [setPath] at hs;unfold kH at hs;split at hs
   ·rename_i Pb hy
    split at hy
    ·rename_i e _
     subst e;cases hy;exact ⟨ys,hs,hl.mono fun k hk=>.inr hk⟩
    ·cases hy
   ·cases hs
  | _=>simp [setPath] at hs
 | cons t xs v i o x t1 ys ad n c v1 p t' zs v' hx hl hv hF hc _ ih=>
  intro F hO
  cases hO with
  | row _ _ _ _ cells G0 h h1 h2 h3 h4=>
   have hi:=eD hx
   have qh:xs[i]=x:=by simpa [List.getElem?_eq_getElem hi] using hx
   have ho:o<K.sz t:=iG hl;have hpos:0<xs.length*K.sz t:=Nat.mul_pos (by omega) (K.pos t);obtain ⟨g,cap,e,hb,hn,hcell⟩:=j8 h hpos;have hv':=hv;rw [e] at hv';cases hv';have hm:i*K.sz t+o<xs.length*K.sz t:=iw hi ho;have Hr:=hcell _ hm;rw [hc] at Hr;cases Hr;obtain ⟨F1,a1,a2,a3⟩:=ih (G0 i o) (h4 i hi o _ (by rw [qh];exact hl));refine ⟨F1,fun k hk=>(h2 i o k (a1 k hk)).1,a2,fun w' JT l pX JP hlO R kk r hs=>?_⟩;simp only [setPath,hx,Option.bind_some,hl] at hs;obtain ⟨Pb,hk,hO'⟩:=a3 w' JT l (fun k hk hn=>pX k (h2 i o k hk).1 hn) (fun k hk=>(JP k hk).imp id fun hn hg=>hn (h2 i o k hg).1) hlO R _ r hs;split at hk
   ·rename_i y hy
    have henc:=K.js t _ _ hy;refine ⟨xs.set i y,hk,?_⟩
    have FA:∀ j i' k,G0 j i' k→¬ (j=i∧i'=o)→¬ F1 k:=fun j i' k hk hne hf=>hne (h3 j i' i o k hk (a1 k hf))
    have hsame:∀ j i' k,G0 j i' k→¬ (j=i∧i'=o)→w'.heap[k]?=w.heap[k]?:=fun j i' k hk hne=>pX k (h2 j i' k hk).1 (FA j i' k hk hne)
    refine .row _ t (xs.set i y) v cells (fun j i' k=>if j=i∧i'=o then (G0 i o k∧¬ F1 k)∨JT k else G0 j i' k) (by rw [List.length_set];exact lT h fun g hg=>pX g (h1 g hg) fun hf=>(h2 i o g (a1 g hf)).2 hg)
     (fun g hg=>.inl ⟨h1 g hg,fun hf=>(h2 i o g (a1 g hf)).2 hg⟩) (fun j i' k hk=>?_) (fun j i' j' i'' k hk hk'=>?_) (fun j hj i' l' hl'=>?_)
    ·split at hk
     ·rcases hk with ⟨hk,hn⟩ | hk
      ·exact ⟨.inl ⟨(h2 i o k hk).1,hn⟩,(h2 i o k hk).2⟩
      ·refine ⟨.inr hk,fun e=>?_⟩
       rcases JP k hk with hf | hf
       ·exact (h2 i o k (a1 k hf)).2 e
       ·exact hf (h1 k e)
     ·rename_i hne
      exact ⟨.inl ⟨(h2 j i' k hk).1,FA j i' k hk hne⟩,(h2 j i' k hk).2⟩
    ·have C1:∀ j i' k,G0 j i' k→((G0 i o k∧¬ F1 k)∨JT k)→j=i∧i'=o:=fun j i' k hk hk'=>by
      rcases hk' with hk' | hk'
      ·exact h3 j i' i o k hk hk'.1
      ·rcases JP k hk' with hf | hf
       ·exact h3 j i' i o k hk (a1 k hf)
       ·exact absurd (h2 j i' k hk).1 hf
     split at hk<;>split at hk'
     ·rename_i e1 e2;exact ⟨e1.1.trans e2.1.symm,e1.2.trans e2.2.symm⟩
     ·rename_i e1 e2;exact absurd (C1 j' i'' k hk' hk) e2
     ·rename_i e1 e2;exact absurd (C1 j i' k hk hk') e1
     ·exact h3 j i' j' i'' k hk hk'
    ·have gW:j<xs.length:=by simpa using hj
     by_cases ej:j=i
     ·subst ej
      have e1:(xs.set j y)[j]=y:=by simp
      rw [e1,henc] at hl'
      by_cases eo:i'=o
      ·subst eo
       simp only [and_self,if_true]
       have:((K.enc t x).set i' (Lf.row t1 Pb))[i']?=some (.row t1 Pb):=by
        rw [List.getElem?_set];simp [show i'<(K.enc t x).length by rw [K.gA];exact ho]
       rw [this] at hl';cases hl';exact hO'
      ·rw [List.getElem?_set,if_neg (fun e=>eo e.symm)] at hl'
       exact ((h4 j gW i' l' (by rw [qh];exact hl')).frame fun k hk=>hsame j i' k hk fun h=>eo h.2).mono fun k hk=>by rw [if_neg (fun h=>eo h.2)];exact hk
     ·have e1:(xs.set i y)[j]=xs[j]:=by
       rw [List.getElem_set,if_neg (fun e=>ej e.symm)]
      rw [e1] at hl'
      exact ((h4 j gW i' l' hl').frame fun k hk=>hsame j i' k hk fun h=>ej h.1).mono fun k hk=>by rw [if_neg (fun h=>ej h.1)];exact hk
   ·cases hk
def Ga (K:Cd C) (w:World) (base:Nat) (S:St C) (β:Nat→Value) (fp:Nat→Nat→Prop) (F1:Nat→Prop) (u:Value):rG→Prop
 | none=>∀ k,¬ F1 k
 | some (id,p)=>∃ (t:Ty) (xs:List (C t)),lk S.ah id=some (.row t xs false)∧(∀ k,F1 k→fp id k) ∧
   ∀ (w':World) (JT:Nat→Prop) (l:Lf C),(∀ k,fp id k→¬ F1 k→w'.heap[k]?=w.heap[k]?)→(∀ k,JT k→F1 k∨¬ fp id k)→Own K w' base JT l u →
    ∀ (R:Type) (kk:List (C t)→Option R) (r:R),setPath K p t xs l kk=some r→∃ xs',kk xs'=some r∧Own K w' base (fun k=>(fp id k∧¬ F1 k)∨JT k) (.row t xs') (β id)
theorem Qg (hs:dc X.K w0 nt S β fp a w) {l:Lf C} {u:Value} (hl:db X.K w S.ah β fp (aH S.ah fp w) l u) {kk:Lf C→rG→Option R} (h:E8 X S l kk=some r) :
  ∃ (l':Lf C) (tg:rG) (F1:Nat→Prop),kk l' tg=some r∧l'.plain=true∧Own X.K w w0.heap.size F1 l' u∧Ga X.K w w0.heap.size S β fp F1 u tg:=by
 cases l with
 | ref id p=>
  simp only [E8] at h;split at h
  ·rename_i t xs ho
   have fO:Own X.K w w0.heap.size (fp id) (.row t xs) (β id):=hs.ah id _ ho
   have fin:∀ (t':Ty) (zs:List (C t')),nM X.K w (fp id) t xs (β id) p t' zs u→∃ (l':Lf C) (tg:rG) (F1:Nat→Prop),kk l' tg=some r∧l'.plain=true∧Own X.K w w0.heap.size F1 l' u∧Ga X.K w w0.heap.size S β fp F1 u tg:=fun t' zs hp=>by
    obtain ⟨F1,a1,a2,a3⟩:=Qe hp (fp id) fO;exact ⟨.row t' zs,some (id,p),F1,mz hp h,rfl,a2,t,xs,ho,a1,a3⟩
   cases p with
   | nil=>
    have e:u=β id:=hl.2;subst e;exact fin t xs (.nil ..)
   | cons s p=>
    obtain ⟨_,t',zs,hp⟩:=hl.2 t xs false ho;exact fin t' zs hp
  ·cases h
 | nil t=>
  have e:u = .slice none 0 0:=hl;subst e;exact ⟨.row t [],none,fun _=>False,h,rfl,Qf t,fun _ h=>h⟩
 | int ki n=>have e:u=_:=hl;subst e;exact ⟨_,none,fun _=>False,h,rfl,.int ..,fun _ h=>h⟩
 | bool b=>have e:u=_:=hl;subst e;exact ⟨_,none,fun _=>False,h,rfl,.bool ..,fun _ h=>h⟩
 | str s=>have e:u=_:=hl;subst e;exact ⟨_,none,fun _=>False,h,rfl,.str ..,fun _ h=>h⟩
 | _=>simp [E8] at h
def wy (K:Cd C) (w:World) (base:Nat) (S:St C) (β:Nat→Value) (fp G:Nat→Nat→Prop) (ls:List (Lf C)) (ts:List rG) (us:List Value):Prop:=
 us.length=ls.length∧ts.length=ls.length∧∀ (m:Nat) (l:Lf C),ls[m]?=some l→l.plain=true∧Own K w base (G m) l (us.getD m undef)∧∃ tg,ts[m]?=some tg∧Ga K w base S β fp (G m) (us.getD m undef) tg
theorem kT {K:Cd C} {base:Nat} {G G':Nat→Nat→Prop} {ls ls':List (Lf C)} {ts ts':List rG} {us mM:List Value} (h:wy K w base S β fp G ls ts us) (h':wy K w base S β fp G' ls' ts' mM) :
  wy K w base S β fp (fun m=>if m<ls.length then G m else G' (m-ls.length)) (ls++ls') (ts++ts') (us++mM):=by
 refine ⟨by simp [h.1,h'.1],by simp [h.2.1,h'.2.1],fun m l hm=>?_⟩
 rcases AD hm with ⟨hj,hx⟩ | ⟨hj,hx⟩
 ·have:=h.2.2 m l hx
  have e1:(us++mM).getD m undef=us.getD m undef:=by simp [List.getD,List.getElem?_append_left (by rw [h.1];exact hj:m<us.length)]
  have e2:(ts++ts')[m]?=ts[m]?:=List.getElem?_append_left (by rw [h.2.1];exact hj);simp only [hj,if_true,e1,e2];exact this
 ·have:=h'.2.2 _ l hx
  have e1:(us++mM).getD m undef=mM.getD (m-ls.length) undef:=by simp [List.getD,List.getElem?_append_right (by rw [h.1];exact hj:us.length≤m),h.1]
  have e2:(ts++ts')[m]?=ts'[m-ls.length]?:=by rw [List.getElem?_append_right (by rw [h.2.1];exact hj),h.2.1]
  rw [e1,e2];simp only [show ¬ m<ls.length by omega,if_false];exact this
theorem nU (hs:dc X.K w0 nt S β fp a w):∀ {ls:List (Lf C)} {us:List Value} {kk:List (Lf C)→List rG→Option R},cT X.K w S.ah β fp (aH S.ah fp w) ls us→pB X S ls kk=some r →
  ∃ (ls':List (Lf C)) (ts:List rG) (G:Nat→Nat→Prop),kk ls' ts=some r∧ls'.length=ls.length∧wy X.K w w0.heap.size S β fp G ls' ts us
 | [],us,kk,hl,h=>⟨[],[],fun _ _=>False,h,rfl,by rw [hl.1],rfl,fun m l hm=>by simp at hm⟩
 | l::ls,us,kk,hl,h=>by
  obtain ⟨u,us,rfl⟩:∃ u mM,us=u::mM:=by
   cases us with
   | nil=>have:=hl.1;simp at this
   | cons u us=>exact ⟨u,us,rfl⟩
  simp only [pB] at h;obtain ⟨l',tg,F1,h1,h2,h3,h4⟩:=Qg hs (hl.2 0 l rfl) h;have hl1:cT X.K w S.ah β fp (aH S.ah fp w) ls us:=⟨by have:=hl.1;simpa using this,fun i l' hi=>hl.2 (i+1) l' (by simpa using hi)⟩;obtain ⟨ls',ts,G,q1,q2,q3⟩:=nU hs hl1 h1
  have h0:wy X.K w w0.heap.size S β fp (fun _=>F1) [l'] [tg] [u]:=⟨rfl,rfl,fun m l hm=>by
   cases m with
   | zero=>simp at hm;subst hm;exact ⟨h2,h3,tg,rfl,h4⟩
   | succ m=>simp at hm⟩
  exact ⟨l'::ls',tg::ts,_,q1,by simp [q2],kT h0 q3⟩
theorem rW (hs:dc X.K w0 nt S β fp a w):∀ {xs:List Operand} {ts:List TypeId} {kk:List (Bool×List (Lf C))→List rG→Option R},nV X S xs ts kk=some r →
  ∃ (rs:List (Bool×List (Lf C))) (tg:List rG) (us:List Value) (G:Nat→Nat→Prop),kk rs tg=some r∧fF rs=true∧xs.map a.eval=dC rs us∧wy X.K w w0.heap.size S β fp G (flatten rs) tg us
 | [],ts,kk,h=>⟨[],[],[],fun _ _=>False,h,rfl,rfl,rfl,rfl,fun m l hm=>by simp [flatten] at hm⟩
 | x::xs,ts,kk,h=>by
  simp only [nV] at h;split at h
  ·rename_i l hv
   have hv:db X.K w S.ah β fp (aH S.ah fp w) l (a.eval x):=dM hs hv
   obtain ⟨ls',t1,G1,h1,h2,h3⟩:=nU hs (ls:=[l]) (us:=[a.eval x]) ⟨rfl,fun i l' hi=>by cases i with | zero=>simp at hi;subst hi;exact hv | succ i=>simp at hi⟩ h
   obtain ⟨rs,tg,us,G,q1,q2,q3,q4⟩:=rW hs h1;have hlen:ls'.length=1:=h2;refine ⟨(false,ls')::rs,t1++tg,[a.eval x]++us,_,q1,by simp [fF,hlen,q2],?_,kT h3 q4⟩;simp [dC,lJ,hlen,q3]
  ·rename_i ls hv
   obtain ⟨wX,e,hl⟩:=dM hs hv;obtain ⟨ls',t1,G1,h1,h2,h3⟩:=nU hs hl h;obtain ⟨rs,tg,us,G,q1,q2,q3,q4⟩:=rW hs h1;refine ⟨(true,ls')::rs,t1++tg,wX++us,_,q1,by simp [fF,q2],?_,kT h3 q4⟩;have e1:wX.length=ls'.length:=h3.1;simp [dC,lJ,← e1,q3,e]
  ·cases h
end
section
variable {Ty:Type} [DecidableEq Ty] {C:Ty→Type}
variable {P:Program} {X:Cx C} {w0 w:World} {nt:Nat} {S:St C} {β:Nat→Value} {fp:Nat→Nat→Prop} {a:Act} {R:Type} {k:St C→Option R} {r:R}
variable {Q:Exit→Act→World→Prop}
def rR:Lf C→Bool
 | .ref _ (_::_)=>true
 | .ep .. =>true
 | .sub .. =>true
 | _=>false
section
variable {K:Cd C} {w':World} {ah dX:cW C} {eK:Nat→Value} {eJ:Nat→Nat→Prop} {cM eH:Nat→Prop}
theorem db.Kk {l:Lf C} {v:Value} (h:db K w ah β fp cM l v) (hst:∀ k,cM k→eH k∧w'.heap[k]?=w.heap[k]?) (Fw:∀ id,id∈fq l→eK id=β id)
  (hk:∀ id,id∈fq l→rR l=true→iQ w w' ah dX β eK fp eJ id):db K w' dX eK eJ eH l v:=by
 cases l with
 | ptr id off=>obtain ⟨b,h1,h2⟩:=h;exact ⟨b,(Fw id (by simp [fq])).trans h1,h2⟩
 | vo id=>exact ⟨h.1,h.2.trans (Fw id (by simp [fq])).symm⟩
 | ref id p=>
  cases p with
  | nil=>exact ⟨h.1,h.2.trans (Fw id (by simp [fq])).symm⟩
  | cons s p=>exact h.tr hst fun id hi=>hk id hi rfl
 | ep id p i o=>exact h.tr hst fun id hi=>hk id hi rfl
 | sub id lo hi=>exact h.tr hst fun id hi=>hk id hi rfl
 | _=>exact h.tr hst fun id hi=>by simp [fq] at hi
theorem cT.Kk {ls:List (Lf C)} {vs:List Value} (h:cT K w ah β fp cM ls vs) (hst:∀ k,cM k→eH k∧w'.heap[k]?=w.heap[k]?) (Fw:∀ l,l∈ls→∀ id,id∈fq l→eK id=β id)
  (hk:∀ l,l∈ls→∀ id,id∈fq l→rR l=true→iQ w w' ah dX β eK fp eJ id):cT K w' dX eK eJ eH ls vs:=
 ⟨h.1,fun i l hl=>(h.2 i l hl).Kk hst (Fw l (List.mem_of_getElem? hl)) (hk l (List.mem_of_getElem? hl))⟩
def oI:SV C→List (Lf C)
 | .one l=>[l]
 | .agg ls=>ls
 | .qg vs=>vs.flatMap (·.2)
 | .bQ x _=>x.2
 | _=>[]
theorem dD.Kk {x:SV C} {v:Value} (h:dD K w ah β fp cM x v) (hst:∀ k,cM k→eH k∧w'.heap[k]?=w.heap[k]?) (Fw:∀ id,id∈fG x→eK id=β id)
  (hk:∀ l,l∈oI x→∀ id,id∈fq l→rR l=true→iQ w w' ah dX β eK fp eJ id):dD K w' dX eK eJ eH x v:=by
 cases x with
 | one l=>exact db.Kk h hst Fw (hk l (by simp [oI]))
 | agg ls=>
  obtain ⟨vs,h1,h2⟩:=h;exact ⟨vs,h1,h2.Kk hst (fun l hl id hi=>Fw id (by obtain ⟨i,eR,rfl⟩:=List.getElem_of_mem hl;exact eN (i:=i) (by simp [eR]) hi)) fun l hl=>hk l hl⟩
 | qg xs=>
  obtain ⟨vs,h1,h2,h3⟩:=h;refine ⟨vs,h1,h2,fun i x hx=>?_⟩;have hmem:=List.mem_of_getElem? hx
  have hm:∀ id,id∈ey x.2→id∈tL xs:=by
   clear h3 h2 h1 Fw hk hmem
   induction xs generalizing i with
   | nil=>simp at hx
   | cons y r ih=>
    intro id hi;obtain ⟨b,ls⟩:=y;simp only [tL,List.mem_append]
    cases i with
    | zero=>simp at hx;subst hx;exact .inl hi
    | succ i=>simp at hx;exact .inr (ih i hx id hi)
  have hin:∀ l,l∈x.2→l∈oI (.qg xs):=fun l hl=>by simp only [oI,List.mem_flatMap];exact ⟨x,hmem,hl⟩
  have Cz:∀ l,l∈x.2→∀ id,id∈fq l→eK id=β id:=fun l hl id hi=>Fw id (hm id (by obtain ⟨i,eR,rfl⟩:=List.getElem_of_mem hl;exact eN (i:=i) (by simp [eR]) hi))
  have:=h3 i x hx;obtain ⟨b,ls⟩:=x
  cases b with
  | false=>
   obtain ⟨l,h1,h2⟩:=this;subst h1;exact ⟨l,rfl,h2.Kk hst (Cz l (by simp)) (hk l (hin l (by simp)))⟩
  | true=>obtain ⟨vs,h1,h2⟩:=this;exact ⟨vs,h1,h2.Kk hst Cz fun l hl=>hk l (hin l hl)⟩
 | mN=>exact h
 | jf id j=>exact (Fw id (by simp [fG])).trans h
 | frame=>exact fun k hk=>⟨(hst k (h k hk).1).1,(hst k (h k hk).1).2.trans (h k hk).2⟩
 | bQ x j=>
  obtain ⟨b,ls⟩:=x
  cases b with
  | false=>
   obtain ⟨l,h1,h2⟩:=h;have h1:ls=[l]:=h1;subst h1;exact ⟨l,rfl,h2.Kk hst (fun id hi=>Fw id (by simpa [fG,ey] using hi)) (hk l (by simp [oI]))⟩
  | true=>obtain ⟨vs,h1,h2⟩:=h;exact ⟨vs,h1,h2.Kk hst (fun l hl id hi=>Fw id (by obtain ⟨i,eR,rfl⟩:=List.getElem_of_mem hl;exact eN (i:=i) (by simp [eR]) hi)) fun l hl=>hk l hl⟩
theorem dc.write (hs:dc K w0 nt S β fp a w) {S':St C} (hb:Below w0.heap.size w0 w') (U:Nat→Prop)
  (hst:∀ k,aH S.ah fp w k→aH S'.ah eJ w' k∧w'.heap[k]?=w.heap[k]?)
  (hkeep:∀ id ob,¬ U id→lk S'.ah id=some ob→lk S.ah id=some ob∧eJ id=fp id∧∀ k,fp id k→k<w'.heap.size∧w'.heap[k]?=w.heap[k]?)
  (hβo:∀ id ob,¬ U id→lk S'.ah id=some ob→eK id=β id∧∀ kd ls,ob = .box kd ls→∀ i,i∈ey ls→eK i=β i)
  (hβe:∀ t v,lk S'.env t=some v→∀ i,i∈fG v→eK i=β i)
  (hfresh:∀ id ob k,U id→lk S'.ah id=some ob→eJ id k→w0.heap.size≤k∧k<w'.heap.size)
  (hdisj:∀ id gM ob dY k,(U id∨U gM)→lk S'.ah id=some ob→lk S'.ah gM=some dY→eJ id k→eJ gM k→id=gM)
  (hU:∀ id ob,U id→lk S'.ah id=some ob→∃ t xs,ob = .row t xs false∧Own K w' w0.heap.size (eJ id) (.row t xs) (eK id))
  (CF:∀ id kd ls,¬ U id→lk S'.ah id=some (.box kd ls)→∀ l,l∈ls→rR l=true→∀ i,i∈fq l→¬ U i)
  (henv:∀ t v,lk S'.env t=some v→lk S.env t=some v∧∀ l,l∈oI v→rR l=true→∀ i,i∈fq l→¬ U i):dc K w0 nt S' eK eJ a w':=by
 have keeps:∀ i,¬ U i→eK i=β i→iQ w w' S.ah S'.ah β eK fp eJ i:=fun i hi hn=>by
  refine ⟨hn,fun t xs sh ho=>?_⟩;obtain ⟨h1,h2,h3⟩:=hkeep i _ hi ho;exact ⟨h1,fun k hk=>⟨by rw [h2];exact hk,(h3 k hk).2⟩⟩
 refine ⟨hb,hs.defers,hs.size,fun id ob k ho hk=>?_,fun id gM ob dY k ho ib hk hk'=>?_,fun id ob ho=>?_,fun t v ht=>?_⟩
 ·by_cases hu:U id
  ·exact hfresh id ob k hu ho hk
  ·obtain ⟨h1,h2,h3⟩:=hkeep id ob hu ho
   rw [h2] at hk;exact ⟨(hs.fresh id ob k h1 hk).1,(h3 k hk).1⟩
 ·by_cases hu:U id∨U gM
  ·exact hdisj id gM ob dY k hu ho ib hk hk'
  ·obtain ⟨h1,h2,_⟩:=hkeep id ob (fun h=>hu (.inl h)) ho
   obtain ⟨lZ,xj,_⟩:=hkeep gM dY (fun h=>hu (.inr h)) ib;rw [h2] at hk;rw [xj] at hk';exact hs.eM id gM ob dY k h1 lZ hk hk'
 ·by_cases hu:U id
  ·obtain ⟨t,xs,rfl,h⟩:=hU id ob hu ho
   exact h
  ·obtain ⟨h1,h2,h3⟩:=hkeep id ob hu ho
   obtain ⟨hn,hn2⟩:=hβo id ob hu ho;have fO:=hs.ah id ob h1;rw [h2,hn]
   cases ob with
   | row t xs sh=>exact fO.tr hst (fun k hk=>(h3 k hk).2) (fun _ ls e=>by cases e)
   | map mk kt vt xs c=>exact fO.tr hst (fun k hk=>(h3 k hk).2) (fun _ ls e=>by cases e)
   | ghost=>exact fO.tr hst (fun k hk=>(h3 k hk).2) (fun _ ls e=>by cases e)
   | box kd ls=>
    have hin:∀ l,l∈ls→∀ i,i∈fq l→i∈ey ls:=fun l hl i hi=>by
     obtain ⟨j,hj,rfl⟩:=List.getElem_of_mem hl;exact eN (i:=j) (by simp [hj]) hi
    have go:∀ {us:List Value},cT K w S.ah β fp (aH S.ah fp w) ls us→cT K w' S'.ah eK eJ (aH S'.ah eJ w') ls us:=fun q4=>q4.Kk hst (fun l hl i hi=>hn2 _ ls rfl i (hin l hl i hi)) fun l hl i hi hp=>keeps i (CF id _ ls hu ho l hl hp i hi) (hn2 _ ls rfl i (hin l hl i hi))
    cases kd with
    | mem=>
     obtain ⟨b,cs,e,q1,q2,q3,q4⟩:=fO;exact ⟨b,cs,e,q1,((h3 b ((q3 b).2 rfl)).2).trans q2,q3,go q4⟩
    | sM f n sh=>obtain ⟨us,q1,q2,q3⟩:=fO;exact ⟨us,q1,q2,go q3⟩
    | lX t sh=>obtain ⟨us,q1,q2,q3⟩:=fO;exact ⟨us,q1,q2,go q3⟩
 ·obtain ⟨h1,h2⟩:=henv t v ht
  refine (hs.env t v h1).Kk hst (fun i hi=>hβe t v ht i hi) fun l hl i hi hp=>keeps i (h2 l hl hp i hi) (hβe t v ht i ?_)
  cases v with
  | one l'=>simp only [oI,List.mem_singleton] at hl;subst hl;exact hi
  | agg ls=>
   have hl:l∈ls:=hl;obtain ⟨j,hj,rfl⟩:=List.getElem_of_mem hl;exact eN (i:=j) (by simp [hj]) hi
  | qg xs=>
   simp only [oI,List.mem_flatMap] at hl;obtain ⟨x,hx,hl⟩:=hl;show i∈tL xs;clear h2 ht h1 hp
   induction xs with
   | nil=>cases hx
   | cons y r ih=>
    obtain ⟨b,ls⟩:=y;simp only [tL,List.mem_append]
    rcases List.mem_cons.1 hx with e | hx
    ·subst e;left;obtain ⟨j,hj,rfl⟩:=List.getElem_of_mem hl;exact eN (i:=j) (by simp [hj]) hi
    ·exact .inr (ih hx)
  | bQ x j=>
   have hl:l∈x.2:=hl;obtain ⟨m,hm,rfl⟩:=List.getElem_of_mem hl;exact eN (i:=m) (by simp [hm]) hi
  | _=>simp [oI] at hl
end
theorem rX:∀ {l:List Nat},vn l=true→l.Nodup
 | [],_=>List.nodup_nil
 | n::r,h=>by
  simp only [vn,Bool.and_eq_true,Bool.not_eq_true'] at h;refine List.nodup_cons.2 ⟨fun hm=>?_,rX h.2⟩;have:=List.any_eq_false.1 h.1 n hm;exact this (Nat.beq_refl n)
theorem kX:∀ {ts:List rG} {id:Nat},id∈fD ts↔∃ (m:Nat) (p:List (Nat×Nat)),ts[m]?=some (some (id,p))
 | [],id=>by simp [fD]
 | none::ts,id=>by
  simp only [fD];rw [kX (ts:=ts)];constructor
  ·rintro ⟨m,p,h⟩;exact ⟨m+1,p,by simpa using h⟩
  ·rintro ⟨m,p,h⟩
   cases m with
   | zero=>simp at h
   | succ m=>exact ⟨m,p,by simpa using h⟩
 | some (i,p0)::ts,id=>by
  simp only [fD,List.mem_cons];rw [kX (ts:=ts)];constructor
  ·rintro (e | ⟨m,p,h⟩)
   ·exact ⟨0,p0,by rw [e];rfl⟩
   ·exact ⟨m+1,p,by simpa using h⟩
  ·rintro ⟨m,p,h⟩
   cases m with
   | zero=>simp at h;exact .inl h.1.symm
   | succ m=>exact .inr ⟨m,p,by simpa using h⟩
theorem qo:∀ {ts:List rG},(fD ts).Nodup→∀ {id m m':Nat} {p p':List (Nat×Nat)},ts[m]?=some (some (id,p))→ts[m']?=some (some (id,p'))→m=m'
 | [],_,id,m,m',p,p',h,_=>by simp at h
 | none::ts,hn,id,m,m',p,p',h,h'=>by
  cases m with
  | zero=>simp at h
  | succ m=>cases m' with
   | zero=>simp at h'
   | succ m'=>have:=qo (ts:=ts) hn (by simpa using h) (by simpa using h');omega
 | some (i,p0)::ts,hn,id,m,m',p,p',h,h'=>by
  simp only [fD] at hn;obtain ⟨h1,h2⟩:=List.nodup_cons.1 hn
  cases m with
  | zero=>cases m' with
   | zero=>rfl
   | succ m'=>
    simp at h;obtain ⟨rfl,_⟩:=h;exact absurd (kX.2 ⟨m',p',by simpa using h'⟩) h1
  | succ m=>cases m' with
   | zero=>
    simp at h';obtain ⟨rfl,_⟩:=h';exact absurd (kX.2 ⟨m,p,by simpa using h⟩) h1
   | succ m'=>have:=qo (ts:=ts) h2 (by simpa using h) (by simpa using h');omega
structure Uc (X:Cx C) (w0 w':World) (S:St C) (β:Nat→Value) (fp G G':Nat→Nat→Prop) (ts:List rG) (j n:Nat) (S1 S2:St C) (φ Ev:Nat→Nat→Prop) (J M:Nat→Nat):Prop where
 env:S2.env=S1.env
 base:S2.base=S1.base
 other:∀ id,id∉fD ts→lk S2.ah id=lk S1.ah id∧Ev id=φ id
 TT:∀ id,id∈fD ts→j≤J id∧J id<j+n∧(∃ p,ts[M id]?=some (some (id,p)))∧(∃ t xs,lk S2.ah id=some (.row t xs false)∧Own X.K w' w0.heap.size (Ev id) (.row t xs) (β id)) ∧
  ∀ k,Ev id k→(fp id k∧¬ G (M id) k)∨G' (J id) k
 inj:∀ id gM,id∈fD ts→gM∈fD ts→J id=J gM→id=gM
theorem IU {w':World} {kk:St C→Option R} {G':Nat→Nat→Prop}:∀ (ls:List (Lf C)) (ts:List rG) (os:List (Lf C)) (us:List Value) (G:Nat→Nat→Prop) (j:Nat) (S1:St C) (φ:Nat→Nat→Prop),
  us.length=ls.length→(∀ (m:Nat) (l:Lf C),ls[m]?=some l→∃ tg,ts[m]?=some tg∧Ga X.K w w0.heap.size S β fp (G m) (us.getD m undef) tg) →
  (∀ (m id:Nat) (p:List (Nat×Nat)),ts[m]?=some (some (id,p))→(∀ k,fp id k→¬ G m k→w'.heap[k]?=w.heap[k]?)∧∀ j k,G' j k→G m k∨¬ fp id k) →
  (∀ (i:Nat) (l:Lf C),os[i]?=some l→Own X.K w' w0.heap.size (G' (j+i)) l ((rowsOf ls us).getD i undef))→(fD ts).Nodup→(∀ id,id∈fD ts→lk S1.ah id=lk S.ah id) →
  eh X.K ls ts os S1 kk=some r→∃ (S2:St C) (Ev:Nat→Nat→Prop) (J M:Nat→Nat),kk S2=some r∧Uc X w0 w' S β fp G G' ts j os.length S1 S2 φ Ev J M:=by
 intro ls
 induction ls with
 | nil=>
  intro ts os us G j S1 φ hl htg pX hos hnd Jm h
  cases ts with
  | cons _ _=>simp [eh] at h
  | nil=>cases os with
   | cons _ _=>simp [eh] at h
   | nil=>exact ⟨S1,φ,id,id,h,rfl,rfl,fun id _=>⟨rfl,rfl⟩,fun id hi=>by simp [fD] at hi,fun id gM hi=>by simp [fD] at hi⟩
 | cons l ls ih=>
  intro ts os us G j S1 φ hl htg pX hos hnd Jm h
  obtain ⟨u,us,rfl⟩:∃ u mM,us=u::mM:=by
   cases us with
   | nil=>simp at hl
   | cons u us=>exact ⟨u,us,rfl⟩
  have hl':us.length=ls.length:=by simpa using hl
  cases ts with
  | nil=>cases l<;>simp [eh] at h
  | cons tg ts=>
   have htg':∀ (m:Nat) (l:Lf C),ls[m]?=some l→∃ tg,ts[m]?=some tg∧Ga X.K w w0.heap.size S β fp (G (m+1)) (us.getD m undef) tg:=fun m l hm=>by
    have:=htg (m+1) l (by simpa using hm)
    simpa using this
   have hfr':∀ (m id:Nat) (p:List (Nat×Nat)),ts[m]?=some (some (id,p))→(∀ k,fp id k→¬ G (m+1) k→w'.heap[k]?=w.heap[k]?)∧∀ j k,G' j k→G (m+1) k∨¬ fp id k:=fun m id p hm=>pX (m+1) id p (by simpa using hm)
   have plain:∀ (os':List (Lf C)) (j':Nat),tg=none→(∀ (i:Nat) (l:Lf C),os'[i]?=some l→Own X.K w' w0.heap.size (G' (j'+i)) l ((rowsOf ls us).getD i undef))→j≤j'→j'+os'.length≤j+os.length →
     eh X.K ls ts os' S1 kk=some r→∃ (S2:St C) (Ev:Nat→Nat→Prop) (J M:Nat→Nat),kk S2=some r∧Uc X w0 w' S β fp G G' (tg::ts) j os.length S1 S2 φ Ev J M:=by
    intro os' j' e hos' h1 h2 hp;subst e;obtain ⟨S2,Ev,J,M,q1,q2⟩:=ih ts os' us (fun m=>G (m+1)) j' S1 φ hl' htg' hfr' hos' (by simpa [fD] using hnd) (fun id hi=>Jm id (by simpa [fD] using hi)) hp;refine ⟨S2,Ev,J,fun id=>M id+1,q1,q2.env,q2.base,fun id hi=>q2.other id (by simpa [fD] using hi),fun id hi=>?_,fun id gM hi eR=>q2.inj id gM (by simpa [fD] using hi) (by simpa [fD] using eR)⟩;obtain ⟨a1,a2,a3,a4,a5⟩:=q2.TT id (by simpa [fD] using hi);exact ⟨by omega,by omega,by simpa using a3,a4,a5⟩
   cases l with
   | row t0 EA=>
    cases os with
    | nil=>cases tg with
     | none=>simp [eh] at h
     | some x=>obtain ⟨id,p⟩:=x;simp [eh] at h
    | cons l1 os=>
     have hos1:∀ (i:Nat) (l:Lf C),os[i]?=some l→Own X.K w' w0.heap.size (G' (j+1+i)) l ((rowsOf ls us).getD i undef):=fun i l hi=>by
      have:=hos (i+1) l (by simpa using hi);rw [show j+1+i=j+(i+1) by omega]
      simpa [rowsOf] using this
     cases tg with
     | none=>exact plain os (j+1) rfl hos1 (by omega) (by simp;omega) (by simpa [eh] using h)
     | some x=>
      obtain ⟨id,p⟩:=x;simp only [fD] at hnd Jm;obtain ⟨hnd1,hnd2⟩:=List.nodup_cons.1 hnd;obtain ⟨tg',e,htg0⟩:=htg 0 _ rfl
      have e:some (id,p)=tg':=by simpa using e
      subst e;obtain ⟨ht,xs,ho,hsub,hset⟩:=htg0;simp only [eh] at h;rw [Jm id (by simp),ho] at h;simp only at h;obtain ⟨f1,f2⟩:=pX 0 id p rfl;have hO:=hos 0 l1 rfl;obtain ⟨xs',hk,hown⟩:=hset w' (G' j) l1 f1 (fun k hk=>f2 j k hk) (by simpa [rowsOf] using hO) R _ r h
      obtain ⟨S2,Ev,J,M,q1,q2⟩:=ih ts os us (fun m=>G (m+1)) (j+1) _ (upd φ id fun k=>(fp id k∧¬ G 0 k)∨G' j k) hl' htg' hfr' hos1 hnd2 (fun i hi=>by
       have hne:i≠id:=fun e=>hnd1 (e▸hi)
       simp only [St.setObj,aN,if_neg hne]
       exact Jm i (by simp [hi])) hk
      obtain ⟨o1,o2⟩:=q2.other id hnd1;refine ⟨S2,Ev,upd J id j,fun i=>if i=id then 0 else M i+1,q1,q2.env,q2.base,fun i hi=>?_,fun i hi=>?_,fun i i' hi eR e=>?_⟩
      ·simp only [fD,List.mem_cons,not_or] at hi
       obtain ⟨h1,h2⟩:=q2.other i hi.2;simp only [St.setObj,aN,if_neg hi.1] at h1;exact ⟨h1,h2.trans (dE _ _ hi.1)⟩
      ·by_cases e:i=id
       ·subst e
        simp only [cZ,if_true];refine ⟨Nat.le_refl _,by simp,⟨p,rfl⟩,⟨ht,xs',by rw [o1];simp [St.setObj,aN],by rw [o2,cZ];exact hown⟩,fun k hk=>?_⟩;rw [o2,cZ] at hk;exact hk
       ·simp only [fD,List.mem_cons] at hi
        obtain ⟨a1,a2,a3,a4,a5⟩:=q2.TT i (hi.resolve_left e);simp only [dE _ _ e,if_neg e];exact ⟨by omega,by simp;omega,by simpa using a3,a4,a5⟩
      ·simp only [fD,List.mem_cons] at hi eR
       by_cases e1:i=id<;>by_cases e2:i'=id
       ·rw [e1,e2]
       ·subst e1
        rw [cZ,dE _ _ e2] at e;have:=(q2.TT i' (eR.resolve_left e2)).1;omega
       ·subst e2
        rw [cZ,dE _ _ e1] at e;have:=(q2.TT i (hi.resolve_left e1)).1;omega
       ·rw [dE _ _ e1,dE _ _ e2] at e
        exact q2.inj i i' (hi.resolve_left e1) (eR.resolve_left e2) e
   | int ki n=>
    cases tg with
    | none=>exact plain os j rfl (fun i l hi=>by simpa [rowsOf] using hos i l hi) (Nat.le_refl _) (Nat.le_refl _) (by simpa [eh] using h)
    | some x=>simp [eh] at h
   | bool b=>
    cases tg with
    | none=>exact plain os j rfl (fun i l hi=>by simpa [rowsOf] using hos i l hi) (Nat.le_refl _) (Nat.le_refl _) (by simpa [eh] using h)
    | some x=>simp [eh] at h
   | str b=>
    cases tg with
    | none=>exact plain os j rfl (fun i l hi=>by simpa [rowsOf] using hos i l hi) (Nat.le_refl _) (Nat.le_refl _) (by simpa [eh] using h)
    | some x=>simp [eh] at h
   | _=>cases tg<;>simp [eh] at h
end
section
variable {Ty:Type} [DecidableEq Ty] {C:Ty→Type}
variable {P:Program} {X:Cx C} {w0 w:World} {nt:Nat} {S:St C} {β:Nat→Value} {fp:Nat→Nat→Prop} {a:Act} {R:Type} {k:St C→Option R} {r:R}
variable {Q:Exit→Act→World→Prop}
theorem pS {α:Type}:∀ {l:List (Nat×α)} {n:Nat} {v:α},lk l n=some v→(n,v)∈l
 | [],n,v,h=>by simp [lk] at h
 | (m,x)::l,n,v,h=>by
  rw [aN] at h;split at h
  ·rename_i e;cases h;subst e;simp
  ·exact List.mem_cons_of_mem _ (pS h)
theorem pJ {ids:List Nat}:∀ {E:List (Nat×SV C)} {t:Nat} {v:SV C},lk (lH ids E) t=some v→lk E t=some v∧zB ids v=false
 | [],t,v,h=>by simp [lH,lk] at h
 | (m,x)::E,t,v,h=>by
  simp only [lH] at h
  cases hx:zB ids x with
  | true=>
   rw [hx,cond_true,lg] at h;split at h
   ·cases h
   ·rename_i hne
    obtain ⟨h1,h2⟩:=pJ h;exact ⟨by rw [aN,if_neg hne];exact h1,h2⟩
  | false=>
   rw [hx,cond_false,aN] at h;rw [aN];split at h
   ·rename_i e
    cases h;exact ⟨by rw [if_pos e],hx⟩
   ·rename_i e
    obtain ⟨h1,h2⟩:=pJ h;exact ⟨by rw [if_neg e];exact h1,h2⟩
theorem any_beq {n:Nat} {l:List Nat} (h:l.any (Nat.beq n)=false):n∉l:=fun hm=>List.any_eq_false.1 h n hm (Nat.beq_refl n)
theorem xE {ids:List Nat} {l:Lf C} (h:jD ids l=false) (hp:rR l=true):∀ i,i∈fq l→i∉ids:=by
 intro i hi
 cases l with
 | ref j p=>
  cases p with
  | nil=>cases hp
  | cons s p=>simp only [fq,List.mem_singleton] at hi;subst hi;exact any_beq h
 | ep j p n o=>simp only [fq,List.mem_singleton] at hi;subst hi;exact any_beq h
 | sub j lo eR=>simp only [fq,List.mem_singleton] at hi;subst hi;exact any_beq h
 | _=>cases hp
theorem Iq {ids:List Nat} {v:SV C} (h:zB ids v=false):∀ l,l∈oI v→jD ids l=false:=by
 intro l hl
 cases v with
 | one l'=>simp only [oI,List.mem_singleton] at hl;subst hl;exact h
 | agg ls=>
  have:=List.any_eq_false.1 (h:ls.any (jD ids)=false) l hl
  simpa using this
 | qg xs=>
  simp only [oI,List.mem_flatMap] at hl;obtain ⟨x,hx,hl⟩:=hl;have h1:=List.any_eq_false.1 (h:(xs.any fun x=>x.2.any (jD ids))=false) x hx
  have h1:x.2.any (jD ids)=false:=by simpa using h1
  have:=List.any_eq_false.1 h1 l hl
  simpa using this
 | bQ x j=>
  have hl:l∈x.2:=hl;have:=List.any_eq_false.1 (h:x.2.any (jD ids)=false) l hl
  simpa using this
 | _=>simp [oI] at hl
theorem Di {v:SV C} {l:Lf C} (hl:l∈oI v) {i:Nat} (hi:i∈fq l):i∈fG v:=by
 cases v with
 | one l'=>simp only [oI,List.mem_singleton] at hl;subst hl;exact hi
 | agg ls=>
  have hl:l∈ls:=hl;obtain ⟨j,hj,rfl⟩:=List.getElem_of_mem hl;exact eN (i:=j) (by simp [hj]) hi
 | qg xs=>
  simp only [oI,List.mem_flatMap] at hl;obtain ⟨x,hx,hl⟩:=hl;show i∈tL xs
  induction xs with
  | nil=>cases hx
  | cons y r ih=>
   obtain ⟨b,ls⟩:=y;simp only [tL,List.mem_append]
   rcases List.mem_cons.1 hx with e | hx
   ·subst e;left;obtain ⟨j,hj,rfl⟩:=List.getElem_of_mem hl;exact eN (i:=j) (by simp [hj]) hi
   ·exact .inr (ih hx)
 | bQ x j=>
  have hl:l∈x.2:=hl;obtain ⟨m,hm,rfl⟩:=List.getElem_of_mem hl;exact eN (i:=m) (by simp [hm]) hi
 | _=>simp [oI] at hl
theorem PS (Wq:∀ f c,X.vZ f=some c→sW P X.K f c) (hs:dc X.K w0 nt S β fp a w) {o:Oper} {dst:Option Tmp} (hd:slot dst nt) {f:FuncId} {as:Array Operand} {ts:Array TypeId} {ty:TypeId} {pos:String} {dL:Array Edge} {gd:Option (Nat×Bool)}
  (ho:o=⟨dst,.call { callee:=.value (.func f),args:=as,argTypes:=ts },ty,pos,dL,gd⟩) (h:tG X S f as.toList ts.toList o k=some r):Goal P X w0 nt k r Q o a w:=by
 have S4:o.dst=dst:=by rw [ho]
 subst S4;unfold tG at h;split at h
 case h_2=>cases h
 rename_i c hc;obtain ⟨rs,tg,j6,G,h,hok,hargs,vG,htl,hG⟩:=rW hs h;obtain ⟨hnd,h⟩:=aw h;simp only [Bool.and_eq_true,Bool.not_eq_true'] at hnd;obtain ⟨hnd,hto⟩:=hnd;have hnd:=rX hnd
 cases hg:c.g rs with
 | none=>rw [hg] at h;cases h
 | some r0=>
  rw [hg] at h;simp only [Option.bind_some] at h
  let G0:Nat→Nat→Prop:=fun m k=>m<(flatten rs).length∧G m k
  have Td:∀ m,m<(flatten rs).length→G0 m=G m:=fun m hm=>by funext k;simp [G0,hm]
  have kE:∀ (m:Nat) (l:Lf C),(flatten rs)[m]?=some l→l.plain=true∧Own X.K w w0.heap.size (G0 m) l (j6.getD m undef)∧∃ t,tg[m]?=some t∧Ga X.K w w0.heap.size S β fp (G0 m) (j6.getD m undef) t:=fun m l hm=>by
   rw [Td m (eD hm)];exact hG m l hm
  have hA:∀ m k,G0 m k→∃ id p ob,tg[m]?=some (some (id,p))∧fp id k∧lk S.ah id=some ob:=fun m k hk=>by
   obtain ⟨_,_,t,h1,h2⟩:=kE m (flatten rs)[m] (by simp [hk.1])
   cases t with
   | none=>exact absurd hk (h2 k)
   | some x=>obtain ⟨id,p⟩:=x;obtain ⟨t,xs,h3,h4,_⟩:=h2;exact ⟨id,p,_,h1,h4 k hk,h3⟩
  have hT:∀ (m id:Nat) (p:List (Nat×Nat)),tg[m]?=some (some (id,p))→∃ ob,lk S.ah id=some ob:=fun m id p hm=>by
   have hlt:m<(flatten rs).length:=by rw [←htl];exact eD hm
   obtain ⟨_,_,t,h1,h2⟩:=kE m (flatten rs)[m] (by simp [hlt]);rw [hm] at h1;have e:some (id,p)=t:=Option.some.inj h1;subst e;obtain ⟨t,xs,h3,_⟩:=h2;exact ⟨_,h3⟩
  have hone:∀ (m id:Nat) (p:List (Nat×Nat)) (ob:Ob C) (m' k:Nat),tg[m]?=some (some (id,p))→lk S.ah id=some ob→fp id k→G0 m' k→m'=m:=fun m id p ob m' k hm fO hk hk'=>by
   obtain ⟨gM,p',dY,h1,h2,h3⟩:=hA m' k hk';have:=hs.eM gM id dY ob k h3 fO h2 hk;subst this;exact qo hnd h1 hm
  obtain ⟨⟨fn,rE,qX,tN⟩,lY⟩:=Wq f c hc
  have hcall:=lY w0 w rs j6 r0 G0 hs.defers.2 hs.below hok vG (fun m k hk=>by
    obtain ⟨id,p,ob,_,h2,h3⟩:=hA m k hk
    exact hs.fresh id ob k h3 h2) (fun m m' k hk hk'=>by
    obtain ⟨id,p,ob,h1,h2,h3⟩:=hA m k hk
    exact (hone m id p ob m' k h1 h3 h2 hk').symm) (fun m l hm=>⟨(kE m l hm).1,(kE m l hm).2.1⟩) hg
  have ik:(execOp a.eval o).run P w = .ok (.enter f (as.map a.eval)) w:=by
   have MB:(fn.name == "runtime.NumGoroutine")=false:=by simpa using tN
   rw [ho];simp [execOp,resolve,Deferred.ofValue,invoke,callFunc,rE,qX,MB,Act.eval];rw [if_neg tN,if_neg (by intro hb;simp [hb] at qX)]
  show o.wp P a w (Next X.K w0 nt k r) Q;unfold Oper.wp;rw [ik];show Calls P f (as.map a.eval) w _
  have e:as.map a.eval=(as.toList.map a.eval).toArray:=by rw [←Array.toList_map,Array.toArray_toList]
  rw [e,hargs]
  refine hcall.mono fun en w' ⟨v0,he,hb,pX,mR,G',hp,hrl,Fz,Cv,CI,Pk,FG⟩=>?_
  subst he
  have hsep:∀ x k,G' x k→∀ id ob,lk S.ah id=some ob→fp id k→∃ m,G0 m k:=fun x k hk id ob fO hf=>by
   rcases (CI x k hk).1 with h1 | h1
   ·exact h1
   ·have:=(hs.fresh id ob k fO hf).2;omega
  obtain ⟨S2,Ev,J,M,q1,q2⟩:=IU (X:=X) (w0:=w0) (w:=w) (w':=w') (S:=S) (β:=β) (fp:=fp) (G':=G') (flatten rs) tg (c.out r0) j6 G0 0 { S with env:=lH (fD tg) S.env } fp vG
   (fun m l hm=>(kE m l hm).2.2)
   (fun m id p hm=>by
    obtain ⟨ob,fO⟩:=hT m id p hm;refine ⟨fun k hk hn=>(pX k (hs.fresh id ob k fO hk).2 fun m' hk'=>?_).2,fun x k hk=>?_⟩
    ·have:=hone m id p ob m' k hm fO hk hk'
     subst this;exact hn hk'
    ·by_cases hf:fp id k
     ·left
      obtain ⟨m',hk'⟩:=hsep x k hk id ob fO hf;have:=hone m id p ob m' k hm fO hf hk';subst this;exact hk'
     ·exact .inr hf)
   (fun i l hi=>by
    have hlt:=eD hi;have:=FG i l (by rw [List.getElem?_append_left hlt];exact hi)
    have e1:(rowsOf (flatten rs) j6++mR).getD i undef=(rowsOf (flatten rs) j6).getD i undef:=by simp [List.getD,List.getElem?_append_left (by rw [←Cv];exact hlt:i<(rowsOf (flatten rs) j6).length)]
    rw [e1] at this;rw [Nat.zero_add]
    exact this) hnd (fun id _=>rfl) h
  split at q1
  case h_2=>cases q1
  rename_i v A9 hv gu
  let dK:=cg X S o
  let n:=(c.out r0).length
  let news:=(bY dK (c.ret r0)).2
  obtain ⟨g1,g2,g3,g4⟩:=o8 gu
  have hnews:∀ id ob,lk news id=some ob→∃ m t xs,id=dK+m∧(flatten (c.ret r0))[m]?=some (.row t xs)∧ob = .row t xs false:=fun id ob hi=>qb _ _ _ _ hi
  let eK:Nat→Value:=fun id=>if (lk news id).isSome then mR.getD (id-dK) undef else β id
  let eJ:Nat→Nat→Prop:=fun id k=>if (lk news id).isSome then G' (n+(id-dK)) k else Ev id k
  have Cs:∀ id,lk news id=none→eK id=β id:=fun id hi=>by simp [eK,hi]
  have hnone:∀ id,¬ (lk news id).isSome→lk news id=none:=fun id hi=>by
   cases e:lk news id with
   | none=>rfl
   | some x=>rw [e] at hi;exact absurd rfl hi
  have oh:∀ id ob,lk news id=none→lk A9.ah id=some ob→lk S2.ah id=some ob:=fun id ob hn hi=>by
   rw [g3,dB] at hi;have qi:lk (bY dK (c.ret r0)).2 id=none:=hn;rw [qi] at hi;exact hi
  have henv2:A9.env=lH (fD tg) S.env:=g1.trans q2.env
  have Mt:∀ t v,lk A9.env t=some v→∀ i,i∈fG v→lk news i=none:=fun t v ht i hi=>by
   cases e:lk news i with
   | none=>rfl
   | some ob=>exact absurd (kZ (by rw [←g1];exact ht) hi) (g4 i ob e).1
  have Ms:∀ id ob,lk S2.ah id=some ob→lk news id=none∧∀ kd ls,ob = .box kd ls→∀ i,i∈ey ls→lk news i=none:=fun id ob hi=>by
   obtain ⟨m1,m2⟩:=kY hi;refine ⟨?_,fun kd ls e i eR=>?_⟩
   ·cases e:lk news id with
    | none=>rfl
    | some x=>exact absurd m1 (g4 id x e).2
   ·cases e2:lk news i with
    | none=>rfl
    | some x=>exact absurd (m2 kd ls e i eR) (g4 i x e2).2
  let U:Nat→Prop:=fun id=>id∈fD tg∨(lk news id).isSome
  let Ix:Nat→Nat:=fun id=>if (lk news id).isSome then n+(id-dK) else J id
  have Hy:∀ id ob k,lk A9.ah id=some ob→eJ id k→(∃ xe,lk S.ah id=some xe∧fp id k∧∀ m,¬ G0 m k)∨(U id∧G' (Ix id) k):=fun id ob k hi hk=>by
   by_cases hn:(lk news id).isSome
   ·right
    simp only [eJ,hn,if_true] at hk;exact ⟨.inr hn,by simpa [Ix,hn] using hk⟩
   ·simp only [eJ,hn] at hk
    have h2:=oh id ob (hnone id hn) hi
    by_cases ht:id∈fD tg
    ·obtain ⟨a1,a2,⟨p,a3⟩,a4,a5⟩:=q2.TT id ht
     rcases a5 k hk with ⟨b1,b2⟩ | b1
     ·left
      obtain ⟨xe,fO⟩:=hT _ id p a3;refine ⟨xe,fO,b1,fun m hm=>b2 ?_⟩;have:=hone _ id p xe m k a3 fO b1 hm;subst this;exact hm
     ·exact .inr ⟨.inl ht,by simpa [Ix,hn] using b1⟩
    ·left
     obtain ⟨o1,o2⟩:=q2.other id ht;have hk:Ev id k:=hk;rw [o2] at hk
     have h3:lk S.ah id=some ob:=by rw [←h2,o1]
     refine ⟨ob,h3,hk,fun m hm=>?_⟩;obtain ⟨gM,p,dY,c1,c2,c3⟩:=hA m k hm;have:=hs.eM gM id dY ob k c3 h3 c2 hk;subst this;exact ht (kX.2 ⟨m,p,c1⟩)
  have hIx:∀ id gM ob dY,U id→U gM→lk A9.ah id=some ob→lk A9.ah gM=some dY→Ix id=Ix gM→id=gM:=fun id gM ob dY hu hu' ho ib e=>by
   by_cases hn:(lk news id).isSome<;>by_cases qi:(lk news gM).isSome
   ·obtain ⟨x,hx⟩:=Option.isSome_iff_exists.1 hn
    obtain ⟨x',hx'⟩:=Option.isSome_iff_exists.1 qi;obtain ⟨m,_,_,e1,_⟩:=hnews id x hx;obtain ⟨m',_,_,e1',_⟩:=hnews gM x' hx';simp only [Ix,hn,qi,if_true] at e;omega
   ·have mO:gM∈fD tg:=hu'.resolve_right qi
    have:=(q2.TT gM mO).2.1;simp only [Nat.zero_add] at this;simp only [Ix,hn,qi,if_true] at e;have e:n+(id-dK)=J gM:=e;omega
   ·have ht:id∈fD tg:=hu.resolve_right hn
    have:=(q2.TT id ht).2.1;simp only [Nat.zero_add] at this;simp only [Ix,hn,qi,if_true] at e;have e:J id=n+(gM-dK):=e;omega
   ·simp only [Ix,hn,qi] at e
    exact q2.inj id gM (hu.resolve_right hn) (hu'.resolve_right qi) e
  have gi:dc X.K w0 nt A9 eK eJ a w':=by
   refine hs.write (S':=A9) hb U (fun k hk=>?_) (fun id ob hu hi=>?_) (fun id ob hu hi=>?_) (fun t v ht i hi=>Cs i (Mt t v ht i hi)) (fun id ob k hu hi hk=>?_) (fun id gM ob dY k hu hi eR hk hk'=>?_) (fun id ob hu hi=>?_) (fun id kd ls hu hi l hl hp i hil=>?_) (fun t v ht=>?_)
   ·have hno:∀ m,¬ G0 m k:=fun m hm=>by
     obtain ⟨id,p,ob,_,h2,h3⟩:=hA m k hm;exact hk.2 id ob h3 h2
    obtain ⟨f1,f2⟩:=pX k hk.1 hno;refine ⟨⟨f1,fun id ob hi hf=>?_⟩,f2⟩
    rcases Hy id ob k hi hf with ⟨xe,h1,h2,_⟩ | ⟨_,h1⟩
    ·exact hk.2 id xe h1 h2
    ·rcases (CI _ k h1).1 with ⟨m,hm⟩ | h2
     ·exact hno m hm
     ·have:=hk.1;omega
   ·have hn:lk news id=none:=hnone id fun h=>hu (.inr h)
    have h2:=oh id ob hn hi
    obtain ⟨o1,o2⟩:=q2.other id fun h=>hu (.inl h)
    have h3:lk S.ah id=some ob:=by rw [←h2,o1]
    refine ⟨h3,?_,fun k hk=>pX k (hs.fresh id ob k h3 hk).2 fun m hm=>?_⟩
    ·funext k;simp [eJ,hn,o2]
    ·obtain ⟨gM,p,dY,c1,c2,c3⟩:=hA m k hm
     have:=hs.eM gM id dY ob k c3 h3 c2 hk;subst this;exact hu (.inl (kX.2 ⟨m,p,c1⟩))
   ·have hn:lk news id=none:=hnone id fun h=>hu (.inr h)
    have h2:=oh id ob hn hi;exact ⟨Cs id hn,fun kd ls e i eR=>Cs i ((Ms id ob h2).2 kd ls e i eR)⟩
   ·rcases Hy id ob k hi hk with ⟨xe,h1,h2,h3⟩ | ⟨_,h1⟩
    ·have:=hs.fresh id xe k h1 h2
     exact ⟨this.1,(pX k this.2 h3).1⟩
    ·exact (CI _ k h1).2
   ·rcases Hy id ob k hi hk with ⟨xe,h1,h2,h3⟩ | ⟨u1,h1⟩<;>rcases Hy gM dY k eR hk' with ⟨Qp,lZ,xj,Pm⟩ | ⟨u1',lZ⟩
    ·exact hs.eM id gM xe Qp k h1 lZ h2 xj
    ·obtain ⟨m,hm⟩:=hsep _ k lZ id xe h1 h2
     exact absurd hm (h3 m)
    ·obtain ⟨m,hm⟩:=hsep _ k h1 gM Qp lZ xj
     exact absurd hm (Pm m)
    ·exact hIx id gM ob dY u1 u1' hi eR (Pk _ _ k h1 lZ)
   ·by_cases hn:(lk news id).isSome
    ·obtain ⟨x,hx⟩:=Option.isSome_iff_exists.1 hn
     obtain ⟨m,t,xs,e1,e2,e3⟩:=hnews id x hx
     have V6:lk A9.ah id=some x:=by
      rw [g3,dB];have hx':lk (bY dK (c.ret r0)).2 id=some x:=hx;rw [hx']
     rw [V6] at hi;cases hi;refine ⟨t,xs,e3,?_⟩;have hO:=FG (n+m) (.row t xs) (by rw [List.getElem?_append_right (by omega)];simpa [n] using e2)
     have e4:(rowsOf (flatten rs) j6++mR).getD (n+m) undef=mR.getD m undef:=by
      simp only [List.getD];rw [List.getElem?_append_right (by rw [←Cv];omega),← Cv];simp [n]
     have e5:id-dK=m:=by omega
     rw [e4] at hO
     simpa [eK,eJ,hn,e5] using hO
    ·have ht:id∈fD tg:=hu.resolve_right hn
     obtain ⟨_,_,_,⟨t,xs,a4,a5⟩,_⟩:=q2.TT id ht;have h2:=oh id ob (hnone id hn) hi;rw [a4] at h2;cases h2;refine ⟨t,xs,rfl,?_⟩;have e1:eK id=β id:=Cs id (hnone id hn)
     have e2:eJ id=Ev id:=by funext k;simp [eJ,hn]
     rw [e1,e2];exact a5
   ·have hn:lk news id=none:=hnone id fun h=>hu (.inr h)
    have h2:=oh id _ hn hi
    obtain ⟨o1,o2⟩:=q2.other id fun h=>hu (.inl h)
    have h3:lk S.ah id=some (.box kd ls):=by rw [←h2,o1]
    have hto1:=List.any_eq_false.1 hto (id,.box kd ls) (pS h3)
    have hto2:ls.any (jD (fD tg))=false:=by simpa [Kl] using hto1
    have V8:=List.any_eq_false.1 hto2 l hl
    have V8:jD (fD tg) l=false:=by simpa using V8
    rintro (h4 | h4)
    ·exact xE V8 hp i hil h4
    ·have:lk news i=none:=(Ms id _ h2).2 _ ls rfl i (by
      obtain ⟨j,hj,rfl⟩:=List.getElem_of_mem hl
      exact eN (i:=j) (by simp [hj]) hil)
     rw [this] at h4;cases h4
   ·have mO:=ht
    rw [henv2] at mO;obtain ⟨h1,h2⟩:=pJ mO;refine ⟨h1,fun l hl hp i hil=>?_⟩
    rintro (h4 | h4)
    ·exact xE (Iq h2 l hl) hp i hil h4
    ·have:=Mt t v ht i (Di hl hil)
     rw [this] at h4;cases h4
  have hsh:=jh (c.ret r0) dK
  have hval:cT X.K w' A9.ah eK eJ (aH A9.ah eJ w') (flatten (bY dK (c.ret r0)).1) mR:=by
   refine ⟨by rw [hrl,jS hsh],fun m l hm=>?_⟩
   have own:∀ l',(flatten (c.ret r0))[m]?=some l'→Own X.K w' w0.heap.size (G' (n+m)) l' (mR.getD m undef):=fun l' hl'=>by
    have hO:=FG (n+m) l' (by rw [List.getElem?_append_right (by omega)];simpa [n] using hl')
    have e4:(rowsOf (flatten rs) j6++mR).getD (n+m) undef=mR.getD m undef:=by
     simp only [List.getD];rw [List.getElem?_append_right (by rw [←Cv];omega),← Cv];simp [n]
    rw [e4] at hO;exact hO
   rcases ry (c.ret r0) dK m l hm with ⟨t,xs,q1,q2,q3⟩ | ⟨q1,q2⟩
   ·subst q2
    refine ⟨(own _ q1).one,?_⟩
    have e2:(lk news (dK+m)).isSome:=by
     have:lk news (dK+m)=some (.row t xs false):=q3;rw [this];rfl
    simp [eK,e2]
   ·exact pN (own l q1) q2
  have hsv:=uW (by rw [ig hsh];exact Fz) hv hval;rw [kV hsh (us:=mR),← hp] at hsv;exact bn gi hd hsv q1
end
section
variable {Ty:Type} [DecidableEq Ty] {C:Ty→Type}
variable {P:Program} {X:Cx C} {w0 w:World} {nt:Nat} {S:St C} {β:Nat→Value} {fp:Nat→Nat→Prop} {a:Act} {R:Type} {r:R}
def Cd.gh (K:Cd C) (kp:Nat→Prop) (kh:Nat→Option Obj) (hd:Nat→Value):Cd C:={ K with kp:=kp,kh:=kh,hd:=hd }
def Cx.gh (X:Cx C) (kp:Nat→Prop) (kh:Nat→Option Obj) (hd:Nat→Value):Cx C:={ X with K:=X.K.gh kp kh hd }
section
variable {K:Cd C} {kp:Nat→Prop} {kh:Nat→Option Obj} {hd:Nat→Value}
theorem nS {base:Nat} {F:Nat→Prop} {l:Lf C} {v:Value} (h:Own K w base F l v):Own (K.gh kp kh hd) w base F l v:=by
 induction h with
 | int=>exact .int ..
 | bool=>exact .bool ..
 | str=>exact .str ..
 | bP=>exact .bP ..
 | row F t xs v cells G h hF hG hd _ ih=>exact .row F t xs v cells G h hF hG hd ih
theorem zT {base:Nat} {F:Nat→Prop} {l:Lf C} {v:Value} (h:Own (K.gh kp kh hd) w base F l v):Own K w base F l v:=by
 induction h with
 | int=>exact .int ..
 | bool=>exact .bool ..
 | str=>exact .str ..
 | bP=>exact .bP ..
 | row F t xs v cells G h hF hG hd _ ih=>exact .row F t xs v cells G h hF hG hd ih
theorem uX {F:Nat→Prop} {l:Lf C} {v:Value} (h:gT K w F l v):gT (K.gh kp kh hd) w F l v:=by
 induction h with
 | int=>exact .int ..
 | bool=>exact .bool ..
 | str=>exact .str ..
 | bP=>exact .bP ..
 | row t xs A c a U hc hA hcell _ ih=>exact .row t xs A c a U hc hA hcell ih
theorem rP {F:Nat→Prop} {l:Lf C} {v:Value} (h:gT (K.gh kp kh hd) w F l v):gT K w F l v:=by
 induction h with
 | int=>exact .int ..
 | bool=>exact .bool ..
 | str=>exact .str ..
 | bP=>exact .bP ..
 | row t xs A c a U hc hA hcell _ ih=>exact .row t xs A c a U hc hA hcell ih
theorem W2 {f:Nat} {c:iK C} (h:dm P K f c):dm P (K.gh kp kh hd) f c:=by
 refine ⟨h.1,fun w vs us r0 hv hl ha hg=>(h.2 w vs us r0 hv hl (fun i v hi=>?_) hg).mono fun e w' ⟨v,he,hb,⟨mM,G,q1,q2,q3,q4,q5,q6⟩,hz⟩=>⟨v,he,hb,⟨mM,G,q1,q2,q3,q4,q5,fun m l hm=>nS (q6 m l hm)⟩,hz⟩⟩;have:=ha i v hi
 cases v with
 | one l=>
  cases l with
  | nH t x o=>obtain ⟨a,U,h1,h2,h3,h4⟩:=this;exact ⟨a,U,h1,h2,h3,fun i l hl=>rP (h4 i l hl)⟩
  | _=>exact ⟨this.1,rP this.2⟩
 | agg ls=>obtain ⟨us,e,h1,h2⟩:=this;exact ⟨us,e,h1,fun i l hi=>rP (h2 i l hi)⟩
 | _=>exact this.elim
theorem Q9 {f:Nat} {c:qd C} (h:sW P K f c):sW P (K.gh kp kh hd) f c:=by
 refine ⟨h.1,fun w0 w rs j6 r0 G hv hb hok vG CI Pk hl hg=>(h.2 w0 w rs j6 r0 G hv hb hok vG CI Pk (fun m l hm=>⟨(hl m l hm).1,zT (hl m l hm).2⟩) hg).mono fun e w' ⟨v,he,hb',pX,mR,G',q1,q2,q3,q4,q5,q6,q7⟩=>
  ⟨v,he,hb',pX,mR,G',q1,q2,q3,q4,q5,q6,fun m l hm=>nS (q7 m l hm)⟩⟩
theorem Ac (kt vt:Ty) (x:C kt):∀ xs:List (Nat×C kt×C vt),tK (K.gh kp kh hd) kt vt x xs=tK K kt vt x xs
 | []=>rfl
 | e::r=>by simp only [tK,Ac kt vt x r];rfl
theorem Ca (fl:MK) (kt vt:Ty) (x:C kt):∀ (xs:List (Nat×C kt×C vt)) (i:Nat),jl (K.gh kp kh hd) fl kt vt x xs i=jl K fl kt vt x xs i
 | [],_=>rfl
 | e::r,i=>by simp only [jl,Ca fl kt vt x r];rfl
theorem Qt (kt vt:Ty) (x:C kt) (xs:List (Nat×C kt×C vt)):pQ (K.gh kp kh hd) kt vt x xs=pQ K kt vt x xs:=by unfold pQ;rw [Ac];rfl
theorem Hd (kt vt:Ty) (x:C kt) (xs:List (Nat×C kt×C vt)):pR (K.gh kp kh hd) kt vt x xs=pR K kt vt x xs:=by unfold pR;rw [Ac]
theorem Qx (kt vt:Ty) (x:C kt) (c:Nat) (xs:List (Nat×C kt×C vt)):Fg (K.gh kp kh hd) kt vt x c xs=Fg K kt vt x c xs:=by unfold Fg;rw [Hd]
theorem Hc (kt vt:Ty) (x:C kt) (y:C vt) (c:Nat):∀ xs:List (Nat×C kt×C vt),xf (K.gh kp kh hd) kt vt x y c xs=xf K kt vt x y c xs
 | []=>rfl
 | e::r=>by simp only [xf,Hc kt vt x y c r];rfl
theorem Hg (kt vt:Ty) (x:C kt):∀ xs:List (Nat×C kt×C vt),xg (K.gh kp kh hd) kt vt x xs=xg K kt vt x xs
 | []=>rfl
 | e::r=>by simp only [xg,Hg kt vt x r];rfl
theorem L3 {R:Type} (kt vt:Ty) (x:C kt) (yes:C vt→Option R) (no:Option R):∀ xs:List (Nat×C kt×C vt),SK (K.gh kp kh hd) kt vt x yes no xs=SK K kt vt x yes no xs
 | []=>rfl
 | e::r=>by simp only [SK,L3 kt vt x yes no r];rfl
theorem pI (h:je P X):je P (X.gh kp kh hd):=by
 refine ⟨fun T k hk=>h.tk T k hk,fun t=>?_,fun T m hm=>?_,h.Ff,h.ext,h.ins,h.Q0⟩
 rotate_left
 ·obtain ⟨kt,et,q⟩:=h.mp T m hm
  exact ⟨kt,et,q.mN,q.fk,q.fv,q.zero,q.pF,fun x xs w=>(q.find x xs w).trans (congrArg (Result.ok · w) (Ca m.fl m.kt m.vt x xs 0).symm),q.Yq,q.bits⟩
 obtain ⟨i,z,h1,h2,h3,h4,h5,h6,h7⟩:=h.el t;exact ⟨i,z,h1,h2,h3,h4,h5,h6,fun j l hj w base F=>nS (h7 j l hj w base F)⟩
end
end
section
variable {Ty:Type} [DecidableEq Ty] {C:Ty→Type}
variable {X:Cx C} {K:Cd C} {S:St C} {R:Type} {kp:Nat→Prop} {kh:Nat→Option Obj} {hd:Nat→Value}
theorem n5 (o:Oper):cg (X.gh kp kh hd) S o=cg X S o:=rfl
theorem ue {α:Type}:∀ (p:List (Nat×Nat)) (t:Ty) (xs:List (C t)) (k:(t:Ty)→List (C t)→Option α),path (K.gh kp kh hd) p t xs k=path K p t xs k
 | [],_,_,_=>rfl
 | (i,o)::p,t,xs,k=>by
  simp only [path,ue p];rfl
theorem oJ {α:Type} (l:Lf C) (k:(t:Ty)→List (C t)→Option α):nO S (X.gh kp kh hd) l k=nO S X l k:=by
 cases l with
 | ref id p=>
  simp only [nO];split
  ·exact ue ..
  ·rfl
 | _=>rfl
theorem lq {α:Type} (a:Lf C) (k:List (Lf C)→Option α):ez (X.gh kp kh hd) S a k=ez X S a k:=by
 cases a with
 | ep id p i o=>
  simp only [ez];split
  ·exact ue ..
  ·rfl
 | _=>rfl
theorem vV (t:Ty):∀ (l:List (Nat×Operand)) (S:St C) (n:Nat),elems (X.gh kp kh hd) t S n l=elems X t S n l
 | [],_,_=>rfl
 | (i,x)::r,S,n=>by
  simp only [elems,vV t r];rfl
theorem pL (fs:List (Nat×Nat×Bool)):∀ (l:List (Nat×Operand)) (ls:List (Lf C)),partsOf (X.gh kp kh hd) fs S l ls=partsOf X fs S l ls
 | [],_=>rfl
 | (i,x)::r,ls=>by simp only [partsOf,pL fs r]
theorem jJ (T:TypeId) (x:Operand):gb (X.gh kp kh hd) S T x=gb X S T x:=rfl
theorem Qh (l:Lf C) (k:Lf C→rG→Option R):E8 (X.gh kp kh hd) S l k=E8 X S l k:=by
 cases l with
 | ref id p=>
  simp only [E8];split
  ·exact ue ..
  ·rfl
 | _=>rfl
theorem qM:∀ (l:List (Lf C)) (k:List (Lf C)→List rG→Option R),pB (X.gh kp kh hd) S l k=pB X S l k
 | [],_=>rfl
 | l::r,k=>by simp only [pB,Qh,qM r]
theorem yh:∀ (l:List Operand) (ts:List TypeId) (k:List (Bool×List (Lf C))→List rG→Option R),nV (X.gh kp kh hd) S l ts k=nV X S l ts k
 | [],_,_=>rfl
 | x::r,ts,k=>by simp only [nV,qM,yh r,jJ]
theorem uT:∀ (p:List (Nat×Nat)) (t:Ty) (xs:List (C t)) (l:Lf C) (k:List (C t)→Option R),setPath (K.gh kp kh hd) p t xs l k=setPath K p t xs l k
 | [],_,_,l,_=>by cases l<;>rfl
 | (i,o)::p,t,xs,l,k=>by
  simp only [setPath,uT p];rfl
theorem IV:∀ (ls:List (Lf C)) (ts:List rG) (os:List (Lf C)) (S:St C) (k:St C→Option R),eh (K.gh kp kh hd) ls ts os S k=eh K ls ts os S k:=by
 intro ls
 induction ls with
 | nil=>intro ts os S k;cases ts<;>cases os<;>rfl
 | cons l ls ih=>
  intro ts os S k
  cases ts with
  | nil=>cases l<;>rfl
  | cons t ts=>
   cases l with
   | row t0 EA=>
    cases os with
    | nil=>cases t<;>rfl
    | cons o os=>
     cases t with
     | none=>simp only [eh,ih]
     | some x=>
      obtain ⟨id,p⟩:=x;simp only [eh,uT,ih]
   | int ki n=>cases t<;>simp only [eh,ih]
   | bool b=>cases t<;>simp only [eh,ih]
   | str s=>cases t<;>simp only [eh,ih]
   | _=>cases t<;>rfl
theorem Ny (f:Nat) (as:List Operand) (ts:List TypeId) (o:Oper) (k:St C→Option R):tG (X.gh kp kh hd) S f as ts o k=tG X S f as ts o k:=by
 simp only [tG,yh];have e:(X.gh kp kh hd).vZ f=X.vZ f:=rfl;rw [e]
 cases X.vZ f with
 | none=>rfl
 | some c=>
  have e2:(X.gh kp kh hd).K=X.K.gh kp kh hd:=rfl;simp only [e2,IV,n5]
theorem jX:∀ (l:List Operand) (ts:List TypeId),fg (X.gh kp kh hd) S l ts=fg X S l ts
 | [],_=>rfl
 | x::r,ts=>by simp only [fg,jX r,jJ]
theorem C7 (f:Nat) (pre:List (SV C)) (as:List Operand) (ts:List TypeId) (post:List (SV C)) (o:Oper) (k:St C→Option R):v8 (X.gh kp kh hd) S f pre as ts post o k=v8 X S f pre as ts post o k:=by
 simp only [v8,jX];rfl
theorem Nz (f:Nat) (as:List Operand) (ts:List TypeId) (o:Oper) (k:St C→Option R):oC (X.gh kp kh hd) S f as ts o k=oC X S f as ts o k:=by
 simp only [oC,C7,jX];rfl
theorem Io (l:Lf C):jZ (X.gh kp kh hd) S l=jZ X S l:=by
 unfold jZ;simp only [oJ]
theorem uI:∀ l:List (Lf C),gy (X.gh kp kh hd) S l=gy X S l
 | []=>rfl
 | l::r=>by simp only [gy,Io,uI r]
theorem Kc (pt:Option Ty) (v:SV C):nB (X.gh kp kh hd) S pt v=nB X S pt v:=by
 unfold nB;simp only [lq,uI];rfl
theorem uD:∀ (pt:List (Option Ty)) (l:List (SV C)),views (X.gh kp kh hd) S pt l=views X S pt l
 | _,[]=>rfl
 | pt,v::r=>by simp only [views,Kc,uD pt.tail r]
theorem C9 (c:iK C) (pre:List (SV C)) (as:List Operand) (ts:List TypeId) (post:List (SV C)) (o:Oper) (k:St C→Option R):pG (X.gh kp kh hd) c S pre as ts post o k=pG X c S pre as ts post o k:=by
 rw [rr,rr];unfold wc mJ;simp only [jX,uD,n5]
theorem sN (c:iK C) (pre:List (SV C)) (as:List Operand) (ts:List TypeId) (post:List (SV C)) (o:Oper) (k:SV C→List (Nat×Ob C)→List Nat→Option R):ng (X.gh kp kh hd) c S pre as ts post o k=ng X c S pre as ts post o k:=by
 rw [sO,sO];unfold uw mJ;simp only [jX,uD,n5]
theorem C8 (f:Nat) (pre:List (SV C)) (as:List Operand) (ts:List TypeId) (post:List (SV C)) (o:Oper) (k:St C→Option R):rq (X.gh kp kh hd) S f pre as ts post o k=rq X S f pre as ts post o k:=by
 unfold rq;simp only [C9,C7];rfl
theorem Cg (m:MT Ty) (l:Lf C) (key:SV C) (ok:Bool) (k:SV C→Option R):n7 (X.gh kp kh hd) S m l key ok k=n7 X S m l key ok k:=by
 have e2:(X.gh kp kh hd).K=X.K.gh kp kh hd:=rfl;unfold n7 ld;simp only [e2,Qt,Hd];rfl
theorem L7 (m:MT Ty) (l:Lf C) (key:SV C) (ok:Bool) (k:SV C→Option R):Ch (X.gh kp kh hd) S m l key ok k=Ch X S m l key ok k:=by
 have e2:(X.gh kp kh hd).K=X.K.gh kp kh hd:=rfl;unfold Ch ld;simp only [e2,L3];rfl
theorem Gm (m:MT Ty) (l:Lf C) (key v:SV C) (k:St C→Option R):ED (X.gh kp kh hd) S m l key v k=ED X S m l key v k:=by
 have e2:(X.gh kp kh hd).K=X.K.gh kp kh hd:=rfl;unfold ED ld;simp only [e2,Hc,Qx];rfl
theorem Q6 (m:MT Ty) (l:Lf C) (key:SV C) (k:St C→Option R):MV (X.gh kp kh hd) S m l key k=MV X S m l key k:=by
 have e2:(X.gh kp kh hd).K=X.K.gh kp kh hd:=rfl;unfold MV ld;simp only [e2,Hg];rfl
theorem BF (t:Ty):∀ (l:List (Nat×Operand)) (S:St C),qC (X.gh kp kh hd) t S l=qC X t S l
 | [],_=>rfl
 | (i,x)::r,S=>by
  simp only [qC,BF t r];rfl
theorem Qs (tk:Option (TK Ty)) (op:BinOp) (x:SV C) (k:SV C→Option R):vq tk (X.gh kp kh hd) S op x k=vq tk X S op x k:=by
 unfold vq;simp only [oJ]
theorem qB:∀ (l:List ResultVar),gQ (X.gh kp kh hd) S l=gQ X S l
 | []=>rfl
 | .tmp t::r=>by simp only [gQ,qB r]
 | .cell a t::r=>by
  simp only [gQ,qB r,lq];rfl
theorem Tf (o:Oper) (S:St C) (k:St C→Option R):ev (X.gh kp kh hd) o S k=ev X o S k:=by
 obtain ⟨dst,op,ty,pos,dL,gd⟩:=o
 cases op with
 | build t ps=>simp only [ev,pL];rfl
 | buildSlice t n ps=>simp only [ev,vV];rfl
 | load t x=>simp only [ev,lq];rfl
 | binOp op t x y t'=>simp only [ev,Qs,jJ];rfl
 | convert t t' x=>simp only [ev,oJ];rfl
 | indexAddr t x i=>simp only [ev,oJ];rfl
 | call c=>
  obtain ⟨TQ,as,ts⟩:=c
  cases TQ with
  | builtin b=>cases b with
   | len=>simp only [ev,oJ];rfl
   | append=>simp only [ev,jJ];rfl
   | delete=>simp only [ev,jJ,Q6];rfl
   | copy=>simp only [ev,jJ];rfl
   | _=>rfl
  | value f=>cases f with
   | func f=>simp only [ev,C9,Ny,Nz];rfl
   | tmp t=>simp only [ev,C8]
   | _=>rfl
  | invoke x name=>simp only [ev,C8];rfl
 | makeFunc fn first captured=>simp only [ev,jX,n5]
 | makeInterface t x=>simp only [ev,jJ];rfl
 | lookup t x i ok=>simp only [ev,Cg,L7];rfl
 | mapUpdate t x i y=>simp only [ev,Gm];rfl
 | insert t x i y=>simp only [ev,Gm];rfl
 | _=>rfl
theorem Ww (o:Oper) (S:St C) (k:SV C→List (Nat×Ob C)→List Nat→Option R):ko (X.gh kp kh hd) o S k=ko X o S k:=by
 obtain ⟨dst,op,ty,pos,dL,gd⟩:=o
 cases op with
 | build t ps=>simp only [ko,pL];rfl
 | buildSlice t n ps=>simp only [ko,vV,BF];rfl
 | load t x=>simp only [ko,lq];rfl
 | convert t t' x=>simp only [ko,oJ];rfl
 | indexAddr t x i=>simp only [ko,oJ];rfl
 | call c=>
  obtain ⟨TQ,as,ts⟩:=c
  cases TQ with
  | builtin b=>cases b with
   | len=>simp only [ko,oJ];rfl
   | append=>simp only [ko,jJ];rfl
   | _=>rfl
  | value f=>cases f with
   | func f=>simp only [ko,sN];rfl
   | tmp t=>simp only [ko,sN];rfl
   | _=>rfl
  | invoke x name=>simp only [ko,sN];rfl
 | makeFunc fn first captured=>simp only [ko,jX,n5]
 | makeInterface t x=>simp only [ko,jJ];rfl
 | lookup t x i ok=>simp only [ko,Cg];rfl
 | _=>rfl
theorem MQ (all:Array Oper):∀ (l:List Oper) (S:St C) (k:St C→Option R),evs (X.gh kp kh hd) all l S k=evs X all l S k
 | [],_,_=>rfl
 | o::r,S,k=>by simp only [evs,Tf,MQ all r]
theorem Mi (o:Oper):Mj (X.gh kp kh hd) o=Mj X o:=rfl
theorem ya (all:Array Oper) (tab:List (Nat×Nat)):∀ (n:Nat) (l:List Oper),mV (X.gh kp kh hd) all tab n l=mV X all tab n l
 | _,[]=>rfl
 | n,o::r=>by simp only [mV,ya all tab];rfl
theorem BZ (all:Array Oper) (tab:List (Nat×Nat)):∀ l:List Nat,qK (X.gh kp kh hd) all tab l=qK X all tab l
 | []=>rfl
 | j::r=>by simp only [qK,BZ all tab r];rfl
theorem Qb (all:Array Oper) (tab:List (Nat×Nat)) (ord:List Nat):E6 (X.gh kp kh hd) all tab ord=E6 X all tab ord:=by
 simp only [E6,BZ]
theorem Qj (all:Array Oper) (tab:List (Nat×Nat)):pO (X.gh kp kh hd) all tab=pO X all tab:=rfl
theorem BU:∀ (l:List Oper),u4 (X.gh kp kh hd) l=u4 X l
 | []=>rfl
 | o::r=>by simp only [u4,BU r,Mi]
theorem s8 (all:Array Oper):∀ (l:List Nat) (S:St C),jN (X.gh kp kh hd) all l S=jN X all l S
 | [],_=>rfl
 | i::r,S=>by simp only [jN,jJ,s8 all r]
theorem LX (o:Oper):qP (X.gh kp kh hd) o=qP X o:=rfl
theorem I7 (su:jw C) (o:Oper) (Sa S:St C) (k:St C→Option R):lV (X.gh kp kh hd) su o Sa S k=lV X su o Sa S k:=by
 have e:yn (X.gh kp kh hd) o Sa=yn X o Sa:=by
  obtain ⟨dst,op,ty,pos,dL,gd⟩:=o
  cases op with
  | call c=>exact jX ..
  | _=>rfl
 unfold lV;rw [e]
theorem HK (all:Array Oper) (tab:List (Nat×Nat)) (k:St C→Option R):∀ (f:Nat) (l:List (Nat×Oper)) (S0:St C) (bG:List (fo C)),lG (X.gh kp kh hd) all tab k f l S0 bG=lG X all tab k f l S0 bG
 | 0,_,_,_=>rfl
 | f+1,[],_,_=>rfl
 | f+1,(n,o)::r,S0,bG=>by simp only [lG,Tf,Ww,Mi,LX,I7,HK all tab k f]
theorem KO (F:Cf):∀ (c:Code) (cur:Nat) (S:St C) (k:Ex→St C→Option R),run (X.gh kp kh hd) F c cur S k=run X F c cur S k:=by
 intro c
 induction c with
 | region i ops draw=>
  intro cur S k
  cases draw with
  | false=>simp only [run,MQ]
  | true=>simp only [run,WJ,HK,ya,Qb,Qj,BU,s8]
 | seq a b iha ihb=>
  intro cur S k;simp only [run];rw [iha]
  congr 1
  funext e S'
  cases e<;>simp only [bf,ihb]
 | cond c x y ihx ihy=>
  intro cur S k;simp only [run,ihx,ihy]
 | block id c ih=>intro cur S k;simp only [run,ih]
 | scope c ih=>intro cur S k;simp only [run,ih]
 | loop b ih=>
  intro cur S k;simp only [run]
  congr 2
  funext rec S'
  exact ih ..
 | _=>intros;rfl
end
section
variable {Ty:Type} [DecidableEq Ty] {C:Ty→Type}
variable {P:Program} {X:Cx C} {K:Cd C} {w0 w:World} {nt:Nat} {S:St C} {β:Nat→Value} {fp:Nat→Nat→Prop} {a:Act} {R:Type} {k:St C→Option R} {r:R}
variable {Q:Exit→Act→World→Prop} {kp:Nat→Prop} {kh:Nat→Option Obj} {hd:Nat→Value} {ah:cW C} {cM:Nat→Prop}
theorem GY {F:Nat→Prop} {t:Ty} {xs:List (C t)} {v:Value} {p:List (Nat×Nat)} {t':Ty} {zs:List (C t')} {v':Value} (h:nM K w F t xs v p t' zs v'):nM (K.gh kp kh hd) w F t xs v p t' zs v':=by
 induction h with
 | nil=>exact .nil ..
 | cons t xs v i o x t1 ys a n c v1 p t' zs v' hx hl hv hF hc _ ih=>exact .cons t xs v i o x t1 ys a n c v1 p t' zs v' hx hl hv hF hc ih
theorem GX {F:Nat→Prop} {t:Ty} {xs:List (C t)} {v:Value} {p:List (Nat×Nat)} {t':Ty} {zs:List (C t')} {v':Value} (h:nM (K.gh kp kh hd) w F t xs v p t' zs v'):nM K w F t xs v p t' zs v':=by
 induction h with
 | nil=>exact .nil ..
 | cons t xs v i o x t1 ys a n c v1 p t' zs v' hx hl hv hF hc _ ih=>exact .cons t xs v i o x t1 ys a n c v1 p t' zs v' hx hl hv hF hc ih
theorem vA {l:Lf C} {v:Value} (h:db K w ah β fp cM l v):db (K.gh kp kh hd) w ah β fp cM l v:=by
 cases l with
 | row t xs=>exact uX h
 | nH t x o=>obtain ⟨a,U,h1,h2,h3,h4⟩:=h;exact ⟨a,U,h1,h2,h3,fun i l hl=>uX (h4 i l hl)⟩
 | ref id p=>cases p with
  | nil=>exact h
  | cons s p=>exact ⟨h.1,fun t xs sh ho=>by obtain ⟨h1,t',zs,hz⟩:=h.2 t xs sh ho;exact ⟨h1,t',zs,GY hz⟩⟩
 | ep id p i o=>cases p with
  | nil=>exact h
  | cons s p=>exact ⟨h.1,fun t xs sh ho=>by obtain ⟨h1,t',zs,v',hz,hr⟩:=h.2 t xs sh ho;exact ⟨h1,t',zs,v',GY hz,hr⟩⟩
 | _=>exact h
theorem SM {l:Lf C} {v:Value} (h:db (K.gh kp kh hd) w ah β fp cM l v):db K w ah β fp cM l v:=by
 cases l with
 | row t xs=>exact rP h
 | nH t x o=>obtain ⟨a,U,h1,h2,h3,h4⟩:=h;exact ⟨a,U,h1,h2,h3,fun i l hl=>rP (h4 i l hl)⟩
 | ref id p=>cases p with
  | nil=>exact h
  | cons s p=>exact ⟨h.1,fun t xs sh ho=>by obtain ⟨h1,t',zs,hz⟩:=h.2 t xs sh ho;exact ⟨h1,t',zs,GX hz⟩⟩
 | ep id p i o=>cases p with
  | nil=>exact h
  | cons s p=>exact ⟨h.1,fun t xs sh ho=>by obtain ⟨h1,t',zs,v',hz,hr⟩:=h.2 t xs sh ho;exact ⟨h1,t',zs,v',GX hz,hr⟩⟩
 | _=>exact h
theorem kg {ls:List (Lf C)} {vs:List Value} (h:cT K w ah β fp cM ls vs):cT (K.gh kp kh hd) w ah β fp cM ls vs:=⟨h.1,fun i l hl=>vA (h.2 i l hl)⟩
theorem sj {ls:List (Lf C)} {vs:List Value} (h:cT (K.gh kp kh hd) w ah β fp cM ls vs):cT K w ah β fp cM ls vs:=⟨h.1,fun i l hl=>SM (h.2 i l hl)⟩
theorem Kj {x:Bool×List (Lf C)} {v:Value} (h:gL K w ah β fp cM x v):gL (K.gh kp kh hd) w ah β fp cM x v:=by
 obtain ⟨b,ls⟩:=x
 cases b with
 | false=>obtain ⟨l,h1,h2⟩:=h;exact ⟨l,h1,vA h2⟩
 | true=>obtain ⟨vs,h1,h2⟩:=h;exact ⟨vs,h1,kg h2⟩
theorem uL {x:Bool×List (Lf C)} {v:Value} (h:gL (K.gh kp kh hd) w ah β fp cM x v):gL K w ah β fp cM x v:=by
 obtain ⟨b,ls⟩:=x
 cases b with
 | false=>obtain ⟨l,h1,h2⟩:=h;exact ⟨l,h1,SM h2⟩
 | true=>obtain ⟨vs,h1,h2⟩:=h;exact ⟨vs,h1,sj h2⟩
theorem SG (hkp:kp=K.kp) (hkh:kh=K.kh) {base:Nat} {F:Nat→Prop} {ob:Ob C} {v:Value} (h:kO K w base ah β fp cM F ob v):kO (K.gh kp kh hd) w base ah β fp cM F ob v:=by
 cases ob with
 | box kd ls=>cases kd with
  | mem=>obtain ⟨b,cs,e,h1,h2,h3,h4⟩:=h;exact ⟨b,cs,e,h1,h2,h3,kg h4⟩
  | sM f n sh=>obtain ⟨us,h1,h2,h3⟩:=h;exact ⟨us,h1,h2,kg h3⟩
  | lX t sh=>obtain ⟨us,h1,h2,h3⟩:=h;exact ⟨us,h1,h2,kg h3⟩
 | map mk kt vt xs c=>exact h
 | ghost=>subst hkp hkh;exact h
 | row t xs sh=>cases sh with
  | false=>exact nS h
  | true=>obtain ⟨cells,h1,h2,h3⟩:=h;exact ⟨cells,h1,h2,fun j x hx i l hl=>uX (h3 j x hx i l hl)⟩
theorem SF (hkp:kp=K.kp) (hkh:kh=K.kh) {base:Nat} {F:Nat→Prop} {ob:Ob C} {v:Value} (h:kO (K.gh kp kh hd) w base ah β fp cM F ob v):kO K w base ah β fp cM F ob v:=by
 cases ob with
 | box kd ls=>cases kd with
  | mem=>obtain ⟨b,cs,e,h1,h2,h3,h4⟩:=h;exact ⟨b,cs,e,h1,h2,h3,sj h4⟩
  | sM f n sh=>obtain ⟨us,h1,h2,h3⟩:=h;exact ⟨us,h1,h2,sj h3⟩
  | lX t sh=>obtain ⟨us,h1,h2,h3⟩:=h;exact ⟨us,h1,h2,sj h3⟩
 | map mk kt vt xs c=>exact h
 | ghost=>subst hkp hkh;exact h
 | row t xs sh=>cases sh with
  | false=>exact zT h
  | true=>obtain ⟨cells,h1,h2,h3⟩:=h;exact ⟨cells,h1,h2,fun j x hx i l hl=>rP (h3 j x hx i l hl)⟩
def nD:Act:={ tmps:= #[],defers:=[] }
def dx (P:Program) (K:Cd C) (f:Nat) (I:mP C):Prop:=
 (∃ fn,P.funcs[f]?=some fn∧fn.body.isNone=false∧fn.name ≠ "runtime.NumGoroutine") ∧
 (∀ (kp:Nat→Prop) (kh:Nat→Option Obj) (hd:Nat→Value) (w0 w:World) (S:St C) (β:Nat→Value) (fp:Nat→Nat→Prop) (vs:List (SV C)) (us:List Value) (R:Type) (k:List (Bool×List (Lf C))→St C→Option R) (r:R),
  dc (K.gh kp kh hd) w0 0 S β fp nD w→(∀ t v,lk S.env t=some v→1000≤t)→us.length=vs.length →
  (∀ (i:Nat) (v:SV C),vs[i]?=some v→dD (K.gh kp kh hd) w S.ah β fp (aH S.ah fp w) v (us.getD i undef))→I.go R vs S k=some r →
  Calls P f us.toArray w fun e w'=>∃ (v:Value) (rs:List (Bool×List (Lf C))) (mR:List Value) (S':St C) (eK:Nat→Value) (eJ:Nat→Nat→Prop),e = .returned v∧v=pack rs mR∧fF rs=true∧k rs S'=some r ∧
   dc (K.gh kp kh hd) w0 0 S' eK eJ nD w'∧cT (K.gh kp kh hd) w' S'.ah eK eJ (aH S'.ah eJ w') (flatten rs) mR) ∧
 ∀ su,I.sum=some su→I.go=Bl su∧su.fQ=[]∧∀ vs O r,dO O=su.ids→su.g vs O=some r→∀ id,id∈dO (su.out r)→id∈su.ids
theorem V2 {f:Nat} {I:mP C} (h:dx P K f I):dx P (K.gh kp kh hd) f I:=⟨h.1,fun kp' kh' hd'=>h.2.1 kp' kh' hd',h.2.2⟩
def sU (b:Nat) (E:List (Nat×SV C)) (t:Nat) (v:SV C):Prop:=∃ t0,t=t0+1000 ∧
 ((∃ l,lk E t0=some (.one l)∧v = .bQ (false,[l]) (b+1000+t0))∨(∃ ls,lk E t0=some (.agg ls)∧v = .bQ (true,ls) (b+1000+t0)) ∨
  (∃ id j,lk E t0=some (.jf id j)∧v = .jf id j)∨(lk E t0=some .frame∧v = .frame)∨(∃ x j,lk E t0=some (.bQ x j)∧v = .bQ x j))
theorem sU.up {b:Nat} {E:List (Nat×SV C)} {t m:Nat} {v u:SV C} (h:sU b E t v) (hne:t≠m+1000):sU b ((m,u)::E) t v:=by
 obtain ⟨t0,e,h⟩:=h
 have hm:lk ((m,u)::E) t0=lk E t0:=by rw [aN,if_neg (by omega)]
 refine ⟨t0,e,?_⟩;rw [hm];exact h
theorem mq {b:Nat}:∀ {E:List (Nat×SV C)} {t:Nat} {v:SV C},lk (lI b E) t=some v→sU b E t v
 | [],t,v,h=>by simp [lI,lk] at h
 | (m,u)::E,t,v,h=>by
  have hd:∀ {v':SV C},lk ((m+1000,v')::lI b E) t=some v→(t=m+1000∧v=v')∨(t≠m+1000∧sU b ((m,u)::E) t v):=fun {v'} h=>by
   rw [aN] at h
   by_cases e:t=m+1000
   ·rw [if_pos e] at h;cases h;exact .inl ⟨e,rfl⟩
   ·rw [if_neg e] at h;exact .inr ⟨e,(mq h).up e⟩
  have ht:lk (rm (lI b E) (m+1000)) t=some v→sU b ((m,u)::E) t v:=fun h=>by
   rw [lg] at h
   by_cases e:t=m+1000
   ·rw [if_pos e] at h;cases h
   ·rw [if_neg e] at h;exact (mq h).up e
  have hm:lk ((m,u)::E) m=some u:=by rw [aN,if_pos rfl]
  cases u with
  | one l=>rcases hd h with ⟨e,e2⟩ | ⟨_,h⟩;exact ⟨m,e,.inl ⟨l,hm,e2⟩⟩;exact h
  | agg ls=>rcases hd h with ⟨e,e2⟩ | ⟨_,h⟩;exact ⟨m,e,.inr (.inl ⟨ls,hm,e2⟩)⟩;exact h
  | jf id j=>rcases hd h with ⟨e,e2⟩ | ⟨_,h⟩;exact ⟨m,e,.inr (.inr (.inl ⟨id,j,hm,e2⟩))⟩;exact h
  | frame=>rcases hd h with ⟨e,e2⟩ | ⟨_,h⟩;exact ⟨m,e,.inr (.inr (.inr (.inl ⟨hm,e2⟩)))⟩;exact h
  | bQ x j=>rcases hd h with ⟨e,e2⟩ | ⟨_,h⟩;exact ⟨m,e,.inr (.inr (.inr (.inr ⟨x,j,hm,e2⟩)))⟩;exact h
  | qg _=>exact ht h
  | mN=>exact ht h
theorem AE {a b:Nat} (h:Nat.blt a b=true):a<b:=by simpa [Nat.blt_eq] using h
theorem uP {b:Nat}:∀ {E:List (Nat×SV C)},lO b E=true→∀ t v,(t,v)∈E→(∀ id j,v = .jf id j→j<b+1000)∧∀ x j,v = .bQ x j→j<b+1000
 | [],_,t,v,h=>by cases h
 | (m,u)::E,h,t,v,hm=>by
  have ih:lO b E=true→(t,v)∈E→_:=fun h hm=>uP h t v hm
  rcases List.mem_cons.1 hm with e | Eo
  ·cases e
   cases u with
   | jf id j=>simp only [lO,Bool.and_eq_true] at h;exact ⟨fun _ _ e=>(by cases e;exact AE h.1),fun _ _ e=>(by cases e)⟩
   | bQ x j=>simp only [lO,Bool.and_eq_true] at h;exact ⟨fun _ _ e=>(by cases e),fun _ _ e=>(by cases e;exact AE h.1)⟩
   | _=>exact ⟨fun _ _ e=>(by cases e),fun _ _ e=>(by cases e)⟩
  ·cases u with
   | jf id j=>simp only [lO,Bool.and_eq_true] at h;exact ih h.2 Eo
   | bQ x j=>simp only [lO,Bool.and_eq_true] at h;exact ih h.2 Eo
   | _=>exact ih h Eo
def oK (b:Nat) (E:List (Nat×SV C)) (t:Nat) (v:SV C):Prop:=
 (∃ x j,lk E (t+1000)=some (.bQ x j)∧((j=b+(t+1000)∧v=Kh x)∨(j<b+1000∧v = .bQ x j)))∨(∃ id j,lk E (t+1000)=some (.jf id j)∧j<b+1000∧v = .jf id j)∨(lk E (t+1000)=some .frame∧v = .frame)
theorem oK.up {b:Nat} {E:List (Nat×SV C)} {t m:Nat} {v u:SV C} (h:oK b E t v) (hne:m≠t+1000):oK b ((m,u)::E) t v:=by
 have hm:lk ((m,u)::E) (t+1000)=lk E (t+1000):=by rw [aN,if_neg (fun e=>hne e.symm)]
 unfold oK;rw [hm];exact h
theorem qz {b:Nat}:∀ {E:List (Nat×SV C)} {t:Nat} {v:SV C},lk (ji b E) t=some v→oK b E t v
 | [],t,v,h=>by simp [ji,lk] at h
 | (m,u)::E,t,v,h=>by
  have hm:lk ((m,u)::E) m=some u:=by rw [aN,if_pos rfl]
  have lo:¬ 1000≤m→lk (ji b E) t=some v→oK b ((m,u)::E) t v:=fun hl h=>(qz h).up (by omega)
  have hd:1000≤m→∀ {v':SV C},lk ((m-1000,v')::ji b E) t=some v→(m=t+1000∧v=v')∨oK b ((m,u)::E) t v:=fun hl {v'} h=>by
   rw [aN] at h
   by_cases e:t=m-1000
   ·rw [if_pos e] at h;cases h;exact .inl ⟨by omega,rfl⟩
   ·rw [if_neg e] at h;exact .inr ((qz h).up (by omega))
  have ht:lk (rm (ji b E) (m-1000)) t=some v→oK b ((m,u)::E) t v:=fun h=>by
   rw [lg] at h
   by_cases e:t=m-1000
   ·rw [if_pos e] at h;cases h
   ·rw [if_neg e] at h;exact (qz h).up (by omega)
  have ble:∀ {x:Nat},Nat.ble 1000 x=true→1000≤x:=fun h=>Nat.le_of_ble_eq_true h
  have Vl:∀ {x:Nat},Nat.ble 1000 x=false→¬ 1000≤x:=fun h hl=>by rw [Nat.ble_eq_true_of_le hl] at h;cases h
  cases u with
  | bQ x j=>
   simp only [ji] at h
   cases c1:Nat.ble 1000 m with
   | false=>rw [c1] at h;exact lo (Vl c1) h
   | true=>
    rw [c1] at h
    cases c2:Nat.beq j (b+m) with
    | true=>
     rw [c2] at h
     rcases hd (ble c1) h with ⟨e,e2⟩ | h
     ·exact .inl ⟨x,j,by rw [←e];exact hm,.inl ⟨by have:=Nat.eq_of_beq_eq_true c2;omega,e2⟩⟩
     ·exact h
    | false=>
     rw [c2] at h
     cases c3:Nat.blt j (b+1000) with
     | true=>
      rw [c3] at h
      rcases hd (ble c1) h with ⟨e,e2⟩ | h
      ·exact .inl ⟨x,j,by rw [←e];exact hm,.inr ⟨AE c3,e2⟩⟩
      ·exact h
     | false=>rw [c3] at h;exact ht h
  | jf id j=>
   simp only [ji] at h
   cases c1:Nat.ble 1000 m with
   | false=>rw [c1] at h;exact lo (Vl c1) h
   | true=>
    rw [c1] at h
    cases c3:Nat.blt j (b+1000) with
    | true=>
     rw [c3] at h
     rcases hd (ble c1) h with ⟨e,e2⟩ | h
     ·exact .inr (.inl ⟨id,j,by rw [←e];exact hm,AE c3,e2⟩)
     ·exact h
    | false=>rw [c3] at h;exact ht h
  | frame=>
   simp only [ji] at h
   cases c1:Nat.ble 1000 m with
   | false=>rw [c1] at h;exact lo (Vl c1) h
   | true=>
    rw [c1] at h
    rcases hd (ble c1) h with ⟨e,e2⟩ | h
    ·exact .inr (.inr ⟨by rw [←e];exact hm,e2⟩)
    ·exact h
  | one _=>exact ht h
  | agg _=>exact ht h
  | qg _=>exact ht h
  | mN=>exact ht h
theorem uK {x:Bool×List (Lf C)} {v:Value} (h:gL K w ah β fp cM x v):dD K w ah β fp cM (Kh x) v:=by
 obtain ⟨b,ls⟩:=x
 cases b with
 | false=>obtain ⟨l,h1,h2⟩:=h;have h1:ls=[l]:=h1;subst h1;exact h2
 | true=>cases ls with
  | nil=>exact h
  | cons l r=>cases r<;>exact h
theorem mI:∀ {xs:List Operand} {ts:List TypeId} {vs:List (SV C)},fg X S xs ts=some vs→∀ (i:Nat) (v:SV C),vs[i]?=some v→G4 v=true
 | [],ts,vs,h,i,v,hi=>by simp only [fg,Option.some.injEq] at h;subst h;simp at hi
 | x::xs,ts,vs,h,i,v,hi=>by
  simp only [fg] at h;split at h
  ·split at h
   ·rename_i vs' hr
    cases h
    cases i with
    | zero=>simp at hi;subst hi;rfl
    | succ i=>exact mI hr i v (by simpa using hi)
   ·cases h
  ·split at h
   ·rename_i vs' hr
    cases h
    cases i with
    | zero=>simp at hi;subst hi;rfl
    | succ i=>exact mI hr i v (by simpa using hi)
   ·cases h
  ·cases h
theorem qm:∀ {sh:List (Bool×Nat)} {ls:List (Lf C)} (i:Nat) (v:SV C),(rI sh ls)[i]?=some v→G4 v=true
 | [],ls,i,v,h=>by simp [rI] at h
 | (b,n)::sh,ls,i,v,h=>by
  cases i with
  | zero=>simp [rI] at h;subst h;cases b<;>rfl
  | succ i=>exact qm i v (by simpa [rI] using h)
def kQ (vs:List (SV C)):Prop:=∀ (i:Nat) (v:SV C),vs[i]?=some v→G4 v=true
theorem kQ.nil:kQ ([]:List (SV C)):=fun i v h=>by simp at h
theorem kQ.append {vs us:List (SV C)} (h:kQ vs) (h':kQ us):kQ (vs++us):=fun i v hi=>by
 rw [List.getElem?_append] at hi;split at hi
 ·exact h i v hi
 ·exact h' _ v hi
theorem Gy (Wo:∀ f I,X.inl f=some I→dx P X.K f I) (hs:dc X.K w0 nt S β fp a w) {o:Oper} (hd:slot o.dst nt) {f:FuncId} {pre post:List (SV C)} {pu qu:List Value} {as:List Operand} {ts:List TypeId}
  (h:v8 X S f pre as ts post o k=some r) (hpre:gp X.K w S.ah β fp (aH S.ah fp w) pre pu) (qW:gp X.K w S.ah β fp (aH S.ah fp w) post qu) (W9:kQ pre) (NJ:kQ post)
  (ik:∀ fn,P.funcs[f]?=some fn→fn.body.isNone=false→fn.name ≠ "runtime.NumGoroutine" → (execOp a.eval o).run P w = .ok (.enter f (pu++(as.map a.eval++qu)).toArray) w):Goal P X w0 nt k r Q o a w:=by
 unfold v8 at h;split at h
 case h_2=>cases h
 rename_i I hI;split at h
 case h_2=>cases h
 rename_i vs hvs;rw [ja] at h;obtain ⟨hok,h⟩:=aw h;simp only [vO,kS] at h;have hall:=hpre.append ((oF hs hvs).append qW);have Wi:kQ (pre++(vs++post)):=W9.append (kQ.append (mI hvs) NJ);obtain ⟨⟨fn,rE,qX,tN⟩,lY,_⟩:=Wo f I hI;generalize hb:Gv S.base o.dst=b at h hok;have Wd:=hs.tidy X.hold
 let hd':Nat→Value:=fun j=>if b+1000≤j then a.tmps.getD (j-(b+1000)) undef else X.K.hd j
 have hnew:∀ t,hd' (b+1000+t)=a.tmps.getD t undef:=fun t=>by simp [hd']
 have hold:∀ j,j<b+1000→hd' j=X.K.hd j:=fun j hj=>by simp [hd',show ¬ b+1000≤j by omega]
 have hmem:∀ t v,lk (S.tidy X.hold).env t=some v→(∀ id j,v = .jf id j→j<b+1000)∧∀ x j,v = .bQ x j→j<b+1000:=fun t v ht=>uP hok t v (pS (Cj S.env X.hold t v ht))
 have gi:dc (X.K.gh X.K.kp X.K.kh hd') w0 0 (w8 b (S.tidy X.hold)) β fp nD w:=by
  refine ⟨hs.below,⟨rfl,hs.defers.2⟩,rfl,hs.fresh,hs.eM,fun id ob hi=>SG rfl rfl (hs.ah id ob hi),fun t v ht=>?_⟩;obtain ⟨t0,_,⟨l,q1,q2⟩ | ⟨ls,q1,q2⟩ | ⟨id,j,q1,q2⟩ | ⟨q1,q2⟩ | ⟨x,j,q1,q2⟩⟩:=mq ht
  ·subst q2
   show gL _ w S.ah β fp _ (false,[l]) (hd' (b+1000+t0));rw [hnew];exact ⟨l,rfl,vA (Wd.env t0 _ q1)⟩
  ·subst q2
   show gL _ w S.ah β fp _ (true,ls) (hd' (b+1000+t0));rw [hnew];obtain ⟨us,e1,e2⟩:=Wd.env t0 _ q1;exact ⟨us,e1,kg e2⟩
  ·subst q2
   show β id=hd' j;rw [hold j ((hmem t0 _ q1).1 id j rfl)];exact Wd.env t0 _ q1
  ·subst q2
   exact Wd.env t0 _ q1
  ·subst q2
   show gL _ w S.ah β fp _ x (hd' j);rw [hold j ((hmem t0 _ q1).2 x j rfl)];exact Kj (Wd.env t0 _ q1)
 have hcall:=lY X.K.kp X.K.kh hd' w0 w (w8 b (S.tidy X.hold)) β fp _ _ R _ r gi (fun t v ht=>by
   obtain ⟨t0,e,_⟩:=mq ht
   omega) hall.1 (fun i v hi=>by
   have:=hall.2 i v hi;have Mx:=Wi i v hi
   cases v with
   | one l=>exact vA this
   | agg ls=>obtain ⟨us,e1,e2⟩:=this;exact ⟨us,e1,kg e2⟩
   | _=>cases Mx) h
 show o.wp P a w (Next X.K w0 nt k r) Q;unfold Oper.wp;rw [ik fn rE qX tN];show Calls P f _ w _
 refine hcall.mono fun en w' ⟨v0,rs,mR,S',eK,eJ,he,hp,Fz,hk,hs',hlf⟩=>?_
 subst he;split at hk
 case h_2=>cases hk
 rename_i v XI
 have Ct:dc X.K w0 nt (UZ b S.base S') eK eJ a w':=by
  refine ⟨hs'.below,hs.defers,hs.size,hs'.fresh,hs'.eM,fun id ob hi=>SF rfl rfl (hs'.ah id ob hi),fun t v ht=>?_⟩
  rcases qz ht with ⟨x,j,q1,⟨q2,q3⟩ | ⟨q2,q3⟩⟩ | ⟨id,j,q1,q2,q3⟩ | ⟨q1,q2⟩
  ·subst q3
   have h1:gL _ w' S'.ah eK eJ _ x (hd' j):=hs'.env _ _ q1;rw [show j=b+1000+t by omega,hnew] at h1;exact uK (uL h1)
  ·subst q3
   have h1:gL _ w' S'.ah eK eJ _ x (hd' j):=hs'.env _ _ q1;rw [hold j q2] at h1;exact uL h1
  ·subst q3
   have h1:eK id=hd' j:=hs'.env _ _ q1;rw [hold j q2] at h1;exact h1
  ·subst q2
   exact hs'.env _ _ q1
 have hsv:=uW Fz XI (sj hlf);rw [←hp] at hsv;exact bn Ct hd hsv hk
def wg:List (Nat×SV C)→Nat
 | []=>0
 | (_,.jf _ j)::r=>j+wg r+1
 | (_,.bQ _ j)::r=>j+wg r+1
 | _::r=>wg r
theorem we:∀ {E:List (Nat×SV C)} {t:Nat} {v:SV C},(t,v)∈E→(∀ id j,v = .jf id j→j<wg E)∧∀ x j,v = .bQ x j→j<wg E
 | [],t,v,h=>by cases h
 | (t0,v0)::E,t,v,h=>by
  have up:∀ n,n<wg E→n<wg ((t0,v0)::E):=fun n hn=>by cases v0<;>simp only [wg]<;>omega
  rcases List.mem_cons.1 h with e | h
  ·cases e
   refine ⟨fun id j e=>?_,fun x j e=>?_⟩
   ·subst e;simp only [wg];omega
   ·subst e;simp only [wg];omega
  ·exact ⟨fun id j e=>up j ((we h).1 id j e),fun x j e=>up j ((we h).2 x j e)⟩
def R3 (b t:Nat):SV C→SV C
 | .one l=>.bQ (false,[l]) (b+1000+t)
 | .agg ls=>.bQ (true,ls) (b+1000+t)
 | v=>v
theorem xF {b:Nat}:∀ {E:List (Nat×SV C)} {t:Nat} {v:SV C},rf E=true→lk E t=some v→lk (lI b E) (t+1000)=some (R3 b t v)
 | [],t,v,_,h=>by cases h
 | (t0,v0)::E,t,v,ho,h=>by
  simp only [rf,Bool.and_eq_true] at ho;rw [aN] at h
  by_cases e:t=t0
  ·rw [if_pos e] at h
   cases h;subst e
   cases v0 with
   | qg xs=>cases ho.1
   | mN=>cases ho.1
   | _=>simp only [lI,aN,if_true,R3]
  ·rw [if_neg e] at h
   have ih:=xF (b:=b) ho.2 h
   have ne:t+1000≠t0+1000:=by omega
   cases v0 with
   | qg xs=>cases ho.1
   | mN=>cases ho.1
   | _=>simp only [lI,aN,if_neg ne];exact ih
theorem sF:∀ {E:List (Nat×SV C)} {t:Nat} {v:SV C},rf E=true→(t,v)∈E→yA v=true
 | [],t,v,_,h=>by cases h
 | (t0,v0)::E,t,v,ho,h=>by
  simp only [rf,Bool.and_eq_true] at ho
  rcases List.mem_cons.1 h with e | h
  ·cases e;exact ho.1
  ·exact sF ho.2 h
theorem UL {Q:Exit→Act→World→Prop} (Wo:∀ f I,X.inl f=some I→dx P X.K f I) (hs:dc X.K w0 nt S β fp a w) {o:Oper} (hd:slot o.dst nt) {su:jw C} (hm:qP X o=some su) {T:St C} (h:lV X su o S S some=some T) :
  o.wp P a w (fun a' w'=>nq X.K w0 nt T a' w') Q:=by
 unfold qP at hm;split at hm
 case h_2=>cases hm
 rename_i c hop hgd;split at hm
 case h_2=>cases hm
 rename_i f hcal;split at hm
 case h_2=>cases hm
 rename_i I hI;unfold lV yn at h;rw [hop] at h;simp only at h;split at h
 case h_2=>cases h
 rename_i vs O hvs hO;obtain ⟨hb,h⟩:=aw h;simp only [Bool.and_eq_true] at hb;obtain ⟨hE,hok⟩:=hb;obtain ⟨⟨fn,rE,qX,tN⟩,lY,hsum⟩:=Wo f I hI;obtain ⟨hgo,hrow,_⟩:=hsum su hm
 cases hg:su.g (vs.map tc) O with
 | none=>rw [hg] at h;cases h
 | some r0=>
 rw [hg] at h;simp only [Option.bind_some,kS] at h
 cases hv:rJ (su.ret r0) with
 | none=>rw [hv] at h;cases h
 | some v=>
 rw [hv] at h;simp only [Option.some.injEq] at h
 let b:=wg S.env
 let hd':Nat→Value:=fun j=>if b+1000≤j then a.tmps.getD (j-(b+1000)) undef else X.K.hd j
 have hnew:∀ t,hd' (b+1000+t)=a.tmps.getD t undef:=fun t=>by simp [hd']
 have hold:∀ j,j<b+1000→hd' j=X.K.hd j:=fun j hj=>by simp [hd',show ¬ b+1000≤j by omega]
 have hmem:∀ t v,lk S.env t=some v→(∀ id j,v = .jf id j→j<b+1000)∧∀ x j,v = .bQ x j→j<b+1000:=fun t v ht=>by
  have:=we (pS ht);exact ⟨fun id j e=>by have:=this.1 id j e;omega,fun x j e=>by have:=this.2 x j e;omega⟩
 have gi:dc (X.K.gh X.K.kp X.K.kh hd') w0 0 (w8 b S) β fp nD w:=by
  refine ⟨hs.below,⟨rfl,hs.defers.2⟩,rfl,hs.fresh,hs.eM,fun id ob hi=>SG rfl rfl (hs.ah id ob hi),fun t v ht=>?_⟩;obtain ⟨t0,_,⟨l,q1,q2⟩ | ⟨ls,q1,q2⟩ | ⟨id,j,q1,q2⟩ | ⟨q1,q2⟩ | ⟨x,j,q1,q2⟩⟩:=mq ht
  ·subst q2
   show gL _ w S.ah β fp _ (false,[l]) (hd' (b+1000+t0));rw [hnew];exact ⟨l,rfl,vA (hs.env t0 _ q1)⟩
  ·subst q2
   show gL _ w S.ah β fp _ (true,ls) (hd' (b+1000+t0));rw [hnew];obtain ⟨us,e1,e2⟩:=hs.env t0 _ q1;exact ⟨us,e1,kg e2⟩
  ·subst q2
   show β id=hd' j;rw [hold j ((hmem t0 _ q1).1 id j rfl)];exact hs.env t0 _ q1
  ·subst q2
   exact hs.env t0 _ q1
  ·subst q2
   show gL _ w S.ah β fp _ x (hd' j);rw [hold j ((hmem t0 _ q1).2 x j rfl)];exact Kj (hs.env t0 _ q1)
 have hall:=oF hs hvs
 have hap:jt su.fQ (gg (w8 b S).env++eB (dI su.ids (w8 b S).ah))=true:=by rw [hrow];rfl
 have hgo2:I.go (St C×SV C) vs (w8 b S) (fun rs S'=>match rJ rs with
  | some v=>some (S',v)
  | none=>none)=some ({ w8 b S with ah:=su.out r0++dI su.ids S.ah },v):=by
  rw [hgo];unfold Bl;have hO':mw (w8 b S).ah su.ids=some O:=hO;rw [hO'];simp only [hap,hok,Bool.and_self,cond_true,hg,Option.bind_some,hv];rfl
 have hcall:=lY X.K.kp X.K.kh hd' w0 w (w8 b S) β fp _ _ _ _ _ gi (fun t v ht=>by
   obtain ⟨t0,e,_⟩:=mq ht
   omega) hall.1 (fun i v hi=>by
   have:=hall.2 i v hi;have Mx:=List.all_eq_true.1 hok v (List.mem_of_getElem? hi)
   cases v with
   | one l=>exact vA this
   | agg ls=>obtain ⟨us,e1,e2⟩:=this;exact ⟨us,e1,kg e2⟩
   | _=>cases Mx) hgo2
 have ik:(execOp a.eval o).run P w = .ok (.enter f (c.args.toList.map a.eval).toArray) w:=by
  have MB:(fn.name == "runtime.NumGoroutine")=false:=by simpa using tN
  obtain ⟨dst,op,ty,pos,dL,gd⟩:=o;simp only at hop;subst hop;obtain ⟨TQ,as,ts⟩:=c;simp only at hcal;subst hcal
  have e:as.map a.eval=(as.toList.map a.eval).toArray:=by rw [←Array.toList_map,Array.toArray_toList]
  simp [execOp,resolve,Deferred.ofValue,invoke,callFunc,rE,qX,MB,Act.eval];rw [if_neg tN,if_neg (by intro hb;simp [hb] at qX)];simp only [Result.ok.injEq,Next.enter.injEq,true_and,and_true];exact e
 unfold Oper.wp;rw [ik];show Calls P f _ w _
 refine hcall.mono fun en w' ⟨v0,rs,mR,S',eK,eJ,he,hp,Fz,hk,hs',hlf⟩=>?_
 subst he;split at hk
 case h_2=>cases hk
 rename_i v' XI;simp only [Option.some.injEq,Prod.mk.injEq] at hk;obtain ⟨hk1,QL⟩:=hk;subst QL
 have Ct:dc X.K w0 nt { S with ah:=su.out r0++dI su.ids S.ah } eK eJ a w':=by
  subst hk1;refine ⟨hs'.below,hs.defers,hs.size,hs'.fresh,hs'.eM,fun id ob hi=>SF rfl rfl (hs'.ah id ob hi),fun t v ht=>?_⟩;have ht:lk S.env t=some v:=ht;have hf:=xF (b:=b) hE ht;have h1:=hs'.env (t+1000) _ hf
  cases v with
  | one l=>
   have h1:gL _ w' _ eK eJ _ (false,[l]) (hd' (b+1000+t)):=h1;rw [hnew] at h1;exact uK (uL h1)
  | agg ls=>
   have h1:gL _ w' _ eK eJ _ (true,ls) (hd' (b+1000+t)):=h1;rw [hnew] at h1;exact uK (uL h1)
  | jf id j=>
   have h1:eK id=hd' j:=h1;rw [hold j ((hmem t _ ht).1 id j rfl)] at h1;exact h1
  | frame=>exact h1
  | bQ x j=>
   have h1:gL _ w' _ eK eJ _ x (hd' j):=h1;rw [hold j ((hmem t _ ht).2 x j rfl)] at h1;exact uL h1
  | qg xs=>exact absurd (sF hE (pS ht)) (by simp [yA])
  | mN=>exact absurd (sF hE (pS ht)) (by simp [yA])
 have hlf2:cT X.K w' (su.out r0++dI su.ids S.ah) eK eJ (aH (su.out r0++dI su.ids S.ah) eJ w') (flatten rs) mR:=by
  subst hk1;exact sj hlf
 have hsv:=uW Fz XI hlf2;rw [←hp] at hsv;show nq X.K w0 nt T (a.put o.dst v0) w';rw [←h];exact ⟨eK,eJ,Ct.put o.dst hd hsv⟩
end
section
variable {Ty:Type} [DecidableEq Ty] {C:Ty→Type}
variable {P:Program} {X:Cx C} {K:Cd C} {w0 w:World} {nt:Nat} {S:St C} {β:Nat→Value} {fp:Nat→Nat→Prop} {a:Act} {R:Type} {k:St C→Option R} {r:R}
variable {dst:Option Tmp} {ty:TypeId} {pos:String} {dL:Array Edge} {gd:Option (Nat×Bool)} {Q:Exit→Act→World→Prop} {ah:cW C} {cM:Nat→Prop}
theorem take_left {α:Type} {l l':List α} {n:Nat} (h:l.length=n):(l++l').take n=l:=by subst h;simp
theorem drop_left {α:Type} {l l':List α} {n:Nat} (h:l.length=n):(l++l').drop n=l':=by subst h;simp
theorem oc:∀ {vs:List (SV C)} {us:List Value},kQ vs→gp K w ah β fp cM vs us→∃ fs,cT K w ah β fp cM (er vs) fs∧jE (tH vs) fs=us
 | [],us,_,h=>by
  obtain rfl:us=[]:=by have:=h.1;simpa using this
  exact ⟨[],⟨rfl,fun i l h=>by simp [er] at h⟩,rfl⟩
 | v::vs,us,ha,h=>by
  obtain ⟨u,us,rfl⟩:∃ u mM,us=u::mM:=by
   cases us with
   | nil=>have:=h.1;simp at this
   | cons u us=>exact ⟨u,us,rfl⟩
  have h':gp K w ah β fp cM vs us:=⟨by have:=h.1;simpa using this,fun i v hi=>h.2 (i+1) v (by simpa using hi)⟩;obtain ⟨fs,q1,q2⟩:=oc (fun i v hi=>ha (i+1) v (by simpa using hi)) h';have h0:dD K w ah β fp cM v u:=h.2 0 v rfl;have hok:=ha 0 v rfl
  cases v with
  | one l=>
   refine ⟨u::fs,⟨by simp [er,SV.leaves,q1.1],fun i l' hi=>?_⟩,by simp [tH,jE,q2]⟩
   cases i with
   | zero=>simp [er,SV.leaves] at hi;subst hi;exact h0
   | succ i=>exact q1.2 i l' (by simpa [er,SV.leaves] using hi)
  | agg ls=>
   obtain ⟨XA,rfl,hv⟩:=h0;refine ⟨XA++fs,⟨by simp [er,SV.leaves,q1.1,hv.1],fun i l' hi=>?_⟩,?_⟩
   ·simp only [er,SV.leaves,List.getElem?_append] at hi
    have e:(XA++fs).getD i undef=if i<XA.length then XA.getD i undef else fs.getD (i-XA.length) undef:=by
     simp only [List.getD_eq_getElem?_getD,List.getElem?_append];split<;>rfl
    rw [e,hv.1];split at hi
    ·rename_i hlt;rw [if_pos hlt];exact hv.2 i l' hi
    ·rename_i hlt;rw [if_neg hlt];exact q1.2 _ l' hi
   ·simp only [tH,jE,cond_true,take_left hv.1,drop_left hv.1,q2]
  | _=>cases hok
theorem kL:∀ (l l':List (Lf C)),ey (l++l')=ey l++ey l'
 | [],_=>rfl
 | x::l,l'=>by simp [ey,kL l l']
theorem nE:∀ (l l':List (SV C)),er (l++l')=er l++er l'
 | [],_=>rfl
 | x::l,l'=>by simp [er,nE l l']
theorem o7:∀ {xs:List Operand} {ts:List TypeId} {vs:List (SV C)},fg X S xs ts=some vs→∀ id,id∈ey (er vs)→id∈gg S.env
 | [],ts,vs,h,id,hi=>by simp only [fg,Option.some.injEq] at h;subst h;simp [er,ey] at hi
 | x::xs,ts,vs,h,id,hi=>by
  simp only [fg] at h;split at h
  ·rename_i l hv
   split at h
   ·rename_i vs' hr
    cases h;simp only [er,kL,List.mem_append] at hi
    rcases hi with hi | hi
    ·exact vl hv (mY hi)
    ·exact o7 hr id hi
   ·cases h
  ·rename_i l hv
   split at h
   ·rename_i vs' hr
    cases h;simp only [er,kL,List.mem_append] at hi
    rcases hi with hi | hi
    ·exact vl hv (mY hi)
    ·exact o7 hr id hi
   ·cases h
  ·cases h
theorem LR (hs:dc X.K w0 nt S β fp a w) (hd:slot dst nt) {id:Nat} {kd:VT} {ls:List (Lf C)} {fs:List Value} {hv:Value} {S':St C} (gu:S.add id (.box kd ls)=some S')
  (Wm:(∃ f n sh,kd = .sM f n sh∧hv=Jy f n sh fs)∨∃ t sh,kd = .lX t sh∧hv=Jf t sh fs)
  (hl:cT X.K w S.ah β fp (aH S.ah fp w) ls fs) (Cz:∀ i,i∈ey ls→i∈gg S.env) (hk:k (S'.put dst (.one (.vo id)))=some r) :
  Next X.K w0 nt k r (a.put dst hv) w:=by
 obtain ⟨hn,rfl⟩:=jv gu;have hw:Below w.heap.size w w:=Below.refl _ _;have hl':=Hj hs hw (id:=id) (ob:=.box kd ls) (hv:=hv) (F:=fun _=>False) (fun k hk=>hk.elim) hl (fun hm=>hn.1 (Cz _ hm))
 have h2:=hs.wm hw hn (ob:=.box kd ls) (hv:=hv) (F:=fun _=>False) (fun k hk=>hk.elim) (by
  rcases Wm with ⟨f,n,sh,rfl,rfl⟩ | ⟨t,sh,rfl,rfl⟩
  ·exact ⟨fs,rfl,fun k hk=>hk,hl'⟩
  ·exact ⟨fs,rfl,fun k hk=>hk,hl'⟩)
 refine bn h2 hd (v:=.one (.vo id)) ⟨?_,(cZ _ _ _).symm⟩ hk
 rcases Wm with ⟨f,n,sh,rfl,rfl⟩ | ⟨t,sh,rfl,rfl⟩<;>rfl
theorem ES (hs:dc X.K w0 nt S β fp a w) (hd:slot dst nt) {fn:Fn} {first captured:Array Operand} (h:ev X ⟨dst,.makeFunc fn first captured,ty,pos,dL,gd⟩ S k=some r):Goal P X w0 nt k r Q ⟨dst,.makeFunc fn first captured,ty,pos,dL,gd⟩ a w:=by
 simp only [ev] at h;split at h
 case h_2=>cases h
 rename_i f;split at h
 case h_2=>cases h
 rename_i vs us hvs AZ;have h1:=oF hs hvs;have h2:=oF hs AZ
 have ik:∀ v,v=Value.func (.func f) (first.map a.eval) (captured.map a.eval)→(execOp a.eval ⟨dst,.makeFunc (.func f) first captured,ty,pos,dL,gd⟩).run P w = .ok (.value v) w:=fun v e=>by
  subst e;simp [execOp,Instr.makeFunc]
 have e1:first.map a.eval=(first.toList.map a.eval).toArray:=by rw [←Array.toList_map,Array.toArray_toList]
 have e2:captured.map a.eval=(captured.toList.map a.eval).toArray:=by rw [←Array.toList_map,Array.toArray_toList]
 cases he:(vs++us).isEmpty with
 | true=>
  rw [he] at h;simp only [cond_true] at h
  have hnil:vs=[]∧us=[]:=by simpa using he
  obtain ⟨rfl,rfl⟩:=hnil
  have z1:first.toList.map a.eval=[]:=List.length_eq_zero_iff.1 h1.1
  have z2:captured.toList.map a.eval=[]:=List.length_eq_zero_iff.1 h2.1;rw [z1] at e1;rw [z2] at e2
  cases hf:Nat.ble nK f with
  | true=>rw [hf] at h;cases h
  | false=>
   rw [hf] at h;exact bl (ik (vP (some f)) (by rw [e1,e2,oo hf])) (bn hs hd (v:=.one (.bP (some f))) rfl h)
 | false=>
  rw [he] at h;simp only [cond_false] at h;split at h
  case h_2=>cases h
  rename_i S' gu;obtain ⟨fs,q1,q2⟩:=oc (kQ.append (mI hvs) (mI AZ)) (h1.append h2);refine bl (ik (Jy f vs.length (tH (vs++us)) fs) ?_) (LR hs hd gu (.inl ⟨f,_,_,rfl,rfl⟩) q1 (fun i hi=>?_) h)
  ·unfold Jy
   rw [q2,take_left h1.1,drop_left h1.1,e1,e2]
  ·rw [nE,kL] at hi
   rcases List.mem_append.1 hi with hi | hi
   ·exact o7 hvs i hi
   ·exact o7 AZ i hi
theorem tI (hX:je P X) (hs:dc X.K w0 nt S β fp a w) (hd:slot dst nt) {t:TypeId} {x:Operand} (h:ev X ⟨dst,.makeInterface t x,ty,pos,dL,gd⟩ S k=some r):Goal P X w0 nt k r Q ⟨dst,.makeInterface t x,ty,pos,dL,gd⟩ a w:=by
 simp only [ev] at h;split at h
 case h_3=>cases h
 case h_1=>
  rename_i ht hv;obtain ⟨vs,hvs,hlen,_⟩:=dM hs hv;obtain ⟨_,fields,hu,_⟩:=hX.tk _ _ ht;have hnil:vs=[]:=List.length_eq_zero_iff.1 hlen;subst hnil
  have hval:vP (some (nK+1+t)) = .iface t (.agg #[]):=by
   rw [Aq (Nat.ble_eq_true_of_le (Nat.le_add_right _ _)),Nat.add_sub_cancel_left]
  refine bl (v:=vP (some (nK+1+t))) ?_ (bn hs hd (v:=.one (.bP (some (nK+1+t)))) rfl h)
  have:(Instr.makeInterface t (a.eval x)).run P w = .ok (.iface t (a.eval x)) w:=by
   unfold Instr.makeInterface;rw [Sem.run_bind,bb hu];rfl
  rw [hvs] at this;simp [execOp,hval,hvs,this]
 rename_i tk v _ ht hv;obtain ⟨hb,h⟩:=aw h;simp only [Bool.and_eq_true] at hb;split at h
 case h_2=>cases h
 rename_i S' gu
 have hsv:gp X.K w S.ah β fp (aH S.ah fp w) [v] [a.eval x]:=⟨rfl,fun i v' hi=>by
  cases i with
  | zero=>simp at hi;subst hi;exact dM hs hv
  | succ i=>simp at hi⟩
 obtain ⟨fs,q1,q2⟩:=oc (vs:=[v]) (fun i v' hi=>by
  cases i with
  | zero=>simp at hi;subst hi;exact hb.2
  | succ i=>simp at hi) hsv
 have Pe:cT X.K w S.ah β fp (aH S.ah fp w) v.leaves fs:=by simpa [er] using q1
 have hund:∃ d,P.underlying t=some d∧∀ ms,d ≠ .interface ms:=by
  have hT:=hX.tk _ _ ht
  cases tk with
  | one z=>
   obtain ⟨_,d,h1,h2⟩:=hT;refine ⟨d,h1,fun ms e=>?_⟩;subst e
   cases z with
   | nk n=>cases n with
    | lX=>exact absurd hb.1 (by simp [E9])
    | map=>obtain ⟨_,_,h2⟩:=h2;cases h2
   | ptr=>obtain ⟨_,h2⟩:=h2;cases h2
   | bP=>obtain ⟨_,_,_,h2⟩:=h2;cases h2
   | _=>cases h2
  | agg fs zs=>
   obtain ⟨_,f,h1,_⟩:=hT;exact ⟨_,h1,fun ms e=>by cases e⟩
  | arr n sz ag zs=>
   obtain ⟨_,_,_,e,i,h1,_⟩:=hT;exact ⟨_,h1,fun ms e=>by cases e⟩
 obtain ⟨d,Wp,hd2⟩:=hund;refine bl (v:=Jf t (tH [v]) fs) ?_ (LR hs hd gu (.inr ⟨t,_,rfl,rfl⟩) Pe (fun i hi=>vl hv (mY hi)) h);unfold Jf;rw [q2]
 have:(Instr.makeInterface t (a.eval x)).run P w = .ok (.iface t (a.eval x)) w:=by
  unfold Instr.makeInterface;rw [Sem.run_bind,bb Wp];simp only [Result.andThen_ok]
  cases d<;>first | rfl | exact absurd rfl (hd2 _)
 simp [execOp,this]
theorem Gz (hC1:∀ f c,X.HU f=some c→dm P X.K f c) (hC2:∀ f I,X.inl f=some I→dx P X.K f I) (hs:dc X.K w0 nt S β fp a w) {o:Oper} (hd:slot o.dst nt) {f:FuncId} {pre post:List (SV C)} {pu qu:List Value} {as:List Operand} {ts:List TypeId}
  (h:rq X S f pre as ts post o k=some r) (hpre:gp X.K w S.ah β fp (aH S.ah fp w) pre pu) (qW:gp X.K w S.ah β fp (aH S.ah fp w) post qu) (W9:kQ pre) (NJ:kQ post)
  (ik:∀ fn,P.funcs[f]?=some fn→fn.body.isNone=false→fn.name ≠ "runtime.NumGoroutine" → (execOp a.eval o).run P w = .ok (.enter f (pu++(as.map a.eval++qu)).toArray) w):Goal P X w0 nt k r Q o a w:=by
 unfold rq at h;split at h
 ·rename_i c hc
  exact GA hs (hC1 f c hc) h hpre qW ik hd
 ·exact Gy hC2 hs hd h hpre qW W9 NJ ik
theorem kQ.take {vs:List (SV C)} (h:kQ vs) (n:Nat):kQ (vs.take n):=fun i v hi=>h i v (by
 rw [List.getElem?_take] at hi;split at hi
 ·exact hi
 ·cases hi)
theorem kQ.drop {vs:List (SV C)} (h:kQ vs) (n:Nat):kQ (vs.drop n):=fun i v hi=>h (n+i) v (by rwa [List.getElem?_drop] at hi)
theorem Np (hs:dc X.K w0 nt S β fp a w) {l:Lf C} {u:Value} (hl:db X.K w S.ah β fp (aH S.ah fp w) l u) {kk:Nat→List (SV C)→List (SV C)→Option R} (h:pE S l kk=some r) :
  ∃ f pre post pu qu,kk f pre post=some r∧u = .func (.func f) pu.toArray qu.toArray∧gp X.K w S.ah β fp (aH S.ah fp w) pre pu∧gp X.K w S.ah β fp (aH S.ah fp w) post qu∧kQ pre∧kQ post:=by
 unfold pE at h;split at h
 ·rename_i f
  cases hf:Nat.ble nK f with
  | true=>rw [hf] at h;cases h
  | false=>
   rw [hf] at h;exact ⟨_,_,_,[],[],h,(show u=_ from hl).trans (oo hf),.nil,.nil,.nil,.nil⟩
 ·rename_i id
  split at h
  ·rename_i f n sh ls ho
   obtain ⟨hb,h⟩:=aw h;obtain ⟨us,q1,q2⟩:=FW hs ho;have:=zz hb q2;exact ⟨f,_,_,_,_,h,hl.2.trans q1,this.take n,this.drop n,kQ.take (fun i v hi=>qm i v hi) n,kQ.drop (fun i v hi=>qm i v hi) n⟩
  ·cases h
 ·cases h
theorem Mn (hs:dc X.K w0 nt S β fp a w) {x:Operand} {kk:TypeId→SV C→Option R} (h:qV S (eG S x) kk=some r) :
  ∃ t v u,kk t v=some r∧a.eval x = .iface t u∧dD X.K w S.ah β fp (aH S.ah fp w) v u∧G4 v=true:=by
 unfold qV at h;split at h
 case h_3=>cases h
 case h_2=>
  rename_i f hx;have hv:a.eval x=vP (some f):=cG hs hx;obtain ⟨hf,h⟩:=aw h;exact ⟨_,_,_,h,hv.trans (Aq hf),⟨[],rfl,rfl,fun i l hi=>by simp at hi⟩,rfl⟩
 rename_i id hx;have hv:=cG hs hx;split at h
 ·rename_i t sh ls ho
  obtain ⟨hb,h⟩:=aw h;obtain ⟨us,q1,q2⟩:=Fv hs ho;have q3:=zz hb q2;split at h
  ·rename_i v Hr
   rw [Hr] at q3;refine ⟨t,v,_,h,(show a.eval x=β id from hv.2).trans q1,?_,qm (sh:=sh) (ls:=ls) 0 v (by rw [Hr];rfl)⟩;have h2:=q3.2 0 v rfl
   have e:(jE sh us).headD undef=(jE sh us).getD 0 undef:=by cases jE sh us<;>rfl
   rw [e];exact h2
  ·cases h
 ·cases h
theorem PU (hC1:∀ f c,X.HU f=some c→dm P X.K f c) (hC2:∀ f I,X.inl f=some I→dx P X.K f I) (hs:dc X.K w0 nt S β fp a w) (hd:slot dst nt) {t:Tmp} {as:Array Operand} {ts:Array TypeId}
  (h:ev X ⟨dst,.call { callee:=.value (.tmp t),args:=as,argTypes:=ts },ty,pos,dL,gd⟩ S k=some r):Goal P X w0 nt k r Q ⟨dst,.call { callee:=.value (.tmp t),args:=as,argTypes:=ts },ty,pos,dL,gd⟩ a w:=by
 simp only [ev] at h;split at h
 case h_2=>cases h
 rename_i l hl;obtain ⟨f,pre,post,pu,qu,h,hu,q1,q2,q3,q4⟩:=Np hs (show db _ _ _ _ _ _ l (a.eval (.tmp t)) from hs.env t _ hl) h
 refine Gz hC1 hC2 hs hd h q1 q2 q3 q4 fun fn rE qX tN=>?_
 have e:(pu++(as.toList.map a.eval++qu)).toArray=pu.toArray++as.map a.eval++qu.toArray:=by
  have:as.map a.eval=(as.toList.map a.eval).toArray:=by rw [←Array.toList_map,Array.toArray_toList]
  rw [this];simp
 rw [e,← mE (us:=pu.toArray++as.map a.eval++qu.toArray) rE qX tN];simp only [execOp,resolve,hu,Deferred.ofValue];simp [invoke]
theorem KA (hX:je P X) (hC1:∀ f c,X.HU f=some c→dm P X.K f c) (hC2:∀ f I,X.inl f=some I→dx P X.K f I) (hs:dc X.K w0 nt S β fp a w) (hd:slot dst nt) {x:Operand} {name:String} {as:Array Operand} {ts:Array TypeId}
  (h:ev X ⟨dst,.call { callee:=.invoke x name,args:=as,argTypes:=ts },ty,pos,dL,gd⟩ S k=some r):Goal P X w0 nt k r Q ⟨dst,.call { callee:=.invoke x name,args:=as,argTypes:=ts },ty,pos,dL,gd⟩ a w:=by
 simp only [ev] at h;obtain ⟨t,v,u,h,hu,q1,q2⟩:=Mn hs h;split at h
 case h_2=>cases h
 rename_i f hm
 refine Gz hC1 hC2 hs hd (pu:=[u]) (qu:=[]) h ⟨rfl,fun i v' hi=>?_⟩ .nil (fun i v' hi=>?_) .nil fun fn rE qX tN=>?_
 ·cases i with
  | zero=>simp at hi;subst hi;exact q1
  | succ i=>simp at hi
 ·cases i with
  | zero=>simp at hi;subst hi;exact q2
  | succ i=>simp at hi
 ·have e:([u]++(as.toList.map a.eval++[])).toArray = #[u]++as.map a.eval:=by
   have:as.map a.eval=(as.toList.map a.eval).toArray:=by rw [←Array.toList_map,Array.toArray_toList]
   rw [this];simp
  have e2:(#[Value.iface t u]++as.map a.eval).extract 1 (#[Value.iface t u]++as.map a.eval).size=as.map a.eval:=by
   apply Array.ext';simp;exact List.take_of_length_le (by simp)
  have e3:(#[Value.iface t u]++as.map a.eval)[0]?=some (Value.iface t u):=by rw [Array.getElem?_append];rfl
  rw [e,← mE (us:= #[u]++as.map a.eval) rE qX tN];simp only [execOp,resolve,hu];simp only [Sem.run_bind,Sem.run_pure,Result.andThen_ok,invoke,e3,e2];simp only [callMethod,Sem.run_bind,run_program,Result.andThen_ok,hX.Ff _ _ _ hm]
end
open Go.ChangeMaps (setBlock)
section
variable {Ty:Type} [DecidableEq Ty] {C:Ty→Type}
variable {P:Program} {X:Cx C} {K:Cd C} {w0 w:World} {nt:Nat} {S:St C} {β:Nat→Value} {fp:Nat→Nat→Prop} {a:Act} {R:Type} {k:St C→Option R} {r:R}
variable {dst:Option Tmp} {ty:TypeId} {pos:String} {dL:Array Edge} {gd:Option (Nat×Bool)} {Q:Exit→Act→World→Prop} {ah:cW C} {cM:Nat→Prop}
theorem yx {l:Lf C} {u:Value} (hp:l.plain=true) (hr:∀ t xs,l ≠ .row t xs):db K w ah β fp cM l u↔u=u6 l:=by
 cases l with
 | row t xs=>exact absurd rfl (hr t xs)
 | int=>exact Iff.rfl
 | bool=>exact Iff.rfl
 | str=>exact Iff.rfl
 | bP=>exact Iff.rfl
 | _=>cases hp
theorem yL {t:Ty} (hf:K.flat t=true) {x:C t} {l:Lf C} (hl:l∈K.enc t x):l.plain=true∧∀ t' ys,l ≠ .row t' ys:=
 ⟨K.yN t x l hl,fun t' ys e=>K.vU t hf x t' ys (e▸hl)⟩
theorem si {t:Ty} (hf:K.flat t=true) {x:C t} {us:List Value}:cT K w ah β fp cM (K.enc t x) us↔us=(K.enc t x).map u6:=by
 constructor
 ·intro h
  apply List.ext_getElem (by simp [h.1]);intro i h1 h2
  have hi:i<(K.enc t x).length:=by simpa using h2
  have hm:=yL hf (x:=x) (List.getElem_mem hi);have:=(yx hm.1 hm.2).1 (h.2 i _ (List.getElem?_eq_getElem hi));simp only [List.getElem_map];rw [←this];simp [List.getD,h1]
 ·rintro rfl
  refine ⟨by simp,fun i l hl=>?_⟩;have hm:=yL hf (x:=x) (List.mem_of_getElem? hl);refine (yx hm.1 hm.2).2 ?_;simp [List.getD,hl]
theorem EH {t:Ty} (hf:K.flat t=true) {x:C t} {v:SV C} {u:Value} {ag:Bool} (he:K.enc t x=v.leaves) (hok:G4 v=true) (ha:Rk v=ag) (hv:dD K w ah β fp cM v u):u=mkV ag ((K.enc t x).map u6):=by
 subst ha
 cases v with
 | one l=>
  have h1:cT K w ah β fp cM (K.enc t x) [u]:=by
   rw [he];refine ⟨rfl,fun i l' hi=>?_⟩
   cases i with
   | zero=>simp [SV.leaves] at hi;subst hi;exact hv
   | succ i=>simp [SV.leaves] at hi
  rw [←(si hf).1 h1];rfl
 | agg ls=>
  obtain ⟨us,rfl,h⟩:=hv
  have h1:cT K w ah β fp cM (K.enc t x) us:=by rw [he];exact h
  rw [←(si hf).1 h1];rfl
 | _=>cases hok
theorem Qv {a b:MK} (h:mkEq a b=true):a=b:=by
 obtain ⟨a1,a2,a3,a4⟩:=a;obtain ⟨b1,b2,b3,b4⟩:=b;simp only [mkEq,Bool.and_eq_true,beq_iff_eq] at h;obtain ⟨⟨⟨rfl,rfl⟩,rfl⟩,rfl⟩:=h;rfl
theorem qQ (hs:dc X.K w0 nt S β fp a w) {m:MT Ty} {T:TypeId} (hm:Dm P X.K T m) {l:Lf C} {key:SV C} {u uk:Value} {kk:(kt vt:Ty)→C kt→List (Nat×C kt×C vt)→Nat→Option R}
  (h:ld X S m l key kk=some r) (hl:db X.K w S.ah β fp (aH S.ah fp w) l u) (hk:dD X.K w S.ah β fp (aH S.ah fp w) key uk) :
  ∃ x xs c,kk m.kt m.vt x xs c=some r∧uk=lh X.K m.fl m.kt x∧((l = .lF .map∧u = .map none∧xs=[]) ∨
   ∃ id b es,l = .vo id∧lk S.ah id=some (.map m.fl m.kt m.vt xs c)∧u = .map (some b)∧w.heap[b]?=some (.map es c)∧(∀ k,fp id k↔k=b)∧β id = .map (some b)∧es.toList=xs.map (ou X.K m.fl m.kt m.vt)):=by
 obtain ⟨sr,tP,hM⟩:=hm;unfold ld at h;obtain ⟨hb,h⟩:=aw h;simp only [Bool.and_eq_true,beq_iff_eq] at hb;split at h
 ·split at h
  ·rename_i x hx
   exact ⟨x,[],0,h,EH hM.fk (X.K.js _ _ _ hx) hb.1 hb.2 hk,.inl ⟨rfl,hl,rfl⟩⟩
  ·cases h
 ·rename_i id _
  split at h
  ·rename_i mk kt vt xs c ho
   obtain ⟨hq,h5⟩:=aw h;clear h;simp only [Bool.and_eq_true,decide_eq_true_eq] at hq;obtain ⟨⟨e1,e2⟩,hq⟩:=hq;have hq:=Qv hq;subst e1 e2 hq;split at h5
   ·rename_i x hx
    obtain ⟨b,es,h1,h2,h3,h4⟩:=hs.ah id _ ho;exact ⟨x,xs,c,h5,EH hM.fk (X.K.js _ _ _ hx) hb.1 hb.2 hk,.inr ⟨id,b,es,rfl,ho,hl.2.trans h1,h2,h3,h1,h4⟩⟩
   ·cases h5
  ·cases h
 ·cases h
variable {fl:MK} {kt vt:Ty}
theorem rZ (x:C kt):∀ (xs:List (Nat×C kt×C vt)) (i:Nat),(tK K kt vt x xs=none∧jl K fl kt vt x xs i=none)∨∃ e j,tK K kt vt x xs=some e∧jl K fl kt vt x xs i=some (j,pg K fl vt e.2.2)
 | [],i=>.inl ⟨rfl,rfl⟩
 | e::r,i=>by
  simp only [tK,jl]
  cases h:jr (K.enc kt e.2.1) (K.enc kt x) with
  | true=>exact .inr ⟨e,i,rfl,rfl⟩
  | false=>exact rZ x r (i+1)
theorem ym (x:C kt) (y:C vt) (c:Nat):∀ (xs:List (Nat×C kt×C vt)) (i:Nat),jl K fl kt vt x xs i=none→xf K kt vt x y c xs=xs++[(c,x,y)]
 | [],i,h=>rfl
 | e::r,i,h=>by
  simp only [jl] at h;simp only [xf]
  cases hk:jr (K.enc kt e.2.1) (K.enc kt x) with
  | true=>rw [hk] at h;cases h
  | false=>rw [hk] at h;simp only [cond_false,List.cons_append,ym x y c r (i+1) h]
theorem yl (x:C kt) (y:C vt) (c:Nat):∀ (xs:List (Nat×C kt×C vt)) (i j:Nat) (v:Value),jl K fl kt vt x xs i=some (j,v) →
  i≤j∧(∃ e,xs[j-i]?=some e∧jr (K.enc kt e.2.1) (K.enc kt x)=true)∧(xs.map (ou K fl kt vt)).modify (j-i) (fun e=>{ e with key:=lh K fl kt x,val:=pg K fl vt y })=(xf K kt vt x y c xs).map (ou K fl kt vt)
 | [],i,j,v,h=>by cases h
 | e::r,i,j,v,h=>by
  simp only [jl] at h;simp only [xf]
  cases hk:jr (K.enc kt e.2.1) (K.enc kt x) with
  | true=>
   rw [hk] at h;cases h;refine ⟨Nat.le_refl _,⟨e,by simp,hk⟩,?_⟩;simp [ou]
  | false=>
   rw [hk] at h;obtain ⟨h1,⟨e',h2,h3⟩,h4⟩:=yl x y c r (i+1) j v h
   have e1:j-i=(j-(i+1))+1:=by omega
   refine ⟨by omega,⟨e',by rw [e1];simpa using h2,h3⟩,?_⟩;rw [e1];simp only [List.map_cons,List.modify_succ_cons,cond_false,h4]
theorem yt (x:C kt):∀ (xs:List (Nat×C kt×C vt)) (i j:Nat) (v:Value),jl K fl kt vt x xs i=some (j,v)→i≤j∧j-i<xs.length∧(xs.map (ou K fl kt vt)).eraseIdx (j-i)=(xg K kt vt x xs).map (ou K fl kt vt)
 | [],i,j,v,h=>by cases h
 | e::r,i,j,v,h=>by
  simp only [jl] at h;simp only [xg]
  cases hk:jr (K.enc kt e.2.1) (K.enc kt x) with
  | true=>
   rw [hk] at h;cases h;refine ⟨Nat.le_refl _,by simp,by simp⟩
  | false=>
   rw [hk] at h;obtain ⟨h1,h2,h4⟩:=yt x r (i+1) j v h
   have e1:j-i=(j-(i+1))+1:=by omega
   refine ⟨by omega,by rw [e1];simpa using h2,?_⟩;rw [e1];simp only [List.map_cons,List.eraseIdx_cons_succ,cond_false,h4]
theorem yu (x:C kt):∀ (xs:List (Nat×C kt×C vt)) (i:Nat),jl K fl kt vt x xs i=none→xg K kt vt x xs=xs
 | [],i,h=>rfl
 | e::r,i,h=>by
  simp only [jl] at h;simp only [xg]
  cases hk:jr (K.enc kt e.2.1) (K.enc kt x) with
  | true=>rw [hk] at h;cases h
  | false=>rw [hk] at h;simp only [cond_false,yu x r (i+1) h]
theorem Fh {yes:C vt→Option R} {no:Option R} (x:C kt):∀ {xs:List (Nat×C kt×C vt)},SK K kt vt x yes no xs=some r→(∃ e,tK K kt vt x xs=some e∧yes e.2.2=some r)∨(tK K kt vt x xs=none∧no=some r)
 | [],h=>.inr ⟨rfl,h⟩
 | e::xs,h=>by
  simp only [SK] at h;simp only [tK]
  cases hk:jr (K.enc kt e.2.1) (K.enc kt x) with
  | true=>rw [hk] at h;exact .inl ⟨e,rfl,h⟩
  | false=>rw [hk] at h;exact Fh x h
theorem Ce {T:TypeId} {m:MT Ty} {sr tP:TypeId} (hM:wG P K T m sr tP) {u:Value} {x:C m.kt} {xs:List (Nat×C m.kt×C m.vt)} {c:Nat}
  (hu:(u = .map none∧xs=[])∨∃ b es,u = .map (some b)∧w.heap[b]?=some (.map es c)∧es.toList=xs.map (ou K m.fl m.kt m.vt)) (ok:Bool) :
  (Instr.lookup T u (lh K m.fl m.kt x) ok).run P w = .ok (cond ok (.tuple #[pg K m.fl m.vt (pQ K m.kt m.vt x xs),.bool (pR K m.kt m.vt x xs)]) (pg K m.fl m.vt (pQ K m.kt m.vt x xs))) w:=by
 have key:∀ es:Array MapEntry,es.toList=xs.map (ou K m.fl m.kt m.vt)→((do
   Instr.checkKey es.isEmpty 10000 sr (lh K m.fl m.kt x)
   let (v,ok') ← match ← Instr.findKey sr (lh K m.fl m.kt x) es.toList with
    | some (_,v)=>pure (v,true)
    | none=>pure (←zeroValue tP,false)
   pure (if ok then .tuple #[v,.bool ok'] else v):Sem Value)).run P w = .ok (cond ok (.tuple #[pg K m.fl m.vt (pQ K m.kt m.vt x xs),.bool (pR K m.kt m.vt x xs)]) (pg K m.fl m.vt (pQ K m.kt m.vt x xs))) w:=by
  intro es he;rw [he];simp only [Sem.run_bind,hM.pF,Result.andThen_ok,hM.find]
  rcases rZ (K:=K) (fl:=m.fl) x xs 0 with ⟨h1,h2⟩ | ⟨e,j,h1,h2⟩
  ·rw [h2]
   simp only [Sem.run_bind,hM.zero,Result.andThen_ok,Sem.run_pure,pQ,pR,h1];cases ok<;>rfl
  ·rw [h2]
   simp only [Sem.run_pure,Result.andThen_ok,pQ,pR,h1];cases ok<;>rfl
 unfold Instr.lookup;simp only [Sem.run_bind,bb hM.mN,Result.andThen_ok]
 rcases hu with ⟨rfl,rfl⟩ | ⟨b,es,rfl,hb,he⟩
 ·have:=key #[] rfl
  have hp:(pure #[]:Sem (Array MapEntry)).run P w = .ok #[] w:=rfl;simp only [Sem.run_bind] at this ⊢;rw [hp];exact this
 ·have hg:(getObj b).run P w = .ok (.map es c) w:=by simp [getObj,Sem.run,hb]
  have:=key es he;simp only [Sem.run_bind] at this;have hp:(pure es:Sem (Array MapEntry)).run P w = .ok es w:=rfl;simp only [Sem.run_bind,hg,Result.andThen_ok];rw [hp];exact this
theorem mB {T:TypeId} {m:MT Ty} {sr tP:TypeId} (hM:wG P X.K T m sr tP) (y:C m.vt):gL X.K w ah β fp cM (th X m.fl m.vt y) (pg X.K m.fl m.vt y):=by
 have h1:=hM.Yq;have h2:=(si (K:=X.K) (w:=w) (ah:=ah) (β:=β) (fp:=fp) (cM:=cM) hM.fv (x:=y)).2 rfl;have h3:=X.K.gA m.vt y;unfold th pg mkV
 cases hu:m.fl.un with
 | true=>exact ⟨[],rfl,rfl,fun i l h=>by simp at h⟩
 | false=>
  simp only [cond_false]
  cases hv:m.fl.Uy with
  | true=>exact ⟨_,rfl,h2⟩
  | false=>
   rw [h1 hv hu] at h3;obtain ⟨l,hl⟩:=List.length_eq_one_iff.1 h3;rw [hl] at h2 ⊢;exact ⟨l,rfl,h2.2 0 l rfl⟩
theorem rH {x:Bool×List (Lf C)} {v:Value} (h:gL K w ah β fp cM x v):dD K w ah β fp cM (zy x) v:=by
 obtain ⟨b,ls⟩:=x
 cases b with
 | false=>obtain ⟨l,h1,h2⟩:=h;have h1:ls=[l]:=h1;subst h1;exact h2
 | true=>exact h
theorem uM (b:Bool):gL K w ah β fp cM (false,[.bool b]) (.bool b):=⟨.bool b,rfl,rfl⟩
theorem zA {x y:Bool×List (Lf C)} {u v:Value} (h:gL K w ah β fp cM x u) (h':gL K w ah β fp cM y v):dD K w ah β fp cM (.qg [x,y]) (.tuple #[u,v]):=by
 refine ⟨[u,v],rfl,rfl,fun i z hz=>?_⟩
 match i with
 | 0=>simp at hz;subst hz;exact h
 | 1=>simp at hz;subst hz;exact h'
 | i+2=>simp at hz
theorem Kz (hX:je P X) (hs:dc X.K w0 nt S β fp a w) (hd:slot dst nt) {t:TypeId} {x i:Operand} {ok:Bool} (h:ev X ⟨dst,.lookup t x i ok,ty,pos,dL,gd⟩ S k=some r):Goal P X w0 nt k r Q ⟨dst,.lookup t x i ok,ty,pos,dL,gd⟩ a w:=by
 simp only [ev] at h;split at h
 case h_2=>cases h
 rename_i m l key hm hx hi;obtain ⟨sr,tP,hM⟩:=hX.mp _ _ hm
 have ik:∀ v,(Instr.lookup t (a.eval x) (a.eval i) ok).run P w = .ok v w→(execOp a.eval ⟨dst,.lookup t x i ok,ty,pos,dL,gd⟩).run P w = .ok (.value v) w:=fun v hv=>by
  simp [execOp,hv]
 have hx':=cG hs hx;have eR:=cG hs hi
 cases hbr:m.fl.br with
 | false=>
  rw [hbr] at h;simp only [cond_false,n7] at h;obtain ⟨kx,xs,c,h,hk,hu⟩:=qQ hs (hX.mp _ _ hm) h hx' eR;have hrun:=Ce (w:=w) hM (u:=a.eval x) (x:=kx) (xs:=xs) (c:=c) (hu.imp (fun h=>h.2) fun ⟨_,b,es,_,_,q1,q2,_,_,q3⟩=>⟨b,es,q1,q2,q3⟩) ok;rw [←hk] at hrun
  cases ok with
  | true=>exact bl (ik _ hrun) (bn hs hd (zA (mB hM _) (uM _)) h)
  | false=>exact bl (ik _ hrun) (bn hs hd (rH (mB hM _)) h)
 | true=>
  rw [hbr] at h;simp only [cond_true,Ch] at h;obtain ⟨kx,xs,c,h,hk,hu⟩:=qQ hs (hX.mp _ _ hm) h hx' eR;have hrun:=Ce (w:=w) hM (u:=a.eval x) (x:=kx) (xs:=xs) (c:=c) (hu.imp (fun h=>h.2) fun ⟨_,b,es,_,_,q1,q2,_,_,q3⟩=>⟨b,es,q1,q2,q3⟩) ok;rw [←hk] at hrun
  cases ok with
  | true=>
   simp only [cond_true] at h
   rcases Fh kx h with ⟨e,h1,h⟩ | ⟨h1,h⟩
   ·simp only [pQ,pR,h1] at hrun
    exact bl (ik _ hrun) (bn hs hd (zA (mB hM _) (uM _)) h)
   ·simp only [pQ,pR,h1] at hrun
    exact bl (ik _ hrun) (bn hs hd (zA (mB hM _) (uM _)) h)
  | false=>
   simp only [cond_false] at h
   rcases Fh kx h with ⟨e,h1,h⟩ | ⟨h1,h⟩
   ·simp only [pQ,pR,h1] at hrun
    exact bl (ik _ hrun) (bn hs hd (rH (mB hM _)) h)
   ·simp only [pQ,pR,h1] at hrun
    exact bl (ik _ hrun) (bn hs hd (rH (mB hM _)) h)
theorem Iy (hs:dc X.K w0 nt S β fp a w) (hd:slot dst nt) {t:TypeId} {n:Option Operand} (h:ev X ⟨dst,.makeMap t n,ty,pos,dL,gd⟩ S k=some r):Goal P X w0 nt k r Q ⟨dst,.makeMap t n,ty,pos,dL,gd⟩ a w:=by
 simp only [ev] at h;split at h
 case h_2=>cases h
 rename_i m hm;split at h
 case h_2=>cases h
 rename_i S' gu;obtain ⟨hn,rfl⟩:=jv gu;have hw:Below w.heap.size w (w.alloc (.map #[] 0)):=(Below.refl _ _).alloc (Nat.le_refl _) _
 have h2:=hs.wm hw hn (ob:=.map m.fl m.kt m.vt [] 0) (hv:=.map (some w.heap.size)) (F:=fun k=>k=w.heap.size) (fun k hk=>⟨by omega,by rw [hk];simp⟩)
  ⟨w.heap.size,#[],rfl,heap_alloc_new w _,fun k=>Iff.rfl,rfl⟩
 refine bl (v:=.map (some w.heap.size)) (w':=w.alloc (.map #[] 0)) ?_ (bn h2 hd (v:=.one (.vo _)) ⟨rfl,(cZ _ _ _).symm⟩ h);simp [execOp,Instr.makeMap,newObj];rfl
theorem hset {w:World} {r:Nat} {o o':Obj} (hb:w.heap[r]?=some o):(setBlock w r o').heap[r]?=some o'∧∀ r',r'≠r→(setBlock w r o').heap[r']?=w.heap[r']?:=by
 have hlt:r<w.heap.size:=(Array.getElem?_eq_some_iff.1 hb).1;exact ⟨by simp [setBlock,hlt],fun r' hne=>by simp [setBlock,Ne.symm hne]⟩
theorem Bk (hs:dc X.K w0 nt S β fp a w) {id b:Nat} {es es':Array MapEntry} {c c':Nat} {fl:MK} {kt vt:Ty} {xs xs':List (Nat×C kt×C vt)} (ho:lk S.ah id=some (.map fl kt vt xs c))
  (hb:w.heap[b]?=some (.map es c)) (hf:∀ k,fp id k↔k=b) (Fw:β id = .map (some b)) (he:es'.toList=xs'.map (ou X.K fl kt vt)) :
  dc X.K w0 nt (S.setObj id (.map fl kt vt xs' c')) β fp a (setBlock w b (.map es' c')):=by
 have XM:w0.heap.size≤b:=(hs.fresh id _ b ho ((hf b).2 rfl)).1
 have hother:∀ k,k≠b→(setBlock w b (.map es' c')).heap[k]?=w.heap[k]?:=fun k hk=>(hset hb).2 k hk
 refine hs.turn ho (fun _ _ _ e=>by cases e) ⟨rfl,rfl,rfl,by simp [setBlock],fun k hk=>hother k (by omega)⟩ (fun k hk=>hother k fun e=>hk ((hf k).2 e)) ?_;exact ⟨b,es',Fw,(hset hb).1,hf,he⟩
theorem ud {b:Nat} {es:Array MapEntry} {c:Nat} (hb:w.heap[b]?=some (.map es c)) (o:Obj):(setObj b o).run P w = .ok () (setBlock w b o):=by
 simp [setObj,Sem.run,hb,setBlock]
theorem HC {b:Nat} {es:Array MapEntry} {c:Nat} (hb:w.heap[b]?=some (.map es c)):(getObj b).run P w = .ok (.map es c) w:=by
 simp [getObj,Sem.run,hb]
theorem PE {T:TypeId} {m:MT Ty} {sr tP:TypeId} (hM:wG P K T m sr tP) {b:Nat} {es:Array MapEntry} {c:Nat} {x:C m.kt} {y:C m.vt} {xs:List (Nat×C m.kt×C m.vt)} (hb:w.heap[b]?=some (.map es c)) (he:es.toList=xs.map (ou K m.fl m.kt m.vt)) :
  ∃ es',es'.toList=(xf K m.kt m.vt x y c xs).map (ou K m.fl m.kt m.vt) ∧
   (Instr.mapUpdate T (.map (some b)) (lh K m.fl m.kt x) (pg K m.fl m.vt y)).run P w = .ok () (setBlock w b (.map es' (Fg K m.kt m.vt x c xs))):=by
 unfold Instr.mapUpdate;simp only [Sem.run_bind,bb hM.mN,Result.andThen_ok,HC hb,hM.pF];rw [he];simp only [hM.find,Result.andThen_ok]
 rcases rZ (K:=K) (fl:=m.fl) x xs 0 with ⟨h1,h2⟩ | ⟨e,j,h1,h2⟩
 ·rw [h2]
  refine ⟨es.push { key:=lh K m.fl m.kt x,val:=pg K m.fl m.vt y,born:=c },?_,?_⟩
  ·rw [ym x y c xs 0 h2]
   simp [he,ou]
  ·simp only [ud hb,Fg,pR,h1]
   rfl
 ·rw [h2]
  obtain ⟨_,⟨e',h3,h4⟩,h5⟩:=yl x y c xs 0 j _ h2;simp only [Nat.sub_zero] at h3 h5;refine ⟨es.modify j fun e=>{ e with key:=lh K m.fl m.kt x,val:=pg K m.fl m.vt y },?_,?_⟩
  ·rw [←h5,← he]
   simp [Array.toList_modify]
  ·have hold:((es[j]?).map (·.key)).getD (lh K m.fl m.kt x)=lh K m.fl m.kt e'.2.1:=by
    have:es[j]?=some (ou K m.fl m.kt m.vt e'):=by
     rw [←Array.getElem?_toList,he,List.getElem?_map,h3];rfl
    rw [this];rfl
   dsimp only;rw [hold];obtain ⟨_,h7⟩:=hM.bits x e'.2.1 h4
   have hk:(Instr.keyThatStays (lh K m.fl m.kt e'.2.1) (lh K m.fl m.kt x)).run P w = .ok (lh K m.fl m.kt x) w:=by
    unfold Instr.keyThatStays;rw [if_pos h7];rfl
   simp only [Sem.run_bind,hk,Result.andThen_ok,ud hb,Fg,pR,h1];rfl
theorem Q5 {T k' ty':TypeId} {m:MT Ty} {sr tP:TypeId} (hM:wG P K T m sr tP) {b:Nat} {es:Array MapEntry} {c:Nat} {x:C m.kt} {xs:List (Nat×C m.kt×C m.vt)} (hb:w.heap[b]?=some (.map es c)) (he:es.toList=xs.map (ou K m.fl m.kt m.vt)) :
  ∃ es',es'.toList=(xg K m.kt m.vt x xs).map (ou K m.fl m.kt m.vt) ∧
   (Builtin.delete_ #[T,k'] ty' #[.map (some b),lh K m.fl m.kt x]).run P w = .ok (.tuple #[]) (setBlock w b (.map es' c)):=by
 have hrun:(Builtin.delete_ #[T,k'] ty' #[.map (some b),lh K m.fl m.kt x]).run P w=(match jl K m.fl m.kt m.vt x xs 0 with
   | some (i,_)=>.ok (.tuple #[]) (setBlock w b (.map (es.eraseIdxIfInBounds i) c))
   | none=>.ok (.tuple #[]) (setBlock w b (.map es c))):=by
  simp only [Builtin.delete_];simp only [List.getElem?_toArray,List.getElem?_cons_zero,List.getElem?_cons_succ,Sem.run_bind,bb hM.mN,Result.andThen_ok,HC hb,hM.pF];rw [he];simp only [hM.find,Result.andThen_ok]
  cases jl K m.fl m.kt m.vt x xs 0 with
  | none=>simp only [Sem.run_bind,ud hb,Result.andThen_ok];rfl
  | some p=>simp only [Sem.run_bind,ud hb,Result.andThen_ok];rfl
 cases hf:jl K m.fl m.kt m.vt x xs 0 with
 | none=>
  rw [hf] at hrun;exact ⟨es,by rw [yu x xs 0 hf,he],hrun⟩
 | some p=>
  obtain ⟨j,v⟩:=p;rw [hf] at hrun;obtain ⟨_,h1,h2⟩:=yt x xs 0 j v hf;refine ⟨_,?_,hrun⟩
  have hlt:j<es.size:=by
   have:es.toList.length=xs.length:=by rw [he];simp
   simp at this;omega
  simp only [Nat.sub_zero] at h2;rw [←h2,← he];simp [Array.eraseIdxIfInBounds,hlt]
theorem uJ (hX:je P X) (hs:dc X.K w0 nt S β fp a w) {t:TypeId} {x i y:Operand} {m:MT Ty} {l:Lf C} {key v:SV C} (hm:X.mp t=some m) (hx:eG S x=some (.one l)) (hi:eG S i=some key) (hy:gb X S (X.K.tid m.vt) y=some v)
  {k':St C→Option R} (h:ED X S m l key v k'=some r):∃ S' w',k' S'=some r∧dc X.K w0 nt S' β fp a w'∧(Instr.mapUpdate t (a.eval x) (a.eval i) (a.eval y)).run P w = .ok () w':=by
 obtain ⟨sr,tP,hM⟩:=hX.mp _ _ hm;unfold ED at h;split at h
 case h_2=>cases h
 rename_i id;obtain ⟨kx,xs,c,h,hk,hu⟩:=qQ hs (hX.mp _ _ hm) h (cG hs hx) (cG hs hi);obtain ⟨hb0,h⟩:=aw h;simp only [Bool.and_eq_true,beq_iff_eq] at hb0;split at h
 case h_2=>cases h
 rename_i vy hvy
 rcases hu with ⟨q1,q2⟩ | ⟨gM,b,es,e,ho,q1,q2,q3,q4,q5⟩
 ·cases q1
 ·cases e
  have hval:a.eval y=pg X.K m.fl m.vt vy:=by
   have hv:=dM hs hy;unfold pg
   cases hun:m.fl.un with
   | true=>
    rw [hun] at hb0
    cases v with
    | agg ls=>
     obtain ⟨us,e,h3⟩:=hv
     have hls:ls=[]:=by simpa [SV.leaves] using hb0.2
     subst hls
     obtain rfl:us=[]:=by have:=h3.1;simpa using this
     exact e
    | _=>simp [Rk] at hb0
   | false=>
    rw [hun] at hvy hb0;exact EH hM.fv (X.K.js _ _ _ hvy) hb0.1.1 (by simpa using hb0.1.2) hv
  obtain ⟨es',h5,h6⟩:=PE hM (x:=kx) (y:=vy) q2 q5;refine ⟨_,_,h,Bk hs ho q2 q3 q4 h5,?_⟩;rw [q1,hk,hval];exact h6
theorem Bw (hX:je P X) (hs:dc X.K w0 nt S β fp a w) {t:TypeId} {x i y:Operand} (h:ev X ⟨dst,.mapUpdate t x i y,ty,pos,dL,gd⟩ S k=some r):Goal P X w0 nt k r Q ⟨dst,.mapUpdate t x i y,ty,pos,dL,gd⟩ a w:=by
 simp only [ev] at h;split at h
 case h_2=>cases h
 rename_i m l key hm hx hi;split at h
 case h_2=>cases h
 rename_i v hy;obtain ⟨S',w',h1,h2,h3⟩:=uJ hX hs hm hx hi hy h;exact wp_skip (by simp [execOp,h3]) ⟨_,⟨_,_,h2.drop dst undef⟩,h1⟩
theorem KB (hX:je P X) (hs:dc X.K w0 nt S β fp a w) {t:TypeId} {x i y:Operand} (h:ev X ⟨dst,.insert t x i y,ty,pos,dL,gd⟩ S k=some r):Goal P X w0 nt k r Q ⟨dst,.insert t x i y,ty,pos,dL,gd⟩ a w:=by
 simp only [ev] at h;split at h
 case h_2=>cases h
 rename_i m l key hm hx hi;split at h
 case h_2=>cases h
 rename_i v hy;obtain ⟨S',w',h1,h2,h3⟩:=uJ hX hs hm hx hi hy h;exact wp_skip (by simp [execOp,h3]) ⟨_,⟨_,_,h2.drop dst undef⟩,h1⟩
theorem KC (hX:je P X) (hs:dc X.K w0 nt S β fp a w) {as:Array Operand} {ts:Array TypeId} (h:ev X ⟨dst,.call { callee:=.builtin .delete,args:=as,argTypes:=ts },ty,pos,dL,gd⟩ S k=some r):Goal P X w0 nt k r Q ⟨dst,.call { callee:=.builtin .delete,args:=as,argTypes:=ts },ty,pos,dL,gd⟩ a w:=by
 obtain ⟨al⟩:=as;obtain ⟨tl⟩:=ts;simp only [ev] at h;split at h
 case h_2=>cases h
 rename_i m x t t';split at h
 case h_2=>cases h
 rename_i mt l key hm hx hi;obtain ⟨sr,tP,hM⟩:=hX.mp _ _ hm;unfold MV at h;split at h
 case h_2=>cases h
 rename_i id _;obtain ⟨kx,xs,c,h,hk,hu⟩:=qQ hs (hX.mp _ _ hm) h (cG hs hx) (dM hs hi)
 rcases hu with ⟨q1,q2⟩ | ⟨gM,b,es,e,ho,q1,q2,q3,q4,q5⟩
 ·cases q1
 ·cases e
  obtain ⟨es',h5,h6⟩:=Q5 (k':=t') (ty':=ty) hM (x:=kx) q2 q5;refine bl (v:=.tuple #[]) (w':=setBlock w b (.map es' c)) ?_ ⟨_,⟨_,_,(Bk hs ho q2 q3 q4 h5).drop dst _⟩,h⟩
  have e : #[m,x].map a.eval = #[Value.map (some b),lh X.K mt.fl mt.kt kx]:=by
   simp [q1,hk]
  simp only [execOp,resolve];simp only [Sem.run_bind,Sem.run_pure,Result.andThen_ok,invoke,builtin,e,h6]
end
section
variable {Ty:Type} [DecidableEq Ty] {C:Ty→Type}
variable {P:Program} {X:Cx C} {w0 w:World} {nt:Nat} {S:St C} {β:Nat→Value} {fp:Nat→Nat→Prop} {a:Act} {R:Type} {k:St C→Option R} {r:R}
variable {Q:Exit→Act→World→Prop}
abbrev Cons (P:Program) (X:Cx C):Prop:=(∀ f c,X.HU f=some c→dm P X.K f c)∧(∀ f c,X.vZ f=some c→sW P X.K f c)∧∀ f I,X.inl f=some I→dx P X.K f I
theorem vT (hX:je P X) (hC:Cons P X) (hs:dc X.K w0 nt S β fp a w) {o:Oper} (hd:slot o.dst nt) (h:ev X o S k=some r):Goal P X w0 nt k r Q o a w:=by
 obtain ⟨dst,op,ty,pos,dL,gd⟩:=o
 cases op with
 | move x=>exact UK hs hd h
 | assign x=>exact KD hs hd h
 | pick c x y=>exact UJ hs hd h
 | alloc e=>exact PX hX hs hd h
 | box e v=>exact ZQ hs hd h
 | build t ps=>exact PV hX hs hd h
 | buildSlice t n ps=>exact zL hX hs hd h
 | load t x=>exact UM hX hs hd h
 | store t x v=>exact PM hX hs h
 | nilCheck x=>exact ER hs hd h
 | binOp op t x y t'=>exact PW hX hs hd h
 | unOp op t x=>exact UI hs hd h
 | convert t t' x=>exact IA hX hs hd h
 | makeSlice t n c=>exact Bx hX hs hd h
 | slice t x lo hi mx=>exact PN hX hs hd h fun t1 id hm ht hx h=>Ky hX hs hd hm ht hx h
 | fieldAddr t x f=>exact BA hX hs hd h
 | field t x f=>exact PQ hX hs hd h
 | indexAddr t x i=>exact Bz hX hs hd h
 | index t x i=>exact PO hX hs hd h
 | extract x i=>exact Iz hs hd h
 | call c=>
  obtain ⟨TQ,as,ts⟩:=c
  cases TQ with
  | builtin b=>cases b with
   | len=>exact ZN hX hs hd h
   | append=>exact KE hX hs hd h
   | min=>exact ZK hs hd h
   | max=>exact ZM hs hd h
   | delete=>exact KC hX hs h
   | clear=>exact PR hX hs h
   | copy=>exact UN hX hs hd h
   | _=>exact absurd h (by simp [ev])
  | value f=>cases f with
   | func f=>exact s_call hX hC.1 hs hd h (fun o ho h=>by
    split at h
    ·exact PS hC.2.1 hs hd ho h
    ·unfold oC at h
     split at h
     ·rename_i t he
      subst ho
      refine ZO hX hs he h hd fun fn rE qX tN=>?_
      have e:(as.toList.map a.eval).toArray=as.map a.eval:=by rw [←Array.toList_map,Array.toArray_toList]
      rw [e,← mE (us:=as.map a.eval) rE qX tN];simp [execOp,resolve,Deferred.ofValue,invoke,Act.eval]
     rename_i hin;split at h
     ·rename_i e he
      subst ho;exact ZP hX hs he hin (by rw [oC,hin,he];exact h) hd rfl
     subst ho
     refine Gy hC.2.2 hs hd h .nil .nil .nil .nil fun fn rE qX tN=>?_
     have e:([]++(as.toList.map a.eval++[]):List Value).toArray=as.map a.eval:=by rw [List.nil_append,List.append_nil,← Array.toList_map,Array.toArray_toList]
     rw [e,← mE (us:=as.map a.eval) rE qX tN]
     simp [execOp,resolve,Deferred.ofValue,invoke,Act.eval])
   | tmp t=>exact PU hC.1 hC.2.2 hs hd h
   | _=>exact absurd h (by simp [ev])
  | invoke x name=>exact KA hX hC.1 hC.2.2 hs hd h
 | makeFunc fn first captured=>exact ES hs hd h
 | makeInterface t x=>exact tI hX hs hd h
 | makeMap t n=>exact Iy hs hd h
 | lookup t x i ok=>exact Kz hX hs hd h
 | mapUpdate t x i y=>exact Bw hX hs h
 | insert t x i y=>exact KB hX hs h
 | _=>exact absurd h (by simp [ev])
theorem Bd (hs:dc X.K w0 nt S β fp a w) {all:Array Oper} {j:Nat} {d:Tmp} {b:Bool} (hj:(all[j]?).bind (·.dst)=some d) (hd:d<nt) (hv:lk S.env d=some (.one (.bool b))) :
  yielded all a.tmps j=some b:=by
 have h:a.tmps.getD d undef = .bool b:=hs.env d _ hv
 have hsz:d<a.tmps.size:=by rw [hs.size];exact hd
 unfold yielded;rw [hj];simp only [Option.bind_some]
 have:a.tmps[d]?=some (.bool b):=by
  rw [Array.getD_eq_getD_getElem?] at h;rw [Array.getElem?_eq_getElem hsz] at h ⊢;exact congrArg some (by simpa using h)
 rw [this]
theorem xy (hs:dc X.K w0 nt S β fp a w) {all:Array Oper} {j:Nat} {d:Tmp} (hj:(all[j]?).bind (·.dst)=some d) (hv:lk S.env d=some .mN) :
  yielded all a.tmps j=none:=by
 have h:a.tmps.getD d undef=undef:=hs.env d _ hv;unfold yielded;rw [hj];simp only [Option.bind_some];split
 ·rename_i b hb
  rw [Array.getD_eq_getD_getElem?,hb] at h;cases h
 ·rfl
theorem Lt {a:Act} {d:Tmp} {v:Value} (hd:d<a.tmps.size) (h:a.tmps.getD d undef=v):a.put (some d) v=a:=by
 obtain ⟨t,df⟩:=a;simp only [Act.put]
 congr 1
 apply Array.ext_getElem?;intro i;rw [Array.getElem?_setIfInBounds]
 by_cases e:d=i
 ·subst e
  have hd':d<t.size:=hd;have h':t.getD d undef=v:=h;rw [Array.getD_eq_getD_getElem?,Array.getElem?_eq_getElem hd'] at h';rw [if_pos rfl,if_pos hd',Array.getElem?_eq_getElem hd'];exact congrArg some h'.symm
 ·rw [if_neg e]
theorem sC (hX:je P X) (hC:Cons P X) {all:Array Oper} (hall:∀ o,o∈all.toList→slot o.dst nt) (hQ:∀ a w,Next X.K w0 nt k r a w→Q .normal a w) :
  ∀ (l:List Oper) (S:St C) (β:Nat→Value) (fp:Nat→Nat→Prop) (a:Act) (w:World),(∀ o,o∈l→slot o.dst nt)→dc X.K w0 nt S β fp a w→evs X all l S k=some r→wpList P all Q l a w
 | [],S,β,fp,a,w,_,hs,h=>hQ a w ⟨S,⟨β,fp,hs⟩,h⟩
 | o::l,S,β,fp,a,w,hl,hs,h=>by
  have S4:slot o.dst nt:=hl o (by simp)
  have hl':∀ o,o∈l→slot o.dst nt:=fun o ho=>hl o (by simp [ho])
  have step:∀ (S:St C) (β:Nat→Value) (fp:Nat→Nat→Prop),dc X.K w0 nt S β fp a w→Region.wanted o (yielded all a.tmps)=true→ev X o S (fun S'=>evs X all l S' k)=some r→wpList P all Q (o::l) a w:=by
   intro S β fp hs hw h;simp only [wpList,hw,if_true];refine .inl (Oper.wp_mono ?_ (vT (Q:=Q) hX hC hs S4 h));intro a' w' ⟨S',⟨eK,eJ,hs'⟩,hk⟩;exact sC hX hC hall hQ l S' eK eJ a' w' hl' hs' hk
  have skip:∀ (S:St C) (β:Nat→Value) (fp:Nat→Nat→Prop),dc X.K w0 nt S β fp a w→Region.wanted o (yielded all a.tmps)=false→evs X all l (S.put o.dst .mN) k=some r→wpList P all Q (o::l) a w:=by
   intro S β fp hs hw h;simp only [wpList,hw];exact sC hX hC hall hQ l _ _ _ _ w hl' (hs.put (v:=.mN) (u:=undef) o.dst S4 rfl) h
  cases hg:o.guard with
  | none=>
   simp only [evs,hg] at h;exact step S β fp hs (by simp [Region.wanted,hg]) h
  | some g=>
   obtain ⟨j,want⟩:=g;simp only [evs,hg] at h;split at h
   ·rename_i d hj
    split at h
    ·rename_i b hv
     have hjd:d<nt:=by
      cases ho:all[j]? with
      | none=>rw [ho] at hj;cases hj
      | some oj=>
       rw [ho] at hj;exact hall oj (by simpa using Array.mem_of_getElem? ho) d hj
     have hy:=Bd hs hj hjd hv
     have hsame:∀ b',b'=b→dc X.K w0 nt (S.put (some d) (.one (.bool b'))) β fp a w:=by
      intro b' e;subst e;have:=hs.put (v:=.one (.bool b')) (u:=.bool b') (some d) (fun t ht=>by cases ht;exact hjd) rfl
      rwa [Lt (by rw [hs.size];exact hjd) (hs.env d _ hv)] at this
     cases b with
     | true=>
      simp only [cond_true] at h
      cases want with
      | true=>exact step _ _ _ (hsame true rfl) (by simp [Region.wanted,hg,hy]) h
      | false=>exact skip _ _ _ (hsame true rfl) (by simp [Region.wanted,hg,hy]) h
     | false=>
      simp only [cond_false] at h
      cases want with
      | true=>exact skip _ _ _ (hsame false rfl) (by simp [Region.wanted,hg,hy]) h
      | false=>exact step _ _ _ (hsame false rfl) (by simp [Region.wanted,hg,hy]) h
    ·rename_i hv
     exact skip _ _ _ hs (by simp [Region.wanted,hg,xy hs hj hv]) h
    ·cases h
   ·cases h
end
section
variable {Ty:Type} [DecidableEq Ty] {C:Ty→Type}
variable {P:Program} {K:Cd C} {w0 w:World} {nt:Nat} {S:St C} {β:Nat→Value} {fp:Nat→Nat→Prop} {a:Act}
abbrev CE (C:Ty→Type):=Nat×Option Nat×Ob C
theorem kN {n:Nat} {l:List Nat} (h:l.any (Nat.beq n)=false):n∉l:=by
 intro hm;have:=List.any_eq_false.1 h n hm;exact this (Nat.beq_refl n)
theorem tf:∀ {os:List (CE C)},gz (zZ os)=true→∀ {n s s' ob dY},(n,s,ob)∈os→(n,s',dY)∈os→s=s'∧ob=dY
 | [],_,n,s,s',ob,dY,h,_=>by cases h
 | (m,t,o)::os,hn,n,s,s',ob,dY,h,h'=>by
  simp only [zZ,gz,Bool.and_eq_true,Bool.not_eq_true'] at hn;have hm:=kN hn.1
  have mem:∀ {n s ob},(n,s,ob)∈os→n∈zZ os:=by
   clear hn hm h h'
   induction os with
   | nil=>intro n s ob h;cases h
   | cons x os ih=>
    intro n s ob h;obtain ⟨a,b,c⟩:=x;simp only [zZ,List.mem_cons] at h ⊢
    rcases h with h | h
    ·cases h;exact .inl rfl
    ·exact .inr (ih h)
  rcases List.mem_cons.1 h with e | h
  ·cases e
   rcases List.mem_cons.1 h' with e | h'
   ·cases e;exact ⟨rfl,rfl⟩
   ·exact absurd (mem h') hm
  ·rcases List.mem_cons.1 h' with e | h'
   ·cases e;exact absurd (mem h) hm
   ·exact tf hn.2 h h'
def uS:List (CE C)→Nat→Option (Option Nat)
 | [],_=>none
 | (m,s,_)::r,n=>if n=m then some s else uS r n
theorem uh:∀ {os:List (CE C)} {n:Nat} {ob:Ob C},lk (pn os) n=some ob→∃ s,(n,s,ob)∈os∧uS os n=some s
 | [],n,ob,h=>by simp [pn,lk] at h
 | (m,s,o)::os,n,ob,h=>by
  simp only [pn,aN] at h
  by_cases e:n=m
  ·subst e
   simp at h;subst h;exact ⟨s,by simp,by simp [uS]⟩
  ·rw [if_neg e] at h
   obtain ⟨s',h1,h2⟩:=uh h;exact ⟨s',by simp [h1],by simp [uS,e,h2]⟩
theorem mQ:∀ {os:List (CE C)} {n:Nat} {s:Option Nat} {ob:Ob C},(n,s,ob)∈os→gz (zZ os)=true→uS os n=some s∧lk (pn os) n=some ob:=by
 intro os n s ob h hn
 have:∃ dY,lk (pn os) n=some dY:=by
  clear hn
  induction os with
  | nil=>cases h
  | cons x os ih=>
   obtain ⟨m,t,o⟩:=x;simp only [pn,aN]
   by_cases e:n=m
   ·exact ⟨o,by simp [e]⟩
   ·rw [if_neg e]
    rcases List.mem_cons.1 h with h | h
    ·cases h;exact absurd rfl e
    ·exact ih h
 obtain ⟨dY,ho⟩:=this;obtain ⟨s',h1,h2⟩:=uh ho;obtain ⟨rfl,rfl⟩:=tf hn h h1;exact ⟨h2,ho⟩
def nb (β:Nat→Value) (os:List (CE C)) (n:Nat):Value:=match uS os n with
 | some (some id)=>β id
 | _=>.slice none 0 0
def nf (β:Nat→Value) (fp:Nat→Nat→Prop) (os:List (CE C)) (n k:Nat):Prop:=match uS os n with
 | some (some id)=>fp id k∧((∃ t,lk (pn os) n=some (.row t [] true))→(β id).ownBlock=some k)
 | _=>False
def lone:Ob C→Bool
 | .map .. =>true
 | .ghost=>true
 | _=>false
def oL (q:Nat→Bool) (S:St C) (nm:List (Nat×Nat)) (B:List Nat) (os:List (CE C)) (x:CE C):Prop:=
 (∃ n t,x=(n,none,.row t [] (q n))) ∨
 (∃ n id t xs sh,x=(n,some id,.row t xs (Pc q n xs sh))∧lk nm id=some n∧lk S.ah id=some (.row t xs sh)) ∨
 (∃ id kd ls ls' os',x=(id,some id,.box kd ls')∧lk S.ah id=some (.box kd ls)∧lN q S nm B (1000000+100*id) ls=some (ls',os')∧∀ y,y∈os'→y∈os) ∨
 (∃ id ob,x=(id,some id,ob)∧lk S.ah id=some ob∧lone ob=true)
theorem oL.mono {nm:List (Nat×Nat)} {B:List Nat} {q:Nat→Bool} {os os':List (CE C)} {x:CE C} (h:oL q S nm B os x) (hm:∀ y,y∈os→y∈os'):oL q S nm B os' x:=by
 rcases h with h | h | ⟨id,kd,ls,ls',o,h1,h2,h3,h4⟩ | h
 ·exact .inl h
 ·exact .inr (.inl h)
 ·exact .inr (.inr (.inl ⟨id,kd,ls,ls',o,h1,h2,h3,fun y hy=>hm y (h4 y hy)⟩))
 ·exact .inr (.inr (.inr h))
section
variable {nm:List (Nat×Nat)} {B:List Nat} {q:Nat→Bool}
theorem yW {n:Nat} {l l':Lf C} {os:List (CE C)} (h:kM q S nm B n l=some (l',os)):∀ x,x∈os→oL q S nm B os x:=by
 intro x hx
 cases l with
 | ref id p=>
  cases p with
  | cons s p=>simp [kM] at h
  | nil=>
   simp only [kM] at h;split at h
   ·rename_i m t xs sh hn ho
    cases h;rw [List.mem_singleton] at hx;exact .inr (.inl ⟨m,id,t,xs,sh,hx,hn,ho⟩)
   ·cases h
 | ptr id o=>
  simp only [kM] at h;obtain ⟨_,h⟩:=aw h;cases h;cases hx
 | vo id=>
  simp only [kM] at h;obtain ⟨_,h⟩:=aw h;cases h;cases hx
 | ep id p i o=>
  cases p with
  | cons s p=>simp [kM] at h
  | nil=>
   simp only [kM] at h;split at h
   ·rename_i m t xs sh hn ho
    cases h;rw [List.mem_singleton] at hx;exact .inr (.inl ⟨m,id,t,xs,sh,hx,hn,ho⟩)
   ·cases h
 | sub id lo hi=>
  simp only [kM] at h;split at h
  ·rename_i m t xs sh hn ho
   cases h;rw [List.mem_singleton] at hx;exact .inr (.inl ⟨m,id,t,xs,sh,hx,hn,ho⟩)
  ·cases h
 | nil t=>
  simp only [kM,Option.some.injEq,Prod.mk.injEq] at h;rw [←h.2,List.mem_singleton] at hx;exact .inl ⟨n,t,hx⟩
 | _=>first
  | (simp only [kM,Option.some.injEq,Prod.mk.injEq] at h;rw [←h.2] at hx;cases hx)
  | (simp [kM] at h)
theorem m9:∀ {ls:List (Lf C)} {n:Nat} {ls':List (Lf C)} {os:List (CE C)},lN q S nm B n ls=some (ls',os)→∀ x,x∈os→oL q S nm B os x
 | [],n,ls',os,h,x,hx=>by simp only [lN,Option.some.injEq,Prod.mk.injEq] at h;rw [←h.2] at hx;cases hx
 | l::ls,n,ls',os,h,x,hx=>by
  simp only [lN] at h;split at h
  ·rename_i l1 o1 h1
   split at h
   ·rename_i r' o2 h2
    cases h
    rcases List.mem_append.1 hx with hx | hx
    ·exact (yW h1 x hx).mono fun y hy=>by simp [hy]
    ·exact (m9 h2 x hx).mono fun y hy=>by simp [hy]
   ·cases h
  ·cases h
theorem o6:∀ {l:List Nat} {os:List (CE C)},C6 q S nm B l=some os→(∀ x,x∈os→oL q S nm B os x)∧∀ id,id∈l→∃ dY,(id,some id,dY)∈os
 | [],os,h=>by simp only [C6,Option.some.injEq] at h;subst h;exact ⟨fun x hx=>(by cases hx),fun id hi=>(by cases hi)⟩
 | id::l,os,h=>by
  simp only [C6] at h;split at h
  ·rename_i kd ls ho
   split at h
   ·rename_i ls' o1 h1
    split at h
    ·rename_i o2 h2
     cases h;obtain ⟨g1,g2⟩:=o6 h2;refine ⟨fun x hx=>?_,fun i hi=>?_⟩
     ·rcases List.mem_cons.1 hx with hx | hx
      ·exact .inr (.inr (.inl ⟨id,kd,ls,ls',o1,hx,ho,h1,fun y hy=>by simp [hy]⟩))
      ·rcases List.mem_append.1 hx with hx | hx
       ·exact (m9 h1 x hx).mono fun y hy=>by simp [hy]
       ·exact (g1 x hx).mono fun y hy=>by simp [hy]
     ·rcases List.mem_cons.1 hi with e | hi
      ·subst e;exact ⟨.box kd ls',by simp⟩
      ·obtain ⟨Cb,hm⟩:=g2 i hi;exact ⟨Cb,by simp [hm]⟩
    ·cases h
   ·cases h
  ·rename_i mk kt vt xs c ho
   split at h
   ·rename_i o2 h2
    cases h;obtain ⟨g1,g2⟩:=o6 h2;refine ⟨fun x hx=>?_,fun i hi=>?_⟩
    ·rcases List.mem_cons.1 hx with hx | hx
     ·exact .inr (.inr (.inr ⟨id,_,hx,ho,rfl⟩))
     ·exact (g1 x hx).mono fun y hy=>by simp [hy]
    ·rcases List.mem_cons.1 hi with e | hi
     ·subst e;exact ⟨.map mk kt vt xs c,by simp⟩
     ·obtain ⟨Cb,hm⟩:=g2 i hi;exact ⟨Cb,by simp [hm]⟩
   ·cases h
  ·rename_i ho
   split at h
   ·rename_i o2 h2
    cases h;obtain ⟨g1,g2⟩:=o6 h2;refine ⟨fun x hx=>?_,fun i hi=>?_⟩
    ·rcases List.mem_cons.1 hx with hx | hx
     ·exact .inr (.inr (.inr ⟨id,_,hx,ho,rfl⟩))
     ·exact (g1 x hx).mono fun y hy=>by simp [hy]
    ·rcases List.mem_cons.1 hi with e | hi
     ·subst e;exact ⟨.ghost,by simp⟩
     ·obtain ⟨Cb,hm⟩:=g2 i hi;exact ⟨Cb,by simp [hm]⟩
   ·cases h
  ·cases h
theorem JA {t:Nat} {v v':SV C} {os:List (CE C)} (h:JB q S nm B t v=some (v',os)):∀ x,x∈os→oL q S nm B os x:=by
 intro x hx;unfold JB at h;split at h
 ·split at h
  ·rename_i l' os' h1
   cases h;exact yW h1 x hx
  ·cases h
 ·split at h
  ·rename_i l' os' h1
   cases h;exact m9 h1 x hx
  ·cases h
 ·split at h
  ·rename_i l' os' h1
   cases h;exact m9 h1 x hx
  ·cases h
 ·cases h;cases hx
 ·cases h
theorem nW:∀ {os:List (CE C)} {seen:List Nat} {y:CE C},y∈fE os seen→y∈os
 | [],seen,y,h=>by cases h
 | (n,none,ob)::r,seen,y,h=>by
  simp only [fE] at h
  rcases List.mem_cons.1 h with e | h
  ·rw [e];simp
  ·exact List.mem_cons_of_mem _ (nW h)
 | (n,some id,ob)::r,seen,y,h=>by
  simp only [fE] at h
  cases hb:seen.any (Nat.beq id) with
  | true=>rw [hb] at h;exact List.mem_cons_of_mem _ (nW h)
  | false=>
   rw [hb] at h
   rcases List.mem_cons.1 h with e | h
   ·rw [e];simp
   ·exact List.mem_cons_of_mem _ (nW h)
theorem qN:∀ {os:List (CE C)} {seen:List Nat} {y:CE C},y∈os→y∈fE os seen∨∃ id n ob,y=(n,some id,ob)∧(id∈seen∨∃ n' dY,(n',some id,dY)∈fE os seen)
 | [],seen,y,h=>by cases h
 | (n,none,ob)::r,seen,y,h=>by
  simp only [fE]
  rcases List.mem_cons.1 h with e | h
  ·rw [e];exact .inl (by simp)
  ·rcases qN (seen:=seen) h with h | ⟨id,n1,zW,e,h | ⟨n2,XD,h⟩⟩
   ·exact .inl (by simp [h])
   ·exact .inr ⟨id,n1,zW,e,.inl h⟩
   ·exact .inr ⟨id,n1,zW,e,.inr ⟨n2,XD,by simp [h]⟩⟩
 | (n,some i,ob)::r,seen,y,h=>by
  simp only [fE]
  cases hb:seen.any (Nat.beq i) with
  | true=>
   simp only [cond_true]
   rcases List.mem_cons.1 h with e | h
   ·obtain ⟨m,hm,he⟩:=List.any_eq_true.1 hb
    have:=Nat.eq_of_beq_eq_true he;subst this;exact .inr ⟨i,n,ob,e,.inl hm⟩
   ·exact qN h
  | false=>
   simp only [cond_false]
   rcases List.mem_cons.1 h with e | h
   ·rw [e];exact .inl (by simp)
   ·rcases qN (seen:=i::seen) h with h | ⟨id,n1,zW,e,h | ⟨n2,XD,h⟩⟩
    ·exact .inl (by simp [h])
    ·rcases List.mem_cons.1 h with e2 | h
     ·subst e2;exact .inr ⟨id,n1,zW,e,.inr ⟨n,ob,by simp⟩⟩
     ·exact .inr ⟨id,n1,zW,e,.inl h⟩
    ·exact .inr ⟨id,n1,zW,e,.inr ⟨n2,XD,by simp [h]⟩⟩
theorem LB:∀ {os:List (CE C)} {seen:List Nat} {n n' id:Nat} {ob dY:Ob C},(n,some id,ob)∈fE os seen→(n',some id,dY)∈fE os seen→n=n'∧ob=dY
 | os,seen,n,n',id,ob,dY,h,h'=>by
  have SH:∀ {os:List (CE C)} {seen:List Nat} {n id:Nat} {ob:Ob C},(n,some id,ob)∈fE os seen→id∉seen:=by
   intro os
   induction os with
   | nil=>intro seen n id ob h;cases h
   | cons x os ih=>
    intro seen n id ob h;obtain ⟨m,s,o⟩:=x
    cases s with
    | none=>
     simp only [fE] at h
     rcases List.mem_cons.1 h with e | h
     ·cases e
     ·exact ih h
    | some i=>
     simp only [fE] at h
     cases hb:seen.any (Nat.beq i) with
     | true=>rw [hb] at h;exact ih h
     | false=>
      rw [hb] at h
      rcases List.mem_cons.1 h with e | h
      ·cases e;exact kN hb
      ·exact fun hm=>ih h (List.mem_cons_of_mem _ hm)
  induction os generalizing seen with
  | nil=>cases h
  | cons x os ih=>
   obtain ⟨m,s,o⟩:=x
   cases s with
   | none=>
    simp only [fE] at h h'
    rcases List.mem_cons.1 h with e | h1
    ·cases e
    ·rcases List.mem_cons.1 h' with e | lZ
     ·cases e
     ·exact ih _ h1 lZ
   | some i=>
    simp only [fE] at h h'
    cases hb:seen.any (Nat.beq i) with
    | true=>rw [hb] at h h';exact ih _ h h'
    | false=>
     rw [hb] at h h'
     rcases List.mem_cons.1 h with e | h1
     ·cases e
      rcases List.mem_cons.1 h' with e | lZ
      ·cases e;exact ⟨rfl,rfl⟩
      ·exact absurd (List.mem_cons_self ..) (SH lZ)
     ·rcases List.mem_cons.1 h' with e | lZ
      ·cases e;exact absurd (List.mem_cons_self ..) (SH h1)
      ·exact ih _ h1 lZ
theorem LC {os:List (CE C)} (hg:∀ x,x∈os→oL q S nm B os x) {y:CE C} (hy:y∈os):y∈fE os []:=by
 rcases qN (seen:=[]) hy with h | ⟨id,n,ob,e,h | ⟨n',dY,h⟩⟩
 ·exact h
 ·cases h
 ·subst e
  have g1:=hg _ hy;have g2:=hg _ (nW h)
  have:n=n'∧ob=dY:=by
   rcases g1 with ⟨_,_,e⟩ | ⟨_,_,t,xs,sh,e,h1,h2⟩ | ⟨_,kd,ls,ls',os',e,h1,h2,_⟩ | ⟨_,zW,e,h1,hl1⟩
   ·cases e
   ·cases e
    rcases g2 with ⟨_,_,e⟩ | ⟨_,_,t',xs',sh',e,lZ,xj⟩ | ⟨_,kd,ls,ls',os',e,lZ,xj,_⟩ | ⟨_,XD,e,lZ,Jk⟩
    ·cases e
    ·cases e
     rw [h1] at lZ;rw [h2] at xj;cases lZ;cases xj;exact ⟨rfl,rfl⟩
    ·cases e;rw [h2] at lZ;cases lZ
    ·cases e;rw [h2] at lZ;cases lZ;cases Jk
   ·cases e
    rcases g2 with ⟨_,_,e⟩ | ⟨_,_,t',xs',sh',e,lZ,xj⟩ | ⟨_,kd2,Cb,ls2',os2',e,lZ,xj,_⟩ | ⟨_,XD,e,lZ,Jk⟩
    ·cases e
    ·cases e;rw [h1] at xj;cases xj
    ·cases e
     rw [h1] at lZ;cases lZ;rw [h2] at xj;cases xj;exact ⟨rfl,rfl⟩
    ·cases e;rw [h1] at lZ;cases lZ;cases Jk
   ·cases e
    rcases g2 with ⟨_,_,e⟩ | ⟨_,_,t',xs',sh',e,lZ,xj⟩ | ⟨_,kd2,Cb,ls2',os2',e,lZ,xj,_⟩ | ⟨_,XD,e,lZ,Jk⟩
    ·cases e
    ·cases e;rw [h1] at xj;cases xj;cases hl1
    ·cases e;rw [h1] at lZ;cases lZ;cases hl1
    ·cases e
     rw [h1] at lZ;cases lZ;exact ⟨rfl,rfl⟩
  obtain ⟨rfl,rfl⟩:=this;exact h
end
theorem rY:∀ {os:List (CE C)} {id n:Nat},td os id=some n→∃ ob,(n,some id,ob)∈os
 | [],id,n,h=>by simp [td] at h
 | (m,none,ob)::r,id,n,h=>by
  obtain ⟨dY,h'⟩:=rY (os:=r) h;exact ⟨dY,by simp [h']⟩
 | (m,some m',ob)::r,id,n,h=>by
  simp only [td] at h
  cases hb:Nat.beq m' id with
  | true=>
   rw [hb] at h;cases h;have:=Nat.eq_of_beq_eq_true hb;subst this;exact ⟨ob,by simp⟩
  | false=>
   rw [hb] at h;obtain ⟨dY,h'⟩:=rY (os:=r) h;exact ⟨dY,by simp [h']⟩
theorem Hw:∀ {os:List (CE C)} {E:List (Nat×SV C)} {t:Nat} {v:SV C},lk (vK os E) t=some v→∃ id j n,(t,.jf id j)∈E∧td os id=some n∧v = .jf n j
 | os,[],t,v,h=>by simp [vK,lk] at h
 | os,(t',x)::E,t,v,h=>by
  have up:lk (vK os E) t=some v→∃ id j n,(t,.jf id j)∈(t',x)::E∧td os id=some n∧v = .jf n j:=fun h=>by
   obtain ⟨id,j,n,h1,h2⟩:=Hw h;exact ⟨id,j,n,by simp [h1],h2⟩
  cases x with
  | jf id j=>
   simp only [vK] at h;split at h
   ·rename_i n hn
    rw [aN] at h;split at h
    ·rename_i e
     cases h;subst e;exact ⟨id,j,n,by simp,hn,rfl⟩
    ·exact up h
   ·exact up h
  | _=>exact up h
theorem yX {nm:List (Nat×Nat)} {B:List Nat} {q:Nat→Bool}:∀ {E e:List (Nat×SV C)} {os:List (CE C)},FX q S nm B E=(e,os)→(∀ x,x∈os→oL q S nm B os x)∧∀ t v',lk e t=some v'→∃ v os',(t,v)∈E∧JB q S nm B t v=some (v',os')∧∀ y,y∈os'→y∈os
 | [],e,os,h=>by
  simp only [FX,Prod.mk.injEq] at h;obtain ⟨h1,h2⟩:=h;subst h1 h2;exact ⟨fun x hx=>(by cases hx),fun t v' h=>by simp [lk] at h⟩
 | (t,v)::E,e,os,h=>by
  simp only [FX] at h
  cases hc:FX q S nm B E with
  | mk e0 os0=>
   rw [hc] at h;simp only at h;obtain ⟨g1,g2⟩:=yX hc;split at h
   ·rename_i v1 os1 hv
    cases h;refine ⟨fun x hx=>?_,fun t' v' ht=>?_⟩
    ·rcases List.mem_append.1 hx with hx | hx
     ·exact (JA hv x hx).mono fun y hy=>by simp [hy]
     ·exact (g1 x hx).mono fun y hy=>by simp [hy]
    ·rw [aN] at ht
     by_cases e:t'=t
     ·subst e
      simp at ht;subst ht;exact ⟨v,os1,by simp,hv,fun y hy=>by simp [hy]⟩
     ·rw [if_neg e] at ht
      obtain ⟨v2,os2,h1,h2,h3⟩:=g2 t' v' ht;exact ⟨v2,os2,by simp [h1],h2,fun y hy=>by simp [h3 y hy]⟩
   ·cases h
    refine ⟨g1,fun t' v' ht=>?_⟩;obtain ⟨v2,os2,h1,h2,h3⟩:=g2 t' v' ht;exact ⟨v2,os2,by simp [h1],h2,h3⟩
theorem sd {E:List (Nat×SV C)}:∀ {keep:List Nat} {t:Nat} {v:SV C},(t,v)∈qn E keep→lk E t=some v
 | [],t,v,h=>by cases h
 | d::r,t,v,h=>by
  simp only [qn] at h
  cases hd:lk E d with
  | none=>rw [hd] at h;exact sd h
  | some u=>
   rw [hd] at h
   rcases List.mem_cons.1 h with h | h
   ·cases h;exact hd
   ·exact sd h
theorem zO {α:Type}:∀ {l:List (Nat×α)} {d t:Nat} {v:α},(t,v)∈rm l d→(t,v)∈l∧t≠d
 | [],d,t,v,h=>by cases h
 | (m,u)::l,d,t,v,h=>by
  simp only [rm] at h
  cases hb:Nat.beq d m with
  | true=>rw [hb] at h;obtain ⟨h1,h2⟩:=zO h;exact ⟨List.mem_cons_of_mem _ h1,h2⟩
  | false=>
   rw [hb] at h
   rcases List.mem_cons.1 h with e | h
   ·cases e
    refine ⟨by simp,fun e=>?_⟩;rw [e,Nat.beq_refl] at hb;cases hb
   ·obtain ⟨h1,h2⟩:=zO h;exact ⟨List.mem_cons_of_mem _ h1,h2⟩
theorem n6:∀ {E:List (Nat×SV C)} {t:Nat} {v:SV C},(t,v)∈fI E→lk E t=some v
 | [],t,v,h=>by cases h
 | (m,u)::E,t,v,h=>by
  rw [aN]
  have hd:∀ {u:SV C},(t,v)∈(m,u)::rm (fI E) m→(if t=m then some u else lk E t)=some v:=fun {u} h=>by
   rcases List.mem_cons.1 h with e | h
   ·cases e;simp
   ·obtain ⟨h1,h2⟩:=zO h;rw [if_neg h2];exact n6 h1
  have ht:∀ {u:SV C},(t,v)∈rm (fI E) m→(if t=m then some u else lk E t)=some v:=fun {u} h=>by
   obtain ⟨h1,h2⟩:=zO h;rw [if_neg h2];exact n6 h1
  cases u with
  | bQ x j=>exact hd h
  | jf id j=>exact hd h
  | frame=>exact hd h
  | one _=>exact ht h
  | agg _=>exact ht h
  | qg _=>exact ht h
  | mN=>exact ht h
theorem yq {E:List (Nat×SV C)} {keep:List Nat} {t:Nat} {v:SV C} (h:(t,v)∈jQ E keep):lk E t=some v:=by
 unfold jQ at h
 rcases List.mem_append.1 h with h | h
 ·exact sd h
 ·exact n6 h
section
variable {nm:List (Nat×Nat)} {B:List Nat} {q:Nat→Bool} {os:List (CE C)} {eH:Nat→Prop}
theorem HX (hn:gz (zZ os)=true) (hB:∀ id,id∈B→∃ dY,(id,some id,dY)∈os) (hst:∀ k,aH S.ah fp w k→eH k) {n:Nat} {l l':Lf C} {os':List (CE C)} {v:Value} (h:kM q S nm B n l=some (l',os')) (hm:∀ y,y∈os'→y∈os)
  (hl:db K w S.ah β fp (aH S.ah fp w) l v):db K w (pn os) (nb β os) (nf β fp os) eH l' v:=by
 have triv:∀ l:Lf C,fq l=[]→db K w S.ah β fp (aH S.ah fp w) l v→db K w (pn os) (nb β os) (nf β fp os) eH l v:=fun l hi h=>
  h.tr (fun k hk=>⟨hst k hk,rfl⟩) (fun id iP=>by rw [hi] at iP;cases iP)
 cases l with
 | ref id p=>
  cases p with
  | cons s p=>simp [kM] at h
  | nil=>
   simp only [kM] at h;split at h
   ·rename_i m t xs sh hnm ho
    cases h;have:=(mQ (hm _ (by simp:(m,some id,Ob.row t xs (Pc q m xs sh))∈_)) hn).1;refine ⟨hl.1,hl.2.trans ?_⟩;simp [nb,this]
   ·cases h
 | ptr id o=>
  simp only [kM] at h;obtain ⟨hb,h⟩:=aw h;cases h;obtain ⟨m,hmB,he⟩:=List.any_eq_true.1 hb;have:=Nat.eq_of_beq_eq_true he;subst this;obtain ⟨ls',hx⟩:=hB _ hmB;obtain ⟨b,h1,h2⟩:=hl;exact ⟨b,by simp [nb,(mQ hx hn).1,h1],h2⟩
 | vo id=>
  simp only [kM] at h;obtain ⟨hb,h⟩:=aw h;cases h;obtain ⟨m,hmB,he⟩:=List.any_eq_true.1 hb;have:=Nat.eq_of_beq_eq_true he;subst this;obtain ⟨ls',hx⟩:=hB _ hmB;exact ⟨hl.1,hl.2.trans (by simp [nb,(mQ hx hn).1])⟩
 | ep id p i o=>
  cases p with
  | cons s p=>simp [kM] at h
  | nil=>
   simp only [kM] at h;split at h
   ·rename_i m t xs sh hnm ho
    cases h;have:=mQ (hm _ (by simp:(m,some id,Ob.row t xs (Pc q m xs sh))∈_)) hn;refine ⟨hl.1,fun t' xs' sh' ib=>?_⟩;rw [this.2] at ib;cases ib
    have e:nb β os m=β id:=by simp [nb,this.1]
    rw [e];exact hl.2 t xs sh ho
   ·cases h
 | sub id lo hi=>
  simp only [kM] at h;split at h
  ·rename_i m t xs sh hnm ho
   cases h;have:=mQ (hm _ (by simp:(m,some id,Ob.row t xs (Pc q m xs sh))∈_)) hn;refine ⟨hl.1,fun t' xs' sh' ib=>?_⟩;rw [this.2] at ib;cases ib
   have e:nb β os m=β id:=by simp [nb,this.1]
   rw [e];exact hl.2 t xs sh ho
  ·cases h
 | nil t=>
  simp only [kM,Option.some.injEq,Prod.mk.injEq] at h;obtain ⟨rfl,rfl⟩:=h;have:=(mQ (hm _ (by simp:(n,none,Ob.row t [] (q n))∈_)) hn).1;have e:v = .slice none 0 0:=hl;subst e;refine ⟨rfl,?_⟩;simp [nb,this]
 | _=>first
  | (simp only [kM,Option.some.injEq,Prod.mk.injEq] at h;obtain ⟨rfl,-⟩:=h;exact triv _ rfl hl)
  | (simp [kM] at h)
theorem lu (hn:gz (zZ os)=true) (hB:∀ id,id∈B→∃ dY,(id,some id,dY)∈os) (hst:∀ k,aH S.ah fp w k→eH k):∀ {ls ls':List (Lf C)} {n:Nat} {os':List (CE C)} {vs:List Value},lN q S nm B n ls=some (ls',os')→(∀ y,y∈os'→y∈os) →
  cT K w S.ah β fp (aH S.ah fp w) ls vs→cT K w (pn os) (nb β os) (nf β fp os) eH ls' vs
 | [],ls',n,os',vs,h,_,hl=>by
  simp only [lN,Option.some.injEq,Prod.mk.injEq] at h;obtain ⟨rfl,-⟩:=h;exact ⟨hl.1,fun i l h=>by simp at h⟩
 | l::ls,ls',n,os',vs,h,hm,hl=>by
  simp only [lN] at h;split at h
  ·rename_i l1 o1 h1
   split at h
   ·rename_i r' o2 h2
    cases h
    obtain ⟨u,us,rfl⟩:∃ u us,vs=u::us:=by
     cases vs with
     | nil=>have:=hl.1;simp at this
     | cons u us=>exact ⟨u,us,rfl⟩
    have hl1:cT K w S.ah β fp (aH S.ah fp w) ls us:=⟨by have:=hl.1;simpa using this,fun i l' hi=>hl.2 (i+1) l' (by simpa using hi)⟩;have ih:=lu hn hB hst h2 (fun y hy=>hm y (by simp [hy])) hl1;refine ⟨by simp [ih.1],fun i l' hi=>?_⟩
    cases i with
    | zero=>simp at hi;subst hi;exact HX hn hB hst h1 (fun y hy=>hm y (by simp [hy])) (hl.2 0 l rfl)
    | succ i=>exact ih.2 i l' (by simpa using hi)
   ·cases h
  ·cases h
theorem yV {n:Nat}:∀ {ls ls':List (Lf C)} {n:Nat} {os':List (CE C)},lN q S nm B n ls=some (ls',os')→ls'.length=ls.length
 | [],ls',n,os',h=>by simp only [lN,Option.some.injEq,Prod.mk.injEq] at h;rw [←h.1]
 | l::ls,ls',n,os',h=>by
  simp only [lN] at h;split at h
  ·split at h
   ·rename_i r' o2 h2
    cases h;simp [yV (n:=n) h2]
   ·cases h
  ·cases h
end
theorem oA (hs:dc K w0 nt S β fp a w) {pq:List Nat} {S':St C} (h:S.canon pq=some S'):nq K w0 nt S' a w:=by
 unfold St.canon Nw at h;generalize (fun n=>pq.any (Nat.beq (1000000000+n)))=q at h;generalize hnm:UE (jQ S.env pq)++UF S (ux S (jQ S.env pq))=nm at h;generalize hBB:ux S (jQ S.env pq)=B at h;clear hnm hBB
 cases hc:FX q S nm B (jQ S.env pq) with
 | mk e os0=>
  rw [hc] at h
  cases hcb:C6 q S nm B B with
  | none=>rw [hcb] at h;cases h
  | some Lx=>
  rw [hcb] at h;obtain ⟨hn,h⟩:=aw h;cases h;obtain ⟨Er,g2⟩:=yX hc;obtain ⟨gb1,gb2⟩:=o6 hcb
  have g1:∀ x,x∈os0++Lx→oL q S nm B (os0++Lx) x:=fun x hx=>by
   rcases List.mem_append.1 hx with hx | hx
   ·exact (Er x hx).mono fun y hy=>by simp [hy]
   ·exact (gb1 x hx).mono fun y hy=>by simp [hy]
  have hall:∀ y,y∈os0++Lx→y∈fE (os0++Lx) []:=fun y hy=>LC g1 hy
  have ho:∀ {n n' i:Nat} {ob dY:Ob C},(n,some i,ob)∈fE (os0++Lx) []→(n',some i,dY)∈fE (os0++Lx) []→n=n'∧ob=dY:=fun h h'=>LB h h'
  have g1:∀ x,x∈fE (os0++Lx) []→oL q S nm B (fE (os0++Lx) []) x:=fun x hx=>(g1 x (nW hx)).mono hall
  have hB:∀ id,id∈B→∃ dY,(id,some id,dY)∈fE (os0++Lx) []:=fun id hi=>by
   obtain ⟨ls',hm⟩:=gb2 id hi;exact ⟨ls',hall _ (by simp [hm])⟩
  have g2:∀ t v',lk e t=some v'→∃ v os',(t,v)∈jQ S.env pq∧JB q S nm B t v=some (v',os')∧∀ y,y∈os'→y∈fE (os0++Lx) []:=fun t v' ht=>by
   obtain ⟨v,os',h1,h2,h3⟩:=g2 t v' ht;exact ⟨v,os',h1,h2,fun y hy=>hall y (by simp [h3 y hy])⟩
  generalize fE (os0++Lx) []=os at *
  have fpE:∀ {n ob k},lk (pn os) n=some ob→nf β fp os n k→∃ id xe,(n,some id,ob)∈os∧lk S.ah id=some xe∧fp id k:=by
   intro n ob k hl hk;obtain ⟨s,h1,h2⟩:=uh hl;simp only [nf,h2] at hk
   cases s with
   | none=>exact hk.elim
   | some id=>
    rcases g1 _ h1 with ⟨n',t,e⟩ | ⟨n',gM,t,xs,sh,e,_,iP⟩ | ⟨gM,kd,ls,ls',os',e,iP,_⟩ | ⟨gM,dY,e,iP,hlo⟩
    ·cases e
    ·cases e;exact ⟨_,_,h1,iP,hk.1⟩
    ·cases e;exact ⟨_,_,h1,iP,hk.1⟩
    ·cases e;exact ⟨_,_,h1,iP,hk.1⟩
  have hst:∀ k,aH S.ah fp w k→aH (pn os) (nf β fp os) w k:=by
   intro k hk;refine ⟨hk.1,fun n ob hl hf=>?_⟩;obtain ⟨id,xe,_,h2,h3⟩:=fpE hl hf;exact hk.2 id xe h2 h3
  refine ⟨nb β os,nf β fp os,hs.below,hs.defers,hs.size,?_,?_,?_,?_⟩
  ·intro n ob k hl hk
   obtain ⟨id,xe,_,h2,h3⟩:=fpE hl hk;exact hs.fresh id xe k h2 h3
  ·intro n n' ob dY k hl hl' hk hk'
   obtain ⟨id,xe,m1,h2,h3⟩:=fpE hl hk;obtain ⟨gM,Qp,m1',xj,Pm⟩:=fpE hl' hk';have e:=hs.eM id gM xe Qp k h2 xj h3 Pm;subst e;exact (ho m1 m1').1
  ·intro n ob hl
   obtain ⟨s,h1,h2⟩:=uh hl
   rcases g1 _ h1 with ⟨n',t,e⟩ | ⟨n',id,t,xs,sh,e,_,iP⟩ | ⟨id,kd,ls,ls',os',e,iP,MD,hsub⟩ | ⟨id,dY,e,iP,hlo⟩
   ·cases e
    have eb:nb β os n = .slice none 0 0:=by simp [nb,h2]
    have ef:∀ k,¬ nf β fp os n k:=fun k hk=>by simp [nf,h2] at hk
    rw [eb]
    cases hqn:q n with
    | false=>exact .row _ t [] _ [] (fun _ _ _=>False) (World.ownsRow_nil w w0.heap.size (K.tid t) (K.sz t)) (fun g hg=>by simp [Value.ownBlock] at hg) (fun _ _ _ h=>h.elim) (fun _ _ _ _ _ h=>h.elim) (fun j hj=>absurd hj (by simp))
    | true=>exact ⟨[],World.ownsRow_nil w w0.heap.size (K.tid t) (K.sz t),fun g=>⟨fun hg=>(ef g hg).elim,fun hg=>by simp [Value.ownBlock] at hg⟩,fun j x hj=>by simp at hj⟩
   ·cases e
    have eb:nb β os n=β id:=by simp [nb,h2]
    have m5:=hs.ah id _ iP;rw [eb]
    cases sh with
    | true=>
     obtain ⟨cells,q1,q2,q3⟩:=m5
     have ef:nf β fp os n=fp id:=by
      funext k
      simp only [nf,h2,eq_iff_iff];exact ⟨fun h=>h.1,fun h=>⟨h,fun _=>(q2 k).1 h⟩⟩
     rw [ef];exact (hs.ah id _ iP).tr (fun k hk=>⟨hst k hk,rfl⟩) (fun _ _=>rfl) (fun _ ls e=>by cases e)
    | false=>
     have hno:Pc q n xs false=false→nf β fp os n=fp id:=fun hf=>by
      funext k
      simp only [nf,h2,eq_iff_iff];refine ⟨fun h=>h.1,fun h=>⟨h,fun ⟨t',ht⟩=>?_⟩⟩;rw [hf] at hl;rw [hl] at ht;cases ht
     cases V9:Pc q n xs false with
     | false=>
      rw [hno V9];exact (hs.ah id _ iP).tr (fun k hk=>⟨hst k hk,rfl⟩) (fun _ _=>rfl) (fun _ ls e=>by cases e)
     | true=>
      have hx:xs=[]:=by
       simp only [Pc] at V9
       cases hqn:q n with
       | false=>rw [hqn] at V9;cases V9
       | true=>rw [hqn] at V9;cases xs with
        | nil=>rfl
        | cons x xs=>cases V9
      subst hx;rw [V9] at hl;have m5:Own K w w0.heap.size (fp id) (.row t []) (β id):=m5
      cases m5 with
      | row _ _ _ _ cells G hown hF hG hd qi=>
      refine ⟨cells,hown,fun g=>?_,fun j x hj=>by simp at hj⟩;simp only [nf,h2];exact ⟨fun h=>h.2 ⟨t,hl⟩,fun h=>⟨hF g h,fun _=>h⟩⟩
   ·cases e
    have eb:nb β os n=β n:=by simp [nb,h2]
    have ef:nf β fp os n=fp n:=by
     funext k
     simp only [nf,h2,eq_iff_iff];exact ⟨fun h=>h.1,fun h=>⟨h,fun ⟨t',ht⟩=>by rw [hl] at ht;cases ht⟩⟩
    rw [eb,ef];have m5:=hs.ah n _ iP
    cases kd with
    | mem=>
     obtain ⟨b,cs,e,q1,q2,q3,q4⟩:=m5;exact ⟨b,cs,e,q1,q2,q3,lu hn hB hst MD hsub q4⟩
    | sM f m sh=>obtain ⟨us,q1,q2,q3⟩:=m5;exact ⟨us,q1,q2,lu hn hB hst MD hsub q3⟩
    | lX t sh=>obtain ⟨us,q1,q2,q3⟩:=m5;exact ⟨us,q1,q2,lu hn hB hst MD hsub q3⟩
   ·cases e
    have eb:nb β os n=β n:=by simp [nb,h2]
    have ef:nf β fp os n=fp n:=by
     funext k
     simp only [nf,h2,eq_iff_iff];exact ⟨fun h=>h.1,fun h=>⟨h,fun ⟨t',ht⟩=>by rw [hl] at ht;cases ht;cases hlo⟩⟩
    rw [eb,ef];exact (hs.ah _ _ iP).tr (fun k hk=>⟨hst k hk,rfl⟩) (fun _ _=>rfl) (fun _ ls e=>by subst e;cases hlo)
  ·intro t v' ht
   rw [show ({ S with env:=e++vK os (jQ S.env pq),ah:=pn os }:St C).env=e++vK os (jQ S.env pq) from rfl,dB] at ht
   have mO:lk e t=some v'∨lk (vK os (jQ S.env pq)) t=some v':=by
    cases e1:lk e t with
    | some x=>rw [e1] at ht;exact .inl ht
    | none=>rw [e1] at ht;exact .inr ht
   clear ht
   rcases mO with ht | ht
   case inr=>
    obtain ⟨id,j,n,h1,h2,h3⟩:=Hw ht;subst h3;obtain ⟨ob,hm⟩:=rY h2;have hval:β id=K.hd j:=hs.env t _ (yq h1);show nb β os n=K.hd j;simp [nb,(mQ hm hn).1,hval]
   obtain ⟨v,os',hE,hv,hsub⟩:=g2 t v' ht;have hval:=hs.env t v (yq hE);unfold JB at hv;split at hv
   ·split at hv
    ·rename_i l' os1 hc1
     cases hv;exact HX hn hB hst hc1 hsub hval
    ·cases hv
   ·split at hv
    ·rename_i l' os1 hc1
     cases hv;obtain ⟨vs,e,hl⟩:=hval;exact ⟨vs,e,lu hn hB hst hc1 hsub hl⟩
    ·cases hv
   ·rename_i b ls j
    split at hv
    ·rename_i l' os1 hc1
     cases hv
     cases b with
     | false=>
      obtain ⟨l,h1,h2⟩:=hval;have h1:ls=[l]:=h1;subst h1
      have:=lu (eH:=aH (pn os) (nf β fp os) w) (vs:=[K.hd j]) hn hB hst hc1 hsub ⟨rfl,fun i l' hi=>by cases i with | zero=>simp at hi;subst hi;exact h2 | succ i=>simp at hi⟩
      have hlen:=yV (n:=0) hc1;obtain ⟨l2,rfl⟩:=List.length_eq_one_iff.1 hlen;exact ⟨l2,rfl,this.2 0 l2 rfl⟩
     | true=>
      obtain ⟨vs,e,hl⟩:=hval;exact ⟨vs,e,lu hn hB hst hc1 hsub hl⟩
    ·cases hv
   ·cases hv
    exact fun k hk=>⟨hst k (hval k hk).1,(hval k hk).2⟩
   ·cases hv
end
section
variable {Ty:Type} [DecidableEq Ty] {C:Ty→Type}
variable {X:Cx C} {S S':St C} {R:Type} {r:R}
structure Le (S S':St C):Prop where
 base:S'.base=S.base
 env:∀ t v,lk S.env t=some v→lk S'.env t=some v
 ah:∀ id ob,lk S.ah id=some ob→lk S'.ah id=some ob
def tQ (S:St C) (dst:Option Tmp) (v:SV C) (news:List (Nat×Ob C)) (dW:List Nat):St C:=St.put { S with ah:=news++dI dW S.ah } dst v
theorem cP (h:Le S S') {x:Operand} {v:SV C} (hx:eG S x=some v):eG S' x=some v:=by
 cases x with
 | tmp t=>exact h.env t v hx
 | const c=>
  cases c with
  | pointer p=>cases p<;>(first | exact hx | simp [eG] at hx)
  | map p=>cases p<;>(first | exact hx | simp [eG] at hx)
  | _=>(first | exact hx | simp [eG] at hx)
 | global g=>simp [eG] at hx
 | func f=>exact hx
theorem dJ (h:Le S S') {T:TypeId} {x:Operand} {v:SV C} (hx:gb X S T x=some v):gb X S' T x=some v:=by
 unfold gb at hx ⊢;split at hx
 ·exact hx
 ·exact cP h hx
theorem wz {l:Lf C} {α:Type} {f:(t:Ty)→List (C t)→Option α} {q:α} (hl:nO S X l f=some q):∃ t xs,f t xs=some q∧∀ {S':St C},Le S S'→∀ {γ:Type} (g:(t:Ty)→List (C t)→Option γ),nO S' X l g=g t xs:=by
 cases l with
 | row t xs=>exact ⟨t,xs,hl,fun {S'} h {γ} g=>rfl⟩
 | nil t=>exact ⟨t,[],hl,fun {S'} h {γ} g=>rfl⟩
 | ref id p=>
  simp only [nO] at hl;split at hl
  ·rename_i t xs sh ho
   have key:∀ (p:List (Nat×Nat)) (t:Ty) (xs:List (C t)),path X.K p t xs f=some q→∃ t' zs,f t' zs=some q∧∀ {γ:Type} (g:(t:Ty)→List (C t)→Option γ),path X.K p t xs g=g t' zs:=by
    intro p
    induction p with
    | nil=>intro t xs h;exact ⟨t,xs,h,fun g=>rfl⟩
    | cons s p ih=>
     intro t xs h;obtain ⟨i,o⟩:=s;simp only [path] at h
     cases hx:xs[i]? with
     | none=>rw [hx] at h;cases h
     | some x=>
      rw [hx] at h;simp only [Option.bind_some] at h;split at h
      ·rename_i t' ys he
       obtain ⟨t2,zs,h1,h2⟩:=ih t' ys h;exact ⟨t2,zs,h1,fun g=>by simp only [path,hx,Option.bind_some,he];exact h2 g⟩
      ·cases h
   obtain ⟨t',zs,h1,h2⟩:=key p t xs hl;exact ⟨t',zs,h1,fun {S'} h {γ} g=>by simp only [nO,h.ah id _ ho];exact h2 g⟩
  ·cases hl
 | sub id lo hi=>
  simp only [nO] at hl;split at hl
  ·rename_i t xs sh ho
   exact ⟨t,_,hl,fun {S'} h {γ} g=>by simp only [nO,h.ah id _ ho]⟩
  ·cases hl
 | _=>simp [nO] at hl
theorem C5 {l:Lf C} {α:Type} {f:List (Lf C)→Option α} {q:α} (hl:ez X S l f=some q):∃ ls,f ls=some q∧∀ {S':St C},Le S S'→∀ {γ:Type} (g:List (Lf C)→Option γ),ez X S' l g=g ls:=by
 cases l with
 | ptr id off=>
  simp only [ez] at hl;split at hl
  ·rename_i ls ho
   exact ⟨_,hl,fun {S'} h {γ} g=>by simp only [ez,h.ah id _ ho]⟩
  ·cases hl
 | nH t x o=>exact ⟨_,hl,fun {S'} h {γ} g=>rfl⟩
 | ep id p i o=>
  simp only [ez] at hl;split at hl
  ·rename_i t xs sh ho
   have hs:nO S X (.ref id p) (fun t' ys=>Option.bind ys[i]? fun x=>f ((og id p i (cond p.isEmpty sh false) 0 (X.K.enc t' x)).drop o))=some q:=by simp only [nO,ho];exact hl
   obtain ⟨t',zs,h1,h2⟩:=wz hs
   cases hz:zs[i]? with
   | none=>rw [hz] at h1;cases h1
   | some x=>
    rw [hz] at h1;refine ⟨_,h1,fun {S'} h {γ} g=>?_⟩;have:=h2 h (fun t' ys=>Option.bind ys[i]? fun x=>g ((og id p i (cond p.isEmpty sh false) 0 (X.K.enc t' x)).drop o));rw [hz] at this;simp only [nO,h.ah id _ ho,Option.bind_some] at this;simp only [ez,h.ah id _ ho];exact this
  ·cases hl
 | _=>simp [ez] at hl
theorem Rf {ek:Option (List EK)} {tk:Option (TK Ty)} {op:BinOp} {x y:SV C} {α:Type} {f:SV C→Option α} {q:α} (hl:FY ek tk op x y f=some q):∃ v,f v=some q∧∀ {γ:Type} (g:SV C→Option γ),FY ek tk op x y g=g v:=by
 unfold FY at hl ⊢;split at hl
 ·rename_i as bs
  split at hl
  ·split at hl
   ·rename_i c hc;exact ⟨_,hl,fun g=>by simp only [hc]⟩
   ·rename_i c hc;exact ⟨_,hl,fun g=>by simp only [hc]⟩
   ·cases hl
  ·cases hl
 ·rename_i ka a kb b
  obtain ⟨e,hl⟩:=aw hl;simp only [e,cond_true];split at hl
  ·rename_i c hc;exact ⟨_,hl,fun g=>by simp only [hc]⟩
  ·rename_i hc
   split at hl
   ·rename_i n hn;exact ⟨_,hl,fun g=>by simp only [hc,hn]⟩
   ·rename_i hn
    obtain ⟨e,hl⟩:=eS hl;split at hl
    ·exact ⟨_,hl,fun g=>by simp only [hc,hn,e,cond_false]⟩
    ·exact ⟨_,hl,fun g=>by simp only [hc,hn,e,cond_false]⟩
    ·cases hl
 ·rename_i a b
  split at hl
  ·rename_i c hc;exact ⟨_,hl,fun g=>by simp only [hc]⟩
  ·rename_i hc
   split at hl
   ·obtain ⟨e,hl⟩:=aw hl
    exact ⟨_,hl,fun g=>by simp only [hc,e,cond_true]⟩
   ·cases hl
 ·rename_i a b
  split at hl
  ·exact ⟨_,hl,fun g=>rfl⟩
  ·exact ⟨_,hl,fun g=>rfl⟩
  ·cases hl
 ·rename_i x
  split at hl
  ·exact ⟨_,hl,fun g=>by simp only [*]⟩
  ·exact ⟨_,hl,fun g=>by simp only [*]⟩
  ·cases hl
 ·cases hl
theorem oD (h:Le S S') {n:Nat} {x:Option Operand} {i:Int} (hx:xm S n x=some i):xm S' n x=some i:=by
 cases x with
 | none=>exact hx
 | some x=>
  simp only [xm] at hx ⊢;split at hx
  ·rename_i k m hm
   rw [cP h hm];exact hx
  ·cases hx
theorem ve (h:Le S S') {fs:List (Nat×Nat×Bool)}:∀ {ps:List (Nat×Operand)} {ls ls':List (Lf C)},partsOf X fs S ps ls=some ls'→partsOf X fs S' ps ls=some ls'
 | [],ls,ls',h=>h
 | (i,x)::r,ls,ls',hp=>by
  simp only [partsOf] at hp ⊢;split at hp
  ·rename_i off n ag v hf hv
   obtain ⟨e,hp⟩:=aw hp;rw [cP h hv];simp only [hf,e,cond_true];exact ve h hp
  ·cases hp
theorem uF (h:Le S S') {l l':Lf C} (hl:iC S l=some l'):iC S' l=some l':=by
 cases l with
 | ref id p=>
  cases p with
  | nil=>
   simp only [iC] at hl ⊢;split at hl
   ·rename_i t xs sh ho
    rw [h.ah id _ ho];exact hl
   ·cases hl
  | cons s p=>simp [iC] at hl
 | sub id lo hi=>
  simp only [iC] at hl ⊢;split at hl
  ·rename_i t xs sh ho
   rw [h.ah id _ ho];exact hl
  ·cases hl
 | _=>first | exact hl | (simp [iC] at hl)
theorem xB (h:Le S S'):∀ {ls ls':List (Lf C)},nP S ls=some ls'→nP S' ls=some ls'
 | [],ls',hl=>hl
 | l::ls,ls',hl=>by
  simp only [nP] at hl ⊢;split at hl
  ·rename_i l1 h1
   split at hl
   ·rename_i r' h2
    rw [uF h h1,xB h h2];exact hl
   ·cases hl
  ·cases hl
theorem J9 (h:Le S S') {v v':SV C} (hv:nA S v=some v'):nA S' v=some v':=by
 cases v with
 | one l=>
  simp only [nA] at hv ⊢;split at hv
  ·rename_i l' hl;rw [uF h hl];exact hv
  ·cases hv
 | agg ls=>
  simp only [nA] at hv ⊢;split at hv
  ·rename_i l' hl;rw [xB h hl];exact hv
  ·cases hv
 | _=>simp [nA] at hv
theorem Im (h:Le S S') {l l':Lf C} (hl:jZ X S l=some l'):jZ X S' l=some l':=by
 unfold jZ at hl ⊢;split at hl
 ·obtain ⟨t,xs,h1,h2⟩:=wz hl
  rw [h2 h];exact h1
 ·exact uF h hl
theorem uH (h:Le S S'):∀ {ls ls':List (Lf C)},gy X S ls=some ls'→gy X S' ls=some ls'
 | [],ls',hl=>hl
 | l::ls,ls',hl=>by
  simp only [gy] at hl ⊢;split at hl
  ·rename_i l1 h1
   split at hl
   ·rename_i r' h2
    rw [Im h h1,uH h h2];exact hl
   ·cases hl
  ·cases hl
theorem Kb (h:Le S S') {pt:Option Ty} {v v':SV C} (hv:nB X S pt v=some v'):nB X S' pt v=some v':=by
 cases pt with
 | none=>exact J9 h hv
 | some t=>
  cases v with
  | one l=>
   simp only [nB] at hv ⊢;obtain ⟨ls,h1,h2⟩:=C5 hv;rw [h2 h];split at h1
   ·rename_i ls' hls
    rw [uH h hls];exact h1
   ·cases h1
  | _=>exact hv
theorem Bj (h:Le S S'):∀ {vs:List (SV C)} {pt:List (Option Ty)} {vs':List (SV C)},views X S pt vs=some vs'→views X S' pt vs=some vs'
 | [],pt,vs',hv=>hv
 | v::vs,pt,vs',hv=>by
  simp only [views] at hv ⊢;split at hv
  ·rename_i v1 h1
   split at hv
   ·rename_i r' h2
    rw [Kb h h1,Bj h h2];exact hv
   ·cases hv
  ·cases hv
theorem jW (h:Le S S'):∀ {xs:List Operand} {ts:List TypeId} {vs:List (SV C)},fg X S xs ts=some vs→fg X S' xs ts=some vs
 | [],ts,vs,hx=>hx
 | x::xs,ts,vs,hx=>by
  simp only [fg] at hx ⊢;split at hx
  ·rename_i l hv
   split at hx
   ·rename_i us hu;rw [dJ h hv,jW h hu];exact hx
   ·cases hx
  ·rename_i l hv
   split at hx
   ·rename_i us hu;rw [dJ h hv,jW h hu];exact hx
   ·cases hx
  ·cases hx
theorem NH (h:Le S S') {pt:List (Option Ty)} {pre post:List (SV C)} {xs:List Operand} {ts:List TypeId} {vs:List (SV C)} (hx:mJ X S pt pre xs ts post=some vs):mJ X S' pt pre xs ts post=some vs:=by
 unfold mJ at hx ⊢;split at hx
 ·rename_i us hu
  rw [jW h hu];exact Bj h hx
 ·cases hx
theorem Nq {l:Lf C} {α:Type} {f:Nat→List (SV C)→List (SV C)→Option α} {q:α} (hl:pE S l f=some q):∃ n pre post,f n pre post=some q∧∀ {S':St C},Le S S'→∀ {γ:Type} (g:Nat→List (SV C)→List (SV C)→Option γ),pE S' l g=g n pre post:=by
 cases l with
 | bP o=>cases o with
  | none=>cases hl
  | some f'=>
   simp only [pE] at hl
   cases hf:Nat.ble nK f' with
   | true=>rw [hf] at hl;cases hl
   | false=>
    rw [hf] at hl;exact ⟨_,_,_,hl,fun {S'} h {γ} g=>by simp only [pE,hf,cond_false]⟩
 | vo id=>
  simp only [pE] at hl;split at hl
  ·rename_i f' n sh ls ho
   obtain ⟨e,hl⟩:=aw hl;exact ⟨_,_,_,hl,fun {S'} h {γ} g=>by simp only [pE,h.ah id _ ho,e,cond_true]⟩
  ·cases hl
 | _=>cases hl
theorem Mo {x:Operand} {α:Type} {f:TypeId→SV C→Option α} {q:α} (hl:qV S (eG S x) f=some q):∃ t v,f t v=some q∧∀ {S':St C},Le S S'→∀ {γ:Type} (g:TypeId→SV C→Option γ),qV S' (eG S' x) g=g t v:=by
 unfold qV at hl;split at hl
 case h_3=>cases hl
 case h_2=>
  rename_i f hx;obtain ⟨e,hl⟩:=aw hl;exact ⟨_,_,hl,fun {S'} h {γ} g=>by simp only [qV,cP h hx,e,cond_true]⟩
 rename_i id hx;split at hl
 ·rename_i t sh ls ho
  obtain ⟨e,hl⟩:=aw hl;split at hl
  ·rename_i v hv
   exact ⟨t,v,hl,fun {S'} h {γ} g=>by simp only [qV,cP h hx,h.ah id _ ho,e,cond_true,hv]⟩
  ·cases hl
 ·cases hl
theorem Hq {ls:List (Lf C)} {sz:Nat} {ag:Bool} {i:Int} {α:Type} {f:SV C→Option α} {q:α}:∀ {n j:Nat},xh ls sz ag i f n j=some q→∃ v,f v=some q∧∀ {γ:Type} (g:SV C→Option γ),xh ls sz ag i g n j=g v
 | 0,j,h=>by simp [xh] at h
 | n+1,j,h=>by
  simp only [xh] at h ⊢
  cases hb:decide (i=(j:Int)) with
  | true=>
   rw [hb] at h;simp only [cond_true] at h ⊢
   cases ag with
   | true=>exact ⟨_,h,fun g=>rfl⟩
   | false=>
    simp only at h ⊢;split at h
    ·rename_i l hl
     exact ⟨_,h,fun g=>rfl⟩
    ·cases h
  | false=>
   rw [hb] at h;exact Hq (n:=n) (j:=j+1) h
theorem Me (h:Le S S') {v:SV C} (hl:vw S v=true):vw S' v=true:=by
 unfold vw at hl ⊢;split at hl
 ·exact hl
 ·rename_i id
  split at hl
  ·rename_i ho;simp only [h.ah id _ ho]
  ·rename_i ho;simp only [h.ah id _ ho]
  ·cases hl
 ·cases hl
theorem Hb (h:Le S S') {tk:Option (TK Ty)} {x y:Lf C} {b:Bool} (hl:I3 S tk x y=some b):I3 S' tk x y=some b:=by
 unfold I3 at hl ⊢;split at hl
 ·exact hl
 ·rename_i id
  split at hl
  ·rename_i ho;simp only [h.ah id _ ho];exact hl
  ·cases hl
 ·exact hl
 ·exact hl
 ·exact hl
 ·rename_i id
  split at hl
  ·rename_i ho;simp only [h.ah id _ ho];exact hl
  ·cases hl
 ·exact hl
 ·rename_i id
  split at hl
  ·rename_i ho;simp only [h.ah id _ ho];exact hl
  ·cases hl
 ·cases hl
theorem Jw {tk:Option (TK Ty)} {op:BinOp} {x y:SV C} {c:Bool} {α:Type} {f:SV C→Option α} {q:α} (hl:oz S tk op x y c f=some q):∃ v,f v=some q∧∀ {S':St C},Le S S'→∀ {γ:Type} (g:SV C→Option γ),oz S' tk op x y c g=g v:=by
 unfold oz at hl;split at hl
 case h_2=>cases hl
 split at hl
 ·rename_i hb;exact ⟨_,hl,fun {S'} h {γ} g=>by simp only [oz,Hb h hb]⟩
 ·rename_i hb;exact ⟨_,hl,fun {S'} h {γ} g=>by simp only [oz,Hb h hb]⟩
 ·cases hl
theorem L4 {m:MT Ty} {l:Lf C} {key:SV C} {α:Type} {f:(kt vt:Ty)→C kt→List (Nat×C kt×C vt)→Nat→Option α} {q:α} (hl:ld X S m l key f=some q) :
  ∃ kt vt x xs c,f kt vt x xs c=some q∧∀ {S':St C},Le S S'→∀ {γ:Type} (g:(kt vt:Ty)→C kt→List (Nat×C kt×C vt)→Nat→Option γ),ld X S' m l key g=g kt vt x xs c:=by
 unfold ld at hl;obtain ⟨e,hl⟩:=aw hl;split at hl
 ·split at hl
  ·rename_i x hx
   exact ⟨_,_,x,[],0,hl,fun {S'} h {γ} g=>by simp only [ld,e,cond_true,hx]⟩
  ·cases hl
 ·rename_i id _
  split at hl
  ·rename_i mk kt vt xs c ho
   obtain ⟨e2,hl⟩:=aw hl;split at hl
   ·rename_i x hx
    exact ⟨_,_,x,xs,c,hl,fun {S'} h {γ} g=>by simp only [ld,e,cond_true,h.ah id _ ho,e2,hx]⟩
   ·cases hl
  ·cases hl
 ·cases hl
theorem L6 {m:MT Ty} {l:Lf C} {key:SV C} {ok:Bool} {α:Type} {f:SV C→Option α} {q:α} (hl:n7 X S m l key ok f=some q):∃ v,f v=some q∧∀ {S':St C},Le S S'→∀ {γ:Type} (g:SV C→Option γ),n7 X S' m l key ok g=g v:=by
 unfold n7 at hl;obtain ⟨kt,vt,x,xs,c,h1,h2⟩:=L4 hl
 cases ok with
 | true=>exact ⟨_,h1,fun {S'} h {γ} g=>by unfold n7;rw [h2 h];rfl⟩
 | false=>exact ⟨_,h1,fun {S'} h {γ} g=>by unfold n7;rw [h2 h];rfl⟩
end
section
variable {Ty:Type} [DecidableEq Ty] {C:Ty→Type}
variable {X:Cx C} {S S':St C} {R:Type} {r:R}
theorem jm {α:Type}:∀ (d:List Nat) (l:List (Nat×α)) (n:Nat),lk (dI d l) n=if n∈d then none else lk l n
 | [],l,n=>by simp [dI]
 | x::d,l,n=>by
  rw [dI,jm d,lg]
  by_cases h:n∈d<;>by_cases e:n=x<;>simp [h,e]
theorem kK {α:Type}:∀ (d e:List Nat) (l:List (Nat×α)),dI (d++e) l=dI e (dI d l)
 | [],e,l=>rfl
 | x::d,e,l=>by simp only [List.cons_append,dI,kK d e]
theorem Le.del (h:Le S S') (d:List Nat):Le { S with ah:=dI d S.ah } { S' with ah:=dI d S'.ah }:=by
 refine ⟨h.base,h.env,fun id ob hi=>?_⟩;simp only [jm] at hi ⊢;split at hi
 ·cases hi
 ·rename_i e;rw [if_neg e];exact h.ah id ob hi
theorem iB:∀ {ls:List (Lf C)} {S S':St C} {ls':List (Lf C)} {S1:St C} {b:Bool},Le S S'→di S ls=some (ls',S1,b) →
  S1={ S with ah:=dI (uY ls) S.ah }∧di S' ls=some (ls',{ S' with ah:=dI (uY ls) S'.ah },b)
 | [],S,S',ls',S1,b,h,ha=>by
  simp only [di,Option.some.injEq,Prod.mk.injEq] at ha;obtain ⟨rfl,rfl,rfl⟩:=ha;exact ⟨rfl,rfl⟩
 | l::ls,S,S',ls',S1,b,h,ha=>by
  cases l with
  | ref id p=>
   cases p with
   | cons s p=>simp [di] at ha
   | nil=>
    simp only [di] at ha ⊢;split at ha
    ·rename_i t xs ho
     split at ha
     ·rename_i r' S2 b2 hr
      have hd:Le (S.kr id) (S'.kr id):=h.del [id];obtain ⟨e1,e2⟩:=iB hd hr;cases ha;rw [h.ah id _ ho];simp only [e2];exact ⟨e1,rfl⟩
     ·cases ha
    ·cases ha
  | nil t=>
   simp only [di] at ha ⊢;split at ha
   ·rename_i r' S2 b2 hr
    obtain ⟨e1,e2⟩:=iB h hr;cases ha;simp only [e2];exact ⟨e1,rfl⟩
   ·cases ha
  | row t xs=>
   simp only [di] at ha ⊢;split at ha
   ·rename_i r' S2 b2 hr
    obtain ⟨e1,e2⟩:=iB h hr;cases ha;simp only [e2];exact ⟨e1,rfl⟩
   ·cases ha
  | lF n=>
   cases n with
   | map=>simp [di] at ha
   | lX=>
    simp only [di] at ha ⊢;split at ha
    ·rename_i r' S2 b2 hr
     obtain ⟨e1,e2⟩:=iB h hr;cases ha;simp only [e2];exact ⟨e1,rfl⟩
    ·cases ha
  | int k n=>
   simp only [di] at ha ⊢;split at ha
   ·rename_i r' S2 b2 hr
    obtain ⟨e1,e2⟩:=iB h hr;cases ha;simp only [e2];exact ⟨e1,rfl⟩
   ·cases ha
  | bool c=>
   simp only [di] at ha ⊢;split at ha
   ·rename_i r' S2 b2 hr
    obtain ⟨e1,e2⟩:=iB h hr;cases ha;simp only [e2];exact ⟨e1,rfl⟩
   ·cases ha
  | str c=>
   simp only [di] at ha ⊢;split at ha
   ·rename_i r' S2 b2 hr
    obtain ⟨e1,e2⟩:=iB h hr;cases ha;simp only [e2];exact ⟨e1,rfl⟩
   ·cases ha
  | bP c=>
   simp only [di] at ha ⊢;split at ha
   ·rename_i r' S2 b2 hr
    obtain ⟨e1,e2⟩:=iB h hr;cases ha;simp only [e2];exact ⟨e1,rfl⟩
   ·cases ha
  | _=>simp [di] at ha
theorem CW {t:Ty}:∀ {ps:List (Nat×Operand)} {n:Nat} {S S':St C} {es:List (C t)} {S1:St C} {b:Bool},Le S S'→elems X t S n ps=some (es,S1,b) →
  S1={ S with ah:=dI (qC X t S ps) S.ah }∧elems X t S' n ps=some (es,{ S' with ah:=dI (qC X t S ps) S'.ah },b)
 | [],n,S,S',es,S1,b,h,he=>by
  simp only [elems,Option.some.injEq,Prod.mk.injEq] at he;obtain ⟨rfl,rfl,rfl⟩:=he;exact ⟨rfl,rfl⟩
 | (i,x)::ps,n,S,S',es,S1,b,h,he=>by
  simp only [elems] at he ⊢;split at he
  ·rename_i v hv
   split at he
   ·rename_i ls S2 b2 ha
    split at he
    ·rename_i e hd
     split at he
     ·rename_i es' S3 b3 hes
      obtain ⟨hb,he⟩:=aw he;obtain ⟨rfl,a2⟩:=iB h ha;obtain ⟨e1,e2⟩:=CW (h.del (uY v.leaves)) hes;cases he;rw [dJ h hv];simp only [a2,hd,e2,hb,cond_true,qC,hv,kK];exact ⟨e1,trivial⟩
     ·cases he
    ·cases he
   ·cases he
  ·cases he
theorem lz {id:Nat} {ob:Ob C} (h:fJ S id):S.add id ob=some (S.setObj id ob):=by
 unfold St.add
 have:(gg S.env++eB S.ah).any (Nat.beq id)=false:=by
  rw [List.any_eq_false];intro x hx hb;have e:=Nat.eq_of_beq_eq_true hb;subst e
  rcases List.mem_append.1 hx with hx | hx
  ·exact h.1 hx
  ·exact h.2 hx
 rw [this];rfl
theorem QG {id:Nat} {l:cW C} {n:Nat} (h:n∈eB (rm l id)):n∈eB l:=by
 induction l with
 | nil=>simpa [rm] using h
 | cons x l ih=>
  obtain ⟨m,ob⟩:=x;simp only [rm] at h
  cases hb:Nat.beq id m with
  | true=>
   rw [hb] at h;simp only [cond_true] at h;have:=ih h;cases ob<;>simp [eB,this]
  | false=>
   rw [hb] at h;simp only [cond_false] at h
   cases ob with
   | box kd ls=>
    simp only [eB,List.mem_cons,List.mem_append] at h ⊢
    rcases h with h | h | h
    ·exact .inl h
    ·exact .inr (.inl h)
    ·exact .inr (.inr (ih h))
   | row t xs sh=>
    simp only [eB,List.mem_cons] at h ⊢
    rcases h with h | h
    ·exact .inl h
    ·exact .inr (ih h)
   | map mk kt vt xs c=>
    simp only [eB,List.mem_cons] at h ⊢
    rcases h with h | h
    ·exact .inl h
    ·exact .inr (ih h)
   | ghost=>
    simp only [eB,List.mem_cons] at h ⊢
    rcases h with h | h
    ·exact .inl h
    ·exact .inr (ih h)
theorem pV {l:cW C} {n:Nat}:∀ {d:List Nat} {l:cW C},n∈eB (dI d l)→n∈eB l
 | [],l,h=>h
 | x::d,l,h=>QG (pV (l:=l) h)
theorem sZ {d:List Nat} {id:Nat} (h:fJ S id):fJ { S with ah:=dI d S.ah } id:=⟨h.1,fun hm=>h.2 (pV (l:=S.ah) hm)⟩
theorem zh:∀ {news:List (Nat×Ob C)} {S:St C},(∀ id ob,(id,ob)∈news→fJ S id∧∃ t xs sh,ob = .row t xs sh)→gz (dO news)=true→S.kv news=some { S with ah:=news.reverse++S.ah }
 | [],S,_,_=>rfl
 | (id,ob)::r,S,h,hn=>by
  simp only [dO,List.map_cons,gz,Bool.and_eq_true,Bool.not_eq_true'] at hn;obtain ⟨h1,t,xs,sh,rfl⟩:=h id ob (by simp);simp only [St.kv,lz h1];rw [zh (S:=S.setObj id (.row t xs sh)) (fun j dY hj=>?_) hn.2]
  ·simp [St.setObj]
  ·obtain ⟨g1,g2⟩:=h j dY (by simp [hj])
   refine ⟨⟨g1.1,fun hm=>?_⟩,g2⟩;simp only [St.setObj,eB,List.mem_cons] at hm
   rcases hm with e | hm
   ·subst e
    refine absurd ?_ (kN hn.1);exact List.mem_map.2 ⟨(j,dY),hj,rfl⟩
   ·exact g1.2 hm
theorem Fa {l:List Nat}:gz l=true↔l.Nodup:=by
 induction l with
 | nil=>simp [gz]
 | cons x l ih=>
  simp only [gz,Bool.and_eq_true,Bool.not_eq_true',List.nodup_cons,ih];constructor
  ·exact fun ⟨h1,h2⟩=>⟨kN h1,h2⟩
  ·refine fun ⟨h1,h2⟩=>⟨?_,h2⟩
   rw [List.any_eq_false];intro y hy hb;exact h1 (Nat.eq_of_beq_eq_true hb▸hy)
theorem pU:∀ (ls:List (Lf C)) (n id:Nat) (ob:Ob C),(id,ob)∈(intern n ls).2→∃ t xs sh,ob = .row t xs sh
 | [],n,id,ob,h=>by simp [intern] at h
 | l::ls,n,id,ob,h=>by
  cases l with
  | row t xs=>
   simp only [intern,List.mem_cons] at h
   rcases h with h | h
   ·cases h;exact ⟨t,xs,false,rfl⟩
   ·exact pU ls _ id ob h
  | _=>exact pU ls (n+1) id ob (by simpa [intern] using h)
theorem B9:∀ (rs:List (Bool×List (Lf C))) (n id:Nat) (ob:Ob C),(id,ob)∈(bY n rs).2→∃ t xs sh,ob = .row t xs sh
 | [],n,id,ob,h=>by simp [bY] at h
 | (b,ls)::r,n,id,ob,h=>by
  simp only [bY,List.mem_append] at h
  rcases h with h | h
  ·exact pU ls n id ob h
  ·exact B9 r _ id ob h
abbrev Told (X:Cx C) (o:Oper) (S:St C) (r:R) (k:SV C→List (Nat×Ob C)→List Nat→Option R):Prop:=
 ∃ v news dW,k v news dW=some r∧∀ (S':St C),Le S S'→(∀ id,id∈dO news→fJ S' id)→gz (dO news)=true→∀ {R':Type} (k':St C→Option R'),ev X o S' k'=k' (tQ S' o.dst v news dW)
theorem ij (h:Le S S') (o:Oper):cg X S' o=cg X S o:=by unfold cg;rw [h.base]
theorem lR {o:Oper} {k:SV C→List (Nat×Ob C)→List Nat→Option R} {t t0 t1:Ty} {xs:List (C t0)} {ys:List (C t1)} {dK iT:Option Nat} {sh:Bool} {at_:Option Nat} (hq:nI at_ X o S t t0 t1 xs ys dK iT sh k=some r)
  (hev:∀ (S':St C),Le S S'→∀ {R':Type} (k':St C→Option R'),ev X o S' k'=oG at_ X o S' t t0 t1 xs ys dK iT sh k'):Told X o S r k:=by
 unfold nI at hq;split at hq
 ·rename_i xs' Pb hx hy
  obtain ⟨hb,hq⟩:=aw hq;refine ⟨_,_,_,hq,fun S' h hf _ {R'} k'=>?_⟩;rw [hev S' h]
  have hu:fJ (fA (fA S' dK) iT) (cg X S o):=by
   have:=hf (cg X S o) (by simp [dO]);have:=sZ (d:=uo dK++uo iT) this;rw [kK] at this;cases dK<;>cases iT<;>exact this
  unfold oG;simp only [hx,hy,hb,cond_true,ij h o,lz hu];unfold tQ;rw [kK];cases dK<;>cases iT<;>rfl
 ·cases hq
theorem p9 {c':iK C} {pre post:List (SV C)} {as:List Operand} {ts:List TypeId} {o o':Oper} {k:SV C→List (Nat×Ob C)→List Nat→Option R} (hq:ng X c' S pre as ts post o k=some r) (hoo:o'=o)
  (hev:∀ (S':St C),Le S S'→∀ {R':Type} (k':St C→Option R'),ev X o' S' k'=pG X c' S' pre as ts post o k'):Told X o' S r k:=by
 subst hoo;rw [sO] at hq;unfold uw at hq;split at hq
 case h_2=>cases hq
 rename_i vs hvs
 cases hg:c'.g vs with
 | none=>rw [hg] at hq;cases hq
 | some r0=>
  rw [hg] at hq;simp only [Option.bind_some] at hq
  cases QJ:c'.nz with
  | true=>rw [QJ] at hq;cases hq
  | false=>
  rw [QJ] at hq;simp only at hq;split at hq
  case h_2=>cases hq
  rename_i v hv;refine ⟨_,_,_,hq,fun S' h hf hnd {R'} k'=>?_⟩;rw [hev S' h];rw [rr];unfold wc;simp only [NH h hvs,hg,Option.bind_some,ij h,QJ,hv]
  cases pX:c'.frz with
  | true=>
   simp only [B8,pX,List.reverse_nil];rfl
  | false=>
  simp only [B8,pX] at hf hnd ⊢
  have hnd':gz (dO (bY (cg X S o') (c'.ret r0)).2)=true:=by
   rw [Fa] at hnd ⊢
   have e:dO (bY (cg X S o') (c'.ret r0)).2.reverse=(dO (bY (cg X S o') (c'.ret r0)).2).reverse:=by simp [dO]
   rw [e] at hnd;exact (List.reverse_perm _).nodup_iff.1 hnd
  rw [zh (fun id ob hm=>⟨hf id ?_,?_⟩) hnd']
  ·rfl
  ·exact List.mem_map.2 ⟨(id,ob),by simpa using hm,rfl⟩
  ·exact B9 _ _ _ _ hm
theorem JC {c':iK C} {pre post:List (SV C)} {as:List Operand} {ts:List TypeId} {o o':Oper} {k:SV C→List (Nat×Ob C)→List Nat→Option R} (hq:ng X c' S pre as ts post o k=some r) (hoo:o'=o)
  (hev:∀ (S':St C) {R':Type} (k':St C→Option R'),ev X o' S' k'=pG X c' S' pre as ts post o k'):Told X o' S r k:=
 p9 hq hoo fun S' _ {R'} k'=>hev S' k'
theorem MR {o:Oper} {k:SV C→List (Nat×Ob C)→List Nat→Option R} (hq:ko X o S k=some r):Told X o S r k:=by
 obtain ⟨dst,op,ty,pos,dL,gd⟩:=o
 cases op with
 | move x=>
  simp only [ko] at hq;split at hq
  ·rename_i v hv
   exact ⟨_,_,_,hq,fun S' h _ _ {R'} k'=>by simp only [ev,dJ h hv];rfl⟩
  ·cases hq
 | pick c x y=>
  simp only [ko] at hq;split at hq
  ·rename_i c' x' y' h1 h2 h3
   exact ⟨_,_,_,hq,fun S' h _ _ {R'} k'=>by simp only [ev,cP h h1,cP h h2,cP h h3];rfl⟩
  ·rename_i v z h1 h2 hno
   refine ⟨_,_,_,hq,fun S' h _ _ {R'} k'=>?_⟩;simp only [ev,cP h h1,cP h h2];generalize eG S' y=u
   rcases u with _ | (l | ls | vs)<;>rcases z with (l' | _ | _)
   all_goals first | rfl | (cases l'<;>first | rfl | (cases l<;>rfl))
  ·rename_i v h1 h2 hno
   refine ⟨_,_,_,hq,fun S' h _ _ {R'} k'=>?_⟩;simp only [ev,cP h h1,cP h h2];generalize eG S' x=u
   rcases u with _ | (l | ls | vs)<;>rcases v with (l' | _ | _)
   all_goals first | rfl | (cases l'<;>first | rfl | (cases l<;>rfl)) | (cases l<;>rfl)
  ·cases hq
 | box e x=>
  simp only [ko] at hq;split at hq
  ·rename_i v tk hv ht
   obtain ⟨hb,hq⟩:=aw hq;refine ⟨_,_,_,hq,fun S' h hf _ {R'} k'=>?_⟩;have hu:=hf (cg X S ⟨dst,.box e x,ty,pos,dL,gd⟩) (by simp [dO]);simp only [ev,cP h hv,ht,hb,cond_true,ij h,lz hu];rfl
  ·cases hq
 | alloc e=>
  simp only [ko] at hq;split at hq
  ·rename_i z ht
   refine ⟨_,_,_,hq,fun S' h hf _ {R'} k'=>?_⟩;have hu:=hf (cg X S ⟨dst,.alloc e,ty,pos,dL,gd⟩) (by simp [dO]);simp only [ev,ht,ij h,lz hu];rfl
  ·rename_i fs zs ht
   refine ⟨_,_,_,hq,fun S' h hf _ {R'} k'=>?_⟩;have hu:=hf (cg X S ⟨dst,.alloc e,ty,pos,dL,gd⟩) (by simp [dO]);simp only [ev,ht,ij h,lz hu];rfl
  ·rename_i n sz ag zs ht
   refine ⟨_,_,_,hq,fun S' h hf _ {R'} k'=>?_⟩;have hu:=hf (cg X S ⟨dst,.alloc e,ty,pos,dL,gd⟩) (by simp [dO]);simp only [ev,ht,ij h,lz hu];rfl
  ·cases hq
 | build t ps=>
  simp only [ko] at hq;split at hq
  ·rename_i fs zs ht
   split at hq
   ·rename_i ls hp
    obtain ⟨hb,hq⟩:=aw hq;refine ⟨_,_,_,hq,fun S' h hf _ {R'} k'=>?_⟩;simp only [ev,ht,ve h hp,hb,cond_true];rfl
   ·cases hq
  ·rename_i n sz ag zs ht
   split at hq
   ·rename_i ls hp
    refine ⟨_,_,_,hq,fun S' h hf _ {R'} k'=>?_⟩;simp only [ev,ht,ve h hp];rfl
   ·cases hq
  ·cases hq
 | buildSlice t n ps=>
  simp only [ko] at hq;split at hq
  ·rename_i t1 ht
   split at hq
   ·rename_i es S1 b he
    obtain ⟨hb,hq⟩:=aw hq;refine ⟨_,_,_,hq,fun S' h hf _ {R'} k'=>?_⟩;obtain ⟨_,e2⟩:=CW h he;have hu:=sZ (d:=qC X t1 S ps.toList) (hf (cg X S ⟨dst,.buildSlice t n ps,ty,pos,dL,gd⟩) (by simp [dO]));simp only [ev,ht,e2,hb,cond_true,ij h,lz hu];rfl
   ·cases hq
  ·cases hq
 | load t x=>
  simp only [ko] at hq;split at hq
  ·rename_i tk l ht hx
   obtain ⟨ls,hk,hg⟩:=C5 hq;split at hk
   ·rename_i v hm
    refine ⟨_,_,_,hk,fun S' h hf _ {R'} k'=>?_⟩;simp only [ev,ht,cP h hx];rw [hg h];simp only [hm];rfl
   ·cases hk
  ·cases hq
 | nilCheck x=>
  simp only [ko] at hq;split at hq
  ·rename_i id off hx
   exact ⟨_,_,_,hq,fun S' h _ _ {R'} k'=>by simp only [ev,cP h hx];rfl⟩
  ·rename_i t0 x0 off hx
   exact ⟨_,_,_,hq,fun S' h _ _ {R'} k'=>by simp only [ev,cP h hx];rfl⟩
  ·rename_i id p i off hx
   exact ⟨_,_,_,hq,fun S' h _ _ {R'} k'=>by simp only [ev,cP h hx];rfl⟩
  ·rename_i v n1 n2 n3 hx
   obtain ⟨e,hq⟩:=aw hq;refine ⟨_,_,_,hq,fun S' h _ _ {R'} k'=>?_⟩;simp only [ev,cP h hx];rw [Me h e];rfl
  ·cases hq
 | binOp op t x y t'=>
  simp only [ko] at hq;split at hq
  ·cases hq
  ·rename_i u v hne hu hv
   cases hnk:Ae v with
   | true=>
    rw [hnk] at hq;simp only [cond_true] at hq;obtain ⟨z,hk,hg⟩:=Jw hq;refine ⟨_,_,_,hk,fun S' h hf _ {R'} k'=>?_⟩;simp only [ev,dJ h hu,dJ h hv,hnk,cond_true];rw [hg h];rfl
   | false=>
    rw [hnk] at hq;simp only [cond_false] at hq;obtain ⟨z,hk,hg⟩:=Rf hq;refine ⟨_,_,_,hk,fun S' h hf _ {R'} k'=>?_⟩;simp only [ev,dJ h hu,dJ h hv,hnk,cond_false];rw [hg];rfl
  ·cases hq
 | unOp op t x=>
  simp only [ko] at hq;split at hq
  ·rename_i b hv
   exact ⟨_,_,_,hq,fun S' h _ _ {R'} k'=>by simp only [ev,cP h hv];rfl⟩
  ·rename_i ki n hv
   exact ⟨_,_,_,hq,fun S' h _ _ {R'} k'=>by simp only [ev,cP h hv];rfl⟩
  ·cases hq
 | convert t t' x=>
  simp only [ko] at hq;split at hq
  ·rename_i k1 k' k0 n h1 h2 hv
   exact ⟨_,_,_,hq,fun S' h _ _ {R'} k'=>by simp only [ev,h1,h2,cP h hv];rfl⟩
  ·rename_i k1 s h1 h2 hv
   exact ⟨_,_,_,hq,fun S' h _ _ {R'} k'=>by simp only [ev,h1,h2,cP h hv];rfl⟩
  ·rename_i t1 l h1 h2 hv
   obtain ⟨t0,xs,hk,hg⟩:=wz hq;obtain ⟨e1,hk⟩:=aw hk;obtain ⟨e2,hk⟩:=aw hk;split at hk
   ·rename_i h3
    refine ⟨_,_,_,hk,fun S' h _ _ {R'} k'=>?_⟩;simp only [ev,h1,h2,cP h hv];rw [hg h];simp only [e1,e2,h3,cond_true];rfl
   ·cases hk
  ·cases hq
 | makeSlice t x y=>
  simp only [ko] at hq
  cases hz0:qU x with
  | true=>
   rw [hz0] at hq;simp only [cond_true] at hq;split at hq
   case h_2=>cases hq
   rename_i t1 km m ht hy;obtain ⟨e2,hq⟩:=aw hq;obtain ⟨e3,hq⟩:=aw hq;refine ⟨_,_,_,hq,fun S' h hf _ {R'} k'=>?_⟩;have hu:=hf (cg X S ⟨dst,.makeSlice t x y,ty,pos,dL,gd⟩) (by simp [dO]);simp only [ev,hz0,ht,cP h hy,e2,e3,cond_true,ij h,lz hu];rfl
  | false=>
  rw [hz0] at hq;simp only [cond_false] at hq;split at hq
  ·rename_i t1 kn n km m ht hx hy
   obtain ⟨e1,hq⟩:=aw hq;obtain ⟨e2,hq⟩:=aw hq;obtain ⟨e3,hq⟩:=aw hq;refine ⟨_,_,_,hq,fun S' h hf _ {R'} k'=>?_⟩;have hu:=hf (cg X S ⟨dst,.makeSlice t x y,ty,pos,dL,gd⟩) (by simp [dO]);simp only [ev,hz0,cond_false,ht,cP h hx,cP h hy,e1,e2,e3,cond_true,ij h,lz hu];rfl
  ·cases hq
 | slice t x lo hi mx=>
  simp only [ko] at hq;split at hq
  ·rename_i s ht hx
   split at hq
   ·rename_i l q hl hh
    obtain ⟨e1,hq⟩:=aw hq;obtain ⟨e2,hq⟩:=aw hq;obtain ⟨e3,hq⟩:=aw hq;refine ⟨_,_,_,hq,fun S' h hf _ {R'} k'=>?_⟩;simp only [ev,ht,cP h hx,oD h hl,oD h hh,e1,e2,e3,cond_true];rfl
   ·cases hq
  ·rename_i t1 t0 xs ht hx
   split at hq
   ·rename_i l q hl hh
    obtain ⟨e0,hq⟩:=aw hq;obtain ⟨e1,hq⟩:=aw hq;obtain ⟨e2,hq⟩:=aw hq;obtain ⟨e3,hq⟩:=aw hq;refine ⟨_,_,_,hq,fun S' h hf _ {R'} k'=>?_⟩;simp only [ev,ht,cP h hx,oD h hl,oD h hh,e0,e1,e2,e3,cond_true];rfl
   ·cases hq
  ·rename_i t1 id ht hx
   obtain ⟨ew,hq⟩:=aw hq;unfold Kq at hq;split at hq
   case h_2=>cases hq
   rename_i t0 xs sh ho;split at hq
   case h_2=>cases hq
   rename_i l q hl hh;obtain ⟨e0,hq⟩:=aw hq;obtain ⟨e1,hq⟩:=aw hq;obtain ⟨e2,hq⟩:=aw hq;obtain ⟨e3,hq⟩:=aw hq;refine ⟨_,_,_,hq,fun S' h hf _ {R'} k'=>?_⟩;simp only [ev,ht,cP h hx,ew,cond_true,Kq,h.ah _ _ ho,oD h hl,oD h hh,e0,e1,e2,e3];rfl
  ·rename_i t1 id wZ hi0 ht hx
   unfold Ko at hq;split at hq
   case h_2=>cases hq
   rename_i t0 xs sh ho;split at hq
   case h_2=>cases hq
   rename_i l q hl hh;obtain ⟨e0,hq⟩:=aw hq;obtain ⟨e1,hq⟩:=aw hq;obtain ⟨e2,hq⟩:=aw hq;obtain ⟨e3,hq⟩:=aw hq;refine ⟨_,_,_,hq,fun S' h hf _ {R'} k'=>?_⟩;simp only [ev,ht,cP h hx,cond_true,Ko,h.ah _ _ ho,oD h hl,oD h hh,e0,e1,e2,e3];rfl
  ·cases hq
 | fieldAddr t x f=>
  simp only [ko] at hq;split at hq
  ·rename_i fs zs l ht hx
   split at hq
   ·rename_i off n ag hf
    split at hq
    ·rename_i l' hl
     exact ⟨_,_,_,hq,fun S' h _ _ {R'} k'=>by simp only [ev,ht,cP h hx,hf,hl];rfl⟩
    ·cases hq
   ·cases hq
  ·cases hq
 | field t x f=>
  simp only [ko] at hq;split at hq
  ·rename_i fs zs ls ht hx
   split at hq
   ·rename_i off n hf
    exact ⟨_,_,_,hq,fun S' h _ _ {R'} k'=>by simp only [ev,ht,cP h hx,hf];rfl⟩
   ·rename_i off n hf
    split at hq
    ·rename_i l hl
     exact ⟨_,_,_,hq,fun S' h _ _ {R'} k'=>by simp only [ev,ht,cP h hx,hf,hl];rfl⟩
    ·cases hq
   ·cases hq
  ·cases hq
 | indexAddr t x y=>
  simp only [ko] at hq;split at hq
  ·rename_i t1 t0 xs ki n ht hx hy
   obtain ⟨e1,hq⟩:=aw hq;obtain ⟨e2,hq⟩:=aw hq
   cases hz:xs[n.toNat]? with
   | none=>rw [hz] at hq;cases hq
   | some e=>
    rw [hz] at hq;refine ⟨_,_,_,hq,fun S' h _ _ {R'} k'=>?_⟩;simp only [ev,ht,cP h hx,cP h hy,e1,e2,cond_true,hz];rfl
  ·rename_i t1 id p ki n ht hx hy
   obtain ⟨e1,hq⟩:=aw hq;obtain ⟨t0,xs,hk,hg⟩:=wz hq;obtain ⟨e2,hk⟩:=aw hk;obtain ⟨e3,hk⟩:=aw hk;refine ⟨_,_,_,hk,fun S' h _ _ {R'} k'=>?_⟩;simp only [ev,ht,cP h hx,cP h hy,e1,cond_true];rw [hg h];simp only [e2,e3,cond_true];rfl
  ·rename_i t1 id lo hi ki n ht hx hy
   unfold Kr at hq;split at hq
   case h_2=>cases hq
   rename_i t0 xs sh ho;obtain ⟨e1,hq⟩:=aw hq;obtain ⟨e2,hq⟩:=aw hq;obtain ⟨e3,hq⟩:=aw hq;refine ⟨_,_,_,hq,fun S' h _ _ {R'} k'=>?_⟩;simp only [ev,ht,cP h hx,cP h hy,Kr,h.ah _ _ ho,e1,e2,e3,cond_true];rfl
  ·cases hq
 | index t x y=>
  simp only [ko] at hq;split at hq
  ·rename_i s ki n ht hx hy
   obtain ⟨e1,hq⟩:=aw hq;obtain ⟨e2,hq⟩:=aw hq;refine ⟨_,_,_,hq,fun S' h _ _ {R'} k'=>?_⟩;simp only [ev,ht,cP h hx,cP h hy,e1,e2,cond_true];rfl
  ·rename_i m sz ag zs ls ki n ht hx hy
   obtain ⟨v,hq,hg⟩:=Hq hq;refine ⟨_,_,_,hq,fun S' h _ _ {R'} k'=>?_⟩;simp only [ev,ht,cP h hx,cP h hy,hg];rfl
  ·cases hq
 | extract x i=>
  simp only [ko] at hq;split at hq
  ·rename_i vs hv
   split at hq
   ·rename_i l hl
    exact ⟨_,_,_,hq,fun S' h _ _ {R'} k'=>by simp only [ev,cP h hv,hl];rfl⟩
   ·rename_i ls hl
    exact ⟨_,_,_,hq,fun S' h _ _ {R'} k'=>by simp only [ev,cP h hv,hl];rfl⟩
   ·cases hq
  ·cases hq
 | call c=>
  obtain ⟨TQ,as,ts⟩:=c
  cases TQ with
  | builtin bi=>cases bi with
   | len=>
    obtain ⟨al⟩:=as;obtain ⟨tl⟩:=ts;simp only [ko] at hq;split at hq
    ·rename_i x t
     split at hq
     ·rename_i s ht hx
      exact ⟨_,_,_,hq,fun S' h _ _ {R'} k'=>by simp only [ev,ht,cP h hx];rfl⟩
     ·rename_i t1 l ht hx
      obtain ⟨t0,xs,hk,hg⟩:=wz hq;refine ⟨_,_,_,hk,fun S' h _ _ {R'} k'=>?_⟩;simp only [ev,ht,cP h hx];rw [hg h];rfl
     ·cases hq
    ·cases hq
   | min=>
    obtain ⟨al⟩:=as;simp only [ko] at hq;split at hq
    ·split at hq
     ·rename_i hx hy
      exact ⟨_,_,_,hq,fun S' h _ _ {R'} k'=>by simp only [ev,cP h hx,cP h hy];rfl⟩
     ·cases hq
    ·cases hq
   | max=>
    obtain ⟨al⟩:=as;simp only [ko] at hq;split at hq
    ·split at hq
     ·rename_i hx hy
      exact ⟨_,_,_,hq,fun S' h _ _ {R'} k'=>by simp only [ev,cP h hx,cP h hy];rfl⟩
     ·cases hq
    ·cases hq
   | append=>
    obtain ⟨al⟩:=as;obtain ⟨tl⟩:=ts;simp only [ko] at hq;split at hq
    ·rename_i s x t t'
     split at hq
     ·rename_i t1 l m ht hs hx
      obtain ⟨hb,hq⟩:=aw hq;split at hq
      ·rename_i t0
       split at hq
       ·rename_i id
        split at hq
        ·rename_i t2 ys sh ho
         refine lR hq fun S' h {R'} k'=>?_
         simp only [ev,ht,dJ h hs,dJ h hx,hb,cond_true,h.ah _ _ ho]
        ·cases hq
       ·rename_i id lo hi
        split at hq
        ·rename_i t2 ys sh ho
         obtain ⟨hfl,hq⟩:=aw hq
         refine lR hq fun S' h {R'} k'=>?_
         simp only [ev,ht,dJ h hs,dJ h hx,hb,cond_true,h.ah _ _ ho,hfl]
        ·cases hq
       ·rename_i t2 ys
        refine lR hq fun S' h {R'} k'=>?_
        simp only [ev,ht,dJ h hs,dJ h hx,hb,cond_true]
       ·rename_i t2
        refine lR hq fun S' h {R'} k'=>?_
        simp only [ev,ht,dJ h hs,dJ h hx,hb,cond_true]
       ·cases hq
      ·rename_i dK
       split at hq
       ·rename_i t0 xs gq uq
        split at hq
        ·rename_i id
         obtain ⟨Ep,hq⟩:=eS hq;split at hq
         ·rename_i t2 ys sh ho
          refine lR hq fun S' h {R'} k'=>?_
          simp only [ev,ht,dJ h hs,dJ h hx,hb,cond_true,h.ah _ _ uq,h.ah _ _ ho,Ep,cond_false]
         ·cases hq
        ·rename_i id lo hi
         split at hq
         ·rename_i t2 ys sh ho
          obtain ⟨hfl,hq⟩:=aw hq
          refine lR hq fun S' h {R'} k'=>?_
          simp only [ev,ht,dJ h hs,dJ h hx,hb,cond_true,h.ah _ _ uq,h.ah _ _ ho,hfl]
         ·cases hq
        ·rename_i t2 ys
         refine lR hq fun S' h {R'} k'=>?_
         simp only [ev,ht,dJ h hs,dJ h hx,hb,cond_true,h.ah _ _ uq]
        ·rename_i t2
         refine lR hq fun S' h {R'} k'=>?_
         simp only [ev,ht,dJ h hs,dJ h hx,hb,cond_true,h.ah _ _ uq]
        ·cases hq
       ·cases hq
      ·cases hq
     ·cases hq
    ·cases hq
   | _=>exact absurd hq (by simp [ko])
  | value f=>cases f with
   | func f=>
    simp only [ko] at hq;split at hq
    ·rename_i c' hc
     refine JC hq rfl fun S' {R'} k'=>?_
     simp only [ev,hc]
    ·rename_i hc
     split at hq
     ·cases hq
     rename_i hcw;split at hq
     case h_2=>cases hq
     rename_i t hin
     have hev:∀ (S':St C) {R':Type} (k':St C→Option R'),ev X ⟨dst,.call { callee:=.value (.func f),args:=as,argTypes:=ts },ty,pos,dL,gd⟩ S' k'=Ja X t S' as.toList ts.toList ⟨dst,.call { callee:=.value (.func f),args:=as,argTypes:=ts },ty,pos,dL,gd⟩ k':=fun S' {R'} k'=>by
      simp only [ev,hc,hcw,oC,hin]
     generalize (⟨dst,.call { callee:=.value (.func f),args:=as,argTypes:=ts },ty,pos,dL,gd⟩:Oper)=o at hq hev ⊢;generalize as.toList=al at hq hev;generalize ts.toList=tl at hq hev;unfold SU at hq;split at hq
     case h_2=>cases hq
     rename_i s i x T T1 T';split at hq
     case h_2=>cases hq
     rename_i l n id hl0 hi0 hx0;split at hq
     case h_2=>cases hq
     rename_i t1 ys sh ho;have hq':=aw hq;clear hq;obtain ⟨hcc,hq⟩:=hq';split at hq
     ·rename_i t0
      obtain ⟨hn,hq⟩:=aw hq
      refine lR hq fun S' h {R'} k'=>?_
      rw [hev];simp only [Ja,dJ h hl0,cP h hi0,cP h hx0,h.ah _ _ ho,hcc,hn,cond_true]
     ·rename_i dK
      obtain ⟨hne,hq⟩:=eS hq;split at hq
      ·rename_i t0 xs gq uq
       obtain ⟨hn,hq⟩:=aw hq
       refine lR hq fun S' h {R'} k'=>?_
       rw [hev];simp only [Ja,dJ h hl0,cP h hi0,cP h hx0,h.ah _ _ ho,h.ah _ _ uq,hcc,hn,hne,cond_true,cond_false]
      ·cases hq
     ·cases hq
   | tmp t=>
    simp only [ko] at hq;split at hq
    ·rename_i l hl
     obtain ⟨f,pre,post,h1,h2⟩:=Nq hq;split at h1
     ·rename_i c' hc
      refine p9 h1 rfl fun S' h {R'} k'=>?_
      simp only [ev,h.env t _ hl];rw [h2 h];simp only [rq,hc]
     ·cases h1
    ·cases hq
   | _=>exact absurd hq (by simp [ko])
  | invoke x name=>
   simp only [ko] at hq;obtain ⟨t,v,h1,h2⟩:=Mo hq;split at h1
   ·rename_i f hm
    split at h1
    ·rename_i c' hc
     refine p9 h1 rfl fun S' h {R'} k'=>?_
     simp only [ev];rw [h2 h];simp only [hm,rq,hc]
    ·cases h1
   ·cases h1
 | makeFunc fn first captured=>
  simp only [ko] at hq;split at hq
  case h_2=>cases hq
  split at hq
  case h_2=>cases hq
  rename_i vs us hvs AZ
  cases he:(vs++us).isEmpty with
  | true=>
   rw [he] at hq;simp only [cond_true] at hq;obtain ⟨hfz,hq⟩:=eS hq;refine ⟨_,_,_,hq,fun S' h hf _ {R'} k'=>?_⟩;simp only [ev,jW h hvs,jW h AZ,he,cond_true,hfz,cond_false];rfl
  | false=>
   rw [he] at hq;refine ⟨_,_,_,hq,fun S' h hf _ {R'} k'=>?_⟩;have hu:=hf _ (List.mem_singleton.2 rfl);simp only [ev,jW h hvs,jW h AZ,he,cond_false,ij h,lz hu];rfl
 | makeInterface t x=>
  simp only [ko] at hq;split at hq
  case h_3=>cases hq
  case h_1=>
   rename_i ht hv;refine ⟨_,_,_,hq,fun S' h hf _ {R'} k'=>?_⟩;simp only [ev,ht,dJ h hv];rfl
  rename_i tk v hno ht hv;obtain ⟨e,hq⟩:=aw hq;refine ⟨_,_,_,hq,fun S' h hf _ {R'} k'=>?_⟩;have hu:=hf (cg X S ⟨dst,.makeInterface t x,ty,pos,dL,gd⟩) (by simp [dO]);simp only [ev,ht,dJ h hv]
  rcases tk with z | ⟨_ | ⟨_,_⟩,_ | ⟨_,_⟩⟩ | ⟨_,_,_,_⟩<;>rcases v with l | (_ | ⟨_,_⟩) | _ | _ | _ | _ | _
  all_goals first | exact (hno rfl rfl).elim | (simp only [e,cond_true,ij h,lz hu];rfl)
 | lookup t x i ok=>
  simp only [ko] at hq;split at hq
  case h_2=>cases hq
  rename_i m l key hm hx hi;obtain ⟨e,hq⟩:=eS hq;obtain ⟨v,h1,h2⟩:=L6 hq;refine ⟨_,_,_,h1,fun S' h hf _ {R'} k'=>?_⟩;simp only [ev,hm,cP h hx,cP h hi,e,cond_false];rw [h2 h];rfl
 | _=>exact absurd hq (by simp [ko])
end
end Go.Proofs.Ytipemmgoipbojaa.Ab
