/- Part 2 of the proof: an abstract machine proved sound over the model, the functions that it reckons, the plain law. Names made short by a program. No conditions. -/
import Derived.Test.YtipemmgoipbojaaP1
import Derived.ChangeMaps5
import Derived.LoopN
import Derived.Orders
set_option linter.unusedVariables false
set_option linter.unusedSimpArgs false
set_option linter.unusedSectionVars false
noncomputable section
namespace Go.Proofs.Ytipemmgoipbojaa.Ab
open Go Go.RowKit
section
variable {Ty:Type} [DecidableEq Ty] {C:Ty→Type}
variable {P:Program} {X:Cx C} {w0 w:World} {nt:Nat} {S:St C} {β:Nat→Value} {fp:Nat→Nat→Prop} {a:Act} {R:Type} {k:St C→Option R} {r:R}
variable {dst:Option Tmp} {ty:TypeId} {pos:String} {dG:Array Edge} {gd:Option (Nat×Bool)} {Q:Exit→Act→World→Prop}
theorem Oy (hX:jk P X) (hs:cK X.K w0 nt S β fp a w) (hd:slot dst nt) {as:Array Operand} {ts:Array TypeId} (h:ev X ⟨dst,.call { callee:=.builtin .append,args:=as,argTypes:=ts },ty,pos,dG,gd⟩ S k=some r):Goal P X w0 nt k r Q ⟨dst,.call { callee:=.builtin .append,args:=as,argTypes:=ts },ty,pos,dG,gd⟩ a w:=by
 obtain ⟨al⟩:=as;obtain ⟨tl⟩:=ts;simp only [ev] at h;split at h
 ·rename_i s x t t'
  split at h
  ·rename_i t1 l m ht hl hm
   obtain ⟨he,h⟩:=az h;have he:=Nat.eq_of_beq_eq_true he;simp only [List.headD_cons] at he;subst he;have hl:=fG (dH hs hl);have hm:=fG (dH hs hm)
   have fin:∀ {t0 Hy:Ty} {xs:List (C t0)} {ys:List (C Hy)} {dF iU:Option Nat} {gA oo:Bool},
     pD none X ⟨dst,.call { callee:=.builtin .append,args:=⟨[s,x]⟩,argTypes:=⟨[t,t]⟩ },ty,pos,dG,gd⟩ S t1 t0 Hy xs ys dF iU (gA||oo) k=some r→(∀ i,dF=some i→iU≠some i) →
     (∃ cs,w.ownsRow w0.heap.size (X.K.tid t0) (X.K.sz t0) (a.eval s) xs.length cs∧(∀ g,(a.eval s).ownBlock=some g→iM fp dF g)∧kW X.K w w0.heap.size (aH S.aj fp w) (iM fp dF) t0 xs (a.eval s).ownBlock (fun m=>cs.getD m undef) gA) →
     (∀ i,dF=some i→∃ ob,lk S.aj i=some ob)→(∀ i,iU=some i→∃ ob,lk S.aj i=some ob) →
     Handed X.K w w0.heap.size (aH S.aj fp w) (iM fp iU) Hy ys (a.eval x) oo→(∀ i g,iU=some i→(a.eval x).ownBlock=some g→fp i g) →
     Goal P X w0 nt k r Q ⟨dst,.call { callee:=.builtin .append,args:=⟨[s,x]⟩,argTypes:=⟨[t,t]⟩ },ty,pos,dG,gd⟩ a w:=by
    intro t0 Hy xs ys dF iU gA oo ha hne hb h0 h1 hh J3;obtain ⟨v',w',hr,hn⟩:=Vn (P:=P) hX hs hd (o:=⟨dst,.call { callee:=.builtin .append,args:=⟨[s,x]⟩,argTypes:=⟨[t,t]⟩ },ty,pos,dG,gd⟩) rfl ht ha hne hb h0 h1 hh J3 (ty:=ty);refine bu (v:=v') (w':=w') ?_ hn;simp only [execOp,resolve,Sem.run_bind,Sem.run_pure,Result.andThen_ok,invoke,builtin,List.map_toArray,List.map_cons,List.map_nil];rw [hr];rfl
   have xI:∀ {t0:Ty},l = .nil t0→∃ cs,w.ownsRow w0.heap.size (X.K.tid t0) (X.K.sz t0) (a.eval s) ([]:List (C t0)).length cs∧(∀ g,(a.eval s).ownBlock=some g→iM fp none g)∧kW X.K w w0.heap.size (aH S.aj fp w) (iM fp none) t0 [] (a.eval s).ownBlock (fun m=>cs.getD m undef) false:=by
    intro t0 e;subst e;have e:a.eval s = .slice none 0 0:=hl;rw [e];exact ⟨[],World.ownsRow_nil ..,fun g hg=>by simp [Value.ownBlock] at hg,qc⟩
   have T0:∀ {dF:Nat} {t0:Ty} {xs:List (C t0)} {gA:Bool},l = .ref dF []→lk S.aj dF=some (.row t0 xs gA)→∃ cs,w.ownsRow w0.heap.size (X.K.tid t0) (X.K.sz t0) (a.eval s) xs.length cs∧(∀ g,(a.eval s).ownBlock=some g→iM fp (some dF) g)∧kW X.K w w0.heap.size (aH S.aj fp w) (iM fp (some dF)) t0 xs (a.eval s).ownBlock (fun m=>cs.getD m undef) gA:=by
    intro dF t0 xs gA e ho;subst e;rw [hl.2];exact oP (hs.aj dF _ ho)
   have refH:∀ {iU:Nat} {t0:Ty} {xs:List (C t0)} {gA:Bool},m = .ref iU []→lk S.aj iU=some (.row t0 xs gA)→Handed X.K w w0.heap.size (aH S.aj fp w) (iM fp (some iU)) t0 xs (a.eval x) gA:=by
    intro dF t0 xs gA e ho;subst e;rw [hm.2];exact ua (hs.aj dF _ ho)
   have rowH:∀ {t0:Ty} {xs:List (C t0)},m = .row t0 xs→Handed X.K w w0.heap.size (aH S.aj fp w) (iM fp none) t0 xs (a.eval x) true:=by
    intro t0 xs e;subst e;exact xZ hm
   have nilH:∀ {t0:Ty},m = .nil t0→Handed X.K w w0.heap.size (aH S.aj fp w) (iM fp none) t0 [] (a.eval x) false:=by
    intro t0 e;subst e;have e:a.eval x = .slice none 0 0:=hm;rw [e];exact ya
   have one:∀ {i:Nat} {ob:Ob C},lk S.aj i=some ob→∀ j,some i=some j→∃ ob,lk S.aj j=some ob:=fun h j e=>by cases e;exact ⟨_,h⟩
   have Tl:∀ j,(none:Option Nat)=some j→∃ ob,lk S.aj j=some ob:=fun j e=>by cases e
   have Mc:∀ i g,(none:Option Nat)=some i→(a.eval x).ownBlock=some g→fp i g:=fun i g e=>by cases e
   have refV:∀ {iU:Nat} {t0:Ty} {xs:List (C t0)} {gA:Bool},m = .ref iU []→lk S.aj iU=some (.row t0 xs gA)→∀ i g,some iU=some i→(a.eval x).ownBlock=some g→fp i g:=by
    intro dF t0 xs gA e ho i g e' hg;cases e';subst e;rw [hm.2] at hg;obtain ⟨_,_,h2,_⟩:=oP (hs.aj dF _ ho);exact h2 g hg
   have subH:∀ {id lo hi:Nat} {t0:Ty} {xs:List (C t0)} {gA:Bool},m = .sub id lo hi→lk S.aj id=some (.row t0 xs gA)→X.K.flat t0=true→Handed X.K w w0.heap.size (aH S.aj fp w) (iM fp none) t0 ((xs.take hi).drop lo) (a.eval x) false:=by
    intro id lo hi t0 xs gA e ho hf;subst e;obtain ⟨F,hr⟩:=Cn (hs.aj id _ ho);exact Fs hf (rK hr (hm.2 t0 xs gA ho))
   split at h
   ·rename_i t0
    split at h
    ·rename_i id
     split at h
     ·rename_i Hy ys sh ho
      exact fin (gA:=false) (oo:=sh) (by simpa using h) (fun i e=>by cases e) (xI rfl) Tl (one ho) (refH rfl ho) (refV rfl ho)
     ·cases h
    ·rename_i id lo hi
     split at h
     ·rename_i Hy ys sh ho
      obtain ⟨hf,h⟩:=az h;exact fin (gA:=false) (oo:=false) (by simpa using h) (fun i e=>by cases e) (xI rfl) Tl Tl (subH rfl ho hf) Mc
     ·cases h
    ·exact fin (gA:=false) (oo:=true) (by simpa using h) (fun i e=>by cases e) (xI rfl) Tl Tl (rowH rfl) Mc
    ·exact fin (gA:=false) (oo:=false) (by simpa using h) (fun i e=>by cases e) (xI rfl) Tl Tl (nilH rfl) Mc
    ·cases h
   ·rename_i dF
    split at h
    ·rename_i t0 xs gA v8
     split at h
     ·rename_i id
      obtain ⟨hne,h⟩:=eQ h;split at h
      ·rename_i Hy ys sh ho
       refine fin (gA:=gA) (oo:=sh) h (fun i e e'=>?_) (T0 rfl v8) (one v8) (one ho) (refH rfl ho) (refV rfl ho);cases e;cases e';simp [Nat.beq_refl] at hne
      ·cases h
     ·rename_i id lo hi
      split at h
      ·rename_i Hy ys sh ho
       obtain ⟨hf,h⟩:=az h;exact fin (gA:=gA) (oo:=false) (by simpa using h) (fun i e=>by simp) (T0 rfl v8) (one v8) Tl (subH rfl ho hf) Mc
      ·cases h
     ·exact fin (gA:=gA) (oo:=true) (by simpa using h) (fun i e=>by simp) (T0 rfl v8) (one v8) Tl (rowH rfl) Mc
     ·exact fin (gA:=gA) (oo:=false) (by simpa using h) (fun i e=>by simp) (T0 rfl v8) (one v8) Tl (nilH rfl) Mc
     ·cases h
    ·cases h
   ·cases h
  ·cases h
 ·cases h
theorem zQ {id:Nat}:∀ (E:List (Nat×SV C)) t v,lk (jr id E) t=some v→lk E t=some v∧yn id v=false:=by
 intro E
 induction E with
 | nil=>intro t v h;simp [jr,lk] at h
 | cons y r ih=>
  intro t v h;obtain ⟨n,u⟩:=y;simp only [jr] at h
  cases hd:yn id u with
  | true=>
   rw [hd,cond_true] at h;rw [lM] at h;split at h
   ·cases h
   ·rename_i e
    rw [aQ,if_neg e];exact ih t v h
  | false=>
   rw [hd,cond_false,aQ] at h;rw [aQ];split at h
   ·rename_i e;rw [if_pos e];cases h;exact ⟨rfl,hd⟩
   ·rename_i e;rw [if_neg e];exact ih t v h
theorem FK {id:Nat} {O:cm C} (h:O.any (fun x=>Bf id x.2)=false) {j:Nat} {kd0:VT} {Dz:List (Lf C)} (hj:lk O j=some (.box kd0 Dz)):Dz.any (lR id)=false:=by
 induction O with
 | nil=>simp [lk] at hj
 | cons y r ih=>
  obtain ⟨n,u⟩:=y;rw [aQ] at hj;simp only [List.any_cons,Bool.or_eq_false_iff] at h;split at hj
  ·cases hj;exact h.1
  ·exact ih h.2 hj
theorem xD {α:Type} (xs ys:List α):(ys.take xs.length++xs.drop ys.length).length=xs.length:=by
 simp only [List.length_append,List.length_take,List.length_drop];omega
theorem O4 {α:Type} {xs ys:List α} {j:Nat} (hj:j<xs.length):(ys.take xs.length++xs.drop ys.length)[j]?=if j<ys.length then ys[j]? else xs[j]?:=by
 have hl:(ys.take xs.length).length=min xs.length ys.length:=by simp
 by_cases h:j<ys.length
 ·rw [if_pos h,List.getElem?_append_left (by omega),List.getElem?_take,if_pos hj]
 ·rw [if_neg h,List.getElem?_append_right (by omega),List.getElem?_drop]
  congr 1;omega
theorem MU (hX:jk P X) (hs:cK X.K w0 nt S β fp a w) (hd:slot dst nt) {o:Oper} (ho:o.dst=dst) {T T':TypeId} {t t1:Ty} (hT:X.tk T=some (.one (.er t))) {xs:List (C t)} {id:Nat} (fW:lk S.aj id=some (.row t xs false))
  {ys:List (C t1)} {v1:Value} {D:Nat→Prop} {oo:Bool} (hh:Handed X.K w w0.heap.size (aH S.aj fp w) D t1 ys v1 oo) (h:uj X o S t xs id t1 ys k=some r) :
  ∃ v' w',(Builtin.copy_ #[T,T'] ty #[β id,v1]).run P w = .ok v' w'∧Next X.K w0 nt k r (a.put dst v') w':=by
 unfold uj kU at h;split at h
 ·rename_i Ti hy
  split at hy
  ·rename_i e _
   have e2:=e.symm;subst e2;cases hy;obtain ⟨hf,h⟩:=az h;obtain ⟨Fm,h⟩:=eQ h;obtain ⟨i,z,hi,hsz,hby,hpos,hz,hzs,Tn⟩:=hX.el t;have hO:=hs.aj id _ fW;obtain ⟨gP,hown0,US⟩:=xG hO;obtain ⟨A,c,f,rfl,hA,hel⟩:=hh;have hoc:=rh hel;obtain ⟨A0,c0,e0,hA0⟩:=gq hown0;have hu:=(hX.tk _ _ hT).er
   have hold:∀ (j:Nat) (hj:j<xs.length) (i:Nat) (l:Lf C),(X.K.enc t xs[j])[i]?=some l→∃ F,gU X.K w F l (gP.getD (j*X.K.sz t+i) undef):=fun j hj i l hl=>by
    cases hO with
    | row _ _ _ _ cells G q0 q1 q2 q3 q4=>
     have hc:cells=gP:=mm q0 hown0;subst hc;exact ⟨_,(q4 j hj i l hl).rep⟩
   have hnew:∀ (j:Nat) (hj:j<ys.length) (i:Nat) (l:Lf C),(X.K.enc t ys[j])[i]?=some l→∃ F,gU X.K w F l (f (j*X.K.sz t+i)):=fun j hj i l hl=>by
    obtain ⟨G,_,_,q⟩:=hel;exact ⟨_,(q j ys[j] (by simp [hj]) i l hl).2⟩
   have fin:∀ (w':World) (rj:List Value),w'.ownsRow w0.heap.size (X.K.tid t) (X.K.sz t) (β id) xs.length rj→Below w0.heap.size w w'→(∀ k,¬ fp id k→w'.heap[k]?=w.heap[k]?) →
     (∀ j i,j<xs.length→i<X.K.sz t→rj.getD (j*X.K.sz t+i) undef=if j<ys.length then f (j*X.K.sz t+i) else gP.getD (j*X.K.sz t+i) undef) →
     Next X.K w0 nt k r (a.put dst (goInt (Nat.min ys.length xs.length))) w':=by
    intro w' rj hown' hw hb hcell
    have ga:cK X.K w0 nt ({ S.setObj id (.row t (ys.take xs.length++xs.drop ys.length) false) with env:=jr id S.env }:St C) β (upd fp id (fp id)) a w':=by
     refine hs.vI (O1:=S.aj) (fun _ _ h=>h) fW (xD xs ys) (F':=fp id) (fun k hk=>.inl hk) hw hb ?_ (fun j kd ls hj=>FK Fm hj) (zQ S.env) S.base;refine .row _ t _ _ _ (fun _ _ _=>False) (by rw [xD];exact hown') US (fun j o k hk=>hk.elim) (fun j o j' o' k hk=>hk.elim) (fun j hj i l hl=>?_)
     have J5:j<xs.length:=by rw [xD] at hj;exact hj
     have eN:=iH hl;rw [hcell j i J5 eN];have hz:=O4 (xs:=xs) (ys:=ys) J5;rw [List.getElem?_eq_getElem hj] at hz
     by_cases hlt:j<ys.length
     ·rw [if_pos hlt] at hz ⊢
      rw [List.getElem?_eq_getElem hlt] at hz;have ZS:=Option.some.inj hz;rw [ZS] at hl;obtain ⟨F,hr⟩:=hnew j hlt i l hl;exact mW hf hl hr
     ·rw [if_neg hlt] at hz ⊢
      rw [List.getElem?_eq_getElem J5] at hz;have ZS:=Option.some.inj hz;rw [ZS] at hl;obtain ⟨F,hr⟩:=hold j J5 i l hl;exact mW hf hl hr
    subst ho;exact bw ga hd (v:=.one (.int .i64 (Nat.min ys.length xs.length:Nat))) (show goInt _=_ from rfl) h
   rcases Nat.eq_zero_or_pos (Nat.min ys.length xs.length) with h0 | h0
   ·refine ⟨goInt (Nat.min ys.length xs.length),w,?_,fin w gP hown0 (Below.refl _ _) (fun _ _=>rfl) (fun j i hj hi=>?_)⟩
    ·rw [e0,h0]
     have h0':Nat.min ys.length xs.length=0:=h0
     have hfc0:(Builtin.firstCells (X.K.sz t) 0 (.slice A ys.length c)).run P w = .ok #[] w:=by
      cases A with
      | none=>exact run_firstCells_none (P:=P) w _ _ _ _
      | some p=>exact run_firstCells_some (P:=P) w _ 0 p _ _ [] (by simp) (fun j v h=>by simp at h)
     cases A0<;>simp [Builtin.copy_,run_underlying hu,sizeOf,typeInfo,hi,hsz,Builtin.lenOf,h0',hfc0,storeCells,Sem.run_bind]
    ·rw [if_neg]
     intro hlt;have:Nat.min ys.length xs.length=min ys.length xs.length:=rfl;omega
   ·have hmin:Nat.min ys.length xs.length=min ys.length xs.length:=rfl
    have hx0:0<xs.length:=by omega
    have hy0:0<ys.length:=by omega
    obtain ⟨g,rfl⟩:=hA0 hx0;obtain ⟨p,rfl,hcp⟩:=hA hy0;have Fg:=hown0;rw [e0] at Fg;have hmul:min ys.length xs.length*X.K.sz t≤xs.length*X.K.sz t:=Nat.mul_le_mul_right _ (Nat.min_le_right _ _);have hmul2:min ys.length xs.length*X.K.sz t≤ys.length*X.K.sz t:=Nat.mul_le_mul_right _ (Nat.min_le_left _ _)
    have hfc:=run_firstCells_some (P:=P) w (X.K.sz t) (min ys.length xs.length) p ys.length c ((List.range (min ys.length xs.length*X.K.sz t)).map f) (by simp) (fun j v hv=>by
     simp only [List.getElem?_map,Option.map_eq_some_iff] at hv;obtain ⟨j',hj,rfl⟩:=hv;have hlt:=ee hj;simp only [List.length_range] at hlt
     have:j'=j:=by simp [hlt] at hj;exact hj.symm
     subst this
     exact hcp _ (by omega))
    obtain ⟨kr,hrun,hown'⟩:=jT (P:=P) Fg (m:=0) (vs:=(List.range (min ys.length xs.length*X.K.sz t)).map f) (by simp;omega) (fun v hv=>by
     obtain ⟨j,hj,rfl⟩:=List.mem_map.1 hv;rw [List.mem_range] at hj
     exact hoc j (by omega))
    have hFg:fp id g:=US g (by rw [e0];rfl);refine ⟨goInt (Nat.min ys.length xs.length),w.setRow g kr,?_,fin _ _ (by rw [e0];exact hown') (iy g kr (hs.fresh id _ g fW hFg).1) (fun k hk=>setRow_other w g k kr fun e=>hk (by rw [e];exact hFg)) (fun j i hj hi=>?_)⟩
    ·rw [e0]
     simp only [Builtin.copy_,List.getElem?_toArray,List.getElem?_cons_zero,List.getElem?_cons_succ,Sem.run_bind,Result.andThen_ok,Sem.run_pure,run_underlying hu,sizeOf,typeInfo,hi,Builtin.lenOf,hsz];simp [hmin,hsz,hi,hfc,hrun,Sem.run_bind]
    ·have hcl:0+((List.range (min ys.length xs.length*X.K.sz t)).map f).length≤gP.length:=by rw [hown0.1];simp;omega
     have hidx:j*X.K.sz t+i<min ys.length xs.length*X.K.sz t↔j<ys.length:=by
      constructor
      ·intro hlt
       have h1:j*X.K.sz t<min ys.length xs.length*X.K.sz t:=by omega
       have:=Nat.lt_of_mul_lt_mul_right h1;omega
      ·intro hlt
       have:(j+1)*X.K.sz t≤min ys.length xs.length*X.K.sz t:=Nat.mul_le_mul_right _ (by omega);rw [Nat.succ_mul] at this;omega
     rw [List.getD_eq_getElem?_getD,fZ hcl]
     by_cases hlt:j<ys.length
     ·have Io:=hidx.2 hlt
      rw [if_neg (by omega),if_pos (by simpa using Io),if_pos hlt];simp [Io]
     ·have Io:¬ j*X.K.sz t+i<min ys.length xs.length*X.K.sz t:=fun hc=>hlt (hidx.1 hc)
      rw [if_neg (by omega),if_neg (by simpa using Io),if_neg hlt,← List.getD_eq_getElem?_getD]
  ·cases hy
 ·cases h
theorem YK (hX:jk P X) (hs:cK X.K w0 nt S β fp a w) (hd:slot dst nt) {as:Array Operand} {ts:Array TypeId} (h:ev X ⟨dst,.call { callee:=.builtin .copy,args:=as,argTypes:=ts },ty,pos,dG,gd⟩ S k=some r):Goal P X w0 nt k r Q ⟨dst,.call { callee:=.builtin .copy,args:=as,argTypes:=ts },ty,pos,dG,gd⟩ a w:=by
 obtain ⟨al⟩:=as;obtain ⟨tl⟩:=ts;simp only [ev] at h;split at h
 ·rename_i s x t t'
  split at h
  ·rename_i t1 l m ht hl hm
   have hl:=fG (dH hs hl);have hm:=fG (dH hs hm);unfold copyV at h;split at h
   ·rename_i id _
    split at h
    ·rename_i t0 Hn ho
     unfold kU at h;split at h
     ·rename_i xs hx
      split at hx
      ·rename_i e _
       have e2:=e.symm;subst e2;cases hx
       have fin:∀ {Hy:Ty} {ys:List (C Hy)} {D:Nat→Prop} {oo:Bool},uj X ⟨dst,.call { callee:=.builtin .copy,args:=⟨[s,x]⟩,argTypes:=⟨[t,t']⟩ },ty,pos,dG,gd⟩ S t1 Hn id Hy ys k=some r →
         Handed X.K w w0.heap.size (aH S.aj fp w) D Hy ys (a.eval x) oo→Goal P X w0 nt k r Q ⟨dst,.call { callee:=.builtin .copy,args:=⟨[s,x]⟩,argTypes:=⟨[t,t']⟩ },ty,pos,dG,gd⟩ a w:=by
        intro Hy ys D oo hc hh;obtain ⟨v',w',hr,hn⟩:=MU (P:=P) (T':=t') (ty:=ty) hX hs hd (o:=⟨dst,.call { callee:=.builtin .copy,args:=⟨[s,x]⟩,argTypes:=⟨[t,t']⟩ },ty,pos,dG,gd⟩) rfl ht ho hh hc;refine bu (v:=v') (w':=w') ?_ hn;have hle:a.eval s=β id:=hl.2;rw [←hle] at hr;simp only [execOp,resolve,Sem.run_bind,Sem.run_pure,Result.andThen_ok,invoke,builtin,List.map_toArray,List.map_cons,List.map_nil];rw [hr];rfl
       split at h
       ·exact fin h (xZ hm)
       ·rename_i t2
        have e:a.eval x = .slice none 0 0:=hm;refine fin (D:=fun _=>False) (oo:=false) h ?_;rw [e];exact ya
       ·rename_i i2 _
        split at h
        ·rename_i t2 ys sh ho2
         refine fin (D:=fp i2) (oo:=sh) h ?_;rw [hm.2];exact ua (hs.aj i2 _ ho2)
        ·cases h
       ·cases h
      ·cases hx
     ·cases h
    ·cases h
   ·cases h
  ·cases h
 ·cases h
theorem TQ (hX:jk P X) (hs:cK X.K w0 nt S β fp a w) {as:Array Operand} {ts:Array TypeId} (h:ev X ⟨dst,.call { callee:=.builtin .clear,args:=as,argTypes:=ts },ty,pos,dG,gd⟩ S k=some r):Goal P X w0 nt k r Q ⟨dst,.call { callee:=.builtin .clear,args:=as,argTypes:=ts },ty,pos,dG,gd⟩ a w:=by
 obtain ⟨al⟩:=as;obtain ⟨tl⟩:=ts;simp only [ev] at h;split at h
 case h_2=>cases h
 rename_i x T;split at h
 case h_2=>cases h
 rename_i t1 l hT hx;unfold clrV at h;split at h
 case h_2=>cases h
 rename_i id lo hi;split at h
 case h_2=>cases h
 rename_i t xs fW;obtain ⟨hc,hB⟩:=az h;obtain ⟨Fm,hC⟩:=eQ hB;clear h hB;have h:=hC;clear hC;simp only [Bool.and_eq_true,decide_eq_true_eq] at hc;obtain ⟨e,hf⟩:=hc;subst e;have hxv:cI X.K w S.aj β fp (aH S.aj fp w) (.sub id lo hi) (a.eval x):=fG (bV hs hx);obtain ⟨h1,h2,A0,c0,B0,e0,hc0,ev0,hB0⟩:=hxv.2 t xs false fW;obtain ⟨i,z,eN,hsz,hby,hpos,hz,hzs,Tn⟩:=hX.el t;have hO:=hs.aj id _ fW;obtain ⟨gP,hown0,US⟩:=xG hO;have hu:=(hX.tk _ _ hT).er
 have hold:∀ (j:Nat) (hj:j<xs.length) (i:Nat) (l:Lf C),(X.K.enc t xs[j])[i]?=some l→∃ F,gU X.K w F l (gP.getD (j*X.K.sz t+i) undef):=fun j hj i l hl=>by
  cases hO with
  | row _ _ _ _ cells G q0 q1 q2 q3 q4=>
   have hc:cells=gP:=mm q0 hown0;subst hc;exact ⟨_,(q4 j hj i l hl).rep⟩
 have hlen:(xs.take lo++List.replicate (hi-lo) (X.K.zero t)++xs.drop hi).length=xs.length:=by simp;omega
 have o8:∀ j,j<xs.length→(xs.take lo++List.replicate (hi-lo) (X.K.zero t)++xs.drop hi)[j]?=if j<lo then xs[j]? else if j<hi then some (X.K.zero t) else xs[j]?:=fun j hj=>by
  have hl:(xs.take lo).length=lo:=by simp;omega
  by_cases q1:j<lo
  ·rw [if_pos q1,List.append_assoc,List.getElem?_append_left (by omega),List.getElem?_take,if_pos q1]
  ·rw [if_neg q1]
   by_cases q2:j<hi
   ·rw [if_pos q2,List.getElem?_append_left (by simp;omega),List.getElem?_append_right (by omega),List.getElem?_replicate,if_pos (by omega)]
   ·rw [if_neg q2,List.getElem?_append_right (by simp;omega),List.getElem?_drop]
    congr 1;simp;omega
 have fin:∀ (w':World) (rj:List Value),w'.ownsRow w0.heap.size (X.K.tid t) (X.K.sz t) (β id) xs.length rj→Below w0.heap.size w w'→(∀ k,¬ fp id k→w'.heap[k]?=w.heap[k]?) →
   (∀ j i,j<xs.length→i<X.K.sz t→rj.getD (j*X.K.sz t+i) undef=if lo≤j∧j<hi then z.cells.getD i undef else gP.getD (j*X.K.sz t+i) undef) →
   Next X.K w0 nt k r (a.put dst (.tuple #[])) w':=by
  intro w' rj hown' hw hb hcell
  have ga:cK X.K w0 nt ({ S.setObj id (.row t (xs.take lo++List.replicate (hi-lo) (X.K.zero t)++xs.drop hi) false) with env:=jr id S.env }:St C) β (upd fp id (fp id)) a w':=by
   refine hs.vI (O1:=S.aj) (fun _ _ h=>h) fW hlen (F':=fp id) (fun k hk=>.inl hk) hw hb ?_ (fun j kd ls hj=>FK Fm hj) (zQ S.env) S.base;refine .row _ t _ _ _ (fun _ _ _=>False) (by rw [hlen];exact hown') US (fun j o k hk=>hk.elim) (fun j o j' o' k hk=>hk.elim) (fun j hj i l hl=>?_)
   have J5:j<xs.length:=by rw [hlen] at hj;exact hj
   have eN:=iH hl;rw [hcell j i J5 eN];have hz:=o8 j J5;rw [List.getElem?_eq_getElem hj] at hz
   by_cases hlt:lo≤j∧j<hi
   ·rw [if_pos hlt]
    rw [if_neg (by omega),if_pos hlt.2] at hz;have ZS:=Option.some.inj hz;rw [ZS] at hl;exact Tn i l hl _ _ _
   ·rw [if_neg hlt]
    have hz':xs[j]?=some (xs.take lo++List.replicate (hi-lo) (X.K.zero t)++xs.drop hi)[j]:=by
     rw [hz]
     by_cases q1:j<lo
     ·rw [if_pos q1]
     ·rw [if_neg q1,if_neg (by omega)]
    rw [List.getElem?_eq_getElem J5] at hz';have ZS:=Option.some.inj hz';rw [←ZS] at hl;obtain ⟨F,hr⟩:=hold j J5 i l hl;exact mW hf hl hr
  exact ⟨_,⟨_,_,ga.drop dst _⟩,h⟩
 have WS:∀ (w':World),(Builtin.clear_ #[T] ty #[a.eval x]).run P w = .ok (.tuple #[]) w'→Next X.K w0 nt k r (a.put dst (.tuple #[])) w'→Goal P X w0 nt k r Q ⟨dst,.call { callee:=.builtin .clear,args:=⟨[x]⟩,argTypes:=⟨[T]⟩ },ty,pos,dG,gd⟩ a w:=fun w' hr hn=>by
  refine bu (v:=.tuple #[]) (w':=w') ?_ hn;simp only [execOp,resolve,Sem.run_bind,Sem.run_pure,Result.andThen_ok,invoke,builtin,List.map_toArray,List.map_cons,List.map_nil];rw [hr];rfl
 by_cases hn:hi-lo=0
 ·refine WS w ?_ (fin w gP hown0 (Below.refl _ _) (fun _ _=>rfl) (fun j i hj hi=>by rw [if_neg (by omega)]))
  rw [ev0,hn];cases B0<;>simp [Builtin.clear_,run_underlying hu]
 ·obtain ⟨A,c,e1,hA⟩:=gq hown0
  rw [e0] at e1;cases e1;obtain ⟨g,rfl⟩:=hA (by omega);have Fg:=hown0;rw [e0] at Fg;have hsub:(hi-lo)*X.K.sz t=hi*X.K.sz t-lo*X.K.sz t:=Nat.sub_mul _ _ _;have hle1:lo*X.K.sz t≤hi*X.K.sz t:=Nat.mul_le_mul_right _ h1;have hle2:hi*X.K.sz t≤xs.length*X.K.sz t:=Nat.mul_le_mul_right _ h2
  have MH:(madeCells z.cells ((hi-lo)*X.K.sz t)).toList.length=(hi-lo)*X.K.sz t:=by simp [madeCells]
  have hmc:∀ j i',j<hi-lo→i'<X.K.sz t→(madeCells z.cells ((hi-lo)*X.K.sz t)).toList.getD (j*X.K.sz t+i') undef=z.cells.getD i' undef:=fun j i' hj eN=>by
   have hm:j*X.K.sz t+i'<(hi-lo)*X.K.sz t:=iw hj eN
   have hmod:(j*X.K.sz t+i') % X.K.sz t=i':=by rw [Nat.add_comm,Nat.add_mul_mod_self_right,Nat.mod_eq_of_lt eN]
   simp [madeCells,List.getD,hm,hzs,hmod,getElem!_def,Array.getD_eq_getD_getElem?,eN]
  have hone:∀ v∈(madeCells z.cells ((hi-lo)*X.K.sz t)).toList,v.oneCell'=true:=fun v hv=>by
   obtain ⟨m,hm,rfl⟩:=List.getElem_of_mem hv;rw [MH] at hm;have hp:=X.K.pos t;have hj:m / X.K.sz t<hi-lo:=Nat.div_lt_of_lt_mul (by rw [Nat.mul_comm];exact hm);have hi1:m % X.K.sz t<X.K.sz t:=Nat.mod_lt _ hp;have h3:=hmc (m / X.K.sz t) (m % X.K.sz t) hj hi1;rw [show m / X.K.sz t*X.K.sz t+m % X.K.sz t=m by rw [Nat.mul_comm];exact Nat.div_add_mod ..] at h3
   have hi2:m % X.K.sz t<(X.K.enc t (X.K.zero t)).length:=by rw [X.K.gH];exact hi1
   have h4:=(Tn (m % X.K.sz t) (X.K.enc t (X.K.zero t))[m % X.K.sz t] (by simp [hi2]) w w0.heap.size (fun _=>False)).one;rw [←h3,List.getD_eq_getElem?_getD,List.getElem?_eq_getElem (by rw [MH];exact hm)] at h4;exact h4
  obtain ⟨kr,hrun,hown'⟩:=jT (P:=P) Fg (m:=lo*X.K.sz t) (vs:=(madeCells z.cells ((hi-lo)*X.K.sz t)).toList) (by rw [MH];omega) hone;have hFg:fp id g:=US g (by rw [e0];rfl);refine WS (w.setRow g kr) ?_ (fin _ _ (by rw [e0];exact hown') (iy g kr (hs.fresh id _ g fW hFg).1) (fun k hk=>setRow_other w g k kr fun e=>hk (by rw [e];exact hFg)) (fun j i hj hi9=>?_))
  ·rw [hB0 (by omega)] at ev0
   have hzr:(zeroValue (X.K.tid t)).run P w = .ok z w:=by simp [zeroValue,typeInfo,eN,hz]
   obtain ⟨m,hm⟩:∃ m,hi-lo=m+1:=⟨hi-lo-1,by omega⟩
   have hzc:(Builtin.zeroCells z.cells (m+1)).toList=(madeCells z.cells ((hi-lo)*X.K.sz t)).toList:=by
    rw [hm,← hzs];rfl
   rw [ev0,hm];simp only [Option.map_some,iq,Nat.zero_add];simp only [Builtin.clear_,List.getElem?_toArray,List.getElem?_cons_zero,Sem.run_bind,run_underlying hu,Result.andThen_ok,hzr,hzc,hrun,Sem.run_pure]
  ·have hcl:lo*X.K.sz t+(madeCells z.cells ((hi-lo)*X.K.sz t)).toList.length≤gP.length:=by rw [MH,hown0.1];omega
   rw [List.getD_eq_getElem?_getD,fZ hcl,MH]
   by_cases q1:j<lo
   ·have:=iw q1 hi9
    rw [if_pos (by omega),if_neg (by omega),← List.getD_eq_getElem?_getD]
   ·have q3:lo*X.K.sz t≤j*X.K.sz t:=Nat.mul_le_mul_right _ (by omega)
    by_cases q2:j<hi
    ·have:=iw q2 hi9
     rw [if_neg (by omega),if_pos (by omega),if_pos ⟨by omega,q2⟩,← List.getD_eq_getElem?_getD,← hmc (j-lo) i (by omega) hi9]
     congr 1;rw [Nat.sub_mul];omega
    ·have q4:hi*X.K.sz t≤j*X.K.sz t:=Nat.mul_le_mul_right _ (by omega)
     rw [if_neg (by omega),if_neg (by omega),if_neg (by omega),← List.getD_eq_getElem?_getD]
theorem L7 {K:Cd C} {base:Nat} {F F':Nat→Prop} {l:Lf C} {v:Value} (h:Own K w base F l v) (hF:∀ k,F k↔F' k):Own K w base F' l v:=by
 have:F=F':=funext fun k=>propext (hF k)
 rw [←this];exact h
theorem Oq (hX:jk P X) (hs:cK X.K w0 nt S β fp a w) (hd:slot dst nt) {t:TypeId} {x:Operand} {lo hi mx:Option Operand} {t1:Ty} {id:Nat} (hm:mx=none) (ht:X.tk t=some (.one (.er t1))) (hx:eu S x=some (.one (.ref id [])))
  (h:Cc X S ⟨dst,.slice t x lo hi mx,ty,pos,dG,gd⟩ t1 id lo hi k=some r):Goal P X w0 nt k r Q ⟨dst,.slice t x lo hi mx,ty,pos,dG,gd⟩ a w:=by
 subst hm;generalize ho:(⟨dst,.slice t x lo hi none,ty,pos,dG,gd⟩:Oper)=o at h ⊢
 have WU:o.dst=dst:=by rw [←ho]
 subst WU;unfold Cc at h;split at h
 case h_2=>cases h
 rename_i t0 xs fW;split at h
 case h_2=>cases h
 rename_i q hq;obtain ⟨e,hC⟩:=az h;obtain ⟨h0,hD⟩:=az hC;obtain ⟨h2,hE⟩:=az hD;clear h hC hD;have e:=of_decide_eq_true e;have h0:=of_decide_eq_true h0;have h2:=of_decide_eq_true h2;subst e;split at hE
 case h_2=>cases hE
 rename_i S' gB;have h:=hE;clear hE;obtain ⟨hn,rfl⟩:=jH gB;have hxv:cI X.K w S.aj β fp (aH S.aj fp w) (.ref id []) (a.eval x):=fG (bV hs hx);have MG:Own X.K w w0.heap.size (fp id) (.row t0 xs) (β id):=hs.aj id _ fW;generalize hv:β id=v at MG
 have rD:a.eval x=v:=by rw [←hv];exact hxv.2
 cases MG with
 | row _ _ _ _ cells G hown hF hG hdj qv=>
 obtain ⟨A,c,ME,hcl,hgc⟩:∃ A c,v = .slice A xs.length c∧xs.length≤c∧(A=none∨∃ g,A=some ⟨g,0,none⟩):=by
  rcases hown.2 with ⟨e,e2⟩ | ⟨g,cap,cur,e,_,_,hcap,_⟩
  ·exact ⟨none,0,by rw [e,e2],by omega,.inl rfl⟩
  ·exact ⟨_,cap,e,hcap,.inr ⟨g,rfl⟩⟩
 have Qh:=m4 (P:=P) hs (isS:=true) (lo:=none) (l:=0) rfl hq (Int.le_refl 0) h0 h2 hcl
 have hA:(if c=0 then A else A.map (·.add (0*X.K.sz t0)))=A:=by
  rcases hgc with e | ⟨g,e⟩
  ·subst e;simp
  ·subst e;simp [Addr.add]
 have hrun:(execOp a.eval o).run P w = .ok (.value (.slice A q.toNat c)) w:=by
  rw [←ho];simp only [execOp,Instr.sliceAt,Sem.run_bind,bn (hX.tk _ _ ht).er,Result.andThen_ok];have hA':=hA;simp only [Nat.zero_mul] at hA';have hbd':=Qh;simp only [Option.map_none,Int.toNat_zero] at hbd';simp [Instr.slice,bn (hX.tk _ _ ht).er,rD,ME,hbd',(hX.el t0).size,hA']
 have hlen:(xs.take q.toNat).length=q.toNat:=by simp;omega
 have hown':w.ownsRow w0.heap.size (X.K.tid t0) (X.K.sz t0) (.slice A q.toNat c) (xs.take q.toNat).length (cells.take (q.toNat*X.K.sz t0)):=by
  have hle:q.toNat*X.K.sz t0≤xs.length*X.K.sz t0:=Nat.mul_le_mul_right _ (by omega);refine ⟨by rw [hlen,List.length_take,hown.1];omega,?_⟩
  rcases hown.2 with ⟨e,e2⟩ | ⟨g,cap,cur,e,hb,hg,hcap,hmx,hsz,hcur⟩
  ·rw [ME] at e
   injection e with e1 e3 e4;subst e1 e4;exact .inl ⟨by rw [show q.toNat=0 by omega],by rw [hlen];omega⟩
  ·rw [ME] at e
   injection e with e1 e3 e4;subst e1 e4;refine .inr ⟨g,c,cur,by rw [hlen],hb,hg,by rw [hlen];omega,hmx,hsz,?_⟩;rw [hlen,← hcur,List.take_take,Nat.min_eq_left hle]
 have hvb:∀ g,(Value.slice A q.toNat c).ownBlock=some g→v.ownBlock=some g:=fun g hg=>by
  rw [ME]
  cases A with
  | none=>cases hg
  | some b=>exact hg
 have hO:∀ j ob,lk (fH S (some id)).aj j=some ob→lk S.aj j=some ob:=fun j ob hj=>(pY hj).1
 have AU:lk (fH S (some id)).aj id=none:=by
  cases e:lk (fH S (some id)).aj id with
  | none=>rfl
  | some ob=>exact absurd rfl (pY e).2
 have h3:=hs.OO hO (Below.refl _ w) (fun k _ _=>rfl) (id:=bP X S o) (by
  have:=hn;unfold fT at this;rw [mZ] at this
  exact this) (ob:=.row t0 (xs.take q.toNat) false) (hv:=.slice A q.toNat c) (F:=fp id) (fun k hk=>.inl ⟨id,_,fW,AU,hk⟩)
  (by
   show Own X.K w w0.heap.size (fp id) (.row t0 (xs.take q.toNat)) (.slice A q.toNat c)
   refine .row _ _ _ _ (cells.take (q.toNat*X.K.sz t0)) (fun j i k=>j<q.toNat∧G j i k) hown' (fun g hg=>hF g (hvb g hg)) (fun j i k hk=>⟨(hG j i k hk.2).1,fun e=>(hG j i k hk.2).2 (hvb k e)⟩) (fun j i j' i' k h1 h2=>hdj j i j' i' k h1.2 h2.2) fun j hj i l hl=>?_
   have iK:j<q.toNat:=by rw [hlen] at hj;exact hj
   have hx':(xs.take q.toNat)[j]=xs[j]'(by omega):=by simp
   rw [hx'] at hl
   have hi:i<X.K.sz t0:=by
    have:=(List.getElem?_eq_some_iff.1 hl).1;rw [X.K.gH] at this;exact this
   have hix:j*X.K.sz t0+i<q.toNat*X.K.sz t0:=by
    have:(j+1)*X.K.sz t0≤q.toNat*X.K.sz t0:=Nat.mul_le_mul_right _ iK;rw [Nat.add_mul] at this;omega
   have hcg:(cells.take (q.toNat*X.K.sz t0)).getD (j*X.K.sz t0+i) undef=cells.getD (j*X.K.sz t0+i) undef:=by
    simp only [List.getD_eq_getElem?_getD,List.getElem?_take,if_pos hix]
   rw [hcg]
   exact L7 (qv j (by omega) i l hl) fun k=>⟨fun hk=>⟨iK,hk⟩,fun hk=>hk.2⟩) (fH S (some id)).base
 have hSe:(⟨S.env,(bP X S o,.row t0 (xs.take q.toNat) false)::(fH S (some id)).aj,(fH S (some id)).base⟩:St C)=(fH S (some id)).setObj (bP X S o) (.row t0 (xs.take q.toNat) false):=by
  unfold St.setObj;rw [mZ]
 rw [hSe] at h3;exact bu hrun (bw h3 hd (v:=.one (.ref (bP X S o) [])) ⟨rfl,(cz _ _ _).symm⟩ h)
end
section
variable {Ty:Type} [DecidableEq Ty] {C:Ty→Type}
variable {P:Program} {X:Cx C} {w0 w:World} {nt:Nat} {S:St C} {β:Nat→Value} {fp:Nat→Nat→Prop} {a:Act} {R:Type} {k:St C→Option R} {r:R}
variable {dst:Option Tmp} {ty:TypeId} {pos:String} {dG:Array Edge} {gd:Option (Nat×Bool)} {Q:Exit→Act→World→Prop}
theorem AY (off:Nat):∀ (vs:List Value) (n:Nat) (cs:Array Value),(vs.zipIdx n).foldl (fun cs (x:Value×Nat)=>cs.setIfInBounds (off+x.2) x.1) cs=⟨setAt cs.toList (off+n) vs⟩
 | [],n,cs=>by simp [setAt]
 | v::vs,n,cs=>by
  simp only [List.zipIdx_cons,List.foldl_cons];rw [AY off vs (n+1)];simp [setAt,Nat.add_assoc]
theorem FB {place:Nat→Option (Nat×Nat)} {cs:Array Value} {i off n:Nat} {v:Value} {rest:List (Nat×Value)} (hp:place i=some (off,n)) (hn:v.cells.size=n) (hf:off+n≤cs.size) :
  Instr.fill place cs ((i,v)::rest)=Instr.fill place ⟨setAt cs.toList off v.cells.toList⟩ rest:=by
 have h1:¬ (v.cells.size≠n||off+v.cells.size>cs.size)=true:=by simp [hn];omega
 simp only [Instr.fill,hp];rw [if_neg (by simpa using h1)]
 congr 1
 have:=AY off v.cells.toList 0 cs;rw [←Array.foldl_toList]
 simpa using this
theorem xw (hs:cK X.K w0 nt S β fp a w) {fs:List (Nat×Nat×Bool)} {place:Nat→Option (Nat×Nat)} (hp:∀ (i off n:Nat) (ag:Bool),fs[i]?=some (off,n,ag)→place i=some (off,n)) :
  ∀ (ps:List (Nat×Operand)) (ls ls':List (Lf C)) (cs:List Value),partsOf X fs S ps ls=some ls'→(∀ (i off n:Nat) (ag:Bool),fs[i]?=some (off,n,ag)→off+n≤ls.length)→cg X.K w S.aj β fp (aH S.aj fp w) ls cs →
   ∃ cs',Instr.fill place ⟨cs⟩ (ps.map fun (x:Nat×Operand)=>(x.1,a.eval x.2))=some ⟨cs'⟩∧cg X.K w S.aj β fp (aH S.aj fp w) ls' cs'
 | [],ls,ls',cs,h,_,hl=>by
  simp only [partsOf,Option.some.injEq] at h;subst h;exact ⟨cs,rfl,hl⟩
 | (i,x)::ps,ls,ls',cs,h,hb,hl=>by
  simp only [partsOf] at h;split at h
  ·rename_i off n ag v hf hx
   obtain ⟨hc,h⟩:=az h;simp only [Bool.and_eq_true] at hc;have h1:=Nat.eq_of_beq_eq_true hc.1;have h2:=Nat.le_of_ble_eq_true hc.2;have hv:=oF (bV hs hx) (by omega)
   have ho:off+v.leaves.length≤ls.length:=by rw [h1];exact hb i off n ag hf
   have Io:=xO hl hv ho;have hcs:cs.length=ls.length:=hl.1
   have hcl:(a.eval x).cells.size=n:=by rw [←h1,← hv.1];simp
   have e:setAt cs off (a.eval x).cells.toList=cs.take off++(a.eval x).cells.toList++cs.drop (off+(a.eval x).cells.toList.length):=mO _ _ _ (by rw [hv.1,hcs];exact ho);obtain ⟨cs',q1,q2⟩:=xw hs hp ps _ ls' _ h (by rw [mN];exact hb) Io;refine ⟨cs',?_,q2⟩;simp only [List.map_cons];rw [FB (hp i off n ag hf) hcl (by have:=hb i off n ag hf;simp;omega)];simp only [e];exact q1
  ·cases h
theorem AE {α eG:Type} {g:α→Sem eG} {g':α→eG}:∀ (l:List α),(∀ x∈l,(g x).run P w = .ok (g' x) w)→(l.mapM g).run P w = .ok (l.map g') w
 | [],_=>by simp
 | x::l,h=>by
  have h1:=h x (by simp);have h2:=AE l (fun y hy=>h y (by simp [hy]));simp [List.mapM_cons,h1,h2]
theorem yA {sz:Nat} {ag:Bool}:∀ {n o i off m:Nat} {ag':Bool},(yB sz ag o n)[i]?=some (off,m,ag')→off=o+i*sz∧m=sz∧i<n
 | 0,o,i,off,m,ag',h=>by simp [yB] at h
 | n+1,o,0,off,m,ag',h=>by simp [yB] at h;obtain ⟨rfl,rfl,_⟩:=h;exact ⟨by omega,rfl,by omega⟩
 | n+1,o,i+1,off,m,ag',h=>by
  simp only [yB,List.getElem?_cons_succ] at h;obtain ⟨h1,h2,h3⟩:=yA h;refine ⟨?_,h2,by omega⟩;rw [Nat.add_mul];omega
theorem TT (hX:jk P X) (hs:cK X.K w0 nt S β fp a w) (hd:slot dst nt) {t:TypeId} {ps:Array (Nat×Operand)} (h:ev X ⟨dst,.build t ps,ty,pos,dG,gd⟩ S k=some r):Goal P X w0 nt k r Q ⟨dst,.build t ps,ty,pos,dG,gd⟩ a w:=by
 obtain ⟨ps⟩:=ps;simp only [ev] at h;split at h
 ·rename_i fs zs ht
  split at h
  ·rename_i ls hp
   obtain ⟨hb,h⟩:=az h;obtain ⟨⟨i,h1,h2,h3⟩,fields,hu,hl,hF⟩:=hX.tk _ _ ht
   have hsz:∀ f∈fields.toList,(do pure (f.offset,← sizeOf f.type):Sem (Nat×Nat)).run P w = .ok (f.offset,((P.info? f.type).map (·.size)).getD 0) w:=by
    intro f hf;obtain ⟨j,hj,rfl⟩:=List.getElem_of_mem hf
    have iK:j<fs.length:=by rw [←hl];simpa using hj
    obtain ⟨f',i',q1,q2,q3,q4,_⟩:=hF j (fs[j]).1 (fs[j]).2.1 (fs[j]).2.2 (by simp [iK])
    have:fields.toList[j]=f':=by
     have hj2:j<fields.size:=by simpa using hj
     rw [Array.getElem?_eq_getElem hj2] at q1
     simpa using q1
    rw [this];simp [sizeOf,typeInfo,q3]
   have hm:=AE (P:=P) (w:=w) (g:=fun f=>(do pure (f.offset,← sizeOf f.type):Sem (Nat×Nat))) (g':=fun f=>(f.offset,((P.info? f.type).map (·.size)).getD 0)) fields.toList hsz
   have Z5:∀ (i off n:Nat) (ag:Bool),fs[i]?=some (off,n,ag)→((fields.toList.map fun f=>(f.offset,((P.info? f.type).map (·.size)).getD 0)).toArray)[i]?=some (off,n):=fun j off n ag hj=>by
    obtain ⟨f',i',q1,q2,q3,q4,_⟩:=hF j off n ag hj
    have Np:fields.toList[j]?=some f':=by simpa using q1
    simp only [List.getElem?_toArray,List.getElem?_map,Np,Option.map_some,q2,q3,q4,Option.getD_some]
   obtain ⟨cs',q1,q2⟩:=xw hs (place:=fun i=>((fields.toList.map fun f=>(f.offset,((P.info? f.type).map (·.size)).getD 0)).toArray)[i]?) Z5 ps _ ls _ hp
    (fun i off n ag hi=>by
     have:=List.all_eq_true.1 hb (off,n,ag) (List.mem_of_getElem? hi);have:=Nat.le_of_ble_eq_true this
     simpa using this) (wk zs)
   refine bu (v:=.agg cs'.toArray) ?_ (bw hs hd (v:=.agg ls) ⟨cs',rfl,q2⟩ h);simp only [execOp,Instr.build,Sem.run_bind,zeroValue,typeInfo,run_program,h1,h3,Result.andThen_ok,Sem.run_pure,bn hu];rw [Array.mapM_eq_mapM_toList];simp only [Sem.run_bind,Sem.run_map,hm,Result.andThen_ok]
   have:(List.map (fun x:Nat×Operand=>(x.fst,a.eval x.snd)) ps)=(Array.map (fun x:Nat×Operand=>(x.fst,a.eval x.snd)) ps.toArray).toList:=by simp
   rw [←this];simp only [Value.cells];rw [q1];rfl
  ·cases h
 ·rename_i n sz ag zs ht
  split at h
  ·rename_i ls hp
   obtain ⟨⟨i,h1,h2,h3⟩,hz,hp0,e,ie,hu,he,hsz,d,hd1,hd2⟩:=hX.tk _ _ ht
   obtain ⟨cs',q1,q2⟩:=xw hs (place:=fun i=>some (i*sz,sz)) (fun i off m ag' hi=>by
     obtain ⟨e1,e2,e3⟩:=yA hi;simp only [Option.some.injEq,Prod.mk.injEq]
     exact ⟨by omega,e2.symm⟩) ps _ ls _ hp
    (fun i off m ag' hi=>by
     obtain ⟨e1,e2,e3⟩:=yA hi;have:(i+1)*sz≤n*sz:=Nat.mul_le_mul_right _ e3;rw [Nat.add_mul] at this;simp only [List.length_map,hz]
     omega) (wk zs)
   refine bu (v:=.agg cs'.toArray) ?_ (bw hs hd (v:=.agg ls) ⟨cs',rfl,q2⟩ h)
   have hsize:(sizeOf e).run P w = .ok sz w:=by simp [sizeOf,typeInfo,he,hsz]
   simp only [execOp,Instr.build,Sem.run_bind,zeroValue,typeInfo,run_program,h1,h3,Result.andThen_ok,Sem.run_pure,bn hu,hsize]
   have:(List.map (fun x:Nat×Operand=>(x.fst,a.eval x.snd)) ps)=(Array.map (fun x:Nat×Operand=>(x.fst,a.eval x.snd)) ps.toArray).toList:=by simp
   rw [←this];simp only [Value.cells];rw [q1];rfl
  ·cases h
 ·cases h
theorem FH (hs:cK X.K w0 nt S β fp a w) {t:Ty}:∀ (ps:List (Nat×Operand)) (n:Nat) (O:cm C) (es:List (C t)) (S':St C) (b:Bool) (cs:List Value),(∀ id ob,lk O id=some ob→lk S.aj id=some ob) →
  elems X t { S with aj:=O } n ps=some (es,S',b)→(n+ps.length)*X.K.sz t≤cs.length →
  S'.env=S.env∧S'.base=S.base∧(∀ id ob,lk S'.aj id=some ob→lk O id=some ob)∧es.length=ps.length ∧
  ∃ cs',Instr.fill (fun i=>some (i*X.K.sz t,X.K.sz t)) ⟨cs⟩ (ps.map fun (x:Nat×Operand)=>(x.1,a.eval x.2))=some ⟨cs'⟩∧cs'.length=cs.length∧(∀ m,m<n*X.K.sz t→cs'[m]?=cs[m]?) ∧
  ∃ G:Nat→Nat→Nat→Prop,(∀ j i k,G j i k→∃ id ob,lk O id=some ob∧lk S'.aj id=none∧fp id k)∧(∀ j i j' i' k,G j i k→G j' i' k→j=j'∧i=i') ∧
   ∀ (j:Nat) (x:C t),es[j]?=some x→∀ (i:Nat) (l:Lf C),(X.K.enc t x)[i]?=some l→(b=false→Own X.K w w0.heap.size (G j i) l (cs'.getD ((n+j)*X.K.sz t+i) undef))∧gU X.K w (fun k=>aH S.aj fp w k∨G j i k) l (cs'.getD ((n+j)*X.K.sz t+i) undef)
 | [],n,O,es,S',b,cs,hO,h,hb=>by
  simp only [elems,Option.some.injEq,Prod.mk.injEq] at h;obtain ⟨rfl,rfl,rfl⟩:=h;exact ⟨rfl,rfl,fun _ _ h=>h,rfl,cs,rfl,rfl,fun _ _=>rfl,fun _ _ _=>False,fun _ _ _ h=>h.elim,fun _ _ _ _ _ h=>h.elim,fun j x h=>by simp at h⟩
 | (i0,x0)::ps,n,O,es,S',b,cs,hO,h,hb=>by
  simp only [elems] at h;split at h
  ·rename_i v hv
   split at h
   ·rename_i ls S1 b1 hab
    split at h
    ·rename_i e CO
     split at h
     ·rename_i es' S2 b2 hel
      obtain ⟨hi,hk⟩:=az h;have hi:=Nat.eq_of_beq_eq_true hi;simp only [Option.some.injEq,Prod.mk.injEq] at hk;obtain ⟨rfl,rfl,rfl⟩:=hk;clear h;subst hi
      have hv':dq X.K w S.aj β fp (aH S.aj fp w) v (a.eval x0):=dH hs (T:=X.K.tid t) (x:=x0) (by
       have:gu X { S with aj:=O } (X.K.tid t) x0=gu X S (X.K.tid t) x0:=by
        unfold gu;split
        ·rfl
        ·cases x0<;>rfl
       rw [←this];exact hv)
      have henc:=X.K.jD t _ _ CO
      have hls:ls.length=X.K.sz t:=by rw [←henc,X.K.gH]
      have hlv:0<v.leaves.length:=by
       rcases Nat.eq_zero_or_pos v.leaves.length with h0 | h0
       ·have:v.leaves=[]:=List.eq_nil_of_length_eq_zero h0
        rw [this] at hab;simp only [cV,Option.some.injEq,Prod.mk.injEq] at hab;rw [←hab.1] at hls;have:=X.K.pos t;simp at hls;omega
       ·exact h0
      have hc:=oF hv' hlv;obtain ⟨g1,g1',g2,g3,G,g4,g5,g6⟩:=qi hs v.leaves (a.eval x0).cells.toList O ls S1 b1 hO hab hc
      have hcl:(a.eval x0).cells.size=X.K.sz t:=by
       have:=hc.1;simp only [Array.length_toList] at this;rw [this,← g3,hls]
      have MM:S1={ S with aj:=S1.aj }:=by
       obtain ⟨e1,o1,b1⟩:=S1;rw [St.mk.injEq];exact ⟨g1,rfl,g1'⟩
      rw [MM] at hel
      have hfit:i0*X.K.sz t+X.K.sz t≤cs.length:=by
       rw [←Nat.succ_mul];refine Nat.le_trans (Nat.mul_le_mul_right _ ?_) hb;simp only [List.length_cons];omega
      have J6:i0*X.K.sz t+(a.eval x0).cells.toList.length≤cs.length:=by simpa [hcl] using hfit
      obtain ⟨q1,Np,q2,q3,cs',q4,q5,q6,G',q7,q8,q9⟩:=FH hs ps (i0+1) S1.aj es' S2 b2 (setAt cs (i0*X.K.sz t) (a.eval x0).cells.toList) (fun id ob h=>hO id ob (g2 id ob h)) hel (by rw [mN];refine Nat.le_trans (Nat.mul_le_mul_right _ ?_) hb;simp;omega);refine ⟨q1,Np,fun id ob h=>g2 id ob (q2 id ob h),by simp [q3],cs',?_,by rw [q5,mN],fun m hm=>?_,fun j i k=>match j with | 0=>G i k | j+1=>G' j i k,fun j i k hk=>?_,fun j i j' i' k hk hk'=>?_,fun j x hx i l hl=>?_⟩
      ·simp only [List.map_cons]
       rw [FB (off:=i0*X.K.sz t) (n:=X.K.sz t) rfl hcl (by simpa using hfit)];exact q4
      ·rw [q6 m (by rw [Nat.succ_mul];omega),mO _ _ _ J6,fZ J6,if_pos hm]
      ·cases j with
       | zero=>
        obtain ⟨id,ob,h1,h2,h3⟩:=g4 i k hk;refine ⟨id,ob,h1,?_,h3⟩
        cases e2:lk S2.aj id with
        | none=>rfl
        | some dR=>have:=q2 id dR e2;rw [h2] at this;cases this
       | succ j=>
        obtain ⟨id,ob,h1,h2,h3⟩:=q7 j i k hk;exact ⟨id,ob,g2 id ob h1,h2,h3⟩
      ·have FP:∀ i j' i' k,G i k→G' j' i' k→False:=fun i j' i' k hk hk'=>by
        obtain ⟨id,ob,h1,h2,h3⟩:=g4 i k hk;obtain ⟨gN,dR,mL,zn,Tr⟩:=q7 j' i' k hk';have:=hs.eH id gN ob dR k (hO _ _ h1) (hO _ _ (g2 _ _ mL)) h3 Tr;subst this;rw [mL] at h2;cases h2
       cases j with
       | zero=>cases j' with
        | zero=>exact ⟨rfl,g5 _ _ k hk hk'⟩
        | succ j'=>exact (FP _ _ _ k hk hk').elim
       | succ j=>cases j' with
        | zero=>exact (FP _ _ _ k hk' hk).elim
        | succ j'=>have:=q8 _ _ _ _ k hk hk';exact ⟨by rw [this.1],this.2⟩
      ·cases j with
       | zero=>
        simp at hx;subst hx;have hil:=iH hl
        have hcell:cs'.getD ((i0+0)*X.K.sz t+i) undef=(a.eval x0).cells.toList.getD i undef:=by
         rw [List.getD_eq_getElem?_getD,List.getD_eq_getElem?_getD,q6 _ (by rw [Nat.succ_mul];simp;omega),mO _ _ _ J6,fZ J6,if_neg (by simp),if_pos (by simp [hcl];omega)]
         congr 2
         simp
        rw [hcell];have:=g6 i l (by rw [←henc];exact hl);exact ⟨fun hb=>this.1 (by cases b1<;>simp at hb ⊢),this.2⟩
       | succ j=>
        have hx:es'[j]?=some x:=by simpa using hx
        have:=q9 j x hx i l hl
        have e:i0+1+j=i0+(j+1):=by omega
        rw [e] at this;exact ⟨fun hb=>this.1 (by cases b2<;>simp at hb ⊢),this.2⟩
     ·cases h
    ·cases h
   ·cases h
  ·cases h
theorem Bc {t:Ty}:∀ {ps:List (Nat×Operand)} {n:Nat} {S:St C} {es:List (C t)} {S':St C} {b:Bool},elems X t S n ps=some (es,S',b)→es.length=ps.length
 | [],n,S,es,S',b,h=>by simp only [elems,Option.some.injEq,Prod.mk.injEq] at h;rw [←h.1];rfl
 | (i,x)::ps,n,S,es,S',b,h=>by
  simp only [elems] at h;split at h
  ·split at h
   ·split at h
    ·split at h
     ·rename_i hel
      obtain ⟨_,h⟩:=az h;simp only [Option.some.injEq,Prod.mk.injEq] at h;rw [←h.1];simp [Bc hel]
     ·cases h
    ·cases h
   ·cases h
  ·cases h
theorem Ce (hX:jk P X) (hs:cK X.K w0 nt S β fp a w) (hd:slot dst nt) {t:TypeId} {n:Nat} {ps:Array (Nat×Operand)} (h:ev X ⟨dst,.buildSlice t n ps,ty,pos,dG,gd⟩ S k=some r):Goal P X w0 nt k r Q ⟨dst,.buildSlice t n ps,ty,pos,dG,gd⟩ a w:=by
 obtain ⟨ps⟩:=ps;simp only [ev] at h;split at h
 ·rename_i t1 ht
  split at h
  ·rename_i es S' b hel
   obtain ⟨hc,h⟩:=az h;simp only [Bool.and_eq_true] at hc;have hlen:=Nat.eq_of_beq_eq_true hc.1;have hroom:=Nat.le_of_ble_eq_true hc.2;split at h
   ·rename_i DD gB
    obtain ⟨hn,rfl⟩:=jH gB;obtain ⟨i,z,hi,hsz,hby,hpos,hz,hzs,Tn⟩:=hX.el t1
    let zs:List Value:=(madeCells z.cells (n*X.K.sz t1)).toList
    have hzs':zs.length=n*X.K.sz t1:=by simp [zs,madeCells]
    have hps0:n=ps.length:=by rw [←hlen];exact Bc hel
    obtain ⟨q1,Np,q2,q3,cs',q4,q5,q6,G,q7,q8,q9⟩:=FH hs ps 0 S.aj es S' b zs (fun _ _ h=>h) hel (by rw [hzs',hps0];simp)
    have hrun:(execOp a.eval ⟨dst,.buildSlice t n ps.toArray,ty,pos,dG,gd⟩).run P w = .ok (.value (.slice (some ⟨w.heap.size,0,none⟩) n n)) (w.alloc (.cells cs'.toArray (X.K.tid t1))):=by
     have hmap:(Array.map (fun x:Nat×Operand=>(x.fst,a.eval x.snd)) ps.toArray).toList=ps.map fun x=>(x.1,a.eval x.2):=by simp
     simp only [execOp,Instr.buildSlice,Sem.run_bind,bn (hX.tk _ _ ht).er,(hX.el t1).size,Result.andThen_ok,Sem.run_pure];rw [if_neg (by omega)]
     by_cases h0:n*X.K.sz t1=0
     ·rw [if_pos h0]
      have hz3:(Array.range (n*X.K.sz t1)).map ((#[]:Array Value)[· % (#[]:Array Value).size]!)=zs.toArray:=by simp [h0,zs,madeCells]
      simp only [Sem.run_bind,Sem.run_pure,Result.andThen_ok,hmap];rw [hz3,q4];simp [newRow]
     ·rw [if_neg h0]
      have hz3:(Array.range (n*X.K.sz t1)).map (z.cells[· % z.cells.size]!)=zs.toArray:=by
       show madeCells z.cells (n*X.K.sz t1)=_;simp [zs]
      have hz2:(zeroValue (X.K.tid t1)).run P w = .ok z w:=by simp [zeroValue,typeInfo,hi,hz]
      simp only [Sem.run_bind,hz2,Sem.run_pure,Result.andThen_ok,hmap];rw [hz3,q4];simp [newRow]
    have hO:=q2
    have hnl:∀ k,aH S.aj fp w k→¬ jl S fp S'.aj k:=fun k hk ⟨j,ob,h1,_,h3⟩=>hk.2 j ob h1 h3
    have hle:∀ k,jl S fp S'.aj k→k<w.heap.size:=fun k ⟨j,ob,h1,_,h3⟩=>(hs.fresh j ob k h1 h3).2
    have Qf:cs'.length=n*X.K.sz t1:=by rw [q5,hzs']
    have hsz0:=hs.below.size
    let w':=w.alloc (.cells cs'.toArray (X.K.tid t1))
    have hwk:∀ k,k<w.heap.size→w'.heap[k]?=w.heap[k]?:=fun k hk=>Below.heap_alloc w _ k hk
    have hw:Below w0.heap.size w w':=(Below.refl _ _).alloc hsz0 _
    have hsize:w'.heap.size=w.heap.size+1:=by simp [w']
    have hcr:(List.range (es.length*X.K.sz t1)).map (fun m=>cs'.getD m undef)=cs':=by
     apply List.ext_getElem?;intro m;rw [hlen]
     by_cases hm:m<n*X.K.sz t1
     ·simp [hm,List.getD,Qf]
     ·simp [hm,Qf]
    have hown:w'.ownsRow w0.heap.size (X.K.tid t1) (X.K.sz t1) (.slice (some ⟨w.heap.size,0,none⟩) n n) (([]:List (C t1)).length+es.length) ([]++(List.range (es.length*X.K.sz t1)).map (fun m=>cs'.getD m undef)):=by
     rw [hcr]
     refine ⟨by simp [Qf,hlen],.inr ⟨w.heap.size,n,cs'.toArray,by simp [hlen],hsz0,heap_alloc_new w _,by simp [hlen],by simp only [maxLen];have:=Nat.le_mul_of_pos_right n (X.K.pos t1);omega,by simp [Qf],by
      simp only [List.length_nil,Nat.zero_add,hlen,List.nil_append]
      exact List.take_of_length_le (by simp [Qf])⟩⟩
    let sh:=cond (X.K.flat t1) false b
    let F:Nat→Prop:=cond sh (fun g=>(Value.slice (some ⟨w.heap.size,0,none⟩) n n).ownBlock=some g) (fun k=>(Value.slice (some ⟨w.heap.size,0,none⟩) n n).ownBlock=some k∨False∨jl S fp S'.aj k)
    have hFv:∀ g,(Value.slice (some ⟨w.heap.size,0,none⟩) n n).ownBlock=some g→g=w.heap.size:=fun g hg=>by simp [Value.ownBlock] at hg;exact hg.symm
    have hF:∀ k,F k→jl S fp S'.aj k∨(w.heap.size≤k∧k<w'.heap.size):=fun k hk=>by
     cases e:sh with
     | true=>simp only [F,e,cond_true] at hk;have:=hFv k hk;exact .inr ⟨by omega,by omega⟩
     | false=>
      simp only [F,e,cond_false] at hk
      rcases hk with h | h | h
      ·have:=hFv k h;exact .inr ⟨by omega,by omega⟩
      ·exact h.elim
      ·exact .inl h
    have hst:=fun k hk=>th hs hO (w':=w') (by omega) (fun k hk _=>hwk k hk) (id:=bP X S ⟨dst,.buildSlice t n ps.toArray,ty,pos,dG,gd⟩) (ob:=.row t1 es sh) (F:=F) (fun k hk=>(hF k hk).imp (fun h=>h) fun h=>h.1) (k:=k) hk
    have fW:=Q2 (K:=X.K) (w:=w) (β:=upd β (bP X S ⟨dst,.buildSlice t n ps.toArray,ty,pos,dG,gd⟩) (.slice (some ⟨w.heap.size,0,none⟩) n n)) (fp:=upd fp (bP X S ⟨dst,.buildSlice t n ps.toArray,ty,pos,dG,gd⟩) F)
     (aj:=(bP X S ⟨dst,.buildSlice t n ps.toArray,ty,pos,dG,gd⟩,.row t1 es sh)::S'.aj) (ey:=aH ((bP X S ⟨dst,.buildSlice t n ps.toArray,ty,pos,dG,gd⟩,.row t1 es sh)::S'.aj) (upd fp (bP X S ⟨dst,.buildSlice t n ps.toArray,ty,pos,dG,gd⟩) F) w')
     (xs:=[]) (ys:=es) (lF:=none) (L8:=none) (gA:=false) (oo:=b) (sh:=sh) (D0:=fun _=>False) (D1:=jl S fp S'.aj) (b8:=aH S.aj fp w) (cs:=[])
     qc (f:=fun m=>cs'.getD m undef) ⟨G,fun j i k hk=>⟨q7 j i k hk,by simp⟩,q8,fun j x hx i l hl=>by have:=q9 j x hx i l hl;simpa using this⟩ (fun k h=>h.elim) (by simp) hown
     (fun g hg=>⟨.inr fun h=>h,fun h=>by have:=hFv g hg;have:=hle g h;omega⟩) (fun k hk _=>hwk k (by rcases hk with h | h | h;exact h.elim;exact hle k h;exact h.1)) (fun k _=>by simp) (by simp [sh]) (fun k hk=>(hst k hk).1)
     (fun k hs1 hk aab _=>by
      have hk':jl S fp S'.aj k:=hk.elim (fun h=>h.elim) id;refine ⟨by have:=hle k hk';omega,fun j dR hj=>?_⟩;rw [aQ] at hj
      by_cases e:j=bP X S ⟨dst,.buildSlice t n ps.toArray,ty,pos,dG,gd⟩
      ·rw [e,cz]
       show ¬ (cond sh (fun g=>(Value.slice (some ⟨w.heap.size,0,none⟩) n n).ownBlock=some g) (fun k=>(Value.slice (some ⟨w.heap.size,0,none⟩) n n).ownBlock=some k∨False∨jl S fp S'.aj k)) k;have Z4:sh=true:=hs1;rw [Z4];exact aab
      ·rw [if_neg e] at hj
       rw [dt _ _ e];intro Nq
       exact o4 hs hO hj Nq hk') (fun g hg=>by cases hg)
    have h2:=hs.OO hO hw (fun k hk _=>hwk k hk) (id:=bP X S ⟨dst,.buildSlice t n ps.toArray,ty,pos,dG,gd⟩) (by
     have:=hn;unfold fT at this;rw [q1] at this
     exact this) (ob:=.row t1 es sh) (hv:=.slice (some ⟨w.heap.size,0,none⟩) n n) (F:=F) hF fW S'.base
    have hSe:(⟨S.env,(bP X S ⟨dst,.buildSlice t n ps.toArray,ty,pos,dG,gd⟩,.row t1 es sh)::S'.aj,S'.base⟩:St C)=S'.setObj (bP X S ⟨dst,.buildSlice t n ps.toArray,ty,pos,dG,gd⟩) (.row t1 es sh):=by
     unfold St.setObj;rw [←q1]
    rw [hSe] at h2;exact bu hrun (bw h2 hd (v:=.one (.ref _ [])) ⟨rfl,(cz _ _ _).symm⟩ h)
   ·cases h
  ·cases h
 ·cases h
end
section
variable {Ty:Type} [DecidableEq Ty] {C:Ty→Type}
variable {P:Program} {X:Cx C} {w0 w:World} {nt:Nat} {S:St C} {β:Nat→Value} {fp:Nat→Nat→Prop} {a:Act} {R:Type} {k:St C→Option R} {r:R}
variable {dst:Option Tmp} {ty:TypeId} {pos:String} {dG:Array Edge} {gd:Option (Nat×Bool)} {Q:Exit→Act→World→Prop}
def yT (K:Cd C) (w:World) (F:Nat→Prop):SV C→Value→Prop
 | .one (.eS t x o),u=>∃ (a:Addr) (U:Nat→Value),u = .pointer (some (a.add o))∧F a.block∧(∀ i,i<K.sz t→w.cell? (a.add i)=some (U i))∧∀ i l,(K.enc t x)[i]?=some l→gU K w F l (U i)
 | .one l,u=>l.plain=true∧gU K w F l u
 | .agg ls,u=>∃ us:List Value,u = .agg us.toArray∧us.length=ls.length∧∀ (i:Nat) (l:Lf C),ls[i]?=some l→gU K w F l (us.getD i undef)
 | _,_=>False
def ml:Bool×List (Lf C)→List Value→Value
 | (true,_),us=>.agg us.toArray
 | (false,_),us=>us.headD undef
def dh:List (Bool×List (Lf C))→List Value→List Value
 | [],_=>[]
 | x::r,us=>ml x (us.take x.2.length)::dh r (us.drop x.2.length)
def pack (rs:List (Bool×List (Lf C))) (us:List Value):Value:=match dh rs us with
 | [v]=>v
 | vs=>.tuple vs.toArray
def fO:List (Bool×List (Lf C))→Bool
 | []=>true
 | (b,ls)::r=>(b||Nat.beq ls.length 1)&&fO r
def K7 (K:Cd C) (w w':World) (rs:List (Bool×List (Lf C))) (v:Value):Prop:=
 ∃ (us:List Value) (G:Nat→Nat→Prop),v=pack rs us∧us.length=(flatten rs).length∧fO rs=true ∧
  (∀ m k,G m k→w.heap.size≤k∧k<w'.heap.size)∧(∀ m m' k,G m k→G m' k→m=m') ∧
  ∀ (m:Nat) (l:Lf C),(flatten rs)[m]?=some l→Own K w' w.heap.size (G m) l (us.getD m undef)
def cL (P:Program) (K:Cd C) (f:Nat) (c:iu C):Prop:=
 (∃ fn,P.funcs[f]?=some fn∧fn.body.isNone=false∧fn.name ≠ "runtime.NumGoroutine") ∧
 ∀ (w:World) (vs:List (SV C)) (us:List Value) (r0:c.R0),K.inv w→us.length=vs.length→(∀ (i:Nat) (v:SV C),vs[i]?=some v→yT K w (fun k=>k<w.heap.size) v (us.getD i undef))→c.g vs=some r0 →
  Calls P f us.toArray w fun e w'=>∃ v,e = .returned v∧Below w.heap.size w w'∧K7 K w w' (c.ret r0) v∧(c.nz=true→∀ t,c.ret r0=[(false,[.row t []])]→v = .slice none 0 0)
theorem D8 (hs:cK X.K w0 nt S β fp a w) {id:Nat} {t:Ty} {xs:List (C t)} {sh:Bool} (ho:lk S.aj id=some (.row t xs sh)):gU X.K w (fun k=>k<w.heap.size) (.row t xs) (β id):=by
 have fW:=hs.aj id _ ho
 cases sh with
 | false=>exact (Own.rep fW).mono fun k hk=>(hs.fresh id _ k ho hk).2
 | true=>
  obtain ⟨cells,h1,h2,h3⟩:=fW
  by_cases hx:xs=[]
  ·subst hx
   obtain ⟨A,c,e,_⟩:=gq h1;rw [e];exact .row t [] A c default (fun _=>undef) (Nat.zero_le _) (fun h=>absurd rfl h) (fun h=>absurd rfl h) (fun j hj=>absurd hj (by simp))
  ·obtain ⟨g,cap,e,hb,hn,hcell⟩:=kJ h1 (Nat.mul_pos (List.length_pos_iff.2 hx) (X.K.pos t))
   rw [e]
   refine .row t xs _ cap ⟨g,0,none⟩ (fun m=>cells.getD m undef) hn (fun _=>⟨rfl,(hs.fresh id _ g ho ((h2 g).2 (by rw [e];rfl))).2⟩) (fun _=>hcell) fun j hj i l hl=>?_
   exact (h3 j xs[j] (by simp [hj]) i l hl).mono fun k hk=>hk.1
theorem wA (hs:cK X.K w0 nt S β fp a w) {l l':Lf C} {v:Value} (h:iC S l=some l') (hl:cI X.K w S.aj β fp (aH S.aj fp w) l v):l'.plain=true∧gU X.K w (fun k=>k<w.heap.size) l' v:=by
 cases l with
 | ref id p=>
  cases p with
  | cons s p=>simp [iC] at h
  | nil=>
   simp only [iC] at h;split at h
   ·rename_i t xs sh ho
    cases h;refine ⟨rfl,?_⟩;have e:v=β id:=hl.2;subst e;exact D8 hs ho
   ·cases h
 | sub id lo hi=>
  simp only [iC] at h;split at h
  ·rename_i t xs sh ho
   cases h;exact ⟨rfl,rK (D8 hs ho) (hl.2 t xs sh ho)⟩
  ·cases h
 | nil t=>
  simp only [iC] at h;cases h;have e:v = .slice none 0 0:=hl;subst e;exact ⟨rfl,.row t [] none 0 default (fun _=>undef) (Nat.zero_le _) (fun h=>absurd rfl h) (fun h=>absurd rfl h) (fun j hj=>absurd hj (by simp))⟩
 | row t xs=>
  simp only [iC] at h;cases h;exact ⟨rfl,gU.mono hl fun k hk=>hk.1⟩
 | int ki n=>simp only [iC] at h;cases h;have e:v=_:=hl;subst e;exact ⟨rfl,.int ..⟩
 | bool b=>simp only [iC] at h;cases h;have e:v=_:=hl;subst e;exact ⟨rfl,.bool ..⟩
 | str s=>simp only [iC] at h;cases h;have e:v=_:=hl;subst e;exact ⟨rfl,.str ..⟩
 | dP s=>simp only [iC] at h;cases h;have e:v=_:=hl;subst e;exact ⟨rfl,.dP ..⟩
 | _=>simp [iC] at h
theorem zO (hs:cK X.K w0 nt S β fp a w):∀ {ls ls':List (Lf C)} {vs:List Value},oD S ls=some ls'→cg X.K w S.aj β fp (aH S.aj fp w) ls vs →
  ls'.length=ls.length∧∀ (i:Nat) (l:Lf C),ls'[i]?=some l→gU X.K w (fun k=>k<w.heap.size) l (vs.getD i undef)
 | [],ls',vs,h,hl=>by simp only [oD,Option.some.injEq] at h;subst h;exact ⟨rfl,fun i l h=>by simp at h⟩
 | l::ls,ls',vs,h,hl=>by
  simp only [oD] at h;split at h
  ·rename_i l1 h1
   split at h
   ·rename_i r' h2
    cases h
    obtain ⟨u,us,rfl⟩:∃ u us,vs=u::us:=by
     cases vs with
     | nil=>have:=hl.1;simp at this
     | cons u us=>exact ⟨u,us,rfl⟩
    have hl1:cg X.K w S.aj β fp (aH S.aj fp w) ls us:=⟨by have:=hl.1;simpa using this,fun i l' hi=>hl.2 (i+1) l' (by simpa using hi)⟩;have ih:=zO hs h2 hl1;refine ⟨by simp [ih.1],fun i l' hi=>?_⟩
    cases i with
    | zero=>simp at hi;subst hi;exact (wA hs h1 (hl.2 0 l rfl)).2
    | succ i=>exact ih.2 i l' (by simpa using hi)
   ·cases h
  ·cases h
theorem NW (hs:cK X.K w0 nt S β fp a w) {v v':SV C} {u:Value} (h:nU S v=some v') (hv:dq X.K w S.aj β fp (aH S.aj fp w) v u):yT X.K w (fun k=>k<w.heap.size) v' u:=by
 cases v with
 | one l=>
  simp only [nU] at h;split at h
  ·rename_i l' hl
   cases h;have:=wA hs hl hv
   cases l'<;>first | exact this | cases this.1
  ·cases h
 | agg ls=>
  simp only [nU] at h;split at h
  ·rename_i ls' hl
   cases h;obtain ⟨vs,rfl,hv⟩:=hv;obtain ⟨h1,h2⟩:=zO hs hl hv;exact ⟨vs,rfl,by rw [hv.1,h1],h2⟩
  ·cases h
 | _=>simp [nU] at h
theorem sQ (hs:cK X.K w0 nt S β fp a w):∀ {xs:List Operand} {ts:List TypeId} {vs:List (SV C)},fE X S xs ts=some vs→vs.length=xs.length∧∀ (i:Nat) (v:SV C),vs[i]?=some v→dq X.K w S.aj β fp (aH S.aj fp w) v ((xs.map a.eval).getD i undef)
 | [],ts,vs,h=>by
  simp only [fE,Option.some.injEq] at h;subst h;exact ⟨rfl,fun i v h=>by simp at h⟩
 | x::xs,ts,vs,h=>by
  simp only [fE] at h;split at h
  ·rename_i l hv
   split at h
   ·rename_i vs' hr
    cases h;obtain ⟨h1,h2⟩:=sQ hs hr;refine ⟨by simp [h1],fun i v hi=>?_⟩
    cases i with
    | zero=>simp at hi;subst hi;exact dH hs hv
    | succ i=>simpa using h2 i v (by simpa using hi)
   ·cases h
  ·rename_i ls hv
   split at h
   ·rename_i vs' hr
    cases h;obtain ⟨h1,h2⟩:=sQ hs hr;refine ⟨by simp [h1],fun i v hi=>?_⟩
    cases i with
    | zero=>simp at hi;subst hi;exact dH hs hv
    | succ i=>simpa using h2 i v (by simpa using hi)
   ·cases h
  ·cases h
theorem F2 {w:World} {p:Addr} {u:Value} (h:w.cell? p=some u):p.block<w.heap.size:=by
 unfold World.cell? at h
 cases e:w.heap[p.block]? with
 | none=>rw [e] at h;cases h
 | some o=>exact (Array.getElem?_eq_some_iff.1 e).1
theorem gU.lt {K:Cd C} {F:Nat→Prop} {l:Lf C} {v:Value} (h:gU K w F l v):gU K w (fun k=>k<w.heap.size) l v:=by
 induction h with
 | int=>exact .int ..
 | bool=>exact .bool ..
 | str=>exact .str ..
 | dP=>exact .dP ..
 | row t xs A c p U hc hA hcell nJ ih=>
  refine .row t xs A c p U hc (fun hx=>⟨(hA hx).1,?_⟩) hcell ih;have:=F2 (hcell hx 0 (Nat.mul_pos (List.length_pos_iff.2 hx) (K.pos t)))
  rwa [m8] at this
theorem LC (hs:cK X.K w0 nt S β fp a w) {l l':Lf C} {v:Value} (h:kF X S l=some l') (hl:cI X.K w S.aj β fp (aH S.aj fp w) l v):l'.plain=true∧gU X.K w (fun k=>k<w.heap.size) l' v:=by
 unfold kF at h;split at h
 ·obtain ⟨t,xs,F,h1,h2⟩:=Jj hs hl h
  cases h1;exact ⟨rfl,h2.lt⟩
 ·exact wA hs h hl
theorem wC (hs:cK X.K w0 nt S β fp a w):∀ {ls ls':List (Lf C)} ,gE X S ls=some ls'→ls'.length=ls.length ∧
  ∀ (i:Nat) (l':Lf C),ls'[i]?=some l'→∃ l,ls[i]?=some l∧∀ v,cI X.K w S.aj β fp (aH S.aj fp w) l v→gU X.K w (fun k=>k<w.heap.size) l' v
 | [],ls',h=>by simp only [gE,Option.some.injEq] at h;subst h;exact ⟨rfl,fun i l h=>by simp at h⟩
 | l::ls,ls',h=>by
  simp only [gE] at h;split at h
  ·rename_i l1 h1
   split at h
   ·rename_i r' h2
    cases h;obtain ⟨q1,q2⟩:=wC hs h2;refine ⟨by simp [q1],fun i l' hi=>?_⟩
    cases i with
    | zero=>simp at hi;subst hi;exact ⟨l,rfl,fun v hv=>(LC hs h1 hv).2⟩
    | succ i=>exact q2 i l' (by simpa using hi)
   ·cases h
  ·cases h
theorem NY (hs:cK X.K w0 nt S β fp a w) {pt:Option Ty} {v v':SV C} {u:Value} (h:nV X S pt v=some v') (hv:dq X.K w S.aj β fp (aH S.aj fp w) v u):yT X.K w (fun k=>k<w.heap.size) v' u:=by
 unfold nV at h;split at h
 ·exact NW hs h hv
 ·rename_i t l
  obtain ⟨ls,p,h,rfl,hc⟩:=sM hs hv h;split at h
  ·rename_i ls' hls
   split at h
   ·rename_i x hx
    cases h;obtain ⟨q1,q2⟩:=wC hs hls;have henc:=X.K.jD _ _ _ hx
    have hlen:ls'.length=X.K.sz t:=by rw [←henc,X.K.gH]
    have hle:X.K.sz t≤ls.length:=by simp at q1;omega
    have hcell:∀ i,i<X.K.sz t→∃ l' u,ls[i]?=some l'∧w.cell? (p.add i)=some u∧cI X.K w S.aj β fp (aH S.aj fp w) l' u:=fun i hi=>by
     have e:ls[i]?=some (ls[i]'(by omega)):=by simp
     obtain ⟨u,h1,h2⟩:=hc i _ e;exact ⟨_,u,e,h1,h2⟩
    have hz:p.add 0=p:=rfl;refine ⟨p,fun i=>(w.cell? (p.add i)).getD undef,rfl,?_,fun i hi=>?_,fun i l hl=>?_⟩
    ·obtain ⟨_,u,_,h1,_⟩:=hcell 0 (X.K.pos t)
     exact F2 (p:=p) h1
    ·obtain ⟨_,u,_,h1,_⟩:=hcell i hi
     simp only [h1];rfl
    ·rw [henc] at hl
     have hi:i<X.K.sz t:=by have:=ee hl;omega
     obtain ⟨l1,e1,e2⟩:=q2 i l hl;obtain ⟨l2,u,e3,h1,h2⟩:=hcell i hi;rw [List.getElem?_take,if_pos hi,e3] at e1;cases e1;simp only [h1];exact e2 _ h2
   ·cases h
  ·cases h
 ·cases h
theorem DJ (hs:cK X.K w0 nt S β fp a w):∀ {vs:List (SV C)} {pt:List (Option Ty)} {vs':List (SV C)} {us:List Value},views X S pt vs=some vs'→us.length=vs.length →
  (∀ (i:Nat) (v:SV C),vs[i]?=some v→dq X.K w S.aj β fp (aH S.aj fp w) v (us.getD i undef)) →
  us.length=vs'.length∧∀ (i:Nat) (v:SV C),vs'[i]?=some v→yT X.K w (fun k=>k<w.heap.size) v (us.getD i undef)
 | [],pt,vs',us,h,hl,hv=>by simp only [views,Option.some.injEq] at h;subst h;exact ⟨hl,fun i v h=>by simp at h⟩
 | v::vs,pt,vs',us,h,hl,hv=>by
  simp only [views] at h;split at h
  ·rename_i v1 h1
   split at h
   ·rename_i r' h2
    cases h
    obtain ⟨u,us,rfl⟩:∃ u np,us=u::np:=by
     cases us with
     | nil=>simp at hl
     | cons u us=>exact ⟨u,us,rfl⟩
    obtain ⟨q1,q2⟩:=DJ hs h2 (us:=us) (by simpa using hl) (fun i v hi=>hv (i+1) v (by simpa using hi));refine ⟨by simp [q1],fun i v' hi=>?_⟩
    cases i with
    | zero=>simp at hi;subst hi;exact NY hs h1 (hv 0 v rfl)
    | succ i=>exact q2 i v' (by simpa using hi)
   ·cases h
  ·cases h
def gx (K:Cd C) (w:World) (aj:cm C) (β:Nat→Value) (fp:Nat→Nat→Prop) (b8:Nat→Prop) (vs:List (SV C)) (us:List Value):Prop:=
 us.length=vs.length∧∀ (i:Nat) (v:SV C),vs[i]?=some v→dq K w aj β fp b8 v (us.getD i undef)
theorem gx.nil {K:Cd C} {aj:cm C} {b8:Nat→Prop}:gx K w aj β fp b8 [] []:=⟨rfl,fun i v h=>by simp at h⟩
theorem gx.append {K:Cd C} {aj:cm C} {b8:Nat→Prop} {vs vs':List (SV C)} {us np:List Value} (h:gx K w aj β fp b8 vs us) (h':gx K w aj β fp b8 vs' np):gx K w aj β fp b8 (vs++vs') (us++np):=by
 refine ⟨by simp [h.1,h'.1],fun i v hi=>?_⟩
 have e:(us++np).getD i undef=if i<us.length then us.getD i undef else np.getD (i-us.length) undef:=by
  simp only [List.getD_eq_getElem?_getD,List.getElem?_append];split<;>rfl
 rw [List.getElem?_append] at hi;rw [e,h.1];split at hi
 ·rename_i hlt;rw [if_pos hlt];exact h.2 i v hi
 ·rename_i hlt;rw [if_neg hlt];exact h'.2 _ v hi
theorem gx.take {K:Cd C} {aj:cm C} {b8:Nat→Prop} {vs:List (SV C)} {us:List Value} (h:gx K w aj β fp b8 vs us) (n:Nat):gx K w aj β fp b8 (vs.take n) (us.take n):=by
 refine ⟨by simp [h.1],fun i v hi=>?_⟩
 have hlt:i<n:=by
  rcases Nat.lt_or_ge i n with hn | hn
  ·exact hn
  ·rw [List.getElem?_take,if_neg (by omega)] at hi;cases hi
 rw [List.getElem?_take,if_pos hlt] at hi
 have e:(us.take n).getD i undef=us.getD i undef:=by simp only [List.getD_eq_getElem?_getD,List.getElem?_take,if_pos hlt]
 rw [e];exact h.2 i v hi
theorem gx.drop {K:Cd C} {aj:cm C} {b8:Nat→Prop} {vs:List (SV C)} {us:List Value} (h:gx K w aj β fp b8 vs us) (n:Nat):gx K w aj β fp b8 (vs.drop n) (us.drop n):=by
 refine ⟨by simp [h.1],fun i v hi=>?_⟩;rw [List.getElem?_drop] at hi
 have e:(us.drop n).getD i undef=us.getD (n+i) undef:=by simp only [List.getD_eq_getElem?_getD,List.getElem?_drop]
 rw [e];exact h.2 _ v hi
theorem B5 {K:Cd C} {aj:cm C} {b8:Nat→Prop}:∀ {sh:List (Bool×Nat)} {ls:List (Lf C)} {us:List Value},Om sh ls.length=true→cg K w aj β fp b8 ls us→gx K w aj β fp b8 (td sh ls) (jQ sh us)
 | [],ls,us,h,hl=>⟨rfl,fun i v h=>by simp [td] at h⟩
 | (b,n)::sh,ls,us,h,hl=>by
  simp only [Om,Bool.and_eq_true,Bool.or_eq_true] at h;obtain ⟨⟨h1,h2⟩,h3⟩:=h;have h2:=Nat.le_of_ble_eq_true h2
  have hd:cg K w aj β fp b8 (ls.drop n) (us.drop n):=⟨by simp [hl.1],fun i l hi=>by
   rw [List.getElem?_drop] at hi
   have e:(us.drop n).getD i undef=us.getD (n+i) undef:=by simp only [List.getD_eq_getElem?_getD,List.getElem?_drop]
   rw [e]
   exact hl.2 _ l hi⟩
  have ih:=B5 (sh:=sh) (ls:=ls.drop n) (us:=us.drop n) (by simpa using h3) hd;refine ⟨by simp [td,jQ,ih.1],fun i v hi=>?_⟩
  cases i with
  | succ i=>simpa [jQ] using ih.2 i v (by simpa [td] using hi)
  | zero=>
   simp only [td,List.getElem?_cons_zero,Option.some.injEq] at hi;subst hi
   cases b with
   | true=>
    refine ⟨us.take n,rfl,by simp [hl.1],fun i l hi=>?_⟩
    have hlt:i<n:=by
     rcases Nat.lt_or_ge i n with hn | hn
     ·exact hn
     ·rw [List.getElem?_take,if_neg (by omega)] at hi;cases hi
    rw [List.getElem?_take,if_pos hlt] at hi
    have e:(us.take n).getD i undef=us.getD i undef:=by simp only [List.getD_eq_getElem?_getD,List.getElem?_take,if_pos hlt]
    rw [e];exact hl.2 i l hi
   | false=>
    have hn:n=1:=by
     rcases h1 with h1 | h1
     ·cases h1
     ·exact Nat.eq_of_beq_eq_true h1
    subst hn
    cases ls with
    | nil=>simp at h2
    | cons l ls=>cases us with
     | nil=>have:=hl.1;simp at this
     | cons u us=>exact hl.2 0 l rfl
theorem pC (hs:cK X.K w0 nt S β fp a w) {xs:List Operand} {ts:List TypeId} {vs:List (SV C)} (h:fE X S xs ts=some vs):gx X.K w S.aj β fp (aH S.aj fp w) vs (xs.map a.eval):=by
 obtain ⟨h1,h2⟩:=sQ hs h;exact ⟨by simp [h1],h2⟩
theorem F3 (hs:cK X.K w0 nt S β fp a w) {pt:List (Option Ty)} {pre post:List (SV C)} {pu qu:List Value} {xs:List Operand} {ts:List TypeId} {vs:List (SV C)} (h:m6 X S pt pre xs ts post=some vs)
  (hpre:gx X.K w S.aj β fp (aH S.aj fp w) pre pu) (sC:gx X.K w S.aj β fp (aH S.aj fp w) post qu) :
  (pu++(xs.map a.eval++qu)).length=vs.length∧∀ (i:Nat) (v:SV C),vs[i]?=some v→yT X.K w (fun k=>k<w.heap.size) v ((pu++(xs.map a.eval++qu)).getD i undef):=by
 unfold m6 at h;split at h
 ·rename_i vs' hvs
  have:=hpre.append ((pC hs hvs).append sC);exact DJ hs h this.1 this.2
 ·cases h
theorem dc {α:Type} (l r:List (Nat×α)) (n:Nat):lk (l++r) n=match lk l n with
  | some v=>some v
  | none=>lk r n:=by
 induction l with
 | nil=>rfl
 | cons x l ih=>
  obtain ⟨m,v⟩:=x;rw [List.cons_append,aQ,aQ,ih];split<;>rfl
theorem cK.De {K:Cd C} (h:cK K w0 nt S β fp a w) {w':World} (hw:Below w.heap.size w w') {news:cm C} (Fj:∀ id ob,lk news id=some ob→fT S id)
  {hv:Nat→Value} {F:Nat→Nat→Prop} (hF:∀ id ob k,lk news id=some ob→F id k→w.heap.size≤k∧k<w'.heap.size)
  (MJ:∀ id gN ob dR k,lk news id=some ob→lk news gN=some dR→F id k→F gN k→id=gN)
  (fW:∀ id ob,lk news id=some ob→∃ t xs,ob = .row t xs false∧Own K w' w0.heap.size (F id) (.row t xs) (hv id)) :
  cK K w0 nt { S with aj:=news++S.aj } (fun i=>if (lk news i).isSome then hv i else β i) (fun i k=>if (lk news i).isSome then F i k else fp i k) a w':=by
 have hsz:w0.heap.size≤w.heap.size:=h.below.size;have hsz':=hw.size
 have new:∀ i ob,lk news i=some ob→lk (news++S.aj) i=some ob:=fun i ob hi=>by rw [dc,hi]
 have old:∀ i,lk news i=none→lk (news++S.aj) i=lk S.aj i:=fun i hi=>by rw [dc,hi]
 have keep:∀ i,lk news i=none→iT w w' S.aj (news++S.aj) β (fun i=>if (lk news i).isSome then hv i else β i) fp (fun i k=>if (lk news i).isSome then F i k else fp i k) i:=fun i hi=>by
  refine ⟨by simp [hi],fun t xs sh ho=>?_⟩;rw [old i hi] at ho;exact ⟨ho,fun k hk=>⟨by simpa [hi] using hk,hw.block k (h.fresh i _ k ho hk).2⟩⟩
 have hst:∀ k,aH S.aj fp w k→aH (news++S.aj) (fun i k=>if (lk news i).isSome then F i k else fp i k) w' k∧w'.heap[k]?=w.heap[k]?:=fun k hk=>by
  refine ⟨⟨by have:=hk.1;omega,fun j ob hj=>?_⟩,hw.block k hk.1⟩
  cases e:lk news j with
  | some dR=>
   simp only [e,Option.isSome_some,if_true];intro hf;have:=hF j dR k e hf;have:=hk.1;omega
  | none=>
   rw [old j e] at hj;simp only [e,Option.isSome_none,Bool.false_eq_true,if_false];exact hk.2 j ob hj
 have WD:∀ i,(i∈gv S.env∨i∈dX S.aj)→lk news i=none:=fun i hi=>by
  cases e:lk news i with
  | none=>rfl
  | some ob=>have:=Fj i ob e;rcases hi with hi | hi;exact absurd hi this.1;exact absurd hi this.2
 refine ⟨h.below.trans (hw.mono hsz),h.defers,h.size,fun j ob k ho hk=>?_,fun i j oi oj k hi hj lq kE=>?_,fun j ob ho=>?_,fun t v ht=>?_⟩
 ·cases e:lk news j with
  | some dR=>
   simp only [e,Option.isSome_some,if_true] at hk;have:=hF j dR k e hk;omega
  | none=>
   simp only at ho;rw [old j e] at ho;simp only [e,Option.isSome_none,Bool.false_eq_true,if_false] at hk;have:=h.fresh j ob k ho hk;omega
 ·simp only at hi hj
  cases ei:lk news i with
  | some oi'=>
   simp only [ei,Option.isSome_some,if_true] at lq
   cases ej:lk news j with
   | some oj'=>
    simp only [ej,Option.isSome_some,if_true] at kE;exact MJ i j oi' oj' k ei ej lq kE
   | none=>
    rw [old j ej] at hj;simp only [ej,Option.isSome_none,Bool.false_eq_true,if_false] at kE;have:=hF i oi' k ei lq;have:=h.fresh j oj k hj kE;omega
  | none=>
   rw [old i ei] at hi;simp only [ei,Option.isSome_none,Bool.false_eq_true,if_false] at lq
   cases ej:lk news j with
   | some oj'=>
    simp only [ej,Option.isSome_some,if_true] at kE;have:=hF j oj' k ej kE;have:=h.fresh i oi k hi lq;omega
   | none=>
    rw [old j ej] at hj;simp only [ej,Option.isSome_none,Bool.false_eq_true,if_false] at kE;exact h.eH i j oi oj k hi hj lq kE
 ·simp only at ho
  cases e:lk news j with
  | some dR=>
   rw [new j dR e] at ho;cases ho;obtain ⟨t,xs,rfl,hO⟩:=fW j _ e;simp only [e,Option.isSome_some,if_true];exact hO
  | none=>
   rw [old j e] at ho
   have:=(h.aj j ob ho).tr (dO:=news++S.aj) (eG:=fun i=>if (lk news i).isSome then hv i else β i) (eD:=fun i k=>if (lk news i).isSome then F i k else fp i k) hst (fun k hk=>hw.block k (h.fresh j ob k ho hk).2) fun kd ls els i hi=>keep i (WD i (.inr ((lJ ho).2 kd ls els i hi)))
   simp only [e,Option.isSome_none,Bool.false_eq_true,if_false];exact this
 ·exact (h.env t v ht).tr hst fun i hi=>keep i (WD i (.inl (lK ht hi)))
end
section
variable {Ty:Type} [DecidableEq Ty] {C:Ty→Type}
variable {P:Program} {X:Cx C} {w0 w:World} {nt:Nat} {S:St C} {β:Nat→Value} {fp:Nat→Nat→Prop} {a:Act} {R:Type} {k:St C→Option R} {r:R}
variable {dst:Option Tmp} {ty:TypeId} {pos:String} {dG:Array Edge} {gd:Option (Nat×Bool)} {Q:Exit→Act→World→Prop}
theorem qh:∀ {news:cm C} {S S':St C},S.kQ news=some S'→S'.env=S.env∧S'.base=S.base∧(∀ j,lk S'.aj j=lk (news++S.aj) j)∧∀ j ob,lk news j=some ob→fT S j
 | [],S,S',h=>by simp only [St.kQ,Option.some.injEq] at h;subst h;exact ⟨rfl,rfl,fun j=>rfl,fun j ob h=>by simp [lk] at h⟩
 | (id,ob)::r,S,S',h=>by
  simp only [St.kQ] at h;split at h
  ·rename_i S1 h1
   obtain ⟨hn,rfl⟩:=jH h1;obtain ⟨g1,g2,g3,g4⟩:=qh h
   have hne:∀ j dR,lk r j=some dR→j≠id:=fun j dR hj e=>by
    subst e;have:=(g4 j dR hj).2;exact this (by cases ob<;>simp [St.setObj,dX])
   refine ⟨g1,g2,fun j=>?_,fun j dR hj=>?_⟩
   ·rw [g3,dc,List.cons_append,aQ,dc]
    simp only [St.setObj,aQ]
    cases e:lk r j with
    | some dR=>have:=hne j dR e;simp [this]
    | none=>split<;>simp_all
   ·rw [aQ] at hj
    split at hj
    ·rename_i e;subst e;exact hn
    ·have:=g4 j dR hj
     refine ⟨this.1,fun hm=>this.2 ?_⟩;cases ob<;>simp [St.setObj,dX,hm]
  ·cases h
theorem nI:∀ (ls:List (Lf C)) (id:Nat),(intern id ls).1.length=ls.length
 | [],id=>rfl
 | l::r,id=>by cases l<;>simp [intern,nI r]
theorem xS:∀ (ls:List (Lf C)) (id m:Nat) (l:Lf C),(intern id ls).1[m]?=some l →
  (∃ t xs,ls[m]?=some (.row t xs)∧l = .ref (id+m) []∧lk (intern id ls).2 (id+m)=some (.row t xs false))∨(ls[m]?=some l∧∀ t xs,l ≠ .row t xs)
 | [],id,m,l,h=>by simp [intern] at h
 | x::r,id,m,l,h=>by
  have ih:=xS r (id+1)
  cases m with
  | zero=>
   cases x with
   | row t xs=>simp [intern] at h;exact .inl ⟨t,xs,rfl,h.symm,by simp [intern,aQ]⟩
   | _=>simp [intern] at h;subst h;exact .inr ⟨rfl,fun t xs=>by simp⟩
  | succ m=>
   have hm:(intern (id+1) r).1[m]?=some l:=by cases x<;>simpa [intern] using h
   rcases ih m l hm with ⟨t,xs,h1,h2,h3⟩ | h1
   ·refine .inl ⟨t,xs,by simpa using h1,by rw [h2];congr 1;omega,?_⟩
    have e:id+1+m=id+(m+1):=by omega
    rw [e] at h3
    cases x with
    | row t' ys=>rw [show (intern id (Lf.row t' ys::r)).2=(id,.row t' ys false)::(intern (id+1) r).2 from rfl,aQ,if_neg (by omega)];exact h3
    | _=>exact h3
   ·exact .inr (by simpa using h1)
theorem tZ:∀ (ls:List (Lf C)) (id j:Nat) (ob:Ob C),lk (intern id ls).2 j=some ob→∃ m t xs,j=id+m∧ls[m]?=some (.row t xs)∧ob = .row t xs false
 | [],id,j,ob,h=>by simp [intern,lk] at h
 | x::r,id,j,ob,h=>by
  have ih:=tZ r (id+1) j ob
  have up:lk (intern (id+1) r).2 j=some ob→∃ m t xs,j=id+m∧(x::r)[m]?=some (.row t xs)∧ob = .row t xs false:=fun h=>by
   obtain ⟨m,t,xs,h1,h2,h3⟩:=ih h;exact ⟨m+1,t,xs,by omega,by simpa using h2,h3⟩
  cases x with
  | row t xs=>
   rw [show (intern id (Lf.row t xs::r)).2=(id,.row t xs false)::(intern (id+1) r).2 from rfl,aQ] at h;split at h
   ·rename_i e;cases h;exact ⟨0,t,xs,by omega,rfl,rfl⟩
   ·exact up h
  | _=>exact up h
theorem sS:∀ (rs:List (Bool×List (Lf C))) (id m:Nat) (l:Lf C),(flatten (bN id rs).1)[m]?=some l →
  (∃ t xs,(flatten rs)[m]?=some (.row t xs)∧l = .ref (id+m) []∧lk (bN id rs).2 (id+m)=some (.row t xs false))∨((flatten rs)[m]?=some l∧∀ t xs,l ≠ .row t xs)
 | [],id,m,l,h=>by simp [bN,flatten] at h
 | (b,ls)::r,id,m,l,h=>by
  simp only [bN,flatten] at h
  rcases C8 h with ⟨hj,hx⟩ | ⟨hj,hx⟩
  ·rw [nI] at hj
   rcases xS ls id m l hx with ⟨t,xs,h1,h2,h3⟩ | ⟨h1,h2⟩
   ·exact .inl ⟨t,xs,by simp only [flatten];rw [List.getElem?_append_left hj];exact h1,h2,by simp only [bN];rw [dc,h3]⟩
   ·exact .inr ⟨by simp only [flatten];rw [List.getElem?_append_left hj];exact h1,h2⟩
  ·rw [nI] at hj hx
   have e:id+ls.length+(m-ls.length)=id+m:=by omega
   rcases sS r (id+ls.length) (m-ls.length) l hx with ⟨t,xs,h1,h2,h3⟩ | ⟨h1,h2⟩
   ·rw [e] at h2 h3
    refine .inl ⟨t,xs,by simp only [flatten];rw [List.getElem?_append_right hj];exact h1,h2,?_⟩;simp only [bN];rw [dc]
    cases e2:lk (intern id ls).2 (id+m) with
    | none=>exact h3
    | some ob=>
     obtain ⟨m',t',xs',q1,q2,q3⟩:=tZ ls id _ ob e2;have:=ee q2;omega
   ·exact .inr ⟨by simp only [flatten];rw [List.getElem?_append_right hj];exact h1,h2⟩
theorem rn:∀ (rs:List (Bool×List (Lf C))) (id j:Nat) (ob:Ob C),lk (bN id rs).2 j=some ob→∃ m t xs,j=id+m∧(flatten rs)[m]?=some (.row t xs)∧ob = .row t xs false
 | [],id,j,ob,h=>by simp [bN,lk] at h
 | (b,ls)::r,id,j,ob,h=>by
  simp only [bN] at h;rw [dc] at h;split at h
  ·rename_i dR h1
   cases h;obtain ⟨m,t,xs,q1,q2,q3⟩:=tZ ls id j ob h1;exact ⟨m,t,xs,q1,by simp only [flatten];rw [List.getElem?_append_left (ee q2)];exact q2,q3⟩
  ·obtain ⟨m,t,xs,q1,q2,q3⟩:=rn r _ j ob h
   refine ⟨ls.length+m,t,xs,by omega,?_,q3⟩;simp only [flatten];rw [List.getElem?_append_right (by omega),Nat.add_sub_cancel_left];exact q2
def eT:List (Bool×List (Lf C))→List (Bool×Nat)
 | []=>[]
 | (b,ls)::r=>(b,ls.length)::eT r
theorem mB:∀ {rs rs':List (Bool×List (Lf C))} {us:List Value},eT rs=eT rs'→dh rs us=dh rs' us
 | [],[],us,h=>rfl
 | [],(b,ls)::r,us,h=>by simp [eT] at h
 | (b,ls)::r,[],us,h=>by simp [eT] at h
 | (b,ls)::r,(b',ls')::r',us,h=>by
  simp only [eT,List.cons.injEq,Prod.mk.injEq] at h;obtain ⟨⟨rfl,hl⟩,hr⟩:=h;have ih:=mB (us:=us.drop ls.length) hr;simp only [dh,hl] at ih ⊢;rw [ih];cases b<;>rfl
theorem lE {rs rs':List (Bool×List (Lf C))} {us:List Value} (h:eT rs=eT rs'):pack rs us=pack rs' us:=by
 unfold pack;rw [mB h]
theorem ic:∀ {rs rs':List (Bool×List (Lf C))},eT rs=eT rs'→fO rs=fO rs'
 | [],[],h=>rfl
 | [],(b,ls)::r,h=>by simp [eT] at h
 | (b,ls)::r,[],h=>by simp [eT] at h
 | (b,ls)::r,(b',ls')::r',h=>by
  simp only [eT,List.cons.injEq,Prod.mk.injEq] at h;obtain ⟨⟨rfl,hl⟩,hr⟩:=h;simp only [fO,hl,ic hr]
theorem js:∀ (rs:List (Bool×List (Lf C))) (id:Nat),eT (bN id rs).1=eT rs
 | [],id=>rfl
 | (b,ls)::r,id=>by simp [bN,eT,nI,js r]
theorem Za {K:Cd C} {aj:cm C} {b8:Nat→Prop} {b:Bool} {ls:List (Lf C)} {us:List Value} (hok:(b||Nat.beq ls.length 1)=true) (hl:cg K w aj β fp b8 ls us):gL K w aj β fp b8 (b,ls) (ml (b,ls) us):=by
 cases b with
 | true=>exact ⟨us,rfl,hl⟩
 | false=>
  simp only [Bool.false_or] at hok;have h1:=Nat.eq_of_beq_eq_true hok;obtain ⟨l,rfl⟩:=List.length_eq_one_iff.1 h1;obtain ⟨u,rfl⟩:=List.length_eq_one_iff.1 (hl.1.trans h1);exact ⟨l,rfl,hl.2 0 l rfl⟩
theorem qP {K:Cd C} {aj:cm C} {b8:Nat→Prop}:∀ {rs:List (Bool×List (Lf C))} {us:List Value},fO rs=true→cg K w aj β fp b8 (flatten rs) us →
  (dh rs us).length=rs.length∧∀ (i:Nat) (x:Bool×List (Lf C)),rs[i]?=some x→gL K w aj β fp b8 x ((dh rs us).getD i undef)
 | [],us,_,_=>⟨rfl,fun i x h=>by simp at h⟩
 | (b,ls)::r,us,hok,hl=>by
  simp only [fO,Bool.and_eq_true] at hok
  have hlen:us.length=ls.length+(flatten r).length:=by have:=hl.1;simpa [flatten] using this
  have h1:cg K w aj β fp b8 ls (us.take ls.length):=⟨by simp;omega,fun i l hi=>by
   have hlt:=ee hi;have:=hl.2 i l (by simp only [flatten];rw [List.getElem?_append_left hlt];exact hi)
   have e:(us.take ls.length).getD i undef=us.getD i undef:=by simp [List.getD,List.getElem?_take,hlt]
   rw [e];exact this⟩
  have h2:cg K w aj β fp b8 (flatten r) (us.drop ls.length):=⟨by simp;omega,fun i l hi=>by
   have:=hl.2 (ls.length+i) l (by simp only [flatten];rw [List.getElem?_append_right (by omega),Nat.add_sub_cancel_left];exact hi)
   have e:(us.drop ls.length).getD i undef=us.getD (ls.length+i) undef:=by simp [List.getD]
   rw [e];exact this⟩
  have ih:=qP hok.2 h2;refine ⟨by simp [dh,ih.1],fun i x hi=>?_⟩
  cases i with
  | zero=>simp at hi;subst hi;exact Za hok.1 h1
  | succ i=>exact ih.2 i x (by simpa using hi)
theorem wW {K:Cd C} {aj:cm C} {b8:Nat→Prop} {rs:List (Bool×List (Lf C))} {us:List Value} {v:SV C} (hok:fO rs=true) (hv:tf rs=some v) (hl:cg K w aj β fp b8 (flatten rs) us):dq K w aj β fp b8 v (pack rs us):=by
 obtain ⟨h1,h2⟩:=qP hok hl;unfold tf at hv;split at hv
 ·rename_i l
  cases hv;obtain ⟨l',e,h3⟩:=h2 0 _ rfl;cases e;exact h3
 ·rename_i ls
  cases hv;exact h2 0 _ rfl
 ·cases hv
 ·rename_i hn1 hn2 hn3
  cases hv
  have hne:rs.length≠1:=fun e=>by
   obtain ⟨x,rfl⟩:=List.length_eq_one_iff.1 e;exact hn3 x rfl
  refine ⟨dh rs us,?_,h1,h2⟩;unfold pack;split
  ·rename_i u hu
   rw [hu] at h1;exact absurd h1.symm hne
  ·rfl
theorem O2 {K:Cd C} {b b':Nat} {F:Nat→Prop} {l:Lf C} {v:Value} (h:Own K w b F l v) (hb:b'≤b):Own K w b' F l v:=by
 induction h with
 | int=>exact .int ..
 | bool=>exact .bool ..
 | str=>exact .str ..
 | dP=>exact .dP ..
 | row F t xs v cells G h hF hG hd _ ih=>exact .row F t xs v cells G (tH h hb) hF hG hd ih
theorem kg:∀ {rs rs':List (Bool×List (Lf C))},eT rs=eT rs'→(flatten rs).length=(flatten rs').length
 | [],[],h=>rfl
 | [],(b,ls)::r,h=>by simp [eT] at h
 | (b,ls)::r,[],h=>by simp [eT] at h
 | (b,ls)::r,(b',ls')::r',h=>by
  simp only [eT,List.cons.injEq,Prod.mk.injEq] at h;simp [flatten,h.1.2,kg h.2]
theorem mX {f:Nat} {us:Array Value} {fn:Func} (s7:P.funcs[f]?=some fn) (sD:fn.body.isNone=false) (vu:fn.name ≠ "runtime.NumGoroutine"):(callFunc f us).run P w = .ok (.enter f us) w:=by
 have Qe:(fn.name == "runtime.NumGoroutine")=false:=by simpa using vu
 simp [callFunc,s7,sD,Qe];rw [if_neg vu,if_neg (by intro hb;simp [hb] at sD)]
theorem Jp (hs:cK X.K w0 nt S β fp a w) {o:Oper} {c:iu C} {f:Nat} (hc:cL P X.K f c) {pre post:List (SV C)} {pu qu:List Value} {as:List Operand} {ts:List TypeId}
  (h:qD X c S pre as ts post o k=some r) (hpre:gx X.K w S.aj β fp (aH S.aj fp w) pre pu) (sC:gx X.K w S.aj β fp (aH S.aj fp w) post qu)
  (ij:∀ fn,P.funcs[f]?=some fn→fn.body.isNone=false→fn.name ≠ "runtime.NumGoroutine" → (execOp a.eval o).run P w = .ok (.enter f (pu++(as.map a.eval++qu)).toArray) w) (hd:slot o.dst nt):Goal P X w0 nt k r Q o a w:=by
 rw [sP] at h;unfold yx at h;split at h
 case h_2=>cases h
 rename_i vs hvs
 cases hg:c.g vs with
 | none=>rw [hg] at h;cases h
 | some r0=>
  rw [hg] at h;simp only [Option.bind_some] at h;obtain ⟨⟨fn,s7,sD,vu⟩,mG⟩:=hc
  cases UJ:c.nz with
  | true=>
   rw [UJ] at h;simp only at h;split at h
   case h_2=>cases h
   rename_i t xs hret;obtain ⟨hl,hargs⟩:=F3 hs hvs hpre sC;have hcall:=mG w vs _ r0 (X.K.AP _ _ hs.defers.2 hs.below) hl hargs hg;show o.wp P a w (Next X.K w0 nt k r) Q;unfold Oper.wp;rw [ij fn s7 sD vu];show Calls P f _ w _
   refine hcall.mono fun en w' ⟨v0,he,hb,⟨us,G,hp,xV,hok,Ft,Tq,Iq⟩,hz⟩=>?_
   subst he;rw [hret] at hp xV Iq;have ga:=hs.De hb (news:=[]) (S:=S) (fun j ob hj=>by simp [lk] at hj) (hv:=β) (F:=fp) (fun id ob k hi _=>by simp [lk] at hi) (fun i j oi oj k hi _ _ _=>by simp [lk] at hi) (fun i ob hi=>by simp [lk] at hi)
   have xW:cK X.K w0 nt S β fp a w':=by simpa [lk] using ga
   obtain ⟨u,rfl⟩:=List.length_eq_one_iff.1 (show us.length=1 from xV);have hv0:v0=u:=hp;subst hv0;have hO:=Iq 0 (.row t xs) rfl
   have hst:∀ k,G 0 k→aH S.aj fp w' k:=fun k hk=>⟨(Ft 0 k hk).2,fun id ob hi hf=>by
    have:=(hs.fresh id ob k hi hf).2;have:=(Ft 0 k hk).1
    omega⟩
   cases xs with
   | nil=>exact bw xW hd (v:=.one (.nil t)) (hz UJ t hret) h
   | cons x xs=>exact bw xW hd (v:=.one (.row t (x::xs))) ((Own.rep hO).mono hst) h
  | false=>
  rw [UJ] at h;simp only at h;split at h
  case h_2=>cases h
  rename_i v S' hv gB;obtain ⟨hl,hargs⟩:=F3 hs hvs hpre sC;have hcall:=mG w vs _ r0 (X.K.AP _ _ hs.defers.2 hs.below) hl hargs hg;show o.wp P a w (Next X.K w0 nt k r) Q;unfold Oper.wp;rw [ij fn s7 sD vu];show Calls P f _ w _
  refine hcall.mono fun en w' ⟨v0,he,hb,⟨us,G,hp,xV,hok,Ft,Tq,Iq⟩,_⟩=>?_
  subst he
  cases qZ:c.frz with
  | true=>
   simp only [ET,qZ] at hv gB
   have hS':S=S':=by simpa [St.kQ] using gB
   subst hS';have ga:=hs.De hb (news:=[]) (S:=S) (fun j ob hj=>by simp [lk] at hj) (hv:=β) (F:=fp) (fun id ob k hi _=>by simp [lk] at hi) (fun i j oi oj k hi _ _ _=>by simp [lk] at hi) (fun i ob hi=>by simp [lk] at hi)
   have xW:cK X.K w0 nt S β fp a w':=by simpa [lk] using ga
   have hval:cg X.K w' S.aj β fp (aH S.aj fp w') (flatten (c.ret r0)) us:=by
    refine ⟨xV,fun m l hm=>?_⟩;have hO:=Iq m l hm
    have hst:∀ k,G m k→aH S.aj fp w' k:=fun k hk=>⟨(Ft m k hk).2,fun id ob hi hf=>by
     have:=(hs.fresh id ob k hi hf).2;have:=(Ft m k hk).1
     omega⟩
    cases l with
    | row t xs=>exact (Own.rep hO).mono hst
    | _=>exact qQ hO (by intro t xs e;cases e)
   have hsv:=wW hok hv hval;rw [←hp] at hsv;exact bw xW hd hsv h
  | false=>
  simp only [ET,qZ] at hv gB
  let dF:=bP X S o
  let news:=(bN dF (c.ret r0)).2
  obtain ⟨g1,g2,g3,g4⟩:=qh gB;have hsz0:=hs.below.size
  have hF:∀ id ob k,lk news id=some ob→G (id-dF) k→w.heap.size≤k∧k<w'.heap.size:=fun id ob k _ hk=>Ft _ k hk
  have ga:=hs.De hb (news:=news) g4 (hv:=fun id=>us.getD (id-dF) undef) (F:=fun id=>G (id-dF)) hF
   (fun i j oi oj k hi hj lq kE=>by
    obtain ⟨m,t,xs,q1,q2,q3⟩:=rn _ _ _ _ hi;obtain ⟨m',t',xs',Np,Wu,q3'⟩:=rn _ _ _ _ hj;have:=Tq _ _ k lq kE
    omega)
   (fun i ob hi=>by
    obtain ⟨m,t,xs,q1,q2,q3⟩:=rn _ _ _ _ hi
    have e:i-dF=m:=by omega
    refine ⟨t,xs,q3,?_⟩;simp only [e]
    exact O2 (Iq m _ q2) hsz0)
  have Ff:=ga.sub (O:=S'.aj) (fun j ob hj=>by rw [←g3 j];exact hj)
  have hS':({ S with aj:=S'.aj }:St C)=S':=by
   obtain ⟨e1,o1,b1⟩:=S';rw [St.mk.injEq];exact ⟨g1.symm,rfl,g2.symm⟩
  have xW:=Ff;rw [hS'] at xW;have hsh:=js (c.ret r0) dF
  have hval:cg X.K w' S'.aj (fun i=>if (lk news i).isSome then us.getD (i-dF) undef else β i) (fun i k=>if (lk news i).isSome then G (i-dF) k else fp i k) (aH S'.aj (fun i k=>if (lk news i).isSome then G (i-dF) k else fp i k) w') (flatten (bN dF (c.ret r0)).1) us:=by
   refine ⟨by rw [xV,kg hsh],fun m l hm=>?_⟩
   rcases sS (c.ret r0) dF m l hm with ⟨t,xs,q1,q2,q3⟩ | ⟨q1,q2⟩
   ·subst q2
    have hO:=Iq m _ q1;refine ⟨hO.one,?_⟩
    have e:dF+m-dF=m:=by omega
    have e2:lk news (dF+m)=some (.row t xs false):=q3;simp only [e2,Option.isSome_some,if_true,e]
   ·exact qQ (Iq m l q1) q2
  have hsv:=wW (by rw [ic hsh];exact hok) hv hval;rw [lE hsh (us:=us),← hp] at hsv;exact bw xW hd hsv h
theorem JZ (hs:cK X.K w0 nt S β fp a w):∀ {vs:List (SV C)} {us:List Value} {qs:List Value},Mm vs=some us→qs.length=vs.length→(∀ (i:Nat) (v:SV C),vs[i]?=some v→dq X.K w S.aj β fp (aH S.aj fp w) v (qs.getD i undef))→qs=us
 | [],us,qs,h,hl,hv=>by
  simp only [Mm,Option.some.injEq] at h;subst h;exact List.length_eq_zero_iff.1 hl
 | v::vs,us,qs,h,hl,hv=>by
  cases v with
  | one l=>
   simp only [Mm] at h;split at h
   case h_2=>cases h
   rename_i u np h1 h2;cases h
   cases qs with
   | nil=>simp at hl
   | cons q qs=>
    have e:=JZ hs (qs:=qs) h2 (by simpa using hl) fun i v hi=>by simpa using hv (i+1) v (by simpa using hi)
    have hq:dq X.K w S.aj β fp (aH S.aj fp w) (.one l) q:=by simpa using hv 0 _ rfl
    rw [e]
    congr 1
    cases l with
    | int k n=>simp only [lfV,Option.some.injEq] at h1;rw [←h1];exact hq
    | bool b=>simp only [lfV,Option.some.injEq] at h1;rw [←h1];exact hq
    | str s=>simp only [lfV,Option.some.injEq] at h1;rw [←h1];exact hq
    | _=>simp [lfV] at h1
  | _=>simp [Mm] at h
theorem s_ext (hX:jk P X) (hs:cK X.K w0 nt S β fp a w) {o:Oper} {f:FuncId} {e:List Value→Option Value} (he:X.ext f=some e) {as:Array Operand} {ts:Array TypeId}
  (hi:X.ins f=none) (h:pz X S f as.toList ts.toList o k=some r) (hd:slot o.dst nt) (ho:o.op = .call { callee:=.value (.func f),args:=as,argTypes:=ts }):Goal P X w0 nt k r Q o a w:=by
 simp only [pz,hi,he] at h;split at h
 case h_2=>cases h
 rename_i vs hvs;split at h
 case h_2=>cases h
 rename_i us DA;split at h
 case h_2=>cases h
 rename_i v hv;split at h
 case h_2=>cases h
 rename_i l hl;obtain ⟨h1,h2⟩:=sQ hs hvs;have hq:=JZ hs DA (by simpa using h1.symm) h2;have hrun:=hX.ext f e he us v hv w;refine bu (v:=v) ?_ (bw hs hd (v:=.one l) ?_ h)
 ·obtain ⟨dst,op,ty,pos,dG,gd⟩:=o
  have ho:op=_:=ho;subst ho
  have e1:(as.map a.eval)=us.toArray:=by rw [←hq,← Array.toList_map,Array.toArray_toList]
  simp [execOp,resolve,Deferred.ofValue,invoke,Act.eval] at hrun ⊢
  first | (rw [←e1] at hrun;simpa [Act.eval] using hrun) | (rw [e1];exact hrun)
 ·cases v<;>simp only [vLf,Option.some.injEq,reduceCtorEq] at hl<;>(rw [←hl];rfl)
theorem s_ins (hX:jk P X) (hs:cK X.K w0 nt S β fp a w) {o:Oper} {f:FuncId} {t:Ty} (he:X.ins f=some t) {as:List Operand} {ts:List TypeId}
  (h:Mr X t S as ts o k=some r) (hd:slot o.dst nt)
  (ij:∀ fn,P.funcs[f]?=some fn→fn.body.isNone=false→fn.name ≠ "runtime.NumGoroutine" → (execOp a.eval o).run P w = .ok (.enter f (as.map a.eval).toArray) w):Goal P X w0 nt k r Q o a w:=by
 unfold Mr at h;split at h
 case h_2=>cases h
 rename_i s i x T T1 T';split at h
 case h_2=>cases h
 rename_i l n id hl0 hi0 hx0;split at h
 case h_2=>cases h
 rename_i t1 ys sh ho;have h':=az h;clear h;obtain ⟨hc,h⟩:=h';simp only [Bool.and_eq_true,decide_eq_true_eq] at hc;obtain ⟨⟨hy1,e1⟩,h0⟩:=hc;have hy1:=Nat.eq_of_beq_eq_true hy1;subst e1;have hl:=fG (dH hs hl0);have hx:cI X.K w S.aj β fp (aH S.aj fp w) (.ref id []) (a.eval x):=fG (bV hs hx0);have hi:a.eval i = .int .i64 n:=bV hs hi0;have fW:=hs.aj id _ ho;obtain ⟨gs,g1,g2,g3⟩:=oP fW
 have hh:Handed X.K w w0.heap.size (aH S.aj fp w) (iM fp (some id)) t1 ys (a.eval x) sh:=by rw [hx.2];exact ua fW
 have rD:a.eval x=β id:=hx.2
 have fin:∀ {t0:Ty} {xs:List (C t0)} {dF:Option Nat} {gA:Bool},n≤(xs.length:Int) →
   pD (some n.toNat) X o S t1 t0 t1 xs ys dF (some id) (gA||sh) k=some r→(∀ i,dF=some i→some id≠some i) →
   (∃ cs,w.ownsRow w0.heap.size (X.K.tid t0) (X.K.sz t0) (a.eval s) xs.length cs∧(∀ g,(a.eval s).ownBlock=some g→iM fp dF g)∧kW X.K w w0.heap.size (aH S.aj fp w) (iM fp dF) t0 xs (a.eval s).ownBlock (fun m=>cs.getD m undef) gA) →
   (∀ i,dF=some i→∃ ob,lk S.aj i=some ob)→Goal P X w0 nt k r Q o a w:=by
  intro t0 xs dF gA hn ha hne hb h0';obtain ⟨cs,A,c,f',e0,_,hown,ME,hA,h1,h2,Qh,MJ,K⟩:=Bv hX hs hd rfl ha hne (fun i e=>by cases e;omega) hb h0' (fun i e=>by cases e;exact ⟨_,ho⟩) hh (fun i g e hg=>by cases e;rw [rD] at hg;exact g2 g hg);subst e0
  have hg1:w.ownsRow w0.heap.size (X.K.tid t0) (X.K.sz t0) (a.eval x) 1 gs:=by rw [rD];rw [hy1] at g1;exact g1
  have hgs:(List.range (ys.length*X.K.sz t0)).map f'=gs:=by
   have UO:gs.length=ys.length*X.K.sz t0:=by rw [hg1.1,hy1]
   obtain ⟨g,cap,e',_,_,hcell⟩:=kJ hg1 (by have:=X.K.pos t0;omega);obtain ⟨p,eA,hp⟩:=hA (by omega);rw [ME] at e';injection e' with q1 q2 q3;rw [q1] at eA;cases eA;apply List.ext_getElem
   ·simp [UO]
   ·intro m zA CL
    have hm:m<ys.length*X.K.sz t0:=by simpa using zA
    have q4:=hp m hm;rw [hcell m (by rw [←hy1];exact hm)] at q4;have q4:=Option.some.inj q4;simp [List.getD_eq_getElem?_getD,CL] at q4 ⊢;exact q4.symm
  have hone:∀ u,u∈gs→u.oneCell'=true:=fun u hu=>by
   rw [←hgs] at hu;obtain ⟨m,hm,rfl⟩:=List.mem_map.1 hu;exact h1 m (by simpa using hm)
  have hone2:∀ u,u∈cs→u.oneCell'=true:=fun u hu=>by
   obtain ⟨m,hm,rfl⟩:=List.getElem_of_mem hu;have:=h2 m (by rw [←hown.1];exact hm)
   simpa [List.getD_eq_getElem?_getD,hm] using this
  obtain ⟨⟨fn,s7,sD,vu⟩,hins⟩:=hX.ins f t0 he;have hcall:=hins w w0.heap.size (a.eval s) (a.eval x) xs.length n.toNat cs gs hown hg1 hs.below.size (by omega) (by rw [hy1] at Qh;exact Qh) (fun g hg=>(MJ g hg).elim (fun h=>h) fun h=>by cases h) hone2 hone;show o.wp P a w (Next X.K w0 nt k r) Q;unfold Oper.wp;rw [ij fn s7 sD vu]
  have hargs:(List.map a.eval [s,i,x]).toArray = #[a.eval s,.int .i64 (n.toNat:Nat),a.eval x]:=by
   simp [hi];omega
  rw [hargs];show Calls P f _ w _
  refine hcall.mono fun en w' ⟨v0,he,q1,q2,q3⟩=>?_
  subst he;refine K v0 w' ?_ q2 q3;rw [hgs,hy1];exact q1
 clear hl0;split at h
 ·rename_i t0
  obtain ⟨hn,h⟩:=az h;have hn:=of_decide_eq_true hn;have e:a.eval s = .slice none 0 0:=hl;refine fin (xs:=([]:List (C t0))) (gA:=false) (by simp [hn]) (by simpa using h) (fun i e=>by cases e) ?_ (fun i e=>by cases e);rw [e];exact ⟨[],World.ownsRow_nil ..,fun g hg=>by simp [Value.ownBlock] at hg,qc⟩
 ·rename_i dF
  obtain ⟨hne,h⟩:=eQ h;split at h
  ·rename_i t0 xs gA v8
   obtain ⟨hn,h⟩:=az h;have hn:=of_decide_eq_true hn;refine fin hn h (fun i e e'=>?_) ?_ (fun i e=>by cases e;exact ⟨_,v8⟩)
   ·cases e;cases e';simp [Nat.beq_refl] at hne
   ·rw [hl.2]
    exact oP (hs.aj dF _ v8)
  ·cases h
 ·cases h
theorem s_call (hX:jk P X) (hcon:∀ f c,X.KM f=some c→cL P X.K f c) (hs:cK X.K w0 nt S β fp a w) (hd:slot dst nt) {f:FuncId} {as:Array Operand} {ts:Array TypeId}
  (h:ev X ⟨dst,.call { callee:=.value (.func f),args:=as,argTypes:=ts },ty,pos,dG,gd⟩ S k=some r)
  (hW:∀ o:Oper,o=⟨dst,.call { callee:=.value (.func f),args:=as,argTypes:=ts },ty,pos,dG,gd⟩→(match X.yt f with | some _=>uZ X S f as.toList ts.toList o k | none=>pz X S f as.toList ts.toList o k)=some r→Goal P X w0 nt k r Q o a w) :
  Goal P X w0 nt k r Q ⟨dst,.call { callee:=.value (.func f),args:=as,argTypes:=ts },ty,pos,dG,gd⟩ a w:=by
 generalize ho:(⟨dst,.call { callee:=.value (.func f),args:=as,argTypes:=ts },ty,pos,dG,gd⟩:Oper)=o at h ⊢
 have WU:o.dst=dst:=by rw [←ho]
 subst WU
 have hev:ev X o S k=match X.KM f with
   | some c'=>qD X c' S [] as.toList ts.toList [] o k
   | none=>(match X.yt f with | some _=>uZ X S f as.toList ts.toList o k | none=>pz X S f as.toList ts.toList o k):=by rw [←ho];rfl
 rw [hev] at h;split at h
 ·rename_i c hc
  refine Jp hs (hcon f c hc) h .nil .nil (fun fn s7 sD vu=>?_) hd
  have e:([]++(as.toList.map a.eval++[]):List Value).toArray=as.map a.eval:=by rw [List.nil_append,List.append_nil,← Array.toList_map,Array.toArray_toList]
  rw [e,← mX (us:=as.map a.eval) s7 sD vu,← ho];simp [execOp,resolve,Deferred.ofValue,invoke,Act.eval]
 ·rw [←ho];rw [←ho] at h;exact hW _ rfl h
end
section
variable {Ty:Type} [DecidableEq Ty] {C:Ty→Type}
variable {P:Program} {X:Cx C} {w0 w:World} {nt:Nat} {S:St C} {β:Nat→Value} {fp:Nat→Nat→Prop} {a:Act} {R:Type} {k:St C→Option R} {r:R}
def rowsOf:List (Lf C)→List Value→List Value
 | .row _ _::r,u::us=>u::rowsOf r us
 | _::r,_::us=>rowsOf r us
 | _,_=>[]
def uy (P:Program) (K:Cd C) (f:Nat) (c:rA C):Prop:=
 (∃ fn,P.funcs[f]?=some fn∧fn.body.isNone=false∧fn.name ≠ "runtime.NumGoroutine") ∧
 ∀ (w0 w:World) (rs:List (Bool×List (Lf C))) (kG:List Value) (r0:c.R0) (G:Nat→Nat→Prop),K.inv w0→Below w0.heap.size w0 w→fO rs=true→kG.length=(flatten rs).length →
  (∀ m k,G m k→w0.heap.size≤k∧k<w.heap.size)→(∀ m m' k,G m k→G m' k→m=m') →
  (∀ (m:Nat) (l:Lf C),(flatten rs)[m]?=some l→l.plain=true∧Own K w w0.heap.size (G m) l (kG.getD m undef))→c.g rs=some r0 →
  Calls P f (dh rs kG).toArray w fun e w'=>∃ v,e = .returned v∧Below w0.heap.size w0 w'∧(∀ k,k<w.heap.size→(∀ m,¬ G m k)→k<w'.heap.size∧w'.heap[k]?=w.heap[k]?) ∧
   ∃ (nA:List Value) (G':Nat→Nat→Prop),v=pack (c.ret r0) nA∧nA.length=(flatten (c.ret r0)).length∧fO (c.ret r0)=true∧(c.out r0).length=(rowsOf (flatten rs) kG).length ∧
    (∀ m k,G' m k→((∃ m0,G m0 k)∨w.heap.size≤k)∧w0.heap.size≤k∧k<w'.heap.size)∧(∀ m m' k,G' m k→G' m' k→m=m') ∧
    ∀ (m:Nat) (l:Lf C),(c.out r0++flatten (c.ret r0))[m]?=some l→Own K w' w0.heap.size (G' m) l ((rowsOf (flatten rs) kG++nA).getD m undef)
theorem Ua {K:Cd C} {base:Nat} {F:Nat→Prop} (t:Ty):Own K w base F (.row t []) (.slice none 0 0):=
 .row F t [] _ [] (fun _ _ _=>False) (World.ownsRow_nil ..) (fun g hg=>by simp [Value.ownBlock] at hg) (fun _ _ _ h=>h.elim) (fun _ _ _ _ _ h=>h.elim) (fun j hj=>absurd hj (by simp))
theorem T9 {K:Cd C} {F0:Nat→Prop} {base:Nat} {t:Ty} {xs:List (C t)} {v:Value} {p:List (Nat×Nat)} {t':Ty} {zs:List (C t')} {v':Value}
  (h:ow K w F0 t xs v p t' zs v'):∀ F,Own K w base F (.row t xs) v→∃ F1,(∀ k,F1 k→F k)∧Own K w base F1 (.row t' zs) v' ∧
   ∀ (w':World) (NF:Nat→Prop) (l:Lf C),(∀ k,F k→¬ F1 k→w'.heap[k]?=w.heap[k]?)→(∀ k,NF k→F1 k∨¬ F k)→Own K w' base NF l v' →
    ∀ (R:Type) (kk:List (C t)→Option R) (r:R),setPath K p t xs l kk=some r→∃ xs',kk xs'=some r∧Own K w' base (fun k=>(F k∧¬ F1 k)∨NF k) (.row t xs') v:=by
 induction h with
 | nil t xs v=>
  intro F hO;refine ⟨F,fun _ h=>h,hO,fun w' NF l _ _ hl R kk r hs=>?_⟩
  cases l with
  | row t2 ys=>
   simp only [setPath] at hs;unfold kU at hs;split at hs
   ·rename_i Ti hy
    split at hy
    ·rename_i e _
     subst e;cases hy;exact ⟨ys,hs,hl.mono fun k hk=>.inr hk⟩
    ·cases hy
   ·cases hs
  | _=>simp [setPath] at hs
 | cons t xs v i o x t1 ys ad n c v1 p t' zs v' hx hl hv hF hc _ ih=>
  intro F hO
  cases hO with
  | row _ _ _ _ cells G0 h h1 h2 h3 h4=>
   have hi:=ee hx
   have rD:xs[i]=x:=by simpa [List.getElem?_eq_getElem hi] using hx
   have ho:o<K.sz t:=iH hl;have hpos:0<xs.length*K.sz t:=Nat.mul_pos (by omega) (K.pos t);obtain ⟨g,cap,e,hb,hn,hcell⟩:=kJ h hpos;have hv':=hv;rw [e] at hv';cases hv';have hm:i*K.sz t+o<xs.length*K.sz t:=iw hi ho;have J3:=hcell _ hm;rw [hc] at J3;cases J3;obtain ⟨F1,a1,a2,a3⟩:=ih (G0 i o) (h4 i hi o _ (by rw [rD];exact hl));refine ⟨F1,fun k hk=>(h2 i o k (a1 k hk)).1,a2,fun w' NF l qZ Nt hlO R kk r hs=>?_⟩;simp only [setPath,hx,Option.bind_some,hl] at hs;obtain ⟨Ti,hk,hO'⟩:=a3 w' NF l (fun k hk hn=>qZ k (h2 i o k hk).1 hn) (fun k hk=>(Nt k hk).imp id fun hn hg=>hn (h2 i o k hg).1) hlO R _ r hs;split at hk
   ·rename_i y hy
    have henc:=K.jD t _ _ hy;refine ⟨xs.set i y,hk,?_⟩
    have Ij:∀ j i' k,G0 j i' k→¬ (j=i∧i'=o)→¬ F1 k:=fun j i' k hk hne hf=>hne (h3 j i' i o k hk (a1 k hf))
    have hsame:∀ j i' k,G0 j i' k→¬ (j=i∧i'=o)→w'.heap[k]?=w.heap[k]?:=fun j i' k hk hne=>qZ k (h2 j i' k hk).1 (Ij j i' k hk hne)
    refine .row _ t (xs.set i y) v cells (fun j i' k=>if j=i∧i'=o then (G0 i o k∧¬ F1 k)∨NF k else G0 j i' k) (by rw [List.length_set];exact mD h fun g hg=>qZ g (h1 g hg) fun hf=>(h2 i o g (a1 g hf)).2 hg)
     (fun g hg=>.inl ⟨h1 g hg,fun hf=>(h2 i o g (a1 g hf)).2 hg⟩) (fun j i' k hk=>?_) (fun j i' j' i'' k hk hk'=>?_) (fun j hj i' l' hl'=>?_)
    ·split at hk
     ·rcases hk with ⟨hk,hn⟩ | hk
      ·exact ⟨.inl ⟨(h2 i o k hk).1,hn⟩,(h2 i o k hk).2⟩
      ·refine ⟨.inr hk,fun e=>?_⟩
       rcases Nt k hk with hf | hf
       ·exact (h2 i o k (a1 k hf)).2 e
       ·exact hf (h1 k e)
     ·rename_i hne
      exact ⟨.inl ⟨(h2 j i' k hk).1,Ij j i' k hk hne⟩,(h2 j i' k hk).2⟩
    ·have FP:∀ j i' k,G0 j i' k→((G0 i o k∧¬ F1 k)∨NF k)→j=i∧i'=o:=fun j i' k hk hk'=>by
      rcases hk' with hk' | hk'
      ·exact h3 j i' i o k hk hk'.1
      ·rcases Nt k hk' with hf | hf
       ·exact h3 j i' i o k hk (a1 k hf)
       ·exact absurd (h2 j i' k hk).1 hf
     split at hk<;>split at hk'
     ·rename_i e1 e2;exact ⟨e1.1.trans e2.1.symm,e1.2.trans e2.2.symm⟩
     ·rename_i e1 e2;exact absurd (FP j' i'' k hk' hk) e2
     ·rename_i e1 e2;exact absurd (FP j i' k hk hk') e1
     ·exact h3 j i' j' i'' k hk hk'
    ·have iK:j<xs.length:=by simpa using hj
     by_cases ej:j=i
     ·subst ej
      have e1:(xs.set j y)[j]=y:=by simp
      rw [e1,henc] at hl'
      by_cases eo:i'=o
      ·subst eo
       simp only [and_self,if_true]
       have:((K.enc t x).set i' (Lf.row t1 Ti))[i']?=some (.row t1 Ti):=by
        rw [List.getElem?_set];simp [show i'<(K.enc t x).length by rw [K.gH];exact ho]
       rw [this] at hl';cases hl';exact hO'
      ·rw [List.getElem?_set,if_neg (fun e=>eo e.symm)] at hl'
       exact ((h4 j iK i' l' (by rw [rD];exact hl')).frame fun k hk=>hsame j i' k hk fun h=>eo h.2).mono fun k hk=>by rw [if_neg (fun h=>eo h.2)];exact hk
     ·have e1:(xs.set i y)[j]=xs[j]:=by
       rw [List.getElem_set,if_neg (fun e=>ej e.symm)]
      rw [e1] at hl'
      exact ((h4 j iK i' l' hl').frame fun k hk=>hsame j i' k hk fun h=>ej h.1).mono fun k hk=>by rw [if_neg (fun h=>ej h.1)];exact hk
   ·cases hk
def IZ (K:Cd C) (w:World) (base:Nat) (S:St C) (β:Nat→Value) (fp:Nat→Nat→Prop) (F1:Nat→Prop) (u:Value):s9→Prop
 | none=>∀ k,¬ F1 k
 | some (id,p)=>∃ (t:Ty) (xs:List (C t)),lk S.aj id=some (.row t xs false)∧(∀ k,F1 k→fp id k) ∧
   ∀ (w':World) (NF:Nat→Prop) (l:Lf C),(∀ k,fp id k→¬ F1 k→w'.heap[k]?=w.heap[k]?)→(∀ k,NF k→F1 k∨¬ fp id k)→Own K w' base NF l u →
    ∀ (R:Type) (kk:List (C t)→Option R) (r:R),setPath K p t xs l kk=some r→∃ xs',kk xs'=some r∧Own K w' base (fun k=>(fp id k∧¬ F1 k)∨NF k) (.row t xs') (β id)
theorem Ub (hs:cK X.K w0 nt S β fp a w) {l:Lf C} {u:Value} (hl:cI X.K w S.aj β fp (aH S.aj fp w) l u) {kk:Lf C→s9→Option R} (h:HU X S l kk=some r) :
  ∃ (l':Lf C) (tg:s9) (F1:Nat→Prop),kk l' tg=some r∧l'.plain=true∧Own X.K w w0.heap.size F1 l' u∧IZ X.K w w0.heap.size S β fp F1 u tg:=by
 cases l with
 | ref id p=>
  simp only [HU] at h;split at h
  ·rename_i t xs ho
   have fW:Own X.K w w0.heap.size (fp id) (.row t xs) (β id):=hs.aj id _ ho
   have fin:∀ (t':Ty) (zs:List (C t')),ow X.K w (fp id) t xs (β id) p t' zs u→∃ (l':Lf C) (tg:s9) (F1:Nat→Prop),kk l' tg=some r∧l'.plain=true∧Own X.K w w0.heap.size F1 l' u∧IZ X.K w w0.heap.size S β fp F1 u tg:=fun t' zs hp=>by
    obtain ⟨F1,a1,a2,a3⟩:=T9 hp (fp id) fW;exact ⟨.row t' zs,some (id,p),F1,mR hp h,rfl,a2,t,xs,ho,a1,a3⟩
   cases p with
   | nil=>
    have e:u=β id:=hl.2;subst e;exact fin t xs (.nil ..)
   | cons s p=>
    obtain ⟨_,t',zs,hp⟩:=hl.2 t xs false ho;exact fin t' zs hp
  ·cases h
 | nil t=>
  have e:u = .slice none 0 0:=hl;subst e;exact ⟨.row t [],none,fun _=>False,h,rfl,Ua t,fun _ h=>h⟩
 | int ki n=>have e:u=_:=hl;subst e;exact ⟨_,none,fun _=>False,h,rfl,.int ..,fun _ h=>h⟩
 | bool b=>have e:u=_:=hl;subst e;exact ⟨_,none,fun _=>False,h,rfl,.bool ..,fun _ h=>h⟩
 | str s=>have e:u=_:=hl;subst e;exact ⟨_,none,fun _=>False,h,rfl,.str ..,fun _ h=>h⟩
 | _=>simp [HU] at h
def yH (K:Cd C) (w:World) (base:Nat) (S:St C) (β:Nat→Value) (fp G:Nat→Nat→Prop) (ls:List (Lf C)) (ts:List s9) (us:List Value):Prop:=
 us.length=ls.length∧ts.length=ls.length∧∀ (m:Nat) (l:Lf C),ls[m]?=some l→l.plain=true∧Own K w base (G m) l (us.getD m undef)∧∃ tg,ts[m]?=some tg∧IZ K w base S β fp (G m) (us.getD m undef) tg
theorem lA {K:Cd C} {base:Nat} {G G':Nat→Nat→Prop} {ls ls':List (Lf C)} {ts ts':List s9} {us np:List Value} (h:yH K w base S β fp G ls ts us) (h':yH K w base S β fp G' ls' ts' np) :
  yH K w base S β fp (fun m=>if m<ls.length then G m else G' (m-ls.length)) (ls++ls') (ts++ts') (us++np):=by
 refine ⟨by simp [h.1,h'.1],by simp [h.2.1,h'.2.1],fun m l hm=>?_⟩
 rcases C8 hm with ⟨hj,hx⟩ | ⟨hj,hx⟩
 ·have:=h.2.2 m l hx
  have e1:(us++np).getD m undef=us.getD m undef:=by simp [List.getD,List.getElem?_append_left (by rw [h.1];exact hj:m<us.length)]
  have e2:(ts++ts')[m]?=ts[m]?:=List.getElem?_append_left (by rw [h.2.1];exact hj);simp only [hj,if_true,e1,e2];exact this
 ·have:=h'.2.2 _ l hx
  have e1:(us++np).getD m undef=np.getD (m-ls.length) undef:=by simp [List.getD,List.getElem?_append_right (by rw [h.1];exact hj:us.length≤m),h.1]
  have e2:(ts++ts')[m]?=ts'[m-ls.length]?:=by rw [List.getElem?_append_right (by rw [h.2.1];exact hj),h.2.1]
  rw [e1,e2];simp only [show ¬ m<ls.length by omega,if_false];exact this
theorem oL (hs:cK X.K w0 nt S β fp a w):∀ {ls:List (Lf C)} {us:List Value} {kk:List (Lf C)→List s9→Option R},cg X.K w S.aj β fp (aH S.aj fp w) ls us→qA X S ls kk=some r →
  ∃ (ls':List (Lf C)) (ts:List s9) (G:Nat→Nat→Prop),kk ls' ts=some r∧ls'.length=ls.length∧yH X.K w w0.heap.size S β fp G ls' ts us
 | [],us,kk,hl,h=>⟨[],[],fun _ _=>False,h,rfl,by rw [hl.1],rfl,fun m l hm=>by simp at hm⟩
 | l::ls,us,kk,hl,h=>by
  obtain ⟨u,us,rfl⟩:∃ u np,us=u::np:=by
   cases us with
   | nil=>have:=hl.1;simp at this
   | cons u us=>exact ⟨u,us,rfl⟩
  simp only [qA] at h;obtain ⟨l',tg,F1,h1,h2,h3,h4⟩:=Ub hs (hl.2 0 l rfl) h;have hl1:cg X.K w S.aj β fp (aH S.aj fp w) ls us:=⟨by have:=hl.1;simpa using this,fun i l' hi=>hl.2 (i+1) l' (by simpa using hi)⟩;obtain ⟨ls',ts,G,q1,q2,q3⟩:=oL hs hl1 h1
  have h0:yH X.K w w0.heap.size S β fp (fun _=>F1) [l'] [tg] [u]:=⟨rfl,rfl,fun m l hm=>by
   cases m with
   | zero=>simp at hm;subst hm;exact ⟨h2,h3,tg,rfl,h4⟩
   | succ m=>simp at hm⟩
  exact ⟨l'::ls',tg::ts,_,q1,by simp [q2],lA h0 q3⟩
theorem tI (hs:cK X.K w0 nt S β fp a w):∀ {xs:List Operand} {ts:List TypeId} {kk:List (Bool×List (Lf C))→List s9→Option R},oM X S xs ts kk=some r →
  ∃ (rs:List (Bool×List (Lf C))) (tg:List s9) (us:List Value) (G:Nat→Nat→Prop),kk rs tg=some r∧fO rs=true∧xs.map a.eval=dh rs us∧yH X.K w w0.heap.size S β fp G (flatten rs) tg us
 | [],ts,kk,h=>⟨[],[],[],fun _ _=>False,h,rfl,rfl,rfl,rfl,fun m l hm=>by simp [flatten] at hm⟩
 | x::xs,ts,kk,h=>by
  simp only [oM] at h;split at h
  ·rename_i l hv
   have hv:cI X.K w S.aj β fp (aH S.aj fp w) l (a.eval x):=dH hs hv
   obtain ⟨ls',t1,G1,h1,h2,h3⟩:=oL hs (ls:=[l]) (us:=[a.eval x]) ⟨rfl,fun i l' hi=>by cases i with | zero=>simp at hi;subst hi;exact hv | succ i=>simp at hi⟩ h
   obtain ⟨rs,tg,us,G,q1,q2,q3,q4⟩:=tI hs h1;have hlen:ls'.length=1:=h2;refine ⟨(false,ls')::rs,t1++tg,[a.eval x]++us,_,q1,by simp [fO,hlen,q2],?_,lA h3 q4⟩;simp [dh,ml,hlen,q3]
  ·rename_i ls hv
   obtain ⟨zk,e,hl⟩:=dH hs hv;obtain ⟨ls',t1,G1,h1,h2,h3⟩:=oL hs hl h;obtain ⟨rs,tg,us,G,q1,q2,q3,q4⟩:=tI hs h1;refine ⟨(true,ls')::rs,t1++tg,zk++us,_,q1,by simp [fO,q2],?_,lA h3 q4⟩;have e1:zk.length=ls'.length:=h3.1;simp [dh,ml,← e1,q3,e]
  ·cases h
end
section
variable {Ty:Type} [DecidableEq Ty] {C:Ty→Type}
variable {P:Program} {X:Cx C} {w0 w:World} {nt:Nat} {S:St C} {β:Nat→Value} {fp:Nat→Nat→Prop} {a:Act} {R:Type} {k:St C→Option R} {r:R}
variable {Q:Exit→Act→World→Prop}
def tF:Lf C→Bool
 | .ref _ (_::_)=>true
 | .ep .. =>true
 | .sub .. =>true
 | _=>false
section
variable {K:Cd C} {w':World} {aj dO:cm C} {eG:Nat→Value} {eD:Nat→Nat→Prop} {b8 ey:Nat→Prop}
theorem cI.N7 {l:Lf C} {v:Value} (h:cI K w aj β fp b8 l v) (hst:∀ k,b8 k→ey k∧w'.heap[k]?=w.heap[k]?) (Ie:∀ id,id∈fF l→eG id=β id)
  (hk:∀ id,id∈fF l→tF l=true→iT w w' aj dO β eG fp eD id):cI K w' dO eG eD ey l v:=by
 cases l with
 | ptr id off=>obtain ⟨b,h1,h2⟩:=h;exact ⟨b,(Ie id (by simp [fF])).trans h1,h2⟩
 | vo id=>exact ⟨h.1,h.2.trans (Ie id (by simp [fF])).symm⟩
 | ref id p=>
  cases p with
  | nil=>exact ⟨h.1,h.2.trans (Ie id (by simp [fF])).symm⟩
  | cons s p=>exact h.tr hst fun id hi=>hk id hi rfl
 | ep id p i o=>exact h.tr hst fun id hi=>hk id hi rfl
 | sub id lo hi=>exact h.tr hst fun id hi=>hk id hi rfl
 | _=>exact h.tr hst fun id hi=>by simp [fF] at hi
theorem cg.N7 {ls:List (Lf C)} {vs:List Value} (h:cg K w aj β fp b8 ls vs) (hst:∀ k,b8 k→ey k∧w'.heap[k]?=w.heap[k]?) (Ie:∀ l,l∈ls→∀ id,id∈fF l→eG id=β id)
  (hk:∀ l,l∈ls→∀ id,id∈fF l→tF l=true→iT w w' aj dO β eG fp eD id):cg K w' dO eG eD ey ls vs:=
 ⟨h.1,fun i l hl=>(h.2 i l hl).N7 hst (Ie l (List.mem_of_getElem? hl)) (hk l (List.mem_of_getElem? hl))⟩
def pE:SV C→List (Lf C)
 | .one l=>[l]
 | .agg ls=>ls
 | .rC vs=>vs.flatMap (·.2)
 | .bz x _=>x.2
 | _=>[]
theorem dq.N7 {x:SV C} {v:Value} (h:dq K w aj β fp b8 x v) (hst:∀ k,b8 k→ey k∧w'.heap[k]?=w.heap[k]?) (Ie:∀ id,id∈fP x→eG id=β id)
  (hk:∀ l,l∈pE x→∀ id,id∈fF l→tF l=true→iT w w' aj dO β eG fp eD id):dq K w' dO eG eD ey x v:=by
 cases x with
 | one l=>exact cI.N7 h hst Ie (hk l (by simp [pE]))
 | agg ls=>
  obtain ⟨vs,h1,h2⟩:=h;exact ⟨vs,h1,h2.N7 hst (fun l hl id hi=>Ie id (by obtain ⟨i,eN,rfl⟩:=List.getElem_of_mem hl;exact eK (i:=i) (by simp [eN]) hi)) fun l hl=>hk l hl⟩
 | rC xs=>
  obtain ⟨vs,h1,h2,h3⟩:=h;refine ⟨vs,h1,h2,fun i x hx=>?_⟩;have hmem:=List.mem_of_getElem? hx
  have hm:∀ id,id∈dY x.2→id∈vr xs:=by
   clear h3 h2 h1 Ie hk hmem
   induction xs generalizing i with
   | nil=>simp at hx
   | cons y r ih=>
    intro id hi;obtain ⟨b,ls⟩:=y;simp only [vr,List.mem_append]
    cases i with
    | zero=>simp at hx;subst hx;exact .inl hi
    | succ i=>simp at hx;exact .inr (ih i hx id hi)
  have hin:∀ l,l∈x.2→l∈pE (.rC xs):=fun l hl=>by simp only [pE,List.mem_flatMap];exact ⟨x,hmem,hl⟩
  have Fj:∀ l,l∈x.2→∀ id,id∈fF l→eG id=β id:=fun l hl id hi=>Ie id (hm id (by obtain ⟨i,eN,rfl⟩:=List.getElem_of_mem hl;exact eK (i:=i) (by simp [eN]) hi))
  have:=h3 i x hx;obtain ⟨b,ls⟩:=x
  cases b with
  | false=>
   obtain ⟨l,h1,h2⟩:=this;subst h1;exact ⟨l,rfl,h2.N7 hst (Fj l (by simp)) (hk l (hin l (by simp)))⟩
  | true=>obtain ⟨vs,h1,h2⟩:=this;exact ⟨vs,h1,h2.N7 hst Fj fun l hl=>hk l (hin l hl)⟩
 | lX=>exact h
 | jo id j=>exact (Ie id (by simp [fP])).trans h
 | frame=>exact fun k hk=>⟨(hst k (h k hk).1).1,(hst k (h k hk).1).2.trans (h k hk).2⟩
 | bz x j=>
  obtain ⟨b,ls⟩:=x
  cases b with
  | false=>
   obtain ⟨l,h1,h2⟩:=h;have h1:ls=[l]:=h1;subst h1;exact ⟨l,rfl,h2.N7 hst (fun id hi=>Ie id (by simpa [fP,dY] using hi)) (hk l (by simp [pE]))⟩
  | true=>obtain ⟨vs,h1,h2⟩:=h;exact ⟨vs,h1,h2.N7 hst (fun l hl id hi=>Ie id (by obtain ⟨i,eN,rfl⟩:=List.getElem_of_mem hl;exact eK (i:=i) (by simp [eN]) hi)) fun l hl=>hk l hl⟩
theorem cK.write (hs:cK K w0 nt S β fp a w) {S':St C} (hb:Below w0.heap.size w0 w') (U:Nat→Prop)
  (hst:∀ k,aH S.aj fp w k→aH S'.aj eD w' k∧w'.heap[k]?=w.heap[k]?)
  (hkeep:∀ id ob,¬ U id→lk S'.aj id=some ob→lk S.aj id=some ob∧eD id=fp id∧∀ k,fp id k→k<w'.heap.size∧w'.heap[k]?=w.heap[k]?)
  (hβo:∀ id ob,¬ U id→lk S'.aj id=some ob→eG id=β id∧∀ kd ls,ob = .box kd ls→∀ i,i∈dY ls→eG i=β i)
  (hβe:∀ t v,lk S'.env t=some v→∀ i,i∈fP v→eG i=β i)
  (hfresh:∀ id ob k,U id→lk S'.aj id=some ob→eD id k→w0.heap.size≤k∧k<w'.heap.size)
  (hdisj:∀ id gN ob dR k,(U id∨U gN)→lk S'.aj id=some ob→lk S'.aj gN=some dR→eD id k→eD gN k→id=gN)
  (hU:∀ id ob,U id→lk S'.aj id=some ob→∃ t xs,ob = .row t xs false∧Own K w' w0.heap.size (eD id) (.row t xs) (eG id))
  (Fq:∀ id kd ls,¬ U id→lk S'.aj id=some (.box kd ls)→∀ l,l∈ls→tF l=true→∀ i,i∈fF l→¬ U i)
  (henv:∀ t v,lk S'.env t=some v→lk S.env t=some v∧∀ l,l∈pE v→tF l=true→∀ i,i∈fF l→¬ U i):cK K w0 nt S' eG eD a w':=by
 have keeps:∀ i,¬ U i→eG i=β i→iT w w' S.aj S'.aj β eG fp eD i:=fun i hi hn=>by
  refine ⟨hn,fun t xs sh ho=>?_⟩;obtain ⟨h1,h2,h3⟩:=hkeep i _ hi ho;exact ⟨h1,fun k hk=>⟨by rw [h2];exact hk,(h3 k hk).2⟩⟩
 refine ⟨hb,hs.defers,hs.size,fun id ob k ho hk=>?_,fun id gN ob dR k ho gW hk hk'=>?_,fun id ob ho=>?_,fun t v ht=>?_⟩
 ·by_cases hu:U id
  ·exact hfresh id ob k hu ho hk
  ·obtain ⟨h1,h2,h3⟩:=hkeep id ob hu ho
   rw [h2] at hk;exact ⟨(hs.fresh id ob k h1 hk).1,(h3 k hk).1⟩
 ·by_cases hu:U id∨U gN
  ·exact hdisj id gN ob dR k hu ho gW hk hk'
  ·obtain ⟨h1,h2,_⟩:=hkeep id ob (fun h=>hu (.inl h)) ho
   obtain ⟨mL,zn,_⟩:=hkeep gN dR (fun h=>hu (.inr h)) gW;rw [h2] at hk;rw [zn] at hk';exact hs.eH id gN ob dR k h1 mL hk hk'
 ·by_cases hu:U id
  ·obtain ⟨t,xs,rfl,h⟩:=hU id ob hu ho
   exact h
  ·obtain ⟨h1,h2,h3⟩:=hkeep id ob hu ho
   obtain ⟨hn,hn2⟩:=hβo id ob hu ho;have fW:=hs.aj id ob h1;rw [h2,hn]
   cases ob with
   | row t xs sh=>exact fW.tr hst (fun k hk=>(h3 k hk).2) (fun _ ls e=>by cases e)
   | map mk kt vt xs c=>exact fW.tr hst (fun k hk=>(h3 k hk).2) (fun _ ls e=>by cases e)
   | ghost=>exact fW.tr hst (fun k hk=>(h3 k hk).2) (fun _ ls e=>by cases e)
   | box kd ls=>
    have hin:∀ l,l∈ls→∀ i,i∈fF l→i∈dY ls:=fun l hl i hi=>by
     obtain ⟨j,hj,rfl⟩:=List.getElem_of_mem hl;exact eK (i:=j) (by simp [hj]) hi
    have go:∀ {us:List Value},cg K w S.aj β fp (aH S.aj fp w) ls us→cg K w' S'.aj eG eD (aH S'.aj eD w') ls us:=fun q4=>q4.N7 hst (fun l hl i hi=>hn2 _ ls rfl i (hin l hl i hi)) fun l hl i hi hp=>keeps i (Fq id _ ls hu ho l hl hp i hi) (hn2 _ ls rfl i (hin l hl i hi))
    cases kd with
    | mem=>
     obtain ⟨b,cs,e,q1,q2,q3,q4⟩:=fW;exact ⟨b,cs,e,q1,((h3 b ((q3 b).2 rfl)).2).trans q2,q3,go q4⟩
    | gV f n sh=>obtain ⟨us,q1,q2,q3⟩:=fW;exact ⟨us,q1,q2,go q3⟩
    | mF t sh=>obtain ⟨us,q1,q2,q3⟩:=fW;exact ⟨us,q1,q2,go q3⟩
 ·obtain ⟨h1,h2⟩:=henv t v ht
  refine (hs.env t v h1).N7 hst (fun i hi=>hβe t v ht i hi) fun l hl i hi hp=>keeps i (h2 l hl hp i hi) (hβe t v ht i ?_)
  cases v with
  | one l'=>simp only [pE,List.mem_singleton] at hl;subst hl;exact hi
  | agg ls=>
   have hl:l∈ls:=hl;obtain ⟨j,hj,rfl⟩:=List.getElem_of_mem hl;exact eK (i:=j) (by simp [hj]) hi
  | rC xs=>
   simp only [pE,List.mem_flatMap] at hl;obtain ⟨x,hx,hl⟩:=hl;show i∈vr xs;clear h2 ht h1 hp
   induction xs with
   | nil=>cases hx
   | cons y r ih=>
    obtain ⟨b,ls⟩:=y;simp only [vr,List.mem_append]
    rcases List.mem_cons.1 hx with e | hx
    ·subst e;left;obtain ⟨j,hj,rfl⟩:=List.getElem_of_mem hl;exact eK (i:=j) (by simp [hj]) hi
    ·exact .inr (ih hx)
  | bz x j=>
   have hl:l∈x.2:=hl;obtain ⟨m,hm,rfl⟩:=List.getElem_of_mem hl;exact eK (i:=m) (by simp [hm]) hi
  | _=>simp [pE] at hl
end
theorem tK:∀ {l:List Nat},xH l=true→l.Nodup
 | [],_=>List.nodup_nil
 | n::r,h=>by
  simp only [xH,Bool.and_eq_true,Bool.not_eq_true'] at h;refine List.nodup_cons.2 ⟨fun hm=>?_,tK h.2⟩;have:=List.any_eq_false.1 h.1 n hm;exact this (Nat.beq_refl n)
theorem lI:∀ {ts:List s9} {id:Nat},id∈fK ts↔∃ (m:Nat) (p:List (Nat×Nat)),ts[m]?=some (some (id,p))
 | [],id=>by simp [fK]
 | none::ts,id=>by
  simp only [fK];rw [lI (ts:=ts)];constructor
  ·rintro ⟨m,p,h⟩;exact ⟨m+1,p,by simpa using h⟩
  ·rintro ⟨m,p,h⟩
   cases m with
   | zero=>simp at h
   | succ m=>exact ⟨m,p,by simpa using h⟩
 | some (i,p0)::ts,id=>by
  simp only [fK,List.mem_cons];rw [lI (ts:=ts)];constructor
  ·rintro (e | ⟨m,p,h⟩)
   ·exact ⟨0,p0,by rw [e];rfl⟩
   ·exact ⟨m+1,p,by simpa using h⟩
  ·rintro ⟨m,p,h⟩
   cases m with
   | zero=>simp at h;exact .inl h.1.symm
   | succ m=>exact .inr ⟨m,p,by simpa using h⟩
theorem rJ:∀ {ts:List s9},(fK ts).Nodup→∀ {id m m':Nat} {p p':List (Nat×Nat)},ts[m]?=some (some (id,p))→ts[m']?=some (some (id,p'))→m=m'
 | [],_,id,m,m',p,p',h,_=>by simp at h
 | none::ts,hn,id,m,m',p,p',h,h'=>by
  cases m with
  | zero=>simp at h
  | succ m=>cases m' with
   | zero=>simp at h'
   | succ m'=>have:=rJ (ts:=ts) hn (by simpa using h) (by simpa using h');omega
 | some (i,p0)::ts,hn,id,m,m',p,p',h,h'=>by
  simp only [fK] at hn;obtain ⟨h1,h2⟩:=List.nodup_cons.1 hn
  cases m with
  | zero=>cases m' with
   | zero=>rfl
   | succ m'=>
    simp at h;obtain ⟨rfl,_⟩:=h;exact absurd (lI.2 ⟨m',p',by simpa using h'⟩) h1
  | succ m=>cases m' with
   | zero=>
    simp at h';obtain ⟨rfl,_⟩:=h';exact absurd (lI.2 ⟨m,p,by simpa using h⟩) h1
   | succ m'=>have:=rJ (ts:=ts) h2 (by simpa using h) (by simpa using h');omega
structure Yj (X:Cx C) (w0 w':World) (S:St C) (β:Nat→Value) (fp G G':Nat→Nat→Prop) (ts:List s9) (j n:Nat) (S1 S2:St C) (φ He:Nat→Nat→Prop) (J M:Nat→Nat):Prop where
 env:S2.env=S1.env
 base:S2.base=S1.base
 other:∀ id,id∉fK ts→lk S2.aj id=lk S1.aj id∧He id=φ id
 XV:∀ id,id∈fK ts→j≤J id∧J id<j+n∧(∃ p,ts[M id]?=some (some (id,p)))∧(∃ t xs,lk S2.aj id=some (.row t xs false)∧Own X.K w' w0.heap.size (He id) (.row t xs) (β id)) ∧
  ∀ k,He id k→(fp id k∧¬ G (M id) k)∨G' (J id) k
 inj:∀ id gN,id∈fK ts→gN∈fK ts→J id=J gN→id=gN
theorem LZ {w':World} {kk:St C→Option R} {G':Nat→Nat→Prop}:∀ (ls:List (Lf C)) (ts:List s9) (os:List (Lf C)) (us:List Value) (G:Nat→Nat→Prop) (j:Nat) (S1:St C) (φ:Nat→Nat→Prop),
  us.length=ls.length→(∀ (m:Nat) (l:Lf C),ls[m]?=some l→∃ tg,ts[m]?=some tg∧IZ X.K w w0.heap.size S β fp (G m) (us.getD m undef) tg) →
  (∀ (m id:Nat) (p:List (Nat×Nat)),ts[m]?=some (some (id,p))→(∀ k,fp id k→¬ G m k→w'.heap[k]?=w.heap[k]?)∧∀ j k,G' j k→G m k∨¬ fp id k) →
  (∀ (i:Nat) (l:Lf C),os[i]?=some l→Own X.K w' w0.heap.size (G' (j+i)) l ((rowsOf ls us).getD i undef))→(fK ts).Nodup→(∀ id,id∈fK ts→lk S1.aj id=lk S.aj id) →
  dU X.K ls ts os S1 kk=some r→∃ (S2:St C) (He:Nat→Nat→Prop) (J M:Nat→Nat),kk S2=some r∧Yj X w0 w' S β fp G G' ts j os.length S1 S2 φ He J M:=by
 intro ls
 induction ls with
 | nil=>
  intro ts os us G j S1 φ hl htg qZ hos hnd MM h
  cases ts with
  | cons _ _=>simp [dU] at h
  | nil=>cases os with
   | cons _ _=>simp [dU] at h
   | nil=>exact ⟨S1,φ,id,id,h,rfl,rfl,fun id _=>⟨rfl,rfl⟩,fun id hi=>by simp [fK] at hi,fun id gN hi=>by simp [fK] at hi⟩
 | cons l ls ih=>
  intro ts os us G j S1 φ hl htg qZ hos hnd MM h
  obtain ⟨u,us,rfl⟩:∃ u np,us=u::np:=by
   cases us with
   | nil=>simp at hl
   | cons u us=>exact ⟨u,us,rfl⟩
  have hl':us.length=ls.length:=by simpa using hl
  cases ts with
  | nil=>cases l<;>simp [dU] at h
  | cons tg ts=>
   have htg':∀ (m:Nat) (l:Lf C),ls[m]?=some l→∃ tg,ts[m]?=some tg∧IZ X.K w w0.heap.size S β fp (G (m+1)) (us.getD m undef) tg:=fun m l hm=>by
    have:=htg (m+1) l (by simpa using hm)
    simpa using this
   have hfr':∀ (m id:Nat) (p:List (Nat×Nat)),ts[m]?=some (some (id,p))→(∀ k,fp id k→¬ G (m+1) k→w'.heap[k]?=w.heap[k]?)∧∀ j k,G' j k→G (m+1) k∨¬ fp id k:=fun m id p hm=>qZ (m+1) id p (by simpa using hm)
   have plain:∀ (os':List (Lf C)) (j':Nat),tg=none→(∀ (i:Nat) (l:Lf C),os'[i]?=some l→Own X.K w' w0.heap.size (G' (j'+i)) l ((rowsOf ls us).getD i undef))→j≤j'→j'+os'.length≤j+os.length →
     dU X.K ls ts os' S1 kk=some r→∃ (S2:St C) (He:Nat→Nat→Prop) (J M:Nat→Nat),kk S2=some r∧Yj X w0 w' S β fp G G' (tg::ts) j os.length S1 S2 φ He J M:=by
    intro os' j' e hos' h1 h2 hp;subst e;obtain ⟨S2,He,J,M,q1,q2⟩:=ih ts os' us (fun m=>G (m+1)) j' S1 φ hl' htg' hfr' hos' (by simpa [fK] using hnd) (fun id hi=>MM id (by simpa [fK] using hi)) hp;refine ⟨S2,He,J,fun id=>M id+1,q1,q2.env,q2.base,fun id hi=>q2.other id (by simpa [fK] using hi),fun id hi=>?_,fun id gN hi eN=>q2.inj id gN (by simpa [fK] using hi) (by simpa [fK] using eN)⟩;obtain ⟨a1,a2,a3,a4,a5⟩:=q2.XV id (by simpa [fK] using hi);exact ⟨by omega,by omega,by simpa using a3,a4,a5⟩
   cases l with
   | row t0 Hn=>
    cases os with
    | nil=>cases tg with
     | none=>simp [dU] at h
     | some x=>obtain ⟨id,p⟩:=x;simp [dU] at h
    | cons l1 os=>
     have hos1:∀ (i:Nat) (l:Lf C),os[i]?=some l→Own X.K w' w0.heap.size (G' (j+1+i)) l ((rowsOf ls us).getD i undef):=fun i l hi=>by
      have:=hos (i+1) l (by simpa using hi);rw [show j+1+i=j+(i+1) by omega]
      simpa [rowsOf] using this
     cases tg with
     | none=>exact plain os (j+1) rfl hos1 (by omega) (by simp;omega) (by simpa [dU] using h)
     | some x=>
      obtain ⟨id,p⟩:=x;simp only [fK] at hnd MM;obtain ⟨hnd1,hnd2⟩:=List.nodup_cons.1 hnd;obtain ⟨tg',e,htg0⟩:=htg 0 _ rfl
      have e:some (id,p)=tg':=by simpa using e
      subst e;obtain ⟨ht,xs,ho,hsub,hset⟩:=htg0;simp only [dU] at h;rw [MM id (by simp),ho] at h;simp only at h;obtain ⟨f1,f2⟩:=qZ 0 id p rfl;have hO:=hos 0 l1 rfl;obtain ⟨xs',hk,hown⟩:=hset w' (G' j) l1 f1 (fun k hk=>f2 j k hk) (by simpa [rowsOf] using hO) R _ r h
      obtain ⟨S2,He,J,M,q1,q2⟩:=ih ts os us (fun m=>G (m+1)) (j+1) _ (upd φ id fun k=>(fp id k∧¬ G 0 k)∨G' j k) hl' htg' hfr' hos1 hnd2 (fun i hi=>by
       have hne:i≠id:=fun e=>hnd1 (e▸hi)
       simp only [St.setObj,aQ,if_neg hne]
       exact MM i (by simp [hi])) hk
      obtain ⟨o1,o2⟩:=q2.other id hnd1;refine ⟨S2,He,upd J id j,fun i=>if i=id then 0 else M i+1,q1,q2.env,q2.base,fun i hi=>?_,fun i hi=>?_,fun i i' hi eN e=>?_⟩
      ·simp only [fK,List.mem_cons,not_or] at hi
       obtain ⟨h1,h2⟩:=q2.other i hi.2;simp only [St.setObj,aQ,if_neg hi.1] at h1;exact ⟨h1,h2.trans (dt _ _ hi.1)⟩
      ·by_cases e:i=id
       ·subst e
        simp only [cz,if_true];refine ⟨Nat.le_refl _,by simp,⟨p,rfl⟩,⟨ht,xs',by rw [o1];simp [St.setObj,aQ],by rw [o2,cz];exact hown⟩,fun k hk=>?_⟩;rw [o2,cz] at hk;exact hk
       ·simp only [fK,List.mem_cons] at hi
        obtain ⟨a1,a2,a3,a4,a5⟩:=q2.XV i (hi.resolve_left e);simp only [dt _ _ e,if_neg e];exact ⟨by omega,by simp;omega,by simpa using a3,a4,a5⟩
      ·simp only [fK,List.mem_cons] at hi eN
       by_cases e1:i=id<;>by_cases e2:i'=id
       ·rw [e1,e2]
       ·subst e1
        rw [cz,dt _ _ e2] at e;have:=(q2.XV i' (eN.resolve_left e2)).1;omega
       ·subst e2
        rw [cz,dt _ _ e1] at e;have:=(q2.XV i (hi.resolve_left e1)).1;omega
       ·rw [dt _ _ e1,dt _ _ e2] at e
        exact q2.inj i i' (hi.resolve_left e1) (eN.resolve_left e2) e
   | int ki n=>
    cases tg with
    | none=>exact plain os j rfl (fun i l hi=>by simpa [rowsOf] using hos i l hi) (Nat.le_refl _) (Nat.le_refl _) (by simpa [dU] using h)
    | some x=>simp [dU] at h
   | bool b=>
    cases tg with
    | none=>exact plain os j rfl (fun i l hi=>by simpa [rowsOf] using hos i l hi) (Nat.le_refl _) (Nat.le_refl _) (by simpa [dU] using h)
    | some x=>simp [dU] at h
   | str b=>
    cases tg with
    | none=>exact plain os j rfl (fun i l hi=>by simpa [rowsOf] using hos i l hi) (Nat.le_refl _) (Nat.le_refl _) (by simpa [dU] using h)
    | some x=>simp [dU] at h
   | _=>cases tg<;>simp [dU] at h
end
section
variable {Ty:Type} [DecidableEq Ty] {C:Ty→Type}
variable {P:Program} {X:Cx C} {w0 w:World} {nt:Nat} {S:St C} {β:Nat→Value} {fp:Nat→Nat→Prop} {a:Act} {R:Type} {k:St C→Option R} {r:R}
variable {Q:Exit→Act→World→Prop}
theorem qV {α:Type}:∀ {l:List (Nat×α)} {n:Nat} {v:α},lk l n=some v→(n,v)∈l
 | [],n,v,h=>by simp [lk] at h
 | (m,x)::l,n,v,h=>by
  rw [aQ] at h;split at h
  ·rename_i e;cases h;subst e;simp
  ·exact List.mem_cons_of_mem _ (qV h)
theorem qK {ids:List Nat}:∀ {E:List (Nat×SV C)} {t:Nat} {v:SV C},lk (mf ids E) t=some v→lk E t=some v∧B7 ids v=false
 | [],t,v,h=>by simp [mf,lk] at h
 | (m,x)::E,t,v,h=>by
  simp only [mf] at h
  cases hx:B7 ids x with
  | true=>
   rw [hx,cond_true,lM] at h;split at h
   ·cases h
   ·rename_i hne
    obtain ⟨h1,h2⟩:=qK h;exact ⟨by rw [aQ,if_neg hne];exact h1,h2⟩
  | false=>
   rw [hx,cond_false,aQ] at h;rw [aQ];split at h
   ·rename_i e
    cases h;exact ⟨by rw [if_pos e],hx⟩
   ·rename_i e
    obtain ⟨h1,h2⟩:=qK h;exact ⟨by rw [if_neg e];exact h1,h2⟩
theorem any_beq {n:Nat} {l:List Nat} (h:l.any (Nat.beq n)=false):n∉l:=fun hm=>List.any_eq_false.1 h n hm (Nat.beq_refl n)
theorem zR {ids:List Nat} {l:Lf C} (h:jN ids l=false) (hp:tF l=true):∀ i,i∈fF l→i∉ids:=by
 intro i hi
 cases l with
 | ref j p=>
  cases p with
  | nil=>cases hp
  | cons s p=>simp only [fF,List.mem_singleton] at hi;subst hi;exact any_beq h
 | ep j p n o=>simp only [fF,List.mem_singleton] at hi;subst hi;exact any_beq h
 | sub j lo eN=>simp only [fF,List.mem_singleton] at hi;subst hi;exact any_beq h
 | _=>cases hp
theorem LH {ids:List Nat} {v:SV C} (h:B7 ids v=false):∀ l,l∈pE v→jN ids l=false:=by
 intro l hl
 cases v with
 | one l'=>simp only [pE,List.mem_singleton] at hl;subst hl;exact h
 | agg ls=>
  have:=List.any_eq_false.1 (h:ls.any (jN ids)=false) l hl
  simpa using this
 | rC xs=>
  simp only [pE,List.mem_flatMap] at hl;obtain ⟨x,hx,hl⟩:=hl;have h1:=List.any_eq_false.1 (h:(xs.any fun x=>x.2.any (jN ids))=false) x hx
  have h1:x.2.any (jN ids)=false:=by simpa using h1
  have:=List.any_eq_false.1 h1 l hl
  simpa using this
 | bz x j=>
  have hl:l∈x.2:=hl;have:=List.any_eq_false.1 (h:x.2.any (jN ids)=false) l hl
  simpa using this
 | _=>simp [pE] at hl
theorem Ga {v:SV C} {l:Lf C} (hl:l∈pE v) {i:Nat} (hi:i∈fF l):i∈fP v:=by
 cases v with
 | one l'=>simp only [pE,List.mem_singleton] at hl;subst hl;exact hi
 | agg ls=>
  have hl:l∈ls:=hl;obtain ⟨j,hj,rfl⟩:=List.getElem_of_mem hl;exact eK (i:=j) (by simp [hj]) hi
 | rC xs=>
  simp only [pE,List.mem_flatMap] at hl;obtain ⟨x,hx,hl⟩:=hl;show i∈vr xs
  induction xs with
  | nil=>cases hx
  | cons y r ih=>
   obtain ⟨b,ls⟩:=y;simp only [vr,List.mem_append]
   rcases List.mem_cons.1 hx with e | hx
   ·subst e;left;obtain ⟨j,hj,rfl⟩:=List.getElem_of_mem hl;exact eK (i:=j) (by simp [hj]) hi
   ·exact .inr (ih hx)
 | bz x j=>
  have hl:l∈x.2:=hl;obtain ⟨m,hm,rfl⟩:=List.getElem_of_mem hl;exact eK (i:=m) (by simp [hm]) hi
 | _=>simp [pE] at hl
theorem TR (hcon:∀ f c,X.yt f=some c→uy P X.K f c) (hs:cK X.K w0 nt S β fp a w) {o:Oper} {dst:Option Tmp} (hd:slot dst nt) {f:FuncId} {as:Array Operand} {ts:Array TypeId} {ty:TypeId} {pos:String} {dG:Array Edge} {gd:Option (Nat×Bool)}
  (ho:o=⟨dst,.call { callee:=.value (.func f),args:=as,argTypes:=ts },ty,pos,dG,gd⟩) (h:uZ X S f as.toList ts.toList o k=some r):Goal P X w0 nt k r Q o a w:=by
 have WU:o.dst=dst:=by rw [ho]
 subst WU;unfold uZ at h;split at h
 case h_2=>cases h
 rename_i c hc;obtain ⟨rs,tg,kG,G,h,hok,hargs,xV,htl,hG⟩:=tI hs h;obtain ⟨hnd,h⟩:=az h;simp only [Bool.and_eq_true,Bool.not_eq_true'] at hnd;obtain ⟨hnd,hto⟩:=hnd;have hnd:=tK hnd
 cases hg:c.g rs with
 | none=>rw [hg] at h;cases h
 | some r0=>
  rw [hg] at h;simp only [Option.bind_some] at h
  let G0:Nat→Nat→Prop:=fun m k=>m<(flatten rs).length∧G m k
  have W4:∀ m,m<(flatten rs).length→G0 m=G m:=fun m hm=>by funext k;simp [G0,hm]
  have kS:∀ (m:Nat) (l:Lf C),(flatten rs)[m]?=some l→l.plain=true∧Own X.K w w0.heap.size (G0 m) l (kG.getD m undef)∧∃ t,tg[m]?=some t∧IZ X.K w w0.heap.size S β fp (G0 m) (kG.getD m undef) t:=fun m l hm=>by
   rw [W4 m (ee hm)];exact hG m l hm
  have hA:∀ m k,G0 m k→∃ id p ob,tg[m]?=some (some (id,p))∧fp id k∧lk S.aj id=some ob:=fun m k hk=>by
   obtain ⟨_,_,t,h1,h2⟩:=kS m (flatten rs)[m] (by simp [hk.1])
   cases t with
   | none=>exact absurd hk (h2 k)
   | some x=>obtain ⟨id,p⟩:=x;obtain ⟨t,xs,h3,h4,_⟩:=h2;exact ⟨id,p,_,h1,h4 k hk,h3⟩
  have hT:∀ (m id:Nat) (p:List (Nat×Nat)),tg[m]?=some (some (id,p))→∃ ob,lk S.aj id=some ob:=fun m id p hm=>by
   have hlt:m<(flatten rs).length:=by rw [←htl];exact ee hm
   obtain ⟨_,_,t,h1,h2⟩:=kS m (flatten rs)[m] (by simp [hlt]);rw [hm] at h1;have e:some (id,p)=t:=Option.some.inj h1;subst e;obtain ⟨t,xs,h3,_⟩:=h2;exact ⟨_,h3⟩
  have hone:∀ (m id:Nat) (p:List (Nat×Nat)) (ob:Ob C) (m' k:Nat),tg[m]?=some (some (id,p))→lk S.aj id=some ob→fp id k→G0 m' k→m'=m:=fun m id p ob m' k hm fW hk hk'=>by
   obtain ⟨gN,p',dR,h1,h2,h3⟩:=hA m' k hk';have:=hs.eH gN id dR ob k h3 fW h2 hk;subst this;exact rJ hnd h1 hm
  obtain ⟨⟨fn,s7,sD,vu⟩,mG⟩:=hcon f c hc
  have hcall:=mG w0 w rs kG r0 G0 hs.defers.2 hs.below hok xV (fun m k hk=>by
    obtain ⟨id,p,ob,_,h2,h3⟩:=hA m k hk
    exact hs.fresh id ob k h3 h2) (fun m m' k hk hk'=>by
    obtain ⟨id,p,ob,h1,h2,h3⟩:=hA m k hk
    exact (hone m id p ob m' k h1 h3 h2 hk').symm) (fun m l hm=>⟨(kS m l hm).1,(kS m l hm).2.1⟩) hg
  have ij:(execOp a.eval o).run P w = .ok (.enter f (as.map a.eval)) w:=by
   have Qe:(fn.name == "runtime.NumGoroutine")=false:=by simpa using vu
   rw [ho];simp [execOp,resolve,Deferred.ofValue,invoke,callFunc,s7,sD,Qe,Act.eval];rw [if_neg vu,if_neg (by intro hb;simp [hb] at sD)]
  show o.wp P a w (Next X.K w0 nt k r) Q;unfold Oper.wp;rw [ij];show Calls P f (as.map a.eval) w _
  have e:as.map a.eval=(as.toList.map a.eval).toArray:=by rw [←Array.toList_map,Array.toArray_toList]
  rw [e,hargs]
  refine hcall.mono fun en w' ⟨v0,he,hb,qZ,nA,G',hp,hrl,Ii,Fh,Ft,Tq,Iq⟩=>?_
  subst he
  have hsep:∀ x k,G' x k→∀ id ob,lk S.aj id=some ob→fp id k→∃ m,G0 m k:=fun x k hk id ob fW hf=>by
   rcases (Ft x k hk).1 with h1 | h1
   ·exact h1
   ·have:=(hs.fresh id ob k fW hf).2;omega
  obtain ⟨S2,He,J,M,q1,q2⟩:=LZ (X:=X) (w0:=w0) (w:=w) (w':=w') (S:=S) (β:=β) (fp:=fp) (G':=G') (flatten rs) tg (c.out r0) kG G0 0 { S with env:=mf (fK tg) S.env } fp xV
   (fun m l hm=>(kS m l hm).2.2)
   (fun m id p hm=>by
    obtain ⟨ob,fW⟩:=hT m id p hm;refine ⟨fun k hk hn=>(qZ k (hs.fresh id ob k fW hk).2 fun m' hk'=>?_).2,fun x k hk=>?_⟩
    ·have:=hone m id p ob m' k hm fW hk hk'
     subst this;exact hn hk'
    ·by_cases hf:fp id k
     ·left
      obtain ⟨m',hk'⟩:=hsep x k hk id ob fW hf;have:=hone m id p ob m' k hm fW hf hk';subst this;exact hk'
     ·exact .inr hf)
   (fun i l hi=>by
    have hlt:=ee hi;have:=Iq i l (by rw [List.getElem?_append_left hlt];exact hi)
    have e1:(rowsOf (flatten rs) kG++nA).getD i undef=(rowsOf (flatten rs) kG).getD i undef:=by simp [List.getD,List.getElem?_append_left (by rw [←Fh];exact hlt:i<(rowsOf (flatten rs) kG).length)]
    rw [e1] at this;rw [Nat.zero_add]
    exact this) hnd (fun id _=>rfl) h
  split at q1
  case h_2=>cases q1
  rename_i v DD hv gB
  let dF:=bP X S o
  let n:=(c.out r0).length
  let news:=(bN dF (c.ret r0)).2
  obtain ⟨g1,g2,g3,g4⟩:=qh gB
  have hnews:∀ id ob,lk news id=some ob→∃ m t xs,id=dF+m∧(flatten (c.ret r0))[m]?=some (.row t xs)∧ob = .row t xs false:=fun id ob hi=>rn _ _ _ _ hi
  let eG:Nat→Value:=fun id=>if (lk news id).isSome then nA.getD (id-dF) undef else β id
  let eD:Nat→Nat→Prop:=fun id k=>if (lk news id).isSome then G' (n+(id-dF)) k else He id k
  have Fe:∀ id,lk news id=none→eG id=β id:=fun id hi=>by simp [eG,hi]
  have hnone:∀ id,¬ (lk news id).isSome→lk news id=none:=fun id hi=>by
   cases e:lk news id with
   | none=>rfl
   | some x=>rw [e] at hi;exact absurd rfl hi
  have o8:∀ id ob,lk news id=none→lk DD.aj id=some ob→lk S2.aj id=some ob:=fun id ob hn hi=>by
   rw [g3,dc] at hi;have qv:lk (bN dF (c.ret r0)).2 id=none:=hn;rw [qv] at hi;exact hi
  have henv2:DD.env=mf (fK tg) S.env:=g1.trans q2.env
  have P7:∀ t v,lk DD.env t=some v→∀ i,i∈fP v→lk news i=none:=fun t v ht i hi=>by
   cases e:lk news i with
   | none=>rfl
   | some ob=>exact absurd (lK (by rw [←g1];exact ht) hi) (g4 i ob e).1
  have P6:∀ id ob,lk S2.aj id=some ob→lk news id=none∧∀ kd ls,ob = .box kd ls→∀ i,i∈dY ls→lk news i=none:=fun id ob hi=>by
   obtain ⟨m1,m2⟩:=lJ hi;refine ⟨?_,fun kd ls e i eN=>?_⟩
   ·cases e:lk news id with
    | none=>rfl
    | some x=>exact absurd m1 (g4 id x e).2
   ·cases e2:lk news i with
    | none=>rfl
    | some x=>exact absurd (m2 kd ls e i eN) (g4 i x e2).2
  let U:Nat→Prop:=fun id=>id∈fK tg∨(lk news id).isSome
  let Ix:Nat→Nat:=fun id=>if (lk news id).isSome then n+(id-dF) else J id
  have J9:∀ id ob k,lk DD.aj id=some ob→eD id k→(∃ zw,lk S.aj id=some zw∧fp id k∧∀ m,¬ G0 m k)∨(U id∧G' (Ix id) k):=fun id ob k hi hk=>by
   by_cases hn:(lk news id).isSome
   ·right
    simp only [eD,hn,if_true] at hk;exact ⟨.inr hn,by simpa [Ix,hn] using hk⟩
   ·simp only [eD,hn] at hk
    have h2:=o8 id ob (hnone id hn) hi
    by_cases ht:id∈fK tg
    ·obtain ⟨a1,a2,⟨p,a3⟩,a4,a5⟩:=q2.XV id ht
     rcases a5 k hk with ⟨b1,b2⟩ | b1
     ·left
      obtain ⟨zw,fW⟩:=hT _ id p a3;refine ⟨zw,fW,b1,fun m hm=>b2 ?_⟩;have:=hone _ id p zw m k a3 fW b1 hm;subst this;exact hm
     ·exact .inr ⟨.inl ht,by simpa [Ix,hn] using b1⟩
    ·left
     obtain ⟨o1,o2⟩:=q2.other id ht;have hk:He id k:=hk;rw [o2] at hk
     have h3:lk S.aj id=some ob:=by rw [←h2,o1]
     refine ⟨ob,h3,hk,fun m hm=>?_⟩;obtain ⟨gN,p,dR,c1,c2,c3⟩:=hA m k hm;have:=hs.eH gN id dR ob k c3 h3 c2 hk;subst this;exact ht (lI.2 ⟨m,p,c1⟩)
  have hIx:∀ id gN ob dR,U id→U gN→lk DD.aj id=some ob→lk DD.aj gN=some dR→Ix id=Ix gN→id=gN:=fun id gN ob dR hu hu' ho gW e=>by
   by_cases hn:(lk news id).isSome<;>by_cases qv:(lk news gN).isSome
   ·obtain ⟨x,hx⟩:=Option.isSome_iff_exists.1 hn
    obtain ⟨x',hx'⟩:=Option.isSome_iff_exists.1 qv;obtain ⟨m,_,_,e1,_⟩:=hnews id x hx;obtain ⟨m',_,_,Qw,_⟩:=hnews gN x' hx';simp only [Ix,hn,qv,if_true] at e;omega
   ·have nq:gN∈fK tg:=hu'.resolve_right qv
    have:=(q2.XV gN nq).2.1;simp only [Nat.zero_add] at this;simp only [Ix,hn,qv,if_true] at e;have e:n+(id-dF)=J gN:=e;omega
   ·have ht:id∈fK tg:=hu.resolve_right hn
    have:=(q2.XV id ht).2.1;simp only [Nat.zero_add] at this;simp only [Ix,hn,qv,if_true] at e;have e:J id=n+(gN-dF):=e;omega
   ·simp only [Ix,hn,qv] at e
    exact q2.inj id gN (hu.resolve_right hn) (hu'.resolve_right qv) e
  have ga:cK X.K w0 nt DD eG eD a w':=by
   refine hs.write (S':=DD) hb U (fun k hk=>?_) (fun id ob hu hi=>?_) (fun id ob hu hi=>?_) (fun t v ht i hi=>Fe i (P7 t v ht i hi)) (fun id ob k hu hi hk=>?_) (fun id gN ob dR k hu hi eN hk hk'=>?_) (fun id ob hu hi=>?_) (fun id kd ls hu hi l hl hp i hil=>?_) (fun t v ht=>?_)
   ·have hno:∀ m,¬ G0 m k:=fun m hm=>by
     obtain ⟨id,p,ob,_,h2,h3⟩:=hA m k hm;exact hk.2 id ob h3 h2
    obtain ⟨f1,f2⟩:=qZ k hk.1 hno;refine ⟨⟨f1,fun id ob hi hf=>?_⟩,f2⟩
    rcases J9 id ob k hi hf with ⟨zw,h1,h2,_⟩ | ⟨_,h1⟩
    ·exact hk.2 id zw h1 h2
    ·rcases (Ft _ k h1).1 with ⟨m,hm⟩ | h2
     ·exact hno m hm
     ·have:=hk.1;omega
   ·have hn:lk news id=none:=hnone id fun h=>hu (.inr h)
    have h2:=o8 id ob hn hi
    obtain ⟨o1,o2⟩:=q2.other id fun h=>hu (.inl h)
    have h3:lk S.aj id=some ob:=by rw [←h2,o1]
    refine ⟨h3,?_,fun k hk=>qZ k (hs.fresh id ob k h3 hk).2 fun m hm=>?_⟩
    ·funext k;simp [eD,hn,o2]
    ·obtain ⟨gN,p,dR,c1,c2,c3⟩:=hA m k hm
     have:=hs.eH gN id dR ob k c3 h3 c2 hk;subst this;exact hu (.inl (lI.2 ⟨m,p,c1⟩))
   ·have hn:lk news id=none:=hnone id fun h=>hu (.inr h)
    have h2:=o8 id ob hn hi;exact ⟨Fe id hn,fun kd ls e i eN=>Fe i ((P6 id ob h2).2 kd ls e i eN)⟩
   ·rcases J9 id ob k hi hk with ⟨zw,h1,h2,h3⟩ | ⟨_,h1⟩
    ·have:=hs.fresh id zw k h1 h2
     exact ⟨this.1,(qZ k this.2 h3).1⟩
    ·exact (Ft _ k h1).2
   ·rcases J9 id ob k hi hk with ⟨zw,h1,h2,h3⟩ | ⟨u1,h1⟩<;>rcases J9 gN dR k eN hk' with ⟨Uk,mL,zn,Tr⟩ | ⟨u1',mL⟩
    ·exact hs.eH id gN zw Uk k h1 mL h2 zn
    ·obtain ⟨m,hm⟩:=hsep _ k mL id zw h1 h2
     exact absurd hm (h3 m)
    ·obtain ⟨m,hm⟩:=hsep _ k h1 gN Uk mL zn
     exact absurd hm (Tr m)
    ·exact hIx id gN ob dR u1 u1' hi eN (Tq _ _ k h1 mL)
   ·by_cases hn:(lk news id).isSome
    ·obtain ⟨x,hx⟩:=Option.isSome_iff_exists.1 hn
     obtain ⟨m,t,xs,e1,e2,e3⟩:=hnews id x hx
     have ZT:lk DD.aj id=some x:=by
      rw [g3,dc];have hx':lk (bN dF (c.ret r0)).2 id=some x:=hx;rw [hx']
     rw [ZT] at hi;cases hi;refine ⟨t,xs,e3,?_⟩;have hO:=Iq (n+m) (.row t xs) (by rw [List.getElem?_append_right (by omega)];simpa [n] using e2)
     have e4:(rowsOf (flatten rs) kG++nA).getD (n+m) undef=nA.getD m undef:=by
      simp only [List.getD];rw [List.getElem?_append_right (by rw [←Fh];omega),← Fh];simp [n]
     have e5:id-dF=m:=by omega
     rw [e4] at hO
     simpa [eG,eD,hn,e5] using hO
    ·have ht:id∈fK tg:=hu.resolve_right hn
     obtain ⟨_,_,_,⟨t,xs,a4,a5⟩,_⟩:=q2.XV id ht;have h2:=o8 id ob (hnone id hn) hi;rw [a4] at h2;cases h2;refine ⟨t,xs,rfl,?_⟩;have e1:eG id=β id:=Fe id (hnone id hn)
     have e2:eD id=He id:=by funext k;simp [eD,hn]
     rw [e1,e2];exact a5
   ·have hn:lk news id=none:=hnone id fun h=>hu (.inr h)
    have h2:=o8 id _ hn hi
    obtain ⟨o1,o2⟩:=q2.other id fun h=>hu (.inl h)
    have h3:lk S.aj id=some (.box kd ls):=by rw [←h2,o1]
    have hto1:=List.any_eq_false.1 hto (id,.box kd ls) (qV h3)
    have hto2:ls.any (jN (fK tg))=false:=by simpa [N8] using hto1
    have ZV:=List.any_eq_false.1 hto2 l hl
    have ZV:jN (fK tg) l=false:=by simpa using ZV
    rintro (h4 | h4)
    ·exact zR ZV hp i hil h4
    ·have:lk news i=none:=(P6 id _ h2).2 _ ls rfl i (by
      obtain ⟨j,hj,rfl⟩:=List.getElem_of_mem hl
      exact eK (i:=j) (by simp [hj]) hil)
     rw [this] at h4;cases h4
   ·have nq:=ht
    rw [henv2] at nq;obtain ⟨h1,h2⟩:=qK nq;refine ⟨h1,fun l hl hp i hil=>?_⟩
    rintro (h4 | h4)
    ·exact zR (LH h2 l hl) hp i hil h4
    ·have:=P7 t v ht i (Ga hl hil)
     rw [this] at h4;cases h4
  have hsh:=js (c.ret r0) dF
  have hval:cg X.K w' DD.aj eG eD (aH DD.aj eD w') (flatten (bN dF (c.ret r0)).1) nA:=by
   refine ⟨by rw [hrl,kg hsh],fun m l hm=>?_⟩
   have own:∀ l',(flatten (c.ret r0))[m]?=some l'→Own X.K w' w0.heap.size (G' (n+m)) l' (nA.getD m undef):=fun l' hl'=>by
    have hO:=Iq (n+m) l' (by rw [List.getElem?_append_right (by omega)];simpa [n] using hl')
    have e4:(rowsOf (flatten rs) kG++nA).getD (n+m) undef=nA.getD m undef:=by
     simp only [List.getD];rw [List.getElem?_append_right (by rw [←Fh];omega),← Fh];simp [n]
    rw [e4] at hO;exact hO
   rcases sS (c.ret r0) dF m l hm with ⟨t,xs,q1,q2,q3⟩ | ⟨q1,q2⟩
   ·subst q2
    refine ⟨(own _ q1).one,?_⟩
    have e2:(lk news (dF+m)).isSome:=by
     have:lk news (dF+m)=some (.row t xs false):=q3;rw [this];rfl
    simp [eG,e2]
   ·exact qQ (own l q1) q2
  have hsv:=wW (by rw [ic hsh];exact Ii) hv hval;rw [lE hsh (us:=nA),← hp] at hsv;exact bw ga hd hsv q1
end
section
variable {Ty:Type} [DecidableEq Ty] {C:Ty→Type}
variable {P:Program} {X:Cx C} {w0 w:World} {nt:Nat} {S:St C} {β:Nat→Value} {fp:Nat→Nat→Prop} {a:Act} {R:Type} {r:R}
def Cd.gh (K:Cd C) (kp:Nat→Prop) (kh:Nat→Option Obj) (hd:Nat→Value):Cd C:={ K with kp:=kp,kh:=kh,hd:=hd }
def Cx.gh (X:Cx C) (kp:Nat→Prop) (kh:Nat→Option Obj) (hd:Nat→Value):Cx C:={ X with K:=X.K.gh kp kh hd }
section
variable {K:Cd C} {kp:Nat→Prop} {kh:Nat→Option Obj} {hd:Nat→Value}
theorem oJ {base:Nat} {F:Nat→Prop} {l:Lf C} {v:Value} (h:Own K w base F l v):Own (K.gh kp kh hd) w base F l v:=by
 induction h with
 | int=>exact .int ..
 | bool=>exact .bool ..
 | str=>exact .str ..
 | dP=>exact .dP ..
 | row F t xs v cells G h hF hG hd _ ih=>exact .row F t xs v cells G h hF hG hd ih
theorem Ck {base:Nat} {F:Nat→Prop} {l:Lf C} {v:Value} (h:Own (K.gh kp kh hd) w base F l v):Own K w base F l v:=by
 induction h with
 | int=>exact .int ..
 | bool=>exact .bool ..
 | str=>exact .str ..
 | dP=>exact .dP ..
 | row F t xs v cells G h hF hG hd _ ih=>exact .row F t xs v cells G h hF hG hd ih
theorem wX {F:Nat→Prop} {l:Lf C} {v:Value} (h:gU K w F l v):gU (K.gh kp kh hd) w F l v:=by
 induction h with
 | int=>exact .int ..
 | bool=>exact .bool ..
 | str=>exact .str ..
 | dP=>exact .dP ..
 | row t xs A c a U hc hA hcell _ ih=>exact .row t xs A c a U hc hA hcell ih
theorem tu {F:Nat→Prop} {l:Lf C} {v:Value} (h:gU (K.gh kp kh hd) w F l v):gU K w F l v:=by
 induction h with
 | int=>exact .int ..
 | bool=>exact .bool ..
 | str=>exact .str ..
 | dP=>exact .dP ..
 | row t xs A c a U hc hA hcell _ ih=>exact .row t xs A c a U hc hA hcell ih
theorem con_gh {f:Nat} {c:iu C} (h:cL P K f c):cL P (K.gh kp kh hd) f c:=by
 refine ⟨h.1,fun w vs us r0 hv hl ha hg=>(h.2 w vs us r0 hv hl (fun i v hi=>?_) hg).mono fun e w' ⟨v,he,hb,⟨np,G,q1,q2,q3,q4,q5,q6⟩,hz⟩=>⟨v,he,hb,⟨np,G,q1,q2,q3,q4,q5,fun m l hm=>oJ (q6 m l hm)⟩,hz⟩⟩;have:=ha i v hi
 cases v with
 | one l=>
  cases l with
  | eS t x o=>obtain ⟨a,U,h1,h2,h3,h4⟩:=this;exact ⟨a,U,h1,h2,h3,fun i l hl=>tu (h4 i l hl)⟩
  | _=>exact ⟨this.1,tu this.2⟩
 | agg ls=>obtain ⟨us,e,h1,h2⟩:=this;exact ⟨us,e,h1,fun i l hi=>tu (h2 i l hi)⟩
 | _=>exact this.elim
theorem Vf {f:Nat} {c:rA C} (h:uy P K f c):uy P (K.gh kp kh hd) f c:=by
 refine ⟨h.1,fun w0 w rs kG r0 G hv hb hok xV Ft Tq hl hg=>(h.2 w0 w rs kG r0 G hv hb hok xV Ft Tq (fun m l hm=>⟨(hl m l hm).1,Ck (hl m l hm).2⟩) hg).mono fun e w' ⟨v,he,hb',qZ,nA,G',q1,q2,q3,q4,q5,q6,q7⟩=>
  ⟨v,he,hb',qZ,nA,G',q1,q2,q3,q4,q5,q6,fun m l hm=>oJ (q7 m l hm)⟩⟩
theorem Cz (kt vt:Ty) (x:C kt):∀ xs:List (Nat×C kt×C vt),vq (K.gh kp kh hd) kt vt x xs=vq K kt vt x xs
 | []=>rfl
 | e::r=>by simp only [vq,Cz kt vt x r];rfl
theorem EW (fl:MK) (kt vt:Ty) (x:C kt):∀ (xs:List (Nat×C kt×C vt)) (i:Nat),jx (K.gh kp kh hd) fl kt vt x xs i=jx K fl kt vt x xs i
 | [],_=>rfl
 | e::r,i=>by simp only [jx,EW fl kt vt x r];rfl
theorem Uo (kt vt:Ty) (x:C kt) (xs:List (Nat×C kt×C vt)):qT (K.gh kp kh hd) kt vt x xs=qT K kt vt x xs:=by unfold qT;rw [Cz];rfl
theorem JT (kt vt:Ty) (x:C kt) (xs:List (Nat×C kt×C vt)):qU (K.gh kp kh hd) kt vt x xs=qU K kt vt x xs:=by unfold qU;rw [Cz]
theorem Uu (kt vt:Ty) (x:C kt) (c:Nat) (xs:List (Nat×C kt×C vt)):H4 (K.gh kp kh hd) kt vt x c xs=H4 K kt vt x c xs:=by unfold H4;rw [JT]
theorem JR (kt vt:Ty) (x:C kt) (y:C vt) (c:Nat):∀ xs:List (Nat×C kt×C vt),zx (K.gh kp kh hd) kt vt x y c xs=zx K kt vt x y c xs
 | []=>rfl
 | e::r=>by simp only [zx,JR kt vt x y c r];rfl
theorem JW (kt vt:Ty) (x:C kt):∀ xs:List (Nat×C kt×C vt),zy (K.gh kp kh hd) kt vt x xs=zy K kt vt x xs
 | []=>rfl
 | e::r=>by simp only [zy,JW kt vt x r];rfl
theorem Py {R:Type} (kt vt:Ty) (x:C kt) (yes:C vt→Option R) (no:Option R):∀ xs:List (Nat×C kt×C vt),WG (K.gh kp kh hd) kt vt x yes no xs=WG K kt vt x yes no xs
 | []=>rfl
 | e::r=>by simp only [WG,Py kt vt x yes no r];rfl
theorem qJ (h:jk P X):jk P (X.gh kp kh hd):=by
 refine ⟨fun T k hk=>h.tk T k hk,fun t=>?_,fun T m hm=>?_,h.H3,h.ext,h.ins,h.U2⟩
 rotate_left
 ·obtain ⟨kt,et,q⟩:=h.mp T m hm
  exact ⟨kt,et,q.lX,q.fk,q.fv,q.zero,q.qx,fun x xs w=>(q.find x xs w).trans (congrArg (Result.ok · w) (EW m.fl m.kt m.vt x xs 0).symm),q.vone,q.bits⟩
 obtain ⟨i,z,h1,h2,h3,h4,h5,h6,h7⟩:=h.el t;exact ⟨i,z,h1,h2,h3,h4,h5,h6,fun j l hj w base F=>oJ (h7 j l hj w base F)⟩
end
end
section
variable {Ty:Type} [DecidableEq Ty] {C:Ty→Type}
variable {X:Cx C} {K:Cd C} {S:St C} {R:Type} {kp:Nat→Prop} {kh:Nat→Option Obj} {hd:Nat→Value}
theorem oS (o:Oper):bP (X.gh kp kh hd) S o=bP X S o:=rfl
theorem vO {α:Type}:∀ (p:List (Nat×Nat)) (t:Ty) (xs:List (C t)) (k:(t:Ty)→List (C t)→Option α),path (K.gh kp kh hd) p t xs k=path K p t xs k
 | [],_,_,_=>rfl
 | (i,o)::p,t,xs,k=>by
  simp only [path,vO p];rfl
theorem pF {α:Type} (l:Lf C) (k:(t:Ty)→List (C t)→Option α):oC S (X.gh kp kh hd) l k=oC S X l k:=by
 cases l with
 | ref id p=>
  simp only [oC];split
  ·exact vO ..
  ·rfl
 | _=>rfl
theorem lS {α:Type} (a:Lf C) (k:List (Lf C)→Option α):dZ (X.gh kp kh hd) S a k=dZ X S a k:=by
 cases a with
 | ep id p i o=>
  simp only [dZ];split
  ·exact vO ..
  ·rfl
 | _=>rfl
theorem ym (t:Ty):∀ (l:List (Nat×Operand)) (S:St C) (n:Nat),elems (X.gh kp kh hd) t S n l=elems X t S n l
 | [],_,_=>rfl
 | (i,x)::r,S,n=>by
  simp only [elems,ym t r];rfl
theorem qO (fs:List (Nat×Nat×Bool)):∀ (l:List (Nat×Operand)) (ls:List (Lf C)),partsOf (X.gh kp kh hd) fs S l ls=partsOf X fs S l ls
 | [],_=>rfl
 | (i,x)::r,ls=>by simp only [partsOf,qO fs r]
theorem jU (T:TypeId) (x:Operand):gu (X.gh kp kh hd) S T x=gu X S T x:=rfl
theorem Uc (l:Lf C) (k:Lf C→s9→Option R):HU (X.gh kp kh hd) S l k=HU X S l k:=by
 cases l with
 | ref id p=>
  simp only [HU];split
  ·exact vO ..
  ·rfl
 | _=>rfl
theorem rX:∀ (l:List (Lf C)) (k:List (Lf C)→List s9→Option R),qA (X.gh kp kh hd) S l k=qA X S l k
 | [],_=>rfl
 | l::r,k=>by simp only [qA,Uc,rX r]
theorem Ar:∀ (l:List Operand) (ts:List TypeId) (k:List (Bool×List (Lf C))→List s9→Option R),oM (X.gh kp kh hd) S l ts k=oM X S l ts k
 | [],_,_=>rfl
 | x::r,ts,k=>by simp only [oM,rX,Ar r,jU]
theorem wS:∀ (p:List (Nat×Nat)) (t:Ty) (xs:List (C t)) (l:Lf C) (k:List (C t)→Option R),setPath (K.gh kp kh hd) p t xs l k=setPath K p t xs l k
 | [],_,_,l,_=>by cases l<;>rfl
 | (i,o)::p,t,xs,l,k=>by
  simp only [setPath,wS p];rfl
theorem L1:∀ (ls:List (Lf C)) (ts:List s9) (os:List (Lf C)) (S:St C) (k:St C→Option R),dU (K.gh kp kh hd) ls ts os S k=dU K ls ts os S k:=by
 intro ls
 induction ls with
 | nil=>intro ts os S k;cases ts<;>cases os<;>rfl
 | cons l ls ih=>
  intro ts os S k
  cases ts with
  | nil=>cases l<;>rfl
  | cons t ts=>
   cases l with
   | row t0 Hn=>
    cases os with
    | nil=>cases t<;>rfl
    | cons o os=>
     cases t with
     | none=>simp only [dU,ih]
     | some x=>
      obtain ⟨id,p⟩:=x;simp only [dU,wS,ih]
   | int ki n=>cases t<;>simp only [dU,ih]
   | bool b=>cases t<;>simp only [dU,ih]
   | str s=>cases t<;>simp only [dU,ih]
   | _=>cases t<;>rfl
theorem Q6 (f:Nat) (as:List Operand) (ts:List TypeId) (o:Oper) (k:St C→Option R):uZ (X.gh kp kh hd) S f as ts o k=uZ X S f as ts o k:=by
 simp only [uZ,Ar];have e:(X.gh kp kh hd).yt f=X.yt f:=rfl;rw [e]
 cases X.yt f with
 | none=>rfl
 | some c=>
  have e2:(X.gh kp kh hd).K=X.K.gh kp kh hd:=rfl;simp only [e2,L1,oS]
theorem kz:∀ (l:List Operand) (ts:List TypeId),fE (X.gh kp kh hd) S l ts=fE X S l ts
 | [],_=>rfl
 | x::r,ts=>by simp only [fE,kz r,jU]
theorem FX (f:Nat) (pre:List (SV C)) (as:List Operand) (ts:List TypeId) (post:List (SV C)) (o:Oper) (k:St C→Option R):yw (X.gh kp kh hd) S f pre as ts post o k=yw X S f pre as ts post o k:=by
 simp only [yw,kz];rfl
theorem Q7 (f:Nat) (as:List Operand) (ts:List TypeId) (o:Oper) (k:St C→Option R):pz (X.gh kp kh hd) S f as ts o k=pz X S f as ts o k:=by
 simp only [pz,FX,kz];rfl
theorem LF (l:Lf C):kF (X.gh kp kh hd) S l=kF X S l:=by
 unfold kF;simp only [pF]
theorem wE:∀ l:List (Lf C),gE (X.gh kp kh hd) S l=gE X S l
 | []=>rfl
 | l::r=>by simp only [gE,LF,wE r]
theorem N2 (pt:Option Ty) (v:SV C):nV (X.gh kp kh hd) S pt v=nV X S pt v:=by
 unfold nV;simp only [lS,wE];rfl
theorem wz:∀ (pt:List (Option Ty)) (l:List (SV C)),views (X.gh kp kh hd) S pt l=views X S pt l
 | _,[]=>rfl
 | pt,v::r=>by simp only [views,N2,wz pt.tail r]
theorem FZ (c:iu C) (pre:List (SV C)) (as:List Operand) (ts:List TypeId) (post:List (SV C)) (o:Oper) (k:St C→Option R):qD (X.gh kp kh hd) c S pre as ts post o k=qD X c S pre as ts post o k:=by
 rw [sP,sP];unfold yx m6;simp only [kz,wz,oS]
theorem um (c:iu C) (pre:List (SV C)) (as:List Operand) (ts:List TypeId) (post:List (SV C)) (o:Oper) (k:SV C→List (Nat×Ob C)→List Nat→Option R):nP (X.gh kp kh hd) c S pre as ts post o k=nP X c S pre as ts post o k:=by
 rw [uo,uo];unfold wh m6;simp only [kz,wz,oS]
theorem FY (f:Nat) (pre:List (SV C)) (as:List Operand) (ts:List TypeId) (post:List (SV C)) (o:Oper) (k:St C→Option R):sO (X.gh kp kh hd) S f pre as ts post o k=sO X S f pre as ts post o k:=by
 unfold sO;simp only [FZ,FX];rfl
theorem E1 (m:MT Ty) (l:Lf C) (key:SV C) (ok:Bool) (k:SV C→Option R):oW (X.gh kp kh hd) S m l key ok k=oW X S m l key ok k:=by
 have e2:(X.gh kp kh hd).K=X.K.gh kp kh hd:=rfl;unfold oW lL;simp only [e2,Uo,JT];rfl
theorem PC (m:MT Ty) (l:Lf C) (key:SV C) (ok:Bool) (k:SV C→Option R):E2 (X.gh kp kh hd) S m l key ok k=E2 X S m l key ok k:=by
 have e2:(X.gh kp kh hd).K=X.K.gh kp kh hd:=rfl;unfold E2 lL;simp only [e2,Py];rfl
theorem Jc (m:MT Ty) (l:Lf C) (key v:SV C) (k:St C→Option R):Hv (X.gh kp kh hd) S m l key v k=Hv X S m l key v k:=by
 have e2:(X.gh kp kh hd).K=X.K.gh kp kh hd:=rfl;unfold Hv lL;simp only [e2,JR,Uu];rfl
theorem Va (m:MT Ty) (l:Lf C) (key:SV C) (k:St C→Option R):Qy (X.gh kp kh hd) S m l key k=Qy X S m l key k:=by
 have e2:(X.gh kp kh hd).K=X.K.gh kp kh hd:=rfl;unfold Qy lL;simp only [e2,JW];rfl
theorem Eb (t:Ty):∀ (l:List (Nat×Operand)) (S:St C),rR (X.gh kp kh hd) t S l=rR X t S l
 | [],_=>rfl
 | (i,x)::r,S=>by
  simp only [rR,Eb t r];rfl
theorem Un (tk:Option (TK Ty)) (op:BinOp) (x:SV C) (k:SV C→Option R):xI tk (X.gh kp kh hd) S op x k=xI tk X S op x k:=by
 unfold xI;simp only [pF]
theorem rQ:∀ (l:List ResultVar),gR (X.gh kp kh hd) S l=gR X S l
 | []=>rfl
 | .tmp t::r=>by simp only [gR,rQ r]
 | .cell a t::r=>by
  simp only [gR,rQ r,lS];rfl
theorem W6 (o:Oper) (S:St C) (k:St C→Option R):ev (X.gh kp kh hd) o S k=ev X o S k:=by
 obtain ⟨dst,op,ty,pos,dG,gd⟩:=o
 cases op with
 | build t ps=>simp only [ev,qO];rfl
 | buildSlice t n ps=>simp only [ev,ym];rfl
 | load t x=>simp only [ev,lS];rfl
 | binOp op t x y t'=>simp only [ev,Un,jU];rfl
 | convert t t' x=>simp only [ev,pF];rfl
 | indexAddr t x i=>simp only [ev,pF];rfl
 | call c=>
  obtain ⟨XT,as,ts⟩:=c
  cases XT with
  | builtin b=>cases b with
   | len=>simp only [ev,pF];rfl
   | append=>simp only [ev,jU];rfl
   | delete=>simp only [ev,jU,Va];rfl
   | copy=>simp only [ev,jU];rfl
   | _=>rfl
  | value f=>cases f with
   | func f=>simp only [ev,FZ,Q6,Q7];rfl
   | tmp t=>simp only [ev,FY]
   | _=>rfl
  | invoke x name=>simp only [ev,FY];rfl
 | makeFunc fn first captured=>simp only [ev,kz,oS]
 | makeInterface t x=>simp only [ev,jU];rfl
 | lookup t x i ok=>simp only [ev,E1,PC];rfl
 | mapUpdate t x i y=>simp only [ev,Jc];rfl
 | insert t x i y=>simp only [ev,Jc];rfl
 | _=>rfl
theorem evq_gh (o:Oper) (S:St C) (k:SV C→List (Nat×Ob C)→List Nat→Option R):kN (X.gh kp kh hd) o S k=kN X o S k:=by
 obtain ⟨dst,op,ty,pos,dG,gd⟩:=o
 cases op with
 | build t ps=>simp only [kN,qO];rfl
 | buildSlice t n ps=>simp only [kN,ym,Eb];rfl
 | load t x=>simp only [kN,lS];rfl
 | convert t t' x=>simp only [kN,pF];rfl
 | indexAddr t x i=>simp only [kN,pF];rfl
 | call c=>
  obtain ⟨XT,as,ts⟩:=c
  cases XT with
  | builtin b=>cases b with
   | len=>simp only [kN,pF];rfl
   | append=>simp only [kN,jU];rfl
   | _=>rfl
  | value f=>cases f with
   | func f=>simp only [kN,um];rfl
   | tmp t=>simp only [kN,um];rfl
   | _=>rfl
  | invoke x name=>simp only [kN,um];rfl
 | makeFunc fn first captured=>simp only [kN,kz,oS]
 | makeInterface t x=>simp only [kN,jU];rfl
 | lookup t x i ok=>simp only [kN,E1];rfl
 | _=>rfl
theorem Qt (all:Array Oper):∀ (l:List Oper) (S:St C) (k:St C→Option R),evs (X.gh kp kh hd) all l S k=evs X all l S k
 | [],_,_=>rfl
 | o::r,S,k=>by simp only [evs,W6,Qt all r]
theorem PS (o:Oper):WN (X.gh kp kh hd) o=WN X o:=rfl
theorem Al (all:Array Oper) (tab:List (Nat×Nat)):∀ (n:Nat) (l:List Oper),nE (X.gh kp kh hd) all tab n l=nE X all tab n l
 | _,[]=>rfl
 | n,o::r=>by simp only [nE,Al all tab];rfl
theorem EP (all:Array Oper) (tab:List (Nat×Nat)):∀ l:List Nat,rW (X.gh kp kh hd) all tab l=rW X all tab l
 | []=>rfl
 | j::r=>by simp only [rW,EP all tab r];rfl
theorem T6 (all:Array Oper) (tab:List (Nat×Nat)) (ord:List Nat):HT (X.gh kp kh hd) all tab ord=HT X all tab ord:=by
 simp only [HT,EP]
theorem Ue (all:Array Oper) (tab:List (Nat×Nat)):qR (X.gh kp kh hd) all tab=qR X all tab:=rfl
theorem EH:∀ (l:List Oper),xn (X.gh kp kh hd) l=xn X l
 | []=>rfl
 | o::r=>by simp only [xn,EH r,PS]
theorem uO (all:Array Oper):∀ (l:List Nat) (S:St C),jY (X.gh kp kh hd) all l S=jY X all l S
 | [],_=>rfl
 | i::r,S=>by simp only [jY,jU,uO all r]
theorem Pt (o:Oper):oU (X.gh kp kh hd) o=oU X o:=rfl
theorem Mj (su:iR C) (o:Oper) (Sa S:St C) (k:St C→Option R):mE (X.gh kp kh hd) su o Sa S k=mE X su o Sa S k:=by
 have e:Az (X.gh kp kh hd) o Sa=Az X o Sa:=by
  obtain ⟨dst,op,ty,pos,dG,gd⟩:=o
  cases op with
  | call c=>exact kz ..
  | _=>rfl
 unfold mE;rw [e]
theorem Ky (all:Array Oper) (tab:List (Nat×Nat)) (k:St C→Option R):∀ (f:Nat) (l:List (Nat×Oper)) (S0:St C) (bt:List (fA C)),jm (X.gh kp kh hd) all tab k f l S0 bt=jm X all tab k f l S0 bt
 | 0,_,_,_=>rfl
 | f+1,[],_,_=>rfl
 | f+1,(n,o)::r,S0,bt=>by simp only [jm,W6,evq_gh,PS,Pt,Mj,Ky all tab k f]
theorem OJ (F:Cf):∀ (c:Code) (cur:Nat) (S:St C) (k:Ex→St C→Option R),run (X.gh kp kh hd) F c cur S k=run X F c cur S k:=by
 intro c
 induction c with
 | region i ops draw=>
  intro cur S k
  cases draw with
  | false=>simp only [run,Qt]
  | true=>simp only [run,drun,Ky,Al,T6,Ue,EH,uO]
 | seq a b iha ihb=>
  intro cur S k;simp only [run];rw [iha]
  congr 1
  funext e S'
  cases e<;>simp only [bA,ihb]
 | cond c x y ihx ihy=>
  intro cur S k;simp only [run,ihx,ihy]
 | block id c ih=>intro cur S k;simp only [run,ih]
 | scope c ih=>intro cur S k;simp only [run,ih]
 | loop b ih=>
  intro cur S k;simp only [run]
  congr 2
  funext rec S'
  exact ih ..
 | _=>intros;rfl
end
section
variable {Ty:Type} [DecidableEq Ty] {C:Ty→Type}
variable {P:Program} {X:Cx C} {K:Cd C} {w0 w:World} {nt:Nat} {S:St C} {β:Nat→Value} {fp:Nat→Nat→Prop} {a:Act} {R:Type} {k:St C→Option R} {r:R}
variable {Q:Exit→Act→World→Prop} {kp:Nat→Prop} {kh:Nat→Option Obj} {hd:Nat→Value} {aj:cm C} {b8:Nat→Prop}
theorem JI {F:Nat→Prop} {t:Ty} {xs:List (C t)} {v:Value} {p:List (Nat×Nat)} {t':Ty} {zs:List (C t')} {v':Value} (h:ow K w F t xs v p t' zs v'):ow (K.gh kp kh hd) w F t xs v p t' zs v':=by
 induction h with
 | nil=>exact .nil ..
 | cons t xs v i o x t1 ys a n c v1 p t' zs v' hx hl hv hF hc _ ih=>exact .cons t xs v i o x t1 ys a n c v1 p t' zs v' hx hl hv hF hc ih
theorem JH {F:Nat→Prop} {t:Ty} {xs:List (C t)} {v:Value} {p:List (Nat×Nat)} {t':Ty} {zs:List (C t')} {v':Value} (h:ow (K.gh kp kh hd) w F t xs v p t' zs v'):ow K w F t xs v p t' zs v':=by
 induction h with
 | nil=>exact .nil ..
 | cons t xs v i o x t1 ys a n c v1 p t' zs v' hx hl hv hF hc _ ih=>exact .cons t xs v i o x t1 ys a n c v1 p t' zs v' hx hl hv hF hc ih
theorem xP {l:Lf C} {v:Value} (h:cI K w aj β fp b8 l v):cI (K.gh kp kh hd) w aj β fp b8 l v:=by
 cases l with
 | row t xs=>exact wX h
 | eS t x o=>obtain ⟨a,U,h1,h2,h3,h4⟩:=h;exact ⟨a,U,h1,h2,h3,fun i l hl=>wX (h4 i l hl)⟩
 | ref id p=>cases p with
  | nil=>exact h
  | cons s p=>exact ⟨h.1,fun t xs sh ho=>by obtain ⟨h1,t',zs,hz⟩:=h.2 t xs sh ho;exact ⟨h1,t',zs,JI hz⟩⟩
 | ep id p i o=>cases p with
  | nil=>exact h
  | cons s p=>exact ⟨h.1,fun t xs sh ho=>by obtain ⟨h1,t',zs,v',hz,hr⟩:=h.2 t xs sh ho;exact ⟨h1,t',zs,v',JI hz,hr⟩⟩
 | _=>exact h
theorem WI {l:Lf C} {v:Value} (h:cI (K.gh kp kh hd) w aj β fp b8 l v):cI K w aj β fp b8 l v:=by
 cases l with
 | row t xs=>exact tu h
 | eS t x o=>obtain ⟨a,U,h1,h2,h3,h4⟩:=h;exact ⟨a,U,h1,h2,h3,fun i l hl=>tu (h4 i l hl)⟩
 | ref id p=>cases p with
  | nil=>exact h
  | cons s p=>exact ⟨h.1,fun t xs sh ho=>by obtain ⟨h1,t',zs,hz⟩:=h.2 t xs sh ho;exact ⟨h1,t',zs,JH hz⟩⟩
 | ep id p i o=>cases p with
  | nil=>exact h
  | cons s p=>exact ⟨h.1,fun t xs sh ho=>by obtain ⟨h1,t',zs,v',hz,hr⟩:=h.2 t xs sh ho;exact ⟨h1,t',zs,v',JH hz,hr⟩⟩
 | _=>exact h
theorem kM {ls:List (Lf C)} {vs:List Value} (h:cg K w aj β fp b8 ls vs):cg (K.gh kp kh hd) w aj β fp b8 ls vs:=⟨h.1,fun i l hl=>xP (h.2 i l hl)⟩
theorem tV {ls:List (Lf C)} {vs:List Value} (h:cg (K.gh kp kh hd) w aj β fp b8 ls vs):cg K w aj β fp b8 ls vs:=⟨h.1,fun i l hl=>WI (h.2 i l hl)⟩
theorem N6 {x:Bool×List (Lf C)} {v:Value} (h:gL K w aj β fp b8 x v):gL (K.gh kp kh hd) w aj β fp b8 x v:=by
 obtain ⟨b,ls⟩:=x
 cases b with
 | false=>obtain ⟨l,h1,h2⟩:=h;exact ⟨l,h1,xP h2⟩
 | true=>obtain ⟨vs,h1,h2⟩:=h;exact ⟨vs,h1,kM h2⟩
theorem wH {x:Bool×List (Lf C)} {v:Value} (h:gL (K.gh kp kh hd) w aj β fp b8 x v):gL K w aj β fp b8 x v:=by
 obtain ⟨b,ls⟩:=x
 cases b with
 | false=>obtain ⟨l,h1,h2⟩:=h;exact ⟨l,h1,WI h2⟩
 | true=>obtain ⟨vs,h1,h2⟩:=h;exact ⟨vs,h1,tV h2⟩
theorem WB (hkp:kp=K.kp) (hkh:kh=K.kh) {base:Nat} {F:Nat→Prop} {ob:Ob C} {v:Value} (h:lj K w base aj β fp b8 F ob v):lj (K.gh kp kh hd) w base aj β fp b8 F ob v:=by
 cases ob with
 | box kd ls=>cases kd with
  | mem=>obtain ⟨b,cs,e,h1,h2,h3,h4⟩:=h;exact ⟨b,cs,e,h1,h2,h3,kM h4⟩
  | gV f n sh=>obtain ⟨us,h1,h2,h3⟩:=h;exact ⟨us,h1,h2,kM h3⟩
  | mF t sh=>obtain ⟨us,h1,h2,h3⟩:=h;exact ⟨us,h1,h2,kM h3⟩
 | map mk kt vt xs c=>exact h
 | ghost=>subst hkp hkh;exact h
 | row t xs sh=>cases sh with
  | false=>exact oJ h
  | true=>obtain ⟨cells,h1,h2,h3⟩:=h;exact ⟨cells,h1,h2,fun j x hx i l hl=>wX (h3 j x hx i l hl)⟩
theorem WA (hkp:kp=K.kp) (hkh:kh=K.kh) {base:Nat} {F:Nat→Prop} {ob:Ob C} {v:Value} (h:lj (K.gh kp kh hd) w base aj β fp b8 F ob v):lj K w base aj β fp b8 F ob v:=by
 cases ob with
 | box kd ls=>cases kd with
  | mem=>obtain ⟨b,cs,e,h1,h2,h3,h4⟩:=h;exact ⟨b,cs,e,h1,h2,h3,tV h4⟩
  | gV f n sh=>obtain ⟨us,h1,h2,h3⟩:=h;exact ⟨us,h1,h2,tV h3⟩
  | mF t sh=>obtain ⟨us,h1,h2,h3⟩:=h;exact ⟨us,h1,h2,tV h3⟩
 | map mk kt vt xs c=>exact h
 | ghost=>subst hkp hkh;exact h
 | row t xs sh=>cases sh with
  | false=>exact Ck h
  | true=>obtain ⟨cells,h1,h2,h3⟩:=h;exact ⟨cells,h1,h2,fun j x hx i l hl=>tu (h3 j x hx i l hl)⟩
def nX:Act:={ tmps:= #[],defers:=[] }
def cG (P:Program) (K:Cd C) (f:Nat) (I:lz C):Prop:=
 (∃ fn,P.funcs[f]?=some fn∧fn.body.isNone=false∧fn.name ≠ "runtime.NumGoroutine") ∧
 (∀ (kp:Nat→Prop) (kh:Nat→Option Obj) (hd:Nat→Value) (w0 w:World) (S:St C) (β:Nat→Value) (fp:Nat→Nat→Prop) (vs:List (SV C)) (us:List Value) (R:Type) (k:List (Bool×List (Lf C))→St C→Option R) (r:R),
  cK (K.gh kp kh hd) w0 0 S β fp nX w→(∀ t v,lk S.env t=some v→1000≤t)→us.length=vs.length →
  (∀ (i:Nat) (v:SV C),vs[i]?=some v→dq (K.gh kp kh hd) w S.aj β fp (aH S.aj fp w) v (us.getD i undef))→I.go R vs S k=some r →
  Calls P f us.toArray w fun e w'=>∃ (v:Value) (rs:List (Bool×List (Lf C))) (nA:List Value) (S':St C) (eG:Nat→Value) (eD:Nat→Nat→Prop),e = .returned v∧v=pack rs nA∧fO rs=true∧k rs S'=some r ∧
   cK (K.gh kp kh hd) w0 0 S' eG eD nX w'∧cg (K.gh kp kh hd) w' S'.aj eG eD (aH S'.aj eD w') (flatten rs) nA) ∧
 ∀ su,I.sum=some su→I.go=DN su∧su.eU=[]∧∀ vs O r,dJ O=su.ids→su.g vs O=some r→∀ id,id∈dJ (su.out r)→id∈su.ids
theorem ZP {f:Nat} {I:lz C} (h:cG P K f I):cG P (K.gh kp kh hd) f I:=⟨h.1,fun kp' kh' hd'=>h.2.1 kp' kh' hd',h.2.2⟩
def uw (b:Nat) (E:List (Nat×SV C)) (t:Nat) (v:SV C):Prop:=∃ t0,t=t0+1000 ∧
 ((∃ l,lk E t0=some (.one l)∧v = .bz (false,[l]) (b+1000+t0))∨(∃ ls,lk E t0=some (.agg ls)∧v = .bz (true,ls) (b+1000+t0)) ∨
  (∃ id j,lk E t0=some (.jo id j)∧v = .jo id j)∨(lk E t0=some .frame∧v = .frame)∨(∃ x j,lk E t0=some (.bz x j)∧v = .bz x j))
theorem uw.up {b:Nat} {E:List (Nat×SV C)} {t m:Nat} {v u:SV C} (h:uw b E t v) (hne:t≠m+1000):uw b ((m,u)::E) t v:=by
 obtain ⟨t0,e,h⟩:=h
 have hm:lk ((m,u)::E) t0=lk E t0:=by rw [aQ,if_neg (by omega)]
 refine ⟨t0,e,?_⟩;rw [hm];exact h
theorem mM {b:Nat}:∀ {E:List (Nat×SV C)} {t:Nat} {v:SV C},lk (mg b E) t=some v→uw b E t v
 | [],t,v,h=>by simp [mg,lk] at h
 | (m,u)::E,t,v,h=>by
  have hd:∀ {v':SV C},lk ((m+1000,v')::mg b E) t=some v→(t=m+1000∧v=v')∨(t≠m+1000∧uw b ((m,u)::E) t v):=fun {v'} h=>by
   rw [aQ] at h
   by_cases e:t=m+1000
   ·rw [if_pos e] at h;cases h;exact .inl ⟨e,rfl⟩
   ·rw [if_neg e] at h;exact .inr ⟨e,(mM h).up e⟩
  have ht:lk (rm (mg b E) (m+1000)) t=some v→uw b ((m,u)::E) t v:=fun h=>by
   rw [lM] at h
   by_cases e:t=m+1000
   ·rw [if_pos e] at h;cases h
   ·rw [if_neg e] at h;exact (mM h).up e
  have hm:lk ((m,u)::E) m=some u:=by rw [aQ,if_pos rfl]
  cases u with
  | one l=>rcases hd h with ⟨e,e2⟩ | ⟨_,h⟩;exact ⟨m,e,.inl ⟨l,hm,e2⟩⟩;exact h
  | agg ls=>rcases hd h with ⟨e,e2⟩ | ⟨_,h⟩;exact ⟨m,e,.inr (.inl ⟨ls,hm,e2⟩)⟩;exact h
  | jo id j=>rcases hd h with ⟨e,e2⟩ | ⟨_,h⟩;exact ⟨m,e,.inr (.inr (.inl ⟨id,j,hm,e2⟩))⟩;exact h
  | frame=>rcases hd h with ⟨e,e2⟩ | ⟨_,h⟩;exact ⟨m,e,.inr (.inr (.inr (.inl ⟨hm,e2⟩)))⟩;exact h
  | bz x j=>rcases hd h with ⟨e,e2⟩ | ⟨_,h⟩;exact ⟨m,e,.inr (.inr (.inr (.inr ⟨x,j,hm,e2⟩)))⟩;exact h
  | rC _=>exact ht h
  | lX=>exact ht h
theorem C9 {a b:Nat} (h:Nat.blt a b=true):a<b:=by simpa [Nat.blt_eq] using h
theorem wM {b:Nat}:∀ {E:List (Nat×SV C)},mz b E=true→∀ t v,(t,v)∈E→(∀ id j,v = .jo id j→j<b+1000)∧∀ x j,v = .bz x j→j<b+1000
 | [],_,t,v,h=>by cases h
 | (m,u)::E,h,t,v,hm=>by
  have ih:mz b E=true→(t,v)∈E→_:=fun h hm=>wM h t v hm
  rcases List.mem_cons.1 hm with e | CL
  ·cases e
   cases u with
   | jo id j=>simp only [mz,Bool.and_eq_true] at h;exact ⟨fun _ _ e=>(by cases e;exact C9 h.1),fun _ _ e=>(by cases e)⟩
   | bz x j=>simp only [mz,Bool.and_eq_true] at h;exact ⟨fun _ _ e=>(by cases e),fun _ _ e=>(by cases e;exact C9 h.1)⟩
   | _=>exact ⟨fun _ _ e=>(by cases e),fun _ _ e=>(by cases e)⟩
  ·cases u with
   | jo id j=>simp only [mz,Bool.and_eq_true] at h;exact ih h.2 CL
   | bz x j=>simp only [mz,Bool.and_eq_true] at h;exact ih h.2 CL
   | _=>exact ih h CL
def pG (b:Nat) (E:List (Nat×SV C)) (t:Nat) (v:SV C):Prop:=
 (∃ x j,lk E (t+1000)=some (.bz x j)∧((j=b+(t+1000)∧v=N4 x)∨(j<b+1000∧v = .bz x j)))∨(∃ id j,lk E (t+1000)=some (.jo id j)∧j<b+1000∧v = .jo id j)∨(lk E (t+1000)=some .frame∧v = .frame)
theorem pG.up {b:Nat} {E:List (Nat×SV C)} {t m:Nat} {v u:SV C} (h:pG b E t v) (hne:m≠t+1000):pG b ((m,u)::E) t v:=by
 have hm:lk ((m,u)::E) (t+1000)=lk E (t+1000):=by rw [aQ,if_neg (fun e=>hne e.symm)]
 unfold pG;rw [hm];exact h
theorem rO {b:Nat}:∀ {E:List (Nat×SV C)} {t:Nat} {v:SV C},lk (jt b E) t=some v→pG b E t v
 | [],t,v,h=>by simp [jt,lk] at h
 | (m,u)::E,t,v,h=>by
  have hm:lk ((m,u)::E) m=some u:=by rw [aQ,if_pos rfl]
  have lo:¬ 1000≤m→lk (jt b E) t=some v→pG b ((m,u)::E) t v:=fun hl h=>(rO h).up (by omega)
  have hd:1000≤m→∀ {v':SV C},lk ((m-1000,v')::jt b E) t=some v→(m=t+1000∧v=v')∨pG b ((m,u)::E) t v:=fun hl {v'} h=>by
   rw [aQ] at h
   by_cases e:t=m-1000
   ·rw [if_pos e] at h;cases h;exact .inl ⟨by omega,rfl⟩
   ·rw [if_neg e] at h;exact .inr ((rO h).up (by omega))
  have ht:lk (rm (jt b E) (m-1000)) t=some v→pG b ((m,u)::E) t v:=fun h=>by
   rw [lM] at h
   by_cases e:t=m-1000
   ·rw [if_pos e] at h;cases h
   ·rw [if_neg e] at h;exact (rO h).up (by omega)
  have ble:∀ {x:Nat},Nat.ble 1000 x=true→1000≤x:=fun h=>Nat.le_of_ble_eq_true h
  have Ze:∀ {x:Nat},Nat.ble 1000 x=false→¬ 1000≤x:=fun h hl=>by rw [Nat.ble_eq_true_of_le hl] at h;cases h
  cases u with
  | bz x j=>
   simp only [jt] at h
   cases c1:Nat.ble 1000 m with
   | false=>rw [c1] at h;exact lo (Ze c1) h
   | true=>
    rw [c1] at h
    cases c2:Nat.beq j (b+m) with
    | true=>
     rw [c2] at h
     rcases hd (ble c1) h with ⟨e,e2⟩ | h
     ·exact .inl ⟨x,j,by rw [←e];exact hm,.inl ⟨by have:=Nat.eq_of_beq_eq_true c2;omega,e2⟩⟩
     ·exact h
    | false=>
     rw [c2] at h
     cases c3:Nat.blt j (b+1000) with
     | true=>
      rw [c3] at h
      rcases hd (ble c1) h with ⟨e,e2⟩ | h
      ·exact .inl ⟨x,j,by rw [←e];exact hm,.inr ⟨C9 c3,e2⟩⟩
      ·exact h
     | false=>rw [c3] at h;exact ht h
  | jo id j=>
   simp only [jt] at h
   cases c1:Nat.ble 1000 m with
   | false=>rw [c1] at h;exact lo (Ze c1) h
   | true=>
    rw [c1] at h
    cases c3:Nat.blt j (b+1000) with
    | true=>
     rw [c3] at h
     rcases hd (ble c1) h with ⟨e,e2⟩ | h
     ·exact .inr (.inl ⟨id,j,by rw [←e];exact hm,C9 c3,e2⟩)
     ·exact h
    | false=>rw [c3] at h;exact ht h
  | frame=>
   simp only [jt] at h
   cases c1:Nat.ble 1000 m with
   | false=>rw [c1] at h;exact lo (Ze c1) h
   | true=>
    rw [c1] at h
    rcases hd (ble c1) h with ⟨e,e2⟩ | h
    ·exact .inr (.inr ⟨by rw [←e];exact hm,e2⟩)
    ·exact h
  | one _=>exact ht h
  | agg _=>exact ht h
  | rC _=>exact ht h
  | lX=>exact ht h
theorem wG {x:Bool×List (Lf C)} {v:Value} (h:gL K w aj β fp b8 x v):dq K w aj β fp b8 (N4 x) v:=by
 obtain ⟨b,ls⟩:=x
 cases b with
 | false=>obtain ⟨l,h1,h2⟩:=h;have h1:ls=[l]:=h1;subst h1;exact h2
 | true=>cases ls with
  | nil=>exact h
  | cons l r=>cases r<;>exact h
theorem m5:∀ {xs:List Operand} {ts:List TypeId} {vs:List (SV C)},fE X S xs ts=some vs→∀ (i:Nat) (v:SV C),vs[i]?=some v→JM v=true
 | [],ts,vs,h,i,v,hi=>by simp only [fE,Option.some.injEq] at h;subst h;simp at hi
 | x::xs,ts,vs,h,i,v,hi=>by
  simp only [fE] at h;split at h
  ·split at h
   ·rename_i vs' hr
    cases h
    cases i with
    | zero=>simp at hi;subst hi;rfl
    | succ i=>exact m5 hr i v (by simpa using hi)
   ·cases h
  ·split at h
   ·rename_i vs' hr
    cases h
    cases i with
    | zero=>simp at hi;subst hi;rfl
    | succ i=>exact m5 hr i v (by simpa using hi)
   ·cases h
  ·cases h
theorem rH:∀ {sh:List (Bool×Nat)} {ls:List (Lf C)} (i:Nat) (v:SV C),(td sh ls)[i]?=some v→JM v=true
 | [],ls,i,v,h=>by simp [td] at h
 | (b,n)::sh,ls,i,v,h=>by
  cases i with
  | zero=>simp [td] at h;subst h;cases b<;>rfl
  | succ i=>exact rH i v (by simpa [td] using h)
def lp (vs:List (SV C)):Prop:=∀ (i:Nat) (v:SV C),vs[i]?=some v→JM v=true
theorem lp.nil:lp ([]:List (SV C)):=fun i v h=>by simp at h
theorem lp.append {vs us:List (SV C)} (h:lp vs) (h':lp us):lp (vs++us):=fun i v hi=>by
 rw [List.getElem?_append] at hi;split at hi
 ·exact h i v hi
 ·exact h' _ v hi
theorem Jn (hinl:∀ f I,X.inl f=some I→cG P X.K f I) (hs:cK X.K w0 nt S β fp a w) {o:Oper} (hd:slot o.dst nt) {f:FuncId} {pre post:List (SV C)} {pu qu:List Value} {as:List Operand} {ts:List TypeId}
  (h:yw X S f pre as ts post o k=some r) (hpre:gx X.K w S.aj β fp (aH S.aj fp w) pre pu) (sC:gx X.K w S.aj β fp (aH S.aj fp w) post qu) (apre:lp pre) (Rh:lp post)
  (ij:∀ fn,P.funcs[f]?=some fn→fn.body.isNone=false→fn.name ≠ "runtime.NumGoroutine" → (execOp a.eval o).run P w = .ok (.enter f (pu++(as.map a.eval++qu)).toArray) w):Goal P X w0 nt k r Q o a w:=by
 unfold yw at h;split at h
 case h_2=>cases h
 rename_i I hI;split at h
 case h_2=>cases h
 rename_i vs hvs;rw [jj] at h;obtain ⟨hok,h⟩:=az h;simp only [yb,lu] at h;have hall:=hpre.append ((pC hs hvs).append sC);have Z7:lp (pre++(vs++post)):=apre.append (lp.append (m5 hvs) Rh);obtain ⟨⟨fn,s7,sD,vu⟩,mG,_⟩:=hinl f I hI;generalize hb:Jk S.base o.dst=b at h hok;have Z0:=hs.tidy X.hold
 let hd':Nat→Value:=fun j=>if b+1000≤j then a.tmps.getD (j-(b+1000)) undef else X.K.hd j
 have hnew:∀ t,hd' (b+1000+t)=a.tmps.getD t undef:=fun t=>by simp [hd']
 have hold:∀ j,j<b+1000→hd' j=X.K.hd j:=fun j hj=>by simp [hd',show ¬ b+1000≤j by omega]
 have hmem:∀ t v,lk (S.tidy X.hold).env t=some v→(∀ id j,v = .jo id j→j<b+1000)∧∀ x j,v = .bz x j→j<b+1000:=fun t v ht=>wM hok t v (qV (E3 S.env X.hold t v ht))
 have ga:cK (X.K.gh X.K.kp X.K.kh hd') w0 0 (zt b (S.tidy X.hold)) β fp nX w:=by
  refine ⟨hs.below,⟨rfl,hs.defers.2⟩,rfl,hs.fresh,hs.eH,fun id ob hi=>WB rfl rfl (hs.aj id ob hi),fun t v ht=>?_⟩;obtain ⟨t0,_,⟨l,q1,q2⟩ | ⟨ls,q1,q2⟩ | ⟨id,j,q1,q2⟩ | ⟨q1,q2⟩ | ⟨x,j,q1,q2⟩⟩:=mM ht
  ·subst q2
   show gL _ w S.aj β fp _ (false,[l]) (hd' (b+1000+t0));rw [hnew];exact ⟨l,rfl,xP (Z0.env t0 _ q1)⟩
  ·subst q2
   show gL _ w S.aj β fp _ (true,ls) (hd' (b+1000+t0));rw [hnew];obtain ⟨us,e1,e2⟩:=Z0.env t0 _ q1;exact ⟨us,e1,kM e2⟩
  ·subst q2
   show β id=hd' j;rw [hold j ((hmem t0 _ q1).1 id j rfl)];exact Z0.env t0 _ q1
  ·subst q2
   exact Z0.env t0 _ q1
  ·subst q2
   show gL _ w S.aj β fp _ x (hd' j);rw [hold j ((hmem t0 _ q1).2 x j rfl)];exact N6 (Z0.env t0 _ q1)
 have hcall:=mG X.K.kp X.K.kh hd' w0 w (zt b (S.tidy X.hold)) β fp _ _ R _ r ga (fun t v ht=>by
   obtain ⟨t0,e,_⟩:=mM ht
   omega) hall.1 (fun i v hi=>by
   have:=hall.2 i v hi;have Qa:=Z7 i v hi
   cases v with
   | one l=>exact xP this
   | agg ls=>obtain ⟨us,e1,e2⟩:=this;exact ⟨us,e1,kM e2⟩
   | _=>cases Qa) h
 show o.wp P a w (Next X.K w0 nt k r) Q;unfold Oper.wp;rw [ij fn s7 sD vu];show Calls P f _ w _
 refine hcall.mono fun en w' ⟨v0,rs,nA,S',eG,eD,he,hp,Ii,hk,hs',hlf⟩=>?_
 subst he;split at hk
 case h_2=>cases hk
 rename_i v hvv
 have Ff:cK X.K w0 nt (YU b S.base S') eG eD a w':=by
  refine ⟨hs'.below,hs.defers,hs.size,hs'.fresh,hs'.eH,fun id ob hi=>WA rfl rfl (hs'.aj id ob hi),fun t v ht=>?_⟩
  rcases rO ht with ⟨x,j,q1,⟨q2,q3⟩ | ⟨q2,q3⟩⟩ | ⟨id,j,q1,q2,q3⟩ | ⟨q1,q2⟩
  ·subst q3
   have h1:gL _ w' S'.aj eG eD _ x (hd' j):=hs'.env _ _ q1;rw [show j=b+1000+t by omega,hnew] at h1;exact wG (wH h1)
  ·subst q3
   have h1:gL _ w' S'.aj eG eD _ x (hd' j):=hs'.env _ _ q1;rw [hold j q2] at h1;exact wH h1
  ·subst q3
   have h1:eG id=hd' j:=hs'.env _ _ q1;rw [hold j q2] at h1;exact h1
  ·subst q2
   exact hs'.env _ _ q1
 have hsv:=wW Ii hvv (tV hlf);rw [←hp] at hsv;exact bw Ff hd hsv hk
def yz:List (Nat×SV C)→Nat
 | []=>0
 | (_,.jo _ j)::r=>j+yz r+1
 | (_,.bz _ j)::r=>j+yz r+1
 | _::r=>yz r
theorem yy:∀ {E:List (Nat×SV C)} {t:Nat} {v:SV C},(t,v)∈E→(∀ id j,v = .jo id j→j<yz E)∧∀ x j,v = .bz x j→j<yz E
 | [],t,v,h=>by cases h
 | (t0,v0)::E,t,v,h=>by
  have up:∀ n,n<yz E→n<yz ((t0,v0)::E):=fun n hn=>by cases v0<;>simp only [yz]<;>omega
  rcases List.mem_cons.1 h with e | h
  ·cases e
   refine ⟨fun id j e=>?_,fun x j e=>?_⟩
   ·subst e;simp only [yz];omega
   ·subst e;simp only [yz];omega
  ·exact ⟨fun id j e=>up j ((yy h).1 id j e),fun x j e=>up j ((yy h).2 x j e)⟩
def V7 (b t:Nat):SV C→SV C
 | .one l=>.bz (false,[l]) (b+1000+t)
 | .agg ls=>.bz (true,ls) (b+1000+t)
 | v=>v
theorem zS {b:Nat}:∀ {E:List (Nat×SV C)} {t:Nat} {v:SV C},sH E=true→lk E t=some v→lk (mg b E) (t+1000)=some (V7 b t v)
 | [],t,v,_,h=>by cases h
 | (t0,v0)::E,t,v,ho,h=>by
  simp only [sH,Bool.and_eq_true] at ho;rw [aQ] at h
  by_cases e:t=t0
  ·rw [if_pos e] at h
   cases h;subst e
   cases v0 with
   | rC xs=>cases ho.1
   | lX=>cases ho.1
   | _=>simp only [mg,aQ,if_true,V7]
  ·rw [if_neg e] at h
   have ih:=zS (b:=b) ho.2 h
   have ne:t+1000≠t0+1000:=by omega
   cases v0 with
   | rC xs=>cases ho.1
   | lX=>cases ho.1
   | _=>simp only [mg,aQ,if_neg ne];exact ih
theorem ug:∀ {E:List (Nat×SV C)} {t:Nat} {v:SV C},sH E=true→(t,v)∈E→AM v=true
 | [],t,v,_,h=>by cases h
 | (t0,v0)::E,t,v,ho,h=>by
  simp only [sH,Bool.and_eq_true] at ho
  rcases List.mem_cons.1 h with e | h
  ·cases e;exact ho.1
  ·exact ug ho.2 h
theorem YI {Q:Exit→Act→World→Prop} (hinl:∀ f I,X.inl f=some I→cG P X.K f I) (hs:cK X.K w0 nt S β fp a w) {o:Oper} (hd:slot o.dst nt) {su:iR C} (hm:oU X o=some su) {T:St C} (h:mE X su o S S some=some T) :
  o.wp P a w (fun a' w'=>nR X.K w0 nt T a' w') Q:=by
 unfold oU at hm;split at hm
 case h_2=>cases hm
 rename_i c hop hgd;split at hm
 case h_2=>cases hm
 rename_i f hcal;split at hm
 case h_2=>cases hm
 rename_i I hI;unfold mE Az at h;rw [hop] at h;simp only at h;split at h
 case h_2=>cases h
 rename_i vs O hvs hO;obtain ⟨hb,h⟩:=az h;simp only [Bool.and_eq_true] at hb;obtain ⟨hE,hok⟩:=hb;obtain ⟨⟨fn,s7,sD,vu⟩,mG,hsum⟩:=hinl f I hI;obtain ⟨hgo,hrow,_⟩:=hsum su hm
 cases hg:su.g (vs.map uQ) O with
 | none=>rw [hg] at h;cases h
 | some r0=>
 rw [hg] at h;simp only [Option.bind_some,lu] at h
 cases hv:tf (su.ret r0) with
 | none=>rw [hv] at h;cases h
 | some v=>
 rw [hv] at h;simp only [Option.some.injEq] at h
 let b:=yz S.env
 let hd':Nat→Value:=fun j=>if b+1000≤j then a.tmps.getD (j-(b+1000)) undef else X.K.hd j
 have hnew:∀ t,hd' (b+1000+t)=a.tmps.getD t undef:=fun t=>by simp [hd']
 have hold:∀ j,j<b+1000→hd' j=X.K.hd j:=fun j hj=>by simp [hd',show ¬ b+1000≤j by omega]
 have hmem:∀ t v,lk S.env t=some v→(∀ id j,v = .jo id j→j<b+1000)∧∀ x j,v = .bz x j→j<b+1000:=fun t v ht=>by
  have:=yy (qV ht);exact ⟨fun id j e=>by have:=this.1 id j e;omega,fun x j e=>by have:=this.2 x j e;omega⟩
 have ga:cK (X.K.gh X.K.kp X.K.kh hd') w0 0 (zt b S) β fp nX w:=by
  refine ⟨hs.below,⟨rfl,hs.defers.2⟩,rfl,hs.fresh,hs.eH,fun id ob hi=>WB rfl rfl (hs.aj id ob hi),fun t v ht=>?_⟩;obtain ⟨t0,_,⟨l,q1,q2⟩ | ⟨ls,q1,q2⟩ | ⟨id,j,q1,q2⟩ | ⟨q1,q2⟩ | ⟨x,j,q1,q2⟩⟩:=mM ht
  ·subst q2
   show gL _ w S.aj β fp _ (false,[l]) (hd' (b+1000+t0));rw [hnew];exact ⟨l,rfl,xP (hs.env t0 _ q1)⟩
  ·subst q2
   show gL _ w S.aj β fp _ (true,ls) (hd' (b+1000+t0));rw [hnew];obtain ⟨us,e1,e2⟩:=hs.env t0 _ q1;exact ⟨us,e1,kM e2⟩
  ·subst q2
   show β id=hd' j;rw [hold j ((hmem t0 _ q1).1 id j rfl)];exact hs.env t0 _ q1
  ·subst q2
   exact hs.env t0 _ q1
  ·subst q2
   show gL _ w S.aj β fp _ x (hd' j);rw [hold j ((hmem t0 _ q1).2 x j rfl)];exact N6 (hs.env t0 _ q1)
 have hall:=pC hs hvs
 have hap:jF su.eU (gv (zt b S).env++dX (dA su.ids (zt b S).aj))=true:=by rw [hrow];rfl
 have hgo2:I.go (St C×SV C) vs (zt b S) (fun rs S'=>match tf rs with
  | some v=>some (S',v)
  | none=>none)=some ({ zt b S with aj:=su.out r0++dA su.ids S.aj },v):=by
  rw [hgo];unfold DN;have hO':mQ (zt b S).aj su.ids=some O:=hO;rw [hO'];simp only [hap,hok,Bool.and_self,cond_true,hg,Option.bind_some,hv];rfl
 have hcall:=mG X.K.kp X.K.kh hd' w0 w (zt b S) β fp _ _ _ _ _ ga (fun t v ht=>by
   obtain ⟨t0,e,_⟩:=mM ht
   omega) hall.1 (fun i v hi=>by
   have:=hall.2 i v hi;have Qa:=List.all_eq_true.1 hok v (List.mem_of_getElem? hi)
   cases v with
   | one l=>exact xP this
   | agg ls=>obtain ⟨us,e1,e2⟩:=this;exact ⟨us,e1,kM e2⟩
   | _=>cases Qa) hgo2
 have ij:(execOp a.eval o).run P w = .ok (.enter f (c.args.toList.map a.eval).toArray) w:=by
  have Qe:(fn.name == "runtime.NumGoroutine")=false:=by simpa using vu
  obtain ⟨dst,op,ty,pos,dG,gd⟩:=o;simp only at hop;subst hop;obtain ⟨XT,as,ts⟩:=c;simp only at hcal;subst hcal
  have e:as.map a.eval=(as.toList.map a.eval).toArray:=by rw [←Array.toList_map,Array.toArray_toList]
  simp [execOp,resolve,Deferred.ofValue,invoke,callFunc,s7,sD,Qe,Act.eval];rw [if_neg vu,if_neg (by intro hb;simp [hb] at sD)];simp only [Result.ok.injEq,Next.enter.injEq,true_and,and_true];exact e
 unfold Oper.wp;rw [ij];show Calls P f _ w _
 refine hcall.mono fun en w' ⟨v0,rs,nA,S',eG,eD,he,hp,Ii,hk,hs',hlf⟩=>?_
 subst he;split at hk
 case h_2=>cases hk
 rename_i v' hvv;simp only [Option.some.injEq,Prod.mk.injEq] at hk;obtain ⟨hk1,Nq⟩:=hk;subst Nq
 have Ff:cK X.K w0 nt { S with aj:=su.out r0++dA su.ids S.aj } eG eD a w':=by
  subst hk1;refine ⟨hs'.below,hs.defers,hs.size,hs'.fresh,hs'.eH,fun id ob hi=>WA rfl rfl (hs'.aj id ob hi),fun t v ht=>?_⟩;have ht:lk S.env t=some v:=ht;have hf:=zS (b:=b) hE ht;have h1:=hs'.env (t+1000) _ hf
  cases v with
  | one l=>
   have h1:gL _ w' _ eG eD _ (false,[l]) (hd' (b+1000+t)):=h1;rw [hnew] at h1;exact wG (wH h1)
  | agg ls=>
   have h1:gL _ w' _ eG eD _ (true,ls) (hd' (b+1000+t)):=h1;rw [hnew] at h1;exact wG (wH h1)
  | jo id j=>
   have h1:eG id=hd' j:=h1;rw [hold j ((hmem t _ ht).1 id j rfl)] at h1;exact h1
  | frame=>exact h1
  | bz x j=>
   have h1:gL _ w' _ eG eD _ x (hd' j):=h1;rw [hold j ((hmem t _ ht).2 x j rfl)] at h1;exact wH h1
  | rC xs=>exact absurd (ug hE (qV ht)) (by simp [AM])
  | lX=>exact absurd (ug hE (qV ht)) (by simp [AM])
 have hlf2:cg X.K w' (su.out r0++dA su.ids S.aj) eG eD (aH (su.out r0++dA su.ids S.aj) eD w') (flatten rs) nA:=by
  subst hk1;exact tV hlf
 have hsv:=wW Ii hvv hlf2;rw [←hp] at hsv;show nR X.K w0 nt T (a.put o.dst v0) w';rw [←h];exact ⟨eG,eD,Ff.put o.dst hd hsv⟩
end
section
variable {Ty:Type} [DecidableEq Ty] {C:Ty→Type}
variable {P:Program} {X:Cx C} {K:Cd C} {w0 w:World} {nt:Nat} {S:St C} {β:Nat→Value} {fp:Nat→Nat→Prop} {a:Act} {R:Type} {k:St C→Option R} {r:R}
variable {dst:Option Tmp} {ty:TypeId} {pos:String} {dG:Array Edge} {gd:Option (Nat×Bool)} {Q:Exit→Act→World→Prop} {aj:cm C} {b8:Nat→Prop}
theorem take_left {α:Type} {l l':List α} {n:Nat} (h:l.length=n):(l++l').take n=l:=by subst h;simp
theorem drop_left {α:Type} {l l':List α} {n:Nat} (h:l.length=n):(l++l').drop n=l':=by subst h;simp
theorem o5:∀ {vs:List (SV C)} {us:List Value},lp vs→gx K w aj β fp b8 vs us→∃ fs,cg K w aj β fp b8 (dW vs) fs∧jQ (vl vs) fs=us
 | [],us,_,h=>by
  obtain rfl:us=[]:=by have:=h.1;simpa using this
  exact ⟨[],⟨rfl,fun i l h=>by simp [dW] at h⟩,rfl⟩
 | v::vs,us,ha,h=>by
  obtain ⟨u,us,rfl⟩:∃ u np,us=u::np:=by
   cases us with
   | nil=>have:=h.1;simp at this
   | cons u us=>exact ⟨u,us,rfl⟩
  have h':gx K w aj β fp b8 vs us:=⟨by have:=h.1;simpa using this,fun i v hi=>h.2 (i+1) v (by simpa using hi)⟩;obtain ⟨fs,q1,q2⟩:=o5 (fun i v hi=>ha (i+1) v (by simpa using hi)) h';have h0:dq K w aj β fp b8 v u:=h.2 0 v rfl;have hok:=ha 0 v rfl
  cases v with
  | one l=>
   refine ⟨u::fs,⟨by simp [dW,SV.leaves,q1.1],fun i l' hi=>?_⟩,by simp [vl,jQ,q2]⟩
   cases i with
   | zero=>simp [dW,SV.leaves] at hi;subst hi;exact h0
   | succ i=>exact q1.2 i l' (by simpa [dW,SV.leaves] using hi)
  | agg ls=>
   obtain ⟨vs0,rfl,hv⟩:=h0;refine ⟨vs0++fs,⟨by simp [dW,SV.leaves,q1.1,hv.1],fun i l' hi=>?_⟩,?_⟩
   ·simp only [dW,SV.leaves,List.getElem?_append] at hi
    have e:(vs0++fs).getD i undef=if i<vs0.length then vs0.getD i undef else fs.getD (i-vs0.length) undef:=by
     simp only [List.getD_eq_getElem?_getD,List.getElem?_append];split<;>rfl
    rw [e,hv.1];split at hi
    ·rename_i hlt;rw [if_pos hlt];exact hv.2 i l' hi
    ·rename_i hlt;rw [if_neg hlt];exact q1.2 _ l' hi
   ·simp only [vl,jQ,cond_true,take_left hv.1,drop_left hv.1,q2]
  | _=>cases hok
theorem kZ:∀ (l l':List (Lf C)),dY (l++l')=dY l++dY l'
 | [],_=>rfl
 | x::l,l'=>by simp [dY,kZ l l']
theorem nY:∀ (l l':List (SV C)),dW (l++l')=dW l++dW l'
 | [],_=>rfl
 | x::l,l'=>by simp [dW,nY l l']
theorem qg:∀ {xs:List Operand} {ts:List TypeId} {vs:List (SV C)},fE X S xs ts=some vs→∀ id,id∈dY (dW vs)→id∈gv S.env
 | [],ts,vs,h,id,hi=>by simp only [fE,Option.some.injEq] at h;subst h;simp [dW,dY] at hi
 | x::xs,ts,vs,h,id,hi=>by
  simp only [fE] at h;split at h
  ·rename_i l hv
   split at h
   ·rename_i vs' hr
    cases h;simp only [dW,kZ,List.mem_append] at hi
    rcases hi with hi | hi
    ·exact xF hv (nH hi)
    ·exact qg hr id hi
   ·cases h
  ·rename_i l hv
   split at h
   ·rename_i vs' hr
    cases h;simp only [dW,kZ,List.mem_append] at hi
    rcases hi with hi | hi
    ·exact xF hv (nH hi)
    ·exact qg hr id hi
   ·cases h
  ·cases h
theorem Po (hs:cK X.K w0 nt S β fp a w) (hd:slot dst nt) {id:Nat} {kd:VT} {ls:List (Lf C)} {fs:List Value} {hv:Value} {S':St C} (gB:S.add id (.box kd ls)=some S')
  (hkd:(∃ f n sh,kd = .gV f n sh∧hv=MX f n sh fs)∨∃ t sh,kd = .mF t sh∧hv=MC t sh fs)
  (hl:cg X.K w S.aj β fp (aH S.aj fp w) ls fs) (Fj:∀ i,i∈dY ls→i∈gv S.env) (hk:k (S'.put dst (.one (.vo id)))=some r) :
  Next X.K w0 nt k r (a.put dst hv) w:=by
 obtain ⟨hn,rfl⟩:=jH gB;have hw:Below w.heap.size w w:=Below.refl _ _;have hl':=JY hs hw (id:=id) (ob:=.box kd ls) (hv:=hv) (F:=fun _=>False) (fun k hk=>hk.elim) hl (fun hm=>hn.1 (Fj _ hm))
 have h2:=hs.yF hw hn (ob:=.box kd ls) (hv:=hv) (F:=fun _=>False) (fun k hk=>hk.elim) (by
  rcases hkd with ⟨f,n,sh,rfl,rfl⟩ | ⟨t,sh,rfl,rfl⟩
  ·exact ⟨fs,rfl,fun k hk=>hk,hl'⟩
  ·exact ⟨fs,rfl,fun k hk=>hk,hl'⟩)
 refine bw h2 hd (v:=.one (.vo id)) ⟨?_,(cz _ _ _).symm⟩ hk
 rcases hkd with ⟨f,n,sh,rfl,rfl⟩ | ⟨t,sh,rfl,rfl⟩<;>rfl
theorem HK (hs:cK X.K w0 nt S β fp a w) (hd:slot dst nt) {fn:Fn} {first captured:Array Operand} (h:ev X ⟨dst,.makeFunc fn first captured,ty,pos,dG,gd⟩ S k=some r):Goal P X w0 nt k r Q ⟨dst,.makeFunc fn first captured,ty,pos,dG,gd⟩ a w:=by
 simp only [ev] at h;split at h
 case h_2=>cases h
 rename_i f;split at h
 case h_2=>cases h
 rename_i vs us hvs DA;have h1:=pC hs hvs;have h2:=pC hs DA
 have ij:∀ v,v=Value.func (.func f) (first.map a.eval) (captured.map a.eval)→(execOp a.eval ⟨dst,.makeFunc (.func f) first captured,ty,pos,dG,gd⟩).run P w = .ok (.value v) w:=fun v e=>by
  subst e;simp [execOp,Instr.makeFunc]
 have e1:first.map a.eval=(first.toList.map a.eval).toArray:=by rw [←Array.toList_map,Array.toArray_toList]
 have e2:captured.map a.eval=(captured.toList.map a.eval).toArray:=by rw [←Array.toList_map,Array.toArray_toList]
 cases he:(vs++us).isEmpty with
 | true=>
  rw [he] at h;simp only [cond_true] at h
  have hnil:vs=[]∧us=[]:=by simpa using he
  obtain ⟨rfl,rfl⟩:=hnil
  have z1:first.toList.map a.eval=[]:=List.length_eq_zero_iff.1 h1.1
  have z2:captured.toList.map a.eval=[]:=List.length_eq_zero_iff.1 h2.1;rw [z1] at e1;rw [z2] at e2
  cases hf:Nat.ble og f with
  | true=>rw [hf] at h;cases h
  | false=>
   rw [hf] at h;exact bu (ij (yc (some f)) (by rw [e1,e2,o9 hf])) (bw hs hd (v:=.one (.dP (some f))) rfl h)
 | false=>
  rw [he] at h;simp only [cond_false] at h;split at h
  case h_2=>cases h
  rename_i S' gB;obtain ⟨fs,q1,q2⟩:=o5 (lp.append (m5 hvs) (m5 DA)) (h1.append h2);refine bu (ij (MX f vs.length (vl (vs++us)) fs) ?_) (Po hs hd gB (.inl ⟨f,_,_,rfl,rfl⟩) q1 (fun i hi=>?_) h)
  ·unfold MX
   rw [q2,take_left h1.1,drop_left h1.1,e1,e2]
  ·rw [nY,kZ] at hi
   rcases List.mem_append.1 hi with hi | hi
   ·exact qg hvs i hi
   ·exact qg DA i hi
theorem vm (hX:jk P X) (hs:cK X.K w0 nt S β fp a w) (hd:slot dst nt) {t:TypeId} {x:Operand} (h:ev X ⟨dst,.makeInterface t x,ty,pos,dG,gd⟩ S k=some r):Goal P X w0 nt k r Q ⟨dst,.makeInterface t x,ty,pos,dG,gd⟩ a w:=by
 simp only [ev] at h;split at h
 case h_3=>cases h
 case h_1=>
  rename_i ht hv;obtain ⟨vs,hvs,hlen,_⟩:=dH hs hv;obtain ⟨_,fields,hu,_⟩:=hX.tk _ _ ht;have hnil:vs=[]:=List.length_eq_zero_iff.1 hlen;subst hnil
  have hval:yc (some (og+1+t)) = .iface t (.agg #[]):=by
   rw [CV (Nat.ble_eq_true_of_le (Nat.le_add_right _ _)),Nat.add_sub_cancel_left]
  refine bu (v:=yc (some (og+1+t))) ?_ (bw hs hd (v:=.one (.dP (some (og+1+t)))) rfl h)
  have:(Instr.makeInterface t (a.eval x)).run P w = .ok (.iface t (a.eval x)) w:=by
   unfold Instr.makeInterface;rw [Sem.run_bind,bn hu];rfl
  rw [hvs] at this;simp [execOp,hval,hvs,this]
 rename_i tk v _ ht hv;obtain ⟨hb,h⟩:=az h;simp only [Bool.and_eq_true] at hb;split at h
 case h_2=>cases h
 rename_i S' gB
 have hsv:gx X.K w S.aj β fp (aH S.aj fp w) [v] [a.eval x]:=⟨rfl,fun i v' hi=>by
  cases i with
  | zero=>simp at hi;subst hi;exact dH hs hv
  | succ i=>simp at hi⟩
 obtain ⟨fs,q1,q2⟩:=o5 (vs:=[v]) (fun i v' hi=>by
  cases i with
  | zero=>simp at hi;subst hi;exact hb.2
  | succ i=>simp at hi) hsv
 have Np:cg X.K w S.aj β fp (aH S.aj fp w) v.leaves fs:=by simpa [dW] using q1
 have hund:∃ d,P.underlying t=some d∧∀ ms,d ≠ .interface ms:=by
  have hT:=hX.tk _ _ ht
  cases tk with
  | one z=>
   obtain ⟨_,d,h1,h2⟩:=hT;refine ⟨d,h1,fun ms e=>?_⟩;subst e
   cases z with
   | nk n=>cases n with
    | mF=>exact absurd hb.1 (by simp [HV])
    | map=>obtain ⟨_,_,h2⟩:=h2;cases h2
   | ptr=>obtain ⟨_,h2⟩:=h2;cases h2
   | dP=>obtain ⟨_,_,_,h2⟩:=h2;cases h2
   | _=>cases h2
  | agg fs zs=>
   obtain ⟨_,f,h1,_⟩:=hT;exact ⟨_,h1,fun ms e=>by cases e⟩
  | arr n sz ag zs=>
   obtain ⟨_,_,_,e,i,h1,_⟩:=hT;exact ⟨_,h1,fun ms e=>by cases e⟩
 obtain ⟨d,hd1,hd2⟩:=hund;refine bu (v:=MC t (vl [v]) fs) ?_ (Po hs hd gB (.inr ⟨t,_,rfl,rfl⟩) Np (fun i hi=>xF hv (nH hi)) h);unfold MC;rw [q2]
 have:(Instr.makeInterface t (a.eval x)).run P w = .ok (.iface t (a.eval x)) w:=by
  unfold Instr.makeInterface;rw [Sem.run_bind,bn hd1];simp only [Result.andThen_ok]
  cases d<;>first | rfl | exact absurd rfl (hd2 _)
 simp [execOp,this]
theorem Jo (hC1:∀ f c,X.KM f=some c→cL P X.K f c) (hC2:∀ f I,X.inl f=some I→cG P X.K f I) (hs:cK X.K w0 nt S β fp a w) {o:Oper} (hd:slot o.dst nt) {f:FuncId} {pre post:List (SV C)} {pu qu:List Value} {as:List Operand} {ts:List TypeId}
  (h:sO X S f pre as ts post o k=some r) (hpre:gx X.K w S.aj β fp (aH S.aj fp w) pre pu) (sC:gx X.K w S.aj β fp (aH S.aj fp w) post qu) (apre:lp pre) (Rh:lp post)
  (ij:∀ fn,P.funcs[f]?=some fn→fn.body.isNone=false→fn.name ≠ "runtime.NumGoroutine" → (execOp a.eval o).run P w = .ok (.enter f (pu++(as.map a.eval++qu)).toArray) w):Goal P X w0 nt k r Q o a w:=by
 unfold sO at h;split at h
 ·rename_i c hc
  exact Jp hs (hC1 f c hc) h hpre sC ij hd
 ·exact Jn hC2 hs hd h hpre sC apre Rh ij
theorem lp.take {vs:List (SV C)} (h:lp vs) (n:Nat):lp (vs.take n):=fun i v hi=>h i v (by
 rw [List.getElem?_take] at hi;split at hi
 ·exact hi
 ·cases hi)
theorem lp.drop {vs:List (SV C)} (h:lp vs) (n:Nat):lp (vs.drop n):=fun i v hi=>h (n+i) v (by rwa [List.getElem?_drop] at hi)
theorem QY (hs:cK X.K w0 nt S β fp a w) {l:Lf C} {u:Value} (hl:cI X.K w S.aj β fp (aH S.aj fp w) l u) {kk:Nat→List (SV C)→List (SV C)→Option R} (h:qC S l kk=some r) :
  ∃ f pre post pu qu,kk f pre post=some r∧u = .func (.func f) pu.toArray qu.toArray∧gx X.K w S.aj β fp (aH S.aj fp w) pre pu∧gx X.K w S.aj β fp (aH S.aj fp w) post qu∧lp pre∧lp post:=by
 unfold qC at h;split at h
 ·rename_i f
  cases hf:Nat.ble og f with
  | true=>rw [hf] at h;cases h
  | false=>
   rw [hf] at h;exact ⟨_,_,_,[],[],h,(show u=_ from hl).trans (o9 hf),.nil,.nil,.nil,.nil⟩
 ·rename_i id
  split at h
  ·rename_i f n sh ls ho
   obtain ⟨hb,h⟩:=az h;obtain ⟨us,q1,q2⟩:=IP hs ho;have:=B5 hb q2;exact ⟨f,_,_,_,_,h,hl.2.trans q1,this.take n,this.drop n,lp.take (fun i v hi=>rH i v hi) n,lp.drop (fun i v hi=>rH i v hi) n⟩
  ·cases h
 ·cases h
theorem PY (hs:cK X.K w0 nt S β fp a w) {x:Operand} {kk:TypeId→SV C→Option R} (h:sB S (eu S x) kk=some r) :
  ∃ t v u,kk t v=some r∧a.eval x = .iface t u∧dq X.K w S.aj β fp (aH S.aj fp w) v u∧JM v=true:=by
 unfold sB at h;split at h
 case h_3=>cases h
 case h_2=>
  rename_i f hx;have hv:a.eval x=yc (some f):=bV hs hx;obtain ⟨hf,h⟩:=az h;exact ⟨_,_,_,h,hv.trans (CV hf),⟨[],rfl,rfl,fun i l hi=>by simp at hi⟩,rfl⟩
 rename_i id hx;have hv:=bV hs hx;split at h
 ·rename_i t sh ls ho
  obtain ⟨hb,h⟩:=az h;obtain ⟨us,q1,q2⟩:=Ic hs ho;have q3:=B5 hb q2;split at h
  ·rename_i v J3
   rw [J3] at q3;refine ⟨t,v,_,h,(show a.eval x=β id from hv.2).trans q1,?_,rH (sh:=sh) (ls:=ls) 0 v (by rw [J3];rfl)⟩;have h2:=q3.2 0 v rfl
   have e:(jQ sh us).headD undef=(jQ sh us).getD 0 undef:=by cases jQ sh us<;>rfl
   rw [e];exact h2
  ·cases h
 ·cases h
theorem TS (hC1:∀ f c,X.KM f=some c→cL P X.K f c) (hC2:∀ f I,X.inl f=some I→cG P X.K f I) (hs:cK X.K w0 nt S β fp a w) (hd:slot dst nt) {t:Tmp} {as:Array Operand} {ts:Array TypeId}
  (h:ev X ⟨dst,.call { callee:=.value (.tmp t),args:=as,argTypes:=ts },ty,pos,dG,gd⟩ S k=some r):Goal P X w0 nt k r Q ⟨dst,.call { callee:=.value (.tmp t),args:=as,argTypes:=ts },ty,pos,dG,gd⟩ a w:=by
 simp only [ev] at h;split at h
 case h_2=>cases h
 rename_i l hl;obtain ⟨f,pre,post,pu,qu,h,hu,q1,q2,q3,q4⟩:=QY hs (show cI _ _ _ _ _ _ l (a.eval (.tmp t)) from hs.env t _ hl) h
 refine Jo hC1 hC2 hs hd h q1 q2 q3 q4 fun fn s7 sD vu=>?_
 have e:(pu++(as.toList.map a.eval++qu)).toArray=pu.toArray++as.map a.eval++qu.toArray:=by
  have:as.map a.eval=(as.toList.map a.eval).toArray:=by rw [←Array.toList_map,Array.toArray_toList]
  rw [this];simp
 rw [e,← mX (us:=pu.toArray++as.map a.eval++qu.toArray) s7 sD vu];simp only [execOp,resolve,hu,Deferred.ofValue];simp [invoke]
theorem Ou (hX:jk P X) (hC1:∀ f c,X.KM f=some c→cL P X.K f c) (hC2:∀ f I,X.inl f=some I→cG P X.K f I) (hs:cK X.K w0 nt S β fp a w) (hd:slot dst nt) {x:Operand} {name:String} {as:Array Operand} {ts:Array TypeId}
  (h:ev X ⟨dst,.call { callee:=.invoke x name,args:=as,argTypes:=ts },ty,pos,dG,gd⟩ S k=some r):Goal P X w0 nt k r Q ⟨dst,.call { callee:=.invoke x name,args:=as,argTypes:=ts },ty,pos,dG,gd⟩ a w:=by
 simp only [ev] at h;obtain ⟨t,v,u,h,hu,q1,q2⟩:=PY hs h;split at h
 case h_2=>cases h
 rename_i f hm
 refine Jo hC1 hC2 hs hd (pu:=[u]) (qu:=[]) h ⟨rfl,fun i v' hi=>?_⟩ .nil (fun i v' hi=>?_) .nil fun fn s7 sD vu=>?_
 ·cases i with
  | zero=>simp at hi;subst hi;exact q1
  | succ i=>simp at hi
 ·cases i with
  | zero=>simp at hi;subst hi;exact q2
  | succ i=>simp at hi
 ·have e:([u]++(as.toList.map a.eval++[])).toArray = #[u]++as.map a.eval:=by
   have:as.map a.eval=(as.toList.map a.eval).toArray:=by rw [←Array.toList_map,Array.toArray_toList]
   rw [this];simp
  have e2:(#[Value.iface t u]++as.map a.eval).extract 1 (#[Value.iface t u]++as.map a.eval).size=as.map a.eval:=by
   apply Array.ext';simp;exact List.take_of_length_le (by simp)
  have e3:(#[Value.iface t u]++as.map a.eval)[0]?=some (Value.iface t u):=by rw [Array.getElem?_append];rfl
  rw [e,← mX (us:= #[u]++as.map a.eval) s7 sD vu];simp only [execOp,resolve,hu];simp only [Sem.run_bind,Sem.run_pure,Result.andThen_ok,invoke,e3,e2];simp only [callMethod,Sem.run_bind,run_program,Result.andThen_ok,hX.H3 _ _ _ hm]
end
open Go.ChangeMaps (setBlock)
section
variable {Ty:Type} [DecidableEq Ty] {C:Ty→Type}
variable {P:Program} {X:Cx C} {K:Cd C} {w0 w:World} {nt:Nat} {S:St C} {β:Nat→Value} {fp:Nat→Nat→Prop} {a:Act} {R:Type} {k:St C→Option R} {r:R}
variable {dst:Option Tmp} {ty:TypeId} {pos:String} {dG:Array Edge} {gd:Option (Nat×Bool)} {Q:Exit→Act→World→Prop} {aj:cm C} {b8:Nat→Prop}
theorem AJ {l:Lf C} {u:Value} (hp:l.plain=true) (hr:∀ t xs,l ≠ .row t xs):cI K w aj β fp b8 l u↔u=xq l:=by
 cases l with
 | row t xs=>exact absurd rfl (hr t xs)
 | int=>exact Iff.rfl
 | bool=>exact Iff.rfl
 | str=>exact Iff.rfl
 | dP=>exact Iff.rfl
 | _=>cases hp
theorem AZ {t:Ty} (hf:K.flat t=true) {x:C t} {l:Lf C} (hl:l∈K.enc t x):l.plain=true∧∀ t' ys,l ≠ .row t' ys:=
 ⟨K.Bb t x l hl,fun t' ys e=>K.yl t hf x t' ys (e▸hl)⟩
theorem tU {t:Ty} (hf:K.flat t=true) {x:C t} {us:List Value}:cg K w aj β fp b8 (K.enc t x) us↔us=(K.enc t x).map xq:=by
 constructor
 ·intro h
  apply List.ext_getElem (by simp [h.1]);intro i h1 h2
  have hi:i<(K.enc t x).length:=by simpa using h2
  have hm:=AZ hf (x:=x) (List.getElem_mem hi);have:=(AJ hm.1 hm.2).1 (h.2 i _ (List.getElem?_eq_getElem hi));simp only [List.getElem_map];rw [←this];simp [List.getD,h1]
 ·rintro rfl
  refine ⟨by simp,fun i l hl=>?_⟩;have hm:=AZ hf (x:=x) (List.mem_of_getElem? hl);refine (AJ hm.1 hm.2).2 ?_;simp [List.getD,hl]
theorem Hz {t:Ty} (hf:K.flat t=true) {x:C t} {v:SV C} {u:Value} {ag:Bool} (he:K.enc t x=v.leaves) (hok:JM v=true) (ha:Vq v=ag) (hv:dq K w aj β fp b8 v u):u=mkV ag ((K.enc t x).map xq):=by
 subst ha
 cases v with
 | one l=>
  have h1:cg K w aj β fp b8 (K.enc t x) [u]:=by
   rw [he];refine ⟨rfl,fun i l' hi=>?_⟩
   cases i with
   | zero=>simp [SV.leaves] at hi;subst hi;exact hv
   | succ i=>simp [SV.leaves] at hi
  rw [←(tU hf).1 h1];rfl
 | agg ls=>
  obtain ⟨us,rfl,h⟩:=hv
  have h1:cg K w aj β fp b8 (K.enc t x) us:=by rw [he];exact h
  rw [←(tU hf).1 h1];rfl
 | _=>cases hok
theorem Us {a b:MK} (h:mkEq a b=true):a=b:=by
 obtain ⟨a1,a2,a3,a4⟩:=a;obtain ⟨b1,b2,b3,b4⟩:=b;simp only [mkEq,Bool.and_eq_true,beq_iff_eq] at h;obtain ⟨⟨⟨rfl,rfl⟩,rfl⟩,rfl⟩:=h;rfl
theorem si (hs:cK X.K w0 nt S β fp a w) {m:MT Ty} {T:TypeId} (hm:Gg P X.K T m) {l:Lf C} {key:SV C} {u uk:Value} {kk:(kt vt:Ty)→C kt→List (Nat×C kt×C vt)→Nat→Option R}
  (h:lL X S m l key kk=some r) (hl:cI X.K w S.aj β fp (aH S.aj fp w) l u) (hk:dq X.K w S.aj β fp (aH S.aj fp w) key uk) :
  ∃ x xs c,kk m.kt m.vt x xs c=some r∧uk=lO X.K m.fl m.kt x∧((l = .lZ .map∧u = .map none∧xs=[]) ∨
   ∃ id b es,l = .vo id∧lk S.aj id=some (.map m.fl m.kt m.vt xs c)∧u = .map (some b)∧w.heap[b]?=some (.map es c)∧(∀ k,fp id k↔k=b)∧β id = .map (some b)∧es.toList=xs.map (pn X.K m.fl m.kt m.vt)):=by
 obtain ⟨tX,vw,hM⟩:=hm;unfold lL at h;obtain ⟨hb,h⟩:=az h;simp only [Bool.and_eq_true,beq_iff_eq] at hb;split at h
 ·split at h
  ·rename_i x hx
   exact ⟨x,[],0,h,Hz hM.fk (X.K.jD _ _ _ hx) hb.1 hb.2 hk,.inl ⟨rfl,hl,rfl⟩⟩
  ·cases h
 ·rename_i id _
  split at h
  ·rename_i mk kt vt xs c ho
   obtain ⟨hq,h5⟩:=az h;clear h;simp only [Bool.and_eq_true,decide_eq_true_eq] at hq;obtain ⟨⟨e1,e2⟩,hq⟩:=hq;have hq:=Us hq;subst e1 e2 hq;split at h5
   ·rename_i x hx
    obtain ⟨b,es,h1,h2,h3,h4⟩:=hs.aj id _ ho;exact ⟨x,xs,c,h5,Hz hM.fk (X.K.jD _ _ _ hx) hb.1 hb.2 hk,.inr ⟨id,b,es,rfl,ho,hl.2.trans h1,h2,h3,h1,h4⟩⟩
   ·cases h5
  ·cases h
 ·cases h
variable {fl:MK} {kt vt:Ty}
theorem tP (x:C kt):∀ (xs:List (Nat×C kt×C vt)) (i:Nat),(vq K kt vt x xs=none∧jx K fl kt vt x xs i=none)∨∃ e j,vq K kt vt x xs=some e∧jx K fl kt vt x xs i=some (j,qo K fl vt e.2.2)
 | [],i=>.inl ⟨rfl,rfl⟩
 | e::r,i=>by
  simp only [vq,jx]
  cases h:jC (K.enc kt e.2.1) (K.enc kt x) with
  | true=>exact .inr ⟨e,i,rfl,rfl⟩
  | false=>exact tP x r (i+1)
theorem Aw (x:C kt) (y:C vt) (c:Nat):∀ (xs:List (Nat×C kt×C vt)) (i:Nat),jx K fl kt vt x xs i=none→zx K kt vt x y c xs=xs++[(c,x,y)]
 | [],i,h=>rfl
 | e::r,i,h=>by
  simp only [jx] at h;simp only [zx]
  cases hk:jC (K.enc kt e.2.1) (K.enc kt x) with
  | true=>rw [hk] at h;cases h
  | false=>rw [hk] at h;simp only [cond_false,List.cons_append,Aw x y c r (i+1) h]
theorem Av (x:C kt) (y:C vt) (c:Nat):∀ (xs:List (Nat×C kt×C vt)) (i j:Nat) (v:Value),jx K fl kt vt x xs i=some (j,v) →
  i≤j∧(∃ e,xs[j-i]?=some e∧jC (K.enc kt e.2.1) (K.enc kt x)=true)∧(xs.map (pn K fl kt vt)).modify (j-i) (fun e=>{ e with key:=lO K fl kt x,val:=qo K fl vt y })=(zx K kt vt x y c xs).map (pn K fl kt vt)
 | [],i,j,v,h=>by cases h
 | e::r,i,j,v,h=>by
  simp only [jx] at h;simp only [zx]
  cases hk:jC (K.enc kt e.2.1) (K.enc kt x) with
  | true=>
   rw [hk] at h;cases h;refine ⟨Nat.le_refl _,⟨e,by simp,hk⟩,?_⟩;simp [pn]
  | false=>
   rw [hk] at h;obtain ⟨h1,⟨e',h2,h3⟩,h4⟩:=Av x y c r (i+1) j v h
   have e1:j-i=(j-(i+1))+1:=by omega
   refine ⟨by omega,⟨e',by rw [e1];simpa using h2,h3⟩,?_⟩;rw [e1];simp only [List.map_cons,List.modify_succ_cons,cond_false,h4]
theorem AB (x:C kt):∀ (xs:List (Nat×C kt×C vt)) (i j:Nat) (v:Value),jx K fl kt vt x xs i=some (j,v)→i≤j∧j-i<xs.length∧(xs.map (pn K fl kt vt)).eraseIdx (j-i)=(zy K kt vt x xs).map (pn K fl kt vt)
 | [],i,j,v,h=>by cases h
 | e::r,i,j,v,h=>by
  simp only [jx] at h;simp only [zy]
  cases hk:jC (K.enc kt e.2.1) (K.enc kt x) with
  | true=>
   rw [hk] at h;cases h;refine ⟨Nat.le_refl _,by simp,by simp⟩
  | false=>
   rw [hk] at h;obtain ⟨h1,h2,h4⟩:=AB x r (i+1) j v h
   have e1:j-i=(j-(i+1))+1:=by omega
   refine ⟨by omega,by rw [e1];simpa using h2,?_⟩;rw [e1];simp only [List.map_cons,List.eraseIdx_cons_succ,cond_false,h4]
theorem AD (x:C kt):∀ (xs:List (Nat×C kt×C vt)) (i:Nat),jx K fl kt vt x xs i=none→zy K kt vt x xs=xs
 | [],i,h=>rfl
 | e::r,i,h=>by
  simp only [jx] at h;simp only [zy]
  cases hk:jC (K.enc kt e.2.1) (K.enc kt x) with
  | true=>rw [hk] at h;cases h
  | false=>rw [hk] at h;simp only [cond_false,AD x r (i+1) h]
theorem H5 {yes:C vt→Option R} {no:Option R} (x:C kt):∀ {xs:List (Nat×C kt×C vt)},WG K kt vt x yes no xs=some r→(∃ e,vq K kt vt x xs=some e∧yes e.2.2=some r)∨(vq K kt vt x xs=none∧no=some r)
 | [],h=>.inr ⟨rfl,h⟩
 | e::xs,h=>by
  simp only [WG] at h;simp only [vq]
  cases hk:jC (K.enc kt e.2.1) (K.enc kt x) with
  | true=>rw [hk] at h;exact .inl ⟨e,rfl,h⟩
  | false=>rw [hk] at h;exact H5 x h
theorem E0 {T:TypeId} {m:MT Ty} {tX vw:TypeId} (hM:yM P K T m tX vw) {u:Value} {x:C m.kt} {xs:List (Nat×C m.kt×C m.vt)} {c:Nat}
  (hu:(u = .map none∧xs=[])∨∃ b es,u = .map (some b)∧w.heap[b]?=some (.map es c)∧es.toList=xs.map (pn K m.fl m.kt m.vt)) (ok:Bool) :
  (Instr.lookup T u (lO K m.fl m.kt x) ok).run P w = .ok (cond ok (.tuple #[qo K m.fl m.vt (qT K m.kt m.vt x xs),.bool (qU K m.kt m.vt x xs)]) (qo K m.fl m.vt (qT K m.kt m.vt x xs))) w:=by
 have key:∀ es:Array MapEntry,es.toList=xs.map (pn K m.fl m.kt m.vt)→((do
   Instr.checkKey es.isEmpty 10000 tX (lO K m.fl m.kt x)
   let (v,ok') ← match ← Instr.findKey tX (lO K m.fl m.kt x) es.toList with
    | some (_,v)=>pure (v,true)
    | none=>pure (←zeroValue vw,false)
   pure (if ok then .tuple #[v,.bool ok'] else v):Sem Value)).run P w = .ok (cond ok (.tuple #[qo K m.fl m.vt (qT K m.kt m.vt x xs),.bool (qU K m.kt m.vt x xs)]) (qo K m.fl m.vt (qT K m.kt m.vt x xs))) w:=by
  intro es he;rw [he];simp only [Sem.run_bind,hM.qx,Result.andThen_ok,hM.find]
  rcases tP (K:=K) (fl:=m.fl) x xs 0 with ⟨h1,h2⟩ | ⟨e,j,h1,h2⟩
  ·rw [h2]
   simp only [Sem.run_bind,hM.zero,Result.andThen_ok,Sem.run_pure,qT,qU,h1];cases ok<;>rfl
  ·rw [h2]
   simp only [Sem.run_pure,Result.andThen_ok,qT,qU,h1];cases ok<;>rfl
 unfold Instr.lookup;simp only [Sem.run_bind,bn hM.lX,Result.andThen_ok]
 rcases hu with ⟨rfl,rfl⟩ | ⟨b,es,rfl,hb,he⟩
 ·have:=key #[] rfl
  have hp:(pure #[]:Sem (Array MapEntry)).run P w = .ok #[] w:=rfl;simp only [Sem.run_bind] at this ⊢;rw [hp];exact this
 ·have hg:(getObj b).run P w = .ok (.map es c) w:=by simp [getObj,Sem.run,hb]
  have:=key es he;simp only [Sem.run_bind] at this;have hp:(pure es:Sem (Array MapEntry)).run P w = .ok es w:=rfl;simp only [Sem.run_bind,hg,Result.andThen_ok];rw [hp];exact this
theorem mU {T:TypeId} {m:MT Ty} {tX vw:TypeId} (hM:yM P X.K T m tX vw) (y:C m.vt):gL X.K w aj β fp b8 (uT X m.fl m.vt y) (qo X.K m.fl m.vt y):=by
 have h1:=hM.vone;have h2:=(tU (K:=X.K) (w:=w) (aj:=aj) (β:=β) (fp:=fp) (b8:=b8) hM.fv (x:=y)).2 rfl;have h3:=X.K.gH m.vt y;unfold uT qo mkV
 cases hu:m.fl.un with
 | true=>exact ⟨[],rfl,rfl,fun i l h=>by simp at h⟩
 | false=>
  simp only [cond_false]
  cases hv:m.fl.Yy with
  | true=>exact ⟨_,rfl,h2⟩
  | false=>
   rw [h1 hv hu] at h3;obtain ⟨l,hl⟩:=List.length_eq_one_iff.1 h3;rw [hl] at h2 ⊢;exact ⟨l,rfl,h2.2 0 l rfl⟩
theorem tc {x:Bool×List (Lf C)} {v:Value} (h:gL K w aj β fp b8 x v):dq K w aj β fp b8 (BZ x) v:=by
 obtain ⟨b,ls⟩:=x
 cases b with
 | false=>obtain ⟨l,h1,h2⟩:=h;have h1:ls=[l]:=h1;subst h1;exact h2
 | true=>exact h
theorem wI (b:Bool):gL K w aj β fp b8 (false,[.bool b]) (.bool b):=⟨.bool b,rfl,rfl⟩
theorem B6 {x y:Bool×List (Lf C)} {u v:Value} (h:gL K w aj β fp b8 x u) (h':gL K w aj β fp b8 y v):dq K w aj β fp b8 (.rC [x,y]) (.tuple #[u,v]):=by
 refine ⟨[u,v],rfl,rfl,fun i z hz=>?_⟩
 match i with
 | 0=>simp at hz;subst hz;exact h
 | 1=>simp at hz;subst hz;exact h'
 | i+2=>simp at hz
theorem Ot (hX:jk P X) (hs:cK X.K w0 nt S β fp a w) (hd:slot dst nt) {t:TypeId} {x i:Operand} {ok:Bool} (h:ev X ⟨dst,.lookup t x i ok,ty,pos,dG,gd⟩ S k=some r):Goal P X w0 nt k r Q ⟨dst,.lookup t x i ok,ty,pos,dG,gd⟩ a w:=by
 simp only [ev] at h;split at h
 case h_2=>cases h
 rename_i m l key hm hx hi;obtain ⟨tX,vw,hM⟩:=hX.mp _ _ hm
 have ij:∀ v,(Instr.lookup t (a.eval x) (a.eval i) ok).run P w = .ok v w→(execOp a.eval ⟨dst,.lookup t x i ok,ty,pos,dG,gd⟩).run P w = .ok (.value v) w:=fun v hv=>by
  simp [execOp,hv]
 have hx':=bV hs hx;have eN:=bV hs hi
 cases hbr:m.fl.br with
 | false=>
  rw [hbr] at h;simp only [cond_false,oW] at h;obtain ⟨kx,xs,c,h,hk,hu⟩:=si hs (hX.mp _ _ hm) h hx' eN;have hrun:=E0 (w:=w) hM (u:=a.eval x) (x:=kx) (xs:=xs) (c:=c) (hu.imp (fun h=>h.2) fun ⟨_,b,es,_,_,q1,q2,_,_,q3⟩=>⟨b,es,q1,q2,q3⟩) ok;rw [←hk] at hrun
  cases ok with
  | true=>exact bu (ij _ hrun) (bw hs hd (B6 (mU hM _) (wI _)) h)
  | false=>exact bu (ij _ hrun) (bw hs hd (tc (mU hM _)) h)
 | true=>
  rw [hbr] at h;simp only [cond_true,E2] at h;obtain ⟨kx,xs,c,h,hk,hu⟩:=si hs (hX.mp _ _ hm) h hx' eN;have hrun:=E0 (w:=w) hM (u:=a.eval x) (x:=kx) (xs:=xs) (c:=c) (hu.imp (fun h=>h.2) fun ⟨_,b,es,_,_,q1,q2,_,_,q3⟩=>⟨b,es,q1,q2,q3⟩) ok;rw [←hk] at hrun
  cases ok with
  | true=>
   simp only [cond_true] at h
   rcases H5 kx h with ⟨e,h1,h⟩ | ⟨h1,h⟩
   ·simp only [qT,qU,h1] at hrun
    exact bu (ij _ hrun) (bw hs hd (B6 (mU hM _) (wI _)) h)
   ·simp only [qT,qU,h1] at hrun
    exact bu (ij _ hrun) (bw hs hd (B6 (mU hM _) (wI _)) h)
  | false=>
   simp only [cond_false] at h
   rcases H5 kx h with ⟨e,h1,h⟩ | ⟨h1,h⟩
   ·simp only [qT,qU,h1] at hrun
    exact bu (ij _ hrun) (bw hs hd (tc (mU hM _)) h)
   ·simp only [qT,qU,h1] at hrun
    exact bu (ij _ hrun) (bw hs hd (tc (mU hM _)) h)
theorem LU (hs:cK X.K w0 nt S β fp a w) (hd:slot dst nt) {t:TypeId} {n:Option Operand} (h:ev X ⟨dst,.makeMap t n,ty,pos,dG,gd⟩ S k=some r):Goal P X w0 nt k r Q ⟨dst,.makeMap t n,ty,pos,dG,gd⟩ a w:=by
 simp only [ev] at h;split at h
 case h_2=>cases h
 rename_i m hm;split at h
 case h_2=>cases h
 rename_i S' gB;obtain ⟨hn,rfl⟩:=jH gB;have hw:Below w.heap.size w (w.alloc (.map #[] 0)):=(Below.refl _ _).alloc (Nat.le_refl _) _
 have h2:=hs.yF hw hn (ob:=.map m.fl m.kt m.vt [] 0) (hv:=.map (some w.heap.size)) (F:=fun k=>k=w.heap.size) (fun k hk=>⟨by omega,by rw [hk];simp⟩)
  ⟨w.heap.size,#[],rfl,heap_alloc_new w _,fun k=>Iff.rfl,rfl⟩
 refine bu (v:=.map (some w.heap.size)) (w':=w.alloc (.map #[] 0)) ?_ (bw h2 hd (v:=.one (.vo _)) ⟨rfl,(cz _ _ _).symm⟩ h);simp [execOp,Instr.makeMap,newObj];rfl
theorem hset {w:World} {r:Nat} {o o':Obj} (hb:w.heap[r]?=some o):(setBlock w r o').heap[r]?=some o'∧∀ r',r'≠r→(setBlock w r o').heap[r']?=w.heap[r']?:=by
 have hlt:r<w.heap.size:=(Array.getElem?_eq_some_iff.1 hb).1;exact ⟨by simp [setBlock,hlt],fun r' hne=>by simp [setBlock,Ne.symm hne]⟩
theorem DL (hs:cK X.K w0 nt S β fp a w) {id b:Nat} {es es':Array MapEntry} {c c':Nat} {fl:MK} {kt vt:Ty} {xs xs':List (Nat×C kt×C vt)} (ho:lk S.aj id=some (.map fl kt vt xs c))
  (hb:w.heap[b]?=some (.map es c)) (hf:∀ k,fp id k↔k=b) (Ie:β id = .map (some b)) (he:es'.toList=xs'.map (pn X.K fl kt vt)) :
  cK X.K w0 nt (S.setObj id (.map fl kt vt xs' c')) β fp a (setBlock w b (.map es' c')):=by
 have hbl:w0.heap.size≤b:=(hs.fresh id _ b ho ((hf b).2 rfl)).1
 have hother:∀ k,k≠b→(setBlock w b (.map es' c')).heap[k]?=w.heap[k]?:=fun k hk=>(hset hb).2 k hk
 refine hs.turn ho (fun _ _ _ e=>by cases e) ⟨rfl,rfl,rfl,by simp [setBlock],fun k hk=>hother k (by omega)⟩ (fun k hk=>hother k fun e=>hk ((hf k).2 e)) ?_;exact ⟨b,es',Ie,(hset hb).1,hf,he⟩
theorem vK {b:Nat} {es:Array MapEntry} {c:Nat} (hb:w.heap[b]?=some (.map es c)) (o:Obj):(setObj b o).run P w = .ok () (setBlock w b o):=by
 simp [setObj,Sem.run,hb,setBlock]
theorem Kc {b:Nat} {es:Array MapEntry} {c:Nat} (hb:w.heap[b]?=some (.map es c)):(getObj b).run P w = .ok (.map es c) w:=by
 simp [getObj,Sem.run,hb]
theorem TG {T:TypeId} {m:MT Ty} {tX vw:TypeId} (hM:yM P K T m tX vw) {b:Nat} {es:Array MapEntry} {c:Nat} {x:C m.kt} {y:C m.vt} {xs:List (Nat×C m.kt×C m.vt)} (hb:w.heap[b]?=some (.map es c)) (he:es.toList=xs.map (pn K m.fl m.kt m.vt)) :
  ∃ es',es'.toList=(zx K m.kt m.vt x y c xs).map (pn K m.fl m.kt m.vt) ∧
   (Instr.mapUpdate T (.map (some b)) (lO K m.fl m.kt x) (qo K m.fl m.vt y)).run P w = .ok () (setBlock w b (.map es' (H4 K m.kt m.vt x c xs))):=by
 unfold Instr.mapUpdate;simp only [Sem.run_bind,bn hM.lX,Result.andThen_ok,Kc hb,hM.qx];rw [he];simp only [hM.find,Result.andThen_ok]
 rcases tP (K:=K) (fl:=m.fl) x xs 0 with ⟨h1,h2⟩ | ⟨e,j,h1,h2⟩
 ·rw [h2]
  refine ⟨es.push { key:=lO K m.fl m.kt x,val:=qo K m.fl m.vt y,born:=c },?_,?_⟩
  ·rw [Aw x y c xs 0 h2]
   simp [he,pn]
  ·simp only [vK hb,H4,qU,h1]
   rfl
 ·rw [h2]
  obtain ⟨_,⟨e',h3,h4⟩,h5⟩:=Av x y c xs 0 j _ h2;simp only [Nat.sub_zero] at h3 h5;refine ⟨es.modify j fun e=>{ e with key:=lO K m.fl m.kt x,val:=qo K m.fl m.vt y },?_,?_⟩
  ·rw [←h5,← he]
   simp [Array.toList_modify]
  ·have hold:((es[j]?).map (·.key)).getD (lO K m.fl m.kt x)=lO K m.fl m.kt e'.2.1:=by
    have:es[j]?=some (pn K m.fl m.kt m.vt e'):=by
     rw [←Array.getElem?_toList,he,List.getElem?_map,h3];rfl
    rw [this];rfl
   dsimp only;rw [hold];obtain ⟨_,h7⟩:=hM.bits x e'.2.1 h4
   have hk:(Instr.keyThatStays (lO K m.fl m.kt e'.2.1) (lO K m.fl m.kt x)).run P w = .ok (lO K m.fl m.kt x) w:=by
    unfold Instr.keyThatStays;rw [if_pos h7];rfl
   simp only [Sem.run_bind,hk,Result.andThen_ok,vK hb,H4,qU,h1];rfl
theorem U9 {T k' ty':TypeId} {m:MT Ty} {tX vw:TypeId} (hM:yM P K T m tX vw) {b:Nat} {es:Array MapEntry} {c:Nat} {x:C m.kt} {xs:List (Nat×C m.kt×C m.vt)} (hb:w.heap[b]?=some (.map es c)) (he:es.toList=xs.map (pn K m.fl m.kt m.vt)) :
  ∃ es',es'.toList=(zy K m.kt m.vt x xs).map (pn K m.fl m.kt m.vt) ∧
   (Builtin.delete_ #[T,k'] ty' #[.map (some b),lO K m.fl m.kt x]).run P w = .ok (.tuple #[]) (setBlock w b (.map es' c)):=by
 have hrun:(Builtin.delete_ #[T,k'] ty' #[.map (some b),lO K m.fl m.kt x]).run P w=(match jx K m.fl m.kt m.vt x xs 0 with
   | some (i,_)=>.ok (.tuple #[]) (setBlock w b (.map (es.eraseIdxIfInBounds i) c))
   | none=>.ok (.tuple #[]) (setBlock w b (.map es c))):=by
  simp only [Builtin.delete_];simp only [List.getElem?_toArray,List.getElem?_cons_zero,List.getElem?_cons_succ,Sem.run_bind,bn hM.lX,Result.andThen_ok,Kc hb,hM.qx];rw [he];simp only [hM.find,Result.andThen_ok]
  cases jx K m.fl m.kt m.vt x xs 0 with
  | none=>simp only [Sem.run_bind,vK hb,Result.andThen_ok];rfl
  | some p=>simp only [Sem.run_bind,vK hb,Result.andThen_ok];rfl
 cases hf:jx K m.fl m.kt m.vt x xs 0 with
 | none=>
  rw [hf] at hrun;exact ⟨es,by rw [AD x xs 0 hf,he],hrun⟩
 | some p=>
  obtain ⟨j,v⟩:=p;rw [hf] at hrun;obtain ⟨_,h1,h2⟩:=AB x xs 0 j v hf;refine ⟨_,?_,hrun⟩
  have hlt:j<es.size:=by
   have:es.toList.length=xs.length:=by rw [he];simp
   simp at this;omega
  simp only [Nat.sub_zero] at h2;rw [←h2,← he];simp [Array.eraseIdxIfInBounds,hlt]
theorem wF (hX:jk P X) (hs:cK X.K w0 nt S β fp a w) {t:TypeId} {x i y:Operand} {m:MT Ty} {l:Lf C} {key v:SV C} (hm:X.mp t=some m) (hx:eu S x=some (.one l)) (hi:eu S i=some key) (hy:gu X S (X.K.tid m.vt) y=some v)
  {k':St C→Option R} (h:Hv X S m l key v k'=some r):∃ S' w',k' S'=some r∧cK X.K w0 nt S' β fp a w'∧(Instr.mapUpdate t (a.eval x) (a.eval i) (a.eval y)).run P w = .ok () w':=by
 obtain ⟨tX,vw,hM⟩:=hX.mp _ _ hm;unfold Hv at h;split at h
 case h_2=>cases h
 rename_i id;obtain ⟨kx,xs,c,h,hk,hu⟩:=si hs (hX.mp _ _ hm) h (bV hs hx) (bV hs hi);obtain ⟨hb0,h⟩:=az h;simp only [Bool.and_eq_true,beq_iff_eq] at hb0;split at h
 case h_2=>cases h
 rename_i vy hvy
 rcases hu with ⟨q1,q2⟩ | ⟨gN,b,es,e,ho,q1,q2,q3,q4,q5⟩
 ·cases q1
 ·cases e
  have hval:a.eval y=qo X.K m.fl m.vt vy:=by
   have hv:=dH hs hy;unfold qo
   cases hun:m.fl.un with
   | true=>
    rw [hun] at hb0
    cases v with
    | agg ls=>
     obtain ⟨us,e,h3⟩:=hv
     have hls:ls=[]:=by simpa [SV.leaves] using hb0.2
     subst hls
     obtain rfl:us=[]:=by have:=h3.1;simpa using this
     exact e
    | _=>simp [Vq] at hb0
   | false=>
    rw [hun] at hvy hb0;exact Hz hM.fv (X.K.jD _ _ _ hvy) hb0.1.1 (by simpa using hb0.1.2) hv
  obtain ⟨es',h5,h6⟩:=TG hM (x:=kx) (y:=vy) q2 q5;refine ⟨_,_,h,DL hs ho q2 q3 q4 h5,?_⟩;rw [q1,hk,hval];exact h6
theorem DZ (hX:jk P X) (hs:cK X.K w0 nt S β fp a w) {t:TypeId} {x i y:Operand} (h:ev X ⟨dst,.mapUpdate t x i y,ty,pos,dG,gd⟩ S k=some r):Goal P X w0 nt k r Q ⟨dst,.mapUpdate t x i y,ty,pos,dG,gd⟩ a w:=by
 simp only [ev] at h;split at h
 case h_2=>cases h
 rename_i m l key hm hx hi;split at h
 case h_2=>cases h
 rename_i v hy;obtain ⟨S',w',h1,h2,h3⟩:=wF hX hs hm hx hi hy h;exact wp_skip (by simp [execOp,h3]) ⟨_,⟨_,_,h2.drop dst undef⟩,h1⟩
theorem Ov (hX:jk P X) (hs:cK X.K w0 nt S β fp a w) {t:TypeId} {x i y:Operand} (h:ev X ⟨dst,.insert t x i y,ty,pos,dG,gd⟩ S k=some r):Goal P X w0 nt k r Q ⟨dst,.insert t x i y,ty,pos,dG,gd⟩ a w:=by
 simp only [ev] at h;split at h
 case h_2=>cases h
 rename_i m l key hm hx hi;split at h
 case h_2=>cases h
 rename_i v hy;obtain ⟨S',w',h1,h2,h3⟩:=wF hX hs hm hx hi hy h;exact wp_skip (by simp [execOp,h3]) ⟨_,⟨_,_,h2.drop dst undef⟩,h1⟩
theorem Ow (hX:jk P X) (hs:cK X.K w0 nt S β fp a w) {as:Array Operand} {ts:Array TypeId} (h:ev X ⟨dst,.call { callee:=.builtin .delete,args:=as,argTypes:=ts },ty,pos,dG,gd⟩ S k=some r):Goal P X w0 nt k r Q ⟨dst,.call { callee:=.builtin .delete,args:=as,argTypes:=ts },ty,pos,dG,gd⟩ a w:=by
 obtain ⟨al⟩:=as;obtain ⟨tl⟩:=ts;simp only [ev] at h;split at h
 case h_2=>cases h
 rename_i m x t t';split at h
 case h_2=>cases h
 rename_i mt l key hm hx hi;obtain ⟨tX,vw,hM⟩:=hX.mp _ _ hm;unfold Qy at h;split at h
 case h_2=>cases h
 rename_i id _;obtain ⟨kx,xs,c,h,hk,hu⟩:=si hs (hX.mp _ _ hm) h (bV hs hx) (dH hs hi)
 rcases hu with ⟨q1,q2⟩ | ⟨gN,b,es,e,ho,q1,q2,q3,q4,q5⟩
 ·cases q1
 ·cases e
  obtain ⟨es',h5,h6⟩:=U9 (k':=t') (ty':=ty) hM (x:=kx) q2 q5;refine bu (v:=.tuple #[]) (w':=setBlock w b (.map es' c)) ?_ ⟨_,⟨_,_,(DL hs ho q2 q3 q4 h5).drop dst _⟩,h⟩
  have e : #[m,x].map a.eval = #[Value.map (some b),lO X.K mt.fl mt.kt kx]:=by
   simp [q1,hk]
  simp only [execOp,resolve];simp only [Sem.run_bind,Sem.run_pure,Result.andThen_ok,invoke,builtin,e,h6]
end
section
variable {Ty:Type} [DecidableEq Ty] {C:Ty→Type}
variable {P:Program} {X:Cx C} {w0 w:World} {nt:Nat} {S:St C} {β:Nat→Value} {fp:Nat→Nat→Prop} {a:Act} {R:Type} {k:St C→Option R} {r:R}
variable {Q:Exit→Act→World→Prop}
abbrev Cons (P:Program) (X:Cx C):Prop:=(∀ f c,X.KM f=some c→cL P X.K f c)∧(∀ f c,X.yt f=some c→uy P X.K f c)∧∀ f I,X.inl f=some I→cG P X.K f I
theorem yj (hX:jk P X) (hC:Cons P X) (hs:cK X.K w0 nt S β fp a w) {o:Oper} (hd:slot o.dst nt) (h:ev X o S k=some r):Goal P X w0 nt k r Q o a w:=by
 obtain ⟨dst,op,ty,pos,dG,gd⟩:=o
 cases op with
 | move x=>exact YH hs hd h
 | assign x=>exact Ox hs hd h
 | pick c x y=>exact YG hs hd h
 | alloc e=>exact TV hX hs hd h
 | box e v=>exact s_box hs hd h
 | build t ps=>exact TT hX hs hd h
 | buildSlice t n ps=>exact Ce hX hs hd h
 | load t x=>exact YJ hX hs hd h
 | store t x v=>exact TL hX hs h
 | nilCheck x=>exact HJ hs hd h
 | binOp op t x y t'=>exact TU hX hs hd h
 | unOp op t x=>exact YF hs hd h
 | convert t t' x=>exact LW hX hs hd h
 | makeSlice t n c=>exact D3 hX hs hd h
 | slice t x lo hi mx=>exact TM hX hs hd h fun t1 id hm ht hx h=>Oq hX hs hd hm ht hx h
 | fieldAddr t x f=>exact D5 hX hs hd h
 | field t x f=>exact TP hX hs hd h
 | indexAddr t x i=>exact D4 hX hs hd h
 | index t x i=>exact TN hX hs hd h
 | extract x i=>exact LV hs hd h
 | call c=>
  obtain ⟨XT,as,ts⟩:=c
  cases XT with
  | builtin b=>cases b with
   | len=>exact s_len hX hs hd h
   | append=>exact Oy hX hs hd h
   | min=>exact s_min hs hd h
   | max=>exact s_max hs hd h
   | delete=>exact Ow hX hs h
   | clear=>exact TQ hX hs h
   | copy=>exact YK hX hs hd h
   | _=>exact absurd h (by simp [ev])
  | value f=>cases f with
   | func f=>exact s_call hX hC.1 hs hd h (fun o ho h=>by
    split at h
    ·exact TR hC.2.1 hs hd ho h
    ·unfold pz at h
     split at h
     ·rename_i t he
      subst ho
      refine s_ins hX hs he h hd fun fn s7 sD vu=>?_
      have e:(as.toList.map a.eval).toArray=as.map a.eval:=by rw [←Array.toList_map,Array.toArray_toList]
      rw [e,← mX (us:=as.map a.eval) s7 sD vu];simp [execOp,resolve,Deferred.ofValue,invoke,Act.eval]
     rename_i hin;split at h
     ·rename_i e he
      subst ho;exact s_ext hX hs he hin (by rw [pz,hin,he];exact h) hd rfl
     subst ho
     refine Jn hC.2.2 hs hd h .nil .nil .nil .nil fun fn s7 sD vu=>?_
     have e:([]++(as.toList.map a.eval++[]):List Value).toArray=as.map a.eval:=by rw [List.nil_append,List.append_nil,← Array.toList_map,Array.toArray_toList]
     rw [e,← mX (us:=as.map a.eval) s7 sD vu]
     simp [execOp,resolve,Deferred.ofValue,invoke,Act.eval])
   | tmp t=>exact TS hC.1 hC.2.2 hs hd h
   | _=>exact absurd h (by simp [ev])
  | invoke x name=>exact Ou hX hC.1 hC.2.2 hs hd h
 | makeFunc fn first captured=>exact HK hs hd h
 | makeInterface t x=>exact vm hX hs hd h
 | makeMap t n=>exact LU hs hd h
 | lookup t x i ok=>exact Ot hX hs hd h
 | mapUpdate t x i y=>exact DZ hX hs h
 | insert t x i y=>exact Ov hX hs h
 | _=>exact absurd h (by simp [ev])
theorem wu (hs:cK X.K w0 nt S β fp a w) {all:Array Oper} {j:Nat} {d:Tmp} {b:Bool} (hj:(all[j]?).bind (·.dst)=some d) (hd:d<nt) (hv:lk S.env d=some (.one (.bool b))) :
  yielded all a.tmps j=some b:=by
 have h:a.tmps.getD d undef = .bool b:=hs.env d _ hv
 have hsz:d<a.tmps.size:=by rw [hs.size];exact hd
 unfold yielded;rw [hj];simp only [Option.bind_some]
 have:a.tmps[d]?=some (.bool b):=by
  rw [Array.getD_eq_getD_getElem?] at h;rw [Array.getElem?_eq_getElem hsz] at h ⊢;exact congrArg some (by simpa using h)
 rw [this]
theorem zJ (hs:cK X.K w0 nt S β fp a w) {all:Array Oper} {j:Nat} {d:Tmp} (hj:(all[j]?).bind (·.dst)=some d) (hv:lk S.env d=some .lX) :
  yielded all a.tmps j=none:=by
 have h:a.tmps.getD d undef=undef:=hs.env d _ hv;unfold yielded;rw [hj];simp only [Option.bind_some];split
 ·rename_i b hb
  rw [Array.getD_eq_getD_getElem?,hb] at h;cases h
 ·rfl
theorem OY {a:Act} {d:Tmp} {v:Value} (hd:d<a.tmps.size) (h:a.tmps.getD d undef=v):a.put (some d) v=a:=by
 obtain ⟨t,df⟩:=a;simp only [Act.put]
 congr 1
 apply Array.ext_getElem?;intro i;rw [Array.getElem?_setIfInBounds]
 by_cases e:d=i
 ·subst e
  have hd':d<t.size:=hd;have h':t.getD d undef=v:=h;rw [Array.getD_eq_getD_getElem?,Array.getElem?_eq_getElem hd'] at h';rw [if_pos rfl,if_pos hd',Array.getElem?_eq_getElem hd'];exact congrArg some h'.symm
 ·rw [if_neg e]
theorem ue (hX:jk P X) (hC:Cons P X) {all:Array Oper} (hall:∀ o,o∈all.toList→slot o.dst nt) (hQ:∀ a w,Next X.K w0 nt k r a w→Q .normal a w) :
  ∀ (l:List Oper) (S:St C) (β:Nat→Value) (fp:Nat→Nat→Prop) (a:Act) (w:World),(∀ o,o∈l→slot o.dst nt)→cK X.K w0 nt S β fp a w→evs X all l S k=some r→wpList P all Q l a w
 | [],S,β,fp,a,w,_,hs,h=>hQ a w ⟨S,⟨β,fp,hs⟩,h⟩
 | o::l,S,β,fp,a,w,hl,hs,h=>by
  have WU:slot o.dst nt:=hl o (by simp)
  have hl':∀ o,o∈l→slot o.dst nt:=fun o ho=>hl o (by simp [ho])
  have step:∀ (S:St C) (β:Nat→Value) (fp:Nat→Nat→Prop),cK X.K w0 nt S β fp a w→Region.wanted o (yielded all a.tmps)=true→ev X o S (fun S'=>evs X all l S' k)=some r→wpList P all Q (o::l) a w:=by
   intro S β fp hs hw h;simp only [wpList,hw,if_true];refine .inl (Oper.wp_mono ?_ (yj (Q:=Q) hX hC hs WU h));intro a' w' ⟨S',⟨eG,eD,hs'⟩,hk⟩;exact ue hX hC hall hQ l S' eG eD a' w' hl' hs' hk
  have skip:∀ (S:St C) (β:Nat→Value) (fp:Nat→Nat→Prop),cK X.K w0 nt S β fp a w→Region.wanted o (yielded all a.tmps)=false→evs X all l (S.put o.dst .lX) k=some r→wpList P all Q (o::l) a w:=by
   intro S β fp hs hw h;simp only [wpList,hw];exact ue hX hC hall hQ l _ _ _ _ w hl' (hs.put (v:=.lX) (u:=undef) o.dst WU rfl) h
  cases hg:o.guard with
  | none=>
   simp only [evs,hg] at h;exact step S β fp hs (by simp [Region.wanted,hg]) h
  | some g=>
   obtain ⟨j,want⟩:=g;simp only [evs,hg] at h;split at h
   ·rename_i d hj
    split at h
    ·rename_i b hv
     have hjd:d<nt:=by
      cases ho:all[j]? with
      | none=>rw [ho] at hj;cases hj
      | some oj=>
       rw [ho] at hj;exact hall oj (by simpa using Array.mem_of_getElem? ho) d hj
     have hy:=wu hs hj hjd hv
     have hsame:∀ b',b'=b→cK X.K w0 nt (S.put (some d) (.one (.bool b'))) β fp a w:=by
      intro b' e;subst e;have:=hs.put (v:=.one (.bool b')) (u:=.bool b') (some d) (fun t ht=>by cases ht;exact hjd) rfl
      rwa [OY (by rw [hs.size];exact hjd) (hs.env d _ hv)] at this
     cases b with
     | true=>
      simp only [cond_true] at h
      cases want with
      | true=>exact step _ _ _ (hsame true rfl) (by simp [Region.wanted,hg,hy]) h
      | false=>exact skip _ _ _ (hsame true rfl) (by simp [Region.wanted,hg,hy]) h
     | false=>
      simp only [cond_false] at h
      cases want with
      | true=>exact skip _ _ _ (hsame false rfl) (by simp [Region.wanted,hg,hy]) h
      | false=>exact step _ _ _ (hsame false rfl) (by simp [Region.wanted,hg,hy]) h
    ·rename_i hv
     exact skip _ _ _ hs (by simp [Region.wanted,hg,zJ hs hj hv]) h
    ·cases h
   ·cases h
end
section
variable {Ty:Type} [DecidableEq Ty] {C:Ty→Type}
variable {P:Program} {K:Cd C} {w0 w:World} {nt:Nat} {S:St C} {β:Nat→Value} {fp:Nat→Nat→Prop} {a:Act}
abbrev CE (C:Ty→Type):=Nat×Option Nat×Ob C
theorem lh {n:Nat} {l:List Nat} (h:l.any (Nat.beq n)=false):n∉l:=by
 intro hm;have:=List.any_eq_false.1 h n hm;exact this (Nat.beq_refl n)
theorem uS:∀ {os:List (CE C)},gG (Cu os)=true→∀ {n s s' ob dR},(n,s,ob)∈os→(n,s',dR)∈os→s=s'∧ob=dR
 | [],_,n,s,s',ob,dR,h,_=>by cases h
 | (m,t,o)::os,hn,n,s,s',ob,dR,h,h'=>by
  simp only [Cu,gG,Bool.and_eq_true,Bool.not_eq_true'] at hn;have hm:=lh hn.1
  have mem:∀ {n s ob},(n,s,ob)∈os→n∈Cu os:=by
   clear hn hm h h'
   induction os with
   | nil=>intro n s ob h;cases h
   | cons x os ih=>
    intro n s ob h;obtain ⟨a,b,c⟩:=x;simp only [Cu,List.mem_cons] at h ⊢
    rcases h with h | h
    ·cases h;exact .inl rfl
    ·exact .inr (ih h)
  rcases List.mem_cons.1 h with e | h
  ·cases e
   rcases List.mem_cons.1 h' with e | h'
   ·cases e;exact ⟨rfl,rfl⟩
   ·exact absurd (mem h') hm
  ·rcases List.mem_cons.1 h' with e | h'
   ·cases e;exact absurd (mem h) hm
   ·exact uS hn.2 h h'
def wR:List (CE C)→Nat→Option (Option Nat)
 | [],_=>none
 | (m,s,_)::r,n=>if n=m then some s else wR r n
theorem vS:∀ {os:List (CE C)} {n:Nat} {ob:Ob C},lk (qq os) n=some ob→∃ s,(n,s,ob)∈os∧wR os n=some s
 | [],n,ob,h=>by simp [qq,lk] at h
 | (m,s,o)::os,n,ob,h=>by
  simp only [qq,aQ] at h
  by_cases e:n=m
  ·subst e
   simp at h;subst h;exact ⟨s,by simp,by simp [wR]⟩
  ·rw [if_neg e] at h
   obtain ⟨s',h1,h2⟩:=vS h;exact ⟨s',by simp [h1],by simp [wR,e,h2]⟩
theorem ny:∀ {os:List (CE C)} {n:Nat} {s:Option Nat} {ob:Ob C},(n,s,ob)∈os→gG (Cu os)=true→wR os n=some s∧lk (qq os) n=some ob:=by
 intro os n s ob h hn
 have:∃ dR,lk (qq os) n=some dR:=by
  clear hn
  induction os with
  | nil=>cases h
  | cons x os ih=>
   obtain ⟨m,t,o⟩:=x;simp only [qq,aQ]
   by_cases e:n=m
   ·exact ⟨o,by simp [e]⟩
   ·rw [if_neg e]
    rcases List.mem_cons.1 h with h | h
    ·cases h;exact absurd rfl e
    ·exact ih h
 obtain ⟨dR,ho⟩:=this;obtain ⟨s',h1,h2⟩:=vS ho;obtain ⟨rfl,rfl⟩:=uS hn h h1;exact ⟨h2,ho⟩
def nb (β:Nat→Value) (os:List (CE C)) (n:Nat):Value:=match wR os n with
 | some (some id)=>β id
 | _=>.slice none 0 0
def nf (β:Nat→Value) (fp:Nat→Nat→Prop) (os:List (CE C)) (n k:Nat):Prop:=match wR os n with
 | some (some id)=>fp id k∧((∃ t,lk (qq os) n=some (.row t [] true))→(β id).ownBlock=some k)
 | _=>False
def lone:Ob C→Bool
 | .map .. =>true
 | .ghost=>true
 | _=>false
def pH (q:Nat→Bool) (S:St C) (nm:List (Nat×Nat)) (B:List Nat) (os:List (CE C)) (x:CE C):Prop:=
 (∃ n t,x=(n,none,.row t [] (q n))) ∨
 (∃ n id t xs sh,x=(n,some id,.row t xs (Tj q n xs sh))∧lk nm id=some n∧lk S.aj id=some (.row t xs sh)) ∨
 (∃ id kd ls ls' os',x=(id,some id,.box kd ls')∧lk S.aj id=some (.box kd ls)∧mu q S nm B (1000000+100*id) ls=some (ls',os')∧∀ y,y∈os'→y∈os) ∨
 (∃ id ob,x=(id,some id,ob)∧lk S.aj id=some ob∧lone ob=true)
theorem pH.mono {nm:List (Nat×Nat)} {B:List Nat} {q:Nat→Bool} {os os':List (CE C)} {x:CE C} (h:pH q S nm B os x) (hm:∀ y,y∈os→y∈os'):pH q S nm B os' x:=by
 rcases h with h | h | ⟨id,kd,ls,ls',o,h1,h2,h3,h4⟩ | h
 ·exact .inl h
 ·exact .inr (.inl h)
 ·exact .inr (.inr (.inl ⟨id,kd,ls,ls',o,h1,h2,h3,fun y hy=>hm y (h4 y hy)⟩))
 ·exact .inr (.inr (.inr h))
section
variable {nm:List (Nat×Nat)} {B:List Nat} {q:Nat→Bool}
theorem Bn {n:Nat} {l l':Lf C} {os:List (CE C)} (h:lg q S nm B n l=some (l',os)):∀ x,x∈os→pH q S nm B os x:=by
 intro x hx
 cases l with
 | ref id p=>
  cases p with
  | cons s p=>simp [lg] at h
  | nil=>
   simp only [lg] at h;split at h
   ·rename_i m t xs sh hn ho
    cases h;rw [List.mem_singleton] at hx;exact .inr (.inl ⟨m,id,t,xs,sh,hx,hn,ho⟩)
   ·cases h
 | ptr id o=>
  simp only [lg] at h;obtain ⟨_,h⟩:=az h;cases h;cases hx
 | vo id=>
  simp only [lg] at h;obtain ⟨_,h⟩:=az h;cases h;cases hx
 | ep id p i o=>
  cases p with
  | cons s p=>simp [lg] at h
  | nil=>
   simp only [lg] at h;split at h
   ·rename_i m t xs sh hn ho
    cases h;rw [List.mem_singleton] at hx;exact .inr (.inl ⟨m,id,t,xs,sh,hx,hn,ho⟩)
   ·cases h
 | sub id lo hi=>
  simp only [lg] at h;split at h
  ·rename_i m t xs sh hn ho
   cases h;rw [List.mem_singleton] at hx;exact .inr (.inl ⟨m,id,t,xs,sh,hx,hn,ho⟩)
  ·cases h
 | nil t=>
  simp only [lg,Option.some.injEq,Prod.mk.injEq] at h;rw [←h.2,List.mem_singleton] at hx;exact .inl ⟨n,t,hx⟩
 | _=>first
  | (simp only [lg,Option.some.injEq,Prod.mk.injEq] at h;rw [←h.2] at hx;cases hx)
  | (simp [lg] at h)
theorem nO:∀ {ls:List (Lf C)} {n:Nat} {ls':List (Lf C)} {os:List (CE C)},mu q S nm B n ls=some (ls',os)→∀ x,x∈os→pH q S nm B os x
 | [],n,ls',os,h,x,hx=>by simp only [mu,Option.some.injEq,Prod.mk.injEq] at h;rw [←h.2] at hx;cases hx
 | l::ls,n,ls',os,h,x,hx=>by
  simp only [mu] at h;split at h
  ·rename_i l1 o1 h1
   split at h
   ·rename_i r' o2 h2
    cases h
    rcases List.mem_append.1 hx with hx | hx
    ·exact (Bn h1 x hx).mono fun y hy=>by simp [hy]
    ·exact (nO h2 x hx).mono fun y hy=>by simp [hy]
   ·cases h
  ·cases h
theorem qf:∀ {l:List Nat} {os:List (CE C)},FW q S nm B l=some os→(∀ x,x∈os→pH q S nm B os x)∧∀ id,id∈l→∃ dR,(id,some id,dR)∈os
 | [],os,h=>by simp only [FW,Option.some.injEq] at h;subst h;exact ⟨fun x hx=>(by cases hx),fun id hi=>(by cases hi)⟩
 | id::l,os,h=>by
  simp only [FW] at h;split at h
  ·rename_i kd ls ho
   split at h
   ·rename_i ls' o1 h1
    split at h
    ·rename_i o2 h2
     cases h;obtain ⟨g1,g2⟩:=qf h2;refine ⟨fun x hx=>?_,fun i hi=>?_⟩
     ·rcases List.mem_cons.1 hx with hx | hx
      ·exact .inr (.inr (.inl ⟨id,kd,ls,ls',o1,hx,ho,h1,fun y hy=>by simp [hy]⟩))
      ·rcases List.mem_append.1 hx with hx | hx
       ·exact (nO h1 x hx).mono fun y hy=>by simp [hy]
       ·exact (g1 x hx).mono fun y hy=>by simp [hy]
     ·rcases List.mem_cons.1 hi with e | hi
      ·subst e;exact ⟨.box kd ls',by simp⟩
      ·obtain ⟨EY,hm⟩:=g2 i hi;exact ⟨EY,by simp [hm]⟩
    ·cases h
   ·cases h
  ·rename_i mk kt vt xs c ho
   split at h
   ·rename_i o2 h2
    cases h;obtain ⟨g1,g2⟩:=qf h2;refine ⟨fun x hx=>?_,fun i hi=>?_⟩
    ·rcases List.mem_cons.1 hx with hx | hx
     ·exact .inr (.inr (.inr ⟨id,_,hx,ho,rfl⟩))
     ·exact (g1 x hx).mono fun y hy=>by simp [hy]
    ·rcases List.mem_cons.1 hi with e | hi
     ·subst e;exact ⟨.map mk kt vt xs c,by simp⟩
     ·obtain ⟨EY,hm⟩:=g2 i hi;exact ⟨EY,by simp [hm]⟩
   ·cases h
  ·rename_i ho
   split at h
   ·rename_i o2 h2
    cases h;obtain ⟨g1,g2⟩:=qf h2;refine ⟨fun x hx=>?_,fun i hi=>?_⟩
    ·rcases List.mem_cons.1 hx with hx | hx
     ·exact .inr (.inr (.inr ⟨id,_,hx,ho,rfl⟩))
     ·exact (g1 x hx).mono fun y hy=>by simp [hy]
    ·rcases List.mem_cons.1 hi with e | hi
     ·subst e;exact ⟨.ghost,by simp⟩
     ·obtain ⟨EY,hm⟩:=g2 i hi;exact ⟨EY,by simp [hm]⟩
   ·cases h
  ·cases h
theorem MZ {t:Nat} {v v':SV C} {os:List (CE C)} (h:M0 q S nm B t v=some (v',os)):∀ x,x∈os→pH q S nm B os x:=by
 intro x hx;unfold M0 at h;split at h
 ·split at h
  ·rename_i l' os' h1
   cases h;exact Bn h1 x hx
  ·cases h
 ·split at h
  ·rename_i l' os' h1
   cases h;exact nO h1 x hx
  ·cases h
 ·split at h
  ·rename_i l' os' h1
   cases h;exact nO h1 x hx
  ·cases h
 ·cases h;cases hx
 ·cases h
theorem oO:∀ {os:List (CE C)} {seen:List Nat} {y:CE C},y∈fM os seen→y∈os
 | [],seen,y,h=>by cases h
 | (n,none,ob)::r,seen,y,h=>by
  simp only [fM] at h
  rcases List.mem_cons.1 h with e | h
  ·rw [e];simp
  ·exact List.mem_cons_of_mem _ (oO h)
 | (n,some id,ob)::r,seen,y,h=>by
  simp only [fM] at h
  cases hb:seen.any (Nat.beq id) with
  | true=>rw [hb] at h;exact List.mem_cons_of_mem _ (oO h)
  | false=>
   rw [hb] at h
   rcases List.mem_cons.1 h with e | h
   ·rw [e];simp
   ·exact List.mem_cons_of_mem _ (oO h)
theorem rY:∀ {os:List (CE C)} {seen:List Nat} {y:CE C},y∈os→y∈fM os seen∨∃ id n ob,y=(n,some id,ob)∧(id∈seen∨∃ n' dR,(n',some id,dR)∈fM os seen)
 | [],seen,y,h=>by cases h
 | (n,none,ob)::r,seen,y,h=>by
  simp only [fM]
  rcases List.mem_cons.1 h with e | h
  ·rw [e];exact .inl (by simp)
  ·rcases rY (seen:=seen) h with h | ⟨id,n1,Cr,e,h | ⟨n2,ob2,h⟩⟩
   ·exact .inl (by simp [h])
   ·exact .inr ⟨id,n1,Cr,e,.inl h⟩
   ·exact .inr ⟨id,n1,Cr,e,.inr ⟨n2,ob2,by simp [h]⟩⟩
 | (n,some i,ob)::r,seen,y,h=>by
  simp only [fM]
  cases hb:seen.any (Nat.beq i) with
  | true=>
   simp only [cond_true]
   rcases List.mem_cons.1 h with e | h
   ·obtain ⟨m,hm,he⟩:=List.any_eq_true.1 hb
    have:=Nat.eq_of_beq_eq_true he;subst this;exact .inr ⟨i,n,ob,e,.inl hm⟩
   ·exact rY h
  | false=>
   simp only [cond_false]
   rcases List.mem_cons.1 h with e | h
   ·rw [e];exact .inl (by simp)
   ·rcases rY (seen:=i::seen) h with h | ⟨id,n1,Cr,e,h | ⟨n2,ob2,h⟩⟩
    ·exact .inl (by simp [h])
    ·rcases List.mem_cons.1 h with e2 | h
     ·subst e2;exact .inr ⟨id,n1,Cr,e,.inr ⟨n,ob,by simp⟩⟩
     ·exact .inr ⟨id,n1,Cr,e,.inl h⟩
    ·exact .inr ⟨id,n1,Cr,e,.inr ⟨n2,ob2,by simp [h]⟩⟩
theorem O9:∀ {os:List (CE C)} {seen:List Nat} {n n' id:Nat} {ob dR:Ob C},(n,some id,ob)∈fM os seen→(n',some id,dR)∈fM os seen→n=n'∧ob=dR
 | os,seen,n,n',id,ob,dR,h,h'=>by
  have WC:∀ {os:List (CE C)} {seen:List Nat} {n id:Nat} {ob:Ob C},(n,some id,ob)∈fM os seen→id∉seen:=by
   intro os
   induction os with
   | nil=>intro seen n id ob h;cases h
   | cons x os ih=>
    intro seen n id ob h;obtain ⟨m,s,o⟩:=x
    cases s with
    | none=>
     simp only [fM] at h
     rcases List.mem_cons.1 h with e | h
     ·cases e
     ·exact ih h
    | some i=>
     simp only [fM] at h
     cases hb:seen.any (Nat.beq i) with
     | true=>rw [hb] at h;exact ih h
     | false=>
      rw [hb] at h
      rcases List.mem_cons.1 h with e | h
      ·cases e;exact lh hb
      ·exact fun hm=>ih h (List.mem_cons_of_mem _ hm)
  induction os generalizing seen with
  | nil=>cases h
  | cons x os ih=>
   obtain ⟨m,s,o⟩:=x
   cases s with
   | none=>
    simp only [fM] at h h'
    rcases List.mem_cons.1 h with e | h1
    ·cases e
    ·rcases List.mem_cons.1 h' with e | mL
     ·cases e
     ·exact ih _ h1 mL
   | some i=>
    simp only [fM] at h h'
    cases hb:seen.any (Nat.beq i) with
    | true=>rw [hb] at h h';exact ih _ h h'
    | false=>
     rw [hb] at h h'
     rcases List.mem_cons.1 h with e | h1
     ·cases e
      rcases List.mem_cons.1 h' with e | mL
      ·cases e;exact ⟨rfl,rfl⟩
      ·exact absurd (List.mem_cons_self ..) (WC mL)
     ·rcases List.mem_cons.1 h' with e | mL
      ·cases e;exact absurd (List.mem_cons_self ..) (WC h1)
      ·exact ih _ h1 mL
theorem Pb {os:List (CE C)} (hg:∀ x,x∈os→pH q S nm B os x) {y:CE C} (hy:y∈os):y∈fM os []:=by
 rcases rY (seen:=[]) hy with h | ⟨id,n,ob,e,h | ⟨n',dR,h⟩⟩
 ·exact h
 ·cases h
 ·subst e
  have g1:=hg _ hy;have g2:=hg _ (oO h)
  have:n=n'∧ob=dR:=by
   rcases g1 with ⟨_,_,e⟩ | ⟨_,_,t,xs,sh,e,h1,h2⟩ | ⟨_,kd,ls,ls',os',e,h1,h2,_⟩ | ⟨_,Cr,e,h1,hl1⟩
   ·cases e
   ·cases e
    rcases g2 with ⟨_,_,e⟩ | ⟨_,_,t',xs',sh',e,mL,zn⟩ | ⟨_,kd,ls,ls',os',e,mL,zn,_⟩ | ⟨_,ob2,e,mL,Io⟩
    ·cases e
    ·cases e
     rw [h1] at mL;rw [h2] at zn;cases mL;cases zn;exact ⟨rfl,rfl⟩
    ·cases e;rw [h2] at mL;cases mL
    ·cases e;rw [h2] at mL;cases mL;cases Io
   ·cases e
    rcases g2 with ⟨_,_,e⟩ | ⟨_,_,t',xs',sh',e,mL,zn⟩ | ⟨_,kd2,EY,ls2',os2',e,mL,zn,_⟩ | ⟨_,ob2,e,mL,Io⟩
    ·cases e
    ·cases e;rw [h1] at zn;cases zn
    ·cases e
     rw [h1] at mL;cases mL;rw [h2] at zn;cases zn;exact ⟨rfl,rfl⟩
    ·cases e;rw [h1] at mL;cases mL;cases Io
   ·cases e
    rcases g2 with ⟨_,_,e⟩ | ⟨_,_,t',xs',sh',e,mL,zn⟩ | ⟨_,kd2,EY,ls2',os2',e,mL,zn,_⟩ | ⟨_,ob2,e,mL,Io⟩
    ·cases e
    ·cases e;rw [h1] at zn;cases zn;cases hl1
    ·cases e;rw [h1] at mL;cases mL;cases hl1
    ·cases e
     rw [h1] at mL;cases mL;exact ⟨rfl,rfl⟩
  obtain ⟨rfl,rfl⟩:=this;exact h
end
theorem tN:∀ {os:List (CE C)} {id n:Nat},uR os id=some n→∃ ob,(n,some id,ob)∈os
 | [],id,n,h=>by simp [uR] at h
 | (m,none,ob)::r,id,n,h=>by
  obtain ⟨dR,h'⟩:=tN (os:=r) h;exact ⟨dR,by simp [h']⟩
 | (m,some m',ob)::r,id,n,h=>by
  simp only [uR] at h
  cases hb:Nat.beq m' id with
  | true=>
   rw [hb] at h;cases h;have:=Nat.eq_of_beq_eq_true hb;subst this;exact ⟨ob,by simp⟩
  | false=>
   rw [hb] at h;obtain ⟨dR,h'⟩:=tN (os:=r) h;exact ⟨dR,by simp [h']⟩
theorem J8:∀ {os:List (CE C)} {E:List (Nat×SV C)} {t:Nat} {v:SV C},lk (xY os E) t=some v→∃ id j n,(t,.jo id j)∈E∧uR os id=some n∧v = .jo n j
 | os,[],t,v,h=>by simp [xY,lk] at h
 | os,(t',x)::E,t,v,h=>by
  have up:lk (xY os E) t=some v→∃ id j n,(t,.jo id j)∈(t',x)::E∧uR os id=some n∧v = .jo n j:=fun h=>by
   obtain ⟨id,j,n,h1,h2⟩:=J8 h;exact ⟨id,j,n,by simp [h1],h2⟩
  cases x with
  | jo id j=>
   simp only [xY] at h;split at h
   ·rename_i n hn
    rw [aQ] at h;split at h
    ·rename_i e
     cases h;subst e;exact ⟨id,j,n,by simp,hn,rfl⟩
    ·exact up h
   ·exact up h
  | _=>exact up h
theorem Bo {nm:List (Nat×Nat)} {B:List Nat} {q:Nat→Bool}:∀ {E e:List (Nat×SV C)} {os:List (CE C)},IQ q S nm B E=(e,os)→(∀ x,x∈os→pH q S nm B os x)∧∀ t v',lk e t=some v'→∃ v os',(t,v)∈E∧M0 q S nm B t v=some (v',os')∧∀ y,y∈os'→y∈os
 | [],e,os,h=>by
  simp only [IQ,Prod.mk.injEq] at h;obtain ⟨h1,h2⟩:=h;subst h1 h2;exact ⟨fun x hx=>(by cases hx),fun t v' h=>by simp [lk] at h⟩
 | (t,v)::E,e,os,h=>by
  simp only [IQ] at h
  cases hc:IQ q S nm B E with
  | mk e0 os0=>
   rw [hc] at h;simp only at h;obtain ⟨g1,g2⟩:=Bo hc;split at h
   ·rename_i v1 os1 hv
    cases h;refine ⟨fun x hx=>?_,fun t' v' ht=>?_⟩
    ·rcases List.mem_append.1 hx with hx | hx
     ·exact (MZ hv x hx).mono fun y hy=>by simp [hy]
     ·exact (g1 x hx).mono fun y hy=>by simp [hy]
    ·rw [aQ] at ht
     by_cases e:t'=t
     ·subst e
      simp at ht;subst ht;exact ⟨v,os1,by simp,hv,fun y hy=>by simp [hy]⟩
     ·rw [if_neg e] at ht
      obtain ⟨v2,os2,h1,h2,h3⟩:=g2 t' v' ht;exact ⟨v2,os2,by simp [h1],h2,fun y hy=>by simp [h3 y hy]⟩
   ·cases h
    refine ⟨g1,fun t' v' ht=>?_⟩;obtain ⟨v2,os2,h1,h2,h3⟩:=g2 t' v' ht;exact ⟨v2,os2,by simp [h1],h2,h3⟩
theorem tQ {E:List (Nat×SV C)}:∀ {keep:List Nat} {t:Nat} {v:SV C},(t,v)∈rI E keep→lk E t=some v
 | [],t,v,h=>by cases h
 | d::r,t,v,h=>by
  simp only [rI] at h
  cases hd:lk E d with
  | none=>rw [hd] at h;exact tQ h
  | some u=>
   rw [hd] at h
   rcases List.mem_cons.1 h with h | h
   ·cases h;exact hd
   ·exact tQ h
theorem Ch {α:Type}:∀ {l:List (Nat×α)} {d t:Nat} {v:α},(t,v)∈rm l d→(t,v)∈l∧t≠d
 | [],d,t,v,h=>by cases h
 | (m,u)::l,d,t,v,h=>by
  simp only [rm] at h
  cases hb:Nat.beq d m with
  | true=>rw [hb] at h;obtain ⟨h1,h2⟩:=Ch h;exact ⟨List.mem_cons_of_mem _ h1,h2⟩
  | false=>
   rw [hb] at h
   rcases List.mem_cons.1 h with e | h
   ·cases e
    refine ⟨by simp,fun e=>?_⟩;rw [e,Nat.beq_refl] at hb;cases hb
   ·obtain ⟨h1,h2⟩:=Ch h;exact ⟨List.mem_cons_of_mem _ h1,h2⟩
theorem oV:∀ {E:List (Nat×SV C)} {t:Nat} {v:SV C},(t,v)∈fQ E→lk E t=some v
 | [],t,v,h=>by cases h
 | (m,u)::E,t,v,h=>by
  rw [aQ]
  have hd:∀ {u:SV C},(t,v)∈(m,u)::rm (fQ E) m→(if t=m then some u else lk E t)=some v:=fun {u} h=>by
   rcases List.mem_cons.1 h with e | h
   ·cases e;simp
   ·obtain ⟨h1,h2⟩:=Ch h;rw [if_neg h2];exact oV h1
  have ht:∀ {u:SV C},(t,v)∈rm (fQ E) m→(if t=m then some u else lk E t)=some v:=fun {u} h=>by
   obtain ⟨h1,h2⟩:=Ch h;rw [if_neg h2];exact oV h1
  cases u with
  | bz x j=>exact hd h
  | jo id j=>exact hd h
  | frame=>exact hd h
  | one _=>exact ht h
  | agg _=>exact ht h
  | rC _=>exact ht h
  | lX=>exact ht h
theorem AA {E:List (Nat×SV C)} {keep:List Nat} {t:Nat} {v:SV C} (h:(t,v)∈j6 E keep):lk E t=some v:=by
 unfold j6 at h
 rcases List.mem_append.1 h with h | h
 ·exact tQ h
 ·exact oV h
section
variable {nm:List (Nat×Nat)} {B:List Nat} {q:Nat→Bool} {os:List (CE C)} {ey:Nat→Prop}
theorem KP (hn:gG (Cu os)=true) (hB:∀ id,id∈B→∃ dR,(id,some id,dR)∈os) (hst:∀ k,aH S.aj fp w k→ey k) {n:Nat} {l l':Lf C} {os':List (CE C)} {v:Value} (h:lg q S nm B n l=some (l',os')) (hm:∀ y,y∈os'→y∈os)
  (hl:cI K w S.aj β fp (aH S.aj fp w) l v):cI K w (qq os) (nb β os) (nf β fp os) ey l' v:=by
 have triv:∀ l:Lf C,fF l=[]→cI K w S.aj β fp (aH S.aj fp w) l v→cI K w (qq os) (nb β os) (nf β fp os) ey l v:=fun l hi h=>
  h.tr (fun k hk=>⟨hst k hk,rfl⟩) (fun id iQ=>by rw [hi] at iQ;cases iQ)
 cases l with
 | ref id p=>
  cases p with
  | cons s p=>simp [lg] at h
  | nil=>
   simp only [lg] at h;split at h
   ·rename_i m t xs sh hnm ho
    cases h;have:=(ny (hm _ (by simp:(m,some id,Ob.row t xs (Tj q m xs sh))∈_)) hn).1;refine ⟨hl.1,hl.2.trans ?_⟩;simp [nb,this]
   ·cases h
 | ptr id o=>
  simp only [lg] at h;obtain ⟨hb,h⟩:=az h;cases h;obtain ⟨m,hmB,he⟩:=List.any_eq_true.1 hb;have:=Nat.eq_of_beq_eq_true he;subst this;obtain ⟨ls',hx⟩:=hB _ hmB;obtain ⟨b,h1,h2⟩:=hl;exact ⟨b,by simp [nb,(ny hx hn).1,h1],h2⟩
 | vo id=>
  simp only [lg] at h;obtain ⟨hb,h⟩:=az h;cases h;obtain ⟨m,hmB,he⟩:=List.any_eq_true.1 hb;have:=Nat.eq_of_beq_eq_true he;subst this;obtain ⟨ls',hx⟩:=hB _ hmB;exact ⟨hl.1,hl.2.trans (by simp [nb,(ny hx hn).1])⟩
 | ep id p i o=>
  cases p with
  | cons s p=>simp [lg] at h
  | nil=>
   simp only [lg] at h;split at h
   ·rename_i m t xs sh hnm ho
    cases h;have:=ny (hm _ (by simp:(m,some id,Ob.row t xs (Tj q m xs sh))∈_)) hn;refine ⟨hl.1,fun t' xs' sh' gW=>?_⟩;rw [this.2] at gW;cases gW
    have e:nb β os m=β id:=by simp [nb,this.1]
    rw [e];exact hl.2 t xs sh ho
   ·cases h
 | sub id lo hi=>
  simp only [lg] at h;split at h
  ·rename_i m t xs sh hnm ho
   cases h;have:=ny (hm _ (by simp:(m,some id,Ob.row t xs (Tj q m xs sh))∈_)) hn;refine ⟨hl.1,fun t' xs' sh' gW=>?_⟩;rw [this.2] at gW;cases gW
   have e:nb β os m=β id:=by simp [nb,this.1]
   rw [e];exact hl.2 t xs sh ho
  ·cases h
 | nil t=>
  simp only [lg,Option.some.injEq,Prod.mk.injEq] at h;obtain ⟨rfl,rfl⟩:=h;have:=(ny (hm _ (by simp:(n,none,Ob.row t [] (q n))∈_)) hn).1;have e:v = .slice none 0 0:=hl;subst e;refine ⟨rfl,?_⟩;simp [nb,this]
 | _=>first
  | (simp only [lg,Option.some.injEq,Prod.mk.injEq] at h;obtain ⟨rfl,-⟩:=h;exact triv _ rfl hl)
  | (simp [lg] at h)
theorem lT (hn:gG (Cu os)=true) (hB:∀ id,id∈B→∃ dR,(id,some id,dR)∈os) (hst:∀ k,aH S.aj fp w k→ey k):∀ {ls ls':List (Lf C)} {n:Nat} {os':List (CE C)} {vs:List Value},mu q S nm B n ls=some (ls',os')→(∀ y,y∈os'→y∈os) →
  cg K w S.aj β fp (aH S.aj fp w) ls vs→cg K w (qq os) (nb β os) (nf β fp os) ey ls' vs
 | [],ls',n,os',vs,h,_,hl=>by
  simp only [mu,Option.some.injEq,Prod.mk.injEq] at h;obtain ⟨rfl,-⟩:=h;exact ⟨hl.1,fun i l h=>by simp at h⟩
 | l::ls,ls',n,os',vs,h,hm,hl=>by
  simp only [mu] at h;split at h
  ·rename_i l1 o1 h1
   split at h
   ·rename_i r' o2 h2
    cases h
    obtain ⟨u,us,rfl⟩:∃ u us,vs=u::us:=by
     cases vs with
     | nil=>have:=hl.1;simp at this
     | cons u us=>exact ⟨u,us,rfl⟩
    have hl1:cg K w S.aj β fp (aH S.aj fp w) ls us:=⟨by have:=hl.1;simpa using this,fun i l' hi=>hl.2 (i+1) l' (by simpa using hi)⟩;have ih:=lT hn hB hst h2 (fun y hy=>hm y (by simp [hy])) hl1;refine ⟨by simp [ih.1],fun i l' hi=>?_⟩
    cases i with
    | zero=>simp at hi;subst hi;exact KP hn hB hst h1 (fun y hy=>hm y (by simp [hy])) (hl.2 0 l rfl)
    | succ i=>exact ih.2 i l' (by simpa using hi)
   ·cases h
  ·cases h
theorem Bl {n:Nat}:∀ {ls ls':List (Lf C)} {n:Nat} {os':List (CE C)},mu q S nm B n ls=some (ls',os')→ls'.length=ls.length
 | [],ls',n,os',h=>by simp only [mu,Option.some.injEq,Prod.mk.injEq] at h;rw [←h.1]
 | l::ls,ls',n,os',h=>by
  simp only [mu] at h;split at h
  ·split at h
   ·rename_i r' o2 h2
    cases h;simp [Bl (n:=n) h2]
   ·cases h
  ·cases h
end
theorem py (hs:cK K w0 nt S β fp a w) {qw:List Nat} {S':St C} (h:S.canon qw=some S'):nR K w0 nt S' a w:=by
 unfold St.canon Q5 at h;generalize (fun n=>qw.any (Nat.beq (1000000000+n)))=q at h;generalize hnm:YD (j6 S.env qw)++YE S (wi S (j6 S.env qw))=nm at h;generalize hBB:wi S (j6 S.env qw)=B at h;clear hnm hBB
 cases hc:IQ q S nm B (j6 S.env qw) with
 | mk e os0=>
  rw [hc] at h
  cases hcb:FW q S nm B B with
  | none=>rw [hcb] at h;cases h
  | some O5=>
  rw [hcb] at h;obtain ⟨hn,h⟩:=az h;cases h;obtain ⟨Fv,g2⟩:=Bo hc;obtain ⟨gb1,gb2⟩:=qf hcb
  have g1:∀ x,x∈os0++O5→pH q S nm B (os0++O5) x:=fun x hx=>by
   rcases List.mem_append.1 hx with hx | hx
   ·exact (Fv x hx).mono fun y hy=>by simp [hy]
   ·exact (gb1 x hx).mono fun y hy=>by simp [hy]
  have hall:∀ y,y∈os0++O5→y∈fM (os0++O5) []:=fun y hy=>Pb g1 hy
  have ho:∀ {n n' i:Nat} {ob dR:Ob C},(n,some i,ob)∈fM (os0++O5) []→(n',some i,dR)∈fM (os0++O5) []→n=n'∧ob=dR:=fun h h'=>O9 h h'
  have g1:∀ x,x∈fM (os0++O5) []→pH q S nm B (fM (os0++O5) []) x:=fun x hx=>(g1 x (oO hx)).mono hall
  have hB:∀ id,id∈B→∃ dR,(id,some id,dR)∈fM (os0++O5) []:=fun id hi=>by
   obtain ⟨ls',hm⟩:=gb2 id hi;exact ⟨ls',hall _ (by simp [hm])⟩
  have g2:∀ t v',lk e t=some v'→∃ v os',(t,v)∈j6 S.env qw∧M0 q S nm B t v=some (v',os')∧∀ y,y∈os'→y∈fM (os0++O5) []:=fun t v' ht=>by
   obtain ⟨v,os',h1,h2,h3⟩:=g2 t v' ht;exact ⟨v,os',h1,h2,fun y hy=>hall y (by simp [h3 y hy])⟩
  generalize fM (os0++O5) []=os at *
  have fpE:∀ {n ob k},lk (qq os) n=some ob→nf β fp os n k→∃ id zw,(n,some id,ob)∈os∧lk S.aj id=some zw∧fp id k:=by
   intro n ob k hl hk;obtain ⟨s,h1,h2⟩:=vS hl;simp only [nf,h2] at hk
   cases s with
   | none=>exact hk.elim
   | some id=>
    rcases g1 _ h1 with ⟨n',t,e⟩ | ⟨n',gN,t,xs,sh,e,_,iQ⟩ | ⟨gN,kd,ls,ls',os',e,iQ,_⟩ | ⟨gN,dR,e,iQ,hlo⟩
    ·cases e
    ·cases e;exact ⟨_,_,h1,iQ,hk.1⟩
    ·cases e;exact ⟨_,_,h1,iQ,hk.1⟩
    ·cases e;exact ⟨_,_,h1,iQ,hk.1⟩
  have hst:∀ k,aH S.aj fp w k→aH (qq os) (nf β fp os) w k:=by
   intro k hk;refine ⟨hk.1,fun n ob hl hf=>?_⟩;obtain ⟨id,zw,_,h2,h3⟩:=fpE hl hf;exact hk.2 id zw h2 h3
  refine ⟨nb β os,nf β fp os,hs.below,hs.defers,hs.size,?_,?_,?_,?_⟩
  ·intro n ob k hl hk
   obtain ⟨id,zw,_,h2,h3⟩:=fpE hl hk;exact hs.fresh id zw k h2 h3
  ·intro n n' ob dR k hl hl' hk hk'
   obtain ⟨id,zw,m1,h2,h3⟩:=fpE hl hk;obtain ⟨gN,Uk,m1',zn,Tr⟩:=fpE hl' hk';have e:=hs.eH id gN zw Uk k h2 zn h3 Tr;subst e;exact (ho m1 m1').1
  ·intro n ob hl
   obtain ⟨s,h1,h2⟩:=vS hl
   rcases g1 _ h1 with ⟨n',t,e⟩ | ⟨n',id,t,xs,sh,e,_,iQ⟩ | ⟨id,kd,ls,ls',os',e,iQ,Qg,hsub⟩ | ⟨id,dR,e,iQ,hlo⟩
   ·cases e
    have eb:nb β os n = .slice none 0 0:=by simp [nb,h2]
    have ef:∀ k,¬ nf β fp os n k:=fun k hk=>by simp [nf,h2] at hk
    rw [eb]
    cases hqn:q n with
    | false=>exact .row _ t [] _ [] (fun _ _ _=>False) (World.ownsRow_nil w w0.heap.size (K.tid t) (K.sz t)) (fun g hg=>by simp [Value.ownBlock] at hg) (fun _ _ _ h=>h.elim) (fun _ _ _ _ _ h=>h.elim) (fun j hj=>absurd hj (by simp))
    | true=>exact ⟨[],World.ownsRow_nil w w0.heap.size (K.tid t) (K.sz t),fun g=>⟨fun hg=>(ef g hg).elim,fun hg=>by simp [Value.ownBlock] at hg⟩,fun j x hj=>by simp at hj⟩
   ·cases e
    have eb:nb β os n=β id:=by simp [nb,h2]
    have nK:=hs.aj id _ iQ;rw [eb]
    cases sh with
    | true=>
     obtain ⟨cells,q1,q2,q3⟩:=nK
     have ef:nf β fp os n=fp id:=by
      funext k
      simp only [nf,h2,eq_iff_iff];exact ⟨fun h=>h.1,fun h=>⟨h,fun _=>(q2 k).1 h⟩⟩
     rw [ef];exact (hs.aj id _ iQ).tr (fun k hk=>⟨hst k hk,rfl⟩) (fun _ _=>rfl) (fun _ ls e=>by cases e)
    | false=>
     have hno:Tj q n xs false=false→nf β fp os n=fp id:=fun hf=>by
      funext k
      simp only [nf,h2,eq_iff_iff];refine ⟨fun h=>h.1,fun h=>⟨h,fun ⟨t',ht⟩=>?_⟩⟩;rw [hf] at hl;rw [hl] at ht;cases ht
     cases ZW:Tj q n xs false with
     | false=>
      rw [hno ZW];exact (hs.aj id _ iQ).tr (fun k hk=>⟨hst k hk,rfl⟩) (fun _ _=>rfl) (fun _ ls e=>by cases e)
     | true=>
      have hx:xs=[]:=by
       simp only [Tj] at ZW
       cases hqn:q n with
       | false=>rw [hqn] at ZW;cases ZW
       | true=>rw [hqn] at ZW;cases xs with
        | nil=>rfl
        | cons x xs=>cases ZW
      subst hx;rw [ZW] at hl;have nK:Own K w w0.heap.size (fp id) (.row t []) (β id):=nK
      cases nK with
      | row _ _ _ _ cells G hown hF hG hd qv=>
      refine ⟨cells,hown,fun g=>?_,fun j x hj=>by simp at hj⟩;simp only [nf,h2];exact ⟨fun h=>h.2 ⟨t,hl⟩,fun h=>⟨hF g h,fun _=>h⟩⟩
   ·cases e
    have eb:nb β os n=β n:=by simp [nb,h2]
    have ef:nf β fp os n=fp n:=by
     funext k
     simp only [nf,h2,eq_iff_iff];exact ⟨fun h=>h.1,fun h=>⟨h,fun ⟨t',ht⟩=>by rw [hl] at ht;cases ht⟩⟩
    rw [eb,ef];have nK:=hs.aj n _ iQ
    cases kd with
    | mem=>
     obtain ⟨b,cs,e,q1,q2,q3,q4⟩:=nK;exact ⟨b,cs,e,q1,q2,q3,lT hn hB hst Qg hsub q4⟩
    | gV f m sh=>obtain ⟨us,q1,q2,q3⟩:=nK;exact ⟨us,q1,q2,lT hn hB hst Qg hsub q3⟩
    | mF t sh=>obtain ⟨us,q1,q2,q3⟩:=nK;exact ⟨us,q1,q2,lT hn hB hst Qg hsub q3⟩
   ·cases e
    have eb:nb β os n=β n:=by simp [nb,h2]
    have ef:nf β fp os n=fp n:=by
     funext k
     simp only [nf,h2,eq_iff_iff];exact ⟨fun h=>h.1,fun h=>⟨h,fun ⟨t',ht⟩=>by rw [hl] at ht;cases ht;cases hlo⟩⟩
    rw [eb,ef];exact (hs.aj _ _ iQ).tr (fun k hk=>⟨hst k hk,rfl⟩) (fun _ _=>rfl) (fun _ ls e=>by subst e;cases hlo)
  ·intro t v' ht
   rw [show ({ S with env:=e++xY os (j6 S.env qw),aj:=qq os }:St C).env=e++xY os (j6 S.env qw) from rfl,dc] at ht
   have nq:lk e t=some v'∨lk (xY os (j6 S.env qw)) t=some v':=by
    cases e1:lk e t with
    | some x=>rw [e1] at ht;exact .inl ht
    | none=>rw [e1] at ht;exact .inr ht
   clear ht
   rcases nq with ht | ht
   case inr=>
    obtain ⟨id,j,n,h1,h2,h3⟩:=J8 ht;subst h3;obtain ⟨ob,hm⟩:=tN h2;have hval:β id=K.hd j:=hs.env t _ (AA h1);show nb β os n=K.hd j;simp [nb,(ny hm hn).1,hval]
   obtain ⟨v,os',hE,hv,hsub⟩:=g2 t v' ht;have hval:=hs.env t v (AA hE);unfold M0 at hv;split at hv
   ·split at hv
    ·rename_i l' os1 hc1
     cases hv;exact KP hn hB hst hc1 hsub hval
    ·cases hv
   ·split at hv
    ·rename_i l' os1 hc1
     cases hv;obtain ⟨vs,e,hl⟩:=hval;exact ⟨vs,e,lT hn hB hst hc1 hsub hl⟩
    ·cases hv
   ·rename_i b ls j
    split at hv
    ·rename_i l' os1 hc1
     cases hv
     cases b with
     | false=>
      obtain ⟨l,h1,h2⟩:=hval;have h1:ls=[l]:=h1;subst h1
      have:=lT (ey:=aH (qq os) (nf β fp os) w) (vs:=[K.hd j]) hn hB hst hc1 hsub ⟨rfl,fun i l' hi=>by cases i with | zero=>simp at hi;subst hi;exact h2 | succ i=>simp at hi⟩
      have hlen:=Bl (n:=0) hc1;obtain ⟨l2,rfl⟩:=List.length_eq_one_iff.1 hlen;exact ⟨l2,rfl,this.2 0 l2 rfl⟩
     | true=>
      obtain ⟨vs,e,hl⟩:=hval;exact ⟨vs,e,lT hn hB hst hc1 hsub hl⟩
    ·cases hv
   ·cases hv
    exact fun k hk=>⟨hst k (hval k hk).1,(hval k hk).2⟩
   ·cases hv
end
section
variable {Ty:Type} [DecidableEq Ty] {C:Ty→Type}
variable {X:Cx C} {S S':St C} {R:Type} {r:R}
structure Le (S S':St C):Prop where
 base:S'.base=S.base
 env:∀ t v,lk S.env t=some v→lk S'.env t=some v
 aj:∀ id ob,lk S.aj id=some ob→lk S'.aj id=some ob
def vz (S:St C) (dst:Option Tmp) (v:SV C) (news:List (Nat×Ob C)) (dL:List Nat):St C:=St.put { S with aj:=news++dA dL S.aj } dst v
theorem b9 (h:Le S S') {x:Operand} {v:SV C} (hx:eu S x=some v):eu S' x=some v:=by
 cases x with
 | tmp t=>exact h.env t v hx
 | const c=>
  cases c with
  | pointer p=>cases p<;>(first | exact hx | simp [eu] at hx)
  | map p=>cases p<;>(first | exact hx | simp [eu] at hx)
  | _=>(first | exact hx | simp [eu] at hx)
 | global g=>simp [eu] at hx
 | func f=>exact hx
theorem dC (h:Le S S') {T:TypeId} {x:Operand} {v:SV C} (hx:gu X S T x=some v):gu X S' T x=some v:=by
 unfold gu at hx ⊢;split at hx
 ·exact hx
 ·exact b9 h hx
theorem yK {l:Lf C} {α:Type} {f:(t:Ty)→List (C t)→Option α} {q:α} (hl:oC S X l f=some q):∃ t xs,f t xs=some q∧∀ {S':St C},Le S S'→∀ {γ:Type} (g:(t:Ty)→List (C t)→Option γ),oC S' X l g=g t xs:=by
 cases l with
 | row t xs=>exact ⟨t,xs,hl,fun {S'} h {γ} g=>rfl⟩
 | nil t=>exact ⟨t,[],hl,fun {S'} h {γ} g=>rfl⟩
 | ref id p=>
  simp only [oC] at hl;split at hl
  ·rename_i t xs sh ho
   have key:∀ (p:List (Nat×Nat)) (t:Ty) (xs:List (C t)),path X.K p t xs f=some q→∃ t' zs,f t' zs=some q∧∀ {γ:Type} (g:(t:Ty)→List (C t)→Option γ),path X.K p t xs g=g t' zs:=by
    intro p
    induction p with
    | nil=>intro t xs h;exact ⟨t,xs,h,fun g=>rfl⟩
    | cons s p ih=>
     intro t xs h;obtain ⟨i,o⟩:=s;simp only [path] at h
     cases hx:xs[i]? with
     | none=>rw [hx] at h;cases h
     | some x=>
      rw [hx] at h;simp only [Option.bind_some] at h;split at h
      ·rename_i t' ys he
       obtain ⟨t2,zs,h1,h2⟩:=ih t' ys h;exact ⟨t2,zs,h1,fun g=>by simp only [path,hx,Option.bind_some,he];exact h2 g⟩
      ·cases h
   obtain ⟨t',zs,h1,h2⟩:=key p t xs hl;exact ⟨t',zs,h1,fun {S'} h {γ} g=>by simp only [oC,h.aj id _ ho];exact h2 g⟩
  ·cases hl
 | sub id lo hi=>
  simp only [oC] at hl;split at hl
  ·rename_i t xs sh ho
   exact ⟨t,_,hl,fun {S'} h {γ} g=>by simp only [oC,h.aj id _ ho]⟩
  ·cases hl
 | _=>simp [oC] at hl
theorem FV {l:Lf C} {α:Type} {f:List (Lf C)→Option α} {q:α} (hl:dZ X S l f=some q):∃ ls,f ls=some q∧∀ {S':St C},Le S S'→∀ {γ:Type} (g:List (Lf C)→Option γ),dZ X S' l g=g ls:=by
 cases l with
 | ptr id off=>
  simp only [dZ] at hl;split at hl
  ·rename_i ls ho
   exact ⟨_,hl,fun {S'} h {γ} g=>by simp only [dZ,h.aj id _ ho]⟩
  ·cases hl
 | eS t x o=>exact ⟨_,hl,fun {S'} h {γ} g=>rfl⟩
 | ep id p i o=>
  simp only [dZ] at hl;split at hl
  ·rename_i t xs sh ho
   have hs:oC S X (.ref id p) (fun t' ys=>Option.bind ys[i]? fun x=>f ((o7 id p i (cond p.isEmpty sh false) 0 (X.K.enc t' x)).drop o))=some q:=by simp only [oC,ho];exact hl
   obtain ⟨t',zs,h1,h2⟩:=yK hs
   cases hz:zs[i]? with
   | none=>rw [hz] at h1;cases h1
   | some x=>
    rw [hz] at h1;refine ⟨_,h1,fun {S'} h {γ} g=>?_⟩;have:=h2 h (fun t' ys=>Option.bind ys[i]? fun x=>g ((o7 id p i (cond p.isEmpty sh false) 0 (X.K.enc t' x)).drop o));rw [hz] at this;simp only [oC,h.aj id _ ho,Option.bind_some] at this;simp only [dZ,h.aj id _ ho];exact this
  ·cases hl
 | _=>simp [dZ] at hl
theorem Vl {ek:Option (List EK)} {tk:Option (TK Ty)} {op:BinOp} {x y:SV C} {α:Type} {f:SV C→Option α} {q:α} (hl:IU ek tk op x y f=some q):∃ v,f v=some q∧∀ {γ:Type} (g:SV C→Option γ),IU ek tk op x y g=g v:=by
 unfold IU at hl ⊢;split at hl
 ·rename_i as bs
  split at hl
  ·split at hl
   ·rename_i c hc;exact ⟨_,hl,fun g=>by simp only [hc]⟩
   ·rename_i c hc;exact ⟨_,hl,fun g=>by simp only [hc]⟩
   ·cases hl
  ·cases hl
 ·rename_i ka a kb b
  obtain ⟨e,hl⟩:=az hl;simp only [e,cond_true];split at hl
  ·rename_i c hc;exact ⟨_,hl,fun g=>by simp only [hc]⟩
  ·rename_i hc
   split at hl
   ·rename_i n hn;exact ⟨_,hl,fun g=>by simp only [hc,hn]⟩
   ·rename_i hn
    obtain ⟨e,hl⟩:=eQ hl;split at hl
    ·exact ⟨_,hl,fun g=>by simp only [hc,hn,e,cond_false]⟩
    ·exact ⟨_,hl,fun g=>by simp only [hc,hn,e,cond_false]⟩
    ·cases hl
 ·rename_i a b
  split at hl
  ·rename_i c hc;exact ⟨_,hl,fun g=>by simp only [hc]⟩
  ·rename_i hc
   split at hl
   ·obtain ⟨e,hl⟩:=az hl
    exact ⟨_,hl,fun g=>by simp only [hc,e,cond_true]⟩
   ·cases hl
 ·rename_i a b
  split at hl
  ·exact ⟨_,hl,fun g=>rfl⟩
  ·exact ⟨_,hl,fun g=>rfl⟩
  ·cases hl
 ·rename_i x
  split at hl
  ·exact ⟨_,hl,fun g=>by simp only [*]⟩
  ·exact ⟨_,hl,fun g=>by simp only [*]⟩
  ·cases hl
 ·cases hl
theorem pA (h:Le S S') {n:Nat} {x:Option Operand} {i:Int} (hx:zB S n x=some i):zB S' n x=some i:=by
 cases x with
 | none=>exact hx
 | some x=>
  simp only [zB] at hx ⊢;split at hx
  ·rename_i k m hm
   rw [b9 h hm];exact hx
  ·cases hx
theorem xx (h:Le S S') {fs:List (Nat×Nat×Bool)}:∀ {ps:List (Nat×Operand)} {ls ls':List (Lf C)},partsOf X fs S ps ls=some ls'→partsOf X fs S' ps ls=some ls'
 | [],ls,ls',h=>h
 | (i,x)::r,ls,ls',hp=>by
  simp only [partsOf] at hp ⊢;split at hp
  ·rename_i off n ag v hf hv
   obtain ⟨e,hp⟩:=az hp;rw [b9 h hv];simp only [hf,e,cond_true];exact xx h hp
  ·cases hp
theorem wB (h:Le S S') {l l':Lf C} (hl:iC S l=some l'):iC S' l=some l':=by
 cases l with
 | ref id p=>
  cases p with
  | nil=>
   simp only [iC] at hl ⊢;split at hl
   ·rename_i t xs sh ho
    rw [h.aj id _ ho];exact hl
   ·cases hl
  | cons s p=>simp [iC] at hl
 | sub id lo hi=>
  simp only [iC] at hl ⊢;split at hl
  ·rename_i t xs sh ho
   rw [h.aj id _ ho];exact hl
  ·cases hl
 | _=>first | exact hl | (simp [iC] at hl)
theorem zP (h:Le S S'):∀ {ls ls':List (Lf C)},oD S ls=some ls'→oD S' ls=some ls'
 | [],ls',hl=>hl
 | l::ls,ls',hl=>by
  simp only [oD] at hl ⊢;split at hl
  ·rename_i l1 h1
   split at hl
   ·rename_i r' h2
    rw [wB h h1,zP h h2];exact hl
   ·cases hl
  ·cases hl
theorem NX (h:Le S S') {v v':SV C} (hv:nU S v=some v'):nU S' v=some v':=by
 cases v with
 | one l=>
  simp only [nU] at hv ⊢;split at hv
  ·rename_i l' hl;rw [wB h hl];exact hv
  ·cases hv
 | agg ls=>
  simp only [nU] at hv ⊢;split at hv
  ·rename_i l' hl;rw [zP h hl];exact hv
  ·cases hv
 | _=>simp [nU] at hv
theorem LD (h:Le S S') {l l':Lf C} (hl:kF X S l=some l'):kF X S' l=some l':=by
 unfold kF at hl ⊢;split at hl
 ·obtain ⟨t,xs,h1,h2⟩:=yK hl
  rw [h2 h];exact h1
 ·exact wB h hl
theorem wD (h:Le S S'):∀ {ls ls':List (Lf C)},gE X S ls=some ls'→gE X S' ls=some ls'
 | [],ls',hl=>hl
 | l::ls,ls',hl=>by
  simp only [gE] at hl ⊢;split at hl
  ·rename_i l1 h1
   split at hl
   ·rename_i r' h2
    rw [LD h h1,wD h h2];exact hl
   ·cases hl
  ·cases hl
theorem NZ (h:Le S S') {pt:Option Ty} {v v':SV C} (hv:nV X S pt v=some v'):nV X S' pt v=some v':=by
 cases pt with
 | none=>exact NX h hv
 | some t=>
  cases v with
  | one l=>
   simp only [nV] at hv ⊢;obtain ⟨ls,h1,h2⟩:=FV hv;rw [h2 h];split at h1
   ·rename_i ls' hls
    rw [wD h hls];exact h1
   ·cases h1
  | _=>exact hv
theorem DK (h:Le S S'):∀ {vs:List (SV C)} {pt:List (Option Ty)} {vs':List (SV C)},views X S pt vs=some vs'→views X S' pt vs=some vs'
 | [],pt,vs',hv=>hv
 | v::vs,pt,vs',hv=>by
  simp only [views] at hv ⊢;split at hv
  ·rename_i v1 h1
   split at hv
   ·rename_i r' h2
    rw [NZ h h1,DK h h2];exact hv
   ·cases hv
  ·cases hv
theorem kv (h:Le S S'):∀ {xs:List Operand} {ts:List TypeId} {vs:List (SV C)},fE X S xs ts=some vs→fE X S' xs ts=some vs
 | [],ts,vs,hx=>hx
 | x::xs,ts,vs,hx=>by
  simp only [fE] at hx ⊢;split at hx
  ·rename_i l hv
   split at hx
   ·rename_i us hu;rw [dC h hv,kv h hu];exact hx
   ·cases hx
  ·rename_i l hv
   split at hx
   ·rename_i us hu;rw [dC h hv,kv h hu];exact hx
   ·cases hx
  ·cases hx
theorem Rf (h:Le S S') {pt:List (Option Ty)} {pre post:List (SV C)} {xs:List Operand} {ts:List TypeId} {vs:List (SV C)} (hx:m6 X S pt pre xs ts post=some vs):m6 X S' pt pre xs ts post=some vs:=by
 unfold m6 at hx ⊢;split at hx
 ·rename_i us hu
  rw [kv h hu];exact DK h hx
 ·cases hx
theorem QZ {l:Lf C} {α:Type} {f:Nat→List (SV C)→List (SV C)→Option α} {q:α} (hl:qC S l f=some q):∃ n pre post,f n pre post=some q∧∀ {S':St C},Le S S'→∀ {γ:Type} (g:Nat→List (SV C)→List (SV C)→Option γ),qC S' l g=g n pre post:=by
 cases l with
 | dP o=>cases o with
  | none=>cases hl
  | some f'=>
   simp only [qC] at hl
   cases hf:Nat.ble og f' with
   | true=>rw [hf] at hl;cases hl
   | false=>
    rw [hf] at hl;exact ⟨_,_,_,hl,fun {S'} h {γ} g=>by simp only [qC,hf,cond_false]⟩
 | vo id=>
  simp only [qC] at hl;split at hl
  ·rename_i f' n sh ls ho
   obtain ⟨e,hl⟩:=az hl;exact ⟨_,_,_,hl,fun {S'} h {γ} g=>by simp only [qC,h.aj id _ ho,e,cond_true]⟩
  ·cases hl
 | _=>cases hl
theorem PZ {x:Operand} {α:Type} {f:TypeId→SV C→Option α} {q:α} (hl:sB S (eu S x) f=some q):∃ t v,f t v=some q∧∀ {S':St C},Le S S'→∀ {γ:Type} (g:TypeId→SV C→Option γ),sB S' (eu S' x) g=g t v:=by
 unfold sB at hl;split at hl
 case h_3=>cases hl
 case h_2=>
  rename_i f hx;obtain ⟨e,hl⟩:=az hl;exact ⟨_,_,hl,fun {S'} h {γ} g=>by simp only [sB,b9 h hx,e,cond_true]⟩
 rename_i id hx;split at hl
 ·rename_i t sh ls ho
  obtain ⟨e,hl⟩:=az hl;split at hl
  ·rename_i v hv
   exact ⟨t,v,hl,fun {S'} h {γ} g=>by simp only [sB,b9 h hx,h.aj id _ ho,e,cond_true,hv]⟩
  ·cases hl
 ·cases hl
theorem J2 {ls:List (Lf C)} {sz:Nat} {ag:Bool} {i:Int} {α:Type} {f:SV C→Option α} {q:α}:∀ {n j:Nat},zz ls sz ag i f n j=some q→∃ v,f v=some q∧∀ {γ:Type} (g:SV C→Option γ),zz ls sz ag i g n j=g v
 | 0,j,h=>by simp [zz] at h
 | n+1,j,h=>by
  simp only [zz] at h ⊢
  cases hb:decide (i=(j:Int)) with
  | true=>
   rw [hb] at h;simp only [cond_true] at h ⊢
   cases ag with
   | true=>exact ⟨_,h,fun g=>rfl⟩
   | false=>
    simp only at h ⊢;split at h
    ·rename_i l hl
     exact ⟨_,h,fun g=>rfl⟩
    ·cases h
  | false=>
   rw [hb] at h;exact J2 (n:=n) (j:=j+1) h
theorem PM (h:Le S S') {v:SV C} (hl:xN S v=true):xN S' v=true:=by
 unfold xN at hl ⊢;split at hl
 ·exact hl
 ·rename_i id
  split at hl
  ·rename_i ho;simp only [h.aj id _ ho]
  ·rename_i ho;simp only [h.aj id _ ho]
  ·cases hl
 ·cases hl
theorem JQ (h:Le S S') {tk:Option (TK Ty)} {x y:Lf C} {b:Bool} (hl:Md S tk x y=some b):Md S' tk x y=some b:=by
 unfold Md at hl ⊢;split at hl
 ·exact hl
 ·rename_i id
  split at hl
  ·rename_i ho;simp only [h.aj id _ ho];exact hl
  ·cases hl
 ·exact hl
 ·exact hl
 ·exact hl
 ·rename_i id
  split at hl
  ·rename_i ho;simp only [h.aj id _ ho];exact hl
  ·cases hl
 ·exact hl
 ·rename_i id
  split at hl
  ·rename_i ho;simp only [h.aj id _ ho];exact hl
  ·cases hl
 ·cases hl
theorem MW {tk:Option (TK Ty)} {op:BinOp} {x y:SV C} {c:Bool} {α:Type} {f:SV C→Option α} {q:α} (hl:px S tk op x y c f=some q):∃ v,f v=some q∧∀ {S':St C},Le S S'→∀ {γ:Type} (g:SV C→Option γ),px S' tk op x y c g=g v:=by
 unfold px at hl;split at hl
 case h_2=>cases hl
 split at hl
 ·rename_i hb;exact ⟨_,hl,fun {S'} h {γ} g=>by simp only [px,JQ h hb]⟩
 ·rename_i hb;exact ⟨_,hl,fun {S'} h {γ} g=>by simp only [px,JQ h hb]⟩
 ·cases hl
theorem Pz {m:MT Ty} {l:Lf C} {key:SV C} {α:Type} {f:(kt vt:Ty)→C kt→List (Nat×C kt×C vt)→Nat→Option α} {q:α} (hl:lL X S m l key f=some q) :
  ∃ kt vt x xs c,f kt vt x xs c=some q∧∀ {S':St C},Le S S'→∀ {γ:Type} (g:(kt vt:Ty)→C kt→List (Nat×C kt×C vt)→Nat→Option γ),lL X S' m l key g=g kt vt x xs c:=by
 unfold lL at hl;obtain ⟨e,hl⟩:=az hl;split at hl
 ·split at hl
  ·rename_i x hx
   exact ⟨_,_,x,[],0,hl,fun {S'} h {γ} g=>by simp only [lL,e,cond_true,hx]⟩
  ·cases hl
 ·rename_i id _
  split at hl
  ·rename_i mk kt vt xs c ho
   obtain ⟨e2,hl⟩:=az hl;split at hl
   ·rename_i x hx
    exact ⟨_,_,x,xs,c,hl,fun {S'} h {γ} g=>by simp only [lL,e,cond_true,h.aj id _ ho,e2,hx]⟩
   ·cases hl
  ·cases hl
 ·cases hl
theorem PB {m:MT Ty} {l:Lf C} {key:SV C} {ok:Bool} {α:Type} {f:SV C→Option α} {q:α} (hl:oW X S m l key ok f=some q):∃ v,f v=some q∧∀ {S':St C},Le S S'→∀ {γ:Type} (g:SV C→Option γ),oW X S' m l key ok g=g v:=by
 unfold oW at hl;obtain ⟨kt,vt,x,xs,c,h1,h2⟩:=Pz hl
 cases ok with
 | true=>exact ⟨_,h1,fun {S'} h {γ} g=>by unfold oW;rw [h2 h];rfl⟩
 | false=>exact ⟨_,h1,fun {S'} h {γ} g=>by unfold oW;rw [h2 h];rfl⟩
end
section
variable {Ty:Type} [DecidableEq Ty] {C:Ty→Type}
variable {X:Cx C} {S S':St C} {R:Type} {r:R}
theorem jy {α:Type}:∀ (d:List Nat) (l:List (Nat×α)) (n:Nat),lk (dA d l) n=if n∈d then none else lk l n
 | [],l,n=>by simp [dA]
 | x::d,l,n=>by
  rw [dA,jy d,lM]
  by_cases h:n∈d<;>by_cases e:n=x<;>simp [h,e]
theorem kX {α:Type}:∀ (d e:List Nat) (l:List (Nat×α)),dA (d++e) l=dA e (dA d l)
 | [],e,l=>rfl
 | x::d,e,l=>by simp only [List.cons_append,dA,kX d e]
theorem Le.del (h:Le S S') (d:List Nat):Le { S with aj:=dA d S.aj } { S' with aj:=dA d S'.aj }:=by
 refine ⟨h.base,h.env,fun id ob hi=>?_⟩;simp only [jy] at hi ⊢;split at hi
 ·cases hi
 ·rename_i e;rw [if_neg e];exact h.aj id ob hi
theorem iB:∀ {ls:List (Lf C)} {S S':St C} {ls':List (Lf C)} {S1:St C} {b:Bool},Le S S'→cV S ls=some (ls',S1,b) →
  S1={ S with aj:=dA (wY ls) S.aj }∧cV S' ls=some (ls',{ S' with aj:=dA (wY ls) S'.aj },b)
 | [],S,S',ls',S1,b,h,ha=>by
  simp only [cV,Option.some.injEq,Prod.mk.injEq] at ha;obtain ⟨rfl,rfl,rfl⟩:=ha;exact ⟨rfl,rfl⟩
 | l::ls,S,S',ls',S1,b,h,ha=>by
  cases l with
  | ref id p=>
   cases p with
   | cons s p=>simp [cV] at ha
   | nil=>
    simp only [cV] at ha ⊢;split at ha
    ·rename_i t xs ho
     split at ha
     ·rename_i r' S2 b2 hr
      have hd:Le (S.kO id) (S'.kO id):=h.del [id];obtain ⟨e1,e2⟩:=iB hd hr;cases ha;rw [h.aj id _ ho];simp only [e2];exact ⟨e1,rfl⟩
     ·cases ha
    ·cases ha
  | nil t=>
   simp only [cV] at ha ⊢;split at ha
   ·rename_i r' S2 b2 hr
    obtain ⟨e1,e2⟩:=iB h hr;cases ha;simp only [e2];exact ⟨e1,rfl⟩
   ·cases ha
  | row t xs=>
   simp only [cV] at ha ⊢;split at ha
   ·rename_i r' S2 b2 hr
    obtain ⟨e1,e2⟩:=iB h hr;cases ha;simp only [e2];exact ⟨e1,rfl⟩
   ·cases ha
  | lZ n=>
   cases n with
   | map=>simp [cV] at ha
   | mF=>
    simp only [cV] at ha ⊢;split at ha
    ·rename_i r' S2 b2 hr
     obtain ⟨e1,e2⟩:=iB h hr;cases ha;simp only [e2];exact ⟨e1,rfl⟩
    ·cases ha
  | int k n=>
   simp only [cV] at ha ⊢;split at ha
   ·rename_i r' S2 b2 hr
    obtain ⟨e1,e2⟩:=iB h hr;cases ha;simp only [e2];exact ⟨e1,rfl⟩
   ·cases ha
  | bool c=>
   simp only [cV] at ha ⊢;split at ha
   ·rename_i r' S2 b2 hr
    obtain ⟨e1,e2⟩:=iB h hr;cases ha;simp only [e2];exact ⟨e1,rfl⟩
   ·cases ha
  | str c=>
   simp only [cV] at ha ⊢;split at ha
   ·rename_i r' S2 b2 hr
    obtain ⟨e1,e2⟩:=iB h hr;cases ha;simp only [e2];exact ⟨e1,rfl⟩
   ·cases ha
  | dP c=>
   simp only [cV] at ha ⊢;split at ha
   ·rename_i r' S2 b2 hr
    obtain ⟨e1,e2⟩:=iB h hr;cases ha;simp only [e2];exact ⟨e1,rfl⟩
   ·cases ha
  | _=>simp [cV] at ha
theorem FI {t:Ty}:∀ {ps:List (Nat×Operand)} {n:Nat} {S S':St C} {es:List (C t)} {S1:St C} {b:Bool},Le S S'→elems X t S n ps=some (es,S1,b) →
  S1={ S with aj:=dA (rR X t S ps) S.aj }∧elems X t S' n ps=some (es,{ S' with aj:=dA (rR X t S ps) S'.aj },b)
 | [],n,S,S',es,S1,b,h,he=>by
  simp only [elems,Option.some.injEq,Prod.mk.injEq] at he;obtain ⟨rfl,rfl,rfl⟩:=he;exact ⟨rfl,rfl⟩
 | (i,x)::ps,n,S,S',es,S1,b,h,he=>by
  simp only [elems] at he ⊢;split at he
  ·rename_i v hv
   split at he
   ·rename_i ls S2 b2 ha
    split at he
    ·rename_i e hd
     split at he
     ·rename_i es' S3 b3 hes
      obtain ⟨hb,he⟩:=az he;obtain ⟨rfl,a2⟩:=iB h ha;obtain ⟨e1,e2⟩:=FI (h.del (wY v.leaves)) hes;cases he;rw [dC h hv];simp only [a2,hd,e2,hb,cond_true,rR,hv,kX];exact ⟨e1,trivial⟩
     ·cases he
    ·cases he
   ·cases he
  ·cases he
theorem lU {id:Nat} {ob:Ob C} (h:fT S id):S.add id ob=some (S.setObj id ob):=by
 unfold St.add
 have:(gv S.env++dX S.aj).any (Nat.beq id)=false:=by
  rw [List.any_eq_false];intro x hx hb;have e:=Nat.eq_of_beq_eq_true hb;subst e
  rcases List.mem_append.1 hx with hx | hx
  ·exact h.1 hx
  ·exact h.2 hx
 rw [this];rfl
theorem UH {id:Nat} {l:cm C} {n:Nat} (h:n∈dX (rm l id)):n∈dX l:=by
 induction l with
 | nil=>simpa [rm] using h
 | cons x l ih=>
  obtain ⟨m,ob⟩:=x;simp only [rm] at h
  cases hb:Nat.beq id m with
  | true=>
   rw [hb] at h;simp only [cond_true] at h;have:=ih h;cases ob<;>simp [dX,this]
  | false=>
   rw [hb] at h;simp only [cond_false] at h
   cases ob with
   | box kd ls=>
    simp only [dX,List.mem_cons,List.mem_append] at h ⊢
    rcases h with h | h | h
    ·exact .inl h
    ·exact .inr (.inl h)
    ·exact .inr (.inr (ih h))
   | row t xs sh=>
    simp only [dX,List.mem_cons] at h ⊢
    rcases h with h | h
    ·exact .inl h
    ·exact .inr (ih h)
   | map mk kt vt xs c=>
    simp only [dX,List.mem_cons] at h ⊢
    rcases h with h | h
    ·exact .inl h
    ·exact .inr (ih h)
   | ghost=>
    simp only [dX,List.mem_cons] at h ⊢
    rcases h with h | h
    ·exact .inl h
    ·exact .inr (ih h)
theorem qX {l:cm C} {n:Nat}:∀ {d:List Nat} {l:cm C},n∈dX (dA d l)→n∈dX l
 | [],l,h=>h
 | x::d,l,h=>UH (qX (l:=l) h)
theorem uE {d:List Nat} {id:Nat} (h:fT S id):fT { S with aj:=dA d S.aj } id:=⟨h.1,fun hm=>h.2 (qX (l:=S.aj) hm)⟩
theorem Bx:∀ {news:List (Nat×Ob C)} {S:St C},(∀ id ob,(id,ob)∈news→fT S id∧∃ t xs sh,ob = .row t xs sh)→gG (dJ news)=true→S.kQ news=some { S with aj:=news.reverse++S.aj }
 | [],S,_,_=>rfl
 | (id,ob)::r,S,h,hn=>by
  simp only [dJ,List.map_cons,gG,Bool.and_eq_true,Bool.not_eq_true'] at hn;obtain ⟨h1,t,xs,sh,rfl⟩:=h id ob (by simp);simp only [St.kQ,lU h1];rw [Bx (S:=S.setObj id (.row t xs sh)) (fun j dR hj=>?_) hn.2]
  ·simp [St.setObj]
  ·obtain ⟨g1,g2⟩:=h j dR (by simp [hj])
   refine ⟨⟨g1.1,fun hm=>?_⟩,g2⟩;simp only [St.setObj,dX,List.mem_cons] at hm
   rcases hm with e | hm
   ·subst e
    refine absurd ?_ (lh hn.1);exact List.mem_map.2 ⟨(j,dR),hj,rfl⟩
   ·exact g1.2 hm
theorem HW {l:List Nat}:gG l=true↔l.Nodup:=by
 induction l with
 | nil=>simp [gG]
 | cons x l ih=>
  simp only [gG,Bool.and_eq_true,Bool.not_eq_true',List.nodup_cons,ih];constructor
  ·exact fun ⟨h1,h2⟩=>⟨lh h1,h2⟩
  ·refine fun ⟨h1,h2⟩=>⟨?_,h2⟩
   rw [List.any_eq_false];intro y hy hb;exact h1 (Nat.eq_of_beq_eq_true hb▸hy)
theorem qW:∀ (ls:List (Lf C)) (n id:Nat) (ob:Ob C),(id,ob)∈(intern n ls).2→∃ t xs sh,ob = .row t xs sh
 | [],n,id,ob,h=>by simp [intern] at h
 | l::ls,n,id,ob,h=>by
  cases l with
  | row t xs=>
   simp only [intern,List.mem_cons] at h
   rcases h with h | h
   ·cases h;exact ⟨t,xs,false,rfl⟩
   ·exact qW ls _ id ob h
  | _=>exact qW ls (n+1) id ob (by simpa [intern] using h)
theorem EU:∀ (rs:List (Bool×List (Lf C))) (n id:Nat) (ob:Ob C),(id,ob)∈(bN n rs).2→∃ t xs sh,ob = .row t xs sh
 | [],n,id,ob,h=>by simp [bN] at h
 | (b,ls)::r,n,id,ob,h=>by
  simp only [bN,List.mem_append] at h
  rcases h with h | h
  ·exact qW ls n id ob h
  ·exact EU r _ id ob h
abbrev Told (X:Cx C) (o:Oper) (S:St C) (r:R) (k:SV C→List (Nat×Ob C)→List Nat→Option R):Prop:=
 ∃ v news dL,k v news dL=some r∧∀ (S':St C),Le S S'→(∀ id,id∈dJ news→fT S' id)→gG (dJ news)=true→∀ {R':Type} (k':St C→Option R'),ev X o S' k'=k' (vz S' o.dst v news dL)
theorem ig (h:Le S S') (o:Oper):bP X S' o=bP X S o:=by unfold bP;rw [h.base]
theorem mA {o:Oper} {k:SV C→List (Nat×Ob C)→List Nat→Option R} {t t0 t1:Ty} {xs:List (C t0)} {ys:List (C t1)} {dF iU:Option Nat} {sh:Bool} {at_:Option Nat} (hq:oc at_ X o S t t0 t1 xs ys dF iU sh k=some r)
  (hev:∀ (S':St C),Le S S'→∀ {R':Type} (k':St C→Option R'),ev X o S' k'=pD at_ X o S' t t0 t1 xs ys dF iU sh k'):Told X o S r k:=by
 unfold oc at hq;split at hq
 ·rename_i xs' Ti hx hy
  obtain ⟨hb,hq⟩:=az hq;refine ⟨_,_,_,hq,fun S' h hf _ {R'} k'=>?_⟩;rw [hev S' h]
  have hu:fT (fH (fH S' dF) iU) (bP X S o):=by
   have:=hf (bP X S o) (by simp [dJ]);have:=uE (d:=vZ dF++vZ iU) this;rw [kX] at this;cases dF<;>cases iU<;>exact this
  unfold pD;simp only [hx,hy,hb,cond_true,ig h o,lU hu];unfold vz;rw [kX];cases dF<;>cases iU<;>rfl
 ·cases hq
theorem rk {c':iu C} {pre post:List (SV C)} {as:List Operand} {ts:List TypeId} {o o':Oper} {k:SV C→List (Nat×Ob C)→List Nat→Option R} (hq:nP X c' S pre as ts post o k=some r) (hoo:o'=o)
  (hev:∀ (S':St C),Le S S'→∀ {R':Type} (k':St C→Option R'),ev X o' S' k'=qD X c' S' pre as ts post o k'):Told X o' S r k:=by
 subst hoo;rw [uo] at hq;unfold wh at hq;split at hq
 case h_2=>cases hq
 rename_i vs hvs
 cases hg:c'.g vs with
 | none=>rw [hg] at hq;cases hq
 | some r0=>
  rw [hg] at hq;simp only [Option.bind_some] at hq
  cases UJ:c'.nz with
  | true=>rw [UJ] at hq;cases hq
  | false=>
  rw [UJ] at hq;simp only at hq;split at hq
  case h_2=>cases hq
  rename_i v hv;refine ⟨_,_,_,hq,fun S' h hf hnd {R'} k'=>?_⟩;rw [hev S' h];rw [sP];unfold yx;simp only [Rf h hvs,hg,Option.bind_some,ig h,UJ,hv]
  cases qZ:c'.frz with
  | true=>
   simp only [ET,qZ,List.reverse_nil];rfl
  | false=>
  simp only [ET,qZ] at hf hnd ⊢
  have hnd':gG (dJ (bN (bP X S o') (c'.ret r0)).2)=true:=by
   rw [HW] at hnd ⊢
   have e:dJ (bN (bP X S o') (c'.ret r0)).2.reverse=(dJ (bN (bP X S o') (c'.ret r0)).2).reverse:=by simp [dJ]
   rw [e] at hnd;exact (List.reverse_perm _).nodup_iff.1 hnd
  rw [Bx (fun id ob hm=>⟨hf id ?_,?_⟩) hnd']
  ·rfl
  ·exact List.mem_map.2 ⟨(id,ob),by simpa using hm,rfl⟩
  ·exact EU _ _ _ _ hm
theorem M1 {c':iu C} {pre post:List (SV C)} {as:List Operand} {ts:List TypeId} {o o':Oper} {k:SV C→List (Nat×Ob C)→List Nat→Option R} (hq:nP X c' S pre as ts post o k=some r) (hoo:o'=o)
  (hev:∀ (S':St C) {R':Type} (k':St C→Option R'),ev X o' S' k'=qD X c' S' pre as ts post o k'):Told X o' S r k:=
 rk hq hoo fun S' _ {R'} k'=>hev S' k'
theorem Qu {o:Oper} {k:SV C→List (Nat×Ob C)→List Nat→Option R} (hq:kN X o S k=some r):Told X o S r k:=by
 obtain ⟨dst,op,ty,pos,dG,gd⟩:=o
 cases op with
 | move x=>
  simp only [kN] at hq;split at hq
  ·rename_i v hv
   exact ⟨_,_,_,hq,fun S' h _ _ {R'} k'=>by simp only [ev,dC h hv];rfl⟩
  ·cases hq
 | pick c x y=>
  simp only [kN] at hq;split at hq
  ·rename_i c' x' y' h1 h2 h3
   exact ⟨_,_,_,hq,fun S' h _ _ {R'} k'=>by simp only [ev,b9 h h1,b9 h h2,b9 h h3];rfl⟩
  ·rename_i v z h1 h2 hno
   refine ⟨_,_,_,hq,fun S' h _ _ {R'} k'=>?_⟩;simp only [ev,b9 h h1,b9 h h2];generalize eu S' y=u
   rcases u with _ | (l | ls | vs)<;>rcases z with (l' | _ | _)
   all_goals first | rfl | (cases l'<;>first | rfl | (cases l<;>rfl))
  ·rename_i v h1 h2 hno
   refine ⟨_,_,_,hq,fun S' h _ _ {R'} k'=>?_⟩;simp only [ev,b9 h h1,b9 h h2];generalize eu S' x=u
   rcases u with _ | (l | ls | vs)<;>rcases v with (l' | _ | _)
   all_goals first | rfl | (cases l'<;>first | rfl | (cases l<;>rfl)) | (cases l<;>rfl)
  ·cases hq
 | box e x=>
  simp only [kN] at hq;split at hq
  ·rename_i v tk hv ht
   obtain ⟨hb,hq⟩:=az hq;refine ⟨_,_,_,hq,fun S' h hf _ {R'} k'=>?_⟩;have hu:=hf (bP X S ⟨dst,.box e x,ty,pos,dG,gd⟩) (by simp [dJ]);simp only [ev,b9 h hv,ht,hb,cond_true,ig h,lU hu];rfl
  ·cases hq
 | alloc e=>
  simp only [kN] at hq;split at hq
  ·rename_i z ht
   refine ⟨_,_,_,hq,fun S' h hf _ {R'} k'=>?_⟩;have hu:=hf (bP X S ⟨dst,.alloc e,ty,pos,dG,gd⟩) (by simp [dJ]);simp only [ev,ht,ig h,lU hu];rfl
  ·rename_i fs zs ht
   refine ⟨_,_,_,hq,fun S' h hf _ {R'} k'=>?_⟩;have hu:=hf (bP X S ⟨dst,.alloc e,ty,pos,dG,gd⟩) (by simp [dJ]);simp only [ev,ht,ig h,lU hu];rfl
  ·rename_i n sz ag zs ht
   refine ⟨_,_,_,hq,fun S' h hf _ {R'} k'=>?_⟩;have hu:=hf (bP X S ⟨dst,.alloc e,ty,pos,dG,gd⟩) (by simp [dJ]);simp only [ev,ht,ig h,lU hu];rfl
  ·cases hq
 | build t ps=>
  simp only [kN] at hq;split at hq
  ·rename_i fs zs ht
   split at hq
   ·rename_i ls hp
    obtain ⟨hb,hq⟩:=az hq;refine ⟨_,_,_,hq,fun S' h hf _ {R'} k'=>?_⟩;simp only [ev,ht,xx h hp,hb,cond_true];rfl
   ·cases hq
  ·rename_i n sz ag zs ht
   split at hq
   ·rename_i ls hp
    refine ⟨_,_,_,hq,fun S' h hf _ {R'} k'=>?_⟩;simp only [ev,ht,xx h hp];rfl
   ·cases hq
  ·cases hq
 | buildSlice t n ps=>
  simp only [kN] at hq;split at hq
  ·rename_i t1 ht
   split at hq
   ·rename_i es S1 b he
    obtain ⟨hb,hq⟩:=az hq;refine ⟨_,_,_,hq,fun S' h hf _ {R'} k'=>?_⟩;obtain ⟨_,e2⟩:=FI h he;have hu:=uE (d:=rR X t1 S ps.toList) (hf (bP X S ⟨dst,.buildSlice t n ps,ty,pos,dG,gd⟩) (by simp [dJ]));simp only [ev,ht,e2,hb,cond_true,ig h,lU hu];rfl
   ·cases hq
  ·cases hq
 | load t x=>
  simp only [kN] at hq;split at hq
  ·rename_i tk l ht hx
   obtain ⟨ls,hk,hg⟩:=FV hq;split at hk
   ·rename_i v hm
    refine ⟨_,_,_,hk,fun S' h hf _ {R'} k'=>?_⟩;simp only [ev,ht,b9 h hx];rw [hg h];simp only [hm];rfl
   ·cases hk
  ·cases hq
 | nilCheck x=>
  simp only [kN] at hq;split at hq
  ·rename_i id off hx
   exact ⟨_,_,_,hq,fun S' h _ _ {R'} k'=>by simp only [ev,b9 h hx];rfl⟩
  ·rename_i t0 x0 off hx
   exact ⟨_,_,_,hq,fun S' h _ _ {R'} k'=>by simp only [ev,b9 h hx];rfl⟩
  ·rename_i id p i off hx
   exact ⟨_,_,_,hq,fun S' h _ _ {R'} k'=>by simp only [ev,b9 h hx];rfl⟩
  ·rename_i v n1 n2 n3 hx
   obtain ⟨e,hq⟩:=az hq;refine ⟨_,_,_,hq,fun S' h _ _ {R'} k'=>?_⟩;simp only [ev,b9 h hx];rw [PM h e];rfl
  ·cases hq
 | binOp op t x y t'=>
  simp only [kN] at hq;split at hq
  ·cases hq
  ·rename_i u v hne hu hv
   cases hnk:CI v with
   | true=>
    rw [hnk] at hq;simp only [cond_true] at hq;obtain ⟨z,hk,hg⟩:=MW hq;refine ⟨_,_,_,hk,fun S' h hf _ {R'} k'=>?_⟩;simp only [ev,dC h hu,dC h hv,hnk,cond_true];rw [hg h];rfl
   | false=>
    rw [hnk] at hq;simp only [cond_false] at hq;obtain ⟨z,hk,hg⟩:=Vl hq;refine ⟨_,_,_,hk,fun S' h hf _ {R'} k'=>?_⟩;simp only [ev,dC h hu,dC h hv,hnk,cond_false];rw [hg];rfl
  ·cases hq
 | unOp op t x=>
  simp only [kN] at hq;split at hq
  ·rename_i b hv
   exact ⟨_,_,_,hq,fun S' h _ _ {R'} k'=>by simp only [ev,b9 h hv];rfl⟩
  ·rename_i ki n hv
   exact ⟨_,_,_,hq,fun S' h _ _ {R'} k'=>by simp only [ev,b9 h hv];rfl⟩
  ·cases hq
 | convert t t' x=>
  simp only [kN] at hq;split at hq
  ·rename_i k1 k' k0 n h1 h2 hv
   exact ⟨_,_,_,hq,fun S' h _ _ {R'} k'=>by simp only [ev,h1,h2,b9 h hv];rfl⟩
  ·rename_i k1 s h1 h2 hv
   exact ⟨_,_,_,hq,fun S' h _ _ {R'} k'=>by simp only [ev,h1,h2,b9 h hv];rfl⟩
  ·rename_i t1 l h1 h2 hv
   obtain ⟨t0,xs,hk,hg⟩:=yK hq;obtain ⟨e1,hk⟩:=az hk;obtain ⟨e2,hk⟩:=az hk;split at hk
   ·rename_i h3
    refine ⟨_,_,_,hk,fun S' h _ _ {R'} k'=>?_⟩;simp only [ev,h1,h2,b9 h hv];rw [hg h];simp only [e1,e2,h3,cond_true];rfl
   ·cases hk
  ·cases hq
 | makeSlice t x y=>
  simp only [kN] at hq
  cases hz0:sA x with
  | true=>
   rw [hz0] at hq;simp only [cond_true] at hq;split at hq
   case h_2=>cases hq
   rename_i t1 km m ht hy;obtain ⟨e2,hq⟩:=az hq;obtain ⟨e3,hq⟩:=az hq;refine ⟨_,_,_,hq,fun S' h hf _ {R'} k'=>?_⟩;have hu:=hf (bP X S ⟨dst,.makeSlice t x y,ty,pos,dG,gd⟩) (by simp [dJ]);simp only [ev,hz0,ht,b9 h hy,e2,e3,cond_true,ig h,lU hu];rfl
  | false=>
  rw [hz0] at hq;simp only [cond_false] at hq;split at hq
  ·rename_i t1 kn n km m ht hx hy
   obtain ⟨e1,hq⟩:=az hq;obtain ⟨e2,hq⟩:=az hq;obtain ⟨e3,hq⟩:=az hq;refine ⟨_,_,_,hq,fun S' h hf _ {R'} k'=>?_⟩;have hu:=hf (bP X S ⟨dst,.makeSlice t x y,ty,pos,dG,gd⟩) (by simp [dJ]);simp only [ev,hz0,cond_false,ht,b9 h hx,b9 h hy,e1,e2,e3,cond_true,ig h,lU hu];rfl
  ·cases hq
 | slice t x lo hi mx=>
  simp only [kN] at hq;split at hq
  ·rename_i s ht hx
   split at hq
   ·rename_i l q hl hh
    obtain ⟨e1,hq⟩:=az hq;obtain ⟨e2,hq⟩:=az hq;obtain ⟨e3,hq⟩:=az hq;refine ⟨_,_,_,hq,fun S' h hf _ {R'} k'=>?_⟩;simp only [ev,ht,b9 h hx,pA h hl,pA h hh,e1,e2,e3,cond_true];rfl
   ·cases hq
  ·rename_i t1 t0 xs ht hx
   split at hq
   ·rename_i l q hl hh
    obtain ⟨e0,hq⟩:=az hq;obtain ⟨e1,hq⟩:=az hq;obtain ⟨e2,hq⟩:=az hq;obtain ⟨e3,hq⟩:=az hq;refine ⟨_,_,_,hq,fun S' h hf _ {R'} k'=>?_⟩;simp only [ev,ht,b9 h hx,pA h hl,pA h hh,e0,e1,e2,e3,cond_true];rfl
   ·cases hq
  ·rename_i t1 id ht hx
   obtain ⟨ew,hq⟩:=az hq;unfold Oe at hq;split at hq
   case h_2=>cases hq
   rename_i t0 xs sh ho;split at hq
   case h_2=>cases hq
   rename_i l q hl hh;obtain ⟨e0,hq⟩:=az hq;obtain ⟨e1,hq⟩:=az hq;obtain ⟨e2,hq⟩:=az hq;obtain ⟨e3,hq⟩:=az hq;refine ⟨_,_,_,hq,fun S' h hf _ {R'} k'=>?_⟩;simp only [ev,ht,b9 h hx,ew,cond_true,Oe,h.aj _ _ ho,pA h hl,pA h hh,e0,e1,e2,e3];rfl
  ·rename_i t1 id zm hi0 ht hx
   unfold Od at hq;split at hq
   case h_2=>cases hq
   rename_i t0 xs sh ho;split at hq
   case h_2=>cases hq
   rename_i l q hl hh;obtain ⟨e0,hq⟩:=az hq;obtain ⟨e1,hq⟩:=az hq;obtain ⟨e2,hq⟩:=az hq;obtain ⟨e3,hq⟩:=az hq;refine ⟨_,_,_,hq,fun S' h hf _ {R'} k'=>?_⟩;simp only [ev,ht,b9 h hx,cond_true,Od,h.aj _ _ ho,pA h hl,pA h hh,e0,e1,e2,e3];rfl
  ·cases hq
 | fieldAddr t x f=>
  simp only [kN] at hq;split at hq
  ·rename_i fs zs l ht hx
   split at hq
   ·rename_i off n ag hf
    split at hq
    ·rename_i l' hl
     exact ⟨_,_,_,hq,fun S' h _ _ {R'} k'=>by simp only [ev,ht,b9 h hx,hf,hl];rfl⟩
    ·cases hq
   ·cases hq
  ·cases hq
 | field t x f=>
  simp only [kN] at hq;split at hq
  ·rename_i fs zs ls ht hx
   split at hq
   ·rename_i off n hf
    exact ⟨_,_,_,hq,fun S' h _ _ {R'} k'=>by simp only [ev,ht,b9 h hx,hf];rfl⟩
   ·rename_i off n hf
    split at hq
    ·rename_i l hl
     exact ⟨_,_,_,hq,fun S' h _ _ {R'} k'=>by simp only [ev,ht,b9 h hx,hf,hl];rfl⟩
    ·cases hq
   ·cases hq
  ·cases hq
 | indexAddr t x y=>
  simp only [kN] at hq;split at hq
  ·rename_i t1 t0 xs ki n ht hx hy
   obtain ⟨e1,hq⟩:=az hq;obtain ⟨e2,hq⟩:=az hq
   cases hz:xs[n.toNat]? with
   | none=>rw [hz] at hq;cases hq
   | some e=>
    rw [hz] at hq;refine ⟨_,_,_,hq,fun S' h _ _ {R'} k'=>?_⟩;simp only [ev,ht,b9 h hx,b9 h hy,e1,e2,cond_true,hz];rfl
  ·rename_i t1 id p ki n ht hx hy
   obtain ⟨e1,hq⟩:=az hq;obtain ⟨t0,xs,hk,hg⟩:=yK hq;obtain ⟨e2,hk⟩:=az hk;obtain ⟨e3,hk⟩:=az hk;refine ⟨_,_,_,hk,fun S' h _ _ {R'} k'=>?_⟩;simp only [ev,ht,b9 h hx,b9 h hy,e1,cond_true];rw [hg h];simp only [e2,e3,cond_true];rfl
  ·rename_i t1 id lo hi ki n ht hx hy
   unfold Og at hq;split at hq
   case h_2=>cases hq
   rename_i t0 xs sh ho;obtain ⟨e1,hq⟩:=az hq;obtain ⟨e2,hq⟩:=az hq;obtain ⟨e3,hq⟩:=az hq;refine ⟨_,_,_,hq,fun S' h _ _ {R'} k'=>?_⟩;simp only [ev,ht,b9 h hx,b9 h hy,Og,h.aj _ _ ho,e1,e2,e3,cond_true];rfl
  ·cases hq
 | index t x y=>
  simp only [kN] at hq;split at hq
  ·rename_i s ki n ht hx hy
   obtain ⟨e1,hq⟩:=az hq;obtain ⟨e2,hq⟩:=az hq;refine ⟨_,_,_,hq,fun S' h _ _ {R'} k'=>?_⟩;simp only [ev,ht,b9 h hx,b9 h hy,e1,e2,cond_true];rfl
  ·rename_i m sz ag zs ls ki n ht hx hy
   obtain ⟨v,hq,hg⟩:=J2 hq;refine ⟨_,_,_,hq,fun S' h _ _ {R'} k'=>?_⟩;simp only [ev,ht,b9 h hx,b9 h hy,hg];rfl
  ·cases hq
 | extract x i=>
  simp only [kN] at hq;split at hq
  ·rename_i vs hv
   split at hq
   ·rename_i l hl
    exact ⟨_,_,_,hq,fun S' h _ _ {R'} k'=>by simp only [ev,b9 h hv,hl];rfl⟩
   ·rename_i ls hl
    exact ⟨_,_,_,hq,fun S' h _ _ {R'} k'=>by simp only [ev,b9 h hv,hl];rfl⟩
   ·cases hq
  ·cases hq
 | call c=>
  obtain ⟨XT,as,ts⟩:=c
  cases XT with
  | builtin bi=>cases bi with
   | len=>
    obtain ⟨al⟩:=as;obtain ⟨tl⟩:=ts;simp only [kN] at hq;split at hq
    ·rename_i x t
     split at hq
     ·rename_i s ht hx
      exact ⟨_,_,_,hq,fun S' h _ _ {R'} k'=>by simp only [ev,ht,b9 h hx];rfl⟩
     ·rename_i t1 l ht hx
      obtain ⟨t0,xs,hk,hg⟩:=yK hq;refine ⟨_,_,_,hk,fun S' h _ _ {R'} k'=>?_⟩;simp only [ev,ht,b9 h hx];rw [hg h];rfl
     ·cases hq
    ·cases hq
   | min=>
    obtain ⟨al⟩:=as;simp only [kN] at hq;split at hq
    ·split at hq
     ·rename_i hx hy
      exact ⟨_,_,_,hq,fun S' h _ _ {R'} k'=>by simp only [ev,b9 h hx,b9 h hy];rfl⟩
     ·cases hq
    ·cases hq
   | max=>
    obtain ⟨al⟩:=as;simp only [kN] at hq;split at hq
    ·split at hq
     ·rename_i hx hy
      exact ⟨_,_,_,hq,fun S' h _ _ {R'} k'=>by simp only [ev,b9 h hx,b9 h hy];rfl⟩
     ·cases hq
    ·cases hq
   | append=>
    obtain ⟨al⟩:=as;obtain ⟨tl⟩:=ts;simp only [kN] at hq;split at hq
    ·rename_i s x t t'
     split at hq
     ·rename_i t1 l m ht hs hx
      obtain ⟨hb,hq⟩:=az hq;split at hq
      ·rename_i t0
       split at hq
       ·rename_i id
        split at hq
        ·rename_i t2 ys sh ho
         refine mA hq fun S' h {R'} k'=>?_
         simp only [ev,ht,dC h hs,dC h hx,hb,cond_true,h.aj _ _ ho]
        ·cases hq
       ·rename_i id lo hi
        split at hq
        ·rename_i t2 ys sh ho
         obtain ⟨hfl,hq⟩:=az hq
         refine mA hq fun S' h {R'} k'=>?_
         simp only [ev,ht,dC h hs,dC h hx,hb,cond_true,h.aj _ _ ho,hfl]
        ·cases hq
       ·rename_i t2 ys
        refine mA hq fun S' h {R'} k'=>?_
        simp only [ev,ht,dC h hs,dC h hx,hb,cond_true]
       ·rename_i t2
        refine mA hq fun S' h {R'} k'=>?_
        simp only [ev,ht,dC h hs,dC h hx,hb,cond_true]
       ·cases hq
      ·rename_i dF
       split at hq
       ·rename_i t0 xs gA v8
        split at hq
        ·rename_i id
         obtain ⟨Ip,hq⟩:=eQ hq;split at hq
         ·rename_i t2 ys sh ho
          refine mA hq fun S' h {R'} k'=>?_
          simp only [ev,ht,dC h hs,dC h hx,hb,cond_true,h.aj _ _ v8,h.aj _ _ ho,Ip,cond_false]
         ·cases hq
        ·rename_i id lo hi
         split at hq
         ·rename_i t2 ys sh ho
          obtain ⟨hfl,hq⟩:=az hq
          refine mA hq fun S' h {R'} k'=>?_
          simp only [ev,ht,dC h hs,dC h hx,hb,cond_true,h.aj _ _ v8,h.aj _ _ ho,hfl]
         ·cases hq
        ·rename_i t2 ys
         refine mA hq fun S' h {R'} k'=>?_
         simp only [ev,ht,dC h hs,dC h hx,hb,cond_true,h.aj _ _ v8]
        ·rename_i t2
         refine mA hq fun S' h {R'} k'=>?_
         simp only [ev,ht,dC h hs,dC h hx,hb,cond_true,h.aj _ _ v8]
        ·cases hq
       ·cases hq
      ·cases hq
     ·cases hq
    ·cases hq
   | _=>exact absurd hq (by simp [kN])
  | value f=>cases f with
   | func f=>
    simp only [kN] at hq;split at hq
    ·rename_i c' hc
     refine M1 hq rfl fun S' {R'} k'=>?_
     simp only [ev,hc]
    ·rename_i hc
     split at hq
     ·cases hq
     rename_i hcw;split at hq
     case h_2=>cases hq
     rename_i t hin
     have hev:∀ (S':St C) {R':Type} (k':St C→Option R'),ev X ⟨dst,.call { callee:=.value (.func f),args:=as,argTypes:=ts },ty,pos,dG,gd⟩ S' k'=Mr X t S' as.toList ts.toList ⟨dst,.call { callee:=.value (.func f),args:=as,argTypes:=ts },ty,pos,dG,gd⟩ k':=fun S' {R'} k'=>by
      simp only [ev,hc,hcw,pz,hin]
     generalize (⟨dst,.call { callee:=.value (.func f),args:=as,argTypes:=ts },ty,pos,dG,gd⟩:Oper)=o at hq hev ⊢;generalize as.toList=al at hq hev;generalize ts.toList=tl at hq hev;unfold WO at hq;split at hq
     case h_2=>cases hq
     rename_i s i x T T1 T';split at hq
     case h_2=>cases hq
     rename_i l n id hl0 hi0 hx0;split at hq
     case h_2=>cases hq
     rename_i t1 ys sh ho;have hq':=az hq;clear hq;obtain ⟨hcc,hq⟩:=hq';split at hq
     ·rename_i t0
      obtain ⟨hn,hq⟩:=az hq
      refine mA hq fun S' h {R'} k'=>?_
      rw [hev];simp only [Mr,dC h hl0,b9 h hi0,b9 h hx0,h.aj _ _ ho,hcc,hn,cond_true]
     ·rename_i dF
      obtain ⟨hne,hq⟩:=eQ hq;split at hq
      ·rename_i t0 xs gA v8
       obtain ⟨hn,hq⟩:=az hq
       refine mA hq fun S' h {R'} k'=>?_
       rw [hev];simp only [Mr,dC h hl0,b9 h hi0,b9 h hx0,h.aj _ _ ho,h.aj _ _ v8,hcc,hn,hne,cond_true,cond_false]
      ·cases hq
     ·cases hq
   | tmp t=>
    simp only [kN] at hq;split at hq
    ·rename_i l hl
     obtain ⟨f,pre,post,h1,h2⟩:=QZ hq;split at h1
     ·rename_i c' hc
      refine rk h1 rfl fun S' h {R'} k'=>?_
      simp only [ev,h.env t _ hl];rw [h2 h];simp only [sO,hc]
     ·cases h1
    ·cases hq
   | _=>exact absurd hq (by simp [kN])
  | invoke x name=>
   simp only [kN] at hq;obtain ⟨t,v,h1,h2⟩:=PZ hq;split at h1
   ·rename_i f hm
    split at h1
    ·rename_i c' hc
     refine rk h1 rfl fun S' h {R'} k'=>?_
     simp only [ev];rw [h2 h];simp only [hm,sO,hc]
    ·cases h1
   ·cases h1
 | makeFunc fn first captured=>
  simp only [kN] at hq;split at hq
  case h_2=>cases hq
  split at hq
  case h_2=>cases hq
  rename_i vs us hvs DA
  cases he:(vs++us).isEmpty with
  | true=>
   rw [he] at hq;simp only [cond_true] at hq;obtain ⟨hfz,hq⟩:=eQ hq;refine ⟨_,_,_,hq,fun S' h hf _ {R'} k'=>?_⟩;simp only [ev,kv h hvs,kv h DA,he,cond_true,hfz,cond_false];rfl
  | false=>
   rw [he] at hq;refine ⟨_,_,_,hq,fun S' h hf _ {R'} k'=>?_⟩;have hu:=hf _ (List.mem_singleton.2 rfl);simp only [ev,kv h hvs,kv h DA,he,cond_false,ig h,lU hu];rfl
 | makeInterface t x=>
  simp only [kN] at hq;split at hq
  case h_3=>cases hq
  case h_1=>
   rename_i ht hv;refine ⟨_,_,_,hq,fun S' h hf _ {R'} k'=>?_⟩;simp only [ev,ht,dC h hv];rfl
  rename_i tk v hno ht hv;obtain ⟨e,hq⟩:=az hq;refine ⟨_,_,_,hq,fun S' h hf _ {R'} k'=>?_⟩;have hu:=hf (bP X S ⟨dst,.makeInterface t x,ty,pos,dG,gd⟩) (by simp [dJ]);simp only [ev,ht,dC h hv]
  rcases tk with z | ⟨_ | ⟨_,_⟩,_ | ⟨_,_⟩⟩ | ⟨_,_,_,_⟩<;>rcases v with l | (_ | ⟨_,_⟩) | _ | _ | _ | _ | _
  all_goals first | exact (hno rfl rfl).elim | (simp only [e,cond_true,ig h,lU hu];rfl)
 | lookup t x i ok=>
  simp only [kN] at hq;split at hq
  case h_2=>cases hq
  rename_i m l key hm hx hi;obtain ⟨e,hq⟩:=eQ hq;obtain ⟨v,h1,h2⟩:=PB hq;refine ⟨_,_,_,h1,fun S' h hf _ {R'} k'=>?_⟩;simp only [ev,hm,b9 h hx,b9 h hi,e,cond_false];rw [h2 h];rfl
 | _=>exact absurd hq (by simp [kN])
end
end Go.Proofs.Ytipemmgoipbojaa.Ab
