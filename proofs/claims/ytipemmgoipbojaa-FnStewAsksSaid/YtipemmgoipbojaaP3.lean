/- Part 3 of the proof: an abstract machine proved sound over the model, the functions that it reckons, the plain law. Names made short by a program. No conditions. -/
import Derived.Test.YtipemmgoipbojaaP2
import Derived.Scope
import Derived.ChangeArms
import Derived.DataReads
import Derived.ChangeOld
set_option linter.unusedVariables false
set_option linter.unusedSimpArgs false
set_option linter.unusedSectionVars false
noncomputable section
namespace Go.Proofs.Ytipemmgoipbojaa.Ab
open Go Go.RowKit
section
variable {Ty:Type} [DecidableEq Ty] {C:Ty→Type}
variable {X:Cx C} {S0 S S':St C} {R:Type} {r:R} {tab:List (Nat×Nat)}
def fA.val (e:fA C):Option (SV C):=match e.vz with
 | some (v,_,_)=>some v
 | none=>none
def fA.news (e:fA C):List (Nat×Ob C):=match e.vz with
 | some (_,news,_)=>news
 | none=>[]
theorem F4 (S:St C) (e:fA C):(e.app S).aj=e.news++dA e.dL S.aj:=by
 obtain ⟨ix,dst,ef,need⟩:=e
 cases ef with
 | none=>rfl
 | some x=>obtain ⟨v,news,dL⟩:=x;cases dst<;>rfl
theorem Rg (S:St C) (e:fA C):(e.app S).base=S.base:=by
 obtain ⟨ix,dst,ef,need⟩:=e
 cases ef with
 | none=>rfl
 | some x=>obtain ⟨v,news,dL⟩:=x;cases dst<;>rfl
theorem Vm (S:St C) (e:fA C) (t:Nat):lk (e.app S).env t=if e.dst=some t∧e.val.isSome then e.val else lk S.env t:=by
 obtain ⟨ix,dst,ef,need⟩:=e
 cases ef with
 | none=>simp [fA.app,fA.val]
 | some x=>
  obtain ⟨v,news,dL⟩:=x
  cases dst with
  | none=>simp [fA.app,fA.val,St.put]
  | some d=>
   simp only [fA.app,fA.val,St.put,aQ]
   by_cases e:t=d
   ·subst e;simp
   ·have:¬ d=t:=fun h=>e h.symm
    simp [e,this]
theorem mS (e:fA C):e.kK=dJ e.news:=by
 obtain ⟨ix,dst,ef,need⟩:=e
 cases ef with
 | none=>rfl
 | some x=>rfl
theorem pX {l:List (Nat×Ob C)} {id:Nat} {ob:Ob C} (h:lk l id=some ob):id∈dJ l:=by
 induction l with
 | nil=>simp [lk] at h
 | cons x l ih=>
  obtain ⟨m,o⟩:=x;rw [aQ] at h;simp only [dJ,List.map_cons,List.mem_cons];split at h
  ·rename_i e;exact .inl e
  ·exact .inr (ih h)
theorem UB {l:List (Nat×Ob C)} {id:Nat} (h:id∈dJ l):∃ ob,lk l id=some ob:=by
 induction l with
 | nil=>simp [dJ] at h
 | cons x l ih=>
  obtain ⟨m,o⟩:=x;simp only [dJ,List.map_cons,List.mem_cons] at h;rw [aQ]
  by_cases e:id=m
  ·exact ⟨o,by simp [e]⟩
  ·rw [if_neg e]
   exact ih (h.resolve_left e)
theorem PQ {l:List (Nat×Ob C)} {id:Nat} (h:id∈dJ l):id∈dX l:=by
 induction l with
 | nil=>simp [dJ] at h
 | cons x l ih=>
  obtain ⟨m,o⟩:=x;simp only [dJ,List.map_cons,List.mem_cons] at h
  cases o<;>simp only [dX,List.mem_cons,List.mem_append]<;>rcases h with h | h
  ·exact .inl h
  ·exact .inr (.inr (ih h))
  ·exact .inl h
  ·exact .inr (ih h)
  ·exact .inl h
  ·exact .inr (ih h)
  ·exact .inl h
  ·exact .inr (ih h)
theorem qj:∀ (es:List (fA C)),(SD S0 es).base=S0.base
 | []=>rfl
 | e::es=>(Rg _ e).trans (qj es)
def Valid (tab:List (Nat×Nat)) (es:List (fA C)):Prop:=es.Pairwise fun e m=>m.ix≠e.ix∧has tab m.ix e.ix=false
structure SX (S0:St C) (tab:List (Nat×Nat)) (bt:List (fA C)):Prop where
 self:∀ e,e∈bt→DY S0 e=true
 pair:∀ e m,e∈bt→m∈bt→e.ix≠m.ix→Ap tab e m=true
theorem vW {bt:List (fA C)} (h:xQ S0 tab bt=true):SX S0 tab bt:=by
 unfold xQ at h;rw [List.all_eq_true] at h;refine ⟨fun e he=>?_,fun e m he hm hne=>?_⟩
 ·have:=h e he
  simp only [Bool.and_eq_true] at this;exact this.1
 ·have:=h e he
  simp only [Bool.and_eq_true,List.all_eq_true,Bool.or_eq_true] at this
  rcases this.2 m hm with hb | hb
  ·exact absurd (Nat.eq_of_beq_eq_true hb) hne
  ·exact hb
theorem iA {a b:List Nat} (h:jF a b=true) {n:Nat} (ha:n∈a):n∉b:=by
 unfold jF at h;rw [List.all_eq_true] at h;have:=h n ha;simp only [Bool.not_eq_true'] at this;exact lh this
section
variable {bt:List (fA C)} (hL:SX S0 tab bt)
include hL
theorem UA {e m:fA C} (he:e∈bt) (hm:m∈bt) (hne:e.ix≠m.ix) {t:Nat} (h1:e.dst=some t):m.dst≠some t:=by
 intro h2;have:=hL.pair e m he hm hne;simp [Ap,Jm,h1,h2,Nat.beq_refl] at this
theorem Uz {e m:fA C} (he:e∈bt) (hm:m∈bt) (hne:e.ix≠m.ix) {id:Nat} (h1:id∈e.kK):id∉m.kK:=by
 have:=hL.pair e m he hm hne;simp only [Ap,Bool.and_eq_true] at this;exact iA this.1.1.2 h1
theorem AK {e m:fA C} (he:e∈bt) (hm:m∈bt) (hne:e.ix≠m.ix) (hno:has tab m.ix e.ix=false) {id:Nat} (h1:id∈e.kK):id∉m.names∧id∉m.dL:=by
 have:=hL.pair e m he hm hne;simp only [Ap,Bool.and_eq_true,hno,Bool.false_or] at this;exact ⟨iA this.1.2.1 h1,iA this.1.2.2 h1⟩
theorem PO {e m:fA C} (he:e∈bt) (hm:m∈bt) (hne:e.ix≠m.ix) (h0:has tab e.ix m.ix=false) (hno:has tab m.ix e.ix=false) {id:Nat} (h1:id∈m.dL):id∉e.need:=by
 have:=hL.pair e m he hm hne;simp only [Ap,Bool.and_eq_true,hno,h0,Bool.false_or] at this;exact iA this.2 h1
theorem sx {e:fA C} (he:e∈bt) {id:Nat} (h1:id∈e.kK):id∉e.dL∧fT S0 id:=by
 have:=hL.self e he;simp only [DY,Bool.and_eq_true] at this;have h2:=iA this.1.2 h1;exact ⟨iA this.1.1.1 h1,fun h=>h2 (by simp [h]),fun h=>h2 (by simp [h])⟩
theorem Mo {e:fA C} (he:e∈bt):gG e.kK=true:=by
 have:=hL.self e he;simp only [DY,Bool.and_eq_true] at this;exact this.1.1.2
theorem E7 {e:fA C} (he:e∈bt) {t:Nat} (h1:e.dst=some t):lk S0.env t=none:=by
 have:=hL.self e he;simp only [DY,Bool.and_eq_true,h1] at this
 simpa using this.2
theorem fJ:∀ {es:List (fA C)},Valid tab es→(∀ e,e∈es→e∈bt)→∀ t v,lk (SD S0 es).env t=some v↔(∃ m,m∈es∧m.dst=some t∧m.val=some v)∨((∀ m,m∈es→m.dst=some t→m.val=none)∧lk S0.env t=some v)
 | [],_,_,t,v=>by simp [SD]
 | e::es,hv,hs,t,v=>by
  have hv':=List.pairwise_cons.1 hv;have ih:=fJ (es:=es) hv'.2 (fun m hm=>hs m (by simp [hm])) t v;rw [SD,Vm];have he:=hs e (by simp)
  by_cases hc:e.dst=some t∧e.val.isSome
  ·rw [if_pos hc]
   constructor
   ·intro h;exact .inl ⟨e,by simp,hc.1,h⟩
   ·rintro (⟨m,hm,h1,h2⟩ | ⟨h1,h2⟩)
    ·rcases List.mem_cons.1 hm with e' | hm
     ·subst e';exact h2
     ·exact absurd h1 (UA hL he (hs m (by simp [hm])) (fun h=>(hv'.1 m hm).1 h.symm) hc.1)
    ·have:=h1 e (by simp) hc.1
     rw [this] at hc;simp at hc
  ·rw [if_neg hc,ih]
   constructor
   ·rintro (⟨m,hm,h⟩ | ⟨h1,h2⟩)
    ·exact .inl ⟨m,by simp [hm],h⟩
    ·refine .inr ⟨fun m hm h=>?_,h2⟩
     rcases List.mem_cons.1 hm with e' | hm
     ·subst e'
      cases hval:m.val with
      | none=>rfl
      | some x=>exact absurd ⟨h,by simp [hval]⟩ hc
     ·exact h1 m hm h
   ·rintro (⟨m,hm,h1,h2⟩ | ⟨h1,h2⟩)
    ·rcases List.mem_cons.1 hm with e' | hm
     ·subst e';exact absurd ⟨h1,by simp [h2]⟩ hc
     ·exact .inl ⟨m,hm,h1,h2⟩
    ·exact .inr ⟨fun m hm=>h1 m (by simp [hm]),h2⟩
def ValO (S0:St C) (es:List (fA C)) (id:Nat) (ob:Ob C):Prop:=
 (∀ m,m∈es→id∉m.dL)∧((∃ m,m∈es∧lk m.news id=some ob)∨((∀ m,m∈es→id∉m.kK)∧lk S0.aj id=some ob))
theorem gJ:∀ {es:List (fA C)},Valid tab es→(∀ e,e∈es→e∈bt)→∀ id ob,lk (SD S0 es).aj id=some ob↔ValO S0 es id ob
 | [],_,_,id,ob=>by simp [SD,ValO]
 | e::es,hv,hs,id,ob=>by
  have hv':=List.pairwise_cons.1 hv;have ih:=gJ (es:=es) hv'.2 (fun m hm=>hs m (by simp [hm])) id ob;have he:=hs e (by simp);rw [SD,F4,dc]
  cases hn:lk e.news id with
  | some dR=>
   simp only [Option.some.injEq]
   have hk:id∈e.kK:=by rw [mS];exact pX hn
   constructor
   ·intro h
    subst h;refine ⟨fun m hm=>?_,.inl ⟨e,by simp,hn⟩⟩
    rcases List.mem_cons.1 hm with e' | hm
    ·subst e';exact (sx hL he hk).1
    ·exact (AK hL he (hs m (by simp [hm])) (fun h=>(hv'.1 m hm).1 h.symm) (hv'.1 m hm).2 hk).2
   ·rintro ⟨h1,⟨m,hm,h2⟩ | ⟨h2,h3⟩⟩
    ·rcases List.mem_cons.1 hm with e' | hm
     ·subst e';rw [hn] at h2;exact Option.some.inj h2
     ·refine absurd ?_ (Uz hL he (hs m (by simp [hm])) (fun h=>(hv'.1 m hm).1 h.symm) hk)
      rw [mS];exact pX h2
    ·exact absurd hk (h2 e (by simp))
  | none=>
   simp only [jy]
   have hk:id∉e.kK:=by
    rw [mS];intro h;obtain ⟨dR,h'⟩:=UB h;rw [hn] at h';cases h'
   by_cases hd:id∈e.dL
   ·rw [if_pos hd]
    constructor
    ·intro h;cases h
    ·rintro ⟨h1,_⟩;exact absurd hd (h1 e (by simp))
   ·rw [if_neg hd,ih]
    constructor
    ·rintro ⟨h1,h2⟩
     refine ⟨fun m hm=>?_,?_⟩
     ·rcases List.mem_cons.1 hm with e' | hm
      ·subst e';exact hd
      ·exact h1 m hm
     ·rcases h2 with ⟨m,hm,h⟩ | ⟨h2,h3⟩
      ·exact .inl ⟨m,by simp [hm],h⟩
      ·refine .inr ⟨fun m hm=>?_,h3⟩
       rcases List.mem_cons.1 hm with e' | hm
       ·subst e';exact hk
       ·exact h2 m hm
    ·rintro ⟨h1,h2⟩
     refine ⟨fun m hm=>h1 m (by simp [hm]),?_⟩
     rcases h2 with ⟨m,hm,h⟩ | ⟨h2,h3⟩
     ·rcases List.mem_cons.1 hm with e' | hm
      ·subst e';rw [hn] at h;cases h
      ·exact .inl ⟨m,hm,h⟩
     ·exact .inr ⟨fun m hm=>h2 m (by simp [hm]),h3⟩
end
theorem P4 {S:St C} {e:fA C} {id:Nat} (h:id∈gv (e.app S).env):id∈gv S.env∨id∈e.names:=by
 obtain ⟨ix,dst,ef,need⟩:=e
 cases ef with
 | none=>exact .inl h
 | some x=>
  obtain ⟨v,news,dL⟩:=x
  cases dst with
  | none=>exact .inl h
  | some d=>
   simp only [fA.app,St.put,gv,List.mem_append] at h
   rcases h with h | h
   ·exact .inr (by simp [fA.names,h])
   ·exact .inl h
theorem Fb {l m:cm C} {id:Nat} (h:id∈dX (l++m)):id∈dX l∨id∈dX m:=by
 induction l with
 | nil=>exact .inr h
 | cons x l ih=>
  obtain ⟨n,o⟩:=x;cases o<;>simp only [List.cons_append,dX,List.mem_cons,List.mem_append] at h ⊢
  ·rcases h with h | h | h
   ·exact .inl (.inl h)
   ·exact .inl (.inr (.inl h))
   ·rcases ih h with h | h
    ·exact .inl (.inr (.inr h))
    ·exact .inr h
  ·rcases h with h | h
   ·exact .inl (.inl h)
   ·rcases ih h with h | h
    ·exact .inl (.inr h)
    ·exact .inr h
  ·rcases h with h | h
   ·exact .inl (.inl h)
   ·rcases ih h with h | h
    ·exact .inl (.inr h)
    ·exact .inr h
  ·rcases h with h | h
   ·exact .inl (.inl h)
   ·rcases ih h with h | h
    ·exact .inl (.inr h)
    ·exact .inr h
theorem P3 {S:St C} {e:fA C} {id:Nat} (h:id∈dX (e.app S).aj):id∈dX S.aj∨id∈e.names:=by
 rw [F4] at h
 rcases Fb h with h | h
 ·refine .inr ?_
  obtain ⟨ix,dst,ef,need⟩:=e
  cases ef with
  | none=>simp [fA.news,dX] at h
  | some x=>simp only [fA.news] at h;simp [fA.names,h]
 ·exact .inl (qX (l:=S.aj) h)
theorem Gf {id:Nat}:∀ {es:List (fA C)},(id∈gv (SD S0 es).env∨id∈dX (SD S0 es).aj)→id∈gv S0.env∨id∈dX S0.aj∨∃ m,m∈es∧id∈m.names
 | [],h=>by
  rcases h with h | h
  ·exact .inl h
  ·exact .inr (.inl h)
 | e::es,h=>by
  have:(id∈gv (SD S0 es).env∨id∈dX (SD S0 es).aj)∨id∈e.names:=by
   rcases h with h | h
   ·rcases P4 h with h | h
    ·exact .inl (.inl h)
    ·exact .inr h
   ·rcases P3 h with h | h
    ·exact .inl (.inr h)
    ·exact .inr h
  rcases this with h | h
  ·rcases Gf h with h | h | ⟨m,hm,h⟩
   ·exact .inl h
   ·exact .inr (.inl h)
   ·exact .inr (.inr ⟨m,by simp [hm],h⟩)
  ·exact .inr (.inr ⟨e,by simp,h⟩)
theorem sj {α:Type} (E:List (Nat×α)):∀ (keep:List Nat) t v,lk (wJ E keep) t=some v→lk E t=some v∧t∈keep
 | [],t,v,h=>by simp [wJ,lk] at h
 | d::r,t,v,h=>by
  simp only [wJ] at h
  cases hd:lk E d with
  | none=>
   rw [hd] at h;obtain ⟨h1,h2⟩:=sj E r t v h;exact ⟨h1,by simp [h2]⟩
  | some u=>
   rw [hd] at h;simp only [aQ] at h
   by_cases e:t=d
   ·subst e;simp at h;subst h;exact ⟨hd,by simp⟩
   ·rw [if_neg e] at h
    obtain ⟨h1,h2⟩:=sj E r t v h;exact ⟨h1,by simp [h2]⟩
theorem Ol {P:Program} {K:Cd C} {w0 w:World} {nt:Nat} {a:Act} {bt es fs:List (fA C)} (hL:SX S0 tab bt) (he:Valid tab es) (hf:Valid tab fs) (hes:∀ e,e∈es→e∈bt) (hsame:∀ e,e∈fs↔e∈es)
  (h:nR K w0 nt (SD S0 es) a w):nR K w0 nt (SD S0 fs) a w:=by
 obtain ⟨β,fp,h⟩:=h
 have hfs:∀ e,e∈fs→e∈bt:=fun e h=>hes e ((hsame e).1 h)
 have h2:=(h.sub (O:=(SD S0 fs).aj) (fun id ob hi=>(gJ hL he hes id ob).2 (by
  have:=(gJ hL hf hfs id ob).1 hi
  simpa only [ValO,hsame] using this))).less (SD S0 fs).env (fun t v ht=>(fJ hL he hes t v).2 (by
   have:=(fJ hL hf hfs t v).1 ht
   simpa only [hsame] using this))
 have e:({ ({ (SD S0 es) with aj:=(SD S0 fs).aj }:St C) with env:=(SD S0 fs).env }:St C)=SD S0 fs:=by
  have:(SD S0 es).base=(SD S0 fs).base:=by rw [qj,qj]
  rw [St.mk.injEq];exact ⟨rfl,rfl,this⟩
 rw [e] at h2;exact ⟨β,fp,h2⟩
end
section
variable {Ty:Type} [DecidableEq Ty] {C:Ty→Type}
variable {P:Program} {X:Cx C} {w0:World} {nt:Nat} {S0 S S':St C} {R:Type} {k:St C→Option R} {r:R} {tab:List (Nat×Nat)} {all:Array Oper} {Q:Exit→Act→World→Prop} {ρ:Nat→Nat}
theorem yD {j:Nat}:∀ {l:List Edge},Nat.testBit (F7 tab l) j=true→∃ e,e∈l∧Region.binds .any e=true∧(e.on=j∨has tab e.on j=true)
 | [],h=>by simp [F7] at h
 | e::l,h=>by
  simp only [F7] at h
  cases hb:Region.binds .any e with
  | false=>
   rw [hb] at h;obtain ⟨e',h1,h2⟩:=yD (l:=l) h;exact ⟨e',by simp [h1],h2⟩
  | true=>
   rw [hb] at h;have h:Nat.testBit ((2 ^ e.on ||| (lk tab e.on).getD 0) ||| F7 tab l) j=true:=h;rw [Nat.testBit_or,Nat.testBit_or,Nat.testBit_two_pow,Bool.or_eq_true,Bool.or_eq_true,decide_eq_true_eq] at h
   rcases h with (h | h) | h
   ·exact ⟨e,by simp,hb,.inl h⟩
   ·exact ⟨e,by simp,hb,.inr h⟩
   ·obtain ⟨e',h1,h2⟩:=yD (l:=l) h
    exact ⟨e',by simp [h1],h2⟩
theorem tT:∀ {n j:Nat},j<n→j∈Ab.below n
 | n+1,j,h=>by
  simp only [Ab.below,List.mem_cons]
  rcases Nat.lt_succ_iff_lt_or_eq.1 h with h | h
  ·exact .inr (tT h)
  ·exact .inl h
structure zH (X:Cx C) (ρ:Nat→Nat) (all:Array Oper) (tab:List (Nat×Nat)):Prop where
 edge:∀ (i:Nat) (o:Oper),all[i]?=some o→∀ e,e∈o.after.toList→Region.binds .any e=true→e.on<i
 anc:∀ (i:Nat) (o:Oper),all[i]?=some o→∀ j,has tab i j=true→∃ e,e∈o.after.toList∧Region.binds .any e=true∧(e.on=j∨has tab e.on j=true)
 vz:∀ (i:Nat) (o:Oper),all[i]?=some o→∀ j,j<all.size→ρ j<ρ i→AO X all j=true→has tab i j=true
 topo:∀ i,i<all.size→∀ j,has tab i j=true→ρ j<ρ i
theorem Ak:∀ (l:List Oper) (n:Nat),nE X all tab n l=true→∀ (i:Nat) (o:Oper),l[i]?=some o→EN X all tab (n+i) o=true
 | [],n,h,i,o,hi=>by simp at hi
 | x::l,n,h,i,o,hi=>by
  simp only [nE,Bool.and_eq_true] at h
  cases i with
  | zero=>simp at hi;subst hi;exact h.1
  | succ i=>
   have:=Ak l (n+1) h.2 i o (by simpa using hi)
   rwa [Nat.add_assoc,Nat.add_comm 1 i] at this
def HN:List Nat→Nat→Nat
 | [],_=>0
 | j::r,i=>cond (Nat.beq i j) 0 (HN r i+1)
theorem Vp {i:Nat} {l:List Nat}:l.any (Nat.beq i)=true↔i∈l:=by
 constructor
 ·intro h
  obtain ⟨j,hj,e⟩:=List.any_eq_true.1 h;have:=Nat.eq_of_beq_eq_true e;subst this;exact hj
 ·intro h
  exact List.any_eq_true.2 ⟨i,h,Nat.beq_refl i⟩
theorem xz:∀ {l:List Nat},rW X all tab l=true→∀ i j,i∈l→j∈l→HN l j<HN l i→(AO X all j=true→has tab i j=true)∧has tab j i=false
 | [],_,i,j,hi,_,_=>by cases hi
 | m::r,h,i,j,hi,hj,hlt=>by
  simp only [rW,Bool.and_eq_true,List.all_eq_true,Bool.not_eq_true',Bool.or_eq_true] at h;obtain ⟨⟨h1,h2⟩,h3⟩:=h;simp only [HN] at hlt
  by_cases ei:i=m
  ·subst ei
   simp [Nat.beq_refl] at hlt
  ·have bi:Nat.beq i m=false:=by
    cases hb:Nat.beq i m with
    | false=>rfl
    | true=>exact absurd (Nat.eq_of_beq_eq_true hb) ei
   have eN:i∈r:=(List.mem_cons.1 hi).resolve_left ei
   by_cases ej:j=m
   ·subst ej
    obtain ⟨q1,q2⟩:=h1 i eN;refine ⟨fun hE=>?_,q2⟩
    rcases q1 with q1 | q1
    ·rw [hE] at q1;cases q1
    ·exact q1
   ·have bj:Nat.beq j m=false:=by
     cases hb:Nat.beq j m with
     | false=>rfl
     | true=>exact absurd (Nat.eq_of_beq_eq_true hb) ej
    rw [bi,bj] at hlt;simp only [cond_false] at hlt;exact xz h3 i j eN ((List.mem_cons.1 hj).resolve_left ej) (by omega)
theorem Jr:∀ {l:List Nat} {i j:Nat},i∈l→j∈l→HN l i=HN l j→i=j
 | [],i,j,hi,_,_=>by cases hi
 | m::r,i,j,hi,hj,h=>by
  simp only [HN] at h
  cases bi:Nat.beq i m with
  | true=>
   cases bj:Nat.beq j m with
   | true=>rw [Nat.eq_of_beq_eq_true bi,Nat.eq_of_beq_eq_true bj]
   | false=>rw [bi,bj] at h;simp at h
  | false=>
   cases bj:Nat.beq j m with
   | true=>rw [bi,bj] at h;simp at h
   | false=>
    rw [bi,bj] at h;simp only [cond_false,Nat.add_right_cancel_iff] at h
    have ni:i≠m:=fun e=>by rw [e,Nat.beq_refl] at bi;cases bi
    have nj:j≠m:=fun e=>by rw [e,Nat.beq_refl] at bj;cases bj
    exact Jr ((List.mem_cons.1 hi).resolve_left ni) ((List.mem_cons.1 hj).resolve_left nj) h
theorem Ao:∀ {l:List Nat},rW X all tab l=true→l.Pairwise fun a b=>HN l a<HN l b
 | [],_=>List.Pairwise.nil
 | m::r,h=>by
  simp only [rW,Bool.and_eq_true,Bool.not_eq_true'] at h
  have hm:m∉r:=fun hm=>by rw [Vp.2 hm] at h;cases h.1.2
  have bm:∀ {x},x∈r→Nat.beq x m=false:=fun {x} hx=>by
   cases hb:Nat.beq x m with
   | false=>rfl
   | true=>exact absurd (Nat.eq_of_beq_eq_true hb▸hx) hm
  refine List.pairwise_cons.2 ⟨fun x hx=>?_,?_⟩
  ·simp only [HN,bm hx,Nat.beq_refl,cond_true,cond_false]
   omega
  ·refine (Ao h.2).imp_of_mem fun {a b} ha hb hlt=>?_
   simp only [HN,bm ha,bm hb,cond_false];omega
structure PreN (X:Cx C) (all:Array Oper) (tab:List (Nat×Nat)):Prop where
 edge:∀ (i:Nat) (o:Oper),all[i]?=some o→∀ e,e∈o.after.toList→Region.binds .any e=true→e.on<i
 anc:∀ (i:Nat) (o:Oper),all[i]?=some o→∀ j,has tab i j=true→∃ e,e∈o.after.toList∧Region.binds .any e=true∧(e.on=j∨has tab e.on j=true)
theorem T7 (h:nE X all tab 0 all.toList=true):PreN X all tab:=by
 have key:∀ (i:Nat) (o:Oper),all[i]?=some o→EN X all tab i o=true:=fun i o hi=>by
  have:=Ak all.toList 0 h i o (by simpa using hi)
  simpa using this
 refine ⟨fun i o hi e he hb=>?_,fun i o hi j hj=>?_⟩
 ·have:=key i o hi
  simp only [EN,Bool.and_eq_true,List.all_eq_true] at this;have:=this.1 e he;rw [hb] at this;simp only [Bool.not_true,Bool.false_or] at this;have h2:Nat.ble (e.on+1) i=true:=this;exact Nat.le_of_ble_eq_true h2
 ·have:=key i o hi
  simp only [EN,Bool.and_eq_true] at this;have e:=Nat.eq_of_beq_eq_true this.2;unfold has at hj;rw [e] at hj;exact yD hj
theorem Kb (hp:PreN X all tab):∀ i,i<all.size→∀ j,has tab i j=true→j<i:=by
 intro i
 induction i using Nat.strongRecOn with
 | _ i ih=>
  intro hi j hj;obtain ⟨e,he,hb,h⟩:=hp.anc i all[i] (by simp [hi]) j hj;have hlt:=hp.edge i all[i] (by simp [hi]) e he hb
  rcases h with h | h
  ·omega
  ·have:=ih e.on hlt (by omega) j h
   omega
theorem T4 (h:(nE X all tab 0 all.toList&&HT X all tab (qR X all tab))=true):zH X (HN (qR X all tab)) all tab:=by
 obtain ⟨h,h'⟩:=(Bool.and_eq_true ..).mp h;simp only [HT,Bool.and_eq_true,List.all_eq_true] at h';obtain ⟨hpo,hcov⟩:=h';have hN:=T7 h
 have hin:∀ i,i<all.size→i∈qR X all tab:=fun i hi=>Vp.1 (hcov i (tT hi))
 refine ⟨hN.edge,hN.anc,fun i o hi j hj hlt hE=>?_,fun i hi j hj=>?_⟩
 ·have eN:i<all.size:=by
   rcases Nat.lt_or_ge i all.size with h | h
   ·exact h
   ·simp [Array.getElem?_eq_none h] at hi
  exact (xz hpo i j (hin i eN) (hin j hj) hlt).1 hE
 ·have hlt:=Kb hN i hi j hj
  rcases Nat.lt_trichotomy (HN (qR X all tab) j) (HN (qR X all tab) i) with h | h | h
  ·exact h
  ·have:=Jr (hin j (by omega)) (hin i hi) h;omega
  ·have:=(xz hpo j i (hin j (by omega)) (hin i hi) h).2
   rw [hj] at this;cases this
theorem has_lt (hp:zH X ρ all tab):∀ i,i<all.size→∀ j,has tab i j=true→j<i:=Kb (X:=X) ⟨hp.edge,hp.anc⟩
def cZ (listed:Array Bool) (i:Nat):Prop:=listed.getD i false=true
def I4 (all:Array Oper) (listed:Array Bool):Prop:=∀ (i:Nat) (o:Oper),all[i]?=some o→cZ listed i→∀ e,e∈o.after.toList→Region.binds .any e=true→cZ listed e.on
theorem rf (hp:zH X ρ all tab) {listed:Array Bool} (hc:I4 all listed):∀ i,(o:Oper)→all[i]?=some o→(∀ e,e∈o.after.toList→Region.binds .any e=true→cZ listed e.on)→∀ j,has tab i j=true→cZ listed j:=by
 intro i
 induction i using Nat.strongRecOn with
 | _ i ih=>
  intro o hi hl j hj;obtain ⟨e,he,hb,h⟩:=hp.anc i o hi j hj;have hlt:=hp.edge i o hi e he hb
  rcases h with h | h
  ·subst h;exact hl e he hb
  ·have eN:i<all.size:=by
    rcases Nat.lt_or_ge i all.size with h | h
    ·exact h
    ·simp [Array.getElem?_eq_none h] at hi
   have he':all[e.on]?=some all[e.on]:=by simp [show e.on<all.size by omega]
   exact ih e.on hlt _ he' (fun e2 h2 Ip=>hc e.on _ he' (hl e he hb) e2 h2 Ip) j h
structure yQ (X:Cx C) (all:Array Oper) (tab:List (Nat×Nat)) (S0:St C) (bt:List (fA C)) (e:fA C):Prop where
 ex:∃ o,all[e.ix]?=some o∧e.dst=o.dst ∧
  (match o.guard with
   | none=>e.Nn=true
   | some (j,want)=>has tab e.ix j=true∧∃ (m:fA C),m∈bt∧m.ix=j∧m.dst.isSome=true∧((∃ b,m.val=some (.one (.bool b))∧(e.Nn=true↔b=want))∨(m.val=some .lX∧e.Nn=false))) ∧
  (e.Nn=false→e.vz=some (.lX,[],[]))∧e.vz.isSome=true ∧
  ∀ v news dL,e.Nn=true→e.vz=some (v,news,dL)→∃ (fs:List (fA C)) (mn:St C),Valid tab fs∧(∀ m,m∈fs→m∈bt∧has tab e.ix m.ix=true)∧(∀ m,m∈bt→has tab e.ix m.ix=true→m∈fs) ∧
   (∀ t v,lk mn.env t=some v→lk (SD S0 fs).env t=some v)∧(∀ id ob,lk mn.aj id=some ob→lk (SD S0 fs).aj id=some ob∧id∈e.need)∧mn.base=S0.base ∧
   ∀ S',Le mn S'→(∀ id,id∈dJ news→fT S' id)→gG (dJ news)=true→∀ {R':Type} (k':St C→Option R'),ev X o S' k'=k' (vz S' o.dst v news dL)
theorem yQ.mono {bt ko:List (fA C)} {e:fA C} (h:yQ X all tab S0 bt e) (hm:∀ m,m∈bt→m∈ko) (hx:∀ m,m∈ko→m∈bt∨has tab e.ix m.ix=false):yQ X all tab S0 ko e:=by
 obtain ⟨o,h1,h2,h3,h5,h6,h4⟩:=h.ex;refine ⟨o,h1,h2,?_,h5,h6,fun v news dL hr he=>?_⟩
 ·split at h3
  ·exact h3
  ·obtain ⟨a,m,q1,q2⟩:=h3
   exact ⟨a,m,hm m q1,q2⟩
 ·obtain ⟨fs,mn,q1,q2,q3,q4⟩:=h4 v news dL hr he
  refine ⟨fs,mn,q1,fun m h=>⟨hm m (q2 m h).1,(q2 m h).2⟩,fun m h h'=>?_,q4⟩
  rcases hx m h with hx | hx
  ·exact q3 m hx h'
  ·rw [hx] at h';cases h'
structure Tz (X:Cx C) (ρ:Nat→Nat) (all:Array Oper) (tab:List (Nat×Nat)) (S0:St C) (bt:List (fA C)):Prop where
 desc:bt.Pairwise fun e m=>ρ m.ix<ρ e.ix
 YT:∀ e,e∈bt→e.ix<all.size
 ok:∀ e,e∈bt→yQ X all tab S0 bt e
theorem Tz.valid (hp:zH X ρ all tab) {bt:List (fA C)} (h:Tz X ρ all tab S0 bt):Valid tab bt:=by
 refine h.desc.imp_of_mem ?_;intro e m he hm hlt;refine ⟨fun e'=>by rw [e'] at hlt;omega,?_⟩
 cases hb:has tab m.ix e.ix with
 | false=>rfl
 | true=>
  have:=hp.topo m.ix (h.YT m hm) e.ix hb;omega
theorem Tz.push (hp:zH X ρ all tab) {bt:List (fA C)} (h:Tz X ρ all tab S0 bt) {e:fA C} (hqs:e.ix<all.size) (hq:∀ m,m∈bt→ρ m.ix<ρ e.ix) (he:yQ X all tab S0 (e::bt) e):Tz X ρ all tab S0 (e::bt):=by
 refine ⟨List.pairwise_cons.2 ⟨fun m hm=>hq m hm,h.desc⟩,fun m hm=>?_,fun m hm=>?_⟩
 ·rcases List.mem_cons.1 hm with e' | hm
  ·subst e';exact hqs
  ·exact h.YT m hm
 ·rcases List.mem_cons.1 hm with e' | zA
  ·subst e';exact he
  ·refine (h.ok m zA).mono (fun x hx=>by simp [hx]) fun x hx=>?_
   rcases List.mem_cons.1 hx with e' | hx
   ·subst e'
    refine .inr ?_
    cases hb:has tab m.ix x.ix with
    | false=>rfl
    | true=>
     have:=hp.topo m.ix (h.YT m zA) x.ix hb;have:=hq m zA;omega
   ·exact .inl hx
theorem oG:∀ {bt:List (fA C)} {j:Nat} {b:Bool},sE bt j=some (.one (.bool b))→gp bt j b=bt∧∃ m,m∈bt∧m.ix=j∧m.dst.isSome=true∧m.val=some (.one (.bool b))
 | [],j,b,h=>by simp [sE] at h
 | e::es,j,b,h=>by
  obtain ⟨ix,dst,ef,need,Nn⟩:=e;simp only [sE] at h
  cases hb:Nat.beq ix j with
  | true=>
   rw [hb] at h
   cases ef with
   | none=>simp at h
   | some x=>
    obtain ⟨v,news,dL⟩:=x
    cases dst with
    | none=>simp at h
    | some d=>
     simp at h;subst h;exact ⟨by simp [gp,hb],⟨ix,some d,some (.one (.bool b),news,dL),need,Nn⟩,by simp,Nat.eq_of_beq_eq_true hb,rfl,rfl⟩
  | false=>
   rw [hb] at h;obtain ⟨h1,m,h2,h3⟩:=oG (bt:=es) h;exact ⟨by simp [gp,hb,h1],m,by simp [h2],h3⟩
theorem CP:∀ {bt:List (fA C)} {j:Nat},sE bt j=some .lX→∃ m,m∈bt∧m.ix=j∧m.dst.isSome=true∧m.val=some .lX
 | [],j,h=>by simp [sE] at h
 | e::es,j,h=>by
  obtain ⟨ix,dst,ef,need,Nn⟩:=e;simp only [sE] at h
  cases hb:Nat.beq ix j with
  | true=>
   rw [hb] at h
   cases ef with
   | none=>simp at h
   | some x=>
    obtain ⟨v,news,dL⟩:=x
    cases dst with
    | none=>simp at h
    | some d=>
     simp at h;subst h;exact ⟨⟨ix,some d,some (.lX,news,dL),need,Nn⟩,by simp,Nat.eq_of_beq_eq_true hb,rfl,rfl⟩
  | false=>
   rw [hb] at h;obtain ⟨m,h2,h3⟩:=CP (bt:=es) h;exact ⟨m,by simp [h2],h3⟩
theorem Ps (hp:zH X ρ all tab) {n:Nat} {bt:List (fA C)} (hl:Tz X ρ all tab S0 bt) (o:Oper) {v:SV C} {news:List (Nat×Ob C)} {dL:List Nat}
  (ho:all[n]?=some o) (hg:match o.guard with
   | none=>True
   | some (j,want)=>has tab n j=true∧∃ (m:fA C),m∈bt∧m.ix=j∧m.dst.isSome=true∧m.val=some (.one (.bool want)))
  (h:∀ S',Le (Mi S0 bt tab n o) S'→(∀ id,id∈dJ news→fT S' id)→gG (dJ news)=true→∀ {R':Type} (k':St C→Option R'),ev X o S' k'=k' (vz S' o.dst v news dL)) :
  yQ X all tab S0 (⟨n,o.dst,some (v,news,dL),H2 S0 bt tab n o,true⟩::bt) ⟨n,o.dst,some (v,news,dL),H2 S0 bt tab n o,true⟩:=by
 refine ⟨o,ho,rfl,?_,(fun h=>by cases h),rfl,fun v' news' dels' _ he=>?_⟩
 ·split at hg
  ·rename_i e;simp [e]
  ·rename_i j want e
   obtain ⟨h1,m,h2,h3,h5,h4⟩:=hg;simp only [e];exact ⟨h1,m,by simp [h2],h3,h5,.inl ⟨want,h4,by simp⟩⟩
 ·cases he
  refine ⟨bt.filter fun e=>has tab n e.ix,Mi S0 bt tab n o,(hl.valid hp).sublist (List.filter_sublist),fun m hm=>?_,fun m hm ha=>?_,fun t v ht=>(sj _ _ t v ht).1,fun id ob hi=>sj _ _ id ob hi,rfl,h⟩
  ·obtain ⟨h1,h2⟩:=List.mem_filter.1 hm
   exact ⟨by simp [h1],h2⟩
  ·rcases List.mem_cons.1 hm with e' | hm
   ·subst e'
    have hlt:n<all.size:=by
     rcases Nat.lt_or_ge n all.size with h | h
     ·exact h
     ·simp [Array.getElem?_eq_none h] at ho
    exact absurd (has_lt hp n hlt n ha) (Nat.lt_irrefl _)
   ·exact List.mem_filter.2 ⟨hm,ha⟩
def Tail (X:Cx C) (all:Array Oper) (tab:List (Nat×Nat)) (k:St C→Option R) (r:R) (S0:St C) (rest:List (Nat×Oper)) (bt:List (fA C)):Prop:=match rest with
 | []=>k (SD S0 bt)=some r
 | (q,o)::rest=>WN X o=true∧(match o.guard with
  | none=>True
  | some (j,want)=>has tab q j=true∧∃ (m:fA C),m∈bt∧m.ix=j∧m.dst.isSome=true∧m.val=some (.one (.bool want)))∧match oU X o with
  | some su=>∃ f,Pu S0 su o.dst bt=true∧mE X su o (SD S0 (bt.filter fun e=>has tab q e.ix)) S0 (fun S1=>cond (xQ S1 tab bt) (jm X all tab k f rest S1 bt) none)=some r
  | none=>∃ f,sR ((Nl tab (o6 tab q bt)).map fun L=>ev X o (SD S0 (bt.filter fun e=> !L.any (Nat.beq e.ix))) (fun S'=>jm X all tab k f (iL all L++rest) S' []))=some r
theorem Ay {Ty':Type} {C':Ty'→Type} {X':Cx C'} {o:Oper} {su:iR C'} (h:oU X' o=some su):o.guard=none:=by
 unfold oU at h;split at h
 ·rename_i h2;exact h2
 ·cases h
def NG (ρ:Nat→Nat) (all:Array Oper) (l:List (Nat×Oper)):Prop:=(l.Pairwise fun x y=>ρ x.1<ρ y.1)∧∀ x,x∈l→all[x.1]?=some x.2
def I0 (X:Cx C) (ρ:Nat→Nat) (all:Array Oper) (tab:List (Nat×Nat)) (k:St C→Option R) (r:R) (S0:St C) (l:List (Nat×Oper)) (bt:List (fA C)):Prop:=
  ∃ (rest:List (Nat×Oper)) (ko:List (fA C)),Tz X ρ all tab S0 ko∧SX S0 tab ko∧Tail X all tab k r S0 rest ko∧NG ρ all rest∧(∀ x,x∈rest→x∈l)∧(∀ e,e∈ko→e∈bt∨∃ x,x∈l∧x.1=e.ix) ∧
   (∀ x,x∈l→x∈rest∨∃ e,e∈ko∧e.ix=x.1)∧(∀ e,e∈bt→e∈ko)∧∀ e,e∈ko→∀ x,x∈rest→ρ e.ix<ρ x.1
theorem sJ (hp:zH X ρ all tab):∀ (f:Nat) (l:List (Nat×Oper)) (S0:St C) (bt:List (fA C)),NG ρ all l→(∀ e,e∈bt→∀ x,x∈l→ρ e.ix<ρ x.1)→Tz X ρ all tab S0 bt→jm X all tab k f l S0 bt=some r →
  I0 X ρ all tab k r S0 l bt
 | 0,l,S0,bt,_,_,_,h=>by simp [jm] at h
 | f+1,[],S0,bt,ha,hb,Im,h=>by
  simp only [jm] at h;obtain ⟨hc,h⟩:=az h;exact ⟨[],bt,Im,vW hc,h,ha,fun x hx=>hx,fun e he=>.inl he,fun x hx=>(by cases hx),fun e he=>he,fun e he x hx=>(by cases hx)⟩
 | f+1,(n,o)::l,S0,bt,ha,hb,Im,h=>by
  have ho:all[n]?=some o:=ha.2 (n,o) (by simp)
  have hn:n<all.size:=by
   rcases Nat.lt_or_ge n all.size with h | h
   ·exact h
   ·simp [Array.getElem?_eq_none h] at ho
  obtain ⟨ha1,ha2⟩:=List.pairwise_cons.1 ha.1;have hasc:NG ρ all l:=⟨ha2,fun x hx=>ha.2 x (by simp [hx])⟩;simp only [jm] at h
  cases hM:oU X o with
  | some su=>
   rw [hM] at h;obtain ⟨hc,h⟩:=az h;simp only [Bool.and_eq_true] at hc;refine ⟨(n,o)::l,bt,Im,vW hc.2.1,⟨hc.1,by rw [Ay hM];trivial,?_⟩,ha,fun x hx=>hx,fun e he=>.inl he,fun x hx=>.inl hx,fun e he=>he,hb⟩;rw [hM];exact ⟨f,hc.2.2,h⟩
  | none=>
  rw [hM] at h;simp only at h
  have fin:∀ {e:fA C},e.ix=n→yQ X all tab S0 (e::bt) e→jm X all tab k f l S0 (e::bt)=some r →
    I0 X ρ all tab k r S0 ((n,o)::l) bt:=by
   intro e he hok h
   obtain ⟨rest,ko,h1,h2,h3,h4,h5,h6,h7,h8,h9⟩:=sJ hp f l S0 (e::bt) hasc (fun m hm x hx=>by
    rcases List.mem_cons.1 hm with e' | hm
    ·subst e';rw [he];exact ha1 x hx
    ·exact hb m hm x (by simp [hx])) (Im.push hp (by omega) (fun m hm=>by rw [he];exact hb m hm (n,o) (by simp)) hok) h
   refine ⟨rest,ko,h1,h2,h3,h4,fun x hx=>by simp [h5 x hx],fun m hm=>?_,fun x hx=>?_,fun m hm=>h8 m (by simp [hm]),h9⟩
   ·rcases h6 m hm with h | ⟨x,hx,ZT⟩
    ·rcases List.mem_cons.1 h with e' | h
     ·subst e';exact .inr ⟨(n,o),by simp,he.symm⟩
     ·exact .inl h
    ·exact .inr ⟨x,by simp [hx],ZT⟩
   ·rcases List.mem_cons.1 hx with e' | hx
    ·subst e';exact .inr ⟨e,h8 e (by simp),he⟩
    ·exact h7 x hx
  cases hE:WN X o with
  | true=>
   rw [hE] at h;simp only at h
   have effo:(match o.guard with
    | none=>True
    | some (j,want)=>has tab n j=true∧∃ (m:fA C),m∈bt∧m.ix=j∧m.dst.isSome=true∧m.val=some (.one (.bool want)))→cond (xQ S0 tab bt) (sR ((Nl tab (o6 tab n bt)).map fun L=>ev X o (SD S0 (bt.filter fun e=> !L.any (Nat.beq e.ix))) (fun S'=>jm X all tab k f (iL all L++l) S' []))) none=some r→I0 X ρ all tab k r S0 ((n,o)::l) bt:=by
    intro hgi h;obtain ⟨hc,h⟩:=az h;exact ⟨(n,o)::l,bt,Im,vW hc,⟨hE,hgi,by rw [hM];exact ⟨f,h⟩⟩,ha,fun x hx=>hx,fun e he=>.inl he,fun x hx=>.inl hx,fun e he=>he,hb⟩
   cases hg:o.guard with
   | none=>
    rw [hg] at h;simp only at h;exact effo (by simp [hg]) h
   | some g=>
    obtain ⟨j,want⟩:=g;rw [hg] at h;simp only at h;obtain ⟨hj,h⟩:=az h;split at h
    ·rename_i b hbv
     obtain ⟨e1,m,zA,CL,UK,UL⟩:=oG hbv
     have skip:b≠want→jm X all tab k f l S0 (⟨n,o.dst,some (.lX,[],[]),[],false⟩::bt)=some r→I0 X ρ all tab k r S0 ((n,o)::l) bt:=by
      intro hne h;refine fin rfl ⟨o,ho,rfl,?_,(fun _=>rfl),rfl,fun v news dL hr he=>by cases hr⟩ h;simp only [hg];exact ⟨hj,m,by simp [zA],CL,UK,.inl ⟨b,UL,by simp [hne]⟩⟩
     have run:b=want→cond (xQ S0 tab bt) (sR ((Nl tab (o6 tab n bt)).map fun L=>ev X o (SD S0 (bt.filter fun e=> !L.any (Nat.beq e.ix))) (fun S'=>jm X all tab k f (iL all L++l) S' []))) none=some r→I0 X ρ all tab k r S0 ((n,o)::l) bt:=by
      intro he h;refine effo ?_ h;simp only [hg];exact ⟨hj,m,zA,CL,UK,by rw [←he];exact UL⟩
     cases b with
     | true=>
      simp only [cond_true,e1] at h
      cases want with
      | true=>exact run rfl h
      | false=>exact skip (by simp) h
     | false=>
      simp only [cond_false,e1] at h
      cases want with
      | true=>exact skip (by simp) h
      | false=>exact run rfl h
    ·rename_i hbv
     obtain ⟨m,zA,CL,UK,UL⟩:=CP hbv;refine fin rfl ⟨o,ho,rfl,?_,(fun _=>rfl),rfl,fun v news dL hr he=>by cases hr⟩ h;simp only [hg];exact ⟨hj,m,by simp [zA],CL,UK,.inr ⟨UL,trivial⟩⟩
    ·cases h
  | false=>
   rw [hE] at h;simp only at h
   cases hg:o.guard with
   | none=>
    rw [hg] at h;simp only at h;obtain ⟨v,news,dL,hk,hto⟩:=Qu h;exact fin rfl (Ps hp Im o ho (by simp [hg]) hto) hk
   | some g=>
    obtain ⟨j,want⟩:=g;rw [hg] at h;simp only at h;obtain ⟨hj,h⟩:=az h;split at h
    ·rename_i b hbv
     obtain ⟨e1,m,zA,CL,UK,UL⟩:=oG hbv
     have skip:b≠want→jm X all tab k f l S0 (⟨n,o.dst,some (.lX,[],[]),[],false⟩::bt)=some r→I0 X ρ all tab k r S0 ((n,o)::l) bt:=by
      intro hne h;refine fin rfl ⟨o,ho,rfl,?_,(fun _=>rfl),rfl,fun v news dL hr he=>by cases hr⟩ h;simp only [hg];exact ⟨hj,m,by simp [zA],CL,UK,.inl ⟨b,UL,by simp [hne]⟩⟩
     have step:∀ {kk:SV C→List (Nat×Ob C)→List Nat→Option R},b=want→kN X o (Mi S0 bt tab n o) kk=some r →
       (∀ v news dL,kk v news dL=jm X all tab k f l S0 (⟨n,o.dst,some (v,news,dL),H2 S0 bt tab n o,true⟩::bt))→I0 X ρ all tab k r S0 ((n,o)::l) bt:=by
      intro kk he h hkk;obtain ⟨v,news,dL,hk,hto⟩:=Qu h;rw [hkk] at hk;refine fin rfl (Ps hp Im o ho ?_ hto) hk;simp only [hg];exact ⟨hj,m,zA,CL,UK,by rw [←he];exact UL⟩
     cases b with
     | true=>
      simp only [cond_true,e1] at h
      cases want with
      | true=>exact step rfl h (fun _ _ _=>rfl)
      | false=>exact skip (by simp) h
     | false=>
      simp only [cond_false,e1] at h
      cases want with
      | true=>exact skip (by simp) h
      | false=>exact step rfl h (fun _ _ _=>rfl)
    ·rename_i hbv
     obtain ⟨m,zA,CL,UK,UL⟩:=CP hbv;refine fin rfl ⟨o,ho,rfl,?_,(fun _=>rfl),rfl,fun v news dL hr he=>by cases hr⟩ h;simp only [hg];exact ⟨hj,m,by simp [zA],CL,UK,.inr ⟨UL,trivial⟩⟩
    ·cases h
theorem Ri {a b:Option R} {x:R} (h:alt a b=some x):a=some x∧b=some x:=by
 rw [Db] at h
 cases a with
 | none=>cases h
 | some u=>
  cases b with
  | none=>cases h
  | some v=>
   simp only [Option.bind_some] at h;split at h
   ·rename_i e;cases h;exact ⟨rfl,by rw [e]⟩
   ·cases h
theorem Bw:∀ {l:List (Option R)} {x:R} {y:Option R},sR l=some x→y∈l→y=some x
 | [],x,y,_,hm=>by cases hm
 | [a],x,y,h,hm=>by simp only [List.mem_singleton] at hm;subst hm;exact h
 | a::b::l,x,y,h,hm=>by
  simp only [sR] at h;obtain ⟨h1,h2⟩:=Ri h
  rcases List.mem_cons.1 hm with e | hm
  ·rw [e];exact h1
  ·exact Bw h2 hm
theorem JU {p:Nat→Bool}:∀ {l:List Nat},(∀ j d,j∈l→d∈l→p j=true→has tab d j=true→p d=true)→l.filter p∈Nl tab l
 | [],_=>by simp [Nl]
 | j::r,h=>by
  have ih:=JU (p:=p) (l:=r) fun a b ha hb=>h a b (by simp [ha]) (by simp [hb])
  simp only [Nl,List.mem_append,List.mem_map,List.mem_filter]
  cases hj:p j with
  | false=>left;simpa [List.filter_cons,hj] using ih
  | true=>
   right;refine ⟨r.filter p,⟨ih,?_⟩,by simp [List.filter_cons,hj]⟩;simp only [List.all_eq_true,Bool.or_eq_true,Bool.not_eq_true'];intro d hd
   cases hb:has tab d j with
   | false=>exact .inl rfl
   | true=>
    right;have:=h j d (by simp) (by simp [hd]) hj hb;exact List.any_eq_true.2 ⟨d,List.mem_filter.2 ⟨hd,this⟩,Nat.beq_refl d⟩
end
section
variable {Ty:Type} [DecidableEq Ty] {C:Ty→Type}
variable {P:Program} {X:Cx C} {w0:World} {nt:Nat} {R:Type} {k:St C→Option R} {r:R} {tab:List (Nat×Nat)} {all:Array Oper} {Q:Exit→Act→World→Prop} {ρ:Nat→Nat}
structure At (P:Program) (X:Cx C) (ρ:Nat→Nat) (w0:World) (nt:Nat) (k:St C→Option R) (r:R) (tab:List (Nat×Nat)) (all:Array Oper) (listed:Array Bool) (a:Act) (w:World) (rest:List (Nat×Oper)) (S0:St C) (bt es:List (fA C)):Prop where
 lay:Tz X ρ all tab S0 bt
 qx:SX S0 tab bt
 tail:Tail X all tab k r S0 rest bt
 asc:NG ρ all rest
 bef:∀ e,e∈bt→∀ x,x∈rest→ρ e.ix<ρ x.1
 valid:Valid tab es
 sub:∀ e,e∈es→e∈bt
 mem:∀ e,e∈bt→(cZ listed e.ix↔e∈es)
 cov:∀ i,i<all.size→cZ listed i∨(∃ e,e∈bt∧e.ix=i)∨∃ x,x∈rest∧x.1=i
 hi:∀ x,x∈rest→¬ cZ listed x.1
 sim:nR X.K w0 nt (SD S0 es) a w
theorem pV {listed:Array Bool} {i:Nat}:i∈Region.ready .any all listed↔i<all.size∧listed.getD i true=false∧∀ o,all[i]?=some o→∀ e,e∈o.after.toList→Region.binds .any e=true→cZ listed e.on:=by
 unfold Region.ready;rw [List.mem_filter,List.mem_range];constructor
 ·rintro ⟨h1,h2⟩
  simp only [Bool.and_eq_true,Bool.not_eq_true'] at h2;refine ⟨h1,h2.1,fun o ho e he hb=>?_⟩;rw [ho] at h2;have h3:=h2.2;simp only [Option.map_some,Option.getD_some,Array.all_eq_true'] at h3;have:=h3 e (by simpa using he);rw [hb] at this
  simpa [cZ] using this
 ·rintro ⟨h1,h2,h3⟩
  refine ⟨h1,?_⟩
  have ho:all[i]?=some all[i]:=by simp [h1]
  simp only [h2,ho,Option.map_some,Option.getD_some,Bool.not_false,Bool.true_and,Array.all_eq_true'];intro e he
  cases hb:Region.binds .any e with
  | false=>simp
  | true=>simpa [cZ] using h3 _ ho e (by simpa using he) hb
theorem fB {listed:Array Bool} {i j:Nat} (hi:i<listed.size):cZ (listed.setIfInBounds i true) j↔j=i∨cZ listed j:=by
 unfold cZ;simp only [Array.getD_eq_getD_getElem?,Array.getElem?_setIfInBounds]
 by_cases e:i=j
 ·subst e;simp [hi]
 ·have:j≠i:=fun h=>e h.symm
  simp [e,this]
theorem IY (hp:zH X ρ all tab) {listed:Array Bool} (hs:listed.size=all.size) (h:Region.ready .any all listed=[]):∀ i,i<all.size→cZ listed i:=by
 intro i
 induction i using Nat.strongRecOn with
 | _ i ih=>
  intro hi
  cases hl:listed.getD i true with
  | true=>
   unfold cZ;simp only [Array.getD_eq_getD_getElem?,Array.getElem?_eq_getElem (hs▸hi:i<listed.size),Option.getD_some] at hl ⊢;exact hl
  | false=>
   have:i∈Region.ready .any all listed:=pV.2 ⟨hi,hl,fun o ho e he hb=>by
    have:=hp.edge i o ho e he hb
    exact ih e.on this (by omega)⟩
   rw [h] at this;cases this
theorem at_end (hp:zH X ρ all tab) {listed:Array Bool} {a:Act} {w:World} {rest:List (Nat×Oper)} {S0:St C} {bt es fs:List (fA C)} (h:At P X ρ w0 nt k r tab all listed a w rest S0 bt es) (hv:Valid tab fs) (hfs:∀ e,e∈fs↔e∈bt∧cZ listed e.ix) :
  nR X.K w0 nt (SD S0 fs) a w:=
 Ol (P:=P) h.qx h.valid hv h.sub (fun e=>⟨fun he=>(h.mem e ((hfs e).1 he).1).1 ((hfs e).1 he).2,fun he=>(hfs e).2 ⟨h.sub e he,(h.mem e (h.sub e he)).2 he⟩⟩) h.sim
theorem Re {q:Nat} {o:Oper} {l:List (Nat×Oper)} (h:NG ρ all ((q,o)::l)):NG ρ all l∧∀ x,x∈l→ρ q<ρ x.1:=
 ⟨⟨(List.pairwise_cons.1 h.1).2,fun x hx=>h.2 x (by simp [hx])⟩,fun x hx=>(List.pairwise_cons.1 h.1).1 x hx⟩
theorem jR {L:List Nat} {x:Nat×Oper}:x∈iL all L↔x.1∈L∧all[x.1]?=some x.2:=by
 unfold iL;rw [List.mem_filterMap];constructor
 ·rintro ⟨i,hi,h⟩
  cases e:all[i]? with
  | none=>rw [e] at h;cases h
  | some o=>rw [e] at h;cases h;exact ⟨hi,e⟩
 ·rintro ⟨h1,h2⟩
  exact ⟨x.1,h1,by rw [h2];rfl⟩
theorem uq:∀ {L:List Nat},(L.Pairwise fun a b=>ρ a<ρ b)→NG ρ all (iL all L)
 | [],_=>⟨List.Pairwise.nil,fun x hx=>by simp [iL] at hx⟩
 | j::r,h=>by
  obtain ⟨h1,h2⟩:=List.pairwise_cons.1 h;obtain ⟨a1,a2⟩:=uq (L:=r) h2;refine ⟨?_,fun x hx=>(jR.1 hx).2⟩;unfold iL at a1 ⊢;rw [List.filterMap_cons]
  cases e:(all[j]?).map fun o=>(j,o) with
  | none=>exact a1
  | some y=>
   refine List.pairwise_cons.2 ⟨fun x hx=>?_,a1⟩
   have hy:y.1=j:=by
    cases e2:all[j]? with
    | none=>rw [e2] at e;cases e
    | some o=>rw [e2] at e;cases e;rfl
   rw [hy];have:x∈iL all r:=hx;exact h1 x.1 (jR.1 this).1
theorem IV {l m:List (Nat×Oper)} (hl:NG ρ all l) (hm:NG ρ all m) (h:∀ x,x∈l→∀ y,y∈m→ρ x.1<ρ y.1):NG ρ all (l++m):=
 ⟨List.pairwise_append.2 ⟨hl.1,hm.1,fun x hx y hy=>h x hx y hy⟩,fun x hx=>(List.mem_append.1 hx).elim (hl.2 x) (hm.2 x)⟩
theorem Uh (S:St C) (O:List (Nat×Ob C)) (x:Operand):eu { S with aj:=O } x=eu S x:=by unfold eu;rfl
theorem O7 (S:St C) (O:List (Nat×Ob C)) (T:TypeId) (x:Operand):gu X { S with aj:=O } T x=gu X S T x:=by
 unfold gu;split
 ·rfl
 ·exact Uh S O _
theorem Br:∀ (xs:List Operand) (ts:List TypeId) (S:St C) (O:List (Nat×Ob C)),fE X { S with aj:=O } xs ts=fE X S xs ts
 | [],ts,S,O=>rfl
 | x::xs,ts,S,O=>by
  simp only [fE,Br xs ts.tail S O,O7]
theorem uP:∀ {l:List Nat} {O O':List (Nat×Ob C)},(∀ id,id∈l→lk O id=lk O' id)→mQ O l=mQ O' l
 | [],O,O',h=>rfl
 | id::l,O,O',h=>by
  simp only [mQ,h id (by simp),uP (l:=l) fun i hi=>h i (by simp [hi])]
theorem xu:∀ {l:List Nat} {O' O:List (Nat×Ob C)},mQ O' l=some O→dJ O=l
 | [],O',O,h=>by simp only [mQ,Option.some.injEq] at h;subst h;rfl
 | id::l,O',O,h=>by
  simp only [mQ] at h;split at h
  ·rename_i ob ho
   split at h
   ·rename_i l' hl
    cases h;have:=xu hl
    simpa [dJ] using this
   ·cases h
  ·cases h
structure V2 (su:iR C) (d:Option Tmp) (e:fA C):Prop where
 need:∀ id,id∈su.ids→id∉e.need
 kK:∀ id,id∈su.ids→id∉e.kK
 dL:∀ id,id∈su.ids→id∉e.dL
 dst:∀ t,d=some t→e.dst≠some t
 val:∀ v news dL,e.vz=some (v,news,dL)→AM v=true
theorem U4 {su:iR C} {d:Option Tmp} {e:fA C} (h:CZ su d e=true):V2 su d e:=by
 simp only [CZ,Bool.and_eq_true,Bool.not_eq_true'] at h;obtain ⟨⟨⟨⟨h1,h2⟩,h3⟩,h4⟩,h5⟩:=h;refine ⟨fun id hi=>iA h1 hi,fun id hi=>iA h2 hi,fun id hi=>iA h3 hi,fun t ht he=>?_,fun v news dL he=>?_⟩
 ·rw [ht,he] at h4
  simp [Jm,Nat.beq_refl] at h4
 ·rw [he] at h5;exact h5
theorem FF {S0:St C} {su:iR C} {d:Option Tmp} (h0:sH S0.env=true):∀ {es:List (fA C)},(∀ e,e∈es→V2 su d e)→sH (SD S0 es).env=true
 | [],_=>h0
 | e::es,h=>by
  have ih:=FF (es:=es) h0 fun m hm=>h m (by simp [hm])
  simp only [SD,fA.app]
  cases he:e.vz with
  | none=>exact ih
  | some x=>
   obtain ⟨v,news,dL⟩:=x;simp only;unfold St.put
   cases e.dst with
   | none=>exact ih
   | some t=>
    simp only [sH,Bool.and_eq_true];exact ⟨(h e (by simp)).val v news dL he,ih⟩
theorem Qx (hX:jk P X) (hC:Cons P X) (hp:zH X ρ all tab) (hall:∀ o,o∈all.toList→slot o.dst nt) (hQ:∀ a w,Next X.K w0 nt k r a w→Q .normal a w) :
  ∀ (fuel:Nat) (listed:Array Bool) (a:Act) (w:World) (rest:List (Nat×Oper)) (S0:St C) (bt es:List (fA C)),listed.size=all.size→listed.toList.count false=fuel→I4 all listed →
   At P X ρ w0 nt k r tab all listed a w rest S0 bt es→wpAny P .any all Q fuel listed a w:=by
 have done:∀ {listed:Array Bool} {a:Act} {w:World} {rest:List (Nat×Oper)} {S0:St C} {bt es:List (fA C)},(∀ i,i<all.size→cZ listed i)→At P X ρ w0 nt k r tab all listed a w rest S0 bt es→Q .normal a w:=by
  intro listed a w rest S0 bt es hl h;have ht:=h.tail
  cases rest with
  | nil=>exact hQ a w ⟨_,at_end hp h (h.lay.valid hp) (fun e=>⟨fun he=>⟨he,hl e.ix (h.lay.YT e he)⟩,fun he=>he.1⟩),ht⟩
  | cons x rest=>
   have hx:=h.asc.2 x (by simp)
   have:x.1<all.size:=by
    rcases Nat.lt_or_ge x.1 all.size with h | h
    ·exact h
    ·simp [Array.getElem?_eq_none h] at hx
   exact absurd (hl x.1 this) (h.hi x (by simp))
 intro fuel
 induction fuel with
 | zero=>
  intro listed a w rest S0 bt es hs hf hc h
  have hl:∀ i,i<all.size→cZ listed i:=by
   intro i hi
   have h1:i<listed.toList.length:=by simpa [hs] using hi
   have h2:=List.count_eq_zero.1 hf
   have h3:listed.toList[i]≠false:=fun e=>h2 (e▸List.getElem_mem h1)
   unfold cZ;simp only [Array.getD_eq_getD_getElem?,Array.getElem?_eq_getElem (hs▸hi:i<listed.size),Option.getD_some]
   simpa using h3
  refine ⟨?_,done hl h⟩
  cases hr:Region.ready .any all listed with
  | nil=>rfl
  | cons x l=>
   have hx:x∈Region.ready .any all listed:=by rw [hr];simp
   obtain ⟨h1,h2,_⟩:=pV.1 hx;have:=hl x h1;unfold cZ at this;simp only [Array.getD_eq_getD_getElem?,Array.getElem?_eq_getElem (hs▸h1:x<listed.size),Option.getD_some] at this h2;rw [this] at h2;cases h2
 | succ fuel ih=>
  intro listed a w rest S0 bt es hs hf hc h;refine ⟨fun hr=>done (IY hp hs hr) h,fun i hi=>?_⟩;obtain ⟨h1,h2,h3⟩:=pV.1 hi
  have hil:i<listed.size:=by omega
  have ho:all[i]?=some all[i]:=by simp [h1]
  generalize all[i]=o at ho;have Tr:=h3 o ho
  have hnl:¬ cZ listed i:=by
   unfold cZ;simp only [Array.getD_eq_getD_getElem?,Array.getElem?_eq_getElem hil,Option.getD_some] at h2 ⊢;rw [h2];simp
  have AR:slot o.dst nt:=hall o (by simpa using Array.mem_of_getElem? ho);have ML:∀ j,has tab i j=true→cZ listed j:=rf hp hc i o ho Tr
  have hs':(listed.setIfInBounds i true).size=all.size:=by simp [hs]
  have hf':(listed.setIfInBounds i true).toList.count false=fuel:=by
   have hv:listed.toList[i]'(by simpa using hil)=false:=by
    simp only [Array.getD_eq_getD_getElem?,Array.getElem?_eq_getElem hil,Option.getD_some] at h2
    simpa using h2
   rw [Array.toList_setIfInBounds,List.count_set (by simpa using hil),hv,hf];simp
  have Ka:I4 all (listed.setIfInBounds i true):=by
   intro j o' gW hj e he hb;rw [fB hil] at hj ⊢
   rcases hj with e' | hj
   ·subst e'
    rw [ho] at gW;have gW:=Option.some.inj gW;subst gW;exact .inr (Tr e he hb)
   ·exact .inr (hc j o' gW hj e he hb)
  unfold wpOp;simp only [ho]
  rcases h.cov i h1 with hl | ⟨e,he,hei⟩ | ⟨x,hx,hxi⟩
  ·exact absurd hl hnl
  ·
   subst hei
   have hne:e∉es:=fun hm=>hnl ((h.mem e he).2 hm)
   obtain ⟨o',q1,q2,q3,q5,q6,q4⟩:=(h.lay.ok e he).ex;rw [ho] at q1;cases q1
   have hval:Valid tab (e::es):=by
    refine List.pairwise_cons.2 ⟨fun m hm=>?_,h.valid⟩;have MH:cZ listed m.ix:=(h.mem m (h.sub m hm)).2 hm;refine ⟨fun e'=>hnl (e'▸MH),?_⟩
    cases hb:has tab m.ix e.ix with
    | false=>rfl
    | true=>
     have hmlt:m.ix<all.size:=h.lay.YT m (h.sub m hm)
     have hmo:all[m.ix]?=some all[m.ix]:=by simp [hmlt]
     exact absurd (rf hp hc m.ix _ hmo (fun e2 he2 Ip=>hc m.ix _ hmo MH e2 he2 Ip) e.ix hb) hnl
   have CK:∀ m,m∈es→e.ix≠m.ix∧has tab m.ix e.ix=false:=fun m hm=>⟨fun e'=>((List.pairwise_cons.1 hval).1 m hm).1 e'.symm,((List.pairwise_cons.1 hval).1 m hm).2⟩
   have next:∀ a' w',nR X.K w0 nt (SD S0 (e::es)) a' w'→wpAny P .any all Q fuel (listed.setIfInBounds e.ix true) a' w':=by
    intro a' w' ga;refine ih _ a' w' rest S0 bt (e::es) hs' hf' Ka ⟨h.lay,h.qx,h.tail,h.asc,h.bef,hval,fun m hm=>?_,fun m hm=>?_,fun j hj=>?_,fun y hy=>?_,ga⟩
    ·rcases List.mem_cons.1 hm with e' | hm
     ·subst e';exact he
     ·exact h.sub m hm
    ·rw [fB hil,List.mem_cons,h.mem m hm]
     constructor
     ·rintro (e' | h')
      ·left
       have:∀ {l:List (fA C)},(l.Pairwise fun e m=>ρ m.ix<ρ e.ix)→m∈l→e∈l→m=e:=by
        intro l
        induction l with
        | nil=>intro _ hm;cases hm
        | cons x l ihl=>
         intro hpw hm he;obtain ⟨p1,p2⟩:=List.pairwise_cons.1 hpw
         rcases List.mem_cons.1 hm with e1 | zA<;>rcases List.mem_cons.1 he with e2 | he1
         ·rw [e1,e2]
         ·subst e1;have:=p1 e he1;rw [e'] at this;omega
         ·subst e2;have:=p1 m zA;rw [e'] at this;omega
         ·exact ihl p2 zA he1
       exact this h.lay.desc hm he
      ·exact .inr h'
     ·rintro (e' | h')
      ·subst e';exact .inl rfl
      ·exact .inr h'
    ·rw [fB hil]
     rcases h.cov j hj with h' | h' | h'
     ·exact .inl (.inr h')
     ·exact .inr (.inl h')
     ·exact .inr (.inr h')
    ·rw [fB hil]
     rintro (e' | h')
     ·have:=h.bef e he y hy;rw [e'] at this;omega
     ·exact h.hi y hy h'
   have hw:Region.wanted o (yielded all a.tmps)=e.Nn:=by
    unfold Region.wanted
    cases hg:o.guard with
    | none=>rw [hg] at q3;simp only at q3;rw [q3]
    | some g=>
     obtain ⟨j,want⟩:=g;rw [hg] at q3;simp only at q3;obtain ⟨ha,m,hm,hmj,hmd,hmv⟩:=q3;subst hmj;have MH:m∈es:=(h.mem m hm).1 (ML _ ha);obtain ⟨om,qm1,qm2,_⟩:=(h.lay.ok m hm).ex;obtain ⟨β,fp,ga⟩:=h.sim
     have hdm:∃ d,m.dst=some d:=by
      cases hd:m.dst with
      | some d=>exact ⟨d,rfl⟩
      | none=>rw [hd] at hmd;cases hmd
     obtain ⟨d,hd⟩:=hdm
     rcases hmv with ⟨b,hmv,hiff⟩ | ⟨hmv,UI⟩
     case inr=>
      have hlk:lk (SD S0 es).env d=some .lX:=(fJ h.qx h.valid h.sub d _).2 (.inl ⟨m,MH,hd,hmv⟩);have hy:=zJ (all:=all) (j:=m.ix) ga (d:=d) (by rw [qm1];simp [←qm2,hd]) hlk;simp only [hy,UI];rfl
     have hlk:lk (SD S0 es).env d=some (.one (.bool b)):=(fJ h.qx h.valid h.sub d _).2 (.inl ⟨m,MH,hd,hmv⟩);have hy:=wu (all:=all) (j:=m.ix) ga (d:=d) (b:=b) (by rw [qm1];simp [←qm2,hd]) (hall om (by simpa using Array.mem_of_getElem? qm1) d (by rw [←qm2];exact hd)) hlk;simp only [hy]
     cases hx:e.Nn with
     | true=>simp [hiff.1 hx]
     | false=>
      have:b≠want:=fun h'=>by rw [hiff.2 h'] at hx;cases hx
      simpa using this
   rw [hw]
   cases UR:e.vz with
   | none=>rw [UR] at q6;cases q6
   | some x=>
    obtain ⟨v,news,dL⟩:=x
    cases UI:e.Nn with
    | false=>
     simp only [Bool.false_eq_true,if_false];have hu:=q5 UI;rw [UR] at hu;cases hu;obtain ⟨β,fp,ga⟩:=h.sim;refine next _ _ ⟨β,fp,?_⟩;have:=ga.put (v:=.lX) (u:=undef) o.dst AR rfl
     have e1:SD S0 (e::es)=(SD S0 es).put o.dst .lX:=by
      simp [SD,fA.app,UR,q2,dA]
     rw [e1];exact this
    | true=>
    simp only [if_true];obtain ⟨fs,mn,f1,f2,f7,f3,f4,f5,f6⟩:=q4 v news dL UI UR
    have ffs:∀ m,m∈fs→m∈es:=fun m hm=>(h.mem m (f2 m hm).1).1 (ML _ (f2 m hm).2)
    have hle:Le mn (SD S0 es):=by
     refine ⟨by rw [qj,f5],fun t v ht=>?_,fun id ob hi=>?_⟩
     ·rcases (fJ h.qx f1 (fun m hm=>(f2 m hm).1) t v).1 (f3 t v ht) with ⟨m,hm,h4⟩ | ⟨h4,h5⟩
      ·exact (fJ h.qx h.valid h.sub t v).2 (.inl ⟨m,ffs m hm,h4⟩)
      ·refine (fJ h.qx h.valid h.sub t v).2 (.inr ⟨fun m hm hd=>?_,h5⟩)
       rw [E7 h.qx (h.sub m hm) hd] at h5;cases h5
     ·obtain ⟨g1,g2⟩:=f4 id ob hi
      obtain ⟨g3,g4⟩:=(gJ h.qx f1 (fun m hm=>(f2 m hm).1) id ob).1 g1;refine (gJ h.qx h.valid h.sub id ob).2 ⟨fun m hm hd=>?_,?_⟩
      ·by_cases ha:has tab e.ix m.ix=true
       ·exact g3 m (f7 m (h.sub m hm) ha) hd
       ·exact PO h.qx he (h.sub m hm) (CK m hm).1 (by simpa using ha) (CK m hm).2 hd g2
      ·rcases g4 with ⟨m,hm,h4⟩ | ⟨h4,h5⟩
       ·exact .inl ⟨m,ffs m hm,h4⟩
       ·refine .inr ⟨fun m hm hk=>?_,h5⟩
        exact (sx h.qx (h.sub m hm) hk).2.2 (PQ (pX h5))
    have hfresh:∀ id,id∈dJ news→fT (SD S0 es) id:=by
     intro id iQ
     have hk:id∈e.kK:=by simp [fA.kK,UR,iQ]
     have hno:¬ (id∈gv (SD S0 es).env∨id∈dX (SD S0 es).aj):=by
      intro hn
      rcases Gf hn with h4 | h4 | ⟨m,hm,h4⟩
      ·exact (sx h.qx he hk).2.1 h4
      ·exact (sx h.qx he hk).2.2 h4
      ·exact (AK h.qx he (h.sub m hm) (CK m hm).1 (CK m hm).2 hk).1 h4
     exact ⟨fun h'=>hno (.inl h'),fun h'=>hno (.inr h')⟩
    have hnd:gG (dJ news)=true:=by
     have:=Mo h.qx he
     simpa [fA.kK,UR] using this
    have hev:=f6 (SD S0 es) hle hfresh hnd (fun S'=>some S')
    have e1:vz (SD S0 es) o.dst v news dL=SD S0 (e::es):=by
     simp [SD,fA.app,UR,vz,q2]
    rw [e1] at hev;obtain ⟨β,fp,ga⟩:=h.sim;refine .inl (Oper.wp_mono ?_ (yj (Q:=Q) hX hC ga AR hev))
    rintro a' w' ⟨S',Ih,Nq⟩
    cases Nq;exact next a' w' Ih
  ·obtain ⟨i',o'⟩:=x
   have hxi:i'=i:=hxi;subst hxi;have gW:all[i']?=some o':=h.asc.2 _ hx;rw [ho] at gW;cases gW
   cases rest with
   | nil=>cases hx
   | cons y rest=>
    obtain ⟨q,oq⟩:=y;obtain ⟨hE,WX,htl⟩:=h.tail;obtain ⟨hasc,hlt⟩:=Re h.asc;have hoq:all[q]?=some oq:=h.asc.2 (q,oq) (by simp)
    by_cases hiq:i'=q
    ·
     subst hiq;rw [ho] at hoq;cases hoq
     cases hM:oU X o with
     | some su=>
      rw [hM] at htl;obtain ⟨f,hB,hev⟩:=htl;simp only [Pu,Bool.and_eq_true] at hB;obtain ⟨hB1,hB2⟩:=hB
      have hEM:∀ e,e∈bt→V2 su o.dst e:=fun e he=>U4 (List.all_eq_true.1 hB1 e he)
      have hfree:∀ d,o.dst=some d→lk S0.env d=none:=fun d hd=>by
       rw [hd] at hB2
       cases hl:lk S0.env d with
       | none=>rfl
       | some x=>simp [hl] at hB2
      unfold mE at hev;split at hev
      case h_2=>cases hev
      rename_i vs O hvs hO;obtain ⟨hb,hev⟩:=az hev;simp only [Bool.and_eq_true] at hb;obtain ⟨hEnv,Z7⟩:=hb
      cases hg:su.g (vs.map uQ) O with
      | none=>rw [hg] at hev;cases hev
      | some r0=>
      rw [hg] at hev;simp only [Option.bind_some] at hev
      cases hv:tf (su.ret r0) with
      | none=>rw [hv] at hev;cases hev
      | some v=>
      rw [hv] at hev;simp only [lu] at hev;generalize MM:(({ S0 with aj:=su.out r0++dA su.ids S0.aj }:St C).put o.dst v)=S1 at hev;obtain ⟨hl1,hd1⟩:=az hev;have Fp:=vW hl1;have hgd:o.guard=none:=Ay hM
      obtain ⟨f',I,hI,hsu⟩:∃ f' I,X.inl f'=some I∧I.sum=some su:=by
       unfold oU at hM;split at hM
       case h_2=>cases hM
       split at hM
       case h_2=>cases hM
       rename_i f' _;split at hM
       case h_2=>cases hM
       rename_i I hI;exact ⟨f',I,hI,hM⟩
      obtain ⟨_,_,hsum⟩:=hC.2.2 f' I hI;obtain ⟨_,_,hkeys⟩:=hsum su hsu
      have WW:∀ id,id∉su.ids→lk (su.out r0) id=none:=fun id iQ=>by
       cases e:lk (su.out r0) id with
       | none=>rfl
       | some ob=>exact absurd (hkeys _ O r0 (xu hO) hg id (pX e)) iQ
      have hbase1:S1.base=S0.base:=by rw [←MM];cases o.dst<;>rfl
      have WY:∀ t,lk S1.env t=if o.dst=some t then some v else lk S0.env t:=fun t=>by
       rw [←MM]
       cases hd:o.dst with
       | none=>simp [St.put]
       | some d=>
        simp only [St.put,aQ]
        by_cases e:t=d
        ·subst e;simp
        ·have e':¬ some d=some t:=fun h=>e (Option.some.inj h).symm
         rw [if_neg e,if_neg e']
      have WV:∀ id,lk S1.aj id=if id∈su.ids then lk (su.out r0) id else lk S0.aj id:=fun id=>by
       have e0:S1.aj=su.out r0++dA su.ids S0.aj:=by rw [←MM];cases o.dst<;>rfl
       rw [e0,dc,jy]
       by_cases hi:id∈su.ids
       ·rw [if_pos hi,if_pos hi];cases lk (su.out r0) id<;>rfl
       ·rw [if_neg hi,if_neg hi,WW id hi]
      have hup:∀ t x,lk S0.env t=some x→lk S1.env t=some x:=fun t x ht=>by
       rw [WY]
       by_cases e:o.dst=some t
       ·rw [hfree t e] at ht;cases ht
       ·rw [if_neg e];exact ht
      obtain ⟨β,fp,ga⟩:=h.sim
      have AQ:∀ m,m∈es→V2 su o.dst m:=fun m hm=>hEM m (h.sub m hm)
      have W2:∀ t x,lk S0.env t=some x→lk (SD S0 es).env t=some x:=fun t x ht=>by
       refine (fJ h.qx h.valid h.sub t x).2 (.inr ⟨fun m hm hd=>?_,ht⟩);rw [E7 h.qx (h.sub m hm) hd] at ht;cases ht
      have hSobj:∀ id,id∈su.ids→lk S0.aj id=lk (SD S0 es).aj id:=fun id hi=>by
       cases e:lk S0.aj id with
       | some ob=>exact ((gJ h.qx h.valid h.sub id ob).2 ⟨fun m hm=>(AQ m hm).dL id hi,.inr ⟨fun m hm=>(AQ m hm).kK id hi,e⟩⟩).symm
       | none=>
        cases e2:lk (SD S0 es).aj id with
        | none=>rfl
        | some ob=>
         rcases ((gJ h.qx h.valid h.sub id ob).1 e2).2 with ⟨m,hm,h3⟩ | ⟨_,h3⟩
         ·exact absurd (by rw [mS];exact pX h3) ((AQ m hm).kK id hi)
         ·rw [e] at h3;cases h3
      have hA:Az X o (SD S0 es)=some vs:=by
       unfold Az at hvs ⊢;split at hvs
       ·rename_i c hc
        generalize hSa:SD S0 (bt.filter fun e=>has tab i' e.ix)=Sa at hvs;rw [←Br _ _ Sa []] at hvs
        have hle:Le { Sa with aj:=[] } (SD S0 es):=⟨by rw [←hSa];exact (qj es).trans (qj (S0:=S0) _).symm,fun t x ht=>by
         rw [←hSa] at ht
         rcases (fJ h.qx ((h.lay.valid hp).sublist List.filter_sublist) (fun m hm=>(List.mem_filter.1 hm).1) t x).1 ht with ⟨m,hm,h4⟩ | ⟨_,h5⟩
         ·obtain ⟨zA,CL⟩:=List.mem_filter.1 hm
          exact (fJ h.qx h.valid h.sub t x).2 (.inl ⟨m,(h.mem m zA).1 (ML m.ix CL),h4⟩)
         ·exact W2 t x h5,fun id ob hi=>by cases hi⟩
        exact kv hle hvs
       ·cases hvs
      have hT:mE X su o (SD S0 es) (SD S0 es) some=some (({ SD S0 es with aj:=su.out r0++dA su.ids (SD S0 es).aj }:St C).put o.dst v):=by
       unfold mE;rw [hA,← uP hSobj,hO];simp only [FF hEnv AQ,Z7,Bool.and_self,cond_true,hg,Option.bind_some,hv,lu]
      have hw:Region.wanted o (yielded all a.tmps)=true:=by simp [Region.wanted,hgd]
      rw [hw];simp only [if_true];refine .inl (Oper.wp_mono ?_ (YI (Q:=Q) hC.2.2 ga AR hM hT))
      rintro a' w' ⟨eG,eD,Z0⟩
      have hTenv:∀ t,lk (({ SD S0 es with aj:=su.out r0++dA su.ids (SD S0 es).aj }:St C).put o.dst v).env t=if o.dst=some t then some v else lk (SD S0 es).env t:=fun t=>by
       cases hd:o.dst with
       | none=>simp [St.put]
       | some d=>
        simp only [St.put,aQ]
        by_cases e:t=d
        ·subst e;simp
        ·have e':¬ some d=some t:=fun h=>e (Option.some.inj h).symm
         rw [if_neg e,if_neg e']
      have hTobj:∀ id,lk (({ SD S0 es with aj:=su.out r0++dA su.ids (SD S0 es).aj }:St C).put o.dst v).aj id=if id∈su.ids then lk (su.out r0) id else lk (SD S0 es).aj id:=fun id=>by
       have e0:(({ SD S0 es with aj:=su.out r0++dA su.ids (SD S0 es).aj }:St C).put o.dst v).aj=su.out r0++dA su.ids (SD S0 es).aj:=by cases o.dst<;>rfl
       rw [e0,dc,jy]
       by_cases hi:id∈su.ids
       ·rw [if_pos hi,if_pos hi];cases lk (su.out r0) id<;>rfl
       ·rw [if_neg hi,if_neg hi,WW id hi]
      have hs1:cK X.K w0 nt (SD S1 es) eG eD a' w':=by
       have q1:=Z0.less (SD S1 es).env (fun t x ht=>by
        rw [hTenv]
        rcases (fJ Fp h.valid h.sub t x).1 ht with ⟨m,hm,h4,h5⟩ | ⟨h4,h5⟩
        ·have hne:¬ o.dst=some t:=fun e=>(AQ m hm).dst t e h4
         rw [if_neg hne];exact (fJ h.qx h.valid h.sub t x).2 (.inl ⟨m,hm,h4,h5⟩)
        ·rw [WY] at h5
         by_cases e:o.dst=some t
         ·rw [if_pos e] at h5 ⊢;exact h5
         ·rw [if_neg e] at h5 ⊢;exact W2 t x h5)
       have q2:=q1.sub (O:=(SD S1 es).aj) (fun id ob hi=>by
        show lk (({ SD S0 es with aj:=su.out r0++dA su.ids (SD S0 es).aj }:St C).put o.dst v).aj id=some ob;rw [hTobj];obtain ⟨g1,g2⟩:=(gJ Fp h.valid h.sub id ob).1 hi
        rcases g2 with ⟨m,hm,h4⟩ | ⟨h4,h5⟩
        ·have hn:id∉su.ids:=fun hi=>(AQ m hm).kK id hi (by rw [mS];exact pX h4)
         rw [if_neg hn];exact (gJ h.qx h.valid h.sub id ob).2 ⟨g1,.inl ⟨m,hm,h4⟩⟩
        ·rw [WV] at h5
         by_cases hn:id∈su.ids
         ·rw [if_pos hn] at h5 ⊢;exact h5
         ·rw [if_neg hn] at h5 ⊢
          exact (gJ h.qx h.valid h.sub id ob).2 ⟨g1,.inr ⟨h4,h5⟩⟩)
       exact ⟨q2.below,q2.defers,q2.size,q2.fresh,q2.eH,q2.aj,q2.env⟩
      have hlay1:Tz X ρ all tab S1 bt:=by
       refine ⟨h.lay.desc,h.lay.YT,fun e he=>?_⟩;obtain ⟨oe,p1,p2,p3,p5,p6,p4⟩:=(h.lay.ok e he).ex;refine ⟨oe,p1,p2,p3,p5,p6,fun v' news dL hr UR=>?_⟩;obtain ⟨fs,mn,f1,f2,f7,f3,f4,f5,f6⟩:=p4 v' news dL hr UR
       have Ql:∀ m,m∈fs→m∈bt:=fun m hm=>(f2 m hm).1
       refine ⟨fs,mn,f1,f2,f7,fun t x ht=>?_,fun id ob hi=>?_,f5.trans hbase1.symm,f6⟩
       ·rcases (fJ h.qx f1 Ql t x).1 (f3 t x ht) with h4 | ⟨h4,h5⟩
        ·exact (fJ Fp f1 Ql t x).2 (.inl h4)
        ·exact (fJ Fp f1 Ql t x).2 (.inr ⟨h4,hup t x h5⟩)
       ·obtain ⟨g1,g2⟩:=f4 id ob hi
        have hn:id∉su.ids:=fun iQ=>(hEM e he).need id iQ g2
        refine ⟨?_,g2⟩;obtain ⟨g3,g4⟩:=(gJ h.qx f1 Ql id ob).1 g1;refine (gJ Fp f1 Ql id ob).2 ⟨g3,?_⟩
        rcases g4 with g4 | ⟨g4,g5⟩
        ·exact .inl g4
        ·exact .inr ⟨g4,by rw [WV,if_neg hn];exact g5⟩
      obtain ⟨OM,ko,g1,g2,g3,g4,g5,g6,g7,g8,g9⟩:=sJ hp f rest S1 bt hasc (fun e he x hx=>h.bef e he x (by simp [hx])) hlay1 hd1
      have hnr:∀ x,x∈rest→¬ cZ (listed.setIfInBounds i' true) x.1:=fun x hx=>by
       rw [fB hil]
       rintro (e' | h')
       ·have:=hlt x hx;rw [e'] at this;exact absurd this (Nat.lt_irrefl _)
       ·exact h.hi x (by simp [hx]) h'
      refine ih _ a' w' OM S1 ko es hs' hf' Ka ⟨g1,g2,g3,g4,g9,h.valid,fun e he=>g8 e (h.sub e he),fun e he=>?_,fun j hj=>?_,fun x hx=>hnr x (g5 x hx),⟨eG,eD,hs1⟩⟩
      ·rcases g6 e he with he' | ⟨x,hx,rD⟩
       ·rw [fB hil,← h.mem e he']
        have hne:¬ e.ix=i':=fun e'=>by
         have:=h.bef e he' (i',o) (by simp);rw [e'] at this;exact absurd this (Nat.lt_irrefl _)
        exact ⟨fun h'=>h'.resolve_left hne,.inr⟩
       ·constructor
        ·intro hl;exact absurd hl (rD▸hnr x hx)
        ·intro hes
         have:=(h.mem e (h.sub e hes)).2 hes;rw [←rD] at this;exact absurd this (h.hi x (by simp [hx]))
      ·rw [fB hil]
       rcases h.cov j hj with h' | ⟨e,he,Ns⟩ | ⟨x,hx,P5⟩
       ·exact .inl (.inr h')
       ·exact .inr (.inl ⟨e,g8 e he,Ns⟩)
       ·rcases List.mem_cons.1 hx with e2 | hx
        ·rw [e2] at P5;exact .inl (.inl P5.symm)
        ·rcases g7 x hx with h' | ⟨e,he,hex⟩
         ·exact .inr (.inr ⟨x,h',P5⟩)
         ·exact .inr (.inl ⟨e,he,hex.trans P5⟩)
     | none=>
     rw [hM] at htl;obtain ⟨f,hev⟩:=htl
     let lag:Nat→Bool:=fun j=> !listed.getD j false
     have hlag:∀ j,lag j=true↔¬ cZ listed j:=fun j=>by simp [lag,cZ]
     let L:=(o6 tab i' bt).filter lag
     have hLm:∀ j,j∈L↔(∃ e,e∈bt∧e.ix=j)∧¬ cZ listed j:=fun j=>by
      simp only [L,List.mem_filter,hlag,o6,List.mem_reverse,List.mem_map];constructor
      ·rintro ⟨⟨e,⟨he,_⟩,Ns⟩,hn⟩;exact ⟨⟨e,he,Ns⟩,hn⟩
      ·rintro ⟨⟨e,he,Ns⟩,hn⟩
       refine ⟨⟨e,⟨he,?_⟩,Ns⟩,hn⟩
       cases hb:has tab i' e.ix with
       | false=>rfl
       | true=>exact absurd (ML e.ix hb) (Ns▸hn)
     have hup:L∈Nl tab (o6 tab i' bt):=JU fun j d hj hd hlj hdj=>by
      rw [hlag] at hlj ⊢;intro hld;simp only [o6,List.mem_reverse,List.mem_map,List.mem_filter] at hd;obtain ⟨e,⟨he,_⟩,hed⟩:=hd
      have hdlt:d<all.size:=by rw [←hed];exact h.lay.YT e he
      have hdo:all[d]?=some all[d]:=by simp [hdlt]
      exact hlj (rf hp hc d _ hdo (fun e2 he2 Ip=>hc d _ hdo hld e2 he2 Ip) j hdj)
     have hev2:=Bw hev (List.mem_map.2 ⟨L,hup,rfl⟩)
     have hfs:∀ e,e∈(bt.filter fun e=> !L.any (Nat.beq e.ix))↔e∈bt∧cZ listed e.ix:=fun e=>by
      rw [List.mem_filter];constructor
      ·rintro ⟨he,hn⟩
       refine ⟨he,?_⟩
       by_cases hl:cZ listed e.ix
       ·exact hl
       ·have:e.ix∈L:=(hLm _).2 ⟨⟨e,he,rfl⟩,hl⟩
        have:L.any (Nat.beq e.ix)=true:=List.any_eq_true.2 ⟨e.ix,this,Nat.beq_refl _⟩;rw [this] at hn;cases hn
      ·rintro ⟨he,hl⟩
       refine ⟨he,?_⟩
       cases hb:L.any (Nat.beq e.ix) with
       | false=>rfl
       | true=>
        obtain ⟨j,hj,hbj⟩:=List.any_eq_true.1 hb;have:=Nat.eq_of_beq_eq_true hbj;subst this;exact absurd hl ((hLm _).1 hj).2
     obtain ⟨β,fp,ga⟩:=at_end hp h ((h.lay.valid hp).sublist List.filter_sublist) hfs
     have hw:Region.wanted o (yielded all a.tmps)=true:=by
      unfold Region.wanted
      cases hg:o.guard with
      | none=>rfl
      | some g=>
       obtain ⟨j,want⟩:=g;rw [hg] at WX;simp only at WX;obtain ⟨ha,m,hm,hmj,hmd,hmv⟩:=WX;subst hmj;have MH:m∈es:=(h.mem m hm).1 (ML _ ha);obtain ⟨om,qm1,qm2,_⟩:=(h.lay.ok m hm).ex;obtain ⟨β,fp,ga⟩:=h.sim
       have hdm:∃ d,m.dst=some d:=by
        cases hd:m.dst with
        | some d=>exact ⟨d,rfl⟩
        | none=>rw [hd] at hmd;cases hmd
       obtain ⟨d,hd⟩:=hdm;have hlk:lk (SD S0 es).env d=some (.one (.bool want)):=(fJ h.qx h.valid h.sub d _).2 (.inl ⟨m,MH,hd,hmv⟩);have hy:=wu (all:=all) (j:=m.ix) ga (d:=d) (b:=want) (by rw [qm1];simp [←qm2,hd]) (hall om (by simpa using Array.mem_of_getElem? qm1) d (by rw [←qm2];exact hd)) hlk;simp only [hy];simp
     rw [hw];simp only [if_true];refine .inl (Oper.wp_mono ?_ (yj (Q:=Q) hX hC ga AR hev2))
     rintro a' w' ⟨S',Ih,Nq⟩
     have hLasc:L.Pairwise fun a b=>ρ a<ρ b:=by
      refine List.Pairwise.filter _ ?_;unfold o6;rw [List.pairwise_reverse,List.pairwise_map]
      exact (h.lay.desc.sublist List.filter_sublist).imp fun h=>h
     have hA:NG ρ all (iL all L++rest):=IV (uq hLasc) hasc fun x hx y hy=>by
      obtain ⟨⟨e,he,Ns⟩,_⟩:=(hLm _).1 (jR.1 hx).1;rw [←Ns];exact h.bef e he y (by simp [hy])
     obtain ⟨OM,ko,g1,g2,g3,g4,g5,g6,g7,_,g9⟩:=sJ hp f _ S' [] hA (fun e he=>(by cases he)) ⟨List.Pairwise.nil,fun e he=>(by cases he),fun e he=>(by cases he)⟩ Nq
     have hun:∀ x,x∈iL all L++rest→x.1≠i'∧¬ cZ listed x.1:=fun x hx=>by
      rcases List.mem_append.1 hx with hx | hx
      ·obtain ⟨⟨e,he,Ns⟩,hn⟩:=(hLm _).1 (jR.1 hx).1
       have:=h.bef e he (i',o) (by simp);exact ⟨fun e'=>by rw [Ns,e'] at this;exact absurd this (Nat.lt_irrefl _),hn⟩
      ·have:=hlt x hx
       exact ⟨fun e'=>by rw [e'] at this;exact absurd this (Nat.lt_irrefl _),h.hi x (by simp [hx])⟩
     have hun':∀ x,x∈iL all L++rest→¬ cZ (listed.setIfInBounds i' true) x.1:=fun x hx=>by
      rw [fB hil]
      rintro (e' | h')
      ·exact (hun x hx).1 e'
      ·exact (hun x hx).2 h'
     refine ih _ a' w' OM S' ko [] hs' hf' Ka ⟨g1,g2,g3,g4,g9,List.Pairwise.nil,fun e he=>(by cases he),fun e he=>?_,fun j hj=>?_,fun x hx=>hun' x (g5 x hx),Ih⟩
     ·constructor
      ·intro hl
       rcases g6 e he with h' | ⟨x,hx,rD⟩
       ·cases h'
       ·exact absurd hl (rD▸hun' x hx)
      ·intro h';cases h'
     ·rw [fB hil]
      by_cases e1:j=i'
      ·exact .inl (.inl e1)
      ·by_cases hl:cZ listed j
       ·exact .inl (.inr hl)
       ·have hmem:∃ x,x∈iL all L++rest∧x.1=j:=by
         rcases h.cov j hj with h' | ⟨e,he,Ns⟩ | ⟨x,hx,P5⟩
         ·exact absurd h' hl
         ·exact ⟨(j,all[j]),List.mem_append.2 (.inl (jR.2 ⟨(hLm j).2 ⟨⟨e,he,Ns⟩,hl⟩,by simp [hj]⟩)),rfl⟩
         ·rcases List.mem_cons.1 hx with e2 | hx
          ·rw [e2] at P5;exact absurd P5.symm e1
          ·exact ⟨x,List.mem_append.2 (.inr hx),P5⟩
        obtain ⟨x,hx,P5⟩:=hmem
        rcases g7 x hx with h' | ⟨e,he,hex⟩
        ·exact .inr (.inr ⟨x,h',P5⟩)
        ·exact .inr (.inl ⟨e,he,hex.trans P5⟩)
    ·
     exfalso
     have hx':(i',o)∈rest:=(List.mem_cons.1 hx).resolve_left fun e=>hiq (by cases e;rfl)
     have hql:ρ q<ρ i':=hlt _ hx'
     have hqs:q<all.size:=by
      rcases Nat.lt_or_ge q all.size with h | h
      ·exact h
      ·simp [Array.getElem?_eq_none h] at hoq
     have hE':AO X all q=true:=by simp [AO,hoq,hE]
     exact h.hi (q,oq) (by simp) (ML q (hp.vz i' o ho q hqs hql hE'))
end
section
variable {Ty:Type} [DecidableEq Ty] {C:Ty→Type}
variable {P:Program} {X:Cx C} {w0 w:World} {nt:Nat} {S:St C} {β:Nat→Value} {fp:Nat→Nat→Prop} {a:Act} {R:Type} {r:R}
def V8 (nt:Nat):Option Tmp→Bool
 | some t=>Nat.blt t nt
 | none=>true
def Uf (nt:Nat):List Oper→Bool
 | []=>true
 | o::r=>V8 nt o.dst&&Uf nt r
def iE (nt:Nat):Code→Bool
 | .region _ ops _=>Uf nt ops.toList
 | .seq a b=>iE nt a&&iE nt b
 | .cond _ a b=>iE nt a&&iE nt b
 | .block _ c=>iE nt c
 | .loop c=>iE nt c
 | .scope c=>iE nt c
 | _=>true
theorem vQ:∀ {l:List Oper},Uf nt l=true→∀ o,o∈l→slot o.dst nt
 | [],_,o,h=>by cases h
 | x::l,hb,o,h=>by
  simp only [Uf,Bool.and_eq_true] at hb
  rcases List.mem_cons.1 h with e | h
  ·subst e
   intro t ht;have:=hb.1;rw [ht] at this;simp only [V8] at this;have h2:Nat.ble (t+1) nt=true:=this;exact Nat.le_of_ble_eq_true h2
  ·exact vQ hb.2 o h
theorem cK.drawn {K:Cd C} (h:cK K w0 nt S β fp a w):cK K w0 nt S β fp a { w with drawn:=w.drawn+1 }:=by
 have hst:∀ k,aH S.aj fp w k→aH S.aj fp { w with drawn:=w.drawn+1 } k∧({ w with drawn:=w.drawn+1 }:World).heap[k]?=w.heap[k]?:=fun k hk=>⟨hk,rfl⟩
 have iQ:∀ id,iT w { w with drawn:=w.drawn+1 } S.aj S.aj β β fp fp id:=fun id=>⟨rfl,fun _ _ _ ho=>⟨ho,fun k hk=>⟨hk,rfl⟩⟩⟩
 exact ⟨h.below.trans ⟨rfl,rfl,rfl,Nat.le_refl _,fun _ _=>rfl⟩,h.defers,h.size,h.fresh,h.eH,fun id ob ho=>(h.aj id ob ho).tr hst (fun _ _=>rfl) (fun _ _ _ id _=>iQ id),fun t v ht=>(h.env t v ht).tr hst fun id _=>iQ id⟩
theorem JO:∀ {l:List Oper} {n:Nat},(jZ n l).Pairwise (fun x y=>x.1<y.1)∧∀ x,x∈jZ n l→n≤x.1
 | [],n=>⟨List.Pairwise.nil,fun x h=>by cases h⟩
 | o::l,n=>by
  obtain ⟨h1,h2⟩:=JO (l:=l) (n:=n+1);refine ⟨List.pairwise_cons.2 ⟨fun x hx=>?_,h1⟩,fun x hx=>?_⟩
  ·have:=h2 x hx
   show n<x.1;omega
  ·rcases List.mem_cons.1 hx with e | hx
   ·subst e;exact Nat.le_refl _
   ·have:=h2 x hx;omega
theorem JN:∀ {l:List Oper} {n:Nat} {x:Nat×Oper},x∈jZ n l→∃ m,x.1=n+m∧l[m]?=some x.2
 | [],n,x,h=>by cases h
 | o::l,n,x,h=>by
  rcases List.mem_cons.1 h with e | h
  ·subst e;exact ⟨0,rfl,rfl⟩
  ·obtain ⟨m,h1,h2⟩:=JN h
   exact ⟨m+1,by omega,by simpa using h2⟩
theorem JV:∀ {l:List Oper} {n m:Nat} {o:Oper},l[m]?=some o→(n+m,o)∈jZ n l
 | [],n,m,o,h=>by simp at h
 | o'::l,n,m,o,h=>by
  cases m with
  | zero=>simp at h;subst h;exact List.mem_cons_self
  | succ m=>
   have:=JV (l:=l) (n:=n+1) (m:=m) (o:=o) (by simpa using h);refine List.mem_cons_of_mem _ ?_
   have e:n+1+m=n+(m+1):=by omega
   rw [e] at this;exact this
theorem A7 {all:Array Oper} {i:Nat} (h:i∈iG all):(∀ (j:Nat) (o:Oper) cs b,all[j]?=some o→o.op ≠ .select cs b)∧∃ o,all[i]?=some o∧ye all i o=true:=by
 unfold iG at h
 cases hb:all.toList.all Cs with
 | false=>rw [hb] at h;cases h
 | true=>
  rw [hb] at h;simp only [cond_true,List.mem_map,List.mem_filter] at h;obtain ⟨x,⟨h1,h2⟩,rfl⟩:=h;obtain ⟨m,e,h3⟩:=JN h1;refine ⟨fun j o cs b hj he=>?_,x.2,by rw [e,Nat.zero_add];simpa using h3,h2⟩;have:=List.all_eq_true.1 hb o (by simpa using Array.mem_of_getElem? hj);unfold Cs at this;rw [he] at this;cases this
theorem CY {all:Array Oper}:(iG all).Nodup:=by
 unfold iG
 cases all.toList.all Cs with
 | false=>exact List.nodup_nil
 | true=>
  have h:=(JO (l:=all.toList) (n:=0)).1
  have h2:(((jZ 0 all.toList).filter fun x=>ye all x.1 x.2).map (·.1)).Pairwise (· < ·):=by
   rw [List.pairwise_map];exact h.sublist List.filter_sublist
  exact h2.imp fun h=>Nat.ne_of_lt h
theorem wL (hX:jk P X) {all:Array Oper} {Q:Exit→Act→World→Prop} (hall:∀ o,o∈all.toList→slot o.dst nt) (hP:∀ c a w d v,Q (.panic c) (a.put d v) w→Q (.panic c) a w):∀ (l:List Nat) (listed:Array Bool) (a:Act) (S S1:St C),
  listed.size=all.size→l.Nodup→(∀ i,i∈l→i∈iG all)→(∀ i,i∈l→¬ cZ listed i)→cK X.K w0 nt S β fp a w→jY X all l S=some S1 →
  (∀ (a':Act) (jA:Array Bool),jA.size=all.size→(∀ j,cZ jA j↔cZ listed j∨j∈l)→cK X.K w0 nt S1 β fp a' w→wpAny P .any all Q (jA.toList.count false) jA a' w)→wpAny P .any all Q (listed.toList.count false) listed a w
 | [],listed,a,S,S1,hs,_,_,_,ga,hp,hk=>by
  simp only [jY,Option.some.injEq] at hp;subst hp;exact hk a listed hs (fun j=>by simp) ga
 | i::l,listed,a,S,S1,hs,hn,hf,hl,ga,hp,hk=>by
  obtain ⟨hsel,o,ho,hb⟩:=A7 (hf i (by simp))
  have hi:i<all.size:=by
   rcases Nat.lt_or_ge i all.size with h | h
   ·exact h
   ·simp [Array.getElem?_eq_none h] at ho
  have hil:i<listed.size:=by omega
  simp only [jY,ho] at hp;unfold ye at hb;split at hb
  case h_2=>cases hb
  rename_i x hop hgd;rw [hop] at hp;simp only at hp;split at hp
  case h_2=>cases hp
  rename_i v hv;simp only [Bool.and_eq_true,List.all_eq_true] at hb;obtain ⟨hb1,Ip⟩:=hb;have hnl:=hl i (by simp)
  have h2:listed.getD i true=false:=by
   unfold cZ at hnl;simp only [Array.getD_eq_getD_getElem?,Array.getElem?_eq_getElem hil,Option.getD_some] at hnl ⊢
   simpa using hnl
  have hcnt:listed.toList.count false=(listed.setIfInBounds i true).toList.count false+1:=by
   have hv:listed.toList[i]'(by simpa using hil)=false:=by
    simp only [Array.getD_eq_getD_getElem?,Array.getElem?_eq_getElem hil,Option.getD_some] at h2
    simpa using h2
   rw [Array.toList_setIfInBounds,List.count_set (by simpa using hil),hv];have hpos:0<listed.toList.count false:=List.count_pos_iff.2 (hv▸List.getElem_mem _);generalize listed.toList.count false=m at hpos;have e1:(false==false)=true:=rfl
   have e2:¬ (true==false)=true:=by decide
   rw [if_pos e1,if_neg e2];omega
  rw [hcnt];have AR:slot o.dst nt:=hall o (by simpa using Array.mem_of_getElem? ho);refine wpAny_first (v:=a.eval x) ho hsel (fun c a w h=>hP c a w _ _ h) _ listed a w (fun j oj hj hne _ hed=>?_) (pV.2 ⟨hi,h2,fun o' gW e he Hb=>?_⟩) (.inl ⟨by simp [Region.wanted,hgd],fun w=>?_⟩) ?_
  ·have:=Ip (j,oj) (by have:=JV (n:=0) (m:=j) (l:=all.toList) (o:=oj) (by simpa using hj);simpa using this)
   simp only [Bool.or_eq_true] at this
   rcases this with (h1 | h1) | h1
   ·exact absurd (Nat.eq_of_beq_eq_true h1) hne
   ·obtain ⟨e,he,Hb⟩:=List.any_eq_true.1 h1
    simp only [Bool.and_eq_true] at Hb;exact absurd (Nat.eq_of_beq_eq_true Hb.2) (hed e (by simpa using he) Hb.1)
   ·exact h1
  ·rw [ho] at gW
   cases gW;have:=hb1 e he;rw [Hb] at this;cases this
  ·obtain ⟨dst,op,ty,pos,dG,gd⟩:=o
   simp only at hop;subst hop;simp [execOp]
  ·refine wL hX hall hP l _ (a.put o.dst (a.eval x)) (S.put o.dst v) S1 (by simp [hs]) (List.nodup_cons.1 hn).2 (fun j hj=>hf j (by simp [hj])) (fun j hj=>?_) (ga.put o.dst AR (dH ga hv)) hp (fun a' jA q1 q2 q3=>hk a' jA q1 (fun j=>?_) q3)
   ·rw [fB hil]
    rintro (e | h)
    ·exact (List.nodup_cons.1 hn).1 (e▸hj)
    ·exact hl j (by simp [hj]) h
   ·rw [q2,fB hil,List.mem_cons]
    constructor
    ·rintro ((e | h) | h)
     ·exact .inr (.inl e)
     ·exact .inl h
     ·exact .inr (.inr h)
    ·rintro (h | e | h)
     ·exact .inl (.inr h)
     ·exact .inl (.inl e)
     ·exact .inr h
theorem ID (hX:jk P X) (hC:Cons P X) (hm:P.follows .mixedOrders=true) {all:Array Oper} {tab:List (Nat×Nat)} {k:St C→Option R} {Q:Exit→Act→World→Prop} {id:Nat} (hall:∀ o,o∈all.toList→slot o.dst nt)
  (hQ:∀ a w,Next X.K w0 nt k r a w→Q .normal a w) (hP:∀ c a w d v,Q (.panic c) (a.put d v) w→Q (.panic c) a w) (hs:cK X.K w0 nt S β fp a w) (h:drun X all tab S k=some r):(Code.region id all true).wp P Q a w:=by
 obtain ⟨hb,h⟩:=az h;split at h
 case h_2=>cases h
 rename_i S1 MM;have hp:=T4 hb;have Ip:=(Bool.and_eq_true ..).mp hb;have hb3:=Ip.2;simp only [HT,Bool.and_eq_true,List.all_eq_true] at hb3
 have hno:∀ i,¬ cZ (Array.replicate all.size false) i:=by
  intro i hi;unfold cZ at hi;simp [Array.getD_eq_getD_getElem?,Array.getElem?_replicate] at hi;split at hi<;>simp at hi
 have hs0:cK X.K w0 nt { S with env:=dA (xn X all.toList) S.env } β fp a { w with drawn:=w.drawn+1 }:=hs.drawn.less _ fun t v ht=>by
  rw [jy] at ht;split at ht
  ·cases ht
  ·exact ht
 have hin:∀ i,i∈(qR X all tab).filter (fun i=> !(iG all).any (Nat.beq i))↔i∈qR X all tab∧i∉iG all:=fun i=>by
  rw [List.mem_filter];refine and_congr Iff.rfl ?_;rw [←Vp (i:=i) (l:=iG all)];cases (iG all).any (Nat.beq i)<;>simp
 refine wp_region_any hm ?_;have key:=wL (P:=P) (w:={ w with drawn:=w.drawn+1 }) hX hall hP (iG all) (Array.replicate all.size false) a _ S1 (by simp) CY (fun i hi=>hi) (fun i _=>hno i) hs0 MM (fun a' jA q1 q2 q3=>?_)
 ·have e:(Array.replicate all.size false).toList.count false=all.size:=by simp
  rw [e] at key;exact key
 have Wu:∀ j,cZ jA j↔j∈iG all:=fun j=>by
  rw [q2];exact ⟨fun h=>h.resolve_left (hno j),.inr⟩
 have hasc:NG (HN (qR X all tab)) all (iL all ((qR X all tab).filter fun i=> !(iG all).any (Nat.beq i))):=uq ((Ao hb3.1).sublist List.filter_sublist);obtain ⟨rest,bt,g2,g3,g4,g5,g6,g7,g8,_,g9⟩:=sJ hp 4096 _ _ [] hasc (fun e he=>(by cases he)) ⟨List.Pairwise.nil,fun e he=>(by cases he),fun e he=>(by cases he)⟩ h
 have hmem:∀ x,x∈iL all ((qR X all tab).filter fun i=> !(iG all).any (Nat.beq i))→¬ cZ jA x.1:=fun x hx hl=>((hin x.1).1 (jR.1 hx).1).2 ((Wu x.1).1 hl)
 refine Qx hX hC hp hall hQ _ jA a' _ rest _ bt [] q1 rfl (fun i o ho hi e he Hb=>?_) ⟨g2,g3,g4,g5,g9,List.Pairwise.nil,fun e he=>(by cases he),fun e he=>⟨fun hi=>?_,fun hi=>(by cases hi)⟩,fun i hi=>?_,fun x hx=>hmem x (g6 x hx),⟨β,fp,q3⟩⟩
 ·obtain ⟨_,o',gW,hfb⟩:=A7 ((Wu i).1 hi)
  rw [ho] at gW;cases gW;unfold ye at hfb;split at hfb
  case h_2=>cases hfb
  simp only [Bool.and_eq_true,List.all_eq_true] at hfb;have:=hfb.1 e he;rw [Hb] at this;cases this
 ·rcases g7 e he with h' | ⟨x,hx,rD⟩
  ·cases h'
  ·exact absurd hi (rD▸hmem x hx)
 ·by_cases hl:cZ jA i
  ·exact .inl hl
  ·obtain ⟨x,hx,hxi⟩:∃ x:Nat×Oper,x∈iL all ((qR X all tab).filter fun i=> !(iG all).any (Nat.beq i))∧x.1=i:=⟨(i,all[i]),jR.2 ⟨(hin i).2 ⟨Vp.1 (hb3.2 i (tT hi)),fun hf=>hl ((Wu i).2 hf)⟩,by simp [hi]⟩,rfl⟩
   rcases g8 x hx with h' | ⟨e,he,hex⟩
   ·exact .inr (.inr ⟨x,h',by omega⟩)
   ·exact .inr (.inl ⟨e,he,by omega⟩)
theorem cK.know {K:Cd C} (h:cK K w0 nt S β fp a w) {t:Nat} {b:Bool} (hv:a.tmps.getD t undef = .bool b):cK K w0 nt { S with env:=(t,.one (.bool b))::S.env } β fp a w:=by
 refine ⟨h.below,h.defers,h.size,h.fresh,h.eH,h.aj,fun t' v ht=>?_⟩;have nq:lk ((t,.one (.bool b))::S.env) t'=some v:=ht;rw [aQ] at nq;split at nq
 ·rename_i e;cases nq;subst e;exact hv
 ·exact h.env t' v nq
def post (K:Cd C) (w0:World) (nt:Nat) (k:Ex→St C→Option R) (r:R):Exit→Act→World→Prop
 | .normal,a,w=>∃ S',nR K w0 nt S' a w∧k .norm S'=some r
 | .exit id,a,w=>∃ S',nR K w0 nt S' a w∧k (.exit id) S'=some r
 | .ret,a,w=>∃ S',nR K w0 nt S' a w∧k .ret S'=some r
 | _,_,_=>False
theorem sN {qw:List Nat} {rec:St C→Option R} (h:fR qw rec S=some r):∃ S',S.canon qw=some S'∧rec S'=some r:=by
 unfold fR at h;split at h
 ·rename_i S' hS;rw [lu] at h;exact ⟨S',hS,h⟩
 ·cases h
theorem pU (hX:jk P X) (hC:Cons P X) (hm:P.follows .mixedOrders=true) (F:Cf):∀ (c:Code) (cur:Nat) (S:St C) (a:Act) (w:World) (k:Ex→St C→Option R),iE nt c=true→nR X.K w0 nt S a w →
  run X F c cur S k=some r→c.wp P (post X.K w0 nt k r) a w:=by
 intro c
 induction c with
 | skip=>
  intro cur S a w k _ hs h;exact Go.wp_skip ⟨S,hs,h⟩
 | label l=>
  intro cur S a w k _ hs h;exact Go.wp_label ⟨S,hs,h⟩
 | exit id=>
  intro cur S a w k _ hs h;exact Go.wp_exit ⟨S,hs,h⟩
 | ret=>
  intro cur S a w k _ hs h;exact Go.wp_ret ⟨S,hs,h⟩
 | region id ops draw=>
  intro cur S a w k hb ⟨β,fp,hs⟩ h;simp only [run,lu] at h
  cases draw with
  | true=>
   refine ID hX hC hm (vQ hb) (k:=fun S'=>k .norm (S'.tidy F.keep)) (r:=r) ?_ (fun _ _ _ _ _ h=>h.elim) hs h
   rintro a' w' ⟨S',⟨eG,eD,hs'⟩,hk⟩
   exact ⟨_,⟨eG,eD,hs'.tidy F.keep⟩,hk⟩
  | false=>
   refine wp_region_list (ue hX hC (vQ hb) (k:=fun S'=>k .norm (S'.tidy F.keep)) (r:=r) ?_ ops.toList S β fp a w (vQ hb) hs h)
   rintro a' w' ⟨S',⟨eG,eD,hs'⟩,hk⟩
   exact ⟨_,⟨eG,eD,hs'.tidy F.keep⟩,hk⟩
 | seq x y ihx ihy=>
  intro cur S a w k hb hs h;simp only [iE,Bool.and_eq_true] at hb;refine wp_seq (Go.wp_mono (ihx cur S a w _ hb.1 hs h) ?_)
  rintro (_ | _ | _ | _ | _ | _) a' w' hp
  ·obtain ⟨S',hs',hk⟩:=hp
   exact ihy cur S' a' w' k hb.2 hs' hk
  ·exact hp
  ·exact hp.elim
  ·exact hp
  ·exact hp.elim
  ·exact hp.elim
 | cond c x y ihx ihy=>
  intro cur S a w k hb ⟨β,fp,hs⟩ h;simp only [iE,Bool.and_eq_true] at hb
  cases c with
  | tmp t=>
   simp only [run] at h;split at h
   ·rename_i b hb'
    have hv:a.tmps.getD t undef = .bool b:=hs.env t _ hb';refine wp_cond_split (t:=b) hv (fun e=>?_) (fun e=>?_)
    ·subst e
     exact ihx cur _ a w k hb.1 ⟨β,fp,hs.know hv⟩ h
    ·subst e
     exact ihy cur _ a w k hb.2 ⟨β,fp,hs.know hv⟩ h
   ·cases h
  | _=>cases h
 | block id c ih=>
  intro cur S a w k hb hs h;refine wp_block (Go.wp_mono (ih id S a w _ hb hs h) ?_)
  rintro (_ | _ | _ | _ | _ | _) a' w' hp
  ·exact hp
  ·rename_i j
   obtain ⟨S',hs',hk⟩:=hp;simp only [bW] at hk;simp only [Exit.inBlock]
   by_cases e:j=id
   ·subst e
    rw [if_pos rfl];rw [Nat.beq_refl] at hk;exact ⟨S',hs',hk⟩
   ·rw [if_neg e]
    have:Nat.beq j id=false:=by
     cases hq:Nat.beq j id with
     | false=>rfl
     | true=>exact absurd (Nat.eq_of_beq_eq_true hq) e
    rw [this] at hk;exact ⟨S',hs',hk⟩
  ·exact hp.elim
  ·exact hp
  ·exact hp.elim
  ·exact hp.elim
 | loop c ih=>
  intro cur S a w k hb ⟨β,fp,hs⟩ h;obtain ⟨S1,hc,h⟩:=sN h;generalize F.qw cur S=qw at hc h
  have key:∀ (n:Nat) (S:St C) (a:Act) (w:World),nR X.K w0 nt S a w→iter (fun rec S=>run X F c cur S (cH rec k)) qw n S=some r→Code.rounds P c (post X.K w0 nt k r) n a w:=by
   intro n
   induction n with
   | zero=>intro S a w _ h;cases h
   | succ n ihn=>
    intro S a w hs h;refine Go.wp_mono (ih cur S a w _ hb hs h) ?_
    rintro (_ | _ | _ | _ | _ | _) a' w' hp
    ·obtain ⟨S',⟨eG,eD,hs'⟩,hk⟩:=hp
     obtain ⟨S2,hc2,h2⟩:=sN hk;exact ihn S2 a' w' (py hs' hc2) h2
    ·exact hp
    ·exact hp.elim
    ·exact hp
    ·exact hp.elim
    ·exact hp.elim
  exact wp_loop_rounds F.N (key F.N S1 a w (py hs hc) h)
 | scope c ih=>
  intro cur S a w k hb hs h;refine wp_scope_straight (Go.wp_mono (ih cur S a w k hb hs h) ?_)
  rintro (_ | _ | _ | _ | _ | _) a' w' hp
  ·exact hp
  ·exact hp
  ·exact hp.elim
  ·exact hp
  ·exact hp.elim
  ·exact hp.elim
 | _=>
  intro cur S a w k _ hs h;cases h
end
section
variable {Ty:Type} [DecidableEq Ty] {C:Ty→Type}
variable {P:Program} {X:Cx C} {w0 w:World} {nt:Nat} {S:St C} {β:Nat→Value} {fp:Nat→Nat→Prop} {a:Act} {R:Type} {r:R}
def jK (tmps:Array Value):ResultVar→Sem Value
 | .tmp t=>pure (tmps.getD t undef)
 | .cell a t=>do loadVar t (←asAddr (tmps.getD a undef))
theorem nB (fn:Func) (tmps:Array Value):results fn tmps=(do
  let vs ← fn.results.toList.mapM (jK tmps)
  pure (match vs with
   | [v]=>v
   | vs=>.tuple vs.toArray)):=by
 have e:results fn tmps=(do
  let vs ← fn.results.mapM (jK tmps)
  pure (if h:vs.size=1 then vs[0] else .tuple vs)):=by
  unfold results
  congr 1
 rw [e,Array.mapM_eq_mapM_toList];simp only [map_eq_pure_bind,bind_assoc,pure_bind]
 congr 1
 funext l
 congr 1
 match l with
 | []=>rfl
 | [v]=>rfl
 | v::v'::r=>simp
theorem rP (hX:jk P X) (hs:cK X.K w0 nt S β fp a w):∀ (l:List ResultVar) (rs:List (Bool×List (Lf C))),gR X S l=some rs →
  ∃ us:List Value,fO rs=true∧cg X.K w S.aj β fp (aH S.aj fp w) (flatten rs) us∧(l.mapM (jK a.tmps)).run P w = .ok (dh rs us) w:=by
 intro l
 induction l with
 | nil=>
  intro rs h;simp only [gR,Option.some.injEq] at h;subst h;exact ⟨[],rfl,⟨rfl,fun i l h=>by simp [flatten] at h⟩,by simp [dh]⟩
 | cons x l ih=>
  intro rs h
  have one:∀ (c:Lf C) (rs':List (Bool×List (Lf C))) (u:Value),gR X S l=some rs'→rs=(false,[c])::rs'→cI X.K w S.aj β fp (aH S.aj fp w) c u→(jK a.tmps x).run P w = .ok u w →
    ∃ us:List Value,fO rs=true∧cg X.K w S.aj β fp (aH S.aj fp w) (flatten rs) us∧((x::l).mapM (jK a.tmps)).run P w = .ok (dh rs us) w:=by
   intro c rs' u hr e hu hrun;subst e;obtain ⟨us,h1,h2,h3⟩:=ih rs' hr;refine ⟨u::us,by simpa [fO] using h1,⟨by simp [flatten,h2.1],fun i l hi=>?_⟩,?_⟩
   ·cases i with
    | zero=>simp [flatten] at hi;subst hi;exact hu
    | succ i=>exact h2.2 i l (by simpa [flatten] using hi)
   ·rw [List.mapM_cons]
    simp [hrun,h3,dh,ml]
  have many:∀ (cs:List (Lf C)) (rs':List (Bool×List (Lf C))) (zk:List Value),gR X S l=some rs'→rs=(true,cs)::rs'→cg X.K w S.aj β fp (aH S.aj fp w) cs zk→(jK a.tmps x).run P w = .ok (.agg zk.toArray) w →
    ∃ us:List Value,fO rs=true∧cg X.K w S.aj β fp (aH S.aj fp w) (flatten rs) us∧((x::l).mapM (jK a.tmps)).run P w = .ok (dh rs us) w:=by
   intro cs rs' zk hr e hu hrun;subst e;obtain ⟨us,h1,h2,h3⟩:=ih rs' hr;refine ⟨zk++us,by simpa [fO] using h1,⟨by simp [flatten,h2.1,hu.1],fun i l hi=>?_⟩,?_⟩
   ·simp only [flatten] at hi
    by_cases hlt:i<cs.length
    ·rw [List.getElem?_append_left hlt] at hi
     have:=hu.2 i l hi
     have e:(zk++us).getD i undef=zk.getD i undef:=by
      simp [List.getD,List.getElem?_append_left (by rw [hu.1];exact hlt:i<zk.length)]
     rw [e];exact this
    ·have hge:cs.length≤i:=Nat.le_of_not_lt hlt
     rw [List.getElem?_append_right hge] at hi;have:=h2.2 _ l hi
     have e:(zk++us).getD i undef=us.getD (i-cs.length) undef:=by
      simp [List.getD,List.getElem?_append_right (by rw [hu.1];exact hge:zk.length≤i),hu.1]
     rw [e];exact this
   ·rw [List.mapM_cons]
    have e1:(zk++us).take cs.length=zk:=by rw [←hu.1];simp
    have e2:(zk++us).drop cs.length=us:=by rw [←hu.1];simp
    simp [hrun,h3,dh,ml,e1,e2]
  cases x with
  | tmp t=>
   simp only [gR] at h;split at h
   ·rename_i c hc
    split at h
    ·rename_i rs' hr
     cases h;exact one c rs' _ hr rfl (hs.env t _ hc) rfl
    ·cases h
   ·rename_i cs hc
    split at h
    ·rename_i rs' hr
     cases h;obtain ⟨zk,e,h0⟩:=hs.env t _ hc;exact many cs rs' zk hr rfl h0 (by simp [jK,e])
    ·cases h
   ·cases h
  | cell b t=>
   simp only [gR] at h;split at h
   ·rename_i c tk hc ht
    obtain ⟨ls,p,hk,hv,hcell⟩:=sM hs (hs.env b _ hc) h;split at hk
    ·rename_i c1 rs' hm hr
     cases hk;obtain ⟨u,hu,hok⟩:=vV (hX.tk _ _ ht) hm hcell;exact one c1 rs' u hr rfl hok (by simp [jK,hv,asAddr,hu])
    ·rename_i c1 rs' hm hr
     cases hk;obtain ⟨u,hu,zk,e,h0⟩:=vV (hX.tk _ _ ht) hm hcell;subst e;exact many c1 rs' zk hr rfl h0 (by simp [jK,hv,asAddr,hu])
    ·cases hk
   ·cases h
theorem nC:∀ (rs:List (Bool×List (Lf C))) (ls:List (Lf C)),ls.length=(flatten rs).length→flatten (reshape rs ls)=ls∧eT (reshape rs ls)=eT rs
 | [],ls,h=>by
  simp [flatten] at h;subst h;exact ⟨rfl,rfl⟩
 | (b,l)::r,ls,h=>by
  simp only [flatten,List.length_append] at h;obtain ⟨h1,h2⟩:=nC r (ls.drop l.length) (by simp;omega);refine ⟨by simp [reshape,flatten,h1],?_⟩;simp only [reshape,eT,h2,List.cons.injEq,Prod.mk.injEq,true_and,and_true];simp;omega
theorem Ud (hs:cK X.K w0 nt S β fp a w) {rs rs':List (Bool×List (Lf C))} (ho:outs S rs=some rs') (hok:fO rs=true) {us:List Value} (hl:cg X.K w S.aj β fp (aH S.aj fp w) (flatten rs) us) :
  K7 X.K w0 w rs' (pack rs us):=by
 unfold outs at ho;split at ho
 ·rename_i ls' S' ha
  cases ho;obtain ⟨_,_,_,g3,G,g4,g5,g6⟩:=qi hs (flatten rs) us S.aj ls' S' false (fun _ _ h=>h) ha hl;obtain ⟨e1,e2⟩:=nC rs ls' g3;refine ⟨us,G,(lE e2).symm,by rw [e1,g3,hl.1],by rw [ic e2];exact hok,fun m k hk=>?_,fun m m' k h1 h2=>g5 m m' k h1 h2,fun m l hm=>?_⟩
  ·obtain ⟨id,ob,h1,h2,h3⟩:=g4 m k hk
   exact hs.fresh id ob k h1 h3
  ·rw [e1] at hm
   exact (g6 m l hm).1 rfl
 ·cases ho
theorem m7:∀ (vs:List (SV C)) (n t:Nat) (v:SV C),lk (iY n vs) t=some v→n≤t∧vs[t-n]?=some v
 | [],n,t,v,h=>by simp [iY,lk] at h
 | x::vs,n,t,v,h=>by
  simp only [iY,aQ] at h
  by_cases e:t=n
  ·subst e
   simp at h;subst h;exact ⟨Nat.le_refl _,by simp⟩
  ·rw [if_neg e] at h
   obtain ⟨h1,h2⟩:=m7 vs (n+1) t v h;refine ⟨by omega,?_⟩
   have e:t-n=(t-(n+1))+1:=by omega
   rw [e]
   simpa using h2
theorem Js {K:Cd C} {aj:cm C} {F:Nat→Prop} {l:Lf C} {u:Value} (h:gU K w F l u):cI K w aj β fp F l u:=by
 cases h with
 | int=>rfl
 | bool=>rfl
 | str=>rfl
 | dP=>rfl
 | row t xs A c a U h1 h2 h3 h4=>exact .row t xs A c a U h1 h2 h3 h4
theorem LQ {K:Cd C} {vs:List (SV C)} {us:List Value} (hi:K.inv w) (hl:us.length=vs.length) (hn:vs.length≤nt)
  (ha:∀ (i:Nat) (v:SV C),vs[i]?=some v→yT K w (fun k=>k<w.heap.size) v (us.getD i undef)) :
  nR K w nt (start vs) { tmps:=us.toArray++Array.replicate (nt-us.toArray.size) undef,defers:=[] } w:=by
 refine ⟨fun _=>undef,fun _ _=>False,Below.refl _ _,⟨rfl,hi⟩,by simp;omega,fun id ob k h=>by simp [start,lk] at h,fun id gN ob dR k h=>by simp [start,lk] at h,fun id ob h=>by simp [start,lk] at h,fun t v h=>?_⟩;obtain ⟨_,h⟩:=m7 vs 0 t v h;simp only [Nat.sub_zero] at h
 have hlt:t<us.length:=by
  rw [hl]
  rcases Nat.lt_or_ge t vs.length with h' | h'
  ·exact h'
  ·simp [List.getElem?_eq_none h'] at h
 have e:(us.toArray++Array.replicate (nt-us.toArray.size) undef).getD t undef=us.getD t undef:=by
  simp [Array.getD_eq_getD_getElem?,Array.getElem?_append,hlt,List.getD]
 show dq K w _ _ _ _ v ((us.toArray++Array.replicate (nt-us.toArray.size) undef).getD t undef);rw [e]
 have hst:∀ k,k<w.heap.size→aH (start vs).aj (fun _ _=>False) w k:=fun k hk=>⟨hk,fun _ _ _ h=>h⟩
 have:=ha t v h
 cases v with
 | one l=>
  cases l with
  | eS t x o=>obtain ⟨p,U,h1,h2,h3,h4⟩:=this;exact ⟨p,U,h1,hst _ h2,h3,fun i l hi=>(h4 i l hi).mono hst⟩
  | _=>exact (show cI K w (start vs).aj (fun _=>undef) (fun _ _=>False) _ _ (us.getD t undef) from Js (this.2.mono hst))
 | agg ls=>
  obtain ⟨np,e,h1,h2⟩:=this;exact ⟨np,e,h1,fun i l hi=>Js ((h2 i l hi).mono hst)⟩
 | _=>exact this.elim
theorem Qo (hX:jk P X) (hC:Cons P X) (hm:P.follows .mixedOrders=true) (F:Cf) {f:Nat} {fn:Func} {c:Code} (hf:P.funcs[f]?=some fn) (hb:fn.body=some c) (hB:iE fn.ntmps c=true) {vs:List (SV C)} {us:List Value}
  (hi:X.K.inv w) (hl:us.length=vs.length) (hn:vs.length≤fn.ntmps) (ha:∀ (i:Nat) (v:SV C),vs[i]?=some v→yT X.K w (fun k=>k<w.heap.size) v (us.getD i undef))
  {k:List (Bool×List (Lf C))→Option R} (h:db X F fn vs k=some r) :
  Calls P f us.toArray w fun e w'=>∃ v,e = .returned v∧Below w.heap.size w w'∧∃ rs,k rs=some r∧K7 X.K w w' rs v:=by
 unfold db at h;rw [hb] at h;refine calls_of_wp hf hb (Go.wp_mono (pU hX hC hm F c 0 _ _ w _ hB (LQ hi hl hn ha) h) ?_)
 have fin:∀ (a:Act) (w':World) (S:St C),nR X.K w fn.ntmps S a w'→(match gR X S fn.results.toList with
   | some rs=>match outs S rs with
    | some rs'=>k rs'
    | none=>none
   | none=>none)=some r→a.defers=[]∧∃ v,(results fn a.tmps).run P w' = .ok v w'∧∃ N3,Ending.returned v = .returned N3∧Below w.heap.size w w'∧∃ rs,k rs=some r∧K7 X.K w w' rs N3:=by
  intro a w' S ⟨β,fp,hs⟩ h;split at h
  ·rename_i rs hr
   split at h
   ·rename_i rs' ho
    obtain ⟨np,h1,h2,h3⟩:=rP hX hs _ rs hr;refine ⟨hs.defers.1,pack rs np,?_,_,rfl,hs.below,rs',h,Ud hs ho h1 h2⟩;rw [nB];simp only [Sem.run_bind,h3,Result.andThen_ok];rfl
   ·cases h
  ·cases h
 rintro (_ | _ | _ | _ | _ | _) a' w' hp
 ·obtain ⟨S',hs',hk⟩:=hp;exact fin a' w' S' hs' hk
 ·obtain ⟨S',hs',hk⟩:=hp;cases hk
 ·exact hp.elim
 ·obtain ⟨S',hs',hk⟩:=hp;exact fin a' w' S' hs' hk
 ·exact hp.elim
 ·exact hp.elim
theorem Vh (hX:jk P X) (hC:Cons P X) (hm:P.follows .mixedOrders=true) {f:Nat} {fn:Func} {c:Code} (hf:P.funcs[f]?=some fn) (hb:fn.body=some c) (hB:iE fn.ntmps c=true) (hname:fn.name ≠ "runtime.NumGoroutine") (co:iu C)
  (dec:List (Bool×List (Lf C))→Option co.R0) (hd:∀ rs r0,dec rs=some r0→rs=co.ret r0)
  (h:∀ vs r0,co.g vs=some r0→vs.length≤fn.ntmps∧∃ F:Cf,db X F fn vs dec=some r0) (UJ:co.nz=false:=by rfl):cL P X.K f co:=by
 refine ⟨⟨fn,hf,by rw [hb];rfl,hname⟩,fun w vs us r0 hi hl ha hg=>?_⟩;obtain ⟨hn,F,hr⟩:=h vs r0 hg
 refine (Qo hX hC hm F hf hb hB hi hl hn ha hr).mono fun e w' ⟨v,he,hbel,rs,hk,hres⟩=>⟨v,he,hbel,?_,fun hz=>by rw [UJ] at hz;cases hz⟩
 rw [hd rs r0 hk] at hres;exact hres
def bS {A:Type} (eR:(A→Option R)→A→Option R):Nat→A→Option R
 | 0,_=>none
 | n+1,x=>eR (bS eR n) x
theorem iter_eq {A:Type} {f:(St C→Option R)→St C→Option R} {qw:List Nat} (st:A→St C) (eR:(A→Option R)→A→Option R)
  (h:∀ rec x,f (fR qw rec) (st x)=eR (fun x=>rec (st x)) x):∀ n x,iter f qw n (st x)=bS eR n x
 | 0,_=>rfl
 | n+1,x=>by
  rw [iter,h,bS]
  congr 1
  funext y
  exact iter_eq st eR h n y
end
section
variable {Ty:Type} [DecidableEq Ty] {C:Ty→Type}
variable {P:Program} {K:Cd C}
theorem cQ {T:TypeId} {z:ZL Ty} {d:TypeDesc} (h1:(P.info? T).map (fun i=>i.size)=some 1) (h2:(P.info? T).bind (fun i=>i.zero)=some z.val) (h3:P.underlying T=some d) (h4:z.desc K d):cw P K T (.one z):=by
 cases hi:P.info? T with
 | none=>rw [hi] at h1;cases h1
 | some i=>
  rw [hi] at h1 h2;exact ⟨⟨i,hi,by simpa using h1,h2⟩,d,h3,h4⟩
def Iy (P:Program) (f:Field) (x:Nat×Nat×Bool):Bool:=
 Nat.beq f.offset x.1&&(match P.info? f.type with
  | some i=>Nat.beq i.size x.2.1
  | none=>false)&&Nat.ble 1 x.2.1&&(match P.underlying f.type with
  | some (.struct _)=>x.2.2
  | some (.array ..)=>x.2.2
  | some _=> !x.2.2
  | none=>false)
def wg (P:Program):List Field→List (Nat×Nat×Bool)→Bool
 | [],[]=>true
 | f::l,x::r=>Iy P f x&&wg P l r
 | _,_=>false
theorem yh:∀ {l:List Field} {fs:List (Nat×Nat×Bool)},wg P l fs=true→l.length=fs.length∧∀ (j:Nat) (x:Nat×Nat×Bool),fs[j]?=some x→∃ f,l[j]?=some f∧Iy P f x=true
 | [],[],_=>⟨rfl,fun j x h=>by simp at h⟩
 | [],_::_,h=>by cases h
 | _::_,[],h=>by cases h
 | f::l,x::r,h=>by
  simp only [wg,Bool.and_eq_true] at h;obtain ⟨h1,h2⟩:=yh h.2;refine ⟨by simp [h1],fun j y hj=>?_⟩
  cases j with
  | zero=>simp at hj;subst hj;exact ⟨f,rfl,h.1⟩
  | succ j=>exact h2 j y (by simpa using hj)
def Jf (P:Program) (T:TypeId) (fs:List (Nat×Nat×Bool)):Bool:=match P.underlying T with
 | some (.struct fields)=>wg P fields.toList fs
 | _=>false
theorem fo {T:TypeId} {fs:List (Nat×Nat×Bool)} {zs:List (ZL Ty)} (h1:(P.info? T).map (fun i=>i.size)=some zs.length) (h2:(P.info? T).bind (fun i=>i.zero)=some (.agg (zs.map ZL.val).toArray))
  (h3:Jf P T fs=true):cw P K T (.agg fs zs):=by
 cases hi:P.info? T with
 | none=>rw [hi] at h1;cases h1
 | some i=>
  rw [hi] at h1 h2;refine ⟨⟨i,hi,by simpa using h1,h2⟩,?_⟩;unfold Jf at h3;split at h3
  ·rename_i fields hu
   obtain ⟨g1,g2⟩:=yh h3;refine ⟨fields,hu,by simpa using g1,fun j off n ag hj=>?_⟩;obtain ⟨f,hf,hb⟩:=g2 j _ hj;simp only [Iy,Bool.and_eq_true] at hb;obtain ⟨⟨⟨b1,b2⟩,b3⟩,b4⟩:=hb
   cases hfi:P.info? f.type with
   | none=>rw [hfi] at b2;cases b2
   | some fi=>
    rw [hfi] at b2;refine ⟨f,fi,by simpa using hf,Nat.eq_of_beq_eq_true b1,hfi,Nat.eq_of_beq_eq_true b2,Nat.le_of_ble_eq_true b3,?_⟩
    cases hd:P.underlying f.type with
    | none=>rw [hd] at b4;cases b4
    | some d=>
     rw [hd] at b4;refine ⟨d,rfl,?_⟩;cases d<;>simp at b4<;>simp [b4]
  ·cases h3
def TB:Lf C→Option Value
 | .int k n=>some (.int k n)
 | .bool b=>some (.bool b)
 | .str s=>some (.string s)
 | .row _ []=>some (.slice none 0 0)
 | .dP f=>some (yc f)
 | _=>none
theorem mY {t:Ty} {z:Value} (h1:(P.info? (K.tid t)).map (fun i=>(i.size,i.bytes))=some (K.sz t,K.bytes t)) (h2:0<K.bytes t) (h3:(P.info? (K.tid t)).bind (fun i=>i.zero)=some z)
  (h4:(K.enc t (K.zero t)).map TB=z.cells.toList.map some):yR P K t:=by
 cases hi:P.info? (K.tid t) with
 | none=>rw [hi] at h1;cases h1
 | some i=>
  rw [hi] at h1 h3;simp only [Option.map_some,Option.some.injEq,Prod.mk.injEq] at h1
  have hlen:z.cells.size=K.sz t:=by
   have:=congrArg List.length h4
   simpa [K.gH] using this.symm
  refine ⟨i,z,hi,h1.1,h1.2,h2,h3,hlen,fun j l hj w base F=>?_⟩
  have hz:TB l=some (z.cells.getD j undef):=by
   have:=congrArg (fun x=>x[j]?) h4;simp only [List.getElem?_map,hj,Option.map_some] at this
   have hjl:j<z.cells.size:=by
    have:j<(K.enc t (K.zero t)).length:=by
     rcases Nat.lt_or_ge j (K.enc t (K.zero t)).length with h | h
     ·exact h
     ·simp [List.getElem?_eq_none h] at hj
    rw [hlen,← K.gH t (K.zero t)];exact this
   rw [Array.getElem?_toList,Array.getElem?_eq_getElem hjl] at this;rw [Array.getD_eq_getD_getElem?,Array.getElem?_eq_getElem hjl]
   simpa using this
  cases l with
  | int k n=>simp only [TB,Option.some.injEq] at hz;rw [←hz];exact .int ..
  | bool b=>simp only [TB,Option.some.injEq] at hz;rw [←hz];exact .bool ..
  | str s=>simp only [TB,Option.some.injEq] at hz;rw [←hz];exact .str ..
  | dP f=>simp only [TB,Option.some.injEq] at hz;rw [←hz];exact .dP ..
  | row t' xs=>
   cases xs with
   | nil=>
    simp only [TB,Option.some.injEq] at hz;rw [←hz];exact .row _ t' [] _ [] (fun _ _ _=>False) (World.ownsRow_nil ..) (fun g hg=>by simp [Value.ownBlock] at hg) (fun _ _ _ h=>h.elim) (fun _ _ _ _ _ h=>h.elim) (fun j hj=>absurd hj (by simp))
   | cons x xs=>simp [TB] at hz
  | _=>simp [TB] at hz
def aw:Code→List Nat→Code
 | .seq a _,0::r=>aw a r
 | .seq _ b,1::r=>aw b r
 | .block _ c,_::r=>aw c r
 | .loop c,_::r=>aw c r
 | .scope c,_::r=>aw c r
 | .cond _ a _,0::r=>aw a r
 | .cond _ _ b,1::r=>aw b r
 | c,_=>c
def av (f:Func):Code:=match f.body with
 | some c=>c
 | none=>.skip
def dM {R:Type} (X:Cx C) (fn:Func) (k:List (Bool×List (Lf C))→Option R) (e:Ex) (S:St C):Option R:=match e with
 | .exit _=>none
 | _=>match gR X S fn.results.toList with
  | some rs=>match outs S rs with
   | some rs'=>k rs'
   | none=>none
  | none=>none
end
section
variable {Ty:Type} [DecidableEq Ty] {C:Ty→Type}
variable {P:Program} {K:Cd C} {w:World}
def isFn:Option TypeDesc→Bool
 | some (.func ..)=>true
 | _=>false
def isIf:Option TypeDesc→Bool
 | some (.interface _)=>true
 | _=>false
theorem ji {T:TypeId} (h1:(P.info? T).map (fun i=>i.size)=some 1) (h2:(P.info? T).bind (fun i=>i.zero)=some .nilFunc) (h3:isFn (P.underlying T)=true):cw P K T (.one .dP):=by
 cases h:P.underlying T with
 | none=>rw [h] at h3;cases h3
 | some d=>
  rw [h] at h3
  cases d with
  | func p r v=>exact cQ h1 h2 h ⟨p,r,v,rfl⟩
  | _=>cases h3
theorem LJ {T:TypeId} (h1:(P.info? T).map (fun i=>i.size)=some 1) (h2:(P.info? T).bind (fun i=>i.zero)=some .nilIface) (h3:isIf (P.underlying T)=true):cw P K T (.one (.nk .mF)):=by
 cases h:P.underlying T with
 | none=>rw [h] at h3;cases h3
 | some d=>
  rw [h] at h3
  cases d with
  | interface ms=>exact cQ h1 h2 h ⟨ms,rfl⟩
  | _=>cases h3
theorem mp_of {l:List (Nat×MT Ty)} (h:∀ x,x∈l→Gg P K x.1 x.2):∀ T m,lk l T=some m→Gg P K T m:=by
 induction l with
 | nil=>intro T m hm;cases hm
 | cons x l ih=>
  intro T m hm;obtain ⟨n,v⟩:=x;rw [aQ] at hm;split at hm
  ·rename_i e;cases hm;subst e;exact h (T,m) (by simp)
  ·exact ih (fun y hy=>h y (by simp [hy])) T m hm
def allK (P:Program) (K:Cd C):List (Nat×TK Ty)→Prop
 | []=>True
 | x::r=>cw P K x.1 x.2∧allK P K r
theorem Oa:∀ {l:List (Nat×TK Ty)},allK P K l→∀ T k,lk l T=some k→cw P K T k
 | [],_,T,k,h=>by cases h
 | (n,v)::l,ha,T,k,h=>by
  rw [aQ] at h;split at h
  ·rename_i e;cases h;subst e;exact ha.1
  ·exact Oa ha.2 T k h
def lkS:List (Nat×String×Nat)→Nat→String→Option Nat
 | [],_,_=>none
 | (T,s,f)::r,U,t=>cond (Nat.beq U T&&decide (t=s)) (some f) (lkS r U t)
def WM:Option TypeDesc→Bool
 | some (.pointer _)=>true
 | some _=>false
 | none=>true
def Px (P:Program) (x:Nat×String×Nat):Bool:=match P.info? x.1 with
 | some i=>match i.methods.find? (·.name==x.2.1) with
  | some m=>m.path.isEmpty&&(match m.func with
   | some (g,false)=>Nat.beq g x.2.2 && !WM (P.underlying x.1)
   | some (g,true)=>Nat.beq g x.2.2&&(P.underlying x.1).isSome&&WM (P.underlying x.1)
   | none=>false)
  | none=>false
 | none=>false
theorem Pw {x:Nat×String×Nat} (h:Px P x=true) (n:Nat) (v:Value) (w:World):(method (n+1) x.1 v x.2.1).run P w = .ok (x.2.2,v) w:=by
 obtain ⟨T,s,f⟩:=x;unfold Px at h;simp only at h;split at h
 case h_2=>cases h
 rename_i i hi;split at h
 case h_2=>cases h
 rename_i m hm;simp only [Bool.and_eq_true] at h;obtain ⟨h1,h2⟩:=h
 have hp:m.path = #[]:=by simpa using h1
 have eN:(typeInfo T).run P w = .ok i w:=by simp [typeInfo,hi]
 have hf:(follow m.path.toList T (.val v)).run P w = .ok (T,.val v) w:=by rw [hp];rfl
 unfold method;simp only [Sem.run_bind,eN,Result.andThen_ok,hm,hf];split at h2
 ·rename_i g hg
  simp only [Bool.and_eq_true] at h2;have e:=Nat.eq_of_beq_eq_true h2.1;subst e;rw [hg]
  cases hd:P.underlying T with
  | none=>rw [hd] at h2;cases h2.2
  | some d=>
   have:(receiverAt T (.val v) false (if m.path.isEmpty=true then some ((s.splitOn ".").getLastD s) else none)).run P w = .ok v w:=by
    unfold receiverAt;simp only [Sem.run_bind,bn hd,Result.andThen_ok];rw [hd] at h2
    cases d<;>first | rfl | cases h2.2
   simp only [Sem.run_bind,this,Result.andThen_ok];rfl
 ·rename_i g hg
  simp only [Bool.and_eq_true] at h2;have e:=Nat.eq_of_beq_eq_true h2.1.1;subst e;rw [hg]
  cases hd:P.underlying T with
  | none=>rw [hd] at h2;cases h2.1.2
  | some d=>
   have:(receiverAt T (.val v) true (if m.path.isEmpty=true then some ((s.splitOn ".").getLastD s) else none)).run P w = .ok v w:=by
    unfold receiverAt;simp only [Sem.run_bind,bn hd,Result.andThen_ok];rw [hd] at h2
    cases d<;>first | rfl | cases h2.2
   simp only [Sem.run_bind,this,Result.andThen_ok];rfl
 ·cases h2
theorem Ut {l:List (Nat×String×Nat)} (h:l.all (Px P)=true):∀ T name f,lkS l T name=some f→∀ v w,(method (P.types.size+Made.depth) T v name).run P w = .ok (f,v) w:=by
 intro T name f hf v w
 have hd:0<Made.depth:=by decide
 have hn:∃ n,P.types.size+Made.depth=n+1:=⟨P.types.size+Made.depth-1,by omega⟩;obtain ⟨n,hn⟩:=hn;rw [hn];clear hn
 induction l with
 | nil=>cases hf
 | cons x l ih=>
  simp only [List.all_cons,Bool.and_eq_true] at h;obtain ⟨T',s,f'⟩:=x;simp only [lkS] at hf
  cases hb:Nat.beq T T'&&decide (name=s) with
  | true=>
   rw [hb] at hf;cases hf;simp only [Bool.and_eq_true,decide_eq_true_eq] at hb;have e:=Nat.eq_of_beq_eq_true hb.1;obtain ⟨_,rfl⟩:=hb;subst e;exact Pw h.1 n v w
  | false=>rw [hb] at hf;exact ih h.2 hf
end
section
variable {Ty:Type} [DecidableEq Ty] {C:Ty→Type}
variable {P:Program} {X:Cx C} {w0 w:World} {nt:Nat} {S:St C} {β:Nat→Value} {fp:Nat→Nat→Prop} {a:Act} {R:Type} {r:R}
section
variable {K:Cd C} {kp:Nat→Prop} {kh:Nat→Option Obj} {hd:Nat→Value}
theorem C6 (h:Cons P X):Cons P (X.gh kp kh hd):=⟨fun f c hc=>con_gh (h.1 f c hc),fun f c hc=>Vf (h.2.1 f c hc),fun f I hI=>ZP (h.2.2 f I hI)⟩
end
def GB:Nat:=90000
def A0:Nat:=50000000
def sv1:Bool×List (Lf C)→SV C
 | (false,l::_)=>.one l
 | (_,ls)=>.agg ls
def Fk:Nat→List (Lf C)→List (Nat×SV C)
 | _,[]=>[]
 | m,.row _ _::r=>(GB+1+m,.jo (A0+m) m)::Fk (m+1) r
 | m,_::r=>Fk (m+1) r
def Ca (rs:List (Bool×List (Lf C))):St C:={ env:=iY 0 ((bN A0 rs).1.map sv1)++(GB,.frame)::Fk 0 (flatten rs),aj:=(bN A0 rs).2,base:=0 }
def roots (S:St C):Nat→List Bool→Option (List (Lf C))
 | _,[]=>some []
 | m,true::r=>match lk S.env (GB+1+m) with
  | some (.jo id j)=>cond (Nat.beq j m) (match roots S (m+1) r with
   | some l=>some (.ref id []::l)
   | none=>none) none
  | _=>none
 | m,false::r=>roots S (m+1) r
def xR (X:Cx C) (fn:Func) (mask:List Bool) (dec:List (Lf C)→List (Bool×List (Lf C))→Option R) (e:Ex) (S:St C):Option R:=match e with
 | .exit _=>none
 | _=>match lk S.env GB with
  | some .frame=>match gR X S fn.results.toList,roots S 0 mask with
   | some rs',some rt=>match cV S (rt++flatten rs') with
    | some (ls',_,false)=>dec (ls'.take rt.length) (reshape rs' (ls'.drop rt.length))
    | _=>none
   | _,_=>none
  | _=>none
theorem J7:∀ {ls:List (Lf C)} {m t:Nat} {v:SV C},lk (Fk m ls) t=some v→∃ i t' xs,ls[i]?=some (.row t' xs)∧v = .jo (A0+(m+i)) (m+i)
 | [],m,t,v,h=>by simp [Fk,lk] at h
 | l::ls,m,t,v,h=>by
  have up:lk (Fk (m+1) ls) t=some v→∃ i t' xs,(l::ls)[i]?=some (.row t' xs)∧v = .jo (A0+(m+i)) (m+i):=fun h=>by
   obtain ⟨i,t',xs,h1,h2⟩:=J7 h;exact ⟨i+1,t',xs,by simpa using h1,by rw [h2];congr 1<;>omega⟩
  cases l with
  | row t' xs=>
   simp only [Fk,aQ] at h;split at h
   ·cases h;exact ⟨0,t',xs,rfl,rfl⟩
   ·exact up h
  | _=>exact up h
theorem HF {K:Cd C} {rs:List (Bool×List (Lf C))} {kG:List Value} {G:Nat→Nat→Prop} (hi0:K.inv w0) (hb0:Below w0.heap.size w0 w) (hok:fO rs=true) (xV:kG.length=(flatten rs).length) (hn:rs.length≤nt)
  (qZ:∀ m k,G m k→w0.heap.size≤k∧k<w.heap.size) (hdj:∀ m m' k,G m k→G m' k→m=m') (kS:∀ (m:Nat) (l:Lf C),(flatten rs)[m]?=some l→l.plain=true∧Own K w w0.heap.size (G m) l (kG.getD m undef))
  (hkp:∀ k,K.kp (2*k)→k<w.heap.size∧∀ m,¬ G m k) (hkh:∀ k,K.kh k=w.heap[k]?) (hhd:∀ m,K.hd m=kG.getD m undef) :
  cK K w0 nt (Ca rs) (fun id=>kG.getD (id-A0) undef) (fun id=>G (id-A0)) { tmps:=(dh rs kG).toArray++Array.replicate (nt-(dh rs kG).toArray.size) undef,defers:=[] } w:=by
 have hsh:=js rs A0
 have nK:∀ id ob,lk (bN A0 rs).2 id=some ob→∃ m t xs,id=A0+m∧(flatten rs)[m]?=some (.row t xs)∧ob = .row t xs false:=fun id ob h=>rn _ _ _ _ h
 have hlfs:cg K w (Ca rs).aj (fun id=>kG.getD (id-A0) undef) (fun id=>G (id-A0)) (aH (Ca rs).aj (fun id=>G (id-A0)) w) (flatten (bN A0 rs).1) kG:=by
  refine ⟨by rw [xV,kg hsh],fun m l hm=>?_⟩
  rcases sS rs A0 m l hm with ⟨t,xs,q1,q2,q3⟩ | ⟨q1,q2⟩
  ·subst q2
   refine ⟨(kS m _ q1).2.one,?_⟩;simp
  ·exact qQ (kS m l q1).2 q2
 obtain ⟨hpl,hpk⟩:=qP (by rw [ic hsh];exact hok) hlfs;rw [mB hsh] at hpl hpk
 have hlen:(bN A0 rs).1.length=rs.length:=by
  have:∀ (rs:List (Bool×List (Lf C))) (n:Nat),(bN n rs).1.length=rs.length:=by
   intro rs
   induction rs with
   | nil=>intro n;rfl
   | cons x r ih=>intro n;obtain ⟨b,ls⟩:=x;simp [bN,ih]
  exact this rs A0
 refine ⟨hb0,⟨rfl,hi0⟩,by simp;omega,fun id ob k h hk=>qZ _ k hk,fun id gN ob dR k h h' hk hk'=>?_,fun id ob h=>?_,fun t v h=>?_⟩
 ·obtain ⟨m,_,_,e,_⟩:=nK id ob h
  obtain ⟨m',_,_,e',_⟩:=nK gN dR h';have:=hdj _ _ k hk hk';omega
 ·obtain ⟨m,t,xs,e,h1,h2⟩:=nK id ob h
  subst h2
  have e':id-A0=m:=by omega
  show Own K w w0.heap.size (G (id-A0)) (.row t xs) (kG.getD (id-A0) undef);rw [e'];exact (kS m _ h1).2
 ·have h':lk (iY 0 ((bN A0 rs).1.map sv1)++(GB,.frame)::Fk 0 (flatten rs)) t=some v:=h
  rw [dc] at h'
  cases e1:lk (iY 0 ((bN A0 rs).1.map sv1)) t with
  | some v'=>
   rw [e1] at h';cases h';obtain ⟨_,e2⟩:=m7 _ 0 t _ e1;simp only [Nat.sub_zero,List.getElem?_map] at e2
   cases e3:(bN A0 rs).1[t]? with
   | none=>rw [e3] at e2;cases e2
   | some x=>
    rw [e3] at e2;simp only [Option.map_some,Option.some.injEq] at e2;subst e2
    have hlt:t<(dh rs kG).length:=by rw [hpl];exact ee e3
    have e4:((dh rs kG).toArray++Array.replicate (nt-(dh rs kG).toArray.size) undef).getD t undef=(dh rs kG).getD t undef:=by
     simp [Array.getD_eq_getD_getElem?,Array.getElem?_append,hlt,List.getD]
    show dq K w _ _ _ _ (sv1 x) (((dh rs kG).toArray++Array.replicate (nt-(dh rs kG).toArray.size) undef).getD t undef);rw [e4];have:=hpk t x e3;obtain ⟨b,ls⟩:=x
    cases b with
    | false=>obtain ⟨l,e,h1⟩:=this;subst e;exact h1
    | true=>exact this
  | none=>
   rw [e1] at h';simp only [aQ] at h';split at h'
   ·cases h'
    intro k hk;obtain ⟨h1,h2⟩:=hkp k hk;exact ⟨⟨h1,fun id ob _=>h2 _⟩,(hkh k).symm⟩
   ·obtain ⟨i,t',xs,h1,h2⟩:=J7 h'
    subst h2;have e:A0+(0+i)-A0=0+i:=Nat.add_sub_cancel_left ..
    have e2:kG.getD (A0+(0+i)-A0) undef=K.hd (0+i):=by rw [e,hhd]
    exact e2
end
section
variable {Ty:Type} [DecidableEq Ty] {C:Ty→Type}
variable {P:Program} {X:Cx C} {K:Cd C} {w0 w:World} {nt:Nat} {S:St C} {β:Nat→Value} {fp:Nat→Nat→Prop} {a:Act} {R:Type} {r:R} {aj:cm C} {b8:Nat→Prop}
theorem MP {v:SV C} {u u':Value} (hv:(∃ x j,v = .bz x j)∨(∃ id j,v = .jo id j)∨v = .frame) (h:dq K w aj β fp b8 v u):dq K w aj β fp b8 v u':=by
 rcases hv with ⟨x,j,rfl⟩ | ⟨id,j,rfl⟩ | rfl<;>exact h
theorem ZO (hX:jk P X) (hC:Cons P X) (hm:P.follows .mixedOrders=true) (F:Cf) {f:Nat} {fn:Func} {c:Code} (hf:P.funcs[f]?=some fn) (hb:fn.body=some c) (hB:iE fn.ntmps c=true) (hname:fn.name ≠ "runtime.NumGoroutine"):cG P X.K f (gg X F fn):=by
 refine ⟨⟨fn,hf,by rw [hb];rfl,hname⟩,fun kp kh hd w0 w S β fp vs us R k r hs hkey xV hv h=>?_,fun s hs=>by cases hs⟩;unfold gg at h;simp only [hb] at h;obtain ⟨hn,h⟩:=az h;simp only [Bool.and_eq_true] at hn;have hn1:=Nat.le_of_ble_eq_true hn.1;have hn2:=Nat.le_of_ble_eq_true hn.2;rw [←OJ (kp:=kp) (kh:=kh) (hd:=hd)] at h
 have ga:cK (X.gh kp kh hd).K w0 fn.ntmps { env:=iY 0 vs++S.env,aj:=S.aj,base:=S.base } β fp { tmps:=us.toArray++Array.replicate (fn.ntmps-us.toArray.size) undef,defers:=[] } w:=by
  refine ⟨hs.below,⟨rfl,hs.defers.2⟩,by simp;omega,hs.fresh,hs.eH,hs.aj,fun t v ht=>?_⟩;have nq:lk (iY 0 vs++S.env) t=some v:=ht;rw [dc] at nq
  cases e1:lk (iY 0 vs) t with
  | some v'=>
   rw [e1] at nq;cases nq;obtain ⟨_,e2⟩:=m7 _ 0 t _ e1;simp only [Nat.sub_zero] at e2
   have hlt:t<us.length:=by rw [xV];exact ee e2
   have e4:(us.toArray++Array.replicate (fn.ntmps-us.toArray.size) undef).getD t undef=us.getD t undef:=by
    simp [Array.getD_eq_getD_getElem?,Array.getElem?_append,hlt,List.getD]
   show dq _ w _ _ _ _ v ((us.toArray++Array.replicate (fn.ntmps-us.toArray.size) undef).getD t undef);rw [e4];exact hv t v e2
  | none=>
   rw [e1] at nq;have hge:=hkey t v nq
   have e4:(us.toArray++Array.replicate (fn.ntmps-us.toArray.size) undef).getD t undef=undef:=by
    rw [Array.getD_eq_getD_getElem?,Array.getElem?_eq_none (by simp;omega)];rfl
   show dq _ w _ _ _ _ v ((us.toArray++Array.replicate (fn.ntmps-us.toArray.size) undef).getD t undef);rw [e4];have:=hs.env t v nq
   have e5:nX.tmps.getD t undef=undef:=by simp [nX,Array.getD_eq_getD_getElem?]
   rw [e5] at this;exact this
 refine calls_of_wp hf hb (Go.wp_mono (pU (qJ hX) (C6 hC) hm F c 0 _ _ w _ hB ⟨_,_,ga⟩ h) ?_)
 have fin:∀ (a:Act) (w':World) (S':St C) (e:Ex),nR (X.gh kp kh hd).K w0 fn.ntmps S' a w'→(e = .norm∨e = .ret)→(match e with
   | .exit _=>none
   | _=>match gR X S' fn.results.toList with
    | some rs=>k rs { S' with env:=fQ S'.env }
    | none=>none)=some r →
   a.defers=[]∧∃ v,(results fn a.tmps).run P w' = .ok v w'∧∃ (N3:Value) (rs:List (Bool×List (Lf C))) (nA:List Value) (S':St C) (eG:Nat→Value) (eD:Nat→Nat→Prop),Ending.returned v = .returned N3∧N3=pack rs nA∧fO rs=true∧k rs S'=some r ∧
   cK (X.K.gh kp kh hd) w0 0 S' eG eD nX w'∧cg (X.K.gh kp kh hd) w' S'.aj eG eD (aH S'.aj eD w') (flatten rs) nA:=by
  intro a w' S' e ⟨eG,eD,hs'⟩ he h
  have h:(match gR X S' fn.results.toList with
    | some rs=>k rs { S' with env:=fQ S'.env }
    | none=>none)=some r:=by
   rcases he with he | he<;>subst he<;>exact h
  split at h
  case h_2=>cases h
  rename_i rs hres;rw [←rQ (kp:=kp) (kh:=kh) (hd:=hd)] at hres;obtain ⟨np,h1,h2,h3⟩:=rP (qJ hX) hs' _ rs hres;refine ⟨hs'.defers.1,pack rs np,?_,_,rs,np,{ S' with env:=fQ S'.env },eG,eD,rfl,rfl,h1,h,⟨hs'.below,⟨rfl,hs'.defers.2⟩,rfl,hs'.fresh,hs'.eH,hs'.aj,fun t v ht=>?_⟩,h2⟩
  ·rw [nB]
   simp only [Sem.run_bind,h3,Result.andThen_ok];rfl
  ·obtain ⟨q1,q2⟩:=nL ht
   exact MP q2 (hs'.env t v q1)
 rintro (_ | _ | _ | _ | _ | _) a' w' hp
 ·obtain ⟨S',hs',hk⟩:=hp;exact fin a' w' S' .norm hs' (.inl rfl) hk
 ·obtain ⟨S',hs',hk⟩:=hp;cases hk
 ·exact hp.elim
 ·obtain ⟨S',hs',hk⟩:=hp;exact fin a' w' S' .ret hs' (.inr rfl) hk
 ·exact hp.elim
 ·exact hp.elim
end
section
variable {Ty:Type} {C:Ty→Type} {R:Type}
def opsOf:Code→Array Oper
 | .region _ ops _=>ops
 | _=> #[]
def fq (F:Cf) (k:Ex→St C→Option R) (S:St C):Option R:=mH (S.tidy F.keep) fun S2=>k .norm S2
def dB (q b:Nat) (d:Option Tmp) (k:St C→Option R) (rs:List (Bool×List (Lf C))) (S:St C):Option R:=match tf rs with
 | some v=>mH ((YU q b S).put d v) k
 | none=>none
def fu (X:Cx C) (fn:Func) (k:List (Bool×List (Lf C))→St C→Option R) (e:Ex) (S:St C):Option R:=match e with
 | .exit _=>none
 | _=>match gR X S fn.results.toList with
  | some rs=>k rs { S with env:=fQ S.env }
  | none=>none
def eJ [DecidableEq Ty] (X:Cx C) (c:Code) (j:Nat) (k:St C→Option R) (S:St C):Option R:=evs X (opsOf c) ((opsOf c).toList.drop j) S k
def mq [DecidableEq Ty] (X:Cx C) (c:Code) (f:Nat) (is:List Nat) (k:St C→Option R) (S:St C):Option R:=jm X (opsOf c) (ancs 0 (opsOf c).toList []) k f (iL (opsOf c) is) S []
def allI (P:Program) (K:Cd C):List (Nat×lz C)→Prop
 | []=>True
 | (f,c)::r=>cG P K f c∧allI P K r
def lkA {α:Type 1}:List (Nat×α)→Nat→Option α
 | [],_=>none
 | (m,v)::r,n=>cond (Nat.beq n m) (some v) (lkA r n)
theorem PL {P:Program} {K:Cd C}:∀ {l:List (Nat×lz C)},allI P K l→∀ f c,lkA l f=some c→cG P K f c
 | [],_,f,c,h=>by cases h
 | (m,v)::r,ha,f,c,h=>by
  simp only [lkA] at h
  cases hb:Nat.beq f m with
  | true=>rw [hb] at h;cases h;have:=Nat.eq_of_beq_eq_true hb;subst this;exact ha.1
  | false=>rw [hb] at h;exact PL ha.2 f c h
end
section
variable {Ty:Type} [DecidableEq Ty] {C:Ty→Type}
variable {P:Program} {X:Cx C} {K:Cd C} {w0 w:World} {nt:Nat} {S:St C} {β:Nat→Value} {fp:Nat→Nat→Prop} {a:Act} {R:Type} {r:R} {aj:cm C} {b8:Nat→Prop}
def qy:Nat:=77777777
def gO:cm C→List (Lf C)
 | []=>[]
 | (id,.box .mem _)::r=>.ptr id 0::gO r
 | (id,.box (.gV ..) _)::r=>.vo id::gO r
 | (id,.box (.mF ..) _)::r=>.vo id::gO r
 | (id,.map ..)::r=>.vo id::gO r
 | _::r=>gO r
def oI:cm C→List Nat
 | []=>[]
 | (id,.row ..)::r=>id::oI r
 | _::r=>oI r
def tL:cm C→Bool
 | []=>true
 | (_,.ghost)::_=>false
 | _::r=>tL r
def pS:Lf C→Bool
 | .int .. =>true
 | .bool _=>true
 | .str _=>true
 | .dP _=>true
 | .row .. =>true
 | _=>false
def uc (S:St C):Lf C→Option (Lf C×St C)
 | .ref id []=>match lk S.aj id with
  | some (.row t xs _)=>some (.row t xs,S.kO id)
  | _=>none
 | .sub id lo hi=>match lk S.aj id with
  | some (.row t xs _)=>some (.row t ((xs.take hi).drop lo),S.kO id)
  | _=>none
 | .nil t=>some (.row t [],S)
 | .row t xs=>some (.row t xs,S)
 | .int k n=>some (.int k n,S)
 | .bool b=>some (.bool b,S)
 | .str s=>some (.str s,S)
 | .dP f=>some (.dP f,S)
 | _=>none
def Fy (S:St C):List (Lf C)→Option (List (Lf C)×St C)
 | []=>some ([],S)
 | l::r=>match uc S l with
  | some (l',S1)=>match Fy S1 r with
   | some (r',S2)=>some (l'::r',S2)
   | none=>none
  | none=>none
def Qm (S:St C):SV C→Option (SV C×St C)
 | .one l=>match uc S l with
  | some (l',S1)=>some (.one l',S1)
  | none=>none
 | .agg ls=>match Fy S ls with
  | some (ls',S1)=>some (.agg ls',S1)
  | none=>none
 | _=>none
def MQ (S:St C):List Nat→Option (St C)
 | []=>some S
 | t::r=>match lk S.env t with
  | some v=>match Qm S v with
   | some (v',S1)=>MQ { S1 with env:=(t,v')::S1.env } r
   | none=>none
  | none=>none
def jW:ResultVar→Nat
 | .tmp t=>t
 | .cell a _=>a
def Hw (x:ResultVar):ResultVar:=.tmp (jW x)
def tj (nt:Nat):List Nat→Bool
 | []=>true
 | t::r=>Nat.blt t nt&&(!r.any (Nat.beq t)&&tj nt r)
def oZ (X:Cx C) (S:St C):List ResultVar→Option (St C)
 | []=>some S
 | .tmp _::r=>oZ X S r
 | .cell a t::r=>match lk S.env a,X.tk t with
  | some (.one l),some tk=>dZ X S l fun ls=>match Cy tk ls with
   | some v=>oZ X (S.put (some a) v) r
   | none=>none
  | _,_=>none
def Oh (c:iR C) (vs:List (SV C)) (O:cm C):St C:={ env:=iY 0 vs++[(GB,.frame),(GB+1,.bz (true,c.roots) 0)],aj:=(qy,.ghost)::O,base:=0 }
def j8 {R:Type} (X:Cx C) (fn:Func) (dec:cm C→List (Lf C)→List (Bool×List (Lf C))→Option R) (e:Ex) (S:St C):Option R:=match e with
 | .exit _=>none
 | _=>cond (tj fn.ntmps (fn.results.toList.map jW)) (match oZ X S fn.results.toList with
  | some S0=>match MQ S0 (fn.results.toList.map jW) with
   | some S1=>match S1.canon (fn.results.toList.map jW) with
    | some S'=>match gR X S' (fn.results.toList.map Hw) with
     | some rs=>match lk S'.env GB,lk S'.env (GB+1) with
      | some .frame,some (.bz (true,ls) j)=>cond (Nat.beq j 0) (dec S'.aj ls rs) none
      | _,_=>none
     | none=>none
    | none=>none
   | none=>none
  | none=>none) none
def gF {R:Type} (X:Cx C) (F:Cf) (fn:Func) (c:iR C) (vs:List (SV C)) (O:cm C) (dec:cm C→List (Lf C)→List (Bool×List (Lf C))→Option R):Option R:=run X F (av fn) 0 (Oh c vs O) (j8 X fn dec)
structure yJ (c:iR C) (vs:List (SV C)) (O:cm C) (r:c.R0):Prop where
 roots:gO O=c.roots
 rows:oI O=c.eU
 gh:tL O=true
 gh':tL (c.out r)=true
 keys:∀ id,id∈dJ (c.out r)→id∈c.ids
 rows':∀ id,id∈oI (c.out r)→id∈c.eU
 closed:∀ id,id∈dX (c.out r)→id∈c.ids
 Pj:qy∉c.ids
 simple:∀ l,l∈flatten (c.ret r)→pS l=true
theorem Am:∀ {l:List Nat} {O' O:cm C},mQ O' l=some O→(∀ id ob,lk O id=some ob↔id∈l∧lk O' id=some ob)∧(∀ x,x∈O→lk O' x.1=some x.2)∧dJ O=l
 | [],O',O,h=>by simp only [mQ,Option.some.injEq] at h;subst h;exact ⟨fun id ob=>by simp [lk],fun x hx=>(by cases hx),rfl⟩
 | id::l,O',O,h=>by
  simp only [mQ] at h;split at h
  ·rename_i ob ho
   split at h
   ·rename_i l' hl
    cases h;obtain ⟨h1,h2,h3⟩:=Am hl;refine ⟨fun i dR=>?_,fun x hx=>?_,by simpa [dJ] using h3⟩
    ·rw [aQ]
     by_cases e:i=id
     ·subst e
      rw [if_pos rfl,ho];simp
     ·rw [if_neg e,h1]
      simp [e]
    ·rcases List.mem_cons.1 hx with e | hx
     ·subst e;exact ho
     ·exact h2 x hx
   ·cases h
  ·cases h
theorem wU:∀ {O:cm C} {l:Lf C},l∈gO O→∃ id ob,(id,ob)∈O∧((l = .ptr id 0∧∃ ls,ob = .box .mem ls)∨(l = .vo id∧((∃ f n sh ls,ob = .box (.gV f n sh) ls)∨(∃ t sh ls,ob = .box (.mF t sh) ls)∨∃ mk kt vt xs c,ob = .map mk kt vt xs c)))
 | [],l,h=>by cases h
 | (id,ob)::O,l,h=>by
  have up:l∈gO O→∃ i o,(i,o)∈(id,ob)::O∧((l = .ptr i 0∧∃ ls,o = .box .mem ls)∨(l = .vo i∧((∃ f n sh ls,o = .box (.gV f n sh) ls)∨(∃ t sh ls,o = .box (.mF t sh) ls)∨∃ mk kt vt xs c,o = .map mk kt vt xs c))):=fun h=>by
   obtain ⟨i,o,h1,h2⟩:=wU h;exact ⟨i,o,List.mem_cons_of_mem _ h1,h2⟩
  cases ob with
  | box kd ls=>cases kd with
   | mem=>
    rcases List.mem_cons.1 (show l ∈ .ptr id 0::gO O from h) with e | h
    ·exact ⟨id,_,List.mem_cons_self,.inl ⟨e,ls,rfl⟩⟩
    ·exact up h
   | gV f n sh=>
    rcases List.mem_cons.1 (show l ∈ .vo id::gO O from h) with e | h
    ·exact ⟨id,_,List.mem_cons_self,.inr ⟨e,.inl ⟨f,n,sh,ls,rfl⟩⟩⟩
    ·exact up h
   | mF t sh=>
    rcases List.mem_cons.1 (show l ∈ .vo id::gO O from h) with e | h
    ·exact ⟨id,_,List.mem_cons_self,.inr ⟨e,.inr (.inl ⟨t,sh,ls,rfl⟩)⟩⟩
    ·exact up h
  | map mk kt vt xs c=>
   rcases List.mem_cons.1 (show l ∈ .vo id::gO O from h) with e | h
   ·exact ⟨id,_,List.mem_cons_self,.inr ⟨e,.inr (.inr ⟨mk,kt,vt,xs,c,rfl⟩)⟩⟩
   ·exact up h
  | row t xs sh=>exact up h
  | ghost=>exact up h
theorem zU:∀ {O:cm C} {id:Nat} {ob:Ob C},(id,ob)∈O→tL O=true→id∉oI O→(.ptr id 0∈gO O)∨(Lf.vo id∈gO O)
 | [],id,ob,h,_,_=>by cases h
 | (i,o)::O,id,ob,h,hg,hr=>by
  have step:(id,ob)∈O→tL O=true→id∉oI O→(Lf.ptr id 0∈gO O)∨(Lf.vo id∈gO O):=fun h hg hr=>zU h hg hr
  rcases List.mem_cons.1 h with e | h1
  ·cases e
   cases o with
   | box kd ls=>cases kd with
    | mem=>exact .inl List.mem_cons_self
    | gV f n sh=>exact .inr List.mem_cons_self
    | mF t sh=>exact .inr List.mem_cons_self
   | map mk kt vt xs c=>exact .inr List.mem_cons_self
   | row t xs sh=>exact absurd List.mem_cons_self hr
   | ghost=>cases hg
  ·cases o with
   | box kd ls=>cases kd with
    | mem=>exact (step h1 hg hr).imp (List.mem_cons_of_mem _) (List.mem_cons_of_mem _)
    | gV f n sh=>exact (step h1 hg hr).imp (List.mem_cons_of_mem _) (List.mem_cons_of_mem _)
    | mF t sh=>exact (step h1 hg hr).imp (List.mem_cons_of_mem _) (List.mem_cons_of_mem _)
   | map mk kt vt xs c=>exact (step h1 hg hr).imp (List.mem_cons_of_mem _) (List.mem_cons_of_mem _)
   | row t xs sh=>exact step h1 hg fun hm=>hr (List.mem_cons_of_mem _ hm)
   | ghost=>cases hg
theorem D7:∀ {O:cm C} {id:Nat} {t:Ty} {xs:List (C t)} {sh:Bool},lk O id=some (.row t xs sh)→id∈oI O
 | [],id,t,xs,sh,h=>by cases h
 | (i,o)::O,id,t,xs,sh,h=>by
  rw [aQ] at h;split at h
  ·rename_i e;cases h;subst e;exact List.mem_cons_self
  ·have:=D7 h
   cases o with
   | row=>exact List.mem_cons_of_mem _ this
   | box kd ls=>exact this
   | map=>exact this
   | ghost=>exact this
theorem sd:∀ {O:cm C} {id:Nat},tL O=true→lk O id≠some .ghost
 | [],id,_,h=>by cases h
 | (i,o)::O,id,hg,h=>by
  rw [aQ] at h;split at h
  ·cases h;cases hg
  ·cases o with
   | ghost=>cases hg
   | row=>exact sd (show tL O=true from hg) h
   | box kd ls=>exact sd (show tL O=true from hg) h
   | map=>exact sd (show tL O=true from hg) h
theorem E4 {O:cm C} {id:Nat} {ob:Ob C} (h:lk O id=some ob):id∈dJ O:=List.mem_map.2 ⟨(id,ob),qV h,rfl⟩
theorem IX {l m:List Nat} (h:jF l m=true):∀ i,i∈l→i∉m:=fun i hi hm=>by
 have:=List.all_eq_true.1 h i hi;simp only [Bool.not_eq_true'] at this;exact lh this hm
theorem HG {kp kp':Nat→Prop} {kh kh':Nat→Option Obj} {hd hd':Nat→Value} {l:Lf C} (hs:pS l=true) {w:World} {K:Cd C} {aj dO:cm C} {β eG:Nat→Value} {fp eD:Nat→Nat→Prop} {b8 ey:Nat→Prop} {v:Value} (hst:∀ k,b8 k→ey k) (h:cI (K.gh kp kh hd) w aj β fp b8 l v):cI (K.gh kp' kh' hd') w dO eG eD ey l v:=by
 cases l with
 | row t xs=>exact wX (kp:=kp') (kh:=kh') (hd:=hd') (K:=K.gh kp kh hd) (gU.mono (show gU (K.gh kp kh hd) w b8 (.row t xs) v from h) hst)
 | _=>first | exact h | cases hs
theorem Ct {l:Lf C} {w:World} {K:Cd C} {aj:cm C} {β:Nat→Value} {fp:Nat→Nat→Prop} {b8:Nat→Prop} {v:Value} (h:cI K w aj β fp b8 l v):cI K w aj β fp b8 (Um l) v:=by
 cases l with
 | nil t=>
  have e:v = .slice none 0 0:=h;subst e;exact .row t [] none 0 default (fun _=>undef) (Nat.zero_le _) (fun h=>absurd rfl h) (fun h=>absurd rfl h) (fun j hj=>absurd hj (by simp))
 | _=>exact h
theorem Pm {ls:List (Lf C)} {w:World} {K:Cd C} {aj:cm C} {β:Nat→Value} {fp:Nat→Nat→Prop} {b8:Nat→Prop} {us:List Value} (h:cg K w aj β fp b8 ls us):cg K w aj β fp b8 (ls.map Um) us:=by
 refine ⟨by rw [List.length_map];exact h.1,fun i l hl=>?_⟩;rw [List.getElem?_map] at hl
 cases e:ls[i]? with
 | none=>rw [e] at hl;cases hl
 | some l0=>rw [e] at hl;cases hl;exact Ct (h.2 i l0 e)
theorem Pn {v:SV C} {w:World} {K:Cd C} {aj:cm C} {β:Nat→Value} {fp:Nat→Nat→Prop} {b8:Nat→Prop} {u:Value} (h:dq K w aj β fp b8 v u):dq K w aj β fp b8 (uQ v) u:=by
 cases v with
 | one l=>exact Ct (l:=l) h
 | agg ls=>obtain ⟨us,h1,h2⟩:=h;exact ⟨us,h1,Pm h2⟩
 | _=>exact h
theorem Me {vs:List (SV C)} (h:vs.all JM=true):(vs.map uQ).all JM=true:=by
 rw [List.all_eq_true] at h ⊢;intro v hv;obtain ⟨v0,h0,rfl⟩:=List.mem_map.1 hv;have:=h v0 h0
 cases v0 with
 | one l=>rfl
 | agg ls=>rfl
 | _=>cases this
theorem B9 (id:Nat) {k:Nat} (h:aH S.aj fp w k):aH (S.kO id).aj fp w k:=by
 refine ⟨h.1,fun j ob hj=>h.2 j ob ?_⟩;have iK:lk (rm S.aj id) j=some ob:=hj;rw [lM] at iK;split at iK
 ·cases iK
 ·exact iK
theorem PH {id i:Nat} {ob:Ob C} (h:lk (S.kO id).aj i=some ob):lk S.aj i=some ob:=by
 have h':lk (rm S.aj id) i=some ob:=h;rw [lM] at h';split at h'
 ·cases h'
 ·exact h'
theorem JJ {K:Cd C} (hs:cK K w0 nt S β fp a w) {id:Nat} {t:Ty} {xs:List (C t)} {sh:Bool} (ho:lk S.aj id=some (.row t xs sh)):gU K w (aH (S.kO id).aj fp w) (.row t xs) (β id):=by
 have hin:∀ k,fp id k→aH (S.kO id).aj fp w k:=fun k hk=>by
  refine ⟨(hs.fresh id _ k ho hk).2,fun j ob hj kE=>?_⟩;have iK:lk (rm S.aj id) j=some ob:=hj;rw [lM] at iK;split at iK
  ·cases iK
  ·rename_i hne
   exact hne (hs.eH id j _ ob k ho iK hk kE).symm
 have fW:=hs.aj id _ ho
 cases sh with
 | false=>exact (Own.rep fW).mono hin
 | true=>
  obtain ⟨cells,h1,h2,h3⟩:=fW
  by_cases hx:xs=[]
  ·subst hx
   obtain ⟨A,c,e,_⟩:=gq h1;rw [e];exact .row t [] A c default (fun _=>undef) (Nat.zero_le _) (fun h=>absurd rfl h) (fun h=>absurd rfl h) (fun j hj=>absurd hj (by simp))
  ·obtain ⟨g,cap,e,hb,hn,hcell⟩:=kJ h1 (Nat.mul_pos (List.length_pos_iff.2 hx) (K.pos t))
   rw [e]
   refine .row t xs _ cap ⟨g,0,none⟩ (fun m=>cells.getD m undef) hn (fun _=>⟨rfl,hin g ((h2 g).2 (by rw [e];rfl))⟩) (fun _=>hcell) fun j hj i l hl=>?_
   exact (h3 j xs[j] (by simp [hj]) i l hl).mono fun k hk=>B9 id hk
theorem Kg {K:Cd C} (hs:cK K w0 nt S β fp a w) {l l':Lf C} {S':St C} {v:Value} (hl:cI K w S.aj β fp (aH S.aj fp w) l v) (h:uc S l=some (l',S')) :
  cK K w0 nt S' β fp a w∧S'.env=S.env∧(∀ id ob,lk S'.aj id=some ob→lk S.aj id=some ob)∧(∀ k,aH S.aj fp w k→aH S'.aj fp w k)∧pS l'=true∧cI K w S'.aj β fp (aH S'.aj fp w) l' v:=by
 cases l with
 | ref id p=>
  cases p with
  | cons s p=>simp [uc] at h
  | nil=>
   simp only [uc] at h;split at h
   ·rename_i t xs sh ho
    cases h;have e:v=β id:=hl.2;subst e;exact ⟨hs.del id,rfl,fun i ob hi=>PH hi,fun k hk=>B9 id hk,rfl,JJ hs ho⟩
   ·cases h
 | sub id lo hi=>
  simp only [uc] at h;split at h
  ·rename_i t xs sh ho
   cases h;exact ⟨hs.del id,rfl,fun i ob hi=>PH hi,fun k hk=>B9 id hk,rfl,rK (JJ hs ho) (hl.2 t xs sh ho)⟩
  ·cases h
 | nil t=>simp only [uc] at h;cases h;exact ⟨hs,rfl,fun i ob hi=>hi,fun k hk=>hk,rfl,Ct (l:=.nil t) hl⟩
 | row t xs=>simp only [uc] at h;cases h;exact ⟨hs,rfl,fun i ob hi=>hi,fun k hk=>hk,rfl,hl⟩
 | int ki n=>simp only [uc] at h;cases h;exact ⟨hs,rfl,fun i ob hi=>hi,fun k hk=>hk,rfl,hl⟩
 | bool b=>simp only [uc] at h;cases h;exact ⟨hs,rfl,fun i ob hi=>hi,fun k hk=>hk,rfl,hl⟩
 | str s=>simp only [uc] at h;cases h;exact ⟨hs,rfl,fun i ob hi=>hi,fun k hk=>hk,rfl,hl⟩
 | dP s=>simp only [uc] at h;cases h;exact ⟨hs,rfl,fun i ob hi=>hi,fun k hk=>hk,rfl,hl⟩
 | _=>simp [uc] at h
theorem DX {K:Cd C} {l:Lf C} (hs:pS l=true) {w:World} {aj dO:cm C} {β:Nat→Value} {fp:Nat→Nat→Prop} {b8 ey:Nat→Prop} {v:Value} (hst:∀ k,b8 k→ey k) (h:cI K w aj β fp b8 l v):cI K w dO β fp ey l v:=by
 cases l with
 | row t xs=>exact gU.mono h hst
 | _=>first | exact h | cases hs
theorem Fx {K:Cd C}:∀ {ls ls':List (Lf C)} {S S':St C} {us:List Value},cK K w0 nt S β fp a w→cg K w S.aj β fp (aH S.aj fp w) ls us→Fy S ls=some (ls',S') →
  cK K w0 nt S' β fp a w∧S'.env=S.env∧(∀ k,aH S.aj fp w k→aH S'.aj fp w k)∧cg K w S'.aj β fp (aH S'.aj fp w) ls' us
 | [],ls',S,S',us,hs,hl,h=>by simp only [Fy,Option.some.injEq,Prod.mk.injEq] at h;obtain ⟨rfl,rfl⟩:=h;exact ⟨hs,rfl,fun k hk=>hk,hl⟩
 | l::ls,ls',S,S',us,hs,hl,h=>by
  simp only [Fy] at h;split at h
  ·rename_i l1 S1 h1
   split at h
   ·rename_i r' S2 h2
    cases h
    obtain ⟨u,us,rfl⟩:∃ u np,us=u::np:=by
     cases us with
     | nil=>have:=hl.1;simp at this
     | cons u us=>exact ⟨u,us,rfl⟩
    obtain ⟨a1,a2,a3,a4,a5,a6⟩:=Kg hs (hl.2 0 l rfl) h1;have hl1:cg K w S.aj β fp (aH S.aj fp w) ls us:=⟨by have:=hl.1;simpa using this,fun i l' hi=>hl.2 (i+1) l' (by simpa using hi)⟩
    have Io:cg K w S1.aj β fp (aH S1.aj fp w) ls us:=hl1.tr (fun k hk=>⟨a4 k hk,rfl⟩) fun i _=>⟨rfl,fun t xs sh ho=>⟨a3 _ _ ho,fun k hk=>⟨hk,rfl⟩⟩⟩
    obtain ⟨b1,b2,b4,b5⟩:=Fx a1 Io h2;refine ⟨b1,b2.trans a2,fun k hk=>b4 k (a4 k hk),by have:=b5.1;simpa using this,fun i l' hi=>?_⟩
    cases i with
    | zero=>simp at hi;subst hi;exact DX a5 b4 a6
    | succ i=>exact b5.2 i l' (by simpa using hi)
   ·cases h
  ·cases h
theorem UU {K:Cd C} {S S':St C} {v v':SV C} {u:Value} (hs:cK K w0 nt S β fp a w) (hv:dq K w S.aj β fp (aH S.aj fp w) v u) (h:Qm S v=some (v',S')) :
  cK K w0 nt S' β fp a w∧S'.env=S.env∧(∀ k,aH S.aj fp w k→aH S'.aj fp w k)∧dq K w S'.aj β fp (aH S'.aj fp w) v' u:=by
 cases v with
 | one l=>
  simp only [Qm] at h;split at h
  ·rename_i l1 S1 h1
   cases h;obtain ⟨a1,a2,a3,a4,a5,a6⟩:=Kg hs (show cI K w S.aj β fp (aH S.aj fp w) l u from hv) h1;exact ⟨a1,a2,a4,a6⟩
  ·cases h
 | agg ls=>
  simp only [Qm] at h;split at h
  ·rename_i l1 S1 h1
   cases h;obtain ⟨us,e,hl⟩:=hv;obtain ⟨a1,a2,a4,a5⟩:=Fx hs hl h1;exact ⟨a1,a2,a4,us,e,a5⟩
  ·cases h
 | _=>simp [Qm] at h
theorem Ke {K:Cd C}:∀ {ts:List Nat} {S S':St C},cK K w0 nt S β fp a w→MQ S ts=some S'→cK K w0 nt S' β fp a w
 | [],S,S',hs,h=>by simp only [MQ,Option.some.injEq] at h;subst h;exact hs
 | t::ts,S,S',hs,h=>by
  simp only [MQ] at h;split at h
  ·rename_i v hv
   split at h
   ·rename_i v' S1 h1
    obtain ⟨a1,a2,a4,a5⟩:=UU hs (hs.env t v hv) h1;refine Ke (S:={ S1 with env:=(t,v')::S1.env }) ⟨a1.below,a1.defers,a1.size,a1.fresh,a1.eH,a1.aj,fun t' v2 ht=>?_⟩ h;have nq:lk ((t,v')::S1.env) t'=some v2:=ht;rw [aQ] at nq;split at nq
    ·rename_i e;cases nq;subst e;exact a5
    ·exact a1.env t' v2 nq
   ·cases h
  ·cases h
theorem Pg {kp:Nat→Prop} {kh:Nat→Option Obj} {hd:Nat→Value} {base:Nat} {F:Nat→Prop} {ob:Ob C} {v:Value} (hne:ob ≠ .ghost) (h:lj K w base aj β fp b8 F ob v):lj (K.gh kp kh hd) w base aj β fp b8 F ob v:=by
 cases ob with
 | ghost=>exact absurd rfl hne
 | box kd ls=>cases kd with
  | mem=>obtain ⟨b,cs,e,h1,h2,h3,h4⟩:=h;exact ⟨b,cs,e,h1,h2,h3,kM h4⟩
  | gV f n sh=>obtain ⟨us,h1,h2,h3⟩:=h;exact ⟨us,h1,h2,kM h3⟩
  | mF t sh=>obtain ⟨us,h1,h2,h3⟩:=h;exact ⟨us,h1,h2,kM h3⟩
 | map mk kt vt xs c=>exact h
 | row t xs sh=>cases sh with
  | false=>exact oJ h
  | true=>obtain ⟨cells,h1,h2,h3⟩:=h;exact ⟨cells,h1,h2,fun j x hx i l hl=>wX (h3 j x hx i l hl)⟩
theorem xM {kp:Nat→Prop} {kh:Nat→Option Obj} {hd:Nat→Value}:∀ (l:List ResultVar) (S:St C),oZ (X.gh kp kh hd) S l=oZ X S l
 | [],S=>rfl
 | .tmp t::r,S=>by simp only [oZ,xM r]
 | .cell a t::r,S=>by
  simp only [oZ,xM r,lS];rfl
theorem TY {t1 t2:Array Value} {x:ResultVar} (h:t1.getD (jW x) undef=t2.getD (jW x) undef):jK t1 x=jK t2 x:=by
 cases x with
 | tmp t=>simp only [jK];rw [show t1.getD t undef=t2.getD t undef from h]
 | cell b t=>simp only [jK];rw [show t1.getD b undef=t2.getD b undef from h]
theorem Ea {t1 t2:Array Value}:∀ {l:List ResultVar},(∀ t,t∈l.map jW→t1.getD t undef=t2.getD t undef)→l.mapM (jK t1)=l.mapM (jK t2)
 | [],_=>rfl
 | x::l,h=>by
  rw [List.mapM_cons,List.mapM_cons,TY (h _ (by simp)),Ea (l:=l) fun t ht=>h t (by simp only [List.map_cons,List.mem_cons];exact .inr ht)]
theorem xL (hX:jk P X):∀ {l:List ResultVar} {S S1:St C} {a:Act},cK X.K w0 nt S β fp a w→oZ X S l=some S1→tj nt (l.map jW)=true →
  ∃ a1:Act,cK X.K w0 nt S1 β fp a1 w∧(∀ t,t∉l.map jW→a1.tmps.getD t undef=a.tmps.getD t undef)∧(l.mapM (jK a.tmps)).run P w=((l.map Hw).mapM (jK a1.tmps)).run P w
 | [],S,S1,a,hs,h,_=>by
  simp only [oZ,Option.some.injEq] at h;subst h;exact ⟨a,hs,fun _ _=>rfl,rfl⟩
 | .tmp t::r,S,S1,a,hs,h,hb=>by
  simp only [List.map_cons,tj,jW,Bool.and_eq_true,Bool.not_eq_true'] at hb;have Ij:=lh hb.2.1;obtain ⟨a1,h1,h2,h3⟩:=xL (l:=r) hX hs h hb.2.2;refine ⟨a1,h1,fun t' ht=>h2 t' fun hh=>ht (by simp only [List.map_cons,List.mem_cons];exact .inr hh),?_⟩
  have e:jK a1.tmps (Hw (.tmp t))=jK a.tmps (.tmp t):=by
   simp only [Hw,jW,jK,h2 t Ij]
  rw [List.map_cons,List.mapM_cons,List.mapM_cons,e];simp only [jK,pure_bind,Sem.run_bind,h3]
 | .cell b t::r,S,S1,a,hs,h,hb=>by
  simp only [List.map_cons,tj,jW,Bool.and_eq_true,Bool.not_eq_true'] at hb;have Ij:=lh hb.2.1;have hlt:b<nt:=Nat.le_of_ble_eq_true hb.1;simp only [oZ] at h;split at h
  case h_2=>cases h
  rename_i c tk hc ht;obtain ⟨ls,p,hk,hv,hcell⟩:=sM hs (hs.env b _ hc) h;split at hk
  case h_2=>cases hk
  rename_i v hm;obtain ⟨u,hu,hok⟩:=vV (hX.tk _ _ ht) hm hcell;obtain ⟨a1,h1,h2,h3⟩:=xL hX (hs.put (some b) (fun t' e=>by cases e;exact hlt) hok) hk hb.2.2
  have hsz:b<a.tmps.size:=by rw [hs.size];exact hlt
  have e1:a1.tmps.getD b undef=u:=by
   rw [h2 b Ij];simp [Act.put,sF _ _ _ _ _ hsz]
  have e2:r.mapM (jK a.tmps)=r.mapM (jK (a.put (some b) u).tmps):=Ea fun t' nq=>by
   have hne:t'≠b:=fun e=>Ij (e▸nq)
   simp [Act.put,sF _ _ _ _ _ hsz,hne]
  refine ⟨a1,h1,fun t' ht=>?_,?_⟩
  ·simp only [List.map_cons,List.mem_cons,not_or,jW] at ht
   rw [h2 t' ht.2];simp [Act.put,sF _ _ _ _ _ hsz,ht.1]
  ·have e3:(jK a.tmps (.cell b t)).run P w = .ok u w:=by simp [jK,hv,asAddr,hu]
   have e4:(jK a1.tmps (Hw (.cell b t))).run P w = .ok u w:=by simp [Hw,jW,jK,e1]
   rw [List.map_cons,List.mapM_cons,List.mapM_cons,e2];simp only [Sem.run_bind,e3,e4,Result.andThen_ok,h3]
section
variable {kp:Nat→Prop} {kh:Nat→Option Obj} {hd:Nat→Value} {c:iR C} {O:cm C} {vs:List (SV C)} {us:List Value} {r0:c.R0}
def others (S:St C) (fp:Nat→Nat→Prop) (ids:List Nat) (k:Nat):Prop:=∃ id ob,lk S.aj id=some ob∧id∉ids∧fp id k
def Tm (S:St C) (fp:Nat→Nat→Prop) (w:World) (ids:List Nat) (n:Nat):Prop:=(n % 2=0∧aH S.aj fp w (n / 2))∨(n % 2=1∧others S fp ids (n / 2))
def W5 (S:St C) (fp:Nat→Nat→Prop) (ids:List Nat) (id k:Nat):Prop:=(id=qy∧others S fp ids k)∨(id≠qy∧fp id k)
def lC (β:Nat→Value):Lf C→Value
 | .ptr id _=>β id
 | .vo id=>β id
 | _=>undef
theorem E8 {ids:List Nat} {k:Nat}:Tm S fp w ids (2*k)↔aH S.aj fp w k:=by
 have e1:2*k % 2=0:=by omega
 have e2:2*k / 2=k:=by omega
 simp [Tm,e1,e2]
theorem J0 {ids:List Nat} {k:Nat}:Tm S fp w ids (2*k+1)↔others S fp ids k:=by
 have e1:(2*k+1) % 2=1:=by omega
 have e2:(2*k+1) / 2=k:=by omega
 simp [Tm,e1,e2]
theorem p8 {ids:List Nat} {k:Nat}:W5 S fp ids qy k↔others S fp ids k:=by simp [W5]
theorem nM {ids:List Nat} {id:Nat} (h:id≠qy):W5 S fp ids id=fp id:=by funext k;simp [W5,h]
theorem zT (hp:∀ id ob,lk O id=some ob↔id∈c.ids∧lk S.aj id=some ob) (hg:qy∉c.ids) {k:Nat}:aH ((qy,.ghost)::O) (W5 S fp c.ids) w k↔aH S.aj fp w k:=by
 constructor
 ·refine fun h=>⟨h.1,fun id ob hi hf=>?_⟩
  by_cases hm:id∈c.ids
  ·have hne:id≠qy:=fun e=>hg (e▸hm)
   refine h.2 id ob ?_ (by rw [nM hne];exact hf);rw [aQ,if_neg hne];exact (hp id ob).2 ⟨hm,hi⟩
  ·exact h.2 qy .ghost (by rw [aQ,if_pos rfl]) (p8.2 ⟨id,ob,hi,hm,hf⟩)
 ·refine fun h=>⟨h.1,fun id ob hi hf=>?_⟩
  rw [aQ] at hi;split at hi
  ·rename_i e
   subst e;obtain ⟨i,o,h1,_,h3⟩:=p8.1 hf;exact h.2 i o h1 h3
  ·rename_i e
   rw [nM e] at hf;exact h.2 id ob ((hp id ob).1 hi).2 hf
theorem DU (hs:cK (K.gh kp kh hd) w0 0 S β fp nX w) (hp:∀ id ob,lk O id=some ob↔id∈c.ids∧lk S.aj id=some ob) (hmem:∀ x,x∈O→lk S.aj x.1=some x.2) (hfit:yJ c vs O r0)
  (xV:us.length=vs.length) (hn:vs.length≤nt) (hnt:nt≤1000) (hok:vs.all JM=true)
  (hv:∀ (i:Nat) (v:SV C),vs[i]?=some v→dq (K.gh kp kh hd) w S.aj β fp (aH S.aj fp w) v (us.getD i undef)) :
  cK (K.gh (Tm S fp w c.ids) (fun k=>w.heap[k]?) (fun _=>.agg (c.roots.map (lC β)).toArray)) w0 nt (Oh c vs O) β (W5 S fp c.ids) { tmps:=us.toArray++Array.replicate (nt-us.toArray.size) undef,defers:=[] } w:=by
 have hst:∀ k,aH S.aj fp w k→aH ((qy,Ob.ghost)::O) (W5 S fp c.ids) w k∧w.heap[k]?=w.heap[k]?:=fun k hk=>⟨(zT hp hfit.Pj).2 hk,rfl⟩
 have hkeep:∀ i,iT w w S.aj ((qy,Ob.ghost)::O) β β fp (W5 S fp c.ids) i:=fun i=>by
  refine ⟨rfl,fun t xs sh ho=>?_⟩;rw [aQ] at ho;split at ho
  ·cases ho
  ·rename_i e
   exact ⟨((hp i _).1 ho).2,fun k hk=>⟨by rw [nM e];exact hk,rfl⟩⟩
 refine ⟨hs.below,⟨rfl,hs.defers.2⟩,by simp;omega,fun id ob k ho hk=>?_,fun i j oi oj k hi hj lq kE=>?_,fun id ob ho=>?_,fun t v ht=>?_⟩
 ·have gW:lk ((qy,Ob.ghost)::O) id=some ob:=ho
  rw [aQ] at gW;split at gW
  ·rename_i e
   subst e;obtain ⟨i,o,h1,_,h3⟩:=p8.1 hk;exact hs.fresh i o k h1 h3
  ·rename_i e
   rw [nM e] at hk;exact hs.fresh id ob k ((hp id ob).1 gW).2 hk
 ·have eN:lk ((qy,Ob.ghost)::O) i=some oi:=hi
  have iK:lk ((qy,Ob.ghost)::O) j=some oj:=hj;rw [aQ] at eN iK
  by_cases ei:i=qy<;>by_cases ej:j=qy
  ·rw [ei,ej]
  ·rw [if_neg ej] at iK
   subst ei;rw [nM ej] at kE;obtain ⟨q,o,h1,h2,h3⟩:=p8.1 lq;obtain ⟨g1,g2⟩:=(hp j oj).1 iK;have:=hs.eH q j o oj k h1 g2 h3 kE;subst this;exact absurd g1 h2
  ·rw [if_neg ei] at eN
   subst ej;rw [nM ei] at lq;obtain ⟨q,o,h1,h2,h3⟩:=p8.1 kE;obtain ⟨g1,g2⟩:=(hp i oi).1 eN;have:=hs.eH q i o oi k h1 g2 h3 lq;subst this;exact absurd g1 h2
  ·rw [if_neg ei] at eN
   rw [if_neg ej] at iK;rw [nM ei] at lq;rw [nM ej] at kE;exact hs.eH i j oi oj k ((hp i oi).1 eN).2 ((hp j oj).1 iK).2 lq kE
 ·have gW:lk ((qy,Ob.ghost)::O) id=some ob:=ho
  rw [aQ] at gW;split at gW
  ·rename_i e
   cases gW;subst e
   exact fun k hk=>⟨p8.2 (J0.1 hk),rfl⟩
  ·rename_i e
   rw [nM e]
   have hne:ob ≠ .ghost:=fun e'=>sd hfit.gh (e'▸gW)
   exact (Pg hne (hs.aj id ob ((hp id ob).1 gW).2)).tr hst (fun _ _=>rfl) (fun _ ls _ i _=>hkeep i)
 ·have nq:lk (iY 0 vs++[(GB,.frame),(GB+1,.bz (true,c.roots) 0)]) t=some v:=ht
  rw [dc] at nq
  cases e1:lk (iY 0 vs) t with
  | some v'=>
   rw [e1] at nq;cases nq;obtain ⟨_,e2⟩:=m7 _ 0 t _ e1;simp only [Nat.sub_zero] at e2
   have hlt:t<us.length:=by rw [xV];exact ee e2
   have e4:(us.toArray++Array.replicate (nt-us.toArray.size) undef).getD t undef=us.getD t undef:=by
    simp [Array.getD_eq_getD_getElem?,Array.getElem?_append,hlt,List.getD]
   show dq _ w _ _ _ _ v ((us.toArray++Array.replicate (nt-us.toArray.size) undef).getD t undef);rw [e4];have hvv:=hv t v e2;have Qa:=List.all_eq_true.1 hok v (List.mem_of_getElem? e2)
   cases v with
   | one l=>exact (xP (show cI _ _ _ _ _ _ l _ from hvv)).tr hst fun i _=>hkeep i
   | agg ls=>obtain ⟨np,q1,q2⟩:=hvv;exact ⟨np,q1,(kM q2).tr hst fun i _=>hkeep i⟩
   | _=>cases Qa
  | none=>
   rw [e1] at nq;rw [aQ] at nq
   by_cases e2:t=GB
   ·rw [if_pos e2] at nq
    cases nq
    exact fun k hk=>⟨(zT hp hfit.Pj).2 (E8.1 hk),rfl⟩
   ·rw [if_neg e2,aQ] at nq
    by_cases e3:t=GB+1
    ·rw [if_pos e3] at nq
     cases nq;refine ⟨c.roots.map (lC β),rfl,by simp,fun i l hl=>?_⟩
     have e5:(c.roots.map (lC β)).getD i undef=lC β l:=by simp [List.getD,hl]
     rw [e5];have hm:=List.mem_of_getElem? hl;rw [←hfit.roots] at hm;obtain ⟨id,ob,h1,⟨rfl,ls,rfl⟩ | ⟨rfl,h2⟩⟩:=wU hm
     ·obtain ⟨b,cs,e,q1,_⟩:=hs.aj id _ (hmem _ h1)
      exact ⟨b,q1,q1⟩
     ·refine ⟨?_,rfl⟩
      have ho:=hs.aj id _ (hmem _ h1);show (β id).oneCell'=true
      rcases h2 with ⟨f,n,sh,ls,rfl⟩ | ⟨t,sh,ls,rfl⟩ | ⟨mk,kt,vt,xs,c,rfl⟩
      ·obtain ⟨us,q1,_⟩:=ho;rw [q1];rfl
      ·obtain ⟨us,q1,_⟩:=ho;rw [q1];rfl
      ·obtain ⟨b,es,q1,_⟩:=ho;rw [q1];rfl
    ·rw [if_neg e3] at nq
     cases nq
theorem Ra (hs:cK (K.gh kp kh hd) w0 0 S β fp nX w) (hp:∀ id ob,lk O id=some ob↔id∈c.ids∧lk S.aj id=some ob) (hmem:∀ x,x∈O→lk S.aj x.1=some x.2) (hkO:dJ O=c.ids) (hfit:yJ c vs O r0)
  (hap:∀ i,i∈c.eU→i∉gv S.env++dX (dA c.ids S.aj)) {w':World} {a':Act} {S2:St C} {β2:Nat→Value} {UW:Nat→Nat→Prop}
  (h2:cK (K.gh (Tm S fp w c.ids) (fun k=>w.heap[k]?) (fun _=>.agg (c.roots.map (lC β)).toArray)) w0 nt S2 β2 UW a' w') (ho:S2.aj=c.out r0++[(qy,.ghost)]) (hf:lk S2.env GB=some .frame) (hsu:lk S2.env (GB+1)=some (.bz (true,c.roots) 0)) :
  ∃ eG eD,cK (K.gh kp kh hd) w0 0 { S with aj:=c.out r0++dA c.ids S.aj } eG eD nX w'∧∀ k,aH S2.aj UW w' k→aH (c.out r0++dA c.ids S.aj) eD w' k:=by
 have hg:qy∉c.ids:=hfit.Pj
 have UQ:∀ k,aH S.aj fp w k→aH S2.aj UW w' k∧w'.heap[k]?=w.heap[k]?:=fun k hk=>(h2.env GB _ hf) k (E8.2 hk)
 have Fi:∀ id,id∈c.ids→lk S2.aj id=lk (c.out r0) id:=fun id hi=>by
  rw [ho,dc]
  cases e:lk (c.out r0) id with
  | some x=>rfl
  | none=>
   show lk [(qy,Ob.ghost)] id=none
   have hne:id≠qy:=fun e=>hg (by rw [←e];exact hi)
   rw [aQ,if_neg hne];rfl
 have UP:lk S2.aj qy=some .ghost:=by
  rw [ho,dc]
  cases e:lk (c.out r0) qy with
  | some x=>exact absurd (hfit.keys qy (E4 e)) hg
  | none=>simp [aQ]
 have CN:∀ k,others S fp c.ids k→UW qy k∧w'.heap[k]?=w.heap[k]?:=fun k hk=>(h2.aj qy _ UP) k (J0.2 hk)
 have hroot:∀ id,id∈c.ids→id∉c.eU→β2 id=β id:=fun id hi hr=>by
  obtain ⟨vals,q1,q2,q3⟩:=h2.env (GB+1) _ hsu
  have Np:(c.roots.map (lC β))=vals:=by
   have:Value.agg (c.roots.map (lC β)).toArray=Value.agg vals.toArray:=q1
   simpa using this
  have hin:∃ ob,(id,ob)∈O:=by
   rw [←hkO] at hi;obtain ⟨x,hx,e⟩:=List.mem_map.1 hi;exact ⟨x.2,by rw [←e];exact hx⟩
  obtain ⟨ob,hin⟩:=hin;have:=zU hin hfit.gh (by rw [hfit.rows];exact hr);rw [hfit.roots] at this
  rcases this with hm | hm
  ·obtain ⟨j,hj,e⟩:=List.getElem_of_mem hm
   have hl:c.roots[j]?=some (.ptr id 0):=by rw [List.getElem?_eq_getElem hj,e]
   obtain ⟨b,g1,g2⟩:=q3 j _ hl;rw [←Np] at g2
   have e5:(c.roots.map (lC β)).getD j undef=β id:=by simp [List.getD,hl,lC]
   rw [e5] at g2;rw [g1,g2]
  ·obtain ⟨j,hj,e⟩:=List.getElem_of_mem hm
   have hl:c.roots[j]?=some (.vo id):=by rw [List.getElem?_eq_getElem hj,e]
   have g2:=(q3 j _ hl).2;rw [←Np] at g2
   have e5:(c.roots.map (lC β)).getD j undef=β id:=by simp [List.getD,hl,lC]
   rw [e5] at g2;exact g2.symm
 let Nh:Nat→Value:=fun id=>if id∈c.ids then β2 id else β id
 let vv:Nat→Nat→Prop:=fun id k=>if id∈c.ids then UW id k else fp id k
 let O3:cm C:=c.out r0++dA c.ids S.aj
 have Ik:∀ id,lk O3 id=if id∈c.ids then lk (c.out r0) id else lk S.aj id:=fun id=>by
  show lk (c.out r0++dA c.ids S.aj) id=_;rw [dc,jy]
  by_cases hi:id∈c.ids
  ·rw [if_pos hi,if_pos hi]
   cases lk (c.out r0) id<;>rfl
  ·rw [if_neg hi,if_neg hi]
   cases e:lk (c.out r0) id with
   | some x=>exact absurd (hfit.keys id (E4 e)) hi
   | none=>rfl
 have hsame:∀ id ob k,id∉c.ids→lk S.aj id=some ob→fp id k→k<w'.heap.size∧w'.heap[k]?=w.heap[k]?:=fun id ob k hi gW hk=>by
  obtain ⟨_,e⟩:=CN k ⟨id,ob,gW,hi,hk⟩;have hlt:=(hs.fresh id ob k gW hk).2;refine ⟨?_,e⟩;rw [Array.getElem?_eq_getElem hlt] at e;exact (Array.getElem?_eq_some_iff.1 e).1
 have P8:∀ k,aH S2.aj UW w' k→aH O3 vv w' k:=fun k hk=>by
  refine ⟨hk.1,fun id ob hi hkk=>?_⟩;rw [Ik] at hi
  by_cases hm:id∈c.ids
  ·rw [if_pos hm,← Fi id hm] at hi
   simp only [vv,if_pos hm] at hkk;exact hk.2 id ob hi hkk
  ·rw [if_neg hm] at hi
   simp only [vv,if_neg hm] at hkk;exact hk.2 qy .ghost UP (CN k ⟨id,ob,hi,hm,hkk⟩).1
 have hstO:∀ k,aH S.aj fp w k→aH O3 vv w' k∧w'.heap[k]?=w.heap[k]?:=fun k hk=>⟨P8 k (UQ k hk).1,(UQ k hk).2⟩
 have WK:∀ i,i∉c.eU→iT w w' S.aj O3 β Nh fp vv i:=fun i hi=>by
  by_cases hm:i∈c.ids
  ·refine ⟨by simp only [Nh,if_pos hm];exact hroot i hm hi,fun t xs sh h=>?_⟩
   rw [Ik,if_pos hm] at h;exact absurd (hfit.rows' i (D7 h)) hi
  ·refine ⟨by simp only [Nh,if_neg hm],fun t xs sh h=>?_⟩
   rw [Ik,if_neg hm] at h;exact ⟨h,fun k hk=>⟨by simp only [vv,if_neg hm];exact hk,(hsame i _ k hm h hk).2⟩⟩
 have keepI:∀ i,i∈c.ids→iT w' w' S2.aj O3 β2 Nh UW vv i:=fun i hm=>by
  refine ⟨by simp only [Nh,if_pos hm],fun t xs sh h=>?_⟩;rw [Ik,if_pos hm,← Fi i hm] at h;exact ⟨h,fun k hk=>⟨by simp only [vv,if_pos hm];exact hk,rfl⟩⟩
 refine ⟨Nh,vv,⟨h2.below,⟨rfl,h2.defers.2⟩,rfl,fun id ob k hi hk=>?_,fun i j oi oj k hi hj lq kE=>?_,fun id ob hi=>?_,fun t v ht=>?_⟩,P8⟩
 ·have eN:lk O3 id=some ob:=hi
  rw [Ik] at eN
  by_cases hm:id∈c.ids
  ·rw [if_pos hm,← Fi id hm] at eN
   simp only [vv,if_pos hm] at hk;exact h2.fresh id ob k eN hk
  ·rw [if_neg hm] at eN
   simp only [vv,if_neg hm] at hk;exact ⟨(hs.fresh id ob k eN hk).1,(hsame id ob k hm eN hk).1⟩
 ·have eN:lk O3 i=some oi:=hi
  have iK:lk O3 j=some oj:=hj;rw [Ik] at eN iK
  by_cases mi:i∈c.ids<;>by_cases mj:j∈c.ids
  ·rw [if_pos mi,← Fi i mi] at eN
   rw [if_pos mj,← Fi j mj] at iK;simp only [vv,if_pos mi] at lq;simp only [vv,if_pos mj] at kE;exact h2.eH i j oi oj k eN iK lq kE
  ·rw [if_pos mi,← Fi i mi] at eN
   rw [if_neg mj] at iK;simp only [vv,if_pos mi] at lq;simp only [vv,if_neg mj] at kE;have:=h2.eH i qy oi .ghost k eN UP lq (CN k ⟨j,oj,iK,mj,kE⟩).1;exact absurd (this▸mi) hg
  ·rw [if_neg mi] at eN
   rw [if_pos mj,← Fi j mj] at iK;simp only [vv,if_neg mi] at lq;simp only [vv,if_pos mj] at kE;have:=h2.eH j qy oj .ghost k iK UP kE (CN k ⟨i,oi,eN,mi,lq⟩).1;exact absurd (this▸mj) hg
  ·rw [if_neg mi] at eN
   rw [if_neg mj] at iK;simp only [vv,if_neg mi] at lq;simp only [vv,if_neg mj] at kE;exact hs.eH i j oi oj k eN iK lq kE
 ·have eN:lk O3 id=some ob:=hi
  rw [Ik] at eN
  by_cases hm:id∈c.ids
  ·rw [if_pos hm] at eN
   have hne:ob ≠ .ghost:=fun e=>sd hfit.gh' (e▸eN)
   have h3:=(Pg (kp:=kp) (kh:=kh) (hd:=hd) hne (h2.aj id ob ((Fi id hm).trans eN))).tr (fun k hk=>⟨P8 k hk,rfl⟩) (fun _ _=>rfl) (fun kd ls e i hil=>keepI i (hfit.closed i ((lJ eN).2 kd ls e i hil)))
   have e1:vv id=UW id:=by funext k;simp only [vv,if_pos hm]
   have e2:Nh id=β2 id:=by simp only [Nh,if_pos hm]
   rw [e1,e2];exact h3
  ·rw [if_neg hm] at eN
   have h3:=(hs.aj id ob eN).tr hstO (fun k hk=>(hsame id ob k hm eN hk).2) (fun kd ls e i hil=>WK i fun hr=>hap i hr (List.mem_append.2 (.inr ((lJ (O:=dA c.ids S.aj) (n:=id) (by rw [jy,if_neg hm];exact eN)).2 kd ls e i hil))))
   have e1:vv id=fp id:=by funext k;simp only [vv,if_neg hm]
   have e2:Nh id=β id:=by simp only [Nh,if_neg hm]
   rw [e1,e2];exact h3
 ·exact (hs.env t v ht).tr hstO fun i hi=>WK i fun hr=>hap i hr (List.mem_append.2 (.inl (lK ht hi)))
end
theorem lB (hX:jk P X) (hC:Cons P X) (hm:P.follows .mixedOrders=true) {f:Nat} {fn:Func} {c:Code} (hf:P.funcs[f]?=some fn) (hb:fn.body=some c) (hB:iE fn.ntmps c=true) (hname:fn.name ≠ "runtime.NumGoroutine") (su:iR C) (hnt:fn.ntmps≤1000)
  (dec:cm C→List (Lf C)→List (Bool×List (Lf C))→Option su.R0) (CO:∀ os ls rs r0,dec os ls rs=some r0→os=su.out r0++[(qy,.ghost)]∧ls=su.roots∧rs=su.ret r0)
  (h:∀ vs O r0,dJ O=su.ids→su.g vs O=some r0→yJ su vs O r0∧vs.length≤fn.ntmps∧∃ F:Cf,gF X F fn su vs O dec=some r0):cG P X.K f (de su):=by
 refine ⟨⟨fn,hf,by rw [hb];rfl,hname⟩,fun kp kh hd w0 w S β fp vs us R k r hs hkey xV hv hgo=>?_,fun s hs=>?_⟩
 case refine_2=>
  simp only [de] at hs;split at hs
  ·rename_i he
   cases hs;exact ⟨rfl,he,fun vs O r0 hk hg=>(h vs O r0 hk hg).1.keys⟩
  ·cases hs
 simp only [de] at hgo;unfold DN at hgo;split at hgo
 case h_2=>cases hgo
 rename_i O hO;obtain ⟨hb1,hgo⟩:=az hgo;simp only [Bool.and_eq_true] at hb1
 cases hg:su.g (vs.map uQ) O with
 | none=>rw [hg] at hgo;cases hgo
 | some r0=>
 rw [hg] at hgo;simp only [Option.bind_some] at hgo;obtain ⟨hp,hmem,hkO⟩:=Am hO;obtain ⟨hfit,hn,F,hrun⟩:=h (vs.map uQ) O r0 hkO hg
 have ga:=DU (nt:=fn.ntmps) hs hp hmem hfit (by simpa using xV) hn hnt (Me hb1.2) (fun i v hi=>by
  rw [List.getElem?_map] at hi
  cases e:vs[i]? with
  | none=>rw [e] at hi;cases hi
  | some v0=>rw [e] at hi;cases hi;exact Pn (hv i v0 e))
 unfold gF at hrun
 have hbody:av fn=c:=by unfold av;rw [hb]
 rw [hbody,← OJ (kp:=Tm S fp w su.ids) (kh:=fun k=>w.heap[k]?) (hd:=fun _=>.agg (su.roots.map (lC β)).toArray)] at hrun;refine calls_of_wp hf hb (Go.wp_mono (pU (qJ hX) (C6 hC) hm F c 0 _ _ w _ hB ⟨_,_,ga⟩ hrun) ?_)
 have fin:∀ (a:Act) (w':World) (S':St C) (e:Ex),nR (X.gh (Tm S fp w su.ids) (fun k=>w.heap[k]?) (fun _=>.agg (su.roots.map (lC β)).toArray)).K w0 fn.ntmps S' a w'→(e = .norm∨e = .ret)→j8 X fn dec e S'=some r0 →
   a.defers=[]∧∃ v,(results fn a.tmps).run P w' = .ok v w'∧∃ (N3:Value) (rs:List (Bool×List (Lf C))) (nA:List Value) (S':St C) (eG:Nat→Value) (eD:Nat→Nat→Prop),Ending.returned v = .returned N3∧N3=pack rs nA∧fO rs=true∧k rs S'=some r ∧
   cK (X.K.gh kp kh hd) w0 0 S' eG eD nX w'∧cg (X.K.gh kp kh hd) w' S'.aj eG eD (aH S'.aj eD w') (flatten rs) nA:=by
  intro a w' S' e ⟨eG,eD,hs'⟩ he hk
  have hk:cond (tj fn.ntmps (fn.results.toList.map jW)) (match oZ X S' fn.results.toList with
   | some S0=>match MQ S0 (fn.results.toList.map jW) with
    | some S1=>match S1.canon (fn.results.toList.map jW) with
     | some S'=>match gR X S' (fn.results.toList.map Hw) with
      | some rs=>match lk S'.env GB,lk S'.env (GB+1) with
       | some .frame,some (.bz (true,ls) j)=>cond (Nat.beq j 0) (dec S'.aj ls rs) none
       | _,_=>none
      | none=>none
     | none=>none
    | none=>none
   | none=>none) none=some r0:=by rcases he with rfl | rfl<;>exact hk
  obtain ⟨ZY,hk⟩:=az hk;split at hk
  case h_2=>cases hk
  rename_i S0 hld;rw [←xM (kp:=Tm S fp w su.ids) (kh:=fun k=>w.heap[k]?) (hd:=fun _=>.agg (su.roots.map (lC β)).toArray)] at hld;obtain ⟨aL,hsL,_,hruns⟩:=xL (qJ hX) hs' hld ZY;split at hk
  case h_2=>cases hk
  rename_i S1 hfz;split at hk
  case h_2=>cases hk
  rename_i S2 Qg;split at hk
  case h_2=>cases hk
  rename_i rs hres;split at hk
  case h_2=>cases hk
  rename_i ls j qZ hsu;obtain ⟨hj,hk⟩:=az hk;have hj:=Nat.eq_of_beq_eq_true hj;subst hj;obtain ⟨d1,d2,d3⟩:=CO _ _ _ _ hk;subst d2 d3;rw [←rQ (kp:=Tm S fp w su.ids) (kh:=fun k=>w.heap[k]?) (hd:=fun _=>.agg (su.roots.map (lC β)).toArray)] at hres;obtain ⟨β2,UW,Ih⟩:=py (Ke hsL hfz) Qg;obtain ⟨np,h1,h2,h3⟩:=rP (qJ hX) Ih _ _ hres;obtain ⟨Nh,vv,hs3,P8⟩:=Ra hs hp hmem hkO hfit (IX hb1.1) Ih d1 qZ hsu;refine ⟨hs'.defers.1,pack (su.ret r0) np,?_,_,_,np,_,Nh,vv,rfl,rfl,h1,hgo,hs3,h2.1,fun i l hl=>HG (hfit.simple l (List.mem_of_getElem? hl)) P8 (h2.2 i l hl)⟩;rw [nB];simp only [Sem.run_bind,hruns,h3,Result.andThen_ok];rfl
 rintro (_ | _ | _ | _ | _ | _) a' w' hp'
 ·obtain ⟨S',hs',hk⟩:=hp';exact fin a' w' S' .norm hs' (.inl rfl) hk
 ·obtain ⟨S',hs',hk⟩:=hp';cases hk
 ·exact hp'.elim
 ·obtain ⟨S',hs',hk⟩:=hp';exact fin a' w' S' .ret hs' (.inr rfl) hk
 ·exact hp'.elim
 ·exact hp'.elim
def Ws:Lf C→Lf C→Bool
 | .ptr a b,.ptr c d=>Nat.beq a c&&Nat.beq b d
 | .vo a,.vo b=>Nat.beq a b
 | _,_=>false
def wV:List (Lf C)→List (Lf C)→Bool
 | [],[]=>true
 | a::r,b::s=>Ws a b&&wV r s
 | _,_=>false
theorem zV:∀ {l m:List (Lf C)},wV l m=true→l=m
 | [],[],_=>rfl
 | [],_::_,h=>by cases h
 | _::_,[],h=>by cases h
 | a::r,b::s,h=>by
  simp only [wV,Bool.and_eq_true] at h;rw [zV h.2];have h1:=h.1;unfold Ws at h1;split at h1
  ·simp only [Bool.and_eq_true] at h1
   rw [Nat.eq_of_beq_eq_true h1.1,Nat.eq_of_beq_eq_true h1.2]
  ·rw [Nat.eq_of_beq_eq_true h1]
  ·cases h1
def wO (l m:List Nat):Bool:=l.all fun i=>m.any (Nat.beq i)
theorem wN {l m:List Nat} (h:wO l m=true):∀ i,i∈l→i∈m:=fun i hi=>by
 obtain ⟨j,hj,e⟩:=List.any_eq_true.1 (List.all_eq_true.1 h i hi);rw [Nat.eq_of_beq_eq_true e];exact hj
theorem fit_of {c:iR C} {vs:List (SV C)} {O:cm C} {r0:c.R0} (h1:wV (gO O) c.roots=true) (h2:decide (oI O=c.eU)=true) (h3:tL O=true) (h4:tL (c.out r0)=true) (h5:wO (dJ (c.out r0)) c.ids=true)
  (h6:wO (oI (c.out r0)) c.eU=true) (h7:wO (dX (c.out r0)) c.ids=true) (h8:c.ids.any (Nat.beq qy)=false) (h9:(flatten (c.ret r0)).all pS=true):yJ c vs O r0:=
 ⟨zV h1,of_decide_eq_true h2,h3,h4,wN h5,wN h6,wN h7,lh h8,fun l hl=>List.all_eq_true.1 h9 l hl⟩
theorem gX {f:Nat} {fn:Func} (hf:P.funcs[f]?=some fn) (hb:fn.body.isNone=false) (hname:fn.name ≠ "runtime.NumGoroutine") (su:iR C) (hg:∀ vs O,su.g vs O=none):cG P K f (de su):=by
 refine ⟨⟨fn,hf,hb,hname⟩,fun kp kh hd w0 w S β fp vs us R k r hs hkey xV hv hgo=>?_,fun s hs=>?_⟩
 case refine_2=>
  simp only [de] at hs;split at hs
  ·rename_i he
   cases hs;exact ⟨rfl,he,fun vs O r0 hk hg'=>by rw [hg] at hg';cases hg'⟩
  ·cases hs
 simp only [de] at hgo;unfold DN at hgo;split at hgo
 case h_2=>cases hgo
 obtain ⟨_,hgo⟩:=az hgo;rw [hg] at hgo;cases hgo
end
inductive PK (Ty:Type):Type where
 | int (k:IntKind)
 | bool
 | str
 | dP
 | row (t:Ty)
 | el (t:Ty)
 | ptr (t:Ty)
 | imm (b:Bool) (l:List Nat)
section
variable {Ty:Type} [DecidableEq Ty] {C:Ty→Type} (K:Cd C)
abbrev PK.T (C:Ty→Type):PK Ty→Type
 | .int _=>Int
 | .bool=>Bool
 | .str=>ByteArray
 | .dP=>Option Nat
 | .row t=>List (C t)
 | .el t=>C t
 | .ptr t=>C t
 | .imm .. =>Unit
def Q4 (t t':Ty) (x:C t):Option (C t'):=match decEq t t' with
 | isTrue h=>some (h▸x)
 | isFalse _=>none
def Ib:List Nat→List (Lf C)→Bool
 | [],[]=>true
 | n::r,.dP (some m)::ls=>Nat.beq n m&&Ib r ls
 | _,_=>false
def ZQ (l:List Nat):List (Lf C):=l.map fun n=>.dP (some n)
def PK.deL:(p:PK Ty)→(Bool×List (Lf C))→Option (p.T C)
 | .int k,(false,[.int k' n])=>cond (decide (k=k')) (some n) none
 | .bool,(false,[.bool b])=>some b
 | .str,(false,[.str s])=>some s
 | .dP,(false,[.dP f])=>some f
 | .row t,(false,[.row t' xs])=>kU t' t xs
 | .el t,(true,ls)=>K.dec t ls
 | .imm b l,(b',ls)=>cond ((b==b')&&Ib l ls) (some ()) none
 | _,_=>none
def PK.Tv:(p:PK Ty)→p.T C→Bool×List (Lf C)
 | .int k,n=>(false,[.int k n])
 | .bool,b=>(false,[.bool b])
 | .str,s=>(false,[.str s])
 | .dP,f=>(false,[.dP f])
 | .row t,xs=>(false,[.row t xs])
 | .el t,x=>(true,K.enc t x)
 | .ptr t,x=>(false,[.eS t x 0])
 | .imm b l,_=>(b,ZQ l)
def PK.deS:(p:PK Ty)→SV C→Option (p.T C)
 | .int k,.one (.int k' n)=>cond (decide (k=k')) (some n) none
 | .bool,.one (.bool b)=>some b
 | .str,.one (.str s)=>some s
 | .dP,.one (.dP f)=>some f
 | .row t,.one (.row t' xs)=>kU t' t xs
 | .el t,.agg ls=>K.dec t ls
 | .ptr t,.one (.eS t' x 0)=>Q4 t' t x
 | .imm true l,.agg ls=>cond (Ib l ls) (some ()) none
 | _,_=>none
def PK.Tu:(p:PK Ty)→p.T C→SV C
 | .int k,n=>.one (.int k n)
 | .bool,b=>.one (.bool b)
 | .str,s=>.one (.str s)
 | .dP,f=>.one (.dP f)
 | .row t,xs=>.one (.row t xs)
 | .el t,x=>.agg (K.enc t x)
 | .ptr t,x=>.one (.eS t x 0)
 | .imm _ l,_=>.agg (ZQ l)
def PK.pt:PK Ty→Option Ty
 | .ptr t=>some t
 | _=>none
abbrev yS (C:Ty→Type):List (PK Ty)→Type
 | []=>Unit
 | [p]=>p.T C
 | p::q::r=>p.T C×yS C (q::r)
abbrev Nf (C:Ty→Type):List (PK Ty)→Type→Type
 | [],R=>R
 | p::r,R=>p.T C→Nf C r R
def app {R:Type}:(ps:List (PK Ty))→Nf C ps (Option R)→List (SV C)→Option R
 | [],g,[]=>g
 | p::r,g,v::vs=>match p.deS K v with
  | some x=>app r (g x) vs
  | none=>none
 | _,_,_=>none
def IW {R:Type}:(ps:List (PK Ty))→Nf C ps (Option R)→List (Bool×List (Lf C))→Option R
 | [],g,[]=>g
 | p::r,g,v::vs=>match p.deL K v with
  | some x=>IW r (g x) vs
  | none=>none
 | _,_,_=>none
def Gh {R V:Type} (e:(p:PK Ty)→p.T C→V):(ps:List (PK Ty))→Nf C ps (Option R)→(List V→Option R→Prop)→Prop
 | [],g,Φ=>Φ [] g
 | p::r,g,Φ=>∀ x:p.T C,Gh e r (g x) fun vs o=>Φ (e p x::vs) o
def enR:(ps:List (PK Ty))→yS C ps→List (Bool×List (Lf C))
 | [],_=>[]
 | [p],x=>[p.Tv K x]
 | p::q::r,x=>p.Tv K x.1::enR (q::r) x.2
def iX:(ps:List (PK Ty))→List (Bool×List (Lf C))→Option (yS C ps)
 | [],[]=>some ()
 | [p],[x]=>p.deL K x
 | p::q::r,x::xs=>match p.deL K x with
  | some y=>match iX (q::r) xs with
   | some z=>some (y,z)
   | none=>none
  | none=>none
 | _,_=>none
abbrev sY (C:Ty→Type):List Ty→List (PK Ty)→Type
 | [],rs=>yS C rs
 | [t],[]=>List (C t)
 | t::u::os,rs=>List (C t)×sY C (u::os) rs
 | [t],r::rs=>List (C t)×yS C (r::rs)
def Y9:(os:List Ty)→(rs:List (PK Ty))→sY C os rs→List (Lf C)
 | [],_,_=>[]
 | [t],[],x=>[.row t x]
 | t::u::os,rs,x=>.row t x.1::Y9 (u::os) rs x.2
 | [t],_::_,x=>[.row t x.1]
def reW:(os:List Ty)→(rs:List (PK Ty))→sY C os rs→List (Bool×List (Lf C))
 | [],rs,x=>enR K rs x
 | [_],[],_=>[]
 | _::u::os,rs,x=>reW (u::os) rs x.2
 | [_],r::rs,x=>enR K (r::rs) x.2
def OK (t:Ty):Lf C→Option (List (C t))
 | .row t' xs=>kU t' t xs
 | _=>none
def Bh:(os:List Ty)→(rs:List (PK Ty))→List (Lf C)→List (Bool×List (Lf C))→Option (sY C os rs)
 | [],rs,[],l=>iX K rs l
 | [t],[],[x],[]=>OK t x
 | t::u::os,rs,x::xs,l=>match OK t x with
  | some y=>match Bh (u::os) rs xs l with
   | some z=>some (y,z)
   | none=>none
  | none=>none
 | [t],r::rs,[x],l=>match OK t x with
  | some y=>match iX K (r::rs) l with
   | some z=>some (y,z)
   | none=>none
  | none=>none
 | _,_,_,_=>none
variable {K}
theorem yu {t t':Ty} {xs:List (C t)} {ys:List (C t')} (h:kU t t' xs=some ys):Lf.row t xs=Lf.row t' ys:=by
 unfold kU at h;split at h
 ·rename_i e _;subst e;cases h;rfl
 ·cases h
theorem Q3 {t t':Ty} {x:C t} {y:C t'} (h:Q4 t t' x=some y):Lf.eS t x 0=Lf.eS t' y 0:=by
 unfold Q4 at h;split at h
 ·rename_i e _;subst e;cases h;rfl
 ·cases h
theorem int_eq {k k':IntKind} {n m:Int} (h:cond (decide (k=k')) (some n) none=some m):(Lf.int k' n:Lf C)=Lf.int k m:=by
 by_cases e:k=k'
 ·subst e;rw [decide_eq_true rfl] at h;cases h;rfl
 ·rw [decide_eq_false e] at h;cases h
theorem CJ:∀ {l:List Nat} {ls:List (Lf C)},Ib l ls=true→ls=ZQ l
 | [],[],_=>rfl
 | [],_::_,h=>by simp [Ib] at h
 | n::r,[],h=>by simp [Ib] at h
 | n::r,x::ls,h=>by
  unfold Ib at h;split at h
  ·rename_i e1 e2;cases e1
  ·rename_i e1 e2
   cases e1;cases e2;rw [Bool.and_eq_true] at h;obtain rfl:=Nat.eq_of_beq_eq_true h.1;rw [CJ h.2];rfl
  ·cases h
theorem II {p:PK Ty} {x:Bool×List (Lf C)} {y:p.T C} (h:p.deL K x=some y):x=p.Tv K y:=by
 unfold PK.deL at h;split at h
 ·simp only [PK.Tv];rw [int_eq h]
 ·cases h;rfl
 ·cases h;rfl
 ·cases h;rfl
 ·simp only [PK.Tv];rw [yu h]
 ·simp only [PK.Tv];rw [K.jD _ _ _ h]
 ·rename_i b l b' ls
  obtain ⟨h1,_⟩:=az h;rw [Bool.and_eq_true] at h1
  have e1:b=b':=by simpa using h1.1
  rw [CJ h1.2,e1];rfl
 ·cases h
theorem deS_eq {p:PK Ty} {x:SV C} {y:p.T C} (h:p.deS K x=some y):x=p.Tu K y:=by
 unfold PK.deS at h;split at h
 ·simp only [PK.Tu];rw [int_eq h]
 ·cases h;rfl
 ·cases h;rfl
 ·cases h;rfl
 ·simp only [PK.Tu];rw [yu h]
 ·simp only [PK.Tu];rw [K.jD _ _ _ h]
 ·simp only [PK.Tu];rw [Q3 h]
 ·obtain ⟨h1,_⟩:=az h
  rw [CJ h1];rfl
 ·cases h
theorem F6 {R:Type}:∀ (ps:List (PK Ty)) (g:Nf C ps (Option R)) (vs:List (SV C)) (r:R) (Φ:List (SV C)→Option R→Prop),app K ps g vs=some r→Gh (PK.Tu K) ps g Φ→Φ vs (some r)∧vs.length=ps.length
 | [],g,[],r,Φ,h,t=>by
  simp only [app] at h;subst h;exact ⟨t,rfl⟩
 | [],g,_::_,r,Φ,h,t=>by simp [app] at h
 | p::ps,g,[],r,Φ,h,t=>by simp [app] at h
 | p::ps,g,v::vs,r,Φ,h,t=>by
  simp only [app] at h;split at h
  ·rename_i x hx
   have:=F6 ps (g x) vs r (fun us o=>Φ (p.Tu K x::us) o) h (t x);rw [deS_eq hx];exact ⟨this.1,by simp [this.2]⟩
  ·cases h
theorem Bu {R:Type}:∀ (ps:List (PK Ty)) (g:Nf C ps (Option R)) (vs:List (Bool×List (Lf C))) (r:R) (Φ:List (Bool×List (Lf C))→Option R→Prop),IW K ps g vs=some r→Gh (PK.Tv K) ps g Φ→Φ vs (some r)∧vs.length=ps.length
 | [],g,[],r,Φ,h,t=>by
  simp only [IW] at h;subst h;exact ⟨t,rfl⟩
 | [],g,_::_,r,Φ,h,t=>by simp [IW] at h
 | p::ps,g,[],r,Φ,h,t=>by simp [IW] at h
 | p::ps,g,v::vs,r,Φ,h,t=>by
  simp only [IW] at h;split at h
  ·rename_i x hx
   have:=Bu ps (g x) vs r (fun us o=>Φ (p.Tv K x::us) o) h (t x);rw [II hx];exact ⟨this.1,by simp [this.2]⟩
  ·cases h
theorem C5:∀ (ps:List (PK Ty)) (l:List (Bool×List (Lf C))) (r:yS C ps),iX K ps l=some r→l=enR K ps r
 | [],[],r,h=>rfl
 | [],_::_,r,h=>by simp [iX] at h
 | [p],[],r,h=>by simp [iX] at h
 | [p],[x],r,h=>by
  simp only [iX] at h;simp only [enR];rw [II h]
 | [p],x::y::z,r,h=>by simp [iX] at h
 | p::q::ps,[],r,h=>by simp [iX] at h
 | p::q::ps,x::xs,r,h=>by
  simp only [iX] at h;split at h
  ·rename_i y hy
   split at h
   ·rename_i z hz
    cases h;simp only [enR];rw [II hy,C5 (q::ps) xs z hz]
   ·cases h
  ·cases h
theorem Cg {t:Ty} {x:Lf C} {y:List (C t)} (h:OK t x=some y):x = .row t y:=by
 unfold OK at h;split at h
 ·exact yu h
 ·cases h
theorem QJ:∀ (os:List Ty) (rs:List (PK Ty)) (ls:List (Lf C)) (l:List (Bool×List (Lf C))) (r:sY C os rs),Bh K os rs ls l=some r→ls=Y9 os rs r∧l=reW K os rs r
 | [],rs,[],l,r,h=>by
  simp only [Bh] at h;exact ⟨rfl,C5 rs l r h⟩
 | [],rs,_::_,l,r,h=>by simp [Bh] at h
 | [t],[],[x],[],r,h=>by
  simp only [Bh] at h;simp only [Y9,reW];exact ⟨by rw [Cg h],trivial⟩
 | [t],[],[],l,r,h=>by simp [Bh] at h
 | [t],[],[x],_::_,r,h=>by simp [Bh] at h
 | [t],[],_::_::_,l,r,h=>by simp [Bh] at h
 | [t],p::rs,[],l,r,h=>by simp [Bh] at h
 | [t],p::rs,[x],l,r,h=>by
  simp only [Bh] at h;split at h
  ·rename_i y hy
   split at h
   ·rename_i z hz
    cases h;simp only [Y9,reW];exact ⟨by rw [Cg hy],C5 _ _ _ hz⟩
   ·cases h
  ·cases h
 | [t],p::rs,_::_::_,l,r,h=>by simp [Bh] at h
 | t::u::os,rs,[],l,r,h=>by simp [Bh] at h
 | t::u::os,rs,x::xs,l,r,h=>by
  simp only [Bh] at h;split at h
  ·rename_i y hy
   split at h
   ·rename_i z hz
    cases h;have:=QJ (u::os) rs xs l z hz;simp only [Y9,reW];exact ⟨by rw [Cg hy,← this.1],this.2⟩
   ·cases h
  ·cases h
def kD (K:Cd C) (ps rs:List (PK Ty)) (G:Nf C ps (Option (yS C rs))):iu C:={ R0:=yS C rs,pt:=ps.map PK.pt,ret:=fun r=>enR K rs r,g:=app K ps G }
def mkW (K:Cd C) (ps:List (PK Ty)) (os:List Ty) (rs:List (PK Ty)) (G:Nf C ps (Option (sY C os rs))):rA C:={ R0:=sY C os rs,out:=fun r=>Y9 os rs r,ret:=fun r=>reW K os rs r,g:=IW K ps G }
variable {P:Program} {X:Cx C}
theorem Zi (hX:jk P X) (hC:Cons P X) (hm:P.follows .mixedOrders=true) {f:Nat} {fn:Func} (hf:P.funcs[f]?=some fn) (hb:fn.body=some (av fn)) (hB:iE fn.ntmps (av fn)=true) (hname:(fn.name == "runtime.NumGoroutine")=false)
  {ps rs:List (PK Ty)} {G:Nf C ps (Option (yS C rs))} (F:Cf) (hn:Nat.ble ps.length fn.ntmps=true) (t:Gh (PK.Tu X.K) ps G fun vs o=>db X F fn vs (iX X.K rs)=o):cL P X.K f (kD X.K ps rs G):=
 Vh hX hC hm hf hb hB (by simpa using hname) _ (iX X.K rs) (fun l r h=>C5 rs l r h) fun vs r0 h=>by
  have:=F6 ps G vs r0 _ h t;exact ⟨by rw [this.2];exact Nat.le_of_ble_eq_true hn,F,this.1⟩
end
section
variable {Ty:Type} [DecidableEq Ty] {C:Ty→Type}
variable {P:Program} {X:Cx C} {K:Cd C} {w0 w:World} {nt:Nat} {S:St C} {β:Nat→Value} {fp:Nat→Nat→Prop} {a:Act} {R:Type} {r:R}
def pJ (P:Program) (K:Cd C) (f:Nat) (c:rA C):Prop:=
 (∃ fn,P.funcs[f]?=some fn∧fn.body.isNone=false∧fn.name ≠ "runtime.NumGoroutine") ∧
 ∀ (w0 w:World) (rs:List (Bool×List (Lf C))) (kG:List Value) (r0:c.R0) (G:Nat→Nat→Prop),K.inv w0→Below w0.heap.size w0 w→fO rs=true→kG.length=(flatten rs).length →
  (∀ m k,G m k→w0.heap.size≤k∧k<w.heap.size)→(∀ m m' k,G m k→G m' k→m=m') →
  (∀ (m:Nat) (l:Lf C),(flatten rs)[m]?=some l→l.plain=true∧Own K w w0.heap.size (G m) l (kG.getD m undef))→c.g rs=some r0 →
  Calls P f (dh rs kG).toArray w fun e w'=>∃ v,e = .returned v∧Below w0.heap.size w0 w'∧(∀ k,k<w.heap.size→(∀ m,¬ G m k)→k<w'.heap.size∧w'.heap[k]?=w.heap[k]?) ∧
   ∃ (nA:List Value) (G':Nat→Nat→Prop),v=pack (c.ret r0) nA∧nA.length=(flatten (c.ret r0)).length∧fO (c.ret r0)=true ∧
    (∀ m k,G' m k→((∃ m0,G m0 k)∨w.heap.size≤k)∧w0.heap.size≤k∧k<w'.heap.size)∧(∀ m m' k,G' m k→G' m' k→m=m') ∧
    ∀ (m:Nat) (l:Lf C),(flatten (c.ret r0))[m]?=some l→Own K w' w0.heap.size (G' m) l (nA.getD m undef)
def oH (X:Cx C) (F:Cf) (fn:Func) (rs:List (Bool×List (Lf C))) (dec:List (Lf C)→List (Bool×List (Lf C))→Option R):Option R:=run X F (av fn) 0 (Ca rs) (xR X fn [] dec)
theorem Vg (hX:jk P X) (hC:Cons P X) (hm:P.follows .mixedOrders=true) {f:Nat} {fn:Func} {c:Code} (hf:P.funcs[f]?=some fn) (hb:fn.body=some c) (hB:iE fn.ntmps c=true) (hname:fn.name ≠ "runtime.NumGoroutine") (co:rA C)
  (dec:List (Lf C)→List (Bool×List (Lf C))→Option co.R0) (hd:∀ os rs r0,dec os rs=some r0→os=[]∧rs=co.ret r0)
  (h:∀ rs r0,co.g rs=some r0→rs.length≤fn.ntmps∧∃ F:Cf,∀ kp kh hd,oH (X.gh kp kh hd) F fn rs dec=some r0):pJ P X.K f co:=by
 refine ⟨⟨fn,hf,by rw [hb];rfl,hname⟩,fun w0 w rs kG r0 G hi0 hb0 hok xV hfrG hdjG kS hg=>?_⟩;obtain ⟨hn,F,hr⟩:=h rs r0 hg
 let kp:Nat→Prop:=fun k=>k / 2<w.heap.size∧∀ m,¬ G m (k / 2)
 have UM:∀ k,kp (2*k)↔(k<w.heap.size∧∀ m,¬ G m k):=fun k=>by
  have e:2*k / 2=k:=by omega
  simp only [kp,e]
 let kh:Nat→Option Obj:=fun k=>w.heap[k]?
 let hh:Nat→Value:=fun m=>kG.getD m undef
 have hr:=hr kp kh hh;have ga:=HF (K:=X.K.gh kp kh hh) (nt:=fn.ntmps) hi0 hb0 hok xV hn hfrG hdjG (fun m l hm=>⟨(kS m l hm).1,oJ (kS m l hm).2⟩) (fun k hk=>(UM k).1 hk) (fun k=>rfl) (fun m=>rfl);unfold oH at hr
 have hbody:av fn=c:=by unfold av;rw [hb]
 rw [hbody] at hr;refine calls_of_wp hf hb (Go.wp_mono (pU (qJ hX) (C6 hC) hm F c 0 _ _ w _ hB ⟨_,_,ga⟩ hr) ?_)
 have fin:∀ (a:Act) (w':World) (S':St C) (e:Ex),nR (X.gh kp kh hh).K w0 fn.ntmps S' a w'→(e = .norm∨e = .ret)→xR (X.gh kp kh hh) fn [] dec e S'=some r0 →
   a.defers=[]∧∃ v,(results fn a.tmps).run P w' = .ok v w'∧∃ N3,Ending.returned v = .returned N3∧Below w0.heap.size w0 w'∧(∀ k,k<w.heap.size→(∀ m,¬ G m k)→k<w'.heap.size∧w'.heap[k]?=w.heap[k]?) ∧
   ∃ (nA:List Value) (G':Nat→Nat→Prop),N3=pack (co.ret r0) nA∧nA.length=(flatten (co.ret r0)).length∧fO (co.ret r0)=true ∧
    (∀ m k,G' m k→((∃ m0,G m0 k)∨w.heap.size≤k)∧w0.heap.size≤k∧k<w'.heap.size)∧(∀ m m' k,G' m k→G' m' k→m=m') ∧
    ∀ (m:Nat) (l:Lf C),(flatten (co.ret r0))[m]?=some l→Own X.K w' w0.heap.size (G' m) l (nA.getD m undef):=by
  intro a w' S' e ⟨eG,eD,hs'⟩ he h
  have h:(match lk S'.env GB with
   | some .frame=>match gR (X.gh kp kh hh) S' fn.results.toList,roots S' 0 [] with
    | some rs',some rt=>match cV S' (rt++flatten rs') with
     | some (ls',_,false)=>dec (ls'.take rt.length) (reshape rs' (ls'.drop rt.length))
     | _=>none
    | _,_=>none
   | _=>none)=some r0:=by
   rcases he with he | he<;>subst he<;>exact h
  split at h
  case h_2=>cases h
  rename_i UQ;split at h
  case h_2=>cases h
  rename_i rs' rt hres hroot
  have hrt:rt=[]:=by simp only [roots,Option.some.injEq] at hroot;exact hroot.symm
  subst hrt;split at h
  case h_2=>cases h
  rename_i ls' S1 habs;obtain ⟨np,h1,h2,h3⟩:=rP (qJ hX) hs' _ rs' hres;obtain ⟨_,_,_,g3,G',g4,g5,g6⟩:=qi hs' ([]++flatten rs') _ S'.aj ls' S1 false (fun _ _ h=>h) habs (by simpa using h2);obtain ⟨ho,hret⟩:=hd _ _ _ h
  have hlen:ls'.length=(flatten rs').length:=by rw [g3];simp
  simp only [List.length_nil,List.drop_zero] at hret;obtain ⟨e1,e2⟩:=nC rs' ls' hlen
  have ZX:ls'=flatten (co.ret r0):=by rw [←hret,e1]
  have qZ:∀ k,kp (2*k)→aH S'.aj eD w' k∧w'.heap[k]?=w.heap[k]?:=fun k hk=>hs'.env GB _ UQ k hk
  refine ⟨hs'.defers.1,pack rs' np,?_,_,rfl,hs'.below,fun k h1 h2=>⟨(qZ k ((UM k).2 ⟨h1,h2⟩)).1.1,(qZ k ((UM k).2 ⟨h1,h2⟩)).2⟩,np,G',?_,?_,?_,fun m k hk=>?_,fun m m' k h1 h2=>g5 m m' k h1 h2,fun m l hm=>?_⟩
  ·rw [nB]
   simp only [Sem.run_bind,h3,Result.andThen_ok];rfl
  ·rw [←hret];exact (lE e2).symm
  ·rw [←hret,e1,hlen];exact h2.1
  ·rw [←hret,ic e2];exact h1
  ·obtain ⟨id,ob,q1,q2,q3⟩:=g4 m k hk
   refine ⟨?_,hs'.fresh id ob k q1 q3⟩
   by_cases hc:∃ m0,G m0 k
   ·exact .inl hc
   ·right
    rcases Nat.lt_or_ge k w.heap.size with hlt | hge
    ·exact absurd q3 ((qZ k ((UM k).2 ⟨hlt,fun m hm=>hc ⟨m,hm⟩⟩)).1.2 id ob q1)
    ·exact hge
  ·rw [←ZX] at hm
   exact Ck ((g6 m l hm).1 rfl)
 rintro (_ | _ | _ | _ | _ | _) a' w' hp
 ·obtain ⟨S',hs',hk⟩:=hp;exact fin a' w' S' .norm hs' (.inl rfl) hk
 ·obtain ⟨S',hs',hk⟩:=hp;cases hk
 ·exact hp.elim
 ·obtain ⟨S',hs',hk⟩:=hp;exact fin a' w' S' .ret hs' (.inr rfl) hk
 ·exact hp.elim
 ·exact hp.elim
def XK (K:Cd C):Cx C:={ K:=K,tk:=fun _=>none,KM:=fun _=>none }
def oK {R:Type} (X:Cx C) (S:St C):List (SV C)→(List (Bool×List (Lf C))→List s9→Option R)→Option R
 | [],k=>k [] []
 | .one l::r,k=>qA X S [l] fun ls t=>oK X S r fun rs t'=>k ((false,ls)::rs) (t++t')
 | .agg ls::r,k=>qA X S ls fun ls t=>oK X S r fun rs t'=>k ((true,ls)::rs) (t++t')
 | _,_=>none
def Yw:s9→Bool
 | some (_,_::_)=>false
 | _=>true
def uh (K:Cd C) (f:Nat) (c:rA C):lz C:=⟨fun R vs S k=>oK (XK K) S vs fun rs tg=>cond (xH (fK tg)&&tg.all Yw) (Option.bind (c.g rs) fun r=>iW S.base fun b=>match bN (65536*f+4294967296*b) (c.ret r) with
 | (rs',news)=>match ({ S with aj:=dA (fK tg) S.aj }:St C).kQ news with
  | some S'=>k rs' S'
  | none=>none) none,none⟩
theorem xC {kp:Nat→Prop} {kh:Nat→Option Obj} {hd:Nat→Value}:∀ (vs:List (SV C)) (k:List (Bool×List (Lf C))→List s9→Option R),oK (X.gh kp kh hd) S vs k=oK X S vs k
 | [],k=>rfl
 | .one l::r,k=>by simp only [oK,rX,xC r]
 | .agg ls::r,k=>by simp only [oK,rX,xC r]
 | .rC _::r,k=>rfl
 | .lX::r,k=>rfl
 | .jo _ _::r,k=>rfl
 | .frame::r,k=>rfl
 | .bz _ _::r,k=>rfl
theorem xB (hs:cK X.K w0 nt S β fp a w):∀ {vs:List (SV C)} {us:List Value} {kk:List (Bool×List (Lf C))→List s9→Option R},us.length=vs.length →
  (∀ (i:Nat) (v:SV C),vs[i]?=some v→dq X.K w S.aj β fp (aH S.aj fp w) v (us.getD i undef))→oK X S vs kk=some r →
  ∃ (rs:List (Bool×List (Lf C))) (tg:List s9) (kG:List Value) (G:Nat→Nat→Prop),kk rs tg=some r∧fO rs=true∧us=dh rs kG∧yH X.K w w0.heap.size S β fp G (flatten rs) tg kG
 | [],us,kk,hl,hv,h=>by
  have e:us=[]:=List.eq_nil_of_length_eq_zero (by simpa using hl);subst e;exact ⟨[],[],[],fun _ _=>False,h,rfl,rfl,rfl,rfl,fun m l hm=>by simp [flatten] at hm⟩
 | v::vs,us,kk,hl,hv,h=>by
  obtain ⟨u,us,rfl⟩:∃ u np,us=u::np:=by
   cases us with
   | nil=>simp at hl
   | cons u us=>exact ⟨u,us,rfl⟩
  have hv0:dq X.K w S.aj β fp (aH S.aj fp w) v u:=hv 0 v rfl
  have J3:∀ (i:Nat) (v:SV C),vs[i]?=some v→dq X.K w S.aj β fp (aH S.aj fp w) v (us.getD i undef):=fun i v' hi=>hv (i+1) v' (by simpa using hi)
  have hl1:us.length=vs.length:=by simpa using hl
  cases v with
  | one l=>
   simp only [oK] at h
   obtain ⟨ls',t1,G1,h1,h2,h3⟩:=oL hs (ls:=[l]) (us:=[u]) ⟨rfl,fun i l' hi=>by cases i with | zero=>simp at hi;subst hi;exact hv0 | succ i=>simp at hi⟩ h
   obtain ⟨rs,tg,kG,G,q1,q2,q3,q4⟩:=xB hs hl1 J3 h1;have hlen:ls'.length=1:=h2;refine ⟨(false,ls')::rs,t1++tg,[u]++kG,_,q1,by simp [fO,hlen,q2],?_,lA h3 q4⟩;simp [dh,ml,hlen,q3]
  | agg ls=>
   simp only [oK] at h;obtain ⟨zk,e,hl⟩:=hv0;obtain ⟨ls',t1,G1,h1,h2,h3⟩:=oL hs hl h;obtain ⟨rs,tg,kG,G,q1,q2,q3,q4⟩:=xB hs hl1 J3 h1;refine ⟨(true,ls')::rs,t1++tg,zk++kG,_,q1,by simp [fO,q2],?_,lA h3 q4⟩;have e1:zk.length=ls'.length:=h3.1;simp [dh,ml,← e1,q3,e]
  | _=>simp [oK] at h
theorem C1 {f:Nat} {c:rA C} (hc:pJ P K f c):cG P K f (uh K f c):=by
 obtain ⟨hfn,mG⟩:=hc;refine ⟨hfn,fun kp kh hd w0 w S β fp vs us R k r hs hkey xV hv h=>?_,fun s hs=>by cases hs⟩;unfold uh at h;simp only at h;rw [←xC (kp:=kp) (kh:=kh) (hd:=hd)] at h;obtain ⟨rs,tg,kG,G,h,hok,hargs,hulen,htl,hG⟩:=xB (X:=(XK K).gh kp kh hd) hs xV hv h;obtain ⟨hnd,h⟩:=az h;simp only [Bool.and_eq_true] at hnd;have hnd:=tK hnd.1
 cases hg:c.g rs with
 | none=>rw [hg] at h;cases h
 | some r0=>
  rw [hg] at h;simp only [Option.bind_some,jj] at h
  let G0:Nat→Nat→Prop:=fun m k=>m<(flatten rs).length∧G m k
  have W4:∀ m,m<(flatten rs).length→G0 m=G m:=fun m hm=>by funext k;simp [G0,hm]
  have kS:∀ (m:Nat) (l:Lf C),(flatten rs)[m]?=some l→l.plain=true∧Own (K.gh kp kh hd) w w0.heap.size (G0 m) l (kG.getD m undef)∧∃ t,tg[m]?=some t∧IZ (K.gh kp kh hd) w w0.heap.size S β fp (G0 m) (kG.getD m undef) t:=fun m l hm=>by
   rw [W4 m (ee hm)];exact hG m l hm
  have hA:∀ m k,G0 m k→∃ id p ob,tg[m]?=some (some (id,p))∧fp id k∧lk S.aj id=some ob:=fun m k hk=>by
   obtain ⟨_,_,t,h1,h2⟩:=kS m (flatten rs)[m] (by simp [hk.1])
   cases t with
   | none=>exact absurd hk (h2 k)
   | some x=>obtain ⟨id,p⟩:=x;obtain ⟨t,xs,h3,h4,_⟩:=h2;exact ⟨id,p,_,h1,h4 k hk,h3⟩
  have hone:∀ (m id:Nat) (p:List (Nat×Nat)) (ob:Ob C) (m' k:Nat),tg[m]?=some (some (id,p))→lk S.aj id=some ob→fp id k→G0 m' k→m'=m:=fun m id p ob m' k hm fW hk hk'=>by
   obtain ⟨gN,p',dR,h1,h2,h3⟩:=hA m' k hk';have:=hs.eH gN id dR ob k h3 fW h2 hk;subst this;exact rJ hnd h1 hm
  rw [hargs]
  refine (mG w0 w rs kG r0 G0 hs.defers.2 hs.below hok hulen (fun m k hk=>by
    obtain ⟨id,p,ob,_,h2,h3⟩:=hA m k hk
    exact hs.fresh id ob k h3 h2) (fun m m' k hk hk'=>by
    obtain ⟨id,p,ob,h1,h2,h3⟩:=hA m k hk
    exact (hone m id p ob m' k h1 h3 h2 hk').symm) (fun m l hm=>⟨(kS m l hm).1,Ck (kS m l hm).2.1⟩) hg).mono fun en w' ⟨v0,he,hb,qZ,nA,G',hp,hrl,Ii,Ft,Tq,Iq⟩=>?_
  let dF:=65536*f+4294967296*S.base
  let news:=(bN dF (c.ret r0)).2
  let S1:St C:={ S with aj:=dA (fK tg) S.aj }
  split at h
  case h_2=>cases h
  rename_i S2 gB;have gB:S1.kQ news=some S2:=gB;have h:k (bN dF (c.ret r0)).1 S2=some r:=h;obtain ⟨g1,g2,g3,g4⟩:=qh gB
  have hnews:∀ id ob,lk news id=some ob→∃ m t xs,id=dF+m∧(flatten (c.ret r0))[m]?=some (.row t xs)∧ob = .row t xs false:=fun id ob hi=>rn _ _ _ _ hi
  let eG:Nat→Value:=fun id=>if (lk news id).isSome then nA.getD (id-dF) undef else β id
  let eD:Nat→Nat→Prop:=fun id k=>if (lk news id).isSome then G' (id-dF) k else fp id k
  have Fe:∀ id,lk news id=none→eG id=β id:=fun id hi=>by simp [eG,hi]
  have hnone:∀ id,¬ (lk news id).isSome→lk news id=none:=fun id hi=>by
   cases e:lk news id with
   | none=>rfl
   | some x=>rw [e] at hi;exact absurd rfl hi
  have o8:∀ id ob,lk news id=none→lk S2.aj id=some ob→lk S.aj id=some ob∧id∉fK tg:=fun id ob hn hi=>by
   rw [g3,dc,hn] at hi;have hi:lk (dA (fK tg) S.aj) id=some ob:=hi;rw [jy] at hi;split at hi
   ·cases hi
   ·rename_i hni;exact ⟨hi,hni⟩
  have Z9:∀ id ob k,lk S.aj id=some ob→id∉fK tg→fp id k→∀ m,¬ G0 m k:=fun id ob k hi hni hk m hm=>by
   obtain ⟨gN,p,dR,c1,c2,c3⟩:=hA m k hm;have:=hs.eH gN id dR ob k c3 hi c2 hk;subst this;exact hni (lI.2 ⟨m,p,c1⟩)
  have P7:∀ t v,lk S2.env t=some v→∀ i,i∈fP v→lk news i=none:=fun t v ht i hi=>by
   cases e:lk news i with
   | none=>rfl
   | some ob=>exact absurd (lK (by rw [←g1];exact ht) hi) (g4 i ob e).1
  have P6:∀ id ob,lk S1.aj id=some ob→∀ kd ls,ob = .box kd ls→∀ i,i∈dY ls→lk news i=none:=fun id ob hi kd ls e i eN=>by
   cases e2:lk news i with
   | none=>rfl
   | some x=>exact absurd ((lJ hi).2 kd ls e i eN) (g4 i x e2).2
  have hg1:∀ id ob,lk news id=none→lk S2.aj id=some ob→lk S1.aj id=some ob:=fun id ob hn hi=>by
   rw [g3,dc,hn] at hi;exact hi
  have ga:cK (K.gh kp kh hd) w0 0 S2 eG eD nX w':=by
   refine hs.write (S':=S2) hb (fun id=>(lk news id).isSome) (fun k hk=>?_) (fun id ob hu hi=>?_) (fun id ob hu hi=>?_) (fun t v ht i hi=>Fe i (P7 t v ht i hi)) (fun id ob k hu hi hk=>?_) (fun id gN ob dR k hu hi eN hk hk'=>?_) (fun id ob hu hi=>?_) (fun id kd ls hu hi l hl hp i hil=>?_) (fun t v ht=>?_)
   ·have hno:∀ m,¬ G0 m k:=fun m hm=>by
     obtain ⟨id,p,ob,_,h2,h3⟩:=hA m k hm;exact hk.2 id ob h3 h2
    obtain ⟨f1,f2⟩:=qZ k hk.1 hno;refine ⟨⟨f1,fun id ob hi hf=>?_⟩,f2⟩
    by_cases hn:(lk news id).isSome
    ·simp only [eD,hn,if_true] at hf
     rcases (Ft _ k hf).1 with ⟨m,hm⟩ | h2
     ·exact hno m hm
     ·have:=hk.1;omega
    ·simp only [eD,hn] at hf
     exact hk.2 id ob (o8 id ob (hnone id hn) hi).1 hf
   ·have hn:lk news id=none:=hnone id hu
    obtain ⟨h3,h4⟩:=o8 id ob hn hi;refine ⟨h3,by funext k;simp [eD,hn],fun k hk=>qZ k (hs.fresh id ob k h3 hk).2 (Z9 id ob k h3 h4 hk)⟩
   ·have hn:lk news id=none:=hnone id hu
    exact ⟨Fe id hn,fun kd ls e i eN=>Fe i (P6 id ob (hg1 id ob hn hi) kd ls e i eN)⟩
   ·simp only [eD,hu,if_true] at hk
    exact (Ft _ k hk).2
   ·by_cases hn:(lk news id).isSome<;>by_cases qv:(lk news gN).isSome
    ·simp only [eD,hn,qv,if_true] at hk hk'
     obtain ⟨x,hx⟩:=Option.isSome_iff_exists.1 hn;obtain ⟨x',hx'⟩:=Option.isSome_iff_exists.1 qv;obtain ⟨m,_,_,e1,_⟩:=hnews id x hx;obtain ⟨m',_,_,Qw,_⟩:=hnews gN x' hx';have:=Tq _ _ k hk hk';omega
    ·simp only [eD,hn,qv,if_true] at hk hk'
     obtain ⟨h3,h4⟩:=o8 gN dR (hnone gN qv) eN
     have hk':fp gN k:=by simpa using hk'
     rcases (Ft _ k hk).1 with ⟨m,hm⟩ | h2
     ·exact absurd hm (Z9 gN dR k h3 h4 hk' m)
     ·have:=(hs.fresh gN dR k h3 hk').2;omega
    ·simp only [eD,hn,qv,if_true] at hk hk'
     obtain ⟨h3,h4⟩:=o8 id ob (hnone id hn) hi
     have hk:fp id k:=by simpa using hk
     rcases (Ft _ k hk').1 with ⟨m,hm⟩ | h2
     ·exact absurd hm (Z9 id ob k h3 h4 hk m)
     ·have:=(hs.fresh id ob k h3 hk).2;omega
    ·rcases hu with hu | hu
     ·exact absurd hu hn
     ·exact absurd hu qv
   ·obtain ⟨x,hx⟩:=Option.isSome_iff_exists.1 hu
    obtain ⟨m,t,xs,e1,e2,e3⟩:=hnews id x hx
    have ZT:lk S2.aj id=some x:=by rw [g3,dc,hx]
    rw [ZT] at hi;cases hi;refine ⟨t,xs,e3,?_⟩
    have e5:id-dF=m:=by omega
    have hO:=Iq m (.row t xs) e2
    simpa [eG,eD,hu,e5] using oJ hO
   ·have hn:lk news id=none:=hnone id hu
    intro h4
    have:lk news i=none:=P6 id _ (hg1 id _ hn hi) _ ls rfl i (by
      obtain ⟨j,hj,rfl⟩:=List.getElem_of_mem hl
      exact eK (i:=j) (by simp [hj]) hil)
    rw [this] at h4;cases h4
   ·refine ⟨by rw [←show S2.env=S.env from g1];exact ht,fun l hl hp i hil h4=>?_⟩
    have:=P7 t v ht i (Ga hl hil);rw [this] at h4;cases h4
  have hsh:=js (c.ret r0) dF;refine ⟨v0,(bN dF (c.ret r0)).1,nA,S2,eG,eD,he,?_,?_,h,ga,?_⟩
  ·rw [hp];exact (lE hsh (us:=nA)).symm
  ·rw [ic hsh];exact Ii
  ·refine ⟨by rw [hrl,kg hsh],fun m l hm=>?_⟩
   rcases sS (c.ret r0) dF m l hm with ⟨t,xs,q1,q2,q3⟩ | ⟨q1,q2⟩
   ·subst q2
    refine ⟨(Iq m _ q1).one,?_⟩
    have e2:(lk news (dF+m)).isSome:=by
     have:lk news (dF+m)=some (.row t xs false):=q3;rw [this];rfl
    simp [eG,e2]
   ·exact qQ (oJ (Iq m l q1)) q2
theorem Zh (hX:jk P X) (hC:Cons P X) (hm:P.follows .mixedOrders=true) {f:Nat} {fn:Func} (hf:P.funcs[f]?=some fn) (hb:fn.body=some (av fn)) (hB:iE fn.ntmps (av fn)=true) (hname:(fn.name == "runtime.NumGoroutine")=false)
  {ps:List (PK Ty)} {rs:List (PK Ty)} {G:Nf C ps (Option (sY C [] rs))} (F:Cf) (hn:Nat.ble ps.length fn.ntmps=true) (t:∀ kp kh hd,Gh (PK.Tv X.K) ps G fun vs o=>oH (X.gh kp kh hd) F fn vs (Bh X.K [] rs)=o):pJ P X.K f (mkW X.K ps [] rs G):=
 Vg hX hC hm hf hb hB (by simpa using hname) _ (Bh X.K [] rs) (fun o l r h=>by
  have:=QJ [] rs o l r h
  exact ⟨by rw [this.1];simp [Y9],this.2⟩) fun vs r0 h=>by
  have h1:=fun kp kh hd=>Bu ps G vs r0 _ h (t kp kh hd)
  exact ⟨by rw [(h1 (fun _=>False) (fun _=>none) (fun _=>undef)).2];exact Nat.le_of_ble_eq_true hn,F,fun kp kh hd=>(h1 kp kh hd).1⟩
end
section
variable {Ty:Type} [DecidableEq Ty] {C:Ty→Type}
variable {P:Program} {w:World} {H:Type} {en:TypeId×Value→H} {base:Nat} {spare:Nat→Bool} {held:Bool}
inductive Sm (K:Cd C):Lf C→Prop
 | int (k n) (h:(Lit.int k n).wf=true):Sm K (.int k n)
 | bool (b):Sm K (.bool b)
 | str (s) (h:s.size≤maxLen):Sm K (.str s)
 | row (t xs) (h:xs.length≤maxLen) (h2:∀ (j:Nat) (hj:j<xs.length) (i:Nat) (l:Lf C),(K.enc t xs[j])[i]?=some l→Sm K l):Sm K (.row t xs)
def GY:TK Ty→List (ZL Ty)
 | .one z=>[z]
 | .agg _ zs=>zs
 | .arr .. =>[.ptr]
def j7:ZL Ty→Lf C→Bool
 | .int k,.int k' _=>decide (k=k')
 | .bool,.bool _=>true
 | .str,.str _=>true
 | .er t,.row t' _=>decide (t=t')
 | _,_=>false
def ez:List (ZL Ty)→List (Lf C)→Bool
 | [],[]=>true
 | z::zs,l::ls=>j7 z l&&ez zs ls
 | _,_=>false
def oQ (ok:Ty→Bool):ZL Ty→Bool
 | .ptr=>false
 | .dP=>false
 | .nk _=>false
 | .er t=>ok t
 | _=>true
structure Tab (P:Program) (K:Cd C) (tk:Nat→Option (TK Ty)) (ok:Ty→Bool):Prop where
 fact:∀ T k,tk T=some k→cw P K T k
 el:∀ t,yR P K t
 sub:∀ T fs zs,tk T=some (.agg fs zs)→∀ fields,P.underlying T=some (.struct fields)→∀ (j off n:Nat) (ag:Bool) (f:Field),fs[j]?=some (off,n,ag)→fields[j]?=some f→∃ kf,tk f.type=some kf∧GY kf=(zs.drop off).take n
 cov:∀ T fs zs,tk T=some (.agg fs zs)→∀ i,i<zs.length→∃ (j off n:Nat) (ag:Bool),fs[j]?=some (off,n,ag)∧off≤i∧i<off+n
 elk:∀ t,ok t=true→∃ kt,tk (K.tid t)=some kt∧(GY kt).all (oQ ok)=true∧∀ ls,ez (GY kt) ls=true→∃ x,K.dec t ls=some x
theorem CC {α:Type} {Q:Nat→α→Prop}:∀ n,(∀ i,i<n→∃ x,Q i x)→∃ xs:List α,xs.length=n∧∀ (i:Nat) (x:α),xs[i]?=some x→Q i x
 | 0,_=>⟨[],rfl,fun i x h=>by simp at h⟩
 | n+1,h=>by
  obtain ⟨xs,h1,h2⟩:=CC n fun i hi=>h i (by omega)
  obtain ⟨x,hx⟩:=h n (by omega);refine ⟨xs++[x],by simp [h1],fun i y hy=>?_⟩
  rcases Nat.lt_or_ge i n with hlt | hge
  ·rw [List.getElem?_append_left (by omega)] at hy;exact h2 i y hy
  ·rw [List.getElem?_append_right (by omega),h1] at hy
   have:i-n=0:=by
    rcases Nat.eq_zero_or_pos (i-n) with h0 | h0
    ·exact h0
    ·rw [List.getElem?_eq_none (by simp;omega)] at hy;cases hy
   rw [this] at hy;simp at hy
   have e:i=n:=by omega
   rw [e,← hy];exact hx
theorem E9:∀ {zs:List (ZL Ty)} {ls:List (Lf C)},ls.length=zs.length→(∀ (i:Nat) (z:ZL Ty) (l:Lf C),zs[i]?=some z→ls[i]?=some l→j7 z l=true)→ez zs ls=true
 | [],[],_,_=>rfl
 | [],_::_,h,_=>by simp at h
 | _::_,[],h,_=>by simp at h
 | z::zs,l::ls,h,hk=>by
  simp only [ez,Bool.and_eq_true];exact ⟨hk 0 z l rfl rfl,E9 (by simpa using h) fun i z l h1 h2=>hk (i+1) z l (by simpa using h1) (by simpa using h2)⟩
theorem AL:∀ {zs:List (ZL Ty)} {ls:List (Lf C)},ez zs ls=true→ls.length=zs.length∧∀ (i:Nat) (z:ZL Ty) (l:Lf C),zs[i]?=some z→ls[i]?=some l→j7 z l=true
 | [],[],_=>⟨rfl,fun i z l h=>by simp at h⟩
 | [],_::_,h=>by cases h
 | _::_,[],h=>by cases h
 | z::zs,l::ls,h=>by
  simp only [ez,Bool.and_eq_true] at h;obtain ⟨h1,h2⟩:=AL h.2;refine ⟨by simp [h1],fun i z' l' hz hl=>?_⟩
  cases i with
  | zero=>simp at hz hl;subst hz hl;exact h.1
  | succ i=>exact h2 i z' l' (by simpa using hz) (by simpa using hl)
theorem Ug {K:Cd C} {tk:Nat→Option (TK Ty)} {ok:Ty→Bool} (ht:Tab P K tk ok):∀ (n:Nat) (T:TypeId) (cs:List Value) (x:DataW H×List MemPlace) (k:TK Ty),DataW.trod en P w base spare held n T cs=some x→tk T=some k→(GY k).all (oQ ok)=true →
  ∃ ls:List (Lf C),ez (GY k) ls=true∧ls.length=cs.length∧∀ (i:Nat) (l:Lf C),ls[i]?=some l→gU K w (fun b=>b<w.heap.size) l (cs.getD i undef)∧Sm K l:=by
 intro n
 induction n with
 | zero=>intro T cs x k h;simp [DataW.trod] at h
 | succ n ih=>
  intro T cs x k h hT hp
  have one:∀ (z:ZL Ty) (l:Lf C) (v:Value),j7 z l=true→gU K w (fun b=>b<w.heap.size) l v→Sm K l→∃ ls:List (Lf C),ez (GY (.one z)) ls=true∧ls.length=[v].length∧∀ (i:Nat) (l:Lf C),ls[i]?=some l→gU K w (fun b=>b<w.heap.size) l ([v].getD i undef)∧Sm K l:=
   fun z l v h1 h2 h3=>⟨[l],by simp [GY,ez,h1],rfl,fun i l' hi=>by
    cases i with
    | zero=>simp at hi;subst hi;exact ⟨h2,h3⟩
    | succ i=>simp at hi⟩
  have hF:=ht.fact T k hT
  cases k with
  | one z=>
   obtain ⟨_,d,hd,hz⟩:=hF
   cases z with
   | int ki=>
    have e:d = .int ki:=hz;subst e;obtain ⟨m,rfl,-,hw⟩:=DataW.trod_int hd h;exact one _ (.int ki m) _ (by simp [j7]) (.int ..) (.int _ _ hw)
   | bool=>
    have e:d = .bool:=hz;subst e;obtain ⟨b,rfl,-⟩:=DataW.trod_bool hd h;exact one _ (.bool b) _ rfl (.bool ..) (.bool _)
   | str=>
    have e:d = .string:=hz;subst e;obtain ⟨s,rfl,-,hw⟩:=DataW.trod_string hd h;exact one _ (.str s) _ rfl (.str ..) (.str _ hw)
   | ptr=>simp [GY,oQ] at hp
   | dP=>simp [GY,oQ] at hp
   | nk n=>simp [GY,oQ] at hp
   | er t=>
    have hok:ok t=true:=by simpa [GY,oQ] using hp
    have e:d = .slice (K.tid t):=hz;subst e
    rcases DataW.trod_slice hd h with ⟨rfl,-⟩ | ⟨a,len,cap,elems,rest,n',hn,rfl,-,hb,hl,hm,hlen,hel,-,-⟩
    ·exact one _ (.row t []) _ (by simp [j7]) (.row t [] none 0 default (fun _=>undef) (Nat.le_refl _) (fun h=>absurd rfl h) (fun h=>absurd rfl h) (fun j hj=>absurd hj (by simp))) (.row t [] (Nat.zero_le _) (fun j hj=>absurd hj (by simp)))
    ·cases hn
     obtain ⟨i0,z0,hi0,hsz,hby,hpos,hz0,hzs,Tn⟩:=ht.el t
     have hcells:P.cellsOf (K.tid t)=K.sz t:=by simp [Program.cellsOf,hi0,hsz]
     obtain ⟨kt,hkt,hnp,CO⟩:=ht.elk t hok
     have each:∀ j,j<len→∃ x:C t,∀ (i:Nat) (l:Lf C),(K.enc t x)[i]?=some l→∃ u,w.cell? ((a.add (j*K.sz t)).add i)=some u∧gU K w (fun b=>b<w.heap.size) l u∧Sm K l:=by
      intro j hj;have h1:=hel j hj;rw [hcells,List.getElem?_eq_getElem (by omega)] at h1;rw [Option.bind_eq_some_iff] at h1;obtain ⟨cs',hc,hd'⟩:=h1;obtain ⟨_,hcl,hcg⟩:=World.cells?_some hc;obtain ⟨ls,k1,k2,k3⟩:=ih _ _ _ _ hd' hkt hnp;obtain ⟨x,hx⟩:=CO ls k1;have henc:=K.jD t ls x hx;refine ⟨x,fun i l hi=>?_⟩;rw [henc] at hi;have hil:=ee hi;obtain ⟨r1,r2⟩:=k3 i l hi;refine ⟨cs'.getD i undef,?_,r1,r2⟩;rw [hcg i (by omega),List.getD_eq_getElem?_getD,List.getElem?_eq_getElem (by omega)];rfl
     obtain ⟨xs,x1,x2⟩:=CC len each
     have hrow:∀ (j:Nat) (hj:j<xs.length) (i:Nat) (l:Lf C),(K.enc t xs[j])[i]?=some l→∃ u,w.cell? (a.add (j*K.sz t+i))=some u∧gU K w (fun b=>b<w.heap.size) l u∧Sm K l:=fun j hj i l hi=>by
      have:=x2 j xs[j] (by simp [hj]) i l hi
      rwa [add_add] at this
     have hsome:∀ m,m<xs.length*K.sz t→∃ u,w.cell? (a.add m)=some u:=fun m hm=>by
      have hj:m / K.sz t<xs.length:=Nat.div_lt_of_lt_mul (by rw [Nat.mul_comm];exact hm)
      have hi:m % K.sz t<(K.enc t xs[m / K.sz t]).length:=by rw [K.gH];exact Nat.mod_lt _ (K.pos t)
      obtain ⟨u,hu,_⟩:=hrow _ hj (m % K.sz t) (K.enc t xs[m / K.sz t])[m % K.sz t] (by simp [hi]);rw [Nat.mul_comm,Nat.div_add_mod] at hu;exact ⟨u,hu⟩
     refine one _ (.row t xs) _ (by simp [j7]) ?_ (.row t xs (by omega) fun j hj i l hi=>(hrow j hj i l hi).elim fun u h=>h.2.2)
     have e:(Value.slice (some a) len cap) = .slice (some a) xs.length cap:=by rw [x1]
     rw [e];refine .row t xs (some a) cap a (fun m=>(w.cell? (a.add m)).getD undef) (by omega) (fun hne=>⟨rfl,?_⟩) (fun hne m hm=>?_) (fun j hj i l hi=>?_)
     ·have hp0:0<xs.length*K.sz t:=Nat.mul_pos (List.length_pos_iff.2 hne) (K.pos t)
      have hj0:0<len:=by have:=List.length_pos_iff.2 hne;omega
      have h1:=hel 0 hj0;rw [hcells,List.getElem?_eq_getElem (by omega),Option.bind_eq_some_iff] at h1;obtain ⟨cs',hc,_⟩:=h1;have:=World.cells?_block hc (K.pos t)
      rwa [m8] at this
     ·obtain ⟨u,hu⟩:=hsome m hm
      simp [hu]
     ·obtain ⟨u,hu,hr,_⟩:=hrow j hj i l hi
      simp only [hu,Option.getD_some];exact hr
  | arr n sz ag zs=>simp [GY,oQ] at hp
  | agg fs zs=>
   obtain ⟨⟨i0,hi0,hsz0,_⟩,fields,hu,hl,hF⟩:=hF;obtain ⟨xs,n',hn,-,hcl,hxl,hxs⟩:=DataW.trod_struct hu h;cases hn
   have hcl':cs.length=zs.length:=by rw [hcl];simp [Program.cellsOf,hi0,hsz0]
   have each:∀ i,i<zs.length→∃ l:Lf C,(∀ z,zs[i]?=some z→j7 z l=true)∧gU K w (fun b=>b<w.heap.size) l (cs.getD i undef)∧Sm K l:=by
    intro i hi;obtain ⟨j,off,m,ag,hj,ho1,ho2⟩:=ht.cov T fs zs hT i hi;obtain ⟨f,fi,q1,q2,q3,q4,q5,_⟩:=hF j off m ag hj;obtain ⟨kf,hkf,hzk⟩:=ht.sub T fs zs hT fields hu j off m ag f hj q1
    have hc1:P.cellsOf f.type=m:=by simp [Program.cellsOf,q3,q4]
    have h1:=hxs j f q1
    rw [hc1,q2,List.getElem?_eq_getElem (by
     have:=ee (xs:=fields.toList) (n:=j) (x:=f) (by simpa using q1)
     rw [hxl];simpa using this)] at h1
    obtain ⟨ls,k1,k2,k3⟩:=ih _ _ _ _ h1 hkf (by
     rw [hzk]
     refine List.all_eq_true.2 fun z hz=>List.all_eq_true.1 hp z ?_
     exact List.mem_of_mem_drop (List.mem_of_mem_take hz))
    obtain ⟨g1,g2⟩:=AL k1;rw [hzk] at g1 g2
    have hlt:i-off<ls.length:=by rw [g1];simp;omega
    obtain ⟨r1,r2⟩:=k3 (i-off) ls[i-off] (by simp [hlt])
    have e1:((cs.drop off).take m).getD (i-off) undef=cs.getD i undef:=by
     simp only [List.getD];rw [List.getElem?_take,if_pos (by omega),List.getElem?_drop,show off+(i-off)=i by omega]
    rw [e1] at r1;refine ⟨ls[i-off],fun z hz=>g2 (i-off) z _ ?_ (by simp [hlt]),r1,r2⟩;rw [List.getElem?_take,if_pos (by omega),List.getElem?_drop,show off+(i-off)=i by omega];exact hz
   obtain ⟨ls,h1,h2⟩:=CC zs.length each;exact ⟨ls,E9 h1 fun i z l hz hl=>(h2 i l hl).1 z hz,by omega,fun i l hi=>(h2 i l hi).2⟩
theorem aF {z:ZL Ty} {zs:List (ZL Ty)} {ls:List (Lf C)} (h:ez (z::zs) ls=true):∃ l ls',ls=l::ls'∧j7 z l=true∧ez zs ls'=true:=by
 cases ls with
 | nil=>cases h
 | cons l ls=>simp only [ez,Bool.and_eq_true] at h;exact ⟨l,ls,rfl,h.1,h.2⟩
theorem eM {ls:List (Lf C)} (h:ez ([]:List (ZL Ty)) ls=true):ls=[]:=by
 cases ls with
 | nil=>rfl
 | cons l ls=>cases h
theorem bC {k:IntKind} {l:Lf C} (h:j7 (.int k:ZL Ty) l=true):∃ n,l = .int k n:=by
 cases l<;>simp [j7] at h;subst h;exact ⟨_,rfl⟩
theorem iv {l:Lf C} (h:j7 (.bool:ZL Ty) l=true):∃ n,l = .bool n:=by
 cases l<;>simp [j7] at h;exact ⟨_,rfl⟩
theorem iN {l:Lf C} (h:j7 (.str:ZL Ty) l=true):∃ n,l = .str n:=by
 cases l<;>simp [j7] at h;exact ⟨_,rfl⟩
theorem jB {t:Ty} {l:Lf C} (h:j7 (.er t) l=true):∃ xs,l = .row t xs:=by
 cases l<;>simp [j7] at h;subst h;exact ⟨_,rfl⟩
def zlB:ZL Ty→ZL Ty→Bool
 | .int k,.int k'=>decide (k=k')
 | .bool,.bool=>true
 | .str,.str=>true
 | .ptr,.ptr=>true
 | .dP,.dP=>true
 | .nk .mF,.nk .mF=>true
 | .nk .map,.nk .map=>true
 | .er t,.er t'=>decide (t=t')
 | _,_=>false
def TC:List (ZL Ty)→List (ZL Ty)→Bool
 | [],[]=>true
 | z::zs,y::ys=>zlB z y&&TC zs ys
 | _,_=>false
theorem I8:∀ {a b:List (ZL Ty)},TC a b=true→a=b
 | [],[],_=>rfl
 | [],_::_,h=>by cases h
 | _::_,[],h=>by cases h
 | z::zs,y::ys,h=>by
  simp only [TC,Bool.and_eq_true] at h
  have e:z=y:=by
   have h1:=h.1
   cases z<;>cases y<;>first | rfl | (simp [zlB] at h1;done) | (simp [zlB] at h1;subst h1;rfl) | (rename_i n m;cases n<;>cases m<;>first | rfl | (simp [zlB] at h1))
  rw [e,I8 h.2]
def TJ (tk:Nat→Option (TK Ty)) (zs:List (ZL Ty)):List Field→List (Nat×Nat×Bool)→Bool
 | [],[]=>true
 | f::l,x::r=>(match tk f.type with
  | some kf=>TC (GY kf) ((zs.drop x.1).take x.2.1)
  | none=>false)&&TJ tk zs l r
 | _,_=>false
theorem Je {tk:Nat→Option (TK Ty)} {zs:List (ZL Ty)}:∀ {l:List Field} {r:List (Nat×Nat×Bool)},TJ tk zs l r=true→∀ (j off n:Nat) (ag:Bool) (f:Field),r[j]?=some (off,n,ag)→l[j]?=some f→∃ kf,tk f.type=some kf∧GY kf=(zs.drop off).take n
 | [],[],_,j,off,n,ag,f,h,_=>by simp at h
 | [],_::_,h,_,_,_,_,_,_,_=>by cases h
 | _::_,[],h,_,_,_,_,_,_,_=>by cases h
 | f0::l,x::r,h,j,off,n,ag,f,hj,hf=>by
  simp only [TJ,Bool.and_eq_true] at h
  cases j with
  | zero=>
   simp at hj hf;subst hj hf;have h1:=h.1;split at h1
   ·rename_i kf hk;exact ⟨kf,hk,I8 h1⟩
   ·cases h1
  | succ j=>exact Je h.2 j off n ag f (by simpa using hj) (by simpa using hf)
def YS (P:Program) (tk:Nat→Option (TK Ty)) (x:Nat×TK Ty):Bool:=match x.2 with
 | .one _=>true
 | .arr .. =>true
 | .agg fs zs=>(match P.underlying x.1 with
  | some (.struct fields)=>TJ tk zs fields.toList fs
  | _=>false)&&(below zs.length).all fun i=>fs.any fun y=>Nat.ble y.1 i&&Nat.ble (i+1) (y.1+y.2.1)
theorem Bp:∀ {n j:Nat},j<n→j∈Ab.below n
 | n+1,j,h=>by
  simp only [Ab.below,List.mem_cons]
  rcases Nat.lt_succ_iff_lt_or_eq.1 h with h | h
  ·exact .inr (Bp h)
  ·exact .inl h
theorem PG {α:Type}:∀ {l:List (Nat×α)} {n:Nat} {v:α},lk l n=some v→(n,v)∈l
 | [],n,v,h=>by simp [lk] at h
 | (m,x)::l,n,v,h=>by
  rw [aQ] at h;split at h
  ·rename_i e;cases h;subst e;simp
  ·exact List.mem_cons_of_mem _ (PG h)
theorem YC {K:Cd C} {l:List (Nat×TK Ty)} (hf:∀ T k,lk l T=some k→cw P K T k) (he:∀ t,yR P K t) (hr:l.all (YS P (lk l))=true)
  {ok:Ty→Bool} (hk:∀ t,ok t=true→∃ kt,lk l (K.tid t)=some kt∧(GY kt).all (oQ ok)=true∧∀ ls,ez (GY kt) ls=true→∃ x,K.dec t ls=some x):Tab P K (lk l) ok:=by
 refine ⟨hf,he,fun T fs zs hT fields hu j off n ag f hj hf=>?_,fun T fs zs hT i hi=>?_,hk⟩
 ·have:=List.all_eq_true.1 hr (T,.agg fs zs) (PG hT)
  simp only [YS,hu,Bool.and_eq_true] at this;exact Je this.1 j off n ag f hj (by simpa using hf)
 ·have:=List.all_eq_true.1 hr (T,.agg fs zs) (PG hT)
  simp only [YS,Bool.and_eq_true] at this;have:=List.all_eq_true.1 this.2 i (Bp hi);obtain ⟨y,hy,hb⟩:=List.any_eq_true.1 this;simp only [Bool.and_eq_true] at hb;obtain ⟨off,n,ag⟩:=y;obtain ⟨j,hj,e⟩:=List.getElem_of_mem hy;exact ⟨j,off,n,ag,by rw [List.getElem?_eq_getElem hj,e],Nat.le_of_ble_eq_true hb.1,Nat.le_of_ble_eq_true hb.2⟩
end
end Go.Proofs.Ytipemmgoipbojaa.Ab
