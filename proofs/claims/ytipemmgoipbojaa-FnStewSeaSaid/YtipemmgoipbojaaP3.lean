/- Part 3 of the proof: an abstract machine proved sound over the model, the functions that it reckons, the plain law. Names made short by a program. No conditions. -/
import Derived.Test.YtipemmgoipbojaaP2
import Derived.Scope
import Derived.ChangeArms
import Derived.DataReads
import Derived.ChangeOld
set_option linter.unusedVariables false
set_option linter.unusedSimpArgs false
set_option linter.unusedSectionVars false
namespace Go.Proofs.Ytipemmgoipbojaa.Ab
open Go Go.RowKit
section
variable {Ty:Type} [DecidableEq Ty] {C:Ty→Type}
variable {X:Cx C} {S0 S S':St C} {R:Type} {r:R} {tab:List (Nat×Nat)}
def fo.val (e:fo C):Option (SV C):=match e.tQ with
 | some (v,_,_)=>some v
 | none=>none
def fo.news (e:fo C):List (Nat×Ob C):=match e.tQ with
 | some (_,news,_)=>news
 | none=>[]
theorem Dc (S:St C) (e:fo C):(e.app S).ah=e.news++dI e.dW S.ah:=by
 obtain ⟨ix,dst,ef,need⟩:=e
 cases ef with
 | none=>rfl
 | some x=>obtain ⟨v,news,dW⟩:=x;cases dst<;>rfl
theorem NI (S:St C) (e:fo C):(e.app S).base=S.base:=by
 obtain ⟨ix,dst,ef,need⟩:=e
 cases ef with
 | none=>rfl
 | some x=>obtain ⟨v,news,dW⟩:=x;cases dst<;>rfl
theorem Rg (S:St C) (e:fo C) (t:Nat):lk (e.app S).env t=if e.dst=some t∧e.val.isSome then e.val else lk S.env t:=by
 obtain ⟨ix,dst,ef,need⟩:=e
 cases ef with
 | none=>simp [fo.app,fo.val]
 | some x=>
  obtain ⟨v,news,dW⟩:=x
  cases dst with
  | none=>simp [fo.app,fo.val,St.put]
  | some d=>
   simp only [fo.app,fo.val,St.put,aN]
   by_cases e:t=d
   ·subst e;simp
   ·have:¬ d=t:=fun h=>e h.symm
    simp [e,this]
theorem mA (e:fo C):e.j9=dO e.news:=by
 obtain ⟨ix,dst,ef,need⟩:=e
 cases ef with
 | none=>rfl
 | some x=>rfl
theorem oU {l:List (Nat×Ob C)} {id:Nat} {ob:Ob C} (h:lk l id=some ob):id∈dO l:=by
 induction l with
 | nil=>simp [lk] at h
 | cons x l ih=>
  obtain ⟨m,o⟩:=x;rw [aN] at h;simp only [dO,List.map_cons,List.mem_cons];split at h
  ·rename_i e;exact .inl e
  ·exact .inr (ih h)
theorem QE {l:List (Nat×Ob C)} {id:Nat} (h:id∈dO l):∃ ob,lk l id=some ob:=by
 induction l with
 | nil=>simp [dO] at h
 | cons x l ih=>
  obtain ⟨m,o⟩:=x;simp only [dO,List.map_cons,List.mem_cons] at h;rw [aN]
  by_cases e:id=m
  ·exact ⟨o,by simp [e]⟩
  ·rw [if_neg e]
   exact ih (h.resolve_left e)
theorem Mh {l:List (Nat×Ob C)} {id:Nat} (h:id∈dO l):id∈eB l:=by
 induction l with
 | nil=>simp [dO] at h
 | cons x l ih=>
  obtain ⟨m,o⟩:=x;simp only [dO,List.map_cons,List.mem_cons] at h
  cases o<;>simp only [eB,List.mem_cons,List.mem_append]<;>rcases h with h | h
  ·exact .inl h
  ·exact .inr (.inr (ih h))
  ·exact .inl h
  ·exact .inr (ih h)
  ·exact .inl h
  ·exact .inr (ih h)
  ·exact .inl h
  ·exact .inr (ih h)
theorem pf:∀ (es:List (fo C)),(SD S0 es).base=S0.base
 | []=>rfl
 | e::es=>(NI _ e).trans (pf es)
def Valid (tab:List (Nat×Nat)) (es:List (fo C)):Prop:=es.Pairwise fun e m=>m.ix≠e.ix∧has tab m.ix e.ix=false
structure OL (S0:St C) (tab:List (Nat×Nat)) (bG:List (fo C)):Prop where
 self:∀ e,e∈bG→Bv S0 e=true
 pair:∀ e m,e∈bG→m∈bG→e.ix≠m.ix→yf tab e m=true
theorem um {bG:List (fo C)} (h:Fj S0 tab bG=true):OL S0 tab bG:=by
 unfold Fj at h;rw [List.all_eq_true] at h;refine ⟨fun e he=>?_,fun e m he hm hne=>?_⟩
 ·have:=h e he
  simp only [Bool.and_eq_true] at this;exact this.1
 ·have:=h e he
  simp only [Bool.and_eq_true,List.all_eq_true,Bool.or_eq_true] at this
  rcases this.2 m hm with hb | hb
  ·exact absurd (Nat.eq_of_beq_eq_true hb) hne
  ·exact hb
theorem iA {a b:List Nat} (h:jt a b=true) {n:Nat} (ha:n∈a):n∉b:=by
 unfold jt at h;rw [List.all_eq_true] at h;have:=h n ha;simp only [Bool.not_eq_true'] at this;exact kN this
section
variable {bG:List (fo C)} (hL:OL S0 tab bG)
include hL
theorem QD {e m:fo C} (he:e∈bG) (hm:m∈bG) (hne:e.ix≠m.ix) {t:Nat} (h1:e.dst=some t):m.dst≠some t:=by
 intro h2;have:=hL.pair e m he hm hne;simp [yf,Gx,h1,h2,Nat.beq_refl] at this
theorem QC {e m:fo C} (he:e∈bG) (hm:m∈bG) (hne:e.ix≠m.ix) {id:Nat} (h1:id∈e.j9):id∉m.j9:=by
 have:=hL.pair e m he hm hne;simp only [yf,Bool.and_eq_true] at this;exact iA this.1.1.2 h1
theorem yy {e m:fo C} (he:e∈bG) (hm:m∈bG) (hne:e.ix≠m.ix) (hno:has tab m.ix e.ix=false) {id:Nat} (h1:id∈e.j9):id∉m.names∧id∉m.dW:=by
 have:=hL.pair e m he hm hne;simp only [yf,Bool.and_eq_true,hno,Bool.false_or] at this;exact ⟨iA this.1.2.1 h1,iA this.1.2.2 h1⟩
theorem Mg {e m:fo C} (he:e∈bG) (hm:m∈bG) (hne:e.ix≠m.ix) (h0:has tab e.ix m.ix=false) (hno:has tab m.ix e.ix=false) {id:Nat} (h1:id∈m.dW):id∉e.need:=by
 have:=hL.pair e m he hm hne;simp only [yf,Bool.and_eq_true,hno,h0,Bool.false_or] at this;exact iA this.2 h1
theorem qT {e:fo C} (he:e∈bG) {id:Nat} (h1:id∈e.j9):id∉e.dW∧fJ S0 id:=by
 have:=hL.self e he;simp only [Bv,Bool.and_eq_true] at this;have h2:=iA this.1.2 h1;exact ⟨iA this.1.1.1 h1,fun h=>h2 (by simp [h]),fun h=>h2 (by simp [h])⟩
theorem I9 {e:fo C} (he:e∈bG):gz e.j9=true:=by
 have:=hL.self e he;simp only [Bv,Bool.and_eq_true] at this;exact this.1.1.2
theorem Cm {e:fo C} (he:e∈bG) {t:Nat} (h1:e.dst=some t):lk S0.env t=none:=by
 have:=hL.self e he;simp only [Bv,Bool.and_eq_true,h1] at this
 simpa using this.2
theorem fW:∀ {es:List (fo C)},Valid tab es→(∀ e,e∈es→e∈bG)→∀ t v,lk (SD S0 es).env t=some v↔(∃ m,m∈es∧m.dst=some t∧m.val=some v)∨((∀ m,m∈es→m.dst=some t→m.val=none)∧lk S0.env t=some v)
 | [],_,_,t,v=>by simp [SD]
 | e::es,hv,hs,t,v=>by
  have hv':=List.pairwise_cons.1 hv;have ih:=fW (es:=es) hv'.2 (fun m hm=>hs m (by simp [hm])) t v;rw [SD,Rg];have he:=hs e (by simp)
  by_cases hc:e.dst=some t∧e.val.isSome
  ·rw [if_pos hc]
   constructor
   ·intro h;exact .inl ⟨e,by simp,hc.1,h⟩
   ·rintro (⟨m,hm,h1,h2⟩ | ⟨h1,h2⟩)
    ·rcases List.mem_cons.1 hm with e' | hm
     ·subst e';exact h2
     ·exact absurd h1 (QD hL he (hs m (by simp [hm])) (fun h=>(hv'.1 m hm).1 h.symm) hc.1)
    ·have:=h1 e (by simp) hc.1
     rw [this] at hc;simp at hc
  ·rw [if_neg hc,ih]
   constructor
   ·rintro (⟨m,hm,h⟩ | ⟨h1,h2⟩)
    ·exact .inl ⟨m,by simp [hm],h⟩
    ·refine .inr ⟨fun m hm h=>?_,h2⟩
     rcases List.mem_cons.1 hm with e' | hm
     ·subst e'
      cases hval:m.val with
      | none=>rfl
      | some x=>exact absurd ⟨h,by simp [hval]⟩ hc
     ·exact h1 m hm h
   ·rintro (⟨m,hm,h1,h2⟩ | ⟨h1,h2⟩)
    ·rcases List.mem_cons.1 hm with e' | hm
     ·subst e';exact absurd ⟨h1,by simp [h2]⟩ hc
     ·exact .inl ⟨m,hm,h1,h2⟩
    ·exact .inr ⟨fun m hm=>h1 m (by simp [hm]),h2⟩
def Xh (S0:St C) (es:List (fo C)) (id:Nat) (ob:Ob C):Prop:=
 (∀ m,m∈es→id∉m.dW)∧((∃ m,m∈es∧lk m.news id=some ob)∨((∀ m,m∈es→id∉m.j9)∧lk S0.ah id=some ob))
theorem gK:∀ {es:List (fo C)},Valid tab es→(∀ e,e∈es→e∈bG)→∀ id ob,lk (SD S0 es).ah id=some ob↔Xh S0 es id ob
 | [],_,_,id,ob=>by simp [SD,Xh]
 | e::es,hv,hs,id,ob=>by
  have hv':=List.pairwise_cons.1 hv;have ih:=gK (es:=es) hv'.2 (fun m hm=>hs m (by simp [hm])) id ob;have he:=hs e (by simp);rw [SD,Dc,dB]
  cases hn:lk e.news id with
  | some dY=>
   simp only [Option.some.injEq]
   have hk:id∈e.j9:=by rw [mA];exact oU hn
   constructor
   ·intro h
    subst h;refine ⟨fun m hm=>?_,.inl ⟨e,by simp,hn⟩⟩
    rcases List.mem_cons.1 hm with e' | hm
    ·subst e';exact (qT hL he hk).1
    ·exact (yy hL he (hs m (by simp [hm])) (fun h=>(hv'.1 m hm).1 h.symm) (hv'.1 m hm).2 hk).2
   ·rintro ⟨h1,⟨m,hm,h2⟩ | ⟨h2,h3⟩⟩
    ·rcases List.mem_cons.1 hm with e' | hm
     ·subst e';rw [hn] at h2;exact Option.some.inj h2
     ·refine absurd ?_ (QC hL he (hs m (by simp [hm])) (fun h=>(hv'.1 m hm).1 h.symm) hk)
      rw [mA];exact oU h2
    ·exact absurd hk (h2 e (by simp))
  | none=>
   simp only [jm]
   have hk:id∉e.j9:=by
    rw [mA];intro h;obtain ⟨dY,h'⟩:=QE h;rw [hn] at h';cases h'
   by_cases hd:id∈e.dW
   ·rw [if_pos hd]
    constructor
    ·intro h;cases h
    ·rintro ⟨h1,_⟩;exact absurd hd (h1 e (by simp))
   ·rw [if_neg hd,ih]
    constructor
    ·rintro ⟨h1,h2⟩
     refine ⟨fun m hm=>?_,?_⟩
     ·rcases List.mem_cons.1 hm with e' | hm
      ·subst e';exact hd
      ·exact h1 m hm
     ·rcases h2 with ⟨m,hm,h⟩ | ⟨h2,h3⟩
      ·exact .inl ⟨m,by simp [hm],h⟩
      ·refine .inr ⟨fun m hm=>?_,h3⟩
       rcases List.mem_cons.1 hm with e' | hm
       ·subst e';exact hk
       ·exact h2 m hm
    ·rintro ⟨h1,h2⟩
     refine ⟨fun m hm=>h1 m (by simp [hm]),?_⟩
     rcases h2 with ⟨m,hm,h⟩ | ⟨h2,h3⟩
     ·rcases List.mem_cons.1 hm with e' | hm
      ·subst e';rw [hn] at h;cases h
      ·exact .inl ⟨m,hm,h⟩
     ·exact .inr ⟨fun m hm=>h2 m (by simp [hm]),h3⟩
end
theorem Mq {S:St C} {e:fo C} {id:Nat} (h:id∈gg (e.app S).env):id∈gg S.env∨id∈e.names:=by
 obtain ⟨ix,dst,ef,need⟩:=e
 cases ef with
 | none=>exact .inl h
 | some x=>
  obtain ⟨v,news,dW⟩:=x
  cases dst with
  | none=>exact .inl h
  | some d=>
   simp only [fo.app,St.put,gg,List.mem_append] at h
   rcases h with h | h
   ·exact .inr (by simp [fo.names,h])
   ·exact .inl h
theorem Cr {l m:cW C} {id:Nat} (h:id∈eB (l++m)):id∈eB l∨id∈eB m:=by
 induction l with
 | nil=>exact .inr h
 | cons x l ih=>
  obtain ⟨n,o⟩:=x;cases o<;>simp only [List.cons_append,eB,List.mem_cons,List.mem_append] at h ⊢
  ·rcases h with h | h | h
   ·exact .inl (.inl h)
   ·exact .inl (.inr (.inl h))
   ·rcases ih h with h | h
    ·exact .inl (.inr (.inr h))
    ·exact .inr h
  ·rcases h with h | h
   ·exact .inl (.inl h)
   ·rcases ih h with h | h
    ·exact .inl (.inr h)
    ·exact .inr h
  ·rcases h with h | h
   ·exact .inl (.inl h)
   ·rcases ih h with h | h
    ·exact .inl (.inr h)
    ·exact .inr h
  ·rcases h with h | h
   ·exact .inl (.inl h)
   ·rcases ih h with h | h
    ·exact .inl (.inr h)
    ·exact .inr h
theorem Mp {S:St C} {e:fo C} {id:Nat} (h:id∈eB (e.app S).ah):id∈eB S.ah∨id∈e.names:=by
 rw [Dc] at h
 rcases Cr h with h | h
 ·refine .inr ?_
  obtain ⟨ix,dst,ef,need⟩:=e
  cases ef with
  | none=>simp [fo.news,eB] at h
  | some x=>simp only [fo.news] at h;simp [fo.names,h]
 ·exact .inl (pV (l:=S.ah) h)
theorem Dl {id:Nat}:∀ {es:List (fo C)},(id∈gg (SD S0 es).env∨id∈eB (SD S0 es).ah)→id∈gg S0.env∨id∈eB S0.ah∨∃ m,m∈es∧id∈m.names
 | [],h=>by
  rcases h with h | h
  ·exact .inl h
  ·exact .inr (.inl h)
 | e::es,h=>by
  have:(id∈gg (SD S0 es).env∨id∈eB (SD S0 es).ah)∨id∈e.names:=by
   rcases h with h | h
   ·rcases Mq h with h | h
    ·exact .inl (.inl h)
    ·exact .inr h
   ·rcases Mp h with h | h
    ·exact .inl (.inr h)
    ·exact .inr h
  rcases this with h | h
  ·rcases Dl h with h | h | ⟨m,hm,h⟩
   ·exact .inl h
   ·exact .inr (.inl h)
   ·exact .inr (.inr ⟨m,by simp [hm],h⟩)
  ·exact .inr (.inr ⟨e,by simp,h⟩)
theorem qS {α:Type} (E:List (Nat×α)):∀ (keep:List Nat) t v,lk (uN E keep) t=some v→lk E t=some v∧t∈keep
 | [],t,v,h=>by simp [uN,lk] at h
 | d::r,t,v,h=>by
  simp only [uN] at h
  cases hd:lk E d with
  | none=>
   rw [hd] at h;obtain ⟨h1,h2⟩:=qS E r t v h;exact ⟨h1,by simp [h2]⟩
  | some u=>
   rw [hd] at h;simp only [aN] at h
   by_cases e:t=d
   ·subst e;simp at h;subst h;exact ⟨hd,by simp⟩
   ·rw [if_neg e] at h
    obtain ⟨h1,h2⟩:=qS E r t v h;exact ⟨h1,by simp [h2]⟩
theorem Kt {P:Program} {K:Cd C} {w0 w:World} {nt:Nat} {a:Act} {bG es fs:List (fo C)} (hL:OL S0 tab bG) (he:Valid tab es) (hf:Valid tab fs) (hes:∀ e,e∈es→e∈bG) (hsame:∀ e,e∈fs↔e∈es)
  (h:nq K w0 nt (SD S0 es) a w):nq K w0 nt (SD S0 fs) a w:=by
 obtain ⟨β,fp,h⟩:=h
 have hfs:∀ e,e∈fs→e∈bG:=fun e h=>hes e ((hsame e).1 h)
 have h2:=(h.sub (O:=(SD S0 fs).ah) (fun id ob hi=>(gK hL he hes id ob).2 (by
  have:=(gK hL hf hfs id ob).1 hi
  simpa only [Xh,hsame] using this))).less (SD S0 fs).env (fun t v ht=>(fW hL he hes t v).2 (by
   have:=(fW hL hf hfs t v).1 ht
   simpa only [hsame] using this))
 have e:({ ({ (SD S0 es) with ah:=(SD S0 fs).ah }:St C) with env:=(SD S0 fs).env }:St C)=SD S0 fs:=by
  have:(SD S0 es).base=(SD S0 fs).base:=by rw [pf,pf]
  rw [St.mk.injEq];exact ⟨rfl,rfl,this⟩
 rw [e] at h2;exact ⟨β,fp,h2⟩
end
section
variable {Ty:Type} [DecidableEq Ty] {C:Ty→Type}
variable {P:Program} {X:Cx C} {w0:World} {nt:Nat} {S0 S S':St C} {R:Type} {k:St C→Option R} {r:R} {tab:List (Nat×Nat)} {all:Array Oper} {Q:Exit→Act→World→Prop} {ρ:Nat→Nat}
theorem wj {j:Nat}:∀ {l:List Edge},Nat.testBit (Df tab l) j=true→∃ e,e∈l∧Region.binds .any e=true∧(e.on=j∨has tab e.on j=true)
 | [],h=>by simp [Df] at h
 | e::l,h=>by
  simp only [Df] at h
  cases hb:Region.binds .any e with
  | false=>
   rw [hb] at h;obtain ⟨e',h1,h2⟩:=wj (l:=l) h;exact ⟨e',by simp [h1],h2⟩
  | true=>
   rw [hb] at h;have h:Nat.testBit ((2 ^ e.on ||| (lk tab e.on).getD 0) ||| Df tab l) j=true:=h;rw [Nat.testBit_or,Nat.testBit_or,Nat.testBit_two_pow,Bool.or_eq_true,Bool.or_eq_true,decide_eq_true_eq] at h
   rcases h with (h | h) | h
   ·exact ⟨e,by simp,hb,.inl h⟩
   ·exact ⟨e,by simp,hb,.inr h⟩
   ·obtain ⟨e',h1,h2⟩:=wj (l:=l) h
    exact ⟨e',by simp [h1],h2⟩
theorem se:∀ {n j:Nat},j<n→j∈Ab.below n
 | n+1,j,h=>by
  simp only [Ab.below,List.mem_cons]
  rcases Nat.lt_succ_iff_lt_or_eq.1 h with h | h
  ·exact .inr (se h)
  ·exact .inl h
structure xw (X:Cx C) (ρ:Nat→Nat) (all:Array Oper) (tab:List (Nat×Nat)):Prop where
 edge:∀ (i:Nat) (o:Oper),all[i]?=some o→∀ e,e∈o.after.toList→Region.binds .any e=true→e.on<i
 anc:∀ (i:Nat) (o:Oper),all[i]?=some o→∀ j,has tab i j=true→∃ e,e∈o.after.toList∧Region.binds .any e=true∧(e.on=j∨has tab e.on j=true)
 tQ:∀ (i:Nat) (o:Oper),all[i]?=some o→∀ j,j<all.size→ρ j<ρ i→yB X all j=true→has tab i j=true
 Yu:∀ i,i<all.size→∀ j,has tab i j=true→ρ j<ρ i
 grd:∀ (i:Nat) (o:Oper),all[i]?=some o→Mj X o=true→o.guard=none
theorem xZ:∀ (l:List Oper) (n:Nat),mV X all tab n l=true→∀ (i:Nat) (o:Oper),l[i]?=some o→yb X all tab (n+i) o=true
 | [],n,h,i,o,hi=>by simp at hi
 | x::l,n,h,i,o,hi=>by
  simp only [mV,Bool.and_eq_true] at h
  cases i with
  | zero=>simp at hi;subst hi;exact h.1
  | succ i=>
   have:=xZ l (n+1) h.2 i o (by simpa using hi)
   rwa [Nat.add_assoc,Nat.add_comm 1 i] at this
def EU:List Nat→Nat→Nat
 | [],_=>0
 | j::r,i=>cond (Nat.beq i j) 0 (EU r i+1)
theorem Rj {i:Nat} {l:List Nat}:l.any (Nat.beq i)=true↔i∈l:=by
 constructor
 ·intro h
  obtain ⟨j,hj,e⟩:=List.any_eq_true.1 h;have:=Nat.eq_of_beq_eq_true e;subst this;exact hj
 ·intro h
  exact List.any_eq_true.2 ⟨i,h,Nat.beq_refl i⟩
theorem vg:∀ {l:List Nat},qK X all tab l=true→∀ i j,i∈l→j∈l→EU l j<EU l i→(yB X all j=true→has tab i j=true)∧has tab j i=false
 | [],_,i,j,hi,_,_=>by cases hi
 | m::r,h,i,j,hi,hj,hlt=>by
  simp only [qK,Bool.and_eq_true,List.all_eq_true,Bool.not_eq_true',Bool.or_eq_true] at h;obtain ⟨⟨h1,h2⟩,h3⟩:=h;simp only [EU] at hlt
  by_cases ei:i=m
  ·subst ei
   simp [Nat.beq_refl] at hlt
  ·have bi:Nat.beq i m=false:=by
    cases hb:Nat.beq i m with
    | false=>rfl
    | true=>exact absurd (Nat.eq_of_beq_eq_true hb) ei
   have eR:i∈r:=(List.mem_cons.1 hi).resolve_left ei
   by_cases ej:j=m
   ·subst ej
    obtain ⟨q1,q2⟩:=h1 i eR;refine ⟨fun hE=>?_,q2⟩
    rcases q1 with q1 | q1
    ·rw [hE] at q1;cases q1
    ·exact q1
   ·have bj:Nat.beq j m=false:=by
     cases hb:Nat.beq j m with
     | false=>rfl
     | true=>exact absurd (Nat.eq_of_beq_eq_true hb) ej
    rw [bi,bj] at hlt;simp only [cond_false] at hlt;exact vg h3 i j eR ((List.mem_cons.1 hj).resolve_left ej) (by omega)
theorem GF:∀ {l:List Nat} {i j:Nat},i∈l→j∈l→EU l i=EU l j→i=j
 | [],i,j,hi,_,_=>by cases hi
 | m::r,i,j,hi,hj,h=>by
  simp only [EU] at h
  cases bi:Nat.beq i m with
  | true=>
   cases bj:Nat.beq j m with
   | true=>rw [Nat.eq_of_beq_eq_true bi,Nat.eq_of_beq_eq_true bj]
   | false=>rw [bi,bj] at h;simp at h
  | false=>
   cases bj:Nat.beq j m with
   | true=>rw [bi,bj] at h;simp at h
   | false=>
    rw [bi,bj] at h;simp only [cond_false,Nat.add_right_cancel_iff] at h
    have ni:i≠m:=fun e=>by rw [e,Nat.beq_refl] at bi;cases bi
    have nj:j≠m:=fun e=>by rw [e,Nat.beq_refl] at bj;cases bj
    exact GF ((List.mem_cons.1 hi).resolve_left ni) ((List.mem_cons.1 hj).resolve_left nj) h
theorem ye:∀ {l:List Nat},qK X all tab l=true→l.Pairwise fun a b=>EU l a<EU l b
 | [],_=>List.Pairwise.nil
 | m::r,h=>by
  simp only [qK,Bool.and_eq_true,Bool.not_eq_true'] at h
  have hm:m∉r:=fun hm=>by rw [Rj.2 hm] at h;cases h.1.2
  have bm:∀ {x},x∈r→Nat.beq x m=false:=fun {x} hx=>by
   cases hb:Nat.beq x m with
   | false=>rfl
   | true=>exact absurd (Nat.eq_of_beq_eq_true hb▸hx) hm
  refine List.pairwise_cons.2 ⟨fun x hx=>?_,?_⟩
  ·simp only [EU,bm hx,Nat.beq_refl,cond_true,cond_false]
   omega
  ·refine (ye h.2).imp_of_mem fun {a b} ha hb hlt=>?_
   simp only [EU,bm ha,bm hb,cond_false];omega
structure PreN (X:Cx C) (all:Array Oper) (tab:List (Nat×Nat)):Prop where
 edge:∀ (i:Nat) (o:Oper),all[i]?=some o→∀ e,e∈o.after.toList→Region.binds .any e=true→e.on<i
 anc:∀ (i:Nat) (o:Oper),all[i]?=some o→∀ j,has tab i j=true→∃ e,e∈o.after.toList∧Region.binds .any e=true∧(e.on=j∨has tab e.on j=true)
 grd:∀ (i:Nat) (o:Oper),all[i]?=some o→Mj X o=true→o.guard=none
theorem Qc (h:mV X all tab 0 all.toList=true):PreN X all tab:=by
 have key:∀ (i:Nat) (o:Oper),all[i]?=some o→yb X all tab i o=true:=fun i o hi=>by
  have:=xZ all.toList 0 h i o (by simpa using hi)
  simpa using this
 refine ⟨fun i o hi e he hb=>?_,fun i o hi j hj=>?_,fun i o hi hE=>?_⟩
 ·have:=key i o hi
  simp only [yb,Bool.and_eq_true,List.all_eq_true] at this;have:=this.1.1 e he;rw [hb] at this;simp only [Bool.not_true,Bool.false_or] at this;have h2:Nat.ble (e.on+1) i=true:=this;exact Nat.le_of_ble_eq_true h2
 ·have:=key i o hi
  simp only [yb,Bool.and_eq_true] at this;have e:=Nat.eq_of_beq_eq_true this.1.2;unfold has at hj;rw [e] at hj;exact wj hj
 ·have:=key i o hi
  simp only [yb,Bool.and_eq_true] at this;have:=this.2;rw [hE] at this
  simpa using this
theorem HA (hp:PreN X all tab):∀ i,i<all.size→∀ j,has tab i j=true→j<i:=by
 intro i
 induction i using Nat.strongRecOn with
 | _ i ih=>
  intro hi j hj;obtain ⟨e,he,hb,h⟩:=hp.anc i all[i] (by simp [hi]) j hj;have hlt:=hp.edge i all[i] (by simp [hi]) e he hb
  rcases h with h | h
  ·omega
  ·have:=ih e.on hlt (by omega) j h
   omega
theorem Qa (h:(mV X all tab 0 all.toList&&E6 X all tab (pO X all tab))=true):xw X (EU (pO X all tab)) all tab:=by
 obtain ⟨h,h'⟩:=(Bool.and_eq_true ..).mp h;simp only [E6,Bool.and_eq_true,List.all_eq_true] at h';obtain ⟨hpo,hcov⟩:=h';have hN:=Qc h
 have hin:∀ i,i<all.size→i∈pO X all tab:=fun i hi=>Rj.1 (hcov i (se hi))
 refine ⟨hN.edge,hN.anc,fun i o hi j hj hlt hE=>?_,fun i hi j hj=>?_,hN.grd⟩
 ·have eR:i<all.size:=by
   rcases Nat.lt_or_ge i all.size with h | h
   ·exact h
   ·simp [Array.getElem?_eq_none h] at hi
  exact (vg hpo i j (hin i eR) (hin j hj) hlt).1 hE
 ·have hlt:=HA hN i hi j hj
  rcases Nat.lt_trichotomy (EU (pO X all tab) j) (EU (pO X all tab) i) with h | h | h
  ·exact h
  ·have:=GF (hin j (by omega)) (hin i hi) h;omega
  ·have:=(vg hpo j i (hin j (by omega)) (hin i hi) h).2
   rw [hj] at this;cases this
theorem Ws (hp:xw X ρ all tab):∀ i,i<all.size→∀ j,has tab i j=true→j<i:=HA ⟨hp.edge,hp.anc,hp.grd⟩
def dt (listed:Array Bool) (i:Nat):Prop:=listed.getD i false=true
def Gi (all:Array Oper) (listed:Array Bool):Prop:=∀ (i:Nat) (o:Oper),all[i]?=some o→dt listed i→∀ e,e∈o.after.toList→Region.binds .any e=true→dt listed e.on
theorem pY (hp:xw X ρ all tab) {listed:Array Bool} (hc:Gi all listed):∀ i,(o:Oper)→all[i]?=some o→(∀ e,e∈o.after.toList→Region.binds .any e=true→dt listed e.on)→∀ j,has tab i j=true→dt listed j:=by
 intro i
 induction i using Nat.strongRecOn with
 | _ i ih=>
  intro o hi hl j hj;obtain ⟨e,he,hb,h⟩:=hp.anc i o hi j hj;have hlt:=hp.edge i o hi e he hb
  rcases h with h | h
  ·subst h;exact hl e he hb
  ·have eR:i<all.size:=by
    rcases Nat.lt_or_ge i all.size with h | h
    ·exact h
    ·simp [Array.getElem?_eq_none h] at hi
   have he':all[e.on]?=some all[e.on]:=by simp [show e.on<all.size by omega]
   exact ih e.on hlt _ he' (fun e2 h2 Ep=>hc e.on _ he' (hl e he hb) e2 h2 Ep) j h
structure wJ (X:Cx C) (all:Array Oper) (tab:List (Nat×Nat)) (S0:St C) (bG:List (fo C)) (e:fo C):Prop where
 ex:∃ o,all[e.ix]?=some o∧e.dst=o.dst ∧
  (match o.guard with
   | none=>e.JL=true
   | some (j,want)=>has tab e.ix j=true∧∃ (m:fo C),m∈bG∧m.ix=j∧m.dst.isSome=true∧((∃ b,m.val=some (.one (.bool b))∧(e.JL=true↔b=want))∨(m.val=some .mN∧e.JL=false))) ∧
  (e.JL=false→e.tQ=some (.mN,[],[]))∧e.tQ.isSome=true ∧
  ∀ v news dW,e.JL=true→e.tQ=some (v,news,dW)→∃ (fs:List (fo C)) (mn:St C),Valid tab fs∧(∀ m,m∈fs→m∈bG∧has tab e.ix m.ix=true)∧(∀ m,m∈bG→has tab e.ix m.ix=true→m∈fs) ∧
   (∀ t v,lk mn.env t=some v→lk (SD S0 fs).env t=some v)∧(∀ id ob,lk mn.ah id=some ob→lk (SD S0 fs).ah id=some ob∧id∈e.need)∧mn.base=S0.base ∧
   ∀ S',Le mn S'→(∀ id,id∈dO news→fJ S' id)→gz (dO news)=true→∀ {R':Type} (k':St C→Option R'),ev X o S' k'=k' (tQ S' o.dst v news dW)
theorem wJ.mono {bG jT:List (fo C)} {e:fo C} (h:wJ X all tab S0 bG e) (hm:∀ m,m∈bG→m∈jT) (hx:∀ m,m∈jT→m∈bG∨has tab e.ix m.ix=false):wJ X all tab S0 jT e:=by
 obtain ⟨o,h1,h2,h3,h5,h6,h4⟩:=h.ex;refine ⟨o,h1,h2,?_,h5,h6,fun v news dW hr he=>?_⟩
 ·split at h3
  ·exact h3
  ·obtain ⟨a,m,q1,q2⟩:=h3
   exact ⟨a,m,hm m q1,q2⟩
 ·obtain ⟨fs,mn,q1,q2,q3,q4⟩:=h4 v news dW hr he
  refine ⟨fs,mn,q1,fun m h=>⟨hm m (q2 m h).1,(q2 m h).2⟩,fun m h h'=>?_,q4⟩
  rcases hx m h with hx | hx
  ·exact q3 m hx h'
  ·rw [hx] at h';cases h'
structure Pp (X:Cx C) (ρ:Nat→Nat) (all:Array Oper) (tab:List (Nat×Nat)) (S0:St C) (bG:List (fo C)):Prop where
 desc:bG.Pairwise fun e m=>ρ m.ix<ρ e.ix
 UY:∀ e,e∈bG→e.ix<all.size
 ok:∀ e,e∈bG→wJ X all tab S0 bG e
theorem Pp.valid (hp:xw X ρ all tab) {bG:List (fo C)} (h:Pp X ρ all tab S0 bG):Valid tab bG:=by
 refine h.desc.imp_of_mem ?_;intro e m he hm hlt;refine ⟨fun e'=>by rw [e'] at hlt;omega,?_⟩
 cases hb:has tab m.ix e.ix with
 | false=>rfl
 | true=>
  have:=hp.Yu m.ix (h.UY m hm) e.ix hb;omega
theorem Pp.push (hp:xw X ρ all tab) {bG:List (fo C)} (h:Pp X ρ all tab S0 bG) {e:fo C} (hqs:e.ix<all.size) (hq:∀ m,m∈bG→ρ m.ix<ρ e.ix) (he:wJ X all tab S0 (e::bG) e):Pp X ρ all tab S0 (e::bG):=by
 refine ⟨List.pairwise_cons.2 ⟨fun m hm=>hq m hm,h.desc⟩,fun m hm=>?_,fun m hm=>?_⟩
 ·rcases List.mem_cons.1 hm with e' | hm
  ·subst e';exact hqs
  ·exact h.UY m hm
 ·rcases List.mem_cons.1 hm with e' | Cw
  ·subst e';exact he
  ·refine (h.ok m Cw).mono (fun x hx=>by simp [hx]) fun x hx=>?_
   rcases List.mem_cons.1 hx with e' | hx
   ·subst e'
    refine .inr ?_
    cases hb:has tab m.ix x.ix with
    | false=>rfl
    | true=>
     have:=hp.Yu m.ix (h.UY m Cw) x.ix hb;have:=hq m Cw;omega
   ·exact .inl hx
theorem s4:∀ {bG:List (fo C)} {j:Nat} {b:Bool},tu bG j=some (.one (.bool b))→j7 bG j b=bG∧∃ m,m∈bG∧m.ix=j∧m.dst.isSome=true∧m.val=some (.one (.bool b))
 | [],j,b,h=>by simp [tu] at h
 | e::es,j,b,h=>by
  obtain ⟨ix,dst,ef,need,JL⟩:=e;simp only [tu] at h
  cases hb:Nat.beq ix j with
  | true=>
   rw [hb] at h
   cases ef with
   | none=>simp at h
   | some x=>
    obtain ⟨v,news,dW⟩:=x
    cases dst with
    | none=>simp at h
    | some d=>
     simp at h;subst h;exact ⟨by simp [j7,hb],⟨ix,some d,some (.one (.bool b),news,dW),need,JL⟩,by simp,Nat.eq_of_beq_eq_true hb,rfl,rfl⟩
  | false=>
   rw [hb] at h;obtain ⟨h1,m,h2,h3⟩:=s4 (bG:=es) h;exact ⟨by simp [j7,hb,h1],m,by simp [h2],h3⟩
theorem HB:∀ {bG:List (fo C)} {j:Nat},tu bG j=some .mN→∃ m,m∈bG∧m.ix=j∧m.dst.isSome=true∧m.val=some .mN
 | [],j,h=>by simp [tu] at h
 | e::es,j,h=>by
  obtain ⟨ix,dst,ef,need,JL⟩:=e;simp only [tu] at h
  cases hb:Nat.beq ix j with
  | true=>
   rw [hb] at h
   cases ef with
   | none=>simp at h
   | some x=>
    obtain ⟨v,news,dW⟩:=x
    cases dst with
    | none=>simp at h
    | some d=>
     simp at h;subst h;exact ⟨⟨ix,some d,some (.mN,news,dW),need,JL⟩,by simp,Nat.eq_of_beq_eq_true hb,rfl,rfl⟩
  | false=>
   rw [hb] at h;obtain ⟨m,h2,h3⟩:=HB (bG:=es) h;exact ⟨m,by simp [h2],h3⟩
theorem LW (hp:xw X ρ all tab) {n:Nat} {bG:List (fo C)} (hl:Pp X ρ all tab S0 bG) (o:Oper) {v:SV C} {news:List (Nat×Ob C)} {dW:List Nat}
  (ho:all[n]?=some o) (hg:match o.guard with
   | none=>True
   | some (j,want)=>has tab n j=true∧∃ (m:fo C),m∈bG∧m.ix=j∧m.dst.isSome=true∧m.val=some (.one (.bool want)))
  (h:∀ S',Le (I5 S0 bG tab n o) S'→(∀ id,id∈dO news→fJ S' id)→gz (dO news)=true→∀ {R':Type} (k':St C→Option R'),ev X o S' k'=k' (tQ S' o.dst v news dW)) :
  wJ X all tab S0 (⟨n,o.dst,some (v,news,dW),Fe S0 bG tab n o,true⟩::bG) ⟨n,o.dst,some (v,news,dW),Fe S0 bG tab n o,true⟩:=by
 refine ⟨o,ho,rfl,?_,(fun h=>by cases h),rfl,fun v' news' dels' _ he=>?_⟩
 ·split at hg
  ·rename_i e;simp [e]
  ·rename_i j want e
   obtain ⟨h1,m,h2,h3,h5,h4⟩:=hg;simp only [e];exact ⟨h1,m,by simp [h2],h3,h5,.inl ⟨want,h4,by simp⟩⟩
 ·cases he
  refine ⟨bG.filter fun e=>has tab n e.ix,I5 S0 bG tab n o,(hl.valid hp).sublist (List.filter_sublist),fun m hm=>?_,fun m hm ha=>?_,fun t v ht=>(qS _ _ t v ht).1,fun id ob hi=>qS _ _ id ob hi,rfl,h⟩
  ·obtain ⟨h1,h2⟩:=List.mem_filter.1 hm
   exact ⟨by simp [h1],h2⟩
  ·rcases List.mem_cons.1 hm with e' | hm
   ·subst e'
    have hlt:n<all.size:=by
     rcases Nat.lt_or_ge n all.size with h | h
     ·exact h
     ·simp [Array.getElem?_eq_none h] at ho
    exact absurd (Ws hp n hlt n ha) (Nat.lt_irrefl _)
   ·exact List.mem_filter.2 ⟨hm,ha⟩
def Tail (X:Cx C) (all:Array Oper) (tab:List (Nat×Nat)) (k:St C→Option R) (r:R) (S0:St C) (rest:List (Nat×Oper)) (bG:List (fo C)):Prop:=match rest with
 | []=>k (SD S0 bG)=some r
 | (q,o)::rest=>Mj X o=true∧match qP X o with
  | some su=>∃ f,LY S0 su o.dst bG=true∧lV X su o (SD S0 (bG.filter fun e=>has tab q e.ix)) S0 (fun S1=>cond (Fj S1 tab bG) (lG X all tab k f rest S1 bG) none)=some r
  | none=>∃ f,Dg ((RX tab (vC tab q bG)).map fun L=>ev X o (SD S0 (bG.filter fun e=> !L.any (Nat.beq e.ix))) (fun S'=>lG X all tab k f (jO all L++rest) S' []))=some r
def JU (ρ:Nat→Nat) (all:Array Oper) (l:List (Nat×Oper)):Prop:=(l.Pairwise fun x y=>ρ x.1<ρ y.1)∧∀ x,x∈l→all[x.1]?=some x.2
def Ro (X:Cx C) (ρ:Nat→Nat) (all:Array Oper) (tab:List (Nat×Nat)) (k:St C→Option R) (r:R) (S0:St C) (l:List (Nat×Oper)) (bG:List (fo C)):Prop:=
  ∃ (rest:List (Nat×Oper)) (jT:List (fo C)),Pp X ρ all tab S0 jT∧OL S0 tab jT∧Tail X all tab k r S0 rest jT∧JU ρ all rest∧(∀ x,x∈rest→x∈l)∧(∀ e,e∈jT→e∈bG∨∃ x,x∈l∧x.1=e.ix) ∧
   (∀ x,x∈l→x∈rest∨∃ e,e∈jT∧e.ix=x.1)∧(∀ e,e∈bG→e∈jT)∧∀ e,e∈jT→∀ x,x∈rest→ρ e.ix<ρ x.1
theorem ri (hp:xw X ρ all tab):∀ (f:Nat) (l:List (Nat×Oper)) (S0:St C) (bG:List (fo C)),JU ρ all l→(∀ e,e∈bG→∀ x,x∈l→ρ e.ix<ρ x.1)→Pp X ρ all tab S0 bG→lG X all tab k f l S0 bG=some r →
  Ro X ρ all tab k r S0 l bG
 | 0,l,S0,bG,_,_,_,h=>by simp [lG] at h
 | f+1,[],S0,bG,ha,hb,FD,h=>by
  simp only [lG] at h;obtain ⟨hc,h⟩:=aw h;exact ⟨[],bG,FD,um hc,h,ha,fun x hx=>hx,fun e he=>.inl he,fun x hx=>(by cases hx),fun e he=>he,fun e he x hx=>(by cases hx)⟩
 | f+1,(n,o)::l,S0,bG,ha,hb,FD,h=>by
  have ho:all[n]?=some o:=ha.2 (n,o) (by simp)
  have hn:n<all.size:=by
   rcases Nat.lt_or_ge n all.size with h | h
   ·exact h
   ·simp [Array.getElem?_eq_none h] at ho
  obtain ⟨ha1,ha2⟩:=List.pairwise_cons.1 ha.1;have hasc:JU ρ all l:=⟨ha2,fun x hx=>ha.2 x (by simp [hx])⟩;simp only [lG] at h
  cases hM:qP X o with
  | some su=>
   rw [hM] at h;obtain ⟨hc,h⟩:=aw h;simp only [Bool.and_eq_true] at hc;refine ⟨(n,o)::l,bG,FD,um hc.2.1,⟨hc.1,?_⟩,ha,fun x hx=>hx,fun e he=>.inl he,fun x hx=>.inl hx,fun e he=>he,hb⟩;rw [hM];exact ⟨f,hc.2.2,h⟩
  | none=>
  rw [hM] at h;simp only at h
  cases hE:Mj X o with
  | true=>
   rw [hE] at h;obtain ⟨hc,h⟩:=aw h;exact ⟨(n,o)::l,bG,FD,um hc,⟨hE,by rw [hM];exact ⟨f,h⟩⟩,ha,fun x hx=>hx,fun e he=>.inl he,fun x hx=>.inl hx,fun e he=>he,hb⟩
  | false=>
   rw [hE] at h;simp only at h
   have fin:∀ {e:fo C},e.ix=n→wJ X all tab S0 (e::bG) e→lG X all tab k f l S0 (e::bG)=some r →
     Ro X ρ all tab k r S0 ((n,o)::l) bG:=by
    intro e he hok h
    obtain ⟨rest,jT,h1,h2,h3,h4,h5,h6,h7,h8,h9⟩:=ri hp f l S0 (e::bG) hasc (fun m hm x hx=>by
     rcases List.mem_cons.1 hm with e' | hm
     ·subst e';rw [he];exact ha1 x hx
     ·exact hb m hm x (by simp [hx])) (FD.push hp (by omega) (fun m hm=>by rw [he];exact hb m hm (n,o) (by simp)) hok) h
    refine ⟨rest,jT,h1,h2,h3,h4,fun x hx=>by simp [h5 x hx],fun m hm=>?_,fun x hx=>?_,fun m hm=>h8 m (by simp [hm]),h9⟩
    ·rcases h6 m hm with h | ⟨x,hx,V6⟩
     ·rcases List.mem_cons.1 h with e' | h
      ·subst e';exact .inr ⟨(n,o),by simp,he.symm⟩
      ·exact .inl h
     ·exact .inr ⟨x,by simp [hx],V6⟩
    ·rcases List.mem_cons.1 hx with e' | hx
     ·subst e';exact .inr ⟨e,h8 e (by simp),he⟩
     ·exact h7 x hx
   cases hg:o.guard with
   | none=>
    rw [hg] at h;simp only at h;obtain ⟨v,news,dW,hk,hto⟩:=MR h;exact fin rfl (LW hp FD o ho (by simp [hg]) hto) hk
   | some g=>
    obtain ⟨j,want⟩:=g;rw [hg] at h;simp only at h;obtain ⟨hj,h⟩:=aw h;split at h
    ·rename_i b hbv
     obtain ⟨e1,m,Cw,Eo,hm4,hm3⟩:=s4 hbv
     have skip:b≠want→lG X all tab k f l S0 (⟨n,o.dst,some (.mN,[],[]),[],false⟩::bG)=some r→Ro X ρ all tab k r S0 ((n,o)::l) bG:=by
      intro hne h;refine fin rfl ⟨o,ho,rfl,?_,(fun _=>rfl),rfl,fun v news dW hr he=>by cases hr⟩ h;simp only [hg];exact ⟨hj,m,by simp [Cw],Eo,hm4,.inl ⟨b,hm3,by simp [hne]⟩⟩
     have step:∀ {kk:SV C→List (Nat×Ob C)→List Nat→Option R},b=want→ko X o (I5 S0 bG tab n o) kk=some r →
       (∀ v news dW,kk v news dW=lG X all tab k f l S0 (⟨n,o.dst,some (v,news,dW),Fe S0 bG tab n o,true⟩::bG))→Ro X ρ all tab k r S0 ((n,o)::l) bG:=by
      intro kk he h hkk;obtain ⟨v,news,dW,hk,hto⟩:=MR h;rw [hkk] at hk;refine fin rfl (LW hp FD o ho ?_ hto) hk;simp only [hg];exact ⟨hj,m,Cw,Eo,hm4,by rw [←he];exact hm3⟩
     cases b with
     | true=>
      simp only [cond_true,e1] at h
      cases want with
      | true=>exact step rfl h (fun _ _ _=>rfl)
      | false=>exact skip (by simp) h
     | false=>
      simp only [cond_false,e1] at h
      cases want with
      | true=>exact skip (by simp) h
      | false=>exact step rfl h (fun _ _ _=>rfl)
    ·rename_i hbv
     obtain ⟨m,Cw,Eo,hm4,hm3⟩:=HB hbv;refine fin rfl ⟨o,ho,rfl,?_,(fun _=>rfl),rfl,fun v news dW hr he=>by cases hr⟩ h;simp only [hg];exact ⟨hj,m,by simp [Cw],Eo,hm4,.inr ⟨hm3,trivial⟩⟩
    ·cases h
theorem NL {a b:Option R} {x:R} (h:alt a b=some x):a=some x∧b=some x:=by
 rw [AJ] at h
 cases a with
 | none=>cases h
 | some u=>
  cases b with
  | none=>cases h
  | some v=>
   simp only [Option.bind_some] at h;split at h
   ·rename_i e;cases h;exact ⟨rfl,by rw [e]⟩
   ·cases h
theorem zg:∀ {l:List (Option R)} {x:R} {y:Option R},Dg l=some x→y∈l→y=some x
 | [],x,y,_,hm=>by cases hm
 | [a],x,y,h,hm=>by simp only [List.mem_singleton] at hm;subst hm;exact h
 | a::b::l,x,y,h,hm=>by
  simp only [Dg] at h;obtain ⟨h1,h2⟩:=NL h
  rcases List.mem_cons.1 hm with e | hm
  ·rw [e];exact h1
  ·exact zg h2 hm
theorem He {p:Nat→Bool}:∀ {l:List Nat},(∀ j d,j∈l→d∈l→p j=true→has tab d j=true→p d=true)→l.filter p∈RX tab l
 | [],_=>by simp [RX]
 | j::r,h=>by
  have ih:=He (p:=p) (l:=r) fun a b ha hb=>h a b (by simp [ha]) (by simp [hb])
  simp only [RX,List.mem_append,List.mem_map,List.mem_filter]
  cases hj:p j with
  | false=>left;simpa [List.filter_cons,hj] using ih
  | true=>
   right;refine ⟨r.filter p,⟨ih,?_⟩,by simp [List.filter_cons,hj]⟩;simp only [List.all_eq_true,Bool.or_eq_true,Bool.not_eq_true'];intro d hd
   cases hb:has tab d j with
   | false=>exact .inl rfl
   | true=>
    right;have:=h j d (by simp) (by simp [hd]) hj hb;exact List.any_eq_true.2 ⟨d,List.mem_filter.2 ⟨hd,this⟩,Nat.beq_refl d⟩
end
section
variable {Ty:Type} [DecidableEq Ty] {C:Ty→Type}
variable {P:Program} {X:Cx C} {w0:World} {nt:Nat} {R:Type} {k:St C→Option R} {r:R} {tab:List (Nat×Nat)} {all:Array Oper} {Q:Exit→Act→World→Prop} {ρ:Nat→Nat}
structure At (P:Program) (X:Cx C) (ρ:Nat→Nat) (w0:World) (nt:Nat) (k:St C→Option R) (r:R) (tab:List (Nat×Nat)) (all:Array Oper) (listed:Array Bool) (a:Act) (w:World) (rest:List (Nat×Oper)) (S0:St C) (bG es:List (fo C)):Prop where
 lay:Pp X ρ all tab S0 bG
 pF:OL S0 tab bG
 tail:Tail X all tab k r S0 rest bG
 asc:JU ρ all rest
 XV:∀ e,e∈bG→∀ x,x∈rest→ρ e.ix<ρ x.1
 valid:Valid tab es
 sub:∀ e,e∈es→e∈bG
 mem:∀ e,e∈bG→(dt listed e.ix↔e∈es)
 XU:∀ i,i<all.size→dt listed i∨(∃ e,e∈bG∧e.ix=i)∨∃ x,x∈rest∧x.1=i
 hi:∀ x,x∈rest→¬ dt listed x.1
 ZJ:nq X.K w0 nt (SD S0 es) a w
theorem oO {listed:Array Bool} {i:Nat}:i∈Region.ready .any all listed↔i<all.size∧listed.getD i true=false∧∀ o,all[i]?=some o→∀ e,e∈o.after.toList→Region.binds .any e=true→dt listed e.on:=by
 unfold Region.ready;rw [List.mem_filter,List.mem_range];constructor
 ·rintro ⟨h1,h2⟩
  simp only [Bool.and_eq_true,Bool.not_eq_true'] at h2;refine ⟨h1,h2.1,fun o ho e he hb=>?_⟩;rw [ho] at h2;have h3:=h2.2;simp only [Option.map_some,Option.getD_some,Array.all_eq_true'] at h3;have:=h3 e (by simpa using he);rw [hb] at this
  simpa [dt] using this
 ·rintro ⟨h1,h2,h3⟩
  refine ⟨h1,?_⟩
  have ho:all[i]?=some all[i]:=by simp [h1]
  simp only [h2,ho,Option.map_some,Option.getD_some,Bool.not_false,Bool.true_and,Array.all_eq_true'];intro e he
  cases hb:Region.binds .any e with
  | false=>simp
  | true=>simpa [dt] using h3 _ ho e (by simpa using he) hb
theorem fe {listed:Array Bool} {i j:Nat} (hi:i<listed.size):dt (listed.setIfInBounds i true) j↔j=i∨dt listed j:=by
 unfold dt;simp only [Array.getD_eq_getD_getElem?,Array.getElem?_setIfInBounds]
 by_cases e:i=j
 ·subst e;simp [hi]
 ·have:j≠i:=fun h=>e h.symm
  simp [e,this]
theorem F5 (hp:xw X ρ all tab) {listed:Array Bool} (hs:listed.size=all.size) (h:Region.ready .any all listed=[]):∀ i,i<all.size→dt listed i:=by
 intro i
 induction i using Nat.strongRecOn with
 | _ i ih=>
  intro hi
  cases hl:listed.getD i true with
  | true=>
   unfold dt;simp only [Array.getD_eq_getD_getElem?,Array.getElem?_eq_getElem (hs▸hi:i<listed.size),Option.getD_some] at hl ⊢;exact hl
  | false=>
   have:i∈Region.ready .any all listed:=oO.2 ⟨hi,hl,fun o ho e he hb=>by
    have:=hp.edge i o ho e he hb
    exact ih e.on this (by omega)⟩
   rw [h] at this;cases this
theorem at_end (hp:xw X ρ all tab) {listed:Array Bool} {a:Act} {w:World} {rest:List (Nat×Oper)} {S0:St C} {bG es fs:List (fo C)} (h:At P X ρ w0 nt k r tab all listed a w rest S0 bG es) (hv:Valid tab fs) (hfs:∀ e,e∈fs↔e∈bG∧dt listed e.ix) :
  nq X.K w0 nt (SD S0 fs) a w:=
 Kt (P:=P) h.pF h.valid hv h.sub (fun e=>⟨fun he=>(h.mem e ((hfs e).1 he).1).1 ((hfs e).1 he).2,fun he=>(hfs e).2 ⟨h.sub e he,(h.mem e (h.sub e he)).2 he⟩⟩) h.ZJ
theorem NF {q:Nat} {o:Oper} {l:List (Nat×Oper)} (h:JU ρ all ((q,o)::l)):JU ρ all l∧∀ x,x∈l→ρ q<ρ x.1:=
 ⟨⟨(List.pairwise_cons.1 h.1).2,fun x hx=>h.2 x (by simp [hx])⟩,fun x hx=>(List.pairwise_cons.1 h.1).1 x hx⟩
theorem jF {L:List Nat} {x:Nat×Oper}:x∈jO all L↔x.1∈L∧all[x.1]?=some x.2:=by
 unfold jO;rw [List.mem_filterMap];constructor
 ·rintro ⟨i,hi,h⟩
  cases e:all[i]? with
  | none=>rw [e] at h;cases h
  | some o=>rw [e] at h;cases h;exact ⟨hi,e⟩
 ·rintro ⟨h1,h2⟩
  exact ⟨x.1,h1,by rw [h2];rfl⟩
theorem sP:∀ {L:List Nat},(L.Pairwise fun a b=>ρ a<ρ b)→JU ρ all (jO all L)
 | [],_=>⟨List.Pairwise.nil,fun x hx=>by simp [jO] at hx⟩
 | j::r,h=>by
  obtain ⟨h1,h2⟩:=List.pairwise_cons.1 h;obtain ⟨a1,a2⟩:=sP (L:=r) h2;refine ⟨?_,fun x hx=>(jF.1 hx).2⟩;unfold jO at a1 ⊢;rw [List.filterMap_cons]
  cases e:(all[j]?).map fun o=>(j,o) with
  | none=>exact a1
  | some y=>
   refine List.pairwise_cons.2 ⟨fun x hx=>?_,a1⟩
   have hy:y.1=j:=by
    cases e2:all[j]? with
    | none=>rw [e2] at e;cases e
    | some o=>rw [e2] at e;cases e;rfl
   rw [hy];have:x∈jO all r:=hx;exact h1 x.1 (jF.1 this).1
theorem FZ {l m:List (Nat×Oper)} (hl:JU ρ all l) (hm:JU ρ all m) (h:∀ x,x∈l→∀ y,y∈m→ρ x.1<ρ y.1):JU ρ all (l++m):=
 ⟨List.pairwise_append.2 ⟨hl.1,hm.1,fun x hx y hy=>h x hx y hy⟩,fun x hx=>(List.mem_append.1 hx).elim (hl.2 x) (hm.2 x)⟩
theorem Qm (S:St C) (O:List (Nat×Ob C)) (x:Operand):eG { S with ah:=O } x=eG S x:=by unfold eG;rfl
theorem LA (S:St C) (O:List (Nat×Ob C)) (T:TypeId) (x:Operand):gb X { S with ah:=O } T x=gb X S T x:=by
 unfold gb;split
 ·rfl
 ·exact Qm S O _
theorem yZ:∀ (xs:List Operand) (ts:List TypeId) (S:St C) (O:List (Nat×Ob C)),fg X { S with ah:=O } xs ts=fg X S xs ts
 | [],ts,S,O=>rfl
 | x::xs,ts,S,O=>by
  simp only [fg,yZ xs ts.tail S O,LA]
theorem s9:∀ {l:List Nat} {O O':List (Nat×Ob C)},(∀ id,id∈l→lk O id=lk O' id)→mw O l=mw O' l
 | [],O,O',h=>rfl
 | id::l,O,O',h=>by
  simp only [mw,h id (by simp),s9 (l:=l) fun i hi=>h i (by simp [hi])]
theorem u7:∀ {l:List Nat} {O' O:List (Nat×Ob C)},mw O' l=some O→dO O=l
 | [],O',O,h=>by simp only [mw,Option.some.injEq] at h;subst h;rfl
 | id::l,O',O,h=>by
  simp only [mw] at h;split at h
  ·rename_i ob ho
   split at h
   ·rename_i l' hl
    cases h;have:=u7 hl
    simpa [dO] using this
   ·cases h
  ·cases h
structure RU (su:jw C) (d:Option Tmp) (e:fo C):Prop where
 need:∀ id,id∈su.ids→id∉e.need
 j9:∀ id,id∈su.ids→id∉e.j9
 dW:∀ id,id∈su.ids→id∉e.dW
 dst:∀ t,d=some t→e.dst≠some t
 val:∀ v news dW,e.tQ=some (v,news,dW)→yA v=true
theorem Q2 {su:jw C} {d:Option Tmp} {e:fo C} (h:Au su d e=true):RU su d e:=by
 simp only [Au,Bool.and_eq_true,Bool.not_eq_true'] at h;obtain ⟨⟨⟨⟨h1,h2⟩,h3⟩,h4⟩,h5⟩:=h;refine ⟨fun id hi=>iA h1 hi,fun id hi=>iA h2 hi,fun id hi=>iA h3 hi,fun t ht he=>?_,fun v news dW he=>?_⟩
 ·rw [ht,he] at h4
  simp [Gx,Nat.beq_refl] at h4
 ·rw [he] at h5;exact h5
theorem CU {S0:St C} {su:jw C} {d:Option Tmp} (h0:rf S0.env=true):∀ {es:List (fo C)},(∀ e,e∈es→RU su d e)→rf (SD S0 es).env=true
 | [],_=>h0
 | e::es,h=>by
  have ih:=CU (es:=es) h0 fun m hm=>h m (by simp [hm])
  simp only [SD,fo.app]
  cases he:e.tQ with
  | none=>exact ih
  | some x=>
   obtain ⟨v,news,dW⟩:=x;simp only;unfold St.put
   cases e.dst with
   | none=>exact ih
   | some t=>
    simp only [rf,Bool.and_eq_true];exact ⟨(h e (by simp)).val v news dW he,ih⟩
theorem MU (hX:je P X) (hC:Cons P X) (hp:xw X ρ all tab) (hall:∀ o,o∈all.toList→slot o.dst nt) (hQ:∀ a w,Next X.K w0 nt k r a w→Q .normal a w) :
  ∀ (fuel:Nat) (listed:Array Bool) (a:Act) (w:World) (rest:List (Nat×Oper)) (S0:St C) (bG es:List (fo C)),listed.size=all.size→listed.toList.count false=fuel→Gi all listed →
   At P X ρ w0 nt k r tab all listed a w rest S0 bG es→wpAny P .any all Q fuel listed a w:=by
 have done:∀ {listed:Array Bool} {a:Act} {w:World} {rest:List (Nat×Oper)} {S0:St C} {bG es:List (fo C)},(∀ i,i<all.size→dt listed i)→At P X ρ w0 nt k r tab all listed a w rest S0 bG es→Q .normal a w:=by
  intro listed a w rest S0 bG es hl h;have ht:=h.tail
  cases rest with
  | nil=>exact hQ a w ⟨_,at_end hp h (h.lay.valid hp) (fun e=>⟨fun he=>⟨he,hl e.ix (h.lay.UY e he)⟩,fun he=>he.1⟩),ht⟩
  | cons x rest=>
   have hx:=h.asc.2 x (by simp)
   have:x.1<all.size:=by
    rcases Nat.lt_or_ge x.1 all.size with h | h
    ·exact h
    ·simp [Array.getElem?_eq_none h] at hx
   exact absurd (hl x.1 this) (h.hi x (by simp))
 intro fuel
 induction fuel with
 | zero=>
  intro listed a w rest S0 bG es hs hf hc h
  have hl:∀ i,i<all.size→dt listed i:=by
   intro i hi
   have h1:i<listed.toList.length:=by simpa [hs] using hi
   have h2:=List.count_eq_zero.1 hf
   have h3:listed.toList[i]≠false:=fun e=>h2 (e▸List.getElem_mem h1)
   unfold dt;simp only [Array.getD_eq_getD_getElem?,Array.getElem?_eq_getElem (hs▸hi:i<listed.size),Option.getD_some]
   simpa using h3
  refine ⟨?_,done hl h⟩
  cases hr:Region.ready .any all listed with
  | nil=>rfl
  | cons x l=>
   have hx:x∈Region.ready .any all listed:=by rw [hr];simp
   obtain ⟨h1,h2,_⟩:=oO.1 hx;have:=hl x h1;unfold dt at this;simp only [Array.getD_eq_getD_getElem?,Array.getElem?_eq_getElem (hs▸h1:x<listed.size),Option.getD_some] at this h2;rw [this] at h2;cases h2
 | succ fuel ih=>
  intro listed a w rest S0 bG es hs hf hc h;refine ⟨fun hr=>done (F5 hp hs hr) h,fun i hi=>?_⟩;obtain ⟨h1,h2,h3⟩:=oO.1 hi
  have hil:i<listed.size:=by omega
  have ho:all[i]?=some all[i]:=by simp [h1]
  generalize all[i]=o at ho;have Pm:=h3 o ho
  have hnl:¬ dt listed i:=by
   unfold dt;simp only [Array.getD_eq_getD_getElem?,Array.getElem?_eq_getElem hil,Option.getD_some] at h2 ⊢;rw [h2];simp
  have yE:slot o.dst nt:=hall o (by simpa using Array.mem_of_getElem? ho);have MF:∀ j,has tab i j=true→dt listed j:=pY hp hc i o ho Pm
  have hs':(listed.setIfInBounds i true).size=all.size:=by simp [hs]
  have hf':(listed.setIfInBounds i true).toList.count false=fuel:=by
   have hv:listed.toList[i]'(by simpa using hil)=false:=by
    simp only [Array.getD_eq_getD_getElem?,Array.getElem?_eq_getElem hil,Option.getD_some] at h2
    simpa using h2
   rw [Array.toList_setIfInBounds,List.count_set (by simpa using hil),hv,hf];simp
  have Hz:Gi all (listed.setIfInBounds i true):=by
   intro j o' ib hj e he hb;rw [fe hil] at hj ⊢
   rcases hj with e' | hj
   ·subst e'
    rw [ho] at ib;have ib:=Option.some.inj ib;subst ib;exact .inr (Pm e he hb)
   ·exact .inr (hc j o' ib hj e he hb)
  unfold wpOp;simp only [ho]
  rcases h.XU i h1 with hl | ⟨e,he,hei⟩ | ⟨x,hx,hxi⟩
  ·exact absurd hl hnl
  ·
   subst hei
   have hne:e∉es:=fun hm=>hnl ((h.mem e he).2 hm)
   obtain ⟨o',q1,q2,q3,q5,q6,q4⟩:=(h.lay.ok e he).ex;rw [ho] at q1;cases q1
   have hval:Valid tab (e::es):=by
    refine List.pairwise_cons.2 ⟨fun m hm=>?_,h.valid⟩;have My:dt listed m.ix:=(h.mem m (h.sub m hm)).2 hm;refine ⟨fun e'=>hnl (e'▸My),?_⟩
    cases hb:has tab m.ix e.ix with
    | false=>rfl
    | true=>
     have hmlt:m.ix<all.size:=h.lay.UY m (h.sub m hm)
     have hmo:all[m.ix]?=some all[m.ix]:=by simp [hmlt]
     exact absurd (pY hp hc m.ix _ hmo (fun e2 he2 Ep=>hc m.ix _ hmo My e2 he2 Ep) e.ix hb) hnl
   have Ag:∀ m,m∈es→e.ix≠m.ix∧has tab m.ix e.ix=false:=fun m hm=>⟨fun e'=>((List.pairwise_cons.1 hval).1 m hm).1 e'.symm,((List.pairwise_cons.1 hval).1 m hm).2⟩
   have next:∀ a' w',nq X.K w0 nt (SD S0 (e::es)) a' w'→wpAny P .any all Q fuel (listed.setIfInBounds e.ix true) a' w':=by
    intro a' w' gi;refine ih _ a' w' rest S0 bG (e::es) hs' hf' Hz ⟨h.lay,h.pF,h.tail,h.asc,h.XV,hval,fun m hm=>?_,fun m hm=>?_,fun j hj=>?_,fun y hy=>?_,gi⟩
    ·rcases List.mem_cons.1 hm with e' | hm
     ·subst e';exact he
     ·exact h.sub m hm
    ·rw [fe hil,List.mem_cons,h.mem m hm]
     constructor
     ·rintro (e' | h')
      ·left
       have:∀ {l:List (fo C)},(l.Pairwise fun e m=>ρ m.ix<ρ e.ix)→m∈l→e∈l→m=e:=by
        intro l
        induction l with
        | nil=>intro _ hm;cases hm
        | cons x l ihl=>
         intro hpw hm he;obtain ⟨p1,p2⟩:=List.pairwise_cons.1 hpw
         rcases List.mem_cons.1 hm with e1 | Cw<;>rcases List.mem_cons.1 he with e2 | he1
         ·rw [e1,e2]
         ·subst e1;have:=p1 e he1;rw [e'] at this;omega
         ·subst e2;have:=p1 m Cw;rw [e'] at this;omega
         ·exact ihl p2 Cw he1
       exact this h.lay.desc hm he
      ·exact .inr h'
     ·rintro (e' | h')
      ·subst e';exact .inl rfl
      ·exact .inr h'
    ·rw [fe hil]
     rcases h.XU j hj with h' | h' | h'
     ·exact .inl (.inr h')
     ·exact .inr (.inl h')
     ·exact .inr (.inr h')
    ·rw [fe hil]
     rintro (e' | h')
     ·have:=h.XV e he y hy;rw [e'] at this;omega
     ·exact h.hi y hy h'
   have hw:Region.wanted o (yielded all a.tmps)=e.JL:=by
    unfold Region.wanted
    cases hg:o.guard with
    | none=>rw [hg] at q3;simp only at q3;rw [q3]
    | some g=>
     obtain ⟨j,want⟩:=g;rw [hg] at q3;simp only at q3;obtain ⟨ha,m,hm,hmj,hmd,hmv⟩:=q3;subst hmj;have My:m∈es:=(h.mem m hm).1 (MF _ ha);obtain ⟨om,qm1,qm2,_⟩:=(h.lay.ok m hm).ex;obtain ⟨β,fp,gi⟩:=h.ZJ
     have hdm:∃ d,m.dst=some d:=by
      cases hd:m.dst with
      | some d=>exact ⟨d,rfl⟩
      | none=>rw [hd] at hmd;cases hmd
     obtain ⟨d,hd⟩:=hdm
     rcases hmv with ⟨b,hmv,hiff⟩ | ⟨hmv,QI⟩
     case inr=>
      have hlk:lk (SD S0 es).env d=some .mN:=(fW h.pF h.valid h.sub d _).2 (.inl ⟨m,My,hd,hmv⟩);have hy:=xy (all:=all) (j:=m.ix) gi (d:=d) (by rw [qm1];simp [←qm2,hd]) hlk;simp only [hy,QI];rfl
     have hlk:lk (SD S0 es).env d=some (.one (.bool b)):=(fW h.pF h.valid h.sub d _).2 (.inl ⟨m,My,hd,hmv⟩);have hy:=Bd (all:=all) (j:=m.ix) gi (d:=d) (b:=b) (by rw [qm1];simp [←qm2,hd]) (hall om (by simpa using Array.mem_of_getElem? qm1) d (by rw [←qm2];exact hd)) hlk;simp only [hy]
     cases hx:e.JL with
     | true=>simp [hiff.1 hx]
     | false=>
      have:b≠want:=fun h'=>by rw [hiff.2 h'] at hx;cases hx
      simpa using this
   rw [hw]
   cases QP:e.tQ with
   | none=>rw [QP] at q6;cases q6
   | some x=>
    obtain ⟨v,news,dW⟩:=x
    cases QI:e.JL with
    | false=>
     simp only [Bool.false_eq_true,if_false];have hu:=q5 QI;rw [QP] at hu;cases hu;obtain ⟨β,fp,gi⟩:=h.ZJ;refine next _ _ ⟨β,fp,?_⟩;have:=gi.put (v:=.mN) (u:=undef) o.dst yE rfl
     have e1:SD S0 (e::es)=(SD S0 es).put o.dst .mN:=by
      simp [SD,fo.app,QP,q2,dI]
     rw [e1];exact this
    | true=>
    simp only [if_true];obtain ⟨fs,mn,f1,f2,f7,f3,f4,f5,f6⟩:=q4 v news dW QI QP
    have ffs:∀ m,m∈fs→m∈es:=fun m hm=>(h.mem m (f2 m hm).1).1 (MF _ (f2 m hm).2)
    have hle:Le mn (SD S0 es):=by
     refine ⟨by rw [pf,f5],fun t v ht=>?_,fun id ob hi=>?_⟩
     ·rcases (fW h.pF f1 (fun m hm=>(f2 m hm).1) t v).1 (f3 t v ht) with ⟨m,hm,h4⟩ | ⟨h4,h5⟩
      ·exact (fW h.pF h.valid h.sub t v).2 (.inl ⟨m,ffs m hm,h4⟩)
      ·refine (fW h.pF h.valid h.sub t v).2 (.inr ⟨fun m hm hd=>?_,h5⟩)
       rw [Cm h.pF (h.sub m hm) hd] at h5;cases h5
     ·obtain ⟨g1,g2⟩:=f4 id ob hi
      obtain ⟨g3,g4⟩:=(gK h.pF f1 (fun m hm=>(f2 m hm).1) id ob).1 g1;refine (gK h.pF h.valid h.sub id ob).2 ⟨fun m hm hd=>?_,?_⟩
      ·by_cases ha:has tab e.ix m.ix=true
       ·exact g3 m (f7 m (h.sub m hm) ha) hd
       ·exact Mg h.pF he (h.sub m hm) (Ag m hm).1 (by simpa using ha) (Ag m hm).2 hd g2
      ·rcases g4 with ⟨m,hm,h4⟩ | ⟨h4,h5⟩
       ·exact .inl ⟨m,ffs m hm,h4⟩
       ·refine .inr ⟨fun m hm hk=>?_,h5⟩
        exact (qT h.pF (h.sub m hm) hk).2.2 (Mh (oU h5))
    have hfresh:∀ id,id∈dO news→fJ (SD S0 es) id:=by
     intro id iP
     have hk:id∈e.j9:=by simp [fo.j9,QP,iP]
     have hno:¬ (id∈gg (SD S0 es).env∨id∈eB (SD S0 es).ah):=by
      intro hn
      rcases Dl hn with h4 | h4 | ⟨m,hm,h4⟩
      ·exact (qT h.pF he hk).2.1 h4
      ·exact (qT h.pF he hk).2.2 h4
      ·exact (yy h.pF he (h.sub m hm) (Ag m hm).1 (Ag m hm).2 hk).1 h4
     exact ⟨fun h'=>hno (.inl h'),fun h'=>hno (.inr h')⟩
    have hnd:gz (dO news)=true:=by
     have:=I9 h.pF he
     simpa [fo.j9,QP] using this
    have hev:=f6 (SD S0 es) hle hfresh hnd (fun S'=>some S')
    have e1:tQ (SD S0 es) o.dst v news dW=SD S0 (e::es):=by
     simp [SD,fo.app,QP,tQ,q2]
    rw [e1] at hev;obtain ⟨β,fp,gi⟩:=h.ZJ;refine .inl (Oper.wp_mono ?_ (vT (Q:=Q) hX hC gi yE hev))
    rintro a' w' ⟨S',A7,QL⟩
    cases QL;exact next a' w' A7
  ·obtain ⟨i',o'⟩:=x
   have hxi:i'=i:=hxi;subst hxi;have ib:all[i']?=some o':=h.asc.2 _ hx;rw [ho] at ib;cases ib
   cases rest with
   | nil=>cases hx
   | cons y rest=>
    obtain ⟨q,oq⟩:=y;obtain ⟨hE,htl⟩:=h.tail;obtain ⟨hasc,hlt⟩:=NF h.asc;have hoq:all[q]?=some oq:=h.asc.2 (q,oq) (by simp)
    by_cases hiq:i'=q
    ·
     subst hiq;rw [ho] at hoq;cases hoq
     cases hM:qP X o with
     | some su=>
      rw [hM] at htl;obtain ⟨f,hB,hev⟩:=htl;simp only [LY,Bool.and_eq_true] at hB;obtain ⟨hB1,hB2⟩:=hB
      have hEM:∀ e,e∈bG→RU su o.dst e:=fun e he=>Q2 (List.all_eq_true.1 hB1 e he)
      have hfree:∀ d,o.dst=some d→lk S0.env d=none:=fun d hd=>by
       rw [hd] at hB2
       cases hl:lk S0.env d with
       | none=>rfl
       | some x=>simp [hl] at hB2
      unfold lV at hev;split at hev
      case h_2=>cases hev
      rename_i vs O hvs hO;obtain ⟨hb,hev⟩:=aw hev;simp only [Bool.and_eq_true] at hb;obtain ⟨hEnv,Wi⟩:=hb
      cases hg:su.g (vs.map tc) O with
      | none=>rw [hg] at hev;cases hev
      | some r0=>
      rw [hg] at hev;simp only [Option.bind_some] at hev
      cases hv:rJ (su.ret r0) with
      | none=>rw [hv] at hev;cases hev
      | some v=>
      rw [hv] at hev;simp only [kS] at hev;generalize Jm:(({ S0 with ah:=su.out r0++dI su.ids S0.ah }:St C).put o.dst v)=S1 at hev;obtain ⟨hl1,Wp⟩:=aw hev;have CD:=um hl1;have hgd:o.guard=none:=hp.grd i' o ho hE
      obtain ⟨f',I,hI,hsu⟩:∃ f' I,X.inl f'=some I∧I.sum=some su:=by
       unfold qP at hM;split at hM
       case h_2=>cases hM
       split at hM
       case h_2=>cases hM
       rename_i f' _;split at hM
       case h_2=>cases hM
       rename_i I hI;exact ⟨f',I,hI,hM⟩
      obtain ⟨_,_,hsum⟩:=hC.2.2 f' I hI;obtain ⟨_,_,hkeys⟩:=hsum su hsu
      have S6:∀ id,id∉su.ids→lk (su.out r0) id=none:=fun id iP=>by
       cases e:lk (su.out r0) id with
       | none=>rfl
       | some ob=>exact absurd (hkeys _ O r0 (u7 hO) hg id (oU e)) iP
      have Wr:S1.base=S0.base:=by rw [←Jm];cases o.dst<;>rfl
      have S8:∀ t,lk S1.env t=if o.dst=some t then some v else lk S0.env t:=fun t=>by
       rw [←Jm]
       cases hd:o.dst with
       | none=>simp [St.put]
       | some d=>
        simp only [St.put,aN]
        by_cases e:t=d
        ·subst e;simp
        ·have e':¬ some d=some t:=fun h=>e (Option.some.inj h).symm
         rw [if_neg e,if_neg e']
      have S5:∀ id,lk S1.ah id=if id∈su.ids then lk (su.out r0) id else lk S0.ah id:=fun id=>by
       have e0:S1.ah=su.out r0++dI su.ids S0.ah:=by rw [←Jm];cases o.dst<;>rfl
       rw [e0,dB,jm]
       by_cases hi:id∈su.ids
       ·rw [if_pos hi,if_pos hi];cases lk (su.out r0) id<;>rfl
       ·rw [if_neg hi,if_neg hi,S6 id hi]
      have hup:∀ t x,lk S0.env t=some x→lk S1.env t=some x:=fun t x ht=>by
       rw [S8]
       by_cases e:o.dst=some t
       ·rw [hfree t e] at ht;cases ht
       ·rw [if_neg e];exact ht
      obtain ⟨β,fp,gi⟩:=h.ZJ
      have yD:∀ m,m∈es→RU su o.dst m:=fun m hm=>hEM m (h.sub m hm)
      have Tc:∀ t x,lk S0.env t=some x→lk (SD S0 es).env t=some x:=fun t x ht=>by
       refine (fW h.pF h.valid h.sub t x).2 (.inr ⟨fun m hm hd=>?_,ht⟩);rw [Cm h.pF (h.sub m hm) hd] at ht;cases ht
      have hSobj:∀ id,id∈su.ids→lk S0.ah id=lk (SD S0 es).ah id:=fun id hi=>by
       cases e:lk S0.ah id with
       | some ob=>exact ((gK h.pF h.valid h.sub id ob).2 ⟨fun m hm=>(yD m hm).dW id hi,.inr ⟨fun m hm=>(yD m hm).j9 id hi,e⟩⟩).symm
       | none=>
        cases e2:lk (SD S0 es).ah id with
        | none=>rfl
        | some ob=>
         rcases ((gK h.pF h.valid h.sub id ob).1 e2).2 with ⟨m,hm,h3⟩ | ⟨_,h3⟩
         ·exact absurd (by rw [mA];exact oU h3) ((yD m hm).j9 id hi)
         ·rw [e] at h3;cases h3
      have hA:yn X o (SD S0 es)=some vs:=by
       unfold yn at hvs ⊢;split at hvs
       ·rename_i c hc
        generalize hSa:SD S0 (bG.filter fun e=>has tab i' e.ix)=Sa at hvs;rw [←yZ _ _ Sa []] at hvs
        have hle:Le { Sa with ah:=[] } (SD S0 es):=⟨by rw [←hSa];exact (pf es).trans (pf (S0:=S0) _).symm,fun t x ht=>by
         rw [←hSa] at ht
         rcases (fW h.pF ((h.lay.valid hp).sublist List.filter_sublist) (fun m hm=>(List.mem_filter.1 hm).1) t x).1 ht with ⟨m,hm,h4⟩ | ⟨_,h5⟩
         ·obtain ⟨Cw,Eo⟩:=List.mem_filter.1 hm
          exact (fW h.pF h.valid h.sub t x).2 (.inl ⟨m,(h.mem m Cw).1 (MF m.ix Eo),h4⟩)
         ·exact Tc t x h5,fun id ob hi=>by cases hi⟩
        exact jW hle hvs
       ·cases hvs
      have hT:lV X su o (SD S0 es) (SD S0 es) some=some (({ SD S0 es with ah:=su.out r0++dI su.ids (SD S0 es).ah }:St C).put o.dst v):=by
       unfold lV;rw [hA,← s9 hSobj,hO];simp only [CU hEnv yD,Wi,Bool.and_self,cond_true,hg,Option.bind_some,hv,kS]
      have hw:Region.wanted o (yielded all a.tmps)=true:=by simp [Region.wanted,hgd]
      rw [hw];simp only [if_true];refine .inl (Oper.wp_mono ?_ (UL (Q:=Q) hC.2.2 gi yE hM hT))
      rintro a' w' ⟨eK,eJ,Wd⟩
      have hTenv:∀ t,lk (({ SD S0 es with ah:=su.out r0++dI su.ids (SD S0 es).ah }:St C).put o.dst v).env t=if o.dst=some t then some v else lk (SD S0 es).env t:=fun t=>by
       cases hd:o.dst with
       | none=>simp [St.put]
       | some d=>
        simp only [St.put,aN]
        by_cases e:t=d
        ·subst e;simp
        ·have e':¬ some d=some t:=fun h=>e (Option.some.inj h).symm
         rw [if_neg e,if_neg e']
      have hTobj:∀ id,lk (({ SD S0 es with ah:=su.out r0++dI su.ids (SD S0 es).ah }:St C).put o.dst v).ah id=if id∈su.ids then lk (su.out r0) id else lk (SD S0 es).ah id:=fun id=>by
       have e0:(({ SD S0 es with ah:=su.out r0++dI su.ids (SD S0 es).ah }:St C).put o.dst v).ah=su.out r0++dI su.ids (SD S0 es).ah:=by cases o.dst<;>rfl
       rw [e0,dB,jm]
       by_cases hi:id∈su.ids
       ·rw [if_pos hi,if_pos hi];cases lk (su.out r0) id<;>rfl
       ·rw [if_neg hi,if_neg hi,S6 id hi]
      have hs1:dc X.K w0 nt (SD S1 es) eK eJ a' w':=by
       have q1:=Wd.less (SD S1 es).env (fun t x ht=>by
        rw [hTenv]
        rcases (fW CD h.valid h.sub t x).1 ht with ⟨m,hm,h4,h5⟩ | ⟨h4,h5⟩
        ·have hne:¬ o.dst=some t:=fun e=>(yD m hm).dst t e h4
         rw [if_neg hne];exact (fW h.pF h.valid h.sub t x).2 (.inl ⟨m,hm,h4,h5⟩)
        ·rw [S8] at h5
         by_cases e:o.dst=some t
         ·rw [if_pos e] at h5 ⊢;exact h5
         ·rw [if_neg e] at h5 ⊢;exact Tc t x h5)
       have q2:=q1.sub (O:=(SD S1 es).ah) (fun id ob hi=>by
        show lk (({ SD S0 es with ah:=su.out r0++dI su.ids (SD S0 es).ah }:St C).put o.dst v).ah id=some ob;rw [hTobj];obtain ⟨g1,g2⟩:=(gK CD h.valid h.sub id ob).1 hi
        rcases g2 with ⟨m,hm,h4⟩ | ⟨h4,h5⟩
        ·have hn:id∉su.ids:=fun hi=>(yD m hm).j9 id hi (by rw [mA];exact oU h4)
         rw [if_neg hn];exact (gK h.pF h.valid h.sub id ob).2 ⟨g1,.inl ⟨m,hm,h4⟩⟩
        ·rw [S5] at h5
         by_cases hn:id∈su.ids
         ·rw [if_pos hn] at h5 ⊢;exact h5
         ·rw [if_neg hn] at h5 ⊢
          exact (gK h.pF h.valid h.sub id ob).2 ⟨g1,.inr ⟨h4,h5⟩⟩)
       exact ⟨q2.below,q2.defers,q2.size,q2.fresh,q2.eM,q2.ah,q2.env⟩
      have hlay1:Pp X ρ all tab S1 bG:=by
       refine ⟨h.lay.desc,h.lay.UY,fun e he=>?_⟩;obtain ⟨oe,p1,p2,p3,p5,p6,p4⟩:=(h.lay.ok e he).ex;refine ⟨oe,p1,p2,p3,p5,p6,fun v' news dW hr QP=>?_⟩;obtain ⟨fs,mn,f1,f2,f7,f3,f4,f5,f6⟩:=p4 v' news dW hr QP
       have MI:∀ m,m∈fs→m∈bG:=fun m hm=>(f2 m hm).1
       refine ⟨fs,mn,f1,f2,f7,fun t x ht=>?_,fun id ob hi=>?_,f5.trans Wr.symm,f6⟩
       ·rcases (fW h.pF f1 MI t x).1 (f3 t x ht) with h4 | ⟨h4,h5⟩
        ·exact (fW CD f1 MI t x).2 (.inl h4)
        ·exact (fW CD f1 MI t x).2 (.inr ⟨h4,hup t x h5⟩)
       ·obtain ⟨g1,g2⟩:=f4 id ob hi
        have hn:id∉su.ids:=fun iP=>(hEM e he).need id iP g2
        refine ⟨?_,g2⟩;obtain ⟨g3,g4⟩:=(gK h.pF f1 MI id ob).1 g1;refine (gK CD f1 MI id ob).2 ⟨g3,?_⟩
        rcases g4 with g4 | ⟨g4,g5⟩
        ·exact .inl g4
        ·exact .inr ⟨g4,by rw [S5,if_neg hn];exact g5⟩
      obtain ⟨KQ,jT,g1,g2,g3,g4,g5,g6,g7,g8,g9⟩:=ri hp f rest S1 bG hasc (fun e he x hx=>h.XV e he x (by simp [hx])) hlay1 Wp
      have hnr:∀ x,x∈rest→¬ dt (listed.setIfInBounds i' true) x.1:=fun x hx=>by
       rw [fe hil]
       rintro (e' | h')
       ·have:=hlt x hx;rw [e'] at this;exact absurd this (Nat.lt_irrefl _)
       ·exact h.hi x (by simp [hx]) h'
      refine ih _ a' w' KQ S1 jT es hs' hf' Hz ⟨g1,g2,g3,g4,g9,h.valid,fun e he=>g8 e (h.sub e he),fun e he=>?_,fun j hj=>?_,fun x hx=>hnr x (g5 x hx),⟨eK,eJ,hs1⟩⟩
      ·rcases g6 e he with he' | ⟨x,hx,qh⟩
       ·rw [fe hil,← h.mem e he']
        have hne:¬ e.ix=i':=fun e'=>by
         have:=h.XV e he' (i',o) (by simp);rw [e'] at this;exact absurd this (Nat.lt_irrefl _)
        exact ⟨fun h'=>h'.resolve_left hne,.inr⟩
       ·constructor
        ·intro hl;exact absurd hl (qh▸hnr x hx)
        ·intro hes
         have:=(h.mem e (h.sub e hes)).2 hes;rw [←qh] at this;exact absurd this (h.hi x (by simp [hx]))
      ·rw [fe hil]
       rcases h.XU j hj with h' | ⟨e,he,JO⟩ | ⟨x,hx,Mr⟩
       ·exact .inl (.inr h')
       ·exact .inr (.inl ⟨e,g8 e he,JO⟩)
       ·rcases List.mem_cons.1 hx with e2 | hx
        ·rw [e2] at Mr;exact .inl (.inl Mr.symm)
        ·rcases g7 x hx with h' | ⟨e,he,hex⟩
         ·exact .inr (.inr ⟨x,h',Mr⟩)
         ·exact .inr (.inl ⟨e,he,hex.trans Mr⟩)
     | none=>
     rw [hM] at htl;obtain ⟨f,hev⟩:=htl
     let lag:Nat→Bool:=fun j=> !listed.getD j false
     have hlag:∀ j,lag j=true↔¬ dt listed j:=fun j=>by simp [lag,dt]
     let L:=(vC tab i' bG).filter lag
     have hLm:∀ j,j∈L↔(∃ e,e∈bG∧e.ix=j)∧¬ dt listed j:=fun j=>by
      simp only [L,List.mem_filter,hlag,vC,List.mem_reverse,List.mem_map];constructor
      ·rintro ⟨⟨e,⟨he,_⟩,JO⟩,hn⟩;exact ⟨⟨e,he,JO⟩,hn⟩
      ·rintro ⟨⟨e,he,JO⟩,hn⟩
       refine ⟨⟨e,⟨he,?_⟩,JO⟩,hn⟩
       cases hb:has tab i' e.ix with
       | false=>rfl
       | true=>exact absurd (MF e.ix hb) (JO▸hn)
     have hup:L∈RX tab (vC tab i' bG):=He fun j d hj hd hlj hdj=>by
      rw [hlag] at hlj ⊢;intro hld;simp only [vC,List.mem_reverse,List.mem_map,List.mem_filter] at hd;obtain ⟨e,⟨he,_⟩,hed⟩:=hd
      have hdlt:d<all.size:=by rw [←hed];exact h.lay.UY e he
      have hdo:all[d]?=some all[d]:=by simp [hdlt]
      exact hlj (pY hp hc d _ hdo (fun e2 he2 Ep=>hc d _ hdo hld e2 he2 Ep) j hdj)
     have hev2:=zg hev (List.mem_map.2 ⟨L,hup,rfl⟩)
     have hfs:∀ e,e∈(bG.filter fun e=> !L.any (Nat.beq e.ix))↔e∈bG∧dt listed e.ix:=fun e=>by
      rw [List.mem_filter];constructor
      ·rintro ⟨he,hn⟩
       refine ⟨he,?_⟩
       by_cases hl:dt listed e.ix
       ·exact hl
       ·have:e.ix∈L:=(hLm _).2 ⟨⟨e,he,rfl⟩,hl⟩
        have:L.any (Nat.beq e.ix)=true:=List.any_eq_true.2 ⟨e.ix,this,Nat.beq_refl _⟩;rw [this] at hn;cases hn
      ·rintro ⟨he,hl⟩
       refine ⟨he,?_⟩
       cases hb:L.any (Nat.beq e.ix) with
       | false=>rfl
       | true=>
        obtain ⟨j,hj,hbj⟩:=List.any_eq_true.1 hb;have:=Nat.eq_of_beq_eq_true hbj;subst this;exact absurd hl ((hLm _).1 hj).2
     obtain ⟨β,fp,gi⟩:=at_end hp h ((h.lay.valid hp).sublist List.filter_sublist) hfs
     have hw:Region.wanted o (yielded all a.tmps)=true:=by simp [Region.wanted,hp.grd i' o ho hE]
     rw [hw];simp only [if_true];refine .inl (Oper.wp_mono ?_ (vT (Q:=Q) hX hC gi yE hev2))
     rintro a' w' ⟨S',A7,QL⟩
     have hLasc:L.Pairwise fun a b=>ρ a<ρ b:=by
      refine List.Pairwise.filter _ ?_;unfold vC;rw [List.pairwise_reverse,List.pairwise_map]
      exact (h.lay.desc.sublist List.filter_sublist).imp fun h=>h
     have hA:JU ρ all (jO all L++rest):=FZ (sP hLasc) hasc fun x hx y hy=>by
      obtain ⟨⟨e,he,JO⟩,_⟩:=(hLm _).1 (jF.1 hx).1;rw [←JO];exact h.XV e he y (by simp [hy])
     obtain ⟨KQ,jT,g1,g2,g3,g4,g5,g6,g7,_,g9⟩:=ri hp f _ S' [] hA (fun e he=>(by cases he)) ⟨List.Pairwise.nil,fun e he=>(by cases he),fun e he=>(by cases he)⟩ QL
     have hun:∀ x,x∈jO all L++rest→x.1≠i'∧¬ dt listed x.1:=fun x hx=>by
      rcases List.mem_append.1 hx with hx | hx
      ·obtain ⟨⟨e,he,JO⟩,hn⟩:=(hLm _).1 (jF.1 hx).1
       have:=h.XV e he (i',o) (by simp);exact ⟨fun e'=>by rw [JO,e'] at this;exact absurd this (Nat.lt_irrefl _),hn⟩
      ·have:=hlt x hx
       exact ⟨fun e'=>by rw [e'] at this;exact absurd this (Nat.lt_irrefl _),h.hi x (by simp [hx])⟩
     have hun':∀ x,x∈jO all L++rest→¬ dt (listed.setIfInBounds i' true) x.1:=fun x hx=>by
      rw [fe hil]
      rintro (e' | h')
      ·exact (hun x hx).1 e'
      ·exact (hun x hx).2 h'
     refine ih _ a' w' KQ S' jT [] hs' hf' Hz ⟨g1,g2,g3,g4,g9,List.Pairwise.nil,fun e he=>(by cases he),fun e he=>?_,fun j hj=>?_,fun x hx=>hun' x (g5 x hx),A7⟩
     ·constructor
      ·intro hl
       rcases g6 e he with h' | ⟨x,hx,qh⟩
       ·cases h'
       ·exact absurd hl (qh▸hun' x hx)
      ·intro h';cases h'
     ·rw [fe hil]
      by_cases e1:j=i'
      ·exact .inl (.inl e1)
      ·by_cases hl:dt listed j
       ·exact .inl (.inr hl)
       ·have hmem:∃ x,x∈jO all L++rest∧x.1=j:=by
         rcases h.XU j hj with h' | ⟨e,he,JO⟩ | ⟨x,hx,Mr⟩
         ·exact absurd h' hl
         ·exact ⟨(j,all[j]),List.mem_append.2 (.inl (jF.2 ⟨(hLm j).2 ⟨⟨e,he,JO⟩,hl⟩,by simp [hj]⟩)),rfl⟩
         ·rcases List.mem_cons.1 hx with e2 | hx
          ·rw [e2] at Mr;exact absurd Mr.symm e1
          ·exact ⟨x,List.mem_append.2 (.inr hx),Mr⟩
        obtain ⟨x,hx,Mr⟩:=hmem
        rcases g7 x hx with h' | ⟨e,he,hex⟩
        ·exact .inr (.inr ⟨x,h',Mr⟩)
        ·exact .inr (.inl ⟨e,he,hex.trans Mr⟩)
    ·
     exfalso
     have hx':(i',o)∈rest:=(List.mem_cons.1 hx).resolve_left fun e=>hiq (by cases e;rfl)
     have hql:ρ q<ρ i':=hlt _ hx'
     have hqs:q<all.size:=by
      rcases Nat.lt_or_ge q all.size with h | h
      ·exact h
      ·simp [Array.getElem?_eq_none h] at hoq
     have hE':yB X all q=true:=by simp [yB,hoq,hE]
     exact h.hi (q,oq) (by simp) (MF q (hp.tQ i' o ho q hqs hql hE'))
end
section
variable {Ty:Type} [DecidableEq Ty] {C:Ty→Type}
variable {P:Program} {X:Cx C} {w0 w:World} {nt:Nat} {S:St C} {β:Nat→Value} {fp:Nat→Nat→Prop} {a:Act} {R:Type} {r:R}
def R4 (nt:Nat):Option Tmp→Bool
 | some t=>Nat.blt t nt
 | none=>true
def Qk (nt:Nat):List Oper→Bool
 | []=>true
 | o::r=>R4 nt o.dst&&Qk nt r
def jb (nt:Nat):Code→Bool
 | .region _ ops _=>Qk nt ops.toList
 | .seq a b=>jb nt a&&jb nt b
 | .cond _ a b=>jb nt a&&jb nt b
 | .block _ c=>jb nt c
 | .loop c=>jb nt c
 | .scope c=>jb nt c
 | _=>true
theorem ug:∀ {l:List Oper},Qk nt l=true→∀ o,o∈l→slot o.dst nt
 | [],_,o,h=>by cases h
 | x::l,hb,o,h=>by
  simp only [Qk,Bool.and_eq_true] at hb
  rcases List.mem_cons.1 h with e | h
  ·subst e
   intro t ht;have:=hb.1;rw [ht] at this;simp only [R4] at this;have h2:Nat.ble (t+1) nt=true:=this;exact Nat.le_of_ble_eq_true h2
  ·exact ug hb.2 o h
theorem dc.drawn {K:Cd C} (h:dc K w0 nt S β fp a w):dc K w0 nt S β fp a { w with drawn:=w.drawn+1 }:=by
 have hst:∀ k,aH S.ah fp w k→aH S.ah fp { w with drawn:=w.drawn+1 } k∧({ w with drawn:=w.drawn+1 }:World).heap[k]?=w.heap[k]?:=fun k hk=>⟨hk,rfl⟩
 have iP:∀ id,iQ w { w with drawn:=w.drawn+1 } S.ah S.ah β β fp fp id:=fun id=>⟨rfl,fun _ _ _ ho=>⟨ho,fun k hk=>⟨hk,rfl⟩⟩⟩
 exact ⟨h.below.trans ⟨rfl,rfl,rfl,Nat.le_refl _,fun _ _=>rfl⟩,h.defers,h.size,h.fresh,h.eM,fun id ob ho=>(h.ah id ob ho).tr hst (fun _ _=>rfl) (fun _ _ _ id _=>iP id),fun t v ht=>(h.env t v ht).tr hst fun id _=>iP id⟩
theorem G6:∀ {l:List Oper} {n:Nat},(jP n l).Pairwise (fun x y=>x.1<y.1)∧∀ x,x∈jP n l→n≤x.1
 | [],n=>⟨List.Pairwise.nil,fun x h=>by cases h⟩
 | o::l,n=>by
  obtain ⟨h1,h2⟩:=G6 (l:=l) (n:=n+1);refine ⟨List.pairwise_cons.2 ⟨fun x hx=>?_,h1⟩,fun x hx=>?_⟩
  ·have:=h2 x hx
   show n<x.1;omega
  ·rcases List.mem_cons.1 hx with e | hx
   ·subst e;exact Nat.le_refl _
   ·have:=h2 x hx;omega
theorem G5:∀ {l:List Oper} {n:Nat} {x:Nat×Oper},x∈jP n l→∃ m,x.1=n+m∧l[m]?=some x.2
 | [],n,x,h=>by cases h
 | o::l,n,x,h=>by
  rcases List.mem_cons.1 h with e | h
  ·subst e;exact ⟨0,rfl,rfl⟩
  ·obtain ⟨m,h1,h2⟩:=G5 h
   exact ⟨m+1,by omega,by simpa using h2⟩
theorem Hf:∀ {l:List Oper} {n m:Nat} {o:Oper},l[m]?=some o→(n+m,o)∈jP n l
 | [],n,m,o,h=>by simp at h
 | o'::l,n,m,o,h=>by
  cases m with
  | zero=>simp at h;subst h;exact List.mem_cons_self
  | succ m=>
   have:=Hf (l:=l) (n:=n+1) (m:=m) (o:=o) (by simpa using h);refine List.mem_cons_of_mem _ ?_
   have e:n+1+m=n+(m+1):=by omega
   rw [e] at this;exact this
theorem yM {all:Array Oper} {i:Nat} (h:i∈iF all):(∀ (j:Nat) (o:Oper) cs b,all[j]?=some o→o.op ≠ .select cs b)∧∃ o,all[i]?=some o∧vQ all i o=true:=by
 unfold iF at h
 cases hb:all.toList.all zX with
 | false=>rw [hb] at h;cases h
 | true=>
  rw [hb] at h;simp only [cond_true,List.mem_map,List.mem_filter] at h;obtain ⟨x,⟨h1,h2⟩,rfl⟩:=h;obtain ⟨m,e,h3⟩:=G5 h1;refine ⟨fun j o cs b hj he=>?_,x.2,by rw [e,Nat.zero_add];simpa using h3,h2⟩;have:=List.all_eq_true.1 hb o (by simpa using Array.mem_of_getElem? hj);unfold zX at this;rw [he] at this;cases this
theorem As {all:Array Oper}:(iF all).Nodup:=by
 unfold iF
 cases all.toList.all zX with
 | false=>exact List.nodup_nil
 | true=>
  have h:=(G6 (l:=all.toList) (n:=0)).1
  have h2:(((jP 0 all.toList).filter fun x=>vQ all x.1 x.2).map (·.1)).Pairwise (· < ·):=by
   rw [List.pairwise_map];exact h.sublist List.filter_sublist
  exact h2.imp fun h=>Nat.ne_of_lt h
theorem uO (hX:je P X) {all:Array Oper} {Q:Exit→Act→World→Prop} (hall:∀ o,o∈all.toList→slot o.dst nt) (hP:∀ c a w d v,Q (.panic c) (a.put d v) w→Q (.panic c) a w):∀ (l:List Nat) (listed:Array Bool) (a:Act) (S S1:St C),
  listed.size=all.size→l.Nodup→(∀ i,i∈l→i∈iF all)→(∀ i,i∈l→¬ dt listed i)→dc X.K w0 nt S β fp a w→jN X all l S=some S1 →
  (∀ (a':Act) (jo:Array Bool),jo.size=all.size→(∀ j,dt jo j↔dt listed j∨j∈l)→dc X.K w0 nt S1 β fp a' w→wpAny P .any all Q (jo.toList.count false) jo a' w)→wpAny P .any all Q (listed.toList.count false) listed a w
 | [],listed,a,S,S1,hs,_,_,_,gi,hp,hk=>by
  simp only [jN,Option.some.injEq] at hp;subst hp;exact hk a listed hs (fun j=>by simp) gi
 | i::l,listed,a,S,S1,hs,hn,hf,hl,gi,hp,hk=>by
  obtain ⟨hsel,o,ho,hb⟩:=yM (hf i (by simp))
  have hi:i<all.size:=by
   rcases Nat.lt_or_ge i all.size with h | h
   ·exact h
   ·simp [Array.getElem?_eq_none h] at ho
  have hil:i<listed.size:=by omega
  simp only [jN,ho] at hp;unfold vQ at hb;split at hb
  case h_2=>cases hb
  rename_i x hop hgd;rw [hop] at hp;simp only at hp;split at hp
  case h_2=>cases hp
  rename_i v hv;simp only [Bool.and_eq_true,List.all_eq_true] at hb;obtain ⟨QQ,Ep⟩:=hb;have hnl:=hl i (by simp)
  have h2:listed.getD i true=false:=by
   unfold dt at hnl;simp only [Array.getD_eq_getD_getElem?,Array.getElem?_eq_getElem hil,Option.getD_some] at hnl ⊢
   simpa using hnl
  have hcnt:listed.toList.count false=(listed.setIfInBounds i true).toList.count false+1:=by
   have hv:listed.toList[i]'(by simpa using hil)=false:=by
    simp only [Array.getD_eq_getD_getElem?,Array.getElem?_eq_getElem hil,Option.getD_some] at h2
    simpa using h2
   rw [Array.toList_setIfInBounds,List.count_set (by simpa using hil),hv];have hpos:0<listed.toList.count false:=List.count_pos_iff.2 (hv▸List.getElem_mem _);generalize listed.toList.count false=m at hpos;have e1:(false==false)=true:=rfl
   have e2:¬ (true==false)=true:=by decide
   rw [if_pos e1,if_neg e2];omega
  rw [hcnt];have yE:slot o.dst nt:=hall o (by simpa using Array.mem_of_getElem? ho);refine wpAny_first (v:=a.eval x) ho hsel (fun c a w h=>hP c a w _ _ h) _ listed a w (fun j oj hj hne _ hed=>?_) (oO.2 ⟨hi,h2,fun o' ib e he Ta=>?_⟩) (.inl ⟨by simp [Region.wanted,hgd],fun w=>?_⟩) ?_
  ·have:=Ep (j,oj) (by have:=Hf (n:=0) (m:=j) (l:=all.toList) (o:=oj) (by simpa using hj);simpa using this)
   simp only [Bool.or_eq_true] at this
   rcases this with (h1 | h1) | h1
   ·exact absurd (Nat.eq_of_beq_eq_true h1) hne
   ·obtain ⟨e,he,Ta⟩:=List.any_eq_true.1 h1
    simp only [Bool.and_eq_true] at Ta;exact absurd (Nat.eq_of_beq_eq_true Ta.2) (hed e (by simpa using he) Ta.1)
   ·exact h1
  ·rw [ho] at ib
   cases ib;have:=QQ e he;rw [Ta] at this;cases this
  ·obtain ⟨dst,op,ty,pos,dL,gd⟩:=o
   simp only at hop;subst hop;simp [execOp]
  ·refine uO hX hall hP l _ (a.put o.dst (a.eval x)) (S.put o.dst v) S1 (by simp [hs]) (List.nodup_cons.1 hn).2 (fun j hj=>hf j (by simp [hj])) (fun j hj=>?_) (gi.put o.dst yE (dM gi hv)) hp (fun a' jo q1 q2 q3=>hk a' jo q1 (fun j=>?_) q3)
   ·rw [fe hil]
    rintro (e | h)
    ·exact (List.nodup_cons.1 hn).1 (e▸hj)
    ·exact hl j (by simp [hj]) h
   ·rw [q2,fe hil,List.mem_cons]
    constructor
    ·rintro ((e | h) | h)
     ·exact .inr (.inl e)
     ·exact .inl h
     ·exact .inr (.inr h)
    ·rintro (h | e | h)
     ·exact .inl (.inr h)
     ·exact .inl (.inl e)
     ·exact .inr h
theorem FN (hX:je P X) (hC:Cons P X) (hm:P.follows .mixedOrders=true) {all:Array Oper} {tab:List (Nat×Nat)} {k:St C→Option R} {Q:Exit→Act→World→Prop} {id:Nat} (hall:∀ o,o∈all.toList→slot o.dst nt)
  (hQ:∀ a w,Next X.K w0 nt k r a w→Q .normal a w) (hP:∀ c a w d v,Q (.panic c) (a.put d v) w→Q (.panic c) a w) (hs:dc X.K w0 nt S β fp a w) (h:WJ X all tab S k=some r):(Code.region id all true).wp P Q a w:=by
 obtain ⟨hb,h⟩:=aw h;split at h
 case h_2=>cases h
 rename_i S1 Jm;have hp:=Qa hb;have Ep:=(Bool.and_eq_true ..).mp hb;have hb3:=Ep.2;simp only [E6,Bool.and_eq_true,List.all_eq_true] at hb3
 have hno:∀ i,¬ dt (Array.replicate all.size false) i:=by
  intro i hi;unfold dt at hi;simp [Array.getD_eq_getD_getElem?,Array.getElem?_replicate] at hi;split at hi<;>simp at hi
 have hs0:dc X.K w0 nt { S with env:=dI (u4 X all.toList) S.env } β fp a { w with drawn:=w.drawn+1 }:=hs.drawn.less _ fun t v ht=>by
  rw [jm] at ht;split at ht
  ·cases ht
  ·exact ht
 have hin:∀ i,i∈(pO X all tab).filter (fun i=> !(iF all).any (Nat.beq i))↔i∈pO X all tab∧i∉iF all:=fun i=>by
  rw [List.mem_filter];refine and_congr Iff.rfl ?_;rw [←Rj (i:=i) (l:=iF all)];cases (iF all).any (Nat.beq i)<;>simp
 refine wp_region_any hm ?_;have key:=uO (P:=P) (w:={ w with drawn:=w.drawn+1 }) hX hall hP (iF all) (Array.replicate all.size false) a _ S1 (by simp) As (fun i hi=>hi) (fun i _=>hno i) hs0 Jm (fun a' jo q1 q2 q3=>?_)
 ·have e:(Array.replicate all.size false).toList.count false=all.size:=by simp
  rw [e] at key;exact key
 have q2':∀ j,dt jo j↔j∈iF all:=fun j=>by
  rw [q2];exact ⟨fun h=>h.resolve_left (hno j),.inr⟩
 have hasc:JU (EU (pO X all tab)) all (jO all ((pO X all tab).filter fun i=> !(iF all).any (Nat.beq i))):=sP ((ye hb3.1).sublist List.filter_sublist);obtain ⟨rest,bG,g2,g3,g4,g5,g6,g7,g8,_,g9⟩:=ri hp 4096 _ _ [] hasc (fun e he=>(by cases he)) ⟨List.Pairwise.nil,fun e he=>(by cases he),fun e he=>(by cases he)⟩ h
 have hmem:∀ x,x∈jO all ((pO X all tab).filter fun i=> !(iF all).any (Nat.beq i))→¬ dt jo x.1:=fun x hx hl=>((hin x.1).1 (jF.1 hx).1).2 ((q2' x.1).1 hl)
 refine MU hX hC hp hall hQ _ jo a' _ rest _ bG [] q1 rfl (fun i o ho hi e he Ta=>?_) ⟨g2,g3,g4,g5,g9,List.Pairwise.nil,fun e he=>(by cases he),fun e he=>⟨fun hi=>?_,fun hi=>(by cases hi)⟩,fun i hi=>?_,fun x hx=>hmem x (g6 x hx),⟨β,fp,q3⟩⟩
 ·obtain ⟨_,o',ib,hfb⟩:=yM ((q2' i).1 hi)
  rw [ho] at ib;cases ib;unfold vQ at hfb;split at hfb
  case h_2=>cases hfb
  simp only [Bool.and_eq_true,List.all_eq_true] at hfb;have:=hfb.1 e he;rw [Ta] at this;cases this
 ·rcases g7 e he with h' | ⟨x,hx,qh⟩
  ·cases h'
  ·exact absurd hi (qh▸hmem x hx)
 ·by_cases hl:dt jo i
  ·exact .inl hl
  ·obtain ⟨x,hx,hxi⟩:∃ x:Nat×Oper,x∈jO all ((pO X all tab).filter fun i=> !(iF all).any (Nat.beq i))∧x.1=i:=⟨(i,all[i]),jF.2 ⟨(hin i).2 ⟨Rj.1 (hb3.2 i (se hi)),fun hf=>hl ((q2' i).2 hf)⟩,by simp [hi]⟩,rfl⟩
   rcases g8 x hx with h' | ⟨e,he,hex⟩
   ·exact .inr (.inr ⟨x,h',by omega⟩)
   ·exact .inr (.inl ⟨e,he,by omega⟩)
theorem dc.know {K:Cd C} (h:dc K w0 nt S β fp a w) {t:Nat} {b:Bool} (hv:a.tmps.getD t undef = .bool b):dc K w0 nt { S with env:=(t,.one (.bool b))::S.env } β fp a w:=by
 refine ⟨h.below,h.defers,h.size,h.fresh,h.eM,h.ah,fun t' v ht=>?_⟩;have mO:lk ((t,.one (.bool b))::S.env) t'=some v:=ht;rw [aN] at mO;split at mO
 ·rename_i e;cases mO;subst e;exact hv
 ·exact h.env t' v mO
def post (K:Cd C) (w0:World) (nt:Nat) (k:Ex→St C→Option R) (r:R):Exit→Act→World→Prop
 | .normal,a,w=>∃ S',nq K w0 nt S' a w∧k .norm S'=some r
 | .exit id,a,w=>∃ S',nq K w0 nt S' a w∧k (.exit id) S'=some r
 | .ret,a,w=>∃ S',nq K w0 nt S' a w∧k .ret S'=some r
 | _,_,_=>False
theorem rn {pq:List Nat} {rec:St C→Option R} (h:gR pq rec S=some r):∃ S',S.canon pq=some S'∧rec S'=some r:=by
 unfold gR at h;split at h
 ·rename_i S' hS;rw [kS] at h;exact ⟨S',hS,h⟩
 ·cases h
theorem oN (hX:je P X) (hC:Cons P X) (hm:P.follows .mixedOrders=true) (F:Cf):∀ (c:Code) (cur:Nat) (S:St C) (a:Act) (w:World) (k:Ex→St C→Option R),jb nt c=true→nq X.K w0 nt S a w →
  run X F c cur S k=some r→c.wp P (post X.K w0 nt k r) a w:=by
 intro c
 induction c with
 | skip=>
  intro cur S a w k _ hs h;exact Go.wp_skip ⟨S,hs,h⟩
 | label l=>
  intro cur S a w k _ hs h;exact Go.wp_label ⟨S,hs,h⟩
 | exit id=>
  intro cur S a w k _ hs h;exact Go.wp_exit ⟨S,hs,h⟩
 | ret=>
  intro cur S a w k _ hs h;exact Go.wp_ret ⟨S,hs,h⟩
 | region id ops draw=>
  intro cur S a w k hb ⟨β,fp,hs⟩ h;simp only [run,kS] at h
  cases draw with
  | true=>
   refine FN hX hC hm (ug hb) (k:=fun S'=>k .norm (S'.tidy F.keep)) (r:=r) ?_ (fun _ _ _ _ _ h=>h.elim) hs h
   rintro a' w' ⟨S',⟨eK,eJ,hs'⟩,hk⟩
   exact ⟨_,⟨eK,eJ,hs'.tidy F.keep⟩,hk⟩
  | false=>
   refine wp_region_list (sC hX hC (ug hb) (k:=fun S'=>k .norm (S'.tidy F.keep)) (r:=r) ?_ ops.toList S β fp a w (ug hb) hs h)
   rintro a' w' ⟨S',⟨eK,eJ,hs'⟩,hk⟩
   exact ⟨_,⟨eK,eJ,hs'.tidy F.keep⟩,hk⟩
 | seq x y ihx ihy=>
  intro cur S a w k hb hs h;simp only [jb,Bool.and_eq_true] at hb;refine wp_seq (Go.wp_mono (ihx cur S a w _ hb.1 hs h) ?_)
  rintro (_ | _ | _ | _ | _ | _) a' w' hp
  ·obtain ⟨S',hs',hk⟩:=hp
   exact ihy cur S' a' w' k hb.2 hs' hk
  ·exact hp
  ·exact hp.elim
  ·exact hp
  ·exact hp.elim
  ·exact hp.elim
 | cond c x y ihx ihy=>
  intro cur S a w k hb ⟨β,fp,hs⟩ h;simp only [jb,Bool.and_eq_true] at hb
  cases c with
  | tmp t=>
   simp only [run] at h;split at h
   ·rename_i b hb'
    have hv:a.tmps.getD t undef = .bool b:=hs.env t _ hb';refine wp_cond_split (t:=b) hv (fun e=>?_) (fun e=>?_)
    ·subst e
     exact ihx cur _ a w k hb.1 ⟨β,fp,hs.know hv⟩ h
    ·subst e
     exact ihy cur _ a w k hb.2 ⟨β,fp,hs.know hv⟩ h
   ·cases h
  | _=>cases h
 | block id c ih=>
  intro cur S a w k hb hs h;refine wp_block (Go.wp_mono (ih id S a w _ hb hs h) ?_)
  rintro (_ | _ | _ | _ | _ | _) a' w' hp
  ·exact hp
  ·rename_i j
   obtain ⟨S',hs',hk⟩:=hp;simp only [cJ] at hk;simp only [Exit.inBlock]
   by_cases e:j=id
   ·subst e
    rw [if_pos rfl];rw [Nat.beq_refl] at hk;exact ⟨S',hs',hk⟩
   ·rw [if_neg e]
    have:Nat.beq j id=false:=by
     cases hq:Nat.beq j id with
     | false=>rfl
     | true=>exact absurd (Nat.eq_of_beq_eq_true hq) e
    rw [this] at hk;exact ⟨S',hs',hk⟩
  ·exact hp.elim
  ·exact hp
  ·exact hp.elim
  ·exact hp.elim
 | loop c ih=>
  intro cur S a w k hb ⟨β,fp,hs⟩ h;obtain ⟨S1,hc,h⟩:=rn h;generalize F.pq cur S=pq at hc h
  have key:∀ (n:Nat) (S:St C) (a:Act) (w:World),nq X.K w0 nt S a w→iter (fun rec S=>run X F c cur S (dq rec k)) pq n S=some r→Code.rounds P c (post X.K w0 nt k r) n a w:=by
   intro n
   induction n with
   | zero=>intro S a w _ h;cases h
   | succ n ihn=>
    intro S a w hs h;refine Go.wp_mono (ih cur S a w _ hb hs h) ?_
    rintro (_ | _ | _ | _ | _ | _) a' w' hp
    ·obtain ⟨S',⟨eK,eJ,hs'⟩,hk⟩:=hp
     obtain ⟨S2,hc2,h2⟩:=rn hk;exact ihn S2 a' w' (oA hs' hc2) h2
    ·exact hp
    ·exact hp.elim
    ·exact hp
    ·exact hp.elim
    ·exact hp.elim
  exact wp_loop_rounds F.N (key F.N S1 a w (oA hs hc) h)
 | scope c ih=>
  intro cur S a w k hb hs h;refine wp_scope_straight (Go.wp_mono (ih cur S a w k hb hs h) ?_)
  rintro (_ | _ | _ | _ | _ | _) a' w' hp
  ·exact hp
  ·exact hp
  ·exact hp.elim
  ·exact hp
  ·exact hp.elim
  ·exact hp.elim
 | _=>
  intro cur S a w k _ hs h;cases h
end
section
variable {Ty:Type} [DecidableEq Ty] {C:Ty→Type}
variable {P:Program} {X:Cx C} {w0 w:World} {nt:Nat} {S:St C} {β:Nat→Value} {fp:Nat→Nat→Prop} {a:Act} {R:Type} {r:R}
def jy (tmps:Array Value):ResultVar→Sem Value
 | .tmp t=>pure (tmps.getD t undef)
 | .cell a t=>do loadVar t (←asAddr (tmps.getD a undef))
theorem mS (fn:Func) (tmps:Array Value):results fn tmps=(do
  let vs ← fn.results.toList.mapM (jy tmps)
  pure (match vs with
   | [v]=>v
   | vs=>.tuple vs.toArray)):=by
 have e:results fn tmps=(do
  let vs ← fn.results.mapM (jy tmps)
  pure (if h:vs.size=1 then vs[0] else .tuple vs)):=by
  unfold results
  congr 1
 rw [e,Array.mapM_eq_mapM_toList];simp only [map_eq_pure_bind,bind_assoc,pure_bind]
 congr 1
 funext l
 congr 1
 match l with
 | []=>rfl
 | [v]=>rfl
 | v::v'::r=>simp
theorem qA (hX:je P X) (hs:dc X.K w0 nt S β fp a w):∀ (l:List ResultVar) (rs:List (Bool×List (Lf C))),gQ X S l=some rs →
  ∃ us:List Value,fF rs=true∧cT X.K w S.ah β fp (aH S.ah fp w) (flatten rs) us∧(l.mapM (jy a.tmps)).run P w = .ok (dC rs us) w:=by
 intro l
 induction l with
 | nil=>
  intro rs h;simp only [gQ,Option.some.injEq] at h;subst h;exact ⟨[],rfl,⟨rfl,fun i l h=>by simp [flatten] at h⟩,by simp [dC]⟩
 | cons x l ih=>
  intro rs h
  have one:∀ (c:Lf C) (rs':List (Bool×List (Lf C))) (u:Value),gQ X S l=some rs'→rs=(false,[c])::rs'→db X.K w S.ah β fp (aH S.ah fp w) c u→(jy a.tmps x).run P w = .ok u w →
    ∃ us:List Value,fF rs=true∧cT X.K w S.ah β fp (aH S.ah fp w) (flatten rs) us∧((x::l).mapM (jy a.tmps)).run P w = .ok (dC rs us) w:=by
   intro c rs' u hr e hu hrun;subst e;obtain ⟨us,h1,h2,h3⟩:=ih rs' hr;refine ⟨u::us,by simpa [fF] using h1,⟨by simp [flatten,h2.1],fun i l hi=>?_⟩,?_⟩
   ·cases i with
    | zero=>simp [flatten] at hi;subst hi;exact hu
    | succ i=>exact h2.2 i l (by simpa [flatten] using hi)
   ·rw [List.mapM_cons]
    simp [hrun,h3,dC,lJ]
  have many:∀ (cs:List (Lf C)) (rs':List (Bool×List (Lf C))) (wX:List Value),gQ X S l=some rs'→rs=(true,cs)::rs'→cT X.K w S.ah β fp (aH S.ah fp w) cs wX→(jy a.tmps x).run P w = .ok (.agg wX.toArray) w →
    ∃ us:List Value,fF rs=true∧cT X.K w S.ah β fp (aH S.ah fp w) (flatten rs) us∧((x::l).mapM (jy a.tmps)).run P w = .ok (dC rs us) w:=by
   intro cs rs' wX hr e hu hrun;subst e;obtain ⟨us,h1,h2,h3⟩:=ih rs' hr;refine ⟨wX++us,by simpa [fF] using h1,⟨by simp [flatten,h2.1,hu.1],fun i l hi=>?_⟩,?_⟩
   ·simp only [flatten] at hi
    by_cases hlt:i<cs.length
    ·rw [List.getElem?_append_left hlt] at hi
     have:=hu.2 i l hi
     have e:(wX++us).getD i undef=wX.getD i undef:=by
      simp [List.getD,List.getElem?_append_left (by rw [hu.1];exact hlt:i<wX.length)]
     rw [e];exact this
    ·have hge:cs.length≤i:=Nat.le_of_not_lt hlt
     rw [List.getElem?_append_right hge] at hi;have:=h2.2 _ l hi
     have e:(wX++us).getD i undef=us.getD (i-cs.length) undef:=by
      simp [List.getD,List.getElem?_append_right (by rw [hu.1];exact hge:wX.length≤i),hu.1]
     rw [e];exact this
   ·rw [List.mapM_cons]
    have e1:(wX++us).take cs.length=wX:=by rw [←hu.1];simp
    have e2:(wX++us).drop cs.length=us:=by rw [←hu.1];simp
    simp [hrun,h3,dC,lJ,e1,e2]
  cases x with
  | tmp t=>
   simp only [gQ] at h;split at h
   ·rename_i c hc
    split at h
    ·rename_i rs' hr
     cases h;exact one c rs' _ hr rfl (hs.env t _ hc) rfl
    ·cases h
   ·rename_i cs hc
    split at h
    ·rename_i rs' hr
     cases h;obtain ⟨wX,e,h0⟩:=hs.env t _ hc;exact many cs rs' wX hr rfl h0 (by simp [jy,e])
    ·cases h
   ·cases h
  | cell b t=>
   simp only [gQ] at h;split at h
   ·rename_i c tk hc ht
    obtain ⟨ls,p,hk,hv,hcell⟩:=rk hs (hs.env b _ hc) h;split at hk
    ·rename_i c1 rs' hm hr
     cases hk;obtain ⟨u,hu,hok⟩:=uj (hX.tk _ _ ht) hm hcell;exact one c1 rs' u hr rfl hok (by simp [jy,hv,asAddr,hu])
    ·rename_i c1 rs' hm hr
     cases hk;obtain ⟨u,hu,wX,e,h0⟩:=uj (hX.tk _ _ ht) hm hcell;subst e;exact many c1 rs' wX hr rfl h0 (by simp [jy,hv,asAddr,hu])
    ·cases hk
   ·cases h
theorem mU:∀ (rs:List (Bool×List (Lf C))) (ls:List (Lf C)),ls.length=(flatten rs).length→flatten (reshape rs ls)=ls∧eV (reshape rs ls)=eV rs
 | [],ls,h=>by
  simp [flatten] at h;subst h;exact ⟨rfl,rfl⟩
 | (b,l)::r,ls,h=>by
  simp only [flatten,List.length_append] at h;obtain ⟨h1,h2⟩:=mU r (ls.drop l.length) (by simp;omega);refine ⟨by simp [reshape,flatten,h1],?_⟩;simp only [reshape,eV,h2,List.cons.injEq,Prod.mk.injEq,true_and,and_true];simp;omega
theorem Qi (hs:dc X.K w0 nt S β fp a w) {rs rs':List (Bool×List (Lf C))} (ho:outs S rs=some rs') (hok:fF rs=true) {us:List Value} (hl:cT X.K w S.ah β fp (aH S.ah fp w) (flatten rs) us) :
  H3 X.K w0 w rs' (pack rs us):=by
 unfold outs at ho;split at ho
 ·rename_i ls' S' ha
  cases ho;obtain ⟨_,_,_,g3,G,g4,g5,g6⟩:=o9 hs (flatten rs) us S.ah ls' S' false (fun _ _ h=>h) ha hl;obtain ⟨e1,e2⟩:=mU rs ls' g3;refine ⟨us,G,(kV e2).symm,by rw [e1,g3,hl.1],by rw [ig e2];exact hok,fun m k hk=>?_,fun m m' k h1 h2=>g5 m m' k h1 h2,fun m l hm=>?_⟩
  ·obtain ⟨id,ob,h1,h2,h3⟩:=g4 m k hk
   exact hs.fresh id ob k h1 h3
  ·rw [e1] at hm
   exact (g6 m l hm).1 rfl
 ·cases ho
theorem mK:∀ (vs:List (SV C)) (n t:Nat) (v:SV C),lk (iW n vs) t=some v→n≤t∧vs[t-n]?=some v
 | [],n,t,v,h=>by simp [iW,lk] at h
 | x::vs,n,t,v,h=>by
  simp only [iW,aN] at h
  by_cases e:t=n
  ·subst e
   simp at h;subst h;exact ⟨Nat.le_refl _,by simp⟩
  ·rw [if_neg e] at h
   obtain ⟨h1,h2⟩:=mK vs (n+1) t v h;refine ⟨by omega,?_⟩
   have e:t-n=(t-(n+1))+1:=by omega
   rw [e]
   simpa using h2
theorem GG {K:Cd C} {ah:cW C} {F:Nat→Prop} {l:Lf C} {u:Value} (h:gT K w F l u):db K w ah β fp F l u:=by
 cases h with
 | int=>rfl
 | bool=>rfl
 | str=>rfl
 | bP=>rfl
 | row t xs A c a U h1 h2 h3 h4=>exact .row t xs A c a U h1 h2 h3 h4
theorem Iv {K:Cd C} {vs:List (SV C)} {us:List Value} (hi:K.inv w) (hl:us.length=vs.length) (hn:vs.length≤nt)
  (ha:∀ (i:Nat) (v:SV C),vs[i]?=some v→wL K w (fun k=>k<w.heap.size) v (us.getD i undef)) :
  nq K w nt (start vs) { tmps:=us.toArray++Array.replicate (nt-us.toArray.size) undef,defers:=[] } w:=by
 refine ⟨fun _=>undef,fun _ _=>False,Below.refl _ _,⟨rfl,hi⟩,by simp;omega,fun id ob k h=>by simp [start,lk] at h,fun id gM ob dY k h=>by simp [start,lk] at h,fun id ob h=>by simp [start,lk] at h,fun t v h=>?_⟩;obtain ⟨_,h⟩:=mK vs 0 t v h;simp only [Nat.sub_zero] at h
 have hlt:t<us.length:=by
  rw [hl]
  rcases Nat.lt_or_ge t vs.length with h' | h'
  ·exact h'
  ·simp [List.getElem?_eq_none h'] at h
 have e:(us.toArray++Array.replicate (nt-us.toArray.size) undef).getD t undef=us.getD t undef:=by
  simp [Array.getD_eq_getD_getElem?,Array.getElem?_append,hlt,List.getD]
 show dD K w _ _ _ _ v ((us.toArray++Array.replicate (nt-us.toArray.size) undef).getD t undef);rw [e]
 have hst:∀ k,k<w.heap.size→aH (start vs).ah (fun _ _=>False) w k:=fun k hk=>⟨hk,fun _ _ _ h=>h⟩
 have:=ha t v h
 cases v with
 | one l=>
  cases l with
  | nH t x o=>obtain ⟨p,U,h1,h2,h3,h4⟩:=this;exact ⟨p,U,h1,hst _ h2,h3,fun i l hi=>(h4 i l hi).mono hst⟩
  | _=>exact (show db K w (start vs).ah (fun _=>undef) (fun _ _=>False) _ _ (us.getD t undef) from GG (this.2.mono hst))
 | agg ls=>
  obtain ⟨mM,e,h1,h2⟩:=this;exact ⟨mM,e,h1,fun i l hi=>GG ((h2 i l hi).mono hst)⟩
 | _=>exact this.elim
theorem MN (hX:je P X) (hC:Cons P X) (hm:P.follows .mixedOrders=true) (F:Cf) {f:Nat} {fn:Func} {c:Code} (hf:P.funcs[f]?=some fn) (hb:fn.body=some c) (hB:jb fn.ntmps c=true) {vs:List (SV C)} {us:List Value}
  (hi:X.K.inv w) (hl:us.length=vs.length) (hn:vs.length≤fn.ntmps) (ha:∀ (i:Nat) (v:SV C),vs[i]?=some v→wL X.K w (fun k=>k<w.heap.size) v (us.getD i undef))
  {k:List (Bool×List (Lf C))→Option R} (h:dG X F fn vs k=some r) :
  Calls P f us.toArray w fun e w'=>∃ v,e = .returned v∧Below w.heap.size w w'∧∃ rs,k rs=some r∧H3 X.K w w' rs v:=by
 unfold dG at h;rw [hb] at h;refine calls_of_wp hf hb (Go.wp_mono (oN hX hC hm F c 0 _ _ w _ hB (Iv hi hl hn ha) h) ?_)
 have fin:∀ (a:Act) (w':World) (S:St C),nq X.K w fn.ntmps S a w'→(match gQ X S fn.results.toList with
   | some rs=>match outs S rs with
    | some rs'=>k rs'
    | none=>none
   | none=>none)=some r→a.defers=[]∧∃ v,(results fn a.tmps).run P w' = .ok v w'∧∃ Ke,Ending.returned v = .returned Ke∧Below w.heap.size w w'∧∃ rs,k rs=some r∧H3 X.K w w' rs Ke:=by
  intro a w' S ⟨β,fp,hs⟩ h;split at h
  ·rename_i rs hr
   split at h
   ·rename_i rs' ho
    obtain ⟨mM,h1,h2,h3⟩:=qA hX hs _ rs hr;refine ⟨hs.defers.1,pack rs mM,?_,_,rfl,hs.below,rs',h,Qi hs ho h1 h2⟩;rw [mS];simp only [Sem.run_bind,h3,Result.andThen_ok];rfl
   ·cases h
  ·cases h
 rintro (_ | _ | _ | _ | _ | _) a' w' hp
 ·obtain ⟨S',hs',hk⟩:=hp;exact fin a' w' S' hs' hk
 ·obtain ⟨S',hs',hk⟩:=hp;cases hk
 ·exact hp.elim
 ·obtain ⟨S',hs',hk⟩:=hp;exact fin a' w' S' hs' hk
 ·exact hp.elim
 ·exact hp.elim
theorem Rb (hX:je P X) (hC:Cons P X) (hm:P.follows .mixedOrders=true) {f:Nat} {fn:Func} {c:Code} (hf:P.funcs[f]?=some fn) (hb:fn.body=some c) (hB:jb fn.ntmps c=true) (hname:fn.name ≠ "runtime.NumGoroutine") (co:iK C)
  (dec:List (Bool×List (Lf C))→Option co.R0) (hd:∀ rs r0,dec rs=some r0→rs=co.ret r0)
  (h:∀ vs r0,co.g vs=some r0→vs.length≤fn.ntmps∧∃ F:Cf,dG X F fn vs dec=some r0) (QJ:co.nz=false:=by rfl):dm P X.K f co:=by
 refine ⟨⟨fn,hf,by rw [hb];rfl,hname⟩,fun w vs us r0 hi hl ha hg=>?_⟩;obtain ⟨hn,F,hr⟩:=h vs r0 hg
 refine (MN hX hC hm F hf hb hB hi hl hn ha hr).mono fun e w' ⟨v,he,hbel,rs,hk,hres⟩=>⟨v,he,hbel,?_,fun hz=>by rw [QJ] at hz;cases hz⟩
 rw [hd rs r0 hk] at hres;exact hres
def cu {A:Type} (jd:(A→Option R)→A→Option R):Nat→A→Option R
 | 0,_=>none
 | n+1,x=>jd (cu jd n) x
theorem iter_eq {A:Type} {f:(St C→Option R)→St C→Option R} {pq:List Nat} (st:A→St C) (jd:(A→Option R)→A→Option R)
  (h:∀ rec x,f (gR pq rec) (st x)=jd (fun x=>rec (st x)) x):∀ n x,iter f pq n (st x)=cu jd n x
 | 0,_=>rfl
 | n+1,x=>by
  rw [iter,h,cu]
  congr 1
  funext y
  exact iter_eq st jd h n y
end
section
variable {Ty:Type} [DecidableEq Ty] {C:Ty→Type}
variable {P:Program} {K:Cd C}
theorem cF {T:TypeId} {z:ZL Ty} {d:TypeDesc} (h1:(P.info? T).map (fun i=>i.size)=some 1) (h2:(P.info? T).bind (fun i=>i.zero)=some z.val) (h3:P.underlying T=some d) (h4:z.desc K d):aI P K T (.one z):=by
 cases hi:P.info? T with
 | none=>rw [hi] at h1;cases h1
 | some i=>
  rw [hi] at h1 h2;exact ⟨⟨i,hi,by simpa using h1,h2⟩,d,h3,h4⟩
def FK (P:Program) (f:Field) (x:Nat×Nat×Bool):Bool:=
 Nat.beq f.offset x.1&&(match P.info? f.type with
  | some i=>Nat.beq i.size x.2.1
  | none=>false)&&Nat.ble 1 x.2.1&&(match P.underlying f.type with
  | some (.struct _)=>x.2.2
  | some (.array ..)=>x.2.2
  | some _=> !x.2.2
  | none=>false)
def uu (P:Program):List Field→List (Nat×Nat×Bool)→Bool
 | [],[]=>true
 | f::l,x::r=>FK P f x&&uu P l r
 | _,_=>false
theorem vS:∀ {l:List Field} {fs:List (Nat×Nat×Bool)},uu P l fs=true→l.length=fs.length∧∀ (j:Nat) (x:Nat×Nat×Bool),fs[j]?=some x→∃ f,l[j]?=some f∧FK P f x=true
 | [],[],_=>⟨rfl,fun j x h=>by simp at h⟩
 | [],_::_,h=>by cases h
 | _::_,[],h=>by cases h
 | f::l,x::r,h=>by
  simp only [uu,Bool.and_eq_true] at h;obtain ⟨h1,h2⟩:=vS h.2;refine ⟨by simp [h1],fun j y hj=>?_⟩
  cases j with
  | zero=>simp at hj;subst hj;exact ⟨f,rfl,h.1⟩
  | succ j=>exact h2 j y (by simpa using hj)
def Gr (P:Program) (T:TypeId) (fs:List (Nat×Nat×Bool)):Bool:=match P.underlying T with
 | some (.struct fields)=>uu P fields.toList fs
 | _=>false
theorem cR {T:TypeId} {fs:List (Nat×Nat×Bool)} {zs:List (ZL Ty)} (h1:(P.info? T).map (fun i=>i.size)=some zs.length) (h2:(P.info? T).bind (fun i=>i.zero)=some (.agg (zs.map ZL.val).toArray))
  (h3:Gr P T fs=true):aI P K T (.agg fs zs):=by
 cases hi:P.info? T with
 | none=>rw [hi] at h1;cases h1
 | some i=>
  rw [hi] at h1 h2;refine ⟨⟨i,hi,by simpa using h1,h2⟩,?_⟩;unfold Gr at h3;split at h3
  ·rename_i fields hu
   obtain ⟨g1,g2⟩:=vS h3;refine ⟨fields,hu,by simpa using g1,fun j off n ag hj=>?_⟩;obtain ⟨f,hf,hb⟩:=g2 j _ hj;simp only [FK,Bool.and_eq_true] at hb;obtain ⟨⟨⟨b1,b2⟩,b3⟩,b4⟩:=hb
   cases hfi:P.info? f.type with
   | none=>rw [hfi] at b2;cases b2
   | some fi=>
    rw [hfi] at b2;refine ⟨f,fi,by simpa using hf,Nat.eq_of_beq_eq_true b1,hfi,Nat.eq_of_beq_eq_true b2,Nat.le_of_ble_eq_true b3,?_⟩
    cases hd:P.underlying f.type with
    | none=>rw [hd] at b4;cases b4
    | some d=>
     rw [hd] at b4;refine ⟨d,rfl,?_⟩;cases d<;>simp at b4<;>simp [b4]
  ·cases h3
def Pt:Lf C→Option Value
 | .int k n=>some (.int k n)
 | .bool b=>some (.bool b)
 | .str s=>some (.string s)
 | .row _ []=>some (.slice none 0 0)
 | .bP f=>some (vP f)
 | _=>none
theorem mF {t:Ty} {z:Value} (h1:(P.info? (K.tid t)).map (fun i=>(i.size,i.bytes))=some (K.sz t,K.bytes t)) (h2:0<K.bytes t) (h3:(P.info? (K.tid t)).bind (fun i=>i.zero)=some z)
  (h4:(K.enc t (K.zero t)).map Pt=z.cells.toList.map some):wK P K t:=by
 cases hi:P.info? (K.tid t) with
 | none=>rw [hi] at h1;cases h1
 | some i=>
  rw [hi] at h1 h3;simp only [Option.map_some,Option.some.injEq,Prod.mk.injEq] at h1
  have hlen:z.cells.size=K.sz t:=by
   have:=congrArg List.length h4
   simpa [K.gA] using this.symm
  refine ⟨i,z,hi,h1.1,h1.2,h2,h3,hlen,fun j l hj w base F=>?_⟩
  have hz:Pt l=some (z.cells.getD j undef):=by
   have:=congrArg (fun x=>x[j]?) h4;simp only [List.getElem?_map,hj,Option.map_some] at this
   have hjl:j<z.cells.size:=by
    have:j<(K.enc t (K.zero t)).length:=by
     rcases Nat.lt_or_ge j (K.enc t (K.zero t)).length with h | h
     ·exact h
     ·simp [List.getElem?_eq_none h] at hj
    rw [hlen,← K.gA t (K.zero t)];exact this
   rw [Array.getElem?_toList,Array.getElem?_eq_getElem hjl] at this;rw [Array.getD_eq_getD_getElem?,Array.getElem?_eq_getElem hjl]
   simpa using this
  cases l with
  | int k n=>simp only [Pt,Option.some.injEq] at hz;rw [←hz];exact .int ..
  | bool b=>simp only [Pt,Option.some.injEq] at hz;rw [←hz];exact .bool ..
  | str s=>simp only [Pt,Option.some.injEq] at hz;rw [←hz];exact .str ..
  | bP f=>simp only [Pt,Option.some.injEq] at hz;rw [←hz];exact .bP ..
  | row t' xs=>
   cases xs with
   | nil=>
    simp only [Pt,Option.some.injEq] at hz;rw [←hz];exact .row _ t' [] _ [] (fun _ _ _=>False) (World.ownsRow_nil ..) (fun g hg=>by simp [Value.ownBlock] at hg) (fun _ _ _ h=>h.elim) (fun _ _ _ _ _ h=>h.elim) (fun j hj=>absurd hj (by simp))
   | cons x xs=>simp [Pt] at hz
  | _=>simp [Pt] at hz
def au:Code→List Nat→Code
 | .seq a _,0::r=>au a r
 | .seq _ b,1::r=>au b r
 | .block _ c,_::r=>au c r
 | .loop c,_::r=>au c r
 | .scope c,_::r=>au c r
 | .cond _ a _,0::r=>au a r
 | .cond _ _ b,1::r=>au b r
 | c,_=>c
def ak (f:Func):Code:=match f.body with
 | some c=>c
 | none=>.skip
def eu {R:Type} (X:Cx C) (fn:Func) (k:List (Bool×List (Lf C))→Option R) (e:Ex) (S:St C):Option R:=match e with
 | .exit _=>none
 | _=>match gQ X S fn.results.toList with
  | some rs=>match outs S rs with
   | some rs'=>k rs'
   | none=>none
  | none=>none
end
section
variable {Ty:Type} [DecidableEq Ty] {C:Ty→Type}
variable {P:Program} {K:Cd C} {w:World}
def isFn:Option TypeDesc→Bool
 | some (.func ..)=>true
 | _=>false
def isIf:Option TypeDesc→Bool
 | some (.interface _)=>true
 | _=>false
theorem aD {T:TypeId} (h1:(P.info? T).map (fun i=>i.size)=some 1) (h2:(P.info? T).bind (fun i=>i.zero)=some .nilFunc) (h3:isFn (P.underlying T)=true):aI P K T (.one .bP):=by
 cases h:P.underlying T with
 | none=>rw [h] at h3;cases h3
 | some d=>
  rw [h] at h3
  cases d with
  | func p r v=>exact cF h1 h2 h ⟨p,r,v,rfl⟩
  | _=>cases h3
theorem Ir {T:TypeId} (h1:(P.info? T).map (fun i=>i.size)=some 1) (h2:(P.info? T).bind (fun i=>i.zero)=some .nilIface) (h3:isIf (P.underlying T)=true):aI P K T (.one (.nk .lX)):=by
 cases h:P.underlying T with
 | none=>rw [h] at h3;cases h3
 | some d=>
  rw [h] at h3
  cases d with
  | interface ms=>exact cF h1 h2 h ⟨ms,rfl⟩
  | _=>cases h3
theorem aaW {l:List (Nat×MT Ty)} (h:∀ x,x∈l→Dm P K x.1 x.2):∀ T m,lk l T=some m→Dm P K T m:=by
 induction l with
 | nil=>intro T m hm;cases hm
 | cons x l ih=>
  intro T m hm;obtain ⟨n,v⟩:=x;rw [aN] at hm;split at hm
  ·rename_i e;cases hm;subst e;exact h (T,m) (by simp)
  ·exact ih (fun y hy=>h y (by simp [hy])) T m hm
def allK (P:Program) (K:Cd C):List (Nat×TK Ty)→Prop
 | []=>True
 | x::r=>aI P K x.1 x.2∧allK P K r
theorem Kn:∀ {l:List (Nat×TK Ty)},allK P K l→∀ T k,lk l T=some k→aI P K T k
 | [],_,T,k,h=>by cases h
 | (n,v)::l,ha,T,k,h=>by
  rw [aN] at h;split at h
  ·rename_i e;cases h;subst e;exact ha.1
  ·exact Kn ha.2 T k h
def lkS:List (Nat×String×Nat)→Nat→String→Option Nat
 | [],_,_=>none
 | (T,s,f)::r,U,t=>cond (Nat.beq U T&&decide (t=s)) (some f) (lkS r U t)
def SS:Option TypeDesc→Bool
 | some (.pointer _)=>true
 | some _=>false
 | none=>true
def L2 (P:Program) (x:Nat×String×Nat):Bool:=match P.info? x.1 with
 | some i=>match i.methods.find? (·.name==x.2.1) with
  | some m=>m.path.isEmpty&&(match m.func with
   | some (g,false)=>Nat.beq g x.2.2 && !SS (P.underlying x.1)
   | some (g,true)=>Nat.beq g x.2.2&&(P.underlying x.1).isSome&&SS (P.underlying x.1)
   | none=>false)
  | none=>false
 | none=>false
theorem L1 {x:Nat×String×Nat} (h:L2 P x=true) (n:Nat) (v:Value) (w:World):(method (n+1) x.1 v x.2.1).run P w = .ok (x.2.2,v) w:=by
 obtain ⟨T,s,f⟩:=x;unfold L2 at h;simp only at h;split at h
 case h_2=>cases h
 rename_i i hi;split at h
 case h_2=>cases h
 rename_i m hm;simp only [Bool.and_eq_true] at h;obtain ⟨h1,h2⟩:=h
 have hp:m.path = #[]:=by simpa using h1
 have eR:(typeInfo T).run P w = .ok i w:=by simp [typeInfo,hi]
 have hf:(follow m.path.toList T (.val v)).run P w = .ok (T,.val v) w:=by rw [hp];rfl
 unfold method;simp only [Sem.run_bind,eR,Result.andThen_ok,hm,hf];split at h2
 ·rename_i g hg
  simp only [Bool.and_eq_true] at h2;have e:=Nat.eq_of_beq_eq_true h2.1;subst e;rw [hg]
  cases hd:P.underlying T with
  | none=>rw [hd] at h2;cases h2.2
  | some d=>
   have:(receiverAt T (.val v) false (if m.path.isEmpty=true then some ((s.splitOn ".").getLastD s) else none)).run P w = .ok v w:=by
    unfold receiverAt;simp only [Sem.run_bind,bb hd,Result.andThen_ok];rw [hd] at h2
    cases d<;>first | rfl | cases h2.2
   simp only [Sem.run_bind,this,Result.andThen_ok];rfl
 ·rename_i g hg
  simp only [Bool.and_eq_true] at h2;have e:=Nat.eq_of_beq_eq_true h2.1.1;subst e;rw [hg]
  cases hd:P.underlying T with
  | none=>rw [hd] at h2;cases h2.1.2
  | some d=>
   have:(receiverAt T (.val v) true (if m.path.isEmpty=true then some ((s.splitOn ".").getLastD s) else none)).run P w = .ok v w:=by
    unfold receiverAt;simp only [Sem.run_bind,bb hd,Result.andThen_ok];rw [hd] at h2
    cases d<;>first | rfl | cases h2.2
   simp only [Sem.run_bind,this,Result.andThen_ok];rfl
 ·cases h2
theorem Qw {l:List (Nat×String×Nat)} (h:l.all (L2 P)=true):∀ T name f,lkS l T name=some f→∀ v w,(method (P.types.size+Made.depth) T v name).run P w = .ok (f,v) w:=by
 intro T name f hf v w
 have hd:0<Made.depth:=by decide
 have hn:∃ n,P.types.size+Made.depth=n+1:=⟨P.types.size+Made.depth-1,by omega⟩;obtain ⟨n,hn⟩:=hn;rw [hn];clear hn
 induction l with
 | nil=>cases hf
 | cons x l ih=>
  simp only [List.all_cons,Bool.and_eq_true] at h;obtain ⟨T',s,f'⟩:=x;simp only [lkS] at hf
  cases hb:Nat.beq T T'&&decide (name=s) with
  | true=>
   rw [hb] at hf;cases hf;simp only [Bool.and_eq_true,decide_eq_true_eq] at hb;have e:=Nat.eq_of_beq_eq_true hb.1;obtain ⟨_,rfl⟩:=hb;subst e;exact L1 h.1 n v w
  | false=>rw [hb] at hf;exact ih h.2 hf
end
section
variable {Ty:Type} [DecidableEq Ty] {C:Ty→Type}
variable {P:Program} {X:Cx C} {w0 w:World} {nt:Nat} {S:St C} {β:Nat→Value} {fp:Nat→Nat→Prop} {a:Act} {R:Type} {r:R}
section
variable {K:Cd C} {kp:Nat→Prop} {kh:Nat→Option Obj} {hd:Nat→Value}
theorem Az (h:Cons P X):Cons P (X.gh kp kh hd):=⟨fun f c hc=>W2 (h.1 f c hc),fun f c hc=>Q9 (h.2.1 f c hc),fun f I hI=>V2 (h.2.2 f I hI)⟩
end
def GB:Nat:=90000
def A0:Nat:=50000000
def sv1:Bool×List (Lf C)→SV C
 | (false,l::_)=>.one l
 | (_,ls)=>.agg ls
def CB:Nat→List (Lf C)→List (Nat×SV C)
 | _,[]=>[]
 | m,.row _ _::r=>(GB+1+m,.jf (A0+m) m)::CB (m+1) r
 | m,_::r=>CB (m+1) r
def zI (rs:List (Bool×List (Lf C))):St C:={ env:=iW 0 ((bY A0 rs).1.map sv1)++(GB,.frame)::CB 0 (flatten rs),ah:=(bY A0 rs).2,base:=0 }
def roots (S:St C):Nat→List Bool→Option (List (Lf C))
 | _,[]=>some []
 | m,true::r=>match lk S.env (GB+1+m) with
  | some (.jf id j)=>cond (Nat.beq j m) (match roots S (m+1) r with
   | some l=>some (.ref id []::l)
   | none=>none) none
  | _=>none
 | m,false::r=>roots S (m+1) r
def vD (X:Cx C) (fn:Func) (mask:List Bool) (dec:List (Lf C)→List (Bool×List (Lf C))→Option R) (e:Ex) (S:St C):Option R:=match e with
 | .exit _=>none
 | _=>match lk S.env GB with
  | some .frame=>match gQ X S fn.results.toList,roots S 0 mask with
   | some rs',some rt=>match di S (rt++flatten rs') with
    | some (ls',_,false)=>dec (ls'.take rt.length) (reshape rs' (ls'.drop rt.length))
    | _=>none
   | _,_=>none
  | _=>none
theorem Hv:∀ {ls:List (Lf C)} {m t:Nat} {v:SV C},lk (CB m ls) t=some v→∃ i t' xs,ls[i]?=some (.row t' xs)∧v = .jf (A0+(m+i)) (m+i)
 | [],m,t,v,h=>by simp [CB,lk] at h
 | l::ls,m,t,v,h=>by
  have up:lk (CB (m+1) ls) t=some v→∃ i t' xs,(l::ls)[i]?=some (.row t' xs)∧v = .jf (A0+(m+i)) (m+i):=fun h=>by
   obtain ⟨i,t',xs,h1,h2⟩:=Hv h;exact ⟨i+1,t',xs,by simpa using h1,by rw [h2];congr 1<;>omega⟩
  cases l with
  | row t' xs=>
   simp only [CB,aN] at h;split at h
   ·cases h;exact ⟨0,t',xs,rfl,rfl⟩
   ·exact up h
  | _=>exact up h
theorem EO {K:Cd C} {rs:List (Bool×List (Lf C))} {j6:List Value} {G:Nat→Nat→Prop} (hi0:K.inv w0) (hb0:Below w0.heap.size w0 w) (hok:fF rs=true) (vG:j6.length=(flatten rs).length) (hn:rs.length≤nt)
  (pX:∀ m k,G m k→w0.heap.size≤k∧k<w.heap.size) (hdj:∀ m m' k,G m k→G m' k→m=m') (kE:∀ (m:Nat) (l:Lf C),(flatten rs)[m]?=some l→l.plain=true∧Own K w w0.heap.size (G m) l (j6.getD m undef))
  (hkp:∀ k,K.kp (2*k)→k<w.heap.size∧∀ m,¬ G m k) (hkh:∀ k,K.kh k=w.heap[k]?) (hhd:∀ m,K.hd m=j6.getD m undef) :
  dc K w0 nt (zI rs) (fun id=>j6.getD (id-A0) undef) (fun id=>G (id-A0)) { tmps:=(dC rs j6).toArray++Array.replicate (nt-(dC rs j6).toArray.size) undef,defers:=[] } w:=by
 have hsh:=jh rs A0
 have m5:∀ id ob,lk (bY A0 rs).2 id=some ob→∃ m t xs,id=A0+m∧(flatten rs)[m]?=some (.row t xs)∧ob = .row t xs false:=fun id ob h=>qb _ _ _ _ h
 have hlfs:cT K w (zI rs).ah (fun id=>j6.getD (id-A0) undef) (fun id=>G (id-A0)) (aH (zI rs).ah (fun id=>G (id-A0)) w) (flatten (bY A0 rs).1) j6:=by
  refine ⟨by rw [vG,jS hsh],fun m l hm=>?_⟩
  rcases ry rs A0 m l hm with ⟨t,xs,q1,q2,q3⟩ | ⟨q1,q2⟩
  ·subst q2
   refine ⟨(kE m _ q1).2.one,?_⟩;simp
  ·exact pN (kE m l q1).2 q2
 obtain ⟨hpl,hpk⟩:=pM (by rw [ig hsh];exact hok) hlfs;rw [lS hsh] at hpl hpk
 have hlen:(bY A0 rs).1.length=rs.length:=by
  have:∀ (rs:List (Bool×List (Lf C))) (n:Nat),(bY n rs).1.length=rs.length:=by
   intro rs
   induction rs with
   | nil=>intro n;rfl
   | cons x r ih=>intro n;obtain ⟨b,ls⟩:=x;simp [bY,ih]
  exact this rs A0
 refine ⟨hb0,⟨rfl,hi0⟩,by simp;omega,fun id ob k h hk=>pX _ k hk,fun id gM ob dY k h h' hk hk'=>?_,fun id ob h=>?_,fun t v h=>?_⟩
 ·obtain ⟨m,_,_,e,_⟩:=m5 id ob h
  obtain ⟨m',_,_,e',_⟩:=m5 gM dY h';have:=hdj _ _ k hk hk';omega
 ·obtain ⟨m,t,xs,e,h1,h2⟩:=m5 id ob h
  subst h2
  have e':id-A0=m:=by omega
  show Own K w w0.heap.size (G (id-A0)) (.row t xs) (j6.getD (id-A0) undef);rw [e'];exact (kE m _ h1).2
 ·have h':lk (iW 0 ((bY A0 rs).1.map sv1)++(GB,.frame)::CB 0 (flatten rs)) t=some v:=h
  rw [dB] at h'
  cases e1:lk (iW 0 ((bY A0 rs).1.map sv1)) t with
  | some v'=>
   rw [e1] at h';cases h';obtain ⟨_,e2⟩:=mK _ 0 t _ e1;simp only [Nat.sub_zero,List.getElem?_map] at e2
   cases e3:(bY A0 rs).1[t]? with
   | none=>rw [e3] at e2;cases e2
   | some x=>
    rw [e3] at e2;simp only [Option.map_some,Option.some.injEq] at e2;subst e2
    have hlt:t<(dC rs j6).length:=by rw [hpl];exact eD e3
    have e4:((dC rs j6).toArray++Array.replicate (nt-(dC rs j6).toArray.size) undef).getD t undef=(dC rs j6).getD t undef:=by
     simp [Array.getD_eq_getD_getElem?,Array.getElem?_append,hlt,List.getD]
    show dD K w _ _ _ _ (sv1 x) (((dC rs j6).toArray++Array.replicate (nt-(dC rs j6).toArray.size) undef).getD t undef);rw [e4];have:=hpk t x e3;obtain ⟨b,ls⟩:=x
    cases b with
    | false=>obtain ⟨l,e,h1⟩:=this;subst e;exact h1
    | true=>exact this
  | none=>
   rw [e1] at h';simp only [aN] at h';split at h'
   ·cases h'
    intro k hk;obtain ⟨h1,h2⟩:=hkp k hk;exact ⟨⟨h1,fun id ob _=>h2 _⟩,(hkh k).symm⟩
   ·obtain ⟨i,t',xs,h1,h2⟩:=Hv h'
    subst h2;have e:A0+(0+i)-A0=0+i:=Nat.add_sub_cancel_left ..
    have e2:j6.getD (A0+(0+i)-A0) undef=K.hd (0+i):=by rw [e,hhd]
    exact e2
end
section
variable {Ty:Type} [DecidableEq Ty] {C:Ty→Type}
variable {P:Program} {X:Cx C} {K:Cd C} {w0 w:World} {nt:Nat} {S:St C} {β:Nat→Value} {fp:Nat→Nat→Prop} {a:Act} {R:Type} {r:R} {ah:cW C} {cM:Nat→Prop}
theorem Jn {v:SV C} {u u':Value} (hv:(∃ x j,v = .bQ x j)∨(∃ id j,v = .jf id j)∨v = .frame) (h:dD K w ah β fp cM v u):dD K w ah β fp cM v u':=by
 rcases hv with ⟨x,j,rfl⟩ | ⟨id,j,rfl⟩ | rfl<;>exact h
theorem VZ (hX:je P X) (hC:Cons P X) (hm:P.follows .mixedOrders=true) (F:Cf) {f:Nat} {fn:Func} {c:Code} (hf:P.funcs[f]?=some fn) (hb:fn.body=some c) (hB:jb fn.ntmps c=true) (hname:fn.name ≠ "runtime.NumGoroutine"):dx P X.K f (iZ X F fn):=by
 refine ⟨⟨fn,hf,by rw [hb];rfl,hname⟩,fun kp kh hd w0 w S β fp vs us R k r hs hkey vG hv h=>?_,fun s hs=>by cases hs⟩;unfold iZ at h;simp only [hb] at h;obtain ⟨hn,h⟩:=aw h;simp only [Bool.and_eq_true] at hn;have hn1:=Nat.le_of_ble_eq_true hn.1;have hn2:=Nat.le_of_ble_eq_true hn.2;rw [←KO (kp:=kp) (kh:=kh) (hd:=hd)] at h
 have gi:dc (X.gh kp kh hd).K w0 fn.ntmps { env:=iW 0 vs++S.env,ah:=S.ah,base:=S.base } β fp { tmps:=us.toArray++Array.replicate (fn.ntmps-us.toArray.size) undef,defers:=[] } w:=by
  refine ⟨hs.below,⟨rfl,hs.defers.2⟩,by simp;omega,hs.fresh,hs.eM,hs.ah,fun t v ht=>?_⟩;have mO:lk (iW 0 vs++S.env) t=some v:=ht;rw [dB] at mO
  cases e1:lk (iW 0 vs) t with
  | some v'=>
   rw [e1] at mO;cases mO;obtain ⟨_,e2⟩:=mK _ 0 t _ e1;simp only [Nat.sub_zero] at e2
   have hlt:t<us.length:=by rw [vG];exact eD e2
   have e4:(us.toArray++Array.replicate (fn.ntmps-us.toArray.size) undef).getD t undef=us.getD t undef:=by
    simp [Array.getD_eq_getD_getElem?,Array.getElem?_append,hlt,List.getD]
   show dD _ w _ _ _ _ v ((us.toArray++Array.replicate (fn.ntmps-us.toArray.size) undef).getD t undef);rw [e4];exact hv t v e2
  | none=>
   rw [e1] at mO;have hge:=hkey t v mO
   have e4:(us.toArray++Array.replicate (fn.ntmps-us.toArray.size) undef).getD t undef=undef:=by
    rw [Array.getD_eq_getD_getElem?,Array.getElem?_eq_none (by simp;omega)];rfl
   show dD _ w _ _ _ _ v ((us.toArray++Array.replicate (fn.ntmps-us.toArray.size) undef).getD t undef);rw [e4];have:=hs.env t v mO
   have e5:nD.tmps.getD t undef=undef:=by simp [nD,Array.getD_eq_getD_getElem?]
   rw [e5] at this;exact this
 refine calls_of_wp hf hb (Go.wp_mono (oN (pI hX) (Az hC) hm F c 0 _ _ w _ hB ⟨_,_,gi⟩ h) ?_)
 have fin:∀ (a:Act) (w':World) (S':St C) (e:Ex),nq (X.gh kp kh hd).K w0 fn.ntmps S' a w'→(e = .norm∨e = .ret)→(match e with
   | .exit _=>none
   | _=>match gQ X S' fn.results.toList with
    | some rs=>k rs { S' with env:=fI S'.env }
    | none=>none)=some r →
   a.defers=[]∧∃ v,(results fn a.tmps).run P w' = .ok v w'∧∃ (Ke:Value) (rs:List (Bool×List (Lf C))) (mR:List Value) (S':St C) (eK:Nat→Value) (eJ:Nat→Nat→Prop),Ending.returned v = .returned Ke∧Ke=pack rs mR∧fF rs=true∧k rs S'=some r ∧
   dc (X.K.gh kp kh hd) w0 0 S' eK eJ nD w'∧cT (X.K.gh kp kh hd) w' S'.ah eK eJ (aH S'.ah eJ w') (flatten rs) mR:=by
  intro a w' S' e ⟨eK,eJ,hs'⟩ he h
  have h:(match gQ X S' fn.results.toList with
    | some rs=>k rs { S' with env:=fI S'.env }
    | none=>none)=some r:=by
   rcases he with he | he<;>subst he<;>exact h
  split at h
  case h_2=>cases h
  rename_i rs hres;rw [←qB (kp:=kp) (kh:=kh) (hd:=hd)] at hres;obtain ⟨mM,h1,h2,h3⟩:=qA (pI hX) hs' _ rs hres;refine ⟨hs'.defers.1,pack rs mM,?_,_,rs,mM,{ S' with env:=fI S'.env },eK,eJ,rfl,rfl,h1,h,⟨hs'.below,⟨rfl,hs'.defers.2⟩,rfl,hs'.fresh,hs'.eM,hs'.ah,fun t v ht=>?_⟩,h2⟩
  ·rw [mS]
   simp only [Sem.run_bind,h3,Result.andThen_ok];rfl
  ·obtain ⟨q1,q2⟩:=m6 ht
   exact Jn q2 (hs'.env t v q1)
 rintro (_ | _ | _ | _ | _ | _) a' w' hp
 ·obtain ⟨S',hs',hk⟩:=hp;exact fin a' w' S' .norm hs' (.inl rfl) hk
 ·obtain ⟨S',hs',hk⟩:=hp;cases hk
 ·exact hp.elim
 ·obtain ⟨S',hs',hk⟩:=hp;exact fin a' w' S' .ret hs' (.inr rfl) hk
 ·exact hp.elim
 ·exact hp.elim
end
section
variable {Ty:Type} {C:Ty→Type} {R:Type}
def opsOf:Code→Array Oper
 | .region _ ops _=>ops
 | _=> #[]
def dS (F:Cf) (k:Ex→St C→Option R) (S:St C):Option R:=ma (S.tidy F.keep) fun S2=>k .norm S2
def da (q b:Nat) (d:Option Tmp) (k:St C→Option R) (rs:List (Bool×List (Lf C))) (S:St C):Option R:=match rJ rs with
 | some v=>ma ((UZ q b S).put d v) k
 | none=>none
def dU (X:Cx C) (fn:Func) (k:List (Bool×List (Lf C))→St C→Option R) (e:Ex) (S:St C):Option R:=match e with
 | .exit _=>none
 | _=>match gQ X S fn.results.toList with
  | some rs=>k rs { S with env:=fI S.env }
  | none=>none
noncomputable def dz [DecidableEq Ty] (X:Cx C) (c:Code) (j:Nat) (k:St C→Option R) (S:St C):Option R:=evs X (opsOf c) ((opsOf c).toList.drop j) S k
noncomputable def pC [DecidableEq Ty] (X:Cx C) (c:Code) (f:Nat) (is:List Nat) (k:St C→Option R) (S:St C):Option R:=lG X (opsOf c) (Xa 0 (opsOf c).toList []) k f (jO (opsOf c) is) S []
def allI (P:Program) (K:Cd C):List (Nat×mP C)→Prop
 | []=>True
 | (f,c)::r=>dx P K f c∧allI P K r
def lkA {α:Type 1}:List (Nat×α)→Nat→Option α
 | [],_=>none
 | (m,v)::r,n=>cond (Nat.beq n m) (some v) (lkA r n)
theorem Md {P:Program} {K:Cd C}:∀ {l:List (Nat×mP C)},allI P K l→∀ f c,lkA l f=some c→dx P K f c
 | [],_,f,c,h=>by cases h
 | (m,v)::r,ha,f,c,h=>by
  simp only [lkA] at h
  cases hb:Nat.beq f m with
  | true=>rw [hb] at h;cases h;have:=Nat.eq_of_beq_eq_true hb;subst this;exact ha.1
  | false=>rw [hb] at h;exact Md ha.2 f c h
end
section
variable {Ty:Type} [DecidableEq Ty] {C:Ty→Type}
variable {P:Program} {X:Cx C} {K:Cd C} {w0 w:World} {nt:Nat} {S:St C} {β:Nat→Value} {fp:Nat→Nat→Prop} {a:Act} {R:Type} {r:R} {ah:cW C} {cM:Nat→Prop}
def pH:Nat:=77777777
def ic:cW C→List (Lf C)
 | []=>[]
 | (id,.box .mem _)::r=>.ptr id 0::ic r
 | (id,.box (.sM ..) _)::r=>.vo id::ic r
 | (id,.box (.lX ..) _)::r=>.vo id::ic r
 | (id,.map ..)::r=>.vo id::ic r
 | _::r=>ic r
def qy:cW C→List Nat
 | []=>[]
 | (id,.row ..)::r=>id::qy r
 | _::r=>qy r
def vp:cW C→Bool
 | []=>true
 | (_,.ghost)::_=>false
 | _::r=>vp r
def qv:Lf C→Bool
 | .int .. =>true
 | .bool _=>true
 | .str _=>true
 | .bP _=>true
 | .row .. =>true
 | _=>false
def sB (S:St C):Lf C→Option (Lf C×St C)
 | .ref id []=>match lk S.ah id with
  | some (.row t xs _)=>some (.row t xs,S.kr id)
  | _=>none
 | .sub id lo hi=>match lk S.ah id with
  | some (.row t xs _)=>some (.row t ((xs.take hi).drop lo),S.kr id)
  | _=>none
 | .nil t=>some (.row t [],S)
 | .row t xs=>some (.row t xs,S)
 | .int k n=>some (.int k n,S)
 | .bool b=>some (.bool b,S)
 | .str s=>some (.str s,S)
 | .bP f=>some (.bP f,S)
 | _=>none
def CL (S:St C):List (Lf C)→Option (List (Lf C)×St C)
 | []=>some ([],S)
 | l::r=>match sB S l with
  | some (l',S1)=>match CL S1 r with
   | some (r',S2)=>some (l'::r',S2)
   | none=>none
  | none=>none
def MJ (S:St C):SV C→Option (SV C×St C)
 | .one l=>match sB S l with
  | some (l',S1)=>some (.one l',S1)
  | none=>none
 | .agg ls=>match CL S ls with
  | some (ls',S1)=>some (.agg ls',S1)
  | none=>none
 | _=>none
def Jo (S:St C):List Nat→Option (St C)
 | []=>some S
 | t::r=>match lk S.env t with
  | some v=>match MJ S v with
   | some (v',S1)=>Jo { S1 with env:=(t,v')::S1.env } r
   | none=>none
  | none=>none
def jL:ResultVar→Nat
 | .tmp t=>t
 | .cell a _=>a
def EE (x:ResultVar):ResultVar:=.tmp (jL x)
def rM (nt:Nat):List Nat→Bool
 | []=>true
 | t::r=>Nat.blt t nt&&(!r.any (Nat.beq t)&&rM nt r)
def n8 (X:Cx C) (S:St C):List ResultVar→Option (St C)
 | []=>some S
 | .tmp _::r=>n8 X S r
 | .cell a t::r=>match lk S.env a,X.tk t with
  | some (.one l),some tk=>ez X S l fun ls=>match Aa tk ls with
   | some v=>n8 X (S.put (some a) v) r
   | none=>none
  | _,_=>none
def Ks (c:jw C) (vs:List (SV C)) (O:cW C):St C:={ env:=iW 0 vs++[(GB,.frame),(GB+1,.bQ (true,c.roots) 0)],ah:=(pH,.ghost)::O,base:=0 }
def nG {R:Type} (X:Cx C) (fn:Func) (dec:cW C→List (Lf C)→List (Bool×List (Lf C))→Option R) (e:Ex) (S:St C):Option R:=match e with
 | .exit _=>none
 | _=>cond (rM fn.ntmps (fn.results.toList.map jL)) (match n8 X S fn.results.toList with
  | some S0=>match Jo S0 (fn.results.toList.map jL) with
   | some S1=>match S1.canon (fn.results.toList.map jL) with
    | some S'=>match gQ X S' (fn.results.toList.map EE) with
     | some rs=>match lk S'.env GB,lk S'.env (GB+1) with
      | some .frame,some (.bQ (true,ls) j)=>cond (Nat.beq j 0) (dec S'.ah ls rs) none
      | _,_=>none
     | none=>none
    | none=>none
   | none=>none
  | none=>none) none
noncomputable def iD {R:Type} (X:Cx C) (F:Cf) (fn:Func) (c:jw C) (vs:List (SV C)) (O:cW C) (dec:cW C→List (Lf C)→List (Bool×List (Lf C))→Option R):Option R:=run X F (ak fn) 0 (Ks c vs O) (nG X fn dec)
structure AP (c:jw C) (vs:List (SV C)) (O:cW C) (r:c.R0):Prop where
 roots:ic O=c.roots
 rows:qy O=c.fQ
 gh:vp O=true
 gh':vp (c.out r)=true
 keys:∀ id,id∈dO (c.out r)→id∈c.ids
 rows':∀ id,id∈qy (c.out r)→id∈c.fQ
 closed:∀ id,id∈eB (c.out r)→id∈c.ids
 LK:pH∉c.ids
 simple:∀ l,l∈flatten (c.ret r)→qv l=true
theorem yc:∀ {l:List Nat} {O' O:cW C},mw O' l=some O→(∀ id ob,lk O id=some ob↔id∈l∧lk O' id=some ob)∧(∀ x,x∈O→lk O' x.1=some x.2)∧dO O=l
 | [],O',O,h=>by simp only [mw,Option.some.injEq] at h;subst h;exact ⟨fun id ob=>by simp [lk],fun x hx=>(by cases hx),rfl⟩
 | id::l,O',O,h=>by
  simp only [mw] at h;split at h
  ·rename_i ob ho
   split at h
   ·rename_i l' hl
    cases h;obtain ⟨h1,h2,h3⟩:=yc hl;refine ⟨fun i dY=>?_,fun x hx=>?_,by simpa [dO] using h3⟩
    ·rw [aN]
     by_cases e:i=id
     ·subst e
      rw [if_pos rfl,ho];simp
     ·rw [if_neg e,h1]
      simp [e]
    ·rcases List.mem_cons.1 hx with e | hx
     ·subst e;exact ho
     ·exact h2 x hx
   ·cases h
  ·cases h
theorem uV:∀ {O:cW C} {l:Lf C},l∈ic O→∃ id ob,(id,ob)∈O∧((l = .ptr id 0∧∃ ls,ob = .box .mem ls)∨(l = .vo id∧((∃ f n sh ls,ob = .box (.sM f n sh) ls)∨(∃ t sh ls,ob = .box (.lX t sh) ls)∨∃ mk kt vt xs c,ob = .map mk kt vt xs c)))
 | [],l,h=>by cases h
 | (id,ob)::O,l,h=>by
  have up:l∈ic O→∃ i o,(i,o)∈(id,ob)::O∧((l = .ptr i 0∧∃ ls,o = .box .mem ls)∨(l = .vo i∧((∃ f n sh ls,o = .box (.sM f n sh) ls)∨(∃ t sh ls,o = .box (.lX t sh) ls)∨∃ mk kt vt xs c,o = .map mk kt vt xs c))):=fun h=>by
   obtain ⟨i,o,h1,h2⟩:=uV h;exact ⟨i,o,List.mem_cons_of_mem _ h1,h2⟩
  cases ob with
  | box kd ls=>cases kd with
   | mem=>
    rcases List.mem_cons.1 (show l ∈ .ptr id 0::ic O from h) with e | h
    ·exact ⟨id,_,List.mem_cons_self,.inl ⟨e,ls,rfl⟩⟩
    ·exact up h
   | sM f n sh=>
    rcases List.mem_cons.1 (show l ∈ .vo id::ic O from h) with e | h
    ·exact ⟨id,_,List.mem_cons_self,.inr ⟨e,.inl ⟨f,n,sh,ls,rfl⟩⟩⟩
    ·exact up h
   | lX t sh=>
    rcases List.mem_cons.1 (show l ∈ .vo id::ic O from h) with e | h
    ·exact ⟨id,_,List.mem_cons_self,.inr ⟨e,.inr (.inl ⟨t,sh,ls,rfl⟩)⟩⟩
    ·exact up h
  | map mk kt vt xs c=>
   rcases List.mem_cons.1 (show l ∈ .vo id::ic O from h) with e | h
   ·exact ⟨id,_,List.mem_cons_self,.inr ⟨e,.inr (.inr ⟨mk,kt,vt,xs,c,rfl⟩)⟩⟩
   ·exact up h
  | row t xs sh=>exact up h
  | ghost=>exact up h
theorem xI:∀ {O:cW C} {id:Nat} {ob:Ob C},(id,ob)∈O→vp O=true→id∉qy O→(.ptr id 0∈ic O)∨(Lf.vo id∈ic O)
 | [],id,ob,h,_,_=>by cases h
 | (i,o)::O,id,ob,h,hg,hr=>by
  have step:(id,ob)∈O→vp O=true→id∉qy O→(Lf.ptr id 0∈ic O)∨(Lf.vo id∈ic O):=fun h hg hr=>xI h hg hr
  rcases List.mem_cons.1 h with e | h1
  ·cases e
   cases o with
   | box kd ls=>cases kd with
    | mem=>exact .inl List.mem_cons_self
    | sM f n sh=>exact .inr List.mem_cons_self
    | lX t sh=>exact .inr List.mem_cons_self
   | map mk kt vt xs c=>exact .inr List.mem_cons_self
   | row t xs sh=>exact absurd List.mem_cons_self hr
   | ghost=>cases hg
  ·cases o with
   | box kd ls=>cases kd with
    | mem=>exact (step h1 hg hr).imp (List.mem_cons_of_mem _) (List.mem_cons_of_mem _)
    | sM f n sh=>exact (step h1 hg hr).imp (List.mem_cons_of_mem _) (List.mem_cons_of_mem _)
    | lX t sh=>exact (step h1 hg hr).imp (List.mem_cons_of_mem _) (List.mem_cons_of_mem _)
   | map mk kt vt xs c=>exact (step h1 hg hr).imp (List.mem_cons_of_mem _) (List.mem_cons_of_mem _)
   | row t xs sh=>exact step h1 hg fun hm=>hr (List.mem_cons_of_mem _ hm)
   | ghost=>cases hg
theorem BB:∀ {O:cW C} {id:Nat} {t:Ty} {xs:List (C t)} {sh:Bool},lk O id=some (.row t xs sh)→id∈qy O
 | [],id,t,xs,sh,h=>by cases h
 | (i,o)::O,id,t,xs,sh,h=>by
  rw [aN] at h;split at h
  ·rename_i e;cases h;subst e;exact List.mem_cons_self
  ·have:=BB h
   cases o with
   | row=>exact List.mem_cons_of_mem _ this
   | box kd ls=>exact this
   | map=>exact this
   | ghost=>exact this
theorem qO:∀ {O:cW C} {id:Nat},vp O=true→lk O id≠some .ghost
 | [],id,_,h=>by cases h
 | (i,o)::O,id,hg,h=>by
  rw [aN] at h;split at h
  ·cases h;cases hg
  ·cases o with
   | ghost=>cases hg
   | row=>exact qO (show vp O=true from hg) h
   | box kd ls=>exact qO (show vp O=true from hg) h
   | map=>exact qO (show vp O=true from hg) h
theorem Ck {O:cW C} {id:Nat} {ob:Ob C} (h:lk O id=some ob):id∈dO O:=List.mem_map.2 ⟨(id,ob),pS h,rfl⟩
theorem F4 {l m:List Nat} (h:jt l m=true):∀ i,i∈l→i∉m:=fun i hi hm=>by
 have:=List.all_eq_true.1 h i hi;simp only [Bool.not_eq_true'] at this;exact kN this hm
theorem EP {kp kp':Nat→Prop} {kh kh':Nat→Option Obj} {hd hd':Nat→Value} {l:Lf C} (hs:qv l=true) {w:World} {K:Cd C} {ah dX:cW C} {β eK:Nat→Value} {fp eJ:Nat→Nat→Prop} {cM eH:Nat→Prop} {v:Value} (hst:∀ k,cM k→eH k) (h:db (K.gh kp kh hd) w ah β fp cM l v):db (K.gh kp' kh' hd') w dX eK eJ eH l v:=by
 cases l with
 | row t xs=>exact uX (kp:=kp') (kh:=kh') (hd:=hd') (K:=K.gh kp kh hd) (gT.mono (show gT (K.gh kp kh hd) w cM (.row t xs) v from h) hst)
 | _=>first | exact h | cases hs
theorem zY {l:Lf C} {w:World} {K:Cd C} {ah:cW C} {β:Nat→Value} {fp:Nat→Nat→Prop} {cM:Nat→Prop} {v:Value} (h:db K w ah β fp cM l v):db K w ah β fp cM (Qr l) v:=by
 cases l with
 | nil t=>
  have e:v = .slice none 0 0:=h;subst e;exact .row t [] none 0 default (fun _=>undef) (Nat.zero_le _) (fun h=>absurd rfl h) (fun h=>absurd rfl h) (fun j hj=>absurd hj (by simp))
 | _=>exact h
theorem LP {ls:List (Lf C)} {w:World} {K:Cd C} {ah:cW C} {β:Nat→Value} {fp:Nat→Nat→Prop} {cM:Nat→Prop} {us:List Value} (h:cT K w ah β fp cM ls us):cT K w ah β fp cM (ls.map Qr) us:=by
 refine ⟨by rw [List.length_map];exact h.1,fun i l hl=>?_⟩;rw [List.getElem?_map] at hl
 cases e:ls[i]? with
 | none=>rw [e] at hl;cases hl
 | some l0=>rw [e] at hl;cases hl;exact zY (h.2 i l0 e)
theorem LQ {v:SV C} {w:World} {K:Cd C} {ah:cW C} {β:Nat→Value} {fp:Nat→Nat→Prop} {cM:Nat→Prop} {u:Value} (h:dD K w ah β fp cM v u):dD K w ah β fp cM (tc v) u:=by
 cases v with
 | one l=>exact zY (l:=l) h
 | agg ls=>obtain ⟨us,h1,h2⟩:=h;exact ⟨us,h1,LP h2⟩
 | _=>exact h
theorem I4 {vs:List (SV C)} (h:vs.all G4=true):(vs.map tc).all G4=true:=by
 rw [List.all_eq_true] at h ⊢;intro v hv;obtain ⟨v0,h0,rfl⟩:=List.mem_map.1 hv;have:=h v0 h0
 cases v0 with
 | one l=>rfl
 | agg ls=>rfl
 | _=>cases this
theorem zH (id:Nat) {k:Nat} (h:aH S.ah fp w k):aH (S.kr id).ah fp w k:=by
 refine ⟨h.1,fun j ob hj=>h.2 j ob ?_⟩;have gW:lk (rm S.ah id) j=some ob:=hj;rw [lg] at gW;split at gW
 ·cases gW
 ·exact gW
theorem Ma {id i:Nat} {ob:Ob C} (h:lk (S.kr id).ah i=some ob):lk S.ah i=some ob:=by
 have h':lk (rm S.ah id) i=some ob:=h;rw [lg] at h';split at h'
 ·cases h'
 ·exact h'
theorem GZ {K:Cd C} (hs:dc K w0 nt S β fp a w) {id:Nat} {t:Ty} {xs:List (C t)} {sh:Bool} (ho:lk S.ah id=some (.row t xs sh)):gT K w (aH (S.kr id).ah fp w) (.row t xs) (β id):=by
 have hin:∀ k,fp id k→aH (S.kr id).ah fp w k:=fun k hk=>by
  refine ⟨(hs.fresh id _ k ho hk).2,fun j ob hj jY=>?_⟩;have gW:lk (rm S.ah id) j=some ob:=hj;rw [lg] at gW;split at gW
  ·cases gW
  ·rename_i hne
   exact hne (hs.eM id j _ ob k ho gW hk jY).symm
 have fO:=hs.ah id _ ho
 cases sh with
 | false=>exact (Own.rep fO).mono hin
 | true=>
  obtain ⟨cells,h1,h2,h3⟩:=fO
  by_cases hx:xs=[]
  ·subst hx
   obtain ⟨A,c,e,_⟩:=fC h1;rw [e];exact .row t [] A c default (fun _=>undef) (Nat.zero_le _) (fun h=>absurd rfl h) (fun h=>absurd rfl h) (fun j hj=>absurd hj (by simp))
  ·obtain ⟨g,cap,e,hb,hn,hcell⟩:=j8 h1 (Nat.mul_pos (List.length_pos_iff.2 hx) (K.pos t))
   rw [e]
   refine .row t xs _ cap ⟨g,0,none⟩ (fun m=>cells.getD m undef) hn (fun _=>⟨rfl,hin g ((h2 g).2 (by rw [e];rfl))⟩) (fun _=>hcell) fun j hj i l hl=>?_
   exact (h3 j xs[j] (by simp [hj]) i l hl).mono fun k hk=>zH id hk
theorem HE {K:Cd C} (hs:dc K w0 nt S β fp a w) {l l':Lf C} {S':St C} {v:Value} (hl:db K w S.ah β fp (aH S.ah fp w) l v) (h:sB S l=some (l',S')) :
  dc K w0 nt S' β fp a w∧S'.env=S.env∧(∀ id ob,lk S'.ah id=some ob→lk S.ah id=some ob)∧(∀ k,aH S.ah fp w k→aH S'.ah fp w k)∧qv l'=true∧db K w S'.ah β fp (aH S'.ah fp w) l' v:=by
 cases l with
 | ref id p=>
  cases p with
  | cons s p=>simp [sB] at h
  | nil=>
   simp only [sB] at h;split at h
   ·rename_i t xs sh ho
    cases h;have e:v=β id:=hl.2;subst e;exact ⟨hs.del id,rfl,fun i ob hi=>Ma hi,fun k hk=>zH id hk,rfl,GZ hs ho⟩
   ·cases h
 | sub id lo hi=>
  simp only [sB] at h;split at h
  ·rename_i t xs sh ho
   cases h;exact ⟨hs.del id,rfl,fun i ob hi=>Ma hi,fun k hk=>zH id hk,rfl,qp (GZ hs ho) (hl.2 t xs sh ho)⟩
  ·cases h
 | nil t=>simp only [sB] at h;cases h;exact ⟨hs,rfl,fun i ob hi=>hi,fun k hk=>hk,rfl,zY (l:=.nil t) hl⟩
 | row t xs=>simp only [sB] at h;cases h;exact ⟨hs,rfl,fun i ob hi=>hi,fun k hk=>hk,rfl,hl⟩
 | int ki n=>simp only [sB] at h;cases h;exact ⟨hs,rfl,fun i ob hi=>hi,fun k hk=>hk,rfl,hl⟩
 | bool b=>simp only [sB] at h;cases h;exact ⟨hs,rfl,fun i ob hi=>hi,fun k hk=>hk,rfl,hl⟩
 | str s=>simp only [sB] at h;cases h;exact ⟨hs,rfl,fun i ob hi=>hi,fun k hk=>hk,rfl,hl⟩
 | bP s=>simp only [sB] at h;cases h;exact ⟨hs,rfl,fun i ob hi=>hi,fun k hk=>hk,rfl,hl⟩
 | _=>simp [sB] at h
theorem Bu {K:Cd C} {l:Lf C} (hs:qv l=true) {w:World} {ah dX:cW C} {β:Nat→Value} {fp:Nat→Nat→Prop} {cM eH:Nat→Prop} {v:Value} (hst:∀ k,cM k→eH k) (h:db K w ah β fp cM l v):db K w dX β fp eH l v:=by
 cases l with
 | row t xs=>exact gT.mono h hst
 | _=>first | exact h | cases hs
theorem CK {K:Cd C}:∀ {ls ls':List (Lf C)} {S S':St C} {us:List Value},dc K w0 nt S β fp a w→cT K w S.ah β fp (aH S.ah fp w) ls us→CL S ls=some (ls',S') →
  dc K w0 nt S' β fp a w∧S'.env=S.env∧(∀ k,aH S.ah fp w k→aH S'.ah fp w k)∧cT K w S'.ah β fp (aH S'.ah fp w) ls' us
 | [],ls',S,S',us,hs,hl,h=>by simp only [CL,Option.some.injEq,Prod.mk.injEq] at h;obtain ⟨rfl,rfl⟩:=h;exact ⟨hs,rfl,fun k hk=>hk,hl⟩
 | l::ls,ls',S,S',us,hs,hl,h=>by
  simp only [CL] at h;split at h
  ·rename_i l1 S1 h1
   split at h
   ·rename_i r' S2 h2
    cases h
    obtain ⟨u,us,rfl⟩:∃ u mM,us=u::mM:=by
     cases us with
     | nil=>have:=hl.1;simp at this
     | cons u us=>exact ⟨u,us,rfl⟩
    obtain ⟨a1,a2,a3,a4,a5,a6⟩:=HE hs (hl.2 0 l rfl) h1;have hl1:cT K w S.ah β fp (aH S.ah fp w) ls us:=⟨by have:=hl.1;simpa using this,fun i l' hi=>hl.2 (i+1) l' (by simpa using hi)⟩
    have Jk:cT K w S1.ah β fp (aH S1.ah fp w) ls us:=hl1.tr (fun k hk=>⟨a4 k hk,rfl⟩) fun i _=>⟨rfl,fun t xs sh ho=>⟨a3 _ _ ho,fun k hk=>⟨hk,rfl⟩⟩⟩
    obtain ⟨b1,b2,b4,b5⟩:=CK a1 Jk h2;refine ⟨b1,b2.trans a2,fun k hk=>b4 k (a4 k hk),by have:=b5.1;simpa using this,fun i l' hi=>?_⟩
    cases i with
    | zero=>simp at hi;subst hi;exact Bu a5 b4 a6
    | succ i=>exact b5.2 i l' (by simpa using hi)
   ·cases h
  ·cases h
theorem QU {K:Cd C} {S S':St C} {v v':SV C} {u:Value} (hs:dc K w0 nt S β fp a w) (hv:dD K w S.ah β fp (aH S.ah fp w) v u) (h:MJ S v=some (v',S')) :
  dc K w0 nt S' β fp a w∧S'.env=S.env∧(∀ k,aH S.ah fp w k→aH S'.ah fp w k)∧dD K w S'.ah β fp (aH S'.ah fp w) v' u:=by
 cases v with
 | one l=>
  simp only [MJ] at h;split at h
  ·rename_i l1 S1 h1
   cases h;obtain ⟨a1,a2,a3,a4,a5,a6⟩:=HE hs (show db K w S.ah β fp (aH S.ah fp w) l u from hv) h1;exact ⟨a1,a2,a4,a6⟩
  ·cases h
 | agg ls=>
  simp only [MJ] at h;split at h
  ·rename_i l1 S1 h1
   cases h;obtain ⟨us,e,hl⟩:=hv;obtain ⟨a1,a2,a4,a5⟩:=CK hs hl h1;exact ⟨a1,a2,a4,us,e,a5⟩
  ·cases h
 | _=>simp [MJ] at h
theorem HD {K:Cd C}:∀ {ts:List Nat} {S S':St C},dc K w0 nt S β fp a w→Jo S ts=some S'→dc K w0 nt S' β fp a w
 | [],S,S',hs,h=>by simp only [Jo,Option.some.injEq] at h;subst h;exact hs
 | t::ts,S,S',hs,h=>by
  simp only [Jo] at h;split at h
  ·rename_i v hv
   split at h
   ·rename_i v' S1 h1
    obtain ⟨a1,a2,a4,a5⟩:=QU hs (hs.env t v hv) h1;refine HD (S:={ S1 with env:=(t,v')::S1.env }) ⟨a1.below,a1.defers,a1.size,a1.fresh,a1.eM,a1.ah,fun t' v2 ht=>?_⟩ h;have mO:lk ((t,v')::S1.env) t'=some v2:=ht;rw [aN] at mO;split at mO
    ·rename_i e;cases mO;subst e;exact a5
    ·exact a1.env t' v2 mO
   ·cases h
  ·cases h
theorem LJ {kp:Nat→Prop} {kh:Nat→Option Obj} {hd:Nat→Value} {base:Nat} {F:Nat→Prop} {ob:Ob C} {v:Value} (hne:ob ≠ .ghost) (h:kO K w base ah β fp cM F ob v):kO (K.gh kp kh hd) w base ah β fp cM F ob v:=by
 cases ob with
 | ghost=>exact absurd rfl hne
 | box kd ls=>cases kd with
  | mem=>obtain ⟨b,cs,e,h1,h2,h3,h4⟩:=h;exact ⟨b,cs,e,h1,h2,h3,kg h4⟩
  | sM f n sh=>obtain ⟨us,h1,h2,h3⟩:=h;exact ⟨us,h1,h2,kg h3⟩
  | lX t sh=>obtain ⟨us,h1,h2,h3⟩:=h;exact ⟨us,h1,h2,kg h3⟩
 | map mk kt vt xs c=>exact h
 | row t xs sh=>cases sh with
  | false=>exact nS h
  | true=>obtain ⟨cells,h1,h2,h3⟩:=h;exact ⟨cells,h1,h2,fun j x hx i l hl=>uX (h3 j x hx i l hl)⟩
theorem vv {kp:Nat→Prop} {kh:Nat→Option Obj} {hd:Nat→Value}:∀ (l:List ResultVar) (S:St C),n8 (X.gh kp kh hd) S l=n8 X S l
 | [],S=>rfl
 | .tmp t::r,S=>by simp only [n8,vv r]
 | .cell a t::r,S=>by
  simp only [n8,vv r,lq];rfl
theorem P3 {t1 t2:Array Value} {x:ResultVar} (h:t1.getD (jL x) undef=t2.getD (jL x) undef):jy t1 x=jy t2 x:=by
 cases x with
 | tmp t=>simp only [jy];rw [show t1.getD t undef=t2.getD t undef from h]
 | cell b t=>simp only [jy];rw [show t1.getD b undef=t2.getD b undef from h]
theorem BD {t1 t2:Array Value}:∀ {l:List ResultVar},(∀ t,t∈l.map jL→t1.getD t undef=t2.getD t undef)→l.mapM (jy t1)=l.mapM (jy t2)
 | [],_=>rfl
 | x::l,h=>by
  rw [List.mapM_cons,List.mapM_cons,P3 (h _ (by simp)),BD (l:=l) fun t ht=>h t (by simp only [List.map_cons,List.mem_cons];exact .inr ht)]
theorem vu (hX:je P X):∀ {l:List ResultVar} {S S1:St C} {a:Act},dc X.K w0 nt S β fp a w→n8 X S l=some S1→rM nt (l.map jL)=true →
  ∃ a1:Act,dc X.K w0 nt S1 β fp a1 w∧(∀ t,t∉l.map jL→a1.tmps.getD t undef=a.tmps.getD t undef)∧(l.mapM (jy a.tmps)).run P w=((l.map EE).mapM (jy a1.tmps)).run P w
 | [],S,S1,a,hs,h,_=>by
  simp only [n8,Option.some.injEq] at h;subst h;exact ⟨a,hs,fun _ _=>rfl,rfl⟩
 | .tmp t::r,S,S1,a,hs,h,hb=>by
  simp only [List.map_cons,rM,jL,Bool.and_eq_true,Bool.not_eq_true'] at hb;have FA:=kN hb.2.1;obtain ⟨a1,h1,h2,h3⟩:=vu (l:=r) hX hs h hb.2.2;refine ⟨a1,h1,fun t' ht=>h2 t' fun hh=>ht (by simp only [List.map_cons,List.mem_cons];exact .inr hh),?_⟩
  have e:jy a1.tmps (EE (.tmp t))=jy a.tmps (.tmp t):=by
   simp only [EE,jL,jy,h2 t FA]
  rw [List.map_cons,List.mapM_cons,List.mapM_cons,e];simp only [jy,pure_bind,Sem.run_bind,h3]
 | .cell b t::r,S,S1,a,hs,h,hb=>by
  simp only [List.map_cons,rM,jL,Bool.and_eq_true,Bool.not_eq_true'] at hb;have FA:=kN hb.2.1;have hlt:b<nt:=Nat.le_of_ble_eq_true hb.1;simp only [n8] at h;split at h
  case h_2=>cases h
  rename_i c tk hc ht;obtain ⟨ls,p,hk,hv,hcell⟩:=rk hs (hs.env b _ hc) h;split at hk
  case h_2=>cases hk
  rename_i v hm;obtain ⟨u,hu,hok⟩:=uj (hX.tk _ _ ht) hm hcell;obtain ⟨a1,h1,h2,h3⟩:=vu hX (hs.put (some b) (fun t' e=>by cases e;exact hlt) hok) hk hb.2.2
  have hsz:b<a.tmps.size:=by rw [hs.size];exact hlt
  have e1:a1.tmps.getD b undef=u:=by
   rw [h2 b FA];simp [Act.put,qY _ _ _ _ _ hsz]
  have e2:r.mapM (jy a.tmps)=r.mapM (jy (a.put (some b) u).tmps):=BD fun t' mO=>by
   have hne:t'≠b:=fun e=>FA (e▸mO)
   simp [Act.put,qY _ _ _ _ _ hsz,hne]
  refine ⟨a1,h1,fun t' ht=>?_,?_⟩
  ·simp only [List.map_cons,List.mem_cons,not_or,jL] at ht
   rw [h2 t' ht.2];simp [Act.put,qY _ _ _ _ _ hsz,ht.1]
  ·have e3:(jy a.tmps (.cell b t)).run P w = .ok u w:=by simp [jy,hv,asAddr,hu]
   have e4:(jy a1.tmps (EE (.cell b t))).run P w = .ok u w:=by simp [EE,jL,jy,e1]
   rw [List.map_cons,List.mapM_cons,List.mapM_cons,e2];simp only [Sem.run_bind,e3,e4,Result.andThen_ok,h3]
section
variable {kp:Nat→Prop} {kh:Nat→Option Obj} {hd:Nat→Value} {c:jw C} {O:cW C} {vs:List (SV C)} {us:List Value} {r0:c.R0}
def others (S:St C) (fp:Nat→Nat→Prop) (ids:List Nat) (k:Nat):Prop:=∃ id ob,lk S.ah id=some ob∧id∉ids∧fp id k
def Ph (S:St C) (fp:Nat→Nat→Prop) (w:World) (ids:List Nat) (n:Nat):Prop:=(n % 2=0∧aH S.ah fp w (n / 2))∨(n % 2=1∧others S fp ids (n / 2))
def Te (S:St C) (fp:Nat→Nat→Prop) (ids:List Nat) (id k:Nat):Prop:=(id=pH∧others S fp ids k)∨(id≠pH∧fp id k)
def kU (β:Nat→Value):Lf C→Value
 | .ptr id _=>β id
 | .vo id=>β id
 | _=>undef
theorem Cn {ids:List Nat} {k:Nat}:Ph S fp w ids (2*k)↔aH S.ah fp w k:=by
 have e1:2*k % 2=0:=by omega
 have e2:2*k / 2=k:=by omega
 simp [Ph,e1,e2]
theorem Hl {ids:List Nat} {k:Nat}:Ph S fp w ids (2*k+1)↔others S fp ids k:=by
 have e1:(2*k+1) % 2=1:=by omega
 have e2:(2*k+1) / 2=k:=by omega
 simp [Ph,e1,e2]
theorem oZ {ids:List Nat} {k:Nat}:Te S fp ids pH k↔others S fp ids k:=by simp [Te]
theorem m7 {ids:List Nat} {id:Nat} (h:id≠pH):Te S fp ids id=fp id:=by funext k;simp [Te,h]
theorem xG (hp:∀ id ob,lk O id=some ob↔id∈c.ids∧lk S.ah id=some ob) (hg:pH∉c.ids) {k:Nat}:aH ((pH,.ghost)::O) (Te S fp c.ids) w k↔aH S.ah fp w k:=by
 constructor
 ·refine fun h=>⟨h.1,fun id ob hi hf=>?_⟩
  by_cases hm:id∈c.ids
  ·have hne:id≠pH:=fun e=>hg (e▸hm)
   refine h.2 id ob ?_ (by rw [m7 hne];exact hf);rw [aN,if_neg hne];exact (hp id ob).2 ⟨hm,hi⟩
  ·exact h.2 pH .ghost (by rw [aN,if_pos rfl]) (oZ.2 ⟨id,ob,hi,hm,hf⟩)
 ·refine fun h=>⟨h.1,fun id ob hi hf=>?_⟩
  rw [aN] at hi;split at hi
  ·rename_i e
   subst e;obtain ⟨i,o,h1,_,h3⟩:=oZ.1 hf;exact h.2 i o h1 h3
  ·rename_i e
   rw [m7 e] at hf;exact h.2 id ob ((hp id ob).1 hi).2 hf
theorem Br (hs:dc (K.gh kp kh hd) w0 0 S β fp nD w) (hp:∀ id ob,lk O id=some ob↔id∈c.ids∧lk S.ah id=some ob) (hmem:∀ x,x∈O→lk S.ah x.1=some x.2) (hfit:AP c vs O r0)
  (vG:us.length=vs.length) (hn:vs.length≤nt) (hnt:nt≤1000) (hok:vs.all G4=true)
  (hv:∀ (i:Nat) (v:SV C),vs[i]?=some v→dD (K.gh kp kh hd) w S.ah β fp (aH S.ah fp w) v (us.getD i undef)) :
  dc (K.gh (Ph S fp w c.ids) (fun k=>w.heap[k]?) (fun _=>.agg (c.roots.map (kU β)).toArray)) w0 nt (Ks c vs O) β (Te S fp c.ids) { tmps:=us.toArray++Array.replicate (nt-us.toArray.size) undef,defers:=[] } w:=by
 have hst:∀ k,aH S.ah fp w k→aH ((pH,Ob.ghost)::O) (Te S fp c.ids) w k∧w.heap[k]?=w.heap[k]?:=fun k hk=>⟨(xG hp hfit.LK).2 hk,rfl⟩
 have hkeep:∀ i,iQ w w S.ah ((pH,Ob.ghost)::O) β β fp (Te S fp c.ids) i:=fun i=>by
  refine ⟨rfl,fun t xs sh ho=>?_⟩;rw [aN] at ho;split at ho
  ·cases ho
  ·rename_i e
   exact ⟨((hp i _).1 ho).2,fun k hk=>⟨by rw [m7 e];exact hk,rfl⟩⟩
 refine ⟨hs.below,⟨rfl,hs.defers.2⟩,by simp;omega,fun id ob k ho hk=>?_,fun i j oi oj k hi hj kR jY=>?_,fun id ob ho=>?_,fun t v ht=>?_⟩
 ·have ib:lk ((pH,Ob.ghost)::O) id=some ob:=ho
  rw [aN] at ib;split at ib
  ·rename_i e
   subst e;obtain ⟨i,o,h1,_,h3⟩:=oZ.1 hk;exact hs.fresh i o k h1 h3
  ·rename_i e
   rw [m7 e] at hk;exact hs.fresh id ob k ((hp id ob).1 ib).2 hk
 ·have eR:lk ((pH,Ob.ghost)::O) i=some oi:=hi
  have gW:lk ((pH,Ob.ghost)::O) j=some oj:=hj;rw [aN] at eR gW
  by_cases ei:i=pH<;>by_cases ej:j=pH
  ·rw [ei,ej]
  ·rw [if_neg ej] at gW
   subst ei;rw [m7 ej] at jY;obtain ⟨q,o,h1,h2,h3⟩:=oZ.1 kR;obtain ⟨g1,g2⟩:=(hp j oj).1 gW;have:=hs.eM q j o oj k h1 g2 h3 jY;subst this;exact absurd g1 h2
  ·rw [if_neg ei] at eR
   subst ej;rw [m7 ei] at kR;obtain ⟨q,o,h1,h2,h3⟩:=oZ.1 jY;obtain ⟨g1,g2⟩:=(hp i oi).1 eR;have:=hs.eM q i o oi k h1 g2 h3 kR;subst this;exact absurd g1 h2
  ·rw [if_neg ei] at eR
   rw [if_neg ej] at gW;rw [m7 ei] at kR;rw [m7 ej] at jY;exact hs.eM i j oi oj k ((hp i oi).1 eR).2 ((hp j oj).1 gW).2 kR jY
 ·have ib:lk ((pH,Ob.ghost)::O) id=some ob:=ho
  rw [aN] at ib;split at ib
  ·rename_i e
   cases ib;subst e
   exact fun k hk=>⟨oZ.2 (Hl.1 hk),rfl⟩
  ·rename_i e
   rw [m7 e]
   have hne:ob ≠ .ghost:=fun e'=>qO hfit.gh (e'▸ib)
   exact (LJ hne (hs.ah id ob ((hp id ob).1 ib).2)).tr hst (fun _ _=>rfl) (fun _ ls _ i _=>hkeep i)
 ·have mO:lk (iW 0 vs++[(GB,.frame),(GB+1,.bQ (true,c.roots) 0)]) t=some v:=ht
  rw [dB] at mO
  cases e1:lk (iW 0 vs) t with
  | some v'=>
   rw [e1] at mO;cases mO;obtain ⟨_,e2⟩:=mK _ 0 t _ e1;simp only [Nat.sub_zero] at e2
   have hlt:t<us.length:=by rw [vG];exact eD e2
   have e4:(us.toArray++Array.replicate (nt-us.toArray.size) undef).getD t undef=us.getD t undef:=by
    simp [Array.getD_eq_getD_getElem?,Array.getElem?_append,hlt,List.getD]
   show dD _ w _ _ _ _ v ((us.toArray++Array.replicate (nt-us.toArray.size) undef).getD t undef);rw [e4];have XI:=hv t v e2;have Mx:=List.all_eq_true.1 hok v (List.mem_of_getElem? e2)
   cases v with
   | one l=>exact (vA (show db _ _ _ _ _ _ l _ from XI)).tr hst fun i _=>hkeep i
   | agg ls=>obtain ⟨mM,q1,q2⟩:=XI;exact ⟨mM,q1,(kg q2).tr hst fun i _=>hkeep i⟩
   | _=>cases Mx
  | none=>
   rw [e1] at mO;rw [aN] at mO
   by_cases e2:t=GB
   ·rw [if_pos e2] at mO
    cases mO
    exact fun k hk=>⟨(xG hp hfit.LK).2 (Cn.1 hk),rfl⟩
   ·rw [if_neg e2,aN] at mO
    by_cases e3:t=GB+1
    ·rw [if_pos e3] at mO
     cases mO;refine ⟨c.roots.map (kU β),rfl,by simp,fun i l hl=>?_⟩
     have e5:(c.roots.map (kU β)).getD i undef=kU β l:=by simp [List.getD,hl]
     rw [e5];have hm:=List.mem_of_getElem? hl;rw [←hfit.roots] at hm;obtain ⟨id,ob,h1,⟨rfl,ls,rfl⟩ | ⟨rfl,h2⟩⟩:=uV hm
     ·obtain ⟨b,cs,e,q1,_⟩:=hs.ah id _ (hmem _ h1)
      exact ⟨b,q1,q1⟩
     ·refine ⟨?_,rfl⟩
      have ho:=hs.ah id _ (hmem _ h1);show (β id).oneCell'=true
      rcases h2 with ⟨f,n,sh,ls,rfl⟩ | ⟨t,sh,ls,rfl⟩ | ⟨mk,kt,vt,xs,c,rfl⟩
      ·obtain ⟨us,q1,_⟩:=ho;rw [q1];rfl
      ·obtain ⟨us,q1,_⟩:=ho;rw [q1];rfl
      ·obtain ⟨b,es,q1,_⟩:=ho;rw [q1];rfl
    ·rw [if_neg e3] at mO
     cases mO
theorem NC (hs:dc (K.gh kp kh hd) w0 0 S β fp nD w) (hp:∀ id ob,lk O id=some ob↔id∈c.ids∧lk S.ah id=some ob) (hmem:∀ x,x∈O→lk S.ah x.1=some x.2) (hkO:dO O=c.ids) (hfit:AP c vs O r0)
  (hap:∀ i,i∈c.fQ→i∉gg S.env++eB (dI c.ids S.ah)) {w':World} {a':Act} {S2:St C} {Xz:Nat→Value} {QV:Nat→Nat→Prop}
  (h2:dc (K.gh (Ph S fp w c.ids) (fun k=>w.heap[k]?) (fun _=>.agg (c.roots.map (kU β)).toArray)) w0 nt S2 Xz QV a' w') (ho:S2.ah=c.out r0++[(pH,.ghost)]) (hf:lk S2.env GB=some .frame) (hsu:lk S2.env (GB+1)=some (.bQ (true,c.roots) 0)) :
  ∃ eK eJ,dc (K.gh kp kh hd) w0 0 { S with ah:=c.out r0++dI c.ids S.ah } eK eJ nD w'∧∀ k,aH S2.ah QV w' k→aH (c.out r0++dI c.ids S.ah) eJ w' k:=by
 have hg:pH∉c.ids:=hfit.LK
 have QO:∀ k,aH S.ah fp w k→aH S2.ah QV w' k∧w'.heap[k]?=w.heap[k]?:=fun k hk=>(h2.env GB _ hf) k (Cn.2 hk)
 have Cy:∀ id,id∈c.ids→lk S2.ah id=lk (c.out r0) id:=fun id hi=>by
  rw [ho,dB]
  cases e:lk (c.out r0) id with
  | some x=>rfl
  | none=>
   show lk [(pH,Ob.ghost)] id=none
   have hne:id≠pH:=fun e=>hg (by rw [←e];exact hi)
   rw [aN,if_neg hne];rfl
 have QN:lk S2.ah pH=some .ghost:=by
  rw [ho,dB]
  cases e:lk (c.out r0) pH with
  | some x=>exact absurd (hfit.keys pH (Ck e)) hg
  | none=>simp [aN]
 have Ai:∀ k,others S fp c.ids k→QV pH k∧w'.heap[k]?=w.heap[k]?:=fun k hk=>(h2.ah pH _ QN) k (Hl.2 hk)
 have hroot:∀ id,id∈c.ids→id∉c.fQ→Xz id=β id:=fun id hi hr=>by
  obtain ⟨vals,q1,q2,q3⟩:=h2.env (GB+1) _ hsu
  have Pe:(c.roots.map (kU β))=vals:=by
   have:Value.agg (c.roots.map (kU β)).toArray=Value.agg vals.toArray:=q1
   simpa using this
  have hin:∃ ob,(id,ob)∈O:=by
   rw [←hkO] at hi;obtain ⟨x,hx,e⟩:=List.mem_map.1 hi;exact ⟨x.2,by rw [←e];exact hx⟩
  obtain ⟨ob,hin⟩:=hin;have:=xI hin hfit.gh (by rw [hfit.rows];exact hr);rw [hfit.roots] at this
  rcases this with hm | hm
  ·obtain ⟨j,hj,e⟩:=List.getElem_of_mem hm
   have hl:c.roots[j]?=some (.ptr id 0):=by rw [List.getElem?_eq_getElem hj,e]
   obtain ⟨b,g1,g2⟩:=q3 j _ hl;rw [←Pe] at g2
   have e5:(c.roots.map (kU β)).getD j undef=β id:=by simp [List.getD,hl,kU]
   rw [e5] at g2;rw [g1,g2]
  ·obtain ⟨j,hj,e⟩:=List.getElem_of_mem hm
   have hl:c.roots[j]?=some (.vo id):=by rw [List.getElem?_eq_getElem hj,e]
   have g2:=(q3 j _ hl).2;rw [←Pe] at g2
   have e5:(c.roots.map (kU β)).getD j undef=β id:=by simp [List.getD,hl,kU]
   rw [e5] at g2;exact g2.symm
 let JI:Nat→Value:=fun id=>if id∈c.ids then Xz id else β id
 let tO:Nat→Nat→Prop:=fun id k=>if id∈c.ids then QV id k else fp id k
 let O3:cW C:=c.out r0++dI c.ids S.ah
 have FB:∀ id,lk O3 id=if id∈c.ids then lk (c.out r0) id else lk S.ah id:=fun id=>by
  show lk (c.out r0++dI c.ids S.ah) id=_;rw [dB,jm]
  by_cases hi:id∈c.ids
  ·rw [if_pos hi,if_pos hi]
   cases lk (c.out r0) id<;>rfl
  ·rw [if_neg hi,if_neg hi]
   cases e:lk (c.out r0) id with
   | some x=>exact absurd (hfit.keys id (Ck e)) hi
   | none=>rfl
 have hsame:∀ id ob k,id∉c.ids→lk S.ah id=some ob→fp id k→k<w'.heap.size∧w'.heap[k]?=w.heap[k]?:=fun id ob k hi ib hk=>by
  obtain ⟨_,e⟩:=Ai k ⟨id,ob,ib,hi,hk⟩;have hlt:=(hs.fresh id ob k ib hk).2;refine ⟨?_,e⟩;rw [Array.getElem?_eq_getElem hlt] at e;exact (Array.getElem?_eq_some_iff.1 e).1
 have Mv:∀ k,aH S2.ah QV w' k→aH O3 tO w' k:=fun k hk=>by
  refine ⟨hk.1,fun id ob hi hkk=>?_⟩;rw [FB] at hi
  by_cases hm:id∈c.ids
  ·rw [if_pos hm,← Cy id hm] at hi
   simp only [tO,if_pos hm] at hkk;exact hk.2 id ob hi hkk
  ·rw [if_neg hm] at hi
   simp only [tO,if_neg hm] at hkk;exact hk.2 pH .ghost QN (Ai k ⟨id,ob,hi,hm,hkk⟩).1
 have hstO:∀ k,aH S.ah fp w k→aH O3 tO w' k∧w'.heap[k]?=w.heap[k]?:=fun k hk=>⟨Mv k (QO k hk).1,(QO k hk).2⟩
 have SQ:∀ i,i∉c.fQ→iQ w w' S.ah O3 β JI fp tO i:=fun i hi=>by
  by_cases hm:i∈c.ids
  ·refine ⟨by simp only [JI,if_pos hm];exact hroot i hm hi,fun t xs sh h=>?_⟩
   rw [FB,if_pos hm] at h;exact absurd (hfit.rows' i (BB h)) hi
  ·refine ⟨by simp only [JI,if_neg hm],fun t xs sh h=>?_⟩
   rw [FB,if_neg hm] at h;exact ⟨h,fun k hk=>⟨by simp only [tO,if_neg hm];exact hk,(hsame i _ k hm h hk).2⟩⟩
 have keepI:∀ i,i∈c.ids→iQ w' w' S2.ah O3 Xz JI QV tO i:=fun i hm=>by
  refine ⟨by simp only [JI,if_pos hm],fun t xs sh h=>?_⟩;rw [FB,if_pos hm,← Cy i hm] at h;exact ⟨h,fun k hk=>⟨by simp only [tO,if_pos hm];exact hk,rfl⟩⟩
 refine ⟨JI,tO,⟨h2.below,⟨rfl,h2.defers.2⟩,rfl,fun id ob k hi hk=>?_,fun i j oi oj k hi hj kR jY=>?_,fun id ob hi=>?_,fun t v ht=>?_⟩,Mv⟩
 ·have eR:lk O3 id=some ob:=hi
  rw [FB] at eR
  by_cases hm:id∈c.ids
  ·rw [if_pos hm,← Cy id hm] at eR
   simp only [tO,if_pos hm] at hk;exact h2.fresh id ob k eR hk
  ·rw [if_neg hm] at eR
   simp only [tO,if_neg hm] at hk;exact ⟨(hs.fresh id ob k eR hk).1,(hsame id ob k hm eR hk).1⟩
 ·have eR:lk O3 i=some oi:=hi
  have gW:lk O3 j=some oj:=hj;rw [FB] at eR gW
  by_cases mi:i∈c.ids<;>by_cases mj:j∈c.ids
  ·rw [if_pos mi,← Cy i mi] at eR
   rw [if_pos mj,← Cy j mj] at gW;simp only [tO,if_pos mi] at kR;simp only [tO,if_pos mj] at jY;exact h2.eM i j oi oj k eR gW kR jY
  ·rw [if_pos mi,← Cy i mi] at eR
   rw [if_neg mj] at gW;simp only [tO,if_pos mi] at kR;simp only [tO,if_neg mj] at jY;have:=h2.eM i pH oi .ghost k eR QN kR (Ai k ⟨j,oj,gW,mj,jY⟩).1;exact absurd (this▸mi) hg
  ·rw [if_neg mi] at eR
   rw [if_pos mj,← Cy j mj] at gW;simp only [tO,if_neg mi] at kR;simp only [tO,if_pos mj] at jY;have:=h2.eM j pH oj .ghost k gW QN jY (Ai k ⟨i,oi,eR,mi,kR⟩).1;exact absurd (this▸mj) hg
  ·rw [if_neg mi] at eR
   rw [if_neg mj] at gW;simp only [tO,if_neg mi] at kR;simp only [tO,if_neg mj] at jY;exact hs.eM i j oi oj k eR gW kR jY
 ·have eR:lk O3 id=some ob:=hi
  rw [FB] at eR
  by_cases hm:id∈c.ids
  ·rw [if_pos hm] at eR
   have hne:ob ≠ .ghost:=fun e=>qO hfit.gh' (e▸eR)
   have h3:=(LJ (kp:=kp) (kh:=kh) (hd:=hd) hne (h2.ah id ob ((Cy id hm).trans eR))).tr (fun k hk=>⟨Mv k hk,rfl⟩) (fun _ _=>rfl) (fun kd ls e i hil=>keepI i (hfit.closed i ((kY eR).2 kd ls e i hil)))
   have e1:tO id=QV id:=by funext k;simp only [tO,if_pos hm]
   have e2:JI id=Xz id:=by simp only [JI,if_pos hm]
   rw [e1,e2];exact h3
  ·rw [if_neg hm] at eR
   have h3:=(hs.ah id ob eR).tr hstO (fun k hk=>(hsame id ob k hm eR hk).2) (fun kd ls e i hil=>SQ i fun hr=>hap i hr (List.mem_append.2 (.inr ((kY (O:=dI c.ids S.ah) (n:=id) (by rw [jm,if_neg hm];exact eR)).2 kd ls e i hil))))
   have e1:tO id=fp id:=by funext k;simp only [tO,if_neg hm]
   have e2:JI id=β id:=by simp only [JI,if_neg hm]
   rw [e1,e2];exact h3
 ·exact (hs.env t v ht).tr hstO fun i hi=>SQ i fun hr=>hap i hr (List.mem_append.2 (.inl (kZ ht hi)))
end
theorem lP (hX:je P X) (hC:Cons P X) (hm:P.follows .mixedOrders=true) {f:Nat} {fn:Func} {c:Code} (hf:P.funcs[f]?=some fn) (hb:fn.body=some c) (hB:jb fn.ntmps c=true) (hname:fn.name ≠ "runtime.NumGoroutine") (su:jw C) (hnt:fn.ntmps≤1000)
  (dec:cW C→List (Lf C)→List (Bool×List (Lf C))→Option su.R0) (Aj:∀ os ls rs r0,dec os ls rs=some r0→os=su.out r0++[(pH,.ghost)]∧ls=su.roots∧rs=su.ret r0)
  (h:∀ vs O r0,dO O=su.ids→su.g vs O=some r0→AP su vs O r0∧vs.length≤fn.ntmps∧∃ F:Cf,iD X F fn su vs O dec=some r0):dx P X.K f (dH su):=by
 refine ⟨⟨fn,hf,by rw [hb];rfl,hname⟩,fun kp kh hd w0 w S β fp vs us R k r hs hkey vG hv hgo=>?_,fun s hs=>?_⟩
 case refine_2=>
  simp only [dH] at hs;split at hs
  ·rename_i he
   cases hs;exact ⟨rfl,he,fun vs O r0 hk hg=>(h vs O r0 hk hg).1.keys⟩
  ·cases hs
 simp only [dH] at hgo;unfold Bl at hgo;split at hgo
 case h_2=>cases hgo
 rename_i O hO;obtain ⟨QQ,hgo⟩:=aw hgo;simp only [Bool.and_eq_true] at QQ
 cases hg:su.g (vs.map tc) O with
 | none=>rw [hg] at hgo;cases hgo
 | some r0=>
 rw [hg] at hgo;simp only [Option.bind_some] at hgo;obtain ⟨hp,hmem,hkO⟩:=yc hO;obtain ⟨hfit,hn,F,hrun⟩:=h (vs.map tc) O r0 hkO hg
 have gi:=Br (nt:=fn.ntmps) hs hp hmem hfit (by simpa using vG) hn hnt (I4 QQ.2) (fun i v hi=>by
  rw [List.getElem?_map] at hi
  cases e:vs[i]? with
  | none=>rw [e] at hi;cases hi
  | some v0=>rw [e] at hi;cases hi;exact LQ (hv i v0 e))
 unfold iD at hrun
 have hbody:ak fn=c:=by unfold ak;rw [hb]
 rw [hbody,← KO (kp:=Ph S fp w su.ids) (kh:=fun k=>w.heap[k]?) (hd:=fun _=>.agg (su.roots.map (kU β)).toArray)] at hrun;refine calls_of_wp hf hb (Go.wp_mono (oN (pI hX) (Az hC) hm F c 0 _ _ w _ hB ⟨_,_,gi⟩ hrun) ?_)
 have fin:∀ (a:Act) (w':World) (S':St C) (e:Ex),nq (X.gh (Ph S fp w su.ids) (fun k=>w.heap[k]?) (fun _=>.agg (su.roots.map (kU β)).toArray)).K w0 fn.ntmps S' a w'→(e = .norm∨e = .ret)→nG X fn dec e S'=some r0 →
   a.defers=[]∧∃ v,(results fn a.tmps).run P w' = .ok v w'∧∃ (Ke:Value) (rs:List (Bool×List (Lf C))) (mR:List Value) (S':St C) (eK:Nat→Value) (eJ:Nat→Nat→Prop),Ending.returned v = .returned Ke∧Ke=pack rs mR∧fF rs=true∧k rs S'=some r ∧
   dc (X.K.gh kp kh hd) w0 0 S' eK eJ nD w'∧cT (X.K.gh kp kh hd) w' S'.ah eK eJ (aH S'.ah eJ w') (flatten rs) mR:=by
  intro a w' S' e ⟨eK,eJ,hs'⟩ he hk
  have hk:cond (rM fn.ntmps (fn.results.toList.map jL)) (match n8 X S' fn.results.toList with
   | some S0=>match Jo S0 (fn.results.toList.map jL) with
    | some S1=>match S1.canon (fn.results.toList.map jL) with
     | some S'=>match gQ X S' (fn.results.toList.map EE) with
      | some rs=>match lk S'.env GB,lk S'.env (GB+1) with
       | some .frame,some (.bQ (true,ls) j)=>cond (Nat.beq j 0) (dec S'.ah ls rs) none
       | _,_=>none
      | none=>none
     | none=>none
    | none=>none
   | none=>none) none=some r0:=by rcases he with rfl | rfl<;>exact hk
  obtain ⟨Wb,hk⟩:=aw hk;split at hk
  case h_2=>cases hk
  rename_i S0 hld;rw [←vv (kp:=Ph S fp w su.ids) (kh:=fun k=>w.heap[k]?) (hd:=fun _=>.agg (su.roots.map (kU β)).toArray)] at hld;obtain ⟨aL,hsL,_,hruns⟩:=vu (pI hX) hs' hld Wb;split at hk
  case h_2=>cases hk
  rename_i S1 hfz;split at hk
  case h_2=>cases hk
  rename_i S2 MD;split at hk
  case h_2=>cases hk
  rename_i rs hres;split at hk
  case h_2=>cases hk
  rename_i ls j pX hsu;obtain ⟨hj,hk⟩:=aw hk;have hj:=Nat.eq_of_beq_eq_true hj;subst hj;obtain ⟨d1,d2,d3⟩:=Aj _ _ _ _ hk;subst d2 d3;rw [←qB (kp:=Ph S fp w su.ids) (kh:=fun k=>w.heap[k]?) (hd:=fun _=>.agg (su.roots.map (kU β)).toArray)] at hres;obtain ⟨Xz,QV,A7⟩:=oA (HD hsL hfz) MD;obtain ⟨mM,h1,h2,h3⟩:=qA (pI hX) A7 _ _ hres;obtain ⟨JI,tO,hs3,Mv⟩:=NC hs hp hmem hkO hfit (F4 QQ.1) A7 d1 pX hsu;refine ⟨hs'.defers.1,pack (su.ret r0) mM,?_,_,_,mM,_,JI,tO,rfl,rfl,h1,hgo,hs3,h2.1,fun i l hl=>EP (hfit.simple l (List.mem_of_getElem? hl)) Mv (h2.2 i l hl)⟩;rw [mS];simp only [Sem.run_bind,hruns,h3,Result.andThen_ok];rfl
 rintro (_ | _ | _ | _ | _ | _) a' w' hp'
 ·obtain ⟨S',hs',hk⟩:=hp';exact fin a' w' S' .norm hs' (.inl rfl) hk
 ·obtain ⟨S',hs',hk⟩:=hp';cases hk
 ·exact hp'.elim
 ·obtain ⟨S',hs',hk⟩:=hp';exact fin a' w' S' .ret hs' (.inr rfl) hk
 ·exact hp'.elim
 ·exact hp'.elim
def Sk:Lf C→Lf C→Bool
 | .ptr a b,.ptr c d=>Nat.beq a c&&Nat.beq b d
 | .vo a,.vo b=>Nat.beq a b
 | _,_=>false
def zN:List (Lf C)→List (Lf C)→Bool
 | [],[]=>true
 | a::r,b::s=>Sk a b&&zN r s
 | _,_=>false
theorem xJ:∀ {l m:List (Lf C)},zN l m=true→l=m
 | [],[],_=>rfl
 | [],_::_,h=>by cases h
 | _::_,[],h=>by cases h
 | a::r,b::s,h=>by
  simp only [zN,Bool.and_eq_true] at h;rw [xJ h.2];have h1:=h.1;unfold Sk at h1;split at h1
  ·simp only [Bool.and_eq_true] at h1
   rw [Nat.eq_of_beq_eq_true h1.1,Nat.eq_of_beq_eq_true h1.2]
  ·rw [Nat.eq_of_beq_eq_true h1]
  ·cases h1
def Gq (l m:List Nat):Bool:=l.all fun i=>m.any (Nat.beq i)
theorem uQ {l m:List Nat} (h:Gq l m=true):∀ i,i∈l→i∈m:=fun i hi=>by
 obtain ⟨j,hj,e⟩:=List.any_eq_true.1 (List.all_eq_true.1 h i hi);rw [Nat.eq_of_beq_eq_true e];exact hj
theorem mf {c:jw C} {vs:List (SV C)} {O:cW C} {r0:c.R0} (h1:zN (ic O) c.roots=true) (h2:decide (qy O=c.fQ)=true) (h3:vp O=true) (h4:vp (c.out r0)=true) (h5:Gq (dO (c.out r0)) c.ids=true)
  (h6:Gq (qy (c.out r0)) c.fQ=true) (h7:Gq (eB (c.out r0)) c.ids=true) (h8:c.ids.any (Nat.beq pH)=false) (h9:(flatten (c.ret r0)).all qv=true):AP c vs O r0:=
 ⟨xJ h1,of_decide_eq_true h2,h3,h4,uQ h5,uQ h6,uQ h7,kN h8,fun l hl=>List.all_eq_true.1 h9 l hl⟩
theorem iL {f:Nat} {fn:Func} (hf:P.funcs[f]?=some fn) (hb:fn.body.isNone=false) (hname:fn.name ≠ "runtime.NumGoroutine") (su:jw C) (hg:∀ vs O,su.g vs O=none):dx P K f (dH su):=by
 refine ⟨⟨fn,hf,hb,hname⟩,fun kp kh hd w0 w S β fp vs us R k r hs hkey vG hv hgo=>?_,fun s hs=>?_⟩
 case refine_2=>
  simp only [dH] at hs;split at hs
  ·rename_i he
   cases hs;exact ⟨rfl,he,fun vs O r0 hk hg'=>by rw [hg] at hg';cases hg'⟩
  ·cases hs
 simp only [dH] at hgo;unfold Bl at hgo;split at hgo
 case h_2=>cases hgo
 obtain ⟨_,hgo⟩:=aw hgo;rw [hg] at hgo;cases hgo
end
inductive PK (Ty:Type):Type where
 | int (k:IntKind)
 | bool
 | str
 | bP
 | row (t:Ty)
 | el (t:Ty)
 | ptr (t:Ty)
 | imm (b:Bool) (l:List Nat)
section
variable {Ty:Type} [DecidableEq Ty] {C:Ty→Type} (K:Cd C)
abbrev PK.T (C:Ty→Type):PK Ty→Type
 | .int _=>Int
 | .bool=>Bool
 | .str=>ByteArray
 | .bP=>Option Nat
 | .row t=>List (C t)
 | .el t=>C t
 | .ptr t=>C t
 | .imm .. =>Unit
def Nv (t t':Ty) (x:C t):Option (C t'):=match decEq t t' with
 | isTrue h=>some (h▸x)
 | isFalse _=>none
def Fu:List Nat→List (Lf C)→Bool
 | [],[]=>true
 | n::r,.bP (some m)::ls=>Nat.beq n m&&Fu r ls
 | _,_=>false
def V3 (l:List Nat):List (Lf C):=l.map fun n=>.bP (some n)
def PK.deL:(p:PK Ty)→(Bool×List (Lf C))→Option (p.T C)
 | .int k,(false,[.int k' n])=>cond (decide (k=k')) (some n) none
 | .bool,(false,[.bool b])=>some b
 | .str,(false,[.str s])=>some s
 | .bP,(false,[.bP f])=>some f
 | .row t,(false,[.row t' xs])=>kH t' t xs
 | .el t,(true,ls)=>K.dec t ls
 | .imm b l,(b',ls)=>cond ((b==b')&&Fu l ls) (some ()) none
 | _,_=>none
def PK.Pn:(p:PK Ty)→p.T C→Bool×List (Lf C)
 | .int k,n=>(false,[.int k n])
 | .bool,b=>(false,[.bool b])
 | .str,s=>(false,[.str s])
 | .bP,f=>(false,[.bP f])
 | .row t,xs=>(false,[.row t xs])
 | .el t,x=>(true,K.enc t x)
 | .ptr t,x=>(false,[.nH t x 0])
 | .imm b l,_=>(b,V3 l)
def PK.deS:(p:PK Ty)→SV C→Option (p.T C)
 | .int k,.one (.int k' n)=>cond (decide (k=k')) (some n) none
 | .bool,.one (.bool b)=>some b
 | .str,.one (.str s)=>some s
 | .bP,.one (.bP f)=>some f
 | .row t,.one (.row t' xs)=>kH t' t xs
 | .el t,.agg ls=>K.dec t ls
 | .ptr t,.one (.nH t' x 0)=>Nv t' t x
 | .imm true l,.agg ls=>cond (Fu l ls) (some ()) none
 | _,_=>none
def PK.Q3:(p:PK Ty)→p.T C→SV C
 | .int k,n=>.one (.int k n)
 | .bool,b=>.one (.bool b)
 | .str,s=>.one (.str s)
 | .bP,f=>.one (.bP f)
 | .row t,xs=>.one (.row t xs)
 | .el t,x=>.agg (K.enc t x)
 | .ptr t,x=>.one (.nH t x 0)
 | .imm _ l,_=>.agg (V3 l)
def PK.pt:PK Ty→Option Ty
 | .ptr t=>some t
 | _=>none
abbrev xx (C:Ty→Type):List (PK Ty)→Type
 | []=>Unit
 | [p]=>p.T C
 | p::q::r=>p.T C×xx C (q::r)
abbrev JS (C:Ty→Type):List (PK Ty)→Type→Type
 | [],R=>R
 | p::r,R=>p.T C→JS C r R
def app {R:Type}:(ps:List (PK Ty))→JS C ps (Option R)→List (SV C)→Option R
 | [],g,[]=>g
 | p::r,g,v::vs=>match p.deS K v with
  | some x=>app r (g x) vs
  | none=>none
 | _,_,_=>none
def F2 {R:Type}:(ps:List (PK Ty))→JS C ps (Option R)→List (Bool×List (Lf C))→Option R
 | [],g,[]=>g
 | p::r,g,v::vs=>match p.deL K v with
  | some x=>F2 r (g x) vs
  | none=>none
 | _,_,_=>none
def Gg {R V:Type} (e:(p:PK Ty)→p.T C→V):(ps:List (PK Ty))→JS C ps (Option R)→(List V→Option R→Prop)→Prop
 | [],g,Φ=>Φ [] g
 | p::r,g,Φ=>∀ x:p.T C,Gg e r (g x) fun vs o=>Φ (e p x::vs) o
def Wy:(ps:List (PK Ty))→xx C ps→List (Bool×List (Lf C))
 | [],_=>[]
 | [p],x=>[p.Pn K x]
 | p::q::r,x=>p.Pn K x.1::Wy (q::r) x.2
def jB:(ps:List (PK Ty))→List (Bool×List (Lf C))→Option (xx C ps)
 | [],[]=>some ()
 | [p],[x]=>p.deL K x
 | p::q::r,x::xs=>match p.deL K x with
  | some y=>match jB (q::r) xs with
   | some z=>some (y,z)
   | none=>none
  | none=>none
 | _,_=>none
abbrev rC (C:Ty→Type):List Ty→List (PK Ty)→Type
 | [],rs=>xx C rs
 | [t],[]=>List (C t)
 | t::u::os,rs=>List (C t)×rC C (u::os) rs
 | [t],r::rs=>List (C t)×xx C (r::rs)
def Va:(os:List Ty)→(rs:List (PK Ty))→rC C os rs→List (Lf C)
 | [],_,_=>[]
 | [t],[],x=>[.row t x]
 | t::u::os,rs,x=>.row t x.1::Va (u::os) rs x.2
 | [t],_::_,x=>[.row t x.1]
def XC:(os:List Ty)→(rs:List (PK Ty))→rC C os rs→List (Bool×List (Lf C))
 | [],rs,x=>Wy K rs x
 | [_],[],_=>[]
 | _::u::os,rs,x=>XC (u::os) rs x.2
 | [_],r::rs,x=>Wy K (r::rs) x.2
def KP (t:Ty):Lf C→Option (List (C t))
 | .row t' xs=>kH t' t xs
 | _=>none
def yR:(os:List Ty)→(rs:List (PK Ty))→List (Lf C)→List (Bool×List (Lf C))→Option (rC C os rs)
 | [],rs,[],l=>jB K rs l
 | [t],[],[x],[]=>KP t x
 | t::u::os,rs,x::xs,l=>match KP t x with
  | some y=>match yR (u::os) rs xs l with
   | some z=>some (y,z)
   | none=>none
  | none=>none
 | [t],r::rs,[x],l=>match KP t x with
  | some y=>match jB K (r::rs) l with
   | some z=>some (y,z)
   | none=>none
  | none=>none
 | _,_,_,_=>none
variable {K}
theorem v7 {t t':Ty} {xs:List (C t)} {ys:List (C t')} (h:kH t t' xs=some ys):Lf.row t xs=Lf.row t' ys:=by
 unfold kH at h;split at h
 ·rename_i e _;subst e;cases h;rfl
 ·cases h
theorem Nu {t t':Ty} {x:C t} {y:C t'} (h:Nv t t' x=some y):Lf.nH t x 0=Lf.nH t' y 0:=by
 unfold Nv at h;split at h
 ·rename_i e _;subst e;cases h;rfl
 ·cases h
theorem int_eq {k k':IntKind} {n m:Int} (h:cond (decide (k=k')) (some n) none=some m):(Lf.int k' n:Lf C)=Lf.int k m:=by
 by_cases e:k=k'
 ·subst e;rw [decide_eq_true rfl] at h;cases h;rfl
 ·rw [decide_eq_false e] at h;cases h
theorem Af:∀ {l:List Nat} {ls:List (Lf C)},Fu l ls=true→ls=V3 l
 | [],[],_=>rfl
 | [],_::_,h=>by simp [Fu] at h
 | n::r,[],h=>by simp [Fu] at h
 | n::r,x::ls,h=>by
  unfold Fu at h;split at h
  ·rename_i e1 e2;cases e1
  ·rename_i e1 e2
   cases e1;cases e2;rw [Bool.and_eq_true] at h;obtain rfl:=Nat.eq_of_beq_eq_true h.1;rw [Af h.2];rfl
  ·cases h
theorem FT {p:PK Ty} {x:Bool×List (Lf C)} {y:p.T C} (h:p.deL K x=some y):x=p.Pn K y:=by
 unfold PK.deL at h;split at h
 ·simp only [PK.Pn];rw [int_eq h]
 ·cases h;rfl
 ·cases h;rfl
 ·cases h;rfl
 ·simp only [PK.Pn];rw [v7 h]
 ·simp only [PK.Pn];rw [K.js _ _ _ h]
 ·rename_i b l b' ls
  obtain ⟨h1,_⟩:=aw h;rw [Bool.and_eq_true] at h1
  have e1:b=b':=by simpa using h1.1
  rw [Af h1.2,e1];rfl
 ·cases h
theorem WQ {p:PK Ty} {x:SV C} {y:p.T C} (h:p.deS K x=some y):x=p.Q3 K y:=by
 unfold PK.deS at h;split at h
 ·simp only [PK.Q3];rw [int_eq h]
 ·cases h;rfl
 ·cases h;rfl
 ·cases h;rfl
 ·simp only [PK.Q3];rw [v7 h]
 ·simp only [PK.Q3];rw [K.js _ _ _ h]
 ·simp only [PK.Q3];rw [Nu h]
 ·obtain ⟨h1,_⟩:=aw h
  rw [Af h1];rfl
 ·cases h
theorem De {R:Type}:∀ (ps:List (PK Ty)) (g:JS C ps (Option R)) (vs:List (SV C)) (r:R) (Φ:List (SV C)→Option R→Prop),app K ps g vs=some r→Gg (PK.Q3 K) ps g Φ→Φ vs (some r)∧vs.length=ps.length
 | [],g,[],r,Φ,h,t=>by
  simp only [app] at h;subst h;exact ⟨t,rfl⟩
 | [],g,_::_,r,Φ,h,t=>by simp [app] at h
 | p::ps,g,[],r,Φ,h,t=>by simp [app] at h
 | p::ps,g,v::vs,r,Φ,h,t=>by
  simp only [app] at h;split at h
  ·rename_i x hx
   have:=De ps (g x) vs r (fun us o=>Φ (p.Q3 K x::us) o) h (t x);rw [WQ hx];exact ⟨this.1,by simp [this.2]⟩
  ·cases h
theorem ze {R:Type}:∀ (ps:List (PK Ty)) (g:JS C ps (Option R)) (vs:List (Bool×List (Lf C))) (r:R) (Φ:List (Bool×List (Lf C))→Option R→Prop),F2 K ps g vs=some r→Gg (PK.Pn K) ps g Φ→Φ vs (some r)∧vs.length=ps.length
 | [],g,[],r,Φ,h,t=>by
  simp only [F2] at h;subst h;exact ⟨t,rfl⟩
 | [],g,_::_,r,Φ,h,t=>by simp [F2] at h
 | p::ps,g,[],r,Φ,h,t=>by simp [F2] at h
 | p::ps,g,v::vs,r,Φ,h,t=>by
  simp only [F2] at h;split at h
  ·rename_i x hx
   have:=ze ps (g x) vs r (fun us o=>Φ (p.Pn K x::us) o) h (t x);rw [FT hx];exact ⟨this.1,by simp [this.2]⟩
  ·cases h
theorem Ay:∀ (ps:List (PK Ty)) (l:List (Bool×List (Lf C))) (r:xx C ps),jB K ps l=some r→l=Wy K ps r
 | [],[],r,h=>rfl
 | [],_::_,r,h=>by simp [jB] at h
 | [p],[],r,h=>by simp [jB] at h
 | [p],[x],r,h=>by
  simp only [jB] at h;simp only [Wy];rw [FT h]
 | [p],x::y::z,r,h=>by simp [jB] at h
 | p::q::ps,[],r,h=>by simp [jB] at h
 | p::q::ps,x::xs,r,h=>by
  simp only [jB] at h;split at h
  ·rename_i y hy
   split at h
   ·rename_i z hz
    cases h;simp only [Wy];rw [FT hy,Ay (q::ps) xs z hz]
   ·cases h
  ·cases h
theorem zM {t:Ty} {x:Lf C} {y:List (C t)} (h:KP t x=some y):x = .row t y:=by
 unfold KP at h;split at h
 ·exact v7 h
 ·cases h
theorem M6:∀ (os:List Ty) (rs:List (PK Ty)) (ls:List (Lf C)) (l:List (Bool×List (Lf C))) (r:rC C os rs),yR K os rs ls l=some r→ls=Va os rs r∧l=XC K os rs r
 | [],rs,[],l,r,h=>by
  simp only [yR] at h;exact ⟨rfl,Ay rs l r h⟩
 | [],rs,_::_,l,r,h=>by simp [yR] at h
 | [t],[],[x],[],r,h=>by
  simp only [yR] at h;simp only [Va,XC];exact ⟨by rw [zM h],trivial⟩
 | [t],[],[],l,r,h=>by simp [yR] at h
 | [t],[],[x],_::_,r,h=>by simp [yR] at h
 | [t],[],_::_::_,l,r,h=>by simp [yR] at h
 | [t],p::rs,[],l,r,h=>by simp [yR] at h
 | [t],p::rs,[x],l,r,h=>by
  simp only [yR] at h;split at h
  ·rename_i y hy
   split at h
   ·rename_i z hz
    cases h;simp only [Va,XC];exact ⟨by rw [zM hy],Ay _ _ _ hz⟩
   ·cases h
  ·cases h
 | [t],p::rs,_::_::_,l,r,h=>by simp [yR] at h
 | t::u::os,rs,[],l,r,h=>by simp [yR] at h
 | t::u::os,rs,x::xs,l,r,h=>by
  simp only [yR] at h;split at h
  ·rename_i y hy
   split at h
   ·rename_i z hz
    cases h;have:=M6 (u::os) rs xs l z hz;simp only [Va,XC];exact ⟨by rw [zM hy,← this.1],this.2⟩
   ·cases h
  ·cases h
def lD (K:Cd C) (ps rs:List (PK Ty)) (G:JS C ps (Option (xx C rs))):iK C:={ R0:=xx C rs,pt:=ps.map PK.pt,ret:=fun r=>Wy K rs r,g:=app K ps G }
def XE (K:Cd C) (ps:List (PK Ty)) (os:List Ty) (rs:List (PK Ty)) (G:JS C ps (Option (rC C os rs))):qd C:={ R0:=rC C os rs,out:=fun r=>Va os rs r,ret:=fun r=>XC K os rs r,g:=F2 K ps G }
variable {P:Program} {X:Cx C}
theorem Vq (hX:je P X) (hC:Cons P X) (hm:P.follows .mixedOrders=true) {f:Nat} {fn:Func} (hf:P.funcs[f]?=some fn) (hb:fn.body=some (ak fn)) (hB:jb fn.ntmps (ak fn)=true) (hname:(fn.name == "runtime.NumGoroutine")=false)
  {ps rs:List (PK Ty)} {G:JS C ps (Option (xx C rs))} (F:Cf) (hn:Nat.ble ps.length fn.ntmps=true) (t:Gg (PK.Q3 X.K) ps G fun vs o=>dG X F fn vs (jB X.K rs)=o):dm P X.K f (lD X.K ps rs G):=
 Rb hX hC hm hf hb hB (by simpa using hname) _ (jB X.K rs) (fun l r h=>Ay rs l r h) fun vs r0 h=>by
  have:=De ps G vs r0 _ h t;exact ⟨by rw [this.2];exact Nat.le_of_ble_eq_true hn,F,this.1⟩
end
section
variable {Ty:Type} [DecidableEq Ty] {C:Ty→Type}
variable {P:Program} {X:Cx C} {K:Cd C} {w0 w:World} {nt:Nat} {S:St C} {β:Nat→Value} {fp:Nat→Nat→Prop} {a:Act} {R:Type} {r:R}
def oM (P:Program) (K:Cd C) (f:Nat) (c:qd C):Prop:=
 (∃ fn,P.funcs[f]?=some fn∧fn.body.isNone=false∧fn.name ≠ "runtime.NumGoroutine") ∧
 ∀ (w0 w:World) (rs:List (Bool×List (Lf C))) (j6:List Value) (r0:c.R0) (G:Nat→Nat→Prop),K.inv w0→Below w0.heap.size w0 w→fF rs=true→j6.length=(flatten rs).length →
  (∀ m k,G m k→w0.heap.size≤k∧k<w.heap.size)→(∀ m m' k,G m k→G m' k→m=m') →
  (∀ (m:Nat) (l:Lf C),(flatten rs)[m]?=some l→l.plain=true∧Own K w w0.heap.size (G m) l (j6.getD m undef))→c.g rs=some r0 →
  Calls P f (dC rs j6).toArray w fun e w'=>∃ v,e = .returned v∧Below w0.heap.size w0 w'∧(∀ k,k<w.heap.size→(∀ m,¬ G m k)→k<w'.heap.size∧w'.heap[k]?=w.heap[k]?) ∧
   ∃ (mR:List Value) (G':Nat→Nat→Prop),v=pack (c.ret r0) mR∧mR.length=(flatten (c.ret r0)).length∧fF (c.ret r0)=true ∧
    (∀ m k,G' m k→((∃ m0,G m0 k)∨w.heap.size≤k)∧w0.heap.size≤k∧k<w'.heap.size)∧(∀ m m' k,G' m k→G' m' k→m=m') ∧
    ∀ (m:Nat) (l:Lf C),(flatten (c.ret r0))[m]?=some l→Own K w' w0.heap.size (G' m) l (mR.getD m undef)
noncomputable def nR (X:Cx C) (F:Cf) (fn:Func) (rs:List (Bool×List (Lf C))) (dec:List (Lf C)→List (Bool×List (Lf C))→Option R):Option R:=run X F (ak fn) 0 (zI rs) (vD X fn [] dec)
theorem Ra (hX:je P X) (hC:Cons P X) (hm:P.follows .mixedOrders=true) {f:Nat} {fn:Func} {c:Code} (hf:P.funcs[f]?=some fn) (hb:fn.body=some c) (hB:jb fn.ntmps c=true) (hname:fn.name ≠ "runtime.NumGoroutine") (co:qd C)
  (dec:List (Lf C)→List (Bool×List (Lf C))→Option co.R0) (hd:∀ os rs r0,dec os rs=some r0→os=[]∧rs=co.ret r0)
  (h:∀ rs r0,co.g rs=some r0→rs.length≤fn.ntmps∧∃ F:Cf,∀ kp kh hd,nR (X.gh kp kh hd) F fn rs dec=some r0):oM P X.K f co:=by
 refine ⟨⟨fn,hf,by rw [hb];rfl,hname⟩,fun w0 w rs j6 r0 G hi0 hb0 hok vG hfrG hdjG kE hg=>?_⟩;obtain ⟨hn,F,hr⟩:=h rs r0 hg
 let kp:Nat→Prop:=fun k=>k / 2<w.heap.size∧∀ m,¬ G m (k / 2)
 have QK:∀ k,kp (2*k)↔(k<w.heap.size∧∀ m,¬ G m k):=fun k=>by
  have e:2*k / 2=k:=by omega
  simp only [kp,e]
 let kh:Nat→Option Obj:=fun k=>w.heap[k]?
 let hh:Nat→Value:=fun m=>j6.getD m undef
 have hr:=hr kp kh hh;have gi:=EO (K:=X.K.gh kp kh hh) (nt:=fn.ntmps) hi0 hb0 hok vG hn hfrG hdjG (fun m l hm=>⟨(kE m l hm).1,nS (kE m l hm).2⟩) (fun k hk=>(QK k).1 hk) (fun k=>rfl) (fun m=>rfl);unfold nR at hr
 have hbody:ak fn=c:=by unfold ak;rw [hb]
 rw [hbody] at hr;refine calls_of_wp hf hb (Go.wp_mono (oN (pI hX) (Az hC) hm F c 0 _ _ w _ hB ⟨_,_,gi⟩ hr) ?_)
 have fin:∀ (a:Act) (w':World) (S':St C) (e:Ex),nq (X.gh kp kh hh).K w0 fn.ntmps S' a w'→(e = .norm∨e = .ret)→vD (X.gh kp kh hh) fn [] dec e S'=some r0 →
   a.defers=[]∧∃ v,(results fn a.tmps).run P w' = .ok v w'∧∃ Ke,Ending.returned v = .returned Ke∧Below w0.heap.size w0 w'∧(∀ k,k<w.heap.size→(∀ m,¬ G m k)→k<w'.heap.size∧w'.heap[k]?=w.heap[k]?) ∧
   ∃ (mR:List Value) (G':Nat→Nat→Prop),Ke=pack (co.ret r0) mR∧mR.length=(flatten (co.ret r0)).length∧fF (co.ret r0)=true ∧
    (∀ m k,G' m k→((∃ m0,G m0 k)∨w.heap.size≤k)∧w0.heap.size≤k∧k<w'.heap.size)∧(∀ m m' k,G' m k→G' m' k→m=m') ∧
    ∀ (m:Nat) (l:Lf C),(flatten (co.ret r0))[m]?=some l→Own X.K w' w0.heap.size (G' m) l (mR.getD m undef):=by
  intro a w' S' e ⟨eK,eJ,hs'⟩ he h
  have h:(match lk S'.env GB with
   | some .frame=>match gQ (X.gh kp kh hh) S' fn.results.toList,roots S' 0 [] with
    | some rs',some rt=>match di S' (rt++flatten rs') with
     | some (ls',_,false)=>dec (ls'.take rt.length) (reshape rs' (ls'.drop rt.length))
     | _=>none
    | _,_=>none
   | _=>none)=some r0:=by
   rcases he with he | he<;>subst he<;>exact h
  split at h
  case h_2=>cases h
  rename_i QO;split at h
  case h_2=>cases h
  rename_i rs' rt hres hroot
  have hrt:rt=[]:=by simp only [roots,Option.some.injEq] at hroot;exact hroot.symm
  subst hrt;split at h
  case h_2=>cases h
  rename_i ls' S1 habs;obtain ⟨mM,h1,h2,h3⟩:=qA (pI hX) hs' _ rs' hres;obtain ⟨_,_,_,g3,G',g4,g5,g6⟩:=o9 hs' ([]++flatten rs') _ S'.ah ls' S1 false (fun _ _ h=>h) habs (by simpa using h2);obtain ⟨ho,hret⟩:=hd _ _ _ h
  have hlen:ls'.length=(flatten rs').length:=by rw [g3];simp
  simp only [List.length_nil,List.drop_zero] at hret;obtain ⟨e1,e2⟩:=mU rs' ls' hlen
  have Wa:ls'=flatten (co.ret r0):=by rw [←hret,e1]
  have pX:∀ k,kp (2*k)→aH S'.ah eJ w' k∧w'.heap[k]?=w.heap[k]?:=fun k hk=>hs'.env GB _ QO k hk
  refine ⟨hs'.defers.1,pack rs' mM,?_,_,rfl,hs'.below,fun k h1 h2=>⟨(pX k ((QK k).2 ⟨h1,h2⟩)).1.1,(pX k ((QK k).2 ⟨h1,h2⟩)).2⟩,mM,G',?_,?_,?_,fun m k hk=>?_,fun m m' k h1 h2=>g5 m m' k h1 h2,fun m l hm=>?_⟩
  ·rw [mS]
   simp only [Sem.run_bind,h3,Result.andThen_ok];rfl
  ·rw [←hret];exact (kV e2).symm
  ·rw [←hret,e1,hlen];exact h2.1
  ·rw [←hret,ig e2];exact h1
  ·obtain ⟨id,ob,q1,q2,q3⟩:=g4 m k hk
   refine ⟨?_,hs'.fresh id ob k q1 q3⟩
   by_cases hc:∃ m0,G m0 k
   ·exact .inl hc
   ·right
    rcases Nat.lt_or_ge k w.heap.size with hlt | hge
    ·exact absurd q3 ((pX k ((QK k).2 ⟨hlt,fun m hm=>hc ⟨m,hm⟩⟩)).1.2 id ob q1)
    ·exact hge
  ·rw [←Wa] at hm
   exact zT ((g6 m l hm).1 rfl)
 rintro (_ | _ | _ | _ | _ | _) a' w' hp
 ·obtain ⟨S',hs',hk⟩:=hp;exact fin a' w' S' .norm hs' (.inl rfl) hk
 ·obtain ⟨S',hs',hk⟩:=hp;cases hk
 ·exact hp.elim
 ·obtain ⟨S',hs',hk⟩:=hp;exact fin a' w' S' .ret hs' (.inr rfl) hk
 ·exact hp.elim
 ·exact hp.elim
def XK (K:Cd C):Cx C:={ K:=K,tk:=fun _=>none,HU:=fun _=>none }
def nT {R:Type} (X:Cx C) (S:St C):List (SV C)→(List (Bool×List (Lf C))→List rG→Option R)→Option R
 | [],k=>k [] []
 | .one l::r,k=>pB X S [l] fun ls t=>nT X S r fun rs t'=>k ((false,ls)::rs) (t++t')
 | .agg ls::r,k=>pB X S ls fun ls t=>nT X S r fun rs t'=>k ((true,ls)::rs) (t++t')
 | _,_=>none
def Uw:rG→Bool
 | some (_,_::_)=>false
 | _=>true
def sG (K:Cd C) (f:Nat) (c:qd C):mP C:=⟨fun R vs S k=>nT (XK K) S vs fun rs tg=>cond (vn (fD tg)&&tg.all Uw) (Option.bind (c.g rs) fun r=>iV S.base fun b=>match bY (65536*f+4294967296*b) (c.ret r) with
 | (rs',news)=>match ({ S with ah:=dI (fD tg) S.ah }:St C).kv news with
  | some S'=>k rs' S'
  | none=>none) none,none⟩
theorem vi {kp:Nat→Prop} {kh:Nat→Option Obj} {hd:Nat→Value}:∀ (vs:List (SV C)) (k:List (Bool×List (Lf C))→List rG→Option R),nT (X.gh kp kh hd) S vs k=nT X S vs k
 | [],k=>rfl
 | .one l::r,k=>by simp only [nT,qM,vi r]
 | .agg ls::r,k=>by simp only [nT,qM,vi r]
 | .qg _::r,k=>rfl
 | .mN::r,k=>rfl
 | .jf _ _::r,k=>rfl
 | .frame::r,k=>rfl
 | .bQ _ _::r,k=>rfl
theorem vh (hs:dc X.K w0 nt S β fp a w):∀ {vs:List (SV C)} {us:List Value} {kk:List (Bool×List (Lf C))→List rG→Option R},us.length=vs.length →
  (∀ (i:Nat) (v:SV C),vs[i]?=some v→dD X.K w S.ah β fp (aH S.ah fp w) v (us.getD i undef))→nT X S vs kk=some r →
  ∃ (rs:List (Bool×List (Lf C))) (tg:List rG) (j6:List Value) (G:Nat→Nat→Prop),kk rs tg=some r∧fF rs=true∧us=dC rs j6∧wy X.K w w0.heap.size S β fp G (flatten rs) tg j6
 | [],us,kk,hl,hv,h=>by
  have e:us=[]:=List.eq_nil_of_length_eq_zero (by simpa using hl);subst e;exact ⟨[],[],[],fun _ _=>False,h,rfl,rfl,rfl,rfl,fun m l hm=>by simp [flatten] at hm⟩
 | v::vs,us,kk,hl,hv,h=>by
  obtain ⟨u,us,rfl⟩:∃ u mM,us=u::mM:=by
   cases us with
   | nil=>simp at hl
   | cons u us=>exact ⟨u,us,rfl⟩
  have hv0:dD X.K w S.ah β fp (aH S.ah fp w) v u:=hv 0 v rfl
  have Hr:∀ (i:Nat) (v:SV C),vs[i]?=some v→dD X.K w S.ah β fp (aH S.ah fp w) v (us.getD i undef):=fun i v' hi=>hv (i+1) v' (by simpa using hi)
  have hl1:us.length=vs.length:=by simpa using hl
  cases v with
  | one l=>
   simp only [nT] at h
   obtain ⟨ls',t1,G1,h1,h2,h3⟩:=nU hs (ls:=[l]) (us:=[u]) ⟨rfl,fun i l' hi=>by cases i with | zero=>simp at hi;subst hi;exact hv0 | succ i=>simp at hi⟩ h
   obtain ⟨rs,tg,j6,G,q1,q2,q3,q4⟩:=vh hs hl1 Hr h1;have hlen:ls'.length=1:=h2;refine ⟨(false,ls')::rs,t1++tg,[u]++j6,_,q1,by simp [fF,hlen,q2],?_,kT h3 q4⟩;simp [dC,lJ,hlen,q3]
  | agg ls=>
   simp only [nT] at h;obtain ⟨wX,e,hl⟩:=hv0;obtain ⟨ls',t1,G1,h1,h2,h3⟩:=nU hs hl h;obtain ⟨rs,tg,j6,G,q1,q2,q3,q4⟩:=vh hs hl1 Hr h1;refine ⟨(true,ls')::rs,t1++tg,wX++j6,_,q1,by simp [fF,q2],?_,kT h3 q4⟩;have e1:wX.length=ls'.length:=h3.1;simp [dC,lJ,← e1,q3,e]
  | _=>simp [nT] at h
theorem Av {f:Nat} {c:qd C} (hc:oM P K f c):dx P K f (sG K f c):=by
 obtain ⟨hfn,lY⟩:=hc;refine ⟨hfn,fun kp kh hd w0 w S β fp vs us R k r hs hkey vG hv h=>?_,fun s hs=>by cases hs⟩;unfold sG at h;simp only at h;rw [←vi (kp:=kp) (kh:=kh) (hd:=hd)] at h;obtain ⟨rs,tg,j6,G,h,hok,hargs,hulen,htl,hG⟩:=vh (X:=(XK K).gh kp kh hd) hs vG hv h;obtain ⟨hnd,h⟩:=aw h;simp only [Bool.and_eq_true] at hnd;have hnd:=rX hnd.1
 cases hg:c.g rs with
 | none=>rw [hg] at h;cases h
 | some r0=>
  rw [hg] at h;simp only [Option.bind_some,ja] at h
  let G0:Nat→Nat→Prop:=fun m k=>m<(flatten rs).length∧G m k
  have Td:∀ m,m<(flatten rs).length→G0 m=G m:=fun m hm=>by funext k;simp [G0,hm]
  have kE:∀ (m:Nat) (l:Lf C),(flatten rs)[m]?=some l→l.plain=true∧Own (K.gh kp kh hd) w w0.heap.size (G0 m) l (j6.getD m undef)∧∃ t,tg[m]?=some t∧Ga (K.gh kp kh hd) w w0.heap.size S β fp (G0 m) (j6.getD m undef) t:=fun m l hm=>by
   rw [Td m (eD hm)];exact hG m l hm
  have hA:∀ m k,G0 m k→∃ id p ob,tg[m]?=some (some (id,p))∧fp id k∧lk S.ah id=some ob:=fun m k hk=>by
   obtain ⟨_,_,t,h1,h2⟩:=kE m (flatten rs)[m] (by simp [hk.1])
   cases t with
   | none=>exact absurd hk (h2 k)
   | some x=>obtain ⟨id,p⟩:=x;obtain ⟨t,xs,h3,h4,_⟩:=h2;exact ⟨id,p,_,h1,h4 k hk,h3⟩
  have hone:∀ (m id:Nat) (p:List (Nat×Nat)) (ob:Ob C) (m' k:Nat),tg[m]?=some (some (id,p))→lk S.ah id=some ob→fp id k→G0 m' k→m'=m:=fun m id p ob m' k hm fO hk hk'=>by
   obtain ⟨gM,p',dY,h1,h2,h3⟩:=hA m' k hk';have:=hs.eM gM id dY ob k h3 fO h2 hk;subst this;exact qo hnd h1 hm
  rw [hargs]
  refine (lY w0 w rs j6 r0 G0 hs.defers.2 hs.below hok hulen (fun m k hk=>by
    obtain ⟨id,p,ob,_,h2,h3⟩:=hA m k hk
    exact hs.fresh id ob k h3 h2) (fun m m' k hk hk'=>by
    obtain ⟨id,p,ob,h1,h2,h3⟩:=hA m k hk
    exact (hone m id p ob m' k h1 h3 h2 hk').symm) (fun m l hm=>⟨(kE m l hm).1,zT (kE m l hm).2.1⟩) hg).mono fun en w' ⟨v0,he,hb,pX,mR,G',hp,hrl,Fz,CI,Pk,FG⟩=>?_
  let dK:=65536*f+4294967296*S.base
  let news:=(bY dK (c.ret r0)).2
  let S1:St C:={ S with ah:=dI (fD tg) S.ah }
  split at h
  case h_2=>cases h
  rename_i S2 gu;have gu:S1.kv news=some S2:=gu;have h:k (bY dK (c.ret r0)).1 S2=some r:=h;obtain ⟨g1,g2,g3,g4⟩:=o8 gu
  have hnews:∀ id ob,lk news id=some ob→∃ m t xs,id=dK+m∧(flatten (c.ret r0))[m]?=some (.row t xs)∧ob = .row t xs false:=fun id ob hi=>qb _ _ _ _ hi
  let eK:Nat→Value:=fun id=>if (lk news id).isSome then mR.getD (id-dK) undef else β id
  let eJ:Nat→Nat→Prop:=fun id k=>if (lk news id).isSome then G' (id-dK) k else fp id k
  have Cs:∀ id,lk news id=none→eK id=β id:=fun id hi=>by simp [eK,hi]
  have hnone:∀ id,¬ (lk news id).isSome→lk news id=none:=fun id hi=>by
   cases e:lk news id with
   | none=>rfl
   | some x=>rw [e] at hi;exact absurd rfl hi
  have oh:∀ id ob,lk news id=none→lk S2.ah id=some ob→lk S.ah id=some ob∧id∉fD tg:=fun id ob hn hi=>by
   rw [g3,dB,hn] at hi;have hi:lk (dI (fD tg) S.ah) id=some ob:=hi;rw [jm] at hi;split at hi
   ·cases hi
   ·rename_i hni;exact ⟨hi,hni⟩
  have Wj:∀ id ob k,lk S.ah id=some ob→id∉fD tg→fp id k→∀ m,¬ G0 m k:=fun id ob k hi hni hk m hm=>by
   obtain ⟨gM,p,dY,c1,c2,c3⟩:=hA m k hm;have:=hs.eM gM id dY ob k c3 hi c2 hk;subst this;exact hni (kX.2 ⟨m,p,c1⟩)
  have Mt:∀ t v,lk S2.env t=some v→∀ i,i∈fG v→lk news i=none:=fun t v ht i hi=>by
   cases e:lk news i with
   | none=>rfl
   | some ob=>exact absurd (kZ (by rw [←g1];exact ht) hi) (g4 i ob e).1
  have Ms:∀ id ob,lk S1.ah id=some ob→∀ kd ls,ob = .box kd ls→∀ i,i∈ey ls→lk news i=none:=fun id ob hi kd ls e i eR=>by
   cases e2:lk news i with
   | none=>rfl
   | some x=>exact absurd ((kY hi).2 kd ls e i eR) (g4 i x e2).2
  have hg1:∀ id ob,lk news id=none→lk S2.ah id=some ob→lk S1.ah id=some ob:=fun id ob hn hi=>by
   rw [g3,dB,hn] at hi;exact hi
  have gi:dc (K.gh kp kh hd) w0 0 S2 eK eJ nD w':=by
   refine hs.write (S':=S2) hb (fun id=>(lk news id).isSome) (fun k hk=>?_) (fun id ob hu hi=>?_) (fun id ob hu hi=>?_) (fun t v ht i hi=>Cs i (Mt t v ht i hi)) (fun id ob k hu hi hk=>?_) (fun id gM ob dY k hu hi eR hk hk'=>?_) (fun id ob hu hi=>?_) (fun id kd ls hu hi l hl hp i hil=>?_) (fun t v ht=>?_)
   ·have hno:∀ m,¬ G0 m k:=fun m hm=>by
     obtain ⟨id,p,ob,_,h2,h3⟩:=hA m k hm;exact hk.2 id ob h3 h2
    obtain ⟨f1,f2⟩:=pX k hk.1 hno;refine ⟨⟨f1,fun id ob hi hf=>?_⟩,f2⟩
    by_cases hn:(lk news id).isSome
    ·simp only [eJ,hn,if_true] at hf
     rcases (CI _ k hf).1 with ⟨m,hm⟩ | h2
     ·exact hno m hm
     ·have:=hk.1;omega
    ·simp only [eJ,hn] at hf
     exact hk.2 id ob (oh id ob (hnone id hn) hi).1 hf
   ·have hn:lk news id=none:=hnone id hu
    obtain ⟨h3,h4⟩:=oh id ob hn hi;refine ⟨h3,by funext k;simp [eJ,hn],fun k hk=>pX k (hs.fresh id ob k h3 hk).2 (Wj id ob k h3 h4 hk)⟩
   ·have hn:lk news id=none:=hnone id hu
    exact ⟨Cs id hn,fun kd ls e i eR=>Cs i (Ms id ob (hg1 id ob hn hi) kd ls e i eR)⟩
   ·simp only [eJ,hu,if_true] at hk
    exact (CI _ k hk).2
   ·by_cases hn:(lk news id).isSome<;>by_cases qi:(lk news gM).isSome
    ·simp only [eJ,hn,qi,if_true] at hk hk'
     obtain ⟨x,hx⟩:=Option.isSome_iff_exists.1 hn;obtain ⟨x',hx'⟩:=Option.isSome_iff_exists.1 qi;obtain ⟨m,_,_,e1,_⟩:=hnews id x hx;obtain ⟨m',_,_,e1',_⟩:=hnews gM x' hx';have:=Pk _ _ k hk hk';omega
    ·simp only [eJ,hn,qi,if_true] at hk hk'
     obtain ⟨h3,h4⟩:=oh gM dY (hnone gM qi) eR
     have hk':fp gM k:=by simpa using hk'
     rcases (CI _ k hk).1 with ⟨m,hm⟩ | h2
     ·exact absurd hm (Wj gM dY k h3 h4 hk' m)
     ·have:=(hs.fresh gM dY k h3 hk').2;omega
    ·simp only [eJ,hn,qi,if_true] at hk hk'
     obtain ⟨h3,h4⟩:=oh id ob (hnone id hn) hi
     have hk:fp id k:=by simpa using hk
     rcases (CI _ k hk').1 with ⟨m,hm⟩ | h2
     ·exact absurd hm (Wj id ob k h3 h4 hk m)
     ·have:=(hs.fresh id ob k h3 hk).2;omega
    ·rcases hu with hu | hu
     ·exact absurd hu hn
     ·exact absurd hu qi
   ·obtain ⟨x,hx⟩:=Option.isSome_iff_exists.1 hu
    obtain ⟨m,t,xs,e1,e2,e3⟩:=hnews id x hx
    have V6:lk S2.ah id=some x:=by rw [g3,dB,hx]
    rw [V6] at hi;cases hi;refine ⟨t,xs,e3,?_⟩
    have e5:id-dK=m:=by omega
    have hO:=FG m (.row t xs) e2
    simpa [eK,eJ,hu,e5] using nS hO
   ·have hn:lk news id=none:=hnone id hu
    intro h4
    have:lk news i=none:=Ms id _ (hg1 id _ hn hi) _ ls rfl i (by
      obtain ⟨j,hj,rfl⟩:=List.getElem_of_mem hl
      exact eN (i:=j) (by simp [hj]) hil)
    rw [this] at h4;cases h4
   ·refine ⟨by rw [←show S2.env=S.env from g1];exact ht,fun l hl hp i hil h4=>?_⟩
    have:=Mt t v ht i (Di hl hil);rw [this] at h4;cases h4
  have hsh:=jh (c.ret r0) dK;refine ⟨v0,(bY dK (c.ret r0)).1,mR,S2,eK,eJ,he,?_,?_,h,gi,?_⟩
  ·rw [hp];exact (kV hsh (us:=mR)).symm
  ·rw [ig hsh];exact Fz
  ·refine ⟨by rw [hrl,jS hsh],fun m l hm=>?_⟩
   rcases ry (c.ret r0) dK m l hm with ⟨t,xs,q1,q2,q3⟩ | ⟨q1,q2⟩
   ·subst q2
    refine ⟨(FG m _ q1).one,?_⟩
    have e2:(lk news (dK+m)).isSome:=by
     have:lk news (dK+m)=some (.row t xs false):=q3;rw [this];rfl
    simp [eK,e2]
   ·exact pN (nS (FG m l q1)) q2
theorem Vp (hX:je P X) (hC:Cons P X) (hm:P.follows .mixedOrders=true) {f:Nat} {fn:Func} (hf:P.funcs[f]?=some fn) (hb:fn.body=some (ak fn)) (hB:jb fn.ntmps (ak fn)=true) (hname:(fn.name == "runtime.NumGoroutine")=false)
  {ps:List (PK Ty)} {rs:List (PK Ty)} {G:JS C ps (Option (rC C [] rs))} (F:Cf) (hn:Nat.ble ps.length fn.ntmps=true) (t:∀ kp kh hd,Gg (PK.Pn X.K) ps G fun vs o=>nR (X.gh kp kh hd) F fn vs (yR X.K [] rs)=o):oM P X.K f (XE X.K ps [] rs G):=
 Ra hX hC hm hf hb hB (by simpa using hname) _ (yR X.K [] rs) (fun o l r h=>by
  have:=M6 [] rs o l r h
  exact ⟨by rw [this.1];simp [Va],this.2⟩) fun vs r0 h=>by
  have h1:=fun kp kh hd=>ze ps G vs r0 _ h (t kp kh hd)
  exact ⟨by rw [(h1 (fun _=>False) (fun _=>none) (fun _=>undef)).2];exact Nat.le_of_ble_eq_true hn,F,fun kp kh hd=>(h1 kp kh hd).1⟩
end
section
variable {Ty:Type} [DecidableEq Ty] {C:Ty→Type}
variable {P:Program} {w:World} {H:Type} {en:TypeId×Value→H} {base:Nat} {spare:Nat→Bool} {held:Bool}
inductive Sm (K:Cd C):Lf C→Prop
 | int (k n) (h:(Lit.int k n).wf=true):Sm K (.int k n)
 | bool (b):Sm K (.bool b)
 | str (s) (h:s.size≤maxLen):Sm K (.str s)
 | row (t xs) (h:xs.length≤maxLen) (h2:∀ (j:Nat) (hj:j<xs.length) (i:Nat) (l:Lf C),(K.enc t xs[j])[i]?=some l→Sm K l):Sm K (.row t xs)
def Em:TK Ty→List (ZL Ty)
 | .one z=>[z]
 | .agg _ zs=>zs
 | .arr .. =>[.ptr]
def jR:ZL Ty→Lf C→Bool
 | .int k,.int k' _=>decide (k=k')
 | .bool,.bool _=>true
 | .str,.str _=>true
 | .dR t,.row t' _=>decide (t=t')
 | _,_=>false
def eI:List (ZL Ty)→List (Lf C)→Bool
 | [],[]=>true
 | z::zs,l::ls=>jR z l&&eI zs ls
 | _,_=>false
def nZ (ok:Ty→Bool):ZL Ty→Bool
 | .ptr=>false
 | .bP=>false
 | .nk _=>false
 | .dR t=>ok t
 | _=>true
structure Tab (P:Program) (K:Cd C) (tk:Nat→Option (TK Ty)) (ok:Ty→Bool):Prop where
 fact:∀ T k,tk T=some k→aI P K T k
 el:∀ t,wK P K t
 sub:∀ T fs zs,tk T=some (.agg fs zs)→∀ fields,P.underlying T=some (.struct fields)→∀ (j off n:Nat) (ag:Bool) (f:Field),fs[j]?=some (off,n,ag)→fields[j]?=some f→∃ kf,tk f.type=some kf∧Em kf=(zs.drop off).take n
 XU:∀ T fs zs,tk T=some (.agg fs zs)→∀ i,i<zs.length→∃ (j off n:Nat) (ag:Bool),fs[j]?=some (off,n,ag)∧off≤i∧i<off+n
 elk:∀ t,ok t=true→∃ kt,tk (K.tid t)=some kt∧(Em kt).all (nZ ok)=true∧∀ ls,eI (Em kt) ls=true→∃ x,K.dec t ls=some x
theorem Ad {α:Type} {Q:Nat→α→Prop}:∀ n,(∀ i,i<n→∃ x,Q i x)→∃ xs:List α,xs.length=n∧∀ (i:Nat) (x:α),xs[i]?=some x→Q i x
 | 0,_=>⟨[],rfl,fun i x h=>by simp at h⟩
 | n+1,h=>by
  obtain ⟨xs,h1,h2⟩:=Ad n fun i hi=>h i (by omega)
  obtain ⟨x,hx⟩:=h n (by omega);refine ⟨xs++[x],by simp [h1],fun i y hy=>?_⟩
  rcases Nat.lt_or_ge i n with hlt | hge
  ·rw [List.getElem?_append_left (by omega)] at hy;exact h2 i y hy
  ·rw [List.getElem?_append_right (by omega),h1] at hy
   have:i-n=0:=by
    rcases Nat.eq_zero_or_pos (i-n) with h0 | h0
    ·exact h0
    ·rw [List.getElem?_eq_none (by simp;omega)] at hy;cases hy
   rw [this] at hy;simp at hy
   have e:i=n:=by omega
   rw [e,← hy];exact hx
theorem Co:∀ {zs:List (ZL Ty)} {ls:List (Lf C)},ls.length=zs.length→(∀ (i:Nat) (z:ZL Ty) (l:Lf C),zs[i]?=some z→ls[i]?=some l→jR z l=true)→eI zs ls=true
 | [],[],_,_=>rfl
 | [],_::_,h,_=>by simp at h
 | _::_,[],h,_=>by simp at h
 | z::zs,l::ls,h,hk=>by
  simp only [eI,Bool.and_eq_true];exact ⟨hk 0 z l rfl rfl,Co (by simpa using h) fun i z l h1 h2=>hk (i+1) z l (by simpa using h1) (by simpa using h2)⟩
theorem yz:∀ {zs:List (ZL Ty)} {ls:List (Lf C)},eI zs ls=true→ls.length=zs.length∧∀ (i:Nat) (z:ZL Ty) (l:Lf C),zs[i]?=some z→ls[i]?=some l→jR z l=true
 | [],[],_=>⟨rfl,fun i z l h=>by simp at h⟩
 | [],_::_,h=>by cases h
 | _::_,[],h=>by cases h
 | z::zs,l::ls,h=>by
  simp only [eI,Bool.and_eq_true] at h;obtain ⟨h1,h2⟩:=yz h.2;refine ⟨by simp [h1],fun i z' l' hz hl=>?_⟩
  cases i with
  | zero=>simp at hz hl;subst hz hl;exact h.1
  | succ i=>exact h2 i z' l' (by simpa using hz) (by simpa using hl)
theorem Ql {K:Cd C} {tk:Nat→Option (TK Ty)} {ok:Ty→Bool} (ht:Tab P K tk ok):∀ (n:Nat) (T:TypeId) (cs:List Value) (x:DataW H×List MemPlace) (k:TK Ty),DataW.trod en P w base spare held n T cs=some x→tk T=some k→(Em k).all (nZ ok)=true →
  ∃ ls:List (Lf C),eI (Em k) ls=true∧ls.length=cs.length∧∀ (i:Nat) (l:Lf C),ls[i]?=some l→gT K w (fun b=>b<w.heap.size) l (cs.getD i undef)∧Sm K l:=by
 intro n
 induction n with
 | zero=>intro T cs x k h;simp [DataW.trod] at h
 | succ n ih=>
  intro T cs x k h hT hp
  have one:∀ (z:ZL Ty) (l:Lf C) (v:Value),jR z l=true→gT K w (fun b=>b<w.heap.size) l v→Sm K l→∃ ls:List (Lf C),eI (Em (.one z)) ls=true∧ls.length=[v].length∧∀ (i:Nat) (l:Lf C),ls[i]?=some l→gT K w (fun b=>b<w.heap.size) l ([v].getD i undef)∧Sm K l:=
   fun z l v h1 h2 h3=>⟨[l],by simp [Em,eI,h1],rfl,fun i l' hi=>by
    cases i with
    | zero=>simp at hi;subst hi;exact ⟨h2,h3⟩
    | succ i=>simp at hi⟩
  have hF:=ht.fact T k hT
  cases k with
  | one z=>
   obtain ⟨_,d,hd,hz⟩:=hF
   cases z with
   | int ki=>
    have e:d = .int ki:=hz;subst e;obtain ⟨m,rfl,-,hw⟩:=DataW.trod_int hd h;exact one _ (.int ki m) _ (by simp [jR]) (.int ..) (.int _ _ hw)
   | bool=>
    have e:d = .bool:=hz;subst e;obtain ⟨b,rfl,-⟩:=DataW.trod_bool hd h;exact one _ (.bool b) _ rfl (.bool ..) (.bool _)
   | str=>
    have e:d = .string:=hz;subst e;obtain ⟨s,rfl,-,hw⟩:=DataW.trod_string hd h;exact one _ (.str s) _ rfl (.str ..) (.str _ hw)
   | ptr=>simp [Em,nZ] at hp
   | bP=>simp [Em,nZ] at hp
   | nk n=>simp [Em,nZ] at hp
   | dR t=>
    have hok:ok t=true:=by simpa [Em,nZ] using hp
    have e:d = .slice (K.tid t):=hz;subst e
    rcases DataW.trod_slice hd h with ⟨rfl,-⟩ | ⟨a,len,cap,elems,rest,n',hn,rfl,-,hb,hl,hm,hlen,hel,-,-⟩
    ·exact one _ (.row t []) _ (by simp [jR]) (.row t [] none 0 default (fun _=>undef) (Nat.le_refl _) (fun h=>absurd rfl h) (fun h=>absurd rfl h) (fun j hj=>absurd hj (by simp))) (.row t [] (Nat.zero_le _) (fun j hj=>absurd hj (by simp)))
    ·cases hn
     obtain ⟨i0,z0,hi0,hsz,hby,hpos,hz0,hzs,Pj⟩:=ht.el t
     have hcells:P.cellsOf (K.tid t)=K.sz t:=by simp [Program.cellsOf,hi0,hsz]
     obtain ⟨kt,hkt,hnp,Aj⟩:=ht.elk t hok
     have each:∀ j,j<len→∃ x:C t,∀ (i:Nat) (l:Lf C),(K.enc t x)[i]?=some l→∃ u,w.cell? ((a.add (j*K.sz t)).add i)=some u∧gT K w (fun b=>b<w.heap.size) l u∧Sm K l:=by
      intro j hj;have h1:=hel j hj;rw [hcells,List.getElem?_eq_getElem (by omega)] at h1;rw [Option.bind_eq_some_iff] at h1;obtain ⟨cs',hc,hd'⟩:=h1;obtain ⟨_,hcl,hcg⟩:=World.cells?_some hc;obtain ⟨ls,k1,k2,k3⟩:=ih _ _ _ _ hd' hkt hnp;obtain ⟨x,hx⟩:=Aj ls k1;have henc:=K.js t ls x hx;refine ⟨x,fun i l hi=>?_⟩;rw [henc] at hi;have hil:=eD hi;obtain ⟨r1,r2⟩:=k3 i l hi;refine ⟨cs'.getD i undef,?_,r1,r2⟩;rw [hcg i (by omega),List.getD_eq_getElem?_getD,List.getElem?_eq_getElem (by omega)];rfl
     obtain ⟨xs,x1,x2⟩:=Ad len each
     have hrow:∀ (j:Nat) (hj:j<xs.length) (i:Nat) (l:Lf C),(K.enc t xs[j])[i]?=some l→∃ u,w.cell? (a.add (j*K.sz t+i))=some u∧gT K w (fun b=>b<w.heap.size) l u∧Sm K l:=fun j hj i l hi=>by
      have:=x2 j xs[j] (by simp [hj]) i l hi
      rwa [add_add] at this
     have hsome:∀ m,m<xs.length*K.sz t→∃ u,w.cell? (a.add m)=some u:=fun m hm=>by
      have hj:m / K.sz t<xs.length:=Nat.div_lt_of_lt_mul (by rw [Nat.mul_comm];exact hm)
      have hi:m % K.sz t<(K.enc t xs[m / K.sz t]).length:=by rw [K.gA];exact Nat.mod_lt _ (K.pos t)
      obtain ⟨u,hu,_⟩:=hrow _ hj (m % K.sz t) (K.enc t xs[m / K.sz t])[m % K.sz t] (by simp [hi]);rw [Nat.mul_comm,Nat.div_add_mod] at hu;exact ⟨u,hu⟩
     refine one _ (.row t xs) _ (by simp [jR]) ?_ (.row t xs (by omega) fun j hj i l hi=>(hrow j hj i l hi).elim fun u h=>h.2.2)
     have e:(Value.slice (some a) len cap) = .slice (some a) xs.length cap:=by rw [x1]
     rw [e];refine .row t xs (some a) cap a (fun m=>(w.cell? (a.add m)).getD undef) (by omega) (fun hne=>⟨rfl,?_⟩) (fun hne m hm=>?_) (fun j hj i l hi=>?_)
     ·have hp0:0<xs.length*K.sz t:=Nat.mul_pos (List.length_pos_iff.2 hne) (K.pos t)
      have hj0:0<len:=by have:=List.length_pos_iff.2 hne;omega
      have h1:=hel 0 hj0;rw [hcells,List.getElem?_eq_getElem (by omega),Option.bind_eq_some_iff] at h1;obtain ⟨cs',hc,_⟩:=h1;have:=World.cells?_block hc (K.pos t)
      rwa [mL] at this
     ·obtain ⟨u,hu⟩:=hsome m hm
      simp [hu]
     ·obtain ⟨u,hu,hr,_⟩:=hrow j hj i l hi
      simp only [hu,Option.getD_some];exact hr
  | arr n sz ag zs=>simp [Em,nZ] at hp
  | agg fs zs=>
   obtain ⟨⟨i0,hi0,hsz0,_⟩,fields,hu,hl,hF⟩:=hF;obtain ⟨xs,n',hn,-,hcl,hxl,hxs⟩:=DataW.trod_struct hu h;cases hn
   have hcl':cs.length=zs.length:=by rw [hcl];simp [Program.cellsOf,hi0,hsz0]
   have each:∀ i,i<zs.length→∃ l:Lf C,(∀ z,zs[i]?=some z→jR z l=true)∧gT K w (fun b=>b<w.heap.size) l (cs.getD i undef)∧Sm K l:=by
    intro i hi;obtain ⟨j,off,m,ag,hj,ho1,ho2⟩:=ht.XU T fs zs hT i hi;obtain ⟨f,fi,q1,q2,q3,q4,q5,_⟩:=hF j off m ag hj;obtain ⟨kf,hkf,hzk⟩:=ht.sub T fs zs hT fields hu j off m ag f hj q1
    have hc1:P.cellsOf f.type=m:=by simp [Program.cellsOf,q3,q4]
    have h1:=hxs j f q1
    rw [hc1,q2,List.getElem?_eq_getElem (by
     have:=eD (xs:=fields.toList) (n:=j) (x:=f) (by simpa using q1)
     rw [hxl];simpa using this)] at h1
    obtain ⟨ls,k1,k2,k3⟩:=ih _ _ _ _ h1 hkf (by
     rw [hzk]
     refine List.all_eq_true.2 fun z hz=>List.all_eq_true.1 hp z ?_
     exact List.mem_of_mem_drop (List.mem_of_mem_take hz))
    obtain ⟨g1,g2⟩:=yz k1;rw [hzk] at g1 g2
    have hlt:i-off<ls.length:=by rw [g1];simp;omega
    obtain ⟨r1,r2⟩:=k3 (i-off) ls[i-off] (by simp [hlt])
    have e1:((cs.drop off).take m).getD (i-off) undef=cs.getD i undef:=by
     simp only [List.getD];rw [List.getElem?_take,if_pos (by omega),List.getElem?_drop,show off+(i-off)=i by omega]
    rw [e1] at r1;refine ⟨ls[i-off],fun z hz=>g2 (i-off) z _ ?_ (by simp [hlt]),r1,r2⟩;rw [List.getElem?_take,if_pos (by omega),List.getElem?_drop,show off+(i-off)=i by omega];exact hz
   obtain ⟨ls,h1,h2⟩:=Ad zs.length each;exact ⟨ls,Co h1 fun i z l hz hl=>(h2 i l hl).1 z hz,by omega,fun i l hi=>(h2 i l hi).2⟩
theorem aF {z:ZL Ty} {zs:List (ZL Ty)} {ls:List (Lf C)} (h:eI (z::zs) ls=true):∃ l ls',ls=l::ls'∧jR z l=true∧eI zs ls'=true:=by
 cases ls with
 | nil=>cases h
 | cons l ls=>simp only [eI,Bool.and_eq_true] at h;exact ⟨l,ls,rfl,h.1,h.2⟩
theorem eP {ls:List (Lf C)} (h:eI ([]:List (ZL Ty)) ls=true):ls=[]:=by
 cases ls with
 | nil=>rfl
 | cons l ls=>cases h
theorem bE {k:IntKind} {l:Lf C} (h:jR (.int k:ZL Ty) l=true):∃ n,l = .int k n:=by
 cases l<;>simp [jR] at h;subst h;exact ⟨_,rfl⟩
theorem iv {l:Lf C} (h:jR (.bool:ZL Ty) l=true):∃ n,l = .bool n:=by
 cases l<;>simp [jR] at h;exact ⟨_,rfl⟩
theorem iN {l:Lf C} (h:jR (.str:ZL Ty) l=true):∃ n,l = .str n:=by
 cases l<;>simp [jR] at h;exact ⟨_,rfl⟩
theorem jq {t:Ty} {l:Lf C} (h:jR (.dR t) l=true):∃ xs,l = .row t xs:=by
 cases l<;>simp [jR] at h;subst h;exact ⟨_,rfl⟩
def zlB:ZL Ty→ZL Ty→Bool
 | .int k,.int k'=>decide (k=k')
 | .bool,.bool=>true
 | .str,.str=>true
 | .ptr,.ptr=>true
 | .bP,.bP=>true
 | .nk .lX,.nk .lX=>true
 | .nk .map,.nk .map=>true
 | .dR t,.dR t'=>decide (t=t')
 | _,_=>false
def Pu:List (ZL Ty)→List (ZL Ty)→Bool
 | [],[]=>true
 | z::zs,y::ys=>zlB z y&&Pu zs ys
 | _,_=>false
theorem Gl:∀ {a b:List (ZL Ty)},Pu a b=true→a=b
 | [],[],_=>rfl
 | [],_::_,h=>by cases h
 | _::_,[],h=>by cases h
 | z::zs,y::ys,h=>by
  simp only [Pu,Bool.and_eq_true] at h
  have e:z=y:=by
   have h1:=h.1
   cases z<;>cases y<;>first | rfl | (simp [zlB] at h1;done) | (simp [zlB] at h1;subst h1;rfl) | (rename_i n m;cases n<;>cases m<;>first | rfl | (simp [zlB] at h1))
  rw [e,Gl h.2]
def PJ (tk:Nat→Option (TK Ty)) (zs:List (ZL Ty)):List Field→List (Nat×Nat×Bool)→Bool
 | [],[]=>true
 | f::l,x::r=>(match tk f.type with
  | some kf=>Pu (Em kf) ((zs.drop x.1).take x.2.1)
  | none=>false)&&PJ tk zs l r
 | _,_=>false
theorem Gp {tk:Nat→Option (TK Ty)} {zs:List (ZL Ty)}:∀ {l:List Field} {r:List (Nat×Nat×Bool)},PJ tk zs l r=true→∀ (j off n:Nat) (ag:Bool) (f:Field),r[j]?=some (off,n,ag)→l[j]?=some f→∃ kf,tk f.type=some kf∧Em kf=(zs.drop off).take n
 | [],[],_,j,off,n,ag,f,h,_=>by simp at h
 | [],_::_,h,_,_,_,_,_,_,_=>by cases h
 | _::_,[],h,_,_,_,_,_,_,_=>by cases h
 | f0::l,x::r,h,j,off,n,ag,f,hj,hf=>by
  simp only [PJ,Bool.and_eq_true] at h
  cases j with
  | zero=>
   simp at hj hf;subst hj hf;have h1:=h.1;split at h1
   ·rename_i kf hk;exact ⟨kf,hk,Gl h1⟩
   ·cases h1
  | succ j=>exact Gp h.2 j off n ag f (by simpa using hj) (by simpa using hf)
def UX (P:Program) (tk:Nat→Option (TK Ty)) (x:Nat×TK Ty):Bool:=match x.2 with
 | .one _=>true
 | .arr .. =>true
 | .agg fs zs=>(match P.underlying x.1 with
  | some (.struct fields)=>PJ tk zs fields.toList fs
  | _=>false)&&(below zs.length).all fun i=>fs.any fun y=>Nat.ble y.1 i&&Nat.ble (i+1) (y.1+y.2.1)
theorem yY:∀ {n j:Nat},j<n→j∈Ab.below n
 | n+1,j,h=>by
  simp only [Ab.below,List.mem_cons]
  rcases Nat.lt_succ_iff_lt_or_eq.1 h with h | h
  ·exact .inr (yY h)
  ·exact .inl h
theorem L9 {α:Type}:∀ {l:List (Nat×α)} {n:Nat} {v:α},lk l n=some v→(n,v)∈l
 | [],n,v,h=>by simp [lk] at h
 | (m,x)::l,n,v,h=>by
  rw [aN] at h;split at h
  ·rename_i e;cases h;subst e;simp
  ·exact List.mem_cons_of_mem _ (L9 h)
theorem UD {K:Cd C} {l:List (Nat×TK Ty)} (hf:∀ T k,lk l T=some k→aI P K T k) (he:∀ t,wK P K t) (hr:l.all (UX P (lk l))=true)
  {ok:Ty→Bool} (hk:∀ t,ok t=true→∃ kt,lk l (K.tid t)=some kt∧(Em kt).all (nZ ok)=true∧∀ ls,eI (Em kt) ls=true→∃ x,K.dec t ls=some x):Tab P K (lk l) ok:=by
 refine ⟨hf,he,fun T fs zs hT fields hu j off n ag f hj hf=>?_,fun T fs zs hT i hi=>?_,hk⟩
 ·have:=List.all_eq_true.1 hr (T,.agg fs zs) (L9 hT)
  simp only [UX,hu,Bool.and_eq_true] at this;exact Gp this.1 j off n ag f hj (by simpa using hf)
 ·have:=List.all_eq_true.1 hr (T,.agg fs zs) (L9 hT)
  simp only [UX,Bool.and_eq_true] at this;have:=List.all_eq_true.1 this.2 i (yY hi);obtain ⟨y,hy,hb⟩:=List.any_eq_true.1 this;simp only [Bool.and_eq_true] at hb;obtain ⟨off,n,ag⟩:=y;obtain ⟨j,hj,e⟩:=List.getElem_of_mem hy;exact ⟨j,off,n,ag,by rw [List.getElem?_eq_getElem hj,e],Nat.le_of_ble_eq_true hb.1,Nat.le_of_ble_eq_true hb.2⟩
end
end Go.Proofs.Ytipemmgoipbojaa.Ab
