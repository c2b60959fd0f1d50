/- The abstract machine: a function whose code is run in place: the call. -/
import Derived.Test.YtakakoogpmhhkaaP2
import Derived.ChangeMaps5
import Derived.LoopN
import Derived.Orders
import Derived.Scope
set_option linter.unusedVariables false
set_option linter.unusedSimpArgs false
set_option linter.unusedSectionVars false
set_option linter.unusedVariables false
set_option linter.unusedSimpArgs false
set_option linter.unusedSectionVars false
namespace Go.Proofs.Ytakakoogpmhhkaa.Ab
open Go Go.RowKit

section
variable {Ty : Type} [DecidableEq Ty] {C : Ty→Type}
variable {P : Program} {X : Cx C} {K : Cd C} {w0 w : World} {nt : Nat} {S : St C} {β : Nat→Value} {fp : Nat→Nat→Prop} {a : Act} {R : Type} {k : St C→Option R} {r : R}
variable {Q : Exit→Act→World→Prop} {kp : Nat→Prop} {kh : Nat→Option Obj} {hd : Nat→Value} {objs : Objs C} {stb : Nat→Prop}

theorem pres_gh {F : Nat→Prop} {t : Ty} {xs : List (C t)} {v : Value} {p : List (Nat×Nat)} {t' : Ty} {zs : List (C t')} {v' : Value} (h : PRes K w F t xs v p t' zs v') : PRes (K.gh kp kh hd) w F t xs v p t' zs v' := by
  induction h with
  | nil=>exact .nil ..
  | cons t xs v i o x t1 ys a n c v1 p t' zs v' hx hl hv hF hc _ ih=>exact .cons t xs v i o x t1 ys a n c v1 p t' zs v' hx hl hv hF hc ih
theorem pres_hg {F : Nat→Prop} {t : Ty} {xs : List (C t)} {v : Value} {p : List (Nat×Nat)} {t' : Ty} {zs : List (C t')} {v' : Value} (h : PRes (K.gh kp kh hd) w F t xs v p t' zs v') : PRes K w F t xs v p t' zs v' := by
  induction h with
  | nil=>exact .nil ..
  | cons t xs v i o x t1 ys a n c v1 p t' zs v' hx hl hv hF hc _ ih=>exact .cons t xs v i o x t1 ys a n c v1 p t' zs v' hx hl hv hF hc ih
theorem lf_gh {l : Lf C} {v : Value} (h : LfOk K w objs β fp stb l v) : LfOk (K.gh kp kh hd) w objs β fp stb l v:=by
  cases l with
  | row t xs=>exact rep_gh h
  | elt t x o=>obtain ⟨a,U,h1,h2,h3,h4⟩:=h; exact ⟨a,U,h1,h2,h3,fun i l hl=>rep_gh (h4 i l hl)⟩
  | ref id p=>cases p with
    | nil=>exact h
    | cons s p=>exact ⟨h.1,fun t xs sh ho=>by obtain ⟨h1,t',zs,hz⟩:=h.2 t xs sh ho; exact ⟨h1,t',zs,pres_gh hz⟩⟩
  | ep id p i o=>cases p with
    | nil=>exact h
    | cons s p=>exact ⟨h.1,fun t xs sh ho=>by obtain ⟨h1,t',zs,v',hz,hr⟩:=h.2 t xs sh ho; exact ⟨h1,t',zs,v',pres_gh hz,hr⟩⟩
  | _=>exact h
theorem lf_hg {l : Lf C} {v : Value} (h : LfOk (K.gh kp kh hd) w objs β fp stb l v) : LfOk K w objs β fp stb l v:=by
  cases l with
  | row t xs=>exact rep_hg h
  | elt t x o=>obtain ⟨a,U,h1,h2,h3,h4⟩:=h; exact ⟨a,U,h1,h2,h3,fun i l hl=>rep_hg (h4 i l hl)⟩
  | ref id p=>cases p with
    | nil=>exact h
    | cons s p=>exact ⟨h.1,fun t xs sh ho=>by obtain ⟨h1,t',zs,hz⟩:=h.2 t xs sh ho; exact ⟨h1,t',zs,pres_hg hz⟩⟩
  | ep id p i o=>cases p with
    | nil=>exact h
    | cons s p=>exact ⟨h.1,fun t xs sh ho=>by obtain ⟨h1,t',zs,v',hz,hr⟩:=h.2 t xs sh ho; exact ⟨h1,t',zs,v',pres_hg hz,hr⟩⟩
  | _=>exact h
theorem lfs_gh {ls : List (Lf C)} {vs : List Value} (h : LfsOk K w objs β fp stb ls vs) : LfsOk (K.gh kp kh hd) w objs β fp stb ls vs:=⟨h.1,fun i l hl=>lf_gh (h.2 i l hl)⟩
theorem lfs_hg {ls : List (Lf C)} {vs : List Value} (h : LfsOk (K.gh kp kh hd) w objs β fp stb ls vs) : LfsOk K w objs β fp stb ls vs:=⟨h.1,fun i l hl=>lf_hg (h.2 i l hl)⟩
theorem tup_gh {x : Bool×List (Lf C)} {v : Value} (h : TupOk K w objs β fp stb x v) : TupOk (K.gh kp kh hd) w objs β fp stb x v:=by
  obtain ⟨b,ls⟩:=x
  cases b with
  | false=>obtain ⟨l,h1,h2⟩:=h; exact ⟨l,h1,lf_gh h2⟩
  | true=>obtain ⟨vs,h1,h2⟩:=h; exact ⟨vs,h1,lfs_gh h2⟩
theorem tup_hg {x : Bool×List (Lf C)} {v : Value} (h : TupOk (K.gh kp kh hd) w objs β fp stb x v) : TupOk K w objs β fp stb x v:=by
  obtain ⟨b,ls⟩:=x
  cases b with
  | false=>obtain ⟨l,h1,h2⟩:=h; exact ⟨l,h1,lf_hg h2⟩
  | true=>obtain ⟨vs,h1,h2⟩:=h; exact ⟨vs,h1,lfs_hg h2⟩
theorem ob_gh (hkp : kp=K.kp) (hkh : kh=K.kh) {base : Nat} {F : Nat→Prop} {ob : Ob C} {v : Value} (h : ObOk K w base objs β fp stb F ob v) : ObOk (K.gh kp kh hd) w base objs β fp stb F ob v:=by
  cases ob with
  | box kd ls=>cases kd with
    | mem=>obtain ⟨b,cs,e,h1,h2,h3,h4⟩:=h; exact ⟨b,cs,e,h1,h2,h3,lfs_gh h4⟩
    | clo f n sh=>obtain ⟨us,h1,h2,h3⟩:=h; exact ⟨us,h1,h2,lfs_gh h3⟩
    | ifc t sh=>obtain ⟨us,h1,h2,h3⟩:=h; exact ⟨us,h1,h2,lfs_gh h3⟩
  | map mk kt vt xs c=>exact h
  | ghost=>subst hkp hkh; exact h
  | row t xs sh=>cases sh with
    | false=>exact own_gh h
    | true=>obtain ⟨cells,h1,h2,h3⟩:=h; exact ⟨cells,h1,h2,fun j x hx i l hl=>rep_gh (h3 j x hx i l hl)⟩
theorem ob_hg (hkp : kp=K.kp) (hkh : kh=K.kh) {base : Nat} {F : Nat→Prop} {ob : Ob C} {v : Value} (h : ObOk (K.gh kp kh hd) w base objs β fp stb F ob v) : ObOk K w base objs β fp stb F ob v:=by
  cases ob with
  | box kd ls=>cases kd with
    | mem=>obtain ⟨b,cs,e,h1,h2,h3,h4⟩:=h; exact ⟨b,cs,e,h1,h2,h3,lfs_hg h4⟩
    | clo f n sh=>obtain ⟨us,h1,h2,h3⟩:=h; exact ⟨us,h1,h2,lfs_hg h3⟩
    | ifc t sh=>obtain ⟨us,h1,h2,h3⟩:=h; exact ⟨us,h1,h2,lfs_hg h3⟩
  | map mk kt vt xs c=>exact h
  | ghost=>subst hkp hkh; exact h
  | row t xs sh=>cases sh with
    | false=>exact own_hg h
    | true=>obtain ⟨cells,h1,h2,h3⟩:=h; exact ⟨cells,h1,h2,fun j x hx i l hl=>rep_hg (h3 j x hx i l hl)⟩

def noAct : Act:={ tmps := #[],defers:=[] }
def InlOk (P : Program) (K : Cd C) (f : Nat) (I : Inl C) : Prop :=
  (∃ fn, P.funcs[f]? = some fn ∧ fn.body.isNone = false ∧ fn.name ≠ "runtime.NumGoroutine") ∧
  ∀ (kp : Nat→Prop) (kh : Nat→Option Obj) (hd : Nat→Value) (w0 w : World) (S : St C) (β : Nat→Value) (fp : Nat→Nat→Prop) (vs : List (SV C)) (us : List Value) (R : Type) (k : List (Bool×List (Lf C))→St C→Option R) (r : R),
    Sim (K.gh kp kh hd) w0 0 S β fp noAct w→(∀ t v,lk S.env t=some v→1000≤t)→us.length=vs.length →
    (∀ (i : Nat) (v : SV C),vs[i]? = some v→SVOk (K.gh kp kh hd) w S.objs β fp (stbOf S.objs fp w) v (us.getD i undef))→I.go R vs S k=some r →
    Calls P f us.toArray w fun e w' => ∃ (v : Value) (rs : List (Bool×List (Lf C))) (rls : List Value) (S' : St C) (β' : Nat→Value) (fp' : Nat→Nat→Prop),e = .returned v∧v=pack rs rls∧okRes rs=true∧k rs S' = some r ∧
      Sim (K.gh kp kh hd) w0 0 S' β' fp' noAct w' ∧ LfsOk (K.gh kp kh hd) w' S'.objs β' fp' (stbOf S'.objs fp' w') (flatten rs) rls

theorem inl_gh {f : Nat} {I : Inl C} (h : InlOk P K f I) : InlOk P (K.gh kp kh hd) f I:=⟨h.1,fun kp' kh' hd' => h.2 kp' kh' hd'⟩

/-- What a slot that is put by tells. -/
def SuspOf (b : Nat) (E : List (Nat×SV C)) (t : Nat) (v : SV C) : Prop := ∃ t0,t=t0+1000 ∧
  ((∃ l,lk E t0=some (.one l)∧v = .sus (false,[l]) (b+1000+t0))∨(∃ ls,lk E t0=some (.agg ls)∧v = .sus (true,ls) (b+1000+t0)) ∨
   (∃ id j,lk E t0=some (.hdr id j)∧v = .hdr id j)∨(lk E t0=some .frame∧v = .frame)∨(∃ x j,lk E t0=some (.sus x j)∧v = .sus x j))
theorem SuspOf.up {b : Nat} {E : List (Nat×SV C)} {t m : Nat} {v u : SV C} (h : SuspOf b E t v) (hne : t≠m+1000) : SuspOf b ((m,u)::E) t v:=by
  obtain ⟨t0,e,h⟩:=h
  have hm : lk ((m,u)::E) t0=lk E t0:=by rw [lk_cons,if_neg (by omega)]
  refine ⟨t0,e,?_⟩
  rw [hm]
  exact h
theorem suspE_lk {b : Nat} : ∀ {E : List (Nat×SV C)} {t : Nat} {v : SV C},lk (suspE b E) t=some v→SuspOf b E t v
  | [],t,v,h=>by simp [suspE,lk] at h
  | (m,u)::E,t,v,h=>by
    have hd : ∀ {v' : SV C},lk ((m+1000,v')::suspE b E) t=some v→(t=m+1000∧v=v')∨(t≠m+1000∧SuspOf b ((m,u)::E) t v):=fun {v'} h=>by
      rw [lk_cons] at h
      by_cases e : t=m+1000
      · rw [if_pos e] at h; cases h; exact .inl ⟨e,rfl⟩
      · rw [if_neg e] at h; exact .inr ⟨e,(suspE_lk h).up e⟩
    have ht : lk (rm (suspE b E) (m+1000)) t=some v→SuspOf b ((m,u)::E) t v:=fun h=>by
      rw [lk_rm] at h
      by_cases e : t=m+1000
      · rw [if_pos e] at h; cases h
      · rw [if_neg e] at h; exact (suspE_lk h).up e
    have hm : lk ((m,u)::E) m=some u:=by rw [lk_cons,if_pos rfl]
    cases u with
    | one l=>rcases hd h with ⟨e,e2⟩ | ⟨_,h⟩; exact ⟨m,e,.inl ⟨l,hm,e2⟩⟩; exact h
    | agg ls=>rcases hd h with ⟨e,e2⟩ | ⟨_,h⟩; exact ⟨m,e,.inr (.inl ⟨ls,hm,e2⟩)⟩; exact h
    | hdr id j=>rcases hd h with ⟨e,e2⟩ | ⟨_,h⟩; exact ⟨m,e,.inr (.inr (.inl ⟨id,j,hm,e2⟩))⟩; exact h
    | frame=>rcases hd h with ⟨e,e2⟩ | ⟨_,h⟩; exact ⟨m,e,.inr (.inr (.inr (.inl ⟨hm,e2⟩)))⟩; exact h
    | sus x j=>rcases hd h with ⟨e,e2⟩ | ⟨_,h⟩; exact ⟨m,e,.inr (.inr (.inr (.inr ⟨x,j,hm,e2⟩)))⟩; exact h
    | tup _=>exact ht h
    | und=>exact ht h
theorem blt_lt {a b : Nat} (h : Nat.blt a b=true) : a<b:=by simpa [Nat.blt_eq] using h
theorem suspOk_mem {b : Nat} : ∀ {E : List (Nat×SV C)},suspOk b E=true → ∀ t v,(t,v) ∈ E→(∀ id j,v = .hdr id j→j<b+1000) ∧ ∀ x j,v = .sus x j→j<b+1000
  | [],_,t,v,h=>by cases h
  | (m,u)::E,h,t,v,hm=>by
    have ih : suspOk b E=true→(t,v) ∈ E→_:=fun h hm=>suspOk_mem h t v hm
    rcases List.mem_cons.1 hm with e | hm2
    · cases e
      cases u with
      | hdr id j=>simp only [suspOk,Bool.and_eq_true] at h; exact ⟨fun _ _ e=>(by cases e; exact blt_lt h.1),fun _ _ e=>(by cases e)⟩
      | sus x j=>simp only [suspOk,Bool.and_eq_true] at h; exact ⟨fun _ _ e=>(by cases e),fun _ _ e=>(by cases e; exact blt_lt h.1)⟩
      | _=>exact ⟨fun _ _ e=>(by cases e),fun _ _ e=>(by cases e)⟩
    · cases u with
      | hdr id j=>simp only [suspOk,Bool.and_eq_true] at h; exact ih h.2 hm2
      | sus x j=>simp only [suspOk,Bool.and_eq_true] at h; exact ih h.2 hm2
      | _=>exact ih h hm2
/-- What a slot that is taken up again was. -/
def ResuOf (b : Nat) (E : List (Nat×SV C)) (t : Nat) (v : SV C) : Prop :=
  (∃ x j,lk E (t+1000)=some (.sus x j)∧((j=b+(t+1000)∧v=unTup x)∨(j<b+1000∧v = .sus x j)))∨(∃ id j,lk E (t+1000)=some (.hdr id j)∧j<b+1000∧v = .hdr id j)∨(lk E (t+1000)=some .frame∧v = .frame)
theorem ResuOf.up {b : Nat} {E : List (Nat×SV C)} {t m : Nat} {v u : SV C} (h : ResuOf b E t v) (hne : m≠t+1000) : ResuOf b ((m,u)::E) t v:=by
  have hm : lk ((m,u)::E) (t+1000)=lk E (t+1000):=by rw [lk_cons,if_neg (fun e=>hne e.symm)]
  unfold ResuOf
  rw [hm]
  exact h
theorem resuE_lk {b : Nat} : ∀ {E : List (Nat×SV C)} {t : Nat} {v : SV C},lk (resuE b E) t=some v→ResuOf b E t v
  | [],t,v,h=>by simp [resuE,lk] at h
  | (m,u)::E,t,v,h=>by
    have hm : lk ((m,u)::E) m=some u:=by rw [lk_cons,if_pos rfl]
    have lo : ¬ 1000≤m→lk (resuE b E) t=some v→ResuOf b ((m,u)::E) t v:=fun hl h=>(resuE_lk h).up (by omega)
    have hd : 1000≤m → ∀ {v' : SV C},lk ((m - 1000,v')::resuE b E) t=some v→(m=t+1000∧v=v')∨ResuOf b ((m,u)::E) t v:=fun hl {v'} h=>by
      rw [lk_cons] at h
      by_cases e : t=m - 1000
      · rw [if_pos e] at h; cases h; exact .inl ⟨by omega,rfl⟩
      · rw [if_neg e] at h; exact .inr ((resuE_lk h).up (by omega))
    have ht : lk (rm (resuE b E) (m - 1000)) t=some v→ResuOf b ((m,u)::E) t v:=fun h=>by
      rw [lk_rm] at h
      by_cases e : t=m - 1000
      · rw [if_pos e] at h; cases h
      · rw [if_neg e] at h; exact (resuE_lk h).up (by omega)
    have ble : ∀ {x : Nat},Nat.ble 1000 x=true→1000≤x:=fun h=>Nat.le_of_ble_eq_true h
    have nble : ∀ {x : Nat},Nat.ble 1000 x=false → ¬ 1000≤x:=fun h hl=>by rw [Nat.ble_eq_true_of_le hl] at h; cases h
    cases u with
    | sus x j =>
      simp only [resuE] at h
      cases c1 : Nat.ble 1000 m with
      | false=>rw [c1] at h; exact lo (nble c1) h
      | true =>
        rw [c1] at h
        cases c2 : Nat.beq j (b+m) with
        | true =>
          rw [c2] at h
          rcases hd (ble c1) h with ⟨e,e2⟩ | h
          · exact .inl ⟨x,j,by rw [← e]; exact hm,.inl ⟨by have:=Nat.eq_of_beq_eq_true c2; omega,e2⟩⟩
          · exact h
        | false =>
          rw [c2] at h
          cases c3 : Nat.blt j (b+1000) with
          | true =>
            rw [c3] at h
            rcases hd (ble c1) h with ⟨e,e2⟩ | h
            · exact .inl ⟨x,j,by rw [← e]; exact hm,.inr ⟨blt_lt c3,e2⟩⟩
            · exact h
          | false=>rw [c3] at h; exact ht h
    | hdr id j =>
      simp only [resuE] at h
      cases c1 : Nat.ble 1000 m with
      | false=>rw [c1] at h; exact lo (nble c1) h
      | true =>
        rw [c1] at h
        cases c3 : Nat.blt j (b+1000) with
        | true =>
          rw [c3] at h
          rcases hd (ble c1) h with ⟨e,e2⟩ | h
          · exact .inr (.inl ⟨id,j,by rw [← e]; exact hm,blt_lt c3,e2⟩)
          · exact h
        | false=>rw [c3] at h; exact ht h
    | frame =>
      simp only [resuE] at h
      cases c1 : Nat.ble 1000 m with
      | false=>rw [c1] at h; exact lo (nble c1) h
      | true =>
        rw [c1] at h
        rcases hd (ble c1) h with ⟨e,e2⟩ | h
        · exact .inr (.inr ⟨by rw [← e]; exact hm,e2⟩)
        · exact h
    | one _=>exact ht h
    | agg _=>exact ht h
    | tup _=>exact ht h
    | und=>exact ht h

theorem unTup_ok {x : Bool×List (Lf C)} {v : Value} (h : TupOk K w objs β fp stb x v) : SVOk K w objs β fp stb (unTup x) v:=by
  obtain ⟨b,ls⟩:=x
  cases b with
  | false=>obtain ⟨l,h1,h2⟩:=h; have h1 : ls=[l]:=h1; subst h1; exact h2
  | true=>cases ls with
    | nil=>exact h
    | cons l r=>cases r <;> exact h

/-- A call whose callee's code is run in place. -/
theorem argsI_okV : ∀ {xs : List Operand} {ts : List TypeId} {vs : List (SV C)},argsI X S xs ts=some vs → ∀ (i : Nat) (v : SV C),vs[i]? = some v→okV v=true
  | [],ts,vs,h,i,v,hi=>by simp only [argsI,Option.some.injEq] at h; subst h; simp at hi
  | x::xs,ts,vs,h,i,v,hi=>by
    simp only [argsI] at h
    split at h
    · split at h
      · rename_i vs' hr
        cases h
        cases i with
        | zero=>simp at hi; subst hi; rfl
        | succ i=>exact argsI_okV hr i v (by simpa using hi)
      · cases h
    · split at h
      · rename_i vs' hr
        cases h
        cases i with
        | zero=>simp at hi; subst hi; rfl
        | succ i=>exact argsI_okV hr i v (by simpa using hi)
      · cases h
    · cases h
theorem unSh_okV : ∀ {sh : List (Bool×Nat)} {ls : List (Lf C)} (i : Nat) (v : SV C),(unSh sh ls)[i]? = some v→okV v=true
  | [],ls,i,v,h=>by simp [unSh] at h
  | (b,n)::sh,ls,i,v,h=>by
    cases i with
    | zero=>simp [unSh] at h; subst h; cases b <;> rfl
    | succ i=>exact unSh_okV i v (by simpa [unSh] using h)
def AllV (vs : List (SV C)) : Prop := ∀ (i : Nat) (v : SV C),vs[i]? = some v→okV v=true
theorem AllV.nil : AllV ([] : List (SV C)):=fun i v h=>by simp at h
theorem AllV.append {vs us : List (SV C)} (h : AllV vs) (h' : AllV us) : AllV (vs++us):=fun i v hi=>by
  rw [List.getElem?_append] at hi
  split at hi
  · exact h i v hi
  · exact h' _ v hi
theorem s_callI (hinl : ∀ f I,X.inl f=some I→InlOk P X.K f I) (hs : Sim X.K w0 nt S β fp a w) {o : Oper} (hd : slot o.dst nt) {f : FuncId} {pre post : List (SV C)} {pu qu : List Value} {as : List Operand} {ts : List TypeId}
    (h : callI X S f pre as ts post o k=some r) (hpre : SVsOk X.K w S.objs β fp (stbOf S.objs fp w) pre pu) (hpost : SVsOk X.K w S.objs β fp (stbOf S.objs fp w) post qu) (apre : AllV pre) (apost : AllV post)
    (hexec : ∀ fn, P.funcs[f]? = some fn → fn.body.isNone = false → fn.name ≠ "runtime.NumGoroutine" → (execOp a.eval o).run P w = .ok (.enter f (pu ++ (as.map a.eval ++ qu)).toArray) w) : Goal P X w0 nt k r Q o a w := by
  unfold callI at h
  split at h
  case h_2=>cases h
  rename_i I hI
  split at h
  case h_2=>cases h
  rename_i vs hvs
  rw [forceI_eq] at h
  obtain ⟨hok,h⟩:=cond_some h
  simp only [forceVs_eq,forceS_eq] at h
  have hall:=hpre.append ((argsI_sv hs hvs).append hpost)
  have hokV : AllV (pre++(vs++post)):=apre.append (AllV.append (argsI_okV hvs) apost)
  obtain ⟨⟨fn,hf1,hf2,hf3⟩,hcalls⟩:=hinl f I hI
  generalize hb : siteQ S.base o.dst=b at h hok
  have hsT:=hs.tidy X.hold
  let hd' : Nat→Value:=fun j=>if b+1000≤j then a.tmps.getD (j - (b+1000)) undef else X.K.hd j
  have hnew : ∀ t,hd' (b+1000+t)=a.tmps.getD t undef:=fun t=>by simp [hd']
  have hold : ∀ j,j<b+1000→hd' j=X.K.hd j:=fun j hj=>by simp [hd',show ¬ b+1000≤j by omega]
  have hmem : ∀ t v,lk (S.tidy X.hold).env t=some v→(∀ id j,v = .hdr id j→j<b+1000) ∧ ∀ x j,v = .sus x j→j<b+1000:=fun t v ht=>suspOk_mem hok t v (lk_mem (lk_liveE S.env X.hold t v ht))
  have hsim : Sim (X.K.gh X.K.kp X.K.kh hd') w0 0 (susp b (S.tidy X.hold)) β fp noAct w:=by
    refine ⟨hs.below,⟨rfl,hs.defers.2⟩,rfl,hs.fresh,hs.disj,fun id ob hi=>ob_gh rfl rfl (hs.objs id ob hi),fun t v ht => ?_⟩
    obtain ⟨t0,_,⟨l,q1,q2⟩ | ⟨ls,q1,q2⟩ | ⟨id,j,q1,q2⟩ | ⟨q1,q2⟩ | ⟨x,j,q1,q2⟩⟩:=suspE_lk ht
    · subst q2
      show TupOk _ w S.objs β fp _ (false,[l]) (hd' (b+1000+t0))
      rw [hnew]
      exact ⟨l,rfl,lf_gh (hsT.env t0 _ q1)⟩
    · subst q2
      show TupOk _ w S.objs β fp _ (true,ls) (hd' (b+1000+t0))
      rw [hnew]
      obtain ⟨us,e1,e2⟩:=hsT.env t0 _ q1
      exact ⟨us,e1,lfs_gh e2⟩
    · subst q2
      show β id=hd' j
      rw [hold j ((hmem t0 _ q1).1 id j rfl)]
      exact hsT.env t0 _ q1
    · subst q2
      exact hsT.env t0 _ q1
    · subst q2
      show TupOk _ w S.objs β fp _ x (hd' j)
      rw [hold j ((hmem t0 _ q1).2 x j rfl)]
      exact tup_gh (hsT.env t0 _ q1)
  have hcall:=hcalls X.K.kp X.K.kh hd' w0 w (susp b (S.tidy X.hold)) β fp _ _ R _ r hsim (fun t v ht=>by
      obtain ⟨t0,e,_⟩:=suspE_lk ht
      omega) hall.1 (fun i v hi=>by
      have:=hall.2 i v hi
      have hokv:=hokV i v hi
      cases v with
      | one l=>exact lf_gh this
      | agg ls=>obtain ⟨us,e1,e2⟩:=this; exact ⟨us,e1,lfs_gh e2⟩
      | _=>cases hokv) h
  show o.wp P a w (Next X.K w0 nt k r) Q
  unfold Oper.wp
  rw [hexec fn hf1 hf2 hf3]
  show Calls P f _ w _
  refine hcall.mono fun en w' ⟨v0,rs,rls,S',β',fp',he,hp,hokr,hk,hs',hlf⟩ => ?_
  subst he
  split at hk
  case h_2=>cases hk
  rename_i v hvv
  have hsim2 : Sim X.K w0 nt (resu b S.base S') β' fp' a w' := by
    refine ⟨hs'.below,hs.defers,hs.size,hs'.fresh,hs'.disj,fun id ob hi=>ob_hg rfl rfl (hs'.objs id ob hi),fun t v ht => ?_⟩
    rcases resuE_lk ht with ⟨x,j,q1,⟨q2,q3⟩ | ⟨q2,q3⟩⟩ | ⟨id,j,q1,q2,q3⟩ | ⟨q1,q2⟩
    · subst q3
      have h1 : TupOk _ w' S'.objs β' fp' _ x (hd' j):=hs'.env _ _ q1
      rw [show j=b+1000+t by omega,hnew] at h1
      exact unTup_ok (tup_hg h1)
    · subst q3
      have h1 : TupOk _ w' S'.objs β' fp' _ x (hd' j):=hs'.env _ _ q1
      rw [hold j q2] at h1
      exact tup_hg h1
    · subst q3
      have h1 : β' id=hd' j:=hs'.env _ _ q1
      rw [hold j q2] at h1
      exact h1
    · subst q2
      exact hs'.env _ _ q1
  have hsv:=res_sv hokr hvv (lfs_hg hlf)
  rw [← hp] at hsv
  exact next_put hsim2 hd hsv hk
end
end Go.Proofs.Ytakakoogpmhhkaa.Ab

/- The abstract machine: function values and interface values: they are made,they are called. -/
set_option linter.unusedVariables false
set_option linter.unusedSimpArgs false
set_option linter.unusedSectionVars false
namespace Go.Proofs.Ytakakoogpmhhkaa.Ab
open Go Go.RowKit

section
variable {Ty : Type} [DecidableEq Ty] {C : Ty→Type}
variable {P : Program} {X : Cx C} {K : Cd C} {w0 w : World} {nt : Nat} {S : St C} {β : Nat→Value} {fp : Nat→Nat→Prop} {a : Act} {R : Type} {k : St C→Option R} {r : R}
variable {dst : Option Tmp} {ty : TypeId} {pos : String} {aft : Array Edge} {gd : Option (Nat×Bool)} {Q : Exit→Act→World→Prop} {objs : Objs C} {stb : Nat→Prop}

theorem take_left {α : Type} {l l' : List α} {n : Nat} (h : l.length=n) : (l++l').take n=l:=by subst h; simp
theorem drop_left {α : Type} {l l' : List α} {n : Nat} (h : l.length=n) : (l++l').drop n=l' := by subst h; simp
theorem leaves_pack : ∀ {vs : List (SV C)} {us : List Value},AllV vs→SVsOk K w objs β fp stb vs us → ∃ fs,LfsOk K w objs β fp stb (leavesOf vs) fs∧packSh (shOf vs) fs=us
  | [],us,_,h=>by
    obtain rfl : us=[]:=by have:=h.1; simpa using this
    exact ⟨[],⟨rfl,fun i l h=>by simp [leavesOf] at h⟩,rfl⟩
  | v::vs,us,ha,h=>by
    obtain ⟨u,us,rfl⟩ : ∃ u us',us=u::us' := by
      cases us with
      | nil=>have:=h.1; simp at this
      | cons u us=>exact ⟨u,us,rfl⟩
    have h' : SVsOk K w objs β fp stb vs us:=⟨by have:=h.1; simpa using this,fun i v hi=>h.2 (i+1) v (by simpa using hi)⟩
    obtain ⟨fs,q1,q2⟩:=leaves_pack (fun i v hi=>ha (i+1) v (by simpa using hi)) h'
    have h0 : SVOk K w objs β fp stb v u:=h.2 0 v rfl
    have hok:=ha 0 v rfl
    cases v with
    | one l =>
      refine ⟨u::fs,⟨by simp [leavesOf,SV.leaves,q1.1],fun i l' hi => ?_⟩,by simp [shOf,packSh,q2]⟩
      cases i with
      | zero=>simp [leavesOf,SV.leaves] at hi; subst hi; exact h0
      | succ i=>exact q1.2 i l' (by simpa [leavesOf,SV.leaves] using hi)
    | agg ls =>
      obtain ⟨vs0,rfl,hv⟩:=h0
      refine ⟨vs0++fs,⟨by simp [leavesOf,SV.leaves,q1.1,hv.1],fun i l' hi => ?_⟩,?_⟩
      · simp only [leavesOf,SV.leaves,List.getElem?_append] at hi
        have e : (vs0++fs).getD i undef=if i<vs0.length then vs0.getD i undef else fs.getD (i - vs0.length) undef:=by
          simp only [List.getD_eq_getElem?_getD,List.getElem?_append]
          split <;> rfl
        rw [e,hv.1]
        split at hi
        · rename_i hlt; rw [if_pos hlt]; exact hv.2 i l' hi
        · rename_i hlt; rw [if_neg hlt]; exact q1.2 _ l' hi
      · simp only [shOf,packSh,cond_true,take_left hv.1,drop_left hv.1,q2]
    | _=>cases hok
theorem idsLs_append : ∀ (l l' : List (Lf C)),idsLs (l++l')=idsLs l++idsLs l'
  | [],_=>rfl
  | x::l,l' => by simp [idsLs,idsLs_append l l']
theorem leavesOf_append : ∀ (l l' : List (SV C)),leavesOf (l++l')=leavesOf l++leavesOf l'
  | [],_=>rfl
  | x::l,l' => by simp [leavesOf,leavesOf_append l l']
theorem argsI_ids : ∀ {xs : List Operand} {ts : List TypeId} {vs : List (SV C)},argsI X S xs ts=some vs → ∀ id,id ∈ idsLs (leavesOf vs)→id ∈ idsE0 S.env
  | [],ts,vs,h,id,hi=>by simp only [argsI,Option.some.injEq] at h; subst h; simp [leavesOf,idsLs] at hi
  | x::xs,ts,vs,h,id,hi=>by
    simp only [argsI] at h
    split at h
    · rename_i l hv
      split at h
      · rename_i vs' hr
        cases h
        simp only [leavesOf,idsLs_append,List.mem_append] at hi
        rcases hi with hi | hi
        · exact opdT_ids hv (leaves_ids hi)
        · exact argsI_ids hr id hi
      · cases h
    · rename_i l hv
      split at h
      · rename_i vs' hr
        cases h
        simp only [leavesOf,idsLs_append,List.mem_append] at hi
        rcases hi with hi | hi
        · exact opdT_ids hv (leaves_ids hi)
        · exact argsI_ids hr id hi
      · cases h
    · cases h
/-- A new thing without a place in memory. -/
theorem new_vo (hs : Sim X.K w0 nt S β fp a w) (hd : slot dst nt) {id : Nat} {kd : VT} {ls : List (Lf C)} {fs : List Value} {hv : Value} {S' : St C} (hadd : S.add id (.box kd ls)=some S')
    (hkd : (∃ f n sh,kd = .clo f n sh∧hv=cloV f n sh fs) ∨ ∃ t sh,kd = .ifc t sh∧hv=ifcV t sh fs)
    (hl : LfsOk X.K w S.objs β fp (stbOf S.objs fp w) ls fs) (hids : ∀ i,i ∈ idsLs ls→i ∈ idsE0 S.env) (hk : k (S'.put dst (.one (.vo id)))=some r) :
    Next X.K w0 nt k r (a.put dst hv) w:=by
  obtain ⟨hn,rfl⟩:=add_some hadd
  have hw : Below w.heap.size w w:=Below.refl _ _
  have hl' := lfs_new hs hw (id:=id) (ob := .box kd ls) (hv:=hv) (F:=fun _=>False) (fun k hk=>hk.elim) hl (fun hm=>hn.1 (hids _ hm))
  have h2:=hs.addNew hw hn (ob := .box kd ls) (hv:=hv) (F:=fun _=>False) (fun k hk=>hk.elim) (by
    rcases hkd with ⟨f,n,sh,rfl,rfl⟩ | ⟨t,sh,rfl,rfl⟩
    · exact ⟨fs,rfl,fun k hk=>hk,hl'⟩
    · exact ⟨fs,rfl,fun k hk=>hk,hl'⟩)
  refine next_put h2 hd (v := .one (.vo id)) ⟨?_,(upd_same _ _ _).symm⟩ hk
  rcases hkd with ⟨f,n,sh,rfl,rfl⟩ | ⟨t,sh,rfl,rfl⟩ <;> rfl
theorem s_makeFunc (hs : Sim X.K w0 nt S β fp a w) (hd : slot dst nt) {fn : Fn} {first captured : Array Operand} (h : ev X ⟨dst,.makeFunc fn first captured,ty,pos,aft,gd⟩ S k=some r) : Goal P X w0 nt k r Q ⟨dst,.makeFunc fn first captured,ty,pos,aft,gd⟩ a w:=by
  simp only [ev] at h
  split at h
  case h_2=>cases h
  rename_i f
  split at h
  case h_2=>cases h
  rename_i vs us hvs hus
  have h1:=argsI_sv hs hvs
  have h2:=argsI_sv hs hus
  have hexec : ∀ v,v=Value.func (.func f) (first.map a.eval) (captured.map a.eval)→(execOp a.eval ⟨dst,.makeFunc (.func f) first captured,ty,pos,aft,gd⟩).run P w = .ok (.value v) w:=fun v e=>by
    subst e
    simp [execOp,Instr.makeFunc]
  have e1 : first.map a.eval=(first.toList.map a.eval).toArray:=by rw [← Array.toList_map,Array.toArray_toList]
  have e2 : captured.map a.eval=(captured.toList.map a.eval).toArray:=by rw [← Array.toList_map,Array.toArray_toList]
  cases he : (vs++us).isEmpty with
  | true =>
    rw [he] at h
    simp only [cond_true] at h
    have hnil : vs=[]∧us=[]:=by simpa using he
    obtain ⟨rfl,rfl⟩:=hnil
    have z1 : first.toList.map a.eval=[]:=List.length_eq_zero_iff.1 h1.1
    have z2 : captured.toList.map a.eval=[]:=List.length_eq_zero_iff.1 h2.1
    rw [z1] at e1
    rw [z2] at e2
    cases hf : Nat.ble IFZ f with
    | true=>rw [hf] at h; cases h
    | false =>
      rw [hf] at h
      exact wp_value (hexec (fnV (some f)) (by rw [e1,e2,fnV_func hf])) (next_put hs hd (v := .one (.fnc (some f))) rfl h)
  | false =>
    rw [he] at h
    simp only [cond_false] at h
    split at h
    case h_2=>cases h
    rename_i S' hadd
    obtain ⟨fs,q1,q2⟩:=leaves_pack (AllV.append (argsI_okV hvs) (argsI_okV hus)) (h1.append h2)
    refine wp_value (hexec (cloV f vs.length (shOf (vs++us)) fs) ?_) (new_vo hs hd hadd (.inl ⟨f,_,_,rfl,rfl⟩) q1 (fun i hi => ?_) h)
    · unfold cloV
      rw [q2,take_left h1.1,drop_left h1.1,e1,e2]
    · rw [leavesOf_append,idsLs_append] at hi
      rcases List.mem_append.1 hi with hi | hi
      · exact argsI_ids hvs i hi
      · exact argsI_ids hus i hi
theorem s_makeInterface (hX : XOk P X) (hs : Sim X.K w0 nt S β fp a w) (hd : slot dst nt) {t : TypeId} {x : Operand} (h : ev X ⟨dst,.makeInterface t x,ty,pos,aft,gd⟩ S k=some r) : Goal P X w0 nt k r Q ⟨dst,.makeInterface t x,ty,pos,aft,gd⟩ a w:=by
  simp only [ev] at h
  split at h
  case h_3=>cases h
  case h_1 =>
    rename_i ht hv
    obtain ⟨vs,hvs,hlen,_⟩:=opdT_ok hs hv
    obtain ⟨_,fields,hu,_⟩:=hX.tk _ _ ht
    have hnil : vs=[]:=List.length_eq_zero_iff.1 hlen
    subst hnil
    have hval : fnV (some (IFZ+1+t)) = .iface t (.agg #[]):=by
      rw [fnV_ifc (Nat.ble_eq_true_of_le (Nat.le_add_right _ _)),Nat.add_sub_cancel_left]
    refine wp_value (v:=fnV (some (IFZ+1+t))) ?_ (next_put hs hd (v := .one (.fnc (some (IFZ+1+t)))) rfl h)
    have : (Instr.makeInterface t (a.eval x)).run P w = .ok (.iface t (a.eval x)) w:=by
      unfold Instr.makeInterface
      rw [Sem.run_bind,run_under hu]
      rfl
    rw [hvs] at this
    simp [execOp,hval,hvs,this]
  rename_i tk v _ ht hv
  obtain ⟨hb,h⟩:=cond_some h
  simp only [Bool.and_eq_true] at hb
  split at h
  case h_2=>cases h
  rename_i S' hadd
  have hsv : SVsOk X.K w S.objs β fp (stbOf S.objs fp w) [v] [a.eval x]:=⟨rfl,fun i v' hi=>by
    cases i with
    | zero=>simp at hi; subst hi; exact opdT_ok hs hv
    | succ i=>simp at hi⟩
  obtain ⟨fs,q1,q2⟩:=leaves_pack (vs:=[v]) (fun i v' hi=>by
    cases i with
    | zero=>simp at hi; subst hi; exact hb.2
    | succ i=>simp at hi) hsv
  have q1' : LfsOk X.K w S.objs β fp (stbOf S.objs fp w) v.leaves fs:=by simpa [leavesOf] using q1
  have hund : ∃ d,P.underlying t=some d ∧ ∀ ms,d ≠ .interface ms:=by
    have hT:=hX.tk _ _ ht
    cases tk with
    | one z =>
      obtain ⟨_,d,h1,h2⟩:=hT
      refine ⟨d,h1,fun ms e => ?_⟩
      subst e
      cases z with
      | nk n=>cases n with
        | ifc=>exact absurd hb.1 (by simp [notIfc])
        | map=>obtain ⟨_,_,h2⟩:=h2; cases h2
      | ptr=>obtain ⟨_,h2⟩:=h2; cases h2
      | fnc=>obtain ⟨_,_,_,h2⟩:=h2; cases h2
      | _=>cases h2
    | agg fs zs =>
      obtain ⟨_,f,h1,_⟩:=hT
      exact ⟨_,h1,fun ms e=>by cases e⟩
    | arr n sz ag zs =>
      obtain ⟨_,_,_,e,i,h1,_⟩:=hT
      exact ⟨_,h1,fun ms e=>by cases e⟩
  obtain ⟨d,hd1,hd2⟩:=hund
  refine wp_value (v:=ifcV t (shOf [v]) fs) ?_ (new_vo hs hd hadd (.inr ⟨t,_,rfl,rfl⟩) q1' (fun i hi=>opdT_ids hv (leaves_ids hi)) h)
  unfold ifcV
  rw [q2]
  have : (Instr.makeInterface t (a.eval x)).run P w = .ok (.iface t (a.eval x)) w:=by
    unfold Instr.makeInterface
    rw [Sem.run_bind,run_under hd1]
    simp only [Result.andThen_ok]
    cases d <;> first | rfl | exact absurd rfl (hd2 _)
  simp [execOp,this]

theorem s_callF (hC1 : ∀ f c,X.con f=some c→ConOk P X.K f c) (hC2 : ∀ f I,X.inl f=some I→InlOk P X.K f I) (hs : Sim X.K w0 nt S β fp a w) {o : Oper} (hd : slot o.dst nt) {f : FuncId} {pre post : List (SV C)} {pu qu : List Value} {as : List Operand} {ts : List TypeId}
    (h : callF X S f pre as ts post o k=some r) (hpre : SVsOk X.K w S.objs β fp (stbOf S.objs fp w) pre pu) (hpost : SVsOk X.K w S.objs β fp (stbOf S.objs fp w) post qu) (apre : AllV pre) (apost : AllV post)
    (hexec : ∀ fn, P.funcs[f]? = some fn → fn.body.isNone = false → fn.name ≠ "runtime.NumGoroutine" → (execOp a.eval o).run P w = .ok (.enter f (pu ++ (as.map a.eval ++ qu)).toArray) w) : Goal P X w0 nt k r Q o a w := by
  unfold callF at h
  split at h
  · rename_i c hc
    exact s_callC hs (hC1 f c hc) h hpre hpost hexec hd
  · exact s_callI hC2 hs hd h hpre hpost apre apost hexec
theorem AllV.take {vs : List (SV C)} (h : AllV vs) (n : Nat) : AllV (vs.take n):=fun i v hi=>h i v (by
  rw [List.getElem?_take] at hi
  split at hi
  · exact hi
  · cases hi)
theorem AllV.drop {vs : List (SV C)} (h : AllV vs) (n : Nat) : AllV (vs.drop n):=fun i v hi=>h (n+i) v (by rwa [List.getElem?_drop] at hi)
/-- The value of a function value. -/
theorem cloOf_ok (hs : Sim X.K w0 nt S β fp a w) {l : Lf C} {u : Value} (hl : LfOk X.K w S.objs β fp (stbOf S.objs fp w) l u) {kk : Nat→List (SV C)→List (SV C)→Option R} (h : cloOf S l kk=some r) :
    ∃ f pre post pu qu,kk f pre post=some r∧u = .func (.func f) pu.toArray qu.toArray∧SVsOk X.K w S.objs β fp (stbOf S.objs fp w) pre pu∧SVsOk X.K w S.objs β fp (stbOf S.objs fp w) post qu∧AllV pre∧AllV post:=by
  unfold cloOf at h
  split at h
  · rename_i f
    cases hf : Nat.ble IFZ f with
    | true=>rw [hf] at h; cases h
    | false =>
      rw [hf] at h
      exact ⟨_,_,_,[],[],h,(show u=_ from hl).trans (fnV_func hf),.nil,.nil,.nil,.nil⟩
  · rename_i id
    split at h
    · rename_i f n sh ls ho
      obtain ⟨hb,h⟩:=cond_some h
      obtain ⟨us,q1,q2⟩:=clo_ob hs ho
      have:=unSh_ok hb q2
      exact ⟨f,_,_,_,_,h,hl.2.trans q1,this.take n,this.drop n,AllV.take (fun i v hi=>unSh_okV i v hi) n,AllV.drop (fun i v hi=>unSh_okV i v hi) n⟩
    · cases h
  · cases h
theorem ifcOf_ok (hs : Sim X.K w0 nt S β fp a w) {x : Operand} {kk : TypeId→SV C→Option R} (h : ifcOf S (opd S x) kk=some r) :
    ∃ t v u,kk t v=some r∧a.eval x = .iface t u∧SVOk X.K w S.objs β fp (stbOf S.objs fp w) v u∧okV v=true:=by
  unfold ifcOf at h
  split at h
  case h_3=>cases h
  case h_2 =>
    rename_i f hx
    have hv : a.eval x=fnV (some f):=opd_ok hs hx
    obtain ⟨hf,h⟩:=cond_some h
    exact ⟨_,_,_,h,hv.trans (fnV_ifc hf),⟨[],rfl,rfl,fun i l hi=>by simp at hi⟩,rfl⟩
  rename_i id hx
  have hv:=opd_ok hs hx
  split at h
  · rename_i t sh ls ho
    obtain ⟨hb,h⟩:=cond_some h
    obtain ⟨us,q1,q2⟩:=ifc_ob hs ho
    have q3:=unSh_ok hb q2
    split at h
    · rename_i v hv1
      rw [hv1] at q3
      refine ⟨t,v,_,h,(show a.eval x=β id from hv.2).trans q1,?_,unSh_okV (sh:=sh) (ls:=ls) 0 v (by rw [hv1]; rfl)⟩
      have h2:=q3.2 0 v rfl
      have e : (packSh sh us).headD undef=(packSh sh us).getD 0 undef:=by cases packSh sh us <;> rfl
      rw [e]
      exact h2
    · cases h
  · cases h
theorem s_callT (hC1 : ∀ f c,X.con f=some c→ConOk P X.K f c) (hC2 : ∀ f I,X.inl f=some I→InlOk P X.K f I) (hs : Sim X.K w0 nt S β fp a w) (hd : slot dst nt) {t : Tmp} {as : Array Operand} {ts : Array TypeId}
    (h : ev X ⟨dst,.call { callee := .value (.tmp t),args:=as,argTypes:=ts },ty,pos,aft,gd⟩ S k=some r) : Goal P X w0 nt k r Q ⟨dst,.call { callee := .value (.tmp t),args:=as,argTypes:=ts },ty,pos,aft,gd⟩ a w:=by
  simp only [ev] at h
  split at h
  case h_2=>cases h
  rename_i l hl
  obtain ⟨f,pre,post,pu,qu,h,hu,q1,q2,q3,q4⟩:=cloOf_ok hs (show LfOk _ _ _ _ _ _ l (a.eval (.tmp t)) from hs.env t _ hl) h
  refine s_callF hC1 hC2 hs hd h q1 q2 q3 q4 fun fn hf1 hf2 hf3 => ?_
  have e : (pu++(as.toList.map a.eval++qu)).toArray=pu.toArray++as.map a.eval++qu.toArray:=by
    have : as.map a.eval=(as.toList.map a.eval).toArray:=by rw [← Array.toList_map,Array.toArray_toList]
    rw [this]; simp
  rw [e,← enter_run (us:=pu.toArray++as.map a.eval++qu.toArray) hf1 hf2 hf3]
  simp only [execOp,resolve,hu,Deferred.ofValue]
  simp [invoke]
theorem s_invoke (hX : XOk P X) (hC1 : ∀ f c,X.con f=some c→ConOk P X.K f c) (hC2 : ∀ f I,X.inl f=some I→InlOk P X.K f I) (hs : Sim X.K w0 nt S β fp a w) (hd : slot dst nt) {x : Operand} {name : String} {as : Array Operand} {ts : Array TypeId}
    (h : ev X ⟨dst,.call { callee := .invoke x name,args:=as,argTypes:=ts },ty,pos,aft,gd⟩ S k=some r) : Goal P X w0 nt k r Q ⟨dst,.call { callee := .invoke x name,args:=as,argTypes:=ts },ty,pos,aft,gd⟩ a w:=by
  simp only [ev] at h
  obtain ⟨t,v,u,h,hu,q1,q2⟩:=ifcOf_ok hs h
  split at h
  case h_2=>cases h
  rename_i f hm
  refine s_callF hC1 hC2 hs hd (pu:=[u]) (qu:=[]) h ⟨rfl,fun i v' hi => ?_⟩ .nil (fun i v' hi => ?_) .nil fun fn hf1 hf2 hf3 => ?_
  · cases i with
    | zero=>simp at hi; subst hi; exact q1
    | succ i=>simp at hi
  · cases i with
    | zero=>simp at hi; subst hi; exact q2
    | succ i=>simp at hi
  · have e : ([u]++(as.toList.map a.eval++[])).toArray = #[u]++as.map a.eval:=by
      have : as.map a.eval=(as.toList.map a.eval).toArray:=by rw [← Array.toList_map,Array.toArray_toList]
      rw [this]; simp
    have e2 : (#[Value.iface t u]++as.map a.eval).extract 1 (#[Value.iface t u]++as.map a.eval).size=as.map a.eval:=by
      apply Array.ext'
      simp
      exact List.take_of_length_le (by simp)
    have e3 : (#[Value.iface t u]++as.map a.eval)[0]? = some (Value.iface t u):=by rw [Array.getElem?_append]; rfl
    rw [e,← enter_run (us := #[u]++as.map a.eval) hf1 hf2 hf3]
    simp only [execOp,resolve,hu]
    simp only [Sem.run_bind,Sem.run_pure,Result.andThen_ok,invoke,e3,e2]
    simp only [callMethod,Sem.run_bind,run_program,Result.andThen_ok,hX.meth _ _ _ hm]
end
end Go.Proofs.Ytakakoogpmhhkaa.Ab

/- The abstract machine: maps. -/
set_option linter.unusedVariables false
set_option linter.unusedSimpArgs false
set_option linter.unusedSectionVars false
namespace Go.Proofs.Ytakakoogpmhhkaa.Ab
open Go Go.RowKit
open Go.ChangeMaps (setBlock)

section
variable {Ty : Type} [DecidableEq Ty] {C : Ty→Type}
variable {P : Program} {X : Cx C} {K : Cd C} {w0 w : World} {nt : Nat} {S : St C} {β : Nat→Value} {fp : Nat→Nat→Prop} {a : Act} {R : Type} {k : St C→Option R} {r : R}
variable {dst : Option Tmp} {ty : TypeId} {pos : String} {aft : Array Edge} {gd : Option (Nat×Bool)} {Q : Exit→Act→World→Prop} {objs : Objs C} {stb : Nat→Prop}

theorem lf_plainV {l : Lf C} {u : Value} (hp : l.plain=true) (hr : ∀ t xs,l ≠ .row t xs) : LfOk K w objs β fp stb l u↔u=plainV l:=by
  cases l with
  | row t xs=>exact absurd rfl (hr t xs)
  | int=>exact Iff.rfl
  | bool=>exact Iff.rfl
  | str=>exact Iff.rfl
  | fnc=>exact Iff.rfl
  | _=>cases hp
theorem flat_leaf {t : Ty} (hf : K.flat t=true) {x : C t} {l : Lf C} (hl : l ∈ K.enc t x) : l.plain=true ∧ ∀ t' ys,l ≠ .row t' ys :=
  ⟨K.enc_plain t x l hl,fun t' ys e=>K.enc_flat t hf x t' ys (e ▸ hl)⟩
theorem lfs_plain {t : Ty} (hf : K.flat t=true) {x : C t} {us : List Value} : LfsOk K w objs β fp stb (K.enc t x) us↔us=(K.enc t x).map plainV:=by
  constructor
  · intro h
    apply List.ext_getElem (by simp [h.1])
    intro i h1 h2
    have hi : i<(K.enc t x).length:=by simpa using h2
    have hm:=flat_leaf hf (x:=x) (List.getElem_mem hi)
    have:=(lf_plainV hm.1 hm.2).1 (h.2 i _ (List.getElem?_eq_getElem hi))
    simp only [List.getElem_map]
    rw [← this]
    simp [List.getD,h1]
  · rintro rfl
    refine ⟨by simp,fun i l hl => ?_⟩
    have hm:=flat_leaf hf (x:=x) (List.mem_of_getElem? hl)
    refine (lf_plainV hm.1 hm.2).2 ?_
    simp [List.getD,hl]
/-- A key,a value: as it is. -/
theorem sv_mkV {t : Ty} (hf : K.flat t=true) {x : C t} {v : SV C} {u : Value} {ag : Bool} (he : K.enc t x=v.leaves) (hok : okV v=true) (ha : aggV v=ag) (hv : SVOk K w objs β fp stb v u) : u=mkV ag ((K.enc t x).map plainV):=by
  subst ha
  cases v with
  | one l =>
    have h1 : LfsOk K w objs β fp stb (K.enc t x) [u]:=by
      rw [he]
      refine ⟨rfl,fun i l' hi => ?_⟩
      cases i with
      | zero=>simp [SV.leaves] at hi; subst hi; exact hv
      | succ i=>simp [SV.leaves] at hi
    rw [← (lfs_plain hf).1 h1]
    rfl
  | agg ls =>
    obtain ⟨us,rfl,h⟩:=hv
    have h1 : LfsOk K w objs β fp stb (K.enc t x) us:=by rw [he]; exact h
    rw [← (lfs_plain hf).1 h1]
    rfl
  | _=>cases hok
theorem mkEq_ok {a b : MK} (h : mkEq a b=true) : a=b:=by
  obtain ⟨a1,a2,a3,a4⟩:=a
  obtain ⟨b1,b2,b3,b4⟩:=b
  simp only [mkEq,Bool.and_eq_true,beq_iff_eq] at h
  obtain ⟨⟨⟨rfl,rfl⟩,rfl⟩,rfl⟩:=h
  rfl
/-- What a map's value and the key are. -/
theorem mapAt_ok (hs : Sim X.K w0 nt S β fp a w) {m : MT Ty} {T : TypeId} (hm : MFact P X.K T m) {l : Lf C} {key : SV C} {u uk : Value} {kk : (kt vt : Ty)→C kt→List (Nat×C kt×C vt)→Nat→Option R}
    (h : mapAt X S m l key kk=some r) (hl : LfOk X.K w S.objs β fp (stbOf S.objs fp w) l u) (hk : SVOk X.K w S.objs β fp (stbOf S.objs fp w) key uk) :
    ∃ x xs c,kk m.kt m.vt x xs c=some r∧uk=keyV X.K m.fl m.kt x∧((l = .nilv .map∧u = .map none∧xs=[]) ∨
      ∃ id b es,l = .vo id∧lk S.objs id=some (.map m.fl m.kt m.vt xs c)∧u = .map (some b)∧w.heap[b]? = some (.map es c)∧(∀ k,fp id k↔k=b)∧β id = .map (some b)∧es.toList=xs.map (entV X.K m.fl m.kt m.vt)):=by
  obtain ⟨ktid,etid,hM⟩:=hm
  unfold mapAt at h
  obtain ⟨hb,h⟩:=cond_some h
  simp only [Bool.and_eq_true,beq_iff_eq] at hb
  split at h
  · split at h
    · rename_i x hx
      exact ⟨x,[],0,h,sv_mkV hM.fk (X.K.enc_dec _ _ _ hx) hb.1 hb.2 hk,.inl ⟨rfl,hl,rfl⟩⟩
    · cases h
  · rename_i id _
    split at h
    · rename_i mk kt vt xs c ho
      obtain ⟨hq,h5⟩:=cond_some h
      clear h
      simp only [Bool.and_eq_true,decide_eq_true_eq] at hq
      obtain ⟨⟨e1,e2⟩,hq⟩:=hq
      have hq:=mkEq_ok hq
      subst e1 e2 hq
      split at h5
      · rename_i x hx
        obtain ⟨b,es,h1,h2,h3,h4⟩:=hs.objs id _ ho
        exact ⟨x,xs,c,h5,sv_mkV hM.fk (X.K.enc_dec _ _ _ hx) hb.1 hb.2 hk,.inr ⟨id,b,es,rfl,ho,hl.2.trans h1,h2,h3,h1,h4⟩⟩
      · cases h5
    · cases h
  · cases h

variable {fl : MK} {kt vt : Ty}
theorem mfind_get (x : C kt) : ∀ (xs : List (Nat×C kt×C vt)) (i : Nat),(mget K kt vt x xs=none∧mfind K fl kt vt x xs i=none) ∨ ∃ e j,mget K kt vt x xs=some e∧mfind K fl kt vt x xs i=some (j,valV K fl vt e.2.2)
  | [],i => .inl ⟨rfl,rfl⟩
  | e::r,i=>by
    simp only [mget,mfind]
    cases h : keysEq (K.enc kt e.2.1) (K.enc kt x) with
    | true=>exact .inr ⟨e,i,rfl,rfl⟩
    | false=>exact mfind_get x r (i+1)
theorem mput_none (x : C kt) (y : C vt) (c : Nat) : ∀ (xs : List (Nat×C kt×C vt)) (i : Nat),mfind K fl kt vt x xs i=none→mput K kt vt x y c xs=xs++[(c,x,y)]
  | [],i,h=>rfl
  | e::r,i,h=>by
    simp only [mfind] at h
    simp only [mput]
    cases hk : keysEq (K.enc kt e.2.1) (K.enc kt x) with
    | true=>rw [hk] at h; cases h
    | false=>rw [hk] at h; simp only [cond_false,List.cons_append,mput_none x y c r (i+1) h]
theorem mput_some (x : C kt) (y : C vt) (c : Nat) : ∀ (xs : List (Nat×C kt×C vt)) (i j : Nat) (v : Value),mfind K fl kt vt x xs i=some (j,v) →
    i≤j∧(∃ e,xs[j - i]? = some e∧keysEq (K.enc kt e.2.1) (K.enc kt x)=true)∧(xs.map (entV K fl kt vt)).modify (j - i) (fun e=>{ e with key:=keyV K fl kt x,val:=valV K fl vt y })=(mput K kt vt x y c xs).map (entV K fl kt vt)
  | [],i,j,v,h=>by cases h
  | e::r,i,j,v,h=>by
    simp only [mfind] at h
    simp only [mput]
    cases hk : keysEq (K.enc kt e.2.1) (K.enc kt x) with
    | true =>
      rw [hk] at h
      cases h
      refine ⟨Nat.le_refl _,⟨e,by simp,hk⟩,?_⟩
      simp [entV]
    | false =>
      rw [hk] at h
      obtain ⟨h1,⟨e',h2,h3⟩,h4⟩:=mput_some x y c r (i+1) j v h
      have e1 : j - i=(j - (i+1))+1:=by omega
      refine ⟨by omega,⟨e',by rw [e1]; simpa using h2,h3⟩,?_⟩
      rw [e1]
      simp only [List.map_cons,List.modify_succ_cons,cond_false,h4]
theorem mdel_some (x : C kt) : ∀ (xs : List (Nat×C kt×C vt)) (i j : Nat) (v : Value),mfind K fl kt vt x xs i=some (j,v)→i≤j∧j - i<xs.length∧(xs.map (entV K fl kt vt)).eraseIdx (j - i)=(mdel K kt vt x xs).map (entV K fl kt vt)
  | [],i,j,v,h=>by cases h
  | e::r,i,j,v,h=>by
    simp only [mfind] at h
    simp only [mdel]
    cases hk : keysEq (K.enc kt e.2.1) (K.enc kt x) with
    | true =>
      rw [hk] at h
      cases h
      refine ⟨Nat.le_refl _,by simp,by simp⟩
    | false =>
      rw [hk] at h
      obtain ⟨h1,h2,h4⟩:=mdel_some x r (i+1) j v h
      have e1 : j - i=(j - (i+1))+1:=by omega
      refine ⟨by omega,by rw [e1]; simpa using h2,?_⟩
      rw [e1]
      simp only [List.map_cons,List.eraseIdx_cons_succ,cond_false,h4]
theorem mdel_none (x : C kt) : ∀ (xs : List (Nat×C kt×C vt)) (i : Nat),mfind K fl kt vt x xs i=none→mdel K kt vt x xs=xs
  | [],i,h=>rfl
  | e::r,i,h=>by
    simp only [mfind] at h
    simp only [mdel]
    cases hk : keysEq (K.enc kt e.2.1) (K.enc kt x) with
    | true=>rw [hk] at h; cases h
    | false=>rw [hk] at h; simp only [cond_false,mdel_none x r (i+1) h]
theorem mbr_ok {yes : C vt→Option R} {no : Option R} (x : C kt) : ∀ {xs : List (Nat×C kt×C vt)},mbr K kt vt x yes no xs=some r→(∃ e,mget K kt vt x xs=some e∧yes e.2.2=some r)∨(mget K kt vt x xs=none∧no=some r)
  | [],h => .inr ⟨rfl,h⟩
  | e::xs,h=>by
    simp only [mbr] at h
    simp only [mget]
    cases hk : keysEq (K.enc kt e.2.1) (K.enc kt x) with
    | true=>rw [hk] at h; exact .inl ⟨e,rfl,h⟩
    | false=>rw [hk] at h; exact mbr_ok x h

/-- A look-up's run. -/
theorem look_run {T : TypeId} {m : MT Ty} {ktid etid : TypeId} (hM : MFact0 P K T m ktid etid) {u : Value} {x : C m.kt} {xs : List (Nat×C m.kt×C m.vt)} {c : Nat}
    (hu : (u = .map none∧xs=[]) ∨ ∃ b es,u = .map (some b)∧w.heap[b]? = some (.map es c)∧es.toList=xs.map (entV K m.fl m.kt m.vt)) (ok : Bool) :
    (Instr.lookup T u (keyV K m.fl m.kt x) ok).run P w = .ok (cond ok (.tuple #[valV K m.fl m.vt (mval K m.kt m.vt x xs),.bool (mhas K m.kt m.vt x xs)]) (valV K m.fl m.vt (mval K m.kt m.vt x xs))) w:=by
  have key : ∀ es : Array MapEntry,es.toList=xs.map (entV K m.fl m.kt m.vt)→((do
      Instr.checkKey es.isEmpty 10000 ktid (keyV K m.fl m.kt x)
      let (v,ok') ← match ← Instr.findKey ktid (keyV K m.fl m.kt x) es.toList with
        | some (_,v)=>pure (v,true)
        | none=>pure (← zeroValue etid,false)
      pure (if ok then .tuple #[v,.bool ok'] else v) : Sem Value)).run P w = .ok (cond ok (.tuple #[valV K m.fl m.vt (mval K m.kt m.vt x xs),.bool (mhas K m.kt m.vt x xs)]) (valV K m.fl m.vt (mval K m.kt m.vt x xs))) w:=by
    intro es he
    rw [he]
    simp only [Sem.run_bind,hM.chk,Result.andThen_ok,hM.find]
    rcases mfind_get (K:=K) (fl:=m.fl) x xs 0 with ⟨h1,h2⟩ | ⟨e,j,h1,h2⟩
    · rw [h2]
      simp only [Sem.run_bind,hM.zero,Result.andThen_ok,Sem.run_pure,mval,mhas,h1]
      cases ok <;> rfl
    · rw [h2]
      simp only [Sem.run_pure,Result.andThen_ok,mval,mhas,h1]
      cases ok <;> rfl
  unfold Instr.lookup
  simp only [Sem.run_bind,run_under hM.und,Result.andThen_ok]
  rcases hu with ⟨rfl,rfl⟩ | ⟨b,es,rfl,hb,he⟩
  · have:=key #[] rfl
    have hp : (pure #[] : Sem (Array MapEntry)).run P w = .ok #[] w:=rfl
    simp only [Sem.run_bind] at this ⊢
    rw [hp]
    exact this
  · have hg : (getObj b).run P w = .ok (.map es c) w:=by simp [getObj,Sem.run,hb]
    have:=key es he
    simp only [Sem.run_bind] at this
    have hp : (pure es : Sem (Array MapEntry)).run P w = .ok es w:=rfl
    simp only [Sem.run_bind,hg,Result.andThen_ok]
    rw [hp]
    exact this
theorem mvalT_ok {T : TypeId} {m : MT Ty} {ktid etid : TypeId} (hM : MFact0 P X.K T m ktid etid) (y : C m.vt) : TupOk X.K w objs β fp stb (mvalT X m.fl m.vt y) (valV X.K m.fl m.vt y):=by
  have h1:=hM.vone
  have h2:=(lfs_plain (K:=X.K) (w:=w) (objs:=objs) (β:=β) (fp:=fp) (stb:=stb) hM.fv (x:=y)).2 rfl
  have h3:=X.K.enc_len m.vt y
  unfold mvalT valV mkV
  cases hu : m.fl.un with
  | true=>exact ⟨[],rfl,rfl,fun i l h=>by simp at h⟩
  | false =>
    simp only [cond_false]
    cases hv : m.fl.vag with
    | true=>exact ⟨_,rfl,h2⟩
    | false =>
      rw [h1 hv hu] at h3
      obtain ⟨l,hl⟩:=List.length_eq_one_iff.1 h3
      rw [hl] at h2 ⊢
      exact ⟨l,rfl,h2.2 0 l rfl⟩
theorem unTup0_ok {x : Bool×List (Lf C)} {v : Value} (h : TupOk K w objs β fp stb x v) : SVOk K w objs β fp stb (unTup0 x) v:=by
  obtain ⟨b,ls⟩:=x
  cases b with
  | false=>obtain ⟨l,h1,h2⟩:=h; have h1 : ls=[l]:=h1; subst h1; exact h2
  | true=>exact h
theorem tup_bool (b : Bool) : TupOk K w objs β fp stb (false,[.bool b]) (.bool b):=⟨.bool b,rfl,rfl⟩
theorem tup2_ok {x y : Bool×List (Lf C)} {u v : Value} (h : TupOk K w objs β fp stb x u) (h' : TupOk K w objs β fp stb y v) : SVOk K w objs β fp stb (.tup [x,y]) (.tuple #[u,v]):=by
  refine ⟨[u,v],rfl,rfl,fun i z hz => ?_⟩
  match i with
  | 0=>simp at hz; subst hz; exact h
  | 1=>simp at hz; subst hz; exact h'
  | i+2=>simp at hz
theorem s_lookup (hX : XOk P X) (hs : Sim X.K w0 nt S β fp a w) (hd : slot dst nt) {t : TypeId} {x i : Operand} {ok : Bool} (h : ev X ⟨dst,.lookup t x i ok,ty,pos,aft,gd⟩ S k=some r) : Goal P X w0 nt k r Q ⟨dst,.lookup t x i ok,ty,pos,aft,gd⟩ a w:=by
  simp only [ev] at h
  split at h
  case h_2=>cases h
  rename_i m l key hm hx hi
  obtain ⟨ktid,etid,hM⟩:=hX.mp _ _ hm
  have hexec : ∀ v,(Instr.lookup t (a.eval x) (a.eval i) ok).run P w = .ok v w→(execOp a.eval ⟨dst,.lookup t x i ok,ty,pos,aft,gd⟩).run P w = .ok (.value v) w:=fun v hv=>by
    simp [execOp,hv]
  have hx' := opd_ok hs hx
  have hi' := opd_ok hs hi
  cases hbr : m.fl.br with
  | false =>
    rw [hbr] at h
    simp only [cond_false,lookV] at h
    obtain ⟨kx,xs,c,h,hk,hu⟩:=mapAt_ok hs (hX.mp _ _ hm) h hx' hi'
    have hrun:=look_run (w:=w) hM (u:=a.eval x) (x:=kx) (xs:=xs) (c:=c) (hu.imp (fun h=>h.2) fun ⟨_,b,es,_,_,q1,q2,_,_,q3⟩=>⟨b,es,q1,q2,q3⟩) ok
    rw [← hk] at hrun
    cases ok with
    | true=>exact wp_value (hexec _ hrun) (next_put hs hd (tup2_ok (mvalT_ok hM _) (tup_bool _)) h)
    | false=>exact wp_value (hexec _ hrun) (next_put hs hd (unTup0_ok (mvalT_ok hM _)) h)
  | true =>
    rw [hbr] at h
    simp only [cond_true,lookB] at h
    obtain ⟨kx,xs,c,h,hk,hu⟩:=mapAt_ok hs (hX.mp _ _ hm) h hx' hi'
    have hrun:=look_run (w:=w) hM (u:=a.eval x) (x:=kx) (xs:=xs) (c:=c) (hu.imp (fun h=>h.2) fun ⟨_,b,es,_,_,q1,q2,_,_,q3⟩=>⟨b,es,q1,q2,q3⟩) ok
    rw [← hk] at hrun
    cases ok with
    | true =>
      simp only [cond_true] at h
      rcases mbr_ok kx h with ⟨e,h1,h⟩ | ⟨h1,h⟩
      · simp only [mval,mhas,h1] at hrun
        exact wp_value (hexec _ hrun) (next_put hs hd (tup2_ok (mvalT_ok hM _) (tup_bool _)) h)
      · simp only [mval,mhas,h1] at hrun
        exact wp_value (hexec _ hrun) (next_put hs hd (tup2_ok (mvalT_ok hM _) (tup_bool _)) h)
    | false =>
      simp only [cond_false] at h
      rcases mbr_ok kx h with ⟨e,h1,h⟩ | ⟨h1,h⟩
      · simp only [mval,mhas,h1] at hrun
        exact wp_value (hexec _ hrun) (next_put hs hd (unTup0_ok (mvalT_ok hM _)) h)
      · simp only [mval,mhas,h1] at hrun
        exact wp_value (hexec _ hrun) (next_put hs hd (unTup0_ok (mvalT_ok hM _)) h)

theorem s_makeMap (hs : Sim X.K w0 nt S β fp a w) (hd : slot dst nt) {t : TypeId} {n : Option Operand} (h : ev X ⟨dst,.makeMap t n,ty,pos,aft,gd⟩ S k=some r) : Goal P X w0 nt k r Q ⟨dst,.makeMap t n,ty,pos,aft,gd⟩ a w:=by
  simp only [ev] at h
  split at h
  case h_2=>cases h
  rename_i m hm
  split at h
  case h_2=>cases h
  rename_i S' hadd
  obtain ⟨hn,rfl⟩:=add_some hadd
  have hw : Below w.heap.size w (w.alloc (.map #[] 0)):=(Below.refl _ _).alloc (Nat.le_refl _) _
  have h2:=hs.addNew hw hn (ob := .map m.fl m.kt m.vt [] 0) (hv := .map (some w.heap.size)) (F:=fun k=>k=w.heap.size) (fun k hk=>⟨by omega,by rw [hk]; simp⟩)
    ⟨w.heap.size,#[],rfl,heap_alloc_new w _,fun k=>Iff.rfl,rfl⟩
  refine wp_value (v := .map (some w.heap.size)) (w' := w.alloc (.map #[] 0)) ?_ (next_put h2 hd (v := .one (.vo _)) ⟨rfl,(upd_same _ _ _).symm⟩ h)
  simp [execOp,Instr.makeMap,newObj]
  rfl

theorem hset {w : World} {r : Nat} {o o' : Obj} (hb : w.heap[r]? = some o) : (setBlock w r o').heap[r]? = some o' ∧ ∀ r',r' ≠ r→(setBlock w r o').heap[r']? = w.heap[r']? := by
  have hlt : r<w.heap.size:=(Array.getElem?_eq_some_iff.1 hb).1
  exact ⟨by simp [setBlock,hlt],fun r' hne=>by simp [setBlock,Ne.symm hne]⟩
/-- A map is turned. -/
theorem turn_map (hs : Sim X.K w0 nt S β fp a w) {id b : Nat} {es es' : Array MapEntry} {c c' : Nat} {fl : MK} {kt vt : Ty} {xs xs' : List (Nat×C kt×C vt)} (ho : lk S.objs id=some (.map fl kt vt xs c))
    (hb : w.heap[b]? = some (.map es c)) (hf : ∀ k,fp id k↔k=b) (hβ : β id = .map (some b)) (he : es'.toList=xs'.map (entV X.K fl kt vt)) :
    Sim X.K w0 nt (S.setObj id (.map fl kt vt xs' c')) β fp a (setBlock w b (.map es' c')):=by
  have hbl : w0.heap.size≤b:=(hs.fresh id _ b ho ((hf b).2 rfl)).1
  have hother : ∀ k,k≠b→(setBlock w b (.map es' c')).heap[k]? = w.heap[k]? := fun k hk=>(hset hb).2 k hk
  refine hs.turn ho (fun _ _ _ e=>by cases e) ⟨rfl,rfl,rfl,by simp [setBlock],fun k hk=>hother k (by omega)⟩ (fun k hk=>hother k fun e=>hk ((hf k).2 e)) ?_
  exact ⟨b,es',hβ,(hset hb).1,hf,he⟩
theorem set_run {b : Nat} {es : Array MapEntry} {c : Nat} (hb : w.heap[b]? = some (.map es c)) (o : Obj) : (setObj b o).run P w = .ok () (setBlock w b o):=by
  simp [setObj,Sem.run,hb,setBlock]
theorem get_run {b : Nat} {es : Array MapEntry} {c : Nat} (hb : w.heap[b]? = some (.map es c)) : (getObj b).run P w = .ok (.map es c) w:=by
  simp [getObj,Sem.run,hb]
theorem upd_run {T : TypeId} {m : MT Ty} {ktid etid : TypeId} (hM : MFact0 P K T m ktid etid) {b : Nat} {es : Array MapEntry} {c : Nat} {x : C m.kt} {y : C m.vt} {xs : List (Nat×C m.kt×C m.vt)} (hb : w.heap[b]? = some (.map es c)) (he : es.toList=xs.map (entV K m.fl m.kt m.vt)) :
    ∃ es',es'.toList=(mput K m.kt m.vt x y c xs).map (entV K m.fl m.kt m.vt) ∧
      (Instr.mapUpdate T (.map (some b)) (keyV K m.fl m.kt x) (valV K m.fl m.vt y)).run P w = .ok () (setBlock w b (.map es' (mclk K m.kt m.vt x c xs))):=by
  unfold Instr.mapUpdate
  simp only [Sem.run_bind,run_under hM.und,Result.andThen_ok,get_run hb,hM.chk]
  rw [he]
  simp only [hM.find,Result.andThen_ok]
  rcases mfind_get (K:=K) (fl:=m.fl) x xs 0 with ⟨h1,h2⟩ | ⟨e,j,h1,h2⟩
  · rw [h2]
    refine ⟨es.push { key:=keyV K m.fl m.kt x,val:=valV K m.fl m.vt y,born:=c },?_,?_⟩
    · rw [mput_none x y c xs 0 h2]
      simp [he,entV]
    · simp only [set_run hb,mclk,mhas,h1]
      rfl
  · rw [h2]
    obtain ⟨_,⟨e',h3,h4⟩,h5⟩:=mput_some x y c xs 0 j _ h2
    simp only [Nat.sub_zero] at h3 h5
    refine ⟨es.modify j fun e=>{ e with key:=keyV K m.fl m.kt x,val:=valV K m.fl m.vt y },?_,?_⟩
    · rw [← h5,← he]
      simp [Array.toList_modify]
    · have hold : ((es[j]?).map (·.key)).getD (keyV K m.fl m.kt x)=keyV K m.fl m.kt e'.2.1:=by
        have : es[j]? = some (entV K m.fl m.kt m.vt e'):=by
          rw [← Array.getElem?_toList,he,List.getElem?_map,h3]; rfl
        rw [this]; rfl
      dsimp only
      rw [hold]
      obtain ⟨_,h7⟩:=hM.bits x e'.2.1 h4
      have hk : (Instr.keyThatStays (keyV K m.fl m.kt e'.2.1) (keyV K m.fl m.kt x)).run P w = .ok (keyV K m.fl m.kt x) w:=by
        unfold Instr.keyThatStays
        rw [if_pos h7]
        rfl
      simp only [Sem.run_bind,hk,Result.andThen_ok,set_run hb,mclk,mhas,h1]
      rfl
theorem del_run {T k' ty' : TypeId} {m : MT Ty} {ktid etid : TypeId} (hM : MFact0 P K T m ktid etid) {b : Nat} {es : Array MapEntry} {c : Nat} {x : C m.kt} {xs : List (Nat×C m.kt×C m.vt)} (hb : w.heap[b]? = some (.map es c)) (he : es.toList=xs.map (entV K m.fl m.kt m.vt)) :
    ∃ es',es'.toList=(mdel K m.kt m.vt x xs).map (entV K m.fl m.kt m.vt) ∧
      (Builtin.delete_ #[T,k'] ty' #[.map (some b),keyV K m.fl m.kt x]).run P w = .ok (.tuple #[]) (setBlock w b (.map es' c)):=by
  have hrun : (Builtin.delete_ #[T,k'] ty' #[.map (some b),keyV K m.fl m.kt x]).run P w=(match mfind K m.fl m.kt m.vt x xs 0 with
      | some (i,_) => .ok (.tuple #[]) (setBlock w b (.map (es.eraseIdxIfInBounds i) c))
      | none => .ok (.tuple #[]) (setBlock w b (.map es c))):=by
    simp only [Builtin.delete_]
    simp only [List.getElem?_toArray,List.getElem?_cons_zero,List.getElem?_cons_succ,Sem.run_bind,run_under hM.und,Result.andThen_ok,get_run hb,hM.chk]
    rw [he]
    simp only [hM.find,Result.andThen_ok]
    cases mfind K m.fl m.kt m.vt x xs 0 with
    | none=>simp only [Sem.run_bind,set_run hb,Result.andThen_ok]; rfl
    | some p=>simp only [Sem.run_bind,set_run hb,Result.andThen_ok]; rfl
  cases hf : mfind K m.fl m.kt m.vt x xs 0 with
  | none =>
    rw [hf] at hrun
    exact ⟨es,by rw [mdel_none x xs 0 hf,he],hrun⟩
  | some p =>
    obtain ⟨j,v⟩:=p
    rw [hf] at hrun
    obtain ⟨_,h1,h2⟩:=mdel_some x xs 0 j v hf
    refine ⟨_,?_,hrun⟩
    have hlt : j<es.size:=by
      have : es.toList.length=xs.length:=by rw [he]; simp
      simp at this
      omega
    simp only [Nat.sub_zero] at h2
    rw [← h2,← he]
    simp [Array.eraseIdxIfInBounds,hlt]
theorem upd1_sound (hX : XOk P X) (hs : Sim X.K w0 nt S β fp a w) {t : TypeId} {x i y : Operand} {m : MT Ty} {l : Lf C} {key v : SV C} (hm : X.mp t=some m) (hx : opd S x=some (.one l)) (hi : opd S i=some key) (hy : opdT X S (X.K.tid m.vt) y=some v)
    {k' : St C→Option R} (h : upd1 X S m l key v k' = some r) : ∃ S' w',k' S' = some r∧Sim X.K w0 nt S' β fp a w' ∧ (Instr.mapUpdate t (a.eval x) (a.eval i) (a.eval y)).run P w = .ok () w' := by
  obtain ⟨ktid,etid,hM⟩:=hX.mp _ _ hm
  unfold upd1 at h
  split at h
  case h_2=>cases h
  rename_i id
  obtain ⟨kx,xs,c,h,hk,hu⟩:=mapAt_ok hs (hX.mp _ _ hm) h (opd_ok hs hx) (opd_ok hs hi)
  obtain ⟨hb0,h⟩:=cond_some h
  simp only [Bool.and_eq_true,beq_iff_eq] at hb0
  split at h
  case h_2=>cases h
  rename_i vy hvy
  rcases hu with ⟨q1,q2⟩ | ⟨id',b,es,e,ho,q1,q2,q3,q4,q5⟩
  · cases q1
  · cases e
    have hval : a.eval y=valV X.K m.fl m.vt vy:=by
      have hv:=opdT_ok hs hy
      unfold valV
      cases hun : m.fl.un with
      | true =>
        rw [hun] at hb0
        cases v with
        | agg ls =>
          obtain ⟨us,e,h3⟩:=hv
          have hls : ls=[]:=by simpa [SV.leaves] using hb0.2
          subst hls
          obtain rfl : us=[]:=by have:=h3.1; simpa using this
          exact e
        | _=>simp [aggV] at hb0
      | false =>
        rw [hun] at hvy hb0
        exact sv_mkV hM.fv (X.K.enc_dec _ _ _ hvy) hb0.1.1 (by simpa using hb0.1.2) hv
    obtain ⟨es',h5,h6⟩:=upd_run hM (x:=kx) (y:=vy) q2 q5
    refine ⟨_,_,h,turn_map hs ho q2 q3 q4 h5,?_⟩
    rw [q1,hk,hval]
    exact h6
theorem s_mapUpdate (hX : XOk P X) (hs : Sim X.K w0 nt S β fp a w) {t : TypeId} {x i y : Operand} (h : ev X ⟨dst,.mapUpdate t x i y,ty,pos,aft,gd⟩ S k=some r) : Goal P X w0 nt k r Q ⟨dst,.mapUpdate t x i y,ty,pos,aft,gd⟩ a w:=by
  simp only [ev] at h
  split at h
  case h_2=>cases h
  rename_i m l key hm hx hi
  split at h
  case h_2=>cases h
  rename_i v hy
  obtain ⟨S',w',h1,h2,h3⟩:=upd1_sound hX hs hm hx hi hy h
  exact wp_skip (by simp [execOp,h3]) ⟨_,⟨_,_,h2.drop dst undef⟩,h1⟩
theorem s_insert (hX : XOk P X) (hs : Sim X.K w0 nt S β fp a w) {t : TypeId} {x i y : Operand} (h : ev X ⟨dst,.insert t x i y,ty,pos,aft,gd⟩ S k=some r) : Goal P X w0 nt k r Q ⟨dst,.insert t x i y,ty,pos,aft,gd⟩ a w:=by
  simp only [ev] at h
  split at h
  case h_2=>cases h
  rename_i m l key hm hx hi
  split at h
  case h_2=>cases h
  rename_i v hy
  obtain ⟨S',w',h1,h2,h3⟩:=upd1_sound hX hs hm hx hi hy h
  exact wp_skip (by simp [execOp,h3]) ⟨_,⟨_,_,h2.drop dst undef⟩,h1⟩
theorem s_delete (hX : XOk P X) (hs : Sim X.K w0 nt S β fp a w) {as : Array Operand} {ts : Array TypeId} (h : ev X ⟨dst,.call { callee := .builtin .delete,args:=as,argTypes:=ts },ty,pos,aft,gd⟩ S k=some r) : Goal P X w0 nt k r Q ⟨dst,.call { callee := .builtin .delete,args:=as,argTypes:=ts },ty,pos,aft,gd⟩ a w:=by
  obtain ⟨al⟩:=as
  obtain ⟨tl⟩:=ts
  simp only [ev] at h
  split at h
  case h_2=>cases h
  rename_i m x t t'
  split at h
  case h_2=>cases h
  rename_i mt l key hm hx hi
  obtain ⟨ktid,etid,hM⟩:=hX.mp _ _ hm
  unfold del1 at h
  split at h
  case h_2=>cases h
  rename_i id _
  obtain ⟨kx,xs,c,h,hk,hu⟩:=mapAt_ok hs (hX.mp _ _ hm) h (opd_ok hs hx) (opdT_ok hs hi)
  rcases hu with ⟨q1,q2⟩ | ⟨id',b,es,e,ho,q1,q2,q3,q4,q5⟩
  · cases q1
  · cases e
    obtain ⟨es',h5,h6⟩:=del_run (k' := t') (ty' := ty) hM (x:=kx) q2 q5
    refine wp_value (v := .tuple #[]) (w' := setBlock w b (.map es' c)) ?_ ⟨_,⟨_,_,(turn_map hs ho q2 q3 q4 h5).drop dst _⟩,h⟩
    have e : #[m,x].map a.eval = #[Value.map (some b),keyV X.K mt.fl mt.kt kx]:=by
      simp [q1,hk]
    simp only [execOp,resolve]
    simp only [Sem.run_bind,Sem.run_pure,Result.andThen_ok,invoke,builtin,e,h6]
end
end Go.Proofs.Ytakakoogpmhhkaa.Ab

/- The abstract machine,part 18: an operation,the operations of a region. -/
set_option linter.unusedVariables false
set_option linter.unusedSimpArgs false
set_option linter.unusedSectionVars false
namespace Go.Proofs.Ytakakoogpmhhkaa.Ab
open Go Go.RowKit

section
variable {Ty : Type} [DecidableEq Ty] {C : Ty→Type}
variable {P : Program} {X : Cx C} {w0 w : World} {nt : Nat} {S : St C} {β : Nat→Value} {fp : Nat→Nat→Prop} {a : Act} {R : Type} {k : St C→Option R} {r : R}
variable {Q : Exit→Act→World→Prop}

abbrev Cons (P : Program) (X : Cx C) : Prop:=(∀ f c,X.con f=some c→ConOk P X.K f c)∧(∀ f c,X.conw f=some c→ConWOk P X.K f c) ∧ ∀ f I,X.inl f=some I→InlOk P X.K f I

theorem ev_sound (hX : XOk P X) (hC : Cons P X) (hs : Sim X.K w0 nt S β fp a w) {o : Oper} (hd : slot o.dst nt) (h : ev X o S k=some r) : Goal P X w0 nt k r Q o a w:=by
  obtain ⟨dst,op,ty,pos,aft,gd⟩:=o
  cases op with
  | move x=>exact s_move hs hd h
  | assign x=>exact s_assign hs hd h
  | pick c x y=>exact s_pick hs hd h
  | alloc e=>exact s_alloc hX hs hd h
  | box e v=>exact s_box hs hd h
  | build t ps=>exact s_build hX hs hd h
  | buildSlice t n ps=>exact s_buildSlice hX hs hd h
  | load t x=>exact s_load hX hs hd h
  | store t x v=>exact s_store hX hs h
  | nilCheck x=>exact s_nilCheck hs hd h
  | binOp op t x y t' => exact s_binOp hX hs hd h
  | unOp op t x=>exact s_unOp hs hd h
  | convert t t' x=>exact s_convert hX hs hd h
  | makeSlice t n c=>exact s_makeSlice hX hs hd h
  | slice t x lo hi mx=>exact s_slice hX hs hd h fun t1 id hm ht hx h=>s_sliceO hX hs hd hm ht hx h
  | fieldAddr t x f=>exact s_fieldAddr hX hs hd h
  | field t x f=>exact s_field hX hs hd h
  | indexAddr t x i=>exact s_indexAddr hX hs hd h
  | index t x i=>exact s_index hX hs hd h
  | extract x i=>exact s_extract hs hd h
  | call c =>
    obtain ⟨cal,as,ts⟩:=c
    cases cal with
    | builtin b=>cases b with
      | len=>exact s_len hX hs hd h
      | append=>exact s_append hX hs hd h
      | min=>exact s_min hs hd h
      | max=>exact s_max hs hd h
      | delete=>exact s_delete hX hs h
      | clear=>exact s_clear hX hs h
      | copy=>exact s_copy hX hs hd h
      | _=>exact absurd h (by simp [ev])
    | value f=>cases f with
      | func f=>exact s_call hX hC.1 hs hd h (fun o ho h=>by
        split at h
        · exact s_callW hC.2.1 hs hd ho h
        · unfold callN at h
          split at h
          · rename_i t he
            subst ho
            refine s_ins hX hs he h hd fun fn hf1 hf2 hf3 => ?_
            have e : (as.toList.map a.eval).toArray=as.map a.eval:=by rw [← Array.toList_map,Array.toArray_toList]
            rw [e,← enter_run (us:=as.map a.eval) hf1 hf2 hf3]
            simp [execOp,resolve,Deferred.ofValue,invoke,Act.eval]
          rename_i hin
          split at h
          · rename_i e he
            subst ho
            exact s_ext hX hs he hin (by rw [callN,hin,he]; exact h) hd rfl
          subst ho
          refine s_callI hC.2.2 hs hd h .nil .nil .nil .nil fun fn hf1 hf2 hf3 => ?_
          have e : ([]++(as.toList.map a.eval++[]) : List Value).toArray=as.map a.eval:=by rw [List.nil_append,List.append_nil,← Array.toList_map,Array.toArray_toList]
          rw [e,← enter_run (us:=as.map a.eval) hf1 hf2 hf3]
          simp [execOp,resolve,Deferred.ofValue,invoke,Act.eval])
      | tmp t=>exact s_callT hC.1 hC.2.2 hs hd h
      | _=>exact absurd h (by simp [ev])
    | invoke x name=>exact s_invoke hX hC.1 hC.2.2 hs hd h
  | makeFunc fn first captured=>exact s_makeFunc hs hd h
  | makeInterface t x=>exact s_makeInterface hX hs hd h
  | makeMap t n=>exact s_makeMap hs hd h
  | lookup t x i ok=>exact s_lookup hX hs hd h
  | mapUpdate t x i y=>exact s_mapUpdate hX hs h
  | insert t x i y=>exact s_insert hX hs h
  | _=>exact absurd h (by simp [ev])

theorem yield_ok (hs : Sim X.K w0 nt S β fp a w) {all : Array Oper} {j : Nat} {d : Tmp} {b : Bool} (hj : (all[j]?).bind (·.dst)=some d) (hd : d<nt) (hv : lk S.env d=some (.one (.bool b))) :
    yielded all a.tmps j=some b:=by
  have h : a.tmps.getD d undef = .bool b:=hs.env d _ hv
  have hsz : d<a.tmps.size:=by rw [hs.size]; exact hd
  unfold yielded
  rw [hj]
  simp only [Option.bind_some]
  have : a.tmps[d]? = some (.bool b):=by
    rw [Array.getD_eq_getD_getElem?] at h
    rw [Array.getElem?_eq_getElem hsz] at h ⊢
    exact congrArg some (by simpa using h)
  rw [this]

theorem yield_und (hs : Sim X.K w0 nt S β fp a w) {all : Array Oper} {j : Nat} {d : Tmp} (hj : (all[j]?).bind (·.dst)=some d) (hv : lk S.env d=some .und) :
    yielded all a.tmps j=none:=by
  have h : a.tmps.getD d undef=undef:=hs.env d _ hv
  unfold yielded
  rw [hj]
  simp only [Option.bind_some]
  split
  · rename_i b hb
    rw [Array.getD_eq_getD_getElem?,hb] at h
    cases h
  · rfl

theorem put_same {a : Act} {d : Tmp} {v : Value} (hd : d<a.tmps.size) (h : a.tmps.getD d undef=v) : a.put (some d) v=a:=by
  obtain ⟨t,df⟩:=a
  simp only [Act.put]
  congr 1
  apply Array.ext_getElem?
  intro i
  rw [Array.getElem?_setIfInBounds]
  by_cases e : d=i
  · subst e
    have hd' : d<t.size:=hd
    have h' : t.getD d undef=v:=h
    rw [Array.getD_eq_getD_getElem?,Array.getElem?_eq_getElem hd'] at h'
    rw [if_pos rfl,if_pos hd',Array.getElem?_eq_getElem hd']
    exact congrArg some h'.symm
  · rw [if_neg e]

theorem evs_sound (hX : XOk P X) (hC : Cons P X) {all : Array Oper} (hall : ∀ o,o ∈ all.toList→slot o.dst nt) (hQ : ∀ a w,Next X.K w0 nt k r a w→Q .normal a w) :
    ∀ (l : List Oper) (S : St C) (β : Nat→Value) (fp : Nat→Nat→Prop) (a : Act) (w : World),(∀ o,o ∈ l→slot o.dst nt)→Sim X.K w0 nt S β fp a w→evs X all l S k=some r→wpList P all Q l a w
  | [],S,β,fp,a,w,_,hs,h=>hQ a w ⟨S,⟨β,fp,hs⟩,h⟩
  | o::l,S,β,fp,a,w,hl,hs,h=>by
    have hod : slot o.dst nt:=hl o (by simp)
    have hl' : ∀ o,o ∈ l→slot o.dst nt:=fun o ho=>hl o (by simp [ho])
    have step : ∀ (S : St C) (β : Nat→Value) (fp : Nat→Nat→Prop),Sim X.K w0 nt S β fp a w→Region.wanted o (yielded all a.tmps)=true→ev X o S (fun S' => evs X all l S' k)=some r→wpList P all Q (o::l) a w:=by
      intro S β fp hs hw h
      simp only [wpList,hw,if_true]
      refine .inl (Oper.wp_mono ?_ (ev_sound (Q:=Q) hX hC hs hod h))
      intro a' w' ⟨S',⟨β',fp',hs'⟩,hk⟩
      exact evs_sound hX hC hall hQ l S' β' fp' a' w' hl' hs' hk
    have skip : ∀ (S : St C) (β : Nat→Value) (fp : Nat→Nat→Prop),Sim X.K w0 nt S β fp a w→Region.wanted o (yielded all a.tmps)=false→evs X all l (S.put o.dst .und) k=some r→wpList P all Q (o::l) a w:=by
      intro S β fp hs hw h
      simp only [wpList,hw]
      exact evs_sound hX hC hall hQ l _ _ _ _ w hl' (hs.put (v := .und) (u:=undef) o.dst hod rfl) h
    cases hg : o.guard with
    | none =>
      simp only [evs,hg] at h
      exact step S β fp hs (by simp [Region.wanted,hg]) h
    | some g =>
      obtain ⟨j,want⟩:=g
      simp only [evs,hg] at h
      split at h
      · rename_i d hj
        split at h
        · rename_i b hv
          have hjd : d<nt:=by
            cases ho : all[j]? with
            | none=>rw [ho] at hj; cases hj
            | some oj =>
              rw [ho] at hj
              exact hall oj (by simpa using Array.mem_of_getElem? ho) d hj
          have hy:=yield_ok hs hj hjd hv
          have hsame : ∀ b',b' = b→Sim X.K w0 nt (S.put (some d) (.one (.bool b'))) β fp a w:=by
            intro b' e
            subst e
            have:=hs.put (v := .one (.bool b')) (u := .bool b') (some d) (fun t ht=>by cases ht; exact hjd) rfl
            rwa [put_same (by rw [hs.size]; exact hjd) (hs.env d _ hv)] at this
          cases b with
          | true =>
            simp only [cond_true] at h
            cases want with
            | true=>exact step _ _ _ (hsame true rfl) (by simp [Region.wanted,hg,hy]) h
            | false=>exact skip _ _ _ (hsame true rfl) (by simp [Region.wanted,hg,hy]) h
          | false =>
            simp only [cond_false] at h
            cases want with
            | true=>exact skip _ _ _ (hsame false rfl) (by simp [Region.wanted,hg,hy]) h
            | false=>exact step _ _ _ (hsame false rfl) (by simp [Region.wanted,hg,hy]) h
        · rename_i hv
          exact skip _ _ _ hs (by simp [Region.wanted,hg,yield_und hs hj hv]) h
        · cases h
      · cases h
end
end Go.Proofs.Ytakakoogpmhhkaa.Ab

/- The abstract machine,part 19: the head of a loop. -/
set_option linter.unusedVariables false
set_option linter.unusedSimpArgs false
set_option linter.unusedSectionVars false
namespace Go.Proofs.Ytakakoogpmhhkaa.Ab
open Go Go.RowKit

section
variable {Ty : Type} [DecidableEq Ty] {C : Ty→Type}
variable {P : Program} {K : Cd C} {w0 w : World} {nt : Nat} {S : St C} {β : Nat→Value} {fp : Nat→Nat→Prop} {a : Act}

abbrev CE (C : Ty→Type):=Nat×Option Nat×Ob C

theorem beq_any {n : Nat} {l : List Nat} (h : l.any (Nat.beq n)=false) : n ∉ l:=by
  intro hm
  have:=List.any_eq_false.1 h n hm
  exact this (Nat.beq_refl n)

theorem newN_unique : ∀ {os : List (CE C)},nodupN (newN os)=true → ∀ {n s s' ob ob'},(n,s,ob) ∈ os→(n,s',ob') ∈ os→s=s' ∧ ob=ob'
  | [],_,n,s,s',ob,ob',h,_=>by cases h
  | (m,t,o)::os,hn,n,s,s',ob,ob',h,h' => by
    simp only [newN,nodupN,Bool.and_eq_true,Bool.not_eq_true'] at hn
    have hm:=beq_any hn.1
    have mem : ∀ {n s ob},(n,s,ob) ∈ os→n ∈ newN os:=by
      clear hn hm h h'
      induction os with
      | nil=>intro n s ob h; cases h
      | cons x os ih =>
        intro n s ob h
        obtain ⟨a,b,c⟩:=x
        simp only [newN,List.mem_cons] at h ⊢
        rcases h with h | h
        · cases h; exact .inl rfl
        · exact .inr (ih h)
    rcases List.mem_cons.1 h with e | h
    · cases e
      rcases List.mem_cons.1 h' with e | h'
      · cases e; exact ⟨rfl,rfl⟩
      · exact absurd (mem h') hm
    · rcases List.mem_cons.1 h' with e | h'
      · cases e; exact absurd (mem h) hm
      · exact newN_unique hn.2 h h'
theorem oldN_unique : ∀ {os : List (CE C)},nodupN (oldN os)=true → ∀ {n n' i ob ob'},(n,some i,ob) ∈ os→(n',some i,ob') ∈ os→n=n' ∧ ob=ob'
  | [],_,n,n',i,ob,ob',h,_=>by cases h
  | (m,t,o)::os,hn,n,n',i,ob,ob',h,h' => by
    have mem : ∀ {n i ob},(n,some i,ob) ∈ os→i ∈ oldN os:=by
      clear hn h h'
      induction os with
      | nil=>intro n s ob h; cases h
      | cons x os ih =>
        intro n s ob h
        obtain ⟨a,b,c⟩:=x
        rcases List.mem_cons.1 h with h1 | h1
        · cases h1; simp [oldN]
        · cases b with
          | none=>simpa [oldN] using ih h1
          | some b=>simp only [oldN,List.mem_cons]; exact .inr (ih h1)
    have hn' : nodupN (oldN os)=true:=by
      cases t with
      | none=>exact hn
      | some t=>simp only [oldN,nodupN,Bool.and_eq_true] at hn; exact hn.2
    rcases List.mem_cons.1 h with e | h1
    · cases e
      rcases List.mem_cons.1 h' with e | h2
      · cases e; exact ⟨rfl,rfl⟩
      · simp only [oldN,nodupN,Bool.and_eq_true,Bool.not_eq_true'] at hn
        exact absurd (mem h2) (beq_any hn.1)
    · rcases List.mem_cons.1 h' with e | h2
      · cases e
        simp only [oldN,nodupN,Bool.and_eq_true,Bool.not_eq_true'] at hn
        exact absurd (mem h1) (beq_any hn.1)
      · exact oldN_unique hn' h1 h2

def srcOf : List (CE C)→Nat→Option (Option Nat)
  | [],_=>none
  | (m,s,_)::r,n=>if n=m then some s else srcOf r n
theorem obs_mem : ∀ {os : List (CE C)} {n : Nat} {ob : Ob C},lk (obsN os) n=some ob → ∃ s,(n,s,ob) ∈ os∧srcOf os n=some s
  | [],n,ob,h=>by simp [obsN,lk] at h
  | (m,s,o)::os,n,ob,h=>by
    simp only [obsN,lk_cons] at h
    by_cases e : n=m
    · subst e
      simp at h
      subst h
      exact ⟨s,by simp,by simp [srcOf]⟩
    · rw [if_neg e] at h
      obtain ⟨s',h1,h2⟩:=obs_mem h
      exact ⟨s',by simp [h1],by simp [srcOf,e,h2]⟩
theorem src_mem : ∀ {os : List (CE C)} {n : Nat} {s : Option Nat} {ob : Ob C},(n,s,ob) ∈ os→nodupN (newN os)=true→srcOf os n=some s∧lk (obsN os) n=some ob:=by
  intro os n s ob h hn
  have : ∃ ob',lk (obsN os) n=some ob' := by
    clear hn
    induction os with
    | nil=>cases h
    | cons x os ih =>
      obtain ⟨m,t,o⟩:=x
      simp only [obsN,lk_cons]
      by_cases e : n=m
      · exact ⟨o,by simp [e]⟩
      · rw [if_neg e]
        rcases List.mem_cons.1 h with h | h
        · cases h; exact absurd rfl e
        · exact ih h
  obtain ⟨ob',ho⟩:=this
  obtain ⟨s',h1,h2⟩:=obs_mem ho
  obtain ⟨rfl,rfl⟩:=newN_unique hn h h1
  exact ⟨h2,ho⟩

def nb (β : Nat→Value) (os : List (CE C)) (n : Nat) : Value:=match srcOf os n with
  | some (some id)=>β id
  | _ => .slice none 0 0
/-- The footprints: of an empty row that shares,its own block. -/
def nf (β : Nat→Value) (fp : Nat→Nat→Prop) (os : List (CE C)) (n k : Nat) : Prop:=match srcOf os n with
  | some (some id)=>fp id k∧((∃ t,lk (obsN os) n=some (.row t [] true))→(β id).ownBlock=some k)
  | _=>False

/-- A thing that names no others,no row. -/
def lone : Ob C→Bool
  | .map .. => true
  | .ghost=>true
  | _=>false
/-- What an entry comes from. -/
def GoodE (q : Nat→Bool) (S : St C) (nm : List (Nat×Nat)) (B : List Nat) (os : List (CE C)) (x : CE C) : Prop :=
  (∃ n t,x=(n,none,.row t [] (q n))) ∨
  (∃ n id t xs sh,x=(n,some id,.row t xs (shq q n xs sh))∧lk nm id=some n∧lk S.objs id=some (.row t xs sh)) ∨
  (∃ id kd ls ls' os',x=(id,some id,.box kd ls')∧lk S.objs id=some (.box kd ls)∧canLs q S nm B (1000000+100*id) ls=some (ls',os') ∧ ∀ y,y ∈ os' → y ∈ os) ∨
  (∃ id ob,x=(id,some id,ob)∧lk S.objs id=some ob∧lone ob=true)
theorem GoodE.mono {nm : List (Nat×Nat)} {B : List Nat} {q : Nat→Bool} {os os' : List (CE C)} {x : CE C} (h : GoodE q S nm B os x) (hm : ∀ y,y ∈ os→y ∈ os') : GoodE q S nm B os' x:=by
  rcases h with h | h | ⟨id,kd,ls,ls',o,h1,h2,h3,h4⟩ | h
  · exact .inl h
  · exact .inr (.inl h)
  · exact .inr (.inr (.inl ⟨id,kd,ls,ls',o,h1,h2,h3,fun y hy=>hm y (h4 y hy)⟩))
  · exact .inr (.inr (.inr h))
section
variable {nm : List (Nat×Nat)} {B : List Nat} {q : Nat→Bool}
theorem canL_good {n : Nat} {l l' : Lf C} {os : List (CE C)} (h : canL q S nm B n l=some (l',os)) : ∀ x,x ∈ os→GoodE q S nm B os x:=by
  intro x hx
  cases l with
  | ref id p =>
    cases p with
    | cons s p=>simp [canL] at h
    | nil =>
      simp only [canL] at h
      split at h
      · rename_i m t xs sh hn ho
        cases h
        rw [List.mem_singleton] at hx
        exact .inr (.inl ⟨m,id,t,xs,sh,hx,hn,ho⟩)
      · cases h
  | ptr id o =>
    simp only [canL] at h
    obtain ⟨_,h⟩:=cond_some h
    cases h; cases hx
  | vo id =>
    simp only [canL] at h
    obtain ⟨_,h⟩:=cond_some h
    cases h; cases hx
  | ep id p i o =>
    cases p with
    | cons s p=>simp [canL] at h
    | nil =>
      simp only [canL] at h
      split at h
      · rename_i m t xs sh hn ho
        cases h
        rw [List.mem_singleton] at hx
        exact .inr (.inl ⟨m,id,t,xs,sh,hx,hn,ho⟩)
      · cases h
  | sub id lo hi =>
    simp only [canL] at h
    split at h
    · rename_i m t xs sh hn ho
      cases h
      rw [List.mem_singleton] at hx
      exact .inr (.inl ⟨m,id,t,xs,sh,hx,hn,ho⟩)
    · cases h
  | nil t =>
    simp only [canL,Option.some.injEq,Prod.mk.injEq] at h
    rw [← h.2,List.mem_singleton] at hx
    exact .inl ⟨n,t,hx⟩
  | _=>first
    | (simp only [canL,Option.some.injEq,Prod.mk.injEq] at h; rw [← h.2] at hx; cases hx)
    | (simp [canL] at h)
theorem canLs_good : ∀ {ls : List (Lf C)} {n : Nat} {ls' : List (Lf C)} {os : List (CE C)},canLs q S nm B n ls=some (ls',os) → ∀ x,x ∈ os→GoodE q S nm B os x
  | [],n,ls',os,h,x,hx=>by simp only [canLs,Option.some.injEq,Prod.mk.injEq] at h; rw [← h.2] at hx; cases hx
  | l::ls,n,ls',os,h,x,hx=>by
    simp only [canLs] at h
    split at h
    · rename_i l1 o1 h1
      split at h
      · rename_i r' o2 h2
        cases h
        rcases List.mem_append.1 hx with hx | hx
        · exact (canL_good h1 x hx).mono fun y hy=>by simp [hy]
        · exact (canLs_good h2 x hx).mono fun y hy=>by simp [hy]
      · cases h
    · cases h
theorem canB_good : ∀ {l : List Nat} {os : List (CE C)},canB q S nm B l=some os→(∀ x,x ∈ os→GoodE q S nm B os x) ∧ ∀ id,id ∈ l → ∃ ob',(id,some id,ob') ∈ os
  | [],os,h=>by simp only [canB,Option.some.injEq] at h; subst h; exact ⟨fun x hx=>(by cases hx),fun id hi=>(by cases hi)⟩
  | id::l,os,h=>by
    simp only [canB] at h
    split at h
    · rename_i kd ls ho
      split at h
      · rename_i ls' o1 h1
        split at h
        · rename_i o2 h2
          cases h
          obtain ⟨g1,g2⟩:=canB_good h2
          refine ⟨fun x hx => ?_,fun i hi => ?_⟩
          · rcases List.mem_cons.1 hx with hx | hx
            · exact .inr (.inr (.inl ⟨id,kd,ls,ls',o1,hx,ho,h1,fun y hy=>by simp [hy]⟩))
            · rcases List.mem_append.1 hx with hx | hx
              · exact (canLs_good h1 x hx).mono fun y hy=>by simp [hy]
              · exact (g1 x hx).mono fun y hy=>by simp [hy]
          · rcases List.mem_cons.1 hi with e | hi
            · subst e; exact ⟨.box kd ls',by simp⟩
            · obtain ⟨ls2,hm⟩:=g2 i hi; exact ⟨ls2,by simp [hm]⟩
        · cases h
      · cases h
    · rename_i mk kt vt xs c ho
      split at h
      · rename_i o2 h2
        cases h
        obtain ⟨g1,g2⟩:=canB_good h2
        refine ⟨fun x hx => ?_,fun i hi => ?_⟩
        · rcases List.mem_cons.1 hx with hx | hx
          · exact .inr (.inr (.inr ⟨id,_,hx,ho,rfl⟩))
          · exact (g1 x hx).mono fun y hy=>by simp [hy]
        · rcases List.mem_cons.1 hi with e | hi
          · subst e; exact ⟨.map mk kt vt xs c,by simp⟩
          · obtain ⟨ls2,hm⟩:=g2 i hi; exact ⟨ls2,by simp [hm]⟩
      · cases h
    · rename_i ho
      split at h
      · rename_i o2 h2
        cases h
        obtain ⟨g1,g2⟩:=canB_good h2
        refine ⟨fun x hx => ?_,fun i hi => ?_⟩
        · rcases List.mem_cons.1 hx with hx | hx
          · exact .inr (.inr (.inr ⟨id,_,hx,ho,rfl⟩))
          · exact (g1 x hx).mono fun y hy=>by simp [hy]
        · rcases List.mem_cons.1 hi with e | hi
          · subst e; exact ⟨.ghost,by simp⟩
          · obtain ⟨ls2,hm⟩:=g2 i hi; exact ⟨ls2,by simp [hm]⟩
      · cases h
    · cases h
theorem canV_good {t : Nat} {v v' : SV C} {os : List (CE C)} (h : canV q S nm B t v=some (v',os)) : ∀ x,x ∈ os→GoodE q S nm B os x:=by
  intro x hx
  unfold canV at h
  split at h
  · split at h
    · rename_i l' os' h1
      cases h
      exact canL_good h1 x hx
    · cases h
  · split at h
    · rename_i l' os' h1
      cases h
      exact canLs_good h1 x hx
    · cases h
  · split at h
    · rename_i l' os' h1
      cases h
      exact canLs_good h1 x hx
    · cases h
  · cases h; cases hx
  · cases h
/-- Each thing once: what is dropped was there before. -/
theorem once_mem : ∀ {os : List (CE C)} {seen : List Nat} {y : CE C},y ∈ onceO os seen→y ∈ os
  | [],seen,y,h=>by cases h
  | (n,none,ob)::r,seen,y,h=>by
    simp only [onceO] at h
    rcases List.mem_cons.1 h with e | h
    · rw [e]; simp
    · exact List.mem_cons_of_mem _ (once_mem h)
  | (n,some id,ob)::r,seen,y,h=>by
    simp only [onceO] at h
    cases hb : seen.any (Nat.beq id) with
    | true=>rw [hb] at h; exact List.mem_cons_of_mem _ (once_mem h)
    | false =>
      rw [hb] at h
      rcases List.mem_cons.1 h with e | h
      · rw [e]; simp
      · exact List.mem_cons_of_mem _ (once_mem h)
theorem once_has : ∀ {os : List (CE C)} {seen : List Nat} {y : CE C},y ∈ os→y ∈ onceO os seen ∨ ∃ id n ob,y=(n,some id,ob)∧(id ∈ seen ∨ ∃ n' ob',(n',some id,ob') ∈ onceO os seen)
  | [],seen,y,h=>by cases h
  | (n,none,ob)::r,seen,y,h=>by
    simp only [onceO]
    rcases List.mem_cons.1 h with e | h
    · rw [e]; exact .inl (by simp)
    · rcases once_has (seen:=seen) h with h | ⟨id,n1,ob1,e,h | ⟨n2,ob2,h⟩⟩
      · exact .inl (by simp [h])
      · exact .inr ⟨id,n1,ob1,e,.inl h⟩
      · exact .inr ⟨id,n1,ob1,e,.inr ⟨n2,ob2,by simp [h]⟩⟩
  | (n,some i,ob)::r,seen,y,h=>by
    simp only [onceO]
    cases hb : seen.any (Nat.beq i) with
    | true =>
      simp only [cond_true]
      rcases List.mem_cons.1 h with e | h
      · obtain ⟨m,hm,he⟩:=List.any_eq_true.1 hb
        have:=Nat.eq_of_beq_eq_true he
        subst this
        exact .inr ⟨i,n,ob,e,.inl hm⟩
      · exact once_has h
    | false =>
      simp only [cond_false]
      rcases List.mem_cons.1 h with e | h
      · rw [e]; exact .inl (by simp)
      · rcases once_has (seen:=i::seen) h with h | ⟨id,n1,ob1,e,h | ⟨n2,ob2,h⟩⟩
        · exact .inl (by simp [h])
        · rcases List.mem_cons.1 h with e2 | h
          · subst e2; exact .inr ⟨id,n1,ob1,e,.inr ⟨n,ob,by simp⟩⟩
          · exact .inr ⟨id,n1,ob1,e,.inl h⟩
        · exact .inr ⟨id,n1,ob1,e,.inr ⟨n2,ob2,by simp [h]⟩⟩
theorem once_old : ∀ {os : List (CE C)} {seen : List Nat} {n n' id : Nat} {ob ob' : Ob C},(n,some id,ob) ∈ onceO os seen→(n',some id,ob') ∈ onceO os seen→n=n' ∧ ob=ob'
  | os,seen,n,n',id,ob,ob',h,h' => by
    have notin : ∀ {os : List (CE C)} {seen : List Nat} {n id : Nat} {ob : Ob C},(n,some id,ob) ∈ onceO os seen→id ∉ seen:=by
      intro os
      induction os with
      | nil=>intro seen n id ob h; cases h
      | cons x os ih =>
        intro seen n id ob h
        obtain ⟨m,s,o⟩:=x
        cases s with
        | none =>
          simp only [onceO] at h
          rcases List.mem_cons.1 h with e | h
          · cases e
          · exact ih h
        | some i =>
          simp only [onceO] at h
          cases hb : seen.any (Nat.beq i) with
          | true=>rw [hb] at h; exact ih h
          | false =>
            rw [hb] at h
            rcases List.mem_cons.1 h with e | h
            · cases e; exact beq_any hb
            · exact fun hm=>ih h (List.mem_cons_of_mem _ hm)
    induction os generalizing seen with
    | nil=>cases h
    | cons x os ih =>
      obtain ⟨m,s,o⟩:=x
      cases s with
      | none =>
        simp only [onceO] at h h'
        rcases List.mem_cons.1 h with e | h1
        · cases e
        · rcases List.mem_cons.1 h' with e | h1'
          · cases e
          · exact ih _ h1 h1'
      | some i =>
        simp only [onceO] at h h'
        cases hb : seen.any (Nat.beq i) with
        | true=>rw [hb] at h h'; exact ih _ h h'
        | false =>
          rw [hb] at h h'
          rcases List.mem_cons.1 h with e | h1
          · cases e
            rcases List.mem_cons.1 h' with e | h1'
            · cases e; exact ⟨rfl,rfl⟩
            · exact absurd (List.mem_cons_self ..) (notin h1')
          · rcases List.mem_cons.1 h' with e | h1'
            · cases e; exact absurd (List.mem_cons_self ..) (notin h1)
            · exact ih _ h1 h1'
theorem once_all {os : List (CE C)} (hg : ∀ x,x ∈ os→GoodE q S nm B os x) {y : CE C} (hy : y ∈ os) : y ∈ onceO os []:=by
  rcases once_has (seen:=[]) hy with h | ⟨id,n,ob,e,h | ⟨n',ob',h⟩⟩
  · exact h
  · cases h
  · subst e
    have g1:=hg _ hy
    have g2:=hg _ (once_mem h)
    have : n=n' ∧ ob=ob' := by
      rcases g1 with ⟨_,_,e⟩ | ⟨_,_,t,xs,sh,e,h1,h2⟩ | ⟨_,kd,ls,ls',os',e,h1,h2,_⟩ | ⟨_,ob1,e,h1,hl1⟩
      · cases e
      · cases e
        rcases g2 with ⟨_,_,e⟩ | ⟨_,_,t',xs',sh',e,h1',h2'⟩ | ⟨_,kd,ls,ls',os',e,h1',h2',_⟩ | ⟨_,ob2,e,h1',hl2⟩
        · cases e
        · cases e
          rw [h1] at h1'
          rw [h2] at h2'
          cases h1'; cases h2'
          exact ⟨rfl,rfl⟩
        · cases e; rw [h2] at h1'; cases h1'
        · cases e; rw [h2] at h1'; cases h1'; cases hl2
      · cases e
        rcases g2 with ⟨_,_,e⟩ | ⟨_,_,t',xs',sh',e,h1',h2'⟩ | ⟨_,kd2,ls2,ls2',os2',e,h1',h2',_⟩ | ⟨_,ob2,e,h1',hl2⟩
        · cases e
        · cases e; rw [h1] at h2'; cases h2'
        · cases e
          rw [h1] at h1'
          cases h1'
          rw [h2] at h2'
          cases h2'
          exact ⟨rfl,rfl⟩
        · cases e; rw [h1] at h1'; cases h1'; cases hl2
      · cases e
        rcases g2 with ⟨_,_,e⟩ | ⟨_,_,t',xs',sh',e,h1',h2'⟩ | ⟨_,kd2,ls2,ls2',os2',e,h1',h2',_⟩ | ⟨_,ob2,e,h1',hl2⟩
        · cases e
        · cases e; rw [h1] at h2'; cases h2'; cases hl1
        · cases e; rw [h1] at h1'; cases h1'; cases hl1
        · cases e
          rw [h1] at h1'
          cases h1'
          exact ⟨rfl,rfl⟩
    obtain ⟨rfl,rfl⟩:=this
    exact h
end
theorem newOf_mem : ∀ {os : List (CE C)} {id n : Nat},newOf os id=some n → ∃ ob,(n,some id,ob) ∈ os
  | [],id,n,h=>by simp [newOf] at h
  | (m,none,ob)::r,id,n,h=>by
    obtain ⟨ob',h'⟩:=newOf_mem (os:=r) h
    exact ⟨ob',by simp [h']⟩
  | (m,some m',ob)::r,id,n,h=>by
    simp only [newOf] at h
    cases hb : Nat.beq m' id with
    | true =>
      rw [hb] at h
      cases h
      have:=Nat.eq_of_beq_eq_true hb
      subst this
      exact ⟨ob,by simp⟩
    | false =>
      rw [hb] at h
      obtain ⟨ob',h'⟩:=newOf_mem (os:=r) h
      exact ⟨ob',by simp [h']⟩
theorem hdrE_lk : ∀ {os : List (CE C)} {E : List (Nat×SV C)} {t : Nat} {v : SV C},lk (hdrE os E) t=some v → ∃ id j n,(t,.hdr id j) ∈ E∧newOf os id=some n∧v = .hdr n j
  | os,[],t,v,h=>by simp [hdrE,lk] at h
  | os,(t',x)::E,t,v,h=>by
    have up : lk (hdrE os E) t=some v → ∃ id j n,(t,.hdr id j) ∈ (t',x)::E∧newOf os id=some n∧v = .hdr n j:=fun h=>by
      obtain ⟨id,j,n,h1,h2⟩:=hdrE_lk h
      exact ⟨id,j,n,by simp [h1],h2⟩
    cases x with
    | hdr id j =>
      simp only [hdrE] at h
      split at h
      · rename_i n hn
        rw [lk_cons] at h
        split at h
        · rename_i e
          cases h
          subst e
          exact ⟨id,j,n,by simp,hn,rfl⟩
        · exact up h
      · exact up h
    | _=>exact up h
theorem canE_good {nm : List (Nat×Nat)} {B : List Nat} {q : Nat→Bool} : ∀ {E e : List (Nat×SV C)} {os : List (CE C)},canE q S nm B E=(e,os)→(∀ x,x ∈ os→GoodE q S nm B os x) ∧ ∀ t v',lk e t=some v' → ∃ v os',(t,v) ∈ E∧canV q S nm B t v=some (v',os') ∧ ∀ y,y ∈ os' → y ∈ os
  | [],e,os,h=>by
    simp only [canE,Prod.mk.injEq] at h
    obtain ⟨h1,h2⟩:=h
    subst h1 h2
    exact ⟨fun x hx=>(by cases hx),fun t v' h=>by simp [lk] at h⟩
  | (t,v)::E,e,os,h=>by
    simp only [canE] at h
    cases hc : canE q S nm B E with
    | mk e0 os0 =>
      rw [hc] at h
      simp only at h
      obtain ⟨g1,g2⟩:=canE_good hc
      split at h
      · rename_i v1 os1 hv
        cases h
        refine ⟨fun x hx => ?_,fun t' v' ht => ?_⟩
        · rcases List.mem_append.1 hx with hx | hx
          · exact (canV_good hv x hx).mono fun y hy=>by simp [hy]
          · exact (g1 x hx).mono fun y hy=>by simp [hy]
        · rw [lk_cons] at ht
          by_cases e : t' = t
          · subst e
            simp at ht
            subst ht
            exact ⟨v,os1,by simp,hv,fun y hy=>by simp [hy]⟩
          · rw [if_neg e] at ht
            obtain ⟨v2,os2,h1,h2,h3⟩:=g2 t' v' ht
            exact ⟨v2,os2,by simp [h1],h2,fun y hy=>by simp [h3 y hy]⟩
      · cases h
        refine ⟨g1,fun t' v' ht => ?_⟩
        obtain ⟨v2,os2,h1,h2,h3⟩:=g2 t' v' ht
        exact ⟨v2,os2,by simp [h1],h2,h3⟩

theorem mem_tidyE {E : List (Nat×SV C)} : ∀ {keep : List Nat} {t : Nat} {v : SV C},(t,v) ∈ tidyE E keep→lk E t=some v
  | [],t,v,h=>by cases h
  | d::r,t,v,h=>by
    simp only [tidyE] at h
    cases hd : lk E d with
    | none=>rw [hd] at h; exact mem_tidyE h
    | some u =>
      rw [hd] at h
      rcases List.mem_cons.1 h with h | h
      · cases h; exact hd
      · exact mem_tidyE h

theorem rm_mem {α : Type} : ∀ {l : List (Nat×α)} {d t : Nat} {v : α},(t,v) ∈ rm l d→(t,v) ∈ l∧t≠d
  | [],d,t,v,h=>by cases h
  | (m,u)::l,d,t,v,h=>by
    simp only [rm] at h
    cases hb : Nat.beq d m with
    | true=>rw [hb] at h; obtain ⟨h1,h2⟩:=rm_mem h; exact ⟨List.mem_cons_of_mem _ h1,h2⟩
    | false =>
      rw [hb] at h
      rcases List.mem_cons.1 h with e | h
      · cases e
        refine ⟨by simp,fun e => ?_⟩
        rw [e,Nat.beq_refl] at hb; cases hb
      · obtain ⟨h1,h2⟩:=rm_mem h; exact ⟨List.mem_cons_of_mem _ h1,h2⟩
theorem mem_ghostsE : ∀ {E : List (Nat×SV C)} {t : Nat} {v : SV C},(t,v) ∈ ghostsE E→lk E t=some v
  | [],t,v,h=>by cases h
  | (m,u)::E,t,v,h=>by
    rw [lk_cons]
    have hd : ∀ {u : SV C},(t,v) ∈ (m,u)::rm (ghostsE E) m→(if t=m then some u else lk E t)=some v:=fun {u} h=>by
      rcases List.mem_cons.1 h with e | h
      · cases e; simp
      · obtain ⟨h1,h2⟩:=rm_mem h; rw [if_neg h2]; exact mem_ghostsE h1
    have ht : ∀ {u : SV C},(t,v) ∈ rm (ghostsE E) m→(if t=m then some u else lk E t)=some v:=fun {u} h=>by
      obtain ⟨h1,h2⟩:=rm_mem h; rw [if_neg h2]; exact mem_ghostsE h1
    cases u with
    | sus x j=>exact hd h
    | hdr id j=>exact hd h
    | frame=>exact hd h
    | one _=>exact ht h
    | agg _=>exact ht h
    | tup _=>exact ht h
    | und=>exact ht h
theorem mem_liveE {E : List (Nat×SV C)} {keep : List Nat} {t : Nat} {v : SV C} (h : (t,v) ∈ liveE E keep) : lk E t=some v:=by
  unfold liveE at h
  rcases List.mem_append.1 h with h | h
  · exact mem_tidyE h
  · exact mem_ghostsE h
section
variable {nm : List (Nat×Nat)} {B : List Nat} {q : Nat→Bool} {os : List (CE C)} {stb' : Nat→Prop}
theorem canL_ok (hn : nodupN (newN os)=true) (hB : ∀ id,id ∈ B → ∃ ob',(id,some id,ob') ∈ os) (hst : ∀ k,stbOf S.objs fp w k→stb' k) {n : Nat} {l l' : Lf C} {os' : List (CE C)} {v : Value} (h : canL q S nm B n l=some (l',os')) (hm : ∀ y,y ∈ os' → y ∈ os)
    (hl : LfOk K w S.objs β fp (stbOf S.objs fp w) l v) : LfOk K w (obsN os) (nb β os) (nf β fp os) stb' l' v:=by
  have triv : ∀ l : Lf C,idsL l=[]→LfOk K w S.objs β fp (stbOf S.objs fp w) l v→LfOk K w (obsN os) (nb β os) (nf β fp os) stb' l v:=fun l hi h =>
    h.tr (fun k hk=>⟨hst k hk,rfl⟩) (fun id hid=>by rw [hi] at hid; cases hid)
  cases l with
  | ref id p =>
    cases p with
    | cons s p=>simp [canL] at h
    | nil =>
      simp only [canL] at h
      split at h
      · rename_i m t xs sh hnm ho
        cases h
        have:=(src_mem (hm _ (by simp : (m,some id,Ob.row t xs (shq q m xs sh)) ∈ _)) hn).1
        refine ⟨hl.1,hl.2.trans ?_⟩
        simp [nb,this]
      · cases h
  | ptr id o =>
    simp only [canL] at h
    obtain ⟨hb,h⟩:=cond_some h
    cases h
    obtain ⟨m,hmB,he⟩:=List.any_eq_true.1 hb
    have:=Nat.eq_of_beq_eq_true he
    subst this
    obtain ⟨ls',hx⟩:=hB _ hmB
    obtain ⟨b,h1,h2⟩:=hl
    exact ⟨b,by simp [nb,(src_mem hx hn).1,h1],h2⟩
  | vo id =>
    simp only [canL] at h
    obtain ⟨hb,h⟩:=cond_some h
    cases h
    obtain ⟨m,hmB,he⟩:=List.any_eq_true.1 hb
    have:=Nat.eq_of_beq_eq_true he
    subst this
    obtain ⟨ls',hx⟩:=hB _ hmB
    exact ⟨hl.1,hl.2.trans (by simp [nb,(src_mem hx hn).1])⟩
  | ep id p i o =>
    cases p with
    | cons s p=>simp [canL] at h
    | nil =>
      simp only [canL] at h
      split at h
      · rename_i m t xs sh hnm ho
        cases h
        have:=src_mem (hm _ (by simp : (m,some id,Ob.row t xs (shq q m xs sh)) ∈ _)) hn
        refine ⟨hl.1,fun t' xs' sh' ho' => ?_⟩
        rw [this.2] at ho'
        cases ho'
        have e : nb β os m=β id:=by simp [nb,this.1]
        rw [e]
        exact hl.2 t xs sh ho
      · cases h
  | sub id lo hi =>
    simp only [canL] at h
    split at h
    · rename_i m t xs sh hnm ho
      cases h
      have:=src_mem (hm _ (by simp : (m,some id,Ob.row t xs (shq q m xs sh)) ∈ _)) hn
      refine ⟨hl.1,fun t' xs' sh' ho' => ?_⟩
      rw [this.2] at ho'
      cases ho'
      have e : nb β os m=β id:=by simp [nb,this.1]
      rw [e]
      exact hl.2 t xs sh ho
    · cases h
  | nil t =>
    simp only [canL,Option.some.injEq,Prod.mk.injEq] at h
    obtain ⟨rfl,rfl⟩:=h
    have:=(src_mem (hm _ (by simp : (n,none,Ob.row t [] (q n)) ∈ _)) hn).1
    have e : v = .slice none 0 0:=hl
    subst e
    refine ⟨rfl,?_⟩
    simp [nb,this]
  | _=>first
    | (simp only [canL,Option.some.injEq,Prod.mk.injEq] at h; obtain ⟨rfl,-⟩:=h; exact triv _ rfl hl)
    | (simp [canL] at h)
theorem canLs_ok (hn : nodupN (newN os)=true) (hB : ∀ id,id ∈ B → ∃ ob',(id,some id,ob') ∈ os) (hst : ∀ k,stbOf S.objs fp w k→stb' k) : ∀ {ls ls' : List (Lf C)} {n : Nat} {os' : List (CE C)} {vs : List Value},canLs q S nm B n ls=some (ls',os')→(∀ y,y ∈ os' → y ∈ os) →
    LfsOk K w S.objs β fp (stbOf S.objs fp w) ls vs→LfsOk K w (obsN os) (nb β os) (nf β fp os) stb' ls' vs
  | [],ls',n,os',vs,h,_,hl=>by
    simp only [canLs,Option.some.injEq,Prod.mk.injEq] at h
    obtain ⟨rfl,-⟩:=h
    exact ⟨hl.1,fun i l h=>by simp at h⟩
  | l::ls,ls',n,os',vs,h,hm,hl=>by
    simp only [canLs] at h
    split at h
    · rename_i l1 o1 h1
      split at h
      · rename_i r' o2 h2
        cases h
        obtain ⟨u,us,rfl⟩ : ∃ u us,vs=u::us:=by
          cases vs with
          | nil=>have:=hl.1; simp at this
          | cons u us=>exact ⟨u,us,rfl⟩
        have hl1 : LfsOk K w S.objs β fp (stbOf S.objs fp w) ls us:=⟨by have:=hl.1; simpa using this,fun i l' hi=>hl.2 (i+1) l' (by simpa using hi)⟩
        have ih:=canLs_ok hn hB hst h2 (fun y hy=>hm y (by simp [hy])) hl1
        refine ⟨by simp [ih.1],fun i l' hi => ?_⟩
        cases i with
        | zero=>simp at hi; subst hi; exact canL_ok hn hB hst h1 (fun y hy=>hm y (by simp [hy])) (hl.2 0 l rfl)
        | succ i=>exact ih.2 i l' (by simpa using hi)
      · cases h
    · cases h
theorem canLs_len {n : Nat} : ∀ {ls ls' : List (Lf C)} {n : Nat} {os' : List (CE C)},canLs q S nm B n ls=some (ls',os')→ls'.length=ls.length
  | [],ls',n,os',h=>by simp only [canLs,Option.some.injEq,Prod.mk.injEq] at h; rw [← h.1]
  | l::ls,ls',n,os',h=>by
    simp only [canLs] at h
    split at h
    · split at h
      · rename_i r' o2 h2
        cases h
        simp [canLs_len (n:=n) h2]
      · cases h
    · cases h
end

theorem canon_sound (hs : Sim K w0 nt S β fp a w) {ent : List Nat} {S' : St C} (h : S.canon ent=some S') : SimE K w0 nt S' a w:=by
  unfold St.canon canon1 at h
  generalize (fun n=>ent.any (Nat.beq (1000000000+n)))=q at h
  generalize hnm : tabE (liveE S.env ent)++tabB S (boxesOf S (liveE S.env ent))=nm at h
  generalize hBB : boxesOf S (liveE S.env ent)=B at h
  clear hnm hBB
  cases hc : canE q S nm B (liveE S.env ent) with
  | mk e os0 =>
    rw [hc] at h
    cases hcb : canB q S nm B B with
    | none=>rw [hcb] at h; cases h
    | some osb =>
    rw [hcb] at h
    obtain ⟨hn,h⟩:=cond_some h
    cases h
    obtain ⟨g10,g2⟩:=canE_good hc
    obtain ⟨gb1,gb2⟩:=canB_good hcb
    have g1 : ∀ x,x ∈ os0++osb→GoodE q S nm B (os0++osb) x:=fun x hx=>by
      rcases List.mem_append.1 hx with hx | hx
      · exact (g10 x hx).mono fun y hy=>by simp [hy]
      · exact (gb1 x hx).mono fun y hy=>by simp [hy]
    have hall : ∀ y,y ∈ os0++osb→y ∈ onceO (os0++osb) []:=fun y hy=>once_all g1 hy
    have ho : ∀ {n n' i : Nat} {ob ob' : Ob C},(n,some i,ob) ∈ onceO (os0++osb) []→(n',some i,ob') ∈ onceO (os0++osb) []→n=n' ∧ ob=ob' := fun h h' => once_old h h'
    have g1 : ∀ x,x ∈ onceO (os0++osb) []→GoodE q S nm B (onceO (os0++osb) []) x:=fun x hx=>(g1 x (once_mem hx)).mono hall
    have hB : ∀ id,id ∈ B → ∃ ob',(id,some id,ob') ∈ onceO (os0++osb) []:=fun id hi=>by
      obtain ⟨ls',hm⟩:=gb2 id hi
      exact ⟨ls',hall _ (by simp [hm])⟩
    have g2 : ∀ t v',lk e t=some v' → ∃ v os',(t,v) ∈ liveE S.env ent∧canV q S nm B t v=some (v',os') ∧ ∀ y,y ∈ os' → y ∈ onceO (os0++osb) []:=fun t v' ht=>by
      obtain ⟨v,os',h1,h2,h3⟩:=g2 t v' ht
      exact ⟨v,os',h1,h2,fun y hy=>hall y (by simp [h3 y hy])⟩
    generalize onceO (os0++osb) []=os at *
    -- what an entry's footprint is
    have fpE : ∀ {n ob k},lk (obsN os) n=some ob→nf β fp os n k → ∃ id ob0,(n,some id,ob) ∈ os∧lk S.objs id=some ob0∧fp id k:=by
      intro n ob k hl hk
      obtain ⟨s,h1,h2⟩:=obs_mem hl
      simp only [nf,h2] at hk
      cases s with
      | none=>exact hk.elim
      | some id =>
        rcases g1 _ h1 with ⟨n',t,e⟩ | ⟨n',id',t,xs,sh,e,_,hid⟩ | ⟨id',kd,ls,ls',os',e,hid,_⟩ | ⟨id',ob',e,hid,hlo⟩
        · cases e
        · cases e; exact ⟨_,_,h1,hid,hk.1⟩
        · cases e; exact ⟨_,_,h1,hid,hk.1⟩
        · cases e; exact ⟨_,_,h1,hid,hk.1⟩
    have hst : ∀ k,stbOf S.objs fp w k→stbOf (obsN os) (nf β fp os) w k:=by
      intro k hk
      refine ⟨hk.1,fun n ob hl hf => ?_⟩
      obtain ⟨id,ob0,_,h2,h3⟩:=fpE hl hf
      exact hk.2 id ob0 h2 h3
    refine ⟨nb β os,nf β fp os,hs.below,hs.defers,hs.size,?_,?_,?_,?_⟩
    · intro n ob k hl hk
      obtain ⟨id,ob0,_,h2,h3⟩:=fpE hl hk
      exact hs.fresh id ob0 k h2 h3
    · intro n n' ob ob' k hl hl' hk hk'
      obtain ⟨id,ob0,m1,h2,h3⟩:=fpE hl hk
      obtain ⟨id',ob0',m1',h2',h3'⟩:=fpE hl' hk'
      have e:=hs.disj id id' ob0 ob0' k h2 h2' h3 h3'
      subst e
      exact (ho m1 m1').1
    · intro n ob hl
      obtain ⟨s,h1,h2⟩:=obs_mem hl
      rcases g1 _ h1 with ⟨n',t,e⟩ | ⟨n',id,t,xs,sh,e,_,hid⟩ | ⟨id,kd,ls,ls',os',e,hid,hcan,hsub⟩ | ⟨id,ob',e,hid,hlo⟩
      · cases e
        have eb : nb β os n = .slice none 0 0:=by simp [nb,h2]
        have ef : ∀ k,¬ nf β fp os n k:=fun k hk=>by simp [nf,h2] at hk
        rw [eb]
        cases hqn : q n with
        | false=>exact .row _ t [] _ [] (fun _ _ _=>False) (World.ownsRow_nil w w0.heap.size (K.tid t) (K.sz t)) (fun g hg=>by simp [Value.ownBlock] at hg) (fun _ _ _ h=>h.elim) (fun _ _ _ _ _ h=>h.elim) (fun j hj=>absurd hj (by simp))
        | true=>exact ⟨[],World.ownsRow_nil w w0.heap.size (K.tid t) (K.sz t),fun g=>⟨fun hg=>(ef g hg).elim,fun hg=>by simp [Value.ownBlock] at hg⟩,fun j x hj=>by simp at hj⟩
      · cases e
        have eb : nb β os n=β id:=by simp [nb,h2]
        have hobj:=hs.objs id _ hid
        rw [eb]
        cases sh with
        | true =>
          obtain ⟨cells,q1,q2,q3⟩:=hobj
          have ef : nf β fp os n=fp id:=by
            funext k
            simp only [nf,h2,eq_iff_iff]
            exact ⟨fun h=>h.1,fun h=>⟨h,fun _=>(q2 k).1 h⟩⟩
          rw [ef]
          exact (hs.objs id _ hid).tr (fun k hk=>⟨hst k hk,rfl⟩) (fun _ _=>rfl) (fun _ ls e=>by cases e)
        | false =>
          have hno : shq q n xs false=false→nf β fp os n=fp id:=fun hf=>by
            funext k
            simp only [nf,h2,eq_iff_iff]
            refine ⟨fun h=>h.1,fun h=>⟨h,fun ⟨t',ht⟩ => ?_⟩⟩
            rw [hf] at hl
            rw [hl] at ht
            cases ht
          cases hsq : shq q n xs false with
          | false =>
            rw [hno hsq]
            exact (hs.objs id _ hid).tr (fun k hk=>⟨hst k hk,rfl⟩) (fun _ _=>rfl) (fun _ ls e=>by cases e)
          | true =>
            have hx : xs=[]:=by
              simp only [shq] at hsq
              cases hqn : q n with
              | false=>rw [hqn] at hsq; cases hsq
              | true=>rw [hqn] at hsq; cases xs with
                | nil=>rfl
                | cons x xs=>cases hsq
            subst hx
            rw [hsq] at hl
            have hobj : Own K w w0.heap.size (fp id) (.row t []) (β id):=hobj
            cases hobj with
            | row _ _ _ _ cells G hown hF hG hd hn' =>
            refine ⟨cells,hown,fun g => ?_,fun j x hj=>by simp at hj⟩
            simp only [nf,h2]
            exact ⟨fun h=>h.2 ⟨t,hl⟩,fun h=>⟨hF g h,fun _=>h⟩⟩
      · cases e
        have eb : nb β os n=β n:=by simp [nb,h2]
        have ef : nf β fp os n=fp n:=by
          funext k
          simp only [nf,h2,eq_iff_iff]
          exact ⟨fun h=>h.1,fun h=>⟨h,fun ⟨t',ht⟩=>by rw [hl] at ht; cases ht⟩⟩
        rw [eb,ef]
        have hobj:=hs.objs n _ hid
        cases kd with
        | mem =>
          obtain ⟨b,cs,e,q1,q2,q3,q4⟩:=hobj
          exact ⟨b,cs,e,q1,q2,q3,canLs_ok hn hB hst hcan hsub q4⟩
        | clo f m sh=>obtain ⟨us,q1,q2,q3⟩:=hobj; exact ⟨us,q1,q2,canLs_ok hn hB hst hcan hsub q3⟩
        | ifc t sh=>obtain ⟨us,q1,q2,q3⟩:=hobj; exact ⟨us,q1,q2,canLs_ok hn hB hst hcan hsub q3⟩
      · cases e
        have eb : nb β os n=β n:=by simp [nb,h2]
        have ef : nf β fp os n=fp n:=by
          funext k
          simp only [nf,h2,eq_iff_iff]
          exact ⟨fun h=>h.1,fun h=>⟨h,fun ⟨t',ht⟩=>by rw [hl] at ht; cases ht; cases hlo⟩⟩
        rw [eb,ef]
        exact (hs.objs _ _ hid).tr (fun k hk=>⟨hst k hk,rfl⟩) (fun _ _=>rfl) (fun _ ls e=>by subst e; cases hlo)
    · intro t v' ht
      rw [show ({ S with env:=e++hdrE os (liveE S.env ent),objs:=obsN os } : St C).env=e++hdrE os (liveE S.env ent) from rfl,lk_append] at ht
      have ht' : lk e t=some v' ∨ lk (hdrE os (liveE S.env ent)) t=some v' := by
        cases e1 : lk e t with
        | some x=>rw [e1] at ht; exact .inl ht
        | none=>rw [e1] at ht; exact .inr ht
      clear ht
      rcases ht' with ht | ht
      case inr =>
        obtain ⟨id,j,n,h1,h2,h3⟩:=hdrE_lk ht
        subst h3
        obtain ⟨ob,hm⟩:=newOf_mem h2
        have hval : β id=K.hd j:=hs.env t _ (mem_liveE h1)
        show nb β os n=K.hd j
        simp [nb,(src_mem hm hn).1,hval]
      obtain ⟨v,os',hE,hv,hsub⟩:=g2 t v' ht
      have hval:=hs.env t v (mem_liveE hE)
      unfold canV at hv
      split at hv
      · split at hv
        · rename_i l' os1 hc1
          cases hv
          exact canL_ok hn hB hst hc1 hsub hval
        · cases hv
      · split at hv
        · rename_i l' os1 hc1
          cases hv
          obtain ⟨vs,e,hl⟩:=hval
          exact ⟨vs,e,canLs_ok hn hB hst hc1 hsub hl⟩
        · cases hv
      · rename_i b ls j
        split at hv
        · rename_i l' os1 hc1
          cases hv
          cases b with
          | false =>
            obtain ⟨l,h1,h2⟩:=hval
            have h1 : ls=[l]:=h1
            subst h1
            have:=canLs_ok (stb' := stbOf (obsN os) (nf β fp os) w) (vs:=[K.hd j]) hn hB hst hc1 hsub ⟨rfl,fun i l' hi=>by cases i with | zero=>simp at hi; subst hi; exact h2 | succ i=>simp at hi⟩
            have hlen:=canLs_len (n:=0) hc1
            obtain ⟨l2,rfl⟩:=List.length_eq_one_iff.1 hlen
            exact ⟨l2,rfl,this.2 0 l2 rfl⟩
          | true =>
            obtain ⟨vs,e,hl⟩:=hval
            exact ⟨vs,e,canLs_ok hn hB hst hc1 hsub hl⟩
        · cases hv
      · cases hv
        exact fun k hk=>⟨hst k (hval k hk).1,(hval k hk).2⟩
      · cases hv
end
end Go.Proofs.Ytakakoogpmhhkaa.Ab

/- The abstract machine,part 22: what an operation that writes into nothing does elsewhere. -/
set_option linter.unusedVariables false
set_option linter.unusedSimpArgs false
set_option linter.unusedSectionVars false
namespace Go.Proofs.Ytakakoogpmhhkaa.Ab
open Go Go.RowKit

section
variable {Ty : Type} [DecidableEq Ty] {C : Ty→Type}
variable {X : Cx C} {S S' : St C} {R : Type} {r : R}

/-- All that S tells,S' tells too. -/
structure Le (S S' : St C) : Prop where
  base : S'.base=S.base
  env : ∀ t v,lk S.env t=some v→lk S'.env t=some v
  objs : ∀ id ob,lk S.objs id=some ob→lk S'.objs id=some ob

/-- What an operation brings. -/
def eff (S : St C) (dst : Option Tmp) (v : SV C) (news : List (Nat×Ob C)) (dels : List Nat) : St C:=St.put { S with objs:=news++rmAll dels S.objs } dst v

theorem opd_le (h : Le S S') {x : Operand} {v : SV C} (hx : opd S x=some v) : opd S' x=some v:=by
  cases x with
  | tmp t=>exact h.env t v hx
  | const c =>
    cases c with
    | pointer p=>cases p <;> (first | exact hx | simp [opd] at hx)
    | map p=>cases p <;> (first | exact hx | simp [opd] at hx)
    | _=>(first | exact hx | simp [opd] at hx)
  | global g=>simp [opd] at hx
  | func f=>exact hx
theorem opdT_le (h : Le S S') {T : TypeId} {x : Operand} {v : SV C} (hx : opdT X S T x=some v) : opdT X S' T x=some v:=by
  unfold opdT at hx ⊢
  split at hx
  · exact hx
  · exact opd_le h hx
theorem Sli_le {l : Lf C} {α : Type} {f : (t : Ty)→List (C t)→Option α} {q : α} (hl : Sli S X l f=some q) : ∃ t xs,f t xs=some q ∧ ∀ {S' : St C},Le S S' → ∀ {γ : Type} (g : (t : Ty)→List (C t)→Option γ),Sli S' X l g=g t xs:=by
  cases l with
  | row t xs=>exact ⟨t,xs,hl,fun {S'} h {γ} g=>rfl⟩
  | nil t=>exact ⟨t,[],hl,fun {S'} h {γ} g=>rfl⟩
  | ref id p =>
    simp only [Sli] at hl
    split at hl
    · rename_i t xs sh ho
      have key : ∀ (p : List (Nat×Nat)) (t : Ty) (xs : List (C t)),path X.K p t xs f=some q → ∃ t' zs,f t' zs=some q ∧ ∀ {γ : Type} (g : (t : Ty)→List (C t)→Option γ),path X.K p t xs g=g t' zs:=by
        intro p
        induction p with
        | nil=>intro t xs h; exact ⟨t,xs,h,fun g=>rfl⟩
        | cons s p ih =>
          intro t xs h
          obtain ⟨i,o⟩:=s
          simp only [path] at h
          cases hx : xs[i]? with
          | none=>rw [hx] at h; cases h
          | some x =>
            rw [hx] at h
            simp only [Option.bind_some] at h
            split at h
            · rename_i t' ys he
              obtain ⟨t2,zs,h1,h2⟩:=ih t' ys h
              exact ⟨t2,zs,h1,fun g=>by simp only [path,hx,Option.bind_some,he]; exact h2 g⟩
            · cases h
      obtain ⟨t',zs,h1,h2⟩:=key p t xs hl
      exact ⟨t',zs,h1,fun {S'} h {γ} g=>by simp only [Sli,h.objs id _ ho]; exact h2 g⟩
    · cases hl
  | sub id lo hi =>
    simp only [Sli] at hl
    split at hl
    · rename_i t xs sh ho
      exact ⟨t,_,hl,fun {S'} h {γ} g=>by simp only [Sli,h.objs id _ ho]⟩
    · cases hl
  | _=>simp [Sli] at hl
theorem cells_le {l : Lf C} {α : Type} {f : List (Lf C)→Option α} {q : α} (hl : cellsAt X S l f=some q) : ∃ ls,f ls=some q ∧ ∀ {S' : St C},Le S S' → ∀ {γ : Type} (g : List (Lf C)→Option γ),cellsAt X S' l g=g ls:=by
  cases l with
  | ptr id off =>
    simp only [cellsAt] at hl
    split at hl
    · rename_i ls ho
      exact ⟨_,hl,fun {S'} h {γ} g=>by simp only [cellsAt,h.objs id _ ho]⟩
    · cases hl
  | elt t x o=>exact ⟨_,hl,fun {S'} h {γ} g=>rfl⟩
  | ep id p i o =>
    simp only [cellsAt] at hl
    split at hl
    · rename_i t xs sh ho
      have hs : Sli S X (.ref id p) (fun t' ys=>Option.bind ys[i]? fun x=>f ((inRow id p i (cond p.isEmpty sh false) 0 (X.K.enc t' x)).drop o))=some q:=by simp only [Sli,ho]; exact hl
      obtain ⟨t',zs,h1,h2⟩:=Sli_le hs
      cases hz : zs[i]? with
      | none=>rw [hz] at h1; cases h1
      | some x =>
        rw [hz] at h1
        refine ⟨_,h1,fun {S'} h {γ} g => ?_⟩
        have:=h2 h (fun t' ys=>Option.bind ys[i]? fun x=>g ((inRow id p i (cond p.isEmpty sh false) 0 (X.K.enc t' x)).drop o))
        rw [hz] at this
        simp only [Sli,h.objs id _ ho,Option.bind_some] at this
        simp only [cellsAt,h.objs id _ ho]
        exact this
    · cases hl
  | _=>simp [cellsAt] at hl
theorem binL_le {tk : Option (TK Ty)} {op : BinOp} {x y : SV C} {α : Type} {f : SV C→Option α} {q : α} (hl : binL tk op x y f=some q) : ∃ v,f v=some q ∧ ∀ {γ : Type} (g : SV C→Option γ),binL tk op x y g=g v:=by
  unfold binL at hl ⊢
  split at hl
  · rename_i ka a kb b
    obtain ⟨e,hl⟩:=cond_some hl
    simp only [e,cond_true]
    split at hl
    · rename_i c hc; exact ⟨_,hl,fun g=>by simp only [hc]⟩
    · rename_i hc
      split at hl
      · rename_i n hn; exact ⟨_,hl,fun g=>by simp only [hc,hn]⟩
      · rename_i hn
        obtain ⟨e,hl⟩:=cond_some' hl
        split at hl
        · exact ⟨_,hl,fun g=>by simp only [hc,hn,e,cond_false]⟩
        · exact ⟨_,hl,fun g=>by simp only [hc,hn,e,cond_false]⟩
        · cases hl
  · rename_i a b
    split at hl
    · rename_i c hc; exact ⟨_,hl,fun g=>by simp only [hc]⟩
    · rename_i hc
      split at hl
      · obtain ⟨e,hl⟩:=cond_some hl
        exact ⟨_,hl,fun g=>by simp only [hc,e,cond_true]⟩
      · cases hl
  · rename_i a b
    split at hl
    · exact ⟨_,hl,fun g=>rfl⟩
    · exact ⟨_,hl,fun g=>rfl⟩
    · cases hl
  · rename_i x
    split at hl
    · exact ⟨_,hl,fun g=>by simp only [*]⟩
    · exact ⟨_,hl,fun g=>by simp only [*]⟩
    · cases hl
  · cases hl
theorem bnd_le (h : Le S S') {n : Nat} {x : Option Operand} {i : Int} (hx : bnd S n x=some i) : bnd S' n x=some i:=by
  cases x with
  | none=>exact hx
  | some x =>
    simp only [bnd] at hx ⊢
    split at hx
    · rename_i k m hm
      rw [opd_le h hm]
      exact hx
    · cases hx
theorem parts_le (h : Le S S') {fs : List (Nat×Nat×Bool)} : ∀ {ps : List (Nat×Operand)} {ls ls' : List (Lf C)},partsOf X fs S ps ls=some ls' → partsOf X fs S' ps ls=some ls'
  | [],ls,ls',h=>h
  | (i,x)::r,ls,ls',hp=>by
    simp only [partsOf] at hp ⊢
    split at hp
    · rename_i off n ag v hf hv
      obtain ⟨e,hp⟩:=cond_some hp
      rw [opd_le h hv]
      simp only [hf,e,cond_true]
      exact parts_le h hp
    · cases hp
theorem viewL_le (h : Le S S') {l l' : Lf C} (hl : viewL S l=some l') : viewL S' l=some l' := by
  cases l with
  | ref id p =>
    cases p with
    | nil =>
      simp only [viewL] at hl ⊢
      split at hl
      · rename_i t xs sh ho
        rw [h.objs id _ ho]
        exact hl
      · cases hl
    | cons s p=>simp [viewL] at hl
  | sub id lo hi =>
    simp only [viewL] at hl ⊢
    split at hl
    · rename_i t xs sh ho
      rw [h.objs id _ ho]
      exact hl
    · cases hl
  | _=>first | exact hl | (simp [viewL] at hl)
theorem viewLs_le (h : Le S S') : ∀ {ls ls' : List (Lf C)},viewLs S ls=some ls' → viewLs S' ls=some ls'
  | [],ls',hl=>hl
  | l::ls,ls',hl=>by
    simp only [viewLs] at hl ⊢
    split at hl
    · rename_i l1 h1
      split at hl
      · rename_i r' h2
        rw [viewL_le h h1,viewLs_le h h2]
        exact hl
      · cases hl
    · cases hl
theorem viewV_le (h : Le S S') {v v' : SV C} (hv : viewV S v=some v') : viewV S' v=some v' := by
  cases v with
  | one l =>
    simp only [viewV] at hv ⊢
    split at hv
    · rename_i l' hl; rw [viewL_le h hl]; exact hv
    · cases hv
  | agg ls =>
    simp only [viewV] at hv ⊢
    split at hv
    · rename_i l' hl; rw [viewLs_le h hl]; exact hv
    · cases hv
  | _=>simp [viewV] at hv
theorem viewLX_le (h : Le S S') {l l' : Lf C} (hl : viewLX X S l=some l') : viewLX X S' l=some l' := by
  unfold viewLX at hl ⊢
  split at hl
  · obtain ⟨t,xs,h1,h2⟩:=Sli_le hl
    rw [h2 h]
    exact h1
  · exact viewL_le h hl
theorem viewLXs_le (h : Le S S') : ∀ {ls ls' : List (Lf C)},viewLXs X S ls=some ls' → viewLXs X S' ls=some ls'
  | [],ls',hl=>hl
  | l::ls,ls',hl=>by
    simp only [viewLXs] at hl ⊢
    split at hl
    · rename_i l1 h1
      split at hl
      · rename_i r' h2
        rw [viewLX_le h h1,viewLXs_le h h2]
        exact hl
      · cases hl
    · cases hl
theorem viewP_le (h : Le S S') {pt : Option Ty} {v v' : SV C} (hv : viewP X S pt v=some v') : viewP X S' pt v=some v' := by
  cases pt with
  | none=>exact viewV_le h hv
  | some t =>
    cases v with
    | one l =>
      simp only [viewP] at hv ⊢
      obtain ⟨ls,h1,h2⟩:=cells_le hv
      rw [h2 h]
      split at h1
      · rename_i ls' hls
        rw [viewLXs_le h hls]
        exact h1
      · cases h1
    | _=>exact hv
theorem views_le (h : Le S S') : ∀ {vs : List (SV C)} {pt : List (Option Ty)} {vs' : List (SV C)},views X S pt vs=some vs' → views X S' pt vs=some vs'
  | [],pt,vs',hv=>hv
  | v::vs,pt,vs',hv=>by
    simp only [views] at hv ⊢
    split at hv
    · rename_i v1 h1
      split at hv
      · rename_i r' h2
        rw [viewP_le h h1,views_le h h2]
        exact hv
      · cases hv
    · cases hv
theorem argsI_le (h : Le S S') : ∀ {xs : List Operand} {ts : List TypeId} {vs : List (SV C)},argsI X S xs ts=some vs→argsI X S' xs ts=some vs
  | [],ts,vs,hx=>hx
  | x::xs,ts,vs,hx=>by
    simp only [argsI] at hx ⊢
    split at hx
    · rename_i l hv
      split at hx
      · rename_i us hu; rw [opdT_le h hv,argsI_le h hu]; exact hx
      · cases hx
    · rename_i l hv
      split at hx
      · rename_i us hu; rw [opdT_le h hv,argsI_le h hu]; exact hx
      · cases hx
    · cases hx
theorem argsC_le (h : Le S S') {pt : List (Option Ty)} {pre post : List (SV C)} {xs : List Operand} {ts : List TypeId} {vs : List (SV C)} (hx : argsC X S pt pre xs ts post=some vs) : argsC X S' pt pre xs ts post=some vs:=by
  unfold argsC at hx ⊢
  split at hx
  · rename_i us hu
    rw [argsI_le h hu]
    exact views_le h hx
  · cases hx
theorem cloOf_le {l : Lf C} {α : Type} {f : Nat→List (SV C)→List (SV C)→Option α} {q : α} (hl : cloOf S l f=some q) : ∃ n pre post,f n pre post=some q ∧ ∀ {S' : St C},Le S S' → ∀ {γ : Type} (g : Nat→List (SV C)→List (SV C)→Option γ),cloOf S' l g=g n pre post:=by
  cases l with
  | fnc o=>cases o with
    | none=>cases hl
    | some f' =>
      simp only [cloOf] at hl
      cases hf : Nat.ble IFZ f' with
      | true=>rw [hf] at hl; cases hl
      | false =>
        rw [hf] at hl
        exact ⟨_,_,_,hl,fun {S'} h {γ} g=>by simp only [cloOf,hf,cond_false]⟩
  | vo id =>
    simp only [cloOf] at hl
    split at hl
    · rename_i f' n sh ls ho
      obtain ⟨e,hl⟩:=cond_some hl
      exact ⟨_,_,_,hl,fun {S'} h {γ} g=>by simp only [cloOf,h.objs id _ ho,e,cond_true]⟩
    · cases hl
  | _=>cases hl
theorem ifcOf_le {x : Operand} {α : Type} {f : TypeId→SV C→Option α} {q : α} (hl : ifcOf S (opd S x) f=some q) : ∃ t v,f t v=some q ∧ ∀ {S' : St C},Le S S' → ∀ {γ : Type} (g : TypeId→SV C→Option γ),ifcOf S' (opd S' x) g=g t v:=by
  unfold ifcOf at hl
  split at hl
  case h_3=>cases hl
  case h_2 =>
    rename_i f hx
    obtain ⟨e,hl⟩:=cond_some hl
    exact ⟨_,_,hl,fun {S'} h {γ} g=>by simp only [ifcOf,opd_le h hx,e,cond_true]⟩
  rename_i id hx
  split at hl
  · rename_i t sh ls ho
    obtain ⟨e,hl⟩:=cond_some hl
    split at hl
    · rename_i v hv
      exact ⟨t,v,hl,fun {S'} h {γ} g=>by simp only [ifcOf,opd_le h hx,h.objs id _ ho,e,cond_true,hv]⟩
    · cases hl
  · cases hl
theorem idxB_le {ls : List (Lf C)} {sz : Nat} {ag : Bool} {i : Int} {α : Type} {f : SV C→Option α} {q : α} : ∀ {n j : Nat},idxB ls sz ag i f n j=some q → ∃ v,f v=some q ∧ ∀ {γ : Type} (g : SV C→Option γ),idxB ls sz ag i g n j=g v
  | 0,j,h=>by simp [idxB] at h
  | n+1,j,h=>by
    simp only [idxB] at h ⊢
    cases hb : decide (i=(j : Int)) with
    | true =>
      rw [hb] at h
      simp only [cond_true] at h ⊢
      cases ag with
      | true=>exact ⟨_,h,fun g=>rfl⟩
      | false =>
        simp only at h ⊢
        split at h
        · rename_i l hl
          exact ⟨_,h,fun g=>rfl⟩
        · cases h
    | false =>
      rw [hb] at h
      exact idxB_le (n:=n) (j:=j+1) h
theorem liveV_le (h : Le S S') {v : SV C} (hl : liveV S v=true) : liveV S' v=true:=by
  unfold liveV at hl ⊢
  split at hl
  · exact hl
  · rename_i id
    split at hl
    · rename_i ho; simp only [h.objs id _ ho]
    · rename_i ho; simp only [h.objs id _ ho]
    · cases hl
  · cases hl
theorem nilV_le (h : Le S S') {tk : Option (TK Ty)} {x y : Lf C} {b : Bool} (hl : nilV S tk x y=some b) : nilV S' tk x y=some b:=by
  unfold nilV at hl ⊢
  split at hl
  · exact hl
  · rename_i id
    split at hl
    · rename_i ho; simp only [h.objs id _ ho]; exact hl
    · cases hl
  · exact hl
  · exact hl
  · exact hl
  · rename_i id
    split at hl
    · rename_i ho; simp only [h.objs id _ ho]; exact hl
    · cases hl
  · exact hl
  · rename_i id
    split at hl
    · rename_i ho; simp only [h.objs id _ ho]; exact hl
    · cases hl
  · cases hl
theorem cmpNil_le {tk : Option (TK Ty)} {op : BinOp} {x y : SV C} {c : Bool} {α : Type} {f : SV C→Option α} {q : α} (hl : cmpNil S tk op x y c f=some q) : ∃ v,f v=some q ∧ ∀ {S' : St C},Le S S' → ∀ {γ : Type} (g : SV C→Option γ),cmpNil S' tk op x y c g=g v:=by
  unfold cmpNil at hl
  split at hl
  case h_2=>cases hl
  split at hl
  · rename_i hb; exact ⟨_,hl,fun {S'} h {γ} g=>by simp only [cmpNil,nilV_le h hb]⟩
  · rename_i hb; exact ⟨_,hl,fun {S'} h {γ} g=>by simp only [cmpNil,nilV_le h hb]⟩
  · cases hl
theorem mapAt_le {m : MT Ty} {l : Lf C} {key : SV C} {α : Type} {f : (kt vt : Ty)→C kt→List (Nat×C kt×C vt)→Nat→Option α} {q : α} (hl : mapAt X S m l key f=some q) :
    ∃ kt vt x xs c,f kt vt x xs c=some q ∧ ∀ {S' : St C},Le S S' → ∀ {γ : Type} (g : (kt vt : Ty)→C kt→List (Nat×C kt×C vt)→Nat→Option γ),mapAt X S' m l key g=g kt vt x xs c:=by
  unfold mapAt at hl
  obtain ⟨e,hl⟩:=cond_some hl
  split at hl
  · split at hl
    · rename_i x hx
      exact ⟨_,_,x,[],0,hl,fun {S'} h {γ} g=>by simp only [mapAt,e,cond_true,hx]⟩
    · cases hl
  · rename_i id _
    split at hl
    · rename_i mk kt vt xs c ho
      obtain ⟨e2,hl⟩:=cond_some hl
      split at hl
      · rename_i x hx
        exact ⟨_,_,x,xs,c,hl,fun {S'} h {γ} g=>by simp only [mapAt,e,cond_true,h.objs id _ ho,e2,hx]⟩
      · cases hl
    · cases hl
  · cases hl
theorem lookV_le {m : MT Ty} {l : Lf C} {key : SV C} {ok : Bool} {α : Type} {f : SV C→Option α} {q : α} (hl : lookV X S m l key ok f=some q) : ∃ v,f v=some q ∧ ∀ {S' : St C},Le S S' → ∀ {γ : Type} (g : SV C→Option γ),lookV X S' m l key ok g=g v:=by
  unfold lookV at hl
  obtain ⟨kt,vt,x,xs,c,h1,h2⟩:=mapAt_le hl
  cases ok with
  | true=>exact ⟨_,h1,fun {S'} h {γ} g=>by unfold lookV; rw [h2 h]; rfl⟩
  | false=>exact ⟨_,h1,fun {S'} h {γ} g=>by unfold lookV; rw [h2 h]; rfl⟩
end
end Go.Proofs.Ytakakoogpmhhkaa.Ab

/- The abstract machine,part 23: what an operation that writes into nothing does elsewhere,one by one. -/
set_option linter.unusedVariables false
set_option linter.unusedSimpArgs false
set_option linter.unusedSectionVars false
namespace Go.Proofs.Ytakakoogpmhhkaa.Ab
open Go Go.RowKit

section
variable {Ty : Type} [DecidableEq Ty] {C : Ty→Type}
variable {X : Cx C} {S S' : St C} {R : Type} {r : R}

theorem lk_rmAll {α : Type} : ∀ (d : List Nat) (l : List (Nat×α)) (n : Nat),lk (rmAll d l) n=if n ∈ d then none else lk l n
  | [],l,n=>by simp [rmAll]
  | x::d,l,n=>by
    rw [rmAll,lk_rmAll d,lk_rm]
    by_cases h : n ∈ d <;> by_cases e : n=x <;> simp [h,e]
theorem rmAll_append {α : Type} : ∀ (d e : List Nat) (l : List (Nat×α)),rmAll (d++e) l=rmAll e (rmAll d l)
  | [],e,l=>rfl
  | x::d,e,l=>by simp only [List.cons_append,rmAll,rmAll_append d e]
theorem Le.del (h : Le S S') (d : List Nat) : Le { S with objs:=rmAll d S.objs } { S' with objs:=rmAll d S'.objs }:=by
  refine ⟨h.base,h.env,fun id ob hi => ?_⟩
  simp only [lk_rmAll] at hi ⊢
  split at hi
  · cases hi
  · rename_i e; rw [if_neg e]; exact h.objs id ob hi

theorem absorb_le : ∀ {ls : List (Lf C)} {S S' : St C} {ls' : List (Lf C)} {S1 : St C} {b : Bool},Le S S' → absorb S ls=some (ls',S1,b) →
    S1={ S with objs:=rmAll (refsL ls) S.objs }∧absorb S' ls=some (ls',{ S' with objs:=rmAll (refsL ls) S'.objs },b)
  | [],S,S',ls',S1,b,h,ha=>by
    simp only [absorb,Option.some.injEq,Prod.mk.injEq] at ha
    obtain ⟨rfl,rfl,rfl⟩:=ha
    exact ⟨rfl,rfl⟩
  | l::ls,S,S',ls',S1,b,h,ha=>by
    cases l with
    | ref id p =>
      cases p with
      | cons s p=>simp [absorb] at ha
      | nil =>
        simp only [absorb] at ha ⊢
        split at ha
        · rename_i t xs ho
          split at ha
          · rename_i r' S2 b2 hr
            have hd : Le (S.delObj id) (S'.delObj id):=h.del [id]
            obtain ⟨e1,e2⟩:=absorb_le hd hr
            cases ha
            rw [h.objs id _ ho]
            simp only [e2]
            exact ⟨e1,rfl⟩
          · cases ha
        · cases ha
    | nil t =>
      simp only [absorb] at ha ⊢
      split at ha
      · rename_i r' S2 b2 hr
        obtain ⟨e1,e2⟩:=absorb_le h hr
        cases ha
        simp only [e2]
        exact ⟨e1,rfl⟩
      · cases ha
    | row t xs =>
      simp only [absorb] at ha ⊢
      split at ha
      · rename_i r' S2 b2 hr
        obtain ⟨e1,e2⟩:=absorb_le h hr
        cases ha
        simp only [e2]
        exact ⟨e1,rfl⟩
      · cases ha
    | nilv n =>
      cases n with
      | map=>simp [absorb] at ha
      | ifc =>
        simp only [absorb] at ha ⊢
        split at ha
        · rename_i r' S2 b2 hr
          obtain ⟨e1,e2⟩:=absorb_le h hr
          cases ha
          simp only [e2]
          exact ⟨e1,rfl⟩
        · cases ha
    | int k n =>
      simp only [absorb] at ha ⊢
      split at ha
      · rename_i r' S2 b2 hr
        obtain ⟨e1,e2⟩:=absorb_le h hr
        cases ha
        simp only [e2]
        exact ⟨e1,rfl⟩
      · cases ha
    | bool c =>
      simp only [absorb] at ha ⊢
      split at ha
      · rename_i r' S2 b2 hr
        obtain ⟨e1,e2⟩:=absorb_le h hr
        cases ha
        simp only [e2]
        exact ⟨e1,rfl⟩
      · cases ha
    | str c =>
      simp only [absorb] at ha ⊢
      split at ha
      · rename_i r' S2 b2 hr
        obtain ⟨e1,e2⟩:=absorb_le h hr
        cases ha
        simp only [e2]
        exact ⟨e1,rfl⟩
      · cases ha
    | fnc c =>
      simp only [absorb] at ha ⊢
      split at ha
      · rename_i r' S2 b2 hr
        obtain ⟨e1,e2⟩:=absorb_le h hr
        cases ha
        simp only [e2]
        exact ⟨e1,rfl⟩
      · cases ha
    | _=>simp [absorb] at ha

theorem elems_le {t : Ty} : ∀ {ps : List (Nat×Operand)} {n : Nat} {S S' : St C} {es : List (C t)} {S1 : St C} {b : Bool},Le S S' → elems X t S n ps=some (es,S1,b) →
    S1={ S with objs:=rmAll (refsP X t S ps) S.objs }∧elems X t S' n ps=some (es,{ S' with objs:=rmAll (refsP X t S ps) S'.objs },b)
  | [],n,S,S',es,S1,b,h,he=>by
    simp only [elems,Option.some.injEq,Prod.mk.injEq] at he
    obtain ⟨rfl,rfl,rfl⟩:=he
    exact ⟨rfl,rfl⟩
  | (i,x)::ps,n,S,S',es,S1,b,h,he=>by
    simp only [elems] at he ⊢
    split at he
    · rename_i v hv
      split at he
      · rename_i ls S2 b2 ha
        split at he
        · rename_i e hd
          split at he
          · rename_i es' S3 b3 hes
            obtain ⟨hb,he⟩:=cond_some he
            obtain ⟨rfl,a2⟩:=absorb_le h ha
            obtain ⟨e1,e2⟩:=elems_le (h.del (refsL v.leaves)) hes
            cases he
            rw [opdT_le h hv]
            simp only [a2,hd,e2,hb,cond_true,refsP,hv,rmAll_append]
            exact ⟨e1,trivial⟩
          · cases he
        · cases he
      · cases he
    · cases he

theorem add_of {id : Nat} {ob : Ob C} (h : Unnamed S id) : S.add id ob=some (S.setObj id ob):=by
  unfold St.add
  have : (idsE0 S.env++idsO S.objs).any (Nat.beq id)=false:=by
    rw [List.any_eq_false]
    intro x hx hb
    have e:=Nat.eq_of_beq_eq_true hb
    subst e
    rcases List.mem_append.1 hx with hx | hx
    · exact h.1 hx
    · exact h.2 hx
  rw [this]
  rfl

theorem idsO_rm {id : Nat} {l : Objs C} {n : Nat} (h : n ∈ idsO (rm l id)) : n ∈ idsO l:=by
  induction l with
  | nil=>simpa [rm] using h
  | cons x l ih =>
    obtain ⟨m,ob⟩:=x
    simp only [rm] at h
    cases hb : Nat.beq id m with
    | true =>
      rw [hb] at h
      simp only [cond_true] at h
      have:=ih h
      cases ob <;> simp [idsO,this]
    | false =>
      rw [hb] at h
      simp only [cond_false] at h
      cases ob with
      | box kd ls =>
        simp only [idsO,List.mem_cons,List.mem_append] at h ⊢
        rcases h with h | h | h
        · exact .inl h
        · exact .inr (.inl h)
        · exact .inr (.inr (ih h))
      | row t xs sh =>
        simp only [idsO,List.mem_cons] at h ⊢
        rcases h with h | h
        · exact .inl h
        · exact .inr (ih h)
      | map mk kt vt xs c =>
        simp only [idsO,List.mem_cons] at h ⊢
        rcases h with h | h
        · exact .inl h
        · exact .inr (ih h)
      | ghost =>
        simp only [idsO,List.mem_cons] at h ⊢
        rcases h with h | h
        · exact .inl h
        · exact .inr (ih h)
theorem idsO_rmAll {l : Objs C} {n : Nat} : ∀ {d : List Nat} {l : Objs C},n ∈ idsO (rmAll d l)→n ∈ idsO l
  | [],l,h=>h
  | x::d,l,h=>idsO_rm (idsO_rmAll (l:=l) h)
theorem unnamed_del {d : List Nat} {id : Nat} (h : Unnamed S id) : Unnamed { S with objs:=rmAll d S.objs } id:=⟨h.1,fun hm=>h.2 (idsO_rmAll (l:=S.objs) hm)⟩

/-- Many rows at once. -/
theorem addAll_of : ∀ {news : List (Nat×Ob C)} {S : St C},(∀ id ob,(id,ob) ∈ news→Unnamed S id ∧ ∃ t xs sh,ob = .row t xs sh)→nodupN (keysO news)=true→S.addAll news=some { S with objs:=news.reverse++S.objs }
  | [],S,_,_=>rfl
  | (id,ob)::r,S,h,hn=>by
    simp only [keysO,List.map_cons,nodupN,Bool.and_eq_true,Bool.not_eq_true'] at hn
    obtain ⟨h1,t,xs,sh,rfl⟩:=h id ob (by simp)
    simp only [St.addAll,add_of h1]
    rw [addAll_of (S:=S.setObj id (.row t xs sh)) (fun j ob' hj => ?_) hn.2]
    · simp [St.setObj]
    · obtain ⟨g1,g2⟩:=h j ob' (by simp [hj])
      refine ⟨⟨g1.1,fun hm => ?_⟩,g2⟩
      simp only [St.setObj,idsO,List.mem_cons] at hm
      rcases hm with e | hm
      · subst e
        refine absurd ?_ (beq_any hn.1)
        exact List.mem_map.2 ⟨(j,ob'),hj,rfl⟩
      · exact g1.2 hm

theorem nodupN_rev {l : List Nat} : nodupN l=true↔l.Nodup:=by
  induction l with
  | nil=>simp [nodupN]
  | cons x l ih =>
    simp only [nodupN,Bool.and_eq_true,Bool.not_eq_true',List.nodup_cons,ih]
    constructor
    · exact fun ⟨h1,h2⟩=>⟨beq_any h1,h2⟩
    · refine fun ⟨h1,h2⟩=>⟨?_,h2⟩
      rw [List.any_eq_false]
      intro y hy hb
      exact h1 (Nat.eq_of_beq_eq_true hb ▸ hy)

theorem intern_row : ∀ (ls : List (Lf C)) (n id : Nat) (ob : Ob C),(id,ob) ∈ (intern n ls).2 → ∃ t xs sh,ob = .row t xs sh
  | [],n,id,ob,h=>by simp [intern] at h
  | l::ls,n,id,ob,h=>by
    cases l with
    | row t xs =>
      simp only [intern,List.mem_cons] at h
      rcases h with h | h
      · cases h; exact ⟨t,xs,false,rfl⟩
      · exact intern_row ls _ id ob h
    | _=>exact intern_row ls (n+1) id ob (by simpa [intern] using h)
theorem news_row : ∀ (rs : List (Bool×List (Lf C))) (n id : Nat) (ob : Ob C),(id,ob) ∈ (internAll n rs).2 → ∃ t xs sh,ob = .row t xs sh
  | [],n,id,ob,h=>by simp [internAll] at h
  | (b,ls)::r,n,id,ob,h=>by
    simp only [internAll,List.mem_append] at h
    rcases h with h | h
    · exact intern_row ls n id ob h
    · exact news_row r _ id ob h

/-- What evq tells of ev at S'. -/
abbrev Told (X : Cx C) (o : Oper) (S : St C) (r : R) (k : SV C→List (Nat×Ob C)→List Nat→Option R) : Prop :=
  ∃ v news dels,k v news dels=some r ∧ ∀ (S' : St C),Le S S' → (∀ id,id ∈ keysO news→Unnamed S' id)→nodupN (keysO news)=true → ∀ {R' : Type} (k' : St C→Option R'),ev X o S' k' = k' (eff S' o.dst v news dels)

theorem newId_le (h : Le S S') (o : Oper) : newId X S' o=newId X S o:=by unfold newId; rw [h.base]

theorem q_apnd {o : Oper} {k : SV C→List (Nat×Ob C)→List Nat→Option R} {t t0 t1 : Ty} {xs : List (C t0)} {ys : List (C t1)} {id0 id1 : Option Nat} {sh : Bool} {at_ : Option Nat} (hq : apndq at_ X o S t t0 t1 xs ys id0 id1 sh k=some r)
    (hev : ∀ (S' : St C),Le S S' → ∀ {R' : Type} (k' : St C→Option R'),ev X o S' k' = apnd at_ X o S' t t0 t1 xs ys id0 id1 sh k') : Told X o S r k:=by
  unfold apndq at hq
  split at hq
  · rename_i xs' ys' hx hy
    obtain ⟨hb,hq⟩:=cond_some hq
    refine ⟨_,_,_,hq,fun S' h hf _ {R'} k' => ?_⟩
    rw [hev S' h]
    have hu : Unnamed (delO (delO S' id0) id1) (newId X S o):=by
      have:=hf (newId X S o) (by simp [keysO])
      have:=unnamed_del (d:=insList id0++insList id1) this
      rw [rmAll_append] at this
      cases id0 <;> cases id1 <;> exact this
    unfold apnd
    simp only [hx,hy,hb,cond_true,newId_le h o,add_of hu]
    unfold eff
    rw [rmAll_append]
    cases id0 <;> cases id1 <;> rfl
  · cases hq

theorem callCq_le' {c' : Con C} {pre post : List (SV C)} {as : List Operand} {ts : List TypeId} {o o' : Oper} {k : SV C→List (Nat×Ob C)→List Nat→Option R} (hq : callCq X c' S pre as ts post o k=some r) (hoo : o' = o)
    (hev : ∀ (S' : St C),Le S S' → ∀ {R' : Type} (k' : St C→Option R'),ev X o' S' k' = callC X c' S' pre as ts post o k') : Told X o' S r k:=by
  subst hoo
  rw [callCq_eq] at hq
  unfold callCq0 at hq
  split at hq
  case h_2=>cases hq
  rename_i vs hvs
  cases hg : c'.g vs with
  | none=>rw [hg] at hq; cases hq
  | some r0 =>
    rw [hg] at hq
    simp only [Option.bind_some] at hq
    cases hnz : c'.nz with
    | true=>rw [hnz] at hq; cases hq
    | false =>
    rw [hnz] at hq
    simp only at hq
    split at hq
    case h_2=>cases hq
    rename_i v hv
    refine ⟨_,_,_,hq,fun S' h hf hnd {R'} k' => ?_⟩
    rw [hev S' h]
    rw [callC_eq]
    unfold callC0
    simp only [argsC_le h hvs,hg,Option.bind_some,newId_le h,hnz,hv]
    cases hfr : c'.frz with
    | true =>
      simp only [numb,hfr,List.reverse_nil]
      rfl
    | false =>
    simp only [numb,hfr] at hf hnd ⊢
    have hnd' : nodupN (keysO (internAll (newId X S o') (c'.ret r0)).2)=true:=by
      rw [nodupN_rev] at hnd ⊢
      have e : keysO (internAll (newId X S o') (c'.ret r0)).2.reverse=(keysO (internAll (newId X S o') (c'.ret r0)).2).reverse:=by simp [keysO]
      rw [e] at hnd
      exact (List.reverse_perm _).nodup_iff.1 hnd
    rw [addAll_of (fun id ob hm=>⟨hf id ?_,?_⟩) hnd']
    · rfl
    · exact List.mem_map.2 ⟨(id,ob),by simpa using hm,rfl⟩
    · exact news_row _ _ _ _ hm
theorem callCq_le {c' : Con C} {pre post : List (SV C)} {as : List Operand} {ts : List TypeId} {o o' : Oper} {k : SV C→List (Nat×Ob C)→List Nat→Option R} (hq : callCq X c' S pre as ts post o k=some r) (hoo : o' = o)
    (hev : ∀ (S' : St C) {R' : Type} (k' : St C→Option R'),ev X o' S' k' = callC X c' S' pre as ts post o k') : Told X o' S r k :=
  callCq_le' hq hoo fun S' _ {R'} k' => hev S' k'

theorem evq_le {o : Oper} {k : SV C→List (Nat×Ob C)→List Nat→Option R} (hq : evq X o S k=some r) : Told X o S r k:=by
  obtain ⟨dst,op,ty,pos,aft,gd⟩:=o
  cases op with
  | move x =>
    simp only [evq] at hq
    split at hq
    · rename_i v hv
      exact ⟨_,_,_,hq,fun S' h _ _ {R'} k' => by simp only [ev,opdT_le h hv]; rfl⟩
    · cases hq
  | pick c x y =>
    simp only [evq] at hq
    split at hq
    · rename_i c' x' y' h1 h2 h3
      exact ⟨_,_,_,hq,fun S' h _ _ {R'} k' => by simp only [ev,opd_le h h1,opd_le h h2,opd_le h h3]; rfl⟩
    · rename_i v z h1 h2 hno
      refine ⟨_,_,_,hq,fun S' h _ _ {R'} k' => ?_⟩
      simp only [ev,opd_le h h1,opd_le h h2]
      generalize opd S' y=u
      rcases u with _ | (l | ls | vs) <;> rcases z with (l' | _ | _)
      all_goals first | rfl | (cases l' <;> first | rfl | (cases l <;> rfl))
    · rename_i v h1 h2 hno
      refine ⟨_,_,_,hq,fun S' h _ _ {R'} k' => ?_⟩
      simp only [ev,opd_le h h1,opd_le h h2]
      generalize opd S' x=u
      rcases u with _ | (l | ls | vs) <;> rcases v with (l' | _ | _)
      all_goals first | rfl | (cases l' <;> first | rfl | (cases l <;> rfl)) | (cases l <;> rfl)
    · cases hq
  | box e x =>
    simp only [evq] at hq
    split at hq
    · rename_i v tk hv ht
      obtain ⟨hb,hq⟩:=cond_some hq
      refine ⟨_,_,_,hq,fun S' h hf _ {R'} k' => ?_⟩
      have hu:=hf (newId X S ⟨dst,.box e x,ty,pos,aft,gd⟩) (by simp [keysO])
      simp only [ev,opd_le h hv,ht,hb,cond_true,newId_le h,add_of hu]
      rfl
    · cases hq
  | alloc e =>
    simp only [evq] at hq
    split at hq
    · rename_i z ht
      refine ⟨_,_,_,hq,fun S' h hf _ {R'} k' => ?_⟩
      have hu:=hf (newId X S ⟨dst,.alloc e,ty,pos,aft,gd⟩) (by simp [keysO])
      simp only [ev,ht,newId_le h,add_of hu]
      rfl
    · rename_i fs zs ht
      refine ⟨_,_,_,hq,fun S' h hf _ {R'} k' => ?_⟩
      have hu:=hf (newId X S ⟨dst,.alloc e,ty,pos,aft,gd⟩) (by simp [keysO])
      simp only [ev,ht,newId_le h,add_of hu]
      rfl
    · rename_i n sz ag zs ht
      refine ⟨_,_,_,hq,fun S' h hf _ {R'} k' => ?_⟩
      have hu:=hf (newId X S ⟨dst,.alloc e,ty,pos,aft,gd⟩) (by simp [keysO])
      simp only [ev,ht,newId_le h,add_of hu]
      rfl
    · cases hq
  | build t ps =>
    simp only [evq] at hq
    split at hq
    · rename_i fs zs ht
      split at hq
      · rename_i ls hp
        obtain ⟨hb,hq⟩:=cond_some hq
        refine ⟨_,_,_,hq,fun S' h hf _ {R'} k' => ?_⟩
        simp only [ev,ht,parts_le h hp,hb,cond_true]
        rfl
      · cases hq
    · rename_i n sz ag zs ht
      split at hq
      · rename_i ls hp
        refine ⟨_,_,_,hq,fun S' h hf _ {R'} k' => ?_⟩
        simp only [ev,ht,parts_le h hp]
        rfl
      · cases hq
    · cases hq
  | buildSlice t n ps =>
    simp only [evq] at hq
    split at hq
    · rename_i t1 ht
      split at hq
      · rename_i es S1 b he
        obtain ⟨hb,hq⟩:=cond_some hq
        refine ⟨_,_,_,hq,fun S' h hf _ {R'} k' => ?_⟩
        obtain ⟨_,e2⟩:=elems_le h he
        have hu:=unnamed_del (d:=refsP X t1 S ps.toList) (hf (newId X S ⟨dst,.buildSlice t n ps,ty,pos,aft,gd⟩) (by simp [keysO]))
        simp only [ev,ht,e2,hb,cond_true,newId_le h,add_of hu]
        rfl
      · cases hq
    · cases hq
  | load t x =>
    simp only [evq] at hq
    split at hq
    · rename_i tk l ht hx
      obtain ⟨ls,hk,hg⟩:=cells_le hq
      split at hk
      · rename_i v hm
        refine ⟨_,_,_,hk,fun S' h hf _ {R'} k' => ?_⟩
        simp only [ev,ht,opd_le h hx]
        rw [hg h]
        simp only [hm]
        rfl
      · cases hk
    · cases hq
  | nilCheck x =>
    simp only [evq] at hq
    split at hq
    · rename_i id off hx
      exact ⟨_,_,_,hq,fun S' h _ _ {R'} k' => by simp only [ev,opd_le h hx]; rfl⟩
    · rename_i t0 x0 off hx
      exact ⟨_,_,_,hq,fun S' h _ _ {R'} k' => by simp only [ev,opd_le h hx]; rfl⟩
    · rename_i id p i off hx
      exact ⟨_,_,_,hq,fun S' h _ _ {R'} k' => by simp only [ev,opd_le h hx]; rfl⟩
    · rename_i v n1 n2 n3 hx
      obtain ⟨e,hq⟩:=cond_some hq
      refine ⟨_,_,_,hq,fun S' h _ _ {R'} k' => ?_⟩
      simp only [ev,opd_le h hx]
      rw [liveV_le h e]
      rfl
    · cases hq
  | binOp op t x y t' =>
    simp only [evq] at hq
    split at hq
    · cases hq
    · rename_i u v hne hu hv
      cases hnk : isNilK v with
      | true =>
        rw [hnk] at hq
        simp only [cond_true] at hq
        obtain ⟨z,hk,hg⟩:=cmpNil_le hq
        refine ⟨_,_,_,hk,fun S' h hf _ {R'} k' => ?_⟩
        simp only [ev,opdT_le h hu,opdT_le h hv,hnk,cond_true]
        rw [hg h]
        rfl
      | false =>
        rw [hnk] at hq
        simp only [cond_false] at hq
        obtain ⟨z,hk,hg⟩:=binL_le hq
        refine ⟨_,_,_,hk,fun S' h hf _ {R'} k' => ?_⟩
        simp only [ev,opdT_le h hu,opdT_le h hv,hnk,cond_false]
        rw [hg]
        rfl
    · cases hq
  | unOp op t x =>
    simp only [evq] at hq
    split at hq
    · rename_i b hv
      exact ⟨_,_,_,hq,fun S' h _ _ {R'} k' => by simp only [ev,opd_le h hv]; rfl⟩
    · rename_i ki n hv
      exact ⟨_,_,_,hq,fun S' h _ _ {R'} k' => by simp only [ev,opd_le h hv]; rfl⟩
    · cases hq
  | convert t t' x =>
    simp only [evq] at hq
    split at hq
    · rename_i k1 k' k0 n h1 h2 hv
      exact ⟨_,_,_,hq,fun S' h _ _ {R'} k' => by simp only [ev,h1,h2,opd_le h hv]; rfl⟩
    · rename_i k1 s h1 h2 hv
      exact ⟨_,_,_,hq,fun S' h _ _ {R'} k' => by simp only [ev,h1,h2,opd_le h hv]; rfl⟩
    · rename_i t1 l h1 h2 hv
      obtain ⟨t0,xs,hk,hg⟩:=Sli_le hq
      obtain ⟨e1,hk⟩:=cond_some hk
      obtain ⟨e2,hk⟩:=cond_some hk
      split at hk
      · rename_i h3
        refine ⟨_,_,_,hk,fun S' h _ _ {R'} k' => ?_⟩
        simp only [ev,h1,h2,opd_le h hv]
        rw [hg h]
        simp only [e1,e2,h3,cond_true]
        rfl
      · cases hk
    · cases hq
  | makeSlice t x y =>
    simp only [evq] at hq
    cases hz0 : isZeroC x with
    | true =>
      rw [hz0] at hq
      simp only [cond_true] at hq
      split at hq
      case h_2=>cases hq
      rename_i t1 km m ht hy
      obtain ⟨e2,hq⟩:=cond_some hq
      obtain ⟨e3,hq⟩:=cond_some hq
      refine ⟨_,_,_,hq,fun S' h hf _ {R'} k' => ?_⟩
      have hu:=hf (newId X S ⟨dst,.makeSlice t x y,ty,pos,aft,gd⟩) (by simp [keysO])
      simp only [ev,hz0,ht,opd_le h hy,e2,e3,cond_true,newId_le h,add_of hu]
      rfl
    | false =>
    rw [hz0] at hq
    simp only [cond_false] at hq
    split at hq
    · rename_i t1 kn n km m ht hx hy
      obtain ⟨e1,hq⟩:=cond_some hq
      obtain ⟨e2,hq⟩:=cond_some hq
      obtain ⟨e3,hq⟩:=cond_some hq
      refine ⟨_,_,_,hq,fun S' h hf _ {R'} k' => ?_⟩
      have hu:=hf (newId X S ⟨dst,.makeSlice t x y,ty,pos,aft,gd⟩) (by simp [keysO])
      simp only [ev,hz0,cond_false,ht,opd_le h hx,opd_le h hy,e1,e2,e3,cond_true,newId_le h,add_of hu]
      rfl
    · cases hq
  | slice t x lo hi mx =>
    simp only [evq] at hq
    split at hq
    · rename_i s ht hx
      split at hq
      · rename_i l q hl hh
        obtain ⟨e1,hq⟩:=cond_some hq
        obtain ⟨e2,hq⟩:=cond_some hq
        obtain ⟨e3,hq⟩:=cond_some hq
        refine ⟨_,_,_,hq,fun S' h hf _ {R'} k' => ?_⟩
        simp only [ev,ht,opd_le h hx,bnd_le h hl,bnd_le h hh,e1,e2,e3,cond_true]
        rfl
      · cases hq
    · rename_i t1 t0 xs ht hx
      split at hq
      · rename_i l q hl hh
        obtain ⟨e0,hq⟩:=cond_some hq
        obtain ⟨e1,hq⟩:=cond_some hq
        obtain ⟨e2,hq⟩:=cond_some hq
        obtain ⟨e3,hq⟩:=cond_some hq
        refine ⟨_,_,_,hq,fun S' h hf _ {R'} k' => ?_⟩
        simp only [ev,ht,opd_le h hx,bnd_le h hl,bnd_le h hh,e0,e1,e2,e3,cond_true]
        rfl
      · cases hq
    · rename_i t1 id ht hx
      obtain ⟨ew,hq⟩:=cond_some hq
      unfold subO at hq
      split at hq
      case h_2=>cases hq
      rename_i t0 xs sh ho
      split at hq
      case h_2=>cases hq
      rename_i l q hl hh
      obtain ⟨e0,hq⟩:=cond_some hq
      obtain ⟨e1,hq⟩:=cond_some hq
      obtain ⟨e2,hq⟩:=cond_some hq
      obtain ⟨e3,hq⟩:=cond_some hq
      refine ⟨_,_,_,hq,fun S' h hf _ {R'} k' => ?_⟩
      simp only [ev,ht,opd_le h hx,ew,cond_true,subO,h.objs _ _ ho,bnd_le h hl,bnd_le h hh,e0,e1,e2,e3]
      rfl
    · cases hq
  | fieldAddr t x f =>
    simp only [evq] at hq
    split at hq
    · rename_i fs zs l ht hx
      split at hq
      · rename_i off n ag hf
        split at hq
        · rename_i l' hl
          exact ⟨_,_,_,hq,fun S' h _ _ {R'} k' => by simp only [ev,ht,opd_le h hx,hf,hl]; rfl⟩
        · cases hq
      · cases hq
    · cases hq
  | field t x f =>
    simp only [evq] at hq
    split at hq
    · rename_i fs zs ls ht hx
      split at hq
      · rename_i off n hf
        exact ⟨_,_,_,hq,fun S' h _ _ {R'} k' => by simp only [ev,ht,opd_le h hx,hf]; rfl⟩
      · rename_i off n hf
        split at hq
        · rename_i l hl
          exact ⟨_,_,_,hq,fun S' h _ _ {R'} k' => by simp only [ev,ht,opd_le h hx,hf,hl]; rfl⟩
        · cases hq
      · cases hq
    · cases hq
  | indexAddr t x y =>
    simp only [evq] at hq
    split at hq
    · rename_i t1 t0 xs ki n ht hx hy
      obtain ⟨e1,hq⟩:=cond_some hq
      obtain ⟨e2,hq⟩:=cond_some hq
      cases hz : xs[n.toNat]? with
      | none=>rw [hz] at hq; cases hq
      | some e =>
        rw [hz] at hq
        refine ⟨_,_,_,hq,fun S' h _ _ {R'} k' => ?_⟩
        simp only [ev,ht,opd_le h hx,opd_le h hy,e1,e2,cond_true,hz]
        rfl
    · rename_i t1 id p ki n ht hx hy
      obtain ⟨e1,hq⟩:=cond_some hq
      obtain ⟨t0,xs,hk,hg⟩:=Sli_le hq
      obtain ⟨e2,hk⟩:=cond_some hk
      obtain ⟨e3,hk⟩:=cond_some hk
      refine ⟨_,_,_,hk,fun S' h _ _ {R'} k' => ?_⟩
      simp only [ev,ht,opd_le h hx,opd_le h hy,e1,cond_true]
      rw [hg h]
      simp only [e2,e3,cond_true]
      rfl
    · rename_i t1 id lo hi ki n ht hx hy
      unfold subE at hq
      split at hq
      case h_2=>cases hq
      rename_i t0 xs sh ho
      obtain ⟨e1,hq⟩:=cond_some hq
      obtain ⟨e2,hq⟩:=cond_some hq
      obtain ⟨e3,hq⟩:=cond_some hq
      refine ⟨_,_,_,hq,fun S' h _ _ {R'} k' => ?_⟩
      simp only [ev,ht,opd_le h hx,opd_le h hy,subE,h.objs _ _ ho,e1,e2,e3,cond_true]
      rfl
    · cases hq
  | index t x y =>
    simp only [evq] at hq
    split at hq
    · rename_i s ki n ht hx hy
      obtain ⟨e1,hq⟩:=cond_some hq
      obtain ⟨e2,hq⟩:=cond_some hq
      refine ⟨_,_,_,hq,fun S' h _ _ {R'} k' => ?_⟩
      simp only [ev,ht,opd_le h hx,opd_le h hy,e1,e2,cond_true]
      rfl
    · rename_i m sz ag zs ls ki n ht hx hy
      obtain ⟨v,hq,hg⟩:=idxB_le hq
      refine ⟨_,_,_,hq,fun S' h _ _ {R'} k' => ?_⟩
      simp only [ev,ht,opd_le h hx,opd_le h hy,hg]
      rfl
    · cases hq
  | extract x i =>
    simp only [evq] at hq
    split at hq
    · rename_i vs hv
      split at hq
      · rename_i l hl
        exact ⟨_,_,_,hq,fun S' h _ _ {R'} k' => by simp only [ev,opd_le h hv,hl]; rfl⟩
      · rename_i ls hl
        exact ⟨_,_,_,hq,fun S' h _ _ {R'} k' => by simp only [ev,opd_le h hv,hl]; rfl⟩
      · cases hq
    · cases hq
  | call c =>
    obtain ⟨cal,as,ts⟩:=c
    cases cal with
    | builtin bi=>cases bi with
      | len =>
        obtain ⟨al⟩:=as
        obtain ⟨tl⟩:=ts
        simp only [evq] at hq
        split at hq
        · rename_i x t
          split at hq
          · rename_i s ht hx
            exact ⟨_,_,_,hq,fun S' h _ _ {R'} k' => by simp only [ev,ht,opd_le h hx]; rfl⟩
          · rename_i t1 l ht hx
            obtain ⟨t0,xs,hk,hg⟩:=Sli_le hq
            refine ⟨_,_,_,hk,fun S' h _ _ {R'} k' => ?_⟩
            simp only [ev,ht,opd_le h hx]
            rw [hg h]
            rfl
          · cases hq
        · cases hq
      | min =>
        obtain ⟨al⟩:=as
        simp only [evq] at hq
        split at hq
        · split at hq
          · rename_i hx hy
            exact ⟨_,_,_,hq,fun S' h _ _ {R'} k' => by simp only [ev,opd_le h hx,opd_le h hy]; rfl⟩
          · cases hq
        · cases hq
      | max =>
        obtain ⟨al⟩:=as
        simp only [evq] at hq
        split at hq
        · split at hq
          · rename_i hx hy
            exact ⟨_,_,_,hq,fun S' h _ _ {R'} k' => by simp only [ev,opd_le h hx,opd_le h hy]; rfl⟩
          · cases hq
        · cases hq
      | append =>
        obtain ⟨al⟩:=as
        obtain ⟨tl⟩:=ts
        simp only [evq] at hq
        split at hq
        · rename_i s x t t'
          split at hq
          · rename_i t1 l m ht hs hx
            obtain ⟨hb,hq⟩:=cond_some hq
            split at hq
            · rename_i t0
              split at hq
              · rename_i id
                split at hq
                · rename_i t2 ys sh ho
                  refine q_apnd hq fun S' h {R'} k' => ?_
                  simp only [ev,ht,opdT_le h hs,opdT_le h hx,hb,cond_true,h.objs _ _ ho]
                · cases hq
              · rename_i id lo hi
                split at hq
                · rename_i t2 ys sh ho
                  obtain ⟨hfl,hq⟩:=cond_some hq
                  refine q_apnd hq fun S' h {R'} k' => ?_
                  simp only [ev,ht,opdT_le h hs,opdT_le h hx,hb,cond_true,h.objs _ _ ho,hfl]
                · cases hq
              · rename_i t2 ys
                refine q_apnd hq fun S' h {R'} k' => ?_
                simp only [ev,ht,opdT_le h hs,opdT_le h hx,hb,cond_true]
              · rename_i t2
                refine q_apnd hq fun S' h {R'} k' => ?_
                simp only [ev,ht,opdT_le h hs,opdT_le h hx,hb,cond_true]
              · cases hq
            · rename_i id0
              split at hq
              · rename_i t0 xs sh0 ho0
                split at hq
                · rename_i id
                  obtain ⟨hb2,hq⟩:=cond_some' hq
                  split at hq
                  · rename_i t2 ys sh ho
                    refine q_apnd hq fun S' h {R'} k' => ?_
                    simp only [ev,ht,opdT_le h hs,opdT_le h hx,hb,cond_true,h.objs _ _ ho0,h.objs _ _ ho,hb2,cond_false]
                  · cases hq
                · rename_i id lo hi
                  split at hq
                  · rename_i t2 ys sh ho
                    obtain ⟨hfl,hq⟩:=cond_some hq
                    refine q_apnd hq fun S' h {R'} k' => ?_
                    simp only [ev,ht,opdT_le h hs,opdT_le h hx,hb,cond_true,h.objs _ _ ho0,h.objs _ _ ho,hfl]
                  · cases hq
                · rename_i t2 ys
                  refine q_apnd hq fun S' h {R'} k' => ?_
                  simp only [ev,ht,opdT_le h hs,opdT_le h hx,hb,cond_true,h.objs _ _ ho0]
                · rename_i t2
                  refine q_apnd hq fun S' h {R'} k' => ?_
                  simp only [ev,ht,opdT_le h hs,opdT_le h hx,hb,cond_true,h.objs _ _ ho0]
                · cases hq
              · cases hq
            · cases hq
          · cases hq
        · cases hq
      | _=>exact absurd hq (by simp [evq])
    | value f=>cases f with
      | func f =>
        simp only [evq] at hq
        split at hq
        · rename_i c' hc
          refine callCq_le hq rfl fun S' {R'} k' => ?_
          simp only [ev,hc]
        · rename_i hc
          split at hq
          · cases hq
          rename_i hcw
          split at hq
          case h_2=>cases hq
          rename_i t hin
          have hev : ∀ (S' : St C) {R' : Type} (k' : St C→Option R'),ev X ⟨dst,.call { callee := .value (.func f),args:=as,argTypes:=ts },ty,pos,aft,gd⟩ S' k' = insC X t S' as.toList ts.toList ⟨dst,.call { callee := .value (.func f),args:=as,argTypes:=ts },ty,pos,aft,gd⟩ k' := fun S' {R'} k' => by
            simp only [ev,hc,hcw,callN,hin]
          generalize (⟨dst,.call { callee := .value (.func f),args:=as,argTypes:=ts },ty,pos,aft,gd⟩ : Oper)=o at hq hev ⊢
          generalize as.toList=al at hq hev
          generalize ts.toList=tl at hq hev
          unfold insCq at hq
          split at hq
          case h_2=>cases hq
          rename_i s i x T T1 T'
          split at hq
          case h_2=>cases hq
          rename_i l n id hl0 hi0 hx0
          split at hq
          case h_2=>cases hq
          rename_i t1 ys sh ho
          have hq' := cond_some hq
          clear hq
          obtain ⟨hcc,hq⟩:=hq'
          split at hq
          · rename_i t0
            obtain ⟨hn,hq⟩:=cond_some hq
            refine q_apnd hq fun S' h {R'} k' => ?_
            rw [hev]
            simp only [insC,opdT_le h hl0,opd_le h hi0,opd_le h hx0,h.objs _ _ ho,hcc,hn,cond_true]
          · rename_i id0
            obtain ⟨hne,hq⟩:=cond_some' hq
            split at hq
            · rename_i t0 xs sh0 ho0
              obtain ⟨hn,hq⟩:=cond_some hq
              refine q_apnd hq fun S' h {R'} k' => ?_
              rw [hev]
              simp only [insC,opdT_le h hl0,opd_le h hi0,opd_le h hx0,h.objs _ _ ho,h.objs _ _ ho0,hcc,hn,hne,cond_true,cond_false]
            · cases hq
          · cases hq
      | tmp t =>
        simp only [evq] at hq
        split at hq
        · rename_i l hl
          obtain ⟨f,pre,post,h1,h2⟩:=cloOf_le hq
          split at h1
          · rename_i c' hc
            refine callCq_le' h1 rfl fun S' h {R'} k' => ?_
            simp only [ev,h.env t _ hl]
            rw [h2 h]
            simp only [callF,hc]
          · cases h1
        · cases hq
      | _=>exact absurd hq (by simp [evq])
    | invoke x name =>
      simp only [evq] at hq
      obtain ⟨t,v,h1,h2⟩:=ifcOf_le hq
      split at h1
      · rename_i f hm
        split at h1
        · rename_i c' hc
          refine callCq_le' h1 rfl fun S' h {R'} k' => ?_
          simp only [ev]
          rw [h2 h]
          simp only [hm,callF,hc]
        · cases h1
      · cases h1
  | makeFunc fn first captured =>
    simp only [evq] at hq
    split at hq
    case h_2=>cases hq
    split at hq
    case h_2=>cases hq
    rename_i vs us hvs hus
    cases he : (vs++us).isEmpty with
    | true =>
      rw [he] at hq
      simp only [cond_true] at hq
      obtain ⟨hfz,hq⟩:=cond_some' hq
      refine ⟨_,_,_,hq,fun S' h hf _ {R'} k' => ?_⟩
      simp only [ev,argsI_le h hvs,argsI_le h hus,he,cond_true,hfz,cond_false]
      rfl
    | false =>
      rw [he] at hq
      refine ⟨_,_,_,hq,fun S' h hf _ {R'} k' => ?_⟩
      have hu:=hf _ (List.mem_singleton.2 rfl)
      simp only [ev,argsI_le h hvs,argsI_le h hus,he,cond_false,newId_le h,add_of hu]
      rfl
  | makeInterface t x =>
    simp only [evq] at hq
    split at hq
    case h_3=>cases hq
    case h_1 =>
      rename_i ht hv
      refine ⟨_,_,_,hq,fun S' h hf _ {R'} k' => ?_⟩
      simp only [ev,ht,opdT_le h hv]
      rfl
    rename_i tk v hno ht hv
    obtain ⟨e,hq⟩:=cond_some hq
    refine ⟨_,_,_,hq,fun S' h hf _ {R'} k' => ?_⟩
    have hu:=hf (newId X S ⟨dst,.makeInterface t x,ty,pos,aft,gd⟩) (by simp [keysO])
    simp only [ev,ht,opdT_le h hv]
    rcases tk with z | ⟨_ | ⟨_,_⟩,_ | ⟨_,_⟩⟩ | ⟨_,_,_,_⟩ <;> rcases v with l | (_ | ⟨_,_⟩) | _ | _ | _ | _ | _
    all_goals first | exact (hno rfl rfl).elim | (simp only [e,cond_true,newId_le h,add_of hu]; rfl)
  | lookup t x i ok =>
    simp only [evq] at hq
    split at hq
    case h_2=>cases hq
    rename_i m l key hm hx hi
    obtain ⟨e,hq⟩:=cond_some' hq
    obtain ⟨v,h1,h2⟩:=lookV_le hq
    refine ⟨_,_,_,h1,fun S' h hf _ {R'} k' => ?_⟩
    simp only [ev,hm,opd_le h hx,opd_le h hi,e,cond_false]
    rw [h2 h]
    rfl
  | _=>exact absurd hq (by simp [evq])
end
end Go.Proofs.Ytakakoogpmhhkaa.Ab

/- The abstract machine,part 24: what a set of operations brings,in whatever order. -/
set_option linter.unusedVariables false
set_option linter.unusedSimpArgs false
set_option linter.unusedSectionVars false
namespace Go.Proofs.Ytakakoogpmhhkaa.Ab
open Go Go.RowKit

section
variable {Ty : Type} [DecidableEq Ty] {C : Ty→Type}
variable {X : Cx C} {S0 S S' : St C} {R : Type} {r : R} {tab : List (Nat×Nat)}

def Ent.val (e : Ent C) : Option (SV C):=match e.eff with
  | some (v,_,_)=>some v
  | none=>none
def Ent.news (e : Ent C) : List (Nat×Ob C):=match e.eff with
  | some (_,news,_)=>news
  | none=>[]
theorem app_objs (S : St C) (e : Ent C) : (e.app S).objs=e.news++rmAll e.dels S.objs:=by
  obtain ⟨ix,dst,ef,need⟩:=e
  cases ef with
  | none=>rfl
  | some x=>obtain ⟨v,news,dels⟩:=x; cases dst <;> rfl
theorem app_base (S : St C) (e : Ent C) : (e.app S).base=S.base:=by
  obtain ⟨ix,dst,ef,need⟩:=e
  cases ef with
  | none=>rfl
  | some x=>obtain ⟨v,news,dels⟩:=x; cases dst <;> rfl
theorem app_env (S : St C) (e : Ent C) (t : Nat) : lk (e.app S).env t=if e.dst=some t∧e.val.isSome then e.val else lk S.env t:=by
  obtain ⟨ix,dst,ef,need⟩:=e
  cases ef with
  | none=>simp [Ent.app,Ent.val]
  | some x =>
    obtain ⟨v,news,dels⟩:=x
    cases dst with
    | none=>simp [Ent.app,Ent.val,St.put]
    | some d =>
      simp only [Ent.app,Ent.val,St.put,lk_cons]
      by_cases e : t=d
      · subst e; simp
      · have : ¬ d=t:=fun h=>e h.symm
        simp [e,this]
theorem newK_news (e : Ent C) : e.newK=keysO e.news:=by
  obtain ⟨ix,dst,ef,need⟩:=e
  cases ef with
  | none=>rfl
  | some x=>rfl
theorem lk_keys {l : List (Nat×Ob C)} {id : Nat} {ob : Ob C} (h : lk l id=some ob) : id ∈ keysO l:=by
  induction l with
  | nil=>simp [lk] at h
  | cons x l ih =>
    obtain ⟨m,o⟩:=x
    rw [lk_cons] at h
    simp only [keysO,List.map_cons,List.mem_cons]
    split at h
    · rename_i e; exact .inl e
    · exact .inr (ih h)
theorem keys_lk {l : List (Nat×Ob C)} {id : Nat} (h : id ∈ keysO l) : ∃ ob,lk l id=some ob:=by
  induction l with
  | nil=>simp [keysO] at h
  | cons x l ih =>
    obtain ⟨m,o⟩:=x
    simp only [keysO,List.map_cons,List.mem_cons] at h
    rw [lk_cons]
    by_cases e : id=m
    · exact ⟨o,by simp [e]⟩
    · rw [if_neg e]
      exact ih (h.resolve_left e)
theorem keys_ids {l : List (Nat×Ob C)} {id : Nat} (h : id ∈ keysO l) : id ∈ idsO l:=by
  induction l with
  | nil=>simp [keysO] at h
  | cons x l ih =>
    obtain ⟨m,o⟩:=x
    simp only [keysO,List.map_cons,List.mem_cons] at h
    cases o <;> simp only [idsO,List.mem_cons,List.mem_append] <;> rcases h with h | h
    · exact .inl h
    · exact .inr (.inr (ih h))
    · exact .inl h
    · exact .inr (ih h)
    · exact .inl h
    · exact .inr (ih h)
    · exact .inl h
    · exact .inr (ih h)

theorem SD_base : ∀ (es : List (Ent C)),(SD S0 es).base=S0.base
  | []=>rfl
  | e::es=>(app_base _ e).trans (SD_base es)

def Valid (tab : List (Nat×Nat)) (es : List (Ent C)) : Prop:=es.Pairwise fun e m=>m.ix≠e.ix∧has tab m.ix e.ix=false

/-- What the check of a layer says. -/
structure LayP (S0 : St C) (tab : List (Nat×Nat)) (ents : List (Ent C)) : Prop where
  self : ∀ e,e ∈ ents→selfB S0 e=true
  pair : ∀ e m,e ∈ ents→m ∈ ents→e.ix≠m.ix→pairB tab e m=true
theorem layP_of {ents : List (Ent C)} (h : layB S0 tab ents=true) : LayP S0 tab ents:=by
  unfold layB at h
  rw [List.all_eq_true] at h
  refine ⟨fun e he => ?_,fun e m he hm hne => ?_⟩
  · have:=h e he
    simp only [Bool.and_eq_true] at this
    exact this.1
  · have:=h e he
    simp only [Bool.and_eq_true,List.all_eq_true,Bool.or_eq_true] at this
    rcases this.2 m hm with hb | hb
    · exact absurd (Nat.eq_of_beq_eq_true hb) hne
    · exact hb
theorem apartN_ok {a b : List Nat} (h : apartN a b=true) {n : Nat} (ha : n ∈ a) : n ∉ b:=by
  unfold apartN at h
  rw [List.all_eq_true] at h
  have:=h n ha
  simp only [Bool.not_eq_true'] at this
  exact beq_any this
section
variable {ents : List (Ent C)} (hL : LayP S0 tab ents)
include hL
theorem lay_dst {e m : Ent C} (he : e ∈ ents) (hm : m ∈ ents) (hne : e.ix≠m.ix) {t : Nat} (h1 : e.dst=some t) : m.dst≠some t:=by
  intro h2
  have:=hL.pair e m he hm hne
  simp [pairB,sameD,h1,h2,Nat.beq_refl] at this
theorem lay_new {e m : Ent C} (he : e ∈ ents) (hm : m ∈ ents) (hne : e.ix≠m.ix) {id : Nat} (h1 : id ∈ e.newK) : id ∉ m.newK:=by
  have:=hL.pair e m he hm hne
  simp only [pairB,Bool.and_eq_true] at this
  exact apartN_ok this.1.1.2 h1
theorem lay_names {e m : Ent C} (he : e ∈ ents) (hm : m ∈ ents) (hne : e.ix≠m.ix) (hno : has tab m.ix e.ix=false) {id : Nat} (h1 : id ∈ e.newK) : id ∉ m.names∧id ∉ m.dels:=by
  have:=hL.pair e m he hm hne
  simp only [pairB,Bool.and_eq_true,hno,Bool.false_or] at this
  exact ⟨apartN_ok this.1.2.1 h1,apartN_ok this.1.2.2 h1⟩
theorem lay_need {e m : Ent C} (he : e ∈ ents) (hm : m ∈ ents) (hne : e.ix≠m.ix) (h0 : has tab e.ix m.ix=false) (hno : has tab m.ix e.ix=false) {id : Nat} (h1 : id ∈ m.dels) : id ∉ e.need:=by
  have:=hL.pair e m he hm hne
  simp only [pairB,Bool.and_eq_true,hno,h0,Bool.false_or] at this
  exact apartN_ok this.2 h1
theorem lay_self {e : Ent C} (he : e ∈ ents) {id : Nat} (h1 : id ∈ e.newK) : id ∉ e.dels∧Unnamed S0 id:=by
  have:=hL.self e he
  simp only [selfB,Bool.and_eq_true] at this
  have h2:=apartN_ok this.1.2 h1
  exact ⟨apartN_ok this.1.1.1 h1,fun h=>h2 (by simp [h]),fun h=>h2 (by simp [h])⟩
theorem lay_nodup {e : Ent C} (he : e ∈ ents) : nodupN e.newK=true:=by
  have:=hL.self e he
  simp only [selfB,Bool.and_eq_true] at this
  exact this.1.1.2
theorem lay_free {e : Ent C} (he : e ∈ ents) {t : Nat} (h1 : e.dst=some t) : lk S0.env t=none:=by
  have:=hL.self e he
  simp only [selfB,Bool.and_eq_true,h1] at this
  simpa using this.2

theorem val_env : ∀ {es : List (Ent C)},Valid tab es→(∀ e,e ∈ es→e ∈ ents) → ∀ t v,lk (SD S0 es).env t=some v↔(∃ m,m ∈ es∧m.dst=some t∧m.val=some v)∨((∀ m,m ∈ es→m.dst=some t→m.val=none)∧lk S0.env t=some v)
  | [],_,_,t,v=>by simp [SD]
  | e::es,hv,hs,t,v=>by
    have hv' := List.pairwise_cons.1 hv
    have ih:=val_env (es:=es) hv'.2 (fun m hm=>hs m (by simp [hm])) t v
    rw [SD,app_env]
    have he:=hs e (by simp)
    by_cases hc : e.dst=some t∧e.val.isSome
    · rw [if_pos hc]
      constructor
      · intro h; exact .inl ⟨e,by simp,hc.1,h⟩
      · rintro (⟨m,hm,h1,h2⟩ | ⟨h1,h2⟩)
        · rcases List.mem_cons.1 hm with e' | hm
          · subst e'; exact h2
          · exact absurd h1 (lay_dst hL he (hs m (by simp [hm])) (fun h=>(hv'.1 m hm).1 h.symm) hc.1)
        · have:=h1 e (by simp) hc.1
          rw [this] at hc
          simp at hc
    · rw [if_neg hc,ih]
      constructor
      · rintro (⟨m,hm,h⟩ | ⟨h1,h2⟩)
        · exact .inl ⟨m,by simp [hm],h⟩
        · refine .inr ⟨fun m hm h => ?_,h2⟩
          rcases List.mem_cons.1 hm with e' | hm
          · subst e'
            cases hval : m.val with
            | none=>rfl
            | some x=>exact absurd ⟨h,by simp [hval]⟩ hc
          · exact h1 m hm h
      · rintro (⟨m,hm,h1,h2⟩ | ⟨h1,h2⟩)
        · rcases List.mem_cons.1 hm with e' | hm
          · subst e'; exact absurd ⟨h1,by simp [h2]⟩ hc
          · exact .inl ⟨m,hm,h1,h2⟩
        · exact .inr ⟨fun m hm=>h1 m (by simp [hm]),h2⟩

def ValO (S0 : St C) (es : List (Ent C)) (id : Nat) (ob : Ob C) : Prop :=
  (∀ m,m ∈ es→id ∉ m.dels)∧((∃ m,m ∈ es∧lk m.news id=some ob)∨((∀ m,m ∈ es→id ∉ m.newK)∧lk S0.objs id=some ob))
theorem val_objs : ∀ {es : List (Ent C)},Valid tab es→(∀ e,e ∈ es→e ∈ ents) → ∀ id ob,lk (SD S0 es).objs id=some ob↔ValO S0 es id ob
  | [],_,_,id,ob=>by simp [SD,ValO]
  | e::es,hv,hs,id,ob=>by
    have hv' := List.pairwise_cons.1 hv
    have ih:=val_objs (es:=es) hv'.2 (fun m hm=>hs m (by simp [hm])) id ob
    have he:=hs e (by simp)
    rw [SD,app_objs,lk_append]
    cases hn : lk e.news id with
    | some ob' =>
      simp only [Option.some.injEq]
      have hk : id ∈ e.newK:=by rw [newK_news]; exact lk_keys hn
      constructor
      · intro h
        subst h
        refine ⟨fun m hm => ?_,.inl ⟨e,by simp,hn⟩⟩
        rcases List.mem_cons.1 hm with e' | hm
        · subst e'; exact (lay_self hL he hk).1
        · exact (lay_names hL he (hs m (by simp [hm])) (fun h=>(hv'.1 m hm).1 h.symm) (hv'.1 m hm).2 hk).2
      · rintro ⟨h1,⟨m,hm,h2⟩ | ⟨h2,h3⟩⟩
        · rcases List.mem_cons.1 hm with e' | hm
          · subst e'; rw [hn] at h2; exact Option.some.inj h2
          · refine absurd ?_ (lay_new hL he (hs m (by simp [hm])) (fun h=>(hv'.1 m hm).1 h.symm) hk)
            rw [newK_news]; exact lk_keys h2
        · exact absurd hk (h2 e (by simp))
    | none =>
      simp only [lk_rmAll]
      have hk : id ∉ e.newK:=by
        rw [newK_news]
        intro h
        obtain ⟨ob',h'⟩:=keys_lk h
        rw [hn] at h'
        cases h'
      by_cases hd : id ∈ e.dels
      · rw [if_pos hd]
        constructor
        · intro h; cases h
        · rintro ⟨h1,_⟩; exact absurd hd (h1 e (by simp))
      · rw [if_neg hd,ih]
        constructor
        · rintro ⟨h1,h2⟩
          refine ⟨fun m hm => ?_,?_⟩
          · rcases List.mem_cons.1 hm with e' | hm
            · subst e'; exact hd
            · exact h1 m hm
          · rcases h2 with ⟨m,hm,h⟩ | ⟨h2,h3⟩
            · exact .inl ⟨m,by simp [hm],h⟩
            · refine .inr ⟨fun m hm => ?_,h3⟩
              rcases List.mem_cons.1 hm with e' | hm
              · subst e'; exact hk
              · exact h2 m hm
        · rintro ⟨h1,h2⟩
          refine ⟨fun m hm=>h1 m (by simp [hm]),?_⟩
          rcases h2 with ⟨m,hm,h⟩ | ⟨h2,h3⟩
          · rcases List.mem_cons.1 hm with e' | hm
            · subst e'; rw [hn] at h; cases h
            · exact .inl ⟨m,hm,h⟩
          · exact .inr ⟨fun m hm=>h2 m (by simp [hm]),h3⟩
end

theorem idsE_app {S : St C} {e : Ent C} {id : Nat} (h : id ∈ idsE0 (e.app S).env) : id ∈ idsE0 S.env∨id ∈ e.names:=by
  obtain ⟨ix,dst,ef,need⟩:=e
  cases ef with
  | none=>exact .inl h
  | some x =>
    obtain ⟨v,news,dels⟩:=x
    cases dst with
    | none=>exact .inl h
    | some d =>
      simp only [Ent.app,St.put,idsE0,List.mem_append] at h
      rcases h with h | h
      · exact .inr (by simp [Ent.names,h])
      · exact .inl h
theorem idsO_append {l m : Objs C} {id : Nat} (h : id ∈ idsO (l++m)) : id ∈ idsO l∨id ∈ idsO m:=by
  induction l with
  | nil=>exact .inr h
  | cons x l ih =>
    obtain ⟨n,o⟩:=x
    cases o <;> simp only [List.cons_append,idsO,List.mem_cons,List.mem_append] at h ⊢
    · rcases h with h | h | h
      · exact .inl (.inl h)
      · exact .inl (.inr (.inl h))
      · rcases ih h with h | h
        · exact .inl (.inr (.inr h))
        · exact .inr h
    · rcases h with h | h
      · exact .inl (.inl h)
      · rcases ih h with h | h
        · exact .inl (.inr h)
        · exact .inr h
    · rcases h with h | h
      · exact .inl (.inl h)
      · rcases ih h with h | h
        · exact .inl (.inr h)
        · exact .inr h
    · rcases h with h | h
      · exact .inl (.inl h)
      · rcases ih h with h | h
        · exact .inl (.inr h)
        · exact .inr h
theorem idsO_app {S : St C} {e : Ent C} {id : Nat} (h : id ∈ idsO (e.app S).objs) : id ∈ idsO S.objs∨id ∈ e.names:=by
  rw [app_objs] at h
  rcases idsO_append h with h | h
  · refine .inr ?_
    obtain ⟨ix,dst,ef,need⟩:=e
    cases ef with
    | none=>simp [Ent.news,idsO] at h
    | some x=>simp only [Ent.news] at h; simp [Ent.names,h]
  · exact .inl (idsO_rmAll (l:=S.objs) h)
theorem SD_named {id : Nat} : ∀ {es : List (Ent C)},(id ∈ idsE0 (SD S0 es).env∨id ∈ idsO (SD S0 es).objs)→id ∈ idsE0 S0.env∨id ∈ idsO S0.objs ∨ ∃ m,m ∈ es∧id ∈ m.names
  | [],h=>by
    rcases h with h | h
    · exact .inl h
    · exact .inr (.inl h)
  | e::es,h=>by
    have : (id ∈ idsE0 (SD S0 es).env∨id ∈ idsO (SD S0 es).objs)∨id ∈ e.names:=by
      rcases h with h | h
      · rcases idsE_app h with h | h
        · exact .inl (.inl h)
        · exact .inr h
      · rcases idsO_app h with h | h
        · exact .inl (.inr h)
        · exact .inr h
    rcases this with h | h
    · rcases SD_named h with h | h | ⟨m,hm,h⟩
      · exact .inl h
      · exact .inr (.inl h)
      · exact .inr (.inr ⟨m,by simp [hm],h⟩)
    · exact .inr (.inr ⟨e,by simp,h⟩)

theorem lk_tidyA {α : Type} (E : List (Nat×α)) : ∀ (keep : List Nat) t v,lk (tidyA E keep) t=some v→lk E t=some v∧t ∈ keep
  | [],t,v,h=>by simp [tidyA,lk] at h
  | d::r,t,v,h=>by
    simp only [tidyA] at h
    cases hd : lk E d with
    | none =>
      rw [hd] at h
      obtain ⟨h1,h2⟩:=lk_tidyA E r t v h
      exact ⟨h1,by simp [h2]⟩
    | some u =>
      rw [hd] at h
      simp only [lk_cons] at h
      by_cases e : t=d
      · subst e; simp at h; subst h; exact ⟨hd,by simp⟩
      · rw [if_neg e] at h
        obtain ⟨h1,h2⟩:=lk_tidyA E r t v h
        exact ⟨h1,by simp [h2]⟩

/-- Two orders of the same operations. -/
theorem sim_perm {P : Program} {K : Cd C} {w0 w : World} {nt : Nat} {a : Act} {ents es fs : List (Ent C)} (hL : LayP S0 tab ents) (he : Valid tab es) (hf : Valid tab fs) (hes : ∀ e,e ∈ es→e ∈ ents) (hsame : ∀ e,e ∈ fs↔e ∈ es)
    (h : SimE K w0 nt (SD S0 es) a w) : SimE K w0 nt (SD S0 fs) a w:=by
  obtain ⟨β,fp,h⟩:=h
  have hfs : ∀ e,e ∈ fs→e ∈ ents:=fun e h=>hes e ((hsame e).1 h)
  have h2:=(h.sub (O:=(SD S0 fs).objs) (fun id ob hi=>(val_objs hL he hes id ob).2 (by
    have:=(val_objs hL hf hfs id ob).1 hi
    simpa only [ValO,hsame] using this))).less (SD S0 fs).env (fun t v ht=>(val_env hL he hes t v).2 (by
      have:=(val_env hL hf hfs t v).1 ht
      simpa only [hsame] using this))
  have e : ({ ({ (SD S0 es) with objs:=(SD S0 fs).objs } : St C) with env:=(SD S0 fs).env } : St C)=SD S0 fs:=by
    have : (SD S0 es).base=(SD S0 fs).base:=by rw [SD_base,SD_base]
    rw [St.mk.injEq]
    exact ⟨rfl,rfl,this⟩
  rw [e] at h2
  exact ⟨β,fp,h2⟩
end
end Go.Proofs.Ytakakoogpmhhkaa.Ab

/- The abstract machine,part 25: regions whose order is drawn. -/
set_option linter.unusedVariables false
set_option linter.unusedSimpArgs false
set_option linter.unusedSectionVars false
namespace Go.Proofs.Ytakakoogpmhhkaa.Ab
open Go Go.RowKit

section
variable {Ty : Type} [DecidableEq Ty] {C : Ty→Type}
variable {P : Program} {X : Cx C} {w0 : World} {nt : Nat} {S0 S S' : St C} {R : Type} {k : St C→Option R} {r : R} {tab : List (Nat×Nat)} {all : Array Oper} {Q : Exit→Act→World→Prop} {ρ : Nat→Nat}

/-! ### Who comes before whom -/
theorem anc1_has {j : Nat} : ∀ {l : List Edge},Nat.testBit (anc1 tab l) j=true → ∃ e,e ∈ l∧Region.binds .any e=true∧(e.on=j∨has tab e.on j=true)
  | [],h=>by simp [anc1] at h
  | e::l,h=>by
    simp only [anc1] at h
    cases hb : Region.binds .any e with
    | false =>
      rw [hb] at h
      obtain ⟨e',h1,h2⟩:=anc1_has (l:=l) h
      exact ⟨e',by simp [h1],h2⟩
    | true =>
      rw [hb] at h
      have h : Nat.testBit ((2 ^ e.on ||| (lk tab e.on).getD 0) ||| anc1 tab l) j=true:=h
      rw [Nat.testBit_or,Nat.testBit_or,Nat.testBit_two_pow,Bool.or_eq_true,Bool.or_eq_true,decide_eq_true_eq] at h
      rcases h with (h | h) | h
      · exact ⟨e,by simp,hb,.inl h⟩
      · exact ⟨e,by simp,hb,.inr h⟩
      · obtain ⟨e',h1,h2⟩:=anc1_has (l:=l) h
        exact ⟨e',by simp [h1],h2⟩

theorem mem_below : ∀ {n j : Nat},j<n→j ∈ Ab.below n
  | n+1,j,h=>by
    simp only [Ab.below,List.mem_cons]
    rcases Nat.lt_succ_iff_lt_or_eq.1 h with h | h
    · exact .inr (mem_below h)
    · exact .inl h

structure PreP (X : Cx C) (ρ : Nat→Nat) (all : Array Oper) (tab : List (Nat×Nat)) : Prop where
  edge : ∀ (i : Nat) (o : Oper),all[i]? = some o → ∀ e,e ∈ o.after.toList→Region.binds .any e=true→e.on<i
  anc : ∀ (i : Nat) (o : Oper),all[i]? = some o → ∀ j,has tab i j=true → ∃ e,e ∈ o.after.toList∧Region.binds .any e=true∧(e.on=j∨has tab e.on j=true)
  eff : ∀ (i : Nat) (o : Oper),all[i]? = some o → ∀ j,j<all.size→ρ j<ρ i→isEat X all j=true→has tab i j=true
  topo : ∀ i,i<all.size → ∀ j,has tab i j=true→ρ j<ρ i
  grd : ∀ (i : Nat) (o : Oper),all[i]? = some o→isE X o=true→o.guard=none
theorem preP_list : ∀ (l : List Oper) (n : Nat),preOps X all tab n l=true → ∀ (i : Nat) (o : Oper),l[i]? = some o→preOp X all tab (n+i) o=true
  | [],n,h,i,o,hi=>by simp at hi
  | x::l,n,h,i,o,hi=>by
    simp only [preOps,Bool.and_eq_true] at h
    cases i with
    | zero=>simp at hi; subst hi; exact h.1
    | succ i =>
      have:=preP_list l (n+1) h.2 i o (by simpa using hi)
      rwa [Nat.add_assoc,Nat.add_comm 1 i] at this
/-- The place of a number in a list. -/
def rkO : List Nat→Nat→Nat
  | [],_=>0
  | j::r,i=>cond (Nat.beq i j) 0 (rkO r i+1)
theorem anyB {i : Nat} {l : List Nat} : l.any (Nat.beq i)=true↔i ∈ l:=by
  constructor
  · intro h
    obtain ⟨j,hj,e⟩:=List.any_eq_true.1 h
    have:=Nat.eq_of_beq_eq_true e
    subst this
    exact hj
  · intro h
    exact List.any_eq_true.2 ⟨i,h,Nat.beq_refl i⟩
theorem pairO_ok : ∀ {l : List Nat},pairO X all tab l=true → ∀ i j,i ∈ l→j ∈ l→rkO l j<rkO l i→(isEat X all j=true→has tab i j=true)∧has tab j i=false
  | [],_,i,j,hi,_,_=>by cases hi
  | m::r,h,i,j,hi,hj,hlt=>by
    simp only [pairO,Bool.and_eq_true,List.all_eq_true,Bool.not_eq_true',Bool.or_eq_true] at h
    obtain ⟨⟨h1,h2⟩,h3⟩:=h
    simp only [rkO] at hlt
    by_cases ei : i=m
    · subst ei
      simp [Nat.beq_refl] at hlt
    · have bi : Nat.beq i m=false:=by
        cases hb : Nat.beq i m with
        | false=>rfl
        | true=>exact absurd (Nat.eq_of_beq_eq_true hb) ei
      have hi' : i ∈ r:=(List.mem_cons.1 hi).resolve_left ei
      by_cases ej : j=m
      · subst ej
        obtain ⟨q1,q2⟩:=h1 i hi'
        refine ⟨fun hE => ?_,q2⟩
        rcases q1 with q1 | q1
        · rw [hE] at q1; cases q1
        · exact q1
      · have bj : Nat.beq j m=false:=by
          cases hb : Nat.beq j m with
          | false=>rfl
          | true=>exact absurd (Nat.eq_of_beq_eq_true hb) ej
        rw [bi,bj] at hlt
        simp only [cond_false] at hlt
        exact pairO_ok h3 i j hi' ((List.mem_cons.1 hj).resolve_left ej) (by omega)
theorem rkO_inj : ∀ {l : List Nat} {i j : Nat},i ∈ l→j ∈ l→rkO l i=rkO l j→i=j
  | [],i,j,hi,_,_=>by cases hi
  | m::r,i,j,hi,hj,h=>by
    simp only [rkO] at h
    cases bi : Nat.beq i m with
    | true =>
      cases bj : Nat.beq j m with
      | true=>rw [Nat.eq_of_beq_eq_true bi,Nat.eq_of_beq_eq_true bj]
      | false=>rw [bi,bj] at h; simp at h
    | false =>
      cases bj : Nat.beq j m with
      | true=>rw [bi,bj] at h; simp at h
      | false =>
        rw [bi,bj] at h
        simp only [cond_false,Nat.add_right_cancel_iff] at h
        have ni : i≠m:=fun e=>by rw [e,Nat.beq_refl] at bi; cases bi
        have nj : j≠m:=fun e=>by rw [e,Nat.beq_refl] at bj; cases bj
        exact rkO_inj ((List.mem_cons.1 hi).resolve_left ni) ((List.mem_cons.1 hj).resolve_left nj) h
theorem pairO_asc : ∀ {l : List Nat},pairO X all tab l=true→l.Pairwise fun a b=>rkO l a<rkO l b
  | [],_=>List.Pairwise.nil
  | m::r,h=>by
    simp only [pairO,Bool.and_eq_true,Bool.not_eq_true'] at h
    have hm : m ∉ r:=fun hm=>by rw [anyB.2 hm] at h; cases h.1.2
    have bm : ∀ {x},x ∈ r→Nat.beq x m=false:=fun {x} hx=>by
      cases hb : Nat.beq x m with
      | false=>rfl
      | true=>exact absurd (Nat.eq_of_beq_eq_true hb ▸ hx) hm
    refine List.pairwise_cons.2 ⟨fun x hx => ?_,?_⟩
    · simp only [rkO,bm hx,Nat.beq_refl,cond_true,cond_false]
      omega
    · refine (pairO_asc h.2).imp_of_mem fun {a b} ha hb hlt => ?_
      simp only [rkO,bm ha,bm hb,cond_false]
      omega
/-- What the text's order tells. -/
structure PreN (X : Cx C) (all : Array Oper) (tab : List (Nat×Nat)) : Prop where
  edge : ∀ (i : Nat) (o : Oper),all[i]? = some o → ∀ e,e ∈ o.after.toList→Region.binds .any e=true→e.on<i
  anc : ∀ (i : Nat) (o : Oper),all[i]? = some o → ∀ j,has tab i j=true → ∃ e,e ∈ o.after.toList∧Region.binds .any e=true∧(e.on=j∨has tab e.on j=true)
  grd : ∀ (i : Nat) (o : Oper),all[i]? = some o→isE X o=true→o.guard=none
theorem preN_of (h : preOps X all tab 0 all.toList=true) : PreN X all tab:=by
  have key : ∀ (i : Nat) (o : Oper),all[i]? = some o→preOp X all tab i o=true:=fun i o hi=>by
    have:=preP_list all.toList 0 h i o (by simpa using hi)
    simpa using this
  refine ⟨fun i o hi e he hb => ?_,fun i o hi j hj => ?_,fun i o hi hE => ?_⟩
  · have:=key i o hi
    simp only [preOp,Bool.and_eq_true,List.all_eq_true] at this
    have:=this.1.1 e he
    rw [hb] at this
    simp only [Bool.not_true,Bool.false_or] at this
    have h2 : Nat.ble (e.on+1) i=true:=this
    exact Nat.le_of_ble_eq_true h2
  · have:=key i o hi
    simp only [preOp,Bool.and_eq_true] at this
    have e:=Nat.eq_of_beq_eq_true this.1.2
    unfold has at hj
    rw [e] at hj
    exact anc1_has hj
  · have:=key i o hi
    simp only [preOp,Bool.and_eq_true] at this
    have:=this.2
    rw [hE] at this
    simpa using this
theorem has_ltN (hp : PreN X all tab) : ∀ i,i<all.size → ∀ j,has tab i j=true→j<i:=by
  intro i
  induction i using Nat.strongRecOn with
  | _ i ih =>
    intro hi j hj
    obtain ⟨e,he,hb,h⟩:=hp.anc i all[i] (by simp [hi]) j hj
    have hlt:=hp.edge i all[i] (by simp [hi]) e he hb
    rcases h with h | h
    · omega
    · have:=ih e.on hlt (by omega) j h
      omega
theorem preP_of (h : (preOps X all tab 0 all.toList&&preO X all tab (ordX X all tab))=true) : PreP X (rkO (ordX X all tab)) all tab:=by
  obtain ⟨h,h'⟩:=(Bool.and_eq_true ..).mp h
  simp only [preO,Bool.and_eq_true,List.all_eq_true] at h'
  obtain ⟨hpo,hcov⟩:=h'
  have hN:=preN_of h
  have hin : ∀ i,i<all.size→i ∈ ordX X all tab:=fun i hi=>anyB.1 (hcov i (mem_below hi))
  refine ⟨hN.edge,hN.anc,fun i o hi j hj hlt hE => ?_,fun i hi j hj => ?_,hN.grd⟩
  · have hi' : i<all.size:=by
      rcases Nat.lt_or_ge i all.size with h | h
      · exact h
      · simp [Array.getElem?_eq_none h] at hi
    exact (pairO_ok hpo i j (hin i hi') (hin j hj) hlt).1 hE
  · have hlt:=has_ltN hN i hi j hj
    rcases Nat.lt_trichotomy (rkO (ordX X all tab) j) (rkO (ordX X all tab) i) with h | h | h
    · exact h
    · have:=rkO_inj (hin j (by omega)) (hin i hi) h; omega
    · have:=(pairO_ok hpo j i (hin j (by omega)) (hin i hi) h).2
      rw [hj] at this; cases this

theorem has_lt (hp : PreP X ρ all tab) : ∀ i,i<all.size → ∀ j,has tab i j=true→j<i:=has_ltN ⟨hp.edge,hp.anc,hp.grd⟩

def Listed (listed : Array Bool) (i : Nat) : Prop:=listed.getD i false=true
def Closed (all : Array Oper) (listed : Array Bool) : Prop := ∀ (i : Nat) (o : Oper),all[i]? = some o→Listed listed i → ∀ e,e ∈ o.after.toList→Region.binds .any e=true→Listed listed e.on
theorem has_listed (hp : PreP X ρ all tab) {listed : Array Bool} (hc : Closed all listed) : ∀ i,(o : Oper)→all[i]? = some o→(∀ e,e ∈ o.after.toList→Region.binds .any e=true→Listed listed e.on) → ∀ j,has tab i j=true→Listed listed j:=by
  intro i
  induction i using Nat.strongRecOn with
  | _ i ih =>
    intro o hi hl j hj
    obtain ⟨e,he,hb,h⟩:=hp.anc i o hi j hj
    have hlt:=hp.edge i o hi e he hb
    rcases h with h | h
    · subst h; exact hl e he hb
    · have hi' : i<all.size:=by
        rcases Nat.lt_or_ge i all.size with h | h
        · exact h
        · simp [Array.getElem?_eq_none h] at hi
      have he' : all[e.on]? = some all[e.on]:=by simp [show e.on<all.size by omega]
      exact ih e.on hlt _ he' (fun e2 h2 hb2=>hc e.on _ he' (hl e he hb) e2 h2 hb2) j h

/-! ### A layer -/
def wantB (o : Oper) (b : Bool) : Prop:=match o.guard with
  | none=>True
  | some (_,want)=>b=want
/-- What is known of an operation of a layer. -/
structure EntOk (X : Cx C) (all : Array Oper) (tab : List (Nat×Nat)) (S0 : St C) (ents : List (Ent C)) (e : Ent C) : Prop where
  ex : ∃ o,all[e.ix]? = some o∧e.dst=o.dst ∧
    (match o.guard with
      | none=>e.ran=true
      | some (j,want)=>has tab e.ix j=true ∧ ∃ (m : Ent C),m ∈ ents∧m.ix=j∧m.dst.isSome=true∧((∃ b,m.val=some (.one (.bool b))∧(e.ran=true↔b=want))∨(m.val=some .und∧e.ran=false))) ∧
    (e.ran=false→e.eff=some (.und,[],[]))∧e.eff.isSome=true ∧
    ∀ v news dels,e.ran=true→e.eff=some (v,news,dels) → ∃ (fs : List (Ent C)) (mn : St C),Valid tab fs∧(∀ m,m ∈ fs→m ∈ ents∧has tab e.ix m.ix=true)∧(∀ m,m ∈ ents→has tab e.ix m.ix=true→m ∈ fs) ∧
      (∀ t v,lk mn.env t=some v→lk (SD S0 fs).env t=some v)∧(∀ id ob,lk mn.objs id=some ob→lk (SD S0 fs).objs id=some ob∧id ∈ e.need)∧mn.base=S0.base ∧
      ∀ S',Le mn S' → (∀ id,id ∈ keysO news→Unnamed S' id)→nodupN (keysO news)=true → ∀ {R' : Type} (k' : St C→Option R'),ev X o S' k' = k' (eff S' o.dst v news dels)
theorem EntOk.mono {ents ents' : List (Ent C)} {e : Ent C} (h : EntOk X all tab S0 ents e) (hm : ∀ m,m ∈ ents→m ∈ ents') (hx : ∀ m,m ∈ ents' → m ∈ ents∨has tab e.ix m.ix=false) : EntOk X all tab S0 ents' e:=by
  obtain ⟨o,h1,h2,h3,h5,h6,h4⟩:=h.ex
  refine ⟨o,h1,h2,?_,h5,h6,fun v news dels hr he => ?_⟩
  · split at h3
    · exact h3
    · obtain ⟨a,m,q1,q2⟩:=h3
      exact ⟨a,m,hm m q1,q2⟩
  · obtain ⟨fs,mn,q1,q2,q3,q4⟩:=h4 v news dels hr he
    refine ⟨fs,mn,q1,fun m h=>⟨hm m (q2 m h).1,(q2 m h).2⟩,fun m h h' => ?_,q4⟩
    rcases hx m h with hx | hx
    · exact q3 m hx h'
    · rw [hx] at h'; cases h'

structure Lay (X : Cx C) (ρ : Nat→Nat) (all : Array Oper) (tab : List (Nat×Nat)) (S0 : St C) (ents : List (Ent C)) : Prop where
  desc : ents.Pairwise fun e m=>ρ m.ix<ρ e.ix
  rng : ∀ e,e ∈ ents→e.ix<all.size
  ok : ∀ e,e ∈ ents→EntOk X all tab S0 ents e
theorem Lay.valid (hp : PreP X ρ all tab) {ents : List (Ent C)} (h : Lay X ρ all tab S0 ents) : Valid tab ents:=by
  refine h.desc.imp_of_mem ?_
  intro e m he hm hlt
  refine ⟨fun e' => by rw [e'] at hlt; omega,?_⟩
  cases hb : has tab m.ix e.ix with
  | false=>rfl
  | true =>
    have:=hp.topo m.ix (h.rng m hm) e.ix hb
    omega
theorem Lay.push (hp : PreP X ρ all tab) {ents : List (Ent C)} (h : Lay X ρ all tab S0 ents) {e : Ent C} (hqs : e.ix<all.size) (hq : ∀ m,m ∈ ents→ρ m.ix<ρ e.ix) (he : EntOk X all tab S0 (e::ents) e) : Lay X ρ all tab S0 (e::ents):=by
  refine ⟨List.pairwise_cons.2 ⟨fun m hm=>hq m hm,h.desc⟩,fun m hm => ?_,fun m hm => ?_⟩
  · rcases List.mem_cons.1 hm with e' | hm
    · subst e'; exact hqs
    · exact h.rng m hm
  · rcases List.mem_cons.1 hm with e' | hm1
    · subst e'; exact he
    · refine (h.ok m hm1).mono (fun x hx=>by simp [hx]) fun x hx => ?_
      rcases List.mem_cons.1 hx with e' | hx
      · subst e'
        refine .inr ?_
        cases hb : has tab m.ix x.ix with
        | false=>rfl
        | true =>
          have:=hp.topo m.ix (h.rng m hm1) x.ix hb
          have:=hq m hm1
          omega
      · exact .inl hx

theorem setGrd_same : ∀ {ents : List (Ent C)} {j : Nat} {b : Bool},grdOf ents j=some (.one (.bool b))→setGrd ents j b=ents ∧ ∃ m,m ∈ ents∧m.ix=j∧m.dst.isSome=true∧m.val=some (.one (.bool b))
  | [],j,b,h=>by simp [grdOf] at h
  | e::es,j,b,h=>by
    obtain ⟨ix,dst,ef,need,ran⟩:=e
    simp only [grdOf] at h
    cases hb : Nat.beq ix j with
    | true =>
      rw [hb] at h
      cases ef with
      | none=>simp at h
      | some x =>
        obtain ⟨v,news,dels⟩:=x
        cases dst with
        | none=>simp at h
        | some d =>
          simp at h
          subst h
          exact ⟨by simp [setGrd,hb],⟨ix,some d,some (.one (.bool b),news,dels),need,ran⟩,by simp,Nat.eq_of_beq_eq_true hb,rfl,rfl⟩
    | false =>
      rw [hb] at h
      obtain ⟨h1,m,h2,h3⟩:=setGrd_same (ents:=es) h
      exact ⟨by simp [setGrd,hb,h1],m,by simp [h2],h3⟩

theorem grd_und : ∀ {ents : List (Ent C)} {j : Nat},grdOf ents j=some .und → ∃ m,m ∈ ents∧m.ix=j∧m.dst.isSome=true∧m.val=some .und
  | [],j,h=>by simp [grdOf] at h
  | e::es,j,h=>by
    obtain ⟨ix,dst,ef,need,ran⟩:=e
    simp only [grdOf] at h
    cases hb : Nat.beq ix j with
    | true =>
      rw [hb] at h
      cases ef with
      | none=>simp at h
      | some x =>
        obtain ⟨v,news,dels⟩:=x
        cases dst with
        | none=>simp at h
        | some d =>
          simp at h
          subst h
          exact ⟨⟨ix,some d,some (.und,news,dels),need,ran⟩,by simp,Nat.eq_of_beq_eq_true hb,rfl,rfl⟩
    | false =>
      rw [hb] at h
      obtain ⟨m,h2,h3⟩:=grd_und (ents:=es) h
      exact ⟨m,by simp [h2],h3⟩

theorem min_ok (hp : PreP X ρ all tab) {n : Nat} {ents : List (Ent C)} (hl : Lay X ρ all tab S0 ents) (o : Oper) {v : SV C} {news : List (Nat×Ob C)} {dels : List Nat}
    (ho : all[n]? = some o) (hg : match o.guard with
      | none=>True
      | some (j,want)=>has tab n j=true ∧ ∃ (m : Ent C),m ∈ ents∧m.ix=j∧m.dst.isSome=true∧m.val=some (.one (.bool want)))
    (h : ∀ S',Le (minS S0 ents tab n o) S' → (∀ id,id ∈ keysO news→Unnamed S' id)→nodupN (keysO news)=true → ∀ {R' : Type} (k' : St C→Option R'),ev X o S' k' = k' (eff S' o.dst v news dels)) :
    EntOk X all tab S0 (⟨n,o.dst,some (v,news,dels),minI S0 ents tab n o,true⟩::ents) ⟨n,o.dst,some (v,news,dels),minI S0 ents tab n o,true⟩:=by
  refine ⟨o,ho,rfl,?_,(fun h=>by cases h),rfl,fun v' news' dels' _ he => ?_⟩
  · split at hg
    · rename_i e; simp [e]
    · rename_i j want e
      obtain ⟨h1,m,h2,h3,h5,h4⟩:=hg
      simp only [e]
      exact ⟨h1,m,by simp [h2],h3,h5,.inl ⟨want,h4,by simp⟩⟩
  · cases he
    refine ⟨ents.filter fun e=>has tab n e.ix,minS S0 ents tab n o,(hl.valid hp).sublist (List.filter_sublist),fun m hm => ?_,fun m hm ha => ?_,fun t v ht=>(lk_tidyA _ _ t v ht).1,fun id ob hi=>lk_tidyA _ _ id ob hi,rfl,h⟩
    · obtain ⟨h1,h2⟩:=List.mem_filter.1 hm
      exact ⟨by simp [h1],h2⟩
    · rcases List.mem_cons.1 hm with e' | hm
      · subst e'
        have hlt : n<all.size:=by
          rcases Nat.lt_or_ge n all.size with h | h
          · exact h
          · simp [Array.getElem?_eq_none h] at ho
        exact absurd (has_lt hp n hlt n ha) (Nat.lt_irrefl _)
      · exact List.mem_filter.2 ⟨hm,ha⟩

/-- What the check finds behind the operations of a layer. -/
def Tail (X : Cx C) (all : Array Oper) (tab : List (Nat×Nat)) (k : St C→Option R) (r : R) (S0 : St C) (rest : List (Nat×Oper)) (ents : List (Ent C)) : Prop:=match rest with
  | []=>k (SD S0 ents)=some r
  | (q,o)::rest=>isE X o=true ∧ ∃ f,altsL ((ups tab (lagIx tab q ents)).map fun L=>ev X o (SD S0 (ents.filter fun e => !L.any (Nat.beq e.ix))) (fun S' => dlay X all tab k f (opsAt all L++rest) S' []))=some r

/-- Operations in the text's order,all behind these. -/
def Asc (ρ : Nat→Nat) (all : Array Oper) (l : List (Nat×Oper)) : Prop:=(l.Pairwise fun x y=>ρ x.1<ρ y.1) ∧ ∀ x,x ∈ l→all[x.1]? = some x.2

def OutP (X : Cx C) (ρ : Nat→Nat) (all : Array Oper) (tab : List (Nat×Nat)) (k : St C→Option R) (r : R) (S0 : St C) (l : List (Nat×Oper)) (ents : List (Ent C)) : Prop :=
    ∃ (rest : List (Nat×Oper)) (ents' : List (Ent C)),Lay X ρ all tab S0 ents' ∧ LayP S0 tab ents' ∧ Tail X all tab k r S0 rest ents' ∧ Asc ρ all rest∧(∀ x,x ∈ rest→x ∈ l)∧(∀ e,e ∈ ents' → e ∈ ents ∨ ∃ x,x ∈ l∧x.1=e.ix) ∧
      (∀ x,x ∈ l→x ∈ rest ∨ ∃ e,e ∈ ents' ∧ e.ix=x.1)∧(∀ e,e ∈ ents→e ∈ ents') ∧ ∀ e,e ∈ ents' → ∀ x,x ∈ rest→ρ e.ix<ρ x.1

theorem dlay_out (hp : PreP X ρ all tab) : ∀ (f : Nat) (l : List (Nat×Oper)) (S0 : St C) (ents : List (Ent C)),Asc ρ all l→(∀ e,e ∈ ents → ∀ x,x ∈ l→ρ e.ix<ρ x.1)→Lay X ρ all tab S0 ents→dlay X all tab k f l S0 ents=some r →
    OutP X ρ all tab k r S0 l ents
  | 0,l,S0,ents,_,_,_,h=>by simp [dlay] at h
  | f+1,[],S0,ents,ha,hb,hlay,h=>by
    simp only [dlay] at h
    obtain ⟨hc,h⟩:=cond_some h
    exact ⟨[],ents,hlay,layP_of hc,h,ha,fun x hx=>hx,fun e he => .inl he,fun x hx=>(by cases hx),fun e he=>he,fun e he x hx=>(by cases hx)⟩
  | f+1,(n,o)::l,S0,ents,ha,hb,hlay,h=>by
    have ho : all[n]? = some o:=ha.2 (n,o) (by simp)
    have hn : n<all.size:=by
      rcases Nat.lt_or_ge n all.size with h | h
      · exact h
      · simp [Array.getElem?_eq_none h] at ho
    obtain ⟨ha1,ha2⟩:=List.pairwise_cons.1 ha.1
    have hasc : Asc ρ all l:=⟨ha2,fun x hx=>ha.2 x (by simp [hx])⟩
    simp only [dlay] at h
    cases hE : isE X o with
    | true =>
      rw [hE] at h
      obtain ⟨hc,h⟩:=cond_some h
      exact ⟨(n,o)::l,ents,hlay,layP_of hc,⟨hE,f,h⟩,ha,fun x hx=>hx,fun e he => .inl he,fun x hx => .inl hx,fun e he=>he,hb⟩
    | false =>
      rw [hE] at h
      simp only at h
      have fin : ∀ {e : Ent C},e.ix=n→EntOk X all tab S0 (e::ents) e→dlay X all tab k f l S0 (e::ents)=some r →
          OutP X ρ all tab k r S0 ((n,o)::l) ents:=by
        intro e he hok h
        obtain ⟨rest,ents',h1,h2,h3,h4,h5,h6,h7,h8,h9⟩:=dlay_out hp f l S0 (e::ents) hasc (fun m hm x hx=>by
          rcases List.mem_cons.1 hm with e' | hm
          · subst e'; rw [he]; exact ha1 x hx
          · exact hb m hm x (by simp [hx])) (hlay.push hp (by omega) (fun m hm=>by rw [he]; exact hb m hm (n,o) (by simp)) hok) h
        refine ⟨rest,ents',h1,h2,h3,h4,fun x hx=>by simp [h5 x hx],fun m hm => ?_,fun x hx => ?_,fun m hm=>h8 m (by simp [hm]),h9⟩
        · rcases h6 m hm with h | ⟨x,hx,hx2⟩
          · rcases List.mem_cons.1 h with e' | h
            · subst e'; exact .inr ⟨(n,o),by simp,he.symm⟩
            · exact .inl h
          · exact .inr ⟨x,by simp [hx],hx2⟩
        · rcases List.mem_cons.1 hx with e' | hx
          · subst e'; exact .inr ⟨e,h8 e (by simp),he⟩
          · exact h7 x hx
      cases hg : o.guard with
      | none =>
        rw [hg] at h
        simp only at h
        obtain ⟨v,news,dels,hk,hto⟩:=evq_le h
        exact fin rfl (min_ok hp hlay o ho (by simp [hg]) hto) hk
      | some g =>
        obtain ⟨j,want⟩:=g
        rw [hg] at h
        simp only at h
        obtain ⟨hj,h⟩:=cond_some h
        split at h
        · rename_i b hbv
          obtain ⟨e1,m,hm1,hm2,hm4,hm3⟩:=setGrd_same hbv
          have skip : b≠want→dlay X all tab k f l S0 (⟨n,o.dst,some (.und,[],[]),[],false⟩::ents)=some r→OutP X ρ all tab k r S0 ((n,o)::l) ents:=by
            intro hne h
            refine fin rfl ⟨o,ho,rfl,?_,(fun _=>rfl),rfl,fun v news dels hr he=>by cases hr⟩ h
            simp only [hg]
            exact ⟨hj,m,by simp [hm1],hm2,hm4,.inl ⟨b,hm3,by simp [hne]⟩⟩
          have step : ∀ {kk : SV C→List (Nat×Ob C)→List Nat→Option R},b=want→evq X o (minS S0 ents tab n o) kk=some r →
              (∀ v news dels,kk v news dels=dlay X all tab k f l S0 (⟨n,o.dst,some (v,news,dels),minI S0 ents tab n o,true⟩::ents))→OutP X ρ all tab k r S0 ((n,o)::l) ents:=by
            intro kk he h hkk
            obtain ⟨v,news,dels,hk,hto⟩:=evq_le h
            rw [hkk] at hk
            refine fin rfl (min_ok hp hlay o ho ?_ hto) hk
            simp only [hg]
            exact ⟨hj,m,hm1,hm2,hm4,by rw [← he]; exact hm3⟩
          cases b with
          | true =>
            simp only [cond_true,e1] at h
            cases want with
            | true=>exact step rfl h (fun _ _ _=>rfl)
            | false=>exact skip (by simp) h
          | false =>
            simp only [cond_false,e1] at h
            cases want with
            | true=>exact skip (by simp) h
            | false=>exact step rfl h (fun _ _ _=>rfl)
        · rename_i hbv
          obtain ⟨m,hm1,hm2,hm4,hm3⟩:=grd_und hbv
          refine fin rfl ⟨o,ho,rfl,?_,(fun _=>rfl),rfl,fun v news dels hr he=>by cases hr⟩ h
          simp only [hg]
          exact ⟨hj,m,by simp [hm1],hm2,hm4,.inr ⟨hm3,trivial⟩⟩
        · cases h

theorem alt_some {a b : Option R} {x : R} (h : alt a b=some x) : a=some x∧b=some x:=by
  unfold alt at h
  cases a with
  | none=>cases h
  | some u =>
    cases b with
    | none=>cases h
    | some v =>
      simp only [Option.bind_some] at h
      split at h
      · rename_i e; cases h; exact ⟨rfl,by rw [e]⟩
      · cases h
theorem altsL_mem : ∀ {l : List (Option R)} {x : R} {y : Option R},altsL l=some x→y ∈ l→y=some x
  | [],x,y,_,hm=>by cases hm
  | [a],x,y,h,hm=>by simp only [List.mem_singleton] at hm; subst hm; exact h
  | a::b::l,x,y,h,hm=>by
    simp only [altsL] at h
    obtain ⟨h1,h2⟩:=alt_some h
    rcases List.mem_cons.1 hm with e | hm
    · rw [e]; exact h1
    · exact altsL_mem h2 hm
theorem mem_ups {p : Nat→Bool} : ∀ {l : List Nat},(∀ j d,j ∈ l→d ∈ l→p j=true→has tab d j=true→p d=true)→l.filter p ∈ ups tab l
  | [],_=>by simp [ups]
  | j::r,h=>by
    have ih:=mem_ups (p:=p) (l:=r) fun a b ha hb=>h a b (by simp [ha]) (by simp [hb])
    simp only [ups,List.mem_append,List.mem_map,List.mem_filter]
    cases hj : p j with
    | false=>left; simpa [List.filter_cons,hj] using ih
    | true =>
      right
      refine ⟨r.filter p,⟨ih,?_⟩,by simp [List.filter_cons,hj]⟩
      simp only [List.all_eq_true,Bool.or_eq_true,Bool.not_eq_true']
      intro d hd
      cases hb : has tab d j with
      | false=>exact .inl rfl
      | true =>
        right
        have:=h j d (by simp) (by simp [hd]) hj hb
        exact List.any_eq_true.2 ⟨d,List.mem_filter.2 ⟨hd,this⟩,Nat.beq_refl d⟩
end
end Go.Proofs.Ytakakoogpmhhkaa.Ab

/- The abstract machine,part 26: a drawn region,in whatever order. -/
set_option linter.unusedVariables false
set_option linter.unusedSimpArgs false
set_option linter.unusedSectionVars false
namespace Go.Proofs.Ytakakoogpmhhkaa.Ab
open Go Go.RowKit

section
variable {Ty : Type} [DecidableEq Ty] {C : Ty→Type}
variable {P : Program} {X : Cx C} {w0 : World} {nt : Nat} {R : Type} {k : St C→Option R} {r : R} {tab : List (Nat×Nat)} {all : Array Oper} {Q : Exit→Act→World→Prop} {ρ : Nat→Nat}

/-- Where a drawn region stands. -/
structure At (P : Program) (X : Cx C) (ρ : Nat→Nat) (w0 : World) (nt : Nat) (k : St C→Option R) (r : R) (tab : List (Nat×Nat)) (all : Array Oper) (listed : Array Bool) (a : Act) (w : World) (rest : List (Nat×Oper)) (S0 : St C) (ents es : List (Ent C)) : Prop where
  lay : Lay X ρ all tab S0 ents
  chk : LayP S0 tab ents
  tail : Tail X all tab k r S0 rest ents
  asc : Asc ρ all rest
  bef : ∀ e,e ∈ ents → ∀ x,x ∈ rest→ρ e.ix<ρ x.1
  valid : Valid tab es
  sub : ∀ e,e ∈ es→e ∈ ents
  mem : ∀ e,e ∈ ents→(Listed listed e.ix↔e ∈ es)
  cov : ∀ i,i<all.size→Listed listed i∨(∃ e,e ∈ ents∧e.ix=i) ∨ ∃ x,x ∈ rest∧x.1=i
  hi : ∀ x,x ∈ rest → ¬ Listed listed x.1
  sim : SimE X.K w0 nt (SD S0 es) a w

theorem ready_mem {listed : Array Bool} {i : Nat} : i ∈ Region.ready .any all listed↔i<all.size∧listed.getD i true=false ∧ ∀ o,all[i]? = some o → ∀ e,e ∈ o.after.toList→Region.binds .any e=true→Listed listed e.on:=by
  unfold Region.ready
  rw [List.mem_filter,List.mem_range]
  constructor
  · rintro ⟨h1,h2⟩
    simp only [Bool.and_eq_true,Bool.not_eq_true'] at h2
    refine ⟨h1,h2.1,fun o ho e he hb => ?_⟩
    rw [ho] at h2
    have h3:=h2.2
    simp only [Option.map_some,Option.getD_some,Array.all_eq_true'] at h3
    have:=h3 e (by simpa using he)
    rw [hb] at this
    simpa [Listed] using this
  · rintro ⟨h1,h2,h3⟩
    refine ⟨h1,?_⟩
    have ho : all[i]? = some all[i]:=by simp [h1]
    simp only [h2,ho,Option.map_some,Option.getD_some,Bool.not_false,Bool.true_and,Array.all_eq_true']
    intro e he
    cases hb : Region.binds .any e with
    | false=>simp
    | true=>simpa [Listed] using h3 _ ho e (by simpa using he) hb

theorem listed_set {listed : Array Bool} {i j : Nat} (hi : i<listed.size) : Listed (listed.setIfInBounds i true) j↔j=i∨Listed listed j:=by
  unfold Listed
  simp only [Array.getD_eq_getD_getElem?,Array.getElem?_setIfInBounds]
  by_cases e : i=j
  · subst e; simp [hi]
  · have : j≠i:=fun h=>e h.symm
    simp [e,this]

theorem all_listed (hp : PreP X ρ all tab) {listed : Array Bool} (hs : listed.size=all.size) (h : Region.ready .any all listed=[]) : ∀ i,i<all.size→Listed listed i:=by
  intro i
  induction i using Nat.strongRecOn with
  | _ i ih =>
    intro hi
    cases hl : listed.getD i true with
    | true =>
      unfold Listed
      simp only [Array.getD_eq_getD_getElem?,Array.getElem?_eq_getElem (hs ▸ hi : i<listed.size),Option.getD_some] at hl ⊢
      exact hl
    | false =>
      have : i ∈ Region.ready .any all listed:=ready_mem.2 ⟨hi,hl,fun o ho e he hb=>by
        have:=hp.edge i o ho e he hb
        exact ih e.on this (by omega)⟩
      rw [h] at this
      cases this

theorem at_end (hp : PreP X ρ all tab) {listed : Array Bool} {a : Act} {w : World} {rest : List (Nat×Oper)} {S0 : St C} {ents es fs : List (Ent C)} (h : At P X ρ w0 nt k r tab all listed a w rest S0 ents es) (hv : Valid tab fs) (hfs : ∀ e,e ∈ fs↔e ∈ ents∧Listed listed e.ix) :
    SimE X.K w0 nt (SD S0 fs) a w :=
  sim_perm (P:=P) h.chk h.valid hv h.sub (fun e=>⟨fun he=>(h.mem e ((hfs e).1 he).1).1 ((hfs e).1 he).2,fun he=>(hfs e).2 ⟨h.sub e he,(h.mem e (h.sub e he)).2 he⟩⟩) h.sim

theorem asc_drop {q : Nat} {o : Oper} {l : List (Nat×Oper)} (h : Asc ρ all ((q,o)::l)) : Asc ρ all l ∧ ∀ x,x ∈ l→ρ q<ρ x.1 :=
  ⟨⟨(List.pairwise_cons.1 h.1).2,fun x hx=>h.2 x (by simp [hx])⟩,fun x hx=>(List.pairwise_cons.1 h.1).1 x hx⟩
theorem opsAt_mem {L : List Nat} {x : Nat×Oper} : x ∈ opsAt all L↔x.1 ∈ L∧all[x.1]? = some x.2:=by
  unfold opsAt
  rw [List.mem_filterMap]
  constructor
  · rintro ⟨i,hi,h⟩
    cases e : all[i]? with
    | none=>rw [e] at h; cases h
    | some o=>rw [e] at h; cases h; exact ⟨hi,e⟩
  · rintro ⟨h1,h2⟩
    exact ⟨x.1,h1,by rw [h2]; rfl⟩
theorem asc_opsAt : ∀ {L : List Nat},(L.Pairwise fun a b=>ρ a<ρ b)→Asc ρ all (opsAt all L)
  | [],_=>⟨List.Pairwise.nil,fun x hx=>by simp [opsAt] at hx⟩
  | j::r,h=>by
    obtain ⟨h1,h2⟩:=List.pairwise_cons.1 h
    obtain ⟨a1,a2⟩:=asc_opsAt (L:=r) h2
    refine ⟨?_,fun x hx=>(opsAt_mem.1 hx).2⟩
    unfold opsAt at a1 ⊢
    rw [List.filterMap_cons]
    cases e : (all[j]?).map fun o=>(j,o) with
    | none=>exact a1
    | some y =>
      refine List.pairwise_cons.2 ⟨fun x hx => ?_,a1⟩
      have hy : y.1=j:=by
        cases e2 : all[j]? with
        | none=>rw [e2] at e; cases e
        | some o=>rw [e2] at e; cases e; rfl
      rw [hy]
      have : x ∈ opsAt all r:=hx
      exact h1 x.1 (opsAt_mem.1 this).1
theorem asc_append {l m : List (Nat×Oper)} (hl : Asc ρ all l) (hm : Asc ρ all m) (h : ∀ x,x ∈ l → ∀ y,y ∈ m→ρ x.1<ρ y.1) : Asc ρ all (l++m) :=
  ⟨List.pairwise_append.2 ⟨hl.1,hm.1,fun x hx y hy=>h x hx y hy⟩,fun x hx=>(List.mem_append.1 hx).elim (hl.2 x) (hm.2 x)⟩

theorem draw_any (hX : XOk P X) (hC : Cons P X) (hp : PreP X ρ all tab) (hall : ∀ o,o ∈ all.toList→slot o.dst nt) (hQ : ∀ a w,Next X.K w0 nt k r a w→Q .normal a w) :
    ∀ (fuel : Nat) (listed : Array Bool) (a : Act) (w : World) (rest : List (Nat×Oper)) (S0 : St C) (ents es : List (Ent C)),listed.size=all.size→listed.toList.count false=fuel→Closed all listed →
      At P X ρ w0 nt k r tab all listed a w rest S0 ents es→wpAny P .any all Q fuel listed a w:=by
  have done : ∀ {listed : Array Bool} {a : Act} {w : World} {rest : List (Nat×Oper)} {S0 : St C} {ents es : List (Ent C)},(∀ i,i<all.size→Listed listed i)→At P X ρ w0 nt k r tab all listed a w rest S0 ents es→Q .normal a w:=by
    intro listed a w rest S0 ents es hl h
    have ht:=h.tail
    cases rest with
    | nil=>exact hQ a w ⟨_,at_end hp h (h.lay.valid hp) (fun e=>⟨fun he=>⟨he,hl e.ix (h.lay.rng e he)⟩,fun he=>he.1⟩),ht⟩
    | cons x rest =>
      have hx:=h.asc.2 x (by simp)
      have : x.1<all.size:=by
        rcases Nat.lt_or_ge x.1 all.size with h | h
        · exact h
        · simp [Array.getElem?_eq_none h] at hx
      exact absurd (hl x.1 this) (h.hi x (by simp))
  intro fuel
  induction fuel with
  | zero =>
    intro listed a w rest S0 ents es hs hf hc h
    have hl : ∀ i,i<all.size→Listed listed i:=by
      intro i hi
      have h1 : i<listed.toList.length:=by simpa [hs] using hi
      have h2:=List.count_eq_zero.1 hf
      have h3 : listed.toList[i]≠false:=fun e=>h2 (e ▸ List.getElem_mem h1)
      unfold Listed
      simp only [Array.getD_eq_getD_getElem?,Array.getElem?_eq_getElem (hs ▸ hi : i<listed.size),Option.getD_some]
      simpa using h3
    refine ⟨?_,done hl h⟩
    cases hr : Region.ready .any all listed with
    | nil=>rfl
    | cons x l =>
      have hx : x ∈ Region.ready .any all listed:=by rw [hr]; simp
      obtain ⟨h1,h2,_⟩:=ready_mem.1 hx
      have:=hl x h1
      unfold Listed at this
      simp only [Array.getD_eq_getD_getElem?,Array.getElem?_eq_getElem (hs ▸ h1 : x<listed.size),Option.getD_some] at this h2
      rw [this] at h2
      cases h2
  | succ fuel ih =>
    intro listed a w rest S0 ents es hs hf hc h
    refine ⟨fun hr=>done (all_listed hp hs hr) h,fun i hi => ?_⟩
    obtain ⟨h1,h2,h3⟩:=ready_mem.1 hi
    have hil : i<listed.size:=by omega
    have ho : all[i]? = some all[i]:=by simp [h1]
    generalize all[i]=o at ho
    have h3' := h3 o ho
    have hnl : ¬ Listed listed i:=by
      unfold Listed
      simp only [Array.getD_eq_getD_getElem?,Array.getElem?_eq_getElem hil,Option.getD_some] at h2 ⊢
      rw [h2]; simp
    have hslot : slot o.dst nt:=hall o (by simpa using Array.mem_of_getElem? ho)
    have hanc : ∀ j,has tab i j=true→Listed listed j:=has_listed hp hc i o ho h3'
    -- what is so behind it
    have hs' : (listed.setIfInBounds i true).size=all.size:=by simp [hs]
    have hf' : (listed.setIfInBounds i true).toList.count false=fuel:=by
      have hv : listed.toList[i]'(by simpa using hil)=false:=by
        simp only [Array.getD_eq_getD_getElem?,Array.getElem?_eq_getElem hil,Option.getD_some] at h2
        simpa using h2
      rw [Array.toList_setIfInBounds,List.count_set (by simpa using hil),hv,hf]
      simp
    have hc' : Closed all (listed.setIfInBounds i true):=by
      intro j o' ho' hj e he hb
      rw [listed_set hil] at hj ⊢
      rcases hj with e' | hj
      · subst e'
        rw [ho] at ho'
        have ho' := Option.some.inj ho'
        subst ho'
        exact .inr (h3' e he hb)
      · exact .inr (hc j o' ho' hj e he hb)
    unfold wpOp
    simp only [ho]
    rcases h.cov i h1 with hl | ⟨e,he,hei⟩ | ⟨x,hx,hxi⟩
    · exact absurd hl hnl
    · -- one that writes into nothing
      subst hei
      have hne : e ∉ es:=fun hm=>hnl ((h.mem e he).2 hm)
      obtain ⟨o',q1,q2,q3,q5,q6,q4⟩:=(h.lay.ok e he).ex
      rw [ho] at q1
      cases q1
      have hval : Valid tab (e::es):=by
        refine List.pairwise_cons.2 ⟨fun m hm => ?_,h.valid⟩
        have hml : Listed listed m.ix:=(h.mem m (h.sub m hm)).2 hm
        refine ⟨fun e' => hnl (e' ▸ hml),?_⟩
        cases hb : has tab m.ix e.ix with
        | false=>rfl
        | true =>
          have hmlt : m.ix<all.size:=h.lay.rng m (h.sub m hm)
          have hmo : all[m.ix]? = some all[m.ix]:=by simp [hmlt]
          exact absurd (has_listed hp hc m.ix _ hmo (fun e2 he2 hb2=>hc m.ix _ hmo hml e2 he2 hb2) e.ix hb) hnl
      have hne_ix : ∀ m,m ∈ es→e.ix≠m.ix∧has tab m.ix e.ix=false:=fun m hm=>⟨fun e' => ((List.pairwise_cons.1 hval).1 m hm).1 e'.symm,((List.pairwise_cons.1 hval).1 m hm).2⟩
      have next : ∀ a' w',SimE X.K w0 nt (SD S0 (e::es)) a' w' → wpAny P .any all Q fuel (listed.setIfInBounds e.ix true) a' w' := by
        intro a' w' hsim
        refine ih _ a' w' rest S0 ents (e::es) hs' hf' hc' ⟨h.lay,h.chk,h.tail,h.asc,h.bef,hval,fun m hm => ?_,fun m hm => ?_,fun j hj => ?_,fun y hy => ?_,hsim⟩
        · rcases List.mem_cons.1 hm with e' | hm
          · subst e'; exact he
          · exact h.sub m hm
        · rw [listed_set hil,List.mem_cons,h.mem m hm]
          constructor
          · rintro (e' | h')
            · left
              -- same place,same entry
              have : ∀ {l : List (Ent C)},(l.Pairwise fun e m=>ρ m.ix<ρ e.ix)→m ∈ l→e ∈ l→m=e:=by
                intro l
                induction l with
                | nil=>intro _ hm; cases hm
                | cons x l ihl =>
                  intro hpw hm he
                  obtain ⟨p1,p2⟩:=List.pairwise_cons.1 hpw
                  rcases List.mem_cons.1 hm with e1 | hm1 <;> rcases List.mem_cons.1 he with e2 | he1
                  · rw [e1,e2]
                  · subst e1; have:=p1 e he1; rw [e'] at this; omega
                  · subst e2; have:=p1 m hm1; rw [e'] at this; omega
                  · exact ihl p2 hm1 he1
              exact this h.lay.desc hm he
            · exact .inr h'
          · rintro (e' | h')
            · subst e'; exact .inl rfl
            · exact .inr h'
        · rw [listed_set hil]
          rcases h.cov j hj with h' | h' | h'
          · exact .inl (.inr h')
          · exact .inr (.inl h')
          · exact .inr (.inr h')
        · rw [listed_set hil]
          rintro (e' | h')
          · have:=h.bef e he y hy; rw [e'] at this; omega
          · exact h.hi y hy h'
      -- its guard
      have hw : Region.wanted o (yielded all a.tmps)=e.ran:=by
        unfold Region.wanted
        cases hg : o.guard with
        | none=>rw [hg] at q3; simp only at q3; rw [q3]
        | some g =>
          obtain ⟨j,want⟩:=g
          rw [hg] at q3
          simp only at q3
          obtain ⟨ha,m,hm,hmj,hmd,hmv⟩:=q3
          subst hmj
          have hml : m ∈ es:=(h.mem m hm).1 (hanc _ ha)
          obtain ⟨om,qm1,qm2,_⟩:=(h.lay.ok m hm).ex
          obtain ⟨β,fp,hsim⟩:=h.sim
          have hdm : ∃ d,m.dst=some d:=by
            cases hd : m.dst with
            | some d=>exact ⟨d,rfl⟩
            | none=>rw [hd] at hmd; cases hmd
          obtain ⟨d,hd⟩:=hdm
          rcases hmv with ⟨b,hmv,hiff⟩ | ⟨hmv,hran⟩
          case inr =>
            have hlk : lk (SD S0 es).env d=some .und:=(val_env h.chk h.valid h.sub d _).2 (.inl ⟨m,hml,hd,hmv⟩)
            have hy:=yield_und (all:=all) (j:=m.ix) hsim (d:=d) (by rw [qm1]; simp [← qm2,hd]) hlk
            simp only [hy,hran]
            rfl
          have hlk : lk (SD S0 es).env d=some (.one (.bool b)):=(val_env h.chk h.valid h.sub d _).2 (.inl ⟨m,hml,hd,hmv⟩)
          have hy:=yield_ok (all:=all) (j:=m.ix) hsim (d:=d) (b:=b) (by rw [qm1]; simp [← qm2,hd]) (hall om (by simpa using Array.mem_of_getElem? qm1) d (by rw [← qm2]; exact hd)) hlk
          simp only [hy]
          cases hx : e.ran with
          | true=>simp [hiff.1 hx]
          | false =>
            have : b≠want:=fun h' => by rw [hiff.2 h'] at hx; cases hx
            simpa using this
      rw [hw]
      cases hef : e.eff with
      | none=>rw [hef] at q6; cases q6
      | some x =>
        obtain ⟨v,news,dels⟩:=x
        cases hran : e.ran with
        | false =>
          simp only [Bool.false_eq_true,if_false]
          have hu:=q5 hran
          rw [hef] at hu
          cases hu
          obtain ⟨β,fp,hsim⟩:=h.sim
          refine next _ _ ⟨β,fp,?_⟩
          have:=hsim.put (v := .und) (u:=undef) o.dst hslot rfl
          have e1 : SD S0 (e::es)=(SD S0 es).put o.dst .und:=by
            simp [SD,Ent.app,hef,q2,rmAll]
          rw [e1]
          exact this
        | true =>
        simp only [if_true]
        obtain ⟨fs,mn,f1,f2,f7,f3,f4,f5,f6⟩:=q4 v news dels hran hef
        have ffs : ∀ m,m ∈ fs→m ∈ es:=fun m hm=>(h.mem m (f2 m hm).1).1 (hanc _ (f2 m hm).2)
        have hle : Le mn (SD S0 es):=by
          refine ⟨by rw [SD_base,f5],fun t v ht => ?_,fun id ob hi => ?_⟩
          · rcases (val_env h.chk f1 (fun m hm=>(f2 m hm).1) t v).1 (f3 t v ht) with ⟨m,hm,h4⟩ | ⟨h4,h5⟩
            · exact (val_env h.chk h.valid h.sub t v).2 (.inl ⟨m,ffs m hm,h4⟩)
            · refine (val_env h.chk h.valid h.sub t v).2 (.inr ⟨fun m hm hd => ?_,h5⟩)
              rw [lay_free h.chk (h.sub m hm) hd] at h5
              cases h5
          · obtain ⟨g1,g2⟩:=f4 id ob hi
            obtain ⟨g3,g4⟩:=(val_objs h.chk f1 (fun m hm=>(f2 m hm).1) id ob).1 g1
            refine (val_objs h.chk h.valid h.sub id ob).2 ⟨fun m hm hd => ?_,?_⟩
            · by_cases ha : has tab e.ix m.ix=true
              · exact g3 m (f7 m (h.sub m hm) ha) hd
              · exact lay_need h.chk he (h.sub m hm) (hne_ix m hm).1 (by simpa using ha) (hne_ix m hm).2 hd g2
            · rcases g4 with ⟨m,hm,h4⟩ | ⟨h4,h5⟩
              · exact .inl ⟨m,ffs m hm,h4⟩
              · refine .inr ⟨fun m hm hk => ?_,h5⟩
                exact (lay_self h.chk (h.sub m hm) hk).2.2 (keys_ids (lk_keys h5))
        have hfresh : ∀ id,id ∈ keysO news→Unnamed (SD S0 es) id:=by
          intro id hid
          have hk : id ∈ e.newK:=by simp [Ent.newK,hef,hid]
          have hno : ¬ (id ∈ idsE0 (SD S0 es).env∨id ∈ idsO (SD S0 es).objs):=by
            intro hn
            rcases SD_named hn with h4 | h4 | ⟨m,hm,h4⟩
            · exact (lay_self h.chk he hk).2.1 h4
            · exact (lay_self h.chk he hk).2.2 h4
            · exact (lay_names h.chk he (h.sub m hm) (hne_ix m hm).1 (hne_ix m hm).2 hk).1 h4
          exact ⟨fun h' => hno (.inl h'),fun h' => hno (.inr h')⟩
        have hnd : nodupN (keysO news)=true:=by
          have:=lay_nodup h.chk he
          simpa [Ent.newK,hef] using this
        have hev:=f6 (SD S0 es) hle hfresh hnd (fun S' => some S')
        have e1 : eff (SD S0 es) o.dst v news dels=SD S0 (e::es):=by
          simp [SD,Ent.app,hef,eff,q2]
        rw [e1] at hev
        obtain ⟨β,fp,hsim⟩:=h.sim
        refine .inl (Oper.wp_mono ?_ (ev_sound (Q:=Q) hX hC hsim hslot hev))
        rintro a' w' ⟨S',hs2,hk2⟩
        cases hk2
        exact next a' w' hs2
    · obtain ⟨i',o'⟩:=x
      have hxi : i' = i:=hxi
      subst hxi
      have ho' : all[i']? = some o' := h.asc.2 _ hx
      rw [ho] at ho'
      cases ho'
      cases rest with
      | nil=>cases hx
      | cons y rest =>
        obtain ⟨q,oq⟩:=y
        obtain ⟨hE,f,hev⟩:=h.tail
        obtain ⟨hasc,hlt⟩:=asc_drop h.asc
        have hoq : all[q]? = some oq:=h.asc.2 (q,oq) (by simp)
        by_cases hiq : i' = q
        · -- the one that writes
          subst hiq
          rw [ho] at hoq
          cases hoq
          let lag : Nat→Bool:=fun j => !listed.getD j false
          have hlag : ∀ j,lag j=true ↔ ¬ Listed listed j:=fun j=>by simp [lag,Listed]
          let L:=(lagIx tab i' ents).filter lag
          have hLm : ∀ j,j ∈ L↔(∃ e,e ∈ ents∧e.ix=j) ∧ ¬ Listed listed j:=fun j=>by
            simp only [L,List.mem_filter,hlag,lagIx,List.mem_reverse,List.mem_map]
            constructor
            · rintro ⟨⟨e,⟨he,_⟩,hej⟩,hn⟩; exact ⟨⟨e,he,hej⟩,hn⟩
            · rintro ⟨⟨e,he,hej⟩,hn⟩
              refine ⟨⟨e,⟨he,?_⟩,hej⟩,hn⟩
              cases hb : has tab i' e.ix with
              | false=>rfl
              | true=>exact absurd (hanc e.ix hb) (hej ▸ hn)
          have hup : L ∈ ups tab (lagIx tab i' ents):=mem_ups fun j d hj hd hlj hdj=>by
            rw [hlag] at hlj ⊢
            intro hld
            simp only [lagIx,List.mem_reverse,List.mem_map,List.mem_filter] at hd
            obtain ⟨e,⟨he,_⟩,hed⟩:=hd
            have hdlt : d<all.size:=by rw [← hed]; exact h.lay.rng e he
            have hdo : all[d]? = some all[d]:=by simp [hdlt]
            exact hlj (has_listed hp hc d _ hdo (fun e2 he2 hb2=>hc d _ hdo hld e2 he2 hb2) j hdj)
          have hev2:=altsL_mem hev (List.mem_map.2 ⟨L,hup,rfl⟩)
          have hfs : ∀ e,e ∈ (ents.filter fun e => !L.any (Nat.beq e.ix))↔e ∈ ents∧Listed listed e.ix:=fun e=>by
            rw [List.mem_filter]
            constructor
            · rintro ⟨he,hn⟩
              refine ⟨he,?_⟩
              by_cases hl : Listed listed e.ix
              · exact hl
              · have : e.ix ∈ L:=(hLm _).2 ⟨⟨e,he,rfl⟩,hl⟩
                have : L.any (Nat.beq e.ix)=true:=List.any_eq_true.2 ⟨e.ix,this,Nat.beq_refl _⟩
                rw [this] at hn; cases hn
            · rintro ⟨he,hl⟩
              refine ⟨he,?_⟩
              cases hb : L.any (Nat.beq e.ix) with
              | false=>rfl
              | true =>
                obtain ⟨j,hj,hbj⟩:=List.any_eq_true.1 hb
                have:=Nat.eq_of_beq_eq_true hbj
                subst this
                exact absurd hl ((hLm _).1 hj).2
          obtain ⟨β,fp,hsim⟩:=at_end hp h ((h.lay.valid hp).sublist List.filter_sublist) hfs
          have hw : Region.wanted o (yielded all a.tmps)=true:=by simp [Region.wanted,hp.grd i' o ho hE]
          rw [hw]
          simp only [if_true]
          refine .inl (Oper.wp_mono ?_ (ev_sound (Q:=Q) hX hC hsim hslot hev2))
          rintro a' w' ⟨S',hs2,hk2⟩
          have hLasc : L.Pairwise fun a b=>ρ a<ρ b:=by
            refine List.Pairwise.filter _ ?_
            unfold lagIx
            rw [List.pairwise_reverse,List.pairwise_map]
            exact (h.lay.desc.sublist List.filter_sublist).imp fun h=>h
          have hA : Asc ρ all (opsAt all L++rest):=asc_append (asc_opsAt hLasc) hasc fun x hx y hy=>by
            obtain ⟨⟨e,he,hej⟩,_⟩:=(hLm _).1 (opsAt_mem.1 hx).1
            rw [← hej]
            exact h.bef e he y (by simp [hy])
          obtain ⟨rest',ents',g1,g2,g3,g4,g5,g6,g7,_,g9⟩:=dlay_out hp f _ S' [] hA (fun e he=>(by cases he)) ⟨List.Pairwise.nil,fun e he=>(by cases he),fun e he=>(by cases he)⟩ hk2
          have hun : ∀ x,x ∈ opsAt all L++rest→x.1≠i' ∧ ¬ Listed listed x.1:=fun x hx=>by
            rcases List.mem_append.1 hx with hx | hx
            · obtain ⟨⟨e,he,hej⟩,hn⟩:=(hLm _).1 (opsAt_mem.1 hx).1
              have:=h.bef e he (i',o) (by simp)
              exact ⟨fun e' => by rw [hej,e'] at this; exact absurd this (Nat.lt_irrefl _),hn⟩
            · have:=hlt x hx
              exact ⟨fun e' => by rw [e'] at this; exact absurd this (Nat.lt_irrefl _),h.hi x (by simp [hx])⟩
          have hun' : ∀ x,x ∈ opsAt all L++rest → ¬ Listed (listed.setIfInBounds i' true) x.1:=fun x hx=>by
            rw [listed_set hil]
            rintro (e' | h')
            · exact (hun x hx).1 e'
            · exact (hun x hx).2 h'
          refine ih _ a' w' rest' S' ents' [] hs' hf' hc' ⟨g1,g2,g3,g4,g9,List.Pairwise.nil,fun e he=>(by cases he),fun e he => ?_,fun j hj => ?_,fun x hx=>hun' x (g5 x hx),hs2⟩
          · constructor
            · intro hl
              rcases g6 e he with h' | ⟨x,hx,hxe⟩
              · cases h'
              · exact absurd hl (hxe ▸ hun' x hx)
            · intro h'; cases h'
          · rw [listed_set hil]
            by_cases e1 : j=i'
            · exact .inl (.inl e1)
            · by_cases hl : Listed listed j
              · exact .inl (.inr hl)
              · have hmem : ∃ x,x ∈ opsAt all L++rest∧x.1=j:=by
                  rcases h.cov j hj with h' | ⟨e,he,hej⟩ | ⟨x,hx,hxj⟩
                  · exact absurd h' hl
                  · exact ⟨(j,all[j]),List.mem_append.2 (.inl (opsAt_mem.2 ⟨(hLm j).2 ⟨⟨e,he,hej⟩,hl⟩,by simp [hj]⟩)),rfl⟩
                  · rcases List.mem_cons.1 hx with e2 | hx
                    · rw [e2] at hxj; exact absurd hxj.symm e1
                    · exact ⟨x,List.mem_append.2 (.inr hx),hxj⟩
                obtain ⟨x,hx,hxj⟩:=hmem
                rcases g7 x hx with h' | ⟨e,he,hex⟩
                · exact .inr (.inr ⟨x,h',hxj⟩)
                · exact .inr (.inl ⟨e,he,hex.trans hxj⟩)
        · -- one behind the one that writes
          exfalso
          have hx' : (i',o) ∈ rest:=(List.mem_cons.1 hx).resolve_left fun e=>hiq (by cases e; rfl)
          have hql : ρ q<ρ i' := hlt _ hx'
          have hqs : q<all.size:=by
            rcases Nat.lt_or_ge q all.size with h | h
            · exact h
            · simp [Array.getElem?_eq_none h] at hoq
          have hE' : isEat X all q=true:=by simp [isEat,hoq,hE]
          exact h.hi (q,oq) (by simp) (hanc q (hp.eff i' o ho q hqs hql hE'))
end
end Go.Proofs.Ytakakoogpmhhkaa.Ab

/- The abstract machine,part 20: code. -/
set_option linter.unusedVariables false
set_option linter.unusedSimpArgs false
set_option linter.unusedSectionVars false
namespace Go.Proofs.Ytakakoogpmhhkaa.Ab
open Go Go.RowKit

section
variable {Ty : Type} [DecidableEq Ty] {C : Ty→Type}
variable {P : Program} {X : Cx C} {w0 w : World} {nt : Nat} {S : St C} {β : Nat→Value} {fp : Nat→Nat→Prop} {a : Act} {R : Type} {r : R}

def slotB (nt : Nat) : Option Tmp→Bool
  | some t=>Nat.blt t nt
  | none=>true
def opsB (nt : Nat) : List Oper→Bool
  | []=>true
  | o::r=>slotB nt o.dst&&opsB nt r
/-- Every slot is one of the frame's. -/
def codeB (nt : Nat) : Code→Bool
  | .region _ ops _=>opsB nt ops.toList
  | .seq a b=>codeB nt a&&codeB nt b
  | .cond _ a b=>codeB nt a&&codeB nt b
  | .block _ c=>codeB nt c
  | .loop c=>codeB nt c
  | .scope c=>codeB nt c
  | _=>true
theorem opsB_ok : ∀ {l : List Oper},opsB nt l=true → ∀ o,o ∈ l→slot o.dst nt
  | [],_,o,h=>by cases h
  | x::l,hb,o,h=>by
    simp only [opsB,Bool.and_eq_true] at hb
    rcases List.mem_cons.1 h with e | h
    · subst e
      intro t ht
      have:=hb.1
      rw [ht] at this
      simp only [slotB] at this
      have h2 : Nat.ble (t+1) nt=true:=this
      exact Nat.le_of_ble_eq_true h2
    · exact opsB_ok hb.2 o h

theorem Sim.drawn {K : Cd C} (h : Sim K w0 nt S β fp a w) : Sim K w0 nt S β fp a { w with drawn:=w.drawn+1 }:=by
  have hst : ∀ k,stbOf S.objs fp w k→stbOf S.objs fp { w with drawn:=w.drawn+1 } k∧({ w with drawn:=w.drawn+1 } : World).heap[k]? = w.heap[k]? := fun k hk=>⟨hk,rfl⟩
  have hid : ∀ id,Keeps w { w with drawn:=w.drawn+1 } S.objs S.objs β β fp fp id:=fun id=>⟨rfl,fun _ _ _ ho=>⟨ho,fun k hk=>⟨hk,rfl⟩⟩⟩
  exact ⟨h.below.trans ⟨rfl,rfl,rfl,Nat.le_refl _,fun _ _=>rfl⟩,h.defers,h.size,h.fresh,h.disj,fun id ob ho=>(h.objs id ob ho).tr hst (fun _ _=>rfl) (fun _ _ _ id _=>hid id),fun t v ht=>(h.env t v ht).tr hst fun id _=>hid id⟩

theorem num_all : ∀ {l : List Oper} {n : Nat},∀ x,x ∈ numbered n l→l[x.1 - n]? = some x.2
  | [],n,x,h=>by cases h
  | o::l,n,x,h=>by
    rcases List.mem_cons.1 h with e | h
    · subst e; simp
    · have h1:=num_all (l:=l) (n:=n+1) x h
      have h2 : ∀ {l : List Oper} {n : Nat},∀ x,x ∈ numbered n l→n≤x.1:=by
        intro l
        induction l with
        | nil=>intro n x h; cases h
        | cons o l ih=>intro n x h; rcases List.mem_cons.1 h with e | h; subst e; exact Nat.le_refl _; have:=ih x h; omega
      have h3:=h2 x h
      have e : x.1 - n=(x.1 - (n+1))+1:=by omega
      rw [e]
      simpa using h1
theorem num_asc : ∀ {l : List Oper} {n : Nat},(numbered n l).Pairwise (fun x y=>x.1<y.1) ∧ ∀ x,x ∈ numbered n l→n≤x.1
  | [],n=>⟨List.Pairwise.nil,fun x h=>by cases h⟩
  | o::l,n=>by
    obtain ⟨h1,h2⟩:=num_asc (l:=l) (n:=n+1)
    refine ⟨List.pairwise_cons.2 ⟨fun x hx => ?_,h1⟩,fun x hx => ?_⟩
    · have:=h2 x hx
      show n<x.1
      omega
    · rcases List.mem_cons.1 hx with e | hx
      · subst e; exact Nat.le_refl _
      · have:=h2 x hx; omega
theorem num_has : ∀ {l : List Oper} {n i : Nat},i<l.length → ∃ x,x ∈ numbered n l∧x.1=n+i
  | [],n,i,h=>by simp at h
  | o::l,n,i,h=>by
    cases i with
    | zero=>exact ⟨(n,o),by simp [numbered],rfl⟩
    | succ i =>
      obtain ⟨x,h1,h2⟩:=num_has (l:=l) (n:=n+1) (i:=i) (by simpa using h)
      exact ⟨x,by simp [numbered,h1],by omega⟩

theorem draw_sound (hX : XOk P X) (hC : Cons P X) (hm : P.follows .mixedOrders=true) {all : Array Oper} {tab : List (Nat×Nat)} {k : St C→Option R} {Q : Exit→Act→World→Prop} {id : Nat} (hall : ∀ o,o ∈ all.toList→slot o.dst nt)
    (hQ : ∀ a w,Next X.K w0 nt k r a w→Q .normal a w) (hs : Sim X.K w0 nt S β fp a w) (h : drun X all tab S k=some r) : (Code.region id all true).wp P Q a w:=by
  obtain ⟨hb,h⟩:=cond_some h
  have hp:=preP_of hb
  have hb2:=(Bool.and_eq_true ..).mp hb
  have hb3:=hb2.2
  simp only [preO,Bool.and_eq_true,List.all_eq_true] at hb3
  have hasc : Asc (rkO (ordX X all tab)) all (opsAt all (ordX X all tab)):=asc_opsAt (pairO_asc hb3.1)
  obtain ⟨rest,ents,g2,g3,g4,g5,g6,g7,g8,_,g9⟩:=dlay_out hp 4096 _ _ [] hasc (fun e he=>(by cases he)) ⟨List.Pairwise.nil,fun e he=>(by cases he),fun e he=>(by cases he)⟩ h
  have hno : ∀ i,¬ Listed (Array.replicate all.size false) i:=by
    intro i hi
    unfold Listed at hi
    simp [Array.getD_eq_getD_getElem?,Array.getElem?_replicate] at hi
    split at hi <;> simp at hi
  refine wp_region_any hm (draw_any hX hC hp hall hQ all.size _ a _ rest _ ents [] (by simp) (by simp) (fun i o _ hi=>absurd hi (hno i)) ⟨g2,g3,g4,g5,g9,List.Pairwise.nil,fun e he=>(by cases he),fun e he=>⟨fun hi=>absurd hi (hno _),fun hi=>(by cases hi)⟩,fun i hi => .inr ?_,fun x _=>hno x.1,?_⟩)
  · obtain ⟨x,hx,hxi⟩ : ∃ x : Nat×Oper,x ∈ opsAt all (ordX X all tab)∧x.1=i:=⟨(i,all[i]),opsAt_mem.2 ⟨anyB.1 (hb3.2 i (mem_below hi)),by simp [hi]⟩,rfl⟩
    rcases g8 x hx with h' | ⟨e,he,hex⟩
    · exact .inr ⟨x,h',by omega⟩
    · exact .inl ⟨e,he,by omega⟩
  refine ⟨β,fp,hs.drawn.less _ fun t v ht => ?_⟩
  rw [lk_rmAll] at ht
  split at ht
  · cases ht
  · exact ht

/-- What is so behind a piece of code. -/
def post (K : Cd C) (w0 : World) (nt : Nat) (k : Ex→St C→Option R) (r : R) : Exit→Act→World→Prop
  | .normal,a,w => ∃ S',SimE K w0 nt S' a w∧k .norm S' = some r
  | .exit id,a,w => ∃ S',SimE K w0 nt S' a w∧k (.exit id) S' = some r
  | .ret,a,w => ∃ S',SimE K w0 nt S' a w∧k .ret S' = some r
  | _,_,_=>False

theorem canThen_some {ent : List Nat} {rec : St C→Option R} (h : canThen ent rec S=some r) : ∃ S',S.canon ent=some S' ∧ rec S' = some r:=by
  unfold canThen at h
  split at h
  · rename_i S' hS; rw [forceS_eq] at h; exact ⟨S',hS,h⟩
  · cases h

theorem run_sound (hX : XOk P X) (hC : Cons P X) (hm : P.follows .mixedOrders=true) (F : Cf) : ∀ (c : Code) (cur : Nat) (S : St C) (a : Act) (w : World) (k : Ex→St C→Option R),codeB nt c=true→SimE X.K w0 nt S a w →
    run X F c cur S k=some r→c.wp P (post X.K w0 nt k r) a w:=by
  intro c
  induction c with
  | skip =>
    intro cur S a w k _ hs h
    exact Go.wp_skip ⟨S,hs,h⟩
  | label l =>
    intro cur S a w k _ hs h
    exact Go.wp_label ⟨S,hs,h⟩
  | exit id =>
    intro cur S a w k _ hs h
    exact Go.wp_exit ⟨S,hs,h⟩
  | ret =>
    intro cur S a w k _ hs h
    exact Go.wp_ret ⟨S,hs,h⟩
  | region id ops draw =>
    intro cur S a w k hb ⟨β,fp,hs⟩ h
    simp only [run,forceS_eq] at h
    cases draw with
    | true =>
      refine draw_sound hX hC hm (opsB_ok hb) (k:=fun S' => k .norm (S'.tidy F.keep)) (r:=r) ?_ hs h
      rintro a' w' ⟨S',⟨β',fp',hs'⟩,hk⟩
      exact ⟨_,⟨β',fp',hs'.tidy F.keep⟩,hk⟩
    | false =>
      refine wp_region_list (evs_sound hX hC (opsB_ok hb) (k:=fun S' => k .norm (S'.tidy F.keep)) (r:=r) ?_ ops.toList S β fp a w (opsB_ok hb) hs h)
      rintro a' w' ⟨S',⟨β',fp',hs'⟩,hk⟩
      exact ⟨_,⟨β',fp',hs'.tidy F.keep⟩,hk⟩
  | seq x y ihx ihy =>
    intro cur S a w k hb hs h
    simp only [codeB,Bool.and_eq_true] at hb
    refine wp_seq (Go.wp_mono (ihx cur S a w _ hb.1 hs h) ?_)
    rintro (_ | _ | _ | _ | _ | _) a' w' hp
    · obtain ⟨S',hs',hk⟩:=hp
      exact ihy cur S' a' w' k hb.2 hs' hk
    · exact hp
    · exact hp.elim
    · exact hp
    · exact hp.elim
    · exact hp.elim
  | cond c x y ihx ihy =>
    intro cur S a w k hb ⟨β,fp,hs⟩ h
    simp only [codeB,Bool.and_eq_true] at hb
    cases c with
    | tmp t =>
      simp only [run] at h
      split at h
      · rename_i b hb'
        have hv : a.tmps.getD t undef = .bool b:=hs.env t _ hb'
        refine wp_cond_split (t:=b) hv (fun e => ?_) (fun e => ?_)
        · subst e
          exact ihx cur _ a w k hb.1 ⟨β,fp,hs.drop' (some t)⟩ h
        · subst e
          exact ihy cur _ a w k hb.2 ⟨β,fp,hs.drop' (some t)⟩ h
      · cases h
    | _=>cases h
  | block id c ih =>
    intro cur S a w k hb hs h
    refine wp_block (Go.wp_mono (ih id S a w _ hb hs h) ?_)
    rintro (_ | _ | _ | _ | _ | _) a' w' hp
    · exact hp
    · rename_i j
      obtain ⟨S',hs',hk⟩:=hp
      simp only [blkK] at hk
      simp only [Exit.inBlock]
      by_cases e : j=id
      · subst e
        rw [if_pos rfl]
        rw [Nat.beq_refl] at hk
        exact ⟨S',hs',hk⟩
      · rw [if_neg e]
        have : Nat.beq j id=false:=by
          cases hq : Nat.beq j id with
          | false=>rfl
          | true=>exact absurd (Nat.eq_of_beq_eq_true hq) e
        rw [this] at hk
        exact ⟨S',hs',hk⟩
    · exact hp.elim
    · exact hp
    · exact hp.elim
    · exact hp.elim
  | loop c ih =>
    intro cur S a w k hb ⟨β,fp,hs⟩ h
    obtain ⟨S1,hc,h⟩:=canThen_some h
    generalize F.ent cur S=ent at hc h
    have key : ∀ (n : Nat) (S : St C) (a : Act) (w : World),SimE X.K w0 nt S a w→iter (fun rec S=>run X F c cur S (lopK rec k)) ent n S=some r→Code.rounds P c (post X.K w0 nt k r) n a w:=by
      intro n
      induction n with
      | zero=>intro S a w _ h; cases h
      | succ n ihn =>
        intro S a w hs h
        refine Go.wp_mono (ih cur S a w _ hb hs h) ?_
        rintro (_ | _ | _ | _ | _ | _) a' w' hp
        · obtain ⟨S',⟨β',fp',hs'⟩,hk⟩:=hp
          obtain ⟨S2,hc2,h2⟩:=canThen_some hk
          exact ihn S2 a' w' (canon_sound hs' hc2) h2
        · exact hp
        · exact hp.elim
        · exact hp
        · exact hp.elim
        · exact hp.elim
    exact wp_loop_rounds F.N (key F.N S1 a w (canon_sound hs hc) h)
  | scope c ih =>
    intro cur S a w k hb hs h
    refine wp_scope_straight (Go.wp_mono (ih cur S a w k hb hs h) ?_)
    rintro (_ | _ | _ | _ | _ | _) a' w' hp
    · exact hp
    · exact hp
    · exact hp.elim
    · exact hp
    · exact hp.elim
    · exact hp.elim
  | _ =>
    intro cur S a w k _ hs h
    cases h
end
end Go.Proofs.Ytakakoogpmhhkaa.Ab

/- The abstract machine,part 21: a function. -/
set_option linter.unusedVariables false
set_option linter.unusedSimpArgs false
set_option linter.unusedSectionVars false
namespace Go.Proofs.Ytakakoogpmhhkaa.Ab
open Go Go.RowKit

section
variable {Ty : Type} [DecidableEq Ty] {C : Ty→Type}
variable {P : Program} {X : Cx C} {w0 w : World} {nt : Nat} {S : St C} {β : Nat→Value} {fp : Nat→Nat→Prop} {a : Act} {R : Type} {r : R}

def resG (tmps : Array Value) : ResultVar→Sem Value
  | .tmp t=>pure (tmps.getD t undef)
  | .cell a t=>do loadVar t (← asAddr (tmps.getD a undef))
theorem results_eq (fn : Func) (tmps : Array Value) : results fn tmps=(do
    let vs ← fn.results.toList.mapM (resG tmps)
    pure (match vs with
      | [v]=>v
      | vs => .tuple vs.toArray)):=by
  have e : results fn tmps=(do
    let vs ← fn.results.mapM (resG tmps)
    pure (if h : vs.size=1 then vs[0] else .tuple vs)):=by
    unfold results
    congr 1
  rw [e,Array.mapM_eq_mapM_toList]
  simp only [map_eq_pure_bind,bind_assoc,pure_bind]
  congr 1
  funext l
  congr 1
  match l with
  | []=>rfl
  | [v]=>rfl
  | v::v' :: r=>simp

theorem resOf_ok (hX : XOk P X) (hs : Sim X.K w0 nt S β fp a w) : ∀ (l : List ResultVar) (rs : List (Bool×List (Lf C))),resOf X S l=some rs →
    ∃ us : List Value,okRes rs=true∧LfsOk X.K w S.objs β fp (stbOf S.objs fp w) (flatten rs) us∧(l.mapM (resG a.tmps)).run P w = .ok (packAll rs us) w:=by
  intro l
  induction l with
  | nil =>
    intro rs h
    simp only [resOf,Option.some.injEq] at h
    subst h
    exact ⟨[],rfl,⟨rfl,fun i l h=>by simp [flatten] at h⟩,by simp [packAll]⟩
  | cons x l ih =>
    intro rs h
    have one : ∀ (c : Lf C) (rs' : List (Bool×List (Lf C))) (u : Value),resOf X S l=some rs' → rs=(false,[c])::rs' → LfOk X.K w S.objs β fp (stbOf S.objs fp w) c u→(resG a.tmps x).run P w = .ok u w →
        ∃ us : List Value,okRes rs=true∧LfsOk X.K w S.objs β fp (stbOf S.objs fp w) (flatten rs) us∧((x::l).mapM (resG a.tmps)).run P w = .ok (packAll rs us) w:=by
      intro c rs' u hr e hu hrun
      subst e
      obtain ⟨us,h1,h2,h3⟩:=ih rs' hr
      refine ⟨u::us,by simpa [okRes] using h1,⟨by simp [flatten,h2.1],fun i l hi => ?_⟩,?_⟩
      · cases i with
        | zero=>simp [flatten] at hi; subst hi; exact hu
        | succ i=>exact h2.2 i l (by simpa [flatten] using hi)
      · rw [List.mapM_cons]
        simp [hrun,h3,packAll,packOne]
    have many : ∀ (cs : List (Lf C)) (rs' : List (Bool×List (Lf C))) (us0 : List Value),resOf X S l=some rs' → rs=(true,cs)::rs' → LfsOk X.K w S.objs β fp (stbOf S.objs fp w) cs us0→(resG a.tmps x).run P w = .ok (.agg us0.toArray) w →
        ∃ us : List Value,okRes rs=true∧LfsOk X.K w S.objs β fp (stbOf S.objs fp w) (flatten rs) us∧((x::l).mapM (resG a.tmps)).run P w = .ok (packAll rs us) w:=by
      intro cs rs' us0 hr e hu hrun
      subst e
      obtain ⟨us,h1,h2,h3⟩:=ih rs' hr
      refine ⟨us0++us,by simpa [okRes] using h1,⟨by simp [flatten,h2.1,hu.1],fun i l hi => ?_⟩,?_⟩
      · simp only [flatten] at hi
        by_cases hlt : i<cs.length
        · rw [List.getElem?_append_left hlt] at hi
          have:=hu.2 i l hi
          have e : (us0++us).getD i undef=us0.getD i undef:=by
            simp [List.getD,List.getElem?_append_left (by rw [hu.1]; exact hlt : i<us0.length)]
          rw [e]; exact this
        · have hge : cs.length≤i:=Nat.le_of_not_lt hlt
          rw [List.getElem?_append_right hge] at hi
          have:=h2.2 _ l hi
          have e : (us0++us).getD i undef=us.getD (i - cs.length) undef:=by
            simp [List.getD,List.getElem?_append_right (by rw [hu.1]; exact hge : us0.length≤i),hu.1]
          rw [e]; exact this
      · rw [List.mapM_cons]
        have e1 : (us0++us).take cs.length=us0:=by rw [← hu.1]; simp
        have e2 : (us0++us).drop cs.length=us:=by rw [← hu.1]; simp
        simp [hrun,h3,packAll,packOne,e1,e2]
    cases x with
    | tmp t =>
      simp only [resOf] at h
      split at h
      · rename_i c hc
        split at h
        · rename_i rs' hr
          cases h
          exact one c rs' _ hr rfl (hs.env t _ hc) rfl
        · cases h
      · rename_i cs hc
        split at h
        · rename_i rs' hr
          cases h
          obtain ⟨us0,e,h0⟩:=hs.env t _ hc
          exact many cs rs' us0 hr rfl h0 (by simp [resG,e])
        · cases h
      · cases h
    | cell b t =>
      simp only [resOf] at h
      split at h
      · rename_i c tk hc ht
        obtain ⟨ls,p,hk,hv,hcell⟩:=cells_ok hs (hs.env b _ hc) h
        split at hk
        · rename_i c1 rs' hm hr
          cases hk
          obtain ⟨u,hu,hok⟩:=load_sv (hX.tk _ _ ht) hm hcell
          exact one c1 rs' u hr rfl hok (by simp [resG,hv,asAddr,hu])
        · rename_i c1 rs' hm hr
          cases hk
          obtain ⟨u,hu,us0,e,h0⟩:=load_sv (hX.tk _ _ ht) hm hcell
          subst e
          exact many c1 rs' us0 hr rfl h0 (by simp [resG,hv,asAddr,hu])
        · cases hk
      · cases h

theorem reshape_flat : ∀ (rs : List (Bool×List (Lf C))) (ls : List (Lf C)),ls.length=(flatten rs).length→flatten (reshape rs ls)=ls∧shape1 (reshape rs ls)=shape1 rs
  | [],ls,h=>by
    simp [flatten] at h
    subst h
    exact ⟨rfl,rfl⟩
  | (b,l)::r,ls,h=>by
    simp only [flatten,List.length_append] at h
    obtain ⟨h1,h2⟩:=reshape_flat r (ls.drop l.length) (by simp; omega)
    refine ⟨by simp [reshape,flatten,h1],?_⟩
    simp only [reshape,shape1,h2,List.cons.injEq,Prod.mk.injEq,true_and,and_true]
    simp; omega

theorem outs_ok (hs : Sim X.K w0 nt S β fp a w) {rs rs' : List (Bool×List (Lf C))} (ho : outs S rs=some rs') (hok : okRes rs=true) {us : List Value} (hl : LfsOk X.K w S.objs β fp (stbOf S.objs fp w) (flatten rs) us) :
    ResOk X.K w0 w rs' (pack rs us):=by
  unfold outs at ho
  split at ho
  · rename_i ls' S' ha
    cases ho
    obtain ⟨_,_,_,g3,G,g4,g5,g6⟩:=absorb_ok hs (flatten rs) us S.objs ls' S' false (fun _ _ h=>h) ha hl
    obtain ⟨e1,e2⟩:=reshape_flat rs ls' g3
    refine ⟨us,G,(pack_congr e2).symm,by rw [e1,g3,hl.1],by rw [okRes_congr e2]; exact hok,fun m k hk => ?_,fun m m' k h1 h2=>g5 m m' k h1 h2,fun m l hm => ?_⟩
    · obtain ⟨id,ob,h1,h2,h3⟩:=g4 m k hk
      exact hs.fresh id ob k h1 h3
    · rw [e1] at hm
      exact (g6 m l hm).1 rfl
  · cases ho

theorem argEnv_lk : ∀ (vs : List (SV C)) (n t : Nat) (v : SV C),lk (argEnv n vs) t=some v→n≤t∧vs[t - n]? = some v
  | [],n,t,v,h=>by simp [argEnv,lk] at h
  | x::vs,n,t,v,h=>by
    simp only [argEnv,lk_cons] at h
    by_cases e : t=n
    · subst e
      simp at h
      subst h
      exact ⟨Nat.le_refl _,by simp⟩
    · rw [if_neg e] at h
      obtain ⟨h1,h2⟩:=argEnv_lk vs (n+1) t v h
      refine ⟨by omega,?_⟩
      have e : t - n=(t - (n+1))+1:=by omega
      rw [e]
      simpa using h2

theorem rep_lf' {K : Cd C} {objs : Objs C} {F : Nat→Prop} {l : Lf C} {u : Value} (h : Rep K w F l u) : LfOk K w objs β fp F l u:=by
  cases h with
  | int=>rfl
  | bool=>rfl
  | str=>rfl
  | fnc=>rfl
  | row t xs A c a U h1 h2 h3 h4=>exact .row t xs A c a U h1 h2 h3 h4

theorem start_sim {K : Cd C} {vs : List (SV C)} {us : List Value} (hi : K.inv w) (hl : us.length=vs.length) (hn : vs.length≤nt)
    (ha : ∀ (i : Nat) (v : SV C),vs[i]? = some v→ArgOk K w (fun k=>k<w.heap.size) v (us.getD i undef)) :
    SimE K w nt (start vs) { tmps:=us.toArray++Array.replicate (nt - us.toArray.size) undef,defers:=[] } w:=by
  refine ⟨fun _=>undef,fun _ _=>False,Below.refl _ _,⟨rfl,hi⟩,by simp; omega,fun id ob k h=>by simp [start,lk] at h,fun id id' ob ob' k h=>by simp [start,lk] at h,fun id ob h=>by simp [start,lk] at h,fun t v h => ?_⟩
  obtain ⟨_,h⟩:=argEnv_lk vs 0 t v h
  simp only [Nat.sub_zero] at h
  have hlt : t<us.length:=by
    rw [hl]
    rcases Nat.lt_or_ge t vs.length with h' | h'
    · exact h'
    · simp [List.getElem?_eq_none h'] at h
  have e : (us.toArray++Array.replicate (nt - us.toArray.size) undef).getD t undef=us.getD t undef:=by
    simp [Array.getD_eq_getD_getElem?,Array.getElem?_append,hlt,List.getD]
  show SVOk K w _ _ _ _ v ((us.toArray++Array.replicate (nt - us.toArray.size) undef).getD t undef)
  rw [e]
  have hst : ∀ k,k<w.heap.size→stbOf (start vs).objs (fun _ _=>False) w k:=fun k hk=>⟨hk,fun _ _ _ h=>h⟩
  have:=ha t v h
  cases v with
  | one l =>
    cases l with
    | elt t x o=>obtain ⟨p,U,h1,h2,h3,h4⟩:=this; exact ⟨p,U,h1,hst _ h2,h3,fun i l hi=>(h4 i l hi).mono hst⟩
    | _=>exact (show LfOk K w (start vs).objs (fun _=>undef) (fun _ _=>False) _ _ (us.getD t undef) from rep_lf' (this.2.mono hst))
  | agg ls =>
    obtain ⟨us',e,h1,h2⟩:=this
    exact ⟨us',e,h1,fun i l hi=>rep_lf' ((h2 i l hi).mono hst)⟩
  | _=>exact this.elim

theorem fn_sound (hX : XOk P X) (hC : Cons P X) (hm : P.follows .mixedOrders=true) (F : Cf) {f : Nat} {fn : Func} {c : Code} (hf : P.funcs[f]? = some fn) (hb : fn.body=some c) (hB : codeB fn.ntmps c=true) {vs : List (SV C)} {us : List Value}
    (hi : X.K.inv w) (hl : us.length=vs.length) (hn : vs.length≤fn.ntmps) (ha : ∀ (i : Nat) (v : SV C),vs[i]? = some v→ArgOk X.K w (fun k=>k<w.heap.size) v (us.getD i undef))
    {k : List (Bool×List (Lf C))→Option R} (h : runFn X F fn vs k=some r) :
    Calls P f us.toArray w fun e w' => ∃ v,e = .returned v∧Below w.heap.size w w' ∧ ∃ rs,k rs=some r∧ResOk X.K w w' rs v:=by
  unfold runFn at h
  rw [hb] at h
  refine calls_of_wp hf hb (Go.wp_mono (run_sound hX hC hm F c 0 _ _ w _ hB (start_sim hi hl hn ha) h) ?_)
  have fin : ∀ (a : Act) (w' : World) (S : St C),SimE X.K w fn.ntmps S a w' → (match resOf X S fn.results.toList with
      | some rs=>match outs S rs with
        | some rs' => k rs'
        | none=>none
      | none=>none)=some r→a.defers=[] ∧ ∃ v,(results fn a.tmps).run P w' = .ok v w' ∧ ∃ v_1,Ending.returned v = .returned v_1∧Below w.heap.size w w' ∧ ∃ rs,k rs=some r∧ResOk X.K w w' rs v_1:=by
    intro a w' S ⟨β,fp,hs⟩ h
    split at h
    · rename_i rs hr
      split at h
      · rename_i rs' ho
        obtain ⟨us',h1,h2,h3⟩:=resOf_ok hX hs _ rs hr
        refine ⟨hs.defers.1,pack rs us',?_,_,rfl,hs.below,rs',h,outs_ok hs ho h1 h2⟩
        rw [results_eq]
        simp only [Sem.run_bind,h3,Result.andThen_ok]
        rfl
      · cases h
    · cases h
  rintro (_ | _ | _ | _ | _ | _) a' w' hp
  · obtain ⟨S',hs',hk⟩:=hp; exact fin a' w' S' hs' hk
  · obtain ⟨S',hs',hk⟩:=hp; cases hk
  · exact hp.elim
  · obtain ⟨S',hs',hk⟩:=hp; exact fin a' w' S' hs' hk
  · exact hp.elim
  · exact hp.elim

theorem con_of (hX : XOk P X) (hC : Cons P X) (hm : P.follows .mixedOrders = true) {f : Nat} {fn : Func} {c : Code} (hf : P.funcs[f]? = some fn) (hb : fn.body = some c) (hB : codeB fn.ntmps c = true) (hname : fn.name ≠ "runtime.NumGoroutine") (co : Con C)
    (h : ∀ vs r0,co.g vs=some r0→vs.length≤fn.ntmps ∧ ∃ F : Cf,runFn X F fn vs some=some (co.ret r0)) (hnz : co.nz=false:=by rfl) : ConOk P X.K f co:=by
  refine ⟨⟨fn,hf,by rw [hb]; rfl,hname⟩,fun w vs us r0 hi hl ha hg => ?_⟩
  obtain ⟨hn,F,hr⟩:=h vs r0 hg
  refine (fn_sound hX hC hm F hf hb hB hi hl hn ha hr).mono fun e w' ⟨v,he,hbel,rs,hk,hres⟩=>⟨v,he,hbel,?_,fun hz=>by rw [hnz] at hz; cases hz⟩
  cases hk
  exact hres

/-- The same,the results told by what is read off them. -/
theorem con_dec (hX : XOk P X) (hC : Cons P X) (hm : P.follows .mixedOrders = true) {f : Nat} {fn : Func} {c : Code} (hf : P.funcs[f]? = some fn) (hb : fn.body = some c) (hB : codeB fn.ntmps c = true) (hname : fn.name ≠ "runtime.NumGoroutine") (co : Con C)
    (dec : List (Bool×List (Lf C))→Option co.R0) (hd : ∀ rs r0,dec rs=some r0→rs=co.ret r0)
    (h : ∀ vs r0,co.g vs=some r0→vs.length≤fn.ntmps ∧ ∃ F : Cf,runFn X F fn vs dec=some r0) (hnz : co.nz=false:=by rfl) : ConOk P X.K f co:=by
  refine ⟨⟨fn,hf,by rw [hb]; rfl,hname⟩,fun w vs us r0 hi hl ha hg => ?_⟩
  obtain ⟨hn,F,hr⟩:=h vs r0 hg
  refine (fn_sound hX hC hm F hf hb hB hi hl hn ha hr).mono fun e w' ⟨v,he,hbel,rs,hk,hres⟩=>⟨v,he,hbel,?_,fun hz=>by rw [hnz] at hz; cases hz⟩
  rw [hd rs r0 hk] at hres
  exact hres
theorem nz_val (hs : Sim X.K w0 nt S β fp a w) {rs rs' : List (Bool×List (Lf C))} (hz : nzB S rs=true) (ho : outs S rs=some rs') {us : List Value} (hl : LfsOk X.K w S.objs β fp (stbOf S.objs fp w) (flatten rs) us) {t : Ty} (e : rs' = [(false,[.row t []])]) : pack rs us = .slice none 0 0:=by
  unfold nzB at hz
  split at hz
  · rename_i t'
    obtain ⟨u,rfl⟩:=List.length_eq_one_iff.1 (show us.length=1 from hl.1)
    have : u = .slice none 0 0:=hl.2 0 (.nil t') rfl
    subst this
    rfl
  · rename_i id
    split at hz
    · rename_i t' xs sh hob
      exfalso
      unfold outs at ho
      simp only [flatten,List.append_nil,absorb,hob] at ho
      cases sh with
      | true=>simp at ho
      | false =>
        simp [reshape] at ho
        rw [e] at ho
        simp at ho
        obtain ⟨e1,e2⟩:=ho
        subst e1
        have:=eq_of_heq e2
        subst this
        simp [isNil] at hz
    · cases hz
  · cases hz
theorem con_decZ (hX : XOk P X) (hC : Cons P X) (hm : P.follows .mixedOrders = true) {f : Nat} {fn : Func} {c : Code} (hf : P.funcs[f]? = some fn) (hb : fn.body = some c) (hB : codeB fn.ntmps c = true) (hname : fn.name ≠ "runtime.NumGoroutine") (co : Con C)
    (dec : List (Bool×List (Lf C))→Option co.R0) (hd : ∀ rs r0,dec rs=some r0→rs=co.ret r0)
    (h : ∀ vs r0,co.g vs=some r0→vs.length≤fn.ntmps ∧ ∃ F : Cf,runFnZ X F fn vs dec=some r0) : ConOk P X.K f co:=by
  refine ⟨⟨fn,hf,by rw [hb]; rfl,hname⟩,fun w vs us r0 hi hl ha hg => ?_⟩
  obtain ⟨hn,F,hr⟩:=h vs r0 hg
  unfold runFnZ at hr
  rw [hb] at hr
  refine calls_of_wp hf hb (Go.wp_mono (run_sound hX hC hm F c 0 _ _ w _ hB (start_sim hi hl hn ha) hr) ?_)
  have fin : ∀ (a : Act) (w' : World) (S : St C),SimE X.K w fn.ntmps S a w' → (match resOf X S fn.results.toList with
      | some rs=>cond (nzB S rs) (match outs S rs with
        | some rs' => dec rs'
        | none=>none) none
      | none=>none)=some r0→a.defers=[] ∧ ∃ v,(results fn a.tmps).run P w' = .ok v w' ∧ ∃ v_1,Ending.returned v = .returned v_1∧Below w.heap.size w w' ∧ ResOk X.K w w' (co.ret r0) v_1∧(co.nz=true → ∀ t,co.ret r0=[(false,[.row t []])]→v_1 = .slice none 0 0):=by
    intro a w' S ⟨β,fp,hs⟩ h
    split at h
    · rename_i rs hr
      obtain ⟨hz,h⟩:=cond_some h
      split at h
      · rename_i rs' ho
        obtain ⟨us',h1,h2,h3⟩:=resOf_ok hX hs _ rs hr
        have e:=hd rs' r0 h
        refine ⟨hs.defers.1,pack rs us',?_,_,rfl,hs.below,by rw [← e]; exact outs_ok hs ho h1 h2,fun _ t ht=>nz_val hs hz ho h2 (e.trans ht)⟩
        rw [results_eq]
        simp only [Sem.run_bind,h3,Result.andThen_ok]
        rfl
      · cases h
    · cases h
  rintro (_ | _ | _ | _ | _ | _) a' w' hp
  · obtain ⟨S',hs',hk⟩:=hp; exact fin a' w' S' hs' hk
  · obtain ⟨S',hs',hk⟩:=hp; cases hk
  · exact hp.elim
  · obtain ⟨S',hs',hk⟩:=hp; exact fin a' w' S' hs' hk
  · exact hp.elim
  · exact hp.elim

/-- Rounds of a shallow function. -/
def lpN {A : Type} (rnd : (A→Option R)→A→Option R) : Nat→A→Option R
  | 0,_=>none
  | n+1,x=>rnd (lpN rnd n) x
theorem iter_eq {A : Type} {f : (St C→Option R)→St C→Option R} {ent : List Nat} (st : A→St C) (rnd : (A→Option R)→A→Option R)
    (h : ∀ rec x,f (canThen ent rec) (st x)=rnd (fun x=>rec (st x)) x) : ∀ n x,iter f ent n (st x)=lpN rnd n x
  | 0,_=>rfl
  | n+1,x=>by
    rw [iter,h,lpN]
    congr 1
    funext y
    exact iter_eq st rnd h n y
end
end Go.Proofs.Ytakakoogpmhhkaa.Ab

/- The abstract machine,part 27: facts of types,out of what the kernel can reckon. -/
set_option linter.unusedVariables false
set_option linter.unusedSimpArgs false
set_option linter.unusedSectionVars false
namespace Go.Proofs.Ytakakoogpmhhkaa.Ab
open Go Go.RowKit

section
variable {Ty : Type} [DecidableEq Ty] {C : Ty→Type}
variable {P : Program} {K : Cd C}

theorem tk_of {l : List (Nat×TK Ty)} (h : ∀ x,x ∈ l→TFact P K x.1 x.2) : ∀ T k,lk l T=some k→TFact P K T k:=by
  induction l with
  | nil=>intro T k h; simp [lk] at h
  | cons x l ih =>
    obtain ⟨m,k0⟩:=x
    intro T k hl
    rw [lk_cons] at hl
    split at hl
    · rename_i e
      cases hl
      subst e
      exact h (T,k0) (by simp)
    · exact ih (fun y hy=>h y (by simp [hy])) T k hl

theorem tfact_one {T : TypeId} {z : ZL Ty} {d : TypeDesc} (h1 : (P.info? T).map (fun i=>i.size)=some 1) (h2 : (P.info? T).bind (fun i=>i.zero)=some z.val) (h3 : P.underlying T=some d) (h4 : z.desc K d) : TFact P K T (.one z):=by
  cases hi : P.info? T with
  | none=>rw [hi] at h1; cases h1
  | some i =>
    rw [hi] at h1 h2
    exact ⟨⟨i,hi,by simpa using h1,h2⟩,d,h3,h4⟩

def fieldB (P : Program) (f : Field) (x : Nat×Nat×Bool) : Bool :=
  Nat.beq f.offset x.1&&(match P.info? f.type with
    | some i=>Nat.beq i.size x.2.1
    | none=>false)&&Nat.ble 1 x.2.1&&(match P.underlying f.type with
    | some (.struct _)=>x.2.2
    | some (.array ..)=>x.2.2
    | some _ => !x.2.2
    | none=>false)
def fieldsB (P : Program) : List Field→List (Nat×Nat×Bool)→Bool
  | [],[]=>true
  | f::l,x::r=>fieldB P f x&&fieldsB P l r
  | _,_=>false
theorem fieldsB_ok : ∀ {l : List Field} {fs : List (Nat×Nat×Bool)},fieldsB P l fs=true→l.length=fs.length ∧ ∀ (j : Nat) (x : Nat×Nat×Bool),fs[j]? = some x → ∃ f,l[j]? = some f∧fieldB P f x=true
  | [],[],_=>⟨rfl,fun j x h=>by simp at h⟩
  | [],_::_,h=>by cases h
  | _::_,[],h=>by cases h
  | f::l,x::r,h=>by
    simp only [fieldsB,Bool.and_eq_true] at h
    obtain ⟨h1,h2⟩:=fieldsB_ok h.2
    refine ⟨by simp [h1],fun j y hj => ?_⟩
    cases j with
    | zero=>simp at hj; subst hj; exact ⟨f,rfl,h.1⟩
    | succ j=>exact h2 j y (by simpa using hj)
def structB (P : Program) (T : TypeId) (fs : List (Nat×Nat×Bool)) : Bool:=match P.underlying T with
  | some (.struct fields)=>fieldsB P fields.toList fs
  | _=>false
theorem tfact_agg {T : TypeId} {fs : List (Nat×Nat×Bool)} {zs : List (ZL Ty)} (h1 : (P.info? T).map (fun i=>i.size)=some zs.length) (h2 : (P.info? T).bind (fun i=>i.zero)=some (.agg (zs.map ZL.val).toArray))
    (h3 : structB P T fs=true) : TFact P K T (.agg fs zs):=by
  cases hi : P.info? T with
  | none=>rw [hi] at h1; cases h1
  | some i =>
    rw [hi] at h1 h2
    refine ⟨⟨i,hi,by simpa using h1,h2⟩,?_⟩
    unfold structB at h3
    split at h3
    · rename_i fields hu
      obtain ⟨g1,g2⟩:=fieldsB_ok h3
      refine ⟨fields,hu,by simpa using g1,fun j off n ag hj => ?_⟩
      obtain ⟨f,hf,hb⟩:=g2 j _ hj
      simp only [fieldB,Bool.and_eq_true] at hb
      obtain ⟨⟨⟨b1,b2⟩,b3⟩,b4⟩:=hb
      cases hfi : P.info? f.type with
      | none=>rw [hfi] at b2; cases b2
      | some fi =>
        rw [hfi] at b2
        refine ⟨f,fi,by simpa using hf,Nat.eq_of_beq_eq_true b1,hfi,Nat.eq_of_beq_eq_true b2,Nat.le_of_ble_eq_true b3,?_⟩
        cases hd : P.underlying f.type with
        | none=>rw [hd] at b4; cases b4
        | some d =>
          rw [hd] at b4
          refine ⟨d,rfl,?_⟩
          cases d <;> simp at b4 <;> simp [b4]
    · cases h3

theorem tfact_arr {T e : TypeId} {n sz : Nat} {ag : Bool} {zs : List (ZL Ty)} (h1 : (P.info? T).map (fun i=>i.size)=some zs.length) (h2 : (P.info? T).bind (fun i=>i.zero)=some (.agg (zs.map ZL.val).toArray))
    (h3 : (Nat.beq zs.length (n*sz)&&Nat.ble 1 sz)=true) (h4 : P.underlying T=some (.array n e)) (h5 : (P.info? e).map (fun i=>i.size)=some sz) (h6 : (P.underlying e).map (fun d=>match d with | .struct _ | .array .. => true | _=>false)=some ag) : TFact P K T (.arr n sz ag zs):=by
  rw [Bool.and_eq_true] at h3
  cases hi : P.info? T with
  | none=>rw [hi] at h1; cases h1
  | some i =>
    rw [hi] at h1 h2
    cases he : P.info? e with
    | none=>rw [he] at h5; cases h5
    | some ie =>
      rw [he] at h5
      cases hd : P.underlying e with
      | none=>rw [hd] at h6; cases h6
      | some d =>
        rw [hd] at h6
        refine ⟨⟨i,hi,by simpa using h1,h2⟩,Nat.eq_of_beq_eq_true h3.1,Nat.le_of_ble_eq_true h3.2,e,ie,h4,he,by simpa using h5,d,hd,?_⟩
        simp only [Option.map_some,Option.some.injEq] at h6
        rw [← h6]
        cases d <;> rfl

def zvL : Lf C→Option Value
  | .int k n=>some (.int k n)
  | .bool b=>some (.bool b)
  | .str s=>some (.string s)
  | .row _ []=>some (.slice none 0 0)
  | .fnc f=>some (fnV f)
  | _=>none
theorem efact {t : Ty} {z : Value} (h1 : (P.info? (K.tid t)).map (fun i=>(i.size,i.bytes))=some (K.sz t,K.bytes t)) (h2 : 0<K.bytes t) (h3 : (P.info? (K.tid t)).bind (fun i=>i.zero)=some z)
    (h4 : (K.enc t (K.zero t)).map zvL=z.cells.toList.map some) : EFact P K t:=by
  cases hi : P.info? (K.tid t) with
  | none=>rw [hi] at h1; cases h1
  | some i =>
    rw [hi] at h1 h3
    simp only [Option.map_some,Option.some.injEq,Prod.mk.injEq] at h1
    have hlen : z.cells.size=K.sz t:=by
      have:=congrArg List.length h4
      simpa [K.enc_len] using this.symm
    refine ⟨i,z,hi,h1.1,h1.2,h2,h3,hlen,fun j l hj w base F => ?_⟩
    have hz : zvL l=some (z.cells.getD j undef):=by
      have:=congrArg (fun x=>x[j]?) h4
      simp only [List.getElem?_map,hj,Option.map_some] at this
      have hjl : j<z.cells.size:=by
        have : j<(K.enc t (K.zero t)).length:=by
          rcases Nat.lt_or_ge j (K.enc t (K.zero t)).length with h | h
          · exact h
          · simp [List.getElem?_eq_none h] at hj
        rw [hlen,← K.enc_len t (K.zero t)]
        exact this
      rw [Array.getElem?_toList,Array.getElem?_eq_getElem hjl] at this
      rw [Array.getD_eq_getD_getElem?,Array.getElem?_eq_getElem hjl]
      simpa using this
    cases l with
    | int k n=>simp only [zvL,Option.some.injEq] at hz; rw [← hz]; exact .int ..
    | bool b=>simp only [zvL,Option.some.injEq] at hz; rw [← hz]; exact .bool ..
    | str s=>simp only [zvL,Option.some.injEq] at hz; rw [← hz]; exact .str ..
    | fnc f=>simp only [zvL,Option.some.injEq] at hz; rw [← hz]; exact .fnc ..
    | row t' xs =>
      cases xs with
      | nil =>
        simp only [zvL,Option.some.injEq] at hz
        rw [← hz]
        exact .row _ t' [] _ [] (fun _ _ _=>False) (World.ownsRow_nil ..) (fun g hg=>by simp [Value.ownBlock] at hg) (fun _ _ _ h=>h.elim) (fun _ _ _ _ _ h=>h.elim) (fun j hj=>absurd hj (by simp))
      | cons x xs=>simp [zvL] at hz
    | _=>simp [zvL] at hz

/-! ### Words for what gen.py prints -/
def codeAt : Code→List Nat→Code
  | .seq a _,0::r=>codeAt a r
  | .seq _ b,1::r=>codeAt b r
  | .block _ c,_::r=>codeAt c r
  | .loop c,_::r=>codeAt c r
  | .scope c,_::r=>codeAt c r
  | .cond _ a _,0::r=>codeAt a r
  | .cond _ _ b,1::r=>codeAt b r
  | c,_=>c
def bodyOf (f : Func) : Code:=match f.body with
  | some c=>c
  | none => .skip
def kTop {R : Type} (X : Cx C) (fn : Func) (k : List (Bool×List (Lf C))→Option R) (e : Ex) (S : St C) : Option R:=match e with
  | .exit _=>none
  | _=>match resOf X S fn.results.toList with
    | some rs=>match outs S rs with
      | some rs' => k rs'
      | none=>none
    | none=>none
theorem runFn_eq {R : Type} {X : Cx C} {F : Cf} {fn : Func} {c : Code} (hb : fn.body=some c) (vs : List (SV C)) (k : List (Bool×List (Lf C))→Option R) :
    runFn X F fn vs k=run X F (bodyOf fn) 0 (start vs) (kTop X fn k):=by
  unfold runFn bodyOf
  rw [hb]
  congr 1
end
end Go.Proofs.Ytakakoogpmhhkaa.Ab

/- The abstract machine: facts of types of functions,interfaces,maps; of methods: out of what the kernel can reckon. -/
set_option linter.unusedVariables false
set_option linter.unusedSimpArgs false
set_option linter.unusedSectionVars false
namespace Go.Proofs.Ytakakoogpmhhkaa.Ab
open Go Go.RowKit

section
variable {Ty : Type} [DecidableEq Ty] {C : Ty→Type}
variable {P : Program} {K : Cd C} {w : World}

def isFn : Option TypeDesc→Bool
  | some (.func ..)=>true
  | _=>false
def isIf : Option TypeDesc→Bool
  | some (.interface _)=>true
  | _=>false
def isMp : Option TypeDesc→Bool
  | some (.map ..)=>true
  | _=>false
theorem tfact_fnc {T : TypeId} (h1 : (P.info? T).map (fun i=>i.size)=some 1) (h2 : (P.info? T).bind (fun i=>i.zero)=some .nilFunc) (h3 : isFn (P.underlying T)=true) : TFact P K T (.one .fnc):=by
  cases h : P.underlying T with
  | none=>rw [h] at h3; cases h3
  | some d =>
    rw [h] at h3
    cases d with
    | func p r v=>exact tfact_one h1 h2 h ⟨p,r,v,rfl⟩
    | _=>cases h3
theorem tfact_ifc {T : TypeId} (h1 : (P.info? T).map (fun i=>i.size)=some 1) (h2 : (P.info? T).bind (fun i=>i.zero)=some .nilIface) (h3 : isIf (P.underlying T)=true) : TFact P K T (.one (.nk .ifc)):=by
  cases h : P.underlying T with
  | none=>rw [h] at h3; cases h3
  | some d =>
    rw [h] at h3
    cases d with
    | interface ms=>exact tfact_one h1 h2 h ⟨ms,rfl⟩
    | _=>cases h3
theorem tfact_map {T : TypeId} (h1 : (P.info? T).map (fun i=>i.size)=some 1) (h2 : (P.info? T).bind (fun i=>i.zero)=some (.map none)) (h3 : isMp (P.underlying T)=true) : TFact P K T (.one (.nk .map)):=by
  cases h : P.underlying T with
  | none=>rw [h] at h3; cases h3
  | some d =>
    rw [h] at h3
    cases d with
    | map p r=>exact tfact_one h1 h2 h ⟨p,r,rfl⟩
    | _=>cases h3

/-! ### Maps -/
theorem ba_beq (a b : ByteArray) : (a == b)=decide (a=b):=by
  obtain ⟨x⟩:=a
  obtain ⟨y⟩:=b
  show (x == y)=_
  rw [Bool.eq_iff_iff]
  simp
theorem chk_int {b : Bool} {n : Nat} {t : TypeId} {k : IntKind} (h : P.underlying t=some (.int k)) (v : Value) : (Instr.checkKey b (n+1) t v).run P w = .ok () w:=by
  simp [Instr.checkKey,run_under h]
theorem chk_str {b : Bool} {n : Nat} {t : TypeId} (h : P.underlying t=some .string) (v : Value) : (Instr.checkKey b (n+1) t v).run P w = .ok () w:=by
  simp [Instr.checkKey,run_under h]
theorem find_now {fl : MK} {kt vt : Ty} {kid : TypeId} {d : TypeDesc} (hd : P.underlying kid=some d) (hs : ∀ x y,Instr.sameNow d (keyV K fl kt x) (keyV K fl kt y)=some (keysEq (K.enc kt y) (K.enc kt x))) (x : C kt) (xs : List (Nat×C kt×C vt)) :
    (Instr.findKey kid (keyV K fl kt x) (xs.map (entV K fl kt vt))).run P w = .ok (mfind K fl kt vt x xs 0) w:=by
  have key : ∀ (xs : List (Nat×C kt×C vt)) (i : Nat),Instr.findNow d (keyV K fl kt x) (xs.map (entV K fl kt vt)) i=some (mfind K fl kt vt x xs i):=by
    intro xs
    induction xs with
    | nil=>intro i; rfl
    | cons e r ih =>
      intro i
      have h1 : Instr.sameNow d (keyV K fl kt x) (entV K fl kt vt e).key=some (keysEq (K.enc kt e.2.1) (K.enc kt x)):=hs x e.2.1
      simp only [List.map_cons,Instr.findNow,h1,mfind]
      cases keysEq (K.enc kt e.2.1) (K.enc kt x) with
      | true=>rfl
      | false=>exact ih (i+1)
  unfold Instr.findKey
  simp only [Sem.run_bind,run_under hd,Result.andThen_ok,key]
  rfl
/-- A map whose keys are whole numbers. -/
theorem mfact_int {T kid eid : TypeId} {m : MT Ty} {k : IntKind} (hu : P.underlying T=some (.map kid eid)) (hk : P.underlying kid=some (.int k)) (henc : ∀ x,∃ n,K.enc m.kt x=[Lf.int k n]) (hag : m.fl.kag=false)
    (fk : K.flat m.kt=true) (fv : K.flat m.vt=true) (hz : (P.info? eid).bind (fun i=>i.zero)=some (valV K m.fl m.vt (K.zero m.vt))) (h1 : m.fl.vag=false→m.fl.un=false→K.sz m.vt=1) : MFact P K T m:=by
  refine ⟨kid,eid,hu,fk,fv,fun w => ?_,fun b x w=>chk_int hk _,fun x xs w=>find_now hk (fun x y => ?_) x xs,h1,fun x y h => ?_⟩
  · cases hi : P.info? eid with
    | none=>rw [hi] at hz; cases hz
    | some i =>
      rw [hi] at hz
      have hz' : i.zero=some (valV K m.fl m.vt (K.zero m.vt)):=hz
      simp [zeroValue,typeInfo,hi,hz']
  · obtain ⟨n,hn⟩:=henc x
    obtain ⟨n',hn'⟩:=henc y
    simp only [keyV,mkV,hag,hn,hn',cond_false,List.map_cons,List.map_nil,plainV,List.headD_cons,Instr.sameNow,keysEq,keyEq,if_true]
    congr 1
    rw [Bool.eq_iff_iff]
    simp only [beq_iff_eq,decide_eq_true_eq]
    exact ⟨fun e=>e.symm,fun e=>e.symm⟩
  · obtain ⟨n,hn⟩:=henc x
    obtain ⟨n',hn'⟩:=henc y
    rw [hn,hn'] at h
    have e : n' = n:=by simpa [keysEq,keyEq] using h
    subst e
    simp [keyV,mkV,hag,hn,hn',plainV,Instr.sameBits]
/-- A map whose keys are texts. -/
theorem mfact_str {T kid eid : TypeId} {m : MT Ty} (hu : P.underlying T=some (.map kid eid)) (hk : P.underlying kid=some .string) (henc : ∀ x,∃ n,K.enc m.kt x=[Lf.str n]) (hag : m.fl.kag=false)
    (fk : K.flat m.kt=true) (fv : K.flat m.vt=true) (hz : (P.info? eid).bind (fun i=>i.zero)=some (valV K m.fl m.vt (K.zero m.vt))) (h1 : m.fl.vag=false→m.fl.un=false→K.sz m.vt=1) : MFact P K T m:=by
  refine ⟨kid,eid,hu,fk,fv,fun w => ?_,fun b x w=>chk_str hk _,fun x xs w=>find_now hk (fun x y => ?_) x xs,h1,fun x y h => ?_⟩
  · cases hi : P.info? eid with
    | none=>rw [hi] at hz; cases hz
    | some i =>
      rw [hi] at hz
      have hz' : i.zero=some (valV K m.fl m.vt (K.zero m.vt)):=hz
      simp [zeroValue,typeInfo,hi,hz']
  · obtain ⟨n,hn⟩:=henc x
    obtain ⟨n',hn'⟩:=henc y
    simp only [keyV,mkV,hag,hn,hn',cond_false,List.map_cons,List.map_nil,plainV,List.headD_cons,Instr.sameNow,keysEq,keyEq]
    congr 1
    rw [ba_beq,Bool.eq_iff_iff]
    simp only [decide_eq_true_eq]
    exact ⟨fun e=>e.symm,fun e=>e.symm⟩
  · obtain ⟨n,hn⟩:=henc x
    obtain ⟨n',hn'⟩:=henc y
    rw [hn,hn'] at h
    have e : n' = n:=by simpa [keysEq,keyEq] using h
    subst e
    simp [keyV,mkV,hag,hn,hn',plainV,Instr.sameBits,ba_beq]
theorem mp_of {l : List (Nat×MT Ty)} (h : ∀ x,x ∈ l→MFact P K x.1 x.2) : ∀ T m,lk l T=some m→MFact P K T m:=by
  induction l with
  | nil=>intro T m hm; cases hm
  | cons x l ih =>
    intro T m hm
    obtain ⟨n,v⟩:=x
    rw [lk_cons] at hm
    split at hm
    · rename_i e; cases hm; subst e; exact h (T,m) (by simp)
    · exact ih (fun y hy=>h y (by simp [hy])) T m hm

def allK (P : Program) (K : Cd C) : List (Nat×TK Ty)→Prop
  | []=>True
  | x::r=>TFact P K x.1 x.2∧allK P K r
theorem tk_all : ∀ {l : List (Nat×TK Ty)},allK P K l → ∀ T k,lk l T=some k→TFact P K T k
  | [],_,T,k,h=>by cases h
  | (n,v)::l,ha,T,k,h=>by
    rw [lk_cons] at h
    split at h
    · rename_i e; cases h; subst e; exact ha.1
    · exact tk_all ha.2 T k h
/-! ### Methods -/
def lkS : List (Nat×String×Nat)→Nat→String→Option Nat
  | [],_,_=>none
  | (T,s,f)::r,U,t=>cond (Nat.beq U T&&decide (t=s)) (some f) (lkS r U t)
def isPtr : Option TypeDesc→Bool
  | some (.pointer _)=>true
  | some _=>false
  | none=>true
def methB (P : Program) (x : Nat×String×Nat) : Bool:=match P.info? x.1 with
  | some i=>match i.methods.find? (·.name == x.2.1) with
    | some m=>m.path.isEmpty&&(match m.func with
      | some (g,false)=>Nat.beq g x.2.2 && !isPtr (P.underlying x.1)
      | some (g,true)=>Nat.beq g x.2.2&&(P.underlying x.1).isSome&&isPtr (P.underlying x.1)
      | none=>false)
    | none=>false
  | none=>false
theorem meth_one {x : Nat×String×Nat} (h : methB P x=true) (n : Nat) (v : Value) (w : World) : (method (n+1) x.1 v x.2.1).run P w = .ok (x.2.2,v) w:=by
  obtain ⟨T,s,f⟩:=x
  unfold methB at h
  simp only at h
  split at h
  case h_2=>cases h
  rename_i i hi
  split at h
  case h_2=>cases h
  rename_i m hm
  simp only [Bool.and_eq_true] at h
  obtain ⟨h1,h2⟩:=h
  have hp : m.path = #[]:=by simpa using h1
  have hi' : (typeInfo T).run P w = .ok i w:=by simp [typeInfo,hi]
  have hf : (follow m.path.toList T (.val v)).run P w = .ok (T,.val v) w:=by rw [hp]; rfl
  unfold method
  simp only [Sem.run_bind,hi',Result.andThen_ok,hm,hf]
  split at h2
  · rename_i g hg
    simp only [Bool.and_eq_true] at h2
    have e:=Nat.eq_of_beq_eq_true h2.1
    subst e
    rw [hg]
    cases hd : P.underlying T with
    | none=>rw [hd] at h2; cases h2.2
    | some d =>
      have : (receiverAt T (.val v) false (if m.path.isEmpty = true then some ((s.splitOn ".").getLastD s) else none)).run P w = .ok v w := by
        unfold receiverAt
        simp only [Sem.run_bind,run_under hd,Result.andThen_ok]
        rw [hd] at h2
        cases d <;> first | rfl | cases h2.2
      simp only [Sem.run_bind,this,Result.andThen_ok]
      rfl
  · rename_i g hg
    simp only [Bool.and_eq_true] at h2
    have e:=Nat.eq_of_beq_eq_true h2.1.1
    subst e
    rw [hg]
    cases hd : P.underlying T with
    | none=>rw [hd] at h2; cases h2.1.2
    | some d =>
      have : (receiverAt T (.val v) true (if m.path.isEmpty = true then some ((s.splitOn ".").getLastD s) else none)).run P w = .ok v w := by
        unfold receiverAt
        simp only [Sem.run_bind,run_under hd,Result.andThen_ok]
        rw [hd] at h2
        cases d <;> first | rfl | cases h2.2
      simp only [Sem.run_bind,this,Result.andThen_ok]
      rfl
  · cases h2
theorem meth_of {l : List (Nat×String×Nat)} (h : l.all (methB P)=true) : ∀ T name f,lkS l T name=some f → ∀ v w,(method (P.types.size+Made.depth) T v name).run P w = .ok (f,v) w:=by
  intro T name f hf v w
  have hd : 0<Made.depth:=by decide
  have hn : ∃ n,P.types.size+Made.depth=n+1:=⟨P.types.size+Made.depth - 1,by omega⟩
  obtain ⟨n,hn⟩:=hn
  rw [hn]
  clear hn
  induction l with
  | nil=>cases hf
  | cons x l ih =>
    simp only [List.all_cons,Bool.and_eq_true] at h
    obtain ⟨T',s,f'⟩:=x
    simp only [lkS] at hf
    cases hb : Nat.beq T T' && decide (name=s) with
    | true =>
      rw [hb] at hf
      cases hf
      simp only [Bool.and_eq_true,decide_eq_true_eq] at hb
      have e:=Nat.eq_of_beq_eq_true hb.1
      obtain ⟨_,rfl⟩:=hb
      subst e
      exact meth_one h.1 n v w
    | false=>rw [hb] at hf; exact ih h.2 hf
end
end Go.Proofs.Ytakakoogpmhhkaa.Ab

