/- The abstract machine: a function whose code is run in place: the call. -/
import Derived.Test.YtkiognopoigbhaaAg2
set_option linter.unusedVariables false
set_option linter.unusedSimpArgs false
set_option linter.unusedSectionVars false
namespace Go.Proofs.Ytkiognopoigbhaa.Ab
open Go Go.RowKit

section
variable {Ty : Type} [DecidableEq Ty] {C : Ty → Type}
variable {P : Program} {X : Cx C} {K : Cd C} {w0 w : World} {nt : Nat} {S : St C} {β : Nat → Value} {fp : Nat → Nat → Prop} {a : Act} {R : Type} {k : St C → Option R} {r : R}
variable {Q : Exit → Act → World → Prop} {kp : Nat → Prop} {kh : Nat → Option Obj} {hd : Nat → Value} {objs : Objs C} {stb : Nat → Prop}

theorem pres_gh {F : Nat → Prop} {t : Ty} {xs : List (C t)} {v : Value} {p : List (Nat × Nat)} {t' : Ty} {zs : List (C t')} {v' : Value} (h : PRes K w F t xs v p t' zs v') : PRes (K.gh kp kh hd) w F t xs v p t' zs v' := by
  induction h with
  | nil => exact .nil ..
  | cons t xs v i o x t1 ys a n c v1 p t' zs v' hx hl hv hF hc _ ih => exact .cons t xs v i o x t1 ys a n c v1 p t' zs v' hx hl hv hF hc ih
theorem pres_hg {F : Nat → Prop} {t : Ty} {xs : List (C t)} {v : Value} {p : List (Nat × Nat)} {t' : Ty} {zs : List (C t')} {v' : Value} (h : PRes (K.gh kp kh hd) w F t xs v p t' zs v') : PRes K w F t xs v p t' zs v' := by
  induction h with
  | nil => exact .nil ..
  | cons t xs v i o x t1 ys a n c v1 p t' zs v' hx hl hv hF hc _ ih => exact .cons t xs v i o x t1 ys a n c v1 p t' zs v' hx hl hv hF hc ih
theorem lf_gh {l : Lf C} {v : Value} (h : LfOk K w objs β fp stb l v) : LfOk (K.gh kp kh hd) w objs β fp stb l v := by
  cases l with
  | row t xs => exact rep_gh h
  | elt t x o => obtain ⟨a, U, h1, h2, h3, h4⟩ := h; exact ⟨a, U, h1, h2, h3, fun i l hl => rep_gh (h4 i l hl)⟩
  | ref id p => cases p with
    | nil => exact h
    | cons s p => exact ⟨h.1, fun t xs sh ho => by obtain ⟨h1, t', zs, hz⟩ := h.2 t xs sh ho; exact ⟨h1, t', zs, pres_gh hz⟩⟩
  | ep id p i o => cases p with
    | nil => exact h
    | cons s p => exact ⟨h.1, fun t xs sh ho => by obtain ⟨h1, t', zs, v', hz, hr⟩ := h.2 t xs sh ho; exact ⟨h1, t', zs, v', pres_gh hz, hr⟩⟩
  | _ => exact h
theorem lf_hg {l : Lf C} {v : Value} (h : LfOk (K.gh kp kh hd) w objs β fp stb l v) : LfOk K w objs β fp stb l v := by
  cases l with
  | row t xs => exact rep_hg h
  | elt t x o => obtain ⟨a, U, h1, h2, h3, h4⟩ := h; exact ⟨a, U, h1, h2, h3, fun i l hl => rep_hg (h4 i l hl)⟩
  | ref id p => cases p with
    | nil => exact h
    | cons s p => exact ⟨h.1, fun t xs sh ho => by obtain ⟨h1, t', zs, hz⟩ := h.2 t xs sh ho; exact ⟨h1, t', zs, pres_hg hz⟩⟩
  | ep id p i o => cases p with
    | nil => exact h
    | cons s p => exact ⟨h.1, fun t xs sh ho => by obtain ⟨h1, t', zs, v', hz, hr⟩ := h.2 t xs sh ho; exact ⟨h1, t', zs, v', pres_hg hz, hr⟩⟩
  | _ => exact h
theorem lfs_gh {ls : List (Lf C)} {vs : List Value} (h : LfsOk K w objs β fp stb ls vs) : LfsOk (K.gh kp kh hd) w objs β fp stb ls vs := ⟨h.1, fun i l hl => lf_gh (h.2 i l hl)⟩
theorem lfs_hg {ls : List (Lf C)} {vs : List Value} (h : LfsOk (K.gh kp kh hd) w objs β fp stb ls vs) : LfsOk K w objs β fp stb ls vs := ⟨h.1, fun i l hl => lf_hg (h.2 i l hl)⟩
theorem tup_gh {x : Bool × List (Lf C)} {v : Value} (h : TupOk K w objs β fp stb x v) : TupOk (K.gh kp kh hd) w objs β fp stb x v := by
  obtain ⟨b, ls⟩ := x
  cases b with
  | false => obtain ⟨l, h1, h2⟩ := h; exact ⟨l, h1, lf_gh h2⟩
  | true => obtain ⟨vs, h1, h2⟩ := h; exact ⟨vs, h1, lfs_gh h2⟩
theorem tup_hg {x : Bool × List (Lf C)} {v : Value} (h : TupOk (K.gh kp kh hd) w objs β fp stb x v) : TupOk K w objs β fp stb x v := by
  obtain ⟨b, ls⟩ := x
  cases b with
  | false => obtain ⟨l, h1, h2⟩ := h; exact ⟨l, h1, lf_hg h2⟩
  | true => obtain ⟨vs, h1, h2⟩ := h; exact ⟨vs, h1, lfs_hg h2⟩
theorem ob_gh (hkp : kp = K.kp) (hkh : kh = K.kh) {base : Nat} {F : Nat → Prop} {ob : Ob C} {v : Value} (h : ObOk K w base objs β fp stb F ob v) : ObOk (K.gh kp kh hd) w base objs β fp stb F ob v := by
  cases ob with
  | box kd ls => cases kd with
    | mem => obtain ⟨b, cs, e, h1, h2, h3, h4⟩ := h; exact ⟨b, cs, e, h1, h2, h3, lfs_gh h4⟩
    | clo f n sh => obtain ⟨us, h1, h2, h3⟩ := h; exact ⟨us, h1, h2, lfs_gh h3⟩
    | ifc t sh => obtain ⟨us, h1, h2, h3⟩ := h; exact ⟨us, h1, h2, lfs_gh h3⟩
  | map mk kt vt xs c => exact h
  | ghost => subst hkp hkh; exact h
  | row t xs sh => cases sh with
    | false => exact own_gh h
    | true => obtain ⟨cells, h1, h2, h3⟩ := h; exact ⟨cells, h1, h2, fun j x hx i l hl => rep_gh (h3 j x hx i l hl)⟩
theorem ob_hg (hkp : kp = K.kp) (hkh : kh = K.kh) {base : Nat} {F : Nat → Prop} {ob : Ob C} {v : Value} (h : ObOk (K.gh kp kh hd) w base objs β fp stb F ob v) : ObOk K w base objs β fp stb F ob v := by
  cases ob with
  | box kd ls => cases kd with
    | mem => obtain ⟨b, cs, e, h1, h2, h3, h4⟩ := h; exact ⟨b, cs, e, h1, h2, h3, lfs_hg h4⟩
    | clo f n sh => obtain ⟨us, h1, h2, h3⟩ := h; exact ⟨us, h1, h2, lfs_hg h3⟩
    | ifc t sh => obtain ⟨us, h1, h2, h3⟩ := h; exact ⟨us, h1, h2, lfs_hg h3⟩
  | map mk kt vt xs c => exact h
  | ghost => subst hkp hkh; exact h
  | row t xs sh => cases sh with
    | false => exact own_hg h
    | true => obtain ⟨cells, h1, h2, h3⟩ := h; exact ⟨cells, h1, h2, fun j x hx i l hl => rep_hg (h3 j x hx i l hl)⟩

def noAct : Act := { tmps := #[], defers := [] }
def InlOk (P : Program) (K : Cd C) (f : Nat) (I : Inl C) : Prop :=
  (∃ fn, P.funcs[f]? = some fn ∧ fn.body.isNone = false ∧ fn.name ≠ "runtime.NumGoroutine") ∧
  ∀ (kp : Nat → Prop) (kh : Nat → Option Obj) (hd : Nat → Value) (w0 w : World) (S : St C) (β : Nat → Value) (fp : Nat → Nat → Prop) (vs : List (SV C)) (us : List Value) (R : Type) (k : List (Bool × List (Lf C)) → St C → Option R) (r : R),
    Sim (K.gh kp kh hd) w0 0 S β fp noAct w → (∀ t v, lk S.env t = some v → 1000 ≤ t) → us.length = vs.length →
    (∀ (i : Nat) (v : SV C), vs[i]? = some v → SVOk (K.gh kp kh hd) w S.objs β fp (stbOf S.objs fp w) v (us.getD i undef)) → I.go R vs S k = some r →
    Calls P f us.toArray w fun e w' => ∃ (v : Value) (rs : List (Bool × List (Lf C))) (rls : List Value) (S' : St C) (β' : Nat → Value) (fp' : Nat → Nat → Prop), e = .returned v ∧ v = pack rs rls ∧ okRes rs = true ∧ k rs S' = some r ∧
      Sim (K.gh kp kh hd) w0 0 S' β' fp' noAct w' ∧ LfsOk (K.gh kp kh hd) w' S'.objs β' fp' (stbOf S'.objs fp' w') (flatten rs) rls

theorem inl_gh {f : Nat} {I : Inl C} (h : InlOk P K f I) : InlOk P (K.gh kp kh hd) f I := ⟨h.1, fun kp' kh' hd' => h.2 kp' kh' hd'⟩

/-- What a slot that is put by tells. -/
def SuspOf (b : Nat) (E : List (Nat × SV C)) (t : Nat) (v : SV C) : Prop := ∃ t0, t = t0 + 1000 ∧
  ((∃ l, lk E t0 = some (.one l) ∧ v = .sus (false, [l]) (b + 1000 + t0)) ∨ (∃ ls, lk E t0 = some (.agg ls) ∧ v = .sus (true, ls) (b + 1000 + t0)) ∨
   (∃ id j, lk E t0 = some (.hdr id j) ∧ v = .hdr id j) ∨ (lk E t0 = some .frame ∧ v = .frame) ∨ (∃ x j, lk E t0 = some (.sus x j) ∧ v = .sus x j))
theorem SuspOf.up {b : Nat} {E : List (Nat × SV C)} {t m : Nat} {v u : SV C} (h : SuspOf b E t v) (hne : t ≠ m + 1000) : SuspOf b ((m, u) :: E) t v := by
  obtain ⟨t0, e, h⟩ := h
  have hm : lk ((m, u) :: E) t0 = lk E t0 := by rw [lk_cons, if_neg (by omega)]
  refine ⟨t0, e, ?_⟩
  rw [hm]
  exact h
theorem suspE_lk {b : Nat} : ∀ {E : List (Nat × SV C)} {t : Nat} {v : SV C}, lk (suspE b E) t = some v → SuspOf b E t v
  | [], t, v, h => by simp [suspE, lk] at h
  | (m, u) :: E, t, v, h => by
    have hd : ∀ {v' : SV C}, lk ((m + 1000, v') :: suspE b E) t = some v → (t = m + 1000 ∧ v = v') ∨ (t ≠ m + 1000 ∧ SuspOf b ((m, u) :: E) t v) := fun {v'} h => by
      rw [lk_cons] at h
      by_cases e : t = m + 1000
      · rw [if_pos e] at h; cases h; exact .inl ⟨e, rfl⟩
      · rw [if_neg e] at h; exact .inr ⟨e, (suspE_lk h).up e⟩
    have ht : lk (rm (suspE b E) (m + 1000)) t = some v → SuspOf b ((m, u) :: E) t v := fun h => by
      rw [lk_rm] at h
      by_cases e : t = m + 1000
      · rw [if_pos e] at h; cases h
      · rw [if_neg e] at h; exact (suspE_lk h).up e
    have hm : lk ((m, u) :: E) m = some u := by rw [lk_cons, if_pos rfl]
    cases u with
    | one l => rcases hd h with ⟨e, e2⟩ | ⟨_, h⟩; exact ⟨m, e, .inl ⟨l, hm, e2⟩⟩; exact h
    | agg ls => rcases hd h with ⟨e, e2⟩ | ⟨_, h⟩; exact ⟨m, e, .inr (.inl ⟨ls, hm, e2⟩)⟩; exact h
    | hdr id j => rcases hd h with ⟨e, e2⟩ | ⟨_, h⟩; exact ⟨m, e, .inr (.inr (.inl ⟨id, j, hm, e2⟩))⟩; exact h
    | frame => rcases hd h with ⟨e, e2⟩ | ⟨_, h⟩; exact ⟨m, e, .inr (.inr (.inr (.inl ⟨hm, e2⟩)))⟩; exact h
    | sus x j => rcases hd h with ⟨e, e2⟩ | ⟨_, h⟩; exact ⟨m, e, .inr (.inr (.inr (.inr ⟨x, j, hm, e2⟩)))⟩; exact h
    | tup _ => exact ht h
    | und => exact ht h
theorem blt_lt {a b : Nat} (h : Nat.blt a b = true) : a < b := by simpa [Nat.blt_eq] using h
theorem suspOk_mem {b : Nat} : ∀ {E : List (Nat × SV C)}, suspOk b E = true → ∀ t v, (t, v) ∈ E → (∀ id j, v = .hdr id j → j < b + 1000) ∧ ∀ x j, v = .sus x j → j < b + 1000
  | [], _, t, v, h => by cases h
  | (m, u) :: E, h, t, v, hm => by
    have ih : suspOk b E = true → (t, v) ∈ E → _ := fun h hm => suspOk_mem h t v hm
    rcases List.mem_cons.1 hm with e | hm2
    · cases e
      cases u with
      | hdr id j => simp only [suspOk, Bool.and_eq_true] at h; exact ⟨fun _ _ e => (by cases e; exact blt_lt h.1), fun _ _ e => (by cases e)⟩
      | sus x j => simp only [suspOk, Bool.and_eq_true] at h; exact ⟨fun _ _ e => (by cases e), fun _ _ e => (by cases e; exact blt_lt h.1)⟩
      | _ => exact ⟨fun _ _ e => (by cases e), fun _ _ e => (by cases e)⟩
    · cases u with
      | hdr id j => simp only [suspOk, Bool.and_eq_true] at h; exact ih h.2 hm2
      | sus x j => simp only [suspOk, Bool.and_eq_true] at h; exact ih h.2 hm2
      | _ => exact ih h hm2
/-- What a slot that is taken up again was. -/
def ResuOf (b : Nat) (E : List (Nat × SV C)) (t : Nat) (v : SV C) : Prop :=
  (∃ x j, lk E (t + 1000) = some (.sus x j) ∧ ((j = b + (t + 1000) ∧ v = unTup x) ∨ (j < b + 1000 ∧ v = .sus x j))) ∨ (∃ id j, lk E (t + 1000) = some (.hdr id j) ∧ j < b + 1000 ∧ v = .hdr id j) ∨ (lk E (t + 1000) = some .frame ∧ v = .frame)
theorem ResuOf.up {b : Nat} {E : List (Nat × SV C)} {t m : Nat} {v u : SV C} (h : ResuOf b E t v) (hne : m ≠ t + 1000) : ResuOf b ((m, u) :: E) t v := by
  have hm : lk ((m, u) :: E) (t + 1000) = lk E (t + 1000) := by rw [lk_cons, if_neg (fun e => hne e.symm)]
  unfold ResuOf
  rw [hm]
  exact h
theorem resuE_lk {b : Nat} : ∀ {E : List (Nat × SV C)} {t : Nat} {v : SV C}, lk (resuE b E) t = some v → ResuOf b E t v
  | [], t, v, h => by simp [resuE, lk] at h
  | (m, u) :: E, t, v, h => by
    have hm : lk ((m, u) :: E) m = some u := by rw [lk_cons, if_pos rfl]
    have lo : ¬ 1000 ≤ m → lk (resuE b E) t = some v → ResuOf b ((m, u) :: E) t v := fun hl h => (resuE_lk h).up (by omega)
    have hd : 1000 ≤ m → ∀ {v' : SV C}, lk ((m - 1000, v') :: resuE b E) t = some v → (m = t + 1000 ∧ v = v') ∨ ResuOf b ((m, u) :: E) t v := fun hl {v'} h => by
      rw [lk_cons] at h
      by_cases e : t = m - 1000
      · rw [if_pos e] at h; cases h; exact .inl ⟨by omega, rfl⟩
      · rw [if_neg e] at h; exact .inr ((resuE_lk h).up (by omega))
    have ht : lk (rm (resuE b E) (m - 1000)) t = some v → ResuOf b ((m, u) :: E) t v := fun h => by
      rw [lk_rm] at h
      by_cases e : t = m - 1000
      · rw [if_pos e] at h; cases h
      · rw [if_neg e] at h; exact (resuE_lk h).up (by omega)
    have ble : ∀ {x : Nat}, Nat.ble 1000 x = true → 1000 ≤ x := fun h => Nat.le_of_ble_eq_true h
    have nble : ∀ {x : Nat}, Nat.ble 1000 x = false → ¬ 1000 ≤ x := fun h hl => by rw [Nat.ble_eq_true_of_le hl] at h; cases h
    cases u with
    | sus x j =>
      simp only [resuE] at h
      cases c1 : Nat.ble 1000 m with
      | false => rw [c1] at h; exact lo (nble c1) h
      | true =>
        rw [c1] at h
        cases c2 : Nat.beq j (b + m) with
        | true =>
          rw [c2] at h
          rcases hd (ble c1) h with ⟨e, e2⟩ | h
          · exact .inl ⟨x, j, by rw [← e]; exact hm, .inl ⟨by have := Nat.eq_of_beq_eq_true c2; omega, e2⟩⟩
          · exact h
        | false =>
          rw [c2] at h
          cases c3 : Nat.blt j (b + 1000) with
          | true =>
            rw [c3] at h
            rcases hd (ble c1) h with ⟨e, e2⟩ | h
            · exact .inl ⟨x, j, by rw [← e]; exact hm, .inr ⟨blt_lt c3, e2⟩⟩
            · exact h
          | false => rw [c3] at h; exact ht h
    | hdr id j =>
      simp only [resuE] at h
      cases c1 : Nat.ble 1000 m with
      | false => rw [c1] at h; exact lo (nble c1) h
      | true =>
        rw [c1] at h
        cases c3 : Nat.blt j (b + 1000) with
        | true =>
          rw [c3] at h
          rcases hd (ble c1) h with ⟨e, e2⟩ | h
          · exact .inr (.inl ⟨id, j, by rw [← e]; exact hm, blt_lt c3, e2⟩)
          · exact h
        | false => rw [c3] at h; exact ht h
    | frame =>
      simp only [resuE] at h
      cases c1 : Nat.ble 1000 m with
      | false => rw [c1] at h; exact lo (nble c1) h
      | true =>
        rw [c1] at h
        rcases hd (ble c1) h with ⟨e, e2⟩ | h
        · exact .inr (.inr ⟨by rw [← e]; exact hm, e2⟩)
        · exact h
    | one _ => exact ht h
    | agg _ => exact ht h
    | tup _ => exact ht h
    | und => exact ht h

theorem unTup_ok {x : Bool × List (Lf C)} {v : Value} (h : TupOk K w objs β fp stb x v) : SVOk K w objs β fp stb (unTup x) v := by
  obtain ⟨b, ls⟩ := x
  cases b with
  | false => obtain ⟨l, h1, h2⟩ := h; have h1 : ls = [l] := h1; subst h1; exact h2
  | true => cases ls with
    | nil => exact h
    | cons l r => cases r <;> exact h

/-- A call whose callee's code is run in place. -/
theorem argsI_okV : ∀ {xs : List Operand} {ts : List TypeId} {vs : List (SV C)}, argsI X S xs ts = some vs → ∀ (i : Nat) (v : SV C), vs[i]? = some v → okV v = true
  | [], ts, vs, h, i, v, hi => by simp only [argsI, Option.some.injEq] at h; subst h; simp at hi
  | x :: xs, ts, vs, h, i, v, hi => by
    simp only [argsI] at h
    split at h
    · split at h
      · rename_i vs' hr
        cases h
        cases i with
        | zero => simp at hi; subst hi; rfl
        | succ i => exact argsI_okV hr i v (by simpa using hi)
      · cases h
    · split at h
      · rename_i vs' hr
        cases h
        cases i with
        | zero => simp at hi; subst hi; rfl
        | succ i => exact argsI_okV hr i v (by simpa using hi)
      · cases h
    · cases h
theorem unSh_okV : ∀ {sh : List (Bool × Nat)} {ls : List (Lf C)} (i : Nat) (v : SV C), (unSh sh ls)[i]? = some v → okV v = true
  | [], ls, i, v, h => by simp [unSh] at h
  | (b, n) :: sh, ls, i, v, h => by
    cases i with
    | zero => simp [unSh] at h; subst h; cases b <;> rfl
    | succ i => exact unSh_okV i v (by simpa [unSh] using h)
def AllV (vs : List (SV C)) : Prop := ∀ (i : Nat) (v : SV C), vs[i]? = some v → okV v = true
theorem AllV.nil : AllV ([] : List (SV C)) := fun i v h => by simp at h
theorem AllV.append {vs us : List (SV C)} (h : AllV vs) (h' : AllV us) : AllV (vs ++ us) := fun i v hi => by
  rw [List.getElem?_append] at hi
  split at hi
  · exact h i v hi
  · exact h' _ v hi
theorem s_callI (hinl : ∀ f I, X.inl f = some I → InlOk P X.K f I) (hs : Sim X.K w0 nt S β fp a w) {o : Oper} (hd : slot o.dst nt) {f : FuncId} {pre post : List (SV C)} {pu qu : List Value} {as : List Operand} {ts : List TypeId}
    (h : callI X S f pre as ts post o k = some r) (hpre : SVsOk X.K w S.objs β fp (stbOf S.objs fp w) pre pu) (hpost : SVsOk X.K w S.objs β fp (stbOf S.objs fp w) post qu) (apre : AllV pre) (apost : AllV post)
    (hexec : ∀ fn, P.funcs[f]? = some fn → fn.body.isNone = false → fn.name ≠ "runtime.NumGoroutine" → (execOp a.eval o).run P w = .ok (.enter f (pu ++ (as.map a.eval ++ qu)).toArray) w) : Goal P X w0 nt k r Q o a w := by
  unfold callI at h
  split at h
  case h_2 => cases h
  rename_i I hI
  split at h
  case h_2 => cases h
  rename_i vs hvs
  obtain ⟨hok, h⟩ := cond_some h
  simp only [forceVs_eq, forceS_eq] at h
  have hall := hpre.append ((argsI_sv hs hvs).append hpost)
  have hokV : AllV (pre ++ (vs ++ post)) := apre.append (AllV.append (argsI_okV hvs) apost)
  obtain ⟨⟨fn, hf1, hf2, hf3⟩, hcalls⟩ := hinl f I hI
  let b := S.base
  have hsT := hs.tidy X.hold
  let hd' : Nat → Value := fun j => if b + 1000 ≤ j then a.tmps.getD (j - (b + 1000)) undef else X.K.hd j
  have hnew : ∀ t, hd' (b + 1000 + t) = a.tmps.getD t undef := fun t => by simp [hd']
  have hold : ∀ j, j < b + 1000 → hd' j = X.K.hd j := fun j hj => by simp [hd', show ¬ b + 1000 ≤ j by omega]
  have hmem : ∀ t v, lk (S.tidy X.hold).env t = some v → (∀ id j, v = .hdr id j → j < b + 1000) ∧ ∀ x j, v = .sus x j → j < b + 1000 := fun t v ht => suspOk_mem hok t v (lk_mem (lk_liveE S.env X.hold t v ht))
  have hsim : Sim (X.K.gh X.K.kp X.K.kh hd') w0 0 (susp (S.tidy X.hold)) β fp noAct w := by
    refine ⟨hs.below, rfl, rfl, hs.fresh, hs.disj, fun id ob hi => ob_gh rfl rfl (hs.objs id ob hi), fun t v ht => ?_⟩
    obtain ⟨t0, _, ⟨l, q1, q2⟩ | ⟨ls, q1, q2⟩ | ⟨id, j, q1, q2⟩ | ⟨q1, q2⟩ | ⟨x, j, q1, q2⟩⟩ := suspE_lk ht
    · subst q2
      show TupOk _ w S.objs β fp _ (false, [l]) (hd' (b + 1000 + t0))
      rw [hnew]
      exact ⟨l, rfl, lf_gh (hsT.env t0 _ q1)⟩
    · subst q2
      show TupOk _ w S.objs β fp _ (true, ls) (hd' (b + 1000 + t0))
      rw [hnew]
      obtain ⟨us, e1, e2⟩ := hsT.env t0 _ q1
      exact ⟨us, e1, lfs_gh e2⟩
    · subst q2
      show β id = hd' j
      rw [hold j ((hmem t0 _ q1).1 id j rfl)]
      exact hsT.env t0 _ q1
    · subst q2
      exact hsT.env t0 _ q1
    · subst q2
      show TupOk _ w S.objs β fp _ x (hd' j)
      rw [hold j ((hmem t0 _ q1).2 x j rfl)]
      exact tup_gh (hsT.env t0 _ q1)
  have hcall := hcalls X.K.kp X.K.kh hd' w0 w (susp (S.tidy X.hold)) β fp _ _ R _ r hsim (fun t v ht => by
      obtain ⟨t0, e, _⟩ := suspE_lk ht
      omega) hall.1 (fun i v hi => by
      have := hall.2 i v hi
      have hokv := hokV i v hi
      cases v with
      | one l => exact lf_gh this
      | agg ls => obtain ⟨us, e1, e2⟩ := this; exact ⟨us, e1, lfs_gh e2⟩
      | _ => cases hokv) h
  show o.wp P a w (Next X.K w0 nt k r) Q
  unfold Oper.wp
  rw [hexec fn hf1 hf2 hf3]
  show Calls P f _ w _
  refine hcall.mono fun en w' ⟨v0, rs, rls, S', β', fp', he, hp, hokr, hk, hs', hlf⟩ => ?_
  subst he
  split at hk
  case h_2 => cases hk
  rename_i v hvv
  have hsim2 : Sim X.K w0 nt (resu b S') β' fp' a w' := by
    refine ⟨hs'.below, hs.defers, hs.size, hs'.fresh, hs'.disj, fun id ob hi => ob_hg rfl rfl (hs'.objs id ob hi), fun t v ht => ?_⟩
    rcases resuE_lk ht with ⟨x, j, q1, ⟨q2, q3⟩ | ⟨q2, q3⟩⟩ | ⟨id, j, q1, q2, q3⟩ | ⟨q1, q2⟩
    · subst q3
      have h1 : TupOk _ w' S'.objs β' fp' _ x (hd' j) := hs'.env _ _ q1
      rw [show j = b + 1000 + t by omega, hnew] at h1
      exact unTup_ok (tup_hg h1)
    · subst q3
      have h1 : TupOk _ w' S'.objs β' fp' _ x (hd' j) := hs'.env _ _ q1
      rw [hold j q2] at h1
      exact tup_hg h1
    · subst q3
      have h1 : β' id = hd' j := hs'.env _ _ q1
      rw [hold j q2] at h1
      exact h1
    · subst q2
      exact hs'.env _ _ q1
  have hsv := res_sv hokr hvv (lfs_hg hlf)
  rw [← hp] at hsv
  exact next_put hsim2 hd hsv hk
end
end Go.Proofs.Ytkiognopoigbhaa.Ab
