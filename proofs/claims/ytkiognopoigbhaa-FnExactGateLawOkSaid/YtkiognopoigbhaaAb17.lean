/- The abstract machine, part 17: a call's results. -/
import Derived.Test.YtkiognopoigbhaaAb16
set_option linter.unusedVariables false
set_option linter.unusedSimpArgs false
set_option linter.unusedSectionVars false
namespace Go.Proofs.Ytkiognopoigbhaa.Ab
open Go Go.RowKit

section
variable {Ty : Type} [DecidableEq Ty] {C : Ty → Type}
variable {P : Program} {X : Cx C} {w0 w : World} {nt : Nat} {S : St C} {β : Nat → Value} {fp : Nat → Nat → Prop} {a : Act} {R : Type} {k : St C → Option R} {r : R}
variable {dst : Option Tmp} {ty : TypeId} {pos : String} {aft : Array Edge} {gd : Option (Nat × Bool)} {Q : Exit → Act → World → Prop}

theorem addAll_ok : ∀ {news : Objs C} {S S' : St C}, S.addAll news = some S' → S'.env = S.env ∧ S'.base = S.base ∧ (∀ j, lk S'.objs j = lk (news ++ S.objs) j) ∧ ∀ j ob, lk news j = some ob → Unnamed S j
  | [], S, S', h => by simp only [St.addAll, Option.some.injEq] at h; subst h; exact ⟨rfl, rfl, fun j => rfl, fun j ob h => by simp [lk] at h⟩
  | (id, ob) :: r, S, S', h => by
    simp only [St.addAll] at h
    split at h
    · rename_i S1 h1
      obtain ⟨hn, rfl⟩ := add_some h1
      obtain ⟨g1, g2, g3, g4⟩ := addAll_ok h
      have hne : ∀ j ob', lk r j = some ob' → j ≠ id := fun j ob' hj e => by
        subst e
        have := (g4 j ob' hj).2
        exact this (by cases ob <;> simp [St.setObj, idsO])
      refine ⟨g1, g2, fun j => ?_, fun j ob' hj => ?_⟩
      · rw [g3, lk_append, List.cons_append, lk_cons, lk_append]
        simp only [St.setObj, lk_cons]
        cases e : lk r j with
        | some ob' => have := hne j ob' e; simp [this]
        | none => split <;> simp_all
      · rw [lk_cons] at hj
        split at hj
        · rename_i e; subst e; exact hn
        · have := g4 j ob' hj
          refine ⟨this.1, fun hm => this.2 ?_⟩
          cases ob <;> simp [St.setObj, idsO, hm]
    · cases h

theorem intern_len : ∀ (ls : List (Lf C)) (id : Nat), (intern id ls).1.length = ls.length
  | [], id => rfl
  | l :: r, id => by cases l <;> simp [intern, intern_len r]
theorem intern_get : ∀ (ls : List (Lf C)) (id m : Nat) (l : Lf C), (intern id ls).1[m]? = some l →
    (∃ t xs, ls[m]? = some (.row t xs) ∧ l = .ref (id + m) [] ∧ lk (intern id ls).2 (id + m) = some (.row t xs false)) ∨ (ls[m]? = some l ∧ ∀ t xs, l ≠ .row t xs)
  | [], id, m, l, h => by simp [intern] at h
  | x :: r, id, m, l, h => by
    have ih := intern_get r (id + 1)
    cases m with
    | zero =>
      cases x with
      | row t xs => simp [intern] at h; exact .inl ⟨t, xs, rfl, h.symm, by simp [intern, lk_cons]⟩
      | _ => simp [intern] at h; subst h; exact .inr ⟨rfl, fun t xs => by simp⟩
    | succ m =>
      have hm : (intern (id + 1) r).1[m]? = some l := by cases x <;> simpa [intern] using h
      rcases ih m l hm with ⟨t, xs, h1, h2, h3⟩ | h1
      · refine .inl ⟨t, xs, by simpa using h1, by rw [h2]; congr 1; omega, ?_⟩
        have e : id + 1 + m = id + (m + 1) := by omega
        rw [e] at h3
        cases x with
        | row t' ys => rw [show (intern id (Lf.row t' ys :: r)).2 = (id, .row t' ys false) :: (intern (id + 1) r).2 from rfl, lk_cons, if_neg (by omega)]; exact h3
        | _ => exact h3
      · exact .inr (by simpa using h1)
theorem intern_lk : ∀ (ls : List (Lf C)) (id j : Nat) (ob : Ob C), lk (intern id ls).2 j = some ob → ∃ m t xs, j = id + m ∧ ls[m]? = some (.row t xs) ∧ ob = .row t xs false
  | [], id, j, ob, h => by simp [intern, lk] at h
  | x :: r, id, j, ob, h => by
    have ih := intern_lk r (id + 1) j ob
    have up : lk (intern (id + 1) r).2 j = some ob → ∃ m t xs, j = id + m ∧ (x :: r)[m]? = some (.row t xs) ∧ ob = .row t xs false := fun h => by
      obtain ⟨m, t, xs, h1, h2, h3⟩ := ih h
      exact ⟨m + 1, t, xs, by omega, by simpa using h2, h3⟩
    cases x with
    | row t xs =>
      rw [show (intern id (Lf.row t xs :: r)).2 = (id, .row t xs false) :: (intern (id + 1) r).2 from rfl, lk_cons] at h
      split at h
      · rename_i e; cases h; exact ⟨0, t, xs, by omega, rfl, rfl⟩
      · exact up h
    | _ => exact up h

theorem all_get : ∀ (rs : List (Bool × List (Lf C))) (id m : Nat) (l : Lf C), (flatten (internAll id rs).1)[m]? = some l →
    (∃ t xs, (flatten rs)[m]? = some (.row t xs) ∧ l = .ref (id + m) [] ∧ lk (internAll id rs).2 (id + m) = some (.row t xs false)) ∨ ((flatten rs)[m]? = some l ∧ ∀ t xs, l ≠ .row t xs)
  | [], id, m, l, h => by simp [internAll, flatten] at h
  | (b, ls) :: r, id, m, l, h => by
    simp only [internAll, flatten] at h
    rcases cat_get h with ⟨hj, hx⟩ | ⟨hj, hx⟩
    · rw [intern_len] at hj
      rcases intern_get ls id m l hx with ⟨t, xs, h1, h2, h3⟩ | ⟨h1, h2⟩
      · exact .inl ⟨t, xs, by simp only [flatten]; rw [List.getElem?_append_left hj]; exact h1, h2, by simp only [internAll]; rw [lk_append, h3]⟩
      · exact .inr ⟨by simp only [flatten]; rw [List.getElem?_append_left hj]; exact h1, h2⟩
    · rw [intern_len] at hj hx
      have e : id + ls.length + (m - ls.length) = id + m := by omega
      rcases all_get r (id + ls.length) (m - ls.length) l hx with ⟨t, xs, h1, h2, h3⟩ | ⟨h1, h2⟩
      · rw [e] at h2 h3
        refine .inl ⟨t, xs, by simp only [flatten]; rw [List.getElem?_append_right hj]; exact h1, h2, ?_⟩
        simp only [internAll]
        rw [lk_append]
        cases e2 : lk (intern id ls).2 (id + m) with
        | none => exact h3
        | some ob =>
          obtain ⟨m', t', xs', q1, q2, q3⟩ := intern_lk ls id _ ob e2
          have := idx_lt q2
          omega
      · exact .inr ⟨by simp only [flatten]; rw [List.getElem?_append_right hj]; exact h1, h2⟩
theorem all_lk : ∀ (rs : List (Bool × List (Lf C))) (id j : Nat) (ob : Ob C), lk (internAll id rs).2 j = some ob → ∃ m t xs, j = id + m ∧ (flatten rs)[m]? = some (.row t xs) ∧ ob = .row t xs false
  | [], id, j, ob, h => by simp [internAll, lk] at h
  | (b, ls) :: r, id, j, ob, h => by
    simp only [internAll] at h
    rw [lk_append] at h
    split at h
    · rename_i ob' h1
      cases h
      obtain ⟨m, t, xs, q1, q2, q3⟩ := intern_lk ls id j ob h1
      exact ⟨m, t, xs, q1, by simp only [flatten]; rw [List.getElem?_append_left (idx_lt q2)]; exact q2, q3⟩
    · obtain ⟨m, t, xs, q1, q2, q3⟩ := all_lk r _ j ob h
      refine ⟨ls.length + m, t, xs, by omega, ?_, q3⟩
      simp only [flatten]
      rw [List.getElem?_append_right (by omega), Nat.add_sub_cancel_left]
      exact q2

/-- Two lists of results of one shape. -/
def shape1 : List (Bool × List (Lf C)) → List (Bool × Nat)
  | [] => []
  | (b, ls) :: r => (b, ls.length) :: shape1 r
theorem packAll_congr : ∀ {rs rs' : List (Bool × List (Lf C))} {us : List Value}, shape1 rs = shape1 rs' → packAll rs us = packAll rs' us
  | [], [], us, h => rfl
  | [], (b, ls) :: r, us, h => by simp [shape1] at h
  | (b, ls) :: r, [], us, h => by simp [shape1] at h
  | (b, ls) :: r, (b', ls') :: r', us, h => by
    simp only [shape1, List.cons.injEq, Prod.mk.injEq] at h
    obtain ⟨⟨rfl, hl⟩, hr⟩ := h
    have ih := packAll_congr (us := us.drop ls.length) hr
    simp only [packAll, hl] at ih ⊢
    rw [ih]
    cases b <;> rfl
theorem pack_congr {rs rs' : List (Bool × List (Lf C))} {us : List Value} (h : shape1 rs = shape1 rs') : pack rs us = pack rs' us := by
  unfold pack
  rw [packAll_congr h]
theorem okRes_congr : ∀ {rs rs' : List (Bool × List (Lf C))}, shape1 rs = shape1 rs' → okRes rs = okRes rs'
  | [], [], h => rfl
  | [], (b, ls) :: r, h => by simp [shape1] at h
  | (b, ls) :: r, [], h => by simp [shape1] at h
  | (b, ls) :: r, (b', ls') :: r', h => by
    simp only [shape1, List.cons.injEq, Prod.mk.injEq] at h
    obtain ⟨⟨rfl, hl⟩, hr⟩ := h
    simp only [okRes, hl, okRes_congr hr]
theorem shape_intern : ∀ (rs : List (Bool × List (Lf C))) (id : Nat), shape1 (internAll id rs).1 = shape1 rs
  | [], id => rfl
  | (b, ls) :: r, id => by simp [internAll, shape1, intern_len, shape_intern r]

theorem one_ok {K : Cd C} {objs : Objs C} {stb : Nat → Prop} {b : Bool} {ls : List (Lf C)} {us : List Value} (hok : (b || Nat.beq ls.length 1) = true) (hl : LfsOk K w objs β fp stb ls us) : TupOk K w objs β fp stb (b, ls) (packOne (b, ls) us) := by
  cases b with
  | true => exact ⟨us, rfl, hl⟩
  | false =>
    simp only [Bool.false_or] at hok
    have h1 := Nat.eq_of_beq_eq_true hok
    obtain ⟨l, rfl⟩ := List.length_eq_one_iff.1 h1
    obtain ⟨u, rfl⟩ := List.length_eq_one_iff.1 (hl.1.trans h1)
    exact ⟨l, rfl, hl.2 0 l rfl⟩
theorem packAll_ok {K : Cd C} {objs : Objs C} {stb : Nat → Prop} : ∀ {rs : List (Bool × List (Lf C))} {us : List Value}, okRes rs = true → LfsOk K w objs β fp stb (flatten rs) us →
    (packAll rs us).length = rs.length ∧ ∀ (i : Nat) (x : Bool × List (Lf C)), rs[i]? = some x → TupOk K w objs β fp stb x ((packAll rs us).getD i undef)
  | [], us, _, _ => ⟨rfl, fun i x h => by simp at h⟩
  | (b, ls) :: r, us, hok, hl => by
    simp only [okRes, Bool.and_eq_true] at hok
    have hlen : us.length = ls.length + (flatten r).length := by have := hl.1; simpa [flatten] using this
    have h1 : LfsOk K w objs β fp stb ls (us.take ls.length) := ⟨by simp; omega, fun i l hi => by
      have hlt := idx_lt hi
      have := hl.2 i l (by simp only [flatten]; rw [List.getElem?_append_left hlt]; exact hi)
      have e : (us.take ls.length).getD i undef = us.getD i undef := by simp [List.getD, List.getElem?_take, hlt]
      rw [e]; exact this⟩
    have h2 : LfsOk K w objs β fp stb (flatten r) (us.drop ls.length) := ⟨by simp; omega, fun i l hi => by
      have := hl.2 (ls.length + i) l (by simp only [flatten]; rw [List.getElem?_append_right (by omega), Nat.add_sub_cancel_left]; exact hi)
      have e : (us.drop ls.length).getD i undef = us.getD (ls.length + i) undef := by simp [List.getD]
      rw [e]; exact this⟩
    have ih := packAll_ok hok.2 h2
    refine ⟨by simp [packAll, ih.1], fun i x hi => ?_⟩
    cases i with
    | zero => simp at hi; subst hi; exact one_ok hok.1 h1
    | succ i => exact ih.2 i x (by simpa using hi)

theorem res_sv {K : Cd C} {objs : Objs C} {stb : Nat → Prop} {rs : List (Bool × List (Lf C))} {us : List Value} {v : SV C} (hok : okRes rs = true) (hv : toSV rs = some v) (hl : LfsOk K w objs β fp stb (flatten rs) us) : SVOk K w objs β fp stb v (pack rs us) := by
  obtain ⟨h1, h2⟩ := packAll_ok hok hl
  unfold toSV at hv
  split at hv
  · rename_i l
    cases hv
    obtain ⟨l', e, h3⟩ := h2 0 _ rfl
    cases e
    exact h3
  · rename_i ls
    cases hv
    exact h2 0 _ rfl
  · cases hv
  · rename_i hn1 hn2 hn3
    cases hv
    have hne : rs.length ≠ 1 := fun e => by
      obtain ⟨x, rfl⟩ := List.length_eq_one_iff.1 e
      exact hn3 x rfl
    refine ⟨packAll rs us, ?_, h1, h2⟩
    unfold pack
    split
    · rename_i u hu
      rw [hu] at h1
      exact absurd h1.symm hne
    · rfl

theorem own_base {K : Cd C} {b b' : Nat} {F : Nat → Prop} {l : Lf C} {v : Value} (h : Own K w b F l v) (hb : b' ≤ b) : Own K w b' F l v := by
  induction h with
  | int => exact .int ..
  | bool => exact .bool ..
  | str => exact .str ..
  | fnc => exact .fnc ..
  | row F t xs v cells G h hF hG hd _ ih => exact .row F t xs v cells G (own_lower h hb) hF hG hd ih

theorem flatten_len : ∀ {rs rs' : List (Bool × List (Lf C))}, shape1 rs = shape1 rs' → (flatten rs).length = (flatten rs').length
  | [], [], h => rfl
  | [], (b, ls) :: r, h => by simp [shape1] at h
  | (b, ls) :: r, [], h => by simp [shape1] at h
  | (b, ls) :: r, (b', ls') :: r', h => by
    simp only [shape1, List.cons.injEq, Prod.mk.injEq] at h
    simp [flatten, h.1.2, flatten_len h.2]

/-- The function that a callee's value names. -/
theorem enter_run {f : Nat} {us : Array Value} {fn : Func} (hf1 : P.funcs[f]? = some fn) (hf2 : fn.body.isNone = false) (hf3 : fn.name ≠ "runtime.NumGoroutine") : (callFunc f us).run P w = .ok (.enter f us) w := by
  have hf3' : (fn.name == "runtime.NumGoroutine") = false := by simpa using hf3
  simp [callFunc, hf1, hf2, hf3']
  rw [if_neg hf3, if_neg (by intro hb; simp [hb] at hf2)]
theorem s_callC (hs : Sim X.K w0 nt S β fp a w) {o : Oper} {c : Con C} {f : Nat} (hc : ConOk P X.K f c) {pre post : List (SV C)} {pu qu : List Value} {as : List Operand} {ts : List TypeId}
    (h : callC X c S pre as ts post o k = some r) (hpre : SVsOk X.K w S.objs β fp (stbOf S.objs fp w) pre pu) (hpost : SVsOk X.K w S.objs β fp (stbOf S.objs fp w) post qu)
    (hexec : ∀ fn, P.funcs[f]? = some fn → fn.body.isNone = false → fn.name ≠ "runtime.NumGoroutine" → (execOp a.eval o).run P w = .ok (.enter f (pu ++ (as.map a.eval ++ qu)).toArray) w) (hd : slot o.dst nt) : Goal P X w0 nt k r Q o a w := by
  unfold callC at h
  split at h
  case h_2 => cases h
  rename_i vs hvs
  cases hg : c.g vs with
  | none => rw [hg] at h; cases h
  | some r0 =>
    rw [hg] at h
    simp only [Option.bind_some] at h
    split at h
    case h_2 => cases h
    rename_i v S' hv hadd
    obtain ⟨⟨fn, hf1, hf2, hf3⟩, hcalls⟩ := hc
    obtain ⟨hl, hargs⟩ := argsC_ok hs hvs hpre hpost
    have hcall := hcalls w vs _ r0 hl hargs hg
    show o.wp P a w (Next X.K w0 nt k r) Q
    unfold Oper.wp
    rw [hexec fn hf1 hf2 hf3]
    show Calls P f _ w _
    refine hcall.mono fun en w' ⟨v0, he, hb, us, G, hp, hul, hok, hG1, hG2, hG3⟩ => ?_
    subst he
    let id0 := newId X o
    let news := (internAll id0 (c.ret r0)).2
    obtain ⟨g1, g2, g3, g4⟩ := addAll_ok hadd
    have hsz0 := hs.below.size
    have hF : ∀ id ob k, lk news id = some ob → G (id - id0) k → w.heap.size ≤ k ∧ k < w'.heap.size := fun id ob k _ hk => hG1 _ k hk
    have hsim := hs.addMany hb (news := news) g4 (hv := fun id => us.getD (id - id0) undef) (F := fun id => G (id - id0)) hF
      (fun i j oi oj k hi hj hki hkj => by
        obtain ⟨m, t, xs, q1, q2, q3⟩ := all_lk _ _ _ _ hi
        obtain ⟨m', t', xs', q1', q2', q3'⟩ := all_lk _ _ _ _ hj
        have := hG2 _ _ k hki hkj
        omega)
      (fun i ob hi => by
        obtain ⟨m, t, xs, q1, q2, q3⟩ := all_lk _ _ _ _ hi
        have e : i - id0 = m := by omega
        refine ⟨t, xs, q3, ?_⟩
        simp only [e]
        exact own_base (hG3 m _ q2) hsz0)
    have hsim2 := hsim.sub (O := S'.objs) (fun j ob hj => by rw [← g3 j]; exact hj)
    have hS' : ({ S with objs := S'.objs } : St C) = S' := by
      obtain ⟨e1, o1, b1⟩ := S'
      rw [St.mk.injEq]
      exact ⟨g1.symm, rfl, g2.symm⟩
    have hsim3 := hsim2
    rw [hS'] at hsim3
    have hsh := shape_intern (c.ret r0) id0
    have hval : LfsOk X.K w' S'.objs (fun i => if (lk news i).isSome then us.getD (i - id0) undef else β i) (fun i k => if (lk news i).isSome then G (i - id0) k else fp i k) (stbOf S'.objs (fun i k => if (lk news i).isSome then G (i - id0) k else fp i k) w') (flatten (internAll id0 (c.ret r0)).1) us := by
      refine ⟨by rw [hul, flatten_len hsh], fun m l hm => ?_⟩
      rcases all_get (c.ret r0) id0 m l hm with ⟨t, xs, q1, q2, q3⟩ | ⟨q1, q2⟩
      · subst q2
        have hO := hG3 m _ q1
        refine ⟨hO.one, ?_⟩
        have e : id0 + m - id0 = m := by omega
        have e2 : lk news (id0 + m) = some (.row t xs false) := q3
        simp only [e2, Option.isSome_some, if_true, e]
      · exact own_lf (hG3 m l q1) q2
    have hsv := res_sv (by rw [okRes_congr hsh]; exact hok) hv hval
    rw [pack_congr hsh (us := us), ← hp] at hsv
    exact next_put hsim3 hd hsv h

theorem s_call (hX : XOk P X) (hcon : ∀ f c, X.con f = some c → ConOk P X.K f c) (hs : Sim X.K w0 nt S β fp a w) (hd : slot dst nt) {f : FuncId} {as : Array Operand} {ts : Array TypeId}
    (h : ev X ⟨dst, .call { callee := .value (.func f), args := as, argTypes := ts }, ty, pos, aft, gd⟩ S k = some r)
    (hW : ∀ o : Oper, o = ⟨dst, .call { callee := .value (.func f), args := as, argTypes := ts }, ty, pos, aft, gd⟩ → (match X.conw f with | some _ => callW X S f as.toList ts.toList o k | none => callI X S f [] as.toList ts.toList [] o k) = some r → Goal P X w0 nt k r Q o a w) :
    Goal P X w0 nt k r Q ⟨dst, .call { callee := .value (.func f), args := as, argTypes := ts }, ty, pos, aft, gd⟩ a w := by
  generalize ho : (⟨dst, .call { callee := .value (.func f), args := as, argTypes := ts }, ty, pos, aft, gd⟩ : Oper) = o at h ⊢
  have hod : o.dst = dst := by rw [← ho]
  subst hod
  have hev : ev X o S k = match X.con f with
      | some c' => callC X c' S [] as.toList ts.toList [] o k
      | none => (match X.conw f with | some _ => callW X S f as.toList ts.toList o k | none => callI X S f [] as.toList ts.toList [] o k) := by rw [← ho]; rfl
  rw [hev] at h
  split at h
  · rename_i c hc
    refine s_callC hs (hcon f c hc) h .nil .nil (fun fn hf1 hf2 hf3 => ?_) hd
    have e : ([] ++ (as.toList.map a.eval ++ []) : List Value).toArray = as.map a.eval := by rw [List.nil_append, List.append_nil, ← Array.toList_map, Array.toArray_toList]
    rw [e, ← enter_run (us := as.map a.eval) hf1 hf2 hf3, ← ho]
    simp [execOp, resolve, Deferred.ofValue, invoke, Act.eval]
  · rw [← ho]; rw [← ho] at h; exact hW _ rfl h
end
end Go.Proofs.Ytkiognopoigbhaa.Ab
