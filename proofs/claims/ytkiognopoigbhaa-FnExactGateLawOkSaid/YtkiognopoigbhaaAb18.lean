/- The abstract machine, part 18: an operation, the operations of a region. -/
import Derived.Test.YtkiognopoigbhaaAm2
import Derived.LoopN
import Derived.Orders
set_option linter.unusedVariables false
set_option linter.unusedSimpArgs false
set_option linter.unusedSectionVars false
namespace Go.Proofs.Ytkiognopoigbhaa.Ab
open Go Go.RowKit

section
variable {Ty : Type} [DecidableEq Ty] {C : Ty → Type}
variable {P : Program} {X : Cx C} {w0 w : World} {nt : Nat} {S : St C} {β : Nat → Value} {fp : Nat → Nat → Prop} {a : Act} {R : Type} {k : St C → Option R} {r : R}
variable {Q : Exit → Act → World → Prop}

abbrev Cons (P : Program) (X : Cx C) : Prop := (∀ f c, X.con f = some c → ConOk P X.K f c) ∧ (∀ f c, X.conw f = some c → ConWOk P X.K f c) ∧ ∀ f I, X.inl f = some I → InlOk P X.K f I

theorem ev_sound (hX : XOk P X) (hC : Cons P X) (hs : Sim X.K w0 nt S β fp a w) {o : Oper} (hd : slot o.dst nt) (h : ev X o S k = some r) : Goal P X w0 nt k r Q o a w := by
  obtain ⟨dst, op, ty, pos, aft, gd⟩ := o
  cases op with
  | move x => exact s_move hs hd h
  | assign x => exact s_assign hs hd h
  | pick c x y => exact s_pick hs hd h
  | alloc e => exact s_alloc hX hs hd h
  | box e v => exact s_box hs hd h
  | build t ps => exact s_build hX hs hd h
  | buildSlice t n ps => exact s_buildSlice hX hs hd h
  | load t x => exact s_load hX hs hd h
  | store t x v => exact s_store hX hs h
  | nilCheck x => exact s_nilCheck hs hd h
  | binOp op t x y t' => exact s_binOp hX hs hd h
  | unOp op t x => exact s_unOp hs hd h
  | convert t t' x => exact s_convert hX hs hd h
  | makeSlice t n c => exact s_makeSlice hX hs hd h
  | slice t x lo hi mx => exact s_slice hX hs hd h
  | fieldAddr t x f => exact s_fieldAddr hX hs hd h
  | field t x f => exact s_field hX hs hd h
  | indexAddr t x i => exact s_indexAddr hX hs hd h
  | index t x i => exact s_index hX hs hd h
  | extract x i => exact s_extract hs hd h
  | call c =>
    obtain ⟨cal, as, ts⟩ := c
    cases cal with
    | builtin b => cases b with
      | len => exact s_len hX hs hd h
      | append => exact s_append hX hs hd h
      | delete => exact s_delete hX hs h
      | _ => exact absurd h (by simp [ev])
    | value f => cases f with
      | func f => exact s_call hX hC.1 hs hd h (fun o ho h => by
        split at h
        · exact s_callW hC.2.1 hs hd ho h
        · subst ho
          refine s_callI hC.2.2 hs hd h .nil .nil .nil .nil fun fn hf1 hf2 hf3 => ?_
          have e : ([] ++ (as.toList.map a.eval ++ []) : List Value).toArray = as.map a.eval := by rw [List.nil_append, List.append_nil, ← Array.toList_map, Array.toArray_toList]
          rw [e, ← enter_run (us := as.map a.eval) hf1 hf2 hf3]
          simp [execOp, resolve, Deferred.ofValue, invoke, Act.eval])
      | tmp t => exact s_callT hC.1 hC.2.2 hs hd h
      | _ => exact absurd h (by simp [ev])
    | invoke x name => exact s_invoke hX hC.1 hC.2.2 hs hd h
  | makeFunc fn first captured => exact s_makeFunc hs hd h
  | makeInterface t x => exact s_makeInterface hX hs hd h
  | makeMap t n => exact s_makeMap hs hd h
  | lookup t x i ok => exact s_lookup hX hs hd h
  | mapUpdate t x i y => exact s_mapUpdate hX hs h
  | insert t x i y => exact s_insert hX hs h
  | _ => exact absurd h (by simp [ev])

theorem yield_ok (hs : Sim X.K w0 nt S β fp a w) {all : Array Oper} {j : Nat} {d : Tmp} {b : Bool} (hj : (all[j]?).bind (·.dst) = some d) (hd : d < nt) (hv : lk S.env d = some (.one (.bool b))) :
    yielded all a.tmps j = some b := by
  have h : a.tmps.getD d undef = .bool b := hs.env d _ hv
  have hsz : d < a.tmps.size := by rw [hs.size]; exact hd
  unfold yielded
  rw [hj]
  simp only [Option.bind_some]
  have : a.tmps[d]? = some (.bool b) := by
    rw [Array.getD_eq_getD_getElem?] at h
    rw [Array.getElem?_eq_getElem hsz] at h ⊢
    exact congrArg some (by simpa using h)
  rw [this]

theorem yield_und (hs : Sim X.K w0 nt S β fp a w) {all : Array Oper} {j : Nat} {d : Tmp} (hj : (all[j]?).bind (·.dst) = some d) (hv : lk S.env d = some .und) :
    yielded all a.tmps j = none := by
  have h : a.tmps.getD d undef = undef := hs.env d _ hv
  unfold yielded
  rw [hj]
  simp only [Option.bind_some]
  split
  · rename_i b hb
    rw [Array.getD_eq_getD_getElem?, hb] at h
    cases h
  · rfl

theorem put_same {a : Act} {d : Tmp} {v : Value} (hd : d < a.tmps.size) (h : a.tmps.getD d undef = v) : a.put (some d) v = a := by
  obtain ⟨t, df⟩ := a
  simp only [Act.put]
  congr 1
  apply Array.ext_getElem?
  intro i
  rw [Array.getElem?_setIfInBounds]
  by_cases e : d = i
  · subst e
    have hd' : d < t.size := hd
    have h' : t.getD d undef = v := h
    rw [Array.getD_eq_getD_getElem?, Array.getElem?_eq_getElem hd'] at h'
    rw [if_pos rfl, if_pos hd', Array.getElem?_eq_getElem hd']
    exact congrArg some h'.symm
  · rw [if_neg e]

theorem evs_sound (hX : XOk P X) (hC : Cons P X) {all : Array Oper} (hall : ∀ o, o ∈ all.toList → slot o.dst nt) (hQ : ∀ a w, Next X.K w0 nt k r a w → Q .normal a w) :
    ∀ (l : List Oper) (S : St C) (β : Nat → Value) (fp : Nat → Nat → Prop) (a : Act) (w : World), (∀ o, o ∈ l → slot o.dst nt) → Sim X.K w0 nt S β fp a w → evs X all l S k = some r → wpList P all Q l a w
  | [], S, β, fp, a, w, _, hs, h => hQ a w ⟨S, ⟨β, fp, hs⟩, h⟩
  | o :: l, S, β, fp, a, w, hl, hs, h => by
    have hod : slot o.dst nt := hl o (by simp)
    have hl' : ∀ o, o ∈ l → slot o.dst nt := fun o ho => hl o (by simp [ho])
    have step : ∀ (S : St C) (β : Nat → Value) (fp : Nat → Nat → Prop), Sim X.K w0 nt S β fp a w → Region.wanted o (yielded all a.tmps) = true → ev X o S (fun S' => evs X all l S' k) = some r → wpList P all Q (o :: l) a w := by
      intro S β fp hs hw h
      simp only [wpList, hw, if_true]
      refine .inl (Oper.wp_mono ?_ (ev_sound (Q := Q) hX hC hs hod h))
      intro a' w' ⟨S', ⟨β', fp', hs'⟩, hk⟩
      exact evs_sound hX hC hall hQ l S' β' fp' a' w' hl' hs' hk
    have skip : ∀ (S : St C) (β : Nat → Value) (fp : Nat → Nat → Prop), Sim X.K w0 nt S β fp a w → Region.wanted o (yielded all a.tmps) = false → evs X all l (S.put o.dst .und) k = some r → wpList P all Q (o :: l) a w := by
      intro S β fp hs hw h
      simp only [wpList, hw]
      exact evs_sound hX hC hall hQ l _ _ _ _ w hl' (hs.put (v := .und) (u := undef) o.dst hod rfl) h
    cases hg : o.guard with
    | none =>
      simp only [evs, hg] at h
      exact step S β fp hs (by simp [Region.wanted, hg]) h
    | some g =>
      obtain ⟨j, want⟩ := g
      simp only [evs, hg] at h
      split at h
      · rename_i d hj
        split at h
        · rename_i b hv
          have hjd : d < nt := by
            cases ho : all[j]? with
            | none => rw [ho] at hj; cases hj
            | some oj =>
              rw [ho] at hj
              exact hall oj (by simpa using Array.mem_of_getElem? ho) d hj
          have hy := yield_ok hs hj hjd hv
          have hsame : ∀ b', b' = b → Sim X.K w0 nt (S.put (some d) (.one (.bool b'))) β fp a w := by
            intro b' e
            subst e
            have := hs.put (v := .one (.bool b')) (u := .bool b') (some d) (fun t ht => by cases ht; exact hjd) rfl
            rwa [put_same (by rw [hs.size]; exact hjd) (hs.env d _ hv)] at this
          cases b with
          | true =>
            simp only [cond_true] at h
            cases want with
            | true => exact step _ _ _ (hsame true rfl) (by simp [Region.wanted, hg, hy]) h
            | false => exact skip _ _ _ (hsame true rfl) (by simp [Region.wanted, hg, hy]) h
          | false =>
            simp only [cond_false] at h
            cases want with
            | true => exact skip _ _ _ (hsame false rfl) (by simp [Region.wanted, hg, hy]) h
            | false => exact step _ _ _ (hsame false rfl) (by simp [Region.wanted, hg, hy]) h
        · rename_i hv
          exact skip _ _ _ hs (by simp [Region.wanted, hg, yield_und hs hj hv]) h
        · cases h
      · cases h
end
end Go.Proofs.Ytkiognopoigbhaa.Ab
