/- The abstract machine: a function whose code is run in place: what it owes. -/
import Derived.Test.YtkiognopoigbhaaAw4
set_option linter.unusedVariables false
set_option linter.unusedSimpArgs false
set_option linter.unusedSectionVars false
namespace Go.Proofs.Ytkiognopoigbhaa.Ab
open Go Go.RowKit

section
variable {Ty : Type} [DecidableEq Ty] {C : Ty → Type}
variable {P : Program} {X : Cx C} {K : Cd C} {w0 w : World} {nt : Nat} {S : St C} {β : Nat → Value} {fp : Nat → Nat → Prop} {a : Act} {R : Type} {r : R} {objs : Objs C} {stb : Nat → Prop}

theorem ghost_any {v : SV C} {u u' : Value} (hv : (∃ x j, v = .sus x j) ∨ (∃ id j, v = .hdr id j) ∨ v = .frame) (h : SVOk K w objs β fp stb v u) : SVOk K w objs β fp stb v u' := by
  rcases hv with ⟨x, j, rfl⟩ | ⟨id, j, rfl⟩ | rfl <;> exact h

theorem inl_of (hX : XOk P X) (hC : Cons P X) (hm : P.follows .mixedOrders = true) (F : Cf) {f : Nat} {fn : Func} {c : Code} (hf : P.funcs[f]? = some fn) (hb : fn.body = some c) (hB : codeB fn.ntmps c = true) (hname : fn.name ≠ "runtime.NumGoroutine") : InlOk P X.K f (inlOf X F fn) := by
  refine ⟨⟨fn, hf, by rw [hb]; rfl, hname⟩, fun kp kh hd w0 w S β fp vs us R k r hs hkey hul hv h => ?_⟩
  unfold inlOf at h
  simp only [hb] at h
  obtain ⟨hn, h⟩ := cond_some h
  simp only [Bool.and_eq_true] at hn
  have hn1 := Nat.le_of_ble_eq_true hn.1
  have hn2 := Nat.le_of_ble_eq_true hn.2
  rw [← run_gh (kp := kp) (kh := kh) (hd := hd)] at h
  have hsim : Sim (X.gh kp kh hd).K w0 fn.ntmps { env := argEnv 0 vs ++ S.env, objs := S.objs, base := S.base } β fp { tmps := us.toArray ++ Array.replicate (fn.ntmps - us.toArray.size) undef, defers := [] } w := by
    refine ⟨hs.below, rfl, by simp; omega, hs.fresh, hs.disj, hs.objs, fun t v ht => ?_⟩
    have ht' : lk (argEnv 0 vs ++ S.env) t = some v := ht
    rw [lk_append] at ht'
    cases e1 : lk (argEnv 0 vs) t with
    | some v' =>
      rw [e1] at ht'
      cases ht'
      obtain ⟨_, e2⟩ := argEnv_lk _ 0 t _ e1
      simp only [Nat.sub_zero] at e2
      have hlt : t < us.length := by rw [hul]; exact idx_lt e2
      have e4 : (us.toArray ++ Array.replicate (fn.ntmps - us.toArray.size) undef).getD t undef = us.getD t undef := by
        simp [Array.getD_eq_getD_getElem?, Array.getElem?_append, hlt, List.getD]
      show SVOk _ w _ _ _ _ v ((us.toArray ++ Array.replicate (fn.ntmps - us.toArray.size) undef).getD t undef)
      rw [e4]
      exact hv t v e2
    | none =>
      rw [e1] at ht'
      have hge := hkey t v ht'
      have e4 : (us.toArray ++ Array.replicate (fn.ntmps - us.toArray.size) undef).getD t undef = undef := by
        rw [Array.getD_eq_getD_getElem?, Array.getElem?_eq_none (by simp; omega)]
        rfl
      show SVOk _ w _ _ _ _ v ((us.toArray ++ Array.replicate (fn.ntmps - us.toArray.size) undef).getD t undef)
      rw [e4]
      have := hs.env t v ht'
      have e5 : noAct.tmps.getD t undef = undef := by simp [noAct, Array.getD_eq_getD_getElem?]
      rw [e5] at this
      exact this
  refine calls_of_wp hf hb (Go.wp_mono (run_sound (xok_gh hX) (cons_gh hC) hm F c 0 _ _ w _ hB ⟨_, _, hsim⟩ h) ?_)
  have fin : ∀ (a : Act) (w' : World) (S' : St C) (e : Ex), SimE (X.gh kp kh hd).K w0 fn.ntmps S' a w' → (e = .norm ∨ e = .ret) → (match e with
      | .exit _ => none
      | _ => match resOf X S' fn.results.toList with
        | some rs => k rs { S' with env := ghostsE S'.env }
        | none => none) = some r →
      a.defers = [] ∧ ∃ v, (results fn a.tmps).run P w' = .ok v w' ∧ ∃ (v_1 : Value) (rs : List (Bool × List (Lf C))) (rls : List Value) (S' : St C) (β' : Nat → Value) (fp' : Nat → Nat → Prop), Ending.returned v = .returned v_1 ∧ v_1 = pack rs rls ∧ okRes rs = true ∧ k rs S' = some r ∧
      Sim (X.K.gh kp kh hd) w0 0 S' β' fp' noAct w' ∧ LfsOk (X.K.gh kp kh hd) w' S'.objs β' fp' (stbOf S'.objs fp' w') (flatten rs) rls := by
    intro a w' S' e ⟨β', fp', hs'⟩ he h
    have h : (match resOf X S' fn.results.toList with
        | some rs => k rs { S' with env := ghostsE S'.env }
        | none => none) = some r := by
      rcases he with he | he <;> subst he <;> exact h
    split at h
    case h_2 => cases h
    rename_i rs hres
    rw [← resOf_gh (kp := kp) (kh := kh) (hd := hd)] at hres
    obtain ⟨us', h1, h2, h3⟩ := resOf_ok (xok_gh hX) hs' _ rs hres
    refine ⟨hs'.defers, pack rs us', ?_, _, rs, us', { S' with env := ghostsE S'.env }, β', fp', rfl, rfl, h1, h, ⟨hs'.below, rfl, rfl, hs'.fresh, hs'.disj, hs'.objs, fun t v ht => ?_⟩, h2⟩
    · rw [results_eq]
      simp only [Sem.run_bind, h3, Result.andThen_ok]
      rfl
    · obtain ⟨q1, q2⟩ := ghostsE_lk ht
      exact ghost_any q2 (hs'.env t v q1)
  rintro (_ | _ | _ | _ | _ | _) a' w' hp
  · obtain ⟨S', hs', hk⟩ := hp; exact fin a' w' S' .norm hs' (.inl rfl) hk
  · obtain ⟨S', hs', hk⟩ := hp; cases hk
  · exact hp.elim
  · obtain ⟨S', hs', hk⟩ := hp; exact fin a' w' S' .ret hs' (.inr rfl) hk
  · exact hp.elim
  · exact hp.elim
end
end Go.Proofs.Ytkiognopoigbhaa.Ab
