/- The abstract machine, part 21: a function. -/
import Derived.Test.YtkiognopoigbhaaAb20
set_option linter.unusedVariables false
set_option linter.unusedSimpArgs false
set_option linter.unusedSectionVars false
namespace Go.Proofs.Ytkiognopoigbhaa.Ab
open Go Go.RowKit

section
variable {Ty : Type} [DecidableEq Ty] {C : Ty → Type}
variable {P : Program} {X : Cx C} {w0 w : World} {nt : Nat} {S : St C} {β : Nat → Value} {fp : Nat → Nat → Prop} {a : Act} {R : Type} {r : R}

def resG (tmps : Array Value) : ResultVar → Sem Value
  | .tmp t => pure (tmps.getD t undef)
  | .cell a t => do loadVar t (← asAddr (tmps.getD a undef))
theorem results_eq (fn : Func) (tmps : Array Value) : results fn tmps = (do
    let vs ← fn.results.toList.mapM (resG tmps)
    pure (match vs with
      | [v] => v
      | vs => .tuple vs.toArray)) := by
  have e : results fn tmps = (do
    let vs ← fn.results.mapM (resG tmps)
    pure (if h : vs.size = 1 then vs[0] else .tuple vs)) := by
    unfold results
    congr 1
  rw [e, Array.mapM_eq_mapM_toList]
  simp only [map_eq_pure_bind, bind_assoc, pure_bind]
  congr 1
  funext l
  congr 1
  match l with
  | [] => rfl
  | [v] => rfl
  | v :: v' :: r => simp

theorem resOf_ok (hX : XOk P X) (hs : Sim X.K w0 nt S β fp a w) : ∀ (l : List ResultVar) (rs : List (Bool × List (Lf C))), resOf X S l = some rs →
    ∃ us : List Value, okRes rs = true ∧ LfsOk X.K w S.objs β fp (stbOf S.objs fp w) (flatten rs) us ∧ (l.mapM (resG a.tmps)).run P w = .ok (packAll rs us) w := by
  intro l
  induction l with
  | nil =>
    intro rs h
    simp only [resOf, Option.some.injEq] at h
    subst h
    exact ⟨[], rfl, ⟨rfl, fun i l h => by simp [flatten] at h⟩, by simp [packAll]⟩
  | cons x l ih =>
    intro rs h
    have one : ∀ (c : Lf C) (rs' : List (Bool × List (Lf C))) (u : Value), resOf X S l = some rs' → rs = (false, [c]) :: rs' → LfOk X.K w S.objs β fp (stbOf S.objs fp w) c u → (resG a.tmps x).run P w = .ok u w →
        ∃ us : List Value, okRes rs = true ∧ LfsOk X.K w S.objs β fp (stbOf S.objs fp w) (flatten rs) us ∧ ((x :: l).mapM (resG a.tmps)).run P w = .ok (packAll rs us) w := by
      intro c rs' u hr e hu hrun
      subst e
      obtain ⟨us, h1, h2, h3⟩ := ih rs' hr
      refine ⟨u :: us, by simpa [okRes] using h1, ⟨by simp [flatten, h2.1], fun i l hi => ?_⟩, ?_⟩
      · cases i with
        | zero => simp [flatten] at hi; subst hi; exact hu
        | succ i => exact h2.2 i l (by simpa [flatten] using hi)
      · rw [List.mapM_cons]
        simp [hrun, h3, packAll, packOne]
    have many : ∀ (cs : List (Lf C)) (rs' : List (Bool × List (Lf C))) (us0 : List Value), resOf X S l = some rs' → rs = (true, cs) :: rs' → LfsOk X.K w S.objs β fp (stbOf S.objs fp w) cs us0 → (resG a.tmps x).run P w = .ok (.agg us0.toArray) w →
        ∃ us : List Value, okRes rs = true ∧ LfsOk X.K w S.objs β fp (stbOf S.objs fp w) (flatten rs) us ∧ ((x :: l).mapM (resG a.tmps)).run P w = .ok (packAll rs us) w := by
      intro cs rs' us0 hr e hu hrun
      subst e
      obtain ⟨us, h1, h2, h3⟩ := ih rs' hr
      refine ⟨us0 ++ us, by simpa [okRes] using h1, ⟨by simp [flatten, h2.1, hu.1], fun i l hi => ?_⟩, ?_⟩
      · simp only [flatten] at hi
        by_cases hlt : i < cs.length
        · rw [List.getElem?_append_left hlt] at hi
          have := hu.2 i l hi
          have e : (us0 ++ us).getD i undef = us0.getD i undef := by
            simp [List.getD, List.getElem?_append_left (by rw [hu.1]; exact hlt : i < us0.length)]
          rw [e]; exact this
        · have hge : cs.length ≤ i := Nat.le_of_not_lt hlt
          rw [List.getElem?_append_right hge] at hi
          have := h2.2 _ l hi
          have e : (us0 ++ us).getD i undef = us.getD (i - cs.length) undef := by
            simp [List.getD, List.getElem?_append_right (by rw [hu.1]; exact hge : us0.length ≤ i), hu.1]
          rw [e]; exact this
      · rw [List.mapM_cons]
        have e1 : (us0 ++ us).take cs.length = us0 := by rw [← hu.1]; simp
        have e2 : (us0 ++ us).drop cs.length = us := by rw [← hu.1]; simp
        simp [hrun, h3, packAll, packOne, e1, e2]
    cases x with
    | tmp t =>
      simp only [resOf] at h
      split at h
      · rename_i c hc
        split at h
        · rename_i rs' hr
          cases h
          exact one c rs' _ hr rfl (hs.env t _ hc) rfl
        · cases h
      · rename_i cs hc
        split at h
        · rename_i rs' hr
          cases h
          obtain ⟨us0, e, h0⟩ := hs.env t _ hc
          exact many cs rs' us0 hr rfl h0 (by simp [resG, e])
        · cases h
      · cases h
    | cell b t =>
      simp only [resOf] at h
      split at h
      · rename_i c tk hc ht
        obtain ⟨ls, p, hk, hv, hcell⟩ := cells_ok hs (hs.env b _ hc) h
        split at hk
        · rename_i c1 rs' hm hr
          cases hk
          obtain ⟨u, hu, hok⟩ := load_sv (hX.tk _ _ ht) hm hcell
          exact one c1 rs' u hr rfl hok (by simp [resG, hv, asAddr, hu])
        · rename_i c1 rs' hm hr
          cases hk
          obtain ⟨u, hu, us0, e, h0⟩ := load_sv (hX.tk _ _ ht) hm hcell
          subst e
          exact many c1 rs' us0 hr rfl h0 (by simp [resG, hv, asAddr, hu])
        · cases hk
      · cases h

theorem reshape_flat : ∀ (rs : List (Bool × List (Lf C))) (ls : List (Lf C)), ls.length = (flatten rs).length → flatten (reshape rs ls) = ls ∧ shape1 (reshape rs ls) = shape1 rs
  | [], ls, h => by
    simp [flatten] at h
    subst h
    exact ⟨rfl, rfl⟩
  | (b, l) :: r, ls, h => by
    simp only [flatten, List.length_append] at h
    obtain ⟨h1, h2⟩ := reshape_flat r (ls.drop l.length) (by simp; omega)
    refine ⟨by simp [reshape, flatten, h1], ?_⟩
    simp only [reshape, shape1, h2, List.cons.injEq, Prod.mk.injEq, true_and, and_true]
    simp; omega

theorem outs_ok (hs : Sim X.K w0 nt S β fp a w) {rs rs' : List (Bool × List (Lf C))} (ho : outs S rs = some rs') (hok : okRes rs = true) {us : List Value} (hl : LfsOk X.K w S.objs β fp (stbOf S.objs fp w) (flatten rs) us) :
    ResOk X.K w0 w rs' (pack rs us) := by
  unfold outs at ho
  split at ho
  · rename_i ls' S' ha
    cases ho
    obtain ⟨_, _, _, g3, G, g4, g5, g6⟩ := absorb_ok hs (flatten rs) us S.objs ls' S' false (fun _ _ h => h) ha hl
    obtain ⟨e1, e2⟩ := reshape_flat rs ls' g3
    refine ⟨us, G, (pack_congr e2).symm, by rw [e1, g3, hl.1], by rw [okRes_congr e2]; exact hok, fun m k hk => ?_, fun m m' k h1 h2 => g5 m m' k h1 h2, fun m l hm => ?_⟩
    · obtain ⟨id, ob, h1, h2, h3⟩ := g4 m k hk
      exact hs.fresh id ob k h1 h3
    · rw [e1] at hm
      exact (g6 m l hm).1 rfl
  · cases ho

theorem argEnv_lk : ∀ (vs : List (SV C)) (n t : Nat) (v : SV C), lk (argEnv n vs) t = some v → n ≤ t ∧ vs[t - n]? = some v
  | [], n, t, v, h => by simp [argEnv, lk] at h
  | x :: vs, n, t, v, h => by
    simp only [argEnv, lk_cons] at h
    by_cases e : t = n
    · subst e
      simp at h
      subst h
      exact ⟨Nat.le_refl _, by simp⟩
    · rw [if_neg e] at h
      obtain ⟨h1, h2⟩ := argEnv_lk vs (n + 1) t v h
      refine ⟨by omega, ?_⟩
      have e : t - n = (t - (n + 1)) + 1 := by omega
      rw [e]
      simpa using h2

theorem rep_lf' {K : Cd C} {objs : Objs C} {F : Nat → Prop} {l : Lf C} {u : Value} (h : Rep K w F l u) : LfOk K w objs β fp F l u := by
  cases h with
  | int => rfl
  | bool => rfl
  | str => rfl
  | fnc => rfl
  | row t xs A c a U h1 h2 h3 h4 => exact .row t xs A c a U h1 h2 h3 h4

theorem start_sim {K : Cd C} {vs : List (SV C)} {us : List Value} (hl : us.length = vs.length) (hn : vs.length ≤ nt)
    (ha : ∀ (i : Nat) (v : SV C), vs[i]? = some v → ArgOk K w (fun k => k < w.heap.size) v (us.getD i undef)) :
    SimE K w nt (start vs) { tmps := us.toArray ++ Array.replicate (nt - us.toArray.size) undef, defers := [] } w := by
  refine ⟨fun _ => undef, fun _ _ => False, Below.refl _ _, rfl, by simp; omega, fun id ob k h => by simp [start, lk] at h, fun id id' ob ob' k h => by simp [start, lk] at h, fun id ob h => by simp [start, lk] at h, fun t v h => ?_⟩
  obtain ⟨_, h⟩ := argEnv_lk vs 0 t v h
  simp only [Nat.sub_zero] at h
  have hlt : t < us.length := by
    rw [hl]
    rcases Nat.lt_or_ge t vs.length with h' | h'
    · exact h'
    · simp [List.getElem?_eq_none h'] at h
  have e : (us.toArray ++ Array.replicate (nt - us.toArray.size) undef).getD t undef = us.getD t undef := by
    simp [Array.getD_eq_getD_getElem?, Array.getElem?_append, hlt, List.getD]
  show SVOk K w _ _ _ _ v ((us.toArray ++ Array.replicate (nt - us.toArray.size) undef).getD t undef)
  rw [e]
  have hst : ∀ k, k < w.heap.size → stbOf (start vs).objs (fun _ _ => False) w k := fun k hk => ⟨hk, fun _ _ _ h => h⟩
  have := ha t v h
  cases v with
  | one l =>
    cases l with
    | elt t x o => obtain ⟨p, U, h1, h2, h3, h4⟩ := this; exact ⟨p, U, h1, hst _ h2, h3, fun i l hi => (h4 i l hi).mono hst⟩
    | _ => exact (show LfOk K w (start vs).objs (fun _ => undef) (fun _ _ => False) _ _ (us.getD t undef) from rep_lf' (this.2.mono hst))
  | agg ls =>
    obtain ⟨us', e, h1, h2⟩ := this
    exact ⟨us', e, h1, fun i l hi => rep_lf' ((h2 i l hi).mono hst)⟩
  | _ => exact this.elim

theorem fn_sound (hX : XOk P X) (hC : Cons P X) (hm : P.follows .mixedOrders = true) (F : Cf) {f : Nat} {fn : Func} {c : Code} (hf : P.funcs[f]? = some fn) (hb : fn.body = some c) (hB : codeB fn.ntmps c = true) {vs : List (SV C)} {us : List Value}
    (hl : us.length = vs.length) (hn : vs.length ≤ fn.ntmps) (ha : ∀ (i : Nat) (v : SV C), vs[i]? = some v → ArgOk X.K w (fun k => k < w.heap.size) v (us.getD i undef))
    {k : List (Bool × List (Lf C)) → Option R} (h : runFn X F fn vs k = some r) :
    Calls P f us.toArray w fun e w' => ∃ v, e = .returned v ∧ Below w.heap.size w w' ∧ ∃ rs, k rs = some r ∧ ResOk X.K w w' rs v := by
  unfold runFn at h
  rw [hb] at h
  refine calls_of_wp hf hb (Go.wp_mono (run_sound hX hC hm F c 0 _ _ w _ hB (start_sim hl hn ha) h) ?_)
  have fin : ∀ (a : Act) (w' : World) (S : St C), SimE X.K w fn.ntmps S a w' → (match resOf X S fn.results.toList with
      | some rs => match outs S rs with
        | some rs' => k rs'
        | none => none
      | none => none) = some r → a.defers = [] ∧ ∃ v, (results fn a.tmps).run P w' = .ok v w' ∧ ∃ v_1, Ending.returned v = .returned v_1 ∧ Below w.heap.size w w' ∧ ∃ rs, k rs = some r ∧ ResOk X.K w w' rs v_1 := by
    intro a w' S ⟨β, fp, hs⟩ h
    split at h
    · rename_i rs hr
      split at h
      · rename_i rs' ho
        obtain ⟨us', h1, h2, h3⟩ := resOf_ok hX hs _ rs hr
        refine ⟨hs.defers, pack rs us', ?_, _, rfl, hs.below, rs', h, outs_ok hs ho h1 h2⟩
        rw [results_eq]
        simp only [Sem.run_bind, h3, Result.andThen_ok]
        rfl
      · cases h
    · cases h
  rintro (_ | _ | _ | _ | _ | _) a' w' hp
  · obtain ⟨S', hs', hk⟩ := hp; exact fin a' w' S' hs' hk
  · obtain ⟨S', hs', hk⟩ := hp; cases hk
  · exact hp.elim
  · obtain ⟨S', hs', hk⟩ := hp; exact fin a' w' S' hs' hk
  · exact hp.elim
  · exact hp.elim

theorem con_of (hX : XOk P X) (hC : Cons P X) (hm : P.follows .mixedOrders = true) {f : Nat} {fn : Func} {c : Code} (hf : P.funcs[f]? = some fn) (hb : fn.body = some c) (hB : codeB fn.ntmps c = true) (hname : fn.name ≠ "runtime.NumGoroutine") (co : Con C)
    (h : ∀ vs r0, co.g vs = some r0 → vs.length ≤ fn.ntmps ∧ ∃ F : Cf, runFn X F fn vs some = some (co.ret r0)) : ConOk P X.K f co := by
  refine ⟨⟨fn, hf, by rw [hb]; rfl, hname⟩, fun w vs us r0 hl ha hg => ?_⟩
  obtain ⟨hn, F, hr⟩ := h vs r0 hg
  refine (fn_sound hX hC hm F hf hb hB hl hn ha hr).mono fun e w' ⟨v, he, hbel, rs, hk, hres⟩ => ⟨v, he, hbel, ?_⟩
  cases hk
  exact hres

/-- The same, the results told by what is read off them. -/
theorem con_dec (hX : XOk P X) (hC : Cons P X) (hm : P.follows .mixedOrders = true) {f : Nat} {fn : Func} {c : Code} (hf : P.funcs[f]? = some fn) (hb : fn.body = some c) (hB : codeB fn.ntmps c = true) (hname : fn.name ≠ "runtime.NumGoroutine") (co : Con C)
    (dec : List (Bool × List (Lf C)) → Option co.R0) (hd : ∀ rs r0, dec rs = some r0 → rs = co.ret r0)
    (h : ∀ vs r0, co.g vs = some r0 → vs.length ≤ fn.ntmps ∧ ∃ F : Cf, runFn X F fn vs dec = some r0) : ConOk P X.K f co := by
  refine ⟨⟨fn, hf, by rw [hb]; rfl, hname⟩, fun w vs us r0 hl ha hg => ?_⟩
  obtain ⟨hn, F, hr⟩ := h vs r0 hg
  refine (fn_sound hX hC hm F hf hb hB hl hn ha hr).mono fun e w' ⟨v, he, hbel, rs, hk, hres⟩ => ⟨v, he, hbel, ?_⟩
  rw [hd rs r0 hk] at hres
  exact hres

/-- Rounds of a shallow function. -/
def lpN {A : Type} (rnd : (A → Option R) → A → Option R) : Nat → A → Option R
  | 0, _ => none
  | n + 1, x => rnd (lpN rnd n) x
theorem iter_eq {A : Type} {f : (St C → Option R) → St C → Option R} {ent : List Nat} (st : A → St C) (rnd : (A → Option R) → A → Option R)
    (h : ∀ rec x, f (canThen ent rec) (st x) = rnd (fun x => rec (st x)) x) : ∀ n x, iter f ent n (st x) = lpN rnd n x
  | 0, _ => rfl
  | n + 1, x => by
    rw [iter, h, lpN]
    congr 1
    funext y
    exact iter_eq st rnd h n y
end
end Go.Proofs.Ytkiognopoigbhaa.Ab
