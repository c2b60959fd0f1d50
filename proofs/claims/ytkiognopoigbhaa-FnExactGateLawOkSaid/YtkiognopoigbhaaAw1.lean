/- The abstract machine: functions that write through what they are handed, part 1: what is handed, what comes back. -/
import Derived.Test.YtkiognopoigbhaaAb17
set_option linter.unusedVariables false
set_option linter.unusedSimpArgs false
set_option linter.unusedSectionVars false
namespace Go.Proofs.Ytkiognopoigbhaa.Ab
open Go Go.RowKit

section
variable {Ty : Type} [DecidableEq Ty] {C : Ty → Type}
variable {P : Program} {X : Cx C} {w0 w : World} {nt : Nat} {S : St C} {β : Nat → Value} {fp : Nat → Nat → Prop} {a : Act} {R : Type} {k : St C → Option R} {r : R}

/-- The values of the rows among cells. -/
def rowsOf : List (Lf C) → List Value → List Value
  | .row _ _ :: r, u :: us => u :: rowsOf r us
  | _ :: r, _ :: us => rowsOf r us
  | _, _ => []

def ConWOk (P : Program) (K : Cd C) (f : Nat) (c : ConW C) : Prop :=
  (∃ fn, P.funcs[f]? = some fn ∧ fn.body.isNone = false ∧ fn.name ≠ "runtime.NumGoroutine") ∧
  ∀ (w0 w : World) (rs : List (Bool × List (Lf C))) (uls : List Value) (r0 : c.R0) (G : Nat → Nat → Prop), Below w0.heap.size w0 w → okRes rs = true → uls.length = (flatten rs).length →
    (∀ m k, G m k → w0.heap.size ≤ k ∧ k < w.heap.size) → (∀ m m' k, G m k → G m' k → m = m') →
    (∀ (m : Nat) (l : Lf C), (flatten rs)[m]? = some l → l.plain = true ∧ Own K w w0.heap.size (G m) l (uls.getD m undef)) → c.g rs = some r0 →
    Calls P f (packAll rs uls).toArray w fun e w' => ∃ v, e = .returned v ∧ Below w0.heap.size w0 w' ∧ (∀ k, k < w.heap.size → (∀ m, ¬ G m k) → k < w'.heap.size ∧ w'.heap[k]? = w.heap[k]?) ∧
      ∃ (rls : List Value) (G' : Nat → Nat → Prop), v = pack (c.ret r0) rls ∧ rls.length = (flatten (c.ret r0)).length ∧ okRes (c.ret r0) = true ∧ (c.out r0).length = (rowsOf (flatten rs) uls).length ∧
        (∀ m k, G' m k → ((∃ m0, G m0 k) ∨ w.heap.size ≤ k) ∧ w0.heap.size ≤ k ∧ k < w'.heap.size) ∧ (∀ m m' k, G' m k → G' m' k → m = m') ∧
        ∀ (m : Nat) (l : Lf C), (c.out r0 ++ flatten (c.ret r0))[m]? = some l → Own K w' w0.heap.size (G' m) l ((rowsOf (flatten rs) uls ++ rls).getD m undef)

theorem own_nil {K : Cd C} {base : Nat} {F : Nat → Prop} (t : Ty) : Own K w base F (.row t []) (.slice none 0 0) :=
  .row F t [] _ [] (fun _ _ _ => False) (World.ownsRow_nil ..) (fun g hg => by simp [Value.ownBlock] at hg) (fun _ _ _ h => h.elim) (fun _ _ _ _ _ h => h.elim) (fun j hj => absurd hj (by simp))

/-- An own row with another row at a path. -/
theorem own_set {K : Cd C} {F0 : Nat → Prop} {base : Nat} {t : Ty} {xs : List (C t)} {v : Value} {p : List (Nat × Nat)} {t' : Ty} {zs : List (C t')} {v' : Value}
    (h : PRes K w F0 t xs v p t' zs v') : ∀ F, Own K w base F (.row t xs) v → ∃ F1, (∀ k, F1 k → F k) ∧ Own K w base F1 (.row t' zs) v' ∧
      ∀ (w' : World) (F1' : Nat → Prop) (l : Lf C), (∀ k, F k → ¬ F1 k → w'.heap[k]? = w.heap[k]?) → (∀ k, F1' k → F1 k ∨ ¬ F k) → Own K w' base F1' l v' →
        ∀ (R : Type) (kk : List (C t) → Option R) (r : R), setPath K p t xs l kk = some r → ∃ xs', kk xs' = some r ∧ Own K w' base (fun k => (F k ∧ ¬ F1 k) ∨ F1' k) (.row t xs') v := by
  induction h with
  | nil t xs v =>
    intro F hO
    refine ⟨F, fun _ h => h, hO, fun w' F1' l _ _ hl R kk r hs => ?_⟩
    cases l with
    | row t2 ys =>
      simp only [setPath] at hs
      unfold castT at hs
      split at hs
      · rename_i ys' hy
        split at hy
        · rename_i e _
          subst e
          cases hy
          exact ⟨ys, hs, hl.mono fun k hk => .inr hk⟩
        · cases hy
      · cases hs
    | _ => simp [setPath] at hs
  | cons t xs v i o x t1 ys ad n c v1 p t' zs v' hx hl hv hF hc _ ih =>
    intro F hO
    cases hO with
    | row _ _ _ _ cells G0 h h1 h2 h3 h4 =>
      have hi := idx_lt hx
      have hxe : xs[i] = x := by simpa [List.getElem?_eq_getElem hi] using hx
      have ho : o < K.sz t := enc_lt hl
      have hpos : 0 < xs.length * K.sz t := Nat.mul_pos (by omega) (K.pos t)
      obtain ⟨g, cap, e, hb, hn, hcell⟩ := own_at h hpos
      have hv' := hv
      rw [e] at hv'
      cases hv'
      have hm : i * K.sz t + o < xs.length * K.sz t := cell_in hi ho
      have hv1 := hcell _ hm
      rw [hc] at hv1
      cases hv1
      obtain ⟨F1, a1, a2, a3⟩ := ih (G0 i o) (h4 i hi o _ (by rw [hxe]; exact hl))
      refine ⟨F1, fun k hk => (h2 i o k (a1 k hk)).1, a2, fun w' F1' l hfr hF' hlO R kk r hs => ?_⟩
      simp only [setPath, hx, Option.bind_some, hl] at hs
      obtain ⟨ys', hk, hO'⟩ := a3 w' F1' l (fun k hk hn => hfr k (h2 i o k hk).1 hn) (fun k hk => (hF' k hk).imp id fun hn hg => hn (h2 i o k hg).1) hlO R _ r hs
      split at hk
      · rename_i y hy
        have henc := K.enc_dec t _ _ hy
        refine ⟨xs.set i y, hk, ?_⟩
        have hnot : ∀ j i' k, G0 j i' k → ¬ (j = i ∧ i' = o) → ¬ F1 k := fun j i' k hk hne hf => hne (h3 j i' i o k hk (a1 k hf))
        have hsame : ∀ j i' k, G0 j i' k → ¬ (j = i ∧ i' = o) → w'.heap[k]? = w.heap[k]? := fun j i' k hk hne => hfr k (h2 j i' k hk).1 (hnot j i' k hk hne)
        refine .row _ t (xs.set i y) v cells (fun j i' k => if j = i ∧ i' = o then (G0 i o k ∧ ¬ F1 k) ∨ F1' k else G0 j i' k) (by rw [List.length_set]; exact ownsRow_frame h fun g hg => hfr g (h1 g hg) fun hf => (h2 i o g (a1 g hf)).2 hg)
          (fun g hg => .inl ⟨h1 g hg, fun hf => (h2 i o g (a1 g hf)).2 hg⟩) (fun j i' k hk => ?_) (fun j i' j' i'' k hk hk' => ?_) (fun j hj i' l' hl' => ?_)
        · split at hk
          · rcases hk with ⟨hk, hn⟩ | hk
            · exact ⟨.inl ⟨(h2 i o k hk).1, hn⟩, (h2 i o k hk).2⟩
            · refine ⟨.inr hk, fun e => ?_⟩
              rcases hF' k hk with hf | hf
              · exact (h2 i o k (a1 k hf)).2 e
              · exact hf (h1 k e)
          · rename_i hne
            exact ⟨.inl ⟨(h2 j i' k hk).1, hnot j i' k hk hne⟩, (h2 j i' k hk).2⟩
        · have cross : ∀ j i' k, G0 j i' k → ((G0 i o k ∧ ¬ F1 k) ∨ F1' k) → j = i ∧ i' = o := fun j i' k hk hk' => by
            rcases hk' with hk' | hk'
            · exact h3 j i' i o k hk hk'.1
            · rcases hF' k hk' with hf | hf
              · exact h3 j i' i o k hk (a1 k hf)
              · exact absurd (h2 j i' k hk).1 hf
          split at hk <;> split at hk'
          · rename_i e1 e2; exact ⟨e1.1.trans e2.1.symm, e1.2.trans e2.2.symm⟩
          · rename_i e1 e2; exact absurd (cross j' i'' k hk' hk) e2
          · rename_i e1 e2; exact absurd (cross j i' k hk hk') e1
          · exact h3 j i' j' i'' k hk hk'
        · have hj' : j < xs.length := by simpa using hj
          by_cases ej : j = i
          · subst ej
            have e1 : (xs.set j y)[j] = y := by simp
            rw [e1, henc] at hl'
            by_cases eo : i' = o
            · subst eo
              simp only [and_self, if_true]
              have : ((K.enc t x).set i' (Lf.row t1 ys'))[i']? = some (.row t1 ys') := by
                rw [List.getElem?_set]
                simp [show i' < (K.enc t x).length by rw [K.enc_len]; exact ho]
              rw [this] at hl'
              cases hl'
              exact hO'
            · rw [List.getElem?_set, if_neg (fun e => eo e.symm)] at hl'
              exact ((h4 j hj' i' l' (by rw [hxe]; exact hl')).frame fun k hk => hsame j i' k hk fun h => eo h.2).mono fun k hk => by rw [if_neg (fun h => eo h.2)]; exact hk
          · have e1 : (xs.set i y)[j] = xs[j] := by
              rw [List.getElem_set, if_neg (fun e => ej e.symm)]
            rw [e1] at hl'
            exact ((h4 j hj' i' l' hl').frame fun k hk => hsame j i' k hk fun h => ej h.1).mono fun k hk => by rw [if_neg (fun h => ej h.1)]; exact hk
      · cases hk

/-- What is known of a place that is handed on. -/
def TgOk (K : Cd C) (w : World) (base : Nat) (S : St C) (β : Nat → Value) (fp : Nat → Nat → Prop) (F1 : Nat → Prop) (u : Value) : Tgt → Prop
  | none => ∀ k, ¬ F1 k
  | some (id, p) => ∃ (t : Ty) (xs : List (C t)), lk S.objs id = some (.row t xs false) ∧ (∀ k, F1 k → fp id k) ∧
      ∀ (w' : World) (F1' : Nat → Prop) (l : Lf C), (∀ k, fp id k → ¬ F1 k → w'.heap[k]? = w.heap[k]?) → (∀ k, F1' k → F1 k ∨ ¬ fp id k) → Own K w' base F1' l u →
        ∀ (R : Type) (kk : List (C t) → Option R) (r : R), setPath K p t xs l kk = some r → ∃ xs', kk xs' = some r ∧ Own K w' base (fun k => (fp id k ∧ ¬ F1 k) ∨ F1' k) (.row t xs') (β id)

theorem ownL_ok (hs : Sim X.K w0 nt S β fp a w) {l : Lf C} {u : Value} (hl : LfOk X.K w S.objs β fp (stbOf S.objs fp w) l u) {kk : Lf C → Tgt → Option R} (h : ownL X S l kk = some r) :
    ∃ (l' : Lf C) (tg : Tgt) (F1 : Nat → Prop), kk l' tg = some r ∧ l'.plain = true ∧ Own X.K w w0.heap.size F1 l' u ∧ TgOk X.K w w0.heap.size S β fp F1 u tg := by
  cases l with
  | ref id p =>
    simp only [ownL] at h
    split at h
    · rename_i t xs ho
      have hob : Own X.K w w0.heap.size (fp id) (.row t xs) (β id) := hs.objs id _ ho
      have fin : ∀ (t' : Ty) (zs : List (C t')), PRes X.K w (fp id) t xs (β id) p t' zs u → ∃ (l' : Lf C) (tg : Tgt) (F1 : Nat → Prop), kk l' tg = some r ∧ l'.plain = true ∧ Own X.K w w0.heap.size F1 l' u ∧ TgOk X.K w w0.heap.size S β fp F1 u tg := fun t' zs hp => by
        obtain ⟨F1, a1, a2, a3⟩ := own_set hp (fp id) hob
        exact ⟨.row t' zs, some (id, p), F1, path_pres hp h, rfl, a2, t, xs, ho, a1, a3⟩
      cases p with
      | nil =>
        have e : u = β id := hl.2
        subst e
        exact fin t xs (.nil ..)
      | cons s p =>
        obtain ⟨_, t', zs, hp⟩ := hl.2 t xs false ho
        exact fin t' zs hp
    · cases h
  | nil t =>
    have e : u = .slice none 0 0 := hl
    subst e
    exact ⟨.row t [], none, fun _ => False, h, rfl, own_nil t, fun _ h => h⟩
  | int ki n => have e : u = _ := hl; subst e; exact ⟨_, none, fun _ => False, h, rfl, .int .., fun _ h => h⟩
  | bool b => have e : u = _ := hl; subst e; exact ⟨_, none, fun _ => False, h, rfl, .bool .., fun _ h => h⟩
  | str s => have e : u = _ := hl; subst e; exact ⟨_, none, fun _ => False, h, rfl, .str .., fun _ h => h⟩
  | _ => simp [ownL] at h

def TgsOk (K : Cd C) (w : World) (base : Nat) (S : St C) (β : Nat → Value) (fp G : Nat → Nat → Prop) (ls : List (Lf C)) (ts : List Tgt) (us : List Value) : Prop :=
  us.length = ls.length ∧ ts.length = ls.length ∧ ∀ (m : Nat) (l : Lf C), ls[m]? = some l → l.plain = true ∧ Own K w base (G m) l (us.getD m undef) ∧ ∃ tg, ts[m]? = some tg ∧ TgOk K w base S β fp (G m) (us.getD m undef) tg

theorem tgs_append {K : Cd C} {base : Nat} {G G' : Nat → Nat → Prop} {ls ls' : List (Lf C)} {ts ts' : List Tgt} {us us' : List Value} (h : TgsOk K w base S β fp G ls ts us) (h' : TgsOk K w base S β fp G' ls' ts' us') :
    TgsOk K w base S β fp (fun m => if m < ls.length then G m else G' (m - ls.length)) (ls ++ ls') (ts ++ ts') (us ++ us') := by
  refine ⟨by simp [h.1, h'.1], by simp [h.2.1, h'.2.1], fun m l hm => ?_⟩
  rcases cat_get hm with ⟨hj, hx⟩ | ⟨hj, hx⟩
  · have := h.2.2 m l hx
    have e1 : (us ++ us').getD m undef = us.getD m undef := by simp [List.getD, List.getElem?_append_left (by rw [h.1]; exact hj : m < us.length)]
    have e2 : (ts ++ ts')[m]? = ts[m]? := List.getElem?_append_left (by rw [h.2.1]; exact hj)
    simp only [hj, if_true, e1, e2]
    exact this
  · have := h'.2.2 _ l hx
    have e1 : (us ++ us').getD m undef = us'.getD (m - ls.length) undef := by simp [List.getD, List.getElem?_append_right (by rw [h.1]; exact hj : us.length ≤ m), h.1]
    have e2 : (ts ++ ts')[m]? = ts'[m - ls.length]? := by rw [List.getElem?_append_right (by rw [h.2.1]; exact hj), h.2.1]
    rw [e1, e2]
    simp only [show ¬ m < ls.length by omega, if_false]
    exact this

theorem ownLs_ok (hs : Sim X.K w0 nt S β fp a w) : ∀ {ls : List (Lf C)} {us : List Value} {kk : List (Lf C) → List Tgt → Option R}, LfsOk X.K w S.objs β fp (stbOf S.objs fp w) ls us → ownLs X S ls kk = some r →
    ∃ (ls' : List (Lf C)) (ts : List Tgt) (G : Nat → Nat → Prop), kk ls' ts = some r ∧ ls'.length = ls.length ∧ TgsOk X.K w w0.heap.size S β fp G ls' ts us
  | [], us, kk, hl, h => ⟨[], [], fun _ _ => False, h, rfl, by rw [hl.1], rfl, fun m l hm => by simp at hm⟩
  | l :: ls, us, kk, hl, h => by
    obtain ⟨u, us, rfl⟩ : ∃ u us', us = u :: us' := by
      cases us with
      | nil => have := hl.1; simp at this
      | cons u us => exact ⟨u, us, rfl⟩
    simp only [ownLs] at h
    obtain ⟨l', tg, F1, h1, h2, h3, h4⟩ := ownL_ok hs (hl.2 0 l rfl) h
    have hl1 : LfsOk X.K w S.objs β fp (stbOf S.objs fp w) ls us := ⟨by have := hl.1; simpa using this, fun i l' hi => hl.2 (i + 1) l' (by simpa using hi)⟩
    obtain ⟨ls', ts, G, q1, q2, q3⟩ := ownLs_ok hs hl1 h1
    have h0 : TgsOk X.K w w0.heap.size S β fp (fun _ => F1) [l'] [tg] [u] := ⟨rfl, rfl, fun m l hm => by
      cases m with
      | zero => simp at hm; subst hm; exact ⟨h2, h3, tg, rfl, h4⟩
      | succ m => simp at hm⟩
    exact ⟨l' :: ls', tg :: ts, _, q1, by simp [q2], tgs_append h0 q3⟩

theorem ownAll_ok (hs : Sim X.K w0 nt S β fp a w) : ∀ {xs : List Operand} {ts : List TypeId} {kk : List (Bool × List (Lf C)) → List Tgt → Option R}, ownAll X S xs ts kk = some r →
    ∃ (rs : List (Bool × List (Lf C))) (tg : List Tgt) (us : List Value) (G : Nat → Nat → Prop), kk rs tg = some r ∧ okRes rs = true ∧ xs.map a.eval = packAll rs us ∧ TgsOk X.K w w0.heap.size S β fp G (flatten rs) tg us
  | [], ts, kk, h => ⟨[], [], [], fun _ _ => False, h, rfl, rfl, rfl, rfl, fun m l hm => by simp [flatten] at hm⟩
  | x :: xs, ts, kk, h => by
    simp only [ownAll] at h
    split at h
    · rename_i l hv
      have hv : LfOk X.K w S.objs β fp (stbOf S.objs fp w) l (a.eval x) := opdT_ok hs hv
      obtain ⟨ls', t1, G1, h1, h2, h3⟩ := ownLs_ok hs (ls := [l]) (us := [a.eval x]) ⟨rfl, fun i l' hi => by cases i with | zero => simp at hi; subst hi; exact hv | succ i => simp at hi⟩ h
      obtain ⟨rs, tg, us, G, q1, q2, q3, q4⟩ := ownAll_ok hs h1
      have hlen : ls'.length = 1 := h2
      refine ⟨(false, ls') :: rs, t1 ++ tg, [a.eval x] ++ us, _, q1, by simp [okRes, hlen, q2], ?_, tgs_append h3 q4⟩
      simp [packAll, packOne, hlen, q3]
    · rename_i ls hv
      obtain ⟨us0, e, hl⟩ := opdT_ok hs hv
      obtain ⟨ls', t1, G1, h1, h2, h3⟩ := ownLs_ok hs hl h
      obtain ⟨rs, tg, us, G, q1, q2, q3, q4⟩ := ownAll_ok hs h1
      refine ⟨(true, ls') :: rs, t1 ++ tg, us0 ++ us, _, q1, by simp [okRes, q2], ?_, tgs_append h3 q4⟩
      have e1 : us0.length = ls'.length := h3.1
      simp [packAll, packOne, ← e1, q3, e]
    · cases h
end
end Go.Proofs.Ytkiognopoigbhaa.Ab
