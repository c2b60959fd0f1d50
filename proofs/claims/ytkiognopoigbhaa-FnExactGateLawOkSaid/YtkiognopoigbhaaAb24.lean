/- The abstract machine, part 24: what a set of operations brings, in whatever order. -/
import Derived.Test.YtkiognopoigbhaaAb23
set_option linter.unusedVariables false
set_option linter.unusedSimpArgs false
set_option linter.unusedSectionVars false
namespace Go.Proofs.Ytkiognopoigbhaa.Ab
open Go Go.RowKit

section
variable {Ty : Type} [DecidableEq Ty] {C : Ty → Type}
variable {X : Cx C} {S0 S S' : St C} {R : Type} {r : R} {tab : List (Nat × Nat)}

def Ent.val (e : Ent C) : Option (SV C) := match e.eff with
  | some (v, _, _) => some v
  | none => none
def Ent.news (e : Ent C) : List (Nat × Ob C) := match e.eff with
  | some (_, news, _) => news
  | none => []
theorem app_objs (S : St C) (e : Ent C) : (e.app S).objs = e.news ++ rmAll e.dels S.objs := by
  obtain ⟨ix, dst, ef, need⟩ := e
  cases ef with
  | none => rfl
  | some x => obtain ⟨v, news, dels⟩ := x; cases dst <;> rfl
theorem app_base (S : St C) (e : Ent C) : (e.app S).base = S.base := by
  obtain ⟨ix, dst, ef, need⟩ := e
  cases ef with
  | none => rfl
  | some x => obtain ⟨v, news, dels⟩ := x; cases dst <;> rfl
theorem app_env (S : St C) (e : Ent C) (t : Nat) : lk (e.app S).env t = if e.dst = some t ∧ e.val.isSome then e.val else lk S.env t := by
  obtain ⟨ix, dst, ef, need⟩ := e
  cases ef with
  | none => simp [Ent.app, Ent.val]
  | some x =>
    obtain ⟨v, news, dels⟩ := x
    cases dst with
    | none => simp [Ent.app, Ent.val, St.put]
    | some d =>
      simp only [Ent.app, Ent.val, St.put, lk_cons]
      by_cases e : t = d
      · subst e; simp
      · have : ¬ d = t := fun h => e h.symm
        simp [e, this]
theorem newK_news (e : Ent C) : e.newK = keysO e.news := by
  obtain ⟨ix, dst, ef, need⟩ := e
  cases ef with
  | none => rfl
  | some x => rfl
theorem lk_keys {l : List (Nat × Ob C)} {id : Nat} {ob : Ob C} (h : lk l id = some ob) : id ∈ keysO l := by
  induction l with
  | nil => simp [lk] at h
  | cons x l ih =>
    obtain ⟨m, o⟩ := x
    rw [lk_cons] at h
    simp only [keysO, List.map_cons, List.mem_cons]
    split at h
    · rename_i e; exact .inl e
    · exact .inr (ih h)
theorem keys_lk {l : List (Nat × Ob C)} {id : Nat} (h : id ∈ keysO l) : ∃ ob, lk l id = some ob := by
  induction l with
  | nil => simp [keysO] at h
  | cons x l ih =>
    obtain ⟨m, o⟩ := x
    simp only [keysO, List.map_cons, List.mem_cons] at h
    rw [lk_cons]
    by_cases e : id = m
    · exact ⟨o, by simp [e]⟩
    · rw [if_neg e]
      exact ih (h.resolve_left e)
theorem keys_ids {l : List (Nat × Ob C)} {id : Nat} (h : id ∈ keysO l) : id ∈ idsO l := by
  induction l with
  | nil => simp [keysO] at h
  | cons x l ih =>
    obtain ⟨m, o⟩ := x
    simp only [keysO, List.map_cons, List.mem_cons] at h
    cases o <;> simp only [idsO, List.mem_cons, List.mem_append] <;> rcases h with h | h
    · exact .inl h
    · exact .inr (.inr (ih h))
    · exact .inl h
    · exact .inr (ih h)
    · exact .inl h
    · exact .inr (ih h)
    · exact .inl h
    · exact .inr (ih h)

theorem SD_base : ∀ (es : List (Ent C)), (SD S0 es).base = S0.base
  | [] => rfl
  | e :: es => (app_base _ e).trans (SD_base es)

def Valid (tab : List (Nat × Nat)) (es : List (Ent C)) : Prop := es.Pairwise fun e m => m.ix ≠ e.ix ∧ has tab m.ix e.ix = false

/-- What the check of a layer says. -/
structure LayP (S0 : St C) (tab : List (Nat × Nat)) (ents : List (Ent C)) : Prop where
  self : ∀ e, e ∈ ents → selfB S0 e = true
  pair : ∀ e m, e ∈ ents → m ∈ ents → e.ix ≠ m.ix → pairB tab e m = true
theorem layP_of {ents : List (Ent C)} (h : layB S0 tab ents = true) : LayP S0 tab ents := by
  unfold layB at h
  rw [List.all_eq_true] at h
  refine ⟨fun e he => ?_, fun e m he hm hne => ?_⟩
  · have := h e he
    simp only [Bool.and_eq_true] at this
    exact this.1
  · have := h e he
    simp only [Bool.and_eq_true, List.all_eq_true, Bool.or_eq_true] at this
    rcases this.2 m hm with hb | hb
    · exact absurd (Nat.eq_of_beq_eq_true hb) hne
    · exact hb
theorem apartN_ok {a b : List Nat} (h : apartN a b = true) {n : Nat} (ha : n ∈ a) : n ∉ b := by
  unfold apartN at h
  rw [List.all_eq_true] at h
  have := h n ha
  simp only [Bool.not_eq_true'] at this
  exact beq_any this
section
variable {ents : List (Ent C)} (hL : LayP S0 tab ents)
include hL
theorem lay_dst {e m : Ent C} (he : e ∈ ents) (hm : m ∈ ents) (hne : e.ix ≠ m.ix) {t : Nat} (h1 : e.dst = some t) : m.dst ≠ some t := by
  intro h2
  have := hL.pair e m he hm hne
  simp [pairB, sameD, h1, h2, Nat.beq_refl] at this
theorem lay_new {e m : Ent C} (he : e ∈ ents) (hm : m ∈ ents) (hne : e.ix ≠ m.ix) {id : Nat} (h1 : id ∈ e.newK) : id ∉ m.newK := by
  have := hL.pair e m he hm hne
  simp only [pairB, Bool.and_eq_true] at this
  exact apartN_ok this.1.1.2 h1
theorem lay_names {e m : Ent C} (he : e ∈ ents) (hm : m ∈ ents) (hne : e.ix ≠ m.ix) (hno : has tab m.ix e.ix = false) {id : Nat} (h1 : id ∈ e.newK) : id ∉ m.names ∧ id ∉ m.dels := by
  have := hL.pair e m he hm hne
  simp only [pairB, Bool.and_eq_true, hno, Bool.false_or] at this
  exact ⟨apartN_ok this.1.2.1 h1, apartN_ok this.1.2.2 h1⟩
theorem lay_need {e m : Ent C} (he : e ∈ ents) (hm : m ∈ ents) (hne : e.ix ≠ m.ix) (h0 : has tab e.ix m.ix = false) (hno : has tab m.ix e.ix = false) {id : Nat} (h1 : id ∈ m.dels) : id ∉ e.need := by
  have := hL.pair e m he hm hne
  simp only [pairB, Bool.and_eq_true, hno, h0, Bool.false_or] at this
  exact apartN_ok this.2 h1
theorem lay_self {e : Ent C} (he : e ∈ ents) {id : Nat} (h1 : id ∈ e.newK) : id ∉ e.dels ∧ Unnamed S0 id := by
  have := hL.self e he
  simp only [selfB, Bool.and_eq_true] at this
  have h2 := apartN_ok this.1.2 h1
  exact ⟨apartN_ok this.1.1.1 h1, fun h => h2 (by simp [h]), fun h => h2 (by simp [h])⟩
theorem lay_nodup {e : Ent C} (he : e ∈ ents) : nodupN e.newK = true := by
  have := hL.self e he
  simp only [selfB, Bool.and_eq_true] at this
  exact this.1.1.2
theorem lay_free {e : Ent C} (he : e ∈ ents) {t : Nat} (h1 : e.dst = some t) : lk S0.env t = none := by
  have := hL.self e he
  simp only [selfB, Bool.and_eq_true, h1] at this
  simpa using this.2

theorem val_env : ∀ {es : List (Ent C)}, Valid tab es → (∀ e, e ∈ es → e ∈ ents) → ∀ t v, lk (SD S0 es).env t = some v ↔ (∃ m, m ∈ es ∧ m.dst = some t ∧ m.val = some v) ∨ ((∀ m, m ∈ es → m.dst = some t → m.val = none) ∧ lk S0.env t = some v)
  | [], _, _, t, v => by simp [SD]
  | e :: es, hv, hs, t, v => by
    have hv' := List.pairwise_cons.1 hv
    have ih := val_env (es := es) hv'.2 (fun m hm => hs m (by simp [hm])) t v
    rw [SD, app_env]
    have he := hs e (by simp)
    by_cases hc : e.dst = some t ∧ e.val.isSome
    · rw [if_pos hc]
      constructor
      · intro h; exact .inl ⟨e, by simp, hc.1, h⟩
      · rintro (⟨m, hm, h1, h2⟩ | ⟨h1, h2⟩)
        · rcases List.mem_cons.1 hm with e' | hm
          · subst e'; exact h2
          · exact absurd h1 (lay_dst hL he (hs m (by simp [hm])) (fun h => (hv'.1 m hm).1 h.symm) hc.1)
        · have := h1 e (by simp) hc.1
          rw [this] at hc
          simp at hc
    · rw [if_neg hc, ih]
      constructor
      · rintro (⟨m, hm, h⟩ | ⟨h1, h2⟩)
        · exact .inl ⟨m, by simp [hm], h⟩
        · refine .inr ⟨fun m hm h => ?_, h2⟩
          rcases List.mem_cons.1 hm with e' | hm
          · subst e'
            cases hval : m.val with
            | none => rfl
            | some x => exact absurd ⟨h, by simp [hval]⟩ hc
          · exact h1 m hm h
      · rintro (⟨m, hm, h1, h2⟩ | ⟨h1, h2⟩)
        · rcases List.mem_cons.1 hm with e' | hm
          · subst e'; exact absurd ⟨h1, by simp [h2]⟩ hc
          · exact .inl ⟨m, hm, h1, h2⟩
        · exact .inr ⟨fun m hm => h1 m (by simp [hm]), h2⟩

def ValO (S0 : St C) (es : List (Ent C)) (id : Nat) (ob : Ob C) : Prop :=
  (∀ m, m ∈ es → id ∉ m.dels) ∧ ((∃ m, m ∈ es ∧ lk m.news id = some ob) ∨ ((∀ m, m ∈ es → id ∉ m.newK) ∧ lk S0.objs id = some ob))
theorem val_objs : ∀ {es : List (Ent C)}, Valid tab es → (∀ e, e ∈ es → e ∈ ents) → ∀ id ob, lk (SD S0 es).objs id = some ob ↔ ValO S0 es id ob
  | [], _, _, id, ob => by simp [SD, ValO]
  | e :: es, hv, hs, id, ob => by
    have hv' := List.pairwise_cons.1 hv
    have ih := val_objs (es := es) hv'.2 (fun m hm => hs m (by simp [hm])) id ob
    have he := hs e (by simp)
    rw [SD, app_objs, lk_append]
    cases hn : lk e.news id with
    | some ob' =>
      simp only [Option.some.injEq]
      have hk : id ∈ e.newK := by rw [newK_news]; exact lk_keys hn
      constructor
      · intro h
        subst h
        refine ⟨fun m hm => ?_, .inl ⟨e, by simp, hn⟩⟩
        rcases List.mem_cons.1 hm with e' | hm
        · subst e'; exact (lay_self hL he hk).1
        · exact (lay_names hL he (hs m (by simp [hm])) (fun h => (hv'.1 m hm).1 h.symm) (hv'.1 m hm).2 hk).2
      · rintro ⟨h1, ⟨m, hm, h2⟩ | ⟨h2, h3⟩⟩
        · rcases List.mem_cons.1 hm with e' | hm
          · subst e'; rw [hn] at h2; exact Option.some.inj h2
          · refine absurd ?_ (lay_new hL he (hs m (by simp [hm])) (fun h => (hv'.1 m hm).1 h.symm) hk)
            rw [newK_news]; exact lk_keys h2
        · exact absurd hk (h2 e (by simp))
    | none =>
      simp only [lk_rmAll]
      have hk : id ∉ e.newK := by
        rw [newK_news]
        intro h
        obtain ⟨ob', h'⟩ := keys_lk h
        rw [hn] at h'
        cases h'
      by_cases hd : id ∈ e.dels
      · rw [if_pos hd]
        constructor
        · intro h; cases h
        · rintro ⟨h1, _⟩; exact absurd hd (h1 e (by simp))
      · rw [if_neg hd, ih]
        constructor
        · rintro ⟨h1, h2⟩
          refine ⟨fun m hm => ?_, ?_⟩
          · rcases List.mem_cons.1 hm with e' | hm
            · subst e'; exact hd
            · exact h1 m hm
          · rcases h2 with ⟨m, hm, h⟩ | ⟨h2, h3⟩
            · exact .inl ⟨m, by simp [hm], h⟩
            · refine .inr ⟨fun m hm => ?_, h3⟩
              rcases List.mem_cons.1 hm with e' | hm
              · subst e'; exact hk
              · exact h2 m hm
        · rintro ⟨h1, h2⟩
          refine ⟨fun m hm => h1 m (by simp [hm]), ?_⟩
          rcases h2 with ⟨m, hm, h⟩ | ⟨h2, h3⟩
          · rcases List.mem_cons.1 hm with e' | hm
            · subst e'; rw [hn] at h; cases h
            · exact .inl ⟨m, hm, h⟩
          · exact .inr ⟨fun m hm => h2 m (by simp [hm]), h3⟩
end

theorem idsE_app {S : St C} {e : Ent C} {id : Nat} (h : id ∈ idsE0 (e.app S).env) : id ∈ idsE0 S.env ∨ id ∈ e.names := by
  obtain ⟨ix, dst, ef, need⟩ := e
  cases ef with
  | none => exact .inl h
  | some x =>
    obtain ⟨v, news, dels⟩ := x
    cases dst with
    | none => exact .inl h
    | some d =>
      simp only [Ent.app, St.put, idsE0, List.mem_append] at h
      rcases h with h | h
      · exact .inr (by simp [Ent.names, h])
      · exact .inl h
theorem idsO_append {l m : Objs C} {id : Nat} (h : id ∈ idsO (l ++ m)) : id ∈ idsO l ∨ id ∈ idsO m := by
  induction l with
  | nil => exact .inr h
  | cons x l ih =>
    obtain ⟨n, o⟩ := x
    cases o <;> simp only [List.cons_append, idsO, List.mem_cons, List.mem_append] at h ⊢
    · rcases h with h | h | h
      · exact .inl (.inl h)
      · exact .inl (.inr (.inl h))
      · rcases ih h with h | h
        · exact .inl (.inr (.inr h))
        · exact .inr h
    · rcases h with h | h
      · exact .inl (.inl h)
      · rcases ih h with h | h
        · exact .inl (.inr h)
        · exact .inr h
    · rcases h with h | h
      · exact .inl (.inl h)
      · rcases ih h with h | h
        · exact .inl (.inr h)
        · exact .inr h
    · rcases h with h | h
      · exact .inl (.inl h)
      · rcases ih h with h | h
        · exact .inl (.inr h)
        · exact .inr h
theorem idsO_app {S : St C} {e : Ent C} {id : Nat} (h : id ∈ idsO (e.app S).objs) : id ∈ idsO S.objs ∨ id ∈ e.names := by
  rw [app_objs] at h
  rcases idsO_append h with h | h
  · refine .inr ?_
    obtain ⟨ix, dst, ef, need⟩ := e
    cases ef with
    | none => simp [Ent.news, idsO] at h
    | some x => simp only [Ent.news] at h; simp [Ent.names, h]
  · exact .inl (idsO_rmAll (l := S.objs) h)
theorem SD_named {id : Nat} : ∀ {es : List (Ent C)}, (id ∈ idsE0 (SD S0 es).env ∨ id ∈ idsO (SD S0 es).objs) → id ∈ idsE0 S0.env ∨ id ∈ idsO S0.objs ∨ ∃ m, m ∈ es ∧ id ∈ m.names
  | [], h => by
    rcases h with h | h
    · exact .inl h
    · exact .inr (.inl h)
  | e :: es, h => by
    have : (id ∈ idsE0 (SD S0 es).env ∨ id ∈ idsO (SD S0 es).objs) ∨ id ∈ e.names := by
      rcases h with h | h
      · rcases idsE_app h with h | h
        · exact .inl (.inl h)
        · exact .inr h
      · rcases idsO_app h with h | h
        · exact .inl (.inr h)
        · exact .inr h
    rcases this with h | h
    · rcases SD_named h with h | h | ⟨m, hm, h⟩
      · exact .inl h
      · exact .inr (.inl h)
      · exact .inr (.inr ⟨m, by simp [hm], h⟩)
    · exact .inr (.inr ⟨e, by simp, h⟩)

theorem lk_tidyA {α : Type} (E : List (Nat × α)) : ∀ (keep : List Nat) t v, lk (tidyA E keep) t = some v → lk E t = some v ∧ t ∈ keep
  | [], t, v, h => by simp [tidyA, lk] at h
  | d :: r, t, v, h => by
    simp only [tidyA] at h
    cases hd : lk E d with
    | none =>
      rw [hd] at h
      obtain ⟨h1, h2⟩ := lk_tidyA E r t v h
      exact ⟨h1, by simp [h2]⟩
    | some u =>
      rw [hd] at h
      simp only [lk_cons] at h
      by_cases e : t = d
      · subst e; simp at h; subst h; exact ⟨hd, by simp⟩
      · rw [if_neg e] at h
        obtain ⟨h1, h2⟩ := lk_tidyA E r t v h
        exact ⟨h1, by simp [h2]⟩

/-- Two orders of the same operations. -/
theorem sim_perm {P : Program} {K : Cd C} {w0 w : World} {nt : Nat} {a : Act} {ents es fs : List (Ent C)} (hL : LayP S0 tab ents) (he : Valid tab es) (hf : Valid tab fs) (hes : ∀ e, e ∈ es → e ∈ ents) (hsame : ∀ e, e ∈ fs ↔ e ∈ es)
    (h : SimE K w0 nt (SD S0 es) a w) : SimE K w0 nt (SD S0 fs) a w := by
  obtain ⟨β, fp, h⟩ := h
  have hfs : ∀ e, e ∈ fs → e ∈ ents := fun e h => hes e ((hsame e).1 h)
  have h2 := (h.sub (O := (SD S0 fs).objs) (fun id ob hi => (val_objs hL he hes id ob).2 (by
    have := (val_objs hL hf hfs id ob).1 hi
    simpa only [ValO, hsame] using this))).less (SD S0 fs).env (fun t v ht => (val_env hL he hes t v).2 (by
      have := (val_env hL hf hfs t v).1 ht
      simpa only [hsame] using this))
  have e : ({ ({ (SD S0 es) with objs := (SD S0 fs).objs } : St C) with env := (SD S0 fs).env } : St C) = SD S0 fs := by
    have : (SD S0 es).base = (SD S0 fs).base := by rw [SD_base, SD_base]
    rw [St.mk.injEq]
    exact ⟨rfl, rfl, this⟩
  rw [e] at h2
  exact ⟨β, fp, h2⟩
end
end Go.Proofs.Ytkiognopoigbhaa.Ab
