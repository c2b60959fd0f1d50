/- The abstract machine, part 19: the head of a loop. -/
import Derived.Test.YtkiognopoigbhaaAb18
set_option linter.unusedVariables false
set_option linter.unusedSimpArgs false
set_option linter.unusedSectionVars false
namespace Go.Proofs.Ytkiognopoigbhaa.Ab
open Go Go.RowKit

section
variable {Ty : Type} [DecidableEq Ty] {C : Ty → Type}
variable {P : Program} {K : Cd C} {w0 w : World} {nt : Nat} {S : St C} {β : Nat → Value} {fp : Nat → Nat → Prop} {a : Act}

abbrev CE (C : Ty → Type) := Nat × Option Nat × Ob C

theorem beq_any {n : Nat} {l : List Nat} (h : l.any (Nat.beq n) = false) : n ∉ l := by
  intro hm
  have := List.any_eq_false.1 h n hm
  exact this (Nat.beq_refl n)

theorem newN_unique : ∀ {os : List (CE C)}, nodupN (newN os) = true → ∀ {n s s' ob ob'}, (n, s, ob) ∈ os → (n, s', ob') ∈ os → s = s' ∧ ob = ob'
  | [], _, n, s, s', ob, ob', h, _ => by cases h
  | (m, t, o) :: os, hn, n, s, s', ob, ob', h, h' => by
    simp only [newN, nodupN, Bool.and_eq_true, Bool.not_eq_true'] at hn
    have hm := beq_any hn.1
    have mem : ∀ {n s ob}, (n, s, ob) ∈ os → n ∈ newN os := by
      clear hn hm h h'
      induction os with
      | nil => intro n s ob h; cases h
      | cons x os ih =>
        intro n s ob h
        obtain ⟨a, b, c⟩ := x
        simp only [newN, List.mem_cons] at h ⊢
        rcases h with h | h
        · cases h; exact .inl rfl
        · exact .inr (ih h)
    rcases List.mem_cons.1 h with e | h
    · cases e
      rcases List.mem_cons.1 h' with e | h'
      · cases e; exact ⟨rfl, rfl⟩
      · exact absurd (mem h') hm
    · rcases List.mem_cons.1 h' with e | h'
      · cases e; exact absurd (mem h) hm
      · exact newN_unique hn.2 h h'
theorem oldN_unique : ∀ {os : List (CE C)}, nodupN (oldN os) = true → ∀ {n n' i ob ob'}, (n, some i, ob) ∈ os → (n', some i, ob') ∈ os → n = n' ∧ ob = ob'
  | [], _, n, n', i, ob, ob', h, _ => by cases h
  | (m, t, o) :: os, hn, n, n', i, ob, ob', h, h' => by
    have mem : ∀ {n i ob}, (n, some i, ob) ∈ os → i ∈ oldN os := by
      clear hn h h'
      induction os with
      | nil => intro n s ob h; cases h
      | cons x os ih =>
        intro n s ob h
        obtain ⟨a, b, c⟩ := x
        rcases List.mem_cons.1 h with h1 | h1
        · cases h1; simp [oldN]
        · cases b with
          | none => simpa [oldN] using ih h1
          | some b => simp only [oldN, List.mem_cons]; exact .inr (ih h1)
    have hn' : nodupN (oldN os) = true := by
      cases t with
      | none => exact hn
      | some t => simp only [oldN, nodupN, Bool.and_eq_true] at hn; exact hn.2
    rcases List.mem_cons.1 h with e | h1
    · cases e
      rcases List.mem_cons.1 h' with e | h2
      · cases e; exact ⟨rfl, rfl⟩
      · simp only [oldN, nodupN, Bool.and_eq_true, Bool.not_eq_true'] at hn
        exact absurd (mem h2) (beq_any hn.1)
    · rcases List.mem_cons.1 h' with e | h2
      · cases e
        simp only [oldN, nodupN, Bool.and_eq_true, Bool.not_eq_true'] at hn
        exact absurd (mem h1) (beq_any hn.1)
      · exact oldN_unique hn' h1 h2

def srcOf : List (CE C) → Nat → Option (Option Nat)
  | [], _ => none
  | (m, s, _) :: r, n => if n = m then some s else srcOf r n
theorem obs_mem : ∀ {os : List (CE C)} {n : Nat} {ob : Ob C}, lk (obsN os) n = some ob → ∃ s, (n, s, ob) ∈ os ∧ srcOf os n = some s
  | [], n, ob, h => by simp [obsN, lk] at h
  | (m, s, o) :: os, n, ob, h => by
    simp only [obsN, lk_cons] at h
    by_cases e : n = m
    · subst e
      simp at h
      subst h
      exact ⟨s, by simp, by simp [srcOf]⟩
    · rw [if_neg e] at h
      obtain ⟨s', h1, h2⟩ := obs_mem h
      exact ⟨s', by simp [h1], by simp [srcOf, e, h2]⟩
theorem src_mem : ∀ {os : List (CE C)} {n : Nat} {s : Option Nat} {ob : Ob C}, (n, s, ob) ∈ os → nodupN (newN os) = true → srcOf os n = some s ∧ lk (obsN os) n = some ob := by
  intro os n s ob h hn
  have : ∃ ob', lk (obsN os) n = some ob' := by
    clear hn
    induction os with
    | nil => cases h
    | cons x os ih =>
      obtain ⟨m, t, o⟩ := x
      simp only [obsN, lk_cons]
      by_cases e : n = m
      · exact ⟨o, by simp [e]⟩
      · rw [if_neg e]
        rcases List.mem_cons.1 h with h | h
        · cases h; exact absurd rfl e
        · exact ih h
  obtain ⟨ob', ho⟩ := this
  obtain ⟨s', h1, h2⟩ := obs_mem ho
  obtain ⟨rfl, rfl⟩ := newN_unique hn h h1
  exact ⟨h2, ho⟩

def nb (β : Nat → Value) (os : List (CE C)) (n : Nat) : Value := match srcOf os n with
  | some (some id) => β id
  | _ => .slice none 0 0
def nf (fp : Nat → Nat → Prop) (os : List (CE C)) (n k : Nat) : Prop := match srcOf os n with
  | some (some id) => fp id k
  | _ => False

/-- A thing that names no others, no row. -/
def lone : Ob C → Bool
  | .map .. => true
  | .ghost => true
  | _ => false
/-- What an entry comes from. -/
def GoodE (S : St C) (nm : List (Nat × Nat)) (B : List Nat) (os : List (CE C)) (x : CE C) : Prop :=
  (∃ n t, x = (n, none, .row t [] false)) ∨
  (∃ n id t xs sh, x = (n, some id, .row t xs sh) ∧ lk nm id = some n ∧ lk S.objs id = some (.row t xs sh)) ∨
  (∃ id kd ls ls' os', x = (id, some id, .box kd ls') ∧ lk S.objs id = some (.box kd ls) ∧ canLs S nm B (1000000 + 100 * id) ls = some (ls', os') ∧ ∀ y, y ∈ os' → y ∈ os) ∨
  (∃ id ob, x = (id, some id, ob) ∧ lk S.objs id = some ob ∧ lone ob = true)
theorem GoodE.mono {nm : List (Nat × Nat)} {B : List Nat} {os os' : List (CE C)} {x : CE C} (h : GoodE S nm B os x) (hm : ∀ y, y ∈ os → y ∈ os') : GoodE S nm B os' x := by
  rcases h with h | h | ⟨id, kd, ls, ls', o, h1, h2, h3, h4⟩ | h
  · exact .inl h
  · exact .inr (.inl h)
  · exact .inr (.inr (.inl ⟨id, kd, ls, ls', o, h1, h2, h3, fun y hy => hm y (h4 y hy)⟩))
  · exact .inr (.inr (.inr h))
section
variable {nm : List (Nat × Nat)} {B : List Nat}
theorem canL_good {n : Nat} {l l' : Lf C} {os : List (CE C)} (h : canL S nm B n l = some (l', os)) : ∀ x, x ∈ os → GoodE S nm B os x := by
  intro x hx
  cases l with
  | ref id p =>
    cases p with
    | cons s p => simp [canL] at h
    | nil =>
      simp only [canL] at h
      split at h
      · rename_i m t xs sh hn ho
        cases h
        rw [List.mem_singleton] at hx
        exact .inr (.inl ⟨m, id, t, xs, sh, hx, hn, ho⟩)
      · cases h
  | ptr id o =>
    simp only [canL] at h
    obtain ⟨_, h⟩ := cond_some h
    cases h; cases hx
  | vo id =>
    simp only [canL] at h
    obtain ⟨_, h⟩ := cond_some h
    cases h; cases hx
  | nil t =>
    simp only [canL, Option.some.injEq, Prod.mk.injEq] at h
    rw [← h.2, List.mem_singleton] at hx
    exact .inl ⟨n, t, hx⟩
  | _ => first
    | (simp only [canL, Option.some.injEq, Prod.mk.injEq] at h; rw [← h.2] at hx; cases hx)
    | (simp [canL] at h)
theorem canLs_good : ∀ {ls : List (Lf C)} {n : Nat} {ls' : List (Lf C)} {os : List (CE C)}, canLs S nm B n ls = some (ls', os) → ∀ x, x ∈ os → GoodE S nm B os x
  | [], n, ls', os, h, x, hx => by simp only [canLs, Option.some.injEq, Prod.mk.injEq] at h; rw [← h.2] at hx; cases hx
  | l :: ls, n, ls', os, h, x, hx => by
    simp only [canLs] at h
    split at h
    · rename_i l1 o1 h1
      split at h
      · rename_i r' o2 h2
        cases h
        rcases List.mem_append.1 hx with hx | hx
        · exact (canL_good h1 x hx).mono fun y hy => by simp [hy]
        · exact (canLs_good h2 x hx).mono fun y hy => by simp [hy]
      · cases h
    · cases h
theorem canB_good : ∀ {l : List Nat} {os : List (CE C)}, canB S nm B l = some os → (∀ x, x ∈ os → GoodE S nm B os x) ∧ ∀ id, id ∈ l → ∃ ob', (id, some id, ob') ∈ os
  | [], os, h => by simp only [canB, Option.some.injEq] at h; subst h; exact ⟨fun x hx => (by cases hx), fun id hi => (by cases hi)⟩
  | id :: l, os, h => by
    simp only [canB] at h
    split at h
    · rename_i kd ls ho
      split at h
      · rename_i ls' o1 h1
        split at h
        · rename_i o2 h2
          cases h
          obtain ⟨g1, g2⟩ := canB_good h2
          refine ⟨fun x hx => ?_, fun i hi => ?_⟩
          · rcases List.mem_cons.1 hx with hx | hx
            · exact .inr (.inr (.inl ⟨id, kd, ls, ls', o1, hx, ho, h1, fun y hy => by simp [hy]⟩))
            · rcases List.mem_append.1 hx with hx | hx
              · exact (canLs_good h1 x hx).mono fun y hy => by simp [hy]
              · exact (g1 x hx).mono fun y hy => by simp [hy]
          · rcases List.mem_cons.1 hi with e | hi
            · subst e; exact ⟨.box kd ls', by simp⟩
            · obtain ⟨ls2, hm⟩ := g2 i hi; exact ⟨ls2, by simp [hm]⟩
        · cases h
      · cases h
    · rename_i mk kt vt xs c ho
      split at h
      · rename_i o2 h2
        cases h
        obtain ⟨g1, g2⟩ := canB_good h2
        refine ⟨fun x hx => ?_, fun i hi => ?_⟩
        · rcases List.mem_cons.1 hx with hx | hx
          · exact .inr (.inr (.inr ⟨id, _, hx, ho, rfl⟩))
          · exact (g1 x hx).mono fun y hy => by simp [hy]
        · rcases List.mem_cons.1 hi with e | hi
          · subst e; exact ⟨.map mk kt vt xs c, by simp⟩
          · obtain ⟨ls2, hm⟩ := g2 i hi; exact ⟨ls2, by simp [hm]⟩
      · cases h
    · rename_i ho
      split at h
      · rename_i o2 h2
        cases h
        obtain ⟨g1, g2⟩ := canB_good h2
        refine ⟨fun x hx => ?_, fun i hi => ?_⟩
        · rcases List.mem_cons.1 hx with hx | hx
          · exact .inr (.inr (.inr ⟨id, _, hx, ho, rfl⟩))
          · exact (g1 x hx).mono fun y hy => by simp [hy]
        · rcases List.mem_cons.1 hi with e | hi
          · subst e; exact ⟨.ghost, by simp⟩
          · obtain ⟨ls2, hm⟩ := g2 i hi; exact ⟨ls2, by simp [hm]⟩
      · cases h
    · cases h
theorem canV_good {t : Nat} {v v' : SV C} {os : List (CE C)} (h : canV S nm B t v = some (v', os)) : ∀ x, x ∈ os → GoodE S nm B os x := by
  intro x hx
  unfold canV at h
  split at h
  · split at h
    · rename_i l' os' h1
      cases h
      exact canL_good h1 x hx
    · cases h
  · split at h
    · rename_i l' os' h1
      cases h
      exact canLs_good h1 x hx
    · cases h
  · split at h
    · rename_i l' os' h1
      cases h
      exact canLs_good h1 x hx
    · cases h
  · cases h; cases hx
  · cases h
/-- Each thing once: what is dropped was there before. -/
theorem once_mem : ∀ {os : List (CE C)} {seen : List Nat} {y : CE C}, y ∈ onceO os seen → y ∈ os
  | [], seen, y, h => by cases h
  | (n, none, ob) :: r, seen, y, h => by
    simp only [onceO] at h
    rcases List.mem_cons.1 h with e | h
    · rw [e]; simp
    · exact List.mem_cons_of_mem _ (once_mem h)
  | (n, some id, ob) :: r, seen, y, h => by
    simp only [onceO] at h
    cases hb : seen.any (Nat.beq id) with
    | true => rw [hb] at h; exact List.mem_cons_of_mem _ (once_mem h)
    | false =>
      rw [hb] at h
      rcases List.mem_cons.1 h with e | h
      · rw [e]; simp
      · exact List.mem_cons_of_mem _ (once_mem h)
theorem once_has : ∀ {os : List (CE C)} {seen : List Nat} {y : CE C}, y ∈ os → y ∈ onceO os seen ∨ ∃ id n ob, y = (n, some id, ob) ∧ (id ∈ seen ∨ ∃ n' ob', (n', some id, ob') ∈ onceO os seen)
  | [], seen, y, h => by cases h
  | (n, none, ob) :: r, seen, y, h => by
    simp only [onceO]
    rcases List.mem_cons.1 h with e | h
    · rw [e]; exact .inl (by simp)
    · rcases once_has (seen := seen) h with h | ⟨id, n1, ob1, e, h | ⟨n2, ob2, h⟩⟩
      · exact .inl (by simp [h])
      · exact .inr ⟨id, n1, ob1, e, .inl h⟩
      · exact .inr ⟨id, n1, ob1, e, .inr ⟨n2, ob2, by simp [h]⟩⟩
  | (n, some i, ob) :: r, seen, y, h => by
    simp only [onceO]
    cases hb : seen.any (Nat.beq i) with
    | true =>
      simp only [cond_true]
      rcases List.mem_cons.1 h with e | h
      · obtain ⟨m, hm, he⟩ := List.any_eq_true.1 hb
        have := Nat.eq_of_beq_eq_true he
        subst this
        exact .inr ⟨i, n, ob, e, .inl hm⟩
      · exact once_has h
    | false =>
      simp only [cond_false]
      rcases List.mem_cons.1 h with e | h
      · rw [e]; exact .inl (by simp)
      · rcases once_has (seen := i :: seen) h with h | ⟨id, n1, ob1, e, h | ⟨n2, ob2, h⟩⟩
        · exact .inl (by simp [h])
        · rcases List.mem_cons.1 h with e2 | h
          · subst e2; exact .inr ⟨id, n1, ob1, e, .inr ⟨n, ob, by simp⟩⟩
          · exact .inr ⟨id, n1, ob1, e, .inl h⟩
        · exact .inr ⟨id, n1, ob1, e, .inr ⟨n2, ob2, by simp [h]⟩⟩
theorem once_old : ∀ {os : List (CE C)} {seen : List Nat} {n n' id : Nat} {ob ob' : Ob C}, (n, some id, ob) ∈ onceO os seen → (n', some id, ob') ∈ onceO os seen → n = n' ∧ ob = ob'
  | os, seen, n, n', id, ob, ob', h, h' => by
    have notin : ∀ {os : List (CE C)} {seen : List Nat} {n id : Nat} {ob : Ob C}, (n, some id, ob) ∈ onceO os seen → id ∉ seen := by
      intro os
      induction os with
      | nil => intro seen n id ob h; cases h
      | cons x os ih =>
        intro seen n id ob h
        obtain ⟨m, s, o⟩ := x
        cases s with
        | none =>
          simp only [onceO] at h
          rcases List.mem_cons.1 h with e | h
          · cases e
          · exact ih h
        | some i =>
          simp only [onceO] at h
          cases hb : seen.any (Nat.beq i) with
          | true => rw [hb] at h; exact ih h
          | false =>
            rw [hb] at h
            rcases List.mem_cons.1 h with e | h
            · cases e; exact beq_any hb
            · exact fun hm => ih h (List.mem_cons_of_mem _ hm)
    induction os generalizing seen with
    | nil => cases h
    | cons x os ih =>
      obtain ⟨m, s, o⟩ := x
      cases s with
      | none =>
        simp only [onceO] at h h'
        rcases List.mem_cons.1 h with e | h1
        · cases e
        · rcases List.mem_cons.1 h' with e | h1'
          · cases e
          · exact ih _ h1 h1'
      | some i =>
        simp only [onceO] at h h'
        cases hb : seen.any (Nat.beq i) with
        | true => rw [hb] at h h'; exact ih _ h h'
        | false =>
          rw [hb] at h h'
          rcases List.mem_cons.1 h with e | h1
          · cases e
            rcases List.mem_cons.1 h' with e | h1'
            · cases e; exact ⟨rfl, rfl⟩
            · exact absurd (List.mem_cons_self ..) (notin h1')
          · rcases List.mem_cons.1 h' with e | h1'
            · cases e; exact absurd (List.mem_cons_self ..) (notin h1)
            · exact ih _ h1 h1'
theorem once_all {os : List (CE C)} (hg : ∀ x, x ∈ os → GoodE S nm B os x) {y : CE C} (hy : y ∈ os) : y ∈ onceO os [] := by
  rcases once_has (seen := []) hy with h | ⟨id, n, ob, e, h | ⟨n', ob', h⟩⟩
  · exact h
  · cases h
  · subst e
    have g1 := hg _ hy
    have g2 := hg _ (once_mem h)
    have : n = n' ∧ ob = ob' := by
      rcases g1 with ⟨_, _, e⟩ | ⟨_, _, t, xs, sh, e, h1, h2⟩ | ⟨_, kd, ls, ls', os', e, h1, h2, _⟩ | ⟨_, ob1, e, h1, hl1⟩
      · cases e
      · cases e
        rcases g2 with ⟨_, _, e⟩ | ⟨_, _, t', xs', sh', e, h1', h2'⟩ | ⟨_, kd, ls, ls', os', e, h1', h2', _⟩ | ⟨_, ob2, e, h1', hl2⟩
        · cases e
        · cases e
          rw [h1] at h1'
          rw [h2] at h2'
          cases h1'; cases h2'
          exact ⟨rfl, rfl⟩
        · cases e; rw [h2] at h1'; cases h1'
        · cases e; rw [h2] at h1'; cases h1'; cases hl2
      · cases e
        rcases g2 with ⟨_, _, e⟩ | ⟨_, _, t', xs', sh', e, h1', h2'⟩ | ⟨_, kd2, ls2, ls2', os2', e, h1', h2', _⟩ | ⟨_, ob2, e, h1', hl2⟩
        · cases e
        · cases e; rw [h1] at h2'; cases h2'
        · cases e
          rw [h1] at h1'
          cases h1'
          rw [h2] at h2'
          cases h2'
          exact ⟨rfl, rfl⟩
        · cases e; rw [h1] at h1'; cases h1'; cases hl2
      · cases e
        rcases g2 with ⟨_, _, e⟩ | ⟨_, _, t', xs', sh', e, h1', h2'⟩ | ⟨_, kd2, ls2, ls2', os2', e, h1', h2', _⟩ | ⟨_, ob2, e, h1', hl2⟩
        · cases e
        · cases e; rw [h1] at h2'; cases h2'; cases hl1
        · cases e; rw [h1] at h1'; cases h1'; cases hl1
        · cases e
          rw [h1] at h1'
          cases h1'
          exact ⟨rfl, rfl⟩
    obtain ⟨rfl, rfl⟩ := this
    exact h
end
theorem newOf_mem : ∀ {os : List (CE C)} {id n : Nat}, newOf os id = some n → ∃ ob, (n, some id, ob) ∈ os
  | [], id, n, h => by simp [newOf] at h
  | (m, none, ob) :: r, id, n, h => by
    obtain ⟨ob', h'⟩ := newOf_mem (os := r) h
    exact ⟨ob', by simp [h']⟩
  | (m, some m', ob) :: r, id, n, h => by
    simp only [newOf] at h
    cases hb : Nat.beq m' id with
    | true =>
      rw [hb] at h
      cases h
      have := Nat.eq_of_beq_eq_true hb
      subst this
      exact ⟨ob, by simp⟩
    | false =>
      rw [hb] at h
      obtain ⟨ob', h'⟩ := newOf_mem (os := r) h
      exact ⟨ob', by simp [h']⟩
theorem hdrE_lk : ∀ {os : List (CE C)} {E : List (Nat × SV C)} {t : Nat} {v : SV C}, lk (hdrE os E) t = some v → ∃ id j n, (t, .hdr id j) ∈ E ∧ newOf os id = some n ∧ v = .hdr n j
  | os, [], t, v, h => by simp [hdrE, lk] at h
  | os, (t', x) :: E, t, v, h => by
    have up : lk (hdrE os E) t = some v → ∃ id j n, (t, .hdr id j) ∈ (t', x) :: E ∧ newOf os id = some n ∧ v = .hdr n j := fun h => by
      obtain ⟨id, j, n, h1, h2⟩ := hdrE_lk h
      exact ⟨id, j, n, by simp [h1], h2⟩
    cases x with
    | hdr id j =>
      simp only [hdrE] at h
      split at h
      · rename_i n hn
        rw [lk_cons] at h
        split at h
        · rename_i e
          cases h
          subst e
          exact ⟨id, j, n, by simp, hn, rfl⟩
        · exact up h
      · exact up h
    | _ => exact up h
theorem canE_good {nm : List (Nat × Nat)} {B : List Nat} : ∀ {E e : List (Nat × SV C)} {os : List (CE C)}, canE S nm B E = (e, os) → (∀ x, x ∈ os → GoodE S nm B os x) ∧ ∀ t v', lk e t = some v' → ∃ v os', (t, v) ∈ E ∧ canV S nm B t v = some (v', os') ∧ ∀ y, y ∈ os' → y ∈ os
  | [], e, os, h => by
    simp only [canE, Prod.mk.injEq] at h
    obtain ⟨h1, h2⟩ := h
    subst h1 h2
    exact ⟨fun x hx => (by cases hx), fun t v' h => by simp [lk] at h⟩
  | (t, v) :: E, e, os, h => by
    simp only [canE] at h
    cases hc : canE S nm B E with
    | mk e0 os0 =>
      rw [hc] at h
      simp only at h
      obtain ⟨g1, g2⟩ := canE_good hc
      split at h
      · rename_i v1 os1 hv
        cases h
        refine ⟨fun x hx => ?_, fun t' v' ht => ?_⟩
        · rcases List.mem_append.1 hx with hx | hx
          · exact (canV_good hv x hx).mono fun y hy => by simp [hy]
          · exact (g1 x hx).mono fun y hy => by simp [hy]
        · rw [lk_cons] at ht
          by_cases e : t' = t
          · subst e
            simp at ht
            subst ht
            exact ⟨v, os1, by simp, hv, fun y hy => by simp [hy]⟩
          · rw [if_neg e] at ht
            obtain ⟨v2, os2, h1, h2, h3⟩ := g2 t' v' ht
            exact ⟨v2, os2, by simp [h1], h2, fun y hy => by simp [h3 y hy]⟩
      · cases h
        refine ⟨g1, fun t' v' ht => ?_⟩
        obtain ⟨v2, os2, h1, h2, h3⟩ := g2 t' v' ht
        exact ⟨v2, os2, by simp [h1], h2, h3⟩

theorem mem_tidyE {E : List (Nat × SV C)} : ∀ {keep : List Nat} {t : Nat} {v : SV C}, (t, v) ∈ tidyE E keep → lk E t = some v
  | [], t, v, h => by cases h
  | d :: r, t, v, h => by
    simp only [tidyE] at h
    cases hd : lk E d with
    | none => rw [hd] at h; exact mem_tidyE h
    | some u =>
      rw [hd] at h
      rcases List.mem_cons.1 h with h | h
      · cases h; exact hd
      · exact mem_tidyE h

theorem rm_mem {α : Type} : ∀ {l : List (Nat × α)} {d t : Nat} {v : α}, (t, v) ∈ rm l d → (t, v) ∈ l ∧ t ≠ d
  | [], d, t, v, h => by cases h
  | (m, u) :: l, d, t, v, h => by
    simp only [rm] at h
    cases hb : Nat.beq d m with
    | true => rw [hb] at h; obtain ⟨h1, h2⟩ := rm_mem h; exact ⟨List.mem_cons_of_mem _ h1, h2⟩
    | false =>
      rw [hb] at h
      rcases List.mem_cons.1 h with e | h
      · cases e
        refine ⟨by simp, fun e => ?_⟩
        rw [e, Nat.beq_refl] at hb; cases hb
      · obtain ⟨h1, h2⟩ := rm_mem h; exact ⟨List.mem_cons_of_mem _ h1, h2⟩
theorem mem_ghostsE : ∀ {E : List (Nat × SV C)} {t : Nat} {v : SV C}, (t, v) ∈ ghostsE E → lk E t = some v
  | [], t, v, h => by cases h
  | (m, u) :: E, t, v, h => by
    rw [lk_cons]
    have hd : ∀ {u : SV C}, (t, v) ∈ (m, u) :: rm (ghostsE E) m → (if t = m then some u else lk E t) = some v := fun {u} h => by
      rcases List.mem_cons.1 h with e | h
      · cases e; simp
      · obtain ⟨h1, h2⟩ := rm_mem h; rw [if_neg h2]; exact mem_ghostsE h1
    have ht : ∀ {u : SV C}, (t, v) ∈ rm (ghostsE E) m → (if t = m then some u else lk E t) = some v := fun {u} h => by
      obtain ⟨h1, h2⟩ := rm_mem h; rw [if_neg h2]; exact mem_ghostsE h1
    cases u with
    | sus x j => exact hd h
    | hdr id j => exact hd h
    | frame => exact hd h
    | one _ => exact ht h
    | agg _ => exact ht h
    | tup _ => exact ht h
    | und => exact ht h
theorem mem_liveE {E : List (Nat × SV C)} {keep : List Nat} {t : Nat} {v : SV C} (h : (t, v) ∈ liveE E keep) : lk E t = some v := by
  unfold liveE at h
  rcases List.mem_append.1 h with h | h
  · exact mem_tidyE h
  · exact mem_ghostsE h
section
variable {nm : List (Nat × Nat)} {B : List Nat} {os : List (CE C)} {objs' : Objs C} {stb' : Nat → Prop}
theorem canL_ok (hn : nodupN (newN os) = true) (hB : ∀ id, id ∈ B → ∃ ob', (id, some id, ob') ∈ os) (hst : ∀ k, stbOf S.objs fp w k → stb' k) {n : Nat} {l l' : Lf C} {os' : List (CE C)} {v : Value} (h : canL S nm B n l = some (l', os')) (hm : ∀ y, y ∈ os' → y ∈ os)
    (hl : LfOk K w S.objs β fp (stbOf S.objs fp w) l v) : LfOk K w objs' (nb β os) (nf fp os) stb' l' v := by
  have triv : ∀ l : Lf C, idsL l = [] → LfOk K w S.objs β fp (stbOf S.objs fp w) l v → LfOk K w objs' (nb β os) (nf fp os) stb' l v := fun l hi h =>
    h.tr (fun k hk => ⟨hst k hk, rfl⟩) (fun id hid => by rw [hi] at hid; cases hid)
  cases l with
  | ref id p =>
    cases p with
    | cons s p => simp [canL] at h
    | nil =>
      simp only [canL] at h
      split at h
      · rename_i m t xs sh hnm ho
        cases h
        have := (src_mem (hm _ (by simp : (m, some id, Ob.row t xs sh) ∈ _)) hn).1
        refine ⟨hl.1, hl.2.trans ?_⟩
        simp [nb, this]
      · cases h
  | ptr id o =>
    simp only [canL] at h
    obtain ⟨hb, h⟩ := cond_some h
    cases h
    obtain ⟨m, hmB, he⟩ := List.any_eq_true.1 hb
    have := Nat.eq_of_beq_eq_true he
    subst this
    obtain ⟨ls', hx⟩ := hB _ hmB
    obtain ⟨b, h1, h2⟩ := hl
    exact ⟨b, by simp [nb, (src_mem hx hn).1, h1], h2⟩
  | vo id =>
    simp only [canL] at h
    obtain ⟨hb, h⟩ := cond_some h
    cases h
    obtain ⟨m, hmB, he⟩ := List.any_eq_true.1 hb
    have := Nat.eq_of_beq_eq_true he
    subst this
    obtain ⟨ls', hx⟩ := hB _ hmB
    exact ⟨hl.1, hl.2.trans (by simp [nb, (src_mem hx hn).1])⟩
  | nil t =>
    simp only [canL, Option.some.injEq, Prod.mk.injEq] at h
    obtain ⟨rfl, rfl⟩ := h
    have := (src_mem (hm _ (by simp : (n, none, Ob.row t [] false) ∈ _)) hn).1
    have e : v = .slice none 0 0 := hl
    subst e
    refine ⟨rfl, ?_⟩
    simp [nb, this]
  | _ => first
    | (simp only [canL, Option.some.injEq, Prod.mk.injEq] at h; obtain ⟨rfl, -⟩ := h; exact triv _ rfl hl)
    | (simp [canL] at h)
theorem canLs_ok (hn : nodupN (newN os) = true) (hB : ∀ id, id ∈ B → ∃ ob', (id, some id, ob') ∈ os) (hst : ∀ k, stbOf S.objs fp w k → stb' k) : ∀ {ls ls' : List (Lf C)} {n : Nat} {os' : List (CE C)} {vs : List Value}, canLs S nm B n ls = some (ls', os') → (∀ y, y ∈ os' → y ∈ os) →
    LfsOk K w S.objs β fp (stbOf S.objs fp w) ls vs → LfsOk K w objs' (nb β os) (nf fp os) stb' ls' vs
  | [], ls', n, os', vs, h, _, hl => by
    simp only [canLs, Option.some.injEq, Prod.mk.injEq] at h
    obtain ⟨rfl, -⟩ := h
    exact ⟨hl.1, fun i l h => by simp at h⟩
  | l :: ls, ls', n, os', vs, h, hm, hl => by
    simp only [canLs] at h
    split at h
    · rename_i l1 o1 h1
      split at h
      · rename_i r' o2 h2
        cases h
        obtain ⟨u, us, rfl⟩ : ∃ u us, vs = u :: us := by
          cases vs with
          | nil => have := hl.1; simp at this
          | cons u us => exact ⟨u, us, rfl⟩
        have hl1 : LfsOk K w S.objs β fp (stbOf S.objs fp w) ls us := ⟨by have := hl.1; simpa using this, fun i l' hi => hl.2 (i + 1) l' (by simpa using hi)⟩
        have ih := canLs_ok hn hB hst h2 (fun y hy => hm y (by simp [hy])) hl1
        refine ⟨by simp [ih.1], fun i l' hi => ?_⟩
        cases i with
        | zero => simp at hi; subst hi; exact canL_ok hn hB hst h1 (fun y hy => hm y (by simp [hy])) (hl.2 0 l rfl)
        | succ i => exact ih.2 i l' (by simpa using hi)
      · cases h
    · cases h
theorem canLs_len {n : Nat} : ∀ {ls ls' : List (Lf C)} {n : Nat} {os' : List (CE C)}, canLs S nm B n ls = some (ls', os') → ls'.length = ls.length
  | [], ls', n, os', h => by simp only [canLs, Option.some.injEq, Prod.mk.injEq] at h; rw [← h.1]
  | l :: ls, ls', n, os', h => by
    simp only [canLs] at h
    split at h
    · split at h
      · rename_i r' o2 h2
        cases h
        simp [canLs_len (n := n) h2]
      · cases h
    · cases h
end

theorem canon_sound (hs : Sim K w0 nt S β fp a w) {ent : List Nat} {S' : St C} (h : S.canon ent = some S') : SimE K w0 nt S' a w := by
  unfold St.canon canon1 at h
  generalize hnm : tabE (liveE S.env ent) ++ tabB S (boxesOf S (liveE S.env ent)) = nm at h
  generalize hBB : boxesOf S (liveE S.env ent) = B at h
  clear hnm hBB
  cases hc : canE S nm B (liveE S.env ent) with
  | mk e os0 =>
    rw [hc] at h
    cases hcb : canB S nm B B with
    | none => rw [hcb] at h; cases h
    | some osb =>
    rw [hcb] at h
    obtain ⟨hn, h⟩ := cond_some h
    cases h
    obtain ⟨g10, g2⟩ := canE_good hc
    obtain ⟨gb1, gb2⟩ := canB_good hcb
    have g1 : ∀ x, x ∈ os0 ++ osb → GoodE S nm B (os0 ++ osb) x := fun x hx => by
      rcases List.mem_append.1 hx with hx | hx
      · exact (g10 x hx).mono fun y hy => by simp [hy]
      · exact (gb1 x hx).mono fun y hy => by simp [hy]
    have hall : ∀ y, y ∈ os0 ++ osb → y ∈ onceO (os0 ++ osb) [] := fun y hy => once_all g1 hy
    have ho : ∀ {n n' i : Nat} {ob ob' : Ob C}, (n, some i, ob) ∈ onceO (os0 ++ osb) [] → (n', some i, ob') ∈ onceO (os0 ++ osb) [] → n = n' ∧ ob = ob' := fun h h' => once_old h h'
    have g1 : ∀ x, x ∈ onceO (os0 ++ osb) [] → GoodE S nm B (onceO (os0 ++ osb) []) x := fun x hx => (g1 x (once_mem hx)).mono hall
    have hB : ∀ id, id ∈ B → ∃ ob', (id, some id, ob') ∈ onceO (os0 ++ osb) [] := fun id hi => by
      obtain ⟨ls', hm⟩ := gb2 id hi
      exact ⟨ls', hall _ (by simp [hm])⟩
    have g2 : ∀ t v', lk e t = some v' → ∃ v os', (t, v) ∈ liveE S.env ent ∧ canV S nm B t v = some (v', os') ∧ ∀ y, y ∈ os' → y ∈ onceO (os0 ++ osb) [] := fun t v' ht => by
      obtain ⟨v, os', h1, h2, h3⟩ := g2 t v' ht
      exact ⟨v, os', h1, h2, fun y hy => hall y (by simp [h3 y hy])⟩
    generalize onceO (os0 ++ osb) [] = os at *
    -- what an entry's footprint is
    have fpE : ∀ {n ob k}, lk (obsN os) n = some ob → nf fp os n k → ∃ id ob0, (n, some id, ob) ∈ os ∧ lk S.objs id = some ob0 ∧ fp id k := by
      intro n ob k hl hk
      obtain ⟨s, h1, h2⟩ := obs_mem hl
      simp only [nf, h2] at hk
      cases s with
      | none => exact hk.elim
      | some id =>
        rcases g1 _ h1 with ⟨n', t, e⟩ | ⟨n', id', t, xs, sh, e, _, hid⟩ | ⟨id', kd, ls, ls', os', e, hid, _⟩ | ⟨id', ob', e, hid, hlo⟩
        · cases e
        · cases e; exact ⟨_, _, h1, hid, hk⟩
        · cases e; exact ⟨_, _, h1, hid, hk⟩
        · cases e; exact ⟨_, _, h1, hid, hk⟩
    have hst : ∀ k, stbOf S.objs fp w k → stbOf (obsN os) (nf fp os) w k := by
      intro k hk
      refine ⟨hk.1, fun n ob hl hf => ?_⟩
      obtain ⟨id, ob0, _, h2, h3⟩ := fpE hl hf
      exact hk.2 id ob0 h2 h3
    refine ⟨nb β os, nf fp os, hs.below, hs.defers, hs.size, ?_, ?_, ?_, ?_⟩
    · intro n ob k hl hk
      obtain ⟨id, ob0, _, h2, h3⟩ := fpE hl hk
      exact hs.fresh id ob0 k h2 h3
    · intro n n' ob ob' k hl hl' hk hk'
      obtain ⟨id, ob0, m1, h2, h3⟩ := fpE hl hk
      obtain ⟨id', ob0', m1', h2', h3'⟩ := fpE hl' hk'
      have e := hs.disj id id' ob0 ob0' k h2 h2' h3 h3'
      subst e
      exact (ho m1 m1').1
    · intro n ob hl
      obtain ⟨s, h1, h2⟩ := obs_mem hl
      rcases g1 _ h1 with ⟨n', t, e⟩ | ⟨n', id, t, xs, sh, e, _, hid⟩ | ⟨id, kd, ls, ls', os', e, hid, hcan, hsub⟩ | ⟨id, ob', e, hid, hlo⟩
      · cases e
        have eb : nb β os n = .slice none 0 0 := by simp [nb, h2]
        have ef : ∀ k, ¬ nf fp os n k := fun k hk => by simp [nf, h2] at hk
        rw [eb]
        exact .row _ t [] _ [] (fun _ _ _ => False) (World.ownsRow_nil w w0.heap.size (K.tid t) (K.sz t)) (fun g hg => by simp [Value.ownBlock] at hg) (fun _ _ _ h => h.elim) (fun _ _ _ _ _ h => h.elim) (fun j hj => absurd hj (by simp))
      · cases e
        have eb : nb β os n = β id := by simp [nb, h2]
        have ef : nf fp os n = fp id := by funext k; simp [nf, h2]
        rw [eb, ef]
        exact (hs.objs id _ hid).tr (fun k hk => ⟨hst k hk, rfl⟩) (fun _ _ => rfl) (fun _ ls e => by cases e)
      · cases e
        have eb : nb β os n = β n := by simp [nb, h2]
        have ef : nf fp os n = fp n := by funext k; simp [nf, h2]
        rw [eb, ef]
        have hobj := hs.objs n _ hid
        cases kd with
        | mem =>
          obtain ⟨b, cs, e, q1, q2, q3, q4⟩ := hobj
          exact ⟨b, cs, e, q1, q2, q3, canLs_ok hn hB hst hcan hsub q4⟩
        | clo f m sh => obtain ⟨us, q1, q2, q3⟩ := hobj; exact ⟨us, q1, q2, canLs_ok hn hB hst hcan hsub q3⟩
        | ifc t sh => obtain ⟨us, q1, q2, q3⟩ := hobj; exact ⟨us, q1, q2, canLs_ok hn hB hst hcan hsub q3⟩
      · cases e
        have eb : nb β os n = β n := by simp [nb, h2]
        have ef : nf fp os n = fp n := by funext k; simp [nf, h2]
        rw [eb, ef]
        exact (hs.objs _ _ hid).tr (fun k hk => ⟨hst k hk, rfl⟩) (fun _ _ => rfl) (fun _ ls e => by subst e; cases hlo)
    · intro t v' ht
      rw [show ({ S with env := e ++ hdrE os (liveE S.env ent), objs := obsN os } : St C).env = e ++ hdrE os (liveE S.env ent) from rfl, lk_append] at ht
      have ht' : lk e t = some v' ∨ lk (hdrE os (liveE S.env ent)) t = some v' := by
        cases e1 : lk e t with
        | some x => rw [e1] at ht; exact .inl ht
        | none => rw [e1] at ht; exact .inr ht
      clear ht
      rcases ht' with ht | ht
      case inr =>
        obtain ⟨id, j, n, h1, h2, h3⟩ := hdrE_lk ht
        subst h3
        obtain ⟨ob, hm⟩ := newOf_mem h2
        have hval : β id = K.hd j := hs.env t _ (mem_liveE h1)
        show nb β os n = K.hd j
        simp [nb, (src_mem hm hn).1, hval]
      obtain ⟨v, os', hE, hv, hsub⟩ := g2 t v' ht
      have hval := hs.env t v (mem_liveE hE)
      unfold canV at hv
      split at hv
      · split at hv
        · rename_i l' os1 hc1
          cases hv
          exact canL_ok hn hB hst hc1 hsub hval
        · cases hv
      · split at hv
        · rename_i l' os1 hc1
          cases hv
          obtain ⟨vs, e, hl⟩ := hval
          exact ⟨vs, e, canLs_ok hn hB hst hc1 hsub hl⟩
        · cases hv
      · rename_i b ls j
        split at hv
        · rename_i l' os1 hc1
          cases hv
          cases b with
          | false =>
            obtain ⟨l, h1, h2⟩ := hval
            have h1 : ls = [l] := h1
            subst h1
            have := canLs_ok (objs' := obsN os) (stb' := stbOf (obsN os) (nf fp os) w) (vs := [K.hd j]) hn hB hst hc1 hsub ⟨rfl, fun i l' hi => by cases i with | zero => simp at hi; subst hi; exact h2 | succ i => simp at hi⟩
            have hlen := canLs_len (n := 0) hc1
            obtain ⟨l2, rfl⟩ := List.length_eq_one_iff.1 hlen
            exact ⟨l2, rfl, this.2 0 l2 rfl⟩
          | true =>
            obtain ⟨vs, e, hl⟩ := hval
            exact ⟨vs, e, canLs_ok hn hB hst hc1 hsub hl⟩
        · cases hv
      · cases hv
        exact fun k hk => ⟨hst k (hval k hk).1, (hval k hk).2⟩
      · cases hv
end
end Go.Proofs.Ytkiognopoigbhaa.Ab
